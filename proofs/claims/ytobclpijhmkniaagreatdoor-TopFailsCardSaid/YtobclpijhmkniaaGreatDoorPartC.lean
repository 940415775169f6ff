/- What functions of the program come to, part 3; the texts are made small to keep within a claim. -/
import Derived.RangeFuncKeeps
import Derived.RangeFuncLeaves
import Derived.RangeFuncFrom
import Derived.Shelf.Abstract
import Derived.WalkKit
import Derived.OwnWalkIn
import Derived.TacticsInMore
import Derived.LoopNIn
import Derived.LoopIn
import Derived.Stop.RegionWithIn
import Derived.Laws.StructEq
import Derived.Test.YtobclpijhmkniaaGreatDoorPartB
set_option linter.unusedVariables false
set_option linter.unusedSimpArgs false
set_option linter.unusedSectionVars false
namespace Go.Dav
open Go.Proofs
theorem Ev:mf Tryz.prog 190 3 324 (.pointer none):=⟨by kernel_rfl,by kernel_rfl,by kernel_rfl,by kernel_rfl⟩
abbrev Th:=Int×BV×Int×Bool×Bool×Int
def pA (t:Th):List Value:=[I t.1,.int .u64 (mi t.2.1),I t.2.2.1,.bool t.2.2.2.1,.bool t.2.2.2.2.1,I t.2.2.2.2.2]
abbrev TQ:=List (Option (Nat×Th))
abbrev TL:=List (Option Th)
def nf:Ob (Option (Nat×Th)):=fun w F x=>match x with
 | none=>∀i,¬F i
 | some q=>Rw q.1 250 pA w F q.2
instance Frame.op:Frame nf where
 ae:=by
  rintro w w' F G (_|q) h k hG
  ·exact h
  ·exact(Frame.rw ..).ae h k hG
 lt:=by
  rintro w F (_|q) h
  ·exact fun i hi=>absurd hi (h i)
  ·exact(Frame.rw ..).lt h
def gO (qs:TQ) (id:Int):Option Nat:=if 1<=id then(qs.getD (id.toNat-1) none).map Prod.fst else none
def aB (S:TL) (id:Int):Option Th:=if 1<=id then S.getD (id.toNat-1) none else none
def Ba (b2 b3:Nat) (c:Int):List Value:=[pt b2,I c,.map (some b3)]
def fP (b:Nat):Value:=pt b
abbrev TR:=(List Bool×((Int->Option Nat)×Nat))×(Int×TQ)
def fN (b b2 b3:Nat):Ob TR:=au (au (b8 b2) (aS b3 fP)) (au (Rw b 192 (Ba b2 b3)) (Fam nf))
instance Frame.Bb (b b2 b3:Nat):Frame (fN b b2 b3):=by unfold fN;infer_instance
structure eh (x:TR) (S:TL):Prop where
 o:x.1.1=x.2.2.map Option.isSome
 s:x.2.2.map (Option.map Prod.snd)=S
 g:∀id,x.1.2.1 id=gO x.2.2 id
 len:x.2.2.length=32
def cY (b:Nat):Ob (Int×TL):=fun w F x=>∃b2 b3 y,fN b b2 b3 w F y/\y.2.1=x.1/\eh y x.2
instance Frame.uq (b:Nat):Frame (cY b) where
 ae:=fun⟨b2,b3,y,h,r⟩ k hG=>⟨b2,b3,y,(Frame.Bb b b2 b3).ae h k hG,r⟩
 lt:=fun⟨b2,b3,y,h,_⟩=>(Frame.Bb b b2 b3).lt h
theorem aa.uq {b b2 b3:Nat} {w w':World} {F:Fp} {y:TR} {S:TL} (h:aa (fN b b2 b3) w w' F y) (k:eh y S):aa (cY b) w w' F (y.2.1,S):=by
 obtain⟨F',h1,h2⟩:=h;exact⟨F',⟨b2,b3,y,h1,rfl,k⟩,h2⟩
section
variable {b b2 b3:Nat} {w:World} {F:Fp} {y:TR}
theorem fN.slot (h:fN b b2 b3 w F y):∃F1,b8 b2 w F1 y.1.1/\∀w' o',aa (b8 b2) w w' F1 o'->aa (fN b b2 b3) w w' F ((o',y.1.2),y.2):=by
 unfold fN at h⊢;obtain⟨F1,h1,k1⟩:=h.left;obtain⟨F2,h2,k2⟩:=h1.left;exact⟨F2,h2,fun w' o' hT=>k1 _ _ (k2 _ _ hT)⟩
theorem fN.mp (h:fN b b2 b3 w F y):∃F1,aS b3 fP w F1 y.1.2/\∀w' g',aa (aS b3 fP) w w' F1 g'->aa (fN b b2 b3) w w' F ((y.1.1,g'),y.2):=by
 unfold fN at h⊢;obtain⟨F1,h1,k1⟩:=h.left;obtain⟨F2,h2,k2⟩:=h1.right;exact⟨F2,h2,fun w' o' hT=>k1 _ _ (k2 _ _ hT)⟩
theorem fN.ai (h:fN b b2 b3 w F y):aE w b (Ba b2 b3 y.2.1) 192:=by
 unfold fN at h;obtain⟨F1,h1,k1⟩:=h.right;obtain⟨F2,h2,k2⟩:=h1.left;exact h2.ai
theorem fN.jx (h:fN b b2 b3 w F y):∃F1,Fam nf w F1 y.2.2/\∀w' q',aa (Fam nf) w w' F1 q'->aa (fN b b2 b3) w w' F (y.1,(y.2.1,q')):=by
 unfold fN at h⊢;obtain⟨F1,h1,k1⟩:=h.right;obtain⟨F2,h2,k2⟩:=h1.right;exact⟨F2,h2,fun w' o' hT=>k1 _ _ (k2 _ _ hT)⟩
end
theorem DN {qs:TQ} {i:Nat} (hi:i<qs.length) (v:Option (Nat×Th)) (id:Int):gO (qs.set i v) id=if id=(i:Int)+1 then v.map Prod.fst else gO qs id:=by
 unfold gO;by_cases h1:1<=id
 ·rw[if_pos h1,if_pos h1];by_cases hid:id=(i:Int)+1
  ·subst hid;have e1:((i:Int)+1).toNat-1=i:=by omega
   rw[if_pos rfl,e1];simp[List.getD_eq_getElem?_getD,hi]
  ·rw[if_neg hid];have:i≠id.toNat-1:=by omega
   simp[List.getD_eq_getElem?_getD,this]
 ·rw[if_neg h1,if_neg h1,if_neg (by omega)]
section
variable {o:List Bool} {g:(Int->Option Nat)×Nat} {c:Int} {qs:TQ} {S:TL}
theorem eh.at (h:eh ((o,g),(c,qs)) S) {i:Nat} (hi:i<qs.length):S[i]?=some ((qs[i]).map Prod.snd):=by
 have:=h.s;simp only at this;rw[<-this,List.getElem?_map,List.getElem?_eq_getElem hi];rfl
theorem eh.Fw (h:eh ((o,g),(c,qs)) S):S.length=32:=by have:=h.s;have:=h.len;simp only at *;rw[<-h.s];simpa using this
theorem eh.sat (h:eh ((o,g),(c,qs)) S) (id:Int):(∃i,∃hi:i<qs.length,id=(i:Int)+1/\aB S id=qs[i].map Prod.snd/\gO qs id=qs[i].map Prod.fst)∨(aB S id=none/\gO qs id=none/\bL o id=false):=by
 have hl:=h.len;have hs:=h.Fw;simp only at hl;by_cases h1:1<=id/\id<=32
 ·refine .inl ⟨id.toNat-1,by omega,by omega,?_,?_⟩
  ·have:=h.at (i:=id.toNat-1) (by omega);rw[aB,if_pos h1.1,List.getD_eq_getElem?_getD,this];rfl
  ·rw[gO,if_pos h1.1,List.getD_eq_getElem?_getD,List.getElem?_eq_getElem (by omega)];rfl
 ·refine .inr ⟨?_,?_,?_⟩
  ·unfold aB;split
   ·rw[List.getD_eq_getElem?_getD,List.getElem?_eq_none (by omega)];rfl
   ·rfl
  ·unfold gO;split
   ·rw[List.getD_eq_getElem?_getD,List.getElem?_eq_none (by omega)];rfl
   ·rfl
  ·have ho:=h.o;simp only at ho;have:o.length=32:=by rw[ho];simpa using hl
   cases hh:bL o id with
   | false=>rfl
   | true=>have:=nC hh;omega
theorem eh.has (h:eh ((o,g),(c,qs)) S) {i:Nat} (hi:i<qs.length):bL o ((i:Int)+1)=qs[i].isSome:=by
 have ho:=h.o;simp only at ho;rw[mz,ho,List.getD_eq_getElem?_getD,List.getElem?_map,List.getElem?_eq_getElem hi];rfl
theorem map_set {α β:Type} (f:α->β) (l:List α) (i:Nat) (a:α):(l.set i a).map f=(l.map f).set i (f a):=List.map_set
theorem eh.put (h:eh ((o,g),(c,qs)) S) {i:Nat} (hi:i<qs.length) (q:Nat×Th):eh ((o.set i true,dp g ((i:Int)+1) q.1),(c,qs.set i (some q))) (S.set i (some q.2)):=by
 have ho:=h.o;have hs:=h.s;simp only at ho hs;refine⟨by simp only[map_set,ho];rfl,by simp only[map_set,hs];rfl,fun id=>?_,by simpa using h.len⟩;simp only[dp];rw[DN hi];split
 ·rfl
 ·exact h.g id
theorem eh.del (h:eh ((o,g),(c,qs)) S) {i:Nat} (hi:i<qs.length):eh ((o.set i false,eX g ((i:Int)+1)),(c,qs.set i none)) (S.set i none):=by
 have ho:=h.o;have hs:=h.s;simp only at ho hs;refine⟨by simp only[map_set,ho];rfl,by simp only[map_set,hs];rfl,fun id=>?_,by simpa using h.len⟩;simp only[eX];rw[DN hi];split
 ·rfl
 ·exact h.g id
theorem eh.ae (h:eh ((o,g),(c,qs)) S) {i:Nat} (hi:i<qs.length) {q:Nat×Th} (hq:qs[i]=some q) (t:Th):eh ((o,g),(c,qs.set i (some (q.1,t)))) (S.set i (some t)):=by
 have ho:=h.o;have hs:=h.s;simp only at ho hs;refine⟨?_,by simp only[map_set,hs];rfl,fun id=>?_,by simpa using h.len⟩
 ·simp only[map_set,ho];apply List.ext_getElem?;intro j;rw[List.getElem?_set];by_cases hj:i=j
  ·subst hj;simp[hi,hq]
  ·simp[hj]
 ·simp only;rw[DN hi,h.g id];simp only;split
  ·rename_i e;subst e;rw[gO,if_pos (by omega)];have e1:((i:Int)+1).toNat-1=i:=by omega
   rw[e1,List.getD_eq_getElem?_getD,List.getElem?_eq_getElem hi,hq];rfl
  ·rfl
end
abbrev TX:=Int×TL
def gU (S:TL):List Bool:=S.map Option.isSome
def lW (x:TX) (p:Int) (m:BV):Prop:=0<=p/\p<8/\jF x.1 m=true
instance (x:TX) (p:Int) (m:BV):Decidable (lW x p m):=by unfold lW;infer_instance
def cP (x:TX) (p:Int) (m:BV):Int×Int:=if lW x p m then cQ (gU x.2)else(0,2)
def gY (x:TX) (p:Int) (m:BV):TX:=if lW x p m/\(cQ (gU x.2)).2=0 then(x.1,x.2.set ((cQ (gU x.2)).1.toNat-1) (some (p,m,0,false,false,0)))else x
def s7 (x:TX) (id:Int):Int:=match aB x.2 id with|some _=>0|none=>4
def iN (x:TX) (id:Int):TX:=match aB x.2 id with|some _=>(x.1,x.2.set (id.toNat-1) none)|none=>x
def fQ (x:TX) (id:Int):Th×Int:=match aB x.2 id with|some t=>(t,0)|none=>((0,0,0,false,false,0),4)
def kr (x:TX) (id:Int) (m:BV):Int:=match aB x.2 id with|some _=>if jF x.1 m then 0 else 2|none=>4
def ik (x:TX) (id:Int) (m:BV):TX:=match aB x.2 id with|some t=>if jF x.1 m then(x.1,x.2.set (id.toNat-1) (some (t.1,m,t.2.2)))else x|none=>x
def EI (x:TX) (id c:Int):Int:=match aB x.2 id with|some _=>if 0<=c/\c<x.1 then 0 else 3|none=>4
def iv (x:TX) (id c:Int) (f:Bool):TX:=match aB x.2 id with|some t=>if 0<=c/\c<x.1 then(x.1,x.2.set (id.toNat-1) (some (t.1,t.2.1,c,f,t.2.2.2.2)))else x|none=>x
def ui (x:TX) (id:Int):Int:=match aB x.2 id with|some t=>if t.2.2.2.2.1 then 6 else 0|none=>4
def lh (x:TX) (id n:Int):TX:=match aB x.2 id with|some t=>if t.2.2.2.2.1 then x else(x.1,x.2.set (id.toNat-1) (some (t.1,t.2.1,t.2.2.1,t.2.2.2.1,true,n)))|none=>x
def Bo (x:TX) (id:Int):Int×Int:=match aB x.2 id with|some t=>if t.2.2.2.2.1 then(t.2.2.2.2.2,0)else(0,6)|none=>(0,4)
def iD (x:TX) (id:Int):TX:=match aB x.2 id with|some t=>if t.2.2.2.2.1 then(x.1,x.2.set (id.toNat-1) (some (t.1,t.2.1,t.2.2.1,t.2.2.2.1,false,0)))else x|none=>x
def gB (x:TX):List Int:=kZ (gU x.2) x.2.length
section
variable {b:Nat} {w:World} {F:Fp} {x:TX}
theorem aaO {qs:TQ} {G:Fp} (h:Fam nf w G qs) {i:Nat} (hi:i<qs.length):aa (Fam nf) w w G (qs.set i none):=by
 obtain⟨F1,h1,_,k⟩:=Fam.at h hi;exact k w none ⟨fun _=>False,fun _ h=>h,af.refl _ _,fun _ h=>h.elim⟩
theorem aaN {qs:TQ} {G:Fp} (h:Fam nf w G qs) {i:Nat} (hi:i<qs.length) {w':World} {t:Th} (hN:cH w w' (.cells (pA t).toArray 250 (0,0))):aa (Fam nf) w w' G (qs.set i (some (w.heap.size,t))):=by
 obtain⟨F1,h1,_,k⟩:=Fam.at h hi;exact k w' (some (w.heap.size,t)) ⟨fun i=>i=w.heap.size,Rw.new hN rfl,(hN.ae no).nn,fun i hi=>.inr (Nat.le_of_eq hi.symm)⟩
structure Found (b:Nat) (w:World) (F:Fp) (x:TX) (i:Nat) (t:Th) (bi:Nat) (Fi:Fp):Prop where
 rw:Rw bi 250 pA w Fi t
 bI:∀w' t',aa (Rw bi 250 pA) w w' Fi t'->aa (cY b) w w' F (x.1,x.2.set i (some t'))
theorem ta (h:cY b w F x) (id:Int):Cx 236 #[pt b,I id] w fun e w'=>w'=w/\
  ((aB x.2 id=none/\e=Z (.tuple #[.pointer none,I 4]))∨∃(i:Nat) (t:Th) (bi:Nat) (Fi:Fp),id=(i:Int)+1/\aB x.2 id=some t/\e=Z (.tuple #[pt bi,I 0])/\Found b w F x i t bi Fi):=by
 obtain⟨b2,b3,⟨⟨o,g⟩,c,qs⟩,h,hc,hI⟩:=h;obtain⟨x1,S⟩:=x;simp only at hc hI⊢;subst hc;refine akg ?_;rw[t236];obtain⟨F1,hm,_⟩:=h.mp;have hr:=iz Ev hm id true;have hg:=hI.g id;simp only at hg hr;rw[hg]at hr;refine⟨fun g=>by simp at g,fun _=>⟨_,rfl,_,h.ai.cell rfl,?_⟩⟩;rcases hI.sat id with⟨i,hi,rfl,k1,k2⟩|⟨k1,k2,_⟩
 ·cases hq:qs[i]with
  | none=>
   rw[hq]at k1 k2;rw[k2]at hr
   exact⟨_,_,hr,fun _=>⟨rfl,.inl ⟨k1,rfl⟩⟩,fun g=>by simp at g⟩
  | some q=>
   obtain⟨bi,t⟩:=q;rw[hq]at k1 k2;rw[k2]at hr;obtain⟨G,hf,kf⟩:=h.jx;obtain⟨Fi,h1,_,k⟩:=Fam.at hf (i:=i) hi;simp only at h1 kf;rw[hq]at h1;refine⟨_,_,hr,fun g=>by simp at g,fun _=>⟨rfl,.inr ⟨i,t,bi,Fi,rfl,k1,rfl,h1,fun w' t' hT=>?_⟩⟩⟩;have:=kf _ _ (k w' (some (bi,t')) hT);exact aa.uq this (hI.ae hi hq t')
 ·rw[k2]at hr;exact⟨_,_,hr,fun _=>⟨rfl,.inl ⟨k1,rfl⟩⟩,fun g=>by simp at g⟩
theorem cY.ai (h:cY b w F x):∃b2 b3,aE w b (Ba b2 b3 x.1) 192:=by
 obtain⟨b2,b3,y,h,hc,hI⟩:=h;refine⟨b2,b3,?_⟩;rw[<-hc];exact h.ai
theorem Xr (h:cY b w F x) (m:BV):Cx 232 #[pt b,.int .u64 (mi m)] w fun e w'=>e=Z (.bool (jF x.1 m))/\w'=w:=by
 obtain⟨b2,b3,hB⟩:=h.ai;refine akc ?_;rw[t232,rD];refine⟨fun g=>⟨_,rfl,_,hB.cell rfl,⟨(tI x.1 w).mono ?_⟩⟩,fun g=>⟨by rw[jF,g,Bool.false_and],rfl⟩⟩;rintro e w1 ⟨rfl,rfl⟩;refine⟨_,rfl,⟨(Vf m _ w1).mono ?_⟩⟩;rintro e w2 ⟨rfl,rfl⟩;exact⟨_,rfl,by rw[jF,g,Bool.true_and],rfl⟩
theorem rN {bi:Nat} {Fi:Fp} {t t':Th} (h:Rw bi 250 pA w Fi t) {k:Nat} {v:Value} (hk:k<6) (ht:aI (pA t) k [v]=pA t') {K:World->Prop} (hK:∀w',aa (Rw bi 250 pA) w w' Fi t'->K w'):Wr w ((⟨bi,0,none⟩:Addr).add k) [v] K:=
 h.ai.wr (by simp[pA];omega) fun w' hW=>hK w' (h.dZ (s':=t') hW.U (by rw[<-ht];exact hW.aF))
theorem Yf (h:cY b w F x) (n:Int) (m:BV):Cx 129 #[pt b,I n,.int .u64 (mi m)] w fun e w'=>e=Z (I (kr x n m))/\aa (cY b) w w' F (ik x n m):=by
 refine aiM ?_;rw[t129];refine⟨(ta h n).mono ?_⟩;rintro e w1 ⟨rfl,⟨k1,rfl⟩|⟨i,t,bi,Fi,rfl,k1,rfl,hF⟩⟩
 ·simp only[kr,ik,k1];exact⟨_,_,rfl,fun _=>⟨rfl,aa.same h⟩,fun g=>by simp at g⟩
 ·simp only[kr,ik,k1];refine⟨_,_,rfl,fun g=>by simp at g,fun _=>⟨(Xr h m).mono ?_⟩⟩;rintro e w2 ⟨rfl,rfl⟩;refine⟨_,rfl,fun g=>?_,fun g=>?_⟩
  ·have g:jF x.1 m=false:=by simpa using g
   simp only[g];exact⟨rfl,aa.same h⟩
  ·have g:jF x.1 m=true:=by simpa using g
   simp only[g];refine⟨_,rfl,rN hF.rw (t':=(t.1,m,t.2.2)) (by omega) rfl fun w' hT=>⟨rfl,?_⟩⟩;have:=hF.bI _ _ hT;have e1:((i:Int)+1).toNat-1=i:=by omega
   rw[e1];exact this
theorem Wa (h:cY b w F x) (n c:Int) (f:Bool):Cx 234 #[pt b,I n,I c,.bool f] w fun e w'=>e=Z (I (EI x n c))/\aa (cY b) w w' F (iv x n c f):=by
 refine ake ?_;rw[t234];obtain⟨b2,b3,hB⟩:=h.ai;refine⟨(ta h n).mono ?_⟩;rintro e w1 ⟨rfl,⟨k1,rfl⟩|⟨i,t,bi,Fi,rfl,k1,rfl,hF⟩⟩
 ·simp only[EI,iv,k1];exact⟨_,_,rfl,fun _=>⟨rfl,aa.same h⟩,fun g=>by simp at g⟩
 ·simp only[EI,iv,k1];refine⟨_,_,rfl,fun g=>by simp at g,fun _=>⟨fun g=>⟨_,rfl,_,hB.cell rfl,fun g2=>?_,fun g2=>?_⟩,fun g=>?_⟩⟩
  ·rw[if_neg (by simp at g g2;omega),if_neg (by simp at g g2;omega)];exact⟨rfl,aa.same h⟩
  ·rw[if_pos (by simp at g g2;omega),if_pos (by simp at g g2;omega)];refine⟨_,rfl,rN hF.rw (t':=(t.1,t.2.1,c,t.2.2.2)) (by omega) rfl fun w2 hT=>?_⟩;obtain⟨F1,q1,q2,q3⟩:=hT;refine⟨_,rfl,rN q1 (t':=(t.1,t.2.1,c,f,t.2.2.2.2)) (by omega) rfl fun w3 hT3=>⟨rfl,?_⟩⟩;have:=hF.bI _ _ (aa.next q1 q2 q3 hT3);have e1:((i:Int)+1).toNat-1=i:=by omega
   rw[e1];exact this
  ·rw[if_neg (by simp at g;omega),if_neg (by simp at g;omega)];exact⟨rfl,aa.same h⟩
theorem afY (h:cY b w F x) (n c:Int):Cx 241 #[pt b,I n,I c] w fun e w'=>e=Z (I (ui x n))/\aa (cY b) w w' F (lh x n c):=by
 refine akl ?_;rw[t241];refine⟨(ta h n).mono ?_⟩;rintro e w1 ⟨rfl,⟨k1,rfl⟩|⟨i,t,bi,Fi,rfl,k1,rfl,hF⟩⟩
 ·simp only[ui,lh,k1];exact⟨_,_,rfl,fun _=>⟨rfl,aa.same h⟩,fun g=>by simp at g⟩
 ·simp only[ui,lh,k1];refine⟨_,_,rfl,fun g=>by simp at g,fun _=>⟨_,rfl,_,hF.rw.ai.cell rfl,fun g=>?_,fun g=>?_⟩⟩
  ·rw[if_pos g,if_pos g];exact⟨rfl,aa.same h⟩
  ·rw[if_neg (by rw[g];simp),if_neg (by rw[g];simp)];refine⟨_,rfl,rN hF.rw (t':=(t.1,t.2.1,t.2.2.1,t.2.2.2.1,true,t.2.2.2.2.2)) (by omega) rfl fun w2 hT=>?_⟩;obtain⟨F1,q1,q2,q3⟩:=hT;refine⟨_,rfl,rN q1 (t':=(t.1,t.2.1,t.2.2.1,t.2.2.2.1,true,c)) (by omega) rfl fun w3 hT3=>⟨rfl,?_⟩⟩;have:=hF.bI _ _ (aa.next q1 q2 q3 hT3);have e1:((i:Int)+1).toNat-1=i:=by omega
   rw[e1];exact this
theorem amG (h:cY b w F x) (n:Int):Cx 245 #[pt b,I n] w fun e w'=>e=Z (.tuple #[I (Bo x n).1,I (Bo x n).2])/\aa (cY b) w w' F (iD x n):=by
 refine akp ?_;rw[t245];refine⟨(ta h n).mono ?_⟩;rintro e w1 ⟨rfl,⟨k1,rfl⟩|⟨i,t,bi,Fi,rfl,k1,rfl,hF⟩⟩
 ·simp only[Bo,iD,k1];exact⟨_,_,rfl,fun _=>⟨rfl,aa.same h⟩,fun g=>by simp at g⟩
 ·simp only[Bo,iD,k1];refine⟨_,_,rfl,fun g=>by simp at g,fun _=>⟨_,rfl,_,hF.rw.ai.cell rfl,fun g=>?_,fun g=>?_⟩⟩
  ·have g:t.2.2.2.2.1=false:=by simpa using g
   rw[if_neg (by rw[g];simp),if_neg (by rw[g];simp)];exact⟨rfl,aa.same h⟩
  ·have g:t.2.2.2.2.1=true:=by simpa using g
   rw[if_pos g,if_pos g];refine⟨_,rfl,_,hF.rw.ai.cell rfl,_,rfl,rN hF.rw (t':=(t.1,t.2.1,t.2.2.1,t.2.2.2.1,false,t.2.2.2.2.2)) (by omega) rfl fun w2 hT=>?_⟩;obtain⟨F1,q1,q2,q3⟩:=hT;refine⟨_,rfl,rN q1 (t':=(t.1,t.2.1,t.2.2.1,t.2.2.2.1,false,0)) (by omega) rfl fun w3 hT3=>⟨rfl,?_⟩⟩;have:=hF.bI _ _ (aa.next q1 q2 q3 hT3);have e1:((i:Int)+1).toNat-1=i:=by omega
   rw[e1];exact this
theorem te (h:cY b w F x) (n:Int):Cx 127 #[pt b,I n] w fun e w'=>e=Z (.tuple #[.agg #[I (fQ x n).1.1,.int .u64 (mi (fQ x n).1.2.1),I (fQ x n).1.2.2.1,.bool (fQ x n).1.2.2.2.1,.bool (fQ x n).1.2.2.2.2.1,I (fQ x n).1.2.2.2.2.2],I (fQ x n).2])/\af no w w':=by
 refine aiK ?_;rw[t127];refine⟨fun w1 hN=>?_⟩;have hU:=hN.ae no;have h1:cY b w1 F x:=(Frame.uq b).ae h hU (fun _ _ h=>h);refine⟨(ta h1 n).mono ?_⟩;have hW0:∀{w2 w3:World} {c:List Value},af no w w2->jk w2 w3 w.heap.size c 250->af no w w3:=fun hU hW=>hU.trans hW.U (fun i hi e=>absurd hi (by omega));rintro e w2 ⟨rfl,⟨k1,rfl⟩|⟨i,t,bi,Fi,rfl,k1,rfl,hF⟩⟩
 ·simp only[fQ,k1];refine⟨_,_,rfl,fun _=>?_,fun g=>by simp at g⟩;refine hN.aF.gF (by simp) fun w3 hW=>?_;have hB:=hW.aF;exact⟨_,hB.cell rfl,_,hB.cell rfl,_,hB.cell rfl,_,hB.cell rfl,_,hB.cell rfl,_,hB.cell rfl,rfl,hW0 hU hW⟩
 ·simp only[fQ,k1];have hA:=hF.rw.ai;refine⟨_,_,rfl,fun g=>by simp at g,fun _=>⟨_,rfl,_,hA.cell rfl,_,hA.cell rfl,_,hA.cell rfl,_,hA.cell rfl,_,hA.cell rfl,_,hA.cell rfl,?_⟩⟩;refine hN.aF.gF (by simp) fun w3 hW=>?_;have hB:=hW.aF;exact⟨_,hB.cell rfl,_,hB.cell rfl,_,hB.cell rfl,_,hB.cell rfl,_,hB.cell rfl,_,hB.cell rfl,rfl,hW0 hU hW⟩
theorem ahX (h:cY b w F x):Cx 181 #[pt b] w fun e w'=>∃p c,e=Z (.slice p (gB x).length c)/\Loc w w' 3 p c (gB x):=by
 obtain⟨b2,b3,⟨⟨o,g⟩,c,qs⟩,h,hc,hI⟩:=h;refine ajx ?_;rw[t181];obtain⟨F1,hs,_⟩:=h.slot
 have ho:o=gU x.2:=by
  have h1:=hI.o;have h2:=hI.s;simp only at h1 h2;rw[h1,<-h2,gU,List.map_map];congr 1;funext v;cases v<;>rfl
 have hl:=hI.Fw;have hol:o.length=x.2.length:=by rw[ho];simp[gU]
 simp only at hs;have hk:=afV hs;rw[hol]at hk;rw[ho]at hk;refine⟨fun g=>by simp at g,fun _=>⟨_,rfl,_,by rw[vf];exact h.ai.cell rfl,⟨hk.mono ?_⟩⟩⟩;rintro e w1 ⟨p,c,rfl,hL⟩;exact⟨_,_,_,rfl,p,c,rfl,hL⟩
theorem eh.ok {o:List Bool} {g:(Int->Option Nat)×Nat} {c:Int} {qs:TQ} {S:TL} (hI:eh ((o,g),(c,qs)) S):o=gU S:=by
 have h1:=hI.o;have h2:=hI.s;simp only at h1 h2;rw[h1,<-h2,gU,List.map_map];congr 1;funext v;cases v<;>rfl
theorem aga (h:cY b w F x) (hTab:Tab w) (p:Int) (m:BV):Cx 125 #[pt b,I p,.int .u64 (mi m)] w fun e w'=>e=Z (.tuple #[I (cP x p m).1,I (cP x p m).2])/\aa (cY b) w w' F (gY x p m):=by
 refine aiI ?_;rw[t125];refine⟨fun g=>by simp at g,fun _=>⟨fun g1=>⟨fun g2=>⟨(Xr h m).mono ?_⟩,fun g2=>?_⟩,fun g1=>?_⟩⟩
 ·rintro e w1 ⟨rfl,rfl⟩;refine⟨_,rfl,fun g=>?_,fun g=>?_⟩
  ·have hn:¬lW x p m:=fun h=>by simp[h.2.2]at g
   rw[cP,gY,if_neg hn,if_neg (fun h=>hn h.1)];exact⟨rfl,aa.same h⟩
  ·have hs:lW x p m:=⟨by simp at g1;omega,by simp at g2;omega,by simpa using g⟩;rw[cP,gY,if_pos hs];obtain⟨x1,S⟩:=x;obtain⟨b2,b3,⟨⟨o,gg⟩,c,qs⟩,hk,hc,hI⟩:=id h;simp only at hc hI⊢;subst hc;have ho:=hI.ok;have hl:=hI.len;have hsl:=hI.Fw;simp only at hl;obtain⟨F1,hsl1,ks⟩:=hk.slot;simp only at hsl1 ks;refine⟨_,rfl,_,by rw[vf];exact hk.ai.cell rfl,⟨(A3 hTab hsl1).mono ?_⟩⟩;rintro e w2 ⟨rfl,hT⟩;obtain⟨F2,q1,q2,q3⟩:=ks _ _ hT;rcases A9 o with⟨j,hj,t1,t2,t3⟩|⟨t1,t2⟩
   ·rw[if_pos (show lW (c,S) p m/\(cQ (gU S)).2=0 from⟨hs,by rw[<-ho,t1]⟩)];simp only[<-ho,t1,t2]at q1⊢;have hj':j<qs.length:=by rw[ho]at hj;simp[gU]at hj;omega
    refine⟨_,_,rfl,fun g=>by simp at g,fun _=>⟨_,rfl,_,q1.ai.cell rfl,⟨fun w3 hN=>?_⟩⟩⟩;obtain⟨G,hf,kf⟩:=q1.jx;simp only at hf kf;have hTf:=aaN hf hj' (t:=(p,m,0,false,false,0)) hN;obtain⟨F3,r1,r2,r3⟩:=kf _ _ hTf;obtain⟨F4,hm,km⟩:=r1.mp;simp only at hm km;obtain⟨w4,hr,hT4⟩:=mQ Ev hm ((j:Int)+1) w2.heap.size;have hfin:=km _ _ hT4;have e1:((j:Int)+1).toNat-1=j:=by omega
    simp only[e1];exact⟨w4,hr,by first|rfl|trivial,aa.uq (aa.next q1 q2 q3 (aa.next r1 r2 r3 hfin)) (hI.put hj' (w2.heap.size,(p,m,0,false,false,0)))⟩
   ·rw[if_neg (show ¬(lW (c,S) p m/\(cQ (gU S)).2=0)from fun h=>by have:=h.2;rw[<-ho,t1]at this;cases this)];simp only[<-ho,t1,t2]at q1⊢;exact⟨_,_,rfl,fun _=>⟨by first|rfl|trivial,aa.uq ⟨F2,q1,q2,q3⟩ hI⟩,fun g=>by simp at g⟩
 ·have hn:¬lW x p m:=fun h=>by have:=h.2.1;simp at g2;omega
  rw[cP,gY,if_neg hn,if_neg (fun h=>hn h.1)];exact⟨rfl,aa.same h⟩
 ·have hn:¬lW x p m:=fun h=>by have:=h.1;simp at g1;omega
  rw[cP,gY,if_neg hn,if_neg (fun h=>hn h.1)];exact⟨rfl,aa.same h⟩
theorem aaJ (h:cY b w F x) (n:Int):Cx 238 #[pt b,I n] w fun e w'=>e=Z (I (s7 x n))/\aa (cY b) w w' F (iN x n):=by
 refine aki ?_;rw[t238];refine⟨(ta h n).mono ?_⟩;rintro e w1 ⟨rfl,⟨k1,rfl⟩|⟨i,t,bi,Fi,rfl,k1,rfl,hF⟩⟩
 ·simp only[s7,iN,k1];exact⟨_,_,rfl,fun _=>⟨rfl,aa.same h⟩,fun g=>by simp at g⟩
 ·simp only[s7,iN,k1];clear hF;obtain⟨x1,S⟩:=x;obtain⟨b2,b3,⟨⟨o,gg⟩,c,qs⟩,h,hc,hI⟩:=h;simp only at hc hI k1⊢;subst hc;have hl:=hI.len;simp only at hl;rcases hI.sat ((i:Int)+1)with⟨i',hi,hii,s1,s2⟩|⟨s1,_,_⟩
  ·have:i'=i:=by omega
   subst this;rw[k1]at s1;have hsome:qs[i'].isSome=true:=by cases hq:qs[i']with|none=>rw[hq]at s1;cases s1|some q=>rfl
   have hhas:=hI.has hi;rw[hsome]at hhas;obtain⟨F1,hm,km⟩:=h.mp;obtain⟨w2,hr,hT⟩:=ph Ev hm ((i':Int)+1) 3 0;obtain⟨F2,q1,q2,q3⟩:=km _ _ hT;obtain⟨F3,hs,ks⟩:=q1.slot;simp only at hs ks;refine⟨_,_,rfl,fun g=>by simp at g,fun _=>⟨_,rfl,_,h.ai.cell rfl,w2,hr,_,rfl,_,by rw[vf];exact q1.ai.cell rfl,⟨(AZ hs _).mono ?_⟩⟩⟩;rintro e w3 ⟨rfl,hT3⟩;obtain⟨F4,r1,r2,r3⟩:=ks _ _ hT3;obtain⟨G,hf,kf⟩:=r1.jx;simp only at hf kf;have hfin:=kf _ _ (aaO hf hi);have e1:((i':Int)+1).toNat-1=i':=by omega
   have e2:jy o ((i':Int)+1)=o.set i' false:=by rw[jy,if_pos hhas,e1]
   rw[e2]at hfin r1;rw[e1];exact⟨_,rfl,by rw[oR,if_pos hhas],aa.uq (aa.next q1 q2 q3 (aa.next r1 r2 r3 hfin)) (hI.del hi)⟩
  ·rw[k1]at s1;cases s1
def Au (n:Int):Prop:=1<=n/\n<=64
def qg (n:Int):TX:=(n,List.replicate 32 none)
theorem eh.new (c:Int):eh ((List.replicate 32 false,(fun _=>none,0)),(c,List.replicate 32 none)) (List.replicate 32 none):=by
 refine⟨by simp,by simp,fun id=>?_,by simp⟩;simp only[gO];split
 ·rw[List.getD_eq_getElem?_getD,List.getElem?_replicate];split<;>rfl
 ·rfl
theorem ah2 (n:Int) (w:World):Cx 34 #[I n] w fun e w'=>
  (¬Au n/\e=Z (.tuple #[.pointer none,I 2])/\w'=w)∨
  (Au n/\∃b F,e=Z (.tuple #[pt b,I 0])/\cY b w' F (qg n)/\af no w w'/\∀i,F i->w.heap.size<=i):=by
 refine u34 ?_;rw[t34];refine⟨fun g1=>⟨fun g2=>.inl ⟨?_,rfl,rfl⟩,fun g2=>?_⟩,fun g1=>.inl ⟨?_,rfl,rfl⟩⟩
 ·unfold Au;simp at g2;omega
 ·have g1:¬n<1:=by simpa using g1
  have g2:¬64<n:=by simpa using g2
  refine⟨(A0 32 w).mono ?_⟩;rintro e w1 hh;obtain⟨_,b2,F1,rfl,hQ,hU,hF⟩:=hh.resolve_left (fun h=>absurd (by omega) h.1);have hM:bh w w1 (b8 b2) (List.replicate 32 false):=bh.new (af.refl _ _) hU hQ hF;clear hU hQ hF;refine⟨_,_,rfl,fun g=>by simp at g,fun _=>⟨fun w2 hN2=>⟨fun w3 hN=>?_⟩⟩⟩;replace hM:bh w w2 (au (b8 b2) (aS w1.heap.size fP)) (List.replicate 32 false,(fun _=>none,0)):=hM.add (hN2.ae no) (aS.new hN2) (fun i hi=>Nat.le_of_eq hi.symm);generalize w1.heap.size=b3 at hM hN⊢;have hX:(au (Rw w2.heap.size 192 (Ba b2 b3)) (Fam nf)) w3 (fun i=>i=w2.heap.size) (n,List.replicate 32 none):=⟨_,fun _=>False,Rw.new hN rfl,Fam.rep (A:=nf) (s:=none) (fun _ h=>h),fun i=>by simp,fun _ _ h=>h⟩;have hM3:bh w w3 (fN w2.heap.size b2 b3) ((List.replicate 32 false,(fun _=>none,0)),(n,List.replicate 32 none)):=hM.add (hN.ae no) hX (fun i hi=>Nat.le_of_eq hi.symm);obtain⟨F,hF1,hF2,hF3⟩:=hM3;exact .inr ⟨⟨by omega,by omega⟩,_,F,rfl,⟨b2,b3,_,hF1,rfl,eh.new n⟩,hF2,hF3⟩
 ·unfold Au;simp at g1;omega
end
end Go.Dav
namespace Go.Dav
open Go.Proofs
def nA (g:Ring) (p:Option Addr) (c:Nat):List Value:=[.slice p g.r.length c,I g.f,I g.m]
abbrev RO (b:Nat):Ob (Ring×Option Addr×Nat):=Hd b 295 3 1 nA (fun g=>g.r.length) (fun g=>g.r.map (Value.int .i64))
def cX (b:Nat):Ob (Nat×List Int):=fun w F x=>∃g y,RO b w F (g,y)/\g.ok/\g.r.length=x.1/\view g=x.2/\x.2.Nodup
instance Frame.fq (b:Nat):Frame (cX b) where
 ae:=fun⟨g,y,h,r⟩ k hG=>⟨g,y,(Frame.hd ..).ae h k hG,r⟩
 lt:=fun⟨_,_,h,_⟩=>(Frame.hd ..).lt h
def fy (x:Nat×List Int) (n:Int):Int:=if n∈x.2 then 6 else if x.2.length=x.1 then 5 else 0
def iy (x:Nat×List Int) (n:Int):Nat×List Int:=if fy x n=0 then(x.1,x.2++[n])else x
def bK (x:Nat×List Int):Int×Int:=match x.2 with
 | []=>(0,12)
 | a::_=>(a,0)
def EL (x:Nat×List Int):Nat×List Int:=(x.1,x.2.tail)
def oL (x:Nat×List Int) (n:Int):Int:=if n∈x.2 then 0 else 4
def CN (x:Nat×List Int) (n:Int):Nat×List Int:=(x.1,x.2.erase n)
def FX (x:Nat×List Int):Int:=(bK x).2
def FY (x:Nat×List Int):Nat×List Int:=match x.2 with
 | []=>x
 | a::l=>(x.1,l++[a])
section
variable {w:World} {F:Fp} {b:Nat} {x:Nat×List Int} {g:Ring} {y:Option Addr×Nat}
theorem cX.len (h:cX b w F x):x.2.length<=x.1/\x.1<=1024/\0<x.1:=by
 obtain⟨g,y,h1,h2,h3,h4,h5⟩:=h;rw[<-h3,<-h4,je];exact⟨h2.m,h2.le,h2.pos⟩
theorem Aq (n:Int) (w:World):Cx 110 #[I n] w fun e w'=>
  (¬(1<=n/\n<=1024)/\e=Z (.tuple #[.pointer none,I 2])/\w'=w)∨
  ((1<=n/\n<=1024)/\∃b F,e=Z (.tuple #[pt b,I 0])/\cX b w' F (n.toNat,[])/\af no w w'/\∀i,F i->w.heap.size<=i):=by
 refine ais ?_;rw[t110];refine⟨fun h1=>⟨fun h2=>.inl ⟨?_,rfl,rfl⟩,fun h2=>?_⟩,fun h1=>.inl ⟨?_,rfl,rfl⟩⟩
 ·simp at h2;omega
 ·have h1:¬n<1:=by simpa using h1
  have h2:¬1024<n:=by simpa using h2
  obtain⟨m,rfl⟩:∃m:Nat,n=m:=⟨n.toNat,by omega⟩;obtain⟨w1,hr,hN⟩:=Fe kz w (n:=m) (by omega) (by omega) .i64 .i64;refine⟨_,_,_,w1,hr,⟨fun w2 hN2=>.inr ⟨by omega,w1.heap.size,fun i=>i=w1.heap.size∨aL (some ⟨w.heap.size,0,none⟩) i,rfl,?_,(hN.ae no).and (hN2.ae no),?_⟩⟩⟩
  ·refine⟨⟨List.replicate m 0,0,0⟩,(some ⟨w.heap.size,0,none⟩,m),⟨?_,?_,?_,fun _=>Iff.rfl⟩,⟨?_,?_,?_,?_⟩,?_,amp m,List.nodup_nil⟩
   ·show aE w2 w1.heap.size (nA ⟨List.replicate m 0,0,0⟩ _ m) _;unfold nA;rw[List.length_replicate];exact hN2.aF
   ·simp only[List.length_replicate];exact(Sl.new hN (by simp) (by unfold maxLen;omega)).ae (hN2.ae no) (fun _ _ h=>h)
   ·rintro⟨a,ha,hb⟩;cases ha;have:=hN.size;simp only at hb;omega
   ·simp;omega
   ·simp;omega
   ·simp;omega
   ·simp
   ·simp
  ·rintro i (rfl|⟨a,ha,rfl⟩)
   ·have:=hN.size;omega
   ·cases ha;exact Nat.le_refl _
 ·simp at h1;omega
theorem BO (h:RO b w F (g,y)) (hk:g.ok) {k:Nat} (hm:k<=g.r.length):Cx 255 #[pt b,I k] w fun e w'=>e=Z (I (pl g.r.length g.f k:Nat))/\af no w w':=by
 refine akz ?_;rw[t255];intro w1 q1 q2 q3 q4;have hU:=af.same no q1 q2 q3 q4;have hB:=h.ai.ae hU id;have h1:=hk.f;have h2:=hk.le;refine⟨_,rfl,_,hB.cell rfl,_,rfl,_,_,_,hB.cell rfl,?_,?_,hU⟩
 ·simp only;omega
 ·simp only;rw[aD (by omega),<-aeH h1 hm,Int.tmod_eq_emod_of_nonneg (by omega)];simp
theorem Em (h:RO b w F (g,y)) (hk:g.ok):Cx 187 #[pt b] w fun e w'=>∃p c,e=Z (.slice p (view g).length c)/\Loc w w' 3 p c (view g):=by
 refine ajB ?_;rw[t187];refine⟨fun _=>⟨_,rfl,_,h.ai.cell rfl,fun h1=>?_,fun h1=>⟨_,rfl,_,h.ai.cell rfl,?_⟩⟩,fun h1=>by simp at h1⟩
 ·have h1:g.m=0:=by simpa using h1
  have hv:view g=[]:=List.eq_nil_of_length_eq_zero (by rw[je];exact h1);rw[hv];exact⟨none,0,rfl,Loc.nil (af.refl _ _) _⟩
 ·have hle:=hk.le;have hm:=hk.m;have hf:=hk.f;obtain⟨w1,hr,hN⟩:=Fe kz w (n:=g.m) (by omega) (by omega) .i64 .i64;refine⟨_,_,_,w1,hr,?_⟩;intro w2 q1 q2 q3 q4;have hU:=(hN.ae no).and (af.same no q1 q2 q3 q4);have hB:=h.ai.ae hU id;have hS0:Sl w1 3 1 (some ⟨w.heap.size,0,none⟩) g.m g.m ((List.replicate g.m (0:Int)).map (Value.int .i64)):=Sl.new hN (by simp) (by unfold maxLen;omega);have hS:=hS0.ae (af.same no q1 q2 q3 q4) (fun _ _ h=>h);have hR:=h.sl.ae hU (fun _ _ h=>h);have hD:=hR.R4 g.f (by simp only;omega);refine⟨_,rfl,_,_,_,hB.cell rfl,_,rfl,_,hB.cell rfl,⟨by omega,by simp only;omega⟩,?_⟩;obtain⟨w3,hr3,hS3,hU3⟩:=afr kz hS hD.cells (sn:=g.r.length-g.f) (sc:=y.2-g.f) (by simp) (fun u hu=>by obtain⟨v,_,rfl⟩:=List.mem_map.1 (List.mem_of_mem_drop hu);rfl) 3;refine⟨_,w3,hr3,?_⟩;intro w4 q1 q2 q3 q4;have hU4:=hU3.trans (af.same no q1 q2 q3 q4) (fun _ _ h=>h.elim)
  have hnew:∀i,i<w.heap.size->¬aL (some ⟨w.heap.size,0,none⟩) i:=by
   rintro i hi ⟨a,ha,rfl⟩;cases ha;exact Nat.lt_irrefl _ hi
  have hUw:af no w w4:=hU.trans hU4 (fun i hi hf=>absurd hf (hnew i hi));have hB4:=h.ai.ae hUw id;have hR4:=h.sl.ae hUw (fun _ _ h=>h);have hS4:=hS3.ae (af.same no q1 q2 q3 q4) (fun _ _ h=>h);refine⟨⟨by omega,by omega⟩,_,rfl,_,_,_,hB4.cell rfl,?_⟩;obtain⟨w5,hr5,hS5,hU5⟩:=afs kz hS4 hR4.cells (sn:=g.r.length) (sc:=y.2) (by simp) (by simp[Value.oneCell']) 3 (k:=min (g.r.length-g.f) g.m) (by omega);refine⟨_,w5,hr5,some ⟨w.heap.size,0,none⟩,g.m,by rw[je],hUw.trans hU5 (fun i hi hf=>absurd hf (hnew i hi)),?_,?_⟩
  ·rw[je];have:=afb hk (Value.int .i64);simp only[Nat.mul_one]at hS5;rw[this]at hS5;exact hS5
  ·rintro i ⟨a,ha,rfl⟩;cases ha;exact Nat.le_refl _
theorem ET (h:cX b w F x):Cx 187 #[pt b] w fun e w'=>∃p c,e=Z (.slice p x.2.length c)/\Cells w' p (x.2.map (Value.int .i64))/\af no w w':=by
 obtain⟨g,y,h1,h2,h3,h4,h5⟩:=h;refine(Em h1 h2).mono ?_;rintro e w' ⟨p,c,rfl,hL⟩;rw[h4]at hL⊢;exact⟨p,c,rfl,hL.S.cells,hL.U⟩
theorem aeY (h:cX b w F x):Cx 392 #[pt b] w fun e w'=>e=Z (I x.2.length)/\w'=w:=by
 obtain⟨g,y,h1,h2,h3,h4,h5⟩:=h;refine ame ?_;rw[t392];exact⟨fun h=>by simp at h,fun _=>⟨_,rfl,_,h1.ai.cell rfl,by rw[<-h4,je],rfl⟩⟩
theorem aeX (h:cX b w F x) (n:Int):Cx 254 #[pt b,I n] w fun e w'=>e=Z (.bool (decide (n∈x.2)))/\af no w w':=by
 have hl:=h.len;refine aky ?_;rw[t254];refine⟨(ET h).mono ?_⟩;rintro e w' ⟨p,c,rfl,hC,hU⟩;refine⟨_,_,_,rfl,⟨(Rz hC (by omega) n).mono ?_⟩⟩;rintro e w' ⟨rfl,rfl⟩;exact⟨_,rfl,rfl,hU⟩
theorem ES (h:cX b w F x):Cx 307 #[pt b] w fun e w'=>e=Z (.tuple #[I (bK x).1,I (bK x).2])/\af no w w':=by
 obtain⟨g,y,h1,h2,h3,h4,h5⟩:=h;obtain⟨xc,xl⟩:=x;simp only at h3 h4 h5;refine ak7 ?_;rw[t307];refine⟨fun h=>by simp at h,fun _=>⟨_,rfl,_,h1.ai.cell rfl,fun k1=>?_,fun k1=>?_⟩⟩
 ·have k1:g.m=0:=by simpa using k1
  have hv:xl=[]:=by rw[<-h4];exact List.eq_nil_of_length_eq_zero (by rw[je];exact k1)
  subst hv;exact⟨rfl,af.refl _ _⟩
 ·have k1:g.m≠0:=by simp at k1;omega
  intro w1 q1 q2 q3 q4;have hU:=af.same no q1 q2 q3 q4;have hB:=h1.ai.ae hU id;have hS:=h1.sl.ae hU (fun _ _ h=>h);have hf:=h2.f;obtain⟨a,ha,hc⟩:=hS.cells.bC (l:=g.r) (i:=g.f) hf;refine⟨_,rfl,_,_,_,hB.cell rfl,_,rfl,_,hB.cell rfl,⟨by omega,by simp only;omega⟩,a,ha,_,hc,?_,hU⟩
  cases xl with
  | nil=>rw[<-List.length_eq_zero_iff,je]at h4;omega
  | cons v l=>
   obtain⟨_,k2,_⟩:=XC h2 h4;show _=Ending.returned (.tuple #[I v,I 0]);rw[<-k2];simp[List.getD_eq_getElem?_getD,hf]
theorem tR (h:cX b w F x) (n:Int):Cx 151 #[pt b,I n] w fun e w'=>e=Z (I (fy x n))/\aa (cX b) w w' F (iy x n):=by
 refine ai9 ?_;rw[t151];refine⟨fun h=>by simp at h,fun _=>⟨(aeX h n).mono ?_⟩⟩;rintro e w1 ⟨rfl,hU1⟩;refine⟨_,rfl,fun k1=>?_,fun k1=>?_⟩
 ·have k1:n∈x.2:=by simpa using k1
  have e1:fy x n=6:=by simp[fy,k1]
  rw[iy,e1];exact⟨rfl,aa.quiet h hU1⟩
 ·have k1:n∉x.2:=by simpa using k1
  obtain⟨g,y,h1,h2,h3,h4,h5⟩:=id h;intro w2 q1 q2 q3 q4;have hU2:=hU1.and (af.same no q1 q2 q3 q4);have hB:=h1.ai.ae hU2 id;have hm:=h2.m;have hle:=h2.le;refine⟨_,rfl,_,hB.cell rfl,_,rfl,_,_,_,hB.cell rfl,fun k2=>?_,fun k2=>?_⟩
  ·have k2:g.m=g.r.length:=by simp at k2;omega
   have e1:fy x n=5:=by
    have:x.2.length=x.1:=by rw[<-h4,je,<-h3,k2]
    simp[fy,k1,this]
   rw[iy,e1];exact⟨rfl,aa.quiet h hU2⟩
  ·have k2:g.m<g.r.length:=by simp at k2;omega
   have e1:fy x n=0:=by
    have:x.2.length≠x.1:=by rw[<-h4,je,<-h3];omega
    simp[fy,k1,this]
   rw[iy,e1,if_pos rfl];intro w3 q1 q2 q3 q4;have hU3:=hU2.and (af.same no q1 q2 q3 q4);have hB3:=h1.ai.ae hU3 id;have hR3:RO b w3 F (g,y):=(Frame.hd ..).ae h1 hU3 (fun _ _ h=>h);refine⟨_,rfl,_,_,_,hB3.cell rfl,_,rfl,_,hB3.cell rfl,⟨(BO hR3 h2 h2.m).mono ?_⟩⟩;rintro e w4 ⟨rfl,hU4⟩;have hU5:=hU3.and hU4;have hB4:=h1.ai.ae hU5 id;have hR4:RO b w4 F (g,y):=(Frame.hd ..).ae h1 hU5 (fun _ _ h=>h);have hpl:=wL h2.f h2.m;have hS4:=hR4.sl;obtain⟨a,ha,_⟩:=hS4.cells.bC (l:=g.r) (i:=0) h2.pos;simp only at ha hS4;refine⟨_,rfl,hB4.cell rfl,⟨by omega,by simp only;omega⟩,a,ha,?_⟩;rw[ha]at hS4;refine hS4.wr (o:=pl g.r.length g.f g.m*1) (by simp;omega) (fun w5 hS5 hU6=>?_);have hB5:=hR4.xK (w1:=w5) (by rw[ha];exact hU6);refine⟨_,rfl,_,hB5.cell rfl,_,rfl,hB5.wr (by simp[nA]) (fun w6 hW=>⟨rfl,?_⟩)⟩
   have hset:aI (g.r.map (Value.int .i64)) (pl g.r.length g.f g.m*1) [I n]=(g.r.set (pl g.r.length g.f g.m) n).map (Value.int .i64):=by
    rw[Nat.mul_one];exact qw hpl
   rw[hset]at hS5
   have hT:aa (RO b) w4 w6 F (⟨g.r.set (pl g.r.length g.f g.m) n,g.f,g.m+1⟩,y):=by
    refine hR4.put (p':=y.1) (c':=y.2) (w1:=w5) ?_ (by rw[ha];exact hU6) (fun i hi=>.inl hi) ?_
    ·simp only[List.length_set];rw[ha];exact hS5
    ·have hW':=hW;simp only[nA,List.length_set];rw[aD (by omega)]at hW';exact hW'
   obtain⟨F',t1,t2,t3⟩:=hT;refine⟨F',⟨_,y,t1,⟨?_,?_,?_,?_⟩,?_,?_,?_⟩,(hU5.mono (fun _ _ h=>h.elim)).trans t2 (fun _ _ h=>h),fun i hi=>(t3 i hi).imp id (fun h=>Nat.le_trans hU5.size h)⟩
   ·simp only[List.length_set];exact h2.pos
   ·simp only[List.length_set];exact h2.le
   ·simp only[List.length_set];exact h2.f
   ·simp only[List.length_set];omega
   ·simp only[List.length_set];exact h3
   ·rw[amu h2 k2,h4]
   ·exact List.nodup_append.2 ⟨h5,by simp,fun a ha b hb=>by simp at hb;subst hb;exact fun e=>k1 (e ▸ ha)⟩
theorem AL (h:cX b w F x):Cx 304 #[pt b] w fun e w'=>e=Z (.tuple #[I (bK x).1,I (bK x).2])/\aa (cX b) w w' F (EL x):=by
 refine ak4 ?_;rw[t304];refine⟨(ES h).mono ?_⟩;rintro e w1 ⟨rfl,hU1⟩;obtain⟨xc,xl⟩:=x
 cases xl with
 | nil=>exact⟨_,_,rfl,fun k=>by simp[bK]at k,fun _=>⟨rfl,aa.quiet h hU1⟩⟩
 | cons v l=>
  obtain⟨g,y,h1,h2,h3,h4,h5⟩:=id h;simp only at h3 h4 h5;obtain⟨k1,k2,k3⟩:=XC h2 h4;have hR:RO b w1 F (g,y):=(Frame.hd ..).ae h1 hU1 (fun _ _ h=>h);have hm:=h2.m;have hle:=h2.le;refine⟨_,_,rfl,fun _=>⟨(BO hR h2 (k:=1) h2.pos).mono ?_⟩,fun k=>by simp[bK]at k⟩;rintro e w2 ⟨rfl,hU2⟩;have hU:=hU1.and hU2;have hR2:RO b w2 F (g,y):=(Frame.hd ..).ae h1 hU (fun _ _ h=>h);refine⟨_,rfl,_,rfl,hR2.ai.wr (by simp[nA]) (fun w3 hW3=>⟨_,rfl,_,hW3.aF.cell rfl,_,rfl,hW3.aF.wr (by simp[nA,aI]) (fun w4 hW4=>⟨rfl,?_⟩)⟩)⟩
  have hT:aa (RO b) w2 w4 F (⟨g.r,pl g.r.length g.f 1,g.m-1⟩,y):=by
   refine⟨F,⟨?_,hR2.sl.ae (hW3.U.and hW4.U) (fun i hi e=>hR2.2.2.1 (e ▸ hi)),hR2.2.2.1,hR2.2.2.2⟩,(hW3.U.and hW4.U).mono (fun i _ hi=>(hR2.2.2.2 i).2 (.inl hi)),fun _ hi=>.inl hi⟩;have:=hW4.aF;rw[aD (x:=(g.m:Int)-1) (by omega)]at this;show aE w4 b [.slice y.1 g.r.length y.2,I (pl g.r.length g.f 1:Nat),I ((g.m-1:Nat):Int)] _;rw[show((g.m-1:Nat):Int)=(g.m:Int)-1 by omega];exact this
  obtain⟨F',t1,t2,t3⟩:=hT;exact⟨F',⟨_,y,t1,⟨h2.pos,h2.le,wL h2.f h2.pos,by simp only;omega⟩,h3,k3,(List.nodup_cons.1 h5).2⟩,(hU.mono (fun _ _ h=>h.elim)).trans t2 (fun _ _ h=>h),fun i hi=>(t3 i hi).imp id (fun h=>Nat.le_trans hU.size h)⟩
theorem aeZ (h:cX b w F x):Cx 366 #[pt b] w fun e w'=>e=Z (I (FX x))/\aa (cX b) w w' F (FY x):=by
 refine alU ?_;rw[t366];have hl:=h.len;have hnd:x.2.Nodup:=by obtain⟨_,_,_,_,_,_,h5⟩:=h;exact h5
 refine⟨(AL h).mono ?_⟩;rintro e w1 ⟨rfl,F',t1,t2,t3⟩;obtain⟨xc,xl⟩:=x
 cases xl with
 | nil=>exact⟨_,_,rfl,fun _=>⟨rfl,F',t1,t2,t3⟩,fun k=>by simp[bK]at k⟩
 | cons v l=>
  refine⟨_,_,rfl,fun k=>by simp[bK]at k,fun _=>⟨(tR t1 _).mono ?_⟩⟩;rintro e w2 ⟨rfl,F2,r1,r2,r3⟩;simp only at hl hnd;rw[List.nodup_cons]at hnd
  have e1:fy (EL (xc,v::l)) (bK (xc,v::l)).1=0:=by
   simp only[List.length_cons]at hl;have:l.length≠xc:=by omega
   simp[fy,EL,bK,hnd.1,this]
  refine⟨_,rfl,by rw[e1];rfl,?_⟩;rw[iy,e1,if_pos rfl]at r1;refine⟨F2,r1,t2.trans r2 (fun i hi hf=>(t3 i hf).elim id (fun h=>absurd h (by omega))),fun i hi=>?_⟩;rcases r3 i hi with h|h
  ·exact t3 i h
  ·exact .inr (Nat.le_trans t2.size h)
end
end Go.Dav
namespace Go.Dav
open Go.Proofs
section
variable {w:World} {F:Fp} {b:Nat} {x:Nat×List Int} {g:Ring} {y:Option Addr×Nat}
theorem cX.nodup (h:cX b w F x):x.2.Nodup:=by obtain⟨_,_,_,_,_,_,h5⟩:=h;exact h5
def shift (l:List Int) (k i:Nat):List Int:=(List.range l.length).map (fun j=>if k<=j/\j<i then l.getD (j+1) 0 else l.getD j 0)
theorem afP (l:List Int) (k:Nat):shift l k k=l:=by
 apply List.ext_getElem?;intro j;by_cases h:j<l.length
 ·simp[shift,h,show ¬(k<=j/\j<k) by omega]
 ·simp[shift,h]
theorem afQ {l:List Int} {k i:Nat} (hk:k<=i) (hi:i+1<l.length):(shift l k i).set i (l[i+1])=shift l k (i+1):=by
 apply List.ext_getElem?;intro j;rw[List.getElem?_set];by_cases h:j<l.length
 ·by_cases hij:i=j
  ·subst hij;simp[shift,h,hk,hi]
  ·rw[if_neg hij];have:(k<=j/\j<i)↔(k<=j/\j<i+1):=by omega
   simp[shift,h,this]
 ·by_cases hij:i=j
  ·omega
  ·simp[shift,h,hij]
theorem afO {l:List Int} {k:Nat} (hk:k<l.length):(shift l k (l.length-1)).take (l.length-1)=l.eraseIdx k:=by
 apply List.ext_getElem?;intro j;rw[List.getElem?_take,List.getElem?_eraseIdx];by_cases h:j<l.length-1
 ·have h2:j<l.length:=by omega
  have h3:j+1<l.length:=by omega
  by_cases hkj:j<k
  ·simp[shift,h,h2,hkj,show ¬k<=j by omega]
  ·simp[shift,h,h2,h3,hkj,show k<=j by omega]
 ·rw[if_neg h];split<;>(symm;apply List.getElem?_eq_none;omega)
set_option maxRecDepth 100000 in
theorem Wm (h:cX b w F x) (n:Int):Cx 364 #[pt b,I n] w fun e w'=>e=Z (I (oL x n))/\aa (cX b) w w' F (CN x n):=by
 have hnd:=h.nodup;obtain⟨g,y,h1,h2,h3,h4,h5⟩:=id h;obtain⟨xc,l⟩:=x;simp only at h3 h4 h5 hnd;refine alT ?_;rw[t364];refine⟨fun h=>by simp at h,fun _=>⟨(Em h1 h2).mono ?_⟩⟩;rintro e w1 ⟨p,c,rfl,hL⟩;rw[h4]at hL⊢;have hm:=h2.m;have hle:=h2.le;have hlen:l.length=g.m:=by rw[<-h4,je]
 refine⟨_,_,_,rfl,⟨(Tw hL.S.cells (by omega) n).mono ?_⟩⟩;rintro e w1' ⟨rfl,rfl⟩;refine⟨_,rfl,fun k1=>?_,fun k1=>?_⟩
 ·have k1:n∉l:=fun hm=>by simp[idx,hm]at k1;omega
  have e1:oL (xc,l) n=4:=by simp[oL,k1]
  rw[CN,e1,List.erase_of_not_mem k1];exact⟨rfl,aa.quiet h hL.U⟩
 ·have k1:n∈l:=by
   refine Decidable.byContradiction fun hm=>?_;simp[idx,hm]at k1
  have e1:oL (xc,l) n=0:=by simp[oL,k1]
  have hi:idx l n=(l.idxOf n:Int):=by simp[idx,k1]
  have hk:l.idxOf n<l.length:=List.idxOf_lt_length_of_mem k1;rw[CN,e1,hi];generalize hkk:l.idxOf n=k at hk⊢;have hR1:RO b w1' F (g,y):=(Frame.hd ..).ae h1 hL.U (fun _ _ h=>h)
  refine⟨bA bf (M:=uX) (σ:=Nat×List Int) (fun s=>Di (some ⟨b,0,none⟩) p l.length c (s.1:Int))
   (fun s w'=>k<=s.1/\s.1+1<=l.length/\s.2.length=g.r.length/\view ⟨s.2,g.f,g.m⟩=shift l k s.1/\af F w1' w'/\RO b w' F (⟨s.2,g.f,g.m⟩,y)/\Cells w' p (l.map (Value.int .i64))) (fun s _=>l.length-s.1) (k,g.r)
   ⟨rfl,rfl,rfl,trivial⟩ ⟨by simp,by simp only;omega,rfl,by simp only;rw[afP];exact h4,af.refl _ _,hR1,hL.S.cells⟩ ?_⟩
  rintro⟨i,r⟩ w2 ⟨i1,i2,i3,i4,hU2,hR2,hC2⟩;simp only at i1 i2 i3 i4 hR2⊢;rw[ag5];have ew:IntKind.wrap .i64 ((i:Int)+1)=((i+1:Nat):Int):=by rw[aD (by omega)];rfl
  rw[ew];refine⟨fun hlt w3 q1 q2 q3 q4=>?_,fun hge=>?_⟩
  ·have hi1:i+1<l.length:=by simp at hlt;omega
   have hU3:=af.same no q1 q2 q3 q4;have hR3:RO b w3 F (⟨r,g.f,g.m⟩,y):=(Frame.hd ..).ae hR2 hU3 (fun _ _ h=>h);have hok:Ring.ok ⟨r,g.f,g.m⟩:=⟨by rw[i3];exact h2.pos,by rw[i3];exact hle,by rw[i3];exact h2.f,by rw[i3];exact hm⟩;obtain⟨a,ha,hc⟩:=(hC2.no hU3).bC hi1;refine⟨_,rfl,_,_,_,hR3.ai.cell rfl,⟨by omega,by omega⟩,a,ha,_,hc,⟨(BO hR3 hok (k:=i) (by rw[i3];omega)).mono ?_⟩⟩;rintro e w4 ⟨rfl,hU4⟩;have hR4:RO b w4 F (⟨r,g.f,g.m⟩,y):=(Frame.hd ..).ae hR3 hU4 (fun _ _ h=>h);obtain⟨a',ha',hc'⟩:=((hC2.no hU3).no hU4).bC hi1;have haa:a'=a:=Option.some.inj (ha'.symm.trans ha);subst haa;have hpl:pl r.length g.f i<r.length:=wL hok.f (by rw[i3];omega);have hS4:=hR4.sl;obtain⟨a2,ha2,_⟩:=hS4.cells.bC (l:=r) (i:=0) (by rw[i3];exact h2.pos);simp only at ha2 hS4;refine⟨_,rfl,hc',hR4.ai.cell rfl,⟨by omega,by simp only;omega⟩,a2,ha2,?_⟩;rw[ha2]at hS4;refine hS4.wr (o:=pl r.length g.f i*1) (by simp;omega) (fun w5 hS5 hU5=>?_)
   have hset:aI (r.map (Value.int .i64)) (pl r.length g.f i*1) [I l[i+1]]=(r.set (pl r.length g.f i) l[i+1]).map (Value.int .i64):=by
    rw[Nat.mul_one];exact qw hpl
   rw[hset]at hS5;have hU5F:af F w4 w5:=hU5.mono (fun j _ hj=>(hR4.2.2.2 j).2 (.inr (by rw[ha2];exact hj)))
   have hR5:RO b w5 F (⟨r.set (pl r.length g.f i) l[i+1],g.f,g.m⟩,y):=by
    refine⟨?_,?_,hR4.2.2.1,hR4.2.2.2⟩
    ·have:=hR4.xK (w1:=w5) (by rw[ha2];exact hU5);simpa [nA]using this
    ·simp only[List.length_set];rw[ha2];exact hS5
   have hCdis:∀a,p=some a->¬F a.block:=fun a ha hf=>by
    have k1:=hL.F a.block ⟨a,ha,rfl⟩;have k2:=(Frame.fq b).lt h _ hf;omega
   refine⟨(i+1,r.set (pl r.length g.f i) l[i+1]),⟨rfl,rfl,rfl,trivial⟩,⟨by simp only;omega,by simp only;omega,by simp only[List.length_set];exact i3,?_,?_,hR5,?_⟩,by simp only;omega⟩
   ·have:=XD hok (i:=i) (by simp only;rw[i3];omega) l[i+1] (m:=g.m) (by simp only;rw[i3];exact hm);simp only at this;rw[this,i4,afQ i1 hi1]
   ·exact((hU2.trans hU3 (fun _ _ h=>h.elim)).trans hU4 (fun _ _ h=>h.elim)).trans hU5F (fun _ _ h=>h)
   ·exact((hC2.no hU3).no hU4).ae (fun a ha=>by
     have k1:=(hL.S.lt a.block ⟨a,ha,rfl⟩);exact hU5F.ai _ (Nat.lt_of_lt_of_le k1 (Nat.le_trans hU2.size (Nat.le_trans hU3.size hU4.size))) (hCdis a ha))
  ·have hi1:i+1=l.length:=by simp at hge;omega
   refine⟨_,rfl,_,hR2.ai.cell rfl,_,rfl,hR2.ai.wr (by simp[nA]) (fun w3 hW=>⟨rfl,?_⟩)⟩
   have hB3:aE w3 b (nA ⟨r,g.f,g.m-1⟩ y.1 y.2) 295:=by
    have:=hW.aF;rw[aD (x:=(g.m:Int)-1) (by omega)]at this;show aE w3 b [.slice y.1 r.length y.2,I g.f,I ((g.m-1:Nat):Int)] _;rw[show((g.m-1:Nat):Int)=(g.m:Int)-1 by omega];exact this
   have hR3:RO b w3 F (⟨r,g.f,g.m-1⟩,y):=⟨hB3,hR2.sl.ae hW.U (fun j hj e=>hR2.2.2.1 (e ▸ hj)),hR2.2.2.1,hR2.2.2.2⟩;have hUF:af F w w3:=((hL.U.mono fun _ _ h=>h.elim).trans hU2 (fun _ _ h=>h)).trans hW.U (fun j _ hj=>(hR2.2.2.2 j).2 (.inl hj));refine⟨F,⟨_,y,hR3,⟨by simp only;rw[i3];exact h2.pos,by simp only;rw[i3];exact hle,by simp only;rw[i3];exact h2.f,by simp only;rw[i3];omega⟩,by simp only;rw[i3];exact h3,?_,?_⟩,hUF,fun _ hi=>.inl hi⟩
   ·rw[amr r g.f (m:=g.m) (by omega),i4,show i=l.length-1 by omega,<-hlen,afO hk,List.erase_eq_eraseIdx_of_idxOf hkk]
   ·exact hnd.erase n
end
end Go.Dav
namespace Go.Proofs
open Go.RowKit Go.Shelf
attribute [local go_sem] Oper.semAt_some
def jj (a b:Nat) (W W':World):Prop:=W'.heap[a]?=W.heap[a]?/\W'.heap[b]?=W.heap[b]?
theorem jj.t {a b:Nat} {A B C:World} (h:jj a b A B) (k:jj a b B C):jj a b A C:=⟨k.1.trans h.1,k.2.trans h.2⟩
theorem jj.b {a b:Nat} {w:World} (ha:a<w.heap.size) (hb:b<w.heap.size) (W:World) (l:Nat) (o o':Obj) (hl:w.heap.size<=l) (_:W.heap[l]?=some o) (_:o.isCells=false) (_:o.isWalk=false):jj a b W (W.putObj l o'):=
 ⟨World.putObj_heap_other (by omega),World.putObj_heap_other (by omega)⟩
theorem jj.refl (a b:Nat) (W:World):jj a b W W:=⟨rfl,rfl⟩
theorem Tryz.aak {α:Type} (enc:α->Value) (F:Fence) (n:Nat) (h38:F.fn 341) (hro:F.round=none) (hn:1<=n) (l Bn bq:Nat) (L:List α) (hL:L.length=8) (J Jx:List α->World->Prop)
  (hY:∀pre x W,J pre W->pre.length<8->YieldAt F (n-1) Tryz.prog l #[enc x] W fun e W'=>
   (e=.returned (.bool true)/\J (pre++[x]) W'/\jj Bn bq W W')∨(e=.returned (.bool false)/\Jx (pre++[x]) W'))
  (W:World) (hBn:W.cell? ⟨Bn,0,none⟩=some (.pointer (some ⟨bq,0,none⟩))) (hc:∀i v,L[i]?=some v->W.cell? ⟨bq,i,none⟩=some (enc v)) (h0:J [] W) :
  CallsIn F n Tryz.prog 341 #[.func (.yield l) #[] #[],.pointer (some ⟨Bn,0,none⟩)] W fun e W'=>(∃v,e=.returned v)/\
   ((∃ys,ys=L.reverse/\J ys W')∨(∃pre,pre <+:L.reverse/\Jx pre W')):=by
 refine callsIn_of_wp Tryz.func341 rfl h38 ?_ hro;simp only[Tryz.ntmps341,List.size_toArray,List.length_cons,List.length_nil,Nat.reduceAdd,Nat.reduceSub,Array.replicate_succ,Array.replicate_zero,List.push_toArray,List.append_toArray,List.nil_append,List.cons_append]
 gi_wp2
 gi_loopw [3] (fun p wr=>∃(k:Nat),p=.int .i64 ((k:Int)-1)/\k<=8/\wr.cell? ⟨Bn,0,none⟩=some (.pointer (some ⟨bq,0,none⟩))/\(∀i v,L[i]?=some v->wr.cell? ⟨bq,i,none⟩=some (enc v))/\J (L.drop k).reverse wr)
  (fun p wr=>match p with|.int _ i=>(i+1).toNat|_=>0)
 case atStart=>
  exact⟨8,rfl,Nat.le_refl _,hBn,hc,by rw[List.drop_of_length_le (by omega)];exact h0⟩
 case round=>
  obtain⟨k,rfl,hk,hB,hC,hJs⟩:=hrel
  cases k with
  | zero=>
   gi_wp2
   go_end0
   exact⟨⟨_,rfl⟩,.inl ⟨_,by simp,hJs⟩⟩
  | succ k=>
   have hkl:k<L.length:=by omega
   have hcell:wr.cell? ⟨bq,k,none⟩=some (enc L[k]):=hC k _ (List.getElem?_eq_getElem hkl);have hdr:L.drop k=L[k]::L.drop (k+1):=List.drop_eq_getElem_cons hkl;have hrv:(L.drop (k+1)).reverse++[L[k]]=(L.drop k).reverse:=by rw[hdr,List.reverse_cons]
   obtain⟨fn,tmps,assign,body,hy,hR⟩:=hY _ L[k] wr hJs (by simp;omega);generalize L[k]=x at *;have hi:((k+1:Nat):Int)-1=(k:Int):=by omega
   rw[hi]
   gi_wp2
   refine hR.mono ?_;rintro e W3 (⟨rfl,hJ3,hk3⟩|⟨rfl,hJx3⟩)
   ·gi_wp2
    go_roundw
    case rel=>exact⟨k,rfl,by omega,(World.cell?_of_block hk3.1).trans hB,fun i v h=>(World.cell?_of_block hk3.2).trans (hC i v h),by rw[<-hrv];exact hJ3⟩
    case measure=>show((k:Int)-1+1).toNat<((k:Int)+1).toNat;omega
   ·gi_wp2
    refine bodyPost_ret (results_none rfl _ _ _) rfl ?_;exact⟨⟨_,rfl⟩,.inr ⟨_,⟨(L.take k).reverse,by rw[hrv,<-List.reverse_append,List.take_append_drop]⟩,hJx3⟩⟩
set_option maxHeartbeats 1000000 in
theorem Tryz.RW (F:Fence) (n:Nat) (h25:F.fn 273) (hro:F.round=none) (p0:Option Addr) (w:World) :
  CallsIn F n Tryz.prog 273 #[.pointer p0] w fun e w'=>e=.returned (.func (.func 341) #[] #[.pointer (some ⟨w.heap.size,0,none⟩)])/\w'=w.alloc (.cells #[.pointer p0] 152):=by
 refine callsIn_of_wp Tryz.func273 rfl h25 ?_ hro;simp only[Tryz.ntmps273,List.size_toArray,List.length_cons,List.length_nil,Nat.reduceAdd,Nat.reduceSub,Array.replicate_succ,Array.replicate_zero,List.push_toArray,List.append_toArray,List.nil_append,List.cons_append]
 gi_wp2
 go_ret
 exact⟨rfl,rfl⟩
theorem Tryz.RX {α:Type} (enc:α->Value) (F:Fence) (n:Nat) (h38:F.fn 341) (hro:F.round=none) (hn:1<=n) (Bn bq:Nat) (L:List α) (hL:L.length=8) (w:World) (hBn:Bn<w.heap.size) (hbq:bq<w.heap.size)
  (hB:w.cell? ⟨Bn,0,none⟩=some (.pointer (some ⟨bq,0,none⟩))) (hc:∀i v,L[i]?=some v->w.cell? ⟨bq,i,none⟩=some (enc v)) :
  SeqStopsK F n Tryz.prog 341 #[.pointer (some ⟨Bn,0,none⟩)] (fun x:α=>#[enc x]) (jj Bn bq) (fun ys=>ys=L.reverse) (fun pre=>pre <+:L.reverse) 8 w:=fun l J Jx W hW _ _ hY h0=>
 Tryz.aak enc F n h38 hro hn l Bn bq L hL J Jx hY W ((hW.cell (p:=⟨Bn,0,none⟩) (by simp only;omega)).trans hB) (fun i v h=>(hW.cell (p:=⟨bq,i,none⟩) (by simp only;omega)).trans (hc i v h)) h0
end Go.Proofs
namespace Go.Dav
open Go.Proofs
theorem af.grown {w W W':World} {row:Option Nat} (h:af no w W) (hg:W.grownBy W' row) (hr:∀r,row=some r->w.heap.size<=r):af no w W':=
 ⟨Nat.le_trans h.size hg.size,hg.os.trans h.os,hg.tape.trans h.tape,hg.output.trans h.output,fun i hi _=>(hg.block i (Nat.lt_of_lt_of_le hi h.size) (fun e=>by have:=hr i e.symm;omega)).trans (h.ai i hi id)⟩
theorem af.Cz {w W:World} {a:Addr} {v:Value} (h:af no w W) (hc:w.cell? a=some v):W.cell? a=some v:=by
 have hl:a.block<w.heap.size:=by
  obtain⟨o,ho,_⟩:=cells_of_cell hc;exact oX ho
 exact(World.cell?_of_block (h.ai _ hl id)).trans hc
theorem af.pO (w:World) (o:Obj):af no w (w.alloc o):=(af.refl no w).grown (World.grownBy_alloc w o none) (fun r e=>by cases e)
theorem af.stored {w W:World} (h:af no w W) {b:Nat} (hb:w.heap.size<=b) (o:Nat) (v:Value):af no w (W.setCell ⟨b,o,none⟩ v):=
 ⟨by show _<=(Array.modify _ _ _).size;rw[Array.size_modify];exact h.size,h.os,h.tape,h.output,fun i hi hn=>by
  rw[<-h.ai i hi hn];simp only[World.setCell,Array.getElem?_modify];rw[if_neg (by omega)]⟩
end Go.Dav
namespace Go.Proofs
open Go.RowKit Go.Shelf Go.Dav
attribute [local go_sem] Oper.semAt_some
theorem Zx {W:World} {B:Nat} {v:Value} {t:TypeId} (h:W.heap[B]?=some (.cells #[v] t (0,0))):W.cell? ⟨B,0,none⟩=some v/\W.frozen? ⟨B,0,none⟩=false:=by
 constructor<;>simp[World.cell?,World.frozen?,h]
theorem vC (W:World) (v:Value) (t:TypeId):(W.alloc (.cells #[v] t)).cell? ⟨W.heap.size,0,none⟩=some v/\(W.alloc (.cells #[v] t)).frozen? ⟨W.heap.size,0,none⟩=false:=
 Zx (World.alloc_heap_new W _)
theorem vA {W:World} {a:Addr} {v:Value} (o:Obj) (h:W.cell? a=some v):(W.alloc o).cell? a=some v:=cell_kept h (World.grownBy_alloc W o none) (fun r e=>by cases e)
theorem zC {W:World} {a:Addr} {v:Value} (o:Obj) (h:W.cell? a=some v) (hf:W.frozen? a=false):(W.alloc o).frozen? a=false:=(frozen_kept h (World.grownBy_alloc W o none) (fun r e=>by cases e)).trans hf
theorem Rj {n l:Nat} {P:Program} {f:FuncId} {args:Array Value} {w:World} {R:Ending->World->Prop} (h:Calls P f args w R):CallsIn (Fence.wide.inRound l) n P f args w R:=(callsIn_wide (n:=n)).2 h
def qy {α:Type} (bl:α->Nat) (len:α->Nat) (l:List α):Value:=
 match l.find? (fun x=>decide (0<len x))with
 | none=>.tuple #[.pointer none,.int .i64 12]
 | some x=>.tuple #[.pointer (some ⟨bl x,0,none⟩),.int .i64 0]
theorem ah5 {α:Type} {bl:α->Nat} {len:α->Nat} {l:List α} (h:∀y∈l,len y=0):qy bl len l=.tuple #[.pointer none,.int .i64 12]:=by
 unfold qy;rw[List.find?_eq_none.2 (fun y hy=>by simp[h y hy])]
theorem ah6 {α:Type} {bl:α->Nat} {len:α->Nat} {l pr:List α} {x:α} (hp:pr++[x] <+:l) (h:∀y∈pr,len y=0) (hx:0<len x):qy bl len l=.tuple #[.pointer (some ⟨bl x,0,none⟩),.int .i64 0]:=by
 obtain⟨t,rfl⟩:=hp;unfold qy;rw[List.append_assoc,List.find?_append,List.find?_eq_none.2 (fun y hy=>by simp[h y hy])];simp[hx]
set_option maxRecDepth 100000 in
set_option maxHeartbeats 4000000 in
theorem Tryz.ah7 {α:Type} (bl:α->Nat) (len:α->Nat) (L:List α) (hL:L.length=8) (q:Nat) (w:World) (hq:q<w.heap.size)
  (hc:∀i v,L[i]?=some v->w.cell? ⟨q,i,none⟩=some (.pointer (some ⟨bl v,0,none⟩)))
  (hlen:∀x W,af no w W->Calls Tryz.prog 392 #[.pointer (some ⟨bl x,0,none⟩)] W fun e w'=>e=.returned (.int .i64 (len x))/\w'=W) :
  Calls Tryz.prog 365 #[.pointer (some ⟨q,0,none⟩)] w fun e w'=>
   e=.returned (qy bl len L.reverse)/\af no w w':=by
 rw[<-callsIn_wide (n:=5)];refine callsIn_of_wp_marks Tryz.func365 rfl trivial ?_ rfl;simp only[Tryz.ntmps365,List.size_toArray,List.length_cons,List.length_nil,Nat.reduceAdd,Nat.reduceSub,Array.replicate_succ,Array.replicate_zero,List.push_toArray,List.append_toArray,List.nil_append,List.cons_append];have h1:Fence.wide.fn 273:=trivial;have h2:Fence.wide.fn 392:=trivial;have h3:Fence.wide.fn 341:=trivial
 gi_wp2_with (gi_at_call 273;refine(Tryz.RW Fence.wide _ h1 rfl _ _).mono ?_;rintro e w' ⟨rfl,rfl⟩)
 have c0:=vC w (.pointer none) 208;have c1:=vC (w.alloc (.cells #[.pointer none] 208)) (.int .i64 0) 24;have c2:=vC ((w.alloc (.cells #[.pointer none] 208)).alloc (.cells #[.int .i64 0] 24)) (.pointer (some ⟨q,0,none⟩)) 152;simp only[World.size_alloc]at c1 c2;have hU:af no w (((w.alloc (.cells #[.pointer none] 208)).alloc (.cells #[.int .i64 0] 24)).alloc (.cells #[.pointer (some ⟨q,0,none⟩)] 152)):=(((af.pO w _).trans (af.pO _ _) (fun _ _ h=>h)).trans (af.pO _ _) (fun _ _ h=>h))
 refine wpIn_rangeFunc_ownF rfl (by decide) (gf:=341) (lb:=#[.pointer (some ⟨w.heap.size+1+1,0,none⟩)]) rfl h3 (enters_of Tryz.func341 (by kernel_rfl) rfl)
  (Tryz.RX (fun x=>.pointer (some ⟨bl x,0,none⟩)) Fence.wide _ h3 rfl (by decide) (w.heap.size+1+1) q L hL _ (by simp) (by simp;omega) c2.1 (fun i v h=>hU.Cz (hc i v h))) jj.t (jj.b (by simp) (by simp;omega)) (Below.refl _ _) (fun _=>rfl)
  (fun pre W=>af no w W/\(∀y∈pre,len y=0)/\(W.cell? ⟨w.heap.size,0,none⟩=some (.pointer none)/\W.frozen? ⟨w.heap.size,0,none⟩=false)/\W.cell? ⟨w.heap.size+1,0,none⟩=some (.int .i64 0)/\W.frozen? ⟨w.heap.size+1,0,none⟩=false)
  (fun c pre W=>c=.ret/\af no w W/\∃pr x,pre=pr++[x]/\(∀y∈pr,len y=0)/\0<len x/\W.cell? ⟨w.heap.size,0,none⟩=some (.pointer (some ⟨bl x,0,none⟩))/\W.cell? ⟨w.heap.size+1,0,none⟩=some (.int .i64 0))
  ?own ?ownx ?start
  (fun x=>{tmps:=#[.pointer (some ⟨q,0,none⟩),undef,.pointer (some ⟨w.heap.size,0,none⟩),.pointer (some ⟨w.heap.size+1,0,none⟩),.pointer (some ⟨bl x,0,none⟩),.pointer (some ⟨q,0,none⟩),.bool false,.pointer (some ⟨q,0,none⟩),.func (.func 341) #[] #[.pointer (some ⟨w.heap.size+1+1,0,none⟩)],.pointer (some ⟨bl x,0,none⟩),undef,undef,undef,undef],defers:=[]}) ?assign ?body ?done ?stop
 case own=>
  rintro s A B row ⟨h1,h2,h3,h4,h5⟩ hg hr;have hr':∀r,row=some r->∃o:Obj,A.heap[r]?=some o/\o.isCells=false:=fun r e=>(hr r e).2;exact⟨h1.grown hg (fun r e=>by have:=(hr r e).1;simp at this;omega),h2,⟨cell_kept h3.1 hg hr',(frozen_kept h3.1 hg hr').trans h3.2⟩,cell_kept h4 hg hr',(frozen_kept h4 hg hr').trans h5⟩
 case ownx=>
  rintro c s A B row ⟨h0,h1,pr,x,h2,h3,h4,h5,h6⟩ hg hr;have hr':∀r,row=some r->∃o:Obj,A.heap[r]?=some o/\o.isCells=false:=fun r e=>(hr r e).2;exact⟨h0,h1.grown hg (fun r e=>by have:=(hr r e).1;simp at this;omega),pr,x,h2,h3,h4,cell_kept h5 hg hr',cell_kept h6 hg hr'⟩
 case start=>
  exact⟨hU,by simp,⟨vA _ (vA _ c0.1),zC _ (vA _ c0.1) (zC _ c0.1 c0.2)⟩,vA _ c1.1,zC _ c1.1 c1.2⟩
 case assign=>
  intro l x W K hK
  gi_wp2
  exact hK
 case body=>
  rintro l pre x W ⟨hW,hp,⟨hca,hfa⟩,hcb,hfb⟩ _
  gi_wp2_with (gi_at_call 392;refine(Rj (hlen x W hW)).mono ?_;rintro e w' ⟨rfl,rfl⟩)
  ·rename_i hx;have b0:(w'.setCell ⟨w.heap.size,0,none⟩ (.pointer (some ⟨bl x,0,none⟩))).cell? ⟨w.heap.size+1,0,none⟩=some (.int .i64 0):=(World.cell?_setCell_other _ _ _ _ (by simp)).trans hcb
   exact⟨(KeepsOthers.setCell _ _ _).trans (KeepsOthers.setCell _ _ _),rfl,(hW.stored (Nat.le_refl _) _ _).stored (Nat.le_succ _) _ _,pre,x,rfl,hp,by simpa using hx,
    (World.cell?_setCell_other _ _ _ _ (by simp)).trans (World.cell?_setCell_same' _ _ _ (by rw[hca];rfl)),World.cell?_setCell_same' _ _ _ (by rw[b0];rfl)⟩
  ·rename_i hx;exact⟨KeepsOthers.refl _,jj.refl _ _ _,hW,fun y hy=>(List.mem_append.1 hy).elim (hp y) (fun e=>by simp at e;subst e;simpa using hx),⟨hca,hfa⟩,hcb,hfb⟩
 case done=>
  rintro D ys W hD rfl ⟨hW,hne,⟨hca,hfa⟩,hcb,hfb⟩ hK
  gi_wp2
  have hK':=((KeepsOthers.setCell W ⟨w.heap.size,0,none⟩ (.pointer none)).trans (KeepsOthers.setCell _ ⟨w.heap.size+1,0,none⟩ (.int .i64 12))).same D _ hK rfl;refine⟨by simp,.inl ⟨_,_,rfl,run_takeDeferred hK',?_⟩⟩;have hS:af no w ((W.setCell ⟨w.heap.size,0,none⟩ (.pointer none)).setCell ⟨w.heap.size+1,0,none⟩ (.int .i64 12)):=(hW.stored (Nat.le_refl _) _ _).stored (Nat.le_succ _) _ _;have a0:(W.setCell ⟨w.heap.size,0,none⟩ (.pointer none)).cell? ⟨w.heap.size+1,0,none⟩=some (.int .i64 0):=(World.cell?_setCell_other _ _ _ _ (by simp)).trans hcb;have a1:((W.setCell ⟨w.heap.size,0,none⟩ (.pointer none)).setCell ⟨w.heap.size+1,0,none⟩ (.int .i64 12)).cell? ⟨w.heap.size,0,none⟩=some (.pointer none):=(World.cell?_setCell_other _ _ _ _ (by simp)).trans (World.cell?_setCell_same' W _ _ (by rw[hca];rfl));have a2:=World.cell?_setCell_same' (W.setCell ⟨w.heap.size,0,none⟩ (.pointer none)) ⟨w.heap.size+1,0,none⟩ (.int .i64 12) (by rw[a0];rfl);generalize ((W.setCell ⟨w.heap.size,0,none⟩ (.pointer none)).setCell ⟨w.heap.size+1,0,none⟩ (.int .i64 12))=W2 at *;have hg:=grownBy_putObj' W2 D (.deferred none);have hr:∀r,some D=some r->∃o:Obj,W2.heap[r]?=some o/\o.isCells=false:=fun r e=>by cases e;exact⟨_,hK',rfl⟩
  have ha:=cell_kept a1 hg hr;have hb:=cell_kept a2 hg hr;refine⟨_,?_,by rw[ah5 hne],hS.grown hg (fun r e=>by cases e;simp at hD;omega)⟩;simp[results,Tryz.f365,go_sem,ha,hb]
 case stop=>
  rintro D c pre W hD hpre ⟨rfl,hW,pr,x,rfl,hpr,hx,hca,hcb⟩ hK
  gi_wp2
  refine⟨by simp,.inl ⟨_,_,rfl,run_takeDeferred hK,?_⟩⟩;have hg:=grownBy_putObj' W D (.deferred none);have hr:∀r,some D=some r->∃o:Obj,W.heap[r]?=some o/\o.isCells=false:=fun r e=>by cases e;exact⟨_,hK,rfl⟩
  have ha:=cell_kept hca hg hr;have hb:=cell_kept hcb hg hr;refine⟨_,?_,by rw[ah6 hpre hpr hx],hW.grown hg (fun r e=>by cases e;simp at hD;omega)⟩;simp[results,Tryz.f365,go_sem,ha,hb]
end Go.Proofs
namespace Go.Dav
open Go.Proofs
section
variable {w w':World} {T:TypeId} {sz:Nat} {p:Option Addr} {n c:Nat} {cs:List Value} {row:Option Nat}
theorem Sl.TB (h:Sl w T sz p n c cs) {k:Nat} (hk:aL p k) {o:Obj} (ho:w.heap[k]?=some o):o.isCells=true:=by
 obtain⟨a,rfl,rfl⟩:=hk;obtain⟨_,_,_,cells,hb,_⟩:=h;have:=hb.symm.trans ho;cases this;rfl
theorem Sl.grown (h:Sl w T sz p n c cs) (hg:w.grownBy w' row) (hr:∀r,row=some r->∃o:Obj,w.heap[r]?=some o/\o.isCells=false):Sl w' T sz p n c cs:=
 h.ae (F:=fun i=>row=some i) ⟨hg.size,hg.os,hg.tape,hg.output,fun i hi hF=>hg.block i hi (fun e=>hF e.symm)⟩ (fun i hi e=>by obtain⟨o,ho,hc⟩:=hr i e;rw[h.TB hi ho]at hc;cases hc)
theorem af.others (h:af no w w'):KeepsOthers w w':=⟨h.size,fun k _ hk _=>(h.ai k (oX hk) id).trans hk⟩
theorem Sl.others (h:Sl w T sz p n c cs) (k:af (aL p) w w'):KeepsOthers w w':=
 ⟨k.size,fun i _ hi ho=>(k.ai i (oX hi) (fun hf=>by rw[h.TB hf hi]at ho;cases ho)).trans hi⟩
theorem Bm (w:World) (b o:Nat) (v:Value):af (fun i=>i=b) w (w.setCell ⟨b,o,none⟩ v):=
 ⟨by show _<=(Array.modify _ _ _).size;rw[Array.size_modify];exact Nat.le_refl _,rfl,rfl,rfl,fun i hi hn=>by
  simp only[World.setCell,Array.getElem?_modify];rw[if_neg (by omega)]⟩
end
end Go.Dav
namespace Go.Proofs
open Go.RowKit Go.Shelf Go.Dav
attribute [local go_sem] Oper.semAt_some
attribute [-go_sem] Builtin.append_
set_option maxRecDepth 100000 in
set_option maxHeartbeats 4000000 in
theorem Tryz.ac8 {α:Type} (bl:α->Nat) (it:α->List Int) (L:List α) (hL:L.length=8) (q:Nat) (w:World) (hq:q<w.heap.size) {z:List Value} (he:dH Tryz.prog 36 3 1 8 z)
  (hc:∀i v,L[i]?=some v->w.cell? ⟨q,i,none⟩=some (.pointer (some ⟨bl v,0,none⟩))) (hit:∀x,(it x).length<=1024)
  (hlist:∀x W,af no w W->Calls Tryz.prog 187 #[.pointer (some ⟨bl x,0,none⟩)] W fun e w'=>∃p c,e=.returned (.slice p (it x).length c)/\Dav.Loc W w' 3 p c (it x)) :
  Calls Tryz.prog 182 #[.pointer (some ⟨q,0,none⟩)] w fun e w'=>
   ∃p c,e=.returned (.slice p (L.reverse.flatMap it).length c)/\Dav.Loc w w' 3 p c (L.reverse.flatMap it):=by
 rw[<-callsIn_wide (n:=5)];refine callsIn_of_wp_marks Tryz.func182 rfl trivial ?_ rfl;simp only[Tryz.ntmps182,List.size_toArray,List.length_cons,List.length_nil,Nat.reduceAdd,Nat.reduceSub,Array.replicate_succ,Array.replicate_zero,List.push_toArray,List.append_toArray,List.nil_append,List.cons_append];have h1:Fence.wide.fn 273:=trivial;have h2:Fence.wide.fn 187:=trivial;have h3:Fence.wide.fn 341:=trivial
 gi_wp2_with (gi_at_call 273;refine(Tryz.RW Fence.wide _ h1 rfl _ _).mono ?_;rintro e w' ⟨rfl,rfl⟩)
 have c0:=vC w (.slice none 0 0) 36;have c2:=vC (w.alloc (.cells #[.slice none 0 0] 36)) (.pointer (some ⟨q,0,none⟩)) 152;simp only[World.size_alloc]at c2;have hU:af no w ((w.alloc (.cells #[.slice none 0 0] 36)).alloc (.cells #[.pointer (some ⟨q,0,none⟩)] 152)):=(af.pO w _).trans (af.pO _ _) (fun _ _ h=>h)
 refine wpIn_rangeFunc_ownF rfl (by decide) (gf:=341) (lb:=#[.pointer (some ⟨w.heap.size+1,0,none⟩)]) rfl h3 (enters_of Tryz.func341 (by kernel_rfl) rfl)
  (Tryz.RX (fun x=>.pointer (some ⟨bl x,0,none⟩)) Fence.wide _ h3 rfl (by decide) (w.heap.size+1) q L hL _ (by simp) (by simp;omega) c2.1 (fun i v h=>hU.Cz (hc i v h))) jj.t (jj.b (by simp) (by simp;omega)) (Below.refl _ _) (fun _=>rfl)
  (fun pre W=>af no w W/\∃p c,(W.cell? ⟨w.heap.size,0,none⟩=some (.slice p (pre.flatMap it).length c)/\W.frozen? ⟨w.heap.size,0,none⟩=false)/\Sl W 3 1 p (pre.flatMap it).length c ((pre.flatMap it).map (Value.int .i64))/\w.heap.size+1<W.heap.size/\∀i,aL p i->w.heap.size+1<i)
  (fun _ _ _=>False)
  ?own (fun _ _ _ _ _ h _ _=>h.elim) ?start
  (fun x=>{tmps:=#[.pointer (some ⟨q,0,none⟩),undef,.slice none 0 0,.pointer (some ⟨w.heap.size,0,none⟩),.pointer (some ⟨bl x,0,none⟩),.pointer (some ⟨q,0,none⟩),.bool false,.pointer (some ⟨q,0,none⟩),.func (.func 341) #[] #[.pointer (some ⟨w.heap.size+1,0,none⟩)],.pointer (some ⟨bl x,0,none⟩),undef,undef,undef,undef,undef],defers:=[]}) ?assign ?body ?done ?stop
 case own=>
  rintro s A B row ⟨h1,p,c,h3,h4,h6,h5⟩ hg hr;have hr':∀r,row=some r->∃o:Obj,A.heap[r]?=some o/\o.isCells=false:=fun r e=>(hr r e).2;exact⟨h1.grown hg (fun r e=>by have:=(hr r e).1;simp at this;omega),p,c,⟨cell_kept h3.1 hg hr',(frozen_kept h3.1 hg hr').trans h3.2⟩,h4.grown hg hr',Nat.lt_of_lt_of_le h6 hg.size,h5⟩
 case start=>
  exact⟨hU,none,0,⟨vA _ c0.1,zC _ c0.1 c0.2⟩,Sl.nil _ _ _,by simp,fun i ⟨a,ha,_⟩=>by cases ha⟩
 case assign=>
  intro l x W K hK
  gi_wp2
  exact hK
 case body=>
  rintro l pre x W ⟨hW,p,c,⟨hca,hfa⟩,hS,hKp,hF⟩ hlt
  have hle:(pre.flatMap it).length<=8192:=by
   have:∀l:List α,(l.flatMap it).length<=1024*l.length:=fun l=>by
    induction l with
    | nil=>simp
    | cons a l ih=>rw[List.flatMap_cons,List.length_append,List.length_cons];have:=hit a;omega
   have:=this pre;omega
  have hix:=hit x;obtain⟨lp,hlp⟩:∃lp,pre.flatMap it=lp:=⟨_,rfl⟩;rw[hlp]at hca hS hle;have hm:Tryz.prog.follows .mixedOrders=true:=by kernel_rfl
  have hWd:af no w W.drew:=hW.trans (af.same no rfl rfl rfl rfl) (fun _ _ h=>h);have hcd:W.drew.cell? ⟨w.heap.size,0,none⟩=some (.slice p lp.length c):=hca;have hfd:W.drew.frozen? ⟨w.heap.size,0,none⟩=false:=hfa;have hSd:Sl W.drew 3 1 p lp.length c (lp.map (Value.int .i64)):=hS.ae (af.same no rfl rfl rfl rfl) (fun _ _ h=>h)
  gi_wp2
  gi_region_with (gi_at_call 187;refine(Rj (hlist x _ hWd)).mono ?_;rintro e w2 ⟨p2,c2,rfl,hL2⟩;have hS2:=hSd.ae hL2.U (fun _ _ h=>h);have hcl:=hL2.U.Cz hcd;have hlw:w.heap.size<W.drew.heap.size:=(cells_of_cell hcd).elim (fun _ h=>oX h.1);have hlw2:=Nat.lt_of_lt_of_le hlw hL2.U.size;have hfl:w2.frozen? ⟨w.heap.size,0,none⟩=false:=(World.frozen?_of_block (a:=⟨w.heap.size,0,none⟩) (hL2.U.ai _ hlw id)).trans hfd;obtain⟨p',n',c',w3,hr,hn3,hS3,hU3,hF3⟩:=wT he hS2 hL2.S.cells (m:=(it x).length) (d:=c2) (by simp) (by simp[Value.oneCell']) (fun e=>by have:=hL2.S.2.2.2;subst e;exact this.2) (by omega) (by omega) 36;have hb3:w3.heap[w.heap.size]?=w2.heap[w.heap.size]?:=hU3.ai _ hlw2 (fun h=>by have:=hF _ h;omega);have hc3:=(World.cell?_of_block (a:=⟨w.heap.size,0,none⟩) hb3).trans hcl;have hf3:w3.frozen? ⟨w.heap.size,0,none⟩=false:=(World.frozen?_of_block (a:=⟨w.heap.size,0,none⟩) hb3).trans hfl)
  all_goals
   subst hn3;have hUa:af no W w2:=(af.same (w:=W) (w':=W.drew) no rfl rfl rfl rfl).trans hL2.U (fun _ _ h=>h);have hw2:w.heap.size+1<w2.heap.size:=Nat.lt_of_lt_of_le hKp hUa.size;have hsl:∀i,aL p' i->w.heap.size+1<i:=fun i hi=>(hF3 i hi).elim (hF i) (fun h=>by omega);have hU3':af no w w3:=(hW.trans hUa (fun _ _ h=>h)).trans hU3 (fun i hi h=>by have:=hF i h;omega);refine⟨(hUa.others.trans (hS2.others hU3)).trans (KeepsOthers.setCell _ _ _),⟨?_,?_⟩,hU3'.stored (Nat.le_refl _) _ _,p',c',⟨?_,?_⟩,?_,by have:=hU3.size;have:=(Bm w3 w.heap.size 0 (.slice p' (lp.length+(it x).length) c')).size;omega,hsl⟩
   ·exact((Bm w3 _ 0 _).ai _ (by have:=hU3.size;omega) (by omega)).trans ((hU3.ai _ (by omega) (fun h=>by have:=hF _ h;omega)).trans (hUa.ai _ (by have:=hL2.U.size;exact hKp) id))
   ·exact((Bm w3 _ 0 _).ai _ (by have:=hU3.size;omega) (by omega)).trans ((hU3.ai _ (by omega) (fun h=>by have:=hF _ h;omega)).trans (hUa.ai _ (by have:=hW.size;omega) id))
   ·rw[List.flatMap_append,hlp,List.flatMap_singleton,List.length_append];exact World.cell?_setCell_same' _ _ _ (by rw[hc3];rfl)
   ·rw[World.frozen?_setCell];exact hf3
   ·rw[List.flatMap_append,hlp,List.flatMap_singleton,List.length_append,List.map_append];exact hS3.ae (Bm w3 _ 0 _) (fun i hi e=>by have:=hsl i hi;omega)
 case done=>
  rintro D ys W hD rfl ⟨hW,p,c,⟨hca,hfa⟩,hS,_,hF⟩ hK;obtain⟨l0,hl0⟩:∃l0,L.reverse.flatMap it=l0:=⟨_,rfl⟩;rw[hl0]at hca hS
  gi_wp2
  refine⟨by simp,.inl ⟨_,_,rfl,run_takeDeferred hK,?_⟩⟩;rw[hl0];refine⟨_,results_tmp rfl _ _ _,p,c,rfl,?_⟩;have hg:=grownBy_putObj' W D (.deferred none);exact⟨hW.grown hg (fun r e=>by cases e;simp at hD;omega),hS.grown hg (fun r e=>by cases e;exact⟨_,hK,rfl⟩),fun i hi=>by have:=hF i hi;omega⟩
 case stop=>
  rintro D c pre W hD hpre h;exact h.elim
end Go.Proofs
namespace Go.Dav
open Go.Proofs
theorem mF:mf Tryz.prog 78 3 3 (.int .i64 0):=⟨by kernel_rfl,by kernel_rfl,by kernel_rfl,by kernel_rfl⟩
abbrev aR:=List (Int×Int)
def bM (L:aR) (p:Nat):List Int:=(L.filter (fun e=>decide (e.1=(p:Int)))).map (·.2)
abbrev oc:=Nat×Nat×List Int
def Gx:Ob oc:=fun w F s=>cX s.1 w F s.2
instance Frame.lvl:Frame Gx where
 ae:=fun{_ _ _ _ s} h k hG=>(Frame.fq s.1).ae h k hG
 lt:=fun{_ _ s} h=>(Frame.fq s.1).lt h
def wO (b:Nat):Value:=.pointer (some ⟨b,0,none⟩)
def mJ (r:Nat) (x:List Value×Nat):List Value:=x.1++[.map (some r),.int .i64 x.2]
abbrev jM (q r:Nat):Ob ((((Int->Option Int)×Nat)×(List Value×Nat))×List oc):=au (au (aS r (Value.int .i64)) (Rw q 265 (mJ r))) (Fam Gx)
def gS (B:Nat->Nat) (m:Nat) (L:aR):List oc:=(List.range 8).map fun i=>(B i,m,bM L i)
def ns (B:Nat->Nat):List Value:=(List.range 8).map fun i=>wO (B i)
structure gI (x:Nat×aR) (g:(Int->Option Int)×Nat):Prop where
 map:∀k v,g.1 k=some v↔(v,k)∈x.2
 len:g.2=x.2.length
 one:(x.2.map (·.2)).Nodup
 e9:∀e∈x.2,0<=e.1/\e.1<8
 room:x.2.length<=x.1
 gT:1<=x.1/\x.1<=1024
def dI (q:Nat):Ob (Nat×aR):=fun w F x=>∃r B g,jM q r w F ((g,(ns B,x.1)),gS B x.1 x.2)/\gI x g
instance Frame.pq (q:Nat):Frame (dI q) where
 ae:=fun⟨r,B,g,h,k⟩ hU hG=>⟨r,B,g,Frame.star.ae h hU hG,k⟩
 lt:=fun⟨_,_,_,h,_⟩=>Frame.star.lt h
section
variable {q r:Nat} {w w':World} {F:Fp} {x:Nat×aR} {g:(Int->Option Int)×Nat} {B:Nat->Nat}
theorem AB {y:(((Int->Option Int)×Nat)×(List Value×Nat))×List oc} (h:jM q r w F y):aE w q (mJ r y.1.2) 265:=by
 obtain⟨F1,F2,⟨F3,F4,_,h1,_⟩,_⟩:=h;exact h1.ai
theorem EO {y:(((Int->Option Int)×Nat)×(List Value×Nat))×List oc} (h:jM q r w F y):∃F1,aS r (Value.int .i64) w F1 y.1.1:=by
 obtain⟨F1,F2,⟨F3,F4,h1,_⟩,_⟩:=h;exact⟨_,h1⟩
theorem wM {y:(((Int->Option Int)×Nat)×(List Value×Nat))×List oc} (h:jM q r w F y) (hl:y.1.2.1.length=8):w.cell? ((⟨q,0,none⟩:Addr).add 8)=some (.map (some r))/\w.cell? ((⟨q,0,none⟩:Addr).add 9)=some (.int .i64 y.1.2.2):=by
 have hb:=AB h;exact⟨hb.cell (by simp[mJ,hl]),hb.cell (by simp[mJ,hl])⟩
theorem sw (B:Nat->Nat):(ns B).length=8:=by simp[ns]
def mK (x:Nat×aR) (k:Int):Int×Bool:=match x.2.find? (fun e=>decide (e.2=k))with
 | none=>(0,false)
 | some e=>(e.1,true)
theorem wG:∀{L:aR} (_:(L.map (·.2)).Nodup) {a b:Int×Int} (_:a∈L) (_:b∈L) (_:a.2=b.2),a=b
 | c::L,hn,a,b,ha,hb,h=>by
  rw[List.map_cons,List.nodup_cons]at hn;rcases List.mem_cons.1 ha with ha|ha<;>rcases List.mem_cons.1 hb with hb|hb
  ·rw[ha,hb]
  ·exact absurd (List.mem_map.2 ⟨b,hb,by rw[<-h,ha]⟩) hn.1
  ·exact absurd (List.mem_map.2 ⟨a,ha,by rw[h,hb]⟩) hn.1
  ·exact wG hn.2 ha hb h
theorem gI.prio (h:gI x g) (k:Int):((g.1 k).map (Value.int .i64)).getD (.int .i64 0)=.int .i64 (mK x k).1/\(g.1 k).isSome=(mK x k).2:=by
 unfold mK
 cases hf:x.2.find? (fun e=>decide (e.2=k))with
 | none=>
  have:g.1 k=none:=by
   cases hg:g.1 k with
   | none=>rfl
   | some v=>
    have:=List.find?_eq_none.1 hf _ ((h.map k v).1 hg);simp at this
  simp[this]
 | some e=>
  have hm:=List.mem_of_find?_eq_some hf;have hk:=List.find?_some hf;simp at hk;have:g.1 k=some e.1:=(h.map k e.1).2 (by rw[<-hk];exact hm);simp[this]
theorem aeK (h:dI q w F x):Calls Tryz.prog 74 #[.pointer (some ⟨q,0,none⟩)] w fun e w'=>e=.returned (.int .i64 x.2.length)/\w'=w:=by
 obtain⟨r,B,g,h,hi⟩:=h;obtain⟨F1,hm⟩:=EO h;refine u74 ?_;rw[t74];refine⟨fun h=>by simp at h,fun _=>⟨_,rfl,_,(wM h (sw B)).1,_,fun ty=>Ff mF hm ty,by simp only[hi.len],rfl⟩⟩
theorem aeN (h:dI q w F x) (k:Int):Calls Tryz.prog 323 #[.pointer (some ⟨q,0,none⟩),.int .i64 k] w fun e w'=>e=.returned (.tuple #[.int .i64 (mK x k).1,.bool (mK x k).2])/\w'=w:=by
 obtain⟨r,B,g,h,hi⟩:=h;obtain⟨F1,hm⟩:=EO h;refine alo ?_;rw[t323];refine⟨fun h=>by simp at h,fun _=>⟨_,rfl,_,(wM h (sw B)).1,(mK x k).1,(mK x k).2,?_,rfl,rfl⟩⟩;rw[iz mF hm k true,<-(hi.prio k).1,<-(hi.prio k).2];rfl
def L8:List (Fin 8):=[0,1,2,3,4,5,6,7]
theorem acV {i:Nat} {v:Fin 8} (h:L8[i]?=some v):v.val=i:=by
 have hi:i<8:=(List.getElem?_eq_some_iff.1 h).1;have hA:∀i:Fin 8,L8[i.val]?=some i:=by decide
 have:=hA ⟨i,hi⟩;simp only at this;rw[h]at this;cases this;rfl
def lN (L:aR):List Int:=L8.reverse.flatMap fun i=>bM L i.val
def kb (x:Nat×aR):Int×Int:=match lN x.2 with
 | []=>(0,12)
 | a::_=>(a,0)
theorem DK {α:Type} {f:α->List Int}:∀{l:List α},(l.find? (fun i=>decide (0<(f i).length))=none/\l.flatMap f=[])∨∃i a t t',l.find? (fun i=>decide (0<(f i).length))=some i/\i∈l/\f i=a::t/\l.flatMap f=a::t'
 | []=>.inl ⟨rfl,rfl⟩
 | i::l=>by
  cases hf:f i with
  | nil=>
   rcases DK (f:=f) (l:=l)with⟨h1,h2⟩|⟨j,a,t,t',h1,h2,h3,h4⟩
   ·exact .inl ⟨by simp[List.find?_cons,hf,h1],by simp[hf,h2]⟩
   ·exact .inr ⟨j,a,t,t',by simp[List.find?_cons,hf,h1],List.mem_cons_of_mem _ h2,h3,by simp[hf,h4]⟩
  | cons a t=>exact .inr ⟨i,a,t,t++l.flatMap f,by simp[List.find?_cons,hf],List.mem_cons_self,hf,by simp[hf]⟩
theorem Ai {m:Nat} {L:aR}:(gS B m L).length=8:=by simp[gS]
theorem EM (h:jM q r w F ((g,(ns B,x.1)),gS B x.1 x.2)) (i:Fin 8):∃F1,cX (B i.val) w F1 (x.1,bM x.2 i.val):=by
 obtain⟨F2,h2,_⟩:=au.right h;obtain⟨F1,h1,_⟩:=Fam.at h2 (i:=i.val) (by rw[Ai];exact i.isLt);refine⟨F1,?_⟩;have:(gS B x.1 x.2)[i.val]'(by rw[Ai];exact i.isLt)=(B i.val,x.1,bM x.2 i.val):=by simp[gS]
 rw[this]at h1;exact h1
theorem AD (h:jM q r w F ((g,(ns B,x.1)),gS B x.1 x.2)):∀i v,L8[i]?=some v->w.cell? ⟨q,i,none⟩=some (.pointer (some ⟨B v.val,0,none⟩)):=by
 intro i v hv;have h1:=acV hv;have h2:=v.isLt;rw[vB (AB h)];subst h1;simp only[mJ];rw[List.getElem?_append_left (by rw[sw];exact h2)];simp[ns,wO,h2]
theorem Xp (h:jM q r w F ((g,(ns B,x.1)),gS B x.1 x.2)):Calls Tryz.prog 365 #[.pointer (some ⟨q,0,none⟩)] w fun e w'=>
  e=.returned (qy (fun v:Fin 8=>B v.val) (fun v=>(bM x.2 v.val).length) L8.reverse)/\af no w w':=by
 refine Tryz.ah7 _ _ L8 rfl q w (AB h).lt (AD h) fun v W hW=>?_;obtain⟨F1,h1⟩:=EM h v;exact aeY ((Frame.fq _).ae h1 hW (fun _ _ h=>h))
theorem ah8 (h:dI q w F x):Calls Tryz.prog 309 #[.pointer (some ⟨q,0,none⟩)] w fun e w'=>e=.returned (.tuple #[.int .i64 (kb x).1,.int .i64 (kb x).2])/\af no w w':=by
 obtain⟨r,B,g,h,hi⟩:=h;refine ak9 ?_;rw[t309];refine⟨(Xp h).mono ?_⟩;rintro e w1 ⟨rfl,hU⟩;unfold qy kb lN;rcases DK (f:=fun v:Fin 8=>bM x.2 v.val) (l:=L8.reverse)with⟨h1,h2⟩|⟨j,a,t,t',h1,h2,h3,h4⟩
 ·rw[h1,h2];exact⟨_,_,rfl,fun _=>⟨rfl,hU⟩,fun k=>by simp at k⟩
 ·rw[h1,h4];refine⟨_,_,rfl,fun k=>by simp at k,fun _=>?_⟩;obtain⟨F1,k1⟩:=EM h j;refine⟨(ES ((Frame.fq _).ae k1 hU (fun _ _ h=>h))).mono ?_⟩;rintro e w2 ⟨rfl,hU2⟩;refine⟨_,_,rfl,?_,hU.and hU2⟩;simp[bK,h3]
theorem adi (h:gI x g) (p:Nat):(bM x.2 p).length<=1024:=by
 have h1:=h.room;have h2:=h.gT;have h3:(bM x.2 p).length<=x.2.length:=by unfold bM;rw[List.length_map];exact List.length_filter_le _ _
 omega
theorem ac9 (h:dI q w F x):Calls Tryz.prog 182 #[.pointer (some ⟨q,0,none⟩)] w fun e w'=>∃p c,e=.returned (.slice p (lN x.2).length c)/\Loc w w' 3 p c (lN x.2):=by
 obtain⟨r,B,g,h,hi⟩:=h;refine Tryz.ac8 (fun v:Fin 8=>B v.val) (fun v=>bM x.2 v.val) L8 rfl q w (AB h).lt kz (AD h) (fun v=>adi hi v.val) fun v W hW=>?_;obtain⟨F1,k1⟩:=EM h v;obtain⟨g,y,h1,h2,h3,h4,h5⟩:=(Frame.fq _).ae k1 hW (fun _ _ h=>h);have h4:view g=bM x.2 v.val:=h4;rw[<-h4];exact Em h1 h2
theorem Wh {y:List Value×Nat} {ls:List oc} (h:jM q r w F ((g,y),ls)):∃F1,aS r (Value.int .i64) w F1 g/\∀w' g',aa (aS r (Value.int .i64)) w w' F1 g'->aa (jM q r) w w' F ((g',y),ls):=by
 obtain⟨F1,h1,k1⟩:=au.left h;obtain⟨F2,h2,k2⟩:=au.left h1;exact⟨F2,h2,fun w' g' ht=>k1 _ _ (k2 _ _ ht)⟩
theorem adk {m:Nat} {L L':aR} {i:Nat} (hi:i<8) {l':List Int} (h1:bM L' i=l') (h2:∀j,j≠i->bM L' j=bM L j):(gS B m L).set i (B i,m,l')=gS B m L':=by
 apply List.ext_getElem
 ·simp[gS]
 ·intro j a b;rw[List.getElem_set];simp only[gS,List.getElem_map,List.getElem_range];split
  ·rename_i h;subst h;rw[h1]
  ·rename_i h;rw[h2 j (by omega)]
theorem EN {m:Nat} {L:aR} {y:List Value×Nat} (h:jM q r w F ((g,y),gS B m L)) {i:Nat} (hi:i<8):∃F1,cX (B i) w F1 (m,bM L i)/\
  ∀w' l',aa (cX (B i)) w w' F1 (m,l')->∀L',bM L' i=l'->(∀j,j≠i->bM L' j=bM L j)->aa (jM q r) w w' F ((g,y),gS B m L'):=by
 obtain⟨F2,h2,k2⟩:=au.right h;obtain⟨F1,h1,_,k1⟩:=Fam.at h2 (i:=i) (by rw[Ai];exact hi);have:(gS B m L)[i]'(by rw[Ai];exact hi)=(B i,m,bM L i):=by simp[gS]
 rw[this]at h1;refine⟨F1,h1,fun w' l' ht L' e1 e2=>?_⟩;have:=k2 _ _ (k1 w' (B i,m,l') ht);rw[adk hi e1 e2]at this;exact this
theorem aa.pq (h:aa (jM q r) w w' F ((g,(ns B,x.1)),gS B x.1 x.2)) (k:gI x g):aa (dI q) w w' F x:=by
 obtain⟨F',h1,h2⟩:=h;exact⟨F',⟨r,B,g,h1,k⟩,h2⟩
theorem aa.glue {σ:Type} {A:Ob σ} {s2:σ} {w1 w2 w3:World} {F3:Fp} (h0:af F w w1) (u3:af F w1 w2) (f3:∀i,F3 i->F i∨w1.heap.size<=i) (k:aa A w2 w3 F3 s2):aa A w w3 F s2:=by
 obtain⟨F',h1,h2,h3⟩:=k;have hs:=h0.size;have hs2:=u3.size;refine⟨F',h1,(h0.and u3).trans h2 (fun i hi hF=>(f3 i hF).elim id (fun h=>by omega)),fun i hF=>?_⟩;rcases h3 i hF with h|h
 ·exact(f3 i h).imp id (fun h=>by omega)
 ·exact .inr (by omega)
def bR (x:Nat×aR) (k:Int):Bool:=(x.2.map (·.2)).contains k
def eZ (x:Nat×aR) (p k:Int):Int:=if p<0∨8<=p then 2 else if bR x k then 6 else if x.1<=x.2.length then 5 else 0
def fT (x:Nat×aR) (p k:Int):Nat×aR:=if eZ x p k=0 then(x.1,x.2++[(p,k)])else x
def nP (x:Nat×aR) (k:Int):Int:=if bR x k then 0 else 4
def dz (x:Nat×aR) (k:Int):Nat×aR:=(x.1,x.2.filter fun e=>decide (e.2≠k))
def tQ (x:Nat×aR) (k:Int):Int:=nP x k
def gV (x:Nat×aR) (k:Int):Nat×aR:=if bR x k then(x.1,(dz x k).2++[((mK x k).1,k)])else x
def qm (x:Nat×aR):Int:=(kb x).2
def iw (x:Nat×aR):Nat×aR:=if qm x=0 then gV x (kb x).1 else x
theorem Ah (L:aR) (p k:Int) (i:Nat):bM (L++[(p,k)]) i=bM L i++(if p=(i:Int)then[k]else[]):=by
 unfold bM;rw[List.filter_append,List.map_append];congr 1;by_cases h:p=(i:Int)<;>simp[h]
theorem Ag (L:aR) (k:Int) (i:Nat):bM (L.filter fun e=>decide (e.2≠k)) i=(bM L i).filter fun a=>decide (a≠k):=by
 unfold bM;rw[List.filter_map,List.filter_filter,List.filter_filter];congr 1;apply List.filter_congr;intro e _;simp[Bool.and_comm]
theorem oY {L:aR} {i:Nat} {k:Int}:k∈bM L i↔((i:Int),k)∈L:=by
 unfold bM;simp
theorem Ep {L:aR} (h:(L.map (·.2)).Nodup) (i:Nat):(bM L i).Nodup:=by
 unfold bM;exact List.Nodup.sublist (List.Sublist.map _ List.filter_sublist) h
theorem fE {k:Int}:bR x k=true↔∃p,(p,k)∈x.2:=by
 unfold bR;simp
theorem gI.tp (h:gI x g) (k:Int):(g.1 k).isSome=bR x k:=by
 rw[Bool.eq_iff_iff,fE,Option.isSome_iff_exists];exact⟨fun⟨v,hv⟩=>⟨v,(h.map k v).1 hv⟩,fun⟨v,hv⟩=>⟨v,(h.map k v).2 hv⟩⟩
theorem gI.push (h:gI x g) {p k:Int} (hp:0<=p/\p<8) (hk:bR x k=false) (hl:x.2.length<x.1):gI (x.1,x.2++[(p,k)]) (dp g k p):=by
 have hs:=h.tp k;rw[hk]at hs;have hnone:g.1 k=none:=by cases hg:g.1 k<;>simp_all
 have hno:∀v,(v,k)∉x.2:=fun v hv=>by have:=fE.2 ⟨v,hv⟩;rw[hk]at this;cases this
 refine⟨?_,?_,?_,?_,?_,h.gT⟩
 ·intro a v;simp only[dp];split
  ·rename_i e;subst e;simp only[List.mem_append,List.mem_singleton,Prod.mk.injEq,and_true,Option.some.injEq];exact⟨fun e=>.inr e.symm,fun e=>e.elim (fun e=>absurd e (hno v)) (fun e=>e.symm)⟩
  ·rename_i e;rw[h.map];simp[e]
 ·simp only[dp,hs,List.length_append,List.length_singleton,h.len];simp
 ·rw[List.map_append,List.nodup_append];refine⟨h.one,by simp,fun a ha b hb e=>?_⟩;simp at hb;subst hb;subst e;obtain⟨e,he,rfl⟩:=List.mem_map.1 ha;exact hno e.1 he
 ·intro e he;rcases List.mem_append.1 he with he|he
  ·exact h.e9 e he
  ·simp at he;subst he;exact hp
 ·simp;omega
theorem Wf (h:dI q w F x) (p k:Int):Calls Tryz.prog 320 #[.pointer (some ⟨q,0,none⟩),.int .i64 p,.int .i64 k] w fun e w'=>e=.returned (.int .i64 (eZ x p k))/\aa (dI q) w w' F (fT x p k):=by
 obtain⟨r,B,g,h,hi⟩:=id h;rename_i hO;obtain⟨F1,hm⟩:=EO h;have hc:=wM h (sw B);refine alk ?_;rw[t320];have hlk:=iz mF hm k true;simp only[if_true,(hi.prio k).1,hi.tp k]at hlk;refine⟨fun h=>by simp at h,fun _=>⟨_,rfl,_,hc.1,_,_,hlk,fun h1=>⟨fun h2=>?_,fun h2=>⟨fun h3=>?_,fun h3 w1 q1 q2 q3 q4=>?_⟩⟩,fun h1=>?_⟩⟩
 ·have e:eZ x p k=2:=by simp at h2;unfold eZ;rw[if_pos (.inr h2)]
  rw[fT,e];exact⟨rfl,aa.same hO⟩
 ·simp at h1 h2;have e:eZ x p k=6:=by unfold eZ;rw[if_neg (by omega),if_pos h3]
  rw[fT,e];exact⟨rfl,aa.same hO⟩
 ·simp at h1 h2;have hU:=af.same no q1 q2 q3 q4;have h':=Frame.star.ae h hU (fun _ _ h=>h);have hO':=(Frame.pq q).ae hO hU (fun _ _ h=>h);obtain⟨F2,hm2,km⟩:=Wh h';have hc':=wM h' (sw B);refine⟨_,rfl,_,hc'.1,_,fun ty=>Ff mF hm2 ty,_,rfl,_,hc'.2,fun h4=>?_,fun h4=>?_⟩
  ·simp only[hi.len]at h4;simp at h4;have e:eZ x p k=5:=by unfold eZ;rw[if_neg (by omega),if_neg (by rw[h3];simp),if_pos (by omega)]
   rw[fT,e];exact⟨rfl,aa.quiet hO hU⟩
  ·simp only[hi.len]at h4;simp at h4;have e:eZ x p k=0:=by unfold eZ;rw[if_neg (by omega),if_neg (by rw[h3];simp),if_neg (by omega)]
   obtain⟨w2,hr,ht⟩:=mQ mF hm2 k p;refine⟨_,rfl,_,hc'.1,w2,hr,_,rfl,⟨h1,h2⟩,?_⟩;obtain⟨F3,h3',u3,f3⟩:=km _ _ ht;obtain⟨i,rfl⟩:∃i:Nat,p=i:=⟨p.toNat,by omega⟩;have hi8:i<8:=by omega
   obtain⟨F4,hq4,k4⟩:=EN h3' hi8
   have hcell:w2.cell? (((⟨q,0,none⟩:Addr).add 0).add (i*1))=some (.pointer (some ⟨B i,0,none⟩)):=by
    have:=AD (x:=x) h3' i ⟨i,hi8⟩ (by
     have hA:∀i:Fin 8,L8[i.val]?=some i:=by decide
     exact hA ⟨i,hi8⟩)
    simpa [add_lit]using this
   refine⟨_,hcell,⟨(tR hq4 k).mono ?_⟩⟩;rintro e1 w3 ⟨rfl,ht3⟩;have hkn:k∉bM x.2 i:=fun hm=>by have:=fE.2 ⟨_,oY.1 hm⟩;rw[h3]at this;cases this
   have hll:(bM x.2 i).length<=x.2.length:=by unfold bM;rw[List.length_map];exact List.length_filter_le _ _
   have e2:fy (x.1,bM x.2 i) k=0:=by unfold fy;simp only;rw[if_neg hkn,if_neg (by omega)]
   rw[iy,if_pos e2]at ht3;rw[e2,fT,e,if_pos rfl];have T:=aa.pq (x:=(x.1,x.2++[((i:Int),k)])) (aa.glue (hU.mono (fun _ _ h=>h.elim)) u3 f3 (k4 _ _ ht3 (x.2++[((i:Int),k)]) (by rw[Ah,if_pos rfl]) (fun j hj=>by rw[Ah,if_neg (by omega),List.append_nil]))) (hi.push ⟨h1,by omega⟩ h3 (by omega));exact⟨_,rfl,rfl,T⟩
 ·have e:eZ x p k=2:=by simp at h1;unfold eZ;rw[if_pos (.inl h1)]
  rw[fT,e];exact⟨rfl,aa.same hO⟩
theorem erase_eq {l:List Int} (h:l.Nodup) (k:Int):l.erase k=l.filter fun a=>decide (a≠k):=by
 rw[h.erase_eq_filter];apply List.filter_congr;intro a _;rw[Bool.eq_iff_iff];simp
theorem gI.drop (h:gI x g) {k p:Int} (hk:(p,k)∈x.2):gI (dz x k) (eX g k):=by
 have hs:(g.1 k).isSome=true:=by rw[h.tp];exact fE.2 ⟨p,hk⟩
 have hl:(x.2.filter fun e=>decide (e.2≠k)).length+1=x.2.length:=by
  have h1:∀L:aR,(L.map (·.2)).Nodup->(p,k)∈L->(L.filter fun e=>decide (e.2≠k)).length+1=L.length:=by
   intro L hn hm
   have h2:(L.filter fun e=>decide (e.2≠k)).map (·.2)=(L.map (·.2)).erase k:=by
    rw[erase_eq hn,List.filter_map];rfl
   have h3:=congrArg List.length h2;have hm2:k∈L.map (·.2):=List.mem_map.2 ⟨_,hm,rfl⟩;rw[List.length_map,List.length_erase_of_mem hm2,List.length_map]at h3;have:=List.length_pos_of_mem hm;omega
  exact h1 x.2 h.one hk
 refine⟨?_,?_,?_,?_,?_,h.gT⟩
 ·intro a v;simp only[eX,dz];split
  ·rename_i e;subst e;simp
  ·rename_i e;rw[h.map];simp[e]
 ·simp only[eX,hs,dz,h.len,if_true];omega
 ·exact List.Nodup.sublist (List.Sublist.map _ List.filter_sublist) h.one
 ·intro e he;exact h.e9 e (List.mem_filter.1 he).1
 ·have:=h.room;simp only[dz];omega
theorem wN {k p:Int} (hn:(x.2.map (·.2)).Nodup) (hk:(p,k)∈x.2):mK x k=(p,true):=by
 unfold mK
 cases hf:x.2.find? (fun e=>decide (e.2=k))with
 | none=>
  have:=List.find?_eq_none.1 hf _ hk
  simp at this
 | some e=>
  have hm:=List.mem_of_find?_eq_some hf;have h1:=List.find?_some hf;simp at h1;have:=wG hn hm hk (by simpa using h1);simp[this]
theorem V9 (h:dI q w F x) (k:Int):Calls Tryz.prog 321 #[.pointer (some ⟨q,0,none⟩),.int .i64 k] w fun e w'=>e=.returned (.int .i64 (nP x k))/\aa (dI q) w w' F (if bR x k then dz x k else x):=by
 obtain⟨r,B,g,h,hi⟩:=id h;rename_i hO;obtain⟨F1,hm,km⟩:=Wh h;have hc:=wM h (sw B);refine alm ?_;rw[t321];have hlk:=iz mF hm k true;simp only[if_true,(hi.prio k).1,hi.tp k]at hlk;refine⟨fun h=>by simp at h,fun _=>⟨_,rfl,_,hc.1,_,_,hlk,fun h1=>?_,fun h1=>?_⟩⟩
 ·simp at h1;rw[nP,h1];exact⟨rfl,aa.same hO⟩
 ·have h1:bR x k=true:=by simpa using h1
  obtain⟨p,hp⟩:=fE.1 h1;have hr:=hi.e9 _ hp;rw[wN hi.one hp];obtain⟨w2,hrun,ht⟩:=ph mF hm k 3 0;refine⟨_,rfl,_,hc.1,w2,hrun,_,rfl,⟨hr.1,hr.2⟩,?_⟩;obtain⟨F3,h3',u3,f3⟩:=km _ _ ht;obtain⟨i,rfl⟩:∃i:Nat,p=i:=⟨p.toNat,by have:=hr.1;omega⟩;have hi8:i<8:=by have:=hr.2;simp at this;omega
  obtain⟨F4,hq4,k4⟩:=EN h3' hi8
  have hcell:w2.cell? (((⟨q,0,none⟩:Addr).add 0).add (i*1))=some (.pointer (some ⟨B i,0,none⟩)):=by
   have:=AD (x:=x) h3' i ⟨i,hi8⟩ (by
    have hA:∀i:Fin 8,L8[i.val]?=some i:=by decide
    exact hA ⟨i,hi8⟩)
   simpa [add_lit]using this
  refine⟨_,hcell,⟨(Wm hq4 k).mono ?_⟩⟩;rintro e1 w3 ⟨rfl,ht3⟩;have hkn:k∈bM x.2 i:=oY.2 hp;have e2:oL (x.1,bM x.2 i) k=0:=by unfold oL;rw[if_pos hkn]
  rw[e2,nP,h1];refine⟨_,rfl,rfl,?_⟩;have e3:=erase_eq (Ep hi.one i) k
  have T:=aa.pq (x:=dz x k) (aa.glue (af.refl _ _) u3 f3 (k4 _ _ ht3 (dz x k).2 (by rw[e3];exact Ag _ _ _) (fun j hj=>by
   rw[dz,Ag];apply List.filter_eq_self.2;intro a ha;rw[decide_eq_true_eq];rintro rfl;have:=wG hi.one (oY.1 ha) hp rfl;simp at this;omega))) (hi.drop hp)
  exact T
theorem R5 (x:Nat×aR) (k:Int):bR (dz x k) k=false:=by
 cases h:bR (dz x k) k with
 | false=>rfl
 | true=>
  obtain⟨p,hp⟩:=fE.1 h;simp[dz]at hp
theorem gI.R3 (h:gI x g) {p k:Int} (hk:(p,k)∈x.2):(dz x k).2.length+1=x.2.length:=by
 have h1:=(h.drop hk).len;have hs:(g.1 k).isSome=true:=by rw[h.tp];exact fE.2 ⟨p,hk⟩
 have:=List.length_pos_of_mem hk;simp only[eX,hs,if_true,h.len]at h1;omega
theorem gI.back (h:gI x g) {p k:Int} (hk:(p,k)∈x.2):gI (gV x k) g:=by
 have h1:=h.drop hk;have h2:=h.R3 hk;have h3:=h.room;have h4:=h1.push (h.e9 _ hk) (R5 x k) (by simp only[dz]at h2⊢;omega);have hs:(g.1 k).isSome=true:=by rw[h.tp];exact fE.2 ⟨p,hk⟩
 have hg:dp (eX g k) k p=g:=by
  apply Prod.ext
  ·funext j;simp only[dp,eX];split
   ·rename_i e;subst e;exact((h.map _ _).2 hk).symm
   ·rfl
  ·have:=h.len;have:=List.length_pos_of_mem hk;simp[dp,eX,hs];omega
 rw[hg]at h4;rw[gV,if_pos (fE.2 ⟨p,hk⟩),wN h.one hk];exact h4
theorem aeO (h:dI q w F x):Calls Tryz.prog 310 #[.pointer (some ⟨q,0,none⟩)] w fun e w'=>e=.returned (.int .i64 (qm x))/\aa (dI q) w w' F (iw x):=by
 obtain⟨r,B,g,h,hi⟩:=id h;rename_i hO;refine ala ?_;rw[t310];refine⟨(Xp h).mono ?_⟩;rintro e w1 ⟨rfl,hU⟩;unfold qy;rcases DK (f:=fun v:Fin 8=>bM x.2 v.val) (l:=L8.reverse)with⟨h1,h2⟩|⟨j,a,t,t',h1,h2,h3,h4⟩
 ·rw[h1];have e:qm x=12:=by rw[qm,kb,lN,h2]
  rw[iw,e];exact⟨_,_,rfl,fun _=>⟨rfl,aa.quiet hO hU⟩,fun k=>by simp at k⟩
 ·rw[h1];have et:kb x=(a,0):=by rw[kb,lN,h4]
  have e:qm x=0:=by rw[qm,et]
  rw[iw,e,if_pos rfl,et];refine⟨_,_,rfl,fun k=>by simp at k,fun _=>?_⟩;have h':=Frame.star.ae h hU (fun _ _ h=>h);obtain⟨F4,hq4,k4⟩:=EN h' j.isLt;refine⟨(aeZ hq4).mono ?_⟩;rintro e1 w3 ⟨rfl,ht3⟩;have h3:bM x.2 j.val=a::t:=h3;have e5:FX (x.1,bM x.2 j.val)=0:=by simp[FX,bK,h3]
  have e6:FY (x.1,bM x.2 j.val)=(x.1,t++[a]):=by simp[FY,h3]
  rw[e5];rw[e6]at ht3;have hka:((j.val:Int),a)∈x.2:=oY.1 (by rw[h3];exact List.mem_cons_self);have hb:gV x a=(x.1,(dz x a).2++[((j.val:Int),a)]):=by rw[gV,if_pos (fE.2 ⟨_,hka⟩),wN hi.one hka]
  have hnd:=Ep hi.one j.val;rw[h3,List.nodup_cons]at hnd
  have T:=aa.pq (x:=gV x a) (g:=g) (B:=B) (by
   rw[hb]
   exact aa.glue (F3:=F) (hU.mono (fun _ _ h=>h.elim)) (af.refl _ _) (fun i h=>.inl h) (k4 _ _ ht3 ((dz x a).2++[((j.val:Int),a)])
    (by
     rw[Ah,if_pos rfl,dz,Ag,h3,List.filter_cons];simp only[ne_eq,not_true_eq_false,decide_false,Bool.false_eq_true,if_false];congr 1;apply List.filter_eq_self.2;intro u hu;rw[decide_eq_true_eq];rintro rfl;exact hnd.1 hu)
    (fun i hij=>by
     rw[Ah,if_neg (by omega),List.append_nil,dz,Ag];apply List.filter_eq_self.2;intro u hu;rw[decide_eq_true_eq];rintro rfl;have:=wG hi.one (oY.1 hu) hka rfl;simp at this;omega))) (hi.back hka)
  exact⟨_,rfl,rfl,T⟩
theorem aev (h:dI q w F x) (k:Int):Calls Tryz.prog 243 #[.pointer (some ⟨q,0,none⟩),.int .i64 k] w fun e w'=>e=.returned (.int .i64 (tQ x k))/\aa (dI q) w w' F (gV x k):=by
 refine akn ?_;rw[t243];refine⟨(aeN h k).mono ?_⟩;rintro e w1 ⟨rfl,rfl⟩;refine⟨_,_,rfl,⟨(V9 h k).mono ?_⟩⟩;rintro e w2 ⟨rfl,F3,h3,u3,f3⟩;obtain⟨r,B,g,_,hi⟩:=h
 cases hk:bR x k with
 | false=>
  have e:tQ x k=4:=by rw[tQ,nP,hk];rfl
  rw[hk]at h3;rw[e,gV,hk];have e':nP x k=4:=e;rw[e']
  exact⟨_,rfl,fun _=>⟨rfl,F3,h3,u3,f3⟩,fun h=>by simp at h⟩
 | true=>
  have e:tQ x k=0:=by rw[tQ,nP,hk];rfl
  rw[hk,if_pos rfl]at h3;have e':nP x k=0:=e;rw[e,e',gV,if_pos hk];refine⟨_,rfl,fun h=>by simp at h,fun _=>⟨(Wf h3 _ k).mono ?_⟩⟩;rintro e w4 ⟨rfl,T4⟩;obtain⟨p,hp⟩:=fE.1 hk;have hr:=hi.e9 _ hp;have hl:=hi.R3 hp;have hm:=hi.room
  have e7:eZ (dz x k) (mK x k).1 k=0:=by
   rw[wN hi.one hp,eZ,if_neg (by simp only at hr⊢;omega),if_neg (by rw[R5];simp),if_neg (by simp only[dz]at hl⊢;omega)]
  rw[fT,if_pos e7]at T4;rw[e7];exact⟨_,rfl,rfl,aa.glue (af.refl _ _) u3 f3 T4⟩
def tN (n:Int):Prop:=1<=n/\n<=1024
def jr (B:Nat->Nat) (j:Nat):List Value:=((List.range j).map fun i=>wO (B i))++List.replicate (8-j) (.pointer none)
def tF (B:Nat->Nat) (m j:Nat):List oc:=(List.range j).map fun i=>(B i,m,[])
theorem YH {j b m:Nat} (hj:j<8):aI (mJ r (jr B j,m)) j [wO b]=mJ r (jr (fun i=>if i=j then b else B i) (j+1),m):=by
 have h0:∀(l:List Value) (v:Value),j<l.length->aI l j [v]=l.set j v:=fun l v h=>by
  rw[aI,List.set_eq_take_append_cons_drop,if_pos h];simp
 have hl:(jr B j).length=8:=by simp[jr];omega
 have hl':(jr (fun i=>if i=j then b else B i) (j+1)).length=8:=by simp[jr];omega
 rw[h0 _ _ (by simp[mJ,hl];omega)];unfold mJ;rw[List.set_append_left _ _ (by simp only;omega)];congr 1;show(jr B j).set j (wO b)=jr (fun i=>if i=j then b else B i) (j+1);have e:8-j=(8-(j+1))+1:=by omega
 unfold jr;rw[e,List.replicate_succ,List.set_append_right _ _ (by simp),List.length_map,List.length_range,Nat.sub_self,List.set_cons_zero,List.range_succ,List.map_append,List.append_assoc];congr 1
 ·apply List.map_congr_left;intro i hi;have:=List.mem_range.1 hi;simp only;rw[if_neg (by omega)]
 ·simp
theorem adj {j b m:Nat}:tF B m j++[(b,m,[])]=tF (fun i=>if i=j then b else B i) m (j+1):=by
 unfold tF;rw[List.range_succ,List.map_append];congr 1
 ·apply List.map_congr_left;intro i hi;have:=List.mem_range.1 hi;simp only;rw[if_neg (by omega)]
 ·simp
theorem aeL (n:Int) (w:World):Calls Tryz.prog 108 #[.int .i64 n] w fun e w'=>
  (¬tN n/\e=.returned (.tuple #[.pointer none,.int .i64 2])/\af no w w')∨
  (tN n/\∃b F,e=.returned (.tuple #[.pointer (some ⟨b,0,none⟩),.int .i64 0])/\dI b w' F (n.toNat,[])/\af no w w'/\∀i,F i->w.heap.size<=i):=by
 refine aiq ?_;rw[t108];refine⟨fun w1 hN1=>⟨fun w2 hN2=>?_⟩⟩;have hM:bh w w1 (aS w.heap.size (Value.int .i64)) (fun _=>none,0):=bh.new (af.refl _ _) (hN1.ae no) (aS.new hN1) (fun i hi=>Nat.le_of_eq hi.symm);by_cases hok:tN n
 ·obtain⟨m,rfl⟩:∃m:Nat,n=m:=⟨n.toNat,by unfold tN at hok;omega⟩;replace hM:bh w w2 (au (aS w.heap.size (Value.int .i64)) (Rw w1.heap.size 265 (mJ w.heap.size))) ((fun _=>none,0),(jr (fun _=>0) 0,m)):=hM.add (hN2.ae no) (Rw.new hN2 rfl) (fun i hi=>Nat.le_of_eq hi.symm);obtain⟨r,hr⟩:∃r,w.heap.size=r:=⟨_,rfl⟩;rw[hr]at hM;generalize w1.heap.size=q at hM⊢;replace hM:bh w w2 (jM q r) (((fun _=>none,0),(jr (fun _=>0) 0,m)),tF (fun _=>0) m 0):=hM.add (af.refl _ _) (Fam.nil _) (fun i hi=>hi.elim);clear hN1 hN2;refine⟨bA bf (M:=rT) (σ:=Nat) (fun j=>zh (m:Int) (some ⟨q,0,none⟩) (j:Int)) (fun j w'=>j<=8/\∃B,bh w w' (jM q r) (((fun _=>none,0),(jr B j,m)),tF B m j)) (fun j _=>8-j) 0 ⟨rfl,rfl,rfl,trivial⟩ ⟨by omega,_,hM⟩ ?_⟩;clear hM;rintro j w3 ⟨j1,B,hM⟩;rw[Xi];refine⟨fun g=>?_,fun g=>?_⟩
  ·have hj:j<8:=by simp at g;omega
   refine⟨(Aq m w3).mono ?_⟩;rintro e w4 hh;obtain⟨_,bq,G,rfl,hQ,hU,hG⟩:=hh.resolve_left (fun h=>absurd hok h.1);refine⟨_,_,rfl,fun g=>by simp at g,fun _=>⟨_,rfl,⟨by omega,by omega⟩,?_⟩⟩;obtain⟨F2,hA,hT⟩:=hM.right;have h5:=hT _ _ (Fam.push (s:=((bq,m,[]):oc)) hA hU hQ hG);rw[adj]at h5;obtain⟨F3,hB3,hT3⟩:=h5.left;obtain⟨F4,hB4,hT4⟩:=au.right hB3;have hbk:((⟨q,0,none⟩:Addr).add 0).add (j*1)=(⟨q,0,none⟩:Addr).add j:=by simp[add_lit]
   simp only[Int.toNat_natCast];rw[hbk];refine hB4.ai.wr (by simp[mJ,jr]<;>omega) fun w5 hW=>?_;refine⟨j+1,⟨rfl,rfl,by rw[aD (by omega)];rfl,trivial⟩,⟨by omega,fun i=>if i=j then bq else B i,?_⟩,by omega⟩;refine hT3 _ _ (hT4 _ _ (Rw.dZ hB4 hW.U ?_));rw[<-YH hj];exact hW.ai
  ·have:j=8:=by simp at g;omega
   subst this;obtain⟨F,hF1,hF2,hF3⟩:=hM;refine .inr ⟨hok,q,F,rfl,⟨r,B,(fun _=>none,0),?_,⟨?_,rfl,List.nodup_nil,fun _ h=>by simp at h,Nat.zero_le _,by unfold tN at hok;simp;omega⟩⟩,hF2,hF3⟩
   ·have e1:jr B 8=ns B:=by simp[jr,ns]
    have e2:tF B m 8=gS B m []:=rfl;rw[e1,e2]at hF1;exact hF1
   ·intro k v;simp
 ·have hU:=(hN1.ae no).and (hN2.ae no);refine⟨bA bf (M:=rT) (σ:=Unit) (fun _=>zh n (some ⟨w1.heap.size,0,none⟩) 0) (fun _ w'=>af no w w') (fun _ _=>0) () ⟨rfl,rfl,rfl,trivial⟩ hU ?_⟩;rintro _ w3 hU3;rw[Xi];refine⟨fun g=>?_,fun g=>by simp at g⟩;refine⟨(Aq n w3).mono ?_⟩;rintro e w4 hh;obtain⟨_,rfl,rfl⟩:=hh.resolve_right (fun h=>absurd h.1 hok);exact⟨_,_,rfl,fun _=>.inl ⟨hok,rfl,hU3⟩,fun g=>by simp at g⟩
end
end Go.Dav
namespace Go.Dav
open Go.Proofs
structure ef (x:Nat×aR):Prop where
 one:(x.2.map (·.2)).Nodup
 e9:∀e∈x.2,0<=e.1/\e.1<8
 room:x.2.length<=x.1
 gT:1<=x.1/\x.1<=1024
theorem dI.V {q:Nat} {w:World} {F:Fp} {x:Nat×aR} (h:dI q w F x):ef x:=by
 obtain⟨_,_,_,_,k⟩:=h;exact⟨k.one,k.e9,k.room,k.gT⟩
theorem ef.new {n:Nat} (h:1<=n/\n<=1024):ef (n,[]) where
 one:=List.nodup_nil
 e9:=fun _ h=>(by cases h)
 room:=Nat.zero_le _
 gT:=h
theorem ef.len {x:Nat×aR} (h:ef x):x.2.length<=1024:=Nat.le_trans h.room h.gT.2
def lO (L:aR) (j:Nat):List Int:=(List.range j).flatMap fun i=>bM L (7-i)
theorem acX (L:aR) (j:Nat):lO L (j+1)=lO L j++bM L (7-j):=by
 unfold lO;rw[List.range_succ,List.flatMap_append];simp
theorem adg (L:aR) (p:Nat):(bM L p).length<=L.length:=by
 unfold bM;rw[List.length_map];exact List.length_filter_le _ _
theorem acW (L:aR) (j:Nat):(lO L j).length<=j*L.length:=by
 induction j with
 | zero=>simp[lO]
 | succ j ih=>
  rw[acX,List.length_append,Nat.add_mul,Nat.one_mul];have:=adg L (7-j);omega
theorem ac7 (L:aR):(lN L).length<=8*L.length:=acW L 8
section
variable {x y:Nat×aR} {T i:Nat}
end
theorem Tv {x:Nat×aR} {p k:Int} (h:eZ x p k=0) (j:Int):bR (fT x p k) j=(bR x j||decide (j=k)):=by
 rw[fT,if_pos h,Bool.eq_iff_iff,fE,Bool.or_eq_true,fE,decide_eq_true_iff];simp only[List.mem_append,List.mem_singleton,Prod.mk.injEq];constructor
 ·rintro⟨q,h|⟨_,h⟩⟩
  ·exact .inl ⟨q,h⟩
  ·exact .inr h
 ·rintro(⟨q,h⟩|h)
  ·exact⟨q,.inl h⟩
  ·exact⟨p,.inr ⟨rfl,h⟩⟩
theorem aeP {x:Nat×aR} {p k:Int} (h:eZ x p k=0):bR x k=false:=by
 unfold eZ at h;by_cases h1:p<0∨8<=p
 ·rw[if_pos h1]at h;cases h
 ·rw[if_neg h1]at h
  cases hk:bR x k with
  | false=>rfl
  | true=>rw[hk,if_pos rfl]at h;cases h
theorem Tu (x:Nat×aR) (k j:Int):bR (dz x k) j=(bR x j&&decide (j≠k)):=by
 rw[Bool.eq_iff_iff,fE,Bool.and_eq_true,fE,decide_eq_true_iff];simp[dz]
theorem zO (x:Nat×aR) (k j:Int):bR (gV x k) j=bR x j:=by
 unfold gV
 cases hk:bR x k with
 | false=>rfl
 | true=>
  rw[if_pos rfl,Bool.eq_iff_iff,fE,fE];simp only[List.mem_append,List.mem_singleton,Prod.mk.injEq,dz,List.mem_filter,decide_eq_true_iff];constructor
  ·rintro⟨q,⟨h,_⟩|⟨_,h⟩⟩
   ·exact⟨q,h⟩
   ·rw[h];exact fE.1 hk
  ·rintro⟨q,h⟩;by_cases hj:j=k
   ·exact⟨_,.inr ⟨rfl,hj⟩⟩
   ·exact⟨q,.inl ⟨h,hj⟩⟩
theorem D0 (x:Nat×aR) (j:Int):bR (iw x) j=bR x j:=by
 unfold iw;split
 ·exact zO _ _ _
 ·rfl
theorem Vr (x:Nat×aR) (p k:Int):(fT x p k).1=x.1:=by unfold fT;split<;>rfl
theorem Vq (x:Nat×aR) (k:Int):(gV x k).1=x.1:=by unfold gV;split<;>rfl
theorem adz (x:Nat×aR):(iw x).1=x.1:=by unfold iw;split;exact Vq _ _;rfl
theorem ab4 {x:Nat×aR} {k:Int} (hV:ef x):k∈lN x.2↔bR x k=true:=by
 rw[fE];unfold lN;constructor
 ·intro h;obtain⟨i,_,hi⟩:=List.mem_flatMap.1 h;exact⟨_,oY.1 hi⟩
 ·rintro⟨p,hp⟩;have h1:=hV.e9 _ hp;simp only at h1;have hall:∀i:Fin 8,i∈L8.reverse:=by decide
  refine List.mem_flatMap.2 ⟨⟨p.toNat,by omega⟩,hall _,oY.2 ?_⟩;simp only;rw[Int.toNat_of_nonneg h1.1];exact hp
theorem aan {x:Nat×aR} (hV:ef x) {k:Int} (h:bR x k=true):(dz x k).2.length+1=x.2.length:=by
 obtain⟨p,hp⟩:=fE.1 h
 have h2:(x.2.filter fun e=>decide (e.2≠k)).map (·.2)=(x.2.map (·.2)).erase k:=by
  rw[erase_eq hV.one,List.filter_map];rfl
 have h3:=congrArg List.length h2;have hm2:k∈x.2.map (·.2):=List.mem_map.2 ⟨_,hp,rfl⟩;rw[List.length_map,List.length_erase_of_mem hm2,List.length_map]at h3;have:=List.length_pos_of_mem hp;simp only[dz];omega
end Go.Dav
namespace Go.Dav
open Go.Proofs
theorem aav:dH Tryz.prog 153 152 1 8 [.pointer none]:=⟨by kernel_rfl,by kernel_rfl,rfl,by omega⟩
abbrev RS:=List (Nat×aR)
def tZ (r:Nat) (p:Option Addr) (n c:Nat):List Value:=[.slice p n c,.map (some r)]
abbrev jN (b r:Nat):Ob (((Int->Option Int)×Nat)×RS):=au (aS r (Value.int .i64)) (Tq dI b 155 152 (tZ r))
def bd (x:RS) (i:Nat) (k:Int):Bool:=bR (x.getD i (0,[])) k
structure gl (x:RS) (g:Int->Option Int):Prop where
 map:∀k v,g k=some v↔∃i:Nat,v=i/\bd x i k=true
 gT:∀q∈x,q.1=32
 oz:1<=x.length/\x.length<=64
def dh (b:Nat):Ob RS:=fun w F x=>∃r g,jN b r w F (g,x)/\gl x g.1
instance Frame.rq (b:Nat):Frame (dh b) where
 ae:=fun⟨r,g,h,k⟩ hU hG=>⟨r,g,Frame.star.ae h hU hG,k⟩
 lt:=fun⟨r,g,h,_⟩=>Frame.star.lt h
def cI (x:RS) (c:Int):Prop:=0<=c/\c<x.length
instance (x:RS) (c:Int):Decidable (cI x c):=by unfold cI;infer_instance
theorem kX {x:RS} {c:Int} (h:cI x c):∃i:Nat,i<x.length/\c=(i:Int):=⟨c.toNat,by unfold cI at h;omega,by unfold cI at h;omega⟩
def eG (x:RS) (c:Int):Nat×aR:=x.getD c.toNat (0,[])
theorem fX {x:RS} {i:Nat} (hi:i<x.length):eG x (i:Int)=x[i]:=by simp[eG,hi]
def gD (x:RS) (k:Int):Int×Bool:=match(List.range x.length).find? (fun i=>bd x i k)with
 | none=>(0,false)
 | some i=>((i:Int),true)
theorem tJ {x:RS} {i:Nat} {k:Int} (h:bd x i k=true):i<x.length:=by
 rcases Nat.lt_or_ge i x.length with hi|hi
 ·exact hi
 ·rw[bd,List.getD_eq_getElem?_getD,List.getElem?_eq_none hi]at h;cases h
theorem iS {x:RS} {i:Nat} (hi:i<x.length) (k:Int):bd x i k=bR x[i] k:=by simp[bd,hi]
theorem qf {x:RS} {c:Nat} (hc:c<x.length) (q:Nat×aR) (i:Nat) (k:Int):bd (x.set c q) i k=if i=c then bR q k else bd x i k:=by
 unfold bd;by_cases hi:i=c
 ·subst hi;simp[hc]
 ·rw[if_neg hi];simp[List.getElem?_set,Ne.symm hi]
theorem nX (x:RS) (k:Int):(gD x k=(0,false)/\∀i,bd x i k=false)∨∃i:Nat,i<x.length/\gD x k=((i:Int),true)/\bd x i k=true:=by
 unfold gD
 cases h:(List.range x.length).find? (fun i=>bd x i k)with
 | none=>
  refine .inl ⟨rfl,fun i=>?_⟩
  cases hm:bd x i k with
  | false=>rfl
  | true=>
   have:=List.find?_eq_none.1 h i (List.mem_range.2 (tJ hm))
   simp[hm]at this
 | some i=>
  have h1:=List.find?_some h;exact .inr ⟨i,tJ h1,rfl,h1⟩
section
variable {x:RS} {g:(Int->Option Int)×Nat}
theorem gl.one (h:gl x g.1) {k:Int} {i j:Nat} (h1:bd x i k=true) (h2:bd x j k=true):i=j:=by
 have e1:=(h.map k i).2 ⟨i,rfl,h1⟩;have e2:=(h.map k j).2 ⟨j,rfl,h2⟩;rw[e1]at e2;have:=Option.some.inj e2;omega
theorem gl.wh (h:gl x g.1) (k:Int):(g.1 k).getD 0=(gD x k).1/\(g.1 k).isSome=(gD x k).2:=by
 rcases nX x k with⟨h1,h2⟩|⟨i,hi,h1,h2⟩
 ·have:g.1 k=none:=by
   cases hg:g.1 k with
   | none=>rfl
   | some v=>obtain⟨i,_,hm⟩:=(h.map k v).1 hg;rw[h2]at hm;cases hm
  rw[h1,this];exact⟨rfl,rfl⟩
 ·rw[h1,(h.map k i).2 ⟨i,rfl,h2⟩];exact⟨rfl,rfl⟩
theorem Eu {x:RS} (h:∀q∈x,q.1=32) {c:Nat} {q:Nat×aR} (hq:q.1=32):∀q'∈x.set c q,q'.1=32:=by
 intro q' hq';rcases List.mem_or_eq_of_mem_set hq' with h1|h1
 ·exact h q' h1
 ·rw[h1];exact hq
theorem gl.same (h:gl x g.1) {c:Nat} (hc:c<x.length) {q:Nat×aR} (h1:∀k,bR q k=bR x[c] k) (h2:q.1=x[c].1):gl (x.set c q) g.1:=by
 refine⟨fun k v=>?_,Eu h.gT (by rw[h2];exact h.gT _ (List.getElem_mem hc)),by simpa using h.oz⟩;rw[h.map]
 have:∀i,bd (x.set c q) i k=bd x i k:=fun i=>by
  rw[qf hc];by_cases hi:i=c
  ·subst hi;rw[if_pos rfl,h1,iS hc]
  ·rw[if_neg hi]
 simp only[this]
theorem gl.put (h:gl x g.1) {c:Nat} (hc:c<x.length) {p k:Int} (hp:eZ x[c] p k=0) (hk:∀i,bd x i k=false):gl (x.set c (fT x[c] p k)) (dp g k (c:Int)).1:=by
 refine⟨fun j v=>?_,Eu h.gT (by rw[Vr];exact h.gT _ (List.getElem_mem hc)),by simpa using h.oz⟩;simp only[dp,qf hc,Tv hp];by_cases hj:j=k
 ·subst hj;rw[if_pos rfl];constructor
  ·rintro h1;have:=Option.some.inj h1;exact⟨c,this.symm,by simp⟩
  ·rintro⟨i,rfl,hi⟩;by_cases hic:i=c
   ·rw[hic]
   ·rw[if_neg hic,hk]at hi;cases hi
 ·rw[if_neg hj,h.map]
  have:∀i,(if i=c then(bR x[c] j||decide (j=k))else bd x i j)=bd x i j:=fun i=>by
   by_cases hic:i=c
   ·subst hic;rw[if_pos rfl,iS hc];simp[hj]
   ·rw[if_neg hic]
  simp only[this]
theorem gl.take (h:gl x g.1) {c:Nat} (hc:c<x.length) {k:Int} (hk:bd x c k=true):gl (x.set c (dz x[c] k)) (eX g k).1:=by
 refine⟨fun j v=>?_,Eu h.gT (h.gT x[c] (List.getElem_mem hc)),by simpa using h.oz⟩;simp only[eX,qf hc,Tu];by_cases hj:j=k
 ·subst hj;rw[if_pos rfl];constructor
  ·intro h1;cases h1
  ·rintro⟨i,rfl,hi⟩;by_cases hic:i=c
   ·rw[if_pos hic]at hi;simp at hi
   ·rw[if_neg hic]at hi;exact absurd (h.one hi hk) hic
 ·rw[if_neg hj,h.map]
  have:∀i,(if i=c then(bR x[c] j&&decide (j≠k))else bd x i j)=bd x i j:=fun i=>by
   by_cases hic:i=c
   ·subst hic;rw[if_pos rfl,iS hc];simp[hj]
   ·rw[if_neg hic]
  simp only[this]
end
def lT (x:RS) (c p k:Int):Int:=if cI x c then(if(gD x k).2 then 6 else eZ (eG x c) p k)else 3
def fY (x:RS) (c p k:Int):RS:=if lT x c p k=0 then x.set c.toNat (fT (eG x c) p k)else x
def AQ (x:RS) (c:Int):Int×Int:=if cI x c then kb (eG x c)else(0,3)
def la (x:RS) (c:Int):RS:=if cI x c then x.set c.toNat (iw (eG x c))else x
def E8 (x:RS) (k:Int):Int:=if(gD x k).2 then 0 else 4
def qt (x:RS) (k:Int):RS:=if(gD x k).2 then x.set (gD x k).1.toNat (gV (eG x (gD x k).1) k)else x
def Wz (x:RS) (k:Int):Int:=if(gD x k).2 then 0 else 4
def dA (x:RS) (k:Int):RS:=if(gD x k).2 then x.set (gD x k).1.toNat (dz (eG x (gD x k).1) k)else x
def bp (x:RS) (c:Int):Int:=if cI x c then(eG x c).2.length else 0
def aY (x:RS) (c:Int):List Int:=if cI x c then lN (eG x c).2 else[]
section
variable {b r:Nat} {w w':World} {F:Fp} {x:RS} {g:(Int->Option Int)×Nat}
theorem wS (h:jN b r w F (g,x)):∃p c,aE w b (tZ r p x.length c) 155:=by
 obtain⟨F1,h1,_⟩:=h.right;exact h1.ai
theorem E9 (h:jN b r w F (g,x)):∃F1,aS r (Value.int .i64) w F1 g/\∀w' g',aa (aS r (Value.int .i64)) w w' F1 g'->aa (jN b r) w w' F (g',x):=au.left h
theorem ua (h:jN b r w F (g,x)) {i:Nat} (hi:i<x.length):∃a c bi F1,aE w b (tZ r (some a) x.length c) 155/\w.cell? (a.add (i*1))=some (pt bi)/\dI bi w F1 x[i]/\
  ∀w' s',aa (dI bi) w w' F1 s'->aa (jN b r) w w' F (g,x.set i s'):=by
 obtain⟨F1,h1,k1⟩:=h.right;obtain⟨a,c,bi,F2,q1,q2,q3,q4⟩:=h1.at hi;exact⟨a,c,bi,F2,q1,q2,q3,fun w' s' hT=>k1 _ _ (q4 _ _ hT)⟩
theorem afj (h:jN b r w F (g,x)) {i:Nat} (hi:i<x.length):∃a c bi F1 Fm,aE w b (tZ r (some a) x.length c) 155/\w.cell? (a.add (i*1))=some (pt bi)/\dI bi w F1 x[i]/\aS r (Value.int .i64) w Fm g/\
  ∀w1 g',aa (aS r (Value.int .i64)) w w1 Fm g'->dI bi w1 F1 x[i]/\∀w' s',aa (dI bi) w1 w' F1 s'->aa (jN b r) w w' F (g',x.set i s'):=by
 obtain⟨G1,G2,h1,h2,h3,h4⟩:=h;simp only at h1 h2;obtain⟨a,c,bi,F1,hall⟩:=Tq.xG h2 hi;obtain⟨q1,q2,q3,_⟩:=hall w no (af.refl _ _) (fun _ _ h=>h);refine⟨a,c,bi,F1,G1,q1,q2,q3,h1,?_⟩;rintro w1 g' ⟨F',m1,m2,m3⟩;obtain⟨_,_,p3,p4⟩:=hall w1 G1 m2 (fun j hj hf=>h4 j hf hj);refine⟨p3,fun w' s' hT=>?_⟩;obtain⟨H2,t1,t2,t3⟩:=p4 w' s' hT;have hlt:=Frame.tq.lt h2
 have hd:∀j,F' j->¬G2 j:=fun j hj hf=>by
  rcases m3 j hj with h|h
  ·exact h4 j h hf
  ·have:=hlt j hf;omega
 have hl1:=(Frame.map r _).lt m1;refine⟨fun j=>F' j∨H2 j,⟨F',H2,(Frame.map r _).ae m1 t2 hd,t1,fun _=>Iff.rfl,fun j hj hf=>?_⟩,(m2.mono (fun j _ hj=>(h3 j).2 (.inl hj))).trans t2 (fun j _ hj=>(h3 j).2 (.inr hj)),fun j hj=>?_⟩
 ·rcases t3 j hf with h|h
  ·exact hd j hj h
  ·have:=hl1 j hj;omega
 ·rcases hj with hj|hj
  ·exact(m3 j hj).imp (fun h=>(h3 j).2 (.inl h)) id
  ·rcases t3 j hj with h|h
   ·exact .inl ((h3 j).2 (.inr h))
   ·exact .inr (Nat.le_trans m2.size h)
theorem aa.rq (h:aa (jN b r) w w' F (g,x)) (k:gl x g.1):aa (dh b) w w' F x:=by
 obtain⟨F',h1,h2⟩:=h;exact⟨F',⟨r,g,h1,k⟩,h2⟩
theorem dh.V (h:dh b w F x) {i:Nat} (hi:i<x.length):ef x[i]:=by
 obtain⟨r,g,h,_⟩:=h;obtain⟨_,_,_,_,_,_,hq,_⟩:=ua h hi;exact hq.V
theorem AR (h:jN b r w F (g,x)) (c:Int):Cx 73 #[pt b,I c] w fun e w'=>e=Z (I (if cI x c then 0 else 3))/\w'=w:=by
 obtain⟨p,c1,hB⟩:=wS h;refine u73 ?_;rw[t73];refine⟨fun g=>by simp at g,fun _=>⟨fun g1=>⟨_,rfl,_,_,_,hB.cell rfl,fun g2=>?_,fun g2=>?_⟩,fun g1=>?_⟩⟩
 ·rw[if_neg (by unfold cI;simp at g1 g2;omega)];exact⟨rfl,rfl⟩
 ·rw[if_pos (by unfold cI;simp at g1 g2;omega)];exact⟨rfl,rfl⟩
 ·rw[if_neg (by unfold cI;simp at g1;omega)];exact⟨rfl,rfl⟩
theorem rL (h:dh b w F x) (c:Int):Cx 14 #[pt b,I c] w fun e w'=>e=Z (I (bp x c))/\w'=w:=by
 obtain⟨r,g,h,hi⟩:=h;refine u14 ?_;rw[t14];refine⟨(AR h c).mono ?_⟩;rintro e w1 ⟨rfl,rfl⟩;unfold bp;by_cases hc:cI x c
 ·rw[if_pos hc,if_pos hc];obtain⟨i,hl,rfl⟩:=kX hc;obtain⟨a,c,bi,F1,hB,hcl,hq,_⟩:=ua h hl;rw[fX hl];refine⟨_,rfl,fun g=>by simp at g,fun _=>⟨_,rfl,_,_,_,hB.cell rfl,⟨by omega,by omega⟩,a,rfl,_,hcl,⟨(aeK hq).mono ?_⟩⟩⟩;rintro e w2 ⟨rfl,rfl⟩;exact⟨_,rfl,rfl,rfl⟩
 ·rw[if_neg hc,if_neg hc];exact⟨_,rfl,fun _=>⟨rfl,rfl⟩,fun g=>by simp at g⟩
theorem WB (h:dh b w F x) (c:Int):Cx 88 #[pt b,I c] w fun e w'=>∃p d,e=Z (.slice p (aY x c).length d)/\Loc w w' 3 p d (aY x c):=by
 obtain⟨r,g,h,hi⟩:=h;refine u88 ?_;rw[t88];refine⟨(AR h c).mono ?_⟩;rintro e w1 ⟨rfl,rfl⟩;unfold aY;by_cases hc:cI x c
 ·rw[if_pos hc,if_pos hc];obtain⟨i,hl,rfl⟩:=kX hc;obtain⟨a,c,bi,F1,hB,hcl,hq,_⟩:=ua h hl;rw[fX hl];refine⟨_,rfl,fun g=>by simp at g,fun _=>⟨_,rfl,_,_,_,hB.cell rfl,⟨by omega,by omega⟩,a,rfl,_,hcl,⟨(ac9 hq).mono ?_⟩⟩⟩;rintro e w2 ⟨p,d,rfl,hL⟩;exact⟨_,_,_,rfl,p,d,rfl,hL⟩
 ·rw[if_neg hc,if_neg hc];exact⟨_,rfl,fun _=>⟨none,0,rfl,Loc.nil (af.refl _ _) _⟩,fun g=>by simp at g⟩
theorem WD (h:dh b w F x) (c p k:Int):Cx 235 #[pt b,I c,I p,I k] w fun e w'=>e=Z (I (lT x c p k))/\aa (dh b) w w' F (fY x c p k):=by
 obtain⟨r,g,hx,hi⟩:=id h;refine akf ?_;rw[t235];refine⟨(AR hx c).mono ?_⟩;rintro e w1 ⟨rfl,rfl⟩;unfold fY lT;by_cases hc:cI x c
 ·simp only[if_pos hc];obtain⟨i,hl,rfl⟩:=kX hc;obtain⟨a,c,bi,F1,hB,hcl,hq,kq⟩:=ua hx hl;obtain⟨F2,hm,_⟩:=E9 hx;rw[fX hl];have hlk:=iz mF hm k true;have e1:((g.1 k).map (Value.int .i64)).getD (I 0)=I (gD x k).1:=by rw[<-(hi.wh k).1];cases g.1 k<;>rfl
  simp only[if_true,e1,(hi.wh k).2]at hlk;refine⟨_,rfl,fun g=>by simp at g,fun _=>⟨_,rfl,_,hB.cell rfl,_,_,hlk,fun g1=>?_,fun g1=>⟨_,rfl,_,_,_,hB.cell rfl,⟨by omega,by omega⟩,a,rfl,_,hcl,⟨(Wf hq p k).mono ?_⟩⟩⟩⟩
  ·rw[g1];exact⟨rfl,aa.same h⟩
  ·rintro e w2 ⟨rfl,hT⟩;rw[g1];have hT2:=kq _ _ hT
   have hno:∀j,bd x j k=false:=by
    rcases nX x k with⟨_,h2⟩|⟨j,_,h1,_⟩
    ·exact h2
    ·rw[h1]at g1;cases g1
   refine⟨_,rfl,fun g2=>?_,fun g2=>?_⟩
   ·have g2:=eq_of_beq g2;obtain⟨F3,q1,q2,q3⟩:=hT2;obtain⟨p3,c3,hB3⟩:=wS q1;obtain⟨F4,hm3,k3⟩:=E9 q1;obtain⟨w3,hr,ht⟩:=mQ mF hm3 k (i:Int);refine⟨_,rfl,_,hB3.cell rfl,w3,hr,?_,?_⟩
    ·simp[g2]
    ·have T:=aa.rq (aa.glue (af.refl _ _) q2 q3 (k3 _ _ ht)) (hi.put hl g2 hno);rw[Int.toNat_natCast];simp only[Bool.false_eq_true,if_false,g2,if_true];exact T
   ·have g2:¬eZ x[i] p k=0:=ne_of_beq_false g2;simp only[Bool.false_eq_true,if_false,if_neg g2];rw[fT,if_neg g2,List.set_getElem_self]at hT2;exact⟨by trivial,aa.rq hT2 hi⟩
 ·simp only[if_neg hc];exact⟨_,rfl,fun _=>⟨rfl,aa.same h⟩,fun g=>by simp at g⟩
theorem afi (h:dh b w F x) (c:Int):Cx 224 #[pt b,I c] w fun e w'=>e=Z (.tuple #[I (AQ x c).1,I (AQ x c).2])/\aa (dh b) w w' F (la x c):=by
 obtain⟨r,g,hx,hi⟩:=id h;refine aj4 ?_;rw[t224];refine⟨(AR hx c).mono ?_⟩;rintro e w1 ⟨rfl,rfl⟩;unfold la AQ;by_cases hc:cI x c
 ·simp only[if_pos hc];obtain⟨i,hl,rfl⟩:=kX hc;obtain⟨a,c,bi,F1,hB,hcl,hq,kq⟩:=ua hx hl;rw[fX hl];refine⟨_,rfl,fun g=>by simp at g,fun _=>⟨_,rfl,_,_,_,hB.cell rfl,⟨by omega,by omega⟩,a,rfl,_,hcl,⟨(ah8 hq).mono ?_⟩⟩⟩;rintro e w2 ⟨rfl,hU⟩;refine⟨_,_,rfl,fun g1=>?_,fun g1=>?_⟩
  ·have g1:(kb x[i]).2≠0:=by simpa using g1
   have e1:(kb x[i])=(0,(kb x[i]).2):=by
    unfold kb at g1⊢
    cases hl0:lN x[i].2 with
    | nil=>rfl
    | cons v t=>rw[hl0]at g1;simp at g1
   have e2:iw x[i]=x[i]:=by rw[iw,qm,if_neg g1]
   rw[e2,Int.toNat_natCast,List.set_getElem_self];refine⟨?_,aa.quiet h hU⟩;rw[e1]
  ·have g1:(kb x[i]).2=0:=by simpa using g1
   have hx2:=Frame.star.ae hx hU (fun _ _ h=>h);obtain⟨a2,c2,bi2,F2,hB2,hcl2,hq2,kq2⟩:=ua hx2 hl;refine⟨_,rfl,_,_,_,hB2.cell rfl,⟨by omega,by omega⟩,a2,rfl,_,hcl2,⟨(aeO hq2).mono ?_⟩⟩;rintro e w3 ⟨rfl,hT⟩;rw[Int.toNat_natCast];refine⟨_,rfl,by rw[qm],aa.rq (g:=g) (r:=r) (aa.next hx2 hU.nn (fun _ h=>.inl h) (kq2 _ _ hT)) (hi.same hl (D0 _) (adz _))⟩
 ·simp only[if_neg hc];exact⟨_,rfl,fun _=>⟨rfl,aa.same h⟩,fun g=>by simp at g⟩
theorem WC (h:jN b r w F (g,x)) (hi:gl x g.1) (k:Int):Cx 242 #[pt b,I k] w fun e w'=>w'=w/\((e=Z (.tuple #[.pointer none,I 4])/\gD x k=(0,false))∨
  ∃i,∃hl:i<x.length,gD x k=((i:Int),true)/\bd x i k=true/\∃a c bi F1 Fm,e=Z (.tuple #[pt bi,I 0])/\aE w b (tZ r (some a) x.length c) 155/\dI bi w F1 x[i]/\aS r (Value.int .i64) w Fm g/\
   ∀w1 g',aa (aS r (Value.int .i64)) w w1 Fm g'->dI bi w1 F1 x[i]/\∀w' s',aa (dI bi) w1 w' F1 s'->aa (jN b r) w w' F (g',x.set i s')):=by
 refine akm ?_;rw[t242];obtain⟨p,c1,hB⟩:=wS h;obtain⟨F2,hm,_⟩:=E9 h;have hlk:=iz mF hm k true;have e1:((g.1 k).map (Value.int .i64)).getD (I 0)=I (gD x k).1:=by rw[<-(hi.wh k).1];cases g.1 k<;>rfl
 simp only[if_true,e1,(hi.wh k).2]at hlk;refine⟨fun g=>by simp at g,fun _=>⟨_,rfl,_,hB.cell rfl,_,_,hlk,fun g1=>?_,fun g1=>?_⟩⟩
 ·refine⟨rfl,.inl ⟨rfl,?_⟩⟩;rcases nX x k with⟨h1,_⟩|⟨j,_,h1,_⟩
  ·exact h1
  ·rw[h1]at g1;cases g1
 ·rcases nX x k with⟨h1,_⟩|⟨i,hl,h1,h2⟩
  ·rw[h1]at g1;cases g1
  ·obtain⟨a,c,bi,F1,Fm,hB,hcl,hq,hm,kq⟩:=afj h hl;rw[h1];exact⟨_,rfl,_,_,_,hB.cell rfl,⟨by simp only;omega,by simp only;omega⟩,a,rfl,_,hcl,rfl,.inr ⟨i,hl,rfl,h2,a,c,bi,F1,Fm,rfl,hB,hq,hm,kq⟩⟩
theorem afd (h:dh b w F x) (k:Int):Cx 132 #[pt b,I k] w fun e w'=>e=Z (I (E8 x k))/\aa (dh b) w w' F (qt x k):=by
 obtain⟨r,g,hx,hi⟩:=id h;refine aiP ?_;rw[t132];refine⟨(WC hx hi k).mono ?_⟩;unfold E8 qt;rintro e w1 ⟨rfl,⟨rfl,h1⟩|⟨i,hl,h1,h2,a,c,bi,F1,Fm,rfl,hB,hq,hm,kq⟩⟩
 ·rw[h1];exact⟨_,_,rfl,fun _=>⟨rfl,aa.same h⟩,fun g=>by simp at g⟩
 ·rw[h1];refine⟨_,_,rfl,fun g=>by simp at g,fun _=>⟨(aev hq k).mono ?_⟩⟩;rintro e w2 ⟨rfl,hT⟩;have hin:bR x[i] k=true:=by rw[<-iS hl];exact h2
  simp only[if_true,Int.toNat_natCast,fX hl];exact⟨_,rfl,by rw[tQ,nP,hin];rfl,aa.rq ((kq _ _ (aa.same hm)).2 _ _ hT) (hi.same hl (zO _ _) (Vq _ _))⟩
theorem wR (h:dh b w F x) (k:Int):Cx 237 #[pt b,I k] w fun e w'=>e=Z (I (Wz x k))/\aa (dh b) w w' F (dA x k):=by
 obtain⟨r,g,hx,hi⟩:=id h;refine akh ?_;rw[t237];refine⟨(WC hx hi k).mono ?_⟩;unfold Wz dA;rintro e w1 ⟨rfl,⟨rfl,h1⟩|⟨i,hl,h1,h2,a,c,bi,F1,Fm,rfl,hB,hq,hm,kq⟩⟩
 ·rw[h1];exact⟨_,_,rfl,fun _=>⟨rfl,aa.same h⟩,fun g=>by simp at g⟩
 ·rw[h1];have hin:bR x[i] k=true:=by rw[<-iS hl];exact h2
  obtain⟨w2,hr,ht⟩:=ph mF hm k 3 0;obtain⟨hq2,kq2⟩:=kq _ _ ht;refine⟨_,_,rfl,fun g=>by simp at g,fun _=>⟨_,rfl,_,hB.cell rfl,w2,hr,⟨(V9 hq2 k).mono ?_⟩⟩⟩;rintro e w3 ⟨rfl,hT⟩;rw[hin,if_pos rfl]at hT;simp only[if_true,Int.toNat_natCast,fX hl];exact⟨_,rfl,by rw[nP,hin];rfl,aa.rq (kq2 _ _ hT) (hi.take hl h2)⟩
end
def EB (n:Int):Prop:=1<=n/\n<=64
theorem gl.new {n:Nat} (h:1<=n/\n<=64):gl (List.replicate n (32,[])) (fun _=>none):=by
 refine⟨fun k v=>?_,fun q hq=>?_,by simpa using h⟩
 ·constructor
  ·intro h;cases h
  ·rintro⟨i,_,hi⟩;have hl:=tJ hi;rw[iS hl]at hi;simp at hi;cases hi
 ·have:=List.eq_of_mem_replicate hq;rw[this]
theorem afh (n:Int) (w:World):Cx 36 #[I n] w fun e w'=>
  (¬EB n/\e=Z (.tuple #[.pointer none,I 2])/\w'=w)∨
  (EB n/\∃b F,e=Z (.tuple #[pt b,I 0])/\dh b w' F (List.replicate n.toNat (32,[]))/\af no w w'/\∀i,F i->w.heap.size<=i):=by
 refine u36 ?_;rw[t36];unfold EB;refine⟨fun h1=>⟨fun h2=>.inl ⟨?_,rfl,rfl⟩,fun h2=>⟨fun w1 hN1=>⟨fun w2 hN2=>?_⟩⟩⟩,fun h1=>.inl ⟨?_,rfl,rfl⟩⟩
 ·simp at h2;omega
 ·have h1:¬n<1:=by simpa using h1
  have h2:¬64<n:=by simpa using h2
  obtain⟨m,rfl⟩:∃m:Nat,n=m:=⟨n.toNat,by omega⟩;have hM:bh w w1 (aS w.heap.size (Value.int .i64)) (fun _=>none,0):=bh.new (af.refl _ _) (hN1.ae no) (aS.new hN1) (fun i hi=>Nat.le_of_eq hi.symm);obtain⟨r,hr⟩:∃r,w.heap.size=r:=⟨_,rfl⟩;rw[hr]at hM hN2;replace hM:bh w w2 (jN w1.heap.size r) ((fun _=>none,0),[]):=hM.add (hN2.ae no) (Tq.nil hN2 rfl) (fun i hi=>Nat.le_of_eq hi.symm);generalize w1.heap.size=b at hM⊢;clear hN1 hN2;refine⟨bA bf (M:=uW) (σ:=Nat) (fun j=>Dk (some ⟨b,0,none⟩) (m:Int) (j:Int)) (fun j w'=>j<=m/\bh w w' (jN b r) ((fun _=>none,0),List.replicate j (32,[]))) (fun j _=>m-j) 0 ⟨rfl,rfl,rfl,trivial⟩ ⟨by omega,hM⟩ ?_⟩;clear hM;rintro j w3 ⟨j1,hM⟩;rw[ag8];refine⟨fun g=>?_,fun g=>?_⟩
  ·have hj:j<m:=by simp at g;omega
   obtain⟨F2,hA,hT⟩:=hM.right;refine⟨(aeL 32 w3).mono ?_⟩;rintro e w4 hh;obtain⟨_,bq,G,rfl,hQ,hU,hG⟩:=hh.resolve_left (fun h=>absurd (by unfold tN;decide) h.1);obtain⟨p,c,hB,hput⟩:=Tq.push aav (k:=0) (fun p n c p' n' c'=>rfl) (fun _ _ _=>by simp[tZ]) hA (by simp;omega) (s:=(32,[])) hU hQ hG;refine⟨_,_,rfl,fun g=>by simp at g,fun _=>⟨_,rfl,_,_,_,hB.cell rfl,⟨fun w5 hN=>?_⟩⟩⟩;obtain⟨p',c',w6,hr,hW⟩:=hput w5 hN 153;refine⟨p',_,c',w6,hr,_,rfl,hW _ fun w7 hT7=>?_⟩;refine⟨j+1,⟨rfl,rfl,by rw[aD (by omega)];rfl,trivial⟩,⟨by omega,?_⟩,by omega⟩;have:=hT _ _ hT7;rw[List.replicate_succ'];exact this
  ·have:j=m:=by simp at g;omega
   subst this;obtain⟨F,hF1,hF2,hF3⟩:=hM;exact .inr ⟨by omega,b,F,rfl,⟨r,_,hF1,gl.new (by omega)⟩,hF2,hF3⟩
 ·simp at h1;omega
end Go.Dav
namespace Go.Dav
open Go.Proofs
theorem aeT (x:RS) (c p k:Int):(fY x c p k).length=x.length:=by unfold fY;split<;>simp
end Go.Dav
namespace Go.Dav
def mT (ld:Int->Int) (gt:Int->Int->Bool) (o:Option Int) (c:Int):Option Int:=match o with
 | none=>some c
 | some a=>if gt (ld c) (ld a)then some c else some a
def jo (ld:Int->Int) (gt:Int->Int->Bool) (l:List Int):Option Int:=l.foldl (mT ld gt) none
theorem LQ (ld:Int->Int) (gt:Int->Int->Bool) (l:List Int) (c:Int):jo ld gt (l++[c])=mT ld gt (jo ld gt l) c:=by
 unfold jo;rw[List.foldl_append];rfl
theorem vp (ld:Int->Int) (gt:Int->Int->Bool) (l:List Int):(jo ld gt l=none/\l=[])∨∃a∈l,jo ld gt l=some a:=by
 have h:∀(l:List Int) (o:Option Int),(l.foldl (mT ld gt) o=none/\l=[])∨∃a,(a∈l∨o=some a)/\l.foldl (mT ld gt) o=some a:=by
  intro l
  induction l with
  | nil=>intro o;cases o with
   | none=>exact .inl ⟨rfl,rfl⟩
   | some a=>exact .inr ⟨a,.inr rfl,rfl⟩
  | cons c l ih=>
   intro o;right;rw[List.foldl_cons];rcases ih (mT ld gt o c)with⟨k1,k2⟩|⟨a,k1,k2⟩
   ·subst k2;exfalso;simp only[List.foldl_nil]at k1;unfold mT at k1;split at k1
    ·cases k1
    ·split at k1<;>cases k1
   ·refine⟨a,?_,k2⟩;rcases k1 with k1|k1
    ·exact .inl (List.mem_cons_of_mem _ k1)
    ·unfold mT at k1;split at k1
     ·exact .inl (by have:=Option.some.inj k1;rw[this];exact List.mem_cons_self)
     ·split at k1
      ·exact .inl (by have:=Option.some.inj k1;rw[this];exact List.mem_cons_self)
      ·exact .inr k1
 rcases h l none with⟨k1,k2⟩|⟨a,k1,k2⟩
 ·exact .inl ⟨k1,k2⟩
 ·exact .inr ⟨a,k1.resolve_right (by simp),k2⟩
def jq (ld:Int->Int) (gt:Int->Int->Bool) (l:List Int):Int×Int:=match jo ld gt l with
 | none=>(0,12)
 | some a=>(a,0)
def jU (a b:Int):Bool:=decide (a>b)
def j0 (a b:Int):Bool:=decide (a<b)
end Go.Dav
namespace Go.Dav
open Go.Proofs
theorem RD (m:BV) {n:Nat} (hn:n<=64):cs (m&&& aQ n)=aV (hs m) n:=by
 have h:∀k,k<=64->aV (hs (m&&& aQ n)) k=aV (hs m) (min k n):=by
  intro k
  induction k with
  | zero=>intro _;rw[Nat.zero_min];rfl
  | succ k ih=>
   intro hk;rw[uz,ih (by omega),ru,tj];by_cases hkn:k<n
   ·rw[Nat.min_eq_left (by omega),Nat.min_eq_left (by omega),uz];have e1:decide (0<=(k:Int)/\(k:Int)<64)=true:=by simp;omega
    have e2:decide ((k:Int)<(n:Int))=true:=by simp;omega
    rw[e1,e2,Bool.and_self,Bool.and_true]
   ·rw[Nat.min_eq_right (by omega),Nat.min_eq_right (by omega)];have e2:decide ((k:Int)<(n:Int))=false:=by simp;omega
    rw[e2,Bool.and_false,Bool.and_false];rfl
 have:=h 64 (Nat.le_refl _);rw[Nat.min_eq_right hn]at this;exact this
section
variable {b:Nat} {w:World} {F:Fp} {x:RS}
theorem ady (u v:Int) (w:World):Cx 336 #[I u,I v] w fun e w'=>e=Z (.bool (jU u v))/\w'=w:=by
 refine alB ?_;rw[t336];exact⟨rfl,rfl⟩
theorem ac4 (u v:Int) (w:World):Cx 337 #[I u,I v] w fun e w'=>e=Z (.bool (j0 u v))/\w'=w:=by
 refine alC ?_;rw[t337];exact⟨rfl,rfl⟩
theorem afe (h:dh b w F x) (hTab:Tab w) (m:BV):Cx 335 #[pt b,.int .u64 (mi m),.func (.func 336) #[] #[]] w fun e w'=>e=Z (.tuple #[I (jq (bp x) jU (aV (hs m) x.length)).1,I (jq (bp x) jU (aV (hs m) x.length)).2])/\af no w w':=by
 obtain⟨r,g,hx,hi⟩:=id h;obtain⟨p,c,hB⟩:=wS hx;refine Ge ?_;rw[t335];refine⟨fun g=>by simp at g,fun _=>⟨_,rfl,_,_,_,hB.cell rfl,⟨(tI _ w).mono ?_⟩⟩⟩;rintro e w1 ⟨rfl,rfl⟩;refine⟨_,rfl,⟨(Aj m _ w1).mono ?_⟩⟩;rintro e w1 ⟨rfl,rfl⟩;refine⟨_,rfl,⟨(Vd _ hTab).mono ?_⟩⟩;rw[RD m hi.oz.2];have hlt:(aV (hs m) x.length).length<=x.length:=qz _ _;have hcp:=hi.oz;generalize aV (hs m) x.length=l at hlt⊢;rintro e w2 ⟨p2,c2,rfl,hL⟩;have h2:dh b w2 F x:=(Frame.rq b).ae h hL.U (fun _ _ h=>h);have hC:=hL.S.cells;have hU:=hL.U;clear hL
 cases l with
 | nil=>exact⟨_,_,_,rfl,fun _=>⟨rfl,hU⟩,fun g=>by simp at g⟩
 | cons v t=>
  refine⟨_,_,_,rfl,fun g=>by simp at g;omega,fun _=>⟨⟨by omega,by simp⟩,?_⟩⟩;obtain⟨a,ha,hc⟩:=hC.bC (i:=0) (by simp);refine⟨a,ha,_,hc,?_⟩;have hlc:(v::t).length=t.length+1:=rfl;refine⟨bA bf (M:=mb) (σ:=Nat) (fun j=>vO (some ⟨b,0,none⟩) ((jo (bp x) jU ((v::t).take j)).getD v) p2 (v::t).length c2 ((v::t).length:Int) (j:Int)) (fun j w'=>j<=(v::t).length/\w'=w2) (fun j _=>(v::t).length-j) 0 ⟨rfl,rfl,rfl,rfl,rfl,rfl,trivial⟩ ⟨by omega,rfl⟩ ?_⟩;rintro j w3 ⟨j1,rfl⟩;rw[FJ];refine⟨fun g=>?_,fun g=>?_⟩
  ·have hj:j<(v::t).length:=by simp at g⊢;omega
   obtain⟨a,ha,hc⟩:=hC.bC hj;refine⟨⟨by omega,by omega⟩,a,ha,_,hc,⟨(rL h2 _).mono ?_⟩⟩;rintro e w4 ⟨rfl,rfl⟩;refine⟨_,rfl,⟨(rL h2 _).mono ?_⟩⟩;rintro e w4 ⟨rfl,rfl⟩;refine⟨_,rfl,⟨(ady _ _ _).mono ?_⟩⟩;rintro e w4 ⟨rfl,rfl⟩;have hs1:=LQ (bp x) jU ((v::t).take j) (v::t)[j];rw[<-List.take_succ_eq_append_getElem hj]at hs1
   have hstep:((jo (bp x) jU ((v::t).take (j+1))).getD v)=if jU (bp x (v::t)[j]) (bp x ((jo (bp x) jU ((v::t).take j)).getD v))then(v::t)[j]else((jo (bp x) jU ((v::t).take j)).getD v):=by
    rw[hs1];rcases vp (bp x) jU ((v::t).take j)with⟨k1,k2⟩|⟨a,_,k1⟩
    ·have hj0:j=0:=by
      cases j with
      | zero=>rfl
      | succ j=>simp at k2
     subst hj0;rw[k1];simp[mT]
    ·rw[k1];unfold mT;simp only[Option.getD_some];split<;>rfl
   refine⟨_,rfl,fun g1=>⟨j+1,⟨rfl,rfl,by rw[hstep,if_pos g1];rfl,rfl,rfl,by rw[aD (by omega)];rfl,trivial⟩,⟨by omega,rfl⟩,by omega⟩,fun g1=>⟨j+1,⟨rfl,rfl,by rw[hstep,if_neg (by simp[g1])];rfl,rfl,rfl,by rw[aD (by omega)];rfl,trivial⟩,⟨by omega,rfl⟩,by omega⟩⟩
  ·have:j=(v::t).length:=by simp at g⊢;omega
   subst this;rw[List.take_length];unfold jq;rcases vp (bp x) jU (v::t)with⟨_,k2⟩|⟨a,_,k1⟩
   ·cases k2
   ·rw[k1];exact⟨rfl,hU⟩
theorem afg (h:dh b w F x) (hTab:Tab w) (m:BV):Cx 267 #[pt b,.int .u64 (mi m)] w fun e w'=>e=Z (.tuple #[I (jq (bp x) jU (aV (hs m) x.length)).1,I (jq (bp x) jU (aV (hs m) x.length)).2])/\af no w w':=by
 refine akL ?_;rw[t267];refine⟨(afe h hTab m).mono ?_⟩;rintro e w1 ⟨rfl,hU⟩;exact⟨_,_,rfl,rfl,hU⟩
theorem aff (h:dh b w F x) (hTab:Tab w) (m:BV):Cx 335 #[pt b,.int .u64 (mi m),.func (.func 337) #[] #[]] w fun e w'=>e=Z (.tuple #[I (jq (bp x) j0 (aV (hs m) x.length)).1,I (jq (bp x) j0 (aV (hs m) x.length)).2])/\af no w w':=by
 obtain⟨r,g,hx,hi⟩:=id h;obtain⟨p,c,hB⟩:=wS hx;refine l9.Ge ?_;rw[l9.t335];refine⟨fun g=>by simp at g,fun _=>⟨_,rfl,_,_,_,hB.cell rfl,⟨(tI _ w).mono ?_⟩⟩⟩;rintro e w1 ⟨rfl,rfl⟩;refine⟨_,rfl,⟨(Aj m _ w1).mono ?_⟩⟩;rintro e w1 ⟨rfl,rfl⟩;refine⟨_,rfl,⟨(Vd _ hTab).mono ?_⟩⟩;rw[RD m hi.oz.2];have hlt:(aV (hs m) x.length).length<=x.length:=qz _ _;have hcp:=hi.oz;generalize aV (hs m) x.length=l at hlt⊢;rintro e w2 ⟨p2,c2,rfl,hL⟩;have h2:dh b w2 F x:=(Frame.rq b).ae h hL.U (fun _ _ h=>h);have hC:=hL.S.cells;have hU:=hL.U;clear hL
 cases l with
 | nil=>exact⟨_,_,_,rfl,fun _=>⟨rfl,hU⟩,fun g=>by simp at g⟩
 | cons v t=>
  refine⟨_,_,_,rfl,fun g=>by simp at g;omega,fun _=>⟨⟨by omega,by simp⟩,?_⟩⟩;obtain⟨a,ha,hc⟩:=hC.bC (i:=0) (by simp);refine⟨a,ha,_,hc,?_⟩;have hlc:(v::t).length=t.length+1:=rfl;refine⟨bA bf (M:=l9.mb) (σ:=Nat) (fun j=>l9.vO (some ⟨b,0,none⟩) ((jo (bp x) j0 ((v::t).take j)).getD v) p2 (v::t).length c2 ((v::t).length:Int) (j:Int)) (fun j w'=>j<=(v::t).length/\w'=w2) (fun j _=>(v::t).length-j) 0 ⟨rfl,rfl,rfl,rfl,rfl,rfl,trivial⟩ ⟨by omega,rfl⟩ ?_⟩;rintro j w3 ⟨j1,rfl⟩;rw[l9.FJ];refine⟨fun g=>?_,fun g=>?_⟩
  ·have hj:j<(v::t).length:=by simp at g⊢;omega
   obtain⟨a,ha,hc⟩:=hC.bC hj;refine⟨⟨by omega,by omega⟩,a,ha,_,hc,⟨(rL h2 _).mono ?_⟩⟩;rintro e w4 ⟨rfl,rfl⟩;refine⟨_,rfl,⟨(rL h2 _).mono ?_⟩⟩;rintro e w4 ⟨rfl,rfl⟩;refine⟨_,rfl,⟨(ac4 _ _ _).mono ?_⟩⟩;rintro e w4 ⟨rfl,rfl⟩;have hs1:=LQ (bp x) j0 ((v::t).take j) (v::t)[j];rw[<-List.take_succ_eq_append_getElem hj]at hs1
   have hstep:((jo (bp x) j0 ((v::t).take (j+1))).getD v)=if j0 (bp x (v::t)[j]) (bp x ((jo (bp x) j0 ((v::t).take j)).getD v))then(v::t)[j]else((jo (bp x) j0 ((v::t).take j)).getD v):=by
    rw[hs1];rcases vp (bp x) j0 ((v::t).take j)with⟨k1,k2⟩|⟨a,_,k1⟩
    ·have hj0:j=0:=by
      cases j with
      | zero=>rfl
      | succ j=>simp at k2
     subst hj0;rw[k1];simp[mT]
    ·rw[k1];unfold mT;simp only[Option.getD_some];split<;>rfl
   refine⟨_,rfl,fun g1=>⟨j+1,⟨rfl,rfl,by rw[hstep,if_pos g1];rfl,rfl,rfl,by rw[aD (by omega)];rfl,trivial⟩,⟨by omega,rfl⟩,by omega⟩,fun g1=>⟨j+1,⟨rfl,rfl,by rw[hstep,if_neg (by simp[g1])];rfl,rfl,rfl,by rw[aD (by omega)];rfl,trivial⟩,⟨by omega,rfl⟩,by omega⟩⟩
  ·have:j=(v::t).length:=by simp at g⊢;omega
   subst this;rw[List.take_length];unfold jq;rcases vp (bp x) j0 (v::t)with⟨_,k2⟩|⟨a,_,k1⟩
   ·cases k2
   ·rw[k1];exact⟨rfl,hU⟩
theorem WA (h:dh b w F x) (hTab:Tab w) (m:BV):Cx 268 #[pt b,.int .u64 (mi m)] w fun e w'=>e=Z (.tuple #[I (jq (bp x) j0 (aV (hs m) x.length)).1,I (jq (bp x) j0 (aV (hs m) x.length)).2])/\af no w w':=by
 refine akM ?_;rw[t268];refine⟨(aff h hTab m).mono ?_⟩;rintro e w1 ⟨rfl,hU⟩;exact⟨_,_,rfl,rfl,hU⟩
end
end Go.Dav
namespace Go.Dav
open Go.Proofs
abbrev Iq:=Bool×Bool×Bool×BV
def nE (x:Iq):List Value:=[.bool x.1,.bool x.2.1,.bool x.2.2.1,.int .u64 (mi x.2.2.2)]
theorem tr (x:Iq):(nE x).length=4:=rfl
def i0:Iq:=(false,false,false,0)
abbrev bj:=Int×List Iq
def tt (s:bj):List Value:=s.2.flatMap nE++[.int .u64 (mi (aQ s.1))]
def bQ (b:Nat):Ob bj:=fun w F s=>Rw b 201 tt w F s/\s.2.length=16
instance Frame.ir (b:Nat):Frame (bQ b) where
 ae:=fun⟨h,r⟩ k hG=>⟨(Frame.rw ..).ae h k hG,r⟩
 lt:=fun⟨h,_⟩=>(Frame.rw ..).lt h
def fS (n:Int):Prop:=n<0∨16<=n
instance (n:Int):Decidable (fS n):=inferInstanceAs (Decidable (_∨_))
def gq (s:bj) (n:Int):Iq:=s.2.getD n.toNat i0
def gQ (s:bj) (n:Int) (q:Iq):bj:=(s.1,s.2.set n.toNat q)
def cR (s:bj) (n:Int):Int:=if fS n then 3 else if(gq s n).1=true then 0 else 4
def iX (s:bj) (n:Int) (m:BV):Int:=if fS n then 3 else if(gq s n).1=true then 6 else if jF s.1 m=true then 0 else 2
def jE (s:bj) (n:Int) (m:BV):bj:=if iX s n m=0 then gQ s n (true,false,false,m)else s
def nB (s:bj) (n:Int):bj:=if cR s n=0 then gQ s n i0 else s
def lH (s:bj) (n:Int) (m:BV):Int:=if cR s n=0 then(if jF s.1 m=true then 0 else 2)else cR s n
def mh (s:bj) (n:Int) (m:BV):bj:=if lH s n m=0 then gQ s n ((gq s n).1,(gq s n).2.1,(gq s n).2.2.1,m)else s
def kU (s:bj) (n:Int) (b:Bool):Int:=if cR s n=0 then(if(gq s n).2.1=b then 6 else 0)else cR s n
def lM (s:bj) (n:Int) (b:Bool):bj:=if kU s n b=0 then gQ s n ((gq s n).1,b,(gq s n).2.2.1,(gq s n).2.2.2)else s
def qp (s:bj) (n:Int):bj:=if cR s n=0 then gQ s n ((gq s n).1,(gq s n).2.1,true,(gq s n).2.2.2)else s
def cv (s:bj) (n:Int):Bool:=decide (cR s n=0)&&(gq s n).2.2.1&&!(gq s n).2.1
def lI (s:bj) (n:Int):Int:=if cR s n=0 then(if cv s n=true then 0 else 12)else cR s n
def jt (s:bj) (n:Int):bj:=if lI s n=0 then gQ s n ((gq s n).1,(gq s n).2.1,false,(gq s n).2.2.2)else s
def oW (s:bj) (i:Int):Bool:=(gq s i).1
def iq (s:bj):List Int:=aV (oW s) 16
def ia (b:Nat) (k:Nat):Addr:=((⟨b,0,none⟩:Addr).add 0).add (k*4)
section
variable {w:World} {F:Fp} {b:Nat} {s:bj}
theorem DS (h:s.2.length=16) {k:Nat} (hk:k<16):gq s (k:Int)=s.2[k]'(by omega):=by
 unfold gq;simp[List.getD_eq_getElem?_getD,h,hk]
theorem qc (h:s.2.length=16):(s.2.flatMap nE).length=64:=by rw[SK tr,h]
theorem bQ.cell (h:bQ b w F s) {k j:Nat} (hk:k<16) {v:Value} (hv:(nE (gq s (k:Int)))[j]?=some v):w.cell? ((ia b k).add j)=some v:=by
 unfold ia;rw[Addr.add_add,Addr.add_add];refine h.1.ai.cell ?_;rw[DS h.2 hk]at hv;have hj:j<4:=by have:=(List.getElem?_eq_some_iff.1 hv).1;rwa [tr]at this
 rw[tt,Nat.zero_add,List.getElem?_append_left (by rw[qc h.2];omega)];exact td tr (by rw[h.2];exact hk) hv
theorem bQ.oz (h:bQ b w F s):w.cell? ((⟨b,0,none⟩:Addr).add 64)=some (.int .u64 (mi (aQ s.1))):=by
 refine h.1.ai.cell ?_;rw[tt,List.getElem?_append_right (by rw[qc h.2];omega),qc h.2];rfl
theorem bQ.wr (h:bQ b w F s) {k j:Nat} (hk:k<16) {vs:List Value} {q:Iq} (hj:j+vs.length<=4) (hq:nE q=aI (nE (gq s (k:Int))) j vs) {K:World->Prop} (hK:∀w',aa (bQ b) w w' F (gQ s (k:Int) q)->K w') :
  Wr w ((ia b k).add j) vs K:=by
 unfold ia;rw[Addr.add_add,Addr.add_add,Nat.zero_add];rw[DS h.2 hk]at hq;refine h.1.ai.wr (by rw[tt,List.length_append,qc h.2];simp;omega) (fun w' hW=>hK w' ?_);have hb:=hW.aF;rw[tt,WU (by rw[qc h.2];omega),Fq tr (by rw[h.2];exact hk) hj hq]at hb;obtain⟨F',k1,k2⟩:=h.1.dZ (s':=gQ s (k:Int) q) hW.U hb;exact⟨F',⟨k1,by simp[gQ,h.2]⟩,k2⟩
theorem abZ (b k:Nat):(ia b k).add 0=ia b k:=by unfold ia;rw[Addr.add_add];rfl
theorem bQ.gF (h:bQ b w F s) {k:Nat} (hk:k<16) {q:Iq} {vs:List Value} (hq:vs=nE q) {K:World->Prop} (hK:∀w',aa (bQ b) w w' F (gQ s (k:Int) q)->K w'):Wr w (ia b k) vs K:=by
 subst hq;rw[<-abZ];exact h.wr hk (by rw[tr];omega) (by simp[aI,nE]) hK
theorem DH (b:Nat) (n:Int) (w:World):Cx 246 #[pt b,I n] w fun e w'=>
  ((fS n/\e=Z (.tuple #[.pointer none,I 3]))∨(¬fS n/\∃k:Nat,n=k/\k<16/\e=Z (.tuple #[.pointer (some (ia b k)),I 0])))/\w'=w:=by
 refine akq ?_;rw[t246];refine⟨fun h=>by simp at h,fun _=>⟨fun h1=>⟨fun h2=>⟨.inl ⟨?_,rfl⟩,rfl⟩,fun h2=>⟨_,rfl,⟨?_,?_⟩,.inr ⟨?_,n.toNat,?_,?_,rfl⟩,rfl⟩⟩,fun h1=>⟨.inl ⟨?_,rfl⟩,rfl⟩⟩⟩<;>(first|(simp at h1 h2;unfold fS;omega)|(simp at h1 h2;omega)|(simp at h1;unfold fS;omega))
theorem uB (h:bQ b w F s) (n:Int):Cx 250 #[pt b,I n] w fun e w'=>
  ((cR s n≠0/\e=Z (.tuple #[.pointer none,I (cR s n)]))∨(cR s n=0/\∃k:Nat,n=k/\k<16/\e=Z (.tuple #[.pointer (some (ia b k)),I 0])))/\w'=w:=by
 refine aku ?_;rw[t250];refine⟨(DH b n w).mono ?_⟩;rintro e w' ⟨hh,rfl⟩;rcases hh with⟨hn,rfl⟩|⟨hn,k,rfl,hk,rfl⟩
 ·have e1:cR s n=3:=by simp[cR,hn]
  exact⟨_,_,rfl,fun g=>by simp at g,fun _=>⟨.inl ⟨by omega,by rw[e1]⟩,rfl⟩⟩
 ·refine⟨_,_,rfl,fun _=>⟨_,rfl,_,h.cell hk rfl,fun g=>⟨.inl ?_,rfl⟩,fun g=>⟨.inr ⟨?_,k,rfl,hk,rfl⟩,rfl⟩⟩,fun g=>by simp at g⟩
  ·have e1:cR s k=4:=by rw[cR,if_neg hn,if_neg (by simpa using g)]
   exact⟨by omega,by rw[e1]⟩
  ·rw[cR,if_neg hn,if_pos (by simpa using g)]
theorem TA (h:bQ b w F s) (m:BV):Cx 247 #[pt b,.int .u64 (mi m)] w fun e w'=>e=Z (.bool (jF s.1 m))/\w'=w:=by
 refine akr ?_;rw[t247,rD];refine⟨fun g=>⟨_,rfl,_,h.oz,⟨(Vf _ _ w).mono ?_⟩⟩,fun g=>⟨by rw[jF,g,Bool.false_and],rfl⟩⟩;rintro e w' ⟨rfl,rfl⟩;exact⟨_,rfl,by rw[jF,g,Bool.true_and],rfl⟩
theorem ae1 (h:bQ b w F s) (n:Int):Cx 147 #[pt b,I n] w fun e w'=>e=Z (I (cR s n))/\aa (bQ b) w w' F (qp s n):=by
 refine ai5 ?_;rw[t147];refine⟨(uB h n).mono ?_⟩;rintro e w' ⟨⟨hn,rfl⟩|⟨hn,k,rfl,hk,rfl⟩,rfl⟩
 ·rw[qp,if_neg hn];exact⟨_,_,rfl,fun g=>absurd (by simpa using g) hn,fun _=>⟨rfl,aa.same h⟩⟩
 ·rw[qp,if_pos hn,hn];exact⟨_,_,rfl,fun _=>⟨_,rfl,h.wr hk (by simp) rfl fun w1 hT=>⟨rfl,hT⟩⟩,fun g=>by simp at g⟩
theorem abe (h:bQ b w F s) (n:Int):Cx 139 #[pt b,I n] w fun e w'=>e=Z (I (cR s n))/\aa (bQ b) w w' F (nB s n):=by
 refine aiX ?_;rw[t139];refine⟨(uB h n).mono ?_⟩;rintro e w' ⟨⟨hn,rfl⟩|⟨hn,k,rfl,hk,rfl⟩,rfl⟩
 ·rw[nB,if_neg hn];exact⟨_,_,rfl,fun g=>absurd (by simpa using g) hn,fun _=>⟨rfl,aa.same h⟩⟩
 ·rw[nB,if_pos hn,hn];exact⟨_,_,rfl,fun _=>⟨_,rfl,h.gF (q:=i0) hk rfl fun w1 hT=>⟨rfl,hT⟩⟩,fun g=>by simp at g⟩
theorem Ye (h:bQ b w F s) (n:Int) (m:BV):Cx 142 #[pt b,I n,.int .u64 (mi m)] w fun e w'=>e=Z (I (lH s n m))/\aa (bQ b) w w' F (mh s n m):=by
 refine ai0 ?_;rw[t142];refine⟨(uB h n).mono ?_⟩;rintro e w' ⟨⟨hn,rfl⟩|⟨hn,k,rfl,hk,rfl⟩,rfl⟩
 ·have e1:lH s n m=cR s n:=by rw[lH,if_neg hn]
  rw[mh,e1,if_neg hn];exact⟨_,_,rfl,fun _=>⟨rfl,aa.same h⟩,fun g=>absurd (by simpa using g) hn⟩
 ·refine⟨_,_,rfl,fun g=>by simp at g,fun _=>⟨(TA h m).mono ?_⟩⟩;rintro e w1 ⟨rfl,rfl⟩;refine⟨_,rfl,fun g=>?_,fun g=>⟨_,rfl,?_⟩⟩
  ·have e1:lH s k m=2:=by rw[lH,if_pos hn,if_neg (by simpa using g)]
   rw[mh,e1];exact⟨rfl,aa.same h⟩
  ·have e1:lH s k m=0:=by rw[lH,if_pos hn,if_pos (by simpa using g)]
   rw[mh,e1,if_pos rfl];exact h.wr hk (by simp) rfl fun w1 hT=>⟨rfl,hT⟩
theorem Ts (h:bQ b w F s) (n:Int) (is:Bool):Cx 252 #[pt b,I n,.bool is] w fun e w'=>e=Z (I (kU s n is))/\aa (bQ b) w w' F (lM s n is):=by
 refine akw ?_;rw[t252];refine⟨(uB h n).mono ?_⟩;rintro e w' ⟨⟨hn,rfl⟩|⟨hn,k,rfl,hk,rfl⟩,rfl⟩
 ·have e1:kU s n is=cR s n:=by rw[kU,if_neg hn]
  rw[lM,e1,if_neg hn];exact⟨_,_,rfl,fun _=>⟨rfl,aa.same h⟩,fun g=>absurd (by simpa using g) hn⟩
 ·refine⟨_,_,rfl,fun g=>by simp at g,fun _=>⟨_,rfl,_,h.cell hk rfl,fun g=>?_,fun g=>⟨_,rfl,?_⟩⟩⟩
  ·have e1:kU s k is=6:=by rw[kU,if_pos hn,if_pos (by simpa using g)]
   rw[lM,e1];exact⟨rfl,aa.same h⟩
  ·have e1:kU s k is=0:=by rw[kU,if_pos hn,if_neg (by simpa using g)]
   rw[lM,e1,if_pos rfl];exact h.wr hk (by simp) rfl fun w1 hT=>⟨rfl,hT⟩
theorem abX (h:bQ b w F s) (n:Int):Cx 145 #[pt b,I n] w fun e w'=>e=Z (I (kU s n true))/\aa (bQ b) w w' F (lM s n true):=by
 refine ai3 ?_;rw[t145];refine⟨(Ts h n true).mono ?_⟩;rintro e w' ⟨rfl,hT⟩;exact⟨_,rfl,rfl,hT⟩
theorem amn (h:bQ b w F s) (n:Int):Cx 146 #[pt b,I n] w fun e w'=>e=Z (I (kU s n false))/\aa (bQ b) w w' F (lM s n false):=by
 refine ai4 ?_;rw[t146];refine⟨(Ts h n false).mono ?_⟩;rintro e w' ⟨rfl,hT⟩;exact⟨_,rfl,rfl,hT⟩
theorem ae2 (h:bQ b w F s) (n:Int):Cx 175 #[pt b,I n] w fun e w'=>e=Z (.bool (cv s n))/\w'=w:=by
 refine ajv ?_;rw[t175];refine⟨(uB h n).mono ?_⟩;rintro e w' ⟨⟨hn,rfl⟩|⟨hn,k,rfl,hk,rfl⟩,rfl⟩
 ·have e1:cv s n=false:=by simp[cv,hn]
  rw[e1];exact⟨_,_,rfl,fun g=>absurd (by simpa using g) hn,fun _=>⟨rfl,rfl⟩⟩
 ·refine⟨_,_,rfl,fun _=>⟨_,rfl,_,h.cell hk rfl,fun g=>⟨_,rfl,_,h.cell hk rfl,?_,rfl⟩,fun g=>⟨?_,rfl⟩⟩,fun g=>by simp at g⟩
  ·have e1:cv s k = !(gq s k).2.1:=by simp[cv,hn,g]
   rw[e1]
  ·have e1:cv s k=false:=by simp[cv,g]
   rw[e1]
theorem ZC (h:bQ b w F s) (n:Int):Cx 221 #[pt b,I n] w fun e w'=>e=Z (I (lI s n))/\aa (bQ b) w w' F (jt s n):=by
 refine aj1 ?_;rw[t221];refine⟨(uB h n).mono ?_⟩;rintro e w' ⟨⟨hn,rfl⟩|⟨hn,k,rfl,hk,rfl⟩,rfl⟩
 ·have e1:lI s n=cR s n:=by rw[lI,if_neg hn]
  rw[jt,e1,if_neg hn];exact⟨_,_,rfl,fun _=>⟨rfl,aa.same h⟩,fun g=>absurd (by simpa using g) hn⟩
 ·refine⟨_,_,rfl,fun g=>by simp at g,fun _=>⟨_,rfl,_,h.cell hk rfl,fun g1=>⟨_,rfl,_,h.cell hk rfl,fun g2=>?_,fun g2=>⟨_,rfl,?_⟩⟩,fun g1=>?_⟩⟩
  ·have e1:lI s k=12:=by rw[lI,if_pos hn,if_neg (by simp[cv,g2])]
   rw[jt,e1];exact⟨rfl,aa.same h⟩
  ·have g1:(gq s k).2.2.1=true:=by simpa using g1
   have e1:lI s k=0:=by rw[lI,if_pos hn,if_pos (by simp[cv,hn,g1,g2])]
   rw[jt,e1,if_pos rfl];exact h.wr hk (by simp) rfl fun w1 hT=>⟨rfl,hT⟩
  ·have g1:(gq s k).2.2.1=false:=by simpa using g1
   have e1:lI s k=12:=by rw[lI,if_pos hn,if_neg (by simp[cv,g1])]
   rw[jt,e1];exact⟨rfl,aa.same h⟩
theorem ae8 (h:bQ b w F s) (n:Int) (m:BV):Cx 136 #[pt b,I n,.int .u64 (mi m)] w fun e w'=>e=Z (I (iX s n m))/\aa (bQ b) w w' F (jE s n m):=by
 refine aiU ?_;rw[t136];refine⟨(DH b n w).mono ?_⟩;rintro e w' ⟨⟨hn,rfl⟩|⟨hn,k,rfl,hk,rfl⟩,rfl⟩
 ·have e1:iX s n m=3:=by simp[iX,hn]
  rw[jE,e1];exact⟨_,_,rfl,fun _=>⟨rfl,aa.same h⟩,fun g=>by simp at g⟩
 ·refine⟨_,_,rfl,fun g=>by simp at g,fun _=>⟨_,rfl,_,h.cell hk rfl,fun g1=>?_,fun g1=>⟨(TA h m).mono ?_⟩⟩⟩
  ·have e1:iX s k m=6:=by rw[iX,if_neg hn,if_pos g1]
   rw[jE,e1];exact⟨rfl,aa.same h⟩
  ·rintro e w1 ⟨rfl,rfl⟩;refine⟨_,rfl,fun g=>?_,fun g=>⟨_,rfl,?_⟩⟩
   ·have e1:iX s k m=2:=by rw[iX,if_neg hn,if_neg (by simp[g1]),if_neg (by simpa using g)]
    rw[jE,e1];exact⟨rfl,aa.same h⟩
   ·have e1:iX s k m=0:=by rw[iX,if_neg hn,if_neg (by simp[g1]),if_pos (by simpa using g)]
    rw[jE,e1,if_pos rfl];exact h.gF (q:=(true,false,false,m)) hk rfl fun w1 hT=>⟨rfl,hT⟩
theorem U7 (h:bQ b w F s):Cx 174 #[pt b] w fun e w'=>∃p c,e=Z (.slice p (iq s).length c)/\Loc w w' 3 p c (iq s):=by
 have hl:=h.2;refine aju ?_;rw[t174]
 refine⟨fun g=>by simp at g,fun _=>⟨_,rfl,s.2.flatMap nE,qc hl,?_,⟨bA bf (M:=uL) (σ:=Nat×Option Addr×Nat) (fun x=>CV x.2.1 (aV (oW s) x.1).length x.2.2 (s.2.flatMap nE) x.1)
  (fun x w'=>x.1<=16/\Loc w w' 3 x.2.1 x.2.2 (aV (oW s) x.1)) (fun x _=>16-x.1) (0,none,0) ⟨rfl,rfl,rfl,trivial⟩ ⟨by simp,Loc.nil (af.refl _ _) _⟩ ?_⟩⟩⟩
 ·intro j v hj;rw[Addr.add_add];refine h.1.ai.cell ?_;have hj64:j<64:=by have:=(List.getElem?_eq_some_iff.1 hj).1;rwa [qc hl]at this
  rw[tt,Nat.zero_add,List.getElem?_append_left (by rw[qc hl];exact hj64)];exact hj
 ·rintro⟨i,p,d⟩ w1 ⟨h1,hL⟩;simp only at h1 hL⊢;rw[agx];have hs1:=uz (oW s) i;have hb:=qz (oW s) i;refine⟨fun hlt=>?_,fun hge=>?_⟩
  ·have hi:i<16:=by simp at hlt;omega
   have hsl:=SL tr (l:=s.2) (k:=i) (by omega);have hlp:oW s i=(s.2[i]'(by omega)).1:=by unfold oW;rw[DS hl hi]
   refine⟨⟨by omega,by omega⟩,_,_,_,_,hsl,⟨fun w2 hN=>?_⟩⟩;refine hN.aF.gF (by simp) (fun w3 hW=>?_);refine⟨_,hW.aF.cell rfl,fun g=>⟨fun w4 hN4=>?_⟩,fun g=>?_⟩
   ·have hL3:Loc w w3 3 p d (aV (oW s) i):=⟨hL.U.and ((hN.ae no).trans (hW.U) (fun j hj e=>absurd hj (by omega))),?_,hL.F⟩
    ·obtain⟨p',c',w5,hr,hL'⟩:=hL3.push kz (by omega) hN4 36;rw[if_pos (by rw[hlp];exact g)]at hs1;exact⟨p',_,c',w5,hr,(i+1,p',c'),⟨by rw[hs1];rfl,rfl,by rw[aD (by omega)];rfl,trivial⟩,⟨by simp only;omega,by rw[hs1];exact hL'⟩,by simp only;omega⟩
    ·exact(hL.S.ae (hN.ae no) (fun _ _ h=>h)).ae hW.U (fun j hj e=>by have:=hL.S.lt j hj;omega)
   ·have hL3:Loc w w3 3 p d (aV (oW s) i):=⟨hL.U.and ((hN.ae no).trans (hW.U) (fun j hj e=>absurd hj (by omega))),(hL.S.ae (hN.ae no) (fun _ _ h=>h)).ae hW.U (fun j hj e=>by have:=hL.S.lt j hj;omega),hL.F⟩;rw[if_neg (by rw[hlp,g];decide)]at hs1;exact⟨(i+1,p,d),⟨by rw[hs1];rfl,rfl,by rw[aD (by omega)];rfl,trivial⟩,⟨by simp only;omega,by rw[hs1];exact hL3⟩,by simp only;omega⟩
  ·have:i=16:=by simp at hge;omega
   subst this;exact⟨p,d,rfl,hL⟩
end
theorem ad3 (n:Int) (w:World):Cx 40 #[I n] w fun e w'=>
  (¬(1<=n/\n<=64)/\e=Z (.tuple #[.pointer none,I 2])/\w'=w)∨
  ((1<=n/\n<=64)/\∃b F,e=Z (.tuple #[pt b,I 0])/\bQ b w' F (n,List.replicate 16 i0)/\af no w w'/\∀i,F i->w.heap.size<=i):=by
 refine u40 ?_;rw[t40];refine⟨fun h1=>⟨fun h2=>.inl ⟨by simp at h2;omega,rfl,rfl⟩,fun h2=>⟨(tI n w).mono ?_⟩⟩,fun h1=>.inl ⟨by simp at h1;omega,rfl,rfl⟩⟩;rintro e w1 ⟨rfl,rfl⟩;exact⟨_,rfl,⟨fun w2 hN=>.inr ⟨by simp at h1 h2;omega,w1.heap.size,fun i=>i=w1.heap.size,rfl,⟨Rw.new hN rfl,rfl⟩,hN.ae no,fun i hi=>Nat.le_of_eq hi.symm⟩⟩⟩
end Go.Dav
namespace Go.Dav
open Go.Proofs
abbrev ch:=Int×List Int
structure ch.ok (x:ch):Prop where
 len:x.2.length=16
 le:x.1<=64
 Tt:∀v∈x.2,-1<=v/\v<64
def nS (x:ch):List Value:=x.2.map (fun v=>Value.int .i64 (v+1))++[I x.1]
def fM (b:Nat):Ob ch:=fun w F x=>Rw b 204 nS w F x/\x.ok
instance Frame.rt (b:Nat):Frame (fM b) where
 ae:=fun⟨h,r⟩ k hG=>⟨(Frame.rw ..).ae h k hG,r⟩
 lt:=fun⟨h,_⟩=>(Frame.rw ..).lt h
def fo (n:Int):Prop:=n<0∨16<=n
instance (n:Int):Decidable (fo n):=inferInstanceAs (Decidable (_∨_))
def gt (x:ch) (n:Int):Int:=x.2.getD n.toNat 0
def lV (x:ch) (n c:Int):Int:=if fo n then 3 else if c<0∨x.1<=c then 3 else 0
def j8 (x:ch) (n c:Int):ch:=if lV x n c=0 then(x.1,x.2.set n.toNat c)else x
def o0 (x:ch) (n:Int):Int:=if fo n then 3 else if gt x n<0 then 4 else 0
def mG (x:ch) (n:Int):ch:=if o0 x n=0 then(x.1,x.2.set n.toNat (-1))else x
def b9 (x:ch) (n:Int):Int×Bool:=if fo n then(0,false)else if gt x n<0 then(0,false)else(gt x n,true)
def nM (x:ch) (c:Int) (i:Int):Bool:=(b9 x i).2&&(b9 x i).1==c
def ft (x:ch) (c:Int):List Int:=aV (nM x c) 16
theorem Td {x:ch} (h:x.ok) {k:Nat} (hk:k<16):gt x (k:Int)=x.2[k]'(by rw[h.len];exact hk):=by
 unfold gt;simp[List.getD_eq_getElem?_getD,h.len,hk]
theorem Te {x:ch} (h:x.ok) {k:Nat} (hk:k<16) : -1<=gt x (k:Int)/\gt x (k:Int)<64:=by
 rw[Td h hk];exact h.Tt _ (List.getElem_mem _)
theorem afk {x:ch} (h:x.ok) {k:Nat} (hk:k<16):(nS x)[k]?=some (I (gt x (k:Int)+1)):=by
 rw[Td h hk,nS,List.getElem?_append_left (by simp[h.len,hk])];simp[h.len,hk]
theorem afl {x:ch} (h:x.ok):(nS x)[16]?=some (I x.1):=by
 rw[nS,List.getElem?_append_right (by simp[h.len])];simp[h.len]
theorem afm {x:ch} (h:x.ok):(nS x).length=17:=by simp[nS,h.len]
theorem afn {x:ch} (h:x.ok) {k:Nat} (hk:k<16) (v:Int):aI (nS x) k [I (v+1)]=nS (x.1,x.2.set k v):=by
 have:=h.len;unfold aI nS;apply List.ext_getElem?;intro j;simp only[List.getElem?_append,List.getElem?_take,List.getElem?_drop,List.getElem?_map,List.getElem?_set,List.length_append,List.length_take,List.length_map,List.length_cons,List.length_nil,List.length_set]
 grind
theorem aem {x:ch} (h:x.ok) {k:Nat} {v:Int} (hv : -1<=v/\v<64):ch.ok (x.1,x.2.set k v):=
 ⟨by simp[h.len],h.le,fun u hu=>by
  rcases List.mem_or_eq_of_mem_set hu with hu|rfl
  ·exact h.Tt u hu
  ·exact hv⟩
section
variable {w:World} {F:Fp} {b:Nat} {x:ch} {y:Option Addr×Nat}
theorem E6 (b:Nat) (n:Int) (w:World):Cx 251 #[pt b,I n] w fun e w'=>e=Z (I (if fo n then 3 else 0))/\w'=w:=by
 refine akv ?_;rw[t251];refine⟨fun h=>by simp at h,fun _=>⟨fun h1=>⟨fun h2=>⟨?_,rfl⟩,fun h2=>⟨?_,rfl⟩⟩,fun h1=>⟨?_,rfl⟩⟩⟩
 ·rw[if_pos (by simp at h2;unfold fo;omega)]
 ·rw[if_neg (by simp at h1 h2;unfold fo;omega)]
 ·rw[if_pos (by simp at h1;unfold fo;omega)]
theorem fM.cell {k:Nat} (h:fM b w F x) (hk:k<16):w.cell? (((⟨b,0,none⟩:Addr).add 0).add ((k:Int).toNat*1))=some (I (gt x (k:Int)+1)):=by
 rw[Addr.add_add,Nat.zero_add,Nat.mul_one];exact h.1.ai.cell (afk h.2 hk)
theorem fM.wr {k:Nat} {v:Int} (h:fM b w F x) (hk:k<16) (hv : -1<=v/\v<64) {K:World->Prop} (hK:∀w',aa (fM b) w w' F (x.1,x.2.set k v)->K w') :
  Wr w (((⟨b,0,none⟩:Addr).add 0).add ((k:Int).toNat*1)) [I (v+1)] K:=by
 rw[Addr.add_add,Nat.zero_add,Nat.mul_one];refine h.1.ai.wr (by rw[afm h.2];show k+1<=17;omega) (fun w' hW=>hK w' ?_);have hb:=hW.aF;rw[show(k:Int).toNat=k from rfl,afn h.2 hk]at hb;obtain⟨F',k1,k2⟩:=h.1.dZ (s':=(x.1,x.2.set k v)) hW.U hb;exact⟨F',⟨k1,aem h.2 hv⟩,k2⟩
theorem afJ (h:fM b w F x) (n c:Int):Cx 249 #[pt b,I n,I c] w fun e w'=>e=Z (I (lV x n c))/\aa (fM b) w w' F (j8 x n c):=by
 refine akt ?_;rw[t249];refine⟨(E6 b n w).mono ?_⟩;rintro e w' ⟨rfl,rfl⟩;have hle:=h.2.le;by_cases hn:fo n
 ·have e1:lV x n c=3:=by simp[lV,hn]
  rw[if_pos hn,j8,e1];exact⟨_,rfl,fun _=>⟨rfl,aa.same h⟩,fun g=>by simp at g⟩
 ·rw[if_neg hn];obtain⟨k,rfl⟩:∃k:Nat,n=k:=⟨n.toNat,by unfold fo at hn;omega⟩;have hk:k<16:=by unfold fo at hn;omega
  refine⟨_,rfl,fun g=>by simp at g,fun _=>⟨fun g1=>⟨_,rfl,_,h.1.ai.cell (afl h.2),fun g2=>?_,fun g2=>⟨_,rfl,⟨by omega,by omega⟩,?_⟩⟩,fun g1=>?_⟩⟩
  ·have e1:lV x k c=3:=by simp at g2;simp[lV,hn,g2]
   rw[j8,e1];exact⟨rfl,aa.same h⟩
  ·have g1:¬c<0:=by simpa using g1
   have g2:¬x.1<=c:=by simpa using g2
   have e1:lV x k c=0:=by rw[lV,if_neg hn,if_neg (by omega)]
   rw[j8,e1,if_pos rfl,aD (by omega)];exact h.wr hk (by omega) (fun w' hT=>⟨rfl,hT⟩)
  ·have e1:lV x k c=3:=by simp at g1;simp[lV,hn,g1]
   rw[j8,e1];exact⟨rfl,aa.same h⟩
theorem aej (h:fM b w F x) (n:Int):Cx 141 #[pt b,I n] w fun e w'=>e=Z (I (o0 x n))/\aa (fM b) w w' F (mG x n):=by
 refine aiZ ?_;rw[t141];refine⟨(E6 b n w).mono ?_⟩;rintro e w' ⟨rfl,rfl⟩;by_cases hn:fo n
 ·have e1:o0 x n=3:=by simp[o0,hn]
  rw[if_pos hn,mG,e1];exact⟨_,rfl,fun _=>⟨rfl,aa.same h⟩,fun g=>by simp at g⟩
 ·rw[if_neg hn];obtain⟨k,rfl⟩:∃k:Nat,n=k:=⟨n.toNat,by unfold fo at hn;omega⟩;have hk:k<16:=by unfold fo at hn;omega
  have hi:=Te h.2 hk;refine⟨_,rfl,fun g=>by simp at g,fun _=>⟨_,rfl,⟨by omega,by omega⟩,_,h.cell hk,fun g1=>?_,fun g1=>⟨_,rfl,⟨by omega,by omega⟩,?_⟩⟩⟩
  ·have e1:o0 x k=4:=by simp at g1;rw[o0,if_neg hn,if_pos (by omega)]
   rw[mG,e1];exact⟨rfl,aa.same h⟩
  ·have e1:o0 x k=0:=by simp at g1;rw[o0,if_neg hn,if_neg (by omega)]
   rw[mG,e1,if_pos rfl];have:=h.wr (v:=-1) hk (by omega) (K:=fun w2=>Ending.returned (I 0)=Ending.returned (I 0)/\aa (fM b) w' w2 F (x.1,x.2.set k (-1))) (fun w2 hT=>⟨rfl,hT⟩);exact this
theorem VQ (h:fM b w F x) (n:Int):Cx 186 #[pt b,I n] w fun e w'=>e=Z (.tuple #[I (b9 x n).1,.bool (b9 x n).2])/\w'=w:=by
 refine ajA ?_;rw[t186];refine⟨(E6 b n w).mono ?_⟩;rintro e w' ⟨rfl,rfl⟩;by_cases hn:fo n
 ·have e1:b9 x n=(0,false):=by simp[b9,hn]
  rw[if_pos hn,e1];exact⟨_,rfl,fun g=>by simp at g,fun _=>⟨rfl,rfl⟩⟩
 ·rw[if_neg hn];obtain⟨k,rfl⟩:∃k:Nat,n=k:=⟨n.toNat,by unfold fo at hn;omega⟩;have hk:k<16:=by unfold fo at hn;omega
  have hi:=Te h.2 hk;refine⟨_,rfl,fun _=>⟨_,rfl,⟨by omega,by omega⟩,_,h.cell hk,fun g1=>?_,fun g1=>⟨_,rfl,⟨by omega,by omega⟩,_,h.cell hk,?_⟩⟩,fun g=>by simp at g⟩
  ·have e1:b9 x k=(0,false):=by simp at g1;rw[b9,if_neg hn,if_pos (by omega)]
   rw[e1];exact⟨rfl,rfl⟩
  ·have e1:b9 x k=(gt x k,true):=by simp at g1;rw[b9,if_neg hn,if_neg (by omega)]
   rw[e1,aD (by omega),Int.add_sub_cancel];exact⟨rfl,rfl⟩
theorem VV (h:fM b w F x) (c:Int):Cx 291 #[pt b,I c] w fun e w'=>∃p d,e=Z (.slice p (ft x c).length d)/\Loc w w' 3 p d (ft x c):=by
 refine akR ?_;rw[t291]
 refine⟨fun g=>by simp at g,fun _=>⟨bA bf (M:=uT) (σ:=Nat×Option Addr×Nat) (fun s=>C9 (some ⟨b,0,none⟩) c s.2.1 (aV (nM x c) s.1).length s.2.2 s.1)
  (fun s w'=>s.1<=16/\Loc w w' 3 s.2.1 s.2.2 (aV (nM x c) s.1)) (fun s _=>16-s.1) (0,none,0) ⟨rfl,rfl,rfl,rfl,trivial⟩ ⟨by simp,Loc.nil (af.refl _ _) _⟩ ?_⟩⟩
 rintro⟨i,p,d⟩ w1 ⟨h1,hL⟩;simp only at h1 hL⊢;rw[agT];have hs1:=uz (nM x c) i;have hb:=qz (nM x c) i;refine⟨fun hlt=>?_,fun hge=>?_⟩
 ·have hi:i<16:=by simp at hlt;omega
  have hw:fM b w1 F x:=(Frame.rt b).ae h hL.U (fun _ _ h=>h);refine⟨(VQ hw i).mono ?_⟩;rintro e w' ⟨rfl,rfl⟩;refine⟨_,_,rfl,fun g1=>⟨fun g2=>⟨fun w2 hN=>?_⟩,fun g2=>?_⟩,fun g1=>?_⟩
  ·obtain⟨p',c',w3,hr,hL'⟩:=hL.push kz (by omega) hN 36;rw[if_pos (by unfold nM;rw[g1,g2];rfl)]at hs1;exact⟨p',_,c',w3,hr,(i+1,p',c'),⟨rfl,rfl,by rw[hs1];rfl,by rw[aD (by omega)];rfl,trivial⟩,⟨by simp only;omega,by rw[hs1];exact hL'⟩,by simp only;omega⟩
  ·rw[if_neg (by unfold nM;rw[g1,g2];decide)]at hs1;exact⟨(i+1,p,d),⟨rfl,rfl,by rw[hs1];rfl,by rw[aD (by omega)];rfl,trivial⟩,⟨by simp only;omega,by rw[hs1];exact hL⟩,by simp only;omega⟩
  ·rw[if_neg (by unfold nM;rw[g1];simp)]at hs1;exact⟨(i+1,p,d),⟨rfl,rfl,by rw[hs1];rfl,by rw[aD (by omega)];rfl,trivial⟩,⟨by simp only;omega,by rw[hs1];exact hL⟩,by simp only;omega⟩
 ·have:i=16:=by simp at hge;omega
  subst this;exact⟨p,d,rfl,hL⟩
end
end Go.Dav
namespace Go.Dav
open Go.Proofs
theorem aax:dH Tryz.prog 205 208 1 8 [.pointer none]:=⟨by kernel_rfl,by kernel_rfl,rfl,by omega⟩
theorem Ao:mf Tryz.prog 78 3 3 (I 0):=⟨by kernel_rfl,by kernel_rfl,by kernel_rfl,by kernel_rfl⟩
def gy (l:List Int):Nat×List Int:=(32,l)
abbrev QL:=List (List Int)
abbrev WS:=List Bool×((Int->Option Int)×Nat)×QL
def qD (b2 b3:Nat) (p:Option Addr) (n c:Nat):List Value:=[pt b2,.slice p n c,.map (some b3)]
def lF (b:Nat):Ob WS:=fun w F x=>∃b2 b3,au (au (b8 b2) (aS b3 (Value.int .i64))) (Tq cX b 207 208 (qD b2 b3)) w F ((x.1,x.2.1),x.2.2.map gy)
instance Frame.wk (b:Nat):Frame (lF b) where
 ae:=fun⟨b2,b3,h⟩ k hG=>⟨b2,b3,Frame.star.ae h k hG⟩
 lt:=fun⟨b2,b3,h⟩=>Frame.star.lt h
def gE (Q:QL) (v:Int):Option Int:=(Q.findIdx? (fun l=>decide (v∈l))).map (fun(i:Nat)=>(i:Int)-1)
def once (Q:QL):Prop:=∀v,ct Q v<=1
section
variable {Q:QL} {i j:Nat} {v:Int}
theorem Wy (hi:i<Q.length) (hj:j<Q.length) (hij:i≠j) (h1:v∈Q[i]) (h2:v∈Q[j]):2<=ct Q v:=by
 have k1:=lJ hi [] v;have hj':j<(Q.set i []).length:=by simpa using hj
 have k2:=iK (L:=Q.set i []) hj' (v:=v) (by rw[List.getElem_set_ne hij];exact h2);have k3:=List.count_pos_iff.2 h1;simp at k1;omega
theorem uC (hO:once Q) (hi:i<Q.length) (h:v∈Q[i]):gE Q v=some ((i:Int)-1):=by
 have:Q.findIdx? (fun l=>decide (v∈l))=some i:=by
  rw[List.findIdx?_eq_some_iff_getElem];refine⟨hi,by simpa using h,fun k hk=>?_⟩;have hk2:k<Q.length:=by omega
  simp only[decide_eq_true_eq];intro hm;have:=Wy hk2 hi (by omega) hm h;have:=hO v;omega
 rw[gE,this];rfl
theorem Bq (h:ct Q v=0):gE Q v=none:=by
 have:Q.findIdx? (fun l=>decide (v∈l))=none:=by
  rw[List.findIdx?_eq_none_iff];intro l hl;obtain⟨i,hi,rfl⟩:=List.getElem_of_mem hl;rw[decide_eq_false_iff_not];intro hm;have:=iK hi hm;omega
 rw[gE,this];rfl
theorem Gn (hO:once Q) (v:Int):(gE Q v=none/\ct Q v=0)∨∃i,∃hi:i<Q.length,v∈Q[i]/\gE Q v=some ((i:Int)-1)/\0<ct Q v:=by
 by_cases h:ct Q v=0
 ·exact .inl ⟨Bq h,h⟩
 ·have h2:v∈Q.flatten:=List.count_pos_iff.1 (by unfold ct at h;omega);obtain⟨l,hl,hv⟩:=List.mem_flatten.1 h2;obtain⟨i,hi,rfl⟩:=List.getElem_of_mem hl;exact .inr ⟨i,hi,hv,uC hO hi hv,by omega⟩
theorem Br (hO:once Q) {l':List Int} (hO':once (Q.set i l')) (hi:i<Q.length) (hv:v∈l'↔v∈Q[i]):gE (Q.set i l') v=gE Q v:=by
 rcases Gn hO v with⟨h1,h2⟩|⟨k,hk,h1,h2,_⟩
 ·rw[h1];apply Bq;have h3:=lJ hi l' v;have h4:l'.count v=0:=List.count_eq_zero.2 fun hm=>by have:=iK hi (hv.1 hm);omega
  omega
 ·rw[h2];have hk':k<(Q.set i l').length:=by simpa using hk
  refine uC hO' hk' ?_;by_cases hik:i=k
  ·subst hik;rw[List.getElem_set_self];exact hv.2 h1
  ·rw[List.getElem_set_ne hik];exact h1
end
structure WI (x:WS):Prop where
 len:x.1.length=32
 one:once x.2.2
 has:∀v,bL x.1 v=decide (0<ct x.2.2 v)
 map:∀v,x.2.1.1 v=gE x.2.2 v
 pos:2<=x.2.2.length/\x.2.2.length<=65
def dt (b:Nat):Ob QL:=fun w F Q=>∃o g,lF b w F (o,g,Q)/\WI (o,g,Q)
instance Frame.pG (b:Nat):Frame (dt b) where
 ae:=fun⟨o,g,h,r⟩ k hG=>⟨o,g,(Frame.wk b).ae h k hG,r⟩
 lt:=fun⟨o,g,h,_⟩=>(Frame.wk b).lt h
theorem aa.pG {b:Nat} {w w':World} {F:Fp} {o:List Bool} {g:(Int->Option Int)×Nat} {Q:QL} (h:aa (lF b) w w' F (o,g,Q)) (k:WI (o,g,Q)):aa (dt b) w w' F Q:=by
 obtain⟨F',h1,h2⟩:=h;exact⟨F',⟨o,g,h1,k⟩,h2⟩
section
variable {o:List Bool} {g:(Int->Option Int)×Nat} {Q:QL} {i:Nat} {v:Int}
theorem WI.e9 (h:WI (o,g,Q)) (hv:0<ct Q v):1<=v/\v<=32:=by
 have:bL o v=true:=by rw[h.has];exact decide_eq_true hv
 have:=nC this;have hl:=h.len;simp only at hl;rw[hl]at this;exact this
theorem WI.row (h:WI (o,g,Q)) (hi:i<Q.length):Q[i].Nodup/\Q[i].length<=32:=by
 have hn:=CJ h.one hi;exact⟨hn,nz hn fun v hv=>h.e9 (iK hi hv)⟩
theorem WI.push (h:WI (o,g,Q)) (hi:i<Q.length) (h1:1<=v/\v<=32) (hv:v∉Q[i]):fy (gy Q[i]) v=0/\iy (gy Q[i]) v=gy (Q[i]++[v]):=by
 obtain⟨hn,_⟩:=h.row hi
 have hl:(Q[i]++[v]).length<=32:=by
  refine nz ?_ ?_
  ·rw[List.nodup_append];exact⟨hn,by simp,fun a ha b hb e=>by simp at hb;subst hb;subst e;exact hv ha⟩
  ·intro u hu;rw[List.mem_append]at hu;rcases hu with hu|hu
   ·exact h.e9 (iK hi hu)
   ·simp at hu;subst hu;exact h1
 have e:fy (gy Q[i]) v=0:=by
  unfold fy gy;simp only;rw[if_neg hv,if_neg];simp at hl;omega
 exact⟨e,by rw[iy,if_pos e];rfl⟩
theorem yZ (hi:i<Q.length) (v u:Int):ct (Q.set i (Q[i]++[v])) u=ct Q u+if v=u then 1 else 0:=by
 have:=lJ hi (Q[i]++[v]) u;rw[List.count_append,List.count_singleton]at this;simp only[beq_iff_eq]at this;omega
theorem RE (hO:once Q) (hi:i<Q.length) (hv:v∈Q[i]) (u:Int):ct (Q.set i (Q[i].erase v)) u+(if v=u then 1 else 0)=ct Q u:=by
 have:=lJ hi (Q[i].erase v) u;have h2:(Q[i].erase v).count u=Q[i].count u-if(v==u)=true then 1 else 0:=List.count_erase;have h3:=CH hi u;by_cases huv:v=u
 ·subst huv;have:=List.count_pos_iff.2 hv;rw[if_pos (by simp)]at h2;rw[if_pos rfl];omega
 ·have:(v==u)=false:=by simpa using huv
  simp[huv,this]at h2⊢;omega
theorem WI.queue (h:WI (o,g,Q)) (hi:i<Q.length) {j:Nat} (hj:cQ o=((j:Int)+1,0)):WI (fK o,dp g ((j:Int)+1) ((i:Int)-1),Q.set i (Q[i]++[(j:Int)+1]))/\(j:Int)+1∉Q[i]/\j<32:=by
 rcases A9 o with⟨j',k0,k1,k2,k3⟩|⟨k1,_⟩
 ·have hjj:j'=j:=by rw[k1]at hj;simp at hj;omega
  subst hjj;have hl:=h.len;simp only at hl;have h0:ct Q ((j':Int)+1)=0:=by have:=h.has ((j':Int)+1);simp only[k3]at this;simpa using this.symm
  have hnot:(j':Int)+1∉Q[i]:=fun hm=>by have:=iK hi hm;omega
  have hct:=yZ hi ((j':Int)+1)
  have hO:once (Q.set i (Q[i]++[(j':Int)+1])):=fun u=>by
   rw[hct];have:=h.one u;simp only at this;split
   ·rename_i e;subst e;omega
   ·omega
  refine⟨⟨by simp only[k2,List.length_set];exact hl,hO,fun u=>?_,fun u=>?_,by simpa using h.pos⟩,hnot,by omega⟩
  ·simp only[k2,hct];rw[DX k0];by_cases hu:u=(j':Int)+1
   ·subst hu;simp
   ·rw[if_neg hu,if_neg (fun e=>hu e.symm)];exact h.has u
  ·simp only[dp];by_cases hu:u=(j':Int)+1
   ·subst hu;rw[if_pos rfl,uC hO (by simpa using hi) (by rw[List.getElem_set_self];simp)]
   ·rw[if_neg hu,Br h.one hO hi (by simp[hu])];exact h.map u
 ·rw[k1]at hj;simp at hj
theorem WI.drop (h:WI (o,g,Q)) (hi:i<Q.length) (hv:v∈Q[i]):WI (jy o v,eX g v,Q.set i (Q[i].erase v)):=by
 have hct:=RE (show once Q from h.one) hi hv;have hpos:=iK hi hv;obtain⟨_,g2⟩:=S6 (o:=o) (n:=v) (by rw[h.has];exact decide_eq_true hpos);have hO:once (Q.set i (Q[i].erase v)):=fun u=>by have:=hct u;have:=h.one u;simp only at this;omega
 refine⟨by simp only[S7];exact h.len,hO,fun u=>?_,fun u=>?_,by simpa using h.pos⟩
 ·simp only[g2];have h1:=hct u;by_cases hu:u=v
  ·subst hu;have:=h.one u;simp only at this;rw[if_pos rfl]at h1;have:ct (Q.set i (Q[i].erase u)) u=0:=by omega
   simp[this]
  ·rw[if_neg (fun e=>hu e.symm),Nat.add_zero]at h1;rw[h1,decide_eq_true (show u≠v from hu),Bool.and_true];exact h.has u
 ·simp only[eX];by_cases hu:u=v
  ·subst hu;have h1:=hct u;have:=h.one u;simp only at this;rw[if_pos rfl]at h1⊢;rw[Bq (by omega)]
  ·rw[if_neg hu,Br h.one hO hi (by rw[List.mem_erase_of_ne hu])];exact h.map u
theorem WI.unbind (h:WI (o,g,Q)) (hi:i<Q.length) (h0:0<i) {l:List Int} (hl:Q[i]=v::l):WI (o,dp g v (-1),(Q.set i l).set 0 (Q[0]'(by omega)++[v]))/\v∉Q[0]'(by omega)/\(1<=v/\v<=32):=by
 have hv:v∈Q[i]:=by rw[hl];simp
 have hpos:=iK hi hv;have he:Q[i].erase v=l:=by rw[hl];simp
 have hct:=RE (show once Q from h.one) hi hv;rw[he]at hct;have hz:0<(Q.set i l).length:=by simp;omega
 have hne:(Q.set i l)[0]=Q[0]'(by omega):=List.getElem_set_ne (by omega) hz;have hct2:=yZ (Q:=Q.set i l) hz v;rw[hne]at hct2;have hall:∀u,ct ((Q.set i l).set 0 (Q[0]'(by omega)++[v])) u=ct Q u:=fun u=>by have:=hct u;have:=hct2 u;omega
 have hO1:once (Q.set i l):=fun u=>by have:=hct u;have:=h.one u;simp only at this;omega
 have hO:once ((Q.set i l).set 0 (Q[0]'(by omega)++[v])):=fun u=>by rw[hall];exact h.one u
 have hnot:v∉Q[0]'(by omega):=fun hm=>by
  have:=Wy hi (show 0<Q.length by omega) (by omega) hv hm;have:=h.one v;simp only at this;omega
 refine⟨⟨h.len,hO,fun u=>by simp only[hall];exact h.has u,fun u=>?_,by simpa using h.pos⟩,hnot,h.e9 hpos⟩;simp only[dp];by_cases hu:u=v
 ·subst hu;rw[if_pos rfl,uC (i:=0) hO (by simp;omega) (by rw[List.getElem_set_self];simp)];rfl
 ·rw[if_neg hu]
  have e1:gE ((Q.set i l).set 0 (Q[0]'(by omega)++[v])) u=gE (Q.set i l) u:=by
   refine Br hO1 hO hz ?_;rw[hne];simp[hu]
  rw[e1,Br h.one hO1 hi (by rw[hl];simp[hu])];exact h.map u
end
def bY (Q:QL) (ab f:Int):Prop:=f<=ab/\ab+1<Q.length
instance (Q:QL) (ab f:Int):Decidable (bY Q ab f):=by unfold bY;infer_instance
def ix (ab:Int):Nat:=(ab+1).toNat
def bV (Q:QL) (ab:Int):List Int:=Q.getD (ix ab) []
theorem rA {Q:QL} {ab f:Int} (h:bY Q ab f) (hf : -1<=f):∃i:Nat,i<Q.length/\ab=(i:Int)-1/\ix ab=i:=⟨ix ab,by unfold bY at h;unfold ix;omega,by unfold bY at h;unfold ix;omega,rfl⟩
theorem lS {Q:QL} {i:Nat} (hi:i<Q.length):bV Q ((i:Int)-1)=Q[i]:=by
 unfold bV ix;have:((i:Int)-1+1).toNat=i:=by omega
 rw[this];simp[hi]
theorem zQ (i:Nat):ix ((i:Int)-1)=i:=by unfold ix;omega
def qb (Q:QL):Option Nat:=(List.range 32).find? (fun(k:Nat)=>decide (ct Q ((k:Int)+1)=0))
def qn (Q:QL) (ab:Int):Int×Int:=if bY Q ab (-1)then(match qb Q with|some j=>((j:Int)+1,0)|none=>(0,5))else(0,3)
def o8 (Q:QL) (ab:Int):QL:=if bY Q ab (-1)then(match qb Q with|some j=>Q.set (ix ab) (bV Q ab++[(j:Int)+1])|none=>Q)else Q
def qB (Q:QL) (v:Int):Int×Bool:=match gE Q v with|some c=>(c,true)|none=>(0,false)
def vK (Q:QL) (v:Int):Int:=match gE Q v with|some _=>0|none=>4
def ky (Q:QL) (v:Int):QL:=match gE Q v with|some c=>Q.set (ix c) ((bV Q c).erase v)|none=>Q
def xf (Q:QL) (ab:Int):Int×Int:=if bY Q ab 0 then(match bV Q ab,bV Q (-1)with|a::_,_=>(a,0)|[],a::_=>(a,0)|[],[]=>(0,12))else(0,3)
def lX (Q:QL) (ab:Int):QL:=if bY Q ab 0 then(match bV Q ab,bV Q (-1)with|a::_,_=>ky Q a|[],a::_=>ky Q a|[],[]=>Q)else Q
def ly (Q:QL) (ab:Int):Int×Int:=if bY Q ab 0 then(match bV Q ab with|a::_=>(a,0)|[]=>(0,12))else(0,3)
def jd (Q:QL) (ab:Int):QL:=if bY Q ab 0 then(match bV Q ab with|a::l=>(Q.set (ix ab) l).set 0 (bV Q (-1)++[a])|[]=>Q)else Q
def bF (Q:QL) (ab:Int):List Int:=if bY Q ab (-1)then bV Q ab else[]
theorem abd {o:List Bool} {g:(Int->Option Int)×Nat} {Q:QL} (h:WI (o,g,Q)):(∃j,qb Q=some j/\cQ o=((j:Int)+1,0))∨(qb Q=none/\cQ o=(0,5)/\fK o=o):=by
 have hl:=h.len;simp only at hl
 have hh:∀k:Nat,bL o ((k:Int)+1) = !decide (ct Q ((k:Int)+1)=0):=fun k=>by
  rw[h.has];by_cases h0:ct Q ((k:Int)+1)=0
  ·simp[h0]
  ·have:0<ct Q ((k:Int)+1):=by omega
   simp[this,h0]
 cases hf:qb Q with
 | none=>
  unfold qb at hf;rw[List.find?_eq_none]at hf;have:=ahH (o:=o) (fun k hk=>by rw[hh];have:=hf k (by simp;omega);simpa using this)
  exact .inr ⟨rfl,this⟩
 | some j=>
  refine .inl ⟨j,rfl,?_⟩;unfold qb at hf;rw[List.find?_range_eq_some]at hf;obtain⟨h1,h2,h3⟩:=hf;refine(ahJ (by simp at h2;omega) (fun k hk=>?_) ?_).1
  ·rw[hh];have:=h3 k hk;simpa using this
  ·rw[hh];simpa using h1
end Go.Dav
namespace Go.Dav
open Go.Proofs
section
variable {w:World} {F:Fp} {b:Nat} {x:WS} {Q:QL} {o:List Bool} {g:(Int->Option Int)×Nat}
theorem lF.slot (h:lF b w F x):∃b2 b3 F1,b8 b2 w F1 x.1/\(∃p c,aE w b (qD b2 b3 p x.2.2.length c) 207)/\∀w' o',aa (b8 b2) w w' F1 o'->aa (lF b) w w' F (o',x.2):=by
 obtain⟨b2,b3,h⟩:=h;obtain⟨F2,h2,_⟩:=h.right;obtain⟨F1,h1,k⟩:=h.left;obtain⟨F3,h3,k3⟩:=h1.left;obtain⟨p,c,hB⟩:=h2.ai;rw[List.length_map]at hB;refine⟨b2,b3,F3,h3,⟨p,c,hB⟩,fun w' o' hT=>?_⟩;obtain⟨F',q1,q2⟩:=k _ _ (k3 _ _ hT);exact⟨F',⟨b2,b3,q1⟩,q2⟩
theorem lF.mp (h:lF b w F x):∃b2 b3 F1,aS b3 (Value.int .i64) w F1 x.2.1/\(∃p c,aE w b (qD b2 b3 p x.2.2.length c) 207)/\∀w' g',aa (aS b3 (Value.int .i64)) w w' F1 g'->aa (lF b) w w' F (x.1,g',x.2.2):=by
 obtain⟨b2,b3,h⟩:=h;obtain⟨F2,h2,_⟩:=h.right;obtain⟨F1,h1,k⟩:=h.left;obtain⟨F3,h3,k3⟩:=h1.right;obtain⟨p,c,hB⟩:=h2.ai;rw[List.length_map]at hB;refine⟨b2,b3,F3,h3,⟨p,c,hB⟩,fun w' o' hT=>?_⟩;obtain⟨F',q1,q2⟩:=k _ _ (k3 _ _ hT);exact⟨F',⟨b2,b3,q1⟩,q2⟩
theorem lF.q (h:lF b w F x) {i:Nat} (hi:i<x.2.2.length):∃b2 b3 a c bi F1,aE w b (qD b2 b3 (some a) x.2.2.length c) 207/\w.cell? (a.add (i*1))=some (pt bi)/\cX bi w F1 (gy x.2.2[i])/\
  ∀w' l',aa (cX bi) w w' F1 (gy l')->aa (lF b) w w' F (x.1,x.2.1,x.2.2.set i l'):=by
 obtain⟨b2,b3,h⟩:=h;obtain⟨F2,h2,k⟩:=h.right;obtain⟨a,c,bi,F1,hB,hc,hq,ht⟩:=h2.at (i:=i) (by simpa using hi);simp only[List.length_map]at hB;simp only[List.getElem_map]at hq;refine⟨b2,b3,a,c,bi,F1,hB,hc,hq,fun w' l' hT=>?_⟩;obtain⟨F',q1,q2⟩:=k _ _ (ht _ _ hT);refine⟨F',⟨b2,b3,?_⟩,q2⟩;simp only[List.map_set];exact q1
theorem Bv (h:dt b w F Q) (ab:Int) (f:Int):Cx 148 #[pt b,I ab,I f] w fun e w'=>e=Z (I (if bY Q ab f then 0 else 3))/\w'=w:=by
 obtain⟨o,g,h,hI⟩:=h;have hp:=hI.pos;simp only at hp;refine ai6 ?_;rw[t148];obtain⟨b2,b3,F1,_,⟨p,c,hB⟩,_⟩:=h.slot;have e1:IntKind.wrap .i64 ((Q.length:Int)-1)=(Q.length:Int)-1:=aD (by omega);refine⟨fun g=>by simp at g,fun _=>⟨fun g=>⟨_,rfl,_,_,_,hB.cell rfl,fun g2=>⟨?_,rfl⟩,fun g2=>⟨?_,rfl⟩⟩,fun g=>⟨?_,rfl⟩⟩⟩
 ·simp only[e1]at g2;rw[if_neg];unfold bY;simp at g g2;omega
 ·simp only[e1]at g2;rw[if_pos];unfold bY;simp at g g2;omega
 ·rw[if_neg];unfold bY;simp at g;omega
theorem uD {b2 b3 c bi i n:Nat} {a:Addr} (hB:aE w b (qD b2 b3 (some a) n c) 207) (hc:w.cell? (a.add (i*1))=some (pt bi)) (hi:i<n) (hn:n<=1000) :
  Cx 150 #[pt b,I ((i:Int)-1)] w fun e w'=>e=Z (pt bi)/\w'=w:=by
 refine ai8 ?_;rw[t150];have e1:IntKind.wrap .i64 ((i:Int)-1-(-1))=(i:Int):=by rw[aD (by omega)];omega
 rw[e1];exact⟨_,rfl,_,_,_,hB.cell rfl,⟨by omega,by omega⟩,a,rfl,_,hc,rfl,rfl⟩
theorem XY (h:dt b w F Q) (v:Int):Cx 334 #[pt b,I v] w fun e w'=>e=Z (.tuple #[I (qB Q v).1,.bool (qB Q v).2])/\w'=w:=by
 obtain⟨o,g,h,hI⟩:=h;refine alA ?_;rw[t334];obtain⟨b2,b3,F1,hm,⟨p,c,hB⟩,_⟩:=h.mp;refine⟨fun g=>by simp at g,fun _=>⟨_,rfl,_,hB.cell rfl,?_⟩⟩;have hr:=iz Ao hm v true;have hv:=hI.map v;simp only at hv hr;rw[hv]at hr;unfold qB
 cases hw:gE Q v with
 | none=>rw[hw]at hr;exact⟨_,_,hr,rfl,rfl⟩
 | some c=>rw[hw]at hr;exact⟨_,_,hr,rfl,rfl⟩
theorem amQ (h:dt b w F Q) (v:Int):Cx 263 #[pt b,I v] w fun e w'=>e=Z (.bool (qB Q v).2)/\w'=w:=by
 refine akH ?_;rw[t263];refine⟨(XY h v).mono ?_⟩;rintro e w1 ⟨rfl,rfl⟩;exact⟨_,_,rfl,rfl,rfl⟩
theorem amS (h:dt b w F Q) (ab:Int):Cx 93 #[pt b,I ab] w fun e w'=>∃p c,e=Z (.slice p (bF Q ab).length c)/\Cells w' p ((bF Q ab).map (Value.int .i64))/\af no w w':=by
 refine u93 ?_;rw[t93];refine⟨(Bv h ab (-1)).mono ?_⟩;rintro e w1 ⟨rfl,rfl⟩;refine⟨_,rfl,fun g=>?_,fun g=>?_⟩
 ·have hn:¬bY Q ab (-1):=fun h=>by rw[if_pos h]at g;simp at g
  rw[bF,if_neg hn];exact⟨none,0,rfl,Cells.nil _ _,af.refl _ _⟩
 ·have hc:bY Q ab (-1):=Classical.byContradiction fun h=>by rw[if_neg h]at g;simp at g
  rw[bF,if_pos hc];obtain⟨i,hi,rfl,hix⟩:=rA hc (by omega);rw[lS hi];obtain⟨o,g,h,hI⟩:=h;obtain⟨b2,b3,a,c,bi,F4,hB,hc4,hq,htq⟩:=h.q (i:=i) hi;have hp:=hI.pos;simp only at hp hB;refine⟨(uD hB hc4 hi (by omega)).mono ?_⟩;rintro e w2 ⟨rfl,rfl⟩;refine⟨_,rfl,⟨(ET hq).mono ?_⟩⟩;rintro e w3 ⟨p,c,rfl,hC,hU3⟩;exact⟨_,_,_,rfl,_,_,rfl,hC,hU3⟩
theorem Bu (h:dt b w F Q) (ab:Int):Cx 170 #[pt b,I ab] w fun e w'=>e=Z (I ((bF Q ab).length:Int))/\af no w w':=by
 refine ajq ?_;rw[t170];refine⟨(amS h ab).mono ?_⟩;rintro e w1 ⟨p,c,rfl,_,hU⟩;exact⟨_,_,_,rfl,rfl,hU⟩
theorem amL (h:dt b w F Q) (v:Int):Cx 308 #[pt b,I v] w fun e w'=>e=Z (I (vK Q v))/\aa (dt b) w w' F (ky Q v):=by
 refine ak8 ?_;rw[t308];refine⟨(XY h v).mono ?_⟩;rintro e w1 ⟨rfl,rfl⟩;refine⟨_,_,rfl,fun g=>by simp at g,fun _=>⟨fun g1=>?_,fun g1=>?_⟩⟩
 ·have hn:gE Q v=none:=by unfold qB at g1;cases hw:gE Q v with|none=>rfl|some c=>rw[hw]at g1;simp at g1
  rw[vK,ky,hn];exact⟨rfl,aa.same h⟩
 ·obtain⟨o,g,h,hI⟩:=h;rcases Gn (show once Q from hI.one) v with⟨k1,_⟩|⟨i,hi,hv,k1,_⟩
  ·unfold qB at g1;rw[k1]at g1;simp at g1
  ·rw[vK,ky,qB,k1];simp only;rw[zQ,lS hi];have hID:=hI.drop hi hv;have hp:=hI.pos;simp only at hp;obtain⟨b2,b3,F1,hm,⟨p,c,hB⟩,hmt⟩:=h.mp;obtain⟨w2,hr,hT⟩:=ph Ao hm v 3 0;obtain⟨F2,q1,q2,q3⟩:=hmt _ _ hT;obtain⟨b2',b3',F3,hs,⟨p',c',hB'⟩,hst⟩:=q1.slot;refine⟨_,rfl,_,hB.cell rfl,w2,hr,_,rfl,_,hB'.cell rfl,⟨(AZ hs v).mono ?_⟩⟩;rintro e w3 ⟨rfl,hT3⟩;obtain⟨F4,r1,r2,r3⟩:=hst _ _ hT3;obtain⟨b2,b3,a,c,bi,F5,hB,hc4,hq,htq⟩:=r1.q (i:=i) hi;simp only at hB;refine⟨_,rfl,⟨(uD hB hc4 hi (by omega)).mono ?_⟩⟩;rintro e w4 ⟨rfl,rfl⟩;refine⟨_,rfl,⟨(Wm hq v).mono ?_⟩⟩;rintro e w5 ⟨rfl,hT5⟩;have e1:oL (gy Q[i]) v=0:=by unfold oL gy;rw[if_pos hv]
   refine⟨_,rfl,by rw[e1],?_⟩;have h7:=htq _ _ hT5;exact aa.pG (aa.next q1 q2 q3 (aa.next r1 r2 r3 h7)) hID
theorem XS (h:dt b w F Q) (hTab:Tab w) (ab:Int):Cx 68 #[pt b,I ab] w fun e w'=>e=Z (.tuple #[I (qn Q ab).1,I (qn Q ab).2])/\aa (dt b) w w' F (o8 Q ab):=by
 refine u68 ?_;rw[t68];refine⟨(Bv h ab (-1)).mono ?_⟩;rintro e w1 ⟨rfl,rfl⟩;refine⟨_,rfl,fun g=>?_,fun g=>?_⟩
 ·have hn:¬bY Q ab (-1):=fun h=>by rw[if_pos h]at g;simp at g
  rw[qn,o8,if_neg hn,if_neg hn,if_neg hn];exact⟨rfl,aa.same h⟩
 ·have hc:bY Q ab (-1):=Classical.byContradiction fun h=>by rw[if_neg h]at g;simp at g
  rw[qn,o8,if_pos hc,if_pos hc];obtain⟨i,hi,rfl,hix⟩:=rA hc (by omega);rw[lS hi,zQ];obtain⟨o,g,h,hI⟩:=h;have hp:=hI.pos;simp only at hp;obtain⟨b2,b3,F1,hs,⟨p,c,hB⟩,hst⟩:=h.slot;refine⟨_,rfl,_,hB.cell rfl,⟨(A3 hTab hs).mono ?_⟩⟩;rintro e w2 ⟨rfl,hT⟩;obtain⟨F2,q1,q2,q3⟩:=hst _ _ hT;rcases abd hI with⟨j,f1,f2⟩|⟨f1,f2,f3⟩
  ·obtain⟨hIQ,hnot,hj⟩:=hI.queue hi f2;obtain⟨p1,p2⟩:=hI.push hi (v:=(j:Int)+1) (by omega) hnot;simp only[f1,f2];obtain⟨b2',b3',F3,hm,⟨p',c',hB'⟩,hmt⟩:=q1.mp;obtain⟨w3,hr,hT3⟩:=mQ Ao hm ((j:Int)+1) ((i:Int)-1);obtain⟨F4,r1,r2,r3⟩:=hmt _ _ hT3;obtain⟨b2,b3,a,c,bi,F5,hB,hc4,hq,htq⟩:=r1.q (i:=i) hi;simp only at hB;refine⟨_,_,rfl,fun g=>by simp at g,fun _=>⟨_,rfl,_,hB'.cell rfl,w3,hr,⟨(uD hB hc4 hi (by omega)).mono ?_⟩⟩⟩;rintro e w4 ⟨rfl,rfl⟩;refine⟨_,rfl,⟨(tR hq _).mono ?_⟩⟩;rintro e w5 ⟨rfl,hT5⟩;simp only[p1,p2]at hT5⊢;have h7:=htq _ _ hT5;exact⟨_,rfl,rfl,aa.pG (aa.next q1 q2 q3 (aa.next r1 r2 r3 h7)) hIQ⟩
  ·simp only[f1,f2];rw[f3]at q1;exact⟨_,_,rfl,fun _=>⟨rfl,aa.pG ⟨F2,q1,q2,q3⟩ hI⟩,fun g=>by simp at g⟩
theorem am3 (h:dt b w F Q) (ab:Int):Cx 358 #[pt b,I ab] w fun e w'=>e=Z (.tuple #[I (ly Q ab).1,I (ly Q ab).2])/\aa (dt b) w w' F (jd Q ab):=by
 refine alO ?_;rw[t358];refine⟨(Bv h ab 0).mono ?_⟩;rintro e w1 ⟨rfl,rfl⟩;refine⟨_,rfl,fun g=>?_,fun g=>?_⟩
 ·have hn:¬bY Q ab 0:=fun h=>by rw[if_pos h]at g;simp at g
  rw[ly,jd,if_neg hn,if_neg hn,if_neg hn];exact⟨rfl,aa.same h⟩
 ·have hc:bY Q ab 0:=Classical.byContradiction fun h=>by rw[if_neg h]at g;simp at g
  rw[ly,jd,if_pos hc,if_pos hc];obtain⟨i,hi,rfl,hix⟩:=rA hc (by omega);have h0:0<i:=by unfold bY at hc;omega
  rw[lS hi,zQ];obtain⟨o,g,h,hI⟩:=h;have hp:=hI.pos;simp only at hp;obtain⟨b2,b3,a,c,bi,F1,hB,hc4,hq,htq⟩:=h.q (i:=i) hi;simp only at hB hq htq;refine⟨(uD hB hc4 hi (by omega)).mono ?_⟩;rintro e w2 ⟨rfl,rfl⟩;refine⟨_,rfl,⟨(AL hq).mono ?_⟩⟩;rintro e w3 ⟨rfl,hT⟩;obtain⟨F2,q1,q2,q3⟩:=htq _ _ hT
  cases hl:Q[i]with
  | nil=>
   have e2:Q.set i []=Q:=by rw[<-hl,List.set_getElem_self]
   simp only[gy,hl,List.tail_nil,e2]at q1
   exact⟨_,_,rfl,fun _=>⟨rfl,aa.pG ⟨F2,q1,q2,q3⟩ hI⟩,fun g=>by simp[bK,gy]at g⟩
  | cons v l=>
   obtain⟨hIU,hnot,hr⟩:=hI.unbind hi h0 hl;simp only[gy,hl,List.tail_cons]at q1;have hz:0<Q.length:=by omega
   have e0:bV Q (-1)=Q[0]:=lS (i:=0) hz;obtain⟨p1,p2⟩:=hI.push hz hr hnot;simp only[e0];obtain⟨b2',b3',F3,hm,⟨p',c',hB'⟩,hmt⟩:=q1.mp;obtain⟨w4,hrn,hT3⟩:=mQ Ao hm v (-1);obtain⟨F4,r1,r2,r3⟩:=hmt _ _ hT3;have hz2:0<(Q.set i l).length:=by simpa using hz
   obtain⟨b2,b3,a,c,bi,F5,hB,hc4,hq,htq⟩:=r1.q (i:=0) hz2;simp only[List.length_set]at hB;have hrow:(Q.set i l)[0]=Q[0]:=List.getElem_set_ne (by omega) hz2;simp only[hrow]at hq;refine⟨_,_,rfl,fun g=>by simp[bK,gy]at g,fun _=>⟨_,rfl,_,hB'.cell rfl,w4,hrn,⟨(uD hB hc4 hz (by omega)).mono ?_⟩⟩⟩;rintro e w5 ⟨rfl,rfl⟩;refine⟨_,rfl,⟨(tR hq _).mono ?_⟩⟩;rintro e w6 ⟨rfl,hT5⟩;have hfr:(bK (32,v::l)).1=v:=rfl;simp only[gy]at p1 p2 hT5⊢;simp only[hfr,p1,p2]at hT5⊢;have h7:=htq _ _ hT5;exact⟨_,rfl,rfl,aa.pG (aa.next q1 q2 q3 (aa.next r1 r2 r3 h7)) hIU⟩
theorem aal {i:Nat} (hO:once Q) (hi:i<Q.length) {v:Int} (hv:v∈Q[i]):vK Q v=0:=by rw[vK,uC hO hi hv]
theorem am1 (h:dt b w F Q) (ab:Int):Cx 223 #[pt b,I ab] w fun e w'=>e=Z (.tuple #[I (xf Q ab).1,I (xf Q ab).2])/\aa (dt b) w w' F (lX Q ab):=by
 refine aj3 ?_;rw[t223];refine⟨(Bv h ab 0).mono ?_⟩;rintro e w1 ⟨rfl,rfl⟩;refine⟨_,rfl,fun g=>?_,fun g=>⟨fun w2 hN=>?_⟩⟩
 ·have hn:¬bY Q ab 0:=fun h=>by rw[if_pos h]at g;simp at g
  rw[xf,lX,if_neg hn,if_neg hn,if_neg hn];exact⟨rfl,aa.same h⟩
 ·have hc:bY Q ab 0:=Classical.byContradiction fun h=>by rw[if_neg h]at g;simp at g
  rw[xf,lX,if_pos hc,if_pos hc];have hU:=hN.ae no;have hC:Cells w2 (some ⟨w1.heap.size,0,none⟩) (([ab,-1]:List Int).map (Value.int .i64)):=(Sl.new (n:=2) (sz:=1) hN (by simp) (by decide)).cells;have h2:dt b w2 F Q:=(Frame.pG b).ae h hU (fun _ _ h=>h);refine⟨bA bf (M:=uQ) (σ:=Nat) (fun j=>C3 (some ⟨b,0,none⟩) (some ⟨w1.heap.size,0,none⟩) 2 2 2 (j:Int)) (fun j w'=>j<=2/\af no w2 w'/\(1<=j->bV Q ab=[])/\(2<=j->bV Q (-1)=[])) (fun j _=>2-j) 0 ⟨rfl,rfl,rfl,rfl,trivial⟩ ⟨by omega,af.refl _ _,fun h=>by omega,fun h=>by omega⟩ ?_⟩;rintro j w3 ⟨j1,hU3,k1,k2⟩;rw[agK];have h3:dt b w3 F Q:=(Frame.pG b).ae h2 hU3 (fun _ _ h=>h);have hUw:af no w1 w3:=hU.and hU3;refine⟨fun g=>?_,fun g=>?_⟩
  ·have hj:j<2:=by simp at g;omega
   obtain⟨a0,ha0,hc0⟩:=(hC.no hU3).bC (i:=j) (l:=([ab,-1]:List Int)) (by simp;omega);obtain⟨i,hi,hcpu,hix⟩:=rA hc (by omega);subst hcpu;have hz:0<Q.length:=by omega
   have ei:=lS hi;have e0:bV Q (-1)=Q[0]:=lS (i:=0) hz;rw[ei,e0];rw[ei]at k1;rw[e0]at k2
   obtain⟨k,hk,hvk,hcase⟩:∃k:Nat,∃hk:k<Q.length,([(i:Int)-1,-1]:List Int)[j]'(by simp;omega)=(k:Int)-1/\((j=0/\k=i)∨(j=1/\k=0)):=by
    have:j=0∨j=1:=by omega
    rcases this with rfl|rfl
    ·exact⟨i,hi,rfl,.inl ⟨rfl,rfl⟩⟩
    ·exact⟨0,hz,rfl,.inr ⟨rfl,rfl⟩⟩
   rw[hvk]at hc0;obtain⟨o,gm,hk3,hI⟩:=id h3;have hp:=hI.pos;simp only at hp;obtain⟨b2,b3,a,c,bi,F5,hB,hc4,hq,htq⟩:=hk3.q (i:=k) hk;simp only at hB hq;refine⟨⟨by omega,by omega⟩,a0,ha0,_,hc0,⟨(uD hB hc4 hk (by omega)).mono ?_⟩⟩;rintro e w4 ⟨rfl,rfl⟩;refine⟨_,rfl,⟨(ES hq).mono ?_⟩⟩;rintro e w5 ⟨rfl,hU5⟩;have h5:dt b w5 F Q:=(Frame.pG b).ae h3 hU5 (fun _ _ h=>h)
   cases hl:Q[k]with
   | nil=>
    refine⟨_,_,rfl,fun g=>by simp[bK,gy]at g,fun _=>⟨j+1,⟨rfl,rfl,rfl,by rw[aD (by omega)];rfl,trivial⟩,⟨by omega,hU3.and hU5,fun _=>?_,fun _=>?_⟩,by omega⟩⟩
    ·rcases hcase with⟨rfl,rfl⟩|⟨rfl,rfl⟩
     ·exact hl
     ·exact k1 (by omega)
    ·rcases hcase with⟨rfl,rfl⟩|⟨rfl,rfl⟩
     ·omega
     ·exact hl
   | cons u l=>
    refine⟨_,_,rfl,fun _=>⟨(amL h5 _).mono ?_⟩,fun g=>by simp[bK,gy]at g⟩;have hfr:(bK (gy (u::l))).1=u:=rfl;rw[hfr,aal (show once Q from hI.one) hk (by rw[hl];simp)];rintro e w6 ⟨rfl,hT⟩;have hTw:=aa.next h5 (hUw.and hU5).nn (fun _ h=>.inl h) hT;rcases hcase with⟨rfl,rfl⟩|⟨rfl,rfl⟩
    ·rw[hl];exact⟨_,rfl,rfl,hTw⟩
    ·rw[k1 (by omega),hl];exact⟨_,rfl,rfl,hTw⟩
  ·have:j=2:=by simp at g;omega
   subst this;rw[k1 (by omega),k2 (by omega)];exact⟨rfl,F,h3,hUw.nn,fun _ h=>.inl h⟩
def tL (n:Int):Prop:=1<=n/\n<=64
def ez (n:Int):QL:=List.replicate (n.toNat+1) []
theorem WI.new {n:Int} (h:tL n):WI (List.replicate 32 false,(fun _=>none,0),ez n):=by
 have hk:∀k,(List.replicate 32 false).getD k false=false:=fun k=>by
  rw[List.getD_eq_getElem?_getD,List.getElem?_replicate];split<;>rfl
 unfold tL at h;refine⟨by simp,fun v=>by simp only[ez,re];omega,fun v=>?_,fun v=>?_,by simp[ez];omega⟩
 ·simp only[ez,re];unfold bL;rw[hk];simp
 ·simp only[ez];rw[Bq (re _ _)]
theorem amU (n:Int) (w:World):Cx 44 #[I n] w fun e w'=>
  (¬tL n/\e=Z (.tuple #[.pointer none,I 2])/\w'=w)∨
  (tL n/\∃b F,e=Z (.tuple #[pt b,I 0])/\dt b w' F (ez n)/\af no w w'/\∀i,F i->w.heap.size<=i):=by
 refine u44 ?_;rw[t44];refine⟨fun g1=>⟨fun g2=>.inl ⟨?_,rfl,rfl⟩,fun g2=>?_⟩,fun g1=>.inl ⟨?_,rfl,rfl⟩⟩
 ·unfold tL;simp at g2;omega
 ·have g1:¬n<1:=by simpa using g1
  have g2:¬64<n:=by simpa using g2
  obtain⟨k,rfl⟩:∃k:Nat,n=k:=⟨n.toNat,by omega⟩;have ek:IntKind.wrap .i64 ((k:Int)+1)=((k+1:Nat):Int):=by rw[aD (by omega)];omega
  refine⟨(A0 32 w).mono ?_⟩;rintro e w1 hh;obtain⟨_,b2,F1,rfl,hQ,hU,hF⟩:=hh.resolve_left (fun h=>absurd (by omega) h.1);have hM:bh w w1 (b8 b2) (List.replicate 32 false):=bh.new (af.refl _ _) hU hQ hF;clear hU hQ hF;refine⟨_,_,rfl,fun g=>by simp at g,fun _=>⟨fun w2 hN2=>⟨fun w3 hN=>?_⟩⟩⟩;replace hM:bh w w2 (au (b8 b2) (aS w1.heap.size (Value.int .i64))) (List.replicate 32 false,(fun _=>none,0)):=hM.add (hN2.ae no) (aS.new hN2) (fun i hi=>Nat.le_of_eq hi.symm);generalize w1.heap.size=b3 at hM hN⊢;replace hM:bh w w3 (au (au (b8 b2) (aS b3 (Value.int .i64))) (Tq cX w2.heap.size 207 208 (qD b2 b3))) ((List.replicate 32 false,(fun _=>none,0)),[]):=hM.add (hN.ae no) (Tq.nil hN rfl) (fun i hi=>Nat.le_of_eq hi.symm);generalize w2.heap.size=b at hM⊢;rw[ek];refine⟨bA bf (M:=u6) (σ:=Nat) (fun j=>Dp (some ⟨b,0,none⟩) ((k+1:Nat):Int) (j:Int)) (fun j w'=>j<=k+1/\bh w w' (au (au (b8 b2) (aS b3 (Value.int .i64))) (Tq cX b 207 208 (qD b2 b3))) ((List.replicate 32 false,(fun _=>none,0)),List.replicate j (gy []))) (fun j _=>k+1-j) 0 ⟨rfl,rfl,rfl,trivial⟩ ⟨by omega,hM⟩ ?_⟩;clear hM hN hN2;rintro j w3 ⟨j1,hM⟩;rw[ahh];refine⟨fun g=>?_,fun g=>?_⟩
  ·have hj:j<k+1:=by simp at g;omega
   refine⟨(Aq 32 w3).mono ?_⟩;rintro e w4 hh;obtain⟨_,bq,G,rfl,hQ,hU,hG⟩:=hh.resolve_left (fun h=>absurd (by omega) h.1);obtain⟨F2,hA,hT⟩:=hM.right;obtain⟨p,c,hB,hgo⟩:=Tq.push aax (k:=1) (fun _ _ _ _ _ _=>rfl) (fun _ _ _=>by simp[qD]) hA (by simp;omega) hU hQ hG;refine⟨_,_,rfl,fun g=>by simp at g,fun _=>⟨_,rfl,_,_,_,hB.cell rfl,⟨fun w5 hN=>?_⟩⟩⟩;obtain⟨p',c',w6,hr,hK⟩:=hgo w5 hN 205;refine⟨_,_,_,w6,hr,_,rfl,hK _ fun w7 h7=>?_⟩;have h8:=hT _ _ h7;refine⟨j+1,⟨rfl,rfl,by rw[aD (by omega)];rfl,trivial⟩,⟨by omega,?_⟩,by omega⟩;rw[List.replicate_succ' (n:=j)];exact h8
  ·have:j=k+1:=by simp at g;omega
   subst this;obtain⟨F,hF1,hF2,hF3⟩:=hM;refine .inr ⟨⟨by omega,by omega⟩,b,F,rfl,⟨_,_,⟨b2,b3,?_⟩,WI.new ⟨by omega,by omega⟩⟩,hF2,hF3⟩;simp only[ez,List.map_replicate,Int.toNat_natCast];exact hF1
 ·unfold tL;simp at g1;omega
end
end Go.Dav
namespace Go.Dav
open Go.Proofs
theorem aaw:dH Tryz.prog 205 208 1 8 [.pointer none]:=⟨by kernel_rfl,by kernel_rfl,rfl,by omega⟩
abbrev CS:=List Bool×List (List Int)
def bU (l:List Int):Nat×List Int:=(32,l)
def Cv (b2:Nat) (p:Option Addr) (n c:Nat):List Value:=[pt b2,.slice p n c]
abbrev BE (b b2:Nat):Ob (List (Nat×List Int)):=Tq cX b 213 208 (Cv b2)
def dg (b:Nat):Ob CS:=fun w F x=>∃b2,au (b8 b2) (BE b b2) w F (x.1,x.2.map bU)
instance Frame.ca (b:Nat):Frame (dg b) where
 ae:=fun⟨b2,h⟩ k hG=>⟨b2,Frame.star.ae h k hG⟩
 lt:=fun⟨b2,h⟩=>Frame.star.lt h
def aT (x:CS) (ab:Int):Prop:=0<=ab/\ab<x.2.length
instance (x:CS) (ab:Int):Decidable (aT x ab):=by unfold aT;infer_instance
theorem nD {x:CS} {ab:Int} (h:aT x ab):∃i:Nat,i<x.2.length/\ab=(i:Int):=⟨ab.toNat,by unfold aT at h;omega,by unfold aT at h;omega⟩
def aM (x:CS) (ab:Int):List Int:=x.2.getD ab.toNat []
theorem nR {x:CS} {i:Nat} (hi:i<x.2.length):aM x (i:Int)=x.2[i]:=by simp[aM,hi]
def qv (x:CS) (ab:Int):Int×Int:=if aT x ab then(if(cQ x.1).2=0 then((cQ x.1).1,fy (bU (aM x ab)) (cQ x.1).1)else(0,(cQ x.1).2))else(0,3)
def iB (x:CS) (ab:Int):CS:=if aT x ab then(if(cQ x.1).2=0 then(fK x.1,x.2.set ab.toNat (iy (bU (aM x ab)) (cQ x.1).1).2)else(fK x.1,x.2))else x
def rQ (x:CS) (ab:Int):Int×Int:=if aT x ab then(if(bK (bU (aM x ab))).2=0 then((bK (bU (aM x ab))).1,oR x.1 (bK (bU (aM x ab))).1)else(0,(bK (bU (aM x ab))).2))else(0,3)
def gZ (x:CS) (ab:Int):CS:=if aT x ab then(if(bK (bU (aM x ab))).2=0 then(jy x.1 (bK (bU (aM x ab))).1,x.2.set ab.toNat (aM x ab).tail)else(x.1,x.2.set ab.toNat (aM x ab).tail))else x
def fv (x:CS) (ab:Int):CS:=(x.1,x.2.set ab.toNat (aM x ab).tail)
def j5 (x:CS) (f t:Int):Int×Int:=if aT x f/\aT x t then(if f=t then(0,2)else if(bK (bU (aM x f))).2=0 then((bK (bU (aM x f))).1,fy (bU (aM (fv x f) t)) (bK (bU (aM x f))).1)else(0,(bK (bU (aM x f))).2))else(0,3)
def eY (x:CS) (f t:Int):CS:=if aT x f/\aT x t then(if f=t then x else if(bK (bU (aM x f))).2=0 then(x.1,(fv x f).2.set t.toNat (iy (bU (aM (fv x f) t)) (bK (bU (aM x f))).1).2)else fv x f)else x
def cJ (x:CS) (ab:Int):List Int:=if aT x ab then aM x ab else[]
theorem Wi (l:List Int) (n:Int):iy (bU l) n=bU (iy (bU l) n).2:=by unfold iy;split<;>rfl
section
variable {w:World} {F:Fp} {b:Nat} {x:CS}
theorem dg.slot (h:dg b w F x):∃b2 F1,b8 b2 w F1 x.1/\(∃p c,aE w b (Cv b2 p x.2.length c) 213)/\∀w' o',aa (b8 b2) w w' F1 o'->aa (dg b) w w' F (o',x.2):=by
 obtain⟨b2,h⟩:=h;obtain⟨F2,h2,_⟩:=h.right;obtain⟨F1,h1,k⟩:=h.left;obtain⟨p,c,hB⟩:=h2.ai;rw[List.length_map]at hB;refine⟨b2,F1,h1,⟨p,c,hB⟩,fun w' o' hT=>?_⟩;obtain⟨F',q1,q2⟩:=k _ _ hT;exact⟨F',⟨b2,q1⟩,q2⟩
theorem dg.q (h:dg b w F x) {i:Nat} (hi:i<x.2.length):∃b2 a c bi F1,aE w b (Cv b2 (some a) x.2.length c) 213/\w.cell? (a.add (i*1))=some (pt bi)/\cX bi w F1 (bU x.2[i])/\
  ∀w' l',aa (cX bi) w w' F1 (bU l')->aa (dg b) w w' F (x.1,x.2.set i l'):=by
 obtain⟨b2,h⟩:=h;obtain⟨F2,h2,k⟩:=h.right;obtain⟨a,c,bi,F1,hB,hc,hq,ht⟩:=h2.at (i:=i) (by simpa using hi);simp only[List.length_map]at hB;simp only[List.getElem_map]at hq;refine⟨b2,a,c,bi,F1,hB,hc,hq,fun w' l' hT=>?_⟩;obtain⟨F',q1,q2⟩:=k _ _ (ht _ _ hT);refine⟨F',⟨b2,?_⟩,q2⟩;simp only[List.map_set];exact q1
theorem yU (h:dg b w F x) {p:Option Addr} {l:List Int} {c:Nat} (hC:Cells w p (l.map (Value.int .i64))) (hl:l.length<=100) :
  Cx 188 #[pt b,.slice p l.length c] w fun e w'=>e=Z (I (if ∀v∈l,aT x v then 0 else 3))/\w'=w:=by
 refine ajC ?_;rw[t188];obtain⟨b2,F1,_,⟨p1,c1,hB⟩,_⟩:=h.slot;refine⟨fun g=>by simp at g,fun _=>?_⟩;refine⟨bA bf (M:=uO) (σ:=Nat) (fun j=>CZ (some ⟨b,0,none⟩) p l.length c (l.length:Int) (j:Int)) (fun j w'=>j<=l.length/\(∀v∈l.take j,aT x v)/\w'=w) (fun j _=>l.length-j) 0 ⟨rfl,rfl,rfl,rfl,trivial⟩ ⟨by omega,by simp,rfl⟩ ?_⟩;rintro j w1 ⟨j1,j2,rfl⟩;rw[agB];refine⟨fun g=>?_,fun g=>?_⟩
 ·have hj:j<l.length:=by simp at g;omega
  obtain⟨a,ha,hc⟩:=hC.bC hj;have hno:¬aT x l[j]->¬∀v∈l,aT x v:=fun h1 h2=>h1 (h2 _ (List.getElem_mem hj));refine⟨⟨by omega,by omega⟩,a,ha,_,hc,fun g1=>⟨_,rfl,_,_,_,hB.cell rfl,fun g2=>⟨?_,rfl⟩,fun g2=>?_⟩,fun g1=>⟨?_,rfl⟩⟩
  ·rw[if_neg (hno (by unfold aT;simp at g1 g2;omega))]
  ·refine⟨j+1,⟨rfl,rfl,rfl,by rw[aD (by omega)];rfl,trivial⟩,⟨by omega,?_,rfl⟩,by omega⟩;rw[List.take_succ_eq_append_getElem hj];intro v hv;rw[List.mem_append]at hv;rcases hv with hv|hv
   ·exact j2 v hv
   ·simp at hv;subst hv;unfold aT;simp at g1 g2;omega
  ·rw[if_neg (hno (by unfold aT;simp at g1;omega))]
 ·have:j=l.length:=by simp at g;omega
  subst this;rw[List.take_length]at j2;exact⟨by rw[if_pos j2],rfl⟩
theorem Cy {w w1:World} {v:Int} {T:TypeId} (hN:cH w w1 (.cells (List.toArray [Value.int .i64 v]) T (0,0))):Cells w1 (some ⟨w.heap.size,0,none⟩) (([v]:List Int).map (Value.int .i64)):=(Sl.new (T:=T) (n:=1) (sz:=1) hN (by simp) (by decide)).cells
theorem Zy {w w1:World} {u v:Int} {T:TypeId} (hN:cH w w1 (.cells (List.toArray [Value.int .i64 u,Value.int .i64 v]) T (0,0))):Cells w1 (some ⟨w.heap.size,0,none⟩) (([u,v]:List Int).map (Value.int .i64)):=(Sl.new (T:=T) (n:=2) (sz:=1) hN (by simp) (by decide)).cells
theorem EC {x:CS} {ab:Int}:(if ∀v∈([ab]:List Int),aT x v then(0:Int)else 3)=if aT x ab then 0 else 3:=by simp
theorem aif {x:CS} {f t:Int}:(if ∀v∈([f,t]:List Int),aT x v then(0:Int)else 3)=if aT x f/\aT x t then 0 else 3:=by simp
theorem ZX (h:dg b w F x) (hTab:Tab w) (ab:Int):Cx 154 #[pt b,I ab] w fun e w'=>e=Z (.tuple #[I (qv x ab).1,I (qv x ab).2])/\aa (dg b) w w' F (iB x ab):=by
 refine ajc ?_;rw[t154];refine⟨fun w1 hN=>?_⟩;have hU:=hN.ae no;have h1:dg b w1 F x:=(Frame.ca b).ae h hU (fun _ _ h=>h);refine⟨(yU h1 (Cy hN) (by simp)).mono ?_⟩;rw[EC];rintro e w2 ⟨rfl,rfl⟩;refine⟨_,rfl,fun g=>?_,fun g=>?_⟩
 ·have hn:¬aT x ab:=fun h=>by rw[if_pos h]at g;simp at g
  rw[qv,iB,if_neg hn,if_neg hn,if_neg hn];exact⟨rfl,F,h1,hU.nn,fun _ h=>.inl h⟩
 ·have hc:aT x ab:=Classical.byContradiction fun h=>by rw[if_neg h]at g;simp at g
  rw[qv,iB,if_pos hc,if_pos hc];obtain⟨i,hi,rfl⟩:=nD hc;rw[nR hi];obtain⟨b2,F1,hs,⟨p,c,hB⟩,ht⟩:=h1.slot;refine⟨_,rfl,_,by rw[vf];exact hB.cell rfl,⟨(A3 (hTab.no hU) hs).mono ?_⟩⟩;rintro e w3 ⟨rfl,hT⟩;obtain⟨F3,q1,q2,q3⟩:=ht _ _ hT;have hUw:aa (dg b) w w3 F (fK x.1,x.2):=aa.next h1 hU.nn (fun _ h=>.inl h) ⟨F3,q1,q2,q3⟩;refine⟨_,_,rfl,fun g1=>?_,fun g1=>?_⟩
  ·rw[if_neg (by simpa using g1),if_neg (by simpa using g1)];exact⟨rfl,hUw⟩
  ·rw[if_pos (by simpa using g1),if_pos (by simpa using g1)];obtain⟨b2,a,c,bi,F4,hB,hc4,hq,htq⟩:=q1.q (i:=i) hi;refine⟨_,rfl,_,_,_,hB.cell rfl,⟨by omega,by show(i:Int)<(x.2.length:Int);omega⟩,a,rfl,_,hc4,⟨(tR hq _).mono ?_⟩⟩;rintro e w4 ⟨rfl,hT4⟩;rw[Wi]at hT4;have:=htq _ _ hT4;exact⟨_,rfl,rfl,aa.next h1 hU.nn (fun _ h=>.inl h) (aa.next (s1:=(fK x.1,x.2)) q1 q2 q3 this)⟩
theorem ZY (h:dg b w F x) (ab:Int):Cx 219 #[pt b,I ab] w fun e w'=>e=Z (.tuple #[I (rQ x ab).1,I (rQ x ab).2])/\aa (dg b) w w' F (gZ x ab):=by
 refine ajZ ?_;rw[t219];refine⟨fun w1 hN=>?_⟩;have hU:=hN.ae no;have h1:dg b w1 F x:=(Frame.ca b).ae h hU (fun _ _ h=>h);refine⟨(yU h1 (Cy hN) (by simp)).mono ?_⟩;rw[EC];rintro e w2 ⟨rfl,rfl⟩;refine⟨_,rfl,fun g=>?_,fun g=>?_⟩
 ·have hn:¬aT x ab:=fun h=>by rw[if_pos h]at g;simp at g
  rw[rQ,gZ,if_neg hn,if_neg hn,if_neg hn];exact⟨rfl,F,h1,hU.nn,fun _ h=>.inl h⟩
 ·have hc:aT x ab:=Classical.byContradiction fun h=>by rw[if_neg h]at g;simp at g
  rw[rQ,gZ,if_pos hc,if_pos hc];obtain⟨i,hi,rfl⟩:=nD hc;rw[nR hi];obtain⟨b2,a,c,bi,F4,hB,hc4,hq,htq⟩:=h1.q (i:=i) hi;refine⟨_,rfl,_,_,_,hB.cell rfl,⟨by omega,by omega⟩,a,rfl,_,hc4,⟨(AL hq).mono ?_⟩⟩;rintro e w3 ⟨rfl,hT⟩;obtain⟨F3,q1,q2,q3⟩:=htq _ _ hT;have hUw:aa (dg b) w w3 F (x.1,x.2.set i x.2[i].tail):=aa.next h1 hU.nn (fun _ h=>.inl h) ⟨F3,q1,q2,q3⟩;refine⟨_,_,rfl,fun g1=>?_,fun g1=>?_⟩
  ·rw[if_neg (by simpa using g1),if_neg (by simpa using g1)];exact⟨rfl,hUw⟩
  ·rw[if_pos (by simpa using g1),if_pos (by simpa using g1)];obtain⟨b2,F1,hs,⟨p,c,hB⟩,ht⟩:=q1.slot;refine⟨_,rfl,_,by rw[vf];exact hB.cell rfl,⟨(AZ hs _).mono ?_⟩⟩;rintro e w4 ⟨rfl,hT4⟩;have:=ht _ _ hT4;exact⟨_,rfl,rfl,aa.next h1 hU.nn (fun _ h=>.inl h) (aa.next (s1:=(x.1,x.2.set i x.2[i].tail)) q1 q2 q3 this)⟩
theorem ZG (h:dg b w F x) (f t:Int):Cx 359 #[pt b,I f,I t] w fun e w'=>e=Z (.tuple #[I (j5 x f t).1,I (j5 x f t).2])/\aa (dg b) w w' F (eY x f t):=by
 refine alP ?_;rw[t359];refine⟨fun w1 hN=>?_⟩;have hU:=hN.ae no;have h1:dg b w1 F x:=(Frame.ca b).ae h hU (fun _ _ h=>h);refine⟨(yU h1 (Zy hN) (by simp)).mono ?_⟩;rw[aif];rintro e w2 ⟨rfl,rfl⟩;refine⟨_,rfl,fun g=>?_,fun g=>⟨fun g0=>?_,fun g0=>?_⟩⟩
 ·have hn:¬(aT x f/\aT x t):=fun h=>by rw[if_pos h]at g;simp at g
  rw[j5,eY,if_neg hn,if_neg hn,if_neg hn];exact⟨rfl,F,h1,hU.nn,fun _ h=>.inl h⟩
 ·have hc:aT x f/\aT x t:=Classical.byContradiction fun h=>by rw[if_neg h]at g;simp at g
  rw[j5,eY,if_pos hc,if_pos hc,if_pos (eq_of_beq g0),if_pos (eq_of_beq g0)];exact⟨rfl,F,h1,hU.nn,fun _ h=>.inl h⟩
 ·have hc:aT x f/\aT x t:=Classical.byContradiction fun h=>by rw[if_neg h]at g;simp at g
  have hne:¬f=t:=by simpa using g0
  rw[j5,eY,if_pos hc,if_pos hc,if_neg hne,if_neg hne];obtain⟨i,hi,rfl⟩:=nD hc.1;obtain⟨k,hk,rfl⟩:=nD hc.2;unfold fv;rw[nR hi];obtain⟨b2,a,c,bi,F4,hB,hc4,hq,htq⟩:=h1.q (i:=i) hi;refine⟨_,rfl,_,_,_,hB.cell rfl,⟨by omega,by omega⟩,a,rfl,_,hc4,⟨(AL hq).mono ?_⟩⟩;rintro e w3 ⟨rfl,hT⟩;obtain⟨F3,q1,q2,q3⟩:=htq _ _ hT;have hUw:aa (dg b) w w3 F (x.1,x.2.set i x.2[i].tail):=aa.next h1 hU.nn (fun _ h=>.inl h) ⟨F3,q1,q2,q3⟩;refine⟨_,_,rfl,fun g1=>?_,fun g1=>?_⟩
  ·rw[if_neg (by simpa using g1),if_neg (by simpa using g1)];exact⟨rfl,hUw⟩
  ·rw[if_pos (by simpa using g1),if_pos (by simpa using g1)];have hk2:k<(x.2.set i x.2[i].tail).length:=by simpa using hk
   obtain⟨b2,a,c,bi,F4,hB,hc4,hq,htq⟩:=q1.q (i:=k) hk2;refine⟨_,rfl,_,_,_,hB.cell rfl,⟨by omega,by simp only[List.length_set];omega⟩,a,rfl,_,hc4,⟨(tR hq _).mono ?_⟩⟩;rintro e w4 ⟨rfl,hT4⟩;rw[Wi]at hT4;have:=htq _ _ hT4;have er:aM (x.1,x.2.set (Int.toNat (i:Int)) x.2[i].tail) (k:Int)=(x.2.set i x.2[i].tail)[k]:=nR (x:=(x.1,x.2.set i x.2[i].tail)) hk2;rw[er];exact⟨_,rfl,rfl,aa.next h1 hU.nn (fun _ h=>.inl h) (aa.next (s1:=(x.1,x.2.set i x.2[i].tail)) q1 q2 q3 this)⟩
theorem ZD (h:dg b w F x) (ab:Int):Cx 95 #[pt b,I ab] w fun e w'=>∃p c,e=Z (.slice p (cJ x ab).length c)/\Cells w' p ((cJ x ab).map (Value.int .i64))/\af no w w':=by
 refine u95 ?_;rw[t95];refine⟨fun w1 hN=>?_⟩;have hU:=hN.ae no;have h1:dg b w1 F x:=(Frame.ca b).ae h hU (fun _ _ h=>h);refine⟨(yU h1 (Cy hN) (by simp)).mono ?_⟩;rw[EC];rintro e w2 ⟨rfl,rfl⟩;refine⟨_,rfl,fun g=>?_,fun g=>?_⟩
 ·have hn:¬aT x ab:=fun h=>by rw[if_pos h]at g;simp at g
  rw[cJ,if_neg hn];exact⟨none,0,rfl,Cells.nil _ _,hU⟩
 ·have hc:aT x ab:=Classical.byContradiction fun h=>by rw[if_neg h]at g;simp at g
  rw[cJ,if_pos hc];obtain⟨i,hi,rfl⟩:=nD hc;rw[nR hi];obtain⟨b2,a,c,bi,F4,hB,hc4,hq,htq⟩:=h1.q (i:=i) hi;refine⟨_,rfl,_,_,_,hB.cell rfl,⟨by omega,by omega⟩,a,rfl,_,hc4,⟨(ET hq).mono ?_⟩⟩;rintro e w3 ⟨p,c,rfl,hC,hU3⟩;exact⟨_,_,_,rfl,_,_,rfl,hC,hU.and hU3⟩
theorem Rs (h:dg b w F x) (ab:Int):Cx 204 #[pt b,I ab] w fun e w'=>e=Z (I ((cJ x ab).length:Int))/\af no w w':=by
 refine ajK ?_;rw[t204];refine⟨(ZD h ab).mono ?_⟩;rintro e w1 ⟨p,c,rfl,_,hU⟩;exact⟨_,_,_,rfl,rfl,hU⟩
def As (n:Int):Prop:=1<=n/\n<=64
def iu (n:Int):CS:=(List.replicate 32 false,List.replicate n.toNat [])
theorem ZJ (n:Int) (w:World):Cx 46 #[I n] w fun e w'=>
  (¬As n/\e=Z (.tuple #[.pointer none,I 2])/\w'=w)∨
  (As n/\∃b F,e=Z (.tuple #[pt b,I 0])/\dg b w' F (iu n)/\af no w w'/\∀i,F i->w.heap.size<=i):=by
 refine u46 ?_;rw[t46];refine⟨fun g1=>⟨fun g2=>.inl ⟨?_,rfl,rfl⟩,fun g2=>?_⟩,fun g1=>.inl ⟨?_,rfl,rfl⟩⟩
 ·unfold As;simp at g2;omega
 ·have g1:¬n<1:=by simpa using g1
  have g2:¬64<n:=by simpa using g2
  obtain⟨k,rfl⟩:∃k:Nat,n=k:=⟨n.toNat,by omega⟩;refine⟨(A0 32 w).mono ?_⟩;rintro e w1 hh;obtain⟨_,b2,F1,rfl,hQ,hU,hF⟩:=hh.resolve_left (fun h=>absurd (by omega) h.1);have hM:bh w w1 (b8 b2) (List.replicate 32 false):=bh.new (af.refl _ _) hU hQ hF;clear hU hQ hF;refine⟨_,_,rfl,fun g=>by simp at g,fun _=>⟨fun w2 hN=>?_⟩⟩;replace hM:bh w w2 (au (b8 b2) (BE w1.heap.size b2)) (List.replicate 32 false,[]):=hM.add (hN.ae no) (Tq.nil hN rfl) (fun i hi=>Nat.le_of_eq hi.symm);generalize w1.heap.size=b at hM⊢;refine⟨bA bf (M:=u7) (σ:=Nat) (fun j=>Dq (some ⟨b,0,none⟩) (k:Int) (j:Int)) (fun j w'=>j<=k/\bh w w' (au (b8 b2) (BE b b2)) (List.replicate 32 false,List.replicate j (bU []))) (fun j _=>k-j) 0 ⟨rfl,rfl,rfl,trivial⟩ ⟨by omega,hM⟩ ?_⟩;clear hM hN;rintro j w3 ⟨j1,hM⟩;rw[ahi];refine⟨fun g=>?_,fun g=>?_⟩
  ·have hj:j<k:=by simp at g;omega
   refine⟨(Aq 32 w3).mono ?_⟩;rintro e w4 hh;obtain⟨_,bq,G,rfl,hQ,hU,hG⟩:=hh.resolve_left (fun h=>absurd (by omega) h.1);obtain⟨F2,hA,hT⟩:=hM.right;obtain⟨p,c,hB,hgo⟩:=Tq.push aaw (k:=1) (fun _ _ _ _ _ _=>rfl) (fun _ _ _=>Nat.le_refl _) hA (by simp;omega) hU hQ hG;refine⟨_,_,rfl,fun g=>by simp at g,fun _=>⟨_,rfl,_,_,_,hB.cell rfl,⟨fun w5 hN=>?_⟩⟩⟩;obtain⟨p',c',w6,hr,hK⟩:=hgo w5 hN 205;refine⟨_,_,_,w6,hr,_,rfl,hK _ fun w7 h7=>?_⟩;have h8:=hT _ _ h7;refine⟨j+1,⟨rfl,rfl,by rw[aD (by omega)];rfl,trivial⟩,⟨by omega,?_⟩,by omega⟩;rw[List.replicate_succ' (n:=j)];exact h8
  ·have:j=k:=by simp at g;omega
   subst this;obtain⟨F,hF1,hF2,hF3⟩:=hM;refine .inr ⟨⟨by omega,by omega⟩,b,F,rfl,⟨b2,?_⟩,hF2,hF3⟩;simp only[iu,List.map_replicate,Int.toNat_natCast];exact hF1
 ·unfold As;simp at g1;omega
end
end Go.Dav
namespace Go.Dav
open Go.Proofs
def uy (x:Nat):Nat:=((List.range 8).find? (fun k=>x.testBit k)).getD 8
def VP (x:Nat):Nat:=((List.range 8).filter (fun k=>x.testBit k)).length
theorem aii (x:Nat):uy x<=8:=by
 unfold uy
 cases h:(List.range 8).find? (fun k=>x.testBit k)with
 | none=>simp
 | some k=>have:=List.mem_of_find?_eq_some h;simp at this;simp;omega
theorem aij {x:Nat} (hx:x<256) (w:World):Cx 379 #[.int .u8 x] w fun e w'=>e=Z (I (uy x))/\w'=w:=by
 refine al5 ?_;rw[t379];have hle:=aii x;exact⟨⟨by omega,by omega⟩,(uy x:Int),YN uy (by decide +kernel) hx,by rw[aD (by omega)],rfl⟩
def z8 (x:Nat):Nat:=uy (255-x)
def vG (x k:Nat):Nat:=x&&& (255-2 ^ k)
def wa (x k:Nat):Nat:=x||| 2 ^ k
def qX (x:Nat):List Bool:=(List.range 8).map x.testBit
theorem wJ:∀x:Nat,x<256->∀k:Nat,k<8->aw .or .u8 (x:Int) (dq .u8 1 (k:Int))=(wa x k:Int)/\aw .andNot .u8 (x:Int) (dq .u8 1 (k:Int))=(vG x k:Int)/\
  (aw .and .u8 (x:Int) (dq .u8 1 (k:Int)) !=0)=x.testBit k/\wa x k<256/\vG x k<256/\qX (wa x k)=(qX x).set k true/\qX (vG x k)=(qX x).set k false:=by decide +kernel
theorem afR:∀k:Nat,k<8->(dq .u8 1 (k:Int) !=0)=true:=by decide +kernel
theorem VW:∀x:Nat,x<256->aw .xor .u8 (IntKind.max .u8) (x:Int)=((255-x:Nat):Int)/\(VP x=0↔x=0)/\(VP x=8↔x=255)/\(x≠255->z8 x<8/\x.testBit (z8 x)=false/\∀k:Nat,k<z8 x->x.testBit k=true):=by decide +kernel
structure jL (pg:List Nat):Prop where
 len:1<=pg.length/\pg.length<=12
 lt:∀x∈pg,x<256
theorem jL.at {pg:List Nat} (h:jL pg) {i:Nat} (hi:i<pg.length):pg[i]<256:=h.lt _ (List.getElem_mem hi)
theorem jL.set {pg:List Nat} (h:jL pg) (i:Nat) {x:Nat} (hx:x<256):jL (pg.set i x):=
 ⟨by simpa using h.len,fun y hy=>(List.mem_or_eq_of_mem_set hy).elim (h.lt y) (fun e=>e ▸ hx)⟩
def wK (x:Nat):Value:=.int .u8 (x:Int)
def nO (pg:List Nat):List Value:=pg.map wK++(List.replicate (12-pg.length) (wK 0)++[I (pg.length:Int)])
def dD (b:Nat):Ob (List Nat):=fun w F x=>Rw b 298 nO w F x/\jL x
instance Frame.pl (b:Nat):Frame (dD b) where
 ae:=fun⟨h,r⟩ k hG=>⟨(Frame.rw ..).ae h k hG,r⟩
 lt:=fun⟨h,_⟩=>(Frame.rw ..).lt h
def p1 (x:Nat):Bool:=x !=0&&x !=255
def p2 (x:Nat):Bool:=x==0
def fI (o:Option Nat):Int:=match o with|some i=>(i:Int)|none=>-1
def pz (pg:List Nat):Option Nat:=match pg.findIdx? p1 with|some i=>some i|none=>pg.findIdx? p2
def fc (pg:List Nat):Int×Int:=match pz pg with|some i=>(((8*i+z8 (pg.getD i 0)+1:Nat):Int),0)|none=>(0,5)
def ja (pg:List Nat):List Nat:=match pz pg with|some i=>pg.set i (wa (pg.getD i 0) (z8 (pg.getD i 0)))|none=>pg
def iQ (pg:List Nat) (id:Int):Prop:=1<=id/\id<=8*(pg.length:Int)
instance (pg:List Nat) (id:Int):Decidable (iQ pg id):=by unfold iQ;infer_instance
def dE (pg:List Nat) (id:Int):Bool:=if iQ pg id then(pg.getD ((id.toNat-1)/8) 0).testBit ((id.toNat-1)%8)else false
def DP (pg:List Nat) (id:Int):Int:=if dE pg id then 0 else 4
def kH (pg:List Nat) (id:Int):List Nat:=if dE pg id then pg.set ((id.toNat-1)/8) (vG (pg.getD ((id.toNat-1)/8) 0) ((id.toNat-1)%8))else pg
theorem SG {p:Nat->Bool} {pg:List Nat} {j:Nat} (hj:j<pg.length) (h1:∀i (hi:i<pg.length),i<j->p pg[i]=false) (h2:p pg[j]=true):pg.findIdx? p=some j:=
 List.findIdx?_eq_some_iff_getElem.2 ⟨hj,h2,fun i hi=>by simp[h1 i (by omega) hi]⟩
theorem SF {p:Nat->Bool} {pg:List Nat} (h:∀i (hi:i<pg.length),p pg[i]=false):pg.findIdx? p=none:=
 List.findIdx?_eq_none_iff.2 fun x hx=>by obtain⟨i,hi,rfl⟩:=List.mem_iff_getElem.1 hx;exact h i hi
theorem SE {p:Nat->Bool} {pg:List Nat} {j:Nat} (h:pg.findIdx? p=some j):∃hj:j<pg.length,p pg[j]=true:=by
 obtain⟨hj,h2,_⟩:=List.findIdx?_eq_some_iff_getElem.1 h;exact⟨hj,h2⟩
theorem Xl {pg:List Nat} {j:Nat} (h:pz pg=some j):∃hj:j<pg.length,pg[j]≠255:=by
 unfold pz at h
 cases h1:pg.findIdx? p1 with
 | some i=>
  rw[h1]at h;simp only[Option.some.injEq]at h;subst h;obtain⟨hj,h2⟩:=SE h1
  exact⟨hj,by simp[p1]at h2;exact h2.2⟩
 | none=>
  rw[h1]at h;obtain⟨hj,h2⟩:=SE h;exact⟨hj,by simp[p2]at h2;omega⟩
theorem zP {pg:List Nat} {id:Int} (h:iQ pg id):∃i k:Nat,i<pg.length/\k<8/\id=((8*i+k+1:Nat):Int):=by
 unfold iQ at h;exact⟨(id.toNat-1)/8,(id.toNat-1)%8,by omega,by omega,by omega⟩
section
variable {pg:List Nat} {i k:Nat} (hi:i<pg.length) (hk:k<8)
include hi hk
theorem ab5:iQ pg ((8*i+k+1:Nat):Int):=by unfold iQ;omega
theorem rI:dE pg ((8*i+k+1:Nat):Int)=pg[i].testBit k:=by
 unfold dE;rw[if_pos (ab5 hi hk)];have e1:(((8*i+k+1:Nat):Int).toNat-1)/8=i:=by omega
 have e2:(((8*i+k+1:Nat):Int).toNat-1)%8=k:=by omega
 rw[e1,e2];simp[hi]
theorem S8:kH pg ((8*i+k+1:Nat):Int)=if pg[i].testBit k then pg.set i (vG pg[i] k)else pg:=by
 unfold kH;rw[rI hi hk];have e1:(((8*i+k+1:Nat):Int).toNat-1)/8=i:=by omega
 have e2:(((8*i+k+1:Nat):Int).toNat-1)%8=k:=by omega
 rw[e1,e2];simp[hi]
end
theorem Ln (b k:Nat):Addr.add (Addr.add ⟨b,0,none⟩ 0) k=(⟨b,0,none⟩:Addr).add k:=by rw[add_lit b 0 0]
section
variable {w:World} {F:Fp} {b:Nat} {pg:List Nat}
theorem aeC {i:Nat} (hi:i<pg.length):(nO pg)[i]?=some (wK pg[i]):=by
 unfold nO;rw[List.getElem?_append_left (by simpa using hi)];simp[hi]
theorem aeE {i:Nat} (hi:i<pg.length) (x:Nat):aI (nO pg) i [wK x]=nO (pg.set i x):=by
 unfold nO;rw[WU (by simp;omega),qw hi];simp
theorem aeD (h:jL pg):(nO pg)[12]?=some (I (pg.length:Int)):=by
 have:=h.len;unfold nO;rw[List.getElem?_append_right (by simp;omega),List.getElem?_append_right (by simp)];simp
theorem dD.tP (h:dD b w F pg) {i:Nat} (hi:i<pg.length):w.cell? (Addr.add (Addr.add ⟨b,0,none⟩ 0) (i*1))=some (.int .u8 (pg[i]:Int)):=by
 rw[Ln,Nat.mul_one];exact h.1.ai.cell (aeC hi)
theorem dD.many (h:dD b w F pg):w.cell? ((⟨b,0,none⟩:Addr).add 12)=some (I (pg.length:Int)):=h.1.ai.cell (aeD h.2)
theorem dD.wr (h:dD b w F pg) {w1:World} (hU:af no w w1) {i:Nat} (hi:i<pg.length) {x:Nat} (hx:x<256) {K:World->Prop} (hK:∀w',aa (dD b) w w' F (pg.set i x)->K w') :
  Wr w1 (Addr.add (Addr.add ⟨b,0,none⟩ 0) (i*1)) [.int .u8 (x:Int)] K:=by
 rw[Ln,Nat.mul_one];have hB:=h.1.ai.ae hU id;refine hB.wr (by simp[nO];omega) fun w' hW=>hK w' ?_;have hb:=hW.aF;have e:=aeE hi x;unfold wK at e;rw[e]at hb;obtain⟨F',t1,t2,t3⟩:=h.1.dZ ((hU.mono fun _ _ h=>h.elim).and hW.U) hb;exact⟨F',⟨t1,h.2.set i hx⟩,t2,t3⟩
theorem ad4 (n:Int) (w:World):Cx 111 #[I n] w fun e w'=>
  (¬(1<=n/\n<=12)/\e=Z (.tuple #[.pointer none,I 2])/\w'=w)∨
  ((1<=n/\n<=12)/\∃b F,e=Z (.tuple #[pt b,I 0])/\dD b w' F (List.replicate n.toNat 0)/\af no w w'/\∀i,F i->w.heap.size<=i):=by
 refine ait ?_;rw[t111];refine⟨fun h1=>⟨fun h2=>.inl ⟨?_,rfl,rfl⟩,fun h2=>?_⟩,fun h1=>.inl ⟨?_,rfl,rfl⟩⟩
 ·simp at h2;omega
 ·have h1:¬n<1:=by simpa using h1
  have h2:¬12<n:=by simpa using h2
  obtain⟨m,rfl⟩:∃m:Nat,n=m:=⟨n.toNat,by omega⟩;refine⟨fun w2 hN=>.inr ⟨by omega,w.heap.size,_,rfl,⟨Rw.new hN ?_,⟨by simp;omega,fun x hx=>?_⟩⟩,hN.ae no,fun i hi=>Nat.le_of_eq hi.symm⟩⟩
  ·unfold nO;rw[List.map_replicate,<-List.append_assoc,Int.toNat_natCast,List.length_replicate,List.replicate_append_replicate];rw[show m+(12-m)=12 by omega];rfl
  ·have:=List.eq_of_mem_replicate hx;omega
 ·simp at h1;omega
theorem LS (h:dD b w F pg) {i k:Nat} (hi:i<pg.length) (hk:k<8):Cx 380 #[pt b,I ((8*i+k+1:Nat):Int)] w fun e w'=>e=Z (.tuple #[I (i:Int),.int .u8 (dq .u8 1 (k:Int))])/\af no w w':=by
 have hl:=h.2.len;refine Xy ?_;rw[t380];refine⟨fun _=>⟨fun _=>⟨_,rfl,_,h.many,fun g=>?_,fun _=>?_⟩,fun g=>by simp at g;omega⟩,fun g=>by simp at g⟩
 ·rw[aD (by omega)]at g;simp at g;omega
 ·intro w1 q1 q2 q3 q4;have e0:IntKind.wrap .i64 (((8*i+k+1:Nat):Int)-1)=((8*i+k:Nat):Int):=by rw[aD (by omega)];omega
  have e1:Int.tdiv ((8*i+k:Nat):Int) 8=(i:Int):=by rw[Int.tdiv_eq_ediv_of_nonneg (by omega)];omega
  have e2:Int.tmod ((8*i+k:Nat):Int) 8=(k:Int):=by rw[Int.tmod_eq_emod_of_nonneg (by omega)];omega
  rw[e0,e1,e2];refine⟨by omega,by omega,by omega,by rw[aD (by omega)],af.same no q1 q2 q3 q4⟩
theorem YF (h:dD b w F pg) {id:Int} (hi:¬iQ pg id):Cx 380 #[pt b,I id] w fun e w'=>e=Z (.tuple #[I 0,.int .u8 0])/\w'=w:=by
 have hl:=h.2.len;refine Xy ?_;rw[t380];unfold iQ at hi;refine⟨fun _=>⟨fun g=>⟨_,rfl,_,h.many,fun _=>⟨rfl,rfl⟩,fun g2=>?_⟩,fun _=>⟨rfl,rfl⟩⟩,fun g=>by simp at g⟩;rw[aD (by omega)]at g2;simp at g g2;omega
theorem V3 (h:dD b w F pg) (id:Int):Cx 327 #[pt b,I id] w fun e w'=>e=Z (.bool (dE pg id))/\af no w w':=by
 refine als ?_;rw[t327];by_cases hin:iQ pg id
 ·obtain⟨i,k,hi,hk,rfl⟩:=zP hin;refine⟨(LS h hi hk).mono ?_⟩;rintro e w1 ⟨rfl,hU⟩;have h1:dD b w1 F pg:=(Frame.pl b).ae h hU fun _ _ h=>h;refine⟨_,_,rfl,fun _=>⟨_,rfl,⟨by omega,by have:=h.2.len;omega⟩,_,h1.tP hi,?_,hU⟩,fun g=>?_⟩
  ·rw[rI hi hk,(wJ _ (h.2.at hi) k hk).2.2.1]
  ·rw[afR k hk]at g;cases g
 ·refine⟨(YF h hin).mono ?_⟩;rintro e w1 ⟨rfl,rfl⟩;exact⟨_,_,rfl,fun g=>by simp at g,fun _=>⟨by rw[dE,if_neg hin],af.refl _ _⟩⟩
theorem abr (h:dD b w F pg) (id:Int):Cx 330 #[pt b,I id] w fun e w'=>e=Z (I (DP pg id))/\aa (dD b) w w' F (kH pg id):=by
 refine alw ?_;rw[t330];refine⟨fun g=>by simp at g,fun _=>⟨(V3 h id).mono ?_⟩⟩;rintro e w1 ⟨rfl,hU⟩;refine⟨_,rfl,fun g=>?_,fun g=>?_⟩
 ·have g:¬dE pg id=true:=by simpa using g
  rw[DP,kH,if_neg g,if_neg g];exact⟨rfl,aa.quiet h hU⟩
 ·have g:dE pg id=true:=by simpa using g
  have hin:iQ pg id:=by unfold dE at g;split at g<;>first|assumption|cases g
  obtain⟨i,k,hi,hk,rfl⟩:=zP hin;have h1:dD b w1 F pg:=(Frame.pl b).ae h hU fun _ _ h=>h;refine⟨(LS h1 hi hk).mono ?_⟩;rintro e w2 ⟨rfl,hU2⟩;refine⟨_,_,rfl,fun w3 q1 q2 q3 q4=>?_⟩;have hU3:=(hU.and hU2).and (af.same no q1 q2 q3 q4);have h3:dD b w3 F pg:=(Frame.pl b).ae h hU3 fun _ _ h=>h;have hl:=h.2.len;refine⟨_,rfl,⟨by omega,by omega⟩,_,h3.tP hi,_,rfl,⟨by omega,by omega⟩,?_⟩;have o:=wJ _ (h.2.at hi) k hk;rw[o.2.1];refine h.wr hU3 hi o.2.2.2.2.1 fun w' hT=>?_;rw[DP,if_pos g,S8 hi hk,if_pos (by rw[<-rI hi hk];exact g)];exact⟨rfl,hT⟩
theorem aaY (h:dD b w F pg):Cx 376 #[pt b,.func (.func 377) #[] #[]] w fun e w'=>e=Z (I (fI (pg.findIdx? p1)))/\w'=w:=by
 have hl:=h.2.len;refine Gf ?_;rw[t376];refine⟨_,rfl,_,h.many,⟨bA bf (M:=mc) (σ:=Nat) (fun j=>sU (some ⟨b,0,none⟩) (pg.length:Int) (j:Int)) (fun j w'=>j<=pg.length/\(∀i (hi:i<pg.length),i<j->p1 pg[i]=false)/\w'=w) (fun j _=>pg.length-j) 0 ⟨rfl,rfl,rfl,rfl,trivial⟩ ⟨by omega,fun i _ h=>by omega,rfl⟩ ?_⟩⟩;rintro j w' ⟨h1,h2,rfl⟩;rw[FL];refine⟨fun g=>?_,fun g=>⟨?_,rfl⟩⟩
 ·have hj:j<pg.length:=by simpa using g
  refine⟨_,rfl,⟨by omega,by omega⟩,_,h.tP hj,⟨al3 ?_⟩⟩;rw[t377]
  have fin:∃b',Ending.returned (.bool (p1 pg[j]))=Ending.returned (.bool b')/\(b'=true->Ending.returned (Value.int .i64 (j:Int))=Ending.returned (I (fI (pg.findIdx? p1)))/\w'=w')/\(b'=false->∃j',qG [(0,SV.v (Value.pointer (some ⟨b,0,none⟩))),(1,SV.v (Value.func (Fn.func 377) #[] #[])),(9,SV.v (Value.int IntKind.i64 (pg.length:Int))),(10,SV.v (Value.int IntKind.i64 (IntKind.wrap IntKind.i64 ((j:Int)+(1:Int)))))] (sU (some ⟨b,0,none⟩) (pg.length:Int) (j':Nat))/\(j'<=pg.length/\(∀i (hi:i<pg.length),i<j'->p1 pg[i]=false)/\w'=w')/\pg.length-j'<pg.length-j):=by
   refine⟨_,rfl,fun g2=>⟨by rw[SG hj h2 g2];rfl,rfl⟩,fun g2=>⟨j+1,⟨rfl,rfl,rfl,by rw[aD (x:=(j:Int)+1) (by omega)];rfl,trivial⟩,⟨by omega,fun i hi hij=>?_,rfl⟩,by omega⟩⟩;by_cases hij':i=j
   ·subst hij';exact g2
   ·exact h2 i hi (by omega)
  have hb:((((pg[j]:Nat):Int) !=0)=true)=((pg[j] !=0)=true):=by simp
  have hb':((((pg[j]:Nat):Int) !=0)=false)=((pg[j] !=0)=false):=by simp
  rw[hb,hb'];refine⟨fun k1=>?_,fun k1=>?_⟩
  ·have e:(((pg[j]:Nat):Int) !=255)=p1 pg[j]:=by
    unfold p1;rw[k1];simp only[Bool.true_and];rw[Bool.eq_iff_iff];simp;omega
   rw[e];exact fin
  ·have e:p1 pg[j]=false:=by unfold p1;rw[k1];rfl
   rw[e]at fin;exact fin
 ·have:j=pg.length:=by simp at g;omega
  subst this;rw[SF fun i hi=>h2 i hi hi];rfl
theorem aaZ (h:dD b w F pg):Cx 376 #[pt b,.func (.func 378) #[] #[]] w fun e w'=>e=Z (I (fI (pg.findIdx? p2)))/\w'=w:=by
 have hl:=h.2.len;refine l9.Gf ?_;rw[l9.t376];refine⟨_,rfl,_,h.many,⟨bA bf (M:=l9.mc) (σ:=Nat) (fun j=>l9.sU (some ⟨b,0,none⟩) (pg.length:Int) (j:Int)) (fun j w'=>j<=pg.length/\(∀i (hi:i<pg.length),i<j->p2 pg[i]=false)/\w'=w) (fun j _=>pg.length-j) 0 ⟨rfl,rfl,rfl,rfl,trivial⟩ ⟨by omega,fun i _ h=>by omega,rfl⟩ ?_⟩⟩;rintro j w' ⟨h1,h2,rfl⟩;rw[l9.FL];refine⟨fun g=>?_,fun g=>⟨?_,rfl⟩⟩
 ·have hj:j<pg.length:=by simpa using g
  refine⟨_,rfl,⟨by omega,by omega⟩,_,h.tP hj,⟨al4 ?_⟩⟩;rw[t378];have e:(((pg[j]:Nat):Int)==0)=p2 pg[j]:=by unfold p2;rw[Bool.eq_iff_iff];simp
  rw[e];refine⟨_,rfl,fun g2=>⟨by rw[SG hj h2 g2];rfl,rfl⟩,fun g2=>⟨j+1,⟨rfl,rfl,rfl,by rw[aD (x:=(j:Int)+1) (by omega)];rfl,trivial⟩,⟨by omega,fun i hi hij=>?_,rfl⟩,by omega⟩⟩;by_cases hij':i=j
  ·subst hij';exact g2
  ·exact h2 i hi (by omega)
 ·have:j=pg.length:=by simp at g;omega
  subst this;rw[SF fun i hi=>h2 i hi hi];rfl
theorem ahD (h:dD b w F pg):aA Tryz.prog r5 yv (zp (some ⟨b,0,none⟩) (fI (pz pg))) w (zZ fun e w'=>e=Z (.tuple #[I (fc pg).1,I (fc pg).2])/\aa (dD b) w w' F (ja pg)):=by
 refine aA.mk ?_;rw[agZ];have hl:=h.2.len;unfold fc ja
 cases hp:pz pg with
 | none=>
  simp only[fI]
  exact⟨fun _=>⟨by trivial,aa.same h⟩,fun g=>by simp at g⟩
 | some i=>
  obtain⟨hi,hne⟩:=Xl hp;have hx:=h.2.at hi;obtain⟨o1,o2,o3,o4⟩:=VW _ hx;have o4:=o4 hne;have o:=wJ _ hx _ o4.1;have hg:pg.getD i 0=pg[i]:=by simp[hi]
  simp only[fI,hg];refine⟨fun g=>absurd (of_decide_eq_true g) (by omega),fun _=>⟨_,rfl,⟨by omega,by omega⟩,_,h.tP hi,?_⟩⟩;rw[o1];refine⟨(aij (by omega) w).mono ?_⟩;rintro e w1 ⟨rfl,rfl⟩;refine⟨_,rfl,fun w2 q1 q2 q3 q4=>?_⟩;have hU:=af.same no q1 q2 q3 q4;have h2:dD b w2 F pg:=(Frame.pl b).ae h hU fun _ _ h=>h;refine⟨_,rfl,⟨by omega,by omega⟩,_,h2.tP hi,by omega,_,rfl,⟨by omega,by omega⟩,?_⟩;show Wr w2 _ [.int .u8 (aw .or .u8 (pg[i]:Int) (dq .u8 1 (z8 pg[i]:Int)))] _;rw[o.1];refine h.wr hU hi o.2.2.2.1 fun w' hT=>⟨?_,hT⟩;show Ending.returned (.tuple #[I (IntKind.wrap .i64 (IntKind.wrap .i64 (IntKind.wrap .i64 ((i:Int)*8)+(z8 pg[i]:Int))+1)),I 0])=_;rw[aD (x:=(i:Int)*8) (by omega),aD (x:=(i:Int)*8+(z8 pg[i]:Int)) (by omega),aD (by omega)];have:(i:Int)*8+(z8 pg[i]:Int)+1=((8*i+z8 pg[i]+1:Nat):Int):=by omega
  rw[this]
theorem ahK (h:dD b w F pg):Cx 326 #[pt b] w fun e w'=>e=Z (.tuple #[I (fc pg).1,I (fc pg).2])/\aa (dD b) w w' F (ja pg):=by
 refine alr ?_;rw[t326];refine⟨fun g=>by simp at g,fun _=>⟨(aaY h).mono ?_⟩⟩;rintro e w1 ⟨rfl,rfl⟩;have h0:=ahD h;unfold pz at h0
 cases hp:pg.findIdx? p1 with
 | some i=>
  rw[hp]at h0
  exact⟨_,rfl,fun g=>absurd (of_decide_eq_true g) (by simp only[fI];omega),fun _=>h0⟩
 | none=>
  rw[hp]at h0;refine⟨_,rfl,fun _=>⟨(aaZ h).mono ?_⟩,fun g=>by simp[fI]at g⟩;rintro e w1 ⟨rfl,rfl⟩;exact⟨_,rfl,h0⟩
end
end Go.Dav
namespace Go.Dav
open Go.Proofs
abbrev KS:=List Nat×List (List Int)
def jK (PO:Nat->Ob (List Nat)) (T E I:TypeId) (enc:Nat->Nat->Option Addr->Nat->Nat->List Value) (b:Nat):Ob KS:=fun w F x=>(∃b2,au (PO b2) (Tb b T E I (enc b2 x.1.length)) w F x)/\∀l∈x.2,l.length<=4
section
variable {PO:Nat->Ob (List Nat)} [fp:∀b,Frame (PO b)] {T E I:TypeId} {enc:Nat->Nat->Option Addr->Nat->Nat->List Value} {b:Nat} {w w':World} {F:Fp} {x:KS}
instance Frame.kp:Frame (jK PO T E I enc b) where
 ae:=fun⟨⟨b2,h⟩,r⟩ k hG=>⟨⟨b2,Frame.star.ae h k hG⟩,r⟩
 lt:=fun⟨⟨b2,h⟩,_⟩=>Frame.star.lt h
theorem jK.ptr (h:jK PO T E I enc b w F x):∃b2 F1,PO b2 w F1 x.1/\(∃p c,aE w b (enc b2 x.1.length p x.2.length c) T)/\∀w' pg',pg'.length=x.1.length->aa (PO b2) w w' F1 pg'->aa (jK PO T E I enc b) w w' F (pg',x.2):=by
 obtain⟨⟨b2,h⟩,r⟩:=h;obtain⟨F2,h2,_⟩:=h.right;obtain⟨F1,h1,k⟩:=h.left;refine⟨b2,F1,h1,h2.ai,fun w' pg' hl hT=>?_⟩;obtain⟨F',q1,q2,q3⟩:=k _ _ hT;exact⟨F',⟨⟨b2,by rw[hl];exact q1⟩,r⟩,q2,q3⟩
def BF (w:World) (p:Option Addr) (L:List (List Int)):Prop:=∀i (hi:i<L.length),∃a q d,p=some a/\w.cell? (a.add (i*1))=some (.slice q L[i].length d)/\Cells w q (L[i].map (Value.int .i64))/\L[i].length<=4
theorem jK.rows (h:jK PO T E I enc b w F x):∃b2 F1,PO b2 w F1 x.1/\x.2.length<=maxLen/\∃p c,aE w b (enc b2 x.1.length p x.2.length c) T/\BF w p x.2:=by
 obtain⟨⟨b2,h⟩,r⟩:=h;obtain⟨F1,G,h1,⟨⟨p,c⟩,ys,h2,he⟩,h3,h4⟩:=h;obtain⟨H1,H2,k1,k2,k3,k4⟩:=h2;simp only at h1 k1 k2 he r⊢;obtain⟨x1,x2⟩:=x;simp only at h1 k1 k2 he r⊢;subst he;refine⟨b2,F1,h1,?_,p,c,by rw[rO];exact k1.ai,fun i hi=>?_⟩
 ·have:=k1.sl;rw[rO];exact Nat.le_trans this.2.1 this.2.2.1
 ·have hi':i<ys.length:=by simpa [rws]using hi
  obtain⟨a,ha,hc⟩:=k1.sl.cells.bC (f:=eT) (l:=ys) hi';obtain⟨F2,q1,_⟩:=Fam.at k2 hi';refine⟨a,ys[i].1,ys[i].2.1,ha,?_,?_,r _ (List.getElem_mem hi)⟩
  ·rw[hc,wV _ hi'];rfl
  ·rw[wV _ hi'];exact q1.cells
theorem jK.row (h:jK PO T E I enc b w F x) {i:Nat} (hi:i<x.2.length):∃b2 F1 G a c0 p c,PO b2 w F1 x.1/\qW b T E I (enc b2 x.1.length) w G x.2 i a c0 p c/\(∀j,G j->¬F1 j)/\
  (∀w' pg',pg'.length=x.1.length->aa (PO b2) w w' F1 pg'->aa (jK PO T E I enc b) w w' F (pg',x.2))/\
  ∀w' L',(∀l∈L',l.length<=4)->aa (Tb b T E I (enc b2 x.1.length)) w w' G L'->aa (jK PO T E I enc b) w w' F (x.1,L'):=by
 obtain⟨⟨b2,h⟩,r⟩:=h;obtain⟨F1,G,h1,h2,h3,h4⟩:=id h;obtain⟨a,c0,p,c,k⟩:=h2.raw hi;refine⟨b2,F1,G,a,c0,p,c,h1,k,fun j hj hf=>h4 j hf hj,fun w' pg' hl hT=>?_,fun w' L' hL hT=>?_⟩
 ·have hfa:Frame (Tb b T E I (enc b2 x.1.length)):=inferInstance;obtain⟨F',q1,q2,q3⟩:=hT;refine⟨fun i=>F' i∨G i,⟨⟨b2,F',G,q1,?_,fun _=>Iff.rfl,fun i hi hf=>?_⟩,r⟩,q2.mono (fun i _ hi=>(h3 i).2 (.inl hi)),fun i hi=>?_⟩
  ·simp only[hl];exact hfa.ae h2 q2 (fun i hi hf=>h4 i hf hi)
  ·rcases q3 i hi with h|h
   ·exact h4 i h hf
   ·have:=hfa.lt h2 i hf;omega
  ·rcases hi with hi|hi
   ·exact(q3 i hi).imp (fun h=>(h3 i).2 (.inl h)) id
   ·exact .inl ((h3 i).2 (.inr hi))
 ·obtain⟨F',q1,q2,q3⟩:=hT;refine⟨fun i=>F1 i∨F' i,⟨⟨b2,F1,F',(fp b2).ae h1 q2 h4,q1,fun _=>Iff.rfl,fun i hi hf=>?_⟩,hL⟩,?_,fun i hi=>?_⟩
  ·rcases q3 i hf with h|h
   ·exact h4 i hi h
   ·have:=(fp b2).lt h1 i hi;omega
  ·exact q2.mono (fun i _ hi=>(h3 i).2 (.inr hi))
  ·rcases hi with hi|hi
   ·exact .inl ((h3 i).2 (.inl hi))
   ·exact(q3 i hi).imp (fun h=>(h3 i).2 (.inr h)) id
omit fp in
theorem jK.new [fp:∀b,Frame (PO b)] {w w1 w2 w3:World} {b1:Nat} {F1:Fp} {pg:List Nat} {p:Option Addr} {n c:Nat} {cs:List Value} (hQ:PO b1 w1 F1 pg) (hF:∀i,F1 i->w.heap.size<=i) (hU1:af no w w1) (hU2:af no w1 w2)
  (hS:Sl w2 E 1 p n c (List.replicate n (Value.slice none 0 0))) (hp:∀i,aL p i->w1.heap.size<=i) (hN:cH w2 w3 (.cells cs.toArray T (0,0))) (he:enc b1 pg.length p n c=cs) :
  ∃F,jK PO T E I enc w2.heap.size w3 F (pg,List.replicate n [])/\af no w w3/\∀i,F i->w.heap.size<=i:=by
 have hT:=Tb.new (E:=E) (I:=I) (enc:=enc b1 pg.length) hU2 hS hp hN he;have hU3:=hN.ae no;have hlt:=(fp b1).lt hQ;refine⟨fun i=>F1 i∨(i=w2.heap.size∨aL p i),⟨⟨b1,F1,_,(fp b1).ae hQ (hU2.and hU3) (fun _ _ h=>h),hT,fun _=>Iff.rfl,?_⟩,?_⟩,hU1.and (hU2.and hU3),?_⟩
 ·rintro i hi (rfl|hf)
  ·have:=hlt _ hi;have:=hU2.size;omega
  ·have:=hlt _ hi;have:=hp _ hf;omega
 ·intro l hl;have:=List.eq_of_mem_replicate hl;subst this;simp
 ·rintro i (hi|rfl|hi)
  ·exact hF i hi
  ·exact Nat.le_trans hU1.size hU2.size
  ·exact Nat.le_trans hU1.size (hp i hi)
end
theorem aa.lP {σ:Type} {A:Ob σ} {w w1 w2:World} {F F1:Fp} {s1 s2:σ} (h:A w1 F1 s1) (hU:af F w w1) (hF:∀i,F1 i->F i∨w.heap.size<=i) (k:aa A w1 w2 F1 s2):aa A w w2 F s2:=by
 obtain⟨F2,k1,k2,k3⟩:=k;refine⟨F2,k1,hU.trans k2 (fun i hi hf=>(hF i hf).elim id (fun h=>absurd h (by omega))),fun i hi=>?_⟩;rcases k3 i hi with h|h
 ·exact hF i h
 ·exact .inr (Nat.le_trans hU.size h)
theorem ahG (pg:List Nat):(ja pg).length=pg.length:=by unfold ja;split<;>simp
theorem abq (pg:List Nat) (v:Int):(kH pg v).length=pg.length:=by unfold kH;split<;>simp
def gives (pg:List Nat) (l:List Int):List Nat:=l.foldl kH pg
theorem abv (pg:List Nat) (l:List Int):(gives pg l).length=pg.length:=by
 induction l generalizing pg with
 | nil=>rfl
 | cons v l ih=>exact(ih (kH pg v)).trans (abq pg v)
theorem abx (pg:List Nat) {l:List Int} {k:Nat} (h:k<l.length):gives pg (l.take (k+1))=kH (gives pg (l.take k)) l[k]:=by
 rw[List.take_succ_eq_append_getElem h,gives,List.foldl_append];rfl
def fj (x:KS) (ab:Int):Prop:=0<=ab/\ab<x.2.length
instance (x:KS) (ab:Int):Decidable (fj x ab):=by unfold fj;infer_instance
def oU (L:List (List Int)) (v:Int):Bool:=L.any (fun l=>decide (v∈l))
def iO (x:KS) (v:Int):Bool:=dE x.1 v&&!oU x.2 v
def gA (s:List Nat×List Int):List Nat×List Int:=if(fc s.1).2=0 then(ja s.1,s.2++[(fc s.1).1])else(ja s.1,s.2)
def jT (s:List Nat×List Int):List Nat×List Int:=if s.2=[]then gA (gA s)else s
def Ad (l:List Int):Int×Int:=match l.getLast? with|some v=>(v,0)|none=>(0,5)
def iY (x:KS) (ab:Int):List Int:=x.2.getD ab.toNat []
def sg (x:KS) (ab:Int):Int×Int:=if fj x ab then Ad (jT (x.1,iY x ab)).2 else(0,3)
def ni (x:KS) (ab:Int):KS:=if fj x ab then((jT (x.1,iY x ab)).1,x.2.set ab.toNat (jT (x.1,iY x ab)).2.dropLast)else x
def kt (s:List Nat×List Int):List Nat×List Int:=if 4<=s.2.length then(gives s.1 (s.2.take 2),s.2.drop 2)else s
def uh (x:KS) (ab v:Int):Int:=if fj x ab then(if iO x v then 0 else 4)else 3
def mR (x:KS) (ab v:Int):KS:=if fj x ab/\iO x v=true then((kt (x.1,iY x ab)).1,x.2.set ab.toNat ((kt (x.1,iY x ab)).2++[v]))else x
def zf (x:KS) (ab:Int):Int×Int:=if fj x ab then((iY x ab).length,0)else(0,3)
def gr (x:KS) (ab:Int):KS:=if fj x ab then(gives x.1 (iY x ab),x.2.set ab.toNat [])else x
theorem tX {x:KS} {i:Nat} (hi:i<x.2.length):iY x (i:Int)=x.2[i]:=by simp[iY,hi]
theorem tn {x:KS} {ab:Int} (h:fj x ab):∃i:Nat,i<x.2.length/\ab=(i:Int):=⟨ab.toNat,by unfold fj at h;omega,by unfold fj at h;omega⟩
theorem qx {L:List (List Int)} (h:∀l∈L,l.length<=4) (i:Nat) {l':List Int} (hl:l'.length<=4):∀l∈L.set i l',l.length<=4:=fun l hm=>(List.mem_or_eq_of_mem_set hm).elim (h l) (fun e=>e ▸ hl)
def FE (b2 n:Nat) (p:Option Addr) (m c:Nat):List Value:=[pt b2,I (n:Int),.slice p m c]
abbrev cT (b:Nat):Ob KS:=jK dD 219 36 3 FE b
section
variable {w:World} {F:Fp} {b:Nat} {x:KS}
theorem FA (h:cT b w F x) (ab:Int):Cx 189 #[pt b,I ab] w fun e w'=>e=Z (I (if fj x ab then 0 else 3))/\w'=w:=by
 refine ajD ?_;rw[t189];obtain⟨b2,F1,_,⟨p,c,hB⟩,_⟩:=h.ptr;refine⟨fun g=>by simp at g,fun _=>⟨fun g=>⟨_,rfl,_,_,_,hB.cell rfl,fun g2=>⟨?_,rfl⟩,fun g2=>⟨?_,rfl⟩⟩,fun g=>⟨?_,rfl⟩⟩⟩
 ·rw[if_neg];unfold fj;simp at g g2;omega
 ·rw[if_pos];unfold fj;simp at g g2;omega
 ·rw[if_neg];unfold fj;simp at g;omega
theorem aaX (h:cT b w F x) {i:Nat} (hi:i<x.2.length):Cx 256 #[pt b,I (i:Int)] w fun e w'=>e=Z (.tuple #[])/\aa (cT b) w w' F ((jT (x.1,x.2[i])).1,x.2.set i (jT (x.1,x.2[i])).2):=by
 refine akA ?_;rw[t256];obtain⟨b2,F1,G,a,c0,p,c,h1,hR,hd,ht,hp⟩:=h.row hi;obtain⟨F2,hA⟩:=hR.open hi;refine⟨_,rfl,_,_,_,hA.js.cell rfl,⟨by omega,by omega⟩,a,rfl,_,_,_,hA.bD,fun g=>⟨rfl,?_⟩,fun g=>?_⟩
 ·have hne:x.2[i]≠[]:=fun e=>by rw[e]at g;simp at g
  rw[jT,if_neg hne];simp only[List.set_getElem_self];exact aa.same h
 ·have he:x.2[i]=[]:=by simpa using g
  have h0:x.2.set i []=x.2:=by rw[<-he,List.set_getElem_self]
  clear hA hR hd ht hp h1;rw[he,jT,if_pos rfl]
  refine⟨bA bf (M:=xw) (σ:=Nat×List Nat×List Int) (fun s=>C5 (some ⟨b,0,none⟩) (i:Int) (s.1:Int))
   (fun s w'=>s.1<=2/\s.2.2.length<=s.1/\(if s.1=0 then s.2=(x.1,[])else if s.1=1 then s.2=gA (x.1,[])else s.2=gA (gA (x.1,[])))/\aa (cT b) w w' F (s.2.1,x.2.set i s.2.2)) (fun s _=>2-s.1) (0,x.1,[]) ⟨rfl,rfl,rfl,trivial⟩ ⟨by simp,by simp,by simp,by rw[h0];exact aa.same h⟩ ?_⟩
  rintro⟨j,pg,l⟩ w1 ⟨j1,j2,j3,F',q1,q2,q3⟩;simp only at j1 j2 j3 q1⊢;rw[agO];refine⟨fun g=>?_,fun g=>⟨rfl,?_⟩⟩
  ·have hj:j<2:=by simp at g;omega
   obtain⟨b2,F1,h1,⟨p,c,hB⟩,ht⟩:=q1.ptr;refine⟨_,rfl,_,hB.cell rfl,⟨(ahK h1).mono ?_⟩⟩;rintro e w2 ⟨rfl,hU⟩;obtain⟨F3,r1,r2,r3⟩:=ht _ _ (ahG _) hU
   have hn:∀s,s=gA (pg,l)->(if j+1=0 then s=(x.1,[])else if j+1=1 then s=gA (x.1,[])else s=gA (gA (x.1,[]))):=by
    rintro s rfl;have:j=0∨j=1:=by omega
    rcases this with rfl|rfl
    ·simp only[reduceIte]at j3;rw[j3];simp
    ·simp at j3;rw[j3];simp
   simp only at r1⊢;refine⟨_,_,rfl,fun g1=>?_,fun g1=>?_⟩
   ·have g1:(fc pg).2=0:=by simpa using g1
    intro w3 z1 z2 z3 z4;have hS:=af.same no z1 z2 z3 z4;replace r1:cT b w3 F3 _:=Frame.kp.ae r1 hS (fun _ _ h=>h);have hi2:i<(x.2.set i l).length:=by simpa using hi
    obtain⟨b2',G1,G,a,c0,p,c,h1,hR,hd,_,hp⟩:=r1.row (i:=i) hi2;obtain⟨F2,hA⟩:=hR.open hi2;refine⟨_,rfl,_,_,_,hA.js.cell rfl,_,rfl,_,_,_,hA.js.cell rfl,⟨by omega,by simp only[List.length_set];omega⟩,a,rfl,_,_,_,hA.bD,⟨fun w4 hN=>?_⟩⟩;have hN':af F2 w3 w4:=(hN.ae no).nn;have hle:l.length<=2:=by omega
    have hlx:(x.2.set i l)[i]=l:=by simp
    obtain⟨p',c',w5,hr,hT⟩:=Ls.push kz hA.ls (by rw[hlx];omega) hN 36;have hT5:=hT;obtain⟨_,_,hU5,_⟩:=hT5;refine⟨hA.cell _ hN',(hA.ai _ hN').cell rfl,(hA.ai _ hN').cell rfl,p',_,c',w5,hr,(hA.ai _ hU5).cell rfl,⟨by omega,by simp only[List.length_set];omega⟩,a,rfl,?_⟩;refine hA.put _ _ _ _ hT _ fun w6 h6=>?_
    have h7:=hp _ _ (by
     rw[hlx];refine qx r1.2 i ?_;simp;omega) h6
    simp only[List.set_set,hlx]at h7;refine⟨(j+1,ja pg,l++[(fc pg).1]),⟨rfl,rfl,by rw[aD (by omega)];rfl,trivial⟩,⟨by simp only;omega,by simp;omega,hn _ (by simp[gA,g1]),?_⟩,by simp only;omega⟩;refine aa.lP q1 q2 q3 ?_;refine aa.lP (s1:=(ja pg,x.2.set i l)) (w1:=w3) r1 (r2.and hS.nn) r3 h7
   ·have g1:(fc pg).2≠0:=by simpa using g1
    exact⟨(j+1,ja pg,l),⟨rfl,rfl,by rw[aD (by omega)];rfl,trivial⟩,⟨by simp only;omega,by simp;omega,hn _ (by simp[gA,g1]),aa.lP q1 q2 q3 ⟨F3,r1,r2,r3⟩⟩,by simp only;omega⟩
  ·have:j=2:=by simp at g;omega
   subst this;simp at j3;rw[<-j3];exact⟨F',q1,q2,q3⟩
theorem Yq (h:cT b w F x) {i k:Nat} (hi:i<x.2.length) (hk:k<=x.2[i].length) {K:World->Prop} (hK:∀w',aa (cT b) w w' F (x.1,x.2.set i (x.2[i].drop k))->K w') :
  aA Tryz.prog pJ yn (C6 (some ⟨b,0,none⟩) (i:Int) (k:Int)) w (D4 fun e w'=>e=Z (.tuple #[])/\K w'):=by
 refine aA.mk ?_;rw[agP];intro w1 z1 z2 z3 z4;have hS:=af.same no z1 z2 z3 z4;have h:cT b w1 F x:=Frame.kp.ae h hS (fun _ _ h=>h);obtain⟨b2,F1,G,a,c0,p,c,h1,hR,hd,ht,hp⟩:=h.row hi;obtain⟨F2,hA⟩:=hR.open hi;have h4:x.2[i].length<=4:=h.2 _ (List.getElem_mem hi);have hb:=(hA.ls.behind hk);obtain⟨F3,hb1,_,_⟩:=hb;have hc:=Ru hb1.cells (by simp;omega) (fun e=>hb1.zero e);simp only[List.length_drop]at hc;refine⟨_,rfl,_,_,_,hA.js.cell rfl,_,rfl,_,_,_,hA.js.cell rfl,⟨by omega,by omega⟩,a,rfl,_,_,_,hA.bD,⟨by omega,by omega⟩,⟨hc.mono ?_⟩⟩;rintro e w2 ⟨p',c',rfl,hL⟩;refine⟨_,_,_,rfl,(hA.ai _ hL.U.nn).cell rfl,⟨by omega,by omega⟩,a,rfl,?_⟩;have hput:=hA.put _ _ _ _ (Ls.fresh hL) (fun w'=>Ending.returned (.tuple #[])=Z (.tuple #[])/\K w') (fun w3 h3=>⟨rfl,hK _ ?_⟩)
 ·rw[List.length_drop]at hput;exact hput
 ·have:=hp _ _ (qx h.2 i (by simp;omega)) h3;exact aa.lP h hS.nn (fun _ h=>.inl h) this
theorem LN (h:cT b w F x) {i k:Nat} (hi:i<x.2.length) (hk:k<=x.2[i].length):Cx 258 #[pt b,I (i:Int),I (k:Int)] w fun e w'=>e=Z (.tuple #[])/\aa (cT b) w w' F (gives x.1 (x.2[i].take k),x.2.set i (x.2[i].drop k)):=by
 refine akC ?_;rw[t258];have h4:x.2[i].length<=4:=h.2 _ (List.getElem_mem hi);obtain⟨b2,F1,G,a,c0,p,c,h1,hR,hd,ht,hp⟩:=h.row hi;obtain⟨F2,hA⟩:=hR.open hi;have hroom:=hA.ls.room;refine⟨_,rfl,_,_,_,hA.js.cell rfl,⟨by omega,by omega⟩,a,rfl,_,_,_,hA.bD,⟨by omega,by omega⟩,?_⟩
 refine⟨bA bf (M:=pJ) (σ:=Nat) (fun j=>C7 (some ⟨b,0,none⟩) (i:Int) (k:Int) (dO p c 0 1) (Int.toNat (k:Int)-0) (c-0) ((Int.toNat (k:Int)-0:Nat):Int) (j:Int))
  (fun j w'=>j<=k/\aa (dD b2) w w' F1 (gives x.1 (x.2[i].take j))) (fun j _=>k-j) 0 ⟨rfl,rfl,rfl,rfl,rfl,rfl,trivial⟩ ⟨by omega,aa.same h1⟩ ?_⟩
 rintro j w1 ⟨j1,F1',q1,q2,q3⟩;rw[agQ];refine⟨fun g=>?_,fun g=>?_⟩
 ·have hj:j<k:=by simp at g;omega
  have hj':j<x.2[i].length:=by omega
  obtain⟨F3,hA'⟩:=(hR.ae q2 hd).open hi;obtain⟨a',ha',hc'⟩:=hA'.cells.bC hj';refine⟨⟨by omega,by simp;omega⟩,a',by rw[Xf];exact ha',_,hc',_,rfl,_,hA'.js.cell rfl,⟨(abr q1 _).mono ?_⟩⟩;rintro e w2 ⟨rfl,hU⟩;refine⟨_,rfl,j+1,⟨rfl,rfl,rfl,rfl,rfl,by rw[aD (by omega)];rfl,trivial⟩,⟨by omega,?_⟩,by omega⟩;rw[abx _ hj'];exact aa.lP q1 q2 q3 hU
 ·have:j=k:=by simp at g;omega
  subst this;obtain⟨F',r1,r2,r3⟩:=ht _ _ (abv _ _) ⟨F1',q1,q2,q3⟩;exact Yq r1 hi hk fun w' hT=>aa.lP r1 r2 r3 hT
theorem abU {p:Option Addr} {l:List Int} {c:Nat} {bx:Addr} {v:Int} (hb:w.cell? bx=some (I v)) (hC:Cells w p (l.map (Value.int .i64))) (hl:l.length<=4) :
  Cx 329 #[.slice p l.length c,.pointer (some bx)] w fun e w'=>e=Z (.bool (decide (v∈l)))/\w'=w:=by
 refine alv ?_;rw[t329];refine⟨_,hb,⟨(Rz hC (by omega) v).mono ?_⟩⟩;rintro e w' ⟨rfl,rfl⟩;exact⟨_,rfl,rfl,rfl⟩
theorem ab2 {p:Option Addr} {L:List (List Int)} {c:Nat} {bx:Addr} {v:Int} (hb:w.cell? bx=some (I v)) (hL:BF w p L) (hl:L.length<=maxLen) :
  Cx 381 #[.slice p L.length c,.func (.func 329) #[] #[.pointer (some bx)]] w fun e w'=>(∃n:Int,e=Z (I n)/\decide (n>=0)=oU L v)/\w'=w:=by
 refine al6 ?_;rw[t381];refine⟨bA bf (M:=u0) (σ:=Nat) (fun j=>Si p L.length c bx (L.length:Int) (j:Int)) (fun j w'=>j<=L.length/\oU (L.take j) v=false/\w'=w) (fun j _=>L.length-j) 0 ⟨rfl,rfl,rfl,rfl,trivial⟩ ⟨by omega,rfl,rfl⟩ ?_⟩;rintro j w1 ⟨j1,j2,rfl⟩;rw[ahc];refine⟨fun g=>?_,fun g=>?_⟩
 ·have hj:j<L.length:=by simp at g;omega
  obtain⟨a,q,d,ha,hc,hC,h4⟩:=hL j hj;refine⟨⟨by omega,by omega⟩,a,ha,_,_,_,hc,⟨(abU hb hC h4).mono ?_⟩⟩;rintro e w2 ⟨rfl,rfl⟩;refine⟨_,rfl,fun g1=>⟨⟨_,rfl,?_⟩,rfl⟩,fun g1=>⟨j+1,⟨rfl,rfl,rfl,by rw[aD (by unfold maxLen at *;omega)];rfl,trivial⟩,⟨by omega,?_,rfl⟩,by omega⟩⟩
  ·have:oU L v=true:=by
    unfold oU;rw[List.any_eq_true];exact⟨_,List.getElem_mem hj,g1⟩
   rw[this];simp
  ·rw[List.take_succ_eq_append_getElem hj];unfold oU at j2⊢;rw[List.any_append,j2];simpa using g1
 ·have:j=L.length:=by simp at g;omega
  subst this;rw[List.take_length]at j2;exact⟨⟨_,rfl,by rw[j2];rfl⟩,rfl⟩
theorem Zz {p:Option Addr} {L:List (List Int)} {c:Nat} {bx:Addr} {v:Int} (hb:w.cell? bx=some (I v)) (hL:BF w p L) (hl:L.length<=maxLen) :
  Cx 328 #[.slice p L.length c,.func (.func 329) #[] #[.pointer (some bx)]] w fun e w'=>e=Z (.bool (oU L v))/\w'=w:=by
 refine alu ?_;rw[t328];refine⟨(ab2 hb hL hl).mono ?_⟩;rintro e w' ⟨⟨n,rfl,hn⟩,rfl⟩;exact⟨_,rfl,by rw[hn],rfl⟩
theorem afN (h:cT b w F x) (v:Int):Cx 257 #[pt b,I v] w fun e w'=>e=Z (.bool (iO x v))/\af no w w':=by
 refine akB ?_;rw[t257];refine⟨fun w1 hN w2 z1 z2 z3 z4=>⟨fun _=>?_,fun g=>by simp at g⟩⟩;have hS:=af.same no z1 z2 z3 z4;have hU:=(hN.ae no).and hS
 have hbx:w2.cell? ⟨w.heap.size,0,none⟩=some (I v):=by
  have:=hN.aF.ae (F:=no) hS (fun h=>h);have:=this.cell (k:=0) (v:=I v) rfl;simpa [Addr.add]using this
 replace h:cT b w2 F x:=Frame.kp.ae h hU (fun _ _ h=>h);obtain⟨b2,F1,h1,⟨p,c,hB⟩,_⟩:=h.ptr;refine⟨_,rfl,_,hB.cell rfl,_,hbx,⟨(V3 h1 v).mono ?_⟩⟩;rintro e w3 ⟨rfl,hU3⟩;refine⟨_,rfl,fun g=>?_,fun g=>⟨?_,hU.and hU3⟩⟩
 ·replace h:cT b w3 F x:=Frame.kp.ae h hU3 (fun _ _ h=>h);obtain⟨b2,F1,h1,hlen,p,c,hB,hR⟩:=h.rows;have hbx3:w3.cell? ⟨w.heap.size,0,none⟩=some (I v):=by rw[<-hbx];exact World.cell?_of_block (hU3.ai _ (ou hbx) (fun h=>h))
  refine⟨_,rfl,_,_,_,hB.cell rfl,⟨(Zz hbx3 hR hlen).mono ?_⟩⟩;rintro e w4 ⟨rfl,rfl⟩;refine⟨_,rfl,?_,hU.and hU3⟩;simp[iO,g]
 ·simp[iO,g]
theorem R0 (h:cT b w F x) (ab:Int):Cx 355 #[pt b,I ab] w fun e w'=>e=Z (.tuple #[I (zf x ab).1,I (zf x ab).2])/\aa (cT b) w w' F (gr x ab):=by
 refine alL ?_;rw[t355];refine⟨(FA h ab).mono ?_⟩;rintro e w1 ⟨rfl,rfl⟩;refine⟨_,rfl,fun g=>?_,fun g=>?_⟩
 ·have hn:¬fj x ab:=fun h=>by rw[if_pos h]at g;simp at g
  rw[zf,gr,if_neg hn,if_neg hn,if_neg hn];exact⟨rfl,aa.same h⟩
 ·have hc:fj x ab:=Classical.byContradiction fun h=>by rw[if_neg h]at g;simp at g
  rw[zf,gr,if_pos hc,if_pos hc];obtain⟨i,hi,rfl⟩:=tn hc;obtain⟨b2,F1,G,a,c0,p,c,h1,hR,hd,ht,hp⟩:=h.row hi;obtain⟨F2,hA⟩:=hR.open hi;rw[tX hi];refine⟨_,rfl,_,_,_,hA.js.cell rfl,⟨by omega,by omega⟩,a,rfl,_,_,_,hA.bD,⟨(LN h hi (Nat.le_refl _)).mono ?_⟩⟩;rintro e w2 ⟨rfl,hT⟩;rw[List.take_length,List.drop_length]at hT;exact⟨rfl,rfl,hT⟩
theorem aaW (pg:List Nat) {l:List Int} (h:l.length<=4):(jT (pg,l)).2.length<=4:=by
 unfold jT;split
 ·rename_i h;simp only at h;subst h;have h1:∀s:List Nat×List Int,(gA s).2.length<=s.2.length+1:=fun s=>by unfold gA;split<;>simp
  have a:=h1 (pg,[]);have b:=h1 (gA (pg,[]));simp only[List.length_nil]at a;omega
 ·exact h
theorem afC (h:cT b w F x) (ab:Int):Cx 155 #[pt b,I ab] w fun e w'=>e=Z (.tuple #[I (sg x ab).1,I (sg x ab).2])/\aa (cT b) w w' F (ni x ab):=by
 refine ajd ?_;rw[t155];refine⟨(FA h ab).mono ?_⟩;rintro e w1 ⟨rfl,rfl⟩;refine⟨_,rfl,fun g=>?_,fun g=>?_⟩
 ·have hn:¬fj x ab:=fun h=>by rw[if_pos h]at g;simp at g
  rw[sg,ni,if_neg hn,if_neg hn,if_neg hn];exact⟨rfl,aa.same h⟩
 ·have hc:fj x ab:=Classical.byContradiction fun h=>by rw[if_neg h]at g;simp at g
  rw[sg,ni,if_pos hc,if_pos hc];obtain⟨i,hi,rfl⟩:=tn hc;rw[tX hi];have h4:=aaW x.1 (h.2 _ (List.getElem_mem hi));generalize hs:jT (x.1,x.2[i])=s at h4;refine⟨(aaX h hi).mono ?_⟩;rw[hs];rintro e w2 ⟨rfl,F',q1,q2,q3⟩;have hi2:i<(x.2.set i s.2).length:=by simpa using hi
  obtain⟨b2,F1,G,a,c0,p,c,h1,hR,hd,ht,hp⟩:=q1.row hi2;obtain⟨F2,hA⟩:=hR.open hi2;have hlx:(x.2.set i s.2)[i]=s.2:=by simp
  have hAc:=hA.bD;rw[hlx]at hAc;refine⟨rfl,_,rfl,_,_,_,hA.js.cell rfl,⟨by omega,by simp only[List.length_set];omega⟩,a,rfl,_,_,_,hAc,fun g1=>?_,fun g1=>?_⟩
  ·have he:s.2=[]:=by
    apply List.eq_nil_of_length_eq_zero;rw[aD (by omega)]at g1;simp at g1;omega
   simp only[Int.toNat_natCast];rw[he]at q1⊢;exact⟨rfl,F',q1,q2,q3⟩
  ·have hpos:0<s.2.length:=by
    rw[aD (by omega)]at g1;simp at g1;omega
   have e1:IntKind.wrap .i64 ((s.2.length:Int)-1)=((s.2.length-1:Nat):Int):=by rw[aD (by omega)];omega
   rw[e1];have hC:=hA.cells;rw[hlx]at hC;obtain⟨a',ha',hc'⟩:=hC.bC (i:=s.2.length-1) (by omega);refine⟨_,rfl,_,_,_,hA.js.cell rfl,⟨by omega,by simp only[List.length_set];omega⟩,a,rfl,_,_,_,hAc,⟨by omega,by omega⟩,a',ha',_,hc',fun w3 z1 z2 z3 z4=>?_⟩;have hS:=af.same no z1 z2 z3 z4;have q1':cT b w3 F' (s.1,x.2.set i s.2):=Frame.kp.ae q1 hS (fun _ _ h=>h);obtain⟨b2,F1,G,a,c0,p,c,h1,hR,hd,ht,hp⟩:=q1'.row hi2;obtain⟨F2,hA⟩:=hR.open hi2;have hAc:=hA.bD;rw[hlx]at hAc;have hroom:=hA.ls.room;rw[hlx]at hroom;refine⟨_,rfl,_,_,_,hA.js.cell rfl,_,rfl,_,_,_,hA.js.cell rfl,⟨by omega,by simp only[List.length_set];omega⟩,a,rfl,_,_,_,hAc,⟨by omega,by omega⟩,⟨by omega,by omega⟩,⟨by omega,by simp only[List.length_set];omega⟩,a,rfl,?_⟩;have hls:=hA.ls;rw[hlx]at hls;have hT:=hls.first (k:=s.2.length-1) (by omega);rw[<-List.dropLast_eq_take]at hT;have hl:s.2.getLast?=some s.2[s.2.length-1]:=by rw[List.getLast?_eq_getElem?];simp[hpos]
   have hput:=hA.put _ _ _ _ hT (fun w'=>Ending.returned (.tuple #[I s.2[s.2.length-1],I 0])=Z (.tuple #[I (Ad s.2).1,I (Ad s.2).2])/\aa (cT b) w1 w' F (s.1,x.2.set i s.2.dropLast)) (fun w4 h5=>⟨by simp[Ad,hl],?_⟩)
   ·rw[List.length_dropLast]at hput;simp only[Int.toNat_natCast];exact hput
   ·have h6:=hp _ _ (qx q1'.2 i (by simp;omega)) h5;rw[List.set_set]at h6;exact aa.lP q1 q2 q3 (aa.lP q1' hS.nn (fun _ h=>.inl h) h6)
theorem WX (h:cT b w F x) {i:Nat} (hi:i<x.2.length) (hl:x.2[i].length<=3) (v:Int) {K:World->Prop} (hK:∀w',aa (cT b) w w' F (x.1,x.2.set i (x.2[i]++[v]))->K w') :
  aA Tryz.prog rW xR (zk (some ⟨b,0,none⟩) (i:Int) v) w (zT fun e w'=>e=Z (I 0)/\K w'):=by
 refine aA.mk ?_;rw[agu];intro w1 z1 z2 z3 z4;have hS:=af.same no z1 z2 z3 z4;have h:cT b w1 F x:=Frame.kp.ae h hS (fun _ _ h=>h);obtain⟨b2,F1,G,a,c0,p,c,h1,hR,hd,ht,hp⟩:=h.row hi;obtain⟨F2,hA⟩:=hR.open hi;refine⟨_,rfl,_,_,_,hA.js.cell rfl,_,rfl,_,_,_,hA.js.cell rfl,⟨by omega,by omega⟩,a,rfl,_,_,_,hA.bD,⟨fun w4 hN=>?_⟩⟩;have hN':af F2 w1 w4:=(hN.ae no).nn;obtain⟨p',c',w5,hr,hT⟩:=Ls.push kz hA.ls (by omega) hN 36;obtain⟨_,_,hU5,_⟩:=id hT;refine⟨hA.cell _ hN',(hA.ai _ hN').cell rfl,(hA.ai _ hN').cell rfl,p',_,c',w5,hr,(hA.ai _ hU5).cell rfl,⟨by omega,by omega⟩,a,rfl,?_⟩;refine hA.put _ _ _ _ hT _ fun w6 h6=>⟨rfl,hK _ ?_⟩;exact aa.lP h hS.nn (fun _ h=>.inl h) (hp _ _ (qx h.2 i (by simp;omega)) h6)
theorem afM (h:cT b w F x) (ab v:Int):Cx 156 #[pt b,I ab,I v] w fun e w'=>e=Z (I (uh x ab v))/\aa (cT b) w w' F (mR x ab v):=by
 refine aje ?_;rw[t156];refine⟨(FA h ab).mono ?_⟩;rintro e w1 ⟨rfl,rfl⟩;refine⟨_,rfl,fun g=>?_,fun g=>?_⟩
 ·have hn:¬fj x ab:=fun h=>by rw[if_pos h]at g;simp at g
  rw[uh,mR,if_neg hn,if_neg hn,if_neg (fun h=>hn h.1)];exact⟨rfl,aa.same h⟩
 ·have hc:fj x ab:=Classical.byContradiction fun h=>by rw[if_neg h]at g;simp at g
  refine⟨(afN h v).mono ?_⟩;rintro e w2 ⟨rfl,hU⟩;have h2:cT b w2 F x:=Frame.kp.ae h hU (fun _ _ h=>h);refine⟨_,rfl,fun g1=>?_,fun g1=>?_⟩
  ·have g1:¬iO x v=true:=by simpa using g1
   rw[uh,mR,if_pos hc,if_neg g1,if_neg (fun h=>g1 h.2)];exact⟨rfl,F,h2,hU.nn,fun _ h=>.inl h⟩
  ·have g1:iO x v=true:=by simpa using g1
   rw[uh,mR,if_pos hc,if_pos g1,if_pos ⟨hc,g1⟩];obtain⟨i,hi,rfl⟩:=tn hc;obtain⟨b2,F1,G,a,c0,p,c,h1,hR,hd,ht,hp⟩:=h2.row hi;obtain⟨F2,hA⟩:=hR.open hi;have h4:x.2[i].length<=4:=h.2 _ (List.getElem_mem hi);rw[tX hi];refine⟨_,rfl,_,_,_,hA.js.cell rfl,⟨by omega,by omega⟩,a,rfl,_,_,_,hA.bD,fun g2=>?_,fun g2=>?_⟩
   ·have g2:4<=x.2[i].length:=by simp at g2;omega
    refine⟨(LN h2 hi (k:=2) (by omega)).mono ?_⟩;rintro e w3 ⟨rfl,F',q1,q2,q3⟩;have hb:kt (x.1,x.2[i])=(gives x.1 (x.2[i].take 2),x.2[i].drop 2):=by simp only[kt];rw[if_pos g2]
    rw[hb];refine⟨rfl,WX q1 (by simpa using hi) (by simp;omega) v fun w4 hT=>?_⟩;simp only[List.set_set,List.getElem_set_self]at hT;exact aa.lP h2 hU.nn (fun _ h=>.inl h) (aa.lP (s1:=(gives x.1 (x.2[i].take 2),x.2.set i (x.2[i].drop 2))) q1 q2 q3 hT)
   ·have g2:¬4<=x.2[i].length:=by simp at g2;omega
    have hb:kt (x.1,x.2[i])=(x.1,x.2[i]):=by simp only[kt];rw[if_neg g2]
    rw[hb];exact WX h2 hi (by omega) v fun w4 hT=>aa.lP h2 hU.nn (fun _ h=>.inl h) hT
def qj (m n:Int):Prop:=1<=m/\m<=64/\1<=n/\n<=12
def iU (m n:Int):KS:=(List.replicate n.toNat 0,List.replicate m.toNat [])
theorem aat:dH Tryz.prog 217 36 1 24 [.slice none 0 0]:=⟨by kernel_rfl,by kernel_rfl,rfl,by omega⟩
theorem af3 (m n:Int) (w:World):Cx 48 #[I m,I n] w fun e w'=>
  (¬qj m n/\e=Z (.tuple #[.pointer none,I 2])/\af no w w')∨
  (qj m n/\∃b F,e=Z (.tuple #[pt b,I 0])/\cT b w' F (iU m n)/\af no w w'/\∀i,F i->w.heap.size<=i):=by
 refine u48 ?_;rw[t48];refine⟨(ad4 n w).mono ?_⟩;rintro e w1 (⟨hno,rfl,rfl⟩|⟨hyes,b1,F1,rfl,hQ,hU,hF⟩)
 ·exact⟨_,_,rfl,fun g=>by simp at g,fun _=>.inl ⟨fun h=>hno ⟨h.2.2.1,h.2.2.2⟩,rfl,af.refl _ _⟩⟩
 ·refine⟨_,_,rfl,fun _=>⟨fun g1=>⟨fun g2=>.inl ⟨?_,rfl,hU⟩,fun g2=>?_⟩,fun g1=>.inl ⟨?_,rfl,hU⟩⟩,fun g=>by simp at g⟩
  ·unfold qj;simp at g2;omega
  ·have g1:¬m<1:=by simpa using g1
   have g2:¬64<m:=by simpa using g2
   obtain⟨k,rfl⟩:∃k:Nat,m=k:=⟨m.toNat,by omega⟩;obtain⟨w2,hr,hU2,hL⟩:=WM (f:=fun _:Unit=>Value.slice none 0 0) (x0:=()) aat w1 (n:=k) (by omega) (by omega) .i64 .i64;have hS:=hL.2;simp only[List.length_replicate,List.map_replicate]at hS;refine⟨_,_,_,w2,hr,⟨fun w3 hN=>.inr ⟨⟨by omega,by omega,hyes.1,hyes.2⟩,w2.heap.size,?_⟩⟩⟩;obtain⟨F,q1,q2,q3⟩:=jK.new (PO:=dD) (T:=219) (E:=36) (I:=3) (enc:=FE) hQ hF hU hU2 hS (fun i hi=>(by obtain⟨a,ha,rfl⟩:=hi;cases ha;exact Nat.le_refl _)) hN (by simp only[FE,List.length_replicate];rw[Int.toNat_of_nonneg (by omega)]);exact⟨F,rfl,q1,q2,q3⟩
  ·unfold qj;simp at g1;omega
end
end Go.Dav
namespace Go.Dav
open Go.Proofs
def um (s:BV×BV):List Value:=[.int .u64 (mi s.1),.int .u64 (mi s.2)]
abbrev iI (b:Nat):Ob (BV×BV):=Rw b 132 um
def bc (s:BV×BV):BV:=s.1&&& ~~~ s.2
def lf (s:BV×BV) (m:BV):Int×(BV×BV):=if s.1=0 then(if m=0 then(2,s)else(0,(m,0)))else(7,s)
def iA (s:BV×BV) (c:Int):Int×(BV×BV):=if hs (bc s) c=true then(0,(s.1,wi s.2 c))else(6,s)
def rP (s:BV×BV):Int×(BV×BV):=if s.1=0 then(6,s)else(0,(0,0))
section
variable {w:World} {F:Fp} {b:Nat} {s:BV×BV} {r:Bool×BV×BV}
theorem Av (h:iI b w F s):Cx 388 #[pt b] w fun e w'=>e=Z (.bool (!(s.1==0)))/\w'=w:=by
 refine ama ?_;rw[t388];exact⟨fun _=>⟨_,rfl,_,h.ai.cell rfl,by rw[rD],rfl⟩,fun h=>by simp at h⟩
theorem UX (h:iI b w F s):Cx 292 #[pt b] w fun e w'=>e=Z (.int .u64 (mi (bc s)))/\af no w w':=by
 refine akS ?_;rw[t292];refine⟨fun h=>by simp at h,fun _ w1 q1 q2 q3 q4=>?_⟩;have hU:=af.same no q1 q2 q3 q4;have hB:=h.ai.ae hU id;refine⟨_,rfl,_,hB.cell rfl,_,rfl,_,hB.cell rfl,⟨(adm _ _ w1).mono ?_⟩⟩;rintro e w' ⟨rfl,rfl⟩;exact⟨_,rfl,rfl,hU⟩
theorem Vv (h:iI b w F s) (c:Int):Cx 202 #[pt b,I c] w fun e w'=>e=Z (.bool (hs (bc s) c))/\af no w w':=by
 refine ajI ?_;rw[t202];refine⟨(UX h).mono ?_⟩;rintro e w' ⟨rfl,hU⟩;refine⟨_,rfl,⟨(iR _ _ w').mono ?_⟩⟩;rintro e w' ⟨rfl,rfl⟩;exact⟨_,rfl,rfl,hU⟩
theorem abO (h:iI b w F s) (c:Int):Cx 203 #[pt b,I c] w fun e w'=>e=Z (.bool (hs s.2 c))/\w'=w:=by
 refine ajJ ?_;rw[t203];refine⟨fun _=>⟨_,rfl,_,h.ai.cell rfl,⟨(iR _ _ w).mono ?_⟩⟩,fun h=>by simp at h⟩;rintro e w' ⟨rfl,rfl⟩;exact⟨_,rfl,rfl,rfl⟩
def fB (s:BV×BV):Bool:=!(s.1==0)&&(bc s==0)
theorem ae3 (h:iI b w F s):Cx 390 #[pt b] w fun e w'=>e=Z (.bool (fB s))/\af no w w':=by
 refine amc ?_;rw[t390];refine⟨(Av h).mono ?_⟩;rintro e w' ⟨rfl,rfl⟩;refine⟨_,rfl,fun h1=>⟨(UX h).mono ?_⟩,fun h1=>⟨by rw[fB,h1,Bool.false_and],af.refl _ _⟩⟩;rintro e w' ⟨rfl,hU⟩;exact⟨_,rfl,by rw[jA,fB,h1,Bool.true_and],hU⟩
theorem YC (h:iI b w F s) (m:BV):Cx 389 #[pt b,.int .u64 (mi m)] w fun e w'=>e=Z (I (lf s m).1)/\aa (iI b) w w' F (lf s m).2:=by
 refine amb ?_;rw[t389];refine⟨fun h=>by simp at h,fun _=>⟨(Av h).mono ?_⟩⟩;rintro e w' ⟨rfl,rfl⟩;refine⟨_,rfl,fun h1=>?_,fun h1=>⟨fun h2=>?_,fun h2=>?_⟩⟩
 ·have h1:s.1≠0:=by simpa using h1
  simp only[lf,if_neg h1];exact⟨trivial,aa.same h⟩
 ·have h1:s.1=0:=by simpa using h1
  have h2:m=0:=by rw[jA]at h2;simpa using h2
  simp only[lf,if_pos h1,if_pos h2];exact⟨trivial,aa.same h⟩
 ·have h1:s.1=0:=by simpa using h1
  have h2:m≠0:=by rw[jA]at h2;simpa using h2
  simp only[lf,if_pos h1,if_neg h2];exact⟨_,rfl,h.ai.wr (by simp[um]) fun w1 k1=>⟨_,rfl,k1.aF.wr (by simp[um,aI]) fun w2 k2=>⟨trivial,h.dZ (k1.U.and k2.U) k2.aF⟩⟩⟩
theorem X7 (h:iI b w F s) (c:Int):Cx 118 #[pt b,I c] w fun e w'=>e=Z (I (iA s c).1)/\aa (iI b) w w' F (iA s c).2:=by
 refine aiA ?_;rw[t118];refine⟨fun h=>by simp at h,fun _=>⟨(Vv h c).mono ?_⟩⟩;rintro e w' ⟨rfl,hU⟩;refine⟨_,rfl,fun h1=>?_,fun h1=>?_⟩
 ·have h1:¬hs (bc s) c=true:=by simpa using h1
  simp only[iA,if_neg h1];exact⟨trivial,aa.quiet h hU⟩
 ·have h1:hs (bc s) c=true:=by simpa using h1
  simp only[iA,if_pos h1];have hB:=h.ai.ae hU id;refine⟨_,rfl,_,hB.cell rfl,⟨fun w1 hN=>⟨(oZ s.2 (l:=[c]) (Sl.new (n:=1) (sz:=1) hN (by simp) (by unfold maxLen;omega)).cells (by simp)).mono ?_⟩⟩⟩;rintro e w2 ⟨rfl,rfl⟩;exact⟨_,rfl,_,rfl,(hN.keep hB).wr (by simp[um]) fun w3 k=>⟨trivial,h.dZ (((hU.mono fun _ _ h=>h.elim).trans (hN.ae no) fun _ _ h=>h.elim).and k.U) k.aF⟩⟩
theorem abf (h:iI b w F s):Cx 391 #[pt b] w fun e w'=>e=Z (I (rP s).1)/\aa (iI b) w w' F (rP s).2:=by
 refine amd ?_;rw[t391];refine⟨fun h=>by simp at h,fun _=>⟨(Av h).mono ?_⟩⟩;rintro e w' ⟨rfl,rfl⟩;refine⟨_,rfl,fun h1=>?_,fun h1=>?_⟩
 ·have h1:s.1=0:=by simpa using h1
  simp only[rP,if_pos h1];exact⟨trivial,aa.same h⟩
 ·have h1:s.1≠0:=by simpa using h1
  simp only[rP,if_neg h1];exact⟨_,rfl,h.ai.wr (by simp[um]) fun w1 k1=>⟨_,rfl,k1.aF.wr (by simp[um,aI]) fun w2 k2=>⟨trivial,h.dZ (k1.U.and k2.U) k2.aF⟩⟩⟩
end
end Go.Dav
namespace Go.Dav
section
variable {α:Type} {f:α->List Value} {sz:Nat} {W w w':World} {T:TypeId} {p:Option Addr} {c:Nat} {l:List α}
end
section
variable {α:Type} {f:α->List Value} {sz:Nat} {W w w':World} {T:TypeId} {p:Option Addr} {c:Nat} {l:List α} {F:Fp}
end
def AX:Value->Value->Bool
 | .int _ a,.int _ b=>a==b
 | .bool a,.bool b=>a==b
 | _,_=>false
def afD:Value->Value->Bool
 | .int k _,.int k' _=>decide (k=k')
 | .bool _,.bool _=>true
 | _,_=>false
def sY:List Value->List Value->Bool
 | a::az,b::bs=>AX a b&&sY az bs
 | _,_=>true
def wX:List Value->List Value->Bool
 | a::az,b::bs=>afD a b&&wX az bs
 | [],[]=>true
 | _,_=>false
def vW (P:Program):List Field->Nat->List Value->Bool
 | [],_,[]=>true
 | f::fs,i,v::vs=>(f.name !="_")&&cF P f.type&&!ij P f.type&&(f.offset==i)&&(match P.underlying f.type,v with
   | some (.int _),.int _ _=>true
   | some .bool,.bool _=>true
   | _,_=>false)&&vW P fs (i+1) vs
 | _,_,_=>false
theorem Sv {P:Program} (d:Nat) {w:World} {xs ys:Array Value}:∀{fs:List Field} {i:Nat} {us vs:List Value},vW P fs i us=true->wX us vs=true->xs.toList.drop i=us->ys.toList.drop i=vs->
  (Op.eqFields (d+1) xs ys fs).run P w=.ok (sY us vs) w
 | [],i,us,vs,hf,hs,hx,hy=>by
  cases us with
  | nil=>cases vs with
   | nil=>simp[Op.eqFields,sY]
   | cons _ _=>cases hs
  | cons _ _=>cases hf
 | f::fs,i,us,vs,hf,hs,hx,hy=>by
  cases us with
  | nil=>cases hf
  | cons a us=>
   cases vs with
   | nil=>cases hs
   | cons b vs=>
    simp only[vW,Bool.and_eq_true,Bool.not_eq_true']at hf;obtain⟨⟨⟨⟨⟨h1,h2⟩,h3⟩,h4⟩,h5⟩,h6⟩:=hf;simp only[wX,Bool.and_eq_true]at hs;have h4:=eq_of_beq h4
    have ha:xs.toList[f.offset]?=some a:=by
     have:=congrArg (fun l=>l[0]?) hx;simp only[List.getElem?_drop,List.getElem?_cons_zero]at this;rw[h4];simpa using this
    have hb:ys.toList[f.offset]?=some b:=by
     have:=congrArg (fun l=>l[0]?) hy;simp only[List.getElem?_drop,List.getElem?_cons_zero]at this;rw[h4];simpa using this
    have hq:(Op.equalIn (d+1) f.type a b).run P w=.ok (AX a b) w:=by
     cases hu:P.underlying f.type with
     | none=>rw[hu]at h5;cases h5
     | some ty=>
      rw[hu]at h5
      cases a with
      | int k x=>
       cases b with
       | int k' y=>
        have hk:k=k':=of_decide_eq_true hs.1;subst hk
        cases ty with
        | int q=>exact run_equalIn_int w d f.type k q x y hu
        | _=>cases h5
       | _=>cases hs.1
      | bool x=>
       cases b with
       | bool y=>
        cases ty with
        | bool=>exact run_equalIn_bool' w d f.type x y hu
        | _=>cases h5
       | _=>cases hs.1
      | _=>cases ty<;>cases h5
    have ih:=Sv d (w:=w) (xs:=xs) (ys:=ys) (fs:=fs) (i:=i+1) h6 hs.2 (by rw[<-List.drop_drop,hx];rfl) (by rw[<-List.drop_drop,hy];rfl);have hne:f.name≠"_":=by simpa using h1
    simp only[Op.eqFields,hne,ne_eq,not_false_eq_true,if_true,Sem.run_bind,AS h2 h3 ha,AS h2 h3 hb,hq,Result.andThen_ok,sY];cases hsc:AX a b
    ·simp
    ·simp[ih]
def isStr (P:Program) (t:TypeId):Bool:=match P.underlying t with
 | some (.struct _)=>true
 | _=>false
theorem aft {P:Program} {t:TypeId} (us:List Value) (hp:P.stoodInHeld t=false) (hf:vW P (P.fieldsOf t).toList 0 us=true) (hs:isStr P t=true) {vs:List Value} (hv:wX us vs=true) (w:World) :
  (Op.equal t (.agg us.toArray) (.agg vs.toArray)).run P w=.ok (sY us vs) w:=by
 have hu:P.underlying t=some (.struct (P.fieldsOf t)):=by
  unfold Program.fieldsOf;unfold isStr at hs;split at hs
  ·rename_i fs h;rw[h]
  ·cases hs
 show(Op.equalIn (9999+1) t _ _).run P w=_;rw[run_equalIn_struct w 9999 t _ _ hu hp];exact Sv 9998 hf hv (by simp) (by simp)
end Go.Dav
namespace Go.Dav
open Go.Proofs
abbrev Gv:=Int×BV×Int×Bool
def fO (want active:BV) (near:Int):Int×Bool×Int:=
 if active=0 then(0,false,12)else
  if hs (if want&&& active=0 then active else want&&& active) near then(near,want&&& active==0,0)else((jB (if want&&& active=0 then active else want&&& active) near).1,want&&& active==0,0)
def Bz (active:BV) (x:Gv):Bool:=!hs active x.2.2.1||(!hs x.2.1 x.2.2.1&&!(x.2.1&&& active==0))||(x.2.2.2==hs x.2.1 x.2.2.1)
theorem VK {m:BV} (h:m≠0) (c:Int):(jB m c).2=0/\hs m (jB m c).1=true:=by
 unfold jB
 cases hf:(cs m).find? (fun d=>decide (d>c))with
 | some d=>exact⟨rfl,wz.1 (List.mem_of_find?_eq_some hf)⟩
 | none=>simp only[DI h];exact⟨trivial,Gc h⟩
theorem SP {want active:BV} (h:active≠0):(if want&&& active=0 then active else want&&& active)≠0:=by split<;>assumption
theorem Rq {w:World} (hT:Tab w) (want active:BV) (near:Int):Cx 233 #[.int .u64 (mi want),.int .u64 (mi active),I near] w fun e w'=>e=Z (.tuple #[I (fO want active near).1,.bool (fO want active near).2.1,I (fO want active near).2.2])/\w'=w:=by
 refine akd ?_;rw[t233,jA];refine⟨fun g=>?_,fun g=>⟨(Aj want active w).mono ?_⟩⟩
 ·have g:active=0:=by simpa using g
  exact⟨by simp only[fO,g,if_true],rfl⟩
 ·have g:active≠0:=by simpa using g
  rintro e w1 ⟨rfl,rfl⟩
  have go:∀fr:BV,fr=(if want&&& active=0 then active else want&&& active)->aA Tryz.prog rZ yk (zo near (mi fr) (want&&& active==0)) w1 (zY fun e w'=>e=Z (.tuple #[I (fO want active near).1,.bool (fO want active near).2.1,I (fO want active near).2.2])/\w'=w1):=by
   intro fr hfr;refine aA.mk ?_;rw[agN];have hne:fr≠0:=hfr ▸ SP g;unfold fO;rw[if_neg g,<-hfr];refine⟨(iR fr near w1).mono ?_⟩;rintro e w2 ⟨rfl,rfl⟩;refine⟨_,rfl,fun g2=>?_,fun g2=>⟨(adl fr near hT).mono ?_⟩⟩
   ·rw[if_pos g2];exact⟨rfl,rfl⟩
   ·rintro e w3 ⟨rfl,rfl⟩;rw[if_neg (by rw[g2];decide)];exact⟨_,_,rfl,by rw[(VK hne near).1],rfl⟩
  refine⟨_,rfl,fun g2=>?_,fun g2=>?_⟩
  ·have g2':(want&&& active==0)=true:=by rw[jA]at g2;exact g2
   rw[jA];exact go active (by rw[if_pos (eq_of_beq g2')])
  ·have g2':(want&&& active==0)=false:=by rw[jA]at g2;exact g2
   rw[jA];exact go _ (by rw[if_neg (ne_of_beq_false g2')])
theorem XV (active:BV) (x:Gv) (w:World):Cx 239 #[.int .u64 (mi active),.agg #[I x.1,.int .u64 (mi x.2.1),I x.2.2.1,.bool x.2.2.2]] w fun e w'=>e=Z (.bool (Bz active x))/\af no w w':=by
 refine akj ?_;rw[t239];refine⟨fun w1 hN=>?_⟩;have hB:=hN.aF;have hU:=hN.ae no;unfold Bz;refine⟨_,hB.cell rfl,_,hB.cell rfl,⟨(iR _ _ _).mono ?_⟩⟩;rintro e w2 ⟨rfl,rfl⟩;refine⟨_,rfl,_,hB.cell rfl,⟨(iR _ _ _).mono ?_⟩⟩;rintro e w3 ⟨rfl,rfl⟩;refine⟨_,rfl,fun g=>⟨by rw[g];rfl,hU⟩,fun g=>⟨fun g2=>⟨_,hB.cell rfl,⟨(Aj _ _ _).mono ?_⟩⟩,fun g2=>⟨_,hB.cell rfl,by rw[g,g2];rfl,hU⟩⟩⟩;rintro e w4 ⟨rfl,rfl⟩;refine⟨_,rfl,?_⟩;rw[rD];refine⟨fun g3=>⟨by rw[g,g2,g3];rfl,hU⟩,fun g3=>⟨_,hB.cell rfl,by rw[g,g2,g3];rfl,hU⟩⟩
end Go.Dav
namespace Go.Dav
def j4 (g:Int->Int) (a b:Int):Bool:=decide (g a<g b)||(decide (g a=g b)&&decide (a<b))
def rB (g:Int->Int) (x:Int):List Int->List Int
 | []=>[x]
 | y::l=>if j4 g x y then x::y::l else y::rB g x l
def dN (g:Int->Int):List Int->List Int
 | []=>[]
 | x::l=>rB g x (dN g l)
theorem D1 (g:Int->Int) (x:Int):∀l,(rB g x l).Perm (x::l)
 | []=>.refl _
 | y::l=>by
  unfold rB;split
  ·exact .refl _
  ·exact((D1 g x l).cons y).trans (.swap x y l)
theorem gX (g:Int->Int):∀l,(dN g l).Perm l
 | []=>.refl _
 | x::l=>(D1 g x _).trans ((gX g l).cons x)
theorem Af {g:Int->Int} {a b:Int}:j4 g a b=true↔g a<g b∨(g a=g b/\a<b):=by simp[j4]
theorem mD {g:Int->Int} {a b:Int}:j4 g a b=false↔g b<g a∨(g b=g a/\b<=a):=by
 have:=@Af g a b
 cases h:j4 g a b with
 | true=>rw[h]at this;have:=this.1 rfl;simp;omega
 | false=>simp[h]at this;simp;omega
theorem Tx (g:Int->Int) (x:Int):∀l,l.Pairwise (fun a b=>j4 g b a=false)->(rB g x l).Pairwise (fun a b=>j4 g b a=false)
 | [],_=>by simp[rB]
 | y::l,h=>by
  unfold rB;have h1:=List.pairwise_cons.1 h;split
  ·rename_i hx;refine List.pairwise_cons.2 ⟨fun z hz=>?_,h⟩;rcases List.mem_cons.1 hz with rfl|hz
   ·have:=Af.1 hx;rw[mD];omega
   ·have e1:=Af.1 hx;have e2:=mD.1 (h1.1 z hz);rw[mD];omega
  ·rename_i hx;have hx:j4 g x y=false:=by simpa using hx
   refine List.pairwise_cons.2 ⟨fun z hz=>?_,Tx g x l h1.2⟩;rcases List.mem_cons.1 ((D1 g x l).mem_iff.1 hz)with rfl|hz
   ·exact hx
   ·exact h1.1 z hz
theorem uj (g:Int->Int):∀l,(dN g l).Pairwise (fun a b=>j4 g b a=false)
 | []=>.nil
 | x::l=>Tx g x _ (uj g l)
theorem W9 {g:Int->Int} {l m:List Int} (h:l.Perm m) (h1:l.Pairwise (fun a b=>j4 g b a=false)) (h2:m.Pairwise (fun a b=>j4 g b a=false)):l=m:=
 List.Perm.eq_of_pairwise (fun a b _ _ e1 e2=>by rw[mD]at e1 e2;omega) h1 h2 h
theorem af5 {g:Int->Int} {l m:List Int} (h:l.Perm m):dN g l=dN g m:=
 W9 (((gX g l).trans h).trans (gX g m).symm) (uj g l) (uj g m)
theorem W7 {g:Int->Int} {l m:List Int} (h:m.Perm l) (h2:m.Pairwise (fun a b=>j4 g b a=false)):m=dN g l:=
 W9 (h.trans (gX g l).symm) h2 (uj g l)
theorem af4 {g g':Int->Int}:∀{l:List Int},(∀a∈l,g a=g' a)->dN g l=dN g' l:=by
 intro l h;refine W7 ((gX g l)) ((uj g l).imp_of_mem ?_);intro a b ha hb e;rw[mD]at e⊢;rw[<-h a ((gX g l).mem_iff.1 ha),<-h b ((gX g l).mem_iff.1 hb)];exact e
end Go.Dav
namespace Go.Dav
def aP (a d:Int):Int×Int:=if(0<=a/\a<=1152921504606846976)/\(0<=d/\d<=1073741824)then(if a<=1152921504606846976-d then(a+d,0)else(0,16))else(0,2)
def dL (n:Int):Prop:=-9223372036854775808<=n/\n<=9223372036854775807
instance (n:Int):Decidable (dL n):=inferInstanceAs (Decidable (_/\_))
def kl (a b:Int):Int×Int:=if dL (a+b)then(a+b,0)else(0,16)
def eV (s:List Int) (c:Int):Prop:=0<=c/\c<s.length
instance (s:List Int) (c:Int):Decidable (eV s c):=inferInstanceAs (Decidable (_/\_))
def kJ (s:List Int) (c:Int):Int:=s.getD c.toNat 0
def j9 (s:List Int) (c n:Int):Int:=if eV s c then(kl (kJ s c) n).2 else 3
def iC (s:List Int) (c n:Int):List Int:=if j9 s c n=0 then s.set c.toNat (kJ s c+n)else s
def mS (s:List Int) (f t:Int):Int:=if eV s f then(if eV s t then(if f=t then 2 else j9 s t (kJ s f))else 3)else 3
def xb (s:List Int) (f t:Int):List Int:=if mS s f t=0 then(iC s t (kJ s f)).set f.toNat 0 else s
abbrev fD:=List Int×Int
def kE (x:fD) (c:Int):Int:=if eV x.1 c then(if x.2=0 then(if 1000<=x.1.sum then 5 else 0)else 7)else 3
def oM (x:fD) (c:Int):fD:=if kE x c=0 then(x.1.set c.toNat (kJ x.1 c+1),x.2)else x
def mB (x:fD) (c:Int):Int:=if eV x.1 c then(if kJ x.1 c=0 then 12 else 0)else 3
def oV (x:fD) (c:Int):fD:=if mB x c=0 then(x.1.set c.toNat (kJ x.1 c-1),x.2)else x
def Gk (x:fD):Int:=if x.2=0 then 0 else 7
def mW (x:fD):fD:=if x.2=0 then(x.1,1)else x
def kN (x:fD):Int:=if x.2=1 then(if 0<x.1.sum then 7 else 0)else 6
def kO (x:fD):fD:=if kN x=0 then(x.1,2)else x
def DO (x:fD):Int:=if x.2=0 then 6 else 0
def rl (x:fD):fD:=(x.1,0)
structure qH (x:fD):Prop where
 pos:∀v∈x.1,0<=v
 sum:x.1.sum<=1000
 len:1<=x.1.length/\x.1.length<=64
 st:0<=x.2/\x.2<=2
structure aG where
 dB:Int
 ag:Int
 back:Bool
 up:Bool
 ab:Int
 ah:Int
 told:Bool
deriving DecidableEq
def aG.now (r:aG):Int×Bool×Bool:=if(r.back&&decide (r.ag=0))||(!r.back&&decide (r.ag=r.dB))then(0,r.back,true)else if r.back then(r.ag-1,true,false)else(r.ag,false,false)
def aG.over (r:aG):Bool:=r.now.2.2
def aG.eM (r:aG):Int:=if r.back then 11 else 0
abbrev aZ:=Option aG×(Int->Bool)
def dj (d:aZ):Bool:=d.1.isSome
def iL (d:aZ):Bool:=match d.1 with|some r=>r.up|none=>false
def oI (d:aZ):Int:=match d.1 with|some r=>r.ab|none=>0
def mu (d:aZ):Int:=match d.1 with|some r=>r.ah|none=>0
def jR (d:aZ):Bool:=match d.1 with|some r=>r.over|none=>false
def oK (d:aZ):Int:=match d.1 with|some r=>if r.over then 6 else 0|none=>12
def iW (n:Int):Int:=if 0<=n/\n<10 then 0 else 3
def jC (d:aZ) (n:Int):aZ:=if iW n=0 then(d.1,fun k=>if k=n then true else d.2 k)else d
def jv (n:Int):Prop:=0<=n/\n<64
instance (n:Int):Decidable (jv n):=inferInstanceAs (Decidable (_/\_))
def jO (d:aZ) (ab ah:Int):Int:=if d.1.isSome then 7 else if jv ab/\jv ah then(if ab=ah then 2 else 0)else 3
def nq (d:aZ) (up:Bool) (ab ah:Int):aZ:=if jO d ab ah=0 then(some ⟨if up then 4 else 10,0,false,up,ab,ah,false⟩,d.2)else d
def dm (d:aZ) (r:aG):Bool:=!r.now.2.1&&!r.told&&d.2 r.now.1
def fR (d:aZ):(Int×Bool×Bool)×Int:=match d.1 with
 | some r=>if r.over then((0,false,false),6)else((r.now.1,r.now.2.1,dm d r),0)
 | none=>((0,false,false),12)
def nH (d:aZ):aZ:=match d.1 with
 | some r=>if r.over then d else(some {r with told:=true,back:=r.back||dm d r},if dm d r then fun k=>if k=r.now.1 then false else d.2 k else d.2)
 | none=>d
def sR (d:aZ):aZ:=match d.1 with
 | some r=>if r.over then d else(some {r with told:=false,ag:=if r.back then r.ag-1 else r.ag+1},d.2)
 | none=>d
def vR (d:aZ):Int×Int:=match d.1 with
 | some r=>if r.over then(r.eM,0)else(0,6)
 | none=>(0,12)
def rh (d:aZ):aZ:=match d.1 with
 | some r=>if r.over then(none,d.2)else d
 | none=>d
structure Lh (r:aG):Prop where
 st:r.dB=if r.up then 4 else 10
 ag:0<=r.ag/\r.ag<=r.dB
 ab:jv r.ab
 ah:jv r.ah
structure cG where
 pw:Bool
 idle:Bool
 bB:Int
 since:Int
deriving DecidableEq
abbrev Fl:=Bool×Bool×Bool×Bool×Bool×Bool×Bool×Bool×Bool
def cK (f:Fl):Int:=
 if f.1 then 2 else if f.2.2.1 then 3 else if f.2.1||!f.2.2.2.1 then 0 else if f.2.2.2.2.1 then 4 else if f.2.2.2.2.2.1 then 5 else if f.2.2.2.2.2.2.1 then 6 else if f.2.2.2.2.2.2.2.1 then 7 else if f.2.2.2.2.2.2.2.2 then 8 else 9
def ov (pw idle:Bool) (f:Fl):Int:=if !pw then 0 else if !idle then cK f else if cK f=0∨cK f=9 then 0 else 1
def cD (s:List cG) (c:Int):Prop:=0<=c/\c<s.length
instance (s:List cG) (c:Int):Decidable (cD s c):=inferInstanceAs (Decidable (_/\_))
def CB:cG:=⟨false,false,0,0⟩
def aJ (s:List cG) (c:Int):cG:=if cD s c then s.getD c.toNat CB else CB
def fh (s:List cG) (c:Int) (on:Bool):List cG:=if cD s c/\(aJ s c).pw≠on then s.set c.toNat {aJ s c with pw:=on,idle:=false,bB:=0,since:=0}else s
def aN (n:Int):Prop:=0<=n/\n<=1152921504606846976
instance (n:Int):Decidable (aN n):=inferInstanceAs (Decidable (_/\_))
def ju (s:List cG) (c bB now:Int):List cG:=if cD s c/\(0<=bB/\bB<8)/\aN now/\(aJ s c).pw=true/\(aJ s c).idle=false then s.set c.toNat {aJ s c with idle:=true,bB:=bB,since:=now}else s
def cU (s:List cG) (c now:Int):List cG:=if cD s c/\aN now/\(aJ s c).idle=true then s.set c.toNat {aJ s c with idle:=false,bB:=0,since:=0}else s
def ra (rest limit:Int):Int:=if 50<=limit/\400<=rest then 3 else if 10<=limit/\50<=rest then 2 else if 2<=limit/\10<=rest then 1 else 0
def EP (now due:Int) (known:Bool):Int:=if known then(if now<0∨due<=now then 0 else min (due-now) 1073741824)else 1073741824
abbrev cA:=List (Option (Int×Int))
structure bG where
 now:Int
 n:Nat
 t:cA
def aO (t:cA) (id:Int):Option (Int×Int):=if 1<=id then t.getD (id.toNat-1) none else none
def gN (t:cA) (id:Int):Int:=match aO t id with|some p=>p.2|none=>0
def eU (t:cA) (p:Int×Int->Bool):List Int:=((List.range t.length).filter fun i=>match t.getD i none with|some x=>p x|none=>false).map fun(i:Nat)=>(i:Int)+1
def gd (t:cA) (c:Int):List Int:=dN (gN t) (eU t fun x=>decide (x.1=c))
def jb (now:Int) (t:cA) (c:Int):List Int:=dN (gN t) (eU t fun x=>decide (x.1=c)&&decide (x.2<=now))
def cE (x:bG) (c:Int):Prop:=0<=c/\c<x.n
instance (x:bG) (c:Int):Decidable (cE x c):=inferInstanceAs (Decidable (_/\_))
def oQ (t:cA):Option Nat:=t.findIdx? Option.isNone
def cx (x:bG) (c due:Int):Int×Int:=if cE x c then(if aN due then(match oQ x.t with|some i=>((i:Int)+1,0)|none=>(0,5))else(0,2))else(0,3)
def eP (x:bG) (c due:Int):bG:=if cE x c/\aN due then(match oQ x.t with|some i=>{x with t:=x.t.set i (some (c,due))}|none=>x)else x
def iE (x:bG) (id:Int):Int×Bool:=match aO x.t id with|some p=>(p.1,true)|none=>(0,false)
def qC (x:bG) (id:Int):Int×Bool:=match aO x.t id with|some p=>(p.2,true)|none=>(0,false)
def pU (x:bG) (id:Int):bG:={x with t:=x.t.set (id.toNat-1) none}
def pQ (x:bG) (id:Int):Int:=match aO x.t id with|some _=>0|none=>4
def gM (x:bG) (id:Int):bG:=match aO x.t id with|some _=>pU x id|none=>x
def oS (x:bG) (now:Int):Int:=if x.now<=now/\aN now then 0 else 2
def kI (x:bG) (now:Int):bG:=if oS x now=0 then{x with now:=now}else x
def jD (x:bG) (c:Int):Bool:=decide (cE x c)&&decide (0<(jb x.now x.t c).length)
def cy (x:bG) (c:Int):Int×Int:=if cE x c then(match jb x.now x.t c with|a::_=>(a,0)|[]=>(0,12))else(0,3)
def dS (x:bG) (c:Int):bG:=if cE x c then(match jb x.now x.t c with|a::_=>pU x a|[]=>x)else x
def qh (x:bG) (c:Int):Int×Int:=if cE x c then(match gd x.t c with|a::_=>(gN x.t a,0)|[]=>(0,12))else(0,3)
def xj (x:bG) (c:Int):List Int:=if cE x c then gd x.t c else[]
def gC (x:bG) (f t:Int):Int×Int:=if cE x f/\cE x t then(if f=t then(0,2)else match gd x.t f with|a::_=>(a,0)|[]=>(0,12))else(0,3)
def eJ (x:bG) (f t:Int):bG:=if cE x f/\cE x t/\f≠t then(match gd x.t f with|a::_=>{x with t:=x.t.set (a.toNat-1) (some (t,gN x.t a))}|[]=>x)else x
structure BH (x:bG):Prop where
 now:aN x.now
 n:1<=x.n/\x.n<=64
 len:x.t.length=48
 at_:∀id p,aO x.t id=some p->(0<=p.1/\p.1<x.n)/\aN p.2
end Go.Dav
namespace Go.Dav
structure K where
 n:Nat
 on:BV
 ac:BV
 now:Int
 lim:Int
 own:Int->Option Int
 th:Int×TL
 rq:RS
 tm:bG
 ir:bj
 rt:ch
 wk:QL
 ca:CS
 st:KS
 ga:fD
 sp:BV×BV
 dk:aZ
 co:List cG
abbrev Rc:=Int×Int×Int×Int×Int
def jm (x:Int×Int):List Rc:=[(1,0,if x.2=0 then x.1 else 0,0,x.2)]
def df (eM:Int):List Rc:=[(1,0,0,0,eM)]
def nL (k:K) (c:Int):Int:=if 0<=c/\c<k.n then(if hs k.ac c then 0 else 9)else 3
def bN (k:K) (id:Int):Th:=(fQ k.th id).1
def fU (k:K) (id near:Int):K:=
 {k with th:=iv k.th id (fO (bN k id).2.1 k.ac near).1 (fO (bN k id).2.1 k.ac near).2.1,rq:=fY k.rq (fO (bN k id).2.1 k.ac near).1 (bN k id).1 id}
def xo (k:K) (x:Th):Bool:=Bz k.ac (0,x.2.1,x.2.2.1,x.2.2.2.1)
def dU (k:K) (id:Int):K:=if(bN k id).2.2.2.2.1||!xo k (bN k id)then k else fU {k with rq:=dA k.rq id} id (bN k id).2.2.1
def mE (k:K) (n:Int):BV:=if fS n then 0 else(gq k.ir n).2.2.2
def ey (k:K) (n near:Int):K:={k with rt:=j8 k.rt n (fO (mE k n) k.ac near).1}
def dR (k:K) (n:Int):K:=if Bz k.ac (0,mE k n,(b9 k.rt n).1,!hs (mE k n) (b9 k.rt n).1)then ey k n (b9 k.rt n).1 else k
def Bc (k:K) (n:Int):Int:=if(aP k.now n).2=0 then oS k.tm (aP k.now n).1 else(aP k.now n).2
def lZ (k:K) (n:Int):K:=if(aP k.now n).2=0 then{k with now:=(aP k.now n).1,tm:=kI k.tm (aP k.now n).1}else k
def xd (k:K) (p:Int) (m:BV):Int×Int:=cP k.th p m
def lj (k:K) (p:Int) (m:BV):K:=if(cP k.th p m).2=0 then fU {k with th:=gY k.th p m} (cP k.th p m).1 ((cP k.th p m).1%k.n)else{k with th:=gY k.th p m}
def nN (g:Int->Option Int) (t:Int):Int->Option Int:=fun j=>if j=t then none else g j
def tS (k:K) (t:Int):K:={k with tm:=gM k.tm t,own:=nN k.own t}
def pF (k:K) (id:Int):K:=fU {k with th:=iD k.th id} id (bN {k with th:=iD k.th id} id).2.2.1
def fJ (k:K) (x:Th):Int:=if hs k.ac x.2.2.1 then x.2.2.1 else(dK k.ac).1
def xa (k:K) (id:Int) (x:Th) (n:Int):Int×Int:=
 if(aP k.now n).2=0 then(if(cx k.tm (fJ k x) (aP k.now n).1).2=0 then((cx k.tm (fJ k x) (aP k.now n).1).1,ui k.th id)else(0,(cx k.tm (fJ k x) (aP k.now n).1).2))else(0,(aP k.now n).2)
def lg (k:K) (id:Int) (x:Th) (n:Int):K:=
 if(aP k.now n).2=0 then(if(cx k.tm (fJ k x) (aP k.now n).1).2=0 then
  {k with tm:=eP k.tm (fJ k x) (aP k.now n).1,own:=fun j=>if j=(cx k.tm (fJ k x) (aP k.now n).1).1 then some id else k.own j,rq:=dA k.rq id,th:=lh k.th id (cx k.tm (fJ k x) (aP k.now n).1).1}
  else{k with tm:=eP k.tm (fJ k x) (aP k.now n).1})else k
def kF (k:K) (id:Int) (x:Th):K:=if x.2.2.2.2.1 then{tS k x.2.2.2.2.2 with th:=iN k.th id}else{k with rq:=dA k.rq id,th:=iN k.th id}
abbrev aU:=Int×Int×Int×BV×Int
def lY (k:K) (e:aU):List Rc:=
 let x:=bN k e.2.2.1
 if(fQ k.th e.2.2.1).2≠0 then df (fQ k.th e.2.2.1).2
 else if e.1=9 then jm (x.2.2.1,0)
 else if e.1=4 then df (s7 k.th e.2.2.1)
 else if e.1=8 then df (kr k.th e.2.2.1 e.2.2.2.1)
 else if x.2.2.2.2.1≠decide (e.1=7)then df 6
 else if e.1=6 then jm (xa k e.2.2.1 x e.2.2.2.2)
 else if e.1=5 then df (E8 k.rq e.2.2.1)
 else df 0
def eI (k:K) (e:aU):K:=
 let x:=bN k e.2.2.1
 if(fQ k.th e.2.2.1).2≠0 then k
 else if e.1=9 then k
 else if e.1=4 then kF k e.2.2.1 x
 else if e.1=8 then(if kr k.th e.2.2.1 e.2.2.2.1=0 then dU {k with th:=ik k.th e.2.2.1 e.2.2.2.1} e.2.2.1 else{k with th:=ik k.th e.2.2.1 e.2.2.2.1})
 else if x.2.2.2.2.1≠decide (e.1=7)then k
 else if e.1=6 then lg k e.2.2.1 x e.2.2.2.2
 else if e.1=5 then{k with rq:=qt k.rq e.2.2.1}
 else pF (tS k x.2.2.2.2.2) e.2.2.1
def nF (k:K) (e:aU):Int:=
 if e.1=12 then iX k.ir e.2.2.1 e.2.2.2.1
 else if e.1=13 then cR k.ir e.2.2.1
 else if e.1=14 then lH k.ir e.2.2.1 e.2.2.2.1
 else if e.1=15 then kU k.ir e.2.2.1 true
 else if e.1=16 then kU k.ir e.2.2.1 false
 else cR k.ir e.2.2.1
def jW (k:K) (e:aU):K:=
 if e.1=12 then(if iX k.ir e.2.2.1 e.2.2.2.1=0 then ey {k with ir:=jE k.ir e.2.2.1 e.2.2.2.1} e.2.2.1 (e.2.2.1%k.n)else{k with ir:=jE k.ir e.2.2.1 e.2.2.2.1})
 else if e.1=13 then(if cR k.ir e.2.2.1=0 then{k with ir:=nB k.ir e.2.2.1,rt:=mG k.rt e.2.2.1}else{k with ir:=nB k.ir e.2.2.1})
 else if e.1=14 then(if lH k.ir e.2.2.1 e.2.2.2.1=0 then dR {k with ir:=mh k.ir e.2.2.1 e.2.2.2.1} e.2.2.1 else{k with ir:=mh k.ir e.2.2.1 e.2.2.2.1})
 else if e.1=15 then{k with ir:=lM k.ir e.2.2.1 true}
 else if e.1=16 then{k with ir:=lM k.ir e.2.2.1 false}
 else{k with ir:=qp k.ir e.2.2.1}
def vk (k:K) (c n:Int):Int×Int:=if(aP k.now n).2=0 then cx k.tm c (aP k.now n).1 else(0,(aP k.now n).2)
def np (k:K) (c n:Int):K:=if(aP k.now n).2=0 then{k with tm:=eP k.tm c (aP k.now n).1}else k
def mI (k:K) (e:aU):List Rc:=
 if nL k e.2.1≠0 then df (nL k e.2.1)
 else if e.1=10 then jm (vk k e.2.1 e.2.2.2.2)
 else if e.1=18 then jm (qn k.wk e.2.1)
 else if e.1=20 then jm (qv k.ca e.2.1)
 else if e.1=21 then jm (sg k.st e.2.1)
 else if e.1=22 then df (uh k.st e.2.1 e.2.2.1)
 else df (kE k.ga e.2.1)
def fG (k:K) (e:aU):K:=
 if nL k e.2.1≠0 then k
 else if e.1=10 then np k e.2.1 e.2.2.2.2
 else if e.1=18 then{k with wk:=o8 k.wk e.2.1}
 else if e.1=20 then{k with ca:=iB k.ca e.2.1}
 else if e.1=21 then{k with st:=ni k.st e.2.1}
 else if e.1=22 then{k with st:=mR k.st e.2.1 e.2.2.1}
 else{k with ga:=oM k.ga e.2.1}
def yS (k:K) (id:Int):Int:=if(iE k.tm id).2 then(if 0<(k.own id).getD 0 then 6 else pQ k.tm id)else 4
def nv (k:K) (id:Int):K:=if(iE k.tm id).2 then(if 0<(k.own id).getD 0 then k else{k with tm:=gM k.tm id})else k
def vX (k:K) (id:Int):Int×Int:=if id<1∨32<id then(0,2)else if(qB k.wk id).2 then(1,0)else(0,0)
def wt (n:Int):Int:=if n<0∨1073741824<n then 2 else 0
def qe (k:K) (n:Int):K:=if wt n=0 then{k with lim:=n}else k
def A5 (lo hi:Int):Int:=if 1<=lo/\hi<=100000/\lo<=hi then 0 else 2
def db (k:K):Int:=(jq (bp k.rq) jU (aV (hs k.ac) k.rq.length)).1
def dM (k:K):Int:=(jq (bp k.rq) j0 (aV (hs k.ac) k.rq.length)).1
def ku (k:K) (id:Int):Bool:=hs (bN k id).2.1 (dM k)
def oi (k:K):Int:=if bp k.rq (db k)-bp k.rq (dM k)<2 then 0 else((aY k.rq (db k)).reverse.find? (ku k)).getD 0
def jn (k:K):K:=if bp k.rq (db k)-bp k.rq (dM k)<2 then k else
 match(aY k.rq (db k)).reverse.find? (ku k)with
 | some id=>{k with rq:=fY (dA k.rq id) (dM k) (bN k id).1 id,th:=iv k.th id (dM k) false}
 | none=>k
def fz (k:K) (up:Bool) (c:Int):Int:=
 if ¬(0<=c/\c<k.n)then 3
 else if dj k.dk then 7
 else if up&&hs k.on c then 8
 else if !up&&!hs k.on c then 9
 else if !up&&decide ((cs k.on).length=1)then 10
 else jO k.dk c (dK (ls k.ac c)).1
def bP (k:K) (up:Bool) (c:Int):K:=
 if ¬(0<=c/\c<k.n)then k
 else if dj k.dk then k
 else if up&&hs k.on c then k
 else if !up&&!hs k.on c then k
 else if !up&&decide ((cs k.on).length=1)then k
 else{k with ga:=mW k.ga,dk:=nq k.dk up c (dK (ls k.ac c)).1}
def mP (k:K) (e:aU):List Rc:=
 if e.1=11 then df (yS k e.2.2.1)
 else if e.1=19 then jm (vX k e.2.2.1)
 else if e.1=25 then df (iW e.2.2.2.2)
 else if e.1=27 then df (mB k.ga e.2.1)
 else if e.1=28 then df (wt e.2.2.2.2)
 else if e.1=29 then df (A5 e.2.2.1 e.2.2.2.2)
 else if e.1=30 then jm (oi k,0)
 else df 2
def fA (k:K) (e:aU):K:=
 if e.1=11 then nv k e.2.2.1
 else if e.1=19 then k
 else if e.1=25 then{k with dk:=jC k.dk e.2.2.2.2}
 else if e.1=27 then{k with ga:=oV k.ga e.2.1}
 else if e.1=28 then qe k e.2.2.2.2
 else if e.1=29 then k
 else if e.1=30 then jn k
 else k
def jJ (k:K) (c:Int):Int×Bool:=match(ft k.rt c).find? (cv k.ir)with|some n=>(n,true)|none=>(0,false)
def cC (k:K) (c:Int):Fl:=
 (hs (bc k.sp) c,hs k.sp.2 c,dj k.dk&&decide (mu k.dk=c),hs k.ac c,decide (0<(cJ k.ca c).length),(jJ k c).2,jD k.tm c,
  decide (0<(bF k.wk c).length+(bF k.wk (-1)).length),decide (0<bp k.rq c))
def du (k:K) (c:Int):K:=
 let k1:K:={k with tm:=dS k.tm c,own:=nN k.own (cy k.tm c).1}
 if 0<(k.own (cy k.tm c).1).getD 0 then pF k1 ((k.own (cy k.tm c).1).getD 0)else k1
def mC (k:K) (c:Int):K:={k with co:=ju k.co c (ra (EP k.now (qh k.tm c).1 (decide ((qh k.tm c).2=0))) k.lim) k.now}
def FP (k:K) (c what:Int):List Rc:=
 if what=4 then[(6,c,(rQ k.ca c).1,0,0)]
 else if what=5 then[(4,c,(jJ k c).1,0,0)]
 else if what=6 then[(3,c,(cy k.tm c).1,(k.own (cy k.tm c).1).getD 0,0)]
 else if what=7 then[(5,c,(xf k.wk c).1,0,0)]
 else[(2,c,(AQ k.rq c).1,0,0)]
def dC (k:K) (c what:Int):K:=
 if what=4 then{k with ca:=gZ k.ca c}
 else if what=5 then{k with ir:=jt k.ir (jJ k c).1}
 else if what=6 then du k c
 else if what=7 then{k with wk:=lX k.wk c}
 else{k with rq:=la k.rq c}
def jH (k:K) (up:Bool) (a8 c:Int):K:=
 if up&&decide (a8=1)then{k with co:=fh k.co c false}
 else if !up&&decide (a8=1)then{k with ac:=wi k.ac c}
 else k
def iJ (k:K) (a8 c:Int):K:=
 if a8=1 then{k with co:=fh k.co c true}
 else if a8=2 then{k with st:=gr k.st c}
 else
  let k1:K:={k with on:=wi k.on c,ac:=wi k.ac c}
  let k2:=(gB k1.th).foldl dU k1
  (iq k2.ir).foldl dR k2
def oT (k:K):Bool:=!(k.sp.1==0)&&fB k.sp
def jz (k:K) (c ah:Int):K:=
 if k.sp.1=0 then{k with sp:=(lf k.sp (ls (wi k.ac c) ah)).2}
 else if fB k.sp then
  let k1:=(ft k.rt c).foldl (fun k n=>ey k n c) k
  {k1 with sp:=(rP k1.sp).2}
 else k
def Dz (k:K) (c:Int):Bool:=(aY k.rq c).isEmpty
def eQ (k:K) (c:Int):K:=match aY k.rq c with
 | []=>k
 | a::_=>fU {k with rq:=dA k.rq a} a c
def fm (k:K) (a8 c ah:Int):Bool:=
 if a8=1 then true
 else if a8=2 then Dz k c
 else if a8=3 then decide ((gC k.tm c ah).2≠0)
 else if a8=4 then decide ((ly k.wk c).2≠0)
 else if a8=5 then decide ((j5 k.ca c ah).2≠0)
 else if a8=6 then oT k
 else true
def dy (k:K) (a8 c ah:Int):K:=
 if a8=1 then{k with ac:=ls k.ac c}
 else if a8=2 then eQ k c
 else if a8=3 then{k with tm:=eJ k.tm c ah}
 else if a8=4 then{k with wk:=jd k.wk c}
 else if a8=5 then{k with ca:=eY k.ca c ah}
 else if a8=6 then jz k c ah
 else if a8=7 then{k with st:=gr k.st c}
 else if a8=8 then k
 else{k with on:=ls k.on c,co:=fh k.co c false}
def lq (k:K) (s:Int×Bool×Bool) (c ah:Int):Bool:=
 if s.2.1 then true else if s.1=0 then decide (kN k.ga=0)else if iL k.dk then true else fm k s.1 c ah
def b6 (k:K) (s:Int×Bool×Bool) (c ah:Int):K:=
 if s.2.1 then jH k (iL k.dk) s.1 c else if s.1=0 then{k with ga:=kO k.ga}else if iL k.dk then iJ k s.1 c else dy k s.1 c ah
def dY (k:K) (ah:Int):K:=
 let k1:K:={k with dk:=nH k.dk}
 if(fR k.dk).1.2.2 then k1
 else
  let k2:=b6 k1 (fR k.dk).1 (oI k.dk) ah
  if lq k1 (fR k.dk).1 (oI k.dk) ah then{k2 with dk:=sR k2.dk}else k2
def Bj (k:K) (ah:Int):List Rc:=if jR (dY k ah).dk then[(7,oI k.dk,0,0,(vR (dY k ah).dk).1)]else[]
def eK (k:K) (ah:Int):K:=if jR (dY k ah).dk then{dY k ah with dk:=rh (dY k ah).dk,ga:=rl (dY k ah).ga}else dY k ah
def cw (k:K) (c:Int):Int:=ov (aJ k.co c).pw (aJ k.co c).idle (cC k c)
def xe (k:K) (c:Int):List Rc:=
 if cw k c=0∨cw k c=1∨cw k c=2∨cw k c=9 then[]
 else if cw k c=3 then Bj k c
 else FP k c (cw k c)
def aK (k:K) (c:Int):K:=
 if cw k c=0 then k
 else if cw k c=1 then{k with co:=cU k.co c k.now}
 else if cw k c=2 then{k with sp:=(iA k.sp c).2}
 else if cw k c=3 then eK k c
 else if cw k c=9 then mC k c
 else dC k c (cw k c)
def cO (k:K) (e:aU):List Rc:=
 if e.1=1 then(if e.2.1<0∨k.n<=e.2.1 then df 3 else xe k e.2.1)
 else if e.1=2 then df (Bc k e.2.2.2.2)
 else if e.1=3 then jm (xd k e.2.2.1 e.2.2.2.1)
 else if 4<=e.1/\e.1<=9 then lY k e
 else if 12<=e.1/\e.1<=17 then df (nF k e)
 else if e.1=18 then(if e.2.1 = -1 then jm (qn k.wk (-1))else mI k e)
 else if e.1=10∨e.1=20∨e.1=21∨e.1=22∨e.1=26 then mI k e
 else if e.1=23∨e.1=24 then df (fz k (decide (e.1=23)) e.2.1)
 else mP k e
def bX (k:K) (e:aU):K:=
 if e.1=1 then(if e.2.1<0∨k.n<=e.2.1 then k else aK k e.2.1)
 else if e.1=2 then lZ k e.2.2.2.2
 else if e.1=3 then lj k e.2.2.1 e.2.2.2.1
 else if 4<=e.1/\e.1<=9 then eI k e
 else if 12<=e.1/\e.1<=17 then jW k e
 else if e.1=18 then(if e.2.1 = -1 then{k with wk:=o8 k.wk (-1)}else fG k e)
 else if e.1=10∨e.1=20∨e.1=21∨e.1=22∨e.1=26 then fG k e
 else if e.1=23∨e.1=24 then bP k (decide (e.1=23)) e.2.1
 else fA k e
def cu (n:Nat):K:=
 {n:=n,on:=aQ n,ac:=aQ n,now:=0,lim:=1073741824,own:=fun _=>none,th:=(n,List.replicate 32 none),rq:=List.replicate n (32,[]),
  tm:=⟨0,n,List.replicate 48 none⟩,ir:=(n,List.replicate 16 i0),rt:=(n,List.replicate 16 (-1)),wk:=ez n,ca:=iu n,st:=iU n 12,
  ga:=(List.replicate n 0,0),sp:=(0,0),dk:=(none,fun _=>false),co:=List.replicate n ⟨true,false,0,0⟩}
end Go.Dav
namespace Go.Dav
def aH (a b:Nat):Nat:=(a ^^^ b).log2/3
def ej (t k:Nat):Nat:=t/8 ^ k%8
def br (now due:Nat):Nat:=if due<=now then 168 else aH due now*8+ej due (aH due now)
theorem BC {a b:Nat} (h:a≠b):a ^^^ b≠0:=fun e=>h (by
 apply Nat.eq_of_testBit_eq;intro i;have:=congrArg (fun x=>x.testBit i) e;simp only[Nat.testBit_xor,Nat.zero_testBit]at this;cases h1:a.testBit i<;>cases h2:b.testBit i<;>simp_all)
theorem WZ {a b i:Nat}:a >>> i=b >>> i↔(a ^^^ b) >>> i=0:=by
 rw[Nat.shiftRight_xor_distrib];constructor
 ·intro h;rw[h];exact Nat.xor_self _
 ·intro h;by_cases e:a >>> i=b >>> i
  ·exact e
  ·exact absurd h (BC e)
theorem zd (a k:Nat):a/8 ^ k=a >>> (3*k):=by
 rw[Nat.shiftRight_eq_div_pow,Nat.pow_mul]
theorem wx {a b:Nat} (h:a≠b):a/8 ^ (aH a b+1)=b/8 ^ (aH a b+1):=by
 rw[zd,zd,WZ,Nat.shiftRight_eq_div_pow];apply Nat.div_eq_of_lt;refine Nat.lt_of_lt_of_le Nat.lt_log2_self (Nat.pow_le_pow_right (by omega) ?_);unfold aH;omega
theorem Vc {a b:Nat} (h:a≠b):a/8 ^ aH a b≠b/8 ^ aH a b:=by
 rw[zd,zd];intro e;rw[WZ,Nat.shiftRight_eq_div_pow]at e;have h1:=Nat.log2_self_le (BC h);have h2:2 ^ (3*aH a b)<=2 ^ (a ^^^ b).log2:=Nat.pow_le_pow_right (by omega) (by unfold aH;omega);have:=Nat.div_pos (Nat.le_trans h2 h1) (Nat.pow_pos (by omega));omega
theorem vJ {a b j k:Nat} (h:a/8 ^ j=b/8 ^ j) (hk:j<=k):a/8 ^ k=b/8 ^ k:=by
 obtain⟨d,rfl⟩:=Nat.le.dest hk;rw[Nat.pow_add,<-Nat.div_div_eq_div_mul,<-Nat.div_div_eq_div_mul,h]
theorem adh {a b j:Nat} (h1:a/8 ^ (j+1)=b/8 ^ (j+1)) (h2:a/8 ^ j≠b/8 ^ j):aH a b=j:=by
 have h:a≠b:=fun e=>h2 (by rw[e]);rcases Nat.lt_trichotomy (aH a b) j with k|k|k
 ·exact absurd (vJ (wx h) (by omega)) h2
 ·exact k
 ·exact absurd (vJ h1 (by omega)) (Vc h)
theorem pW (t k:Nat):ej t k<8:=Nat.mod_lt _ (by omega)
theorem A6 (t k:Nat):t/8 ^ k=8*(t/8 ^ (k+1))+ej t k:=by
 unfold ej;rw[Nat.pow_succ,<-Nat.div_div_eq_div_mul];omega
theorem Eo {a b k:Nat} (h:a/8 ^ k<b/8 ^ k):a<b:=by
 rcases Nat.lt_or_ge a b with h1|h1
 ·exact h1
 ·have:=Nat.div_le_div_right (c:=8 ^ k) h1;omega
theorem acY {a b:Nat} (k:Nat) (h:a<=b):a/8 ^ k<=b/8 ^ k:=Nat.div_le_div_right h
theorem Ll {now due:Nat} (h:now<due):now/8 ^ aH due now<due/8 ^ aH due now:=
 Nat.lt_of_le_of_ne (acY _ (by omega)) (fun e=>Vc (by omega) e.symm)
theorem tG {a b:Nat} (ha:a<=2 ^ 60) (hb:b<=2 ^ 60):aH a b<=20:=by
 by_cases h:a=b
 ·subst h;simp[aH]
 ·have h1:a ^^^ b<2 ^ 61:=Nat.xor_lt_two_pow (by omega) (by omega);have:=(Nat.log2_lt (BC h)).2 h1;unfold aH;omega
theorem ace {now due:Nat} (ha:due<=2 ^ 60) (hb:now<=2 ^ 60):br now due<=168:=by
 unfold br;split
 ·omega
 ·have:=tG ha hb;have:=pW due (aH due now);omega
theorem TD {now due:Nat} (h:now<due) (ha:due<=2 ^ 60) (hb:now<=2 ^ 60):aH due now*8+ej due (aH due now)<168:=by
 have:=tG ha hb;have:=pW due (aH due now);omega
theorem acd {now now' due:Nat} (h:now<now') (hd:now<due) (hk:aH now' now<aH due now∨aH due now=aH now' now/\ej now' (aH now' now)<ej due (aH now' now)) :
  now'<due/\br now' due=br now due:=by
 have k1:=wx (a:=now') (b:=now) (by omega);have d1:=wx (a:=due) (b:=now) (by omega);have d3:=Ll hd
 have key:now'/8 ^ aH due now<due/8 ^ aH due now/\due/8 ^ (aH due now+1)=now'/8 ^ (aH due now+1):=by
  rcases hk with hk|⟨hk,hg⟩
  ·have e1:=vJ k1 (k:=aH due now) (by omega);have e2:=vJ k1 (k:=aH due now+1) (by omega);exact⟨by omega,by omega⟩
  ·rw[hk]at d1⊢;have s1:=A6 due (aH now' now);have s2:=A6 now' (aH now' now);exact⟨by omega,by omega⟩
 have hlt:=Eo key.1;have hl:aH due now'=aH due now:=adh key.2 (by omega);refine⟨hlt,?_⟩;unfold br;rw[if_neg (by omega),if_neg (by omega),hl]
theorem acf {now a b:Nat} (ha:now<a) (hb:now<b) (h:aH a now*8+ej a (aH a now)<aH b now*8+ej b (aH b now)):a<b:=by
 have a1:=wx (a:=a) (b:=now) (by omega);have b1:=wx (a:=b) (b:=now) (by omega);have b3:=Ll hb;have ga:=pW a (aH a now);have gb:=pW b (aH b now);rcases Nat.lt_or_ge (aH a now) (aH b now)with hl|hl
 ·have e1:=vJ a1 (k:=aH b now) (by omega);exact Eo (k:=aH b now) (by omega)
 ·have hl':aH a now=aH b now:=by omega
  rw[hl']at a1 h;have s1:=A6 a (aH b now);have s2:=A6 b (aH b now);exact Eo (k:=aH b now) (by omega)
end Go.Dav
namespace Go.Dav
open Go.Proofs
def im (x:Nat):Nat:=if x=0 then 0 else x.log2+1
theorem Eg {x k:Nat} (h:2 ^ k<=x):im x=im (x/2 ^ k)+k:=by
 have hp:0<2 ^ k:=Nat.pow_pos (by omega);have h1:x≠0:=by omega
 have h2:x/2 ^ k≠0:=fun e=>by
  have:=Nat.div_pos h hp;omega
 unfold im;rw[if_neg h1,if_neg h2]
 have e:x.log2=(x/2 ^ k).log2+k:=by
  rw[Nat.log2_eq_iff h1];have a1:=Nat.log2_self_le h2;have a2:=@Nat.lt_log2_self (x/2 ^ k);constructor
  ·rw[Nat.pow_add];exact Nat.le_trans (Nat.mul_le_mul_right _ a1) (Nat.div_mul_le_self _ _)
  ·rw[Nat.add_right_comm,Nat.pow_add];exact(Nat.div_lt_iff_lt_mul hp).1 a2
 omega
def U0:ByteArray:=ByteArray.mk #[0,1,2,2,3,3,3,3,4,4,4,4,4,4,4,4,5,5,5,5,5,5,5,5,5,5,5,5,5,5,5,5,6,6,6,6,6,6,6,6,6,6,6,6,6,6,6,6,6,6,6,6,6,6,6,6,6,6,6,6,6,6,6,6,7,7,7,7,7,7,7,7,7,7,7,7,7,7,7,7,7,7,7,7,7,7,7,7,7,7,7,7,7,7,7,7,7,7,7,7,7,7,7,7,7,7,7,7,7,7,7,7,7,7,7,7,7,7,7,7,7,7,7,7,7,7,7,7,8,8,8,8,8,8,8,8,8,8,8,8,8,8,8,8,8,8,8,8,8,8,8,8,8,8,8,8,8,8,8,8,8,8,8,8,8,8,8,8,8,8,8,8,8,8,8,8,8,8,8,8,8,8,8,8,8,8,8,8,8,8,8,8,8,8,8,8,8,8,8,8,8,8,8,8,8,8,8,8,8,8,8,8,8,8,8,8,8,8,8,8,8,8,8,8,8,8,8,8,8,8,8,8,8,8,8,8,8,8,8,8,8,8,8,8,8,8,8,8,8,8,8,8,8,8,8,8]
theorem ac3:(List.range 256).all (fun n=>U0[n]?==some (UInt8.ofNat (im n)))=true:=by kernel_rfl
theorem U1 {n:Nat} (h:n<256):U0[n]?=some (UInt8.ofNat (im n)):=by
 have:=List.all_eq_true.1 ac3 n (List.mem_range.2 h);simpa using this
theorem Eh {n:Nat} (h:n<256):im n<=8:=by
 unfold im;split
 ·omega
 ·have:=(Nat.log2_lt (n:=n) (k:=8) (by assumption)).2 h;omega
theorem U2 {n:Nat} (h:n<256):((UInt8.ofNat (im n)).toNat:Int)=(im n:Int):=by
 have:=Eh h;rw[UInt8.toNat_ofNat_of_lt' (show im n<256 by omega)]
theorem XX {x:Nat} (h:x<256):IntKind.wrap .u8 (x:Int)=(x:Int):=by
 unfold IntKind.wrap;simp[IntKind.bits,IntKind.signed];omega
theorem UZ {x:Nat} (hx:x<65536) {c n:Nat} (hn:n=im x+c) (hc:c<=48) (w:World):aA Tryz.prog nc yD (zr (x:Int) (c:Int)) w (z7 fun e w'=>e=Z (I (n:Int))/\w'=w):=by
 refine aA.mk ?_;rw[aha];refine⟨fun g=>?_,fun g=>?_⟩
 ·have g:=of_decide_eq_true g;have h8:x/256<256:=by omega
  have e8:aC .u64 (x:Int) 8=((x/256:Nat):Int):=po x (k:=8) (by omega) rfl;have el:=Eg (x:=x) (k:=8) (by omega);have hle:=Eh h8;rw[show(2:Nat) ^ 8=256 from rfl]at el;rw[e8,XX h8];refine⟨by decide,⟨by omega,by omega⟩,_,⟨_,by rw[Int.toNat_natCast];exact U1 h8,U2 h8⟩,?_,rfl⟩;rw[aD (x:=(c:Int)+8) (by omega),aD (x:=(im (x/256):Int)) (by omega),aD (by omega)];congr 2;omega
 ·have g:=of_decide_eq_false g;have h8:x<256:=by omega
  have hle:=Eh h8;rw[XX h8];refine⟨⟨by omega,by omega⟩,_,⟨_,by rw[Int.toNat_natCast];exact U1 h8,U2 h8⟩,?_,rfl⟩;rw[aD (x:=(im x:Int)) (by omega),aD (by omega)];congr 2;omega
theorem UY {x:Nat} (hx:x<4294967296) {c n:Nat} (hn:n=im x+c) (hc:c<=32) (w:World):aA Tryz.prog nc yC (zq (x:Int) (c:Int)) w (z6 fun e w'=>e=Z (I (n:Int))/\w'=w):=by
 refine aA.mk ?_;rw[ag9];refine⟨fun g=>⟨by decide,?_⟩,fun g=>?_⟩
 ·have g:=of_decide_eq_true g;have e8:aC .u64 (x:Int) 16=((x/65536:Nat):Int):=po x (k:=16) (by omega) rfl;have el:=Eg (x:=x) (k:=16) (by omega);rw[show(2:Nat) ^ 16=65536 from rfl]at el;rw[e8,aD (by omega)];exact UZ (c:=c+16) (by omega) (by omega) (by omega) w
 ·have g:=of_decide_eq_false g;exact UZ (by omega) hn (by omega) w
theorem ac1 {x:Nat} (hx:x<2 ^ 64) (w:World):Cx 371 #[.int .u64 (x:Int)] w fun e w'=>e=Z (I (im x:Int))/\w'=w:=by
 refine alZ ?_;rw[t371];refine⟨fun g=>⟨by decide,?_⟩,fun g=>?_⟩
 ·have g:=of_decide_eq_true g;have e8:aC .u64 (x:Int) 32=((x/4294967296:Nat):Int):=po x (k:=32) (by omega) rfl;have el:=Eg (x:=x) (k:=32) (by omega);rw[show(2:Nat) ^ 32=4294967296 from rfl]at el;rw[e8];exact UY (c:=32) (by omega) (by omega) (by omega) w
 ·have g:=of_decide_eq_false g;exact UY (c:=0) (by omega) (by omega) (by omega) w
theorem am5 {a b:Nat} (ha:a<=2 ^ 60) (hb:b<=2 ^ 60):aw .xor .i64 (a:Int) (b:Int)=((a ^^^ b:Nat):Int):=by
 have h:a ^^^ b<2 ^ 61:=Nat.xor_lt_two_pow (by omega) (by omega);show IntKind.wrap .i64 ((BitVec.ofInt 64 (a:Int) ^^^ BitVec.ofInt 64 (b:Int)).toNat:Int)=_
 have e:(BitVec.ofInt 64 (a:Int) ^^^ BitVec.ofInt 64 (b:Int)).toNat=a ^^^ b:=by
  rw[BitVec.toNat_xor];simp only[BitVec.ofInt_natCast,BitVec.toNat_ofNat];rw[Nat.mod_eq_of_lt (by omega),Nat.mod_eq_of_lt (by omega)]
 rw[e,aD (by omega)]
theorem U4 {a b:Nat} (ha:a<=2 ^ 60) (hb:b<=2 ^ 60) (h:a≠b) (w:World):Cx 314 #[I (a:Int),I (b:Int)] w fun e w'=>e=Z (I (aH a b:Int))/\w'=w:=by
 have hx:a ^^^ b<2 ^ 61:=Nat.xor_lt_two_pow (by omega) (by omega);have hne:=BC h;have hlog:=(Nat.log2_lt hne).2 hx;refine ale ?_;rw[t314,am5 ha hb];rw[xn (by omega)];refine⟨(ac1 (x:=a ^^^ b) (by omega) w).mono ?_⟩;rintro e w1 ⟨rfl,rfl⟩;refine⟨_,rfl,by decide,?_,rfl⟩;have e1:(im (a ^^^ b):Int)=((a ^^^ b).log2:Int)+1:=by unfold im;rw[if_neg hne];omega
 rw[e1,show((a ^^^ b).log2:Int)+1-1=((a ^^^ b).log2:Int) by omega,aD (x:=((a ^^^ b).log2:Int)) (by omega)]
 have e2:Int.tdiv ((a ^^^ b).log2:Int) 3=((aH a b:Nat):Int):=by
  rw[Int.tdiv_eq_ediv_of_nonneg (by omega)];unfold aH;omega
 have hl:=tG ha hb;rw[e2,aD (by omega)]
theorem RQ {t k:Nat} (ht:t<=2 ^ 60) (hk:k<=20) (w:World):Cx 316 #[I (t:Int),I (k:Int)] w fun e w'=>e=Z (I (ej t k:Int))/\w'=w:=by
 refine alg ?_;rw[t316,aD (x:=3*(k:Int)) (by omega)];refine⟨by omega,by decide,?_,rfl⟩
 have e1:aC .i64 (t:Int) (3*(k:Int))=((t/8 ^ k:Nat):Int):=by
  unfold aC;have e2:min (3*(k:Int)).toNat IntKind.i64.bits=3*k:=by show min _ 64=3*k;omega
  rw[e2,show((2:Int) ^ (3*k))=((2 ^ (3*k):Nat):Int) by simp,Int.fdiv_eq_ediv_of_nonneg _ (Int.natCast_nonneg _),<-Int.natCast_ediv,Nat.pow_mul]
 rw[e1];rfl
theorem Gr (n:Int) (w:World):Cx 198 #[I n] w fun e w'=>e=Z (.bool (decide (aN n)))/\w'=w:=by
 refine ajF ?_;rw[t198];refine⟨fun g=>⟨?_,rfl⟩,fun g=>⟨?_,rfl⟩⟩
 ·have:=of_decide_eq_true g;congr 2;exact decide_eq_decide.2 (by unfold aN;omega)
 ·have:=of_decide_eq_false g;congr 2;exact(decide_eq_false (fun hh=>absurd hh.1 this)).symm
end Go.Dav
namespace Go.Dav
abbrev bS:=Int->Option Int
def dw (now:Int) (g:bS) (id:Int):Nat:=br now.toNat ((g id).getD 0).toNat
def nY (now:Int) (g:bS) (L:List (List Int)) (id:Int):List (List Int):=L.set (dw now g id) (L.getD (dw now g id) []++[id])
def fV (now:Int) (g:bS) (L:List (List Int)) (ids:List Int):List (List Int):=ids.foldl (nY now g) L
theorem amP (now:Int) (g:bS) (L:List (List Int)) (id:Int):nY now g L id=L.set (dw now g id) (L.getD (dw now g id) []++[id]):=rfl
theorem aeR (now:Int) (g:bS) (L:List (List Int)) (ids:List Int) (id:Int):fV now g L (ids++[id])=nY now g (fV now g L ids) id:=by
 unfold fV;rw[List.foldl_append];rfl
theorem XN (now:Int) (g:bS) (L:List (List Int)) (id:Int):(nY now g L id).length=L.length:=by simp[nY]
theorem AG (now:Int) (g:bS):∀(ids:List Int) (L:List (List Int)),(fV now g L ids).length=L.length
 | [],_=>rfl
 | id::ids,L=>by
  show(fV now g (nY now g L id) ids).length=_;rw[AG now g ids,XN]
theorem amO {now:Int} {g:bS} {L:List (List Int)} {id:Int} (h:dw now g id<L.length) (i:Nat):(nY now g L id).getD i []=if i=dw now g id then L.getD i []++[id]else L.getD i []:=by
 unfold nY;simp only[List.getD_eq_getElem?_getD,List.getElem?_set];by_cases hi:dw now g id=i
 ·subst hi;simp[h]
 ·have hi':¬i=dw now g id:=fun e=>hi e.symm;simp[hi,hi']
structure gK (now:Int) (L:List (List Int)) (g:bS):Prop where
 tk:aN now
 len:L.length=169
 due:∀id d,g id=some d->(1<=id/\id<=48)/\aN d
 at_:∀i id,id∈L.getD i []↔∃d,g id=some d/\br now.toNat d.toNat=i
 nd:∀i,(L.getD i []).Nodup
theorem Bd {n:Int} (h:aN n):∃k:Nat,n=(k:Int)/\k<=2 ^ 60:=⟨n.toNat,by unfold aN at h;omega,by unfold aN at h;omega⟩
theorem ur {n:Int} (h:aN n):n.toNat<=2 ^ 60:=by unfold aN at h;omega
theorem wc {now:Int} {g:bS} {id d:Int} (hn:aN now) (hd:aN d) (h:g id=some d):dw now g id<169:=by
 unfold dw;rw[h];have:=ace (now:=now.toNat) (due:=d.toNat) (ur hd) (ur hn);simp only[Option.getD_some];omega
theorem Fy {l:List Int} (h:l.Nodup) (hm:∀id∈l,1<=id/\id<=48):l.length<=48:=by
 have:=h.length_le_of_subset (l₂:=(List.range 48).map (fun(k:Nat)=>(k:Int)+1)) (fun v hv=>by
  have:=hm v hv;exact List.mem_map.2 ⟨v.toNat-1,List.mem_range.2 (by omega),by omega⟩)
 simpa using this
theorem gK.tY {now:Int} {L:List (List Int)} {g:bS} (h:gK now L g) (i:Nat):(L.getD i []).length<=48:=
 Fy (h.nd i) fun id hid=>by
  obtain⟨d,hd,_⟩:=(h.at_ i id).1 hid;exact(h.due id d hd).1
theorem ER {now:Int} {g:bS}:∀(ids:List Int) (L:List (List Int)) (hids:ids.Nodup) (hix:∀id∈ids,dw now g id<L.length) (hno:∀id∈ids,∀i,id∉L.getD i []) (hnd:∀i,(L.getD i []).Nodup),
  (∀i id,id∈(fV now g L ids).getD i []↔id∈L.getD i []∨(id∈ids/\dw now g id=i))/\∀i,((fV now g L ids).getD i []).Nodup
 | [],L,_,_,_,hnd=>⟨fun i id=>by simp[fV],hnd⟩
 | x::ids,L,hids,hix,hno,hnd=>by
  have hc:=List.nodup_cons.1 hids;have hx:=hix x (List.mem_cons_self);have e:=amO hx
  obtain⟨h1,h2⟩:=ER (now:=now) (g:=g) ids (nY now g L x) hc.2 (fun id h=>by rw[XN];exact hix id (List.mem_cons_of_mem _ h)) (fun id h i=>by
   rw[e i];split
   ·rw[List.mem_append,List.mem_singleton];rintro(h'|rfl)
    ·exact hno id (List.mem_cons_of_mem _ h) i h'
    ·exact hc.1 h
   ·exact hno id (List.mem_cons_of_mem _ h) i) (fun i=>by
   rw[e i];split
   ·refine List.nodup_append.2 ⟨hnd i,by simp,fun a ha b hb=>?_⟩;rw[List.mem_singleton]at hb;subst hb;rintro rfl;exact hno a List.mem_cons_self i ha
   ·exact hnd i)
  refine⟨fun i id=>?_,h2⟩;show id∈(fV now g (nY now g L x) ids).getD i []↔_;rw[h1,e i];split
  ·rename_i hi;subst hi;simp only[List.mem_append,List.mem_singleton,List.mem_cons];constructor
   ·rintro((h|h)|h)
    ·exact .inl h
    ·have h:id=x:=by simpa using h
     subst h;exact .inr ⟨.inl rfl,rfl⟩
    ·exact .inr ⟨.inr h.1,h.2⟩
   ·rintro(h|⟨rfl|h,h'⟩)
    ·exact .inl (.inl h)
    ·exact .inl (.inr (by simp))
    ·exact .inr ⟨h,h'⟩
  ·rename_i hi;simp only[List.mem_cons];constructor
   ·rintro(h|h)
    ·exact .inl h
    ·exact .inr ⟨.inr h.1,h.2⟩
   ·rintro(h|⟨rfl|h,h'⟩)
    ·exact .inl h
    ·exact absurd h'.symm hi
    ·exact .inr ⟨h,h'⟩
def mw (g:bS) (id d:Int):bS:=fun j=>if j=id then some d else g j
def lK (g:bS) (id:Int):bS:=fun j=>if j=id then none else g j
theorem gK.add {now:Int} {L:List (List Int)} {g:bS} (h:gK now L g) {id d:Int} (hid:1<=id/\id<=48) (hd:aN d) (hg:g id=none):gK now (fV now (mw g id d) L [id]) (mw g id d):=by
 have hgp:mw g id d id=some d:=by simp[mw]
 have hno:∀i,id∉L.getD i []:=fun i hi=>by
  obtain⟨d',h',_⟩:=(h.at_ i id).1 hi;rw[hg]at h';cases h'
 obtain⟨h1,h2⟩:=ER (now:=now) (g:=mw g id d) [id] L (by simp) (fun x hx=>by
  rw[List.mem_singleton]at hx;subst hx;rw[h.len]
  exact wc h.tk hd hgp) (fun x hx i=>by
  rw[List.mem_singleton]at hx;subst hx;exact hno i) h.nd
 refine⟨h.tk,by rw[AG];exact h.len,fun j e he=>?_,fun i j=>?_,h2⟩
 ·unfold mw at he;split at he
  ·cases he;rename_i hj;rw[hj];exact⟨hid,hd⟩
  ·exact h.due j e he
 ·rw[h1,h.at_];simp only[List.mem_singleton];by_cases hj:j=id
  ·subst hj;rw[hg,hgp];simp[dw,hgp]
  ·have e:mw g id d j=g j:=by simp[mw,hj]
   rw[e];simp[hj]
theorem gK.del {now:Int} {L:List (List Int)} {g:bS} (h:gK now L g) {id d:Int} (hg:g id=some d):gK now (L.set (dw now g id) ((L.getD (dw now g id) []).filter fun x=>!(x==id))) (lK g id):=by
 have hlt:dw now g id<L.length:=by rw[h.len];exact wc h.tk (h.due id d hg).2 hg
 have e:∀i,(L.set (dw now g id) ((L.getD (dw now g id) []).filter fun x=>!(x==id))).getD i []=if i=dw now g id then(L.getD i []).filter (fun x=>!(x==id))else L.getD i []:=fun i=>by
  simp only[List.getD_eq_getElem?_getD,List.getElem?_set];by_cases hi:dw now g id=i
  ·subst hi;simp[hlt]
  ·have hi':¬i=dw now g id:=fun e=>hi e.symm;simp[hi,hi']
 refine⟨h.tk,by simpa using h.len,fun j e he=>?_,fun i j=>?_,fun i=>?_⟩
 ·unfold lK at he;split at he
  ·cases he
  ·exact h.due j e he
 ·rw[e i];by_cases hj:j=id
  ·subst hj;have:lK g j j=none:=by simp[lK]
   rw[this];split
   ·simp
   ·rename_i hi;constructor
    ·intro hm;obtain⟨d',h1,h2⟩:=(h.at_ i j).1 hm;refine absurd ?_ hi;unfold dw;rw[h1];exact h2.symm
    ·rintro⟨_,h1,_⟩;cases h1
  ·have e2:lK g id j=g j:=by simp[lK,hj]
   rw[e2,<-h.at_];split
   ·simp[hj]
   ·exact Iff.rfl
 ·rw[e i];split
  ·exact(h.nd i).filter _
  ·exact h.nd i
def dd (L:List (List Int)) (a k:Nat):List (List Int):=L.take a++List.replicate k []++L.drop (a+k)
theorem Ss (L:List (List Int)) (a:Nat):dd L a 0=L:=by simp[dd]
theorem mv {L:List (List Int)} {a k:Nat} (h:a+k<=L.length):(dd L a k).length=L.length:=by simp[dd];omega
theorem ny {L:List (List Int)} {a k:Nat} (h:a+k<=L.length) (i:Nat):(dd L a k).getD i []=if a<=i/\i<a+k then[]else L.getD i []:=by
 unfold dd;simp only[List.getD_eq_getElem?_getD];by_cases h1:i<a
 ·rw[if_neg (by omega),List.append_assoc,List.getElem?_append_left (by simp;omega),List.getElem?_take_of_lt h1]
 ·rw[List.append_assoc,List.getElem?_append_right (by simp;omega)];have e:(L.take a).length=a:=by simp;omega
  rw[e];by_cases h2:i<a+k
  ·rw[if_pos ⟨by omega,h2⟩,List.getElem?_append_left (by simp;omega),List.getElem?_replicate,if_pos (by omega)];rfl
  ·rw[if_neg (by omega),List.getElem?_append_right (by simp;omega),List.length_replicate,List.getElem?_drop,show a+k+(i-a-k)=i by omega]
theorem U5 {L M:List (List Int)} (hl:L.length=M.length) (h:∀i,L.getD i []=M.getD i []):L=M:=by
 apply List.ext_getElem hl;intro i h1 h2;have:=h i;simpa [List.getD_eq_getElem?_getD,h1,h2]using this
theorem aaB {L:List (List Int)} {a k:Nat} (h:a+k<L.length):(dd L a k).set (a+k) []=dd L a (k+1):=by
 refine U5 (by rw[List.length_set,mv (by omega),mv (by omega)]) fun i=>?_;rw[ny (by omega)]
 have e:((dd L a k).set (a+k) []).getD i []=if a+k=i then[]else(dd L a k).getD i []:=by
  simp only[List.getD_eq_getElem?_getD,List.getElem?_set,mv (show a+k<=L.length by omega)];by_cases hi:a+k=i
  ·rw[if_pos hi,if_pos hi,if_pos (by omega)];rfl
  ·rw[if_neg hi,if_neg hi]
 rw[e,ny (by omega)];by_cases hi:a+k=i
 ·rw[if_pos hi,if_pos (by omega)]
 ·rw[if_neg hi];by_cases h1:a<=i/\i<a+k
  ·rw[if_pos h1,if_pos (by omega)]
  ·rw[if_neg h1,if_neg (by omega)]
def cz (L:List (List Int)) (a k:Nat):List Int:=((List.range k).map fun j=>L.getD (a+j) []).flatten
theorem rm (L:List (List Int)) (a k:Nat):cz L a (k+1)=cz L a k++L.getD (a+k) []:=by
 unfold cz;rw[List.range_succ,List.map_append,List.flatten_append];simp
theorem zH (L:List (List Int)) (a:Nat):cz L a 0=[]:=rfl
theorem tK {L:List (List Int)} {a k:Nat} {id:Int}:id∈cz L a k↔∃i,(a<=i/\i<a+k)/\id∈L.getD i []:=by
 unfold cz;rw[List.mem_flatten];constructor
 ·rintro⟨l,hl,hid⟩;obtain⟨j,hj,rfl⟩:=List.mem_map.1 hl;have:=List.mem_range.1 hj;exact⟨a+j,⟨by omega,by omega⟩,hid⟩
 ·rintro⟨i,hi,hid⟩;exact⟨_,List.mem_map.2 ⟨i-a,List.mem_range.2 (by omega),rfl⟩,by rw[show a+(i-a)=i by omega];exact hid⟩
theorem Ta (L:List (List Int)) (a:Nat):∀k,cz L 0 (a+k)=cz L 0 a++cz (dd L 0 a) a k∨¬a+k<=L.length
 | 0=>.inl (by simp[zH])
 | k+1=>by
  by_cases h:a+(k+1)<=L.length
  ·refine .inl ?_;rcases Ta L a k with ih|ih
   ·rw[show a+(k+1)=(a+k)+1 by omega,rm,ih,rm,List.append_assoc,Nat.zero_add,ny (by omega),if_neg (by omega)]
   ·omega
  ·exact .inr h
theorem aaA {L:List (List Int)} {a k:Nat} (h:a+k<=L.length):dd (dd L 0 a) a k=dd L 0 (a+k):=by
 have h0:(dd L 0 a).length=L.length:=mv (by omega);refine U5 (by rw[mv (by rw[h0];exact h),h0,mv (by omega)]) fun i=>?_;rw[ny (by rw[h0];exact h),ny (by omega),ny (by omega)];by_cases h1:a<=i/\i<a+k
 ·rw[if_pos h1,if_pos (by omega)]
 ·rw[if_neg h1];by_cases h2:i<a
  ·rw[if_pos (by omega),if_pos (by omega)]
  ·rw[if_neg (by omega),if_neg (by omega)]
theorem gK.go {now now':Int} {L:List (List Int)} {g:bS} (h:gK now L g) (hn:aN now') (hlt:now<now') :
  let N:=aH now'.toNat now.toNat*8+(ej now'.toNat (aH now'.toNat now.toNat)+1)
  N<=168/\(cz L 0 N).Nodup/\(∀id∈cz L 0 N,∃d,g id=some d/\aN d)/\gK now' (fV now' g (dd L 0 N) (cz L 0 N)) g:=by
 intro N;have h0:=ur h.tk;have h0':=ur hn;have hlt':now.toNat<now'.toNat:=by have:=h.tk;unfold aN at this;omega
 have hlv:=tG h0' h0;have hdg:=pW now'.toNat (aH now'.toNat now.toNat);have hN:N<=168:=by omega
 have hNl:0+N<=L.length:=by rw[h.len];omega
 have hmem:∀id∈cz L 0 N,∃d,g id=some d/\aN d:=fun id hid=>by
  obtain⟨i,_,hi⟩:=tK.1 hid;obtain⟨d,hd,_⟩:=(h.at_ i id).1 hi;exact⟨d,hd,(h.due id d hd).2⟩
 have hnd:∀k,k<=N->(cz L 0 k).Nodup:=by
  intro k
  induction k with
  | zero=>intro _;rw[zH];exact List.nodup_nil
  | succ k ih=>
   intro hk;rw[rm];refine List.nodup_append.2 ⟨ih (by omega),h.nd _,fun a ha b hb=>?_⟩;rintro rfl;obtain⟨i,hi,hm⟩:=tK.1 ha;obtain⟨d,hd,e1⟩:=(h.at_ i a).1 hm;obtain⟨d',hd',e2⟩:=(h.at_ _ a).1 hb;rw[hd]at hd';cases hd';omega
 refine⟨hN,hnd N (Nat.le_refl _),hmem,?_⟩;have eE:=ny hNl
 obtain⟨h1,h2⟩:=ER (now:=now') (g:=g) (cz L 0 N) (dd L 0 N) (hnd N (Nat.le_refl _)) (fun id hid=>by
  obtain⟨d,hd,ht⟩:=hmem id hid;rw[mv hNl,h.len]
  exact wc hn ht hd) (fun id hid i hi=>by
  rw[eE i]at hi;split at hi
  ·cases hi
  ·rename_i hni;obtain⟨i',hi',hm⟩:=tK.1 hid;obtain⟨d,hd,e1⟩:=(h.at_ i' id).1 hm;obtain⟨d',hd',e2⟩:=(h.at_ i id).1 hi;rw[hd]at hd';cases hd'
   omega) (fun i=>by
  rw[eE i];split
  ·exact List.nodup_nil
  ·exact h.nd i)
 refine⟨hn,by rw[AG,mv hNl];exact h.len,h.due,fun i id=>?_,h2⟩;rw[h1,eE i];have ixe:∀d,g id=some d->dw now' g id=br now'.toNat d.toNat:=fun d hd=>by unfold dw;rw[hd];rfl
 have keep:∀d,g id=some d->¬(0<=br now.toNat d.toNat/\br now.toNat d.toNat<0+N)->br now'.toNat d.toNat=br now.toNat d.toNat:=fun d hd hni=>by
  by_cases hr:d.toNat<=now.toNat
  ·unfold br;rw[if_pos hr,if_pos (by omega)]
  ·have e0:br now.toNat d.toNat=aH d.toNat now.toNat*8+ej d.toNat (aH d.toNat now.toNat):=by unfold br;rw[if_neg hr]
   have hd8:=pW d.toNat (aH d.toNat now.toNat);refine(acd hlt' (by omega) ?_).2;rw[e0]at hni;rcases Nat.lt_trichotomy (aH now'.toNat now.toNat) (aH d.toNat now.toNat)with hl|hl|hl
   ·exact .inl hl
   ·refine .inr ⟨hl.symm,?_⟩;rw[hl];show ej now'.toNat (aH d.toNat now.toNat)<_;have hNe:N=aH d.toNat now.toNat*8+(ej now'.toNat (aH d.toNat now.toNat)+1):=by show aH now'.toNat now.toNat*8+(ej now'.toNat (aH now'.toNat now.toNat)+1)=_;rw[hl]
    omega
   ·exfalso;have:N=aH now'.toNat now.toNat*8+(ej now'.toNat (aH now'.toNat now.toNat)+1):=rfl;omega
 constructor
 ·rintro(hm|⟨hm,hi⟩)
  ·split at hm
   ·cases hm
   ·rename_i hni;obtain⟨d,hd,e1⟩:=(h.at_ i id).1 hm;subst e1;exact⟨d,hd,keep d hd hni⟩
  ·obtain⟨d,hd,_⟩:=hmem id hm;exact⟨d,hd,by rw[<-ixe d hd];exact hi⟩
 ·rintro⟨d,hd,e1⟩;have hat:=(h.at_ (br now.toNat d.toNat) id).2 ⟨d,hd,rfl⟩;by_cases hni:0<=br now.toNat d.toNat/\br now.toNat d.toNat<0+N
  ·exact .inr ⟨tK.2 ⟨_,hni,hat⟩,by rw[ixe d hd];exact e1⟩
  ·refine .inl ?_;have:=keep d hd hni;rw[e1]at this;subst this;rw[if_neg hni];exact hat
end Go.Dav
