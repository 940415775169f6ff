/- What functions of the program come to, part 3; the texts are made small to keep within a claim. -/
import Derived.RangeFuncKeeps
import Derived.RangeFuncLeaves
import Derived.RangeFuncFrom
import Derived.Shelf.Abstract
import Derived.WalkKit
import Derived.OwnWalkIn
import Derived.TacticsInMore
import Derived.LoopNIn
import Derived.LoopIn
import Derived.Stop.RegionWithIn
import Derived.Laws.StructEq
import Derived.Test.YtobclpijhmkniaaGreatDoorPartB
set_option linter.unusedVariables false
set_option linter.unusedSimpArgs false
set_option linter.unusedSectionVars false
namespace Go.Dav
open Go.Proofs
open _root_.Option renaming none→ag,some→aa
open _root_.Prod renaming fst→eX
open _root_.List renaming getD_eq_getElem?_getD→aQ,getElem?_map→eZ,getElem?_eq_getElem→cS,getElem?_eq_none→fB,map_set→eY,ext_getElem?→cT,getElem?_set→cB,map_map→uA,replicate→aD,getElem?_replicate→iJ,nodup_nil→iK,length_replicate→fC,eq_nil_of_length_eq_zero→mq,mem_map→cv,length_eq_zero_iff→nh,length_set→bZ,nodup_append→iW,nodup_cons→ni,length_cons→im,range→b8,getElem?_take→gV
open _root_.Bool renaming false→ae,true→ah,false_and→iI,true_and→fc
open _root_.Nat renaming le_of_eq→bG,le_refl→b7,mul_one→ez,le_trans→aX,lt_of_lt_of_le→jV
open Value renaming int→ay
open _root_.Iff renaming rfl→bB
open _root_.Int renaming tmod_eq_emod_of_nonneg→px
open Ending renaming returned→cj
open IntKind renaming wrap→aT
theorem H3:o0 Tryz.prog 190 3 324 (.pointer ag):=⟨by kernel_rfl,by kernel_rfl,by kernel_rfl,by kernel_rfl⟩
abbrev Th:=Int×BV×Int×Bool×Bool×Int
def sT (t:Th):List Value:=[I t.1,.int .u64 (mi t.2.1),I t.2.2.1,.bool t.2.2.2.1,.bool t.2.2.2.2.1,I t.2.2.2.2.2]
abbrev TQ:=List (Option (Nat×Th))
abbrev TL:=List (Option Th)
def qx:Ob (Option (Nat×Th)):=λw F x=>match x with
 | none=>∀i,¬F i
 | some q=>Rw q.1 250 sT w F q.2
instance Frame.op:Frame qx where
 ak:=by
  rintro w w' F G (_|q) h k a
  ·exact h
  ·exact(Frame.rw ..).ak h k a
 lt:=by
  rintro w F (_|q) h
  ·exact λi hi=>absurd hi (h i)
  ·exact(Frame.rw ..).lt h
def gO (qs:TQ) (id:Int):Option Nat:=if 1<=id then(qs.getD (id.toNat-1) ag).map eX else ag
def aR (S:TL) (id:Int):Option Th:=if 1<=id then S.getD (id.toNat-1) ag else ag
def El (b2 b3:Nat) (c:Int):List Value:=[pt b2,I c,.map (aa b3)]
def fP (b:Nat):Value:=pt b
abbrev TR:=(List Bool×((Int->Option Nat)×Nat))×(Int×TQ)
def iE (b b2 b3:Nat):Ob TR:=aF (aF (df b2) (bF b3 fP)) (aF (Rw b 192 (El b2 b3)) (Fam qx))
instance Frame.En (b b2 b3:Nat):Frame (iE b b2 b3):=by unfold iE;infer_instance
structure fU (x:TR) (S:TL):Prop where
 o:x.1.1=x.2.2.map Option.isSome
 s:x.2.2.map (Option.map Prod.snd)=S
 g:∀id,x.1.2.1 id=gO x.2.2 id
 len:x.2.2.length=32
def eL (b:Nat):Ob (Int×TL):=λw F x=>∃b2 b3 y,iE b b2 b3 w F y/\y.2.1=x.1/\fU y x.2
instance Frame.yg (b:Nat):Frame (eL b) where
 ak:=λ⟨b2,b3,y,h,r⟩ k a=>⟨b2,b3,y,(Frame.En b b2 b3).ak h k a,r⟩
 lt:=λ⟨b2,b3,y,h,_⟩=>(Frame.En b b2 b3).lt h
theorem ai.yg {b b2 b3:Nat} {w w':World} {F:Fp} {y:TR} {S:TL} (h:ai (iE b b2 b3) w w' F y) (k:fU y S):ai (eL b) w w' F (y.2.1,S):=by
 obtain⟨a,d,e⟩:=h;exact⟨a,⟨b2,b3,y,d,rfl,k⟩,e⟩
section
variable {b b2 b3:Nat} {w:World} {F:Fp} {y:TR}
theorem iE.slot (h:iE b b2 b3 w F y):∃F1,df b2 w F1 y.1.1/\∀w' a,ai (df b2) w w' F1 a->ai (iE b b2 b3) w w' F ((a,y.1.2),y.2):=by
 unfold iE at h⊢;obtain⟨F1,d,e⟩:=h.left;obtain⟨F2,f,k2⟩:=d.left;exact⟨F2,f,λw' a i=>e _ _ (k2 _ _ i)⟩
theorem iE.mp (h:iE b b2 b3 w F y):∃F1,bF b3 fP w F1 y.1.2/\∀w' a,ai (bF b3 fP) w w' F1 a->ai (iE b b2 b3) w w' F ((y.1.1,a),y.2):=by
 unfold iE at h⊢;obtain⟨F1,d,e⟩:=h.left;obtain⟨F2,f,k2⟩:=d.right;exact⟨F2,f,λw' j i=>e _ _ (k2 _ _ i)⟩
theorem iE.ax (h:iE b b2 b3 w F y):aL w b (El b2 b3 y.2.1) 192:=by
 unfold iE at h;obtain⟨F1,a,e⟩:=h.right;obtain⟨F2,d,k2⟩:=a.left;exact d.ax
theorem iE.lJ (h:iE b b2 b3 w F y):∃F1,Fam qx w F1 y.2.2/\∀w' a,ai (Fam qx) w w' F1 a->ai (iE b b2 b3) w w' F (y.1,(y.2.1,a)):=by
 unfold iE at h⊢;obtain⟨F1,d,e⟩:=h.right;obtain⟨F2,f,k2⟩:=d.right;exact⟨F2,f,λw' j i=>e _ _ (k2 _ _ i)⟩
end
theorem Hl {qs:TQ} {i:Nat} (hi:i<qs.length) (v:Option (Nat×Th)) (id:Int):gO (qs.set i v) id=if id=(i:Int)+1 then v.map eX else gO qs id:=by
 unfold gO;by_cases h1:1<=id
 ·rw[ar h1,ar h1];by_cases a:id=(i:Int)+1
  ·subst a;have d:((i:Int)+1).toNat-1=i:=by omega
   rw[ar rfl,d];simp[aQ,hi]
  ·rw[af a];have:i≠id.toNat-1:=by omega
   simp[aQ,this]
 ·rw[af h1,af h1,af (by omega)]
section
variable {o:List Bool} {g:(Int->Option Nat)×Nat} {c:Int} {qs:TQ} {S:TL}
theorem fU.at (h:fU ((o,g),(c,qs)) S) {i:Nat} (hi:i<qs.length):S[i]?=aa ((qs[i]).map Prod.snd):=by
 have:=h.s;simp only at this;rw[<-this,eZ,cS hi];rfl
theorem fU.IQ (h:fU ((o,g),(c,qs)) S):S.length=32:=by have:=h.s;have:=h.len;simp only at *;rw[<-h.s];simpa using this
theorem fU.sat (h:fU ((o,g),(c,qs)) S) (id:Int):(∃i,∃hi:i<qs.length,id=(i:Int)+1/\aR S id=qs[i].map Prod.snd/\gO qs id=qs[i].map eX)∨(aR S id=ag/\gO qs id=ag/\cG o id=ae):=by
 have a:=h.len;have hs:=h.IQ;simp only at a;by_cases h1:1<=id/\id<=32
 ·refine .inl ⟨id.toNat-1,by omega,by omega,?_,?_⟩
  ·have:=h.at (i:=id.toNat-1) (by omega);rw[aR,ar h1.1,aQ,this];rfl
  ·rw[gO,ar h1.1,aQ,cS (by omega)];rfl
 ·refine .inr ⟨?_,?_,?_⟩
  ·unfold aR;split
   ·rw[aQ,fB (by omega)];rfl
   ·rfl
  ·unfold gO;split
   ·rw[aQ,fB (by omega)];rfl
   ·rfl
  ·have d:=h.o;simp only at d;have:o.length=32:=by rw[d];simpa using a
   cases e:cG o id with
   | false=>rfl
   | true=>have:=sq e;omega
theorem fU.has (h:fU ((o,g),(c,qs)) S) {i:Nat} (hi:i<qs.length):cG o ((i:Int)+1)=qs[i].isSome:=by
 have a:=h.o;simp only at a;rw[pM,a,aQ,eZ,cS hi];rfl
theorem map_set {α β:Type} (f:α->β) (l:List α) (i:Nat) (a:α):(l.set i a).map f=(l.map f).set i (f a):=eY
theorem fU.put (h:fU ((o,g),(c,qs)) S) {i:Nat} (hi:i<qs.length) (q:Nat×Th):fU ((o.set i ah,fe g ((i:Int)+1) q.1),(c,qs.set i (aa q))) (S.set i (aa q.2)):=by
 have a:=h.o;have hs:=h.s;simp only at a hs;refine⟨by simp only[map_set,a];rfl,by simp only[map_set,hs];rfl,λid=>?_,by simpa using h.len⟩;simp only[fe];rw[Hl hi];split
 ·rfl
 ·exact h.g id
theorem fU.del (h:fU ((o,g),(c,qs)) S) {i:Nat} (hi:i<qs.length):fU ((o.set i ae,gK g ((i:Int)+1)),(c,qs.set i ag)) (S.set i ag):=by
 have a:=h.o;have hs:=h.s;simp only at a hs;refine⟨by simp only[map_set,a];rfl,by simp only[map_set,hs];rfl,λid=>?_,by simpa using h.len⟩;simp only[gK];rw[Hl hi];split
 ·rfl
 ·exact h.g id
theorem fU.ak (h:fU ((o,g),(c,qs)) S) {i:Nat} (hi:i<qs.length) {q:Nat×Th} (a:qs[i]=aa q) (t:Th):fU ((o,g),(c,qs.set i (aa (q.1,t)))) (S.set i (aa t)):=by
 have d:=h.o;have hs:=h.s;simp only at d hs;refine⟨?_,by simp only[map_set,hs];rfl,λid=>?_,by simpa using h.len⟩
 ·simp only[map_set,d];apply cT;intro j;rw[cB];by_cases f:i=j
  ·subst f;simp[hi,a]
  ·simp[f]
 ·simp only;rw[Hl hi,h.g id];simp only;split
  ·rename_i e;subst e;rw[gO,ar (by omega)];have k:((i:Int)+1).toNat-1=i:=by omega
   rw[k,aQ,cS hi,a];rfl
  ·rfl
end
abbrev TX:=Int×TL
def jG (S:TL):List Bool:=S.map Option.isSome
def oQ (x:TX) (p:Int) (m:BV):Prop:=0<=p/\p<8/\lU x.1 m=ah
instance (x:TX) (p:Int) (m:BV):Decidable (oQ x p m):=by unfold oQ;infer_instance
def dW (x:TX) (p:Int) (m:BV):Int×Int:=if oQ x p m then dX (jG x.2)else(0,2)
def jM (x:TX) (p:Int) (m:BV):TX:=if oQ x p m/\(dX (jG x.2)).2=0 then(x.1,x.2.set ((dX (jG x.2)).1.toNat-1) (aa (p,m,0,ae,ae,0)))else x
def wX (x:TX) (id:Int):Int:=match aR x.2 id with|some _=>0|none=>4
def kP (x:TX) (id:Int):TX:=match aR x.2 id with|some _=>(x.1,x.2.set (id.toNat-1) ag)|none=>x
def di (x:TX) (id:Int):Th×Int:=match aR x.2 id with|some t=>(t,0)|none=>((0,0,0,ae,ae,0),4)
def mZ (x:TX) (id:Int) (m:BV):Int:=match aR x.2 id with|some _=>if lU x.1 m then 0 else 2|none=>4
def jU (x:TX) (id:Int) (m:BV):TX:=match aR x.2 id with|some t=>if lU x.1 m then(x.1,x.2.set (id.toNat-1) (aa (t.1,m,t.2.2)))else x|none=>x
def Ig (x:TX) (id c:Int):Int:=match aR x.2 id with|some _=>if 0<=c/\c<x.1 then 0 else 3|none=>4
def j8 (x:TX) (id c:Int) (f:Bool):TX:=match aR x.2 id with|some t=>if 0<=c/\c<x.1 then(x.1,x.2.set (id.toNat-1) (aa (t.1,t.2.1,c,f,t.2.2.2.2)))else x|none=>x
def ya (x:TX) (id:Int):Int:=match aR x.2 id with|some t=>if t.2.2.2.2.1 then 6 else 0|none=>4
def nO (x:TX) (id n:Int):TX:=match aR x.2 id with|some t=>if t.2.2.2.2.1 then x else(x.1,x.2.set (id.toNat-1) (aa (t.1,t.2.1,t.2.2.1,t.2.2.2.1,ah,n)))|none=>x
def Ez (x:TX) (id:Int):Int×Int:=match aR x.2 id with|some t=>if t.2.2.2.2.1 then(t.2.2.2.2.2,0)else(0,6)|none=>(0,4)
def l8 (x:TX) (id:Int):TX:=match aR x.2 id with|some t=>if t.2.2.2.2.1 then(x.1,x.2.set (id.toNat-1) (aa (t.1,t.2.1,t.2.2.1,t.2.2.2.1,ae,0)))else x|none=>x
def gl (x:TX):List Int:=nJ (jG x.2) x.2.length
section
variable {b:Nat} {w:World} {F:Fp} {x:TX}
theorem Wg {qs:TQ} {G:Fp} (h:Fam qx w G qs) {i:Nat} (hi:i<qs.length):ai (Fam qx) w w G (qs.set i ag):=by
 obtain⟨F1,a,_,k⟩:=Fam.at h hi;exact k w ag ⟨λ_=>False,λ_ h=>h,au.refl _ _,λ_ h=>h.elim⟩
theorem Wf {qs:TQ} {G:Fp} (h:Fam qx w G qs) {i:Nat} (hi:i<qs.length) {w':World} {t:Th} (a:dr w w' (.cells (sT t).toArray 250 (0,0))):ai (Fam qx) w w' G (qs.set i (aa (w.heap.size,t))):=by
 obtain⟨F1,d,_,k⟩:=Fam.at h hi;exact k w' (aa (w.heap.size,t)) ⟨λi=>i=w.heap.size,Rw.new a rfl,(a.ak no).nn,λi hi=>.inr (bG hi.symm)⟩
structure Found (b:Nat) (w:World) (F:Fp) (x:TX) (i:Nat) (t:Th) (bi:Nat) (Fi:Fp):Prop where
 rw:Rw bi 250 sT w Fi t
 cP:∀w' t',ai (Rw bi 250 sT) w w' Fi t'->ai (eL b) w w' F (x.1,x.2.set i (aa t'))
theorem wZ (h:eL b w F x) (id:Int):Cx 236 #[pt b,I id] w λe w'=>w'=w/\
  ((aR x.2 id=ag/\e=Z (.tuple #[.pointer ag,I 4]))∨∃(i:Nat) (t:Th) (bi:Nat) (Fi:Fp),id=(i:Int)+1/\aR x.2 id=aa t/\e=Z (.tuple #[pt bi,I 0])/\Found b w F x i t bi Fi):=by
 obtain⟨b2,b3,⟨⟨o,g⟩,c,qs⟩,h,l,hI⟩:=h;obtain⟨x1,S⟩:=x;simp only at l hI⊢;subst l;refine agN ?_;obtain⟨F1,n,_⟩:=h.mp;have a:=jL H3 n id ah;have m:=hI.g id;simp only at m a;rw[m]at a;refine⟨λg=>by simp at g,λ_=>⟨_,rfl,_,h.ax.cell rfl,?_⟩⟩;rcases hI.sat id with⟨i,hi,rfl,d,k2⟩|⟨d,k2,_⟩
 ·cases f:qs[i]with
  | none=>
   rw[f]at d k2;rw[k2]at a
   exact⟨_,_,a,λ_=>⟨rfl,.inl ⟨d,rfl⟩⟩,λg=>by simp at g⟩
  | some q=>
   obtain⟨bi,t⟩:=q;rw[f]at d k2;rw[k2]at a;obtain⟨G,p,kf⟩:=h.lJ;obtain⟨Fi,j,_,k⟩:=Fam.at p (i:=i) hi;simp only at j kf;rw[f]at j;refine⟨_,_,a,λg=>by simp at g,λ_=>⟨rfl,.inr ⟨i,t,bi,Fi,rfl,d,rfl,j,λw' t' r=>?_⟩⟩⟩;have:=kf _ _ (k w' (aa (bi,t')) r);exact ai.yg this (hI.ak hi f t')
 ·rw[k2]at a;exact⟨_,_,a,λ_=>⟨rfl,.inl ⟨d,rfl⟩⟩,λg=>by simp at g⟩
theorem eL.ax (h:eL b w F x):∃b2 b3,aL w b (El b2 b3 x.1) 192:=by
 obtain⟨b2,b3,y,h,a,hI⟩:=h;refine⟨b2,b3,?_⟩;rw[<-a];exact h.ax
theorem R8 (h:eL b w F x) (m:BV):Cx 232 #[pt b,.int .u64 (mi m)] w λe w'=>e=Z (.bool (lU x.1 m))/\w'=w:=by
 obtain⟨b2,b3,hB⟩:=h.ax;refine agJ ?_;rw[vh];refine⟨λg=>⟨_,rfl,_,hB.cell rfl,⟨(tI x.1 w).mono ?_⟩⟩,λg=>⟨by rw[lU,g,iI],rfl⟩⟩;rintro e w1 ⟨rfl,rfl⟩;refine⟨_,rfl,⟨(zS m _ w1).mono ?_⟩⟩;rintro e a ⟨rfl,rfl⟩;exact⟨_,rfl,by rw[lU,g,fc],rfl⟩
theorem vq {bi:Nat} {Fi:Fp} {t t':Th} (h:Rw bi 250 sT w Fi t) {k:Nat} {v:Value} (f:k<6) (d:ba (sT t) k [v]=sT t') {K:World->Prop} (e:∀w',ai (Rw bi 250 sT) w w' Fi t'->K w'):Wr w ((⟨bi,0,ag⟩:Addr).add k) [v] K:=
 h.ax.wr (by simp[sT];omega) λw' a=>e w' (h.fN (s':=t') a.U (by rw[<-d];exact a.aK))
theorem Td (h:eL b w F x) (n:Int) (m:BV):Cx 129 #[pt b,I n,.int .u64 (mi m)] w λe w'=>e=Z (I (mZ x n m))/\ai (eL b) w w' F (jU x n m):=by
 refine afb ?_;refine⟨(wZ h n).mono ?_⟩;rintro e w1 ⟨rfl,⟨a,rfl⟩|⟨i,t,bi,Fi,rfl,a,rfl,d⟩⟩
 ·simp only[mZ,jU,a];exact⟨_,_,rfl,λ_=>⟨rfl,ai.same h⟩,λg=>by simp at g⟩
 ·simp only[mZ,jU,a];refine⟨_,_,rfl,λg=>by simp at g,λ_=>⟨(R8 h m).mono ?_⟩⟩;rintro e k ⟨rfl,rfl⟩;refine⟨_,rfl,λg=>?_,λg=>?_⟩
  ·have g:lU x.1 m=ae:=by simpa using g
   simp only[g];exact⟨rfl,ai.same h⟩
  ·have g:lU x.1 m=ah:=by simpa using g
   simp only[g];refine⟨_,rfl,vq d.rw (t':=(t.1,m,t.2.2)) (by omega) rfl λw' f=>⟨rfl,?_⟩⟩;have:=d.cP _ _ f;have j:((i:Int)+1).toNat-1=i:=by omega
   rw[j];exact this
theorem QX (h:eL b w F x) (n c:Int) (f:Bool):Cx 234 #[pt b,I n,I c,.bool f] w λe w'=>e=Z (I (Ig x n c))/\ai (eL b) w w' F (j8 x n c f):=by
 refine agL ?_;obtain⟨b2,b3,hB⟩:=h.ax;refine⟨(wZ h n).mono ?_⟩;rintro e w1 ⟨rfl,⟨d,rfl⟩|⟨i,t,bi,Fi,rfl,d,rfl,k⟩⟩
 ·simp only[Ig,j8,d];exact⟨_,_,rfl,λ_=>⟨rfl,ai.same h⟩,λg=>by simp at g⟩
 ·simp only[Ig,j8,d];refine⟨_,_,rfl,λg=>by simp at g,λ_=>⟨λg=>⟨_,rfl,_,hB.cell rfl,λa=>?_,λa=>?_⟩,λg=>?_⟩⟩
  ·rw[af (by simp at g a;omega),af (by simp at g a;omega)];exact⟨rfl,ai.same h⟩
  ·rw[ar (by simp at g a;omega),ar (by simp at g a;omega)];refine⟨_,rfl,vq k.rw (t':=(t.1,t.2.1,c,t.2.2.2)) (by omega) rfl λs m=>?_⟩;obtain⟨F1,l,p,q⟩:=m;refine⟨_,rfl,vq l (t':=(t.1,t.2.1,c,f,t.2.2.2.2)) (by omega) rfl λu j=>⟨rfl,?_⟩⟩;have:=k.cP _ _ (ai.next l p q j);have r:((i:Int)+1).toNat-1=i:=by omega
   rw[r];exact this
  ·rw[af (by simp at g;omega),af (by simp at g;omega)];exact⟨rfl,ai.same h⟩
theorem aca (h:eL b w F x) (n c:Int):Cx 241 #[pt b,I n,I c] w λe w'=>e=Z (I (ya x n))/\ai (eL b) w w' F (nO x n c):=by
 refine agS ?_;refine⟨(wZ h n).mono ?_⟩;rintro e w1 ⟨rfl,⟨a,rfl⟩|⟨i,t,bi,Fi,rfl,a,rfl,d⟩⟩
 ·simp only[ya,nO,a];exact⟨_,_,rfl,λ_=>⟨rfl,ai.same h⟩,λg=>by simp at g⟩
 ·simp only[ya,nO,a];refine⟨_,_,rfl,λg=>by simp at g,λ_=>⟨_,rfl,_,d.rw.ax.cell rfl,λg=>?_,λg=>?_⟩⟩
  ·rw[ar g,ar g];exact⟨rfl,ai.same h⟩
  ·rw[af (by rw[g];simp),af (by rw[g];simp)];refine⟨_,rfl,vq d.rw (t':=(t.1,t.2.1,t.2.2.1,t.2.2.2.1,ah,t.2.2.2.2.2)) (by omega) rfl λq k=>?_⟩;obtain⟨F1,j,l,m⟩:=k;refine⟨_,rfl,vq j (t':=(t.1,t.2.1,t.2.2.1,t.2.2.2.1,ah,c)) (by omega) rfl λr f=>⟨rfl,?_⟩⟩;have:=d.cP _ _ (ai.next j l m f);have p:((i:Int)+1).toNat-1=i:=by omega
   rw[p];exact this
theorem aji (h:eL b w F x) (n:Int):Cx 245 #[pt b,I n] w λe w'=>e=Z (.tuple #[I (Ez x n).1,I (Ez x n).2])/\ai (eL b) w w' F (l8 x n):=by
 refine agW ?_;refine⟨(wZ h n).mono ?_⟩;rintro e w1 ⟨rfl,⟨d,rfl⟩|⟨i,t,bi,Fi,rfl,d,rfl,a⟩⟩
 ·simp only[Ez,l8,d];exact⟨_,_,rfl,λ_=>⟨rfl,ai.same h⟩,λg=>by simp at g⟩
 ·simp only[Ez,l8,d];refine⟨_,_,rfl,λg=>by simp at g,λ_=>⟨_,rfl,_,a.rw.ax.cell rfl,λg=>?_,λg=>?_⟩⟩
  ·have g:t.2.2.2.2.1=ae:=by simpa using g
   rw[af (by rw[g];simp),af (by rw[g];simp)];exact⟨rfl,ai.same h⟩
  ·have g:t.2.2.2.2.1=ah:=by simpa using g
   rw[ar g,ar g];refine⟨_,rfl,_,a.rw.ax.cell rfl,_,rfl,vq a.rw (t':=(t.1,t.2.1,t.2.2.1,t.2.2.2.1,ae,t.2.2.2.2.2)) (by omega) rfl λq k=>?_⟩;obtain⟨F1,j,l,m⟩:=k;refine⟨_,rfl,vq j (t':=(t.1,t.2.1,t.2.2.1,t.2.2.2.1,ae,0)) (by omega) rfl λr f=>⟨rfl,?_⟩⟩;have:=a.cP _ _ (ai.next j l m f);have p:((i:Int)+1).toNat-1=i:=by omega
   rw[p];exact this
theorem uW (h:eL b w F x) (n:Int):Cx 127 #[pt b,I n] w λe w'=>e=Z (.tuple #[.agg #[I (di x n).1.1,.int .u64 (mi (di x n).1.2.1),I (di x n).1.2.2.1,.bool (di x n).1.2.2.2.1,.bool (di x n).1.2.2.2.2.1,I (di x n).1.2.2.2.2.2],I (di x n).2])/\au no w w':=by
 refine ae9 ?_;refine⟨λw1 k=>?_⟩;have d:=k.ak no;have p:eL b w1 F x:=(Frame.yg b).ak h d (λ_ _ h=>h);refine⟨(wZ p n).mono ?_⟩;have f:∀{l j:World} {c:List Value},au no w l->lq l j w.heap.size c 250->au no w j:=λd a=>d.trans a.U (λi hi e=>absurd hi (by omega));rintro e l ⟨rfl,⟨m,rfl⟩|⟨i,t,bi,Fi,rfl,m,rfl,q⟩⟩
 ·simp only[di,m];refine⟨_,_,rfl,λ_=>?_,λg=>by simp at g⟩;refine k.aK.fQ (by simp) λj a=>?_;have hB:=a.aK;exact⟨_,hB.cell rfl,_,hB.cell rfl,_,hB.cell rfl,_,hB.cell rfl,_,hB.cell rfl,_,hB.cell rfl,rfl,f d a⟩
 ·simp only[di,m];have hA:=q.rw.ax;refine⟨_,_,rfl,λg=>by simp at g,λ_=>⟨_,rfl,_,hA.cell rfl,_,hA.cell rfl,_,hA.cell rfl,_,hA.cell rfl,_,hA.cell rfl,_,hA.cell rfl,?_⟩⟩;refine k.aK.fQ (by simp) λj a=>?_;have hB:=a.aK;exact⟨_,hB.cell rfl,_,hB.cell rfl,_,hB.cell rfl,_,hB.cell rfl,_,hB.cell rfl,_,hB.cell rfl,rfl,f d a⟩
theorem R0 (h:eL b w F x):Cx 181 #[pt b] w λe w'=>∃p c,e=Z (.slice p (gl x).length c)/\Loc w w' 3 p c (gl x):=by
 obtain⟨b2,b3,⟨⟨o,g⟩,c,qs⟩,h,l,hI⟩:=h;refine afV ?_;obtain⟨F1,hs,_⟩:=h.slot
 have f:o=jG x.2:=by
  have i:=hI.o;have j:=hI.s;simp only at i j;rw[i,<-j,jG,uA];congr 1;funext v;cases v<;>rfl
 have m:=hI.IQ;have a:o.length=x.2.length:=by rw[f];simp[jG]
 simp only at hs;have d:=ab7 hs;rw[a]at d;rw[f]at d;refine⟨λg=>by simp at g,λ_=>⟨_,rfl,_,by rw[yI];exact h.ax.cell rfl,⟨d.mono ?_⟩⟩⟩;rintro e w1 ⟨p,c,rfl,k⟩;exact⟨_,_,_,rfl,p,c,rfl,k⟩
theorem fU.ok {o:List Bool} {g:(Int->Option Nat)×Nat} {c:Int} {qs:TQ} {S:TL} (hI:fU ((o,g),(c,qs)) S):o=jG S:=by
 have a:=hI.o;have d:=hI.s;simp only at a d;rw[a,<-d,jG,uA];congr 1;funext v;cases v<;>rfl
theorem acp (h:eL b w F x) (i:Tab w) (p:Int) (m:BV):Cx 125 #[pt b,I p,.int .u64 (mi m)] w λe w'=>e=Z (.tuple #[I (dW x p m).1,I (dW x p m).2])/\ai (eL b) w w' F (jM x p m):=by
 refine ae7 ?_;refine⟨λg=>by simp at g,λ_=>⟨λg1=>⟨λq=>⟨(R8 h m).mono ?_⟩,λq=>?_⟩,λg1=>?_⟩⟩
 ·rintro e w1 ⟨rfl,rfl⟩;refine⟨_,rfl,λg=>?_,λg=>?_⟩
  ·have a:¬oQ x p m:=λh=>by simp[h.2.2]at g
   rw[dW,jM,af a,af (λh=>a h.1)];exact⟨rfl,ai.same h⟩
  ·have hs:oQ x p m:=⟨by simp at g1;omega,by simp at q;omega,by simpa using g⟩;rw[dW,jM,ar hs];obtain⟨x1,S⟩:=x;obtain⟨b2,b3,⟨⟨o,W⟩,c,qs⟩,u,z,hI⟩:=id h;simp only at z hI⊢;subst z;have k:=hI.ok;have M:=hI.len;have N:=hI.IQ;simp only at M;obtain⟨F1,d,A⟩:=u.slot;simp only at d A;refine⟨_,rfl,_,by rw[yI];exact u.ax.cell rfl,⟨(Ea i d).mono ?_⟩⟩;rintro e B ⟨rfl,O⟩;obtain⟨F2,f,C,D⟩:=A _ _ O;rcases Ek o with⟨j,E,t1,t2,X⟩|⟨t1,t2⟩
   ·rw[ar (show oQ (c,S) p m/\(dX (jG S)).2=0 from⟨hs,by rw[<-k,t1]⟩)];simp only[<-k,t1,t2]at f⊢;have l:j<qs.length:=by rw[k]at E;simp[jG]at E;omega
    refine⟨_,_,rfl,λg=>by simp at g,λ_=>⟨_,rfl,_,f.ax.cell rfl,⟨λY P=>?_⟩⟩⟩;obtain⟨G,H,kf⟩:=f.lJ;simp only at H kf;have r:=Wf H l (t:=(p,m,0,ae,ae,0)) P;obtain⟨F3,J,Q,R⟩:=kf _ _ r;obtain⟨F4,K,L⟩:=J.mp;simp only at K L;obtain⟨T,U,s⟩:=qk H3 K ((j:Int)+1) B.heap.size;have n:=L _ _ s;have V:((j:Int)+1).toNat-1=j:=by omega
    simp only[V];exact⟨T,U,by first|rfl|trivial,ai.yg (ai.next f C D (ai.next J Q R n)) (hI.put l (B.heap.size,(p,m,0,ae,ae,0)))⟩
   ·rw[af (show ¬(oQ (c,S) p m/\(dX (jG S)).2=0)from λh=>by have:=h.2;rw[<-k,t1]at this;cases this)];simp only[<-k,t1,t2]at f⊢;exact⟨_,_,rfl,λ_=>⟨by first|rfl|trivial,ai.yg ⟨F2,f,C,D⟩ hI⟩,λg=>by simp at g⟩
 ·have a:¬oQ x p m:=λh=>by have:=h.2.1;simp at q;omega
  rw[dW,jM,af a,af (λh=>a h.1)];exact⟨rfl,ai.same h⟩
 ·have a:¬oQ x p m:=λh=>by have:=h.1;simp at g1;omega
  rw[dW,jM,af a,af (λh=>a h.1)];exact⟨rfl,ai.same h⟩
theorem Wd (h:eL b w F x) (n:Int):Cx 238 #[pt b,I n] w λe w'=>e=Z (I (wX x n))/\ai (eL b) w w' F (kP x n):=by
 refine agP ?_;refine⟨(wZ h n).mono ?_⟩;rintro e w1 ⟨rfl,⟨k,rfl⟩|⟨i,t,bi,Fi,rfl,k,rfl,A⟩⟩
 ·simp only[wX,kP,k];exact⟨_,_,rfl,λ_=>⟨rfl,ai.same h⟩,λg=>by simp at g⟩
 ·simp only[wX,kP,k];clear A;obtain⟨x1,S⟩:=x;obtain⟨b2,b3,⟨⟨o,R⟩,c,qs⟩,h,r,hI⟩:=h;simp only at r hI k⊢;subst r;have B:=hI.len;simp only at B;rcases hI.sat ((i:Int)+1)with⟨d,hi,C,s1,s2⟩|⟨s1,_,_⟩
  ·have:d=i:=by omega
   subst this;rw[k]at s1;have j:qs[d].isSome=ah:=by cases D:qs[d]with|none=>rw[D]at s1;cases s1|some q=>rfl
   have a:=hI.has hi;rw[j]at a;obtain⟨F1,E,H⟩:=h.mp;obtain⟨J,K,L⟩:=sL H3 E ((d:Int)+1) 3 0;obtain⟨F2,l,M,N⟩:=H _ _ L;obtain⟨F3,hs,s⟩:=l.slot;simp only at hs s;refine⟨_,_,rfl,λg=>by simp at g,λ_=>⟨_,rfl,_,h.ax.cell rfl,J,K,_,rfl,_,by rw[yI];exact l.ax.cell rfl,⟨(D8 hs _).mono ?_⟩⟩⟩;rintro e T ⟨rfl,m⟩;obtain⟨F4,p,O,P⟩:=s _ _ m;obtain⟨G,u,kf⟩:=p.lJ;simp only at u kf;have f:=kf _ _ (Wg u hi);have z:((d:Int)+1).toNat-1=d:=by omega
   have Q:lK o ((d:Int)+1)=o.set d ae:=by rw[lK,ar a,z]
   rw[Q]at f p;rw[z];exact⟨_,rfl,by rw[sk,ar a],ai.yg (ai.next l M N (ai.next p O P f)) (hI.del hi)⟩
  ·rw[k]at s1;cases s1
def DC (n:Int):Prop:=1<=n/\n<=64
def tK (n:Int):TX:=(n,aD 32 ag)
theorem fU.new (c:Int):fU ((aD 32 ae,(λ_=>ag,0)),(c,aD 32 ag)) (aD 32 ag):=by
 refine⟨by simp,by simp,λid=>?_,by simp⟩;simp only[gO];split
 ·rw[aQ,iJ];split<;>rfl
 ·rfl
theorem aer (n:Int) (w:World):Cx 34 #[I n] w λe w'=>
  (¬DC n/\e=Z (.tuple #[.pointer ag,I 2])/\w'=w)∨
  (DC n/\∃b F,e=Z (.tuple #[pt b,I 0])/\eL b w' F (tK n)/\au no w w'/\∀i,F i->w.heap.size<=i):=by
 refine u34 ?_;refine⟨λg1=>⟨λd=>.inl ⟨?_,rfl,rfl⟩,λd=>?_⟩,λg1=>.inl ⟨?_,rfl,rfl⟩⟩
 ·unfold DC;simp at d;omega
 ·have g1:¬n<1:=by simpa using g1
  have d:¬64<n:=by simpa using d
  refine⟨(D9 32 w).mono ?_⟩;rintro e w1 B;obtain⟨_,b2,F1,rfl,r,t,u⟩:=B.resolve_left (λh=>absurd (by omega) h.1);have f:bY w w1 (df b2) (aD 32 ae):=bY.new (au.refl _ _) t r u;clear t r u;refine⟨_,_,rfl,λg=>by simp at g,λ_=>⟨λj a=>⟨λz k=>?_⟩⟩⟩;replace f:bY w j (aF (df b2) (bF w1.heap.size fP)) (aD 32 ae,(λ_=>ag,0)):=f.add (a.ak no) (bF.new a) (λi hi=>bG hi.symm);generalize w1.heap.size=b3 at f k⊢;have C:(aF (Rw j.heap.size 192 (El b2 b3)) (Fam qx)) z (λi=>i=j.heap.size) (n,aD 32 ag):=⟨_,λ_=>False,Rw.new k rfl,Fam.rep (A:=qx) (s:=ag) (λ_ h=>h),λi=>by simp,λ_ _ h=>h⟩;have l:bY w z (iE j.heap.size b2 b3) ((aD 32 ae,(λ_=>ag,0)),(n,aD 32 ag)):=f.add (k.ak no) C (λi hi=>bG hi.symm);obtain⟨F,m,p,q⟩:=l;exact .inr ⟨⟨by omega,by omega⟩,_,F,rfl,⟨b2,b3,_,m,rfl,fU.new n⟩,p,q⟩
 ·unfold DC;simp at g1;omega
end
def qV (g:Ring) (p:Option Addr) (c:Nat):List Value:=[.slice p g.r.length c,I g.f,I g.m]
abbrev RO (b:Nat):Ob (Ring×Option Addr×Nat):=Hd b 295 3 1 qV (λg=>g.r.length) (λg=>g.r.map (ay .i64))
def eb (b:Nat):Ob (Nat×List Int):=λw F x=>∃g y,RO b w F (g,y)/\g.ok/\g.r.length=x.1/\view g=x.2/\x.2.Nodup
instance Frame.fq (b:Nat):Frame (eb b) where
 ak:=λ⟨g,y,h,r⟩ k a=>⟨g,y,(Frame.hd ..).ak h k a,r⟩
 lt:=λ⟨_,_,h,_⟩=>(Frame.hd ..).lt h
def gZ (x:Nat×List Int) (n:Int):Int:=if n∈x.2 then 6 else if x.2.length=x.1 then 5 else 0
def kb (x:Nat×List Int) (n:Int):Nat×List Int:=if gZ x n=0 then(x.1,x.2++[n])else x
def cN (x:Nat×List Int):Int×Int:=match x.2 with
 | []=>(0,12)
 | a::_=>(a,0)
def Ij (x:Nat×List Int):Nat×List Int:=(x.1,x.2.tail)
def sd (x:Nat×List Int) (n:Int):Int:=if n∈x.2 then 0 else 4
def Gc (x:Nat×List Int) (n:Int):Nat×List Int:=(x.1,x.2.erase n)
def Jf (x:Nat×List Int):Int:=(cN x).2
def Jg (x:Nat×List Int):Nat×List Int:=match x.2 with
 | []=>x
 | a::l=>(x.1,l++[a])
section
variable {w:World} {F:Fp} {b:Nat} {x:Nat×List Int} {g:Ring} {y:Option Addr×Nat}
theorem eb.len (h:eb b w F x):x.2.length<=x.1/\x.1<=1024/\0<x.1:=by
 obtain⟨g,y,e,a,c,d,f⟩:=h;rw[<-c,<-d,la];exact⟨a.m,a.le,a.pos⟩
theorem Dx (n:Int) (w:World):Cx 110 #[I n] w λe w'=>
  (¬(1<=n/\n<=1024)/\e=Z (.tuple #[.pointer ag,I 2])/\w'=w)∨
  ((1<=n/\n<=1024)/\∃b F,e=Z (.tuple #[pt b,I 0])/\eb b w' F (n.toNat,[])/\au no w w'/\∀i,F i->w.heap.size<=i):=by
 refine aeS ?_;refine⟨λd=>⟨λf=>.inl ⟨?_,rfl,rfl⟩,λf=>?_⟩,λd=>.inl ⟨?_,rfl,rfl⟩⟩
 ·simp at f;omega
 ·have d:¬n<1:=by simpa using d
  have f:¬1024<n:=by simpa using f
  obtain⟨m,rfl⟩:∃m:Nat,n=m:=⟨n.toNat,by omega⟩;obtain⟨w1,l,j⟩:=IH ov w (n:=m) (by omega) (by omega) .i64 .i64;refine⟨_,_,_,w1,l,⟨λo c=>.inr ⟨by omega,w1.heap.size,λi=>i=w1.heap.size∨bg (aa ⟨w.heap.size,0,ag⟩) i,rfl,?_,(j.ak no).and (c.ak no),?_⟩⟩⟩
  ·refine⟨⟨aD m 0,0,0⟩,(aa ⟨w.heap.size,0,ag⟩,m),⟨?_,?_,?_,λ_=>bB⟩,⟨?_,?_,?_,?_⟩,?_,aja m,iK⟩
   ·show aL o w1.heap.size (qV ⟨aD m 0,0,0⟩ _ m) _;unfold qV;rw[fC];exact c.aK
   ·simp only[fC];exact(Sl.new j (by simp) (by unfold maxLen;omega)).ak (c.ak no) (λ_ _ h=>h)
   ·rintro⟨a,k,p⟩;cases k;have:=j.size;simp only at p;omega
   ·simp;omega
   ·simp;omega
   ·simp;omega
   ·simp
   ·simp
  ·rintro i (rfl|⟨a,k,rfl⟩)
   ·have:=j.size;omega
   ·cases k;exact b7 _
 ·simp at d;omega
theorem Fa (h:RO b w F (g,y)) (a:g.ok) {k:Nat} (d:k<=g.r.length):Cx 255 #[pt b,I k] w λe w'=>e=Z (I (pl g.r.length g.f k:Nat))/\au no w w':=by
 refine ag6 ?_;intro w1 i j l m;have c:=au.same no i j l m;have hB:=h.ax.ak c id;have n:=a.f;have o:=a.le;refine⟨_,rfl,_,hB.cell rfl,_,rfl,_,_,_,hB.cell rfl,?_,?_,c⟩
 ·simp only;omega
 ·simp only;rw[aN (by omega),<-aaq n d,px (by omega)];simp
theorem Dj (h:RO b w F (g,y)) (A:g.ok):Cx 187 #[pt b] w λe w'=>∃p c,e=Z (.slice p (view g).length c)/\Loc w w' 3 p c (view g):=by
 refine af0 ?_;refine⟨λ_=>⟨_,rfl,_,h.ax.cell rfl,λo=>?_,λo=>⟨_,rfl,_,h.ax.cell rfl,?_⟩⟩,λo=>by simp at o⟩
 ·have o:g.m=0:=by simpa using o
  have Q:view g=[]:=mq (by rw[la];exact o);rw[Q];exact⟨ag,0,rfl,Loc.nil (au.refl _ _) _⟩
 ·have R:=A.le;have hm:=A.m;have B:=A.f;obtain⟨w1,S,P⟩:=IH ov w (n:=g.m) (by omega) (by omega) .i64 .i64;refine⟨_,_,_,w1,S,?_⟩;intro w2 q s t z;have C:=(P.ak no).and (au.same no q s t z);have hB:=h.ax.ak C id;have D:Sl w1 3 1 (aa ⟨w.heap.size,0,ag⟩) g.m g.m ((aD g.m (0:Int)).map (ay .i64)):=Sl.new P (by simp) (by unfold maxLen;omega);have T:=D.ak (au.same no q s t z) (λ_ _ h=>h);have U:=h.sl.ak C (λ_ _ h=>h);have V:=U.M0 g.f (by simp only;omega);refine⟨_,rfl,_,_,_,hB.cell rfl,_,rfl,_,hB.cell rfl,⟨by omega,by simp only;omega⟩,?_⟩;obtain⟨W,E,G,H⟩:=abC ov T V.cells (sn:=g.r.length-g.f) (sc:=y.2-g.f) (by simp) (λu X=>by obtain⟨v,_,rfl⟩:=cv.1 (List.mem_of_mem_drop X);rfl) 3;refine⟨_,W,E,?_⟩;intro Y q s t z;have I:=H.trans (au.same no q s t z) (λ_ _ h=>h.elim)
  have d:∀i,i<w.heap.size->¬bg (aa ⟨w.heap.size,0,ag⟩) i:=by
   rintro i hi ⟨a,J,rfl⟩;cases J;exact Nat.lt_irrefl _ hi
  have j:au no w Y:=C.trans I (λi hi B=>absurd B (d i hi));have K:=h.ax.ak j id;have L:=h.sl.ak j (λ_ _ h=>h);have M:=G.ak (au.same no q s t z) (λ_ _ h=>h);refine⟨⟨by omega,by omega⟩,_,rfl,_,_,_,K.cell rfl,?_⟩;obtain⟨w5,N,l,O⟩:=abD ov M L.cells (sn:=g.r.length) (sc:=y.2) (by simp) (by simp[Value.oneCell']) 3 (k:=min (g.r.length-g.f) g.m) (by omega);refine⟨_,w5,N,aa ⟨w.heap.size,0,ag⟩,g.m,by rw[la],j.trans O (λi hi B=>absurd B (d i hi)),?_,?_⟩
  ·rw[la];have:=aba A (ay .i64);simp only[ez]at l;rw[this]at l;exact l
  ·rintro i ⟨a,J,rfl⟩;cases J;exact b7 _
theorem Is (h:eb b w F x):Cx 187 #[pt b] w λe w'=>∃p c,e=Z (.slice p x.2.length c)/\Cells w' p (x.2.map (ay .i64))/\au no w w':=by
 obtain⟨g,y,d,f,j,i,k⟩:=h;refine(Dj d f).mono ?_;rintro e w' ⟨p,c,rfl,a⟩;rw[i]at a⊢;exact⟨p,c,rfl,a.S.cells,a.U⟩
theorem Ra (h:eb b w F x):Cx 187 #[pt b] w λe w'=>∃p c,e=Z (.slice p x.2.length c)/\Loc w w' 3 p c x.2:=by
 obtain⟨g,y,d,f,j,i,k⟩:=h;refine(Dj d f).mono ?_;rintro e w' ⟨p,c,rfl,a⟩;rw[i]at a⊢;exact⟨p,c,rfl,a⟩
theorem aaW (h:eb b w F x):Cx 392 #[pt b] w λe w'=>e=Z (I x.2.length)/\w'=w:=by
 obtain⟨g,y,a,d,f,c,i⟩:=h;refine ai0 ?_;exact⟨λh=>by simp at h,λ_=>⟨_,rfl,_,a.ax.cell rfl,by rw[<-c,la],rfl⟩⟩
theorem aaV (h:eb b w F x) (n:Int):Cx 254 #[pt b,I n] w λe w'=>e=Z (.bool (decide (n∈x.2)))/\au no w w':=by
 have f:=h.len;refine ag5 ?_;refine⟨(Is h).mono ?_⟩;rintro e w' ⟨p,c,rfl,a,d⟩;refine⟨_,_,_,rfl,⟨(MH a (by omega) n).mono ?_⟩⟩;rintro e w' ⟨rfl,rfl⟩;exact⟨_,rfl,rfl,d⟩
theorem Ir (h:eb b w F x):Cx 307 #[pt b] w λe w'=>e=Z (.tuple #[I (cN x).1,I (cN x).2])/\au no w w':=by
 obtain⟨g,y,j,n,q,d,s⟩:=h;obtain⟨G,o⟩:=x;simp only at q d s;refine ahP ?_;refine⟨λh=>by simp at h,λ_=>⟨_,rfl,_,j.ax.cell rfl,λc=>?_,λc=>?_⟩⟩
 ·have c:g.m=0:=by simpa using c
  have t:o=[]:=by rw[<-d];exact mq (by rw[la];exact c)
  subst t;exact⟨rfl,au.refl _ _⟩
 ·have c:g.m≠0:=by simp at c;omega
  intro w1 u z A B;have k:=au.same no u z A B;have hB:=j.ax.ak k id;have C:=j.sl.ak k (λ_ _ h=>h);have p:=n.f;obtain⟨a,D,E⟩:=C.cells.ck (l:=g.r) (i:=g.f) p;refine⟨_,rfl,_,_,_,hB.cell rfl,_,rfl,_,hB.cell rfl,⟨by omega,by simp only;omega⟩,a,D,_,E,?_,k⟩
  cases o with
  | nil=>rw[<-nh,la]at d;omega
  | cons v l=>
   obtain⟨_,k2,_⟩:=Sp n d;show _=cj (.tuple #[I v,I 0]);rw[<-k2];simp[aQ,p]
theorem xG (h:eb b w F x) (n:Int):Cx 151 #[pt b,I n] w λe w'=>e=Z (I (gZ x n))/\ai (eb b) w w' F (kb x n):=by
 refine afx ?_;refine⟨λh=>by simp at h,λ_=>⟨(aaV h n).mono ?_⟩⟩;rintro e w1 ⟨rfl,u⟩;refine⟨_,rfl,λd=>?_,λd=>?_⟩
 ·have d:n∈x.2:=by simpa using d
  have z:gZ x n=6:=by simp[gZ,d]
  rw[kb,z];exact⟨rfl,ai.quiet h u⟩
 ·have d:n∉x.2:=by simpa using d
  obtain⟨g,y,A,c,J,K,W⟩:=id h;intro w2 L M N O;have q:=u.and (au.same no L M N O);have hB:=A.ax.ak q id;have hm:=c.m;have X:=c.le;refine⟨_,rfl,_,hB.cell rfl,_,rfl,_,_,_,hB.cell rfl,λk2=>?_,λk2=>?_⟩
  ·have k2:g.m=g.r.length:=by simp at k2;omega
   have z:gZ x n=5:=by
    have:x.2.length=x.1:=by rw[<-K,la,<-J,k2]
    simp[gZ,d,this]
   rw[kb,z];exact⟨rfl,ai.quiet h q⟩
  ·have k2:g.m<g.r.length:=by simp at k2;omega
   have z:gZ x n=0:=by
    have:x.2.length≠x.1:=by rw[<-K,la,<-J];omega
    simp[gZ,d,this]
   rw[kb,z,ar rfl];intro Y L M N O;have s:=q.and (au.same no L M N O);have B:=A.ax.ak s id;have P:RO b Y F (g,y):=(Frame.hd ..).ak A s (λ_ _ h=>h);refine⟨_,rfl,_,_,_,B.cell rfl,_,rfl,_,B.cell rfl,⟨(Fa P c c.m).mono ?_⟩⟩;rintro e T ⟨rfl,Q⟩;have j:=s.and Q;have R:=A.ax.ak j id;have t:RO b T F (g,y):=(Frame.hd ..).ak A j (λ_ _ h=>h);have S:=Af c.f c.m;have k:=t.sl;obtain⟨a,p,_⟩:=k.cells.ck (l:=g.r) (i:=0) c.pos;simp only at p k;refine⟨_,rfl,R.cell rfl,⟨by omega,by simp only;omega⟩,a,p,?_⟩;rw[p]at k;refine k.wr (o:=pl g.r.length g.f g.m*1) (by simp;omega) (λU C D=>?_);have E:=t.BK (w1:=U) (by rw[p];exact D);refine⟨_,rfl,_,E.cell rfl,_,rfl,E.wr (by simp[qV]) (λw6 hW=>⟨rfl,?_⟩)⟩
   have G:ba (g.r.map (ay .i64)) (pl g.r.length g.f g.m*1) [I n]=(g.r.set (pl g.r.length g.f g.m) n).map (ay .i64):=by
    rw[ez];exact tZ S
   rw[G]at C
   have hT:ai (RO b) T w6 F (⟨g.r.set (pl g.r.length g.f g.m) n,g.f,g.m+1⟩,y):=by
    refine t.put (p':=y.1) (c':=y.2) (w1:=U) ?_ (by rw[p];exact D) (λi hi=>.inl hi) ?_
    ·simp only[bZ];rw[p];exact C
    ·have H:=hW;simp only[qV,bZ];rw[aN (by omega)]at H;exact H
   obtain⟨F',t1,t2,t3⟩:=hT;refine⟨F',⟨_,y,t1,⟨?_,?_,?_,?_⟩,?_,?_,?_⟩,(j.mono (λ_ _ h=>h.elim)).trans t2 (λ_ _ h=>h),λi hi=>(t3 i hi).imp id (λh=>aX j.size h)⟩
   ·simp only[bZ];exact c.pos
   ·simp only[bZ];exact c.le
   ·simp only[bZ];exact c.f
   ·simp only[bZ];omega
   ·simp only[bZ];exact J
   ·rw[ajf c k2,K]
   ·exact iW.2 ⟨W,by simp,λa p b V=>by simp at V;subst V;exact λe=>d (e ▸ p)⟩
theorem DU (h:eb b w F x):Cx 304 #[pt b] w λe w'=>e=Z (.tuple #[I (cN x).1,I (cN x).2])/\ai (eb b) w w' F (Ij x):=by
 refine ahM ?_;refine⟨(Ir h).mono ?_⟩;rintro e w1 ⟨rfl,j⟩;obtain⟨K,B⟩:=x
 cases B with
 | nil=>exact⟨_,_,rfl,λk=>by simp[cN]at k,λ_=>⟨rfl,ai.quiet h j⟩⟩
 | cons v l=>
  obtain⟨g,y,q,c,s,t,u⟩:=id h;simp only at s t u;obtain⟨L,k2,C⟩:=Sp c t;have D:RO b w1 F (g,y):=(Frame.hd ..).ak q j (λ_ _ h=>h);have M:=c.m;have E:=c.le;refine⟨_,_,rfl,λ_=>⟨(Fa D c (k:=1) c.pos).mono ?_⟩,λk=>by simp[cN]at k⟩;rintro e z ⟨rfl,o⟩;have p:=j.and o;have a:RO b z F (g,y):=(Frame.hd ..).ak q p (λ_ _ h=>h);refine⟨_,rfl,_,rfl,a.ax.wr (by simp[qV]) (λN d=>⟨_,rfl,_,d.aK.cell rfl,_,rfl,d.aK.wr (by simp[qV,ba]) (λA n=>⟨rfl,?_⟩)⟩)⟩
  have G:ai (RO b) z A F (⟨g.r,pl g.r.length g.f 1,g.m-1⟩,y):=by
   refine⟨F,⟨?_,a.sl.ak (d.U.and n.U) (λi hi e=>a.2.2.1 (e ▸ hi)),a.2.2.1,a.2.2.2⟩,(d.U.and n.U).mono (λi _ hi=>(a.2.2.2 i).2 (.inl hi)),λ_ hi=>.inl hi⟩;have:=n.aK;rw[aN (x:=(g.m:Int)-1) (by omega)]at this;show aL A b [.slice y.1 g.r.length y.2,I (pl g.r.length g.f 1:Nat),I ((g.m-1:Nat):Int)] _;rw[show((g.m-1:Nat):Int)=(g.m:Int)-1 by omega];exact this
  obtain⟨H,t1,t2,J⟩:=G;exact⟨H,⟨_,y,t1,⟨c.pos,c.le,Af c.f c.pos,by simp only;omega⟩,s,C,(ni.1 u).2⟩,(p.mono (λ_ _ h=>h.elim)).trans t2 (λ_ _ h=>h),λi hi=>(J i hi).imp id (λh=>aX p.size h)⟩
theorem aaX (h:eb b w F x):Cx 366 #[pt b] w λe w'=>e=Z (I (Jf x))/\ai (eb b) w w' F (Jg x):=by
 refine aiD ?_;have f:=h.len;have a:x.2.Nodup:=by obtain⟨_,_,_,_,_,_,n⟩:=h;exact n
 refine⟨(DU h).mono ?_⟩;rintro e w1 ⟨rfl,o,t1,t2,c⟩;obtain⟨d,p⟩:=x
 cases p with
 | nil=>exact⟨_,_,rfl,λ_=>⟨rfl,o,t1,t2,c⟩,λk=>by simp[cN]at k⟩
 | cons v l=>
  refine⟨_,_,rfl,λk=>by simp[cN]at k,λ_=>⟨(xG t1 _).mono ?_⟩⟩;rintro e t ⟨rfl,F2,j,q,r⟩;simp only at f a;rw[ni]at a
  have m:gZ (Ij (d,v::l)) (cN (d,v::l)).1=0:=by
   simp only[im]at f;have:l.length≠d:=by omega
   simp[gZ,Ij,cN,a.1,this]
  refine⟨_,rfl,by rw[m];rfl,?_⟩;rw[kb,m,ar rfl]at j;refine⟨F2,j,t2.trans q (λi hi s=>(c i s).elim id (λh=>absurd h (by omega))),λi hi=>?_⟩;rcases r i hi with h|h
  ·exact c i h
  ·exact .inr (aX t2.size h)
end
section
variable {w:World} {F:Fp} {b:Nat} {x:Nat×List Int} {g:Ring} {y:Option Addr×Nat}
theorem eb.nodup (h:eb b w F x):x.2.Nodup:=by obtain⟨_,_,_,_,_,_,a⟩:=h;exact a
def shift (l:List Int) (k i:Nat):List Int:=(b8 l.length).map (λj=>if k<=j/\j<i then l.getD (j+1) 0 else l.getD j 0)
theorem ab1 (l:List Int) (k:Nat):shift l k k=l:=by
 apply cT;intro j;by_cases h:j<l.length
 ·simp[shift,h,show ¬(k<=j/\j<k) by omega]
 ·simp[shift,h]
theorem ab2 {l:List Int} {k i:Nat} (c:k<=i) (hi:i+1<l.length):(shift l k i).set i (l[i+1])=shift l k (i+1):=by
 apply cT;intro j;rw[cB];by_cases h:j<l.length
 ·by_cases a:i=j
  ·subst a;simp[shift,h,c,hi]
  ·rw[af a];have:(k<=j/\j<i)↔(k<=j/\j<i+1):=by omega
   simp[shift,h,this]
 ·by_cases a:i=j
  ·omega
  ·simp[shift,h,a]
theorem ab0 {l:List Int} {k:Nat} (e:k<l.length):(shift l k (l.length-1)).take (l.length-1)=l.eraseIdx k:=by
 apply cT;intro j;rw[gV,List.getElem?_eraseIdx];by_cases h:j<l.length-1
 ·have c:j<l.length:=by omega
  have d:j+1<l.length:=by omega
  by_cases a:j<k
  ·simp[shift,h,c,a,show ¬k<=j by omega]
  ·simp[shift,h,c,d,a,show k<=j by omega]
 ·rw[af h];split<;>(symm;apply fB;omega)
set_option maxRecDepth 100000 in
theorem Q8 (h:eb b w F x) (n:Int):Cx 364 #[pt b,I n] w λe w'=>e=Z (I (sd x n))/\ai (eb b) w w' F (Gc x n):=by
 have R:=h.nodup;obtain⟨g,y,h1,E,h3,h4,h5⟩:=id h;obtain⟨xc,l⟩:=x;simp only at h3 h4 h5 R;refine aiC ?_;refine⟨λh=>by simp at h,λ_=>⟨(Dj h1 E).mono ?_⟩⟩;rintro e w1 ⟨p,c,rfl,G⟩;rw[h4]at G⊢;have P:=E.m;have T:=E.le;have V:l.length=g.m:=by rw[<-h4,la]
 refine⟨_,_,_,rfl,⟨(Oe G.S.cells (by omega) n).mono ?_⟩⟩;rintro e W ⟨rfl,rfl⟩;refine⟨_,rfl,λq=>?_,λq=>?_⟩
 ·have q:n∉l:=λP=>by simp[idx,P]at q;omega
  have e1:sd (xc,l) n=4:=by simp[sd,q]
  rw[Gc,e1,List.erase_of_not_mem q];exact⟨rfl,ai.quiet h G.U⟩
 ·have q:n∈l:=by
   refine Decidable.byContradiction λP=>?_;simp[idx,P]at q
  have e1:sd (xc,l) n=0:=by simp[sd,q]
  have hi:idx l n=(l.idxOf n:Int):=by simp[idx,q]
  have hk:l.idxOf n<l.length:=List.idxOf_lt_length_of_mem q;rw[Gc,e1,hi];generalize am:l.idxOf n=k at hk⊢;have ap:RO b W F (g,y):=(Frame.hd ..).ak h1 G.U (λ_ _ h=>h)
  refine⟨bJ bA (M:=Bh) (σ:=Nat×List Int) (λs=>GJ (aa ⟨b,0,ag⟩) p l.length c (s.1:Int))
   (λs w'=>k<=s.1/\s.1+1<=l.length/\s.2.length=g.r.length/\view ⟨s.2,g.f,g.m⟩=shift l k s.1/\au F W w'/\RO b w' F (⟨s.2,g.f,g.m⟩,y)/\Cells w' p (l.map (ay .i64))) (λs _=>l.length-s.1) (k,g.r)
   ⟨rfl,rfl,rfl,trivial⟩ ⟨by simp,by simp only;omega,rfl,by simp only;rw[ab1];exact h4,au.refl _ _,ap,G.S.cells⟩ ?_⟩
  rintro⟨i,r⟩ w2 ⟨i1,i2,i3,i4,J,d,K⟩;simp only at i1 i2 i3 i4 d⊢;rw[adq];have ew:aT .i64 ((i:Int)+1)=((i+1:Nat):Int):=by rw[aN (by omega)];rfl
  rw[ew];refine⟨λaq Q q1 q2 q3 q4=>?_,λaz=>?_⟩
  ·have C:i+1<l.length:=by simp at aq;omega
   have t:=au.same no q1 q2 q3 q4;have A:RO b Q F (⟨r,g.f,g.m⟩,y):=(Frame.hd ..).ak d t (λ_ _ h=>h);have L:Ring.ok ⟨r,g.f,g.m⟩:=⟨by rw[i3];exact E.pos,by rw[i3];exact T,by rw[i3];exact E.f,by rw[i3];exact P⟩;obtain⟨a,N,hc⟩:=(K.no t).ck C;refine⟨_,rfl,_,_,_,A.ax.cell rfl,⟨by omega,by omega⟩,a,N,_,hc,⟨(Fa A L (k:=i) (by rw[i3];omega)).mono ?_⟩⟩;rintro e w4 ⟨rfl,B⟩;have u:RO b w4 F (⟨r,g.f,g.m⟩,y):=(Frame.hd ..).ak A B (λ_ _ h=>h);obtain⟨a',bb,be⟩:=((K.no t).no B).ck C;have bl:a'=a:=Option.some.inj (bb.symm.trans N);subst bl;have bm:pl r.length g.f i<r.length:=Af L.f (by rw[i3];omega);have D:=u.sl;obtain⟨a2,z,_⟩:=D.cells.ck (l:=r) (i:=0) (by rw[i3];exact E.pos);simp only at z D;refine⟨_,rfl,be,u.ax.cell rfl,⟨by omega,by simp only;omega⟩,a2,z,?_⟩;rw[z]at D;refine D.wr (o:=pl r.length g.f i*1) (by simp;omega) (λw5 X Y=>?_)
   have al:ba (r.map (ay .i64)) (pl r.length g.f i*1) [I l[i+1]]=(r.set (pl r.length g.f i) l[i+1]).map (ay .i64):=by
    rw[ez];exact tZ bm
   rw[al]at X;have H:au F w4 w5:=Y.mono (λj _ hj=>(u.2.2.2 j).2 (.inr (by rw[z];exact hj)))
   have bs:RO b w5 F (⟨r.set (pl r.length g.f i) l[i+1],g.f,g.m⟩,y):=by
    refine⟨?_,?_,u.2.2.1,u.2.2.2⟩
    ·have:=u.BK (w1:=w5) (by rw[z];exact Y);simpa [qV]using this
    ·simp only[bZ];rw[z];exact X
   have O:∀a,p=aa a->¬F a.block:=λa N hf=>by
    have q:=G.F a.block ⟨a,N,rfl⟩;have k2:=(Frame.fq b).lt h _ hf;omega
   refine⟨(i+1,r.set (pl r.length g.f i) l[i+1]),⟨rfl,rfl,rfl,trivial⟩,⟨by simp only;omega,by simp only;omega,by simp only[bZ];exact i3,?_,?_,bs,?_⟩,by simp only;omega⟩
   ·have:=Sq L (i:=i) (by simp only;rw[i3];omega) l[i+1] (m:=g.m) (by simp only;rw[i3];exact P);simp only at this;rw[this,i4,ab2 i1 C]
   ·exact((J.trans t (λ_ _ h=>h.elim)).trans B (λ_ _ h=>h.elim)).trans H (λ_ _ h=>h)
   ·exact((K.no t).no B).ak (λa N=>by
     have q:=(G.S.lt a.block ⟨a,N,rfl⟩);exact H.ax _ (jV q (aX J.size (aX t.size B.size))) (O a N))
  ·have C:i+1=l.length:=by simp at az;omega
   refine⟨_,rfl,_,d.ax.cell rfl,_,rfl,d.ax.wr (by simp[qV]) (λQ hW=>⟨rfl,?_⟩)⟩
   have bv:aL Q b (qV ⟨r,g.f,g.m-1⟩ y.1 y.2) 295:=by
    have:=hW.aK;rw[aN (x:=(g.m:Int)-1) (by omega)]at this;show aL Q b [.slice y.1 r.length y.2,I g.f,I ((g.m-1:Nat):Int)] _;rw[show((g.m-1:Nat):Int)=(g.m:Int)-1 by omega];exact this
   have A:RO b Q F (⟨r,g.f,g.m-1⟩,y):=⟨bv,d.sl.ak hW.U (λj hj e=>d.2.2.1 (e ▸ hj)),d.2.2.1,d.2.2.2⟩;have bw:au F w Q:=((G.U.mono λ_ _ h=>h.elim).trans J (λ_ _ h=>h)).trans hW.U (λj _ hj=>(d.2.2.2 j).2 (.inl hj));refine⟨F,⟨_,y,A,⟨by simp only;rw[i3];exact E.pos,by simp only;rw[i3];exact T,by simp only;rw[i3];exact E.f,by simp only;rw[i3];omega⟩,by simp only;rw[i3];exact h3,?_,?_⟩,bw,λ_ hi=>.inl hi⟩
   ·rw[ajc r g.f (m:=g.m) (by omega),i4,show i=l.length-1 by omega,<-V,ab0 hk,List.erase_eq_eraseIdx_of_idxOf am]
   ·exact R.erase n
end
end Go.Dav
namespace Go.Proofs
open Go.RowKit Go.Shelf
attribute [local go_sem] Oper.semAt_some
def ln (a b:Nat) (W c:World):Prop:=c.heap[a]?=W.heap[a]?/\c.heap[b]?=W.heap[b]?
theorem ln.t {a b:Nat} {A B C:World} (h:ln a b A B) (k:ln a b B C):ln a b A C:=⟨k.1.trans h.1,k.2.trans h.2⟩
theorem ln.b {a b:Nat} {w:World} (d:a<w.heap.size) (e:b<w.heap.size) (W:World) (l:Nat) (o c:Obj) (f:w.heap.size<=l) (_:W.heap[l]?=some o) (_:o.isCells=false) (_:o.isWalk=false):ln a b W (W.putObj l c):=
 ⟨World.putObj_heap_other (by omega),World.putObj_heap_other (by omega)⟩
theorem ln.refl (a b:Nat) (W:World):ln a b W W:=⟨rfl,rfl⟩
theorem Tryz.VN {α:Type} (enc:α->Value) (F:Fence) (n:Nat) (h38:F.fn 341) (hro:F.round=none) (hn:1<=n) (l Bn bq:Nat) (L:List α) (hL:L.length=8) (J Jx:List α->World->Prop)
  (hY:∀pre x W,J pre W->pre.length<8->YieldAt F (n-1) Tryz.prog l #[enc x] W λe W'=>
   (e=.returned (.bool true)/\J (pre++[x]) W'/\ln Bn bq W W')∨(e=.returned (.bool false)/\Jx (pre++[x]) W'))
  (W:World) (hBn:W.cell? ⟨Bn,0,none⟩=some (.pointer (some ⟨bq,0,none⟩))) (hc:∀i v,L[i]?=some v->W.cell? ⟨bq,i,none⟩=some (enc v)) (h0:J [] W) :
  CallsIn F n Tryz.prog 341 #[.func (.yield l) #[] #[],.pointer (some ⟨Bn,0,none⟩)] W λe W'=>(∃v,e=.returned v)/\
   ((∃ys,ys=L.reverse/\J ys W')∨(∃pre,pre <+:L.reverse/\Jx pre W')):=by
 refine callsIn_of_wp Tryz.func341 rfl h38 ?_ hro;simp only[Tryz.ntmps341,List.size_toArray,List.length_cons,List.length_nil,Nat.reduceAdd,Nat.reduceSub,Array.replicate_succ,Array.replicate_zero,List.push_toArray,List.append_toArray,List.nil_append,List.cons_append]
 gi_wp2
 gi_loopw [3] (λp wr=>∃(k:Nat),p=.int .i64 ((k:Int)-1)/\k<=8/\wr.cell? ⟨Bn,0,none⟩=some (.pointer (some ⟨bq,0,none⟩))/\(∀i v,L[i]?=some v->wr.cell? ⟨bq,i,none⟩=some (enc v))/\J (L.drop k).reverse wr)
  (λp wr=>match p with|.int _ i=>(i+1).toNat|_=>0)
 case atStart=>
  exact⟨8,rfl,Nat.le_refl _,hBn,hc,by rw[List.drop_of_length_le (by omega)];exact h0⟩
 case round=>
  obtain⟨k,rfl,hk,hB,hC,hJs⟩:=hrel
  cases k with
  | zero=>
   gi_wp2
   go_end0
   exact⟨⟨_,rfl⟩,.inl ⟨_,by simp,hJs⟩⟩
  | succ k=>
   have hkl:k<L.length:=by omega
   have hcell:wr.cell? ⟨bq,k,none⟩=some (enc L[k]):=hC k _ (List.getElem?_eq_getElem hkl);have hdr:L.drop k=L[k]::L.drop (k+1):=List.drop_eq_getElem_cons hkl;have hrv:(L.drop (k+1)).reverse++[L[k]]=(L.drop k).reverse:=by rw[hdr,List.reverse_cons]
   obtain⟨fn,tmps,assign,body,hy,hR⟩:=hY _ L[k] wr hJs (by simp;omega);generalize L[k]=x at *;have hi:((k+1:Nat):Int)-1=(k:Int):=by omega
   rw[hi]
   gi_wp2
   refine hR.mono ?_;rintro e W3 (⟨rfl,hJ3,hk3⟩|⟨rfl,hJx3⟩)
   ·gi_wp2
    go_roundw
    case rel=>exact⟨k,rfl,by omega,(World.cell?_of_block hk3.1).trans hB,λi v h=>(World.cell?_of_block hk3.2).trans (hC i v h),by rw[<-hrv];exact hJ3⟩
    case measure=>show((k:Int)-1+1).toNat<((k:Int)+1).toNat;omega
   ·gi_wp2
    refine bodyPost_ret (results_none rfl _ _ _) rfl ?_;exact⟨⟨_,rfl⟩,.inr ⟨_,⟨(L.take k).reverse,by rw[hrv,<-List.reverse_append,List.take_append_drop]⟩,hJx3⟩⟩
set_option maxHeartbeats 1000000 in
theorem Tryz.MT (F:Fence) (n:Nat) (h25:F.fn 273) (hro:F.round=none) (p0:Option Addr) (w:World) :
  CallsIn F n Tryz.prog 273 #[.pointer p0] w λe w'=>e=.returned (.func (.func 341) #[] #[.pointer (some ⟨w.heap.size,0,none⟩)])/\w'=w.alloc (.cells #[.pointer p0] 152):=by
 refine callsIn_of_wp Tryz.func273 rfl h25 ?_ hro;simp only[Tryz.ntmps273,List.size_toArray,List.length_cons,List.length_nil,Nat.reduceAdd,Nat.reduceSub,Array.replicate_succ,Array.replicate_zero,List.push_toArray,List.append_toArray,List.nil_append,List.cons_append]
 gi_wp2
 go_ret
 exact⟨rfl,rfl⟩
theorem Tryz.MU {α:Type} (enc:α->Value) (F:Fence) (n:Nat) (a:F.fn 341) (b:F.round=none) (d:1<=n) (Bn bq:Nat) (L:List α) (e:L.length=8) (w:World) (f:Bn<w.heap.size) (g:bq<w.heap.size)
  (hB:w.cell? ⟨Bn,0,none⟩=some (.pointer (some ⟨bq,0,none⟩))) (j:∀i v,L[i]?=some v->w.cell? ⟨bq,i,none⟩=some (enc v)) :
  SeqStopsK F n Tryz.prog 341 #[.pointer (some ⟨Bn,0,none⟩)] (λx:α=>#[enc x]) (ln Bn bq) (λk=>k=L.reverse) (λpre=>pre <+:L.reverse) 8 w:=λl J Jx W c _ _ m o=>
 Tryz.VN enc F n a b d l Bn bq L e J Jx m W ((c.cell (p:=⟨Bn,0,none⟩) (by simp only;omega)).trans hB) (λi v h=>(c.cell (p:=⟨bq,i,none⟩) (by simp only;omega)).trans (j i v h)) o
end Go.Proofs
namespace Go.Dav
open Go.Proofs
theorem au.grown {w W b:World} {row:Option Nat} (h:au no w W) (a:W.grownBy b row) (c:∀r,row=some r->w.heap.size<=r):au no w b:=
 ⟨Nat.le_trans h.size a.size,a.os.trans h.os,a.tape.trans h.tape,a.output.trans h.output,λi hi _=>(a.block i (Nat.lt_of_lt_of_le hi h.size) (λe=>by have:=c i e.symm;omega)).trans (h.ax i hi id)⟩
theorem au.FN {w W:World} {a:Addr} {v:Value} (h:au no w W) (b:w.cell? a=some v):W.cell? a=some v:=by
 have c:a.block<w.heap.size:=by
  obtain⟨o,d,_⟩:=cells_of_cell b;exact sy d
 exact(World.cell?_of_block (h.ax _ c id)).trans b
theorem au.tj (w:World) (o:Obj):au no w (w.alloc o):=(au.refl no w).grown (World.grownBy_alloc w o none) (λr e=>by cases e)
theorem au.stored {w W:World} (h:au no w W) {b:Nat} (c:w.heap.size<=b) (o:Nat) (v:Value):au no w (W.setCell ⟨b,o,none⟩ v):=
 ⟨by show _<=(Array.modify _ _ _).size;rw[Array.size_modify];exact h.size,h.os,h.tape,h.output,λi hi a=>by
  rw[<-h.ax i hi a];simp only[World.setCell,Array.getElem?_modify];rw[if_neg (by omega)]⟩
end Go.Dav
namespace Go.Proofs
open Go.RowKit Go.Shelf Go.Dav
attribute [local go_sem] Oper.semAt_some
theorem Va {W:World} {B:Nat} {v:Value} {t:TypeId} (h:W.heap[B]?=some (.cells #[v] t (0,0))):W.cell? ⟨B,0,none⟩=some v/\W.frozen? ⟨B,0,none⟩=false:=by
 constructor<;>simp[World.cell?,World.frozen?,h]
theorem zd (W:World) (v:Value) (t:TypeId):(W.alloc (.cells #[v] t)).cell? ⟨W.heap.size,0,none⟩=some v/\(W.alloc (.cells #[v] t)).frozen? ⟨W.heap.size,0,none⟩=false:=
 Va (World.alloc_heap_new W _)
theorem za {W:World} {a:Addr} {v:Value} (o:Obj) (h:W.cell? a=some v):(W.alloc o).cell? a=some v:=cell_kept h (World.grownBy_alloc W o none) (λr e=>by cases e)
theorem CO {W:World} {a:Addr} {v:Value} (o:Obj) (h:W.cell? a=some v) (b:W.frozen? a=false):(W.alloc o).frozen? a=false:=(frozen_kept h (World.grownBy_alloc W o none) (λr e=>by cases e)).trans b
theorem Mx {n l:Nat} {P:Program} {f:FuncId} {args:Array Value} {w:World} {R:Ending->World->Prop} (h:Calls P f args w R):CallsIn (Fence.wide.inRound l) n P f args w R:=(callsIn_wide (n:=n)).2 h
def uc {α:Type} (a:α->Nat) (len:α->Nat) (l:List α):Value:=
 match l.find? (λx=>decide (0<len x))with
 | none=>.tuple #[.pointer none,.int .i64 12]
 | some x=>.tuple #[.pointer (some ⟨a x,0,none⟩),.int .i64 0]
theorem aeu {α:Type} {a:α->Nat} {len:α->Nat} {l:List α} (h:∀y∈l,len y=0):uc a len l=.tuple #[.pointer none,.int .i64 12]:=by
 unfold uc;rw[List.find?_eq_none.2 (λy b=>by simp[h y b])]
theorem aev {α:Type} {a:α->Nat} {len:α->Nat} {l b:List α} {x:α} (c:b++[x] <+:l) (h:∀y∈b,len y=0) (d:0<len x):uc a len l=.tuple #[.pointer (some ⟨a x,0,none⟩),.int .i64 0]:=by
 obtain⟨t,rfl⟩:=c;unfold uc;rw[List.append_assoc,List.find?_append,List.find?_eq_none.2 (λy e=>by simp[h y e])];simp[d]
set_option maxRecDepth 100000 in
set_option maxHeartbeats 4000000 in
theorem Tryz.aew {α:Type} (bl:α->Nat) (len:α->Nat) (L:List α) (hL:L.length=8) (q:Nat) (w:World) (hq:q<w.heap.size)
  (hc:∀i v,L[i]?=some v->w.cell? ⟨q,i,none⟩=some (.pointer (some ⟨bl v,0,none⟩)))
  (hlen:∀x W,au no w W->Calls Tryz.prog 392 #[.pointer (some ⟨bl x,0,none⟩)] W λe w'=>e=.returned (.int .i64 (len x))/\w'=W) :
  Calls Tryz.prog 365 #[.pointer (some ⟨q,0,none⟩)] w λe w'=>
   e=.returned (uc bl len L.reverse)/\au no w w':=by
 rw[<-callsIn_wide (n:=5)];refine callsIn_of_wp_marks Tryz.func365 rfl trivial ?_ rfl;simp only[Tryz.ntmps365,List.size_toArray,List.length_cons,List.length_nil,Nat.reduceAdd,Nat.reduceSub,Array.replicate_succ,Array.replicate_zero,List.push_toArray,List.append_toArray,List.nil_append,List.cons_append];have h1:Fence.wide.fn 273:=trivial;have h2:Fence.wide.fn 392:=trivial;have h3:Fence.wide.fn 341:=trivial
 gi_wp2_with (gi_at_call 273;refine(Tryz.MT Fence.wide _ h1 rfl _ _).mono ?_;rintro e w' ⟨rfl,rfl⟩)
 have c0:=zd w (.pointer none) 208;have c1:=zd (w.alloc (.cells #[.pointer none] 208)) (.int .i64 0) 24;have c2:=zd ((w.alloc (.cells #[.pointer none] 208)).alloc (.cells #[.int .i64 0] 24)) (.pointer (some ⟨q,0,none⟩)) 152;simp only[World.size_alloc]at c1 c2;have hU:au no w (((w.alloc (.cells #[.pointer none] 208)).alloc (.cells #[.int .i64 0] 24)).alloc (.cells #[.pointer (some ⟨q,0,none⟩)] 152)):=(((au.tj w _).trans (au.tj _ _) (λ_ _ h=>h)).trans (au.tj _ _) (λ_ _ h=>h))
 refine wpIn_rangeFunc_ownF rfl (by decide) (gf:=341) (lb:=#[.pointer (some ⟨w.heap.size+1+1,0,none⟩)]) rfl h3 (enters_of Tryz.func341 (by kernel_rfl) rfl)
  (Tryz.MU (λx=>.pointer (some ⟨bl x,0,none⟩)) Fence.wide _ h3 rfl (by decide) (w.heap.size+1+1) q L hL _ (by simp) (by simp;omega) c2.1 (λi v h=>hU.FN (hc i v h))) ln.t (ln.b (by simp) (by simp;omega)) (Below.refl _ _) (λ_=>rfl)
  (λpre W=>au no w W/\(∀y∈pre,len y=0)/\(W.cell? ⟨w.heap.size,0,none⟩=some (.pointer none)/\W.frozen? ⟨w.heap.size,0,none⟩=false)/\W.cell? ⟨w.heap.size+1,0,none⟩=some (.int .i64 0)/\W.frozen? ⟨w.heap.size+1,0,none⟩=false)
  (λc pre W=>c=.ret/\au no w W/\∃pr x,pre=pr++[x]/\(∀y∈pr,len y=0)/\0<len x/\W.cell? ⟨w.heap.size,0,none⟩=some (.pointer (some ⟨bl x,0,none⟩))/\W.cell? ⟨w.heap.size+1,0,none⟩=some (.int .i64 0))
  ?own ?ownx ?start
  (λx=>{tmps:=#[.pointer (some ⟨q,0,none⟩),undef,.pointer (some ⟨w.heap.size,0,none⟩),.pointer (some ⟨w.heap.size+1,0,none⟩),.pointer (some ⟨bl x,0,none⟩),.pointer (some ⟨q,0,none⟩),.bool false,.pointer (some ⟨q,0,none⟩),.func (.func 341) #[] #[.pointer (some ⟨w.heap.size+1+1,0,none⟩)],.pointer (some ⟨bl x,0,none⟩),undef,undef,undef,undef],defers:=[]}) ?assign ?body ?done ?stop
 case own=>
  rintro s A B row ⟨h1,h2,h3,h4,h5⟩ hg hr;have hr':∀r,row=some r->∃o:Obj,A.heap[r]?=some o/\o.isCells=false:=λr e=>(hr r e).2;exact⟨h1.grown hg (λr e=>by have:=(hr r e).1;simp at this;omega),h2,⟨cell_kept h3.1 hg hr',(frozen_kept h3.1 hg hr').trans h3.2⟩,cell_kept h4 hg hr',(frozen_kept h4 hg hr').trans h5⟩
 case ownx=>
  rintro c s A B row ⟨h0,h1,pr,x,h2,h3,h4,h5,h6⟩ hg hr;have hr':∀r,row=some r->∃o:Obj,A.heap[r]?=some o/\o.isCells=false:=λr e=>(hr r e).2;exact⟨h0,h1.grown hg (λr e=>by have:=(hr r e).1;simp at this;omega),pr,x,h2,h3,h4,cell_kept h5 hg hr',cell_kept h6 hg hr'⟩
 case start=>
  exact⟨hU,by simp,⟨za _ (za _ c0.1),CO _ (za _ c0.1) (CO _ c0.1 c0.2)⟩,za _ c1.1,CO _ c1.1 c1.2⟩
 case assign=>
  intro l x W K hK
  gi_wp2
  exact hK
 case body=>
  rintro l pre x W ⟨hW,hp,⟨hca,hfa⟩,hcb,hfb⟩ _
  gi_wp2_with (gi_at_call 392;refine(Mx (hlen x W hW)).mono ?_;rintro e w' ⟨rfl,rfl⟩)
  ·rename_i hx;have b0:(w'.setCell ⟨w.heap.size,0,none⟩ (.pointer (some ⟨bl x,0,none⟩))).cell? ⟨w.heap.size+1,0,none⟩=some (.int .i64 0):=(World.cell?_setCell_other _ _ _ _ (by simp)).trans hcb
   exact⟨(KeepsOthers.setCell _ _ _).trans (KeepsOthers.setCell _ _ _),rfl,(hW.stored (Nat.le_refl _) _ _).stored (Nat.le_succ _) _ _,pre,x,rfl,hp,by simpa using hx,
    (World.cell?_setCell_other _ _ _ _ (by simp)).trans (World.cell?_setCell_same' _ _ _ (by rw[hca];rfl)),World.cell?_setCell_same' _ _ _ (by rw[b0];rfl)⟩
  ·rename_i hx;exact⟨KeepsOthers.refl _,ln.refl _ _ _,hW,λy hy=>(List.mem_append.1 hy).elim (hp y) (λe=>by simp at e;subst e;simpa using hx),⟨hca,hfa⟩,hcb,hfb⟩
 case done=>
  rintro D ys W hD rfl ⟨hW,hne,⟨hca,hfa⟩,hcb,hfb⟩ hK
  gi_wp2
  have hK':=((KeepsOthers.setCell W ⟨w.heap.size,0,none⟩ (.pointer none)).trans (KeepsOthers.setCell _ ⟨w.heap.size+1,0,none⟩ (.int .i64 12))).same D _ hK rfl;refine⟨by simp,.inl ⟨_,_,rfl,run_takeDeferred hK',?_⟩⟩;have hS:au no w ((W.setCell ⟨w.heap.size,0,none⟩ (.pointer none)).setCell ⟨w.heap.size+1,0,none⟩ (.int .i64 12)):=(hW.stored (Nat.le_refl _) _ _).stored (Nat.le_succ _) _ _;have a0:(W.setCell ⟨w.heap.size,0,none⟩ (.pointer none)).cell? ⟨w.heap.size+1,0,none⟩=some (.int .i64 0):=(World.cell?_setCell_other _ _ _ _ (by simp)).trans hcb;have a1:((W.setCell ⟨w.heap.size,0,none⟩ (.pointer none)).setCell ⟨w.heap.size+1,0,none⟩ (.int .i64 12)).cell? ⟨w.heap.size,0,none⟩=some (.pointer none):=(World.cell?_setCell_other _ _ _ _ (by simp)).trans (World.cell?_setCell_same' W _ _ (by rw[hca];rfl));have a2:=World.cell?_setCell_same' (W.setCell ⟨w.heap.size,0,none⟩ (.pointer none)) ⟨w.heap.size+1,0,none⟩ (.int .i64 12) (by rw[a0];rfl);generalize ((W.setCell ⟨w.heap.size,0,none⟩ (.pointer none)).setCell ⟨w.heap.size+1,0,none⟩ (.int .i64 12))=W2 at *;have hg:=grownBy_putObj' W2 D (.deferred none);have hr:∀r,some D=some r->∃o:Obj,W2.heap[r]?=some o/\o.isCells=false:=λr e=>by cases e;exact⟨_,hK',rfl⟩
  have ha:=cell_kept a1 hg hr;have hb:=cell_kept a2 hg hr;refine⟨_,?_,by rw[aeu hne],hS.grown hg (λr e=>by cases e;simp at hD;omega)⟩;simp[results,Tryz.f365,go_sem,ha,hb]
 case stop=>
  rintro D c pre W hD hpre ⟨rfl,hW,pr,x,rfl,hpr,hx,hca,hcb⟩ hK
  gi_wp2
  refine⟨by simp,.inl ⟨_,_,rfl,run_takeDeferred hK,?_⟩⟩;have hg:=grownBy_putObj' W D (.deferred none);have hr:∀r,some D=some r->∃o:Obj,W.heap[r]?=some o/\o.isCells=false:=λr e=>by cases e;exact⟨_,hK,rfl⟩
  have ha:=cell_kept hca hg hr;have hb:=cell_kept hcb hg hr;refine⟨_,?_,by rw[aev hpre hpr hx],hW.grown hg (λr e=>by cases e;simp at hD;omega)⟩;simp[results,Tryz.f365,go_sem,ha,hb]
end Go.Proofs
namespace Go.Dav
open Go.Proofs
section
variable {w w':World} {T:TypeId} {sz:Nat} {p:Option Addr} {n c:Nat} {cs:List Value} {row:Option Nat}
theorem Sl.Oi (h:Sl w T sz p n c cs) {k:Nat} (b:bg p k) {o:Obj} (d:w.heap[k]?=some o):o.isCells=true:=by
 obtain⟨a,rfl,rfl⟩:=b;obtain⟨_,_,_,cells,e,_⟩:=h;have:=e.symm.trans d;cases this;rfl
theorem Sl.grown (h:Sl w T sz p n c cs) (a:w.grownBy w' row) (d:∀r,row=some r->∃o:Obj,w.heap[r]?=some o/\o.isCells=false):Sl w' T sz p n c cs:=
 h.ak (F:=λi=>row=some i) ⟨a.size,a.os,a.tape,a.output,λi hi f=>a.block i hi (λe=>f e.symm)⟩ (λi hi e=>by obtain⟨o,g,b⟩:=d i e;rw[h.Oi hi g]at b;cases b)
theorem au.others (h:au no w w'):KeepsOthers w w':=⟨h.size,λk _ a _=>(h.ax k (sy a) id).trans a⟩
theorem Sl.others (h:Sl w T sz p n c cs) (k:au (bg p) w w'):KeepsOthers w w':=
 ⟨k.size,λi _ hi a=>(k.ax i (sy hi) (λb=>by rw[h.Oi b hi]at a;cases a)).trans hi⟩
theorem Ey (w:World) (b o:Nat) (v:Value):au (λi=>i=b) w (w.setCell ⟨b,o,none⟩ v):=
 ⟨by show _<=(Array.modify _ _ _).size;rw[Array.size_modify];exact Nat.le_refl _,rfl,rfl,rfl,λi hi a=>by
  simp only[World.setCell,Array.getElem?_modify];rw[if_neg (by omega)]⟩
end
end Go.Dav
namespace Go.Proofs
open Go.RowKit Go.Shelf Go.Dav
attribute [local go_sem] Oper.semAt_some
attribute [-go_sem] Builtin.append_
set_option maxRecDepth 100000 in
set_option maxHeartbeats 4000000 in
theorem Tryz.YK {α:Type} (bl:α->Nat) (it:α->List Int) (L:List α) (hL:L.length=8) (q:Nat) (w:World) (hq:q<w.heap.size) {z:List Value} (he:dZ Tryz.prog 36 3 1 8 z)
  (hc:∀i v,L[i]?=some v->w.cell? ⟨q,i,none⟩=some (.pointer (some ⟨bl v,0,none⟩))) (hit:∀x,(it x).length<=1024)
  (hlist:∀x W,au no w W->Calls Tryz.prog 187 #[.pointer (some ⟨bl x,0,none⟩)] W λe w'=>∃p c,e=.returned (.slice p (it x).length c)/\Dav.Loc W w' 3 p c (it x)) :
  Calls Tryz.prog 182 #[.pointer (some ⟨q,0,none⟩)] w λe w'=>
   ∃p c,e=.returned (.slice p (L.reverse.flatMap it).length c)/\Dav.Loc w w' 3 p c (L.reverse.flatMap it):=by
 rw[<-callsIn_wide (n:=5)];refine callsIn_of_wp_marks Tryz.func182 rfl trivial ?_ rfl;simp only[Tryz.ntmps182,List.size_toArray,List.length_cons,List.length_nil,Nat.reduceAdd,Nat.reduceSub,Array.replicate_succ,Array.replicate_zero,List.push_toArray,List.append_toArray,List.nil_append,List.cons_append];have h1:Fence.wide.fn 273:=trivial;have h2:Fence.wide.fn 187:=trivial;have h3:Fence.wide.fn 341:=trivial
 gi_wp2_with (gi_at_call 273;refine(Tryz.MT Fence.wide _ h1 rfl _ _).mono ?_;rintro e w' ⟨rfl,rfl⟩)
 have c0:=zd w (.slice none 0 0) 36;have c2:=zd (w.alloc (.cells #[.slice none 0 0] 36)) (.pointer (some ⟨q,0,none⟩)) 152;simp only[World.size_alloc]at c2;have hU:au no w ((w.alloc (.cells #[.slice none 0 0] 36)).alloc (.cells #[.pointer (some ⟨q,0,none⟩)] 152)):=(au.tj w _).trans (au.tj _ _) (λ_ _ h=>h)
 refine wpIn_rangeFunc_ownF rfl (by decide) (gf:=341) (lb:=#[.pointer (some ⟨w.heap.size+1,0,none⟩)]) rfl h3 (enters_of Tryz.func341 (by kernel_rfl) rfl)
  (Tryz.MU (λx=>.pointer (some ⟨bl x,0,none⟩)) Fence.wide _ h3 rfl (by decide) (w.heap.size+1) q L hL _ (by simp) (by simp;omega) c2.1 (λi v h=>hU.FN (hc i v h))) ln.t (ln.b (by simp) (by simp;omega)) (Below.refl _ _) (λ_=>rfl)
  (λpre W=>au no w W/\∃p c,(W.cell? ⟨w.heap.size,0,none⟩=some (.slice p (pre.flatMap it).length c)/\W.frozen? ⟨w.heap.size,0,none⟩=false)/\Sl W 3 1 p (pre.flatMap it).length c ((pre.flatMap it).map (Value.int .i64))/\w.heap.size+1<W.heap.size/\∀i,bg p i->w.heap.size+1<i)
  (λ_ _ _=>False)
  ?own (λ_ _ _ _ _ h _ _=>h.elim) ?start
  (λx=>{tmps:=#[.pointer (some ⟨q,0,none⟩),undef,.slice none 0 0,.pointer (some ⟨w.heap.size,0,none⟩),.pointer (some ⟨bl x,0,none⟩),.pointer (some ⟨q,0,none⟩),.bool false,.pointer (some ⟨q,0,none⟩),.func (.func 341) #[] #[.pointer (some ⟨w.heap.size+1,0,none⟩)],.pointer (some ⟨bl x,0,none⟩),undef,undef,undef,undef,undef],defers:=[]}) ?assign ?body ?done ?stop
 case own=>
  rintro s A B row ⟨h1,p,c,h3,h4,h6,h5⟩ hg hr;have hr':∀r,row=some r->∃o:Obj,A.heap[r]?=some o/\o.isCells=false:=λr e=>(hr r e).2;exact⟨h1.grown hg (λr e=>by have:=(hr r e).1;simp at this;omega),p,c,⟨cell_kept h3.1 hg hr',(frozen_kept h3.1 hg hr').trans h3.2⟩,h4.grown hg hr',Nat.lt_of_lt_of_le h6 hg.size,h5⟩
 case start=>
  exact⟨hU,none,0,⟨za _ c0.1,CO _ c0.1 c0.2⟩,Sl.nil _ _ _,by simp,λi ⟨a,ha,_⟩=>by cases ha⟩
 case assign=>
  intro l x W K hK
  gi_wp2
  exact hK
 case body=>
  rintro l pre x W ⟨hW,p,c,⟨hca,hfa⟩,hS,hKp,hF⟩ hlt
  have hle:(pre.flatMap it).length<=8192:=by
   have:∀l:List α,(l.flatMap it).length<=1024*l.length:=λl=>by
    induction l with
    | nil=>simp
    | cons a l ih=>rw[List.flatMap_cons,List.length_append,List.length_cons];have:=hit a;omega
   have:=this pre;omega
  have hix:=hit x;obtain⟨lp,hlp⟩:∃lp,pre.flatMap it=lp:=⟨_,rfl⟩;rw[hlp]at hca hS hle;have hm:Tryz.prog.follows .mixedOrders=true:=by kernel_rfl
  have hWd:au no w W.drew:=hW.trans (au.same no rfl rfl rfl rfl) (λ_ _ h=>h);have hcd:W.drew.cell? ⟨w.heap.size,0,none⟩=some (.slice p lp.length c):=hca;have hfd:W.drew.frozen? ⟨w.heap.size,0,none⟩=false:=hfa;have hSd:Sl W.drew 3 1 p lp.length c (lp.map (Value.int .i64)):=hS.ak (au.same no rfl rfl rfl rfl) (λ_ _ h=>h)
  gi_wp2
  gi_region_with (gi_at_call 187;refine(Mx (hlist x _ hWd)).mono ?_;rintro e w2 ⟨p2,c2,rfl,hL2⟩;have hS2:=hSd.ak hL2.U (λ_ _ h=>h);have hcl:=hL2.U.FN hcd;have hlw:w.heap.size<W.drew.heap.size:=(cells_of_cell hcd).elim (λ_ h=>sy h.1);have hlw2:=Nat.lt_of_lt_of_le hlw hL2.U.size;have hfl:w2.frozen? ⟨w.heap.size,0,none⟩=false:=(World.frozen?_of_block (a:=⟨w.heap.size,0,none⟩) (hL2.U.ax _ hlw id)).trans hfd;obtain⟨p',n',c',w3,hr,hn3,hS3,hU3,hF3⟩:=xU he hS2 hL2.S.cells (m:=(it x).length) (d:=c2) (by simp) (by simp[Value.oneCell']) (λe=>by have:=hL2.S.2.2.2;subst e;exact this.2) (by omega) (by omega) 36;have hb3:w3.heap[w.heap.size]?=w2.heap[w.heap.size]?:=hU3.ax _ hlw2 (λh=>by have:=hF _ h;omega);have hc3:=(World.cell?_of_block (a:=⟨w.heap.size,0,none⟩) hb3).trans hcl;have hf3:w3.frozen? ⟨w.heap.size,0,none⟩=false:=(World.frozen?_of_block (a:=⟨w.heap.size,0,none⟩) hb3).trans hfl)
  all_goals
   subst hn3;have hUa:au no W w2:=(au.same (w:=W) (w':=W.drew) no rfl rfl rfl rfl).trans hL2.U (λ_ _ h=>h);have hw2:w.heap.size+1<w2.heap.size:=Nat.lt_of_lt_of_le hKp hUa.size;have hsl:∀i,bg p' i->w.heap.size+1<i:=λi hi=>(hF3 i hi).elim (hF i) (λh=>by omega);have hU3':au no w w3:=(hW.trans hUa (λ_ _ h=>h)).trans hU3 (λi hi h=>by have:=hF i h;omega);refine⟨(hUa.others.trans (hS2.others hU3)).trans (KeepsOthers.setCell _ _ _),⟨?_,?_⟩,hU3'.stored (Nat.le_refl _) _ _,p',c',⟨?_,?_⟩,?_,by have:=hU3.size;have:=(Ey w3 w.heap.size 0 (.slice p' (lp.length+(it x).length) c')).size;omega,hsl⟩
   ·exact((Ey w3 _ 0 _).ax _ (by have:=hU3.size;omega) (by omega)).trans ((hU3.ax _ (by omega) (λh=>by have:=hF _ h;omega)).trans (hUa.ax _ (by have:=hL2.U.size;exact hKp) id))
   ·exact((Ey w3 _ 0 _).ax _ (by have:=hU3.size;omega) (by omega)).trans ((hU3.ax _ (by omega) (λh=>by have:=hF _ h;omega)).trans (hUa.ax _ (by have:=hW.size;omega) id))
   ·rw[List.flatMap_append,hlp,List.flatMap_singleton,List.length_append];exact World.cell?_setCell_same' _ _ _ (by rw[hc3];rfl)
   ·rw[World.frozen?_setCell];exact hf3
   ·rw[List.flatMap_append,hlp,List.flatMap_singleton,List.length_append,List.map_append];exact hS3.ak (Ey w3 _ 0 _) (λi hi e=>by have:=hsl i hi;omega)
 case done=>
  rintro D ys W hD rfl ⟨hW,p,c,⟨hca,hfa⟩,hS,_,hF⟩ hK;obtain⟨l0,hl0⟩:∃l0,L.reverse.flatMap it=l0:=⟨_,rfl⟩;rw[hl0]at hca hS
  gi_wp2
  refine⟨by simp,.inl ⟨_,_,rfl,run_takeDeferred hK,?_⟩⟩;rw[hl0];refine⟨_,results_tmp rfl _ _ _,p,c,rfl,?_⟩;have hg:=grownBy_putObj' W D (.deferred none);exact⟨hW.grown hg (λr e=>by cases e;simp at hD;omega),hS.grown hg (λr e=>by cases e;exact⟨_,hK,rfl⟩),λi hi=>by have:=hF i hi;omega⟩
 case stop=>
  rintro D c pre W hD hpre h;exact h.elim
end Go.Proofs
namespace Go.Dav
open Go.Proofs
open _root_.Option renaming some→aa,none→ag,isSome_iff_exists→kJ,getD_some→gA,map_some→fX,map_eq_some_iff→jZ
open Value renaming int→ay,pointer→bo,slice→ft
open _root_.List renaming range→b8,map_cons→pk,nodup_cons→ni,mem_cons→eN,mem_map→cv,find?_eq_none→mr,mem_of_find?_eq_some→qK,getElem?_eq_some_iff→dI,mem_cons_of_mem→qC,mem_cons_self→ij,getElem?_append_left→js,length_map→bO,length_filter_le→jW,getElem_map→qI,filter_append→rU,map_append→fj,filter_map→uz,filter_congr→nZ,mem_append→dS,mem_singleton→fV,length_append→cz,length_singleton→qJ,nodup_append→iW,length→iX,length_pos_of_mem→yL,mem_filter→gC,filter_cons→vZ,replicate→aD,set_cons_zero→rV,range_succ→ob,append_assoc→iY,mem_range→dh,nodup_nil→iK,getD_eq_getElem?_getD→aQ,getElem?_eq_none→fB,getElem?_set→cB,mem_or_eq_of_mem_set→il,getElem_mem→cx,set_getElem_self→nc,eq_of_mem_replicate→jX,replicate_succ'→rX,foldl_append→lx,foldl_cons→nY,take_succ_eq_append_getElem→ey,take_length→dA,getElem?_append_right→kE,ext_getElem?→cT,getElem?_append→ng,getElem?_take→gV,getElem?_drop→gD,getElem?_map→eZ,length_take→eh,length_cons→im,length_nil→nm,length_set→bZ,getElem_set_ne→qD,count_pos_iff→rS,findIdx?_eq_some_iff_getElem→nk,findIdx?_eq_none_iff→rT,getElem_of_mem→tg,getElem_set_self→pj,count_append→ml,count_singleton→te,map_set→eY,getElem?_replicate→iJ,toArray→dB,length_replicate→fC,set_set→qA,length_drop→kz,any_eq_true→mn,eq_nil_of_length_eq_zero→mq,getElem?_cons_zero→vX,set_cons_succ→rW,getElem_cons_succ→uC,getElem?_eq_getElem→cS
open _root_.Bool renaming false→ae,true→ah,eq_iff_iff→gB,false_eq_true→gz,or_eq_true→ik,and_eq_true→br,and_true→mu,false_and→iI,true_and→fc,not_eq_true'→ly,or_false→lu
open _root_.Prod renaming ext→na
open _root_.Nat renaming le_of_eq→bG,zero_le→cZ,le_trans→aX,add_mul→lz,min_eq_left→nj,le_refl→b7,zero_add→fv,mul_one→ez,add_zero→n5,lt_of_lt_of_le→jV
open _root_.Int renaming toNat_natCast→bK,toNat→aG,tdiv→iH,tdiv_eq_ediv_of_nonneg→wj,tmod→eO,tmod_eq_emod_of_nonneg→px
open _root_.Iff renaming rfl→bB
open Addr renaming add_add→dN,add→bh
open Ending renaming returned→cj
open IntKind renaming wrap→aT,max→oa,i64→aY
open _root_.Classical renaming byContradiction→eu
open Fn renaming func→aS
open World renaming cell?_of_block→tf
open Builtin renaming append_→bM
open Sem renaming run_bind→o8
open Result renaming andThen_ok→o9
theorem pW:o0 Tryz.prog 78 3 3 (.int .i64 0):=⟨by kernel_rfl,by kernel_rfl,by kernel_rfl,by kernel_rfl⟩
abbrev bE:=List (Int×Int)
def cH (L:bE) (p:Nat):List Int:=(L.filter (λe=>decide (e.1=(p:Int)))).map (·.2)
abbrev rN:=Nat×Nat×List Int
def JE:Ob rN:=λw F s=>eb s.1 w F s.2
instance Frame.lvl:Frame JE where
 ak:=λ{_ _ _ _ s} h k a=>(Frame.fq s.1).ak h k a
 lt:=λ{_ _ s} h=>(Frame.fq s.1).lt h
def Ai (b:Nat):Value:=.pointer (aa ⟨b,0,ag⟩)
def qb (r:Nat) (x:List Value×Nat):List Value:=x.1++[.map (aa r),.int .i64 x.2]
abbrev mc (q r:Nat):Ob ((((Int->Option Int)×Nat)×(List Value×Nat))×List rN):=aF (aF (bF r (ay .i64)) (Rw q 265 (qb r))) (Fam JE)
def jD (B:Nat->Nat) (m:Nat) (L:bE):List rN:=(b8 8).map λi=>(B i,m,cH L i)
def qP (B:Nat->Nat):List Value:=(b8 8).map λi=>Ai (B i)
structure jo (x:Nat×bE) (g:(Int->Option Int)×Nat):Prop where
 map:∀k v,g.1 k=aa v↔(v,k)∈x.2
 len:g.2=x.2.length
 one:(x.2.map (·.2)).Nodup
 gM:∀e∈x.2,0<=e.1/\e.1<8
 room:x.2.length<=x.1
 jE:1<=x.1/\x.1<=1024
def fz (q:Nat):Ob (Nat×bE):=λw F x=>∃r B g,mc q r w F ((g,(qP B,x.1)),jD B x.1 x.2)/\jo x g
instance Frame.pq (q:Nat):Frame (fz q) where
 ak:=λ⟨r,B,g,h,k⟩ a b=>⟨r,B,g,Frame.star.ak h a b,k⟩
 lt:=λ⟨_,_,_,h,_⟩=>Frame.star.lt h
section
variable {q r:Nat} {w w':World} {F:Fp} {x:Nat×bE} {g:(Int->Option Int)×Nat} {B:Nat->Nat}
theorem DK {y:(((Int->Option Int)×Nat)×(List Value×Nat))×List rN} (h:mc q r w F y):aL w q (qb r y.1.2) 265:=by
 obtain⟨F1,F2,⟨F3,F4,_,a,_⟩,_⟩:=h;exact a.ax
theorem Im {y:(((Int->Option Int)×Nat)×(List Value×Nat))×List rN} (h:mc q r w F y):∃F1,bF r (ay .i64) w F1 y.1.1:=by
 obtain⟨F1,F2,⟨F3,F4,a,_⟩,_⟩:=h;exact⟨_,a⟩
theorem Ag {y:(((Int->Option Int)×Nat)×(List Value×Nat))×List rN} (h:mc q r w F y) (a:y.1.2.1.length=8):w.cell? ((⟨q,0,ag⟩:Addr).add 8)=aa (.map (aa r))/\w.cell? ((⟨q,0,ag⟩:Addr).add 9)=aa (.int .i64 y.1.2.2):=by
 have b:=DK h;exact⟨b.cell (by simp[qb,a]),b.cell (by simp[qb,a])⟩
theorem wz (B:Nat->Nat):(qP B).length=8:=by simp[qP]
def qc (x:Nat×bE) (k:Int):Int×Bool:=match x.2.find? (λe=>decide (e.2=k))with
 | none=>(0,ae)
 | some e=>(e.1,ah)
theorem z7:∀{L:bE} (_:(L.map (·.2)).Nodup) {a b:Int×Int} (_:a∈L) (_:b∈L) (_:a.2=b.2),a=b
 | c::L,f,a,b,d,e,h=>by
  rw[pk,ni]at f;rcases eN.1 d with d|d<;>rcases eN.1 e with e|e
  ·rw[d,e]
  ·exact absurd (cv.2 ⟨b,e,by rw[<-h,d]⟩) f.1
  ·exact absurd (cv.2 ⟨a,d,by rw[h,e]⟩) f.1
  ·exact z7 f.2 d e h
theorem jo.prio (h:jo x g) (k:Int):((g.1 k).map (ay .i64)).getD (.int .i64 0)=.int .i64 (qc x k).1/\(g.1 k).isSome=(qc x k).2:=by
 unfold qc
 cases a:x.2.find? (λe=>decide (e.2=k))with
 | none=>
  have:g.1 k=ag:=by
   cases c:g.1 k with
   | none=>rfl
   | some v=>
    have:=mr.1 a _ ((h.map k v).1 c);simp at this
  simp[this]
 | some e=>
  have d:=qK a;have b:=List.find?_some a;simp at b;have:g.1 k=aa e.1:=(h.map k e.1).2 (by rw[<-b];exact d);simp[this]
theorem aau (h:fz q w F x):Calls Tryz.prog 74 #[.pointer (aa ⟨q,0,ag⟩)] w λe w'=>e=.returned (.int .i64 x.2.length)/\w'=w:=by
 obtain⟨r,B,g,h,hi⟩:=h;obtain⟨F1,a⟩:=Im h;refine u74 ?_;refine⟨λh=>by simp at h,λ_=>⟨_,rfl,_,(Ag h (wz B)).1,_,λty=>II pW a ty,by simp only[hi.len],rfl⟩⟩
theorem aaG (h:fz q w F x) (k:Int):Calls Tryz.prog 323 #[.pointer (aa ⟨q,0,ag⟩),.int .i64 k] w λe w'=>e=.returned (.tuple #[.int .i64 (qc x k).1,.bool (qc x k).2])/\w'=w:=by
 obtain⟨r,B,g,h,hi⟩:=h;obtain⟨F1,a⟩:=Im h;refine ah5 ?_;refine⟨λh=>by simp at h,λ_=>⟨_,rfl,_,(Ag h (wz B)).1,(qc x k).1,(qc x k).2,?_,rfl,rfl⟩⟩;rw[jL pW a k ah,<-(hi.prio k).1,<-(hi.prio k).2];rfl
def L8:List (Fin 8):=[0,1,2,3,4,5,6,7]
theorem Yw {i:Nat} {v:Fin 8} (h:L8[i]?=aa v):v.val=i:=by
 have hi:i<8:=(dI.1 h).1;have hA:∀i:Fin 8,L8[i.val]?=aa i:=by decide
 have:=hA ⟨i,hi⟩;simp only at this;rw[h]at this;cases this;rfl
def oJ (L:bE):List Int:=L8.reverse.flatMap λi=>cH L i.val
def mQ (x:Nat×bE):Int×Int:=match oJ x.2 with
 | []=>(0,12)
 | a::_=>(a,0)
theorem Hi {α:Type} {f:α->List Int}:∀{l:List α},(l.find? (λi=>decide (0<(f i).length))=ag/\l.flatMap f=[])∨∃i a t t',l.find? (λi=>decide (0<(f i).length))=aa i/\i∈l/\f i=a::t/\l.flatMap f=a::t'
 | []=>.inl ⟨rfl,rfl⟩
 | i::l=>by
  cases b:f i with
  | nil=>
   rcases Hi (f:=f) (l:=l)with⟨h1,c⟩|⟨j,a,t,t',h1,c,d,e⟩
   ·exact .inl ⟨by simp[List.find?_cons,b,h1],by simp[b,c]⟩
   ·exact .inr ⟨j,a,t,t',by simp[List.find?_cons,b,h1],qC _ c,d,by simp[b,e]⟩
  | cons a t=>exact .inr ⟨i,a,t,t++l.flatMap f,by simp[List.find?_cons,b],ij,b,by simp[b]⟩
theorem Dn {m:Nat} {L:bE}:(jD B m L).length=8:=by simp[jD]
theorem Ik (h:mc q r w F ((g,(qP B,x.1)),jD B x.1 x.2)) (i:Fin 8):∃F1,eb (B i.val) w F1 (x.1,cH x.2 i.val):=by
 obtain⟨F2,b,_⟩:=aF.right h;obtain⟨F1,a,_⟩:=Fam.at b (i:=i.val) (by rw[Dn];exact i.isLt);refine⟨F1,?_⟩;have:(jD B x.1 x.2)[i.val]'(by rw[Dn];exact i.isLt)=(B i.val,x.1,cH x.2 i.val):=by simp[jD]
 rw[this]at a;exact a
theorem DL (h:mc q r w F ((g,(qP B,x.1)),jD B x.1 x.2)):∀i v,L8[i]?=aa v->w.cell? ⟨q,i,ag⟩=aa (.pointer (aa ⟨B v.val,0,ag⟩)):=by
 intro i v b;have c:=Yw b;have a:=v.isLt;rw[zb (DK h)];subst c;simp only[qb];rw[js (by rw[wz];exact a)];simp[qP,Ai,a]
theorem R7 (h:mc q r w F ((g,(qP B,x.1)),jD B x.1 x.2)):Calls Tryz.prog 365 #[.pointer (aa ⟨q,0,ag⟩)] w λe w'=>
  e=.returned (uc (λv:Fin 8=>B v.val) (λv=>(cH x.2 v.val).length) L8.reverse)/\au no w w':=by
 refine Tryz.aew _ _ L8 rfl q w (DK h).lt (DL h) λv W a=>?_;obtain⟨F1,b⟩:=Ik h v;exact aaW ((Frame.fq _).ak b a (λ_ _ h=>h))
theorem aex (h:fz q w F x):Calls Tryz.prog 309 #[.pointer (aa ⟨q,0,ag⟩)] w λe w'=>e=.returned (.tuple #[.int .i64 (mQ x).1,.int .i64 (mQ x).2])/\au no w w':=by
 obtain⟨r,B,g,h,hi⟩:=h;refine ahR ?_;refine⟨(R7 h).mono ?_⟩;rintro e w1 ⟨rfl,b⟩;unfold uc mQ oJ;rcases Hi (f:=λv:Fin 8=>cH x.2 v.val) (l:=L8.reverse)with⟨h1,d⟩|⟨j,a,t,t',h1,d,i,m⟩
 ·rw[h1,d];exact⟨_,_,rfl,λ_=>⟨rfl,b⟩,λk=>by simp at k⟩
 ·rw[h1,m];refine⟨_,_,rfl,λk=>by simp at k,λ_=>?_⟩;obtain⟨F1,n⟩:=Ik h j;refine⟨(Ir ((Frame.fq _).ak n b (λ_ _ h=>h))).mono ?_⟩;rintro e o ⟨rfl,c⟩;refine⟨_,_,rfl,?_,b.and c⟩;simp[cN,i]
theorem YS (h:jo x g) (p:Nat):(cH x.2 p).length<=1024:=by
 have a:=h.room;have b:=h.jE;have c:(cH x.2 p).length<=x.2.length:=by unfold cH;rw[bO];exact jW _ _
 omega
theorem YL (h:fz q w F x):Calls Tryz.prog 182 #[.pointer (aa ⟨q,0,ag⟩)] w λe w'=>∃p c,e=.returned (.slice p (oJ x.2).length c)/\Loc w w' 3 p c (oJ x.2):=by
 obtain⟨r,B,g,h,hi⟩:=h;refine Tryz.YK (λv:Fin 8=>B v.val) (λv=>cH x.2 v.val) L8 rfl q w (DK h).lt ov (DL h) (λv=>YS hi v.val) λv W b=>?_;obtain⟨F1,d⟩:=Ik h v;obtain⟨g,y,f,i,j,a,k⟩:=(Frame.fq _).ak d b (λ_ _ h=>h);have a:view g=cH x.2 v.val:=a;rw[<-a];exact Dj f i
theorem Q3 {y:List Value×Nat} {ls:List rN} (h:mc q r w F ((g,y),ls)):∃F1,bF r (ay .i64) w F1 g/\∀w' a,ai (bF r (ay .i64)) w w' F1 a->ai (mc q r) w w' F ((a,y),ls):=by
 obtain⟨F1,b,c⟩:=aF.left h;obtain⟨F2,d,k2⟩:=aF.left b;exact⟨F2,d,λw' a e=>c _ _ (k2 _ _ e)⟩
theorem YU {m:Nat} {L c:bE} {i:Nat} (hi:i<8) {l':List Int} (d:cH c i=l') (e:∀j,j≠i->cH c j=cH L j):(jD B m L).set i (B i,m,l')=jD B m c:=by
 apply List.ext_getElem
 ·simp[jD]
 ·intro j a b;rw[List.getElem_set];simp only[jD,qI,List.getElem_range];split
  ·rename_i h;subst h;rw[d]
  ·rename_i h;rw[e j (by omega)]
theorem Il {m:Nat} {L:bE} {y:List Value×Nat} (h:mc q r w F ((g,y),jD B m L)) {i:Nat} (hi:i<8):∃F1,eb (B i) w F1 (m,cH L i)/\
  ∀w' l',ai (eb (B i)) w w' F1 (m,l')->∀a,cH a i=l'->(∀j,j≠i->cH a j=cH L j)->ai (mc q r) w w' F ((g,y),jD B m a):=by
 obtain⟨F2,c,k2⟩:=aF.right h;obtain⟨F1,b,_,d⟩:=Fam.at c (i:=i) (by rw[Dn];exact hi);have:(jD B m L)[i]'(by rw[Dn];exact hi)=(B i,m,cH L i):=by simp[jD]
 rw[this]at b;refine⟨F1,b,λw' l' e a f k=>?_⟩;have:=k2 _ _ (d w' (B i,m,l') e);rw[YU hi f k]at this;exact this
theorem ai.pq (h:ai (mc q r) w w' F ((g,(qP B,x.1)),jD B x.1 x.2)) (k:jo x g):ai (fz q) w w' F x:=by
 obtain⟨a,b,c⟩:=h;exact⟨a,⟨r,B,g,b,k⟩,c⟩
theorem ai.glue {σ:Type} {A:Ob σ} {b:σ} {w1 c d:World} {F3:Fp} (e:au F w w1) (f:au F w1 c) (f3:∀i,F3 i->F i∨w1.heap.size<=i) (k:ai A c d F3 b):ai A w d F b:=by
 obtain⟨j,l,m,n⟩:=k;have hs:=e.size;have o:=f.size;refine⟨j,l,(e.and f).trans m (λi hi a=>(f3 i a).elim id (λh=>by omega)),λi a=>?_⟩;rcases n i a with h|h
 ·exact(f3 i h).imp id (λh=>by omega)
 ·exact .inr (by omega)
def cO (x:Nat×bE) (k:Int):Bool:=(x.2.map (·.2)).contains k
def gL (x:Nat×bE) (p k:Int):Int:=if p<0∨8<=p then 2 else if cO x k then 6 else if x.1<=x.2.length then 5 else 0
def kZ (x:Nat×bE) (p k:Int):Nat×bE:=if gL x p k=0 then(x.1,x.2++[(p,k)])else x
def rk (x:Nat×bE) (k:Int):Int:=if cO x k then 0 else 4
def fm (x:Nat×bE) (k:Int):Nat×bE:=(x.1,x.2.filter λe=>decide (e.2≠k))
def xF (x:Nat×bE) (k:Int):Int:=rk x k
def jH (x:Nat×bE) (k:Int):Nat×bE:=if cO x k then(x.1,(fm x k).2++[((qc x k).1,k)])else x
def tP (x:Nat×bE):Int:=(mQ x).2
def nL (x:Nat×bE):Nat×bE:=if tP x=0 then jH x (mQ x).1 else x
theorem Dm (L:bE) (p k:Int) (i:Nat):cH (L++[(p,k)]) i=cH L i++(if p=(i:Int)then[k]else[]):=by
 unfold cH;rw[rU,fj];congr 1;by_cases h:p=(i:Int)<;>simp[h]
theorem Dl (L:bE) (k:Int) (i:Nat):cH (L.filter λe=>decide (e.2≠k)) i=(cH L i).filter λa=>decide (a≠k):=by
 unfold cH;rw[uz,List.filter_filter,List.filter_filter];congr 1;apply nZ;intro e _;simp[Bool.and_comm]
theorem sD {L:bE} {i:Nat} {k:Int}:k∈cH L i↔((i:Int),k)∈L:=by
 unfold cH;simp
theorem HW {L:bE} (h:(L.map (·.2)).Nodup) (i:Nat):(cH L i).Nodup:=by
 unfold cH;exact List.Nodup.sublist (List.Sublist.map _ List.filter_sublist) h
theorem iv {k:Int}:cO x k=ah↔∃p,(p,k)∈x.2:=by
 unfold cO;simp
theorem jo.xg (h:jo x g) (k:Int):(g.1 k).isSome=cO x k:=by
 rw[gB,iv,kJ];exact⟨λ⟨v,a⟩=>⟨v,(h.map k v).1 a⟩,λ⟨v,a⟩=>⟨v,(h.map k v).2 a⟩⟩
theorem jo.push (h:jo x g) {p k:Int} (l:0<=p/\p<8) (i:cO x k=ae) (o:x.2.length<x.1):jo (x.1,x.2++[(p,k)]) (fe g k p):=by
 have hs:=h.xg k;rw[i]at hs;have f:g.1 k=ag:=by cases s:g.1 k<;>simp_all
 have d:∀v,(v,k)∉x.2:=λv m=>by have:=iv.2 ⟨v,m⟩;rw[i]at this;cases this
 refine⟨?_,?_,?_,?_,?_,h.jE⟩
 ·intro a v;simp only[fe];split
  ·rename_i e;subst e;simp only[dS,fV,Prod.mk.injEq,and_true,Option.some.injEq];exact⟨λe=>.inr e.symm,λe=>e.elim (λe=>absurd e (d v)) (λe=>e.symm)⟩
  ·rename_i e;rw[h.map];simp[e]
 ·simp only[fe,hs,cz,qJ,h.len];simp
 ·rw[fj,iW];refine⟨h.one,by simp,λa n b j e=>?_⟩;simp at j;subst j;subst e;obtain⟨e,c,rfl⟩:=cv.1 n;exact d e.1 c
 ·intro e c;rcases dS.1 c with c|c
  ·exact h.gM e c
  ·simp at c;subst c;exact l
 ·simp;omega
theorem Q1 (h:fz q w F x) (p k:Int):Calls Tryz.prog 320 #[.pointer (aa ⟨q,0,ag⟩),.int .i64 p,.int .i64 k] w λe w'=>e=.returned (.int .i64 (gL x p k))/\ai (fz q) w w' F (kZ x p k):=by
 obtain⟨r,B,g,h,hi⟩:=id h;rename_i hO;obtain⟨F1,y⟩:=Im h;have G:=Ag h (wz B);refine ah2 ?_;have m:=jL pW y k ah;simp only[if_true,(hi.prio k).1,hi.xg k]at m;refine⟨λh=>by simp at h,λ_=>⟨_,rfl,_,G.1,_,_,m,λa=>⟨λf=>?_,λf=>⟨λl=>?_,λl w1 H I J K=>?_⟩⟩,λa=>?_⟩⟩
 ·have e:gL x p k=2:=by simp at f;unfold gL;rw[ar (.inr f)]
  rw[kZ,e];exact⟨rfl,ai.same hO⟩
 ·simp at a f;have e:gL x p k=6:=by unfold gL;rw[af (by omega),ar l]
  rw[kZ,e];exact⟨rfl,ai.same hO⟩
 ·simp at a f;have u:=au.same no H I J K;have C:=Frame.star.ak h u (λ_ _ h=>h);have L:=(Frame.pq q).ak hO u (λ_ _ h=>h);obtain⟨F2,n,M⟩:=Q3 C;have b:=Ag C (wz B);refine⟨_,rfl,_,b.1,_,λty=>II pW n ty,_,rfl,_,b.2,λo=>?_,λo=>?_⟩
  ·simp only[hi.len]at o;simp at o;have e:gL x p k=5:=by unfold gL;rw[af (by omega),af (by rw[l];simp),ar (by omega)]
   rw[kZ,e];exact⟨rfl,ai.quiet hO u⟩
  ·simp only[hi.len]at o;simp at o;have e:gL x p k=0:=by unfold gL;rw[af (by omega),af (by rw[l];simp),af (by omega)]
   obtain⟨D,N,O⟩:=qk pW n k p;refine⟨_,rfl,_,b.1,D,N,_,rfl,⟨a,f⟩,?_⟩;obtain⟨F3,s,P,f3⟩:=M _ _ O;obtain⟨i,rfl⟩:∃i:Nat,p=i:=⟨p.toNat,by omega⟩;have c:i<8:=by omega
   obtain⟨F4,z,Q⟩:=Il s c
   have d:D.cell? (((⟨q,0,ag⟩:Addr).add 0).add (i*1))=aa (.pointer (aa ⟨B i,0,ag⟩)):=by
    have:=DL (x:=x) s i ⟨i,c⟩ (by
     have hA:∀i:Fin 8,L8[i.val]?=aa i:=by decide
     exact hA ⟨i,c⟩)
    simpa [add_lit]using this
   refine⟨_,d,⟨(xG z k).mono ?_⟩⟩;rintro S U ⟨rfl,t⟩;have A:k∉cH x.2 i:=λy=>by have:=iv.2 ⟨_,sD.1 y⟩;rw[l]at this;cases this
   have R:(cH x.2 i).length<=x.2.length:=by unfold cH;rw[bO];exact jW _ _
   have E:gZ (x.1,cH x.2 i) k=0:=by unfold gZ;simp only;rw[af A,af (by omega)]
   rw[kb,ar E]at t;rw[E,kZ,e,ar rfl];have T:=ai.pq (x:=(x.1,x.2++[((i:Int),k)])) (ai.glue (u.mono (λ_ _ h=>h.elim)) P f3 (Q _ _ t (x.2++[((i:Int),k)]) (by rw[Dm,ar rfl]) (λj V=>by rw[Dm,af (by omega),List.append_nil]))) (hi.push ⟨a,by omega⟩ l (by omega));exact⟨_,rfl,rfl,T⟩
 ·have e:gL x p k=2:=by simp at a;unfold gL;rw[ar (.inl a)]
  rw[kZ,e];exact⟨rfl,ai.same hO⟩
theorem erase_eq {l:List Int} (h:l.Nodup) (k:Int):l.erase k=l.filter λa=>decide (a≠k):=by
 rw[h.erase_eq_filter];apply nZ;intro a _;rw[gB];simp
theorem jo.drop (h:jo x g) {k p:Int} (c:(p,k)∈x.2):jo (fm x k) (gK g k):=by
 have hs:(g.1 k).isSome=ah:=by rw[h.xg];exact iv.2 ⟨p,c⟩
 have n:(x.2.filter λe=>decide (e.2≠k)).length+1=x.2.length:=by
  have f:∀L:bE,(L.map (·.2)).Nodup->(p,k)∈L->(L.filter λe=>decide (e.2≠k)).length+1=L.length:=by
   intro L i d
   have j:(L.filter λe=>decide (e.2≠k)).map (·.2)=(L.map (·.2)).erase k:=by
    rw[erase_eq i,uz];rfl
   have l:=congrArg iX j;have b:k∈L.map (·.2):=cv.2 ⟨_,d,rfl⟩;rw[bO,List.length_erase_of_mem b,bO]at l;have:=yL d;omega
  exact f x.2 h.one c
 refine⟨?_,?_,?_,?_,?_,h.jE⟩
 ·intro a v;simp only[gK,fm];split
  ·rename_i e;subst e;simp
  ·rename_i e;rw[h.map];simp[e]
 ·simp only[gK,hs,fm,h.len,if_true];omega
 ·exact List.Nodup.sublist (List.Sublist.map _ List.filter_sublist) h.one
 ·intro e m;exact h.gM e (gC.1 m).1
 ·have:=h.room;simp only[fm];omega
theorem Ah {k p:Int} (d:(x.2.map (·.2)).Nodup) (b:(p,k)∈x.2):qc x k=(p,ah):=by
 unfold qc
 cases a:x.2.find? (λe=>decide (e.2=k))with
 | none=>
  have:=mr.1 a _ b
  simp at this
 | some e=>
  have f:=qK a;have c:=List.find?_some a;simp at c;have:=z7 d f b (by simpa using c);simp[this]
theorem QW (h:fz q w F x) (k:Int):Calls Tryz.prog 321 #[.pointer (aa ⟨q,0,ag⟩),.int .i64 k] w λe w'=>e=.returned (.int .i64 (rk x k))/\ai (fz q) w w' F (if cO x k then fm x k else x):=by
 obtain⟨r,B,g,h,hi⟩:=id h;rename_i hO;obtain⟨F1,y,C⟩:=Q3 h;have z:=Ag h (wz B);refine ah3 ?_;have f:=jL pW y k ah;simp only[if_true,(hi.prio k).1,hi.xg k]at f;refine⟨λh=>by simp at h,λ_=>⟨_,rfl,_,z.1,_,_,f,λb=>?_,λb=>?_⟩⟩
 ·simp at b;rw[rk,b];exact⟨rfl,ai.same hO⟩
 ·have b:cO x k=ah:=by simpa using b
  obtain⟨p,l⟩:=iv.1 b;have o:=hi.gM _ l;rw[Ah hi.one l];obtain⟨A,m,D⟩:=sL pW y k 3 0;refine⟨_,rfl,_,z.1,A,m,_,rfl,⟨o.1,o.2⟩,?_⟩;obtain⟨F3,n,E,f3⟩:=C _ _ D;obtain⟨i,rfl⟩:∃i:Nat,p=i:=⟨p.toNat,by have:=o.1;omega⟩;have c:i<8:=by have:=o.2;simp at this;omega
  obtain⟨F4,s,G⟩:=Il n c
  have d:A.cell? (((⟨q,0,ag⟩:Addr).add 0).add (i*1))=aa (.pointer (aa ⟨B i,0,ag⟩)):=by
   have:=DL (x:=x) n i ⟨i,c⟩ (by
    have hA:∀i:Fin 8,L8[i.val]?=aa i:=by decide
    exact hA ⟨i,c⟩)
   simpa [add_lit]using this
  refine⟨_,d,⟨(Q8 s k).mono ?_⟩⟩;rintro K L ⟨rfl,t⟩;have u:k∈cH x.2 i:=sD.2 l;have H:sd (x.1,cH x.2 i) k=0:=by unfold sd;rw[ar u]
  rw[H,rk,b];refine⟨_,rfl,rfl,?_⟩;have I:=erase_eq (HW hi.one i) k
  have T:=ai.pq (x:=fm x k) (ai.glue (au.refl _ _) E f3 (G _ _ t (fm x k).2 (by rw[I];exact Dl _ _ _) (λj M=>by
   rw[fm,Dl];apply List.filter_eq_self.2;intro a J;rw[decide_eq_true_eq];rintro rfl;have:=z7 hi.one (sD.1 J) l rfl;simp at this;omega))) (hi.drop l)
  exact T
theorem M1 (x:Nat×bE) (k:Int):cO (fm x k) k=ae:=by
 cases h:cO (fm x k) k with
 | false=>rfl
 | true=>
  obtain⟨p,a⟩:=iv.1 h;simp[fm]at a
theorem jo.MZ (h:jo x g) {p k:Int} (a:(p,k)∈x.2):(fm x k).2.length+1=x.2.length:=by
 have b:=(h.drop a).len;have hs:(g.1 k).isSome=ah:=by rw[h.xg];exact iv.2 ⟨p,a⟩
 have:=yL a;simp only[gK,hs,if_true,h.len]at b;omega
theorem jo.back (h:jo x g) {p k:Int} (a:(p,k)∈x.2):jo (jH x k) g:=by
 have c:=h.drop a;have d:=h.MZ a;have i:=h.room;have b:=c.push (h.gM _ a) (M1 x k) (by simp only[fm]at d⊢;omega);have hs:(g.1 k).isSome=ah:=by rw[h.xg];exact iv.2 ⟨p,a⟩
 have f:fe (gK g k) k p=g:=by
  apply na
  ·funext j;simp only[fe,gK];split
   ·rename_i e;subst e;exact((h.map _ _).2 a).symm
   ·rfl
  ·have:=h.len;have:=yL a;simp[fe,gK,hs];omega
 rw[f]at b;rw[jH,ar (iv.2 ⟨p,a⟩),Ah h.one a];exact b
theorem aaH (h:fz q w F x):Calls Tryz.prog 310 #[.pointer (aa ⟨q,0,ag⟩)] w λe w'=>e=.returned (.int .i64 (tP x))/\ai (fz q) w w' F (nL x):=by
 obtain⟨r,B,g,h,hi⟩:=id h;rename_i hO;refine ahS ?_;refine⟨(R7 h).mono ?_⟩;rintro e w1 ⟨rfl,n⟩;unfold uc;rcases Hi (f:=λv:Fin 8=>cH x.2 v.val) (l:=L8.reverse)with⟨h1,s⟩|⟨j,a,t,t',h1,s,c,z⟩
 ·rw[h1];have e:tP x=12:=by rw[tP,mQ,oJ,s]
  rw[nL,e];exact⟨_,_,rfl,λ_=>⟨rfl,ai.quiet hO n⟩,λk=>by simp at k⟩
 ·rw[h1];have y:mQ x=(a,0):=by rw[mQ,oJ,z]
  have e:tP x=0:=by rw[tP,y]
  rw[nL,e,ar rfl,y];refine⟨_,_,rfl,λk=>by simp at k,λ_=>?_⟩;have A:=Frame.star.ak h n (λ_ _ h=>h);obtain⟨F4,o,C⟩:=Il A j.isLt;refine⟨(aaX o).mono ?_⟩;rintro I J ⟨rfl,d⟩;have c:cH x.2 j.val=a::t:=c;have D:Jf (x.1,cH x.2 j.val)=0:=by simp[Jf,cN,c]
  have E:Jg (x.1,cH x.2 j.val)=(x.1,t++[a]):=by simp[Jg,c]
  rw[D];rw[E]at d;have b:((j.val:Int),a)∈x.2:=sD.1 (by rw[c];exact ij);have G:jH x a=(x.1,(fm x a).2++[((j.val:Int),a)]):=by rw[jH,ar (iv.2 ⟨_,b⟩),Ah hi.one b]
  have m:=HW hi.one j.val;rw[c,ni]at m
  have T:=ai.pq (x:=jH x a) (g:=g) (B:=B) (by
   rw[G]
   exact ai.glue (F3:=F) (n.mono (λ_ _ h=>h.elim)) (au.refl _ _) (λi h=>.inl h) (C _ _ d ((fm x a).2++[((j.val:Int),a)])
    (by
     rw[Dm,ar rfl,fm,Dl,c,vZ];simp only[ne_eq,not_true_eq_false,decide_false,gz,if_false];congr 1;apply List.filter_eq_self.2;intro u p;rw[decide_eq_true_eq];rintro rfl;exact m.1 p)
    (λi H=>by
     rw[Dm,af (by omega),List.append_nil,fm,Dl];apply List.filter_eq_self.2;intro u p;rw[decide_eq_true_eq];rintro rfl;have:=z7 hi.one (sD.1 p) b rfl;simp at this;omega))) (hi.back b)
  exact⟨_,rfl,rfl,T⟩
theorem aaf (h:fz q w F x) (k:Int):Calls Tryz.prog 243 #[.pointer (aa ⟨q,0,ag⟩),.int .i64 k] w λe w'=>e=.returned (.int .i64 (xF x k))/\ai (fz q) w w' F (jH x k):=by
 refine agU ?_;refine⟨(aaG h k).mono ?_⟩;rintro e w1 ⟨rfl,rfl⟩;refine⟨_,_,rfl,⟨(QW h k).mono ?_⟩⟩;rintro e l ⟨rfl,F3,a,d,f3⟩;obtain⟨r,B,g,_,hi⟩:=h
 cases hk:cO x k with
 | false=>
  have e:xF x k=4:=by rw[xF,rk,hk];rfl
  rw[hk]at a;rw[e,jH,hk];have b:rk x k=4:=e;rw[b]
  exact⟨_,rfl,λ_=>⟨rfl,F3,a,d,f3⟩,λh=>by simp at h⟩
 | true=>
  have e:xF x k=0:=by rw[xF,rk,hk];rfl
  rw[hk,ar rfl]at a;have b:rk x k=0:=e;rw[e,b,jH,ar hk];refine⟨_,rfl,λh=>by simp at h,λ_=>⟨(Q1 a _ k).mono ?_⟩⟩;rintro e m ⟨rfl,T4⟩;obtain⟨p,c⟩:=iv.1 hk;have i:=hi.gM _ c;have j:=hi.MZ c;have n:=hi.room
  have f:gL (fm x k) (qc x k).1 k=0:=by
   rw[Ah hi.one c,gL,af (by simp only at i⊢;omega),af (by rw[M1];simp),af (by simp only[fm]at j⊢;omega)]
  rw[kZ,ar f]at T4;rw[f];exact⟨_,rfl,rfl,ai.glue (au.refl _ _) d f3 T4⟩
def xB (n:Int):Prop:=1<=n/\n<=1024
def lE (B:Nat->Nat) (j:Nat):List Value:=((b8 j).map λi=>Ai (B i))++aD (8-j) (.pointer ag)
def xu (B:Nat->Nat) (m j:Nat):List rN:=(b8 j).map λi=>(B i,m,[])
theorem TS {j b m:Nat} (f:j<8):ba (qb r (lE B j,m)) j [Ai b]=qb r (lE (λi=>if i=j then b else B i) (j+1),m):=by
 have a:∀(l:List Value) (v:Value),j<l.length->ba l j [v]=l.set j v:=λl v h=>by
  rw[ba,List.set_eq_take_append_cons_drop,ar h];simp
 have c:(lE B j).length=8:=by simp[lE];omega
 have d:(lE (λi=>if i=j then b else B i) (j+1)).length=8:=by simp[lE];omega
 rw[a _ _ (by simp[qb,c];omega)];unfold qb;rw[List.set_append_left _ _ (by simp only;omega)];congr 1;show(lE B j).set j (Ai b)=lE (λi=>if i=j then b else B i) (j+1);have e:8-j=(8-(j+1))+1:=by omega
 unfold lE;rw[e,List.replicate_succ,List.set_append_right _ _ (by simp),bO,List.length_range,Nat.sub_self,rV,ob,fj,iY];congr 1
 ·apply List.map_congr_left;intro i hi;have:=dh.1 hi;simp only;rw[af (by omega)]
 ·simp
theorem YT {j b m:Nat}:xu B m j++[(b,m,[])]=xu (λi=>if i=j then b else B i) m (j+1):=by
 unfold xu;rw[ob,fj];congr 1
 ·apply List.map_congr_left;intro i hi;have:=dh.1 hi;simp only;rw[af (by omega)]
 ·simp
theorem aav (n:Int) (w:World):Calls Tryz.prog 108 #[.int .i64 n] w λe w'=>
  (¬xB n/\e=.returned (.tuple #[.pointer ag,.int .i64 2])/\au no w w')∨
  (xB n/\∃b F,e=.returned (.tuple #[.pointer (aa ⟨b,0,ag⟩),.int .i64 0])/\fz b w' F (n.toNat,[])/\au no w w'/\∀i,F i->w.heap.size<=i):=by
 refine aeQ ?_;refine⟨λw1 d=>⟨λI f=>?_⟩⟩;have c:bY w w1 (bF w.heap.size (ay .i64)) (λ_=>ag,0):=bY.new (au.refl _ _) (d.ak no) (bF.new d) (λi hi=>bG hi.symm);by_cases a:xB n
 ·obtain⟨m,rfl⟩:∃m:Nat,n=m:=⟨n.toNat,by unfold xB at a;omega⟩;replace c:bY w I (aF (bF w.heap.size (ay .i64)) (Rw w1.heap.size 265 (qb w.heap.size))) ((λ_=>ag,0),(lE (λ_=>0) 0,m)):=c.add (f.ak no) (Rw.new f rfl) (λi hi=>bG hi.symm);obtain⟨r,L⟩:∃r,w.heap.size=r:=⟨_,rfl⟩;rw[L]at c;generalize w1.heap.size=q at c⊢;replace c:bY w I (mc q r) (((λ_=>ag,0),(lE (λ_=>0) 0,m)),xu (λ_=>0) m 0):=c.add (au.refl _ _) (Fam.nil _) (λi hi=>hi.elim);clear d f;refine⟨bJ bA (M:=yy) (σ:=Nat) (λj=>Cl (m:Int) (aa ⟨q,0,ag⟩) (j:Int)) (λj w'=>j<=8/\∃B,bY w w' (mc q r) (((λ_=>ag,0),(lE B j,m)),xu B m j)) (λj _=>8-j) 0 ⟨rfl,rfl,rfl,trivial⟩ ⟨by omega,_,c⟩ ?_⟩;clear c;rintro j p ⟨V,B,c⟩;rw[RW];refine⟨λg=>?_,λg=>?_⟩
  ·have N:j<8:=by simp at g;omega
   refine⟨(Dx m p).mono ?_⟩;rintro e O t;obtain⟨_,bq,G,rfl,P,u,Q⟩:=t.resolve_left (λh=>absurd a h.1);refine⟨_,_,rfl,λg=>by simp at g,λ_=>⟨_,rfl,⟨by omega,by omega⟩,?_⟩⟩;obtain⟨F2,hA,R⟩:=c.right;have J:=R _ _ (Fam.push (s:=((bq,m,[]):rN)) hA u P Q);rw[YT]at J;obtain⟨F3,y,z⟩:=J.left;obtain⟨F4,l,A⟩:=aF.right y;have C:((⟨q,0,ag⟩:Addr).add 0).add (j*1)=(⟨q,0,ag⟩:Addr).add j:=by simp[add_lit]
   simp only[bK];rw[C];refine l.ax.wr (by simp[qb,lE]<;>omega) λW K=>?_;refine⟨j+1,⟨rfl,rfl,by rw[aN (by omega)];rfl,trivial⟩,⟨by omega,λi=>if i=j then bq else B i,?_⟩,by omega⟩;refine z _ _ (A _ _ (Rw.fN l K.U ?_));rw[<-TS N];exact K.ax
  ·have:j=8:=by simp at g;omega
   subst this;obtain⟨F,o,D,E⟩:=c;refine .inr ⟨a,q,F,rfl,⟨r,B,(λ_=>ag,0),?_,⟨?_,rfl,iK,λ_ h=>by simp at h,cZ _,by unfold xB at a;simp;omega⟩⟩,D,E⟩
   ·have S:lE B 8=qP B:=by simp[lE,qP]
    have T:xu B m 8=jD B m []:=rfl;rw[S,T]at o;exact o
   ·intro k v;simp
 ·have u:=(d.ak no).and (f.ak no);refine⟨bJ bA (M:=yy) (σ:=Unit) (λ_=>Cl n (aa ⟨w1.heap.size,0,ag⟩) 0) (λ_ w'=>au no w w') (λ_ _=>0) () ⟨rfl,rfl,rfl,trivial⟩ u ?_⟩;rintro _ p H;rw[RW];refine⟨λg=>?_,λg=>by simp at g⟩;refine⟨(Dx n p).mono ?_⟩;rintro e O t;obtain⟨_,rfl,rfl⟩:=t.resolve_right (λh=>absurd h.1 a);exact⟨_,_,rfl,λ_=>.inl ⟨a,rfl,H⟩,λg=>by simp at g⟩
end
structure fT (x:Nat×bE):Prop where
 one:(x.2.map (·.2)).Nodup
 gM:∀e∈x.2,0<=e.1/\e.1<8
 room:x.2.length<=x.1
 jE:1<=x.1/\x.1<=1024
theorem fz.V {q:Nat} {w:World} {F:Fp} {x:Nat×bE} (h:fz q w F x):fT x:=by
 obtain⟨_,_,_,_,k⟩:=h;exact⟨k.one,k.gM,k.room,k.jE⟩
theorem fT.new {n:Nat} (h:1<=n/\n<=1024):fT (n,[]) where
 one:=iK
 gM:=λ_ h=>(by cases h)
 room:=cZ _
 jE:=h
theorem fT.len {x:Nat×bE} (h:fT x):x.2.length<=1024:=aX h.room h.jE.2
def lO (L:bE) (j:Nat):List Int:=(b8 j).flatMap λi=>cH L (7-i)
theorem Yy (L:bE) (j:Nat):lO L (j+1)=lO L j++cH L (7-j):=by
 unfold lO;rw[ob,List.flatMap_append];simp
theorem YQ (L:bE) (p:Nat):(cH L p).length<=L.length:=by
 unfold cH;rw[bO];exact jW _ _
theorem Yx (L:bE) (j:Nat):(lO L j).length<=j*L.length:=by
 induction j with
 | zero=>simp[lO]
 | succ j a=>
  rw[Yy,cz,lz,Nat.one_mul];have:=YQ L (7-j);omega
theorem YJ (L:bE):(oJ L).length<=8*L.length:=Yx L 8
section
variable {x y:Nat×bE} {T i:Nat}
end
theorem Od {x:Nat×bE} {p k:Int} (h:gL x p k=0) (j:Int):cO (kZ x p k) j=(cO x j||decide (j=k)):=by
 rw[kZ,ar h,gB,iv,ik,iv,decide_eq_true_iff];simp only[dS,fV,Prod.mk.injEq];constructor
 ·rintro⟨q,h|⟨_,h⟩⟩
  ·exact .inl ⟨q,h⟩
  ·exact .inr h
 ·rintro(⟨q,h⟩|h)
  ·exact⟨q,.inl h⟩
  ·exact⟨p,.inr ⟨rfl,h⟩⟩
theorem aaI {x:Nat×bE} {p k:Int} (h:gL x p k=0):cO x k=ae:=by
 unfold gL at h;by_cases h1:p<0∨8<=p
 ·rw[ar h1]at h;cases h
 ·rw[af h1]at h
  cases hk:cO x k with
  | false=>rfl
  | true=>rw[hk,ar rfl]at h;cases h
theorem Oc (x:Nat×bE) (k j:Int):cO (fm x k) j=(cO x j&&decide (j≠k)):=by
 rw[gB,iv,br,iv,decide_eq_true_iff];simp[fm]
theorem CY (x:Nat×bE) (k j:Int):cO (jH x k) j=cO x j:=by
 unfold jH
 cases hk:cO x k with
 | false=>rfl
 | true=>
  rw[ar rfl,gB,iv,iv];simp only[dS,fV,Prod.mk.injEq,fm,gC,decide_eq_true_iff];constructor
  ·rintro⟨q,⟨h,_⟩|⟨_,h⟩⟩
   ·exact⟨q,h⟩
   ·rw[h];exact iv.1 hk
  ·rintro⟨q,h⟩;by_cases a:j=k
   ·exact⟨_,.inr ⟨rfl,a⟩⟩
   ·exact⟨q,.inl ⟨h,a⟩⟩
theorem HA (x:Nat×bE) (j:Int):cO (nL x) j=cO x j:=by
 unfold nL;split
 ·exact CY _ _ _
 ·rfl
theorem Qm (x:Nat×bE) (p k:Int):(kZ x p k).1=x.1:=by unfold kZ;split<;>rfl
theorem Ql (x:Nat×bE) (k:Int):(jH x k).1=x.1:=by unfold jH;split<;>rfl
theorem Zb (x:Nat×bE):(nL x).1=x.1:=by unfold nL;split;exact Ql _ _;rfl
theorem Xz {x:Nat×bE} {k:Int} (d:fT x):k∈oJ x.2↔cO x k=ah:=by
 rw[iv];unfold oJ;constructor
 ·intro h;obtain⟨i,_,hi⟩:=List.mem_flatMap.1 h;exact⟨_,sD.1 hi⟩
 ·rintro⟨p,b⟩;have c:=d.gM _ b;simp only at c;have a:∀i:Fin 8,i∈L8.reverse:=by decide
  refine List.mem_flatMap.2 ⟨⟨p.toNat,by omega⟩,a _,sD.2 ?_⟩;simp only;rw[Int.toNat_of_nonneg c.1];exact b
theorem VQ {x:Nat×bE} (c:fT x) {k:Int} (h:cO x k=ah):(fm x k).2.length+1=x.2.length:=by
 obtain⟨p,b⟩:=iv.1 h
 have d:(x.2.filter λe=>decide (e.2≠k)).map (·.2)=(x.2.map (·.2)).erase k:=by
  rw[erase_eq c.one,uz];rfl
 have f:=congrArg iX d;have a:k∈x.2.map (·.2):=cv.2 ⟨_,b,rfl⟩;rw[bO,List.length_erase_of_mem a,bO]at f;have:=yL b;simp only[fm];omega
theorem VZ:dZ Tryz.prog 153 152 1 8 [.pointer ag]:=⟨by kernel_rfl,by kernel_rfl,rfl,by omega⟩
abbrev RS:=List (Nat×bE)
def xN (r:Nat) (p:Option Addr) (n c:Nat):List Value:=[.slice p n c,.map (aa r)]
abbrev mf (b r:Nat):Ob (((Int->Option Int)×Nat)×RS):=aF (bF r (ay .i64)) (Tq fz b 155 152 (xN r))
def bV (x:RS) (i:Nat) (k:Int):Bool:=cO (x.getD i (0,[])) k
structure iV (x:RS) (g:Int->Option Int):Prop where
 map:∀k v,g k=aa v↔∃i:Nat,v=i/\bV x i k=ah
 jE:∀q∈x,q.1=32
 r8:1<=x.length/\x.length<=64
def eU (b:Nat):Ob RS:=λw F x=>∃r g,mf b r w F (g,x)/\iV x g.1
instance Frame.rq (b:Nat):Frame (eU b) where
 ak:=λ⟨r,g,h,k⟩ a c=>⟨r,g,Frame.star.ak h a c,k⟩
 lt:=λ⟨r,g,h,_⟩=>Frame.star.lt h
def iu (x:RS) (c:Int):Prop:=0<=c/\c<x.length
instance (x:RS) (c:Int):Decidable (iu x c):=by unfold iu;infer_instance
theorem nH {x:RS} {c:Int} (h:iu x c):∃i:Nat,i<x.length/\c=(i:Int):=⟨c.toNat,by unfold iu at h;omega,by unfold iu at h;omega⟩
def rm (x:RS) (c:Int):Nat×bE:=x.getD c.toNat (0,[])
theorem iR {x:RS} {i:Nat} (hi:i<x.length):rm x (i:Int)=x[i]:=by simp[rm,hi]
def jk (x:RS) (k:Int):Int×Bool:=match(b8 x.length).find? (λi=>bV x i k)with
 | none=>(0,ae)
 | some i=>((i:Int),ah)
theorem vg {x:RS} {i:Nat} {k:Int} (h:bV x i k=ah):i<x.length:=by
 rcases Nat.lt_or_ge i x.length with hi|hi
 ·exact hi
 ·rw[bV,aQ,fB hi]at h;cases h
theorem kU {x:RS} {i:Nat} (hi:i<x.length) (k:Int):bV x i k=cO x[i] k:=by simp[bV,hi]
theorem tJ {x:RS} {c:Nat} (a:c<x.length) (q:Nat×bE) (i:Nat) (k:Int):bV (x.set c q) i k=if i=c then cO q k else bV x i k:=by
 unfold bV;by_cases hi:i=c
 ·subst hi;simp[a]
 ·rw[af hi];simp[cB,Ne.symm hi]
theorem rE (x:RS) (k:Int):(jk x k=(0,ae)/\∀i,bV x i k=ae)∨∃i:Nat,i<x.length/\jk x k=((i:Int),ah)/\bV x i k=ah:=by
 unfold jk
 cases h:(b8 x.length).find? (λi=>bV x i k)with
 | none=>
  refine .inl ⟨rfl,λi=>?_⟩
  cases hm:bV x i k with
  | false=>rfl
  | true=>
   have:=mr.1 h i (dh.2 (vg hm))
   simp[hm]at this
 | some i=>
  have a:=List.find?_some h;exact .inr ⟨i,vg a,rfl,a⟩
section
variable {x:RS} {g:(Int->Option Int)×Nat}
theorem iV.one (h:iV x g.1) {k:Int} {i j:Nat} (c:bV x i k=ah) (d:bV x j k=ah):i=j:=by
 have e:=(h.map k i).2 ⟨i,rfl,c⟩;have a:=(h.map k j).2 ⟨j,rfl,d⟩;rw[e]at a;have:=Option.some.inj a;omega
theorem iV.wh (h:iV x g.1) (k:Int):(g.1 k).getD 0=(jk x k).1/\(g.1 k).isSome=(jk x k).2:=by
 rcases rE x k with⟨a,c⟩|⟨i,hi,a,c⟩
 ·have:g.1 k=ag:=by
   cases e:g.1 k with
   | none=>rfl
   | some v=>obtain⟨i,_,d⟩:=(h.map k v).1 e;rw[c]at d;cases d
  rw[a,this];exact⟨rfl,rfl⟩
 ·rw[a,(h.map k i).2 ⟨i,rfl,c⟩];exact⟨rfl,rfl⟩
theorem H0 {x:RS} (h:∀q∈x,q.1=32) {c:Nat} {q:Nat×bE} (f:q.1=32):∀a∈x.set c q,a.1=32:=by
 intro a d;rcases il d with e|e
 ·exact h a e
 ·rw[e];exact f
theorem iV.same (h:iV x g.1) {c:Nat} (a:c<x.length) {q:Nat×bE} (d:∀k,cO q k=cO x[c] k) (e:q.1=x[c].1):iV (x.set c q) g.1:=by
 refine⟨λk v=>?_,H0 h.jE (by rw[e];exact h.jE _ (cx a)),by simpa using h.r8⟩;rw[h.map]
 have:∀i,bV (x.set c q) i k=bV x i k:=λi=>by
  rw[tJ a];by_cases hi:i=c
  ·subst hi;rw[ar rfl,d,kU a]
  ·rw[af hi]
 simp only[this]
theorem iV.put (h:iV x g.1) {c:Nat} (d:c<x.length) {p k:Int} (f:gL x[c] p k=0) (l:∀i,bV x i k=ae):iV (x.set c (kZ x[c] p k)) (fe g k (c:Int)).1:=by
 refine⟨λj v=>?_,H0 h.jE (by rw[Qm];exact h.jE _ (cx d)),by simpa using h.r8⟩;simp only[fe,tJ d,Od f];by_cases e:j=k
 ·subst e;rw[ar rfl];constructor
  ·rintro m;have:=Option.some.inj m;exact⟨c,this.symm,by simp⟩
  ·rintro⟨i,rfl,hi⟩;by_cases a:i=c
   ·rw[a]
   ·rw[af a,l]at hi;cases hi
 ·rw[af e,h.map]
  have:∀i,(if i=c then(cO x[c] j||decide (j=k))else bV x i j)=bV x i j:=λi=>by
   by_cases a:i=c
   ·subst a;rw[ar rfl,kU d];simp[e]
   ·rw[af a]
  simp only[this]
theorem iV.take (h:iV x g.1) {c:Nat} (d:c<x.length) {k:Int} (f:bV x c k=ah):iV (x.set c (fm x[c] k)) (gK g k).1:=by
 refine⟨λj v=>?_,H0 h.jE (h.jE x[c] (cx d)),by simpa using h.r8⟩;simp only[gK,tJ d,Oc];by_cases e:j=k
 ·subst e;rw[ar rfl];constructor
  ·intro l;cases l
  ·rintro⟨i,rfl,hi⟩;by_cases a:i=c
   ·rw[ar a]at hi;simp at hi
   ·rw[af a]at hi;exact absurd (h.one hi f) a
 ·rw[af e,h.map]
  have:∀i,(if i=c then(cO x[c] j&&decide (j≠k))else bV x i j)=bV x i j:=λi=>by
   by_cases a:i=c
   ·subst a;rw[ar rfl,kU d];simp[e]
   ·rw[af a]
  simp only[this]
end
def oO (x:RS) (c p k:Int):Int:=if iu x c then(if(jk x k).2 then 6 else gL (rm x c) p k)else 3
def kd (x:RS) (c p k:Int):RS:=if oO x c p k=0 then x.set c.toNat (kZ (rm x c) p k)else x
def D0 (x:RS) (c:Int):Int×Int:=if iu x c then mQ (rm x c)else(0,3)
def tU (x:RS) (c:Int):RS:=if iu x c then x.set c.toNat (nL (rm x c))else x
def IC (x:RS) (k:Int):Int:=if(jk x k).2 then 0 else 4
def tT (x:RS) (k:Int):RS:=if(jk x k).2 then x.set (jk x k).1.toNat (jH (rm x (jk x k).1) k)else x
def Rl (x:RS) (k:Int):Int:=if(jk x k).2 then 0 else 4
def gN (x:RS) (k:Int):RS:=if(jk x k).2 then x.set (jk x k).1.toNat (fm (rm x (jk x k).1) k)else x
def cf (x:RS) (c:Int):Int:=if iu x c then(rm x c).2.length else 0
def dd (x:RS) (c:Int):List Int:=if iu x c then oJ (rm x c).2 else[]
section
variable {b r:Nat} {w w':World} {F:Fp} {x:RS} {g:(Int->Option Int)×Nat}
theorem Am (h:mf b r w F (g,x)):∃p c,aL w b (xN r p x.length c) 155:=by
 obtain⟨F1,a,_⟩:=h.right;exact a.ax
theorem IE (h:mf b r w F (g,x)):∃F1,bF r (ay .i64) w F1 g/\∀w' a,ai (bF r (ay .i64)) w w' F1 a->ai (mf b r) w w' F (a,x):=aF.left h
theorem xO (h:mf b r w F (g,x)) {i:Nat} (hi:i<x.length):∃a c bi F1,aL w b (xN r (aa a) x.length c) 155/\w.cell? (a.add (i*1))=aa (pt bi)/\fz bi w F1 x[i]/\
  ∀w' d,ai (fz bi) w w' F1 d->ai (mf b r) w w' F (g,x.set i d):=by
 obtain⟨F1,e,f⟩:=h.right;obtain⟨a,c,bi,F2,j,k,l,m⟩:=e.at hi;exact⟨a,c,bi,F2,j,k,l,λw' d n=>f _ _ (m _ _ n)⟩
theorem abk (h:mf b r w F (g,x)) {i:Nat} (hi:i<x.length):∃a c bi F1 Fm,aL w b (xN r (aa a) x.length c) 155/\w.cell? (a.add (i*1))=aa (pt bi)/\fz bi w F1 x[i]/\bF r (ay .i64) w Fm g/\
  ∀w1 m,ai (bF r (ay .i64)) w w1 Fm m->fz bi w1 F1 x[i]/\∀w' k,ai (fz bi) w1 w' F1 k->ai (mf b r) w w' F (m,x.set i k):=by
 obtain⟨G1,G2,t,n,l,u⟩:=h;simp only at t n;obtain⟨a,c,bi,F1,e⟩:=Tq.BG n hi;obtain⟨B,C,D,_⟩:=e w no (au.refl _ _) (λ_ _ h=>h);refine⟨a,c,bi,F1,G1,B,C,D,t,?_⟩;rintro w1 m ⟨o,y,p,z⟩;obtain⟨_,_,E,G⟩:=e w1 G1 p (λj d f=>u j f d);refine⟨E,λw' k H=>?_⟩;obtain⟨H2,t1,t2,A⟩:=G w' k H;have q:=Frame.tq.lt n
 have hd:∀j,o j->¬G2 j:=λj d f=>by
  rcases z j d with h|h
  ·exact u j h f
  ·have:=q j f;omega
 have s:=(Frame.map r _).lt y;refine⟨λj=>o j∨H2 j,⟨o,H2,(Frame.map r _).ak y t2 hd,t1,λ_=>bB,λj d f=>?_⟩,(p.mono (λj _ d=>(l j).2 (.inl d))).trans t2 (λj _ d=>(l j).2 (.inr d)),λj d=>?_⟩
 ·rcases A j f with h|h
  ·exact hd j d h
  ·have:=s j d;omega
 ·rcases d with d|d
  ·exact(z j d).imp (λh=>(l j).2 (.inl h)) id
  ·rcases A j d with h|h
   ·exact .inl ((l j).2 (.inr h))
   ·exact .inr (aX p.size h)
theorem ai.rq (h:ai (mf b r) w w' F (g,x)) (k:iV x g.1):ai (eU b) w w' F x:=by
 obtain⟨a,c,d⟩:=h;exact⟨a,⟨r,g,c,k⟩,d⟩
theorem eU.V (h:eU b w F x) {i:Nat} (hi:i<x.length):fT x[i]:=by
 obtain⟨r,g,h,_⟩:=h;obtain⟨_,_,_,_,_,_,a,_⟩:=xO h hi;exact a.V
theorem D1 (h:mf b r w F (g,x)) (c:Int):Cx 73 #[pt b,I c] w λe w'=>e=Z (I (if iu x c then 0 else 3))/\w'=w:=by
 obtain⟨p,c1,hB⟩:=Am h;refine u73 ?_;refine⟨λg=>by simp at g,λ_=>⟨λg1=>⟨_,rfl,_,_,_,hB.cell rfl,λa=>?_,λa=>?_⟩,λg1=>?_⟩⟩
 ·rw[af (by unfold iu;simp at g1 a;omega)];exact⟨rfl,rfl⟩
 ·rw[ar (by unfold iu;simp at g1 a;omega)];exact⟨rfl,rfl⟩
 ·rw[af (by unfold iu;simp at g1;omega)];exact⟨rfl,rfl⟩
theorem vo (h:eU b w F x) (c:Int):Cx 14 #[pt b,I c] w λe w'=>e=Z (I (cf x c))/\w'=w:=by
 obtain⟨r,g,h,hi⟩:=h;refine u14 ?_;refine⟨(D1 h c).mono ?_⟩;rintro e w1 ⟨rfl,rfl⟩;unfold cf;by_cases d:iu x c
 ·rw[ar d,ar d];obtain⟨i,j,rfl⟩:=nH d;obtain⟨a,c,bi,F1,hB,f,k,_⟩:=xO h j;rw[iR j];refine⟨_,rfl,λg=>by simp at g,λ_=>⟨_,rfl,_,_,_,hB.cell rfl,⟨by omega,by omega⟩,a,rfl,_,f,⟨(aau k).mono ?_⟩⟩⟩;rintro e l ⟨rfl,rfl⟩;exact⟨_,rfl,rfl,rfl⟩
 ·rw[af d,af d];exact⟨_,rfl,λ_=>⟨rfl,rfl⟩,λg=>by simp at g⟩
theorem ID (h:eU b w F x) (c:Int):Cx 88 #[pt b,I c] w λe w'=>∃p d,e=Z (.slice p (dd x c).length d)/\Loc w w' 3 p d (dd x c):=by
 obtain⟨r,g,h,hi⟩:=h;refine u88 ?_;refine⟨(D1 h c).mono ?_⟩;rintro e w1 ⟨rfl,rfl⟩;unfold dd;by_cases f:iu x c
 ·rw[ar f,ar f];obtain⟨i,k,rfl⟩:=nH f;obtain⟨a,c,bi,F1,hB,j,l,_⟩:=xO h k;rw[iR k];refine⟨_,rfl,λg=>by simp at g,λ_=>⟨_,rfl,_,_,_,hB.cell rfl,⟨by omega,by omega⟩,a,rfl,_,j,⟨(YL l).mono ?_⟩⟩⟩;rintro e n ⟨p,d,rfl,m⟩;exact⟨_,_,_,rfl,p,d,rfl,m⟩
 ·rw[af f,af f];exact⟨_,rfl,λ_=>⟨ag,0,rfl,Loc.nil (au.refl _ _) _⟩,λg=>by simp at g⟩
theorem Ro (h:eU b w F x) (c p k:Int):Cx 235 #[pt b,I c,I p,I k] w λe w'=>e=Z (I (oO x c p k))/\ai (eU b) w w' F (kd x c p k):=by
 obtain⟨r,g,m,hi⟩:=id h;refine agM ?_;refine⟨(D1 m c).mono ?_⟩;rintro e w1 ⟨rfl,rfl⟩;unfold kd oO;by_cases n:iu x c
 ·simp only[ar n];obtain⟨i,o,rfl⟩:=nH n;obtain⟨a,c,bi,F1,hB,q,z,kq⟩:=xO m o;obtain⟨F2,A,_⟩:=IE m;rw[iR o];have l:=jL pW A k ah;have B:((g.1 k).map (ay .i64)).getD (I 0)=I (jk x k).1:=by rw[<-(hi.wh k).1];cases g.1 k<;>rfl
  simp only[if_true,B,(hi.wh k).2]at l;refine⟨_,rfl,λg=>by simp at g,λ_=>⟨_,rfl,_,hB.cell rfl,_,_,l,λg1=>?_,λg1=>⟨_,rfl,_,_,_,hB.cell rfl,⟨by omega,by omega⟩,a,rfl,_,q,⟨(Q1 z p k).mono ?_⟩⟩⟩⟩
  ·rw[g1];exact⟨rfl,ai.same h⟩
  ·rintro e N ⟨rfl,C⟩;rw[g1];have f:=kq _ _ C
   have s:∀j,bV x j k=ae:=by
    rcases rE x k with⟨_,D⟩|⟨j,_,E,_⟩
    ·exact D
    ·rw[E]at g1;cases g1
   refine⟨_,rfl,λd=>?_,λd=>?_⟩
   ·have d:=eq_of_beq d;obtain⟨F3,y,G,H⟩:=f;obtain⟨O,c3,t⟩:=Am y;obtain⟨F4,u,J⟩:=IE y;obtain⟨K,L,M⟩:=qk pW u k (i:Int);refine⟨_,rfl,_,t.cell rfl,K,L,?_,?_⟩
    ·simp[d]
    ·have T:=ai.rq (ai.glue (au.refl _ _) G H (J _ _ M)) (hi.put o d s);rw[bK];simp only[gz,if_false,d,if_true];exact T
   ·have d:¬gL x[i] p k=0:=ne_of_beq_false d;simp only[gz,if_false,af d];rw[kZ,af d,nc]at f;exact⟨by trivial,ai.rq f hi⟩
 ·simp only[af n];exact⟨_,rfl,λ_=>⟨rfl,ai.same h⟩,λg=>by simp at g⟩
theorem abj (h:eU b w F x) (c:Int):Cx 224 #[pt b,I c] w λe w'=>e=Z (.tuple #[I (D0 x c).1,I (D0 x c).2])/\ai (eU b) w w' F (tU x c):=by
 obtain⟨r,g,k,hi⟩:=id h;refine agB ?_;refine⟨(D1 k c).mono ?_⟩;rintro e w1 ⟨rfl,rfl⟩;unfold tU D0;by_cases l:iu x c
 ·simp only[ar l];obtain⟨i,j,rfl⟩:=nH l;obtain⟨a,c,bi,F1,hB,m,u,kq⟩:=xO k j;rw[iR j];refine⟨_,rfl,λg=>by simp at g,λ_=>⟨_,rfl,_,_,_,hB.cell rfl,⟨by omega,by omega⟩,a,rfl,_,m,⟨(aex u).mono ?_⟩⟩⟩;rintro e D ⟨rfl,n⟩;refine⟨_,_,rfl,λg1=>?_,λg1=>?_⟩
  ·have g1:(mQ x[i]).2≠0:=by simpa using g1
   have y:(mQ x[i])=(0,(mQ x[i]).2):=by
    unfold mQ at g1⊢
    cases o:oJ x[i].2 with
    | nil=>rfl
    | cons v t=>rw[o]at g1;simp at g1
   have z:nL x[i]=x[i]:=by rw[nL,tP,af g1]
   rw[z,bK,nc];refine⟨?_,ai.quiet h n⟩;rw[y]
  ·have g1:(mQ x[i]).2=0:=by simpa using g1
   have d:=Frame.star.ak k n (λ_ _ h=>h);obtain⟨A,c2,B,F2,p,f,q,s⟩:=xO d j;refine⟨_,rfl,_,_,_,p.cell rfl,⟨by omega,by omega⟩,A,rfl,_,f,⟨(aaH q).mono ?_⟩⟩;rintro e E ⟨rfl,C⟩;rw[bK];refine⟨_,rfl,by rw[tP],ai.rq (g:=g) (r:=r) (ai.next d n.nn (λ_ h=>.inl h) (s _ _ C)) (hi.same j (HA _) (Zb _))⟩
 ·simp only[af l];exact⟨_,rfl,λ_=>⟨rfl,ai.same h⟩,λg=>by simp at g⟩
theorem Rn (h:mf b r w F (g,x)) (hi:iV x g.1) (k:Int):Cx 242 #[pt b,I k] w λe w'=>w'=w/\((e=Z (.tuple #[.pointer ag,I 4])/\jk x k=(0,ae))∨
  ∃i,∃l:i<x.length,jk x k=((i:Int),ah)/\bV x i k=ah/\∃a c bi F1 Fm,e=Z (.tuple #[pt bi,I 0])/\aL w b (xN r (aa a) x.length c) 155/\fz bi w F1 x[i]/\bF r (ay .i64) w Fm g/\
   ∀w1 o,ai (bF r (ay .i64)) w w1 Fm o->fz bi w1 F1 x[i]/\∀w' q,ai (fz bi) w1 w' F1 q->ai (mf b r) w w' F (o,x.set i q)):=by
 refine agT ?_;obtain⟨p,c1,hB⟩:=Am h;obtain⟨F2,m,_⟩:=IE h;have f:=jL pW m k ah;have s:((g.1 k).map (ay .i64)).getD (I 0)=I (jk x k).1:=by rw[<-(hi.wh k).1];cases g.1 k<;>rfl
 simp only[if_true,s,(hi.wh k).2]at f;refine⟨λg=>by simp at g,λ_=>⟨_,rfl,_,hB.cell rfl,_,_,f,λg1=>?_,λg1=>?_⟩⟩
 ·refine⟨rfl,.inl ⟨rfl,?_⟩⟩;rcases rE x k with⟨d,_⟩|⟨j,_,d,_⟩
  ·exact d
  ·rw[d]at g1;cases g1
 ·rcases rE x k with⟨d,_⟩|⟨i,l,d,t⟩
  ·rw[d]at g1;cases g1
  ·obtain⟨a,c,bi,F1,Fm,hB,n,u,m,kq⟩:=abk h l;rw[d];exact⟨_,rfl,_,_,_,hB.cell rfl,⟨by simp only;omega,by simp only;omega⟩,a,rfl,_,n,rfl,.inr ⟨i,l,rfl,t,a,c,bi,F1,Fm,rfl,hB,u,m,kq⟩⟩
theorem abe (h:eU b w F x) (k:Int):Cx 132 #[pt b,I k] w λe w'=>e=Z (I (IC x k))/\ai (eU b) w w' F (tT x k):=by
 obtain⟨r,g,l,hi⟩:=id h;refine afe ?_;refine⟨(Rn l hi k).mono ?_⟩;unfold IC tT;rintro e w1 ⟨rfl,⟨rfl,d⟩|⟨i,f,d,m,a,c,bi,F1,Fm,rfl,hB,n,o,kq⟩⟩
 ·rw[d];exact⟨_,_,rfl,λ_=>⟨rfl,ai.same h⟩,λg=>by simp at g⟩
 ·rw[d];refine⟨_,_,rfl,λg=>by simp at g,λ_=>⟨(aaf n k).mono ?_⟩⟩;rintro e q ⟨rfl,p⟩;have j:cO x[i] k=ah:=by rw[<-kU f];exact m
  simp only[if_true,bK,iR f];exact⟨_,rfl,by rw[xF,rk,j];rfl,ai.rq ((kq _ _ (ai.same o)).2 _ _ p) (hi.same f (CY _ _) (Ql _ _))⟩
theorem Al (h:eU b w F x) (k:Int):Cx 237 #[pt b,I k] w λe w'=>e=Z (I (Rl x k))/\ai (eU b) w w' F (gN x k):=by
 obtain⟨r,g,p,hi⟩:=id h;refine agO ?_;refine⟨(Rn p hi k).mono ?_⟩;unfold Rl gN;rintro e w1 ⟨rfl,⟨rfl,f⟩|⟨i,j,f,n,a,c,bi,F1,Fm,rfl,hB,y,q,kq⟩⟩
 ·rw[f];exact⟨_,_,rfl,λ_=>⟨rfl,ai.same h⟩,λg=>by simp at g⟩
 ·rw[f];have d:cO x[i] k=ah:=by rw[<-kU j];exact n
  obtain⟨s,t,u⟩:=sL pW q k 3 0;obtain⟨l,m⟩:=kq _ _ u;refine⟨_,_,rfl,λg=>by simp at g,λ_=>⟨_,rfl,_,hB.cell rfl,s,t,⟨(QW l k).mono ?_⟩⟩⟩;rintro e z ⟨rfl,o⟩;rw[d,ar rfl]at o;simp only[if_true,bK,iR j];exact⟨_,rfl,by rw[rk,d];rfl,ai.rq (m _ _ o) (hi.take j n)⟩
end
def H8 (n:Int):Prop:=1<=n/\n<=64
theorem iV.new {n:Nat} (h:1<=n/\n<=64):iV (aD n (32,[])) (λ_=>ag):=by
 refine⟨λk v=>?_,λq a=>?_,by simpa using h⟩
 ·constructor
  ·intro h;cases h
  ·rintro⟨i,_,hi⟩;have c:=vg hi;rw[kU c]at hi;simp at hi;cases hi
 ·have:=jX a;rw[this]
theorem abi (n:Int) (w:World):Cx 36 #[I n] w λe w'=>
  (¬H8 n/\e=Z (.tuple #[.pointer ag,I 2])/\w'=w)∨
  (H8 n/\∃b F,e=Z (.tuple #[pt b,I 0])/\eU b w' F (aD n.toNat (32,[]))/\au no w w'/\∀i,F i->w.heap.size<=i):=by
 refine u36 ?_;unfold H8;refine⟨λo=>⟨λq=>.inl ⟨?_,rfl,rfl⟩,λq=>⟨λw1 f=>⟨λB a=>?_⟩⟩⟩,λo=>.inl ⟨?_,rfl,rfl⟩⟩
 ·simp at q;omega
 ·have o:¬n<1:=by simpa using o
  have q:¬64<n:=by simpa using q
  obtain⟨m,rfl⟩:∃m:Nat,n=m:=⟨n.toNat,by omega⟩;have d:bY w w1 (bF w.heap.size (ay .i64)) (λ_=>ag,0):=bY.new (au.refl _ _) (f.ak no) (bF.new f) (λi hi=>bG hi.symm);obtain⟨r,t⟩:∃r,w.heap.size=r:=⟨_,rfl⟩;rw[t]at d a;replace d:bY w B (mf w1.heap.size r) ((λ_=>ag,0),[]):=d.add (a.ak no) (Tq.nil a rfl) (λi hi=>bG hi.symm);generalize w1.heap.size=b at d⊢;clear f a;refine⟨bJ bA (M:=Bg) (σ:=Nat) (λj=>GL (aa ⟨b,0,ag⟩) (m:Int) (j:Int)) (λj w'=>j<=m/\bY w w' (mf b r) ((λ_=>ag,0),aD j (32,[]))) (λj _=>m-j) 0 ⟨rfl,rfl,rfl,trivial⟩ ⟨by omega,d⟩ ?_⟩;clear d;rintro j C ⟨Q,d⟩;rw[adt];refine⟨λg=>?_,λg=>?_⟩
  ·have R:j<m:=by simp at g;omega
   obtain⟨F2,hA,D⟩:=d.right;refine⟨(aav 32 C).mono ?_⟩;rintro e S E;obtain⟨_,bq,G,rfl,H,J,K⟩:=E.resolve_left (λh=>absurd (by unfold xB;decide) h.1);obtain⟨p,c,hB,l⟩:=Tq.push VZ (k:=0) (λp n c p' T c'=>rfl) (λ_ _ _=>by simp[xN]) hA (by simp;omega) (s:=(32,[])) J H K;refine⟨_,_,rfl,λg=>by simp at g,λ_=>⟨_,rfl,_,_,_,hB.cell rfl,⟨λL N=>?_⟩⟩⟩;obtain⟨p',c',O,t,P⟩:=l L N 153;refine⟨p',_,c',O,t,_,rfl,P _ λU u=>?_⟩;refine⟨j+1,⟨rfl,rfl,by rw[aN (by omega)];rfl,trivial⟩,⟨by omega,?_⟩,by omega⟩;have:=D _ _ u;rw[rX];exact this
  ·have:j=m:=by simp at g;omega
   subst this;obtain⟨F,y,z,A⟩:=d;exact .inr ⟨by omega,b,F,rfl,⟨r,_,y,iV.new (by omega)⟩,z,A⟩
 ·simp at o;omega
theorem aaM (x:RS) (c p k:Int):(kd x c p k).length=x.length:=by unfold kd;split<;>simp
def qn (ld:Int->Int) (gt:Int->Int->Bool) (o:Option Int) (c:Int):Option Int:=match o with
 | none=>aa c
 | some a=>if gt (ld c) (ld a)then aa c else aa a
def lC (ld:Int->Int) (gt:Int->Int->Bool) (l:List Int):Option Int:=l.foldl (qn ld gt) ag
theorem Kf (ld:Int->Int) (gt:Int->Int->Bool) (l:List Int) (c:Int):lC ld gt (l++[c])=qn ld gt (lC ld gt l) c:=by
 unfold lC;rw[lx];rfl
theorem yT (ld:Int->Int) (gt:Int->Int->Bool) (l:List Int):(lC ld gt l=ag/\l=[])∨∃a∈l,lC ld gt l=aa a:=by
 have h:∀(l:List Int) (o:Option Int),(l.foldl (qn ld gt) o=ag/\l=[])∨∃a,(a∈l∨o=aa a)/\l.foldl (qn ld gt) o=aa a:=by
  intro l
  induction l with
  | nil=>intro o;cases o with
   | none=>exact .inl ⟨rfl,rfl⟩
   | some a=>exact .inr ⟨a,.inr rfl,rfl⟩
  | cons c l d=>
   intro o;right;rw[nY];rcases d (qn ld gt o c)with⟨b,k2⟩|⟨a,b,k2⟩
   ·subst k2;exfalso;simp only[List.foldl_nil]at b;unfold qn at b;split at b
    ·cases b
    ·split at b<;>cases b
   ·refine⟨a,?_,k2⟩;rcases b with b|b
    ·exact .inl (qC _ b)
    ·unfold qn at b;split at b
     ·exact .inl (by have:=Option.some.inj b;rw[this];exact ij)
     ·split at b
      ·exact .inl (by have:=Option.some.inj b;rw[this];exact ij)
      ·exact .inr b
 rcases h l ag with⟨b,k2⟩|⟨a,b,k2⟩
 ·exact .inl ⟨b,k2⟩
 ·exact .inr ⟨a,b.resolve_right (by simp),k2⟩
def lD (ld:Int->Int) (gt:Int->Int->Bool) (l:List Int):Int×Int:=match lC ld gt l with
 | none=>(0,12)
 | some a=>(a,0)
def mD (a b:Int):Bool:=decide (a>b)
def mG (a b:Int):Bool:=decide (a<b)
theorem ML (m:BV) {n:Nat} (c:n<=64):cs (m&&& bp n)=bW (hs m) n:=by
 have h:∀k,k<=64->bW (hs (m&&& bp n)) k=bW (hs m) (min k n):=by
  intro k
  induction k with
  | zero=>intro _;rw[Nat.zero_min];rfl
  | succ k d=>
   intro g;rw[vw,d (by omega),u5,tE];by_cases e:k<n
   ·rw[nj (by omega),nj (by omega),vw];have f:decide (0<=(k:Int)/\(k:Int)<64)=ah:=by simp;omega
    have a:decide ((k:Int)<(n:Int))=ah:=by simp;omega
    rw[f,a,Bool.and_self,mu]
   ·rw[Nat.min_eq_right (by omega),Nat.min_eq_right (by omega)];have a:decide ((k:Int)<(n:Int))=ae:=by simp;omega
    rw[a,Bool.and_false,Bool.and_false];rfl
 have:=h 64 (b7 _);rw[Nat.min_eq_right c]at this;exact this
section
variable {b:Nat} {w:World} {F:Fp} {x:RS}
theorem Za (u v:Int) (w:World):Cx 336 #[I u,I v] w λe w'=>e=Z (.bool (mD u v))/\w'=w:=by
 refine aii ?_;exact⟨rfl,rfl⟩
theorem YG (u v:Int) (w:World):Cx 337 #[I u,I v] w λe w'=>e=Z (.bool (mG u v))/\w'=w:=by
 refine aij ?_;exact⟨rfl,rfl⟩
theorem abf (h:eU b w F x) (f:Tab w) (m:BV):Cx 335 #[pt b,.int .u64 (mi m),.func (.func 336) #[] #[]] w λe w'=>e=Z (.tuple #[I (lD (cf x) mD (bW (hs m) x.length)).1,I (lD (cf x) mD (bW (hs m) x.length)).2])/\au no w w':=by
 obtain⟨r,g,G,hi⟩:=id h;obtain⟨p,c,hB⟩:=Am G;refine Jk ?_;refine⟨λg=>by simp at g,λ_=>⟨_,rfl,_,_,_,hB.cell rfl,⟨(tI _ w).mono ?_⟩⟩⟩;rintro e w1 ⟨rfl,rfl⟩;refine⟨_,rfl,⟨(Dp m _ w1).mono ?_⟩⟩;rintro e w1 ⟨rfl,rfl⟩;refine⟨_,rfl,⟨(P9 _ f).mono ?_⟩⟩;rw[ML m hi.r8.2];have q:(bW (hs m) x.length).length<=x.length:=ud _ _;have H:=hi.r8;generalize bW (hs m) x.length=l at q⊢;rintro e z ⟨p2,c2,rfl,o⟩;have A:eU b z F x:=(Frame.rq b).ak h o.U (λ_ _ h=>h);have B:=o.S.cells;have C:=o.U;clear o
 cases l with
 | nil=>exact⟨_,_,_,rfl,λ_=>⟨rfl,C⟩,λg=>by simp at g⟩
 | cons v t=>
  refine⟨_,_,_,rfl,λg=>by simp at g;omega,λ_=>⟨⟨by omega,by simp⟩,?_⟩⟩;obtain⟨a,s,u⟩:=B.ck (i:=0) (by simp);refine⟨a,s,_,u,?_⟩;have J:(v::t).length=t.length+1:=rfl;refine⟨bJ bA (M:=rJ) (σ:=Nat) (λj=>zq (aa ⟨b,0,ag⟩) ((lC (cf x) mD ((v::t).take j)).getD v) p2 (v::t).length c2 ((v::t).length:Int) (j:Int)) (λj w'=>j<=(v::t).length/\w'=z) (λj _=>(v::t).length-j) 0 ⟨rfl,rfl,rfl,rfl,rfl,rfl,trivial⟩ ⟨by omega,rfl⟩ ?_⟩;rintro j K ⟨L,rfl⟩;rw[I2];refine⟨λg=>?_,λg=>?_⟩
  ·have D:j<(v::t).length:=by simp at g⊢;omega
   obtain⟨a,s,u⟩:=B.ck D;refine⟨⟨by omega,by omega⟩,a,s,_,u,⟨(vo A _).mono ?_⟩⟩;rintro e E ⟨rfl,rfl⟩;refine⟨_,rfl,⟨(vo A _).mono ?_⟩⟩;rintro e E ⟨rfl,rfl⟩;refine⟨_,rfl,⟨(Za _ _ _).mono ?_⟩⟩;rintro e E ⟨rfl,rfl⟩;have k:=Kf (cf x) mD ((v::t).take j) (v::t)[j];rw[<-ey D]at k
   have d:((lC (cf x) mD ((v::t).take (j+1))).getD v)=if mD (cf x (v::t)[j]) (cf x ((lC (cf x) mD ((v::t).take j)).getD v))then(v::t)[j]else((lC (cf x) mD ((v::t).take j)).getD v):=by
    rw[k];rcases yT (cf x) mD ((v::t).take j)with⟨n,k2⟩|⟨a,_,n⟩
    ·have y:j=0:=by
      cases j with
      | zero=>rfl
      | succ j=>simp at k2
     subst y;rw[n];simp[qn]
    ·rw[n];unfold qn;simp only[gA];split<;>rfl
   refine⟨_,rfl,λg1=>⟨j+1,⟨rfl,rfl,by rw[d,ar g1];rfl,rfl,rfl,by rw[aN (by omega)];rfl,trivial⟩,⟨by omega,rfl⟩,by omega⟩,λg1=>⟨j+1,⟨rfl,rfl,by rw[d,af (by simp[g1])];rfl,rfl,rfl,by rw[aN (by omega)];rfl,trivial⟩,⟨by omega,rfl⟩,by omega⟩⟩
  ·have:j=(v::t).length:=by simp at g⊢;omega
   subst this;rw[dA];unfold lD;rcases yT (cf x) mD (v::t)with⟨_,k2⟩|⟨a,_,n⟩
   ·cases k2
   ·rw[n];exact⟨rfl,C⟩
theorem abh (h:eU b w F x) (a:Tab w) (m:BV):Cx 267 #[pt b,.int .u64 (mi m)] w λe w'=>e=Z (.tuple #[I (lD (cf x) mD (bW (hs m) x.length)).1,I (lD (cf x) mD (bW (hs m) x.length)).2])/\au no w w':=by
 refine ahi ?_;refine⟨(abf h a m).mono ?_⟩;rintro e w1 ⟨rfl,c⟩;exact⟨_,_,rfl,rfl,c⟩
theorem abg (h:eU b w F x) (f:Tab w) (m:BV):Cx 335 #[pt b,.int .u64 (mi m),.func (.func 337) #[] #[]] w λe w'=>e=Z (.tuple #[I (lD (cf x) mG (bW (hs m) x.length)).1,I (lD (cf x) mG (bW (hs m) x.length)).2])/\au no w w':=by
 obtain⟨r,g,G,hi⟩:=id h;obtain⟨p,c,hB⟩:=Am G;refine ku.Jk ?_;refine⟨λg=>by simp at g,λ_=>⟨_,rfl,_,_,_,hB.cell rfl,⟨(tI _ w).mono ?_⟩⟩⟩;rintro e w1 ⟨rfl,rfl⟩;refine⟨_,rfl,⟨(Dp m _ w1).mono ?_⟩⟩;rintro e w1 ⟨rfl,rfl⟩;refine⟨_,rfl,⟨(P9 _ f).mono ?_⟩⟩;rw[ML m hi.r8.2];have q:(bW (hs m) x.length).length<=x.length:=ud _ _;have H:=hi.r8;generalize bW (hs m) x.length=l at q⊢;rintro e z ⟨p2,c2,rfl,o⟩;have A:eU b z F x:=(Frame.rq b).ak h o.U (λ_ _ h=>h);have B:=o.S.cells;have C:=o.U;clear o
 cases l with
 | nil=>exact⟨_,_,_,rfl,λ_=>⟨rfl,C⟩,λg=>by simp at g⟩
 | cons v t=>
  refine⟨_,_,_,rfl,λg=>by simp at g;omega,λ_=>⟨⟨by omega,by simp⟩,?_⟩⟩;obtain⟨a,s,u⟩:=B.ck (i:=0) (by simp);refine⟨a,s,_,u,?_⟩;have J:(v::t).length=t.length+1:=rfl;refine⟨bJ bA (M:=ku.rJ) (σ:=Nat) (λj=>ku.zq (aa ⟨b,0,ag⟩) ((lC (cf x) mG ((v::t).take j)).getD v) p2 (v::t).length c2 ((v::t).length:Int) (j:Int)) (λj w'=>j<=(v::t).length/\w'=z) (λj _=>(v::t).length-j) 0 ⟨rfl,rfl,rfl,rfl,rfl,rfl,trivial⟩ ⟨by omega,rfl⟩ ?_⟩;rintro j K ⟨L,rfl⟩;rw[ku.I2];refine⟨λg=>?_,λg=>?_⟩
  ·have D:j<(v::t).length:=by simp at g⊢;omega
   obtain⟨a,s,u⟩:=B.ck D;refine⟨⟨by omega,by omega⟩,a,s,_,u,⟨(vo A _).mono ?_⟩⟩;rintro e E ⟨rfl,rfl⟩;refine⟨_,rfl,⟨(vo A _).mono ?_⟩⟩;rintro e E ⟨rfl,rfl⟩;refine⟨_,rfl,⟨(YG _ _ _).mono ?_⟩⟩;rintro e E ⟨rfl,rfl⟩;have k:=Kf (cf x) mG ((v::t).take j) (v::t)[j];rw[<-ey D]at k
   have d:((lC (cf x) mG ((v::t).take (j+1))).getD v)=if mG (cf x (v::t)[j]) (cf x ((lC (cf x) mG ((v::t).take j)).getD v))then(v::t)[j]else((lC (cf x) mG ((v::t).take j)).getD v):=by
    rw[k];rcases yT (cf x) mG ((v::t).take j)with⟨n,k2⟩|⟨a,_,n⟩
    ·have y:j=0:=by
      cases j with
      | zero=>rfl
      | succ j=>simp at k2
     subst y;rw[n];simp[qn]
    ·rw[n];unfold qn;simp only[gA];split<;>rfl
   refine⟨_,rfl,λg1=>⟨j+1,⟨rfl,rfl,by rw[d,ar g1];rfl,rfl,rfl,by rw[aN (by omega)];rfl,trivial⟩,⟨by omega,rfl⟩,by omega⟩,λg1=>⟨j+1,⟨rfl,rfl,by rw[d,af (by simp[g1])];rfl,rfl,rfl,by rw[aN (by omega)];rfl,trivial⟩,⟨by omega,rfl⟩,by omega⟩⟩
  ·have:j=(v::t).length:=by simp at g⊢;omega
   subst this;rw[dA];unfold lD;rcases yT (cf x) mG (v::t)with⟨_,k2⟩|⟨a,_,n⟩
   ·cases k2
   ·rw[n];exact⟨rfl,C⟩
theorem Rm (h:eU b w F x) (a:Tab w) (m:BV):Cx 268 #[pt b,.int .u64 (mi m)] w λe w'=>e=Z (.tuple #[I (lD (cf x) mG (bW (hs m) x.length)).1,I (lD (cf x) mG (bW (hs m) x.length)).2])/\au no w w':=by
 refine ahj ?_;refine⟨(abg h a m).mono ?_⟩;rintro e w1 ⟨rfl,c⟩;exact⟨_,_,rfl,rfl,c⟩
end
abbrev Iq:=Bool×Bool×Bool×BV
def qY (x:Iq):List Value:=[.bool x.1,.bool x.2.1,.bool x.2.2.1,.int .u64 (mi x.2.2.2)]
theorem xh (x:Iq):(qY x).length=4:=rfl
def i0:Iq:=(ae,ae,ae,0)
abbrev cg:=Int×List Iq
def xi (s:cg):List Value:=s.2.flatMap qY++[.int .u64 (mi (bp s.1))]
def cR (b:Nat):Ob cg:=λw F s=>Rw b 201 xi w F s/\s.2.length=16
instance Frame.ir (b:Nat):Frame (cR b) where
 ak:=λ⟨h,r⟩ k a=>⟨(Frame.rw ..).ak h k a,r⟩
 lt:=λ⟨h,_⟩=>(Frame.rw ..).lt h
def jF (n:Int):Prop:=n<0∨16<=n
instance (n:Int):Decidable (jF n):=inferInstanceAs (Decidable (_∨_))
def gq (s:cg) (n:Int):Iq:=s.2.getD n.toNat i0
def j4 (s:cg) (n:Int) (q:Iq):cg:=(s.1,s.2.set n.toNat q)
def eJ (s:cg) (n:Int):Int:=if jF n then 3 else if(gq s n).1=ah then 0 else 4
def k8 (s:cg) (n:Int) (m:BV):Int:=if jF n then 3 else if(gq s n).1=ah then 6 else if lU s.1 m=ah then 0 else 2
def lT (s:cg) (n:Int) (m:BV):cg:=if k8 s n m=0 then j4 s n (ah,ae,ae,m)else s
def qW (s:cg) (n:Int):cg:=if eJ s n=0 then j4 s n i0 else s
def nW (s:cg) (n:Int) (m:BV):Int:=if eJ s n=0 then(if lU s.1 m=ah then 0 else 2)else eJ s n
def o6 (s:cg) (n:Int) (m:BV):cg:=if nW s n m=0 then j4 s n ((gq s n).1,(gq s n).2.1,(gq s n).2.2.1,m)else s
def nE (s:cg) (n:Int) (b:Bool):Int:=if eJ s n=0 then(if(gq s n).2.1=b then 6 else 0)else eJ s n
def oH (s:cg) (n:Int) (b:Bool):cg:=if nE s n b=0 then j4 s n ((gq s n).1,b,(gq s n).2.2.1,(gq s n).2.2.2)else s
def tR (s:cg) (n:Int):cg:=if eJ s n=0 then j4 s n ((gq s n).1,(gq s n).2.1,ah,(gq s n).2.2.2)else s
def lS (s:cg) (n:Int):Bool:=decide (eJ s n=0)&&(gq s n).2.2.1&&!(gq s n).2.1
def pC (s:cg) (n:Int):Int:=if eJ s n=0 then(if lS s n=ah then 0 else 12)else eJ s n
def r7 (s:cg) (n:Int):cg:=if pC s n=0 then j4 s n ((gq s n).1,(gq s n).2.1,ae,(gq s n).2.2.2)else s
def sw (s:cg) (i:Int):Bool:=(gq s i).1
def gI (s:cg):List Int:=bW (sw s) 16
def ia (b:Nat) (k:Nat):Addr:=((⟨b,0,ag⟩:Addr).add 0).add (k*4)
section
variable {w:World} {F:Fp} {b:Nat} {s:cg}
theorem Hq (h:s.2.length=16) {k:Nat} (a:k<16):gq s (k:Int)=s.2[k]'(by omega):=by
 unfold gq;simp[aQ,h,a]
theorem tH (h:s.2.length=16):(s.2.flatMap qY).length=64:=by rw[ND xh,h]
theorem cR.cell (h:cR b w F s) {k j:Nat} (c:k<16) {v:Value} (a:(qY (gq s (k:Int)))[j]?=aa v):w.cell? ((ia b k).add j)=aa v:=by
 unfold ia;rw[dN,dN];refine h.1.ax.cell ?_;rw[Hq h.2 c]at a;have d:j<4:=by have:=(dI.1 a).1;rwa [xh]at this
 rw[xi,fv,js (by rw[tH h.2];omega)];exact xb xh (by rw[h.2];exact c) a
theorem cR.r8 (h:cR b w F s):w.cell? ((⟨b,0,ag⟩:Addr).add 64)=aa (.int .u64 (mi (bp s.1))):=by
 refine h.1.ax.cell ?_;rw[xi,kE (by rw[tH h.2];omega),tH h.2];rfl
theorem cR.wr (h:cR b w F s) {k j:Nat} (a:k<16) {vs:List Value} {q:Iq} (f:j+vs.length<=4) (c:qY q=ba (qY (gq s (k:Int))) j vs) {K:World->Prop} (g:∀w',ai (cR b) w w' F (j4 s (k:Int) q)->K w') :
  Wr w ((ia b k).add j) vs K:=by
 unfold ia;rw[dN,dN,fv];rw[Hq h.2 a]at c;refine h.1.ax.wr (by rw[xi,cz,tH h.2];simp;omega) (λw' d=>g w' ?_);have e:=d.aK;rw[xi,Rz (by rw[tH h.2];omega),IL xh (by rw[h.2];exact a) f c]at e;obtain⟨i,l,k2⟩:=h.1.fN (s':=j4 s (k:Int) q) d.U e;exact⟨i,⟨l,by simp[j4,h.2]⟩,k2⟩
theorem Xp (b k:Nat):(ia b k).add 0=ia b k:=by unfold ia;rw[dN];rfl
theorem cR.fQ (h:cR b w F s) {k:Nat} (a:k<16) {q:Iq} {vs:List Value} (c:vs=qY q) {K:World->Prop} (d:∀w',ai (cR b) w w' F (j4 s (k:Int) q)->K w'):Wr w (ia b k) vs K:=by
 subst c;rw[<-Xp];exact h.wr a (by rw[xh];omega) (by simp[ba,qY]) d
theorem He (b:Nat) (n:Int) (w:World):Cx 246 #[pt b,I n] w λe w'=>
  ((jF n/\e=Z (.tuple #[.pointer ag,I 3]))∨(¬jF n/\∃k:Nat,n=k/\k<16/\e=Z (.tuple #[.pointer (aa (ia b k)),I 0])))/\w'=w:=by
 refine agX ?_;refine⟨λh=>by simp at h,λ_=>⟨λa=>⟨λc=>⟨.inl ⟨?_,rfl⟩,rfl⟩,λc=>⟨_,rfl,⟨?_,?_⟩,.inr ⟨?_,n.toNat,?_,?_,rfl⟩,rfl⟩⟩,λa=>⟨.inl ⟨?_,rfl⟩,rfl⟩⟩⟩<;>(first|(simp at a c;unfold jF;omega)|(simp at a c;omega)|(simp at a;unfold jF;omega))
theorem yu (h:cR b w F s) (n:Int):Cx 250 #[pt b,I n] w λe w'=>
  ((eJ s n≠0/\e=Z (.tuple #[.pointer ag,I (eJ s n)]))∨(eJ s n=0/\∃k:Nat,n=k/\k<16/\e=Z (.tuple #[.pointer (aa (ia b k)),I 0])))/\w'=w:=by
 refine ag1 ?_;refine⟨(He b n w).mono ?_⟩;rintro e w' ⟨f,rfl⟩;rcases f with⟨a,rfl⟩|⟨a,k,rfl,d,rfl⟩
 ·have c:eJ s n=3:=by simp[eJ,a]
  exact⟨_,_,rfl,λg=>by simp at g,λ_=>⟨.inl ⟨by omega,by rw[c]⟩,rfl⟩⟩
 ·refine⟨_,_,rfl,λ_=>⟨_,rfl,_,h.cell d rfl,λg=>⟨.inl ?_,rfl⟩,λg=>⟨.inr ⟨?_,k,rfl,d,rfl⟩,rfl⟩⟩,λg=>by simp at g⟩
  ·have c:eJ s k=4:=by rw[eJ,af a,af (by simpa using g)]
   exact⟨by omega,by rw[c]⟩
  ·rw[eJ,af a,ar (by simpa using g)]
theorem Oh (h:cR b w F s) (m:BV):Cx 247 #[pt b,.int .u64 (mi m)] w λe w'=>e=Z (.bool (lU s.1 m))/\w'=w:=by
 refine agY ?_;rw[vh];refine⟨λg=>⟨_,rfl,_,h.r8,⟨(zS _ _ w).mono ?_⟩⟩,λg=>⟨by rw[lU,g,iI],rfl⟩⟩;rintro e w' ⟨rfl,rfl⟩;exact⟨_,rfl,by rw[lU,g,fc],rfl⟩
theorem aaZ (h:cR b w F s) (n:Int):Cx 147 #[pt b,I n] w λe w'=>e=Z (I (eJ s n))/\ai (cR b) w w' F (tR s n):=by
 refine aft ?_;refine⟨(yu h n).mono ?_⟩;rintro e w' ⟨⟨a,rfl⟩|⟨a,k,rfl,c,rfl⟩,rfl⟩
 ·rw[tR,af a];exact⟨_,_,rfl,λg=>absurd (by simpa using g) a,λ_=>⟨rfl,ai.same h⟩⟩
 ·rw[tR,ar a,a];exact⟨_,_,rfl,λ_=>⟨_,rfl,h.wr c (by simp) rfl λw1 d=>⟨rfl,d⟩⟩,λg=>by simp at g⟩
theorem WD (h:cR b w F s) (n:Int):Cx 139 #[pt b,I n] w λe w'=>e=Z (I (eJ s n))/\ai (cR b) w w' F (qW s n):=by
 refine afl ?_;refine⟨(yu h n).mono ?_⟩;rintro e w' ⟨⟨a,rfl⟩|⟨a,k,rfl,c,rfl⟩,rfl⟩
 ·rw[qW,af a];exact⟨_,_,rfl,λg=>absurd (by simpa using g) a,λ_=>⟨rfl,ai.same h⟩⟩
 ·rw[qW,ar a,a];exact⟨_,_,rfl,λ_=>⟨_,rfl,h.fQ (q:=i0) c rfl λw1 d=>⟨rfl,d⟩⟩,λg=>by simp at g⟩
theorem Tc (h:cR b w F s) (n:Int) (m:BV):Cx 142 #[pt b,I n,.int .u64 (mi m)] w λe w'=>e=Z (I (nW s n m))/\ai (cR b) w w' F (o6 s n m):=by
 refine afo ?_;refine⟨(yu h n).mono ?_⟩;rintro e w' ⟨⟨a,rfl⟩|⟨a,k,rfl,d,rfl⟩,rfl⟩
 ·have c:nW s n m=eJ s n:=by rw[nW,af a]
  rw[o6,c,af a];exact⟨_,_,rfl,λ_=>⟨rfl,ai.same h⟩,λg=>absurd (by simpa using g) a⟩
 ·refine⟨_,_,rfl,λg=>by simp at g,λ_=>⟨(Oh h m).mono ?_⟩⟩;rintro e w1 ⟨rfl,rfl⟩;refine⟨_,rfl,λg=>?_,λg=>⟨_,rfl,?_⟩⟩
  ·have c:nW s k m=2:=by rw[nW,ar a,af (by simpa using g)]
   rw[o6,c];exact⟨rfl,ai.same h⟩
  ·have c:nW s k m=0:=by rw[nW,ar a,ar (by simpa using g)]
   rw[o6,c,ar rfl];exact h.wr d (by simp) rfl λw1 f=>⟨rfl,f⟩
theorem N9 (h:cR b w F s) (n:Int) (is:Bool):Cx 252 #[pt b,I n,.bool is] w λe w'=>e=Z (I (nE s n is))/\ai (cR b) w w' F (oH s n is):=by
 refine ag3 ?_;refine⟨(yu h n).mono ?_⟩;rintro e w' ⟨⟨a,rfl⟩|⟨a,k,rfl,d,rfl⟩,rfl⟩
 ·have c:nE s n is=eJ s n:=by rw[nE,af a]
  rw[oH,c,af a];exact⟨_,_,rfl,λ_=>⟨rfl,ai.same h⟩,λg=>absurd (by simpa using g) a⟩
 ·refine⟨_,_,rfl,λg=>by simp at g,λ_=>⟨_,rfl,_,h.cell d rfl,λg=>?_,λg=>⟨_,rfl,?_⟩⟩⟩
  ·have c:nE s k is=6:=by rw[nE,ar a,ar (by simpa using g)]
   rw[oH,c];exact⟨rfl,ai.same h⟩
  ·have c:nE s k is=0:=by rw[nE,ar a,af (by simpa using g)]
   rw[oH,c,ar rfl];exact h.wr d (by simp) rfl λw1 f=>⟨rfl,f⟩
theorem Xn (h:cR b w F s) (n:Int):Cx 145 #[pt b,I n] w λe w'=>e=Z (I (nE s n ah))/\ai (cR b) w w' F (oH s n ah):=by
 refine afr ?_;refine⟨(N9 h n ah).mono ?_⟩;rintro e w' ⟨rfl,a⟩;exact⟨_,rfl,rfl,a⟩
theorem ai8 (h:cR b w F s) (n:Int):Cx 146 #[pt b,I n] w λe w'=>e=Z (I (nE s n ae))/\ai (cR b) w w' F (oH s n ae):=by
 refine afs ?_;refine⟨(N9 h n ae).mono ?_⟩;rintro e w' ⟨rfl,a⟩;exact⟨_,rfl,rfl,a⟩
theorem aa0 (h:cR b w F s) (n:Int):Cx 175 #[pt b,I n] w λe w'=>e=Z (.bool (lS s n))/\w'=w:=by
 refine afR ?_;refine⟨(yu h n).mono ?_⟩;rintro e w' ⟨⟨c,rfl⟩|⟨c,k,rfl,d,rfl⟩,rfl⟩
 ·have a:lS s n=ae:=by simp[lS,c]
  rw[a];exact⟨_,_,rfl,λg=>absurd (by simpa using g) c,λ_=>⟨rfl,rfl⟩⟩
 ·refine⟨_,_,rfl,λ_=>⟨_,rfl,_,h.cell d rfl,λg=>⟨_,rfl,_,h.cell d rfl,?_,rfl⟩,λg=>⟨?_,rfl⟩⟩,λg=>by simp at g⟩
  ·have a:lS s k = !(gq s k).2.1:=by simp[lS,c,g]
   rw[a]
  ·have a:lS s k=ae:=by simp[lS,g]
   rw[a]
theorem Vg (h:cR b w F s) (n:Int):Cx 221 #[pt b,I n] w λe w'=>e=Z (I (pC s n))/\ai (cR b) w w' F (r7 s n):=by
 refine agy ?_;refine⟨(yu h n).mono ?_⟩;rintro e w' ⟨⟨a,rfl⟩|⟨a,k,rfl,d,rfl⟩,rfl⟩
 ·have c:pC s n=eJ s n:=by rw[pC,af a]
  rw[r7,c,af a];exact⟨_,_,rfl,λ_=>⟨rfl,ai.same h⟩,λg=>absurd (by simpa using g) a⟩
 ·refine⟨_,_,rfl,λg=>by simp at g,λ_=>⟨_,rfl,_,h.cell d rfl,λg1=>⟨_,rfl,_,h.cell d rfl,λf=>?_,λf=>⟨_,rfl,?_⟩⟩,λg1=>?_⟩⟩
  ·have c:pC s k=12:=by rw[pC,ar a,af (by simp[lS,f])]
   rw[r7,c];exact⟨rfl,ai.same h⟩
  ·have g1:(gq s k).2.2.1=ah:=by simpa using g1
   have c:pC s k=0:=by rw[pC,ar a,ar (by simp[lS,a,g1,f])]
   rw[r7,c,ar rfl];exact h.wr d (by simp) rfl λw1 i=>⟨rfl,i⟩
  ·have g1:(gq s k).2.2.1=ae:=by simpa using g1
   have c:pC s k=12:=by rw[pC,ar a,af (by simp[lS,g1])]
   rw[r7,c];exact⟨rfl,ai.same h⟩
theorem aa7 (h:cR b w F s) (n:Int) (m:BV):Cx 136 #[pt b,I n,.int .u64 (mi m)] w λe w'=>e=Z (I (k8 s n m))/\ai (cR b) w w' F (lT s n m):=by
 refine afi ?_;refine⟨(He b n w).mono ?_⟩;rintro e w' ⟨⟨c,rfl⟩|⟨c,k,rfl,d,rfl⟩,rfl⟩
 ·have a:k8 s n m=3:=by simp[k8,c]
  rw[lT,a];exact⟨_,_,rfl,λ_=>⟨rfl,ai.same h⟩,λg=>by simp at g⟩
 ·refine⟨_,_,rfl,λg=>by simp at g,λ_=>⟨_,rfl,_,h.cell d rfl,λg1=>?_,λg1=>⟨(Oh h m).mono ?_⟩⟩⟩
  ·have a:k8 s k m=6:=by rw[k8,af c,ar g1]
   rw[lT,a];exact⟨rfl,ai.same h⟩
  ·rintro e w1 ⟨rfl,rfl⟩;refine⟨_,rfl,λg=>?_,λg=>⟨_,rfl,?_⟩⟩
   ·have a:k8 s k m=2:=by rw[k8,af c,af (by simp[g1]),af (by simpa using g)]
    rw[lT,a];exact⟨rfl,ai.same h⟩
   ·have a:k8 s k m=0:=by rw[k8,af c,af (by simp[g1]),ar (by simpa using g)]
    rw[lT,a,ar rfl];exact h.fQ (q:=(ah,ae,ae,m)) d rfl λw1 f=>⟨rfl,f⟩
theorem P4 (h:cR b w F s):Cx 174 #[pt b] w λe w'=>∃p c,e=Z (.slice p (gI s).length c)/\Loc w w' 3 p c (gI s):=by
 have u:=h.2;refine afQ ?_
 refine⟨λg=>by simp at g,λ_=>⟨_,rfl,s.2.flatMap qY,tH u,?_,⟨bJ bA (M:=AZ) (σ:=Nat×Option Addr×Nat) (λx=>Gi x.2.1 (bW (sw s) x.1).length x.2.2 (s.2.flatMap qY) x.1)
  (λx w'=>x.1<=16/\Loc w w' 3 x.2.1 x.2.2 (bW (sw s) x.1)) (λx _=>16-x.1) (0,ag,0) ⟨rfl,rfl,rfl,trivial⟩ ⟨by simp,Loc.nil (au.refl _ _) _⟩ ?_⟩⟩⟩
 ·intro j v f;rw[dN];refine h.1.ax.cell ?_;have o:j<64:=by have:=(dI.1 f).1;rwa [tH u]at this
  rw[xi,fv,js (by rw[tH u];exact o)];exact f
 ·rintro⟨i,p,d⟩ w1 ⟨h1,m⟩;simp only at h1 m⊢;rw[acN];have a:=vw (sw s) i;have H:=ud (sw s) i;refine⟨λy=>?_,λz=>?_⟩
  ·have hi:i<16:=by simp at y;omega
   have A:=NF xh (l:=s.2) (k:=i) (by omega);have q:sw s i=(s.2[i]'(by omega)).1:=by unfold sw;rw[Hq u hi]
   refine⟨⟨by omega,by omega⟩,_,_,_,_,A,⟨λI r=>?_⟩⟩;refine r.aK.fQ (by simp) (λD t=>?_);refine⟨_,t.aK.cell rfl,λg=>⟨λJ B=>?_⟩,λg=>?_⟩
   ·have n:Loc w D 3 p d (bW (sw s) i):=⟨m.U.and ((r.ak no).trans (t.U) (λj f e=>absurd f (by omega))),?_,m.F⟩
    ·obtain⟨p',c',E,G,C⟩:=n.push ov (by omega) B 36;rw[ar (by rw[q];exact g)]at a;exact⟨p',_,c',E,G,(i+1,p',c'),⟨by rw[a];rfl,rfl,by rw[aN (by omega)];rfl,trivial⟩,⟨by simp only;omega,by rw[a];exact C⟩,by simp only;omega⟩
    ·exact(m.S.ak (r.ak no) (λ_ _ h=>h)).ak t.U (λj f e=>by have:=m.S.lt j f;omega)
   ·have n:Loc w D 3 p d (bW (sw s) i):=⟨m.U.and ((r.ak no).trans (t.U) (λj f e=>absurd f (by omega))),(m.S.ak (r.ak no) (λ_ _ h=>h)).ak t.U (λj f e=>by have:=m.S.lt j f;omega),m.F⟩;rw[af (by rw[q,g];decide)]at a;exact⟨(i+1,p,d),⟨by rw[a];rfl,rfl,by rw[aN (by omega)];rfl,trivial⟩,⟨by simp only;omega,by rw[a];exact n⟩,by simp only;omega⟩
  ·have:i=16:=by simp at z;omega
   subst this;exact⟨p,d,rfl,m⟩
end
theorem ZJ (n:Int) (w:World):Cx 40 #[I n] w λe w'=>
  (¬(1<=n/\n<=64)/\e=Z (.tuple #[.pointer ag,I 2])/\w'=w)∨
  ((1<=n/\n<=64)/\∃b F,e=Z (.tuple #[pt b,I 0])/\cR b w' F (n,aD 16 i0)/\au no w w'/\∀i,F i->w.heap.size<=i):=by
 refine u40 ?_;refine⟨λa=>⟨λc=>.inl ⟨by simp at c;omega,rfl,rfl⟩,λc=>⟨(tI n w).mono ?_⟩⟩,λa=>.inl ⟨by simp at a;omega,rfl,rfl⟩⟩;rintro e w1 ⟨rfl,rfl⟩;exact⟨_,rfl,⟨λf d=>.inr ⟨by simp at a c;omega,w1.heap.size,λi=>i=w1.heap.size,rfl,⟨Rw.new d rfl,rfl⟩,d.ak no,λi hi=>bG hi.symm⟩⟩⟩
abbrev cY:=Int×List Int
structure cY.ok (x:cY):Prop where
 len:x.2.length=16
 le:x.1<=64
 Oa:∀v∈x.2,-1<=v/\v<64
def rn (x:cY):List Value:=x.2.map (λv=>ay .i64 (v+1))++[I x.1]
def iD (b:Nat):Ob cY:=λw F x=>Rw b 204 rn w F x/\x.ok
instance Frame.rt (b:Nat):Frame (iD b) where
 ak:=λ⟨h,r⟩ k a=>⟨(Frame.rw ..).ak h k a,r⟩
 lt:=λ⟨h,_⟩=>(Frame.rw ..).lt h
def gX (n:Int):Prop:=n<0∨16<=n
instance (n:Int):Decidable (gX n):=inferInstanceAs (Decidable (_∨_))
def gt (x:cY) (n:Int):Int:=x.2.getD n.toNat 0
def oP (x:cY) (n c:Int):Int:=if gX n then 3 else if c<0∨x.1<=c then 3 else 0
def mM (x:cY) (n c:Int):cY:=if oP x n c=0 then(x.1,x.2.set n.toNat c)else x
def sF (x:cY) (n:Int):Int:=if gX n then 3 else if gt x n<0 then 4 else 0
def pY (x:cY) (n:Int):cY:=if sF x n=0 then(x.1,x.2.set n.toNat (-1))else x
def cy (x:cY) (n:Int):Int×Bool:=if gX n then(0,ae)else if gt x n<0 then(0,ae)else(gt x n,ah)
def sH (x:cY) (c:Int) (i:Int):Bool:=(cy x i).2&&(cy x i).1==c
def jc (x:cY) (c:Int):List Int:=bW (sH x c) 16
theorem NU {x:cY} (h:x.ok) {k:Nat} (a:k<16):gt x (k:Int)=x.2[k]'(by rw[h.len];exact a):=by
 unfold gt;simp[aQ,h.len,a]
theorem NV {x:cY} (h:x.ok) {k:Nat} (a:k<16) : -1<=gt x (k:Int)/\gt x (k:Int)<64:=by
 rw[NU h a];exact h.Oa _ (cx _)
theorem abl {x:cY} (h:x.ok) {k:Nat} (a:k<16):(rn x)[k]?=aa (I (gt x (k:Int)+1)):=by
 rw[NU h a,rn,js (by simp[h.len,a])];simp[h.len,a]
theorem abm {x:cY} (h:x.ok):(rn x)[16]?=aa (I x.1):=by
 rw[rn,kE (by simp[h.len])];simp[h.len]
theorem abn {x:cY} (h:x.ok):(rn x).length=17:=by simp[rn,h.len]
theorem abo {x:cY} (h:x.ok) {k:Nat} (a:k<16) (v:Int):ba (rn x) k [I (v+1)]=rn (x.1,x.2.set k v):=by
 have:=h.len;unfold ba rn;apply cT;intro j;simp only[ng,gV,gD,eZ,cB,cz,eh,bO,im,nm,bZ]
 grind
theorem Z5 {x:cY} (h:x.ok) {k:Nat} {v:Int} (c : -1<=v/\v<64):cY.ok (x.1,x.2.set k v):=
 ⟨by simp[h.len],h.le,λu a=>by
  rcases il a with a|rfl
  ·exact h.Oa u a
  ·exact c⟩
section
variable {w:World} {F:Fp} {b:Nat} {x:cY} {y:Option Addr×Nat}
theorem Iw (b:Nat) (n:Int) (w:World):Cx 251 #[pt b,I n] w λe w'=>e=Z (I (if gX n then 3 else 0))/\w'=w:=by
 refine ag2 ?_;refine⟨λh=>by simp at h,λ_=>⟨λa=>⟨λc=>⟨?_,rfl⟩,λc=>⟨?_,rfl⟩⟩,λa=>⟨?_,rfl⟩⟩⟩
 ·rw[ar (by simp at c;unfold gX;omega)]
 ·rw[af (by simp at a c;unfold gX;omega)]
 ·rw[ar (by simp at a;unfold gX;omega)]
theorem iD.cell {k:Nat} (h:iD b w F x) (a:k<16):w.cell? (((⟨b,0,ag⟩:Addr).add 0).add ((k:Int).toNat*1))=aa (I (gt x (k:Int)+1)):=by
 rw[dN,fv,ez];exact h.1.ax.cell (abl h.2 a)
theorem iD.wr {k:Nat} {v:Int} (h:iD b w F x) (d:k<16) (e : -1<=v/\v<64) {K:World->Prop} (f:∀w',ai (iD b) w w' F (x.1,x.2.set k v)->K w') :
  Wr w (((⟨b,0,ag⟩:Addr).add 0).add ((k:Int).toNat*1)) [I (v+1)] K:=by
 rw[dN,fv,ez];refine h.1.ax.wr (by rw[abn h.2];show k+1<=17;omega) (λw' a=>f w' ?_);have c:=a.aK;rw[show(k:Int).toNat=k from rfl,abo h.2 d]at c;obtain⟨g,i,k2⟩:=h.1.fN (s':=(x.1,x.2.set k v)) a.U c;exact⟨g,⟨i,Z5 h.2 e⟩,k2⟩
theorem abV (h:iD b w F x) (n c:Int):Cx 249 #[pt b,I n,I c] w λe w'=>e=Z (I (oP x n c))/\ai (iD b) w w' F (mM x n c):=by
 refine ag0 ?_;refine⟨(Iw b n w).mono ?_⟩;rintro e w' ⟨rfl,rfl⟩;have i:=h.2.le;by_cases a:gX n
 ·have d:oP x n c=3:=by simp[oP,a]
  rw[ar a,mM,d];exact⟨_,rfl,λ_=>⟨rfl,ai.same h⟩,λg=>by simp at g⟩
 ·rw[af a];obtain⟨k,rfl⟩:∃k:Nat,n=k:=⟨n.toNat,by unfold gX at a;omega⟩;have j:k<16:=by unfold gX at a;omega
  refine⟨_,rfl,λg=>by simp at g,λ_=>⟨λg1=>⟨_,rfl,_,h.1.ax.cell (abm h.2),λf=>?_,λf=>⟨_,rfl,⟨by omega,by omega⟩,?_⟩⟩,λg1=>?_⟩⟩
  ·have d:oP x k c=3:=by simp at f;simp[oP,a,f]
   rw[mM,d];exact⟨rfl,ai.same h⟩
  ·have g1:¬c<0:=by simpa using g1
   have f:¬x.1<=c:=by simpa using f
   have d:oP x k c=0:=by rw[oP,af a,af (by omega)]
   rw[mM,d,ar rfl,aN (by omega)];exact h.wr j (by omega) (λw' l=>⟨rfl,l⟩)
  ·have d:oP x k c=3:=by simp at g1;simp[oP,a,g1]
   rw[mM,d];exact⟨rfl,ai.same h⟩
theorem Z2 (h:iD b w F x) (n:Int):Cx 141 #[pt b,I n] w λe w'=>e=Z (I (sF x n))/\ai (iD b) w w' F (pY x n):=by
 refine afn ?_;refine⟨(Iw b n w).mono ?_⟩;rintro e w' ⟨rfl,rfl⟩;by_cases a:gX n
 ·have c:sF x n=3:=by simp[sF,a]
  rw[ar a,pY,c];exact⟨_,rfl,λ_=>⟨rfl,ai.same h⟩,λg=>by simp at g⟩
 ·rw[af a];obtain⟨k,rfl⟩:∃k:Nat,n=k:=⟨n.toNat,by unfold gX at a;omega⟩;have d:k<16:=by unfold gX at a;omega
  have hi:=NV h.2 d;refine⟨_,rfl,λg=>by simp at g,λ_=>⟨_,rfl,⟨by omega,by omega⟩,_,h.cell d,λg1=>?_,λg1=>⟨_,rfl,⟨by omega,by omega⟩,?_⟩⟩⟩
  ·have c:sF x k=4:=by simp at g1;rw[sF,af a,ar (by omega)]
   rw[pY,c];exact⟨rfl,ai.same h⟩
  ·have c:sF x k=0:=by simp at g1;rw[sF,af a,af (by omega)]
   rw[pY,c,ar rfl];have:=h.wr (v:=-1) d (by omega) (K:=λf=>cj (I 0)=cj (I 0)/\ai (iD b) w' f F (x.1,x.2.set k (-1))) (λf i=>⟨rfl,i⟩);exact this
theorem H7 (h:iD b w F x) (n:Int):Cx 186 #[pt b,I n] w λe w'=>e=Z (.tuple #[I (cy x n).1,.bool (cy x n).2])/\w'=w:=by
 refine afZ ?_;refine⟨(Iw b n w).mono ?_⟩;rintro e w' ⟨rfl,rfl⟩;by_cases a:gX n
 ·have c:cy x n=(0,ae):=by simp[cy,a]
  rw[ar a,c];exact⟨_,rfl,λg=>by simp at g,λ_=>⟨rfl,rfl⟩⟩
 ·rw[af a];obtain⟨k,rfl⟩:∃k:Nat,n=k:=⟨n.toNat,by unfold gX at a;omega⟩;have d:k<16:=by unfold gX at a;omega
  have hi:=NV h.2 d;refine⟨_,rfl,λ_=>⟨_,rfl,⟨by omega,by omega⟩,_,h.cell d,λg1=>?_,λg1=>⟨_,rfl,⟨by omega,by omega⟩,_,h.cell d,?_⟩⟩,λg=>by simp at g⟩
  ·have c:cy x k=(0,ae):=by simp at g1;rw[cy,af a,ar (by omega)]
   rw[c];exact⟨rfl,rfl⟩
  ·have c:cy x k=(gt x k,ah):=by simp at g1;rw[cy,af a,af (by omega)]
   rw[c,aN (by omega),Int.add_sub_cancel];exact⟨rfl,rfl⟩
theorem QJ (h:iD b w F x) (c:Int):Cx 291 #[pt b,I c] w λe w'=>∃p d,e=Z (.slice p (jc x c).length d)/\Loc w w' 3 p d (jc x c):=by
 refine ahz ?_
 refine⟨λg=>by simp at g,λ_=>⟨bJ bA (M:=Bc) (σ:=Nat×Option Addr×Nat) (λs=>Gz (aa ⟨b,0,ag⟩) c s.2.1 (bW (sH x c) s.1).length s.2.2 s.1)
  (λs w'=>s.1<=16/\Loc w w' 3 s.2.1 s.2.2 (bW (sH x c) s.1)) (λs _=>16-s.1) (0,ag,0) ⟨rfl,rfl,rfl,rfl,trivial⟩ ⟨by simp,Loc.nil (au.refl _ _) _⟩ ?_⟩⟩
 rintro⟨i,p,d⟩ w1 ⟨h1,f⟩;simp only at h1 f⊢;rw[adb];have a:=vw (sH x c) i;have t:=ud (sH x c) i;refine⟨λj=>?_,λk=>?_⟩
 ·have hi:i<16:=by simp at j;omega
  have n:iD b w1 F x:=(Frame.rt b).ak h f.U (λ_ _ h=>h);refine⟨(H7 n i).mono ?_⟩;rintro e w' ⟨rfl,rfl⟩;refine⟨_,_,rfl,λg1=>⟨λl=>⟨λu o=>?_⟩,λl=>?_⟩,λg1=>?_⟩
  ·obtain⟨p',c',q,r,m⟩:=f.push ov (by omega) o 36;rw[ar (by unfold sH;rw[g1,l];rfl)]at a;exact⟨p',_,c',q,r,(i+1,p',c'),⟨rfl,rfl,by rw[a];rfl,by rw[aN (by omega)];rfl,trivial⟩,⟨by simp only;omega,by rw[a];exact m⟩,by simp only;omega⟩
  ·rw[af (by unfold sH;rw[g1,l];decide)]at a;exact⟨(i+1,p,d),⟨rfl,rfl,by rw[a];rfl,by rw[aN (by omega)];rfl,trivial⟩,⟨by simp only;omega,by rw[a];exact f⟩,by simp only;omega⟩
  ·rw[af (by unfold sH;rw[g1];simp)]at a;exact⟨(i+1,p,d),⟨rfl,rfl,by rw[a];rfl,by rw[aN (by omega)];rfl,trivial⟩,⟨by simp only;omega,by rw[a];exact f⟩,by simp only;omega⟩
 ·have:i=16:=by simp at k;omega
  subst this;exact⟨p,d,rfl,f⟩
end
theorem V1:dZ Tryz.prog 205 208 1 8 [.pointer ag]:=⟨by kernel_rfl,by kernel_rfl,rfl,by omega⟩
theorem Dv:o0 Tryz.prog 78 3 3 (I 0):=⟨by kernel_rfl,by kernel_rfl,by kernel_rfl,by kernel_rfl⟩
def je (l:List Int):Nat×List Int:=(32,l)
abbrev QL:=List (List Int)
abbrev WS:=List Bool×((Int->Option Int)×Nat)×QL
def ug (b2 a:Nat) (p:Option Addr) (n c:Nat):List Value:=[pt b2,.slice p n c,.map (aa a)]
def nU (b:Nat):Ob WS:=λw F x=>∃b2 a,aF (aF (df b2) (bF a (ay .i64))) (Tq eb b 207 208 (ug b2 a)) w F ((x.1,x.2.1),x.2.2.map je)
instance Frame.wk (b:Nat):Frame (nU b) where
 ak:=λ⟨b2,b3,h⟩ k a=>⟨b2,b3,Frame.star.ak h k a⟩
 lt:=λ⟨b2,b3,h⟩=>Frame.star.lt h
def jP (Q:QL) (v:Int):Option Int:=(Q.findIdx? (λl=>decide (v∈l))).map (λ(i:Nat)=>(i:Int)-1)
def once (Q:QL):Prop:=∀v,ct Q v<=1
section
variable {Q:QL} {i j:Nat} {v:Int}
theorem IB (hi:i<Q.length) (c:j<Q.length) (a:i≠j) (d:v∈Q[i]) (e:v∈Q[j]):2<=ct Q v:=by
 have f:=ou hi [] v;have b:j<(Q.set i []).length:=by simpa using c
 have k2:=kN (L:=Q.set i []) b (v:=v) (by rw[qD a];exact e);have h:=rS.2 d;simp at f;omega
theorem AL (b:once Q) (hi:i<Q.length) (h:v∈Q[i]):jP Q v=aa ((i:Int)-1):=by
 have:Q.findIdx? (λl=>decide (v∈l))=aa i:=by
  rw[nk];refine⟨hi,by simpa using h,λk d=>?_⟩;have a:k<Q.length:=by omega
  simp only[decide_eq_true_eq];intro c;have:=IB a hi (by omega) c h;have:=b v;omega
 rw[jP,this];rfl
theorem EB (h:ct Q v=0):jP Q v=ag:=by
 have:Q.findIdx? (λl=>decide (v∈l))=ag:=by
  rw[rT];intro l a;obtain⟨i,hi,rfl⟩:=tg a;rw[decide_eq_false_iff_not];intro b;have:=kN hi b;omega
 rw[jP,this];rfl
theorem Js (b:once Q) (v:Int):(jP Q v=ag/\ct Q v=0)∨∃i,∃hi:i<Q.length,v∈Q[i]/\jP Q v=aa ((i:Int)-1)/\0<ct Q v:=by
 by_cases h:ct Q v=0
 ·exact .inl ⟨EB h,h⟩
 ·have c:v∈Q.flatten:=rS.1 (by unfold ct at h;omega);obtain⟨l,d,a⟩:=List.mem_flatten.1 c;obtain⟨i,hi,rfl⟩:=tg d;exact .inr ⟨i,hi,a,AL b hi a,by omega⟩
theorem EC (h:once Q) {l':List Int} (c:once (Q.set i l')) (hi:i<Q.length) (e:v∈l'↔v∈Q[i]):jP (Q.set i l') v=jP Q v:=by
 rcases Js h v with⟨b,f⟩|⟨k,l,b,f,_⟩
 ·rw[b];apply EB;have n:=ou hi l' v;have p:l'.count v=0:=List.count_eq_zero.2 λm=>by have:=kN hi (e.1 m);omega
  omega
 ·rw[f];have d:k<(Q.set i l').length:=by simpa using l
  refine AL c d ?_;by_cases a:i=k
  ·subst a;rw[pj];exact e.2 b
  ·rw[qD a];exact b
end
structure WI (x:WS):Prop where
 len:x.1.length=32
 one:once x.2.2
 has:∀v,cG x.1 v=decide (0<ct x.2.2 v)
 map:∀v,x.2.1.1 v=jP x.2.2 v
 pos:2<=x.2.2.length/\x.2.2.length<=65
def eW (b:Nat):Ob QL:=λw F Q=>∃o g,nU b w F (o,g,Q)/\WI (o,g,Q)
instance Frame.sZ (b:Nat):Frame (eW b) where
 ak:=λ⟨o,g,h,r⟩ k a=>⟨o,g,(Frame.wk b).ak h k a,r⟩
 lt:=λ⟨o,g,h,_⟩=>(Frame.wk b).lt h
theorem ai.sZ {b:Nat} {w w':World} {F:Fp} {o:List Bool} {g:(Int->Option Int)×Nat} {Q:QL} (h:ai (nU b) w w' F (o,g,Q)) (k:WI (o,g,Q)):ai (eW b) w w' F Q:=by
 obtain⟨a,c,d⟩:=h;exact⟨a,⟨o,g,c,k⟩,d⟩
section
variable {o:List Bool} {g:(Int->Option Int)×Nat} {Q:QL} {i:Nat} {v:Int}
theorem WI.gM (h:WI (o,g,Q)) (b:0<ct Q v):1<=v/\v<=32:=by
 have:cG o v=ah:=by rw[h.has];exact decide_eq_true b
 have:=sq this;have a:=h.len;simp only at a;rw[a]at this;exact this
theorem WI.row (h:WI (o,g,Q)) (hi:i<Q.length):Q[i].Nodup/\Q[i].length<=32:=by
 have a:=Cd h.one hi;exact⟨a,sh a λv b=>h.gM (kN hi b)⟩
theorem WI.push (h:WI (o,g,Q)) (hi:i<Q.length) (k:1<=v/\v<=32) (d:v∉Q[i]):gZ (je Q[i]) v=0/\kb (je Q[i]) v=je (Q[i]++[v]):=by
 obtain⟨l,_⟩:=h.row hi
 have m:(Q[i]++[v]).length<=32:=by
  refine sh ?_ ?_
  ·rw[iW];exact⟨l,by simp,λa n b f e=>by simp at f;subst f;subst e;exact d n⟩
  ·intro u c;rw[dS]at c;rcases c with c|c
   ·exact h.gM (kN hi c)
   ·simp at c;subst c;exact k
 have e:gZ (je Q[i]) v=0:=by
  unfold gZ je;simp only;rw[af d,af];simp at m;omega
 exact⟨e,by rw[kb,ar e];rfl⟩
theorem Ce (hi:i<Q.length) (v u:Int):ct (Q.set i (Q[i]++[v])) u=ct Q u+if v=u then 1 else 0:=by
 have:=ou hi (Q[i]++[v]) u;rw[ml,te]at this;simp only[beq_iff_eq]at this;omega
theorem MM (d:once Q) (hi:i<Q.length) (c:v∈Q[i]) (u:Int):ct (Q.set i (Q[i].erase v)) u+(if v=u then 1 else 0)=ct Q u:=by
 have:=ou hi (Q[i].erase v) u;have b:(Q[i].erase v).count u=Q[i].count u-if(v==u)=ah then 1 else 0:=List.count_erase;have e:=Ga hi u;by_cases a:v=u
 ·subst a;have:=rS.2 c;rw[ar (by simp)]at b;rw[ar rfl];omega
 ·have:(v==u)=ae:=by simpa using a
  simp[a,this]at b⊢;omega
theorem WI.queue (h:WI (o,g,Q)) (hi:i<Q.length) {j:Nat} (d:dX o=((j:Int)+1,0)):WI (iC o,fe g ((j:Int)+1) ((i:Int)-1),Q.set i (Q[i]++[(j:Int)+1]))/\(j:Int)+1∉Q[i]/\j<32:=by
 rcases Ek o with⟨a,n,f,k2,p⟩|⟨f,_⟩
 ·have k:a=j:=by rw[f]at d;simp at d;omega
  subst k;have m:=h.len;simp only at m;have r:ct Q ((a:Int)+1)=0:=by have:=h.has ((a:Int)+1);simp only[p]at this;simpa using this.symm
  have b:(a:Int)+1∉Q[i]:=λq=>by have:=kN hi q;omega
  have c:=Ce hi ((a:Int)+1)
  have l:once (Q.set i (Q[i]++[(a:Int)+1])):=λu=>by
   rw[c];have:=h.one u;simp only at this;split
   ·rename_i e;subst e;omega
   ·omega
  refine⟨⟨by simp only[k2,bZ];exact m,l,λu=>?_,λu=>?_,by simpa using h.pos⟩,b,by omega⟩
  ·simp only[k2,c];rw[Hv n];by_cases hu:u=(a:Int)+1
   ·subst hu;simp
   ·rw[af hu,af (λe=>hu e.symm)];exact h.has u
  ·simp only[fe];by_cases hu:u=(a:Int)+1
   ·subst hu;rw[ar rfl,AL l (by simpa using hi) (by rw[pj];simp)]
   ·rw[af hu,EC h.one l hi (by simp[hu])];exact h.map u
 ·rw[f]at d;simp at d
theorem WI.drop (h:WI (o,g,Q)) (hi:i<Q.length) (d:v∈Q[i]):WI (lK o v,gK g v,Q.set i (Q[i].erase v)):=by
 have a:=MM (show once Q from h.one) hi d;have b:=kN hi d;obtain⟨_,k⟩:=NK (o:=o) (n:=v) (by rw[h.has];exact decide_eq_true b);have f:once (Q.set i (Q[i].erase v)):=λu=>by have:=a u;have:=h.one u;simp only at this;omega
 refine⟨by simp only[NL];exact h.len,f,λu=>?_,λu=>?_,by simpa using h.pos⟩
 ·simp only[k];have c:=a u;by_cases hu:u=v
  ·subst hu;have:=h.one u;simp only at this;rw[ar rfl]at c;have:ct (Q.set i (Q[i].erase u)) u=0:=by omega
   simp[this]
  ·rw[af (λe=>hu e.symm),n5]at c;rw[c,decide_eq_true (show u≠v from hu),mu];exact h.has u
 ·simp only[gK];by_cases hu:u=v
  ·subst hu;have c:=a u;have:=h.one u;simp only at this;rw[ar rfl]at c⊢;rw[EB (by omega)]
  ·rw[af hu,EC h.one f hi (by rw[List.mem_erase_of_ne hu])];exact h.map u
theorem WI.unbind (h:WI (o,g,Q)) (hi:i<Q.length) (w:0<i) {l:List Int} (m:Q[i]=v::l):WI (o,fe g v (-1),(Q.set i l).set 0 (Q[0]'(by omega)++[v]))/\v∉Q[0]'(by omega)/\(1<=v/\v<=32):=by
 have n:v∈Q[i]:=by rw[m];simp
 have d:=kN hi n;have r:Q[i].erase v=l:=by rw[m];simp
 have c:=MM (show once Q from h.one) hi n;rw[r]at c;have p:0<(Q.set i l).length:=by simp;omega
 have e:(Q.set i l)[0]=Q[0]'(by omega):=qD (by omega) p;have a:=Ce (Q:=Q.set i l) p v;rw[e]at a;have b:∀u,ct ((Q.set i l).set 0 (Q[0]'(by omega)++[v])) u=ct Q u:=λu=>by have:=c u;have:=a u;omega
 have f:once (Q.set i l):=λu=>by have:=c u;have:=h.one u;simp only at this;omega
 have q:once ((Q.set i l).set 0 (Q[0]'(by omega)++[v])):=λu=>by rw[b];exact h.one u
 have k:v∉Q[0]'(by omega):=λs=>by
  have:=IB hi (show 0<Q.length by omega) (by omega) n s;have:=h.one v;simp only at this;omega
 refine⟨⟨h.len,q,λu=>by simp only[b];exact h.has u,λu=>?_,by simpa using h.pos⟩,k,h.gM d⟩;simp only[fe];by_cases hu:u=v
 ·subst hu;rw[ar rfl,AL (i:=0) q (by simp;omega) (by rw[pj];simp)];rfl
 ·rw[af hu]
  have t:jP ((Q.set i l).set 0 (Q[0]'(by omega)++[v])) u=jP (Q.set i l) u:=by
   refine EC f q p ?_;rw[e];simp[hu]
  rw[t,EC h.one f hi (by rw[m];simp[hu])];exact h.map u
end
def eT (Q:QL) (av f:Int):Prop:=f<=av/\av+1<Q.length
instance (Q:QL) (av f:Int):Decidable (eT Q av f):=by unfold eT;infer_instance
def ix (av:Int):Nat:=(av+1).toNat
def eI (Q:QL) (av:Int):List Int:=Q.getD (ix av) []
theorem tG {Q:QL} {av f:Int} (h:eT Q av f) (a : -1<=f):∃i:Nat,i<Q.length/\av=(i:Int)-1/\ix av=i:=⟨ix av,by unfold eT at h;unfold ix;omega,by unfold eT at h;unfold ix;omega,rfl⟩
theorem nN {Q:QL} {i:Nat} (hi:i<Q.length):eI Q ((i:Int)-1)=Q[i]:=by
 unfold eI ix;have:((i:Int)-1+1).toNat=i:=by omega
 rw[this];simp[hi]
theorem C1 (i:Nat):ix ((i:Int)-1)=i:=by unfold ix;omega
def tD (Q:QL):Option Nat:=(b8 32).find? (λ(k:Nat)=>decide (ct Q ((k:Int)+1)=0))
def tQ (Q:QL) (av:Int):Int×Int:=if eT Q av (-1)then(match tD Q with|some j=>((j:Int)+1,0)|none=>(0,5))else(0,3)
def sJ (Q:QL) (av:Int):QL:=if eT Q av (-1)then(match tD Q with|some j=>Q.set (ix av) (eI Q av++[(j:Int)+1])|none=>Q)else Q
def ue (Q:QL) (v:Int):Int×Bool:=match jP Q v with|some c=>(c,ah)|none=>(0,ae)
def zn (Q:QL) (v:Int):Int:=match jP Q v with|some _=>0|none=>4
def sb (Q:QL) (v:Int):QL:=match jP Q v with|some c=>Q.set (ix c) ((eI Q c).erase v)|none=>Q
def AI (Q:QL) (av:Int):Int×Int:=if eT Q av 0 then(match eI Q av,eI Q (-1)with|a::_,_=>(a,0)|[],a::_=>(a,0)|[],[]=>(0,12))else(0,3)
def ub (Q:QL) (av:Int):QL:=if eT Q av 0 then(match eI Q av,eI Q (-1)with|a::_,_=>sb Q a|[],a::_=>sb Q a|[],[]=>Q)else Q
def sX (Q:QL) (av:Int):Int×Int:=if eT Q av 0 then(match eI Q av with|a::_=>(a,0)|[]=>(0,12))else(0,3)
def rD (Q:QL) (av:Int):QL:=if eT Q av 0 then(match eI Q av with|a::l=>(Q.set (ix av) l).set 0 (eI Q (-1)++[a])|[]=>Q)else Q
def gJ (Q:QL) (av:Int):List Int:=if eT Q av (-1)then eI Q av else[]
theorem WC {o:List Bool} {g:(Int->Option Int)×Nat} {Q:QL} (h:WI (o,g,Q)):(∃j,tD Q=aa j/\dX o=((j:Int)+1,0))∨(tD Q=ag/\dX o=(0,5)/\iC o=o):=by
 have e:=h.len;simp only at e
 have b:∀k:Nat,cG o ((k:Int)+1) = !decide (ct Q ((k:Int)+1)=0):=λk=>by
  rw[h.has];by_cases c:ct Q ((k:Int)+1)=0
  ·simp[c]
  ·have:0<ct Q ((k:Int)+1):=by omega
   simp[this,c]
 cases a:tD Q with
 | none=>
  unfold tD at a;rw[mr]at a;have:=ad8 (o:=o) (λk d=>by rw[b];have:=a k (by simp;omega);simpa using this)
  exact .inr ⟨rfl,this⟩
 | some j=>
  refine .inl ⟨j,rfl,?_⟩;unfold tD at a;rw[List.find?_range_eq_some]at a;obtain⟨f,l,m⟩:=a;refine(aea (by simp at l;omega) (λk d=>?_) ?_).1
  ·rw[b];have:=m k d;simpa using this
  ·rw[b];simpa using f
section
variable {w:World} {F:Fp} {b:Nat} {x:WS} {Q:QL} {o:List Bool} {g:(Int->Option Int)×Nat}
theorem nU.slot (h:nU b w F x):∃b2 a F1,df b2 w F1 x.1/\(∃p c,aL w b (ug b2 a p x.2.2.length c) 207)/\∀w' d,ai (df b2) w w' F1 d->ai (nU b) w w' F (d,x.2):=by
 obtain⟨b2,a,h⟩:=h;obtain⟨F2,e,_⟩:=h.right;obtain⟨F1,f,k⟩:=h.left;obtain⟨F3,i,j⟩:=f.left;obtain⟨p,c,hB⟩:=e.ax;rw[bO]at hB;refine⟨b2,a,F3,i,⟨p,c,hB⟩,λw' d l=>?_⟩;obtain⟨m,n,q⟩:=k _ _ (j _ _ l);exact⟨m,⟨b2,a,n⟩,q⟩
theorem nU.mp (h:nU b w F x):∃b2 a F1,bF a (ay .i64) w F1 x.2.1/\(∃p c,aL w b (ug b2 a p x.2.2.length c) 207)/\∀w' d,ai (bF a (ay .i64)) w w' F1 d->ai (nU b) w w' F (x.1,d,x.2.2):=by
 obtain⟨b2,a,h⟩:=h;obtain⟨F2,e,_⟩:=h.right;obtain⟨F1,f,k⟩:=h.left;obtain⟨F3,i,j⟩:=f.right;obtain⟨p,c,hB⟩:=e.ax;rw[bO]at hB;refine⟨b2,a,F3,i,⟨p,c,hB⟩,λw' r l=>?_⟩;obtain⟨m,n,q⟩:=k _ _ (j _ _ l);exact⟨m,⟨b2,a,n⟩,q⟩
theorem nU.q (h:nU b w F x) {i:Nat} (hi:i<x.2.2.length):∃b2 d a c bi F1,aL w b (ug b2 d (aa a) x.2.2.length c) 207/\w.cell? (a.add (i*1))=aa (pt bi)/\eb bi w F1 (je x.2.2[i])/\
  ∀w' l',ai (eb bi) w w' F1 (je l')->ai (nU b) w w' F (x.1,x.2.1,x.2.2.set i l'):=by
 obtain⟨b2,d,h⟩:=h;obtain⟨F2,f,k⟩:=h.right;obtain⟨a,c,bi,F1,hB,j,e,l⟩:=f.at (i:=i) (by simpa using hi);simp only[bO]at hB;simp only[qI]at e;refine⟨b2,d,a,c,bi,F1,hB,j,e,λw' l' m=>?_⟩;obtain⟨n,p,r⟩:=k _ _ (l _ _ m);refine⟨n,⟨b2,d,?_⟩,r⟩;simp only[eY];exact p
theorem AM (h:eW b w F Q) (av:Int) (f:Int):Cx 148 #[pt b,I av,I f] w λe w'=>e=Z (I (if eT Q av f then 0 else 3))/\w'=w:=by
 obtain⟨o,g,h,hI⟩:=h;have i:=hI.pos;simp only at i;refine afu ?_;obtain⟨b2,j,F1,_,⟨p,c,hB⟩,_⟩:=h.slot;have d:aT .i64 ((Q.length:Int)-1)=(Q.length:Int)-1:=aN (by omega);refine⟨λg=>by simp at g,λ_=>⟨λg=>⟨_,rfl,_,_,_,hB.cell rfl,λa=>⟨?_,rfl⟩,λa=>⟨?_,rfl⟩⟩,λg=>⟨?_,rfl⟩⟩⟩
 ·simp only[d]at a;rw[af];unfold eT;simp at g a;omega
 ·simp only[d]at a;rw[ar];unfold eT;simp at g a;omega
 ·rw[af];unfold eT;simp at g;omega
theorem vy {b2 d c bi i n:Nat} {a:Addr} (hB:aL w b (ug b2 d (aa a) n c) 207) (f:w.cell? (a.add (i*1))=aa (pt bi)) (hi:i<n) (j:n<=1000) :
  Cx 150 #[pt b,I ((i:Int)-1)] w λe w'=>e=Z (pt bi)/\w'=w:=by
 refine afw ?_;have h:aT .i64 ((i:Int)-1-(-1))=(i:Int):=by rw[aN (by omega)];omega
 rw[h];exact⟨_,rfl,_,_,_,hB.cell rfl,⟨by omega,by omega⟩,a,rfl,_,f,rfl,rfl⟩
theorem SM (h:eW b w F Q) (v:Int):Cx 334 #[pt b,I v] w λe w'=>e=Z (.tuple #[I (ue Q v).1,.bool (ue Q v).2])/\w'=w:=by
 obtain⟨o,g,h,hI⟩:=h;refine aih ?_;obtain⟨b2,i,F1,f,⟨p,c,hB⟩,_⟩:=h.mp;refine⟨λg=>by simp at g,λ_=>⟨_,rfl,_,hB.cell rfl,?_⟩⟩;have a:=jL Dv f v ah;have d:=hI.map v;simp only at d a;rw[d]at a;unfold ue
 cases hw:jP Q v with
 | none=>rw[hw]at a;exact⟨_,_,a,rfl,rfl⟩
 | some c=>rw[hw]at a;exact⟨_,_,a,rfl,rfl⟩
theorem ajr (h:eW b w F Q) (v:Int):Cx 263 #[pt b,I v] w λe w'=>e=Z (.bool (ue Q v).2)/\w'=w:=by
 refine ahe ?_;refine⟨(SM h v).mono ?_⟩;rintro e w1 ⟨rfl,rfl⟩;exact⟨_,_,rfl,rfl,rfl⟩
theorem ajy (h:eW b w F Q) (av:Int):Cx 93 #[pt b,I av] w λe w'=>∃p c,e=Z (.slice p (gJ Q av).length c)/\Cells w' p ((gJ Q av).map (ay .i64))/\au no w w':=by
 refine Sg ?_;refine⟨(AM h av (-1)).mono ?_⟩;rintro e w1 ⟨rfl,rfl⟩;refine⟨_,rfl,λg=>?_,λg=>?_⟩
 ·have k:¬eT Q av (-1):=λh=>by rw[ar h]at g;simp at g
  rw[gJ,af k];exact⟨ag,0,rfl,Cells.nil _ _,au.refl _ _⟩
 ·have j:eT Q av (-1):=eu λh=>by rw[af h]at g;simp at g
  rw[gJ,ar j];obtain⟨i,hi,rfl,l⟩:=tG j (by omega);rw[nN hi];obtain⟨o,g,h,hI⟩:=h;obtain⟨b2,t,a,c,bi,F4,hB,d,m,n⟩:=h.q (i:=i) hi;have r:=hI.pos;simp only at r hB;refine⟨(vy hB d hi (by omega)).mono ?_⟩;rintro e u ⟨rfl,rfl⟩;refine⟨_,rfl,⟨(Is m).mono ?_⟩⟩;rintro e y ⟨p,c,rfl,s,f⟩;exact⟨_,_,_,rfl,_,_,rfl,s,f⟩
theorem SD (h:eW b w F Q) (av:Int):Cx 170 #[pt b,I av] w λe w'=>e=Z (I ((gJ Q av).length:Int))/\au no w w':=by
 refine afO ?_;refine⟨(ajy h av).mono ?_⟩;rintro e w1 ⟨p,c,rfl,_,a⟩;exact⟨_,_,_,rfl,rfl,a⟩
theorem ajm (h:eW b w F Q) (v:Int):Cx 308 #[pt b,I v] w λe w'=>e=Z (I (zn Q v))/\ai (eW b) w w' F (sb Q v):=by
 refine ahQ ?_;refine⟨(SM h v).mono ?_⟩;rintro e w1 ⟨rfl,rfl⟩;refine⟨_,_,rfl,λg=>by simp at g,λ_=>⟨λg1=>?_,λg1=>?_⟩⟩
 ·have z:jP Q v=ag:=by unfold ue at g1;cases hw:jP Q v with|none=>rfl|some c=>rw[hw]at g1;simp at g1
  rw[zn,sb,z];exact⟨rfl,ai.same h⟩
 ·obtain⟨o,g,h,hI⟩:=h;rcases Js (show once Q from hI.one) v with⟨d,_⟩|⟨i,hi,t,d,_⟩
  ·unfold ue at g1;rw[d]at g1;simp at g1
  ·rw[zn,sb,ue,d];simp only;rw[C1,nN hi];have f:=hI.drop hi t;have A:=hI.pos;simp only at A;obtain⟨b2,B,F1,C,⟨p,c,hB⟩,j⟩:=h.mp;obtain⟨D,E,G⟩:=sL Dv C v 3 0;obtain⟨F2,u,H,J⟩:=j _ _ G;obtain⟨K,L,F3,hs,⟨p',c',k⟩,l⟩:=u.slot;refine⟨_,rfl,_,hB.cell rfl,D,E,_,rfl,_,k.cell rfl,⟨(D8 hs v).mono ?_⟩⟩;rintro e S ⟨rfl,m⟩;obtain⟨F4,y,M,N⟩:=l _ _ m;obtain⟨b2,B,a,c,bi,F5,hB,n,O,r⟩:=y.q (i:=i) hi;simp only at hB;refine⟨_,rfl,⟨(vy hB n hi (by omega)).mono ?_⟩⟩;rintro e T ⟨rfl,rfl⟩;refine⟨_,rfl,⟨(Q8 O v).mono ?_⟩⟩;rintro e U ⟨rfl,s⟩;have P:sd (je Q[i]) v=0:=by unfold sd je;rw[ar t]
   refine⟨_,rfl,by rw[P],?_⟩;have R:=r _ _ s;exact ai.sZ (ai.next u H J (ai.next y M N R)) f
theorem SG (h:eW b w F Q) (d:Tab w) (av:Int):Cx 68 #[pt b,I av] w λe w'=>e=Z (.tuple #[I (tQ Q av).1,I (tQ Q av).2])/\ai (eW b) w w' F (sJ Q av):=by
 refine u68 ?_;refine⟨(AM h av (-1)).mono ?_⟩;rintro e w1 ⟨rfl,rfl⟩;refine⟨_,rfl,λg=>?_,λg=>?_⟩
 ·have m:¬eT Q av (-1):=λh=>by rw[ar h]at g;simp at g
  rw[tQ,sJ,af m,af m,af m];exact⟨rfl,ai.same h⟩
 ·have n:eT Q av (-1):=eu λh=>by rw[af h]at g;simp at g
  rw[tQ,sJ,ar n,ar n];obtain⟨i,hi,rfl,E⟩:=tG n (by omega);rw[nN hi,C1];obtain⟨o,g,h,hI⟩:=h;have G:=hI.pos;simp only at G;obtain⟨b2,H,F1,hs,⟨p,c,hB⟩,r⟩:=h.slot;refine⟨_,rfl,_,hB.cell rfl,⟨(Ea d hs).mono ?_⟩⟩;rintro e U ⟨rfl,J⟩;obtain⟨F2,l,B,C⟩:=r _ _ J;rcases WC hI with⟨j,f1,f2⟩|⟨f1,f2,f3⟩
  ·obtain⟨s,f,V⟩:=hI.queue hi f2;obtain⟨p1,p2⟩:=hI.push hi (v:=(j:Int)+1) (by omega) f;simp only[f1,f2];obtain⟨K,L,F3,M,⟨p',c',t⟩,u⟩:=l.mp;obtain⟨N,O,y⟩:=qk Dv M ((j:Int)+1) ((i:Int)-1);obtain⟨F4,D,P,R⟩:=u _ _ y;obtain⟨b2,H,a,c,bi,F5,hB,z,S,A⟩:=D.q (i:=i) hi;simp only at hB;refine⟨_,_,rfl,λg=>by simp at g,λ_=>⟨_,rfl,_,t.cell rfl,N,O,⟨(vy hB z hi (by omega)).mono ?_⟩⟩⟩;rintro e W ⟨rfl,rfl⟩;refine⟨_,rfl,⟨(xG S _).mono ?_⟩⟩;rintro e X ⟨rfl,k⟩;simp only[p1,p2]at k⊢;have T:=A _ _ k;exact⟨_,rfl,rfl,ai.sZ (ai.next l B C (ai.next D P R T)) s⟩
  ·simp only[f1,f2];rw[f3]at l;exact⟨_,_,rfl,λ_=>⟨rfl,ai.sZ ⟨F2,l,B,C⟩ hI⟩,λg=>by simp at g⟩
theorem ajI (h:eW b w F Q) (av:Int):Cx 358 #[pt b,I av] w λe w'=>e=Z (.tuple #[I (sX Q av).1,I (sX Q av).2])/\ai (eW b) w w' F (rD Q av):=by
 refine aix ?_;refine⟨(AM h av 0).mono ?_⟩;rintro e w1 ⟨rfl,rfl⟩;refine⟨_,rfl,λg=>?_,λg=>?_⟩
 ·have y:¬eT Q av 0:=λh=>by rw[ar h]at g;simp at g
  rw[sX,rD,af y,af y,af y];exact⟨rfl,ai.same h⟩
 ·have s:eT Q av 0:=eu λh=>by rw[af h]at g;simp at g
  rw[sX,rD,ar s,ar s];obtain⟨i,hi,rfl,K⟩:=tG s (by omega);have L:0<i:=by unfold eT at s;omega
  rw[nN hi,C1];obtain⟨o,g,h,hI⟩:=h;have M:=hI.pos;simp only at M;obtain⟨b2,N,a,c,bi,F1,hB,f,k,d⟩:=h.q (i:=i) hi;simp only at hB k d;refine⟨(vy hB f hi (by omega)).mono ?_⟩;rintro e w2 ⟨rfl,rfl⟩;refine⟨_,rfl,⟨(DU k).mono ?_⟩⟩;rintro e w3 ⟨rfl,O⟩;obtain⟨F2,m,G,H⟩:=d _ _ O
  cases t:Q[i]with
  | nil=>
   have P:Q.set i []=Q:=by rw[<-t,nc]
   simp only[je,t,List.tail_nil,P]at m
   exact⟨_,_,rfl,λ_=>⟨rfl,ai.sZ ⟨F2,m,G,H⟩ hI⟩,λg=>by simp[cN,je]at g⟩
  | cons v l=>
   obtain⟨z,n,R⟩:=hI.unbind hi L t;simp only[je,t,List.tail_cons]at m;have u:0<Q.length:=by omega
   have S:eI Q (-1)=Q[0]:=nN (i:=0) u;obtain⟨p1,p2⟩:=hI.push u R n;simp only[S];obtain⟨T,U,F3,V,⟨p',c',A⟩,B⟩:=m.mp;obtain⟨W,C,D⟩:=qk Dv V v (-1);obtain⟨F4,J,X,Y⟩:=B _ _ D;have p:0<(Q.set i l).length:=by simpa using u
   obtain⟨b2,N,a,c,bi,F5,hB,f,k,d⟩:=J.q (i:=0) p;simp only[bZ]at hB;have r:(Q.set i l)[0]=Q[0]:=qD (by omega) p;simp only[r]at k;refine⟨_,_,rfl,λg=>by simp[cN,je]at g,λ_=>⟨_,rfl,_,A.cell rfl,W,C,⟨(vy hB f u (by omega)).mono ?_⟩⟩⟩;rintro e w5 ⟨rfl,rfl⟩;refine⟨_,rfl,⟨(xG k _).mono ?_⟩⟩;rintro e w6 ⟨rfl,j⟩;have E:(cN (32,v::l)).1=v:=rfl;simp only[je]at p1 p2 j⊢;simp only[E,p1,p2]at j⊢;have h7:=d _ _ j;exact⟨_,rfl,rfl,ai.sZ (ai.next m G H (ai.next J X Y h7)) z⟩
theorem VO {i:Nat} (a:once Q) (hi:i<Q.length) {v:Int} (c:v∈Q[i]):zn Q v=0:=by rw[zn,AL a hi c]
theorem ajG (h:eW b w F Q) (av:Int):Cx 223 #[pt b,I av] w λe w'=>e=Z (.tuple #[I (AI Q av).1,I (AI Q av).2])/\ai (eW b) w w' F (ub Q av):=by
 refine agA ?_;refine⟨(AM h av 0).mono ?_⟩;rintro e w1 ⟨rfl,rfl⟩;refine⟨_,rfl,λg=>?_,λg=>⟨λB N=>?_⟩⟩
 ·have C:¬eT Q av 0:=λh=>by rw[ar h]at g;simp at g
  rw[AI,ub,af C,af C,af C];exact⟨rfl,ai.same h⟩
 ·have D:eT Q av 0:=eu λh=>by rw[af h]at g;simp at g
  rw[AI,ub,ar D,ar D];have O:=N.ak no;have W:Cells B (aa ⟨w1.heap.size,0,ag⟩) (([av,-1]:List Int).map (ay .i64)):=(Sl.new (n:=2) (sz:=1) N (by simp) (by decide)).cells;have X:eW b B F Q:=(Frame.sZ b).ak h O (λ_ _ h=>h);refine⟨bJ bA (M:=A7) (σ:=Nat) (λj=>Gr (aa ⟨b,0,ag⟩) (aa ⟨w1.heap.size,0,ag⟩) 2 2 2 (j:Int)) (λj w'=>j<=2/\au no B w'/\(1<=j->eI Q av=[])/\(2<=j->eI Q (-1)=[])) (λj _=>2-j) 0 ⟨rfl,rfl,rfl,rfl,trivial⟩ ⟨by omega,au.refl _ _,λh=>by omega,λh=>by omega⟩ ?_⟩;rintro j P ⟨j1,f,z,k2⟩;rw[ac0];have E:eW b P F Q:=(Frame.sZ b).ak X f (λ_ _ h=>h);have p:au no w1 P:=O.and f;refine⟨λg=>?_,λg=>?_⟩
  ·have hj:j<2:=by simp at g;omega
   obtain⟨a0,G,r⟩:=(W.no f).ck (i:=j) (l:=([av,-1]:List Int)) (by simp;omega);obtain⟨i,hi,s,Y⟩:=tG D (by omega);subst s;have R:0<Q.length:=by omega
   have S:=nN hi;have T:eI Q (-1)=Q[0]:=nN (i:=0) R;rw[S,T];rw[S]at z;rw[T]at k2
   obtain⟨k,A,H,d⟩:∃k:Nat,∃A:k<Q.length,([(i:Int)-1,-1]:List Int)[j]'(by simp;omega)=(k:Int)-1/\((j=0/\k=i)∨(j=1/\k=0)):=by
    have:j=0∨j=1:=by omega
    rcases this with rfl|rfl
    ·exact⟨i,hi,rfl,.inl ⟨rfl,rfl⟩⟩
    ·exact⟨0,R,rfl,.inr ⟨rfl,rfl⟩⟩
   rw[H]at r;obtain⟨o,gm,J,hI⟩:=id E;have hp:=hI.pos;simp only at hp;obtain⟨b2,b3,a,c,bi,F5,hB,K,U,al⟩:=J.q (i:=k) A;simp only at hB U;refine⟨⟨by omega,by omega⟩,a0,G,_,r,⟨(vy hB K A (by omega)).mono ?_⟩⟩;rintro e w4 ⟨rfl,rfl⟩;refine⟨_,rfl,⟨(Ir U).mono ?_⟩⟩;rintro e w5 ⟨rfl,m⟩;have V:eW b w5 F Q:=(Frame.sZ b).ak E m (λ_ _ h=>h)
   cases t:Q[k]with
   | nil=>
    refine⟨_,_,rfl,λg=>by simp[cN,je]at g,λ_=>⟨j+1,⟨rfl,rfl,rfl,by rw[aN (by omega)];rfl,trivial⟩,⟨by omega,f.and m,λ_=>?_,λ_=>?_⟩,by omega⟩⟩
    ·rcases d with⟨rfl,rfl⟩|⟨rfl,rfl⟩
     ·exact t
     ·exact z (by omega)
    ·rcases d with⟨rfl,rfl⟩|⟨rfl,rfl⟩
     ·omega
     ·exact t
   | cons u l=>
    refine⟨_,_,rfl,λ_=>⟨(ajm V _).mono ?_⟩,λg=>by simp[cN,je]at g⟩;have L:(cN (je (u::l))).1=u:=rfl;rw[L,VO (show once Q from hI.one) A (by rw[t];simp)];rintro e w6 ⟨rfl,hT⟩;have y:=ai.next V (p.and m).nn (λ_ h=>.inl h) hT;rcases d with⟨rfl,rfl⟩|⟨rfl,rfl⟩
    ·rw[t];exact⟨_,rfl,rfl,y⟩
    ·rw[z (by omega),t];exact⟨_,rfl,rfl,y⟩
  ·have:j=2:=by simp at g;omega
   subst this;rw[z (by omega),k2 (by omega)];exact⟨rfl,F,E,p.nn,λ_ h=>.inl h⟩
def xz (n:Int):Prop:=1<=n/\n<=64
def gi (n:Int):QL:=aD (n.toNat+1) []
theorem WI.new {n:Int} (h:xz n):WI (aD 32 ae,(λ_=>ag,0),gi n):=by
 have a:∀k,(aD 32 ae).getD k ae=ae:=λk=>by
  rw[aQ,iJ];split<;>rfl
 unfold xz at h;refine⟨by simp,λv=>by simp only[gi,uO];omega,λv=>?_,λv=>?_,by simp[gi];omega⟩
 ·simp only[gi,uO];unfold cG;rw[a];simp
 ·simp only[gi];rw[EB (uO _ _)]
theorem ajA (n:Int) (w:World):Cx 44 #[I n] w λe w'=>
  (¬xz n/\e=Z (.tuple #[.pointer ag,I 2])/\w'=w)∨
  (xz n/\∃b F,e=Z (.tuple #[pt b,I 0])/\eW b w' F (gi n)/\au no w w'/\∀i,F i->w.heap.size<=i):=by
 refine u44 ?_;refine⟨λg1=>⟨λl=>.inl ⟨?_,rfl,rfl⟩,λl=>?_⟩,λg1=>.inl ⟨?_,rfl,rfl⟩⟩
 ·unfold xz;simp at l;omega
 ·have g1:¬n<1:=by simpa using g1
  have l:¬64<n:=by simpa using l
  obtain⟨k,rfl⟩:∃k:Nat,n=k:=⟨n.toNat,by omega⟩;have C:aT .i64 ((k:Int)+1)=((k+1:Nat):Int):=by rw[aN (by omega)];omega
  refine⟨(D9 32 w).mono ?_⟩;rintro e w1 r;obtain⟨_,b2,F1,rfl,m,q,B⟩:=r.resolve_left (λh=>absurd (by omega) h.1);have a:bY w w1 (df b2) (aD 32 ae):=bY.new (au.refl _ _) q m B;clear q m B;refine⟨_,_,rfl,λg=>by simp at g,λ_=>⟨λs d=>⟨λt f=>?_⟩⟩⟩;replace a:bY w s (aF (df b2) (bF w1.heap.size (ay .i64))) (aD 32 ae,(λ_=>ag,0)):=a.add (d.ak no) (bF.new d) (λi hi=>bG hi.symm);generalize w1.heap.size=b3 at a f⊢;replace a:bY w t (aF (aF (df b2) (bF b3 (ay .i64))) (Tq eb s.heap.size 207 208 (ug b2 b3))) ((aD 32 ae,(λ_=>ag,0)),[]):=a.add (f.ak no) (Tq.nil f rfl) (λi hi=>bG hi.symm);generalize s.heap.size=b at a⊢;rw[C];refine⟨bJ bA (M:=Bp) (σ:=Nat) (λj=>GP (aa ⟨b,0,ag⟩) ((k+1:Nat):Int) (j:Int)) (λj w'=>j<=k+1/\bY w w' (aF (aF (df b2) (bF b3 (ay .i64))) (Tq eb b 207 208 (ug b2 b3))) ((aD 32 ae,(λ_=>ag,0)),aD j (je []))) (λj _=>k+1-j) 0 ⟨rfl,rfl,rfl,trivial⟩ ⟨by omega,a⟩ ?_⟩;clear a f d;rintro j t ⟨P,a⟩;rw[adD];refine⟨λg=>?_,λg=>?_⟩
  ·have R:j<k+1:=by simp at g;omega
   refine⟨(Dx 32 t).mono ?_⟩;rintro e S r;obtain⟨_,bq,G,rfl,m,q,D⟩:=r.resolve_left (λh=>absurd (by omega) h.1);obtain⟨F2,hA,E⟩:=a.right;obtain⟨p,c,hB,u⟩:=Tq.push V1 (k:=1) (λ_ _ _ _ _ _=>rfl) (λ_ _ _=>by simp[ug]) hA (by simp;omega) q m D;refine⟨_,_,rfl,λg=>by simp at g,λ_=>⟨_,rfl,_,_,_,hB.cell rfl,⟨λH f=>?_⟩⟩⟩;obtain⟨p',c',J,K,L⟩:=u H f 205;refine⟨_,_,_,J,K,_,rfl,L _ λT N=>?_⟩;have O:=E _ _ N;refine⟨j+1,⟨rfl,rfl,by rw[aN (by omega)];rfl,trivial⟩,⟨by omega,?_⟩,by omega⟩;rw[rX (n:=j)];exact O
  ·have:j=k+1:=by simp at g;omega
   subst this;obtain⟨F,y,z,A⟩:=a;refine .inr ⟨⟨by omega,by omega⟩,b,F,rfl,⟨_,_,⟨b2,b3,?_⟩,WI.new ⟨by omega,by omega⟩⟩,z,A⟩;simp only[gi,List.map_replicate,bK];exact y
 ·unfold xz;simp at g1;omega
end
theorem V0:dZ Tryz.prog 205 208 1 8 [.pointer ag]:=⟨by kernel_rfl,by kernel_rfl,rfl,by omega⟩
abbrev CS:=List Bool×List (List Int)
def dm (l:List Int):Nat×List Int:=(32,l)
def FL (b2:Nat) (p:Option Addr) (n c:Nat):List Value:=[pt b2,.slice p n c]
abbrev EO (b b2:Nat):Ob (List (Nat×List Int)):=Tq eb b 213 208 (FL b2)
def dY (b:Nat):Ob CS:=λw F x=>∃b2,aF (df b2) (EO b b2) w F (x.1,x.2.map dm)
instance Frame.ca (b:Nat):Frame (dY b) where
 ak:=λ⟨b2,h⟩ k a=>⟨b2,Frame.star.ak h k a⟩
 lt:=λ⟨b2,h⟩=>Frame.star.lt h
def bU (x:CS) (av:Int):Prop:=0<=av/\av<x.2.length
instance (x:CS) (av:Int):Decidable (bU x av):=by unfold bU;infer_instance
theorem pO {x:CS} {av:Int} (h:bU x av):∃i:Nat,i<x.2.length/\av=(i:Int):=⟨av.toNat,by unfold bU at h;omega,by unfold bU at h;omega⟩
def bR (x:CS) (av:Int):List Int:=x.2.getD av.toNat []
theorem qg {x:CS} {i:Nat} (hi:i<x.2.length):bR x (i:Int)=x.2[i]:=by simp[bR,hi]
def tY (x:CS) (av:Int):Int×Int:=if bU x av then(if(dX x.1).2=0 then((dX x.1).1,gZ (dm (bR x av)) (dX x.1).1)else(0,(dX x.1).2))else(0,3)
def kg (x:CS) (av:Int):CS:=if bU x av then(if(dX x.1).2=0 then(iC x.1,x.2.set av.toNat (kb (dm (bR x av)) (dX x.1).1).2)else(iC x.1,x.2))else x
def vv (x:CS) (av:Int):Int×Int:=if bU x av then(if(cN (dm (bR x av))).2=0 then((cN (dm (bR x av))).1,sk x.1 (cN (dm (bR x av))).1)else(0,(cN (dm (bR x av))).2))else(0,3)
def oS (x:CS) (av:Int):CS:=if bU x av then(if(cN (dm (bR x av))).2=0 then(lK x.1 (cN (dm (bR x av))).1,x.2.set av.toNat (bR x av).tail)else(x.1,x.2.set av.toNat (bR x av).tail))else x
def ka (x:CS) (av:Int):CS:=(x.1,x.2.set av.toNat (bR x av).tail)
def pX (x:CS) (f t:Int):Int×Int:=if bU x f/\bU x t then(if f=t then(0,2)else if(cN (dm (bR x f))).2=0 then((cN (dm (bR x f))).1,gZ (dm (bR (ka x f) t)) (cN (dm (bR x f))).1)else(0,(cN (dm (bR x f))).2))else(0,3)
def lQ (x:CS) (f t:Int):CS:=if bU x f/\bU x t then(if f=t then x else if(cN (dm (bR x f))).2=0 then(x.1,(ka x f).2.set t.toNat (kb (dm (bR (ka x f) t)) (cN (dm (bR x f))).1).2)else ka x f)else x
def jC (x:CS) (av:Int):List Int:=if bU x av then bR x av else[]
theorem Q4 (l:List Int) (n:Int):kb (dm l) n=dm (kb (dm l) n).2:=by unfold kb;split<;>rfl
section
variable {w:World} {F:Fp} {b:Nat} {x:CS}
theorem dY.slot (h:dY b w F x):∃b2 F1,df b2 w F1 x.1/\(∃p c,aL w b (FL b2 p x.2.length c) 213)/\∀w' a,ai (df b2) w w' F1 a->ai (dY b) w w' F (a,x.2):=by
 obtain⟨b2,h⟩:=h;obtain⟨F2,d,_⟩:=h.right;obtain⟨F1,e,k⟩:=h.left;obtain⟨p,c,hB⟩:=d.ax;rw[bO]at hB;refine⟨b2,F1,e,⟨p,c,hB⟩,λw' a f=>?_⟩;obtain⟨g,i,j⟩:=k _ _ f;exact⟨g,⟨b2,i⟩,j⟩
theorem dY.q (h:dY b w F x) {i:Nat} (hi:i<x.2.length):∃b2 a c bi F1,aL w b (FL b2 (aa a) x.2.length c) 213/\w.cell? (a.add (i*1))=aa (pt bi)/\eb bi w F1 (dm x.2[i])/\
  ∀w' l',ai (eb bi) w w' F1 (dm l')->ai (dY b) w w' F (x.1,x.2.set i l'):=by
 obtain⟨b2,h⟩:=h;obtain⟨F2,e,k⟩:=h.right;obtain⟨a,c,bi,F1,hB,f,d,g⟩:=e.at (i:=i) (by simpa using hi);simp only[bO]at hB;simp only[qI]at d;refine⟨b2,a,c,bi,F1,hB,f,d,λw' l' j=>?_⟩;obtain⟨l,m,n⟩:=k _ _ (g _ _ j);refine⟨l,⟨b2,?_⟩,n⟩;simp only[eY];exact m
theorem zi (h:dY b w F x) {p:Option Addr} {l:List Int} {c:Nat} (n:Cells w p (l.map (ay .i64))) (t:l.length<=100) :
  Cx 188 #[pt b,.slice p l.length c] w λe w'=>e=Z (I (if ∀v∈l,bU x v then 0 else 3))/\w'=w:=by
 refine af1 ?_;obtain⟨b2,F1,_,⟨p1,c1,hB⟩,_⟩:=h.slot;refine⟨λg=>by simp at g,λ_=>?_⟩;refine⟨bJ bA (M:=A4) (σ:=Nat) (λj=>Gl (aa ⟨b,0,ag⟩) p l.length c (l.length:Int) (j:Int)) (λj w'=>j<=l.length/\(∀v∈l.take j,bU x v)/\w'=w) (λj _=>l.length-j) 0 ⟨rfl,rfl,rfl,rfl,trivial⟩ ⟨by omega,by simp,rfl⟩ ?_⟩;rintro j w1 ⟨u,i,rfl⟩;rw[acQ];refine⟨λg=>?_,λg=>?_⟩
 ·have k:j<l.length:=by simp at g;omega
  obtain⟨a,o,q⟩:=n.ck k;have f:¬bU x l[j]->¬∀v∈l,bU x v:=λr s=>r (s _ (cx k));refine⟨⟨by omega,by omega⟩,a,o,_,q,λg1=>⟨_,rfl,_,_,_,hB.cell rfl,λm=>⟨?_,rfl⟩,λm=>?_⟩,λg1=>⟨?_,rfl⟩⟩
  ·rw[af (f (by unfold bU;simp at g1 m;omega))]
  ·refine⟨j+1,⟨rfl,rfl,rfl,by rw[aN (by omega)];rfl,trivial⟩,⟨by omega,?_,rfl⟩,by omega⟩;rw[ey k];intro v d;rw[dS]at d;rcases d with d|d
   ·exact i v d
   ·simp at d;subst d;unfold bU;simp at g1 m;omega
  ·rw[af (f (by unfold bU;simp at g1;omega))]
 ·have:j=l.length:=by simp at g;omega
  subst this;rw[dA]at i;exact⟨by rw[ar i],rfl⟩
theorem ze {w w1:World} {v:Int} {T:TypeId} (a:dr w w1 (.cells (dB [ay .i64 v]) T (0,0))):Cells w1 (aa ⟨w.heap.size,0,ag⟩) (([v]:List Int).map (ay .i64)):=(Sl.new (T:=T) (n:=1) (sz:=1) a (by simp) (by decide)).cells
theorem Vb {w w1:World} {u v:Int} {T:TypeId} (a:dr w w1 (.cells (dB [ay .i64 u,ay .i64 v]) T (0,0))):Cells w1 (aa ⟨w.heap.size,0,ag⟩) (([u,v]:List Int).map (ay .i64)):=(Sl.new (T:=T) (n:=2) (sz:=1) a (by simp) (by decide)).cells
theorem DF {x:CS} {av:Int}:(if ∀v∈([av]:List Int),bU x v then(0:Int)else 3)=if bU x av then 0 else 3:=by simp
theorem aeE {x:CS} {f t:Int}:(if ∀v∈([f,t]:List Int),bU x v then(0:Int)else 3)=if bU x f/\bU x t then 0 else 3:=by simp
theorem VC (h:dY b w F x) (d:Tab w) (av:Int):Cx 154 #[pt b,I av] w λe w'=>e=Z (.tuple #[I (tY x av).1,I (tY x av).2])/\ai (dY b) w w' F (kg x av):=by
 refine afA ?_;refine⟨λw1 t=>?_⟩;have f:=t.ak no;have j:dY b w1 F x:=(Frame.ca b).ak h f (λ_ _ h=>h);refine⟨(zi j (ze t) (by simp)).mono ?_⟩;rw[DF];rintro e D ⟨rfl,rfl⟩;refine⟨_,rfl,λg=>?_,λg=>?_⟩
 ·have l:¬bU x av:=λh=>by rw[ar h]at g;simp at g
  rw[tY,kg,af l,af l,af l];exact⟨rfl,F,j,f.nn,λ_ h=>.inl h⟩
 ·have m:bU x av:=eu λh=>by rw[af h]at g;simp at g
  rw[tY,kg,ar m,ar m];obtain⟨i,hi,rfl⟩:=pO m;rw[qg hi];obtain⟨b2,F1,hs,⟨p,c,hB⟩,z⟩:=j.slot;refine⟨_,rfl,_,by rw[yI];exact hB.cell rfl,⟨(Ea (d.no f) hs).mono ?_⟩⟩;rintro e A ⟨rfl,B⟩;obtain⟨F3,n,u,y⟩:=z _ _ B;have o:ai (dY b) w A F (iC x.1,x.2):=ai.next j f.nn (λ_ h=>.inl h) ⟨F3,n,u,y⟩;refine⟨_,_,rfl,λg1=>?_,λg1=>?_⟩
  ·rw[af (by simpa using g1),af (by simpa using g1)];exact⟨rfl,o⟩
  ·rw[ar (by simpa using g1),ar (by simpa using g1)];obtain⟨b2,a,c,bi,F4,hB,r,C,s⟩:=n.q (i:=i) hi;refine⟨_,rfl,_,_,_,hB.cell rfl,⟨by omega,by show(i:Int)<(x.2.length:Int);omega⟩,a,rfl,_,r,⟨(xG C _).mono ?_⟩⟩;rintro e E ⟨rfl,k⟩;rw[Q4]at k;have:=s _ _ k;exact⟨_,rfl,rfl,ai.next j f.nn (λ_ h=>.inl h) (ai.next (s1:=(iC x.1,x.2)) n u y this)⟩
theorem VD (h:dY b w F x) (av:Int):Cx 219 #[pt b,I av] w λe w'=>e=Z (.tuple #[I (vv x av).1,I (vv x av).2])/\ai (dY b) w w' F (oS x av):=by
 refine agw ?_;refine⟨λw1 s=>?_⟩;have f:=s.ak no;have d:dY b w1 F x:=(Frame.ca b).ak h f (λ_ _ h=>h);refine⟨(zi d (ze s) (by simp)).mono ?_⟩;rw[DF];rintro e C ⟨rfl,rfl⟩;refine⟨_,rfl,λg=>?_,λg=>?_⟩
 ·have j:¬bU x av:=λh=>by rw[ar h]at g;simp at g
  rw[vv,oS,af j,af j,af j];exact⟨rfl,F,d,f.nn,λ_ h=>.inl h⟩
 ·have k:bU x av:=eu λh=>by rw[af h]at g;simp at g
  rw[vv,oS,ar k,ar k];obtain⟨i,hi,rfl⟩:=pO k;rw[qg hi];obtain⟨b2,a,c,bi,F4,hB,l,y,m⟩:=d.q (i:=i) hi;refine⟨_,rfl,_,_,_,hB.cell rfl,⟨by omega,by omega⟩,a,rfl,_,l,⟨(DU y).mono ?_⟩⟩;rintro e z ⟨rfl,A⟩;obtain⟨F3,n,t,u⟩:=m _ _ A;have o:ai (dY b) w z F (x.1,x.2.set i x.2[i].tail):=ai.next d f.nn (λ_ h=>.inl h) ⟨F3,n,t,u⟩;refine⟨_,_,rfl,λg1=>?_,λg1=>?_⟩
  ·rw[af (by simpa using g1),af (by simpa using g1)];exact⟨rfl,o⟩
  ·rw[ar (by simpa using g1),ar (by simpa using g1)];obtain⟨b2,F1,hs,⟨p,c,hB⟩,B⟩:=n.slot;refine⟨_,rfl,_,by rw[yI];exact hB.cell rfl,⟨(D8 hs _).mono ?_⟩⟩;rintro e D ⟨rfl,r⟩;have:=B _ _ r;exact⟨_,rfl,rfl,ai.next d f.nn (λ_ h=>.inl h) (ai.next (s1:=(x.1,x.2.set i x.2[i].tail)) n t u this)⟩
theorem Vl (h:dY b w F x) (f t:Int):Cx 359 #[pt b,I f,I t] w λe w'=>e=Z (.tuple #[I (pX x f t).1,I (pX x f t).2])/\ai (dY b) w w' F (lQ x f t):=by
 refine aiy ?_;refine⟨λw1 A=>?_⟩;have n:=A.ak no;have m:dY b w1 F x:=(Frame.ca b).ak h n (λ_ _ h=>h);refine⟨(zi m (Vb A) (by simp)).mono ?_⟩;rw[aeE];rintro e H ⟨rfl,rfl⟩;refine⟨_,rfl,λg=>?_,λg=>⟨λg0=>?_,λg0=>?_⟩⟩
 ·have s:¬(bU x f/\bU x t):=λh=>by rw[ar h]at g;simp at g
  rw[pX,lQ,af s,af s,af s];exact⟨rfl,F,m,n.nn,λ_ h=>.inl h⟩
 ·have d:bU x f/\bU x t:=eu λh=>by rw[af h]at g;simp at g
  rw[pX,lQ,ar d,ar d,ar (eq_of_beq g0),ar (eq_of_beq g0)];exact⟨rfl,F,m,n.nn,λ_ h=>.inl h⟩
 ·have d:bU x f/\bU x t:=eu λh=>by rw[af h]at g;simp at g
  have o:¬f=t:=by simpa using g0
  rw[pX,lQ,ar d,ar d,af o,af o];obtain⟨i,hi,rfl⟩:=pO d.1;obtain⟨k,D,rfl⟩:=pO d.2;unfold ka;rw[qg hi];obtain⟨b2,a,c,bi,F4,hB,j,u,l⟩:=m.q (i:=i) hi;refine⟨_,rfl,_,_,_,hB.cell rfl,⟨by omega,by omega⟩,a,rfl,_,j,⟨(DU u).mono ?_⟩⟩;rintro e E ⟨rfl,G⟩;obtain⟨F3,y,B,C⟩:=l _ _ G;have z:ai (dY b) w E F (x.1,x.2.set i x.2[i].tail):=ai.next m n.nn (λ_ h=>.inl h) ⟨F3,y,B,C⟩;refine⟨_,_,rfl,λg1=>?_,λg1=>?_⟩
  ·rw[af (by simpa using g1),af (by simpa using g1)];exact⟨rfl,z⟩
  ·rw[ar (by simpa using g1),ar (by simpa using g1)];have p:k<(x.2.set i x.2[i].tail).length:=by simpa using D
   obtain⟨b2,a,c,bi,F4,hB,j,u,l⟩:=y.q (i:=k) p;refine⟨_,rfl,_,_,_,hB.cell rfl,⟨by omega,by simp only[bZ];omega⟩,a,rfl,_,j,⟨(xG u _).mono ?_⟩⟩;rintro e J ⟨rfl,r⟩;rw[Q4]at r;have:=l _ _ r;have er:bR (x.1,x.2.set (aG (i:Int)) x.2[i].tail) (k:Int)=(x.2.set i x.2[i].tail)[k]:=qg (x:=(x.1,x.2.set i x.2[i].tail)) p;rw[er];exact⟨_,rfl,rfl,ai.next m n.nn (λ_ h=>.inl h) (ai.next (s1:=(x.1,x.2.set i x.2[i].tail)) y B C this)⟩
theorem Vi (h:dY b w F x) (av:Int):Cx 95 #[pt b,I av] w λe w'=>∃p c,e=Z (.slice p (jC x av).length c)/\Cells w' p ((jC x av).map (ay .i64))/\au no w w':=by
 refine Sh ?_;refine⟨λw1 k=>?_⟩;have d:=k.ak no;have l:dY b w1 F x:=(Frame.ca b).ak h d (λ_ _ h=>h);refine⟨(zi l (ze k) (by simp)).mono ?_⟩;rw[DF];rintro e t ⟨rfl,rfl⟩;refine⟨_,rfl,λg=>?_,λg=>?_⟩
 ·have n:¬bU x av:=λh=>by rw[ar h]at g;simp at g
  rw[jC,af n];exact⟨ag,0,rfl,Cells.nil _ _,d⟩
 ·have m:bU x av:=eu λh=>by rw[af h]at g;simp at g
  rw[jC,ar m];obtain⟨i,hi,rfl⟩:=pO m;rw[qg hi];obtain⟨b2,a,c,bi,F4,hB,f,o,r⟩:=l.q (i:=i) hi;refine⟨_,rfl,_,_,_,hB.cell rfl,⟨by omega,by omega⟩,a,rfl,_,f,⟨(Is o).mono ?_⟩⟩;rintro e u ⟨p,c,rfl,s,j⟩;exact⟨_,_,_,rfl,_,_,rfl,s,d.and j⟩
theorem Vj (h:dY b w F x) (av:Int):Cx 204 #[pt b,I av] w λe w'=>e=Z (I ((jC x av).length:Int))/\au no w w':=by
 refine agh ?_;refine⟨(Vi h av).mono ?_⟩;rintro e w1 ⟨p,c,rfl,_,a⟩;exact⟨_,_,_,rfl,rfl,a⟩
def DB (n:Int):Prop:=1<=n/\n<=64
def j7 (n:Int):CS:=(aD 32 ae,aD n.toNat [])
theorem Vo (n:Int) (w:World):Cx 46 #[I n] w λe w'=>
  (¬DB n/\e=Z (.tuple #[.pointer ag,I 2])/\w'=w)∨
  (DB n/\∃b F,e=Z (.tuple #[pt b,I 0])/\dY b w' F (j7 n)/\au no w w'/\∀i,F i->w.heap.size<=i):=by
 refine u46 ?_;refine⟨λg1=>⟨λf=>.inl ⟨?_,rfl,rfl⟩,λf=>?_⟩,λg1=>.inl ⟨?_,rfl,rfl⟩⟩
 ·unfold DB;simp at f;omega
 ·have g1:¬n<1:=by simpa using g1
  have f:¬64<n:=by simpa using f
  obtain⟨k,rfl⟩:∃k:Nat,n=k:=⟨n.toNat,by omega⟩;refine⟨(D9 32 w).mono ?_⟩;rintro e w1 o;obtain⟨_,b2,F1,rfl,l,m,u⟩:=o.resolve_left (λh=>absurd (by omega) h.1);have a:bY w w1 (df b2) (aD 32 ae):=bY.new (au.refl _ _) m l u;clear m l u;refine⟨_,_,rfl,λg=>by simp at g,λ_=>⟨λy d=>?_⟩⟩;replace a:bY w y (aF (df b2) (EO w1.heap.size b2)) (aD 32 ae,[]):=a.add (d.ak no) (Tq.nil d rfl) (λi hi=>bG hi.symm);generalize w1.heap.size=b at a⊢;refine⟨bJ bA (M:=Bq) (σ:=Nat) (λj=>GQ (aa ⟨b,0,ag⟩) (k:Int) (j:Int)) (λj w'=>j<=k/\bY w w' (aF (df b2) (EO b b2)) (aD 32 ae,aD j (dm []))) (λj _=>k-j) 0 ⟨rfl,rfl,rfl,trivial⟩ ⟨by omega,a⟩ ?_⟩;clear a d;rintro j z ⟨L,a⟩;rw[adE];refine⟨λg=>?_,λg=>?_⟩
  ·have N:j<k:=by simp at g;omega
   refine⟨(Dx 32 z).mono ?_⟩;rintro e O o;obtain⟨_,bq,G,rfl,l,m,A⟩:=o.resolve_left (λh=>absurd (by omega) h.1);obtain⟨F2,hA,B⟩:=a.right;obtain⟨p,c,hB,q⟩:=Tq.push V0 (k:=1) (λ_ _ _ _ _ _=>rfl) (λ_ _ _=>b7 _) hA (by simp;omega) m l A;refine⟨_,_,rfl,λg=>by simp at g,λ_=>⟨_,rfl,_,_,_,hB.cell rfl,⟨λC d=>?_⟩⟩⟩;obtain⟨p',c',D,E,H⟩:=q C d 205;refine⟨_,_,_,D,E,_,rfl,H _ λP J=>?_⟩;have K:=B _ _ J;refine⟨j+1,⟨rfl,rfl,by rw[aN (by omega)];rfl,trivial⟩,⟨by omega,?_⟩,by omega⟩;rw[rX (n:=j)];exact K
  ·have:j=k:=by simp at g;omega
   subst this;obtain⟨F,r,s,t⟩:=a;refine .inr ⟨⟨by omega,by omega⟩,b,F,rfl,⟨b2,?_⟩,s,t⟩;simp only[j7,List.map_replicate,bK];exact r
 ·unfold DB;simp at g1;omega
end
def yo (x:Nat):Nat:=((b8 8).find? (λk=>x.testBit k)).getD 8
def QH (x:Nat):Nat:=((b8 8).filter (λk=>x.testBit k)).length
theorem aeG (x:Nat):yo x<=8:=by
 unfold yo
 cases h:(b8 8).find? (λk=>x.testBit k)with
 | none=>simp
 | some k=>have:=qK h;simp at this;simp;omega
theorem aeH {x:Nat} (a:x<256) (w:World):Cx 379 #[.int .u8 x] w λe w'=>e=Z (I (yo x))/\w'=w:=by
 refine aiP ?_;have c:=aeG x;exact⟨⟨by omega,by omega⟩,(yo x:Int),TY yo (by decide +kernel) a,by rw[aN (by omega)],rfl⟩
def z8 (x:Nat):Nat:=yo (255-x)
def zh (x k:Nat):Nat:=x&&& (255-2 ^ k)
def zE (x k:Nat):Nat:=x||| 2 ^ k
def uD (x:Nat):List Bool:=(b8 8).map x.testBit
theorem Ad:∀x:Nat,x<256->∀k:Nat,k<8->aH .or .u8 (x:Int) (fg .u8 1 (k:Int))=(zE x k:Int)/\aH .andNot .u8 (x:Int) (fg .u8 1 (k:Int))=(zh x k:Int)/\
  (aH .and .u8 (x:Int) (fg .u8 1 (k:Int)) !=0)=x.testBit k/\zE x k<256/\zh x k<256/\uD (zE x k)=(uD x).set k ah/\uD (zh x k)=(uD x).set k ae:=by decide +kernel
theorem ab3:∀k:Nat,k<8->(fg .u8 1 (k:Int) !=0)=ah:=by decide +kernel
theorem QM:∀x:Nat,x<256->aH .xor .u8 (oa .u8) (x:Int)=((255-x:Nat):Int)/\(QH x=0↔x=0)/\(QH x=8↔x=255)/\(x≠255->z8 x<8/\x.testBit (z8 x)=ae/\∀k:Nat,k<z8 x->x.testBit k=ah):=by decide +kernel
structure mb (pg:List Nat):Prop where
 len:1<=pg.length/\pg.length<=12
 lt:∀x∈pg,x<256
theorem mb.at {pg:List Nat} (h:mb pg) {i:Nat} (hi:i<pg.length):pg[i]<256:=h.lt _ (cx hi)
theorem mb.set {pg:List Nat} (h:mb pg) (i:Nat) {x:Nat} (a:x<256):mb (pg.set i x):=
 ⟨by simpa using h.len,λy c=>(il c).elim (h.lt y) (λe=>e ▸ a)⟩
def Ae (x:Nat):Value:=.int .u8 (x:Int)
def rj (pg:List Nat):List Value:=pg.map Ae++(aD (12-pg.length) (Ae 0)++[I (pg.length:Int)])
def fo (b:Nat):Ob (List Nat):=λw F x=>Rw b 298 rj w F x/\mb x
instance Frame.pl (b:Nat):Frame (fo b) where
 ak:=λ⟨h,r⟩ k a=>⟨(Frame.rw ..).ak h k a,r⟩
 lt:=λ⟨h,_⟩=>(Frame.rw ..).lt h
def p1 (x:Nat):Bool:=x !=0&&x !=255
def p2 (x:Nat):Bool:=x==0
def fI (o:Option Nat):Int:=match o with|some i=>(i:Int)|none=>-1
def sS (pg:List Nat):Option Nat:=match pg.findIdx? p1 with|some i=>aa i|none=>pg.findIdx? p2
def gP (pg:List Nat):Int×Int:=match sS pg with|some i=>(((8*i+z8 (pg.getD i 0)+1:Nat):Int),0)|none=>(0,5)
def k9 (pg:List Nat):List Nat:=match sS pg with|some i=>pg.set i (zE (pg.getD i 0) (z8 (pg.getD i 0)))|none=>pg
def kT (pg:List Nat) (id:Int):Prop:=1<=id/\id<=8*(pg.length:Int)
instance (pg:List Nat) (id:Int):Decidable (kT pg id):=by unfold kT;infer_instance
def fx (pg:List Nat) (id:Int):Bool:=if kT pg id then(pg.getD ((id.toNat-1)/8) 0).testBit ((id.toNat-1)%8)else ae
def Hn (pg:List Nat) (id:Int):Int:=if fx pg id then 0 else 4
def nz (pg:List Nat) (id:Int):List Nat:=if fx pg id then pg.set ((id.toNat-1)/8) (zh (pg.getD ((id.toNat-1)/8) 0) ((id.toNat-1)%8))else pg
theorem Nx {p:Nat->Bool} {pg:List Nat} {j:Nat} (a:j<pg.length) (c:∀i (hi:i<pg.length),i<j->p pg[i]=ae) (d:p pg[j]=ah):pg.findIdx? p=aa j:=
 nk.2 ⟨a,d,λi hi=>by simp[c i (by omega) hi]⟩
theorem Nw {p:Nat->Bool} {pg:List Nat} (h:∀i (hi:i<pg.length),p pg[i]=ae):pg.findIdx? p=ag:=
 rT.2 λx a=>by obtain⟨i,hi,rfl⟩:=List.mem_iff_getElem.1 a;exact h i hi
theorem Nv {p:Nat->Bool} {pg:List Nat} {j:Nat} (h:pg.findIdx? p=aa j):∃a:j<pg.length,p pg[j]=ah:=by
 obtain⟨a,c,_⟩:=nk.1 h;exact⟨a,c⟩
theorem RY {pg:List Nat} {j:Nat} (h:sS pg=aa j):∃a:j<pg.length,pg[j]≠255:=by
 unfold sS at h
 cases h1:pg.findIdx? p1 with
 | some i=>
  rw[h1]at h;simp only[Option.some.injEq]at h;subst h;obtain⟨a,c⟩:=Nv h1
  exact⟨a,by simp[p1]at c;exact c.2⟩
 | none=>
  rw[h1]at h;obtain⟨a,c⟩:=Nv h;exact⟨a,by simp[p2]at c;omega⟩
theorem CZ {pg:List Nat} {id:Int} (h:kT pg id):∃i k:Nat,i<pg.length/\k<8/\id=((8*i+k+1:Nat):Int):=by
 unfold kT at h;exact⟨(id.toNat-1)/8,(id.toNat-1)%8,by omega,by omega,by omega⟩
section
variable {pg:List Nat} {i k:Nat} (hi:i<pg.length) (hk:k<8)
include hi hk
theorem XA:kT pg ((8*i+k+1:Nat):Int):=by unfold kT;omega
theorem vl:fx pg ((8*i+k+1:Nat):Int)=pg[i].testBit k:=by
 unfold fx;rw[ar (XA hi hk)];have a:(((8*i+k+1:Nat):Int).toNat-1)/8=i:=by omega
 have c:(((8*i+k+1:Nat):Int).toNat-1)%8=k:=by omega
 rw[a,c];simp[hi]
theorem NM:nz pg ((8*i+k+1:Nat):Int)=if pg[i].testBit k then pg.set i (zh pg[i] k)else pg:=by
 unfold nz;rw[vl hi hk];have a:(((8*i+k+1:Nat):Int).toNat-1)/8=i:=by omega
 have c:(((8*i+k+1:Nat):Int).toNat-1)%8=k:=by omega
 rw[a,c];simp[hi]
end
theorem JQ (b k:Nat):bh (bh ⟨b,0,ag⟩ 0) k=(⟨b,0,ag⟩:Addr).add k:=by rw[add_lit b 0 0]
section
variable {w:World} {F:Fp} {b:Nat} {pg:List Nat}
theorem aal {i:Nat} (hi:i<pg.length):(rj pg)[i]?=aa (Ae pg[i]):=by
 unfold rj;rw[js (by simpa using hi)];simp[hi]
theorem aan {i:Nat} (hi:i<pg.length) (x:Nat):ba (rj pg) i [Ae x]=rj (pg.set i x):=by
 unfold rj;rw[Rz (by simp;omega),tZ hi];simp
theorem aam (h:mb pg):(rj pg)[12]?=aa (I (pg.length:Int)):=by
 have:=h.len;unfold rj;rw[kE (by simp;omega),kE (by simp)];simp
theorem fo.xE (h:fo b w F pg) {i:Nat} (hi:i<pg.length):w.cell? (bh (bh ⟨b,0,ag⟩ 0) (i*1))=aa (.int .u8 (pg[i]:Int)):=by
 rw[JQ,ez];exact h.1.ax.cell (aal hi)
theorem fo.many (h:fo b w F pg):w.cell? ((⟨b,0,ag⟩:Addr).add 12)=aa (I (pg.length:Int)):=h.1.ax.cell (aam h.2)
theorem fo.wr (h:fo b w F pg) {w1:World} (a:au no w w1) {i:Nat} (hi:i<pg.length) {x:Nat} (f:x<256) {K:World->Prop} (g:∀w',ai (fo b) w w' F (pg.set i x)->K w') :
  Wr w1 (bh (bh ⟨b,0,ag⟩ 0) (i*1)) [.int .u8 (x:Int)] K:=by
 rw[JQ,ez];have hB:=h.1.ax.ak a id;refine hB.wr (by simp[rj];omega) λw' c=>g w' ?_;have d:=c.aK;have e:=aan hi x;unfold Ae at e;rw[e]at d;obtain⟨j,t1,t2,l⟩:=h.1.fN ((a.mono λ_ _ h=>h.elim).and c.U) d;exact⟨j,⟨t1,h.2.set i f⟩,t2,l⟩
theorem ZK (n:Int) (w:World):Cx 111 #[I n] w λe w'=>
  (¬(1<=n/\n<=12)/\e=Z (.tuple #[.pointer ag,I 2])/\w'=w)∨
  ((1<=n/\n<=12)/\∃b F,e=Z (.tuple #[pt b,I 0])/\fo b w' F (aD n.toNat 0)/\au no w w'/\∀i,F i->w.heap.size<=i):=by
 refine aeT ?_;refine⟨λa=>⟨λc=>.inl ⟨?_,rfl,rfl⟩,λc=>?_⟩,λa=>.inl ⟨?_,rfl,rfl⟩⟩
 ·simp at c;omega
 ·have a:¬n<1:=by simpa using a
  have c:¬12<n:=by simpa using c
  obtain⟨m,rfl⟩:∃m:Nat,n=m:=⟨n.toNat,by omega⟩;refine⟨λg d=>.inr ⟨by omega,w.heap.size,_,rfl,⟨Rw.new d ?_,⟨by simp;omega,λx f=>?_⟩⟩,d.ak no,λi hi=>bG hi.symm⟩⟩
  ·unfold rj;rw[List.map_replicate,<-iY,bK,fC,List.replicate_append_replicate];rw[show m+(12-m)=12 by omega];rfl
  ·have:=jX f;omega
 ·simp at a;omega
theorem Kh (h:fo b w F pg) {i k:Nat} (hi:i<pg.length) (hk:k<8):Cx 380 #[pt b,I ((8*i+k+1:Nat):Int)] w λe w'=>e=Z (.tuple #[I (i:Int),.int .u8 (fg .u8 1 (k:Int))])/\au no w w':=by
 have n:=h.2.len;refine Sf ?_;refine⟨λ_=>⟨λ_=>⟨_,rfl,_,h.many,λg=>?_,λ_=>?_⟩,λg=>by simp at g;omega⟩,λg=>by simp at g⟩
 ·rw[aN (by omega)]at g;simp at g;omega
 ·intro w1 a c d f;have j:aT .i64 (((8*i+k+1:Nat):Int)-1)=((8*i+k:Nat):Int):=by rw[aN (by omega)];omega
  have l:iH ((8*i+k:Nat):Int) 8=(i:Int):=by rw[wj (by omega)];omega
  have m:eO ((8*i+k:Nat):Int) 8=(k:Int):=by rw[px (by omega)];omega
  rw[j,l,m];refine⟨by omega,by omega,by omega,by rw[aN (by omega)],au.same no a c d f⟩
theorem TO (h:fo b w F pg) {id:Int} (hi:¬kT pg id):Cx 380 #[pt b,I id] w λe w'=>e=Z (.tuple #[I 0,.int .u8 0])/\w'=w:=by
 have c:=h.2.len;refine Sf ?_;unfold kT at hi;refine⟨λ_=>⟨λg=>⟨_,rfl,_,h.many,λ_=>⟨rfl,rfl⟩,λa=>?_⟩,λ_=>⟨rfl,rfl⟩⟩,λg=>by simp at g⟩;rw[aN (by omega)]at a;simp at g a;omega
theorem QS (h:fo b w F pg) (id:Int):Cx 327 #[pt b,I id] w λe w'=>e=Z (.bool (fx pg id))/\au no w w':=by
 refine ah9 ?_;by_cases a:kT pg id
 ·obtain⟨i,k,hi,hk,rfl⟩:=CZ a;refine⟨(Kh h hi hk).mono ?_⟩;rintro e w1 ⟨rfl,c⟩;have d:fo b w1 F pg:=(Frame.pl b).ak h c λ_ _ h=>h;refine⟨_,_,rfl,λ_=>⟨_,rfl,⟨by omega,by have:=h.2.len;omega⟩,_,d.xE hi,?_,c⟩,λg=>?_⟩
  ·rw[vl hi hk,(Ad _ (h.2.at hi) k hk).2.2.1]
  ·rw[ab3 k hk]at g;cases g
 ·refine⟨(TO h a).mono ?_⟩;rintro e w1 ⟨rfl,rfl⟩;exact⟨_,_,rfl,λg=>by simp at g,λ_=>⟨by rw[fx,af a],au.refl _ _⟩⟩
theorem WO (h:fo b w F pg) (id:Int):Cx 330 #[pt b,I id] w λe w'=>e=Z (I (Hn pg id))/\ai (fo b) w w' F (nz pg id):=by
 refine aic ?_;refine⟨λg=>by simp at g,λ_=>⟨(QS h id).mono ?_⟩⟩;rintro e w1 ⟨rfl,c⟩;refine⟨_,rfl,λg=>?_,λg=>?_⟩
 ·have g:¬fx pg id=ah:=by simpa using g
  rw[Hn,nz,af g,af g];exact⟨rfl,ai.quiet h c⟩
 ·have g:fx pg id=ah:=by simpa using g
  have d:kT pg id:=by unfold fx at g;split at g<;>first|assumption|cases g
  obtain⟨i,k,hi,hk,rfl⟩:=CZ d;have j:fo b w1 F pg:=(Frame.pl b).ak h c λ_ _ h=>h;refine⟨(Kh j hi hk).mono ?_⟩;rintro e t ⟨rfl,f⟩;refine⟨_,_,rfl,λl m n p q=>?_⟩;have a:=(c.and f).and (au.same no m n p q);have r:fo b l F pg:=(Frame.pl b).ak h a λ_ _ h=>h;have u:=h.2.len;refine⟨_,rfl,⟨by omega,by omega⟩,_,r.xE hi,_,rfl,⟨by omega,by omega⟩,?_⟩;have o:=Ad _ (h.2.at hi) k hk;rw[o.2.1];refine h.wr a hi o.2.2.2.2.1 λw' s=>?_;rw[Hn,ar g,NM hi hk,ar (by rw[<-vl hi hk];exact g)];exact⟨rfl,s⟩
theorem Wo (h:fo b w F pg):Cx 376 #[pt b,.func (.func 377) #[] #[]] w λe w'=>e=Z (I (fI (pg.findIdx? p1)))/\w'=w:=by
 have r:=h.2.len;refine Jl ?_;refine⟨_,rfl,_,h.many,⟨bJ bA (M:=rL) (σ:=Nat) (λj=>wQ (aa ⟨b,0,ag⟩) (pg.length:Int) (j:Int)) (λj w'=>j<=pg.length/\(∀i (hi:i<pg.length),i<j->p1 pg[i]=ae)/\w'=w) (λj _=>pg.length-j) 0 ⟨rfl,rfl,rfl,rfl,trivial⟩ ⟨by omega,λi _ h=>by omega,rfl⟩ ?_⟩⟩;rintro j w' ⟨s,d,rfl⟩;rw[I3];refine⟨λg=>?_,λg=>⟨?_,rfl⟩⟩
 ·have o:j<pg.length:=by simpa using g
  refine⟨_,rfl,⟨by omega,by omega⟩,_,h.xE o,⟨aiN ?_⟩⟩;rw[t377]
  have fin:∃f,cj (.bool (p1 pg[j]))=cj (.bool f)/\(f=ah->cj (ay .i64 (j:Int))=cj (I (fI (pg.findIdx? p1)))/\w'=w')/\(f=ae->∃c,rH [(0,SV.v (bo (aa ⟨b,0,ag⟩))),(1,SV.v (Value.func (aS 377) #[] #[])),(9,SV.v (ay aY (pg.length:Int))),(10,SV.v (ay aY (aT aY ((j:Int)+(1:Int)))))] (wQ (aa ⟨b,0,ag⟩) (pg.length:Int) (c:Nat))/\(c<=pg.length/\(∀i (hi:i<pg.length),i<c->p1 pg[i]=ae)/\w'=w')/\pg.length-c<pg.length-j):=by
   refine⟨_,rfl,λl=>⟨by rw[Nx o d l];rfl,rfl⟩,λl=>⟨j+1,⟨rfl,rfl,rfl,by rw[aN (x:=(j:Int)+1) (by omega)];rfl,trivial⟩,⟨by omega,λi hi p=>?_,rfl⟩,by omega⟩⟩;by_cases a:i=j
   ·subst a;exact l
   ·exact d i hi (by omega)
  have q:((((pg[j]:Nat):Int) !=0)=ah)=((pg[j] !=0)=ah):=by simp
  have m:((((pg[j]:Nat):Int) !=0)=ae)=((pg[j] !=0)=ae):=by simp
  rw[q,m];refine⟨λn=>?_,λn=>?_⟩
  ·have e:(((pg[j]:Nat):Int) !=255)=p1 pg[j]:=by
    unfold p1;rw[n];simp only[fc];rw[gB];simp;omega
   rw[e];exact fin
  ·have e:p1 pg[j]=ae:=by unfold p1;rw[n];rfl
   rw[e]at fin;exact fin
 ·have:j=pg.length:=by simp at g;omega
  subst this;rw[Nw λi hi=>d i hi hi];rfl
theorem Wp (h:fo b w F pg):Cx 376 #[pt b,.func (.func 378) #[] #[]] w λe w'=>e=Z (I (fI (pg.findIdx? p2)))/\w'=w:=by
 have m:=h.2.len;refine ku.Jl ?_;refine⟨_,rfl,_,h.many,⟨bJ bA (M:=ku.rL) (σ:=Nat) (λj=>ku.wQ (aa ⟨b,0,ag⟩) (pg.length:Int) (j:Int)) (λj w'=>j<=pg.length/\(∀i (hi:i<pg.length),i<j->p2 pg[i]=ae)/\w'=w) (λj _=>pg.length-j) 0 ⟨rfl,rfl,rfl,rfl,trivial⟩ ⟨by omega,λi _ h=>by omega,rfl⟩ ?_⟩⟩;rintro j w' ⟨n,c,rfl⟩;rw[ku.I3];refine⟨λg=>?_,λg=>⟨?_,rfl⟩⟩
 ·have f:j<pg.length:=by simpa using g
  refine⟨_,rfl,⟨by omega,by omega⟩,_,h.xE f,⟨aiO ?_⟩⟩;rw[t378];have e:(((pg[j]:Nat):Int)==0)=p2 pg[j]:=by unfold p2;rw[gB];simp
  rw[e];refine⟨_,rfl,λd=>⟨by rw[Nx f c d];rfl,rfl⟩,λd=>⟨j+1,⟨rfl,rfl,rfl,by rw[aN (x:=(j:Int)+1) (by omega)];rfl,trivial⟩,⟨by omega,λi hi l=>?_,rfl⟩,by omega⟩⟩;by_cases a:i=j
  ·subst a;exact d
  ·exact c i hi (by omega)
 ·have:j=pg.length:=by simp at g;omega
  subst this;rw[Nw λi hi=>c i hi hi];rfl
theorem ad3 (h:fo b w F pg):aP Tryz.prog yF BX (Cz (aa ⟨b,0,ag⟩) (fI (sS pg))) w (Da λe w'=>e=Z (.tuple #[I (gP pg).1,I (gP pg).2])/\ai (fo b) w w' F (k9 pg)):=by
 refine aP.mk ?_;rw[adj];have y:=h.2.len;unfold gP k9
 cases l:sS pg with
 | none=>
  simp only[fI]
  exact⟨λ_=>⟨by trivial,ai.same h⟩,λg=>by simp at g⟩
 | some i=>
  obtain⟨hi,a⟩:=RY l;have d:=h.2.at hi;obtain⟨m,z,A,c⟩:=QM _ d;have c:=c a;have o:=Ad _ d _ c.1;have n:pg.getD i 0=pg[i]:=by simp[hi]
  simp only[fI,n];refine⟨λg=>absurd (aO g) (by omega),λ_=>⟨_,rfl,⟨by omega,by omega⟩,_,h.xE hi,?_⟩⟩;rw[m];refine⟨(aeH (by omega) w).mono ?_⟩;rintro e w1 ⟨rfl,rfl⟩;refine⟨_,rfl,λf p q r s=>?_⟩;have j:=au.same no p q r s;have t:fo b f F pg:=(Frame.pl b).ak h j λ_ _ h=>h;refine⟨_,rfl,⟨by omega,by omega⟩,_,t.xE hi,by omega,_,rfl,⟨by omega,by omega⟩,?_⟩;show Wr f _ [.int .u8 (aH .or .u8 (pg[i]:Int) (fg .u8 1 (z8 pg[i]:Int)))] _;rw[o.1];refine h.wr j hi o.2.2.2.1 λw' u=>⟨?_,u⟩;show cj (.tuple #[I (aT .i64 (aT .i64 (aT .i64 ((i:Int)*8)+(z8 pg[i]:Int))+1)),I 0])=_;rw[aN (x:=(i:Int)*8) (by omega),aN (x:=(i:Int)*8+(z8 pg[i]:Int)) (by omega),aN (by omega)];have:(i:Int)*8+(z8 pg[i]:Int)+1=((8*i+z8 pg[i]+1:Nat):Int):=by omega
  rw[this]
theorem aeb (h:fo b w F pg):Cx 326 #[pt b] w λe w'=>e=Z (.tuple #[I (gP pg).1,I (gP pg).2])/\ai (fo b) w w' F (k9 pg):=by
 refine ah8 ?_;refine⟨λg=>by simp at g,λ_=>⟨(Wo h).mono ?_⟩⟩;rintro e w1 ⟨rfl,rfl⟩;have a:=ad3 h;unfold sS at a
 cases c:pg.findIdx? p1 with
 | some i=>
  rw[c]at a
  exact⟨_,rfl,λg=>absurd (aO g) (by simp only[fI];omega),λ_=>a⟩
 | none=>
  rw[c]at a;refine⟨_,rfl,λ_=>⟨(Wp h).mono ?_⟩,λg=>by simp[fI]at g⟩;rintro e w1 ⟨rfl,rfl⟩;exact⟨_,rfl,a⟩
end
abbrev KS:=List Nat×List (List Int)
def ma (PO:Nat->Ob (List Nat)) (T E I:TypeId) (enc:Nat->Nat->Option Addr->Nat->Nat->List Value) (b:Nat):Ob KS:=λw F x=>(∃b2,aF (PO b2) (Tb b T E I (enc b2 x.1.length)) w F x)/\∀l∈x.2,l.length<=4
section
variable {PO:Nat->Ob (List Nat)} [fp:∀b,Frame (PO b)] {T E I:TypeId} {enc:Nat->Nat->Option Addr->Nat->Nat->List Value} {b:Nat} {w w':World} {F:Fp} {x:KS}
instance Frame.kp:Frame (ma PO T E I enc b) where
 ak:=λ⟨⟨b2,h⟩,r⟩ k a=>⟨⟨b2,Frame.star.ak h k a⟩,r⟩
 lt:=λ⟨⟨b2,h⟩,_⟩=>Frame.star.lt h
theorem ma.ptr (h:ma PO T E I enc b w F x):∃b2 F1,PO b2 w F1 x.1/\(∃p c,aL w b (enc b2 x.1.length p x.2.length c) T)/\∀w' a,a.length=x.1.length->ai (PO b2) w w' F1 a->ai (ma PO T E I enc b) w w' F (a,x.2):=by
 obtain⟨⟨b2,h⟩,r⟩:=h;obtain⟨F2,d,_⟩:=h.right;obtain⟨F1,e,k⟩:=h.left;refine⟨b2,F1,e,d.ax,λw' a f g=>?_⟩;obtain⟨i,j,l,m⟩:=k _ _ g;exact⟨i,⟨⟨b2,by rw[f];exact j⟩,r⟩,l,m⟩
def ET (w:World) (p:Option Addr) (L:List (List Int)):Prop:=∀i (hi:i<L.length),∃a q d,p=aa a/\w.cell? (a.add (i*1))=aa (.slice q L[i].length d)/\Cells w q (L[i].map (ay .i64))/\L[i].length<=4
theorem ma.rows (h:ma PO T E I enc b w F x):∃b2 F1,PO b2 w F1 x.1/\x.2.length<=maxLen/\∃p c,aL w b (enc b2 x.1.length p x.2.length c) T/\ET w p x.2:=by
 obtain⟨⟨b2,h⟩,r⟩:=h;obtain⟨F1,G,j,⟨⟨p,c⟩,g,m,k⟩,s,t⟩:=h;obtain⟨H1,H2,e,k2,u,y⟩:=m;simp only at j e k2 k r⊢;obtain⟨x1,x2⟩:=x;simp only at j e k2 k r⊢;subst k;refine⟨b2,F1,j,?_,p,c,by rw[vr];exact e.ax,λi hi=>?_⟩
 ·have:=e.sl;rw[vr];exact aX this.2.1 this.2.2.1
 ·have d:i<g.length:=by simpa [rws]using hi
  obtain⟨a,n,o⟩:=e.sl.cells.ck (f:=gG) (l:=g) d;obtain⟨F2,q,_⟩:=Fam.at k2 d;refine⟨a,g[i].1,g[i].2.1,n,?_,?_,r _ (cx hi)⟩
  ·rw[o,Aw _ d];rfl
  ·rw[Aw _ d];exact q.cells
theorem ma.row (h:ma PO T E I enc b w F x) {i:Nat} (hi:i<x.2.length):∃b2 F1 G a c0 p c,PO b2 w F1 x.1/\uw b T E I (enc b2 x.1.length) w G x.2 i a c0 p c/\(∀j,G j->¬F1 j)/\
  (∀w' d,d.length=x.1.length->ai (PO b2) w w' F1 d->ai (ma PO T E I enc b) w w' F (d,x.2))/\
  ∀w' s,(∀l∈s,l.length<=4)->ai (Tb b T E I (enc b2 x.1.length)) w w' G s->ai (ma PO T E I enc b) w w' F (x.1,s):=by
 obtain⟨⟨b2,h⟩,r⟩:=h;obtain⟨F1,G,t,u,f,g⟩:=id h;obtain⟨a,c0,p,c,k⟩:=u.raw hi;refine⟨b2,F1,G,a,c0,p,c,t,k,λj A e=>g j e A,λw' d B y=>?_,λw' s C y=>?_⟩
 ·have m:Frame (Tb b T E I (enc b2 x.1.length)):=inferInstance;obtain⟨n,z,o,q⟩:=y;refine⟨λi=>n i∨G i,⟨⟨b2,n,G,z,?_,λ_=>bB,λi hi e=>?_⟩,r⟩,o.mono (λi _ hi=>(f i).2 (.inl hi)),λi hi=>?_⟩
  ·simp only[B];exact m.ak u o (λi hi e=>g i e hi)
  ·rcases q i hi with h|h
   ·exact g i h e
   ·have:=m.lt u i e;omega
  ·rcases hi with hi|hi
   ·exact(q i hi).imp (λh=>(f i).2 (.inl h)) id
   ·exact .inl ((f i).2 (.inr hi))
 ·obtain⟨n,z,o,q⟩:=y;refine⟨λi=>F1 i∨n i,⟨⟨b2,F1,n,(fp b2).ak t o g,z,λ_=>bB,λi hi e=>?_⟩,C⟩,?_,λi hi=>?_⟩
  ·rcases q i e with h|h
   ·exact g i hi h
   ·have:=(fp b2).lt t i hi;omega
  ·exact o.mono (λi _ hi=>(f i).2 (.inr hi))
  ·rcases hi with hi|hi
   ·exact .inl ((f i).2 (.inl hi))
   ·exact(q i hi).imp (λh=>(f i).2 (.inr h)) id
omit fp in
theorem ma.new [fp:∀b,Frame (PO b)] {w w1 f k:World} {e:Nat} {F1:Fp} {pg:List Nat} {p:Option Addr} {n c:Nat} {cs:List Value} (o:PO e w1 F1 pg) (r:∀i,F1 i->w.heap.size<=i) (d:au no w w1) (a:au no w1 f)
  (s:Sl f E 1 p n c (aD n (ft ag 0 0))) (m:∀i,bg p i->w1.heap.size<=i) (q:dr f k (.cells cs.toArray T (0,0))) (t:enc e pg.length p n c=cs) :
  ∃F,ma PO T E I enc f.heap.size k F (pg,aD n [])/\au no w k/\∀i,F i->w.heap.size<=i:=by
 have u:=Tb.new (E:=E) (I:=I) (enc:=enc e pg.length) a s m q t;have g:=q.ak no;have j:=(fp e).lt o;refine⟨λi=>F1 i∨(i=f.heap.size∨bg p i),⟨⟨e,F1,_,(fp e).ak o (a.and g) (λ_ _ h=>h),u,λ_=>bB,?_⟩,?_⟩,d.and (a.and g),?_⟩
 ·rintro i hi (rfl|y)
  ·have:=j _ hi;have:=a.size;omega
  ·have:=j _ hi;have:=m _ y;omega
 ·intro l z;have:=jX z;subst this;simp
 ·rintro i (hi|rfl|hi)
  ·exact r i hi
  ·exact aX d.size a.size
  ·exact aX d.size (m i hi)
end
theorem ai.oK {σ:Type} {A:Ob σ} {w w1 a:World} {F F1:Fp} {s1 c:σ} (h:A w1 F1 s1) (d:au F w w1) (e:∀i,F1 i->F i∨w.heap.size<=i) (k:ai A w1 a F1 c):ai A w a F c:=by
 obtain⟨F2,f,k2,g⟩:=k;refine⟨F2,f,d.trans k2 (λi hi j=>(e i j).elim id (λh=>absurd h (by omega))),λi hi=>?_⟩;rcases g i hi with h|h
 ·exact e i h
 ·exact .inr (aX d.size h)
theorem ad7 (pg:List Nat):(k9 pg).length=pg.length:=by unfold k9;split<;>simp
theorem WN (pg:List Nat) (v:Int):(nz pg v).length=pg.length:=by unfold nz;split<;>simp
def gives (pg:List Nat) (l:List Int):List Nat:=l.foldl nz pg
theorem WT (pg:List Nat) (l:List Int):(gives pg l).length=pg.length:=by
 induction l generalizing pg with
 | nil=>rfl
 | cons v l a=>exact(a (nz pg v)).trans (WN pg v)
theorem WV (pg:List Nat) {l:List Int} {k:Nat} (h:k<l.length):gives pg (l.take (k+1))=nz (gives pg (l.take k)) l[k]:=by
 rw[ey h,gives,lx];rfl
def fM (x:KS) (av:Int):Prop:=0<=av/\av<x.2.length
instance (x:KS) (av:Int):Decidable (fM x av):=by unfold fM;infer_instance
def su (L:List (List Int)) (v:Int):Bool:=L.any (λl=>decide (v∈l))
def kQ (x:KS) (v:Int):Bool:=fx x.1 v&&!su x.2 v
def ji (s:List Nat×List Int):List Nat×List Int:=if(gP s.1).2=0 then(k9 s.1,s.2++[(gP s.1).1])else(k9 s.1,s.2)
def mC (s:List Nat×List Int):List Nat×List Int:=if s.2=[]then ji (ji s)else s
def Dh (l:List Int):Int×Int:=match l.getLast? with|some v=>(v,0)|none=>(0,5)
def jJ (x:KS) (av:Int):List Int:=x.2.getD av.toNat []
def wo (x:KS) (av:Int):Int×Int:=if fM x av then Dh (mC (x.1,jJ x av)).2 else(0,3)
def qL (x:KS) (av:Int):KS:=if fM x av then((mC (x.1,jJ x av)).1,x.2.set av.toNat (mC (x.1,jJ x av)).2.dropLast)else x
def np (s:List Nat×List Int):List Nat×List Int:=if 4<=s.2.length then(gives s.1 (s.2.take 2),s.2.drop 2)else s
def xZ (x:KS) (av v:Int):Int:=if fM x av then(if kQ x v then 0 else 4)else 3
def ql (x:KS) (av v:Int):KS:=if fM x av/\kQ x v=ah then((np (x.1,jJ x av)).1,x.2.set av.toNat ((np (x.1,jJ x av)).2++[v]))else x
def Ck (x:KS) (av:Int):Int×Int:=if fM x av then((jJ x av).length,0)else(0,3)
def lG (x:KS) (av:Int):KS:=if fM x av then(gives x.1 (jJ x av),x.2.set av.toNat [])else x
theorem tS {x:KS} {i:Nat} (hi:i<x.2.length):jJ x (i:Int)=x.2[i]:=by simp[jJ,hi]
theorem tF {x:KS} {av:Int} (h:fM x av):∃i:Nat,i<x.2.length/\av=(i:Int):=⟨av.toNat,by unfold fM at h;omega,by unfold fM at h;omega⟩
theorem ua {L:List (List Int)} (h:∀l∈L,l.length<=4) (i:Nat) {l':List Int} (a:l'.length<=4):∀l∈L.set i l',l.length<=4:=λl c=>(il c).elim (h l) (λe=>e ▸ a)
def IZ (b2 n:Nat) (p:Option Addr) (m c:Nat):List Value:=[pt b2,I (n:Int),.slice p m c]
abbrev dM (b:Nat):Ob KS:=ma fo 219 36 3 IZ b
section
variable {w:World} {F:Fp} {b:Nat} {x:KS}
theorem Ec (h:dM b w F x) (av:Int):Cx 189 #[pt b,I av] w λe w'=>e=Z (I (if fM x av then 0 else 3))/\w'=w:=by
 refine af2 ?_;obtain⟨b2,F1,_,⟨p,c,hB⟩,_⟩:=h.ptr;refine⟨λg=>by simp at g,λ_=>⟨λg=>⟨_,rfl,_,_,_,hB.cell rfl,λa=>⟨?_,rfl⟩,λa=>⟨?_,rfl⟩⟩,λg=>⟨?_,rfl⟩⟩⟩
 ·rw[af];unfold fM;simp at g a;omega
 ·rw[ar];unfold fM;simp at g a;omega
 ·rw[af];unfold fM;simp at g;omega
theorem Wn (h:dM b w F x) {i:Nat} (hi:i<x.2.length):Cx 256 #[pt b,I (i:Int)] w λe w'=>e=Z (.tuple #[])/\ai (dM b) w w' F ((mC (x.1,x.2[i])).1,x.2.set i (mC (x.1,x.2[i])).2):=by
 refine ag7 ?_;obtain⟨b2,F1,G,a,c0,p,c,q,r,hd,t,u⟩:=h.row hi;obtain⟨F2,hA⟩:=r.open hi;refine⟨_,rfl,_,_,_,hA.kL.cell rfl,⟨by omega,by omega⟩,a,rfl,_,_,_,hA.b9,λg=>⟨rfl,?_⟩,λg=>?_⟩
 ·have y:x.2[i]≠[]:=λe=>by rw[e]at g;simp at g
  rw[mC,af y];simp only[nc];exact ai.same h
 ·have H:x.2[i]=[]:=by simpa using g
  have R:x.2.set i []=x.2:=by rw[<-H,nc]
  clear hA r hd t u q;rw[H,mC,ar rfl]
  refine⟨bJ bA (M:=ER) (σ:=Nat×List Nat×List Int) (λs=>Gt (aa ⟨b,0,ag⟩) (i:Int) (s.1:Int))
   (λs w'=>s.1<=2/\s.2.2.length<=s.1/\(if s.1=0 then s.2=(x.1,[])else if s.1=1 then s.2=ji (x.1,[])else s.2=ji (ji (x.1,[])))/\ai (dM b) w w' F (s.2.1,x.2.set i s.2.2)) (λs _=>2-s.1) (0,x.1,[]) ⟨rfl,rfl,rfl,trivial⟩ ⟨by simp,by simp,by simp,by rw[R];exact ai.same h⟩ ?_⟩
  rintro⟨j,pg,l⟩ w1 ⟨S,U,d,V,n,z,A⟩;simp only at S U d n⊢;rw[ac4];refine⟨λg=>?_,λg=>⟨rfl,?_⟩⟩
  ·have hj:j<2:=by simp at g;omega
   obtain⟨b2,F1,q,⟨p,c,hB⟩,t⟩:=n.ptr;refine⟨_,rfl,_,hB.cell rfl,⟨(aeb q).mono ?_⟩⟩;rintro e w2 ⟨rfl,W⟩;obtain⟨F3,f,J,K⟩:=t _ _ (ad7 _) W
   have L:∀s,s=ji (pg,l)->(if j+1=0 then s=(x.1,[])else if j+1=1 then s=ji (x.1,[])else s=ji (ji (x.1,[]))):=by
    rintro s rfl;have:j=0∨j=1:=by omega
    rcases this with rfl|rfl
    ·simp only[reduceIte]at d;rw[d];simp
    ·simp at d;rw[d];simp
   simp only at f⊢;refine⟨_,_,rfl,λg1=>?_,λg1=>?_⟩
   ·have g1:(gP pg).2=0:=by simpa using g1
    intro B X Y z3 z4;have N:=au.same no X Y z3 z4;replace f:dM b B F3 _:=Frame.kp.ak f N (λ_ _ h=>h);have o:i<(x.2.set i l).length:=by simpa using hi
    obtain⟨al,G1,G,a,c0,p,c,q,r,hd,_,u⟩:=f.row (i:=i) o;obtain⟨F2,hA⟩:=r.open o;refine⟨_,rfl,_,_,_,hA.kL.cell rfl,_,rfl,_,_,_,hA.kL.cell rfl,⟨by omega,by simp only[bZ];omega⟩,a,rfl,_,_,_,hA.b9,⟨λw4 O=>?_⟩⟩;have k:au F2 B w4:=(O.ak no).nn;have am:l.length<=2:=by omega
    have m:(x.2.set i l)[i]=l:=by simp
    obtain⟨p',c',w5,hr,P⟩:=Ls.push ov hA.ls (by rw[m];omega) O 36;have C:=P;obtain⟨_,_,D,_⟩:=C;refine⟨hA.cell _ k,(hA.ax _ k).cell rfl,(hA.ax _ k).cell rfl,p',_,c',w5,hr,(hA.ax _ D).cell rfl,⟨by omega,by simp only[bZ];omega⟩,a,rfl,?_⟩;refine hA.put _ _ _ _ P _ λw6 h6=>?_
    have Q:=u _ _ (by
     rw[m];refine ua f.2 i ?_;simp;omega) h6
    simp only[qA,m]at Q;refine⟨(j+1,k9 pg,l++[(gP pg).1]),⟨rfl,rfl,by rw[aN (by omega)];rfl,trivial⟩,⟨by simp only;omega,by simp;omega,L _ (by simp[ji,g1]),?_⟩,by simp only;omega⟩;refine ai.oK n z A ?_;refine ai.oK (s1:=(k9 pg,x.2.set i l)) (w1:=B) f (J.and N.nn) K Q
   ·have g1:(gP pg).2≠0:=by simpa using g1
    exact⟨(j+1,k9 pg,l),⟨rfl,rfl,by rw[aN (by omega)];rfl,trivial⟩,⟨by simp only;omega,by simp;omega,L _ (by simp[ji,g1]),ai.oK n z A ⟨F3,f,J,K⟩⟩,by simp only;omega⟩
  ·have:j=2:=by simp at g;omega
   subst this;simp at d;rw[<-d];exact⟨V,n,z,A⟩
theorem Tx (h:dM b w F x) {i k:Nat} (hi:i<x.2.length) (m:k<=x.2[i].length) {K:World->Prop} (n:∀w',ai (dM b) w w' F (x.1,x.2.set i (x.2[i].drop k))->K w') :
  aP Tryz.prog uk BU (Gu (aa ⟨b,0,ag⟩) (i:Int) (k:Int)) w (HE λe w'=>e=Z (.tuple #[])/\K w'):=by
 refine aP.mk ?_;rw[ac5];intro w1 o q r s;have g:=au.same no o q r s;have h:dM b w1 F x:=Frame.kp.ak h g (λ_ _ h=>h);obtain⟨b2,F1,G,a,c0,p,c,A,t,hd,B,u⟩:=h.row hi;obtain⟨F2,hA⟩:=t.open hi;have C:x.2[i].length<=4:=h.2 _ (cx hi);have y:=(hA.ls.behind m);obtain⟨F3,f,_,_⟩:=y;have j:=FQ f.cells (by simp;omega) (λe=>f.zero e);simp only[kz]at j;refine⟨_,rfl,_,_,_,hA.kL.cell rfl,_,rfl,_,_,_,hA.kL.cell rfl,⟨by omega,by omega⟩,a,rfl,_,_,_,hA.b9,⟨by omega,by omega⟩,⟨j.mono ?_⟩⟩;rintro e D ⟨p',c',rfl,l⟩;refine⟨_,_,_,rfl,(hA.ax _ l.U.nn).cell rfl,⟨by omega,by omega⟩,a,rfl,?_⟩;have d:=hA.put _ _ _ _ (Ls.fresh l) (λw'=>cj (.tuple #[])=Z (.tuple #[])/\K w') (λH z=>⟨rfl,n _ ?_⟩)
 ·rw[kz]at d;exact d
 ·have:=u _ _ (ua h.2 i (by simp;omega)) z;exact ai.oK h g.nn (λ_ h=>.inl h) this
theorem Kc (h:dM b w F x) {i k:Nat} (hi:i<x.2.length) (y:k<=x.2[i].length):Cx 258 #[pt b,I (i:Int),I (k:Int)] w λe w'=>e=Z (.tuple #[])/\ai (dM b) w w' F (gives x.1 (x.2[i].take k),x.2.set i (x.2[i].drop k)):=by
 refine ag9 ?_;have K:x.2[i].length<=4:=h.2 _ (cx hi);obtain⟨b2,F1,G,a,c0,p,c,z,s,hd,A,L⟩:=h.row hi;obtain⟨F2,hA⟩:=s.open hi;have l:=hA.ls.room;refine⟨_,rfl,_,_,_,hA.kL.cell rfl,⟨by omega,by omega⟩,a,rfl,_,_,_,hA.b9,⟨by omega,by omega⟩,?_⟩
 refine⟨bJ bA (M:=uk) (σ:=Nat) (λj=>Gv (aa ⟨b,0,ag⟩) (i:Int) (k:Int) (fJ p c 0 1) (aG (k:Int)-0) (c-0) ((aG (k:Int)-0:Nat):Int) (j:Int))
  (λj w'=>j<=k/\ai (fo b2) w w' F1 (gives x.1 (x.2[i].take j))) (λj _=>k-j) 0 ⟨rfl,rfl,rfl,rfl,rfl,rfl,trivial⟩ ⟨by omega,ai.same z⟩ ?_⟩
 rintro j w1 ⟨N,m,n,o,t⟩;rw[ac6];refine⟨λg=>?_,λg=>?_⟩
 ·have O:j<k:=by simp at g;omega
  have d:j<x.2[i].length:=by omega
  obtain⟨F3,f⟩:=(s.ak o hd).open hi;obtain⟨B,q,r⟩:=f.cells.ck d;refine⟨⟨by omega,by simp;omega⟩,B,by rw[RR];exact q,_,r,_,rfl,_,f.kL.cell rfl,⟨(WO n _).mono ?_⟩⟩;rintro e P ⟨rfl,C⟩;refine⟨_,rfl,j+1,⟨rfl,rfl,rfl,rfl,rfl,by rw[aN (by omega)];rfl,trivial⟩,⟨by omega,?_⟩,by omega⟩;rw[WV _ d];exact ai.oK n o t C
 ·have:j=k:=by simp at g;omega
  subst this;obtain⟨Q,u,D,H⟩:=A _ _ (WT _ _) ⟨m,n,o,t⟩;exact Tx u hi y λw' J=>ai.oK u D H J
theorem Xj {p:Option Addr} {l:List Int} {c:Nat} {bx:Addr} {v:Int} (a:w.cell? bx=aa (I v)) (d:Cells w p (l.map (ay .i64))) (f:l.length<=4) :
  Cx 329 #[.slice p l.length c,.pointer (aa bx)] w λe w'=>e=Z (.bool (decide (v∈l)))/\w'=w:=by
 refine aib ?_;refine⟨_,a,⟨(MH d (by omega) v).mono ?_⟩⟩;rintro e w' ⟨rfl,rfl⟩;exact⟨_,rfl,rfl,rfl⟩
theorem Xu {p:Option Addr} {L:List (List Int)} {c:Nat} {bx:Addr} {v:Int} (i:w.cell? bx=aa (I v)) (k:ET w p L) (s:L.length<=maxLen) :
  Cx 381 #[.slice p L.length c,.func (.func 329) #[] #[.pointer (aa bx)]] w λe w'=>(∃n:Int,e=Z (I n)/\decide (n>=0)=su L v)/\w'=w:=by
 refine aiQ ?_;refine⟨bJ bA (M:=Bl) (σ:=Nat) (λj=>Nf p L.length c bx (L.length:Int) (j:Int)) (λj w'=>j<=L.length/\su (L.take j) v=ae/\w'=w) (λj _=>L.length-j) 0 ⟨rfl,rfl,rfl,rfl,trivial⟩ ⟨by omega,rfl,rfl⟩ ?_⟩;rintro j w1 ⟨t,f,rfl⟩;rw[adx];refine⟨λg=>?_,λg=>?_⟩
 ·have h:j<L.length:=by simp at g;omega
  obtain⟨a,q,d,l,m,o,r⟩:=k j h;refine⟨⟨by omega,by omega⟩,a,l,_,_,_,m,⟨(Xj i o r).mono ?_⟩⟩;rintro e u ⟨rfl,rfl⟩;refine⟨_,rfl,λg1=>⟨⟨_,rfl,?_⟩,rfl⟩,λg1=>⟨j+1,⟨rfl,rfl,rfl,by rw[aN (by unfold maxLen at *;omega)];rfl,trivial⟩,⟨by omega,?_,rfl⟩,by omega⟩⟩
  ·have:su L v=ah:=by
    unfold su;rw[mn];exact⟨_,cx h,g1⟩
   rw[this];simp
  ·rw[ey h];unfold su at f⊢;rw[List.any_append,f];simpa using g1
 ·have:j=L.length:=by simp at g;omega
  subst this;rw[dA]at f;exact⟨⟨_,rfl,by rw[f];rfl⟩,rfl⟩
theorem Vc {p:Option Addr} {L:List (List Int)} {c:Nat} {bx:Addr} {v:Int} (a:w.cell? bx=aa (I v)) (d:ET w p L) (f:L.length<=maxLen) :
  Cx 328 #[.slice p L.length c,.func (.func 329) #[] #[.pointer (aa bx)]] w λe w'=>e=Z (.bool (su L v))/\w'=w:=by
 refine aia ?_;refine⟨(Xu a d f).mono ?_⟩;rintro e w' ⟨⟨n,rfl,g⟩,rfl⟩;exact⟨_,rfl,by rw[g],rfl⟩
theorem abZ (h:dM b w F x) (v:Int):Cx 257 #[pt b,I v] w λe w'=>e=Z (.bool (kQ x v))/\au no w w':=by
 refine ag8 ?_;refine⟨λw1 l m r s t u=>⟨λ_=>?_,λg=>by simp at g⟩⟩;have n:=au.same no r s t u;have j:=(l.ak no).and n
 have d:m.cell? ⟨w.heap.size,0,ag⟩=aa (I v):=by
  have:=l.aK.ak (F:=no) n (λh=>h);have:=this.cell (k:=0) (v:=I v) rfl;simpa [bh]using this
 replace h:dM b m F x:=Frame.kp.ak h j (λ_ _ h=>h);obtain⟨b2,F1,o,⟨p,c,hB⟩,_⟩:=h.ptr;refine⟨_,rfl,_,hB.cell rfl,_,d,⟨(QS o v).mono ?_⟩⟩;rintro e q ⟨rfl,a⟩;refine⟨_,rfl,λg=>?_,λg=>⟨?_,j.and a⟩⟩
 ·replace h:dM b q F x:=Frame.kp.ak h a (λ_ _ h=>h);obtain⟨b2,F1,o,f,p,c,hB,y⟩:=h.rows;have i:q.cell? ⟨w.heap.size,0,ag⟩=aa (I v):=by rw[<-d];exact tf (a.ax _ (pz d) (λh=>h))
  refine⟨_,rfl,_,_,_,hB.cell rfl,⟨(Vc i y f).mono ?_⟩⟩;rintro e z ⟨rfl,rfl⟩;refine⟨_,rfl,?_,j.and a⟩;simp[kQ,g]
 ·simp[kQ,g]
def pP (x:KS) (av:Int):List Int:=if fM x av then jJ x av else[]
theorem X0 (h:dM b w F x) (av:Int):Cx 97 #[pt b,I av] w λe w'=>∃p c,e=Z (.slice p (pP x av).length c)/\Loc w w' 3 p c (pP x av):=by
 refine u97 ?_;refine⟨(Ec h av).mono ?_⟩;rintro e w1 ⟨rfl,rfl⟩;refine⟨_,rfl,λg=>?_,λg=>?_⟩
 ·have f:¬fM x av:=λh=>by rw[ar h]at g;simp at g
  rw[pP,af f];exact⟨ag,0,rfl,Loc.nil (au.refl _ _) _⟩
 ·have d:fM x av:=eu λh=>by rw[af h]at g;simp at g
  rw[pP,ar d];obtain⟨i,hi,rfl⟩:=tF d;obtain⟨b2,F1,G,a,c0,p,c,l,j,hd,m,n⟩:=h.row hi;obtain⟨F2,hA⟩:=j.open hi;have o:x.2[i].length<=4:=h.2 _ (cx hi);rw[tS hi];refine⟨_,rfl,_,_,_,hA.kL.cell rfl,⟨by omega,by omega⟩,a,rfl,_,_,_,hA.b9,⟨(FQ hA.cells (by omega) (λe=>hA.ls.zero e)).mono ?_⟩⟩;rintro e q ⟨p',c',rfl,k⟩;exact⟨_,_,_,rfl,_,_,rfl,k⟩
theorem MX (h:dM b w F x) (av:Int):Cx 355 #[pt b,I av] w λe w'=>e=Z (.tuple #[I (Ck x av).1,I (Ck x av).2])/\ai (dM b) w w' F (lG x av):=by
 refine aiu ?_;refine⟨(Ec h av).mono ?_⟩;rintro e w1 ⟨rfl,rfl⟩;refine⟨_,rfl,λg=>?_,λg=>?_⟩
 ·have d:¬fM x av:=λh=>by rw[ar h]at g;simp at g
  rw[Ck,lG,af d,af d,af d];exact⟨rfl,ai.same h⟩
 ·have f:fM x av:=eu λh=>by rw[af h]at g;simp at g
  rw[Ck,lG,ar f,ar f];obtain⟨i,hi,rfl⟩:=tF f;obtain⟨b2,F1,G,a,c0,p,c,l,k,hd,m,n⟩:=h.row hi;obtain⟨F2,hA⟩:=k.open hi;rw[tS hi];refine⟨_,rfl,_,_,_,hA.kL.cell rfl,⟨by omega,by omega⟩,a,rfl,_,_,_,hA.b9,⟨(Kc h hi (b7 _)).mono ?_⟩⟩;rintro e o ⟨rfl,j⟩;rw[dA,List.drop_length]at j;exact⟨rfl,rfl,j⟩
theorem Wm (pg:List Nat) {l:List Int} (h:l.length<=4):(mC (pg,l)).2.length<=4:=by
 unfold mC;split
 ·rename_i h;simp only at h;subst h;have c:∀s:List Nat×List Int,(ji s).2.length<=s.2.length+1:=λs=>by unfold ji;split<;>simp
  have a:=c (pg,[]);have b:=c (ji (pg,[]));simp only[nm]at a;omega
 ·exact h
theorem abO (h:dM b w F x) (av:Int):Cx 155 #[pt b,I av] w λe w'=>e=Z (.tuple #[I (wo x av).1,I (wo x av).2])/\ai (dM b) w w' F (qL x av):=by
 refine afB ?_;refine⟨(Ec h av).mono ?_⟩;rintro e w1 ⟨rfl,rfl⟩;refine⟨_,rfl,λg=>?_,λg=>?_⟩
 ·have t:¬fM x av:=λh=>by rw[ar h]at g;simp at g
  rw[wo,qL,af t,af t,af t];exact⟨rfl,ai.same h⟩
 ·have u:fM x av:=eu λh=>by rw[af h]at g;simp at g
  rw[wo,qL,ar u,ar u];obtain⟨i,hi,rfl⟩:=tF u;rw[tS hi];have N:=Wm x.1 (h.2 _ (cx hi));generalize hs:mC (x.1,x.2[i])=s at N;refine⟨(Wn h hi).mono ?_⟩;rw[hs];rintro e w2 ⟨rfl,B,o,C,D⟩;have j:i<(x.2.set i s.2).length:=by simpa using hi
  obtain⟨b2,F1,G,a,c0,p,c,O,y,hd,P,H⟩:=o.row j;obtain⟨F2,hA⟩:=y.open j;have f:(x.2.set i s.2)[i]=s.2:=by simp
  have d:=hA.b9;rw[f]at d;refine⟨rfl,_,rfl,_,_,_,hA.kL.cell rfl,⟨by omega,by simp only[bZ];omega⟩,a,rfl,_,_,_,d,λg1=>?_,λg1=>?_⟩
  ·have Q:s.2=[]:=by
    apply mq;rw[aN (by omega)]at g1;simp at g1;omega
   simp only[bK];rw[Q]at o⊢;exact⟨rfl,B,o,C,D⟩
  ·have q:0<s.2.length:=by
    rw[aN (by omega)]at g1;simp at g1;omega
   have R:aT .i64 ((s.2.length:Int)-1)=((s.2.length-1:Nat):Int):=by rw[aN (by omega)];omega
   rw[R];have J:=hA.cells;rw[f]at J;obtain⟨S,z,A⟩:=J.ck (i:=s.2.length-1) (by omega);refine⟨_,rfl,_,_,_,hA.kL.cell rfl,⟨by omega,by simp only[bZ];omega⟩,a,rfl,_,_,_,d,⟨by omega,by omega⟩,S,z,_,A,λU V W X Y=>?_⟩;have K:=au.same no V W X Y;have m:dM b U B (s.1,x.2.set i s.2):=Frame.kp.ak o K (λ_ _ h=>h);obtain⟨b2,F1,G,a,c0,p,c,O,y,hd,P,H⟩:=m.row j;obtain⟨F2,hA⟩:=y.open j;have d:=hA.b9;rw[f]at d;have n:=hA.ls.room;rw[f]at n;refine⟨_,rfl,_,_,_,hA.kL.cell rfl,_,rfl,_,_,_,hA.kL.cell rfl,⟨by omega,by simp only[bZ];omega⟩,a,rfl,_,_,_,d,⟨by omega,by omega⟩,⟨by omega,by omega⟩,⟨by omega,by simp only[bZ];omega⟩,a,rfl,?_⟩;have r:=hA.ls;rw[f]at r;have L:=r.first (k:=s.2.length-1) (by omega);rw[<-List.dropLast_eq_take]at L;have hl:s.2.getLast?=aa s.2[s.2.length-1]:=by rw[List.getLast?_eq_getElem?];simp[q]
   have l:=hA.put _ _ _ _ L (λw'=>cj (.tuple #[I s.2[s.2.length-1],I 0])=Z (.tuple #[I (Dh s.2).1,I (Dh s.2).2])/\ai (dM b) w1 w' F (s.1,x.2.set i s.2.dropLast)) (λw4 h5=>⟨by simp[Dh,hl],?_⟩)
   ·rw[List.length_dropLast]at l;simp only[bK];exact l
   ·have M:=H _ _ (ua m.2 i (by simp;omega)) h5;rw[qA]at M;exact ai.oK o C D (ai.oK m K.nn (λ_ h=>.inl h) M)
theorem RC (h:dM b w F x) {i:Nat} (hi:i<x.2.length) (A:x.2[i].length<=3) (v:Int) {K:World->Prop} (l:∀w',ai (dM b) w w' F (x.1,x.2.set i (x.2[i]++[v]))->K w') :
  aP Tryz.prog yB BO (Cr (aa ⟨b,0,ag⟩) (i:Int) v) w (C4 λe w'=>e=Z (I 0)/\K w'):=by
 refine aP.mk ?_;rw[acK];intro w1 m n o q;have g:=au.same no m n o q;have h:dM b w1 F x:=Frame.kp.ak h g (λ_ _ h=>h);obtain⟨b2,F1,G,a,c0,p,c,B,r,hd,C,s⟩:=h.row hi;obtain⟨F2,hA⟩:=r.open hi;refine⟨_,rfl,_,_,_,hA.kL.cell rfl,_,rfl,_,_,_,hA.kL.cell rfl,⟨by omega,by omega⟩,a,rfl,_,_,_,hA.b9,⟨λt j=>?_⟩⟩;have d:au F2 w1 t:=(j.ak no).nn;obtain⟨p',c',u,y,k⟩:=Ls.push ov hA.ls (by omega) j 36;obtain⟨_,_,f,_⟩:=id k;refine⟨hA.cell _ d,(hA.ax _ d).cell rfl,(hA.ax _ d).cell rfl,p',_,c',u,y,(hA.ax _ f).cell rfl,⟨by omega,by omega⟩,a,rfl,?_⟩;refine hA.put _ _ _ _ k _ λD z=>⟨rfl,l _ ?_⟩;exact ai.oK h g.nn (λ_ h=>.inl h) (s _ _ (ua h.2 i (by simp;omega)) z)
theorem abY (h:dM b w F x) (av v:Int):Cx 156 #[pt b,I av,I v] w λe w'=>e=Z (I (xZ x av v))/\ai (dM b) w w' F (ql x av v):=by
 refine afC ?_;refine⟨(Ec h av).mono ?_⟩;rintro e w1 ⟨rfl,rfl⟩;refine⟨_,rfl,λg=>?_,λg=>?_⟩
 ·have n:¬fM x av:=λh=>by rw[ar h]at g;simp at g
  rw[xZ,ql,af n,af n,af (λh=>n h.1)];exact⟨rfl,ai.same h⟩
 ·have j:fM x av:=eu λh=>by rw[af h]at g;simp at g
  refine⟨(abZ h v).mono ?_⟩;rintro e r ⟨rfl,l⟩;have f:dM b r F x:=Frame.kp.ak h l (λ_ _ h=>h);refine⟨_,rfl,λg1=>?_,λg1=>?_⟩
  ·have g1:¬kQ x v=ah:=by simpa using g1
   rw[xZ,ql,ar j,af g1,af (λh=>g1 h.2)];exact⟨rfl,F,f,l.nn,λ_ h=>.inl h⟩
  ·have g1:kQ x v=ah:=by simpa using g1
   rw[xZ,ql,ar j,ar g1,ar ⟨j,g1⟩];obtain⟨i,hi,rfl⟩:=tF j;obtain⟨b2,F1,G,a,c0,p,c,z,s,hd,A,B⟩:=f.row hi;obtain⟨F2,hA⟩:=s.open hi;have C:x.2[i].length<=4:=h.2 _ (cx hi);rw[tS hi];refine⟨_,rfl,_,_,_,hA.kL.cell rfl,⟨by omega,by omega⟩,a,rfl,_,_,_,hA.b9,λd=>?_,λd=>?_⟩
   ·have d:4<=x.2[i].length:=by simp at d;omega
    refine⟨(Kc f hi (k:=2) (by omega)).mono ?_⟩;rintro e D ⟨rfl,H,q,t,u⟩;have o:np (x.1,x.2[i])=(gives x.1 (x.2[i].take 2),x.2[i].drop 2):=by simp only[np];rw[ar d]
    rw[o];refine⟨rfl,RC q (by simpa using hi) (by simp;omega) v λy m=>?_⟩;simp only[qA,pj]at m;exact ai.oK f l.nn (λ_ h=>.inl h) (ai.oK (s1:=(gives x.1 (x.2[i].take 2),x.2.set i (x.2[i].drop 2))) q t u m)
   ·have d:¬4<=x.2[i].length:=by simp at d;omega
    have o:np (x.1,x.2[i])=(x.1,x.2[i]):=by simp only[np];rw[af d]
    rw[o];exact RC f hi (by omega) v λy m=>ai.oK f l.nn (λ_ h=>.inl h) m
def tN (m n:Int):Prop:=1<=m/\m<=64/\1<=n/\n<=12
def kX (m n:Int):KS:=(aD n.toNat 0,aD m.toNat [])
theorem VX:dZ Tryz.prog 217 36 1 24 [.slice ag 0 0]:=⟨by kernel_rfl,by kernel_rfl,rfl,by omega⟩
theorem acg (m n:Int) (w:World):Cx 48 #[I m,I n] w λe w'=>
  (¬tN m n/\e=Z (.tuple #[.pointer ag,I 2])/\au no w w')∨
  (tN m n/\∃b F,e=Z (.tuple #[pt b,I 0])/\dM b w' F (kX m n)/\au no w w'/\∀i,F i->w.heap.size<=i):=by
 refine u48 ?_;refine⟨(ZK n w).mono ?_⟩;rintro e w1 (⟨j,rfl,rfl⟩|⟨c,D,F1,rfl,r,l,s⟩)
 ·exact⟨_,_,rfl,λg=>by simp at g,λ_=>.inl ⟨λh=>j ⟨h.2.2.1,h.2.2.2⟩,rfl,au.refl _ _⟩⟩
 ·refine⟨_,_,rfl,λ_=>⟨λg1=>⟨λd=>.inl ⟨?_,rfl,l⟩,λd=>?_⟩,λg1=>.inl ⟨?_,rfl,l⟩⟩,λg=>by simp at g⟩
  ·unfold tN;simp at d;omega
  ·have g1:¬m<1:=by simpa using g1
   have d:¬64<m:=by simpa using d
   obtain⟨k,rfl⟩:∃k:Nat,m=k:=⟨m.toNat,by omega⟩;obtain⟨p,t,o,u⟩:=Rs (f:=λ_:Unit=>ft ag 0 0) (x0:=()) VX w1 (n:=k) (by omega) (by omega) .i64 .i64;have q:=u.2;simp only[fC,List.map_replicate]at q;refine⟨_,_,_,p,t,⟨λG y=>.inr ⟨⟨by omega,by omega,c.1,c.2⟩,p.heap.size,?_⟩⟩⟩;obtain⟨F,z,A,B⟩:=ma.new (PO:=fo) (T:=219) (E:=36) (I:=3) (enc:=IZ) r s l o q (λi hi=>(by obtain⟨a,C,rfl⟩:=hi;cases C;exact b7 _)) y (by simp only[IZ,fC];rw[Int.toNat_of_nonneg (by omega)]);exact⟨F,rfl,z,A,B⟩
  ·unfold tN;simp at g1;omega
end
def ye (s:BV×BV):List Value:=[.int .u64 (mi s.1),.int .u64 (mi s.2)]
abbrev ky (b:Nat):Ob (BV×BV):=Rw b 132 ye
def tX (s:BV×BV):BV:=s.1&&& ~~~ s.2
def tW (s:BV×BV) (m:BV):Int×(BV×BV):=if s.1=0 then(if m=0 then(2,s)else(0,(m,0)))else(7,s)
def vt (s:BV×BV) (c:Int):Int×(BV×BV):=if hs (tX s) c=ah then(0,(s.1,wi s.2 c))else(6,s)
def vu (s:BV×BV):Int×(BV×BV):=if s.1=0 then(6,s)else(0,(0,0))
section
variable {w:World} {F:Fp} {b:Nat} {s:BV×BV} {r:Bool×BV×BV}
theorem DE (h:ky b w F s):Cx 388 #[pt b] w λe w'=>e=Z (.bool (!(s.1==0)))/\w'=w:=by
 refine aiW ?_;exact⟨λ_=>⟨_,rfl,_,h.ax.cell rfl,by rw[vh],rfl⟩,λh=>by simp at h⟩
theorem PN (h:ky b w F s):Cx 292 #[pt b] w λe w'=>e=Z (.int .u64 (mi (tX s)))/\au no w w':=by
 refine ahA ?_;refine⟨λh=>by simp at h,λ_ w1 c d f g=>?_⟩;have a:=au.same no c d f g;have hB:=h.ax.ak a id;refine⟨_,rfl,_,hB.cell rfl,_,rfl,_,hB.cell rfl,⟨(YX _ _ w1).mono ?_⟩⟩;rintro e w' ⟨rfl,rfl⟩;exact⟨_,rfl,rfl,a⟩
theorem Qp (h:ky b w F s) (c:Int):Cx 202 #[pt b,I c] w λe w'=>e=Z (.bool (hs (tX s) c))/\au no w w':=by
 refine age ?_;refine⟨(PN h).mono ?_⟩;rintro e w' ⟨rfl,a⟩;refine⟨_,rfl,⟨(iN _ _ w').mono ?_⟩⟩;rintro e w' ⟨rfl,rfl⟩;exact⟨_,rfl,rfl,a⟩
theorem Xd (h:ky b w F s) (c:Int):Cx 203 #[pt b,I c] w λe w'=>e=Z (.bool (hs s.2 c))/\w'=w:=by
 refine agf ?_;refine⟨λ_=>⟨_,rfl,_,h.ax.cell rfl,⟨(iN _ _ w).mono ?_⟩⟩,λh=>by simp at h⟩;rintro e w' ⟨rfl,rfl⟩;exact⟨_,rfl,rfl,rfl⟩
def ru (s:BV×BV):Bool:=!(s.1==0)&&(tX s==0)
theorem aa1 (h:ky b w F s):Cx 390 #[pt b] w λe w'=>e=Z (.bool (ru s))/\au no w w':=by
 refine aiY ?_;refine⟨(DE h).mono ?_⟩;rintro e w' ⟨rfl,rfl⟩;refine⟨_,rfl,λa=>⟨(PN h).mono ?_⟩,λa=>⟨by rw[ru,a,iI],au.refl _ _⟩⟩;rintro e w' ⟨rfl,c⟩;exact⟨_,rfl,by rw[kW,ru,a,fc],c⟩
theorem TK (h:ky b w F s) (m:BV):Cx 389 #[pt b,.int .u64 (mi m)] w λe w'=>e=Z (I (tW s m).1)/\ai (ky b) w w' F (tW s m).2:=by
 refine aiX ?_;refine⟨λh=>by simp at h,λ_=>⟨(DE h).mono ?_⟩⟩;rintro e w' ⟨rfl,rfl⟩;refine⟨_,rfl,λa=>?_,λa=>⟨λc=>?_,λc=>?_⟩⟩
 ·have a:s.1≠0:=by simpa using a
  simp only[tW,af a];exact⟨trivial,ai.same h⟩
 ·have a:s.1=0:=by simpa using a
  have c:m=0:=by rw[kW]at c;simpa using c
  simp only[tW,ar a,ar c];exact⟨trivial,ai.same h⟩
 ·have a:s.1=0:=by simpa using a
  have c:m≠0:=by rw[kW]at c;simpa using c
  simp only[tW,ar a,af c];exact⟨_,rfl,h.ax.wr (by simp[ye]) λw1 d=>⟨_,rfl,d.aK.wr (by simp[ye,ba]) λf k2=>⟨trivial,h.fN (d.U.and k2.U) k2.aK⟩⟩⟩
theorem SZ (h:ky b w F s) (c:Int):Cx 118 #[pt b,I c] w λe w'=>e=Z (I (vt s c).1)/\ai (ky b) w w' F (vt s c).2:=by
 refine ae0 ?_;refine⟨λh=>by simp at h,λ_=>⟨(Qp h c).mono ?_⟩⟩;rintro e w' ⟨rfl,d⟩;refine⟨_,rfl,λa=>?_,λa=>?_⟩
 ·have a:¬hs (tX s) c=ah:=by simpa using a
  simp only[vt,af a];exact⟨trivial,ai.quiet h d⟩
 ·have a:hs (tX s) c=ah:=by simpa using a
  simp only[vt,ar a];have hB:=h.ax.ak d id;refine⟨_,rfl,_,hB.cell rfl,⟨λw1 f=>⟨(pT s.2 (l:=[c]) (Sl.new (n:=1) (sz:=1) f (by simp) (by unfold maxLen;omega)).cells (by simp)).mono ?_⟩⟩⟩;rintro e g ⟨rfl,rfl⟩;exact⟨_,rfl,_,rfl,(f.keep hB).wr (by simp[ye]) λi k=>⟨trivial,h.fN (((d.mono λ_ _ h=>h.elim).trans (f.ak no) λ_ _ h=>h.elim).and k.U) k.aK⟩⟩
theorem WE (h:ky b w F s):Cx 391 #[pt b] w λe w'=>e=Z (I (vu s).1)/\ai (ky b) w w' F (vu s).2:=by
 refine aiZ ?_;refine⟨λh=>by simp at h,λ_=>⟨(DE h).mono ?_⟩⟩;rintro e w' ⟨rfl,rfl⟩;refine⟨_,rfl,λa=>?_,λa=>?_⟩
 ·have a:s.1=0:=by simpa using a
  simp only[vu,ar a];exact⟨trivial,ai.same h⟩
 ·have a:s.1≠0:=by simpa using a
  simp only[vu,af a];exact⟨_,rfl,h.ax.wr (by simp[ye]) λw1 c=>⟨_,rfl,c.aK.wr (by simp[ye,ba]) λd k2=>⟨trivial,h.fN (c.U.and k2.U) k2.aK⟩⟩⟩
end
structure ed {α:Type} (f:α->List Value) (sz:Nat) (W w:World) (T:TypeId) (p:Option Addr) (c:Nat) (l:List α):Prop where
 U:au no W w
 S:Sl w T sz p l.length c (l.flatMap f)
 F:∀i,bg p i->W.heap.size<=i
section
variable {α:Type} {f:α->List Value} {sz:Nat} {W w w':World} {T:TypeId} {p:Option Addr} {c:Nat} {l:List α}
theorem ed.nil (h:au no W w) (T:TypeId):ed f sz W w T ag 0 []:=⟨h,Sl.nil _ _ _,λi ⟨a,b,_⟩=>by cases b⟩
theorem ed.ak (h:ed f sz W w T p c l) (k:au no w w'):ed f sz W w' T p c l:=⟨h.U.trans k (λ_ _ h=>h),h.S.ak k (λ_ _ h=>h),h.F⟩
theorem J7 {P:Program} {t e:TypeId} {bytes:Nat} {z:List Value} (o:dZ P t e sz bytes z) {w w1:World} {p:Option Addr} {n c:Nat} {cs v:List Value} (q:∀u∈v,u.oneCell'=ah) (k:v.length=sz) (h:Sl w e sz p n c cs) (r:(n+1)*bytes<=140737488355328) (b:n<=1048576)
  {T:TypeId} (g:dr w w1 (.cells v.toArray T (0,0))) (ty:TypeId) :
  ∃p' c' a,(bM #[t,t] ty #[.slice p n c,.slice (aa ⟨w.heap.size,0,ag⟩) 1 1]).run P w1=.ok (.slice p' (n+1) c') a/\Sl a e sz p' (n+1) c' (cs++v)/\au (bg p) w a/\(∀i,bg p' i->bg p i∨w.heap.size<=i):=by
 have s:=h.ak (g.ak no) (λ_ _ b=>b);have j:Sl w1 T sz (aa ⟨w.heap.size,0,ag⟩) 1 1 v:=Sl.new g (by simp[k]) (by unfold maxLen;omega);obtain⟨p',C,c',a,x,b,y,A,B⟩:=xU o s j.cells (m:=1) (d:=1) (by simp[k]) q (by simp) r (by omega) ty;refine⟨p',c',a,by rw[x,b],y,(g.ak _).trans A (λi _ hi=>hi),λi hi=>(B i hi).imp id (λh=>?_)⟩;rw[g.size]at h;omega
theorem ed.push {P:Program} {t:TypeId} {bytes:Nat} {z:List Value} (h:ed f sz W w T p c l) (d:dZ P t T sz bytes z) (b:∀x,(f x).length=sz) (e:∀x,∀u∈f x,u.oneCell'=ah) (g:(l.length+1)*bytes<=140737488355328) (j:l.length<=1048576) {x:α} {v:List Value} (m:v=f x) {w1:World} {n:TypeId} (o:dr w w1 (.cells v.toArray n (0,0))) (ty:TypeId) :
  ∃p' c' a,(bM #[t,t] ty #[.slice p l.length c,.slice (aa ⟨w.heap.size,0,ag⟩) 1 1]).run P w1=.ok (.slice p' (l++[x]).length c') a/\ed f sz W a T p' c' (l++[x]):=by
 subst m;obtain⟨p',c',a,q,r,s,y⟩:=J7 d (e x) (b x) h.S g j o ty;refine⟨p',c',a,by rw[q];simp,h.U.trans s (λi hi b=>absurd (h.F i b) (by omega)),by simpa using r,λi hi=>?_⟩;rcases y i hi with k|k
 ·exact h.F i k
 ·exact aX h.U.size k
end
section
variable {α:Type} {f:α->List Value} {sz:Nat} {W w w':World} {T:TypeId} {p:Option Addr} {c:Nat} {l:List α} {F:Fp}
end
def D6:Value->Value->Bool
 | .int _ a,.int _ b=>a==b
 | .bool a,.bool b=>a==b
 | _,_=>ae
def abP:Value->Value->Bool
 | .int k _,.int a _=>decide (k=a)
 | .bool _,.bool _=>ah
 | _,_=>ae
def wT:List Value->List Value->Bool
 | a::d,b::e=>D6 a b&&wT d e
 | _,_=>ah
def Ay:List Value->List Value->Bool
 | a::d,b::e=>abP a b&&Ay d e
 | [],[]=>ah
 | _,_=>ae
def zz (P:Program):List Field->Nat->List Value->Bool
 | [],_,[]=>ah
 | f::a,i,v::vs=>(f.name !="_")&&dJ P f.type&&!jT P f.type&&(f.offset==i)&&(match P.underlying f.type,v with
   | some (.int _),.int _ _=>ah
   | some .bool,.bool _=>ah
   | _,_=>ae)&&zz P a (i+1) vs
 | _,_,_=>ae
theorem Np {P:Program} (d:Nat) {w:World} {xs ys:Array Value}:∀{fs:List Field} {i:Nat} {us vs:List Value},zz P fs i us=ah->Ay us vs=ah->xs.toList.drop i=us->ys.toList.drop i=vs->
  (Op.eqFields (d+1) xs ys fs).run P w=.ok (wT us vs) w
 | [],i,us,vs,g,hs,j,m=>by
  cases us with
  | nil=>cases vs with
   | nil=>simp[Op.eqFields,wT]
   | cons _ _=>cases hs
  | cons _ _=>cases g
 | f::fs,i,us,vs,g,hs,j,m=>by
  cases us with
  | nil=>cases g
  | cons a us=>
   cases vs with
   | nil=>cases hs
   | cons b vs=>
    simp only[zz,br,ly]at g;obtain⟨⟨⟨⟨⟨s,o⟩,r⟩,h⟩,e⟩,t⟩:=g;simp only[Ay,br]at hs;have h:=eq_of_beq h
    have u:xs.toList[f.offset]?=aa a:=by
     have:=congrArg (λl=>l[0]?) j;simp only[gD,vX]at this;rw[h];simpa using this
    have z:ys.toList[f.offset]?=aa b:=by
     have:=congrArg (λl=>l[0]?) m;simp only[gD,vX]at this;rw[h];simpa using this
    have A:(Op.equalIn (d+1) f.type a b).run P w=.ok (D6 a b) w:=by
     cases hu:P.underlying f.type with
     | none=>rw[hu]at e;cases e
     | some ty=>
      rw[hu]at e
      cases a with
      | int k x=>
       cases b with
       | int B y=>
        have C:k=B:=aO hs.1;subst C
        cases ty with
        | int q=>exact run_equalIn_int w d f.type k q x y hu
        | _=>cases e
       | _=>cases hs.1
      | bool x=>
       cases b with
       | bool y=>
        cases ty with
        | bool=>exact run_equalIn_bool' w d f.type x y hu
        | _=>cases e
       | _=>cases hs.1
      | _=>cases ty<;>cases e
    have D:=Np d (w:=w) (xs:=xs) (ys:=ys) (fs:=fs) (i:=i+1) t hs.2 (by rw[<-List.drop_drop,j];rfl) (by rw[<-List.drop_drop,m];rfl);have n:f.name≠"_":=by simpa using s
    simp only[Op.eqFields,n,ne_eq,not_false_eq_true,if_true,o8,D3 o r u,D3 o r z,A,o9,wT];cases E:D6 a b
    ·simp
    ·simp[D]
def isStr (P:Program) (t:TypeId):Bool:=match P.underlying t with
 | some (.struct _)=>ah
 | _=>ae
theorem abE {P:Program} {t:TypeId} (us:List Value) (a:P.stoodInHeld t=ae) (b:zz P (P.fieldsOf t).toList 0 us=ah) (hs:isStr P t=ah) {vs:List Value} (d:Ay us vs=ah) (w:World) :
  (Op.equal t (.agg us.toArray) (.agg vs.toArray)).run P w=.ok (wT us vs) w:=by
 have e:P.underlying t=aa (.struct (P.fieldsOf t)):=by
  unfold Program.fieldsOf;unfold isStr at hs;split at hs
  ·rename_i g h;rw[h]
  ·cases hs
 show(Op.equalIn (9999+1) t _ _).run P w=_;rw[run_equalIn_struct w 9999 t _ _ e a];exact Np 9998 b d (by simp) (by simp)
abbrev JC:=Int×BV×Int×Bool
def iZ (want a:BV) (near:Int):Int×Bool×Int:=
 if a=0 then(0,ae,12)else
  if hs (if want&&& a=0 then a else want&&& a) near then(near,want&&& a==0,0)else((lR (if want&&& a=0 then a else want&&& a) near).1,want&&& a==0,0)
def EJ (a:BV) (x:JC):Bool:=!hs a x.2.2.1||(!hs x.2.1 x.2.2.1&&!(x.2.1&&& a==0))||(x.2.2.2==hs x.2.1 x.2.2.1)
theorem QC {m:BV} (h:m≠0) (c:Int):(lR m c).2=0/\hs m (lR m c).1=ah:=by
 unfold lR
 cases a:(cs m).find? (λd=>decide (d>c))with
 | some d=>exact⟨rfl,zV.1 (qK a)⟩
 | none=>simp only[Hf h];exact⟨trivial,Ji h⟩
theorem NJ {want a:BV} (h:a≠0):(if want&&& a=0 then a else want&&& a)≠0:=by split<;>assumption
theorem MC {w:World} (i:Tab w) (want a:BV) (near:Int):Cx 233 #[.int .u64 (mi want),.int .u64 (mi a),I near] w λe w'=>e=Z (.tuple #[I (iZ want a near).1,.bool (iZ want a near).2.1,I (iZ want a near).2.2])/\w'=w:=by
 refine agK ?_;rw[kW];refine⟨λg=>?_,λg=>⟨(Dp want a w).mono ?_⟩⟩
 ·have g:a=0:=by simpa using g
  exact⟨by simp only[iZ,g,if_true],rfl⟩
 ·have g:a≠0:=by simpa using g
  rintro e w1 ⟨rfl,rfl⟩
  have go:∀d:BV,d=(if want&&& a=0 then a else want&&& a)->aP Tryz.prog yE BT (Cy near (mi d) (want&&& a==0)) w1 (C9 λe w'=>e=Z (.tuple #[I (iZ want a near).1,.bool (iZ want a near).2.1,I (iZ want a near).2.2])/\w'=w1):=by
   intro d f;refine aP.mk ?_;rw[ac3];have h:d≠0:=f ▸ NJ g;unfold iZ;rw[af g,<-f];refine⟨(iN d near w1).mono ?_⟩;rintro e j ⟨rfl,rfl⟩;refine⟨_,rfl,λb=>?_,λb=>⟨(YW d near i).mono ?_⟩⟩
   ·rw[ar b];exact⟨rfl,rfl⟩
   ·rintro e k ⟨rfl,rfl⟩;rw[af (by rw[b];decide)];exact⟨_,_,rfl,by rw[(QC h near).1],rfl⟩
  refine⟨_,rfl,λb=>?_,λb=>?_⟩
  ·have c:(want&&& a==0)=ah:=by rw[kW]at b;exact b
   rw[kW];exact go a (by rw[ar (eq_of_beq c)])
  ·have c:(want&&& a==0)=ae:=by rw[kW]at b;exact b
   rw[kW];exact go _ (by rw[af (ne_of_beq_false c)])
theorem SJ (a:BV) (x:JC) (w:World):Cx 239 #[.int .u64 (mi a),.agg #[I x.1,.int .u64 (mi x.2.1),I x.2.2.1,.bool x.2.2.2]] w λe w'=>e=Z (.bool (EJ a x))/\au no w w':=by
 refine agQ ?_;refine⟨λw1 f=>?_⟩;have hB:=f.aK;have b:=f.ak no;unfold EJ;refine⟨_,hB.cell rfl,_,hB.cell rfl,⟨(iN _ _ _).mono ?_⟩⟩;rintro e h ⟨rfl,rfl⟩;refine⟨_,rfl,_,hB.cell rfl,⟨(iN _ _ _).mono ?_⟩⟩;rintro e i ⟨rfl,rfl⟩;refine⟨_,rfl,λg=>⟨by rw[g];rfl,b⟩,λg=>⟨λc=>⟨_,hB.cell rfl,⟨(Dp _ _ _).mono ?_⟩⟩,λc=>⟨_,hB.cell rfl,by rw[g,c];rfl,b⟩⟩⟩;rintro e j ⟨rfl,rfl⟩;refine⟨_,rfl,?_⟩;rw[vh];refine⟨λd=>⟨by rw[g,c,d];rfl,b⟩,λd=>⟨_,hB.cell rfl,by rw[g,c,d];rfl,b⟩⟩
def mH (g:Int->Int) (a b:Int):Bool:=decide (g a<g b)||(decide (g a=g b)&&decide (a<b))
def vc (g:Int->Int) (x:Int):List Int->List Int
 | []=>[x]
 | y::l=>if mH g x y then x::y::l else y::vc g x l
def fH (g:Int->Int):List Int->List Int
 | []=>[]
 | x::l=>vc g x (fH g l)
theorem HB (g:Int->Int) (x:Int):∀l,(vc g x l).Perm (x::l)
 | []=>.refl _
 | y::l=>by
  unfold vc;split
  ·exact .refl _
  ·exact((HB g x l).cons y).trans (.swap x y l)
theorem jh (g:Int->Int):∀l,(fH g l).Perm l
 | []=>.refl _
 | x::l=>(HB g x _).trans ((jh g l).cons x)
theorem Dk {g:Int->Int} {a b:Int}:mH g a b=ah↔g a<g b∨(g a=g b/\a<b):=by simp[mH]
theorem pR {g:Int->Int} {a b:Int}:mH g a b=ae↔g b<g a∨(g b=g a/\b<=a):=by
 have:=@Dk g a b
 cases h:mH g a b with
 | true=>rw[h]at this;have:=this.1 rfl;simp;omega
 | false=>simp[h]at this;simp;omega
theorem Of (g:Int->Int) (x:Int):∀l,l.Pairwise (λa b=>mH g b a=ae)->(vc g x l).Pairwise (λa b=>mH g b a=ae)
 | [],_=>by simp[vc]
 | y::l,h=>by
  unfold vc;have e:=List.pairwise_cons.1 h;split
  ·rename_i d;refine List.pairwise_cons.2 ⟨λz c=>?_,h⟩;rcases eN.1 c with rfl|c
   ·have:=Dk.1 d;rw[pR];omega
   ·have f:=Dk.1 d;have i:=pR.1 (e.1 z c);rw[pR];omega
  ·rename_i d;have d:mH g x y=ae:=by simpa using d
   refine List.pairwise_cons.2 ⟨λz c=>?_,Of g x l e.2⟩;rcases eN.1 ((HB g x l).mem_iff.1 c)with rfl|c
   ·exact d
   ·exact e.1 z c
theorem yc (g:Int->Int):∀l,(fH g l).Pairwise (λa b=>mH g b a=ae)
 | []=>.nil
 | x::l=>Of g x _ (yc g l)
theorem RL {g:Int->Int} {l m:List Int} (h:l.Perm m) (c:l.Pairwise (λa b=>mH g b a=ae)) (d:m.Pairwise (λa b=>mH g b a=ae)):l=m:=
 List.Perm.eq_of_pairwise (λa b _ _ e f=>by rw[pR]at e f;omega) c d h
theorem aci {g:Int->Int} {l m:List Int} (h:l.Perm m):fH g l=fH g m:=
 RL (((jh g l).trans h).trans (jh g m).symm) (yc g l) (yc g m)
theorem RJ {g:Int->Int} {l m:List Int} (h:m.Perm l) (c:m.Pairwise (λa b=>mH g b a=ae)):m=fH g l:=
 RL (h.trans (jh g l).symm) c (yc g l)
theorem ach {g c:Int->Int}:∀{l:List Int},(∀a∈l,g a=c a)->fH g l=fH c l:=by
 intro l h;refine RJ ((jh g l)) ((yc g l).imp_of_mem ?_);intro a b d f e;rw[pR]at e⊢;rw[<-h a ((jh g l).mem_iff.1 d),<-h b ((jh g l).mem_iff.1 f)];exact e
def bC (a d:Int):Int×Int:=if(0<=a/\a<=1152921504606846976)/\(0<=d/\d<=1073741824)then(if a<=1152921504606846976-d then(a+d,0)else(0,16))else(0,2)
def fE (n:Int):Prop:=-9223372036854775808<=n/\n<=9223372036854775807
instance (n:Int):Decidable (fE n):=inferInstanceAs (Decidable (_/\_))
def mY (a b:Int):Int×Int:=if fE (a+b)then(a+b,0)else(0,16)
def gH (s:List Int) (c:Int):Prop:=0<=c/\c<s.length
instance (s:List Int) (c:Int):Decidable (gH s c):=inferInstanceAs (Decidable (_/\_))
def nB (s:List Int) (c:Int):Int:=s.getD c.toNat 0
def mN (s:List Int) (c n:Int):Int:=if gH s c then(mY (nB s c) n).2 else 3
def kh (s:List Int) (c n:Int):List Int:=if mN s c n=0 then s.set c.toNat (nB s c+n)else s
def qm (s:List Int) (f t:Int):Int:=if gH s f then(if gH s t then(if f=t then 2 else mN s t (nB s f))else 3)else 3
def AD (s:List Int) (f t:Int):List Int:=if qm s f t=0 then(kh s t (nB s f)).set f.toNat 0 else s
abbrev ig:=List Int×Int
def nv (x:ig) (c:Int):Int:=if gH x.1 c then(if x.2=0 then(if 1000<=x.1.sum then 5 else 0)else 7)else 3
def se (x:ig) (c:Int):ig:=if nv x c=0 then(x.1.set c.toNat (nB x.1 c+1),x.2)else x
def pQ (x:ig) (c:Int):Int:=if gH x.1 c then(if nB x.1 c=0 then 12 else 0)else 3
def sv (x:ig) (c:Int):ig:=if pQ x c=0 then(x.1.set c.toNat (nB x.1 c-1),x.2)else x
def Jq (x:ig):Int:=if x.2=0 then 0 else 7
def sY (x:ig):ig:=if x.2=0 then(x.1,1)else x
def pJ (x:ig):Int:=if x.2=1 then(if 0<x.1.sum then 7 else 0)else 6
def pK (x:ig):ig:=if pJ x=0 then(x.1,2)else x
def Hm (x:ig):Int:=if x.2=0 then 6 else 0
def uX (x:ig):ig:=(x.1,0)
structure uj (x:ig):Prop where
 pos:∀v∈x.1,0<=v
 sum:x.1.sum<=1000
 len:1<=x.1.length/\x.1.length<=64
 st:0<=x.2/\x.2<=2
structure bu where
 kj:Int
 aC:Int
 back:Bool
 up:Bool
 av:Int
 aA:Int
 told:Bool
deriving DecidableEq
def bu.now (r:bu):Int×Bool×Bool:=if(r.back&&decide (r.aC=0))||(!r.back&&decide (r.aC=r.kj))then(0,r.back,ah)else if r.back then(r.aC-1,ah,ae)else(r.aC,ae,ae)
def bu.over (r:bu):Bool:=r.now.2.2
def bu.gr (r:bu):Int:=if r.back then 11 else 0
abbrev bP:=Option bu×(Int->Bool)
def dT (d:bP):Bool:=d.1.isSome
def gF (d:bP):Bool:=match d.1 with|some r=>r.up|none=>ae
def fZ (d:bP):Int:=match d.1 with|some r=>r.av|none=>0
def nu (d:bP):Int:=match d.1 with|some r=>r.aA|none=>0
def mB (d:bP):Bool:=match d.1 with|some r=>r.over|none=>ae
def sa (d:bP):Int:=match d.1 with|some r=>if r.over then 6 else 0|none=>12
def mJ (n:Int):Int:=if 0<=n/\n<10 then 0 else 3
def nK (d:bP) (n:Int):bP:=if mJ n=0 then(d.1,λk=>if k=n then ah else d.2 k)else d
def kO (n:Int):Prop:=0<=n/\n<64
instance (n:Int):Decidable (kO n):=inferInstanceAs (Decidable (_/\_))
def my (d:bP) (av aA:Int):Int:=if d.1.isSome then 7 else if kO av/\kO aA then(if av=aA then 2 else 0)else 3
def rZ (d:bP) (up:Bool) (av aA:Int):bP:=if my d av aA=0 then(aa ⟨if up then 4 else 10,0,ae,up,av,aA,ae⟩,d.2)else d
def i7 (d:bP) (r:bu):Bool:=!r.now.2.1&&!r.told&&d.2 r.now.1
def iP (d:bP):(Int×Bool×Bool)×Int:=match d.1 with
 | some r=>if r.over then((0,ae,ae),6)else((r.now.1,r.now.2.1,i7 d r),0)
 | none=>((0,ae,ae),12)
def rh (d:bP):bP:=match d.1 with
 | some r=>if r.over then d else(aa {r with told:=ah,back:=r.back||i7 d r},if i7 d r then λk=>if k=r.now.1 then ae else d.2 k else d.2)
 | none=>d
def wN (d:bP):bP:=match d.1 with
 | some r=>if r.over then d else(aa {r with told:=ae,aC:=if r.back then r.aC-1 else r.aC+1},d.2)
 | none=>d
def zw (d:bP):Int×Int:=match d.1 with
 | some r=>if r.over then(r.gr,0)else(0,6)
 | none=>(0,12)
def uS (d:bP):bP:=match d.1 with
 | some r=>if r.over then(ag,d.2)else d
 | none=>d
structure JM (r:bu):Prop where
 st:r.kj=if r.up then 4 else 10
 aC:0<=r.aC/\r.aC<=r.kj
 av:kO r.av
 aA:kO r.aA
structure eK where
 pw:Bool
 idle:Bool
 cA:Int
 since:Int
deriving DecidableEq
abbrev Fl:=Bool×Bool×Bool×Bool×Bool×Bool×Bool×Bool×Bool
def mR (f:Fl):Int:=
 if f.1 then 2 else if f.2.2.1 then 3 else if f.2.1||!f.2.2.2.1 then 0 else if f.2.2.2.2.1 then 4 else if f.2.2.2.2.2.1 then 5 else if f.2.2.2.2.2.2.1 then 6 else if f.2.2.2.2.2.2.2.1 then 7 else if f.2.2.2.2.2.2.2.2 then 8 else 9
def zj (pw idle:Bool) (f:Fl):Int:=if !pw then 0 else if !idle then mR f else if mR f=0∨mR f=9 then 0 else 1
def eG (s:List eK) (c:Int):Prop:=0<=c/\c<s.length
instance (s:List eK) (c:Int):Decidable (eG s c):=inferInstanceAs (Decidable (_/\_))
def FT:eK:=⟨ae,ae,0,0⟩
def cm (s:List eK) (c:Int):eK:=if eG s c then s.getD c.toNat FT else FT
def jw (s:List eK) (c:Int) (on:Bool):List eK:=if eG s c/\(cm s c).pw≠on then s.set c.toNat {cm s c with pw:=on,idle:=ae,cA:=0,since:=0}else s
def bI (n:Int):Prop:=0<=n/\n<=1152921504606846976
instance (n:Int):Decidable (bI n):=inferInstanceAs (Decidable (_/\_))
def oq (s:List eK) (c cA now:Int):List eK:=if eG s c/\(0<=cA/\cA<8)/\bI now/\(cm s c).pw=ah/\(cm s c).idle=ae then s.set c.toNat {cm s c with idle:=ah,cA:=cA,since:=now}else s
def ot (s:List eK) (c now:Int):List eK:=if eG s c/\bI now/\(cm s c).idle=ah then s.set c.toNat {cm s c with idle:=ae,cA:=0,since:=0}else s
def uL (rest a:Int):Int:=if 50<=a/\400<=rest then 3 else if 10<=a/\50<=rest then 2 else if 2<=a/\10<=rest then 1 else 0
def Io (now due:Int) (known:Bool):Int:=if known then(if now<0∨due<=now then 0 else min (due-now) 1073741824)else 1073741824
abbrev dG:=List (Option (Int×Int))
structure cM where
 now:Int
 n:Nat
 t:dG
def bH (t:dG) (id:Int):Option (Int×Int):=if 1<=id then t.getD (id.toNat-1) ag else ag
def lI (t:dG) (id:Int):Int:=match bH t id with|some p=>p.2|none=>0
def nF (t:dG) (p:Int×Int->Bool):List Int:=((b8 t.length).filter λi=>match t.getD i ag with|some x=>p x|none=>ae).map λ(i:Nat)=>(i:Int)+1
def ic (t:dG) (c:Int):List Int:=fH (lI t) (nF t λx=>decide (x.1=c))
def mO (now:Int) (t:dG) (c:Int):List Int:=fH (lI t) (nF t λx=>decide (x.1=c)&&decide (x.2<=now))
def eR (x:cM) (c:Int):Prop:=0<=c/\c<x.n
instance (x:cM) (c:Int):Decidable (eR x c):=inferInstanceAs (Decidable (_/\_))
def si (t:dG):Option Nat:=t.findIdx? Option.isNone
def dC (x:cM) (c due:Int):Int×Int:=if eR x c then(if bI due then(match si x.t with|some i=>((i:Int)+1,0)|none=>(0,5))else(0,2))else(0,3)
def gE (x:cM) (c due:Int):cM:=if eR x c/\bI due then(match si x.t with|some i=>{x with t:=x.t.set i (aa (c,due))}|none=>x)else x
def kr (x:cM) (id:Int):Int×Bool:=match bH x.t id with|some p=>(p.1,ah)|none=>(0,ae)
def uf (x:cM) (id:Int):Int×Bool:=match bH x.t id with|some p=>(p.2,ah)|none=>(0,ae)
def uP (x:cM) (id:Int):cM:={x with t:=x.t.set (id.toNat-1) ag}
def tp (x:cM) (id:Int):Int:=match bH x.t id with|some _=>0|none=>4
def jv (x:cM) (id:Int):cM:=match bH x.t id with|some _=>uP x id|none=>x
def sm (x:cM) (now:Int):Int:=if x.now<=now/\bI now then 0 else 2
def nA (x:cM) (now:Int):cM:=if sm x now=0 then{x with now:=now}else x
def Iu (x:cM) (c:Int):Bool:=decide (eR x c)&&decide (0<(mO x.now x.t c).length)
def dU (x:cM) (c:Int):Int×Int:=if eR x c then(match mO x.now x.t c with|a::_=>(a,0)|[]=>(0,12))else(0,3)
def jx (x:cM) (c:Int):cM:=if eR x c then(match mO x.now x.t c with|a::_=>uP x a|[]=>x)else x
def tL (x:cM) (c:Int):Int×Int:=if eR x c then(match ic x.t c with|a::_=>(lI x.t a,0)|[]=>(0,12))else(0,3)
def oT (x:cM) (c:Int):List Int:=if eR x c then ic x.t c else[]
def l5 (x:cM) (f t:Int):Int×Int:=if eR x f/\eR x t then(if f=t then(0,2)else match ic x.t f with|a::_=>(a,0)|[]=>(0,12))else(0,3)
def jN (x:cM) (f t:Int):cM:=if eR x f/\eR x t/\f≠t then(match ic x.t f with|a::_=>{x with t:=x.t.set (a.toNat-1) (aa (t,lI x.t a))}|[]=>x)else x
structure EV (x:cM):Prop where
 now:bI x.now
 n:1<=x.n/\x.n<=64
 len:x.t.length=48
 at_:∀id p,bH x.t id=aa p->(0<=p.1/\p.1<x.n)/\bI p.2
structure K where
 n:Nat
 on:BV
 ac:BV
 now:Int
 lim:Int
 own:Int->Option Int
 th:Int×TL
 rq:RS
 tm:cM
 ir:cg
 rt:cY
 wk:QL
 ca:CS
 st:KS
 ga:ig
 sp:BV×BV
 dk:bP
 co:List eK
abbrev Rc:=Int×Int×Int×Int×Int
def lB (x:Int×Int):List Rc:=[(1,0,if x.2=0 then x.1 else 0,0,x.2)]
def fG (gr:Int):List Rc:=[(1,0,0,0,gr)]
def ri (k:K) (c:Int):Int:=if 0<=c/\c<k.n then(if hs k.ac c then 0 else 9)else 3
def dp (k:K) (id:Int):Th:=(di k.th id).1
def jd (k:K) (id near:Int):K:=
 {k with th:=j8 k.th id (iZ (dp k id).2.1 k.ac near).1 (iZ (dp k id).2.1 k.ac near).2.1,rq:=kd k.rq (iZ (dp k id).2.1 k.ac near).1 (dp k id).1 id}
def AO (k:K) (x:Th):Bool:=EJ k.ac (0,x.2.1,x.2.2.1,x.2.2.2.1)
def iO (k:K) (id:Int):K:=if(dp k id).2.2.2.2.1||!AO k (dp k id)then k else jd {k with rq:=gN k.rq id} id (dp k id).2.2.1
def pU (k:K) (n:Int):BV:=if jF n then 0 else(gq k.ir n).2.2.2
def iy (k:K) (n near:Int):K:={k with rt:=mM k.rt n (iZ (pU k n) k.ac near).1}
def iF (k:K) (n:Int):K:=if EJ k.ac (0,pU k n,(cy k.rt n).1,!hs (pU k n) (cy k.rt n).1)then iy k n (cy k.rt n).1 else k
def Eo (k:K) (n:Int):Int:=if(bC k.now n).2=0 then sm k.tm (bC k.now n).1 else(bC k.now n).2
def sV (k:K) (n:Int):K:=if(bC k.now n).2=0 then{k with now:=(bC k.now n).1,tm:=nA k.tm (bC k.now n).1}else k
def AE (k:K) (p:Int) (m:BV):Int×Int:=dW k.th p m
def sQ (k:K) (p:Int) (m:BV):K:=if(dW k.th p m).2=0 then jd {k with th:=jM k.th p m} (dW k.th p m).1 ((dW k.th p m).1%k.n)else{k with th:=jM k.th p m}
def sI (g:Int->Option Int) (t:Int):Int->Option Int:=λj=>if j=t then ag else g j
def xH (k:K) (t:Int):K:={k with tm:=jv k.tm t,own:=sI k.own t}
def vx (k:K) (id:Int):K:=jd {k with th:=l8 k.th id} id (dp {k with th:=l8 k.th id} id).2.2.1
def iB (k:K) (x:Th):Int:=if hs k.ac x.2.2.1 then x.2.2.1 else(gd k.ac).1
def AB (k:K) (id:Int) (x:Th) (n:Int):Int×Int:=
 if(bC k.now n).2=0 then(if(dC k.tm (iB k x) (bC k.now n).1).2=0 then((dC k.tm (iB k x) (bC k.now n).1).1,ya k.th id)else(0,(dC k.tm (iB k x) (bC k.now n).1).2))else(0,(bC k.now n).2)
def sO (k:K) (id:Int) (x:Th) (n:Int):K:=
 if(bC k.now n).2=0 then(if(dC k.tm (iB k x) (bC k.now n).1).2=0 then
  {k with tm:=gE k.tm (iB k x) (bC k.now n).1,own:=λj=>if j=(dC k.tm (iB k x) (bC k.now n).1).1 then aa id else k.own j,rq:=gN k.rq id,th:=nO k.th id (dC k.tm (iB k x) (bC k.now n).1).1}
  else{k with tm:=gE k.tm (iB k x) (bC k.now n).1})else k
def sg (k:K) (id:Int) (x:Th):K:=if x.2.2.2.2.1 then{xH k x.2.2.2.2.2 with th:=kP k.th id}else{k with rq:=gN k.rq id,th:=kP k.th id}
abbrev cJ:=Int×Int×Int×BV×Int
def oR (k:K) (e:cJ):List Rc:=
 let x:=dp k e.2.2.1
 if(di k.th e.2.2.1).2≠0 then fG (di k.th e.2.2.1).2
 else if e.1=9 then lB (x.2.2.1,0)
 else if e.1=4 then fG (wX k.th e.2.2.1)
 else if e.1=8 then fG (mZ k.th e.2.2.1 e.2.2.2.1)
 else if x.2.2.2.2.1≠decide (e.1=7)then fG 6
 else if e.1=6 then lB (AB k e.2.2.1 x e.2.2.2.2)
 else if e.1=5 then fG (IC k.rq e.2.2.1)
 else fG 0
def iT (k:K) (e:cJ):K:=
 let x:=dp k e.2.2.1
 if(di k.th e.2.2.1).2≠0 then k
 else if e.1=9 then k
 else if e.1=4 then sg k e.2.2.1 x
 else if e.1=8 then(if mZ k.th e.2.2.1 e.2.2.2.1=0 then iO {k with th:=jU k.th e.2.2.1 e.2.2.2.1} e.2.2.1 else{k with th:=jU k.th e.2.2.1 e.2.2.2.1})
 else if x.2.2.2.2.1≠decide (e.1=7)then k
 else if e.1=6 then sO k e.2.2.1 x e.2.2.2.2
 else if e.1=5 then{k with rq:=tT k.rq e.2.2.1}
 else vx (xH k x.2.2.2.2.2) e.2.2.1
def q9 (k:K) (e:cJ):Int:=
 if e.1=12 then k8 k.ir e.2.2.1 e.2.2.2.1
 else if e.1=13 then eJ k.ir e.2.2.1
 else if e.1=14 then nW k.ir e.2.2.1 e.2.2.2.1
 else if e.1=15 then nE k.ir e.2.2.1 ah
 else if e.1=16 then nE k.ir e.2.2.1 ae
 else eJ k.ir e.2.2.1
def ra (k:K) (e:cJ):K:=
 if e.1=12 then(if k8 k.ir e.2.2.1 e.2.2.2.1=0 then iy {k with ir:=lT k.ir e.2.2.1 e.2.2.2.1} e.2.2.1 (e.2.2.1%k.n)else{k with ir:=lT k.ir e.2.2.1 e.2.2.2.1})
 else if e.1=13 then(if eJ k.ir e.2.2.1=0 then{k with ir:=qW k.ir e.2.2.1,rt:=pY k.rt e.2.2.1}else{k with ir:=qW k.ir e.2.2.1})
 else if e.1=14 then(if nW k.ir e.2.2.1 e.2.2.2.1=0 then iF {k with ir:=o6 k.ir e.2.2.1 e.2.2.2.1} e.2.2.1 else{k with ir:=o6 k.ir e.2.2.1 e.2.2.2.1})
 else if e.1=15 then{k with ir:=oH k.ir e.2.2.1 ah}
 else if e.1=16 then{k with ir:=oH k.ir e.2.2.1 ae}
 else{k with ir:=tR k.ir e.2.2.1}
def yP (k:K) (c n:Int):Int×Int:=if(bC k.now n).2=0 then dC k.tm c (bC k.now n).1 else(0,(bC k.now n).2)
def tl (k:K) (c n:Int):K:=if(bC k.now n).2=0 then{k with tm:=gE k.tm c (bC k.now n).1}else k
def qa (k:K) (e:cJ):List Rc:=
 if ri k e.2.1≠0 then fG (ri k e.2.1)
 else if e.1=10 then lB (yP k e.2.1 e.2.2.2.2)
 else if e.1=18 then lB (tQ k.wk e.2.1)
 else if e.1=20 then lB (tY k.ca e.2.1)
 else if e.1=21 then lB (wo k.st e.2.1)
 else if e.1=22 then fG (xZ k.st e.2.1 e.2.2.1)
 else fG (nv k.ga e.2.1)
def j9 (k:K) (e:cJ):K:=
 if ri k e.2.1≠0 then k
 else if e.1=10 then tl k e.2.1 e.2.2.2.2
 else if e.1=18 then{k with wk:=sJ k.wk e.2.1}
 else if e.1=20 then{k with ca:=kg k.ca e.2.1}
 else if e.1=21 then{k with st:=qL k.st e.2.1}
 else if e.1=22 then{k with st:=ql k.st e.2.1 e.2.2.1}
 else{k with ga:=se k.ga e.2.1}
def B7 (k:K) (id:Int):Int:=if(kr k.tm id).2 then(if 0<(k.own id).getD 0 then 6 else tp k.tm id)else 4
def tr (k:K) (id:Int):K:=if(kr k.tm id).2 then(if 0<(k.own id).getD 0 then k else{k with tm:=jv k.tm id})else k
def zA (k:K) (id:Int):Int×Int:=if id<1∨32<id then(0,2)else if(ue k.wk id).2 then(1,0)else(0,0)
def zO (n:Int):Int:=if n<0∨1073741824<n then 2 else 0
def xr (k:K) (n:Int):K:=if zO n=0 then{k with lim:=n}else k
def Ee (a hi:Int):Int:=if 1<=a/\hi<=100000/\a<=hi then 0 else 2
def eP (k:K):Int:=(lD (cf k.rq) mD (bW (hs k.ac) k.rq.length)).1
def fF (k:K):Int:=(lD (cf k.rq) mG (bW (hs k.ac) k.rq.length)).1
def nr (k:K) (id:Int):Bool:=hs (dp k id).2.1 (fF k)
def rY (k:K):Int:=if cf k.rq (eP k)-cf k.rq (fF k)<2 then 0 else((dd k.rq (eP k)).reverse.find? (nr k)).getD 0
def nq (k:K):K:=if cf k.rq (eP k)-cf k.rq (fF k)<2 then k else
 match(dd k.rq (eP k)).reverse.find? (nr k)with
 | some id=>{k with rq:=kd (gN k.rq id) (fF k) (dp k id).1 id,th:=j8 k.th id (fF k) ae}
 | none=>k
def jI (k:K) (up:Bool) (c:Int):Int:=
 if ¬(0<=c/\c<k.n)then 3
 else if dT k.dk then 7
 else if up&&hs k.on c then 8
 else if !up&&!hs k.on c then 9
 else if !up&&decide ((cs k.on).length=1)then 10
 else my k.dk c (gd (ls k.ac c)).1
def iA (k:K) (up:Bool) (c:Int):K:=
 if ¬(0<=c/\c<k.n)then k
 else if dT k.dk then k
 else if up&&hs k.on c then k
 else if !up&&!hs k.on c then k
 else if !up&&decide ((cs k.on).length=1)then k
 else{k with ga:=sY k.ga,dk:=rZ k.dk up c (gd (ls k.ac c)).1}
def qj (k:K) (e:cJ):List Rc:=
 if e.1=11 then fG (B7 k e.2.2.1)
 else if e.1=19 then lB (zA k e.2.2.1)
 else if e.1=25 then fG (mJ e.2.2.2.2)
 else if e.1=27 then fG (pQ k.ga e.2.1)
 else if e.1=28 then fG (zO e.2.2.2.2)
 else if e.1=29 then fG (Ee e.2.2.1 e.2.2.2.2)
 else if e.1=30 then lB (rY k,0)
 else fG 2
def ke (k:K) (e:cJ):K:=
 if e.1=11 then tr k e.2.2.1
 else if e.1=19 then k
 else if e.1=25 then{k with dk:=nK k.dk e.2.2.2.2}
 else if e.1=27 then{k with ga:=sv k.ga e.2.1}
 else if e.1=28 then xr k e.2.2.2.2
 else if e.1=29 then k
 else if e.1=30 then nq k
 else k
def yq (k:K) (c:Int):Int×Bool:=match(jc k.rt c).find? (lS k.ir)with|some n=>(n,ah)|none=>(0,ae)
def ny (k:K) (c:Int):Fl:=
 (hs (tX k.sp) c,hs k.sp.2 c,dT k.dk&&decide (nu k.dk=c),hs k.ac c,decide (0<(jC k.ca c).length),(yq k c).2,Iu k.tm c,
  decide (0<(gJ k.wk c).length+(gJ k.wk (-1)).length),decide (0<cf k.rq c))
def nw (k:K) (c:Int):K:=
 let a:K:={k with tm:=jx k.tm c,own:=sI k.own (dU k.tm c).1}
 if 0<(k.own (dU k.tm c).1).getD 0 then vx a ((k.own (dU k.tm c).1).getD 0)else a
def P0 (k:K) (c:Int):K:={k with co:=oq k.co c (uL (Io k.now (tL k.tm c).1 (decide ((tL k.tm c).2=0))) k.lim) k.now}
def I9 (k:K) (c a:Int):List Rc:=
 if a=4 then[(6,c,(vv k.ca c).1,0,0)]
 else if a=5 then[(4,c,(yq k c).1,0,0)]
 else if a=6 then[(3,c,(dU k.tm c).1,(k.own (dU k.tm c).1).getD 0,0)]
 else if a=7 then[(5,c,(AI k.wk c).1,0,0)]
 else[(2,c,(D0 k.rq c).1,0,0)]
def sU (k:K) (c a:Int):K:=
 if a=4 then{k with ca:=oS k.ca c}
 else if a=5 then{k with ir:=r7 k.ir (yq k c).1}
 else if a=6 then nw k c
 else if a=7 then{k with wk:=ub k.wk c}
 else{k with rq:=tU k.rq c}
def oU (k:K) (up:Bool) (bS c:Int):K:=
 if up&&decide (bS=1)then{k with co:=jw k.co c ae}
 else if !up&&decide (bS=1)then{k with ac:=wi k.ac c}
 else k
def pD (k:K) (bS c:Int):K:=
 if bS=1 then{k with co:=jw k.co c ah}
 else if bS=2 then{k with st:=lG k.st c}
 else
  let a:K:={k with on:=wi k.on c,ac:=wi k.ac c}
  let k2:=(gl a.th).foldl iO a
  (gI k2.ir).foldl iF k2
def uZ (k:K):Bool:=!(k.sp.1==0)&&ru k.sp
def pL (k:K) (c aA:Int):K:=
 if k.sp.1=0 then{k with sp:=(tW k.sp (ls (wi k.ac c) aA)).2}
 else if ru k.sp then
  let a:=(jc k.rt c).foldl (λk n=>iy k n c) k
  {a with sp:=(vu a.sp).2}
 else k
def G4 (k:K) (c:Int):Bool:=(dd k.rq c).isEmpty
def pH (k:K) (c:Int):K:=match dd k.rq c with
 | []=>k
 | a::_=>jd {k with rq:=gN k.rq a} a c
def nI (k:K) (bS c aA:Int):Bool:=
 if bS=1 then ah
 else if bS=2 then G4 k c
 else if bS=3 then decide ((l5 k.tm c aA).2≠0)
 else if bS=4 then decide ((sX k.wk c).2≠0)
 else if bS=5 then decide ((pX k.ca c aA).2≠0)
 else if bS=6 then uZ k
 else ah
def jA (k:K) (bS c aA:Int):K:=
 if bS=1 then{k with ac:=ls k.ac c}
 else if bS=2 then pH k c
 else if bS=3 then{k with tm:=jN k.tm c aA}
 else if bS=4 then{k with wk:=rD k.wk c}
 else if bS=5 then{k with ca:=lQ k.ca c aA}
 else if bS=6 then pL k c aA
 else if bS=7 then{k with st:=lG k.st c}
 else if bS=8 then k
 else{k with on:=ls k.on c,co:=jw k.co c ae}
def sR (k:K) (s:Int×Bool×Bool) (c aA:Int):Bool:=
 if s.2.1 then ah else if s.1=0 then decide (pJ k.ga=0)else if gF k.dk then ah else nI k s.1 c aA
def ib (k:K) (s:Int×Bool×Bool) (c aA:Int):K:=
 if s.2.1 then oU k (gF k.dk) s.1 c else if s.1=0 then{k with ga:=pK k.ga}else if gF k.dk then pD k s.1 c else jA k s.1 c aA
def gR (k:K) (aA:Int):K:=
 let a:K:={k with dk:=rh k.dk}
 if(iP k.dk).1.2.2 then a
 else
  let k2:=ib a (iP k.dk).1 (fZ k.dk) aA
  if sR a (iP k.dk).1 (fZ k.dk) aA then{k2 with dk:=wN k2.dk}else k2
def Ev (k:K) (aA:Int):List Rc:=if mB (gR k aA).dk then[(7,fZ k.dk,0,0,(zw (gR k aA).dk).1)]else[]
def nQ (k:K) (aA:Int):K:=if mB (gR k aA).dk then{gR k aA with dk:=uS (gR k aA).dk,ga:=uX (gR k aA).ga}else gR k aA
def dP (k:K) (c:Int):Int:=zj (cm k.co c).pw (cm k.co c).idle (ny k c)
def AH (k:K) (c:Int):List Rc:=
 if dP k c=0∨dP k c=1∨dP k c=2∨dP k c=9 then[]
 else if dP k c=3 then Ev k c
 else I9 k c (dP k c)
def qo (k:K) (c:Int):K:=
 if dP k c=0 then k
 else if dP k c=1 then{k with co:=ot k.co c k.now}
 else if dP k c=2 then{k with sp:=(vt k.sp c).2}
 else if dP k c=3 then nQ k c
 else if dP k c=9 then P0 k c
 else sU k c (dP k c)
def fL (k:K) (e:cJ):List Rc:=
 if e.1=1 then(if e.2.1<0∨k.n<=e.2.1 then fG 3 else AH k e.2.1)
 else if e.1=2 then fG (Eo k e.2.2.2.2)
 else if e.1=3 then lB (AE k e.2.2.1 e.2.2.2.1)
 else if 4<=e.1/\e.1<=9 then oR k e
 else if 12<=e.1/\e.1<=17 then fG (q9 k e)
 else if e.1=18 then(if e.2.1 = -1 then lB (tQ k.wk (-1))else qa k e)
 else if e.1=10∨e.1=20∨e.1=21∨e.1=22∨e.1=26 then qa k e
 else if e.1=23∨e.1=24 then fG (jI k (decide (e.1=23)) e.2.1)
 else qj k e
def dy (k:K) (e:cJ):K:=
 if e.1=1 then(if e.2.1<0∨k.n<=e.2.1 then k else qo k e.2.1)
 else if e.1=2 then sV k e.2.2.2.2
 else if e.1=3 then sQ k e.2.2.1 e.2.2.2.1
 else if 4<=e.1/\e.1<=9 then iT k e
 else if 12<=e.1/\e.1<=17 then ra k e
 else if e.1=18 then(if e.2.1 = -1 then{k with wk:=sJ k.wk (-1)}else j9 k e)
 else if e.1=10∨e.1=20∨e.1=21∨e.1=22∨e.1=26 then j9 k e
 else if e.1=23∨e.1=24 then iA k (decide (e.1=23)) e.2.1
 else ke k e
def dE (n:Nat):K:=
 {n:=n,on:=bp n,ac:=bp n,now:=0,lim:=1073741824,own:=λ_=>ag,th:=(n,aD 32 ag),rq:=aD n (32,[]),
  tm:=⟨0,n,aD 48 ag⟩,ir:=(n,aD 16 i0),rt:=(n,aD 16 (-1)),wk:=gi n,ca:=j7 n,st:=kX n 12,
  ga:=(aD n 0,0),sp:=(0,0),dk:=(ag,λ_=>ae),co:=aD n ⟨ah,ae,0,0⟩}
section
structure CI (x:CS):Prop where
 len:x.1.length=32
 one:∀v,ct x.2 v<=1
 has:∀v,cG x.1 v=decide (0<ct x.2 v)
section
variable {x:CS} {i:Nat}
theorem CI.row (h:CI x) (hi:i<x.2.length):x.2[i].Nodup/\x.2[i].length<=32:=by
 have a:=Cd h.one hi;refine⟨a,sh a λv c=>?_⟩;have:cG x.1 v=ah:=by rw[h.has,decide_eq_true (kN hi c)]
 have:=sq this;rw[h.len]at this;exact this
theorem CI.push (h:CI x) (hi:i<x.2.length) {v:Int} (g:1<=v/\v<=32) (n:ct x.2 v=0):gZ (dm x.2[i]) v=0/\kb (dm x.2[i]) v=dm (x.2[i]++[v]):=by
 have c:v∉x.2[i]:=λj=>by have:=kN hi j;omega
 obtain⟨k,_⟩:=h.row hi
 have l:(x.2[i]++[v]).length<=32:=by
  refine sh ?_ ?_
  ·rw[iW];exact⟨k,by simp,λa m b f e=>by simp at f;subst f;subst e;exact c m⟩
  ·intro u d;rw[dS]at d;rcases d with d|d
   ·have:cG x.1 u=ah:=by rw[h.has,decide_eq_true (kN hi d)]
    have:=sq this;rw[h.len]at this;exact this
   ·simp at d;subst d;exact g
 have e:gZ (dm x.2[i]) v=0:=by
  unfold gZ dm;simp only;rw[af c,af];simp at l;omega
 exact⟨e,by rw[kb,ar e];rfl⟩
theorem CI.abS (h:CI x) {av:Int} {j:Nat} (a:bU x av) (d:dX x.1=((j:Int)+1,0)) (e:j<32) (c:cG x.1 ((j:Int)+1)=ae) :
  tY x av=((j:Int)+1,0)/\(kg x av).1=iC x.1/\(kg x av).2=x.2.set av.toNat (bR x av++[(j:Int)+1]):=by
 obtain⟨i,hi,rfl⟩:=pO a;rw[h.has]at c;obtain⟨p1,p2⟩:=h.push hi (v:=(j:Int)+1) (by omega) (by simpa using c);unfold tY kg;rw[ar a,ar a,d];simp only[if_true];rw[qg hi,p1,p2];exact⟨by first|rfl|trivial,by first|rfl|trivial,by first|rfl|trivial⟩
theorem CI.send (h:CI x) (av:Int):CI (kg x av)/\(kg x av).2.length=x.2.length:=by
 by_cases c:bU x av
 ·rcases Ek x.1 with⟨j,n,d,k2,l⟩|⟨d,k2⟩
  ·obtain⟨_,m,f⟩:=h.abS c d (by have:=h.len;omega) l;obtain⟨i,hi,rfl⟩:=pO c;rw[qg hi,bK]at f;have g:=l;rw[h.has]at g;have g:ct x.2 ((j:Int)+1)=0:=by simpa using g
   have a:∀v,ct (kg x (i:Int)).2 v=ct x.2 v+if(j:Int)+1=v then 1 else 0:=λv=>by
    rw[f];have:=ou hi (x.2[i]++[(j:Int)+1]) v;rw[ml,te]at this;simp only[beq_iff_eq]at this;omega
   refine⟨⟨by rw[m,k2];simpa using h.len,λv=>?_,λv=>?_⟩,by rw[f];simp⟩
   ·rw[a];have:=h.one v;split
    ·rename_i e;subst e;omega
    ·omega
   ·rw[m,k2,Hv n,a];by_cases k:v=(j:Int)+1
    ·subst k;simp
    ·rw[af k,h.has,af (λe=>k e.symm)];rfl
  ·have e:kg x av=x:=by unfold kg;rw[ar c,d,af (by simp),k2]
   rw[e];exact⟨h,rfl⟩
 ·rw[kg,af c];exact⟨h,rfl⟩
theorem CI.ad5 (h:CI x) (av:Int):vv x av=(if bU x av then cN (dm (bR x av))else(0,3))/\(oS x av).2=(if bU x av then x.2.set av.toNat (bR x av).tail else x.2)/\CI (oS x av)/\(oS x av).2.length=x.2.length:=by
 unfold vv oS;by_cases c:bU x av
 ·obtain⟨i,hi,rfl⟩:=pO c;rw[ar c,ar c,ar c,ar c,qg hi];have k:=h.row hi;rw[bK]
  cases g:x.2[i]with
  | nil=>
   have l:x.2.set i []=x.2:=by rw[<-g,nc]
   have f0:cN (dm [])=(0,12):=rfl;simp only[f0,List.tail_nil,l];simp
   exact h
  | cons a t=>
   have m:cG x.1 a=ah:=by rw[h.has,decide_eq_true (kN hi (by rw[g];simp))]
   obtain⟨g1,n⟩:=NK m;simp only[cN,dm,List.tail_cons,ite_true,g1]
   have d:∀v,ct (x.2.set i t) v+(if a=v then 1 else 0)=ct x.2 v:=λv=>by
    have:=ou hi t v;rw[g,List.count_cons]at this;simp only[beq_iff_eq]at this;omega
   refine⟨by first|rfl|trivial,by first|rfl|trivial,⟨by rw[NL];exact h.len,λv=>?_,λv=>?_⟩,by simp⟩
   ·have:=d v;have:=h.one v;simp only;omega
   ·rw[n,h.has];have f:=d v;have o:=h.one v;by_cases j:v=a
    ·subst j;rw[ar rfl]at f;have:ct (x.2.set i t) v=0:=by omega
     simp[this]
    ·rw[af (λe=>j e.symm)]at f;rw[n5]at f;rw[decide_eq_true (show v≠a from j),mu];simp only[f]
 ·rw[af c,af c,af c,af c];exact⟨rfl,rfl,h,rfl⟩
theorem CI.Zc (h:CI x) (f t:Int):pX x f t=(if bU x f/\bU x t then(if f=t then(0,2)else cN (dm (bR x f)))else(0,3))/\
  (lQ x f t).2=(if bU x f/\bU x t then(if f=t then x.2 else if(cN (dm (bR x f))).2=0 then(ka x f).2.set t.toNat (bR (ka x f) t++[(cN (dm (bR x f))).1])else(ka x f).2)else x.2)/\CI (lQ x f t)/\(lQ x f t).2.length=x.2.length:=by
 unfold pX lQ;by_cases r:bU x f/\bU x t
 ·by_cases n:f=t
  ·simp only[ar r,ar n];exact⟨trivial,trivial,h,trivial⟩
  ·simp only[ar r,af n];obtain⟨D,E⟩:=r;obtain⟨i,hi,rfl⟩:=pO D;obtain⟨k,s,rfl⟩:=pO E;unfold ka;rw[qg hi,bK,bK]
   cases w:x.2[i]with
   | nil=>
    have F:x.2.set i []=x.2:=by rw[<-w,nc]
    have f0:cN (dm [])=(0,12):=rfl;simp only[f0,List.tail_nil,F];simp
    exact h
   | cons a l=>
    have A:cG x.1 a=ah:=by rw[h.has,decide_eq_true (kN hi (by rw[w];simp))]
    have o:=sq A;rw[h.len]at o;have I:ct x.2 a=1:=by have:=h.one a;have:=h.has a;rw[A]at this;have:=aO this.symm;omega
    simp only[cN,dm,List.tail_cons,ite_true]
    have p:∀v,ct (x.2.set i l) v+(if a=v then 1 else 0)=ct x.2 v:=λv=>by
     have:=ou hi l v;rw[w,List.count_cons]at this;simp only[beq_iff_eq]at this;omega
    have c:k<(x.2.set i l).length:=by simpa using s
    have er:bR (x.1,x.2.set i l) (k:Int)=(x.2.set i l)[k]:=qg (x:=(x.1,x.2.set i l)) c;rw[er];have y:i≠k:=λe=>n (by rw[e]);have g:(x.2.set i l)[k]=x.2[k]:=qD y c
    have j:a∉x.2[k]:=λG=>by
     have J:=kN c (v:=a) (by rw[g];exact G);have:=p a;rw[ar rfl]at this;omega
    have z:=h.row s
    have q:(x.2[k]++[a]).length<=32:=by
     refine sh ?_ ?_
     ·rw[iW];exact⟨z.1,by simp,λu d b B e=>by simp at B;subst B;subst e;exact j d⟩
     ·intro u d;rw[dS]at d;rcases d with d|d
      ·have:cG x.1 u=ah:=by rw[h.has,decide_eq_true (kN s d)]
       have:=sq this;rw[h.len]at this;exact this
      ·simp at d;subst d;exact o
    have C:gZ (32,(x.2.set i l)[k]) a=0:=by
     unfold gZ;simp only[g];rw[af j,af];simp at q;omega
    have H:(kb (32,(x.2.set i l)[k]) a).2=(x.2.set i l)[k]++[a]:=by rw[kb,ar C]
    rw[C,H]
    have m:∀v,ct ((x.2.set i l).set k ((x.2.set i l)[k]++[a])) v=ct x.2 v:=λv=>by
     have:=ou c ((x.2.set i l)[k]++[a]) v;rw[ml,te]at this;simp only[beq_iff_eq]at this;have:=p v;omega
    refine⟨by first|rfl|trivial,by first|rfl|trivial,⟨h.len,λv=>?_,λv=>?_⟩,by simp⟩
    ·show ct ((x.2.set i l).set k ((x.2.set i l)[k]++[a])) v<=1;rw[m];exact h.one v
    ·show cG x.1 v=decide (0<ct ((x.2.set i l).set k ((x.2.set i l)[k]++[a])) v);rw[m];exact h.has v
 ·simp only[af r];exact⟨trivial,trivial,h,trivial⟩
theorem CI.new {n:Int}:CI (j7 n):=by
 refine⟨by simp[j7],λv=>by rw[j7,uO];omega,λv=>?_⟩;rw[j7,uO]
 have a:∀k,(aD 32 ae).getD k ae=ae:=λk=>by
  rw[aQ,iJ];split<;>rfl
 unfold cG;rw[a];simp
end
section
variable {b:Nat} {x:CS}
end
end
section
theorem QT {pg:List Nat} {i k x:Nat} {v:Bool} (hi:i<pg.length) (n:k<8) (o:uD x=(uD pg[i]).set k v) (u:Int):fx (pg.set i x) u=if u=((8*i+k+1:Nat):Int)then v else fx pg u:=by
 have p:∀j,j<8->x.testBit j=if j=k then v else pg[i].testBit j:=by
  intro j q;have:=congrArg (λl=>l[j]?) o;simp only[uD,eZ,List.getElem?_range q,fX,cB,bO,List.length_range,n,ite_true]at this;by_cases a:k=j
  ·subst a;simpa using this
  ·rw[af a]at this;rw[af (λe=>a e.symm)];simpa using this
 by_cases hu:kT pg u
 ·obtain⟨r,m,d,c,rfl⟩:=CZ hu;rw[vl (by simpa using d) c,vl d c];by_cases f:i=r
  ·subst f;rw[pj,p m c];by_cases g:m=k
   ·subst g;simp
   ·rw[af g,af (by omega)]
  ·rw[qD f,af (by omega)]
 ·have h:¬kT (pg.set i x) u:=by unfold kT at hu⊢;rw[bZ];exact hu
  rw[fx,af h,fx,af hu,af];rintro rfl;exact hu (by unfold kT;omega)
theorem aab {pg:List Nat} {v:Int} (h:fx pg v=ah):kT pg v:=by
 unfold fx at h;split at h
 ·assumption
 ·cases h
theorem WQ {pg:List Nat} (c:mb pg) (v:Int):mb (nz pg v)/\∀u,fx (nz pg v) u=(fx pg u&&decide (u≠v)):=by
 by_cases h:fx pg v=ah
 ·obtain⟨i,k,hi,a,rfl⟩:=CZ (aab h);have o:=Ad _ (c.at hi) k a;rw[NM hi a,ar (by rw[<-vl hi a];exact h)];refine⟨c.set i o.2.2.2.2.1,λu=>?_⟩;rw[QT hi a o.2.2.2.2.2.2];by_cases hu:u=((8*i+k+1:Nat):Int)
  ·rw[ar hu];simp[hu]
  ·rw[af hu,decide_eq_true (show u≠_ from hu),mu]
 ·rw[nz,af h];refine⟨c,λu=>?_⟩;by_cases hu:u=v
  ·subst hu;simp[h]
  ·simp[hu]
theorem aec {pg:List Nat} (e:mb pg) (h:(gP pg).2=0):mb (k9 pg)/\fx pg (gP pg).1=ae/\(∀u,fx (k9 pg) u=(fx pg u||decide (u=(gP pg).1))):=by
 unfold gP at h
 cases a:sS pg with
 | none=>rw[a]at h;simp at h
 | some i=>
  obtain⟨hi,c⟩:=RY a;have f:=e.at hi;obtain⟨m,n,p,l⟩:=QM _ f;obtain⟨d,k2,q⟩:=l c;have o:=Ad _ f _ d;have g:pg.getD i 0=pg[i]:=by simp[hi]
  have j:(gP pg).1=((8*i+z8 pg[i]+1:Nat):Int):=by simp only[gP,a,g]
  have k:k9 pg=pg.set i (zE pg[i] (z8 pg[i])):=by simp only[k9,a,g]
  refine⟨by rw[k];exact e.set i o.2.2.2.1,by rw[j,vl hi d,k2],λu=>?_⟩;rw[j,k,QT hi d o.2.2.2.2.2.1];by_cases hu:u=((8*i+z8 pg[i]+1:Nat):Int)
  ·rw[ar hu];simp[hu]
  ·rw[af hu,decide_eq_false hu,lu]
theorem ad9 {pg:List Nat} (h:(gP pg).2≠0):k9 pg=pg:=by
 unfold gP at h;unfold k9
 cases a:sS pg with
 | none=>rfl
 | some i=>rw[a]at h;simp at h
theorem WU {pg:List Nat} (a:mb pg) (m:List Int):mb (gives pg m)/\∀u,fx (gives pg m) u=(fx pg u&&decide (u∉m)):=by
 induction m generalizing pg with
 | nil=>exact⟨a,λu=>by simp[gives]⟩
 | cons v m c=>
  obtain⟨d,e⟩:=WQ a v;obtain⟨f,g⟩:=c d;refine⟨f,λu=>?_⟩;have:fx (gives pg (v::m)) u=fx (gives (nz pg v) m) u:=rfl;rw[this,g,e,Bool.and_assoc];congr 1;by_cases hu:u=v<;>simp[hu]
def cn (L:List (List Int)) (v:Int):Nat:=L.flatten.count v
theorem B9 {L:List (List Int)} {i:Nat} (hi:i<L.length) (l':List Int) (v:Int):cn (L.set i l') v+L[i].count v=cn L v+l'.count v:=by
 unfold cn
 induction L generalizing i with
 | nil=>simp at hi
 | cons l L a=>
  cases i with
  | zero=>simp only[rV,List.flatten_cons,ml,List.getElem_cons_zero];omega
  | succ i=>
   have:=a (i:=i) (by simpa using hi);simp only[rW,List.flatten_cons,ml,uC];omega
theorem ME (L:List (List Int)) (v:Int):su L v=decide (0<cn L v):=by
 unfold su cn;rw[gB,mn,decide_eq_true_eq,rS,List.mem_flatten];simp
structure KI (x:KS):Prop where
 pg:mb x.1
 one:∀v,cn x.2 v<=1
 out:∀v,0<cn x.2 v->fx x.1 v=ah
 le:∀l∈x.2,l.length<=4
section
variable {x:KS} {i:Nat}
theorem KI.tk (h:KI x) (hi:i<x.2.length) (l:x.2[i].length<=3):KI ((ji (x.1,x.2[i])).1,x.2.set i (ji (x.1,x.2[i])).2):=by
 unfold ji;split
 ·rename_i a;simp only at a⊢;obtain⟨f,g,j⟩:=aec h.pg a
  have c:∀v,cn (x.2.set i (x.2[i]++[(gP x.1).1])) v=cn x.2 v+if(gP x.1).1=v then 1 else 0:=by
   intro v;have:=B9 hi (x.2[i]++[(gP x.1).1]) v;rw[ml,te]at this;simp only[beq_iff_eq]at this;omega
  have m:cn x.2 (gP x.1).1=0:=by
   apply eu;intro k;have:=h.out (gP x.1).1 (by omega);rw[g]at this;cases this
  refine⟨f,λv=>?_,λv d=>?_,ua h.le i (by simp;omega)⟩
  ·rw[c];split
   ·rename_i e;subst e;omega
   ·have:=h.one v;omega
  ·rw[c]at d;rw[j];split at d
   ·rename_i e;simp[e]
   ·rw[h.out v (by omega)];rfl
 ·rename_i a;simp only[nc];rw[ad9 a];exact h
theorem KI.fill (h:KI x) (hi:i<x.2.length):KI ((mC (x.1,x.2[i])).1,x.2.set i (mC (x.1,x.2[i])).2):=by
 unfold mC;split
 ·rename_i he;simp only at he;have d:=h.tk hi (by rw[he];simp);have a:(ji (x.1,x.2[i])).2.length<=3:=by unfold ji;split<;>simp[he]
  have c:=d.tk (i:=i) (by simpa using hi) (by simp only[pj];exact a);simp only[pj,qA]at c;exact c
 ·simp only[nc];exact h
theorem KI.less (h:KI x) (hi:i<x.2.length) {l':List Int} (hs:l'.Sublist x.2[i]):KI (x.1,x.2.set i l'):=by
 have a:∀v,cn (x.2.set i l') v<=cn x.2 v:=λv=>by
  have d:=B9 hi l' v;have:=hs.count_le v;omega
 exact⟨h.pg,λv=>aX (a v) (h.one v),λv c=>h.out v (jV c (a v)),ua h.le i (aX hs.length_le (h.le _ (cx hi)))⟩
theorem KI.alloc (h:KI x) (av:Int):KI (qL x av):=by
 unfold qL;split
 ·rename_i c;obtain⟨i,hi,rfl⟩:=tF c;rw[tS hi];have d:=h.fill hi;have a:=d.less (i:=i) (by simpa using hi) (l':=(mC (x.1,x.2[i])).2.dropLast) (by simp only[pj];exact List.dropLast_sublist _);simp only[qA]at a;exact a
 ·exact h
theorem KI.back (h:KI x) (hi:i<x.2.length) (k:Nat):KI (gives x.1 (x.2[i].take k),x.2.set i (x.2[i].drop k))/\∀v,kQ (gives x.1 (x.2[i].take k),x.2.set i (x.2[i].drop k)) v=kQ x v:=by
 obtain⟨l,e⟩:=WU h.pg (x.2[i].take k)
 have c:∀v,cn (x.2.set i (x.2[i].drop k)) v+(x.2[i].take k).count v=cn x.2 v:=λv=>by
  have f:=B9 hi (x.2[i].drop k) v;have g:x.2[i].count v=(x.2[i].take k).count v+(x.2[i].drop k).count v:=by rw[<-ml,List.take_append_drop]
  omega
 refine⟨⟨l,λv=>by show cn (x.2.set i (x.2[i].drop k)) v<=1;have:=c v;have:=h.one v;omega,λv j=>?_,ua h.le i (by have:=h.le _ (cx hi);simp;omega)⟩,λv=>?_⟩
 ·have f:=c v;have g:=h.one v;have:v∉x.2[i].take k:=λa=>by have:=rS.2 a;simp only at j;omega
  rw[e,h.out v (by simp only at j;omega)];simp[this]
 ·unfold kQ;simp only[ME,e];have f:=c v;have g:=h.one v;by_cases a:v∈x.2[i].take k
  ·have:=rS.2 a;have d:0<cn x.2 v:=by omega
   simp[a,d]
  ·have:(x.2[i].take k).count v=0:=List.count_eq_zero.2 a;have d:cn (x.2.set i (x.2[i].drop k)) v=cn x.2 v:=by omega
   simp[a,d]
theorem KI.WM (h:KI x) (av v:Int):KI (ql x av v):=by
 unfold ql;split
 ·rename_i a;obtain⟨i,hi,rfl⟩:=tF a.1;rw[tS hi]
  have g:KI ((np (x.1,x.2[i])).1,x.2.set i (np (x.1,x.2[i])).2)/\(∀u,kQ ((np (x.1,x.2[i])).1,x.2.set i (np (x.1,x.2[i])).2) u=kQ x u)/\(np (x.1,x.2[i])).2.length<=3:=by
   have:=h.le _ (cx hi);unfold np;split
   ·exact⟨(h.back hi 2).1,(h.back hi 2).2,by simp;omega⟩
   ·simp only[nc];rename_i c;simp only at c;exact⟨h,λ_=>trivial,by omega⟩
  generalize np (x.1,x.2[i])=s at g;obtain⟨d,j,k⟩:=g;have c:kQ (s.1,x.2.set i s.2) v=ah:=by rw[j];exact a.2
  unfold kQ at c;simp only[ME,br,ly,decide_eq_false_iff_not]at c
  have a:∀u,cn (x.2.set i (s.2++[v])) u=cn (x.2.set i s.2) u+if v=u then 1 else 0:=by
   intro u;have:=B9 (L:=x.2.set i s.2) (i:=i) (by simpa using hi) (s.2++[v]) u;rw[qA,pj,ml,te]at this;simp only[beq_iff_eq]at this;omega
  refine⟨d.pg,λu=>?_,λu f=>?_,ua h.le i (by simp;omega)⟩
  ·simp only[bK];rw[a];have:=d.one u;simp only at this;split
   ·rename_i e;subst e;omega
   ·omega
  ·simp only[bK]at f;rw[a]at f;split at f
   ·rename_i e;subst e;exact c.1
   ·exact d.out u (by omega)
 ·exact h
theorem KI.drain (h:KI x) (av:Int):KI (lG x av)/\∀v,kQ (lG x av) v=kQ x v:=by
 unfold lG;split
 ·rename_i a;obtain⟨i,hi,rfl⟩:=tF a;rw[tS hi];have:=h.back hi x.2[i].length;rw[dA,List.drop_length]at this;exact this
 ·exact⟨h,λ_=>rfl⟩
theorem KI.new {m n:Int} (h:tN m n):KI (kX m n):=by
 unfold tN at h
 have a:∀v,cn (kX m n).2 v=0:=λv=>by
  unfold cn kX;rw[List.count_flatten];simp
 refine⟨⟨by simp[kX];omega,λy c=>?_⟩,λv=>by rw[a];omega,λv d=>by rw[a]at d;omega,λl e=>?_⟩
 ·have:=jX c;omega
 ·have:=jX e;subst this;simp
end
end
structure cX (n:Nat) (x:RS):Prop where
 len:x.length=n
 one:∀k i j,bV x i k=ah->bV x j k=ah->i=j
 v:∀q∈x,fT q/\q.1=32
theorem cX.at {n:Nat} {x:RS} (h:cX n x) {i:Nat} (hi:i<x.length):fT x[i]/\x[i].1=32:=h.v _ (cx hi)
theorem cX.uniq {n:Nat} {x:RS} (h:cX n x) {k:Int} {i j:Nat} (a:bV x i k=ah) (b:bV x j k=ah):i=j:=h.one k i j a b
theorem fT.drop {q:Nat×bE} (h:fT q) (k:Int):fT (fm q k) where
 one:=(List.Sublist.map _ List.filter_sublist).nodup h.one
 gM:=λe a=>h.gM e ((gC.1 a).1)
 room:=aX (jW ..) h.room
 jE:=h.jE
theorem fT.push {q:Nat×bE} (h:fT q) {p k:Int} (g:gL q p k=0):fT (kZ q p k):=by
 have f:=aaI g;have c:=g;unfold gL at c;unfold kZ;rw[ar g];split at c
 ·omega
 ·split at c
  ·omega
  ·split at c
   ·omega
   ·refine⟨?_,?_,?_,h.jE⟩
    ·simp only[fj,pk,List.map_nil];refine iW.2 ⟨h.one,by simp,λa j b i=>?_⟩;simp only[fV]at i;rintro rfl;subst i;rw[show cO q a=ah from List.contains_iff_mem.2 j]at f;cases f
    ·intro e d;rcases dS.1 d with d|d
     ·exact h.gM e d
     ·simp only[fV]at d;subst d;simp only;omega
    ·simp only[cz,qJ];omega
section
variable {n:Nat} {x:RS}
theorem Qe (h:cX n x) (k:Int) (i:Nat) (j:Int):bV (gN x k) i j=(bV x i j&&decide (j≠k)):=by
 unfold gN;rcases rE x k with⟨c,d⟩|⟨i0,a,c,d⟩
 ·rw[c];simp only[gz,if_false];by_cases b:j=k
  ·subst b;rw[d];simp
  ·simp[b]
 ·rw[c];simp only[if_true,bK];rw[tJ a];by_cases hi:i=i0
  ·subst hi;rw[ar rfl,Oc,iR a,kU a]
  ·rw[af hi];by_cases b:j=k
   ·subst b
    have:bV x i j=ae:=by
     cases hm:bV x i j with
     | false=>rfl
     | true=>exact absurd (h.uniq hm d) hi
    rw[this];simp
   ·simp[b]
theorem cX.take (h:cX n x) (k:Int):cX n (gN x k):=by
 refine⟨?_,λj i e a c=>?_,?_⟩
 ·unfold gN;split<;>simp[h.len]
 ·rw[Qe h]at a c;simp only[br]at a c;exact h.uniq a.1 c.1
 ·unfold gN;rcases rE x k with⟨a,c⟩|⟨i0,b,a,c⟩
  ·rw[a];simp only[gz,if_false];exact h.v
  ·rw[a];simp only[if_true,bK];intro q d;rcases il d with d|rfl
   ·exact h.v q d
   ·rw[iR b];exact⟨(h.at b).1.drop k,(h.at b).2⟩
theorem Qd {c p k:Int} (d:oO x c p k=0) (i:Nat) (j:Int):bV (kd x c p k) i j=(bV x i j||(decide (i=c.toNat)&&decide (j=k))):=by
 have b:=d;unfold kd;rw[ar d];unfold oO at b;split at b
 ·rename_i e;obtain⟨i0,a,rfl⟩:=nH e;split at b
  ·omega
  ·simp only[bK];rw[tJ a,iR a];rw[iR a]at b;by_cases hi:i=i0
   ·subst hi;rw[ar rfl,Od b,kU a];simp
   ·rw[af hi];simp[hi]
 ·omega
theorem cX.put (h:cX n x) {c p k:Int} (m:oO x c p k=0):cX n (kd x c p k):=by
 have f:=m;unfold oO at f;split at f
 ·rename_i o;split at f
  ·omega
  ·rename_i hw
   have g:∀i,bV x i k=ae:=by
    rcases rE x k with⟨b,a⟩|⟨i0,d,b,a⟩
    ·exact a
    ·rw[b]at hw;exact absurd rfl hw
   refine⟨by rw[aaM];exact h.len,λj i r b a=>?_,?_⟩
   ·rw[Qd m]at b a;simp only[ik,br,decide_eq_true_eq]at b a;rcases b with b|⟨b,e⟩
    ·rcases a with a|⟨a,e⟩
     ·exact h.uniq b a
     ·subst e;rw[g]at b;cases b
    ·rcases a with a|⟨a,s⟩
     ·subst e;rw[g]at a;cases a
     ·omega
   ·unfold kd;rw[ar m];intro q l;obtain⟨i0,d,rfl⟩:=nH o;rw[iR d]at f l;rcases il l with l|rfl
    ·exact h.v q l
    ·exact⟨(h.at d).1.push f,by rw[Qm];exact(h.at d).2⟩
 ·omega
theorem aaN (h:cX n x) (g:∀i j,bV x i j=ah->1<=j/\j<=32) {c p k:Int} (o:0<=c/\c<n) (w:0<=p/\p<8) (y:1<=k/\k<=32) (d:∀i,bV x i k=ae):oO x c p k=0:=by
 have e:iu x c:=⟨o.1,by rw[h.len];exact o.2⟩;obtain⟨i0,a,rfl⟩:=nH e;unfold oO;rw[ar e]
 have s:(jk x k).2=ae:=by
  rcases rE x k with⟨t,_⟩|⟨i,_,_,q⟩
  ·rw[t]
  ·rw[d]at q;cases q
 rw[s,iR a];simp only[gz,if_false];have b:cO x[i0] k=ae:=by rw[<-kU a];exact d i0
 unfold gL;rw[af (by omega),b];simp only[gz,if_false];have r:=h.at a
 have f:(k::x[i0].2.map (·.2)).length<=32:=by
  refine sh (m:=32) (ni.2 ⟨λu=>?_,r.1.one⟩) ?_
  ·rw[show cO x[i0] k=ah from List.contains_iff_mem.2 u]at b;cases b
  ·intro v l;rcases eN.1 l with rfl|l
   ·omega
   ·exact g i0 v (by rw[kU a];exact List.contains_iff_mem.2 l)
 rw[r.2,af (by simp at f;omega)]
theorem Qb (h:cX n x) (k:Int) (i:Nat) (j:Int):bV (tT x k) i j=bV x i j:=by
 unfold tT;rcases rE x k with⟨b,c⟩|⟨i0,a,b,c⟩
 ·rw[b];rfl
 ·rw[b];simp only[if_true,bK];rw[tJ a,iR a];split
  ·rename_i e;subst e;rw[CY,kU a]
  ·rfl
theorem Qc (x:RS) (c:Int) (i:Nat) (j:Int):bV (tU x c) i j=bV x i j:=by
 unfold tU;split
 ·rename_i b;obtain⟨i0,a,rfl⟩:=nH b;simp only[bK];rw[tJ a,iR a];split
  ·rename_i e;subst e;rw[HA,kU a]
  ·rfl
 ·rfl
theorem Du (h:cX n x) {c k:Int}:k∈dd x c↔0<=c/\bV x c.toNat k=ah:=by
 unfold dd;by_cases b:iu x c
 ·rw[ar b];obtain⟨i0,a,rfl⟩:=nH b;rw[iR a,Xz (h.at a).1,bK,kU a];exact⟨λh=>⟨by omega,h⟩,λh=>h.2⟩
 ·rw[af b];constructor
  ·intro h;cases h
  ·intro d;have:=vg d.2;have:=d.1;exact absurd (show iu x c from⟨d.1,by omega⟩) b
theorem P2 (h:cX n x) (c:Int):(dd x c).Nodup:=by
 unfold dd;split
 ·rename_i j;obtain⟨i0,d,rfl⟩:=nH j;rw[iR d];have i:=(h.at d).1;unfold oJ;refine List.pairwise_flatMap.2 ⟨λa _=>HW i.one a.val,?_⟩;have k:L8.reverse.Nodup:=by decide
  refine k.imp ?_;intro a b f u l v m g;subst g;have e:=z7 i.one (sD.1 l) (sD.1 m) rfl;simp only[Prod.mk.injEq,and_true]at e;exact f (Fin.ext (by omega))
 ·exact iK
end
theorem Rx {S:TL} {i:Nat} (hi:i<S.length) (v:Option Th) (id:Int):aR (S.set i v) id=if id=(i:Int)+1 then v else aR S id:=by
 unfold aR;by_cases h1:1<=id
 ·rw[ar h1,ar h1];by_cases a:id=(i:Int)+1
  ·subst a;have b:((i:Int)+1).toNat-1=i:=by omega
   rw[ar rfl,b];simp[aQ,hi]
  ·rw[af a];have:i≠id.toNat-1:=by omega
   simp[aQ,this]
 ·rw[af h1,af h1,af (by omega)]
theorem lV {S:TL} {id:Int} {t:Th} (h:aR S id=aa t):1<=id/\id<=S.length:=by
 unfold aR at h;split at h
 ·rename_i h1;refine⟨h1,?_⟩
  have:id.toNat-1<S.length:=by
   apply eu;intro a;rw[aQ,fB (by omega)]at h;cases h
  omega
 ·cases h
theorem Ax {S:TL} {id:Int} {t:Th} (h:aR S id=aa t) (v:Option Th) (j:Int):aR (S.set (id.toNat-1) v) j=if j=id then v else aR S j:=by
 have:=lV h;rw[Rx (by omega)];have e:((id.toNat-1:Nat):Int)+1=id:=by omega
 rw[e]
theorem D4 (n:Nat) (id:Int):aR (aD n ag) id=ag:=by
 unfold aR;split
 ·rw[aQ];by_cases h:id.toNat-1<n
  ·simp[h]
  ·rw[fB (by simpa using h)];rfl
 ·rfl
section
variable {x:TX} {id c:Int}
theorem Wb {t:Th} (h:aR x.2 id=aa t) (j:Int):aR (kP x id).2 j=if j=id then ag else aR x.2 j:=by
 unfold kP;rw[h];exact Ax h ag j
theorem S8 {t:Th} {m:BV} (h:aR x.2 id=aa t) (a:lU x.1 m=ah) (j:Int):aR (jU x id m).2 j=if j=id then aa (t.1,m,t.2.2)else aR x.2 j:=by
 unfold jU;rw[h];simp only[a,if_true];exact Ax h _ j
theorem aao {t:Th} {f:Bool} (h:aR x.2 id=aa t) (a:0<=c/\c<x.1) (j:Int):aR (j8 x id c f).2 j=if j=id then aa (t.1,t.2.1,c,f,t.2.2.2.2)else aR x.2 j:=by
 unfold j8;rw[h];simp only[ar a];exact Ax h _ j
theorem acb {t:Th} {n:Int} (h:aR x.2 id=aa t) (hs:t.2.2.2.2.1=ae) (j:Int):aR (nO x id n).2 j=if j=id then aa (t.1,t.2.1,t.2.2.1,t.2.2.2.1,ah,n)else aR x.2 j:=by
 unfold nO;rw[h];simp only[hs];exact Ax h _ j
theorem ajg {t:Th} (h:aR x.2 id=aa t) (hs:t.2.2.2.2.1=ah) (j:Int):aR (l8 x id).2 j=if j=id then aa (t.1,t.2.1,t.2.2.1,t.2.2.2.1,ae,0)else aR x.2 j:=by
 unfold l8;rw[h];simp only[hs,if_true];exact Ax h _ j
theorem Nt (x:TX) (id:Int):(kP x id).1=x.1:=by unfold kP;split<;>rfl
theorem EZ (x:TX) (id:Int) (m:BV):(jU x id m).1=x.1:=by unfold jU;(repeat' split)<;>rfl
theorem Ih (x:TX) (id c:Int) (f:Bool):(j8 x id c f).1=x.1:=by unfold j8;(repeat' split)<;>rfl
theorem acd (x:TX) (id c:Int):(nO x id c).1=x.1:=by unfold nO;(repeat' split)<;>rfl
theorem Sr (x:TX) (id:Int):(l8 x id).1=x.1:=by unfold l8;(repeat' split)<;>rfl
theorem IW (x:TX) (p:Int) (m:BV):(jM x p m).1=x.1:=by unfold jM;split<;>rfl
theorem Nu (x:TX) (id:Int):(kP x id).2.length=x.2.length:=by unfold kP;split<;>simp
theorem E6 (x:TX) (id:Int) (m:BV):(jU x id m).2.length=x.2.length:=by unfold jU;(repeat' split)<;>simp
theorem Ii (x:TX) (id c:Int) (f:Bool):(j8 x id c f).2.length=x.2.length:=by unfold j8;(repeat' split)<;>simp
theorem ace (x:TX) (id c:Int):(nO x id c).2.length=x.2.length:=by unfold nO;(repeat' split)<;>simp
theorem Ss (x:TX) (id:Int):(l8 x id).2.length=x.2.length:=by unfold l8;(repeat' split)<;>simp
theorem IX (x:TX) (p:Int) (m:BV):(jM x p m).2.length=x.2.length:=by unfold jM;split<;>simp
theorem acm {p:Int} {m:BV} (h:(dW x p m).2=0):oQ x p m/\(1<=(dW x p m).1/\(dW x p m).1<=x.2.length)/\aR x.2 (dW x p m).1=ag/\∀j,aR (jM x p m).2 j=if j=(dW x p m).1 then aa (p,m,0,ae,ae,0)else aR x.2 j:=by
 unfold dW at h;split at h
 ·rename_i hk;have e:dW x p m=dX (jG x.2):=by unfold dW;rw[ar hk]
  rw[e];rcases Ek (jG x.2)with⟨j,k,d,l,f⟩|⟨d,l⟩
  ·have a:j<x.2.length:=by simpa [jG]using k
   have b:aR x.2 ((j:Int)+1)=ag:=by
    rw[pM]at f;unfold jG at f;rw[aQ,eZ,cS a]at f;simp at f;unfold aR;rw[ar (by omega),aQ];have g:((j:Int)+1).toNat-1=j:=by omega
    rw[g,cS a];simpa using f
   refine⟨hk,by rw[d];simp only;omega,by rw[d];exact b,λi=>?_⟩;unfold jM;rw[d];simp only[hk,and_true,if_true];have g:((j:Int)+1).toNat-1=j:=by omega
   rw[g];exact Rx a _ i
  ·rw[d]at h;cases h
 ·cases h
theorem acn {p:Int} {m:BV} (h:(dW x p m).2≠0):jM x p m=x:=by
 unfold dW at h;unfold jM;split at h
 ·rw[af (λa=>h a.2)]
 ·rename_i hk;rw[af (λa=>hk a.1)]
end
theorem HY {x:TX} {id:Int}:id∈gl x↔(aR x.2 id).isSome:=by
 unfold gl;rw[Y1];constructor
 ·rintro⟨b,g,e⟩;have i:id.toNat-1<x.2.length:=by omega
  obtain⟨j,rfl⟩:∃j:Nat,id=(j:Int)+1:=⟨id.toNat-1,by omega⟩;rw[pM]at e;unfold jG at e;have a:j<x.2.length:=by omega
  rw[aQ,eZ,cS a]at e;unfold aR;have f:((j:Int)+1).toNat-1=j:=by omega
  rw[ar b,f,aQ,cS a];simpa using e
 ·intro h;obtain⟨t,d⟩:=kJ.1 h;have b:=lV d;refine⟨b.1,b.2,?_⟩;obtain⟨j,rfl⟩:∃j:Nat,id=(j:Int)+1:=⟨id.toNat-1,by omega⟩;have a:j<x.2.length:=by omega
  rw[pM];unfold jG;rw[aQ,eZ,cS a];unfold aR at d;have f:((j:Int)+1).toNat-1=j:=by omega
  rw[ar b.1,f,aQ,cS a]at d;simp only[gA]at d;simp[d]
theorem AK {k:K} {id:Int} {t:Th} (h:aR k.th.2 id=aa t):dp k id=t/\(di k.th id).2=0:=by
 unfold dp di;rw[h];exact⟨rfl,rfl⟩
theorem aej {k:K} {id:Int} (h:aR k.th.2 id=ag):dp k id=(0,0,0,ae,ae,0)/\(di k.th id).2=4:=by
 unfold dp di;rw[h];exact⟨rfl,rfl⟩
def gh (x:RS) (id c:Int):Prop:=0<=c/\bV x c.toNat id=ah
structure dt (ex:Int) (th:TX) (rq:RS):Prop where
 a:∀id c,gh rq id c->∃t,aR th.2 id=aa t/\t.2.2.1=c/\t.2.2.2.2.1=ae/\id≠ex
 b:∀id t,aR th.2 id=aa t->t.2.2.2.2.1=ae->id≠ex->gh rq id t.2.2.1
 p:∀id t,aR th.2 id=aa t->0<=t.1/\t.1<8
structure dQ (ex:Int) (th:TX) (tm:dG) (own:Int->Option Int):Prop where
 a:∀t id,own t=aa id->1<=id/\(bH tm t).isSome=ah/\id≠ex/\∃x,aR th.2 id=aa x/\x.2.2.2.2.1=ah/\x.2.2.2.2.2=t
 b:∀id x,aR th.2 id=aa x->x.2.2.2.2.1=ah->id≠ex->own x.2.2.2.2.2=aa id
 c:∀id x,aR th.2 id=aa x->x.2.2.2.2.1=ae->x.2.2.2.2.2=0
def ry (t:Th):Bool×Int:=t.2.2.2.2
theorem dQ.congr {ex:Int} {th d:TX} {tm:dG} {own:Int->Option Int} (h:dQ ex th tm own) (m:∀j,(aR d.2 j).map ry=(aR th.2 j).map ry):dQ ex d tm own:=by
 have o:∀{j t},aR th.2 j=aa t->∃t',aR d.2 j=aa t'/\t'.2.2.2.2=t.2.2.2.2:=by
  intro j t k;have:=m j;rw[k]at this;obtain⟨t',e,f⟩:=jZ.1 this;exact⟨t',e,f⟩
 have n:∀{j t},aR d.2 j=aa t->∃t',aR th.2 j=aa t'/\t'.2.2.2.2=t.2.2.2.2:=by
  intro j t k;have:=m j;rw[k]at this;obtain⟨t',e,f⟩:=jZ.1 this.symm;exact⟨t',e,f⟩
 refine⟨λt id p=>?_,λid x l hs q=>?_,λid x l hs=>?_⟩
 ·obtain⟨e,f,r,x,s,u,w⟩:=h.a t id p;obtain⟨g,i,k2⟩:=o s;exact⟨e,f,r,g,i,by rw[k2];exact u,by rw[k2];exact w⟩
 ·obtain⟨g,i,k2⟩:=n l;rw[<-k2]at hs⊢;exact h.b id g i hs q
 ·obtain⟨g,i,k2⟩:=n l;rw[<-k2]at hs⊢;exact h.c id g i hs
def bL (ac:BV) (d:bP) (s c:Int):Prop:=hs ac c=ah∨∃r,d.1=aa r/\r.up=ae/\r.av=c/\(r.back=ah∨r.aC<s)
def PQ (ac:BV) (d:bP) (rq:RS):Prop:=∀id c,gh rq id c->bL ac d 3 c
def PT (ac:BV) (d:bP) (tm:dG):Prop:=∀t p,bH tm t=aa p->bL ac d 4 p.1
def PW (ac:BV) (d:bP) (wk:QL):Prop:=∀c v,0<=c->v∈eI wk c->bL ac d 5 c
def PC (ac:BV) (d:bP) (ca:CS):Prop:=∀c v,0<=c->v∈bR ca c->bL ac d 6 c
def PI (ac:BV) (d:bP) (ir:cg) (rt:cY):Prop:=∀n,0<=n->n<16->(gq ir n).1=ah->∃c,cy rt n=(c,ah)/\bL ac d 7 c
def PO (ac:BV) (d:bP) (st:KS):Prop:=∀c v,0<=c->v∈jJ st c->bL ac d 8 c
structure ur (n:Nat) (on ac:BV) (gs:Int) (sp:BV×BV) (r:bu):Prop where
 v:JM r
 over:r.over=ae
 ne:r.av≠r.aA
 aA:hs ac r.aA=ah
 av:r.av<n
 dV:hs on r.av = !r.up
 g0:r.aC=0->gs=1/\r.back=ae
 g1:0<r.aC->gs=2
 mg:ac=if r.up=ae/\2<=r.aC then ls on r.av else on
 Ed:sp.1≠0->r.up=ae/\r.back=ae/\r.aC=6/\r.told=ah/\sp.1=ls (wi ac r.av) r.aA
structure AS (n:Nat) (on ac:BV) (gs:Int) (sp:BV×BV) (d:bP):Prop where
 an:ac≠0
 ao:∀c,hs ac c=ah->hs on c=ah
 dV:∀c,hs on c=ah->0<=c/\c<n
 free:d.1=ag->ac=on/\gs=0/\sp.1=0
 dK:∀r,d.1=aa r->ur n on ac gs sp r
 lW:sp.1=0->sp.2=0
def gk (on:BV) (d:bP) (c:Int):Bool:=hs on c||match d.1 with
 | some r=>r.up&&decide (2<=r.aC)&&decide (c=r.av)
 | none=>ae
def Bw (n:Nat) (on:BV) (d:bP) (co:List eK):Prop:=∀c:Int,0<=c->c<n->(cm co c).pw=gk on d c
structure aB (k:K):Prop where
 n:1<=k.n/\k.n<=64
 iS:k.th.1=(k.n:Int)
 gQ:k.th.2.length=32
 rq:cX k.n k.rq
 kl:k.tm.n=k.n
 l6:k.tm.t.length=48
 jj:k.tm.now=k.now
 mE:k.ir.1=(k.n:Int)
 iw:k.ir.2.length=16
 jK:k.rt.1=(k.n:Int)
 jg:k.rt.2.length=16
 lf:k.wk.length=k.n+1
 kt:∀v,ct k.wk v<=1
 l9:∀v,0<ct k.wk v->1<=v/\v<=32
 ca:k.ca.2.length=k.n
 st:k.st.2.length=k.n
 ga:k.ga.1.length=k.n
 co:k.co.length=k.n
structure aJ (k:K):Prop where
 dk:AS k.n k.on k.ac k.ga.2 k.sp k.dk
 pw:Bw k.n k.on k.dk k.co
 tq:dt 0 k.th k.rq
 tm:dQ 0 k.th k.tm.t k.own
 q:PQ k.ac k.dk k.rq
 t:PT k.ac k.dk k.tm.t
 w:PW k.ac k.dk k.wk
 c:PC k.ac k.dk k.ca
 i:PI k.ac k.dk k.ir k.rt
 o:PO k.ac k.dk k.st
 ci:CI k.ca
 ki:KI k.st
theorem FP {m ac:BV} (h:ac≠0) (near:Int):hs ac (iZ m ac near).1=ah:=by
 have key:∀u:BV,u≠0->(∀c,hs u c=ah->hs ac c=ah)->hs ac (if hs u near=ah then(near,m&&& ac==0,(0:Int))else((lR u near).1,m&&& ac==0,(0:Int))).1=ah:=by
  intro u d a;split
  ·rename_i h1;exact a _ h1
  ·exact a _ (QC d near).2
 unfold iZ;rw[af h];refine key _ (NJ h) ?_;intro c b;split at b
 ·exact b
 ·rw[u5]at b;simp at b;exact b.2
theorem dt.ids {ex:Int} {th:TX} {rq:RS} (h:dt ex th rq) (d:th.2.length=32):∀i j,bV rq i j=ah->1<=j/\j<=32:=by
 intro i j b;obtain⟨t,c,_⟩:=h.a j i ⟨by omega,by simpa using b⟩;have:=lV c;omega
theorem QY {n:Nat} {ac:BV} {th:TX} {rq:RS} {id c:Int} {f:Bool} {t:Th} (K:n<=64) (F:hs ac c=ah) (m:c<n) (G:th.1=(n:Int)) (C:th.2.length=32) (D:cX n rq)
  (h:dt id th rq) (l:aR th.2 id=aa t) (w:t.2.2.2.2.1=ae) :
  oO rq c t.1 id=0/\cX n (kd rq c t.1 id)/\dt 0 (j8 th id c f) (kd rq c t.1 id)/\(∀j c',gh (kd rq c t.1 id) j c'↔(gh rq j c'∨(j=id/\c'=c)))/\
   (∀j,(aR (j8 th id c f).2 j).map ry=(aR th.2 j).map ry)/\(j8 th id c f).1=th.1/\(j8 th id c f).2.length=32/\
   (∀j,(aR (j8 th id c f).2 j).map (λt=>t.2.1)=(aR th.2 j).map (λt=>t.2.1)):=by
 have o:=lL F;have x:=lV l
 have y:∀i,bV rq i id=ae:=by
  intro i
  cases hm:bV rq i id with
  | false=>rfl
  | true=>
   obtain⟨_,_,_,_,z⟩:=h.a id i ⟨by omega,by simpa using hm⟩;exact absurd rfl z
 have A:oO rq c t.1 id=0:=aaN D (h.ids C) ⟨o.1,m⟩ (h.p id t l) ⟨x.1,by omega⟩ y;have d:=aao (f:=f) l (c:=c) ⟨o.1,by rw[G];exact m⟩
 have g:∀j c',gh (kd rq c t.1 id) j c'↔(gh rq j c'∨(j=id/\c'=c)):=by
  intro j c';unfold gh;rw[Qd A];simp only[ik,br,decide_eq_true_eq];constructor
  ·rintro⟨q,r|⟨r,H⟩⟩
   ·exact .inl ⟨q,r⟩
   ·exact .inr ⟨H,by omega⟩
  ·rintro(⟨q,r⟩|⟨q,r⟩)
   ·exact⟨q,.inl r⟩
   ·exact⟨by omega,.inr ⟨by omega,q⟩⟩
 refine⟨A,D.put A,⟨?_,?_,?_⟩,g,?_,by rw[Ih],by rw[Ii];exact C,?_⟩
 ·intro j c' s;rw[d];rcases(g j c').1 s with s|⟨rfl,rfl⟩
  ·obtain⟨u,E,k2,I,J⟩:=h.a j c' s;rw[af J];have:=lV E;exact⟨u,E,k2,I,by omega⟩
  ·rw[ar rfl];exact⟨_,rfl,rfl,w,by omega⟩
 ·intro j u k B s;rw[d]at k;rw[g];split at k
  ·rename_i e;cases k;exact .inr ⟨e,rfl⟩
  ·rename_i e;exact .inl (h.b j u k B e)
 ·intro j u k;rw[d]at k;split at k
  ·cases k;exact h.p id t l
  ·exact h.p j u k
 ·intro j;rw[d];split
  ·rename_i e;subst e;rw[l];rfl
  ·rfl
 ·intro j;rw[d];split
  ·rename_i e;subst e;rw[l];rfl
  ·rfl
theorem aaP {k:K} {id near:Int} {t:Th} (l:k.n<=64) (a:k.ac≠0) (b:∀c,hs k.ac c=ah->c<k.n) (o:k.th.1=(k.n:Int)) (p:k.th.2.length=32) (q:cX k.n k.rq)
  (h:dt id k.th k.rq) (i:aR k.th.2 id=aa t) (d:t.2.2.2.2.1=ae) :
  cX k.n (jd k id near).rq/\dt 0 (jd k id near).th (jd k id near).rq/\(∀j c,gh (jd k id near).rq j c->gh k.rq j c∨hs k.ac c=ah)/\
   (∀j,(aR (jd k id near).th.2 j).map ry=(aR k.th.2 j).map ry)/\(jd k id near).th.1=k.th.1/\(jd k id near).th.2.length=32/\
   (∀j,(aR (jd k id near).th.2 j).map (λt=>t.2.1)=(aR k.th.2 j).map (λt=>t.2.1)):=by
 have r:=(AK i).1;have e:=FP (m:=t.2.1) a near;unfold jd;rw[r];obtain⟨_,s,u,w,x,y,z,A⟩:=QY (f:=(iZ t.2.1 k.ac near).2.1) l e (b _ e) o p q h i d;refine⟨s,u,λj c g=>?_,x,y,z,A⟩;rcases(w j c).1 g with g|⟨_,rfl⟩
 ·exact .inl g
 ·exact .inr e
theorem AJ {n:Nat} {th:TX} {rq:RS} (f:cX n rq) (h:dt 0 th rq) (id:Int):cX n (gN rq id)/\dt id th (gN rq id)/\∀j c,gh (gN rq id) j c->gh rq j c:=by
 have e:∀j c,gh (gN rq id) j c↔gh rq j c/\j≠id:=by
  intro j c;unfold gh;rw[Qe f];simp only[br,decide_eq_true_eq];exact and_assoc.symm
 refine⟨f.take id,⟨λj c d=>?_,λj t g hs d=>?_,h.p⟩,λj c d=>((e j c).1 d).1⟩
 ·obtain⟨i,k2⟩:=(e j c).1 d;obtain⟨t,k,l,m,o⟩:=h.a j c i;exact⟨t,k,l,m,k2⟩
 ·have:=lV g;exact(e j _).2 ⟨h.b j t g hs (by omega),d⟩
end Go.Dav
