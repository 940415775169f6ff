/- What functions of the program come to, part 3; the texts are made small to keep within a claim. -/
import Derived.RangeFuncKeeps
import Derived.RangeFuncLeaves
import Derived.RangeFuncFrom
import Derived.Shelf.Abstract
import Derived.WalkKit
import Derived.OwnWalkIn
import Derived.TacticsInMore
import Derived.LoopNIn
import Derived.LoopIn
import Derived.Stop.RegionWithIn
import Derived.Laws.StructEq
import Derived.Test.YtobclpijhmkniaaGreatDoorPrtB
set_option linter.unusedVariables false
set_option linter.unusedSimpArgs false
set_option linter.unusedSectionVars false
namespace Go.Dav
open Go.Proofs
open _root_.Option renaming none→ah,some→aa
open _root_.Prod renaming fst→fv
open _root_.List renaming getD_eq_getElem?_getD→aO,getElem?_map→fy,getElem?_eq_getElem→cO,getElem?_eq_none→fV,map_set→fx,ext_getElem?→de,getElem?_set→cJ,map_map→s8,replicate→aD,getElem?_replicate→jt,nodup_nil→ju,length_replicate→fW,eq_nil_of_length_eq_zero→lM,mem_map→ck,length_eq_zero_iff→og,length_set→bN,nodup_append→jO,nodup_cons→mG,length_cons→il,range→bU,getElem?_take→iI
open _root_.Bool renaming false→ae,true→ag,false_and→js,true_and→dR
open _root_.Nat renaming le_of_eq→bF,le_refl→aX,mul_one→eX,le_trans→aW,lt_of_lt_of_le→jM
open Value renaming int→aB
open _root_.Iff renaming rfl→bp
open _root_.Int renaming tmod_eq_emod_of_nonneg→ot
open Ending renaming returned→cN
open IntKind renaming wrap→aV
theorem Jt:qq Tryz.prog 190 3 324 (.pointer ah):=⟨by kernel_rfl,by kernel_rfl,by kernel_rfl,by kernel_rfl⟩
abbrev Th:=Int×BV×Int×Bool×Bool×Int
def tZ (t:Th):List Value:=[I t.1,.int .u64 (mi t.2.1),I t.2.2.1,.bool t.2.2.2.1,.bool t.2.2.2.2.1,I t.2.2.2.2.2]
abbrev TQ:=List (Option (Nat×Th))
abbrev TL:=List (Option Th)
def rJ:Ob (Option (Nat×Th)):=λw F x=>match x with
 | none=>∀i,¬F i
 | some q=>Rw q.1 250 tZ w F q.2
instance Frame.op:Frame rJ where
 ak:=by
  rintro w w' F G (_|q) h k a
  ·exact h
  ·exact(Frame.rw ..).ak h k a
 lt:=by
  rintro w F (_|q) h
  ·exact λi hi=>absurd hi (h i)
  ·exact(Frame.rw ..).lt h
def gO (qs:TQ) (id:Int):Option Nat:=if 1<=id then(qs.getD (id.toNat-1) ah).map fv else ah
def aR (S:TL) (id:Int):Option Th:=if 1<=id then S.getD (id.toNat-1) ah else ah
def FC (b2 b3:Nat) (c:Int):List Value:=[pt b2,I c,.map (aa b3)]
def fP (b:Nat):Value:=pt b
abbrev TR:=(List Bool×((Int->Option Nat)×Nat))×(Int×TQ)
def jm (b b2 b3:Nat):Ob TR:=aF (aF (dq b2) (bM b3 fP)) (aF (Rw b 192 (FC b2 b3)) (Fam rJ))
instance Frame.FE (b b2 b3:Nat):Frame (jm b b2 b3):=by unfold jm;infer_instance
structure gI (x:TR) (S:TL):Prop where
 o:x.1.1=x.2.2.map Option.isSome
 s:x.2.2.map (Option.map Prod.snd)=S
 g:∀id,x.1.2.1 id=gO x.2.2 id
 len:x.2.2.length=32
def ff (b:Nat):Ob (Int×TL):=λw F x=>∃b2 b3 y,jm b b2 b3 w F y/\y.2.1=x.1/\gI y x.2
instance Frame.zk (b:Nat):Frame (ff b) where
 ak:=λ⟨b2,b3,y,h,r⟩ k a=>⟨b2,b3,y,(Frame.FE b b2 b3).ak h k a,r⟩
 lt:=λ⟨b2,b3,y,h,_⟩=>(Frame.FE b b2 b3).lt h
theorem ai.zk {b b2 b3:Nat} {w w':World} {F:Fp} {y:TR} {S:TL} (h:ai (jm b b2 b3) w w' F y) (k:gI y S):ai (ff b) w w' F (y.2.1,S):=by
 obtain⟨a,d,e⟩:=h;exact⟨a,⟨b2,b3,y,d,rfl,k⟩,e⟩
section
variable {b b2 b3:Nat} {w:World} {F:Fp} {y:TR}
theorem jm.slot (h:jm b b2 b3 w F y):∃F1,dq b2 w F1 y.1.1/\∀w' a,ai (dq b2) w w' F1 a->ai (jm b b2 b3) w w' F ((a,y.1.2),y.2):=by
 unfold jm at h⊢;obtain⟨F1,d,e⟩:=h.left;obtain⟨F2,f,k2⟩:=d.left;exact⟨F2,f,λw' a i=>e _ _ (k2 _ _ i)⟩
theorem jm.mp (h:jm b b2 b3 w F y):∃F1,bM b3 fP w F1 y.1.2/\∀w' a,ai (bM b3 fP) w w' F1 a->ai (jm b b2 b3) w w' F ((y.1.1,a),y.2):=by
 unfold jm at h⊢;obtain⟨F1,d,e⟩:=h.left;obtain⟨F2,f,k2⟩:=d.right;exact⟨F2,f,λw' j i=>e _ _ (k2 _ _ i)⟩
theorem jm.ay (h:jm b b2 b3 w F y):aM w b (FC b2 b3 y.2.1) 192:=by
 unfold jm at h;obtain⟨F1,a,e⟩:=h.right;obtain⟨F2,d,k2⟩:=a.left;exact d.ay
theorem jm.mQ (h:jm b b2 b3 w F y):∃F1,Fam rJ w F1 y.2.2/\∀w' a,ai (Fam rJ) w w' F1 a->ai (jm b b2 b3) w w' F (y.1,(y.2.1,a)):=by
 unfold jm at h⊢;obtain⟨F1,d,e⟩:=h.right;obtain⟨F2,f,k2⟩:=d.right;exact⟨F2,f,λw' j i=>e _ _ (k2 _ _ i)⟩
end
theorem Iw {qs:TQ} {i:Nat} (hi:i<qs.length) (v:Option (Nat×Th)) (id:Int):gO (qs.set i v) id=if id=(i:Int)+1 then v.map fv else gO qs id:=by
 unfold gO;by_cases h1:1<=id
 ·rw[aj h1,aj h1];by_cases a:id=(i:Int)+1
  ·subst a;have d:((i:Int)+1).toNat-1=i:=by omega
   rw[aj rfl,d];simp[aO,hi]
  ·rw[af a];have:i≠id.toNat-1:=by omega
   simp[aO,this]
 ·rw[af h1,af h1,af (by omega)]
section
variable {o:List Bool} {g:(Int->Option Nat)×Nat} {c:Int} {qs:TQ} {S:TL}
theorem gI.at (h:gI ((o,g),(c,qs)) S) {i:Nat} (hi:i<qs.length):S[i]?=aa ((qs[i]).map Prod.snd):=by
 have:=h.s;simp only at this;rw[<-this,fy,cO hi];rfl
theorem gI.Ke (h:gI ((o,g),(c,qs)) S):S.length=32:=by have:=h.s;have:=h.len;simp only at *;rw[<-h.s];simpa using this
theorem gI.sat (h:gI ((o,g),(c,qs)) S) (id:Int):(∃i,∃hi:i<qs.length,id=(i:Int)+1/\aR S id=qs[i].map Prod.snd/\gO qs id=qs[i].map fv)∨(aR S id=ah/\gO qs id=ah/\cQ o id=ae):=by
 have a:=h.len;have hs:=h.Ke;simp only at a;by_cases h1:1<=id/\id<=32
 ·refine .inl ⟨id.toNat-1,by omega,by omega,?_,?_⟩
  ·have:=h.at (i:=id.toNat-1) (by omega);rw[aR,aj h1.1,aO,this];rfl
  ·rw[gO,aj h1.1,aO,cO (by omega)];rfl
 ·refine .inr ⟨?_,?_,?_⟩
  ·unfold aR;split
   ·rw[aO,fV (by omega)];rfl
   ·rfl
  ·unfold gO;split
   ·rw[aO,fV (by omega)];rfl
   ·rfl
  ·have d:=h.o;simp only at d;have:o.length=32:=by rw[d];simpa using a
   cases e:cQ o id with
   | false=>rfl
   | true=>have:=sf e;omega
theorem gI.has (h:gI ((o,g),(c,qs)) S) {i:Nat} (hi:i<qs.length):cQ o ((i:Int)+1)=qs[i].isSome:=by
 have a:=h.o;simp only at a;rw[qO,a,aO,fy,cO hi];rfl
theorem map_set {α β:Type} (f:α->β) (l:List α) (i:Nat) (a:α):(l.set i a).map f=(l.map f).set i (f a):=fx
theorem gI.put (h:gI ((o,g),(c,qs)) S) {i:Nat} (hi:i<qs.length) (q:Nat×Th):gI ((o.set i ag,fz g ((i:Int)+1) q.1),(c,qs.set i (aa q))) (S.set i (aa q.2)):=by
 have a:=h.o;have hs:=h.s;simp only at a hs;refine⟨by simp only[map_set,a];rfl,by simp only[map_set,hs];rfl,λid=>?_,by simpa using h.len⟩;simp only[fz];rw[Iw hi];split
 ·rfl
 ·exact h.g id
theorem gI.del (h:gI ((o,g),(c,qs)) S) {i:Nat} (hi:i<qs.length):gI ((o.set i ae,iy g ((i:Int)+1)),(c,qs.set i ah)) (S.set i ah):=by
 have a:=h.o;have hs:=h.s;simp only at a hs;refine⟨by simp only[map_set,a];rfl,by simp only[map_set,hs];rfl,λid=>?_,by simpa using h.len⟩;simp only[iy];rw[Iw hi];split
 ·rfl
 ·exact h.g id
theorem gI.ak (h:gI ((o,g),(c,qs)) S) {i:Nat} (hi:i<qs.length) {q:Nat×Th} (a:qs[i]=aa q) (t:Th):gI ((o,g),(c,qs.set i (aa (q.1,t)))) (S.set i (aa t)):=by
 have d:=h.o;have hs:=h.s;simp only at d hs;refine⟨?_,by simp only[map_set,hs];rfl,λid=>?_,by simpa using h.len⟩
 ·simp only[map_set,d];apply de;intro j;rw[cJ];by_cases f:i=j
  ·subst f;simp[hi,a]
  ·simp[f]
 ·simp only;rw[Iw hi,h.g id];simp only;split
  ·rename_i e;subst e;rw[gO,aj (by omega)];have k:((i:Int)+1).toNat-1=i:=by omega
   rw[k,aO,cO hi,a];rfl
  ·rfl
end
abbrev TX:=Int×TL
def kI (S:TL):List Bool:=S.map Option.isSome
def qe (x:TX) (p:Int) (m:BV):Prop:=0<=p/\p<8/\mW x.1 m=ag
instance (x:TX) (p:Int) (m:BV):Decidable (qe x p m):=by unfold qe;infer_instance
def eK (x:TX) (p:Int) (m:BV):Int×Int:=if qe x p m then eL (kI x.2)else(0,2)
def kQ (x:TX) (p:Int) (m:BV):TX:=if qe x p m/\(eL (kI x.2)).2=0 then(x.1,x.2.set ((eL (kI x.2)).1.toNat-1) (aa (p,m,0,ae,ae,0)))else x
def ye (x:TX) (id:Int):Int:=match aR x.2 id with|some _=>0|none=>4
def lY (x:TX) (id:Int):TX:=match aR x.2 id with|some _=>(x.1,x.2.set (id.toNat-1) ah)|none=>x
def dt (x:TX) (id:Int):Th×Int:=match aR x.2 id with|some t=>(t,0)|none=>((0,0,0,ae,ae,0),4)
def oa (x:TX) (id:Int) (m:BV):Int:=match aR x.2 id with|some _=>if mW x.1 m then 0 else 2|none=>4
def kZ (x:TX) (id:Int) (m:BV):TX:=match aR x.2 id with|some t=>if mW x.1 m then(x.1,x.2.set (id.toNat-1) (aa (t.1,m,t.2.2)))else x|none=>x
def JF (x:TX) (id c:Int):Int:=match aR x.2 id with|some _=>if 0<=c/\c<x.1 then 0 else 3|none=>4
def lx (x:TX) (id c:Int) (f:Bool):TX:=match aR x.2 id with|some t=>if 0<=c/\c<x.1 then(x.1,x.2.set (id.toNat-1) (aa (t.1,t.2.1,c,f,t.2.2.2.2)))else x|none=>x
def zf (x:TX) (id:Int):Int:=match aR x.2 id with|some t=>if t.2.2.2.2.1 then 6 else 0|none=>4
def o7 (x:TX) (id n:Int):TX:=match aR x.2 id with|some t=>if t.2.2.2.2.1 then x else(x.1,x.2.set (id.toNat-1) (aa (t.1,t.2.1,t.2.2.1,t.2.2.2.1,ag,n)))|none=>x
def FP (x:TX) (id:Int):Int×Int:=match aR x.2 id with|some t=>if t.2.2.2.2.1 then(t.2.2.2.2.2,0)else(0,6)|none=>(0,4)
def lG (x:TX) (id:Int):TX:=match aR x.2 id with|some t=>if t.2.2.2.2.1 then(x.1,x.2.set (id.toNat-1) (aa (t.1,t.2.1,t.2.2.1,t.2.2.2.1,ae,0)))else x|none=>x
def gT (x:TX):List Int:=oX (kI x.2) x.2.length
section
variable {b:Nat} {w:World} {F:Fp} {x:TX}
theorem Yv {qs:TQ} {G:Fp} (h:Fam rJ w G qs) {i:Nat} (hi:i<qs.length):ai (Fam rJ) w w G (qs.set i ah):=by
 obtain⟨F1,a,_,k⟩:=Fam.at h hi;exact k w ah ⟨λ_=>False,λ_ h=>h,av.refl _ _,λ_ h=>h.elim⟩
theorem Yu {qs:TQ} {G:Fp} (h:Fam rJ w G qs) {i:Nat} (hi:i<qs.length) {w':World} {t:Th} (a:dy w w' (.cells (tZ t).toArray 250 (0,0))):ai (Fam rJ) w w' G (qs.set i (aa (w.heap.size,t))):=by
 obtain⟨F1,d,_,k⟩:=Fam.at h hi;exact k w' (aa (w.heap.size,t)) ⟨λi=>i=w.heap.size,Rw.new a rfl,(a.ak no).nn,λi hi=>.inr (bF hi.symm)⟩
structure Found (b:Nat) (w:World) (F:Fp) (x:TX) (i:Nat) (t:Th) (bi:Nat) (Fi:Fp):Prop where
 rw:Rw bi 250 tZ w Fi t
 db:∀w' t',ai (Rw bi 250 tZ) w w' Fi t'->ai (ff b) w w' F (x.1,x.2.set i (aa t'))
theorem yg (h:ff b w F x) (id:Int):Cx 236 #[pt b,I id] w λe w'=>w'=w/\
  ((aR x.2 id=ah/\e=Z (.tuple #[.pointer ah,I 4]))∨∃(i:Nat) (t:Th) (bi:Nat) (Fi:Fp),id=(i:Int)+1/\aR x.2 id=aa t/\e=Z (.tuple #[pt bi,I 0])/\Found b w F x i t bi Fi):=by
 obtain⟨b2,b3,⟨⟨o,g⟩,c,qs⟩,h,l,hI⟩:=h;obtain⟨x1,S⟩:=x;simp only at l hI⊢;subst l;refine aje ?_;obtain⟨F1,n,_⟩:=h.mp;have a:=kP Jt n id ag;have m:=hI.g id;simp only at m a;rw[m]at a;refine⟨λg=>by simp at g,λ_=>⟨_,rfl,_,h.ay.cell rfl,?_⟩⟩;rcases hI.sat id with⟨i,hi,rfl,d,k2⟩|⟨d,k2,_⟩
 ·cases f:qs[i]with
  | none=>
   rw[f]at d k2;rw[k2]at a
   exact⟨_,_,a,λ_=>⟨rfl,.inl ⟨d,rfl⟩⟩,λg=>by simp at g⟩
  | some q=>
   obtain⟨bi,t⟩:=q;rw[f]at d k2;rw[k2]at a;obtain⟨G,p,kf⟩:=h.mQ;obtain⟨Fi,j,_,k⟩:=Fam.at p (i:=i) hi;simp only at j kf;rw[f]at j;refine⟨_,_,a,λg=>by simp at g,λ_=>⟨rfl,.inr ⟨i,t,bi,Fi,rfl,d,rfl,j,λw' t' r=>?_⟩⟩⟩;have:=kf _ _ (k w' (aa (bi,t')) r);exact ai.zk this (hI.ak hi f t')
 ·rw[k2]at a;exact⟨_,_,a,λ_=>⟨rfl,.inl ⟨d,rfl⟩⟩,λg=>by simp at g⟩
theorem ff.ay (h:ff b w F x):∃b2 b3,aM w b (FC b2 b3 x.1) 192:=by
 obtain⟨b2,b3,y,h,a,hI⟩:=h;refine⟨b2,b3,?_⟩;rw[<-a];exact h.ay
theorem Uu (h:ff b w F x) (m:BV):Cx 232 #[pt b,.int .u64 (mi m)] w λe w'=>e=Z (.bool (mW x.1 m))/\w'=w:=by
 obtain⟨b2,b3,hB⟩:=h.ay;refine aja ?_;rw[wv];refine⟨λg=>⟨_,rfl,_,hB.cell rfl,⟨(uP x.1 w).mono ?_⟩⟩,λg=>⟨by rw[mW,g,js],rfl⟩⟩;rintro e w1 ⟨rfl,rfl⟩;refine⟨_,rfl,⟨(AX m _ w1).mono ?_⟩⟩;rintro e a ⟨rfl,rfl⟩;exact⟨_,rfl,by rw[mW,g,dR],rfl⟩
theorem wG {bi:Nat} {Fi:Fp} {t t':Th} (h:Rw bi 250 tZ w Fi t) {k:Nat} {v:Value} (f:k<6) (d:bc (tZ t) k [v]=tZ t') {K:World->Prop} (e:∀w',ai (Rw bi 250 tZ) w w' Fi t'->K w'):Wr w ((⟨bi,0,ah⟩:Addr).add k) [v] K:=
 h.ay.wr (by simp[tZ];omega) λw' a=>e w' (h.gD (s':=t') a.U (by rw[<-d];exact a.aK))
theorem Vq (h:ff b w F x) (n:Int) (m:BV):Cx 129 #[pt b,I n,.int .u64 (mi m)] w λe w'=>e=Z (I (oa x n m))/\ai (ff b) w w' F (kZ x n m):=by
 refine ahy ?_;refine⟨(yg h n).mono ?_⟩;rintro e w1 ⟨rfl,⟨a,rfl⟩|⟨i,t,bi,Fi,rfl,a,rfl,d⟩⟩
 ·simp only[oa,kZ,a];exact⟨_,_,rfl,λ_=>⟨rfl,ai.same h⟩,λg=>by simp at g⟩
 ·simp only[oa,kZ,a];refine⟨_,_,rfl,λg=>by simp at g,λ_=>⟨(Uu h m).mono ?_⟩⟩;rintro e k ⟨rfl,rfl⟩;refine⟨_,rfl,λg=>?_,λg=>?_⟩
  ·have g:mW x.1 m=ae:=by simpa using g
   simp only[g];exact⟨rfl,ai.same h⟩
  ·have g:mW x.1 m=ag:=by simpa using g
   simp only[g];refine⟨_,rfl,wG d.rw (t':=(t.1,m,t.2.2)) (by omega) rfl λw' f=>⟨rfl,?_⟩⟩;have:=d.db _ _ f;have j:((i:Int)+1).toNat-1=i:=by omega
   rw[j];exact this
theorem S8 (h:ff b w F x) (n c:Int) (f:Bool):Cx 234 #[pt b,I n,I c,.bool f] w λe w'=>e=Z (I (JF x n c))/\ai (ff b) w w' F (lx x n c f):=by
 refine ajc ?_;obtain⟨b2,b3,hB⟩:=h.ay;refine⟨(yg h n).mono ?_⟩;rintro e w1 ⟨rfl,⟨d,rfl⟩|⟨i,t,bi,Fi,rfl,d,rfl,k⟩⟩
 ·simp only[JF,lx,d];exact⟨_,_,rfl,λ_=>⟨rfl,ai.same h⟩,λg=>by simp at g⟩
 ·simp only[JF,lx,d];refine⟨_,_,rfl,λg=>by simp at g,λ_=>⟨λg=>⟨_,rfl,_,hB.cell rfl,λa=>?_,λa=>?_⟩,λg=>?_⟩⟩
  ·rw[af (by simp at g a;omega),af (by simp at g a;omega)];exact⟨rfl,ai.same h⟩
  ·rw[aj (by simp at g a;omega),aj (by simp at g a;omega)];refine⟨_,rfl,wG k.rw (t':=(t.1,t.2.1,c,t.2.2.2)) (by omega) rfl λs m=>?_⟩;obtain⟨F1,l,p,q⟩:=m;refine⟨_,rfl,wG l (t':=(t.1,t.2.1,c,f,t.2.2.2.2)) (by omega) rfl λu j=>⟨rfl,?_⟩⟩;have:=k.db _ _ (ai.next l p q j);have r:((i:Int)+1).toNat-1=i:=by omega
   rw[r];exact this
  ·rw[af (by simp at g;omega),af (by simp at g;omega)];exact⟨rfl,ai.same h⟩
theorem aet (h:ff b w F x) (n c:Int):Cx 241 #[pt b,I n,I c] w λe w'=>e=Z (I (zf x n))/\ai (ff b) w w' F (o7 x n c):=by
 refine ajj ?_;refine⟨(yg h n).mono ?_⟩;rintro e w1 ⟨rfl,⟨a,rfl⟩|⟨i,t,bi,Fi,rfl,a,rfl,d⟩⟩
 ·simp only[zf,o7,a];exact⟨_,_,rfl,λ_=>⟨rfl,ai.same h⟩,λg=>by simp at g⟩
 ·simp only[zf,o7,a];refine⟨_,_,rfl,λg=>by simp at g,λ_=>⟨_,rfl,_,d.rw.ay.cell rfl,λg=>?_,λg=>?_⟩⟩
  ·rw[aj g,aj g];exact⟨rfl,ai.same h⟩
  ·rw[af (by rw[g];simp),af (by rw[g];simp)];refine⟨_,rfl,wG d.rw (t':=(t.1,t.2.1,t.2.2.1,t.2.2.2.1,ag,t.2.2.2.2.2)) (by omega) rfl λq k=>?_⟩;obtain⟨F1,j,l,m⟩:=k;refine⟨_,rfl,wG j (t':=(t.1,t.2.1,t.2.2.1,t.2.2.2.1,ag,c)) (by omega) rfl λr f=>⟨rfl,?_⟩⟩;have:=d.db _ _ (ai.next j l m f);have p:((i:Int)+1).toNat-1=i:=by omega
   rw[p];exact this
theorem alS (h:ff b w F x) (n:Int):Cx 245 #[pt b,I n] w λe w'=>e=Z (.tuple #[I (FP x n).1,I (FP x n).2])/\ai (ff b) w w' F (lG x n):=by
 refine ajn ?_;refine⟨(yg h n).mono ?_⟩;rintro e w1 ⟨rfl,⟨d,rfl⟩|⟨i,t,bi,Fi,rfl,d,rfl,a⟩⟩
 ·simp only[FP,lG,d];exact⟨_,_,rfl,λ_=>⟨rfl,ai.same h⟩,λg=>by simp at g⟩
 ·simp only[FP,lG,d];refine⟨_,_,rfl,λg=>by simp at g,λ_=>⟨_,rfl,_,a.rw.ay.cell rfl,λg=>?_,λg=>?_⟩⟩
  ·have g:t.2.2.2.2.1=ae:=by simpa using g
   rw[af (by rw[g];simp),af (by rw[g];simp)];exact⟨rfl,ai.same h⟩
  ·have g:t.2.2.2.2.1=ag:=by simpa using g
   rw[aj g,aj g];refine⟨_,rfl,_,a.rw.ay.cell rfl,_,rfl,wG a.rw (t':=(t.1,t.2.1,t.2.2.1,t.2.2.2.1,ae,t.2.2.2.2.2)) (by omega) rfl λq k=>?_⟩;obtain⟨F1,j,l,m⟩:=k;refine⟨_,rfl,wG j (t':=(t.1,t.2.1,t.2.2.1,t.2.2.2.1,ae,0)) (by omega) rfl λr f=>⟨rfl,?_⟩⟩;have:=a.db _ _ (ai.next j l m f);have p:((i:Int)+1).toNat-1=i:=by omega
   rw[p];exact this
theorem vX (h:ff b w F x) (n:Int):Cx 127 #[pt b,I n] w λe w'=>e=Z (.tuple #[.agg #[I (dt x n).1.1,.int .u64 (mi (dt x n).1.2.1),I (dt x n).1.2.2.1,.bool (dt x n).1.2.2.2.1,.bool (dt x n).1.2.2.2.2.1,I (dt x n).1.2.2.2.2.2],I (dt x n).2])/\av no w w':=by
 refine ahw ?_;refine⟨λw1 k=>?_⟩;have d:=k.ak no;have p:ff b w1 F x:=(Frame.zk b).ak h d (λ_ _ h=>h);refine⟨(yg p n).mono ?_⟩;have f:∀{l j:World} {c:List Value},av no w l->mC l j w.heap.size c 250->av no w j:=λd a=>d.trans a.U (λi hi e=>absurd hi (by omega));rintro e l ⟨rfl,⟨m,rfl⟩|⟨i,t,bi,Fi,rfl,m,rfl,q⟩⟩
 ·simp only[dt,m];refine⟨_,_,rfl,λ_=>?_,λg=>by simp at g⟩;refine k.aK.gF (by simp) λj a=>?_;have hB:=a.aK;exact⟨_,hB.cell rfl,_,hB.cell rfl,_,hB.cell rfl,_,hB.cell rfl,_,hB.cell rfl,_,hB.cell rfl,rfl,f d a⟩
 ·simp only[dt,m];have hA:=q.rw.ay;refine⟨_,_,rfl,λg=>by simp at g,λ_=>⟨_,rfl,_,hA.cell rfl,_,hA.cell rfl,_,hA.cell rfl,_,hA.cell rfl,_,hA.cell rfl,_,hA.cell rfl,?_⟩⟩;refine k.aK.gF (by simp) λj a=>?_;have hB:=a.aK;exact⟨_,hB.cell rfl,_,hB.cell rfl,_,hB.cell rfl,_,hB.cell rfl,_,hB.cell rfl,_,hB.cell rfl,rfl,f d a⟩
theorem Um (h:ff b w F x):Cx 181 #[pt b] w λe w'=>∃p c,e=Z (.slice p (gT x).length c)/\Loc w w' 3 p c (gT x):=by
 obtain⟨b2,b3,⟨⟨o,g⟩,c,qs⟩,h,l,hI⟩:=h;refine ail ?_;obtain⟨F1,hs,_⟩:=h.slot
 have f:o=kI x.2:=by
  have i:=hI.o;have j:=hI.s;simp only at i j;rw[i,<-j,kI,s8];congr 1;funext v;cases v<;>rfl
 have m:=hI.Ke;have a:o.length=x.2.length:=by rw[f];simp[kI]
 simp only at hs;have d:=aeq hs;rw[a]at d;rw[f]at d;refine⟨λg=>by simp at g,λ_=>⟨_,rfl,_,by rw[zM];exact h.ay.cell rfl,⟨d.mono ?_⟩⟩⟩;rintro e w1 ⟨p,c,rfl,k⟩;exact⟨_,_,_,rfl,p,c,rfl,k⟩
theorem gI.ok {o:List Bool} {g:(Int->Option Nat)×Nat} {c:Int} {qs:TQ} {S:TL} (hI:gI ((o,g),(c,qs)) S):o=kI S:=by
 have a:=hI.o;have d:=hI.s;simp only at a d;rw[a,<-d,kI,s8];congr 1;funext v;cases v<;>rfl
theorem aeF (h:ff b w F x) (i:Tab w) (p:Int) (m:BV):Cx 125 #[pt b,I p,.int .u64 (mi m)] w λe w'=>e=Z (.tuple #[I (eK x p m).1,I (eK x p m).2])/\ai (ff b) w w' F (kQ x p m):=by
 refine ahu ?_;refine⟨λg=>by simp at g,λ_=>⟨λg1=>⟨λq=>⟨(Uu h m).mono ?_⟩,λq=>?_⟩,λg1=>?_⟩⟩
 ·rintro e w1 ⟨rfl,rfl⟩;refine⟨_,rfl,λg=>?_,λg=>?_⟩
  ·have a:¬qe x p m:=λh=>by simp[h.2.2]at g
   rw[eK,kQ,af a,af (λh=>a h.1)];exact⟨rfl,ai.same h⟩
  ·have hs:qe x p m:=⟨by simp at g1;omega,by simp at q;omega,by simpa using g⟩;rw[eK,kQ,aj hs];obtain⟨x1,S⟩:=x;obtain⟨b2,b3,⟨⟨o,W⟩,c,qs⟩,u,z,hI⟩:=id h;simp only at z hI⊢;subst z;have k:=hI.ok;have M:=hI.len;have N:=hI.Ke;simp only at M;obtain⟨F1,d,A⟩:=u.slot;simp only at d A;refine⟨_,rfl,_,by rw[zM];exact u.ay.cell rfl,⟨(Fj i d).mono ?_⟩⟩;rintro e B ⟨rfl,O⟩;obtain⟨F2,f,C,D⟩:=A _ _ O;rcases FB o with⟨j,E,t1,t2,X⟩|⟨t1,t2⟩
   ·rw[aj (show qe (c,S) p m/\(eL (kI S)).2=0 from⟨hs,by rw[<-k,t1]⟩)];simp only[<-k,t1,t2]at f⊢;have l:j<qs.length:=by rw[k]at E;simp[kI]at E;omega
    refine⟨_,_,rfl,λg=>by simp at g,λ_=>⟨_,rfl,_,f.ay.cell rfl,⟨λY P=>?_⟩⟩⟩;obtain⟨G,H,kf⟩:=f.mQ;simp only at H kf;have r:=Yu H l (t:=(p,m,0,ae,ae,0)) P;obtain⟨F3,J,Q,R⟩:=kf _ _ r;obtain⟨F4,K,L⟩:=J.mp;simp only at K L;obtain⟨T,U,s⟩:=ru Jt K ((j:Int)+1) B.heap.size;have n:=L _ _ s;have V:((j:Int)+1).toNat-1=j:=by omega
    simp only[V];exact⟨T,U,by first|rfl|trivial,ai.zk (ai.next f C D (ai.next J Q R n)) (hI.put l (B.heap.size,(p,m,0,ae,ae,0)))⟩
   ·rw[af (show ¬(qe (c,S) p m/\(eL (kI S)).2=0)from λh=>by have:=h.2;rw[<-k,t1]at this;cases this)];simp only[<-k,t1,t2]at f⊢;exact⟨_,_,rfl,λ_=>⟨by first|rfl|trivial,ai.zk ⟨F2,f,C,D⟩ hI⟩,λg=>by simp at g⟩
 ·have a:¬qe x p m:=λh=>by have:=h.2.1;simp at q;omega
  rw[eK,kQ,af a,af (λh=>a h.1)];exact⟨rfl,ai.same h⟩
 ·have a:¬qe x p m:=λh=>by have:=h.1;simp at g1;omega
  rw[eK,kQ,af a,af (λh=>a h.1)];exact⟨rfl,ai.same h⟩
theorem Yr (h:ff b w F x) (n:Int):Cx 238 #[pt b,I n] w λe w'=>e=Z (I (ye x n))/\ai (ff b) w w' F (lY x n):=by
 refine ajg ?_;refine⟨(yg h n).mono ?_⟩;rintro e w1 ⟨rfl,⟨k,rfl⟩|⟨i,t,bi,Fi,rfl,k,rfl,A⟩⟩
 ·simp only[ye,lY,k];exact⟨_,_,rfl,λ_=>⟨rfl,ai.same h⟩,λg=>by simp at g⟩
 ·simp only[ye,lY,k];clear A;obtain⟨x1,S⟩:=x;obtain⟨b2,b3,⟨⟨o,R⟩,c,qs⟩,h,r,hI⟩:=h;simp only at r hI k⊢;subst r;have B:=hI.len;simp only at B;rcases hI.sat ((i:Int)+1)with⟨d,hi,C,s1,s2⟩|⟨s1,_,_⟩
  ·have:d=i:=by omega
   subst this;rw[k]at s1;have j:qs[d].isSome=ag:=by cases D:qs[d]with|none=>rw[D]at s1;cases s1|some q=>rfl
   have a:=hI.has hi;rw[j]at a;obtain⟨F1,E,H⟩:=h.mp;obtain⟨J,K,L⟩:=tT Jt E ((d:Int)+1) 3 0;obtain⟨F2,l,M,N⟩:=H _ _ L;obtain⟨F3,hs,s⟩:=l.slot;simp only at hs s;refine⟨_,_,rfl,λg=>by simp at g,λ_=>⟨_,rfl,_,h.ay.cell rfl,J,K,_,rfl,_,by rw[zM];exact l.ay.cell rfl,⟨(Fg hs _).mono ?_⟩⟩⟩;rintro e T ⟨rfl,m⟩;obtain⟨F4,p,O,P⟩:=s _ _ m;obtain⟨G,u,kf⟩:=p.mQ;simp only at u kf;have f:=kf _ _ (Yv u hi);have z:((d:Int)+1).toNat-1=d:=by omega
   have Q:mR o ((d:Int)+1)=o.set d ae:=by rw[mR,aj a,z]
   rw[Q]at f p;rw[z];exact⟨_,rfl,by rw[tF,aj a],ai.zk (ai.next l M N (ai.next p O P f)) (hI.del hi)⟩
  ·rw[k]at s1;cases s1
def Ez (n:Int):Prop:=1<=n/\n<=64
def uS (n:Int):TX:=(n,aD 32 ah)
theorem gI.new (c:Int):gI ((aD 32 ae,(λ_=>ah,0)),(c,aD 32 ah)) (aD 32 ah):=by
 refine⟨by simp,by simp,λid=>?_,by simp⟩;simp only[gO];split
 ·rw[aO,jt];split<;>rfl
 ·rfl
theorem agQ (n:Int) (w:World):Cx 34 #[I n] w λe w'=>
  (¬Ez n/\e=Z (.tuple #[.pointer ah,I 2])/\w'=w)∨
  (Ez n/\∃b F,e=Z (.tuple #[pt b,I 0])/\ff b w' F (uS n)/\av no w w'/\∀i,F i->w.heap.size<=i):=by
 refine u34 ?_;refine⟨λg1=>⟨λd=>.inl ⟨?_,rfl,rfl⟩,λd=>?_⟩,λg1=>.inl ⟨?_,rfl,rfl⟩⟩
 ·unfold Ez;simp at d;omega
 ·have g1:¬n<1:=by simpa using g1
  have d:¬64<n:=by simpa using d
  refine⟨(Fh 32 w).mono ?_⟩;rintro e w1 B;obtain⟨_,b2,F1,rfl,r,t,u⟩:=B.resolve_left (λh=>absurd (by omega) h.1);have f:cj w w1 (dq b2) (aD 32 ae):=cj.new (av.refl _ _) t r u;clear t r u;refine⟨_,_,rfl,λg=>by simp at g,λ_=>⟨λj a=>⟨λz k=>?_⟩⟩⟩;replace f:cj w j (aF (dq b2) (bM w1.heap.size fP)) (aD 32 ae,(λ_=>ah,0)):=f.add (a.ak no) (bM.new a) (λi hi=>bF hi.symm);generalize w1.heap.size=b3 at f k⊢;have C:(aF (Rw j.heap.size 192 (FC b2 b3)) (Fam rJ)) z (λi=>i=j.heap.size) (n,aD 32 ah):=⟨_,λ_=>False,Rw.new k rfl,Fam.rep (A:=rJ) (s:=ah) (λ_ h=>h),λi=>by simp,λ_ _ h=>h⟩;have l:cj w z (jm j.heap.size b2 b3) ((aD 32 ae,(λ_=>ah,0)),(n,aD 32 ah)):=f.add (k.ak no) C (λi hi=>bF hi.symm);obtain⟨F,m,p,q⟩:=l;exact .inr ⟨⟨by omega,by omega⟩,_,F,rfl,⟨b2,b3,_,m,rfl,gI.new n⟩,p,q⟩
 ·unfold Ez;simp at g1;omega
end
def sd (g:Ring) (p:Option Addr) (c:Nat):List Value:=[.slice p g.r.length c,I g.f,I g.m]
abbrev RO (b:Nat):Ob (Ring×Option Addr×Nat):=Hd b 295 3 1 sd (λg=>g.r.length) (λg=>g.r.map (aB .i64))
def eP (b:Nat):Ob (Nat×List Int):=λw F x=>∃g y,RO b w F (g,y)/\g.ok/\g.r.length=x.1/\view g=x.2/\x.2.Nodup
instance Frame.fq (b:Nat):Frame (eP b) where
 ak:=λ⟨g,y,h,r⟩ k a=>⟨g,y,(Frame.hd ..).ak h k a,r⟩
 lt:=λ⟨_,_,h,_⟩=>(Frame.hd ..).lt h
def iT (x:Nat×List Int) (n:Int):Int:=if n∈x.2 then 6 else if x.2.length=x.1 then 5 else 0
def lz (x:Nat×List Int) (n:Int):Nat×List Int:=if iT x n=0 then(x.1,x.2++[n])else x
def cP (x:Nat×List Int):Int×Int:=match x.2 with
 | []=>(0,12)
 | a::_=>(a,0)
def JI (x:Nat×List Int):Nat×List Int:=(x.1,x.2.tail)
def tB (x:Nat×List Int) (n:Int):Int:=if n∈x.2 then 0 else 4
def Hl (x:Nat×List Int) (n:Int):Nat×List Int:=(x.1,x.2.erase n)
def KD (x:Nat×List Int):Int:=(cP x).2
def KE (x:Nat×List Int):Nat×List Int:=match x.2 with
 | []=>x
 | a::l=>(x.1,l++[a])
section
variable {w:World} {F:Fp} {b:Nat} {x:Nat×List Int} {g:Ring} {y:Option Addr×Nat}
theorem eP.len (h:eP b w F x):x.2.length<=x.1/\x.1<=1024/\0<x.1:=by
 obtain⟨g,y,e,a,c,d,f⟩:=h;rw[<-c,<-d,mu];exact⟨a.m,a.le,a.pos⟩
theorem Et (n:Int) (w:World):Cx 110 #[I n] w λe w'=>
  (¬(1<=n/\n<=1024)/\e=Z (.tuple #[.pointer ah,I 2])/\w'=w)∨
  ((1<=n/\n<=1024)/\∃b F,e=Z (.tuple #[pt b,I 0])/\eP b w' F (n.toNat,[])/\av no w w'/\∀i,F i->w.heap.size<=i):=by
 refine ahf ?_;refine⟨λd=>⟨λf=>.inl ⟨?_,rfl,rfl⟩,λf=>?_⟩,λd=>.inl ⟨?_,rfl,rfl⟩⟩
 ·simp at f;omega
 ·have d:¬n<1:=by simpa using d
  have f:¬1024<n:=by simpa using f
  obtain⟨m,rfl⟩:∃m:Nat,n=m:=⟨n.toNat,by omega⟩;obtain⟨w1,l,j⟩:=J5 oJ w (n:=m) (by omega) (by omega) .i64 .i64;refine⟨_,_,_,w1,l,⟨λo c=>.inr ⟨by omega,w1.heap.size,λi=>i=w1.heap.size∨bf (aa ⟨w.heap.size,0,ah⟩) i,rfl,?_,(j.ak no).and (c.ak no),?_⟩⟩⟩
  ·refine⟨⟨aD m 0,0,0⟩,(aa ⟨w.heap.size,0,ah⟩,m),⟨?_,?_,?_,λ_=>bp⟩,⟨?_,?_,?_,?_⟩,?_,alB m,ju⟩
   ·show aM o w1.heap.size (sd ⟨aD m 0,0,0⟩ _ m) _;unfold sd;rw[fW];exact c.aK
   ·simp only[fW];exact(Sl.new j (by simp) (by unfold maxLen;omega)).ak (c.ak no) (λ_ _ h=>h)
   ·rintro⟨a,k,p⟩;cases k;have:=j.size;simp only at p;omega
   ·simp;omega
   ·simp;omega
   ·simp;omega
   ·simp
   ·simp
  ·rintro i (rfl|⟨a,k,rfl⟩)
   ·have:=j.size;omega
   ·cases k;exact aX _
 ·simp at d;omega
theorem Gu (h:RO b w F (g,y)) (a:g.ok) {k:Nat} (d:k<=g.r.length):Cx 255 #[pt b,I k] w λe w'=>e=Z (I (pl g.r.length g.f k:Nat))/\av no w w':=by
 refine ajx ?_;intro w1 i j l m;have c:=av.same no i j l m;have hB:=h.ay.ak c id;have n:=a.f;have o:=a.le;refine⟨_,rfl,_,hB.cell rfl,_,rfl,_,_,_,hB.cell rfl,?_,?_,c⟩
 ·simp only;omega
 ·simp only;rw[aP (by omega),<-acF n d,ot (by omega)];simp
theorem Ef (h:RO b w F (g,y)) (A:g.ok):Cx 187 #[pt b] w λe w'=>∃p c,e=Z (.slice p (view g).length c)/\Loc w w' 3 p c (view g):=by
 refine aiq ?_;refine⟨λ_=>⟨_,rfl,_,h.ay.cell rfl,λo=>?_,λo=>⟨_,rfl,_,h.ay.cell rfl,?_⟩⟩,λo=>by simp at o⟩
 ·have o:g.m=0:=by simpa using o
  have Q:view g=[]:=lM (by rw[mu];exact o);rw[Q];exact⟨ah,0,rfl,Loc.nil (av.refl _ _) _⟩
 ·have R:=A.le;have hm:=A.m;have B:=A.f;obtain⟨w1,S,P⟩:=J5 oJ w (n:=g.m) (by omega) (by omega) .i64 .i64;refine⟨_,_,_,w1,S,?_⟩;intro w2 q s t z;have C:=(P.ak no).and (av.same no q s t z);have hB:=h.ay.ak C id;have D:Sl w1 3 1 (aa ⟨w.heap.size,0,ah⟩) g.m g.m ((aD g.m (0:Int)).map (aB .i64)):=Sl.new P (by simp) (by unfold maxLen;omega);have T:=D.ak (av.same no q s t z) (λ_ _ h=>h);have U:=h.sl.ak C (λ_ _ h=>h);have V:=U.OM g.f (by simp only;omega);refine⟨_,rfl,_,_,_,hB.cell rfl,_,rfl,_,hB.cell rfl,⟨by omega,by simp only;omega⟩,?_⟩;obtain⟨W,E,G,H⟩:=adS oJ T V.cells (sn:=g.r.length-g.f) (sc:=y.2-g.f) (by simp) (λu X=>by obtain⟨v,_,rfl⟩:=ck.1 (List.mem_of_mem_drop X);rfl) 3;refine⟨_,W,E,?_⟩;intro Y q s t z;have I:=H.trans (av.same no q s t z) (λ_ _ h=>h.elim)
  have d:∀i,i<w.heap.size->¬bf (aa ⟨w.heap.size,0,ah⟩) i:=by
   rintro i hi ⟨a,J,rfl⟩;cases J;exact Nat.lt_irrefl _ hi
  have j:av no w Y:=C.trans I (λi hi B=>absurd B (d i hi));have K:=h.ay.ak j id;have L:=h.sl.ak j (λ_ _ h=>h);have M:=G.ak (av.same no q s t z) (λ_ _ h=>h);refine⟨⟨by omega,by omega⟩,_,rfl,_,_,_,K.cell rfl,?_⟩;obtain⟨w5,N,l,O⟩:=adT oJ M L.cells (sn:=g.r.length) (sc:=y.2) (by simp) (by simp[Value.oneCell']) 3 (k:=min (g.r.length-g.f) g.m) (by omega);refine⟨_,w5,N,aa ⟨w.heap.size,0,ah⟩,g.m,by rw[mu],j.trans O (λi hi B=>absurd B (d i hi)),?_,?_⟩
  ·rw[mu];have:=adt A (aB .i64);simp only[eX]at l;rw[this]at l;exact l
  ·rintro i ⟨a,J,rfl⟩;cases J;exact aX _
theorem JP (h:eP b w F x):Cx 187 #[pt b] w λe w'=>∃p c,e=Z (.slice p x.2.length c)/\Cells w' p (x.2.map (aB .i64))/\av no w w':=by
 obtain⟨g,y,d,f,j,i,k⟩:=h;refine(Ef d f).mono ?_;rintro e w' ⟨p,c,rfl,a⟩;rw[i]at a⊢;exact⟨p,c,rfl,a.S.cells,a.U⟩
theorem Tm (h:eP b w F x):Cx 187 #[pt b] w λe w'=>∃p c,e=Z (.slice p x.2.length c)/\Loc w w' 3 p c x.2:=by
 obtain⟨g,y,d,f,j,i,k⟩:=h;refine(Ef d f).mono ?_;rintro e w' ⟨p,c,rfl,a⟩;rw[i]at a⊢;exact⟨p,c,rfl,a⟩
theorem adf (h:eP b w F x):Cx 392 #[pt b] w λe w'=>e=Z (I x.2.length)/\w'=w:=by
 obtain⟨g,y,a,d,f,c,i⟩:=h;refine alp ?_;exact⟨λh=>by simp at h,λ_=>⟨_,rfl,_,a.ay.cell rfl,by rw[<-c,mu],rfl⟩⟩
theorem ade (h:eP b w F x) (n:Int):Cx 254 #[pt b,I n] w λe w'=>e=Z (.bool (decide (n∈x.2)))/\av no w w':=by
 have f:=h.len;refine ajw ?_;refine⟨(JP h).mono ?_⟩;rintro e w' ⟨p,c,rfl,a,d⟩;refine⟨_,_,_,rfl,⟨(Oj a (by omega) n).mono ?_⟩⟩;rintro e w' ⟨rfl,rfl⟩;exact⟨_,rfl,rfl,d⟩
theorem JO (h:eP b w F x):Cx 307 #[pt b] w λe w'=>e=Z (.tuple #[I (cP x).1,I (cP x).2])/\av no w w':=by
 obtain⟨g,y,j,n,q,d,s⟩:=h;obtain⟨G,o⟩:=x;simp only at q d s;refine akg ?_;refine⟨λh=>by simp at h,λ_=>⟨_,rfl,_,j.ay.cell rfl,λc=>?_,λc=>?_⟩⟩
 ·have c:g.m=0:=by simpa using c
  have t:o=[]:=by rw[<-d];exact lM (by rw[mu];exact c)
  subst t;exact⟨rfl,av.refl _ _⟩
 ·have c:g.m≠0:=by simp at c;omega
  intro w1 u z A B;have k:=av.same no u z A B;have hB:=j.ay.ak k id;have C:=j.sl.ak k (λ_ _ h=>h);have p:=n.f;obtain⟨a,D,E⟩:=C.cells.cv (l:=g.r) (i:=g.f) p;refine⟨_,rfl,_,_,_,hB.cell rfl,_,rfl,_,hB.cell rfl,⟨by omega,by simp only;omega⟩,a,D,_,E,?_,k⟩
  cases o with
  | nil=>rw[<-og,mu]at d;omega
  | cons v l=>
   obtain⟨_,k2,_⟩:=UL n d;show _=cN (.tuple #[I v,I 0]);rw[<-k2];simp[aO,p]
theorem yN (h:eP b w F x) (n:Int):Cx 151 #[pt b,I n] w λe w'=>e=Z (I (iT x n))/\ai (eP b) w w' F (lz x n):=by
 refine ahU ?_;refine⟨λh=>by simp at h,λ_=>⟨(ade h n).mono ?_⟩⟩;rintro e w1 ⟨rfl,u⟩;refine⟨_,rfl,λd=>?_,λd=>?_⟩
 ·have d:n∈x.2:=by simpa using d
  have z:iT x n=6:=by simp[iT,d]
  rw[lz,z];exact⟨rfl,ai.quiet h u⟩
 ·have d:n∉x.2:=by simpa using d
  obtain⟨g,y,A,c,J,K,W⟩:=id h;intro w2 L M N O;have q:=u.and (av.same no L M N O);have hB:=A.ay.ak q id;have hm:=c.m;have X:=c.le;refine⟨_,rfl,_,hB.cell rfl,_,rfl,_,_,_,hB.cell rfl,λk2=>?_,λk2=>?_⟩
  ·have k2:g.m=g.r.length:=by simp at k2;omega
   have z:iT x n=5:=by
    have:x.2.length=x.1:=by rw[<-K,mu,<-J,k2]
    simp[iT,d,this]
   rw[lz,z];exact⟨rfl,ai.quiet h q⟩
  ·have k2:g.m<g.r.length:=by simp at k2;omega
   have z:iT x n=0:=by
    have:x.2.length≠x.1:=by rw[<-K,mu,<-J];omega
    simp[iT,d,this]
   rw[lz,z,aj rfl];intro Y L M N O;have s:=q.and (av.same no L M N O);have B:=A.ay.ak s id;have P:RO b Y F (g,y):=(Frame.hd ..).ak A s (λ_ _ h=>h);refine⟨_,rfl,_,_,_,B.cell rfl,_,rfl,_,B.cell rfl,⟨(Gu P c c.m).mono ?_⟩⟩;rintro e T ⟨rfl,Q⟩;have j:=s.and Q;have R:=A.ay.ak j id;have t:RO b T F (g,y):=(Frame.hd ..).ak A j (λ_ _ h=>h);have S:=Bd c.f c.m;have k:=t.sl;obtain⟨a,p,_⟩:=k.cells.cv (l:=g.r) (i:=0) c.pos;simp only at p k;refine⟨_,rfl,R.cell rfl,⟨by omega,by simp only;omega⟩,a,p,?_⟩;rw[p]at k;refine k.wr (o:=pl g.r.length g.f g.m*1) (by simp;omega) (λU C D=>?_);have E:=t.CT (w1:=U) (by rw[p];exact D);refine⟨_,rfl,_,E.cell rfl,_,rfl,E.wr (by simp[sd]) (λw6 hW=>⟨rfl,?_⟩)⟩
   have G:bc (g.r.map (aB .i64)) (pl g.r.length g.f g.m*1) [I n]=(g.r.set (pl g.r.length g.f g.m) n).map (aB .i64):=by
    rw[eX];exact vd S
   rw[G]at C
   have hT:ai (RO b) T w6 F (⟨g.r.set (pl g.r.length g.f g.m) n,g.f,g.m+1⟩,y):=by
    refine t.put (p':=y.1) (c':=y.2) (w1:=U) ?_ (by rw[p];exact D) (λi hi=>.inl hi) ?_
    ·simp only[bN];rw[p];exact C
    ·have H:=hW;simp only[sd,bN];rw[aP (by omega)]at H;exact H
   obtain⟨F',t1,t2,t3⟩:=hT;refine⟨F',⟨_,y,t1,⟨?_,?_,?_,?_⟩,?_,?_,?_⟩,(j.mono (λ_ _ h=>h.elim)).trans t2 (λ_ _ h=>h),λi hi=>(t3 i hi).imp id (λh=>aW j.size h)⟩
   ·simp only[bN];exact c.pos
   ·simp only[bN];exact c.le
   ·simp only[bN];exact c.f
   ·simp only[bN];omega
   ·simp only[bN];exact J
   ·rw[alG c k2,K]
   ·exact jO.2 ⟨W,by simp,λa p b V=>by simp at V;subst V;exact λe=>d (e ▸ p)⟩
theorem EU (h:eP b w F x):Cx 304 #[pt b] w λe w'=>e=Z (.tuple #[I (cP x).1,I (cP x).2])/\ai (eP b) w w' F (JI x):=by
 refine akd ?_;refine⟨(JO h).mono ?_⟩;rintro e w1 ⟨rfl,j⟩;obtain⟨K,B⟩:=x
 cases B with
 | nil=>exact⟨_,_,rfl,λk=>by simp[cP]at k,λ_=>⟨rfl,ai.quiet h j⟩⟩
 | cons v l=>
  obtain⟨g,y,q,c,s,t,u⟩:=id h;simp only at s t u;obtain⟨L,k2,C⟩:=UL c t;have D:RO b w1 F (g,y):=(Frame.hd ..).ak q j (λ_ _ h=>h);have M:=c.m;have E:=c.le;refine⟨_,_,rfl,λ_=>⟨(Gu D c (k:=1) c.pos).mono ?_⟩,λk=>by simp[cP]at k⟩;rintro e z ⟨rfl,o⟩;have p:=j.and o;have a:RO b z F (g,y):=(Frame.hd ..).ak q p (λ_ _ h=>h);refine⟨_,rfl,_,rfl,a.ay.wr (by simp[sd]) (λN d=>⟨_,rfl,_,d.aK.cell rfl,_,rfl,d.aK.wr (by simp[sd,bc]) (λA n=>⟨rfl,?_⟩)⟩)⟩
  have G:ai (RO b) z A F (⟨g.r,pl g.r.length g.f 1,g.m-1⟩,y):=by
   refine⟨F,⟨?_,a.sl.ak (d.U.and n.U) (λi hi e=>a.2.2.1 (e ▸ hi)),a.2.2.1,a.2.2.2⟩,(d.U.and n.U).mono (λi _ hi=>(a.2.2.2 i).2 (.inl hi)),λ_ hi=>.inl hi⟩;have:=n.aK;rw[aP (x:=(g.m:Int)-1) (by omega)]at this;show aM A b [.slice y.1 g.r.length y.2,I (pl g.r.length g.f 1:Nat),I ((g.m-1:Nat):Int)] _;rw[show((g.m-1:Nat):Int)=(g.m:Int)-1 by omega];exact this
  obtain⟨H,t1,t2,J⟩:=G;exact⟨H,⟨_,y,t1,⟨c.pos,c.le,Bd c.f c.pos,by simp only;omega⟩,s,C,(mG.1 u).2⟩,(p.mono (λ_ _ h=>h.elim)).trans t2 (λ_ _ h=>h),λi hi=>(J i hi).imp id (λh=>aW p.size h)⟩
theorem adg (h:eP b w F x):Cx 366 #[pt b] w λe w'=>e=Z (I (KD x))/\ai (eP b) w w' F (KE x):=by
 refine ak3 ?_;have f:=h.len;have a:x.2.Nodup:=by obtain⟨_,_,_,_,_,_,n⟩:=h;exact n
 refine⟨(EU h).mono ?_⟩;rintro e w1 ⟨rfl,o,t1,t2,c⟩;obtain⟨d,p⟩:=x
 cases p with
 | nil=>exact⟨_,_,rfl,λ_=>⟨rfl,o,t1,t2,c⟩,λk=>by simp[cP]at k⟩
 | cons v l=>
  refine⟨_,_,rfl,λk=>by simp[cP]at k,λ_=>⟨(yN t1 _).mono ?_⟩⟩;rintro e t ⟨rfl,F2,j,q,r⟩;simp only at f a;rw[mG]at a
  have m:iT (JI (d,v::l)) (cP (d,v::l)).1=0:=by
   simp only[il]at f;have:l.length≠d:=by omega
   simp[iT,JI,cP,a.1,this]
  refine⟨_,rfl,by rw[m];rfl,?_⟩;rw[lz,m,aj rfl]at j;refine⟨F2,j,t2.trans q (λi hi s=>(c i s).elim id (λh=>absurd h (by omega))),λi hi=>?_⟩;rcases r i hi with h|h
  ·exact c i h
  ·exact .inr (aW t2.size h)
end
section
variable {w:World} {F:Fp} {b:Nat} {x:Nat×List Int} {g:Ring} {y:Option Addr×Nat}
theorem eP.nodup (h:eP b w F x):x.2.Nodup:=by obtain⟨_,_,_,_,_,_,a⟩:=h;exact a
def shift (l:List Int) (k i:Nat):List Int:=(bU l.length).map (λj=>if k<=j/\j<i then l.getD (j+1) 0 else l.getD j 0)
theorem aek (l:List Int) (k:Nat):shift l k k=l:=by
 apply de;intro j;by_cases h:j<l.length
 ·simp[shift,h,show ¬(k<=j/\j<k) by omega]
 ·simp[shift,h]
theorem ael {l:List Int} {k i:Nat} (c:k<=i) (hi:i+1<l.length):(shift l k i).set i (l[i+1])=shift l k (i+1):=by
 apply de;intro j;rw[cJ];by_cases h:j<l.length
 ·by_cases a:i=j
  ·subst a;simp[shift,h,c,hi]
  ·rw[af a];have:(k<=j/\j<i)↔(k<=j/\j<i+1):=by omega
   simp[shift,h,this]
 ·by_cases a:i=j
  ·omega
  ·simp[shift,h,a]
theorem aej {l:List Int} {k:Nat} (e:k<l.length):(shift l k (l.length-1)).take (l.length-1)=l.eraseIdx k:=by
 apply de;intro j;rw[iI,List.getElem?_eraseIdx];by_cases h:j<l.length-1
 ·have c:j<l.length:=by omega
  have d:j+1<l.length:=by omega
  by_cases a:j<k
  ·simp[shift,h,c,a,show ¬k<=j by omega]
  ·simp[shift,h,c,d,a,show k<=j by omega]
 ·rw[af h];split<;>(symm;apply fV;omega)
set_option maxRecDepth 100000 in
theorem Tl (h:eP b w F x) (n:Int):Cx 364 #[pt b,I n] w λe w'=>e=Z (I (tB x n))/\ai (eP b) w w' F (Hl x n):=by
 have R:=h.nodup;obtain⟨g,y,h1,E,h3,h4,h5⟩:=id h;obtain⟨xc,l⟩:=x;simp only at h3 h4 h5 R;refine ak2 ?_;refine⟨λh=>by simp at h,λ_=>⟨(Ef h1 E).mono ?_⟩⟩;rintro e w1 ⟨p,c,rfl,G⟩;rw[h4]at G⊢;have P:=E.m;have T:=E.le;have V:l.length=g.m:=by rw[<-h4,mu]
 refine⟨_,_,_,rfl,⟨(Qg G.S.cells (by omega) n).mono ?_⟩⟩;rintro e W ⟨rfl,rfl⟩;refine⟨_,rfl,λq=>?_,λq=>?_⟩
 ·have q:n∉l:=λP=>by simp[idx,P]at q;omega
  have e1:tB (xc,l) n=4:=by simp[tB,q]
  rw[Hl,e1,List.erase_of_not_mem q];exact⟨rfl,ai.quiet h G.U⟩
 ·have q:n∈l:=by
   refine Decidable.byContradiction λP=>?_;simp[idx,P]at q
  have e1:tB (xc,l) n=0:=by simp[tB,q]
  have hi:idx l n=(l.idxOf n:Int):=by simp[idx,q]
  have hk:l.idxOf n<l.length:=List.idxOf_lt_length_of_mem q;rw[Hl,e1,hi];generalize am:l.idxOf n=k at hk⊢;have ap:RO b W F (g,y):=(Frame.hd ..).ak h1 G.U (λ_ _ h=>h)
  refine⟨bO bu (M:=Ch) (σ:=Nat×List Int) (λs=>HT (aa ⟨b,0,ah⟩) p l.length c (s.1:Int))
   (λs w'=>k<=s.1/\s.1+1<=l.length/\s.2.length=g.r.length/\view ⟨s.2,g.f,g.m⟩=shift l k s.1/\av F W w'/\RO b w' F (⟨s.2,g.f,g.m⟩,y)/\Cells w' p (l.map (aB .i64))) (λs _=>l.length-s.1) (k,g.r)
   ⟨rfl,rfl,rfl,trivial⟩ ⟨by simp,by simp only;omega,rfl,by simp only;rw[aek];exact h4,av.refl _ _,ap,G.S.cells⟩ ?_⟩
  rintro⟨i,r⟩ w2 ⟨i1,i2,i3,i4,J,d,K⟩;simp only at i1 i2 i3 i4 d⊢;rw[afJ];have ew:aV .i64 ((i:Int)+1)=((i+1:Nat):Int):=by rw[aP (by omega)];rfl
  rw[ew];refine⟨λaq Q q1 q2 q3 q4=>?_,λaz=>?_⟩
  ·have C:i+1<l.length:=by simp at aq;omega
   have t:=av.same no q1 q2 q3 q4;have A:RO b Q F (⟨r,g.f,g.m⟩,y):=(Frame.hd ..).ak d t (λ_ _ h=>h);have L:Ring.ok ⟨r,g.f,g.m⟩:=⟨by rw[i3];exact E.pos,by rw[i3];exact T,by rw[i3];exact E.f,by rw[i3];exact P⟩;obtain⟨a,N,hc⟩:=(K.no t).cv C;refine⟨_,rfl,_,_,_,A.ay.cell rfl,⟨by omega,by omega⟩,a,N,_,hc,⟨(Gu A L (k:=i) (by rw[i3];omega)).mono ?_⟩⟩;rintro e w4 ⟨rfl,B⟩;have u:RO b w4 F (⟨r,g.f,g.m⟩,y):=(Frame.hd ..).ak A B (λ_ _ h=>h);obtain⟨a',bb,be⟩:=((K.no t).no B).cv C;have bl:a'=a:=Option.some.inj (bb.symm.trans N);subst bl;have bm:pl r.length g.f i<r.length:=Bd L.f (by rw[i3];omega);have D:=u.sl;obtain⟨a2,z,_⟩:=D.cells.cv (l:=r) (i:=0) (by rw[i3];exact E.pos);simp only at z D;refine⟨_,rfl,be,u.ay.cell rfl,⟨by omega,by simp only;omega⟩,a2,z,?_⟩;rw[z]at D;refine D.wr (o:=pl r.length g.f i*1) (by simp;omega) (λw5 X Y=>?_)
   have al:bc (r.map (aB .i64)) (pl r.length g.f i*1) [I l[i+1]]=(r.set (pl r.length g.f i) l[i+1]).map (aB .i64):=by
    rw[eX];exact vd bm
   rw[al]at X;have H:av F w4 w5:=Y.mono (λj _ hj=>(u.2.2.2 j).2 (.inr (by rw[z];exact hj)))
   have bs:RO b w5 F (⟨r.set (pl r.length g.f i) l[i+1],g.f,g.m⟩,y):=by
    refine⟨?_,?_,u.2.2.1,u.2.2.2⟩
    ·have:=u.CT (w1:=w5) (by rw[z];exact Y);simpa [sd]using this
    ·simp only[bN];rw[z];exact X
   have O:∀a,p=aa a->¬F a.block:=λa N hf=>by
    have q:=G.F a.block ⟨a,N,rfl⟩;have k2:=(Frame.fq b).lt h _ hf;omega
   refine⟨(i+1,r.set (pl r.length g.f i) l[i+1]),⟨rfl,rfl,rfl,trivial⟩,⟨by simp only;omega,by simp only;omega,by simp only[bN];exact i3,?_,?_,bs,?_⟩,by simp only;omega⟩
   ·have:=UM L (i:=i) (by simp only;rw[i3];omega) l[i+1] (m:=g.m) (by simp only;rw[i3];exact P);simp only at this;rw[this,i4,ael i1 C]
   ·exact((J.trans t (λ_ _ h=>h.elim)).trans B (λ_ _ h=>h.elim)).trans H (λ_ _ h=>h)
   ·exact((K.no t).no B).ak (λa N=>by
     have q:=(G.S.lt a.block ⟨a,N,rfl⟩);exact H.ay _ (jM q (aW J.size (aW t.size B.size))) (O a N))
  ·have C:i+1=l.length:=by simp at az;omega
   refine⟨_,rfl,_,d.ay.cell rfl,_,rfl,d.ay.wr (by simp[sd]) (λQ hW=>⟨rfl,?_⟩)⟩
   have bv:aM Q b (sd ⟨r,g.f,g.m-1⟩ y.1 y.2) 295:=by
    have:=hW.aK;rw[aP (x:=(g.m:Int)-1) (by omega)]at this;show aM Q b [.slice y.1 r.length y.2,I g.f,I ((g.m-1:Nat):Int)] _;rw[show((g.m-1:Nat):Int)=(g.m:Int)-1 by omega];exact this
   have A:RO b Q F (⟨r,g.f,g.m-1⟩,y):=⟨bv,d.sl.ak hW.U (λj hj e=>d.2.2.1 (e ▸ hj)),d.2.2.1,d.2.2.2⟩;have bw:av F w Q:=((G.U.mono λ_ _ h=>h.elim).trans J (λ_ _ h=>h)).trans hW.U (λj _ hj=>(d.2.2.2 j).2 (.inl hj));refine⟨F,⟨_,y,A,⟨by simp only;rw[i3];exact E.pos,by simp only;rw[i3];exact T,by simp only;rw[i3];exact E.f,by simp only;rw[i3];omega⟩,by simp only;rw[i3];exact h3,?_,?_⟩,bw,λ_ hi=>.inl hi⟩
   ·rw[alD r g.f (m:=g.m) (by omega),i4,show i=l.length-1 by omega,<-V,aej hk,List.erase_eq_eraseIdx_of_idxOf am]
   ·exact R.erase n
end
end Go.Dav
namespace Go.Proofs
open Go.RowKit Go.Shelf
attribute [local go_sem] Oper.semAt_some
def mA (a b:Nat) (W c:World):Prop:=c.heap[a]?=W.heap[a]?/\c.heap[b]?=W.heap[b]?
theorem mA.t {a b:Nat} {A B C:World} (h:mA a b A B) (k:mA a b B C):mA a b A C:=⟨k.1.trans h.1,k.2.trans h.2⟩
theorem mA.b {a b:Nat} {w:World} (d:a<w.heap.size) (e:b<w.heap.size) (W:World) (l:Nat) (o c:Obj) (f:w.heap.size<=l) (_:W.heap[l]?=some o) (_:o.isCells=false) (_:o.isWalk=false):mA a b W (W.putObj l c):=
 ⟨World.putObj_heap_other (by omega),World.putObj_heap_other (by omega)⟩
theorem mA.refl (a b:Nat) (W:World):mA a b W W:=⟨rfl,rfl⟩
theorem Tryz.XZ {α:Type} (enc:α->Value) (F:Fence) (n:Nat) (h38:F.fn 341) (hro:F.round=none) (hn:1<=n) (l Bn bq:Nat) (L:List α) (hL:L.length=8) (J Jx:List α->World->Prop)
  (hY:∀pre x W,J pre W->pre.length<8->YieldAt F (n-1) Tryz.prog l #[enc x] W λe W'=>
   (e=.returned (.bool true)/\J (pre++[x]) W'/\mA Bn bq W W')∨(e=.returned (.bool false)/\Jx (pre++[x]) W'))
  (W:World) (hBn:W.cell? ⟨Bn,0,none⟩=some (.pointer (some ⟨bq,0,none⟩))) (hc:∀i v,L[i]?=some v->W.cell? ⟨bq,i,none⟩=some (enc v)) (h0:J [] W) :
  CallsIn F n Tryz.prog 341 #[.func (.yield l) #[] #[],.pointer (some ⟨Bn,0,none⟩)] W λe W'=>(∃v,e=.returned v)/\
   ((∃ys,ys=L.reverse/\J ys W')∨(∃pre,pre <+:L.reverse/\Jx pre W')):=by
 refine callsIn_of_wp Tryz.func341 rfl h38 ?_ hro;simp only[Tryz.ntmps341,List.size_toArray,List.length_cons,List.length_nil,Nat.reduceAdd,Nat.reduceSub,Array.replicate_succ,Array.replicate_zero,List.push_toArray,List.append_toArray,List.nil_append,List.cons_append]
 gi_wp2
 gi_loopw [3] (λp wr=>∃(k:Nat),p=.int .i64 ((k:Int)-1)/\k<=8/\wr.cell? ⟨Bn,0,none⟩=some (.pointer (some ⟨bq,0,none⟩))/\(∀i v,L[i]?=some v->wr.cell? ⟨bq,i,none⟩=some (enc v))/\J (L.drop k).reverse wr)
  (λp wr=>match p with|.int _ i=>(i+1).toNat|_=>0)
 case atStart=>
  exact⟨8,rfl,Nat.le_refl _,hBn,hc,by rw[List.drop_of_length_le (by omega)];exact h0⟩
 case round=>
  obtain⟨k,rfl,hk,hB,hC,hJs⟩:=hrel
  cases k with
  | zero=>
   gi_wp2
   go_end0
   exact⟨⟨_,rfl⟩,.inl ⟨_,by simp,hJs⟩⟩
  | succ k=>
   have hkl:k<L.length:=by omega
   have hcell:wr.cell? ⟨bq,k,none⟩=some (enc L[k]):=hC k _ (List.getElem?_eq_getElem hkl);have hdr:L.drop k=L[k]::L.drop (k+1):=List.drop_eq_getElem_cons hkl;have hrv:(L.drop (k+1)).reverse++[L[k]]=(L.drop k).reverse:=by rw[hdr,List.reverse_cons]
   obtain⟨fn,tmps,assign,body,hy,hR⟩:=hY _ L[k] wr hJs (by simp;omega);generalize L[k]=x at *;have hi:((k+1:Nat):Int)-1=(k:Int):=by omega
   rw[hi]
   gi_wp2
   refine hR.mono ?_;rintro e W3 (⟨rfl,hJ3,hk3⟩|⟨rfl,hJx3⟩)
   ·gi_wp2
    go_roundw
    case rel=>exact⟨k,rfl,by omega,(World.cell?_of_block hk3.1).trans hB,λi v h=>(World.cell?_of_block hk3.2).trans (hC i v h),by rw[<-hrv];exact hJ3⟩
    case measure=>show((k:Int)-1+1).toNat<((k:Int)+1).toNat;omega
   ·gi_wp2
    refine bodyPost_ret (results_none rfl _ _ _) rfl ?_;exact⟨⟨_,rfl⟩,.inr ⟨_,⟨(L.take k).reverse,by rw[hrv,<-List.reverse_append,List.take_append_drop]⟩,hJx3⟩⟩
set_option maxHeartbeats 1000000 in
theorem Tryz.OF (F:Fence) (n:Nat) (h25:F.fn 273) (hro:F.round=none) (p0:Option Addr) (w:World) :
  CallsIn F n Tryz.prog 273 #[.pointer p0] w λe w'=>e=.returned (.func (.func 341) #[] #[.pointer (some ⟨w.heap.size,0,none⟩)])/\w'=w.alloc (.cells #[.pointer p0] 152):=by
 refine callsIn_of_wp Tryz.func273 rfl h25 ?_ hro;simp only[Tryz.ntmps273,List.size_toArray,List.length_cons,List.length_nil,Nat.reduceAdd,Nat.reduceSub,Array.replicate_succ,Array.replicate_zero,List.push_toArray,List.append_toArray,List.nil_append,List.cons_append]
 gi_wp2
 go_ret
 exact⟨rfl,rfl⟩
theorem Tryz.OG {α:Type} (enc:α->Value) (F:Fence) (n:Nat) (a:F.fn 341) (b:F.round=none) (d:1<=n) (Bn bq:Nat) (L:List α) (e:L.length=8) (w:World) (f:Bn<w.heap.size) (g:bq<w.heap.size)
  (hB:w.cell? ⟨Bn,0,none⟩=some (.pointer (some ⟨bq,0,none⟩))) (j:∀i v,L[i]?=some v->w.cell? ⟨bq,i,none⟩=some (enc v)) :
  SeqStopsK F n Tryz.prog 341 #[.pointer (some ⟨Bn,0,none⟩)] (λx:α=>#[enc x]) (mA Bn bq) (λk=>k=L.reverse) (λpre=>pre <+:L.reverse) 8 w:=λl J Jx W c _ _ m o=>
 Tryz.XZ enc F n a b d l Bn bq L e J Jx m W ((c.cell (p:=⟨Bn,0,none⟩) (by simp only;omega)).trans hB) (λi v h=>(c.cell (p:=⟨bq,i,none⟩) (by simp only;omega)).trans (j i v h)) o
end Go.Proofs
namespace Go.Dav
open Go.Proofs
theorem av.grown {w W b:World} {row:Option Nat} (h:av no w W) (a:W.grownBy b row) (c:∀r,row=some r->w.heap.size<=r):av no w b:=
 ⟨Nat.le_trans h.size a.size,a.os.trans h.os,a.tape.trans h.tape,a.output.trans h.output,λi hi _=>(a.block i (Nat.lt_of_lt_of_le hi h.size) (λe=>by have:=c i e.symm;omega)).trans (h.ay i hi id)⟩
theorem av.G5 {w W:World} {a:Addr} {v:Value} (h:av no w W) (b:w.cell? a=some v):W.cell? a=some v:=by
 have c:a.block<w.heap.size:=by
  obtain⟨o,d,_⟩:=cells_of_cell b;exact tM d
 exact(World.cell?_of_block (h.ay _ c id)).trans b
theorem av.uw (w:World) (o:Obj):av no w (w.alloc o):=(av.refl no w).grown (World.grownBy_alloc w o none) (λr e=>by cases e)
theorem av.stored {w W:World} (h:av no w W) {b:Nat} (c:w.heap.size<=b) (o:Nat) (v:Value):av no w (W.setCell ⟨b,o,none⟩ v):=
 ⟨by show _<=(Array.modify _ _ _).size;rw[Array.size_modify];exact h.size,h.os,h.tape,h.output,λi hi a=>by
  rw[<-h.ay i hi a];simp only[World.setCell,Array.getElem?_modify];rw[if_neg (by omega)]⟩
end Go.Dav
namespace Go.Proofs
open Go.RowKit Go.Shelf Go.Dav
attribute [local go_sem] Oper.semAt_some
theorem Xi {W:World} {B:Nat} {v:Value} {t:TypeId} (h:W.heap[B]?=some (.cells #[v] t (0,0))):W.cell? ⟨B,0,none⟩=some v/\W.frozen? ⟨B,0,none⟩=false:=by
 constructor<;>simp[World.cell?,World.frozen?,h]
theorem Ag (W:World) (v:Value) (t:TypeId):(W.alloc (.cells #[v] t)).cell? ⟨W.heap.size,0,none⟩=some v/\(W.alloc (.cells #[v] t)).frozen? ⟨W.heap.size,0,none⟩=false:=
 Xi (World.alloc_heap_new W _)
theorem Ae {W:World} {a:Addr} {v:Value} (o:Obj) (h:W.cell? a=some v):(W.alloc o).cell? a=some v:=cell_kept h (World.grownBy_alloc W o none) (λr e=>by cases e)
theorem DM {W:World} {a:Addr} {v:Value} (o:Obj) (h:W.cell? a=some v) (b:W.frozen? a=false):(W.alloc o).frozen? a=false:=(frozen_kept h (World.grownBy_alloc W o none) (λr e=>by cases e)).trans b
theorem N8 {n l:Nat} {P:Program} {f:FuncId} {args:Array Value} {w:World} {R:Ending->World->Prop} (h:Calls P f args w R):CallsIn (Fence.wide.inRound l) n P f args w R:=(callsIn_wide (n:=n)).2 h
def vf {α:Type} (a:α->Nat) (len:α->Nat) (l:List α):Value:=
 match l.find? (λx=>decide (0<len x))with
 | none=>.tuple #[.pointer none,.int .i64 12]
 | some x=>.tuple #[.pointer (some ⟨a x,0,none⟩),.int .i64 0]
theorem agT {α:Type} {a:α->Nat} {len:α->Nat} {l:List α} (h:∀y∈l,len y=0):vf a len l=.tuple #[.pointer none,.int .i64 12]:=by
 unfold vf;rw[List.find?_eq_none.2 (λy b=>by simp[h y b])]
theorem agU {α:Type} {a:α->Nat} {len:α->Nat} {l b:List α} {x:α} (c:b++[x] <+:l) (h:∀y∈b,len y=0) (d:0<len x):vf a len l=.tuple #[.pointer (some ⟨a x,0,none⟩),.int .i64 0]:=by
 obtain⟨t,rfl⟩:=c;unfold vf;rw[List.append_assoc,List.find?_append,List.find?_eq_none.2 (λy e=>by simp[h y e])];simp[d]
set_option maxRecDepth 100000 in
set_option maxHeartbeats 4000000 in
theorem Tryz.agV {α:Type} (bl:α->Nat) (len:α->Nat) (L:List α) (hL:L.length=8) (q:Nat) (w:World) (hq:q<w.heap.size)
  (hc:∀i v,L[i]?=some v->w.cell? ⟨q,i,none⟩=some (.pointer (some ⟨bl v,0,none⟩)))
  (hlen:∀x W,av no w W->Calls Tryz.prog 392 #[.pointer (some ⟨bl x,0,none⟩)] W λe w'=>e=.returned (.int .i64 (len x))/\w'=W) :
  Calls Tryz.prog 365 #[.pointer (some ⟨q,0,none⟩)] w λe w'=>
   e=.returned (vf bl len L.reverse)/\av no w w':=by
 rw[<-callsIn_wide (n:=5)];refine callsIn_of_wp_marks Tryz.func365 rfl trivial ?_ rfl;simp only[Tryz.ntmps365,List.size_toArray,List.length_cons,List.length_nil,Nat.reduceAdd,Nat.reduceSub,Array.replicate_succ,Array.replicate_zero,List.push_toArray,List.append_toArray,List.nil_append,List.cons_append];have h1:Fence.wide.fn 273:=trivial;have h2:Fence.wide.fn 392:=trivial;have h3:Fence.wide.fn 341:=trivial
 gi_wp2_with (gi_at_call 273;refine(Tryz.OF Fence.wide _ h1 rfl _ _).mono ?_;rintro e w' ⟨rfl,rfl⟩)
 have c0:=Ag w (.pointer none) 208;have c1:=Ag (w.alloc (.cells #[.pointer none] 208)) (.int .i64 0) 24;have c2:=Ag ((w.alloc (.cells #[.pointer none] 208)).alloc (.cells #[.int .i64 0] 24)) (.pointer (some ⟨q,0,none⟩)) 152;simp only[World.size_alloc]at c1 c2;have hU:av no w (((w.alloc (.cells #[.pointer none] 208)).alloc (.cells #[.int .i64 0] 24)).alloc (.cells #[.pointer (some ⟨q,0,none⟩)] 152)):=(((av.uw w _).trans (av.uw _ _) (λ_ _ h=>h)).trans (av.uw _ _) (λ_ _ h=>h))
 refine wpIn_rangeFunc_ownF rfl (by decide) (gf:=341) (lb:=#[.pointer (some ⟨w.heap.size+1+1,0,none⟩)]) rfl h3 (enters_of Tryz.func341 (by kernel_rfl) rfl)
  (Tryz.OG (λx=>.pointer (some ⟨bl x,0,none⟩)) Fence.wide _ h3 rfl (by decide) (w.heap.size+1+1) q L hL _ (by simp) (by simp;omega) c2.1 (λi v h=>hU.G5 (hc i v h))) mA.t (mA.b (by simp) (by simp;omega)) (Below.refl _ _) (λ_=>rfl)
  (λpre W=>av no w W/\(∀y∈pre,len y=0)/\(W.cell? ⟨w.heap.size,0,none⟩=some (.pointer none)/\W.frozen? ⟨w.heap.size,0,none⟩=false)/\W.cell? ⟨w.heap.size+1,0,none⟩=some (.int .i64 0)/\W.frozen? ⟨w.heap.size+1,0,none⟩=false)
  (λc pre W=>c=.ret/\av no w W/\∃pr x,pre=pr++[x]/\(∀y∈pr,len y=0)/\0<len x/\W.cell? ⟨w.heap.size,0,none⟩=some (.pointer (some ⟨bl x,0,none⟩))/\W.cell? ⟨w.heap.size+1,0,none⟩=some (.int .i64 0))
  ?own ?ownx ?start
  (λx=>{tmps:=#[.pointer (some ⟨q,0,none⟩),undef,.pointer (some ⟨w.heap.size,0,none⟩),.pointer (some ⟨w.heap.size+1,0,none⟩),.pointer (some ⟨bl x,0,none⟩),.pointer (some ⟨q,0,none⟩),.bool false,.pointer (some ⟨q,0,none⟩),.func (.func 341) #[] #[.pointer (some ⟨w.heap.size+1+1,0,none⟩)],.pointer (some ⟨bl x,0,none⟩),undef,undef,undef,undef],defers:=[]}) ?assign ?body ?done ?stop
 case own=>
  rintro s A B row ⟨h1,h2,h3,h4,h5⟩ hg hr;have hr':∀r,row=some r->∃o:Obj,A.heap[r]?=some o/\o.isCells=false:=λr e=>(hr r e).2;exact⟨h1.grown hg (λr e=>by have:=(hr r e).1;simp at this;omega),h2,⟨cell_kept h3.1 hg hr',(frozen_kept h3.1 hg hr').trans h3.2⟩,cell_kept h4 hg hr',(frozen_kept h4 hg hr').trans h5⟩
 case ownx=>
  rintro c s A B row ⟨h0,h1,pr,x,h2,h3,h4,h5,h6⟩ hg hr;have hr':∀r,row=some r->∃o:Obj,A.heap[r]?=some o/\o.isCells=false:=λr e=>(hr r e).2;exact⟨h0,h1.grown hg (λr e=>by have:=(hr r e).1;simp at this;omega),pr,x,h2,h3,h4,cell_kept h5 hg hr',cell_kept h6 hg hr'⟩
 case start=>
  exact⟨hU,by simp,⟨Ae _ (Ae _ c0.1),DM _ (Ae _ c0.1) (DM _ c0.1 c0.2)⟩,Ae _ c1.1,DM _ c1.1 c1.2⟩
 case assign=>
  intro l x W K hK
  gi_wp2
  exact hK
 case body=>
  rintro l pre x W ⟨hW,hp,⟨hca,hfa⟩,hcb,hfb⟩ _
  gi_wp2_with (gi_at_call 392;refine(N8 (hlen x W hW)).mono ?_;rintro e w' ⟨rfl,rfl⟩)
  ·rename_i hx;have b0:(w'.setCell ⟨w.heap.size,0,none⟩ (.pointer (some ⟨bl x,0,none⟩))).cell? ⟨w.heap.size+1,0,none⟩=some (.int .i64 0):=(World.cell?_setCell_other _ _ _ _ (by simp)).trans hcb
   exact⟨(KeepsOthers.setCell _ _ _).trans (KeepsOthers.setCell _ _ _),rfl,(hW.stored (Nat.le_refl _) _ _).stored (Nat.le_succ _) _ _,pre,x,rfl,hp,by simpa using hx,
    (World.cell?_setCell_other _ _ _ _ (by simp)).trans (World.cell?_setCell_same' _ _ _ (by rw[hca];rfl)),World.cell?_setCell_same' _ _ _ (by rw[b0];rfl)⟩
  ·rename_i hx;exact⟨KeepsOthers.refl _,mA.refl _ _ _,hW,λy hy=>(List.mem_append.1 hy).elim (hp y) (λe=>by simp at e;subst e;simpa using hx),⟨hca,hfa⟩,hcb,hfb⟩
 case done=>
  rintro D ys W hD rfl ⟨hW,hne,⟨hca,hfa⟩,hcb,hfb⟩ hK
  gi_wp2
  have hK':=((KeepsOthers.setCell W ⟨w.heap.size,0,none⟩ (.pointer none)).trans (KeepsOthers.setCell _ ⟨w.heap.size+1,0,none⟩ (.int .i64 12))).same D _ hK rfl;refine⟨by simp,.inl ⟨_,_,rfl,run_takeDeferred hK',?_⟩⟩;have hS:av no w ((W.setCell ⟨w.heap.size,0,none⟩ (.pointer none)).setCell ⟨w.heap.size+1,0,none⟩ (.int .i64 12)):=(hW.stored (Nat.le_refl _) _ _).stored (Nat.le_succ _) _ _;have a0:(W.setCell ⟨w.heap.size,0,none⟩ (.pointer none)).cell? ⟨w.heap.size+1,0,none⟩=some (.int .i64 0):=(World.cell?_setCell_other _ _ _ _ (by simp)).trans hcb;have a1:((W.setCell ⟨w.heap.size,0,none⟩ (.pointer none)).setCell ⟨w.heap.size+1,0,none⟩ (.int .i64 12)).cell? ⟨w.heap.size,0,none⟩=some (.pointer none):=(World.cell?_setCell_other _ _ _ _ (by simp)).trans (World.cell?_setCell_same' W _ _ (by rw[hca];rfl));have a2:=World.cell?_setCell_same' (W.setCell ⟨w.heap.size,0,none⟩ (.pointer none)) ⟨w.heap.size+1,0,none⟩ (.int .i64 12) (by rw[a0];rfl);generalize ((W.setCell ⟨w.heap.size,0,none⟩ (.pointer none)).setCell ⟨w.heap.size+1,0,none⟩ (.int .i64 12))=W2 at *;have hg:=grownBy_putObj' W2 D (.deferred none);have hr:∀r,some D=some r->∃o:Obj,W2.heap[r]?=some o/\o.isCells=false:=λr e=>by cases e;exact⟨_,hK',rfl⟩
  have ha:=cell_kept a1 hg hr;have hb:=cell_kept a2 hg hr;refine⟨_,?_,by rw[agT hne],hS.grown hg (λr e=>by cases e;simp at hD;omega)⟩;simp[results,Tryz.f365,go_sem,ha,hb]
 case stop=>
  rintro D c pre W hD hpre ⟨rfl,hW,pr,x,rfl,hpr,hx,hca,hcb⟩ hK
  gi_wp2
  refine⟨by simp,.inl ⟨_,_,rfl,run_takeDeferred hK,?_⟩⟩;have hg:=grownBy_putObj' W D (.deferred none);have hr:∀r,some D=some r->∃o:Obj,W.heap[r]?=some o/\o.isCells=false:=λr e=>by cases e;exact⟨_,hK,rfl⟩
  have ha:=cell_kept hca hg hr;have hb:=cell_kept hcb hg hr;refine⟨_,?_,by rw[agU hpre hpr hx],hW.grown hg (λr e=>by cases e;simp at hD;omega)⟩;simp[results,Tryz.f365,go_sem,ha,hb]
end Go.Proofs
namespace Go.Dav
open Go.Proofs
section
variable {w w':World} {T:TypeId} {sz:Nat} {p:Option Addr} {n c:Nat} {cs:List Value} {row:Option Nat}
theorem Sl.Qk (h:Sl w T sz p n c cs) {k:Nat} (b:bf p k) {o:Obj} (d:w.heap[k]?=some o):o.isCells=true:=by
 obtain⟨a,rfl,rfl⟩:=b;obtain⟨_,_,_,cells,e,_⟩:=h;have:=e.symm.trans d;cases this;rfl
theorem Sl.grown (h:Sl w T sz p n c cs) (a:w.grownBy w' row) (d:∀r,row=some r->∃o:Obj,w.heap[r]?=some o/\o.isCells=false):Sl w' T sz p n c cs:=
 h.ak (F:=λi=>row=some i) ⟨a.size,a.os,a.tape,a.output,λi hi f=>a.block i hi (λe=>f e.symm)⟩ (λi hi e=>by obtain⟨o,g,b⟩:=d i e;rw[h.Qk hi g]at b;cases b)
theorem av.others (h:av no w w'):KeepsOthers w w':=⟨h.size,λk _ a _=>(h.ay k (tM a) id).trans a⟩
theorem Sl.others (h:Sl w T sz p n c cs) (k:av (bf p) w w'):KeepsOthers w w':=
 ⟨k.size,λi _ hi a=>(k.ay i (tM hi) (λb=>by rw[h.Qk b hi]at a;cases a)).trans hi⟩
theorem FO (w:World) (b o:Nat) (v:Value):av (λi=>i=b) w (w.setCell ⟨b,o,none⟩ v):=
 ⟨by show _<=(Array.modify _ _ _).size;rw[Array.size_modify];exact Nat.le_refl _,rfl,rfl,rfl,λi hi a=>by
  simp only[World.setCell,Array.getElem?_modify];rw[if_neg (by omega)]⟩
end
end Go.Dav
namespace Go.Proofs
open Go.RowKit Go.Shelf Go.Dav
attribute [local go_sem] Oper.semAt_some
attribute [-go_sem] Builtin.append_
set_option maxRecDepth 100000 in
set_option maxHeartbeats 4000000 in
theorem Tryz.aaV {α:Type} (bl:α->Nat) (it:α->List Int) (L:List α) (hL:L.length=8) (q:Nat) (w:World) (hq:q<w.heap.size) {z:List Value} (he:eO Tryz.prog 36 3 1 8 z)
  (hc:∀i v,L[i]?=some v->w.cell? ⟨q,i,none⟩=some (.pointer (some ⟨bl v,0,none⟩))) (hit:∀x,(it x).length<=1024)
  (hlist:∀x W,av no w W->Calls Tryz.prog 187 #[.pointer (some ⟨bl x,0,none⟩)] W λe w'=>∃p c,e=.returned (.slice p (it x).length c)/\Dav.Loc W w' 3 p c (it x)) :
  Calls Tryz.prog 182 #[.pointer (some ⟨q,0,none⟩)] w λe w'=>
   ∃p c,e=.returned (.slice p (L.reverse.flatMap it).length c)/\Dav.Loc w w' 3 p c (L.reverse.flatMap it):=by
 rw[<-callsIn_wide (n:=5)];refine callsIn_of_wp_marks Tryz.func182 rfl trivial ?_ rfl;simp only[Tryz.ntmps182,List.size_toArray,List.length_cons,List.length_nil,Nat.reduceAdd,Nat.reduceSub,Array.replicate_succ,Array.replicate_zero,List.push_toArray,List.append_toArray,List.nil_append,List.cons_append];have h1:Fence.wide.fn 273:=trivial;have h2:Fence.wide.fn 187:=trivial;have h3:Fence.wide.fn 341:=trivial
 gi_wp2_with (gi_at_call 273;refine(Tryz.OF Fence.wide _ h1 rfl _ _).mono ?_;rintro e w' ⟨rfl,rfl⟩)
 have c0:=Ag w (.slice none 0 0) 36;have c2:=Ag (w.alloc (.cells #[.slice none 0 0] 36)) (.pointer (some ⟨q,0,none⟩)) 152;simp only[World.size_alloc]at c2;have hU:av no w ((w.alloc (.cells #[.slice none 0 0] 36)).alloc (.cells #[.pointer (some ⟨q,0,none⟩)] 152)):=(av.uw w _).trans (av.uw _ _) (λ_ _ h=>h)
 refine wpIn_rangeFunc_ownF rfl (by decide) (gf:=341) (lb:=#[.pointer (some ⟨w.heap.size+1,0,none⟩)]) rfl h3 (enters_of Tryz.func341 (by kernel_rfl) rfl)
  (Tryz.OG (λx=>.pointer (some ⟨bl x,0,none⟩)) Fence.wide _ h3 rfl (by decide) (w.heap.size+1) q L hL _ (by simp) (by simp;omega) c2.1 (λi v h=>hU.G5 (hc i v h))) mA.t (mA.b (by simp) (by simp;omega)) (Below.refl _ _) (λ_=>rfl)
  (λpre W=>av no w W/\∃p c,(W.cell? ⟨w.heap.size,0,none⟩=some (.slice p (pre.flatMap it).length c)/\W.frozen? ⟨w.heap.size,0,none⟩=false)/\Sl W 3 1 p (pre.flatMap it).length c ((pre.flatMap it).map (Value.int .i64))/\w.heap.size+1<W.heap.size/\∀i,bf p i->w.heap.size+1<i)
  (λ_ _ _=>False)
  ?own (λ_ _ _ _ _ h _ _=>h.elim) ?start
  (λx=>{tmps:=#[.pointer (some ⟨q,0,none⟩),undef,.slice none 0 0,.pointer (some ⟨w.heap.size,0,none⟩),.pointer (some ⟨bl x,0,none⟩),.pointer (some ⟨q,0,none⟩),.bool false,.pointer (some ⟨q,0,none⟩),.func (.func 341) #[] #[.pointer (some ⟨w.heap.size+1,0,none⟩)],.pointer (some ⟨bl x,0,none⟩),undef,undef,undef,undef,undef],defers:=[]}) ?assign ?body ?done ?stop
 case own=>
  rintro s A B row ⟨h1,p,c,h3,h4,h6,h5⟩ hg hr;have hr':∀r,row=some r->∃o:Obj,A.heap[r]?=some o/\o.isCells=false:=λr e=>(hr r e).2;exact⟨h1.grown hg (λr e=>by have:=(hr r e).1;simp at this;omega),p,c,⟨cell_kept h3.1 hg hr',(frozen_kept h3.1 hg hr').trans h3.2⟩,h4.grown hg hr',Nat.lt_of_lt_of_le h6 hg.size,h5⟩
 case start=>
  exact⟨hU,none,0,⟨Ae _ c0.1,DM _ c0.1 c0.2⟩,Sl.nil _ _ _,by simp,λi ⟨a,ha,_⟩=>by cases ha⟩
 case assign=>
  intro l x W K hK
  gi_wp2
  exact hK
 case body=>
  rintro l pre x W ⟨hW,p,c,⟨hca,hfa⟩,hS,hKp,hF⟩ hlt
  have hle:(pre.flatMap it).length<=8192:=by
   have:∀l:List α,(l.flatMap it).length<=1024*l.length:=λl=>by
    induction l with
    | nil=>simp
    | cons a l ih=>rw[List.flatMap_cons,List.length_append,List.length_cons];have:=hit a;omega
   have:=this pre;omega
  have hix:=hit x;obtain⟨lp,hlp⟩:∃lp,pre.flatMap it=lp:=⟨_,rfl⟩;rw[hlp]at hca hS hle;have hm:Tryz.prog.follows .mixedOrders=true:=by kernel_rfl
  have hWd:av no w W.drew:=hW.trans (av.same no rfl rfl rfl rfl) (λ_ _ h=>h);have hcd:W.drew.cell? ⟨w.heap.size,0,none⟩=some (.slice p lp.length c):=hca;have hfd:W.drew.frozen? ⟨w.heap.size,0,none⟩=false:=hfa;have hSd:Sl W.drew 3 1 p lp.length c (lp.map (Value.int .i64)):=hS.ak (av.same no rfl rfl rfl rfl) (λ_ _ h=>h)
  gi_wp2
  gi_region_with (gi_at_call 187;refine(N8 (hlist x _ hWd)).mono ?_;rintro e w2 ⟨p2,c2,rfl,hL2⟩;have hS2:=hSd.ak hL2.U (λ_ _ h=>h);have hcl:=hL2.U.G5 hcd;have hlw:w.heap.size<W.drew.heap.size:=(cells_of_cell hcd).elim (λ_ h=>tM h.1);have hlw2:=Nat.lt_of_lt_of_le hlw hL2.U.size;have hfl:w2.frozen? ⟨w.heap.size,0,none⟩=false:=(World.frozen?_of_block (a:=⟨w.heap.size,0,none⟩) (hL2.U.ay _ hlw id)).trans hfd;obtain⟨p',n',c',w3,hr,hn3,hS3,hU3,hF3⟩:=y8 he hS2 hL2.S.cells (m:=(it x).length) (d:=c2) (by simp) (by simp[Value.oneCell']) (λe=>by have:=hL2.S.2.2.2;subst e;exact this.2) (by omega) (by omega) 36;have hb3:w3.heap[w.heap.size]?=w2.heap[w.heap.size]?:=hU3.ay _ hlw2 (λh=>by have:=hF _ h;omega);have hc3:=(World.cell?_of_block (a:=⟨w.heap.size,0,none⟩) hb3).trans hcl;have hf3:w3.frozen? ⟨w.heap.size,0,none⟩=false:=(World.frozen?_of_block (a:=⟨w.heap.size,0,none⟩) hb3).trans hfl)
  all_goals
   subst hn3;have hUa:av no W w2:=(av.same (w:=W) (w':=W.drew) no rfl rfl rfl rfl).trans hL2.U (λ_ _ h=>h);have hw2:w.heap.size+1<w2.heap.size:=Nat.lt_of_lt_of_le hKp hUa.size;have hsl:∀i,bf p' i->w.heap.size+1<i:=λi hi=>(hF3 i hi).elim (hF i) (λh=>by omega);have hU3':av no w w3:=(hW.trans hUa (λ_ _ h=>h)).trans hU3 (λi hi h=>by have:=hF i h;omega);refine⟨(hUa.others.trans (hS2.others hU3)).trans (KeepsOthers.setCell _ _ _),⟨?_,?_⟩,hU3'.stored (Nat.le_refl _) _ _,p',c',⟨?_,?_⟩,?_,by have:=hU3.size;have:=(FO w3 w.heap.size 0 (.slice p' (lp.length+(it x).length) c')).size;omega,hsl⟩
   ·exact((FO w3 _ 0 _).ay _ (by have:=hU3.size;omega) (by omega)).trans ((hU3.ay _ (by omega) (λh=>by have:=hF _ h;omega)).trans (hUa.ay _ (by have:=hL2.U.size;exact hKp) id))
   ·exact((FO w3 _ 0 _).ay _ (by have:=hU3.size;omega) (by omega)).trans ((hU3.ay _ (by omega) (λh=>by have:=hF _ h;omega)).trans (hUa.ay _ (by have:=hW.size;omega) id))
   ·rw[List.flatMap_append,hlp,List.flatMap_singleton,List.length_append];exact World.cell?_setCell_same' _ _ _ (by rw[hc3];rfl)
   ·rw[World.frozen?_setCell];exact hf3
   ·rw[List.flatMap_append,hlp,List.flatMap_singleton,List.length_append,List.map_append];exact hS3.ak (FO w3 _ 0 _) (λi hi e=>by have:=hsl i hi;omega)
 case done=>
  rintro D ys W hD rfl ⟨hW,p,c,⟨hca,hfa⟩,hS,_,hF⟩ hK;obtain⟨l0,hl0⟩:∃l0,L.reverse.flatMap it=l0:=⟨_,rfl⟩;rw[hl0]at hca hS
  gi_wp2
  refine⟨by simp,.inl ⟨_,_,rfl,run_takeDeferred hK,?_⟩⟩;rw[hl0];refine⟨_,results_tmp rfl _ _ _,p,c,rfl,?_⟩;have hg:=grownBy_putObj' W D (.deferred none);exact⟨hW.grown hg (λr e=>by cases e;simp at hD;omega),hS.grown hg (λr e=>by cases e;exact⟨_,hK,rfl⟩),λi hi=>by have:=hF i hi;omega⟩
 case stop=>
  rintro D c pre W hD hpre h;exact h.elim
end Go.Proofs
namespace Go.Dav
open Go.Proofs
open _root_.Option renaming some→aa,none→ah,isSome_iff_exists→lU,getD_some→ie,map_some→gK,map_eq_some_iff→lf
open Value renaming int→aB,pointer→bB,slice→rM
open _root_.List renaming range→bU,map_cons→np,nodup_cons→mG,mem_cons→ez,mem_map→ck,find?_eq_none→kt,mem_of_find?_eq_some→pH,find?_some→pI,getElem?_eq_some_iff→dQ,mem_cons_of_mem→rP,mem_cons_self→i6,getElem?_append_left→kr,length_map→bW,length_filter_le→jN,getElem_map→rV,filter_append→td,map_append→eI,filter_map→vz,filter_congr→pB,mem_append→eG,mem_singleton→gJ,length_append→cG,length_singleton→rW,nodup_append→jO,length→gu,length_pos_of_mem→vA,mem_filter→ij,filter_cons→xo,replicate→aD,set_cons_zero→qD,range_succ→nq,append_assoc→jP,map_congr_left→uq,mem_range→cD,nodup_nil→ju,getD_eq_getElem?_getD→aO,getElem?_eq_none→fV,getElem?_set→cJ,mem_or_eq_of_mem_set→i7,getElem_mem→cx,set_getElem_self→ob,eq_of_mem_replicate→k8,replicate_succ'→tf,foldl_append→mH,foldl_cons→nm,take_succ_eq_append_getElem→eW,take_length→dC,getElem?_append_right→lP,ext_getElem?→de,getElem?_append→od,getElem?_take→iI,getElem?_drop→ik,getElem?_map→fy,length_take→eR,length_cons→il,length_nil→oq,length_set→bN,getElem_set_ne→rQ,count_pos_iff→qB,findIdx?_eq_some_iff_getElem→oo,findIdx?_eq_none_iff→ta,getElem_of_mem→uv,getElem_set_self→qA,count_append→ni,count_singleton→uo,map_set→fx,getElem?_replicate→jt,toArray→dK,length_replicate→fW,set_set→rN,length_drop→lN,any_eq_true→mF,eq_nil_of_length_eq_zero→lM,getElem?_cons_zero→xm,getElem_cons_zero→vC,set_cons_succ→qE,getElem_cons_succ→te,getElem?_eq_getElem→cO
open _root_.Bool renaming false→ae,true→ag,eq_iff_iff→ig,false_eq_true→fD,or_eq_true→eT,and_eq_true→aY,and_true→lR,false_and→js,true_and→dR,not_eq_true'→ja,or_false→pD
open _root_.Prod renaming ext→lT
open _root_.Nat renaming le_of_eq→bF,zero_le→cB,le_trans→aW,add_mul→la,one_mul→s7,min_eq_left→oi,le_refl→aX,zero_add→eU,mul_one→eX,add_zero→pF,lt_of_lt_of_le→jM
open _root_.Int renaming toNat_natCast→bQ,toNat→aG,tdiv→jq,tdiv_eq_ediv_of_nonneg→xw,tmod→eH,tmod_eq_emod_of_nonneg→ot
open _root_.Iff renaming rfl→bp
open Addr renaming add_add→dX,add→bP
open Ending renaming returned→cN
open IntKind renaming wrap→aV,max→pG,i64→bj
open _root_.Classical renaming byContradiction→eV
open Fn renaming func→aQ
open World renaming cell?_of_block→uu
open Builtin renaming append_→bR
open Sem renaming run_bind→qw
open Result renaming andThen_ok→qx
theorem qY:qq Tryz.prog 78 3 3 (.int .i64 0):=⟨by kernel_rfl,by kernel_rfl,by kernel_rfl,by kernel_rfl⟩
abbrev bL:=List (Int×Int)
def cR (L:bL) (p:Nat):List Int:=(L.filter (λe=>decide (e.1=(p:Int)))).map (·.2)
abbrev sV:=Nat×Nat×List Int
def Le:Ob sV:=λw F s=>eP s.1 w F s.2
instance Frame.lvl:Frame Le where
 ak:=λ{_ _ _ _ s} h k a=>(Frame.fq s.1).ak h k a
 lt:=λ{_ _ s} h=>(Frame.fq s.1).lt h
def Bg (b:Nat):Value:=.pointer (aa ⟨b,0,ah⟩)
def rb (r:Nat) (x:List Value×Nat):List Value:=x.1++[.map (aa r),.int .i64 x.2]
abbrev ng (q r:Nat):Ob ((((Int->Option Int)×Nat)×(List Value×Nat))×List sV):=aF (aF (bM r (aB .i64)) (Rw q 265 (rb r))) (Fam Le)
def kF (B:Nat->Nat) (m:Nat) (L:bL):List sV:=(bU 8).map λi=>(B i,m,cR L i)
def r5 (B:Nat->Nat):List Value:=(bU 8).map λi=>Bg (B i)
structure kg (x:Nat×bL) (g:(Int->Option Int)×Nat):Prop where
 map:∀k v,g.1 k=aa v↔(v,k)∈x.2
 len:g.2=x.2.length
 one:(x.2.map (·.2)).Nodup
 iD:∀e∈x.2,0<=e.1/\e.1<8
 room:x.2.length<=x.1
 kH:1<=x.1/\x.1<=1024
def fT (q:Nat):Ob (Nat×bL):=λw F x=>∃r B g,ng q r w F ((g,(r5 B,x.1)),kF B x.1 x.2)/\kg x g
instance Frame.pq (q:Nat):Frame (fT q) where
 ak:=λ⟨r,B,g,h,k⟩ a b=>⟨r,B,g,Frame.star.ak h a b,k⟩
 lt:=λ⟨_,_,_,h,_⟩=>Frame.star.lt h
section
variable {q r:Nat} {w w':World} {F:Fp} {x:Nat×bL} {g:(Int->Option Int)×Nat} {B:Nat->Nat}
theorem EI {y:(((Int->Option Int)×Nat)×(List Value×Nat))×List sV} (h:ng q r w F y):aM w q (rb r y.1.2) 265:=by
 obtain⟨F1,F2,⟨F3,F4,_,a,_⟩,_⟩:=h;exact a.ay
theorem JL {y:(((Int->Option Int)×Nat)×(List Value×Nat))×List sV} (h:ng q r w F y):∃F1,bM r (aB .i64) w F1 y.1.1:=by
 obtain⟨F1,F2,⟨F3,F4,a,_⟩,_⟩:=h;exact⟨_,a⟩
theorem Be {y:(((Int->Option Int)×Nat)×(List Value×Nat))×List sV} (h:ng q r w F y) (a:y.1.2.1.length=8):w.cell? ((⟨q,0,ah⟩:Addr).add 8)=aa (.map (aa r))/\w.cell? ((⟨q,0,ah⟩:Addr).add 9)=aa (.int .i64 y.1.2.2):=by
 have b:=EI h;exact⟨b.cell (by simp[rb,a]),b.cell (by simp[rb,a])⟩
theorem xF (B:Nat->Nat):(r5 B).length=8:=by simp[r5]
def re (x:Nat×bL) (k:Int):Int×Bool:=match x.2.find? (λe=>decide (e.2=k))with
 | none=>(0,ae)
 | some e=>(e.1,ag)
theorem A7:∀{L:bL} (_:(L.map (·.2)).Nodup) {a b:Int×Int} (_:a∈L) (_:b∈L) (_:a.2=b.2),a=b
 | c::L,f,a,b,d,e,h=>by
  rw[np,mG]at f;rcases ez.1 d with d|d<;>rcases ez.1 e with e|e
  ·rw[d,e]
  ·exact absurd (ck.2 ⟨b,e,by rw[<-h,d]⟩) f.1
  ·exact absurd (ck.2 ⟨a,d,by rw[h,e]⟩) f.1
  ·exact A7 f.2 d e h
theorem kg.prio (h:kg x g) (k:Int):((g.1 k).map (aB .i64)).getD (.int .i64 0)=.int .i64 (re x k).1/\(g.1 k).isSome=(re x k).2:=by
 unfold re
 cases a:x.2.find? (λe=>decide (e.2=k))with
 | none=>
  have:g.1 k=ah:=by
   cases c:g.1 k with
   | none=>rfl
   | some v=>
    have:=kt.1 a _ ((h.map k v).1 c);simp at this
  simp[this]
 | some e=>
  have d:=pH a;have b:=pI a;simp at b;have:g.1 k=aa e.1:=(h.map k e.1).2 (by rw[<-b];exact d);simp[this]
theorem acJ (h:fT q w F x):Calls Tryz.prog 74 #[.pointer (aa ⟨q,0,ah⟩)] w λe w'=>e=.returned (.int .i64 x.2.length)/\w'=w:=by
 obtain⟨r,B,g,h,hi⟩:=h;obtain⟨F1,a⟩:=JL h;refine u74 ?_;refine⟨λh=>by simp at h,λ_=>⟨_,rfl,_,(Be h (xF B)).1,_,λty=>J6 qY a ty,by simp only[hi.len],rfl⟩⟩
theorem acV (h:fT q w F x) (k:Int):Calls Tryz.prog 323 #[.pointer (aa ⟨q,0,ah⟩),.int .i64 k] w λe w'=>e=.returned (.tuple #[.int .i64 (re x k).1,.bool (re x k).2])/\w'=w:=by
 obtain⟨r,B,g,h,hi⟩:=h;obtain⟨F1,a⟩:=JL h;refine akw ?_;refine⟨λh=>by simp at h,λ_=>⟨_,rfl,_,(Be h (xF B)).1,(re x k).1,(re x k).2,?_,rfl,rfl⟩⟩;rw[kP qY a k ag,<-(hi.prio k).1,<-(hi.prio k).2];rfl
def L8:List (Fin 8):=[0,1,2,3,4,5,6,7]
theorem aaI {i:Nat} {v:Fin 8} (h:L8[i]?=aa v):v.val=i:=by
 have hi:i<8:=(dQ.1 h).1;have hA:∀i:Fin 8,L8[i.val]?=aa i:=by decide
 have:=hA ⟨i,hi⟩;simp only at this;rw[h]at this;cases this;rfl
def pV (L:bL):List Int:=L8.reverse.flatMap λi=>cR L i.val
def nS (x:Nat×bL):Int×Int:=match pV x.2 with
 | []=>(0,12)
 | a::_=>(a,0)
theorem It {α:Type} {f:α->List Int}:∀{l:List α},(l.find? (λi=>decide (0<(f i).length))=ah/\l.flatMap f=[])∨∃i a t t',l.find? (λi=>decide (0<(f i).length))=aa i/\i∈l/\f i=a::t/\l.flatMap f=a::t'
 | []=>.inl ⟨rfl,rfl⟩
 | i::l=>by
  cases b:f i with
  | nil=>
   rcases It (f:=f) (l:=l)with⟨h1,c⟩|⟨j,a,t,t',h1,c,d,e⟩
   ·exact .inl ⟨by simp[List.find?_cons,b,h1],by simp[b,c]⟩
   ·exact .inr ⟨j,a,t,t',by simp[List.find?_cons,b,h1],rP _ c,d,by simp[b,e]⟩
  | cons a t=>exact .inr ⟨i,a,t,t++l.flatMap f,by simp[List.find?_cons,b],i6,b,by simp[b]⟩
theorem Ek {m:Nat} {L:bL}:(kF B m L).length=8:=by simp[kF]
theorem JJ (h:ng q r w F ((g,(r5 B,x.1)),kF B x.1 x.2)) (i:Fin 8):∃F1,eP (B i.val) w F1 (x.1,cR x.2 i.val):=by
 obtain⟨F2,b,_⟩:=aF.right h;obtain⟨F1,a,_⟩:=Fam.at b (i:=i.val) (by rw[Ek];exact i.isLt);refine⟨F1,?_⟩;have:(kF B x.1 x.2)[i.val]'(by rw[Ek];exact i.isLt)=(B i.val,x.1,cR x.2 i.val):=by simp[kF]
 rw[this]at a;exact a
theorem EJ (h:ng q r w F ((g,(r5 B,x.1)),kF B x.1 x.2)):∀i v,L8[i]?=aa v->w.cell? ⟨q,i,ah⟩=aa (.pointer (aa ⟨B v.val,0,ah⟩)):=by
 intro i v b;have c:=aaI b;have a:=v.isLt;rw[Af (EI h)];subst c;simp only[rb];rw[kr (by rw[xF];exact a)];simp[r5,Bg,a]
theorem Us (h:ng q r w F ((g,(r5 B,x.1)),kF B x.1 x.2)):Calls Tryz.prog 365 #[.pointer (aa ⟨q,0,ah⟩)] w λe w'=>
  e=.returned (vf (λv:Fin 8=>B v.val) (λv=>(cR x.2 v.val).length) L8.reverse)/\av no w w':=by
 refine Tryz.agV _ _ L8 rfl q w (EI h).lt (EJ h) λv W a=>?_;obtain⟨F1,b⟩:=JJ h v;exact adf ((Frame.fq _).ak b a (λ_ _ h=>h))
theorem agW (h:fT q w F x):Calls Tryz.prog 309 #[.pointer (aa ⟨q,0,ah⟩)] w λe w'=>e=.returned (.tuple #[.int .i64 (nS x).1,.int .i64 (nS x).2])/\av no w w':=by
 obtain⟨r,B,g,h,hi⟩:=h;refine aki ?_;refine⟨(Us h).mono ?_⟩;rintro e w1 ⟨rfl,b⟩;unfold vf nS pV;rcases It (f:=λv:Fin 8=>cR x.2 v.val) (l:=L8.reverse)with⟨h1,d⟩|⟨j,a,t,t',h1,d,i,m⟩
 ·rw[h1,d];exact⟨_,_,rfl,λ_=>⟨rfl,b⟩,λk=>by simp at k⟩
 ·rw[h1,m];refine⟨_,_,rfl,λk=>by simp at k,λ_=>?_⟩;obtain⟨F1,n⟩:=JJ h j;refine⟨(JO ((Frame.fq _).ak n b (λ_ _ h=>h))).mono ?_⟩;rintro e o ⟨rfl,c⟩;refine⟨_,_,rfl,?_,b.and c⟩;simp[cP,i]
theorem aa3 (h:kg x g) (p:Nat):(cR x.2 p).length<=1024:=by
 have a:=h.room;have b:=h.kH;have c:(cR x.2 p).length<=x.2.length:=by unfold cR;rw[bW];exact jN _ _
 omega
theorem aaW (h:fT q w F x):Calls Tryz.prog 182 #[.pointer (aa ⟨q,0,ah⟩)] w λe w'=>∃p c,e=.returned (.slice p (pV x.2).length c)/\Loc w w' 3 p c (pV x.2):=by
 obtain⟨r,B,g,h,hi⟩:=h;refine Tryz.aaV (λv:Fin 8=>B v.val) (λv=>cR x.2 v.val) L8 rfl q w (EI h).lt oJ (EJ h) (λv=>aa3 hi v.val) λv W b=>?_;obtain⟨F1,d⟩:=JJ h v;obtain⟨g,y,f,i,j,a,k⟩:=(Frame.fq _).ak d b (λ_ _ h=>h);have a:view g=cR x.2 v.val:=a;rw[<-a];exact Ef f i
theorem Tf {y:List Value×Nat} {ls:List sV} (h:ng q r w F ((g,y),ls)):∃F1,bM r (aB .i64) w F1 g/\∀w' a,ai (bM r (aB .i64)) w w' F1 a->ai (ng q r) w w' F ((a,y),ls):=by
 obtain⟨F1,b,c⟩:=aF.left h;obtain⟨F2,d,k2⟩:=aF.left b;exact⟨F2,d,λw' a e=>c _ _ (k2 _ _ e)⟩
theorem aa5 {m:Nat} {L c:bL} {i:Nat} (hi:i<8) {l':List Int} (d:cR c i=l') (e:∀j,j≠i->cR c j=cR L j):(kF B m L).set i (B i,m,l')=kF B m c:=by
 apply List.ext_getElem
 ·simp[kF]
 ·intro j a b;rw[List.getElem_set];simp only[kF,rV,List.getElem_range];split
  ·rename_i h;subst h;rw[d]
  ·rename_i h;rw[e j (by omega)]
theorem JK {m:Nat} {L:bL} {y:List Value×Nat} (h:ng q r w F ((g,y),kF B m L)) {i:Nat} (hi:i<8):∃F1,eP (B i) w F1 (m,cR L i)/\
  ∀w' l',ai (eP (B i)) w w' F1 (m,l')->∀a,cR a i=l'->(∀j,j≠i->cR a j=cR L j)->ai (ng q r) w w' F ((g,y),kF B m a):=by
 obtain⟨F2,c,k2⟩:=aF.right h;obtain⟨F1,b,_,d⟩:=Fam.at c (i:=i) (by rw[Ek];exact hi);have:(kF B m L)[i]'(by rw[Ek];exact hi)=(B i,m,cR L i):=by simp[kF]
 rw[this]at b;refine⟨F1,b,λw' l' e a f k=>?_⟩;have:=k2 _ _ (d w' (B i,m,l') e);rw[aa5 hi f k]at this;exact this
theorem ai.pq (h:ai (ng q r) w w' F ((g,(r5 B,x.1)),kF B x.1 x.2)) (k:kg x g):ai (fT q) w w' F x:=by
 obtain⟨a,b,c⟩:=h;exact⟨a,⟨r,B,g,b,k⟩,c⟩
theorem ai.glue {σ:Type} {A:Ob σ} {b:σ} {w1 c d:World} {F3:Fp} (e:av F w w1) (f:av F w1 c) (f3:∀i,F3 i->F i∨w1.heap.size<=i) (k:ai A c d F3 b):ai A w d F b:=by
 obtain⟨j,l,m,n⟩:=k;have hs:=e.size;have o:=f.size;refine⟨j,l,(e.and f).trans m (λi hi a=>(f3 i a).elim id (λh=>by omega)),λi a=>?_⟩;rcases n i a with h|h
 ·exact(f3 i h).imp id (λh=>by omega)
 ·exact .inr (by omega)
def cX (x:Nat×bL) (k:Int):Bool:=(x.2.map (·.2)).contains k
def iB (x:Nat×bL) (p k:Int):Int:=if p<0∨8<=p then 2 else if cX x k then 6 else if x.1<=x.2.length then 5 else 0
def jA (x:Nat×bL) (p k:Int):Nat×bL:=if iB x p k=0 then(x.1,x.2++[(p,k)])else x
def sy (x:Nat×bL) (k:Int):Int:=if cX x k then 0 else 4
def fG (x:Nat×bL) (k:Int):Nat×bL:=(x.1,x.2.filter λe=>decide (e.2≠k))
def yL (x:Nat×bL) (k:Int):Int:=sy x k
def kJ (x:Nat×bL) (k:Int):Nat×bL:=if cX x k then(x.1,(fG x k).2++[((re x k).1,k)])else x
def uX (x:Nat×bL):Int:=(nS x).2
def ly (x:Nat×bL):Nat×bL:=if uX x=0 then kJ x (nS x).1 else x
theorem Ei (L:bL) (p k:Int) (i:Nat):cR (L++[(p,k)]) i=cR L i++(if p=(i:Int)then[k]else[]):=by
 unfold cR;rw[td,eI];congr 1;by_cases h:p=(i:Int)<;>simp[h]
theorem Eh (L:bL) (k:Int) (i:Nat):cR (L.filter λe=>decide (e.2≠k)) i=(cR L i).filter λa=>decide (a≠k):=by
 unfold cR;rw[vz,List.filter_filter,List.filter_filter];congr 1;apply pB;intro e _;simp[Bool.and_comm]
theorem tN {L:bL} {i:Nat} {k:Int}:k∈cR L i↔((i:Int),k)∈L:=by
 unfold cR;simp
theorem Jn {L:bL} (h:(L.map (·.2)).Nodup) (i:Nat):(cR L i).Nodup:=by
 unfold cR;exact List.Nodup.sublist (List.Sublist.map _ List.filter_sublist) h
theorem jf {k:Int}:cX x k=ag↔∃p,(p,k)∈x.2:=by
 unfold cX;simp
theorem kg.ym (h:kg x g) (k:Int):(g.1 k).isSome=cX x k:=by
 rw[ig,jf,lU];exact⟨λ⟨v,a⟩=>⟨v,(h.map k v).1 a⟩,λ⟨v,a⟩=>⟨v,(h.map k v).2 a⟩⟩
theorem kg.push (h:kg x g) {p k:Int} (l:0<=p/\p<8) (i:cX x k=ae) (o:x.2.length<x.1):kg (x.1,x.2++[(p,k)]) (fz g k p):=by
 have hs:=h.ym k;rw[i]at hs;have f:g.1 k=ah:=by cases s:g.1 k<;>simp_all
 have d:∀v,(v,k)∉x.2:=λv m=>by have:=jf.2 ⟨v,m⟩;rw[i]at this;cases this
 refine⟨?_,?_,?_,?_,?_,h.kH⟩
 ·intro a v;simp only[fz];split
  ·rename_i e;subst e;simp only[eG,gJ,Prod.mk.injEq,and_true,Option.some.injEq];exact⟨λe=>.inr e.symm,λe=>e.elim (λe=>absurd e (d v)) (λe=>e.symm)⟩
  ·rename_i e;rw[h.map];simp[e]
 ·simp only[fz,hs,cG,rW,h.len];simp
 ·rw[eI,jO];refine⟨h.one,by simp,λa n b j e=>?_⟩;simp at j;subst j;subst e;obtain⟨e,c,rfl⟩:=ck.1 n;exact d e.1 c
 ·intro e c;rcases eG.1 c with c|c
  ·exact h.iD e c
  ·simp at c;subst c;exact l
 ·simp;omega
theorem Td (h:fT q w F x) (p k:Int):Calls Tryz.prog 320 #[.pointer (aa ⟨q,0,ah⟩),.int .i64 p,.int .i64 k] w λe w'=>e=.returned (.int .i64 (iB x p k))/\ai (fT q) w w' F (jA x p k):=by
 obtain⟨r,B,g,h,hi⟩:=id h;rename_i hO;obtain⟨F1,y⟩:=JL h;have G:=Be h (xF B);refine akt ?_;have m:=kP qY y k ag;simp only[if_true,(hi.prio k).1,hi.ym k]at m;refine⟨λh=>by simp at h,λ_=>⟨_,rfl,_,G.1,_,_,m,λa=>⟨λf=>?_,λf=>⟨λl=>?_,λl w1 H I J K=>?_⟩⟩,λa=>?_⟩⟩
 ·have e:iB x p k=2:=by simp at f;unfold iB;rw[aj (.inr f)]
  rw[jA,e];exact⟨rfl,ai.same hO⟩
 ·simp at a f;have e:iB x p k=6:=by unfold iB;rw[af (by omega),aj l]
  rw[jA,e];exact⟨rfl,ai.same hO⟩
 ·simp at a f;have u:=av.same no H I J K;have C:=Frame.star.ak h u (λ_ _ h=>h);have L:=(Frame.pq q).ak hO u (λ_ _ h=>h);obtain⟨F2,n,M⟩:=Tf C;have b:=Be C (xF B);refine⟨_,rfl,_,b.1,_,λty=>J6 qY n ty,_,rfl,_,b.2,λo=>?_,λo=>?_⟩
  ·simp only[hi.len]at o;simp at o;have e:iB x p k=5:=by unfold iB;rw[af (by omega),af (by rw[l];simp),aj (by omega)]
   rw[jA,e];exact⟨rfl,ai.quiet hO u⟩
  ·simp only[hi.len]at o;simp at o;have e:iB x p k=0:=by unfold iB;rw[af (by omega),af (by rw[l];simp),af (by omega)]
   obtain⟨D,N,O⟩:=ru qY n k p;refine⟨_,rfl,_,b.1,D,N,_,rfl,⟨a,f⟩,?_⟩;obtain⟨F3,s,P,f3⟩:=M _ _ O;obtain⟨i,rfl⟩:∃i:Nat,p=i:=⟨p.toNat,by omega⟩;have c:i<8:=by omega
   obtain⟨F4,z,Q⟩:=JK s c
   have d:D.cell? (((⟨q,0,ah⟩:Addr).add 0).add (i*1))=aa (.pointer (aa ⟨B i,0,ah⟩)):=by
    have:=EJ (x:=x) s i ⟨i,c⟩ (by
     have hA:∀i:Fin 8,L8[i.val]?=aa i:=by decide
     exact hA ⟨i,c⟩)
    simpa [add_lit]using this
   refine⟨_,d,⟨(yN z k).mono ?_⟩⟩;rintro S U ⟨rfl,t⟩;have A:k∉cR x.2 i:=λy=>by have:=jf.2 ⟨_,tN.1 y⟩;rw[l]at this;cases this
   have R:(cR x.2 i).length<=x.2.length:=by unfold cR;rw[bW];exact jN _ _
   have E:iT (x.1,cR x.2 i) k=0:=by unfold iT;simp only;rw[af A,af (by omega)]
   rw[lz,aj E]at t;rw[E,jA,e,aj rfl];have T:=ai.pq (x:=(x.1,x.2++[((i:Int),k)])) (ai.glue (u.mono (λ_ _ h=>h.elim)) P f3 (Q _ _ t (x.2++[((i:Int),k)]) (by rw[Ei,aj rfl]) (λj V=>by rw[Ei,af (by omega),List.append_nil]))) (hi.push ⟨a,by omega⟩ l (by omega));exact⟨_,rfl,rfl,T⟩
 ·have e:iB x p k=2:=by simp at a;unfold iB;rw[aj (.inl a)]
  rw[jA,e];exact⟨rfl,ai.same hO⟩
theorem erase_eq {l:List Int} (h:l.Nodup) (k:Int):l.erase k=l.filter λa=>decide (a≠k):=by
 rw[h.erase_eq_filter];apply pB;intro a _;rw[ig];simp
theorem kg.drop (h:kg x g) {k p:Int} (c:(p,k)∈x.2):kg (fG x k) (iy g k):=by
 have hs:(g.1 k).isSome=ag:=by rw[h.ym];exact jf.2 ⟨p,c⟩
 have n:(x.2.filter λe=>decide (e.2≠k)).length+1=x.2.length:=by
  have f:∀L:bL,(L.map (·.2)).Nodup->(p,k)∈L->(L.filter λe=>decide (e.2≠k)).length+1=L.length:=by
   intro L i d
   have j:(L.filter λe=>decide (e.2≠k)).map (·.2)=(L.map (·.2)).erase k:=by
    rw[erase_eq i,vz];rfl
   have l:=congrArg gu j;have b:k∈L.map (·.2):=ck.2 ⟨_,d,rfl⟩;rw[bW,List.length_erase_of_mem b,bW]at l;have:=vA d;omega
  exact f x.2 h.one c
 refine⟨?_,?_,?_,?_,?_,h.kH⟩
 ·intro a v;simp only[iy,fG];split
  ·rename_i e;subst e;simp
  ·rename_i e;rw[h.map];simp[e]
 ·simp only[iy,hs,fG,h.len,if_true];omega
 ·exact List.Nodup.sublist (List.Sublist.map _ List.filter_sublist) h.one
 ·intro e m;exact h.iD e (ij.1 m).1
 ·have:=h.room;simp only[fG];omega
theorem Bf {k p:Int} (d:(x.2.map (·.2)).Nodup) (b:(p,k)∈x.2):re x k=(p,ag):=by
 unfold re
 cases a:x.2.find? (λe=>decide (e.2=k))with
 | none=>
  have:=kt.1 a _ b
  simp at this
 | some e=>
  have f:=pH a;have c:=pI a;simp at c;have:=A7 d f b (by simpa using c);simp[this]
theorem S7 (h:fT q w F x) (k:Int):Calls Tryz.prog 321 #[.pointer (aa ⟨q,0,ah⟩),.int .i64 k] w λe w'=>e=.returned (.int .i64 (sy x k))/\ai (fT q) w w' F (if cX x k then fG x k else x):=by
 obtain⟨r,B,g,h,hi⟩:=id h;rename_i hO;obtain⟨F1,y,C⟩:=Tf h;have z:=Be h (xF B);refine aku ?_;have f:=kP qY y k ag;simp only[if_true,(hi.prio k).1,hi.ym k]at f;refine⟨λh=>by simp at h,λ_=>⟨_,rfl,_,z.1,_,_,f,λb=>?_,λb=>?_⟩⟩
 ·simp at b;rw[sy,b];exact⟨rfl,ai.same hO⟩
 ·have b:cX x k=ag:=by simpa using b
  obtain⟨p,l⟩:=jf.1 b;have o:=hi.iD _ l;rw[Bf hi.one l];obtain⟨A,m,D⟩:=tT qY y k 3 0;refine⟨_,rfl,_,z.1,A,m,_,rfl,⟨o.1,o.2⟩,?_⟩;obtain⟨F3,n,E,f3⟩:=C _ _ D;obtain⟨i,rfl⟩:∃i:Nat,p=i:=⟨p.toNat,by have:=o.1;omega⟩;have c:i<8:=by have:=o.2;simp at this;omega
  obtain⟨F4,s,G⟩:=JK n c
  have d:A.cell? (((⟨q,0,ah⟩:Addr).add 0).add (i*1))=aa (.pointer (aa ⟨B i,0,ah⟩)):=by
   have:=EJ (x:=x) n i ⟨i,c⟩ (by
    have hA:∀i:Fin 8,L8[i.val]?=aa i:=by decide
    exact hA ⟨i,c⟩)
   simpa [add_lit]using this
  refine⟨_,d,⟨(Tl s k).mono ?_⟩⟩;rintro K L ⟨rfl,t⟩;have u:k∈cR x.2 i:=tN.2 l;have H:tB (x.1,cR x.2 i) k=0:=by unfold tB;rw[aj u]
  rw[H,sy,b];refine⟨_,rfl,rfl,?_⟩;have I:=erase_eq (Jn hi.one i) k
  have T:=ai.pq (x:=fG x k) (ai.glue (av.refl _ _) E f3 (G _ _ t (fG x k).2 (by rw[I];exact Eh _ _ _) (λj M=>by
   rw[fG,Eh];apply List.filter_eq_self.2;intro a J;rw[decide_eq_true_eq];rintro rfl;have:=A7 hi.one (tN.1 J) l rfl;simp at this;omega))) (hi.drop l)
  exact T
theorem ON (x:Nat×bL) (k:Int):cX (fG x k) k=ae:=by
 cases h:cX (fG x k) k with
 | false=>rfl
 | true=>
  obtain⟨p,a⟩:=jf.1 h;simp[fG]at a
theorem kg.OL (h:kg x g) {p k:Int} (a:(p,k)∈x.2):(fG x k).2.length+1=x.2.length:=by
 have b:=(h.drop a).len;have hs:(g.1 k).isSome=ag:=by rw[h.ym];exact jf.2 ⟨p,a⟩
 have:=vA a;simp only[iy,hs,if_true,h.len]at b;omega
theorem kg.back (h:kg x g) {p k:Int} (a:(p,k)∈x.2):kg (kJ x k) g:=by
 have c:=h.drop a;have d:=h.OL a;have i:=h.room;have b:=c.push (h.iD _ a) (ON x k) (by simp only[fG]at d⊢;omega);have hs:(g.1 k).isSome=ag:=by rw[h.ym];exact jf.2 ⟨p,a⟩
 have f:fz (iy g k) k p=g:=by
  apply lT
  ·funext j;simp only[fz,iy];split
   ·rename_i e;subst e;exact((h.map _ _).2 a).symm
   ·rfl
  ·have:=h.len;have:=vA a;simp[fz,iy,hs];omega
 rw[f]at b;rw[kJ,aj (jf.2 ⟨p,a⟩),Bf h.one a];exact b
theorem acX (h:fT q w F x):Calls Tryz.prog 310 #[.pointer (aa ⟨q,0,ah⟩)] w λe w'=>e=.returned (.int .i64 (uX x))/\ai (fT q) w w' F (ly x):=by
 obtain⟨r,B,g,h,hi⟩:=id h;rename_i hO;refine akj ?_;refine⟨(Us h).mono ?_⟩;rintro e w1 ⟨rfl,n⟩;unfold vf;rcases It (f:=λv:Fin 8=>cR x.2 v.val) (l:=L8.reverse)with⟨h1,s⟩|⟨j,a,t,t',h1,s,c,z⟩
 ·rw[h1];have e:uX x=12:=by rw[uX,nS,pV,s]
  rw[ly,e];exact⟨_,_,rfl,λ_=>⟨rfl,ai.quiet hO n⟩,λk=>by simp at k⟩
 ·rw[h1];have y:nS x=(a,0):=by rw[nS,pV,z]
  have e:uX x=0:=by rw[uX,y]
  rw[ly,e,aj rfl,y];refine⟨_,_,rfl,λk=>by simp at k,λ_=>?_⟩;have A:=Frame.star.ak h n (λ_ _ h=>h);obtain⟨F4,o,C⟩:=JK A j.isLt;refine⟨(adg o).mono ?_⟩;rintro I J ⟨rfl,d⟩;have c:cR x.2 j.val=a::t:=c;have D:KD (x.1,cR x.2 j.val)=0:=by simp[KD,cP,c]
  have E:KE (x.1,cR x.2 j.val)=(x.1,t++[a]):=by simp[KE,c]
  rw[D];rw[E]at d;have b:((j.val:Int),a)∈x.2:=tN.1 (by rw[c];exact i6);have G:kJ x a=(x.1,(fG x a).2++[((j.val:Int),a)]):=by rw[kJ,aj (jf.2 ⟨_,b⟩),Bf hi.one b]
  have m:=Jn hi.one j.val;rw[c,mG]at m
  have T:=ai.pq (x:=kJ x a) (g:=g) (B:=B) (by
   rw[G]
   exact ai.glue (F3:=F) (n.mono (λ_ _ h=>h.elim)) (av.refl _ _) (λi h=>.inl h) (C _ _ d ((fG x a).2++[((j.val:Int),a)])
    (by
     rw[Ei,aj rfl,fG,Eh,c,xo];simp only[ne_eq,not_true_eq_false,decide_false,fD,if_false];congr 1;apply List.filter_eq_self.2;intro u p;rw[decide_eq_true_eq];rintro rfl;exact m.1 p)
    (λi H=>by
     rw[Ei,af (by omega),List.append_nil,fG,Eh];apply List.filter_eq_self.2;intro u p;rw[decide_eq_true_eq];rintro rfl;have:=A7 hi.one (tN.1 p) b rfl;simp at this;omega))) (hi.back b)
  exact⟨_,rfl,rfl,T⟩
theorem acs (h:fT q w F x) (k:Int):Calls Tryz.prog 243 #[.pointer (aa ⟨q,0,ah⟩),.int .i64 k] w λe w'=>e=.returned (.int .i64 (yL x k))/\ai (fT q) w w' F (kJ x k):=by
 refine ajl ?_;refine⟨(acV h k).mono ?_⟩;rintro e w1 ⟨rfl,rfl⟩;refine⟨_,_,rfl,⟨(S7 h k).mono ?_⟩⟩;rintro e l ⟨rfl,F3,a,d,f3⟩;obtain⟨r,B,g,_,hi⟩:=h
 cases hk:cX x k with
 | false=>
  have e:yL x k=4:=by rw[yL,sy,hk];rfl
  rw[hk]at a;rw[e,kJ,hk];have b:sy x k=4:=e;rw[b]
  exact⟨_,rfl,λ_=>⟨rfl,F3,a,d,f3⟩,λh=>by simp at h⟩
 | true=>
  have e:yL x k=0:=by rw[yL,sy,hk];rfl
  rw[hk,aj rfl]at a;have b:sy x k=0:=e;rw[e,b,kJ,aj hk];refine⟨_,rfl,λh=>by simp at h,λ_=>⟨(Td a _ k).mono ?_⟩⟩;rintro e m ⟨rfl,T4⟩;obtain⟨p,c⟩:=jf.1 hk;have i:=hi.iD _ c;have j:=hi.OL c;have n:=hi.room
  have f:iB (fG x k) (re x k).1 k=0:=by
   rw[Bf hi.one c,iB,af (by simp only at i⊢;omega),af (by rw[ON];simp),af (by simp only[fG]at j⊢;omega)]
  rw[jA,aj f]at T4;rw[f];exact⟨_,rfl,rfl,ai.glue (av.refl _ _) d f3 T4⟩
def yH (n:Int):Prop:=1<=n/\n<=1024
def mL (B:Nat->Nat) (j:Nat):List Value:=((bU j).map λi=>Bg (B i))++aD (8-j) (.pointer ah)
def yy (B:Nat->Nat) (m j:Nat):List sV:=(bU j).map λi=>(B i,m,[])
theorem VZ {j b m:Nat} (f:j<8):bc (rb r (mL B j,m)) j [Bg b]=rb r (mL (λi=>if i=j then b else B i) (j+1),m):=by
 have a:∀(l:List Value) (v:Value),j<l.length->bc l j [v]=l.set j v:=λl v h=>by
  rw[bc,List.set_eq_take_append_cons_drop,aj h];simp
 have c:(mL B j).length=8:=by simp[mL];omega
 have d:(mL (λi=>if i=j then b else B i) (j+1)).length=8:=by simp[mL];omega
 rw[a _ _ (by simp[rb,c];omega)];unfold rb;rw[List.set_append_left _ _ (by simp only;omega)];congr 1;show(mL B j).set j (Bg b)=mL (λi=>if i=j then b else B i) (j+1);have e:8-j=(8-(j+1))+1:=by omega
 unfold mL;rw[e,List.replicate_succ,List.set_append_right _ _ (by simp),bW,List.length_range,Nat.sub_self,qD,nq,eI,jP];congr 1
 ·apply uq;intro i hi;have:=cD.1 hi;simp only;rw[af (by omega)]
 ·simp
theorem aa4 {j b m:Nat}:yy B m j++[(b,m,[])]=yy (λi=>if i=j then b else B i) m (j+1):=by
 unfold yy;rw[nq,eI];congr 1
 ·apply uq;intro i hi;have:=cD.1 hi;simp only;rw[af (by omega)]
 ·simp
theorem acK (n:Int) (w:World):Calls Tryz.prog 108 #[.int .i64 n] w λe w'=>
  (¬yH n/\e=.returned (.tuple #[.pointer ah,.int .i64 2])/\av no w w')∨
  (yH n/\∃b F,e=.returned (.tuple #[.pointer (aa ⟨b,0,ah⟩),.int .i64 0])/\fT b w' F (n.toNat,[])/\av no w w'/\∀i,F i->w.heap.size<=i):=by
 refine ahd ?_;refine⟨λw1 d=>⟨λI f=>?_⟩⟩;have c:cj w w1 (bM w.heap.size (aB .i64)) (λ_=>ah,0):=cj.new (av.refl _ _) (d.ak no) (bM.new d) (λi hi=>bF hi.symm);by_cases a:yH n
 ·obtain⟨m,rfl⟩:∃m:Nat,n=m:=⟨n.toNat,by unfold yH at a;omega⟩;replace c:cj w I (aF (bM w.heap.size (aB .i64)) (Rw w1.heap.size 265 (rb w.heap.size))) ((λ_=>ah,0),(mL (λ_=>0) 0,m)):=c.add (f.ak no) (Rw.new f rfl) (λi hi=>bF hi.symm);obtain⟨r,L⟩:∃r,w.heap.size=r:=⟨_,rfl⟩;rw[L]at c;generalize w1.heap.size=q at c⊢;replace c:cj w I (ng q r) (((λ_=>ah,0),(mL (λ_=>0) 0,m)),yy (λ_=>0) m 0):=c.add (av.refl _ _) (Fam.nil _) (λi hi=>hi.elim);clear d f;refine⟨bO bu (M:=zB) (σ:=Nat) (λj=>Dt (m:Int) (aa ⟨q,0,ah⟩) (j:Int)) (λj w'=>j<=8/\∃B,cj w w' (ng q r) (((λ_=>ah,0),(mL B j,m)),yy B m j)) (λj _=>8-j) 0 ⟨rfl,rfl,rfl,trivial⟩ ⟨by omega,_,c⟩ ?_⟩;clear c;rintro j p ⟨V,B,c⟩;rw[Uf];refine⟨λg=>?_,λg=>?_⟩
  ·have N:j<8:=by simp at g;omega
   refine⟨(Et m p).mono ?_⟩;rintro e O t;obtain⟨_,bq,G,rfl,P,u,Q⟩:=t.resolve_left (λh=>absurd a h.1);refine⟨_,_,rfl,λg=>by simp at g,λ_=>⟨_,rfl,⟨by omega,by omega⟩,?_⟩⟩;obtain⟨F2,hA,R⟩:=c.right;have J:=R _ _ (Fam.push (s:=((bq,m,[]):sV)) hA u P Q);rw[aa4]at J;obtain⟨F3,y,z⟩:=J.left;obtain⟨F4,l,A⟩:=aF.right y;have C:((⟨q,0,ah⟩:Addr).add 0).add (j*1)=(⟨q,0,ah⟩:Addr).add j:=by simp[add_lit]
   simp only[bQ];rw[C];refine l.ay.wr (by simp[rb,mL]<;>omega) λW K=>?_;refine⟨j+1,⟨rfl,rfl,by rw[aP (by omega)];rfl,trivial⟩,⟨by omega,λi=>if i=j then bq else B i,?_⟩,by omega⟩;refine z _ _ (A _ _ (Rw.gD l K.U ?_));rw[<-VZ N];exact K.ay
  ·have:j=8:=by simp at g;omega
   subst this;obtain⟨F,o,D,E⟩:=c;refine .inr ⟨a,q,F,rfl,⟨r,B,(λ_=>ah,0),?_,⟨?_,rfl,ju,λ_ h=>by simp at h,cB _,by unfold yH at a;simp;omega⟩⟩,D,E⟩
   ·have S:mL B 8=r5 B:=by simp[mL,r5]
    have T:yy B m 8=kF B m []:=rfl;rw[S,T]at o;exact o
   ·intro k v;simp
 ·have u:=(d.ak no).and (f.ak no);refine⟨bO bu (M:=zB) (σ:=Unit) (λ_=>Dt n (aa ⟨w1.heap.size,0,ah⟩) 0) (λ_ w'=>av no w w') (λ_ _=>0) () ⟨rfl,rfl,rfl,trivial⟩ u ?_⟩;rintro _ p H;rw[Uf];refine⟨λg=>?_,λg=>by simp at g⟩;refine⟨(Et n p).mono ?_⟩;rintro e O t;obtain⟨_,rfl,rfl⟩:=t.resolve_right (λh=>absurd h.1 a);exact⟨_,_,rfl,λ_=>.inl ⟨a,rfl,H⟩,λg=>by simp at g⟩
end
structure gH (x:Nat×bL):Prop where
 one:(x.2.map (·.2)).Nodup
 iD:∀e∈x.2,0<=e.1/\e.1<8
 room:x.2.length<=x.1
 kH:1<=x.1/\x.1<=1024
theorem fT.V {q:Nat} {w:World} {F:Fp} {x:Nat×bL} (h:fT q w F x):gH x:=by
 obtain⟨_,_,_,_,k⟩:=h;exact⟨k.one,k.iD,k.room,k.kH⟩
theorem gH.new {n:Nat} (h:1<=n/\n<=1024):gH (n,[]) where
 one:=ju
 iD:=λ_ h=>(by cases h)
 room:=cB _
 kH:=h
theorem gH.len {x:Nat×bL} (h:gH x):x.2.length<=1024:=aW h.room h.kH.2
def lO (L:bL) (j:Nat):List Int:=(bU j).flatMap λi=>cR L (7-i)
theorem aaK (L:bL) (j:Nat):lO L (j+1)=lO L j++cR L (7-j):=by
 unfold lO;rw[nq,List.flatMap_append];simp
theorem aa1 (L:bL) (p:Nat):(cR L p).length<=L.length:=by
 unfold cR;rw[bW];exact jN _ _
theorem aaJ (L:bL) (j:Nat):(lO L j).length<=j*L.length:=by
 induction j with
 | zero=>simp[lO]
 | succ j a=>
  rw[aaK,cG,la,s7];have:=aa1 L (7-j);omega
theorem aaU (L:bL):(pV L).length<=8*L.length:=aaJ L 8
section
variable {x y:Nat×bL} {T i:Nat}
end
theorem Qf {x:Nat×bL} {p k:Int} (h:iB x p k=0) (j:Int):cX (jA x p k) j=(cX x j||decide (j=k)):=by
 rw[jA,aj h,ig,jf,eT,jf,decide_eq_true_iff];simp only[eG,gJ,Prod.mk.injEq];constructor
 ·rintro⟨q,h|⟨_,h⟩⟩
  ·exact .inl ⟨q,h⟩
  ·exact .inr h
 ·rintro(⟨q,h⟩|h)
  ·exact⟨q,.inl h⟩
  ·exact⟨p,.inr ⟨rfl,h⟩⟩
theorem acY {x:Nat×bL} {p k:Int} (h:iB x p k=0):cX x k=ae:=by
 unfold iB at h;by_cases h1:p<0∨8<=p
 ·rw[aj h1]at h;cases h
 ·rw[af h1]at h
  cases hk:cX x k with
  | false=>rfl
  | true=>rw[hk,aj rfl]at h;cases h
theorem Qe (x:Nat×bL) (k j:Int):cX (fG x k) j=(cX x j&&decide (j≠k)):=by
 rw[ig,jf,aY,jf,decide_eq_true_iff];simp[fG]
theorem DY (x:Nat×bL) (k j:Int):cX (kJ x k) j=cX x j:=by
 unfold kJ
 cases hk:cX x k with
 | false=>rfl
 | true=>
  rw[aj rfl,ig,jf,jf];simp only[eG,gJ,Prod.mk.injEq,fG,ij,decide_eq_true_iff];constructor
  ·rintro⟨q,⟨h,_⟩|⟨_,h⟩⟩
   ·exact⟨q,h⟩
   ·rw[h];exact jf.1 hk
  ·rintro⟨q,h⟩;by_cases a:j=k
   ·exact⟨_,.inr ⟨rfl,a⟩⟩
   ·exact⟨q,.inl ⟨h,a⟩⟩
theorem IM (x:Nat×bL) (j:Int):cX (ly x) j=cX x j:=by
 unfold ly;split
 ·exact DY _ _ _
 ·rfl
theorem Sj (x:Nat×bL) (p k:Int):(jA x p k).1=x.1:=by unfold jA;split<;>rfl
theorem Si (x:Nat×bL) (k:Int):(kJ x k).1=x.1:=by unfold kJ;split<;>rfl
theorem abm (x:Nat×bL):(ly x).1=x.1:=by unfold ly;split;exact Si _ _;rfl
theorem ZM {x:Nat×bL} {k:Int} (d:gH x):k∈pV x.2↔cX x k=ag:=by
 rw[jf];unfold pV;constructor
 ·intro h;obtain⟨i,_,hi⟩:=List.mem_flatMap.1 h;exact⟨_,tN.1 hi⟩
 ·rintro⟨p,b⟩;have c:=d.iD _ b;simp only at c;have a:∀i:Fin 8,i∈L8.reverse:=by decide
  refine List.mem_flatMap.2 ⟨⟨p.toNat,by omega⟩,a _,tN.2 ?_⟩;simp only;rw[Int.toNat_of_nonneg c.1];exact b
theorem X2 {x:Nat×bL} (c:gH x) {k:Int} (h:cX x k=ag):(fG x k).2.length+1=x.2.length:=by
 obtain⟨p,b⟩:=jf.1 h
 have d:(x.2.filter λe=>decide (e.2≠k)).map (·.2)=(x.2.map (·.2)).erase k:=by
  rw[erase_eq c.one,vz];rfl
 have f:=congrArg gu d;have a:k∈x.2.map (·.2):=ck.2 ⟨_,b,rfl⟩;rw[bW,List.length_erase_of_mem a,bW]at f;have:=vA b;simp only[fG];omega
theorem Yc:eO Tryz.prog 153 152 1 8 [.pointer ah]:=⟨by kernel_rfl,by kernel_rfl,rfl,by omega⟩
abbrev RS:=List (Nat×bL)
def yU (r:Nat) (p:Option Addr) (n c:Nat):List Value:=[.slice p n c,.map (aa r)]
abbrev nh (b r:Nat):Ob (((Int->Option Int)×Nat)×RS):=aF (bM r (aB .i64)) (Tq fT b 155 152 (yU r))
def cf (x:RS) (i:Nat) (k:Int):Bool:=cX (x.getD i (0,[])) k
structure jK (x:RS) (g:Int->Option Int):Prop where
 map:∀k v,g k=aa v↔∃i:Nat,v=i/\cf x i k=ag
 kH:∀q∈x,q.1=32
 tw:1<=x.length/\x.length<=64
def fo (b:Nat):Ob RS:=λw F x=>∃r g,nh b r w F (g,x)/\jK x g.1
instance Frame.rq (b:Nat):Frame (fo b) where
 ak:=λ⟨r,g,h,k⟩ a c=>⟨r,g,Frame.star.ak h a c,k⟩
 lt:=λ⟨r,g,h,_⟩=>Frame.star.lt h
def dZ (x:RS) (c:Int):Prop:=0<=c/\c<x.length
instance (x:RS) (c:Int):Decidable (dZ x c):=by unfold dZ;infer_instance
theorem oW {x:RS} {c:Int} (h:dZ x c):∃i:Nat,i<x.length/\c=(i:Int):=⟨c.toNat,by unfold dZ at h;omega,by unfold dZ at h;omega⟩
def gR (x:RS) (c:Int):Nat×bL:=x.getD c.toNat (0,[])
theorem jD {x:RS} {i:Nat} (hi:i<x.length):gR x (i:Int)=x[i]:=by simp[gR,hi]
def j9 (x:RS) (k:Int):Int×Bool:=match(bU x.length).find? (λi=>cf x i k)with
 | none=>(0,ae)
 | some i=>((i:Int),ag)
theorem wu {x:RS} {i:Nat} {k:Int} (h:cf x i k=ag):i<x.length:=by
 rcases Nat.lt_or_ge i x.length with hi|hi
 ·exact hi
 ·rw[cf,aO,fV hi]at h;cases h
theorem l8 {x:RS} {i:Nat} (hi:i<x.length) (k:Int):cf x i k=cX x[i] k:=by simp[cf,hi]
theorem uQ {x:RS} {c:Nat} (a:c<x.length) (q:Nat×bL) (i:Nat) (k:Int):cf (x.set c q) i k=if i=c then cX q k else cf x i k:=by
 unfold cf;by_cases hi:i=c
 ·subst hi;simp[a]
 ·rw[af hi];simp[cJ,Ne.symm hi]
theorem sN (x:RS) (k:Int):(j9 x k=(0,ae)/\∀i,cf x i k=ae)∨∃i:Nat,i<x.length/\j9 x k=((i:Int),ag)/\cf x i k=ag:=by
 unfold j9
 cases h:(bU x.length).find? (λi=>cf x i k)with
 | none=>
  refine .inl ⟨rfl,λi=>?_⟩
  cases hm:cf x i k with
  | false=>rfl
  | true=>
   have:=kt.1 h i (cD.2 (wu hm))
   simp[hm]at this
 | some i=>
  have a:=pI h;exact .inr ⟨i,wu a,rfl,a⟩
section
variable {x:RS} {g:(Int->Option Int)×Nat}
theorem jK.one (h:jK x g.1) {k:Int} {i j:Nat} (c:cf x i k=ag) (d:cf x j k=ag):i=j:=by
 have e:=(h.map k i).2 ⟨i,rfl,c⟩;have a:=(h.map k j).2 ⟨j,rfl,d⟩;rw[e]at a;have:=Option.some.inj a;omega
theorem jK.wh (h:jK x g.1) (k:Int):(g.1 k).getD 0=(j9 x k).1/\(g.1 k).isSome=(j9 x k).2:=by
 rcases sN x k with⟨a,c⟩|⟨i,hi,a,c⟩
 ·have:g.1 k=ah:=by
   cases e:g.1 k with
   | none=>rfl
   | some v=>obtain⟨i,_,d⟩:=(h.map k v).1 e;rw[c]at d;cases d
  rw[a,this];exact⟨rfl,rfl⟩
 ·rw[a,(h.map k i).2 ⟨i,rfl,c⟩];exact⟨rfl,rfl⟩
theorem Js {x:RS} (h:∀q∈x,q.1=32) {c:Nat} {q:Nat×bL} (f:q.1=32):∀a∈x.set c q,a.1=32:=by
 intro a d;rcases i7 d with e|e
 ·exact h a e
 ·rw[e];exact f
theorem jK.same (h:jK x g.1) {c:Nat} (a:c<x.length) {q:Nat×bL} (d:∀k,cX q k=cX x[c] k) (e:q.1=x[c].1):jK (x.set c q) g.1:=by
 refine⟨λk v=>?_,Js h.kH (by rw[e];exact h.kH _ (cx a)),by simpa using h.tw⟩;rw[h.map]
 have:∀i,cf (x.set c q) i k=cf x i k:=λi=>by
  rw[uQ a];by_cases hi:i=c
  ·subst hi;rw[aj rfl,d,l8 a]
  ·rw[af hi]
 simp only[this]
theorem jK.put (h:jK x g.1) {c:Nat} (d:c<x.length) {p k:Int} (f:iB x[c] p k=0) (l:∀i,cf x i k=ae):jK (x.set c (jA x[c] p k)) (fz g k (c:Int)).1:=by
 refine⟨λj v=>?_,Js h.kH (by rw[Sj];exact h.kH _ (cx d)),by simpa using h.tw⟩;simp only[fz,uQ d,Qf f];by_cases e:j=k
 ·subst e;rw[aj rfl];constructor
  ·rintro m;have:=Option.some.inj m;exact⟨c,this.symm,by simp⟩
  ·rintro⟨i,rfl,hi⟩;by_cases a:i=c
   ·rw[a]
   ·rw[af a,l]at hi;cases hi
 ·rw[af e,h.map]
  have:∀i,(if i=c then(cX x[c] j||decide (j=k))else cf x i j)=cf x i j:=λi=>by
   by_cases a:i=c
   ·subst a;rw[aj rfl,l8 d];simp[e]
   ·rw[af a]
  simp only[this]
theorem jK.take (h:jK x g.1) {c:Nat} (d:c<x.length) {k:Int} (f:cf x c k=ag):jK (x.set c (fG x[c] k)) (iy g k).1:=by
 refine⟨λj v=>?_,Js h.kH (h.kH x[c] (cx d)),by simpa using h.tw⟩;simp only[iy,uQ d,Qe];by_cases e:j=k
 ·subst e;rw[aj rfl];constructor
  ·intro l;cases l
  ·rintro⟨i,rfl,hi⟩;by_cases a:i=c
   ·rw[aj a]at hi;simp at hi
   ·rw[af a]at hi;exact absurd (h.one hi f) a
 ·rw[af e,h.map]
  have:∀i,(if i=c then(cX x[c] j&&decide (j≠k))else cf x i j)=cf x i j:=λi=>by
   by_cases a:i=c
   ·subst a;rw[aj rfl,l8 d];simp[e]
   ·rw[af a]
  simp only[this]
end
def qc (x:RS) (c p k:Int):Int:=if dZ x c then(if(j9 x k).2 then 6 else iB (gR x c) p k)else 3
def jE (x:RS) (c p k:Int):RS:=if qc x c p k=0 then x.set c.toNat (jA (gR x c) p k)else x
def E6 (x:RS) (c:Int):Int×Int:=if dZ x c then nS (gR x c)else(0,3)
def o5 (x:RS) (c:Int):RS:=if dZ x c then x.set c.toNat (ly (gR x c))else x
def JZ (x:RS) (k:Int):Int:=if(j9 x k).2 then 0 else 4
def va (x:RS) (k:Int):RS:=if(j9 x k).2 then x.set (j9 x k).1.toNat (kJ (gR x (j9 x k).1) k)else x
def Tv (x:RS) (k:Int):Int:=if(j9 x k).2 then 0 else 4
def fH (x:RS) (k:Int):RS:=if(j9 x k).2 then x.set (j9 x k).1.toNat (fG (gR x (j9 x k).1) k)else x
def cp (x:RS) (c:Int):Int:=if dZ x c then(gR x c).2.length else 0
def bT (x:RS) (c:Int):List Int:=if dZ x c then pV (gR x c).2 else[]
section
variable {b r:Nat} {w w':World} {F:Fp} {x:RS} {g:(Int->Option Int)×Nat}
theorem Bm (h:nh b r w F (g,x)):∃p c,aM w b (yU r p x.length c) 155:=by
 obtain⟨F1,a,_⟩:=h.right;exact a.ay
theorem J1 (h:nh b r w F (g,x)):∃F1,bM r (aB .i64) w F1 g/\∀w' a,ai (bM r (aB .i64)) w w' F1 a->ai (nh b r) w w' F (a,x):=aF.left h
theorem yV (h:nh b r w F (g,x)) {i:Nat} (hi:i<x.length):∃a c bi F1,aM w b (yU r (aa a) x.length c) 155/\w.cell? (a.add (i*1))=aa (pt bi)/\fT bi w F1 x[i]/\
  ∀w' d,ai (fT bi) w w' F1 d->ai (nh b r) w w' F (g,x.set i d):=by
 obtain⟨F1,e,f⟩:=h.right;obtain⟨a,c,bi,F2,j,k,l,m⟩:=e.at hi;exact⟨a,c,bi,F2,j,k,l,λw' d n=>f _ _ (m _ _ n)⟩
theorem adB (h:nh b r w F (g,x)) {i:Nat} (hi:i<x.length):∃a c bi F1 Fm,aM w b (yU r (aa a) x.length c) 155/\w.cell? (a.add (i*1))=aa (pt bi)/\fT bi w F1 x[i]/\bM r (aB .i64) w Fm g/\
  ∀w1 m,ai (bM r (aB .i64)) w w1 Fm m->fT bi w1 F1 x[i]/\∀w' k,ai (fT bi) w1 w' F1 k->ai (nh b r) w w' F (m,x.set i k):=by
 obtain⟨G1,G2,t,n,l,u⟩:=h;simp only at t n;obtain⟨a,c,bi,F1,e⟩:=Tq.CO n hi;obtain⟨B,C,D,_⟩:=e w no (av.refl _ _) (λ_ _ h=>h);refine⟨a,c,bi,F1,G1,B,C,D,t,?_⟩;rintro w1 m ⟨o,y,p,z⟩;obtain⟨_,_,E,G⟩:=e w1 G1 p (λj d f=>u j f d);refine⟨E,λw' k H=>?_⟩;obtain⟨H2,t1,t2,A⟩:=G w' k H;have q:=Frame.tq.lt n
 have hd:∀j,o j->¬G2 j:=λj d f=>by
  rcases z j d with h|h
  ·exact u j h f
  ·have:=q j f;omega
 have s:=(Frame.map r _).lt y;refine⟨λj=>o j∨H2 j,⟨o,H2,(Frame.map r _).ak y t2 hd,t1,λ_=>bp,λj d f=>?_⟩,(p.mono (λj _ d=>(l j).2 (.inl d))).trans t2 (λj _ d=>(l j).2 (.inr d)),λj d=>?_⟩
 ·rcases A j f with h|h
  ·exact hd j d h
  ·have:=s j d;omega
 ·rcases d with d|d
  ·exact(z j d).imp (λh=>(l j).2 (.inl h)) id
  ·rcases A j d with h|h
   ·exact .inl ((l j).2 (.inr h))
   ·exact .inr (aW p.size h)
theorem ai.rq (h:ai (nh b r) w w' F (g,x)) (k:jK x g.1):ai (fo b) w w' F x:=by
 obtain⟨a,c,d⟩:=h;exact⟨a,⟨r,g,c,k⟩,d⟩
theorem fo.V (h:fo b w F x) {i:Nat} (hi:i<x.length):gH x[i]:=by
 obtain⟨r,g,h,_⟩:=h;obtain⟨_,_,_,_,_,_,a,_⟩:=yV h hi;exact a.V
theorem E7 (h:nh b r w F (g,x)) (c:Int):Cx 73 #[pt b,I c] w λe w'=>e=Z (I (if dZ x c then 0 else 3))/\w'=w:=by
 obtain⟨p,c1,hB⟩:=Bm h;refine u73 ?_;refine⟨λg=>by simp at g,λ_=>⟨λg1=>⟨_,rfl,_,_,_,hB.cell rfl,λa=>?_,λa=>?_⟩,λg1=>?_⟩⟩
 ·rw[af (by unfold dZ;simp at g1 a;omega)];exact⟨rfl,rfl⟩
 ·rw[aj (by unfold dZ;simp at g1 a;omega)];exact⟨rfl,rfl⟩
 ·rw[af (by unfold dZ;simp at g1;omega)];exact⟨rfl,rfl⟩
theorem wE (h:fo b w F x) (c:Int):Cx 14 #[pt b,I c] w λe w'=>e=Z (I (cp x c))/\w'=w:=by
 obtain⟨r,g,h,hi⟩:=h;refine u14 ?_;refine⟨(E7 h c).mono ?_⟩;rintro e w1 ⟨rfl,rfl⟩;unfold cp;by_cases d:dZ x c
 ·rw[aj d,aj d];obtain⟨i,j,rfl⟩:=oW d;obtain⟨a,c,bi,F1,hB,f,k,_⟩:=yV h j;rw[jD j];refine⟨_,rfl,λg=>by simp at g,λ_=>⟨_,rfl,_,_,_,hB.cell rfl,⟨by omega,by omega⟩,a,rfl,_,f,⟨(acJ k).mono ?_⟩⟩⟩;rintro e l ⟨rfl,rfl⟩;exact⟨_,rfl,rfl,rfl⟩
 ·rw[af d,af d];exact⟨_,rfl,λ_=>⟨rfl,rfl⟩,λg=>by simp at g⟩
theorem J0 (h:fo b w F x) (c:Int):Cx 88 #[pt b,I c] w λe w'=>∃p d,e=Z (.slice p (bT x c).length d)/\Loc w w' 3 p d (bT x c):=by
 obtain⟨r,g,h,hi⟩:=h;refine u88 ?_;refine⟨(E7 h c).mono ?_⟩;rintro e w1 ⟨rfl,rfl⟩;unfold bT;by_cases f:dZ x c
 ·rw[aj f,aj f];obtain⟨i,k,rfl⟩:=oW f;obtain⟨a,c,bi,F1,hB,j,l,_⟩:=yV h k;rw[jD k];refine⟨_,rfl,λg=>by simp at g,λ_=>⟨_,rfl,_,_,_,hB.cell rfl,⟨by omega,by omega⟩,a,rfl,_,j,⟨(aaW l).mono ?_⟩⟩⟩;rintro e n ⟨p,d,rfl,m⟩;exact⟨_,_,_,rfl,p,d,rfl,m⟩
 ·rw[af f,af f];exact⟨_,rfl,λ_=>⟨ah,0,rfl,Loc.nil (av.refl _ _) _⟩,λg=>by simp at g⟩
theorem Tz (h:fo b w F x) (c p k:Int):Cx 235 #[pt b,I c,I p,I k] w λe w'=>e=Z (I (qc x c p k))/\ai (fo b) w w' F (jE x c p k):=by
 obtain⟨r,g,m,hi⟩:=id h;refine ajd ?_;refine⟨(E7 m c).mono ?_⟩;rintro e w1 ⟨rfl,rfl⟩;unfold jE qc;by_cases n:dZ x c
 ·simp only[aj n];obtain⟨i,o,rfl⟩:=oW n;obtain⟨a,c,bi,F1,hB,q,z,kq⟩:=yV m o;obtain⟨F2,A,_⟩:=J1 m;rw[jD o];have l:=kP qY A k ag;have B:((g.1 k).map (aB .i64)).getD (I 0)=I (j9 x k).1:=by rw[<-(hi.wh k).1];cases g.1 k<;>rfl
  simp only[if_true,B,(hi.wh k).2]at l;refine⟨_,rfl,λg=>by simp at g,λ_=>⟨_,rfl,_,hB.cell rfl,_,_,l,λg1=>?_,λg1=>⟨_,rfl,_,_,_,hB.cell rfl,⟨by omega,by omega⟩,a,rfl,_,q,⟨(Td z p k).mono ?_⟩⟩⟩⟩
  ·rw[g1];exact⟨rfl,ai.same h⟩
  ·rintro e N ⟨rfl,C⟩;rw[g1];have f:=kq _ _ C
   have s:∀j,cf x j k=ae:=by
    rcases sN x k with⟨_,D⟩|⟨j,_,E,_⟩
    ·exact D
    ·rw[E]at g1;cases g1
   refine⟨_,rfl,λd=>?_,λd=>?_⟩
   ·have d:=eq_of_beq d;obtain⟨F3,y,G,H⟩:=f;obtain⟨O,c3,t⟩:=Bm y;obtain⟨F4,u,J⟩:=J1 y;obtain⟨K,L,M⟩:=ru qY u k (i:Int);refine⟨_,rfl,_,t.cell rfl,K,L,?_,?_⟩
    ·simp[d]
    ·have T:=ai.rq (ai.glue (av.refl _ _) G H (J _ _ M)) (hi.put o d s);rw[bQ];simp only[fD,if_false,d,if_true];exact T
   ·have d:¬iB x[i] p k=0:=ne_of_beq_false d;simp only[fD,if_false,af d];rw[jA,af d,ob]at f;exact⟨by trivial,ai.rq f hi⟩
 ·simp only[af n];exact⟨_,rfl,λ_=>⟨rfl,ai.same h⟩,λg=>by simp at g⟩
theorem adA (h:fo b w F x) (c:Int):Cx 224 #[pt b,I c] w λe w'=>e=Z (.tuple #[I (E6 x c).1,I (E6 x c).2])/\ai (fo b) w w' F (o5 x c):=by
 obtain⟨r,g,k,hi⟩:=id h;refine ai2 ?_;refine⟨(E7 k c).mono ?_⟩;rintro e w1 ⟨rfl,rfl⟩;unfold o5 E6;by_cases l:dZ x c
 ·simp only[aj l];obtain⟨i,j,rfl⟩:=oW l;obtain⟨a,c,bi,F1,hB,m,u,kq⟩:=yV k j;rw[jD j];refine⟨_,rfl,λg=>by simp at g,λ_=>⟨_,rfl,_,_,_,hB.cell rfl,⟨by omega,by omega⟩,a,rfl,_,m,⟨(agW u).mono ?_⟩⟩⟩;rintro e D ⟨rfl,n⟩;refine⟨_,_,rfl,λg1=>?_,λg1=>?_⟩
  ·have g1:(nS x[i]).2≠0:=by simpa using g1
   have y:(nS x[i])=(0,(nS x[i]).2):=by
    unfold nS at g1⊢
    cases o:pV x[i].2 with
    | nil=>rfl
    | cons v t=>rw[o]at g1;simp at g1
   have z:ly x[i]=x[i]:=by rw[ly,uX,af g1]
   rw[z,bQ,ob];refine⟨?_,ai.quiet h n⟩;rw[y]
  ·have g1:(nS x[i]).2=0:=by simpa using g1
   have d:=Frame.star.ak k n (λ_ _ h=>h);obtain⟨A,c2,B,F2,p,f,q,s⟩:=yV d j;refine⟨_,rfl,_,_,_,p.cell rfl,⟨by omega,by omega⟩,A,rfl,_,f,⟨(acX q).mono ?_⟩⟩;rintro e E ⟨rfl,C⟩;rw[bQ];refine⟨_,rfl,by rw[uX],ai.rq (g:=g) (r:=r) (ai.next d n.nn (λ_ h=>.inl h) (s _ _ C)) (hi.same j (IM _) (abm _))⟩
 ·simp only[af l];exact⟨_,rfl,λ_=>⟨rfl,ai.same h⟩,λg=>by simp at g⟩
theorem Tx (h:nh b r w F (g,x)) (hi:jK x g.1) (k:Int):Cx 242 #[pt b,I k] w λe w'=>w'=w/\((e=Z (.tuple #[.pointer ah,I 4])/\j9 x k=(0,ae))∨
  ∃i,∃l:i<x.length,j9 x k=((i:Int),ag)/\cf x i k=ag/\∃a c bi F1 Fm,e=Z (.tuple #[pt bi,I 0])/\aM w b (yU r (aa a) x.length c) 155/\fT bi w F1 x[i]/\bM r (aB .i64) w Fm g/\
   ∀w1 o,ai (bM r (aB .i64)) w w1 Fm o->fT bi w1 F1 x[i]/\∀w' q,ai (fT bi) w1 w' F1 q->ai (nh b r) w w' F (o,x.set i q)):=by
 refine ajk ?_;obtain⟨p,c1,hB⟩:=Bm h;obtain⟨F2,m,_⟩:=J1 h;have f:=kP qY m k ag;have s:((g.1 k).map (aB .i64)).getD (I 0)=I (j9 x k).1:=by rw[<-(hi.wh k).1];cases g.1 k<;>rfl
 simp only[if_true,s,(hi.wh k).2]at f;refine⟨λg=>by simp at g,λ_=>⟨_,rfl,_,hB.cell rfl,_,_,f,λg1=>?_,λg1=>?_⟩⟩
 ·refine⟨rfl,.inl ⟨rfl,?_⟩⟩;rcases sN x k with⟨d,_⟩|⟨j,_,d,_⟩
  ·exact d
  ·rw[d]at g1;cases g1
 ·rcases sN x k with⟨d,_⟩|⟨i,l,d,t⟩
  ·rw[d]at g1;cases g1
  ·obtain⟨a,c,bi,F1,Fm,hB,n,u,m,kq⟩:=adB h l;rw[d];exact⟨_,rfl,_,_,_,hB.cell rfl,⟨by simp only;omega,by simp only;omega⟩,a,rfl,_,n,rfl,.inr ⟨i,l,rfl,t,a,c,bi,F1,Fm,rfl,hB,u,m,kq⟩⟩
theorem adv (h:fo b w F x) (k:Int):Cx 132 #[pt b,I k] w λe w'=>e=Z (I (JZ x k))/\ai (fo b) w w' F (va x k):=by
 obtain⟨r,g,l,hi⟩:=id h;refine ahB ?_;refine⟨(Tx l hi k).mono ?_⟩;unfold JZ va;rintro e w1 ⟨rfl,⟨rfl,d⟩|⟨i,f,d,m,a,c,bi,F1,Fm,rfl,hB,n,o,kq⟩⟩
 ·rw[d];exact⟨_,_,rfl,λ_=>⟨rfl,ai.same h⟩,λg=>by simp at g⟩
 ·rw[d];refine⟨_,_,rfl,λg=>by simp at g,λ_=>⟨(acs n k).mono ?_⟩⟩;rintro e q ⟨rfl,p⟩;have j:cX x[i] k=ag:=by rw[<-l8 f];exact m
  simp only[if_true,bQ,jD f];exact⟨_,rfl,by rw[yL,sy,j];rfl,ai.rq ((kq _ _ (ai.same o)).2 _ _ p) (hi.same f (DY _ _) (Si _ _))⟩
theorem Bl (h:fo b w F x) (k:Int):Cx 237 #[pt b,I k] w λe w'=>e=Z (I (Tv x k))/\ai (fo b) w w' F (fH x k):=by
 obtain⟨r,g,p,hi⟩:=id h;refine ajf ?_;refine⟨(Tx p hi k).mono ?_⟩;unfold Tv fH;rintro e w1 ⟨rfl,⟨rfl,f⟩|⟨i,j,f,n,a,c,bi,F1,Fm,rfl,hB,y,q,kq⟩⟩
 ·rw[f];exact⟨_,_,rfl,λ_=>⟨rfl,ai.same h⟩,λg=>by simp at g⟩
 ·rw[f];have d:cX x[i] k=ag:=by rw[<-l8 j];exact n
  obtain⟨s,t,u⟩:=tT qY q k 3 0;obtain⟨l,m⟩:=kq _ _ u;refine⟨_,_,rfl,λg=>by simp at g,λ_=>⟨_,rfl,_,hB.cell rfl,s,t,⟨(S7 l k).mono ?_⟩⟩⟩;rintro e z ⟨rfl,o⟩;rw[d,aj rfl]at o;simp only[if_true,bQ,jD j];exact⟨_,rfl,by rw[sy,d];rfl,ai.rq (m _ _ o) (hi.take j n)⟩
end
def Jz (n:Int):Prop:=1<=n/\n<=64
theorem jK.new {n:Nat} (h:1<=n/\n<=64):jK (aD n (32,[])) (λ_=>ah):=by
 refine⟨λk v=>?_,λq a=>?_,by simpa using h⟩
 ·constructor
  ·intro h;cases h
  ·rintro⟨i,_,hi⟩;have c:=wu hi;rw[l8 c]at hi;simp at hi;cases hi
 ·have:=k8 a;rw[this]
theorem adz (n:Int) (w:World):Cx 36 #[I n] w λe w'=>
  (¬Jz n/\e=Z (.tuple #[.pointer ah,I 2])/\w'=w)∨
  (Jz n/\∃b F,e=Z (.tuple #[pt b,I 0])/\fo b w' F (aD n.toNat (32,[]))/\av no w w'/\∀i,F i->w.heap.size<=i):=by
 refine u36 ?_;unfold Jz;refine⟨λo=>⟨λq=>.inl ⟨?_,rfl,rfl⟩,λq=>⟨λw1 f=>⟨λB a=>?_⟩⟩⟩,λo=>.inl ⟨?_,rfl,rfl⟩⟩
 ·simp at q;omega
 ·have o:¬n<1:=by simpa using o
  have q:¬64<n:=by simpa using q
  obtain⟨m,rfl⟩:∃m:Nat,n=m:=⟨n.toNat,by omega⟩;have d:cj w w1 (bM w.heap.size (aB .i64)) (λ_=>ah,0):=cj.new (av.refl _ _) (f.ak no) (bM.new f) (λi hi=>bF hi.symm);obtain⟨r,t⟩:∃r,w.heap.size=r:=⟨_,rfl⟩;rw[t]at d a;replace d:cj w B (nh w1.heap.size r) ((λ_=>ah,0),[]):=d.add (a.ak no) (Tq.nil a rfl) (λi hi=>bF hi.symm);generalize w1.heap.size=b at d⊢;clear f a;refine⟨bO bu (M:=Cg) (σ:=Nat) (λj=>HV (aa ⟨b,0,ah⟩) (m:Int) (j:Int)) (λj w'=>j<=m/\cj w w' (nh b r) ((λ_=>ah,0),aD j (32,[]))) (λj _=>m-j) 0 ⟨rfl,rfl,rfl,trivial⟩ ⟨by omega,d⟩ ?_⟩;clear d;rintro j C ⟨Q,d⟩;rw[afM];refine⟨λg=>?_,λg=>?_⟩
  ·have R:j<m:=by simp at g;omega
   obtain⟨F2,hA,D⟩:=d.right;refine⟨(acK 32 C).mono ?_⟩;rintro e S E;obtain⟨_,bq,G,rfl,H,J,K⟩:=E.resolve_left (λh=>absurd (by unfold yH;decide) h.1);obtain⟨p,c,hB,l⟩:=Tq.push Yc (k:=0) (λp n c p' T c'=>rfl) (λ_ _ _=>by simp[yU]) hA (by simp;omega) (s:=(32,[])) J H K;refine⟨_,_,rfl,λg=>by simp at g,λ_=>⟨_,rfl,_,_,_,hB.cell rfl,⟨λL N=>?_⟩⟩⟩;obtain⟨p',c',O,t,P⟩:=l L N 153;refine⟨p',_,c',O,t,_,rfl,P _ λU u=>?_⟩;refine⟨j+1,⟨rfl,rfl,by rw[aP (by omega)];rfl,trivial⟩,⟨by omega,?_⟩,by omega⟩;have:=D _ _ u;rw[tf];exact this
  ·have:j=m:=by simp at g;omega
   subst this;obtain⟨F,y,z,A⟩:=d;exact .inr ⟨by omega,b,F,rfl,⟨r,_,y,jK.new (by omega)⟩,z,A⟩
 ·simp at o;omega
theorem ac2 (x:RS) (c p k:Int):(jE x c p k).length=x.length:=by unfold jE;split<;>simp
def rB (ld:Int->Int) (gt:Int->Int->Bool) (o:Option Int) (c:Int):Option Int:=match o with
 | none=>aa c
 | some a=>if gt (ld c) (ld a)then aa c else aa a
def mJ (ld:Int->Int) (gt:Int->Int->Bool) (l:List Int):Option Int:=l.foldl (rB ld gt) ah
theorem LY (ld:Int->Int) (gt:Int->Int->Bool) (l:List Int) (c:Int):mJ ld gt (l++[c])=rB ld gt (mJ ld gt l) c:=by
 unfold mJ;rw[mH];rfl
theorem zW (ld:Int->Int) (gt:Int->Int->Bool) (l:List Int):(mJ ld gt l=ah/\l=[])∨∃a∈l,mJ ld gt l=aa a:=by
 have h:∀(l:List Int) (o:Option Int),(l.foldl (rB ld gt) o=ah/\l=[])∨∃a,(a∈l∨o=aa a)/\l.foldl (rB ld gt) o=aa a:=by
  intro l
  induction l with
  | nil=>intro o;cases o with
   | none=>exact .inl ⟨rfl,rfl⟩
   | some a=>exact .inr ⟨a,.inr rfl,rfl⟩
  | cons c l d=>
   intro o;right;rw[nm];rcases d (rB ld gt o c)with⟨b,k2⟩|⟨a,b,k2⟩
   ·subst k2;exfalso;simp only[List.foldl_nil]at b;unfold rB at b;split at b
    ·cases b
    ·split at b<;>cases b
   ·refine⟨a,?_,k2⟩;rcases b with b|b
    ·exact .inl (rP _ b)
    ·unfold rB at b;split at b
     ·exact .inl (by have:=Option.some.inj b;rw[this];exact i6)
     ·split at b
      ·exact .inl (by have:=Option.some.inj b;rw[this];exact i6)
      ·exact .inr b
 rcases h l ah with⟨b,k2⟩|⟨a,b,k2⟩
 ·exact .inl ⟨b,k2⟩
 ·exact .inr ⟨a,b.resolve_right (by simp),k2⟩
def mK (ld:Int->Int) (gt:Int->Int->Bool) (l:List Int):Int×Int:=match mJ ld gt l with
 | none=>(0,12)
 | some a=>(a,0)
def nC (a b:Int):Bool:=decide (a>b)
def nG (a b:Int):Bool:=decide (a<b)
theorem Oo (m:BV) {n:Nat} (c:n<=64):cs (m&&& br n)=bI (hs m) n:=by
 have h:∀k,k<=64->bI (hs (m&&& br n)) k=bI (hs m) (min k n):=by
  intro k
  induction k with
  | zero=>intro _;rw[Nat.zero_min];rfl
  | succ k d=>
   intro g;rw[wK,d (by omega),v8,uL];by_cases e:k<n
   ·rw[oi (by omega),oi (by omega),wK];have f:decide (0<=(k:Int)/\(k:Int)<64)=ag:=by simp;omega
    have a:decide ((k:Int)<(n:Int))=ag:=by simp;omega
    rw[f,a,Bool.and_self,lR]
   ·rw[Nat.min_eq_right (by omega),Nat.min_eq_right (by omega)];have a:decide ((k:Int)<(n:Int))=ae:=by simp;omega
    rw[a,Bool.and_false,Bool.and_false];rfl
 have:=h 64 (aX _);rw[Nat.min_eq_right c]at this;exact this
section
variable {b:Nat} {w:World} {F:Fp} {x:RS}
theorem abl (u v:Int) (w:World):Cx 336 #[I u,I v] w λe w'=>e=Z (.bool (nC u v))/\w'=w:=by
 refine akI ?_;exact⟨rfl,rfl⟩
theorem aaR (u v:Int) (w:World):Cx 337 #[I u,I v] w λe w'=>e=Z (.bool (nG u v))/\w'=w:=by
 refine akJ ?_;exact⟨rfl,rfl⟩
theorem adw (h:fo b w F x) (f:Tab w) (m:BV):Cx 335 #[pt b,.int .u64 (mi m),.func (.func 336) #[] #[]] w λe w'=>e=Z (.tuple #[I (mK (cp x) nC (bI (hs m) x.length)).1,I (mK (cp x) nC (bI (hs m) x.length)).2])/\av no w w':=by
 obtain⟨r,g,G,hi⟩:=id h;obtain⟨p,c,hB⟩:=Bm G;refine KM ?_;refine⟨λg=>by simp at g,λ_=>⟨_,rfl,_,_,_,hB.cell rfl,⟨(uP _ w).mono ?_⟩⟩⟩;rintro e w1 ⟨rfl,rfl⟩;refine⟨_,rfl,⟨(El m _ w1).mono ?_⟩⟩;rintro e w1 ⟨rfl,rfl⟩;refine⟨_,rfl,⟨(R7 _ f).mono ?_⟩⟩;rw[Oo m hi.tw.2];have q:(bI (hs m) x.length).length<=x.length:=vg _ _;have H:=hi.tw;generalize bI (hs m) x.length=l at q⊢;rintro e z ⟨p2,c2,rfl,o⟩;have A:fo b z F x:=(Frame.rq b).ak h o.U (λ_ _ h=>h);have B:=o.S.cells;have C:=o.U;clear o
 cases l with
 | nil=>exact⟨_,_,_,rfl,λ_=>⟨rfl,C⟩,λg=>by simp at g⟩
 | cons v t=>
  refine⟨_,_,_,rfl,λg=>by simp at g;omega,λ_=>⟨⟨by omega,by simp⟩,?_⟩⟩;obtain⟨a,s,u⟩:=B.cv (i:=0) (by simp);refine⟨a,s,_,u,?_⟩;have J:(v::t).length=t.length+1:=rfl;refine⟨bO bu (M:=sR) (σ:=Nat) (λj=>Av (aa ⟨b,0,ah⟩) ((mJ (cp x) nC ((v::t).take j)).getD v) p2 (v::t).length c2 ((v::t).length:Int) (j:Int)) (λj w'=>j<=(v::t).length/\w'=z) (λj _=>(v::t).length-j) 0 ⟨rfl,rfl,rfl,rfl,rfl,rfl,trivial⟩ ⟨by omega,rfl⟩ ?_⟩;rintro j K ⟨L,rfl⟩;rw[Ko];refine⟨λg=>?_,λg=>?_⟩
  ·have D:j<(v::t).length:=by simp at g⊢;omega
   obtain⟨a,s,u⟩:=B.cv D;refine⟨⟨by omega,by omega⟩,a,s,_,u,⟨(wE A _).mono ?_⟩⟩;rintro e E ⟨rfl,rfl⟩;refine⟨_,rfl,⟨(wE A _).mono ?_⟩⟩;rintro e E ⟨rfl,rfl⟩;refine⟨_,rfl,⟨(abl _ _ _).mono ?_⟩⟩;rintro e E ⟨rfl,rfl⟩;have k:=LY (cp x) nC ((v::t).take j) (v::t)[j];rw[<-eW D]at k
   have d:((mJ (cp x) nC ((v::t).take (j+1))).getD v)=if nC (cp x (v::t)[j]) (cp x ((mJ (cp x) nC ((v::t).take j)).getD v))then(v::t)[j]else((mJ (cp x) nC ((v::t).take j)).getD v):=by
    rw[k];rcases zW (cp x) nC ((v::t).take j)with⟨n,k2⟩|⟨a,_,n⟩
    ·have y:j=0:=by
      cases j with
      | zero=>rfl
      | succ j=>simp at k2
     subst y;rw[n];simp[rB]
    ·rw[n];unfold rB;simp only[ie];split<;>rfl
   refine⟨_,rfl,λg1=>⟨j+1,⟨rfl,rfl,by rw[d,aj g1];rfl,rfl,rfl,by rw[aP (by omega)];rfl,trivial⟩,⟨by omega,rfl⟩,by omega⟩,λg1=>⟨j+1,⟨rfl,rfl,by rw[d,af (by simp[g1])];rfl,rfl,rfl,by rw[aP (by omega)];rfl,trivial⟩,⟨by omega,rfl⟩,by omega⟩⟩
  ·have:j=(v::t).length:=by simp at g⊢;omega
   subst this;rw[dC];unfold mK;rcases zW (cp x) nC (v::t)with⟨_,k2⟩|⟨a,_,n⟩
   ·cases k2
   ·rw[n];exact⟨rfl,C⟩
theorem ady (h:fo b w F x) (a:Tab w) (m:BV):Cx 267 #[pt b,.int .u64 (mi m)] w λe w'=>e=Z (.tuple #[I (mK (cp x) nC (bI (hs m) x.length)).1,I (mK (cp x) nC (bI (hs m) x.length)).2])/\av no w w':=by
 refine ajJ ?_;refine⟨(adw h a m).mono ?_⟩;rintro e w1 ⟨rfl,c⟩;exact⟨_,_,rfl,rfl,c⟩
theorem adx (h:fo b w F x) (f:Tab w) (m:BV):Cx 335 #[pt b,.int .u64 (mi m),.func (.func 337) #[] #[]] w λe w'=>e=Z (.tuple #[I (mK (cp x) nG (bI (hs m) x.length)).1,I (mK (cp x) nG (bI (hs m) x.length)).2])/\av no w w':=by
 obtain⟨r,g,G,hi⟩:=id h;obtain⟨p,c,hB⟩:=Bm G;refine lI.KM ?_;refine⟨λg=>by simp at g,λ_=>⟨_,rfl,_,_,_,hB.cell rfl,⟨(uP _ w).mono ?_⟩⟩⟩;rintro e w1 ⟨rfl,rfl⟩;refine⟨_,rfl,⟨(El m _ w1).mono ?_⟩⟩;rintro e w1 ⟨rfl,rfl⟩;refine⟨_,rfl,⟨(R7 _ f).mono ?_⟩⟩;rw[Oo m hi.tw.2];have q:(bI (hs m) x.length).length<=x.length:=vg _ _;have H:=hi.tw;generalize bI (hs m) x.length=l at q⊢;rintro e z ⟨p2,c2,rfl,o⟩;have A:fo b z F x:=(Frame.rq b).ak h o.U (λ_ _ h=>h);have B:=o.S.cells;have C:=o.U;clear o
 cases l with
 | nil=>exact⟨_,_,_,rfl,λ_=>⟨rfl,C⟩,λg=>by simp at g⟩
 | cons v t=>
  refine⟨_,_,_,rfl,λg=>by simp at g;omega,λ_=>⟨⟨by omega,by simp⟩,?_⟩⟩;obtain⟨a,s,u⟩:=B.cv (i:=0) (by simp);refine⟨a,s,_,u,?_⟩;have J:(v::t).length=t.length+1:=rfl;refine⟨bO bu (M:=lI.sR) (σ:=Nat) (λj=>lI.Av (aa ⟨b,0,ah⟩) ((mJ (cp x) nG ((v::t).take j)).getD v) p2 (v::t).length c2 ((v::t).length:Int) (j:Int)) (λj w'=>j<=(v::t).length/\w'=z) (λj _=>(v::t).length-j) 0 ⟨rfl,rfl,rfl,rfl,rfl,rfl,trivial⟩ ⟨by omega,rfl⟩ ?_⟩;rintro j K ⟨L,rfl⟩;rw[lI.Ko];refine⟨λg=>?_,λg=>?_⟩
  ·have D:j<(v::t).length:=by simp at g⊢;omega
   obtain⟨a,s,u⟩:=B.cv D;refine⟨⟨by omega,by omega⟩,a,s,_,u,⟨(wE A _).mono ?_⟩⟩;rintro e E ⟨rfl,rfl⟩;refine⟨_,rfl,⟨(wE A _).mono ?_⟩⟩;rintro e E ⟨rfl,rfl⟩;refine⟨_,rfl,⟨(aaR _ _ _).mono ?_⟩⟩;rintro e E ⟨rfl,rfl⟩;have k:=LY (cp x) nG ((v::t).take j) (v::t)[j];rw[<-eW D]at k
   have d:((mJ (cp x) nG ((v::t).take (j+1))).getD v)=if nG (cp x (v::t)[j]) (cp x ((mJ (cp x) nG ((v::t).take j)).getD v))then(v::t)[j]else((mJ (cp x) nG ((v::t).take j)).getD v):=by
    rw[k];rcases zW (cp x) nG ((v::t).take j)with⟨n,k2⟩|⟨a,_,n⟩
    ·have y:j=0:=by
      cases j with
      | zero=>rfl
      | succ j=>simp at k2
     subst y;rw[n];simp[rB]
    ·rw[n];unfold rB;simp only[ie];split<;>rfl
   refine⟨_,rfl,λg1=>⟨j+1,⟨rfl,rfl,by rw[d,aj g1];rfl,rfl,rfl,by rw[aP (by omega)];rfl,trivial⟩,⟨by omega,rfl⟩,by omega⟩,λg1=>⟨j+1,⟨rfl,rfl,by rw[d,af (by simp[g1])];rfl,rfl,rfl,by rw[aP (by omega)];rfl,trivial⟩,⟨by omega,rfl⟩,by omega⟩⟩
  ·have:j=(v::t).length:=by simp at g⊢;omega
   subst this;rw[dC];unfold mK;rcases zW (cp x) nG (v::t)with⟨_,k2⟩|⟨a,_,n⟩
   ·cases k2
   ·rw[n];exact⟨rfl,C⟩
theorem Tw (h:fo b w F x) (a:Tab w) (m:BV):Cx 268 #[pt b,.int .u64 (mi m)] w λe w'=>e=Z (.tuple #[I (mK (cp x) nG (bI (hs m) x.length)).1,I (mK (cp x) nG (bI (hs m) x.length)).2])/\av no w w':=by
 refine ajK ?_;refine⟨(adx h a m).mono ?_⟩;rintro e w1 ⟨rfl,c⟩;exact⟨_,_,rfl,rfl,c⟩
end
abbrev Iq:=Bool×Bool×Bool×BV
def sg (x:Iq):List Value:=[.bool x.1,.bool x.2.1,.bool x.2.2.1,.int .u64 (mi x.2.2.2)]
theorem yn (x:Iq):(sg x).length=4:=rfl
def i0:Iq:=(ae,ae,ae,0)
abbrev ch:=Int×List Iq
def yo (s:ch):List Value:=s.2.flatMap sg++[.int .u64 (mi (br s.1))]
def cW (b:Nat):Ob ch:=λw F s=>Rw b 201 yo w F s/\s.2.length=16
instance Frame.ir (b:Nat):Frame (cW b) where
 ak:=λ⟨h,r⟩ k a=>⟨(Frame.rw ..).ak h k a,r⟩
 lt:=λ⟨h,_⟩=>(Frame.rw ..).lt h
def jz (n:Int):Prop:=n<0∨16<=n
instance (n:Int):Decidable (jz n):=inferInstanceAs (Decidable (_∨_))
def gq (s:ch) (n:Int):Iq:=s.2.getD n.toNat i0
def ky (s:ch) (n:Int) (q:Iq):ch:=(s.1,s.2.set n.toNat q)
def eM (s:ch) (n:Int):Int:=if jz n then 3 else if(gq s n).1=ag then 0 else 4
def mf (s:ch) (n:Int) (m:BV):Int:=if jz n then 3 else if(gq s n).1=ag then 6 else if mW s.1 m=ag then 0 else 2
def mV (s:ch) (n:Int) (m:BV):ch:=if mf s n m=0 then ky s n (ag,ae,ae,m)else s
def se (s:ch) (n:Int):ch:=if eM s n=0 then ky s n i0 else s
def pz (s:ch) (n:Int) (m:BV):Int:=if eM s n=0 then(if mW s.1 m=ag then 0 else 2)else eM s n
def qu (s:ch) (n:Int) (m:BV):ch:=if pz s n m=0 then ky s n ((gq s n).1,(gq s n).2.1,(gq s n).2.2.1,m)else s
def oU (s:ch) (n:Int) (b:Bool):Int:=if eM s n=0 then(if(gq s n).2.1=b then 6 else 0)else eM s n
def pR (s:ch) (n:Int) (b:Bool):ch:=if oU s n b=0 then ky s n ((gq s n).1,b,(gq s n).2.2.1,(gq s n).2.2.2)else s
def u0 (s:ch) (n:Int):ch:=if eM s n=0 then ky s n ((gq s n).1,(gq s n).2.1,ag,(gq s n).2.2.2)else s
def dG (s:ch) (n:Int):Bool:=decide (eM s n=0)&&(gq s n).2.2.1&&!(gq s n).2.1
def pO (s:ch) (n:Int):Int:=if eM s n=0 then(if dG s n=ag then 0 else 12)else eM s n
def mM (s:ch) (n:Int):ch:=if pO s n=0 then ky s n ((gq s n).1,(gq s n).2.1,ae,(gq s n).2.2.2)else s
def tL (s:ch) (i:Int):Bool:=(gq s i).1
def gP (s:ch):List Int:=bI (tL s) 16
def ia (b:Nat) (k:Nat):Addr:=((⟨b,0,ah⟩:Addr).add 0).add (k*4)
section
variable {w:World} {F:Fp} {b:Nat} {s:ch}
theorem IC (h:s.2.length=16) {k:Nat} (a:k<16):gq s (k:Int)=s.2[k]'(by omega):=by
 unfold gq;simp[aO,h,a]
theorem uO (h:s.2.length=16):(s.2.flatMap sg).length=64:=by rw[Pt yn,h]
theorem cW.cell (h:cW b w F s) {k j:Nat} (c:k<16) {v:Value} (a:(sg (gq s (k:Int)))[j]?=aa v):w.cell? ((ia b k).add j)=aa v:=by
 unfold ia;rw[dX,dX];refine h.1.ay.cell ?_;rw[IC h.2 c]at a;have d:j<4:=by have:=(dQ.1 a).1;rwa [yn]at this
 rw[yo,eU,kr (by rw[uO h.2];omega)];exact yi yn (by rw[h.2];exact c) a
theorem cW.tw (h:cW b w F s):w.cell? ((⟨b,0,ah⟩:Addr).add 64)=aa (.int .u64 (mi (br s.1))):=by
 refine h.1.ay.cell ?_;rw[yo,lP (by rw[uO h.2];omega),uO h.2];rfl
theorem cW.wr (h:cW b w F s) {k j:Nat} (a:k<16) {vs:List Value} {q:Iq} (f:j+vs.length<=4) (c:sg q=bc (sg (gq s (k:Int))) j vs) {K:World->Prop} (g:∀w',ai (cW b) w w' F (ky s (k:Int) q)->K w') :
  Wr w ((ia b k).add j) vs K:=by
 unfold ia;rw[dX,dX,eU];rw[IC h.2 a]at c;refine h.1.ay.wr (by rw[yo,cG,uO h.2];simp;omega) (λw' d=>g w' ?_);have e:=d.aK;rw[yo,TN (by rw[uO h.2];omega),Kb yn (by rw[h.2];exact a) f c]at e;obtain⟨i,l,k2⟩:=h.1.gD (s':=ky s (k:Int) q) d.U e;exact⟨i,⟨l,by simp[ky,h.2]⟩,k2⟩
theorem ZF (b k:Nat):(ia b k).add 0=ia b k:=by unfold ia;rw[dX];rfl
theorem cW.gF (h:cW b w F s) {k:Nat} (a:k<16) {q:Iq} {vs:List Value} (c:vs=sg q) {K:World->Prop} (d:∀w',ai (cW b) w w' F (ky s (k:Int) q)->K w'):Wr w (ia b k) vs K:=by
 subst c;rw[<-ZF];exact h.wr a (by rw[yn];omega) (by simp[bc,sg]) d
theorem Ip (b:Nat) (n:Int) (w:World):Cx 246 #[pt b,I n] w λe w'=>
  ((jz n/\e=Z (.tuple #[.pointer ah,I 3]))∨(¬jz n/\∃k:Nat,n=k/\k<16/\e=Z (.tuple #[.pointer (aa (ia b k)),I 0])))/\w'=w:=by
 refine ajo ?_;refine⟨λh=>by simp at h,λ_=>⟨λa=>⟨λc=>⟨.inl ⟨?_,rfl⟩,rfl⟩,λc=>⟨_,rfl,⟨?_,?_⟩,.inr ⟨?_,n.toNat,?_,?_,rfl⟩,rfl⟩⟩,λa=>⟨.inl ⟨?_,rfl⟩,rfl⟩⟩⟩<;>(first|(simp at a c;unfold jz;omega)|(simp at a c;omega)|(simp at a;unfold jz;omega))
theorem zw (h:cW b w F s) (n:Int):Cx 250 #[pt b,I n] w λe w'=>
  ((eM s n≠0/\e=Z (.tuple #[.pointer ah,I (eM s n)]))∨(eM s n=0/\∃k:Nat,n=k/\k<16/\e=Z (.tuple #[.pointer (aa (ia b k)),I 0])))/\w'=w:=by
 refine ajs ?_;refine⟨(Ip b n w).mono ?_⟩;rintro e w' ⟨f,rfl⟩;rcases f with⟨a,rfl⟩|⟨a,k,rfl,d,rfl⟩
 ·have c:eM s n=3:=by simp[eM,a]
  exact⟨_,_,rfl,λg=>by simp at g,λ_=>⟨.inl ⟨by omega,by rw[c]⟩,rfl⟩⟩
 ·refine⟨_,_,rfl,λ_=>⟨_,rfl,_,h.cell d rfl,λg=>⟨.inl ?_,rfl⟩,λg=>⟨.inr ⟨?_,k,rfl,d,rfl⟩,rfl⟩⟩,λg=>by simp at g⟩
  ·have c:eM s k=4:=by rw[eM,af a,af (by simpa using g)]
   exact⟨by omega,by rw[c]⟩
  ·rw[eM,af a,aj (by simpa using g)]
theorem Qj (h:cW b w F s) (m:BV):Cx 247 #[pt b,.int .u64 (mi m)] w λe w'=>e=Z (.bool (mW s.1 m))/\w'=w:=by
 refine ajp ?_;rw[wv];refine⟨λg=>⟨_,rfl,_,h.tw,⟨(AX _ _ w).mono ?_⟩⟩,λg=>⟨by rw[mW,g,js],rfl⟩⟩;rintro e w' ⟨rfl,rfl⟩;exact⟨_,rfl,by rw[mW,g,dR],rfl⟩
theorem adi (h:cW b w F s) (n:Int):Cx 147 #[pt b,I n] w λe w'=>e=Z (I (eM s n))/\ai (cW b) w w' F (u0 s n):=by
 refine ahQ ?_;refine⟨(zw h n).mono ?_⟩;rintro e w' ⟨⟨a,rfl⟩|⟨a,k,rfl,c,rfl⟩,rfl⟩
 ·rw[u0,af a];exact⟨_,_,rfl,λg=>absurd (by simpa using g) a,λ_=>⟨rfl,ai.same h⟩⟩
 ·rw[u0,aj a,a];exact⟨_,_,rfl,λ_=>⟨_,rfl,h.wr c (by simp) rfl λw1 d=>⟨rfl,d⟩⟩,λg=>by simp at g⟩
theorem YW (h:cW b w F s) (n:Int):Cx 139 #[pt b,I n] w λe w'=>e=Z (I (eM s n))/\ai (cW b) w w' F (se s n):=by
 refine ahI ?_;refine⟨(zw h n).mono ?_⟩;rintro e w' ⟨⟨a,rfl⟩|⟨a,k,rfl,c,rfl⟩,rfl⟩
 ·rw[se,af a];exact⟨_,_,rfl,λg=>absurd (by simpa using g) a,λ_=>⟨rfl,ai.same h⟩⟩
 ·rw[se,aj a,a];exact⟨_,_,rfl,λ_=>⟨_,rfl,h.gF (q:=i0) c rfl λw1 d=>⟨rfl,d⟩⟩,λg=>by simp at g⟩
theorem Vp (h:cW b w F s) (n:Int) (m:BV):Cx 142 #[pt b,I n,.int .u64 (mi m)] w λe w'=>e=Z (I (pz s n m))/\ai (cW b) w w' F (qu s n m):=by
 refine ahL ?_;refine⟨(zw h n).mono ?_⟩;rintro e w' ⟨⟨a,rfl⟩|⟨a,k,rfl,d,rfl⟩,rfl⟩
 ·have c:pz s n m=eM s n:=by rw[pz,af a]
  rw[qu,c,af a];exact⟨_,_,rfl,λ_=>⟨rfl,ai.same h⟩,λg=>absurd (by simpa using g) a⟩
 ·refine⟨_,_,rfl,λg=>by simp at g,λ_=>⟨(Qj h m).mono ?_⟩⟩;rintro e w1 ⟨rfl,rfl⟩;refine⟨_,rfl,λg=>?_,λg=>⟨_,rfl,?_⟩⟩
  ·have c:pz s k m=2:=by rw[pz,aj a,af (by simpa using g)]
   rw[qu,c];exact⟨rfl,ai.same h⟩
  ·have c:pz s k m=0:=by rw[pz,aj a,aj (by simpa using g)]
   rw[qu,c,aj rfl];exact h.wr d (by simp) rfl λw1 f=>⟨rfl,f⟩
theorem Qc (h:cW b w F s) (n:Int) (is:Bool):Cx 252 #[pt b,I n,.bool is] w λe w'=>e=Z (I (oU s n is))/\ai (cW b) w w' F (pR s n is):=by
 refine aju ?_;refine⟨(zw h n).mono ?_⟩;rintro e w' ⟨⟨a,rfl⟩|⟨a,k,rfl,d,rfl⟩,rfl⟩
 ·have c:oU s n is=eM s n:=by rw[oU,af a]
  rw[pR,c,af a];exact⟨_,_,rfl,λ_=>⟨rfl,ai.same h⟩,λg=>absurd (by simpa using g) a⟩
 ·refine⟨_,_,rfl,λg=>by simp at g,λ_=>⟨_,rfl,_,h.cell d rfl,λg=>?_,λg=>⟨_,rfl,?_⟩⟩⟩
  ·have c:oU s k is=6:=by rw[oU,aj a,aj (by simpa using g)]
   rw[pR,c];exact⟨rfl,ai.same h⟩
  ·have c:oU s k is=0:=by rw[oU,aj a,af (by simpa using g)]
   rw[pR,c,aj rfl];exact h.wr d (by simp) rfl λw1 f=>⟨rfl,f⟩
theorem ZD (h:cW b w F s) (n:Int):Cx 145 #[pt b,I n] w λe w'=>e=Z (I (oU s n ag))/\ai (cW b) w w' F (pR s n ag):=by
 refine ahO ?_;refine⟨(Qc h n ag).mono ?_⟩;rintro e w' ⟨rfl,a⟩;exact⟨_,rfl,rfl,a⟩
theorem alz (h:cW b w F s) (n:Int):Cx 146 #[pt b,I n] w λe w'=>e=Z (I (oU s n ae))/\ai (cW b) w w' F (pR s n ae):=by
 refine ahP ?_;refine⟨(Qc h n ae).mono ?_⟩;rintro e w' ⟨rfl,a⟩;exact⟨_,rfl,rfl,a⟩
theorem adj (h:cW b w F s) (n:Int):Cx 175 #[pt b,I n] w λe w'=>e=Z (.bool (dG s n))/\w'=w:=by
 refine aih ?_;refine⟨(zw h n).mono ?_⟩;rintro e w' ⟨⟨c,rfl⟩|⟨c,k,rfl,d,rfl⟩,rfl⟩
 ·have a:dG s n=ae:=by simp[dG,c]
  rw[a];exact⟨_,_,rfl,λg=>absurd (by simpa using g) c,λ_=>⟨rfl,rfl⟩⟩
 ·refine⟨_,_,rfl,λ_=>⟨_,rfl,_,h.cell d rfl,λg=>⟨_,rfl,_,h.cell d rfl,?_,rfl⟩,λg=>⟨?_,rfl⟩⟩,λg=>by simp at g⟩
  ·have a:dG s k = !(gq s k).2.1:=by simp[dG,c,g]
   rw[a]
  ·have a:dG s k=ae:=by simp[dG,g]
   rw[a]
theorem Xo (h:cW b w F s) (n:Int):Cx 221 #[pt b,I n] w λe w'=>e=Z (I (pO s n))/\ai (cW b) w w' F (mM s n):=by
 refine aiZ ?_;refine⟨(zw h n).mono ?_⟩;rintro e w' ⟨⟨a,rfl⟩|⟨a,k,rfl,d,rfl⟩,rfl⟩
 ·have c:pO s n=eM s n:=by rw[pO,af a]
  rw[mM,c,af a];exact⟨_,_,rfl,λ_=>⟨rfl,ai.same h⟩,λg=>absurd (by simpa using g) a⟩
 ·refine⟨_,_,rfl,λg=>by simp at g,λ_=>⟨_,rfl,_,h.cell d rfl,λg1=>⟨_,rfl,_,h.cell d rfl,λf=>?_,λf=>⟨_,rfl,?_⟩⟩,λg1=>?_⟩⟩
  ·have c:pO s k=12:=by rw[pO,aj a,af (by simp[dG,f])]
   rw[mM,c];exact⟨rfl,ai.same h⟩
  ·have g1:(gq s k).2.2.1=ag:=by simpa using g1
   have c:pO s k=0:=by rw[pO,aj a,aj (by simp[dG,a,g1,f])]
   rw[mM,c,aj rfl];exact h.wr d (by simp) rfl λw1 i=>⟨rfl,i⟩
  ·have g1:(gq s k).2.2.1=ae:=by simpa using g1
   have c:pO s k=12:=by rw[pO,aj a,af (by simp[dG,g1])]
   rw[mM,c];exact⟨rfl,ai.same h⟩
theorem adq (h:cW b w F s) (n:Int) (m:BV):Cx 136 #[pt b,I n,.int .u64 (mi m)] w λe w'=>e=Z (I (mf s n m))/\ai (cW b) w w' F (mV s n m):=by
 refine ahF ?_;refine⟨(Ip b n w).mono ?_⟩;rintro e w' ⟨⟨c,rfl⟩|⟨c,k,rfl,d,rfl⟩,rfl⟩
 ·have a:mf s n m=3:=by simp[mf,c]
  rw[mV,a];exact⟨_,_,rfl,λ_=>⟨rfl,ai.same h⟩,λg=>by simp at g⟩
 ·refine⟨_,_,rfl,λg=>by simp at g,λ_=>⟨_,rfl,_,h.cell d rfl,λg1=>?_,λg1=>⟨(Qj h m).mono ?_⟩⟩⟩
  ·have a:mf s k m=6:=by rw[mf,af c,aj g1]
   rw[mV,a];exact⟨rfl,ai.same h⟩
  ·rintro e w1 ⟨rfl,rfl⟩;refine⟨_,rfl,λg=>?_,λg=>⟨_,rfl,?_⟩⟩
   ·have a:mf s k m=2:=by rw[mf,af c,af (by simp[g1]),af (by simpa using g)]
    rw[mV,a];exact⟨rfl,ai.same h⟩
   ·have a:mf s k m=0:=by rw[mf,af c,af (by simp[g1]),aj (by simpa using g)]
    rw[mV,a,aj rfl];exact h.gF (q:=(ag,ae,ae,m)) d rfl λw1 f=>⟨rfl,f⟩
theorem Jk (h:cW b w F s):Cx 174 #[pt b] w λe w'=>∃p c,e=Z (.slice p (gP s).length c)/\Loc w w' 3 p c (gP s):=by
 have u:=h.2;refine aif ?_
 refine⟨λg=>by simp at g,λ_=>⟨_,rfl,s.2.flatMap sg,uO u,?_,⟨bO bu (M:=B1) (σ:=Nat×Option Addr×Nat) (λx=>Hs x.2.1 (bI (tL s) x.1).length x.2.2 (s.2.flatMap sg) x.1)
  (λx w'=>x.1<=16/\Loc w w' 3 x.2.1 x.2.2 (bI (tL s) x.1)) (λx _=>16-x.1) (0,ah,0) ⟨rfl,rfl,rfl,trivial⟩ ⟨by simp,Loc.nil (av.refl _ _) _⟩ ?_⟩⟩⟩
 ·intro j v f;rw[dX];refine h.1.ay.cell ?_;have o:j<64:=by have:=(dQ.1 f).1;rwa [uO u]at this
  rw[yo,eU,kr (by rw[uO u];exact o)];exact f
 ·rintro⟨i,p,d⟩ w1 ⟨h1,m⟩;simp only at h1 m⊢;rw[ae5];have a:=wK (tL s) i;have H:=vg (tL s) i;refine⟨λy=>?_,λz=>?_⟩
  ·have hi:i<16:=by simp at y;omega
   have A:=Pu yn (l:=s.2) (k:=i) (by omega);have q:tL s i=(s.2[i]'(by omega)).1:=by unfold tL;rw[IC u hi]
   refine⟨⟨by omega,by omega⟩,_,_,_,_,A,⟨λI r=>?_⟩⟩;refine r.aK.gF (by simp) (λD t=>?_);refine⟨_,t.aK.cell rfl,λg=>⟨λJ B=>?_⟩,λg=>?_⟩
   ·have n:Loc w D 3 p d (bI (tL s) i):=⟨m.U.and ((r.ak no).trans (t.U) (λj f e=>absurd f (by omega))),?_,m.F⟩
    ·obtain⟨p',c',E,G,C⟩:=n.push oJ (by omega) B 36;rw[aj (by rw[q];exact g)]at a;exact⟨p',_,c',E,G,(i+1,p',c'),⟨by rw[a];rfl,rfl,by rw[aP (by omega)];rfl,trivial⟩,⟨by simp only;omega,by rw[a];exact C⟩,by simp only;omega⟩
    ·exact(m.S.ak (r.ak no) (λ_ _ h=>h)).ak t.U (λj f e=>by have:=m.S.lt j f;omega)
   ·have n:Loc w D 3 p d (bI (tL s) i):=⟨m.U.and ((r.ak no).trans (t.U) (λj f e=>absurd f (by omega))),(m.S.ak (r.ak no) (λ_ _ h=>h)).ak t.U (λj f e=>by have:=m.S.lt j f;omega),m.F⟩;rw[af (by rw[q,g];decide)]at a;exact⟨(i+1,p,d),⟨by rw[a];rfl,rfl,by rw[aP (by omega)];rfl,trivial⟩,⟨by simp only;omega,by rw[a];exact n⟩,by simp only;omega⟩
  ·have:i=16:=by simp at z;omega
   subst this;exact⟨p,d,rfl,m⟩
end
theorem abT (n:Int) (w:World):Cx 40 #[I n] w λe w'=>
  (¬(1<=n/\n<=64)/\e=Z (.tuple #[.pointer ah,I 2])/\w'=w)∨
  ((1<=n/\n<=64)/\∃b F,e=Z (.tuple #[pt b,I 0])/\cW b w' F (n,aD 16 i0)/\av no w w'/\∀i,F i->w.heap.size<=i):=by
 refine u40 ?_;refine⟨λa=>⟨λc=>.inl ⟨by simp at c;omega,rfl,rfl⟩,λc=>⟨(uP n w).mono ?_⟩⟩,λa=>.inl ⟨by simp at a;omega,rfl,rfl⟩⟩;rintro e w1 ⟨rfl,rfl⟩;exact⟨_,rfl,⟨λf d=>.inr ⟨by simp at a c;omega,w1.heap.size,λi=>i=w1.heap.size,rfl,⟨Rw.new d rfl,rfl⟩,d.ak no,λi hi=>bF hi.symm⟩⟩⟩
abbrev dh:=Int×List Int
structure dh.ok (x:dh):Prop where
 len:x.2.length=16
 le:x.1<=64
 Qd:∀v∈x.2,-1<=v/\v<64
def sE (x:dh):List Value:=x.2.map (λv=>aB .i64 (v+1))++[I x.1]
def jl (b:Nat):Ob dh:=λw F x=>Rw b 204 sE w F x/\x.ok
instance Frame.rt (b:Nat):Frame (jl b) where
 ak:=λ⟨h,r⟩ k a=>⟨(Frame.rw ..).ak h k a,r⟩
 lt:=λ⟨h,_⟩=>(Frame.rw ..).lt h
def iP (n:Int):Prop:=n<0∨16<=n
instance (n:Int):Decidable (iP n):=inferInstanceAs (Decidable (_∨_))
def gt (x:dh) (n:Int):Int:=x.2.getD n.toNat 0
def qd (x:dh) (n c:Int):Int:=if iP n then 3 else if c<0∨x.1<=c then 3 else 0
def nP (x:dh) (n c:Int):dh:=if qd x n c=0 then(x.1,x.2.set n.toNat c)else x
def tP (x:dh) (n:Int):Int:=if iP n then 3 else if gt x n<0 then 4 else 0
def qZ (x:dh) (n:Int):dh:=if tP x n=0 then(x.1,x.2.set n.toNat (-1))else x
def cF (x:dh) (n:Int):Int×Bool:=if iP n then(0,ae)else if gt x n<0 then(0,ae)else(gt x n,ag)
def su (x:dh) (c:Int) (i:Int):Bool:=(cF x i).2&&(cF x i).1==c
def iQ (x:dh) (c:Int):List Int:=bI (su x c) 16
theorem PV {x:dh} (h:x.ok) {k:Nat} (a:k<16):gt x (k:Int)=x.2[k]'(by rw[h.len];exact a):=by
 unfold gt;simp[aO,h.len,a]
theorem PX {x:dh} (h:x.ok) {k:Nat} (a:k<16) : -1<=gt x (k:Int)/\gt x (k:Int)<64:=by
 rw[PV h a];exact h.Qd _ (cx _)
theorem adC {x:dh} (h:x.ok) {k:Nat} (a:k<16):(sE x)[k]?=aa (I (gt x (k:Int)+1)):=by
 rw[PV h a,sE,kr (by simp[h.len,a])];simp[h.len,a]
theorem adD {x:dh} (h:x.ok):(sE x)[16]?=aa (I x.1):=by
 rw[sE,lP (by simp[h.len])];simp[h.len]
theorem adE {x:dh} (h:x.ok):(sE x).length=17:=by simp[sE,h.len]
theorem adF {x:dh} (h:x.ok) {k:Nat} (a:k<16) (v:Int):bc (sE x) k [I (v+1)]=sE (x.1,x.2.set k v):=by
 have:=h.len;unfold bc sE;apply de;intro j;simp only[od,iI,ik,fy,cJ,cG,eR,bW,il,oq,bN]
 grind
theorem acg {x:dh} (h:x.ok) {k:Nat} {v:Int} (c : -1<=v/\v<64):dh.ok (x.1,x.2.set k v):=
 ⟨by simp[h.len],h.le,λu a=>by
  rcases i7 a with a|rfl
  ·exact h.Qd u a
  ·exact c⟩
section
variable {w:World} {F:Fp} {b:Nat} {x:dh} {y:Option Addr×Nat}
theorem JV (b:Nat) (n:Int) (w:World):Cx 251 #[pt b,I n] w λe w'=>e=Z (I (if iP n then 3 else 0))/\w'=w:=by
 refine ajt ?_;refine⟨λh=>by simp at h,λ_=>⟨λa=>⟨λc=>⟨?_,rfl⟩,λc=>⟨?_,rfl⟩⟩,λa=>⟨?_,rfl⟩⟩⟩
 ·rw[aj (by simp at c;unfold iP;omega)]
 ·rw[af (by simp at a c;unfold iP;omega)]
 ·rw[aj (by simp at a;unfold iP;omega)]
theorem jl.cell {k:Nat} (h:jl b w F x) (a:k<16):w.cell? (((⟨b,0,ah⟩:Addr).add 0).add ((k:Int).toNat*1))=aa (I (gt x (k:Int)+1)):=by
 rw[dX,eU,eX];exact h.1.ay.cell (adC h.2 a)
theorem jl.wr {k:Nat} {v:Int} (h:jl b w F x) (d:k<16) (e : -1<=v/\v<64) {K:World->Prop} (f:∀w',ai (jl b) w w' F (x.1,x.2.set k v)->K w') :
  Wr w (((⟨b,0,ah⟩:Addr).add 0).add ((k:Int).toNat*1)) [I (v+1)] K:=by
 rw[dX,eU,eX];refine h.1.ay.wr (by rw[adE h.2];show k+1<=17;omega) (λw' a=>f w' ?_);have c:=a.aK;rw[show(k:Int).toNat=k from rfl,adF h.2 d]at c;obtain⟨g,i,k2⟩:=h.1.gD (s':=(x.1,x.2.set k v)) a.U c;exact⟨g,⟨i,acg h.2 e⟩,k2⟩
theorem aee (h:jl b w F x) (n c:Int):Cx 249 #[pt b,I n,I c] w λe w'=>e=Z (I (qd x n c))/\ai (jl b) w w' F (nP x n c):=by
 refine ajr ?_;refine⟨(JV b n w).mono ?_⟩;rintro e w' ⟨rfl,rfl⟩;have i:=h.2.le;by_cases a:iP n
 ·have d:qd x n c=3:=by simp[qd,a]
  rw[aj a,nP,d];exact⟨_,rfl,λ_=>⟨rfl,ai.same h⟩,λg=>by simp at g⟩
 ·rw[af a];obtain⟨k,rfl⟩:∃k:Nat,n=k:=⟨n.toNat,by unfold iP at a;omega⟩;have j:k<16:=by unfold iP at a;omega
  refine⟨_,rfl,λg=>by simp at g,λ_=>⟨λg1=>⟨_,rfl,_,h.1.ay.cell (adD h.2),λf=>?_,λf=>⟨_,rfl,⟨by omega,by omega⟩,?_⟩⟩,λg1=>?_⟩⟩
  ·have d:qd x k c=3:=by simp at f;simp[qd,a,f]
   rw[nP,d];exact⟨rfl,ai.same h⟩
  ·have g1:¬c<0:=by simpa using g1
   have f:¬x.1<=c:=by simpa using f
   have d:qd x k c=0:=by rw[qd,af a,af (by omega)]
   rw[nP,d,aj rfl,aP (by omega)];exact h.wr j (by omega) (λw' l=>⟨rfl,l⟩)
  ·have d:qd x k c=3:=by simp at g1;simp[qd,a,g1]
   rw[nP,d];exact⟨rfl,ai.same h⟩
theorem acd (h:jl b w F x) (n:Int):Cx 141 #[pt b,I n] w λe w'=>e=Z (I (tP x n))/\ai (jl b) w w' F (qZ x n):=by
 refine ahK ?_;refine⟨(JV b n w).mono ?_⟩;rintro e w' ⟨rfl,rfl⟩;by_cases a:iP n
 ·have c:tP x n=3:=by simp[tP,a]
  rw[aj a,qZ,c];exact⟨_,rfl,λ_=>⟨rfl,ai.same h⟩,λg=>by simp at g⟩
 ·rw[af a];obtain⟨k,rfl⟩:∃k:Nat,n=k:=⟨n.toNat,by unfold iP at a;omega⟩;have d:k<16:=by unfold iP at a;omega
  have hi:=PX h.2 d;refine⟨_,rfl,λg=>by simp at g,λ_=>⟨_,rfl,⟨by omega,by omega⟩,_,h.cell d,λg1=>?_,λg1=>⟨_,rfl,⟨by omega,by omega⟩,?_⟩⟩⟩
  ·have c:tP x k=4:=by simp at g1;rw[tP,af a,aj (by omega)]
   rw[qZ,c];exact⟨rfl,ai.same h⟩
  ·have c:tP x k=0:=by simp at g1;rw[tP,af a,af (by omega)]
   rw[qZ,c,aj rfl];have:=h.wr (v:=-1) d (by omega) (K:=λf=>cN (I 0)=cN (I 0)/\ai (jl b) w' f F (x.1,x.2.set k (-1))) (λf i=>⟨rfl,i⟩);exact this
theorem Jy (h:jl b w F x) (n:Int):Cx 186 #[pt b,I n] w λe w'=>e=Z (.tuple #[I (cF x n).1,.bool (cF x n).2])/\w'=w:=by
 refine aip ?_;refine⟨(JV b n w).mono ?_⟩;rintro e w' ⟨rfl,rfl⟩;by_cases a:iP n
 ·have c:cF x n=(0,ae):=by simp[cF,a]
  rw[aj a,c];exact⟨_,rfl,λg=>by simp at g,λ_=>⟨rfl,rfl⟩⟩
 ·rw[af a];obtain⟨k,rfl⟩:∃k:Nat,n=k:=⟨n.toNat,by unfold iP at a;omega⟩;have d:k<16:=by unfold iP at a;omega
  have hi:=PX h.2 d;refine⟨_,rfl,λ_=>⟨_,rfl,⟨by omega,by omega⟩,_,h.cell d,λg1=>?_,λg1=>⟨_,rfl,⟨by omega,by omega⟩,_,h.cell d,?_⟩⟩,λg=>by simp at g⟩
  ·have c:cF x k=(0,ae):=by simp at g1;rw[cF,af a,aj (by omega)]
   rw[c];exact⟨rfl,rfl⟩
  ·have c:cF x k=(gt x k,ag):=by simp at g1;rw[cF,af a,af (by omega)]
   rw[c,aP (by omega),Int.add_sub_cancel];exact⟨rfl,rfl⟩
theorem SO (h:jl b w F x) (c:Int):Cx 291 #[pt b,I c] w λe w'=>∃p d,e=Z (.slice p (iQ x c).length d)/\Loc w w' 3 p d (iQ x c):=by
 refine aj0 ?_
 refine⟨λg=>by simp at g,λ_=>⟨bO bu (M:=Cc) (σ:=Nat×Option Addr×Nat) (λs=>HK (aa ⟨b,0,ah⟩) c s.2.1 (bI (su x c) s.1).length s.2.2 s.1)
  (λs w'=>s.1<=16/\Loc w w' 3 s.2.1 s.2.2 (bI (su x c) s.1)) (λs _=>16-s.1) (0,ah,0) ⟨rfl,rfl,rfl,rfl,trivial⟩ ⟨by simp,Loc.nil (av.refl _ _) _⟩ ?_⟩⟩
 rintro⟨i,p,d⟩ w1 ⟨h1,f⟩;simp only at h1 f⊢;rw[afw];have a:=wK (su x c) i;have t:=vg (su x c) i;refine⟨λj=>?_,λk=>?_⟩
 ·have hi:i<16:=by simp at j;omega
  have n:jl b w1 F x:=(Frame.rt b).ak h f.U (λ_ _ h=>h);refine⟨(Jy n i).mono ?_⟩;rintro e w' ⟨rfl,rfl⟩;refine⟨_,_,rfl,λg1=>⟨λl=>⟨λu o=>?_⟩,λl=>?_⟩,λg1=>?_⟩
  ·obtain⟨p',c',q,r,m⟩:=f.push oJ (by omega) o 36;rw[aj (by unfold su;rw[g1,l];rfl)]at a;exact⟨p',_,c',q,r,(i+1,p',c'),⟨rfl,rfl,by rw[a];rfl,by rw[aP (by omega)];rfl,trivial⟩,⟨by simp only;omega,by rw[a];exact m⟩,by simp only;omega⟩
  ·rw[af (by unfold su;rw[g1,l];decide)]at a;exact⟨(i+1,p,d),⟨rfl,rfl,by rw[a];rfl,by rw[aP (by omega)];rfl,trivial⟩,⟨by simp only;omega,by rw[a];exact f⟩,by simp only;omega⟩
  ·rw[af (by unfold su;rw[g1];simp)]at a;exact⟨(i+1,p,d),⟨rfl,rfl,by rw[a];rfl,by rw[aP (by omega)];rfl,trivial⟩,⟨by simp only;omega,by rw[a];exact f⟩,by simp only;omega⟩
 ·have:i=16:=by simp at k;omega
  subst this;exact⟨p,d,rfl,f⟩
end
theorem Ye:eO Tryz.prog 205 208 1 8 [.pointer ah]:=⟨by kernel_rfl,by kernel_rfl,rfl,by omega⟩
theorem Er:qq Tryz.prog 78 3 3 (I 0):=⟨by kernel_rfl,by kernel_rfl,by kernel_rfl,by kernel_rfl⟩
def jZ (l:List Int):Nat×List Int:=(32,l)
abbrev QL:=List (List Int)
abbrev WS:=List Bool×((Int->Option Int)×Nat)×QL
def vj (b2 a:Nat) (p:Option Addr) (n c:Nat):List Value:=[pt b2,.slice p n c,.map (aa a)]
def px (b:Nat):Ob WS:=λw F x=>∃b2 a,aF (aF (dq b2) (bM a (aB .i64))) (Tq eP b 207 208 (vj b2 a)) w F ((x.1,x.2.1),x.2.2.map jZ)
instance Frame.wk (b:Nat):Frame (px b) where
 ak:=λ⟨b2,b3,h⟩ k a=>⟨b2,b3,Frame.star.ak h k a⟩
 lt:=λ⟨b2,b3,h⟩=>Frame.star.lt h
def ka (Q:QL) (v:Int):Option Int:=(Q.findIdx? (λl=>decide (v∈l))).map (λ(i:Nat)=>(i:Int)-1)
def once (Q:QL):Prop:=∀v,ct Q v<=1
section
variable {Q:QL} {i j:Nat} {v:Int}
theorem JY (hi:i<Q.length) (c:j<Q.length) (a:i≠j) (d:v∈Q[i]) (e:v∈Q[j]):2<=ct Q v:=by
 have f:=pP hi [] v;have b:j<(Q.set i []).length:=by simpa using c
 have k2:=lW (L:=Q.set i []) b (v:=v) (by rw[rQ a];exact e);have h:=qB.2 d;simp at f;omega
theorem zx (b:once Q) (hi:i<Q.length) (h:v∈Q[i]):ka Q v=aa ((i:Int)-1):=by
 have:Q.findIdx? (λl=>decide (v∈l))=aa i:=by
  rw[oo];refine⟨hi,by simpa using h,λk d=>?_⟩;have a:k<Q.length:=by omega
  simp only[decide_eq_true_eq];intro c;have:=JY a hi (by omega) c h;have:=b v;omega
 rw[ka,this];rfl
theorem FR (h:ct Q v=0):ka Q v=ah:=by
 have:Q.findIdx? (λl=>decide (v∈l))=ah:=by
  rw[ta];intro l a;obtain⟨i,hi,rfl⟩:=uv a;rw[decide_eq_false_iff_not];intro b;have:=lW hi b;omega
 rw[ka,this];rfl
theorem K1 (b:once Q) (v:Int):(ka Q v=ah/\ct Q v=0)∨∃i,∃hi:i<Q.length,v∈Q[i]/\ka Q v=aa ((i:Int)-1)/\0<ct Q v:=by
 by_cases h:ct Q v=0
 ·exact .inl ⟨FR h,h⟩
 ·have c:v∈Q.flatten:=qB.1 (by unfold ct at h;omega);obtain⟨l,d,a⟩:=List.mem_flatten.1 c;obtain⟨i,hi,rfl⟩:=uv d;exact .inr ⟨i,hi,a,zx b hi a,by omega⟩
theorem FT (h:once Q) {l':List Int} (c:once (Q.set i l')) (hi:i<Q.length) (e:v∈l'↔v∈Q[i]):ka (Q.set i l') v=ka Q v:=by
 rcases K1 h v with⟨b,f⟩|⟨k,l,b,f,_⟩
 ·rw[b];apply FR;have n:=pP hi l' v;have p:l'.count v=0:=List.count_eq_zero.2 λm=>by have:=lW hi (e.1 m);omega
  omega
 ·rw[f];have d:k<(Q.set i l').length:=by simpa using l
  refine zx c d ?_;by_cases a:i=k
  ·subst a;rw[qA];exact e.2 b
  ·rw[rQ a];exact b
end
structure WI (x:WS):Prop where
 len:x.1.length=32
 one:once x.2.2
 has:∀v,cQ x.1 v=decide (0<ct x.2.2 v)
 map:∀v,x.2.1.1 v=ka x.2.2 v
 pos:2<=x.2.2.length/\x.2.2.length<=65
def fu (b:Nat):Ob QL:=λw F Q=>∃o g,px b w F (o,g,Q)/\WI (o,g,Q)
instance Frame.ud (b:Nat):Frame (fu b) where
 ak:=λ⟨o,g,h,r⟩ k a=>⟨o,g,(Frame.wk b).ak h k a,r⟩
 lt:=λ⟨o,g,h,_⟩=>(Frame.wk b).lt h
theorem ai.ud {b:Nat} {w w':World} {F:Fp} {o:List Bool} {g:(Int->Option Int)×Nat} {Q:QL} (h:ai (px b) w w' F (o,g,Q)) (k:WI (o,g,Q)):ai (fu b) w w' F Q:=by
 obtain⟨a,c,d⟩:=h;exact⟨a,⟨o,g,c,k⟩,d⟩
section
variable {o:List Bool} {g:(Int->Option Int)×Nat} {Q:QL} {i:Nat} {v:Int}
theorem WI.iD (h:WI (o,g,Q)) (b:0<ct Q v):1<=v/\v<=32:=by
 have:cQ o v=ag:=by rw[h.has];exact decide_eq_true b
 have:=sf this;have a:=h.len;simp only at a;rw[a]at this;exact this
theorem WI.row (h:WI (o,g,Q)) (hi:i<Q.length):Q[i].Nodup/\Q[i].length<=32:=by
 have a:=Dj h.one hi;exact⟨a,sb a λv b=>h.iD (lW hi b)⟩
theorem WI.push (h:WI (o,g,Q)) (hi:i<Q.length) (k:1<=v/\v<=32) (d:v∉Q[i]):iT (jZ Q[i]) v=0/\lz (jZ Q[i]) v=jZ (Q[i]++[v]):=by
 obtain⟨l,_⟩:=h.row hi
 have m:(Q[i]++[v]).length<=32:=by
  refine sb ?_ ?_
  ·rw[jO];exact⟨l,by simp,λa n b f e=>by simp at f;subst f;subst e;exact d n⟩
  ·intro u c;rw[eG]at c;rcases c with c|c
   ·exact h.iD (lW hi c)
   ·simp at c;subst c;exact k
 have e:iT (jZ Q[i]) v=0:=by
  unfold iT jZ;simp only;rw[af d,af];simp at m;omega
 exact⟨e,by rw[lz,aj e];rfl⟩
theorem Dk (hi:i<Q.length) (v u:Int):ct (Q.set i (Q[i]++[v])) u=ct Q u+if v=u then 1 else 0:=by
 have:=pP hi (Q[i]++[v]) u;rw[ni,uo]at this;simp only[beq_iff_eq]at this;omega
theorem Oq (d:once Q) (hi:i<Q.length) (c:v∈Q[i]) (u:Int):ct (Q.set i (Q[i].erase v)) u+(if v=u then 1 else 0)=ct Q u:=by
 have:=pP hi (Q[i].erase v) u;have b:(Q[i].erase v).count u=Q[i].count u-if(v==u)=ag then 1 else 0:=List.count_erase;have e:=Hi hi u;by_cases a:v=u
 ·subst a;have:=qB.2 c;rw[aj (by simp)]at b;rw[aj rfl];omega
 ·have:(v==u)=ae:=by simpa using a
  simp[a,this]at b⊢;omega
theorem WI.queue (h:WI (o,g,Q)) (hi:i<Q.length) {j:Nat} (d:eL o=((j:Int)+1,0)):WI (jk o,fz g ((j:Int)+1) ((i:Int)-1),Q.set i (Q[i]++[(j:Int)+1]))/\(j:Int)+1∉Q[i]/\j<32:=by
 rcases FB o with⟨a,n,f,k2,p⟩|⟨f,_⟩
 ·have k:a=j:=by rw[f]at d;simp at d;omega
  subst k;have m:=h.len;simp only at m;have r:ct Q ((a:Int)+1)=0:=by have:=h.has ((a:Int)+1);simp only[p]at this;simpa using this.symm
  have b:(a:Int)+1∉Q[i]:=λq=>by have:=lW hi q;omega
  have c:=Dk hi ((a:Int)+1)
  have l:once (Q.set i (Q[i]++[(a:Int)+1])):=λu=>by
   rw[c];have:=h.one u;simp only at this;split
   ·rename_i e;subst e;omega
   ·omega
  refine⟨⟨by simp only[k2,bN];exact m,l,λu=>?_,λu=>?_,by simpa using h.pos⟩,b,by omega⟩
  ·simp only[k2,c];rw[IG n];by_cases hu:u=(a:Int)+1
   ·subst hu;simp
   ·rw[af hu,af (λe=>hu e.symm)];exact h.has u
  ·simp only[fz];by_cases hu:u=(a:Int)+1
   ·subst hu;rw[aj rfl,zx l (by simpa using hi) (by rw[qA];simp)]
   ·rw[af hu,FT h.one l hi (by simp[hu])];exact h.map u
 ·rw[f]at d;simp at d
theorem WI.drop (h:WI (o,g,Q)) (hi:i<Q.length) (d:v∈Q[i]):WI (mR o v,iy g v,Q.set i (Q[i].erase v)):=by
 have a:=Oq (show once Q from h.one) hi d;have b:=lW hi d;obtain⟨_,k⟩:=PK (o:=o) (n:=v) (by rw[h.has];exact decide_eq_true b);have f:once (Q.set i (Q[i].erase v)):=λu=>by have:=a u;have:=h.one u;simp only at this;omega
 refine⟨by simp only[PL];exact h.len,f,λu=>?_,λu=>?_,by simpa using h.pos⟩
 ·simp only[k];have c:=a u;by_cases hu:u=v
  ·subst hu;have:=h.one u;simp only at this;rw[aj rfl]at c;have:ct (Q.set i (Q[i].erase u)) u=0:=by omega
   simp[this]
  ·rw[af (λe=>hu e.symm),pF]at c;rw[c,decide_eq_true (show u≠v from hu),lR];exact h.has u
 ·simp only[iy];by_cases hu:u=v
  ·subst hu;have c:=a u;have:=h.one u;simp only at this;rw[aj rfl]at c⊢;rw[FR (by omega)]
  ·rw[af hu,FT h.one f hi (by rw[List.mem_erase_of_ne hu])];exact h.map u
theorem WI.unbind (h:WI (o,g,Q)) (hi:i<Q.length) (w:0<i) {l:List Int} (m:Q[i]=v::l):WI (o,fz g v (-1),(Q.set i l).set 0 (Q[0]'(by omega)++[v]))/\v∉Q[0]'(by omega)/\(1<=v/\v<=32):=by
 have n:v∈Q[i]:=by rw[m];simp
 have d:=lW hi n;have r:Q[i].erase v=l:=by rw[m];simp
 have c:=Oq (show once Q from h.one) hi n;rw[r]at c;have p:0<(Q.set i l).length:=by simp;omega
 have e:(Q.set i l)[0]=Q[0]'(by omega):=rQ (by omega) p;have a:=Dk (Q:=Q.set i l) p v;rw[e]at a;have b:∀u,ct ((Q.set i l).set 0 (Q[0]'(by omega)++[v])) u=ct Q u:=λu=>by have:=c u;have:=a u;omega
 have f:once (Q.set i l):=λu=>by have:=c u;have:=h.one u;simp only at this;omega
 have q:once ((Q.set i l).set 0 (Q[0]'(by omega)++[v])):=λu=>by rw[b];exact h.one u
 have k:v∉Q[0]'(by omega):=λs=>by
  have:=JY hi (show 0<Q.length by omega) (by omega) n s;have:=h.one v;simp only at this;omega
 refine⟨⟨h.len,q,λu=>by simp only[b];exact h.has u,λu=>?_,by simpa using h.pos⟩,k,h.iD d⟩;simp only[fz];by_cases hu:u=v
 ·subst hu;rw[aj rfl,zx (i:=0) q (by simp;omega) (by rw[qA];simp)];rfl
 ·rw[af hu]
  have t:ka ((Q.set i l).set 0 (Q[0]'(by omega)++[v])) u=ka (Q.set i l) u:=by
   refine FT f q p ?_;rw[e];simp[hu]
  rw[t,FT h.one f hi (by rw[m];simp[hu])];exact h.map u
end
def cY (Q:QL) (au f:Int):Prop:=f<=au/\au+1<Q.length
instance (Q:QL) (au f:Int):Decidable (cY Q au f):=by unfold cY;infer_instance
def ix (au:Int):Nat:=(au+1).toNat
def da (Q:QL) (au:Int):List Int:=Q.getD (ix au) []
theorem uN {Q:QL} {au f:Int} (h:cY Q au f) (a : -1<=f):∃i:Nat,i<Q.length/\au=(i:Int)-1/\ix au=i:=⟨ix au,by unfold cY at h;unfold ix;omega,by unfold cY at h;unfold ix;omega,rfl⟩
theorem o0 {Q:QL} {i:Nat} (hi:i<Q.length):da Q ((i:Int)-1)=Q[i]:=by
 unfold da ix;have:((i:Int)-1+1).toNat=i:=by omega
 rw[this];simp[hi]
theorem D0 (i:Nat):ix ((i:Int)-1)=i:=by unfold ix;omega
def uJ (Q:QL):Option Nat:=(bU 32).find? (λ(k:Nat)=>decide (ct Q ((k:Int)+1)=0))
def uY (Q:QL) (au:Int):Int×Int:=if cY Q au (-1)then(match uJ Q with|some j=>((j:Int)+1,0)|none=>(0,5))else(0,3)
def tR (Q:QL) (au:Int):QL:=if cY Q au (-1)then(match uJ Q with|some j=>Q.set (ix au) (da Q au++[(j:Int)+1])|none=>Q)else Q
def vi (Q:QL) (v:Int):Int×Bool:=match ka Q v with|some c=>(c,ag)|none=>(0,ae)
def Aq (Q:QL) (v:Int):Int:=match ka Q v with|some _=>0|none=>4
def oI (Q:QL) (v:Int):QL:=match ka Q v with|some c=>Q.set (ix c) ((da Q c).erase v)|none=>Q
def BJ (Q:QL) (au:Int):Int×Int:=if cY Q au 0 then(match da Q au,da Q (-1)with|a::_,_=>(a,0)|[],a::_=>(a,0)|[],[]=>(0,12))else(0,3)
def qg (Q:QL) (au:Int):QL:=if cY Q au 0 then(match da Q au,da Q (-1)with|a::_,_=>oI Q a|[],a::_=>oI Q a|[],[]=>Q)else Q
def pf (Q:QL) (au:Int):Int×Int:=if cY Q au 0 then(match da Q au with|a::_=>(a,0)|[]=>(0,12))else(0,3)
def mr (Q:QL) (au:Int):QL:=if cY Q au 0 then(match da Q au with|a::l=>(Q.set (ix au) l).set 0 (da Q (-1)++[a])|[]=>Q)else Q
def b8 (Q:QL) (au:Int):List Int:=if cY Q au (-1)then da Q au else[]
theorem YV {o:List Bool} {g:(Int->Option Int)×Nat} {Q:QL} (h:WI (o,g,Q)):(∃j,uJ Q=aa j/\eL o=((j:Int)+1,0))∨(uJ Q=ah/\eL o=(0,5)/\jk o=o):=by
 have e:=h.len;simp only at e
 have b:∀k:Nat,cQ o ((k:Int)+1) = !decide (ct Q ((k:Int)+1)=0):=λk=>by
  rw[h.has];by_cases c:ct Q ((k:Int)+1)=0
  ·simp[c]
  ·have:0<ct Q ((k:Int)+1):=by omega
   simp[this,c]
 cases a:uJ Q with
 | none=>
  unfold uJ at a;rw[kt]at a;have:=ags (o:=o) (λk d=>by rw[b];have:=a k (by simp;omega);simpa using this)
  exact .inr ⟨rfl,this⟩
 | some j=>
  refine .inl ⟨j,rfl,?_⟩;unfold uJ at a;rw[List.find?_range_eq_some]at a;obtain⟨f,l,m⟩:=a;refine(agu (by simp at l;omega) (λk d=>?_) ?_).1
  ·rw[b];have:=m k d;simpa using this
  ·rw[b];simpa using f
section
variable {w:World} {F:Fp} {b:Nat} {x:WS} {Q:QL} {o:List Bool} {g:(Int->Option Int)×Nat}
theorem px.slot (h:px b w F x):∃b2 a F1,dq b2 w F1 x.1/\(∃p c,aM w b (vj b2 a p x.2.2.length c) 207)/\∀w' d,ai (dq b2) w w' F1 d->ai (px b) w w' F (d,x.2):=by
 obtain⟨b2,a,h⟩:=h;obtain⟨F2,e,_⟩:=h.right;obtain⟨F1,f,k⟩:=h.left;obtain⟨F3,i,j⟩:=f.left;obtain⟨p,c,hB⟩:=e.ay;rw[bW]at hB;refine⟨b2,a,F3,i,⟨p,c,hB⟩,λw' d l=>?_⟩;obtain⟨m,n,q⟩:=k _ _ (j _ _ l);exact⟨m,⟨b2,a,n⟩,q⟩
theorem px.mp (h:px b w F x):∃b2 a F1,bM a (aB .i64) w F1 x.2.1/\(∃p c,aM w b (vj b2 a p x.2.2.length c) 207)/\∀w' d,ai (bM a (aB .i64)) w w' F1 d->ai (px b) w w' F (x.1,d,x.2.2):=by
 obtain⟨b2,a,h⟩:=h;obtain⟨F2,e,_⟩:=h.right;obtain⟨F1,f,k⟩:=h.left;obtain⟨F3,i,j⟩:=f.right;obtain⟨p,c,hB⟩:=e.ay;rw[bW]at hB;refine⟨b2,a,F3,i,⟨p,c,hB⟩,λw' r l=>?_⟩;obtain⟨m,n,q⟩:=k _ _ (j _ _ l);exact⟨m,⟨b2,a,n⟩,q⟩
theorem px.q (h:px b w F x) {i:Nat} (hi:i<x.2.2.length):∃b2 d a c bi F1,aM w b (vj b2 d (aa a) x.2.2.length c) 207/\w.cell? (a.add (i*1))=aa (pt bi)/\eP bi w F1 (jZ x.2.2[i])/\
  ∀w' l',ai (eP bi) w w' F1 (jZ l')->ai (px b) w w' F (x.1,x.2.1,x.2.2.set i l'):=by
 obtain⟨b2,d,h⟩:=h;obtain⟨F2,f,k⟩:=h.right;obtain⟨a,c,bi,F1,hB,j,e,l⟩:=f.at (i:=i) (by simpa using hi);simp only[bW]at hB;simp only[rV]at e;refine⟨b2,d,a,c,bi,F1,hB,j,e,λw' l' m=>?_⟩;obtain⟨n,p,r⟩:=k _ _ (l _ _ m);refine⟨n,⟨b2,d,?_⟩,r⟩;simp only[fx];exact p
theorem BN (h:fu b w F Q) (au:Int) (f:Int):Cx 148 #[pt b,I au,I f] w λe w'=>e=Z (I (if cY Q au f then 0 else 3))/\w'=w:=by
 obtain⟨o,g,h,hI⟩:=h;have i:=hI.pos;simp only at i;refine ahR ?_;obtain⟨b2,j,F1,_,⟨p,c,hB⟩,_⟩:=h.slot;have d:aV .i64 ((Q.length:Int)-1)=(Q.length:Int)-1:=aP (by omega);refine⟨λg=>by simp at g,λ_=>⟨λg=>⟨_,rfl,_,_,_,hB.cell rfl,λa=>⟨?_,rfl⟩,λa=>⟨?_,rfl⟩⟩,λg=>⟨?_,rfl⟩⟩⟩
 ·simp only[d]at a;rw[af];unfold cY;simp at g a;omega
 ·simp only[d]at a;rw[aj];unfold cY;simp at g a;omega
 ·rw[af];unfold cY;simp at g;omega
theorem wL {b2 d c bi i n:Nat} {a:Addr} (hB:aM w b (vj b2 d (aa a) n c) 207) (f:w.cell? (a.add (i*1))=aa (pt bi)) (hi:i<n) (j:n<=1000) :
  Cx 150 #[pt b,I ((i:Int)-1)] w λe w'=>e=Z (pt bi)/\w'=w:=by
 refine ahT ?_;have h:aV .i64 ((i:Int)-1-(-1))=(i:Int):=by rw[aP (by omega)];omega
 rw[h];exact⟨_,rfl,_,_,_,hB.cell rfl,⟨by omega,by omega⟩,a,rfl,_,f,rfl,rfl⟩
theorem U8 (h:fu b w F Q) (v:Int):Cx 334 #[pt b,I v] w λe w'=>e=Z (.tuple #[I (vi Q v).1,.bool (vi Q v).2])/\w'=w:=by
 obtain⟨o,g,h,hI⟩:=h;refine akH ?_;obtain⟨b2,i,F1,f,⟨p,c,hB⟩,_⟩:=h.mp;refine⟨λg=>by simp at g,λ_=>⟨_,rfl,_,hB.cell rfl,?_⟩⟩;have a:=kP Er f v ag;have d:=hI.map v;simp only at d a;rw[d]at a;unfold vi
 cases hw:ka Q v with
 | none=>rw[hw]at a;exact⟨_,_,a,rfl,rfl⟩
 | some c=>rw[hw]at a;exact⟨_,_,a,rfl,rfl⟩
theorem al2 (h:fu b w F Q) (v:Int):Cx 263 #[pt b,I v] w λe w'=>e=Z (.bool (vi Q v).2)/\w'=w:=by
 refine ajF ?_;refine⟨(U8 h v).mono ?_⟩;rintro e w1 ⟨rfl,rfl⟩;exact⟨_,_,rfl,rfl,rfl⟩
theorem al9 (h:fu b w F Q) (au:Int):Cx 93 #[pt b,I au] w λe w'=>∃p c,e=Z (.slice p (b8 Q au).length c)/\Cells w' p ((b8 Q au).map (aB .i64))/\av no w w':=by
 refine UG ?_;refine⟨(BN h au (-1)).mono ?_⟩;rintro e w1 ⟨rfl,rfl⟩;refine⟨_,rfl,λg=>?_,λg=>?_⟩
 ·have k:¬cY Q au (-1):=λh=>by rw[aj h]at g;simp at g
  rw[b8,af k];exact⟨ah,0,rfl,Cells.nil _ _,av.refl _ _⟩
 ·have j:cY Q au (-1):=eV λh=>by rw[af h]at g;simp at g
  rw[b8,aj j];obtain⟨i,hi,rfl,l⟩:=uN j (by omega);rw[o0 hi];obtain⟨o,g,h,hI⟩:=h;obtain⟨b2,t,a,c,bi,F4,hB,d,m,n⟩:=h.q (i:=i) hi;have r:=hI.pos;simp only at r hB;refine⟨(wL hB d hi (by omega)).mono ?_⟩;rintro e u ⟨rfl,rfl⟩;refine⟨_,rfl,⟨(JP m).mono ?_⟩⟩;rintro e y ⟨p,c,rfl,s,f⟩;exact⟨_,_,_,rfl,_,_,rfl,s,f⟩
theorem FX (h:fu b w F Q) (au:Int):Cx 170 #[pt b,I au] w λe w'=>e=Z (I ((b8 Q au).length:Int))/\av no w w':=by
 refine aib ?_;refine⟨(al9 h au).mono ?_⟩;rintro e w1 ⟨p,c,rfl,_,a⟩;exact⟨_,_,_,rfl,rfl,a⟩
theorem alX (h:fu b w F Q) (v:Int):Cx 308 #[pt b,I v] w λe w'=>e=Z (I (Aq Q v))/\ai (fu b) w w' F (oI Q v):=by
 refine akh ?_;refine⟨(U8 h v).mono ?_⟩;rintro e w1 ⟨rfl,rfl⟩;refine⟨_,_,rfl,λg=>by simp at g,λ_=>⟨λg1=>?_,λg1=>?_⟩⟩
 ·have z:ka Q v=ah:=by unfold vi at g1;cases hw:ka Q v with|none=>rfl|some c=>rw[hw]at g1;simp at g1
  rw[Aq,oI,z];exact⟨rfl,ai.same h⟩
 ·obtain⟨o,g,h,hI⟩:=h;rcases K1 (show once Q from hI.one) v with⟨d,_⟩|⟨i,hi,t,d,_⟩
  ·unfold vi at g1;rw[d]at g1;simp at g1
  ·rw[Aq,oI,vi,d];simp only;rw[D0,o0 hi];have f:=hI.drop hi t;have A:=hI.pos;simp only at A;obtain⟨b2,B,F1,C,⟨p,c,hB⟩,j⟩:=h.mp;obtain⟨D,E,G⟩:=tT Er C v 3 0;obtain⟨F2,u,H,J⟩:=j _ _ G;obtain⟨K,L,F3,hs,⟨p',c',k⟩,l⟩:=u.slot;refine⟨_,rfl,_,hB.cell rfl,D,E,_,rfl,_,k.cell rfl,⟨(Fg hs v).mono ?_⟩⟩;rintro e S ⟨rfl,m⟩;obtain⟨F4,y,M,N⟩:=l _ _ m;obtain⟨b2,B,a,c,bi,F5,hB,n,O,r⟩:=y.q (i:=i) hi;simp only at hB;refine⟨_,rfl,⟨(wL hB n hi (by omega)).mono ?_⟩⟩;rintro e T ⟨rfl,rfl⟩;refine⟨_,rfl,⟨(Tl O v).mono ?_⟩⟩;rintro e U ⟨rfl,s⟩;have P:tB (jZ Q[i]) v=0:=by unfold tB jZ;rw[aj t]
   refine⟨_,rfl,by rw[P],?_⟩;have R:=r _ _ s;exact ai.ud (ai.next u H J (ai.next y M N R)) f
theorem U2 (h:fu b w F Q) (d:Tab w) (au:Int):Cx 68 #[pt b,I au] w λe w'=>e=Z (.tuple #[I (uY Q au).1,I (uY Q au).2])/\ai (fu b) w w' F (tR Q au):=by
 refine u68 ?_;refine⟨(BN h au (-1)).mono ?_⟩;rintro e w1 ⟨rfl,rfl⟩;refine⟨_,rfl,λg=>?_,λg=>?_⟩
 ·have m:¬cY Q au (-1):=λh=>by rw[aj h]at g;simp at g
  rw[uY,tR,af m,af m,af m];exact⟨rfl,ai.same h⟩
 ·have n:cY Q au (-1):=eV λh=>by rw[af h]at g;simp at g
  rw[uY,tR,aj n,aj n];obtain⟨i,hi,rfl,E⟩:=uN n (by omega);rw[o0 hi,D0];obtain⟨o,g,h,hI⟩:=h;have G:=hI.pos;simp only at G;obtain⟨b2,H,F1,hs,⟨p,c,hB⟩,r⟩:=h.slot;refine⟨_,rfl,_,hB.cell rfl,⟨(Fj d hs).mono ?_⟩⟩;rintro e U ⟨rfl,J⟩;obtain⟨F2,l,B,C⟩:=r _ _ J;rcases YV hI with⟨j,f1,f2⟩|⟨f1,f2,f3⟩
  ·obtain⟨s,f,V⟩:=hI.queue hi f2;obtain⟨p1,p2⟩:=hI.push hi (v:=(j:Int)+1) (by omega) f;simp only[f1,f2];obtain⟨K,L,F3,M,⟨p',c',t⟩,u⟩:=l.mp;obtain⟨N,O,y⟩:=ru Er M ((j:Int)+1) ((i:Int)-1);obtain⟨F4,D,P,R⟩:=u _ _ y;obtain⟨b2,H,a,c,bi,F5,hB,z,S,A⟩:=D.q (i:=i) hi;simp only at hB;refine⟨_,_,rfl,λg=>by simp at g,λ_=>⟨_,rfl,_,t.cell rfl,N,O,⟨(wL hB z hi (by omega)).mono ?_⟩⟩⟩;rintro e W ⟨rfl,rfl⟩;refine⟨_,rfl,⟨(yN S _).mono ?_⟩⟩;rintro e X ⟨rfl,k⟩;simp only[p1,p2]at k⊢;have T:=A _ _ k;exact⟨_,rfl,rfl,ai.ud (ai.next l B C (ai.next D P R T)) s⟩
  ·simp only[f1,f2];rw[f3]at l;exact⟨_,_,rfl,λ_=>⟨rfl,ai.ud ⟨F2,l,B,C⟩ hI⟩,λg=>by simp at g⟩
theorem amk (h:fu b w F Q) (au:Int):Cx 358 #[pt b,I au] w λe w'=>e=Z (.tuple #[I (pf Q au).1,I (pf Q au).2])/\ai (fu b) w w' F (mr Q au):=by
 refine akX ?_;refine⟨(BN h au 0).mono ?_⟩;rintro e w1 ⟨rfl,rfl⟩;refine⟨_,rfl,λg=>?_,λg=>?_⟩
 ·have y:¬cY Q au 0:=λh=>by rw[aj h]at g;simp at g
  rw[pf,mr,af y,af y,af y];exact⟨rfl,ai.same h⟩
 ·have s:cY Q au 0:=eV λh=>by rw[af h]at g;simp at g
  rw[pf,mr,aj s,aj s];obtain⟨i,hi,rfl,K⟩:=uN s (by omega);have L:0<i:=by unfold cY at s;omega
  rw[o0 hi,D0];obtain⟨o,g,h,hI⟩:=h;have M:=hI.pos;simp only at M;obtain⟨b2,N,a,c,bi,F1,hB,f,k,d⟩:=h.q (i:=i) hi;simp only at hB k d;refine⟨(wL hB f hi (by omega)).mono ?_⟩;rintro e w2 ⟨rfl,rfl⟩;refine⟨_,rfl,⟨(EU k).mono ?_⟩⟩;rintro e w3 ⟨rfl,O⟩;obtain⟨F2,m,G,H⟩:=d _ _ O
  cases t:Q[i]with
  | nil=>
   have P:Q.set i []=Q:=by rw[<-t,ob]
   simp only[jZ,t,List.tail_nil,P]at m
   exact⟨_,_,rfl,λ_=>⟨rfl,ai.ud ⟨F2,m,G,H⟩ hI⟩,λg=>by simp[cP,jZ]at g⟩
  | cons v l=>
   obtain⟨z,n,R⟩:=hI.unbind hi L t;simp only[jZ,t,List.tail_cons]at m;have u:0<Q.length:=by omega
   have S:da Q (-1)=Q[0]:=o0 (i:=0) u;obtain⟨p1,p2⟩:=hI.push u R n;simp only[S];obtain⟨T,U,F3,V,⟨p',c',A⟩,B⟩:=m.mp;obtain⟨W,C,D⟩:=ru Er V v (-1);obtain⟨F4,J,X,Y⟩:=B _ _ D;have p:0<(Q.set i l).length:=by simpa using u
   obtain⟨b2,N,a,c,bi,F5,hB,f,k,d⟩:=J.q (i:=0) p;simp only[bN]at hB;have r:(Q.set i l)[0]=Q[0]:=rQ (by omega) p;simp only[r]at k;refine⟨_,_,rfl,λg=>by simp[cP,jZ]at g,λ_=>⟨_,rfl,_,A.cell rfl,W,C,⟨(wL hB f u (by omega)).mono ?_⟩⟩⟩;rintro e w5 ⟨rfl,rfl⟩;refine⟨_,rfl,⟨(yN k _).mono ?_⟩⟩;rintro e w6 ⟨rfl,j⟩;have E:(cP (32,v::l)).1=v:=rfl;simp only[jZ]at p1 p2 j⊢;simp only[E,p1,p2]at j⊢;have h7:=d _ _ j;exact⟨_,rfl,rfl,ai.ud (ai.next m G H (ai.next J X Y h7)) z⟩
theorem X0 {i:Nat} (a:once Q) (hi:i<Q.length) {v:Int} (c:v∈Q[i]):Aq Q v=0:=by rw[Aq,zx a hi c]
theorem ami (h:fu b w F Q) (au:Int):Cx 223 #[pt b,I au] w λe w'=>e=Z (.tuple #[I (BJ Q au).1,I (BJ Q au).2])/\ai (fu b) w w' F (qg Q au):=by
 refine ai1 ?_;refine⟨(BN h au 0).mono ?_⟩;rintro e w1 ⟨rfl,rfl⟩;refine⟨_,rfl,λg=>?_,λg=>⟨λB N=>?_⟩⟩
 ·have C:¬cY Q au 0:=λh=>by rw[aj h]at g;simp at g
  rw[BJ,qg,af C,af C,af C];exact⟨rfl,ai.same h⟩
 ·have D:cY Q au 0:=eV λh=>by rw[af h]at g;simp at g
  rw[BJ,qg,aj D,aj D];have O:=N.ak no;have W:Cells B (aa ⟨w1.heap.size,0,ah⟩) (([au,-1]:List Int).map (aB .i64)):=(Sl.new (n:=2) (sz:=1) N (by simp) (by decide)).cells;have X:fu b B F Q:=(Frame.ud b).ak h O (λ_ _ h=>h);refine⟨bO bu (M:=B7) (σ:=Nat) (λj=>HC (aa ⟨b,0,ah⟩) (aa ⟨w1.heap.size,0,ah⟩) 2 2 2 (j:Int)) (λj w'=>j<=2/\av no B w'/\(1<=j->da Q au=[])/\(2<=j->da Q (-1)=[])) (λj _=>2-j) 0 ⟨rfl,rfl,rfl,rfl,trivial⟩ ⟨by omega,av.refl _ _,λh=>by omega,λh=>by omega⟩ ?_⟩;rintro j P ⟨j1,f,z,k2⟩;rw[afl];have E:fu b P F Q:=(Frame.ud b).ak X f (λ_ _ h=>h);have p:av no w1 P:=O.and f;refine⟨λg=>?_,λg=>?_⟩
  ·have hj:j<2:=by simp at g;omega
   obtain⟨a0,G,r⟩:=(W.no f).cv (i:=j) (l:=([au,-1]:List Int)) (by simp;omega);obtain⟨i,hi,s,Y⟩:=uN D (by omega);subst s;have R:0<Q.length:=by omega
   have S:=o0 hi;have T:da Q (-1)=Q[0]:=o0 (i:=0) R;rw[S,T];rw[S]at z;rw[T]at k2
   obtain⟨k,A,H,d⟩:∃k:Nat,∃A:k<Q.length,([(i:Int)-1,-1]:List Int)[j]'(by simp;omega)=(k:Int)-1/\((j=0/\k=i)∨(j=1/\k=0)):=by
    have:j=0∨j=1:=by omega
    rcases this with rfl|rfl
    ·exact⟨i,hi,rfl,.inl ⟨rfl,rfl⟩⟩
    ·exact⟨0,R,rfl,.inr ⟨rfl,rfl⟩⟩
   rw[H]at r;obtain⟨o,gm,J,hI⟩:=id E;have hp:=hI.pos;simp only at hp;obtain⟨b2,b3,a,c,bi,F5,hB,K,U,al⟩:=J.q (i:=k) A;simp only at hB U;refine⟨⟨by omega,by omega⟩,a0,G,_,r,⟨(wL hB K A (by omega)).mono ?_⟩⟩;rintro e w4 ⟨rfl,rfl⟩;refine⟨_,rfl,⟨(JO U).mono ?_⟩⟩;rintro e w5 ⟨rfl,m⟩;have V:fu b w5 F Q:=(Frame.ud b).ak E m (λ_ _ h=>h)
   cases t:Q[k]with
   | nil=>
    refine⟨_,_,rfl,λg=>by simp[cP,jZ]at g,λ_=>⟨j+1,⟨rfl,rfl,rfl,by rw[aP (by omega)];rfl,trivial⟩,⟨by omega,f.and m,λ_=>?_,λ_=>?_⟩,by omega⟩⟩
    ·rcases d with⟨rfl,rfl⟩|⟨rfl,rfl⟩
     ·exact t
     ·exact z (by omega)
    ·rcases d with⟨rfl,rfl⟩|⟨rfl,rfl⟩
     ·omega
     ·exact t
   | cons u l=>
    refine⟨_,_,rfl,λ_=>⟨(alX V _).mono ?_⟩,λg=>by simp[cP,jZ]at g⟩;have L:(cP (jZ (u::l))).1=u:=rfl;rw[L,X0 (show once Q from hI.one) A (by rw[t];simp)];rintro e w6 ⟨rfl,hT⟩;have y:=ai.next V (p.and m).nn (λ_ h=>.inl h) hT;rcases d with⟨rfl,rfl⟩|⟨rfl,rfl⟩
    ·rw[t];exact⟨_,rfl,rfl,y⟩
    ·rw[z (by omega),t];exact⟨_,rfl,rfl,y⟩
  ·have:j=2:=by simp at g;omega
   subst this;rw[z (by omega),k2 (by omega)];exact⟨rfl,F,E,p.nn,λ_ h=>.inl h⟩
def yF (n:Int):Prop:=1<=n/\n<=64
def gQ (n:Int):QL:=aD (n.toNat+1) []
theorem WI.new {n:Int} (h:yF n):WI (aD 32 ae,(λ_=>ah,0),gQ n):=by
 have a:∀k,(aD 32 ae).getD k ae=ae:=λk=>by
  rw[aO,jt];split<;>rfl
 unfold yF at h;refine⟨by simp,λv=>by simp only[gQ,vO];omega,λv=>?_,λv=>?_,by simp[gQ];omega⟩
 ·simp only[gQ,vO];unfold cQ;rw[a];simp
 ·simp only[gQ];rw[FR (vO _ _)]
theorem amb (n:Int) (w:World):Cx 44 #[I n] w λe w'=>
  (¬yF n/\e=Z (.tuple #[.pointer ah,I 2])/\w'=w)∨
  (yF n/\∃b F,e=Z (.tuple #[pt b,I 0])/\fu b w' F (gQ n)/\av no w w'/\∀i,F i->w.heap.size<=i):=by
 refine u44 ?_;refine⟨λg1=>⟨λl=>.inl ⟨?_,rfl,rfl⟩,λl=>?_⟩,λg1=>.inl ⟨?_,rfl,rfl⟩⟩
 ·unfold yF;simp at l;omega
 ·have g1:¬n<1:=by simpa using g1
  have l:¬64<n:=by simpa using l
  obtain⟨k,rfl⟩:∃k:Nat,n=k:=⟨n.toNat,by omega⟩;have C:aV .i64 ((k:Int)+1)=((k+1:Nat):Int):=by rw[aP (by omega)];omega
  refine⟨(Fh 32 w).mono ?_⟩;rintro e w1 r;obtain⟨_,b2,F1,rfl,m,q,B⟩:=r.resolve_left (λh=>absurd (by omega) h.1);have a:cj w w1 (dq b2) (aD 32 ae):=cj.new (av.refl _ _) q m B;clear q m B;refine⟨_,_,rfl,λg=>by simp at g,λ_=>⟨λs d=>⟨λt f=>?_⟩⟩⟩;replace a:cj w s (aF (dq b2) (bM w1.heap.size (aB .i64))) (aD 32 ae,(λ_=>ah,0)):=a.add (d.ak no) (bM.new d) (λi hi=>bF hi.symm);generalize w1.heap.size=b3 at a f⊢;replace a:cj w t (aF (aF (dq b2) (bM b3 (aB .i64))) (Tq eP s.heap.size 207 208 (vj b2 b3))) ((aD 32 ae,(λ_=>ah,0)),[]):=a.add (f.ak no) (Tq.nil f rfl) (λi hi=>bF hi.symm);generalize s.heap.size=b at a⊢;rw[C];refine⟨bO bu (M:=Cs) (σ:=Nat) (λj=>HZ (aa ⟨b,0,ah⟩) ((k+1:Nat):Int) (j:Int)) (λj w'=>j<=k+1/\cj w w' (aF (aF (dq b2) (bM b3 (aB .i64))) (Tq eP b 207 208 (vj b2 b3))) ((aD 32 ae,(λ_=>ah,0)),aD j (jZ []))) (λj _=>k+1-j) 0 ⟨rfl,rfl,rfl,trivial⟩ ⟨by omega,a⟩ ?_⟩;clear a f d;rintro j t ⟨P,a⟩;rw[afW];refine⟨λg=>?_,λg=>?_⟩
  ·have R:j<k+1:=by simp at g;omega
   refine⟨(Et 32 t).mono ?_⟩;rintro e S r;obtain⟨_,bq,G,rfl,m,q,D⟩:=r.resolve_left (λh=>absurd (by omega) h.1);obtain⟨F2,hA,E⟩:=a.right;obtain⟨p,c,hB,u⟩:=Tq.push Ye (k:=1) (λ_ _ _ _ _ _=>rfl) (λ_ _ _=>by simp[vj]) hA (by simp;omega) q m D;refine⟨_,_,rfl,λg=>by simp at g,λ_=>⟨_,rfl,_,_,_,hB.cell rfl,⟨λH f=>?_⟩⟩⟩;obtain⟨p',c',J,K,L⟩:=u H f 205;refine⟨_,_,_,J,K,_,rfl,L _ λT N=>?_⟩;have O:=E _ _ N;refine⟨j+1,⟨rfl,rfl,by rw[aP (by omega)];rfl,trivial⟩,⟨by omega,?_⟩,by omega⟩;rw[tf (n:=j)];exact O
  ·have:j=k+1:=by simp at g;omega
   subst this;obtain⟨F,y,z,A⟩:=a;refine .inr ⟨⟨by omega,by omega⟩,b,F,rfl,⟨_,_,⟨b2,b3,?_⟩,WI.new ⟨by omega,by omega⟩⟩,z,A⟩;simp only[gQ,List.map_replicate,bQ];exact y
 ·unfold yF;simp at g1;omega
end
theorem Yd:eO Tryz.prog 205 208 1 8 [.pointer ah]:=⟨by kernel_rfl,by kernel_rfl,rfl,by omega⟩
abbrev CS:=List Bool×List (List Int)
def df (l:List Int):Nat×List Int:=(32,l)
def GZ (b2:Nat) (p:Option Addr) (n c:Nat):List Value:=[pt b2,.slice p n c]
abbrev Gg (b b2:Nat):Ob (List (Nat×List Int)):=Tq eP b 213 208 (GZ b2)
def eN (b:Nat):Ob CS:=λw F x=>∃b2,aF (dq b2) (Gg b b2) w F (x.1,x.2.map df)
instance Frame.ca (b:Nat):Frame (eN b) where
 ak:=λ⟨b2,h⟩ k a=>⟨b2,Frame.star.ak h k a⟩
 lt:=λ⟨b2,h⟩=>Frame.star.lt h
def bK (x:CS) (au:Int):Prop:=0<=au/\au<x.2.length
instance (x:CS) (au:Int):Decidable (bK x au):=by unfold bK;infer_instance
theorem qQ {x:CS} {au:Int} (h:bK x au):∃i:Nat,i<x.2.length/\au=(i:Int):=⟨au.toNat,by unfold bK at h;omega,by unfold bK at h;omega⟩
def bA (x:CS) (au:Int):List Int:=x.2.getD au.toNat []
theorem rj {x:CS} {i:Nat} (hi:i<x.2.length):bA x (i:Int)=x.2[i]:=by simp[bA,hi]
def vc (x:CS) (au:Int):Int×Int:=if bK x au then(if(eL x.1).2=0 then((eL x.1).1,iT (df (bA x au)) (eL x.1).1)else(0,(eL x.1).2))else(0,3)
def lD (x:CS) (au:Int):CS:=if bK x au then(if(eL x.1).2=0 then(jk x.1,x.2.set au.toNat (lz (df (bA x au)) (eL x.1).1).2)else(jk x.1,x.2))else x
def wJ (x:CS) (au:Int):Int×Int:=if bK x au then(if(cP (df (bA x au))).2=0 then((cP (df (bA x au))).1,tF x.1 (cP (df (bA x au))).1)else(0,(cP (df (bA x au))).2))else(0,3)
def kT (x:CS) (au:Int):CS:=if bK x au then(if(cP (df (bA x au))).2=0 then(mR x.1 (cP (df (bA x au))).1,x.2.set au.toNat (bA x au).tail)else(x.1,x.2.set au.toNat (bA x au).tail))else x
def iR (x:CS) (au:Int):CS:=(x.1,x.2.set au.toNat (bA x au).tail)
def nL (x:CS) (f t:Int):Int×Int:=if bK x f/\bK x t then(if f=t then(0,2)else if(cP (df (bA x f))).2=0 then((cP (df (bA x f))).1,iT (df (bA (iR x f) t)) (cP (df (bA x f))).1)else(0,(cP (df (bA x f))).2))else(0,3)
def iA (x:CS) (f t:Int):CS:=if bK x f/\bK x t then(if f=t then x else if(cP (df (bA x f))).2=0 then(x.1,(iR x f).2.set t.toNat (lz (df (bA (iR x f) t)) (cP (df (bA x f))).1).2)else iR x f)else x
def cV (x:CS) (au:Int):List Int:=if bK x au then bA x au else[]
theorem Tg (l:List Int) (n:Int):lz (df l) n=df (lz (df l) n).2:=by unfold lz;split<;>rfl
section
variable {w:World} {F:Fp} {b:Nat} {x:CS}
theorem eN.slot (h:eN b w F x):∃b2 F1,dq b2 w F1 x.1/\(∃p c,aM w b (GZ b2 p x.2.length c) 213)/\∀w' a,ai (dq b2) w w' F1 a->ai (eN b) w w' F (a,x.2):=by
 obtain⟨b2,h⟩:=h;obtain⟨F2,d,_⟩:=h.right;obtain⟨F1,e,k⟩:=h.left;obtain⟨p,c,hB⟩:=d.ay;rw[bW]at hB;refine⟨b2,F1,e,⟨p,c,hB⟩,λw' a f=>?_⟩;obtain⟨g,i,j⟩:=k _ _ f;exact⟨g,⟨b2,i⟩,j⟩
theorem eN.q (h:eN b w F x) {i:Nat} (hi:i<x.2.length):∃b2 a c bi F1,aM w b (GZ b2 (aa a) x.2.length c) 213/\w.cell? (a.add (i*1))=aa (pt bi)/\eP bi w F1 (df x.2[i])/\
  ∀w' l',ai (eP bi) w w' F1 (df l')->ai (eN b) w w' F (x.1,x.2.set i l'):=by
 obtain⟨b2,h⟩:=h;obtain⟨F2,e,k⟩:=h.right;obtain⟨a,c,bi,F1,hB,f,d,g⟩:=e.at (i:=i) (by simpa using hi);simp only[bW]at hB;simp only[rV]at d;refine⟨b2,a,c,bi,F1,hB,f,d,λw' l' j=>?_⟩;obtain⟨l,m,n⟩:=k _ _ (g _ _ j);refine⟨l,⟨b2,?_⟩,n⟩;simp only[fx];exact m
theorem Am (h:eN b w F x) {p:Option Addr} {l:List Int} {c:Nat} (n:Cells w p (l.map (aB .i64))) (t:l.length<=100) :
  Cx 188 #[pt b,.slice p l.length c] w λe w'=>e=Z (I (if ∀v∈l,bK x v then 0 else 3))/\w'=w:=by
 refine air ?_;obtain⟨b2,F1,_,⟨p1,c1,hB⟩,_⟩:=h.slot;refine⟨λg=>by simp at g,λ_=>?_⟩;refine⟨bO bu (M:=B4) (σ:=Nat) (λj=>Hw (aa ⟨b,0,ah⟩) p l.length c (l.length:Int) (j:Int)) (λj w'=>j<=l.length/\(∀v∈l.take j,bK x v)/\w'=w) (λj _=>l.length-j) 0 ⟨rfl,rfl,rfl,rfl,trivial⟩ ⟨by omega,by simp,rfl⟩ ?_⟩;rintro j w1 ⟨u,i,rfl⟩;rw[ae9];refine⟨λg=>?_,λg=>?_⟩
 ·have k:j<l.length:=by simp at g;omega
  obtain⟨a,o,q⟩:=n.cv k;have f:¬bK x l[j]->¬∀v∈l,bK x v:=λr s=>r (s _ (cx k));refine⟨⟨by omega,by omega⟩,a,o,_,q,λg1=>⟨_,rfl,_,_,_,hB.cell rfl,λm=>⟨?_,rfl⟩,λm=>?_⟩,λg1=>⟨?_,rfl⟩⟩
  ·rw[af (f (by unfold bK;simp at g1 m;omega))]
  ·refine⟨j+1,⟨rfl,rfl,rfl,by rw[aP (by omega)];rfl,trivial⟩,⟨by omega,?_,rfl⟩,by omega⟩;rw[eW k];intro v d;rw[eG]at d;rcases d with d|d
   ·exact i v d
   ·simp at d;subst d;unfold bK;simp at g1 m;omega
  ·rw[af (f (by unfold bK;simp at g1;omega))]
 ·have:j=l.length:=by simp at g;omega
  subst this;rw[dC]at i;exact⟨by rw[aj i],rfl⟩
theorem Ah {w w1:World} {v:Int} {T:TypeId} (a:dy w w1 (.cells (dK [aB .i64 v]) T (0,0))):Cells w1 (aa ⟨w.heap.size,0,ah⟩) (([v]:List Int).map (aB .i64)):=(Sl.new (T:=T) (n:=1) (sz:=1) a (by simp) (by decide)).cells
theorem Xj {w w1:World} {u v:Int} {T:TypeId} (a:dy w w1 (.cells (dK [aB .i64 u,aB .i64 v]) T (0,0))):Cells w1 (aa ⟨w.heap.size,0,ah⟩) (([u,v]:List Int).map (aB .i64)):=(Sl.new (T:=T) (n:=2) (sz:=1) a (by simp) (by decide)).cells
theorem EB {x:CS} {au:Int}:(if ∀v∈([au]:List Int),bK x v then(0:Int)else 3)=if bK x au then 0 else 3:=by simp
theorem ag2 {x:CS} {f t:Int}:(if ∀v∈([f,t]:List Int),bK x v then(0:Int)else 3)=if bK x f/\bK x t then 0 else 3:=by simp
theorem XL (h:eN b w F x) (d:Tab w) (au:Int):Cx 154 #[pt b,I au] w λe w'=>e=Z (.tuple #[I (vc x au).1,I (vc x au).2])/\ai (eN b) w w' F (lD x au):=by
 refine ahX ?_;refine⟨λw1 t=>?_⟩;have f:=t.ak no;have j:eN b w1 F x:=(Frame.ca b).ak h f (λ_ _ h=>h);refine⟨(Am j (Ah t) (by simp)).mono ?_⟩;rw[EB];rintro e D ⟨rfl,rfl⟩;refine⟨_,rfl,λg=>?_,λg=>?_⟩
 ·have l:¬bK x au:=λh=>by rw[aj h]at g;simp at g
  rw[vc,lD,af l,af l,af l];exact⟨rfl,F,j,f.nn,λ_ h=>.inl h⟩
 ·have m:bK x au:=eV λh=>by rw[af h]at g;simp at g
  rw[vc,lD,aj m,aj m];obtain⟨i,hi,rfl⟩:=qQ m;rw[rj hi];obtain⟨b2,F1,hs,⟨p,c,hB⟩,z⟩:=j.slot;refine⟨_,rfl,_,by rw[zM];exact hB.cell rfl,⟨(Fj (d.no f) hs).mono ?_⟩⟩;rintro e A ⟨rfl,B⟩;obtain⟨F3,n,u,y⟩:=z _ _ B;have o:ai (eN b) w A F (jk x.1,x.2):=ai.next j f.nn (λ_ h=>.inl h) ⟨F3,n,u,y⟩;refine⟨_,_,rfl,λg1=>?_,λg1=>?_⟩
  ·rw[af (by simpa using g1),af (by simpa using g1)];exact⟨rfl,o⟩
  ·rw[aj (by simpa using g1),aj (by simpa using g1)];obtain⟨b2,a,c,bi,F4,hB,r,C,s⟩:=n.q (i:=i) hi;refine⟨_,rfl,_,_,_,hB.cell rfl,⟨by omega,by show(i:Int)<(x.2.length:Int);omega⟩,a,rfl,_,r,⟨(yN C _).mono ?_⟩⟩;rintro e E ⟨rfl,k⟩;rw[Tg]at k;have:=s _ _ k;exact⟨_,rfl,rfl,ai.next j f.nn (λ_ h=>.inl h) (ai.next (s1:=(jk x.1,x.2)) n u y this)⟩
theorem XM (h:eN b w F x) (au:Int):Cx 219 #[pt b,I au] w λe w'=>e=Z (.tuple #[I (wJ x au).1,I (wJ x au).2])/\ai (eN b) w w' F (kT x au):=by
 refine aiX ?_;refine⟨λw1 s=>?_⟩;have f:=s.ak no;have d:eN b w1 F x:=(Frame.ca b).ak h f (λ_ _ h=>h);refine⟨(Am d (Ah s) (by simp)).mono ?_⟩;rw[EB];rintro e C ⟨rfl,rfl⟩;refine⟨_,rfl,λg=>?_,λg=>?_⟩
 ·have j:¬bK x au:=λh=>by rw[aj h]at g;simp at g
  rw[wJ,kT,af j,af j,af j];exact⟨rfl,F,d,f.nn,λ_ h=>.inl h⟩
 ·have k:bK x au:=eV λh=>by rw[af h]at g;simp at g
  rw[wJ,kT,aj k,aj k];obtain⟨i,hi,rfl⟩:=qQ k;rw[rj hi];obtain⟨b2,a,c,bi,F4,hB,l,y,m⟩:=d.q (i:=i) hi;refine⟨_,rfl,_,_,_,hB.cell rfl,⟨by omega,by omega⟩,a,rfl,_,l,⟨(EU y).mono ?_⟩⟩;rintro e z ⟨rfl,A⟩;obtain⟨F3,n,t,u⟩:=m _ _ A;have o:ai (eN b) w z F (x.1,x.2.set i x.2[i].tail):=ai.next d f.nn (λ_ h=>.inl h) ⟨F3,n,t,u⟩;refine⟨_,_,rfl,λg1=>?_,λg1=>?_⟩
  ·rw[af (by simpa using g1),af (by simpa using g1)];exact⟨rfl,o⟩
  ·rw[aj (by simpa using g1),aj (by simpa using g1)];obtain⟨b2,F1,hs,⟨p,c,hB⟩,B⟩:=n.slot;refine⟨_,rfl,_,by rw[zM];exact hB.cell rfl,⟨(Fg hs _).mono ?_⟩⟩;rintro e D ⟨rfl,r⟩;have:=B _ _ r;exact⟨_,rfl,rfl,ai.next d f.nn (λ_ h=>.inl h) (ai.next (s1:=(x.1,x.2.set i x.2[i].tail)) n t u this)⟩
theorem Xt (h:eN b w F x) (f t:Int):Cx 359 #[pt b,I f,I t] w λe w'=>e=Z (.tuple #[I (nL x f t).1,I (nL x f t).2])/\ai (eN b) w w' F (iA x f t):=by
 refine akY ?_;refine⟨λw1 A=>?_⟩;have n:=A.ak no;have m:eN b w1 F x:=(Frame.ca b).ak h n (λ_ _ h=>h);refine⟨(Am m (Xj A) (by simp)).mono ?_⟩;rw[ag2];rintro e H ⟨rfl,rfl⟩;refine⟨_,rfl,λg=>?_,λg=>⟨λg0=>?_,λg0=>?_⟩⟩
 ·have s:¬(bK x f/\bK x t):=λh=>by rw[aj h]at g;simp at g
  rw[nL,iA,af s,af s,af s];exact⟨rfl,F,m,n.nn,λ_ h=>.inl h⟩
 ·have d:bK x f/\bK x t:=eV λh=>by rw[af h]at g;simp at g
  rw[nL,iA,aj d,aj d,aj (eq_of_beq g0),aj (eq_of_beq g0)];exact⟨rfl,F,m,n.nn,λ_ h=>.inl h⟩
 ·have d:bK x f/\bK x t:=eV λh=>by rw[af h]at g;simp at g
  have o:¬f=t:=by simpa using g0
  rw[nL,iA,aj d,aj d,af o,af o];obtain⟨i,hi,rfl⟩:=qQ d.1;obtain⟨k,D,rfl⟩:=qQ d.2;unfold iR;rw[rj hi];obtain⟨b2,a,c,bi,F4,hB,j,u,l⟩:=m.q (i:=i) hi;refine⟨_,rfl,_,_,_,hB.cell rfl,⟨by omega,by omega⟩,a,rfl,_,j,⟨(EU u).mono ?_⟩⟩;rintro e E ⟨rfl,G⟩;obtain⟨F3,y,B,C⟩:=l _ _ G;have z:ai (eN b) w E F (x.1,x.2.set i x.2[i].tail):=ai.next m n.nn (λ_ h=>.inl h) ⟨F3,y,B,C⟩;refine⟨_,_,rfl,λg1=>?_,λg1=>?_⟩
  ·rw[af (by simpa using g1),af (by simpa using g1)];exact⟨rfl,z⟩
  ·rw[aj (by simpa using g1),aj (by simpa using g1)];have p:k<(x.2.set i x.2[i].tail).length:=by simpa using D
   obtain⟨b2,a,c,bi,F4,hB,j,u,l⟩:=y.q (i:=k) p;refine⟨_,rfl,_,_,_,hB.cell rfl,⟨by omega,by simp only[bN];omega⟩,a,rfl,_,j,⟨(yN u _).mono ?_⟩⟩;rintro e J ⟨rfl,r⟩;rw[Tg]at r;have:=l _ _ r;have er:bA (x.1,x.2.set (aG (i:Int)) x.2[i].tail) (k:Int)=(x.2.set i x.2[i].tail)[k]:=rj (x:=(x.1,x.2.set i x.2[i].tail)) p;rw[er];exact⟨_,rfl,rfl,ai.next m n.nn (λ_ h=>.inl h) (ai.next (s1:=(x.1,x.2.set i x.2[i].tail)) y B C this)⟩
theorem Xq (h:eN b w F x) (au:Int):Cx 95 #[pt b,I au] w λe w'=>∃p c,e=Z (.slice p (cV x au).length c)/\Cells w' p ((cV x au).map (aB .i64))/\av no w w':=by
 refine UH ?_;refine⟨λw1 k=>?_⟩;have d:=k.ak no;have l:eN b w1 F x:=(Frame.ca b).ak h d (λ_ _ h=>h);refine⟨(Am l (Ah k) (by simp)).mono ?_⟩;rw[EB];rintro e t ⟨rfl,rfl⟩;refine⟨_,rfl,λg=>?_,λg=>?_⟩
 ·have n:¬bK x au:=λh=>by rw[aj h]at g;simp at g
  rw[cV,af n];exact⟨ah,0,rfl,Cells.nil _ _,d⟩
 ·have m:bK x au:=eV λh=>by rw[af h]at g;simp at g
  rw[cV,aj m];obtain⟨i,hi,rfl⟩:=qQ m;rw[rj hi];obtain⟨b2,a,c,bi,F4,hB,f,o,r⟩:=l.q (i:=i) hi;refine⟨_,rfl,_,_,_,hB.cell rfl,⟨by omega,by omega⟩,a,rfl,_,f,⟨(JP o).mono ?_⟩⟩;rintro e u ⟨p,c,rfl,s,j⟩;exact⟨_,_,_,rfl,_,_,rfl,s,d.and j⟩
theorem Of (h:eN b w F x) (au:Int):Cx 204 #[pt b,I au] w λe w'=>e=Z (I ((cV x au).length:Int))/\av no w w':=by
 refine aiH ?_;refine⟨(Xq h au).mono ?_⟩;rintro e w1 ⟨p,c,rfl,_,a⟩;exact⟨_,_,_,rfl,rfl,a⟩
def Ey (n:Int):Prop:=1<=n/\n<=64
def lu (n:Int):CS:=(aD 32 ae,aD n.toNat [])
theorem Xw (n:Int) (w:World):Cx 46 #[I n] w λe w'=>
  (¬Ey n/\e=Z (.tuple #[.pointer ah,I 2])/\w'=w)∨
  (Ey n/\∃b F,e=Z (.tuple #[pt b,I 0])/\eN b w' F (lu n)/\av no w w'/\∀i,F i->w.heap.size<=i):=by
 refine u46 ?_;refine⟨λg1=>⟨λf=>.inl ⟨?_,rfl,rfl⟩,λf=>?_⟩,λg1=>.inl ⟨?_,rfl,rfl⟩⟩
 ·unfold Ey;simp at f;omega
 ·have g1:¬n<1:=by simpa using g1
  have f:¬64<n:=by simpa using f
  obtain⟨k,rfl⟩:∃k:Nat,n=k:=⟨n.toNat,by omega⟩;refine⟨(Fh 32 w).mono ?_⟩;rintro e w1 o;obtain⟨_,b2,F1,rfl,l,m,u⟩:=o.resolve_left (λh=>absurd (by omega) h.1);have a:cj w w1 (dq b2) (aD 32 ae):=cj.new (av.refl _ _) m l u;clear m l u;refine⟨_,_,rfl,λg=>by simp at g,λ_=>⟨λy d=>?_⟩⟩;replace a:cj w y (aF (dq b2) (Gg w1.heap.size b2)) (aD 32 ae,[]):=a.add (d.ak no) (Tq.nil d rfl) (λi hi=>bF hi.symm);generalize w1.heap.size=b at a⊢;refine⟨bO bu (M:=Cv) (σ:=Nat) (λj=>H0 (aa ⟨b,0,ah⟩) (k:Int) (j:Int)) (λj w'=>j<=k/\cj w w' (aF (dq b2) (Gg b b2)) (aD 32 ae,aD j (df []))) (λj _=>k-j) 0 ⟨rfl,rfl,rfl,trivial⟩ ⟨by omega,a⟩ ?_⟩;clear a d;rintro j z ⟨L,a⟩;rw[afX];refine⟨λg=>?_,λg=>?_⟩
  ·have N:j<k:=by simp at g;omega
   refine⟨(Et 32 z).mono ?_⟩;rintro e O o;obtain⟨_,bq,G,rfl,l,m,A⟩:=o.resolve_left (λh=>absurd (by omega) h.1);obtain⟨F2,hA,B⟩:=a.right;obtain⟨p,c,hB,q⟩:=Tq.push Yd (k:=1) (λ_ _ _ _ _ _=>rfl) (λ_ _ _=>aX _) hA (by simp;omega) m l A;refine⟨_,_,rfl,λg=>by simp at g,λ_=>⟨_,rfl,_,_,_,hB.cell rfl,⟨λC d=>?_⟩⟩⟩;obtain⟨p',c',D,E,H⟩:=q C d 205;refine⟨_,_,_,D,E,_,rfl,H _ λP J=>?_⟩;have K:=B _ _ J;refine⟨j+1,⟨rfl,rfl,by rw[aP (by omega)];rfl,trivial⟩,⟨by omega,?_⟩,by omega⟩;rw[tf (n:=j)];exact K
  ·have:j=k:=by simp at g;omega
   subst this;obtain⟨F,r,s,t⟩:=a;refine .inr ⟨⟨by omega,by omega⟩,b,F,rfl,⟨b2,?_⟩,s,t⟩;simp only[lu,List.map_replicate,bQ];exact r
 ·unfold Ey;simp at g1;omega
end
def zt (x:Nat):Nat:=((bU 8).find? (λk=>x.testBit k)).getD 8
def SM (x:Nat):Nat:=((bU 8).filter (λk=>x.testBit k)).length
theorem ag4 (x:Nat):zt x<=8:=by
 unfold zt
 cases h:(bU 8).find? (λk=>x.testBit k)with
 | none=>simp
 | some k=>have:=pH h;simp at this;simp;omega
theorem ag5 {x:Nat} (a:x<256) (w:World):Cx 379 #[.int .u8 x] w λe w'=>e=Z (I (zt x))/\w'=w:=by
 refine ale ?_;have c:=ag4 x;exact⟨⟨by omega,by omega⟩,(zt x:Int),V5 zt (by decide +kernel) a,by rw[aP (by omega)],rfl⟩
def z8 (x:Nat):Nat:=zt (255-x)
def Al (x k:Nat):Nat:=x&&& (255-2 ^ k)
def AI (x k:Nat):Nat:=x||| 2 ^ k
def vD (x:Nat):List Bool:=(bU 8).map x.testBit
theorem Bb:∀x:Nat,x<256->∀k:Nat,k<8->aH .or .u8 (x:Int) (fB .u8 1 (k:Int))=(AI x k:Int)/\aH .andNot .u8 (x:Int) (fB .u8 1 (k:Int))=(Al x k:Int)/\
  (aH .and .u8 (x:Int) (fB .u8 1 (k:Int)) !=0)=x.testBit k/\AI x k<256/\Al x k<256/\vD (AI x k)=(vD x).set k ag/\vD (Al x k)=(vD x).set k ae:=by decide +kernel
theorem aem:∀k:Nat,k<8->(fB .u8 1 (k:Int) !=0)=ag:=by decide +kernel
theorem SP:∀x:Nat,x<256->aH .xor .u8 (pG .u8) (x:Int)=((255-x:Nat):Int)/\(SM x=0↔x=0)/\(SM x=8↔x=255)/\(x≠255->z8 x<8/\x.testBit (z8 x)=ae/\∀k:Nat,k<z8 x->x.testBit k=ag):=by decide +kernel
structure nf (pg:List Nat):Prop where
 len:1<=pg.length/\pg.length<=12
 lt:∀x∈pg,x<256
theorem nf.at {pg:List Nat} (h:nf pg) {i:Nat} (hi:i<pg.length):pg[i]<256:=h.lt _ (cx hi)
theorem nf.set {pg:List Nat} (h:nf pg) (i:Nat) {x:Nat} (a:x<256):nf (pg.set i x):=
 ⟨by simpa using h.len,λy c=>(i7 c).elim (h.lt y) (λe=>e ▸ a)⟩
def Bc (x:Nat):Value:=.int .u8 (x:Int)
def sw (pg:List Nat):List Value:=pg.map Bc++(aD (12-pg.length) (Bc 0)++[I (pg.length:Int)])
def fK (b:Nat):Ob (List Nat):=λw F x=>Rw b 298 sw w F x/\nf x
instance Frame.pl (b:Nat):Frame (fK b) where
 ak:=λ⟨h,r⟩ k a=>⟨(Frame.rw ..).ak h k a,r⟩
 lt:=λ⟨h,_⟩=>(Frame.rw ..).lt h
def p1 (x:Nat):Bool:=x !=0&&x !=255
def p2 (x:Nat):Bool:=x==0
def fI (o:Option Nat):Int:=match o with|some i=>(i:Int)|none=>-1
def tY (pg:List Nat):Option Nat:=match pg.findIdx? p1 with|some i=>aa i|none=>pg.findIdx? p2
def iE (pg:List Nat):Int×Int:=match tY pg with|some i=>(((8*i+z8 (pg.getD i 0)+1:Nat):Int),0)|none=>(0,5)
def mn (pg:List Nat):List Nat:=match tY pg with|some i=>pg.set i (AI (pg.getD i 0) (z8 (pg.getD i 0)))|none=>pg
def l6 (pg:List Nat) (id:Int):Prop:=1<=id/\id<=8*(pg.length:Int)
instance (pg:List Nat) (id:Int):Decidable (l6 pg id):=by unfold l6;infer_instance
def fQ (pg:List Nat) (id:Int):Bool:=if l6 pg id then(pg.getD ((id.toNat-1)/8) 0).testBit ((id.toNat-1)%8)else ae
def Iz (pg:List Nat) (id:Int):Int:=if fQ pg id then 0 else 4
def oL (pg:List Nat) (id:Int):List Nat:=if fQ pg id then pg.set ((id.toNat-1)/8) (Al (pg.getD ((id.toNat-1)/8) 0) ((id.toNat-1)%8))else pg
theorem Pn {p:Nat->Bool} {pg:List Nat} {j:Nat} (a:j<pg.length) (c:∀i (hi:i<pg.length),i<j->p pg[i]=ae) (d:p pg[j]=ag):pg.findIdx? p=aa j:=
 oo.2 ⟨a,d,λi hi=>by simp[c i (by omega) hi]⟩
theorem Pm {p:Nat->Bool} {pg:List Nat} (h:∀i (hi:i<pg.length),p pg[i]=ae):pg.findIdx? p=ah:=
 ta.2 λx a=>by obtain⟨i,hi,rfl⟩:=List.mem_iff_getElem.1 a;exact h i hi
theorem Pk {p:Nat->Bool} {pg:List Nat} {j:Nat} (h:pg.findIdx? p=aa j):∃a:j<pg.length,p pg[j]=ag:=by
 obtain⟨a,c,_⟩:=oo.1 h;exact⟨a,c⟩
theorem Ui {pg:List Nat} {j:Nat} (h:tY pg=aa j):∃a:j<pg.length,pg[j]≠255:=by
 unfold tY at h
 cases h1:pg.findIdx? p1 with
 | some i=>
  rw[h1]at h;simp only[Option.some.injEq]at h;subst h;obtain⟨a,c⟩:=Pk h1
  exact⟨a,by simp[p1]at c;exact c.2⟩
 | none=>
  rw[h1]at h;obtain⟨a,c⟩:=Pk h;exact⟨a,by simp[p2]at c;omega⟩
theorem DZ {pg:List Nat} {id:Int} (h:l6 pg id):∃i k:Nat,i<pg.length/\k<8/\id=((8*i+k+1:Nat):Int):=by
 unfold l6 at h;exact⟨(id.toNat-1)/8,(id.toNat-1)%8,by omega,by omega,by omega⟩
section
variable {pg:List Nat} {i k:Nat} (hi:i<pg.length) (hk:k<8)
include hi hk
theorem ZN:l6 pg ((8*i+k+1:Nat):Int):=by unfold l6;omega
theorem wB:fQ pg ((8*i+k+1:Nat):Int)=pg[i].testBit k:=by
 unfold fQ;rw[aj (ZN hi hk)];have a:(((8*i+k+1:Nat):Int).toNat-1)/8=i:=by omega
 have c:(((8*i+k+1:Nat):Int).toNat-1)%8=k:=by omega
 rw[a,c];simp[hi]
theorem PM:oL pg ((8*i+k+1:Nat):Int)=if pg[i].testBit k then pg.set i (Al pg[i] k)else pg:=by
 unfold oL;rw[wB hi hk];have a:(((8*i+k+1:Nat):Int).toNat-1)/8=i:=by omega
 have c:(((8*i+k+1:Nat):Int).toNat-1)%8=k:=by omega
 rw[a,c];simp[hi]
end
theorem Lx (b k:Nat):bP (bP ⟨b,0,ah⟩ 0) k=(⟨b,0,ah⟩:Addr).add k:=by rw[add_lit b 0 0]
section
variable {w:World} {F:Fp} {b:Nat} {pg:List Nat}
theorem acA {i:Nat} (hi:i<pg.length):(sw pg)[i]?=aa (Bc pg[i]):=by
 unfold sw;rw[kr (by simpa using hi)];simp[hi]
theorem acC {i:Nat} (hi:i<pg.length) (x:Nat):bc (sw pg) i [Bc x]=sw (pg.set i x):=by
 unfold sw;rw[TN (by simp;omega),vd hi];simp
theorem acB (h:nf pg):(sw pg)[12]?=aa (I (pg.length:Int)):=by
 have:=h.len;unfold sw;rw[lP (by simp;omega),lP (by simp)];simp
theorem fK.yK (h:fK b w F pg) {i:Nat} (hi:i<pg.length):w.cell? (bP (bP ⟨b,0,ah⟩ 0) (i*1))=aa (.int .u8 (pg[i]:Int)):=by
 rw[Lx,eX];exact h.1.ay.cell (acA hi)
theorem fK.many (h:fK b w F pg):w.cell? ((⟨b,0,ah⟩:Addr).add 12)=aa (I (pg.length:Int)):=h.1.ay.cell (acB h.2)
theorem fK.wr (h:fK b w F pg) {w1:World} (a:av no w w1) {i:Nat} (hi:i<pg.length) {x:Nat} (f:x<256) {K:World->Prop} (g:∀w',ai (fK b) w w' F (pg.set i x)->K w') :
  Wr w1 (bP (bP ⟨b,0,ah⟩ 0) (i*1)) [.int .u8 (x:Int)] K:=by
 rw[Lx,eX];have hB:=h.1.ay.ak a id;refine hB.wr (by simp[sw];omega) λw' c=>g w' ?_;have d:=c.aK;have e:=acC hi x;unfold Bc at e;rw[e]at d;obtain⟨j,t1,t2,l⟩:=h.1.gD ((a.mono λ_ _ h=>h.elim).and c.U) d;exact⟨j,⟨t1,h.2.set i f⟩,t2,l⟩
theorem abU (n:Int) (w:World):Cx 111 #[I n] w λe w'=>
  (¬(1<=n/\n<=12)/\e=Z (.tuple #[.pointer ah,I 2])/\w'=w)∨
  ((1<=n/\n<=12)/\∃b F,e=Z (.tuple #[pt b,I 0])/\fK b w' F (aD n.toNat 0)/\av no w w'/\∀i,F i->w.heap.size<=i):=by
 refine ahg ?_;refine⟨λa=>⟨λc=>.inl ⟨?_,rfl,rfl⟩,λc=>?_⟩,λa=>.inl ⟨?_,rfl,rfl⟩⟩
 ·simp at c;omega
 ·have a:¬n<1:=by simpa using a
  have c:¬12<n:=by simpa using c
  obtain⟨m,rfl⟩:∃m:Nat,n=m:=⟨n.toNat,by omega⟩;refine⟨λg d=>.inr ⟨by omega,w.heap.size,_,rfl,⟨Rw.new d ?_,⟨by simp;omega,λx f=>?_⟩⟩,d.ak no,λi hi=>bF hi.symm⟩⟩
  ·unfold sw;rw[List.map_replicate,<-jP,bQ,fW,List.replicate_append_replicate];rw[show m+(12-m)=12 by omega];rfl
  ·have:=k8 f;omega
 ·simp at a;omega
theorem L0 (h:fK b w F pg) {i k:Nat} (hi:i<pg.length) (hk:k<8):Cx 380 #[pt b,I ((8*i+k+1:Nat):Int)] w λe w'=>e=Z (.tuple #[I (i:Int),.int .u8 (fB .u8 1 (k:Int))])/\av no w w':=by
 have n:=h.2.len;refine UF ?_;refine⟨λ_=>⟨λ_=>⟨_,rfl,_,h.many,λg=>?_,λ_=>?_⟩,λg=>by simp at g;omega⟩,λg=>by simp at g⟩
 ·rw[aP (by omega)]at g;simp at g;omega
 ·intro w1 a c d f;have j:aV .i64 (((8*i+k+1:Nat):Int)-1)=((8*i+k:Nat):Int):=by rw[aP (by omega)];omega
  have l:jq ((8*i+k:Nat):Int) 8=(i:Int):=by rw[xw (by omega)];omega
  have m:eH ((8*i+k:Nat):Int) 8=(k:Int):=by rw[ot (by omega)];omega
  rw[j,l,m];refine⟨by omega,by omega,by omega,by rw[aP (by omega)],av.same no a c d f⟩
theorem VX (h:fK b w F pg) {id:Int} (hi:¬l6 pg id):Cx 380 #[pt b,I id] w λe w'=>e=Z (.tuple #[I 0,.int .u8 0])/\w'=w:=by
 have c:=h.2.len;refine UF ?_;unfold l6 at hi;refine⟨λ_=>⟨λg=>⟨_,rfl,_,h.many,λ_=>⟨rfl,rfl⟩,λa=>?_⟩,λ_=>⟨rfl,rfl⟩⟩,λg=>by simp at g⟩;rw[aP (by omega)]at a;simp at g a;omega
theorem SZ (h:fK b w F pg) (id:Int):Cx 327 #[pt b,I id] w λe w'=>e=Z (.bool (fQ pg id))/\av no w w':=by
 refine akA ?_;by_cases a:l6 pg id
 ·obtain⟨i,k,hi,hk,rfl⟩:=DZ a;refine⟨(L0 h hi hk).mono ?_⟩;rintro e w1 ⟨rfl,c⟩;have d:fK b w1 F pg:=(Frame.pl b).ak h c λ_ _ h=>h;refine⟨_,_,rfl,λ_=>⟨_,rfl,⟨by omega,by have:=h.2.len;omega⟩,_,d.yK hi,?_,c⟩,λg=>?_⟩
  ·rw[wB hi hk,(Bb _ (h.2.at hi) k hk).2.2.1]
  ·rw[aem k hk]at g;cases g
 ·refine⟨(VX h a).mono ?_⟩;rintro e w1 ⟨rfl,rfl⟩;exact⟨_,_,rfl,λg=>by simp at g,λ_=>⟨by rw[fQ,af a],av.refl _ _⟩⟩
theorem Y9 (h:fK b w F pg) (id:Int):Cx 330 #[pt b,I id] w λe w'=>e=Z (I (Iz pg id))/\ai (fK b) w w' F (oL pg id):=by
 refine akD ?_;refine⟨λg=>by simp at g,λ_=>⟨(SZ h id).mono ?_⟩⟩;rintro e w1 ⟨rfl,c⟩;refine⟨_,rfl,λg=>?_,λg=>?_⟩
 ·have g:¬fQ pg id=ag:=by simpa using g
  rw[Iz,oL,af g,af g];exact⟨rfl,ai.quiet h c⟩
 ·have g:fQ pg id=ag:=by simpa using g
  have d:l6 pg id:=by unfold fQ at g;split at g<;>first|assumption|cases g
  obtain⟨i,k,hi,hk,rfl⟩:=DZ d;have j:fK b w1 F pg:=(Frame.pl b).ak h c λ_ _ h=>h;refine⟨(L0 j hi hk).mono ?_⟩;rintro e t ⟨rfl,f⟩;refine⟨_,_,rfl,λl m n p q=>?_⟩;have a:=(c.and f).and (av.same no m n p q);have r:fK b l F pg:=(Frame.pl b).ak h a λ_ _ h=>h;have u:=h.2.len;refine⟨_,rfl,⟨by omega,by omega⟩,_,r.yK hi,_,rfl,⟨by omega,by omega⟩,?_⟩;have o:=Bb _ (h.2.at hi) k hk;rw[o.2.1];refine h.wr a hi o.2.2.2.2.1 λw' s=>?_;rw[Iz,aj g,PM hi hk,aj (by rw[<-wB hi hk];exact g)];exact⟨rfl,s⟩
theorem YG (h:fK b w F pg):Cx 376 #[pt b,.func (.func 377) #[] #[]] w λe w'=>e=Z (I (fI (pg.findIdx? p1)))/\w'=w:=by
 have r:=h.2.len;refine KN ?_;refine⟨_,rfl,_,h.many,⟨bO bu (M:=sT) (σ:=Nat) (λj=>xW (aa ⟨b,0,ah⟩) (pg.length:Int) (j:Int)) (λj w'=>j<=pg.length/\(∀i (hi:i<pg.length),i<j->p1 pg[i]=ae)/\w'=w) (λj _=>pg.length-j) 0 ⟨rfl,rfl,rfl,rfl,trivial⟩ ⟨by omega,λi _ h=>by omega,rfl⟩ ?_⟩⟩;rintro j w' ⟨s,d,rfl⟩;rw[Kp];refine⟨λg=>?_,λg=>⟨?_,rfl⟩⟩
 ·have o:j<pg.length:=by simpa using g
  refine⟨_,rfl,⟨by omega,by omega⟩,_,h.yK o,⟨alc ?_⟩⟩;rw[t377]
  have fin:∃f,cN (.bool (p1 pg[j]))=cN (.bool f)/\(f=ag->cN (aB .i64 (j:Int))=cN (I (fI (pg.findIdx? p1)))/\w'=w')/\(f=ae->∃c,vm [(0,SV.v (bB (aa ⟨b,0,ah⟩))),(1,SV.v (Value.func (aQ 377) #[] #[])),(9,SV.v (aB bj (pg.length:Int))),(10,SV.v (aB bj (aV bj ((j:Int)+(1:Int)))))] (xW (aa ⟨b,0,ah⟩) (pg.length:Int) (c:Nat))/\(c<=pg.length/\(∀i (hi:i<pg.length),i<c->p1 pg[i]=ae)/\w'=w')/\pg.length-c<pg.length-j):=by
   refine⟨_,rfl,λl=>⟨by rw[Pn o d l];rfl,rfl⟩,λl=>⟨j+1,⟨rfl,rfl,rfl,by rw[aP (x:=(j:Int)+1) (by omega)];rfl,trivial⟩,⟨by omega,λi hi p=>?_,rfl⟩,by omega⟩⟩;by_cases a:i=j
   ·subst a;exact l
   ·exact d i hi (by omega)
  have q:((((pg[j]:Nat):Int) !=0)=ag)=((pg[j] !=0)=ag):=by simp
  have m:((((pg[j]:Nat):Int) !=0)=ae)=((pg[j] !=0)=ae):=by simp
  rw[q,m];refine⟨λn=>?_,λn=>?_⟩
  ·have e:(((pg[j]:Nat):Int) !=255)=p1 pg[j]:=by
    unfold p1;rw[n];simp only[dR];rw[ig];simp;omega
   rw[e];exact fin
  ·have e:p1 pg[j]=ae:=by unfold p1;rw[n];rfl
   rw[e]at fin;exact fin
 ·have:j=pg.length:=by simp at g;omega
  subst this;rw[Pm λi hi=>d i hi hi];rfl
theorem YH (h:fK b w F pg):Cx 376 #[pt b,.func (.func 378) #[] #[]] w λe w'=>e=Z (I (fI (pg.findIdx? p2)))/\w'=w:=by
 have m:=h.2.len;refine lI.KN ?_;refine⟨_,rfl,_,h.many,⟨bO bu (M:=lI.sT) (σ:=Nat) (λj=>lI.xW (aa ⟨b,0,ah⟩) (pg.length:Int) (j:Int)) (λj w'=>j<=pg.length/\(∀i (hi:i<pg.length),i<j->p2 pg[i]=ae)/\w'=w) (λj _=>pg.length-j) 0 ⟨rfl,rfl,rfl,rfl,trivial⟩ ⟨by omega,λi _ h=>by omega,rfl⟩ ?_⟩⟩;rintro j w' ⟨n,c,rfl⟩;rw[lI.Kp];refine⟨λg=>?_,λg=>⟨?_,rfl⟩⟩
 ·have f:j<pg.length:=by simpa using g
  refine⟨_,rfl,⟨by omega,by omega⟩,_,h.yK f,⟨ald ?_⟩⟩;rw[t378];have e:(((pg[j]:Nat):Int)==0)=p2 pg[j]:=by unfold p2;rw[ig];simp
  rw[e];refine⟨_,rfl,λd=>⟨by rw[Pn f c d];rfl,rfl⟩,λd=>⟨j+1,⟨rfl,rfl,rfl,by rw[aP (x:=(j:Int)+1) (by omega)];rfl,trivial⟩,⟨by omega,λi hi l=>?_,rfl⟩,by omega⟩⟩;by_cases a:i=j
  ·subst a;exact d
  ·exact c i hi (by omega)
 ·have:j=pg.length:=by simp at g;omega
  subst this;rw[Pm λi hi=>c i hi hi];rfl
theorem ago (h:fK b w F pg):aU Tryz.prog zI C7 (DB (aa ⟨b,0,ah⟩) (fI (tY pg))) w (D9 λe w'=>e=Z (.tuple #[I (iE pg).1,I (iE pg).2])/\ai (fK b) w w' F (mn pg)):=by
 refine aU.mk ?_;rw[afC];have y:=h.2.len;unfold iE mn
 cases l:tY pg with
 | none=>
  simp only[fI]
  exact⟨λ_=>⟨by trivial,ai.same h⟩,λg=>by simp at g⟩
 | some i=>
  obtain⟨hi,a⟩:=Ui l;have d:=h.2.at hi;obtain⟨m,z,A,c⟩:=SP _ d;have c:=c a;have o:=Bb _ d _ c.1;have n:pg.getD i 0=pg[i]:=by simp[hi]
  simp only[fI,n];refine⟨λg=>absurd (aL g) (by omega),λ_=>⟨_,rfl,⟨by omega,by omega⟩,_,h.yK hi,?_⟩⟩;rw[m];refine⟨(ag5 (by omega) w).mono ?_⟩;rintro e w1 ⟨rfl,rfl⟩;refine⟨_,rfl,λf p q r s=>?_⟩;have j:=av.same no p q r s;have t:fK b f F pg:=(Frame.pl b).ak h j λ_ _ h=>h;refine⟨_,rfl,⟨by omega,by omega⟩,_,t.yK hi,by omega,_,rfl,⟨by omega,by omega⟩,?_⟩;show Wr f _ [.int .u8 (aH .or .u8 (pg[i]:Int) (fB .u8 1 (z8 pg[i]:Int)))] _;rw[o.1];refine h.wr j hi o.2.2.2.1 λw' u=>⟨?_,u⟩;show cN (.tuple #[I (aV .i64 (aV .i64 (aV .i64 ((i:Int)*8)+(z8 pg[i]:Int))+1)),I 0])=_;rw[aP (x:=(i:Int)*8) (by omega),aP (x:=(i:Int)*8+(z8 pg[i]:Int)) (by omega),aP (by omega)];have:(i:Int)*8+(z8 pg[i]:Int)+1=((8*i+z8 pg[i]+1:Nat):Int):=by omega
  rw[this]
theorem agv (h:fK b w F pg):Cx 326 #[pt b] w λe w'=>e=Z (.tuple #[I (iE pg).1,I (iE pg).2])/\ai (fK b) w w' F (mn pg):=by
 refine akz ?_;refine⟨λg=>by simp at g,λ_=>⟨(YG h).mono ?_⟩⟩;rintro e w1 ⟨rfl,rfl⟩;have a:=ago h;unfold tY at a
 cases c:pg.findIdx? p1 with
 | some i=>
  rw[c]at a
  exact⟨_,rfl,λg=>absurd (aL g) (by simp only[fI];omega),λ_=>a⟩
 | none=>
  rw[c]at a;refine⟨_,rfl,λ_=>⟨(YH h).mono ?_⟩,λg=>by simp[fI]at g⟩;rintro e w1 ⟨rfl,rfl⟩;exact⟨_,rfl,a⟩
end
abbrev KS:=List Nat×List (List Int)
def nc (PO:Nat->Ob (List Nat)) (T E I:TypeId) (enc:Nat->Nat->Option Addr->Nat->Nat->List Value) (b:Nat):Ob KS:=λw F x=>(∃b2,aF (PO b2) (Tb b T E I (enc b2 x.1.length)) w F x)/\∀l∈x.2,l.length<=4
section
variable {PO:Nat->Ob (List Nat)} [fp:∀b,Frame (PO b)] {T E I:TypeId} {enc:Nat->Nat->Option Addr->Nat->Nat->List Value} {b:Nat} {w w':World} {F:Fp} {x:KS}
instance Frame.kp:Frame (nc PO T E I enc b) where
 ak:=λ⟨⟨b2,h⟩,r⟩ k a=>⟨⟨b2,Frame.star.ak h k a⟩,r⟩
 lt:=λ⟨⟨b2,h⟩,_⟩=>Frame.star.lt h
theorem nc.ptr (h:nc PO T E I enc b w F x):∃b2 F1,PO b2 w F1 x.1/\(∃p c,aM w b (enc b2 x.1.length p x.2.length c) T)/\∀w' a,a.length=x.1.length->ai (PO b2) w w' F1 a->ai (nc PO T E I enc b) w w' F (a,x.2):=by
 obtain⟨⟨b2,h⟩,r⟩:=h;obtain⟨F2,d,_⟩:=h.right;obtain⟨F1,e,k⟩:=h.left;refine⟨b2,F1,e,d.ay,λw' a f g=>?_⟩;obtain⟨i,j,l,m⟩:=k _ _ g;exact⟨i,⟨⟨b2,by rw[f];exact j⟩,r⟩,l,m⟩
def Gk (w:World) (p:Option Addr) (L:List (List Int)):Prop:=∀i (hi:i<L.length),∃a q d,p=aa a/\w.cell? (a.add (i*1))=aa (.slice q L[i].length d)/\Cells w q (L[i].map (aB .i64))/\L[i].length<=4
theorem nc.rows (h:nc PO T E I enc b w F x):∃b2 F1,PO b2 w F1 x.1/\x.2.length<=maxLen/\∃p c,aM w b (enc b2 x.1.length p x.2.length c) T/\Gk w p x.2:=by
 obtain⟨⟨b2,h⟩,r⟩:=h;obtain⟨F1,G,j,⟨⟨p,c⟩,g,m,k⟩,s,t⟩:=h;obtain⟨H1,H2,e,k2,u,y⟩:=m;simp only at j e k2 k r⊢;obtain⟨x1,x2⟩:=x;simp only at j e k2 k r⊢;subst k;refine⟨b2,F1,j,?_,p,c,by rw[wH];exact e.ay,λi hi=>?_⟩
 ·have:=e.sl;rw[wH];exact aW this.2.1 this.2.2.1
 ·have d:i<g.length:=by simpa [rws]using hi
  obtain⟨a,n,o⟩:=e.sl.cells.cv (f:=iq) (l:=g) d;obtain⟨F2,q,_⟩:=Fam.at k2 d;refine⟨a,g[i].1,g[i].2.1,n,?_,?_,r _ (cx hi)⟩
  ·rw[o,By _ d];rfl
  ·rw[By _ d];exact q.cells
theorem nc.row (h:nc PO T E I enc b w F x) {i:Nat} (hi:i<x.2.length):∃b2 F1 G a c0 p c,PO b2 w F1 x.1/\vw b T E I (enc b2 x.1.length) w G x.2 i a c0 p c/\(∀j,G j->¬F1 j)/\
  (∀w' d,d.length=x.1.length->ai (PO b2) w w' F1 d->ai (nc PO T E I enc b) w w' F (d,x.2))/\
  ∀w' s,(∀l∈s,l.length<=4)->ai (Tb b T E I (enc b2 x.1.length)) w w' G s->ai (nc PO T E I enc b) w w' F (x.1,s):=by
 obtain⟨⟨b2,h⟩,r⟩:=h;obtain⟨F1,G,t,u,f,g⟩:=id h;obtain⟨a,c0,p,c,k⟩:=u.raw hi;refine⟨b2,F1,G,a,c0,p,c,t,k,λj A e=>g j e A,λw' d B y=>?_,λw' s C y=>?_⟩
 ·have m:Frame (Tb b T E I (enc b2 x.1.length)):=inferInstance;obtain⟨n,z,o,q⟩:=y;refine⟨λi=>n i∨G i,⟨⟨b2,n,G,z,?_,λ_=>bp,λi hi e=>?_⟩,r⟩,o.mono (λi _ hi=>(f i).2 (.inl hi)),λi hi=>?_⟩
  ·simp only[B];exact m.ak u o (λi hi e=>g i e hi)
  ·rcases q i hi with h|h
   ·exact g i h e
   ·have:=m.lt u i e;omega
  ·rcases hi with hi|hi
   ·exact(q i hi).imp (λh=>(f i).2 (.inl h)) id
   ·exact .inl ((f i).2 (.inr hi))
 ·obtain⟨n,z,o,q⟩:=y;refine⟨λi=>F1 i∨n i,⟨⟨b2,F1,n,(fp b2).ak t o g,z,λ_=>bp,λi hi e=>?_⟩,C⟩,?_,λi hi=>?_⟩
  ·rcases q i e with h|h
   ·exact g i hi h
   ·have:=(fp b2).lt t i hi;omega
  ·exact o.mono (λi _ hi=>(f i).2 (.inr hi))
  ·rcases hi with hi|hi
   ·exact .inl ((f i).2 (.inl hi))
   ·exact(q i hi).imp (λh=>(f i).2 (.inr h)) id
omit fp in
theorem nc.new [fp:∀b,Frame (PO b)] {w w1 f k:World} {e:Nat} {F1:Fp} {pg:List Nat} {p:Option Addr} {n c:Nat} {cs:List Value} (o:PO e w1 F1 pg) (r:∀i,F1 i->w.heap.size<=i) (d:av no w w1) (a:av no w1 f)
  (s:Sl f E 1 p n c (aD n (rM ah 0 0))) (m:∀i,bf p i->w1.heap.size<=i) (q:dy f k (.cells cs.toArray T (0,0))) (t:enc e pg.length p n c=cs) :
  ∃F,nc PO T E I enc f.heap.size k F (pg,aD n [])/\av no w k/\∀i,F i->w.heap.size<=i:=by
 have u:=Tb.new (E:=E) (I:=I) (enc:=enc e pg.length) a s m q t;have g:=q.ak no;have j:=(fp e).lt o;refine⟨λi=>F1 i∨(i=f.heap.size∨bf p i),⟨⟨e,F1,_,(fp e).ak o (a.and g) (λ_ _ h=>h),u,λ_=>bp,?_⟩,?_⟩,d.and (a.and g),?_⟩
 ·rintro i hi (rfl|y)
  ·have:=j _ hi;have:=a.size;omega
  ·have:=j _ hi;have:=m _ y;omega
 ·intro l z;have:=k8 z;subst this;simp
 ·rintro i (hi|rfl|hi)
  ·exact r i hi
  ·exact aW d.size a.size
  ·exact aW d.size (m i hi)
end
theorem ai.pW {σ:Type} {A:Ob σ} {w w1 a:World} {F F1:Fp} {s1 c:σ} (h:A w1 F1 s1) (d:av F w w1) (e:∀i,F1 i->F i∨w.heap.size<=i) (k:ai A w1 a F1 c):ai A w a F c:=by
 obtain⟨F2,f,k2,g⟩:=k;refine⟨F2,f,d.trans k2 (λi hi j=>(e i j).elim id (λh=>absurd h (by omega))),λi hi=>?_⟩;rcases g i hi with h|h
 ·exact e i h
 ·exact .inr (aW d.size h)
theorem agr (pg:List Nat):(mn pg).length=pg.length:=by unfold mn;split<;>simp
theorem Y8 (pg:List Nat) (v:Int):(oL pg v).length=pg.length:=by unfold oL;split<;>simp
def gives (pg:List Nat) (l:List Int):List Nat:=l.foldl oL pg
theorem Zc (pg:List Nat) (l:List Int):(gives pg l).length=pg.length:=by
 induction l generalizing pg with
 | nil=>rfl
 | cons v l a=>exact(a (oL pg v)).trans (Y8 pg v)
theorem Ze (pg:List Nat) {l:List Int} {k:Nat} (h:k<l.length):gives pg (l.take (k+1))=oL (gives pg (l.take k)) l[k]:=by
 rw[eW h,gives,mH];rfl
def gy (x:KS) (au:Int):Prop:=0<=au/\au<x.2.length
instance (x:KS) (au:Int):Decidable (gy x au):=by unfold gy;infer_instance
def tJ (L:List (List Int)) (v:Int):Bool:=L.any (λl=>decide (v∈l))
def lZ (x:KS) (v:Int):Bool:=fQ x.1 v&&!tJ x.2 v
def j7 (s:List Nat×List Int):List Nat×List Int:=if(iE s.1).2=0 then(mn s.1,s.2++[(iE s.1).1])else(mn s.1,s.2)
def nB (s:List Nat×List Int):List Nat×List Int:=if s.2=[]then j7 (j7 s)else s
def Ed (l:List Int):Int×Int:=match l.getLast? with|some v=>(v,0)|none=>(0,5)
def kN (x:KS) (au:Int):List Int:=x.2.getD au.toNat []
def xy (x:KS) (au:Int):Int×Int:=if gy x au then Ed (nB (x.1,kN x au)).2 else(0,3)
def rX (x:KS) (au:Int):KS:=if gy x au then((nB (x.1,kN x au)).1,x.2.set au.toNat (nB (x.1,kN x au)).2.dropLast)else x
def ou (s:List Nat×List Int):List Nat×List Int:=if 4<=s.2.length then(gives s.1 (s.2.take 2),s.2.drop 2)else s
def ze (x:KS) (au v:Int):Int:=if gy x au then(if lZ x v then 0 else 4)else 3
def rv (x:KS) (au v:Int):KS:=if gy x au/\lZ x v=ag then((ou (x.1,kN x au)).1,x.2.set au.toNat ((ou (x.1,kN x au)).2++[v]))else x
def Ds (x:KS) (au:Int):Int×Int:=if gy x au then((kN x au).length,0)else(0,3)
def jT (x:KS) (au:Int):KS:=if gy x au then(gives x.1 (kN x au),x.2.set au.toNat [])else x
theorem u5 {x:KS} {i:Nat} (hi:i<x.2.length):kN x (i:Int)=x.2[i]:=by simp[kN,hi]
theorem uM {x:KS} {au:Int} (h:gy x au):∃i:Nat,i<x.2.length/\au=(i:Int):=⟨au.toNat,by unfold gy at h;omega,by unfold gy at h;omega⟩
theorem ve {L:List (List Int)} (h:∀l∈L,l.length<=4) (i:Nat) {l':List Int} (a:l'.length<=4):∀l∈L.set i l',l.length<=4:=λl c=>(i7 c).elim (h l) (λe=>e ▸ a)
def Kl (b2 n:Nat) (p:Option Addr) (m c:Nat):List Value:=[pt b2,I (n:Int),.slice p m c]
abbrev dW (b:Nat):Ob KS:=nc fK 219 36 3 Kl b
section
variable {w:World} {F:Fp} {b:Nat} {x:KS}
theorem Fq (h:dW b w F x) (au:Int):Cx 189 #[pt b,I au] w λe w'=>e=Z (I (if gy x au then 0 else 3))/\w'=w:=by
 refine ais ?_;obtain⟨b2,F1,_,⟨p,c,hB⟩,_⟩:=h.ptr;refine⟨λg=>by simp at g,λ_=>⟨λg=>⟨_,rfl,_,_,_,hB.cell rfl,λa=>⟨?_,rfl⟩,λa=>⟨?_,rfl⟩⟩,λg=>⟨?_,rfl⟩⟩⟩
 ·rw[af];unfold gy;simp at g a;omega
 ·rw[aj];unfold gy;simp at g a;omega
 ·rw[af];unfold gy;simp at g;omega
theorem YF (h:dW b w F x) {i:Nat} (hi:i<x.2.length):Cx 256 #[pt b,I (i:Int)] w λe w'=>e=Z (.tuple #[])/\ai (dW b) w w' F ((nB (x.1,x.2[i])).1,x.2.set i (nB (x.1,x.2[i])).2):=by
 refine ajy ?_;obtain⟨b2,F1,G,a,c0,p,c,q,r,hd,t,u⟩:=h.row hi;obtain⟨F2,hA⟩:=r.open hi;refine⟨_,rfl,_,_,_,hA.lV.cell rfl,⟨by omega,by omega⟩,a,rfl,_,_,_,hA.cm,λg=>⟨rfl,?_⟩,λg=>?_⟩
 ·have y:x.2[i]≠[]:=λe=>by rw[e]at g;simp at g
  rw[nB,af y];simp only[ob];exact ai.same h
 ·have H:x.2[i]=[]:=by simpa using g
  have R:x.2.set i []=x.2:=by rw[<-H,ob]
  clear hA r hd t u q;rw[H,nB,aj rfl]
  refine⟨bO bu (M:=Gi) (σ:=Nat×List Nat×List Int) (λs=>HE (aa ⟨b,0,ah⟩) (i:Int) (s.1:Int))
   (λs w'=>s.1<=2/\s.2.2.length<=s.1/\(if s.1=0 then s.2=(x.1,[])else if s.1=1 then s.2=j7 (x.1,[])else s.2=j7 (j7 (x.1,[])))/\ai (dW b) w w' F (s.2.1,x.2.set i s.2.2)) (λs _=>2-s.1) (0,x.1,[]) ⟨rfl,rfl,rfl,trivial⟩ ⟨by simp,by simp,by simp,by rw[R];exact ai.same h⟩ ?_⟩
  rintro⟨j,pg,l⟩ w1 ⟨S,U,d,V,n,z,A⟩;simp only at S U d n⊢;rw[afp];refine⟨λg=>?_,λg=>⟨rfl,?_⟩⟩
  ·have hj:j<2:=by simp at g;omega
   obtain⟨b2,F1,q,⟨p,c,hB⟩,t⟩:=n.ptr;refine⟨_,rfl,_,hB.cell rfl,⟨(agv q).mono ?_⟩⟩;rintro e w2 ⟨rfl,W⟩;obtain⟨F3,f,J,K⟩:=t _ _ (agr _) W
   have L:∀s,s=j7 (pg,l)->(if j+1=0 then s=(x.1,[])else if j+1=1 then s=j7 (x.1,[])else s=j7 (j7 (x.1,[]))):=by
    rintro s rfl;have:j=0∨j=1:=by omega
    rcases this with rfl|rfl
    ·simp only[reduceIte]at d;rw[d];simp
    ·simp at d;rw[d];simp
   simp only at f⊢;refine⟨_,_,rfl,λg1=>?_,λg1=>?_⟩
   ·have g1:(iE pg).2=0:=by simpa using g1
    intro B X Y z3 z4;have N:=av.same no X Y z3 z4;replace f:dW b B F3 _:=Frame.kp.ak f N (λ_ _ h=>h);have o:i<(x.2.set i l).length:=by simpa using hi
    obtain⟨al,G1,G,a,c0,p,c,q,r,hd,_,u⟩:=f.row (i:=i) o;obtain⟨F2,hA⟩:=r.open o;refine⟨_,rfl,_,_,_,hA.lV.cell rfl,_,rfl,_,_,_,hA.lV.cell rfl,⟨by omega,by simp only[bN];omega⟩,a,rfl,_,_,_,hA.cm,⟨λw4 O=>?_⟩⟩;have k:av F2 B w4:=(O.ak no).nn;have am:l.length<=2:=by omega
    have m:(x.2.set i l)[i]=l:=by simp
    obtain⟨p',c',w5,hr,P⟩:=Ls.push oJ hA.ls (by rw[m];omega) O 36;have C:=P;obtain⟨_,_,D,_⟩:=C;refine⟨hA.cell _ k,(hA.ay _ k).cell rfl,(hA.ay _ k).cell rfl,p',_,c',w5,hr,(hA.ay _ D).cell rfl,⟨by omega,by simp only[bN];omega⟩,a,rfl,?_⟩;refine hA.put _ _ _ _ P _ λw6 h6=>?_
    have Q:=u _ _ (by
     rw[m];refine ve f.2 i ?_;simp;omega) h6
    simp only[rN,m]at Q;refine⟨(j+1,mn pg,l++[(iE pg).1]),⟨rfl,rfl,by rw[aP (by omega)];rfl,trivial⟩,⟨by simp only;omega,by simp;omega,L _ (by simp[j7,g1]),?_⟩,by simp only;omega⟩;refine ai.pW n z A ?_;refine ai.pW (s1:=(mn pg,x.2.set i l)) (w1:=B) f (J.and N.nn) K Q
   ·have g1:(iE pg).2≠0:=by simpa using g1
    exact⟨(j+1,mn pg,l),⟨rfl,rfl,by rw[aP (by omega)];rfl,trivial⟩,⟨by simp only;omega,by simp;omega,L _ (by simp[j7,g1]),ai.pW n z A ⟨F3,f,J,K⟩⟩,by simp only;omega⟩
  ·have:j=2:=by simp at g;omega
   subst this;simp at d;rw[<-d];exact⟨V,n,z,A⟩
theorem VI (h:dW b w F x) {i k:Nat} (hi:i<x.2.length) (m:k<=x.2[i].length) {K:World->Prop} (n:∀w',ai (dW b) w w' F (x.1,x.2.set i (x.2[i].drop k))->K w') :
  aU Tryz.prog vp C5 (HF (aa ⟨b,0,ah⟩) (i:Int) (k:Int)) w (IV λe w'=>e=Z (.tuple #[])/\K w'):=by
 refine aU.mk ?_;rw[afq];intro w1 o q r s;have g:=av.same no o q r s;have h:dW b w1 F x:=Frame.kp.ak h g (λ_ _ h=>h);obtain⟨b2,F1,G,a,c0,p,c,A,t,hd,B,u⟩:=h.row hi;obtain⟨F2,hA⟩:=t.open hi;have C:x.2[i].length<=4:=h.2 _ (cx hi);have y:=(hA.ls.behind m);obtain⟨F3,f,_,_⟩:=y;have j:=G8 f.cells (by simp;omega) (λe=>f.zero e);simp only[lN]at j;refine⟨_,rfl,_,_,_,hA.lV.cell rfl,_,rfl,_,_,_,hA.lV.cell rfl,⟨by omega,by omega⟩,a,rfl,_,_,_,hA.cm,⟨by omega,by omega⟩,⟨j.mono ?_⟩⟩;rintro e D ⟨p',c',rfl,l⟩;refine⟨_,_,_,rfl,(hA.ay _ l.U.nn).cell rfl,⟨by omega,by omega⟩,a,rfl,?_⟩;have d:=hA.put _ _ _ _ (Ls.fresh l) (λw'=>cN (.tuple #[])=Z (.tuple #[])/\K w') (λH z=>⟨rfl,n _ ?_⟩)
 ·rw[lN]at d;exact d
 ·have:=u _ _ (ve h.2 i (by simp;omega)) z;exact ai.pW h g.nn (λ_ h=>.inl h) this
theorem LV (h:dW b w F x) {i k:Nat} (hi:i<x.2.length) (y:k<=x.2[i].length):Cx 258 #[pt b,I (i:Int),I (k:Int)] w λe w'=>e=Z (.tuple #[])/\ai (dW b) w w' F (gives x.1 (x.2[i].take k),x.2.set i (x.2[i].drop k)):=by
 refine ajA ?_;have K:x.2[i].length<=4:=h.2 _ (cx hi);obtain⟨b2,F1,G,a,c0,p,c,z,s,hd,A,L⟩:=h.row hi;obtain⟨F2,hA⟩:=s.open hi;have l:=hA.ls.room;refine⟨_,rfl,_,_,_,hA.lV.cell rfl,⟨by omega,by omega⟩,a,rfl,_,_,_,hA.cm,⟨by omega,by omega⟩,?_⟩
 refine⟨bO bu (M:=vp) (σ:=Nat) (λj=>HG (aa ⟨b,0,ah⟩) (i:Int) (k:Int) (gl p c 0 1) (aG (k:Int)-0) (c-0) ((aG (k:Int)-0:Nat):Int) (j:Int))
  (λj w'=>j<=k/\ai (fK b2) w w' F1 (gives x.1 (x.2[i].take j))) (λj _=>k-j) 0 ⟨rfl,rfl,rfl,rfl,rfl,rfl,trivial⟩ ⟨by omega,ai.same z⟩ ?_⟩
 rintro j w1 ⟨N,m,n,o,t⟩;rw[afr];refine⟨λg=>?_,λg=>?_⟩
 ·have O:j<k:=by simp at g;omega
  have d:j<x.2[i].length:=by omega
  obtain⟨F3,f⟩:=(s.ak o hd).open hi;obtain⟨B,q,r⟩:=f.cells.cv d;refine⟨⟨by omega,by simp;omega⟩,B,by rw[Uc];exact q,_,r,_,rfl,_,f.lV.cell rfl,⟨(Y9 n _).mono ?_⟩⟩;rintro e P ⟨rfl,C⟩;refine⟨_,rfl,j+1,⟨rfl,rfl,rfl,rfl,rfl,by rw[aP (by omega)];rfl,trivial⟩,⟨by omega,?_⟩,by omega⟩;rw[Ze _ d];exact ai.pW n o t C
 ·have:j=k:=by simp at g;omega
  subst this;obtain⟨Q,u,D,H⟩:=A _ _ (Zc _ _) ⟨m,n,o,t⟩;exact VI u hi y λw' J=>ai.pW u D H J
theorem Zz {p:Option Addr} {l:List Int} {c:Nat} {bx:Addr} {v:Int} (a:w.cell? bx=aa (I v)) (d:Cells w p (l.map (aB .i64))) (f:l.length<=4) :
  Cx 329 #[.slice p l.length c,.pointer (aa bx)] w λe w'=>e=Z (.bool (decide (v∈l)))/\w'=w:=by
 refine akC ?_;refine⟨_,a,⟨(Oj d (by omega) v).mono ?_⟩⟩;rintro e w' ⟨rfl,rfl⟩;exact⟨_,rfl,rfl,rfl⟩
theorem ZI {p:Option Addr} {L:List (List Int)} {c:Nat} {bx:Addr} {v:Int} (i:w.cell? bx=aa (I v)) (k:Gk w p L) (s:L.length<=maxLen) :
  Cx 381 #[.slice p L.length c,.func (.func 329) #[] #[.pointer (aa bx)]] w λe w'=>(∃n:Int,e=Z (I n)/\decide (n>=0)=tJ L v)/\w'=w:=by
 refine alf ?_;refine⟨bO bu (M:=Cm) (σ:=Nat) (λj=>O3 p L.length c bx (L.length:Int) (j:Int)) (λj w'=>j<=L.length/\tJ (L.take j) v=ae/\w'=w) (λj _=>L.length-j) 0 ⟨rfl,rfl,rfl,rfl,trivial⟩ ⟨by omega,rfl,rfl⟩ ?_⟩;rintro j w1 ⟨t,f,rfl⟩;rw[afQ];refine⟨λg=>?_,λg=>?_⟩
 ·have h:j<L.length:=by simp at g;omega
  obtain⟨a,q,d,l,m,o,r⟩:=k j h;refine⟨⟨by omega,by omega⟩,a,l,_,_,_,m,⟨(Zz i o r).mono ?_⟩⟩;rintro e u ⟨rfl,rfl⟩;refine⟨_,rfl,λg1=>⟨⟨_,rfl,?_⟩,rfl⟩,λg1=>⟨j+1,⟨rfl,rfl,rfl,by rw[aP (by unfold maxLen at *;omega)];rfl,trivial⟩,⟨by omega,?_,rfl⟩,by omega⟩⟩
  ·have:tJ L v=ag:=by
    unfold tJ;rw[mF];exact⟨_,cx h,g1⟩
   rw[this];simp
  ·rw[eW h];unfold tJ at f⊢;rw[List.any_append,f];simpa using g1
 ·have:j=L.length:=by simp at g;omega
  subst this;rw[dC]at f;exact⟨⟨_,rfl,by rw[f];rfl⟩,rfl⟩
theorem Xk {p:Option Addr} {L:List (List Int)} {c:Nat} {bx:Addr} {v:Int} (a:w.cell? bx=aa (I v)) (d:Gk w p L) (f:L.length<=maxLen) :
  Cx 328 #[.slice p L.length c,.func (.func 329) #[] #[.pointer (aa bx)]] w λe w'=>e=Z (.bool (tJ L v))/\w'=w:=by
 refine akB ?_;refine⟨(ZI a d f).mono ?_⟩;rintro e w' ⟨⟨n,rfl,g⟩,rfl⟩;exact⟨_,rfl,by rw[g],rfl⟩
theorem aei (h:dW b w F x) (v:Int):Cx 257 #[pt b,I v] w λe w'=>e=Z (.bool (lZ x v))/\av no w w':=by
 refine ajz ?_;refine⟨λw1 l m r s t u=>⟨λ_=>?_,λg=>by simp at g⟩⟩;have n:=av.same no r s t u;have j:=(l.ak no).and n
 have d:m.cell? ⟨w.heap.size,0,ah⟩=aa (I v):=by
  have:=l.aK.ak (F:=no) n (λh=>h);have:=this.cell (k:=0) (v:=I v) rfl;simpa [bP]using this
 replace h:dW b m F x:=Frame.kp.ak h j (λ_ _ h=>h);obtain⟨b2,F1,o,⟨p,c,hB⟩,_⟩:=h.ptr;refine⟨_,rfl,_,hB.cell rfl,_,d,⟨(SZ o v).mono ?_⟩⟩;rintro e q ⟨rfl,a⟩;refine⟨_,rfl,λg=>?_,λg=>⟨?_,j.and a⟩⟩
 ·replace h:dW b q F x:=Frame.kp.ak h a (λ_ _ h=>h);obtain⟨b2,F1,o,f,p,c,hB,y⟩:=h.rows;have i:q.cell? ⟨w.heap.size,0,ah⟩=aa (I v):=by rw[<-d];exact uu (a.ay _ (qH d) (λh=>h))
  refine⟨_,rfl,_,_,_,hB.cell rfl,⟨(Xk i y f).mono ?_⟩⟩;rintro e z ⟨rfl,rfl⟩;refine⟨_,rfl,?_,j.and a⟩;simp[lZ,g]
 ·simp[lZ,g]
def qR (x:KS) (au:Int):List Int:=if gy x au then kN x au else[]
theorem aac (h:dW b w F x) (au:Int):Cx 97 #[pt b,I au] w λe w'=>∃p c,e=Z (.slice p (qR x au).length c)/\Loc w w' 3 p c (qR x au):=by
 refine u97 ?_;refine⟨(Fq h au).mono ?_⟩;rintro e w1 ⟨rfl,rfl⟩;refine⟨_,rfl,λg=>?_,λg=>?_⟩
 ·have f:¬gy x au:=λh=>by rw[aj h]at g;simp at g
  rw[qR,af f];exact⟨ah,0,rfl,Loc.nil (av.refl _ _) _⟩
 ·have d:gy x au:=eV λh=>by rw[af h]at g;simp at g
  rw[qR,aj d];obtain⟨i,hi,rfl⟩:=uM d;obtain⟨b2,F1,G,a,c0,p,c,l,j,hd,m,n⟩:=h.row hi;obtain⟨F2,hA⟩:=j.open hi;have o:x.2[i].length<=4:=h.2 _ (cx hi);rw[u5 hi];refine⟨_,rfl,_,_,_,hA.lV.cell rfl,⟨by omega,by omega⟩,a,rfl,_,_,_,hA.cm,⟨(G8 hA.cells (by omega) (λe=>hA.ls.zero e)).mono ?_⟩⟩;rintro e q ⟨p',c',rfl,k⟩;exact⟨_,_,_,rfl,_,_,rfl,k⟩
theorem OJ (h:dW b w F x) (au:Int):Cx 355 #[pt b,I au] w λe w'=>e=Z (.tuple #[I (Ds x au).1,I (Ds x au).2])/\ai (dW b) w w' F (jT x au):=by
 refine akU ?_;refine⟨(Fq h au).mono ?_⟩;rintro e w1 ⟨rfl,rfl⟩;refine⟨_,rfl,λg=>?_,λg=>?_⟩
 ·have d:¬gy x au:=λh=>by rw[aj h]at g;simp at g
  rw[Ds,jT,af d,af d,af d];exact⟨rfl,ai.same h⟩
 ·have f:gy x au:=eV λh=>by rw[af h]at g;simp at g
  rw[Ds,jT,aj f,aj f];obtain⟨i,hi,rfl⟩:=uM f;obtain⟨b2,F1,G,a,c0,p,c,l,k,hd,m,n⟩:=h.row hi;obtain⟨F2,hA⟩:=k.open hi;rw[u5 hi];refine⟨_,rfl,_,_,_,hA.lV.cell rfl,⟨by omega,by omega⟩,a,rfl,_,_,_,hA.cm,⟨(LV h hi (aX _)).mono ?_⟩⟩;rintro e o ⟨rfl,j⟩;rw[dC,List.drop_length]at j;exact⟨rfl,rfl,j⟩
theorem YE (pg:List Nat) {l:List Int} (h:l.length<=4):(nB (pg,l)).2.length<=4:=by
 unfold nB;split
 ·rename_i h;simp only at h;subst h;have c:∀s:List Nat×List Int,(j7 s).2.length<=s.2.length+1:=λs=>by unfold j7;split<;>simp
  have a:=c (pg,[]);have b:=c (j7 (pg,[]));simp only[oq]at a;omega
 ·exact h
theorem ad7 (h:dW b w F x) (au:Int):Cx 155 #[pt b,I au] w λe w'=>e=Z (.tuple #[I (xy x au).1,I (xy x au).2])/\ai (dW b) w w' F (rX x au):=by
 refine ahY ?_;refine⟨(Fq h au).mono ?_⟩;rintro e w1 ⟨rfl,rfl⟩;refine⟨_,rfl,λg=>?_,λg=>?_⟩
 ·have t:¬gy x au:=λh=>by rw[aj h]at g;simp at g
  rw[xy,rX,af t,af t,af t];exact⟨rfl,ai.same h⟩
 ·have u:gy x au:=eV λh=>by rw[af h]at g;simp at g
  rw[xy,rX,aj u,aj u];obtain⟨i,hi,rfl⟩:=uM u;rw[u5 hi];have N:=YE x.1 (h.2 _ (cx hi));generalize hs:nB (x.1,x.2[i])=s at N;refine⟨(YF h hi).mono ?_⟩;rw[hs];rintro e w2 ⟨rfl,B,o,C,D⟩;have j:i<(x.2.set i s.2).length:=by simpa using hi
  obtain⟨b2,F1,G,a,c0,p,c,O,y,hd,P,H⟩:=o.row j;obtain⟨F2,hA⟩:=y.open j;have f:(x.2.set i s.2)[i]=s.2:=by simp
  have d:=hA.cm;rw[f]at d;refine⟨rfl,_,rfl,_,_,_,hA.lV.cell rfl,⟨by omega,by simp only[bN];omega⟩,a,rfl,_,_,_,d,λg1=>?_,λg1=>?_⟩
  ·have Q:s.2=[]:=by
    apply lM;rw[aP (by omega)]at g1;simp at g1;omega
   simp only[bQ];rw[Q]at o⊢;exact⟨rfl,B,o,C,D⟩
  ·have q:0<s.2.length:=by
    rw[aP (by omega)]at g1;simp at g1;omega
   have R:aV .i64 ((s.2.length:Int)-1)=((s.2.length-1:Nat):Int):=by rw[aP (by omega)];omega
   rw[R];have J:=hA.cells;rw[f]at J;obtain⟨S,z,A⟩:=J.cv (i:=s.2.length-1) (by omega);refine⟨_,rfl,_,_,_,hA.lV.cell rfl,⟨by omega,by simp only[bN];omega⟩,a,rfl,_,_,_,d,⟨by omega,by omega⟩,S,z,_,A,λU V W X Y=>?_⟩;have K:=av.same no V W X Y;have m:dW b U B (s.1,x.2.set i s.2):=Frame.kp.ak o K (λ_ _ h=>h);obtain⟨b2,F1,G,a,c0,p,c,O,y,hd,P,H⟩:=m.row j;obtain⟨F2,hA⟩:=y.open j;have d:=hA.cm;rw[f]at d;have n:=hA.ls.room;rw[f]at n;refine⟨_,rfl,_,_,_,hA.lV.cell rfl,_,rfl,_,_,_,hA.lV.cell rfl,⟨by omega,by simp only[bN];omega⟩,a,rfl,_,_,_,d,⟨by omega,by omega⟩,⟨by omega,by omega⟩,⟨by omega,by simp only[bN];omega⟩,a,rfl,?_⟩;have r:=hA.ls;rw[f]at r;have L:=r.first (k:=s.2.length-1) (by omega);rw[<-List.dropLast_eq_take]at L;have hl:s.2.getLast?=aa s.2[s.2.length-1]:=by rw[List.getLast?_eq_getElem?];simp[q]
   have l:=hA.put _ _ _ _ L (λw'=>cN (.tuple #[I s.2[s.2.length-1],I 0])=Z (.tuple #[I (Ed s.2).1,I (Ed s.2).2])/\ai (dW b) w1 w' F (s.1,x.2.set i s.2.dropLast)) (λw4 h5=>⟨by simp[Ed,hl],?_⟩)
   ·rw[List.length_dropLast]at l;simp only[bQ];exact l
   ·have M:=H _ _ (ve m.2 i (by simp;omega)) h5;rw[rN]at M;exact ai.pW o C D (ai.pW m K.nn (λ_ h=>.inl h) M)
theorem TS (h:dW b w F x) {i:Nat} (hi:i<x.2.length) (A:x.2[i].length<=3) (v:Int) {K:World->Prop} (l:∀w',ai (dW b) w w' F (x.1,x.2.set i (x.2[i]++[v]))->K w') :
  aU Tryz.prog zE CX (Dw (aa ⟨b,0,ah⟩) (i:Int) v) w (D3 λe w'=>e=Z (I 0)/\K w'):=by
 refine aU.mk ?_;rw[ae2];intro w1 m n o q;have g:=av.same no m n o q;have h:dW b w1 F x:=Frame.kp.ak h g (λ_ _ h=>h);obtain⟨b2,F1,G,a,c0,p,c,B,r,hd,C,s⟩:=h.row hi;obtain⟨F2,hA⟩:=r.open hi;refine⟨_,rfl,_,_,_,hA.lV.cell rfl,_,rfl,_,_,_,hA.lV.cell rfl,⟨by omega,by omega⟩,a,rfl,_,_,_,hA.cm,⟨λt j=>?_⟩⟩;have d:av F2 w1 t:=(j.ak no).nn;obtain⟨p',c',u,y,k⟩:=Ls.push oJ hA.ls (by omega) j 36;obtain⟨_,_,f,_⟩:=id k;refine⟨hA.cell _ d,(hA.ay _ d).cell rfl,(hA.ay _ d).cell rfl,p',_,c',u,y,(hA.ay _ f).cell rfl,⟨by omega,by omega⟩,a,rfl,?_⟩;refine hA.put _ _ _ _ k _ λD z=>⟨rfl,l _ ?_⟩;exact ai.pW h g.nn (λ_ h=>.inl h) (s _ _ (ve h.2 i (by simp;omega)) z)
theorem aeh (h:dW b w F x) (au v:Int):Cx 156 #[pt b,I au,I v] w λe w'=>e=Z (I (ze x au v))/\ai (dW b) w w' F (rv x au v):=by
 refine ahZ ?_;refine⟨(Fq h au).mono ?_⟩;rintro e w1 ⟨rfl,rfl⟩;refine⟨_,rfl,λg=>?_,λg=>?_⟩
 ·have n:¬gy x au:=λh=>by rw[aj h]at g;simp at g
  rw[ze,rv,af n,af n,af (λh=>n h.1)];exact⟨rfl,ai.same h⟩
 ·have j:gy x au:=eV λh=>by rw[af h]at g;simp at g
  refine⟨(aei h v).mono ?_⟩;rintro e r ⟨rfl,l⟩;have f:dW b r F x:=Frame.kp.ak h l (λ_ _ h=>h);refine⟨_,rfl,λg1=>?_,λg1=>?_⟩
  ·have g1:¬lZ x v=ag:=by simpa using g1
   rw[ze,rv,aj j,af g1,af (λh=>g1 h.2)];exact⟨rfl,F,f,l.nn,λ_ h=>.inl h⟩
  ·have g1:lZ x v=ag:=by simpa using g1
   rw[ze,rv,aj j,aj g1,aj ⟨j,g1⟩];obtain⟨i,hi,rfl⟩:=uM j;obtain⟨b2,F1,G,a,c0,p,c,z,s,hd,A,B⟩:=f.row hi;obtain⟨F2,hA⟩:=s.open hi;have C:x.2[i].length<=4:=h.2 _ (cx hi);rw[u5 hi];refine⟨_,rfl,_,_,_,hA.lV.cell rfl,⟨by omega,by omega⟩,a,rfl,_,_,_,hA.cm,λd=>?_,λd=>?_⟩
   ·have d:4<=x.2[i].length:=by simp at d;omega
    refine⟨(LV f hi (k:=2) (by omega)).mono ?_⟩;rintro e D ⟨rfl,H,q,t,u⟩;have o:ou (x.1,x.2[i])=(gives x.1 (x.2[i].take 2),x.2[i].drop 2):=by simp only[ou];rw[aj d]
    rw[o];refine⟨rfl,TS q (by simpa using hi) (by simp;omega) v λy m=>?_⟩;simp only[rN,qA]at m;exact ai.pW f l.nn (λ_ h=>.inl h) (ai.pW (s1:=(gives x.1 (x.2[i].take 2),x.2.set i (x.2[i].drop 2))) q t u m)
   ·have d:¬4<=x.2[i].length:=by simp at d;omega
    have o:ou (x.1,x.2[i])=(x.1,x.2[i]):=by simp only[ou];rw[af d]
    rw[o];exact TS f hi (by omega) v λy m=>ai.pW f l.nn (λ_ h=>.inl h) m
def uV (m n:Int):Prop:=1<=m/\m<=64/\1<=n/\n<=12
def ma (m n:Int):KS:=(aD n.toNat 0,aD m.toNat [])
theorem Ya:eO Tryz.prog 217 36 1 24 [.slice ah 0 0]:=⟨by kernel_rfl,by kernel_rfl,rfl,by omega⟩
theorem aey (m n:Int) (w:World):Cx 48 #[I m,I n] w λe w'=>
  (¬uV m n/\e=Z (.tuple #[.pointer ah,I 2])/\av no w w')∨
  (uV m n/\∃b F,e=Z (.tuple #[pt b,I 0])/\dW b w' F (ma m n)/\av no w w'/\∀i,F i->w.heap.size<=i):=by
 refine u48 ?_;refine⟨(abU n w).mono ?_⟩;rintro e w1 (⟨j,rfl,rfl⟩|⟨c,D,F1,rfl,r,l,s⟩)
 ·exact⟨_,_,rfl,λg=>by simp at g,λ_=>.inl ⟨λh=>j ⟨h.2.2.1,h.2.2.2⟩,rfl,av.refl _ _⟩⟩
 ·refine⟨_,_,rfl,λ_=>⟨λg1=>⟨λd=>.inl ⟨?_,rfl,l⟩,λd=>?_⟩,λg1=>.inl ⟨?_,rfl,l⟩⟩,λg=>by simp at g⟩
  ·unfold uV;simp at d;omega
  ·have g1:¬m<1:=by simpa using g1
   have d:¬64<m:=by simpa using d
   obtain⟨k,rfl⟩:∃k:Nat,m=k:=⟨m.toNat,by omega⟩;obtain⟨p,t,o,u⟩:=TG (f:=λ_:Unit=>rM ah 0 0) (x0:=()) Ya w1 (n:=k) (by omega) (by omega) .i64 .i64;have q:=u.2;simp only[fW,List.map_replicate]at q;refine⟨_,_,_,p,t,⟨λG y=>.inr ⟨⟨by omega,by omega,c.1,c.2⟩,p.heap.size,?_⟩⟩⟩;obtain⟨F,z,A,B⟩:=nc.new (PO:=fK) (T:=219) (E:=36) (I:=3) (enc:=Kl) r s l o q (λi hi=>(by obtain⟨a,C,rfl⟩:=hi;cases C;exact aX _)) y (by simp only[Kl,fW];rw[Int.toNat_of_nonneg (by omega)]);exact⟨F,rfl,z,A,B⟩
  ·unfold uV;simp at g1;omega
end
def zi (s:BV×BV):List Value:=[.int .u64 (mi s.1),.int .u64 (mi s.2)]
abbrev lL (b:Nat):Ob (BV×BV):=Rw b 132 zi
def b9 (s:BV×BV):BV:=s.1&&& ~~~ s.2
def o6 (s:BV×BV) (m:BV):Int×(BV×BV):=if s.1=0 then(if m=0 then(2,s)else(0,(m,0)))else(7,s)
def lC (s:BV×BV) (c:Int):Int×(BV×BV):=if hs (b9 s) c=ag then(0,(s.1,wi s.2 c))else(6,s)
def wI (s:BV×BV):Int×(BV×BV):=if s.1=0 then(6,s)else(0,(0,0))
section
variable {w:World} {F:Fp} {b:Nat} {s:BV×BV} {r:Bool×BV×BV}
theorem EA (h:lL b w F s):Cx 388 #[pt b] w λe w'=>e=Z (.bool (!(s.1==0)))/\w'=w:=by
 refine alk ?_;exact⟨λ_=>⟨_,rfl,_,h.ay.cell rfl,by rw[wv],rfl⟩,λh=>by simp at h⟩
theorem RR (h:lL b w F s):Cx 292 #[pt b] w λe w'=>e=Z (.int .u64 (mi (b9 s)))/\av no w w':=by
 refine aj1 ?_;refine⟨λh=>by simp at h,λ_ w1 c d f g=>?_⟩;have a:=av.same no c d f g;have hB:=h.ay.ak a id;refine⟨_,rfl,_,hB.cell rfl,_,rfl,_,hB.cell rfl,⟨(aa8 _ _ w1).mono ?_⟩⟩;rintro e w' ⟨rfl,rfl⟩;exact⟨_,rfl,rfl,a⟩
theorem Sq (h:lL b w F s) (c:Int):Cx 202 #[pt b,I c] w λe w'=>e=Z (.bool (hs (b9 s) c))/\av no w w':=by
 refine aiF ?_;refine⟨(RR h).mono ?_⟩;rintro e w' ⟨rfl,a⟩;refine⟨_,rfl,⟨(l7 _ _ w').mono ?_⟩⟩;rintro e w' ⟨rfl,rfl⟩;exact⟨_,rfl,rfl,a⟩
theorem Zt (h:lL b w F s) (c:Int):Cx 203 #[pt b,I c] w λe w'=>e=Z (.bool (hs s.2 c))/\w'=w:=by
 refine aiG ?_;refine⟨λ_=>⟨_,rfl,_,h.ay.cell rfl,⟨(l7 _ _ w).mono ?_⟩⟩,λh=>by simp at h⟩;rintro e w' ⟨rfl,rfl⟩;exact⟨_,rfl,rfl,rfl⟩
def iU (s:BV×BV):Bool:=!(s.1==0)&&(b9 s==0)
theorem adk (h:lL b w F s):Cx 390 #[pt b] w λe w'=>e=Z (.bool (iU s))/\av no w w':=by
 refine aln ?_;refine⟨(EA h).mono ?_⟩;rintro e w' ⟨rfl,rfl⟩;refine⟨_,rfl,λa=>⟨(RR h).mono ?_⟩,λa=>⟨by rw[iU,a,js],av.refl _ _⟩⟩;rintro e w' ⟨rfl,c⟩;exact⟨_,rfl,by rw[l9,iU,a,dR],c⟩
theorem VU (h:lL b w F s) (m:BV):Cx 389 #[pt b,.int .u64 (mi m)] w λe w'=>e=Z (I (o6 s m).1)/\ai (lL b) w w' F (o6 s m).2:=by
 refine alm ?_;refine⟨λh=>by simp at h,λ_=>⟨(EA h).mono ?_⟩⟩;rintro e w' ⟨rfl,rfl⟩;refine⟨_,rfl,λa=>?_,λa=>⟨λc=>?_,λc=>?_⟩⟩
 ·have a:s.1≠0:=by simpa using a
  simp only[o6,af a];exact⟨trivial,ai.same h⟩
 ·have a:s.1=0:=by simpa using a
  have c:m=0:=by rw[l9]at c;simpa using c
  simp only[o6,aj a,aj c];exact⟨trivial,ai.same h⟩
 ·have a:s.1=0:=by simpa using a
  have c:m≠0:=by rw[l9]at c;simpa using c
  simp only[o6,aj a,af c];exact⟨_,rfl,h.ay.wr (by simp[zi]) λw1 d=>⟨_,rfl,d.aK.wr (by simp[zi,bc]) λf k2=>⟨trivial,h.gD (d.U.and k2.U) k2.aK⟩⟩⟩
theorem Vh (h:lL b w F s) (c:Int):Cx 118 #[pt b,I c] w λe w'=>e=Z (I (lC s c).1)/\ai (lL b) w w' F (lC s c).2:=by
 refine ahn ?_;refine⟨λh=>by simp at h,λ_=>⟨(Sq h c).mono ?_⟩⟩;rintro e w' ⟨rfl,d⟩;refine⟨_,rfl,λa=>?_,λa=>?_⟩
 ·have a:¬hs (b9 s) c=ag:=by simpa using a
  simp only[lC,af a];exact⟨trivial,ai.quiet h d⟩
 ·have a:hs (b9 s) c=ag:=by simpa using a
  simp only[lC,aj a];have hB:=h.ay.ak d id;refine⟨_,rfl,_,hB.cell rfl,⟨λw1 f=>⟨(qW s.2 (l:=[c]) (Sl.new (n:=1) (sz:=1) f (by simp) (by unfold maxLen;omega)).cells (by simp)).mono ?_⟩⟩⟩;rintro e g ⟨rfl,rfl⟩;exact⟨_,rfl,_,rfl,(f.keep hB).wr (by simp[zi]) λi k=>⟨trivial,h.gD (((d.mono λ_ _ h=>h.elim).trans (f.ak no) λ_ _ h=>h.elim).and k.U) k.aK⟩⟩
theorem YX (h:lL b w F s):Cx 391 #[pt b] w λe w'=>e=Z (I (wI s).1)/\ai (lL b) w w' F (wI s).2:=by
 refine alo ?_;refine⟨λh=>by simp at h,λ_=>⟨(EA h).mono ?_⟩⟩;rintro e w' ⟨rfl,rfl⟩;refine⟨_,rfl,λa=>?_,λa=>?_⟩
 ·have a:s.1=0:=by simpa using a
  simp only[wI,aj a];exact⟨trivial,ai.same h⟩
 ·have a:s.1≠0:=by simpa using a
  simp only[wI,af a];exact⟨_,rfl,h.ay.wr (by simp[zi]) λw1 c=>⟨_,rfl,c.aK.wr (by simp[zi,bc]) λd k2=>⟨trivial,h.gD (c.U.and k2.U) k2.aK⟩⟩⟩
end
structure eQ {α:Type} (f:α->List Value) (sz:Nat) (W w:World) (T:TypeId) (p:Option Addr) (c:Nat) (l:List α):Prop where
 U:av no W w
 S:Sl w T sz p l.length c (l.flatMap f)
 F:∀i,bf p i->W.heap.size<=i
section
variable {α:Type} {f:α->List Value} {sz:Nat} {W w w':World} {T:TypeId} {p:Option Addr} {c:Nat} {l:List α}
theorem eQ.nil (h:av no W w) (T:TypeId):eQ f sz W w T ah 0 []:=⟨h,Sl.nil _ _ _,λi ⟨a,b,_⟩=>by cases b⟩
theorem eQ.ak (h:eQ f sz W w T p c l) (k:av no w w'):eQ f sz W w' T p c l:=⟨h.U.trans k (λ_ _ h=>h),h.S.ak k (λ_ _ h=>h),h.F⟩
theorem LP {P:Program} {t e:TypeId} {bytes:Nat} {z:List Value} (o:eO P t e sz bytes z) {w w1:World} {p:Option Addr} {n c:Nat} {cs v:List Value} (q:∀u∈v,u.oneCell'=ag) (k:v.length=sz) (h:Sl w e sz p n c cs) (r:(n+1)*bytes<=140737488355328) (b:n<=1048576)
  {T:TypeId} (g:dy w w1 (.cells v.toArray T (0,0))) (ty:TypeId) :
  ∃p' c' a,(bR #[t,t] ty #[.slice p n c,.slice (aa ⟨w.heap.size,0,ah⟩) 1 1]).run P w1=.ok (.slice p' (n+1) c') a/\Sl a e sz p' (n+1) c' (cs++v)/\av (bf p) w a/\(∀i,bf p' i->bf p i∨w.heap.size<=i):=by
 have s:=h.ak (g.ak no) (λ_ _ b=>b);have j:Sl w1 T sz (aa ⟨w.heap.size,0,ah⟩) 1 1 v:=Sl.new g (by simp[k]) (by unfold maxLen;omega);obtain⟨p',C,c',a,x,b,y,A,B⟩:=y8 o s j.cells (m:=1) (d:=1) (by simp[k]) q (by simp) r (by omega) ty;refine⟨p',c',a,by rw[x,b],y,(g.ak _).trans A (λi _ hi=>hi),λi hi=>(B i hi).imp id (λh=>?_)⟩;rw[g.size]at h;omega
theorem eQ.push {P:Program} {t:TypeId} {bytes:Nat} {z:List Value} (h:eQ f sz W w T p c l) (d:eO P t T sz bytes z) (b:∀x,(f x).length=sz) (e:∀x,∀u∈f x,u.oneCell'=ag) (g:(l.length+1)*bytes<=140737488355328) (j:l.length<=1048576) {x:α} {v:List Value} (m:v=f x) {w1:World} {n:TypeId} (o:dy w w1 (.cells v.toArray n (0,0))) (ty:TypeId) :
  ∃p' c' a,(bR #[t,t] ty #[.slice p l.length c,.slice (aa ⟨w.heap.size,0,ah⟩) 1 1]).run P w1=.ok (.slice p' (l++[x]).length c') a/\eQ f sz W a T p' c' (l++[x]):=by
 subst m;obtain⟨p',c',a,q,r,s,y⟩:=LP d (e x) (b x) h.S g j o ty;refine⟨p',c',a,by rw[q];simp,h.U.trans s (λi hi b=>absurd (h.F i b) (by omega)),by simpa using r,λi hi=>?_⟩;rcases y i hi with k|k
 ·exact h.F i k
 ·exact aW h.U.size k
end
section
variable {α:Type} {f:α->List Value} {sz:Nat} {W w w':World} {T:TypeId} {p:Option Addr} {c:Nat} {l:List α} {F:Fp}
end
def Fe:Value->Value->Bool
 | .int _ a,.int _ b=>a==b
 | .bool a,.bool b=>a==b
 | _,_=>ae
def ad8:Value->Value->Bool
 | .int k _,.int k' _=>decide (k=k')
 | .bool _,.bool _=>ag
 | _,_=>ae
def xZ:List Value->List Value->Bool
 | a::d,b::e=>Fe a b&&xZ d e
 | _,_=>ag
def BA:List Value->List Value->Bool
 | a::d,b::e=>ad8 a b&&BA d e
 | [],[]=>ag
 | _,_=>ae
def AE (P:Program):List Field->Nat->List Value->Bool
 | [],_,[]=>ag
 | f::a,i,v::vs=>(f.name !="_")&&dU P f.type&&!kY P f.type&&(f.offset==i)&&(match P.underlying f.type,v with
   | some (.int _),.int _ _=>ag
   | some .bool,.bool _=>ag
   | _,_=>ae)&&AE P a (i+1) vs
 | _,_,_=>ae
theorem Pe {P:Program} (d:Nat) {w:World} {xs ys:Array Value}:∀{fs:List Field} {i:Nat} {us vs:List Value},AE P fs i us=ag->BA us vs=ag->xs.toList.drop i=us->ys.toList.drop i=vs->
  (Op.eqFields (d+1) xs ys fs).run P w=.ok (xZ us vs) w
 | [],i,us,vs,g,hs,j,m=>by
  cases us with
  | nil=>cases vs with
   | nil=>simp[Op.eqFields,xZ]
   | cons _ _=>cases hs
  | cons _ _=>cases g
 | f::fs,i,us,vs,g,hs,j,m=>by
  cases us with
  | nil=>cases g
  | cons a us=>
   cases vs with
   | nil=>cases hs
   | cons b vs=>
    simp only[AE,aY,ja]at g;obtain⟨⟨⟨⟨⟨s,o⟩,r⟩,h⟩,e⟩,t⟩:=g;simp only[BA,aY]at hs;have h:=eq_of_beq h
    have u:xs.toList[f.offset]?=aa a:=by
     have:=congrArg (λl=>l[0]?) j;simp only[ik,xm]at this;rw[h];simpa using this
    have z:ys.toList[f.offset]?=aa b:=by
     have:=congrArg (λl=>l[0]?) m;simp only[ik,xm]at this;rw[h];simpa using this
    have A:(Op.equalIn (d+1) f.type a b).run P w=.ok (Fe a b) w:=by
     cases hu:P.underlying f.type with
     | none=>rw[hu]at e;cases e
     | some ty=>
      rw[hu]at e
      cases a with
      | int k x=>
       cases b with
       | int k' y=>
        have B:k=k':=aL hs.1;subst B
        cases ty with
        | int q=>exact run_equalIn_int w d f.type k q x y hu
        | _=>cases e
       | _=>cases hs.1
      | bool x=>
       cases b with
       | bool y=>
        cases ty with
        | bool=>exact run_equalIn_bool' w d f.type x y hu
        | _=>cases e
       | _=>cases hs.1
      | _=>cases ty<;>cases e
    have C:=Pe d (w:=w) (xs:=xs) (ys:=ys) (fs:=fs) (i:=i+1) t hs.2 (by rw[<-List.drop_drop,j];rfl) (by rw[<-List.drop_drop,m];rfl);have n:f.name≠"_":=by simpa using s
    simp only[Op.eqFields,n,ne_eq,not_false_eq_true,if_true,qw,E9 o r u,E9 o r z,A,qx,xZ];cases D:Fe a b
    ·simp
    ·simp[C]
def isStr (P:Program) (t:TypeId):Bool:=match P.underlying t with
 | some (.struct _)=>ag
 | _=>ae
theorem adU {P:Program} {t:TypeId} (us:List Value) (a:P.stoodInHeld t=ae) (b:AE P (P.fieldsOf t).toList 0 us=ag) (hs:isStr P t=ag) {vs:List Value} (d:BA us vs=ag) (w:World) :
  (Op.equal t (.agg us.toArray) (.agg vs.toArray)).run P w=.ok (xZ us vs) w:=by
 have e:P.underlying t=aa (.struct (P.fieldsOf t)):=by
  unfold Program.fieldsOf;unfold isStr at hs;split at hs
  ·rename_i g h;rw[h]
  ·cases hs
 show(Op.equalIn (9999+1) t _ _).run P w=_;rw[run_equalIn_struct w 9999 t _ _ e a];exact Pe 9998 b d (by simp) (by simp)
abbrev Lc:=Int×BV×Int×Bool
def jw (want a:BV) (near:Int):Int×Bool×Int:=
 if a=0 then(0,ae,12)else
  if hs (if want&&& a=0 then a else want&&& a) near then(near,want&&& a==0,0)else((mU (if want&&& a=0 then a else want&&& a) near).1,want&&& a==0,0)
def Gb (a:BV) (x:Lc):Bool:=!hs a x.2.2.1||(!hs x.2.1 x.2.2.1&&!(x.2.1&&& a==0))||(x.2.2.2==hs x.2.1 x.2.2.1)
theorem SH {m:BV} (h:m≠0) (c:Int):(mU m c).2=0/\hs m (mU m c).1=ag:=by
 unfold mU
 cases a:(cs m).find? (λd=>decide (d>c))with
 | some d=>exact⟨rfl,AZ.1 (pH a)⟩
 | none=>simp only[Ir h];exact⟨trivial,KJ h⟩
theorem Py {want a:BV} (h:a≠0):(if want&&& a=0 then a else want&&& a)≠0:=by split<;>assumption
theorem Oe {w:World} (i:Tab w) (want a:BV) (near:Int):Cx 233 #[.int .u64 (mi want),.int .u64 (mi a),I near] w λe w'=>e=Z (.tuple #[I (jw want a near).1,.bool (jw want a near).2.1,I (jw want a near).2.2])/\w'=w:=by
 refine ajb ?_;rw[l9];refine⟨λg=>?_,λg=>⟨(El want a w).mono ?_⟩⟩
 ·have g:a=0:=by simpa using g
  exact⟨by simp only[jw,g,if_true],rfl⟩
 ·have g:a≠0:=by simpa using g
  rintro e w1 ⟨rfl,rfl⟩
  have go:∀d:BV,d=(if want&&& a=0 then a else want&&& a)->aU Tryz.prog zH C4 (DA near (mi d) (want&&& a==0)) w1 (D8 λe w'=>e=Z (.tuple #[I (jw want a near).1,.bool (jw want a near).2.1,I (jw want a near).2.2])/\w'=w1):=by
   intro d f;refine aU.mk ?_;rw[afo];have h:d≠0:=f ▸ Py g;unfold jw;rw[af g,<-f];refine⟨(l7 d near w1).mono ?_⟩;rintro e j ⟨rfl,rfl⟩;refine⟨_,rfl,λb=>?_,λb=>⟨(aa7 d near i).mono ?_⟩⟩
   ·rw[aj b];exact⟨rfl,rfl⟩
   ·rintro e k ⟨rfl,rfl⟩;rw[af (by rw[b];decide)];exact⟨_,_,rfl,by rw[(SH h near).1],rfl⟩
  refine⟨_,rfl,λb=>?_,λb=>?_⟩
  ·have c:(want&&& a==0)=ag:=by rw[l9]at b;exact b
   rw[l9];exact go a (by rw[aj (eq_of_beq c)])
  ·have c:(want&&& a==0)=ae:=by rw[l9]at b;exact b
   rw[l9];exact go _ (by rw[af (ne_of_beq_false c)])
theorem U5 (a:BV) (x:Lc) (w:World):Cx 239 #[.int .u64 (mi a),.agg #[I x.1,.int .u64 (mi x.2.1),I x.2.2.1,.bool x.2.2.2]] w λe w'=>e=Z (.bool (Gb a x))/\av no w w':=by
 refine ajh ?_;refine⟨λw1 f=>?_⟩;have hB:=f.aK;have b:=f.ak no;unfold Gb;refine⟨_,hB.cell rfl,_,hB.cell rfl,⟨(l7 _ _ _).mono ?_⟩⟩;rintro e h ⟨rfl,rfl⟩;refine⟨_,rfl,_,hB.cell rfl,⟨(l7 _ _ _).mono ?_⟩⟩;rintro e i ⟨rfl,rfl⟩;refine⟨_,rfl,λg=>⟨by rw[g];rfl,b⟩,λg=>⟨λc=>⟨_,hB.cell rfl,⟨(El _ _ _).mono ?_⟩⟩,λc=>⟨_,hB.cell rfl,by rw[g,c];rfl,b⟩⟩⟩;rintro e j ⟨rfl,rfl⟩;refine⟨_,rfl,?_⟩;rw[wv];refine⟨λd=>⟨by rw[g,c,d];rfl,b⟩,λd=>⟨_,hB.cell rfl,by rw[g,c,d];rfl,b⟩⟩
def nH (g:Int->Int) (a b:Int):Bool:=decide (g a<g b)||(decide (g a=g b)&&decide (a<b))
def we (g:Int->Int) (x:Int):List Int->List Int
 | []=>[x]
 | y::l=>if nH g x y then x::y::l else y::we g x l
def gk (g:Int->Int):List Int->List Int
 | []=>[]
 | x::l=>we g x (gk g l)
theorem IP (g:Int->Int) (x:Int):∀l,(we g x l).Perm (x::l)
 | []=>.refl _
 | y::l=>by
  unfold we;split
  ·exact .refl _
  ·exact((IP g x l).cons y).trans (.swap x y l)
theorem ji (g:Int->Int):∀l,(gk g l).Perm l
 | []=>.refl _
 | x::l=>(IP g x _).trans ((ji g l).cons x)
theorem Eg {g:Int->Int} {a b:Int}:nH g a b=ag↔g a<g b∨(g a=g b/\a<b):=by simp[nH]
theorem qV {g:Int->Int} {a b:Int}:nH g a b=ae↔g b<g a∨(g b=g a/\b<=a):=by
 have:=@Eg g a b
 cases h:nH g a b with
 | true=>rw[h]at this;have:=this.1 rfl;simp;omega
 | false=>simp[h]at this;simp;omega
theorem Qh (g:Int->Int) (x:Int):∀l,l.Pairwise (λa b=>nH g b a=ae)->(we g x l).Pairwise (λa b=>nH g b a=ae)
 | [],_=>by simp[we]
 | y::l,h=>by
  unfold we;have e:=List.pairwise_cons.1 h;split
  ·rename_i d;refine List.pairwise_cons.2 ⟨λz c=>?_,h⟩;rcases ez.1 c with rfl|c
   ·have:=Eg.1 d;rw[qV];omega
   ·have f:=Eg.1 d;have i:=qV.1 (e.1 z c);rw[qV];omega
  ·rename_i d;have d:nH g x y=ae:=by simpa using d
   refine List.pairwise_cons.2 ⟨λz c=>?_,Qh g x l e.2⟩;rcases ez.1 ((IP g x l).mem_iff.1 c)with rfl|c
   ·exact d
   ·exact e.1 z c
theorem zg (g:Int->Int):∀l,(gk g l).Pairwise (λa b=>nH g b a=ae)
 | []=>.nil
 | x::l=>Qh g x _ (zg g l)
theorem T5 {g:Int->Int} {l m:List Int} (h:l.Perm m) (c:l.Pairwise (λa b=>nH g b a=ae)) (d:m.Pairwise (λa b=>nH g b a=ae)):l=m:=
 List.Perm.eq_of_pairwise (λa b _ _ e f=>by rw[qV]at e f;omega) c d h
theorem aeA {g:Int->Int} {l m:List Int} (h:l.Perm m):gk g l=gk g m:=
 T5 (((ji g l).trans h).trans (ji g m).symm) (zg g l) (zg g m)
theorem T0 {g:Int->Int} {l m:List Int} (h:m.Perm l) (c:m.Pairwise (λa b=>nH g b a=ae)):m=gk g l:=
 T5 (h.trans (ji g l).symm) c (zg g l)
theorem aez {g c:Int->Int}:∀{l:List Int},(∀a∈l,g a=c a)->gk g l=gk c l:=by
 intro l h;refine T0 ((ji g l)) ((zg g l).imp_of_mem ?_);intro a b d f e;rw[qV]at e⊢;rw[<-h a ((ji g l).mem_iff.1 d),<-h b ((ji g l).mem_iff.1 f)];exact e
def bH (a d:Int):Int×Int:=if(0<=a/\a<=1152921504606846976)/\(0<=d/\d<=1073741824)then(if a<=1152921504606846976-d then(a+d,0)else(0,16))else(0,2)
def fZ (n:Int):Prop:=-9223372036854775808<=n/\n<=9223372036854775807
instance (n:Int):Decidable (fZ n):=inferInstanceAs (Decidable (_/\_))
def n5 (a b:Int):Int×Int:=if fZ (a+b)then(a+b,0)else(0,16)
def iv (s:List Int) (c:Int):Prop:=0<=c/\c<s.length
instance (s:List Int) (c:Int):Decidable (iv s c):=inferInstanceAs (Decidable (_/\_))
def oN (s:List Int) (c:Int):Int:=s.getD c.toNat 0
def nQ (s:List Int) (c n:Int):Int:=if iv s c then(n5 (oN s c) n).2 else 3
def lE (s:List Int) (c n:Int):List Int:=if nQ s c n=0 then s.set c.toNat (oN s c+n)else s
def rz (s:List Int) (f t:Int):Int:=if iv s f then(if iv s t then(if f=t then 2 else nQ s t (oN s f))else 3)else 3
def BE (s:List Int) (f t:Int):List Int:=if rz s f t=0 then(lE s t (oN s f)).set f.toNat 0 else s
abbrev iY:=List Int×Int
def oK (x:iY) (c:Int):Int:=if iv x.1 c then(if x.2=0 then(if 1000<=x.1.sum then 5 else 0)else 7)else 3
def tC (x:iY) (c:Int):iY:=if oK x c=0 then(x.1.set c.toNat (oN x.1 c+1),x.2)else x
def qT (x:iY) (c:Int):Int:=if iv x.1 c then(if oN x.1 c=0 then 12 else 0)else 3
def tK (x:iY) (c:Int):iY:=if qT x c=0 then(x.1.set c.toNat (oN x.1 c-1),x.2)else x
def KY (x:iY):Int:=if x.2=0 then 0 else 7
def uc (x:iY):iY:=if x.2=0 then(x.1,1)else x
def oP (x:iY):Int:=if x.2=1 then(if 0<x.1.sum then 7 else 0)else 6
def oQ (x:iY):iY:=if oP x=0 then(x.1,2)else x
def Iy (x:iY):Int:=if x.2=0 then 6 else 0
def vY (x:iY):iY:=(x.1,0)
structure vn (x:iY):Prop where
 pos:∀v∈x.1,0<=v
 sum:x.1.sum<=1000
 len:1<=x.1.length/\x.1.length<=64
 st:0<=x.2/\x.2<=2
structure bd where
 jj:Int
 aA:Int
 back:Bool
 up:Bool
 au:Int
 ax:Int
 told:Bool
deriving DecidableEq
def bd.now (r:bd):Int×Bool×Bool:=if(r.back&&decide (r.aA=0))||(!r.back&&decide (r.aA=r.jj))then(0,r.back,ag)else if r.back then(r.aA-1,ag,ae)else(r.aA,ae,ae)
def bd.over (r:bd):Bool:=r.now.2.2
def bd.gX (r:bd):Int:=if r.back then 11 else 0
abbrev bY:=Option bd×(Int->Bool)
def dE (d:bY):Bool:=d.1.isSome
def jS (d:bY):Bool:=match d.1 with|some r=>r.up|none=>ae
def jc (d:bY):Int:=match d.1 with|some r=>r.au|none=>0
def mO (d:bY):Int:=match d.1 with|some r=>r.ax|none=>0
def nA (d:bY):Bool:=match d.1 with|some r=>r.over|none=>ae
def tA (d:bY):Int:=match d.1 with|some r=>if r.over then 6 else 0|none=>12
def nN (n:Int):Int:=if 0<=n/\n<10 then 0 else 3
def oY (d:bY) (n:Int):bY:=if nN n=0 then(d.1,λk=>if k=n then ag else d.2 k)else d
def lX (n:Int):Prop:=0<=n/\n<64
instance (n:Int):Decidable (lX n):=inferInstanceAs (Decidable (_/\_))
def nv (d:bY) (au ax:Int):Int:=if d.1.isSome then 7 else if lX au/\lX ax then(if au=ax then 2 else 0)else 3
def tp (d:bY) (up:Bool) (au ax:Int):bY:=if nv d au ax=0 then(aa ⟨if up then 4 else 10,0,ae,up,au,ax,ae⟩,d.2)else d
def jd (d:bY) (r:bd):Bool:=!r.now.2.1&&!r.told&&d.2 r.now.1
def jy (d:bY):(Int×Bool×Bool)×Int:=match d.1 with
 | some r=>if r.over then((0,ae,ae),6)else((r.now.1,r.now.2.1,jd d r),0)
 | none=>((0,ae,ae),12)
def sk (d:bY):bY:=match d.1 with
 | some r=>if r.over then d else(aa {r with told:=ag,back:=r.back||jd d r},if jd d r then λk=>if k=r.now.1 then ae else d.2 k else d.2)
 | none=>d
def xT (d:bY):bY:=match d.1 with
 | some r=>if r.over then d else(aa {r with told:=ae,aA:=if r.back then r.aA-1 else r.aA+1},d.2)
 | none=>d
def Az (d:bY):Int×Int:=match d.1 with
 | some r=>if r.over then(r.gX,0)else(0,6)
 | none=>(0,12)
def vT (d:bY):bY:=match d.1 with
 | some r=>if r.over then(ah,d.2)else d
 | none=>d
structure Lo (r:bd):Prop where
 st:r.jj=if r.up then 4 else 10
 aA:0<=r.aA/\r.aA<=r.jj
 au:lX r.au
 ax:lX r.ax
structure dV where
 pw:Bool
 idle:Bool
 cC:Int
 since:Int
deriving DecidableEq
abbrev Fl:=Bool×Bool×Bool×Bool×Bool×Bool×Bool×Bool×Bool
def ef (f:Fl):Int:=
 if f.1 then 2 else if f.2.2.1 then 3 else if f.2.1||!f.2.2.2.1 then 0 else if f.2.2.2.2.1 then 4 else if f.2.2.2.2.2.1 then 5 else if f.2.2.2.2.2.2.1 then 6 else if f.2.2.2.2.2.2.2.1 then 7 else if f.2.2.2.2.2.2.2.2 then 8 else 9
def tv (pw idle:Bool) (f:Fl):Int:=if !pw then 0 else if !idle then ef f else if ef f=0∨ef f=9 then 0 else 1
def dS (s:List dV) (c:Int):Prop:=0<=c/\c<s.length
instance (s:List dV) (c:Int):Decidable (dS s c):=inferInstanceAs (Decidable (_/\_))
def Ha:dV:=⟨ae,ae,0,0⟩
def bg (s:List dV) (c:Int):dV:=if dS s c then s.getD c.toNat Ha else Ha
def iK (s:List dV) (c:Int) (on:Bool):List dV:=if dS s c/\(bg s c).pw≠on then s.set c.toNat {bg s c with pw:=on,idle:=ae,cC:=0,since:=0}else s
def bD (n:Int):Prop:=0<=n/\n<=1152921504606846976
instance (n:Int):Decidable (bD n):=inferInstanceAs (Decidable (_/\_))
def mN (s:List dV) (c cC now:Int):List dV:=if dS s c/\(0<=cC/\cC<8)/\bD now/\(bg s c).pw=ag/\(bg s c).idle=ae then s.set c.toNat {bg s c with idle:=ag,cC:=cC,since:=now}else s
def eY (s:List dV) (c now:Int):List dV:=if dS s c/\bD now/\(bg s c).idle=ag then s.set c.toNat {bg s c with idle:=ae,cC:=0,since:=0}else s
def vL (rest a:Int):Int:=if 50<=a/\400<=rest then 3 else if 10<=a/\50<=rest then 2 else if 2<=a/\10<=rest then 1 else 0
def JM (now due:Int) (known:Bool):Int:=if known then(if now<0∨due<=now then 0 else min (due-now) 1073741824)else 1073741824
abbrev dO:=List (Option (Int×Int))
structure cI where
 now:Int
 n:Nat
 t:dO
def bE (t:dO) (id:Int):Option (Int×Int):=if 1<=id then t.getD (id.toNat-1) ah else ah
def kx (t:dO) (id:Int):Int:=match bE t id with|some p=>p.2|none=>0
def gM (t:dO) (p:Int×Int->Bool):List Int:=((bU t.length).filter λi=>match t.getD i ah with|some x=>p x|none=>ae).map λ(i:Nat)=>(i:Int)+1
def gU (t:dO) (c:Int):List Int:=gk (kx t) (gM t λx=>decide (x.1=c))
def mq (now:Int) (t:dO) (c:Int):List Int:=gk (kx t) (gM t λx=>decide (x.1=c)&&decide (x.2<=now))
def dT (x:cI) (c:Int):Prop:=0<=c/\c<x.n
instance (x:cI) (c:Int):Decidable (dT x c):=inferInstanceAs (Decidable (_/\_))
def tE (t:dO):Option Nat:=t.findIdx? Option.isNone
def dL (x:cI) (c due:Int):Int×Int:=if dT x c then(if bD due then(match tE x.t with|some i=>((i:Int)+1,0)|none=>(0,5))else(0,2))else(0,3)
def im (x:cI) (c due:Int):cI:=if dT x c/\bD due then(match tE x.t with|some i=>{x with t:=x.t.set i (aa (c,due))}|none=>x)else x
def lH (x:cI) (id:Int):Int×Bool:=match bE x.t id with|some p=>(p.1,ag)|none=>(0,ae)
def rF (x:cI) (id:Int):Int×Bool:=match bE x.t id with|some p=>(p.2,ag)|none=>(0,ae)
def uB (x:cI) (id:Int):cI:={x with t:=x.t.set (id.toNat-1) ah}
def uy (x:cI) (id:Int):Int:=match bE x.t id with|some _=>0|none=>4
def kv (x:cI) (id:Int):cI:=match bE x.t id with|some _=>uB x id|none=>x
def tG (x:cI) (now:Int):Int:=if x.now<=now/\bD now then 0 else 2
def oM (x:cI) (now:Int):cI:=if tG x now=0 then{x with now:=now}else x
def lB (x:cI) (c:Int):Bool:=decide (dT x c)&&decide (0<(mq x.now x.t c).length)
def dM (x:cI) (c:Int):Int×Int:=if dT x c then(match mq x.now x.t c with|a::_=>(a,0)|[]=>(0,12))else(0,3)
def gx (x:cI) (c:Int):cI:=if dT x c then(match mq x.now x.t c with|a::_=>uB x a|[]=>x)else x
def uT (x:cI) (c:Int):Int×Int:=if dT x c then(match gU x.t c with|a::_=>(kx x.t a,0)|[]=>(0,12))else(0,3)
def qi (x:cI) (c:Int):List Int:=if dT x c then gU x.t c else[]
def j8 (x:cI) (f t:Int):Int×Int:=if dT x f/\dT x t then(if f=t then(0,2)else match gU x.t f with|a::_=>(a,0)|[]=>(0,12))else(0,3)
def gV (x:cI) (f t:Int):cI:=if dT x f/\dT x t/\f≠t then(match gU x.t f with|a::_=>{x with t:=x.t.set (a.toNat-1) (aa (t,kx x.t a))}|[]=>x)else x
structure Gm (x:cI):Prop where
 now:bD x.now
 n:1<=x.n/\x.n<=64
 len:x.t.length=48
 at_:∀id p,bE x.t id=aa p->(0<=p.1/\p.1<x.n)/\bD p.2
structure K where
 n:Nat
 on:BV
 ac:BV
 now:Int
 lim:Int
 own:Int->Option Int
 th:Int×TL
 rq:RS
 tm:cI
 ir:ch
 rt:dh
 wk:QL
 ca:CS
 st:KS
 ga:iY
 sp:BV×BV
 dk:bY
 co:List dV
abbrev Rc:=Int×Int×Int×Int×Int
def mI (x:Int×Int):List Rc:=[(1,0,if x.2=0 then x.1 else 0,0,x.2)]
def gh (gX:Int):List Rc:=[(1,0,0,0,gX)]
def sq (k:K) (c:Int):Int:=if 0<=c/\c<k.n then(if hs k.ac c then 0 else 9)else 3
def cS (k:K) (id:Int):Th:=(dt k.th id).1
def jB (k:K) (id near:Int):K:=
 {k with th:=lx k.th id (jw (cS k id).2.1 k.ac near).1 (jw (cS k id).2.1 k.ac near).2.1,rq:=jE k.rq (jw (cS k id).2.1 k.ac near).1 (cS k id).1 id}
def BP (k:K) (x:Th):Bool:=Gb k.ac (0,x.2.1,x.2.2.1,x.2.2.2.1)
def iz (k:K) (id:Int):K:=if(cS k id).2.2.2.2.1||!BP k (cS k id)then k else jB {k with rq:=fH k.rq id} id (cS k id).2.2.1
def qX (k:K) (n:Int):BV:=if jz n then 0 else(gq k.ir n).2.2.2
def iw (k:K) (n near:Int):K:={k with rt:=nP k.rt n (jw (qX k n) k.ac near).1}
def gZ (k:K) (n:Int):K:=if Gb k.ac (0,qX k n,(cF k.rt n).1,!hs (qX k n) (cF k.rt n).1)then iw k n (cF k.rt n).1 else k
def FF (k:K) (n:Int):Int:=if(bH k.now n).2=0 then tG k.tm (bH k.now n).1 else(bH k.now n).2
def sJ (k:K) (n:Int):K:=if(bH k.now n).2=0 then{k with now:=(bH k.now n).1,tm:=oM k.tm (bH k.now n).1}else k
def BF (k:K) (p:Int) (m:BV):Int×Int:=eK k.th p m
def rA (k:K) (p:Int) (m:BV):K:=if(eK k.th p m).2=0 then jB {k with th:=kQ k.th p m} (eK k.th p m).1 ((eK k.th p m).1%k.n)else{k with th:=kQ k.th p m}
def sv (g:Int->Option Int) (t:Int):Int->Option Int:=λj=>if j=t then ah else g j
def yO (k:K) (t:Int):K:={k with tm:=kv k.tm t,own:=sv k.own t}
def ub (k:K) (id:Int):K:=jB {k with th:=lG k.th id} id (cS {k with th:=lG k.th id} id).2.2.1
def jh (k:K) (x:Th):Int:=if hs k.ac x.2.2.1 then x.2.2.1 else(fY k.ac).1
def BD (k:K) (id:Int) (x:Th) (n:Int):Int×Int:=
 if(bH k.now n).2=0 then(if(dL k.tm (jh k x) (bH k.now n).1).2=0 then((dL k.tm (jh k x) (bH k.now n).1).1,zf k.th id)else(0,(dL k.tm (jh k x) (bH k.now n).1).2))else(0,(bH k.now n).2)
def ry (k:K) (id:Int) (x:Th) (n:Int):K:=
 if(bH k.now n).2=0 then(if(dL k.tm (jh k x) (bH k.now n).1).2=0 then
  {k with tm:=im k.tm (jh k x) (bH k.now n).1,own:=λj=>if j=(dL k.tm (jh k x) (bH k.now n).1).1 then aa id else k.own j,rq:=fH k.rq id,th:=o7 k.th id (dL k.tm (jh k x) (bH k.now n).1).1}
  else{k with tm:=im k.tm (jh k x) (bH k.now n).1})else k
def qM (k:K) (id:Int) (x:Th):K:=if x.2.2.2.2.1 then{yO k x.2.2.2.2.2 with th:=lY k.th id}else{k with rq:=fH k.rq id,th:=lY k.th id}
abbrev cu:=Int×Int×Int×BV×Int
def qh (k:K) (e:cu):List Rc:=
 let x:=cS k e.2.2.1
 if(dt k.th e.2.2.1).2≠0 then gh (dt k.th e.2.2.1).2
 else if e.1=9 then mI (x.2.2.1,0)
 else if e.1=4 then gh (ye k.th e.2.2.1)
 else if e.1=8 then gh (oa k.th e.2.2.1 e.2.2.2.1)
 else if x.2.2.2.2.1≠decide (e.1=7)then gh 6
 else if e.1=6 then mI (BD k e.2.2.1 x e.2.2.2.2)
 else if e.1=5 then gh (JZ k.rq e.2.2.1)
 else gh 0
def iV (k:K) (e:cu):K:=
 let x:=cS k e.2.2.1
 if(dt k.th e.2.2.1).2≠0 then k
 else if e.1=9 then k
 else if e.1=4 then qM k e.2.2.1 x
 else if e.1=8 then(if oa k.th e.2.2.1 e.2.2.2.1=0 then iz {k with th:=kZ k.th e.2.2.1 e.2.2.2.1} e.2.2.1 else{k with th:=kZ k.th e.2.2.1 e.2.2.2.1})
 else if x.2.2.2.2.1≠decide (e.1=7)then k
 else if e.1=6 then ry k e.2.2.1 x e.2.2.2.2
 else if e.1=5 then{k with rq:=va k.rq e.2.2.1}
 else ub (yO k x.2.2.2.2.2) e.2.2.1
def sh (k:K) (e:cu):Int:=
 if e.1=12 then mf k.ir e.2.2.1 e.2.2.2.1
 else if e.1=13 then eM k.ir e.2.2.1
 else if e.1=14 then pz k.ir e.2.2.1 e.2.2.2.1
 else if e.1=15 then oU k.ir e.2.2.1 ag
 else if e.1=16 then oU k.ir e.2.2.1 ae
 else eM k.ir e.2.2.1
def pU (k:K) (e:cu):K:=
 if e.1=12 then(if mf k.ir e.2.2.1 e.2.2.2.1=0 then iw {k with ir:=mV k.ir e.2.2.1 e.2.2.2.1} e.2.2.1 (e.2.2.1%k.n)else{k with ir:=mV k.ir e.2.2.1 e.2.2.2.1})
 else if e.1=13 then(if eM k.ir e.2.2.1=0 then{k with ir:=se k.ir e.2.2.1,rt:=qZ k.rt e.2.2.1}else{k with ir:=se k.ir e.2.2.1})
 else if e.1=14 then(if pz k.ir e.2.2.1 e.2.2.2.1=0 then gZ {k with ir:=qu k.ir e.2.2.1 e.2.2.2.1} e.2.2.1 else{k with ir:=qu k.ir e.2.2.1 e.2.2.2.1})
 else if e.1=15 then{k with ir:=pR k.ir e.2.2.1 ag}
 else if e.1=16 then{k with ir:=pR k.ir e.2.2.1 ae}
 else{k with ir:=u0 k.ir e.2.2.1}
def zS (k:K) (c n:Int):Int×Int:=if(bH k.now n).2=0 then dL k.tm c (bH k.now n).1 else(0,(bH k.now n).2)
def tj (k:K) (c n:Int):K:=if(bH k.now n).2=0 then{k with tm:=im k.tm c (bH k.now n).1}else k
def ra (k:K) (e:cu):List Rc:=
 if sq k e.2.1≠0 then gh (sq k e.2.1)
 else if e.1=10 then mI (zS k e.2.1 e.2.2.2.2)
 else if e.1=18 then mI (uY k.wk e.2.1)
 else if e.1=20 then mI (vc k.ca e.2.1)
 else if e.1=21 then mI (xy k.st e.2.1)
 else if e.1=22 then gh (ze k.st e.2.1 e.2.2.1)
 else gh (oK k.ga e.2.1)
def jY (k:K) (e:cu):K:=
 if sq k e.2.1≠0 then k
 else if e.1=10 then tj k e.2.1 e.2.2.2.2
 else if e.1=18 then{k with wk:=tR k.wk e.2.1}
 else if e.1=20 then{k with ca:=lD k.ca e.2.1}
 else if e.1=21 then{k with st:=rX k.st e.2.1}
 else if e.1=22 then{k with st:=rv k.st e.2.1 e.2.2.1}
 else{k with ga:=tC k.ga e.2.1}
def Dc (k:K) (id:Int):Int:=if(lH k.tm id).2 then(if 0<(k.own id).getD 0 then 6 else uy k.tm id)else 4
def tu (k:K) (id:Int):K:=if(lH k.tm id).2 then(if 0<(k.own id).getD 0 then k else{k with tm:=kv k.tm id})else k
def AF (k:K) (id:Int):Int×Int:=if id<1∨32<id then(0,2)else if(vi k.wk id).2 then(1,0)else(0,0)
def AS (n:Int):Int:=if n<0∨1073741824<n then 2 else 0
def wq (k:K) (n:Int):K:=if AS n=0 then{k with lim:=n}else k
def Fu (a hi:Int):Int:=if 1<=a/\hi<=100000/\a<=hi then 0 else 2
def fj (k:K):Int:=(mK (cp k.rq) nC (bI (hs k.ac) k.rq.length)).1
def gd (k:K):Int:=(mK (cp k.rq) nG (bI (hs k.ac) k.rq.length)).1
def ov (k:K) (id:Int):Bool:=hs (cS k id).2.1 (gd k)
def tn (k:K):Int:=if cp k.rq (fj k)-cp k.rq (gd k)<2 then 0 else((bT k.rq (fj k)).reverse.find? (ov k)).getD 0
def nu (k:K):K:=if cp k.rq (fj k)-cp k.rq (gd k)<2 then k else
 match(bT k.rq (fj k)).reverse.find? (ov k)with
 | some id=>{k with rq:=jE (fH k.rq id) (gd k) (cS k id).1 id,th:=lx k.th id (gd k) ae}
 | none=>k
def kL (k:K) (up:Bool) (c:Int):Int:=
 if ¬(0<=c/\c<k.n)then 3
 else if dE k.dk then 7
 else if up&&hs k.on c then 8
 else if !up&&!hs k.on c then 9
 else if !up&&decide ((cs k.on).length=1)then 10
 else nv k.dk c (fY (ls k.ac c)).1
def iC (k:K) (up:Bool) (c:Int):K:=
 if ¬(0<=c/\c<k.n)then k
 else if dE k.dk then k
 else if up&&hs k.on c then k
 else if !up&&!hs k.on c then k
 else if !up&&decide ((cs k.on).length=1)then k
 else{k with ga:=uc k.ga,dk:=tp k.dk up c (fY (ls k.ac c)).1}
def rn (k:K) (e:cu):List Rc:=
 if e.1=11 then gh (Dc k e.2.2.1)
 else if e.1=19 then mI (AF k e.2.2.1)
 else if e.1=25 then gh (nN e.2.2.2.2)
 else if e.1=27 then gh (qT k.ga e.2.1)
 else if e.1=28 then gh (AS e.2.2.2.2)
 else if e.1=29 then gh (Fu e.2.2.1 e.2.2.2.2)
 else if e.1=30 then mI (tn k,0)
 else gh 2
def j4 (k:K) (e:cu):K:=
 if e.1=11 then tu k e.2.2.1
 else if e.1=19 then k
 else if e.1=25 then{k with dk:=oY k.dk e.2.2.2.2}
 else if e.1=27 then{k with ga:=tK k.ga e.2.1}
 else if e.1=28 then wq k e.2.2.2.2
 else if e.1=29 then k
 else if e.1=30 then nu k
 else k
def na (k:K) (c:Int):Int×Bool:=match(iQ k.rt c).find? (dG k.ir)with|some n=>(n,ag)|none=>(0,ae)
def dY (k:K) (c:Int):Fl:=
 (hs (b9 k.sp) c,hs k.sp.2 c,dE k.dk&&decide (mO k.dk=c),hs k.ac c,decide (0<(cV k.ca c).length),(na k c).2,lB k.tm c,
  decide (0<(b8 k.wk c).length+(b8 k.wk (-1)).length),decide (0<cp k.rq c))
def fN (k:K) (c:Int):K:=
 let a:K:={k with tm:=gx k.tm c,own:=sv k.own (dM k.tm c).1}
 if 0<(k.own (dM k.tm c).1).getD 0 then ub a ((k.own (dM k.tm c).1).getD 0)else a
def qU (k:K) (c:Int):K:={k with co:=mN k.co c (vL (JM k.now (uT k.tm c).1 (decide ((uT k.tm c).2=0))) k.lim) k.now}
def Kw (k:K) (c a:Int):List Rc:=
 if a=4 then[(6,c,(wJ k.ca c).1,0,0)]
 else if a=5 then[(4,c,(na k c).1,0,0)]
 else if a=6 then[(3,c,(dM k.tm c).1,(k.own (dM k.tm c).1).getD 0,0)]
 else if a=7 then[(5,c,(BJ k.wk c).1,0,0)]
 else[(2,c,(E6 k.rq c).1,0,0)]
def gB (k:K) (c a:Int):K:=
 if a=4 then{k with ca:=kT k.ca c}
 else if a=5 then{k with ir:=mM k.ir (na k c).1}
 else if a=6 then fN k c
 else if a=7 then{k with wk:=qg k.wk c}
 else{k with rq:=o5 k.rq c}
def nU (k:K) (up:Bool) (bZ c:Int):K:=
 if up&&decide (bZ=1)then{k with co:=iK k.co c ae}
 else if !up&&decide (bZ=1)then{k with ac:=wi k.ac c}
 else k
def nz (k:K) (bZ c:Int):K:=
 if bZ=1 then{k with co:=iK k.co c ag}
 else if bZ=2 then{k with st:=jT k.st c}
 else
  let a:K:={k with on:=wi k.on c,ac:=wi k.ac c}
  let k2:=(gT a.th).foldl iz a
  (gP k2.ir).foldl gZ k2
def tH (k:K):Bool:=!(k.sp.1==0)&&iU k.sp
def nD (k:K) (c ax:Int):K:=
 if k.sp.1=0 then{k with sp:=(o6 k.sp (ls (wi k.ac c) ax)).2}
 else if iU k.sp then
  let a:=(iQ k.rt c).foldl (λk n=>iw k n c) k
  {a with sp:=(wI a.sp).2}
 else k
def Ig (k:K) (c:Int):Bool:=(bT k.rq c).isEmpty
def iL (k:K) (c:Int):K:=match bT k.rq c with
 | []=>k
 | a::_=>jB {k with rq:=fH k.rq a} a c
def iO (k:K) (bZ c ax:Int):Bool:=
 if bZ=1 then ag
 else if bZ=2 then Ig k c
 else if bZ=3 then decide ((j8 k.tm c ax).2≠0)
 else if bZ=4 then decide ((pf k.wk c).2≠0)
 else if bZ=5 then decide ((nL k.ca c ax).2≠0)
 else if bZ=6 then tH k
 else ag
def fO (k:K) (bZ c ax:Int):K:=
 if bZ=1 then{k with ac:=ls k.ac c}
 else if bZ=2 then iL k c
 else if bZ=3 then{k with tm:=gV k.tm c ax}
 else if bZ=4 then{k with wk:=mr k.wk c}
 else if bZ=5 then{k with ca:=iA k.ca c ax}
 else if bZ=6 then nD k c ax
 else if bZ=7 then{k with st:=jT k.st c}
 else if bZ=8 then k
 else{k with on:=ls k.on c,co:=iK k.co c ae}
def qf (k:K) (s:Int×Bool×Bool) (c ax:Int):Bool:=
 if s.2.1 then ag else if s.1=0 then decide (oP k.ga=0)else if jS k.dk then ag else iO k s.1 c ax
def fm (k:K) (s:Int×Bool×Bool) (c ax:Int):K:=
 if s.2.1 then nU k (jS k.dk) s.1 c else if s.1=0 then{k with ga:=oQ k.ga}else if jS k.dk then nz k s.1 c else fO k s.1 c ax
def gC (k:K) (ax:Int):K:=
 let a:K:={k with dk:=sk k.dk}
 if(jy k.dk).1.2.2 then a
 else
  let k2:=fm a (jy k.dk).1 (jc k.dk) ax
  if qf a (jy k.dk).1 (jc k.dk) ax then{k2 with dk:=xT k2.dk}else k2
def FM (k:K) (ax:Int):List Rc:=if nA (gC k ax).dk then[(7,jc k.dk,0,0,(Az (gC k ax).dk).1)]else[]
def jH (k:K) (ax:Int):K:=if nA (gC k ax).dk then{gC k ax with dk:=vT (gC k ax).dk,ga:=vY (gC k ax).ga}else gC k ax
def dI (k:K) (c:Int):Int:=tv (bg k.co c).pw (bg k.co c).idle (dY k c)
def BI (k:K) (c:Int):List Rc:=
 if dI k c=0∨dI k c=1∨dI k c=2∨dI k c=9 then[]
 else if dI k c=3 then FM k c
 else Kw k c (dI k c)
def bG (k:K) (c:Int):K:=
 if dI k c=0 then k
 else if dI k c=1 then{k with co:=eY k.co c k.now}
 else if dI k c=2 then{k with sp:=(lC k.sp c).2}
 else if dI k c=3 then jH k c
 else if dI k c=9 then qU k c
 else gB k c (dI k c)
def gw (k:K) (e:cu):List Rc:=
 if e.1=1 then(if e.2.1<0∨k.n<=e.2.1 then gh 3 else BI k e.2.1)
 else if e.1=2 then gh (FF k e.2.2.2.2)
 else if e.1=3 then mI (BF k e.2.2.1 e.2.2.2.1)
 else if 4<=e.1/\e.1<=9 then qh k e
 else if 12<=e.1/\e.1<=17 then gh (sh k e)
 else if e.1=18 then(if e.2.1 = -1 then mI (uY k.wk (-1))else ra k e)
 else if e.1=10∨e.1=20∨e.1=21∨e.1=22∨e.1=26 then ra k e
 else if e.1=23∨e.1=24 then gh (kL k (decide (e.1=23)) e.2.1)
 else rn k e
def cT (k:K) (e:cu):K:=
 if e.1=1 then(if e.2.1<0∨k.n<=e.2.1 then k else bG k e.2.1)
 else if e.1=2 then sJ k e.2.2.2.2
 else if e.1=3 then rA k e.2.2.1 e.2.2.2.1
 else if 4<=e.1/\e.1<=9 then iV k e
 else if 12<=e.1/\e.1<=17 then pU k e
 else if e.1=18 then(if e.2.1 = -1 then{k with wk:=tR k.wk (-1)}else jY k e)
 else if e.1=10∨e.1=20∨e.1=21∨e.1=22∨e.1=26 then jY k e
 else if e.1=23∨e.1=24 then iC k (decide (e.1=23)) e.2.1
 else j4 k e
def dF (n:Nat):K:=
 {n:=n,on:=br n,ac:=br n,now:=0,lim:=1073741824,own:=λ_=>ah,th:=(n,aD 32 ah),rq:=aD n (32,[]),
  tm:=⟨0,n,aD 48 ah⟩,ir:=(n,aD 16 i0),rt:=(n,aD 16 (-1)),wk:=gQ n,ca:=lu n,st:=ma n 12,
  ga:=(aD n 0,0),sp:=(0,0),dk:=(ah,λ_=>ae),co:=aD n ⟨ag,ae,0,0⟩}
section
structure CI (x:CS):Prop where
 len:x.1.length=32
 one:∀v,ct x.2 v<=1
 has:∀v,cQ x.1 v=decide (0<ct x.2 v)
section
variable {x:CS} {i:Nat}
theorem CI.row (h:CI x) (hi:i<x.2.length):x.2[i].Nodup/\x.2[i].length<=32:=by
 have a:=Dj h.one hi;refine⟨a,sb a λv c=>?_⟩;have:cQ x.1 v=ag:=by rw[h.has,decide_eq_true (lW hi c)]
 have:=sf this;rw[h.len]at this;exact this
theorem CI.push (h:CI x) (hi:i<x.2.length) {v:Int} (g:1<=v/\v<=32) (n:ct x.2 v=0):iT (df x.2[i]) v=0/\lz (df x.2[i]) v=df (x.2[i]++[v]):=by
 have c:v∉x.2[i]:=λj=>by have:=lW hi j;omega
 obtain⟨k,_⟩:=h.row hi
 have l:(x.2[i]++[v]).length<=32:=by
  refine sb ?_ ?_
  ·rw[jO];exact⟨k,by simp,λa m b f e=>by simp at f;subst f;subst e;exact c m⟩
  ·intro u d;rw[eG]at d;rcases d with d|d
   ·have:cQ x.1 u=ag:=by rw[h.has,decide_eq_true (lW hi d)]
    have:=sf this;rw[h.len]at this;exact this
   ·simp at d;subst d;exact g
 have e:iT (df x.2[i]) v=0:=by
  unfold iT df;simp only;rw[af c,af];simp at l;omega
 exact⟨e,by rw[lz,aj e];rfl⟩
theorem CI.aeb (h:CI x) {au:Int} {j:Nat} (a:bK x au) (d:eL x.1=((j:Int)+1,0)) (e:j<32) (c:cQ x.1 ((j:Int)+1)=ae) :
  vc x au=((j:Int)+1,0)/\(lD x au).1=jk x.1/\(lD x au).2=x.2.set au.toNat (bA x au++[(j:Int)+1]):=by
 obtain⟨i,hi,rfl⟩:=qQ a;rw[h.has]at c;obtain⟨p1,p2⟩:=h.push hi (v:=(j:Int)+1) (by omega) (by simpa using c);unfold vc lD;rw[aj a,aj a,d];simp only[if_true];rw[rj hi,p1,p2];exact⟨by first|rfl|trivial,by first|rfl|trivial,by first|rfl|trivial⟩
theorem CI.send (h:CI x) (au:Int):CI (lD x au)/\(lD x au).2.length=x.2.length:=by
 by_cases c:bK x au
 ·rcases FB x.1 with⟨j,n,d,k2,l⟩|⟨d,k2⟩
  ·obtain⟨_,m,f⟩:=h.aeb c d (by have:=h.len;omega) l;obtain⟨i,hi,rfl⟩:=qQ c;rw[rj hi,bQ]at f;have g:=l;rw[h.has]at g;have g:ct x.2 ((j:Int)+1)=0:=by simpa using g
   have a:∀v,ct (lD x (i:Int)).2 v=ct x.2 v+if(j:Int)+1=v then 1 else 0:=λv=>by
    rw[f];have:=pP hi (x.2[i]++[(j:Int)+1]) v;rw[ni,uo]at this;simp only[beq_iff_eq]at this;omega
   refine⟨⟨by rw[m,k2];simpa using h.len,λv=>?_,λv=>?_⟩,by rw[f];simp⟩
   ·rw[a];have:=h.one v;split
    ·rename_i e;subst e;omega
    ·omega
   ·rw[m,k2,IG n,a];by_cases k:v=(j:Int)+1
    ·subst k;simp
    ·rw[af k,h.has,af (λe=>k e.symm)];rfl
  ·have e:lD x au=x:=by unfold lD;rw[aj c,d,af (by simp),k2]
   rw[e];exact⟨h,rfl⟩
 ·rw[lD,af c];exact⟨h,rfl⟩
theorem CI.Uh (h:CI x) (au:Int):wJ x au=(if bK x au then cP (df (bA x au))else(0,3))/\(kT x au).2=(if bK x au then x.2.set au.toNat (bA x au).tail else x.2)/\CI (kT x au)/\(kT x au).2.length=x.2.length:=by
 unfold wJ kT;by_cases c:bK x au
 ·obtain⟨i,hi,rfl⟩:=qQ c;rw[aj c,aj c,aj c,aj c,rj hi];have k:=h.row hi;rw[bQ]
  cases g:x.2[i]with
  | nil=>
   have l:x.2.set i []=x.2:=by rw[<-g,ob]
   have f0:cP (df [])=(0,12):=rfl;simp only[f0,List.tail_nil,l];simp
   exact h
  | cons a t=>
   have m:cQ x.1 a=ag:=by rw[h.has,decide_eq_true (lW hi (by rw[g];simp))]
   obtain⟨g1,n⟩:=PK m;simp only[cP,df,List.tail_cons,ite_true,g1]
   have d:∀v,ct (x.2.set i t) v+(if a=v then 1 else 0)=ct x.2 v:=λv=>by
    have:=pP hi t v;rw[g,List.count_cons]at this;simp only[beq_iff_eq]at this;omega
   refine⟨by first|rfl|trivial,by first|rfl|trivial,⟨by rw[PL];exact h.len,λv=>?_,λv=>?_⟩,by simp⟩
   ·have:=d v;have:=h.one v;simp only;omega
   ·rw[n,h.has];have f:=d v;have o:=h.one v;by_cases j:v=a
    ·subst j;rw[aj rfl]at f;have:ct (x.2.set i t) v=0:=by omega
     simp[this]
    ·rw[af (λe=>j e.symm)]at f;rw[pF]at f;rw[decide_eq_true (show v≠a from j),lR];simp only[f]
 ·rw[af c,af c,af c,af c];exact⟨rfl,rfl,h,rfl⟩
theorem CI.Sk (h:CI x) (f t:Int):nL x f t=(if bK x f/\bK x t then(if f=t then(0,2)else cP (df (bA x f)))else(0,3))/\
  (iA x f t).2=(if bK x f/\bK x t then(if f=t then x.2 else if(cP (df (bA x f))).2=0 then(iR x f).2.set t.toNat (bA (iR x f) t++[(cP (df (bA x f))).1])else(iR x f).2)else x.2)/\CI (iA x f t)/\(iA x f t).2.length=x.2.length:=by
 unfold nL iA;by_cases r:bK x f/\bK x t
 ·by_cases n:f=t
  ·simp only[aj r,aj n];exact⟨trivial,trivial,h,trivial⟩
  ·simp only[aj r,af n];obtain⟨D,E⟩:=r;obtain⟨i,hi,rfl⟩:=qQ D;obtain⟨k,s,rfl⟩:=qQ E;unfold iR;rw[rj hi,bQ,bQ]
   cases w:x.2[i]with
   | nil=>
    have F:x.2.set i []=x.2:=by rw[<-w,ob]
    have f0:cP (df [])=(0,12):=rfl;simp only[f0,List.tail_nil,F];simp
    exact h
   | cons a l=>
    have A:cQ x.1 a=ag:=by rw[h.has,decide_eq_true (lW hi (by rw[w];simp))]
    have o:=sf A;rw[h.len]at o;have I:ct x.2 a=1:=by have:=h.one a;have:=h.has a;rw[A]at this;have:=aL this.symm;omega
    simp only[cP,df,List.tail_cons,ite_true]
    have p:∀v,ct (x.2.set i l) v+(if a=v then 1 else 0)=ct x.2 v:=λv=>by
     have:=pP hi l v;rw[w,List.count_cons]at this;simp only[beq_iff_eq]at this;omega
    have c:k<(x.2.set i l).length:=by simpa using s
    have er:bA (x.1,x.2.set i l) (k:Int)=(x.2.set i l)[k]:=rj (x:=(x.1,x.2.set i l)) c;rw[er];have y:i≠k:=λe=>n (by rw[e]);have g:(x.2.set i l)[k]=x.2[k]:=rQ y c
    have j:a∉x.2[k]:=λG=>by
     have J:=lW c (v:=a) (by rw[g];exact G);have:=p a;rw[aj rfl]at this;omega
    have z:=h.row s
    have q:(x.2[k]++[a]).length<=32:=by
     refine sb ?_ ?_
     ·rw[jO];exact⟨z.1,by simp,λu d b B e=>by simp at B;subst B;subst e;exact j d⟩
     ·intro u d;rw[eG]at d;rcases d with d|d
      ·have:cQ x.1 u=ag:=by rw[h.has,decide_eq_true (lW s d)]
       have:=sf this;rw[h.len]at this;exact this
      ·simp at d;subst d;exact o
    have C:iT (32,(x.2.set i l)[k]) a=0:=by
     unfold iT;simp only[g];rw[af j,af];simp at q;omega
    have H:(lz (32,(x.2.set i l)[k]) a).2=(x.2.set i l)[k]++[a]:=by rw[lz,aj C]
    rw[C,H]
    have m:∀v,ct ((x.2.set i l).set k ((x.2.set i l)[k]++[a])) v=ct x.2 v:=λv=>by
     have:=pP c ((x.2.set i l)[k]++[a]) v;rw[ni,uo]at this;simp only[beq_iff_eq]at this;have:=p v;omega
    refine⟨by first|rfl|trivial,by first|rfl|trivial,⟨h.len,λv=>?_,λv=>?_⟩,by simp⟩
    ·show ct ((x.2.set i l).set k ((x.2.set i l)[k]++[a])) v<=1;rw[m];exact h.one v
    ·show cQ x.1 v=decide (0<ct ((x.2.set i l).set k ((x.2.set i l)[k]++[a])) v);rw[m];exact h.has v
 ·simp only[af r];exact⟨trivial,trivial,h,trivial⟩
theorem CI.new {n:Int}:CI (lu n):=by
 refine⟨by simp[lu],λv=>by rw[lu,vO];omega,λv=>?_⟩;rw[lu,vO]
 have a:∀k,(aD 32 ae).getD k ae=ae:=λk=>by
  rw[aO,jt];split<;>rfl
 unfold cQ;rw[a];simp
end
section
variable {b:Nat} {x:CS}
end
end
section
theorem S0 {pg:List Nat} {i k x:Nat} {v:Bool} (hi:i<pg.length) (m:k<8) (n:vD x=(vD pg[i]).set k v) (u:Int):fQ (pg.set i x) u=if u=((8*i+k+1:Nat):Int)then v else fQ pg u:=by
 have o:∀j,j<8->x.testBit j=if j=k then v else pg[i].testBit j:=by
  intro j p;have:=congrArg (λl=>l[j]?) n;simp only[vD,fy,List.getElem?_range p,gK,cJ,bW,List.length_range,m,ite_true]at this;by_cases a:k=j
  ·subst a;simpa using this
  ·rw[af a]at this;rw[af (λe=>a e.symm)];simpa using this
 by_cases hu:l6 pg u
 ·obtain⟨q,k',d,c,rfl⟩:=DZ hu;rw[wB (by simpa using d) c,wB d c];by_cases f:i=q
  ·subst f;rw[qA,o k' c];by_cases g:k'=k
   ·subst g;simp
   ·rw[af g,af (by omega)]
  ·rw[rQ f,af (by omega)]
 ·have h:¬l6 (pg.set i x) u:=by unfold l6 at hu⊢;rw[bN];exact hu
  rw[fQ,af h,fQ,af hu,af];rintro rfl;exact hu (by unfold l6;omega)
theorem aco {pg:List Nat} {v:Int} (h:fQ pg v=ag):l6 pg v:=by
 unfold fQ at h;split at h
 ·assumption
 ·cases h
theorem Za {pg:List Nat} (c:nf pg) (v:Int):nf (oL pg v)/\∀u,fQ (oL pg v) u=(fQ pg u&&decide (u≠v)):=by
 by_cases h:fQ pg v=ag
 ·obtain⟨i,k,hi,a,rfl⟩:=DZ (aco h);have o:=Bb _ (c.at hi) k a;rw[PM hi a,aj (by rw[<-wB hi a];exact h)];refine⟨c.set i o.2.2.2.2.1,λu=>?_⟩;rw[S0 hi a o.2.2.2.2.2.2];by_cases hu:u=((8*i+k+1:Nat):Int)
  ·rw[aj hu];simp[hu]
  ·rw[af hu,decide_eq_true (show u≠_ from hu),lR]
 ·rw[oL,af h];refine⟨c,λu=>?_⟩;by_cases hu:u=v
  ·subst hu;simp[h]
  ·simp[hu]
theorem agw {pg:List Nat} (e:nf pg) (h:(iE pg).2=0):nf (mn pg)/\fQ pg (iE pg).1=ae/\(∀u,fQ (mn pg) u=(fQ pg u||decide (u=(iE pg).1))):=by
 unfold iE at h
 cases a:tY pg with
 | none=>rw[a]at h;simp at h
 | some i=>
  obtain⟨hi,c⟩:=Ui a;have f:=e.at hi;obtain⟨m,n,p,l⟩:=SP _ f;obtain⟨d,k2,q⟩:=l c;have o:=Bb _ f _ d;have g:pg.getD i 0=pg[i]:=by simp[hi]
  have j:(iE pg).1=((8*i+z8 pg[i]+1:Nat):Int):=by simp only[iE,a,g]
  have k:mn pg=pg.set i (AI pg[i] (z8 pg[i])):=by simp only[mn,a,g]
  refine⟨by rw[k];exact e.set i o.2.2.2.1,by rw[j,wB hi d,k2],λu=>?_⟩;rw[j,k,S0 hi d o.2.2.2.2.2.1];by_cases hu:u=((8*i+z8 pg[i]+1:Nat):Int)
  ·rw[aj hu];simp[hu]
  ·rw[af hu,decide_eq_false hu,pD]
theorem agt {pg:List Nat} (h:(iE pg).2≠0):mn pg=pg:=by
 unfold iE at h;unfold mn
 cases a:tY pg with
 | none=>rfl
 | some i=>rw[a]at h;simp at h
theorem Zd {pg:List Nat} (a:nf pg) (m:List Int):nf (gives pg m)/\∀u,fQ (gives pg m) u=(fQ pg u&&decide (u∉m)):=by
 induction m generalizing pg with
 | nil=>exact⟨a,λu=>by simp[gives]⟩
 | cons v m c=>
  obtain⟨d,e⟩:=Za a v;obtain⟨f,g⟩:=c d;refine⟨f,λu=>?_⟩;have:fQ (gives pg (v::m)) u=fQ (gives (oL pg v) m) u:=rfl;rw[this,g,e,Bool.and_assoc];congr 1;by_cases hu:u=v<;>simp[hu]
def cn (L:List (List Int)) (v:Int):Nat:=L.flatten.count v
theorem Df {L:List (List Int)} {i:Nat} (hi:i<L.length) (l':List Int) (v:Int):cn (L.set i l') v+L[i].count v=cn L v+l'.count v:=by
 unfold cn
 induction L generalizing i with
 | nil=>simp at hi
 | cons l L a=>
  cases i with
  | zero=>simp only[qD,List.flatten_cons,ni,vC];omega
  | succ i=>
   have:=a (i:=i) (by simpa using hi);simp only[qE,List.flatten_cons,ni,te];omega
theorem Og (L:List (List Int)) (v:Int):tJ L v=decide (0<cn L v):=by
 unfold tJ cn;rw[ig,mF,decide_eq_true_eq,qB,List.mem_flatten];simp
structure KI (x:KS):Prop where
 pg:nf x.1
 one:∀v,cn x.2 v<=1
 out:∀v,0<cn x.2 v->fQ x.1 v=ag
 le:∀l∈x.2,l.length<=4
section
variable {x:KS} {i:Nat}
theorem KI.tk (h:KI x) (hi:i<x.2.length) (l:x.2[i].length<=3):KI ((j7 (x.1,x.2[i])).1,x.2.set i (j7 (x.1,x.2[i])).2):=by
 unfold j7;split
 ·rename_i a;simp only at a⊢;obtain⟨f,g,j⟩:=agw h.pg a
  have c:∀v,cn (x.2.set i (x.2[i]++[(iE x.1).1])) v=cn x.2 v+if(iE x.1).1=v then 1 else 0:=by
   intro v;have:=Df hi (x.2[i]++[(iE x.1).1]) v;rw[ni,uo]at this;simp only[beq_iff_eq]at this;omega
  have m:cn x.2 (iE x.1).1=0:=by
   apply eV;intro k;have:=h.out (iE x.1).1 (by omega);rw[g]at this;cases this
  refine⟨f,λv=>?_,λv d=>?_,ve h.le i (by simp;omega)⟩
  ·rw[c];split
   ·rename_i e;subst e;omega
   ·have:=h.one v;omega
  ·rw[c]at d;rw[j];split at d
   ·rename_i e;simp[e]
   ·rw[h.out v (by omega)];rfl
 ·rename_i a;simp only[ob];rw[agt a];exact h
theorem KI.fill (h:KI x) (hi:i<x.2.length):KI ((nB (x.1,x.2[i])).1,x.2.set i (nB (x.1,x.2[i])).2):=by
 unfold nB;split
 ·rename_i he;simp only at he;have d:=h.tk hi (by rw[he];simp);have a:(j7 (x.1,x.2[i])).2.length<=3:=by unfold j7;split<;>simp[he]
  have c:=d.tk (i:=i) (by simpa using hi) (by simp only[qA];exact a);simp only[qA,rN]at c;exact c
 ·simp only[ob];exact h
theorem KI.less (h:KI x) (hi:i<x.2.length) {l':List Int} (hs:l'.Sublist x.2[i]):KI (x.1,x.2.set i l'):=by
 have a:∀v,cn (x.2.set i l') v<=cn x.2 v:=λv=>by
  have d:=Df hi l' v;have:=hs.count_le v;omega
 exact⟨h.pg,λv=>aW (a v) (h.one v),λv c=>h.out v (jM c (a v)),ve h.le i (aW hs.length_le (h.le _ (cx hi)))⟩
theorem KI.alloc (h:KI x) (au:Int):KI (rX x au):=by
 unfold rX;split
 ·rename_i c;obtain⟨i,hi,rfl⟩:=uM c;rw[u5 hi];have d:=h.fill hi;have a:=d.less (i:=i) (by simpa using hi) (l':=(nB (x.1,x.2[i])).2.dropLast) (by simp only[qA];exact List.dropLast_sublist _);simp only[rN]at a;exact a
 ·exact h
theorem KI.back (h:KI x) (hi:i<x.2.length) (k:Nat):KI (gives x.1 (x.2[i].take k),x.2.set i (x.2[i].drop k))/\∀v,lZ (gives x.1 (x.2[i].take k),x.2.set i (x.2[i].drop k)) v=lZ x v:=by
 obtain⟨l,e⟩:=Zd h.pg (x.2[i].take k)
 have c:∀v,cn (x.2.set i (x.2[i].drop k)) v+(x.2[i].take k).count v=cn x.2 v:=λv=>by
  have f:=Df hi (x.2[i].drop k) v;have g:x.2[i].count v=(x.2[i].take k).count v+(x.2[i].drop k).count v:=by rw[<-ni,List.take_append_drop]
  omega
 refine⟨⟨l,λv=>by show cn (x.2.set i (x.2[i].drop k)) v<=1;have:=c v;have:=h.one v;omega,λv j=>?_,ve h.le i (by have:=h.le _ (cx hi);simp;omega)⟩,λv=>?_⟩
 ·have f:=c v;have g:=h.one v;have:v∉x.2[i].take k:=λa=>by have:=qB.2 a;simp only at j;omega
  rw[e,h.out v (by simp only at j;omega)];simp[this]
 ·unfold lZ;simp only[Og,e];have f:=c v;have g:=h.one v;by_cases a:v∈x.2[i].take k
  ·have:=qB.2 a;have d:0<cn x.2 v:=by omega
   simp[a,d]
  ·have:(x.2[i].take k).count v=0:=List.count_eq_zero.2 a;have d:cn (x.2.set i (x.2[i].drop k)) v=cn x.2 v:=by omega
   simp[a,d]
theorem KI.Y7 (h:KI x) (au v:Int):KI (rv x au v):=by
 unfold rv;split
 ·rename_i a;obtain⟨i,hi,rfl⟩:=uM a.1;rw[u5 hi]
  have g:KI ((ou (x.1,x.2[i])).1,x.2.set i (ou (x.1,x.2[i])).2)/\(∀u,lZ ((ou (x.1,x.2[i])).1,x.2.set i (ou (x.1,x.2[i])).2) u=lZ x u)/\(ou (x.1,x.2[i])).2.length<=3:=by
   have:=h.le _ (cx hi);unfold ou;split
   ·exact⟨(h.back hi 2).1,(h.back hi 2).2,by simp;omega⟩
   ·simp only[ob];rename_i c;simp only at c;exact⟨h,λ_=>trivial,by omega⟩
  generalize ou (x.1,x.2[i])=s at g;obtain⟨d,j,k⟩:=g;have c:lZ (s.1,x.2.set i s.2) v=ag:=by rw[j];exact a.2
  unfold lZ at c;simp only[Og,aY,ja,decide_eq_false_iff_not]at c
  have a:∀u,cn (x.2.set i (s.2++[v])) u=cn (x.2.set i s.2) u+if v=u then 1 else 0:=by
   intro u;have:=Df (L:=x.2.set i s.2) (i:=i) (by simpa using hi) (s.2++[v]) u;rw[rN,qA,ni,uo]at this;simp only[beq_iff_eq]at this;omega
  refine⟨d.pg,λu=>?_,λu f=>?_,ve h.le i (by simp;omega)⟩
  ·simp only[bQ];rw[a];have:=d.one u;simp only at this;split
   ·rename_i e;subst e;omega
   ·omega
  ·simp only[bQ]at f;rw[a]at f;split at f
   ·rename_i e;subst e;exact c.1
   ·exact d.out u (by omega)
 ·exact h
theorem KI.drain (h:KI x) (au:Int):KI (jT x au)/\∀v,lZ (jT x au) v=lZ x v:=by
 unfold jT;split
 ·rename_i a;obtain⟨i,hi,rfl⟩:=uM a;rw[u5 hi];have:=h.back hi x.2[i].length;rw[dC,List.drop_length]at this;exact this
 ·exact⟨h,λ_=>rfl⟩
theorem KI.new {m n:Int} (h:uV m n):KI (ma m n):=by
 unfold uV at h
 have a:∀v,cn (ma m n).2 v=0:=λv=>by
  unfold cn ma;rw[List.count_flatten];simp
 refine⟨⟨by simp[ma];omega,λy c=>?_⟩,λv=>by rw[a];omega,λv d=>by rw[a]at d;omega,λl e=>?_⟩
 ·have:=k8 c;omega
 ·have:=k8 e;subst this;simp
end
end
structure dg (n:Nat) (x:RS):Prop where
 len:x.length=n
 one:∀k i j,cf x i k=ag->cf x j k=ag->i=j
 v:∀q∈x,gH q/\q.1=32
theorem dg.at {n:Nat} {x:RS} (h:dg n x) {i:Nat} (hi:i<x.length):gH x[i]/\x[i].1=32:=h.v _ (cx hi)
theorem dg.uniq {n:Nat} {x:RS} (h:dg n x) {k:Int} {i j:Nat} (a:cf x i k=ag) (b:cf x j k=ag):i=j:=h.one k i j a b
theorem gH.drop {q:Nat×bL} (h:gH q) (k:Int):gH (fG q k) where
 one:=(List.Sublist.map _ List.filter_sublist).nodup h.one
 iD:=λe a=>h.iD e ((ij.1 a).1)
 room:=aW (jN ..) h.room
 kH:=h.kH
theorem gH.push {q:Nat×bL} (h:gH q) {p k:Int} (g:iB q p k=0):gH (jA q p k):=by
 have f:=acY g;have c:=g;unfold iB at c;unfold jA;rw[aj g];split at c
 ·omega
 ·split at c
  ·omega
  ·split at c
   ·omega
   ·refine⟨?_,?_,?_,h.kH⟩
    ·simp only[eI,np,List.map_nil];refine jO.2 ⟨h.one,by simp,λa j b i=>?_⟩;simp only[gJ]at i;rintro rfl;subst i;rw[show cX q a=ag from List.contains_iff_mem.2 j]at f;cases f
    ·intro e d;rcases eG.1 d with d|d
     ·exact h.iD e d
     ·simp only[gJ]at d;subst d;simp only;omega
    ·simp only[cG,rW];omega
section
variable {n:Nat} {x:RS}
theorem Jo (h:dg n x) (k:Int) (i:Nat) (j:Int):cf (fH x k) i j=(cf x i j&&decide (j≠k)):=by
 unfold fH;rcases sN x k with⟨c,d⟩|⟨i0,a,c,d⟩
 ·rw[c];simp only[fD,if_false];by_cases b:j=k
  ·subst b;rw[d];simp
  ·simp[b]
 ·rw[c];simp only[if_true,bQ];rw[uQ a];by_cases hi:i=i0
  ·subst hi;rw[aj rfl,Qe,jD a,l8 a]
  ·rw[af hi];by_cases b:j=k
   ·subst b
    have:cf x i j=ae:=by
     cases hm:cf x i j with
     | false=>rfl
     | true=>exact absurd (h.uniq hm d) hi
    rw[this];simp
   ·simp[b]
theorem dg.take (h:dg n x) (k:Int):dg n (fH x k):=by
 refine⟨?_,λj i e a c=>?_,?_⟩
 ·unfold fH;split<;>simp[h.len]
 ·rw[Jo h]at a c;simp only[aY]at a c;exact h.uniq a.1 c.1
 ·unfold fH;rcases sN x k with⟨a,c⟩|⟨i0,b,a,c⟩
  ·rw[a];simp only[fD,if_false];exact h.v
  ·rw[a];simp only[if_true,bQ];intro q d;rcases i7 d with d|rfl
   ·exact h.v q d
   ·rw[jD b];exact⟨(h.at b).1.drop k,(h.at b).2⟩
theorem Sb {c p k:Int} (d:qc x c p k=0) (i:Nat) (j:Int):cf (jE x c p k) i j=(cf x i j||(decide (i=c.toNat)&&decide (j=k))):=by
 have b:=d;unfold jE;rw[aj d];unfold qc at b;split at b
 ·rename_i e;obtain⟨i0,a,rfl⟩:=oW e;split at b
  ·omega
  ·simp only[bQ];rw[uQ a,jD a];rw[jD a]at b;by_cases hi:i=i0
   ·subst hi;rw[aj rfl,Qf b,l8 a];simp
   ·rw[af hi];simp[hi]
 ·omega
theorem dg.put (h:dg n x) {c p k:Int} (m:qc x c p k=0):dg n (jE x c p k):=by
 have f:=m;unfold qc at f;split at f
 ·rename_i o;split at f
  ·omega
  ·rename_i hw
   have g:∀i,cf x i k=ae:=by
    rcases sN x k with⟨b,a⟩|⟨i0,d,b,a⟩
    ·exact a
    ·rw[b]at hw;exact absurd rfl hw
   refine⟨by rw[ac2];exact h.len,λj i r b a=>?_,?_⟩
   ·rw[Sb m]at b a;simp only[eT,aY,decide_eq_true_eq]at b a;rcases b with b|⟨b,e⟩
    ·rcases a with a|⟨a,e⟩
     ·exact h.uniq b a
     ·subst e;rw[g]at b;cases b
    ·rcases a with a|⟨a,s⟩
     ·subst e;rw[g]at a;cases a
     ·omega
   ·unfold jE;rw[aj m];intro q l;obtain⟨i0,d,rfl⟩:=oW o;rw[jD d]at f l;rcases i7 l with l|rfl
    ·exact h.v q l
    ·exact⟨(h.at d).1.push f,by rw[Sj];exact(h.at d).2⟩
 ·omega
theorem ac3 (h:dg n x) (g:∀i j,cf x i j=ag->1<=j/\j<=32) {c p k:Int} (o:0<=c/\c<n) (w:0<=p/\p<8) (y:1<=k/\k<=32) (d:∀i,cf x i k=ae):qc x c p k=0:=by
 have e:dZ x c:=⟨o.1,by rw[h.len];exact o.2⟩;obtain⟨i0,a,rfl⟩:=oW e;unfold qc;rw[aj e]
 have s:(j9 x k).2=ae:=by
  rcases sN x k with⟨t,_⟩|⟨i,_,_,q⟩
  ·rw[t]
  ·rw[d]at q;cases q
 rw[s,jD a];simp only[fD,if_false];have b:cX x[i0] k=ae:=by rw[<-l8 a];exact d i0
 unfold iB;rw[af (by omega),b];simp only[fD,if_false];have r:=h.at a
 have f:(k::x[i0].2.map (·.2)).length<=32:=by
  refine sb (m:=32) (mG.2 ⟨λu=>?_,r.1.one⟩) ?_
  ·rw[show cX x[i0] k=ag from List.contains_iff_mem.2 u]at b;cases b
  ·intro v l;rcases ez.1 l with rfl|l
   ·omega
   ·exact g i0 v (by rw[l8 a];exact List.contains_iff_mem.2 l)
 rw[r.2,af (by simp at f;omega)]
theorem R9 (h:dg n x) (k:Int) (i:Nat) (j:Int):cf (va x k) i j=cf x i j:=by
 unfold va;rcases sN x k with⟨b,c⟩|⟨i0,a,b,c⟩
 ·rw[b];rfl
 ·rw[b];simp only[if_true,bQ];rw[uQ a,jD a];split
  ·rename_i e;subst e;rw[DY,l8 a]
  ·rfl
theorem Sa (x:RS) (c:Int) (i:Nat) (j:Int):cf (o5 x c) i j=cf x i j:=by
 unfold o5;split
 ·rename_i b;obtain⟨i0,a,rfl⟩:=oW b;simp only[bQ];rw[uQ a,jD a];split
  ·rename_i e;subst e;rw[IM,l8 a]
  ·rfl
 ·rfl
theorem yD (h:dg n x) {c k:Int}:k∈bT x c↔0<=c/\cf x c.toNat k=ag:=by
 unfold bT;by_cases b:dZ x c
 ·rw[aj b];obtain⟨i0,a,rfl⟩:=oW b;rw[jD a,ZM (h.at a).1,bQ,l8 a];exact⟨λh=>⟨by omega,h⟩,λh=>h.2⟩
 ·rw[af b];constructor
  ·intro h;cases h
  ·intro d;have:=wu d.2;have:=d.1;exact absurd (show dZ x c from⟨d.1,by omega⟩) b
theorem Jj (h:dg n x) (c:Int):(bT x c).Nodup:=by
 unfold bT;split
 ·rename_i j;obtain⟨i0,d,rfl⟩:=oW j;rw[jD d];have i:=(h.at d).1;unfold pV;refine List.pairwise_flatMap.2 ⟨λa _=>Jn i.one a.val,?_⟩;have k:L8.reverse.Nodup:=by decide
  refine k.imp ?_;intro a b f u l v m g;subst g;have e:=A7 i.one (tN.1 l) (tN.1 m) rfl;simp only[Prod.mk.injEq,and_true]at e;exact f (Fin.ext (by omega))
 ·exact ju
end
theorem TJ {S:TL} {i:Nat} (hi:i<S.length) (v:Option Th) (id:Int):aR (S.set i v) id=if id=(i:Int)+1 then v else aR S id:=by
 unfold aR;by_cases h1:1<=id
 ·rw[aj h1,aj h1];by_cases a:id=(i:Int)+1
  ·subst a;have b:((i:Int)+1).toNat-1=i:=by omega
   rw[aj rfl,b];simp[aO,hi]
  ·rw[af a];have:i≠id.toNat-1:=by omega
   simp[aO,this]
 ·rw[af h1,af h1,af (by omega)]
theorem mX {S:TL} {id:Int} {t:Th} (h:aR S id=aa t):1<=id/\id<=S.length:=by
 unfold aR at h;split at h
 ·rename_i h1;refine⟨h1,?_⟩
  have:id.toNat-1<S.length:=by
   apply eV;intro a;rw[aO,fV (by omega)]at h;cases h
  omega
 ·cases h
theorem Bz {S:TL} {id:Int} {t:Th} (h:aR S id=aa t) (v:Option Th) (j:Int):aR (S.set (id.toNat-1) v) j=if j=id then v else aR S j:=by
 have:=mX h;rw[TJ (by omega)];have e:((id.toNat-1:Nat):Int)+1=id:=by omega
 rw[e]
theorem Fb (n:Nat) (id:Int):aR (aD n ah) id=ah:=by
 unfold aR;split
 ·rw[aO];by_cases h:id.toNat-1<n
  ·simp[h]
  ·rw[fV (by simpa using h)];rfl
 ·rfl
section
variable {x:TX} {id c:Int}
theorem Yp {t:Th} (h:aR x.2 id=aa t) (j:Int):aR (lY x id).2 j=if j=id then ah else aR x.2 j:=by
 unfold lY;rw[h];exact Bz h ah j
theorem Vm {t:Th} {m:BV} (h:aR x.2 id=aa t) (a:mW x.1 m=ag) (j:Int):aR (kZ x id m).2 j=if j=id then aa (t.1,m,t.2.2)else aR x.2 j:=by
 unfold kZ;rw[h];simp only[a,if_true];exact Bz h _ j
theorem acD {t:Th} {f:Bool} (h:aR x.2 id=aa t) (a:0<=c/\c<x.1) (j:Int):aR (lx x id c f).2 j=if j=id then aa (t.1,t.2.1,c,f,t.2.2.2.2)else aR x.2 j:=by
 unfold lx;rw[h];simp only[aj a];exact Bz h _ j
theorem aeu {t:Th} {n:Int} (h:aR x.2 id=aa t) (hs:t.2.2.2.2.1=ae) (j:Int):aR (o7 x id n).2 j=if j=id then aa (t.1,t.2.1,t.2.2.1,t.2.2.2.1,ag,n)else aR x.2 j:=by
 unfold o7;rw[h];simp only[hs];exact Bz h _ j
theorem alP {t:Th} (h:aR x.2 id=aa t) (hs:t.2.2.2.2.1=ag) (j:Int):aR (lG x id).2 j=if j=id then aa (t.1,t.2.1,t.2.2.1,t.2.2.2.1,ae,0)else aR x.2 j:=by
 unfold lG;rw[h];simp only[hs,if_true];exact Bz h _ j
theorem Ph (x:TX) (id:Int):(lY x id).1=x.1:=by unfold lY;split<;>rfl
theorem Gq (x:TX) (id:Int) (m:BV):(kZ x id m).1=x.1:=by unfold kZ;(repeat' split)<;>rfl
theorem JG (x:TX) (id c:Int) (f:Bool):(lx x id c f).1=x.1:=by unfold lx;(repeat' split)<;>rfl
theorem aev (x:TX) (id c:Int):(o7 x id c).1=x.1:=by unfold o7;(repeat' split)<;>rfl
theorem UO (x:TX) (id:Int):(lG x id).1=x.1:=by unfold lG;(repeat' split)<;>rfl
theorem Ki (x:TX) (p:Int) (m:BV):(kQ x p m).1=x.1:=by unfold kQ;split<;>rfl
theorem Pj (x:TX) (id:Int):(lY x id).2.length=x.2.length:=by unfold lY;split<;>simp
theorem Gr (x:TX) (id:Int) (m:BV):(kZ x id m).2.length=x.2.length:=by unfold kZ;(repeat' split)<;>simp
theorem JH (x:TX) (id c:Int) (f:Bool):(lx x id c f).2.length=x.2.length:=by unfold lx;(repeat' split)<;>simp
theorem aew (x:TX) (id c:Int):(o7 x id c).2.length=x.2.length:=by unfold o7;(repeat' split)<;>simp
theorem UP (x:TX) (id:Int):(lG x id).2.length=x.2.length:=by unfold lG;(repeat' split)<;>simp
theorem Kj (x:TX) (p:Int) (m:BV):(kQ x p m).2.length=x.2.length:=by unfold kQ;split<;>simp
theorem aeC {p:Int} {m:BV} (h:(eK x p m).2=0):qe x p m/\(1<=(eK x p m).1/\(eK x p m).1<=x.2.length)/\aR x.2 (eK x p m).1=ah/\∀j,aR (kQ x p m).2 j=if j=(eK x p m).1 then aa (p,m,0,ae,ae,0)else aR x.2 j:=by
 unfold eK at h;split at h
 ·rename_i hk;have e:eK x p m=eL (kI x.2):=by unfold eK;rw[aj hk]
  rw[e];rcases FB (kI x.2)with⟨j,k,d,l,f⟩|⟨d,l⟩
  ·have a:j<x.2.length:=by simpa [kI]using k
   have b:aR x.2 ((j:Int)+1)=ah:=by
    rw[qO]at f;unfold kI at f;rw[aO,fy,cO a]at f;simp at f;unfold aR;rw[aj (by omega),aO];have g:((j:Int)+1).toNat-1=j:=by omega
    rw[g,cO a];simpa using f
   refine⟨hk,by rw[d];simp only;omega,by rw[d];exact b,λi=>?_⟩;unfold kQ;rw[d];simp only[hk,and_true,if_true];have g:((j:Int)+1).toNat-1=j:=by omega
   rw[g];exact TJ a _ i
  ·rw[d]at h;cases h
 ·cases h
theorem aeD {p:Int} {m:BV} (h:(eK x p m).2≠0):kQ x p m=x:=by
 unfold eK at h;unfold kQ;split at h
 ·rw[af (λa=>h a.2)]
 ·rename_i hk;rw[af (λa=>hk a.1)]
end
theorem Jq {x:TX} {id:Int}:id∈gT x↔(aR x.2 id).isSome:=by
 unfold gT;rw[abc];constructor
 ·rintro⟨b,g,e⟩;have i:id.toNat-1<x.2.length:=by omega
  obtain⟨j,rfl⟩:∃j:Nat,id=(j:Int)+1:=⟨id.toNat-1,by omega⟩;rw[qO]at e;unfold kI at e;have a:j<x.2.length:=by omega
  rw[aO,fy,cO a]at e;unfold aR;have f:((j:Int)+1).toNat-1=j:=by omega
  rw[aj b,f,aO,cO a];simpa using e
 ·intro h;obtain⟨t,d⟩:=lU.1 h;have b:=mX d;refine⟨b.1,b.2,?_⟩;obtain⟨j,rfl⟩:∃j:Nat,id=(j:Int)+1:=⟨id.toNat-1,by omega⟩;have a:j<x.2.length:=by omega
  rw[qO];unfold kI;rw[aO,fy,cO a];unfold aR at d;have f:((j:Int)+1).toNat-1=j:=by omega
  rw[aj b.1,f,aO,cO a]at d;simp only[ie]at d;simp[d]
theorem BL {k:K} {id:Int} {t:Th} (h:aR k.th.2 id=aa t):cS k id=t/\(dt k.th id).2=0:=by
 unfold cS dt;rw[h];exact⟨rfl,rfl⟩
theorem agD {k:K} {id:Int} (h:aR k.th.2 id=ah):cS k id=(0,0,0,ae,ae,0)/\(dt k.th id).2=4:=by
 unfold cS dt;rw[h];exact⟨rfl,rfl⟩
def gN (x:RS) (id c:Int):Prop:=0<=c/\cf x c.toNat id=ag
structure dz (ex:Int) (th:TX) (rq:RS):Prop where
 a:∀id c,gN rq id c->∃t,aR th.2 id=aa t/\t.2.2.1=c/\t.2.2.2.2.1=ae/\id≠ex
 b:∀id t,aR th.2 id=aa t->t.2.2.2.2.1=ae->id≠ex->gN rq id t.2.2.1
 p:∀id t,aR th.2 id=aa t->0<=t.1/\t.1<8
structure eu (ex:Int) (th:TX) (tm:dO) (own:Int->Option Int):Prop where
 a:∀t id,own t=aa id->1<=id/\(bE tm t).isSome=ag/\id≠ex/\∃x,aR th.2 id=aa x/\x.2.2.2.2.1=ag/\x.2.2.2.2.2=t
 b:∀id x,aR th.2 id=aa x->x.2.2.2.2.1=ag->id≠ex->own x.2.2.2.2.2=aa id
 c:∀id x,aR th.2 id=aa x->x.2.2.2.2.1=ae->x.2.2.2.2.2=0
def sG (t:Th):Bool×Int:=t.2.2.2.2
theorem eu.congr {ex:Int} {th d:TX} {tm:dO} {own:Int->Option Int} (h:eu ex th tm own) (m:∀j,(aR d.2 j).map sG=(aR th.2 j).map sG):eu ex d tm own:=by
 have o:∀{j t},aR th.2 j=aa t->∃t',aR d.2 j=aa t'/\t'.2.2.2.2=t.2.2.2.2:=by
  intro j t k;have:=m j;rw[k]at this;obtain⟨t',e,f⟩:=lf.1 this;exact⟨t',e,f⟩
 have n:∀{j t},aR d.2 j=aa t->∃t',aR th.2 j=aa t'/\t'.2.2.2.2=t.2.2.2.2:=by
  intro j t k;have:=m j;rw[k]at this;obtain⟨t',e,f⟩:=lf.1 this.symm;exact⟨t',e,f⟩
 refine⟨λt id p=>?_,λid x l hs q=>?_,λid x l hs=>?_⟩
 ·obtain⟨e,f,r,x,s,u,w⟩:=h.a t id p;obtain⟨g,i,k2⟩:=o s;exact⟨e,f,r,g,i,by rw[k2];exact u,by rw[k2];exact w⟩
 ·obtain⟨g,i,k2⟩:=n l;rw[<-k2]at hs⊢;exact h.b id g i hs q
 ·obtain⟨g,i,k2⟩:=n l;rw[<-k2]at hs⊢;exact h.c id g i hs
def bS (ac:BV) (d:bY) (s c:Int):Prop:=hs ac c=ag∨∃r,d.1=aa r/\r.up=ae/\r.au=c/\(r.back=ag∨r.aA<s)
def PQ (ac:BV) (d:bY) (rq:RS):Prop:=∀id c,gN rq id c->bS ac d 3 c
def PT (ac:BV) (d:bY) (tm:dO):Prop:=∀t p,bE tm t=aa p->bS ac d 4 p.1
def PW (ac:BV) (d:bY) (wk:QL):Prop:=∀c v,0<=c->v∈da wk c->bS ac d 5 c
def PC (ac:BV) (d:bY) (ca:CS):Prop:=∀c v,0<=c->v∈bA ca c->bS ac d 6 c
def PI (ac:BV) (d:bY) (ir:ch) (rt:dh):Prop:=∀n,0<=n->n<16->(gq ir n).1=ag->∃c,cF rt n=(c,ag)/\bS ac d 7 c
def PO (ac:BV) (d:bY) (st:KS):Prop:=∀c v,0<=c->v∈kN st c->bS ac d 8 c
structure sX (n:Nat) (on ac:BV) (gs:Int) (sp:BV×BV) (r:bd):Prop where
 v:Lo r
 over:r.over=ae
 ne:r.au≠r.ax
 ax:hs ac r.ax=ag
 au:r.au<n
 eb:hs on r.au = !r.up
 g0:r.aA=0->gs=1/\r.back=ae
 g1:0<r.aA->gs=2
 mD:ac=if r.up=ae/\2<=r.aA then ls on r.au else on
 tX:sp.1≠0->r.up=ae/\r.back=ae/\r.aA=6/\r.told=ag/\sp.1=ls (wi ac r.au) r.ax
structure BT (n:Nat) (on ac:BV) (gs:Int) (sp:BV×BV) (d:bY):Prop where
 an:ac≠0
 ao:∀c,hs ac c=ag->hs on c=ag
 eb:∀c,hs on c=ag->0<=c/\c<n
 free:d.1=ah->ac=on/\gs=0/\sp.1=0
 cZ:∀r,d.1=aa r->sX n on ac gs sp r
 mg:sp.1=0->sp.2=0
def gi (on:BV) (d:bY) (c:Int):Bool:=hs on c||match d.1 with
 | some r=>r.up&&decide (2<=r.aA)&&decide (c=r.au)
 | none=>ae
def CC (n:Nat) (on:BV) (d:bY) (co:List dV):Prop:=∀c:Int,0<=c->c<n->(bg co c).pw=gi on d c
structure aC (k:K):Prop where
 n:1<=k.n/\k.n<=64
 jF:k.th.1=(k.n:Int)
 iF:k.th.2.length=32
 rq:dg k.n k.rq
 jG:k.tm.n=k.n
 lF:k.tm.t.length=48
 iW:k.tm.now=k.now
 nE:k.ir.1=(k.n:Int)
 iN:k.ir.2.length=16
 kO:k.rt.1=(k.n:Int)
 j5:k.rt.2.length=16
 jI:k.wk.length=k.n+1
 kb:∀v,ct k.wk v<=1
 mv:∀v,0<ct k.wk v->1<=v/\v<=32
 ca:k.ca.2.length=k.n
 st:k.st.2.length=k.n
 ga:k.ga.1.length=k.n
 co:k.co.length=k.n
structure aI (k:K):Prop where
 dk:BT k.n k.on k.ac k.ga.2 k.sp k.dk
 pw:CC k.n k.on k.dk k.co
 tq:dz 0 k.th k.rq
 tm:eu 0 k.th k.tm.t k.own
 q:PQ k.ac k.dk k.rq
 t:PT k.ac k.dk k.tm.t
 w:PW k.ac k.dk k.wk
 c:PC k.ac k.dk k.ca
 i:PI k.ac k.dk k.ir k.rt
 o:PO k.ac k.dk k.st
 ci:CI k.ca
 ki:KI k.st
theorem Ai {m ac:BV} (h:ac≠0) (near:Int):hs ac (jw m ac near).1=ag:=by
 have key:∀u:BV,u≠0->(∀c,hs u c=ag->hs ac c=ag)->hs ac (if hs u near=ag then(near,m&&& ac==0,(0:Int))else((mU u near).1,m&&& ac==0,(0:Int))).1=ag:=by
  intro u d a;split
  ·rename_i h1;exact a _ h1
  ·exact a _ (SH d near).2
 unfold jw;rw[af h];refine key _ (Py h) ?_;intro c b;split at b
 ·exact b
 ·rw[v8]at b;simp at b;exact b.2
theorem dz.ids {ex:Int} {th:TX} {rq:RS} (h:dz ex th rq) (d:th.2.length=32):∀i j,cf rq i j=ag->1<=j/\j<=32:=by
 intro i j b;obtain⟨t,c,_⟩:=h.a j i ⟨by omega,by simpa using b⟩;have:=mX c;omega
theorem S9 {n:Nat} {ac:BV} {th:TX} {rq:RS} {id c:Int} {f:Bool} {t:Th} (K:n<=64) (F:hs ac c=ag) (m:c<n) (G:th.1=(n:Int)) (C:th.2.length=32) (D:dg n rq)
  (h:dz id th rq) (l:aR th.2 id=aa t) (w:t.2.2.2.2.1=ae) :
  qc rq c t.1 id=0/\dg n (jE rq c t.1 id)/\dz 0 (lx th id c f) (jE rq c t.1 id)/\(∀j c',gN (jE rq c t.1 id) j c'↔(gN rq j c'∨(j=id/\c'=c)))/\
   (∀j,(aR (lx th id c f).2 j).map sG=(aR th.2 j).map sG)/\(lx th id c f).1=th.1/\(lx th id c f).2.length=32/\
   (∀j,(aR (lx th id c f).2 j).map (λt=>t.2.1)=(aR th.2 j).map (λt=>t.2.1)):=by
 have o:=jV F;have x:=mX l
 have y:∀i,cf rq i id=ae:=by
  intro i
  cases hm:cf rq i id with
  | false=>rfl
  | true=>
   obtain⟨_,_,_,_,z⟩:=h.a id i ⟨by omega,by simpa using hm⟩;exact absurd rfl z
 have A:qc rq c t.1 id=0:=ac3 D (h.ids C) ⟨o.1,m⟩ (h.p id t l) ⟨x.1,by omega⟩ y;have d:=acD (f:=f) l (c:=c) ⟨o.1,by rw[G];exact m⟩
 have g:∀j c',gN (jE rq c t.1 id) j c'↔(gN rq j c'∨(j=id/\c'=c)):=by
  intro j c';unfold gN;rw[Sb A];simp only[eT,aY,decide_eq_true_eq];constructor
  ·rintro⟨q,r|⟨r,H⟩⟩
   ·exact .inl ⟨q,r⟩
   ·exact .inr ⟨H,by omega⟩
  ·rintro(⟨q,r⟩|⟨q,r⟩)
   ·exact⟨q,.inl r⟩
   ·exact⟨by omega,.inr ⟨by omega,q⟩⟩
 refine⟨A,D.put A,⟨?_,?_,?_⟩,g,?_,by rw[JG],by rw[JH];exact C,?_⟩
 ·intro j c' s;rw[d];rcases(g j c').1 s with s|⟨rfl,rfl⟩
  ·obtain⟨u,E,k2,I,J⟩:=h.a j c' s;rw[af J];have:=mX E;exact⟨u,E,k2,I,by omega⟩
  ·rw[aj rfl];exact⟨_,rfl,rfl,w,by omega⟩
 ·intro j u k B s;rw[d]at k;rw[g];split at k
  ·rename_i e;cases k;exact .inr ⟨e,rfl⟩
  ·rename_i e;exact .inl (h.b j u k B e)
 ·intro j u k;rw[d]at k;split at k
  ·cases k;exact h.p id t l
  ·exact h.p j u k
 ·intro j;rw[d];split
  ·rename_i e;subst e;rw[l];rfl
  ·rfl
 ·intro j;rw[d];split
  ·rename_i e;subst e;rw[l];rfl
  ·rfl
theorem ac5 {k:K} {id near:Int} {t:Th} (l:k.n<=64) (a:k.ac≠0) (b:∀c,hs k.ac c=ag->c<k.n) (o:k.th.1=(k.n:Int)) (p:k.th.2.length=32) (q:dg k.n k.rq)
  (h:dz id k.th k.rq) (i:aR k.th.2 id=aa t) (d:t.2.2.2.2.1=ae) :
  dg k.n (jB k id near).rq/\dz 0 (jB k id near).th (jB k id near).rq/\(∀j c,gN (jB k id near).rq j c->gN k.rq j c∨hs k.ac c=ag)/\
   (∀j,(aR (jB k id near).th.2 j).map sG=(aR k.th.2 j).map sG)/\(jB k id near).th.1=k.th.1/\(jB k id near).th.2.length=32/\
   (∀j,(aR (jB k id near).th.2 j).map (λt=>t.2.1)=(aR k.th.2 j).map (λt=>t.2.1)):=by
 have r:=(BL i).1;have e:=Ai (m:=t.2.1) a near;unfold jB;rw[r];obtain⟨_,s,u,w,x,y,z,A⟩:=S9 (f:=(jw t.2.1 k.ac near).2.1) l e (b _ e) o p q h i d;refine⟨s,u,λj c g=>?_,x,y,z,A⟩;rcases(w j c).1 g with g|⟨_,rfl⟩
 ·exact .inl g
 ·exact .inr e
theorem BK {n:Nat} {th:TX} {rq:RS} (f:dg n rq) (h:dz 0 th rq) (id:Int):dg n (fH rq id)/\dz id th (fH rq id)/\∀j c,gN (fH rq id) j c->gN rq j c:=by
 have e:∀j c,gN (fH rq id) j c↔gN rq j c/\j≠id:=by
  intro j c;unfold gN;rw[Jo f];simp only[aY,decide_eq_true_eq];exact and_assoc.symm
 refine⟨f.take id,⟨λj c d=>?_,λj t g hs d=>?_,h.p⟩,λj c d=>((e j c).1 d).1⟩
 ·obtain⟨i,k2⟩:=(e j c).1 d;obtain⟨t,k,l,m,o⟩:=h.a j c i;exact⟨t,k,l,m,k2⟩
 ·have:=mX g;exact(e j _).2 ⟨h.b j t g hs (by omega),d⟩
end Go.Dav
