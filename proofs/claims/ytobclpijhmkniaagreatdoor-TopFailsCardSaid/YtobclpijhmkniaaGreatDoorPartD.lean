/- What functions of the program come to, part 4; the texts are made small to keep within a claim. -/
import Derived.Shelf.SlSortCmp.NoneTotal
import Derived.Shelf.SlicesE.DeleteFunc
import Derived.Shelf.SlGeneric
import Derived.Shelf.SlIterI.Collect
import Derived.Shelf.SlIterI.Keys
import Derived.Shelf.SlIterI.Nil
import Derived.Ground.SlsfProg
import Derived.Ground.SlgfProg
import Derived.Ground.GgzProg
import Derived.Test.YtobclpijhmkniaaGreatDoorProg
import Derived.Laws.Externs
import Derived.Test.YtobclpijhmkniaaGreatDoorPartC
set_option linter.unusedVariables false
set_option linter.unusedSimpArgs false
set_option linter.unusedSectionVars false
namespace Go.Dav
open Go.Proofs
theorem pH:mf Tryz.prog 285 3 2 (I 0):=⟨by kernel_rfl,by kernel_rfl,by kernel_rfl,by kernel_rfl⟩
abbrev jh:=(Int->Option Int)×Nat
abbrev sb:=Int×List (List Int)×jh
def jg (bm:Nat) (s:Int×List gi):List Value:=I s.1::.map (some bm)::s.2.map eT
theorem au.ac0 {σ τ:Type} {A:Ob σ} {B:Ob τ} {w:World} {F:Fp} [fb:Frame B] {x:σ×τ} (h:au A B w F x):∃F1,A w F1 x.1/\(∀j,F1 j->F j)/\∀w' s',aa A w w' F1 s'->aa (au A B) w w' F (s',x.2):=by
 obtain⟨F1,F2,h1,h2,h3,h4⟩:=h;refine⟨F1,h1,fun j hj=>(h3 j).2 (.inl hj),?_⟩;rintro w' s' ⟨F',k1,k2,k3⟩;refine⟨fun i=>F' i∨F2 i,⟨F',F2,k1,fb.ae h2 k2 (fun i hi hf=>h4 i hf hi),fun _=>Iff.rfl,fun i hi hf=>?_⟩,k2.mono (fun i _ hi=>(h3 i).2 (.inl hi)),fun i hi=>?_⟩
 ·rcases k3 i hi with h|h
  ·exact h4 i h hf
  ·have:=fb.lt h2 i hf;omega
 ·rcases hi with hi|hi
  ·exact(k3 i hi).imp (fun h=>(h3 i).2 (.inl h)) id
  ·exact .inl ((h3 i).2 (.inr hi))
def nh (b bm:Nat):Ob (Int×List gi):=fun w F s=>au (Rw b 289 (jg bm)) (Fam (Ls 3)) w F (s,s.2)
instance Frame.wro (b bm:Nat):Frame (nh b bm) where
 ae:=fun h k hG=>Frame.star.ae h k hG
 lt:=fun h=>Frame.star.lt h
def cN (b:Nat):Ob sb:=fun w F x=>∃bm ys,au (nh b bm) (aS bm (Value.int .i64)) w F ((x.1,ys),x.2.2)/\rws ys=x.2.1
instance Frame.ah (b:Nat):Frame (cN b) where
 ae:=fun⟨bm,ys,h,r⟩ k hG=>⟨bm,ys,Frame.star.ae h k hG,r⟩
 lt:=fun⟨_,_,h,_⟩=>Frame.star.lt h
theorem afI (a c:Value) (l vs:List Value) (i:Nat):aI (a::c::l) (2+i) vs=a::c::aI l i vs:=by
 unfold aI;rw[show 2+i=i+2 by omega,show i+2+vs.length=(i+vs.length)+2 by omega];simp
section
variable {b bm:Nat} {w:World} {F:Fp} {n:Int} {ys:List gi}
theorem nh.at (h:nh b bm w F (n,ys)) {i:Nat} (hi:i<ys.length):∃F1,Ls 3 w F1 ys[i]/\(∀j,F1 j->F j)/\(∀w',af F1 w w'->w'.cell? ((⟨b,0,none⟩:Addr).add (2+i))=some (eT ys[i]))/\
  ∀w1 (q:gi),aa (Ls 3) w w1 F1 q->∀K:World->Prop,(∀w',aa (nh b bm) w w' F (n,ys.set i q)->K w')->Wr w1 ((⟨b,0,none⟩:Addr).add (2+i)) [eT q] K:=by
 obtain⟨G1,G2,h1,h2,h3,h4⟩:=h;simp only at h1 h2;obtain⟨F1,k1,k0,k2⟩:=Fam.at h2 hi;have hU:∀w',af F1 w w'->Rw b 289 (jg bm) w' G1 (n,ys):=fun w' k=>(Frame.rw ..).ae h1 k (fun j hj hf=>h4 j hj (k0 j hf));refine⟨F1,k1,fun j hj=>(h3 j).2 (.inr (k0 j hj)),fun w' k=>?_,fun w1 q k K hK=>?_⟩
 ·refine(hU w' k).ai.cell ?_;rw[show 2+i=i+2 by omega];simp[jg,hi]
 ·obtain⟨F',q1,q2,q3⟩:=k2 _ _ k;have h1':=(Frame.rw ..).ae h1 q2 h4;refine h1'.ai.wr (k:=2+i) (by simp[jg];omega) fun w' hW=>hK w' ?_
  have e1:aI (jg bm (n,ys)) (2+i) [eT q]=jg bm (n,ys.set i q):=by
   unfold jg;rw[afI,qw hi]
  rw[e1]at hW;have hT:=h1'.dZ (w':=w') (s':=(n,ys.set i q)) hW.U hW.aF;obtain⟨H',t1,t2,t3⟩:=hT;have hlt:=(Frame.rw ..).lt h1;refine⟨fun j=>H' j∨F' j,⟨H',F',t1,Frame.jx.ae q1 t2 ?_,fun _=>Iff.rfl,?_⟩,?_,?_⟩
  ·intro j hj hf;rcases q3 j hj with h|h
   ·exact h4 j hf h
   ·have:=hlt j hf;omega
  ·intro j hj hf;rcases t3 j hj with h|h
   ·rcases q3 j hf with h'|h'
    ·exact h4 j h h'
    ·have:=hlt j h;omega
   ·have:=Frame.jx.lt q1 j hf;omega
  ·exact(q2.mono (fun j _ hj=>(h3 j).2 (.inr hj))).trans t2 (fun j _ hj=>(h3 j).2 (.inl hj))
  ·rintro j (hj|hj)
   ·rcases t3 j hj with h|h
    ·exact .inl ((h3 j).2 (.inl h))
    ·exact .inr (Nat.le_trans q2.size h)
   ·rcases q3 j hj with h|h
    ·exact .inl ((h3 j).2 (.inr h))
    ·exact .inr h
theorem nh.ai (h:nh b bm w F (n,ys)):aE w b (jg bm (n,ys)) 289:=by
 obtain⟨F1,h1,_⟩:=au.left h;exact h1.ai
theorem nh.tick (h:nh b bm w F (n,ys)) (v:Int) {K:World->Prop} (hK:∀w',aa (nh b bm) w w' F (v,ys)->K w'):Wr w ((⟨b,0,none⟩:Addr).add 0) [I v] K:=by
 obtain⟨F1,h1,k1⟩:=au.left h;refine h1.ai.wr (k:=0) (by simp[jg]) fun w' hW=>hK w' ?_;obtain⟨F',h3,h4⟩:=k1 _ (v,ys) (h1.dZ (s':=(v,ys)) hW.U hW.aF);exact⟨F',h3,h4⟩
end
section
variable {b:Nat} {w:World} {F:Fp} {x:sb}
structure X2 (b:Nat) (w:World) (F:Fp) (x:sb) (i:Nat) (p:Option Addr) (c:Nat) (F1:Fp):Prop where
 ls:Ls 3 w F1 (p,c,x.2.1.getD i [])
 sub:∀j,F1 j->F j
 cell:∀w',af F1 w w'->w'.cell? ((⟨b,0,none⟩:Addr).add (2+i))=some (.slice p (x.2.1.getD i []).length c)
 put:∀w1 p' c' l',aa (Ls 3) w w1 F1 (p',c',l')->∀K:World->Prop,(∀w',aa (cN b) w w' F (x.1,x.2.1.set i l',x.2.2)->K w')->Wr w1 ((⟨b,0,none⟩:Addr).add (2+i)) [.slice p' l'.length c'] K
theorem cN.at (h:cN b w F x) {i:Nat} (hi:i<x.2.1.length):∃p c F1,X2 b w F x i p c F1:=by
 obtain⟨n,L,m⟩:=x;obtain⟨bm,ys,h,he⟩:=h;simp only at h he hi;subst he;have hi':i<ys.length:=by simpa [rws]using hi
 have hg:(rws ys).getD i []=ys[i].2.2:=by
  rw[List.getD_eq_getElem?_getD,List.getElem?_eq_getElem hi,Option.getD_some,wV ys hi']
 obtain⟨G,h1,hsub,k1⟩:=au.ac0 h;obtain⟨F1,a1,a2,a3,a4⟩:=h1.at hi';refine⟨ys[i].1,ys[i].2.1,F1,?_,fun j hj=>hsub j (a2 j hj),?_,?_⟩
 ·simp only[hg];exact a1
 ·intro w' hU;simp only[hg];exact a3 w' hU
 ·intro w1 p' c' l' hT K hK;refine a4 w1 (p',c',l') hT K fun w' hT'=>hK w' ?_;obtain⟨F',h3,h4⟩:=k1 _ _ hT';exact⟨F',⟨bm,_,h3,WO ..⟩,h4⟩
theorem cN.ai (h:cN b w F x):∃bm ys,aE w b (jg bm (x.1,ys)) 289:=by
 obtain⟨bm,ys,h,_⟩:=h;obtain⟨G,h1,_⟩:=au.left h;exact⟨bm,ys,h1.ai⟩
theorem cN.tick (h:cN b w F x) (v:Int) {K:World->Prop} (hK:∀w',aa (cN b) w w' F (v,x.2)->K w'):Wr w ((⟨b,0,none⟩:Addr).add 0) [I v] K:=by
 obtain⟨bm,ys,h,r⟩:=h;obtain⟨G,h1,k1⟩:=au.left h;refine h1.tick v fun w' hT=>hK w' ?_;obtain⟨F',h3,h4⟩:=k1 _ _ hT;exact⟨F',⟨bm,ys,h3,r⟩,h4⟩
theorem cN.map (h:cN b w F x):∃bm F1,(∃ys,aE w b (jg bm (x.1,ys)) 289)/\aS bm (Value.int .i64) w F1 x.2.2/\∀w' m,aa (aS bm (Value.int .i64)) w w' F1 m->aa (cN b) w w' F (x.1,x.2.1,m):=by
 obtain⟨bm,ys,h,r⟩:=h;obtain⟨G,h1,_⟩:=au.left h;obtain⟨F1,h2,k2⟩:=au.right h;refine⟨bm,F1,⟨ys,h1.ai⟩,h2,fun w' m hT=>?_⟩;obtain⟨F',h3,h4⟩:=k2 _ _ hT;exact⟨F',⟨bm,ys,h3,r⟩,h4⟩
theorem XP (h:cN b w F x) (hn:aN x.1) {d:Int} (hd:aN d):Cx 372 #[pt b,I d] w fun e w'=>e=Z (.pointer (some ((⟨b,0,none⟩:Addr).add (2+br x.1.toNat d.toNat))))/\af no w w':=by
 obtain⟨bm,ys,hB⟩:=h.ai;obtain⟨n,hnn,hn2⟩:=Bd hn;obtain⟨k,rfl,hk2⟩:=Bd hd;rw[hnn]at hB;simp only[hnn,Int.toNat_natCast];have hlv:=tG hk2 hn2;have hdg:=pW k (aH k n);refine al0 ?_;rw[t372];refine⟨_,rfl,_,hB.cell rfl,fun g=>⟨_,rfl,?_,af.refl _ _⟩,fun g=>⟨_,rfl,_,hB.cell rfl,⟨(U4 hk2 hn2 ?_ w).mono ?_⟩⟩⟩
 ·have g:=of_decide_eq_true g;have:br n k=168:=by unfold br;rw[if_pos (by omega)]
  rw[this]
 ·have g:=of_decide_eq_false g;omega
 ·have g:=of_decide_eq_false g;rintro e w1 ⟨rfl,rfl⟩;refine⟨_,rfl,fun w2 q1 q2 q3 q4=>?_⟩;refine⟨_,rfl,⟨by omega,by omega⟩,⟨(RQ hk2 hlv w2).mono ?_⟩⟩;rintro e w3 ⟨rfl,rfl⟩;refine⟨_,rfl,⟨by omega,by omega⟩,?_,af.same no q1 q2 q3 q4⟩;have:br n k=aH k n*8+ej k (aH k n):=by unfold br;rw[if_neg (by omega)]
  rw[this,Addr.add_add,Addr.add_add,Int.toNat_natCast,Int.toNat_natCast,Nat.mul_one]
theorem XR (h:cN b w F x) (hn:aN x.1) (hL:x.2.1.length=169) {ids:List Int} {p:Option Addr} {c:Nat} (hc:Cells w p (ids.map (Value.int .i64))) (hp:∀j,aL p j->¬F j) (hl:ids.length<=48) (hr:∀i,(x.2.1.getD i []).length<=48) (hg:∀id∈ids,∃d,x.2.2.1 id=some d/\aN d) :
  Cx 317 #[pt b,.slice p ids.length c] w fun e w'=>e=Z (.tuple #[])/\aa (cN b) w w' F (x.1,fV x.1 x.2.2.1 x.2.1 ids,x.2.2):=by
 obtain⟨n,L,m⟩:=x;simp only at hn hL hr hg;refine alh ?_;rw[t317];refine⟨bA bf (M:=xx) (σ:=Nat) (fun i=>Dd (some ⟨b,0,none⟩) p ids.length c (ids.length:Int) (i:Int)) (fun i w'=>i<=ids.length/\aa (cN b) w w' F (n,fV n m.1 L (ids.take i),m)/\∀j,((fV n m.1 L (ids.take i)).getD j []).length<=48+i) (fun i _=>ids.length-i) 0 ⟨rfl,rfl,rfl,rfl,trivial⟩ ⟨by omega,aa.same h,hr⟩ ?_⟩;rintro i w1 ⟨hi,hT,hrow⟩;rw[agY];refine⟨fun g=>?_,fun g=>?_⟩
 ·have g:=of_decide_eq_true g;have hi':i<ids.length:=by omega
  have hc1:Cells w1 p (ids.map (Value.int .i64)):=by
   obtain⟨F',_,hU,_⟩:=hT;refine hc.ae fun a ha=>hU.ai _ ?_ (hp _ ⟨a,ha,rfl⟩);have:=hc 0 (I (ids[0]'(by omega))) (by simp);obtain⟨a',ha',hcell⟩:=this;rw[ha]at ha';cases ha';have:=ou hcell
   rwa [vg]at this
  obtain⟨a,ha,hcell⟩:=hc1.bC hi';obtain⟨d,hgd,hd⟩:=hg _ (List.getElem_mem hi');obtain⟨F1,h1,k1⟩:=hT.bI;obtain⟨bm,Fm,⟨ys,hB⟩,hM,kM⟩:=h1.map;have hlk:=iz pH hM ids[i] false;simp only[hgd,Option.map_some,Option.getD_some]at hlk;refine⟨⟨by omega,by omega⟩,a,ha,_,hcell,_,rfl,_,hB.cell rfl,_,hlk,⟨(XP h1 hn hd).mono ?_⟩⟩;rintro e w2 ⟨rfl,hU2⟩;have h2:=(Frame.ah b).ae h1 hU2 (fun _ _ h=>h);have hixF:dw n m.1 ids[i]=br n.toNat d.toNat:=by unfold dw;rw[hgd];rfl
  have hix:br n.toNat d.toNat<(fV n m.1 L (ids.take i)).length:=by
   rw[AG,hL,<-hixF];exact wc hn hd hgd
  obtain⟨p1,c1,F2,hA⟩:=h2.at hix;refine⟨_,rfl,_,rfl,_,_,_,hA.cell w2 (af.refl _ _),⟨fun w3 hN=>?_⟩⟩;obtain⟨p',c',w4,hrun,hT4⟩:=Ls.push Dy hA.ls (by have:=hrow (br n.toNat d.toNat);simp only;omega) hN 36;refine⟨_,_,_,w4,hrun,_,rfl,?_⟩;have hcur:af no w1 w2:=hU2;refine hA.put w4 p' c' _ hT4 _ fun w5 h5=>?_
  have e1:(fV n m.1 L (ids.take i)).set (br n.toNat d.toNat) ((fV n m.1 L (ids.take i)).getD (br n.toNat d.toNat) []++[ids[i]])=fV n m.1 L (ids.take (i+1)):=by
   rw[List.take_succ_eq_append_getElem hi',aeR,amP,hixF]
  simp only at h5;rw[e1]at h5;have h5':aa (cN b) w1 w5 F1 (n,fV n m.1 L (ids.take (i+1)),m):=aa.next h2 (hU2.mono (fun _ _ h=>h.elim)) (fun _ h=>.inl h) h5;refine⟨i+1,⟨rfl,rfl,rfl,by rw[aD (by omega)];rfl,trivial⟩,⟨by omega,k1 _ _ h5',fun j=>?_⟩,by omega⟩;rw[<-e1];have:=hrow j;simp only[List.getD_eq_getElem?_getD,List.getElem?_set];by_cases hj:br n.toNat d.toNat=j
  ·subst hj;rw[if_pos rfl,if_pos hix];simp only[List.getD_eq_getElem?_getD]at this;simp only[Option.getD_some,List.length_append,List.length_cons,List.length_nil];omega
  ·rw[if_neg hj];simp only[List.getD_eq_getElem?_getD]at this;omega
 ·have g:=of_decide_eq_false g;have:i=ids.length:=by omega
  subst this;rw[List.take_length]at hT;exact⟨rfl,hT⟩
def eO (b:Nat):Ob (Int×bS):=fun w F x=>∃L n,cN b w F (x.1,L,(x.2,n))/\gK x.1 L x.2
instance Frame.wlo (b:Nat):Frame (eO b) where
 ae:=fun⟨L,n,h,r⟩ k hG=>⟨L,n,(Frame.ah b).ae h k hG,r⟩
 lt:=fun⟨_,_,h,_⟩=>(Frame.ah b).lt h
theorem eO.of {L:List (List Int)} {m:jh} {n:Int} {w':World} (h:aa (cN b) w w' F (n,L,m)) (hv:gK n L m.1):aa (eO b) w w' F (n,m.1):=by
 obtain⟨F',h1,h2⟩:=h;exact⟨F',⟨L,m.2,h1,hv⟩,h2⟩
theorem am4 {y:Int×bS} (h:eO b w F y) (id:Int):Cx 106 #[pt b,I id] w fun e w'=>e=Z (.tuple #[I ((y.2 id).getD 0),.bool (y.2 id).isSome])/\w'=w:=by
 obtain⟨L,n,h,hv⟩:=h;obtain⟨bm,Fm,⟨ys,hB⟩,hM,_⟩:=h.map;refine aio ?_;rw[t106];have hlk:=iz pH hM id true;have e1:((y.2 id).map (Value.int .i64)).getD (I 0)=I ((y.2 id).getD 0):=by cases y.2 id<;>rfl
 simp only[e1,if_true]at hlk;exact⟨fun g=>(by cases g),fun _=>⟨_,rfl,_,hB.cell rfl,_,_,hlk,rfl,rfl⟩⟩
theorem XH {y:Int×bS} (h:eO b w F y) {id d:Int} (hid:1<=id/\id<=48) (hd:aN d) (hg:y.2 id=none):Cx 322 #[pt b,I id,I d] w fun e w'=>e=Z (I 0)/\aa (eO b) w w' F (y.1,mw y.2 id d):=by
 obtain⟨L,n,h,hv⟩:=h;obtain⟨bm,Fm,⟨ys,hB⟩,hM,kM⟩:=h.map;refine aln ?_;rw[t322];have hlk:=iz pH hM id true;simp only[hg,Option.map_none,Option.getD_none,Option.isSome_none,if_true]at hlk;refine⟨fun g=>(by cases g),fun _=>⟨_,rfl,_,hB.cell rfl,_,_,hlk,⟨(Gr d w).mono ?_⟩⟩⟩;rintro e w1 ⟨rfl,rfl⟩;rw[decide_eq_true hd];refine⟨_,rfl,fun g=>(by cases g),fun _=>⟨fun g=>(by cases g),fun _=>⟨_,rfl,_,hB.cell rfl,?_⟩⟩⟩;obtain⟨w2,hrun,hT⟩:=mQ pH hM id d;have h2:=kM _ _ hT;refine⟨w2,hrun,⟨fun w3 hN=>?_⟩⟩;obtain⟨F1,hW2,k1⟩:=h2.bI;have hW:=(Frame.ah b).ae hW2 (hN.ae no) (fun _ _ h=>h)
 have hc:Cells w3 (some ⟨w2.heap.size,0,none⟩) ([id].map (Value.int .i64)):=by
  intro j v hj;exact⟨_,rfl,hN.aF.cell hj⟩
 have hlt2:∀j,F1 j->j<w2.heap.size:=(Frame.ah b).lt hW2;have hgp:(dp (y.2,n) id d).1 id=some d:=by simp[dp]
 refine⟨(XR hW hv.tk hv.len hc (fun j hj hf=>?_) (by simp) hv.tY (fun i hi=>?_)).mono ?_⟩
 ·obtain⟨a,ha,rfl⟩:=hj;cases ha;exact absurd (hlt2 _ hf) (by simp)
 ·have:i=id:=by simpa using hi
  subst this;exact⟨d,hgp,hd⟩
 ·rintro e w4 ⟨rfl,h4⟩;refine⟨rfl,rfl,eO.of (k1 _ _ (aa.next hW (hN.ae F1) (fun _ h=>.inl h) h4)) ?_⟩;exact hv.add hid hd hg
theorem am2 {W:World} {F0:Fp} {n:Int} {L:List (List Int)} {m:jh} (h:aa (cN b) W w F0 (n,L,m)) (hL:L.length=169) (hr:∀i,(L.getD i []).length<=48) {lv k:Nat} (hlv:lv<=20) (hk:k<=8) :
  Cx 315 #[pt b,I (lv:Int),I (k:Int)] w fun e w'=>∃p c,e=Z (.slice p (cz L (lv*8) k).length c)/\aa (au (cN b) (Ls 3)) W w' F0 ((n,dd L (lv*8) k,m),(p,c,cz L (lv*8) k)):=by
 refine alf ?_;rw[t315]
 have hmin:(Builtin.min_ #[3,3] 3 #[I (k:Int),I 8]).run Tryz.prog w=.ok (I (k:Int)) w:=by
  simp[Builtin.min_,Builtin.min2];omega
 have h0:aa (au (cN b) (Ls 3)) W w F0 ((n,L,m),(none,0,[])):=aa.add h (af.refl _ _) (Ls.nil w _) (fun _ h=>h.elim)
 refine⟨_,w,hmin,⟨bA bf (M:=uU) (σ:=Nat×Option Addr×Nat) (fun x=>Dc (some ⟨b,0,none⟩) (lv:Int) x.2.1 (cz L (lv*8) x.1).length x.2.2 (k:Int) (x.1:Int))
  (fun x w'=>x.1<=k/\aa (au (cN b) (Ls 3)) W w' F0 ((n,dd L (lv*8) x.1,m),(x.2.1,x.2.2,cz L (lv*8) x.1))/\(cz L (lv*8) x.1).length<=x.1*48) (fun x _=>k-x.1) (0,none,0) ⟨rfl,rfl,rfl,rfl,rfl,trivial⟩ ⟨Nat.zero_le _,by rw[Ss];exact h0,by simp[zH]⟩ ?_⟩⟩
 rintro⟨i,p,c⟩ w1 ⟨hi,hT,hlen⟩;simp only at hi hT hlen⊢;rw[agX];have hlL:(dd L (lv*8) i).length=169:=by rw[mv (by omega),hL]
 refine⟨fun g=>?_,fun g=>?_⟩
 ·have g:=of_decide_eq_true g;have hi':i<k:=by omega
  have hrow:=hr (lv*8+i);have hget:(dd L (lv*8) i).getD (lv*8+i) []=L.getD (lv*8+i) []:=by rw[ny (by omega),if_neg (by omega)]
  have ea:(((⟨b,0,none⟩:Addr).add 2).add ((lv:Int).toNat*8)).add ((i:Int).toNat*1)=(⟨b,0,none⟩:Addr).add (2+(lv*8+i)):=by
   rw[Addr.add_add,Addr.add_add,Int.toNat_natCast,Int.toNat_natCast,Nat.mul_one]
  obtain⟨F1,h1,k1⟩:=hT.left;obtain⟨q,d,G,hA⟩:=h1.at (i:=lv*8+i) (by simp only;omega);obtain⟨F2,h2,k2⟩:=hT.right;have hcell:=hA.cell w1 (af.refl _ _);have hq:=hA.ls.cells;simp only[hget]at hcell hq;obtain⟨p',c',w2,hrun,hT2⟩:=Ls.more Dy h2 (q:=q) (m:=L.getD (lv*8+i) []) (d:=d) hq (fun hq0=>(hA.ls.zero hq0).2) (by omega) 36;refine⟨_,rfl,⟨by omega,by omega⟩,⟨by omega,by omega⟩,q,_,d,by rw[ea];exact hcell,_,_,_,w2,hrun,_,rfl,⟨by omega,by omega⟩,⟨by omega,by omega⟩,?_⟩;have hT':=k2 _ _ hT2;obtain⟨F1',h1',k1'⟩:=hT'.left;obtain⟨q',d',G',hA'⟩:=h1'.at (i:=lv*8+i) (by simp only;omega);rw[ea];refine hA'.put w2 none 0 [] hA'.ls.empty _ fun w3 h3=>?_;have h4:=k1' _ _ h3;simp only at h4;rw[aaB (by omega),<-rm]at h4;refine⟨(i+1,p',c'),⟨rfl,rfl,by rw[rm];rfl,rfl,by rw[aD (by omega)];rfl,trivial⟩,⟨by simp only;omega,h4,?_⟩,by simp only;omega⟩;simp only;rw[rm,List.length_append];omega
 ·have g:=of_decide_eq_false g;have:i=k:=by omega
  subst this;exact⟨p,c,rfl,hT⟩
theorem DQ {n:Int} {L:List (List Int)} {g:bS} (h:gK n L g) {k:Nat} (hnd:(cz L 0 k).Nodup):(cz L 0 k).length<=48:=Fy hnd fun id hid=>by
 obtain⟨i,_,hi⟩:=tK.1 hid;obtain⟨d,hd,_⟩:=(h.at_ i id).1 hi;exact(h.due id d hd).1
theorem gK.DR {n:Int} {L:List (List Int)} {g:bS} (h:gK n L g):∀k,(cz L 0 k).Nodup:=by
 intro k
 induction k with
 | zero=>rw[zH];exact List.nodup_nil
 | succ k ih=>
  rw[rm];refine List.nodup_append.2 ⟨ih,h.nd _,fun a ha b hb=>?_⟩;rintro rfl;obtain⟨i,hi,hm⟩:=tK.1 ha;obtain⟨d,hd,e1⟩:=(h.at_ i a).1 hm;obtain⟨d',hd',e2⟩:=(h.at_ _ a).1 hb;rw[hd]at hd';cases hd';omega
theorem amN {y:Int×bS} (h:eO b w F y) (t:Int):Cx 231 #[pt b,I t] w fun e w'=>e=Z (I (if y.1<=t/\aN t then 0 else 2))/\aa (eO b) w w' F (if y.1<=t/\aN t then(t,y.2)else y):=by
 have hy:=h;obtain⟨L,n,h,hv⟩:=h;obtain⟨now,g⟩:=y;simp only at h hv⊢;obtain⟨bm,ys,hB⟩:=h.ai;have hB0:w.cell? ((⟨b,0,none⟩:Addr).add 0)=some (I now):=hB.cell rfl;refine akb ?_;rw[t231];refine⟨fun g=>(by cases g),fun _=>⟨_,rfl,_,hB0,fun g1=>⟨(Gr t w).mono ?_⟩,fun g1=>?_⟩⟩
 ·have g1:=of_decide_eq_false g1;rintro e w1 ⟨rfl,rfl⟩;refine⟨_,rfl,fun g2=>?_,fun g2=>⟨_,rfl,_,hB0,fun g3=>?_,fun g3=>⟨_,rfl,_,hB0,?_⟩⟩⟩
  ·have g2:¬aN t:=by simpa using g2
   rw[if_neg (fun hh=>g2 hh.2),if_neg (fun hh=>g2 hh.2)];exact⟨rfl,aa.same hy⟩
  ·have g2:aN t:=by simpa using g2
   have g3:t=now:=by simpa using g3
   subst g3;rw[if_pos ⟨Int.le_refl _,g2⟩,if_pos ⟨Int.le_refl _,g2⟩];exact⟨rfl,aa.same hy⟩
  ·have g2:aN t:=by simpa using g2
   have g3:t≠now:=by simpa using g3
   have hlt:now<t:=by omega
   rw[if_pos ⟨by omega,g2⟩,if_pos ⟨by omega,g2⟩];obtain⟨hN,hnd,hmem,hv'⟩:=hv.go g2 hlt;obtain⟨a0,ea,ha⟩:=Bd g2;have g2':aN (a0:Int):=by rw[<-ea];exact g2
   obtain⟨n0,en,hn0⟩:=Bd hv.tk;have hne:a0≠n0:=by omega
   rw[ea,en]at hN hnd hmem hv';simp only[Int.toNat_natCast]at hN hnd hmem hv';rw[ea,en];have hlv:=tG ha hn0;have hdg:=pW a0 (aH a0 n0);refine⟨(U4 ha hn0 hne w1).mono ?_⟩;rintro e w2 ⟨rfl,rfl⟩;refine⟨_,rfl,?_⟩;have h0:aa (au (cN b) (Ls 3)) w2 w2 F ((now,L,(g,n)),(none,0,[])):=aa.add (aa.same h) (af.refl _ _) (Ls.nil w2 _) (fun _ h=>h.elim)
   refine⟨bA bf (M:=qM) (σ:=Nat×Option Addr×Nat) (fun x=>C4 (some ⟨b,0,none⟩) (a0:Int) (aH a0 n0:Int) x.2.1 (cz L 0 (x.1*8)).length x.2.2 (aH a0 n0:Int) (x.1:Int))
    (fun x w'=>x.1<=aH a0 n0/\aa (au (cN b) (Ls 3)) w2 w' F ((now,dd L 0 (x.1*8),(g,n)),(x.2.1,x.2.2,cz L 0 (x.1*8)))) (fun x _=>aH a0 n0-x.1) (0,none,0) ⟨rfl,rfl,rfl,rfl,rfl,rfl,trivial⟩ ⟨Nat.zero_le _,by rw[Nat.zero_mul,Ss];exact h0⟩ ?_⟩
   rintro⟨i,p,c⟩ w3 ⟨hi,hT⟩;simp only at hi hT⊢;have hl8:(dd L 0 (i*8)).length=169:=by rw[mv (by rw[hv.len];omega),hv.len]
   have hr8:∀j,((dd L 0 (i*8)).getD j []).length<=48:=fun j=>by
    rw[ny (by rw[hv.len];omega)];split
    ·simp
    ·exact hv.tY j
   have hg8:=DQ hv (hv.DR (i*8))
   have step:∀k:Nat,k<=8->(i*8+k<=168)->Cx 315 #[pt b,I (i:Int),I (k:Int)] w3 fun e w'=>∃q d,e=Z (.slice q (cz (dd L 0 (i*8)) (i*8) k).length d)/\∀ty,∃p' c' w4,(Builtin.append_ #[36,36] ty #[.slice p (cz L 0 (i*8)).length c,.slice q (cz (dd L 0 (i*8)) (i*8) k).length d]).run Tryz.prog w'=.ok (.slice p' (cz L 0 (i*8+k)).length c') w4/\aa (au (cN b) (Ls 3)) w2 w4 F ((now,dd L 0 (i*8+k),(g,n)),(p',c',cz L 0 (i*8+k))):=by
    intro k hk hik;obtain⟨F1,h1,k1⟩:=hT.left;refine(am2 (aa.same h1) hl8 hr8 (lv:=i) (by omega) hk).mono ?_;rintro e w4 ⟨q,d,rfl,hD⟩
    have hq:Cells w4 q ((cz (dd L 0 (i*8)) (i*8) k).map (Value.int .i64))/\(q=none->d=0):=by
     obtain⟨F',⟨G1,G2,a1,a2,_⟩,_⟩:=hD;exact⟨a2.cells,fun h=>(a2.zero h).2⟩
    have hT':=k1 _ _ hD.drop;obtain⟨F2,h2,k2⟩:=hT'.right
    have hadd:cz L 0 (i*8+k)=cz L 0 (i*8)++cz (dd L 0 (i*8)) (i*8) k:=by
     rcases Ta L (i*8) k with h|h
     ·exact h
     ·rw[hv.len]at h;omega
    have hgk:=DQ hv (hv.DR (i*8+k));rw[hadd,List.length_append]at hgk;refine⟨q,d,rfl,fun ty=>?_⟩;obtain⟨p',c',w5,hrun,hT2⟩:=Ls.more Dy h2 hq.1 hq.2 (by omega) ty;have hT3:=k2 _ _ hT2;simp only at hT3 hrun;rw[aaA (by rw[hv.len];omega),<-hadd]at hT3;rw[<-hadd]at hrun;exact⟨p',c',w5,hrun,hT3⟩
   rw[agM];refine⟨fun g4=>?_,fun g4=>aA.mk ?_⟩
   ·have g4:=of_decide_eq_true g4;refine⟨(step 8 (Nat.le_refl _) (by omega)).mono ?_⟩;rintro e w4 ⟨q,d,rfl,hap⟩;obtain⟨p',c',w5,hrun,hT5⟩:=hap 36;refine⟨q,_,d,rfl,p',_,c',w5,hrun,⟨(i+1,p',c'),⟨rfl,rfl,rfl,by rw[Nat.succ_mul];rfl,rfl,by rw[aD (by omega)];rfl,trivial⟩,⟨by simp only;omega,by simp only;rw[Nat.succ_mul];exact hT5⟩,by simp only;omega⟩⟩
   ·have g4:=of_decide_eq_false g4;have:i=aH a0 n0:=by omega
    subst this;rw[agL];refine⟨(RQ ha hlv w3).mono ?_⟩;rintro e w4 ⟨rfl,rfl⟩;refine⟨_,rfl,?_⟩;rw[aD (by omega),show(ej a0 (aH a0 n0):Int)+1=((ej a0 (aH a0 n0)+1:Nat):Int) by omega];refine⟨(step (ej a0 (aH a0 n0)+1) (by omega) (by omega)).mono ?_⟩;rintro e w5 ⟨q,d,rfl,hap⟩;obtain⟨p',c',w6,hrun,hT6⟩:=hap 36;refine⟨q,_,d,rfl,p',_,c',w6,hrun,_,rfl,?_⟩;obtain⟨F6,⟨G1,G2,h1,h2,h3,h4⟩,hU6,hF6⟩:=hT6;simp only at h1 h2;refine h1.tick (a0:Int) fun w7 hT7=>?_;obtain⟨F7,h7,hU7,hF7⟩:=hT7;have h2':=(Frame.ls _).ae h2 hU7 (fun j hj hf=>h4 j hf hj);have hlt2:=(Frame.ls _).lt h2;have hcs:=h2'.cells;simp only at h7;refine⟨(XR h7 g2' ?_ hcs (fun j hj hf=>?_) (DQ hv (hv.DR _)) ?_ (fun id hid=>?_)).mono ?_⟩
    ·simp only;rw[mv (by rw[hv.len];omega),hv.len]
    ·have hj2:G2 j:=(h2.1 j).2 hj;rcases hF7 j hf with h|h
     ·exact h4 j h hj2
     ·have:=hlt2 j hj2;omega
    ·intro j;simp only;rw[ny (by rw[hv.len];omega)];split
     ·simp
     ·exact hv.tY j
    ·exact hmem id hid
    ·rintro e w8 ⟨rfl,hT8⟩;refine⟨rfl,rfl,?_⟩
     have hT:aa (cN b) w2 w8 F (((a0:Nat):Int),fV (a0:Int) g (dd L 0 (aH a0 n0*8+(ej a0 (aH a0 n0)+1))) (cz L 0 (aH a0 n0*8+(ej a0 (aH a0 n0)+1))),(g,n)):=by
      refine aa.next h7 ((hU6.trans hU7 (fun j hj hf=>?_))) (fun j hj=>?_) hT8
      ·rcases hF6 j ((h3 j).2 (.inl hf))with h|h
       ·exact h
       ·omega
      ·rcases hF7 j hj with h|h
       ·exact hF6 j ((h3 j).2 (.inl h))
       ·exact .inr (Nat.le_trans hU6.size h)
     exact eO.of hT hv'
 ·have g1:=of_decide_eq_true g1;rw[if_neg (by omega),if_neg (by omega)];exact⟨rfl,aa.same hy⟩
end
theorem wv0 (N:Nat) (hN:N=169):gK 0 (List.replicate N []) (fun _=>none):=by
 refine⟨by unfold aN;decide,by rw[List.length_replicate,hN],fun _ _ h=>(by cases h),fun i id=>?_,fun i=>?_⟩
 ·simp only[List.getD_eq_getElem?_getD,List.getElem?_replicate];split<;>simp
 ·simp only[List.getD_eq_getElem?_getD,List.getElem?_replicate];split<;>simp
theorem afy (N:Nat):rws (List.replicate N (none,0,[]))=List.replicate N []:=by simp[rws]
theorem amT (w:World):Cx 109 #[I 0] w fun e w'=>∃b F,e=Z (.tuple #[pt b,I 0])/\eO b w' F (0,fun _=>none)/\af no w w'/\∀i,F i->w.heap.size<=i:=by
 refine air ?_;rw[t109];refine⟨(Gr 0 w).mono ?_⟩;rintro e w1 ⟨rfl,rfl⟩;refine⟨_,rfl,fun g=>(by cases g),fun _=>⟨fun w2 hN=>⟨fun w3 hN3=>?_⟩⟩⟩;have hM:=(Frame.map w1.heap.size (Value.int .i64)).ae (aS.new (f:=Value.int .i64) hN) (hN3.ae no) (fun _ _ h=>h);have hs:=hN.size;have hR:Rw w2.heap.size 289 (jg w1.heap.size) w3 (fun i=>i=w2.heap.size) (0,List.replicate 169 (none,0,[])):=Rw.new hN3 rfl;refine⟨w2.heap.size,fun i=>i=w2.heap.size∨i=w1.heap.size,rfl,⟨List.replicate 169 [],0,⟨w1.heap.size,List.replicate 169 (none,0,[]),⟨fun i=>i=w2.heap.size,fun i=>i=w1.heap.size,⟨_,fun _=>False,hR,Fam.rep ⟨fun i=>⟨fun h=>h.elim,fun⟨a,ha,_⟩=>by cases ha⟩,Sl.nil _ _ _⟩,fun i=>by simp,fun _ _ h=>h⟩,hM,fun i=>Iff.rfl,fun i h1 h2=>by omega⟩,afy _⟩,wv0 _ rfl⟩,(hN.ae no).and (hN3.ae no),?_⟩
 ·rintro i (rfl|rfl)
  ·omega
  ·exact Nat.le_refl _
end Go.Dav
namespace Go.Dav
open Go.Proofs
section
variable {w w':World} {T:TypeId} {F:Fp} {a:Addr} {c:Nat} {l:List Int}
theorem Sl.holds (h:Sl w T 1 (some a) l.length c (l.map (Value.int .i64))):Sort.Holds (Value.int .i64) w a.block a.off l.toArray:=by
 intro j hj;have hj:j<l.length:=by simpa using hj
 obtain⟨a',ha,hc⟩:=h.cells.bC hj;cases ha;obtain⟨h1,h2,h3,cells,hb,hs,hf,ht⟩:=h;obtain⟨b,o,sp⟩:=a;simp only at hs hb hf ht;subst hs;rw[add_lit,Nat.mul_one]at hc;refine⟨?_,?_⟩
 ·rw[hc];simp[hj]
 ·unfold World.frozen?;unfold aE at hb;simp only;rw[hb];simp
theorem aeS {w:World} {b:Nat} {cells:List Value} (hb:aE w b cells T) (f:Array Value->Array Value) {n:Nat} {os:Array Obj}:(Sort.grow (Sort.mapBlock (Sort.ahead w n) b f) os).heap[b]?=some (.cells (f cells.toArray) T (0,0)):=by
 have hlt:=hb.lt;unfold aE at hb;unfold Sort.grow Sort.mapBlock Sort.ahead;simp only;rw[Array.getElem?_append_left (by simpa using hlt),Array.getElem?_modify,if_pos rfl,hb];rfl
theorem AK {w:World} {b:Nat} (f:Array Value->Array Value) {n:Nat} {os:Array Obj}:af (fun i=>i=b) w (Sort.grow (Sort.mapBlock (Sort.ahead w n) b f) os):=by
 refine⟨by simp[Sort.grow,Sort.mapBlock,Sort.ahead],rfl,rfl,rfl,fun i hi hF=>?_⟩;unfold Sort.grow Sort.mapBlock Sort.ahead;simp only;rw[Array.getElem?_append_left (by simpa using hi),Array.getElem?_modify,if_neg (fun e=>hF e.symm)]
theorem aeQ (d:List Int) (o:Nat) (cells:List Value) (h:o+d.length<=cells.length):(Sort.putCells (Value.int .i64) o d.toArray cells.toArray).toList=cells.take o++d.map (Value.int .i64)++cells.drop (o+d.length):=by
 apply List.ext_getElem?;intro k;unfold Sort.putCells;simp only[Array.getElem?_toList,Array.getElem?_mapIdx,List.size_toArray,List.getElem?_toArray];rw[List.append_assoc];by_cases h1:k<o
 ·rw[List.getElem?_append_left (by simp;omega),List.getElem?_take_of_lt h1]
  cases cells[k]? with
  | none=>rfl
  | some v=>simp only[Option.map_some];rw[if_neg (by omega)]
 ·rw[List.getElem?_append_right (by simp;omega)];have e:(cells.take o).length=o:=by simp;omega
  rw[e];by_cases h2:k<o+d.length
  ·rw[List.getElem?_append_left (by simp;omega),List.getElem?_eq_getElem (show k<cells.length by omega)];simp only[Option.map_some];rw[if_pos ⟨by omega,h2⟩];have:k-o<d.length:=by omega
   simp[this]
  ·rw[List.getElem?_append_right (by simp;omega),List.length_map,List.getElem?_drop,show o+d.length+(k-o-d.length)=k by omega]
   cases cells[k]? with
   | none=>rfl
   | some v=>simp only[Option.map_some];rw[if_neg (by omega)]
theorem Sl.putRow {d:List Int} (h:Sl w T 1 (some a) l.length c (l.map (Value.int .i64))) (hl:d.length=l.length) {n:Nat} {os:Array Obj}:Sl (Sort.grow (Sort.putRow (Value.int .i64) (Sort.ahead w n) a.block a.off d.toArray) os) T 1 (some a) d.length c (d.map (Value.int .i64)):=by
 obtain⟨h1,h2,h3,cells,hb,hs,hf,ht⟩:=h;have hb':=aeS hb (Sort.putCells (Value.int .i64) a.off d.toArray) (n:=n) (os:=os);have hpc:=aeQ d a.off cells (by omega);refine⟨by simp,by omega,h3,(Sort.putCells (Value.int .i64) a.off d.toArray cells.toArray).toList,?_,hs,?_,?_⟩
 ·unfold aE Sort.putRow;rw[hb']
 ·rw[hpc];simp;omega
 ·rw[hpc,List.append_assoc,List.drop_append_of_le_length (by simp;omega),List.drop_eq_nil_of_le (by simp;omega),List.nil_append,List.take_append_of_le_length (by simp),List.take_of_length_le (by simp)]
theorem Ls.putRow {d:List Int} (h:Ls T w F (some a,c,l)) (hl:d.length=l.length) {n:Nat} {os:Array Obj}:aa (Ls T) w (Sort.grow (Sort.putRow (Value.int .i64) (Sort.ahead w n) a.block a.off d.toArray) os) F (some a,c,d):=by
 refine⟨F,⟨h.1,h.2.putRow hl⟩,?_,fun _ h=>.inl h⟩;refine(AK _).mono fun i _ hi=>(h.1 i).2 ⟨a,rfl,hi⟩
end
def rb (x y:Int):Int:=if x<y then -1 else if y<x then 1 else 0
def Ax (x y:Int):Int:=if x=0 then y else x
def mq (g:Int->Int) (x y:Int):Int:=Ax (rb (g x) (g y)) (rb x y)
theorem rC (g:Int->Int) (x y:Int):ltOf (mq g) x y=j4 g x y:=by
 unfold ltOf mq Ax rb j4;by_cases h1:g x<g y
 ·simp[h1]
 ·by_cases h2:g y<g x
  ·have:¬g x=g y:=by omega
   simp[h1,h2,this]
  ·have:g x=g y:=by omega
   simp only[this];by_cases h3:x<y
   ·simp[h3]
   ·by_cases h4:y<x<;>simp[h3,h4]
theorem agl (g:Int->Int):Sort.SWO (ltOf (mq g)) where
 irrefl x:=by rw[rC,mD];omega
 trans x y z h1 h2:=by rw[rC,Af]at *;omega
 ntrans x y z h1 h2:=by rw[rC,mD]at *;omega
theorem ah9 (g:Int->Int) (x y:Int) (h1:ltOf (mq g) x y=false) (h2:ltOf (mq g) y x=false):x=y:=by rw[rC,mD]at *;omega
theorem ads (g:Int->Int) (l:List Int):(l.mergeSort fun x y=>!(ltOf (mq g)) y x)=dN g l:=by
 refine W7 (List.mergeSort_perm ..) ?_;refine(List.pairwise_mergeSort (le:=fun x y=>!(ltOf (mq g)) y x) (fun x y z h1 h2=>?_) (fun x y=>?_) l).imp fun{x y} h=>?_
 ·simp only[rC,Bool.not_eq_true',mD]at *;omega
 ·simp only[rC,Bool.or_eq_true,Bool.not_eq_true',mD];omega
 ·simp only[rC,Bool.not_eq_true']at h;exact h
end Go.Dav
namespace Go.Proofs
open Go.Shelf
def Tryz.sortL_ren : Go.Shelf.Ren := ⟨fun | 6 => 342 | 15 => 384 | 14 => 383 | 28 => 404 | 29 => 371 | 20 => 396 | 21 => 397 | 22 => 398 | 23 => 399 | 24 => 400 | 25 => 401 | 26 => 402 | 27 => 403 | 46 => 406 | 47 => 407 | 48 => 408 | 49 => 409 | 50 => 410 | 57 => 411 | n => n, fun | 22 => 36 | 24 => 3 | 25 => 391 | 3 => 3 | 39 => 268 | 0 => 0 | 53 => 425 | 55 => 29 | 4 => 4 | 46 => 419 | 45 => 418 | 50 => 179 | 5 => 5 | 9 => 9 | 66 => 428 | 70 => 432 | 76 => 434 | 77 => 435 | n => n, fun | n => n⟩
theorem Tryz.sortL : Go.Proofs.SlLaysF.n6 Tryz.prog Tryz.sortL_ren := {
  mixed := by kernel_rfl
  f6 := ⟨Tryz.f342.name, by decide, Tryz.func342.trans (congrArg some (by kernel_rfl))⟩
  f14 := ⟨Tryz.f383.name, by decide, Tryz.func383.trans (congrArg some (by kernel_rfl))⟩
  f15 := Tryz.func384.trans (congrArg some (by kernel_rfl))
  f20 := ⟨Tryz.f396.name, by decide, Tryz.func396.trans (congrArg some (by kernel_rfl))⟩
  f21 := ⟨Tryz.f397.name, by decide, Tryz.func397.trans (congrArg some (by kernel_rfl))⟩
  f22 := ⟨Tryz.f398.name, by decide, Tryz.func398.trans (congrArg some (by kernel_rfl))⟩
  f23 := ⟨Tryz.f399.name, by decide, Tryz.func399.trans (congrArg some (by kernel_rfl))⟩
  f24 := ⟨Tryz.f400.name, by decide, Tryz.func400.trans (congrArg some (by kernel_rfl))⟩
  f25 := ⟨Tryz.f401.name, by decide, Tryz.func401.trans (congrArg some (by kernel_rfl))⟩
  f26 := ⟨Tryz.f402.name, by decide, Tryz.func402.trans (congrArg some (by kernel_rfl))⟩
  f27 := ⟨Tryz.f403.name, by decide, Tryz.func403.trans (congrArg some (by kernel_rfl))⟩
  f28 := Tryz.func404.trans (congrArg some (by kernel_rfl))
  f29 := Tryz.func371.trans (congrArg some (by kernel_rfl))
  f46 := ⟨Tryz.f406.name, by decide, Tryz.func406.trans (congrArg some (by kernel_rfl))⟩
  f47 := Tryz.func407.trans (congrArg some (by kernel_rfl))
  f48 := Tryz.func408.trans (congrArg some (by kernel_rfl))
  f49 := ⟨Tryz.f409.name, by decide, Tryz.func409.trans (congrArg some (by kernel_rfl))⟩
  f50 := ⟨Tryz.f410.name, by decide, Tryz.func410.trans (congrArg some (by kernel_rfl))⟩
  f57 := ⟨Tryz.f411.name, by decide, Tryz.func411.trans (congrArg some (by kernel_rfl))⟩
  t0 := Tryz.underlying0
  a0 := Tryz.isAgg0
  z0 := Tryz.sizeOf0
  v0 := Tryz.zeroValue0
  t3 := Tryz.underlying3
  a3 := Tryz.isAgg3
  z3 := Tryz.sizeOf3
  v3 := Tryz.zeroValue3
  t4 := Tryz.underlying4
  a4 := Tryz.isAgg4
  z4 := Tryz.sizeOf4
  v4 := Tryz.zeroValue4
  t5 := Tryz.underlying5
  a5 := Tryz.isAgg5
  z5 := Tryz.sizeOf5
  v5 := Tryz.zeroValue5
  t9 := Tryz.underlying9
  a9 := Tryz.isAgg9
  z9 := Tryz.sizeOf9
  v9 := Tryz.zeroValue9
  t22 := Tryz.underlying36
  a22 := Tryz.isAgg36
  z22 := Tryz.sizeOf36
  v22 := Tryz.zeroValue36
  a24 := Tryz.isAgg3
  z24 := Tryz.sizeOf3
  t25 := Tryz.underlying391
  a25 := Tryz.isAgg391
  z25 := Tryz.sizeOf391
  v25 := Tryz.zeroValue391
  t39 := Tryz.underlying268
  a39 := Tryz.isAgg268
  z39 := Tryz.sizeOf268
  v39 := Tryz.zeroValue268
  t45 := Tryz.underlying418
  a45 := Tryz.isAgg418
  z45 := Tryz.sizeOf418
  v45 := Tryz.zeroValue418
  t46 := Tryz.underlying419
  a46 := Tryz.isAgg419
  z46 := Tryz.sizeOf419
  v46 := Tryz.zeroValue419
  t50 := Tryz.underlying179
  a50 := Tryz.isAgg179
  z50 := Tryz.sizeOf179
  v50 := Tryz.zeroValue179
  t53 := Tryz.underlying425
  a53 := Tryz.isAgg425
  z53 := Tryz.sizeOf425
  v53 := Tryz.zeroValue425
  t55 := Tryz.underlying29
  a55 := Tryz.isAgg29
  z55 := Tryz.sizeOf29
  v55 := Tryz.zeroValue29
  t66 := Tryz.underlying428
  a66 := Tryz.isAgg428
  z66 := Tryz.sizeOf428
  v66 := Tryz.zeroValue428
  t70 := Tryz.underlying432
  a70 := Tryz.isAgg432
  z70 := Tryz.sizeOf432
  v70 := Tryz.zeroValue432
  t76 := Tryz.underlying434
  a76 := Tryz.isAgg434
  z76 := Tryz.sizeOf434
  v76 := Tryz.zeroValue434
  t77 := Tryz.underlying435
  a77 := Tryz.isAgg435
  z77 := Tryz.sizeOf435
  v77 := Tryz.zeroValue435 }
def Tryz.delL_ren : Go.Shelf.Ren := ⟨fun | 10 => 373 | 6 => 270 | n => n, fun | 22 => 36 | 23 => 3 | 25 => 50 | 3 => 3 | 4 => 4 | 0 => 0 | n => n, fun | n => n⟩
theorem Tryz.delL : Go.Proofs.SlLaysH.n10 Tryz.prog Tryz.delL_ren := {
  mixed := by kernel_rfl
  f6 := ⟨Tryz.f270.name, by decide, Tryz.func270.trans (congrArg some (by kernel_rfl))⟩
  f10 := ⟨Tryz.f373.name, by decide, Tryz.func373.trans (congrArg some (by kernel_rfl))⟩
  t0 := Tryz.underlying0
  a0 := Tryz.isAgg0
  z0 := Tryz.sizeOf0
  v0 := Tryz.zeroValue0
  t3 := Tryz.underlying3
  a3 := Tryz.isAgg3
  z3 := Tryz.sizeOf3
  v3 := Tryz.zeroValue3
  t4 := Tryz.underlying4
  a4 := Tryz.isAgg4
  z4 := Tryz.sizeOf4
  v4 := Tryz.zeroValue4
  t22 := Tryz.underlying36
  a22 := Tryz.isAgg36
  z22 := Tryz.sizeOf36
  v22 := Tryz.zeroValue36
  a23 := Tryz.isAgg3
  z23 := Tryz.sizeOf3
  t25 := Tryz.underlying50
  a25 := Tryz.isAgg50
  z25 := Tryz.sizeOf50
  v25 := Tryz.zeroValue50 }
def Tryz.keysL_ren : Go.Shelf.Ren := ⟨fun | 7 => 276 | 10 => 348 | n => n, fun | 23 => 285 | 26 => 3 | 3 => 2 | 28 => 353 | 0 => 0 | 27 => 352 | 33 => 50 | 4 => 4 | n => n, fun | n => n⟩
theorem Tryz.keysL : Go.Proofs.SlLaysZI.n7 Tryz.prog Tryz.keysL_ren := {
  mixed := by kernel_rfl
  f7 := ⟨Tryz.f276.name, by decide, Tryz.func276.trans (congrArg some (by kernel_rfl))⟩
  f10 := ⟨Tryz.f348.name, by decide, Tryz.func348.trans (congrArg some (by kernel_rfl))⟩
  t0 := Tryz.underlying0
  a0 := Tryz.isAgg0
  z0 := Tryz.sizeOf0
  v0 := Tryz.zeroValue0
  t4 := Tryz.underlying4
  a4 := Tryz.isAgg4
  z4 := Tryz.sizeOf4
  v4 := Tryz.zeroValue4
  t23 := Tryz.underlying285
  a23 := Tryz.isAgg285
  z23 := Tryz.sizeOf285
  v23 := Tryz.zeroValue285
  t26 := Tryz.underlying3
  a26 := Tryz.isAgg3
  z26 := Tryz.sizeOf3
  v26 := Tryz.zeroValue3
  t27 := Tryz.underlying352
  a27 := Tryz.isAgg352
  z27 := Tryz.sizeOf352
  v27 := Tryz.zeroValue352
  t28 := Tryz.underlying353
  a28 := Tryz.isAgg353
  z28 := Tryz.sizeOf353
  v28 := Tryz.zeroValue353
  t33 := Tryz.underlying50
  a33 := Tryz.isAgg50
  z33 := Tryz.sizeOf50
  v33 := Tryz.zeroValue50 }
def Tryz.collL_ren : Go.Shelf.Ren := ⟨fun | 8 => 275 | 11 => 347 | n => n, fun | 26 => 3 | 28 => 353 | 24 => 36 | 0 => 0 | 33 => 50 | 4 => 4 | n => n, fun | n => n⟩
theorem Tryz.collL : Go.Proofs.SlLaysZI.n8 Tryz.prog Tryz.collL_ren := {
  mixed := by kernel_rfl
  f8 := ⟨Tryz.f275.name, by decide, Tryz.func275.trans (congrArg some (by kernel_rfl))⟩
  f11 := ⟨Tryz.f347.name, by decide, Tryz.func347.trans (congrArg some (by kernel_rfl))⟩
  t0 := Tryz.underlying0
  a0 := Tryz.isAgg0
  z0 := Tryz.sizeOf0
  v0 := Tryz.zeroValue0
  t24 := Tryz.underlying36
  a24 := Tryz.isAgg36
  z24 := Tryz.sizeOf36
  v24 := Tryz.zeroValue36
  t26 := Tryz.underlying3
  a26 := Tryz.isAgg3
  z26 := Tryz.sizeOf3
  v26 := Tryz.zeroValue3
  t28 := Tryz.underlying353
  a28 := Tryz.isAgg353
  z28 := Tryz.sizeOf353
  v28 := Tryz.zeroValue353
  i26 := by kernel_rfl }
end Go.Proofs
namespace Go.Dav
open Go.Proofs
theorem VH (x:Int) (w:World):Cx 385 #[I x] w fun e w'=>e=Z (.bool false)/\w'=w:=by
 refine al8 ?_;rw[t385];exact⟨by simp,rfl⟩
theorem VI (x:Int) (w:World):Cx 386 #[I x] w fun e w'=>e=Z (.bool false)/\w'=w:=by
 refine al9 ?_;rw[t386];exact⟨by simp,rfl⟩
theorem ZH (x y:Int) (w:World):Cx 345 #[I x,I y] w fun e w'=>e=Z (I (rb x y))/\w'=w:=by
 refine alH ?_;rw[t345];refine⟨(VH x w).mono ?_⟩;rintro e w1 ⟨rfl,rfl⟩;refine⟨_,rfl,⟨(VH y w1).mono ?_⟩⟩;rintro e w2 ⟨rfl,rfl⟩;unfold rb;refine⟨_,rfl,fun g=>(by cases g),fun _=>⟨fun g=>(by cases g),fun _=>⟨fun g=>?_,fun g=>⟨fun g2=>?_,fun g2=>?_⟩⟩⟩⟩
 ·rw[if_pos (of_decide_eq_true g)];exact⟨rfl,rfl⟩
 ·have g2:y<x:=of_decide_eq_true g2;rw[if_neg (of_decide_eq_false g),if_pos g2];exact⟨rfl,rfl⟩
 ·have g2:¬y<x:=of_decide_eq_false g2;rw[if_neg (of_decide_eq_false g),if_neg g2];exact⟨rfl,rfl⟩
theorem ZI (x y:Int) (w:World):Cx 346 #[I x,I y] w fun e w'=>e=Z (I (rb x y))/\w'=w:=by
 refine alI ?_;rw[t346];refine⟨(VI x w).mono ?_⟩;rintro e w1 ⟨rfl,rfl⟩;refine⟨_,rfl,⟨(VI y w1).mono ?_⟩⟩;rintro e w2 ⟨rfl,rfl⟩;unfold rb;refine⟨_,rfl,fun g=>(by cases g),fun _=>⟨fun g=>(by cases g),fun _=>⟨fun g=>?_,fun g=>⟨fun g2=>?_,fun g2=>?_⟩⟩⟩⟩
 ·rw[if_pos (of_decide_eq_true g)];exact⟨rfl,rfl⟩
 ·have g2:y<x:=of_decide_eq_true g2;rw[if_neg (of_decide_eq_false g),if_pos g2];exact⟨rfl,rfl⟩
 ·have g2:¬y<x:=of_decide_eq_false g2;rw[if_neg (of_decide_eq_false g),if_neg g2];exact⟨rfl,rfl⟩
theorem aeq {a c:Int} {p:Addr} {w:World} (h0:w.cell? (p.add (0*1))=some (I a)) (h1:w.cell? (p.add (1*1))=some (I c)):Cx 344 #[.slice (some p) 2 2] w fun e w'=>e=Z (I (Ax a c))/\w'=w:=by
 refine alG ?_;rw[t344];refine⟨bA bf (M:=uV) (σ:=Nat) (fun i=>De 0 (some p) 2 2 2 (i:Int)) (fun i w'=>i<=2/\(1<=i->a=0)/\(2<=i->c=0)/\w'=w) (fun i _=>2-i) 0 ⟨rfl,rfl,rfl,rfl,trivial⟩ ⟨by omega,by omega,by omega,rfl⟩ ?_⟩;rintro i w1 ⟨hi,ha,hc,rfl⟩;rw[ag0];unfold Ax;refine⟨fun g=>?_,fun g=>?_⟩
 ·have g:=of_decide_eq_true g;have hi2:i=0∨i=1:=by omega
  rcases hi2 with rfl|rfl
  ·refine⟨⟨by omega,by omega⟩,p,rfl,a,h0,fun g2=>?_,fun g2=>⟨1,⟨rfl,rfl,rfl,rfl,trivial⟩,⟨by omega,fun _=>by simpa using g2,by omega,rfl⟩,by omega⟩⟩;have g2:a≠0:=by simpa using g2
   rw[if_neg g2];exact⟨rfl,rfl⟩
  ·refine⟨⟨by omega,by omega⟩,p,rfl,c,h1,fun g2=>?_,fun g2=>⟨2,⟨rfl,rfl,rfl,rfl,trivial⟩,⟨by omega,fun _=>ha (by omega),fun _=>by simpa using g2,rfl⟩,by omega⟩⟩;rw[if_pos (ha (by omega))];exact⟨rfl,rfl⟩
 ·have g:=of_decide_eq_false g;have:i=2:=by omega
  subst this;rw[if_pos (ha (by omega)),hc (by omega)];exact⟨rfl,rfl⟩
theorem abE {w w1 w2:World} {o:Obj} (h1:w1.heap=w.heap) (h2:w1.os=w.os) (h3:w1.tape=w.tape) (h4:w1.output=w.output) (h5:w1.drawn=w.drawn+1) (hN:cH w1 w2 o):w2=Sort.grow (w.drewN 1) #[o]:=by
 have hh:w2.heap=w.heap++#[o]:=by
  apply Array.ext_getElem?;intro i;rw[Array.getElem?_append];split
  ·rename_i hi;rw[hN.j6 i (by rw[h1];exact hi),h1]
  ·rename_i hi;by_cases he:i=w.heap.size
   ·subst he;have:=hN.ai;rw[h1]at this;rw[this];simp
   ·have hs:=hN.size;rw[h1]at hs;rw[Array.getElem?_eq_none (by omega),Array.getElem?_eq_none (by simp;omega)]
 obtain⟨a1,a2,a3,a4,a5⟩:=w2;simp only at hh;subst hh;have e1:=hN.tape;have e2:=hN.drawn;have e3:=hN.os;have e4:=hN.output;simp only at e1 e2 e3 e4;unfold Sort.grow World.drewN;simp only[e1,e2,e3,e4,h2,h3,h4,h5]
def jY (m:jh) (id:Int):Int:=(m.1 id).getD 0
theorem amK {b pb:Nat} {x:sb} {w:World} {F:Fp} (h:cN b w F x) (hp:w.cell? ⟨pb,0,none⟩=some (pt b)) (a c:Int):Cx 343 #[I a,I c,pt pb] w fun e w'=>e=Z (I (mq (jY x.2.2) a c))/\∃q os,w'=Sort.grow (w.drewN q) os:=by
 refine alF ?_;rw[t343];intro w1 q1 q2 q3 q4 q5;have h1:=(Frame.ah b).ae h (af.same no q1 q2 q3 q4) (fun _ _ h=>h);obtain⟨bm,Fm,⟨ys,hB⟩,hM,_⟩:=h1.map
 have hp1:w1.cell? ⟨pb,0,none⟩=some (pt b):=by
  unfold World.cell?;rw[q1];exact hp
 have lk:∀id,(Instr.lookup 285 (.map (some bm)) (I id) false).run Tryz.prog w1=.ok (I (jY x.2.2 id)) w1:=fun id=>by
  rw[iz pH hM id false];unfold jY;cases x.2.2.1 id<;>rfl
 refine⟨_,hp1,_,rfl,_,hB.cell rfl,_,lk a,_,hp1,_,rfl,_,hB.cell rfl,_,lk c,⟨(ZH _ _ w1).mono ?_⟩⟩;rintro e w2 ⟨rfl,rfl⟩;refine⟨_,rfl,⟨(ZI _ _ w2).mono ?_⟩⟩;rintro e w3 ⟨rfl,rfl⟩;refine⟨_,rfl,⟨fun w4 hN=>⟨(aeq (hN.aF.cell rfl) (hN.aF.cell rfl)).mono ?_⟩⟩⟩;rintro e w5 ⟨rfl,rfl⟩;exact⟨_,rfl,rfl,1,_,abE q1 q2 q3 q4 q5 hN⟩
theorem adr (g:Int->Int) (ids:List Int):(ids.toArray.toList.mergeSort fun x y=>!(ltOf (mq g)) y x).toArray=(dN g ids).toArray:=by
 rw[List.toList_toArray,ads]
theorem amZ {b pb:Nat} {x:sb} {w:World} {F:Fp} (h:cN b w F x) (hp:w.cell? ⟨pb,0,none⟩=some (pt b)) {a:Addr} {c:Nat} {ids:List Int} (hS:Sl w 3 1 (some a) ids.length c (ids.map (Value.int .i64))) (hF:¬F a.block) (hpb:pb≠a.block) (hl:ids.length<=1000) :
  Cx 342 #[.slice (some a) ids.length c,.func (.func 343) #[] #[pt pb]] w fun e w'=>e=Z (.tuple #[])/\Sl w' 3 1 (some a) ids.length c ((dN (jY x.2.2) ids).map (Value.int .i64))/\af (fun i=>i=a.block) w w':=by
 have hH:=hS.holds;have hlt:=hS.lt a.block ⟨a,rfl,rfl⟩;obtain⟨_,_,_,cells,hb,hs,_,_⟩:=id hS;have eg:∀args w,(callFunc 343 args).run Tryz.prog w=.ok (.enter 343 args) w:=enters_of Tryz.func343 (by kernel_rfl) rfl
 have hcmp:CmpLays1 Tryz.prog 343 #[pt pb] (Value.int .i64) (mq (jY x.2.2)) a.block a.off ids.toArray.size w:=by
  intro m os dk hdk u v;have hU:af (fun i=>i=a.block) w (sortWorld (Value.int .i64) w a.block a.off m dk os):=AK _;have h':=(Frame.ah b).ae h hU (fun j hj e=>hF (e ▸ hj));refine amK h' ?_ u v;have hpl:=ou hp;unfold World.cell? at hp⊢;rw[hU.ai _ hpl hpb];exact hp
 have hrun:=Any.slices_SortFunc_total Tryz.sortL (Value.int .i64) (fun _=>rfl) (mq (jY x.2.2)) (agl _) 343 #[pt pb] a.block a.off c ids.toArray w eg hcmp hH hlt (by simp;omega) (ah9 _);rw[adr]at hrun
 have ea:a=⟨a.block,a.off,none⟩:=by
  obtain⟨b',o,sp⟩:=a;simp only at hs;subst hs;rfl
 rw[ea];refine Calls.mono (show Cx 342 _ _ _ from hrun) ?_;rintro e w' ⟨rfl,n,os,rfl⟩;have hlen:(dN (jY x.2.2) ids).length=ids.length:=(gX _ _).length_eq;refine⟨rfl,?_,AK _⟩;have:=hS.putRow (d:=dN (jY x.2.2) ids) hlen (n:=n) (os:=os);rw[hlen]at this;rw[ea]at this;exact this
theorem Gs {b:Nat} {x:sb} {w:World} {F:Fp} (h:cN b w F x) {p:Option Addr} {c:Nat} {ids:List Int} (hc:Cells w p (ids.map (Value.int .i64))) (hl:ids.length<=1000) (hn:p=none->ids=[]/\c=0):Cx 274 #[pt b,.slice p ids.length c] w fun e w'=>∃q d,e=Z (.slice q (dN (jY x.2.2) ids).length d)/\Cells w' q ((dN (jY x.2.2) ids).map (Value.int .i64))/\af no w w'/\∀j,aL q j->w.heap.size<=j:=by
 have hlen:(dN (jY x.2.2) ids).length=ids.length:=(gX _ _).length_eq;refine akP ?_;rw[t274];refine⟨fun w1 hN=>?_⟩;have h1:=(Frame.ah b).ae h (hN.ae no) (fun _ _ h=>h);have hlt1:=(Frame.ah b).lt h1;refine⟨(Ru (hc.no (hN.ae no)) (by omega) hn).mono ?_⟩;rintro e w2 ⟨q,d,rfl,hL⟩;have h2:=(Frame.ah b).ae h1 hL.U (fun _ _ h=>h);have hB2:=hN.aF.ae hL.U id;refine⟨_,_,_,rfl,?_⟩
 cases q with
 | none=>
  have e0:ids=[]:=by
   have:=hL.S.2.2.2.1;exact List.length_eq_zero_iff.1 this
  subst e0;refine⟨Calls.mono (show Cx 342 _ _ _ from AnyF.slices_SortFunc_none (P:=Tryz.prog) (ρ:=Tryz.sortL_ren) {Tryz.sortL with} none d _ w2) ?_⟩;rintro e w3 ⟨rfl,rfl⟩
  exact⟨rfl,_,_,rfl,Cells.nil _ _,(hN.ae no).and hL.U,fun j ⟨_,h,_⟩=>by cases h⟩
 | some a=>
  have ha:=hL.F a.block ⟨a,rfl,rfl⟩;have hsz:=hN.size;refine⟨(amZ (pb:=w.heap.size) h2 (hB2.bD rfl) hL.S (fun hf=>by have:=hlt1 _ hf;omega) (by omega) hl).mono ?_⟩;rintro e w3 ⟨rfl,hS3,hU3⟩
  refine⟨rfl,some a,d,by rw[hlen],?_,((hN.ae no).and hL.U).trans hU3 (fun j hj e=>by omega),fun j hj=>by
   obtain⟨_,h,rfl⟩:=hj;cases h;omega⟩
  exact hS3.cells
theorem XM {b:Nat} {y:Int×bS} {w:World} {F:Fp} (h:eO b w F y):Cx 293 #[pt b] w fun e w'=>∃l q d,e=Z (.slice q l.length d)/\Cells w' q (l.map (Value.int .i64))/\af no w w'/\(∀j,aL q j->w.heap.size<=j)/\(∃r:List Int,l=dN (fun id=>(y.2 id).getD 0) r/\r.Nodup/\∀id,id∈r↔∃t,y.2 id=some t/\t<=y.1):=by
 obtain⟨L,n,h,hv⟩:=h;obtain⟨p,c,F1,hA⟩:=h.at (i:=168) (by show 168<L.length;rw[hv.len];decide);refine akT ?_;rw[t293];refine⟨fun g=>(by cases g),fun _=>⟨_,rfl,p,_,c,hA.cell w (af.refl _ _),⟨(Gs h hA.ls.cells (by have:=hv.tY 168;simp only;omega) hA.ls.zero).mono ?_⟩⟩⟩;rintro e w1 ⟨q,d,rfl,hC,hU,hfr⟩;refine⟨_,_,_,rfl,_,q,d,rfl,hC,hU,hfr,L.getD 168 [],rfl,hv.nd 168,fun id=>?_⟩;rw[hv.at_];constructor
 ·rintro⟨t,ht,e⟩;refine⟨t,ht,?_⟩;have h1:=hv.due id t ht;unfold br at e;split at e
  ·have:=h1.2;have:=hv.tk;unfold aN at *;omega
  ·rename_i hlt;have:=TD (now:=y.1.toNat) (due:=t.toNat) (by omega) (ur h1.2) (ur hv.tk);omega
 ·rintro⟨t,ht,hle⟩;refine⟨t,ht,?_⟩;have h1:=hv.due id t ht;unfold br;rw[if_pos (by have:=h1.2;have:=hv.tk;unfold aN at *;omega)]
end Go.Dav
namespace Go.Dav
open Go.Proofs
open Go.WideElems (Fit rd rg)
variable {α:Type} {f:α->Value} {P:Program} {t k e:TypeId} {z:Value} {b:Nat} {w:World} {F:Fp} {x:(Int->Option α)×Nat}
def tT:Value->Option (DataW Unit×List MemPlace):=fun _=>some (.nil,[])
def UQ (n:Int):Lit×DataW Unit:=(.int .i64 n,.nil)
theorem afa {es:List MapEntry} {L:List (Int×α)} (h:ji f es L) (hr:∀p∈L,keyOf P k (.int .i64 p.1)=some (.int .i64 p.1)):es.map (rg P k tT)=L.map fun p=>UQ p.1:=by
 apply List.ext_getElem?;intro i;rw[List.getElem?_map,List.getElem?_map]
 cases he:es[i]? with
 | none=>
  have:L[i]?=none:=by
   rw[List.getElem?_eq_none_iff]at he⊢;rw[<-h.len];exact he
  rw[this];rfl
 | some y=>
  obtain⟨p,hp,hk,_⟩:=h.at he;rw[hp];simp only[Option.map_some];congr 1;unfold rg rd;rw[hk,hr p (List.mem_iff_getElem?.2 ⟨i,hp⟩)];rfl
theorem aS.owns (hk:P.underlying k=some (.int .i64)) (h:aS b f w F x) (hw:∀n v,x.1 n=some v->(Lit.int .i64 n).wf=true) (hs:x.2<=maxLen) :
  ∃(D:DataW Unit) (ks:List Int),w.ownsMap P k tT b x.2 D/\(intKeys D).Perm ks/\ks.Nodup/\(∀n,n∈ks↔(x.1 n).isSome=true)/\ks.length=x.2/\Maps.size D=x.2:=by
 obtain⟨h1,es,clock,L,hb,hE,hn,hx,hl,hst⟩:=h;have hr:∀p∈L,keyOf P k (.int .i64 p.1)=some (.int .i64 p.1):=fun p hp=>Maps.keyOf_int_mk hk (hw p.1 p.2 ((hx p.1 p.2).2 hp));have hrg:=afa (P:=P) (k:=k) hE hr;have hlen:es.size=x.2:=by rw[hl,<-hE.len];simp
 have hperm:=WideShapes.sorted_perm (es.toList.map (rg P k tT));refine⟨.map ((es.toList.map (rg P k tT)).foldr DataW.insert []),L.map Prod.fst,⟨es,clock,hb,⟨by omega,hst,fun y hy=>?_⟩,by omega,rfl⟩,?_,hn,fun n=>?_,by simp[hl],?_⟩
 ·obtain⟨i,hi⟩:=List.mem_iff_getElem?.1 hy;obtain⟨p,hp,hkk,_⟩:=hE.at hi;exact⟨UQ p.1,by unfold rd;rw[hkk,hr p (List.mem_iff_getElem?.2 ⟨i,hp⟩)];rfl⟩
 ·show(((es.toList.map (rg P k tT)).foldr DataW.insert []).map _).Perm _;refine(hperm.map _).trans ?_;rw[hrg,List.map_map];exact .refl _
 ·constructor
  ·intro hm;obtain⟨p,hp,rfl⟩:=List.mem_map.1 hm;rw[(hx p.1 p.2).2 hp];rfl
  ·intro hm
   cases hv:x.1 n with
   | none=>rw[hv]at hm;cases hm
   | some v=>exact List.mem_map.2 ⟨(n,v),(hx n v).1 hv,rfl⟩
 ·show((es.toList.map (rg P k tT)).foldr DataW.insert []).length=_;rw[hperm.length_eq,List.length_map];simpa using hlen
end Go.Dav
namespace Go.Dav
open Go.Proofs
theorem XL {pb:Nat} {id:Int} {w:World} (hp:w.cell? ⟨pb,0,none⟩=some (I id)) (x:Int):Cx 374 #[I x,pt pb] w fun e w'=>e=Z (.bool (x==id))/\w'=w:=by
 refine al1 ?_;rw[t374];exact⟨_,hp,rfl,rfl⟩
theorem aae {pb:Nat} {id:Int} {w:World} (hp:w.cell? ⟨pb,0,none⟩=some (I id)) {F1:Fp} {a:Addr} {c:Nat} {l:List Int} (hS:Ls 3 w F1 (some a,c,l)) (hpb:pb≠a.block) (hl:l.length<=1000) :
  Cx 373 #[.slice (some a) l.length c,.func (.func 374) #[] #[pt pb]] w fun e w'=>e=Z (.slice (some a) (l.filter fun x=>!(x==id)).length c)/\aa (Ls 3) w w' F1 (some a,c,l.filter fun x=>!(x==id)):=by
 have hH:=hS.2.holds;have hs:a.spot=none:=by obtain⟨_,_,_,cells,hb,hs,_,_⟩:=hS.2;exact hs
 have hpl:=ou hp;have eg:∀args w,(callFunc 374 args).run Tryz.prog w=.ok (.enter 374 args) w:=enters_of Tryz.func374 (by kernel_rfl) rfl
 have h1:PredAt Tryz.prog 374 #[pt pb] (Value.int .i64) (fun x=>x==id) w:=by
  intro W x hB;refine(XL (w:=W) (id:=id) ?_ x).mono ?_
  ·unfold World.cell? at hp⊢;rw[hB.block pb hpl];exact hp
  ·rintro e w' ⟨rfl,rfl⟩;exact⟨rfl,0,rfl⟩
 have h2:PredOver Tryz.prog 374 #[pt pb] (Value.int .i64) (fun x=>x==id) a.block a.off l.toArray.size w:=by
  intro m os dk x hdk;have hU:af (fun i=>i=a.block) w (sortWorld (Value.int .i64) w a.block a.off m dk os):=AK _;refine(XL (id:=id) ?_ x).mono ?_
  ·unfold World.cell? at hp⊢;rw[hU.ai _ hpl hpb];exact hp
  ·rintro e w' ⟨rfl,rfl⟩;exact⟨rfl,0,rfl⟩
 have hz:∀w:World,(zeroValue 3).run Tryz.prog w=.ok (I 0) w:=fun w=>by
  rw[rM (t:=3) (by kernel_rfl),show zv Tryz.prog 3=I 0 by kernel_rfl]
 have hrun:=AnyE.slices_DeleteFunc Tryz.delL (Value.int .i64) (fun _=>rfl) (fun x=>x==id) 374 #[pt pb] eg 0 hz a.block a.off c l.toArray w h1 h2 hH (by simp;omega) (by simpa using hS.2.2.1)
 have ea:a=⟨a.block,a.off,none⟩:=by
  obtain⟨b',o,sp⟩:=a;simp only at hs;subst hs;rfl
 have hcall:=show Cx 373 #[.slice (some ⟨a.block,a.off,none⟩) l.length c,.func (.func 374) #[] #[pt pb]] w _ from hrun;rw[<-ea]at hcall;refine hcall.mono ?_;rintro e w' ⟨rfl,q,hw⟩;refine⟨rfl,?_⟩;have hfl:(l.filter fun x=>!(x==id)).length<=l.length:=List.length_filter_le _ _;have hlen:((l.filter fun x=>!(x==id))++List.replicate (l.length-(l.filter fun x=>!(x==id)).length) 0).length=l.length:=by simp;omega
 obtain⟨F',t1,t2,t3⟩:=hS.putRow (d:=(l.filter fun x=>!(x==id))++List.replicate (l.length-(l.filter fun x=>!(x==id)).length) 0) hlen (n:=q) (os:=#[])
 have e2:w'=Sort.grow (Sort.putRow (Value.int .i64) (Sort.ahead w q) a.block a.off ((l.filter fun x=>!(x==id))++List.replicate (l.length-(l.filter fun x=>!(x==id)).length) 0).toArray) #[]:=by
  rw[Sort.grow_empty];exact hw
 rw[<-e2]at t1 t2;refine⟨F',⟨t1.1,?_⟩,t2,t3⟩;have hT:=t1.2.takeN (l.filter fun x=>!(x==id)).length (by simp);rw[Nat.mul_one,<-List.map_take,List.take_append_of_le_length (Nat.le_refl _),List.take_length]at hT;exact hT
theorem XK {b:Nat} {y:Int×bS} {w:World} {F:Fp} (h:eO b w F y) {id d:Int} (hg:y.2 id=some d):Cx 324 #[pt b,I id] w fun e w'=>e=Z (I 0)/\aa (eO b) w w' F (y.1,lK y.2 id):=by
 obtain⟨L,n,h0,hv⟩:=h;obtain⟨now,g⟩:=y;simp only at h0 hv hg⊢;have hd:=hv.due id d hg;refine alp ?_;rw[t324];refine⟨fun w1 hN=>⟨fun g=>(by cases g),fun _=>?_⟩⟩;intro w2 q1 q2 q3 q4;have hU2:af no w w2:=(hN.ae no).and (af.same no q1 q2 q3 q4);have h2:=(Frame.ah b).ae h0 hU2 (fun _ _ h=>h);have hlt0:=(Frame.ah b).lt h0;obtain⟨bm,Fm,⟨ys,hB⟩,hM,_⟩:=h2.map;have hp2:aE w2 w.heap.size [I id] _:=hN.aF.ae (af.same no q1 q2 q3 q4) (fun h=>h);have hlk:=iz pH hM id true;simp only[hg,Option.map_some,Option.getD_some,Option.isSome_some,if_true]at hlk;refine⟨_,rfl,_,hB.cell rfl,_,hp2.bD rfl,_,_,hlk,fun g=>(by cases g),fun _=>⟨(XP h2 hv.tk hd.2).mono ?_⟩⟩;rintro e w3 ⟨rfl,hU3⟩;have h3:=(Frame.ah b).ae h2 hU3 (fun _ _ h=>h);have hlt3:=(Frame.ah b).lt h3;have hp3:=hp2.ae hU3 (fun h=>h);have hixF:dw now g id=br now.toNat d.toNat:=by unfold dw;rw[hg];rfl
 have hix:br now.toNat d.toNat<L.length:=by rw[hv.len,<-hixF];exact wc hv.tk hd.2 hg
 obtain⟨p,c,F1,hA⟩:=h3.at (i:=br now.toNat d.toNat) hix;have hmem:=(hv.at_ (br now.toNat d.toNat) id).2 ⟨d,hg,rfl⟩;have hlen:=hv.tY (br now.toNat d.toNat);refine⟨_,rfl,_,rfl,_,_,_,hA.cell w3 (af.refl _ _),?_⟩;have hLs:=hA.ls;have hput:=hA.put;simp only at hLs hput⊢
 cases p with
 | none=>
  have:=(hLs.zero rfl).1;rw[this]at hmem
  cases hmem
 | some a=>
  have hFa:F1 a.block:=(hLs.1 _).2 ⟨a,rfl,rfl⟩
  have hpb:w.heap.size≠a.block:=by
   have:=hlt0 _ (hA.sub _ hFa);omega
  refine⟨(aae (hp3.bD rfl) hLs hpb (by omega)).mono ?_⟩;rintro e w4 ⟨rfl,hT4⟩;refine⟨some a,_,c,rfl,_,rfl,?_⟩;refine hput w4 (some a) c _ hT4 _ fun w5 h5=>?_;intro w6 r1 r2 r3 r4;have h6:=h5.ae (af.same no r1 r2 r3 r4);obtain⟨F6,k6,kk6⟩:=h6.bI;obtain⟨bm',Fm',⟨ys',hB'⟩,hM',kM'⟩:=k6.map;have hp6:aE w6 w.heap.size [I id] _:=hp3.ae (show af F w3 w6 from(by obtain⟨_,_,u,_⟩:=h6;exact u)) (fun hf=>by have:=hlt0 _ hf;omega);obtain⟨w7,hrun,hT7⟩:=ph pH hM' id 3 (0:TypeId);refine⟨_,rfl,_,hB'.cell rfl,_,hp6.bD rfl,w7,hrun,trivial,?_⟩;have h7:=kk6 _ _ (kM' _ _ hT7);have h8:aa (cN b) w w7 F (now,L.set (br now.toNat d.toNat) ((L.getD (br now.toNat d.toNat) []).filter fun x=>!(x==id)),eX (g,n) id):=aa.next h3 ((hU2.and hU3).mono (fun _ _ h=>h.elim)) (fun _ h=>.inl h) h7;have hv':=hv.del hg;rw[hixF]at hv';exact eO.of h8 hv'
theorem Lx (w:World) (o:Obj) {i:Nat} (h:i<w.heap.size):(w.alloc o).heap[i]?=w.heap[i]?:=by
 show(w.heap.push o)[i]?=_;rw[Array.getElem?_push,if_neg (by omega)]
theorem wfF {n:Int} (h:1<=n/\n<=48):(Lit.int .i64 n).wf=true:=by
 simp[Lit.wf,IntKind.min,IntKind.max,IntKind.bits,IntKind.signed];omega
theorem amI {b:Nat} {y:Int×bS} {w:World} {F:Fp} (h:eO b w F y):Cx 184 #[pt b] w fun e w'=>∃l q d,e=Z (.slice q l.length d)/\Cells w' q (l.map (Value.int .i64))/\af no w w'/\(∀j,aL q j->w.heap.size<=j)/\(∃r:List Int,l=dN (fun id=>(y.2 id).getD 0) r/\r.Nodup/\∀id,id∈r↔(y.2 id).isSome=true):=by
 obtain⟨L,n,h,hv⟩:=h;obtain⟨bm,Fm,⟨ys,hB⟩,hM,_⟩:=h.map
 have hsmall:n<=48:=by
  obtain⟨_,es,clock,E,_,_,hn,hx,hl,_⟩:=hM;simp only at hl;rw[hl]
  have:=Fy (l:=E.map Prod.fst) hn (fun id hid=>by
   obtain⟨p,hp,rfl⟩:=List.mem_map.1 hid;exact(hv.due p.1 p.2 ((hx p.1 p.2).2 hp)).1)
  simpa using this
 obtain⟨D,ks,hown,hperm,hnd,hmem,hlen,hsize⟩:=aS.owns (P:=Tryz.prog) (k:=3) (by kernel_rfl) hM (fun m v hmv=>wfF (hv.due m v hmv).1) (by simp only;unfold maxLen;omega);simp only at hown hlen hsize hmem;refine ajz ?_;rw[t184];refine⟨fun g=>(by cases g),fun _=>⟨_,rfl,_,hB.cell rfl,?_⟩⟩;have hK:=callsIn_wide.1 (AnyZI.keys_in Tryz.keysL Fence.wide 9 trivial rfl (some bm) w);refine⟨Calls.mono (show Cx 276 _ _ _ from hK) ?_⟩;rintro e w1 ⟨rfl,rfl⟩;refine⟨_,rfl,?_⟩
 have hbl:bm<w.heap.size:=by
  obtain⟨es,clock,hb,_⟩:=hown;exact oX hb
 have hseq:SeqGives Fence.wide (9-1-1) Tryz.prog 348 #[pt w.heap.size] encZ (fun ss=>ss.Perm (intKeys D)) (Maps.size D) (w.alloc (.cells #[.map (some bm)] 285)):=
  AnyZI.keys_gives (ρ:=Tryz.keysL_ren) {Tryz.keysL with} Fence.wide _ trivial rfl (by omega) w.heap.size bm n D _ (by simp) (by simp) (by
   obtain⟨es,clock,hb,Ft,hs,hD⟩:=hown;exact⟨es,clock,(Lx w _ hbl).trans hb,Ft,hs,hD⟩)
 have hC:=callsIn_wide.1 (AnyZI.collect_in Tryz.collL Fence.wide 9 trivial trivial rfl (by omega) 348 #[pt w.heap.size] trivial (enters_of Tryz.func348 (by kernel_rfl) rfl) (fun ss=>ss.Perm (intKeys D)) (Maps.size D) (by rw[hsize];unfold maxLen;omega) (by rw[hsize];omega) (w.alloc (.cells #[.map (some bm)] 285)) hseq);have hU1:af no w (w.alloc (.cells #[.map (some bm)] 285)):=⟨by simp,rfl,rfl,rfl,fun i hi _=>Lx w _ hi⟩;refine⟨Calls.mono (show Cx 275 _ _ _ from hC) ?_⟩;rintro e w2 ⟨v,ss,rfl,hS,hrow,hnil,hb⟩;have hU2:af no w w2:=hU1.and ⟨hb.size,hb.os,hb.tape,hb.output,fun i hi _=>hb.block i hi⟩;have hss:ss.Perm ks:=hS.trans hperm
 have hvs:∃q d,v=.slice q ss.length d/\Cells w2 q (ss.map (Value.int .i64))/\(q=none->ss=[]/\d=0):=by
  obtain⟨h1,h2⟩:=hrow;rcases h2 with⟨rfl,h0⟩|⟨g,cap,cur,rfl,_,hg,hn,hm,hsz,ht⟩
  ·have h0:ss=[]:=List.length_eq_zero_iff.1 h0;subst h0;exact⟨none,0,rfl,Cells.nil _ _,fun _=>⟨rfl,rfl⟩⟩
  ·refine⟨some ⟨g,0,none⟩,cap,rfl,fun j v hj=>⟨_,rfl,?_⟩,fun h=>by cases h⟩
   have hj':j<ss.length:=by
    have:=(List.getElem?_eq_some_iff.1 hj).1;simpa using this
   have hB2:aE w2 g cur.toList _:=hg;rw[add_lit,vB hB2,Nat.zero_add];rw[<-ht,List.getElem?_take,if_pos (by omega)]at hj;exact hj
 obtain⟨q,d,rfl,hcs,hq⟩:=hvs;have h2:=(Frame.ah b).ae h hU2 (fun _ _ h=>h);refine⟨_,_,_,rfl,⟨(Gs h2 hcs (by rw[hss.length_eq,hlen];omega) hq).mono ?_⟩⟩;rintro e w3 ⟨q',d',rfl,hC3,hU3,hfr⟩;refine⟨_,_,_,rfl,_,q',d',rfl,hC3,hU2.and hU3,fun j hj=>Nat.le_trans hU2.size (hfr j hj),ss,rfl,hss.nodup_iff.2 hnd,fun id=>?_⟩;rw[hss.mem_iff];exact hmem id
end Go.Dav
namespace Go.Dav
open Go.Proofs
abbrev l0:gi:=(none,0,[])
theorem ahE {l:List Value} {k:Nat} (h:k+8<=l.length):(l.drop k).take 8=[l[k],l[k+1],l[k+2],l[k+3],l[k+4],l[k+5],l[k+6],l[k+7]]:=by
 rw[List.drop_eq_getElem_cons (by omega),List.drop_eq_getElem_cons (by omega),List.drop_eq_getElem_cons (by omega),List.drop_eq_getElem_cons (by omega),List.drop_eq_getElem_cons (by omega),List.drop_eq_getElem_cons (by omega),List.drop_eq_getElem_cons (by omega),List.drop_eq_getElem_cons (by omega)];rfl
theorem afz (ys:List gi) (i:Nat):(rws ys).getD i []=(ys.getD i l0).2.2:=by
 simp only[List.getD_eq_getElem?_getD,rws,List.getElem?_map];cases ys[i]?<;>rfl
def kP (ys:List gi) (i:Nat):Value:=eT (ys.getD i l0)
theorem Gp {bm:Nat} {n:Int} {ys:List gi} {i:Nat} (hi:i<ys.length):(jg bm (n,ys))[2+i]?=some (kP ys i):=by
 unfold jg kP;rw[show 2+i=i+2 by omega];simp[hi]
theorem amM {b:Nat} {now:Int} {L:List (List Int)} {m:jh} {w:World} {F:Fp} (h:cN b w F (now,L,m)) (hL:L.length=169) (hne:∃i id,id∈L.getD i []):Cx 362 #[pt b] w fun e w'=>∃i q c,e=Z (.slice q (L.getD i []).length c)/\Cells w' q ((L.getD i []).map (Value.int .i64))/\(q=none->L.getD i []=[]/\c=0)/\L.getD i []≠[]/\i<169/\(i=168∨(L.getD 168 []=[]/\∀j,j<i->L.getD j []=[]))/\af no w w':=by
 have row:∀(w':World) (ys:List gi) (bm:Nat) (i:Nat),af no w w'->i<169->rws ys=L->aE w b (jg bm (now,ys)) 289->Cells w' (ys.getD i l0).1 ((L.getD i []).map (Value.int .i64))/\((ys.getD i l0).1=none->L.getD i []=[]/\(ys.getD i l0).2.1=0):=by
  intro w' ys bm i hU hi hr hB;have h':=(Frame.ah b).ae h hU (fun _ _ h=>h);obtain⟨p,c,F1,hA⟩:=h'.at (i:=i) (by show i<L.length;rw[hL];exact hi);have hcell:=hA.cell w' (af.refl _ _);have hB':=hB.ae hU (fun h=>h);have hlen:i<ys.length:=by rw[<-rO,hr,hL];exact hi
  rw[hB'.cell (Gp hlen)]at hcell;unfold kP eT at hcell;simp only[Option.some.injEq,Value.slice.injEq]at hcell;obtain⟨e1,_,e3⟩:=hcell;rw[e1,e3];exact⟨hA.ls.cells,hA.ls.zero⟩
 obtain⟨bm,ys,hst,hr⟩:=id h;simp only at hr hst;obtain⟨G,hW,_⟩:=au.left hst;have hB:aE w b (jg bm (now,ys)) 289:=hW.ai;have hyl:ys.length=169:=by rw[<-rO,hr,hL]
 have hlen:∀i,(ys.getD i l0).2.2=L.getD i []:=fun i=>by rw[<-hr,afz]
 have h168:w.cell? ((⟨b,0,none⟩:Addr).add 170)=some (.slice (ys.getD 168 l0).1 (ys.getD 168 l0).2.2.length (ys.getD 168 l0).2.1):=hB.cell (k:=170) (Gp (i:=168) (by omega));refine alS ?_;rw[t362];refine⟨_,rfl,_,_,_,h168,fun g=>⟨_,rfl,_,_,_,h168,168,(ys.getD 168 l0).1,(ys.getD 168 l0).2.1,?_⟩,fun g=>⟨_,rfl,(ys.map eT).take 168,by simp[hyl],?_,?_⟩⟩
 ·have g:=of_decide_eq_true g;rw[hlen 168]at g⊢;obtain⟨r1,r2⟩:=row w ys bm 168 (af.refl _ _) (by decide) hr hB;refine⟨rfl,r1,r2,fun h0=>?_,by decide,.inl rfl,af.refl _ _⟩;rw[h0]at g;simp at g
 ·intro j v hj
  have hj1:j<168:=by
   have:=(List.getElem?_eq_some_iff.1 hj).1;simp at this;omega
  rw[List.getElem?_take_of_lt hj1,List.getElem?_map]at hj;rw[Addr.add_add];refine hB.cell ?_;rw[Gp (by omega)];have:ys[j]?=some (ys.getD j l0):=by simp[List.getD_eq_getElem?_getD,show j<ys.length by omega]
  rw[this]at hj;exact hj
 ·have g:=of_decide_eq_false g
  have hready:L.getD 168 []=[]:=by
   rw[hlen 168]at g;exact List.length_eq_zero_iff.1 (by omega)
  have hcs:((ys.map eT).take 168).length=168:=by simp[hyl]
  have hat:∀k (hk:k<168),((ys.map eT).take 168)[k]'(by rw[hcs];exact hk)=kP ys k:=fun k hk=>by
   unfold kP;simp[List.getD_eq_getElem?_getD,show k<ys.length by omega]
  refine⟨bA bf (M:=gk) (σ:=Nat×Option Addr×Nat×Nat) (fun x=>Dg x.2.1 x.2.2.1 x.2.2.2 ((ys.map eT).take 168) (x.1:Int)) (fun x w'=>x.1<=21/\(∀j,j<x.1*8->L.getD j []=[])/\af no w w') (fun x _=>21-x.1) (0,none,0,0) ⟨rfl,rfl,rfl,trivial⟩ ⟨by simp only;omega,fun j hj=>by simp only at hj;omega,af.refl _ _⟩ ?_⟩;rintro⟨i,p,n,c⟩ w1 ⟨hi,hem,hU⟩;simp only at hi hem⊢;rw[ag3];refine⟨fun g2=>?_,fun g2=>?_⟩
  ·have g2:=of_decide_eq_true g2;refine⟨⟨by omega,by omega⟩,?_⟩
   have e8:List.take 8 (List.drop ((i:Int).toNat*8) ((ys.map eT).take 168).toArray.toList)=[kP ys (i*8),kP ys (i*8+1),kP ys (i*8+2),kP ys (i*8+3),kP ys (i*8+4),kP ys (i*8+5),kP ys (i*8+6),kP ys (i*8+7)]:=by
    rw[Int.toNat_natCast,List.toList_toArray,ahE (by rw[hcs];omega),hat _ (by omega),hat _ (by omega),hat _ (by omega),hat _ (by omega),hat _ (by omega),hat _ (by omega),hat _ (by omega),hat _ (by omega)]
   refine⟨_,_,_,_,_,_,_,_,_,_,_,_,_,_,_,_,_,_,_,_,_,_,_,_,e8,⟨fun w2 hN=>hN.aF.gF (by simp) fun w3 hW3=>?_⟩⟩;have hB3:=hW3.aF;have hU3:af no w w3:=(hU.and (hN.ae no)).trans hW3.U (fun j hj e=>by have:=hU.size;omega);refine⟨_,_,_,hB3.cell rfl,_,_,_,hB3.cell rfl,_,_,_,hB3.cell rfl,_,_,_,hB3.cell rfl,_,_,_,hB3.cell rfl,_,_,_,hB3.cell rfl,_,_,_,hB3.cell rfl,_,_,_,hB3.cell rfl,?_⟩;refine⟨bA bf (M:=gk) (σ:=Nat×Option Addr×Nat×Nat) (fun x=>Dh x.2.1 x.2.2.1 x.2.2.2 ((ys.map eT).take 168) (i:Int) (ys.getD (i*8) l0).1 (ys.getD (i*8) l0).2.2.length (ys.getD (i*8) l0).2.1 (ys.getD (i*8+1) l0).1 (ys.getD (i*8+1) l0).2.2.length (ys.getD (i*8+1) l0).2.1 (ys.getD (i*8+2) l0).1 (ys.getD (i*8+2) l0).2.2.length (ys.getD (i*8+2) l0).2.1 (ys.getD (i*8+3) l0).1 (ys.getD (i*8+3) l0).2.2.length (ys.getD (i*8+3) l0).2.1 (ys.getD (i*8+4) l0).1 (ys.getD (i*8+4) l0).2.2.length (ys.getD (i*8+4) l0).2.1 (ys.getD (i*8+5) l0).1 (ys.getD (i*8+5) l0).2.2.length (ys.getD (i*8+5) l0).2.1 (ys.getD (i*8+6) l0).1 (ys.getD (i*8+6) l0).2.2.length (ys.getD (i*8+6) l0).2.1 (ys.getD (i*8+7) l0).1 (ys.getD (i*8+7) l0).2.2.length (ys.getD (i*8+7) l0).2.1 (x.1:Int)) (fun x w'=>x.1<=8/\(∀j,j<i*8+x.1->L.getD j []=[])/\af no w w') (fun x _=>8-x.1) (0,p,n,c) ⟨rfl,rfl,rfl,rfl,rfl,trivial⟩ ⟨by simp only;omega,fun j hj=>hem j (by simp only at hj;omega),hU3⟩ ?_⟩;rintro⟨k,p',n',c'⟩ w4 ⟨hk,hem4,hU4⟩;simp only at hk hem4⊢;rw[ag4];refine⟨fun g3=>?_,fun g3=>?_⟩
   ·have g3:=of_decide_eq_true g3;have hk':k<8:=by omega
    refine⟨⟨by omega,by omega⟩,(ys.getD (i*8+k) l0).1,(ys.getD (i*8+k) l0).2.2.length,(ys.getD (i*8+k) l0).2.1,?_,fun g4=>?_,fun g4=>?_⟩
    ·rw[Int.toNat_natCast,Nat.mul_one]
     match k,hk' with
     | 0,_|1,_|2,_|3,_|4,_|5,_|6,_|7,_=>rfl
    ·have g4:=of_decide_eq_true g4;obtain⟨r1,r2⟩:=row w4 ys bm (i*8+k) hU4 (by omega) hr hB;rw[hlen]at g4⊢;refine⟨i*8+k,_,_,rfl,r1,r2,fun h0=>?_,by omega,.inr ⟨hready,fun j hj=>hem4 j hj⟩,hU4⟩;rw[h0]at g4;simp at g4
    ·have g4:=of_decide_eq_false g4;refine⟨(k+1,_,_,_),⟨rfl,rfl,rfl,rfl,by rw[aD (by omega)];rfl,trivial⟩,⟨by simp only;omega,fun j hj=>?_,hU4⟩,by simp only;omega⟩;simp only at hj;by_cases hjk:j=i*8+k
     ·subst hjk;rw[hlen]at g4;exact List.length_eq_zero_iff.1 (by omega)
     ·exact hem4 j (by omega)
   ·have g3:=of_decide_eq_false g3;have:k=8:=by omega
    subst this;exact⟨(i+1,p',n',c'),⟨rfl,rfl,by rw[aD (by omega)];rfl,trivial⟩,⟨by simp only;omega,fun j hj=>hem4 j (by simp only at hj;omega),hU4⟩,by simp only;omega⟩
  ·have g2:=of_decide_eq_false g2;exfalso;obtain⟨j,id,hid⟩:=hne;by_cases hj:j<168
   ·rw[hem j (by omega)]at hid;cases hid
   ·by_cases hj2:j=168
    ·rw[hj2,hready]at hid;cases hid
    ·rw[List.getD_eq_getElem?_getD,List.getElem?_eq_none (by omega)]at hid;cases hid
theorem aS.zero {α:Type} {f:α->Value} {b:Nat} {w:World} {F:Fp} {x:(Int->Option α)×Nat} (h:aS b f w F x):x.2=0↔∀k,x.1 k=none:=by
 obtain⟨_,es,clock,E,_,_,hn,hx,hl,_⟩:=h;constructor
 ·intro h0 k
  cases hv:x.1 k with
  | none=>rfl
  | some v=>
   have:=(hx k v).1 hv;rw[hl]at h0;rw[List.length_eq_zero_iff.1 h0]at this;cases this
 ·intro h0;rw[hl]
  cases E with
  | nil=>rfl
  | cons p E=>
   have:=(hx p.1 p.2).2 (List.mem_cons_self ..);rw[h0]at this;cases this
theorem W8 {g:Int->Int} {l r:List Int} {a:Int} (h:dN g l=a::r):a∈l/\∀id∈l,g a<=g id:=by
 have hp:=gX g l;have hs:=uj g l;rw[h]at hp hs;refine⟨hp.mem_iff.1 List.mem_cons_self,fun id hid=>?_⟩;have:=hp.mem_iff.2 hid;rcases List.mem_cons.1 this with rfl|hm
 ·exact Int.le_refl _
 ·have:=(List.pairwise_cons.1 hs).1 id hm;rw[mD]at this;omega
theorem aa5 {now:Int} {L:List (List Int)} {g:bS} (hv:gK now L g) {i:Nat} (hi:i<169) (hne:L.getD i []≠[]) (hfirst:i=168∨(L.getD 168 []=[]/\∀j,j<i->L.getD j []=[])) {t:Int} {a:Int} (ha:a∈L.getD i []) (hat:g a=some t) (hmin:∀id∈L.getD i [],∀t',g id=some t'->t<=t'):∀id' t',g id'=some t'->t<=t':=by
 intro id' t' h';have hm:=(hv.at_ (br now.toNat t'.toNat) id').2 ⟨t',h',rfl⟩;by_cases hj:br now.toNat t'.toNat=i
 ·rw[hj]at hm;exact hmin id' hm t' h'
 ·have ht':=(hv.due id' t' h').2;have ht:=(hv.due a t hat).2;obtain⟨t2,h2,e2⟩:=(hv.at_ i a).1 ha;rw[hat]at h2;cases h2;have hn:=hv.tk;unfold aN at ht ht' hn;rcases hfirst with rfl|⟨h168,hlt⟩
  ·have h1:t.toNat<=now.toNat:=by
    unfold br at e2;split at e2
    ·assumption
    ·rename_i hh;have:=TD (now:=now.toNat) (due:=t.toNat) (by omega) (by omega) (by omega);omega
   have h3:¬t'.toNat<=now.toNat:=fun hh=>hj (by unfold br;rw[if_pos hh]);omega
  ·have hj168:br now.toNat t'.toNat≠168:=fun e=>by rw[e,h168]at hm;cases hm
   have hji:¬br now.toNat t'.toNat<i:=fun e=>by rw[hlt _ e]at hm;cases hm
   have hi168:i≠168:=fun e=>by rw[e]at hne;exact hne h168
   have h1:¬t.toNat<=now.toNat:=fun hh=>by unfold br at e2;rw[if_pos hh]at e2;omega
   have h3:¬t'.toNat<=now.toNat:=fun hh=>by unfold br at hj168;rw[if_pos hh]at hj168;exact hj168 rfl
   have e3:br now.toNat t.toNat=aH t.toNat now.toNat*8+ej t.toNat (aH t.toNat now.toNat):=by unfold br;rw[if_neg h1]
   have e4:br now.toNat t'.toNat=aH t'.toNat now.toNat*8+ej t'.toNat (aH t'.toNat now.toNat):=by unfold br;rw[if_neg h3]
   have:=acf (now:=now.toNat) (a:=t.toNat) (b:=t'.toNat) (by omega) (by omega) (by omega);omega
theorem amV {b:Nat} {y:Int×bS} {w:World} {F:Fp} (h:eO b w F y):Cx 303 #[pt b] w fun e w'=>(((∀id,y.2 id=none)/\e=Z (.tuple #[I 0,I 12]))∨∃a t,y.2 a=some t/\(∀id' t',y.2 id'=some t'->t<=t')/\e=Z (.tuple #[I t,I 0]))/\af no w w':=by
 obtain⟨L,n,h,hv⟩:=h;obtain⟨now,g⟩:=y;simp only at h hv⊢;obtain⟨bm,Fm,⟨ys,hB⟩,hM,_⟩:=h.map;have hz:=hM.zero;simp only at hz;refine ak3 ?_;rw[t303];refine⟨fun g=>(by cases g),fun _=>⟨_,rfl,_,hB.cell rfl,n,fun ty=>Ff pH hM ty,fun g1=>?_,fun g1=>?_⟩⟩
 ·have g1:n=0:=by simpa using g1
  exact⟨.inl ⟨hz.1 g1,rfl⟩,af.refl _ _⟩
 ·have g1:n≠0:=by simpa using g1
  intro w1 q1 q2 q3 q4;have hU1:=af.same no q1 q2 q3 q4;have h1:=(Frame.ah b).ae h hU1 (fun _ _ h=>h);have hB1:=hB.ae hU1 (fun h=>h)
  have hne:∃i id,id∈L.getD i []:=by
   by_cases hall:∀k,g k=none
   ·exact absurd (hz.2 hall) g1
   ·obtain⟨k,hk⟩:=Classical.not_forall.1 hall
    cases hv2:g k with
    | none=>exact absurd hv2 hk
    | some t=>exact⟨_,k,(hv.at_ _ k).2 ⟨t,hv2,rfl⟩⟩
  refine⟨_,rfl,_,hB1.cell rfl,⟨(amM h1 hv.len hne).mono ?_⟩⟩;rintro e w2 ⟨i,q,c,rfl,hC,hq,hne2,hi,hfirst,hU2⟩;have h2:=(Frame.ah b).ae h1 hU2 (fun _ _ h=>h);have hB2:=hB1.ae hU2 (fun h=>h);refine⟨_,_,_,rfl,hB2.cell rfl,⟨(Gs h2 hC (by have:=hv.tY i;omega) hq).mono ?_⟩⟩;rintro e w3 ⟨q',d',rfl,hC3,hU3,_⟩;have h3:=(Frame.ah b).ae h2 hU3 (fun _ _ h=>h);have hB3:=hB2.ae hU3 (fun h=>h);obtain⟨bm3,Fm3,⟨ys3,hB3'⟩,hM3,_⟩:=h3.map
  have ebm:bm3=bm:=by
   have e1:=hB3'.cell (k:=1) (v:=.map (some bm3)) rfl;have e2:=hB3.cell (k:=1) (v:=.map (some bm)) rfl;rw[e1]at e2;simpa using e2
  subst ebm
  cases hs:dN (jY (g,n)) (L.getD i [])with
  | nil=>
   exfalso;have:=(gX (jY (g,n)) (L.getD i [])).length_eq;rw[hs]at this
   exact hne2 (List.length_eq_zero_iff.1 this.symm)
  | cons a r=>
   simp only[hs]at hC3⊢;obtain⟨ha,hmin⟩:=W8 hs;obtain⟨t,hat,_⟩:=(hv.at_ i a).1 ha;obtain⟨ad,had,hcell⟩:=hC3.bC (i:=0) (l:=a::r) (by simp);have hlk:=iz pH hM3 a false;simp only[hat,Option.map_some,Option.getD_some]at hlk;refine⟨_,_,_,rfl,hB3.cell rfl,⟨by omega,by simp⟩,ad,had,a,by simpa using hcell,t,hlk,.inr ⟨a,t,hat,?_,rfl⟩,(hU1.and hU2).and hU3⟩;refine aa5 hv hi hne2 hfirst ha hat (fun id hid t' h'=>?_);have:=hmin id hid;unfold jY at this;simp only[hat,h',Option.getD_some]at this;exact this
end Go.Dav
namespace Go.Dav
theorem Bf {t:cA} {i:Nat} (hi:i<t.length) (v:Option (Int×Int)) (id:Int):aO (t.set i v) id=if id=(i:Int)+1 then v else aO t id:=by
 unfold aO;by_cases h1:1<=id
 ·rw[if_pos h1,if_pos h1];by_cases hid:id=(i:Int)+1
  ·subst hid;have e1:((i:Int)+1).toNat-1=i:=by omega
   rw[if_pos rfl,e1];simp[List.getD_eq_getElem?_getD,hi]
  ·rw[if_neg hid];have:i≠id.toNat-1:=by omega
   simp[List.getD_eq_getElem?_getD,this]
 ·rw[if_neg h1,if_neg h1,if_neg (by omega)]
theorem xi {t:cA} {id:Int} {p:Int×Int} (h:aO t id=some p):1<=id/\id<=t.length:=by
 unfold aO at h;split at h
 ·rename_i h1;refine⟨h1,?_⟩
  have:id.toNat-1<t.length:=by
   apply Classical.byContradiction;intro hn;rw[List.getD_eq_getElem?_getD,List.getElem?_eq_none (by omega)]at h;cases h
  omega
 ·cases h
theorem FR {t:cA} {id:Int} {p:Int×Int} (h:aO t id=some p) (v:Option (Int×Int)) (j:Int):aO (t.set (id.toNat-1) v) j=if j=id then v else aO t j:=by
 have:=xi h;rw[Bf (by omega)];have e:((id.toNat-1:Nat):Int)+1=id:=by omega
 rw[e]
theorem DM {t:cA} {i:Nat} (h:oQ t=some i):i<t.length/\aO t ((i:Int)+1)=none:=by
 obtain⟨hi,h1,_⟩:=List.findIdx?_eq_some_iff_getElem.1 h;refine⟨hi,?_⟩;unfold aO;have e1:((i:Int)+1).toNat-1=i:=by omega
 rw[if_pos (by omega),e1,List.getD_eq_getElem?_getD,List.getElem?_eq_getElem hi];simpa using h1
theorem Be (n:Nat) (id:Int):aO (List.replicate n none) id=none:=by
 unfold aO;split
 ·rw[List.getD_eq_getElem?_getD];by_cases h:id.toNat-1<n
  ·simp[h]
  ·rw[List.getElem?_eq_none (by simpa using h)];rfl
 ·rfl
theorem LK (x:bG) (c due:Int):((cx x c due).2=0/\cE x c/\∃i:Nat,i<x.t.length/\aO x.t ((i:Int)+1)=none/\(cx x c due).1=(i:Int)+1/\eP x c due={x with t:=x.t.set i (some (c,due))})∨((cx x c due).2≠0/\eP x c due=x):=by
 unfold cx eP;by_cases h1:cE x c
 ·by_cases h2:aN due
  ·rw[if_pos h1,if_pos h2,if_pos ⟨h1,h2⟩]
   cases hf:oQ x.t with
   | none=>exact .inr ⟨by simp,rfl⟩
   | some i=>exact .inl ⟨rfl,h1,i,(DM hf).1,(DM hf).2,rfl,rfl⟩
  ·rw[if_pos h1,if_neg h2,if_neg (fun h=>h2 h.2)];exact .inr ⟨by simp,rfl⟩
 ·rw[if_neg h1,if_neg (fun h=>h1 h.1)];exact .inr ⟨by simp,rfl⟩
theorem RP {x:bG} {id:Int} {p:Int×Int} (h:aO x.t id=some p) (j:Int):aO (pU x id).t j=if j=id then none else aO x.t j:=FR h none j
theorem sK (x:bG) (id j:Int):aO (gM x id).t j=if j=id then none else aO x.t j:=by
 unfold gM
 cases h:aO x.t id with
 | none=>
  simp only;split
  ·rename_i e;subst e;exact h
  ·rfl
 | some p=>exact RP h j
theorem FQ {t:cA} {i:Nat} (hi:i<t.length):aO t ((i:Int)+1)=t[i]:=by
 unfold aO;have e1:((i:Int)+1).toNat-1=i:=by omega
 rw[if_pos (by omega),e1,List.getD_eq_getElem?_getD,List.getElem?_eq_getElem hi];rfl
theorem iT {t:cA} {q:Int×Int->Bool} {id:Int}:id∈eU t q↔∃x,aO t id=some x/\q x=true:=by
 unfold eU;rw[List.mem_map];constructor
 ·rintro⟨i,hi,rfl⟩;rw[List.mem_filter]at hi;obtain⟨h1,h2⟩:=hi;have h1:=List.mem_range.1 h1;rw[FQ h1];rw[List.getD_eq_getElem?_getD,List.getElem?_eq_getElem h1,Option.getD_some]at h2
  cases h3:t[i]with
  | none=>rw[h3]at h2;simp at h2
  | some x=>rw[h3]at h2;exact⟨x,rfl,h2⟩
 ·rintro⟨x,hx,hq⟩;have hr:=xi hx;have hlt:id.toNat-1<t.length:=by omega
  refine⟨id.toNat-1,?_,by omega⟩;rw[List.mem_filter];refine⟨List.mem_range.2 hlt,?_⟩;have e:((id.toNat-1:Nat):Int)+1=id:=by omega
  have:=FQ hlt;rw[e,hx]at this;rw[List.getD_eq_getElem?_getD,List.getElem?_eq_getElem hlt,Option.getD_some,<-this];exact hq
theorem adN (t:cA) (q:Int×Int->Bool):(eU t q).Nodup:=by
 unfold eU;refine List.Pairwise.map _ (R:=fun(a b:Nat)=>a≠b) (fun a b h=>by omega) ?_;exact(List.nodup_range).filter _
def cL (t:cA) (c:Int):Int->Option Int:=fun id=>match aO t id with
 | some p=>if p.1=c then some p.2 else none
 | none=>none
theorem kc {t:cA} {c id d:Int}:cL t c id=some d↔aO t id=some (c,d):=by
 unfold cL
 cases h:aO t id with
 | none=>simp
 | some p=>
  obtain⟨a,b⟩:=p;simp only;split
  ·rename_i e;subst e;simp
  ·rename_i e;simp[e]
theorem FB {t:cA} {c:Int} {q:Int×Int->Bool} (hq:∀x,q x=true->x.1=c) {r:List Int} (hn:r.Nodup) (hm:∀id,id∈r↔∃x,aO t id=some x/\q x=true):dN (fun id=>(cL t c id).getD 0) r=dN (gN t) (eU t q):=by
 have hp:r.Perm (eU t q):=(List.perm_ext_iff_of_nodup hn (adN t q)).2 fun id=>by rw[hm,iT]
 rw[af5 hp];refine af4 fun id hid=>?_;obtain⟨x,hx,hqx⟩:=iT.1 hid;unfold gN cL;rw[hx];simp[hq x hqx]
end Go.Dav
namespace Go.Dav
open Go.Proofs
theorem pB:mf Tryz.prog 78 3 3 (I 0):=⟨by kernel_rfl,by kernel_rfl,by kernel_rfl,by kernel_rfl⟩
theorem elW:dH Tryz.prog 183 181 1 8 [.pointer none]:=⟨by kernel_rfl,by kernel_rfl,rfl,by omega⟩
def mU (b2 bm:Nat) (p:Option Addr) (n c:Nat):List Value:=[pt b2,.slice p n c,.map (some bm)]
abbrev BI (b b2 bm:Nat):Ob (List (Int×bS)):=Tq eO b 185 181 (mU b2 bm)
abbrev cm (b b2 bm:Nat):Ob ((List Bool×List (Int×bS))×jh):=au (au (b8 b2) (BI b b2 bm)) (aS bm (Value.int .i64))
def ve {σ:Type} (A:Nat->Ob σ) (b:Nat) (T E:TypeId) (enc:Option Addr->Nat->Nat->List Value) (p:Option Addr) (c:Nat):Ob (List σ):=fun w F x=>∃qs,au (xB σ b T E enc) (Fam (At A)) w F ((qs,(p,c)),qs)/\qs.map (·.2)=x
section
variable {σ:Type} {A:Nat->Ob σ} [fa:∀b,Frame (A b)] {b:Nat} {T E:TypeId} {enc:Option Addr->Nat->Nat->List Value} {w w1 w':World} {F:Fp} {x:List σ}
instance Frame.tqp {p:Option Addr} {c:Nat}:Frame (ve A b T E enc p c) where
 ae:=fun⟨qs,h,r⟩ k hG=>⟨qs,Frame.star.ae h k hG,r⟩
 lt:=fun⟨_,h,_⟩=>Frame.star.lt h
theorem ve.at {p:Option Addr} {c:Nat} (h:ve A b T E enc p c w F x) {i:Nat} (hi:i<x.length):∃a bi F1,p=some a/\aE w b (enc p x.length c) T/\w.cell? (a.add (i*1))=some (pt bi)/\A bi w F1 x[i]/\
  ∀w' s',aa (A bi) w w' F1 s'->aa (ve A b T E enc p c) w w' F (x.set i s'):=by
 obtain⟨qs,h,rfl⟩:=h;have hi':i<qs.length:=by simpa using hi
 obtain⟨G1,h1,_⟩:=h.left;obtain⟨G2,h2,k2⟩:=h.right;simp only at h1 h2;obtain⟨a,ha,hc⟩:=h1.sl.cells.bC (f:=fx) (l:=qs) hi';simp only at ha;subst ha;obtain⟨F1,q1,_,q2⟩:=Fam.at h2 hi';refine⟨a,qs[i].1,F1,rfl,by rw[List.length_map];exact h1.ai,hc,by rw[List.getElem_map];exact q1,fun w' s' hT=>?_⟩;obtain⟨F1',t1,t2,t3⟩:=hT;have hk:=k2 _ _ (q2 w' (qs[i].1,s') ⟨F1',t1,t2,t3⟩);obtain⟨F',⟨H1,H2,u1,u2,u3,u4⟩,v2,v3⟩:=hk;simp only at u1 u2
 have e1:(qs.set i (qs[i].1,s')).map (fx (σ:=σ))=qs.map fx:=by
  rw[List.map_set];show(qs.map fx).set i (fx qs[i])=qs.map fx;apply List.ext_getElem?;intro j;rw[List.getElem?_set];by_cases hj:i=j
  ·subst hj;simp[hi']
  ·simp[hj]
 refine⟨F',⟨qs.set i (qs[i].1,s'),⟨H1,H2,?_,u2,u3,u4⟩,?_⟩,v2,v3⟩
 ·obtain⟨a1,a2,a3,a4⟩:=u1;refine⟨?_,?_,a3,a4⟩
  ·simp only[List.length_set];exact a1
  ·simp only[List.length_set];rw[e1];exact a2
 ·rw[List.map_set]
end
abbrev ng (b b2 bm:Nat) (p:Option Addr) (c:Nat):Ob ((List Bool×List (Int×bS))×jh):=au (au (b8 b2) (ve eO b 185 181 (mU b2 bm) p c)) (aS bm (Value.int .i64))
theorem cm.fix {b b2 bm:Nat} {w:World} {F:Fp} {s:(List Bool×List (Int×bS))×jh} (h:cm b b2 bm w F s):∃p c,ng b b2 bm p c w F s:=by
 obtain⟨F1,F2,⟨G1,G2,g1,⟨y,qs,hq,e⟩,g3,g4⟩,h2,h3,h4⟩:=h;exact⟨y.1,y.2,F1,F2,⟨G1,G2,g1,⟨qs,hq,e⟩,g3,g4⟩,h2,h3,h4⟩
theorem ng.loose {b b2 bm:Nat} {w:World} {F:Fp} {s:(List Bool×List (Int×bS))×jh} {p:Option Addr} {c:Nat} (h:ng b b2 bm p c w F s):cm b b2 bm w F s:=by
 obtain⟨F1,F2,⟨G1,G2,g1,⟨qs,hq,e⟩,g3,g4⟩,h2,h3,h4⟩:=h;exact⟨F1,F2,⟨G1,G2,g1,⟨(p,c),qs,hq,e⟩,g3,g4⟩,h2,h3,h4⟩
structure og (x:bG) (o:List Bool) (ws:List (Int×bS)) (m:jh):Prop where
 o:o=x.t.map Option.isSome
 len:ws.length=x.n
 ws:∀i (hi:i<ws.length),ws[i]=(x.now,cL x.t (i:Int))
 mp:∀id,m.1 id=(aO x.t id).map Prod.fst
 v:BH x
def di (b:Nat):Ob bG:=fun w F x=>∃b2 bm o ws m,cm b b2 bm w F ((o,ws),m)/\og x o ws m
instance Frame.Bg (b:Nat):Frame (di b) where
 ae:=fun⟨b2,bm,o,ws,m,h,r⟩ k hG=>⟨b2,bm,o,ws,m,Frame.star.ae h k hG,r⟩
 lt:=fun⟨_,_,_,_,_,h,_⟩=>Frame.star.lt h
section
variable {b b2 bm:Nat} {w:World} {F:Fp} {x:bG} {o:List Bool} {ws:List (Int×bS)} {m:jh}
theorem cm.ai (h:cm b b2 bm w F ((o,ws),m)):∃p c,aE w b (mU b2 bm p ws.length c) 185:=by
 obtain⟨F1,h1,_⟩:=au.left h;obtain⟨F2,h2,_⟩:=au.right h1;exact h2.ai
theorem di.of {W:World} (h:aa (cm b b2 bm) W w F ((o,ws),m)) (r:og x o ws m):aa (di b) W w F x:=by
 obtain⟨F',h1,h2⟩:=h;exact⟨F',⟨b2,bm,o,ws,m,h1,r⟩,h2⟩
theorem rz {c:Int} (h:cE x c):∃i:Nat,i<x.n/\c=(i:Int):=⟨c.toNat,by unfold cE at h;omega,by unfold cE at h;omega⟩
theorem cm.l5 {W:World} (h:aa (cm b b2 bm) W w F ((o,ws),m)) {i:Nat} (hi:i<ws.length):∃a c bi F1,aE w b (mU b2 bm (some a) ws.length c) 185/\w.cell? (a.add (i*1))=some (pt bi)/\eO bi w F1 ws[i]/\∀w' s',aa (eO bi) w w' F1 s'->aa (cm b b2 bm) W w' F ((o,ws.set i s'),m):=by
 obtain⟨F1,h1,k1⟩:=aa.lr h;obtain⟨a,c,bi,G,hB,hc,hA,kA⟩:=h1.at hi;exact⟨a,c,bi,G,hB,hc,hA,fun w' s' hT=>k1 _ _ (kA _ _ hT)⟩
theorem FV {p0:Option Addr} {n c0:Nat} (hB:aE w b (mU b2 bm p0 n c0) 185) {l:List Int} {p:Option Addr} {c:Nat} (hc:Cells w p (l.map (Value.int .i64))) (hl:l.length<=10):Cx 183 #[pt b,.slice p l.length c] w fun e w'=>e=Z (I (if ∀v∈l,0<=v/\v<n then 0 else 3))/\w'=w:=by
 refine ajy ?_;rw[t183];refine⟨fun g=>(by cases g),fun _=>⟨bA bf (M:=uN) (σ:=Nat) (fun i=>CY (some ⟨b,0,none⟩) p l.length c (l.length:Int) (i:Int)) (fun i w'=>i<=l.length/\(∀j (hj:j<l.length),j<i->0<=l[j]/\l[j]<n)/\w'=w) (fun i _=>l.length-i) 0 ⟨rfl,rfl,rfl,rfl,trivial⟩ ⟨by omega,fun j _ hj=>by omega,rfl⟩ ?_⟩⟩;rintro i w1 ⟨hi,hall,rfl⟩;rw[agA];refine⟨fun g=>?_,fun g=>?_⟩
 ·have g:=of_decide_eq_true g;have hi':i<l.length:=by omega
  obtain⟨a,ha,hcell⟩:=hc.bC hi';have bad:¬(0<=l[i]/\l[i]<n)->¬∀v∈l,0<=v/\v<(n:Int):=fun h1 h2=>h1 (h2 _ (List.getElem_mem hi'));refine⟨⟨by omega,by omega⟩,a,ha,_,hcell,fun g1=>⟨_,rfl,_,_,_,hB.cell rfl,fun g2=>?_,fun g2=>?_⟩,fun g1=>?_⟩
  ·have g2:=of_decide_eq_true g2;rw[if_neg (bad (by omega))];exact⟨rfl,rfl⟩
  ·have g1:=of_decide_eq_false g1;have g2:=of_decide_eq_false g2;refine⟨i+1,⟨rfl,rfl,rfl,by rw[aD (by omega)];rfl,trivial⟩,⟨by omega,fun j hj hji=>?_,rfl⟩,by omega⟩;by_cases e:j=i
   ·subst e;exact⟨by omega,by omega⟩
   ·exact hall j hj (by omega)
  ·have g1:=of_decide_eq_true g1;rw[if_neg (bad (by omega))];exact⟨rfl,rfl⟩
 ·have g:=of_decide_eq_false g;rw[if_pos]
  ·exact⟨rfl,rfl⟩
  ·intro v hv;obtain⟨j,hj,rfl⟩:=List.getElem_of_mem hv;exact hall j hj (by omega)
theorem wy {p0:Option Addr} {n c0:Nat} {c:Int} {w1:World} {T:TypeId} (hB:aE w b (mU b2 bm p0 n c0) 185) (hN:cH w w1 (.cells (List.toArray [I c]) T (0,0))):Cx 183 #[pt b,.slice (some ⟨w.heap.size,0,none⟩) 1 1] w1 fun e w'=>e=Z (I (if 0<=c/\c<n then 0 else 3))/\w'=w1:=by
 have:=FV (hN.keep hB) (l:=[c]) (p:=some ⟨w.heap.size,0,none⟩) (c:=1) (fun j v hv=>⟨_,rfl,hN.aF.cell hv⟩) (by simp);simpa using this
theorem Gb (h:di b w F x) (id:Int):Cx 105 #[pt b,I id] w fun e w'=>e=Z (.tuple #[I (iE x id).1,.bool (iE x id).2])/\w'=w:=by
 obtain⟨b2,bm,o,ws,m,h,r⟩:=h;obtain⟨p,c,hB⟩:=cm.ai h;obtain⟨Fm,hM,_⟩:=au.right h;refine ain ?_;rw[t105];have hlk:=iz pB hM id true;simp only[r.mp,if_true]at hlk
 have e1:((((aO x.t id).map Prod.fst).map (Value.int .i64)).getD (I 0))=I (iE x id).1/\((aO x.t id).map Prod.fst).isSome=(iE x id).2:=by
  unfold iE;cases aO x.t id<;>exact⟨rfl,rfl⟩
 rw[e1.1,e1.2]at hlk;exact⟨fun g=>(by cases g),fun _=>⟨_,rfl,_,hB.cell rfl,_,_,hlk,rfl,rfl⟩⟩
theorem aie (h:di b w F x) (id:Int):Cx 31 #[pt b,I id] w fun e w'=>e=Z (.tuple #[I (qC x id).1,.bool (qC x id).2])/\w'=w:=by
 refine u31 ?_;rw[t31];refine⟨(Gb h id).mono ?_⟩;rintro e w1 ⟨rfl,rfl⟩;obtain⟨b2,bm,o,ws,m,h,r⟩:=h
 cases hq:aO x.t id with
 | none=>
  have e1:iE x id=(0,false):=by unfold iE;rw[hq]
  have e2:qC x id=(0,false):=by unfold qC;rw[hq]
  rw[e1,e2]
  exact⟨_,_,rfl,fun _=>⟨rfl,rfl⟩,fun g=>(by cases g)⟩
 | some p=>
  have e1:iE x id=(p.1,true):=by unfold iE;rw[hq]
  have e2:qC x id=(p.2,true):=by unfold qC;rw[hq]
  rw[e1,e2];have hr:=(r.v.at_ id p hq).1;have hi:p.1.toNat<ws.length:=by rw[r.len];omega
  obtain⟨a,c,bi,G,hB,hc,hA,_⟩:=cm.l5 (aa.same h) hi;have ew:=r.ws _ hi;refine⟨_,_,rfl,fun g=>(by cases g),fun _=>⟨_,rfl,_,_,_,hB.cell rfl,⟨hr.1,by rw[r.len];exact hr.2⟩,_,rfl,_,hc,⟨(am4 hA id).mono ?_⟩⟩⟩;rintro e w2 ⟨rfl,rfl⟩
  have e3:cL x.t (p.1.toNat:Int) id=some p.2:=by
   rw[kc,hq,show(p.1.toNat:Int)=p.1 by omega]
  rw[ew];simp only[e3];exact⟨_,_,rfl,rfl,trivial⟩
theorem Xq (h:di b w F x) (c:Int):Cx 205 #[pt b,I c] w fun e w'=>e=Z (.bool (jD x c))/\af no w w':=by
 obtain⟨b2,bm,o,ws,m,h,r⟩:=h;obtain⟨p,c0,hB0⟩:=cm.ai h;refine ajL ?_;rw[t205];refine⟨fun w1 hN=>⟨(wy hB0 hN).mono ?_⟩⟩;rintro e w2 ⟨rfl,rfl⟩;have hU:=hN.ae no;unfold jD;rw[r.len];by_cases hin:cE x c
 ·rw[if_pos (show 0<=c/\c<(x.n:Int)from hin),decide_eq_true hin];obtain⟨i,hi,rfl⟩:=rz hin;have hi':i<ws.length:=by rw[r.len];exact hi
  obtain⟨a,c1,bi,G,hB,hc,hA,_⟩:=cm.l5 (aa.same (Frame.star.ae h hU (fun _ _ h=>h))) hi';rw[r.ws i hi']at hA;refine⟨_,rfl,fun _=>⟨_,rfl,_,_,_,hB.cell rfl,⟨by omega,by omega⟩,_,rfl,_,hc,⟨(XM hA).mono ?_⟩⟩,fun g=>(by cases g)⟩;rintro e w3 ⟨l,q,d,rfl,hC,hU3,_,rr,hl,hnd,hmem⟩
  have e1:l=jb x.now x.t (i:Int):=by
   rw[hl];refine FB (fun y hy=>by simp at hy;exact hy.1) hnd fun id=>?_;rw[hmem];constructor
   ·rintro⟨t,h1,h2⟩;exact⟨_,kc.1 h1,by simp;exact h2⟩
   ·rintro⟨y,h1,h2⟩;simp at h2;exact⟨y.2,kc.2 (by rw[h1,<-h2.1]),h2.2⟩
  rw[e1];refine⟨_,_,_,rfl,?_,hU.and hU3⟩;simp
 ·rw[if_neg (show ¬(0<=c/\c<(x.n:Int))from hin),decide_eq_false hin];exact⟨_,rfl,fun g=>(by cases g),fun _=>⟨rfl,hU⟩⟩
def mV (v:Option (Int×Int)) (j:Int):Option Int:=match v with
 | some p=>if p.1=j then some p.2 else none
 | none=>none
theorem og.set (r:og x o ws m) {i:Nat} (hi:i<x.t.length) {v:Option (Int×Int)} (hv:∀p,v=some p->(0<=p.1/\p.1<x.n)/\aN p.2) {ws':List (Int×bS)} (hlen:ws'.length=ws.length) (hws:∀j (hj:j<ws'.length),ws'[j]=(x.now,fun id=>if id=(i:Int)+1 then mV v j else cL x.t j id)) {m':jh} (hm:∀id,m'.1 id=if id=(i:Int)+1 then v.map Prod.fst else m.1 id):og {x with t:=x.t.set i v} (o.set i v.isSome) ws' m':=by
 have ht:=Bf hi v;refine⟨by rw[r.o,List.map_set],by rw[hlen,r.len],fun j hj=>?_,fun id=>?_,⟨r.v.now,r.v.n,by simpa using r.v.len,fun id p hp=>?_⟩⟩
 ·rw[hws j hj];congr 1;funext id;unfold cL mV;rw[ht];by_cases e:id=(i:Int)+1
  ·rw[if_pos e,if_pos e]
   all_goals (cases v<;>rfl)
  ·rw[if_neg e,if_neg e]
 ·rw[hm,ht];by_cases e:id=(i:Int)+1
  ·rw[if_pos e,if_pos e]
  ·rw[if_neg e,if_neg e,r.mp]
 ·rw[ht]at hp;by_cases e:id=(i:Int)+1
  ·rw[if_pos e]at hp;exact hv p hp
  ·rw[if_neg e]at hp;exact r.v.at_ id p hp
theorem Wl (t:cA) (ci k due:Int):mw (cL t ci) k due=fun id=>if id=k then mV (some (ci,due)) ci else cL t ci id:=by
 funext id;unfold mw mV;by_cases e2:id=k
 ·rw[if_pos e2,if_pos e2];simp
 ·rw[if_neg e2,if_neg e2]
theorem aeV {t:cA} {ci k j:Int} (hk:aO t k=none) (due:Int) (h:ci≠j):cL t j=fun id=>if id=k then mV (some (ci,due)) j else cL t j id:=by
 funext id;by_cases e2:id=k
 ·subst e2;rw[if_pos rfl];unfold cL mV;rw[hk];simp[h]
 ·rw[if_neg e2]
theorem ug {α:Type} {l:List α} {i:Nat} {y:α} {j:Nat} (hj:j<(l.set i y).length):(l.set i y)[j]=if i=j then y else l[j]'(by simpa using hj):=by
 rw[List.getElem_set]
theorem ahF (r:og x o ws m):cQ o=(match oQ x.t with|some i=>((i:Int)+1,0)|none=>(0,5))/\fK o=(match oQ x.t with|some i=>o.set i true|none=>o):=by
 have e:o.findIdx? (fun x=>!x)=oQ x.t:=by
  rw[r.o,List.findIdx?_map];unfold oQ;congr 1;funext y;cases y<;>rfl
 unfold cQ fK;rw[e];exact⟨rfl,rfl⟩
theorem Xm (hTab:Tab w) (h:di b w F x) (c due:Int):Cx 240 #[pt b,I c,I due] w fun e w'=>e=Z (.tuple #[I (cx x c due).1,I (cx x c due).2])/\aa (di b) w w' F (eP x c due):=by
 have hx:=h;obtain⟨b2,bm,o,ws,m,h,r⟩:=h;obtain⟨p,c0,hB0⟩:=cm.ai h;refine akk ?_;rw[t240];refine⟨fun w1 hN=>⟨(wy hB0 hN).mono ?_⟩⟩;rintro e w2 ⟨rfl,rfl⟩;have hU:=hN.ae no;rw[r.len];by_cases hin:cE x c
 ·rw[if_pos (show 0<=c/\c<(x.n:Int)from hin)];refine⟨_,rfl,fun g=>(by cases g),fun _=>⟨fun g1=>⟨fun g2=>?_,fun g2=>?_⟩,fun g1=>?_⟩⟩
  ·have g2:=of_decide_eq_true g2;have e1:cx x c due=(0,2):=by unfold cx;rw[if_pos hin,if_neg (by unfold aN;omega)]
   have e2:eP x c due=x:=by unfold eP;rw[if_neg (fun hh=>by have:=hh.2;unfold aN at this;omega)]
   rw[e1,e2];exact⟨rfl,aa.quiet hx hU⟩
  ·have g1:=of_decide_eq_false g1;have g2:=of_decide_eq_false g2;have hd:aN due:=by unfold aN;omega
   have hT0:aa (cm b b2 bm) w w2 F ((o,ws),m):=aa.quiet h hU;obtain⟨p2,c2,hB2⟩:=cm.ai (Frame.star.ae h hU (fun _ _ h=>h));obtain⟨Fs,hS,kS⟩:=aa.ll hT0;refine⟨_,rfl,_,hB2.cell rfl,⟨(A3 (hTab.no hU) hS).mono ?_⟩⟩;rintro e w3 ⟨rfl,hT3⟩;have hTT:=kS _ _ hT3;obtain⟨q1,q2⟩:=ahF r
   cases hf:oQ x.t with
   | none=>
    rw[hf]at q1 q2;simp only at q1 q2;rw[q2]at hTT;have e1:cx x c due=(0,5):=by unfold cx;rw[if_pos hin,if_pos hd,hf]
    have e2:eP x c due=x:=by unfold eP;rw[if_pos ⟨hin,hd⟩,hf]
    rw[q1,e1,e2]
    exact⟨_,_,rfl,fun _=>⟨rfl,di.of hTT r⟩,fun g=>(by cases g)⟩
   | some i=>
    rw[hf]at q1 q2;simp only at q1 q2;rw[q2]at hTT;have e1:cx x c due=((i:Int)+1,0):=by unfold cx;rw[if_pos hin,if_pos hd,hf]
    have e2:eP x c due={x with t:=x.t.set i (some (c,due))}:=by unfold eP;rw[if_pos ⟨hin,hd⟩,hf]
    obtain⟨hi,hfree⟩:=DM hf;rw[q1,e1,e2];refine⟨_,_,rfl,fun g=>(by cases g),fun _=>?_⟩;obtain⟨Fm,hM,kM⟩:=hTT.right
    have hB3:∃p c,aE w3 b (mU b2 bm p ws.length c) 185:=by
     obtain⟨F',h',_⟩:=hTT;exact cm.ai h'
    obtain⟨p3,c3,hB3⟩:=hB3;obtain⟨w4,hrun,hT4⟩:=mQ pB hM ((i:Int)+1) c;refine⟨_,rfl,_,hB3.cell rfl,w4,hrun,?_⟩;have hTT4:=kM _ _ hT4;obtain⟨ci,hci,rfl⟩:=rz hin;have hci':ci<ws.length:=by rw[r.len];exact hci
    obtain⟨a,c4,bi,G,hB4,hc4,hA,kA⟩:=cm.l5 hTT4 hci';refine⟨_,rfl,_,_,_,hB4.cell rfl,⟨by omega,(show((ci:Nat):Int)<(ws.length:Int) by omega)⟩,_,rfl,_,hc4,?_⟩;have hws:=r.ws ci hci';rw[hws]at hA;have hlen48:x.t.length=48:=r.v.len;refine⟨(XH hA (id:=(i:Int)+1) (by omega) hd (by unfold cL;simp only;rw[hfree])).mono ?_⟩;rintro e w5 ⟨rfl,hT5⟩;refine⟨_,rfl,rfl,di.of (kA _ _ hT5) ?_⟩;refine r.set hi (v:=some (((ci:Nat):Int),due)) (fun p hp=>?_) (by simp) (fun j hj=>?_) (fun id=>?_)
    ·cases hp;exact⟨hin,hd⟩
    ·rw[ug hj];by_cases e:ci=j
     ·subst e;rw[if_pos rfl];exact congrArg (Prod.mk x.now) (Wl _ _ _ _)
     ·rw[if_neg e,r.ws j];exact congrArg (Prod.mk x.now) (aeV hfree _ (fun h=>e (by omega)))
    ·show(if id=(i:Int)+1 then some ((ci:Nat):Int)else m.1 id)=_;rfl
  ·have g1:=of_decide_eq_true g1;have e1:cx x c due=(0,2):=by unfold cx;rw[if_pos hin,if_neg (by unfold aN;omega)]
   have e2:eP x c due=x:=by unfold eP;rw[if_neg (fun hh=>by have:=hh.2;unfold aN at this;omega)]
   rw[e1,e2];exact⟨rfl,aa.quiet hx hU⟩
 ·rw[if_neg (show ¬(0<=c/\c<(x.n:Int))from hin)];have e1:cx x c due=(0,3):=by unfold cx;rw[if_neg hin]
  have e2:eP x c due=x:=by unfold eP;rw[if_neg (fun hh=>hin hh.1)]
  rw[e1,e2];exact⟨_,rfl,fun _=>⟨rfl,aa.quiet hx hU⟩,fun g=>(by cases g)⟩
theorem Tg (r:og x o ws m) {id:Int} {p:Int×Int} (h:aO x.t id=some p):bL o id=true/\(id.toNat-1)<x.t.length/\((id.toNat-1:Nat):Int)+1=id:=by
 have hr:=xi h;have hlt:id.toNat-1<x.t.length:=by omega
 have e:((id.toNat-1:Nat):Int)+1=id:=by omega
 refine⟨?_,hlt,e⟩;unfold bL;have hg:=FQ hlt;rw[e,h]at hg;rw[if_pos hr.1,r.o,List.getD_eq_getElem?_getD,List.getElem?_map,List.getElem?_eq_getElem hlt,<-hg];rfl
theorem aaf (t:cA) (ci k:Int):lK (cL t ci) k=fun id=>if id=k then mV none ci else cL t ci id:=rfl
theorem aad {t:cA} {k j:Int} {p:Int×Int} (hk:aO t k=some p) (h:p.1≠j):cL t j=fun id=>if id=k then mV none j else cL t j id:=by
 funext id;by_cases e2:id=k
 ·subst e2;rw[if_pos rfl];unfold cL mV;rw[hk];simp[h]
 ·rw[if_neg e2]
theorem FM (h:di b w F x) (id:Int):Cx 244 #[pt b,I id] w fun e w'=>e=Z (I (pQ x id))/\aa (di b) w w' F (gM x id):=by
 refine ako ?_;rw[t244];refine⟨(Gb h id).mono ?_⟩;rintro e w1 ⟨rfl,rfl⟩;have hx:=h;obtain⟨b2,bm,o,ws,m,h,r⟩:=h
 cases hq:aO x.t id with
 | none=>
  have e1:iE x id=(0,false):=by unfold iE;rw[hq]
  have e2:pQ x id=4:=by unfold pQ;rw[hq]
  have e3:gM x id=x:=by unfold gM;rw[hq]
  rw[e1,e2,e3]
  exact⟨_,_,rfl,fun g=>(by cases g),fun _=>⟨fun _=>⟨rfl,aa.same hx⟩,fun g=>(by cases g)⟩⟩
 | some p=>
  have e1:iE x id=(p.1,true):=by unfold iE;rw[hq]
  have e2:pQ x id=0:=by unfold pQ;rw[hq]
  have e3:gM x id={x with t:=x.t.set (id.toNat-1) none}:=by unfold gM;rw[hq];rfl
  rw[e1,e2,e3];obtain⟨hhas,hlt,eid⟩:=Tg r hq;have hr:=r.v.at_ id p hq;refine⟨_,_,rfl,fun g=>(by cases g),fun _=>⟨fun g=>(by cases g),fun _=>?_⟩⟩;have hT0:aa (cm b b2 bm) w1 w1 F ((o,ws),m):=aa.same h;obtain⟨p0,c0,hB0⟩:=cm.ai h;obtain⟨Fm,hM,kM⟩:=hT0.right;obtain⟨w2,hrun,hT2⟩:=ph pB hM id 3 (0:TypeId);have hTT:=kM _ _ hT2
  have hB2:∃p c,aE w2 b (mU b2 bm p ws.length c) 185:=by
   obtain⟨F',h',_⟩:=hTT;exact cm.ai h'
  obtain⟨p2,c2,hB2⟩:=hB2;obtain⟨Fs,hS,kS⟩:=aa.ll hTT;refine⟨_,rfl,_,hB0.cell rfl,w2,hrun,_,rfl,_,hB2.cell rfl,⟨(AZ hS id).mono ?_⟩⟩;rintro e w3 ⟨rfl,hT3⟩;have hTT3:=kS _ _ hT3;have hi:p.1.toNat<ws.length:=by rw[r.len];have:=hr.1;omega
  obtain⟨a,c4,bi,G,hB4,hc4,hA,kA⟩:=cm.l5 hTT3 hi;rw[r.ws _ hi]at hA;have ep:((p.1.toNat:Nat):Int)=p.1:=by have:=hr.1;omega
  refine⟨_,rfl,_,rfl,_,_,_,hB4.cell rfl,⟨hr.1.1,(show p.1<(ws.length:Int) by rw[r.len];exact hr.1.2)⟩,_,rfl,_,hc4,⟨(XK hA (id:=id) (d:=p.2) (by rw[kc,ep,hq])).mono ?_⟩⟩;rintro e w4 ⟨rfl,hT4⟩;refine⟨_,rfl,rfl,?_⟩;have hfin:=kA _ _ hT4
  have eo:jy o id=o.set (id.toNat-1) (none:Option (Int×Int)).isSome:=by
   unfold jy;rw[if_pos hhas];rfl
  simp only at hfin;rw[eo]at hfin;refine di.of hfin (r.set hlt (v:=none) (fun p hp=>by cases hp) (by simp) (fun j hj=>?_) (fun id'=>?_))
  ·rw[ug hj,eid];by_cases e:p.1.toNat=j
   ·subst e;rw[if_pos rfl];exact congrArg (Prod.mk x.now) (aaf _ _ _)
   ·rw[if_neg e,r.ws j];exact congrArg (Prod.mk x.now) (aad hq (fun h=>e (by omega)))
  ·rw[eid];rfl
theorem aao (r:og x o ws m) {i:Nat} (hi:i<ws.length) {l:List Int} (h:∃rr:List Int,l=dN (fun id=>(ws[i].2 id).getD 0) rr/\rr.Nodup/\∀id,id∈rr↔∃t,ws[i].2 id=some t/\t<=ws[i].1):l=jb x.now x.t (i:Int):=by
 obtain⟨rr,hl,hnd,hmem⟩:=h;rw[r.ws i hi]at hl hmem;rw[hl];refine FB (fun y hy=>by simp at hy;exact hy.1) hnd fun id=>?_;rw[hmem];constructor
 ·rintro⟨t,h1,h2⟩;exact⟨_,kc.1 h1,by simp;exact h2⟩
 ·rintro⟨y,h1,h2⟩;simp at h2;exact⟨y.2,kc.2 (by rw[h1,<-h2.1]),h2.2⟩
theorem Yg (r:og x o ws m) {i:Nat} (hi:i<ws.length) {l:List Int} (h:∃rr:List Int,l=dN (fun id=>(ws[i].2 id).getD 0) rr/\rr.Nodup/\∀id,id∈rr↔(ws[i].2 id).isSome=true):l=gd x.t (i:Int):=by
 obtain⟨rr,hl,hnd,hmem⟩:=h;rw[r.ws i hi]at hl hmem;rw[hl];refine FB (fun y hy=>by simpa using hy) hnd fun id=>?_;rw[hmem];constructor
 ·intro h1
  cases h2:cL x.t (i:Int) id with
  | none=>simp only[h2]at h1;cases h1
  | some t=>exact⟨_,kc.1 h2,by simp⟩
 ·rintro⟨y,h1,h2⟩;have h2:y.1=(i:Int):=by simpa using h2
  simp only[kc.2 (show aO x.t id=some ((i:Int),y.2) by rw[h1,<-h2])];rfl
theorem ado {t:cA} {now c id:Int} (h:id∈jb now t c):∃d,aO t id=some (c,d):=by
 unfold jb at h;have:=(gX _ _).mem_iff.1 h;obtain⟨y,h1,h2⟩:=iT.1 this;simp at h2;exact⟨y.2,by rw[h1,<-h2.1]⟩
theorem Es {t:cA} {c id:Int} (h:id∈gd t c):∃d,aO t id=some (c,d):=by
 unfold gd at h;have:=(gX _ _).mem_iff.1 h;obtain⟨y,h1,h2⟩:=iT.1 this;simp at h2;exact⟨y.2,by rw[h1,<-h2]⟩
theorem ahM (h:di b w F x) (c:Int):Cx 306 #[pt b,I c] w fun e w'=>e=Z (.tuple #[I (cy x c).1,I (cy x c).2])/\aa (di b) w w' F (dS x c):=by
 have hx:=h;obtain⟨b2,bm,o,ws,m,h,r⟩:=h;obtain⟨p,c0,hB0⟩:=cm.ai h;refine ak6 ?_;rw[t306];refine⟨fun w1 hN=>⟨(wy hB0 hN).mono ?_⟩⟩;rintro e w2 ⟨rfl,rfl⟩;have hU:=hN.ae no;rw[r.len];by_cases hin:cE x c
 ·rw[if_pos (show 0<=c/\c<(x.n:Int)from hin)];obtain⟨i,hi,rfl⟩:=rz hin;have hi':i<ws.length:=by rw[r.len];exact hi
  obtain⟨a,c1,bi,G,hB,hc,hA,_⟩:=cm.l5 (aa.same (Frame.star.ae h hU (fun _ _ h=>h))) hi';refine⟨_,rfl,fun g=>(by cases g),fun _=>⟨_,rfl,_,_,_,hB.cell rfl,⟨by omega,(show((i:Nat):Int)<(ws.length:Int) by omega)⟩,_,rfl,_,hc,⟨(XM hA).mono ?_⟩⟩⟩;rintro e w3 ⟨l,q,d,rfl,hC,hU3,hfr,hl⟩;have e1:=aao r hi' hl;subst e1;have hU03:=hU.and hU3;refine⟨_,_,_,rfl,fun g=>?_,fun g=>?_⟩
  ·have g:jb x.now x.t (i:Int)=[]:=by
    have:((jb x.now x.t (i:Int)).length:Int)=0:=by simpa using g
    exact List.length_eq_zero_iff.1 (by omega)
   have e1:cy x (i:Int)=(0,12):=by unfold cy;rw[if_pos hin,g]
   have e2:dS x (i:Int)=x:=by unfold dS;rw[if_pos hin,g]
   rw[e1,e2];exact⟨rfl,aa.quiet hx hU03⟩
  ·cases hd:jb x.now x.t (i:Int)with
   | nil=>rw[hd]at g;simp at g
   | cons v l'=>
    have hmem:v∈jb x.now x.t (i:Int):=by rw[hd];exact List.mem_cons_self
    obtain⟨dv,hv⟩:=ado hmem;have e1:cy x (i:Int)=(v,0):=by unfold cy;rw[if_pos hin,hd]
    have e2:dS x (i:Int)=pU x v:=by unfold dS;rw[if_pos hin,hd]
    rw[hd]at hC;have e3:pQ x v=0:=by unfold pQ;rw[hv]
    have e4:gM x v=pU x v:=by unfold gM;rw[hv]
    rw[e1,e2];obtain⟨aq,haq,hcell⟩:=hC.bC (i:=0) (l:=v::l') (by simp);have hcell:w3.cell? (aq.add 0)=some (I v):=by simpa using hcell
    have hrange:(0:Int)<=0/\(0:Int)<(((v::l').length:Nat):Int):=⟨by omega,by simp⟩;intro w4 q1 q2 q3 q4;have hU4:=af.same no q1 q2 q3 q4;have hcell4:w4.cell? (aq.add 0)=some (I v):=by unfold World.cell? at hcell⊢;rw[q1];exact hcell
    have hx4:=(Frame.Bg b).ae hx (hU03.and hU4) (fun _ _ h=>h);refine⟨hrange,aq,haq,_,hcell4,hrange,aq,haq,_,hcell4,⟨(FM hx4 v).mono ?_⟩⟩;rintro e w5 ⟨rfl,hT5⟩;rw[e3,e4]at *;refine⟨_,rfl,?_,rfl,aa.next hx4 ((hU03.and hU4).mono (fun _ _ h=>h.elim)) (fun _ h=>.inl h) hT5⟩;obtain⟨F5,_,hU5,_⟩:=hT5;have hlt:=ou hcell4;rw[vg]at hlt
    have hnf:¬F aq.block:=fun hf=>by
     have h1:=hfr aq.block ⟨aq,haq,rfl⟩;have h2:=(Frame.Bg b).lt hx _ hf;have:=hU.size;omega
    unfold World.cell? at hcell4⊢;rw[vg]at hcell4⊢;rw[hU5.ai _ hlt hnf];exact hcell4
 ·rw[if_neg (show ¬(0<=c/\c<(x.n:Int))from hin)];have e1:cy x c=(0,3):=by unfold cy;rw[if_neg hin]
  have e2:dS x c=x:=by unfold dS;rw[if_neg hin]
  rw[e1,e2];exact⟨_,rfl,fun _=>⟨rfl,aa.quiet hx hU⟩,fun g=>(by cases g)⟩
theorem ah4 (h:di b w F x) (c:Int):Cx 214 #[pt b,I c] w fun e w'=>e=Z (.tuple #[I (qh x c).1,I (qh x c).2])/\af no w w':=by
 obtain⟨b2,bm,o,ws,m,h,r⟩:=h;obtain⟨p,c0,hB0⟩:=cm.ai h;refine ajU ?_;rw[t214];refine⟨fun w1 hN=>⟨(wy hB0 hN).mono ?_⟩⟩;rintro e w2 ⟨rfl,rfl⟩;have hU:=hN.ae no;rw[r.len];by_cases hin:cE x c
 ·rw[if_pos (show 0<=c/\c<(x.n:Int)from hin)];obtain⟨i,hi,rfl⟩:=rz hin;have hi':i<ws.length:=by rw[r.len];exact hi
  obtain⟨a,c1,bi,G,hB,hc,hA,_⟩:=cm.l5 (aa.same (Frame.star.ae h hU (fun _ _ h=>h))) hi';rw[r.ws i hi']at hA;refine⟨_,rfl,fun g=>(by cases g),fun _=>⟨_,rfl,_,_,_,hB.cell rfl,⟨by omega,(show((i:Nat):Int)<(ws.length:Int) by omega)⟩,_,rfl,_,hc,⟨(amV hA).mono ?_⟩⟩⟩;rintro e w3 ⟨hcase,hU3⟩;unfold qh;rw[if_pos hin];rcases hcase with⟨hnone,rfl⟩|⟨v,t,hv,hmin,rfl⟩
  ·have e1:gd x.t (i:Int)=[]:=by
    cases hd:gd x.t (i:Int)with
    | nil=>rfl
    | cons v l=>
     obtain⟨d,hd2⟩:=Es (t:=x.t) (c:=(i:Int)) (id:=v) (by rw[hd];exact List.mem_cons_self);have:=hnone v;simp only at this;rw[kc.2 hd2]at this;cases this
   rw[e1];exact⟨_,_,rfl,rfl,hU.and hU3⟩
  ·cases hd:gd x.t (i:Int)with
   | nil=>
    exfalso;have:v∈eU x.t (fun y=>decide (y.1=(i:Int))):=iT.2 ⟨_,kc.1 hv,by simp⟩;have:=(gX (gN x.t) _).mem_iff.2 this;unfold gd at hd;rw[hd]at this
    cases this
   | cons a' l=>
    obtain⟨d,hd2⟩:=Es (t:=x.t) (c:=(i:Int)) (id:=a') (by rw[hd];exact List.mem_cons_self);unfold gd at hd;have hh:=(W8 hd).2 v (iT.2 ⟨_,kc.1 hv,by simp⟩);have h1:=hmin a' d (kc.2 hd2);have e1:gN x.t v=t:=by unfold gN;rw[kc.1 hv]
    have e2:gN x.t a'=d:=by unfold gN;rw[hd2]
    rw[e1,e2]at hh;have:t=d:=by omega
    subst this;simp only[e2];exact⟨_,_,rfl,rfl,hU.and hU3⟩
 ·rw[if_neg (show ¬(0<=c/\c<(x.n:Int))from hin)];unfold qh;rw[if_neg hin];exact⟨_,rfl,fun _=>⟨rfl,hU⟩,fun g=>(by cases g)⟩
theorem ahY (h:di b w F x) (c:Int):Cx 89 #[pt b,I c] w fun e w'=>∃q d,e=Z (.slice q (xj x c).length d)/\Cells w' q ((xj x c).map (Value.int .i64))/\af no w w'/\∀j,aL q j->w.heap.size<=j:=by
 obtain⟨b2,bm,o,ws,m,h,r⟩:=h;obtain⟨p,c0,hB0⟩:=cm.ai h;refine u89 ?_;rw[t89];refine⟨fun w1 hN=>⟨(wy hB0 hN).mono ?_⟩⟩;rintro e w2 ⟨rfl,rfl⟩;have hU:=hN.ae no;rw[r.len];unfold xj;by_cases hin:cE x c
 ·rw[if_pos (show 0<=c/\c<(x.n:Int)from hin),if_pos hin];obtain⟨i,hi,rfl⟩:=rz hin;have hi':i<ws.length:=by rw[r.len];exact hi
  obtain⟨a,c1,bi,G,hB,hc,hA,_⟩:=cm.l5 (aa.same (Frame.star.ae h hU (fun _ _ h=>h))) hi';refine⟨_,rfl,fun g=>(by cases g),fun _=>⟨_,rfl,_,_,_,hB.cell rfl,⟨by omega,(show((i:Nat):Int)<(ws.length:Int) by omega)⟩,_,rfl,_,hc,⟨(amI hA).mono ?_⟩⟩⟩;rintro e w3 ⟨l,q,d,rfl,hC,hU3,hfr,hl⟩;have e1:=Yg r hi' hl;subst e1;exact⟨_,_,_,rfl,q,d,rfl,hC,hU.and hU3,fun j hj=>Nat.le_trans hU.size (hfr j hj)⟩
 ·rw[if_neg (show ¬(0<=c/\c<(x.n:Int))from hin),if_neg hin];exact⟨_,rfl,fun _=>⟨none,0,rfl,Cells.nil _ _,hU,fun j ⟨_,h,_⟩=>by cases h⟩,fun g=>(by cases g)⟩
theorem ng.l5 {W:World} {p:Option Addr} {c:Nat} (h:aa (ng b b2 bm p c) W w F ((o,ws),m)) {i:Nat} (hi:i<ws.length):∃a bi F1,p=some a/\aE w b (mU b2 bm p ws.length c) 185/\w.cell? (a.add (i*1))=some (pt bi)/\eO bi w F1 ws[i]/\∀w' s',aa (eO bi) w w' F1 s'->aa (ng b b2 bm p c) W w' F ((o,ws.set i s'),m):=by
 obtain⟨F1,h1,k1⟩:=aa.lr h;obtain⟨a,bi,G,hp,hB,hc,hA,kA⟩:=h1.at hi;exact⟨a,bi,G,hp,hB,hc,hA,fun w' s' hT=>k1 _ _ (kA _ _ hT)⟩
theorem ahN (h:di b w F x) (t:Int):Cx 124 #[pt b,I t] w fun e w'=>e=Z (I (oS x t))/\aa (di b) w w' F (kI x t):=by
 obtain⟨b2,bm,o,ws,m,h,r⟩:=h;obtain⟨p,c0,hq⟩:=cm.fix h;have hn:1<=ws.length:=by rw[r.len];exact r.v.n.1
 have hwl:ws.length<=64:=by rw[r.len];exact r.v.n.2
 obtain⟨_,_,_,_,hB0,_⟩:=ng.l5 (aa.same hq) (i:=0) (by omega);refine aiH ?_;rw[t124];refine⟨(FV hB0 (l:=[]) (p:=none) (c:=0) (Cells.nil _ _) (by simp)).mono ?_⟩;rintro e w1 ⟨rfl,rfl⟩;rw[if_pos (by simp)];refine⟨_,rfl,fun g=>(by cases g),fun _=>⟨_,rfl,p,ws.length,c0,hB0.cell rfl,?_⟩⟩
 refine⟨bA bf (M:=uH) (σ:=Nat) (fun i=>CR t (if i=0 then 0 else oS x t) p ws.length c0 (ws.length:Int) (i:Int))
  (fun i w'=>i<=ws.length/\∃vs:List (Int×bS),aa (ng b b2 bm p c0) w1 w' F ((o,vs),m)/\vs.length=ws.length/\∀j (hj:j<vs.length),vs[j]=if j<i then((kI x t).now,cL x.t (j:Int))else(x.now,cL x.t (j:Int))) (fun i _=>ws.length-i) 0 ⟨rfl,rfl,rfl,rfl,rfl,trivial⟩ ⟨by omega,ws,aa.same hq,rfl,fun j hj=>by rw[if_neg (by omega)];exact r.ws j hj⟩ ?_⟩
 rintro i w2 ⟨hi,vs,hT,hl,hvs⟩;rw[agp];refine⟨fun g=>?_,fun g=>?_⟩
 ·have g:=of_decide_eq_true g;have hi':i<vs.length:=by omega
  obtain⟨a,bi,G,hp,hB,hc,hA,kA⟩:=ng.l5 hT hi';have ev:=hvs i hi';rw[if_neg (by omega)]at ev;rw[ev]at hA;refine⟨⟨by omega,by omega⟩,a,hp,_,hc,⟨(amN hA t).mono ?_⟩⟩;rintro e w3 ⟨rfl,hT3⟩;have hT4:=kA _ _ hT3;have e1:(if x.now<=t/\aN t then(0:Int)else 2)=oS x t:=rfl
  have e2:(if x.now<=t/\aN t then(t,cL x.t (i:Int))else(x.now,cL x.t (i:Int)))=((kI x t).now,cL x.t (i:Int)):=by
   unfold kI oS;by_cases hc:x.now<=t/\aN t
   ·rw[if_pos hc,if_pos hc,if_pos rfl]
   ·rw[if_neg hc,if_neg hc,if_neg (by decide)]
  simp only[e1];simp only[e2]at hT4;refine⟨_,rfl,i+1,⟨rfl,by rw[if_neg (by omega)];rfl,rfl,rfl,by rw[aD (by omega)];rfl,trivial⟩,⟨by omega,_,hT4,by simpa using hl,fun j hj=>?_⟩,by omega⟩;rw[ug hj];by_cases e:i=j
  ·subst e;rw[if_pos rfl,if_pos (by omega)]
  ·rw[if_neg e,hvs j];by_cases h1:j<i
   ·rw[if_pos h1,if_pos (by omega)]
   ·rw[if_neg h1,if_neg (by omega)]
 ·have g:=of_decide_eq_false g;have:i=ws.length:=by omega
  subst this;rw[if_neg (by omega)];refine⟨rfl,?_⟩
  have hT':aa (cm b b2 bm) w1 w2 F ((o,vs),m):=by
   obtain⟨F',h1,h2⟩:=hT;exact⟨F',ng.loose h1,h2⟩
  refine di.of hT' ?_;have et:(kI x t).t=x.t/\(kI x t).n=x.n:=by unfold kI;split<;>exact⟨rfl,rfl⟩
  refine⟨by rw[et.1];exact r.o,by rw[hl,r.len,et.2],fun j hj=>?_,fun id=>by rw[et.1];exact r.mp id,⟨?_,by rw[et.2];exact r.v.n,by rw[et.1];exact r.v.len,fun id p hp=>?_⟩⟩
  ·rw[hvs j hj,if_pos (by omega),et.1]
  ·unfold kI;by_cases hg:oS x t=0
   ·rw[if_pos hg];unfold oS at hg;by_cases hc:x.now<=t/\aN t
    ·exact hc.2
    ·rw[if_neg hc]at hg;cases hg
   ·rw[if_neg hg];exact r.v.now
  ·rw[et.1]at hp;rw[et.2];exact r.v.at_ id p hp
theorem ah0 (h:di b w F x) (f t:Int):Cx 357 #[pt b,I f,I t] w fun e w'=>e=Z (.tuple #[I (gC x f t).1,I (gC x f t).2])/\aa (di b) w w' F (eJ x f t):=by
 have hx:=h;obtain⟨b2,bm,o,ws,m,h,r⟩:=h;obtain⟨p,c0,hB0⟩:=cm.ai h;refine alN ?_;rw[t357];refine⟨fun w1 hN=>?_⟩;have hU1:=hN.ae no;have hmay:=FV (hN.keep hB0) (l:=[f,t]) (p:=some ⟨w.heap.size,0,none⟩) (c:=2) (fun j v hv=>⟨_,rfl,hN.aF.cell hv⟩) (by simp);refine⟨hmay.mono ?_⟩;rintro e w2 ⟨rfl,rfl⟩;rw[r.len]
 have eall:(∀v∈[f,t],0<=v/\v<(x.n:Int))↔(cE x f/\cE x t):=by
  unfold cE;simp
 by_cases hin:cE x f/\cE x t
 ·rw[if_pos (eall.2 hin)];have hx1:=(Frame.Bg b).ae hx hU1 (fun _ _ h=>h);refine⟨_,rfl,fun g=>(by cases g),fun _=>⟨(ahY hx1 f).mono ?_⟩⟩;rintro e w3 ⟨q,d,rfl,hC,hU3,hfr⟩;have hU13:=hU1.and hU3;have el:xj x f=gd x.t f:=by unfold xj;rw[if_pos hin.1]
  rw[el]at hC⊢;refine⟨_,_,_,rfl,fun g=>?_,fun g=>⟨fun g2=>?_,fun g2=>?_⟩⟩
  ·have g:f=t:=by simpa using g
   have e1:gC x f t=(0,2):=by unfold gC;rw[if_pos hin,if_pos g]
   have e2:eJ x f t=x:=by unfold eJ;rw[if_neg (fun hh=>hh.2.2 g)]
   rw[e1,e2];exact⟨rfl,aa.quiet hx hU13⟩
  ·have g:f≠t:=by simpa using g
   have g2:gd x.t f=[]:=by
    have:((gd x.t f).length:Int)=0:=by simpa using g2
    exact List.length_eq_zero_iff.1 (by omega)
   have e1:gC x f t=(0,12):=by unfold gC;rw[if_pos hin,if_neg g,g2]
   have e2:eJ x f t=x:=by unfold eJ;rw[if_pos ⟨hin.1,hin.2,g⟩,g2]
   rw[e1,e2];exact⟨rfl,aa.quiet hx hU13⟩
  ·have g:f≠t:=by simpa using g
   cases hd:gd x.t f with
   | nil=>rw[hd]at g2;simp at g2
   | cons v l'=>
    obtain⟨dv,hv⟩:=Es (t:=x.t) (c:=f) (id:=v) (by rw[hd];exact List.mem_cons_self);have edue:gN x.t v=dv:=by unfold gN;rw[hv]
    have e1:gC x f t=(v,0):=by unfold gC;rw[if_pos hin,if_neg g,hd]
    have e2:eJ x f t={x with t:=x.t.set (v.toNat-1) (some (t,dv))}:=by unfold eJ;rw[if_pos ⟨hin.1,hin.2,g⟩,hd];simp only[edue]
    rw[e1,e2];rw[hd]at hC;obtain⟨hhas,hlt,eid⟩:=Tg r hv;have hrv:=r.v.at_ v _ hv;obtain⟨aq,haq,hcell⟩:=hC.bC (i:=0) (l:=v::l') (by simp);have hcell:w3.cell? (aq.add 0)=some (I v):=by simpa using hcell
    have hx3:=(Frame.Bg b).ae hx hU13 (fun _ _ h=>h);refine⟨⟨by omega,by simp⟩,aq,haq,_,hcell,⟨(aie hx3 v).mono ?_⟩⟩;rintro e w4 ⟨rfl,rfl⟩;have e3:qC x v=(dv,true):=by unfold qC;rw[hv]
    rw[e3];have hT0:aa (cm b b2 bm) w w4 F ((o,ws),m):=aa.quiet h hU13;obtain⟨fi,hfi,rfl⟩:=rz hin.1;obtain⟨ti,hti,rfl⟩:=rz hin.2;have hfi':fi<ws.length:=by rw[r.len];exact hfi
    have hti':ti<ws.length:=by rw[r.len];exact hti
    have hne:fi≠ti:=fun e=>g (by rw[e]);obtain⟨a4,c4,bi,G,hB4,hc4,hA,kA⟩:=cm.l5 hT0 hfi';rw[r.ws _ hfi']at hA;refine⟨_,_,rfl,_,rfl,_,_,_,hB4.cell rfl,⟨by omega,(show((fi:Nat):Int)<(ws.length:Int) by omega)⟩,_,rfl,_,hc4,⟨(XK hA (id:=v) (d:=dv) (by rw[kc,hv])).mono ?_⟩⟩;rintro e w5 ⟨rfl,hT5⟩;have hTT5:=kA _ _ hT5;obtain⟨Fm,hM,kM⟩:=hTT5.right
    have hB5:∃p c,aE w5 b (mU b2 bm p (ws.set fi (x.now,lK (cL x.t (fi:Int)) v)).length c) 185:=by
     obtain⟨F',h',_⟩:=hTT5;exact cm.ai h'
    obtain⟨p5,c5,hB5⟩:=hB5;obtain⟨w6,hrun,hT6⟩:=mQ pB hM v ((ti:Nat):Int);have hTT6:=kM _ _ hT6;have hti6:ti<(ws.set fi (x.now,lK (cL x.t (fi:Int)) v)).length:=by simpa using hti'
    obtain⟨a6,c6,bi6,G6,hB6,hc6,hA6,kA6⟩:=cm.l5 hTT6 hti6;rw[ug,if_neg hne,r.ws ti hti']at hA6
    have hnone:cL x.t ((ti:Nat):Int) v=none:=by
     unfold cL;rw[hv];simp only;rw[if_neg (by omega)]
    have h48:x.t.length=48:=r.v.len;refine⟨_,rfl,_,rfl,_,hB5.cell rfl,w6,hrun,_,rfl,_,_,_,hB6.cell rfl,⟨by omega,(show((ti:Nat):Int)<((ws.set fi (x.now,lK (cL x.t (fi:Int)) v)).length:Int) by simp;omega)⟩,_,rfl,_,hc6,⟨(XH hA6 (id:=v) (by omega) hrv.2 hnone).mono ?_⟩⟩;rintro e w7 ⟨rfl,hT7⟩;refine⟨_,rfl,rfl,?_⟩;have hfin:=kA6 _ _ hT7
    have eo:o=o.set (v.toNat-1) (some (((ti:Nat):Int),dv)).isSome:=by
     apply List.ext_getElem?;intro j;rw[List.getElem?_set];by_cases hj:v.toNat-1=j
     ·subst hj;have hol:v.toNat-1<o.length:=by rw[r.o];simpa using hlt
      rw[if_pos rfl,if_pos hol];unfold bL at hhas;rw[if_pos (by omega),List.getD_eq_getElem?_getD,List.getElem?_eq_getElem hol]at hhas;rw[List.getElem?_eq_getElem hol];simpa using hhas
     ·rw[if_neg hj]
    simp only at hfin;rw[eo]at hfin;refine di.of hfin (r.set hlt (v:=some (((ti:Nat):Int),dv)) (fun p hp=>by cases hp;exact⟨hin.2,hrv.2⟩) (by simp) (fun j hj=>?_) (fun id'=>?_))
    ·rw[ug hj,eid];by_cases e:ti=j
     ·subst e;rw[if_pos rfl];exact congrArg (Prod.mk x.now) (Wl _ _ _ _)
     ·rw[if_neg e,ug];by_cases e5:fi=j
      ·subst e5;rw[if_pos rfl];refine congrArg (Prod.mk x.now) ?_;funext id';unfold lK mV;by_cases e6:id'=v
       ·rw[if_pos e6,if_pos e6];simp only;rw[if_neg (by omega)]
       ·rw[if_neg e6,if_neg e6]
      ·rw[if_neg e5,r.ws j];refine congrArg (Prod.mk x.now) ?_;funext id';by_cases e6:id'=v
       ·subst e6;rw[if_pos rfl];unfold cL mV;rw[hv];simp only;rw[if_neg (by omega),if_neg (by omega)]
       ·rw[if_neg e6]
    ·rw[eid];rfl
 ·rw[if_neg (fun hh=>hin (eall.1 hh))];have e1:gC x f t=(0,3):=by unfold gC;rw[if_neg hin]
  have e2:eJ x f t=x:=by unfold eJ;rw[if_neg (fun hh=>hin ⟨hh.1,hh.2.1⟩)]
  rw[e1,e2];exact⟨_,rfl,fun _=>⟨rfl,aa.quiet hx hU1⟩,fun g=>(by cases g)⟩
end
theorem au.E7 {σ τ υ:Type} {A:Ob σ} {B:Ob τ} {C:Ob υ} {w:World} {F:Fp} {a:σ} {b:τ} {c:υ} (h:au (au A B) C w F ((a,b),c)):au (au A C) B w F ((a,c),b):=by
 obtain⟨F1,F2,⟨G1,G2,g1,g2,g3,g4⟩,h2,h3,h4⟩:=h;refine⟨fun i=>G1 i∨F2 i,G2,⟨G1,F2,g1,h2,fun _=>Iff.rfl,fun i hi hf=>h4 i ((g3 i).2 (.inl hi)) hf⟩,g2,fun i=>?_,fun i hi hf=>?_⟩
 ·rw[h3 i,g3 i];constructor
  ·rintro((h|h)|h)
   ·exact .inl (.inl h)
   ·exact .inr h
   ·exact .inl (.inr h)
  ·rintro((h|h)|h)
   ·exact .inl (.inl h)
   ·exact .inr h
   ·exact .inl (.inr h)
 ·rcases hi with hi|hi
  ·exact g4 i hi hf
  ·exact h4 i ((g3 i).2 (.inr hf)) hi
def iV (n:Nat):bG:=⟨0,n,List.replicate 48 none⟩
theorem ah3 (n:Nat) (hn:1<=n/\n<=64) (w:World):Cx 38 #[I (n:Int)] w fun e w'=>∃b F,e=Z (.tuple #[pt b,I 0])/\di b w' F (iV n)/\af no w w'/\∀i,F i->w.heap.size<=i:=by
 refine u38 ?_;rw[t38];refine⟨fun g1=>⟨fun g2=>?_,fun g2=>?_⟩,fun g1=>?_⟩
 ·have:=of_decide_eq_true g2;omega
 ·refine⟨(A0 48 w).mono ?_⟩;rintro e w1 hh;obtain⟨_,b2,F1,rfl,hQ,hU,hF⟩:=hh.resolve_left (fun h=>absurd (by omega) h.1);have hM:bh w w1 (b8 b2) (List.replicate 48 false):=bh.new (af.refl _ _) hU hQ hF;clear hU hQ hF;refine⟨_,_,rfl,fun g=>by simp at g,fun _=>⟨fun w2 hN2=>⟨fun w3 hN=>?_⟩⟩⟩;replace hM:bh w w2 (au (b8 b2) (aS w1.heap.size (Value.int .i64))) (List.replicate 48 false,(fun _=>none,0)):=hM.add (hN2.ae no) (aS.new hN2) (fun i hi=>Nat.le_of_eq hi.symm);generalize w1.heap.size=bm at hM hN⊢;replace hM:bh w w3 (au (au (b8 b2) (aS bm (Value.int .i64))) (BI w2.heap.size b2 bm)) ((List.replicate 48 false,(fun _=>none,0)),[]):=hM.add (hN.ae no) (Tq.nil hN rfl) (fun i hi=>Nat.le_of_eq hi.symm);generalize w2.heap.size=b at hM⊢;refine⟨bA bf (M:=uZ) (σ:=Nat) (fun j=>Dn (some ⟨b,0,none⟩) (n:Int) (j:Int)) (fun j w'=>j<=n/\bh w w' (au (au (b8 b2) (aS bm (Value.int .i64))) (BI b b2 bm)) ((List.replicate 48 false,(fun _=>none,0)),List.replicate j ((0:Int),(fun _=>none:bS)))) (fun j _=>n-j) 0 ⟨rfl,rfl,rfl,trivial⟩ ⟨by omega,hM⟩ ?_⟩;clear hM hN;rintro j w3 ⟨j1,hM⟩;rw[ahe];refine⟨fun g=>?_,fun g=>?_⟩
  ·have hj:j<n:=by simp at g;omega
   refine⟨(amT w3).mono ?_⟩;rintro e w4 ⟨bq,G,rfl,hQ,hU,hG⟩;obtain⟨F2,hA,hT⟩:=hM.right;obtain⟨p,c,hB,hgo⟩:=Tq.push elW (k:=1) (fun _ _ _ _ _ _=>rfl) (fun _ _ _=>by simp[mU]) hA (by simp;omega) hU hQ hG;refine⟨_,_,rfl,fun g=>by simp at g,fun _=>⟨_,rfl,_,_,_,hB.cell rfl,⟨fun w5 hN=>?_⟩⟩⟩;obtain⟨p',c',w6,hr,hK⟩:=hgo w5 hN 183;refine⟨_,_,_,w6,hr,_,rfl,hK _ fun w7 h7=>?_⟩;have h8:=hT _ _ h7;refine⟨j+1,⟨rfl,rfl,by rw[aD (by omega)];rfl,trivial⟩,⟨by omega,?_⟩,by omega⟩;rw[List.replicate_succ' (n:=j)];exact h8
  ·have:j=n:=by simp at g;omega
   subst this;obtain⟨F,hF1,hF2,hF3⟩:=hM;refine⟨b,F,rfl,⟨b2,bm,_,_,_,au.E7 hF1,?_⟩,hF2,hF3⟩;refine⟨by simp[iV],by simp[iV],fun i hi=>?_,fun id=>?_,⟨by show aN 0;unfold aN;decide,hn,by simp[iV],fun id p hp=>?_⟩⟩
   ·have e:cL (iV j).t (i:Int)=fun _=>none:=by
     funext id;unfold cL iV;rw[Be]
    rw[e];simp[iV]
   ·unfold iV;rw[Be];rfl
   ·unfold iV at hp;rw[Be]at hp;cases hp
 ·have:=of_decide_eq_true g1;omega
end Go.Dav
namespace Go.Dav
open Go.Proofs
theorem VO (n m:Int) (w:World):Cx 225 #[I n,I m] w fun e w'=>e=Z (.bool (decide (0<=n/\n<=m)))/\w'=w:=by
 refine aj5 ?_;rw[t225];refine⟨fun g=>⟨?_,rfl⟩,fun g=>⟨?_,rfl⟩⟩
 ·have g:=of_decide_eq_true g;congr 2;simp only[decide_eq_decide];omega
 ·have g:=of_decide_eq_false g;congr 2;simp only[Bool.false_eq,decide_eq_false_iff_not];omega
theorem SI (n:Int) (b:Bool) (w:World):Cx 226 #[I n,.bool b] w fun e w'=>e=Z (.tuple #[I (if b then n else 0),I (if b then 0 else 16)])/\w'=w:=by
 refine aj6 ?_;rw[t226];cases b
 ·exact⟨fun _=>⟨rfl,rfl⟩,fun g=>(by cases g)⟩
 ·exact⟨fun g=>(by cases g),fun _=>⟨rfl,rfl⟩⟩
theorem Eb (a d:Int) (w:World):Cx 122 #[I a,I d] w fun e w'=>e=Z (.tuple #[I (aP a d).1,I (aP a d).2])/\w'=w:=by
 refine aiF ?_;rw[t122];refine⟨(VO _ _ w).mono ?_⟩;rintro e w1 ⟨rfl,rfl⟩;refine⟨_,rfl,fun g1=>⟨(VO _ _ w1).mono ?_⟩,fun g1=>?_⟩
 ·have g1:0<=a/\a<=1152921504606846976:=by simpa using g1
  rintro e w2 ⟨rfl,rfl⟩;refine⟨_,rfl,fun g2=>?_,fun g2=>⟨(SI _ _ w2).mono ?_⟩⟩
  ·have g2:¬(0<=d/\d<=1073741824):=fun hh=>by rw[decide_eq_true hh]at g2;cases g2
   have e0:aP a d=(0,2):=by unfold aP;rw[if_neg (fun h=>g2 h.2)]
   rw[e0];exact⟨rfl,rfl⟩
  ·have g2:0<=d/\d<=1073741824:=by simpa using g2
   rintro e w3 ⟨rfl,rfl⟩;refine⟨_,_,rfl,?_,rfl⟩;rw[aD (x:=a+d) (by omega),aD (x:=1152921504606846976-d) (by omega)];have hc:(0<=a/\a<=1152921504606846976)/\(0<=d/\d<=1073741824):=⟨g1,g2⟩;by_cases h:a<=1152921504606846976-d
   ·have e0:aP a d=(a+d,0):=by unfold aP;rw[if_pos hc,if_pos h]
    rw[e0,decide_eq_true h];rfl
   ·have e0:aP a d=(0,16):=by unfold aP;rw[if_pos hc,if_neg h]
    rw[e0,decide_eq_false h];rfl
 ·have g1:¬(0<=a/\a<=1152921504606846976):=fun hh=>by rw[decide_eq_true hh]at g1;cases g1
  have e0:aP a d=(0,2):=by unfold aP;rw[if_neg (fun h=>g1 h.1)]
  rw[e0];exact⟨rfl,rfl⟩
theorem XT (x:Int):dL (IntKind.wrap .i64 x):=by
 unfold dL IntKind.wrap;simp only[IntKind.bits,IntKind.signed,Bool.true_and];split<;>simp_all<;>omega
theorem wrap_add {a b:Int} (ha:dL a) (hb:dL b):(IntKind.wrap .i64 (a+b)=a+b/\dL (a+b))∨(¬dL (a+b)/\((0<=b/\IntKind.wrap .i64 (a+b)=a+b-18446744073709551616)∨(b<0/\IntKind.wrap .i64 (a+b)=a+b+18446744073709551616))):=by
 unfold dL at *;by_cases h : -9223372036854775808<=a+b/\a+b<=9223372036854775807
 ·exact .inl ⟨aD h,h⟩
 ·refine .inr ⟨h,?_⟩;unfold IntKind.wrap;simp only[IntKind.bits,IntKind.signed,Bool.true_and];rcases Int.lt_or_le b 0 with hb0|hb0
  ·refine .inr ⟨hb0,?_⟩;split<;>simp_all<;>omega
  ·refine .inl ⟨hb0,?_⟩;split<;>simp_all<;>omega
theorem VG {a b:Int} (ha:dL a) (hb:dL b) (w:World):Cx 333 #[I a,I b] w fun e w'=>e=Z (.tuple #[I (kl a b).1,I (kl a b).2])/\w'=w:=by
 refine alz ?_;rw[t333];refine⟨(SI _ _ w).mono ?_⟩;rintro e w1 ⟨rfl,rfl⟩;refine⟨_,_,rfl,?_,rfl⟩
 have e0:(decide (IntKind.wrap .i64 (a+b)<a)==decide (b<0))=decide (dL (a+b)):=by
  rcases wrap_add ha hb with⟨h1,h2⟩|⟨h1,h2|h2⟩
  ·rw[h1,decide_eq_true h2];by_cases h:b<0
   ·rw[decide_eq_true h,decide_eq_true (by omega)];rfl
   ·rw[decide_eq_false h,decide_eq_false (by omega)];rfl
  ·unfold dL at ha hb;rw[decide_eq_false h1,h2.2,decide_eq_false (show ¬b<0 by omega),decide_eq_true (by omega)];rfl
  ·unfold dL at ha hb;rw[decide_eq_false h1,h2.2,decide_eq_true h2.1,decide_eq_false (by omega)];rfl
 rw[e0];unfold kl;by_cases h:dL (a+b)
 ·rw[if_pos h,decide_eq_true h];unfold dL at h;rw[aD h];rfl
 ·rw[if_neg h,decide_eq_false h];rfl
end Go.Dav
namespace Go.Dav
open Go.Proofs
theorem aas:dH Tryz.prog 53 2 1 8 [I 0]:=⟨by kernel_rfl,by kernel_rfl,rfl,by omega⟩
abbrev X0 (b:Nat):Ob (List Int×Option Addr×Nat):=Hd b 221 2 1 (fun l p c=>[.slice p l.length c]) (fun l=>l.length) (fun l=>l.map (Value.int .i64))
structure xA (x:List Int):Prop where
 fit:∀v∈x,dL v
 len:1<=x.length/\x.length<=64
def fg (b:Nat):Ob (List Int):=fun w F x=>(∃y,X0 b w F (x,y))/\xA x
instance Frame.Xb (b:Nat):Frame (fg b) where
 ae:=fun⟨⟨y,h⟩,r⟩ k hG=>⟨⟨y,(Frame.hd ..).ae h k hG⟩,r⟩
 lt:=fun⟨⟨_,h⟩,_⟩=>(Frame.hd ..).lt h
theorem v8 {x:List Int} {c:Int} (h:eV x c):∃i:Nat,i<x.length/\c=(i:Int):=⟨c.toNat,by unfold eV at h;omega,by unfold eV at h;omega⟩
theorem kL {x:List Int} {i:Nat} (hi:i<x.length):kJ x (i:Int)=x[i]:=by simp[kJ,hi]
theorem xA.set {x:List Int} (h:xA x) (i:Nat) {v:Int} (hv:dL v):xA (x.set i v):=⟨fun z hz=>by
 rcases List.mem_or_eq_of_mem_set hz with hz|rfl
 ·exact h.fit z hz
 ·exact hv,by simpa using h.len⟩
section
variable {b:Nat} {w:World} {F:Fp} {x:List Int}
theorem fg.ai (h:fg b w F x):∃p c,aE w b [.slice p x.length c] 221:=by
 obtain⟨⟨y,h⟩,_⟩:=h;exact⟨_,_,h.ai⟩
theorem fg.at (h:fg b w F x) {i:Nat} (hi:i<x.length):∃a c,aE w b [.slice (some a) x.length c] 221/\w.cell? (a.add (i*1))=some (I x[i])/\∀(v:Int),dL v->∀K:World->Prop,(∀w',aa (fg b) w w' F (x.set i v)->K w')->Wr w (a.add (i*1)) [I v] K:=by
 obtain⟨⟨y,h⟩,hv⟩:=h;obtain⟨a,ha,hc⟩:=h.sl.cells.bC hi;obtain⟨p,c⟩:=y;simp only at ha;subst ha;refine⟨a,c,h.ai,hc,fun v hf K hK=>?_⟩;rw[Nat.mul_one];refine h.sl.wr (o:=i) (by simp only[List.length_cons,List.length_nil];omega) fun w' hS hU=>hK w' ?_;have e1:=qw (f:=Value.int .i64) (r:=x) hi (v:=v);rw[e1]at hS;obtain⟨F',h1,h2⟩:=h.elems (w':=w') (s':=x.set i v) (by simpa using hS) hU (by simp);exact⟨F',⟨⟨_,h1⟩,hv.set i hf⟩,h2⟩
theorem A4 (h:fg b w F x) (c:Int):Cx 332 #[pt b,I c] w fun e w'=>e=Z (I (if eV x c then 0 else 3))/\w'=w:=by
 obtain⟨p,c0,hB⟩:=h.ai;refine aly ?_;rw[t332];refine⟨fun g=>(by cases g),fun _=>⟨fun g1=>⟨_,rfl,_,_,_,hB.cell rfl,fun g2=>⟨?_,rfl⟩,fun g2=>⟨?_,rfl⟩⟩,fun g1=>⟨?_,rfl⟩⟩⟩
 ·have g2:=of_decide_eq_true g2;rw[if_neg (by unfold eV;omega)]
 ·have g1:=of_decide_eq_false g1;have g2:=of_decide_eq_false g2;rw[if_pos (by unfold eV;omega)]
 ·have g1:=of_decide_eq_true g1;rw[if_neg (by unfold eV;omega)]
theorem WW (h:fg b w F x) (c:Int):Cx 331 #[pt b,I c] w fun e w'=>e=Z (.tuple #[I (if eV x c then kJ x c else 0),I (if eV x c then 0 else 3)])/\w'=w:=by
 refine alx ?_;rw[t331];refine⟨(A4 h c).mono ?_⟩;rintro e w1 ⟨rfl,rfl⟩;by_cases hc:eV x c
 ·obtain⟨i,hi,rfl⟩:=v8 hc;obtain⟨a,c0,hB,hcell,_⟩:=h.at hi;simp only[if_pos hc];refine⟨_,rfl,fun g=>(by cases g),fun _=>⟨_,rfl,_,_,_,hB.cell rfl,⟨by omega,by omega⟩,_,rfl,_,hcell,?_⟩⟩;rw[kL hi];exact⟨rfl,trivial⟩
 ·simp only[if_neg hc];exact⟨_,rfl,fun _=>⟨rfl,trivial⟩,fun g=>(by cases g)⟩
theorem AW (h:fg b w F x) (c:Int) {n:Int} (hn:dL n):Cx 260 #[pt b,I c,I n] w fun e w'=>e=Z (I (j9 x c n))/\aa (fg b) w w' F (iC x c n):=by
 refine akE ?_;rw[t260];refine⟨(A4 h c).mono ?_⟩;rintro e w1 ⟨rfl,rfl⟩;by_cases hc:eV x c
 ·obtain⟨i,hi,rfl⟩:=v8 hc;obtain⟨a,c0,hB,hcell,hput⟩:=h.at hi;have hr:(0:Int)<=(i:Int)/\(i:Int)<(x.length:Int):=⟨by omega,by omega⟩;simp only[if_pos hc];refine⟨_,rfl,fun g=>(by cases g),fun _=>⟨_,rfl,_,_,_,hB.cell rfl,hr,_,rfl,_,hcell,⟨(VG (h.2.fit _ (List.getElem_mem hi)) hn w1).mono ?_⟩⟩⟩;rintro e w2 ⟨rfl,rfl⟩;have eE:j9 x (i:Int) n=(kl x[i] n).2:=by unfold j9;rw[if_pos hc,kL hi]
  refine⟨_,_,rfl,fun g=>?_,fun g=>⟨_,rfl,_,_,_,hB.cell rfl,hr,_,rfl,?_⟩⟩
  ·have g:¬(kl x[i] n).2=0:=by simpa using g
   have eS:iC x (i:Int) n=x:=by unfold iC;rw[eE,if_neg g]
   rw[eE,eS];exact⟨rfl,aa.same h⟩
  ·have g:(kl x[i] n).2=0:=by simpa using g
   have hf:dL (x[i]+n):=by
    unfold kl at g;by_cases hf:dL (x[i]+n)
    ·exact hf
    ·rw[if_neg hf]at g;cases g
   have e1:(kl x[i] n).1=x[i]+n:=by unfold kl;rw[if_pos hf]
   have eS:iC x (i:Int) n=x.set i (x[i]+n):=by unfold iC;rw[eE,if_pos g,kL hi];rfl
   rw[e1,Int.toNat_natCast];refine hput _ hf _ fun w3 h3=>?_;rw[eE,eS,g];exact⟨rfl,h3⟩
 ·simp only[if_neg hc];have eE:j9 x c n=3:=by unfold j9;rw[if_neg hc]
  have eS:iC x c n=x:=by unfold iC;rw[eE,if_neg (by decide)]
  rw[eE,eS];exact⟨_,rfl,fun _=>⟨rfl,aa.same h⟩,fun g=>(by cases g)⟩
theorem afL (h:fg b w F x) (f t:Int):Cx 361 #[pt b,I f,I t] w fun e w'=>e=Z (I (mS x f t))/\aa (fg b) w w' F (xb x f t):=by
 refine alR ?_;rw[t361];have nop:∀n,mS x f t=n->n≠0->xb x f t=x:=fun n hE hn=>by unfold xb;rw[hE,if_neg hn]
 refine⟨(A4 h f).mono ?_⟩;rintro e w1 ⟨rfl,rfl⟩;by_cases hf:eV x f
 ·simp only[if_pos hf];refine⟨_,rfl,fun g=>(by cases g),fun _=>⟨(A4 h t).mono ?_⟩⟩;rintro e w2 ⟨rfl,rfl⟩;by_cases ht:eV x t
  ·simp only[if_pos ht];refine⟨_,rfl,fun g=>(by cases g),fun _=>⟨fun g=>?_,fun g=>?_⟩⟩
   ·have g:f=t:=by simpa using g
    have hE:mS x f t=2:=by unfold mS;rw[if_pos hf,if_pos ht,if_pos g]
    rw[nop _ hE (by decide),hE];exact⟨rfl,aa.same h⟩
   ·have g:f≠t:=by simpa using g
    obtain⟨i,hi,rfl⟩:=v8 hf;obtain⟨a,c0,hB,hcell,_⟩:=h.at hi;have hr:(0:Int)<=(i:Int)/\(i:Int)<(x.length:Int):=⟨by omega,by omega⟩;have hE:mS x (i:Int) t=j9 x t x[i]:=by unfold mS;rw[if_pos hf,if_pos ht,if_neg g,kL hi]
    refine⟨_,rfl,_,_,_,hB.cell rfl,hr,_,rfl,_,hcell,⟨(AW h t (h.2.fit _ (List.getElem_mem hi))).mono ?_⟩⟩;rintro e w3 ⟨rfl,hT⟩;refine⟨_,rfl,fun g2=>?_,fun g2=>?_⟩
    ·have g2:j9 x t x[i]=0:=by simpa using g2
     obtain⟨F1,h1,k1⟩:=hT.bI;have hl:(iC x t x[i]).length=x.length:=by unfold iC;split<;>simp
     obtain⟨a1,c1,hB1,_,hput1⟩:=h1.at (i:=i) (by rw[hl];exact hi);rw[hl]at hB1;refine⟨_,rfl,_,_,_,hB1.cell rfl,hr,_,rfl,?_⟩;rw[Int.toNat_natCast];refine hput1 0 (by decide) _ fun w4 h4=>?_;have hS:xb x (i:Int) t=(iC x t x[i]).set i 0:=by unfold xb;rw[hE,if_pos g2,kL hi];rfl
     rw[hE,hS];exact⟨rfl,k1 _ _ h4⟩
    ·have g2:¬j9 x t x[i]=0:=by simpa using g2
     rw[nop _ hE g2,hE];have:iC x t x[i]=x:=by unfold iC;rw[if_neg g2]
     rw[this]at hT;exact⟨rfl,hT⟩
  ·simp only[if_neg ht];have hE:mS x f t=3:=by unfold mS;rw[if_pos hf,if_neg ht]
   rw[nop _ hE (by decide),hE];exact⟨_,rfl,fun _=>⟨rfl,aa.same h⟩,fun g=>(by cases g)⟩
 ·simp only[if_neg hf];have hE:mS x f t=3:=by unfold mS;rw[if_neg hf]
  rw[nop _ hE (by decide),hE];exact⟨_,rfl,fun _=>⟨rfl,aa.same h⟩,fun g=>(by cases g)⟩
theorem afp (x y:Int) (hx:0<=x) (hy:0<=y) (w:World):(callFunc 169 #[.int .u64 x,.int .u64 y,.int .u64 0]).run Tryz.prog w=.ok (.value (.tuple #[.int .u64 ((x+y+0)%18446744073709551616),.int .u64 ((x+y+0)/18446744073709551616)])) w:=by
 rw[run_callFunc_extern Tryz.func169 (by kernel_rfl) (by kernel_rfl) (by kernel_rfl) (e:=add64Entry) (by kernel_rfl),run_add64 x y 0 hx hy (by omega) (by omega)];rfl
theorem A8 {x:List Int} (hp:∀v∈x,0<=v):∀i,0<=(x.take i).sum/\(x.take i).sum<=x.sum:=by
 induction x with
 | nil=>intro i;simp
 | cons v x ih=>
  intro i
  cases i with
  | zero=>
   have:=ih (fun v hv=>hp v (List.mem_cons_of_mem _ hv)) x.length;rw[List.take_length]at this;have:=hp v (List.mem_cons_self);simp
   omega
  | succ i=>
   have:=ih (fun v hv=>hp v (List.mem_cons_of_mem _ hv)) i;have:=hp v (List.mem_cons_self);simp only[List.take_succ_cons,List.sum_cons];omega
theorem Xh {x:List Int} {i:Nat} (hi:i<x.length):(x.take (i+1)).sum=(x.take i).sum+x[i]:=by
 rw[List.take_succ_eq_append_getElem hi,List.sum_append];simp
theorem WY {n:Int} (h:0<=n/\n<=1000):aC .i64 n 63=0:=by
 unfold aC;rw[show(2:Int) ^ (min (63:Int).toNat IntKind.i64.bits)=9223372036854775808 from rfl,Int.fdiv_eq_ediv_of_nonneg _ (by decide)];omega
theorem XW {n:Int} (h:0<=n/\n<=1000):IntKind.wrap .u64 n=n:=by
 unfold IntKind.wrap;simp[IntKind.bits,IntKind.signed];omega
theorem agb (h:fg b w F x) (hp:∀v∈x,0<=v) (hs:x.sum<=1000):Cx 78 #[pt b] w fun e w'=>e=Z (.tuple #[I x.sum,I 0])/\w'=w:=by
 refine u78 ?_;rw[t78];obtain⟨p,c0,hB⟩:=h.ai;refine⟨fun g=>(by cases g),fun _=>⟨_,rfl,p,x.length,c0,hB.cell rfl,⟨bA bf (M:=qS) (σ:=Nat) (fun i=>Dv 0 (x.take i).sum p x.length c0 (x.length:Int) (i:Int)) (fun i w'=>i<=x.length/\w'=w) (fun i _=>x.length-i) 0 ⟨rfl,rfl,rfl,rfl,rfl,trivial⟩ ⟨by omega,rfl⟩ ?_⟩⟩⟩;rintro i w1 ⟨hi,rfl⟩;have hb:=A8 hp i;rw[ahv];refine⟨fun g=>?_,fun g=>aA.mk ?_⟩
 ·have g:=of_decide_eq_true g;have hi':i<x.length:=by omega
  obtain⟨a,c1,hB1,hcell,_⟩:=h.at hi'
  have:p=some a:=by
   have e1:=hB.cell (k:=0) rfl;rw[hB1.cell (k:=0) rfl]at e1;simp at e1;exact e1.1.symm
  subst this;have hv:=hp _ (List.getElem_mem hi');have hb2:=A8 hp (i+1);rw[Xh hi']at hb2;refine⟨⟨by omega,by omega⟩,a,rfl,_,hcell,_,_,w1,afp _ _ hb.1 (by rw[XW (by omega)];exact hv) w1,by decide,?_⟩;rw[XW (by omega),WY (by omega)];refine⟨i+1,⟨?_,?_,rfl,rfl,by rw[aD (x:=(i:Int)+1) (by have:=h.2.len;omega)];rfl,trivial⟩,⟨by omega,rfl⟩,by omega⟩
  ·rw[show((x.take i).sum+x[i]+0)/18446744073709551616=0 by omega];rfl
  ·rw[show((x.take i).sum+x[i]+0)%18446744073709551616=(x.take (i+1)).sum by rw[Xh hi'];omega];rfl
 ·have g:=of_decide_eq_false g;have:i=x.length:=by omega
  subst this;rw[List.take_length]at hb⊢;rw[ahu];have e1:IntKind.wrap .i64 x.sum=x.sum:=aD (by omega);rw[e1,WY (by omega)];exact⟨by decide,fun _=>⟨rfl,rfl⟩,fun g=>(by cases g)⟩
end
theorem Xa (n:Nat) (hn:1<=n/\n<=64) (w:World):Cx 50 #[I (n:Int)] w fun e w'=>∃b F,e=Z (.tuple #[pt b,I 0])/\fg b w' F (List.replicate n 0)/\af no w w'/\∀i,F i->w.heap.size<=i:=by
 refine u50 ?_;rw[t50];refine⟨fun _=>⟨fun g=>?_,fun _=>?_⟩,fun g=>?_⟩
 ·have:=of_decide_eq_true g;omega
 ·obtain⟨w1,hr,hN⟩:=Fe aas w (n:=n) (by omega) (by omega) .i64 .i64;refine⟨_,_,_,w1,hr,⟨fun w2 hN2=>?_⟩⟩;have hsz:=hN.size;refine⟨w1.heap.size,fun i=>i=w1.heap.size∨aL (some ⟨w.heap.size,0,none⟩) i,rfl,⟨⟨(some ⟨w.heap.size,0,none⟩,n),?_,?_,?_,fun i=>Iff.rfl⟩,⟨fun v hv=>?_,by simpa using hn⟩⟩,(hN.ae no).and (hN2.ae no),?_⟩
  ·simpa using hN2.aF
  ·have hS:Sl w1 2 1 (some ⟨w.heap.size,0,none⟩) n n ((List.replicate n (0:Int)).map (Value.int .i64)):=Sl.new hN (by simp) (by unfold maxLen;omega);simpa using hS.ae (hN2.ae no) (fun _ _ h=>h)
  ·rintro⟨a,ha,hb⟩;cases ha;simp only at hb;omega
  ·rw[List.eq_of_mem_replicate hv];decide
  ·rintro i (rfl|⟨a,ha,rfl⟩)
   ·omega
   ·cases ha;exact Nat.le_refl _
 ·have:=of_decide_eq_true g;omega
def zE (b2:Nat) (s:Int):List Value:=[pt b2,I s]
def dQ (b:Nat):Ob fD:=fun w F x=>(∃b2,au (Rw b 160 (zE b2)) (fg b2) w F (x.2,x.1))/\qH x
instance Frame.gao (b:Nat):Frame (dQ b) where
 ae:=fun⟨⟨b2,h⟩,r⟩ k hG=>⟨⟨b2,Frame.star.ae h k hG⟩,r⟩
 lt:=fun⟨⟨_,h⟩,_⟩=>Frame.star.lt h
section
variable {b:Nat} {w:World} {F:Fp} {x:fD}
theorem dQ.open (h:dQ b w F x):∃b2 F2,aE w b (zE b2 x.2) 160/\fg b2 w F2 x.1/\(∀w' l,aa (fg b2) w w' F2 l->qH (l,x.2)->aa (dQ b) w w' F (l,x.2))/\∀(v:Int),(0<=v/\v<=2)->∀K:World->Prop,(∀w',aa (dQ b) w w' F (x.1,v)->K w')->Wr w ((⟨b,0,none⟩:Addr).add 1) [I v] K:=by
 obtain⟨⟨b2,h⟩,hv⟩:=h;obtain⟨F1,h1,k1⟩:=h.left;obtain⟨F2,h2,k2⟩:=h.right;refine⟨b2,F2,h1.ai,h2,fun w' l hT hV=>?_,fun v hr K hK=>h1.ai.wr (k:=1) (by simp[zE]) fun w' hW=>hK w' ?_⟩
 ·obtain⟨F',h3,h4⟩:=k2 _ _ hT;exact⟨F',⟨⟨b2,h3⟩,hV⟩,h4⟩
 ·obtain⟨F',h3,h4⟩:=k1 _ _ (h1.dZ (s':=v) hW.U hW.aF);exact⟨F',⟨⟨b2,h3⟩,⟨hv.pos,hv.sum,hv.len,hr⟩⟩,h4⟩
theorem DT (h:dQ b w F x):Cx 20 #[pt b] w fun e w'=>e=Z (I x.1.sum)/\w'=w:=by
 obtain⟨b2,F2,hB,hS,_,_⟩:=h.open;refine u20 ?_;rw[t20];refine⟨fun g=>(by cases g),fun _=>⟨_,rfl,_,hB.cell rfl,⟨(agb hS h.2.pos h.2.sum).mono ?_⟩⟩⟩;rintro e w1 ⟨rfl,rfl⟩;exact⟨_,_,rfl,rfl,rfl⟩
theorem S9 (h:dQ b w F x) (c:Int):Cx 259 #[pt b,I c] w fun e w'=>e=Z (I (if eV x.1 c then 0 else 3))/\w'=w:=by
 obtain⟨b2,F2,hB,hS,_,_⟩:=h.open;refine akD ?_;rw[t259];refine⟨fun g=>(by cases g),fun _=>⟨_,rfl,_,hB.cell rfl,⟨(WW hS c).mono ?_⟩⟩⟩;rintro e w1 ⟨rfl,rfl⟩;exact⟨_,_,rfl,rfl,rfl⟩
theorem abC (h:dQ b w F x) (c:Int):Cx 265 #[pt b,I c] w fun e w'=>e=Z (I (if eV x.1 c then kJ x.1 c else 0))/\w'=w:=by
 obtain⟨b2,F2,hB,hS,_,_⟩:=h.open;refine akJ ?_;rw[t265];refine⟨fun g=>(by cases g),fun _=>⟨_,rfl,_,hB.cell rfl,⟨(WW hS c).mono ?_⟩⟩⟩;rintro e w1 ⟨rfl,rfl⟩;exact⟨_,_,rfl,rfl,rfl⟩
theorem Xg {l:List Int} {i:Nat} (hi:i<l.length) (v:Int):(l.set i v).sum=l.sum-l[i]+v:=by
 induction l generalizing i with
 | nil=>simp at hi
 | cons a l ih=>
  cases i with
  | zero=>simp;omega
  | succ i=>
   have:=ih (i:=i) (by simpa using hi);simp only[List.set_cons_succ,List.sum_cons,List.getElem_cons_succ,this];omega
theorem qH.set (h:qH x) {i:Nat} (hi:i<x.1.length) {v:Int} (hv:0<=v) (hs:x.1.sum-x.1[i]+v<=1000):qH (x.1.set i v,x.2):=⟨fun z hz=>by
 rcases List.mem_or_eq_of_mem_set hz with hz|rfl
 ·exact h.pos z hz
 ·exact hv,by rw[Xg hi];exact hs,by simpa using h.len,h.st⟩
theorem qH.le (h:qH x) {i:Nat} (hi:i<x.1.length):0<=x.1[i]/\x.1[i]<=1000:=by
 have h1:=h.pos _ (List.getElem_mem hi);have h2:=Xg hi 0
 have h3:0<=(x.1.set i 0).sum:=(A8 (x:=x.1.set i 0) (fun v hv=>by
  rcases List.mem_or_eq_of_mem_set hv with hz|rfl
  ·exact h.pos v hz
  ·exact Int.le_refl _) 0).1|>fun _=>by
   have:=(A8 (x:=x.1.set i 0) (fun v hv=>by
    rcases List.mem_or_eq_of_mem_set hv with hz|rfl
    ·exact h.pos v hz
    ·exact Int.le_refl _) (x.1.set i 0).length).1
   rwa [List.take_length]at this
 have:=h.sum;omega
theorem Lo {a n:Int} (h : -1000000<=a+n/\a+n<=1000000):kl a n=(a+n,0):=by
 unfold kl;rw[if_pos (by unfold dL;omega)]
theorem abl (h:dQ b w F x) (c:Int):Cx 157 #[pt b,I c] w fun e w'=>e=Z (I (kE x c))/\aa (dQ b) w w' F (oM x c):=by
 refine ajf ?_;rw[t157];have nop:∀n,kE x c=n->n≠0->oM x c=x:=fun n hE hn=>by unfold oM;rw[hE,if_neg hn]
 obtain⟨b2,F2,hB,hS,kS,_⟩:=h.open;refine⟨(S9 h c).mono ?_⟩;rintro e w1 ⟨rfl,rfl⟩;by_cases hc:eV x.1 c
 ·simp only[if_pos hc];refine⟨_,rfl,fun g=>(by cases g),fun _=>⟨_,rfl,_,hB.cell rfl,fun g=>?_,fun g=>⟨(DT h).mono ?_⟩⟩⟩
  ·have g:x.2≠0:=by simpa using g
   have hE:kE x c=7:=by unfold kE;rw[if_pos hc,if_neg g]
   rw[nop _ hE (by decide),hE];exact⟨rfl,aa.same h⟩
  ·have g:x.2=0:=by simpa using g
   rintro e w2 ⟨rfl,rfl⟩;refine⟨_,rfl,fun g2=>?_,fun g2=>⟨_,rfl,_,hB.cell rfl,⟨(AW hS c (n:=1) (by decide)).mono ?_⟩⟩⟩
   ·have g2:=of_decide_eq_true g2;have hE:kE x c=5:=by unfold kE;rw[if_pos hc,if_pos g,if_pos g2]
    rw[nop _ hE (by decide),hE];exact⟨rfl,aa.same h⟩
   ·have g2:=of_decide_eq_false g2;rintro e w3 ⟨rfl,h3⟩;obtain⟨i,hi,rfl⟩:=v8 hc;have hle:=h.2.le hi;have hE:kE x (i:Int)=0:=by unfold kE;rw[if_pos hc,if_pos g,if_neg g2]
    have hE2:j9 x.1 (i:Int) 1=0:=by unfold j9;rw[if_pos hc,kL hi,Lo (by omega)]
    have hS2:iC x.1 (i:Int) 1=x.1.set i (x.1[i]+1):=by unfold iC;rw[hE2,if_pos rfl,kL hi];rfl
    have hSS:oM x (i:Int)=(x.1.set i (x.1[i]+1),x.2):=by unfold oM;rw[hE,if_pos rfl,kL hi];rfl
    rw[hS2]at h3;refine⟨_,rfl,by rw[hE2,hE],?_⟩;rw[hSS];exact kS _ _ h3 (h.2.set hi (by omega) (by omega))
 ·simp only[if_neg hc];have hE:kE x c=3:=by unfold kE;rw[if_neg hc]
  rw[nop _ hE (by decide),hE];exact⟨_,rfl,fun _=>⟨rfl,aa.same h⟩,fun g=>(by cases g)⟩
theorem aby (h:dQ b w F x) (c:Int):Cx 165 #[pt b,I c] w fun e w'=>e=Z (I (mB x c))/\aa (dQ b) w w' F (oV x c):=by
 refine ajn ?_;rw[t165];have nop:∀n,mB x c=n->n≠0->oV x c=x:=fun n hE hn=>by unfold oV;rw[hE,if_neg hn]
 obtain⟨b2,F2,hB,hS,kS,_⟩:=h.open;refine⟨(S9 h c).mono ?_⟩;rintro e w1 ⟨rfl,rfl⟩;by_cases hc:eV x.1 c
 ·simp only[if_pos hc];refine⟨_,rfl,fun g=>(by cases g),fun _=>⟨(abC h c).mono ?_⟩⟩;rintro e w2 ⟨rfl,rfl⟩;rw[if_pos hc];refine⟨_,rfl,fun g=>?_,fun g=>⟨_,rfl,_,hB.cell rfl,⟨(AW hS c (n:=-1) (by decide)).mono ?_⟩⟩⟩
  ·have g:kJ x.1 c=0:=by simpa using g
   have hE:mB x c=12:=by unfold mB;rw[if_pos hc,if_pos g]
   rw[nop _ hE (by decide),hE];exact⟨rfl,aa.same h⟩
  ·have g:kJ x.1 c≠0:=by simpa using g
   rintro e w3 ⟨rfl,h3⟩;obtain⟨i,hi,rfl⟩:=v8 hc;have hle:=h.2.le hi;rw[kL hi]at g;have hE:mB x (i:Int)=0:=by unfold mB;rw[if_pos hc,kL hi,if_neg g]
   have hE2:j9 x.1 (i:Int) (-1)=0:=by unfold j9;rw[if_pos hc,kL hi,Lo (by omega)]
   have hS2:iC x.1 (i:Int) (-1)=x.1.set i (x.1[i]-1):=by unfold iC;rw[hE2,if_pos rfl,kL hi];rfl
   have hSS:oV x (i:Int)=(x.1.set i (x.1[i]-1),x.2):=by unfold oV;rw[hE,if_pos rfl,kL hi];rfl
   rw[hS2]at h3;refine⟨_,rfl,by rw[hE2,hE],?_⟩;rw[hSS];have:=h.2.sum;exact kS _ _ h3 (h.2.set hi (by omega) (by omega))
 ·simp only[if_neg hc];have hE:mB x c=3:=by unfold mB;rw[if_neg hc]
  rw[nop _ hE (by decide),hE];exact⟨_,rfl,fun _=>⟨rfl,aa.same h⟩,fun g=>(by cases g)⟩
theorem abH (h:dQ b w F x):Cx 160 #[pt b] w fun e w'=>e=Z (I (Gk x))/\aa (dQ b) w w' F (mW x):=by
 obtain⟨b2,F2,hB,hS,_,kB⟩:=h.open;refine aji ?_;rw[t160];refine⟨fun g=>(by cases g),fun _=>⟨_,rfl,_,hB.cell rfl,fun g=>?_,fun g=>⟨_,rfl,kB 1 (by decide) _ fun w2 h2=>?_⟩⟩⟩
 ·have g:x.2≠0:=by simpa using g
  unfold Gk mW;rw[if_neg g,if_neg g];exact⟨rfl,aa.same h⟩
 ·have g:x.2=0:=by simpa using g
  unfold Gk mW;rw[if_pos g,if_pos g];exact⟨rfl,h2⟩
theorem abG (h:dQ b w F x):Cx 298 #[pt b] w fun e w'=>e=Z (I (kN x))/\aa (dQ b) w w' F (kO x):=by
 obtain⟨b2,F2,hB,hS,_,kB⟩:=h.open;refine akY ?_;rw[t298];have nop:∀n,kN x=n->n≠0->kO x=x:=fun n hE hn=>by unfold kO;rw[hE,if_neg hn]
 refine⟨fun g=>(by cases g),fun _=>⟨_,rfl,_,hB.cell rfl,fun g=>?_,fun g=>⟨(DT h).mono ?_⟩⟩⟩
 ·have g:x.2≠1:=by simpa using g
  have hE:kN x=6:=by unfold kN;rw[if_neg g]
  rw[nop _ hE (by decide),hE];exact⟨rfl,aa.same h⟩
 ·have g:x.2=1:=by simpa using g
  rintro e w2 ⟨rfl,rfl⟩;refine⟨_,rfl,fun g2=>?_,fun g2=>⟨_,rfl,kB 2 (by decide) _ fun w3 h3=>?_⟩⟩
  ·have g2:=of_decide_eq_true g2;have hE:kN x=7:=by unfold kN;rw[if_pos g,if_pos g2]
   rw[nop _ hE (by decide),hE];exact⟨rfl,aa.same h⟩
  ·have g2:=of_decide_eq_false g2;have hE:kN x=0:=by unfold kN;rw[if_pos g,if_neg g2]
   have hSS:kO x=(x.1,2):=by unfold kO;rw[hE,if_pos rfl]
   rw[hE,hSS];exact⟨rfl,h3⟩
theorem abo (h:dQ b w F x):Cx 213 #[pt b] w fun e w'=>e=Z (I (DO x))/\aa (dQ b) w w' F (rl x):=by
 obtain⟨b2,F2,hB,hS,_,kB⟩:=h.open;refine ajT ?_;rw[t213];refine⟨fun g=>(by cases g),fun _=>⟨_,rfl,_,hB.cell rfl,fun g=>?_,fun g=>⟨_,rfl,kB 0 (by decide) _ fun w2 h2=>?_⟩⟩⟩
 ·have g:x.2=0:=by simpa using g
  unfold DO rl;rw[if_pos g,<-g];exact⟨rfl,aa.same h⟩
 ·have g:x.2≠0:=by simpa using g
  unfold DO rl;rw[if_neg g];exact⟨rfl,h2⟩
end
theorem abz (n:Nat) (hn:1<=n/\n<=64) (w:World):Cx 52 #[I (n:Int)] w fun e w'=>∃b F,e=Z (.tuple #[pt b,I 0])/\dQ b w' F (List.replicate n 0,0)/\af no w w'/\∀i,F i->w.heap.size<=i:=by
 refine u52 ?_;rw[t52];refine⟨(Xa n hn w).mono ?_⟩;rintro e w1 ⟨b2,F2,rfl,hS,hU,hF⟩;refine⟨_,_,rfl,fun g=>(by cases g),fun _=>⟨fun w2 hN=>?_⟩⟩;have hR:Rw w1.heap.size 160 (zE b2) w2 (fun i=>i=w1.heap.size) 0:=Rw.new hN rfl;have hS2:=(Frame.Xb b2).ae hS (hN.ae no) (fun _ _ h=>h);refine⟨_,fun i=>i=w1.heap.size∨F2 i,rfl,⟨⟨b2,_,_,hR,hS2,fun i=>Iff.rfl,?_⟩,⟨fun v hv=>?_,?_,by simpa using hn,⟨Int.le_refl _,(show(0:Int)<=2 by decide)⟩⟩⟩,hU.and (hN.ae no),?_⟩
 ·rintro i rfl hf;have:=(Frame.Xb b2).lt hS _ hf;omega
 ·rw[List.eq_of_mem_replicate hv];exact Int.le_refl _
 ·have:(List.replicate n (0:Int)).sum=0:=by simp
  rw[this];decide
 ·rintro i (rfl|hi)
  ·exact hU.size
  ·exact hF i hi
end Go.Dav
namespace Go.Dav
open Go.Proofs
theorem elM:dH Tryz.prog 227 374 10 80 ((List.replicate 10 (0:Int)).map (Value.int .i64)):=⟨by kernel_rfl,by kernel_rfl,rfl,by omega⟩
abbrev Lf (b:Nat):Ob ((Nat×List Int)×Option Addr×Nat):=Hd b 229 374 10 (fun s p c=>[.slice p s.1 c]) (fun s=>s.1) (fun s=>s.2.map (Value.int .i64))
def iH (b:Nat):Ob Nat:=fun w F n=>∃l y,Lf b w F ((n,l),y)/\∀v∈l,dL v
instance Frame.meo (b:Nat):Frame (iH b) where
 ae:=fun⟨l,y,h,r⟩ k hG=>⟨l,y,(Frame.hd ..).ae h k hG,r⟩
 lt:=fun⟨_,_,h,_⟩=>(Frame.hd ..).lt h
section
variable {b:Nat} {w:World} {F:Fp} {n:Nat}
def lE (b:Nat) (W w:World) (F:Fp) (n:Nat) (a:Addr) (c:Nat) (l:List Int):Prop:=aa (Lf b) W w F ((n,l),(some a,c))/\(∀v∈l,dL v)/\l.length=n*10
theorem iH.open (h:iH b w F n) (hn:0<n):∃a c l,lE b w w F n a c l:=by
 obtain⟨l,y,h,hf⟩:=h;have hlen:=h.sl.len;simp only[List.length_map]at hlen;have hlen:l.length=n*10:=hlen;have h0:0<l.length:=by omega
 obtain⟨a,ha,_⟩:=h.sl.cells.bC (l:=l) h0;obtain⟨p,c⟩:=y;simp only at ha;subst ha;exact⟨a,c,l,aa.same h,hf,hlen⟩
theorem lE.out {W:World} {a:Addr} {c:Nat} {l:List Int} (h:lE b W w F n a c l):aa (iH b) W w F n:=by
 obtain⟨⟨F',h1,h2⟩,hf,_⟩:=h;exact⟨F',⟨l,_,h1,hf⟩,h2⟩
theorem lE.ai {W:World} {a:Addr} {c:Nat} {l:List Int} (h:lE b W w F n a c l):aE w b [.slice (some a) n c] 229:=by
 obtain⟨⟨F',h1,h2⟩,_⟩:=h;exact h1.ai
theorem lE.cell {W:World} {a:Addr} {c:Nat} {l:List Int} (h:lE b W w F n a c l) {i:Nat} (hi:i<l.length):w.cell? (a.add i)=some (I l[i]):=by
 obtain⟨⟨F',h1,h2⟩,_⟩:=h;obtain⟨a',ha,hc⟩:=h1.sl.cells.bC hi;cases ha;rw[Nat.mul_one]at hc;exact hc
theorem lE.wr {W:World} {a:Addr} {c:Nat} {l:List Int} (h:lE b W w F n a c l) {i:Nat} (hi:i<l.length) {v:Int} (hv:dL v) {K:World->Prop} (hK:∀w',lE b W w' F n a c (l.set i v)->K w'):Wr w (a.add i) [I v] K:=by
 obtain⟨hT,hf,hl⟩:=h;obtain⟨F1,h1,k1⟩:=hT.bI;refine h1.sl.wr (o:=i) (by simp only[List.length_cons,List.length_nil];omega) fun w' hS hU=>hK w' ?_;rw[qw (f:=Value.int .i64) (r:=l) hi (v:=v)]at hS;have hT2:=h1.elems (w':=w') (s':=(n,l.set i v)) (by simpa using hS) hU (by simp);refine⟨k1 _ _ hT2,fun z hz=>?_,by simpa using hl⟩;rcases List.mem_or_eq_of_mem_set hz with hz|rfl
 ·exact hf z hz
 ·exact hv
theorem Vw (x:Int) (w:World):Cx 370 #[I x] w fun e w'=>e=Z (.bool (decide (0<=x/\x<=2147483648)))/\w'=w:=by
 refine alY ?_;rw[t370];refine⟨fun g=>⟨?_,rfl⟩,fun g=>⟨?_,rfl⟩⟩
 ·have g:=of_decide_eq_true g;congr 2;exact decide_eq_decide.2 (by omega)
 ·have g:=of_decide_eq_false g;congr 2;exact(decide_eq_false (by omega)).symm
theorem Vt {W:World} {a:Addr} {c:Nat} {l:List Int} (h:lE b W w F n a c l) {i j:Nat} (hi:i<n) (hj:j<9) (x y:Int):Cx 313 #[.pointer (some (a.add (i*10))),.pointer (some (a.add (i*10+j))),I x,I y] w fun e w'=>(∃m:Int,e=Z (I m))/\aa (iH b) W w' F n:=by
 have hl:=h.2.2;refine ald ?_;rw[t313];refine⟨(Vw x w).mono ?_⟩;rintro e w1 ⟨rfl,rfl⟩;refine⟨_,rfl,fun _=>⟨(Vw y w1).mono ?_⟩,fun _=>⟨⟨_,rfl⟩,h.out⟩⟩;rintro e w2 ⟨rfl,rfl⟩;refine⟨_,rfl,fun _=>⟨⟨_,rfl⟩,h.out⟩,fun _=>⟨_,rfl,_,by rw[Addr.add_add];exact h.cell (i:=i*10+9) (by omega),⟨(VG (h.2.1 _ (List.getElem_mem _)) (XT _) w2).mono ?_⟩⟩⟩;rintro e w3 ⟨rfl,rfl⟩;refine⟨_,_,rfl,fun g=>⟨fun _=>⟨⟨_,rfl⟩,h.out⟩,fun _=>⟨_,rfl,?_⟩⟩,fun _=>⟨⟨_,rfl⟩,h.out⟩⟩;rw[Addr.add_add];refine h.wr (i:=i*10+9) (by omega) ?_ fun w4 h4=>⟨_,rfl,_,h4.cell (i:=i*10+j) (by rw[h4.2.2];omega),_,rfl,h4.wr (i:=i*10+j) (by rw[h4.2.2];omega) (XT _) fun w5 h5=>⟨⟨_,rfl⟩,h5.out⟩⟩;unfold kl;split
 ·assumption
 ·decide
theorem Vn (h:iH b w F n) {i:Nat} (hi:i<n) {a:Addr} {c:Nat} {l:List Int} (hC:lE b w w F n a c l):Cx 312 #[pt b,I (i:Int)] w fun e w'=>e=Z (.tuple #[.pointer (some (a.add (i*10))),I 0])/\w'=w:=by
 have hB:=hC.ai;refine alc ?_;rw[t312];refine⟨fun g=>(by cases g),fun _=>⟨fun g1=>⟨_,rfl,_,_,_,hB.cell rfl,fun g2=>?_,fun g2=>⟨_,rfl,_,_,_,hB.cell rfl,⟨by omega,by omega⟩,_,rfl,?_,rfl⟩⟩,fun g1=>?_⟩⟩
 ·have g2:=of_decide_eq_true g2;omega
 ·simp
 ·have g1:=of_decide_eq_true g1;omega
theorem adB (h:iH b w F n) {i:Nat} (hi:i<n) (x y:Int):Cx 230 #[pt b,I (i:Int),I x,I y] w fun e w'=>(∃m:Int,e=Z (I m))/\aa (iH b) w w' F n:=by
 obtain⟨a,c,l,hC⟩:=h.open (by omega);refine aka ?_;rw[t230];refine⟨(Vn h hi hC).mono ?_⟩;rintro e w1 ⟨rfl,rfl⟩;refine⟨_,_,rfl,fun g=>(by cases g),fun _=>⟨_,rfl,?_⟩⟩;rw[Addr.add_add];refine⟨(Vt hC hi (j:=0) (by omega) x y).mono ?_⟩;rintro e w2 ⟨⟨m,rfl⟩,hT⟩;exact⟨_,rfl,⟨_,rfl⟩,hT⟩
theorem adA (h:iH b w F n) {i:Nat} (hi:i<n) (bB x y:Int):Cx 229 #[pt b,I (i:Int),I bB,I x,I y] w fun e w'=>(∃m:Int,e=Z (I m))/\aa (iH b) w w' F n:=by
 obtain⟨a,c,l,hC⟩:=h.open (by omega);refine aj9 ?_;rw[t229];refine⟨(Vn h hi hC).mono ?_⟩;rintro e w1 ⟨rfl,rfl⟩;refine⟨_,_,rfl,fun g=>(by cases g),fun _=>⟨fun g1=>⟨fun _=>⟨⟨_,rfl⟩,aa.same h⟩,fun g2=>⟨_,rfl,?_,?_⟩⟩,fun _=>⟨⟨_,rfl⟩,aa.same h⟩⟩⟩
 ·have g1:=of_decide_eq_false g1;have g2:=of_decide_eq_false g2;exact⟨by omega,by omega⟩
 ·have g1:=of_decide_eq_false g1;have g2:=of_decide_eq_false g2;rw[Addr.add_add,Addr.add_add,Nat.mul_one];refine⟨(Vt hC hi (j:=1+bB.toNat) (by omega) x y).mono ?_⟩;rintro e w2 ⟨⟨m,rfl⟩,hT⟩;exact⟨_,rfl,⟨_,rfl⟩,hT⟩
end
theorem aa7 (n:Nat):((List.replicate n ([]:List Int)).flatMap fun x:List Int=>(x++List.replicate (10-x.length) 0|>.take 10).map (Value.int .i64))=((List.replicate (n*10) (0:Int)).map (Value.int .i64)):=by
 induction n with
 | zero=>rfl
 | succ n ih=>
  rw[List.replicate_succ,List.flatMap_cons,ih,Nat.succ_mul,Nat.add_comm,<-List.replicate_append_replicate,List.map_append];rfl
theorem adx (n:Nat) (hn:1<=n/\n<=64) (w:World):Cx 56 #[I (n:Int)] w fun e w'=>∃b F,e=Z (.tuple #[pt b,I 0])/\iH b w' F n/\af no w w'/\∀i,F i->w.heap.size<=i:=by
 refine u56 ?_;rw[t56];refine⟨fun _=>⟨fun g=>?_,fun _=>?_⟩,fun g=>?_⟩
 ·have:=of_decide_eq_true g;omega
 ·obtain⟨w1,hr,hN⟩:=run_mk elM w (n:=n) (by omega) (by omega) .i64 .i64 (f:=fun x:List Int=>(x++List.replicate (10-x.length) 0|>.take 10).map (Value.int .i64)) (x0:=[]) (fun x=>by simp;omega) rfl;refine⟨_,_,_,w1,hr,⟨fun w2 hN2=>?_⟩⟩;have hsz:=hN.size;have hfl:=aa7 n;refine⟨w1.heap.size,fun i=>i=w1.heap.size∨aL (some ⟨w.heap.size,0,none⟩) i,rfl,⟨List.replicate (n*10) 0,(some ⟨w.heap.size,0,none⟩,n),⟨?_,?_,?_,fun i=>Iff.rfl⟩,fun v hv=>?_⟩,(hN.ae no).and (hN2.ae no),?_⟩
  ·simpa using hN2.aF
  ·rw[hfl]at hN;have hS:Sl w1 374 10 (some ⟨w.heap.size,0,none⟩) n n ((List.replicate (n*10) (0:Int)).map (Value.int .i64)):=Sl.new hN (by simp) (by unfold maxLen;omega);exact hS.ae (hN2.ae no) (fun _ _ h=>h)
  ·rintro⟨a,ha,hb⟩;cases ha;simp only at hb;omega
  ·rw[List.eq_of_mem_replicate hv];decide
  ·rintro i (rfl|⟨a,ha,rfl⟩)
   ·omega
   ·cases ha;exact Nat.le_refl _
 ·have:=of_decide_eq_true g;omega
end Go.Dav
namespace Go.Dav
open Go.Proofs
theorem wY {x:Int} (h:0<=x):aC .u64 x 32=x/4294967296:=by
 unfold aC;rw[show(2:Int) ^ (min (32:Int).toNat IntKind.u64.bits)=4294967296 from rfl,Int.fdiv_eq_ediv_of_nonneg _ (by decide)]
theorem BM {x:Int} (h:0<=x/\x<18446744073709551616):aw .and .u64 x 4294967295=x%4294967296:=by
 obtain⟨n,rfl⟩:∃n:Nat,x=(n:Int):=⟨x.toNat,by omega⟩;rw[show(4294967295:Int)=((4294967295:Nat):Int)from rfl,sq (by omega) (by omega),show(4294967295:Nat)=2 ^ 32-1 from rfl,Nat.and_two_pow_sub_one_eq_mod];omega
theorem kd {x:Int} (h:0<=x/\x<18446744073709551616):IntKind.wrap .u64 x=x:=by
 unfold IntKind.wrap;simp[IntKind.bits,IntKind.signed];omega
theorem Ew {a b A B:Int} (ha:0<=a/\a<=A) (hb:0<=b/\b<=B):0<=a*b/\a*b<=A*B:=⟨Int.mul_nonneg ha.1 hb.1,Int.mul_le_mul ha.2 hb.2 hb.1 (by omega)⟩
theorem Vu {x y:Int} (hx:0<=x/\x<=72057594037927935) (hy:0<=y/\y<=127) (w:World):Cx 393 #[.int .u64 x,.int .u64 y] w fun e w'=>e=Z (.tuple #[.int .u64 0,.int .u64 (x*y)])/\w'=w:=by
 refine amf ?_;rw[t393];refine⟨by decide,by decide,by decide,by decide,by decide,?_,rfl⟩;rw[wY hx.1,wY hy.1,BM (by omega),BM (by omega)];have e1:y/4294967296=0:=by omega
 have e2:y%4294967296=y:=by omega
 rw[e1,e2,Int.mul_zero,Int.mul_zero];have b1:=Ew (a:=x/4294967296) (b:=y) (A:=16777215) (B:=127) (by omega) hy;have b2:=Ew (a:=x%4294967296) (b:=y) (A:=4294967295) (B:=127) (by omega) hy;have b3:=Ew hx hy;rw[kd (x:=0) (by decide),kd (x:=x%4294967296*y) (by omega),wY b2.1,kd (x:=x/4294967296*y) (by omega),kd (x:=x/4294967296*y+x%4294967296*y/4294967296) (by omega),wY (by omega),BM (by omega),kd (x:=x*y) (by omega)];generalize x/4294967296*y=A at *;generalize x%4294967296*y=B at *;have c1:0<=(A+B/4294967296)/4294967296/\(A+B/4294967296)/4294967296<1000:=by omega
 have c2:0<=(A+B/4294967296)%4294967296/\(A+B/4294967296)%4294967296<4294967296:=by omega
 rw[kd (x:=0+(A+B/4294967296)/4294967296) (by omega),kd (x:=(A+B/4294967296)%4294967296+0) (by omega),wY (by omega),kd (by omega)];rw[show 0+(A+B/4294967296)/4294967296+((A+B/4294967296)%4294967296+0)/4294967296=0 by omega]
theorem RR {lo y:Int} (hy:1<=y) (w:World):Cx 394 #[.int .u64 0,.int .u64 lo,.int .u64 y] w fun e w'=>(∃q r,e=Z (.tuple #[.int .u64 q,.int .u64 r]))/\af no w w':=by
 refine amg ?_;rw[t394];refine⟨fun g=>?_,fun _=>aA.mk ?_⟩
 ·have:y=0:=by simpa using g
  omega
 ·rw[ahf];refine⟨fun g=>?_,fun _=>aA.mk ?_⟩
  ·have:=of_decide_eq_true g;omega
  ·rw[ahg];refine⟨fun _ w1 q1 q2 q3 q4=>⟨by omega,by omega,⟨_,_,rfl⟩,af.same no q1 q2 q3 q4⟩,fun g=>(by cases g)⟩
theorem aey {p q:Int} (hp:p<=72057594037927935) (hq:q<=72057594037927935) (w:World):Cx 395 #[I p,I q] w fun e w'=>(∃n:Int,e=Z (I n))/\af no w w':=by
 refine amh ?_;rw[t395];refine⟨fun g1=>⟨fun g2=>⟨_,rfl⟩|>fun h=>⟨h,af.refl _ _⟩,fun g2=>⟨fun g3=>⟨⟨_,rfl⟩,af.refl _ _⟩,fun g3=>?_⟩⟩,fun g1=>⟨⟨_,rfl⟩,af.refl _ _⟩⟩;have g1:=of_decide_eq_false g1;have g2:=of_decide_eq_false g2;rw[kd (x:=p) (by omega),kd (x:=q) (by omega)];refine⟨(Vu (x:=p) (y:=100) (by omega) (by decide) w).mono ?_⟩;rintro e w1 ⟨rfl,rfl⟩;refine⟨_,_,rfl,⟨(RR (y:=q) (by omega) w1).mono ?_⟩⟩;rintro e w2 ⟨⟨q,r,rfl⟩,hU⟩;exact⟨_,_,rfl,⟨_,rfl⟩,hU⟩
theorem afE {a b p:Int} (ha:1<=a) (hb:b<=100000) (w:World):Cx 368 #[I a,I b,I p] w fun e w'=>(∃n:Int,e=Z (I n))/\af no w w':=by
 refine alW ?_;rw[t368];refine⟨fun g1=>⟨fun g2=>⟨⟨_,rfl⟩,af.refl _ _⟩,fun g2=>⟨fun g3=>⟨⟨_,rfl⟩,af.refl _ _⟩,fun g3=>?_⟩⟩,fun g1=>⟨⟨_,rfl⟩,af.refl _ _⟩⟩;have g1:=of_decide_eq_false g1;have g2:=of_decide_eq_false g2;have g3:=of_decide_eq_false g3;rw[kd (x:=a) (by omega),kd (x:=b) (by omega),kd (x:=p) (by omega),kd (x:=b-a) (by omega)];refine⟨(Vu (x:=b-a) (y:=p) (by omega) (by omega) w).mono ?_⟩;rintro e w1 ⟨rfl,rfl⟩;refine⟨_,_,rfl,⟨(RR (y:=100) (by decide) w1).mono ?_⟩⟩;rintro e w2 ⟨⟨q,r,rfl⟩,hU⟩;exact⟨_,_,rfl,⟨_,rfl⟩,hU⟩
structure ff where
 low:Int
 high:Int
 f0:Int×Int
 f1:Int×Int
 f2:Int×Int
 f3:Int×Int
 at_:Int
def ff.cells (g:ff):List Value:=[I g.low,I g.high,I g.f0.1,I g.f0.2,I g.f1.1,I g.f1.2,I g.f2.1,I g.f2.2,I g.f3.1,I g.f3.2,I g.at_]
def pZ (f:Int×Int):Prop:=(0<=f.1/\f.1<=1099511627776)/\(0<=f.2/\f.2<=1099511627776)
theorem zA:pZ (0,0):=by unfold pZ;decide
structure ff.V (g:ff):Prop where
 lim:1<=g.low/\g.high<=100000
 f0:pZ g.f0
 f1:pZ g.f1
 f2:pZ g.f2
 f3:pZ g.f3
 at_:0<=g.at_/\g.at_<4
def lB (b:Nat):Ob Unit:=fun w F _=>∃g,Rw b 235 ff.cells w F g/\g.V
instance Frame.gvo (b:Nat):Frame (lB b) where
 ae:=fun⟨g,h,r⟩ k hG=>⟨g,(Frame.rw ..).ae h k hG,r⟩
 lt:=fun⟨_,h,_⟩=>(Frame.rw ..).lt h
theorem SO (a b:Int) (w:World):Cx 112 #[I a,I b] w fun e w'=>e=Z (.bool (decide (1<=a/\b<=100000/\a<=b)))/\w'=w:=by
 refine aiu ?_;rw[t112];refine⟨fun g1=>⟨fun g2=>⟨?_,rfl⟩,fun g2=>⟨?_,rfl⟩⟩,fun g1=>⟨?_,rfl⟩⟩
 ·have g1:=of_decide_eq_true g1;have g2:=of_decide_eq_true g2;congr 2;exact decide_eq_decide.2 (by omega)
 ·have g2:=of_decide_eq_false g2;congr 2;exact(decide_eq_false (by omega)).symm
 ·have g1:=of_decide_eq_false g1;congr 2;exact(decide_eq_false (by omega)).symm
theorem aa9 {a b:Int} (h:1<=a/\b<=100000/\a<=b) (w:World):Cx 58 #[I a,I b] w fun e w'=>∃k F,e=Z (.tuple #[pt k,I 0])/\lB k w' F ()/\af no w w'/\∀i,F i->w.heap.size<=i:=by
 refine u58 ?_;rw[t58];refine⟨(SO a b w).mono ?_⟩;rintro e w1 ⟨rfl,rfl⟩;refine⟨_,rfl,fun g=>?_,fun _=>⟨fun w2 hN=>⟨_,fun i=>i=w1.heap.size,rfl,⟨⟨a,b,(0,0),(0,0),(0,0),(0,0),0⟩,Rw.new hN rfl,⟨⟨h.1,h.2.1⟩,zA,zA,zA,zA,⟨Int.le_refl _,(show(0:Int)<4 by decide)⟩⟩⟩,hN.ae no,fun i hi=>by omega⟩⟩⟩;rw[decide_eq_true h]at g;cases g
section
variable {b:Nat} {w:World} {F:Fp}
theorem abh (h:lB b w F ()) (lo hi:Int):Cx 266 #[pt b,I lo,I hi] w fun e w'=>e=Z (I (if 1<=lo/\hi<=100000/\lo<=hi then 0 else 2))/\aa (lB b) w w' F ():=by
 refine akK ?_;rw[t266];refine⟨fun g=>(by cases g),fun _=>⟨(SO lo hi w).mono ?_⟩⟩;rintro e w1 ⟨rfl,rfl⟩;obtain⟨g,hR,hV⟩:=id h;refine⟨_,rfl,fun g1=>?_,fun g1=>⟨_,rfl,hR.ai.wr (k:=0) (by simp[ff.cells]) fun w2 hW=>⟨_,rfl,hW.aF.wr (k:=1) (by simp[ff.cells,aI]) fun w3 hW3=>?_⟩⟩⟩
 ·have g1:¬(1<=lo/\hi<=100000/\lo<=hi):=fun hh=>by rw[decide_eq_true hh]at g1;cases g1
  rw[if_neg g1];exact⟨rfl,aa.same h⟩
 ·have g1:1<=lo/\hi<=100000/\lo<=hi:=by simpa using g1
  rw[if_pos g1];obtain⟨F',h1,h2⟩:=hR.dZ (w':=w3) (s':={g with low:=lo,high:=hi}) (hW.U.and hW3.U) (by simpa [ff.cells,aI]using hW3.aF);exact⟨rfl,F',⟨_,h1,⟨⟨g1.1,g1.2.1⟩,hV.f0,hV.f1,hV.f2,hV.f3,hV.at_⟩⟩,h2⟩
theorem aa8 {g:ff} (hR:Rw b 235 ff.cells w F g):Cx 367 #[pt b] w fun e w'=>e=Z (.tuple #[I g.low,I g.high])/\af no w w':=by
 refine alV ?_;rw[t367];refine⟨fun g=>(by cases g),fun _ w1 q1 q2 q3 q4=>?_⟩;have hU:=af.same no q1 q2 q3 q4;have hB:=hR.ai.ae hU id;exact⟨_,rfl,_,hB.cell rfl,_,rfl,_,hB.cell rfl,rfl,hU⟩
theorem aaS {g:ff} {i:Nat} (hi:i<4):∃q:Int×Int,pZ q/\List.take 2 (List.drop (i*2) [Value.int .i64 g.f0.1,I g.f0.2,I g.f1.1,I g.f1.2,I g.f2.1,I g.f2.2,I g.f3.1,I g.f3.2])=[I q.1,I q.2]∨¬g.V:=by
 by_cases hV:g.V
 ·match i,hi with
  | 0,_=>exact⟨g.f0,.inl ⟨hV.f0,rfl⟩⟩
  | 1,_=>exact⟨g.f1,.inl ⟨hV.f1,rfl⟩⟩
  | 2,_=>exact⟨g.f2,.inl ⟨hV.f2,rfl⟩⟩
  | 3,_=>exact⟨g.f3,.inl ⟨hV.f3,rfl⟩⟩
 ·exact⟨(0,0),.inr hV⟩
theorem aE.av {T:TypeId} {c:List Value} {k j:Nat} {v:Value} (h:aE w b c T) (hv:c[k+j]?=some v):w.cell? (((⟨b,0,none⟩:Addr).add k).add j)=some v:=by
 rw[Addr.add_add];exact h.cell hv
theorem aaQ {g:ff} (hR:Rw b 235 ff.cells w F g) (hV:g.V):Cx 369 #[pt b] w fun e w'=>(∃n:Int,e=Z (I n))/\af no w w':=by
 refine alX ?_;rw[t369];refine⟨fun g=>(by cases g),fun _=>⟨fun w1 hN=>?_⟩⟩;have hB:=hN.keep hR.ai;have hN':aE w1 w.heap.size [I 0,I 0] _:=hN.aF;refine⟨_,rfl,_,hB.av rfl,_,hB.av rfl,_,hB.av rfl,_,hB.av rfl,_,hB.av rfl,_,hB.av rfl,_,hB.av rfl,_,hB.av rfl,?_⟩
 refine⟨bA bf (M:=qO) (σ:=Nat) (fun i=>Dj ⟨w.heap.size,0,none⟩ g.f0.1 g.f0.2 g.f1.1 g.f1.2 g.f2.1 g.f2.2 g.f3.1 g.f3.2 (i:Int))
  (fun i w'=>i<=4/\af no w w'/\∃x y:Int,aE w' w.heap.size [I x,I y] 232/\(0<=x/\x<=i*1099511627776)/\(0<=y/\y<=i*1099511627776)) (fun i _=>4-i) 0 ⟨rfl,rfl,rfl,trivial⟩ ⟨by omega,hN.ae no,0,0,hN',by omega,by omega⟩ ?_⟩
 rintro i w2 ⟨hi,hU,x,y,hB2,hx,hy⟩;rw[ag7];refine⟨fun g1=>?_,fun g1=>aA.mk ?_⟩
 ·have g1:=of_decide_eq_true g1;obtain⟨q,⟨hq,hs⟩|hn⟩:=aaS (g:=g) (i:=i) (by omega)
  ·refine⟨⟨by omega,by omega⟩,q.1,q.2,by rw[Int.toNat_natCast];exact hs,⟨fun w3 hN3=>hN3.aF.gF (by simp) fun w4 hW4=>?_⟩⟩;have hlt:=hB2.lt;have hB4:=hW4.keep (hN3.keep hB2) (by omega);refine⟨_,hB4.cell rfl,_,hW4.aF.cell rfl,hB4.wr (k:=0) (by simp) fun w5 hW5=>⟨_,hW5.aF.cell rfl,_,(hW5.keep hW4.aF (by omega)).cell rfl,hW5.aF.wr (k:=1) (by simp[aI]) fun w6 hW6=>?_⟩⟩;have hsz:=hU.size;have hU4:af no w w4:=(hU.and (hN3.ae no)).trans hW4.U (fun j hj e=>absurd hj (by omega));have hU6:af no w w6:=hU4.trans (hW5.U.and hW6.U) (fun j hj e=>absurd hj (by omega));obtain⟨hq1,hq2⟩:=hq;have e1:IntKind.wrap .i64 (x+q.1)=x+q.1:=aD (by omega);have e2:IntKind.wrap .i64 (y+q.2)=y+q.2:=aD (by omega);rw[e1]at hW5 hW6;rw[e2]at hW6;refine⟨i+1,⟨rfl,rfl,by rw[aD (by omega)];rfl,trivial⟩,⟨by omega,hU6,x+q.1,y+q.2,hW6.aF,by omega,by omega⟩,by omega⟩
  ·exact absurd hV hn
 ·rw[ag6];refine⟨_,hB2.cell rfl,_,hB2.cell rfl,⟨(aey (by omega) (by omega) w2).mono ?_⟩⟩;rintro e w3 ⟨⟨n,rfl⟩,hU3⟩;exact⟨_,rfl,⟨_,rfl⟩,hU.and hU3⟩
theorem aaV {g:ff} (hR:Rw b 235 ff.cells w F g) (hV:g.V):Cx 311 #[pt b] w fun e w'=>(∃n:Int,e=Z (I n))/\af no w w':=by
 refine alb ?_;rw[t311];refine⟨(aa8 hR).mono ?_⟩;rintro e w1 ⟨rfl,hU⟩;have hR1:=(Frame.rw ..).ae hR hU (fun _ _ h=>h);refine⟨_,_,rfl,⟨(aaQ hR1 hV).mono ?_⟩⟩;rintro e w2 ⟨⟨n,rfl⟩,hU2⟩;refine⟨_,rfl,⟨(afE hV.lim.1 hV.lim.2 w2).mono ?_⟩⟩;rintro e w3 ⟨⟨n,rfl⟩,hU3⟩;exact⟨_,rfl,⟨_,rfl⟩,(hU.and hU2).and hU3⟩
def qa (g:ff) (i:Nat) (q:Int×Int):ff:=match i with
 | 0=>{g with f0:=q,at_:=1}
 | 1=>{g with f1:=q,at_:=2}
 | 2=>{g with f2:=q,at_:=3}
 | _=>{g with f3:=q,at_:=0}
theorem zB (g:ff) (i:Nat) (q:Int×Int):0<=(qa g i q).at_/\(qa g i q).at_<4:=by
 unfold qa;split<;>(simp only;decide)
theorem aaU (h:lB b w F ()) (x y:Int):Cx 228 #[pt b,I x,I y] w fun e w'=>(∃n m:Int,e=Z (.tuple #[I n,I m]))/\aa (lB b) w w' F ():=by
 refine aj8 ?_;rw[t228];refine⟨fun g=>(by cases g),fun _=>⟨fun g1=>⟨fun g2=>⟨fun g3=>⟨⟨_,_,rfl⟩,aa.same h⟩,fun g3 w1 q1 q2 q3 q4=>?_⟩,fun g2=>⟨⟨_,_,rfl⟩,aa.same h⟩⟩,fun g1=>⟨⟨_,_,rfl⟩,aa.same h⟩⟩⟩;have g1:=of_decide_eq_false g1;have g2:=of_decide_eq_false g2;have g3:=of_decide_eq_false g3;have hU:=af.same no q1 q2 q3 q4;obtain⟨g,hR,hV⟩:=id h;have hB:=hR.ai.ae hU id;obtain⟨i,hi,ei⟩:∃i:Nat,i<4/\g.at_=(i:Int):=⟨g.at_.toNat,by have:=hV.at_;omega,by have:=hV.at_;omega⟩;refine⟨_,rfl,_,hB.cell rfl,_,rfl,hV.at_,?_⟩;rw[ei,Int.toNat_natCast,Addr.add_add];refine hB.wr (k:=2+i*2) (by simp[ff.cells];omega) fun w2 hW=>?_
 have hc:aI g.cells (2+i*2) [I x,I y]=({qa g i (x,y)with at_:=g.at_}:ff).cells:=by
  match i,hi with
  | 0,_|1,_|2,_|3,_=>rfl
 rw[hc]at hW;refine⟨_,rfl,_,hW.aF.cell rfl,by decide,_,rfl,hW.aF.wr (k:=10) (by simp[ff.cells]) fun w3 hW3=>?_⟩
 have hc3:aI ({qa g i (x,y)with at_:=g.at_}:ff).cells 10 [I (Int.tmod (IntKind.wrap .i64 (g.at_+1)) 4)]=(qa g i (x,y)).cells:=by
  rw[ei]
  match i,hi with
  | 0,_|1,_|2,_|3,_=>rfl
 rw[hc3]at hW3;have hT:=hR.dZ (w':=w3) (s':=qa g i (x,y)) ((hU.mono (fun _ _ h=>h.elim)).and (hW.U.and hW3.U)) hW3.aF
 have hV':(qa g i (x,y)).V:=by
  have hq:pZ (x,y):=⟨⟨by simp only;omega,by simp only;omega⟩,by simp only;omega,by simp only;omega⟩
  match i,hi with
  | 0,_=>exact⟨hV.lim,hq,hV.f1,hV.f2,hV.f3,zB g _ (x,y)⟩
  | 1,_=>exact⟨hV.lim,hV.f0,hq,hV.f2,hV.f3,zB g _ (x,y)⟩
  | 2,_=>exact⟨hV.lim,hV.f0,hV.f1,hq,hV.f3,zB g _ (x,y)⟩
  | 3,_=>exact⟨hV.lim,hV.f0,hV.f1,hV.f2,hq,zB g _ (x,y)⟩
 obtain⟨F',h1,h2,h3⟩:=hT;refine⟨(aaV h1 hV').mono ?_⟩;rintro e w4 ⟨⟨n,rfl⟩,hU4⟩;refine⟨_,rfl,⟨_,_,rfl⟩,F',⟨_,(Frame.rw ..).ae h1 hU4 (fun _ _ h=>h),hV'⟩,h2.trans hU4 (fun _ _ h=>h.elim),h3⟩
end
end Go.Dav
namespace Go.Dav
open Go.Proofs
def mX:List (List Int):=[[0,0,100],[2,10,60],[10,50,25],[50,400,5]]
def Bp:List Value:=mX.flatMap (fun l=>l.map (Value.int .i64))
theorem TC (w:World):Cx 218 #[] w fun e w'=>(∃p,e=Z (.slice (some p) 4 4)/\Cells w' (some p) Bp)/\af no w w':=by
 refine ajY ?_;rw[t218];refine⟨fun w1 hN=>⟨⟨_,rfl,?_⟩,hN.ae no⟩⟩;have hB:aE w1 w.heap.size Bp _:=hN.aF;intro j v hv;exact⟨_,rfl,hB.cell hv⟩
theorem Gm {w:World} {p:Addr} (h:Cells w (some p) Bp) {i:Nat} (hi:i<4) {j:Nat} (hj:j<3):w.cell? ((p.add (i*3)).add j)=some (I ((mX[i]'hi).getD j 0)):=by
 rw[Addr.add_add]
 obtain⟨a,ha,hc⟩:=h (i*3+j) (I ((mX[i]'hi).getD j 0)) (by
  match i,hi,j,hj with
  | 0,_,0,_|0,_,1,_|0,_,2,_|1,_,0,_|1,_,1,_|1,_,2,_|2,_,0,_|2,_,1,_|2,_,2,_|3,_,0,_|3,_,1,_|3,_,2,_=>rfl)
 cases ha;exact hc
def q9 (rest limit:Int):Nat->Int
 | 0=>0
 | i+1=>if(mX.getD (i+1) []).getD 0 0<=limit/\(mX.getD (i+1) []).getD 1 0<=rest then((i+1:Nat):Int)else q9 rest limit i
theorem ZA (rest limit:Int):q9 rest limit 3=ra rest limit:=by
 unfold ra;simp[q9,mX]
theorem ab0 {w:World} {p:Addr} (h:Cells w (some p) Bp) (rest limit:Int):Cx 217 #[.slice (some p) 4 4,I rest,I limit] w fun e w'=>e=Z (I (ra rest limit))/\w'=w:=by
 refine ajX ?_;rw[t217];refine⟨bA bf (M:=uP) (σ:=Nat) (fun i=>C1 (some p) 4 4 rest limit (i:Int)) (fun i w'=>i<=3/\q9 rest limit i=ra rest limit/\w'=w) (fun i _=>i) 3 ⟨rfl,rfl,rfl,rfl,trivial⟩ ⟨by omega,ZA rest limit,rfl⟩ ?_⟩;rintro i w1 ⟨hi,he,rfl⟩;rw[agG];refine⟨fun g=>?_,fun g=>?_⟩
 ·have g:=of_decide_eq_true g;obtain⟨k,rfl⟩:∃k,i=k+1:=⟨i-1,by omega⟩;have hk:k+1<4:=by omega
  have hr:(0:Int)<=((k+1:Nat):Int)/\((k+1:Nat):Int)<((4:Nat):Int):=⟨by omega,by omega⟩;have hget:mX.getD (k+1) []=mX[k+1]'hk:=by rw[List.getD_eq_getElem?_getD,List.getElem?_eq_getElem (show k+1<mX.length from hk)];rfl
  have step:∀(hh:¬((mX[k+1]'hk).getD 0 0<=limit/\(mX[k+1]'hk).getD 1 0<=rest)),q9 rest limit k=ra rest limit:=fun hh=>by
   rw[<-he,q9,hget,if_neg hh]
  refine⟨hr,p,rfl,_,Gm h hk (j:=0) (by omega),fun g1=>⟨hr,p,rfl,_,Gm h hk (j:=1) (by omega),fun g2=>?_,fun g2=>?_⟩,fun g1=>?_⟩
  ·have g1:=of_decide_eq_true g1;have g2:=of_decide_eq_true g2;rw[<-he,q9,hget,if_pos ⟨g1,g2⟩];exact⟨rfl,rfl⟩
  ·have g2:=of_decide_eq_false g2;exact⟨k,⟨rfl,rfl,rfl,by rw[aD (by omega),show((k+1:Nat):Int)-1=(k:Int) by omega];rfl,trivial⟩,⟨by omega,step (fun hh=>g2 hh.2),rfl⟩,by omega⟩
  ·have g1:=of_decide_eq_false g1;exact⟨k,⟨rfl,rfl,rfl,by rw[aD (by omega),show((k+1:Nat):Int)-1=(k:Int) by omega];rfl,trivial⟩,⟨by omega,step (fun hh=>g1 hh.1),rfl⟩,by omega⟩
 ·have g:=of_decide_eq_false g;have:i=0:=by omega
  subst this;rw[<-he];exact⟨rfl,rfl⟩
theorem afx (x y:Int) (w:World):(Builtin.min_ #[2,2] 2 #[I x,I y]).run Tryz.prog w=.ok (I (if y<x then y else x)) w:=by
 simp[Builtin.min_,Builtin.min2]
theorem ab8 {now due:Int} (h:now<=1152921504606846976) (hd:due<=1152921504606846976) (kn:Bool) (w:World):Cx 215 #[I now,I due,.bool kn] w fun e w'=>e=Z (I (EP now due kn))/\w'=w:=by
 refine ajV ?_;rw[t215];unfold EP;refine⟨fun g=>?_,fun g=>⟨fun g1=>⟨fun g2=>?_,fun g2=>?_⟩,fun g1=>?_⟩⟩
 ·have g:kn=false:=by simpa using g
  subst g;exact⟨rfl,rfl⟩
 ·have g:kn=true:=by simpa using g
  have g2:=of_decide_eq_true g2;subst g;rw[if_pos rfl,if_pos (.inr g2)];exact⟨rfl,rfl⟩
 ·have g:kn=true:=by simpa using g
  have g1:=of_decide_eq_false g1;have g2:=of_decide_eq_false g2;subst g;refine⟨_,w,afx _ _ _,?_,rfl⟩;rw[aD (by omega),if_pos rfl,if_neg (show ¬(now<0∨due<=now) by omega)];congr 2;split<;>omega
 ·have g:kn=true:=by simpa using g
  have g1:=of_decide_eq_true g1;subst g;rw[if_pos rfl,if_pos (.inl g1)];exact⟨rfl,rfl⟩
end Go.Dav
namespace Go.Dav
open Go.Proofs
def mO (r:aG):List Value:=[I r.dB,I r.ag,.bool r.back]
abbrev kh (b:Nat):Ob aG:=Rw b 385 mO
theorem af2 (n:Int) (w:World) (hn:1<=n/\n<=64):Cx 262 #[I n] w fun e w'=>e=Z (.tuple #[pt w.heap.size,I 0])/\cH w w' (.cells (List.toArray [I n,I 0,.bool false]) 385 (0,0)):=by
 refine akG ?_;rw[t262];refine⟨fun _=>⟨fun g=>?_,fun _=>⟨fun w1 hN=>⟨rfl,hN⟩⟩⟩,fun g=>?_⟩
 ·have:=of_decide_eq_true g;omega
 ·have:=of_decide_eq_true g;omega
section
variable {b:Nat} {w:World} {F:Fp} {r:aG}
theorem vl (h:kh b w F r) (hd:0<=r.ag/\r.ag<=64):Cx 295 #[pt b] w fun e w'=>e=Z (.tuple #[I r.now.1,.bool r.now.2.1,.bool r.now.2.2])/\af no w w':=by
 refine akV ?_;rw[t295];refine⟨fun g=>(by cases g),fun _ w1 q1 q2 q3 q4=>?_⟩;have hU:=af.same no q1 q2 q3 q4;have hB:=h.ai.ae hU id;have hw:IntKind.wrap .i64 (r.ag-1)=r.ag-1:=aD (by omega);refine⟨_,rfl,_,hB.cell rfl,fun g1=>⟨_,rfl,_,hB.cell rfl,fun g2=>⟨_,rfl,_,hB.cell rfl,fun g3=>?_,fun g3=>?_⟩,fun g2=>?_⟩,fun g1=>⟨_,rfl,_,hB.cell rfl,fun g2=>?_,fun g2=>?_⟩⟩
 ·simp[g1]at g3
 ·refine⟨_,rfl,_,hB.cell rfl,fun g4=>⟨_,rfl,_,hB.cell rfl,?_,hU⟩,fun g4=>?_⟩
  ·rw[hw];have:r.ag≠0:=by simpa using g2
   unfold aG.now;simp[g1,this]
  ·rw[g1]at g4;cases g4
 ·intro w2 k1 k2 k3 k4;have hU2:=af.same no k1 k2 k3 k4;have hB2:=hB.ae hU2 id;refine⟨_,rfl,_,hB2.cell rfl,?_,hU.and hU2⟩;have:r.ag=0:=by simpa using g2
  unfold aG.now;simp[g1,this]
 ·refine⟨_,rfl,_,hB.cell rfl,_,rfl,_,hB.cell rfl,fun g3=>?_,fun g3=>?_⟩
  ·intro w2 k1 k2 k3 k4;have hU2:=af.same no k1 k2 k3 k4;have hB2:=hB.ae hU2 id;refine⟨_,rfl,_,hB2.cell rfl,?_,hU.and hU2⟩;have:r.ag=r.dB:=by simpa using g3
   unfold aG.now;simp[g1,this]
  ·have hne:¬r.ag=r.dB:=by simpa using g3
   refine⟨_,rfl,_,hB.cell rfl,fun g4=>?_,fun g4=>⟨_,rfl,_,hB.cell rfl,?_,hU⟩⟩
   ·rw[g1]at g4;cases g4
   ·unfold aG.now;simp[g1,hne]
 ·rw[g1]at g2;cases g2
def pX (r:aG):aG:={r with ag:=if r.back then r.ag-1 else r.ag+1}
theorem afF (h:kh b w F r) (hd:0<=r.ag/\r.ag<=64):Cx 301 #[pt b] w fun e w'=>e=Z (I (if r.over then 6 else 0))/\aa (kh b) w w' F (if r.over then r else pX r):=by
 refine ak1 ?_;rw[t301];refine⟨(vl h hd).mono ?_⟩;rintro e w1 ⟨rfl,hU⟩;have hB:=h.ai.ae hU id;have h1:=(Frame.rw ..).ae h hU (fun _ _ h=>h);refine⟨_,_,_,rfl,fun g=>(by cases g),fun _=>⟨fun g=>?_,fun g=>?_⟩⟩
 ·have g:r.over=true:=g;rw[g];exact⟨rfl,aa.quiet h hU⟩
 ·have g:r.over=false:=g
  have hnow:r.now.2.1=r.back:=by
   unfold aG.over aG.now at g;unfold aG.now;split
   ·rfl
   ·split<;>simp_all
  rw[g,hnow];refine⟨fun gb=>⟨_,rfl,_,hB.cell rfl,_,rfl,hB.wr (by simp[mO]) fun w2 hW=>⟨rfl,?_⟩⟩,fun gb=>⟨_,rfl,_,hB.cell rfl,_,rfl,hB.wr (by simp[mO]) fun w2 hW=>⟨rfl,?_⟩⟩⟩
  ·have e:aI (mO r) 1 [Value.int .i64 (IntKind.wrap .i64 (r.ag-1))]=mO (pX r):=by
    rw[aD (by omega)];simp[mO,aI,pX,gb]
   rw[e]at hW;exact h.dZ ((hU.nn).and hW.U) hW.aF
  ·have e:aI (mO r) 1 [Value.int .i64 (IntKind.wrap .i64 (r.ag+1))]=mO (pX r):=by
    rw[aD (by omega)];simp[mO,aI,pX,gb]
   rw[e]at hW;exact h.dZ ((hU.nn).and hW.U) hW.aF
theorem afK (h:kh b w F r) (hd:0<=r.ag/\r.ag<=64) (ho:r.over=false) (hb:r.back=false):Cx 296 #[pt b] w fun e w'=>e=Z (I 0)/\aa (kh b) w w' F {r with back:=true}:=by
 refine akW ?_;rw[t296];refine⟨(vl h hd).mono ?_⟩;rintro e w1 ⟨rfl,hU⟩;have hB:=h.ai.ae hU id
 have hnow:r.now.2.1=false:=by
  unfold aG.now;split
  ·exact hb
  ·rw[hb];rfl
 refine⟨_,_,_,rfl,fun g=>(by cases g),fun _=>⟨fun g=>⟨fun g=>?_,fun g=>⟨_,rfl,hB.wr (by simp[mO]) fun w2 hW=>⟨rfl,?_⟩⟩⟩,fun g=>?_⟩⟩
 ·have:r.over=true:=g;rw[ho]at this;cases this
 ·exact h.dZ ((hU.nn).and hW.U) hW.aF
 ·rw[hnow]at g;cases g
theorem agk (h:kh b w F r) (hd:0<=r.ag/\r.ag<=64) (ho:r.over=true):Cx 302 #[pt b] w fun e w'=>e=Z (I r.eM)/\af no w w':=by
 refine ak2 ?_;rw[t302];refine⟨(vl h hd).mono ?_⟩;rintro e w1 ⟨rfl,hU⟩
 have hnow:r.now.2.1=r.back:=by
  unfold aG.over aG.now at ho;unfold aG.now;split
  ·rfl
  ·rename_i hh;rw[if_neg hh]at ho;split at ho<;>cases ho
 refine⟨_,_,_,rfl,fun g=>(by cases g),fun _=>⟨fun g=>?_,fun g=>⟨fun g=>?_,fun g=>?_⟩⟩⟩
 ·have:r.now.2.2=true:=ho;rw[this]at g;cases g
 ·rw[hnow]at g;unfold aG.eM;rw[if_pos g];exact⟨rfl,hU⟩
 ·rw[hnow]at g;unfold aG.eM;rw[if_neg (by simp[g])];exact⟨rfl,hU⟩
end
theorem wC:mf Tryz.prog 134 3 4 (.bool false):=⟨by kernel_rfl,by kernel_rfl,by kernel_rfl,by kernel_rfl⟩
theorem afv {P:Program} {t k e:TypeId} {z:Value} (hT:mf P t k e z) (n:Int) (w:World):(Instr.lookup t (.map none) (I n) false).run P w=.ok z w:=by
 have hk:MapKept.IsKey (.int .i64) (I n):=rfl;have hz:(zeroValue e).run P w=.ok z w:=by rw[rM hT.ok,hT.zero]
 have k2:Instr.findNow (.int .i64) (I n) [] 0=some none:=rfl;simp[Instr.lookup,dF hT.under,MapKept.run_checkKey hT.key hk,MapKept.run_findKey hT.key k2,hz,Result.andThen]
abbrev kj:=Nat×Nat×aG
def mN (x:kj):List Value:=[pt x.2.1,.bool x.2.2.up,I x.2.2.ab,I x.2.2.ah,.bool x.2.2.told]
abbrev vc (b b2:Nat):Ob (kj×aG):=au (Rw b 284 mN) (kh b2)
def r8:Ob (Option kj):=fun w F x=>match x with
 | none=>∀i,¬F i
 | some q=>vc q.1 q.2.1 w F (q,q.2.2)
instance Frame.am9:Frame r8 where
 ae:=by
  rintro w w' F G (_|q) h k hG
  ·exact h
  ·exact(Frame.star (A:=Rw q.1 284 mN) (B:=kh q.2.1)).ae h k hG
 lt:=by
  rintro w F (_|q) h
  ·exact fun i hi=>absurd hi (h i)
  ·exact(Frame.star (A:=Rw q.1 284 mN) (B:=kh q.2.1)).lt h
abbrev r7:=Nat×((Int->Option Bool)×Nat)
def r6:Ob (Option r7):=fun w F x=>match x with
 | none=>∀i,¬F i
 | some q=>aS q.1 Value.bool w F q.2
instance Frame.am8:Frame r6 where
 ae:=by
  rintro w w' F G (_|q) h k hG
  ·exact h
  ·exact(Frame.map q.1 Value.bool).ae h k hG
 lt:=by
  rintro w F (_|q) h
  ·exact fun i hi=>absurd hi (h i)
  ·exact(Frame.map q.1 Value.bool).lt h
def oJ (p:Option Addr×Option Nat):List Value:=[.pointer p.1,.map p.2]
abbrev eb (b:Nat):Ob (((Option Addr×Option Nat)×Option kj)×Option r7):=au (au (Rw b 136 oJ) r8) r6
def gn (q:Option kj) (m:Option r7):Option Addr×Option Nat:=(q.map fun q=>⟨q.1,0,none⟩,m.map (·.1))
def pL (r:aG):Prop:=0<=r.ag/\r.ag<=r.dB/\r.dB<=64
theorem pL.ag {r:aG} (h:pL r):0<=r.ag/\r.ag<=64:=⟨h.1,Int.le_trans h.2.1 h.2.2⟩
structure mZ (q:Option kj) (m:Option r7) (d:aZ):Prop where
 r:q.map (·.2.2)=d.1
 p:∀k,d.2 k=((m.bind fun m=>m.2.1 k).getD false)
 v:∀r,d.1=some r->pL r
def b7 (b:Nat):Ob aZ:=fun w F d=>∃q m,eb b w F ((gn q m,q),m)/\mZ q m d
instance Frame.CM (b:Nat):Frame (b7 b) where
 ae:=fun⟨q,m,h,k⟩ hU hG=>⟨q,m,Frame.star.ae h hU hG,k⟩
 lt:=fun⟨_,_,h,_⟩=>Frame.star.lt h
section
variable {b:Nat} {w w':World} {F:Fp} {d:aZ} {q:Option kj} {m:Option r7}
theorem eb.ai {p:Option Addr×Option Nat} (h:eb b w F ((p,q),m)):aE w b (oJ p) 136:=by
 obtain⟨F1,h1,_⟩:=h.left;obtain⟨F2,h2,_⟩:=h1.left;exact h2.ai
theorem aa.dk {q':Option kj} {m':Option r7} {d':aZ} (h:aa (eb b) w w' F ((gn q' m',q'),m')) (k:mZ q' m' d'):aa (b7 b) w w' F d':=by
 obtain⟨F',h1,h2⟩:=h;exact⟨F',⟨q',m',h1,k⟩,h2⟩
theorem eb.bJ {q0:kj} (h:eb b w F ((gn (some q0) m,some q0),m)):aE w q0.1 (mN q0) 284/\aE w q0.2.1 (mO q0.2.2) 385:=by
 obtain⟨F1,h1,_⟩:=h.left;obtain⟨F2,h2,_⟩:=h1.right;have h2:vc q0.1 q0.2.1 w F2 (q0,q0.2.2):=h2;obtain⟨F3,h3,_⟩:=h2.left;obtain⟨F4,h4,_⟩:=h2.right;exact⟨h3.ai,h4.ai⟩
theorem eb.run {q0:kj} (h:eb b w F ((gn (some q0) m,some q0),m)):∃F1,kh q0.2.1 w F1 q0.2.2/\∀w' (r':aG),r'.up=q0.2.2.up->r'.ab=q0.2.2.ab->r'.ah=q0.2.2.ah->r'.told=q0.2.2.told->aa (kh q0.2.1) w w' F1 r'->
  aa (eb b) w w' F ((gn (some (q0.1,q0.2.1,r')) m,some (q0.1,q0.2.1,r')),m):=by
 obtain⟨F1,h1,k1⟩:=h.left;obtain⟨F2,h2,k2⟩:=h1.right;have h2:vc q0.1 q0.2.1 w F2 (q0,q0.2.2):=h2;obtain⟨F4,h4,k4⟩:=h2.right;refine⟨F4,h4,fun w' r' e1 e2 e3 e4 hT=>?_⟩
 have hT2:aa r8 w w' F2 (some (q0.1,q0.2.1,r')):=by
  obtain⟨F',t1,t2⟩:=k4 _ _ hT;refine⟨F',?_,t2⟩;obtain⟨A1,A2,a1,a2,a3,a4⟩:=t1;refine⟨A1,A2,?_,a2,a3,a4⟩;obtain⟨x1,x2⟩:=a1;refine⟨x1,?_⟩;have e:mN (q0.1,q0.2.1,r')=mN q0:=by simp only[mN,e1,e2,e3,e4]
  show aE w' q0.1 (mN (q0.1,q0.2.1,r')) _;rw[e];exact x2
 exact k1 _ _ (k2 _ _ hT2)
theorem eb.Bh {q0:kj} (h:eb b w F ((gn (some q0) m,some q0),m)) (t:Bool) {K:World->Prop} (hK:∀w',aa (eb b) w w' F ((gn (some (q0.1,q0.2.1,{q0.2.2 with told:=t})) m,some (q0.1,q0.2.1,{q0.2.2 with told:=t})),m)->K w') :
  Wr w ((⟨q0.1,0,none⟩:Addr).add 4) [.bool t] K:=by
 obtain⟨F1,h1,k1⟩:=h.left;obtain⟨F2,h2,k2⟩:=h1.right;have h2:vc q0.1 q0.2.1 w F2 (q0,q0.2.2):=h2;obtain⟨F3,h3,k3⟩:=h2.left;refine h3.ai.wr (by simp[mN]) fun w' hW=>hK w' ?_;have hT:aa (Rw q0.1 284 mN) w w' F3 (q0.1,q0.2.1,{q0.2.2 with told:=t}):=h3.dZ hW.U hW.aF
 have hT2:aa r8 w w' F2 (some (q0.1,q0.2.1,{q0.2.2 with told:=t})):=by
  obtain⟨F',t1,t2⟩:=k3 _ _ hT;exact⟨F',t1,t2⟩
 exact k1 _ _ (k2 _ _ hT2)
theorem mZ.set {q0:kj} {r':aG} (k:mZ (some q0) m d) (hv:pL r'):mZ (some (q0.1,q0.2.1,r')) m (some r',d.2):=⟨rfl,k.p,fun r hr=>(by cases hr;exact hv)⟩
theorem mZ.some_ {q0:kj} (k:mZ (some q0) m d):d.1=some q0.2.2:=k.r.symm
theorem mZ.none_ (k:mZ none m d):d.1=none:=k.r.symm
theorem rn (h:b7 b w F d):Cx 99 #[pt b] w fun e w'=>e=Z (.bool (dj d))/\w'=w:=by
 obtain⟨q,m,h,k⟩:=h;refine u99 ?_;rw[t99];refine⟨fun _=>⟨_,rfl,_,h.ai.cell rfl,?_,rfl⟩,fun g=>(by cases g)⟩;unfold dj;rw[<-k.r];cases q<;>rfl
theorem abW (h:b7 b w F d):Cx 100 #[pt b] w fun e w'=>e=Z (.bool (iL d))/\w'=w:=by
 refine aik ?_;rw[t100];refine⟨(rn h).mono ?_⟩;rintro e w' ⟨rfl,rfl⟩;obtain⟨q,m,h,k⟩:=h;unfold iL dj
 cases q with
 | none=>rw[k.none_];exact⟨_,rfl,fun g=>(by cases g),fun _=>⟨rfl,rfl⟩⟩
 | some q0=>rw[k.some_];exact⟨_,rfl,fun _=>⟨_,rfl,_,h.ai.cell rfl,_,rfl,_,h.bJ.1.cell rfl,rfl,rfl⟩,fun g=>(by cases g)⟩
theorem abM (h:b7 b w F d):Cx 101 #[pt b] w fun e w'=>e=Z (I (oI d))/\w'=w:=by
 refine ail ?_;rw[t101];refine⟨(rn h).mono ?_⟩;rintro e w' ⟨rfl,rfl⟩;obtain⟨q,m,h,k⟩:=h;unfold oI dj
 cases q with
 | none=>rw[k.none_];exact⟨_,rfl,fun _=>⟨rfl,rfl⟩,fun g=>(by cases g)⟩
 | some q0=>rw[k.some_];exact⟨_,rfl,fun g=>(by cases g),fun _=>⟨_,rfl,_,h.ai.cell rfl,_,rfl,_,h.bJ.1.cell rfl,rfl,rfl⟩⟩
theorem abL (h:b7 b w F d):Cx 102 #[pt b] w fun e w'=>e=Z (I (mu d))/\w'=w:=by
 refine aim ?_;rw[t102];refine⟨(rn h).mono ?_⟩;rintro e w' ⟨rfl,rfl⟩;obtain⟨q,m,h,k⟩:=h;unfold mu dj
 cases q with
 | none=>rw[k.none_];exact⟨_,rfl,fun _=>⟨rfl,rfl⟩,fun g=>(by cases g)⟩
 | some q0=>rw[k.some_];exact⟨_,rfl,fun g=>(by cases g),fun _=>⟨_,rfl,_,h.ai.cell rfl,_,rfl,_,h.bJ.1.cell rfl,rfl,rfl⟩⟩
theorem DY (h:b7 b w F d):Cx 211 #[pt b] w fun e w'=>e=Z (.bool (jR d))/\af no w w':=by
 refine ajR ?_;rw[t211];refine⟨(rn h).mono ?_⟩;rintro e w' ⟨rfl,rfl⟩;obtain⟨q,m,h,k⟩:=h;unfold jR dj
 cases q with
 | none=>rw[k.none_];exact⟨_,rfl,fun _=>⟨rfl,af.refl _ _⟩,fun g=>(by cases g)⟩
 | some q0=>
  obtain⟨F1,h1,_⟩:=h.run;have hv:=(k.v _ k.some_).ag;rw[k.some_];refine⟨_,rfl,fun g=>(by cases g),fun _=>⟨_,rfl,_,h.ai.cell rfl,_,rfl,_,h.bJ.1.cell rfl,⟨(vl h1 hv).mono ?_⟩⟩⟩;rintro e w2 ⟨rfl,hU⟩;exact⟨_,_,_,rfl,rfl,hU⟩
theorem Tk (h:b7 b w F d):Cx 294 #[pt b] w fun e w'=>e=Z (I (oK d))/\af no w w':=by
 have h0:=h;obtain⟨q,m,h,k⟩:=h;refine akU ?_;rw[t294];refine⟨fun g=>(by cases g),fun _=>⟨_,rfl,_,h.ai.cell rfl,?_⟩⟩;unfold oK
 cases q with
 | none=>rw[k.none_];exact⟨fun _=>⟨rfl,af.refl _ _⟩,fun g=>(by cases g)⟩
 | some q0=>
  refine⟨fun g=>(by cases g),fun _=>⟨(DY h0).mono ?_⟩⟩;rintro e w2 ⟨rfl,hU⟩;unfold jR;rw[k.some_];refine⟨_,rfl,fun g=>?_,fun g=>?_⟩
  ·simp only at g⊢;rw[g];exact⟨rfl,hU⟩
  ·simp only at g⊢;rw[g];exact⟨rfl,hU⟩
theorem Tj (n:Int) (w:World):Cx 261 #[I n] w fun e w'=>e=Z (.bool (decide (jv n)))/\w'=w:=by
 refine akF ?_;rw[t261];unfold jv;refine⟨fun g=>⟨?_,rfl⟩,fun g=>⟨?_,rfl⟩⟩
 ·have:=of_decide_eq_true g;congr 2;exact decide_eq_decide.2 (by omega)
 ·have:=of_decide_eq_false g;congr 2;exact(decide_eq_false (fun hh=>absurd hh.1 this)).symm
structure XZ (b:Nat) (w:World) (F:Fp) (d:aZ) (r:aG) (bq b2:Nat) (mo:Option Nat) (F2:Fp):Prop where
 ai:aE w b (oJ (some ⟨bq,0,none⟩,mo)) 136
 bJ:aE w bq (mN (bq,b2,r)) 284
 run:kh b2 w F2 r
 ag:pL r
 runT:∀w' (r':aG),r'.up=r.up->r'.ab=r.ab->r'.ah=r.ah->r'.told=r.told->pL r'->aa (kh b2) w w' F2 r'->aa (b7 b) w w' F (some r',d.2)
 Bh:∀(t:Bool) (K:World->Prop),(∀w',aa (b7 b) w w' F (some {r with told:=t},d.2)->K w')->Wr w ((⟨bq,0,none⟩:Addr).add 4) [.bool t] K
 look:∀k:Int,(Instr.lookup 134 (.map mo) (I k) false).run Tryz.prog w=.ok (.bool (d.2 k)) w
 del:∀(k:Int) (k2 ty:TypeId),d.2 k=true->∃w',(Builtin.delete_ #[134,k2] ty #[.map mo,I k]).run Tryz.prog w=.ok (.tuple #[]) w'/\aa (b7 b) w w' F (d.1,fun j=>if j=k then false else d.2 j)
theorem b7.open (h:b7 b w F d) {r:aG} (hr:d.1=some r):∃bq b2 mo F2,XZ b w F d r bq b2 mo F2:=by
 obtain⟨q,m,h,k⟩:=h
 cases q with
 | none=>rw[k.none_]at hr;cases hr
 | some q0=>
  obtain⟨bq,b2,r0⟩:=q0;have e:=k.some_;rw[hr]at e;cases e;obtain⟨F2,h2,k2⟩:=h.run;have hv0:=k.v _ hr;refine⟨bq,b2,(gn (some (bq,b2,r0)) m).2,F2,h.ai,h.bJ.1,h2,hv0,fun w' r' e1 e2 e3 e4 hv hT=>(k2 w' r' e1 e2 e3 e4 hT).dk (k.set hv),fun t K hK=>h.Bh t fun w' hT=>hK w' (hT.dk (k.set (r':={r0 with told:=t}) hv0)),fun j=>?_,fun j j2 ty hj=>?_⟩
  ·rw[k.p]
   cases m with
   | none=>exact afv wC j w
   | some m0=>
    obtain⟨F3,h3,_⟩:=h.right;have h3:aS m0.1 Value.bool w F3 m0.2:=h3;have:=iz wC h3 j false;show(Instr.lookup _ (.map (some m0.1)) _ _).run _ _=_;rw[this];cases h4:m0.2.1 j<;>simp[h4]
  ·rw[k.p]at hj
   cases m with
   | none=>cases hj
   | some m0=>
    obtain⟨F3,h3,k3⟩:=h.right;have h3:aS m0.1 Value.bool w F3 m0.2:=h3;obtain⟨w',hrun,hT⟩:=ph wC h3 j j2 ty;refine⟨w',hrun,?_⟩
    have hT2:aa r6 w w' F3 (some (m0.1,eX m0.2 j)):=by
     obtain⟨F',t1,t2⟩:=hT;exact⟨F',t1,t2⟩
    refine(show aa (eb b) w w' F ((gn (some (bq,b2,r0)) (some (m0.1,eX m0.2 j)),some (bq,b2,r0)),some (m0.1,eX m0.2 j))from k3 _ _ hT2).dk ⟨k.r,fun i=>?_,k.v⟩;simp only[Option.bind_some,eX];rw[k.p];by_cases e:i=j
    ·rw[if_pos e,if_pos e];rfl
    ·rw[if_neg e,if_neg e];rfl
theorem eb.Gq {p p':Option Addr×Option Nat} (h:eb b w F ((p,q),m)) {k:Nat} {v:Value} (hk:k+1<=2) (e:aI (oJ p) k [v]=oJ p') {K:World->Prop} (hK:∀w',aa (eb b) w w' F ((p',q),m)->K w'):Wr w ((⟨b,0,none⟩:Addr).add k) [v] K:=by
 obtain⟨F0,h0,k0⟩:=h.left;obtain⟨F1,h1,k1⟩:=h0.left;refine h1.ai.wr (by simpa [oJ]using hk) fun w' hW=>hK w' (k0 _ _ (k1 _ _ ?_));rw[e]at hW;exact h1.dZ hW.U hW.aF
theorem abT (h:b7 b w F d) (n:Int):Cx 264 #[pt b,I n] w fun e w'=>e=Z (I (iW n))/\aa (b7 b) w w' F (jC d n):=by
 have h0:=h;obtain⟨q,m,h,k⟩:=h;refine akI ?_;rw[t264]
 have nop:∀{x:Int},¬(0<=n/\n<10)->iW n=3/\jC d n=d:=fun hn=>by
  have e:iW n=3:=by unfold iW;rw[if_neg hn]
  exact⟨e,by unfold jC;rw[e];rfl⟩
 refine⟨fun g=>(by cases g),fun _=>⟨fun g1=>⟨fun g2=>?_,fun g2=>?_⟩,fun g1=>?_⟩⟩
 ·have g2:=of_decide_eq_true g2;obtain⟨e1,e2⟩:=nop (x:=0) (by omega);rw[e1,e2];exact⟨rfl,aa.same h0⟩
 ·have g1:=of_decide_eq_false g1;have g2:=of_decide_eq_false g2;have e1:iW n=0:=by unfold iW;rw[if_pos ⟨by omega,by omega⟩]
  have e2:jC d n=(d.1,fun j=>if j=n then true else d.2 j):=by unfold jC;rw[e1];rfl
  rw[e1,e2]
  cases m with
  | none=>
   refine⟨_,rfl,_,h.ai.cell rfl,fun _=>⟨fun w1 hN=>?_⟩,fun g=>(by cases g)⟩;obtain⟨F3,h3,k3⟩:=h.right;have hT1:aa r6 w w1 F3 (some (w.heap.size,((fun _=>none,0):(Int->Option Bool)×Nat))):=⟨_,aS.new hN,hN.ae _,fun i hi=>.inr (Nat.le_of_eq hi.symm)⟩;have hX1:=k3 _ _ hT1;obtain⟨F1,hX,hU,hF⟩:=hX1;refine⟨_,rfl,eb.Gq hX (p':=gn q (some (w.heap.size,((fun _=>none,0):(Int->Option Bool)×Nat)))) (by omega) (by simp[oJ,gn,aI]) fun w2 hT2=>?_⟩;obtain⟨F2,hX2,hU2,hF2⟩:=aa.next hX hU hF hT2;obtain⟨F4,h4,k4⟩:=hX2.right;have h4:aS w.heap.size Value.bool w2 F4 (fun _=>none,0):=h4;obtain⟨w3,hrun,hT3⟩:=mQ wC h4 n true
   have hT3':aa r6 w2 w3 F4 (some (w.heap.size,dp ((fun _=>none,0):(Int->Option Bool)×Nat) n true)):=by
    obtain⟨F',t1,t2⟩:=hT3;exact⟨F',t1,t2⟩
   refine⟨_,rfl,_,(eb.ai hX2).cell rfl,w3,hrun,rfl,(show aa (eb b) w w3 F ((gn q (some (w.heap.size,dp ((fun _=>none,0):(Int->Option Bool)×Nat) n true)),q),some (w.heap.size,dp ((fun _=>none,0):(Int->Option Bool)×Nat) n true))from aa.next hX2 hU2 hF2 (k4 _ _ hT3')).dk ⟨k.r,fun i=>?_,k.v⟩⟩;simp only[Option.bind_some,dp];rw[k.p];by_cases e:i=n
   ·rw[if_pos e,if_pos e];rfl
   ·rw[if_neg e,if_neg e];rfl
  | some m0=>
   refine⟨_,rfl,_,h.ai.cell rfl,fun g=>(by cases g),fun _=>?_⟩;obtain⟨F4,h4,k4⟩:=h.right;have h4:aS m0.1 Value.bool w F4 m0.2:=h4;obtain⟨w3,hrun,hT3⟩:=mQ wC h4 n true
   have hT3':aa r6 w w3 F4 (some (m0.1,dp m0.2 n true)):=by
    obtain⟨F',t1,t2⟩:=hT3;exact⟨F',t1,t2⟩
   refine⟨_,rfl,_,h.ai.cell rfl,w3,hrun,rfl,(show aa (eb b) w w3 F ((gn q (some (m0.1,dp m0.2 n true)),q),some (m0.1,dp m0.2 n true))from k4 _ _ hT3').dk ⟨k.r,fun i=>?_,k.v⟩⟩;simp only[Option.bind_some,dp];rw[k.p];by_cases e:i=n
   ·rw[if_pos e,if_pos e];rfl
   ·rw[if_neg e,if_neg e];rfl
 ·have g1:=of_decide_eq_true g1;obtain⟨e1,e2⟩:=nop (x:=0) (by omega);rw[e1,e2];exact⟨rfl,aa.same h0⟩
theorem Ti (h:eb b w F ((gn none m,none),m)) (k:mZ none m d) {up:Bool} {c ah:Int} {n:Int} (hn:1<=n/\n<=64) (e:n=if up then 4 else 10) :
  aA Tryz.prog rX xT (zl (some ⟨b,0,none⟩) up c ah n) w (zU fun e w'=>e=Z (I 0)/\aa (b7 b) w w' F (some ⟨n,0,false,up,c,ah,false⟩,d.2)):=by
 refine aA.mk ?_;rw[agv];refine⟨(af2 n w hn).mono ?_⟩;rintro e w1 ⟨rfl,hN1⟩;refine⟨_,_,rfl,fun g=>(by simp at g),fun _=>⟨fun w2 hN2=>?_⟩⟩
 have hR:vc w1.heap.size w.heap.size w2 (fun i=>i=w1.heap.size∨i=w.heap.size) ((w1.heap.size,w.heap.size,⟨n,0,false,up,c,ah,false⟩),⟨n,0,false,up,c,ah,false⟩):=by
  refine⟨fun i=>i=w1.heap.size,fun i=>i=w.heap.size,Rw.new hN2 rfl,⟨fun _=>Iff.rfl,hN2.keep hN1.aF⟩,fun i=>Iff.rfl,fun i hi hj=>?_⟩;have:=hN1.size;omega
 have hU:af no w w2:=(hN1.ae no).and (hN2.ae no);obtain⟨F0,h0,k0⟩:=h.left;obtain⟨F1,h1,k1⟩:=h0.right;have hsz:=hN1.size;have hT1:aa r8 w w2 F1 (some (w1.heap.size,w.heap.size,⟨n,0,false,up,c,ah,false⟩)):=⟨_,hR,hU.nn,fun i hi=>.inr (by rcases hi with rfl|rfl<;>omega)⟩;obtain⟨F2,hX,hU2,hF2⟩:=k0 _ _ (k1 _ _ hT1);refine⟨_,rfl,eb.Gq hX (p':=gn (some (w1.heap.size,w.heap.size,⟨n,0,false,up,c,ah,false⟩)) m) (by omega) (by simp[oJ,gn,aI]) fun w3 hT2=>⟨rfl,(aa.next hX hU2 hF2 hT2).dk ⟨rfl,k.p,fun r hr=>?_⟩⟩⟩;cases hr;exact⟨Int.le_refl _,by simp only;omega,hn.2⟩
theorem abK (h:b7 b w F d) (up:Bool) (c ah:Int):Cx 161 #[pt b,.bool up,I c,I ah] w fun e w'=>e=Z (I (jO d c ah))/\aa (b7 b) w w' F (nq d up c ah):=by
 have h0:=h;obtain⟨q,m,h,k⟩:=h;refine ajj ?_;rw[t161];have nop:∀{x:Int},x≠0->jO d c ah=x->jO d c ah=x/\nq d up c ah=d:=fun hx e=>⟨e,by unfold nq;rw[e,if_neg hx]⟩;refine⟨fun g=>(by cases g),fun _=>⟨_,rfl,_,h.ai.cell rfl,fun g1=>?_,fun g1=>?_⟩⟩
 ·cases q with
  | none=>cases g1
  | some q0=>
   obtain⟨e1,e2⟩:=nop (x:=7) (by omega) (by unfold jO;rw[k.some_];rfl);rw[e1,e2];exact⟨rfl,aa.same h0⟩
 ·cases q with
  | some q0=>cases g1
  | none=>
   have hd:=k.none_;refine⟨(Tj c w).mono ?_⟩;rintro e w1 ⟨rfl,rfl⟩;refine⟨_,rfl,fun g2=>⟨(Tj ah w1).mono ?_⟩,fun g2=>?_⟩
   ·have g2:jv c:=by simpa using g2
    rintro e w2 ⟨rfl,rfl⟩;refine⟨_,rfl,fun g3=>?_,fun g3=>⟨fun g4=>?_,fun g4=>?_⟩⟩
    ·have g3:¬jv ah:=by simpa using g3
     obtain⟨e1,e2⟩:=nop (x:=3) (by omega) (by unfold jO;rw[hd];simp[g3]);rw[e1,e2];exact⟨rfl,aa.same h0⟩
    ·have g3:jv ah:=by simpa using g3
     have g4:c=ah:=by simpa using g4
     obtain⟨e1,e2⟩:=nop (x:=2) (by omega) (by unfold jO;rw[hd];subst g4;simp[g3]);rw[e1,e2];exact⟨rfl,aa.same h0⟩
    ·have g3:jv ah:=by simpa using g3
     have g4:¬c=ah:=by simpa using g4
     have e1:jO d c ah=0:=by unfold jO;rw[hd];simp[g2,g3,g4]
     have e2:nq d up c ah=(some ⟨if up then 4 else 10,0,false,up,c,ah,false⟩,d.2):=by unfold nq;rw[if_pos e1]
     rw[e1,e2];refine⟨fun g=>?_,fun g=>?_⟩
     ·subst g;exact Ti h k (by omega) rfl
     ·subst g;exact Ti h k (by omega) rfl
   ·have g2:¬jv c:=by simpa using g2
    obtain⟨e1,e2⟩:=nop (x:=3) (by omega) (by unfold jO;rw[hd];simp[g2]);rw[e1,e2];exact⟨rfl,aa.same h0⟩
theorem abN (h:b7 b w F d):Cx 210 #[pt b] w fun e w'=>(∃x:Int,e=Z (I x))/\aa (b7 b) w w' F (sR d):=by
 refine ajQ ?_;rw[t210];refine⟨(Tk h).mono ?_⟩;rintro e w1 ⟨rfl,hU⟩;have h1:=(Frame.CM b).ae h hU (fun _ _ h=>h)
 have key:(oK d≠0/\sR d=d)∨(oK d=0/\∃r,d.1=some r/\r.over=false/\sR d=(some {r with told:=false,ag:=if r.back then r.ag-1 else r.ag+1},d.2)):=by
  unfold oK sR
  cases hd:d.1 with
  | none=>exact .inl ⟨by simp,rfl⟩
  | some r=>
   cases ho:r.over with
   | true=>exact .inl ⟨by simp[ho],by simp[ho]⟩
   | false=>exact .inr ⟨by simp[ho],r,rfl,ho,by simp[ho]⟩
 rcases key with⟨e1,e2⟩|⟨e1,r,hd,ho,e2⟩
 ·rw[e2];exact⟨_,rfl,fun _=>⟨⟨_,rfl⟩,aa.quiet h hU⟩,fun g=>absurd (by simpa using g) e1⟩
 ·rw[e1,e2];refine⟨_,rfl,fun g=>(by simp at g),fun _=>?_⟩;obtain⟨bq,b2,mo,F2,hA⟩:=h1.open hd;refine⟨_,rfl,_,hA.ai.cell rfl,_,rfl,hA.Bh false _ fun w2 hT2=>?_⟩;obtain⟨F3,h3,hU3,hF3⟩:=hT2;obtain⟨bq',b2',mo',F4,hB⟩:=h3.open (r:={r with told:=false}) rfl;refine⟨_,rfl,_,hB.ai.cell rfl,_,rfl,_,hB.bJ.cell rfl,⟨(afF hB.run hB.ag.ag).mono ?_⟩⟩;rintro e w3 ⟨rfl,hT⟩;have ho':aG.over {r with told:=false}=false:=ho;rw[ho']at hT⊢;refine⟨_,rfl,⟨_,rfl⟩,?_⟩
  have hdid:pL (pX {r with told:=false}):=by
   obtain⟨v1,v2,v3⟩:=hB.ag;unfold aG.over aG.now at ho;unfold pL pX;simp only at v1 v2 v3⊢;cases hb:r.back
   ·have:r.ag≠r.dB:=fun e=>by simp[hb,e]at ho
    simp;omega
   ·have:r.ag≠0:=fun e=>by simp[hb,e]at ho
    simp;omega
  have:=hB.runT w3 (pX {r with told:=false}) rfl rfl rfl rfl hdid (by simpa using hT);have:=aa.next h3 hU3 hF3 this;exact aa.next h1 hU.nn (fun i hi=>.inl hi) this
theorem abP (h:b7 b w F d) (ho:jR d=true):Cx 212 #[pt b] w fun e w'=>e=Z (.tuple #[I (vR d).1,I (vR d).2])/\aa (b7 b) w w' F (rh d):=by
 obtain⟨r,hr,ho⟩:∃r,d.1=some r/\r.over=true:=by
  unfold jR at ho
  cases hd:d.1 with
  | none=>rw[hd]at ho;cases ho
  | some r=>rw[hd]at ho;exact⟨r,rfl,ho⟩
 have e1:vR d=(r.eM,0):=by unfold vR;rw[hr];simp[ho]
 have e2:rh d=(none,d.2):=by unfold rh;rw[hr];simp[ho]
 rw[e1,e2];obtain⟨bq,b2,mo,F2,hA⟩:=h.open hr;refine ajS ?_;rw[t212];refine⟨fun g=>(by cases g),fun _=>⟨_,rfl,_,hA.ai.cell rfl,fun g=>(by cases g),fun _=>⟨(DY h).mono ?_⟩⟩⟩;rintro e w1 ⟨rfl,hU⟩;have hov:jR d=true:=by unfold jR;rw[hr];exact ho
 rw[hov];have h1:=(Frame.CM b).ae h hU (fun _ _ h=>h);obtain⟨bq,b2,mo,F2,hA⟩:=h1.open hr;refine⟨_,rfl,fun g=>(by simp at g),fun _=>⟨_,rfl,_,hA.ai.cell rfl,_,rfl,_,hA.bJ.cell rfl,⟨(agk hA.run hA.ag.ag ho).mono ?_⟩⟩⟩;rintro e w2 ⟨rfl,hU2⟩;have h2:=(Frame.CM b).ae h1 hU2 (fun _ _ h=>h);have hUU:=hU.and hU2;obtain⟨q,m,hX,k⟩:=h2;refine⟨_,rfl,_,rfl,eb.Gq hX (p':=gn none m) (by omega) (by simp[oJ,gn,aI]) fun w3 hT=>⟨rfl,?_⟩⟩;obtain⟨F6,hX6,hU6,hF6⟩:=hT;obtain⟨F0,h0,k0⟩:=au.left hX6;obtain⟨F7,h7,k7⟩:=h0.right;have hT7:aa r8 w3 w3 F7 none:=⟨fun _=>False,fun _ h=>h,af.refl _ _,fun _ h=>h.elim⟩;have hT8:=(show aa (eb b) w2 w3 F ((gn none m,none),m)from aa.next hX6 hU6 hF6 (k0 _ _ (k7 _ _ hT7))).dk (d':=(none,d.2)) ⟨rfl,k.p,fun r hr=>(by cases hr)⟩;obtain⟨F9,a1,a2,a3⟩:=hT8;exact⟨F9,a1,(hUU.nn).trans a2 (fun i _ hi=>hi),fun i hi=>(a3 i hi).imp id fun h=>Nat.le_trans hUU.size h⟩
def uk (x:Int×Bool×Bool):List Value:=[I x.1,.bool x.2.1,.bool x.2.2]
abbrev pM (b:Nat):Ob (Int×Bool×Bool):=Rw b 303 uk
theorem Tl {W:World} {F0:Fp} {r:aG} {p1 p4:Nat} {x:Int×Bool×Bool} {n:Int} {bk fl:Bool} (hM:aa (au (au (b7 b) (pM p1)) (pM p4)) W w F0 ((d,x),(n,bk,fl))) (hr:d.1=some r) {r2:aG} {f2:Int->Bool} (h2:r2={r with told:=true}) (h3:f2=d.2) :
  aA Tryz.prog lC yd (zm (some ⟨b,0,none⟩) ⟨p1,0,none⟩ ⟨p4,0,none⟩) w (zW fun e w'=>e=Z (.tuple #[.agg #[I n,.bool bk,.bool fl],I 0])/\aa (b7 b) W w' F0 (some r2,f2)):=by
 subst h2;subst h3;refine aA.mk ?_;rw[agF];obtain⟨F1,hA,hT⟩:=hM.ll;obtain⟨bq,b2,mo,F2,hD⟩:=hA.open hr;refine⟨_,rfl,_,hD.ai.cell rfl,_,rfl,hD.Bh true _ fun w2 hT2=>?_⟩;replace hM:=hT _ _ hT2;clear hA hT hT2 hD;obtain⟨F1,hA,hT⟩:=hM.right;refine⟨_,hA.ai.cell rfl,_,hA.ai.cell rfl,_,hA.ai.cell rfl,?_⟩;clear hA hT;obtain⟨F1,hA,hT⟩:=hM.lr;refine hA.ai.gF (by simp[uk]) fun w3 hW=>?_;replace hM:=hT _ _ (hA.dZ (s':=(n,bk,fl)) hW.U hW.aF);clear hA hT hW;obtain⟨F1,hA,hT⟩:=hM.lr;exact⟨_,hA.ai.cell rfl,_,hA.ai.cell rfl,_,hA.ai.cell rfl,rfl,hM.drop.drop⟩
theorem abR {W:World} {F0:Fp} {r:aG} {p1 p4:Nat} {x:Int×Bool×Bool} {n:Int} {bk fl:Bool} (hM:aa (au (au (b7 b) (pM p1)) (pM p4)) W w F0 ((d,x),(n,bk,fl))) (hr:d.1=some r) (ho:r.over=false) (hf:fl=true->r.back=false/\d.2 n=true) {r2:aG} {f2:Int->Bool} (h2:r2={r with told:=true,back:=r.back||fl}) (h3:f2=if fl then fun k=>if k=n then false else d.2 k else d.2) :
  aA Tryz.prog lC sF (sS (some ⟨b,0,none⟩) ⟨p1,0,none⟩ n ⟨p4,0,none⟩) w (tv fun e w'=>e=Z (.tuple #[.agg #[I n,.bool bk,.bool fl],I 0])/\
   aa (b7 b) W w' F0 (some r2,f2)):=by
 refine aA.mk ?_;rw[agE];obtain⟨F1,hA,hT⟩:=hM.right;refine⟨_,hA.ai.cell rfl,fun g=>?_,fun g=>?_⟩
 ·have g:fl=true:=g;subst g;clear hA hT;obtain⟨hb,hp⟩:=hf rfl;obtain⟨F1,hA,hT⟩:=hM.ll;obtain⟨bq,b2,mo,F2,hD⟩:=hA.open hr;obtain⟨w2,hrun,hT2⟩:=hD.del n 3 0 hp;refine⟨_,rfl,_,hD.ai.cell rfl,w2,hrun,?_⟩;replace hM:=hT _ _ hT2;clear hA hT hT2 hD hrun;obtain⟨F1,hA,hT⟩:=hM.ll;obtain⟨bq,b2,mo,F2,hD⟩:=hA.open hr;refine⟨_,rfl,_,hD.ai.cell rfl,_,rfl,_,hD.bJ.cell rfl,⟨(afK hD.run hD.ag.ag ho hb).mono ?_⟩⟩;rintro e w3 ⟨rfl,hT2⟩;replace hM:=hT _ _ (hD.runT w3 {r with back:=true} rfl rfl rfl rfl hD.ag hT2);clear hA hT hT2 hD;refine⟨_,rfl,?_⟩;exact Tl (r:={r with back:=true}) hM rfl (by rw[h2,Bool.or_true]) (by rw[h3,if_pos rfl])
 ·have g:fl=false:=g;subst g;exact Tl hM hr (by rw[h2,Bool.or_false]) (by rw[h3,if_neg Bool.false_ne_true])
theorem abS (h:b7 b w F d):Cx 208 #[pt b] w fun e w'=>e=Z (.tuple #[.agg #[I (fR d).1.1,.bool (fR d).1.2.1,.bool (fR d).1.2.2],I (fR d).2])/\aa (b7 b) w w' F (nH d):=by
 have hM:=aa.same h;refine ajO ?_;rw[t208];refine⟨fun w1 hN=>?_⟩;replace hM:aa (au (b7 b) (pM w.heap.size)) w w1 F (d,(0,false,false)):=hM.add (hN.ae no) (Rw.new (enc:=uk) hN rfl) (fun i hi=>Nat.le_of_eq hi.symm);generalize w.heap.size=p1 at hM⊢;obtain⟨F1,hA,hT⟩:=hM.left;refine⟨(Tk hA).mono ?_⟩;rintro e w2 ⟨rfl,hU⟩;replace hM:=hM.ae hU;clear hA hT hU
 have key:(oK d≠0/\fR d=((0,false,false),oK d)/\nH d=d)∨(oK d=0/\∃r,d.1=some r/\r.over=false/\fR d=((r.now.1,r.now.2.1,dm d r),0)/\nH d=(some {r with told:=true,back:=r.back||dm d r},if dm d r then fun k=>if k=r.now.1 then false else d.2 k else d.2)):=by
  unfold oK fR nH
  cases hd:d.1 with
  | none=>exact .inl ⟨by simp,rfl,rfl⟩
  | some r=>
   cases ho:r.over with
   | true=>exact .inl ⟨by simp[ho],by simp[ho],by simp[ho]⟩
   | false=>exact .inr ⟨by simp[ho],r,rfl,ho,by simp[ho],by simp[ho]⟩
 rcases key with⟨e1,e2,e3⟩|⟨e1,r,hr,ho,e2,e3⟩
 ·rw[e2,e3];refine⟨_,rfl,fun _=>?_,fun g=>absurd (by simpa using g) e1⟩;obtain⟨F1,hA,hT⟩:=hM.right;refine hA.ai.gF (by simp[uk]) fun w3 hW=>?_;replace hM:=hT _ _ (hA.dZ (s':=((0,false,false):Int×Bool×Bool)) hW.U hW.aF);clear hA hT hW;obtain⟨F1,hA,hT⟩:=hM.right;exact⟨_,hA.ai.cell rfl,_,hA.ai.cell rfl,_,hA.ai.cell rfl,rfl,hM.drop⟩
 ·rw[e1,e2,e3];refine⟨_,rfl,fun g=>(by simp at g),fun _=>?_⟩;obtain⟨F1,hA,hT⟩:=hM.left;obtain⟨bq,b2,mo,F2,hD⟩:=hA.open hr;refine⟨_,rfl,_,hD.ai.cell rfl,_,rfl,_,hD.bJ.cell rfl,⟨(vl hD.run hD.ag.ag).mono ?_⟩⟩;rintro e w3 ⟨rfl,hU⟩;replace hM:=hM.ae hU;clear hA hT hU hD
  have hb:r.now.2.1=r.back:=by
   unfold aG.over aG.now at ho;unfold aG.now;split
   ·rfl
   ·split<;>simp_all
  rw[hb]
  have fin:∀{w4:World} {fl:Bool},fl=dm d r->aa (au (b7 b) (pM p1)) w w4 F (d,(0,false,false))->ay w4 [I 0,.bool false,.bool false] 303 fun p_4 w'=>Wr w' p_4 [I r.now.1,.bool r.back,.bool fl] fun w'=>
    aA Tryz.prog lC sF (sS (some ⟨b,0,none⟩) ⟨p1,0,none⟩ r.now.1 p_4) w' (tv fun e w'=>e=Z (.tuple #[.agg #[I r.now.1,.bool r.back,.bool (dm d r)],I 0])/\
     aa (b7 b) w w' F (some {r with told:=true,back:=r.back||dm d r},if dm d r then fun k=>if k=r.now.1 then false else d.2 k else d.2)):=by
   rintro w4 fl rfl hM;refine⟨fun w5 hN=>?_⟩;replace hM:aa (au (au (b7 b) (pM p1)) (pM w4.heap.size)) w w5 F ((d,(0,false,false)),(0,false,false)):=hM.add (hN.ae no) (Rw.new (enc:=uk) hN rfl) (fun i hi=>Nat.le_of_eq hi.symm);generalize w4.heap.size=p4 at hM⊢;obtain⟨F1,hA,hT⟩:=hM.right;refine hA.ai.gF (by simp[uk]) fun w6 hW=>?_;replace hM:=hT _ _ (hA.dZ (s':=(r.now.1,r.back,dm d r)) hW.U hW.aF);refine abR hM hr ho (fun hf=>?_) rfl rfl;unfold dm at hf;rw[hb]at hf;simp only[Bool.and_eq_true,Bool.not_eq_true']at hf;exact⟨hf.1.1,hf.2⟩
  refine⟨_,_,_,rfl,fun g=>?_,fun g=>?_⟩
  ·have g:r.back=false:=by simpa using g
   obtain⟨F1,hA,hT⟩:=hM.left;obtain⟨bq,b2,mo,F2,hD⟩:=hA.open hr;refine⟨_,rfl,_,hD.ai.cell rfl,_,rfl,_,hD.bJ.cell rfl,fun g2=>?_,fun g2=>?_⟩
   ·have g2:r.told=false:=by simpa using g2
    refine⟨_,rfl,_,hD.ai.cell rfl,_,hD.look _,fin ?_ hM⟩;unfold dm;rw[hb,g,g2];rfl
   ·have g2:r.told=true:=by simpa using g2
    refine fin ?_ hM;unfold dm;rw[g2];simp
  ·have g:r.back=true:=by simpa using g
   refine fin ?_ hM;unfold dm;rw[hb,g];rfl
end
end Go.Dav
namespace Go.Dav
open Go.Proofs
theorem elC:dH Tryz.prog 222 226 6 40 [.bool false,.bool false,I 0,I 0,I 0,I 0]:=⟨by kernel_rfl,by kernel_rfl,rfl,by omega⟩
abbrev l6:=cG×Int×Int
def dJ (x:l6):List Value:=[.bool x.1.pw,.bool x.1.idle,I x.1.bB,I x.1.since,I x.2.1,I x.2.2]
theorem yW (x:l6):(dJ x).length=6:=rfl
abbrev nZ (b:Nat):Ob (List l6×Option Addr×Nat):=Hd b 224 226 6 (fun l p c=>[.slice p l.length c]) (fun l=>l.length) (fun l=>l.flatMap dJ)
structure qF (x:List cG):Prop where
 bB:∀q∈x,0<=q.bB/\q.bB<4
 len:1<=x.length/\x.length<=64
def dr (b:Nat):Ob (List cG):=fun w F x=>∃l y,nZ b w F (l,y)/\l.map Prod.fst=x/\qF x
instance Frame.ZS (b:Nat):Frame (dr b) where
 ae:=fun⟨l,y,h,r⟩ k hG=>⟨l,y,(Frame.hd ..).ae h k hG,r⟩
 lt:=fun⟨_,_,h,_⟩=>(Frame.hd ..).lt h
section
variable {b:Nat} {w w':World} {F:Fp} {x:List cG} {l:List l6} {y:Option Addr×Nat}
theorem nZ.wr {a:Addr} {c0:Nat} (h:nZ b w F (l,(some a,c0))) {i:Nat} (hi:i<l.length) {j:Nat} {vs:List Value} {q:l6} (hj:j+vs.length<=6) (hq:dJ q=aI (dJ l[i]) j vs) {K:World->Prop} (hK:∀w',aa (nZ b) w w' F (l.set i q,(some a,c0))->K w'):Wr w ((a.add (i*6)).add j) vs K:=by
 rw[Addr.add_add];have hle:(i+1)*6<=l.length*6:=Nat.mul_le_mul_right _ hi;refine h.sl.wr (o:=i*6+j) (by simp only;omega) fun w' hS hU=>hK w' (h.elems ?_ hU (by simp));rw[Fq yW hi hj hq]at hS;simpa using hS
theorem nZ.at (h:nZ b w F (l,y)) {i:Nat} (hi:i<l.length):∃a c0,y=(some a,c0)/\∀(j:Nat) v,(dJ l[i])[j]?=some v->w.cell? ((a.add (i*6)).add j)=some v:=by
 obtain⟨a,ha,hc⟩:=h.sl.cells.vm yW (by omega) hi;obtain⟨p,c0⟩:=y;simp only at ha;subst ha;exact⟨a,c0,rfl,hc⟩
theorem Tc {i:Nat} (hi:i<x.length):aJ x (i:Int)=x[i]:=by
 unfold aJ;rw[if_pos (show cD x (i:Int)from⟨by omega,by omega⟩)];simp[List.getD_eq_getElem?_getD,hi]
theorem ry {c:Int} (h:cD x c):∃i:Nat,i<x.length/\c=(i:Int):=⟨c.toNat,by unfold cD at h;omega,by unfold cD at h;omega⟩
def gG (b:Nat) (W w:World) (F:Fp) (l:List l6) (a:Addr) (c0:Nat):Prop:=aa (nZ b) W w F (l,(some a,c0))
theorem gG.cell {W:World} {a:Addr} {c0:Nat} (h:gG b W w F l a c0) {i:Nat} (hi:i<l.length) {j:Nat} {v:Value} (hv:(dJ l[i])[j]?=some v):w.cell? ((a.add (i*6)).add j)=some v:=by
 obtain⟨F1,h1,_⟩:=h;obtain⟨a',c',e,hc⟩:=h1.at hi;cases e;exact hc j v hv
theorem gG.ai {W:World} {a:Addr} {c0:Nat} (h:gG b W w F l a c0):aE w b [.slice (some a) l.length c0] 224:=by
 obtain⟨F1,h1,_⟩:=h;exact h1.ai
theorem gG.wr {W:World} {a:Addr} {c0:Nat} (h:gG b W w F l a c0) {i:Nat} (hi:i<l.length) {j:Nat} {vs:List Value} (q:l6) (hj:j+vs.length<=6) (hq:dJ q=aI (dJ l[i]) j vs) {K:World->Prop} (hK:∀w',gG b W w' F (l.set i q) a c0->K w'):Wr w ((a.add (i*6)).add j) vs K:=by
 obtain⟨F1,h1,k1⟩:=aa.bI h;exact nZ.wr h1 hi hj hq fun w' hT=>hK w' (k1 _ _ hT)
theorem gG.ae {W w1:World} {a:Addr} {c0:Nat} (h:gG b W w F l a c0) (hU:af no w w1):gG b W w1 F l a c0:=aa.ae h hU
theorem gG.out {W:World} {a:Addr} {c0:Nat} (h:gG b W w F l a c0) (hx:l.map Prod.fst=x) (hv:qF x):aa (dr b) W w F x:=by
 obtain⟨F',h1,h2⟩:=h;exact⟨F',⟨l,_,h1,hx,hv⟩,h2⟩
theorem dr.open (h:dr b w F x) {i:Nat} (hi:i<x.length):∃l a c0,gG b w w F l a c0/\l.map Prod.fst=x/\qF x:=by
 obtain⟨l,y,h,rfl,hv⟩:=h;have hi':i<l.length:=by simpa using hi
 obtain⟨a,c0,rfl,hc⟩:=h.at hi';exact⟨l,a,c0,aa.same h,rfl,hv⟩
theorem qF.set (hv:qF x) {i:Nat} {q:cG} (hq:0<=q.bB/\q.bB<4):qF (x.set i q):=⟨fun z hz=>by
 rcases List.mem_or_eq_of_mem_set hz with hz|rfl
 ·exact hv.bB z hz
 ·exact hq,by simpa using hv.len⟩
theorem dr.v (h:dr b w F x):qF x:=by obtain⟨_,_,_,_,hv⟩:=h;exact hv
theorem dr.bB (h:dr b w F x) (c:Int):0<=(aJ x c).bB/\(aJ x c).bB<4:=by
 by_cases hc:cD x c
 ·obtain⟨i,hi,rfl⟩:=ry hc;rw[Tc hi];exact h.v.bB _ (List.getElem_mem hi)
 ·unfold aJ;rw[if_neg hc];exact⟨Int.le_refl _,by decide⟩
theorem dr.ai (h:dr b w F x):∃p c0,aE w b [.slice p x.length c0] 224:=by
 obtain⟨l,y,h,rfl,hv⟩:=h;exact⟨_,_,by simpa using h.ai⟩
theorem sL (h:dr b w F x) {c:Int} (hc:¬cD x c):Cx 199 #[pt b,I c] w fun e w'=>e=Z (.tuple #[.pointer none,I 3])/\w'=w:=by
 obtain⟨p,c0,hB⟩:=h.ai;refine Xw ?_;rw[t199];refine⟨fun g=>(by cases g),fun _=>⟨fun g1=>⟨_,rfl,_,_,_,hB.cell rfl,fun g2=>⟨rfl,rfl⟩,fun g2=>?_⟩,fun g1=>⟨rfl,rfl⟩⟩⟩;have g1:=of_decide_eq_false g1;have g2:=of_decide_eq_false g2;exact absurd (show cD x c from⟨by omega,by omega⟩) hc
theorem sM {W:World} {i:Nat} {a:Addr} {c0:Nat} (h:gG b W w F l a c0) (hi:i<l.length):Cx 199 #[pt b,I (i:Int)] w fun e w'=>e=Z (.tuple #[.pointer (some (a.add (i*6))),I 0])/\w'=w:=by
 have hB:=h.ai;refine Xw ?_;rw[t199];refine⟨fun g=>(by cases g),fun _=>⟨fun g1=>⟨_,rfl,_,_,_,hB.cell rfl,fun g2=>?_,fun g2=>⟨_,rfl,_,_,_,hB.cell rfl,⟨by omega,by omega⟩,_,rfl,?_,rfl⟩⟩,fun g1=>?_⟩⟩
 ·have g2:=of_decide_eq_true g2;omega
 ·simp
 ·have g1:=of_decide_eq_true g1;omega
theorem RA (n:Int) (w:World):Cx 206 #[I n] w fun e w'=>e=Z (.bool (decide (aN n)))/\w'=w:=by
 refine ajM ?_;rw[t206];refine⟨fun g=>⟨?_,rfl⟩,fun g=>⟨?_,rfl⟩⟩
 ·have:=of_decide_eq_true g;congr 2;exact decide_eq_decide.2 (by unfold aN;omega)
 ·have:=of_decide_eq_false g;congr 2;exact(decide_eq_false (fun hh=>absurd hh.1 this)).symm
theorem RF {W:World} {i:Nat} {a:Addr} {c0:Nat} (h:gG b W w F l a c0) (hi:i<l.length):Cx 207 #[.pointer (some (a.add (i*6)))] w fun e w'=>e=Z (.tuple #[])/\gG b W w' F (l.set i (⟨l[i].1.pw,false,0,0⟩,l[i].2)) a c0:=by
 refine ajN ?_;rw[t207];refine⟨_,rfl,h.wr hi (⟨l[i].1.pw,false,l[i].1.bB,l[i].1.since⟩,l[i].2) (by simp) (by simp[dJ,aI]) fun w1 h1=>?_⟩;refine⟨_,rfl,h1.wr (i:=i) (by simpa using hi) (⟨l[i].1.pw,false,0,l[i].1.since⟩,l[i].2) (by simp) (by simp[dJ,aI]) fun w2 h2=>?_⟩;refine⟨_,rfl,h2.wr (i:=i) (by simpa using hi) (⟨l[i].1.pw,false,0,0⟩,l[i].2) (by simp) (by simp[dJ,aI]) fun w3 h3=>⟨rfl,?_⟩⟩;simpa using h3
theorem zD {i:Nat} (hx:l.map Prod.fst=x) (hi:i<l.length):aJ x (i:Int)=l[i].1:=by
 subst hx;rw[Tc (by simpa using hi)];simp
theorem CG (h:dr b w F x) (c:Int) (on:Bool):Cx 354 #[pt b,I c,.bool on] w fun e w'=>(∃n:Int,e=Z (I n))/\aa (dr b) w w' F (fh x c on):=by
 refine alK ?_;rw[t354];by_cases hc:cD x c
 ·obtain⟨i,hi,rfl⟩:=ry hc;obtain⟨l,a,c0,hC,hx,hv⟩:=h.open hi;have hi':i<l.length:=by rw[<-hx]at hi;simpa using hi
  refine⟨(sM hC hi').mono ?_⟩;rintro e w1 ⟨rfl,rfl⟩;have hq:=zD hx hi';refine⟨_,_,rfl,fun g=>(by simp at g),fun _=>⟨_,rfl,_,hC.cell hi' rfl,fun g=>?_,fun g=>?_⟩⟩
  ·have g:l[i].1.pw=on:=by simpa using g
   have e1:fh x (i:Int) on=x:=by unfold fh;rw[if_neg (fun hh=>hh.2 (by rw[hq];exact g))]
   rw[e1];exact⟨⟨_,rfl⟩,aa.same h⟩
  ·have g:l[i].1.pw≠on:=by simpa using g
   refine⟨_,rfl,hC.wr hi' (⟨on,l[i].1.idle,l[i].1.bB,l[i].1.since⟩,l[i].2) (by simp) (by simp[dJ,aI]) fun w2 h2=>⟨(RF h2 (i:=i) (by simpa using hi')).mono ?_⟩⟩;rintro e w3 ⟨rfl,h3⟩;refine⟨rfl,⟨_,rfl⟩,?_⟩
   have e1:fh x (i:Int) on=x.set i ⟨on,false,0,0⟩:=by
    unfold fh;rw[if_pos ⟨hc,by rw[hq];exact g⟩];rfl
   rw[e1];refine h3.out ?_ (hv.set ⟨Int.le_refl _,(show(0:Int)<4 by decide)⟩);rw[List.map_set,List.map_set,hx];simp
 ·refine⟨(sL h hc).mono ?_⟩;rintro e w1 ⟨rfl,rfl⟩;have e1:fh x c on=x:=by unfold fh;rw[if_neg (fun hh=>hc hh.1)]
  rw[e1];exact⟨_,_,rfl,fun _=>⟨⟨_,rfl⟩,aa.same h⟩,fun g=>(by simp at g)⟩
theorem ZU (h:dr b w F x) (c bB now:Int) (hway:bB<4):Cx 216 #[pt b,I c,I bB,I now] w fun e w'=>(∃n:Int,e=Z (I n))/\aa (dr b) w w' F (ju x c bB now):=by
 refine ajW ?_;rw[t216];by_cases hc:cD x c
 ·obtain⟨i,hi,rfl⟩:=ry hc;obtain⟨l,a,c0,hC,hx,hv⟩:=h.open hi;have hi':i<l.length:=by rw[<-hx]at hi;simpa using hi
  refine⟨(sM hC hi').mono ?_⟩;rintro e w1 ⟨rfl,rfl⟩;have hq:=zD hx hi'
  have nop:¬((0<=bB/\bB<8)/\aN now/\l[i].1.pw=true/\l[i].1.idle=false)->ju x (i:Int) bB now=x:=fun hn=>by
   unfold ju;rw[if_neg (fun hh=>hn ⟨hh.2.1,hh.2.2.1,by rw[<-hq];exact hh.2.2.2.1,by rw[<-hq];exact hh.2.2.2.2⟩)]
  refine⟨_,_,rfl,fun g=>(by simp at g),fun _=>⟨fun g1=>⟨fun g2=>⟨(RA now w1).mono ?_⟩,fun g2=>?_⟩,fun g1=>?_⟩⟩
  ·rintro e w2 ⟨rfl,rfl⟩;have g1:=of_decide_eq_false g1;have g2:=of_decide_eq_false g2;refine⟨_,rfl,fun g3=>?_,fun g3=>⟨_,rfl,_,hC.cell hi' rfl,fun g4=>⟨_,rfl,_,hC.cell hi' rfl,fun g5=>?_,fun g5=>?_⟩,fun g4=>?_⟩⟩
   ·have g3:¬aN now:=by simpa using g3
    rw[nop (fun hh=>g3 hh.2.1)];exact⟨⟨_,rfl⟩,aa.same h⟩
   ·have g5:l[i].1.idle=true:=g5;rw[nop (fun hh=>by rw[g5]at hh;cases hh.2.2.2)];exact⟨⟨_,rfl⟩,aa.same h⟩
   ·have g3:aN now:=by simpa using g3
    have g4:l[i].1.pw=true:=by simpa using g4
    have g5:l[i].1.idle=false:=g5;refine⟨_,rfl,hC.wr hi' (⟨l[i].1.pw,true,l[i].1.bB,l[i].1.since⟩,l[i].2) (by simp) (by simp[dJ,aI]) fun w3 h3=>?_⟩;refine⟨_,rfl,h3.wr (i:=i) (by simpa using hi') (⟨l[i].1.pw,true,bB,l[i].1.since⟩,l[i].2) (by simp) (by simp[dJ,aI]) fun w4 h4=>?_⟩;refine⟨_,rfl,h4.wr (i:=i) (by simpa using hi') (⟨l[i].1.pw,true,bB,now⟩,l[i].2) (by simp) (by simp[dJ,aI]) fun w5 h5=>⟨⟨_,rfl⟩,?_⟩⟩
    have e1:ju x (i:Int) bB now=x.set i ⟨l[i].1.pw,true,bB,now⟩:=by
     unfold ju;rw[if_pos ⟨hc,⟨by omega,by omega⟩,g3,by rw[hq];exact g4,by rw[hq];exact g5⟩,hq];rfl
    rw[e1];refine h5.out ?_ (hv.set ⟨by simp only;omega,hway⟩);rw[List.map_set,List.map_set,List.map_set,hx];simp
   ·have g4:l[i].1.pw=false:=by simpa using g4
    rw[nop (fun hh=>by rw[g4]at hh;cases hh.2.2.1)];exact⟨⟨_,rfl⟩,aa.same h⟩
  ·have g2:=of_decide_eq_true g2;rw[nop (fun hh=>absurd hh.1.2 (by omega))];exact⟨⟨_,rfl⟩,aa.same h⟩
  ·have g1:=of_decide_eq_true g1;rw[nop (fun hh=>absurd hh.1.1 (by omega))];exact⟨⟨_,rfl⟩,aa.same h⟩
 ·refine⟨(sL h hc).mono ?_⟩;rintro e w1 ⟨rfl,rfl⟩;have e1:ju x c bB now=x:=by unfold ju;rw[if_neg (fun hh=>hc hh.1)]
  rw[e1];exact⟨_,_,rfl,fun _=>⟨⟨_,rfl⟩,aa.same h⟩,fun g=>(by simp at g)⟩
theorem afw (x y:Int) (w:World):(Builtin.max_ #[2,2] 2 #[I x,I y]).run Tryz.prog w=.ok (I (if y>x then y else x)) w:=by
 simp[Builtin.max_,Builtin.max2]
theorem Z2 (h:dr b w F x) (c now:Int):Cx 117 #[pt b,I c,I now] w fun e w'=>(∃n m:Int,e=Z (.tuple #[I n,I m]))/\aa (dr b) w w' F (cU x c now):=by
 refine aiz ?_;rw[t117];by_cases hc:cD x c
 ·obtain⟨i,hi,rfl⟩:=ry hc;obtain⟨l,a,c0,hC,hx,hv⟩:=h.open hi;have hi':i<l.length:=by rw[<-hx]at hi;simpa using hi
  refine⟨(sM hC hi').mono ?_⟩;rintro e w1 ⟨rfl,rfl⟩;have hq:=zD hx hi'
  have nop:¬(aN now/\l[i].1.idle=true)->cU x (i:Int) now=x:=fun hn=>by
   unfold cU;rw[if_neg (fun hh=>hn ⟨hh.2.1,by rw[<-hq];exact hh.2.2⟩)]
  refine⟨_,_,rfl,fun g=>(by simp at g),fun _=>⟨(RA now w1).mono ?_⟩⟩;rintro e w2 ⟨rfl,rfl⟩;refine⟨_,rfl,fun g3=>?_,fun g3=>⟨_,rfl,_,hC.cell hi' rfl,fun g4=>?_,fun g4=>⟨_,rfl,_,hC.cell hi' rfl,⟨(RF hC hi').mono ?_⟩⟩⟩⟩
  ·have g3:¬aN now:=by simpa using g3
   rw[nop (fun hh=>g3 hh.1)];exact⟨⟨_,_,rfl⟩,aa.same h⟩
  ·have g4:l[i].1.idle=false:=by simpa using g4
   rw[nop (fun hh=>by rw[g4]at hh;cases hh.2)];exact⟨⟨_,_,rfl⟩,aa.same h⟩
  ·have g3:aN now:=by simpa using g3
   have g4:l[i].1.idle=true:=by simpa using g4
   rintro e w3 ⟨rfl,h3⟩;refine⟨rfl,_,w3,afw _ _ _,⟨_,_,rfl⟩,?_⟩
   have e1:cU x (i:Int) now=x.set i ⟨l[i].1.pw,false,0,0⟩:=by
    unfold cU;rw[if_pos ⟨hc,g3,by rw[hq];exact g4⟩,hq];rfl
   rw[e1];refine h3.out ?_ (hv.set ⟨Int.le_refl _,(show(0:Int)<4 by decide)⟩);rw[List.map_set,hx]
 ·refine⟨(sL h hc).mono ?_⟩;rintro e w1 ⟨rfl,rfl⟩;have e1:cU x c now=x:=by unfold cU;rw[if_neg (fun hh=>hc hh.1)]
  rw[e1];exact⟨_,_,rfl,fun _=>⟨⟨_,_,rfl⟩,aa.same h⟩,fun g=>(by simp at g)⟩
theorem Fj {i:Nat} (hi:i<l.length) (hx:l.map Prod.fst=x) (n:Int×Int):(l.set i (l[i].1,n)).map Prod.fst=x:=by
 rw[List.map_set,hx];subst hx;apply List.ext_getElem?;intro j;rw[List.getElem?_set];by_cases e:i=j
 ·subst e;simp[hi]
 ·simp[e]
theorem Rk (h:dr b w F x) (c:Int) (bz:Bool):Cx 116 #[pt b,I c,.bool bz] w fun e w'=>(∃n:Int,e=Z (I n))/\aa (dr b) w w' F x:=by
 refine aiy ?_;rw[t116];by_cases hc:cD x c
 ·obtain⟨i,hi,rfl⟩:=ry hc;obtain⟨l,a,c0,hC,hx,hv⟩:=h.open hi;have hi':i<l.length:=by rw[<-hx]at hi;simpa using hi
  refine⟨(sM hC hi').mono ?_⟩;rintro e w1 ⟨rfl,rfl⟩;refine⟨_,_,rfl,fun g=>(by simp at g),fun _=>⟨_,rfl,_,hC.cell hi' rfl,_,rfl,hC.wr hi' (l[i].1,IntKind.wrap .i64 (l[i].2.1+1),l[i].2.2) (by simp) (by simp[dJ,aI]) fun w2 h2=>⟨fun g=>?_,fun g=>⟨⟨_,rfl⟩,h2.out (Fj hi' hx _) hv⟩⟩⟩⟩;refine⟨_,rfl,_,h2.cell (i:=i) (by simpa using hi') (by simp[dJ];rfl),_,rfl,h2.wr (i:=i) (by simpa using hi') (l[i].1,IntKind.wrap .i64 (l[i].2.1+1),IntKind.wrap .i64 (l[i].2.2+1)) (by simp) (by simp[dJ,aI]) fun w3 h3=>⟨⟨_,rfl⟩,h3.out ?_ hv⟩⟩;rw[List.set_set];exact Fj hi' hx _
 ·refine⟨(sL h hc).mono ?_⟩;rintro e w1 ⟨rfl,rfl⟩;exact⟨_,_,rfl,fun _=>⟨⟨_,rfl⟩,aa.same h⟩,fun g=>(by simp at g)⟩
theorem ZZ (h:dr b w F x) (c:Int):Cx 227 #[pt b,I c] w fun e w'=>(∃n m k:Int,e=Z (.tuple #[I n,I m,I k]))/\aa (dr b) w w' F x:=by
 refine aj7 ?_;rw[t227];by_cases hc:cD x c
 ·obtain⟨i,hi,rfl⟩:=ry hc;obtain⟨l,a,c0,hC,hx,hv⟩:=h.open hi;have hi':i<l.length:=by rw[<-hx]at hi;simpa using hi
  refine⟨(sM hC hi').mono ?_⟩;rintro e w1 ⟨rfl,rfl⟩;refine⟨_,_,rfl,fun g=>(by simp at g),fun _ w2 q1 q2 q3 q4=>?_⟩;have hC:=hC.ae (af.same no q1 q2 q3 q4);refine⟨_,rfl,_,hC.cell hi' rfl,_,rfl,_,hC.cell hi' rfl,_,rfl,hC.wr hi' (l[i].1,l[i].2.1,0) (by simp) (by simp[dJ,aI]) fun w3 h3=>⟨_,rfl,h3.wr (i:=i) (by simpa using hi') (l[i].1,0,0) (by simp) (by simp[dJ,aI]) fun w4 h4=>⟨⟨_,_,_,rfl⟩,h4.out ?_ hv⟩⟩⟩;rw[List.set_set];exact Fj hi' hx _
 ·refine⟨(sL h hc).mono ?_⟩;rintro e w1 ⟨rfl,rfl⟩;exact⟨_,_,rfl,fun _=>⟨⟨_,_,_,rfl⟩,aa.same h⟩,fun g=>(by simp at g)⟩
theorem Rl (h:dr b w F x) (c:Int):Cx 113 #[pt b,I c] w fun e w'=>(∃n m:Int,e=Z (.tuple #[.agg #[.bool (aJ x c).pw,.bool (aJ x c).idle,I (aJ x c).bB,I (aJ x c).since,I n,I m],I (if cD x c then 0 else 3)]))/\af no w w':=by
 refine aiv ?_;rw[t113];refine⟨fun w1 hN=>?_⟩;have hU:=hN.ae no;have h1:=(Frame.ZS b).ae h hU (fun _ _ h=>h);have hB:aE w1 w.heap.size _ _:=hN.aF;by_cases hc:cD x c
 ·obtain⟨i,hi,rfl⟩:=ry hc;obtain⟨l,a,c0,hC,hx,hv⟩:=h1.open hi;have hi':i<l.length:=by rw[<-hx]at hi;simpa using hi
  refine⟨(sM hC hi').mono ?_⟩;rintro e w2 ⟨rfl,rfl⟩;have hq:=zD hx hi';rw[hq,if_pos hc];refine⟨_,_,rfl,fun g=>(by simp at g),fun _=>⟨_,rfl,_,hC.cell hi' rfl,_,hC.cell hi' rfl,_,hC.cell hi' rfl,_,hC.cell hi' rfl,_,hC.cell hi' rfl,_,hC.cell hi' rfl,hB.gF (by simp) fun w3 hW=>?_⟩⟩;have hB3:=hW.aF;exact⟨_,hB3.cell rfl,_,hB3.cell rfl,_,hB3.cell rfl,_,hB3.cell rfl,_,hB3.cell rfl,_,hB3.cell rfl,⟨_,_,rfl⟩,hU.trans hW.U (fun j hj e=>absurd hj (by omega))⟩
 ·refine⟨(sL h1 hc).mono ?_⟩;rintro e w2 ⟨rfl,rfl⟩;have e1:aJ x c=CB:=by unfold aJ;rw[if_neg hc]
  rw[e1,if_neg hc];refine⟨_,_,rfl,fun _=>hB.gF (by simp) fun w3 hW=>?_,fun g=>(by simp at g)⟩;have hB3:=hW.aF;exact⟨_,hB3.cell rfl,_,hB3.cell rfl,_,hB3.cell rfl,_,hB3.cell rfl,_,hB3.cell rfl,_,hB3.cell rfl,⟨0,0,rfl⟩,hU.trans hW.U (fun j hj e=>absurd hj (by omega))⟩
end
def pI (f:Fl):List (Bool×Int):=[(f.1,2),(f.2.2.1,3),(f.2.1||!f.2.2.2.1,0),(f.2.2.2.2.1,4),(f.2.2.2.2.2.1,5),(f.2.2.2.2.2.2.1,6),(f.2.2.2.2.2.2.2.1,7),(f.2.2.2.2.2.2.2.2,8)]
def AM (x:Bool×Int):List Value:=[.bool x.1,I x.2]
theorem ae4 (x:Bool×Int):(AM x).length=2:=rfl
def xp (f:Fl) (i:Nat):Int:=match((pI f).drop i).find? (·.1)with|some x=>x.2|none=>9
theorem am0 (f:Fl):xp f 0=cK f:=by
 obtain⟨a,b,c,d,e,g,h,i,j⟩:=f;unfold xp cK pI;cases a<;>cases c<;>cases b<;>cases d<;>cases e<;>cases g<;>cases h<;>cases i<;>cases j<;>rfl
theorem RM (f:Fl) (W w:World) (hU:af no W w):aA Tryz.prog na yb (Sc ((pI f).flatMap AM) 0) w (zV fun e w'=>e=Z (I (cK f))/\af no W w'):=by
 refine aA.mk ?_;rw[agC];refine⟨bA bf (M:=na) (σ:=Nat) (fun i=>C0 ((pI f).flatMap AM) (i:Int)) (fun i w'=>i<=8/\xp f i=cK f/\af no W w') (fun i _=>8-i) 0 ⟨rfl,rfl,trivial⟩ ⟨by omega,am0 f,hU⟩ ?_⟩;rintro i w1 ⟨hi8,hw,hU⟩;rw[agD];refine⟨fun g=>?_,fun g=>?_⟩
 ·have g:=of_decide_eq_true g;have hi:i<(pI f).length:=by simp only[pI,List.length_cons,List.length_nil];omega
  have hsl:=SL ae4 (l:=pI f) (k:=i) hi;refine⟨⟨by omega,by omega⟩,(pI f)[i].1,(pI f)[i].2,by simpa [AM]using hsl,⟨fun w2 hN=>hN.aF.gF (by simp) fun w3 hW=>⟨_,hW.aF.cell rfl,fun g2=>⟨_,hW.aF.cell rfl,?_,?_⟩,fun g2=>?_⟩⟩⟩
  ·congr 2;rw[<-hw];unfold xp;rw[List.drop_eq_getElem_cons hi,List.find?_cons_of_pos g2]
  ·exact(hU.and (hN.ae no)).trans hW.U (fun j hj e=>absurd hj (by have:=hU.size;omega))
  ·refine⟨i+1,⟨rfl,by rw[aD (by omega)];rfl,trivial⟩,⟨by omega,?_,(hU.and (hN.ae no)).trans hW.U (fun j hj e=>absurd hj (by have:=hU.size;omega))⟩,by omega⟩;rw[<-hw];unfold xp;rw[List.drop_eq_getElem_cons hi,List.find?_cons_of_neg (by rw[g2];decide)]
 ·have g:=of_decide_eq_false g;have:i=8:=by omega
  subst this;refine⟨?_,hU⟩;rw[<-hw];rfl
theorem Z3 (f:Fl) (w:World):Cx 200 #[.agg #[.bool f.1,.bool f.2.1,.bool f.2.2.1,.bool f.2.2.2.1,.bool f.2.2.2.2.1,.bool f.2.2.2.2.2.1,.bool f.2.2.2.2.2.2.1,.bool f.2.2.2.2.2.2.2.1,.bool f.2.2.2.2.2.2.2.2]] w fun e w'=>e=Z (I (cK f))/\af no w w':=by
 refine ajG ?_;rw[t200];refine⟨fun w1 hN=>?_⟩;have hB:aE w1 w.heap.size _ _:=hN.aF;obtain⟨a,b,c,d,e,g,h,i,j⟩:=f;refine⟨_,hB.cell rfl,_,hB.cell rfl,_,hB.cell rfl,fun hb=>?_,fun hb=>?_⟩
 ·have hb:b=false:=hb;subst hb;exact⟨_,hB.cell rfl,_,hB.cell rfl,_,hB.cell rfl,_,hB.cell rfl,_,hB.cell rfl,_,hB.cell rfl,RM (a,false,c,d,e,g,h,i,j) w w1 (hN.ae no)⟩
 ·have hb:b=true:=hb;subst hb;exact⟨_,hB.cell rfl,_,hB.cell rfl,_,hB.cell rfl,_,hB.cell rfl,_,hB.cell rfl,RM (a,true,c,d,e,g,h,i,j) w w1 (hN.ae no)⟩
theorem ZL (q:l6) (f:Fl) (w:World):Cx 114 #[.agg #[.bool q.1.pw,.bool q.1.idle,I q.1.bB,I q.1.since,I q.2.1,I q.2.2],.agg #[.bool f.1,.bool f.2.1,.bool f.2.2.1,.bool f.2.2.2.1,.bool f.2.2.2.2.1,.bool f.2.2.2.2.2.1,.bool f.2.2.2.2.2.2.1,.bool f.2.2.2.2.2.2.2.1,.bool f.2.2.2.2.2.2.2.2]] w
  fun e w'=>e=Z (I (ov q.1.pw q.1.idle f))/\af no w w':=by
 refine aiw ?_;rw[t114];refine⟨fun w1 hN1=>⟨fun w2 hN2=>?_⟩⟩;have hB1:=hN2.keep hN1.aF;have hB2:aE w2 w1.heap.size _ _:=hN2.aF;refine⟨_,hB2.cell rfl,_,hB2.cell rfl,_,hB2.cell rfl,_,hB2.cell rfl,_,hB2.cell rfl,_,hB2.cell rfl,_,hB2.cell rfl,_,hB2.cell rfl,_,hB2.cell rfl,⟨(Z3 f w2).mono ?_⟩⟩;rintro e w3 ⟨rfl,hU⟩;have hB:=hB1.ae hU id;have hUU:=((hN1.ae no).and (hN2.ae no)).and hU;unfold ov;refine⟨_,rfl,_,hB.cell rfl,fun g=>⟨?_,hUU⟩,fun g=>⟨_,hB.cell rfl,fun g2=>⟨?_,hUU⟩,fun g2=>⟨fun g3=>⟨fun g4=>⟨?_,hUU⟩,fun g4=>⟨?_,hUU⟩⟩,fun g3=>⟨?_,hUU⟩⟩⟩⟩
 ·rw[if_pos g]
 ·rw[if_neg (by rw[g];decide),if_pos g2]
 ·have g4:cK f=9:=by simpa using g4
  rw[if_neg (by rw[g];decide),if_neg (by rw[g2];decide),if_pos (.inr g4)]
 ·have g3:cK f≠0:=by simpa using g3
  have g4:cK f≠9:=by simpa using g4
  rw[if_neg (by rw[g];decide),if_neg (by rw[g2];decide),if_neg (by simp[g3,g4])]
 ·have g3:cK f=0:=by simpa using g3
  rw[if_neg (by rw[g];decide),if_neg (by rw[g2];decide),if_pos (.inl g3)]
def mn:l6:=(⟨false,false,0,0⟩,0,0)
def pR:l6:=(⟨true,false,0,0⟩,0,0)
theorem ZK (n:Nat) (hn:1<=n/\n<=64) (w:World):Cx 54 #[I (n:Int)] w fun e w'=>∃b F,e=Z (.tuple #[pt b,I 0])/\dr b w' F (List.replicate n ⟨true,false,0,0⟩)/\af no w w'/\∀i,F i->w.heap.size<=i:=by
 refine u54 ?_;rw[t54];refine⟨fun _=>⟨fun g=>?_,fun _=>?_⟩,fun g=>?_⟩
 ·have:=of_decide_eq_true g;omega
 ·obtain⟨w1,hr,hN1⟩:=run_mk elC w (n:=n) (by omega) (by omega) .i64 .i64 (f:=dJ) (x0:=mn) yW rfl;refine⟨_,_,_,w1,hr,⟨fun w2 hN2=>?_⟩⟩
  have hH:nZ w1.heap.size w2 (fun i=>i=w1.heap.size∨aL (some ⟨w.heap.size,0,none⟩) i) (List.replicate n mn,(some ⟨w.heap.size,0,none⟩,n)):=by
   refine⟨by simpa using hN2.aF,?_,?_,fun i=>Iff.rfl⟩
   ·have hS:Sl w1 226 6 (some ⟨w.heap.size,0,none⟩) n n ((List.replicate n mn).flatMap dJ):=Sl.new hN1 (by rw[SK yW];simp) (by unfold maxLen;omega);have:=hS.ae (hN2.ae no) (fun _ _ h=>h);simpa using this
   ·rintro⟨a,ha,hb⟩;cases ha;have:=hN1.size;simp only at hb;omega
  have hU:af no w w2:=(hN1.ae no).and (hN2.ae no);have hsz:=hN1.size;generalize w1.heap.size=b at hH hsz;have hC:gG b w2 w2 (fun i=>i=b∨aL (some ⟨w.heap.size,0,none⟩) i) (List.replicate n mn) ⟨w.heap.size,0,none⟩ n:=aa.same hH
  refine⟨_,rfl,_,_,_,hC.ai.cell rfl,⟨bA bf (M:=va) (σ:=Nat) (fun i=>Ds (some ⟨b,0,none⟩) (n:Int) (i:Int))
   (fun i w'=>i<=n/\gG b w2 w' (fun i=>i=b∨aL (some ⟨w.heap.size,0,none⟩) i) (List.replicate i pR++List.replicate (n-i) mn) ⟨w.heap.size,0,none⟩ n) (fun i _=>n-i) 0 ⟨rfl,(by show some (Value.int IntKind.i64 (((List.replicate n mn).length:Nat):Int))=some (Value.int IntKind.i64 (n:Int));rw[List.length_replicate]),rfl,trivial⟩ ⟨by omega,by simpa using hC⟩ ?_⟩⟩
  rintro i w3 ⟨hi,hC⟩;rw[ahn];refine⟨fun g=>?_,fun g=>?_⟩
  ·have g:=of_decide_eq_true g;have hlen:(List.replicate i pR++List.replicate (n-i) mn).length=n:=by simp;omega
   have hget:(List.replicate i pR++List.replicate (n-i) mn)[i]'(by rw[hlen];omega)=mn:=by
    rw[List.getElem_append_right (by simp)];simp
   refine⟨_,rfl,_,_,_,hC.ai.cell rfl,⟨by omega,by rw[hlen];omega⟩,_,rfl,?_⟩;rw[Int.toNat_natCast];refine hC.wr (i:=i) (by rw[hlen];omega) pR (by simp) (by rw[hget];rfl) fun w4 h4=>⟨i+1,⟨rfl,rfl,by rw[aD (by omega)];rfl,trivial⟩,⟨by omega,?_⟩,by omega⟩
   have e1:(List.replicate i pR++List.replicate (n-i) mn).set i pR=List.replicate (i+1) pR++List.replicate (n-(i+1)) mn:=by
    rw[List.set_append_right _ _ (by simp),List.length_replicate,Nat.sub_self,show n-i=(n-(i+1))+1 by omega,List.replicate_succ,List.set_cons_zero,List.replicate_succ',List.append_assoc];rfl
   rw[<-e1];exact h4
  ·have g:=of_decide_eq_false g;have:i=n:=by omega
   subst this;obtain⟨F',h1,h2,h3⟩:=hC.out (x:=List.replicate i ⟨true,false,0,0⟩) (by simp[pR]) ⟨fun q hq=>by rw[List.eq_of_mem_replicate hq];decide,by simpa using hn⟩;refine⟨b,F',rfl,h1,hU.trans h2 (fun j hj hf=>?_),fun j hj=>?_⟩
   ·rcases hf with rfl|⟨a,ha,rfl⟩
    ·omega
    ·cases ha;simp only at hj;omega
   ·rcases h3 j hj with h|h
    ·rcases h with rfl|⟨a,ha,rfl⟩
     ·omega
     ·cases ha;exact Nat.le_refl _
    ·exact Nat.le_trans hU.size h
 ·have:=of_decide_eq_true g;omega
end Go.Dav
namespace Go.Dav
open Go.Proofs
structure KQ where
 th:Nat
 rq:Nat
 tm:Nat
 ir:Nat
 rt:Nat
 wk:Nat
 ca:Nat
 st:Nat
 sc:Nat
 ga:Nat
 so:Nat
 dk:Nat
 co:Nat
 me:Nat
 gp:Option Addr
 gc:Nat
 ow:Nat
def Gw (T:TypeId) (p:Option Addr) (c:Nat):Ob (List (Nat×Unit)):=fun w F qs=>(∀i,F i↔aL p i)/\Sl w T 1 p qs.length c (qs.map fx)
instance Frame.lpo (T:TypeId) (p:Option Addr) (c:Nat):Frame (Gw T p c) where
 ae:=fun⟨h1,h2⟩ k hG=>⟨h1,h2.ae k (fun i hi=>hG i ((h1 i).2 hi))⟩
 lt:=fun⟨h1,h2⟩ i hi=>h2.lt i ((h1 i).1 hi)
def ke (p:Option Addr) (c:Nat):Ob Nat:=fun w F n=>∃qs:List (Nat×Unit),qs.length=n/\au (Gw 137 p c) (Fam (At lB)) w F (qs,qs)
instance Frame.DW (p:Option Addr) (c:Nat):Frame (ke p c) where
 ae:=fun⟨qs,r,h⟩ k hG=>⟨qs,r,Frame.star.ae h k hG⟩
 lt:=fun⟨_,_,h⟩=>Frame.star.lt h
abbrev KR:=Nat×BV×BV×Int×Int
def jX (q:KQ) (r:KR):List Value:=[pt q.th,pt q.rq,pt q.tm,pt q.ir,pt q.rt,pt q.wk,pt q.ca,pt q.st,pt q.sc,pt q.ga,pt q.so,pt q.dk,pt q.co,pt q.me,.slice q.gp r.1 q.gc,I (r.1:Int),.int .u64 (mi r.2.1),.int .u64 (mi r.2.2.1),I r.2.2.2.1,I r.2.2.2.2,.map (some q.ow)]
inductive KP where
 | row (q:KQ) (r:KR)
 | th (b:Nat) (s:Int×TL)
 | rq (b:Nat) (s:RS)
 | tm (b:Nat) (s:bG)
 | ir (b:Nat) (s:bj)
 | rt (b:Nat) (s:ch)
 | wk (b:Nat) (s:QL)
 | ca (b:Nat) (s:CS)
 | st (b:Nat) (s:KS)
 | sc (b:Nat) (s:List Int)
 | ga (b:Nat) (s:fD)
 | so (b:Nat) (s:BV×BV)
 | dk (b:Nat) (s:aZ)
 | co (b:Nat) (s:List cG)
 | me (b:Nat) (s:Nat)
 | gv (p:Option Addr) (c:Nat) (n:Nat)
 | ow (b:Nat) (m:jh)
def rS (b:Nat):Ob KP:=fun w F x=>match x with
 | .row q r=>Rw b 94 (jX q) w F r
 | .th b s=>cY b w F s
 | .rq b s=>dh b w F s
 | .tm b s=>di b w F s
 | .ir b s=>bQ b w F s
 | .rt b s=>fM b w F s
 | .wk b s=>dt b w F s
 | .ca b s=>dg b w F s
 | .st b s=>cT b w F s
 | .sc b s=>fg b w F s
 | .ga b s=>dQ b w F s
 | .so b s=>iI b w F s
 | .dk b s=>b7 b w F s
 | .co b s=>dr b w F s
 | .me b s=>iH b w F s
 | .gv p c n=>ke p c w F n
 | .ow b m=>aS b (Value.int .i64) w F m
instance Frame.kpo (b:Nat):Frame (rS b) where
 ae:=fun{w w2 F G s} h k hG=>by
  cases s with
  | row q r=>exact(Frame.rw ..).ae (A:=Rw b 94 (jX q)) h k hG
  | th b s=>exact Frame.ae (A:=cY b) h k hG
  | rq b s=>exact Frame.ae (A:=dh b) h k hG
  | tm b s=>exact Frame.ae (A:=di b) h k hG
  | ir b s=>exact Frame.ae (A:=bQ b) h k hG
  | rt b s=>exact Frame.ae (A:=fM b) h k hG
  | wk b s=>exact Frame.ae (A:=dt b) h k hG
  | ca b s=>exact Frame.ae (A:=dg b) h k hG
  | st b s=>exact Frame.ae (A:=cT b) h k hG
  | sc b s=>exact Frame.ae (A:=fg b) h k hG
  | ga b s=>exact Frame.ae (A:=dQ b) h k hG
  | so b s=>exact Frame.ae (A:=iI b) h k hG
  | dk b s=>exact Frame.ae (A:=b7 b) h k hG
  | co b s=>exact Frame.ae (A:=dr b) h k hG
  | me b s=>exact Frame.ae (A:=iH b) h k hG
  | gv p c n=>exact Frame.ae (A:=ke p c) h k hG
  | ow b m=>exact Frame.ae (A:=aS b (Value.int .i64)) h k hG
 lt:=fun{w F s} h=>by
  cases s with
  | row q r=>exact(Frame.rw b 94 (jX q)).lt h
  | th b s=>exact Frame.lt (A:=cY b) h
  | rq b s=>exact Frame.lt (A:=dh b) h
  | tm b s=>exact Frame.lt (A:=di b) h
  | ir b s=>exact Frame.lt (A:=bQ b) h
  | rt b s=>exact Frame.lt (A:=fM b) h
  | wk b s=>exact Frame.lt (A:=dt b) h
  | ca b s=>exact Frame.lt (A:=dg b) h
  | st b s=>exact Frame.lt (A:=cT b) h
  | sc b s=>exact Frame.lt (A:=fg b) h
  | ga b s=>exact Frame.lt (A:=dQ b) h
  | so b s=>exact Frame.lt (A:=iI b) h
  | dk b s=>exact Frame.lt (A:=b7 b) h
  | co b s=>exact Frame.lt (A:=dr b) h
  | me b s=>exact Frame.lt (A:=iH b) h
  | gv p c n=>exact Frame.lt (A:=ke p c) h
  | ow b m=>exact Frame.lt (A:=aS b (Value.int .i64)) h
def gw (q:KQ) (k:K) (bH:List Int) (m:jh):List KP:=[.row q (k.n,k.on,k.ac,k.now,k.lim),.th q.th (k.th),.rq q.rq (k.rq),.tm q.tm (k.tm),.ir q.ir (k.ir),.rt q.rt (k.rt),.wk q.wk (k.wk),.ca q.ca (k.ca),.st q.st (k.st),.sc q.sc (bH),.ga q.ga (k.ga),.so q.so (k.sp),.dk q.dk (k.dk),.co q.co (k.co),.me q.me (k.n),.gv q.gp q.gc k.n,.ow q.ow m]
def KF (b:Nat) (q:KQ):Ob K:=fun w F k=>∃bH m,Fam (rS b) w F (gw q k bH m)/\m.1=k.own/\(1<=k.n/\k.n<=64)
def KO (b:Nat):Ob K:=fun w F k=>∃q,KF b q w F k
instance Frame.kf (b:Nat) (q:KQ):Frame (KF b q) where
 ae:=fun⟨bH,m,h,r⟩ k hG=>⟨bH,m,Frame.jx.ae h k hG,r⟩
 lt:=fun⟨_,_,h,_⟩=>Frame.jx.lt h
instance Frame.ko (b:Nat):Frame (KO b) where
 ae:=fun⟨q,h⟩ k hG=>⟨q,(Frame.kf b q).ae h k hG⟩
 lt:=fun⟨q,h⟩=>(Frame.kf b q).lt h
theorem KO.fix {b:Nat} {W w:World} {F:Fp} {k:K} (h:aa (KO b) W w F k):∃q,aa (KF b q) W w F k:=by
 obtain⟨F',⟨q,h1⟩,h2⟩:=h;exact⟨q,F',h1,h2⟩
theorem KF.loose {b:Nat} {q:KQ} {W w:World} {F:Fp} {k:K} (h:aa (KF b q) W w F k):aa (KO b) W w F k:=by
 obtain⟨F',h1,h2⟩:=h;exact⟨F',⟨q,h1⟩,h2⟩
section
variable {b:Nat} {q:KQ} {W w:World} {F:Fp} {k:K}
theorem KF.num (h:aa (KF b q) W w F k):1<=k.n/\k.n<=64:=by
 obtain⟨F',⟨bH,m,_,h2⟩,_⟩:=h;exact h2.2
theorem KF.ai (h:aa (KF b q) W w F k):aE w b (jX q (k.n,k.on,k.ac,k.now,k.lim)) 94:=by
 obtain⟨F',⟨bH,m,h1,_⟩,_⟩:=h;obtain⟨F1,a1,_⟩:=Fam.at h1 (i:=0) (by simp[gw]);exact a1.2
theorem KF.row (h:aa (KF b q) W w F k) (r:KR) (hr:r.1=k.n) {w':World} (hW:jk w w' b (jX q r) 94):aa (KF b q) W w' F {k with on:=r.2.1,ac:=r.2.2.1,now:=r.2.2.2.1,lim:=r.2.2.2.2}:=by
 obtain⟨F0,h0,k0⟩:=h.bI;obtain⟨bH,m,h1,hm⟩:=h0;obtain⟨F1,a1,_,a3⟩:=Fam.at h1 (i:=0) (by simp[gw]);have a1':Rw b 94 (jX q) w F1 (k.n,k.on,k.ac,k.now,k.lim):=a1;obtain⟨F2,t1,t2⟩:=a3 w' (.row q r) (a1'.dZ (s':=r) hW.U hW.aF);refine k0 _ _ ⟨F2,⟨bH,m,?_,hm⟩,t2⟩;obtain⟨n,on,ac,now,lim⟩:=r;simp only at hr;subst hr;exact t1
theorem KF.th (h:aa (KF b q) W w F k):∃F1,cY q.th w F1 k.th/\∀w' s',aa (cY q.th) w w' F1 s'->aa (KF b q) W w' F {k with th:=s'}:=by
 obtain⟨F0,h0,k0⟩:=h.bI;obtain⟨bH,m,h1,hm⟩:=h0;obtain⟨F1,a1,_,a3⟩:=Fam.at h1 (i:=1) (by simp[gw]);refine⟨F1,a1,fun w' s' hT=>k0 _ _ ?_⟩;obtain⟨F2,t1,t2⟩:=a3 w' (.th q.th s') hT;exact⟨F2,⟨bH,m,t1,hm⟩,t2⟩
theorem KF.rq (h:aa (KF b q) W w F k):∃F1,dh q.rq w F1 k.rq/\∀w' s',aa (dh q.rq) w w' F1 s'->aa (KF b q) W w' F {k with rq:=s'}:=by
 obtain⟨F0,h0,k0⟩:=h.bI;obtain⟨bH,m,h1,hm⟩:=h0;obtain⟨F1,a1,_,a3⟩:=Fam.at h1 (i:=2) (by simp[gw]);refine⟨F1,a1,fun w' s' hT=>k0 _ _ ?_⟩;obtain⟨F2,t1,t2⟩:=a3 w' (.rq q.rq s') hT;exact⟨F2,⟨bH,m,t1,hm⟩,t2⟩
theorem KF.tm (h:aa (KF b q) W w F k):∃F1,di q.tm w F1 k.tm/\∀w' s',aa (di q.tm) w w' F1 s'->aa (KF b q) W w' F {k with tm:=s'}:=by
 obtain⟨F0,h0,k0⟩:=h.bI;obtain⟨bH,m,h1,hm⟩:=h0;obtain⟨F1,a1,_,a3⟩:=Fam.at h1 (i:=3) (by simp[gw]);refine⟨F1,a1,fun w' s' hT=>k0 _ _ ?_⟩;obtain⟨F2,t1,t2⟩:=a3 w' (.tm q.tm s') hT;exact⟨F2,⟨bH,m,t1,hm⟩,t2⟩
theorem KF.ir (h:aa (KF b q) W w F k):∃F1,bQ q.ir w F1 k.ir/\∀w' s',aa (bQ q.ir) w w' F1 s'->aa (KF b q) W w' F {k with ir:=s'}:=by
 obtain⟨F0,h0,k0⟩:=h.bI;obtain⟨bH,m,h1,hm⟩:=h0;obtain⟨F1,a1,_,a3⟩:=Fam.at h1 (i:=4) (by simp[gw]);refine⟨F1,a1,fun w' s' hT=>k0 _ _ ?_⟩;obtain⟨F2,t1,t2⟩:=a3 w' (.ir q.ir s') hT;exact⟨F2,⟨bH,m,t1,hm⟩,t2⟩
theorem KF.rt (h:aa (KF b q) W w F k):∃F1,fM q.rt w F1 k.rt/\∀w' s',aa (fM q.rt) w w' F1 s'->aa (KF b q) W w' F {k with rt:=s'}:=by
 obtain⟨F0,h0,k0⟩:=h.bI;obtain⟨bH,m,h1,hm⟩:=h0;obtain⟨F1,a1,_,a3⟩:=Fam.at h1 (i:=5) (by simp[gw]);refine⟨F1,a1,fun w' s' hT=>k0 _ _ ?_⟩;obtain⟨F2,t1,t2⟩:=a3 w' (.rt q.rt s') hT;exact⟨F2,⟨bH,m,t1,hm⟩,t2⟩
theorem KF.wk (h:aa (KF b q) W w F k):∃F1,dt q.wk w F1 k.wk/\∀w' s',aa (dt q.wk) w w' F1 s'->aa (KF b q) W w' F {k with wk:=s'}:=by
 obtain⟨F0,h0,k0⟩:=h.bI;obtain⟨bH,m,h1,hm⟩:=h0;obtain⟨F1,a1,_,a3⟩:=Fam.at h1 (i:=6) (by simp[gw]);refine⟨F1,a1,fun w' s' hT=>k0 _ _ ?_⟩;obtain⟨F2,t1,t2⟩:=a3 w' (.wk q.wk s') hT;exact⟨F2,⟨bH,m,t1,hm⟩,t2⟩
theorem KF.ca (h:aa (KF b q) W w F k):∃F1,dg q.ca w F1 k.ca/\∀w' s',aa (dg q.ca) w w' F1 s'->aa (KF b q) W w' F {k with ca:=s'}:=by
 obtain⟨F0,h0,k0⟩:=h.bI;obtain⟨bH,m,h1,hm⟩:=h0;obtain⟨F1,a1,_,a3⟩:=Fam.at h1 (i:=7) (by simp[gw]);refine⟨F1,a1,fun w' s' hT=>k0 _ _ ?_⟩;obtain⟨F2,t1,t2⟩:=a3 w' (.ca q.ca s') hT;exact⟨F2,⟨bH,m,t1,hm⟩,t2⟩
theorem KF.st (h:aa (KF b q) W w F k):∃F1,cT q.st w F1 k.st/\∀w' s',aa (cT q.st) w w' F1 s'->aa (KF b q) W w' F {k with st:=s'}:=by
 obtain⟨F0,h0,k0⟩:=h.bI;obtain⟨bH,m,h1,hm⟩:=h0;obtain⟨F1,a1,_,a3⟩:=Fam.at h1 (i:=8) (by simp[gw]);refine⟨F1,a1,fun w' s' hT=>k0 _ _ ?_⟩;obtain⟨F2,t1,t2⟩:=a3 w' (.st q.st s') hT;exact⟨F2,⟨bH,m,t1,hm⟩,t2⟩
theorem KF.sc (h:aa (KF b q) W w F k):∃F1 bH,fg q.sc w F1 bH/\∀w' s',aa (fg q.sc) w w' F1 s'->aa (KF b q) W w' F k:=by
 obtain⟨F0,h0,k0⟩:=h.bI;obtain⟨bH,m,h1,hm⟩:=h0;obtain⟨F1,a1,_,a3⟩:=Fam.at h1 (i:=9) (by simp[gw]);refine⟨F1,bH,a1,fun w' s' hT=>k0 _ _ ?_⟩;obtain⟨F2,t1,t2⟩:=a3 w' (.sc q.sc s') hT;exact⟨F2,⟨s',m,t1,hm⟩,t2⟩
theorem KF.ga (h:aa (KF b q) W w F k):∃F1,dQ q.ga w F1 k.ga/\∀w' s',aa (dQ q.ga) w w' F1 s'->aa (KF b q) W w' F {k with ga:=s'}:=by
 obtain⟨F0,h0,k0⟩:=h.bI;obtain⟨bH,m,h1,hm⟩:=h0;obtain⟨F1,a1,_,a3⟩:=Fam.at h1 (i:=10) (by simp[gw]);refine⟨F1,a1,fun w' s' hT=>k0 _ _ ?_⟩;obtain⟨F2,t1,t2⟩:=a3 w' (.ga q.ga s') hT;exact⟨F2,⟨bH,m,t1,hm⟩,t2⟩
theorem KF.so (h:aa (KF b q) W w F k):∃F1,iI q.so w F1 k.sp/\∀w' s',aa (iI q.so) w w' F1 s'->aa (KF b q) W w' F {k with sp:=s'}:=by
 obtain⟨F0,h0,k0⟩:=h.bI;obtain⟨bH,m,h1,hm⟩:=h0;obtain⟨F1,a1,_,a3⟩:=Fam.at h1 (i:=11) (by simp[gw]);refine⟨F1,a1,fun w' s' hT=>k0 _ _ ?_⟩;obtain⟨F2,t1,t2⟩:=a3 w' (.so q.so s') hT;exact⟨F2,⟨bH,m,t1,hm⟩,t2⟩
theorem KF.dk (h:aa (KF b q) W w F k):∃F1,b7 q.dk w F1 k.dk/\∀w' s',aa (b7 q.dk) w w' F1 s'->aa (KF b q) W w' F {k with dk:=s'}:=by
 obtain⟨F0,h0,k0⟩:=h.bI;obtain⟨bH,m,h1,hm⟩:=h0;obtain⟨F1,a1,_,a3⟩:=Fam.at h1 (i:=12) (by simp[gw]);refine⟨F1,a1,fun w' s' hT=>k0 _ _ ?_⟩;obtain⟨F2,t1,t2⟩:=a3 w' (.dk q.dk s') hT;exact⟨F2,⟨bH,m,t1,hm⟩,t2⟩
theorem KF.co (h:aa (KF b q) W w F k):∃F1,dr q.co w F1 k.co/\∀w' s',aa (dr q.co) w w' F1 s'->aa (KF b q) W w' F {k with co:=s'}:=by
 obtain⟨F0,h0,k0⟩:=h.bI;obtain⟨bH,m,h1,hm⟩:=h0;obtain⟨F1,a1,_,a3⟩:=Fam.at h1 (i:=13) (by simp[gw]);refine⟨F1,a1,fun w' s' hT=>k0 _ _ ?_⟩;obtain⟨F2,t1,t2⟩:=a3 w' (.co q.co s') hT;exact⟨F2,⟨bH,m,t1,hm⟩,t2⟩
theorem KF.me (h:aa (KF b q) W w F k):∃F1,iH q.me w F1 k.n/\∀w',aa (iH q.me) w w' F1 k.n->aa (KF b q) W w' F k:=by
 obtain⟨F0,h0,k0⟩:=h.bI;obtain⟨bH,m,h1,hm⟩:=h0;obtain⟨F1,a1,_,a3⟩:=Fam.at h1 (i:=14) (by simp[gw]);refine⟨F1,a1,fun w' hT=>k0 _ _ ?_⟩;obtain⟨F2,t1,t2⟩:=a3 w' (.me q.me k.n) hT;exact⟨F2,⟨bH,m,t1,hm⟩,t2⟩
theorem KF.DW (h:aa (KF b q) W w F k):∃F1,ke q.gp q.gc w F1 k.n/\∀w',aa (ke q.gp q.gc) w w' F1 k.n->aa (KF b q) W w' F k:=by
 obtain⟨F0,h0,k0⟩:=h.bI;obtain⟨bH,m,h1,hm⟩:=h0;obtain⟨F1,a1,_,a3⟩:=Fam.at h1 (i:=15) (by simp[gw]);refine⟨F1,a1,fun w' hT=>k0 _ _ ?_⟩;obtain⟨F2,t1,t2⟩:=a3 w' (.gv q.gp q.gc k.n) hT;exact⟨F2,⟨bH,m,t1,hm⟩,t2⟩
theorem KF.own (h:aa (KF b q) W w F k):∃F1 n,aS q.ow (Value.int .i64) w F1 (k.own,n)/\∀w' (m':jh),aa (aS q.ow (Value.int .i64)) w w' F1 m'->aa (KF b q) W w' F {k with own:=m'.1}:=by
 obtain⟨F0,h0,k0⟩:=h.bI;obtain⟨bH,m,h1,hm⟩:=h0;obtain⟨F1,a1,_,a3⟩:=Fam.at h1 (i:=16) (by simp[gw]);have a1':aS q.ow (Value.int .i64) w F1 (k.own,m.2):=by rw[<-hm.1];exact a1
 refine⟨F1,m.2,a1',fun w' m' hT=>k0 _ _ ?_⟩;obtain⟨F2,t1,t2⟩:=a3 w' (.ow q.ow m') hT;exact⟨F2,⟨bH,m',t1,rfl,hm.2⟩,t2⟩
end
end Go.Dav
namespace Go.Dav
open Go.Proofs
theorem aa.i7 {σ:Type} {A:Ob σ} {W w:World} {F:Fp} {s:σ} (h:aa A W w F s) (hT:Tab W) (h0:¬F 0):Tab w:=by
 obtain⟨F',_,hU,_⟩:=h;refine Cells.ae hT fun a ha=>?_;cases ha;obtain⟨a',ha',hc⟩:=hT 0 _ (by rfl);cases ha';have:=ou hc;rw[vg]at this;exact hU.ai _ this h0
abbrev Lb (p:Nat) (T:TypeId):Ob (List Value):=Rw p T (fun s=>s)
theorem bE {σ:Type} {A:Ob σ} [Frame A] {p:Nat} {T:TypeId} {W w:World} {F:Fp} {s:σ} {l:List Value} (h:aa (au A (Lb p T)) W w F (s,l)):aE w p l T:=by
 obtain⟨F2,hR,_⟩:=h.right;exact hR.ai
theorem il {σ:Type} {A:Ob σ} [Frame A] {p:Nat} {T:TypeId} {W w:World} {F:Fp} {s:σ} {l vs:List Value} (h:aa (au A (Lb p T)) W w F (s,l)) (hl:vs.length=l.length) {K:World->Prop} (hK:∀w',aa (au A (Lb p T)) W w' F (s,vs)->K w'):Wr w ⟨p,0,none⟩ vs K:=by
 obtain⟨F2,hR,kR⟩:=h.right;refine hR.ai.gF (by simp only;omega) fun w' hW=>hK w' (kR w' vs (hR.dZ hW.U ?_));have e:aI l 0 vs=vs:=by simp[aI,hl]
 have:=hW.aF;simp only at this
 rwa [e]at this
section
variable {b:Nat} {W w:World} {F:Fp} {k:K}
theorem KS.fix {p:Nat} {T:TypeId} {l:List Value} (h:aa (au (KO b) (Lb p T)) W w F (k,l)):∃q F1,KF b q w F1 k/\aa (KF b q) w w F1 k/\∀w' k',aa (KF b q) w w' F1 k'->aa (au (KO b) (Lb p T)) W w' F (k',l):=by
 obtain⟨F1,⟨q,h1⟩,k1⟩:=h.left;exact⟨q,F1,h1,aa.same h1,fun w' k' hT=>k1 _ _ (KF.loose hT)⟩
theorem acH (h:aa (KO b) W w F k) (c:Int):Cx 152 #[pt b,I c] w fun e w'=>e=Z (I (nL k c))/\w'=w:=by
 obtain⟨q,hq⟩:=KO.fix h;have hB:=KF.ai hq;refine aja ?_;rw[t152];unfold nL;refine⟨fun g1=>⟨_,rfl,_,hB.cell rfl,fun g2=>?_,fun g2=>⟨_,rfl,_,hB.cell rfl,⟨(iR k.ac c w).mono ?_⟩⟩⟩,fun g1=>?_⟩
 ·have g2:=of_decide_eq_true g2;rw[if_neg (by simp only at g2;omega)];exact⟨rfl,rfl⟩
 ·have g1:=of_decide_eq_false g1;have g2:=of_decide_eq_false g2;rintro e w1 ⟨rfl,rfl⟩;rw[if_pos ⟨by omega,by simp only at g2;omega⟩];refine⟨_,rfl,fun g=>?_,fun g=>?_⟩
  ·have g:hs k.ac c=false:=by simpa using g
   rw[g];exact⟨rfl,rfl⟩
  ·have g:hs k.ac c=true:=by simpa using g
   rw[g];exact⟨rfl,rfl⟩
 ·have g1:=of_decide_eq_true g1;rw[if_neg (by omega)];exact⟨rfl,rfl⟩
theorem ach (hTab:Tab W) (h0:¬F 0) (h:aa (KO b) W w F k) (c n:Int):Cx 153 #[pt b,I c,I n] w fun e w'=>e=Z (.tuple #[I (vk k c n).1,I (vk k c n).2])/\aa (KO b) W w' F (np k c n):=by
 obtain⟨q,hq⟩:=KO.fix h;have hB:=KF.ai hq;refine ajb ?_;rw[t153];refine⟨_,rfl,_,hB.cell rfl,⟨(Eb k.now n w).mono ?_⟩⟩;rintro e w1 ⟨rfl,rfl⟩;unfold vk np;refine⟨_,_,rfl,fun g=>?_,fun g=>?_⟩
 ·have g:(aP k.now n).2≠0:=by simpa using g
  rw[if_neg g,if_neg g];exact⟨rfl,h⟩
 ·have g:(aP k.now n).2=0:=by simpa using g
  rw[if_pos g,if_pos g];obtain⟨F1,hA,kA⟩:=KF.tm hq;refine⟨_,rfl,_,hB.av rfl,⟨(Xm (h.i7 hTab h0) hA c _).mono ?_⟩⟩;rintro e w2 ⟨rfl,hT⟩;exact⟨_,_,rfl,rfl,KF.loose (kA _ _ hT)⟩
theorem Ac (hTab:Tab W) (h0:¬F 0) (h:aa (KO b) W w F k) (id near:Int):Cx 126 #[pt b,I id,I near] w fun e w'=>e=Z (.tuple #[])/\aa (KO b) W w' F (fU k id near):=by
 obtain⟨q,hq⟩:=KO.fix h;have hB:=KF.ai hq;obtain⟨F1,hA,_⟩:=KF.th hq;refine aiJ ?_;rw[t126];refine⟨_,rfl,_,hB.av rfl,⟨(te hA id).mono ?_⟩⟩;rintro e w1 ⟨rfl,hU1⟩;refine⟨_,_,_,_,_,_,_,rfl,⟨fun w2 hN=>?_⟩⟩;have hS:aa (au (KO b) (Lb w1.heap.size 250)) W w2 F (k,[I 0,.int .u64 0,I 0,.bool false,.bool false,I 0]):=(h.ae hU1).add (hN.ae no) (Rw.new hN rfl) (fun i hi=>Nat.le_of_eq hi.symm);generalize w1.heap.size=p at hS⊢;refine il hS (by rfl) fun w3 hS=>?_;intro w4 q1 q2 q3 q4;replace hS:=hS.ae (af.same no q1 q2 q3 q4);obtain⟨q4,F4,_,hK4,kK4⟩:=KS.fix hS;have hB4:=KF.ai hK4;obtain⟨F5,hA5,kA5⟩:=KF.th hK4;refine⟨_,(bE hS).cell rfl,_,rfl,_,hB4.cell rfl,⟨(Rq (hS.i7 hTab h0) _ _ near).mono ?_⟩⟩;rintro e w5 ⟨rfl,rfl⟩;refine⟨_,_,_,rfl,_,rfl,_,hB4.av rfl,⟨(Wa hA5 id _ _).mono ?_⟩⟩;rintro e w6 ⟨rfl,hT6⟩;replace hS:=kK4 _ _ (kA5 _ _ hT6);refine⟨_,rfl,fun w7 r1 r2 r3 r4=>?_⟩;replace hS:=hS.ae (af.same no r1 r2 r3 r4);obtain⟨q7,F7,_,hK7,kK7⟩:=KS.fix hS;have hB7:=KF.ai hK7;obtain⟨F8,hA8,kA8⟩:=KF.rq hK7;refine⟨_,rfl,_,hB7.av rfl,_,(bE hS).cell rfl,⟨(WD hA8 _ _ id).mono ?_⟩⟩;rintro e w8 ⟨rfl,hT8⟩;exact⟨_,rfl,rfl,(kK7 _ _ (kA8 _ _ hT8)).drop⟩
theorem UJ (hTab:Tab W) (h0:¬F 0) (h:aa (KO b) W w F k) (id:Int):Cx 130 #[pt b,I id] w fun e w'=>e=Z (.tuple #[])/\aa (KO b) W w' F (dU k id):=by
 obtain⟨q,hq⟩:=KO.fix h;have hB:=KF.ai hq;obtain⟨F1,hA,_⟩:=KF.th hq;refine aiN ?_;rw[t130];refine⟨_,rfl,_,hB.av rfl,⟨(te hA id).mono ?_⟩⟩;rintro e w1 ⟨rfl,hU1⟩;refine⟨_,_,_,_,_,_,_,rfl,⟨fun w2 hN=>?_⟩⟩;have hS:aa (au (KO b) (Lb w1.heap.size 250)) W w2 F (k,[I 0,.int .u64 0,I 0,.bool false,.bool false,I 0]):=(h.ae hU1).add (hN.ae no) (Rw.new hN rfl) (fun i hi=>Nat.le_of_eq hi.symm);generalize w1.heap.size=p at hS⊢;refine il hS (by rfl) fun w3 hS=>?_;intro w4 q1 q2 q3 q4;replace hS:=hS.ae (af.same no q1 q2 q3 q4);obtain⟨q4,F4,_,hK4,kK4⟩:=KS.fix hS;have hB4:=KF.ai hK4;have hL:=bE hS;unfold dU;refine⟨_,hL.cell rfl,fun g=>⟨_,rfl,_,hB4.cell rfl,_,hL.cell rfl,_,hL.cell rfl,_,hL.cell rfl,⟨(XV k.ac (0,(bN k id).2.1,(bN k id).2.2.1,(bN k id).2.2.2.1) w4).mono ?_⟩⟩,fun g=>?_⟩
 ·have g:(bN k id).2.2.2.2.1=false:=g;rintro e w5 ⟨rfl,hU5⟩;replace hS:=hS.ae hU5;refine⟨_,rfl,fun g2=>?_,fun g2=>?_⟩
  ·have g2:xo k (bN k id)=false:=by unfold xo;simpa using g2
   rw[g,g2];exact⟨rfl,hS.drop⟩
  ·have g2:xo k (bN k id)=true:=by unfold xo;simpa using g2
   rw[g,g2];obtain⟨q5,F5,_,hK5,kK5⟩:=KS.fix hS;have hB5:=KF.ai hK5;obtain⟨F6,hA6,kA6⟩:=KF.rq hK5;refine⟨_,rfl,_,hB5.av rfl,⟨(wR hA6 id).mono ?_⟩⟩;rintro e w6 ⟨rfl,hT6⟩;replace hS:=kK5 _ _ (kA6 _ _ hT6);refine⟨_,rfl,_,(bE hS).cell rfl,⟨(Ac hTab h0 hS.drop id _).mono ?_⟩⟩;rintro e w7 ⟨rfl,hT7⟩;exact⟨rfl,rfl,hT7⟩
 ·have g:(bN k id).2.2.2.2.1=true:=g;rw[g];exact⟨rfl,hS.drop⟩
theorem UL (h:aa (KO b) W w F k) (t:Int):Cx 133 #[pt b,I t] w fun e w'=>e=Z (.tuple #[])/\aa (KO b) W w' F (tS k t):=by
 obtain⟨q,hq⟩:=KO.fix h;have hB:=KF.ai hq;obtain⟨F1,hA,kA⟩:=KF.tm hq;refine aiQ ?_;rw[t133];refine⟨_,rfl,_,hB.av rfl,⟨(FM hA t).mono ?_⟩⟩;rintro e w1 ⟨rfl,hT⟩;have h1:=kA _ _ hT;obtain⟨F2,n,hM,kM⟩:=KF.own h1;obtain⟨w2,hrun,hT2⟩:=ph pB hM t 3 (0:TypeId);exact⟨_,rfl,_,rfl,_,(KF.ai h1).cell rfl,w2,hrun,rfl,KF.loose (kM _ _ hT2)⟩
theorem UO (hTab:Tab W) (h0:¬F 0) (h:aa (KO b) W w F k) (id:Int):Cx 134 #[pt b,I id] w fun e w'=>e=Z (.tuple #[])/\aa (KO b) W w' F (pF k id):=by
 obtain⟨q,hq⟩:=KO.fix h;have hB:=KF.ai hq;obtain⟨F1,hA,kA⟩:=KF.th hq;refine aiR ?_;rw[t134];refine⟨_,rfl,_,hB.av rfl,⟨(amG hA id).mono ?_⟩⟩;rintro e w1 ⟨rfl,hT⟩;have h1:=kA _ _ hT;obtain⟨F2,hA2,_⟩:=KF.th h1;refine⟨_,_,rfl,_,rfl,_,(KF.ai h1).av rfl,⟨(te hA2 id).mono ?_⟩⟩;rintro e w2 ⟨rfl,hU2⟩;refine⟨_,_,_,_,_,_,_,rfl,⟨fun w3 hN=>?_⟩⟩;have hS:aa (au (KO b) (Lb w2.heap.size 250)) W w3 F (_,[I 0,.int .u64 0,I 0,.bool false,.bool false,I 0]):=((KF.loose h1).ae hU2).add (hN.ae no) (Rw.new hN rfl) (fun i hi=>Nat.le_of_eq hi.symm);generalize w2.heap.size=p at hS⊢;refine il hS (by rfl) fun w4 hS=>?_;refine⟨_,(bE hS).cell rfl,⟨(Ac hTab h0 hS.drop id _).mono ?_⟩⟩;rintro e w5 ⟨rfl,hT5⟩;exact⟨rfl,rfl,hT5⟩
theorem af6 (x:TX) (p:Int) (m:BV):0<=(cP x p m).1:=by
 unfold cP;split
 ·unfold cQ;split
  ·simp only;omega
  ·exact Int.le_refl _
 ·exact Int.le_refl _
theorem acM (hTab:Tab W) (h0:¬F 0) (hn:1<=k.n) (h:aa (KO b) W w F k) (p:Int) (m:BV):Cx 65 #[pt b,I p,.int .u64 (mi m)] w fun e w'=>e=Z (.tuple #[I (xd k p m).1,I (xd k p m).2])/\aa (KO b) W w' F (lj k p m):=by
 obtain⟨q,hq⟩:=KO.fix h;have hB:=KF.ai hq;obtain⟨F1,hA,kA⟩:=KF.th hq;refine u65 ?_;rw[t65];refine⟨_,rfl,_,hB.av rfl,⟨(aga hA (h.i7 hTab h0) p m).mono ?_⟩⟩;rintro e w1 ⟨rfl,hT⟩;have h1:=kA _ _ hT;unfold xd lj;refine⟨_,_,rfl,fun g=>?_,fun g=>?_⟩
 ·have g:(cP k.th p m).2=0:=by simpa using g
  rw[if_pos g];have hp:=af6 k.th p m;have et:Int.tmod (cP k.th p m).1 ((k.n:Nat):Int)=(cP k.th p m).1%(k.n:Int):=Int.tmod_eq_emod_of_nonneg hp;refine⟨_,rfl,_,(KF.ai h1).cell rfl,(show((k.n:Nat):Int)≠0 by omega),⟨?_⟩⟩;refine Calls.mono (show Cx 126 #[pt b,I (cP k.th p m).1,I (Int.tmod (cP k.th p m).1 ((k.n:Nat):Int))] w1 _ from Ac hTab h0 (KF.loose h1) (cP k.th p m).1 _) ?_;rintro e w2 ⟨rfl,hT2⟩;rw[et]at hT2;exact⟨rfl,rfl,hT2⟩
 ·have g:¬(cP k.th p m).2=0:=by simpa using g
  rw[if_neg g];exact⟨rfl,KF.loose h1⟩
theorem acp (h:aa (KO b) W w F k) (id:Int):Cx 162 #[pt b,I id] w fun e w'=>e=Z (I (yS k id))/\aa (KO b) W w' F (nv k id):=by
 obtain⟨q,hq⟩:=KO.fix h;have hB:=KF.ai hq;obtain⟨F1,hA,kA⟩:=KF.tm hq;obtain⟨F2,n,hM,_⟩:=KF.own hq;refine ajk ?_;rw[t162];refine⟨_,rfl,_,hB.av rfl,⟨(Gb hA id).mono ?_⟩⟩;rintro e w1 ⟨rfl,rfl⟩;unfold yS nv;refine⟨_,_,rfl,fun g=>?_,fun g=>?_⟩
 ·have g:(iE k.tm id).2=false:=by simpa using g
  rw[g];exact⟨rfl,h⟩
 ·have g:(iE k.tm id).2=true:=by simpa using g
  rw[if_pos g,if_pos g];have hlk:=iz pB hM id false;have e1:((k.own id).map (Value.int .i64)).getD (I 0)=I ((k.own id).getD 0):=by cases k.own id<;>rfl
  simp only[e1]at hlk;refine⟨_,rfl,_,hB.cell rfl,_,hlk,fun g2=>?_,fun g2=>⟨_,rfl,_,hB.av rfl,⟨(FM hA id).mono ?_⟩⟩⟩
  ·have g2:0<(k.own id).getD 0:=of_decide_eq_true g2;rw[if_pos g2,if_pos g2];exact⟨rfl,h⟩
  ·have g2:¬0<(k.own id).getD 0:=of_decide_eq_false g2;rw[if_neg g2,if_neg g2];rintro e w2 ⟨rfl,hT⟩;exact⟨_,rfl,rfl,KF.loose (kA _ _ hT)⟩
theorem acz (h:aa (KO b) W w F k) (id:Int):Cx 163 #[pt b,I id] w fun e w'=>e=Z (.tuple #[I (vX k id).1,I (vX k id).2])/\w'=w:=by
 obtain⟨q,hq⟩:=KO.fix h;have hB:=KF.ai hq;obtain⟨F1,hA,kA⟩:=KF.wk hq;refine ajl ?_;rw[t163];unfold vX;refine⟨fun g1=>⟨fun g2=>?_,fun g2=>⟨_,rfl,_,hB.av rfl,⟨(amQ hA id).mono ?_⟩⟩⟩,fun g1=>?_⟩
 ·rw[if_pos (.inr (of_decide_eq_true g2))];exact⟨rfl,rfl⟩
 ·have g1:=of_decide_eq_false g1;have g2:=of_decide_eq_false g2;rw[if_neg (by omega)];rintro e w1 ⟨rfl,rfl⟩;refine⟨_,rfl,fun g=>?_,fun g=>?_⟩
  ·rw[if_pos g];exact⟨rfl,rfl⟩
  ·rw[if_neg (by rw[g];decide)];exact⟨rfl,rfl⟩
 ·rw[if_pos (.inl (of_decide_eq_true g1))];exact⟨rfl,rfl⟩
theorem acI (h:aa (KO b) W w F k) (n:Int):Cx 164 #[pt b,I n] w fun e w'=>e=Z (I (iW n))/\aa (KO b) W w' F {k with dk:=jC k.dk n}:=by
 obtain⟨q,hq⟩:=KO.fix h;have hB:=KF.ai hq;obtain⟨F1,hA,kA⟩:=KF.dk hq;refine ajm ?_;rw[t164];refine⟨fun g1=>⟨fun g2=>?_,fun g2=>⟨_,rfl,_,hB.av rfl,⟨(abT hA n).mono ?_⟩⟩⟩,fun g1=>?_⟩
 ·have g2:=of_decide_eq_true g2;have e1:iW n=3:=by unfold iW;rw[if_neg (by omega)]
  have e2:jC k.dk n=k.dk:=by unfold jC;rw[if_neg (by omega)]
  rw[e1,e2];exact⟨rfl,h⟩
 ·rintro e w1 ⟨rfl,hT⟩;exact⟨_,rfl,rfl,KF.loose (kA _ _ hT)⟩
 ·have g1:=of_decide_eq_true g1;have e1:iW n=3:=by unfold iW;rw[if_neg (by omega)]
  have e2:jC k.dk n=k.dk:=by unfold jC;rw[if_neg (by omega)]
  rw[e1,e2];exact⟨rfl,h⟩
theorem acE (h:aa (KO b) W w F k) (n:Int):Cx 166 #[pt b,I n] w fun e w'=>e=Z (I (wt n))/\aa (KO b) W w' F (qe k n):=by
 obtain⟨q,hq⟩:=KO.fix h;have hB:=KF.ai hq;refine ajo ?_;rw[t166];unfold qe wt;refine⟨fun g1=>⟨fun g2=>?_,fun g2=>⟨_,rfl,hB.wr (k:=19) (by simp[jX]) fun w1 hW=>?_⟩⟩,fun g1=>?_⟩
 ·rw[if_pos (.inr (of_decide_eq_true g2)),if_neg (by decide)];exact⟨rfl,h⟩
 ·have g1:=of_decide_eq_false g1;have g2:=of_decide_eq_false g2;rw[if_neg (show ¬(n<0∨1073741824<n) by omega),if_pos rfl];exact⟨rfl,KF.loose (KF.row hq (k.n,k.on,k.ac,k.now,n) rfl hW)⟩
 ·rw[if_pos (.inl (of_decide_eq_true g1)),if_neg (by decide)];exact⟨rfl,h⟩
def kW (s:bj) (n:Int):Iq:=if fS n then i0 else gq s n
theorem Tp (k:K) (n:Int):(kW k.ir n).2.2.2=mE k n:=by
 unfold kW mE;split<;>rfl
theorem Tr {b:Nat} {w:World} {F:Fp} {s:bj} (h:bQ b w F s) (n:Int):Cx 248 #[pt b,I n] w fun e w'=>(∃r:Int,e=Z (.tuple #[.agg #[.bool (kW s n).1,.bool (kW s n).2.1,.bool (kW s n).2.2.1,.int .u64 (mi (kW s n).2.2.2)],I r]))/\af no w w':=by
 refine aks ?_;rw[t248];refine⟨fun w1 hN=>?_⟩;have hU:=hN.ae no;have h1:=(inferInstance:Frame (bQ b)).ae h hU (fun _ _ h=>h);refine⟨(DH b n w1).mono ?_⟩;rintro e w2 ⟨⟨hn,rfl⟩|⟨hn,k,rfl,hk,rfl⟩,rfl⟩
 ·have e1:kW s n=i0:=by unfold kW;rw[if_pos hn]
  rw[e1];refine⟨_,_,rfl,fun _=>hN.aF.gF (by simp) fun w3 hW=>?_,fun g=>(by simp at g)⟩;have hB3:=hW.aF;exact⟨_,hB3.cell rfl,_,hB3.cell rfl,_,hB3.cell rfl,_,hB3.cell rfl,⟨_,rfl⟩,hU.trans hW.U (fun j hj e=>absurd hj (by omega))⟩
 ·have e1:kW s (k:Int)=gq s (k:Int):=by unfold kW;rw[if_neg hn]
  rw[e1];refine⟨_,_,rfl,fun g=>(by simp at g),fun _=>⟨_,rfl,_,h1.cell hk rfl,_,h1.cell hk rfl,_,h1.cell hk rfl,_,h1.cell hk rfl,hN.aF.gF (by simp) fun w3 hW=>?_⟩⟩;have hB3:=hW.aF;exact⟨_,hB3.cell rfl,_,hB3.cell rfl,_,hB3.cell rfl,_,hB3.cell rfl,⟨_,rfl⟩,hU.trans hW.U (fun j hj e=>absurd hj (by omega))⟩
theorem Ea (hTab:Tab W) (h0:¬F 0) (h:aa (KO b) W w F k) (n near:Int):Cx 138 #[pt b,I n,I near] w fun e w'=>e=Z (.tuple #[])/\aa (KO b) W w' F (ey k n near):=by
 obtain⟨q,hq⟩:=KO.fix h;have hB:=KF.ai hq;obtain⟨F1,hA,_⟩:=KF.ir hq;refine aiW ?_;rw[t138];refine⟨_,rfl,_,hB.av rfl,⟨(Tr hA n).mono ?_⟩⟩;rintro e w1 ⟨⟨r,rfl⟩,hU1⟩;refine⟨_,_,_,_,_,rfl,⟨fun w2 hN=>?_⟩⟩;have hS:aa (au (KO b) (Lb w1.heap.size 198)) W w2 F (k,[.bool false,.bool false,.bool false,.int .u64 0]):=(h.ae hU1).add (hN.ae no) (Rw.new hN rfl) (fun i hi=>Nat.le_of_eq hi.symm);generalize w1.heap.size=p at hS⊢;refine il hS (by rfl) fun w3 hS=>?_;intro w4 q1 q2 q3 q4;replace hS:=hS.ae (af.same no q1 q2 q3 q4);obtain⟨q4,F4,_,hK4,kK4⟩:=KS.fix hS;have hB4:=KF.ai hK4;obtain⟨F5,hA5,kA5⟩:=KF.rt hK4;refine⟨_,(bE hS).cell rfl,_,rfl,_,hB4.cell rfl,⟨(Rq (hS.i7 hTab h0) _ _ near).mono ?_⟩⟩;rintro e w5 ⟨rfl,rfl⟩;refine⟨_,_,_,rfl,_,rfl,_,hB4.av rfl,⟨(afJ hA5 n _).mono ?_⟩⟩;rintro e w6 ⟨rfl,hT6⟩;have hfin:=(kK4 _ _ (kA5 _ _ hT6)).drop;refine⟨_,rfl,rfl,?_⟩;unfold ey;rw[<-Tp];exact hfin
theorem UF (hTab:Tab W) (h0:¬F 0) (h:aa (KO b) W w F k) (n:Int):Cx 144 #[pt b,I n] w fun e w'=>e=Z (.tuple #[])/\aa (KO b) W w' F (dR k n):=by
 obtain⟨q,hq⟩:=KO.fix h;have hB:=KF.ai hq;obtain⟨F1,hA,_⟩:=KF.ir hq;refine ai2 ?_;rw[t144];refine⟨_,rfl,_,hB.av rfl,⟨(Tr hA n).mono ?_⟩⟩;rintro e w1 ⟨⟨r,rfl⟩,hU1⟩;refine⟨_,_,_,_,_,rfl,⟨fun w2 hN=>?_⟩⟩;have hS:aa (au (KO b) (Lb w1.heap.size 198)) W w2 F (k,[.bool false,.bool false,.bool false,.int .u64 0]):=(h.ae hU1).add (hN.ae no) (Rw.new hN rfl) (fun i hi=>Nat.le_of_eq hi.symm);generalize w1.heap.size=p at hS⊢;refine il hS (by rfl) fun w3 hS=>?_;obtain⟨q3,F3,_,hK3,kK3⟩:=KS.fix hS;have hB3:=KF.ai hK3;obtain⟨F5,hA5,kA5⟩:=KF.rt hK3;refine⟨_,rfl,_,hB3.av rfl,⟨(VQ hA5 n).mono ?_⟩⟩;rintro e w4 ⟨rfl,rfl⟩;refine⟨_,_,rfl,?_⟩;intro w5 q1 q2 q3' q4;replace hS:=hS.ae (af.same no q1 q2 q3' q4);obtain⟨q5,F6,_,hK5,kK5⟩:=KS.fix hS;have hB5:=KF.ai hK5;have hL:=bE hS;refine⟨_,rfl,_,hB5.cell rfl,_,hL.cell rfl,_,hL.cell rfl,⟨(iR (kW k.ir n).2.2.2 (b9 k.rt n).1 w5).mono ?_⟩⟩;rintro e w6 ⟨rfl,rfl⟩;refine⟨_,rfl,hL.cell rfl,hB5.cell rfl,⟨(XV k.ac (0,(kW k.ir n).2.2.2,(b9 k.rt n).1,!hs (kW k.ir n).2.2.2 (b9 k.rt n).1) w6).mono ?_⟩⟩;rintro e w7 ⟨rfl,hU7⟩;replace hS:=hS.ae hU7;rw[Tp];unfold dR;refine⟨_,rfl,fun g=>⟨(Ea hTab h0 hS.drop n _).mono ?_⟩,fun g=>?_⟩
 ·rintro e w8 ⟨rfl,hT8⟩;rw[if_pos g];exact⟨rfl,rfl,hT8⟩
 ·rw[if_neg (by rw[g];decide)];exact⟨rfl,hS.drop⟩
theorem acw (h:aa (KO b) W w F k) (id:Int) (x:Th):Cx 128 #[pt b,I id,.agg #[I x.1,.int .u64 (mi x.2.1),I x.2.2.1,.bool x.2.2.2.1,.bool x.2.2.2.2.1,I x.2.2.2.2.2]] w fun e w'=>e=Z (I (s7 k.th id))/\aa (KO b) W w' F (kF k id x):=by
 refine aiL ?_;rw[t128];refine⟨fun w1 hN=>?_⟩;have h1:=h.ae (hN.ae no);have hL:=hN.aF
 have last:∀(k2:K) (w2:World),aa (KO b) W w2 F k2->aA Tryz.prog rU xN (zi (some ⟨b,0,none⟩) id) w2 (zR fun e w'=>e=Z (I (s7 k2.th id))/\aa (KO b) W w' F {k2 with th:=iN k2.th id}):=by
  intro k2 w2 h2;refine aA.mk ?_;rw[agq];obtain⟨q,hq⟩:=KO.fix h2;have hB:=KF.ai hq;obtain⟨F1,hA,kA⟩:=KF.th hq;refine⟨_,rfl,_,hB.av rfl,⟨(aaJ hA id).mono ?_⟩⟩;rintro e w3 ⟨rfl,hT⟩;exact⟨_,rfl,rfl,KF.loose (kA _ _ hT)⟩
 unfold kF;refine⟨_,hL.cell rfl,fun g=>⟨_,hL.cell rfl,⟨(UL h1 x.2.2.2.2.2).mono ?_⟩⟩,fun g=>?_⟩
 ·rintro e w2 ⟨rfl,h2⟩;rw[if_pos g];exact⟨rfl,last _ _ h2⟩
 ·rw[if_neg (by rw[g];decide)];obtain⟨q,hq⟩:=KO.fix h1;have hB:=KF.ai hq;obtain⟨F1,hA,kA⟩:=KF.rq hq;refine⟨_,rfl,_,hB.av rfl,⟨(wR hA id).mono ?_⟩⟩;rintro e w2 ⟨rfl,hT⟩;exact⟨_,rfl,last _ _ (KF.loose (kA _ _ hT))⟩
theorem acL (hTab:Tab W) (h0:¬F 0) (h:aa (KO b) W w F k) (id:Int) (x:Th) (n:Int):Cx 131 #[pt b,I id,.agg #[I x.1,.int .u64 (mi x.2.1),I x.2.2.1,.bool x.2.2.2.1,.bool x.2.2.2.2.1,I x.2.2.2.2.2],I n] w fun e w'=>e=Z (.tuple #[I (xa k id x n).1,I (xa k id x n).2])/\aa (KO b) W w' F (lg k id x n):=by
 refine aiO ?_;rw[t131];refine⟨fun w1 hN=>?_⟩;have h1:=h.ae (hN.ae no);have hL:=hN.aF;obtain⟨q,hq⟩:=KO.fix h1;have hB:=KF.ai hq;unfold xa lg;refine⟨_,rfl,_,hB.cell rfl,⟨(Eb k.now n w1).mono ?_⟩⟩;rintro e w2 ⟨rfl,rfl⟩;refine⟨_,_,rfl,fun g=>?_,fun g=>?_⟩
 ·have g:(aP k.now n).2≠0:=by simpa using g
  rw[if_neg g,if_neg g];exact⟨rfl,h1⟩
 ·have g:(aP k.now n).2=0:=by simpa using g
  rw[if_pos g,if_pos g]
  have last:∀cc:Int,aA Tryz.prog rV xO (zj (some ⟨b,0,none⟩) id (aP k.now n).1 cc) w2 (zS fun e w'=>e=Z (.tuple #[I (if(cx k.tm cc (aP k.now n).1).2=0 then((cx k.tm cc (aP k.now n).1).1,ui k.th id)else(0,(cx k.tm cc (aP k.now n).1).2)).1,I (if(cx k.tm cc (aP k.now n).1).2=0 then((cx k.tm cc (aP k.now n).1).1,ui k.th id)else(0,(cx k.tm cc (aP k.now n).1).2)).2])/\aa (KO b) W w' F (if(cx k.tm cc (aP k.now n).1).2=0 then{k with tm:=eP k.tm cc (aP k.now n).1,own:=fun j=>if j=(cx k.tm cc (aP k.now n).1).1 then some id else k.own j,rq:=dA k.rq id,th:=lh k.th id (cx k.tm cc (aP k.now n).1).1}else{k with tm:=eP k.tm cc (aP k.now n).1})):=by
   intro cc;refine aA.mk ?_;rw[ags];obtain⟨F1,hA,kA⟩:=KF.tm hq;refine⟨_,rfl,_,hB.av rfl,⟨(Xm (h1.i7 hTab h0) hA cc _).mono ?_⟩⟩;rintro e w3 ⟨rfl,hT3⟩;have h3:=kA _ _ hT3;refine⟨_,_,rfl,fun g2=>?_,fun g2=>?_⟩
   ·have g2:(cx k.tm cc (aP k.now n).1).2≠0:=by simpa using g2
    rw[if_neg g2,if_neg g2];exact⟨rfl,KF.loose h3⟩
   ·have g2:(cx k.tm cc (aP k.now n).1).2=0:=by simpa using g2
    rw[if_pos g2,if_pos g2];obtain⟨F2,nn,hM,kM⟩:=KF.own h3;obtain⟨w4,hrun,hT4⟩:=mQ pB hM (cx k.tm cc (aP k.now n).1).1 id;have h4:=kM _ _ hT4;obtain⟨F3,hA3,kA3⟩:=KF.rq h4;refine⟨_,rfl,_,(KF.ai h3).cell rfl,w4,hrun,_,rfl,_,(KF.ai h4).av rfl,⟨(wR hA3 id).mono ?_⟩⟩;rintro e w5 ⟨rfl,hT5⟩;have h5:=kA3 _ _ hT5;obtain⟨F4,hA4,kA4⟩:=KF.th h5;refine⟨_,rfl,_,rfl,_,(KF.ai h5).av rfl,⟨(afY hA4 id _).mono ?_⟩⟩;rintro e w6 ⟨rfl,hT6⟩;exact⟨_,rfl,rfl,KF.loose (kA4 _ _ hT6)⟩
  refine⟨_,hL.cell rfl,_,rfl,_,hB.cell rfl,⟨(iR k.ac x.2.2.1 w2).mono ?_⟩⟩;rintro e w3 ⟨rfl,rfl⟩;refine⟨_,rfl,fun g2=>⟨_,rfl,_,hB.cell rfl,?_⟩,fun g2=>?_⟩
  ·have g2:hs k.ac x.2.2.1=false:=by simpa using g2
   have e1:fJ k x=(dK k.ac).1:=by unfold fJ;rw[if_neg (by rw[g2];decide)]
   refine⟨(tH k.ac (h1.i7 hTab h0)).mono ?_⟩;rintro e w4 ⟨rfl,rfl⟩;rw[e1];exact⟨_,_,rfl,last _⟩
  ·have g2:hs k.ac x.2.2.1=true:=by simpa using g2
   have e1:fJ k x=x.2.2.1:=by unfold fJ;rw[if_pos g2]
   rw[e1];exact last _
end
end Go.Dav
namespace Go.Dav
open Go.Proofs
def fW (r:Rc):List Value:=[I r.1,I r.2.1,I r.2.2.1,I r.2.2.2.1,I r.2.2.2.2]
def pK (p:Option Addr) (c:Nat):Ob (List Rc):=fun w F rs=>(∀i,F i↔aL p i)/\Sl w 43 5 p rs.length c (rs.flatMap fW)
instance Frame.rcl (p:Option Addr) (c:Nat):Frame (pK p c) where
 ae:=fun⟨h1,h2⟩ k hG=>⟨h1,h2.ae k (fun i hi=>hG i ((h1 i).2 hi))⟩
 lt:=fun⟨h1,h2⟩ i hi=>h2.lt i ((h1 i).1 hi)
def cZ {σ:Type} (A:Ob σ) (W:World) (F:Fp) (s:σ) (rs:List Rc) (e:Ending) (w':World):Prop:=∃p c,e=Z (.slice p rs.length c)/\aa (au A (pK p c)) W w' F (s,rs)
theorem LH {σ:Type} {A:Ob σ} [Frame A] {W w:World} {F:Fp} {s:σ} (h:aa A W w F s) (id eM:Int):Cx 64 #[I id,I eM] w (cZ A W F s (jm (id,eM))):=by
 refine u64 ?_;rw[t64];unfold jm;refine⟨fun g=>⟨fun w1 hN=>?_⟩,fun g=>⟨fun w1 hN=>?_⟩⟩
 ·have g:eM≠0:=by simpa using g
  rw[if_neg g];refine⟨some ⟨w.heap.size,0,none⟩,1,rfl,h.add (hN.ae no) (G:=aL (some ⟨w.heap.size,0,none⟩)) ⟨fun _=>Iff.rfl,Sl.new hN rfl (show(1:Nat)<=maxLen by unfold maxLen;omega)⟩ (fun i ⟨a,ha,hi⟩=>?_)⟩;cases ha;rw[hi];exact Nat.le_refl _
 ·have g:eM=0:=by simpa using g
  rw[if_pos g];refine⟨some ⟨w.heap.size,0,none⟩,1,rfl,h.add (hN.ae no) (G:=aL (some ⟨w.heap.size,0,none⟩)) ⟨fun _=>Iff.rfl,Sl.new hN rfl (show(1:Nat)<=maxLen by unfold maxLen;omega)⟩ (fun i ⟨a,ha,hi⟩=>?_)⟩;cases ha;rw[hi];exact Nat.le_refl _
theorem aeJ {σ:Type} {A:Ob σ} [Frame A] {W w:World} {F:Fp} {s:σ} (h:aa A W w F s) (eM:Int):Cx 61 #[I eM] w (cZ A W F s (df eM)):=by
 refine u61 ?_;rw[t61];refine⟨(LH h 0 eM).mono ?_⟩;rintro e w1 ⟨p,c,rfl,hT⟩;have e1:jm (0,eM)=df eM:=by unfold jm df;simp
 rw[e1]at hT;exact⟨_,_,_,rfl,p,c,rfl,hT⟩
theorem nW {b:Nat} {W w:World} {F:Fp} {k k':K} {rs:List Rc} {x:Int×Int} (h:aa (KO b) W w F k') (e1:k'=k) (e2:rs=jm x):Cx 64 #[I x.1,I x.2] w fun e w'=>∃p n c,e=Z (.slice p n c)/\cZ (KO b) W F k rs (.returned (.slice p n c)) w':=by
 subst e1;subst e2;refine(LH h x.1 x.2).mono ?_;rintro e w1 ⟨p,c,rfl,hT⟩;exact⟨_,_,_,rfl,p,c,rfl,hT⟩
theorem dP {b:Nat} {W w:World} {F:Fp} {k k':K} {rs:List Rc} {x:Int} (h:aa (KO b) W w F k') (e1:k'=k) (e2:rs=df x):Cx 61 #[I x] w fun e w'=>∃p n c,e=Z (.slice p n c)/\cZ (KO b) W F k rs (.returned (.slice p n c)) w':=by
 subst e1;subst e2;refine(aeJ h x).mono ?_;rintro e w1 ⟨p,c,rfl,hT⟩;exact⟨_,_,_,rfl,p,c,rfl,hT⟩
def eR (e:aU):List Value:=[I e.1,I e.2.1,I e.2.2.1,.int .u64 (mi e.2.2.2.1),I e.2.2.2.2]
section
variable {b:Nat} {W w:World} {F:Fp} {k:K}
theorem tC (hTab:Tab W) (h0:¬F 0) (h:aa (KO b) W w F k) (e:aU):Cx 69 #[pt b,.agg (eR e).toArray] w (cZ (KO b) W F (fG k e) (mI k e)):=by
 refine u69 ?_;rw[t69];refine⟨fun w1 hN=>?_⟩;have hS:aa (au (KO b) (Lb w.heap.size 33)) W w1 F (k,eR e):=h.add (hN.ae no) (Rw.new hN rfl) (fun i hi=>Nat.le_of_eq hi.symm);generalize w.heap.size=p at hS⊢;refine⟨_,(bE hS).cell rfl,⟨(acH hS.drop e.2.1).mono ?_⟩⟩;rintro e' w2 ⟨rfl,rfl⟩;refine⟨_,rfl,fun g=>⟨dP hS.drop ?_ ?_⟩,fun g=>?_⟩
 ·have g:nL k e.2.1≠0:=by simpa using g
  unfold fG;rw[if_pos g]
 ·have g:nL k e.2.1≠0:=by simpa using g
  unfold mI;rw[if_pos g]
 ·have g:¬nL k e.2.1≠0:=by simpa using g
  refine⟨_,(bE hS).cell rfl,fun g1=>⟨_,(bE hS).cell rfl,_,(bE hS).cell rfl,⟨(ach hTab h0 hS.drop e.2.1 e.2.2.2.2).mono ?_⟩⟩,fun g1=>?_⟩
  ·have g1:e.1=10:=by simpa using g1
   rintro e' w3 ⟨rfl,hT⟩;exact⟨_,_,rfl,⟨nW (x:=vk k e.2.1 e.2.2.2.2) hT (by unfold fG;rw[if_neg g,if_pos g1]) (by unfold mI;rw[if_neg g,if_pos g1])⟩⟩
  ·have g1:¬e.1=10:=by simpa using g1
   refine⟨fun g2=>?_,fun g2=>?_⟩
   ·have g2:e.1=18:=by simpa using g2
    intro w3 q1 q2 q3 q4;have hS:=hS.ae (af.same no q1 q2 q3 q4);obtain⟨q,F1,_,hK,kK⟩:=KS.fix hS;obtain⟨F2,hA,kA⟩:=KF.wk hK;refine⟨_,rfl,_,(KF.ai hK).av rfl,_,(bE hS).cell rfl,⟨(XS hA (hS.i7 hTab h0) e.2.1).mono ?_⟩⟩;rintro e' w4 ⟨rfl,hT⟩;exact⟨_,_,rfl,⟨nW (x:=qn k.wk e.2.1) (kK _ _ (kA _ _ hT)).drop (by unfold fG;rw[if_neg g,if_neg g1,if_pos g2]) (by unfold mI;rw[if_neg g,if_neg g1,if_pos g2])⟩⟩
   have g2:¬e.1=18:=by simpa using g2
   refine⟨fun g3=>?_,fun g3=>?_⟩
   ·have g3:e.1=20:=by simpa using g3
    intro w3 q1 q2 q3 q4;have hS:=hS.ae (af.same no q1 q2 q3 q4);obtain⟨q,F1,_,hK,kK⟩:=KS.fix hS;obtain⟨F2,hA,kA⟩:=KF.ca hK;refine⟨_,rfl,_,(KF.ai hK).av rfl,_,(bE hS).cell rfl,⟨(ZX hA (hS.i7 hTab h0) e.2.1).mono ?_⟩⟩;rintro e' w4 ⟨rfl,hT⟩;exact⟨_,_,rfl,⟨nW (x:=qv k.ca e.2.1) (kK _ _ (kA _ _ hT)).drop (by unfold fG;rw[if_neg g,if_neg g1,if_neg g2,if_pos g3]) (by unfold mI;rw[if_neg g,if_neg g1,if_neg g2,if_pos g3])⟩⟩
   have g3:¬e.1=20:=by simpa using g3
   refine⟨fun g4=>?_,fun g4=>?_⟩
   ·have g4:e.1=21:=by simpa using g4
    intro w3 q1 q2 q3 q4;have hS:=hS.ae (af.same no q1 q2 q3 q4);obtain⟨q,F1,_,hK,kK⟩:=KS.fix hS;obtain⟨F2,hA,kA⟩:=KF.st hK;refine⟨_,rfl,_,(KF.ai hK).av rfl,_,(bE hS).cell rfl,⟨(afC hA e.2.1).mono ?_⟩⟩;rintro e' w4 ⟨rfl,hT⟩;exact⟨_,_,rfl,⟨nW (x:=sg k.st e.2.1) (kK _ _ (kA _ _ hT)).drop (by unfold fG;rw[if_neg g,if_neg g1,if_neg g2,if_neg g3,if_pos g4]) (by unfold mI;rw[if_neg g,if_neg g1,if_neg g2,if_neg g3,if_pos g4])⟩⟩
   have g4:¬e.1=21:=by simpa using g4
   refine⟨fun g5=>?_,fun g5=>?_⟩
   ·have g5:e.1=22:=by simpa using g5
    intro w3 q1 q2 q3 q4;have hS:=hS.ae (af.same no q1 q2 q3 q4);obtain⟨q,F1,_,hK,kK⟩:=KS.fix hS;obtain⟨F2,hA,kA⟩:=KF.st hK;refine⟨_,rfl,_,(KF.ai hK).av rfl,_,(bE hS).cell rfl,_,(bE hS).cell rfl,⟨(afM hA e.2.1 e.2.2.1).mono ?_⟩⟩;rintro e' w4 ⟨rfl,hT⟩;exact⟨_,rfl,⟨dP (x:=uh k.st e.2.1 e.2.2.1) (kK _ _ (kA _ _ hT)).drop (by unfold fG;rw[if_neg g,if_neg g1,if_neg g2,if_neg g3,if_neg g4,if_pos g5]) (by unfold mI;rw[if_neg g,if_neg g1,if_neg g2,if_neg g3,if_neg g4,if_pos g5])⟩⟩
   have g5:¬e.1=22:=by simpa using g5
   intro w3 q1 q2 q3 q4;have hS:=hS.ae (af.same no q1 q2 q3 q4);obtain⟨q,F1,_,hK,kK⟩:=KS.fix hS;obtain⟨F2,hA,kA⟩:=KF.ga hK;refine⟨_,rfl,_,(KF.ai hK).av rfl,_,(bE hS).cell rfl,⟨(abl hA e.2.1).mono ?_⟩⟩;rintro e' w4 ⟨rfl,hT⟩;exact⟨_,rfl,⟨dP (x:=kE k.ga e.2.1) (kK _ _ (kA _ _ hT)).drop (by unfold fG;rw[if_neg g,if_neg g1,if_neg g2,if_neg g3,if_neg g4,if_neg g5]) (by unfold mI;rw[if_neg g,if_neg g1,if_neg g2,if_neg g3,if_neg g4,if_neg g5])⟩⟩
def FN (x:Th):List Value:=[I x.1,.int .u64 (mi x.2.1),I x.2.2.1,.bool x.2.2.2.1,.bool x.2.2.2.2.1,I x.2.2.2.2.2]
theorem uG.fix {p p2:Nat} {T T2:TypeId} {l l2:List Value} (h:aa (au (au (KO b) (Lb p T)) (Lb p2 T2)) W w F ((k,l),l2)):∃q F1,KF b q w F1 k/\aa (KF b q) w w F1 k/\∀w' k',aa (KF b q) w w' F1 k'->aa (au (au (KO b) (Lb p T)) (Lb p2 T2)) W w' F ((k',l),l2):=by
 obtain⟨F1,⟨q,h1⟩,k1⟩:=h.ll;exact⟨q,F1,h1,aa.same h1,fun w' k' hT=>k1 _ _ (KF.loose hT)⟩
theorem gR {p p2:Nat} {T T2:TypeId} {l l2:List Value} (h:aa (au (au (KO b) (Lb p T)) (Lb p2 T2)) W w F ((k,l),l2)):aE w p l T:=bE h.drop
theorem tD (hTab:Tab W) (h0:¬F 0) (h:aa (KO b) W w F k) (e:aU):Cx 66 #[pt b,.agg (eR e).toArray] w (cZ (KO b) W F (eI k e) (lY k e)):=by
 refine u66 ?_;rw[t66];refine⟨fun w1 hN=>?_⟩;have hS:aa (au (KO b) (Lb w.heap.size 33)) W w1 F (k,eR e):=h.add (hN.ae no) (Rw.new hN rfl) (fun i hi=>Nat.le_of_eq hi.symm);generalize w.heap.size=p at hS⊢;intro w2 q1 q2 q3 q4;replace hS:=hS.ae (af.same no q1 q2 q3 q4);obtain⟨q,F1,_,hK,kK⟩:=KS.fix hS;obtain⟨F2,hA,_⟩:=KF.th hK;have hB:=KF.ai hK;have hL:=bE hS;refine⟨_,rfl,_,hB.av rfl,_,hL.cell rfl,?a1,?a2⟩
 case' a1=>
  refine⟨(te hA e.2.2.1).mono ?_⟩;rintro e' w3 ⟨rfl,hU3⟩;refine⟨_,_,_,_,_,_,_,rfl,⟨fun w4 hN4=>?_⟩⟩;replace hS:aa (au (au (KO b) (Lb p 33)) (Lb w3.heap.size 250)) W w4 F ((k,eR e),_):=(hS.ae hU3).add (hN4.ae no) (Rw.new hN4 rfl) (fun i hi=>Nat.le_of_eq hi.symm);generalize w3.heap.size=p2 at hS⊢;refine⟨(hL.ae (hU3.and (hN4.ae no)) (fun h=>h)).cell rfl,(hB.ae (hU3.and (hN4.ae no)) (fun h=>h)).av rfl,?_⟩;refine il (vs:=FN (bN k e.2.2.1)) hS (by rfl) fun w5 hS=>?_
 case' a2=>
  refine⟨fun w4 hN4=>?_⟩;have hA4:=(inferInstance:Frame (cY q.th)).ae hA (hN4.ae no) (fun _ _ h=>h);have hS4:aa (au (au (KO b) (Lb p 33)) (Lb w2.heap.size 250)) W w4 F ((k,eR e),_):=hS.add (hN4.ae no) (Rw.new hN4 rfl) (fun i hi=>Nat.le_of_eq hi.symm);clear hS;generalize w2.heap.size=p2 at hS4⊢;refine⟨(hL.ae (hN4.ae no) (fun h=>h)).cell rfl,(hB.ae (hN4.ae no) (fun h=>h)).av rfl,⟨(te hA4 e.2.2.1).mono ?_⟩⟩;rintro e' w3 ⟨rfl,hU3⟩;refine⟨_,_,_,_,_,_,_,rfl,?_⟩;refine il (vs:=FN (bN k e.2.2.1)) (hS4.ae hU3) (by rfl) fun w5 hS=>?_
 all_goals
  have hL1:=gR hS;have hL2:=bE hS;have hd:aa (KO b) W w5 F k:=hS.drop.drop;refine⟨fun g=>⟨dP hd ?_ ?_⟩,fun g=>?_⟩
  ·have g:(fQ k.th e.2.2.1).2≠0:=by simpa using g
   unfold eI;dsimp only;rw[if_pos g]
  ·have g:(fQ k.th e.2.2.1).2≠0:=by simpa using g
   unfold lY;dsimp only;rw[if_pos g]
  have g:¬(fQ k.th e.2.2.1).2≠0:=by simpa using g
  refine⟨_,hL1.cell rfl,fun g1=>⟨_,hL2.cell rfl,⟨nW (x:=((bN k e.2.2.1).2.2.1,0)) hd ?_ ?_⟩⟩,fun g1=>?_⟩
  ·have g1:e.1=9:=by simpa using g1
   unfold eI;dsimp only;rw[if_neg g,if_pos g1]
  ·have g1:e.1=9:=by simpa using g1
   unfold lY;dsimp only;rw[if_neg g,if_pos g1]
  have g1:¬e.1=9:=by simpa using g1
  refine⟨_,hL1.cell rfl,fun g2=>?_,fun g2=>?_⟩
  ·have g2:e.1=4:=by simpa using g2
   refine⟨_,hL1.cell rfl,_,hL2.cell rfl,_,hL2.cell rfl,_,hL2.cell rfl,_,hL2.cell rfl,_,hL2.cell rfl,_,hL2.cell rfl,⟨(acw hd e.2.2.1 (bN k e.2.2.1)).mono ?_⟩⟩;rintro e' w6 ⟨rfl,hT⟩;exact⟨_,rfl,⟨dP hT (by unfold eI;dsimp only;rw[if_neg g,if_neg g1,if_pos g2]) (by unfold lY;dsimp only;rw[if_neg g,if_neg g1,if_pos g2])⟩⟩
  have g2:¬e.1=4:=by simpa using g2
  refine⟨_,hL1.cell rfl,fun g3=>?_,fun g3=>?_⟩
  ·have g3:e.1=8:=by simpa using g3
   intro w6 r1 r2 r3 r4;replace hS:=hS.ae (af.same no r1 r2 r3 r4);obtain⟨q6,F6,_,hK6,kK6⟩:=uG.fix hS;obtain⟨F7,hA7,kA7⟩:=KF.th hK6;have hL6:=gR hS;refine⟨_,rfl,_,(KF.ai hK6).av rfl,_,hL6.cell rfl,_,hL6.cell rfl,⟨(Yf hA7 e.2.2.1 e.2.2.2.1).mono ?_⟩⟩;rintro e' w7 ⟨rfl,hT7⟩;replace hS:=kK6 _ _ (kA7 _ _ hT7)
   have last:∀(k2:K) (w8:World),aa (KO b) W w8 F k2->k2=eI k e->aA Tryz.prog oa sJ (sV (kr k.th e.2.2.1 e.2.2.2.1)) w8 (tw (cZ (KO b) W F (eI k e) (lY k e))):=by
    intro k2 w8 h8 hk2;refine aA.mk ?_;rw[ahs];exact⟨dP h8 hk2 (by unfold lY;dsimp only;rw[if_neg g,if_neg g1,if_neg g2,if_pos g3])⟩
   refine⟨_,rfl,fun g4=>⟨_,(gR hS).cell rfl,⟨(UJ hTab h0 hS.drop.drop e.2.2.1).mono ?_⟩⟩,fun g4=>last _ _ hS.drop.drop ?_⟩
   ·have g4:kr k.th e.2.2.1 e.2.2.2.1=0:=by simpa using g4
    rintro e' w8 ⟨rfl,hT8⟩;exact⟨rfl,last _ _ hT8 (by unfold eI;dsimp only;rw[if_neg g,if_neg g1,if_neg g2,if_pos g3,if_pos g4])⟩
   ·have g4:¬kr k.th e.2.2.1 e.2.2.2.1=0:=by simpa using g4
    unfold eI;dsimp only;rw[if_neg g,if_neg g1,if_neg g2,if_pos g3,if_neg g4]
  have g3:¬e.1=8:=by simpa using g3
  refine⟨_,hL2.cell rfl,_,hL1.cell rfl,fun g4=>⟨dP hd ?_ ?_⟩,fun g4=>?_⟩
  ·have g4:(bN k e.2.2.1).2.2.2.2.1≠decide (e.1=7):=by
    intro hh;rw[hh]at g4;by_cases h7:e.1=7<;>simp[h7]at g4
   unfold eI;dsimp only;rw[if_neg g,if_neg g1,if_neg g2,if_neg g3,if_pos g4]
  ·have g4:(bN k e.2.2.1).2.2.2.2.1≠decide (e.1=7):=by
    intro hh;rw[hh]at g4;by_cases h7:e.1=7<;>simp[h7]at g4
   unfold lY;dsimp only;rw[if_neg g,if_neg g1,if_neg g2,if_neg g3,if_pos g4]
  have g4:¬(bN k e.2.2.1).2.2.2.2.1≠decide (e.1=7):=by
   intro hh;apply hh;cases h5:(bN k e.2.2.1).2.2.2.2.1<;>rw[h5]at g4<;>by_cases h7:e.1=7<;>simp[h7]at g4⊢
  refine⟨_,hL1.cell rfl,fun g5=>?_,fun g5=>?_⟩
  ·have g5:e.1=6:=by simpa using g5
   refine⟨_,hL1.cell rfl,_,hL2.cell rfl,_,hL2.cell rfl,_,hL2.cell rfl,_,hL2.cell rfl,_,hL2.cell rfl,_,hL2.cell rfl,_,hL1.cell rfl,⟨(acL hTab h0 hd e.2.2.1 (bN k e.2.2.1) e.2.2.2.2).mono ?_⟩⟩;rintro e' w6 ⟨rfl,hT⟩;exact⟨_,_,rfl,⟨nW (x:=xa k e.2.2.1 (bN k e.2.2.1) e.2.2.2.2) hT (by unfold eI;dsimp only;rw[if_neg g,if_neg g1,if_neg g2,if_neg g3,if_neg g4,if_pos g5]) (by unfold lY;dsimp only;rw[if_neg g,if_neg g1,if_neg g2,if_neg g3,if_neg g4,if_pos g5])⟩⟩
  have g5:¬e.1=6:=by simpa using g5
  refine⟨_,hL1.cell rfl,fun g6=>?_,fun g6=>?_⟩
  ·have g6:e.1=5:=by simpa using g6
   intro w6 r1 r2 r3 r4;replace hS:=hS.ae (af.same no r1 r2 r3 r4);obtain⟨q6,F6,_,hK6,kK6⟩:=uG.fix hS;obtain⟨F7,hA7,kA7⟩:=KF.rq hK6;refine⟨_,rfl,_,(KF.ai hK6).av rfl,_,(gR hS).cell rfl,⟨(afd hA7 e.2.2.1).mono ?_⟩⟩;rintro e' w7 ⟨rfl,hT7⟩;exact⟨_,rfl,⟨dP (kK6 _ _ (kA7 _ _ hT7)).drop.drop (by unfold eI;dsimp only;rw[if_neg g,if_neg g1,if_neg g2,if_neg g3,if_neg g4,if_neg g5,if_pos g6]) (by unfold lY;dsimp only;rw[if_neg g,if_neg g1,if_neg g2,if_neg g3,if_neg g4,if_neg g5,if_pos g6])⟩⟩
  have g6:¬e.1=5:=by simpa using g6
  refine⟨_,hL2.cell rfl,?_⟩;obtain⟨F8,hK8,kK8⟩:=hS.ll;have h0':aa (KO b) w5 w5 F8 k:=aa.same hK8;refine⟨(UL h0' (bN k e.2.2.1).2.2.2.2.2).mono ?_⟩;rintro e' w6 ⟨rfl,hT6⟩;replace hS:=kK8 _ _ hT6;refine⟨rfl,_,(gR hS).cell rfl,⟨(UO hTab h0 hS.drop.drop e.2.2.1).mono ?_⟩⟩;rintro e' w7 ⟨rfl,hT7⟩;exact⟨rfl,⟨dP hT7 (by unfold eI;dsimp only;rw[if_neg g,if_neg g1,if_neg g2,if_neg g3,if_neg g4,if_neg g5,if_neg g6]) (by unfold lY;dsimp only;rw[if_neg g,if_neg g1,if_neg g2,if_neg g3,if_neg g4,if_neg g5,if_neg g6])⟩⟩
theorem UM (hTab:Tab W) (h0:¬F 0) (h:aa (KO b) W w F k) (up:Bool) (c:Int):Cx 70 #[pt b,.bool up,I c] w fun e w'=>e=Z (I (fz k up c))/\aa (KO b) W w' F (bP k up c):=by
 obtain⟨q,hq⟩:=KO.fix h;have hB:=KF.ai hq;obtain⟨F1,hA,kA⟩:=KF.dk hq;refine u70 ?_;rw[t70];refine⟨_,rfl,_,hB.cell rfl,⟨(iR k.on c w).mono ?_⟩⟩;rintro e w1 ⟨rfl,rfl⟩;refine⟨_,rfl,fun g1=>⟨_,rfl,_,hB.cell rfl,fun g2=>?_,fun g2=>⟨_,rfl,_,hB.av rfl,⟨(rn hA).mono ?_⟩⟩⟩,fun g1=>?_⟩
 ·have g2:=of_decide_eq_true g2;have hn:¬(0<=c/\c<(k.n:Int)):=by simp only at g2;omega
  unfold fz bP;rw[if_pos hn,if_pos hn];exact⟨rfl,h⟩
 ·have g1:=of_decide_eq_false g1;have g2:=of_decide_eq_false g2;have hn:¬¬(0<=c/\c<(k.n:Int)):=by simp only at g2;omega
  rintro e w2 ⟨rfl,rfl⟩;refine⟨_,rfl,fun g3=>?_,fun g3=>?_⟩
  ·unfold fz bP;rw[if_neg hn,if_pos g3,if_neg hn,if_pos g3];exact⟨rfl,h⟩
  ·have g3':¬dj k.dk=true:=by rw[g3];decide
   have last:fz k up c=jO k.dk c (dK (ls k.ac c)).1->bP k up c={k with ga:=mW k.ga,dk:=nq k.dk up c (dK (ls k.ac c)).1}->aA Tryz.prog lD nu (nx (some ⟨b,0,none⟩) up c) w2 (nG fun e w'=>e=Z (I (fz k up c))/\aa (KO b) W w' F (bP k up c)):=by
    intro e1 e2;refine aA.mk ?_;rw[aht,e1,e2];refine⟨_,rfl,_,hB.cell rfl,⟨(Ak k.ac c w2).mono ?_⟩⟩;rintro e w3 ⟨rfl,rfl⟩;refine⟨_,rfl,⟨(tH (ls k.ac c) (h.i7 hTab h0)).mono ?_⟩⟩;rintro e w4 ⟨rfl,rfl⟩;obtain⟨F2,hG,kG⟩:=KF.ga hq;refine⟨_,_,rfl,_,rfl,_,hB.av rfl,⟨(abH hG).mono ?_⟩⟩;rintro e w5 ⟨rfl,hT5⟩;have h5:=kG _ _ hT5;obtain⟨F3,hD,kD⟩:=KF.dk h5;refine⟨_,rfl,_,rfl,_,(KF.ai h5).av rfl,⟨(abK hD up c _).mono ?_⟩⟩;rintro e w6 ⟨rfl,hT6⟩;exact⟨_,rfl,rfl,KF.loose (kD _ _ hT6)⟩
   cases up
   ·refine⟨fun g=>(by cases g),fun _=>⟨fun _=>⟨fun g5=>?_,fun g5=>⟨fun _=>⟨_,rfl,_,hB.cell rfl,⟨(Ve k.on w2).mono ?_⟩⟩,fun g=>(by cases g)⟩⟩,fun g=>(by cases g)⟩⟩
    ·unfold fz bP;rw[if_neg hn,if_neg g3',if_neg (by simp),if_pos (by simpa using g5),if_neg hn,if_neg g3',if_neg (by simp),if_pos (by simpa using g5)];exact⟨rfl,h⟩
    ·rintro e w3 ⟨rfl,rfl⟩;have g5:¬(!false&&!hs k.on c)=true:=by simpa using g5
     refine⟨_,rfl,fun g6=>?_,fun g6=>last ?_ ?_⟩
     ·have g6:(cs k.on).length=1:=by
       have:((cs k.on).length:Int)=1:=by simpa using g6
       omega
      unfold fz bP;rw[if_neg hn,if_neg g3',if_neg (by simp),if_neg g5,if_pos (by simp[g6]),if_neg hn,if_neg g3',if_neg (by simp),if_neg g5,if_pos (by simp[g6])];exact⟨rfl,h⟩
     ·have g6:¬(cs k.on).length=1:=fun hh=>by rw[hh]at g6;simp at g6
      unfold fz;rw[if_neg hn,if_neg g3',if_neg (by simp),if_neg g5,if_neg (by simp[g6])]
     ·have g6:¬(cs k.on).length=1:=fun hh=>by rw[hh]at g6;simp at g6
      unfold bP;rw[if_neg hn,if_neg g3',if_neg (by simp),if_neg g5,if_neg (by simp[g6])]
   ·refine⟨fun _=>⟨fun g5=>?_,fun g5=>⟨fun g=>(by cases g),fun _=>⟨fun g=>(by cases g),fun _=>last ?_ ?_⟩⟩⟩,fun g=>(by cases g)⟩
    ·unfold fz bP;rw[if_neg hn,if_neg g3',if_pos (by simpa using g5),if_neg hn,if_neg g3',if_pos (by simpa using g5)];exact⟨rfl,h⟩
    ·unfold fz;rw[if_neg hn,if_neg g3',if_neg (by rw[g5];decide),if_neg (by simp),if_neg (by simp)]
    ·unfold bP;rw[if_neg hn,if_neg g3',if_neg (by rw[g5];decide),if_neg (by simp),if_neg (by simp)]
 ·have g1:=of_decide_eq_true g1;have hn:¬(0<=c/\c<(k.n:Int)):=by omega
  unfold fz bP;rw[if_pos hn,if_pos hn];exact⟨rfl,h⟩
end
end Go.Dav
namespace Go.Dav
open Go.Proofs
theorem To {b:Nat} {w:World} {F:Fp} {s:bj} (h:bQ b w F s) {p:Option Addr} {l:List Int} {c:Nat} (hC:Cells w p (l.map (Value.int .i64))) (hl:l.length<=1000) :
  Cx 270 #[.slice p l.length c,.func (.func 175) #[pt b] #[]] w fun e w'=>((∃i:Nat,∃hi:i<l.length,l.find? (cv s)=some l[i]/\e=Z (I (i:Int)))∨(l.find? (cv s)=none/\e=Z (I (-1))))/\w'=w:=by
 refine akN ?_;rw[t270];refine⟨bA bf (M:=uR) (σ:=Nat) (fun i=>Sf p l.length c (some ⟨b,0,none⟩) (l.length:Int) (i:Int)) (fun i w'=>i<=l.length/\(∀j (hj:j<l.length),j<i->cv s l[j]=false)/\w'=w) (fun i _=>l.length-i) 0 ⟨rfl,rfl,rfl,rfl,trivial⟩ ⟨Nat.zero_le _,fun j _ hj=>by omega,rfl⟩ ?_⟩;rintro i w1 ⟨hi,hn,rfl⟩;rw[agR];refine⟨fun g=>?_,fun g=>?_⟩
 ·have g:=of_decide_eq_true g;have hlt:i<l.length:=by omega
  obtain⟨a,ha,hc⟩:=hC.bC hlt;refine⟨⟨by omega,by omega⟩,a,ha,_,hc,⟨(ae2 h l[i]).mono ?_⟩⟩;rintro e w2 ⟨rfl,rfl⟩;refine⟨_,rfl,fun g2=>⟨.inl ⟨i,hlt,?_,rfl⟩,rfl⟩,fun g2=>⟨i+1,⟨rfl,rfl,rfl,by rw[aD (by omega)];rfl,trivial⟩,⟨by omega,fun j hj hji=>?_,rfl⟩,by omega⟩⟩
  ·refine List.find?_eq_some_iff_getElem.2 ⟨g2,i,hlt,rfl,fun j hj=>?_⟩;rw[hn j (by omega) hj];rfl
  ·by_cases e:j=i
   ·subst e;exact g2
   ·exact hn j hj (by omega)
 ·have g:=of_decide_eq_false g;refine⟨.inr ⟨List.find?_eq_none.2 fun x hx=>?_,rfl⟩,rfl⟩;obtain⟨j,hj,rfl⟩:=List.getElem_of_mem hx;rw[hn j hj (by omega)];decide
theorem Tab.pos {W:World} (hT:Tab W):0<W.heap.size:=by
 obtain⟨a',ha',hc⟩:=hT 0 _ (by rfl);cases ha';have:=ou hc;rw[vg]at this;exact this
theorem cZ.nil {σ:Type} {A:Ob σ} [Frame A] {W w:World} {F:Fp} {s:σ} (h:aa A W w F s):cZ A W F s [] (.returned (.slice none 0 0)) w:=
 ⟨none,0,rfl,h.add (af.refl _ _) (G:=fun _=>False) ⟨fun i=>⟨fun h=>h.elim,fun⟨a,ha,_⟩=>by cases ha⟩,Sl.nil _ _ _⟩ (fun i hi=>hi.elim)⟩
theorem cZ.one {σ:Type} {A:Ob σ} [Frame A] {W w w':World} {F:Fp} {s:σ} (h:aa A W w F s) {r:Rc} (hN:cH w w' (.cells (List.toArray (fW r)) 43 (0,0))):cZ A W F s [r] (.returned (.slice (some ⟨w.heap.size,0,none⟩) 1 1)) w':=by
 refine⟨some ⟨w.heap.size,0,none⟩,1,rfl,h.add (hN.ae no) (G:=aL (some ⟨w.heap.size,0,none⟩)) ⟨fun _=>Iff.rfl,?_⟩ (fun i ⟨a,ha,hi⟩=>?_)⟩
 ·have:=Sl.new hN (sz:=5) (n:=1) rfl (show(1:Nat)<=maxLen by unfold maxLen;omega);exact this
 ·cases ha;rw[hi];exact Nat.le_refl _
theorem aa.Ef {σ τ:Type} {A:Ob σ} {B:Ob τ} [Frame B] {W w:World} {F:Fp} {x:σ×τ} (hTab:Tab W) (h0:¬F 0) (h:aa (au A B) W w F x) :
  ∃F1,A w F1 x.1/\Tab w/\¬F1 0/\∀w' s',aa A w w' F1 s'->aa (au A B) W w' F (s',x.2):=by
 have hp:=hTab.pos;have ht:=h.i7 hTab h0;obtain⟨F',h1,h2,h3⟩:=h;obtain⟨F1,F2,a1,a2,a3,a4⟩:=h1;have h':au A B w F' x:=⟨F1,F2,a1,a2,a3,a4⟩;refine⟨F1,a1,ht,fun hh=>?_,?_⟩
 ·rcases h3 0 ((a3 0).2 (.inl hh))with k|k
  ·exact h0 k
  ·omega
 ·rintro w' s' ⟨G1,k1,k2,k3⟩;have fb:Frame B:=inferInstance;refine⟨fun i=>G1 i∨F2 i,⟨G1,F2,k1,fb.ae a2 k2 (fun i hi hf=>a4 i hf hi),fun _=>Iff.rfl,fun i hi hf=>?_⟩,h2.trans k2 (fun i hi hf=>(h3 i ((a3 i).2 (.inl hf))).elim id (fun h=>absurd h (by omega))),fun i hi=>?_⟩
  ·rcases k3 i hi with h|h
   ·exact a4 i h hf
   ·have:=fb.lt a2 i hf;omega
  ·rcases hi with hi|hi
   ·rcases k3 i hi with h|h
    ·exact h3 i ((a3 i).2 (.inl h))
    ·exact .inr (Nat.le_trans h2.size h)
   ·exact h3 i ((a3 i).2 (.inr hi))
theorem dt.short {b:Nat} {w:World} {F:Fp} {Q:QL} (h:dt b w F Q) (c:Int):(bF Q c).length<=32:=by
 obtain⟨o,g,_,hI⟩:=h;unfold bF;split
 ·rename_i hc;obtain⟨i,hi,rfl,_⟩:=rA hc (by omega);rw[lS hi];exact(hI.row hi).2
 ·simp
section
variable {b:Nat} {W w:World} {F:Fp} {k:K}
theorem UN (h:aa (KO b) W w F k) (c:Int):Cx 201 #[pt b,I c] w fun e w'=>e=Z (.tuple #[I (jJ k c).1,.bool (jJ k c).2])/\aa (KO b) W w' F k:=by
 obtain⟨q,hq⟩:=KO.fix h;have hB:=KF.ai hq;obtain⟨F1,hA,_⟩:=KF.rt hq;refine ajH ?_;rw[t201];refine⟨_,rfl,_,hB.av rfl,⟨(VV hA c).mono ?_⟩⟩;rintro e w1 ⟨p,d,rfl,hL⟩;replace hq:=hq.ae hL.U;obtain⟨F2,hI,_⟩:=KF.ir hq;have hlen:(ft k.rt c).length<=1000:=Nat.le_trans (qz ..) (by omega);refine⟨_,_,_,rfl,_,rfl,_,(KF.ai hq).av rfl,⟨(To hI hL.S.cells hlen).mono ?_⟩⟩;unfold jJ;rintro e w2 ⟨⟨i,hi,hf,rfl⟩|⟨hf,rfl⟩,rfl⟩
 ·rw[hf];obtain⟨a,ha,hc⟩:=hL.S.cells.bC hi;exact⟨_,rfl,fun g=>by have:=of_decide_eq_true g;omega,fun g=>⟨⟨by omega,by omega⟩,a,ha,_,hc,rfl,KF.loose hq⟩⟩
 ·rw[hf];exact⟨_,rfl,fun g=>⟨rfl,KF.loose hq⟩,fun g=>by simp at g⟩
theorem acy (h:aa (KO b) W w F k) (c:Int):Cx 115 #[pt b,I c] w fun e w'=>e=Z (.agg #[.bool (cC k c).1,.bool (cC k c).2.1,.bool (cC k c).2.2.1,.bool (cC k c).2.2.2.1,.bool (cC k c).2.2.2.2.1,.bool (cC k c).2.2.2.2.2.1,.bool (cC k c).2.2.2.2.2.2.1,.bool (cC k c).2.2.2.2.2.2.2.1,.bool (cC k c).2.2.2.2.2.2.2.2])/\aa (KO b) W w' F k:=by
 refine aix ?_;rw[t115];refine⟨fun w1 hN=>?_⟩;have hS:aa (au (KO b) (Lb w.heap.size 240)) W w1 F (k,[.bool false,.bool false,.bool false,.bool false,.bool false,.bool false,.bool false,.bool false,.bool false]):=h.add (hN.ae no) (Rw.new hN rfl) (fun i hi=>Nat.le_of_eq hi.symm);generalize w.heap.size=p at hS⊢;obtain⟨F0,hK0,kK0⟩:=hS.left;refine⟨(UN (aa.same hK0) c).mono ?_⟩;rintro e w2 ⟨rfl,hT2⟩;replace hS:=kK0 _ _ hT2;refine⟨_,_,rfl,?_⟩;intro w3 q1 q2 q3 q4;replace hS:=hS.ae (af.same no q1 q2 q3 q4);obtain⟨q,F1,_,hK,kK⟩:=KS.fix hS;have hB:=KF.ai hK;obtain⟨F2,hA2,_⟩:=KF.so hK;refine⟨_,rfl,_,hB.av rfl,_,rfl,_,hB.av rfl,_,rfl,_,hB.av rfl,_,rfl,_,hB.cell rfl,_,rfl,_,hB.av rfl,_,rfl,_,hB.av rfl,_,rfl,_,hB.av rfl,_,rfl,_,hB.av rfl,_,rfl,_,hB.av rfl,⟨(Vv hA2 c).mono ?_⟩⟩;rintro e w4 ⟨rfl,hU4⟩;replace hK:=hK.ae hU4;replace hB:=KF.ai hK;obtain⟨F3,hA3,_⟩:=KF.so hK;refine⟨_,rfl,hB.av rfl,hB.av rfl,hB.av rfl,hB.av rfl,hB.av rfl,hB.cell rfl,hB.av rfl,hB.av rfl,⟨(abO hA3 c).mono ?_⟩⟩;rintro e w5 ⟨rfl,rfl⟩;obtain⟨F4,hA4,_⟩:=KF.dk hK;refine⟨_,rfl,hB.av rfl,hB.av rfl,hB.av rfl,hB.av rfl,hB.av rfl,hB.cell rfl,hB.av rfl,⟨(rn hA4).mono ?_⟩⟩;rintro e w6 ⟨rfl,rfl⟩;refine⟨_,rfl,hB.av rfl,hB.av rfl,hB.av rfl,hB.av rfl,hB.av rfl,hB.cell rfl,fun g=>?a1,fun g=>?a2⟩
 case' a1=>
  refine⟨_,rfl,_,hB.av rfl,⟨(abL hA4).mono ?_⟩⟩;rintro e w7 ⟨rfl,rfl⟩;have hot:(mu k.dk==c)=(dj k.dk&&decide (mu k.dk=c)):=by rw[show dj k.dk=true from g,Bool.true_and];rfl
  refine⟨_,rfl,hB.av rfl,hB.av rfl,hB.av rfl,hB.av rfl,hB.av rfl,hB.cell rfl,⟨(iR k.ac c _).mono ?_⟩⟩
 case' a2=>
  have hot:false=(dj k.dk&&decide (mu k.dk=c)):=by rw[show dj k.dk=false from g,Bool.false_and]
  refine⟨(iR k.ac c _).mono ?_⟩
 all_goals
  rintro e w8 ⟨rfl,rfl⟩;obtain⟨F5,hA5,_⟩:=KF.ca hK;refine⟨_,rfl,hB.av rfl,hB.av rfl,hB.av rfl,hB.av rfl,hB.av rfl,⟨(Rs hA5 c).mono ?_⟩⟩;rintro e w9 ⟨rfl,hU9⟩;replace hK:=hK.ae hU9;replace hB:=KF.ai hK;obtain⟨F6,hA6,_⟩:=KF.tm hK;refine⟨_,rfl,hB.av rfl,hB.av rfl,hB.av rfl,hB.av rfl,⟨(Xq hA6 c).mono ?_⟩⟩;rintro e w10 ⟨rfl,hU10⟩;replace hK:=hK.ae hU10;replace hB:=KF.ai hK;obtain⟨F7,hA7,_⟩:=KF.wk hK;refine⟨_,rfl,hB.av rfl,hB.av rfl,hB.av rfl,⟨(Bu hA7 c).mono ?_⟩⟩;rintro e w11 ⟨rfl,hU11⟩;replace hK:=hK.ae hU11;replace hB:=KF.ai hK;obtain⟨F8,hA8,_⟩:=KF.wk hK;have hr1:=dt.short hA8 c;have hr2:=dt.short hA8 (-1);refine⟨_,rfl,hB.av rfl,hB.av rfl,⟨(Bu hA8 (-1)).mono ?_⟩⟩;rintro e w12 ⟨rfl,hU12⟩;replace hK:=hK.ae hU12;replace hB:=KF.ai hK;obtain⟨F9,hA9,_⟩:=KF.rq hK;refine⟨_,rfl,hB.av rfl,⟨(rL hA9 c).mono ?_⟩⟩;rintro e w13 ⟨rfl,rfl⟩;replace hS:=kK _ _ hK;refine⟨_,rfl,il hS (by rfl) fun w14 hS=>?_⟩;have hL:=bE hS;refine⟨_,hL.cell rfl,_,hL.cell rfl,_,hL.cell rfl,_,hL.cell rfl,_,hL.cell rfl,_,hL.cell rfl,_,hL.cell rfl,_,hL.cell rfl,_,hL.cell rfl,?_,hS.drop⟩;unfold cC;rw[<-hot]
  dsimp only at hr1 hr2⊢
  rw[aD (by omega)];have e1:decide (((cJ k.ca c).length:Int)>0)=decide (0<(cJ k.ca c).length):=decide_eq_decide.2 (by omega);have e2:decide (((bF k.wk c).length:Int)+((bF k.wk (-1)).length:Int)>0)=decide (0<(bF k.wk c).length+(bF k.wk (-1)).length):=decide_eq_decide.2 (by omega);rw[e1,e2]
theorem UG (h:aa (KO b) W w F k) (c kind id n:Int):Cx 220 #[pt b,I c,I kind,I id,I n] w (cZ (KO b) W F k [(kind,c,id,n,0)]):=by
 obtain⟨q,hq⟩:=KO.fix h;have hB:=KF.ai hq;obtain⟨F1,bH,hA,kA⟩:=KF.sc hq;refine aj0 ?_;rw[t220];refine⟨_,rfl,_,hB.av rfl,⟨(AW hA c (n:=1) (by decide)).mono ?_⟩⟩;rintro e w1 ⟨rfl,hT⟩;have h1:=KF.loose (kA _ _ hT);refine⟨_,rfl,⟨fun w2 hN=>⟨some ⟨w1.heap.size,0,none⟩,1,rfl,h1.add (hN.ae no) (G:=aL (some ⟨w1.heap.size,0,none⟩)) ⟨fun _=>Iff.rfl,Sl.new hN rfl (show(1:Nat)<=maxLen by unfold maxLen;omega)⟩ (fun i ⟨a,ha,hi⟩=>?_)⟩⟩⟩;cases ha;rw[hi];exact Nat.le_refl _
theorem acx (hTab:Tab W) (h0:¬F 0) (h:aa (KO b) W w F k) (c:Int):Cx 222 #[pt b,I c] w (cZ (KO b) W F (du k c) [(3,c,(cy k.tm c).1,(k.own (cy k.tm c).1).getD 0,0)]):=by
 obtain⟨q,hq⟩:=KO.fix h;have hB:=KF.ai hq;obtain⟨F1,hA,kA⟩:=KF.tm hq;refine aj2 ?_;rw[t222];refine⟨_,rfl,_,hB.av rfl,⟨(ahM hA c).mono ?_⟩⟩;rintro e w1 ⟨rfl,hT⟩;have h1:=kA _ _ hT;obtain⟨F2,n,hM,kM⟩:=KF.own h1;have hlk:=iz pB hM (cy k.tm c).1 false;have e1:((k.own (cy k.tm c).1).map (Value.int .i64)).getD (I 0)=I ((k.own (cy k.tm c).1).getD 0):=by cases k.own (cy k.tm c).1<;>rfl
 simp only[e1]at hlk;obtain⟨w2,hrun,hT2⟩:=ph pB hM (cy k.tm c).1 3 (0:TypeId);have h2:=kM _ _ hT2
 have last:∀(k2:K) (w3:World),aa (KO b) W w3 F k2->k2=du k c->aA Tryz.prog rY yg (zn (some ⟨b,0,none⟩) c (cy k.tm c).1 ((k.own (cy k.tm c).1).getD 0)) w3 (zX (cZ (KO b) W F (du k c) [(3,c,(cy k.tm c).1,(k.own (cy k.tm c).1).getD 0,0)])):=by
  rintro k2 w3 h3 rfl;refine aA.mk ?_;rw[agJ];refine⟨(UG h3 c 3 _ _).mono ?_⟩;rintro e w4 ⟨p,d,rfl,hT4⟩;exact⟨_,_,_,rfl,p,d,rfl,hT4⟩
 refine⟨_,_,rfl,_,rfl,_,(KF.ai h1).cell rfl,_,hlk,_,rfl,_,(KF.ai h1).cell rfl,w2,hrun,fun g=>?_,fun g=>?_⟩
 ·have g:0<(k.own (cy k.tm c).1).getD 0:=of_decide_eq_true g;refine⟨(UO hTab h0 (KF.loose h2) _).mono ?_⟩;rintro e w3 ⟨rfl,hT3⟩;exact⟨rfl,last _ _ hT3 (by unfold du;dsimp only;rw[if_pos g];rfl)⟩
 ·have g:¬0<(k.own (cy k.tm c).1).getD 0:=of_decide_eq_false g;exact last _ _ (KF.loose h2) (by unfold du;dsimp only;rw[if_neg g];rfl)
theorem ad7 {x:bG} (h:BH x) (c:Int):(qh x c).1<=1152921504606846976:=by
 unfold qh;split
 ·split
  ·unfold gN;split
   ·rename_i p hp;exact(h.at_ _ _ hp).2.2
   ·omega
  ·simp only;omega
 ·simp only;omega
theorem acD (h:aa (KO b) W w F k) (hnow:k.tm.now=k.now) (c:Int):Cx 120 #[pt b,I c] w fun e w'=>e=Z (.tuple #[])/\aa (KO b) W w' F (mC k c):=by
 obtain⟨q,hq⟩:=KO.fix h;have hB:=KF.ai hq;obtain⟨F1,hA,_⟩:=KF.tm hq;have hV:BH k.tm:=by obtain⟨_,_,_,_,_,_,r⟩:=hA;exact r.v
 have hn1:=hV.now;rw[hnow]at hn1;refine aiC ?_;rw[t120];refine⟨_,rfl,_,hB.av rfl,⟨(ah4 hA c).mono ?_⟩⟩;rintro e w1 ⟨rfl,hU1⟩;replace hq:=hq.ae hU1;replace hB:=KF.ai hq;refine⟨_,_,rfl,_,rfl,_,hB.cell rfl,⟨(ab8 hn1.2 (ad7 hV c) _ w1).mono ?_⟩⟩;rintro e w2 ⟨rfl,rfl⟩;refine⟨_,rfl,?_⟩;intro w3 q1 q2 q3 q4;replace hq:=hq.ae (af.same no q1 q2 q3 q4);replace hB:=KF.ai hq;refine⟨_,rfl,_,hB.av rfl,_,rfl,_,hB.cell rfl,_,rfl,_,hB.cell rfl,⟨(TC w3).mono ?_⟩⟩;rintro e w4 ⟨⟨pt,rfl,hW⟩,hU4⟩;replace hq:=hq.ae hU4;replace hB:=KF.ai hq;refine⟨_,_,_,rfl,hB.cell rfl,hB.cell rfl,hB.av rfl,⟨(ab0 hW _ _).mono ?_⟩⟩;rintro e w5 ⟨rfl,rfl⟩;obtain⟨F2,hC,kC⟩:=KF.co hq;refine⟨_,rfl,hB.cell rfl,hB.av rfl,⟨(ZU hC c _ _ ?_).mono ?_⟩⟩
 ·unfold ra
  repeat' split
  all_goals omega
 rintro e w6 ⟨⟨n,rfl⟩,hT⟩;exact⟨_,rfl,rfl,KF.loose (kC _ _ hT)⟩
theorem acQ (hTab:Tab W) (h0:¬F 0) (h:aa (KO b) W w F k) (c what:Int):Cx 121 #[pt b,I c,I what] w (cZ (KO b) W F (dC k c what) (FP k c what)):=by
 obtain⟨q,hq⟩:=KO.fix h;have hB:=KF.ai hq;refine aiD ?_;rw[t121];unfold dC FP
 have last:∀{k2:K} {w2:World} (h2:aa (KO b) W w2 F k2) (kind id:Int),Cx 220 #[pt b,I c,I kind,I id,I 0] w2 fun e w'=>∃p n d,e=Z (.slice p n d)/\cZ (KO b) W F k2 [(kind,c,id,0,0)] (.returned (.slice p n d)) w':=fun h2 kind id=>(UG h2 c kind id 0).mono (by
  rintro e w4 ⟨p,d,rfl,hT4⟩;exact⟨_,_,_,rfl,p,d,rfl,hT4⟩)
 refine⟨fun g=>?_,fun g=>⟨fun g1=>?_,fun g1=>⟨fun g2=>?_,fun g2=>⟨fun g3=>?_,fun g3=>?_⟩⟩⟩⟩
 ·have g:what=4:=by simpa using g
  rw[if_pos g,if_pos g];obtain⟨F1,hA,kA⟩:=KF.ca hq;refine⟨_,rfl,_,hB.av rfl,⟨(ZY hA c).mono ?_⟩⟩;rintro e w1 ⟨rfl,hT⟩;exact⟨_,_,rfl,⟨last (KF.loose (kA _ _ hT)) 6 _⟩⟩
 ·have g:¬what=4:=by simpa using g
  have g1:what=5:=by simpa using g1
  rw[if_neg g,if_pos g1,if_neg g,if_pos g1];refine⟨(UN h c).mono ?_⟩;rintro e w1 ⟨rfl,h1⟩;obtain⟨q1,hq1⟩:=KO.fix h1;obtain⟨F1,hA,kA⟩:=KF.ir hq1;refine⟨_,_,rfl,_,rfl,_,(KF.ai hq1).av rfl,⟨(ZC hA _).mono ?_⟩⟩;rintro e w2 ⟨rfl,hT⟩;exact⟨_,rfl,⟨last (KF.loose (kA _ _ hT)) 4 _⟩⟩
 ·have g:¬what=4:=by simpa using g
  have g1:¬what=5:=by simpa using g1
  have g2:what=6:=by simpa using g2
  rw[if_neg g,if_neg g1,if_pos g2,if_neg g,if_neg g1,if_pos g2];refine⟨(acx hTab h0 h c).mono ?_⟩;rintro e w4 ⟨p,d,rfl,hT4⟩;exact⟨_,_,_,rfl,p,d,rfl,hT4⟩
 ·have g:¬what=4:=by simpa using g
  have g1:¬what=5:=by simpa using g1
  have g2:¬what=6:=by simpa using g2
  have g3:what=7:=by simpa using g3
  rw[if_neg g,if_neg g1,if_neg g2,if_pos g3,if_neg g,if_neg g1,if_neg g2,if_pos g3];obtain⟨F1,hA,kA⟩:=KF.wk hq;refine⟨_,rfl,_,hB.av rfl,⟨(am1 hA c).mono ?_⟩⟩;rintro e w1 ⟨rfl,hT⟩;exact⟨_,_,rfl,⟨last (KF.loose (kA _ _ hT)) 5 _⟩⟩
 ·have g:¬what=4:=by simpa using g
  have g1:¬what=5:=by simpa using g1
  have g2:¬what=6:=by simpa using g2
  have g3:¬what=7:=by simpa using g3
  rw[if_neg g,if_neg g1,if_neg g2,if_neg g3,if_neg g,if_neg g1,if_neg g2,if_neg g3];obtain⟨F1,hA,kA⟩:=KF.rq hq;refine⟨_,rfl,_,hB.av rfl,⟨(afi hA c).mono ?_⟩⟩;rintro e w1 ⟨rfl,hT⟩;exact⟨_,_,rfl,⟨last (KF.loose (kA _ _ hT)) 2 _⟩⟩
end
end Go.Dav
