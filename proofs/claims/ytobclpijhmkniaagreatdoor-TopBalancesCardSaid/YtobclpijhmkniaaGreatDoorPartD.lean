/- What functions of the program come to, part 4; the texts are made small to keep within a claim. -/
import Derived.Laws.StructEq
import Derived.Shelf.SlSortCmp.NoneTotal
import Derived.Shelf.SlicesE.DeleteFunc
import Derived.Shelf.SlGeneric
import Derived.Shelf.SlIterI.Collect
import Derived.Shelf.SlIterI.Keys
import Derived.Shelf.SlIterI.Nil
import Derived.Ground.SlsfProg
import Derived.Ground.SlgfProg
import Derived.Ground.GgzProg
import Derived.Test.YtobclpijhmkniaaGreatDoorProg
import Derived.Laws.Externs
import Derived.Test.YtobclpijhmkniaaGreatDoorPartC
set_option linter.unusedVariables false
set_option linter.unusedSimpArgs false
set_option linter.unusedSectionVars false
namespace Go.Dav
open Go.Proofs
theorem elQ_Call:ElemT Tryz.prog 205 208 1 8 [.pointer none]:=⟨by kernel_rfl,by kernel_rfl,rfl,by omega⟩
abbrev CS:=List Bool×List (List Int)
def q32_Call (l:List Int):Nat×List Int:=(32,l)
def caE (b2:Nat) (p:Option Addr) (n c:Nat):List Value:=[.pointer (some ⟨b2,0,none⟩),.slice p n c]
abbrev BxO (b b2:Nat):Ob (List (Nat×List Int)):=Tq FqO b 213 208 (caE b2)
def CaO (b:Nat):Ob CS:=fun w F x=>∃b2,Star (SlO b2) (BxO b b2) w F (x.1,x.2.map q32_Call)
instance Frame.ca (b:Nat):Frame (CaO b) where
 upd:=fun⟨b2,h⟩ k hG=>⟨b2,Frame.star.upd h k hG⟩
 lt:=fun⟨b2,h⟩=>Frame.star.lt h
def inB (x:CS) (cpu:Int):Prop:=0<=cpu/\cpu<x.2.length
instance (x:CS) (cpu:Int):Decidable (inB x cpu):=by unfold inB;infer_instance
theorem inB_at {x:CS} {cpu:Int} (h:inB x cpu):∃i:Nat,i<x.2.length/\cpu=(i:Int):=⟨cpu.toNat,by unfold inB at h;omega,by unfold inB at h;omega⟩
def rowB (x:CS) (cpu:Int):List Int:=x.2.getD cpu.toNat []
theorem rowB_at {x:CS} {i:Nat} (hi:i<x.2.length):rowB x (i:Int)=x.2[i]:=by simp[rowB,hi]
def sendE (x:CS) (cpu:Int):Int×Int:=if inB x cpu then(if(takeE_Slot x.1).2=0 then((takeE_Slot x.1).1,pushE (q32_Call (rowB x cpu)) (takeE_Slot x.1).1)else(0,(takeE_Slot x.1).2))else(0,3)
def sendS (x:CS) (cpu:Int):CS:=if inB x cpu then(if(takeE_Slot x.1).2=0 then(takeS_Slot x.1,x.2.set cpu.toNat (pushS (q32_Call (rowB x cpu)) (takeE_Slot x.1).1).2)else(takeS_Slot x.1,x.2))else x
def tkE (x:CS) (cpu:Int):Int×Int:=if inB x cpu then(if(frontE (q32_Call (rowB x cpu))).2=0 then((frontE (q32_Call (rowB x cpu))).1,giveE_Slot x.1 (frontE (q32_Call (rowB x cpu))).1)else(0,(frontE (q32_Call (rowB x cpu))).2))else(0,3)
def tkS (x:CS) (cpu:Int):CS:=if inB x cpu then(if(frontE (q32_Call (rowB x cpu))).2=0 then(giveS_Slot x.1 (frontE (q32_Call (rowB x cpu))).1,x.2.set cpu.toNat (rowB x cpu).tail)else(x.1,x.2.set cpu.toNat (rowB x cpu).tail))else x
def popB (x:CS) (cpu:Int):CS:=(x.1,x.2.set cpu.toNat (rowB x cpu).tail)
def mvE (x:CS) (f t:Int):Int×Int:=if inB x f/\inB x t then(if f=t then(0,2)else if(frontE (q32_Call (rowB x f))).2=0 then((frontE (q32_Call (rowB x f))).1,pushE (q32_Call (rowB (popB x f) t)) (frontE (q32_Call (rowB x f))).1)else(0,(frontE (q32_Call (rowB x f))).2))else(0,3)
def mvS (x:CS) (f t:Int):CS:=if inB x f/\inB x t then(if f=t then x else if(frontE (q32_Call (rowB x f))).2=0 then(x.1,(popB x f).2.set t.toNat (pushS (q32_Call (rowB (popB x f) t)) (frontE (q32_Call (rowB x f))).1).2)else popB x f)else x
def lsE_Call (x:CS) (cpu:Int):List Int:=if inB x cpu then rowB x cpu else[]
theorem pushS_q_Call (l:List Int) (n:Int):pushS (q32_Call l) n=q32_Call (pushS (q32_Call l) n).2:=by unfold pushS;split<;>rfl
section
variable {w:World} {F:Fp} {b:Nat} {x:CS}
theorem CaO.slot (h:CaO b w F x):∃b2 F1,SlO b2 w F1 x.1/\(∃p c,Blk w b (caE b2 p x.2.length c) 213)/\∀w' o',Turn (SlO b2) w w' F1 o'->Turn (CaO b) w w' F (o',x.2):=by
 obtain⟨b2,h⟩:=h
 obtain⟨F2,h2,_⟩:=h.right
 obtain⟨F1,h1,k⟩:=h.left
 obtain⟨p,c,hB⟩:=h2.blk
 rw[List.length_map]at hB
 refine⟨b2,F1,h1,⟨p,c,hB⟩,fun w' o' hT=>?_⟩
 obtain⟨F',q1,q2⟩:=k _ _ hT
 exact⟨F',⟨b2,q1⟩,q2⟩
theorem CaO.q (h:CaO b w F x) {i:Nat} (hi:i<x.2.length):∃b2 a c bi F1,Blk w b (caE b2 (some a) x.2.length c) 213/\w.cell? (a.add (i*1))=some (.pointer (some ⟨bi,0,none⟩))/\FqO bi w F1 (q32_Call x.2[i])/\
  ∀w' l',Turn (FqO bi) w w' F1 (q32_Call l')->Turn (CaO b) w w' F (x.1,x.2.set i l'):=by
 obtain⟨b2,h⟩:=h
 obtain⟨F2,h2,k⟩:=h.right
 obtain⟨a,c,bi,F1,hB,hc,hq,ht⟩:=h2.at (i:=i) (by simpa using hi)
 simp only[List.length_map]at hB
 simp only[List.getElem_map]at hq
 refine⟨b2,a,c,bi,F1,hB,hc,hq,fun w' l' hT=>?_⟩
 obtain⟨F',q1,q2⟩:=k _ _ (ht _ _ hT)
 refine⟨F',⟨b2,?_⟩,q2⟩
 simp only[List.map_set]
 exact q1
theorem cmay_ok (h:CaO b w F x) {p:Option Addr} {l:List Int} {c:Nat} (hC:Cells w p (l.map (Value.int .i64))) (hl:l.length<=100) :
  Calls Tryz.prog 188 #[.pointer (some ⟨b,0,none⟩),.slice p l.length c] w fun e w'=>e=.returned (.int .i64 (if ∀v∈l,inB x v then 0 else 3))/\w'=w:=by
 refine u188 ?_
 rw[t188]
 obtain⟨b2,F1,_,⟨p1,c1,hB⟩,_⟩:=h.slot
 refine⟨fun g=>by simp at g,fun _=>?_⟩
 refine⟨WP_loop okProg (M:=M188) (σ:=Nat) (fun j=>e188_1 (some ⟨b,0,none⟩) p l.length c (l.length:Int) (j:Int)) (fun j w'=>j<=l.length/\(∀v∈l.take j,inB x v)/\w'=w) (fun j _=>l.length-j) 0 ⟨rfl,rfl,rfl,rfl,trivial⟩ ⟨by omega,by simp,rfl⟩ ?_⟩
 rintro j w1 ⟨j1,j2,rfl⟩
 rw[t188_1]
 refine⟨fun g=>?_,fun g=>?_⟩
 ·have hj:j<l.length:=by simp at g;omega
  obtain⟨a,ha,hc⟩:=hC.at1 hj
  have hno:¬inB x l[j]->¬∀v∈l,inB x v:=fun h1 h2=>h1 (h2 _ (List.getElem_mem hj))
  refine⟨⟨by omega,by omega⟩,a,ha,_,hc,fun g1=>⟨_,rfl,_,_,_,hB.cell rfl,fun g2=>⟨?_,rfl⟩,fun g2=>?_⟩,fun g1=>⟨?_,rfl⟩⟩
  ·rw[if_neg (hno (by unfold inB;simp at g1 g2;omega))]
  ·refine⟨j+1,⟨rfl,rfl,rfl,by rw[w64 (by omega)];rfl,trivial⟩,⟨by omega,?_,rfl⟩,by omega⟩
   rw[List.take_succ_eq_append_getElem hj]
   intro v hv
   rw[List.mem_append]at hv
   rcases hv with hv|hv
   ·exact j2 v hv
   ·simp at hv;subst hv;unfold inB;simp at g1 g2;omega
  ·rw[if_neg (hno (by unfold inB;simp at g1;omega))]
 ·have:j=l.length:=by simp at g;omega
  subst this
  rw[List.take_length]at j2
  exact⟨by rw[if_pos j2],rfl⟩
theorem cells1 {w w1:World} {v:Int} {T:TypeId} (hN:Newed w w1 (.cells (List.toArray [Value.int .i64 v]) T (0,0))):Cells w1 (some ⟨w.heap.size,0,none⟩) (([v]:List Int).map (Value.int .i64)):=(Sl.new (T:=T) (n:=1) (sz:=1) hN (by simp) (by decide)).cells
theorem cells2 {w w1:World} {u v:Int} {T:TypeId} (hN:Newed w w1 (.cells (List.toArray [Value.int .i64 u,Value.int .i64 v]) T (0,0))):Cells w1 (some ⟨w.heap.size,0,none⟩) (([u,v]:List Int).map (Value.int .i64)):=(Sl.new (T:=T) (n:=2) (sz:=1) hN (by simp) (by decide)).cells
theorem one_if {x:CS} {cpu:Int}:(if ∀v∈([cpu]:List Int),inB x v then(0:Int)else 3)=if inB x cpu then 0 else 3:=by simp
theorem two_if {x:CS} {f t:Int}:(if ∀v∈([f,t]:List Int),inB x v then(0:Int)else 3)=if inB x f/\inB x t then 0 else 3:=by simp
theorem csend_ok (h:CaO b w F x) (hTab:Tab w) (cpu:Int):Calls Tryz.prog 154 #[.pointer (some ⟨b,0,none⟩),.int .i64 cpu] w fun e w'=>e=.returned (.tuple #[.int .i64 (sendE x cpu).1,.int .i64 (sendE x cpu).2])/\Turn (CaO b) w w' F (sendS x cpu):=by
 refine u154 ?_
 rw[t154]
 refine⟨fun w1 hN=>?_⟩
 have hU:=hN.upd no
 have h1:CaO b w1 F x:=(Frame.ca b).upd h hU (fun _ _ h=>h)
 refine⟨(cmay_ok h1 (cells1 hN) (by simp)).mono ?_⟩
 rw[one_if]
 rintro e w2 ⟨rfl,rfl⟩
 refine⟨_,rfl,fun g=>?_,fun g=>?_⟩
 ·have hn:¬inB x cpu:=fun h=>by rw[if_pos h]at g;simp at g
  rw[sendE,sendS,if_neg hn,if_neg hn,if_neg hn]
  exact⟨rfl,F,h1,hU.nn,fun _ h=>.inl h⟩
 ·have hc:inB x cpu:=Classical.byContradiction fun h=>by rw[if_neg h]at g;simp at g
  rw[sendE,sendS,if_pos hc,if_pos hc]
  obtain⟨i,hi,rfl⟩:=inB_at hc
  rw[rowB_at hi]
  obtain⟨b2,F1,hs,⟨p,c,hB⟩,ht⟩:=h1.slot
  refine⟨_,rfl,_,by rw[add00'];exact hB.cell rfl,⟨(slTake_ok (hTab.no hU) hs).mono ?_⟩⟩
  rintro e w3 ⟨rfl,hT⟩
  obtain⟨F3,q1,q2,q3⟩:=ht _ _ hT
  have hUw:Turn (CaO b) w w3 F (takeS_Slot x.1,x.2):=Turn.next h1 hU.nn (fun _ h=>.inl h) ⟨F3,q1,q2,q3⟩
  refine⟨_,_,rfl,fun g1=>?_,fun g1=>?_⟩
  ·rw[if_neg (by simpa using g1),if_neg (by simpa using g1)]
   exact⟨rfl,hUw⟩
  ·rw[if_pos (by simpa using g1),if_pos (by simpa using g1)]
   obtain⟨b2,a,c,bi,F4,hB,hc4,hq,htq⟩:=q1.q (i:=i) hi
   refine⟨_,rfl,_,_,_,hB.cell rfl,⟨by omega,by show(i:Int)<(x.2.length:Int);omega⟩,a,rfl,_,hc4,⟨(qpush_ok hq _).mono ?_⟩⟩
   rintro e w4 ⟨rfl,hT4⟩
   rw[pushS_q_Call]at hT4
   have:=htq _ _ hT4
   exact⟨_,rfl,rfl,Turn.next h1 hU.nn (fun _ h=>.inl h) (Turn.next (s1:=(takeS_Slot x.1,x.2)) q1 q2 q3 this)⟩
theorem ctake_ok_Call (h:CaO b w F x) (cpu:Int):Calls Tryz.prog 219 #[.pointer (some ⟨b,0,none⟩),.int .i64 cpu] w fun e w'=>e=.returned (.tuple #[.int .i64 (tkE x cpu).1,.int .i64 (tkE x cpu).2])/\Turn (CaO b) w w' F (tkS x cpu):=by
 refine u219 ?_
 rw[t219]
 refine⟨fun w1 hN=>?_⟩
 have hU:=hN.upd no
 have h1:CaO b w1 F x:=(Frame.ca b).upd h hU (fun _ _ h=>h)
 refine⟨(cmay_ok h1 (cells1 hN) (by simp)).mono ?_⟩
 rw[one_if]
 rintro e w2 ⟨rfl,rfl⟩
 refine⟨_,rfl,fun g=>?_,fun g=>?_⟩
 ·have hn:¬inB x cpu:=fun h=>by rw[if_pos h]at g;simp at g
  rw[tkE,tkS,if_neg hn,if_neg hn,if_neg hn]
  exact⟨rfl,F,h1,hU.nn,fun _ h=>.inl h⟩
 ·have hc:inB x cpu:=Classical.byContradiction fun h=>by rw[if_neg h]at g;simp at g
  rw[tkE,tkS,if_pos hc,if_pos hc]
  obtain⟨i,hi,rfl⟩:=inB_at hc
  rw[rowB_at hi]
  obtain⟨b2,a,c,bi,F4,hB,hc4,hq,htq⟩:=h1.q (i:=i) hi
  refine⟨_,rfl,_,_,_,hB.cell rfl,⟨by omega,by omega⟩,a,rfl,_,hc4,⟨(qpop_ok hq).mono ?_⟩⟩
  rintro e w3 ⟨rfl,hT⟩
  obtain⟨F3,q1,q2,q3⟩:=htq _ _ hT
  have hUw:Turn (CaO b) w w3 F (x.1,x.2.set i x.2[i].tail):=Turn.next h1 hU.nn (fun _ h=>.inl h) ⟨F3,q1,q2,q3⟩
  refine⟨_,_,rfl,fun g1=>?_,fun g1=>?_⟩
  ·rw[if_neg (by simpa using g1),if_neg (by simpa using g1)]
   exact⟨rfl,hUw⟩
  ·rw[if_pos (by simpa using g1),if_pos (by simpa using g1)]
   obtain⟨b2,F1,hs,⟨p,c,hB⟩,ht⟩:=q1.slot
   refine⟨_,rfl,_,by rw[add00'];exact hB.cell rfl,⟨(slGive_ok hs _).mono ?_⟩⟩
   rintro e w4 ⟨rfl,hT4⟩
   have:=ht _ _ hT4
   exact⟨_,rfl,rfl,Turn.next h1 hU.nn (fun _ h=>.inl h) (Turn.next (s1:=(x.1,x.2.set i x.2[i].tail)) q1 q2 q3 this)⟩
theorem cmove_ok (h:CaO b w F x) (f t:Int):Calls Tryz.prog 359 #[.pointer (some ⟨b,0,none⟩),.int .i64 f,.int .i64 t] w fun e w'=>e=.returned (.tuple #[.int .i64 (mvE x f t).1,.int .i64 (mvE x f t).2])/\Turn (CaO b) w w' F (mvS x f t):=by
 refine u359 ?_
 rw[t359]
 refine⟨fun w1 hN=>?_⟩
 have hU:=hN.upd no
 have h1:CaO b w1 F x:=(Frame.ca b).upd h hU (fun _ _ h=>h)
 refine⟨(cmay_ok h1 (cells2 hN) (by simp)).mono ?_⟩
 rw[two_if]
 rintro e w2 ⟨rfl,rfl⟩
 refine⟨_,rfl,fun g=>?_,fun g=>⟨fun g0=>?_,fun g0=>?_⟩⟩
 ·have hn:¬(inB x f/\inB x t):=fun h=>by rw[if_pos h]at g;simp at g
  rw[mvE,mvS,if_neg hn,if_neg hn,if_neg hn]
  exact⟨rfl,F,h1,hU.nn,fun _ h=>.inl h⟩
 ·have hc:inB x f/\inB x t:=Classical.byContradiction fun h=>by rw[if_neg h]at g;simp at g
  rw[mvE,mvS,if_pos hc,if_pos hc,if_pos (eq_of_beq g0),if_pos (eq_of_beq g0)]
  exact⟨rfl,F,h1,hU.nn,fun _ h=>.inl h⟩
 ·have hc:inB x f/\inB x t:=Classical.byContradiction fun h=>by rw[if_neg h]at g;simp at g
  have hne:¬f=t:=by simpa using g0
  rw[mvE,mvS,if_pos hc,if_pos hc,if_neg hne,if_neg hne]
  obtain⟨i,hi,rfl⟩:=inB_at hc.1
  obtain⟨k,hk,rfl⟩:=inB_at hc.2
  unfold popB
  rw[rowB_at hi]
  obtain⟨b2,a,c,bi,F4,hB,hc4,hq,htq⟩:=h1.q (i:=i) hi
  refine⟨_,rfl,_,_,_,hB.cell rfl,⟨by omega,by omega⟩,a,rfl,_,hc4,⟨(qpop_ok hq).mono ?_⟩⟩
  rintro e w3 ⟨rfl,hT⟩
  obtain⟨F3,q1,q2,q3⟩:=htq _ _ hT
  have hUw:Turn (CaO b) w w3 F (x.1,x.2.set i x.2[i].tail):=Turn.next h1 hU.nn (fun _ h=>.inl h) ⟨F3,q1,q2,q3⟩
  refine⟨_,_,rfl,fun g1=>?_,fun g1=>?_⟩
  ·rw[if_neg (by simpa using g1),if_neg (by simpa using g1)]
   exact⟨rfl,hUw⟩
  ·rw[if_pos (by simpa using g1),if_pos (by simpa using g1)]
   have hk2:k<(x.2.set i x.2[i].tail).length:=by simpa using hk
   obtain⟨b2,a,c,bi,F4,hB,hc4,hq,htq⟩:=q1.q (i:=k) hk2
   refine⟨_,rfl,_,_,_,hB.cell rfl,⟨by omega,by simp only[List.length_set];omega⟩,a,rfl,_,hc4,⟨(qpush_ok hq _).mono ?_⟩⟩
   rintro e w4 ⟨rfl,hT4⟩
   rw[pushS_q_Call]at hT4
   have:=htq _ _ hT4
   have er:rowB (x.1,x.2.set (Int.toNat (i:Int)) x.2[i].tail) (k:Int)=(x.2.set i x.2[i].tail)[k]:=rowB_at (x:=(x.1,x.2.set i x.2[i].tail)) hk2
   rw[er]
   exact⟨_,rfl,rfl,Turn.next h1 hU.nn (fun _ h=>.inl h) (Turn.next (s1:=(x.1,x.2.set i x.2[i].tail)) q1 q2 q3 this)⟩
theorem clist_ok (h:CaO b w F x) (cpu:Int):Calls Tryz.prog 95 #[.pointer (some ⟨b,0,none⟩),.int .i64 cpu] w fun e w'=>∃p c,e=.returned (.slice p (lsE_Call x cpu).length c)/\Cells w' p ((lsE_Call x cpu).map (Value.int .i64))/\Upd no w w':=by
 refine u95 ?_
 rw[t95]
 refine⟨fun w1 hN=>?_⟩
 have hU:=hN.upd no
 have h1:CaO b w1 F x:=(Frame.ca b).upd h hU (fun _ _ h=>h)
 refine⟨(cmay_ok h1 (cells1 hN) (by simp)).mono ?_⟩
 rw[one_if]
 rintro e w2 ⟨rfl,rfl⟩
 refine⟨_,rfl,fun g=>?_,fun g=>?_⟩
 ·have hn:¬inB x cpu:=fun h=>by rw[if_pos h]at g;simp at g
  rw[lsE_Call,if_neg hn]
  exact⟨none,0,rfl,Cells.nil _ _,hU⟩
 ·have hc:inB x cpu:=Classical.byContradiction fun h=>by rw[if_neg h]at g;simp at g
  rw[lsE_Call,if_pos hc]
  obtain⟨i,hi,rfl⟩:=inB_at hc
  rw[rowB_at hi]
  obtain⟨b2,a,c,bi,F4,hB,hc4,hq,htq⟩:=h1.q (i:=i) hi
  refine⟨_,rfl,_,_,_,hB.cell rfl,⟨by omega,by omega⟩,a,rfl,_,hc4,⟨(qlist_ok hq).mono ?_⟩⟩
  rintro e w3 ⟨p,c,rfl,hC,hU3⟩
  exact⟨_,_,_,rfl,_,_,rfl,hC,hU.and hU3⟩
theorem cload_ok (h:CaO b w F x) (cpu:Int):Calls Tryz.prog 204 #[.pointer (some ⟨b,0,none⟩),.int .i64 cpu] w fun e w'=>e=.returned (.int .i64 ((lsE_Call x cpu).length:Int))/\Upd no w w':=by
 refine u204 ?_
 rw[t204]
 refine⟨(clist_ok h cpu).mono ?_⟩
 rintro e w1 ⟨p,c,rfl,_,hU⟩
 exact⟨_,_,_,rfl,rfl,hU⟩
def okC_Call (n:Int):Prop:=1<=n/\n<=64
def newC (n:Int):CS:=(List.replicate 32 false,List.replicate n.toNat [])
theorem cnew_ok_Call (n:Int) (w:World):Calls Tryz.prog 46 #[.int .i64 n] w fun e w'=>
  (¬okC_Call n/\e=.returned (.tuple #[.pointer none,.int .i64 2])/\w'=w)∨
  (okC_Call n/\∃b F,e=.returned (.tuple #[.pointer (some ⟨b,0,none⟩),.int .i64 0])/\CaO b w' F (newC n)/\Upd no w w'/\∀i,F i->w.heap.size<=i):=by
 refine u46 ?_
 rw[t46]
 refine⟨fun g1=>⟨fun g2=>.inl ⟨?_,rfl,rfl⟩,fun g2=>?_⟩,fun g1=>.inl ⟨?_,rfl,rfl⟩⟩
 ·unfold okC_Call;simp at g2;omega
 ·have g1:¬n<1:=by simpa using g1
  have g2:¬64<n:=by simpa using g2
  obtain⟨k,rfl⟩:∃k:Nat,n=k:=⟨n.toNat,by omega⟩
  refine⟨(slNew_ok 32 w).mono ?_⟩
  rintro e w1 hh
  obtain⟨_,b2,F1,rfl,hQ,hU,hF⟩:=hh.resolve_left (fun h=>absurd (by omega) h.1)
  have hM:Mine w w1 (SlO b2) (List.replicate 32 false):=Mine.new (Upd.refl _ _) hU hQ hF
  clear hU hQ hF
  refine⟨_,_,rfl,fun g=>by simp at g,fun _=>⟨fun w2 hN=>?_⟩⟩
  replace hM:Mine w w2 (Star (SlO b2) (BxO w1.heap.size b2)) (List.replicate 32 false,[]):=hM.add (hN.upd no) (Tq.nil hN rfl) (fun i hi=>Nat.le_of_eq hi.symm)
  generalize w1.heap.size=b at hM⊢
  refine⟨WP_loop okProg (M:=M46) (σ:=Nat) (fun j=>e46_1 (some ⟨b,0,none⟩) (k:Int) (j:Int)) (fun j w'=>j<=k/\Mine w w' (Star (SlO b2) (BxO b b2)) (List.replicate 32 false,List.replicate j (q32_Call []))) (fun j _=>k-j) 0 ⟨rfl,rfl,rfl,trivial⟩ ⟨by omega,hM⟩ ?_⟩
  clear hM hN
  rintro j w3 ⟨j1,hM⟩
  rw[t46_1]
  refine⟨fun g=>?_,fun g=>?_⟩
  ·have hj:j<k:=by simp at g;omega
   refine⟨(new_ok_Fifo 32 w3).mono ?_⟩
   rintro e w4 hh
   obtain⟨_,bq,G,rfl,hQ,hU,hG⟩:=hh.resolve_left (fun h=>absurd (by omega) h.1)
   obtain⟨F2,hA,hT⟩:=hM.right
   obtain⟨p,c,hB,hgo⟩:=Tq.push elQ_Call (k:=1) (fun _ _ _ _ _ _=>rfl) (fun _ _ _=>Nat.le_refl _) hA (by simp;omega) hU hQ hG
   refine⟨_,_,rfl,fun g=>by simp at g,fun _=>⟨_,rfl,_,_,_,hB.cell rfl,⟨fun w5 hN=>?_⟩⟩⟩
   obtain⟨p',c',w6,hr,hK⟩:=hgo w5 hN 205
   refine⟨_,_,_,w6,hr,_,rfl,hK _ fun w7 h7=>?_⟩
   have h8:=hT _ _ h7
   refine⟨j+1,⟨rfl,rfl,by rw[w64 (by omega)];rfl,trivial⟩,⟨by omega,?_⟩,by omega⟩
   rw[List.replicate_succ' (n:=j)]
   exact h8
  ·have:j=k:=by simp at g;omega
   subst this
   obtain⟨F,hF1,hF2,hF3⟩:=hM
   refine .inr ⟨⟨by omega,by omega⟩,b,F,rfl,⟨b2,?_⟩,hF2,hF3⟩
   simp only[newC,List.map_replicate,Int.toNat_natCast]
   exact hF1
 ·unfold okC_Call;simp at g1;omega
end
end Go.Dav
namespace Go.Dav
open Go.Proofs
def tz8 (x:Nat):Nat:=((List.range 8).find? (fun k=>x.testBit k)).getD 8
def oc8 (x:Nat):Nat:=((List.range 8).filter (fun k=>x.testBit k)).length
theorem tz8_le (x:Nat):tz8 x<=8:=by
 unfold tz8
 cases h:(List.range 8).find? (fun k=>x.testBit k)with
 | none=>simp
 | some k=>have:=List.mem_of_find?_eq_some h;simp at this;simp;omega
theorem tz8_ok {x:Nat} (hx:x<256) (w:World):Calls Tryz.prog 379 #[.int .u8 x] w fun e w'=>e=.returned (.int .i64 (tz8 x))/\w'=w:=by
 refine u379 ?_
 rw[t379]
 have hle:=tz8_le x
 exact⟨⟨by omega,by omega⟩,(tz8 x:Int),byte_at tz8 (by decide +kernel) hx,by rw[w64 (by omega)],rfl⟩
def z8 (x:Nat):Nat:=tz8 (255-x)
def clr (x k:Nat):Nat:=x&&& (255-2 ^ k)
def ior (x k:Nat):Nat:=x||| 2 ^ k
def bitsB (x:Nat):List Bool:=(List.range 8).map x.testBit
theorem ops8:∀x:Nat,x<256->∀k:Nat,k<8->bitsOp .or .u8 (x:Int) (shlOp .u8 1 (k:Int))=(ior x k:Int)/\bitsOp .andNot .u8 (x:Int) (shlOp .u8 1 (k:Int))=(clr x k:Int)/\
  (bitsOp .and .u8 (x:Int) (shlOp .u8 1 (k:Int)) !=0)=x.testBit k/\ior x k<256/\clr x k<256/\bitsB (ior x k)=(bitsB x).set k true/\bitsB (clr x k)=(bitsB x).set k false:=by decide +kernel
theorem shl8:∀k:Nat,k<8->(shlOp .u8 1 (k:Int) !=0)=true:=by decide +kernel
theorem one8:∀x:Nat,x<256->bitsOp .xor .u8 (IntKind.max .u8) (x:Int)=((255-x:Nat):Int)/\(oc8 x=0↔x=0)/\(oc8 x=8↔x=255)/\(x≠255->z8 x<8/\x.testBit (z8 x)=false/\∀k:Nat,k<z8 x->x.testBit k=true):=by decide +kernel
structure PgOk (pg:List Nat):Prop where
 len:1<=pg.length/\pg.length<=12
 lt:∀x∈pg,x<256
theorem PgOk.at {pg:List Nat} (h:PgOk pg) {i:Nat} (hi:i<pg.length):pg[i]<256:=h.lt _ (List.getElem_mem hi)
theorem PgOk.set {pg:List Nat} (h:PgOk pg) (i:Nat) {x:Nat} (hx:x<256):PgOk (pg.set i x):=
 ⟨by simpa using h.len,fun y hy=>(List.mem_or_eq_of_mem_set hy).elim (h.lt y) (fun e=>e ▸ hx)⟩
def pgI (x:Nat):Value:=.int .u8 (x:Int)
def plE_Pool (pg:List Nat):List Value:=pg.map pgI++(List.replicate (12-pg.length) (pgI 0)++[.int .i64 (pg.length:Int)])
def PlO (b:Nat):Ob (List Nat):=fun w F x=>Rw b 298 plE_Pool w F x/\PgOk x
instance Frame.pl (b:Nat):Frame (PlO b) where
 upd:=fun⟨h,r⟩ k hG=>⟨(Frame.rw ..).upd h k hG,r⟩
 lt:=fun⟨h,_⟩=>(Frame.rw ..).lt h
def p1 (x:Nat):Bool:=x !=0&&x !=255
def p2 (x:Nat):Bool:=x==0
def fI (o:Option Nat):Int:=match o with|some i=>(i:Int)|none=>-1
def takeP (pg:List Nat):Option Nat:=match pg.findIdx? p1 with|some i=>some i|none=>pg.findIdx? p2
def takeE_Pool (pg:List Nat):Int×Int:=match takeP pg with|some i=>(((8*i+z8 (pg.getD i 0)+1:Nat):Int),0)|none=>(0,5)
def takeS_Pool (pg:List Nat):List Nat:=match takeP pg with|some i=>pg.set i (ior (pg.getD i 0) (z8 (pg.getD i 0)))|none=>pg
def inP (pg:List Nat) (id:Int):Prop:=1<=id/\id<=8*(pg.length:Int)
instance (pg:List Nat) (id:Int):Decidable (inP pg id):=by unfold inP;infer_instance
def outE (pg:List Nat) (id:Int):Bool:=if inP pg id then(pg.getD ((id.toNat-1)/8) 0).testBit ((id.toNat-1)%8)else false
def giveE_Pool (pg:List Nat) (id:Int):Int:=if outE pg id then 0 else 4
def giveS_Pool (pg:List Nat) (id:Int):List Nat:=if outE pg id then pg.set ((id.toNat-1)/8) (clr (pg.getD ((id.toNat-1)/8) 0) ((id.toNat-1)%8))else pg
theorem fi_some {p:Nat->Bool} {pg:List Nat} {j:Nat} (hj:j<pg.length) (h1:∀i (hi:i<pg.length),i<j->p pg[i]=false) (h2:p pg[j]=true):pg.findIdx? p=some j:=
 List.findIdx?_eq_some_iff_getElem.2 ⟨hj,h2,fun i hi=>by simp[h1 i (by omega) hi]⟩
theorem fi_none {p:Nat->Bool} {pg:List Nat} (h:∀i (hi:i<pg.length),p pg[i]=false):pg.findIdx? p=none:=
 List.findIdx?_eq_none_iff.2 fun x hx=>by obtain⟨i,hi,rfl⟩:=List.mem_iff_getElem.1 hx;exact h i hi
theorem fi_at {p:Nat->Bool} {pg:List Nat} {j:Nat} (h:pg.findIdx? p=some j):∃hj:j<pg.length,p pg[j]=true:=by
 obtain⟨hj,h2,_⟩:=List.findIdx?_eq_some_iff_getElem.1 h
 exact⟨hj,h2⟩
theorem takeP_at {pg:List Nat} {j:Nat} (h:takeP pg=some j):∃hj:j<pg.length,pg[j]≠255:=by
 unfold takeP at h
 cases h1:pg.findIdx? p1 with
 | some i=>
  rw[h1]at h
  simp only[Option.some.injEq]at h
  subst h
  obtain⟨hj,h2⟩:=fi_at h1
  exact⟨hj,by simp[p1]at h2;exact h2.2⟩
 | none=>
  rw[h1]at h
  obtain⟨hj,h2⟩:=fi_at h
  exact⟨hj,by simp[p2]at h2;omega⟩
theorem in_split {pg:List Nat} {id:Int} (h:inP pg id):∃i k:Nat,i<pg.length/\k<8/\id=((8*i+k+1:Nat):Int):=by
 unfold inP at h
 exact⟨(id.toNat-1)/8,(id.toNat-1)%8,by omega,by omega,by omega⟩
section
variable {pg:List Nat} {i k:Nat} (hi:i<pg.length) (hk:k<8)
include hi hk
theorem in_of:inP pg ((8*i+k+1:Nat):Int):=by unfold inP;omega
theorem out_of:outE pg ((8*i+k+1:Nat):Int)=pg[i].testBit k:=by
 unfold outE
 rw[if_pos (in_of hi hk)]
 have e1:(((8*i+k+1:Nat):Int).toNat-1)/8=i:=by omega
 have e2:(((8*i+k+1:Nat):Int).toNat-1)%8=k:=by omega
 rw[e1,e2]
 simp[hi]
theorem give_of:giveS_Pool pg ((8*i+k+1:Nat):Int)=if pg[i].testBit k then pg.set i (clr pg[i] k)else pg:=by
 unfold giveS_Pool
 rw[out_of hi hk]
 have e1:(((8*i+k+1:Nat):Int).toNat-1)/8=i:=by omega
 have e2:(((8*i+k+1:Nat):Int).toNat-1)%8=k:=by omega
 rw[e1,e2]
 simp[hi]
end
theorem add00 (b k:Nat):Addr.add (Addr.add ⟨b,0,none⟩ 0) k=(⟨b,0,none⟩:Addr).add k:=by rw[add_lit b 0 0]
section
variable {w:World} {F:Fp} {b:Nat} {pg:List Nat}
theorem plE_at {i:Nat} (hi:i<pg.length):(plE_Pool pg)[i]?=some (pgI pg[i]):=by
 unfold plE_Pool
 rw[List.getElem?_append_left (by simpa using hi)]
 simp[hi]
theorem plE_set {i:Nat} (hi:i<pg.length) (x:Nat):setL (plE_Pool pg) i [pgI x]=plE_Pool (pg.set i x):=by
 unfold plE_Pool
 rw[setL_app (by simp;omega),setL_set hi]
 simp
theorem plE_many (h:PgOk pg):(plE_Pool pg)[12]?=some (.int .i64 (pg.length:Int)):=by
 have:=h.len
 unfold plE_Pool
 rw[List.getElem?_append_right (by simp;omega),List.getElem?_append_right (by simp)]
 simp
theorem PlO.page (h:PlO b w F pg) {i:Nat} (hi:i<pg.length):w.cell? (Addr.add (Addr.add ⟨b,0,none⟩ 0) (i*1))=some (.int .u8 (pg[i]:Int)):=by
 rw[add00,Nat.mul_one]
 exact h.1.blk.cell (plE_at hi)
theorem PlO.many (h:PlO b w F pg):w.cell? ((⟨b,0,none⟩:Addr).add 12)=some (.int .i64 (pg.length:Int)):=h.1.blk.cell (plE_many h.2)
theorem PlO.wr (h:PlO b w F pg) {w1:World} (hU:Upd no w w1) {i:Nat} (hi:i<pg.length) {x:Nat} (hx:x<256) {K:World->Prop} (hK:∀w',Turn (PlO b) w w' F (pg.set i x)->K w') :
  Wr w1 (Addr.add (Addr.add ⟨b,0,none⟩ 0) (i*1)) [.int .u8 (x:Int)] K:=by
 rw[add00,Nat.mul_one]
 have hB:=h.1.blk.upd hU id
 refine hB.wr (by simp[plE_Pool];omega) fun w' hW=>hK w' ?_
 have hb:=hW.blk'
 have e:=plE_set hi x
 unfold pgI at e
 rw[e]at hb
 obtain⟨F',t1,t2,t3⟩:=h.1.turned ((hU.mono fun _ _ h=>h.elim).and hW.U) hb
 exact⟨F',⟨t1,h.2.set i hx⟩,t2,t3⟩
theorem new_ok_Pool (n:Int) (w:World):Calls Tryz.prog 111 #[.int .i64 n] w fun e w'=>
  (¬(1<=n/\n<=12)/\e=.returned (.tuple #[.pointer none,.int .i64 2])/\w'=w)∨
  ((1<=n/\n<=12)/\∃b F,e=.returned (.tuple #[.pointer (some ⟨b,0,none⟩),.int .i64 0])/\PlO b w' F (List.replicate n.toNat 0)/\Upd no w w'/\∀i,F i->w.heap.size<=i):=by
 refine u111 ?_
 rw[t111]
 refine⟨fun h1=>⟨fun h2=>.inl ⟨?_,rfl,rfl⟩,fun h2=>?_⟩,fun h1=>.inl ⟨?_,rfl,rfl⟩⟩
 ·simp at h2;omega
 ·have h1:¬n<1:=by simpa using h1
  have h2:¬12<n:=by simpa using h2
  obtain⟨m,rfl⟩:∃m:Nat,n=m:=⟨n.toNat,by omega⟩
  refine⟨fun w2 hN=>.inr ⟨by omega,w.heap.size,_,rfl,⟨Rw.new hN ?_,⟨by simp;omega,fun x hx=>?_⟩⟩,hN.upd no,fun i hi=>Nat.le_of_eq hi.symm⟩⟩
  ·unfold plE_Pool
   rw[List.map_replicate,<-List.append_assoc,Int.toNat_natCast,List.length_replicate,List.replicate_append_replicate]
   rw[show m+(12-m)=12 by omega]
   rfl
  ·have:=List.eq_of_mem_replicate hx;omega
 ·simp at h1;omega
theorem bit_in (h:PlO b w F pg) {i k:Nat} (hi:i<pg.length) (hk:k<8):Calls Tryz.prog 380 #[.pointer (some ⟨b,0,none⟩),.int .i64 ((8*i+k+1:Nat):Int)] w fun e w'=>e=.returned (.tuple #[.int .i64 (i:Int),.int .u8 (shlOp .u8 1 (k:Int))])/\Upd no w w':=by
 have hl:=h.2.len
 refine u380 ?_
 rw[t380]
 refine⟨fun _=>⟨fun _=>⟨_,rfl,_,h.many,fun g=>?_,fun _=>?_⟩,fun g=>by simp at g;omega⟩,fun g=>by simp at g⟩
 ·rw[w64 (by omega)]at g;simp at g;omega
 ·intro w1 q1 q2 q3 q4
  have e0:IntKind.wrap .i64 (((8*i+k+1:Nat):Int)-1)=((8*i+k:Nat):Int):=by rw[w64 (by omega)];omega
  have e1:Int.tdiv ((8*i+k:Nat):Int) 8=(i:Int):=by rw[Int.tdiv_eq_ediv_of_nonneg (by omega)];omega
  have e2:Int.tmod ((8*i+k:Nat):Int) 8=(k:Int):=by rw[Int.tmod_eq_emod_of_nonneg (by omega)];omega
  rw[e0,e1,e2]
  refine⟨by omega,by omega,by omega,by rw[w64 (by omega)],Upd.same no q1 q2 q3 q4⟩
theorem bit_out (h:PlO b w F pg) {id:Int} (hi:¬inP pg id):Calls Tryz.prog 380 #[.pointer (some ⟨b,0,none⟩),.int .i64 id] w fun e w'=>e=.returned (.tuple #[.int .i64 0,.int .u8 0])/\w'=w:=by
 have hl:=h.2.len
 refine u380 ?_
 rw[t380]
 unfold inP at hi
 refine⟨fun _=>⟨fun g=>⟨_,rfl,_,h.many,fun _=>⟨rfl,rfl⟩,fun g2=>?_⟩,fun _=>⟨rfl,rfl⟩⟩,fun g=>by simp at g⟩
 rw[w64 (by omega)]at g2;simp at g g2;omega
theorem out_ok (h:PlO b w F pg) (id:Int):Calls Tryz.prog 327 #[.pointer (some ⟨b,0,none⟩),.int .i64 id] w fun e w'=>e=.returned (.bool (outE pg id))/\Upd no w w':=by
 refine u327 ?_
 rw[t327]
 by_cases hin:inP pg id
 ·obtain⟨i,k,hi,hk,rfl⟩:=in_split hin
  refine⟨(bit_in h hi hk).mono ?_⟩
  rintro e w1 ⟨rfl,hU⟩
  have h1:PlO b w1 F pg:=(Frame.pl b).upd h hU fun _ _ h=>h
  refine⟨_,_,rfl,fun _=>⟨_,rfl,⟨by omega,by have:=h.2.len;omega⟩,_,h1.page hi,?_,hU⟩,fun g=>?_⟩
  ·rw[out_of hi hk,(ops8 _ (h.2.at hi) k hk).2.2.1]
  ·rw[shl8 k hk]at g;cases g
 ·refine⟨(bit_out h hin).mono ?_⟩
  rintro e w1 ⟨rfl,rfl⟩
  exact⟨_,_,rfl,fun g=>by simp at g,fun _=>⟨by rw[outE,if_neg hin],Upd.refl _ _⟩⟩
theorem give_ok (h:PlO b w F pg) (id:Int):Calls Tryz.prog 330 #[.pointer (some ⟨b,0,none⟩),.int .i64 id] w fun e w'=>e=.returned (.int .i64 (giveE_Pool pg id))/\Turn (PlO b) w w' F (giveS_Pool pg id):=by
 refine u330 ?_
 rw[t330]
 refine⟨fun g=>by simp at g,fun _=>⟨(out_ok h id).mono ?_⟩⟩
 rintro e w1 ⟨rfl,hU⟩
 refine⟨_,rfl,fun g=>?_,fun g=>?_⟩
 ·have g:¬outE pg id=true:=by simpa using g
  rw[giveE_Pool,giveS_Pool,if_neg g,if_neg g]
  exact⟨rfl,Turn.quiet h hU⟩
 ·have g:outE pg id=true:=by simpa using g
  have hin:inP pg id:=by unfold outE at g;split at g<;>first|assumption|cases g
  obtain⟨i,k,hi,hk,rfl⟩:=in_split hin
  have h1:PlO b w1 F pg:=(Frame.pl b).upd h hU fun _ _ h=>h
  refine⟨(bit_in h1 hi hk).mono ?_⟩
  rintro e w2 ⟨rfl,hU2⟩
  refine⟨_,_,rfl,fun w3 q1 q2 q3 q4=>?_⟩
  have hU3:=(hU.and hU2).and (Upd.same no q1 q2 q3 q4)
  have h3:PlO b w3 F pg:=(Frame.pl b).upd h hU3 fun _ _ h=>h
  have hl:=h.2.len
  refine⟨_,rfl,⟨by omega,by omega⟩,_,h3.page hi,_,rfl,⟨by omega,by omega⟩,?_⟩
  have o:=ops8 _ (h.2.at hi) k hk
  rw[o.2.1]
  refine h.wr hU3 hi o.2.2.2.2.1 fun w' hT=>?_
  rw[giveE_Pool,if_pos g,give_of hi hk,if_pos (by rw[<-out_of hi hk];exact g)]
  exact⟨rfl,hT⟩
theorem find1_ok (h:PlO b w F pg):Calls Tryz.prog 376 #[.pointer (some ⟨b,0,none⟩),.func (.func 377) #[] #[]] w fun e w'=>e=.returned (.int .i64 (fI (pg.findIdx? p1)))/\w'=w:=by
 have hl:=h.2.len
 refine u376 ?_
 rw[t376]
 refine⟨_,rfl,_,h.many,⟨WP_loop okProg (M:=M376) (σ:=Nat) (fun j=>e376_1 (some ⟨b,0,none⟩) (pg.length:Int) (j:Int)) (fun j w'=>j<=pg.length/\(∀i (hi:i<pg.length),i<j->p1 pg[i]=false)/\w'=w) (fun j _=>pg.length-j) 0 ⟨rfl,rfl,rfl,rfl,trivial⟩ ⟨by omega,fun i _ h=>by omega,rfl⟩ ?_⟩⟩
 rintro j w' ⟨h1,h2,rfl⟩
 rw[t376_1]
 refine⟨fun g=>?_,fun g=>⟨?_,rfl⟩⟩
 ·have hj:j<pg.length:=by simpa using g
  refine⟨_,rfl,⟨by omega,by omega⟩,_,h.page hj,⟨u377 ?_⟩⟩
  rw[t377]
  have fin:∃b',Ending.returned (.bool (p1 pg[j]))=Ending.returned (.bool b')/\(b'=true->Ending.returned (Value.int .i64 (j:Int))=Ending.returned (.int .i64 (fI (pg.findIdx? p1)))/\w'=w')/\(b'=false->∃j',CoversL [(0,SV.v (Value.pointer (some ⟨b,0,none⟩))),(1,SV.v (Value.func (Fn.func 377) #[] #[])),(9,SV.v (Value.int IntKind.i64 (pg.length:Int))),(10,SV.v (Value.int IntKind.i64 (IntKind.wrap IntKind.i64 ((j:Int)+(1:Int)))))] (e376_1 (some ⟨b,0,none⟩) (pg.length:Int) (j':Nat))/\(j'<=pg.length/\(∀i (hi:i<pg.length),i<j'->p1 pg[i]=false)/\w'=w')/\pg.length-j'<pg.length-j):=by
   refine⟨_,rfl,fun g2=>⟨by rw[fi_some hj h2 g2];rfl,rfl⟩,fun g2=>⟨j+1,⟨rfl,rfl,rfl,by rw[w64 (x:=(j:Int)+1) (by omega)];rfl,trivial⟩,⟨by omega,fun i hi hij=>?_,rfl⟩,by omega⟩⟩
   by_cases hij':i=j
   ·subst hij';exact g2
   ·exact h2 i hi (by omega)
  have hb:((((pg[j]:Nat):Int) !=0)=true)=((pg[j] !=0)=true):=by simp
  have hb':((((pg[j]:Nat):Int) !=0)=false)=((pg[j] !=0)=false):=by simp
  rw[hb,hb']
  refine⟨fun k1=>?_,fun k1=>?_⟩
  ·have e:(((pg[j]:Nat):Int) !=255)=p1 pg[j]:=by
    unfold p1;rw[k1];simp only[Bool.true_and];rw[Bool.eq_iff_iff];simp;omega
   rw[e];exact fin
  ·have e:p1 pg[j]=false:=by unfold p1;rw[k1];rfl
   rw[e]at fin;exact fin
 ·have:j=pg.length:=by simp at g;omega
  subst this
  rw[fi_none fun i hi=>h2 i hi hi];rfl
theorem find2_ok (h:PlO b w F pg):Calls Tryz.prog 376 #[.pointer (some ⟨b,0,none⟩),.func (.func 378) #[] #[]] w fun e w'=>e=.returned (.int .i64 (fI (pg.findIdx? p2)))/\w'=w:=by
 have hl:=h.2.len
 refine Fn2.u376 ?_
 rw[Fn2.t376]
 refine⟨_,rfl,_,h.many,⟨WP_loop okProg (M:=Fn2.M376) (σ:=Nat) (fun j=>Fn2.e376_1 (some ⟨b,0,none⟩) (pg.length:Int) (j:Int)) (fun j w'=>j<=pg.length/\(∀i (hi:i<pg.length),i<j->p2 pg[i]=false)/\w'=w) (fun j _=>pg.length-j) 0 ⟨rfl,rfl,rfl,rfl,trivial⟩ ⟨by omega,fun i _ h=>by omega,rfl⟩ ?_⟩⟩
 rintro j w' ⟨h1,h2,rfl⟩
 rw[Fn2.t376_1]
 refine⟨fun g=>?_,fun g=>⟨?_,rfl⟩⟩
 ·have hj:j<pg.length:=by simpa using g
  refine⟨_,rfl,⟨by omega,by omega⟩,_,h.page hj,⟨u378 ?_⟩⟩
  rw[t378]
  have e:(((pg[j]:Nat):Int)==0)=p2 pg[j]:=by unfold p2;rw[Bool.eq_iff_iff];simp
  rw[e]
  refine⟨_,rfl,fun g2=>⟨by rw[fi_some hj h2 g2];rfl,rfl⟩,fun g2=>⟨j+1,⟨rfl,rfl,rfl,by rw[w64 (x:=(j:Int)+1) (by omega)];rfl,trivial⟩,⟨by omega,fun i hi hij=>?_,rfl⟩,by omega⟩⟩
  by_cases hij':i=j
  ·subst hij';exact g2
  ·exact h2 i hi (by omega)
 ·have:j=pg.length:=by simp at g;omega
  subst this
  rw[fi_none fun i hi=>h2 i hi hi];rfl
theorem take0_ok (h:PlO b w F pg):CutD Tryz.prog M326 c326_0 (e326_0 (some ⟨b,0,none⟩) (fI (takeP pg))) w (k326_0 fun e w'=>e=.returned (.tuple #[.int .i64 (takeE_Pool pg).1,.int .i64 (takeE_Pool pg).2])/\Turn (PlO b) w w' F (takeS_Pool pg)):=by
 refine CutD.mk ?_
 rw[t326_0]
 have hl:=h.2.len
 unfold takeE_Pool takeS_Pool
 cases hp:takeP pg with
 | none=>
  simp only[fI]
  exact⟨fun _=>⟨by trivial,Turn.same h⟩,fun g=>by simp at g⟩
 | some i=>
  obtain⟨hi,hne⟩:=takeP_at hp
  have hx:=h.2.at hi
  obtain⟨o1,o2,o3,o4⟩:=one8 _ hx
  have o4:=o4 hne
  have o:=ops8 _ hx _ o4.1
  have hg:pg.getD i 0=pg[i]:=by simp[hi]
  simp only[fI,hg]
  refine⟨fun g=>absurd (of_decide_eq_true g) (by omega),fun _=>⟨_,rfl,⟨by omega,by omega⟩,_,h.page hi,?_⟩⟩
  rw[o1]
  refine⟨(tz8_ok (by omega) w).mono ?_⟩
  rintro e w1 ⟨rfl,rfl⟩
  refine⟨_,rfl,fun w2 q1 q2 q3 q4=>?_⟩
  have hU:=Upd.same no q1 q2 q3 q4
  have h2:PlO b w2 F pg:=(Frame.pl b).upd h hU fun _ _ h=>h
  refine⟨_,rfl,⟨by omega,by omega⟩,_,h2.page hi,by omega,_,rfl,⟨by omega,by omega⟩,?_⟩
  show Wr w2 _ [.int .u8 (bitsOp .or .u8 (pg[i]:Int) (shlOp .u8 1 (z8 pg[i]:Int)))] _
  rw[o.1]
  refine h.wr hU hi o.2.2.2.1 fun w' hT=>⟨?_,hT⟩
  show Ending.returned (.tuple #[.int .i64 (IntKind.wrap .i64 (IntKind.wrap .i64 (IntKind.wrap .i64 ((i:Int)*8)+(z8 pg[i]:Int))+1)),.int .i64 0])=_
  rw[w64 (x:=(i:Int)*8) (by omega),w64 (x:=(i:Int)*8+(z8 pg[i]:Int)) (by omega),w64 (by omega)]
  have:(i:Int)*8+(z8 pg[i]:Int)+1=((8*i+z8 pg[i]+1:Nat):Int):=by omega
  rw[this]
theorem take_ok (h:PlO b w F pg):Calls Tryz.prog 326 #[.pointer (some ⟨b,0,none⟩)] w fun e w'=>e=.returned (.tuple #[.int .i64 (takeE_Pool pg).1,.int .i64 (takeE_Pool pg).2])/\Turn (PlO b) w w' F (takeS_Pool pg):=by
 refine u326 ?_
 rw[t326]
 refine⟨fun g=>by simp at g,fun _=>⟨(find1_ok h).mono ?_⟩⟩
 rintro e w1 ⟨rfl,rfl⟩
 have h0:=take0_ok h
 unfold takeP at h0
 cases hp:pg.findIdx? p1 with
 | some i=>
  rw[hp]at h0
  exact⟨_,rfl,fun g=>absurd (of_decide_eq_true g) (by simp only[fI];omega),fun _=>h0⟩
 | none=>
  rw[hp]at h0
  refine⟨_,rfl,fun _=>⟨(find2_ok h).mono ?_⟩,fun g=>by simp[fI]at g⟩
  rintro e w1 ⟨rfl,rfl⟩
  exact⟨_,rfl,h0⟩
end
end Go.Dav
namespace Go.Dav
open Go.Proofs
abbrev KS:=List Nat×List (List Int)
def KpO (PO:Nat->Ob (List Nat)) (T E I:TypeId) (enc:Nat->Nat->Option Addr->Nat->Nat->List Value) (b:Nat):Ob KS:=fun w F x=>(∃b2,Star (PO b2) (Tb b T E I (enc b2 x.1.length)) w F x)/\∀l∈x.2,l.length<=4
section
variable {PO:Nat->Ob (List Nat)} [fp:∀b,Frame (PO b)] {T E I:TypeId} {enc:Nat->Nat->Option Addr->Nat->Nat->List Value} {b:Nat} {w w':World} {F:Fp} {x:KS}
instance Frame.kp:Frame (KpO PO T E I enc b) where
 upd:=fun⟨⟨b2,h⟩,r⟩ k hG=>⟨⟨b2,Frame.star.upd h k hG⟩,r⟩
 lt:=fun⟨⟨b2,h⟩,_⟩=>Frame.star.lt h
theorem KpO.ptr (h:KpO PO T E I enc b w F x):∃b2 F1,PO b2 w F1 x.1/\(∃p c,Blk w b (enc b2 x.1.length p x.2.length c) T)/\∀w' pg',pg'.length=x.1.length->Turn (PO b2) w w' F1 pg'->Turn (KpO PO T E I enc b) w w' F (pg',x.2):=by
 obtain⟨⟨b2,h⟩,r⟩:=h
 obtain⟨F2,h2,_⟩:=h.right
 obtain⟨F1,h1,k⟩:=h.left
 refine⟨b2,F1,h1,h2.blk,fun w' pg' hl hT=>?_⟩
 obtain⟨F',q1,q2,q3⟩:=k _ _ hT
 exact⟨F',⟨⟨b2,by rw[hl];exact q1⟩,r⟩,q2,q3⟩
def RowsAt (w:World) (p:Option Addr) (L:List (List Int)):Prop:=∀i (hi:i<L.length),∃a q d,p=some a/\w.cell? (a.add (i*1))=some (.slice q L[i].length d)/\Cells w q (L[i].map (Value.int .i64))/\L[i].length<=4
theorem KpO.rows (h:KpO PO T E I enc b w F x):∃b2 F1,PO b2 w F1 x.1/\x.2.length<=maxLen/\∃p c,Blk w b (enc b2 x.1.length p x.2.length c) T/\RowsAt w p x.2:=by
 obtain⟨⟨b2,h⟩,r⟩:=h
 obtain⟨F1,G,h1,⟨⟨p,c⟩,ys,h2,he⟩,h3,h4⟩:=h
 obtain⟨H1,H2,k1,k2,k3,k4⟩:=h2
 simp only at h1 k1 k2 he r⊢
 obtain⟨x1,x2⟩:=x
 simp only at h1 k1 k2 he r⊢
 subst he
 refine⟨b2,F1,h1,?_,p,c,by rw[rws_len];exact k1.blk,fun i hi=>?_⟩
 ·have:=k1.sl
  rw[rws_len]
  exact Nat.le_trans this.2.1 this.2.2.1
 ·have hi':i<ys.length:=by simpa [rws]using hi
  obtain⟨a,ha,hc⟩:=k1.sl.cells.at1 (f:=hdI) (l:=ys) hi'
  obtain⟨F2,q1,_⟩:=Fam.at k2 hi'
  refine⟨a,ys[i].1,ys[i].2.1,ha,?_,?_,r _ (List.getElem_mem hi)⟩
  ·rw[hc,rws_at _ hi'];rfl
  ·rw[rws_at _ hi'];exact q1.cells
theorem KpO.row (h:KpO PO T E I enc b w F x) {i:Nat} (hi:i<x.2.length):∃b2 F1 G a c0 p c,PO b2 w F1 x.1/\TbR b T E I (enc b2 x.1.length) w G x.2 i a c0 p c/\(∀j,G j->¬F1 j)/\
  (∀w' pg',pg'.length=x.1.length->Turn (PO b2) w w' F1 pg'->Turn (KpO PO T E I enc b) w w' F (pg',x.2))/\
  ∀w' L',(∀l∈L',l.length<=4)->Turn (Tb b T E I (enc b2 x.1.length)) w w' G L'->Turn (KpO PO T E I enc b) w w' F (x.1,L'):=by
 obtain⟨⟨b2,h⟩,r⟩:=h
 obtain⟨F1,G,h1,h2,h3,h4⟩:=id h
 obtain⟨a,c0,p,c,k⟩:=h2.raw hi
 refine⟨b2,F1,G,a,c0,p,c,h1,k,fun j hj hf=>h4 j hf hj,fun w' pg' hl hT=>?_,fun w' L' hL hT=>?_⟩
 ·have hfa:Frame (Tb b T E I (enc b2 x.1.length)):=inferInstance
  obtain⟨F',q1,q2,q3⟩:=hT
  refine⟨fun i=>F' i∨G i,⟨⟨b2,F',G,q1,?_,fun _=>Iff.rfl,fun i hi hf=>?_⟩,r⟩,q2.mono (fun i _ hi=>(h3 i).2 (.inl hi)),fun i hi=>?_⟩
  ·simp only[hl];exact hfa.upd h2 q2 (fun i hi hf=>h4 i hf hi)
  ·rcases q3 i hi with h|h
   ·exact h4 i h hf
   ·have:=hfa.lt h2 i hf;omega
  ·rcases hi with hi|hi
   ·exact(q3 i hi).imp (fun h=>(h3 i).2 (.inl h)) id
   ·exact .inl ((h3 i).2 (.inr hi))
 ·obtain⟨F',q1,q2,q3⟩:=hT
  refine⟨fun i=>F1 i∨F' i,⟨⟨b2,F1,F',(fp b2).upd h1 q2 h4,q1,fun _=>Iff.rfl,fun i hi hf=>?_⟩,hL⟩,?_,fun i hi=>?_⟩
  ·rcases q3 i hf with h|h
   ·exact h4 i hi h
   ·have:=(fp b2).lt h1 i hi;omega
  ·exact q2.mono (fun i _ hi=>(h3 i).2 (.inr hi))
  ·rcases hi with hi|hi
   ·exact .inl ((h3 i).2 (.inl hi))
   ·exact(q3 i hi).imp (fun h=>(h3 i).2 (.inr h)) id
omit fp in
theorem KpO.new [fp:∀b,Frame (PO b)] {w w1 w2 w3:World} {b1:Nat} {F1:Fp} {pg:List Nat} {p:Option Addr} {n c:Nat} {cs:List Value} (hQ:PO b1 w1 F1 pg) (hF:∀i,F1 i->w.heap.size<=i) (hU1:Upd no w w1) (hU2:Upd no w1 w2)
  (hS:Sl w2 E 1 p n c (List.replicate n (Value.slice none 0 0))) (hp:∀i,fpS p i->w1.heap.size<=i) (hN:Newed w2 w3 (.cells cs.toArray T (0,0))) (he:enc b1 pg.length p n c=cs) :
  ∃F,KpO PO T E I enc w2.heap.size w3 F (pg,List.replicate n [])/\Upd no w w3/\∀i,F i->w.heap.size<=i:=by
 have hT:=Tb.new (E:=E) (I:=I) (enc:=enc b1 pg.length) hU2 hS hp hN he
 have hU3:=hN.upd no
 have hlt:=(fp b1).lt hQ
 refine⟨fun i=>F1 i∨(i=w2.heap.size∨fpS p i),⟨⟨b1,F1,_,(fp b1).upd hQ (hU2.and hU3) (fun _ _ h=>h),hT,fun _=>Iff.rfl,?_⟩,?_⟩,hU1.and (hU2.and hU3),?_⟩
 ·rintro i hi (rfl|hf)
  ·have:=hlt _ hi;have:=hU2.size;omega
  ·have:=hlt _ hi;have:=hp _ hf;omega
 ·intro l hl;have:=List.eq_of_mem_replicate hl;subst this;simp
 ·rintro i (hi|rfl|hi)
  ·exact hF i hi
  ·exact Nat.le_trans hU1.size hU2.size
  ·exact Nat.le_trans hU1.size (hp i hi)
end
theorem Turn.next_Stash {σ:Type} {A:Ob σ} {w w1 w2:World} {F F1:Fp} {s1 s2:σ} (h:A w1 F1 s1) (hU:Upd F w w1) (hF:∀i,F1 i->F i∨w.heap.size<=i) (k:Turn A w1 w2 F1 s2):Turn A w w2 F s2:=by
 obtain⟨F2,k1,k2,k3⟩:=k
 refine⟨F2,k1,hU.trans k2 (fun i hi hf=>(hF i hf).elim id (fun h=>absurd h (by omega))),fun i hi=>?_⟩
 rcases k3 i hi with h|h
 ·exact hF i h
 ·exact .inr (Nat.le_trans hU.size h)
theorem take_len_Stash (pg:List Nat):(takeS_Pool pg).length=pg.length:=by unfold takeS_Pool;split<;>simp
theorem give_len_Stash (pg:List Nat) (v:Int):(giveS_Pool pg v).length=pg.length:=by unfold giveS_Pool;split<;>simp
def gives (pg:List Nat) (l:List Int):List Nat:=l.foldl giveS_Pool pg
theorem gives_len (pg:List Nat) (l:List Int):(gives pg l).length=pg.length:=by
 induction l generalizing pg with
 | nil=>rfl
 | cons v l ih=>exact(ih (giveS_Pool pg v)).trans (give_len_Stash pg v)
theorem gives_succ (pg:List Nat) {l:List Int} {k:Nat} (h:k<l.length):gives pg (l.take (k+1))=giveS_Pool (gives pg (l.take k)) l[k]:=by
 rw[List.take_succ_eq_append_getElem h,gives,List.foldl_append]
 rfl
def inC (x:KS) (cpu:Int):Prop:=0<=cpu/\cpu<x.2.length
instance (x:KS) (cpu:Int):Decidable (inC x cpu):=by unfold inC;infer_instance
def keptB (L:List (List Int)) (v:Int):Bool:=L.any (fun l=>decide (v∈l))
def hasE_Stash (x:KS) (v:Int):Bool:=outE x.1 v&&!keptB x.2 v
def tk1 (s:List Nat×List Int):List Nat×List Int:=if(takeE_Pool s.1).2=0 then(takeS_Pool s.1,s.2++[(takeE_Pool s.1).1])else(takeS_Pool s.1,s.2)
def fillS (s:List Nat×List Int):List Nat×List Int:=if s.2=[]then tk1 (tk1 s)else s
def lastE_Stash (l:List Int):Int×Int:=match l.getLast? with|some v=>(v,0)|none=>(0,5)
def rowC (x:KS) (cpu:Int):List Int:=x.2.getD cpu.toNat []
def allocE (x:KS) (cpu:Int):Int×Int:=if inC x cpu then lastE_Stash (fillS (x.1,rowC x cpu)).2 else(0,3)
def allocS (x:KS) (cpu:Int):KS:=if inC x cpu then((fillS (x.1,rowC x cpu)).1,x.2.set cpu.toNat (fillS (x.1,rowC x cpu)).2.dropLast)else x
def backS (s:List Nat×List Int):List Nat×List Int:=if 4<=s.2.length then(gives s.1 (s.2.take 2),s.2.drop 2)else s
def sgiveE (x:KS) (cpu v:Int):Int:=if inC x cpu then(if hasE_Stash x v then 0 else 4)else 3
def sgiveS (x:KS) (cpu v:Int):KS:=if inC x cpu/\hasE_Stash x v=true then((backS (x.1,rowC x cpu)).1,x.2.set cpu.toNat ((backS (x.1,rowC x cpu)).2++[v]))else x
def drainE (x:KS) (cpu:Int):Int×Int:=if inC x cpu then((rowC x cpu).length,0)else(0,3)
def drainS (x:KS) (cpu:Int):KS:=if inC x cpu then(gives x.1 (rowC x cpu),x.2.set cpu.toNat [])else x
theorem rowC_at {x:KS} {i:Nat} (hi:i<x.2.length):rowC x (i:Int)=x.2[i]:=by simp[rowC,hi]
theorem inC_at {x:KS} {cpu:Int} (h:inC x cpu):∃i:Nat,i<x.2.length/\cpu=(i:Int):=⟨cpu.toNat,by unfold inC at h;omega,by unfold inC at h;omega⟩
theorem set_le {L:List (List Int)} (h:∀l∈L,l.length<=4) (i:Nat) {l':List Int} (hl:l'.length<=4):∀l∈L.set i l',l.length<=4:=fun l hm=>(List.mem_or_eq_of_mem_set hm).elim (h l) (fun e=>e ▸ hl)
def stE_Stash (b2 n:Nat) (p:Option Addr) (m c:Nat):List Value:=[.pointer (some ⟨b2,0,none⟩),.int .i64 (n:Int),.slice p m c]
abbrev StO_Stash (b:Nat):Ob KS:=KpO PlO 219 36 3 stE_Stash b
section
variable {w:World} {F:Fp} {b:Nat} {x:KS}
theorem smay_ok_Stash (h:StO_Stash b w F x) (cpu:Int):Calls Tryz.prog 189 #[.pointer (some ⟨b,0,none⟩),.int .i64 cpu] w fun e w'=>e=.returned (.int .i64 (if inC x cpu then 0 else 3))/\w'=w:=by
 refine u189 ?_
 rw[t189]
 obtain⟨b2,F1,_,⟨p,c,hB⟩,_⟩:=h.ptr
 refine⟨fun g=>by simp at g,fun _=>⟨fun g=>⟨_,rfl,_,_,_,hB.cell rfl,fun g2=>⟨?_,rfl⟩,fun g2=>⟨?_,rfl⟩⟩,fun g=>⟨?_,rfl⟩⟩⟩
 ·rw[if_neg];unfold inC;simp at g g2;omega
 ·rw[if_pos];unfold inC;simp at g g2;omega
 ·rw[if_neg];unfold inC;simp at g;omega
theorem fill_ok (h:StO_Stash b w F x) {i:Nat} (hi:i<x.2.length):Calls Tryz.prog 256 #[.pointer (some ⟨b,0,none⟩),.int .i64 (i:Int)] w fun e w'=>e=.returned (.tuple #[])/\Turn (StO_Stash b) w w' F ((fillS (x.1,x.2[i])).1,x.2.set i (fillS (x.1,x.2[i])).2):=by
 refine u256 ?_
 rw[t256]
 obtain⟨b2,F1,G,a,c0,p,c,h1,hR,hd,ht,hp⟩:=h.row hi
 obtain⟨F2,hA⟩:=hR.open hi
 refine⟨_,rfl,_,_,_,hA.blk0.cell rfl,⟨by omega,by omega⟩,a,rfl,_,_,_,hA.cell0,fun g=>⟨rfl,?_⟩,fun g=>?_⟩
 ·have hne:x.2[i]≠[]:=fun e=>by rw[e]at g;simp at g
  rw[fillS,if_neg hne]
  simp only[List.set_getElem_self]
  exact Turn.same h
 ·have he:x.2[i]=[]:=by simpa using g
  have h0:x.2.set i []=x.2:=by rw[<-he,List.set_getElem_self]
  clear hA hR hd ht hp h1
  rw[he,fillS,if_pos rfl]
  refine⟨WP_loop okProg (M:=M256) (σ:=Nat×List Nat×List Int) (fun s=>e256_0 (some ⟨b,0,none⟩) (i:Int) (s.1:Int))
   (fun s w'=>s.1<=2/\s.2.2.length<=s.1/\(if s.1=0 then s.2=(x.1,[])else if s.1=1 then s.2=tk1 (x.1,[])else s.2=tk1 (tk1 (x.1,[])))/\Turn (StO_Stash b) w w' F (s.2.1,x.2.set i s.2.2)) (fun s _=>2-s.1) (0,x.1,[]) ⟨rfl,rfl,rfl,trivial⟩ ⟨by simp,by simp,by simp,by rw[h0];exact Turn.same h⟩ ?_⟩
  rintro⟨j,pg,l⟩ w1 ⟨j1,j2,j3,F',q1,q2,q3⟩
  simp only at j1 j2 j3 q1⊢
  rw[t256_0]
  refine⟨fun g=>?_,fun g=>⟨rfl,?_⟩⟩
  ·have hj:j<2:=by simp at g;omega
   obtain⟨b2,F1,h1,⟨p,c,hB⟩,ht⟩:=q1.ptr
   refine⟨_,rfl,_,hB.cell rfl,⟨(take_ok h1).mono ?_⟩⟩
   rintro e w2 ⟨rfl,hU⟩
   obtain⟨F3,r1,r2,r3⟩:=ht _ _ (take_len_Stash _) hU
   have hn:∀s,s=tk1 (pg,l)->(if j+1=0 then s=(x.1,[])else if j+1=1 then s=tk1 (x.1,[])else s=tk1 (tk1 (x.1,[]))):=by
    rintro s rfl
    have:j=0∨j=1:=by omega
    rcases this with rfl|rfl
    ·simp only[reduceIte]at j3;rw[j3];simp
    ·simp at j3;rw[j3];simp
   simp only at r1⊢
   refine⟨_,_,rfl,fun g1=>?_,fun g1=>?_⟩
   ·have g1:(takeE_Pool pg).2=0:=by simpa using g1
    intro w3 z1 z2 z3 z4
    have hS:=Upd.same no z1 z2 z3 z4
    replace r1:StO_Stash b w3 F3 _:=Frame.kp.upd r1 hS (fun _ _ h=>h)
    have hi2:i<(x.2.set i l).length:=by simpa using hi
    obtain⟨b2',G1,G,a,c0,p,c,h1,hR,hd,_,hp⟩:=r1.row (i:=i) hi2
    obtain⟨F2,hA⟩:=hR.open hi2
    refine⟨_,rfl,_,_,_,hA.blk0.cell rfl,_,rfl,_,_,_,hA.blk0.cell rfl,⟨by omega,by simp only[List.length_set];omega⟩,a,rfl,_,_,_,hA.cell0,⟨fun w4 hN=>?_⟩⟩
    have hN':Upd F2 w3 w4:=(hN.upd no).nn
    have hle:l.length<=2:=by omega
    have hlx:(x.2.set i l)[i]=l:=by simp
    obtain⟨p',c',w5,hr,hT⟩:=Ls.push elI_Lst hA.ls (by rw[hlx];omega) hN 36
    have hT5:=hT
    obtain⟨_,_,hU5,_⟩:=hT5
    refine⟨hA.cell _ hN',(hA.blk _ hN').cell rfl,(hA.blk _ hN').cell rfl,p',_,c',w5,hr,(hA.blk _ hU5).cell rfl,⟨by omega,by simp only[List.length_set];omega⟩,a,rfl,?_⟩
    refine hA.put _ _ _ _ hT _ fun w6 h6=>?_
    have h7:=hp _ _ (by
     rw[hlx]
     refine set_le r1.2 i ?_
     simp;omega) h6
    simp only[List.set_set,hlx]at h7
    refine⟨(j+1,takeS_Pool pg,l++[(takeE_Pool pg).1]),⟨rfl,rfl,by rw[w64 (by omega)];rfl,trivial⟩,⟨by simp only;omega,by simp;omega,hn _ (by simp[tk1,g1]),?_⟩,by simp only;omega⟩
    refine Turn.next_Stash q1 q2 q3 ?_
    refine Turn.next_Stash (s1:=(takeS_Pool pg,x.2.set i l)) (w1:=w3) r1 (r2.and hS.nn) r3 h7
   ·have g1:(takeE_Pool pg).2≠0:=by simpa using g1
    exact⟨(j+1,takeS_Pool pg,l),⟨rfl,rfl,by rw[w64 (by omega)];rfl,trivial⟩,⟨by simp only;omega,by simp;omega,hn _ (by simp[tk1,g1]),Turn.next_Stash q1 q2 q3 ⟨F3,r1,r2,r3⟩⟩,by simp only;omega⟩
  ·have:j=2:=by simp at g;omega
   subst this
   simp at j3
   rw[<-j3]
   exact⟨F',q1,q2,q3⟩
theorem back0 (h:StO_Stash b w F x) {i k:Nat} (hi:i<x.2.length) (hk:k<=x.2[i].length) {K:World->Prop} (hK:∀w',Turn (StO_Stash b) w w' F (x.1,x.2.set i (x.2[i].drop k))->K w') :
  CutD Tryz.prog M258 c258_0 (e258_0 (some ⟨b,0,none⟩) (i:Int) (k:Int)) w (k258_0 fun e w'=>e=.returned (.tuple #[])/\K w'):=by
 refine CutD.mk ?_
 rw[t258_0]
 intro w1 z1 z2 z3 z4
 have hS:=Upd.same no z1 z2 z3 z4
 have h:StO_Stash b w1 F x:=Frame.kp.upd h hS (fun _ _ h=>h)
 obtain⟨b2,F1,G,a,c0,p,c,h1,hR,hd,ht,hp⟩:=h.row hi
 obtain⟨F2,hA⟩:=hR.open hi
 have h4:x.2[i].length<=4:=h.2 _ (List.getElem_mem hi)
 have hb:=(hA.ls.behind hk)
 obtain⟨F3,hb1,_,_⟩:=hb
 have hc:=cloneL_ok hb1.cells (by simp;omega) (fun e=>hb1.zero e)
 simp only[List.length_drop]at hc
 refine⟨_,rfl,_,_,_,hA.blk0.cell rfl,_,rfl,_,_,_,hA.blk0.cell rfl,⟨by omega,by omega⟩,a,rfl,_,_,_,hA.cell0,⟨by omega,by omega⟩,⟨hc.mono ?_⟩⟩
 rintro e w2 ⟨p',c',rfl,hL⟩
 refine⟨_,_,_,rfl,(hA.blk _ hL.U.nn).cell rfl,⟨by omega,by omega⟩,a,rfl,?_⟩
 have hput:=hA.put _ _ _ _ (Ls.fresh hL) (fun w'=>Ending.returned (.tuple #[])=.returned (.tuple #[])/\K w') (fun w3 h3=>⟨rfl,hK _ ?_⟩)
 ·rw[List.length_drop]at hput
  exact hput
 ·have:=hp _ _ (set_le h.2 i (by simp;omega)) h3
  exact Turn.next_Stash h hS.nn (fun _ h=>.inl h) this
theorem back_ok (h:StO_Stash b w F x) {i k:Nat} (hi:i<x.2.length) (hk:k<=x.2[i].length):Calls Tryz.prog 258 #[.pointer (some ⟨b,0,none⟩),.int .i64 (i:Int),.int .i64 (k:Int)] w fun e w'=>e=.returned (.tuple #[])/\Turn (StO_Stash b) w w' F (gives x.1 (x.2[i].take k),x.2.set i (x.2[i].drop k)):=by
 refine u258 ?_
 rw[t258]
 have h4:x.2[i].length<=4:=h.2 _ (List.getElem_mem hi)
 obtain⟨b2,F1,G,a,c0,p,c,h1,hR,hd,ht,hp⟩:=h.row hi
 obtain⟨F2,hA⟩:=hR.open hi
 have hroom:=hA.ls.room
 refine⟨_,rfl,_,_,_,hA.blk0.cell rfl,⟨by omega,by omega⟩,a,rfl,_,_,_,hA.cell0,⟨by omega,by omega⟩,?_⟩
 refine⟨WP_loop okProg (M:=M258) (σ:=Nat) (fun j=>e258_1 (some ⟨b,0,none⟩) (i:Int) (k:Int) (subA p c 0 1) (Int.toNat (k:Int)-0) (c-0) ((Int.toNat (k:Int)-0:Nat):Int) (j:Int))
  (fun j w'=>j<=k/\Turn (PlO b2) w w' F1 (gives x.1 (x.2[i].take j))) (fun j _=>k-j) 0 ⟨rfl,rfl,rfl,rfl,rfl,rfl,trivial⟩ ⟨by omega,Turn.same h1⟩ ?_⟩
 rintro j w1 ⟨j1,F1',q1,q2,q3⟩
 rw[t258_1]
 refine⟨fun g=>?_,fun g=>?_⟩
 ·have hj:j<k:=by simp at g;omega
  have hj':j<x.2[i].length:=by omega
  obtain⟨F3,hA'⟩:=(hR.upd q2 hd).open hi
  obtain⟨a',ha',hc'⟩:=hA'.cells.at1 hj'
  refine⟨⟨by omega,by simp;omega⟩,a',by rw[subA_zero];exact ha',_,hc',_,rfl,_,hA'.blk0.cell rfl,⟨(give_ok q1 _).mono ?_⟩⟩
  rintro e w2 ⟨rfl,hU⟩
  refine⟨_,rfl,j+1,⟨rfl,rfl,rfl,rfl,rfl,by rw[w64 (by omega)];rfl,trivial⟩,⟨by omega,?_⟩,by omega⟩
  rw[gives_succ _ hj']
  exact Turn.next_Stash q1 q2 q3 hU
 ·have:j=k:=by simp at g;omega
  subst this
  obtain⟨F',r1,r2,r3⟩:=ht _ _ (gives_len _ _) ⟨F1',q1,q2,q3⟩
  exact back0 r1 hi hk fun w' hT=>Turn.next_Stash r1 r2 r3 hT
theorem hs1_ok {p:Option Addr} {l:List Int} {c:Nat} {bx:Addr} {v:Int} (hb:w.cell? bx=some (.int .i64 v)) (hC:Cells w p (l.map (Value.int .i64))) (hl:l.length<=4) :
  Calls Tryz.prog 329 #[.slice p l.length c,.pointer (some bx)] w fun e w'=>e=.returned (.bool (decide (v∈l)))/\w'=w:=by
 refine u329 ?_
 rw[t329]
 refine⟨_,hb,⟨(contains_ok hC (by omega) v).mono ?_⟩⟩
 rintro e w' ⟨rfl,rfl⟩
 exact⟨_,rfl,rfl,rfl⟩
theorem idxF_ok {p:Option Addr} {L:List (List Int)} {c:Nat} {bx:Addr} {v:Int} (hb:w.cell? bx=some (.int .i64 v)) (hL:RowsAt w p L) (hl:L.length<=maxLen) :
  Calls Tryz.prog 381 #[.slice p L.length c,.func (.func 329) #[] #[.pointer (some bx)]] w fun e w'=>(∃n:Int,e=.returned (.int .i64 n)/\decide (n>=0)=keptB L v)/\w'=w:=by
 refine u381 ?_
 rw[t381]
 refine⟨WP_loop okProg (M:=M381) (σ:=Nat) (fun j=>e381_1 p L.length c bx (L.length:Int) (j:Int)) (fun j w'=>j<=L.length/\keptB (L.take j) v=false/\w'=w) (fun j _=>L.length-j) 0 ⟨rfl,rfl,rfl,rfl,trivial⟩ ⟨by omega,rfl,rfl⟩ ?_⟩
 rintro j w1 ⟨j1,j2,rfl⟩
 rw[t381_1]
 refine⟨fun g=>?_,fun g=>?_⟩
 ·have hj:j<L.length:=by simp at g;omega
  obtain⟨a,q,d,ha,hc,hC,h4⟩:=hL j hj
  refine⟨⟨by omega,by omega⟩,a,ha,_,_,_,hc,⟨(hs1_ok hb hC h4).mono ?_⟩⟩
  rintro e w2 ⟨rfl,rfl⟩
  refine⟨_,rfl,fun g1=>⟨⟨_,rfl,?_⟩,rfl⟩,fun g1=>⟨j+1,⟨rfl,rfl,rfl,by rw[w64 (by unfold maxLen at *;omega)];rfl,trivial⟩,⟨by omega,?_,rfl⟩,by omega⟩⟩
  ·have:keptB L v=true:=by
    unfold keptB
    rw[List.any_eq_true]
    exact⟨_,List.getElem_mem hj,g1⟩
   rw[this]
   simp
  ·rw[List.take_succ_eq_append_getElem hj]
   unfold keptB at j2⊢
   rw[List.any_append,j2]
   simpa using g1
 ·have:j=L.length:=by simp at g;omega
  subst this
  rw[List.take_length]at j2
  exact⟨⟨_,rfl,by rw[j2];rfl⟩,rfl⟩
theorem cf_ok {p:Option Addr} {L:List (List Int)} {c:Nat} {bx:Addr} {v:Int} (hb:w.cell? bx=some (.int .i64 v)) (hL:RowsAt w p L) (hl:L.length<=maxLen) :
  Calls Tryz.prog 328 #[.slice p L.length c,.func (.func 329) #[] #[.pointer (some bx)]] w fun e w'=>e=.returned (.bool (keptB L v))/\w'=w:=by
 refine u328 ?_
 rw[t328]
 refine⟨(idxF_ok hb hL hl).mono ?_⟩
 rintro e w' ⟨⟨n,rfl,hn⟩,rfl⟩
 exact⟨_,rfl,by rw[hn],rfl⟩
theorem shas_ok (h:StO_Stash b w F x) (v:Int):Calls Tryz.prog 257 #[.pointer (some ⟨b,0,none⟩),.int .i64 v] w fun e w'=>e=.returned (.bool (hasE_Stash x v))/\Upd no w w':=by
 refine u257 ?_
 rw[t257]
 refine⟨fun w1 hN w2 z1 z2 z3 z4=>⟨fun _=>?_,fun g=>by simp at g⟩⟩
 have hS:=Upd.same no z1 z2 z3 z4
 have hU:=(hN.upd no).and hS
 have hbx:w2.cell? ⟨w.heap.size,0,none⟩=some (.int .i64 v):=by
  have:=hN.blk'.upd (F:=no) hS (fun h=>h)
  have:=this.cell (k:=0) (v:=.int .i64 v) rfl
  simpa [Addr.add]using this
 replace h:StO_Stash b w2 F x:=Frame.kp.upd h hU (fun _ _ h=>h)
 obtain⟨b2,F1,h1,⟨p,c,hB⟩,_⟩:=h.ptr
 refine⟨_,rfl,_,hB.cell rfl,_,hbx,⟨(out_ok h1 v).mono ?_⟩⟩
 rintro e w3 ⟨rfl,hU3⟩
 refine⟨_,rfl,fun g=>?_,fun g=>⟨?_,hU.and hU3⟩⟩
 ·replace h:StO_Stash b w3 F x:=Frame.kp.upd h hU3 (fun _ _ h=>h)
  obtain⟨b2,F1,h1,hlen,p,c,hB,hR⟩:=h.rows
  have hbx3:w3.cell? ⟨w.heap.size,0,none⟩=some (.int .i64 v):=by rw[<-hbx];exact World.cell?_of_block (hU3.blk _ (cell_lt hbx) (fun h=>h))
  refine⟨_,rfl,_,_,_,hB.cell rfl,⟨(cf_ok hbx3 hR hlen).mono ?_⟩⟩
  rintro e w4 ⟨rfl,rfl⟩
  refine⟨_,rfl,?_,hU.and hU3⟩
  simp[hasE_Stash,g]
 ·simp[hasE_Stash,g]
theorem drain_ok (h:StO_Stash b w F x) (cpu:Int):Calls Tryz.prog 355 #[.pointer (some ⟨b,0,none⟩),.int .i64 cpu] w fun e w'=>e=.returned (.tuple #[.int .i64 (drainE x cpu).1,.int .i64 (drainE x cpu).2])/\Turn (StO_Stash b) w w' F (drainS x cpu):=by
 refine u355 ?_
 rw[t355]
 refine⟨(smay_ok_Stash h cpu).mono ?_⟩
 rintro e w1 ⟨rfl,rfl⟩
 refine⟨_,rfl,fun g=>?_,fun g=>?_⟩
 ·have hn:¬inC x cpu:=fun h=>by rw[if_pos h]at g;simp at g
  rw[drainE,drainS,if_neg hn,if_neg hn,if_neg hn]
  exact⟨rfl,Turn.same h⟩
 ·have hc:inC x cpu:=Classical.byContradiction fun h=>by rw[if_neg h]at g;simp at g
  rw[drainE,drainS,if_pos hc,if_pos hc]
  obtain⟨i,hi,rfl⟩:=inC_at hc
  obtain⟨b2,F1,G,a,c0,p,c,h1,hR,hd,ht,hp⟩:=h.row hi
  obtain⟨F2,hA⟩:=hR.open hi
  rw[rowC_at hi]
  refine⟨_,rfl,_,_,_,hA.blk0.cell rfl,⟨by omega,by omega⟩,a,rfl,_,_,_,hA.cell0,⟨(back_ok h hi (Nat.le_refl _)).mono ?_⟩⟩
  rintro e w2 ⟨rfl,hT⟩
  rw[List.take_length,List.drop_length]at hT
  exact⟨rfl,rfl,hT⟩
theorem fill_le (pg:List Nat) {l:List Int} (h:l.length<=4):(fillS (pg,l)).2.length<=4:=by
 unfold fillS
 split
 ·rename_i h;simp only at h;subst h
  have h1:∀s:List Nat×List Int,(tk1 s).2.length<=s.2.length+1:=fun s=>by unfold tk1;split<;>simp
  have a:=h1 (pg,[])
  have b:=h1 (tk1 (pg,[]))
  simp only[List.length_nil]at a
  omega
 ·exact h
theorem salloc_ok (h:StO_Stash b w F x) (cpu:Int):Calls Tryz.prog 155 #[.pointer (some ⟨b,0,none⟩),.int .i64 cpu] w fun e w'=>e=.returned (.tuple #[.int .i64 (allocE x cpu).1,.int .i64 (allocE x cpu).2])/\Turn (StO_Stash b) w w' F (allocS x cpu):=by
 refine u155 ?_
 rw[t155]
 refine⟨(smay_ok_Stash h cpu).mono ?_⟩
 rintro e w1 ⟨rfl,rfl⟩
 refine⟨_,rfl,fun g=>?_,fun g=>?_⟩
 ·have hn:¬inC x cpu:=fun h=>by rw[if_pos h]at g;simp at g
  rw[allocE,allocS,if_neg hn,if_neg hn,if_neg hn]
  exact⟨rfl,Turn.same h⟩
 ·have hc:inC x cpu:=Classical.byContradiction fun h=>by rw[if_neg h]at g;simp at g
  rw[allocE,allocS,if_pos hc,if_pos hc]
  obtain⟨i,hi,rfl⟩:=inC_at hc
  rw[rowC_at hi]
  have h4:=fill_le x.1 (h.2 _ (List.getElem_mem hi))
  generalize hs:fillS (x.1,x.2[i])=s at h4
  refine⟨(fill_ok h hi).mono ?_⟩
  rw[hs]
  rintro e w2 ⟨rfl,F',q1,q2,q3⟩
  have hi2:i<(x.2.set i s.2).length:=by simpa using hi
  obtain⟨b2,F1,G,a,c0,p,c,h1,hR,hd,ht,hp⟩:=q1.row hi2
  obtain⟨F2,hA⟩:=hR.open hi2
  have hlx:(x.2.set i s.2)[i]=s.2:=by simp
  have hAc:=hA.cell0
  rw[hlx]at hAc
  refine⟨rfl,_,rfl,_,_,_,hA.blk0.cell rfl,⟨by omega,by simp only[List.length_set];omega⟩,a,rfl,_,_,_,hAc,fun g1=>?_,fun g1=>?_⟩
  ·have he:s.2=[]:=by
    apply List.eq_nil_of_length_eq_zero
    rw[w64 (by omega)]at g1
    simp at g1;omega
   simp only[Int.toNat_natCast]
   rw[he]at q1⊢
   exact⟨rfl,F',q1,q2,q3⟩
  ·have hpos:0<s.2.length:=by
    rw[w64 (by omega)]at g1
    simp at g1;omega
   have e1:IntKind.wrap .i64 ((s.2.length:Int)-1)=((s.2.length-1:Nat):Int):=by rw[w64 (by omega)];omega
   rw[e1]
   have hC:=hA.cells
   rw[hlx]at hC
   obtain⟨a',ha',hc'⟩:=hC.at1 (i:=s.2.length-1) (by omega)
   refine⟨_,rfl,_,_,_,hA.blk0.cell rfl,⟨by omega,by simp only[List.length_set];omega⟩,a,rfl,_,_,_,hAc,⟨by omega,by omega⟩,a',ha',_,hc',fun w3 z1 z2 z3 z4=>?_⟩
   have hS:=Upd.same no z1 z2 z3 z4
   have q1':StO_Stash b w3 F' (s.1,x.2.set i s.2):=Frame.kp.upd q1 hS (fun _ _ h=>h)
   obtain⟨b2,F1,G,a,c0,p,c,h1,hR,hd,ht,hp⟩:=q1'.row hi2
   obtain⟨F2,hA⟩:=hR.open hi2
   have hAc:=hA.cell0
   rw[hlx]at hAc
   have hroom:=hA.ls.room
   rw[hlx]at hroom
   refine⟨_,rfl,_,_,_,hA.blk0.cell rfl,_,rfl,_,_,_,hA.blk0.cell rfl,⟨by omega,by simp only[List.length_set];omega⟩,a,rfl,_,_,_,hAc,⟨by omega,by omega⟩,⟨by omega,by omega⟩,⟨by omega,by simp only[List.length_set];omega⟩,a,rfl,?_⟩
   have hls:=hA.ls
   rw[hlx]at hls
   have hT:=hls.first (k:=s.2.length-1) (by omega)
   rw[<-List.dropLast_eq_take]at hT
   have hl:s.2.getLast?=some s.2[s.2.length-1]:=by rw[List.getLast?_eq_getElem?];simp[hpos]
   have hput:=hA.put _ _ _ _ hT (fun w'=>Ending.returned (.tuple #[.int .i64 s.2[s.2.length-1],.int .i64 0])=.returned (.tuple #[.int .i64 (lastE_Stash s.2).1,.int .i64 (lastE_Stash s.2).2])/\Turn (StO_Stash b) w1 w' F (s.1,x.2.set i s.2.dropLast)) (fun w4 h5=>⟨by simp[lastE_Stash,hl],?_⟩)
   ·rw[List.length_dropLast]at hput
    simp only[Int.toNat_natCast]
    exact hput
   ·have h6:=hp _ _ (set_le q1'.2 i (by simp;omega)) h5
    rw[List.set_set]at h6
    exact Turn.next_Stash q1 q2 q3 (Turn.next_Stash q1' hS.nn (fun _ h=>.inl h) h6)
theorem sgive0 (h:StO_Stash b w F x) {i:Nat} (hi:i<x.2.length) (hl:x.2[i].length<=3) (v:Int) {K:World->Prop} (hK:∀w',Turn (StO_Stash b) w w' F (x.1,x.2.set i (x.2[i]++[v]))->K w') :
  CutD Tryz.prog M156 c156_0 (e156_0 (some ⟨b,0,none⟩) (i:Int) v) w (k156_0 fun e w'=>e=.returned (.int .i64 0)/\K w'):=by
 refine CutD.mk ?_
 rw[t156_0]
 intro w1 z1 z2 z3 z4
 have hS:=Upd.same no z1 z2 z3 z4
 have h:StO_Stash b w1 F x:=Frame.kp.upd h hS (fun _ _ h=>h)
 obtain⟨b2,F1,G,a,c0,p,c,h1,hR,hd,ht,hp⟩:=h.row hi
 obtain⟨F2,hA⟩:=hR.open hi
 refine⟨_,rfl,_,_,_,hA.blk0.cell rfl,_,rfl,_,_,_,hA.blk0.cell rfl,⟨by omega,by omega⟩,a,rfl,_,_,_,hA.cell0,⟨fun w4 hN=>?_⟩⟩
 have hN':Upd F2 w1 w4:=(hN.upd no).nn
 obtain⟨p',c',w5,hr,hT⟩:=Ls.push elI_Lst hA.ls (by omega) hN 36
 obtain⟨_,_,hU5,_⟩:=id hT
 refine⟨hA.cell _ hN',(hA.blk _ hN').cell rfl,(hA.blk _ hN').cell rfl,p',_,c',w5,hr,(hA.blk _ hU5).cell rfl,⟨by omega,by omega⟩,a,rfl,?_⟩
 refine hA.put _ _ _ _ hT _ fun w6 h6=>⟨rfl,hK _ ?_⟩
 exact Turn.next_Stash h hS.nn (fun _ h=>.inl h) (hp _ _ (set_le h.2 i (by simp;omega)) h6)
theorem sgive_ok (h:StO_Stash b w F x) (cpu v:Int):Calls Tryz.prog 156 #[.pointer (some ⟨b,0,none⟩),.int .i64 cpu,.int .i64 v] w fun e w'=>e=.returned (.int .i64 (sgiveE x cpu v))/\Turn (StO_Stash b) w w' F (sgiveS x cpu v):=by
 refine u156 ?_
 rw[t156]
 refine⟨(smay_ok_Stash h cpu).mono ?_⟩
 rintro e w1 ⟨rfl,rfl⟩
 refine⟨_,rfl,fun g=>?_,fun g=>?_⟩
 ·have hn:¬inC x cpu:=fun h=>by rw[if_pos h]at g;simp at g
  rw[sgiveE,sgiveS,if_neg hn,if_neg hn,if_neg (fun h=>hn h.1)]
  exact⟨rfl,Turn.same h⟩
 ·have hc:inC x cpu:=Classical.byContradiction fun h=>by rw[if_neg h]at g;simp at g
  refine⟨(shas_ok h v).mono ?_⟩
  rintro e w2 ⟨rfl,hU⟩
  have h2:StO_Stash b w2 F x:=Frame.kp.upd h hU (fun _ _ h=>h)
  refine⟨_,rfl,fun g1=>?_,fun g1=>?_⟩
  ·have g1:¬hasE_Stash x v=true:=by simpa using g1
   rw[sgiveE,sgiveS,if_pos hc,if_neg g1,if_neg (fun h=>g1 h.2)]
   exact⟨rfl,F,h2,hU.nn,fun _ h=>.inl h⟩
  ·have g1:hasE_Stash x v=true:=by simpa using g1
   rw[sgiveE,sgiveS,if_pos hc,if_pos g1,if_pos ⟨hc,g1⟩]
   obtain⟨i,hi,rfl⟩:=inC_at hc
   obtain⟨b2,F1,G,a,c0,p,c,h1,hR,hd,ht,hp⟩:=h2.row hi
   obtain⟨F2,hA⟩:=hR.open hi
   have h4:x.2[i].length<=4:=h.2 _ (List.getElem_mem hi)
   rw[rowC_at hi]
   refine⟨_,rfl,_,_,_,hA.blk0.cell rfl,⟨by omega,by omega⟩,a,rfl,_,_,_,hA.cell0,fun g2=>?_,fun g2=>?_⟩
   ·have g2:4<=x.2[i].length:=by simp at g2;omega
    refine⟨(back_ok h2 hi (k:=2) (by omega)).mono ?_⟩
    rintro e w3 ⟨rfl,F',q1,q2,q3⟩
    have hb:backS (x.1,x.2[i])=(gives x.1 (x.2[i].take 2),x.2[i].drop 2):=by simp only[backS];rw[if_pos g2]
    rw[hb]
    refine⟨rfl,sgive0 q1 (by simpa using hi) (by simp;omega) v fun w4 hT=>?_⟩
    simp only[List.set_set,List.getElem_set_self]at hT
    exact Turn.next_Stash h2 hU.nn (fun _ h=>.inl h) (Turn.next_Stash (s1:=(gives x.1 (x.2[i].take 2),x.2.set i (x.2[i].drop 2))) q1 q2 q3 hT)
   ·have g2:¬4<=x.2[i].length:=by simp at g2;omega
    have hb:backS (x.1,x.2[i])=(x.1,x.2[i]):=by simp only[backS];rw[if_neg g2]
    rw[hb]
    exact sgive0 h2 hi (by omega) v fun w4 hT=>Turn.next_Stash h2 hU.nn (fun _ h=>.inl h) hT
def okNew (m n:Int):Prop:=1<=m/\m<=64/\1<=n/\n<=12
def newK (m n:Int):KS:=(List.replicate n.toNat 0,List.replicate m.toNat [])
theorem elL_Stash:ElemT Tryz.prog 217 36 1 24 [.slice none 0 0]:=⟨by kernel_rfl,by kernel_rfl,rfl,by omega⟩
theorem snew_ok_Stash (m n:Int) (w:World):Calls Tryz.prog 48 #[.int .i64 m,.int .i64 n] w fun e w'=>
  (¬okNew m n/\e=.returned (.tuple #[.pointer none,.int .i64 2])/\Upd no w w')∨
  (okNew m n/\∃b F,e=.returned (.tuple #[.pointer (some ⟨b,0,none⟩),.int .i64 0])/\StO_Stash b w' F (newK m n)/\Upd no w w'/\∀i,F i->w.heap.size<=i):=by
 refine u48 ?_
 rw[t48]
 refine⟨(new_ok_Pool n w).mono ?_⟩
 rintro e w1 (⟨hno,rfl,rfl⟩|⟨hyes,b1,F1,rfl,hQ,hU,hF⟩)
 ·exact⟨_,_,rfl,fun g=>by simp at g,fun _=>.inl ⟨fun h=>hno ⟨h.2.2.1,h.2.2.2⟩,rfl,Upd.refl _ _⟩⟩
 ·refine⟨_,_,rfl,fun _=>⟨fun g1=>⟨fun g2=>.inl ⟨?_,rfl,hU⟩,fun g2=>?_⟩,fun g1=>.inl ⟨?_,rfl,hU⟩⟩,fun g=>by simp at g⟩
  ·unfold okNew;simp at g2;omega
  ·have g1:¬m<1:=by simpa using g1
   have g2:¬64<m:=by simpa using g2
   obtain⟨k,rfl⟩:∃k:Nat,m=k:=⟨m.toNat,by omega⟩
   obtain⟨w2,hr,hU2,hL⟩:=run_mkV (f:=fun _:Unit=>Value.slice none 0 0) (x0:=()) elL_Stash w1 (n:=k) (by omega) (by omega) .i64 .i64
   have hS:=hL.2
   simp only[List.length_replicate,List.map_replicate]at hS
   refine⟨_,_,_,w2,hr,⟨fun w3 hN=>.inr ⟨⟨by omega,by omega,hyes.1,hyes.2⟩,w2.heap.size,?_⟩⟩⟩
   obtain⟨F,q1,q2,q3⟩:=KpO.new (PO:=PlO) (T:=219) (E:=36) (I:=3) (enc:=stE_Stash) hQ hF hU hU2 hS (fun i hi=>(by obtain⟨a,ha,rfl⟩:=hi;cases ha;exact Nat.le_refl _)) hN (by simp only[stE_Stash,List.length_replicate];rw[Int.toNat_of_nonneg (by omega)])
   exact⟨F,rfl,q1,q2,q3⟩
  ·unfold okNew;simp at g1;omega
end
end Go.Dav
namespace Go.Dav
open Go.Proofs
def stE_Stop (s:BV×BV):List Value:=[.int .u64 (mi s.1),.int .u64 (mi s.2)]
abbrev StO_Stop (b:Nat):Ob (BV×BV):=Rw b 132 stE_Stop
def sLeft (s:BV×BV):BV:=s.1&&& ~~~ s.2
def sBegin (s:BV×BV) (m:BV):Int×(BV×BV):=if s.1=0 then(if m=0 then(2,s)else(0,(m,0)))else(7,s)
def sAck (s:BV×BV) (c:Int):Int×(BV×BV):=if hs (sLeft s) c=true then(0,(s.1,wi s.2 c))else(6,s)
def sFree (s:BV×BV):Int×(BV×BV):=if s.1=0 then(6,s)else(0,(0,0))
section
variable {w:World} {F:Fp} {b:Nat} {s:BV×BV} {r:Bool×BV×BV}
theorem on_ok_Stop (h:StO_Stop b w F s):Calls Tryz.prog 388 #[.pointer (some ⟨b,0,none⟩)] w fun e w'=>e=.returned (.bool (!(s.1==0)))/\w'=w:=by
 refine u388 ?_
 rw[t388]
 exact⟨fun _=>⟨_,rfl,_,h.blk.cell rfl,by rw[mi_bne0],rfl⟩,fun h=>by simp at h⟩
theorem left_ok (h:StO_Stop b w F s):Calls Tryz.prog 292 #[.pointer (some ⟨b,0,none⟩)] w fun e w'=>e=.returned (.int .u64 (mi (sLeft s)))/\Upd no w w':=by
 refine u292 ?_
 rw[t292]
 refine⟨fun h=>by simp at h,fun _ w1 q1 q2 q3 q4=>?_⟩
 have hU:=Upd.same no q1 q2 q3 q4
 have hB:=h.blk.upd hU id
 refine⟨_,rfl,_,hB.cell rfl,_,rfl,_,hB.cell rfl,⟨(mNot_ok _ _ w1).mono ?_⟩⟩
 rintro e w' ⟨rfl,rfl⟩
 exact⟨_,rfl,rfl,hU⟩
theorem must_ok (h:StO_Stop b w F s) (c:Int):Calls Tryz.prog 202 #[.pointer (some ⟨b,0,none⟩),.int .i64 c] w fun e w'=>e=.returned (.bool (hs (sLeft s) c))/\Upd no w w':=by
 refine u202 ?_
 rw[t202]
 refine⟨(left_ok h).mono ?_⟩
 rintro e w' ⟨rfl,hU⟩
 refine⟨_,rfl,⟨(mHas_ok _ _ w').mono ?_⟩⟩
 rintro e w' ⟨rfl,rfl⟩
 exact⟨_,rfl,rfl,hU⟩
theorem held_ok (h:StO_Stop b w F s) (c:Int):Calls Tryz.prog 203 #[.pointer (some ⟨b,0,none⟩),.int .i64 c] w fun e w'=>e=.returned (.bool (hs s.2 c))/\w'=w:=by
 refine u203 ?_
 rw[t203]
 refine⟨fun _=>⟨_,rfl,_,h.blk.cell rfl,⟨(mHas_ok _ _ w).mono ?_⟩⟩,fun h=>by simp at h⟩
 rintro e w' ⟨rfl,rfl⟩
 exact⟨_,rfl,rfl,rfl⟩
def sReady (s:BV×BV):Bool:=!(s.1==0)&&(sLeft s==0)
theorem ready_ok_Stop (h:StO_Stop b w F s):Calls Tryz.prog 390 #[.pointer (some ⟨b,0,none⟩)] w fun e w'=>e=.returned (.bool (sReady s))/\Upd no w w':=by
 refine u390 ?_
 rw[t390]
 refine⟨(on_ok_Stop h).mono ?_⟩
 rintro e w' ⟨rfl,rfl⟩
 refine⟨_,rfl,fun h1=>⟨(left_ok h).mono ?_⟩,fun h1=>⟨by rw[sReady,h1,Bool.false_and],Upd.refl _ _⟩⟩
 rintro e w' ⟨rfl,hU⟩
 exact⟨_,rfl,by rw[mi_beq0,sReady,h1,Bool.true_and],hU⟩
theorem begin_ok (h:StO_Stop b w F s) (m:BV):Calls Tryz.prog 389 #[.pointer (some ⟨b,0,none⟩),.int .u64 (mi m)] w fun e w'=>e=.returned (.int .i64 (sBegin s m).1)/\Turn (StO_Stop b) w w' F (sBegin s m).2:=by
 refine u389 ?_
 rw[t389]
 refine⟨fun h=>by simp at h,fun _=>⟨(on_ok_Stop h).mono ?_⟩⟩
 rintro e w' ⟨rfl,rfl⟩
 refine⟨_,rfl,fun h1=>?_,fun h1=>⟨fun h2=>?_,fun h2=>?_⟩⟩
 ·have h1:s.1≠0:=by simpa using h1
  simp only[sBegin,if_neg h1]
  exact⟨trivial,Turn.same h⟩
 ·have h1:s.1=0:=by simpa using h1
  have h2:m=0:=by rw[mi_beq0]at h2;simpa using h2
  simp only[sBegin,if_pos h1,if_pos h2]
  exact⟨trivial,Turn.same h⟩
 ·have h1:s.1=0:=by simpa using h1
  have h2:m≠0:=by rw[mi_beq0]at h2;simpa using h2
  simp only[sBegin,if_pos h1,if_neg h2]
  exact⟨_,rfl,h.blk.wr (by simp[stE_Stop]) fun w1 k1=>⟨_,rfl,k1.blk'.wr (by simp[stE_Stop,setL]) fun w2 k2=>⟨trivial,h.turned (k1.U.and k2.U) k2.blk'⟩⟩⟩
theorem ack_ok (h:StO_Stop b w F s) (c:Int):Calls Tryz.prog 118 #[.pointer (some ⟨b,0,none⟩),.int .i64 c] w fun e w'=>e=.returned (.int .i64 (sAck s c).1)/\Turn (StO_Stop b) w w' F (sAck s c).2:=by
 refine u118 ?_
 rw[t118]
 refine⟨fun h=>by simp at h,fun _=>⟨(must_ok h c).mono ?_⟩⟩
 rintro e w' ⟨rfl,hU⟩
 refine⟨_,rfl,fun h1=>?_,fun h1=>?_⟩
 ·have h1:¬hs (sLeft s) c=true:=by simpa using h1
  simp only[sAck,if_neg h1]
  exact⟨trivial,Turn.quiet h hU⟩
 ·have h1:hs (sLeft s) c=true:=by simpa using h1
  simp only[sAck,if_pos h1]
  have hB:=h.blk.upd hU id
  refine⟨_,rfl,_,hB.cell rfl,⟨fun w1 hN=>⟨(mWith_ok s.2 (l:=[c]) (Sl.new (n:=1) (sz:=1) hN (by simp) (by unfold maxLen;omega)).cells (by simp)).mono ?_⟩⟩⟩
  rintro e w2 ⟨rfl,rfl⟩
  exact⟨_,rfl,_,rfl,(hN.keep hB).wr (by simp[stE_Stop]) fun w3 k=>⟨trivial,h.turned (((hU.mono fun _ _ h=>h.elim).trans (hN.upd no) fun _ _ h=>h.elim).and k.U) k.blk'⟩⟩
theorem free_ok_Stop (h:StO_Stop b w F s):Calls Tryz.prog 391 #[.pointer (some ⟨b,0,none⟩)] w fun e w'=>e=.returned (.int .i64 (sFree s).1)/\Turn (StO_Stop b) w w' F (sFree s).2:=by
 refine u391 ?_
 rw[t391]
 refine⟨fun h=>by simp at h,fun _=>⟨(on_ok_Stop h).mono ?_⟩⟩
 rintro e w' ⟨rfl,rfl⟩
 refine⟨_,rfl,fun h1=>?_,fun h1=>?_⟩
 ·have h1:s.1=0:=by simpa using h1
  simp only[sFree,if_pos h1]
  exact⟨trivial,Turn.same h⟩
 ·have h1:s.1≠0:=by simpa using h1
  simp only[sFree,if_neg h1]
  exact⟨_,rfl,h.blk.wr (by simp[stE_Stop]) fun w1 k1=>⟨_,rfl,k1.blk'.wr (by simp[stE_Stop,setL]) fun w2 k2=>⟨trivial,h.turned (k1.U.and k2.U) k2.blk'⟩⟩⟩
end
end Go.Dav
namespace Go.Dav
section
variable {α:Type} {f:α->List Value} {sz:Nat} {W w w':World} {T:TypeId} {p:Option Addr} {c:Nat} {l:List α}
end
section
variable {α:Type} {f:α->List Value} {sz:Nat} {W w w':World} {T:TypeId} {p:Option Addr} {c:Nat} {l:List α} {F:Fp}
end
def scEq:Value->Value->Bool
 | .int _ a,.int _ b=>a==b
 | .bool a,.bool b=>a==b
 | _,_=>false
def sameSc:Value->Value->Bool
 | .int k _,.int k' _=>decide (k=k')
 | .bool _,.bool _=>true
 | _,_=>false
def eqL:List Value->List Value->Bool
 | a::az,b::bs=>scEq a b&&eqL az bs
 | _,_=>true
def sameL:List Value->List Value->Bool
 | a::az,b::bs=>sameSc a b&&sameL az bs
 | [],[]=>true
 | _,_=>false
def flatF (P:Program):List Field->Nat->List Value->Bool
 | [],_,[]=>true
 | f::fs,i,v::vs=>(f.name !="_")&&okT P f.type&&!aggT P f.type&&(f.offset==i)&&(match P.underlying f.type,v with
   | some (.int _),.int _ _=>true
   | some .bool,.bool _=>true
   | _,_=>false)&&flatF P fs (i+1) vs
 | _,_,_=>false
theorem eqFields_flat {P:Program} (d:Nat) {w:World} {xs ys:Array Value}:∀{fs:List Field} {i:Nat} {us vs:List Value},flatF P fs i us=true->sameL us vs=true->xs.toList.drop i=us->ys.toList.drop i=vs->
  (Op.eqFields (d+1) xs ys fs).run P w=.ok (eqL us vs) w
 | [],i,us,vs,hf,hs,hx,hy=>by
  cases us with
  | nil=>cases vs with
   | nil=>simp[Op.eqFields,eqL]
   | cons _ _=>cases hs
  | cons _ _=>cases hf
 | f::fs,i,us,vs,hf,hs,hx,hy=>by
  cases us with
  | nil=>cases hf
  | cons a us=>
   cases vs with
   | nil=>cases hs
   | cons b vs=>
    simp only[flatF,Bool.and_eq_true,Bool.not_eq_true']at hf
    obtain⟨⟨⟨⟨⟨h1,h2⟩,h3⟩,h4⟩,h5⟩,h6⟩:=hf
    simp only[sameL,Bool.and_eq_true]at hs
    have h4:=eq_of_beq h4
    have ha:xs.toList[f.offset]?=some a:=by
     have:=congrArg (fun l=>l[0]?) hx
     simp only[List.getElem?_drop,List.getElem?_cons_zero]at this
     rw[h4];simpa using this
    have hb:ys.toList[f.offset]?=some b:=by
     have:=congrArg (fun l=>l[0]?) hy
     simp only[List.getElem?_drop,List.getElem?_cons_zero]at this
     rw[h4];simpa using this
    have hq:(Op.equalIn (d+1) f.type a b).run P w=.ok (scEq a b) w:=by
     cases hu:P.underlying f.type with
     | none=>rw[hu]at h5;cases h5
     | some ty=>
      rw[hu]at h5
      cases a with
      | int k x=>
       cases b with
       | int k' y=>
        have hk:k=k':=of_decide_eq_true hs.1
        subst hk
        cases ty with
        | int q=>exact run_equalIn_int w d f.type k q x y hu
        | _=>cases h5
       | _=>cases hs.1
      | bool x=>
       cases b with
       | bool y=>
        cases ty with
        | bool=>exact run_equalIn_bool' w d f.type x y hu
        | _=>cases h5
       | _=>cases hs.1
      | _=>cases ty<;>cases h5
    have ih:=eqFields_flat d (w:=w) (xs:=xs) (ys:=ys) (fs:=fs) (i:=i+1) h6 hs.2 (by rw[<-List.drop_drop,hx];rfl) (by rw[<-List.drop_drop,hy];rfl)
    have hne:f.name≠"_":=by simpa using h1
    simp only[Op.eqFields,hne,ne_eq,not_false_eq_true,if_true,Sem.run_bind,run_part_scal h2 h3 ha,run_part_scal h2 h3 hb,hq,Result.andThen_ok,eqL]
    cases hsc:scEq a b
    ·simp
    ·simp[ih]
def isStr (P:Program) (t:TypeId):Bool:=match P.underlying t with
 | some (.struct _)=>true
 | _=>false
theorem run_eq_struct {P:Program} {t:TypeId} (us:List Value) (hp:P.stoodInHeld t=false) (hf:flatF P (P.fieldsOf t).toList 0 us=true) (hs:isStr P t=true) {vs:List Value} (hv:sameL us vs=true) (w:World) :
  (Op.equal t (.agg us.toArray) (.agg vs.toArray)).run P w=.ok (eqL us vs) w:=by
 have hu:P.underlying t=some (.struct (P.fieldsOf t)):=by
  unfold Program.fieldsOf
  unfold isStr at hs
  split at hs
  ·rename_i fs h;rw[h]
  ·cases hs
 show(Op.equalIn (9999+1) t _ _).run P w=_
 rw[run_equalIn_struct w 9999 t _ _ hu hp]
 exact eqFields_flat 9998 hf hv (by simp) (by simp)
end Go.Dav
namespace Go.Dav
open Go.Proofs
abbrev Itm:=Int×BV×Int×Bool
def chE (want active:BV) (near:Int):Int×Bool×Int:=
 if active=0 then(0,false,12)else
  if hs (if want&&& active=0 then active else want&&& active) near then(near,want&&& active==0,0)else((nextE (if want&&& active=0 then active else want&&& active) near).1,want&&& active==0,0)
def wrongE (active:BV) (x:Itm):Bool:=!hs active x.2.2.1||(!hs x.2.1 x.2.2.1&&!(x.2.1&&& active==0))||(x.2.2.2==hs x.2.1 x.2.2.1)
theorem nextE_ok {m:BV} (h:m≠0) (c:Int):(nextE m c).2=0/\hs m (nextE m c).1=true:=by
 unfold nextE
 cases hf:(cs m).find? (fun d=>decide (d>c))with
 | some d=>exact⟨rfl,mem_cs.1 (List.mem_of_find?_eq_some hf)⟩
 | none=>simp only[firstE_ne h];exact⟨trivial,tz_in h⟩
theorem from_ne {want active:BV} (h:active≠0):(if want&&& active=0 then active else want&&& active)≠0:=by split<;>assumption
theorem choose_ok {w:World} (hT:Tab w) (want active:BV) (near:Int):Calls Tryz.prog 233 #[.int .u64 (mi want),.int .u64 (mi active),.int .i64 near] w fun e w'=>e=.returned (.tuple #[.int .i64 (chE want active near).1,.bool (chE want active near).2.1,.int .i64 (chE want active near).2.2])/\w'=w:=by
 refine u233 ?_
 rw[t233,mi_beq0]
 refine⟨fun g=>?_,fun g=>⟨(mAnd_ok want active w).mono ?_⟩⟩
 ·have g:active=0:=by simpa using g
  exact⟨by simp only[chE,g,if_true],rfl⟩
 ·have g:active≠0:=by simpa using g
  rintro e w1 ⟨rfl,rfl⟩
  have go:∀fr:BV,fr=(if want&&& active=0 then active else want&&& active)->CutD Tryz.prog M233 c233_0 (e233_0 near (mi fr) (want&&& active==0)) w1 (k233_0 fun e w'=>e=.returned (.tuple #[.int .i64 (chE want active near).1,.bool (chE want active near).2.1,.int .i64 (chE want active near).2.2])/\w'=w1):=by
   intro fr hfr
   refine CutD.mk ?_
   rw[t233_0]
   have hne:fr≠0:=hfr ▸ from_ne g
   unfold chE
   rw[if_neg g,<-hfr]
   refine⟨(mHas_ok fr near w1).mono ?_⟩
   rintro e w2 ⟨rfl,rfl⟩
   refine⟨_,rfl,fun g2=>?_,fun g2=>⟨(mNext_ok fr near hT).mono ?_⟩⟩
   ·rw[if_pos g2];exact⟨rfl,rfl⟩
   ·rintro e w3 ⟨rfl,rfl⟩
    rw[if_neg (by rw[g2];decide)]
    exact⟨_,_,rfl,by rw[(nextE_ok hne near).1],rfl⟩
  refine⟨_,rfl,fun g2=>?_,fun g2=>?_⟩
  ·have g2':(want&&& active==0)=true:=by rw[mi_beq0]at g2;exact g2
   rw[mi_beq0]
   exact go active (by rw[if_pos (eq_of_beq g2')])
  ·have g2':(want&&& active==0)=false:=by rw[mi_beq0]at g2;exact g2
   rw[mi_beq0]
   exact go _ (by rw[if_neg (ne_of_beq_false g2')])
theorem wrong_ok (active:BV) (x:Itm) (w:World):Calls Tryz.prog 239 #[.int .u64 (mi active),.agg #[.int .i64 x.1,.int .u64 (mi x.2.1),.int .i64 x.2.2.1,.bool x.2.2.2]] w fun e w'=>e=.returned (.bool (wrongE active x))/\Upd no w w':=by
 refine u239 ?_
 rw[t239]
 refine⟨fun w1 hN=>?_⟩
 have hB:=hN.blk'
 have hU:=hN.upd no
 unfold wrongE
 refine⟨_,hB.cell rfl,_,hB.cell rfl,⟨(mHas_ok _ _ _).mono ?_⟩⟩
 rintro e w2 ⟨rfl,rfl⟩
 refine⟨_,rfl,_,hB.cell rfl,⟨(mHas_ok _ _ _).mono ?_⟩⟩
 rintro e w3 ⟨rfl,rfl⟩
 refine⟨_,rfl,fun g=>⟨by rw[g];rfl,hU⟩,fun g=>⟨fun g2=>⟨_,hB.cell rfl,⟨(mAnd_ok _ _ _).mono ?_⟩⟩,fun g2=>⟨_,hB.cell rfl,by rw[g,g2];rfl,hU⟩⟩⟩
 rintro e w4 ⟨rfl,rfl⟩
 refine⟨_,rfl,?_⟩
 rw[mi_bne0]
 refine⟨fun g3=>⟨by rw[g,g2,g3];rfl,hU⟩,fun g3=>⟨_,hB.cell rfl,by rw[g,g2,g3];rfl,hU⟩⟩
end Go.Dav
namespace Go.Dav
def ltK (g:Int->Int) (a b:Int):Bool:=decide (g a<g b)||(decide (g a=g b)&&decide (a<b))
def insK (g:Int->Int) (x:Int):List Int->List Int
 | []=>[x]
 | y::l=>if ltK g x y then x::y::l else y::insK g x l
def sortK (g:Int->Int):List Int->List Int
 | []=>[]
 | x::l=>insK g x (sortK g l)
theorem insK_perm (g:Int->Int) (x:Int):∀l,(insK g x l).Perm (x::l)
 | []=>.refl _
 | y::l=>by
  unfold insK
  split
  ·exact .refl _
  ·exact((insK_perm g x l).cons y).trans (.swap x y l)
theorem sortK_perm (g:Int->Int):∀l,(sortK g l).Perm l
 | []=>.refl _
 | x::l=>(insK_perm g x _).trans ((sortK_perm g l).cons x)
theorem ltK_iff {g:Int->Int} {a b:Int}:ltK g a b=true↔g a<g b∨(g a=g b/\a<b):=by simp[ltK]
theorem ltK_not {g:Int->Int} {a b:Int}:ltK g a b=false↔g b<g a∨(g b=g a/\b<=a):=by
 have:=@ltK_iff g a b
 cases h:ltK g a b with
 | true=>rw[h]at this;have:=this.1 rfl;simp;omega
 | false=>simp[h]at this;simp;omega
theorem insK_sorted (g:Int->Int) (x:Int):∀l,l.Pairwise (fun a b=>ltK g b a=false)->(insK g x l).Pairwise (fun a b=>ltK g b a=false)
 | [],_=>by simp[insK]
 | y::l,h=>by
  unfold insK
  have h1:=List.pairwise_cons.1 h
  split
  ·rename_i hx
   refine List.pairwise_cons.2 ⟨fun z hz=>?_,h⟩
   rcases List.mem_cons.1 hz with rfl|hz
   ·have:=ltK_iff.1 hx;rw[ltK_not];omega
   ·have e1:=ltK_iff.1 hx
    have e2:=ltK_not.1 (h1.1 z hz)
    rw[ltK_not];omega
  ·rename_i hx
   have hx:ltK g x y=false:=by simpa using hx
   refine List.pairwise_cons.2 ⟨fun z hz=>?_,insK_sorted g x l h1.2⟩
   rcases List.mem_cons.1 ((insK_perm g x l).mem_iff.1 hz)with rfl|hz
   ·exact hx
   ·exact h1.1 z hz
theorem sortK_sorted (g:Int->Int):∀l,(sortK g l).Pairwise (fun a b=>ltK g b a=false)
 | []=>.nil
 | x::l=>insK_sorted g x _ (sortK_sorted g l)
theorem sorted_one {g:Int->Int} {l m:List Int} (h:l.Perm m) (h1:l.Pairwise (fun a b=>ltK g b a=false)) (h2:m.Pairwise (fun a b=>ltK g b a=false)):l=m:=
 List.Perm.eq_of_pairwise (fun a b _ _ e1 e2=>by rw[ltK_not]at e1 e2;omega) h1 h2 h
theorem sortK_eq {g:Int->Int} {l m:List Int} (h:l.Perm m):sortK g l=sortK g m:=
 sorted_one (((sortK_perm g l).trans h).trans (sortK_perm g m).symm) (sortK_sorted g l) (sortK_sorted g m)
theorem sortK_of {g:Int->Int} {l m:List Int} (h:m.Perm l) (h2:m.Pairwise (fun a b=>ltK g b a=false)):m=sortK g l:=
 sorted_one (h.trans (sortK_perm g l).symm) h2 (sortK_sorted g l)
theorem sortK_congr {g g':Int->Int}:∀{l:List Int},(∀a∈l,g a=g' a)->sortK g l=sortK g' l:=by
 intro l h
 refine sortK_of ((sortK_perm g l)) ((sortK_sorted g l).imp_of_mem ?_)
 intro a b ha hb e
 rw[ltK_not]at e⊢
 rw[<-h a ((sortK_perm g l).mem_iff.1 ha),<-h b ((sortK_perm g l).mem_iff.1 hb)]
 exact e
end Go.Dav
namespace Go.Dav
def laterE (a d:Int):Int×Int:=if(0<=a/\a<=1152921504606846976)/\(0<=d/\d<=1073741824)then(if a<=1152921504606846976-d then(a+d,0)else(0,16))else(0,2)
def fitI (n:Int):Prop:=-9223372036854775808<=n/\n<=9223372036854775807
instance (n:Int):Decidable (fitI n):=inferInstanceAs (Decidable (_/\_))
def addE (a b:Int):Int×Int:=if fitI (a+b)then(a+b,0)else(0,16)
def inS (s:List Int) (c:Int):Prop:=0<=c/\c<s.length
instance (s:List Int) (c:Int):Decidable (inS s c):=inferInstanceAs (Decidable (_/\_))
def gtS (s:List Int) (c:Int):Int:=s.getD c.toNat 0
def spAddE (s:List Int) (c n:Int):Int:=if inS s c then(addE (gtS s c) n).2 else 3
def spAddS (s:List Int) (c n:Int):List Int:=if spAddE s c n=0 then s.set c.toNat (gtS s c+n)else s
def spFoldE (s:List Int) (f t:Int):Int:=if inS s f then(if inS s t then(if f=t then 2 else spAddE s t (gtS s f))else 3)else 3
def spFoldS (s:List Int) (f t:Int):List Int:=if spFoldE s f t=0 then(spAddS s t (gtS s f)).set f.toNat 0 else s
abbrev GaS:=List Int×Int
def entE (x:GaS) (c:Int):Int:=if inS x.1 c then(if x.2=0 then(if 1000<=x.1.sum then 5 else 0)else 7)else 3
def entS (x:GaS) (c:Int):GaS:=if entE x c=0 then(x.1.set c.toNat (gtS x.1 c+1),x.2)else x
def leaE (x:GaS) (c:Int):Int:=if inS x.1 c then(if gtS x.1 c=0 then 12 else 0)else 3
def leaS (x:GaS) (c:Int):GaS:=if leaE x c=0 then(x.1.set c.toNat (gtS x.1 c-1),x.2)else x
def wanE (x:GaS):Int:=if x.2=0 then 0 else 7
def wanS (x:GaS):GaS:=if x.2=0 then(x.1,1)else x
def gtkE (x:GaS):Int:=if x.2=1 then(if 0<x.1.sum then 7 else 0)else 6
def gtkS (x:GaS):GaS:=if gtkE x=0 then(x.1,2)else x
def gfrE (x:GaS):Int:=if x.2=0 then 6 else 0
def gfrS (x:GaS):GaS:=(x.1,0)
structure GaV (x:GaS):Prop where
 pos:∀v∈x.1,0<=v
 sum:x.1.sum<=1000
 len:1<=x.1.length/\x.1.length<=64
 st:0<=x.2/\x.2<=2
structure Req where
 stages:Int
 did:Int
 back:Bool
 up:Bool
 cpu:Int
 who:Int
 told:Bool
deriving DecidableEq
def Req.now (r:Req):Int×Bool×Bool:=if(r.back&&decide (r.did=0))||(!r.back&&decide (r.did=r.stages))then(0,r.back,true)else if r.back then(r.did-1,true,false)else(r.did,false,false)
def Req.over (r:Req):Bool:=r.now.2.2
def Req.why (r:Req):Int:=if r.back then 11 else 0
abbrev DkS:=Option Req×(Int->Bool)
def dkBusy (d:DkS):Bool:=d.1.isSome
def dkUp (d:DkS):Bool:=match d.1 with|some r=>r.up|none=>false
def dkCpu (d:DkS):Int:=match d.1 with|some r=>r.cpu|none=>0
def dkBy (d:DkS):Int:=match d.1 with|some r=>r.who|none=>0
def dkOver (d:DkS):Bool:=match d.1 with|some r=>r.over|none=>false
def dkMay (d:DkS):Int:=match d.1 with|some r=>if r.over then 6 else 0|none=>12
def planE (n:Int):Int:=if 0<=n/\n<10 then 0 else 3
def planS (d:DkS) (n:Int):DkS:=if planE n=0 then(d.1,fun k=>if k=n then true else d.2 k)else d
def dkIn (n:Int):Prop:=0<=n/\n<64
instance (n:Int):Decidable (dkIn n):=inferInstanceAs (Decidable (_/\_))
def beginE (d:DkS) (cpu who:Int):Int:=if d.1.isSome then 7 else if dkIn cpu/\dkIn who then(if cpu=who then 2 else 0)else 3
def beginS (d:DkS) (up:Bool) (cpu who:Int):DkS:=if beginE d cpu who=0 then(some ⟨if up then 4 else 10,0,false,up,cpu,who,false⟩,d.2)else d
def failsR (d:DkS) (r:Req):Bool:=!r.now.2.1&&!r.told&&d.2 r.now.1
def nextD (d:DkS):(Int×Bool×Bool)×Int:=match d.1 with
 | some r=>if r.over then((0,false,false),6)else((r.now.1,r.now.2.1,failsR d r),0)
 | none=>((0,false,false),12)
def nextDS (d:DkS):DkS:=match d.1 with
 | some r=>if r.over then d else(some {r with told:=true,back:=r.back||failsR d r},if failsR d r then fun k=>if k=r.now.1 then false else d.2 k else d.2)
 | none=>d
def doneS (d:DkS):DkS:=match d.1 with
 | some r=>if r.over then d else(some {r with told:=false,did:=if r.back then r.did-1 else r.did+1},d.2)
 | none=>d
def endE' (d:DkS):Int×Int:=match d.1 with
 | some r=>if r.over then(r.why,0)else(0,6)
 | none=>(0,12)
def endS (d:DkS):DkS:=match d.1 with
 | some r=>if r.over then(none,d.2)else d
 | none=>d
structure CoS where
 pw:Bool
 idle:Bool
 way:Int
 since:Int
deriving DecidableEq
abbrev Fl:=Bool×Bool×Bool×Bool×Bool×Bool×Bool×Bool×Bool
def wantsE (f:Fl):Int:=
 if f.1 then 2 else if f.2.2.1 then 3 else if f.2.1||!f.2.2.2.1 then 0 else if f.2.2.2.2.1 then 4 else if f.2.2.2.2.2.1 then 5 else if f.2.2.2.2.2.2.1 then 6 else if f.2.2.2.2.2.2.2.1 then 7 else if f.2.2.2.2.2.2.2.2 then 8 else 9
def coNext (pw idle:Bool) (f:Fl):Int:=if !pw then 0 else if !idle then wantsE f else if wantsE f=0∨wantsE f=9 then 0 else 1
def inO (s:List CoS) (c:Int):Prop:=0<=c/\c<s.length
instance (s:List CoS) (c:Int):Decidable (inO s c):=inferInstanceAs (Decidable (_/\_))
def co0:CoS:=⟨false,false,0,0⟩
def gtO (s:List CoS) (c:Int):CoS:=if inO s c then s.getD c.toNat co0 else co0
def coPowS (s:List CoS) (c:Int) (on:Bool):List CoS:=if inO s c/\(gtO s c).pw≠on then s.set c.toNat {gtO s c with pw:=on,idle:=false,way:=0,since:=0}else s
def tickR (n:Int):Prop:=0<=n/\n<=1152921504606846976
instance (n:Int):Decidable (tickR n):=inferInstanceAs (Decidable (_/\_))
def coRestS (s:List CoS) (c way now:Int):List CoS:=if inO s c/\(0<=way/\way<8)/\tickR now/\(gtO s c).pw=true/\(gtO s c).idle=false then s.set c.toNat {gtO s c with idle:=true,way:=way,since:=now}else s
def coWakeS (s:List CoS) (c now:Int):List CoS:=if inO s c/\tickR now/\(gtO s c).idle=true then s.set c.toNat {gtO s c with idle:=false,way:=0,since:=0}else s
def chooseI (rest limit:Int):Int:=if 50<=limit/\400<=rest then 3 else if 10<=limit/\50<=rest then 2 else if 2<=limit/\10<=rest then 1 else 0
def predictI (now due:Int) (known:Bool):Int:=if known then(if now<0∨due<=now then 0 else min (due-now) 1073741824)else 1073741824
abbrev TmT:=List (Option (Int×Int))
structure TmS where
 now:Int
 n:Nat
 t:TmT
def tmAt (t:TmT) (id:Int):Option (Int×Int):=if 1<=id then t.getD (id.toNat-1) none else none
def dueK (t:TmT) (id:Int):Int:=match tmAt t id with|some p=>p.2|none=>0
def idsP (t:TmT) (p:Int×Int->Bool):List Int:=((List.range t.length).filter fun i=>match t.getD i none with|some x=>p x|none=>false).map fun(i:Nat)=>(i:Int)+1
def tmAll (t:TmT) (c:Int):List Int:=sortK (dueK t) (idsP t fun x=>decide (x.1=c))
def tmDue (now:Int) (t:TmT) (c:Int):List Int:=sortK (dueK t) (idsP t fun x=>decide (x.1=c)&&decide (x.2<=now))
def inT (x:TmS) (c:Int):Prop:=0<=c/\c<x.n
instance (x:TmS) (c:Int):Decidable (inT x c):=inferInstanceAs (Decidable (_/\_))
def freeT (t:TmT):Option Nat:=t.findIdx? Option.isNone
def armE (x:TmS) (c due:Int):Int×Int:=if inT x c then(if tickR due then(match freeT x.t with|some i=>((i:Int)+1,0)|none=>(0,5))else(0,2))else(0,3)
def armS (x:TmS) (c due:Int):TmS:=if inT x c/\tickR due then(match freeT x.t with|some i=>{x with t:=x.t.set i (some (c,due))}|none=>x)else x
def whereT (x:TmS) (id:Int):Int×Bool:=match tmAt x.t id with|some p=>(p.1,true)|none=>(0,false)
def whenT (x:TmS) (id:Int):Int×Bool:=match tmAt x.t id with|some p=>(p.2,true)|none=>(0,false)
def delT (x:TmS) (id:Int):TmS:={x with t:=x.t.set (id.toNat-1) none}
def cancelE (x:TmS) (id:Int):Int:=match tmAt x.t id with|some _=>0|none=>4
def cancelS (x:TmS) (id:Int):TmS:=match tmAt x.t id with|some _=>delT x id|none=>x
def goE (x:TmS) (now:Int):Int:=if x.now<=now/\tickR now then 0 else 2
def goS (x:TmS) (now:Int):TmS:=if goE x now=0 then{x with now:=now}else x
def readyT (x:TmS) (c:Int):Bool:=decide (inT x c)&&decide (0<(tmDue x.now x.t c).length)
def fireE (x:TmS) (c:Int):Int×Int:=if inT x c then(match tmDue x.now x.t c with|a::_=>(a,0)|[]=>(0,12))else(0,3)
def fireS (x:TmS) (c:Int):TmS:=if inT x c then(match tmDue x.now x.t c with|a::_=>delT x a|[]=>x)else x
def nextE' (x:TmS) (c:Int):Int×Int:=if inT x c then(match tmAll x.t c with|a::_=>(dueK x.t a,0)|[]=>(0,12))else(0,3)
def tmList (x:TmS) (c:Int):List Int:=if inT x c then tmAll x.t c else[]
def tmMoveE (x:TmS) (f t:Int):Int×Int:=if inT x f/\inT x t then(if f=t then(0,2)else match tmAll x.t f with|a::_=>(a,0)|[]=>(0,12))else(0,3)
def tmMoveS (x:TmS) (f t:Int):TmS:=if inT x f/\inT x t/\f≠t then(match tmAll x.t f with|a::_=>{x with t:=x.t.set (a.toNat-1) (some (t,dueK x.t a))}|[]=>x)else x
structure TmV (x:TmS):Prop where
 now:tickR x.now
 n:1<=x.n/\x.n<=64
 len:x.t.length=48
 at_:∀id p,tmAt x.t id=some p->(0<=p.1/\p.1<x.n)/\tickR p.2
end Go.Dav
namespace Go.Dav
structure K where
 n:Nat
 on:BV
 ac:BV
 now:Int
 lim:Int
 own:Int->Option Int
 th:Int×TL
 rq:RS
 tm:TmS
 ir:IrS
 rt:RtS
 wk:QL
 ca:CS
 st:KS
 ga:GaS
 sp:BV×BV
 dk:DkS
 co:List CoS
abbrev Rc:=Int×Int×Int×Int×Int
def ansR (x:Int×Int):List Rc:=[(1,0,if x.2=0 then x.1 else 0,0,x.2)]
def plaR (why:Int):List Rc:=[(1,0,0,0,why)]
def ofK (k:K) (c:Int):Int:=if 0<=c/\c<k.n then(if hs k.ac c then 0 else 9)else 3
def thX (k:K) (id:Int):Th:=(getE k.th id).1
def putK (k:K) (id near:Int):K:=
 {k with th:=plS k.th id (chE (thX k id).2.1 k.ac near).1 (chE (thX k id).2.1 k.ac near).2.1,rq:=rqPutS k.rq (chE (thX k id).2.1 k.ac near).1 (thX k id).1 id}
def wrongK (k:K) (x:Th):Bool:=wrongE k.ac (0,x.2.1,x.2.2.1,x.2.2.2.1)
def mendK (k:K) (id:Int):K:=if(thX k id).2.2.2.2.1||!wrongK k (thX k id)then k else putK {k with rq:=rqTakeS k.rq id} id (thX k id).2.2.1
def maskI (k:K) (n:Int):BV:=if nout_Irq n then 0 else(gq k.ir n).2.2.2
def leadK (k:K) (n near:Int):K:={k with rt:=setS k.rt n (chE (maskI k n) k.ac near).1}
def aimK (k:K) (n:Int):K:=if wrongE k.ac (0,maskI k n,(ofE k.rt n).1,!hs (maskI k n) (ofE k.rt n).1)then leadK k n (ofE k.rt n).1 else k
def tickE (k:K) (n:Int):Int:=if(laterE k.now n).2=0 then goE k.tm (laterE k.now n).1 else(laterE k.now n).2
def tickK (k:K) (n:Int):K:=if(laterE k.now n).2=0 then{k with now:=(laterE k.now n).1,tm:=goS k.tm (laterE k.now n).1}else k
def spawnE (k:K) (p:Int) (m:BV):Int×Int:=spE k.th p m
def spawnK (k:K) (p:Int) (m:BV):K:=if(spE k.th p m).2=0 then putK {k with th:=spS k.th p m} (spE k.th p m).1 ((spE k.th p m).1%k.n)else{k with th:=spS k.th p m}
def ownDel (g:Int->Option Int) (t:Int):Int->Option Int:=fun j=>if j=t then none else g j
def quietK (k:K) (t:Int):K:={k with tm:=cancelS k.tm t,own:=ownDel k.own t}
def wakeK (k:K) (id:Int):K:=putK {k with th:=waS k.th id} id (thX {k with th:=waS k.th id} id).2.2.1
def sleepC (k:K) (x:Th):Int:=if hs k.ac x.2.2.1 then x.2.2.1 else(firstE k.ac).1
def sleepE (k:K) (id:Int) (x:Th) (n:Int):Int×Int:=
 if(laterE k.now n).2=0 then(if(armE k.tm (sleepC k x) (laterE k.now n).1).2=0 then((armE k.tm (sleepC k x) (laterE k.now n).1).1,slpE k.th id)else(0,(armE k.tm (sleepC k x) (laterE k.now n).1).2))else(0,(laterE k.now n).2)
def sleepK (k:K) (id:Int) (x:Th) (n:Int):K:=
 if(laterE k.now n).2=0 then(if(armE k.tm (sleepC k x) (laterE k.now n).1).2=0 then
  {k with tm:=armS k.tm (sleepC k x) (laterE k.now n).1,own:=fun j=>if j=(armE k.tm (sleepC k x) (laterE k.now n).1).1 then some id else k.own j,rq:=rqTakeS k.rq id,th:=slpS k.th id (armE k.tm (sleepC k x) (laterE k.now n).1).1}
  else{k with tm:=armS k.tm (sleepC k x) (laterE k.now n).1})else k
def exitK (k:K) (id:Int) (x:Th):K:=if x.2.2.2.2.1 then{quietK k x.2.2.2.2.2 with th:=exS k.th id}else{k with rq:=rqTakeS k.rq id,th:=exS k.th id}
abbrev Evt:=Int×Int×Int×BV×Int
def thrR (k:K) (e:Evt):List Rc:=
 let x:=thX k e.2.2.1
 if(getE k.th e.2.2.1).2≠0 then plaR (getE k.th e.2.2.1).2
 else if e.1=9 then ansR (x.2.2.1,0)
 else if e.1=4 then plaR (exE k.th e.2.2.1)
 else if e.1=8 then plaR (aiE k.th e.2.2.1 e.2.2.2.1)
 else if x.2.2.2.2.1≠decide (e.1=7)then plaR 6
 else if e.1=6 then ansR (sleepE k e.2.2.1 x e.2.2.2.2)
 else if e.1=5 then plaR (rqBackE k.rq e.2.2.1)
 else plaR 0
def thrK (k:K) (e:Evt):K:=
 let x:=thX k e.2.2.1
 if(getE k.th e.2.2.1).2≠0 then k
 else if e.1=9 then k
 else if e.1=4 then exitK k e.2.2.1 x
 else if e.1=8 then(if aiE k.th e.2.2.1 e.2.2.2.1=0 then mendK {k with th:=aiS k.th e.2.2.1 e.2.2.2.1} e.2.2.1 else{k with th:=aiS k.th e.2.2.1 e.2.2.2.1})
 else if x.2.2.2.2.1≠decide (e.1=7)then k
 else if e.1=6 then sleepK k e.2.2.1 x e.2.2.2.2
 else if e.1=5 then{k with rq:=rqBackS k.rq e.2.2.1}
 else wakeK (quietK k x.2.2.2.2.2) e.2.2.1
def irqE' (k:K) (e:Evt):Int:=
 if e.1=12 then reqE k.ir e.2.2.1 e.2.2.2.1
 else if e.1=13 then wantE k.ir e.2.2.1
 else if e.1=14 then aimE k.ir e.2.2.1 e.2.2.2.1
 else if e.1=15 then hushE k.ir e.2.2.1 true
 else if e.1=16 then hushE k.ir e.2.2.1 false
 else wantE k.ir e.2.2.1
def irqK (k:K) (e:Evt):K:=
 if e.1=12 then(if reqE k.ir e.2.2.1 e.2.2.2.1=0 then leadK {k with ir:=reqS k.ir e.2.2.1 e.2.2.2.1} e.2.2.1 (e.2.2.1%k.n)else{k with ir:=reqS k.ir e.2.2.1 e.2.2.2.1})
 else if e.1=13 then(if wantE k.ir e.2.2.1=0 then{k with ir:=freeS k.ir e.2.2.1,rt:=offS k.rt e.2.2.1}else{k with ir:=freeS k.ir e.2.2.1})
 else if e.1=14 then(if aimE k.ir e.2.2.1 e.2.2.2.1=0 then aimK {k with ir:=aimS k.ir e.2.2.1 e.2.2.2.1} e.2.2.1 else{k with ir:=aimS k.ir e.2.2.1 e.2.2.2.1})
 else if e.1=15 then{k with ir:=hushS k.ir e.2.2.1 true}
 else if e.1=16 then{k with ir:=hushS k.ir e.2.2.1 false}
 else{k with ir:=raiseS k.ir e.2.2.1}
def armKE (k:K) (c n:Int):Int×Int:=if(laterE k.now n).2=0 then armE k.tm c (laterE k.now n).1 else(0,(laterE k.now n).2)
def armKS (k:K) (c n:Int):K:=if(laterE k.now n).2=0 then{k with tm:=armS k.tm c (laterE k.now n).1}else k
def plcR (k:K) (e:Evt):List Rc:=
 if ofK k e.2.1≠0 then plaR (ofK k e.2.1)
 else if e.1=10 then ansR (armKE k e.2.1 e.2.2.2.2)
 else if e.1=18 then ansR (quE k.wk e.2.1)
 else if e.1=20 then ansR (sendE k.ca e.2.1)
 else if e.1=21 then ansR (allocE k.st e.2.1)
 else if e.1=22 then plaR (sgiveE k.st e.2.1 e.2.2.1)
 else plaR (entE k.ga e.2.1)
def plcK (k:K) (e:Evt):K:=
 if ofK k e.2.1≠0 then k
 else if e.1=10 then armKS k e.2.1 e.2.2.2.2
 else if e.1=18 then{k with wk:=quS k.wk e.2.1}
 else if e.1=20 then{k with ca:=sendS k.ca e.2.1}
 else if e.1=21 then{k with st:=allocS k.st e.2.1}
 else if e.1=22 then{k with st:=sgiveS k.st e.2.1 e.2.2.1}
 else{k with ga:=entS k.ga e.2.1}
def cancelKE (k:K) (id:Int):Int:=if(whereT k.tm id).2 then(if 0<(k.own id).getD 0 then 6 else cancelE k.tm id)else 4
def cancelKS (k:K) (id:Int):K:=if(whereT k.tm id).2 then(if 0<(k.own id).getD 0 then k else{k with tm:=cancelS k.tm id})else k
def flushE (k:K) (id:Int):Int×Int:=if id<1∨32<id then(0,2)else if(whP k.wk id).2 then(1,0)else(0,0)
def limE (n:Int):Int:=if n<0∨1073741824<n then 2 else 0
def limK (k:K) (n:Int):K:=if limE n=0 then{k with lim:=n}else k
def speedE (lo hi:Int):Int:=if 1<=lo/\hi<=100000/\lo<=hi then 0 else 2
def busyC (k:K):Int:=(bestQ (rqLoadE k.rq) gtB (upto (hs k.ac) k.rq.length)).1
def idleC (k:K):Int:=(bestQ (rqLoadE k.rq) ltB (upto (hs k.ac) k.rq.length)).1
def balP (k:K) (id:Int):Bool:=hs (thX k id).2.1 (idleC k)
def balId (k:K):Int:=if rqLoadE k.rq (busyC k)-rqLoadE k.rq (idleC k)<2 then 0 else((rqListE k.rq (busyC k)).reverse.find? (balP k)).getD 0
def balK (k:K):K:=if rqLoadE k.rq (busyC k)-rqLoadE k.rq (idleC k)<2 then k else
 match(rqListE k.rq (busyC k)).reverse.find? (balP k)with
 | some id=>{k with rq:=rqPutS (rqTakeS k.rq id) (idleC k) (thX k id).1 id,th:=plS k.th id (idleC k) false}
 | none=>k
def reqKE (k:K) (up:Bool) (c:Int):Int:=
 if ¬(0<=c/\c<k.n)then 3
 else if dkBusy k.dk then 7
 else if up&&hs k.on c then 8
 else if !up&&!hs k.on c then 9
 else if !up&&decide ((cs k.on).length=1)then 10
 else beginE k.dk c (firstE (ls k.ac c)).1
def reqKS (k:K) (up:Bool) (c:Int):K:=
 if ¬(0<=c/\c<k.n)then k
 else if dkBusy k.dk then k
 else if up&&hs k.on c then k
 else if !up&&!hs k.on c then k
 else if !up&&decide ((cs k.on).length=1)then k
 else{k with ga:=wanS k.ga,dk:=beginS k.dk up c (firstE (ls k.ac c)).1}
def rstR (k:K) (e:Evt):List Rc:=
 if e.1=11 then plaR (cancelKE k e.2.2.1)
 else if e.1=19 then ansR (flushE k e.2.2.1)
 else if e.1=25 then plaR (planE e.2.2.2.2)
 else if e.1=27 then plaR (leaE k.ga e.2.1)
 else if e.1=28 then plaR (limE e.2.2.2.2)
 else if e.1=29 then plaR (speedE e.2.2.1 e.2.2.2.2)
 else if e.1=30 then ansR (balId k,0)
 else plaR 2
def rstK (k:K) (e:Evt):K:=
 if e.1=11 then cancelKS k e.2.2.1
 else if e.1=19 then k
 else if e.1=25 then{k with dk:=planS k.dk e.2.2.2.2}
 else if e.1=27 then{k with ga:=leaS k.ga e.2.1}
 else if e.1=28 then limK k e.2.2.2.2
 else if e.1=29 then k
 else if e.1=30 then balK k
 else k
def waitsK (k:K) (c:Int):Int×Bool:=match(onL k.rt c).find? (readyE k.ir)with|some n=>(n,true)|none=>(0,false)
def flagsK (k:K) (c:Int):Fl:=
 (hs (sLeft k.sp) c,hs k.sp.2 c,dkBusy k.dk&&decide (dkBy k.dk=c),hs k.ac c,decide (0<(lsE_Call k.ca c).length),(waitsK k c).2,readyT k.tm c,
  decide (0<(lsE_Work k.wk c).length+(lsE_Work k.wk (-1)).length),decide (0<rqLoadE k.rq c))
def fireK (k:K) (c:Int):K:=
 let k1:K:={k with tm:=fireS k.tm c,own:=ownDel k.own (fireE k.tm c).1}
 if 0<(k.own (fireE k.tm c).1).getD 0 then wakeK k1 ((k.own (fireE k.tm c).1).getD 0)else k1
def lieK (k:K) (c:Int):K:={k with co:=coRestS k.co c (chooseI (predictI k.now (nextE' k.tm c).1 (decide ((nextE' k.tm c).2=0))) k.lim) k.now}
def thingR (k:K) (c what:Int):List Rc:=
 if what=4 then[(6,c,(tkE k.ca c).1,0,0)]
 else if what=5 then[(4,c,(waitsK k c).1,0,0)]
 else if what=6 then[(3,c,(fireE k.tm c).1,(k.own (fireE k.tm c).1).getD 0,0)]
 else if what=7 then[(5,c,(taE k.wk c).1,0,0)]
 else[(2,c,(rqPickE k.rq c).1,0,0)]
def thingK (k:K) (c what:Int):K:=
 if what=4 then{k with ca:=tkS k.ca c}
 else if what=5 then{k with ir:=clearS k.ir (waitsK k c).1}
 else if what=6 then fireK k c
 else if what=7 then{k with wk:=taS k.wk c}
 else{k with rq:=rqPickS k.rq c}
def undoK (k:K) (up:Bool) (stage c:Int):K:=
 if up&&decide (stage=1)then{k with co:=coPowS k.co c false}
 else if !up&&decide (stage=1)then{k with ac:=wi k.ac c}
 else k
def comeK (k:K) (stage c:Int):K:=
 if stage=1 then{k with co:=coPowS k.co c true}
 else if stage=2 then{k with st:=drainS k.st c}
 else
  let k1:K:={k with on:=wi k.on c,ac:=wi k.ac c}
  let k2:=(tlE k1.th).foldl mendK k1
  (listL k2.ir).foldl aimK k2
def haltOk (k:K):Bool:=!(k.sp.1==0)&&sReady k.sp
def haltK (k:K) (c who:Int):K:=
 if k.sp.1=0 then{k with sp:=(sBegin k.sp (ls (wi k.ac c) who)).2}
 else if sReady k.sp then
  let k1:=(onL k.rt c).foldl (fun k n=>leadK k n c) k
  {k1 with sp:=(sFree k1.sp).2}
 else k
def emptyOk (k:K) (c:Int):Bool:=(rqListE k.rq c).isEmpty
def emptyK (k:K) (c:Int):K:=match rqListE k.rq c with
 | []=>k
 | a::_=>putK {k with rq:=rqTakeS k.rq a} a c
def leaveOk (k:K) (stage c who:Int):Bool:=
 if stage=1 then true
 else if stage=2 then emptyOk k c
 else if stage=3 then decide ((tmMoveE k.tm c who).2≠0)
 else if stage=4 then decide ((unE k.wk c).2≠0)
 else if stage=5 then decide ((mvE k.ca c who).2≠0)
 else if stage=6 then haltOk k
 else true
def leaveK (k:K) (stage c who:Int):K:=
 if stage=1 then{k with ac:=ls k.ac c}
 else if stage=2 then emptyK k c
 else if stage=3 then{k with tm:=tmMoveS k.tm c who}
 else if stage=4 then{k with wk:=unS k.wk c}
 else if stage=5 then{k with ca:=mvS k.ca c who}
 else if stage=6 then haltK k c who
 else if stage=7 then{k with st:=drainS k.st c}
 else if stage=8 then k
 else{k with on:=ls k.on c,co:=coPowS k.co c false}
def stageOk (k:K) (s:Int×Bool×Bool) (c who:Int):Bool:=
 if s.2.1 then true else if s.1=0 then decide (gtkE k.ga=0)else if dkUp k.dk then true else leaveOk k s.1 c who
def stageK (k:K) (s:Int×Bool×Bool) (c who:Int):K:=
 if s.2.1 then undoK k (dkUp k.dk) s.1 c else if s.1=0 then{k with ga:=gtkS k.ga}else if dkUp k.dk then comeK k s.1 c else leaveK k s.1 c who
def turn1 (k:K) (who:Int):K:=
 let k1:K:={k with dk:=nextDS k.dk}
 if(nextD k.dk).1.2.2 then k1
 else
  let k2:=stageK k1 (nextD k.dk).1 (dkCpu k.dk) who
  if stageOk k1 (nextD k.dk).1 (dkCpu k.dk) who then{k2 with dk:=doneS k2.dk}else k2
def turnR (k:K) (who:Int):List Rc:=if dkOver (turn1 k who).dk then[(7,dkCpu k.dk,0,0,(endE' (turn1 k who).dk).1)]else[]
def turnK (k:K) (who:Int):K:=if dkOver (turn1 k who).dk then{turn1 k who with dk:=endS (turn1 k who).dk,ga:=gfrS (turn1 k who).ga}else turn1 k who
def whatK (k:K) (c:Int):Int:=coNext (gtO k.co c).pw (gtO k.co c).idle (flagsK k c)
def stepR (k:K) (c:Int):List Rc:=
 if whatK k c=0∨whatK k c=1∨whatK k c=2∨whatK k c=9 then[]
 else if whatK k c=3 then turnR k c
 else thingR k c (whatK k c)
def stepK (k:K) (c:Int):K:=
 if whatK k c=0 then k
 else if whatK k c=1 then{k with co:=coWakeS k.co c k.now}
 else if whatK k c=2 then{k with sp:=(sAck k.sp c).2}
 else if whatK k c=3 then turnK k c
 else if whatK k c=9 then lieK k c
 else thingK k c (whatK k c)
def doR (k:K) (e:Evt):List Rc:=
 if e.1=1 then(if e.2.1<0∨k.n<=e.2.1 then plaR 3 else stepR k e.2.1)
 else if e.1=2 then plaR (tickE k e.2.2.2.2)
 else if e.1=3 then ansR (spawnE k e.2.2.1 e.2.2.2.1)
 else if 4<=e.1/\e.1<=9 then thrR k e
 else if 12<=e.1/\e.1<=17 then plaR (irqE' k e)
 else if e.1=18 then(if e.2.1 = -1 then ansR (quE k.wk (-1))else plcR k e)
 else if e.1=10∨e.1=20∨e.1=21∨e.1=22∨e.1=26 then plcR k e
 else if e.1=23∨e.1=24 then plaR (reqKE k (decide (e.1=23)) e.2.1)
 else rstR k e
def doK (k:K) (e:Evt):K:=
 if e.1=1 then(if e.2.1<0∨k.n<=e.2.1 then k else stepK k e.2.1)
 else if e.1=2 then tickK k e.2.2.2.2
 else if e.1=3 then spawnK k e.2.2.1 e.2.2.2.1
 else if 4<=e.1/\e.1<=9 then thrK k e
 else if 12<=e.1/\e.1<=17 then irqK k e
 else if e.1=18 then(if e.2.1 = -1 then{k with wk:=quS k.wk (-1)}else plcK k e)
 else if e.1=10∨e.1=20∨e.1=21∨e.1=22∨e.1=26 then plcK k e
 else if e.1=23∨e.1=24 then reqKS k (decide (e.1=23)) e.2.1
 else rstK k e
def newK' (n:Nat):K:=
 {n:=n,on:=upM n,ac:=upM n,now:=0,lim:=1073741824,own:=fun _=>none,th:=(n,List.replicate 32 none),rq:=List.replicate n (32,[]),
  tm:=⟨0,n,List.replicate 48 none⟩,ir:=(n,List.replicate 16 i0),rt:=(n,List.replicate 16 (-1)),wk:=newQ n,ca:=newC n,st:=newK n 12,
  ga:=(List.replicate n 0,0),sp:=(0,0),dk:=(none,fun _=>false),co:=List.replicate n ⟨true,false,0,0⟩}
end Go.Dav
namespace Go.Dav
def lvW (a b:Nat):Nat:=(a ^^^ b).log2/3
def dgW (t k:Nat):Nat:=t/8 ^ k%8
def ixW (now due:Nat):Nat:=if due<=now then 168 else lvW due now*8+dgW due (lvW due now)
theorem xor_ne {a b:Nat} (h:a≠b):a ^^^ b≠0:=fun e=>h (by
 apply Nat.eq_of_testBit_eq
 intro i
 have:=congrArg (fun x=>x.testBit i) e
 simp only[Nat.testBit_xor,Nat.zero_testBit]at this
 cases h1:a.testBit i<;>cases h2:b.testBit i<;>simp_all)
theorem shr_eq {a b i:Nat}:a >>> i=b >>> i↔(a ^^^ b) >>> i=0:=by
 rw[Nat.shiftRight_xor_distrib]
 constructor
 ·intro h;rw[h];exact Nat.xor_self _
 ·intro h
  by_cases e:a >>> i=b >>> i
  ·exact e
  ·exact absurd h (xor_ne e)
theorem div8 (a k:Nat):a/8 ^ k=a >>> (3*k):=by
 rw[Nat.shiftRight_eq_div_pow,Nat.pow_mul]
theorem lv_hi {a b:Nat} (h:a≠b):a/8 ^ (lvW a b+1)=b/8 ^ (lvW a b+1):=by
 rw[div8,div8,shr_eq,Nat.shiftRight_eq_div_pow]
 apply Nat.div_eq_of_lt
 refine Nat.lt_of_lt_of_le Nat.lt_log2_self (Nat.pow_le_pow_right (by omega) ?_)
 unfold lvW;omega
theorem lv_lo {a b:Nat} (h:a≠b):a/8 ^ lvW a b≠b/8 ^ lvW a b:=by
 rw[div8,div8]
 intro e
 rw[shr_eq,Nat.shiftRight_eq_div_pow]at e
 have h1:=Nat.log2_self_le (xor_ne h)
 have h2:2 ^ (3*lvW a b)<=2 ^ (a ^^^ b).log2:=Nat.pow_le_pow_right (by omega) (by unfold lvW;omega)
 have:=Nat.div_pos (Nat.le_trans h2 h1) (Nat.pow_pos (by omega))
 omega
theorem div_up {a b j k:Nat} (h:a/8 ^ j=b/8 ^ j) (hk:j<=k):a/8 ^ k=b/8 ^ k:=by
 obtain⟨d,rfl⟩:=Nat.le.dest hk
 rw[Nat.pow_add,<-Nat.div_div_eq_div_mul,<-Nat.div_div_eq_div_mul,h]
theorem lv_eq {a b j:Nat} (h1:a/8 ^ (j+1)=b/8 ^ (j+1)) (h2:a/8 ^ j≠b/8 ^ j):lvW a b=j:=by
 have h:a≠b:=fun e=>h2 (by rw[e])
 rcases Nat.lt_trichotomy (lvW a b) j with k|k|k
 ·exact absurd (div_up (lv_hi h) (by omega)) h2
 ·exact k
 ·exact absurd (div_up h1 (by omega)) (lv_lo h)
theorem dg_lt (t k:Nat):dgW t k<8:=Nat.mod_lt _ (by omega)
theorem split8 (t k:Nat):t/8 ^ k=8*(t/8 ^ (k+1))+dgW t k:=by
 unfold dgW
 rw[Nat.pow_succ,<-Nat.div_div_eq_div_mul]
 omega
theorem lt_div {a b k:Nat} (h:a/8 ^ k<b/8 ^ k):a<b:=by
 rcases Nat.lt_or_ge a b with h1|h1
 ·exact h1
 ·have:=Nat.div_le_div_right (c:=8 ^ k) h1;omega
theorem le_div {a b:Nat} (k:Nat) (h:a<=b):a/8 ^ k<=b/8 ^ k:=Nat.div_le_div_right h
theorem above {now due:Nat} (h:now<due):now/8 ^ lvW due now<due/8 ^ lvW due now:=
 Nat.lt_of_le_of_ne (le_div _ (by omega)) (fun e=>lv_lo (by omega) e.symm)
theorem lv_le {a b:Nat} (ha:a<=2 ^ 60) (hb:b<=2 ^ 60):lvW a b<=20:=by
 by_cases h:a=b
 ·subst h;simp[lvW]
 ·have h1:a ^^^ b<2 ^ 61:=Nat.xor_lt_two_pow (by omega) (by omega)
  have:=(Nat.log2_lt (xor_ne h)).2 h1
  unfold lvW;omega
theorem ix_lt {now due:Nat} (ha:due<=2 ^ 60) (hb:now<=2 ^ 60):ixW now due<=168:=by
 unfold ixW
 split
 ·omega
 ·have:=lv_le ha hb;have:=dg_lt due (lvW due now);omega
theorem ix_lt' {now due:Nat} (h:now<due) (ha:due<=2 ^ 60) (hb:now<=2 ^ 60):lvW due now*8+dgW due (lvW due now)<168:=by
 have:=lv_le ha hb;have:=dg_lt due (lvW due now);omega
theorem ix_keep {now now' due:Nat} (h:now<now') (hd:now<due) (hk:lvW now' now<lvW due now∨lvW due now=lvW now' now/\dgW now' (lvW now' now)<dgW due (lvW now' now)) :
  now'<due/\ixW now' due=ixW now due:=by
 have k1:=lv_hi (a:=now') (b:=now) (by omega)
 have d1:=lv_hi (a:=due) (b:=now) (by omega)
 have d3:=above hd
 have key:now'/8 ^ lvW due now<due/8 ^ lvW due now/\due/8 ^ (lvW due now+1)=now'/8 ^ (lvW due now+1):=by
  rcases hk with hk|⟨hk,hg⟩
  ·have e1:=div_up k1 (k:=lvW due now) (by omega)
   have e2:=div_up k1 (k:=lvW due now+1) (by omega)
   exact⟨by omega,by omega⟩
  ·rw[hk]at d1⊢
   have s1:=split8 due (lvW now' now)
   have s2:=split8 now' (lvW now' now)
   exact⟨by omega,by omega⟩
 have hlt:=lt_div key.1
 have hl:lvW due now'=lvW due now:=lv_eq key.2 (by omega)
 refine⟨hlt,?_⟩
 unfold ixW
 rw[if_neg (by omega),if_neg (by omega),hl]
theorem ix_mono {now a b:Nat} (ha:now<a) (hb:now<b) (h:lvW a now*8+dgW a (lvW a now)<lvW b now*8+dgW b (lvW b now)):a<b:=by
 have a1:=lv_hi (a:=a) (b:=now) (by omega)
 have b1:=lv_hi (a:=b) (b:=now) (by omega)
 have b3:=above hb
 have ga:=dg_lt a (lvW a now)
 have gb:=dg_lt b (lvW b now)
 rcases Nat.lt_or_ge (lvW a now) (lvW b now)with hl|hl
 ·have e1:=div_up a1 (k:=lvW b now) (by omega)
  exact lt_div (k:=lvW b now) (by omega)
 ·have hl':lvW a now=lvW b now:=by omega
  rw[hl']at a1 h
  have s1:=split8 a (lvW b now)
  have s2:=split8 b (lvW b now)
  exact lt_div (k:=lvW b now) (by omega)
end Go.Dav
namespace Go.Dav
open Go.Proofs
def lenN (x:Nat):Nat:=if x=0 then 0 else x.log2+1
theorem lenN_div {x k:Nat} (h:2 ^ k<=x):lenN x=lenN (x/2 ^ k)+k:=by
 have hp:0<2 ^ k:=Nat.pow_pos (by omega)
 have h1:x≠0:=by omega
 have h2:x/2 ^ k≠0:=fun e=>by
  have:=Nat.div_pos h hp
  omega
 unfold lenN
 rw[if_neg h1,if_neg h2]
 have e:x.log2=(x/2 ^ k).log2+k:=by
  rw[Nat.log2_eq_iff h1]
  have a1:=Nat.log2_self_le h2
  have a2:=@Nat.lt_log2_self (x/2 ^ k)
  constructor
  ·rw[Nat.pow_add]
   exact Nat.le_trans (Nat.mul_le_mul_right _ a1) (Nat.div_mul_le_self _ _)
  ·rw[Nat.add_right_comm,Nat.pow_add]
   exact(Nat.div_lt_iff_lt_mul hp).1 a2
 omega
def lenT:ByteArray:=ByteArray.mk #[(0:UInt8),(1:UInt8),(2:UInt8),(2:UInt8),(3:UInt8),(3:UInt8),(3:UInt8),(3:UInt8),(4:UInt8),(4:UInt8),(4:UInt8),(4:UInt8),(4:UInt8),(4:UInt8),(4:UInt8),(4:UInt8),(5:UInt8),(5:UInt8),(5:UInt8),(5:UInt8),(5:UInt8),(5:UInt8),(5:UInt8),(5:UInt8),(5:UInt8),(5:UInt8),(5:UInt8),(5:UInt8),(5:UInt8),(5:UInt8),(5:UInt8),(5:UInt8),(6:UInt8),(6:UInt8),(6:UInt8),(6:UInt8),(6:UInt8),(6:UInt8),(6:UInt8),(6:UInt8),(6:UInt8),(6:UInt8),(6:UInt8),(6:UInt8),(6:UInt8),(6:UInt8),(6:UInt8),(6:UInt8),(6:UInt8),(6:UInt8),(6:UInt8),(6:UInt8),(6:UInt8),(6:UInt8),(6:UInt8),(6:UInt8),(6:UInt8),(6:UInt8),(6:UInt8),(6:UInt8),(6:UInt8),(6:UInt8),(6:UInt8),(6:UInt8),(7:UInt8),(7:UInt8),(7:UInt8),(7:UInt8),(7:UInt8),(7:UInt8),(7:UInt8),(7:UInt8),(7:UInt8),(7:UInt8),(7:UInt8),(7:UInt8),(7:UInt8),(7:UInt8),(7:UInt8),(7:UInt8),(7:UInt8),(7:UInt8),(7:UInt8),(7:UInt8),(7:UInt8),(7:UInt8),(7:UInt8),(7:UInt8),(7:UInt8),(7:UInt8),(7:UInt8),(7:UInt8),(7:UInt8),(7:UInt8),(7:UInt8),(7:UInt8),(7:UInt8),(7:UInt8),(7:UInt8),(7:UInt8),(7:UInt8),(7:UInt8),(7:UInt8),(7:UInt8),(7:UInt8),(7:UInt8),(7:UInt8),(7:UInt8),(7:UInt8),(7:UInt8),(7:UInt8),(7:UInt8),(7:UInt8),(7:UInt8),(7:UInt8),(7:UInt8),(7:UInt8),(7:UInt8),(7:UInt8),(7:UInt8),(7:UInt8),(7:UInt8),(7:UInt8),(7:UInt8),(7:UInt8),(7:UInt8),(7:UInt8),(7:UInt8),(8:UInt8),(8:UInt8),(8:UInt8),(8:UInt8),(8:UInt8),(8:UInt8),(8:UInt8),(8:UInt8),(8:UInt8),(8:UInt8),(8:UInt8),(8:UInt8),(8:UInt8),(8:UInt8),(8:UInt8),(8:UInt8),(8:UInt8),(8:UInt8),(8:UInt8),(8:UInt8),(8:UInt8),(8:UInt8),(8:UInt8),(8:UInt8),(8:UInt8),(8:UInt8),(8:UInt8),(8:UInt8),(8:UInt8),(8:UInt8),(8:UInt8),(8:UInt8),(8:UInt8),(8:UInt8),(8:UInt8),(8:UInt8),(8:UInt8),(8:UInt8),(8:UInt8),(8:UInt8),(8:UInt8),(8:UInt8),(8:UInt8),(8:UInt8),(8:UInt8),(8:UInt8),(8:UInt8),(8:UInt8),(8:UInt8),(8:UInt8),(8:UInt8),(8:UInt8),(8:UInt8),(8:UInt8),(8:UInt8),(8:UInt8),(8:UInt8),(8:UInt8),(8:UInt8),(8:UInt8),(8:UInt8),(8:UInt8),(8:UInt8),(8:UInt8),(8:UInt8),(8:UInt8),(8:UInt8),(8:UInt8),(8:UInt8),(8:UInt8),(8:UInt8),(8:UInt8),(8:UInt8),(8:UInt8),(8:UInt8),(8:UInt8),(8:UInt8),(8:UInt8),(8:UInt8),(8:UInt8),(8:UInt8),(8:UInt8),(8:UInt8),(8:UInt8),(8:UInt8),(8:UInt8),(8:UInt8),(8:UInt8),(8:UInt8),(8:UInt8),(8:UInt8),(8:UInt8),(8:UInt8),(8:UInt8),(8:UInt8),(8:UInt8),(8:UInt8),(8:UInt8),(8:UInt8),(8:UInt8),(8:UInt8),(8:UInt8),(8:UInt8),(8:UInt8),(8:UInt8),(8:UInt8),(8:UInt8),(8:UInt8),(8:UInt8),(8:UInt8),(8:UInt8),(8:UInt8),(8:UInt8),(8:UInt8),(8:UInt8),(8:UInt8),(8:UInt8),(8:UInt8),(8:UInt8),(8:UInt8),(8:UInt8),(8:UInt8),(8:UInt8),(8:UInt8),(8:UInt8),(8:UInt8),(8:UInt8),(8:UInt8)]
theorem lenT_all:(List.range 256).all (fun n=>lenT[n]?==some (UInt8.ofNat (lenN n)))=true:=by kernel_rfl
theorem lenT_at {n:Nat} (h:n<256):lenT[n]?=some (UInt8.ofNat (lenN n)):=by
 have:=List.all_eq_true.1 lenT_all n (List.mem_range.2 h)
 simpa using this
theorem lenN_le {n:Nat} (h:n<256):lenN n<=8:=by
 unfold lenN
 split
 ·omega
 ·have:=(Nat.log2_lt (n:=n) (k:=8) (by assumption)).2 h
  omega
theorem lenT_c {n:Nat} (h:n<256):((UInt8.ofNat (lenN n)).toNat:Int)=(lenN n:Int):=by
 have:=lenN_le h
 rw[UInt8.toNat_ofNat_of_lt' (show lenN n<256 by omega)]
theorem wu8 {x:Nat} (h:x<256):IntKind.wrap .u8 (x:Int)=(x:Int):=by
 unfold IntKind.wrap
 simp[IntKind.bits,IntKind.signed]
 omega
theorem len64_2 {x:Nat} (hx:x<65536) {c n:Nat} (hn:n=lenN x+c) (hc:c<=48) (w:World):CutD Tryz.prog M371 c371_1 (e371_1 (x:Int) (c:Int)) w (k371_1 fun e w'=>e=.returned (.int .i64 (n:Int))/\w'=w):=by
 refine CutD.mk ?_
 rw[t371_1]
 refine⟨fun g=>?_,fun g=>?_⟩
 ·have g:=of_decide_eq_true g
  have h8:x/256<256:=by omega
  have e8:shrOp .u64 (x:Int) 8=((x/256:Nat):Int):=shrN x (k:=8) (by omega) rfl
  have el:=lenN_div (x:=x) (k:=8) (by omega)
  have hle:=lenN_le h8
  rw[show(2:Nat) ^ 8=256 from rfl]at el
  rw[e8,wu8 h8]
  refine⟨by decide,⟨by omega,by omega⟩,_,⟨_,by rw[Int.toNat_natCast];exact lenT_at h8,lenT_c h8⟩,?_,rfl⟩
  rw[w64 (x:=(c:Int)+8) (by omega),w64 (x:=(lenN (x/256):Int)) (by omega),w64 (by omega)]
  congr 2
  omega
 ·have g:=of_decide_eq_false g
  have h8:x<256:=by omega
  have hle:=lenN_le h8
  rw[wu8 h8]
  refine⟨⟨by omega,by omega⟩,_,⟨_,by rw[Int.toNat_natCast];exact lenT_at h8,lenT_c h8⟩,?_,rfl⟩
  rw[w64 (x:=(lenN x:Int)) (by omega),w64 (by omega)]
  congr 2
  omega
theorem len64_1 {x:Nat} (hx:x<4294967296) {c n:Nat} (hn:n=lenN x+c) (hc:c<=32) (w:World):CutD Tryz.prog M371 c371_0 (e371_0 (x:Int) (c:Int)) w (k371_0 fun e w'=>e=.returned (.int .i64 (n:Int))/\w'=w):=by
 refine CutD.mk ?_
 rw[t371_0]
 refine⟨fun g=>⟨by decide,?_⟩,fun g=>?_⟩
 ·have g:=of_decide_eq_true g
  have e8:shrOp .u64 (x:Int) 16=((x/65536:Nat):Int):=shrN x (k:=16) (by omega) rfl
  have el:=lenN_div (x:=x) (k:=16) (by omega)
  rw[show(2:Nat) ^ 16=65536 from rfl]at el
  rw[e8,w64 (by omega)]
  exact len64_2 (c:=c+16) (by omega) (by omega) (by omega) w
 ·have g:=of_decide_eq_false g
  exact len64_2 (by omega) hn (by omega) w
theorem len64_ok {x:Nat} (hx:x<2 ^ 64) (w:World):Calls Tryz.prog 371 #[.int .u64 (x:Int)] w fun e w'=>e=.returned (.int .i64 (lenN x:Int))/\w'=w:=by
 refine u371 ?_
 rw[t371]
 refine⟨fun g=>⟨by decide,?_⟩,fun g=>?_⟩
 ·have g:=of_decide_eq_true g
  have e8:shrOp .u64 (x:Int) 32=((x/4294967296:Nat):Int):=shrN x (k:=32) (by omega) rfl
  have el:=lenN_div (x:=x) (k:=32) (by omega)
  rw[show(2:Nat) ^ 32=4294967296 from rfl]at el
  rw[e8]
  exact len64_1 (c:=32) (by omega) (by omega) (by omega) w
 ·have g:=of_decide_eq_false g
  exact len64_1 (c:=0) (by omega) (by omega) (by omega) w
theorem xorN {a b:Nat} (ha:a<=2 ^ 60) (hb:b<=2 ^ 60):bitsOp .xor .i64 (a:Int) (b:Int)=((a ^^^ b:Nat):Int):=by
 have h:a ^^^ b<2 ^ 61:=Nat.xor_lt_two_pow (by omega) (by omega)
 show IntKind.wrap .i64 ((BitVec.ofInt 64 (a:Int) ^^^ BitVec.ofInt 64 (b:Int)).toNat:Int)=_
 have e:(BitVec.ofInt 64 (a:Int) ^^^ BitVec.ofInt 64 (b:Int)).toNat=a ^^^ b:=by
  rw[BitVec.toNat_xor]
  simp only[BitVec.ofInt_natCast,BitVec.toNat_ofNat]
  rw[Nat.mod_eq_of_lt (by omega),Nat.mod_eq_of_lt (by omega)]
 rw[e,w64 (by omega)]
theorem level_ok {a b:Nat} (ha:a<=2 ^ 60) (hb:b<=2 ^ 60) (h:a≠b) (w:World):Calls Tryz.prog 314 #[.int .i64 (a:Int),.int .i64 (b:Int)] w fun e w'=>e=.returned (.int .i64 (lvW a b:Int))/\w'=w:=by
 have hx:a ^^^ b<2 ^ 61:=Nat.xor_lt_two_pow (by omega) (by omega)
 have hne:=xor_ne h
 have hlog:=(Nat.log2_lt hne).2 hx
 refine u314 ?_
 rw[t314,xorN ha hb]
 rw[wrapu (by omega)]
 refine⟨(len64_ok (x:=a ^^^ b) (by omega) w).mono ?_⟩
 rintro e w1 ⟨rfl,rfl⟩
 refine⟨_,rfl,by decide,?_,rfl⟩
 have e1:(lenN (a ^^^ b):Int)=((a ^^^ b).log2:Int)+1:=by unfold lenN;rw[if_neg hne];omega
 rw[e1,show((a ^^^ b).log2:Int)+1-1=((a ^^^ b).log2:Int) by omega,w64 (x:=((a ^^^ b).log2:Int)) (by omega)]
 have e2:Int.tdiv ((a ^^^ b).log2:Int) 3=((lvW a b:Nat):Int):=by
  rw[Int.tdiv_eq_ediv_of_nonneg (by omega)]
  unfold lvW
  omega
 have hl:=lv_le ha hb
 rw[e2,w64 (by omega)]
theorem digit_ok {t k:Nat} (ht:t<=2 ^ 60) (hk:k<=20) (w:World):Calls Tryz.prog 316 #[.int .i64 (t:Int),.int .i64 (k:Int)] w fun e w'=>e=.returned (.int .i64 (dgW t k:Int))/\w'=w:=by
 refine u316 ?_
 rw[t316,w64 (x:=3*(k:Int)) (by omega)]
 refine⟨by omega,by decide,?_,rfl⟩
 have e1:shrOp .i64 (t:Int) (3*(k:Int))=((t/8 ^ k:Nat):Int):=by
  unfold shrOp
  have e2:min (3*(k:Int)).toNat IntKind.i64.bits=3*k:=by show min _ 64=3*k;omega
  rw[e2,show((2:Int) ^ (3*k))=((2 ^ (3*k):Nat):Int) by simp,Int.fdiv_eq_ediv_of_nonneg _ (Int.natCast_nonneg _),<-Int.natCast_ediv,Nat.pow_mul]
 rw[e1]
 rfl
theorem wright_ok (n:Int) (w:World):Calls Tryz.prog 198 #[.int .i64 n] w fun e w'=>e=.returned (.bool (decide (tickR n)))/\w'=w:=by
 refine u198 ?_
 rw[t198]
 refine⟨fun g=>⟨?_,rfl⟩,fun g=>⟨?_,rfl⟩⟩
 ·have:=of_decide_eq_true g
  congr 2
  exact decide_eq_decide.2 (by unfold tickR;omega)
 ·have:=of_decide_eq_false g
  congr 2
  exact(decide_eq_false (fun hh=>absurd hh.1 this)).symm
end Go.Dav
namespace Go.Dav
abbrev DuF:=Int->Option Int
def ixF (now:Int) (g:DuF) (id:Int):Nat:=ixW now.toNat ((g id).getD 0).toNat
def whPut (now:Int) (g:DuF) (L:List (List Int)) (id:Int):List (List Int):=L.set (ixF now g id) (L.getD (ixF now g id) []++[id])
def putL (now:Int) (g:DuF) (L:List (List Int)) (ids:List Int):List (List Int):=ids.foldl (whPut now g) L
theorem whPut_def (now:Int) (g:DuF) (L:List (List Int)) (id:Int):whPut now g L id=L.set (ixF now g id) (L.getD (ixF now g id) []++[id]):=rfl
theorem putL_snoc (now:Int) (g:DuF) (L:List (List Int)) (ids:List Int) (id:Int):putL now g L (ids++[id])=whPut now g (putL now g L ids) id:=by
 unfold putL
 rw[List.foldl_append]
 rfl
theorem whPut_len (now:Int) (g:DuF) (L:List (List Int)) (id:Int):(whPut now g L id).length=L.length:=by simp[whPut]
theorem putL_len (now:Int) (g:DuF):∀(ids:List Int) (L:List (List Int)),(putL now g L ids).length=L.length
 | [],_=>rfl
 | id::ids,L=>by
  show(putL now g (whPut now g L id) ids).length=_
  rw[putL_len now g ids,whPut_len]
theorem whPut_at {now:Int} {g:DuF} {L:List (List Int)} {id:Int} (h:ixF now g id<L.length) (i:Nat):(whPut now g L id).getD i []=if i=ixF now g id then L.getD i []++[id]else L.getD i []:=by
 unfold whPut
 simp only[List.getD_eq_getElem?_getD,List.getElem?_set]
 by_cases hi:ixF now g id=i
 ·subst hi
  simp[h]
 ·have hi':¬i=ixF now g id:=fun e=>hi e.symm
  simp[hi,hi']
structure WhV (now:Int) (L:List (List Int)) (g:DuF):Prop where
 tk:tickR now
 len:L.length=169
 due:∀id d,g id=some d->(1<=id/\id<=48)/\tickR d
 at_:∀i id,id∈L.getD i []↔∃d,g id=some d/\ixW now.toNat d.toNat=i
 nd:∀i,(L.getD i []).Nodup
theorem tick_nat {n:Int} (h:tickR n):∃k:Nat,n=(k:Int)/\k<=2 ^ 60:=⟨n.toNat,by unfold tickR at h;omega,by unfold tickR at h;omega⟩
theorem tick_le {n:Int} (h:tickR n):n.toNat<=2 ^ 60:=by unfold tickR at h;omega
theorem ixF_lt {now:Int} {g:DuF} {id d:Int} (hn:tickR now) (hd:tickR d) (h:g id=some d):ixF now g id<169:=by
 unfold ixF
 rw[h]
 have:=ix_lt (now:=now.toNat) (due:=d.toNat) (tick_le hd) (tick_le hn)
 simp only[Option.getD_some]
 omega
theorem small_len {l:List Int} (h:l.Nodup) (hm:∀id∈l,1<=id/\id<=48):l.length<=48:=by
 have:=h.length_le_of_subset (l₂:=(List.range 48).map (fun(k:Nat)=>(k:Int)+1)) (fun v hv=>by
  have:=hm v hv
  exact List.mem_map.2 ⟨v.toNat-1,List.mem_range.2 (by omega),by omega⟩)
 simpa using this
theorem WhV.row_len {now:Int} {L:List (List Int)} {g:DuF} (h:WhV now L g) (i:Nat):(L.getD i []).length<=48:=
 small_len (h.nd i) fun id hid=>by
  obtain⟨d,hd,_⟩:=(h.at_ i id).1 hid
  exact(h.due id d hd).1
theorem putL_spec {now:Int} {g:DuF}:∀(ids:List Int) (L:List (List Int)) (hids:ids.Nodup) (hix:∀id∈ids,ixF now g id<L.length) (hno:∀id∈ids,∀i,id∉L.getD i []) (hnd:∀i,(L.getD i []).Nodup),
  (∀i id,id∈(putL now g L ids).getD i []↔id∈L.getD i []∨(id∈ids/\ixF now g id=i))/\∀i,((putL now g L ids).getD i []).Nodup
 | [],L,_,_,_,hnd=>⟨fun i id=>by simp[putL],hnd⟩
 | x::ids,L,hids,hix,hno,hnd=>by
  have hc:=List.nodup_cons.1 hids
  have hx:=hix x (List.mem_cons_self)
  have e:=whPut_at hx
  obtain⟨h1,h2⟩:=putL_spec (now:=now) (g:=g) ids (whPut now g L x) hc.2 (fun id h=>by rw[whPut_len];exact hix id (List.mem_cons_of_mem _ h)) (fun id h i=>by
   rw[e i]
   split
   ·rw[List.mem_append,List.mem_singleton]
    rintro(h'|rfl)
    ·exact hno id (List.mem_cons_of_mem _ h) i h'
    ·exact hc.1 h
   ·exact hno id (List.mem_cons_of_mem _ h) i) (fun i=>by
   rw[e i]
   split
   ·refine List.nodup_append.2 ⟨hnd i,by simp,fun a ha b hb=>?_⟩
    rw[List.mem_singleton]at hb
    subst hb
    rintro rfl
    exact hno a List.mem_cons_self i ha
   ·exact hnd i)
  refine⟨fun i id=>?_,h2⟩
  show id∈(putL now g (whPut now g L x) ids).getD i []↔_
  rw[h1,e i]
  split
  ·rename_i hi
   subst hi
   simp only[List.mem_append,List.mem_singleton,List.mem_cons]
   constructor
   ·rintro((h|h)|h)
    ·exact .inl h
    ·have h:id=x:=by simpa using h
     subst h
     exact .inr ⟨.inl rfl,rfl⟩
    ·exact .inr ⟨.inr h.1,h.2⟩
   ·rintro(h|⟨rfl|h,h'⟩)
    ·exact .inl (.inl h)
    ·exact .inl (.inr (by simp))
    ·exact .inr ⟨h,h'⟩
  ·rename_i hi
   simp only[List.mem_cons]
   constructor
   ·rintro(h|h)
    ·exact .inl h
    ·exact .inr ⟨.inr h.1,h.2⟩
   ·rintro(h|⟨rfl|h,h'⟩)
    ·exact .inl h
    ·exact absurd h'.symm hi
    ·exact .inr ⟨h,h'⟩
def gPut (g:DuF) (id d:Int):DuF:=fun j=>if j=id then some d else g j
def gDel (g:DuF) (id:Int):DuF:=fun j=>if j=id then none else g j
theorem WhV.add {now:Int} {L:List (List Int)} {g:DuF} (h:WhV now L g) {id d:Int} (hid:1<=id/\id<=48) (hd:tickR d) (hg:g id=none):WhV now (putL now (gPut g id d) L [id]) (gPut g id d):=by
 have hgp:gPut g id d id=some d:=by simp[gPut]
 have hno:∀i,id∉L.getD i []:=fun i hi=>by
  obtain⟨d',h',_⟩:=(h.at_ i id).1 hi
  rw[hg]at h'
  cases h'
 obtain⟨h1,h2⟩:=putL_spec (now:=now) (g:=gPut g id d) [id] L (by simp) (fun x hx=>by
  rw[List.mem_singleton]at hx
  subst hx
  rw[h.len]
  exact ixF_lt h.tk hd hgp) (fun x hx i=>by
  rw[List.mem_singleton]at hx
  subst hx
  exact hno i) h.nd
 refine⟨h.tk,by rw[putL_len];exact h.len,fun j e he=>?_,fun i j=>?_,h2⟩
 ·unfold gPut at he
  split at he
  ·cases he
   rename_i hj
   rw[hj]
   exact⟨hid,hd⟩
  ·exact h.due j e he
 ·rw[h1,h.at_]
  simp only[List.mem_singleton]
  by_cases hj:j=id
  ·subst hj
   rw[hg,hgp]
   simp[ixF,hgp]
  ·have e:gPut g id d j=g j:=by simp[gPut,hj]
   rw[e]
   simp[hj]
theorem WhV.del {now:Int} {L:List (List Int)} {g:DuF} (h:WhV now L g) {id d:Int} (hg:g id=some d):WhV now (L.set (ixF now g id) ((L.getD (ixF now g id) []).filter fun x=>!(x==id))) (gDel g id):=by
 have hlt:ixF now g id<L.length:=by rw[h.len];exact ixF_lt h.tk (h.due id d hg).2 hg
 have e:∀i,(L.set (ixF now g id) ((L.getD (ixF now g id) []).filter fun x=>!(x==id))).getD i []=if i=ixF now g id then(L.getD i []).filter (fun x=>!(x==id))else L.getD i []:=fun i=>by
  simp only[List.getD_eq_getElem?_getD,List.getElem?_set]
  by_cases hi:ixF now g id=i
  ·subst hi
   simp[hlt]
  ·have hi':¬i=ixF now g id:=fun e=>hi e.symm
   simp[hi,hi']
 refine⟨h.tk,by simpa using h.len,fun j e he=>?_,fun i j=>?_,fun i=>?_⟩
 ·unfold gDel at he
  split at he
  ·cases he
  ·exact h.due j e he
 ·rw[e i]
  by_cases hj:j=id
  ·subst hj
   have:gDel g j j=none:=by simp[gDel]
   rw[this]
   split
   ·simp
   ·rename_i hi
    constructor
    ·intro hm
     obtain⟨d',h1,h2⟩:=(h.at_ i j).1 hm
     refine absurd ?_ hi
     unfold ixF
     rw[h1]
     exact h2.symm
    ·rintro⟨_,h1,_⟩
     cases h1
  ·have e2:gDel g id j=g j:=by simp[gDel,hj]
   rw[e2,<-h.at_]
   split
   ·simp[hj]
   ·exact Iff.rfl
 ·rw[e i]
  split
  ·exact(h.nd i).filter _
  ·exact h.nd i
def empL (L:List (List Int)) (a k:Nat):List (List Int):=L.take a++List.replicate k []++L.drop (a+k)
theorem empL_zero (L:List (List Int)) (a:Nat):empL L a 0=L:=by simp[empL]
theorem empL_len {L:List (List Int)} {a k:Nat} (h:a+k<=L.length):(empL L a k).length=L.length:=by simp[empL];omega
theorem empL_at {L:List (List Int)} {a k:Nat} (h:a+k<=L.length) (i:Nat):(empL L a k).getD i []=if a<=i/\i<a+k then[]else L.getD i []:=by
 unfold empL
 simp only[List.getD_eq_getElem?_getD]
 by_cases h1:i<a
 ·rw[if_neg (by omega),List.append_assoc,List.getElem?_append_left (by simp;omega),List.getElem?_take_of_lt h1]
 ·rw[List.append_assoc,List.getElem?_append_right (by simp;omega)]
  have e:(L.take a).length=a:=by simp;omega
  rw[e]
  by_cases h2:i<a+k
  ·rw[if_pos ⟨by omega,h2⟩,List.getElem?_append_left (by simp;omega),List.getElem?_replicate,if_pos (by omega)]
   rfl
  ·rw[if_neg (by omega),List.getElem?_append_right (by simp;omega),List.length_replicate,List.getElem?_drop,show a+k+(i-a-k)=i by omega]
theorem list_eq_getD {L M:List (List Int)} (hl:L.length=M.length) (h:∀i,L.getD i []=M.getD i []):L=M:=by
 apply List.ext_getElem hl
 intro i h1 h2
 have:=h i
 simpa [List.getD_eq_getElem?_getD,h1,h2]using this
theorem empL_step {L:List (List Int)} {a k:Nat} (h:a+k<L.length):(empL L a k).set (a+k) []=empL L a (k+1):=by
 refine list_eq_getD (by rw[List.length_set,empL_len (by omega),empL_len (by omega)]) fun i=>?_
 rw[empL_at (by omega)]
 have e:((empL L a k).set (a+k) []).getD i []=if a+k=i then[]else(empL L a k).getD i []:=by
  simp only[List.getD_eq_getElem?_getD,List.getElem?_set,empL_len (show a+k<=L.length by omega)]
  by_cases hi:a+k=i
  ·rw[if_pos hi,if_pos hi,if_pos (by omega)]
   rfl
  ·rw[if_neg hi,if_neg hi]
 rw[e,empL_at (by omega)]
 by_cases hi:a+k=i
 ·rw[if_pos hi,if_pos (by omega)]
 ·rw[if_neg hi]
  by_cases h1:a<=i/\i<a+k
  ·rw[if_pos h1,if_pos (by omega)]
  ·rw[if_neg h1,if_neg (by omega)]
def gonL (L:List (List Int)) (a k:Nat):List Int:=((List.range k).map fun j=>L.getD (a+j) []).flatten
theorem gonL_succ (L:List (List Int)) (a k:Nat):gonL L a (k+1)=gonL L a k++L.getD (a+k) []:=by
 unfold gonL
 rw[List.range_succ,List.map_append,List.flatten_append]
 simp
theorem gonL_zero (L:List (List Int)) (a:Nat):gonL L a 0=[]:=rfl
theorem mem_gonL {L:List (List Int)} {a k:Nat} {id:Int}:id∈gonL L a k↔∃i,(a<=i/\i<a+k)/\id∈L.getD i []:=by
 unfold gonL
 rw[List.mem_flatten]
 constructor
 ·rintro⟨l,hl,hid⟩
  obtain⟨j,hj,rfl⟩:=List.mem_map.1 hl
  have:=List.mem_range.1 hj
  exact⟨a+j,⟨by omega,by omega⟩,hid⟩
 ·rintro⟨i,hi,hid⟩
  exact⟨_,List.mem_map.2 ⟨i-a,List.mem_range.2 (by omega),rfl⟩,by rw[show a+(i-a)=i by omega];exact hid⟩
theorem gonL_add (L:List (List Int)) (a:Nat):∀k,gonL L 0 (a+k)=gonL L 0 a++gonL (empL L 0 a) a k∨¬a+k<=L.length
 | 0=>.inl (by simp[gonL_zero])
 | k+1=>by
  by_cases h:a+(k+1)<=L.length
  ·refine .inl ?_
   rcases gonL_add L a k with ih|ih
   ·rw[show a+(k+1)=(a+k)+1 by omega,gonL_succ,ih,gonL_succ,List.append_assoc,Nat.zero_add,empL_at (by omega),if_neg (by omega)]
   ·omega
  ·exact .inr h
theorem empL_add {L:List (List Int)} {a k:Nat} (h:a+k<=L.length):empL (empL L 0 a) a k=empL L 0 (a+k):=by
 have h0:(empL L 0 a).length=L.length:=empL_len (by omega)
 refine list_eq_getD (by rw[empL_len (by rw[h0];exact h),h0,empL_len (by omega)]) fun i=>?_
 rw[empL_at (by rw[h0];exact h),empL_at (by omega),empL_at (by omega)]
 by_cases h1:a<=i/\i<a+k
 ·rw[if_pos h1,if_pos (by omega)]
 ·rw[if_neg h1]
  by_cases h2:i<a
  ·rw[if_pos (by omega),if_pos (by omega)]
  ·rw[if_neg (by omega),if_neg (by omega)]
theorem WhV.go {now now':Int} {L:List (List Int)} {g:DuF} (h:WhV now L g) (hn:tickR now') (hlt:now<now') :
  let N:=lvW now'.toNat now.toNat*8+(dgW now'.toNat (lvW now'.toNat now.toNat)+1)
  N<=168/\(gonL L 0 N).Nodup/\(∀id∈gonL L 0 N,∃d,g id=some d/\tickR d)/\WhV now' (putL now' g (empL L 0 N) (gonL L 0 N)) g:=by
 intro N
 have h0:=tick_le h.tk
 have h0':=tick_le hn
 have hlt':now.toNat<now'.toNat:=by have:=h.tk;unfold tickR at this;omega
 have hlv:=lv_le h0' h0
 have hdg:=dg_lt now'.toNat (lvW now'.toNat now.toNat)
 have hN:N<=168:=by omega
 have hNl:0+N<=L.length:=by rw[h.len];omega
 have hmem:∀id∈gonL L 0 N,∃d,g id=some d/\tickR d:=fun id hid=>by
  obtain⟨i,_,hi⟩:=mem_gonL.1 hid
  obtain⟨d,hd,_⟩:=(h.at_ i id).1 hi
  exact⟨d,hd,(h.due id d hd).2⟩
 have hnd:∀k,k<=N->(gonL L 0 k).Nodup:=by
  intro k
  induction k with
  | zero=>intro _;rw[gonL_zero];exact List.nodup_nil
  | succ k ih=>
   intro hk
   rw[gonL_succ]
   refine List.nodup_append.2 ⟨ih (by omega),h.nd _,fun a ha b hb=>?_⟩
   rintro rfl
   obtain⟨i,hi,hm⟩:=mem_gonL.1 ha
   obtain⟨d,hd,e1⟩:=(h.at_ i a).1 hm
   obtain⟨d',hd',e2⟩:=(h.at_ _ a).1 hb
   rw[hd]at hd'
   cases hd'
   omega
 refine⟨hN,hnd N (Nat.le_refl _),hmem,?_⟩
 have eE:=empL_at hNl
 obtain⟨h1,h2⟩:=putL_spec (now:=now') (g:=g) (gonL L 0 N) (empL L 0 N) (hnd N (Nat.le_refl _)) (fun id hid=>by
  obtain⟨d,hd,ht⟩:=hmem id hid
  rw[empL_len hNl,h.len]
  exact ixF_lt hn ht hd) (fun id hid i hi=>by
  rw[eE i]at hi
  split at hi
  ·cases hi
  ·rename_i hni
   obtain⟨i',hi',hm⟩:=mem_gonL.1 hid
   obtain⟨d,hd,e1⟩:=(h.at_ i' id).1 hm
   obtain⟨d',hd',e2⟩:=(h.at_ i id).1 hi
   rw[hd]at hd'
   cases hd'
   omega) (fun i=>by
  rw[eE i]
  split
  ·exact List.nodup_nil
  ·exact h.nd i)
 refine⟨hn,by rw[putL_len,empL_len hNl];exact h.len,h.due,fun i id=>?_,h2⟩
 rw[h1,eE i]
 have ixe:∀d,g id=some d->ixF now' g id=ixW now'.toNat d.toNat:=fun d hd=>by unfold ixF;rw[hd];rfl
 have keep:∀d,g id=some d->¬(0<=ixW now.toNat d.toNat/\ixW now.toNat d.toNat<0+N)->ixW now'.toNat d.toNat=ixW now.toNat d.toNat:=fun d hd hni=>by
  by_cases hr:d.toNat<=now.toNat
  ·unfold ixW
   rw[if_pos hr,if_pos (by omega)]
  ·have e0:ixW now.toNat d.toNat=lvW d.toNat now.toNat*8+dgW d.toNat (lvW d.toNat now.toNat):=by unfold ixW;rw[if_neg hr]
   have hd8:=dg_lt d.toNat (lvW d.toNat now.toNat)
   refine(ix_keep hlt' (by omega) ?_).2
   rw[e0]at hni
   rcases Nat.lt_trichotomy (lvW now'.toNat now.toNat) (lvW d.toNat now.toNat)with hl|hl|hl
   ·exact .inl hl
   ·refine .inr ⟨hl.symm,?_⟩
    rw[hl]
    show dgW now'.toNat (lvW d.toNat now.toNat)<_
    have hNe:N=lvW d.toNat now.toNat*8+(dgW now'.toNat (lvW d.toNat now.toNat)+1):=by show lvW now'.toNat now.toNat*8+(dgW now'.toNat (lvW now'.toNat now.toNat)+1)=_;rw[hl]
    omega
   ·exfalso
    have:N=lvW now'.toNat now.toNat*8+(dgW now'.toNat (lvW now'.toNat now.toNat)+1):=rfl
    omega
 constructor
 ·rintro(hm|⟨hm,hi⟩)
  ·split at hm
   ·cases hm
   ·rename_i hni
    obtain⟨d,hd,e1⟩:=(h.at_ i id).1 hm
    subst e1
    exact⟨d,hd,keep d hd hni⟩
  ·obtain⟨d,hd,_⟩:=hmem id hm
   exact⟨d,hd,by rw[<-ixe d hd];exact hi⟩
 ·rintro⟨d,hd,e1⟩
  have hat:=(h.at_ (ixW now.toNat d.toNat) id).2 ⟨d,hd,rfl⟩
  by_cases hni:0<=ixW now.toNat d.toNat/\ixW now.toNat d.toNat<0+N
  ·exact .inr ⟨mem_gonL.2 ⟨_,hni,hat⟩,by rw[ixe d hd];exact e1⟩
  ·refine .inl ?_
   have:=keep d hd hni
   rw[e1]at this
   subst this
   rw[if_neg hni]
   exact hat
end Go.Dav
namespace Go.Dav
open Go.Proofs
theorem wmT:MapT Tryz.prog 285 3 2 (.int .i64 0):=⟨by kernel_rfl,by kernel_rfl,by kernel_rfl,by kernel_rfl⟩
abbrev DuM:=(Int->Option Int)×Nat
abbrev WhS:=Int×List (List Int)×DuM
def wlE (bm:Nat) (s:Int×List Lst):List Value:=.int .i64 s.1::.map (some bm)::s.2.map hdI
theorem Star.leftS {σ τ:Type} {A:Ob σ} {B:Ob τ} {w:World} {F:Fp} [fb:Frame B] {x:σ×τ} (h:Star A B w F x):∃F1,A w F1 x.1/\(∀j,F1 j->F j)/\∀w' s',Turn A w w' F1 s'->Turn (Star A B) w w' F (s',x.2):=by
 obtain⟨F1,F2,h1,h2,h3,h4⟩:=h
 refine⟨F1,h1,fun j hj=>(h3 j).2 (.inl hj),?_⟩
 rintro w' s' ⟨F',k1,k2,k3⟩
 refine⟨fun i=>F' i∨F2 i,⟨F',F2,k1,fb.upd h2 k2 (fun i hi hf=>h4 i hf hi),fun _=>Iff.rfl,fun i hi hf=>?_⟩,k2.mono (fun i _ hi=>(h3 i).2 (.inl hi)),fun i hi=>?_⟩
 ·rcases k3 i hi with h|h
  ·exact h4 i h hf
  ·have:=fb.lt h2 i hf;omega
 ·rcases hi with hi|hi
  ·exact(k3 i hi).imp (fun h=>(h3 i).2 (.inl h)) id
  ·exact .inl ((h3 i).2 (.inr hi))
def WrO (b bm:Nat):Ob (Int×List Lst):=fun w F s=>Star (Rw b 289 (wlE bm)) (Fam (Ls 3)) w F (s,s.2)
instance Frame.wro (b bm:Nat):Frame (WrO b bm) where
 upd:=fun h k hG=>Frame.star.upd h k hG
 lt:=fun h=>Frame.star.lt h
def WhO (b:Nat):Ob WhS:=fun w F x=>∃bm ys,Star (WrO b bm) (MapO bm (Value.int .i64)) w F ((x.1,ys),x.2.2)/\rws ys=x.2.1
instance Frame.who (b:Nat):Frame (WhO b) where
 upd:=fun⟨bm,ys,h,r⟩ k hG=>⟨bm,ys,Frame.star.upd h k hG,r⟩
 lt:=fun⟨_,_,h,_⟩=>Frame.star.lt h
theorem setL_two (a c:Value) (l vs:List Value) (i:Nat):setL (a::c::l) (2+i) vs=a::c::setL l i vs:=by
 unfold setL
 rw[show 2+i=i+2 by omega,show i+2+vs.length=(i+vs.length)+2 by omega]
 simp
section
variable {b bm:Nat} {w:World} {F:Fp} {n:Int} {ys:List Lst}
theorem WrO.at (h:WrO b bm w F (n,ys)) {i:Nat} (hi:i<ys.length):∃F1,Ls 3 w F1 ys[i]/\(∀j,F1 j->F j)/\(∀w',Upd F1 w w'->w'.cell? ((⟨b,0,none⟩:Addr).add (2+i))=some (hdI ys[i]))/\
  ∀w1 (q:Lst),Turn (Ls 3) w w1 F1 q->∀K:World->Prop,(∀w',Turn (WrO b bm) w w' F (n,ys.set i q)->K w')->Wr w1 ((⟨b,0,none⟩:Addr).add (2+i)) [hdI q] K:=by
 obtain⟨G1,G2,h1,h2,h3,h4⟩:=h
 simp only at h1 h2
 obtain⟨F1,k1,k0,k2⟩:=Fam.at h2 hi
 have hU:∀w',Upd F1 w w'->Rw b 289 (wlE bm) w' G1 (n,ys):=fun w' k=>(Frame.rw ..).upd h1 k (fun j hj hf=>h4 j hj (k0 j hf))
 refine⟨F1,k1,fun j hj=>(h3 j).2 (.inr (k0 j hj)),fun w' k=>?_,fun w1 q k K hK=>?_⟩
 ·refine(hU w' k).blk.cell ?_
  rw[show 2+i=i+2 by omega]
  simp[wlE,hi]
 ·obtain⟨F',q1,q2,q3⟩:=k2 _ _ k
  have h1':=(Frame.rw ..).upd h1 q2 h4
  refine h1'.blk.wr (k:=2+i) (by simp[wlE];omega) fun w' hW=>hK w' ?_
  have e1:setL (wlE bm (n,ys)) (2+i) [hdI q]=wlE bm (n,ys.set i q):=by
   unfold wlE
   rw[setL_two,setL_set hi]
  rw[e1]at hW
  have hT:=h1'.turned (w':=w') (s':=(n,ys.set i q)) hW.U hW.blk'
  obtain⟨H',t1,t2,t3⟩:=hT
  have hlt:=(Frame.rw ..).lt h1
  refine⟨fun j=>H' j∨F' j,⟨H',F',t1,Frame.fam.upd q1 t2 ?_,fun _=>Iff.rfl,?_⟩,?_,?_⟩
  ·intro j hj hf
   rcases q3 j hj with h|h
   ·exact h4 j hf h
   ·have:=hlt j hf;omega
  ·intro j hj hf
   rcases t3 j hj with h|h
   ·rcases q3 j hf with h'|h'
    ·exact h4 j h h'
    ·have:=hlt j h;omega
   ·have:=Frame.fam.lt q1 j hf;omega
  ·exact(q2.mono (fun j _ hj=>(h3 j).2 (.inr hj))).trans t2 (fun j _ hj=>(h3 j).2 (.inl hj))
  ·rintro j (hj|hj)
   ·rcases t3 j hj with h|h
    ·exact .inl ((h3 j).2 (.inl h))
    ·exact .inr (Nat.le_trans q2.size h)
   ·rcases q3 j hj with h|h
    ·exact .inl ((h3 j).2 (.inr h))
    ·exact .inr h
theorem WrO.blk (h:WrO b bm w F (n,ys)):Blk w b (wlE bm (n,ys)) 289:=by
 obtain⟨F1,h1,_⟩:=Star.left h
 exact h1.blk
theorem WrO.tick (h:WrO b bm w F (n,ys)) (v:Int) {K:World->Prop} (hK:∀w',Turn (WrO b bm) w w' F (v,ys)->K w'):Wr w ((⟨b,0,none⟩:Addr).add 0) [.int .i64 v] K:=by
 obtain⟨F1,h1,k1⟩:=Star.left h
 refine h1.blk.wr (k:=0) (by simp[wlE]) fun w' hW=>hK w' ?_
 obtain⟨F',h3,h4⟩:=k1 _ (v,ys) (h1.turned (s':=(v,ys)) hW.U hW.blk')
 exact⟨F',h3,h4⟩
end
section
variable {b:Nat} {w:World} {F:Fp} {x:WhS}
structure WhAt (b:Nat) (w:World) (F:Fp) (x:WhS) (i:Nat) (p:Option Addr) (c:Nat) (F1:Fp):Prop where
 ls:Ls 3 w F1 (p,c,x.2.1.getD i [])
 sub:∀j,F1 j->F j
 cell:∀w',Upd F1 w w'->w'.cell? ((⟨b,0,none⟩:Addr).add (2+i))=some (.slice p (x.2.1.getD i []).length c)
 put:∀w1 p' c' l',Turn (Ls 3) w w1 F1 (p',c',l')->∀K:World->Prop,(∀w',Turn (WhO b) w w' F (x.1,x.2.1.set i l',x.2.2)->K w')->Wr w1 ((⟨b,0,none⟩:Addr).add (2+i)) [.slice p' l'.length c'] K
theorem WhO.at (h:WhO b w F x) {i:Nat} (hi:i<x.2.1.length):∃p c F1,WhAt b w F x i p c F1:=by
 obtain⟨n,L,m⟩:=x
 obtain⟨bm,ys,h,he⟩:=h
 simp only at h he hi
 subst he
 have hi':i<ys.length:=by simpa [rws]using hi
 have hg:(rws ys).getD i []=ys[i].2.2:=by
  rw[List.getD_eq_getElem?_getD,List.getElem?_eq_getElem hi,Option.getD_some,rws_at ys hi']
 obtain⟨G,h1,hsub,k1⟩:=Star.leftS h
 obtain⟨F1,a1,a2,a3,a4⟩:=h1.at hi'
 refine⟨ys[i].1,ys[i].2.1,F1,?_,fun j hj=>hsub j (a2 j hj),?_,?_⟩
 ·simp only[hg]
  exact a1
 ·intro w' hU
  simp only[hg]
  exact a3 w' hU
 ·intro w1 p' c' l' hT K hK
  refine a4 w1 (p',c',l') hT K fun w' hT'=>hK w' ?_
  obtain⟨F',h3,h4⟩:=k1 _ _ hT'
  exact⟨F',⟨bm,_,h3,rws_set ..⟩,h4⟩
theorem WhO.blk (h:WhO b w F x):∃bm ys,Blk w b (wlE bm (x.1,ys)) 289:=by
 obtain⟨bm,ys,h,_⟩:=h
 obtain⟨G,h1,_⟩:=Star.left h
 exact⟨bm,ys,h1.blk⟩
theorem WhO.tick (h:WhO b w F x) (v:Int) {K:World->Prop} (hK:∀w',Turn (WhO b) w w' F (v,x.2)->K w'):Wr w ((⟨b,0,none⟩:Addr).add 0) [.int .i64 v] K:=by
 obtain⟨bm,ys,h,r⟩:=h
 obtain⟨G,h1,k1⟩:=Star.left h
 refine h1.tick v fun w' hT=>hK w' ?_
 obtain⟨F',h3,h4⟩:=k1 _ _ hT
 exact⟨F',⟨bm,ys,h3,r⟩,h4⟩
theorem WhO.map (h:WhO b w F x):∃bm F1,(∃ys,Blk w b (wlE bm (x.1,ys)) 289)/\MapO bm (Value.int .i64) w F1 x.2.2/\∀w' m,Turn (MapO bm (Value.int .i64)) w w' F1 m->Turn (WhO b) w w' F (x.1,x.2.1,m):=by
 obtain⟨bm,ys,h,r⟩:=h
 obtain⟨G,h1,_⟩:=Star.left h
 obtain⟨F1,h2,k2⟩:=Star.right h
 refine⟨bm,F1,⟨ys,h1.blk⟩,h2,fun w' m hT=>?_⟩
 obtain⟨F',h3,h4⟩:=k2 _ _ hT
 exact⟨F',⟨bm,ys,h3,r⟩,h4⟩
theorem wlist_ok_Wheel (h:WhO b w F x) (hn:tickR x.1) {d:Int} (hd:tickR d):Calls Tryz.prog 372 #[.pointer (some ⟨b,0,none⟩),.int .i64 d] w fun e w'=>e=.returned (.pointer (some ((⟨b,0,none⟩:Addr).add (2+ixW x.1.toNat d.toNat))))/\Upd no w w':=by
 obtain⟨bm,ys,hB⟩:=h.blk
 obtain⟨n,hnn,hn2⟩:=tick_nat hn
 obtain⟨k,rfl,hk2⟩:=tick_nat hd
 rw[hnn]at hB
 simp only[hnn,Int.toNat_natCast]
 have hlv:=lv_le hk2 hn2
 have hdg:=dg_lt k (lvW k n)
 refine u372 ?_
 rw[t372]
 refine⟨_,rfl,_,hB.cell rfl,fun g=>⟨_,rfl,?_,Upd.refl _ _⟩,fun g=>⟨_,rfl,_,hB.cell rfl,⟨(level_ok hk2 hn2 ?_ w).mono ?_⟩⟩⟩
 ·have g:=of_decide_eq_true g
  have:ixW n k=168:=by unfold ixW;rw[if_pos (by omega)]
  rw[this]
 ·have g:=of_decide_eq_false g
  omega
 ·have g:=of_decide_eq_false g
  rintro e w1 ⟨rfl,rfl⟩
  refine⟨_,rfl,fun w2 q1 q2 q3 q4=>?_⟩
  refine⟨_,rfl,⟨by omega,by omega⟩,⟨(digit_ok hk2 hlv w2).mono ?_⟩⟩
  rintro e w3 ⟨rfl,rfl⟩
  refine⟨_,rfl,⟨by omega,by omega⟩,?_,Upd.same no q1 q2 q3 q4⟩
  have:ixW n k=lvW k n*8+dgW k (lvW k n):=by unfold ixW;rw[if_neg (by omega)]
  rw[this,Addr.add_add,Addr.add_add,Int.toNat_natCast,Int.toNat_natCast,Nat.mul_one]
theorem wput_ok (h:WhO b w F x) (hn:tickR x.1) (hL:x.2.1.length=169) {ids:List Int} {p:Option Addr} {c:Nat} (hc:Cells w p (ids.map (Value.int .i64))) (hp:∀j,fpS p j->¬F j) (hl:ids.length<=48) (hr:∀i,(x.2.1.getD i []).length<=48) (hg:∀id∈ids,∃d,x.2.2.1 id=some d/\tickR d) :
  Calls Tryz.prog 317 #[.pointer (some ⟨b,0,none⟩),.slice p ids.length c] w fun e w'=>e=.returned (.tuple #[])/\Turn (WhO b) w w' F (x.1,putL x.1 x.2.2.1 x.2.1 ids,x.2.2):=by
 obtain⟨n,L,m⟩:=x
 simp only at hn hL hr hg
 refine u317 ?_
 rw[t317]
 refine⟨WP_loop okProg (M:=M317) (σ:=Nat) (fun i=>e317_0 (some ⟨b,0,none⟩) p ids.length c (ids.length:Int) (i:Int)) (fun i w'=>i<=ids.length/\Turn (WhO b) w w' F (n,putL n m.1 L (ids.take i),m)/\∀j,((putL n m.1 L (ids.take i)).getD j []).length<=48+i) (fun i _=>ids.length-i) 0 ⟨rfl,rfl,rfl,rfl,trivial⟩ ⟨by omega,Turn.same h,hr⟩ ?_⟩
 rintro i w1 ⟨hi,hT,hrow⟩
 rw[t317_0]
 refine⟨fun g=>?_,fun g=>?_⟩
 ·have g:=of_decide_eq_true g
  have hi':i<ids.length:=by omega
  have hc1:Cells w1 p (ids.map (Value.int .i64)):=by
   obtain⟨F',_,hU,_⟩:=hT
   refine hc.upd fun a ha=>hU.blk _ ?_ (hp _ ⟨a,ha,rfl⟩)
   have:=hc 0 (.int .i64 (ids[0]'(by omega))) (by simp)
   obtain⟨a',ha',hcell⟩:=this
   rw[ha]at ha'
   cases ha'
   have:=cell_lt hcell
   rwa [add_block]at this
  obtain⟨a,ha,hcell⟩:=hc1.at1 hi'
  obtain⟨d,hgd,hd⟩:=hg _ (List.getElem_mem hi')
  obtain⟨F1,h1,k1⟩:=hT.turn
  obtain⟨bm,Fm,⟨ys,hB⟩,hM,kM⟩:=h1.map
  have hlk:=run_lookup wmT hM ids[i] false
  simp only[hgd,Option.map_some,Option.getD_some]at hlk
  refine⟨⟨by omega,by omega⟩,a,ha,_,hcell,_,rfl,_,hB.cell rfl,_,hlk,⟨(wlist_ok_Wheel h1 hn hd).mono ?_⟩⟩
  rintro e w2 ⟨rfl,hU2⟩
  have h2:=(Frame.who b).upd h1 hU2 (fun _ _ h=>h)
  have hixF:ixF n m.1 ids[i]=ixW n.toNat d.toNat:=by unfold ixF;rw[hgd];rfl
  have hix:ixW n.toNat d.toNat<(putL n m.1 L (ids.take i)).length:=by
   rw[putL_len,hL,<-hixF]
   exact ixF_lt hn hd hgd
  obtain⟨p1,c1,F2,hA⟩:=h2.at hix
  refine⟨_,rfl,_,rfl,_,_,_,hA.cell w2 (Upd.refl _ _),⟨fun w3 hN=>?_⟩⟩
  obtain⟨p',c',w4,hrun,hT4⟩:=Ls.push elI_Msk hA.ls (by have:=hrow (ixW n.toNat d.toNat);simp only;omega) hN 36
  refine⟨_,_,_,w4,hrun,_,rfl,?_⟩
  have hcur:Upd no w1 w2:=hU2
  refine hA.put w4 p' c' _ hT4 _ fun w5 h5=>?_
  have e1:(putL n m.1 L (ids.take i)).set (ixW n.toNat d.toNat) ((putL n m.1 L (ids.take i)).getD (ixW n.toNat d.toNat) []++[ids[i]])=putL n m.1 L (ids.take (i+1)):=by
   rw[List.take_succ_eq_append_getElem hi',putL_snoc,whPut_def,hixF]
  simp only at h5
  rw[e1]at h5
  have h5':Turn (WhO b) w1 w5 F1 (n,putL n m.1 L (ids.take (i+1)),m):=Turn.next h2 (hU2.mono (fun _ _ h=>h.elim)) (fun _ h=>.inl h) h5
  refine⟨i+1,⟨rfl,rfl,rfl,by rw[w64 (by omega)];rfl,trivial⟩,⟨by omega,k1 _ _ h5',fun j=>?_⟩,by omega⟩
  rw[<-e1]
  have:=hrow j
  simp only[List.getD_eq_getElem?_getD,List.getElem?_set]
  by_cases hj:ixW n.toNat d.toNat=j
  ·subst hj
   rw[if_pos rfl,if_pos hix]
   simp only[List.getD_eq_getElem?_getD]at this
   simp only[Option.getD_some,List.length_append,List.length_cons,List.length_nil]
   omega
  ·rw[if_neg hj]
   simp only[List.getD_eq_getElem?_getD]at this
   omega
 ·have g:=of_decide_eq_false g
  have:i=ids.length:=by omega
  subst this
  rw[List.take_length]at hT
  exact⟨rfl,hT⟩
def WlO (b:Nat):Ob (Int×DuF):=fun w F x=>∃L n,WhO b w F (x.1,L,(x.2,n))/\WhV x.1 L x.2
instance Frame.wlo (b:Nat):Frame (WlO b) where
 upd:=fun⟨L,n,h,r⟩ k hG=>⟨L,n,(Frame.who b).upd h k hG,r⟩
 lt:=fun⟨_,_,h,_⟩=>(Frame.who b).lt h
theorem WlO.of {L:List (List Int)} {m:DuM} {n:Int} {w':World} (h:Turn (WhO b) w w' F (n,L,m)) (hv:WhV n L m.1):Turn (WlO b) w w' F (n,m.1):=by
 obtain⟨F',h1,h2⟩:=h
 exact⟨F',⟨L,m.2,h1,hv⟩,h2⟩
theorem wwhen_ok {y:Int×DuF} (h:WlO b w F y) (id:Int):Calls Tryz.prog 106 #[.pointer (some ⟨b,0,none⟩),.int .i64 id] w fun e w'=>e=.returned (.tuple #[.int .i64 ((y.2 id).getD 0),.bool (y.2 id).isSome])/\w'=w:=by
 obtain⟨L,n,h,hv⟩:=h
 obtain⟨bm,Fm,⟨ys,hB⟩,hM,_⟩:=h.map
 refine u106 ?_
 rw[t106]
 have hlk:=run_lookup wmT hM id true
 have e1:((y.2 id).map (Value.int .i64)).getD (.int .i64 0)=.int .i64 ((y.2 id).getD 0):=by cases y.2 id<;>rfl
 simp only[e1,if_true]at hlk
 exact⟨fun g=>(by cases g),fun _=>⟨_,rfl,_,hB.cell rfl,_,_,hlk,rfl,rfl⟩⟩
theorem wadd_ok {y:Int×DuF} (h:WlO b w F y) {id d:Int} (hid:1<=id/\id<=48) (hd:tickR d) (hg:y.2 id=none):Calls Tryz.prog 322 #[.pointer (some ⟨b,0,none⟩),.int .i64 id,.int .i64 d] w fun e w'=>e=.returned (.int .i64 0)/\Turn (WlO b) w w' F (y.1,gPut y.2 id d):=by
 obtain⟨L,n,h,hv⟩:=h
 obtain⟨bm,Fm,⟨ys,hB⟩,hM,kM⟩:=h.map
 refine u322 ?_
 rw[t322]
 have hlk:=run_lookup wmT hM id true
 simp only[hg,Option.map_none,Option.getD_none,Option.isSome_none,if_true]at hlk
 refine⟨fun g=>(by cases g),fun _=>⟨_,rfl,_,hB.cell rfl,_,_,hlk,⟨(wright_ok d w).mono ?_⟩⟩⟩
 rintro e w1 ⟨rfl,rfl⟩
 rw[decide_eq_true hd]
 refine⟨_,rfl,fun g=>(by cases g),fun _=>⟨fun g=>(by cases g),fun _=>⟨_,rfl,_,hB.cell rfl,?_⟩⟩⟩
 obtain⟨w2,hrun,hT⟩:=run_put wmT hM id d
 have h2:=kM _ _ hT
 refine⟨w2,hrun,⟨fun w3 hN=>?_⟩⟩
 obtain⟨F1,hW2,k1⟩:=h2.turn
 have hW:=(Frame.who b).upd hW2 (hN.upd no) (fun _ _ h=>h)
 have hc:Cells w3 (some ⟨w2.heap.size,0,none⟩) ([id].map (Value.int .i64)):=by
  intro j v hj
  exact⟨_,rfl,hN.blk'.cell hj⟩
 have hlt2:∀j,F1 j->j<w2.heap.size:=(Frame.who b).lt hW2
 have hgp:(mput (y.2,n) id d).1 id=some d:=by simp[mput]
 refine⟨(wput_ok hW hv.tk hv.len hc (fun j hj hf=>?_) (by simp) hv.row_len (fun i hi=>?_)).mono ?_⟩
 ·obtain⟨a,ha,rfl⟩:=hj
  cases ha
  exact absurd (hlt2 _ hf) (by simp)
 ·have:i=id:=by simpa using hi
  subst this
  exact⟨d,hgp,hd⟩
 ·rintro e w4 ⟨rfl,h4⟩
  refine⟨rfl,rfl,WlO.of (k1 _ _ (Turn.next hW (hN.upd F1) (fun _ h=>.inl h) h4)) ?_⟩
  exact hv.add hid hd hg
theorem wtaken_ok {W:World} {F0:Fp} {n:Int} {L:List (List Int)} {m:DuM} (h:Turn (WhO b) W w F0 (n,L,m)) (hL:L.length=169) (hr:∀i,(L.getD i []).length<=48) {lv k:Nat} (hlv:lv<=20) (hk:k<=8) :
  Calls Tryz.prog 315 #[.pointer (some ⟨b,0,none⟩),.int .i64 (lv:Int),.int .i64 (k:Int)] w fun e w'=>∃p c,e=.returned (.slice p (gonL L (lv*8) k).length c)/\Turn (Star (WhO b) (Ls 3)) W w' F0 ((n,empL L (lv*8) k,m),(p,c,gonL L (lv*8) k)):=by
 refine u315 ?_
 rw[t315]
 have hmin:(Builtin.min_ #[3,3] 3 #[.int .i64 (k:Int),.int .i64 8]).run Tryz.prog w=.ok (.int .i64 (k:Int)) w:=by
  simp[Builtin.min_,Builtin.min2]
  omega
 have h0:Turn (Star (WhO b) (Ls 3)) W w F0 ((n,L,m),(none,0,[])):=Turn.add h (Upd.refl _ _) (Ls.nil w _) (fun _ h=>h.elim)
 refine⟨_,w,hmin,⟨WP_loop okProg (M:=M315) (σ:=Nat×Option Addr×Nat) (fun x=>e315_1 (some ⟨b,0,none⟩) (lv:Int) x.2.1 (gonL L (lv*8) x.1).length x.2.2 (k:Int) (x.1:Int))
  (fun x w'=>x.1<=k/\Turn (Star (WhO b) (Ls 3)) W w' F0 ((n,empL L (lv*8) x.1,m),(x.2.1,x.2.2,gonL L (lv*8) x.1))/\(gonL L (lv*8) x.1).length<=x.1*48) (fun x _=>k-x.1) (0,none,0) ⟨rfl,rfl,rfl,rfl,rfl,trivial⟩ ⟨Nat.zero_le _,by rw[empL_zero];exact h0,by simp[gonL_zero]⟩ ?_⟩⟩
 rintro⟨i,p,c⟩ w1 ⟨hi,hT,hlen⟩
 simp only at hi hT hlen⊢
 rw[t315_1]
 have hlL:(empL L (lv*8) i).length=169:=by rw[empL_len (by omega),hL]
 refine⟨fun g=>?_,fun g=>?_⟩
 ·have g:=of_decide_eq_true g
  have hi':i<k:=by omega
  have hrow:=hr (lv*8+i)
  have hget:(empL L (lv*8) i).getD (lv*8+i) []=L.getD (lv*8+i) []:=by rw[empL_at (by omega),if_neg (by omega)]
  have ea:(((⟨b,0,none⟩:Addr).add 2).add ((lv:Int).toNat*8)).add ((i:Int).toNat*1)=(⟨b,0,none⟩:Addr).add (2+(lv*8+i)):=by
   rw[Addr.add_add,Addr.add_add,Int.toNat_natCast,Int.toNat_natCast,Nat.mul_one]
  obtain⟨F1,h1,k1⟩:=hT.left
  obtain⟨q,d,G,hA⟩:=h1.at (i:=lv*8+i) (by simp only;omega)
  obtain⟨F2,h2,k2⟩:=hT.right
  have hcell:=hA.cell w1 (Upd.refl _ _)
  have hq:=hA.ls.cells
  simp only[hget]at hcell hq
  obtain⟨p',c',w2,hrun,hT2⟩:=Ls.more elI_Msk h2 (q:=q) (m:=L.getD (lv*8+i) []) (d:=d) hq (fun hq0=>(hA.ls.zero hq0).2) (by omega) 36
  refine⟨_,rfl,⟨by omega,by omega⟩,⟨by omega,by omega⟩,q,_,d,by rw[ea];exact hcell,_,_,_,w2,hrun,_,rfl,⟨by omega,by omega⟩,⟨by omega,by omega⟩,?_⟩
  have hT':=k2 _ _ hT2
  obtain⟨F1',h1',k1'⟩:=hT'.left
  obtain⟨q',d',G',hA'⟩:=h1'.at (i:=lv*8+i) (by simp only;omega)
  rw[ea]
  refine hA'.put w2 none 0 [] hA'.ls.empty _ fun w3 h3=>?_
  have h4:=k1' _ _ h3
  simp only at h4
  rw[empL_step (by omega),<-gonL_succ]at h4
  refine⟨(i+1,p',c'),⟨rfl,rfl,by rw[gonL_succ];rfl,rfl,by rw[w64 (by omega)];rfl,trivial⟩,⟨by simp only;omega,h4,?_⟩,by simp only;omega⟩
  simp only
  rw[gonL_succ,List.length_append]
  omega
 ·have g:=of_decide_eq_false g
  have:i=k:=by omega
  subst this
  exact⟨p,c,rfl,hT⟩
theorem gon_len {n:Int} {L:List (List Int)} {g:DuF} (h:WhV n L g) {k:Nat} (hnd:(gonL L 0 k).Nodup):(gonL L 0 k).length<=48:=small_len hnd fun id hid=>by
 obtain⟨i,_,hi⟩:=mem_gonL.1 hid
 obtain⟨d,hd,_⟩:=(h.at_ i id).1 hi
 exact(h.due id d hd).1
theorem WhV.gon_nd {n:Int} {L:List (List Int)} {g:DuF} (h:WhV n L g):∀k,(gonL L 0 k).Nodup:=by
 intro k
 induction k with
 | zero=>rw[gonL_zero];exact List.nodup_nil
 | succ k ih=>
  rw[gonL_succ]
  refine List.nodup_append.2 ⟨ih,h.nd _,fun a ha b hb=>?_⟩
  rintro rfl
  obtain⟨i,hi,hm⟩:=mem_gonL.1 ha
  obtain⟨d,hd,e1⟩:=(h.at_ i a).1 hm
  obtain⟨d',hd',e2⟩:=(h.at_ _ a).1 hb
  rw[hd]at hd'
  cases hd'
  omega
theorem wgo_ok {y:Int×DuF} (h:WlO b w F y) (t:Int):Calls Tryz.prog 231 #[.pointer (some ⟨b,0,none⟩),.int .i64 t] w fun e w'=>e=.returned (.int .i64 (if y.1<=t/\tickR t then 0 else 2))/\Turn (WlO b) w w' F (if y.1<=t/\tickR t then(t,y.2)else y):=by
 have hy:=h
 obtain⟨L,n,h,hv⟩:=h
 obtain⟨now,g⟩:=y
 simp only at h hv⊢
 obtain⟨bm,ys,hB⟩:=h.blk
 have hB0:w.cell? ((⟨b,0,none⟩:Addr).add 0)=some (.int .i64 now):=hB.cell rfl
 refine u231 ?_
 rw[t231]
 refine⟨fun g=>(by cases g),fun _=>⟨_,rfl,_,hB0,fun g1=>⟨(wright_ok t w).mono ?_⟩,fun g1=>?_⟩⟩
 ·have g1:=of_decide_eq_false g1
  rintro e w1 ⟨rfl,rfl⟩
  refine⟨_,rfl,fun g2=>?_,fun g2=>⟨_,rfl,_,hB0,fun g3=>?_,fun g3=>⟨_,rfl,_,hB0,?_⟩⟩⟩
  ·have g2:¬tickR t:=by simpa using g2
   rw[if_neg (fun hh=>g2 hh.2),if_neg (fun hh=>g2 hh.2)]
   exact⟨rfl,Turn.same hy⟩
  ·have g2:tickR t:=by simpa using g2
   have g3:t=now:=by simpa using g3
   subst g3
   rw[if_pos ⟨Int.le_refl _,g2⟩,if_pos ⟨Int.le_refl _,g2⟩]
   exact⟨rfl,Turn.same hy⟩
  ·have g2:tickR t:=by simpa using g2
   have g3:t≠now:=by simpa using g3
   have hlt:now<t:=by omega
   rw[if_pos ⟨by omega,g2⟩,if_pos ⟨by omega,g2⟩]
   obtain⟨hN,hnd,hmem,hv'⟩:=hv.go g2 hlt
   obtain⟨a0,ea,ha⟩:=tick_nat g2
   have g2':tickR (a0:Int):=by rw[<-ea];exact g2
   obtain⟨n0,en,hn0⟩:=tick_nat hv.tk
   have hne:a0≠n0:=by omega
   rw[ea,en]at hN hnd hmem hv'
   simp only[Int.toNat_natCast]at hN hnd hmem hv'
   rw[ea,en]
   have hlv:=lv_le ha hn0
   have hdg:=dg_lt a0 (lvW a0 n0)
   refine⟨(level_ok ha hn0 hne w1).mono ?_⟩
   rintro e w2 ⟨rfl,rfl⟩
   refine⟨_,rfl,?_⟩
   have h0:Turn (Star (WhO b) (Ls 3)) w2 w2 F ((now,L,(g,n)),(none,0,[])):=Turn.add (Turn.same h) (Upd.refl _ _) (Ls.nil w2 _) (fun _ h=>h.elim)
   refine⟨WP_loop okProg (M:=M231) (σ:=Nat×Option Addr×Nat) (fun x=>e231_1 (some ⟨b,0,none⟩) (a0:Int) (lvW a0 n0:Int) x.2.1 (gonL L 0 (x.1*8)).length x.2.2 (lvW a0 n0:Int) (x.1:Int))
    (fun x w'=>x.1<=lvW a0 n0/\Turn (Star (WhO b) (Ls 3)) w2 w' F ((now,empL L 0 (x.1*8),(g,n)),(x.2.1,x.2.2,gonL L 0 (x.1*8)))) (fun x _=>lvW a0 n0-x.1) (0,none,0) ⟨rfl,rfl,rfl,rfl,rfl,rfl,trivial⟩ ⟨Nat.zero_le _,by rw[Nat.zero_mul,empL_zero];exact h0⟩ ?_⟩
   rintro⟨i,p,c⟩ w3 ⟨hi,hT⟩
   simp only at hi hT⊢
   have hl8:(empL L 0 (i*8)).length=169:=by rw[empL_len (by rw[hv.len];omega),hv.len]
   have hr8:∀j,((empL L 0 (i*8)).getD j []).length<=48:=fun j=>by
    rw[empL_at (by rw[hv.len];omega)]
    split
    ·simp
    ·exact hv.row_len j
   have hg8:=gon_len hv (hv.gon_nd (i*8))
   have step:∀k:Nat,k<=8->(i*8+k<=168)->Calls Tryz.prog 315 #[.pointer (some ⟨b,0,none⟩),.int .i64 (i:Int),.int .i64 (k:Int)] w3 fun e w'=>∃q d,e=.returned (.slice q (gonL (empL L 0 (i*8)) (i*8) k).length d)/\∀ty,∃p' c' w4,(Builtin.append_ #[36,36] ty #[.slice p (gonL L 0 (i*8)).length c,.slice q (gonL (empL L 0 (i*8)) (i*8) k).length d]).run Tryz.prog w'=.ok (.slice p' (gonL L 0 (i*8+k)).length c') w4/\Turn (Star (WhO b) (Ls 3)) w2 w4 F ((now,empL L 0 (i*8+k),(g,n)),(p',c',gonL L 0 (i*8+k))):=by
    intro k hk hik
    obtain⟨F1,h1,k1⟩:=hT.left
    refine(wtaken_ok (Turn.same h1) hl8 hr8 (lv:=i) (by omega) hk).mono ?_
    rintro e w4 ⟨q,d,rfl,hD⟩
    have hq:Cells w4 q ((gonL (empL L 0 (i*8)) (i*8) k).map (Value.int .i64))/\(q=none->d=0):=by
     obtain⟨F',⟨G1,G2,a1,a2,_⟩,_⟩:=hD
     exact⟨a2.cells,fun h=>(a2.zero h).2⟩
    have hT':=k1 _ _ hD.drop
    obtain⟨F2,h2,k2⟩:=hT'.right
    have hadd:gonL L 0 (i*8+k)=gonL L 0 (i*8)++gonL (empL L 0 (i*8)) (i*8) k:=by
     rcases gonL_add L (i*8) k with h|h
     ·exact h
     ·rw[hv.len]at h;omega
    have hgk:=gon_len hv (hv.gon_nd (i*8+k))
    rw[hadd,List.length_append]at hgk
    refine⟨q,d,rfl,fun ty=>?_⟩
    obtain⟨p',c',w5,hrun,hT2⟩:=Ls.more elI_Msk h2 hq.1 hq.2 (by omega) ty
    have hT3:=k2 _ _ hT2
    simp only at hT3 hrun
    rw[empL_add (by rw[hv.len];omega),<-hadd]at hT3
    rw[<-hadd]at hrun
    exact⟨p',c',w5,hrun,hT3⟩
   rw[t231_1]
   refine⟨fun g4=>?_,fun g4=>CutD.mk ?_⟩
   ·have g4:=of_decide_eq_true g4
    refine⟨(step 8 (Nat.le_refl _) (by omega)).mono ?_⟩
    rintro e w4 ⟨q,d,rfl,hap⟩
    obtain⟨p',c',w5,hrun,hT5⟩:=hap 36
    refine⟨q,_,d,rfl,p',_,c',w5,hrun,⟨(i+1,p',c'),⟨rfl,rfl,rfl,by rw[Nat.succ_mul];rfl,rfl,by rw[w64 (by omega)];rfl,trivial⟩,⟨by simp only;omega,by simp only;rw[Nat.succ_mul];exact hT5⟩,by simp only;omega⟩⟩
   ·have g4:=of_decide_eq_false g4
    have:i=lvW a0 n0:=by omega
    subst this
    rw[t231_0]
    refine⟨(digit_ok ha hlv w3).mono ?_⟩
    rintro e w4 ⟨rfl,rfl⟩
    refine⟨_,rfl,?_⟩
    rw[w64 (by omega),show(dgW a0 (lvW a0 n0):Int)+1=((dgW a0 (lvW a0 n0)+1:Nat):Int) by omega]
    refine⟨(step (dgW a0 (lvW a0 n0)+1) (by omega) (by omega)).mono ?_⟩
    rintro e w5 ⟨q,d,rfl,hap⟩
    obtain⟨p',c',w6,hrun,hT6⟩:=hap 36
    refine⟨q,_,d,rfl,p',_,c',w6,hrun,_,rfl,?_⟩
    obtain⟨F6,⟨G1,G2,h1,h2,h3,h4⟩,hU6,hF6⟩:=hT6
    simp only at h1 h2
    refine h1.tick (a0:Int) fun w7 hT7=>?_
    obtain⟨F7,h7,hU7,hF7⟩:=hT7
    have h2':=(Frame.ls _).upd h2 hU7 (fun j hj hf=>h4 j hf hj)
    have hlt2:=(Frame.ls _).lt h2
    have hcs:=h2'.cells
    simp only at h7
    refine⟨(wput_ok h7 g2' ?_ hcs (fun j hj hf=>?_) (gon_len hv (hv.gon_nd _)) ?_ (fun id hid=>?_)).mono ?_⟩
    ·simp only
     rw[empL_len (by rw[hv.len];omega),hv.len]
    ·have hj2:G2 j:=(h2.1 j).2 hj
     rcases hF7 j hf with h|h
     ·exact h4 j h hj2
     ·have:=hlt2 j hj2;omega
    ·intro j
     simp only
     rw[empL_at (by rw[hv.len];omega)]
     split
     ·simp
     ·exact hv.row_len j
    ·exact hmem id hid
    ·rintro e w8 ⟨rfl,hT8⟩
     refine⟨rfl,rfl,?_⟩
     have hT:Turn (WhO b) w2 w8 F (((a0:Nat):Int),putL (a0:Int) g (empL L 0 (lvW a0 n0*8+(dgW a0 (lvW a0 n0)+1))) (gonL L 0 (lvW a0 n0*8+(dgW a0 (lvW a0 n0)+1))),(g,n)):=by
      refine Turn.next h7 ((hU6.trans hU7 (fun j hj hf=>?_))) (fun j hj=>?_) hT8
      ·rcases hF6 j ((h3 j).2 (.inl hf))with h|h
       ·exact h
       ·omega
      ·rcases hF7 j hj with h|h
       ·exact hF6 j ((h3 j).2 (.inl h))
       ·exact .inr (Nat.le_trans hU6.size h)
     exact WlO.of hT hv'
 ·have g1:=of_decide_eq_true g1
  rw[if_neg (by omega),if_neg (by omega)]
  exact⟨rfl,Turn.same hy⟩
end
theorem wv0 (N:Nat) (hN:N=169):WhV 0 (List.replicate N []) (fun _=>none):=by
 refine⟨by unfold tickR;decide,by rw[List.length_replicate,hN],fun _ _ h=>(by cases h),fun i id=>?_,fun i=>?_⟩
 ·simp only[List.getD_eq_getElem?_getD,List.getElem?_replicate]
  split<;>simp
 ·simp only[List.getD_eq_getElem?_getD,List.getElem?_replicate]
  split<;>simp
theorem rws0 (N:Nat):rws (List.replicate N (none,0,[]))=List.replicate N []:=by simp[rws]
theorem wnew_ok_Wheel (w:World):Calls Tryz.prog 109 #[.int .i64 0] w fun e w'=>∃b F,e=.returned (.tuple #[.pointer (some ⟨b,0,none⟩),.int .i64 0])/\WlO b w' F (0,fun _=>none)/\Upd no w w'/\∀i,F i->w.heap.size<=i:=by
 refine u109 ?_
 rw[t109]
 refine⟨(wright_ok 0 w).mono ?_⟩
 rintro e w1 ⟨rfl,rfl⟩
 refine⟨_,rfl,fun g=>(by cases g),fun _=>⟨fun w2 hN=>⟨fun w3 hN3=>?_⟩⟩⟩
 have hM:=(Frame.map w1.heap.size (Value.int .i64)).upd (MapO.new (f:=Value.int .i64) hN) (hN3.upd no) (fun _ _ h=>h)
 have hs:=hN.size
 have hR:Rw w2.heap.size 289 (wlE w1.heap.size) w3 (fun i=>i=w2.heap.size) (0,List.replicate 169 (none,0,[])):=Rw.new hN3 rfl
 refine⟨w2.heap.size,fun i=>i=w2.heap.size∨i=w1.heap.size,rfl,⟨List.replicate 169 [],0,⟨w1.heap.size,List.replicate 169 (none,0,[]),⟨fun i=>i=w2.heap.size,fun i=>i=w1.heap.size,⟨_,fun _=>False,hR,Fam.rep ⟨fun i=>⟨fun h=>h.elim,fun⟨a,ha,_⟩=>by cases ha⟩,Sl.nil _ _ _⟩,fun i=>by simp,fun _ _ h=>h⟩,hM,fun i=>Iff.rfl,fun i h1 h2=>by omega⟩,rws0 _⟩,wv0 _ rfl⟩,(hN.upd no).and (hN3.upd no),?_⟩
 ·rintro i (rfl|rfl)
  ·omega
  ·exact Nat.le_refl _
end Go.Dav
namespace Go.Dav
open Go.Proofs
section
variable {w w':World} {T:TypeId} {F:Fp} {a:Addr} {c:Nat} {l:List Int}
theorem Sl.holds (h:Sl w T 1 (some a) l.length c (l.map (Value.int .i64))):Sort.Holds (Value.int .i64) w a.block a.off l.toArray:=by
 intro j hj
 have hj:j<l.length:=by simpa using hj
 obtain⟨a',ha,hc⟩:=h.cells.at1 hj
 cases ha
 obtain⟨h1,h2,h3,cells,hb,hs,hf,ht⟩:=h
 obtain⟨b,o,sp⟩:=a
 simp only at hs hb hf ht
 subst hs
 rw[add_lit,Nat.mul_one]at hc
 refine⟨?_,?_⟩
 ·rw[hc]
  simp[hj]
 ·unfold World.frozen?
  unfold Blk at hb
  simp only
  rw[hb]
  simp
theorem put_heap {w:World} {b:Nat} {cells:List Value} (hb:Blk w b cells T) (f:Array Value->Array Value) {n:Nat} {os:Array Obj}:(Sort.grow (Sort.mapBlock (Sort.ahead w n) b f) os).heap[b]?=some (.cells (f cells.toArray) T (0,0)):=by
 have hlt:=hb.lt
 unfold Blk at hb
 unfold Sort.grow Sort.mapBlock Sort.ahead
 simp only
 rw[Array.getElem?_append_left (by simpa using hlt),Array.getElem?_modify,if_pos rfl,hb]
 rfl
theorem put_upd {w:World} {b:Nat} (f:Array Value->Array Value) {n:Nat} {os:Array Obj}:Upd (fun i=>i=b) w (Sort.grow (Sort.mapBlock (Sort.ahead w n) b f) os):=by
 refine⟨by simp[Sort.grow,Sort.mapBlock,Sort.ahead],rfl,rfl,rfl,fun i hi hF=>?_⟩
 unfold Sort.grow Sort.mapBlock Sort.ahead
 simp only
 rw[Array.getElem?_append_left (by simpa using hi),Array.getElem?_modify,if_neg (fun e=>hF e.symm)]
theorem putCells_list (d:List Int) (o:Nat) (cells:List Value) (h:o+d.length<=cells.length):(Sort.putCells (Value.int .i64) o d.toArray cells.toArray).toList=cells.take o++d.map (Value.int .i64)++cells.drop (o+d.length):=by
 apply List.ext_getElem?
 intro k
 unfold Sort.putCells
 simp only[Array.getElem?_toList,Array.getElem?_mapIdx,List.size_toArray,List.getElem?_toArray]
 rw[List.append_assoc]
 by_cases h1:k<o
 ·rw[List.getElem?_append_left (by simp;omega),List.getElem?_take_of_lt h1]
  cases cells[k]? with
  | none=>rfl
  | some v=>simp only[Option.map_some];rw[if_neg (by omega)]
 ·rw[List.getElem?_append_right (by simp;omega)]
  have e:(cells.take o).length=o:=by simp;omega
  rw[e]
  by_cases h2:k<o+d.length
  ·rw[List.getElem?_append_left (by simp;omega),List.getElem?_eq_getElem (show k<cells.length by omega)]
   simp only[Option.map_some]
   rw[if_pos ⟨by omega,h2⟩]
   have:k-o<d.length:=by omega
   simp[this]
  ·rw[List.getElem?_append_right (by simp;omega),List.length_map,List.getElem?_drop,show o+d.length+(k-o-d.length)=k by omega]
   cases cells[k]? with
   | none=>rfl
   | some v=>simp only[Option.map_some];rw[if_neg (by omega)]
theorem Sl.putRow {d:List Int} (h:Sl w T 1 (some a) l.length c (l.map (Value.int .i64))) (hl:d.length=l.length) {n:Nat} {os:Array Obj}:Sl (Sort.grow (Sort.putRow (Value.int .i64) (Sort.ahead w n) a.block a.off d.toArray) os) T 1 (some a) d.length c (d.map (Value.int .i64)):=by
 obtain⟨h1,h2,h3,cells,hb,hs,hf,ht⟩:=h
 have hb':=put_heap hb (Sort.putCells (Value.int .i64) a.off d.toArray) (n:=n) (os:=os)
 have hpc:=putCells_list d a.off cells (by omega)
 refine⟨by simp,by omega,h3,(Sort.putCells (Value.int .i64) a.off d.toArray cells.toArray).toList,?_,hs,?_,?_⟩
 ·unfold Blk Sort.putRow
  rw[hb']
 ·rw[hpc]
  simp
  omega
 ·rw[hpc,List.append_assoc,List.drop_append_of_le_length (by simp;omega),List.drop_eq_nil_of_le (by simp;omega),List.nil_append,List.take_append_of_le_length (by simp),List.take_of_length_le (by simp)]
theorem Ls.putRow {d:List Int} (h:Ls T w F (some a,c,l)) (hl:d.length=l.length) {n:Nat} {os:Array Obj}:Turn (Ls T) w (Sort.grow (Sort.putRow (Value.int .i64) (Sort.ahead w n) a.block a.off d.toArray) os) F (some a,c,d):=by
 refine⟨F,⟨h.1,h.2.putRow hl⟩,?_,fun _ h=>.inl h⟩
 refine(put_upd _).mono fun i _ hi=>(h.1 i).2 ⟨a,rfl,hi⟩
end
def cmK (x y:Int):Int:=if x<y then -1 else if y<x then 1 else 0
def orK (x y:Int):Int:=if x=0 then y else x
def cfK (g:Int->Int) (x y:Int):Int:=orK (cmK (g x) (g y)) (cmK x y)
theorem ltOf_cfK (g:Int->Int) (x y:Int):ltOf (cfK g) x y=ltK g x y:=by
 unfold ltOf cfK orK cmK ltK
 by_cases h1:g x<g y
 ·simp[h1]
 ·by_cases h2:g y<g x
  ·have:¬g x=g y:=by omega
   simp[h1,h2,this]
  ·have:g x=g y:=by omega
   simp only[this]
   by_cases h3:x<y
   ·simp[h3]
   ·by_cases h4:y<x<;>simp[h3,h4]
theorem swoK (g:Int->Int):Sort.SWO (ltOf (cfK g)) where
 irrefl x:=by rw[ltOf_cfK,ltK_not];omega
 trans x y z h1 h2:=by rw[ltOf_cfK,ltK_iff]at *;omega
 ntrans x y z h1 h2:=by rw[ltOf_cfK,ltK_not]at *;omega
theorem totK (g:Int->Int) (x y:Int) (h1:ltOf (cfK g) x y=false) (h2:ltOf (cfK g) y x=false):x=y:=by rw[ltOf_cfK,ltK_not]at *;omega
theorem mergeK (g:Int->Int) (l:List Int):(l.mergeSort fun x y=>!(ltOf (cfK g)) y x)=sortK g l:=by
 refine sortK_of (List.mergeSort_perm ..) ?_
 refine(List.pairwise_mergeSort (le:=fun x y=>!(ltOf (cfK g)) y x) (fun x y z h1 h2=>?_) (fun x y=>?_) l).imp fun{x y} h=>?_
 ·simp only[ltOf_cfK,Bool.not_eq_true',ltK_not]at *
  omega
 ·simp only[ltOf_cfK,Bool.or_eq_true,Bool.not_eq_true',ltK_not]
  omega
 ·simp only[ltOf_cfK,Bool.not_eq_true']at h
  exact h
end Go.Dav
namespace Go.Proofs
open Go.Shelf
def Tryz.sortL_ren : Go.Shelf.Ren := ⟨fun | 6 => 342 | 15 => 384 | 14 => 383 | 28 => 404 | 29 => 371 | 20 => 396 | 21 => 397 | 22 => 398 | 23 => 399 | 24 => 400 | 25 => 401 | 26 => 402 | 27 => 403 | 46 => 406 | 47 => 407 | 48 => 408 | 49 => 409 | 50 => 410 | 57 => 411 | n => n, fun | 22 => 36 | 24 => 3 | 25 => 391 | 3 => 3 | 39 => 268 | 0 => 0 | 53 => 425 | 55 => 29 | 4 => 4 | 46 => 419 | 45 => 418 | 50 => 179 | 5 => 5 | 9 => 9 | 66 => 428 | 70 => 432 | 76 => 434 | 77 => 435 | n => n, fun | n => n⟩
theorem Tryz.sortL : Go.Proofs.SlLaysF.n6 Tryz.prog Tryz.sortL_ren := {
  mixed := by kernel_rfl
  f6 := ⟨Tryz.f342.name, by decide, Tryz.func342.trans (congrArg some (by kernel_rfl))⟩
  f14 := ⟨Tryz.f383.name, by decide, Tryz.func383.trans (congrArg some (by kernel_rfl))⟩
  f15 := Tryz.func384.trans (congrArg some (by kernel_rfl))
  f20 := ⟨Tryz.f396.name, by decide, Tryz.func396.trans (congrArg some (by kernel_rfl))⟩
  f21 := ⟨Tryz.f397.name, by decide, Tryz.func397.trans (congrArg some (by kernel_rfl))⟩
  f22 := ⟨Tryz.f398.name, by decide, Tryz.func398.trans (congrArg some (by kernel_rfl))⟩
  f23 := ⟨Tryz.f399.name, by decide, Tryz.func399.trans (congrArg some (by kernel_rfl))⟩
  f24 := ⟨Tryz.f400.name, by decide, Tryz.func400.trans (congrArg some (by kernel_rfl))⟩
  f25 := ⟨Tryz.f401.name, by decide, Tryz.func401.trans (congrArg some (by kernel_rfl))⟩
  f26 := ⟨Tryz.f402.name, by decide, Tryz.func402.trans (congrArg some (by kernel_rfl))⟩
  f27 := ⟨Tryz.f403.name, by decide, Tryz.func403.trans (congrArg some (by kernel_rfl))⟩
  f28 := Tryz.func404.trans (congrArg some (by kernel_rfl))
  f29 := Tryz.func371.trans (congrArg some (by kernel_rfl))
  f46 := ⟨Tryz.f406.name, by decide, Tryz.func406.trans (congrArg some (by kernel_rfl))⟩
  f47 := Tryz.func407.trans (congrArg some (by kernel_rfl))
  f48 := Tryz.func408.trans (congrArg some (by kernel_rfl))
  f49 := ⟨Tryz.f409.name, by decide, Tryz.func409.trans (congrArg some (by kernel_rfl))⟩
  f50 := ⟨Tryz.f410.name, by decide, Tryz.func410.trans (congrArg some (by kernel_rfl))⟩
  f57 := ⟨Tryz.f411.name, by decide, Tryz.func411.trans (congrArg some (by kernel_rfl))⟩
  t0 := Tryz.underlying0
  a0 := Tryz.isAgg0
  z0 := Tryz.sizeOf0
  v0 := Tryz.zeroValue0
  t3 := Tryz.underlying3
  a3 := Tryz.isAgg3
  z3 := Tryz.sizeOf3
  v3 := Tryz.zeroValue3
  t4 := Tryz.underlying4
  a4 := Tryz.isAgg4
  z4 := Tryz.sizeOf4
  v4 := Tryz.zeroValue4
  t5 := Tryz.underlying5
  a5 := Tryz.isAgg5
  z5 := Tryz.sizeOf5
  v5 := Tryz.zeroValue5
  t9 := Tryz.underlying9
  a9 := Tryz.isAgg9
  z9 := Tryz.sizeOf9
  v9 := Tryz.zeroValue9
  t22 := Tryz.underlying36
  a22 := Tryz.isAgg36
  z22 := Tryz.sizeOf36
  v22 := Tryz.zeroValue36
  a24 := Tryz.isAgg3
  z24 := Tryz.sizeOf3
  t25 := Tryz.underlying391
  a25 := Tryz.isAgg391
  z25 := Tryz.sizeOf391
  v25 := Tryz.zeroValue391
  t39 := Tryz.underlying268
  a39 := Tryz.isAgg268
  z39 := Tryz.sizeOf268
  v39 := Tryz.zeroValue268
  t45 := Tryz.underlying418
  a45 := Tryz.isAgg418
  z45 := Tryz.sizeOf418
  v45 := Tryz.zeroValue418
  t46 := Tryz.underlying419
  a46 := Tryz.isAgg419
  z46 := Tryz.sizeOf419
  v46 := Tryz.zeroValue419
  t50 := Tryz.underlying179
  a50 := Tryz.isAgg179
  z50 := Tryz.sizeOf179
  v50 := Tryz.zeroValue179
  t53 := Tryz.underlying425
  a53 := Tryz.isAgg425
  z53 := Tryz.sizeOf425
  v53 := Tryz.zeroValue425
  t55 := Tryz.underlying29
  a55 := Tryz.isAgg29
  z55 := Tryz.sizeOf29
  v55 := Tryz.zeroValue29
  t66 := Tryz.underlying428
  a66 := Tryz.isAgg428
  z66 := Tryz.sizeOf428
  v66 := Tryz.zeroValue428
  t70 := Tryz.underlying432
  a70 := Tryz.isAgg432
  z70 := Tryz.sizeOf432
  v70 := Tryz.zeroValue432
  t76 := Tryz.underlying434
  a76 := Tryz.isAgg434
  z76 := Tryz.sizeOf434
  v76 := Tryz.zeroValue434
  t77 := Tryz.underlying435
  a77 := Tryz.isAgg435
  z77 := Tryz.sizeOf435
  v77 := Tryz.zeroValue435 }
def Tryz.delL_ren : Go.Shelf.Ren := ⟨fun | 10 => 373 | 6 => 270 | n => n, fun | 22 => 36 | 23 => 3 | 25 => 50 | 3 => 3 | 4 => 4 | 0 => 0 | n => n, fun | n => n⟩
theorem Tryz.delL : Go.Proofs.SlLaysH.n10 Tryz.prog Tryz.delL_ren := {
  mixed := by kernel_rfl
  f6 := ⟨Tryz.f270.name, by decide, Tryz.func270.trans (congrArg some (by kernel_rfl))⟩
  f10 := ⟨Tryz.f373.name, by decide, Tryz.func373.trans (congrArg some (by kernel_rfl))⟩
  t0 := Tryz.underlying0
  a0 := Tryz.isAgg0
  z0 := Tryz.sizeOf0
  v0 := Tryz.zeroValue0
  t3 := Tryz.underlying3
  a3 := Tryz.isAgg3
  z3 := Tryz.sizeOf3
  v3 := Tryz.zeroValue3
  t4 := Tryz.underlying4
  a4 := Tryz.isAgg4
  z4 := Tryz.sizeOf4
  v4 := Tryz.zeroValue4
  t22 := Tryz.underlying36
  a22 := Tryz.isAgg36
  z22 := Tryz.sizeOf36
  v22 := Tryz.zeroValue36
  a23 := Tryz.isAgg3
  z23 := Tryz.sizeOf3
  t25 := Tryz.underlying50
  a25 := Tryz.isAgg50
  z25 := Tryz.sizeOf50
  v25 := Tryz.zeroValue50 }
def Tryz.keysL_ren : Go.Shelf.Ren := ⟨fun | 7 => 276 | 10 => 348 | n => n, fun | 23 => 285 | 26 => 3 | 3 => 2 | 28 => 353 | 0 => 0 | 27 => 352 | 33 => 50 | 4 => 4 | n => n, fun | n => n⟩
theorem Tryz.keysL : Go.Proofs.SlLaysZI.n7 Tryz.prog Tryz.keysL_ren := {
  mixed := by kernel_rfl
  f7 := ⟨Tryz.f276.name, by decide, Tryz.func276.trans (congrArg some (by kernel_rfl))⟩
  f10 := ⟨Tryz.f348.name, by decide, Tryz.func348.trans (congrArg some (by kernel_rfl))⟩
  t0 := Tryz.underlying0
  a0 := Tryz.isAgg0
  z0 := Tryz.sizeOf0
  v0 := Tryz.zeroValue0
  t4 := Tryz.underlying4
  a4 := Tryz.isAgg4
  z4 := Tryz.sizeOf4
  v4 := Tryz.zeroValue4
  t23 := Tryz.underlying285
  a23 := Tryz.isAgg285
  z23 := Tryz.sizeOf285
  v23 := Tryz.zeroValue285
  t26 := Tryz.underlying3
  a26 := Tryz.isAgg3
  z26 := Tryz.sizeOf3
  v26 := Tryz.zeroValue3
  t27 := Tryz.underlying352
  a27 := Tryz.isAgg352
  z27 := Tryz.sizeOf352
  v27 := Tryz.zeroValue352
  t28 := Tryz.underlying353
  a28 := Tryz.isAgg353
  z28 := Tryz.sizeOf353
  v28 := Tryz.zeroValue353
  t33 := Tryz.underlying50
  a33 := Tryz.isAgg50
  z33 := Tryz.sizeOf50
  v33 := Tryz.zeroValue50 }
def Tryz.collL_ren : Go.Shelf.Ren := ⟨fun | 8 => 275 | 11 => 347 | n => n, fun | 26 => 3 | 28 => 353 | 24 => 36 | 0 => 0 | 33 => 50 | 4 => 4 | n => n, fun | n => n⟩
theorem Tryz.collL : Go.Proofs.SlLaysZI.n8 Tryz.prog Tryz.collL_ren := {
  mixed := by kernel_rfl
  f8 := ⟨Tryz.f275.name, by decide, Tryz.func275.trans (congrArg some (by kernel_rfl))⟩
  f11 := ⟨Tryz.f347.name, by decide, Tryz.func347.trans (congrArg some (by kernel_rfl))⟩
  t0 := Tryz.underlying0
  a0 := Tryz.isAgg0
  z0 := Tryz.sizeOf0
  v0 := Tryz.zeroValue0
  t24 := Tryz.underlying36
  a24 := Tryz.isAgg36
  z24 := Tryz.sizeOf36
  v24 := Tryz.zeroValue36
  t26 := Tryz.underlying3
  a26 := Tryz.isAgg3
  z26 := Tryz.sizeOf3
  v26 := Tryz.zeroValue3
  t28 := Tryz.underlying353
  a28 := Tryz.isAgg353
  z28 := Tryz.sizeOf353
  v28 := Tryz.zeroValue353
  i26 := by kernel_rfl }
end Go.Proofs
namespace Go.Dav
open Go.Proofs
theorem nan64_ok (x:Int) (w:World):Calls Tryz.prog 385 #[.int .i64 x] w fun e w'=>e=.returned (.bool false)/\w'=w:=by
 refine u385 ?_
 rw[t385]
 exact⟨by simp,rfl⟩
theorem nan_ok (x:Int) (w:World):Calls Tryz.prog 386 #[.int .i64 x] w fun e w'=>e=.returned (.bool false)/\w'=w:=by
 refine u386 ?_
 rw[t386]
 exact⟨by simp,rfl⟩
theorem cmp64_ok (x y:Int) (w:World):Calls Tryz.prog 345 #[.int .i64 x,.int .i64 y] w fun e w'=>e=.returned (.int .i64 (cmK x y))/\w'=w:=by
 refine u345 ?_
 rw[t345]
 refine⟨(nan64_ok x w).mono ?_⟩
 rintro e w1 ⟨rfl,rfl⟩
 refine⟨_,rfl,⟨(nan64_ok y w1).mono ?_⟩⟩
 rintro e w2 ⟨rfl,rfl⟩
 unfold cmK
 refine⟨_,rfl,fun g=>(by cases g),fun _=>⟨fun g=>(by cases g),fun _=>⟨fun g=>?_,fun g=>⟨fun g2=>?_,fun g2=>?_⟩⟩⟩⟩
 ·rw[if_pos (of_decide_eq_true g)];exact⟨rfl,rfl⟩
 ·have g2:y<x:=of_decide_eq_true g2
  rw[if_neg (of_decide_eq_false g),if_pos g2];exact⟨rfl,rfl⟩
 ·have g2:¬y<x:=of_decide_eq_false g2
  rw[if_neg (of_decide_eq_false g),if_neg g2];exact⟨rfl,rfl⟩
theorem cmp_ok (x y:Int) (w:World):Calls Tryz.prog 346 #[.int .i64 x,.int .i64 y] w fun e w'=>e=.returned (.int .i64 (cmK x y))/\w'=w:=by
 refine u346 ?_
 rw[t346]
 refine⟨(nan_ok x w).mono ?_⟩
 rintro e w1 ⟨rfl,rfl⟩
 refine⟨_,rfl,⟨(nan_ok y w1).mono ?_⟩⟩
 rintro e w2 ⟨rfl,rfl⟩
 unfold cmK
 refine⟨_,rfl,fun g=>(by cases g),fun _=>⟨fun g=>(by cases g),fun _=>⟨fun g=>?_,fun g=>⟨fun g2=>?_,fun g2=>?_⟩⟩⟩⟩
 ·rw[if_pos (of_decide_eq_true g)];exact⟨rfl,rfl⟩
 ·have g2:y<x:=of_decide_eq_true g2
  rw[if_neg (of_decide_eq_false g),if_pos g2];exact⟨rfl,rfl⟩
 ·have g2:¬y<x:=of_decide_eq_false g2
  rw[if_neg (of_decide_eq_false g),if_neg g2];exact⟨rfl,rfl⟩
theorem or_ok {a c:Int} {p:Addr} {w:World} (h0:w.cell? (p.add (0*1))=some (.int .i64 a)) (h1:w.cell? (p.add (1*1))=some (.int .i64 c)):Calls Tryz.prog 344 #[.slice (some p) 2 2] w fun e w'=>e=.returned (.int .i64 (orK a c))/\w'=w:=by
 refine u344 ?_
 rw[t344]
 refine⟨WP_loop okProg (M:=M344) (σ:=Nat) (fun i=>e344_1 0 (some p) 2 2 2 (i:Int)) (fun i w'=>i<=2/\(1<=i->a=0)/\(2<=i->c=0)/\w'=w) (fun i _=>2-i) 0 ⟨rfl,rfl,rfl,rfl,trivial⟩ ⟨by omega,by omega,by omega,rfl⟩ ?_⟩
 rintro i w1 ⟨hi,ha,hc,rfl⟩
 rw[t344_1]
 unfold orK
 refine⟨fun g=>?_,fun g=>?_⟩
 ·have g:=of_decide_eq_true g
  have hi2:i=0∨i=1:=by omega
  rcases hi2 with rfl|rfl
  ·refine⟨⟨by omega,by omega⟩,p,rfl,a,h0,fun g2=>?_,fun g2=>⟨1,⟨rfl,rfl,rfl,rfl,trivial⟩,⟨by omega,fun _=>by simpa using g2,by omega,rfl⟩,by omega⟩⟩
   have g2:a≠0:=by simpa using g2
   rw[if_neg g2];exact⟨rfl,rfl⟩
  ·refine⟨⟨by omega,by omega⟩,p,rfl,c,h1,fun g2=>?_,fun g2=>⟨2,⟨rfl,rfl,rfl,rfl,trivial⟩,⟨by omega,fun _=>ha (by omega),fun _=>by simpa using g2,rfl⟩,by omega⟩⟩
   rw[if_pos (ha (by omega))];exact⟨rfl,rfl⟩
 ·have g:=of_decide_eq_false g
  have:i=2:=by omega
  subst this
  rw[if_pos (ha (by omega)),hc (by omega)]
  exact⟨rfl,rfl⟩
theorem grow_of {w w1 w2:World} {o:Obj} (h1:w1.heap=w.heap) (h2:w1.os=w.os) (h3:w1.tape=w.tape) (h4:w1.output=w.output) (h5:w1.drawn=w.drawn+1) (hN:Newed w1 w2 o):w2=Sort.grow (w.drewN 1) #[o]:=by
 have hh:w2.heap=w.heap++#[o]:=by
  apply Array.ext_getElem?
  intro i
  rw[Array.getElem?_append]
  split
  ·rename_i hi
   rw[hN.old i (by rw[h1];exact hi),h1]
  ·rename_i hi
   by_cases he:i=w.heap.size
   ·subst he
    have:=hN.blk
    rw[h1]at this
    rw[this]
    simp
   ·have hs:=hN.size
    rw[h1]at hs
    rw[Array.getElem?_eq_none (by omega),Array.getElem?_eq_none (by simp;omega)]
 obtain⟨a1,a2,a3,a4,a5⟩:=w2
 simp only at hh
 subst hh
 have e1:=hN.tape
 have e2:=hN.drawn
 have e3:=hN.os
 have e4:=hN.output
 simp only at e1 e2 e3 e4
 unfold Sort.grow World.drewN
 simp only[e1,e2,e3,e4,h2,h3,h4,h5]
def keyG (m:DuM) (id:Int):Int:=(m.1 id).getD 0
theorem wcl_ok {b pb:Nat} {x:WhS} {w:World} {F:Fp} (h:WhO b w F x) (hp:w.cell? ⟨pb,0,none⟩=some (.pointer (some ⟨b,0,none⟩))) (a c:Int):Calls Tryz.prog 343 #[.int .i64 a,.int .i64 c,.pointer (some ⟨pb,0,none⟩)] w fun e w'=>e=.returned (.int .i64 (cfK (keyG x.2.2) a c))/\∃q os,w'=Sort.grow (w.drewN q) os:=by
 refine u343 ?_
 rw[t343]
 intro w1 q1 q2 q3 q4 q5
 have h1:=(Frame.who b).upd h (Upd.same no q1 q2 q3 q4) (fun _ _ h=>h)
 obtain⟨bm,Fm,⟨ys,hB⟩,hM,_⟩:=h1.map
 have hp1:w1.cell? ⟨pb,0,none⟩=some (.pointer (some ⟨b,0,none⟩)):=by
  unfold World.cell?
  rw[q1]
  exact hp
 have lk:∀id,(Instr.lookup 285 (.map (some bm)) (.int .i64 id) false).run Tryz.prog w1=.ok (.int .i64 (keyG x.2.2 id)) w1:=fun id=>by
  rw[run_lookup wmT hM id false]
  unfold keyG
  cases x.2.2.1 id<;>rfl
 refine⟨_,hp1,_,rfl,_,hB.cell rfl,_,lk a,_,hp1,_,rfl,_,hB.cell rfl,_,lk c,⟨(cmp64_ok _ _ w1).mono ?_⟩⟩
 rintro e w2 ⟨rfl,rfl⟩
 refine⟨_,rfl,⟨(cmp_ok _ _ w2).mono ?_⟩⟩
 rintro e w3 ⟨rfl,rfl⟩
 refine⟨_,rfl,⟨fun w4 hN=>⟨(or_ok (hN.blk'.cell rfl) (hN.blk'.cell rfl)).mono ?_⟩⟩⟩
 rintro e w5 ⟨rfl,rfl⟩
 exact⟨_,rfl,rfl,1,_,grow_of q1 q2 q3 q4 q5 hN⟩
theorem mergeArr (g:Int->Int) (ids:List Int):(ids.toArray.toList.mergeSort fun x y=>!(ltOf (cfK g)) y x).toArray=(sortK g ids).toArray:=by
 rw[List.toList_toArray,mergeK]
theorem wsort_run {b pb:Nat} {x:WhS} {w:World} {F:Fp} (h:WhO b w F x) (hp:w.cell? ⟨pb,0,none⟩=some (.pointer (some ⟨b,0,none⟩))) {a:Addr} {c:Nat} {ids:List Int} (hS:Sl w 3 1 (some a) ids.length c (ids.map (Value.int .i64))) (hF:¬F a.block) (hpb:pb≠a.block) (hl:ids.length<=1000) :
  Calls Tryz.prog 342 #[.slice (some a) ids.length c,.func (.func 343) #[] #[.pointer (some ⟨pb,0,none⟩)]] w fun e w'=>e=.returned (.tuple #[])/\Sl w' 3 1 (some a) ids.length c ((sortK (keyG x.2.2) ids).map (Value.int .i64))/\Upd (fun i=>i=a.block) w w':=by
 have hH:=hS.holds
 have hlt:=hS.lt a.block ⟨a,rfl,rfl⟩
 obtain⟨_,_,_,cells,hb,hs,_,_⟩:=id hS
 have eg:∀args w,(callFunc 343 args).run Tryz.prog w=.ok (.enter 343 args) w:=enters_of Tryz.func343 (by kernel_rfl) rfl
 have hcmp:CmpLays1 Tryz.prog 343 #[.pointer (some ⟨pb,0,none⟩)] (Value.int .i64) (cfK (keyG x.2.2)) a.block a.off ids.toArray.size w:=by
  intro m os dk hdk u v
  have hU:Upd (fun i=>i=a.block) w (sortWorld (Value.int .i64) w a.block a.off m dk os):=put_upd _
  have h':=(Frame.who b).upd h hU (fun j hj e=>hF (e ▸ hj))
  refine wcl_ok h' ?_ u v
  have hpl:=cell_lt hp
  unfold World.cell? at hp⊢
  rw[hU.blk _ hpl hpb]
  exact hp
 have hrun:=Any.slices_SortFunc_total Tryz.sortL (Value.int .i64) (fun _=>rfl) (cfK (keyG x.2.2)) (swoK _) 343 #[.pointer (some ⟨pb,0,none⟩)] a.block a.off c ids.toArray w eg hcmp hH hlt (by simp;omega) (totK _)
 rw[mergeArr]at hrun
 have ea:a=⟨a.block,a.off,none⟩:=by
  obtain⟨b',o,sp⟩:=a
  simp only at hs
  subst hs
  rfl
 rw[ea]
 refine Calls.mono (show Calls Tryz.prog 342 _ _ _ from hrun) ?_
 rintro e w' ⟨rfl,n,os,rfl⟩
 have hlen:(sortK (keyG x.2.2) ids).length=ids.length:=(sortK_perm _ _).length_eq
 refine⟨rfl,?_,put_upd _⟩
 have:=hS.putRow (d:=sortK (keyG x.2.2) ids) hlen (n:=n) (os:=os)
 rw[hlen]at this
 rw[ea]at this
 exact this
theorem wsorted_ok {b:Nat} {x:WhS} {w:World} {F:Fp} (h:WhO b w F x) {p:Option Addr} {c:Nat} {ids:List Int} (hc:Cells w p (ids.map (Value.int .i64))) (hl:ids.length<=1000) (hn:p=none->ids=[]/\c=0):Calls Tryz.prog 274 #[.pointer (some ⟨b,0,none⟩),.slice p ids.length c] w fun e w'=>∃q d,e=.returned (.slice q (sortK (keyG x.2.2) ids).length d)/\Cells w' q ((sortK (keyG x.2.2) ids).map (Value.int .i64))/\Upd no w w'/\∀j,fpS q j->w.heap.size<=j:=by
 have hlen:(sortK (keyG x.2.2) ids).length=ids.length:=(sortK_perm _ _).length_eq
 refine u274 ?_
 rw[t274]
 refine⟨fun w1 hN=>?_⟩
 have h1:=(Frame.who b).upd h (hN.upd no) (fun _ _ h=>h)
 have hlt1:=(Frame.who b).lt h1
 refine⟨(cloneL_ok (hc.no (hN.upd no)) (by omega) hn).mono ?_⟩
 rintro e w2 ⟨q,d,rfl,hL⟩
 have h2:=(Frame.who b).upd h1 hL.U (fun _ _ h=>h)
 have hB2:=hN.blk'.upd hL.U id
 refine⟨_,_,_,rfl,?_⟩
 cases q with
 | none=>
  have e0:ids=[]:=by
   have:=hL.S.2.2.2.1
   exact List.length_eq_zero_iff.1 this
  subst e0
  refine⟨Calls.mono (show Calls Tryz.prog 342 _ _ _ from AnyF.slices_SortFunc_none (P:=Tryz.prog) (ρ:=Tryz.sortL_ren) {Tryz.sortL with} none d _ w2) ?_⟩
  rintro e w3 ⟨rfl,rfl⟩
  exact⟨rfl,_,_,rfl,Cells.nil _ _,(hN.upd no).and hL.U,fun j ⟨_,h,_⟩=>by cases h⟩
 | some a=>
  have ha:=hL.F a.block ⟨a,rfl,rfl⟩
  have hsz:=hN.size
  refine⟨(wsort_run (pb:=w.heap.size) h2 (hB2.cell0 rfl) hL.S (fun hf=>by have:=hlt1 _ hf;omega) (by omega) hl).mono ?_⟩
  rintro e w3 ⟨rfl,hS3,hU3⟩
  refine⟨rfl,some a,d,by rw[hlen],?_,((hN.upd no).and hL.U).trans hU3 (fun j hj e=>by omega),fun j hj=>by
   obtain⟨_,h,rfl⟩:=hj
   cases h
   omega⟩
  exact hS3.cells
theorem wdue_ok {b:Nat} {y:Int×DuF} {w:World} {F:Fp} (h:WlO b w F y):Calls Tryz.prog 293 #[.pointer (some ⟨b,0,none⟩)] w fun e w'=>∃l q d,e=.returned (.slice q l.length d)/\Cells w' q (l.map (Value.int .i64))/\Upd no w w'/\(∀j,fpS q j->w.heap.size<=j)/\(∃r:List Int,l=sortK (fun id=>(y.2 id).getD 0) r/\r.Nodup/\∀id,id∈r↔∃t,y.2 id=some t/\t<=y.1):=by
 obtain⟨L,n,h,hv⟩:=h
 obtain⟨p,c,F1,hA⟩:=h.at (i:=168) (by show 168<L.length;rw[hv.len];decide)
 refine u293 ?_
 rw[t293]
 refine⟨fun g=>(by cases g),fun _=>⟨_,rfl,p,_,c,hA.cell w (Upd.refl _ _),⟨(wsorted_ok h hA.ls.cells (by have:=hv.row_len 168;simp only;omega) hA.ls.zero).mono ?_⟩⟩⟩
 rintro e w1 ⟨q,d,rfl,hC,hU,hfr⟩
 refine⟨_,_,_,rfl,_,q,d,rfl,hC,hU,hfr,L.getD 168 [],rfl,hv.nd 168,fun id=>?_⟩
 rw[hv.at_]
 constructor
 ·rintro⟨t,ht,e⟩
  refine⟨t,ht,?_⟩
  have h1:=hv.due id t ht
  unfold ixW at e
  split at e
  ·have:=h1.2;have:=hv.tk;unfold tickR at *;omega
  ·rename_i hlt
   have:=ix_lt' (now:=y.1.toNat) (due:=t.toNat) (by omega) (tick_le h1.2) (tick_le hv.tk)
   omega
 ·rintro⟨t,ht,hle⟩
  refine⟨t,ht,?_⟩
  have h1:=hv.due id t ht
  unfold ixW
  rw[if_pos (by have:=h1.2;have:=hv.tk;unfold tickR at *;omega)]
end Go.Dav
namespace Go.Dav
open Go.Proofs
open Go.WideElems (Fit rd rg)
variable {α:Type} {f:α->Value} {P:Program} {t k e:TypeId} {z:Value} {b:Nat} {w:World} {F:Fp} {x:(Int->Option α)×Nat}
def rdN:Value->Option (DataW Unit×List MemPlace):=fun _=>some (.nil,[])
def kyN (n:Int):Lit×DataW Unit:=(.int .i64 n,.nil)
theorem rg_list {es:List MapEntry} {L:List (Int×α)} (h:EsL f es L) (hr:∀p∈L,keyOf P k (.int .i64 p.1)=some (.int .i64 p.1)):es.map (rg P k rdN)=L.map fun p=>kyN p.1:=by
 apply List.ext_getElem?
 intro i
 rw[List.getElem?_map,List.getElem?_map]
 cases he:es[i]? with
 | none=>
  have:L[i]?=none:=by
   rw[List.getElem?_eq_none_iff]at he⊢
   rw[<-h.len];exact he
  rw[this];rfl
 | some y=>
  obtain⟨p,hp,hk,_⟩:=h.at he
  rw[hp]
  simp only[Option.map_some]
  congr 1
  unfold rg rd
  rw[hk,hr p (List.mem_iff_getElem?.2 ⟨i,hp⟩)]
  rfl
theorem MapO.owns (hk:P.underlying k=some (.int .i64)) (h:MapO b f w F x) (hw:∀n v,x.1 n=some v->(Lit.int .i64 n).wf=true) (hs:x.2<=maxLen) :
  ∃(D:DataW Unit) (ks:List Int),w.ownsMap P k rdN b x.2 D/\(intKeys D).Perm ks/\ks.Nodup/\(∀n,n∈ks↔(x.1 n).isSome=true)/\ks.length=x.2/\Maps.size D=x.2:=by
 obtain⟨h1,es,clock,L,hb,hE,hn,hx,hl,hst⟩:=h
 have hr:∀p∈L,keyOf P k (.int .i64 p.1)=some (.int .i64 p.1):=fun p hp=>Maps.keyOf_int_mk hk (hw p.1 p.2 ((hx p.1 p.2).2 hp))
 have hrg:=rg_list (P:=P) (k:=k) hE hr
 have hlen:es.size=x.2:=by rw[hl,<-hE.len];simp
 have hperm:=WideShapes.sorted_perm (es.toList.map (rg P k rdN))
 refine⟨.map ((es.toList.map (rg P k rdN)).foldr DataW.insert []),L.map Prod.fst,⟨es,clock,hb,⟨by omega,hst,fun y hy=>?_⟩,by omega,rfl⟩,?_,hn,fun n=>?_,by simp[hl],?_⟩
 ·obtain⟨i,hi⟩:=List.mem_iff_getElem?.1 hy
  obtain⟨p,hp,hkk,_⟩:=hE.at hi
  exact⟨kyN p.1,by unfold rd;rw[hkk,hr p (List.mem_iff_getElem?.2 ⟨i,hp⟩)];rfl⟩
 ·show(((es.toList.map (rg P k rdN)).foldr DataW.insert []).map _).Perm _
  refine(hperm.map _).trans ?_
  rw[hrg,List.map_map]
  exact .refl _
 ·constructor
  ·intro hm
   obtain⟨p,hp,rfl⟩:=List.mem_map.1 hm
   rw[(hx p.1 p.2).2 hp];rfl
  ·intro hm
   cases hv:x.1 n with
   | none=>rw[hv]at hm;cases hm
   | some v=>exact List.mem_map.2 ⟨(n,v),(hx n v).1 hv,rfl⟩
 ·show((es.toList.map (rg P k rdN)).foldr DataW.insert []).length=_
  rw[hperm.length_eq,List.length_map]
  simpa using hlen
end Go.Dav
namespace Go.Dav
open Go.Proofs
theorem wdropc_ok {pb:Nat} {id:Int} {w:World} (hp:w.cell? ⟨pb,0,none⟩=some (.int .i64 id)) (x:Int):Calls Tryz.prog 374 #[.int .i64 x,.pointer (some ⟨pb,0,none⟩)] w fun e w'=>e=.returned (.bool (x==id))/\w'=w:=by
 refine u374 ?_
 rw[t374]
 exact⟨_,hp,rfl,rfl⟩
theorem del_run {pb:Nat} {id:Int} {w:World} (hp:w.cell? ⟨pb,0,none⟩=some (.int .i64 id)) {F1:Fp} {a:Addr} {c:Nat} {l:List Int} (hS:Ls 3 w F1 (some a,c,l)) (hpb:pb≠a.block) (hl:l.length<=1000) :
  Calls Tryz.prog 373 #[.slice (some a) l.length c,.func (.func 374) #[] #[.pointer (some ⟨pb,0,none⟩)]] w fun e w'=>e=.returned (.slice (some a) (l.filter fun x=>!(x==id)).length c)/\Turn (Ls 3) w w' F1 (some a,c,l.filter fun x=>!(x==id)):=by
 have hH:=hS.2.holds
 have hs:a.spot=none:=by obtain⟨_,_,_,cells,hb,hs,_,_⟩:=hS.2;exact hs
 have hpl:=cell_lt hp
 have eg:∀args w,(callFunc 374 args).run Tryz.prog w=.ok (.enter 374 args) w:=enters_of Tryz.func374 (by kernel_rfl) rfl
 have h1:PredAt Tryz.prog 374 #[.pointer (some ⟨pb,0,none⟩)] (Value.int .i64) (fun x=>x==id) w:=by
  intro W x hB
  refine(wdropc_ok (w:=W) (id:=id) ?_ x).mono ?_
  ·unfold World.cell? at hp⊢
   rw[hB.block pb hpl]
   exact hp
  ·rintro e w' ⟨rfl,rfl⟩
   exact⟨rfl,0,rfl⟩
 have h2:PredOver Tryz.prog 374 #[.pointer (some ⟨pb,0,none⟩)] (Value.int .i64) (fun x=>x==id) a.block a.off l.toArray.size w:=by
  intro m os dk x hdk
  have hU:Upd (fun i=>i=a.block) w (sortWorld (Value.int .i64) w a.block a.off m dk os):=put_upd _
  refine(wdropc_ok (id:=id) ?_ x).mono ?_
  ·unfold World.cell? at hp⊢
   rw[hU.blk _ hpl hpb]
   exact hp
  ·rintro e w' ⟨rfl,rfl⟩
   exact⟨rfl,0,rfl⟩
 have hz:∀w:World,(zeroValue 3).run Tryz.prog w=.ok (.int .i64 0) w:=fun w=>by
  rw[run_zeroValue_ok (t:=3) (by kernel_rfl),show zv Tryz.prog 3=.int .i64 0 by kernel_rfl]
 have hrun:=AnyE.slices_DeleteFunc Tryz.delL (Value.int .i64) (fun _=>rfl) (fun x=>x==id) 374 #[.pointer (some ⟨pb,0,none⟩)] eg 0 hz a.block a.off c l.toArray w h1 h2 hH (by simp;omega) (by simpa using hS.2.2.1)
 have ea:a=⟨a.block,a.off,none⟩:=by
  obtain⟨b',o,sp⟩:=a
  simp only at hs
  subst hs
  rfl
 have hcall:=show Calls Tryz.prog 373 #[.slice (some ⟨a.block,a.off,none⟩) l.length c,.func (.func 374) #[] #[.pointer (some ⟨pb,0,none⟩)]] w _ from hrun
 rw[<-ea]at hcall
 refine hcall.mono ?_
 rintro e w' ⟨rfl,q,hw⟩
 refine⟨rfl,?_⟩
 have hfl:(l.filter fun x=>!(x==id)).length<=l.length:=List.length_filter_le _ _
 have hlen:((l.filter fun x=>!(x==id))++List.replicate (l.length-(l.filter fun x=>!(x==id)).length) 0).length=l.length:=by simp;omega
 obtain⟨F',t1,t2,t3⟩:=hS.putRow (d:=(l.filter fun x=>!(x==id))++List.replicate (l.length-(l.filter fun x=>!(x==id)).length) 0) hlen (n:=q) (os:=#[])
 have e2:w'=Sort.grow (Sort.putRow (Value.int .i64) (Sort.ahead w q) a.block a.off ((l.filter fun x=>!(x==id))++List.replicate (l.length-(l.filter fun x=>!(x==id)).length) 0).toArray) #[]:=by
  rw[Sort.grow_empty];exact hw
 rw[<-e2]at t1 t2
 refine⟨F',⟨t1.1,?_⟩,t2,t3⟩
 have hT:=t1.2.takeN (l.filter fun x=>!(x==id)).length (by simp)
 rw[Nat.mul_one,<-List.map_take,List.take_append_of_le_length (Nat.le_refl _),List.take_length]at hT
 exact hT
theorem wdrop_ok_Wdel {b:Nat} {y:Int×DuF} {w:World} {F:Fp} (h:WlO b w F y) {id d:Int} (hg:y.2 id=some d):Calls Tryz.prog 324 #[.pointer (some ⟨b,0,none⟩),.int .i64 id] w fun e w'=>e=.returned (.int .i64 0)/\Turn (WlO b) w w' F (y.1,gDel y.2 id):=by
 obtain⟨L,n,h0,hv⟩:=h
 obtain⟨now,g⟩:=y
 simp only at h0 hv hg⊢
 have hd:=hv.due id d hg
 refine u324 ?_
 rw[t324]
 refine⟨fun w1 hN=>⟨fun g=>(by cases g),fun _=>?_⟩⟩
 intro w2 q1 q2 q3 q4
 have hU2:Upd no w w2:=(hN.upd no).and (Upd.same no q1 q2 q3 q4)
 have h2:=(Frame.who b).upd h0 hU2 (fun _ _ h=>h)
 have hlt0:=(Frame.who b).lt h0
 obtain⟨bm,Fm,⟨ys,hB⟩,hM,_⟩:=h2.map
 have hp2:Blk w2 w.heap.size [.int .i64 id] _:=hN.blk'.upd (Upd.same no q1 q2 q3 q4) (fun h=>h)
 have hlk:=run_lookup wmT hM id true
 simp only[hg,Option.map_some,Option.getD_some,Option.isSome_some,if_true]at hlk
 refine⟨_,rfl,_,hB.cell rfl,_,hp2.cell0 rfl,_,_,hlk,fun g=>(by cases g),fun _=>⟨(wlist_ok_Wheel h2 hv.tk hd.2).mono ?_⟩⟩
 rintro e w3 ⟨rfl,hU3⟩
 have h3:=(Frame.who b).upd h2 hU3 (fun _ _ h=>h)
 have hlt3:=(Frame.who b).lt h3
 have hp3:=hp2.upd hU3 (fun h=>h)
 have hixF:ixF now g id=ixW now.toNat d.toNat:=by unfold ixF;rw[hg];rfl
 have hix:ixW now.toNat d.toNat<L.length:=by rw[hv.len,<-hixF];exact ixF_lt hv.tk hd.2 hg
 obtain⟨p,c,F1,hA⟩:=h3.at (i:=ixW now.toNat d.toNat) hix
 have hmem:=(hv.at_ (ixW now.toNat d.toNat) id).2 ⟨d,hg,rfl⟩
 have hlen:=hv.row_len (ixW now.toNat d.toNat)
 refine⟨_,rfl,_,rfl,_,_,_,hA.cell w3 (Upd.refl _ _),?_⟩
 have hLs:=hA.ls
 have hput:=hA.put
 simp only at hLs hput⊢
 cases p with
 | none=>
  have:=(hLs.zero rfl).1
  rw[this]at hmem
  cases hmem
 | some a=>
  have hFa:F1 a.block:=(hLs.1 _).2 ⟨a,rfl,rfl⟩
  have hpb:w.heap.size≠a.block:=by
   have:=hlt0 _ (hA.sub _ hFa)
   omega
  refine⟨(del_run (hp3.cell0 rfl) hLs hpb (by omega)).mono ?_⟩
  rintro e w4 ⟨rfl,hT4⟩
  refine⟨some a,_,c,rfl,_,rfl,?_⟩
  refine hput w4 (some a) c _ hT4 _ fun w5 h5=>?_
  intro w6 r1 r2 r3 r4
  have h6:=h5.upd (Upd.same no r1 r2 r3 r4)
  obtain⟨F6,k6,kk6⟩:=h6.turn
  obtain⟨bm',Fm',⟨ys',hB'⟩,hM',kM'⟩:=k6.map
  have hp6:Blk w6 w.heap.size [.int .i64 id] _:=hp3.upd (show Upd F w3 w6 from(by obtain⟨_,_,u,_⟩:=h6;exact u)) (fun hf=>by have:=hlt0 _ hf;omega)
  obtain⟨w7,hrun,hT7⟩:=run_del wmT hM' id 3 (0:TypeId)
  refine⟨_,rfl,_,hB'.cell rfl,_,hp6.cell0 rfl,w7,hrun,trivial,?_⟩
  have h7:=kk6 _ _ (kM' _ _ hT7)
  have h8:Turn (WhO b) w w7 F (now,L.set (ixW now.toNat d.toNat) ((L.getD (ixW now.toNat d.toNat) []).filter fun x=>!(x==id)),mdel (g,n) id):=Turn.next h3 ((hU2.and hU3).mono (fun _ _ h=>h.elim)) (fun _ h=>.inl h) h7
  have hv':=hv.del hg
  rw[hixF]at hv'
  exact WlO.of h8 hv'
theorem alloc_old (w:World) (o:Obj) {i:Nat} (h:i<w.heap.size):(w.alloc o).heap[i]?=w.heap[i]?:=by
 show(w.heap.push o)[i]?=_
 rw[Array.getElem?_push,if_neg (by omega)]
theorem wfF {n:Int} (h:1<=n/\n<=48):(Lit.int .i64 n).wf=true:=by
 simp[Lit.wf,IntKind.min,IntKind.max,IntKind.bits,IntKind.signed]
 omega
theorem wall_ok {b:Nat} {y:Int×DuF} {w:World} {F:Fp} (h:WlO b w F y):Calls Tryz.prog 184 #[.pointer (some ⟨b,0,none⟩)] w fun e w'=>∃l q d,e=.returned (.slice q l.length d)/\Cells w' q (l.map (Value.int .i64))/\Upd no w w'/\(∀j,fpS q j->w.heap.size<=j)/\(∃r:List Int,l=sortK (fun id=>(y.2 id).getD 0) r/\r.Nodup/\∀id,id∈r↔(y.2 id).isSome=true):=by
 obtain⟨L,n,h,hv⟩:=h
 obtain⟨bm,Fm,⟨ys,hB⟩,hM,_⟩:=h.map
 have hsmall:n<=48:=by
  obtain⟨_,es,clock,E,_,_,hn,hx,hl,_⟩:=hM
  simp only at hl
  rw[hl]
  have:=small_len (l:=E.map Prod.fst) hn (fun id hid=>by
   obtain⟨p,hp,rfl⟩:=List.mem_map.1 hid
   exact(hv.due p.1 p.2 ((hx p.1 p.2).2 hp)).1)
  simpa using this
 obtain⟨D,ks,hown,hperm,hnd,hmem,hlen,hsize⟩:=MapO.owns (P:=Tryz.prog) (k:=3) (by kernel_rfl) hM (fun m v hmv=>wfF (hv.due m v hmv).1) (by simp only;unfold maxLen;omega)
 simp only at hown hlen hsize hmem
 refine u184 ?_
 rw[t184]
 refine⟨fun g=>(by cases g),fun _=>⟨_,rfl,_,hB.cell rfl,?_⟩⟩
 have hK:=callsIn_wide.1 (AnyZI.keys_in Tryz.keysL Fence.wide 9 trivial rfl (some bm) w)
 refine⟨Calls.mono (show Calls Tryz.prog 276 _ _ _ from hK) ?_⟩
 rintro e w1 ⟨rfl,rfl⟩
 refine⟨_,rfl,?_⟩
 have hbl:bm<w.heap.size:=by
  obtain⟨es,clock,hb,_⟩:=hown
  exact lt_of_blk hb
 have hseq:SeqGives Fence.wide (9-1-1) Tryz.prog 348 #[.pointer (some ⟨w.heap.size,0,none⟩)] encZ (fun ss=>ss.Perm (intKeys D)) (Maps.size D) (w.alloc (.cells #[.map (some bm)] 285)):=
  AnyZI.keys_gives (ρ:=Tryz.keysL_ren) {Tryz.keysL with} Fence.wide _ trivial rfl (by omega) w.heap.size bm n D _ (by simp) (by simp) (by
   obtain⟨es,clock,hb,Ft,hs,hD⟩:=hown
   exact⟨es,clock,(alloc_old w _ hbl).trans hb,Ft,hs,hD⟩)
 have hC:=callsIn_wide.1 (AnyZI.collect_in Tryz.collL Fence.wide 9 trivial trivial rfl (by omega) 348 #[.pointer (some ⟨w.heap.size,0,none⟩)] trivial (enters_of Tryz.func348 (by kernel_rfl) rfl) (fun ss=>ss.Perm (intKeys D)) (Maps.size D) (by rw[hsize];unfold maxLen;omega) (by rw[hsize];omega) (w.alloc (.cells #[.map (some bm)] 285)) hseq)
 have hU1:Upd no w (w.alloc (.cells #[.map (some bm)] 285)):=⟨by simp,rfl,rfl,rfl,fun i hi _=>alloc_old w _ hi⟩
 refine⟨Calls.mono (show Calls Tryz.prog 275 _ _ _ from hC) ?_⟩
 rintro e w2 ⟨v,ss,rfl,hS,hrow,hnil,hb⟩
 have hU2:Upd no w w2:=hU1.and ⟨hb.size,hb.os,hb.tape,hb.output,fun i hi _=>hb.block i hi⟩
 have hss:ss.Perm ks:=hS.trans hperm
 have hvs:∃q d,v=.slice q ss.length d/\Cells w2 q (ss.map (Value.int .i64))/\(q=none->ss=[]/\d=0):=by
  obtain⟨h1,h2⟩:=hrow
  rcases h2 with⟨rfl,h0⟩|⟨g,cap,cur,rfl,_,hg,hn,hm,hsz,ht⟩
  ·have h0:ss=[]:=List.length_eq_zero_iff.1 h0
   subst h0
   exact⟨none,0,rfl,Cells.nil _ _,fun _=>⟨rfl,rfl⟩⟩
  ·refine⟨some ⟨g,0,none⟩,cap,rfl,fun j v hj=>⟨_,rfl,?_⟩,fun h=>by cases h⟩
   have hj':j<ss.length:=by
    have:=(List.getElem?_eq_some_iff.1 hj).1
    simpa using this
   have hB2:Blk w2 g cur.toList _:=hg
   rw[add_lit,cell_blk hB2,Nat.zero_add]
   rw[<-ht,List.getElem?_take,if_pos (by omega)]at hj
   exact hj
 obtain⟨q,d,rfl,hcs,hq⟩:=hvs
 have h2:=(Frame.who b).upd h hU2 (fun _ _ h=>h)
 refine⟨_,_,_,rfl,⟨(wsorted_ok h2 hcs (by rw[hss.length_eq,hlen];omega) hq).mono ?_⟩⟩
 rintro e w3 ⟨q',d',rfl,hC3,hU3,hfr⟩
 refine⟨_,_,_,rfl,_,q',d',rfl,hC3,hU2.and hU3,fun j hj=>Nat.le_trans hU2.size (hfr j hj),ss,rfl,hss.nodup_iff.2 hnd,fun id=>?_⟩
 rw[hss.mem_iff]
 exact hmem id
end Go.Dav
namespace Go.Dav
open Go.Proofs
abbrev l0:Lst:=(none,0,[])
theorem take8 {l:List Value} {k:Nat} (h:k+8<=l.length):(l.drop k).take 8=[l[k],l[k+1],l[k+2],l[k+3],l[k+4],l[k+5],l[k+6],l[k+7]]:=by
 rw[List.drop_eq_getElem_cons (by omega),List.drop_eq_getElem_cons (by omega),List.drop_eq_getElem_cons (by omega),List.drop_eq_getElem_cons (by omega),List.drop_eq_getElem_cons (by omega),List.drop_eq_getElem_cons (by omega),List.drop_eq_getElem_cons (by omega),List.drop_eq_getElem_cons (by omega)]
 rfl
theorem rws_getD (ys:List Lst) (i:Nat):(rws ys).getD i []=(ys.getD i l0).2.2:=by
 simp only[List.getD_eq_getElem?_getD,rws,List.getElem?_map]
 cases ys[i]?<;>rfl
def hdAt (ys:List Lst) (i:Nat):Value:=hdI (ys.getD i l0)
theorem wlE_at {bm:Nat} {n:Int} {ys:List Lst} {i:Nat} (hi:i<ys.length):(wlE bm (n,ys))[2+i]?=some (hdAt ys i):=by
 unfold wlE hdAt
 rw[show 2+i=i+2 by omega]
 simp[hi]
theorem wfirst_ok {b:Nat} {now:Int} {L:List (List Int)} {m:DuM} {w:World} {F:Fp} (h:WhO b w F (now,L,m)) (hL:L.length=169) (hne:∃i id,id∈L.getD i []):Calls Tryz.prog 362 #[.pointer (some ⟨b,0,none⟩)] w fun e w'=>∃i q c,e=.returned (.slice q (L.getD i []).length c)/\Cells w' q ((L.getD i []).map (Value.int .i64))/\(q=none->L.getD i []=[]/\c=0)/\L.getD i []≠[]/\i<169/\(i=168∨(L.getD 168 []=[]/\∀j,j<i->L.getD j []=[]))/\Upd no w w':=by
 have row:∀(w':World) (ys:List Lst) (bm:Nat) (i:Nat),Upd no w w'->i<169->rws ys=L->Blk w b (wlE bm (now,ys)) 289->Cells w' (ys.getD i l0).1 ((L.getD i []).map (Value.int .i64))/\((ys.getD i l0).1=none->L.getD i []=[]/\(ys.getD i l0).2.1=0):=by
  intro w' ys bm i hU hi hr hB
  have h':=(Frame.who b).upd h hU (fun _ _ h=>h)
  obtain⟨p,c,F1,hA⟩:=h'.at (i:=i) (by show i<L.length;rw[hL];exact hi)
  have hcell:=hA.cell w' (Upd.refl _ _)
  have hB':=hB.upd hU (fun h=>h)
  have hlen:i<ys.length:=by rw[<-rws_len,hr,hL];exact hi
  rw[hB'.cell (wlE_at hlen)]at hcell
  unfold hdAt hdI at hcell
  simp only[Option.some.injEq,Value.slice.injEq]at hcell
  obtain⟨e1,_,e3⟩:=hcell
  rw[e1,e3]
  exact⟨hA.ls.cells,hA.ls.zero⟩
 obtain⟨bm,ys,hst,hr⟩:=id h
 simp only at hr hst
 obtain⟨G,hW,_⟩:=Star.left hst
 have hB:Blk w b (wlE bm (now,ys)) 289:=hW.blk
 have hyl:ys.length=169:=by rw[<-rws_len,hr,hL]
 have hlen:∀i,(ys.getD i l0).2.2=L.getD i []:=fun i=>by rw[<-hr,rws_getD]
 have h168:w.cell? ((⟨b,0,none⟩:Addr).add 170)=some (.slice (ys.getD 168 l0).1 (ys.getD 168 l0).2.2.length (ys.getD 168 l0).2.1):=hB.cell (k:=170) (wlE_at (i:=168) (by omega))
 refine u362 ?_
 rw[t362]
 refine⟨_,rfl,_,_,_,h168,fun g=>⟨_,rfl,_,_,_,h168,168,(ys.getD 168 l0).1,(ys.getD 168 l0).2.1,?_⟩,fun g=>⟨_,rfl,(ys.map hdI).take 168,by simp[hyl],?_,?_⟩⟩
 ·have g:=of_decide_eq_true g
  rw[hlen 168]at g⊢
  obtain⟨r1,r2⟩:=row w ys bm 168 (Upd.refl _ _) (by decide) hr hB
  refine⟨rfl,r1,r2,fun h0=>?_,by decide,.inl rfl,Upd.refl _ _⟩
  rw[h0]at g
  simp at g
 ·intro j v hj
  have hj1:j<168:=by
   have:=(List.getElem?_eq_some_iff.1 hj).1
   simp at this
   omega
  rw[List.getElem?_take_of_lt hj1,List.getElem?_map]at hj
  rw[Addr.add_add]
  refine hB.cell ?_
  rw[wlE_at (by omega)]
  have:ys[j]?=some (ys.getD j l0):=by simp[List.getD_eq_getElem?_getD,show j<ys.length by omega]
  rw[this]at hj
  exact hj
 ·have g:=of_decide_eq_false g
  have hready:L.getD 168 []=[]:=by
   rw[hlen 168]at g
   exact List.length_eq_zero_iff.1 (by omega)
  have hcs:((ys.map hdI).take 168).length=168:=by simp[hyl]
  have hat:∀k (hk:k<168),((ys.map hdI).take 168)[k]'(by rw[hcs];exact hk)=hdAt ys k:=fun k hk=>by
   unfold hdAt
   simp[List.getD_eq_getElem?_getD,show k<ys.length by omega]
  refine⟨WP_loop okProg (M:=M362) (σ:=Nat×Option Addr×Nat×Nat) (fun x=>e362_1 x.2.1 x.2.2.1 x.2.2.2 ((ys.map hdI).take 168) (x.1:Int)) (fun x w'=>x.1<=21/\(∀j,j<x.1*8->L.getD j []=[])/\Upd no w w') (fun x _=>21-x.1) (0,none,0,0) ⟨rfl,rfl,rfl,trivial⟩ ⟨by simp only;omega,fun j hj=>by simp only at hj;omega,Upd.refl _ _⟩ ?_⟩
  rintro⟨i,p,n,c⟩ w1 ⟨hi,hem,hU⟩
  simp only at hi hem⊢
  rw[t362_1]
  refine⟨fun g2=>?_,fun g2=>?_⟩
  ·have g2:=of_decide_eq_true g2
   refine⟨⟨by omega,by omega⟩,?_⟩
   have e8:List.take 8 (List.drop ((i:Int).toNat*8) ((ys.map hdI).take 168).toArray.toList)=[hdAt ys (i*8),hdAt ys (i*8+1),hdAt ys (i*8+2),hdAt ys (i*8+3),hdAt ys (i*8+4),hdAt ys (i*8+5),hdAt ys (i*8+6),hdAt ys (i*8+7)]:=by
    rw[Int.toNat_natCast,List.toList_toArray,take8 (by rw[hcs];omega),hat _ (by omega),hat _ (by omega),hat _ (by omega),hat _ (by omega),hat _ (by omega),hat _ (by omega),hat _ (by omega),hat _ (by omega)]
   refine⟨_,_,_,_,_,_,_,_,_,_,_,_,_,_,_,_,_,_,_,_,_,_,_,_,e8,⟨fun w2 hN=>hN.blk'.wr0 (by simp) fun w3 hW3=>?_⟩⟩
   have hB3:=hW3.blk'
   have hU3:Upd no w w3:=(hU.and (hN.upd no)).trans hW3.U (fun j hj e=>by have:=hU.size;omega)
   refine⟨_,_,_,hB3.cell rfl,_,_,_,hB3.cell rfl,_,_,_,hB3.cell rfl,_,_,_,hB3.cell rfl,_,_,_,hB3.cell rfl,_,_,_,hB3.cell rfl,_,_,_,hB3.cell rfl,_,_,_,hB3.cell rfl,?_⟩
   refine⟨WP_loop okProg (M:=M362) (σ:=Nat×Option Addr×Nat×Nat) (fun x=>e362_3 x.2.1 x.2.2.1 x.2.2.2 ((ys.map hdI).take 168) (i:Int) (ys.getD (i*8) l0).1 (ys.getD (i*8) l0).2.2.length (ys.getD (i*8) l0).2.1 (ys.getD (i*8+1) l0).1 (ys.getD (i*8+1) l0).2.2.length (ys.getD (i*8+1) l0).2.1 (ys.getD (i*8+2) l0).1 (ys.getD (i*8+2) l0).2.2.length (ys.getD (i*8+2) l0).2.1 (ys.getD (i*8+3) l0).1 (ys.getD (i*8+3) l0).2.2.length (ys.getD (i*8+3) l0).2.1 (ys.getD (i*8+4) l0).1 (ys.getD (i*8+4) l0).2.2.length (ys.getD (i*8+4) l0).2.1 (ys.getD (i*8+5) l0).1 (ys.getD (i*8+5) l0).2.2.length (ys.getD (i*8+5) l0).2.1 (ys.getD (i*8+6) l0).1 (ys.getD (i*8+6) l0).2.2.length (ys.getD (i*8+6) l0).2.1 (ys.getD (i*8+7) l0).1 (ys.getD (i*8+7) l0).2.2.length (ys.getD (i*8+7) l0).2.1 (x.1:Int)) (fun x w'=>x.1<=8/\(∀j,j<i*8+x.1->L.getD j []=[])/\Upd no w w') (fun x _=>8-x.1) (0,p,n,c) ⟨rfl,rfl,rfl,rfl,rfl,trivial⟩ ⟨by simp only;omega,fun j hj=>hem j (by simp only at hj;omega),hU3⟩ ?_⟩
   rintro⟨k,p',n',c'⟩ w4 ⟨hk,hem4,hU4⟩
   simp only at hk hem4⊢
   rw[t362_3]
   refine⟨fun g3=>?_,fun g3=>?_⟩
   ·have g3:=of_decide_eq_true g3
    have hk':k<8:=by omega
    refine⟨⟨by omega,by omega⟩,(ys.getD (i*8+k) l0).1,(ys.getD (i*8+k) l0).2.2.length,(ys.getD (i*8+k) l0).2.1,?_,fun g4=>?_,fun g4=>?_⟩
    ·rw[Int.toNat_natCast,Nat.mul_one]
     match k,hk' with
     | 0,_|1,_|2,_|3,_|4,_|5,_|6,_|7,_=>rfl
    ·have g4:=of_decide_eq_true g4
     obtain⟨r1,r2⟩:=row w4 ys bm (i*8+k) hU4 (by omega) hr hB
     rw[hlen]at g4⊢
     refine⟨i*8+k,_,_,rfl,r1,r2,fun h0=>?_,by omega,.inr ⟨hready,fun j hj=>hem4 j hj⟩,hU4⟩
     rw[h0]at g4
     simp at g4
    ·have g4:=of_decide_eq_false g4
     refine⟨(k+1,_,_,_),⟨rfl,rfl,rfl,rfl,by rw[w64 (by omega)];rfl,trivial⟩,⟨by simp only;omega,fun j hj=>?_,hU4⟩,by simp only;omega⟩
     simp only at hj
     by_cases hjk:j=i*8+k
     ·subst hjk
      rw[hlen]at g4
      exact List.length_eq_zero_iff.1 (by omega)
     ·exact hem4 j (by omega)
   ·have g3:=of_decide_eq_false g3
    have:k=8:=by omega
    subst this
    exact⟨(i+1,p',n',c'),⟨rfl,rfl,by rw[w64 (by omega)];rfl,trivial⟩,⟨by simp only;omega,fun j hj=>hem4 j (by simp only at hj;omega),hU4⟩,by simp only;omega⟩
  ·have g2:=of_decide_eq_false g2
   exfalso
   obtain⟨j,id,hid⟩:=hne
   by_cases hj:j<168
   ·rw[hem j (by omega)]at hid
    cases hid
   ·by_cases hj2:j=168
    ·rw[hj2,hready]at hid
     cases hid
    ·rw[List.getD_eq_getElem?_getD,List.getElem?_eq_none (by omega)]at hid
     cases hid
theorem MapO.zero {α:Type} {f:α->Value} {b:Nat} {w:World} {F:Fp} {x:(Int->Option α)×Nat} (h:MapO b f w F x):x.2=0↔∀k,x.1 k=none:=by
 obtain⟨_,es,clock,E,_,_,hn,hx,hl,_⟩:=h
 constructor
 ·intro h0 k
  cases hv:x.1 k with
  | none=>rfl
  | some v=>
   have:=(hx k v).1 hv
   rw[hl]at h0
   rw[List.length_eq_zero_iff.1 h0]at this
   cases this
 ·intro h0
  rw[hl]
  cases E with
  | nil=>rfl
  | cons p E=>
   have:=(hx p.1 p.2).2 (List.mem_cons_self ..)
   rw[h0]at this
   cases this
theorem sorted_head {g:Int->Int} {l r:List Int} {a:Int} (h:sortK g l=a::r):a∈l/\∀id∈l,g a<=g id:=by
 have hp:=sortK_perm g l
 have hs:=sortK_sorted g l
 rw[h]at hp hs
 refine⟨hp.mem_iff.1 List.mem_cons_self,fun id hid=>?_⟩
 have:=hp.mem_iff.2 hid
 rcases List.mem_cons.1 this with rfl|hm
 ·exact Int.le_refl _
 ·have:=(List.pairwise_cons.1 hs).1 id hm
  rw[ltK_not]at this
  omega
theorem first_least {now:Int} {L:List (List Int)} {g:DuF} (hv:WhV now L g) {i:Nat} (hi:i<169) (hne:L.getD i []≠[]) (hfirst:i=168∨(L.getD 168 []=[]/\∀j,j<i->L.getD j []=[])) {t:Int} {a:Int} (ha:a∈L.getD i []) (hat:g a=some t) (hmin:∀id∈L.getD i [],∀t',g id=some t'->t<=t'):∀id' t',g id'=some t'->t<=t':=by
 intro id' t' h'
 have hm:=(hv.at_ (ixW now.toNat t'.toNat) id').2 ⟨t',h',rfl⟩
 by_cases hj:ixW now.toNat t'.toNat=i
 ·rw[hj]at hm
  exact hmin id' hm t' h'
 ·have ht':=(hv.due id' t' h').2
  have ht:=(hv.due a t hat).2
  obtain⟨t2,h2,e2⟩:=(hv.at_ i a).1 ha
  rw[hat]at h2
  cases h2
  have hn:=hv.tk
  unfold tickR at ht ht' hn
  rcases hfirst with rfl|⟨h168,hlt⟩
  ·have h1:t.toNat<=now.toNat:=by
    unfold ixW at e2
    split at e2
    ·assumption
    ·rename_i hh
     have:=ix_lt' (now:=now.toNat) (due:=t.toNat) (by omega) (by omega) (by omega)
     omega
   have h3:¬t'.toNat<=now.toNat:=fun hh=>hj (by unfold ixW;rw[if_pos hh])
   omega
  ·have hj168:ixW now.toNat t'.toNat≠168:=fun e=>by rw[e,h168]at hm;cases hm
   have hji:¬ixW now.toNat t'.toNat<i:=fun e=>by rw[hlt _ e]at hm;cases hm
   have hi168:i≠168:=fun e=>by rw[e]at hne;exact hne h168
   have h1:¬t.toNat<=now.toNat:=fun hh=>by unfold ixW at e2;rw[if_pos hh]at e2;omega
   have h3:¬t'.toNat<=now.toNat:=fun hh=>by unfold ixW at hj168;rw[if_pos hh]at hj168;exact hj168 rfl
   have e3:ixW now.toNat t.toNat=lvW t.toNat now.toNat*8+dgW t.toNat (lvW t.toNat now.toNat):=by unfold ixW;rw[if_neg h1]
   have e4:ixW now.toNat t'.toNat=lvW t'.toNat now.toNat*8+dgW t'.toNat (lvW t'.toNat now.toNat):=by unfold ixW;rw[if_neg h3]
   have:=ix_mono (now:=now.toNat) (a:=t.toNat) (b:=t'.toNat) (by omega) (by omega) (by omega)
   omega
theorem wnext_ok {b:Nat} {y:Int×DuF} {w:World} {F:Fp} (h:WlO b w F y):Calls Tryz.prog 303 #[.pointer (some ⟨b,0,none⟩)] w fun e w'=>(((∀id,y.2 id=none)/\e=.returned (.tuple #[.int .i64 0,.int .i64 12]))∨∃a t,y.2 a=some t/\(∀id' t',y.2 id'=some t'->t<=t')/\e=.returned (.tuple #[.int .i64 t,.int .i64 0]))/\Upd no w w':=by
 obtain⟨L,n,h,hv⟩:=h
 obtain⟨now,g⟩:=y
 simp only at h hv⊢
 obtain⟨bm,Fm,⟨ys,hB⟩,hM,_⟩:=h.map
 have hz:=hM.zero
 simp only at hz
 refine u303 ?_
 rw[t303]
 refine⟨fun g=>(by cases g),fun _=>⟨_,rfl,_,hB.cell rfl,n,fun ty=>run_mlen wmT hM ty,fun g1=>?_,fun g1=>?_⟩⟩
 ·have g1:n=0:=by simpa using g1
  exact⟨.inl ⟨hz.1 g1,rfl⟩,Upd.refl _ _⟩
 ·have g1:n≠0:=by simpa using g1
  intro w1 q1 q2 q3 q4
  have hU1:=Upd.same no q1 q2 q3 q4
  have h1:=(Frame.who b).upd h hU1 (fun _ _ h=>h)
  have hB1:=hB.upd hU1 (fun h=>h)
  have hne:∃i id,id∈L.getD i []:=by
   by_cases hall:∀k,g k=none
   ·exact absurd (hz.2 hall) g1
   ·obtain⟨k,hk⟩:=Classical.not_forall.1 hall
    cases hv2:g k with
    | none=>exact absurd hv2 hk
    | some t=>exact⟨_,k,(hv.at_ _ k).2 ⟨t,hv2,rfl⟩⟩
  refine⟨_,rfl,_,hB1.cell rfl,⟨(wfirst_ok h1 hv.len hne).mono ?_⟩⟩
  rintro e w2 ⟨i,q,c,rfl,hC,hq,hne2,hi,hfirst,hU2⟩
  have h2:=(Frame.who b).upd h1 hU2 (fun _ _ h=>h)
  have hB2:=hB1.upd hU2 (fun h=>h)
  refine⟨_,_,_,rfl,hB2.cell rfl,⟨(wsorted_ok h2 hC (by have:=hv.row_len i;omega) hq).mono ?_⟩⟩
  rintro e w3 ⟨q',d',rfl,hC3,hU3,_⟩
  have h3:=(Frame.who b).upd h2 hU3 (fun _ _ h=>h)
  have hB3:=hB2.upd hU3 (fun h=>h)
  obtain⟨bm3,Fm3,⟨ys3,hB3'⟩,hM3,_⟩:=h3.map
  have ebm:bm3=bm:=by
   have e1:=hB3'.cell (k:=1) (v:=.map (some bm3)) rfl
   have e2:=hB3.cell (k:=1) (v:=.map (some bm)) rfl
   rw[e1]at e2
   simpa using e2
  subst ebm
  cases hs:sortK (keyG (g,n)) (L.getD i [])with
  | nil=>
   exfalso
   have:=(sortK_perm (keyG (g,n)) (L.getD i [])).length_eq
   rw[hs]at this
   exact hne2 (List.length_eq_zero_iff.1 this.symm)
  | cons a r=>
   simp only[hs]at hC3⊢
   obtain⟨ha,hmin⟩:=sorted_head hs
   obtain⟨t,hat,_⟩:=(hv.at_ i a).1 ha
   obtain⟨ad,had,hcell⟩:=hC3.at1 (i:=0) (l:=a::r) (by simp)
   have hlk:=run_lookup wmT hM3 a false
   simp only[hat,Option.map_some,Option.getD_some]at hlk
   refine⟨_,_,_,rfl,hB3.cell rfl,⟨by omega,by simp⟩,ad,had,a,by simpa using hcell,t,hlk,.inr ⟨a,t,hat,?_,rfl⟩,(hU1.and hU2).and hU3⟩
   refine first_least hv hi hne2 hfirst ha hat (fun id hid t' h'=>?_)
   have:=hmin id hid
   unfold keyG at this
   simp only[hat,h',Option.getD_some]at this
   exact this
end Go.Dav
namespace Go.Dav
theorem tmAt_set {t:TmT} {i:Nat} (hi:i<t.length) (v:Option (Int×Int)) (id:Int):tmAt (t.set i v) id=if id=(i:Int)+1 then v else tmAt t id:=by
 unfold tmAt
 by_cases h1:1<=id
 ·rw[if_pos h1,if_pos h1]
  by_cases hid:id=(i:Int)+1
  ·subst hid
   have e1:((i:Int)+1).toNat-1=i:=by omega
   rw[if_pos rfl,e1]
   simp[List.getD_eq_getElem?_getD,hi]
  ·rw[if_neg hid]
   have:i≠id.toNat-1:=by omega
   simp[List.getD_eq_getElem?_getD,this]
 ·rw[if_neg h1,if_neg h1,if_neg (by omega)]
theorem tmAt_in {t:TmT} {id:Int} {p:Int×Int} (h:tmAt t id=some p):1<=id/\id<=t.length:=by
 unfold tmAt at h
 split at h
 ·rename_i h1
  refine⟨h1,?_⟩
  have:id.toNat-1<t.length:=by
   apply Classical.byContradiction
   intro hn
   rw[List.getD_eq_getElem?_getD,List.getElem?_eq_none (by omega)]at h
   cases h
  omega
 ·cases h
theorem free_at {t:TmT} {i:Nat} (h:freeT t=some i):i<t.length/\tmAt t ((i:Int)+1)=none:=by
 obtain⟨hi,h1,_⟩:=List.findIdx?_eq_some_iff_getElem.1 h
 refine⟨hi,?_⟩
 unfold tmAt
 have e1:((i:Int)+1).toNat-1=i:=by omega
 rw[if_pos (by omega),e1,List.getD_eq_getElem?_getD,List.getElem?_eq_getElem hi]
 simpa using h1
theorem tmAt_new (n:Nat) (id:Int):tmAt (List.replicate n none) id=none:=by
 unfold tmAt
 split
 ·rw[List.getD_eq_getElem?_getD]
  by_cases h:id.toNat-1<n
  ·simp[h]
  ·rw[List.getElem?_eq_none (by simpa using h)];rfl
 ·rfl
theorem tmAt_get {t:TmT} {i:Nat} (hi:i<t.length):tmAt t ((i:Int)+1)=t[i]:=by
 unfold tmAt
 have e1:((i:Int)+1).toNat-1=i:=by omega
 rw[if_pos (by omega),e1,List.getD_eq_getElem?_getD,List.getElem?_eq_getElem hi]
 rfl
theorem mem_idsP {t:TmT} {q:Int×Int->Bool} {id:Int}:id∈idsP t q↔∃x,tmAt t id=some x/\q x=true:=by
 unfold idsP
 rw[List.mem_map]
 constructor
 ·rintro⟨i,hi,rfl⟩
  rw[List.mem_filter]at hi
  obtain⟨h1,h2⟩:=hi
  have h1:=List.mem_range.1 h1
  rw[tmAt_get h1]
  rw[List.getD_eq_getElem?_getD,List.getElem?_eq_getElem h1,Option.getD_some]at h2
  cases h3:t[i]with
  | none=>rw[h3]at h2;simp at h2
  | some x=>rw[h3]at h2;exact⟨x,rfl,h2⟩
 ·rintro⟨x,hx,hq⟩
  have hr:=tmAt_in hx
  have hlt:id.toNat-1<t.length:=by omega
  refine⟨id.toNat-1,?_,by omega⟩
  rw[List.mem_filter]
  refine⟨List.mem_range.2 hlt,?_⟩
  have e:((id.toNat-1:Nat):Int)+1=id:=by omega
  have:=tmAt_get hlt
  rw[e,hx]at this
  rw[List.getD_eq_getElem?_getD,List.getElem?_eq_getElem hlt,Option.getD_some,<-this]
  exact hq
theorem nd_idsP (t:TmT) (q:Int×Int->Bool):(idsP t q).Nodup:=by
 unfold idsP
 refine List.Pairwise.map _ (R:=fun(a b:Nat)=>a≠b) (fun a b h=>by omega) ?_
 exact(List.nodup_range).filter _
def whF (t:TmT) (c:Int):Int->Option Int:=fun id=>match tmAt t id with
 | some p=>if p.1=c then some p.2 else none
 | none=>none
theorem whF_some {t:TmT} {c id d:Int}:whF t c id=some d↔tmAt t id=some (c,d):=by
 unfold whF
 cases h:tmAt t id with
 | none=>simp
 | some p=>
  obtain⟨a,b⟩:=p
  simp only
  split
  ·rename_i e
   subst e
   simp
  ·rename_i e
   simp[e]
theorem sort_is {t:TmT} {c:Int} {q:Int×Int->Bool} (hq:∀x,q x=true->x.1=c) {r:List Int} (hn:r.Nodup) (hm:∀id,id∈r↔∃x,tmAt t id=some x/\q x=true):sortK (fun id=>(whF t c id).getD 0) r=sortK (dueK t) (idsP t q):=by
 have hp:r.Perm (idsP t q):=(List.perm_ext_iff_of_nodup hn (nd_idsP t q)).2 fun id=>by rw[hm,mem_idsP]
 rw[sortK_eq hp]
 refine sortK_congr fun id hid=>?_
 obtain⟨x,hx,hqx⟩:=mem_idsP.1 hid
 unfold dueK whF
 rw[hx]
 simp[hq x hqx]
end Go.Dav
namespace Go.Dav
open Go.Proofs
theorem tmM:MapT Tryz.prog 78 3 3 (.int .i64 0):=⟨by kernel_rfl,by kernel_rfl,by kernel_rfl,by kernel_rfl⟩
theorem elW:ElemT Tryz.prog 183 181 1 8 [.pointer none]:=⟨by kernel_rfl,by kernel_rfl,rfl,by omega⟩
def tmE (b2 bm:Nat) (p:Option Addr) (n c:Nat):List Value:=[.pointer (some ⟨b2,0,none⟩),.slice p n c,.map (some bm)]
abbrev TmW (b b2 bm:Nat):Ob (List (Int×DuF)):=Tq WlO b 185 181 (tmE b2 bm)
abbrev TmP (b b2 bm:Nat):Ob ((List Bool×List (Int×DuF))×DuM):=Star (Star (SlO b2) (TmW b b2 bm)) (MapO bm (Value.int .i64))
def TqP {σ:Type} (A:Nat->Ob σ) (b:Nat) (T E:TypeId) (enc:Option Addr->Nat->Nat->List Value) (p:Option Addr) (c:Nat):Ob (List σ):=fun w F x=>∃qs,Star (TqH σ b T E enc) (Fam (At A)) w F ((qs,(p,c)),qs)/\qs.map (·.2)=x
section
variable {σ:Type} {A:Nat->Ob σ} [fa:∀b,Frame (A b)] {b:Nat} {T E:TypeId} {enc:Option Addr->Nat->Nat->List Value} {w w1 w':World} {F:Fp} {x:List σ}
instance Frame.tqp {p:Option Addr} {c:Nat}:Frame (TqP A b T E enc p c) where
 upd:=fun⟨qs,h,r⟩ k hG=>⟨qs,Frame.star.upd h k hG,r⟩
 lt:=fun⟨_,h,_⟩=>Frame.star.lt h
theorem TqP.at {p:Option Addr} {c:Nat} (h:TqP A b T E enc p c w F x) {i:Nat} (hi:i<x.length):∃a bi F1,p=some a/\Blk w b (enc p x.length c) T/\w.cell? (a.add (i*1))=some (.pointer (some ⟨bi,0,none⟩))/\A bi w F1 x[i]/\
  ∀w' s',Turn (A bi) w w' F1 s'->Turn (TqP A b T E enc p c) w w' F (x.set i s'):=by
 obtain⟨qs,h,rfl⟩:=h
 have hi':i<qs.length:=by simpa using hi
 obtain⟨G1,h1,_⟩:=h.left
 obtain⟨G2,h2,k2⟩:=h.right
 simp only at h1 h2
 obtain⟨a,ha,hc⟩:=h1.sl.cells.at1 (f:=ptV) (l:=qs) hi'
 simp only at ha
 subst ha
 obtain⟨F1,q1,_,q2⟩:=Fam.at h2 hi'
 refine⟨a,qs[i].1,F1,rfl,by rw[List.length_map];exact h1.blk,hc,by rw[List.getElem_map];exact q1,fun w' s' hT=>?_⟩
 obtain⟨F1',t1,t2,t3⟩:=hT
 have hk:=k2 _ _ (q2 w' (qs[i].1,s') ⟨F1',t1,t2,t3⟩)
 obtain⟨F',⟨H1,H2,u1,u2,u3,u4⟩,v2,v3⟩:=hk
 simp only at u1 u2
 have e1:(qs.set i (qs[i].1,s')).map (ptV (σ:=σ))=qs.map ptV:=by
  rw[List.map_set]
  show(qs.map ptV).set i (ptV qs[i])=qs.map ptV
  apply List.ext_getElem?
  intro j
  rw[List.getElem?_set]
  by_cases hj:i=j
  ·subst hj;simp[hi']
  ·simp[hj]
 refine⟨F',⟨qs.set i (qs[i].1,s'),⟨H1,H2,?_,u2,u3,u4⟩,?_⟩,v2,v3⟩
 ·obtain⟨a1,a2,a3,a4⟩:=u1
  refine⟨?_,?_,a3,a4⟩
  ·simp only[List.length_set];exact a1
  ·simp only[List.length_set];rw[e1];exact a2
 ·rw[List.map_set]
end
abbrev TmQ (b b2 bm:Nat) (p:Option Addr) (c:Nat):Ob ((List Bool×List (Int×DuF))×DuM):=Star (Star (SlO b2) (TqP WlO b 185 181 (tmE b2 bm) p c)) (MapO bm (Value.int .i64))
theorem TmP.fix {b b2 bm:Nat} {w:World} {F:Fp} {s:(List Bool×List (Int×DuF))×DuM} (h:TmP b b2 bm w F s):∃p c,TmQ b b2 bm p c w F s:=by
 obtain⟨F1,F2,⟨G1,G2,g1,⟨y,qs,hq,e⟩,g3,g4⟩,h2,h3,h4⟩:=h
 exact⟨y.1,y.2,F1,F2,⟨G1,G2,g1,⟨qs,hq,e⟩,g3,g4⟩,h2,h3,h4⟩
theorem TmQ.loose {b b2 bm:Nat} {w:World} {F:Fp} {s:(List Bool×List (Int×DuF))×DuM} {p:Option Addr} {c:Nat} (h:TmQ b b2 bm p c w F s):TmP b b2 bm w F s:=by
 obtain⟨F1,F2,⟨G1,G2,g1,⟨qs,hq,e⟩,g3,g4⟩,h2,h3,h4⟩:=h
 exact⟨F1,F2,⟨G1,G2,g1,⟨(p,c),qs,hq,e⟩,g3,g4⟩,h2,h3,h4⟩
structure TmR (x:TmS) (o:List Bool) (ws:List (Int×DuF)) (m:DuM):Prop where
 o:o=x.t.map Option.isSome
 len:ws.length=x.n
 ws:∀i (hi:i<ws.length),ws[i]=(x.now,whF x.t (i:Int))
 mp:∀id,m.1 id=(tmAt x.t id).map Prod.fst
 v:TmV x
def TmO (b:Nat):Ob TmS:=fun w F x=>∃b2 bm o ws m,TmP b b2 bm w F ((o,ws),m)/\TmR x o ws m
instance Frame.tmo (b:Nat):Frame (TmO b) where
 upd:=fun⟨b2,bm,o,ws,m,h,r⟩ k hG=>⟨b2,bm,o,ws,m,Frame.star.upd h k hG,r⟩
 lt:=fun⟨_,_,_,_,_,h,_⟩=>Frame.star.lt h
section
variable {b b2 bm:Nat} {w:World} {F:Fp} {x:TmS} {o:List Bool} {ws:List (Int×DuF)} {m:DuM}
theorem TmP.blk (h:TmP b b2 bm w F ((o,ws),m)):∃p c,Blk w b (tmE b2 bm p ws.length c) 185:=by
 obtain⟨F1,h1,_⟩:=Star.left h
 obtain⟨F2,h2,_⟩:=Star.right h1
 exact h2.blk
theorem TmO.of {W:World} (h:Turn (TmP b b2 bm) W w F ((o,ws),m)) (r:TmR x o ws m):Turn (TmO b) W w F x:=by
 obtain⟨F',h1,h2⟩:=h
 exact⟨F',⟨b2,bm,o,ws,m,h1,r⟩,h2⟩
theorem inT_of {c:Int} (h:inT x c):∃i:Nat,i<x.n/\c=(i:Int):=⟨c.toNat,by unfold inT at h;omega,by unfold inT at h;omega⟩
theorem TmP.wheel {W:World} (h:Turn (TmP b b2 bm) W w F ((o,ws),m)) {i:Nat} (hi:i<ws.length):∃a c bi F1,Blk w b (tmE b2 bm (some a) ws.length c) 185/\w.cell? (a.add (i*1))=some (.pointer (some ⟨bi,0,none⟩))/\WlO bi w F1 ws[i]/\∀w' s',Turn (WlO bi) w w' F1 s'->Turn (TmP b b2 bm) W w' F ((o,ws.set i s'),m):=by
 obtain⟨F1,h1,k1⟩:=Turn.lr h
 obtain⟨a,c,bi,G,hB,hc,hA,kA⟩:=h1.at hi
 exact⟨a,c,bi,G,hB,hc,hA,fun w' s' hT=>k1 _ _ (kA _ _ hT)⟩
theorem tmay_ok {p0:Option Addr} {n c0:Nat} (hB:Blk w b (tmE b2 bm p0 n c0) 185) {l:List Int} {p:Option Addr} {c:Nat} (hc:Cells w p (l.map (Value.int .i64))) (hl:l.length<=10):Calls Tryz.prog 183 #[.pointer (some ⟨b,0,none⟩),.slice p l.length c] w fun e w'=>e=.returned (.int .i64 (if ∀v∈l,0<=v/\v<n then 0 else 3))/\w'=w:=by
 refine u183 ?_
 rw[t183]
 refine⟨fun g=>(by cases g),fun _=>⟨WP_loop okProg (M:=M183) (σ:=Nat) (fun i=>e183_1 (some ⟨b,0,none⟩) p l.length c (l.length:Int) (i:Int)) (fun i w'=>i<=l.length/\(∀j (hj:j<l.length),j<i->0<=l[j]/\l[j]<n)/\w'=w) (fun i _=>l.length-i) 0 ⟨rfl,rfl,rfl,rfl,trivial⟩ ⟨by omega,fun j _ hj=>by omega,rfl⟩ ?_⟩⟩
 rintro i w1 ⟨hi,hall,rfl⟩
 rw[t183_1]
 refine⟨fun g=>?_,fun g=>?_⟩
 ·have g:=of_decide_eq_true g
  have hi':i<l.length:=by omega
  obtain⟨a,ha,hcell⟩:=hc.at1 hi'
  have bad:¬(0<=l[i]/\l[i]<n)->¬∀v∈l,0<=v/\v<(n:Int):=fun h1 h2=>h1 (h2 _ (List.getElem_mem hi'))
  refine⟨⟨by omega,by omega⟩,a,ha,_,hcell,fun g1=>⟨_,rfl,_,_,_,hB.cell rfl,fun g2=>?_,fun g2=>?_⟩,fun g1=>?_⟩
  ·have g2:=of_decide_eq_true g2
   rw[if_neg (bad (by omega))]
   exact⟨rfl,rfl⟩
  ·have g1:=of_decide_eq_false g1
   have g2:=of_decide_eq_false g2
   refine⟨i+1,⟨rfl,rfl,rfl,by rw[w64 (by omega)];rfl,trivial⟩,⟨by omega,fun j hj hji=>?_,rfl⟩,by omega⟩
   by_cases e:j=i
   ·subst e;exact⟨by omega,by omega⟩
   ·exact hall j hj (by omega)
  ·have g1:=of_decide_eq_true g1
   rw[if_neg (bad (by omega))]
   exact⟨rfl,rfl⟩
 ·have g:=of_decide_eq_false g
  rw[if_pos]
  ·exact⟨rfl,rfl⟩
  ·intro v hv
   obtain⟨j,hj,rfl⟩:=List.getElem_of_mem hv
   exact hall j hj (by omega)
theorem may1 {p0:Option Addr} {n c0:Nat} {c:Int} {w1:World} {T:TypeId} (hB:Blk w b (tmE b2 bm p0 n c0) 185) (hN:Newed w w1 (.cells (List.toArray [.int .i64 c]) T (0,0))):Calls Tryz.prog 183 #[.pointer (some ⟨b,0,none⟩),.slice (some ⟨w.heap.size,0,none⟩) 1 1] w1 fun e w'=>e=.returned (.int .i64 (if 0<=c/\c<n then 0 else 3))/\w'=w1:=by
 have:=tmay_ok (hN.keep hB) (l:=[c]) (p:=some ⟨w.heap.size,0,none⟩) (c:=1) (fun j v hv=>⟨_,rfl,hN.blk'.cell hv⟩) (by simp)
 simpa using this
theorem twhere_ok (h:TmO b w F x) (id:Int):Calls Tryz.prog 105 #[.pointer (some ⟨b,0,none⟩),.int .i64 id] w fun e w'=>e=.returned (.tuple #[.int .i64 (whereT x id).1,.bool (whereT x id).2])/\w'=w:=by
 obtain⟨b2,bm,o,ws,m,h,r⟩:=h
 obtain⟨p,c,hB⟩:=TmP.blk h
 obtain⟨Fm,hM,_⟩:=Star.right h
 refine u105 ?_
 rw[t105]
 have hlk:=run_lookup tmM hM id true
 simp only[r.mp,if_true]at hlk
 have e1:((((tmAt x.t id).map Prod.fst).map (Value.int .i64)).getD (.int .i64 0))=.int .i64 (whereT x id).1/\((tmAt x.t id).map Prod.fst).isSome=(whereT x id).2:=by
  unfold whereT
  cases tmAt x.t id<;>exact⟨rfl,rfl⟩
 rw[e1.1,e1.2]at hlk
 exact⟨fun g=>(by cases g),fun _=>⟨_,rfl,_,hB.cell rfl,_,_,hlk,rfl,rfl⟩⟩
theorem twhen_ok (h:TmO b w F x) (id:Int):Calls Tryz.prog 31 #[.pointer (some ⟨b,0,none⟩),.int .i64 id] w fun e w'=>e=.returned (.tuple #[.int .i64 (whenT x id).1,.bool (whenT x id).2])/\w'=w:=by
 refine u31 ?_
 rw[t31]
 refine⟨(twhere_ok h id).mono ?_⟩
 rintro e w1 ⟨rfl,rfl⟩
 obtain⟨b2,bm,o,ws,m,h,r⟩:=h
 cases hq:tmAt x.t id with
 | none=>
  have e1:whereT x id=(0,false):=by unfold whereT;rw[hq]
  have e2:whenT x id=(0,false):=by unfold whenT;rw[hq]
  rw[e1,e2]
  exact⟨_,_,rfl,fun _=>⟨rfl,rfl⟩,fun g=>(by cases g)⟩
 | some p=>
  have e1:whereT x id=(p.1,true):=by unfold whereT;rw[hq]
  have e2:whenT x id=(p.2,true):=by unfold whenT;rw[hq]
  rw[e1,e2]
  have hr:=(r.v.at_ id p hq).1
  have hi:p.1.toNat<ws.length:=by rw[r.len];omega
  obtain⟨a,c,bi,G,hB,hc,hA,_⟩:=TmP.wheel (Turn.same h) hi
  have ew:=r.ws _ hi
  refine⟨_,_,rfl,fun g=>(by cases g),fun _=>⟨_,rfl,_,_,_,hB.cell rfl,⟨hr.1,by rw[r.len];exact hr.2⟩,_,rfl,_,hc,⟨(wwhen_ok hA id).mono ?_⟩⟩⟩
  rintro e w2 ⟨rfl,rfl⟩
  have e3:whF x.t (p.1.toNat:Int) id=some p.2:=by
   rw[whF_some,hq,show(p.1.toNat:Int)=p.1 by omega]
  rw[ew]
  simp only[e3]
  exact⟨_,_,rfl,rfl,trivial⟩
theorem tready_ok (h:TmO b w F x) (c:Int):Calls Tryz.prog 205 #[.pointer (some ⟨b,0,none⟩),.int .i64 c] w fun e w'=>e=.returned (.bool (readyT x c))/\Upd no w w':=by
 obtain⟨b2,bm,o,ws,m,h,r⟩:=h
 obtain⟨p,c0,hB0⟩:=TmP.blk h
 refine u205 ?_
 rw[t205]
 refine⟨fun w1 hN=>⟨(may1 hB0 hN).mono ?_⟩⟩
 rintro e w2 ⟨rfl,rfl⟩
 have hU:=hN.upd no
 unfold readyT
 rw[r.len]
 by_cases hin:inT x c
 ·rw[if_pos (show 0<=c/\c<(x.n:Int)from hin),decide_eq_true hin]
  obtain⟨i,hi,rfl⟩:=inT_of hin
  have hi':i<ws.length:=by rw[r.len];exact hi
  obtain⟨a,c1,bi,G,hB,hc,hA,_⟩:=TmP.wheel (Turn.same (Frame.star.upd h hU (fun _ _ h=>h))) hi'
  rw[r.ws i hi']at hA
  refine⟨_,rfl,fun _=>⟨_,rfl,_,_,_,hB.cell rfl,⟨by omega,by omega⟩,_,rfl,_,hc,⟨(wdue_ok hA).mono ?_⟩⟩,fun g=>(by cases g)⟩
  rintro e w3 ⟨l,q,d,rfl,hC,hU3,_,rr,hl,hnd,hmem⟩
  have e1:l=tmDue x.now x.t (i:Int):=by
   rw[hl]
   refine sort_is (fun y hy=>by simp at hy;exact hy.1) hnd fun id=>?_
   rw[hmem]
   constructor
   ·rintro⟨t,h1,h2⟩
    exact⟨_,whF_some.1 h1,by simp;exact h2⟩
   ·rintro⟨y,h1,h2⟩
    simp at h2
    exact⟨y.2,whF_some.2 (by rw[h1,<-h2.1]),h2.2⟩
  rw[e1]
  refine⟨_,_,_,rfl,?_,hU.and hU3⟩
  simp
 ·rw[if_neg (show ¬(0<=c/\c<(x.n:Int))from hin),decide_eq_false hin]
  exact⟨_,rfl,fun g=>(by cases g),fun _=>⟨rfl,hU⟩⟩
def vAt (v:Option (Int×Int)) (j:Int):Option Int:=match v with
 | some p=>if p.1=j then some p.2 else none
 | none=>none
theorem TmR.set (r:TmR x o ws m) {i:Nat} (hi:i<x.t.length) {v:Option (Int×Int)} (hv:∀p,v=some p->(0<=p.1/\p.1<x.n)/\tickR p.2) {ws':List (Int×DuF)} (hlen:ws'.length=ws.length) (hws:∀j (hj:j<ws'.length),ws'[j]=(x.now,fun id=>if id=(i:Int)+1 then vAt v j else whF x.t j id)) {m':DuM} (hm:∀id,m'.1 id=if id=(i:Int)+1 then v.map Prod.fst else m.1 id):TmR {x with t:=x.t.set i v} (o.set i v.isSome) ws' m':=by
 have ht:=tmAt_set hi v
 refine⟨by rw[r.o,List.map_set],by rw[hlen,r.len],fun j hj=>?_,fun id=>?_,⟨r.v.now,r.v.n,by simpa using r.v.len,fun id p hp=>?_⟩⟩
 ·rw[hws j hj]
  congr 1
  funext id
  unfold whF vAt
  rw[ht]
  by_cases e:id=(i:Int)+1
  ·rw[if_pos e,if_pos e]
   all_goals (cases v<;>rfl)
  ·rw[if_neg e,if_neg e]
 ·rw[hm,ht]
  by_cases e:id=(i:Int)+1
  ·rw[if_pos e,if_pos e]
  ·rw[if_neg e,if_neg e,r.mp]
 ·rw[ht]at hp
  by_cases e:id=(i:Int)+1
  ·rw[if_pos e]at hp
   exact hv p hp
  ·rw[if_neg e]at hp
   exact r.v.at_ id p hp
theorem put_same (t:TmT) (ci k due:Int):gPut (whF t ci) k due=fun id=>if id=k then vAt (some (ci,due)) ci else whF t ci id:=by
 funext id
 unfold gPut vAt
 by_cases e2:id=k
 ·rw[if_pos e2,if_pos e2]
  simp
 ·rw[if_neg e2,if_neg e2]
theorem put_other_Timer {t:TmT} {ci k j:Int} (hk:tmAt t k=none) (due:Int) (h:ci≠j):whF t j=fun id=>if id=k then vAt (some (ci,due)) j else whF t j id:=by
 funext id
 by_cases e2:id=k
 ·subst e2
  rw[if_pos rfl]
  unfold whF vAt
  rw[hk]
  simp[h]
 ·rw[if_neg e2]
theorem set_at {α:Type} {l:List α} {i:Nat} {y:α} {j:Nat} (hj:j<(l.set i y).length):(l.set i y)[j]=if i=j then y else l[j]'(by simpa using hj):=by
 rw[List.getElem_set]
theorem take_free (r:TmR x o ws m):takeE_Slot o=(match freeT x.t with|some i=>((i:Int)+1,0)|none=>(0,5))/\takeS_Slot o=(match freeT x.t with|some i=>o.set i true|none=>o):=by
 have e:o.findIdx? (fun x=>!x)=freeT x.t:=by
  rw[r.o,List.findIdx?_map]
  unfold freeT
  congr 1
  funext y
  cases y<;>rfl
 unfold takeE_Slot takeS_Slot
 rw[e]
 exact⟨rfl,rfl⟩
theorem tarm_ok (hTab:Tab w) (h:TmO b w F x) (c due:Int):Calls Tryz.prog 240 #[.pointer (some ⟨b,0,none⟩),.int .i64 c,.int .i64 due] w fun e w'=>e=.returned (.tuple #[.int .i64 (armE x c due).1,.int .i64 (armE x c due).2])/\Turn (TmO b) w w' F (armS x c due):=by
 have hx:=h
 obtain⟨b2,bm,o,ws,m,h,r⟩:=h
 obtain⟨p,c0,hB0⟩:=TmP.blk h
 refine u240 ?_
 rw[t240]
 refine⟨fun w1 hN=>⟨(may1 hB0 hN).mono ?_⟩⟩
 rintro e w2 ⟨rfl,rfl⟩
 have hU:=hN.upd no
 rw[r.len]
 by_cases hin:inT x c
 ·rw[if_pos (show 0<=c/\c<(x.n:Int)from hin)]
  refine⟨_,rfl,fun g=>(by cases g),fun _=>⟨fun g1=>⟨fun g2=>?_,fun g2=>?_⟩,fun g1=>?_⟩⟩
  ·have g2:=of_decide_eq_true g2
   have e1:armE x c due=(0,2):=by unfold armE;rw[if_pos hin,if_neg (by unfold tickR;omega)]
   have e2:armS x c due=x:=by unfold armS;rw[if_neg (fun hh=>by have:=hh.2;unfold tickR at this;omega)]
   rw[e1,e2]
   exact⟨rfl,Turn.quiet hx hU⟩
  ·have g1:=of_decide_eq_false g1
   have g2:=of_decide_eq_false g2
   have hd:tickR due:=by unfold tickR;omega
   have hT0:Turn (TmP b b2 bm) w w2 F ((o,ws),m):=Turn.quiet h hU
   obtain⟨p2,c2,hB2⟩:=TmP.blk (Frame.star.upd h hU (fun _ _ h=>h))
   obtain⟨Fs,hS,kS⟩:=Turn.ll hT0
   refine⟨_,rfl,_,hB2.cell rfl,⟨(slTake_ok (hTab.no hU) hS).mono ?_⟩⟩
   rintro e w3 ⟨rfl,hT3⟩
   have hTT:=kS _ _ hT3
   obtain⟨q1,q2⟩:=take_free r
   cases hf:freeT x.t with
   | none=>
    rw[hf]at q1 q2
    simp only at q1 q2
    rw[q2]at hTT
    have e1:armE x c due=(0,5):=by unfold armE;rw[if_pos hin,if_pos hd,hf]
    have e2:armS x c due=x:=by unfold armS;rw[if_pos ⟨hin,hd⟩,hf]
    rw[q1,e1,e2]
    exact⟨_,_,rfl,fun _=>⟨rfl,TmO.of hTT r⟩,fun g=>(by cases g)⟩
   | some i=>
    rw[hf]at q1 q2
    simp only at q1 q2
    rw[q2]at hTT
    have e1:armE x c due=((i:Int)+1,0):=by unfold armE;rw[if_pos hin,if_pos hd,hf]
    have e2:armS x c due={x with t:=x.t.set i (some (c,due))}:=by unfold armS;rw[if_pos ⟨hin,hd⟩,hf]
    obtain⟨hi,hfree⟩:=free_at hf
    rw[q1,e1,e2]
    refine⟨_,_,rfl,fun g=>(by cases g),fun _=>?_⟩
    obtain⟨Fm,hM,kM⟩:=hTT.right
    have hB3:∃p c,Blk w3 b (tmE b2 bm p ws.length c) 185:=by
     obtain⟨F',h',_⟩:=hTT
     exact TmP.blk h'
    obtain⟨p3,c3,hB3⟩:=hB3
    obtain⟨w4,hrun,hT4⟩:=run_put tmM hM ((i:Int)+1) c
    refine⟨_,rfl,_,hB3.cell rfl,w4,hrun,?_⟩
    have hTT4:=kM _ _ hT4
    obtain⟨ci,hci,rfl⟩:=inT_of hin
    have hci':ci<ws.length:=by rw[r.len];exact hci
    obtain⟨a,c4,bi,G,hB4,hc4,hA,kA⟩:=TmP.wheel hTT4 hci'
    refine⟨_,rfl,_,_,_,hB4.cell rfl,⟨by omega,(show((ci:Nat):Int)<(ws.length:Int) by omega)⟩,_,rfl,_,hc4,?_⟩
    have hws:=r.ws ci hci'
    rw[hws]at hA
    have hlen48:x.t.length=48:=r.v.len
    refine⟨(wadd_ok hA (id:=(i:Int)+1) (by omega) hd (by unfold whF;simp only;rw[hfree])).mono ?_⟩
    rintro e w5 ⟨rfl,hT5⟩
    refine⟨_,rfl,rfl,TmO.of (kA _ _ hT5) ?_⟩
    refine r.set hi (v:=some (((ci:Nat):Int),due)) (fun p hp=>?_) (by simp) (fun j hj=>?_) (fun id=>?_)
    ·cases hp
     exact⟨hin,hd⟩
    ·rw[set_at hj]
     by_cases e:ci=j
     ·subst e
      rw[if_pos rfl]
      exact congrArg (Prod.mk x.now) (put_same _ _ _ _)
     ·rw[if_neg e,r.ws j]
      exact congrArg (Prod.mk x.now) (put_other_Timer hfree _ (fun h=>e (by omega)))
    ·show(if id=(i:Int)+1 then some ((ci:Nat):Int)else m.1 id)=_
     rfl
  ·have g1:=of_decide_eq_true g1
   have e1:armE x c due=(0,2):=by unfold armE;rw[if_pos hin,if_neg (by unfold tickR;omega)]
   have e2:armS x c due=x:=by unfold armS;rw[if_neg (fun hh=>by have:=hh.2;unfold tickR at this;omega)]
   rw[e1,e2]
   exact⟨rfl,Turn.quiet hx hU⟩
 ·rw[if_neg (show ¬(0<=c/\c<(x.n:Int))from hin)]
  have e1:armE x c due=(0,3):=by unfold armE;rw[if_neg hin]
  have e2:armS x c due=x:=by unfold armS;rw[if_neg (fun hh=>hin hh.1)]
  rw[e1,e2]
  exact⟨_,rfl,fun _=>⟨rfl,Turn.quiet hx hU⟩,fun g=>(by cases g)⟩
theorem has_of (r:TmR x o ws m) {id:Int} {p:Int×Int} (h:tmAt x.t id=some p):hasE_Slot o id=true/\(id.toNat-1)<x.t.length/\((id.toNat-1:Nat):Int)+1=id:=by
 have hr:=tmAt_in h
 have hlt:id.toNat-1<x.t.length:=by omega
 have e:((id.toNat-1:Nat):Int)+1=id:=by omega
 refine⟨?_,hlt,e⟩
 unfold hasE_Slot
 have hg:=tmAt_get hlt
 rw[e,h]at hg
 rw[if_pos hr.1,r.o,List.getD_eq_getElem?_getD,List.getElem?_map,List.getElem?_eq_getElem hlt,<-hg]
 rfl
theorem del_same (t:TmT) (ci k:Int):gDel (whF t ci) k=fun id=>if id=k then vAt none ci else whF t ci id:=rfl
theorem del_other {t:TmT} {k j:Int} {p:Int×Int} (hk:tmAt t k=some p) (h:p.1≠j):whF t j=fun id=>if id=k then vAt none j else whF t j id:=by
 funext id
 by_cases e2:id=k
 ·subst e2
  rw[if_pos rfl]
  unfold whF vAt
  rw[hk]
  simp[h]
 ·rw[if_neg e2]
theorem tcancel_ok (h:TmO b w F x) (id:Int):Calls Tryz.prog 244 #[.pointer (some ⟨b,0,none⟩),.int .i64 id] w fun e w'=>e=.returned (.int .i64 (cancelE x id))/\Turn (TmO b) w w' F (cancelS x id):=by
 refine u244 ?_
 rw[t244]
 refine⟨(twhere_ok h id).mono ?_⟩
 rintro e w1 ⟨rfl,rfl⟩
 have hx:=h
 obtain⟨b2,bm,o,ws,m,h,r⟩:=h
 cases hq:tmAt x.t id with
 | none=>
  have e1:whereT x id=(0,false):=by unfold whereT;rw[hq]
  have e2:cancelE x id=4:=by unfold cancelE;rw[hq]
  have e3:cancelS x id=x:=by unfold cancelS;rw[hq]
  rw[e1,e2,e3]
  exact⟨_,_,rfl,fun g=>(by cases g),fun _=>⟨fun _=>⟨rfl,Turn.same hx⟩,fun g=>(by cases g)⟩⟩
 | some p=>
  have e1:whereT x id=(p.1,true):=by unfold whereT;rw[hq]
  have e2:cancelE x id=0:=by unfold cancelE;rw[hq]
  have e3:cancelS x id={x with t:=x.t.set (id.toNat-1) none}:=by unfold cancelS;rw[hq];rfl
  rw[e1,e2,e3]
  obtain⟨hhas,hlt,eid⟩:=has_of r hq
  have hr:=r.v.at_ id p hq
  refine⟨_,_,rfl,fun g=>(by cases g),fun _=>⟨fun g=>(by cases g),fun _=>?_⟩⟩
  have hT0:Turn (TmP b b2 bm) w1 w1 F ((o,ws),m):=Turn.same h
  obtain⟨p0,c0,hB0⟩:=TmP.blk h
  obtain⟨Fm,hM,kM⟩:=hT0.right
  obtain⟨w2,hrun,hT2⟩:=run_del tmM hM id 3 (0:TypeId)
  have hTT:=kM _ _ hT2
  have hB2:∃p c,Blk w2 b (tmE b2 bm p ws.length c) 185:=by
   obtain⟨F',h',_⟩:=hTT
   exact TmP.blk h'
  obtain⟨p2,c2,hB2⟩:=hB2
  obtain⟨Fs,hS,kS⟩:=Turn.ll hTT
  refine⟨_,rfl,_,hB0.cell rfl,w2,hrun,_,rfl,_,hB2.cell rfl,⟨(slGive_ok hS id).mono ?_⟩⟩
  rintro e w3 ⟨rfl,hT3⟩
  have hTT3:=kS _ _ hT3
  have hi:p.1.toNat<ws.length:=by rw[r.len];have:=hr.1;omega
  obtain⟨a,c4,bi,G,hB4,hc4,hA,kA⟩:=TmP.wheel hTT3 hi
  rw[r.ws _ hi]at hA
  have ep:((p.1.toNat:Nat):Int)=p.1:=by have:=hr.1;omega
  refine⟨_,rfl,_,rfl,_,_,_,hB4.cell rfl,⟨hr.1.1,(show p.1<(ws.length:Int) by rw[r.len];exact hr.1.2)⟩,_,rfl,_,hc4,⟨(wdrop_ok_Wdel hA (id:=id) (d:=p.2) (by rw[whF_some,ep,hq])).mono ?_⟩⟩
  rintro e w4 ⟨rfl,hT4⟩
  refine⟨_,rfl,rfl,?_⟩
  have hfin:=kA _ _ hT4
  have eo:giveS_Slot o id=o.set (id.toNat-1) (none:Option (Int×Int)).isSome:=by
   unfold giveS_Slot
   rw[if_pos hhas]
   rfl
  simp only at hfin
  rw[eo]at hfin
  refine TmO.of hfin (r.set hlt (v:=none) (fun p hp=>by cases hp) (by simp) (fun j hj=>?_) (fun id'=>?_))
  ·rw[set_at hj,eid]
   by_cases e:p.1.toNat=j
   ·subst e
    rw[if_pos rfl]
    exact congrArg (Prod.mk x.now) (del_same _ _ _)
   ·rw[if_neg e,r.ws j]
    exact congrArg (Prod.mk x.now) (del_other hq (fun h=>e (by omega)))
  ·rw[eid]
   rfl
theorem due_list (r:TmR x o ws m) {i:Nat} (hi:i<ws.length) {l:List Int} (h:∃rr:List Int,l=sortK (fun id=>(ws[i].2 id).getD 0) rr/\rr.Nodup/\∀id,id∈rr↔∃t,ws[i].2 id=some t/\t<=ws[i].1):l=tmDue x.now x.t (i:Int):=by
 obtain⟨rr,hl,hnd,hmem⟩:=h
 rw[r.ws i hi]at hl hmem
 rw[hl]
 refine sort_is (fun y hy=>by simp at hy;exact hy.1) hnd fun id=>?_
 rw[hmem]
 constructor
 ·rintro⟨t,h1,h2⟩
  exact⟨_,whF_some.1 h1,by simp;exact h2⟩
 ·rintro⟨y,h1,h2⟩
  simp at h2
  exact⟨y.2,whF_some.2 (by rw[h1,<-h2.1]),h2.2⟩
theorem all_list (r:TmR x o ws m) {i:Nat} (hi:i<ws.length) {l:List Int} (h:∃rr:List Int,l=sortK (fun id=>(ws[i].2 id).getD 0) rr/\rr.Nodup/\∀id,id∈rr↔(ws[i].2 id).isSome=true):l=tmAll x.t (i:Int):=by
 obtain⟨rr,hl,hnd,hmem⟩:=h
 rw[r.ws i hi]at hl hmem
 rw[hl]
 refine sort_is (fun y hy=>by simpa using hy) hnd fun id=>?_
 rw[hmem]
 constructor
 ·intro h1
  cases h2:whF x.t (i:Int) id with
  | none=>simp only[h2]at h1;cases h1
  | some t=>exact⟨_,whF_some.1 h2,by simp⟩
 ·rintro⟨y,h1,h2⟩
  have h2:y.1=(i:Int):=by simpa using h2
  simp only[whF_some.2 (show tmAt x.t id=some ((i:Int),y.2) by rw[h1,<-h2])]
  rfl
theorem mem_due {t:TmT} {now c id:Int} (h:id∈tmDue now t c):∃d,tmAt t id=some (c,d):=by
 unfold tmDue at h
 have:=(sortK_perm _ _).mem_iff.1 h
 obtain⟨y,h1,h2⟩:=mem_idsP.1 this
 simp at h2
 exact⟨y.2,by rw[h1,<-h2.1]⟩
theorem mem_all {t:TmT} {c id:Int} (h:id∈tmAll t c):∃d,tmAt t id=some (c,d):=by
 unfold tmAll at h
 have:=(sortK_perm _ _).mem_iff.1 h
 obtain⟨y,h1,h2⟩:=mem_idsP.1 this
 simp at h2
 exact⟨y.2,by rw[h1,<-h2]⟩
theorem tfire_ok (h:TmO b w F x) (c:Int):Calls Tryz.prog 306 #[.pointer (some ⟨b,0,none⟩),.int .i64 c] w fun e w'=>e=.returned (.tuple #[.int .i64 (fireE x c).1,.int .i64 (fireE x c).2])/\Turn (TmO b) w w' F (fireS x c):=by
 have hx:=h
 obtain⟨b2,bm,o,ws,m,h,r⟩:=h
 obtain⟨p,c0,hB0⟩:=TmP.blk h
 refine u306 ?_
 rw[t306]
 refine⟨fun w1 hN=>⟨(may1 hB0 hN).mono ?_⟩⟩
 rintro e w2 ⟨rfl,rfl⟩
 have hU:=hN.upd no
 rw[r.len]
 by_cases hin:inT x c
 ·rw[if_pos (show 0<=c/\c<(x.n:Int)from hin)]
  obtain⟨i,hi,rfl⟩:=inT_of hin
  have hi':i<ws.length:=by rw[r.len];exact hi
  obtain⟨a,c1,bi,G,hB,hc,hA,_⟩:=TmP.wheel (Turn.same (Frame.star.upd h hU (fun _ _ h=>h))) hi'
  refine⟨_,rfl,fun g=>(by cases g),fun _=>⟨_,rfl,_,_,_,hB.cell rfl,⟨by omega,(show((i:Nat):Int)<(ws.length:Int) by omega)⟩,_,rfl,_,hc,⟨(wdue_ok hA).mono ?_⟩⟩⟩
  rintro e w3 ⟨l,q,d,rfl,hC,hU3,hfr,hl⟩
  have e1:=due_list r hi' hl
  subst e1
  have hU03:=hU.and hU3
  refine⟨_,_,_,rfl,fun g=>?_,fun g=>?_⟩
  ·have g:tmDue x.now x.t (i:Int)=[]:=by
    have:((tmDue x.now x.t (i:Int)).length:Int)=0:=by simpa using g
    exact List.length_eq_zero_iff.1 (by omega)
   have e1:fireE x (i:Int)=(0,12):=by unfold fireE;rw[if_pos hin,g]
   have e2:fireS x (i:Int)=x:=by unfold fireS;rw[if_pos hin,g]
   rw[e1,e2]
   exact⟨rfl,Turn.quiet hx hU03⟩
  ·cases hd:tmDue x.now x.t (i:Int)with
   | nil=>rw[hd]at g;simp at g
   | cons v l'=>
    have hmem:v∈tmDue x.now x.t (i:Int):=by rw[hd];exact List.mem_cons_self
    obtain⟨dv,hv⟩:=mem_due hmem
    have e1:fireE x (i:Int)=(v,0):=by unfold fireE;rw[if_pos hin,hd]
    have e2:fireS x (i:Int)=delT x v:=by unfold fireS;rw[if_pos hin,hd]
    rw[hd]at hC
    have e3:cancelE x v=0:=by unfold cancelE;rw[hv]
    have e4:cancelS x v=delT x v:=by unfold cancelS;rw[hv]
    rw[e1,e2]
    obtain⟨aq,haq,hcell⟩:=hC.at1 (i:=0) (l:=v::l') (by simp)
    have hcell:w3.cell? (aq.add 0)=some (.int .i64 v):=by simpa using hcell
    have hrange:(0:Int)<=0/\(0:Int)<(((v::l').length:Nat):Int):=⟨by omega,by simp⟩
    intro w4 q1 q2 q3 q4
    have hU4:=Upd.same no q1 q2 q3 q4
    have hcell4:w4.cell? (aq.add 0)=some (.int .i64 v):=by unfold World.cell? at hcell⊢;rw[q1];exact hcell
    have hx4:=(Frame.tmo b).upd hx (hU03.and hU4) (fun _ _ h=>h)
    refine⟨hrange,aq,haq,_,hcell4,hrange,aq,haq,_,hcell4,⟨(tcancel_ok hx4 v).mono ?_⟩⟩
    rintro e w5 ⟨rfl,hT5⟩
    rw[e3,e4]at *
    refine⟨_,rfl,?_,rfl,Turn.next hx4 ((hU03.and hU4).mono (fun _ _ h=>h.elim)) (fun _ h=>.inl h) hT5⟩
    obtain⟨F5,_,hU5,_⟩:=hT5
    have hlt:=cell_lt hcell4
    rw[add_block]at hlt
    have hnf:¬F aq.block:=fun hf=>by
     have h1:=hfr aq.block ⟨aq,haq,rfl⟩
     have h2:=(Frame.tmo b).lt hx _ hf
     have:=hU.size
     omega
    unfold World.cell? at hcell4⊢
    rw[add_block]at hcell4⊢
    rw[hU5.blk _ hlt hnf]
    exact hcell4
 ·rw[if_neg (show ¬(0<=c/\c<(x.n:Int))from hin)]
  have e1:fireE x c=(0,3):=by unfold fireE;rw[if_neg hin]
  have e2:fireS x c=x:=by unfold fireS;rw[if_neg hin]
  rw[e1,e2]
  exact⟨_,rfl,fun _=>⟨rfl,Turn.quiet hx hU⟩,fun g=>(by cases g)⟩
theorem tnext_ok (h:TmO b w F x) (c:Int):Calls Tryz.prog 214 #[.pointer (some ⟨b,0,none⟩),.int .i64 c] w fun e w'=>e=.returned (.tuple #[.int .i64 (nextE' x c).1,.int .i64 (nextE' x c).2])/\Upd no w w':=by
 obtain⟨b2,bm,o,ws,m,h,r⟩:=h
 obtain⟨p,c0,hB0⟩:=TmP.blk h
 refine u214 ?_
 rw[t214]
 refine⟨fun w1 hN=>⟨(may1 hB0 hN).mono ?_⟩⟩
 rintro e w2 ⟨rfl,rfl⟩
 have hU:=hN.upd no
 rw[r.len]
 by_cases hin:inT x c
 ·rw[if_pos (show 0<=c/\c<(x.n:Int)from hin)]
  obtain⟨i,hi,rfl⟩:=inT_of hin
  have hi':i<ws.length:=by rw[r.len];exact hi
  obtain⟨a,c1,bi,G,hB,hc,hA,_⟩:=TmP.wheel (Turn.same (Frame.star.upd h hU (fun _ _ h=>h))) hi'
  rw[r.ws i hi']at hA
  refine⟨_,rfl,fun g=>(by cases g),fun _=>⟨_,rfl,_,_,_,hB.cell rfl,⟨by omega,(show((i:Nat):Int)<(ws.length:Int) by omega)⟩,_,rfl,_,hc,⟨(wnext_ok hA).mono ?_⟩⟩⟩
  rintro e w3 ⟨hcase,hU3⟩
  unfold nextE'
  rw[if_pos hin]
  rcases hcase with⟨hnone,rfl⟩|⟨v,t,hv,hmin,rfl⟩
  ·have e1:tmAll x.t (i:Int)=[]:=by
    cases hd:tmAll x.t (i:Int)with
    | nil=>rfl
    | cons v l=>
     obtain⟨d,hd2⟩:=mem_all (t:=x.t) (c:=(i:Int)) (id:=v) (by rw[hd];exact List.mem_cons_self)
     have:=hnone v
     simp only at this
     rw[whF_some.2 hd2]at this
     cases this
   rw[e1]
   exact⟨_,_,rfl,rfl,hU.and hU3⟩
  ·cases hd:tmAll x.t (i:Int)with
   | nil=>
    exfalso
    have:v∈idsP x.t (fun y=>decide (y.1=(i:Int))):=mem_idsP.2 ⟨_,whF_some.1 hv,by simp⟩
    have:=(sortK_perm (dueK x.t) _).mem_iff.2 this
    unfold tmAll at hd
    rw[hd]at this
    cases this
   | cons a' l=>
    obtain⟨d,hd2⟩:=mem_all (t:=x.t) (c:=(i:Int)) (id:=a') (by rw[hd];exact List.mem_cons_self)
    unfold tmAll at hd
    have hh:=(sorted_head hd).2 v (mem_idsP.2 ⟨_,whF_some.1 hv,by simp⟩)
    have h1:=hmin a' d (whF_some.2 hd2)
    have e1:dueK x.t v=t:=by unfold dueK;rw[whF_some.1 hv]
    have e2:dueK x.t a'=d:=by unfold dueK;rw[hd2]
    rw[e1,e2]at hh
    have:t=d:=by omega
    subst this
    simp only[e2]
    exact⟨_,_,rfl,rfl,hU.and hU3⟩
 ·rw[if_neg (show ¬(0<=c/\c<(x.n:Int))from hin)]
  unfold nextE'
  rw[if_neg hin]
  exact⟨_,rfl,fun _=>⟨rfl,hU⟩,fun g=>(by cases g)⟩
theorem tlist_ok_Timer (h:TmO b w F x) (c:Int):Calls Tryz.prog 89 #[.pointer (some ⟨b,0,none⟩),.int .i64 c] w fun e w'=>∃q d,e=.returned (.slice q (tmList x c).length d)/\Cells w' q ((tmList x c).map (Value.int .i64))/\Upd no w w'/\∀j,fpS q j->w.heap.size<=j:=by
 obtain⟨b2,bm,o,ws,m,h,r⟩:=h
 obtain⟨p,c0,hB0⟩:=TmP.blk h
 refine u89 ?_
 rw[t89]
 refine⟨fun w1 hN=>⟨(may1 hB0 hN).mono ?_⟩⟩
 rintro e w2 ⟨rfl,rfl⟩
 have hU:=hN.upd no
 rw[r.len]
 unfold tmList
 by_cases hin:inT x c
 ·rw[if_pos (show 0<=c/\c<(x.n:Int)from hin),if_pos hin]
  obtain⟨i,hi,rfl⟩:=inT_of hin
  have hi':i<ws.length:=by rw[r.len];exact hi
  obtain⟨a,c1,bi,G,hB,hc,hA,_⟩:=TmP.wheel (Turn.same (Frame.star.upd h hU (fun _ _ h=>h))) hi'
  refine⟨_,rfl,fun g=>(by cases g),fun _=>⟨_,rfl,_,_,_,hB.cell rfl,⟨by omega,(show((i:Nat):Int)<(ws.length:Int) by omega)⟩,_,rfl,_,hc,⟨(wall_ok hA).mono ?_⟩⟩⟩
  rintro e w3 ⟨l,q,d,rfl,hC,hU3,hfr,hl⟩
  have e1:=all_list r hi' hl
  subst e1
  exact⟨_,_,_,rfl,q,d,rfl,hC,hU.and hU3,fun j hj=>Nat.le_trans hU.size (hfr j hj)⟩
 ·rw[if_neg (show ¬(0<=c/\c<(x.n:Int))from hin),if_neg hin]
  exact⟨_,rfl,fun _=>⟨none,0,rfl,Cells.nil _ _,hU,fun j ⟨_,h,_⟩=>by cases h⟩,fun g=>(by cases g)⟩
theorem TmQ.wheel {W:World} {p:Option Addr} {c:Nat} (h:Turn (TmQ b b2 bm p c) W w F ((o,ws),m)) {i:Nat} (hi:i<ws.length):∃a bi F1,p=some a/\Blk w b (tmE b2 bm p ws.length c) 185/\w.cell? (a.add (i*1))=some (.pointer (some ⟨bi,0,none⟩))/\WlO bi w F1 ws[i]/\∀w' s',Turn (WlO bi) w w' F1 s'->Turn (TmQ b b2 bm p c) W w' F ((o,ws.set i s'),m):=by
 obtain⟨F1,h1,k1⟩:=Turn.lr h
 obtain⟨a,bi,G,hp,hB,hc,hA,kA⟩:=h1.at hi
 exact⟨a,bi,G,hp,hB,hc,hA,fun w' s' hT=>k1 _ _ (kA _ _ hT)⟩
theorem tgo_ok (h:TmO b w F x) (t:Int):Calls Tryz.prog 124 #[.pointer (some ⟨b,0,none⟩),.int .i64 t] w fun e w'=>e=.returned (.int .i64 (goE x t))/\Turn (TmO b) w w' F (goS x t):=by
 obtain⟨b2,bm,o,ws,m,h,r⟩:=h
 obtain⟨p,c0,hq⟩:=TmP.fix h
 have hn:1<=ws.length:=by rw[r.len];exact r.v.n.1
 have hwl:ws.length<=64:=by rw[r.len];exact r.v.n.2
 obtain⟨_,_,_,_,hB0,_⟩:=TmQ.wheel (Turn.same hq) (i:=0) (by omega)
 refine u124 ?_
 rw[t124]
 refine⟨(tmay_ok hB0 (l:=[]) (p:=none) (c:=0) (Cells.nil _ _) (by simp)).mono ?_⟩
 rintro e w1 ⟨rfl,rfl⟩
 rw[if_pos (by simp)]
 refine⟨_,rfl,fun g=>(by cases g),fun _=>⟨_,rfl,p,ws.length,c0,hB0.cell rfl,?_⟩⟩
 refine⟨WP_loop okProg (M:=M124) (σ:=Nat) (fun i=>e124_1 t (if i=0 then 0 else goE x t) p ws.length c0 (ws.length:Int) (i:Int))
  (fun i w'=>i<=ws.length/\∃vs:List (Int×DuF),Turn (TmQ b b2 bm p c0) w1 w' F ((o,vs),m)/\vs.length=ws.length/\∀j (hj:j<vs.length),vs[j]=if j<i then((goS x t).now,whF x.t (j:Int))else(x.now,whF x.t (j:Int))) (fun i _=>ws.length-i) 0 ⟨rfl,rfl,rfl,rfl,rfl,trivial⟩ ⟨by omega,ws,Turn.same hq,rfl,fun j hj=>by rw[if_neg (by omega)];exact r.ws j hj⟩ ?_⟩
 rintro i w2 ⟨hi,vs,hT,hl,hvs⟩
 rw[t124_1]
 refine⟨fun g=>?_,fun g=>?_⟩
 ·have g:=of_decide_eq_true g
  have hi':i<vs.length:=by omega
  obtain⟨a,bi,G,hp,hB,hc,hA,kA⟩:=TmQ.wheel hT hi'
  have ev:=hvs i hi'
  rw[if_neg (by omega)]at ev
  rw[ev]at hA
  refine⟨⟨by omega,by omega⟩,a,hp,_,hc,⟨(wgo_ok hA t).mono ?_⟩⟩
  rintro e w3 ⟨rfl,hT3⟩
  have hT4:=kA _ _ hT3
  have e1:(if x.now<=t/\tickR t then(0:Int)else 2)=goE x t:=rfl
  have e2:(if x.now<=t/\tickR t then(t,whF x.t (i:Int))else(x.now,whF x.t (i:Int)))=((goS x t).now,whF x.t (i:Int)):=by
   unfold goS goE
   by_cases hc:x.now<=t/\tickR t
   ·rw[if_pos hc,if_pos hc,if_pos rfl]
   ·rw[if_neg hc,if_neg hc,if_neg (by decide)]
  simp only[e1]
  simp only[e2]at hT4
  refine⟨_,rfl,i+1,⟨rfl,by rw[if_neg (by omega)];rfl,rfl,rfl,by rw[w64 (by omega)];rfl,trivial⟩,⟨by omega,_,hT4,by simpa using hl,fun j hj=>?_⟩,by omega⟩
  rw[set_at hj]
  by_cases e:i=j
  ·subst e
   rw[if_pos rfl,if_pos (by omega)]
  ·rw[if_neg e,hvs j]
   by_cases h1:j<i
   ·rw[if_pos h1,if_pos (by omega)]
   ·rw[if_neg h1,if_neg (by omega)]
 ·have g:=of_decide_eq_false g
  have:i=ws.length:=by omega
  subst this
  rw[if_neg (by omega)]
  refine⟨rfl,?_⟩
  have hT':Turn (TmP b b2 bm) w1 w2 F ((o,vs),m):=by
   obtain⟨F',h1,h2⟩:=hT
   exact⟨F',TmQ.loose h1,h2⟩
  refine TmO.of hT' ?_
  have et:(goS x t).t=x.t/\(goS x t).n=x.n:=by unfold goS;split<;>exact⟨rfl,rfl⟩
  refine⟨by rw[et.1];exact r.o,by rw[hl,r.len,et.2],fun j hj=>?_,fun id=>by rw[et.1];exact r.mp id,⟨?_,by rw[et.2];exact r.v.n,by rw[et.1];exact r.v.len,fun id p hp=>?_⟩⟩
  ·rw[hvs j hj,if_pos (by omega),et.1]
  ·unfold goS
   by_cases hg:goE x t=0
   ·rw[if_pos hg]
    unfold goE at hg
    by_cases hc:x.now<=t/\tickR t
    ·exact hc.2
    ·rw[if_neg hc]at hg;cases hg
   ·rw[if_neg hg];exact r.v.now
  ·rw[et.1]at hp
   rw[et.2]
   exact r.v.at_ id p hp
theorem tmove_ok (h:TmO b w F x) (f t:Int):Calls Tryz.prog 357 #[.pointer (some ⟨b,0,none⟩),.int .i64 f,.int .i64 t] w fun e w'=>e=.returned (.tuple #[.int .i64 (tmMoveE x f t).1,.int .i64 (tmMoveE x f t).2])/\Turn (TmO b) w w' F (tmMoveS x f t):=by
 have hx:=h
 obtain⟨b2,bm,o,ws,m,h,r⟩:=h
 obtain⟨p,c0,hB0⟩:=TmP.blk h
 refine u357 ?_
 rw[t357]
 refine⟨fun w1 hN=>?_⟩
 have hU1:=hN.upd no
 have hmay:=tmay_ok (hN.keep hB0) (l:=[f,t]) (p:=some ⟨w.heap.size,0,none⟩) (c:=2) (fun j v hv=>⟨_,rfl,hN.blk'.cell hv⟩) (by simp)
 refine⟨hmay.mono ?_⟩
 rintro e w2 ⟨rfl,rfl⟩
 rw[r.len]
 have eall:(∀v∈[f,t],0<=v/\v<(x.n:Int))↔(inT x f/\inT x t):=by
  unfold inT
  simp
 by_cases hin:inT x f/\inT x t
 ·rw[if_pos (eall.2 hin)]
  have hx1:=(Frame.tmo b).upd hx hU1 (fun _ _ h=>h)
  refine⟨_,rfl,fun g=>(by cases g),fun _=>⟨(tlist_ok_Timer hx1 f).mono ?_⟩⟩
  rintro e w3 ⟨q,d,rfl,hC,hU3,hfr⟩
  have hU13:=hU1.and hU3
  have el:tmList x f=tmAll x.t f:=by unfold tmList;rw[if_pos hin.1]
  rw[el]at hC⊢
  refine⟨_,_,_,rfl,fun g=>?_,fun g=>⟨fun g2=>?_,fun g2=>?_⟩⟩
  ·have g:f=t:=by simpa using g
   have e1:tmMoveE x f t=(0,2):=by unfold tmMoveE;rw[if_pos hin,if_pos g]
   have e2:tmMoveS x f t=x:=by unfold tmMoveS;rw[if_neg (fun hh=>hh.2.2 g)]
   rw[e1,e2]
   exact⟨rfl,Turn.quiet hx hU13⟩
  ·have g:f≠t:=by simpa using g
   have g2:tmAll x.t f=[]:=by
    have:((tmAll x.t f).length:Int)=0:=by simpa using g2
    exact List.length_eq_zero_iff.1 (by omega)
   have e1:tmMoveE x f t=(0,12):=by unfold tmMoveE;rw[if_pos hin,if_neg g,g2]
   have e2:tmMoveS x f t=x:=by unfold tmMoveS;rw[if_pos ⟨hin.1,hin.2,g⟩,g2]
   rw[e1,e2]
   exact⟨rfl,Turn.quiet hx hU13⟩
  ·have g:f≠t:=by simpa using g
   cases hd:tmAll x.t f with
   | nil=>rw[hd]at g2;simp at g2
   | cons v l'=>
    obtain⟨dv,hv⟩:=mem_all (t:=x.t) (c:=f) (id:=v) (by rw[hd];exact List.mem_cons_self)
    have edue:dueK x.t v=dv:=by unfold dueK;rw[hv]
    have e1:tmMoveE x f t=(v,0):=by unfold tmMoveE;rw[if_pos hin,if_neg g,hd]
    have e2:tmMoveS x f t={x with t:=x.t.set (v.toNat-1) (some (t,dv))}:=by unfold tmMoveS;rw[if_pos ⟨hin.1,hin.2,g⟩,hd];simp only[edue]
    rw[e1,e2]
    rw[hd]at hC
    obtain⟨hhas,hlt,eid⟩:=has_of r hv
    have hrv:=r.v.at_ v _ hv
    obtain⟨aq,haq,hcell⟩:=hC.at1 (i:=0) (l:=v::l') (by simp)
    have hcell:w3.cell? (aq.add 0)=some (.int .i64 v):=by simpa using hcell
    have hx3:=(Frame.tmo b).upd hx hU13 (fun _ _ h=>h)
    refine⟨⟨by omega,by simp⟩,aq,haq,_,hcell,⟨(twhen_ok hx3 v).mono ?_⟩⟩
    rintro e w4 ⟨rfl,rfl⟩
    have e3:whenT x v=(dv,true):=by unfold whenT;rw[hv]
    rw[e3]
    have hT0:Turn (TmP b b2 bm) w w4 F ((o,ws),m):=Turn.quiet h hU13
    obtain⟨fi,hfi,rfl⟩:=inT_of hin.1
    obtain⟨ti,hti,rfl⟩:=inT_of hin.2
    have hfi':fi<ws.length:=by rw[r.len];exact hfi
    have hti':ti<ws.length:=by rw[r.len];exact hti
    have hne:fi≠ti:=fun e=>g (by rw[e])
    obtain⟨a4,c4,bi,G,hB4,hc4,hA,kA⟩:=TmP.wheel hT0 hfi'
    rw[r.ws _ hfi']at hA
    refine⟨_,_,rfl,_,rfl,_,_,_,hB4.cell rfl,⟨by omega,(show((fi:Nat):Int)<(ws.length:Int) by omega)⟩,_,rfl,_,hc4,⟨(wdrop_ok_Wdel hA (id:=v) (d:=dv) (by rw[whF_some,hv])).mono ?_⟩⟩
    rintro e w5 ⟨rfl,hT5⟩
    have hTT5:=kA _ _ hT5
    obtain⟨Fm,hM,kM⟩:=hTT5.right
    have hB5:∃p c,Blk w5 b (tmE b2 bm p (ws.set fi (x.now,gDel (whF x.t (fi:Int)) v)).length c) 185:=by
     obtain⟨F',h',_⟩:=hTT5
     exact TmP.blk h'
    obtain⟨p5,c5,hB5⟩:=hB5
    obtain⟨w6,hrun,hT6⟩:=run_put tmM hM v ((ti:Nat):Int)
    have hTT6:=kM _ _ hT6
    have hti6:ti<(ws.set fi (x.now,gDel (whF x.t (fi:Int)) v)).length:=by simpa using hti'
    obtain⟨a6,c6,bi6,G6,hB6,hc6,hA6,kA6⟩:=TmP.wheel hTT6 hti6
    rw[set_at,if_neg hne,r.ws ti hti']at hA6
    have hnone:whF x.t ((ti:Nat):Int) v=none:=by
     unfold whF
     rw[hv]
     simp only
     rw[if_neg (by omega)]
    have h48:x.t.length=48:=r.v.len
    refine⟨_,rfl,_,rfl,_,hB5.cell rfl,w6,hrun,_,rfl,_,_,_,hB6.cell rfl,⟨by omega,(show((ti:Nat):Int)<((ws.set fi (x.now,gDel (whF x.t (fi:Int)) v)).length:Int) by simp;omega)⟩,_,rfl,_,hc6,⟨(wadd_ok hA6 (id:=v) (by omega) hrv.2 hnone).mono ?_⟩⟩
    rintro e w7 ⟨rfl,hT7⟩
    refine⟨_,rfl,rfl,?_⟩
    have hfin:=kA6 _ _ hT7
    have eo:o=o.set (v.toNat-1) (some (((ti:Nat):Int),dv)).isSome:=by
     apply List.ext_getElem?
     intro j
     rw[List.getElem?_set]
     by_cases hj:v.toNat-1=j
     ·subst hj
      have hol:v.toNat-1<o.length:=by rw[r.o];simpa using hlt
      rw[if_pos rfl,if_pos hol]
      unfold hasE_Slot at hhas
      rw[if_pos (by omega),List.getD_eq_getElem?_getD,List.getElem?_eq_getElem hol]at hhas
      rw[List.getElem?_eq_getElem hol]
      simpa using hhas
     ·rw[if_neg hj]
    simp only at hfin
    rw[eo]at hfin
    refine TmO.of hfin (r.set hlt (v:=some (((ti:Nat):Int),dv)) (fun p hp=>by cases hp;exact⟨hin.2,hrv.2⟩) (by simp) (fun j hj=>?_) (fun id'=>?_))
    ·rw[set_at hj,eid]
     by_cases e:ti=j
     ·subst e
      rw[if_pos rfl]
      exact congrArg (Prod.mk x.now) (put_same _ _ _ _)
     ·rw[if_neg e,set_at]
      by_cases e5:fi=j
      ·subst e5
       rw[if_pos rfl]
       refine congrArg (Prod.mk x.now) ?_
       funext id'
       unfold gDel vAt
       by_cases e6:id'=v
       ·rw[if_pos e6,if_pos e6]
        simp only
        rw[if_neg (by omega)]
       ·rw[if_neg e6,if_neg e6]
      ·rw[if_neg e5,r.ws j]
       refine congrArg (Prod.mk x.now) ?_
       funext id'
       by_cases e6:id'=v
       ·subst e6
        rw[if_pos rfl]
        unfold whF vAt
        rw[hv]
        simp only
        rw[if_neg (by omega),if_neg (by omega)]
       ·rw[if_neg e6]
    ·rw[eid]
     rfl
 ·rw[if_neg (fun hh=>hin (eall.1 hh))]
  have e1:tmMoveE x f t=(0,3):=by unfold tmMoveE;rw[if_neg hin]
  have e2:tmMoveS x f t=x:=by unfold tmMoveS;rw[if_neg (fun hh=>hin ⟨hh.1,hh.2.1⟩)]
  rw[e1,e2]
  exact⟨_,rfl,fun _=>⟨rfl,Turn.quiet hx hU1⟩,fun g=>(by cases g)⟩
end
theorem Star.rot {σ τ υ:Type} {A:Ob σ} {B:Ob τ} {C:Ob υ} {w:World} {F:Fp} {a:σ} {b:τ} {c:υ} (h:Star (Star A B) C w F ((a,b),c)):Star (Star A C) B w F ((a,c),b):=by
 obtain⟨F1,F2,⟨G1,G2,g1,g2,g3,g4⟩,h2,h3,h4⟩:=h
 refine⟨fun i=>G1 i∨F2 i,G2,⟨G1,F2,g1,h2,fun _=>Iff.rfl,fun i hi hf=>h4 i ((g3 i).2 (.inl hi)) hf⟩,g2,fun i=>?_,fun i hi hf=>?_⟩
 ·rw[h3 i,g3 i]
  constructor
  ·rintro((h|h)|h)
   ·exact .inl (.inl h)
   ·exact .inr h
   ·exact .inl (.inr h)
  ·rintro((h|h)|h)
   ·exact .inl (.inl h)
   ·exact .inr h
   ·exact .inl (.inr h)
 ·rcases hi with hi|hi
  ·exact g4 i hi hf
  ·exact h4 i ((g3 i).2 (.inr hf)) hi
def newT_Timer (n:Nat):TmS:=⟨0,n,List.replicate 48 none⟩
theorem tnew_ok_Timer (n:Nat) (hn:1<=n/\n<=64) (w:World):Calls Tryz.prog 38 #[.int .i64 (n:Int)] w fun e w'=>∃b F,e=.returned (.tuple #[.pointer (some ⟨b,0,none⟩),.int .i64 0])/\TmO b w' F (newT_Timer n)/\Upd no w w'/\∀i,F i->w.heap.size<=i:=by
 refine u38 ?_
 rw[t38]
 refine⟨fun g1=>⟨fun g2=>?_,fun g2=>?_⟩,fun g1=>?_⟩
 ·have:=of_decide_eq_true g2;omega
 ·refine⟨(slNew_ok 48 w).mono ?_⟩
  rintro e w1 hh
  obtain⟨_,b2,F1,rfl,hQ,hU,hF⟩:=hh.resolve_left (fun h=>absurd (by omega) h.1)
  have hM:Mine w w1 (SlO b2) (List.replicate 48 false):=Mine.new (Upd.refl _ _) hU hQ hF
  clear hU hQ hF
  refine⟨_,_,rfl,fun g=>by simp at g,fun _=>⟨fun w2 hN2=>⟨fun w3 hN=>?_⟩⟩⟩
  replace hM:Mine w w2 (Star (SlO b2) (MapO w1.heap.size (Value.int .i64))) (List.replicate 48 false,(fun _=>none,0)):=hM.add (hN2.upd no) (MapO.new hN2) (fun i hi=>Nat.le_of_eq hi.symm)
  generalize w1.heap.size=bm at hM hN⊢
  replace hM:Mine w w3 (Star (Star (SlO b2) (MapO bm (Value.int .i64))) (TmW w2.heap.size b2 bm)) ((List.replicate 48 false,(fun _=>none,0)),[]):=hM.add (hN.upd no) (Tq.nil hN rfl) (fun i hi=>Nat.le_of_eq hi.symm)
  generalize w2.heap.size=b at hM⊢
  refine⟨WP_loop okProg (M:=M38) (σ:=Nat) (fun j=>e38_1 (some ⟨b,0,none⟩) (n:Int) (j:Int)) (fun j w'=>j<=n/\Mine w w' (Star (Star (SlO b2) (MapO bm (Value.int .i64))) (TmW b b2 bm)) ((List.replicate 48 false,(fun _=>none,0)),List.replicate j ((0:Int),(fun _=>none:DuF)))) (fun j _=>n-j) 0 ⟨rfl,rfl,rfl,trivial⟩ ⟨by omega,hM⟩ ?_⟩
  clear hM hN
  rintro j w3 ⟨j1,hM⟩
  rw[t38_1]
  refine⟨fun g=>?_,fun g=>?_⟩
  ·have hj:j<n:=by simp at g;omega
   refine⟨(wnew_ok_Wheel w3).mono ?_⟩
   rintro e w4 ⟨bq,G,rfl,hQ,hU,hG⟩
   obtain⟨F2,hA,hT⟩:=hM.right
   obtain⟨p,c,hB,hgo⟩:=Tq.push elW (k:=1) (fun _ _ _ _ _ _=>rfl) (fun _ _ _=>by simp[tmE]) hA (by simp;omega) hU hQ hG
   refine⟨_,_,rfl,fun g=>by simp at g,fun _=>⟨_,rfl,_,_,_,hB.cell rfl,⟨fun w5 hN=>?_⟩⟩⟩
   obtain⟨p',c',w6,hr,hK⟩:=hgo w5 hN 183
   refine⟨_,_,_,w6,hr,_,rfl,hK _ fun w7 h7=>?_⟩
   have h8:=hT _ _ h7
   refine⟨j+1,⟨rfl,rfl,by rw[w64 (by omega)];rfl,trivial⟩,⟨by omega,?_⟩,by omega⟩
   rw[List.replicate_succ' (n:=j)]
   exact h8
  ·have:j=n:=by simp at g;omega
   subst this
   obtain⟨F,hF1,hF2,hF3⟩:=hM
   refine⟨b,F,rfl,⟨b2,bm,_,_,_,Star.rot hF1,?_⟩,hF2,hF3⟩
   refine⟨by simp[newT_Timer],by simp[newT_Timer],fun i hi=>?_,fun id=>?_,⟨by show tickR 0;unfold tickR;decide,hn,by simp[newT_Timer],fun id p hp=>?_⟩⟩
   ·have e:whF (newT_Timer j).t (i:Int)=fun _=>none:=by
     funext id
     unfold whF newT_Timer
     rw[tmAt_new]
    rw[e]
    simp[newT_Timer]
   ·unfold newT_Timer
    rw[tmAt_new]
    rfl
   ·unfold newT_Timer at hp
    rw[tmAt_new]at hp
    cases hp
 ·have:=of_decide_eq_true g1;omega
end Go.Dav
namespace Go.Dav
open Go.Proofs
theorem nwithin_ok (n m:Int) (w:World):Calls Tryz.prog 225 #[.int .i64 n,.int .i64 m] w fun e w'=>e=.returned (.bool (decide (0<=n/\n<=m)))/\w'=w:=by
 refine u225 ?_
 rw[t225]
 refine⟨fun g=>⟨?_,rfl⟩,fun g=>⟨?_,rfl⟩⟩
 ·have g:=of_decide_eq_true g
  congr 2
  simp only[decide_eq_decide]
  omega
 ·have g:=of_decide_eq_false g
  congr 2
  simp only[Bool.false_eq,decide_eq_false_iff_not]
  omega
theorem fit_ok (n:Int) (b:Bool) (w:World):Calls Tryz.prog 226 #[.int .i64 n,.bool b] w fun e w'=>e=.returned (.tuple #[.int .i64 (if b then n else 0),.int .i64 (if b then 0 else 16)])/\w'=w:=by
 refine u226 ?_
 rw[t226]
 cases b
 ·exact⟨fun _=>⟨rfl,rfl⟩,fun g=>(by cases g)⟩
 ·exact⟨fun g=>(by cases g),fun _=>⟨rfl,rfl⟩⟩
theorem later_ok (a d:Int) (w:World):Calls Tryz.prog 122 #[.int .i64 a,.int .i64 d] w fun e w'=>e=.returned (.tuple #[.int .i64 (laterE a d).1,.int .i64 (laterE a d).2])/\w'=w:=by
 refine u122 ?_
 rw[t122]
 refine⟨(nwithin_ok _ _ w).mono ?_⟩
 rintro e w1 ⟨rfl,rfl⟩
 refine⟨_,rfl,fun g1=>⟨(nwithin_ok _ _ w1).mono ?_⟩,fun g1=>?_⟩
 ·have g1:0<=a/\a<=1152921504606846976:=by simpa using g1
  rintro e w2 ⟨rfl,rfl⟩
  refine⟨_,rfl,fun g2=>?_,fun g2=>⟨(fit_ok _ _ w2).mono ?_⟩⟩
  ·have g2:¬(0<=d/\d<=1073741824):=fun hh=>by rw[decide_eq_true hh]at g2;cases g2
   have e0:laterE a d=(0,2):=by unfold laterE;rw[if_neg (fun h=>g2 h.2)]
   rw[e0];exact⟨rfl,rfl⟩
  ·have g2:0<=d/\d<=1073741824:=by simpa using g2
   rintro e w3 ⟨rfl,rfl⟩
   refine⟨_,_,rfl,?_,rfl⟩
   rw[w64 (x:=a+d) (by omega),w64 (x:=1152921504606846976-d) (by omega)]
   have hc:(0<=a/\a<=1152921504606846976)/\(0<=d/\d<=1073741824):=⟨g1,g2⟩
   by_cases h:a<=1152921504606846976-d
   ·have e0:laterE a d=(a+d,0):=by unfold laterE;rw[if_pos hc,if_pos h]
    rw[e0,decide_eq_true h];rfl
   ·have e0:laterE a d=(0,16):=by unfold laterE;rw[if_pos hc,if_neg h]
    rw[e0,decide_eq_false h];rfl
 ·have g1:¬(0<=a/\a<=1152921504606846976):=fun hh=>by rw[decide_eq_true hh]at g1;cases g1
  have e0:laterE a d=(0,2):=by unfold laterE;rw[if_neg (fun h=>g1 h.1)]
  rw[e0];exact⟨rfl,rfl⟩
theorem wrap_fit (x:Int):fitI (IntKind.wrap .i64 x):=by
 unfold fitI IntKind.wrap
 simp only[IntKind.bits,IntKind.signed,Bool.true_and]
 split<;>simp_all<;>omega
theorem wrap_add {a b:Int} (ha:fitI a) (hb:fitI b):(IntKind.wrap .i64 (a+b)=a+b/\fitI (a+b))∨(¬fitI (a+b)/\((0<=b/\IntKind.wrap .i64 (a+b)=a+b-18446744073709551616)∨(b<0/\IntKind.wrap .i64 (a+b)=a+b+18446744073709551616))):=by
 unfold fitI at *
 by_cases h : -9223372036854775808<=a+b/\a+b<=9223372036854775807
 ·exact .inl ⟨w64 h,h⟩
 ·refine .inr ⟨h,?_⟩
  unfold IntKind.wrap
  simp only[IntKind.bits,IntKind.signed,Bool.true_and]
  rcases Int.lt_or_le b 0 with hb0|hb0
  ·refine .inr ⟨hb0,?_⟩
   split<;>simp_all<;>omega
  ·refine .inl ⟨hb0,?_⟩
   split<;>simp_all<;>omega
theorem nadd_ok {a b:Int} (ha:fitI a) (hb:fitI b) (w:World):Calls Tryz.prog 333 #[.int .i64 a,.int .i64 b] w fun e w'=>e=.returned (.tuple #[.int .i64 (addE a b).1,.int .i64 (addE a b).2])/\w'=w:=by
 refine u333 ?_
 rw[t333]
 refine⟨(fit_ok _ _ w).mono ?_⟩
 rintro e w1 ⟨rfl,rfl⟩
 refine⟨_,_,rfl,?_,rfl⟩
 have e0:(decide (IntKind.wrap .i64 (a+b)<a)==decide (b<0))=decide (fitI (a+b)):=by
  rcases wrap_add ha hb with⟨h1,h2⟩|⟨h1,h2|h2⟩
  ·rw[h1,decide_eq_true h2]
   by_cases h:b<0
   ·rw[decide_eq_true h,decide_eq_true (by omega)];rfl
   ·rw[decide_eq_false h,decide_eq_false (by omega)];rfl
  ·unfold fitI at ha hb
   rw[decide_eq_false h1,h2.2,decide_eq_false (show ¬b<0 by omega),decide_eq_true (by omega)];rfl
  ·unfold fitI at ha hb
   rw[decide_eq_false h1,h2.2,decide_eq_true h2.1,decide_eq_false (by omega)];rfl
 rw[e0]
 unfold addE
 by_cases h:fitI (a+b)
 ·rw[if_pos h,decide_eq_true h]
  unfold fitI at h
  rw[w64 h]
  rfl
 ·rw[if_neg h,decide_eq_false h]
  rfl
end Go.Dav
namespace Go.Dav
open Go.Proofs
theorem elI64:ElemT Tryz.prog 53 2 1 8 [.int .i64 0]:=⟨by kernel_rfl,by kernel_rfl,rfl,by omega⟩
abbrev SpH (b:Nat):Ob (List Int×Option Addr×Nat):=Hd b 221 2 1 (fun l p c=>[.slice p l.length c]) (fun l=>l.length) (fun l=>l.map (Value.int .i64))
structure SpV (x:List Int):Prop where
 fit:∀v∈x,fitI v
 len:1<=x.length/\x.length<=64
def SpO (b:Nat):Ob (List Int):=fun w F x=>(∃y,SpH b w F (x,y))/\SpV x
instance Frame.spo (b:Nat):Frame (SpO b) where
 upd:=fun⟨⟨y,h⟩,r⟩ k hG=>⟨⟨y,(Frame.hd ..).upd h k hG⟩,r⟩
 lt:=fun⟨⟨_,h⟩,_⟩=>(Frame.hd ..).lt h
theorem inS_of {x:List Int} {c:Int} (h:inS x c):∃i:Nat,i<x.length/\c=(i:Int):=⟨c.toNat,by unfold inS at h;omega,by unfold inS at h;omega⟩
theorem gtS_at {x:List Int} {i:Nat} (hi:i<x.length):gtS x (i:Int)=x[i]:=by simp[gtS,hi]
theorem SpV.set {x:List Int} (h:SpV x) (i:Nat) {v:Int} (hv:fitI v):SpV (x.set i v):=⟨fun z hz=>by
 rcases List.mem_or_eq_of_mem_set hz with hz|rfl
 ·exact h.fit z hz
 ·exact hv,by simpa using h.len⟩
section
variable {b:Nat} {w:World} {F:Fp} {x:List Int}
theorem SpO.blk (h:SpO b w F x):∃p c,Blk w b [.slice p x.length c] 221:=by
 obtain⟨⟨y,h⟩,_⟩:=h
 exact⟨_,_,h.blk⟩
theorem SpO.at (h:SpO b w F x) {i:Nat} (hi:i<x.length):∃a c,Blk w b [.slice (some a) x.length c] 221/\w.cell? (a.add (i*1))=some (.int .i64 x[i])/\∀(v:Int),fitI v->∀K:World->Prop,(∀w',Turn (SpO b) w w' F (x.set i v)->K w')->Wr w (a.add (i*1)) [.int .i64 v] K:=by
 obtain⟨⟨y,h⟩,hv⟩:=h
 obtain⟨a,ha,hc⟩:=h.sl.cells.at1 hi
 obtain⟨p,c⟩:=y
 simp only at ha
 subst ha
 refine⟨a,c,h.blk,hc,fun v hf K hK=>?_⟩
 rw[Nat.mul_one]
 refine h.sl.wr (o:=i) (by simp only[List.length_cons,List.length_nil];omega) fun w' hS hU=>hK w' ?_
 have e1:=setL_set (f:=Value.int .i64) (r:=x) hi (v:=v)
 rw[e1]at hS
 obtain⟨F',h1,h2⟩:=h.elems (w':=w') (s':=x.set i v) (by simpa using hS) hU (by simp)
 exact⟨F',⟨⟨_,h1⟩,hv.set i hf⟩,h2⟩
theorem smay_ok_Gate (h:SpO b w F x) (c:Int):Calls Tryz.prog 332 #[.pointer (some ⟨b,0,none⟩),.int .i64 c] w fun e w'=>e=.returned (.int .i64 (if inS x c then 0 else 3))/\w'=w:=by
 obtain⟨p,c0,hB⟩:=h.blk
 refine u332 ?_
 rw[t332]
 refine⟨fun g=>(by cases g),fun _=>⟨fun g1=>⟨_,rfl,_,_,_,hB.cell rfl,fun g2=>⟨?_,rfl⟩,fun g2=>⟨?_,rfl⟩⟩,fun g1=>⟨?_,rfl⟩⟩⟩
 ·have g2:=of_decide_eq_true g2
  rw[if_neg (by unfold inS;omega)]
 ·have g1:=of_decide_eq_false g1
  have g2:=of_decide_eq_false g2
  rw[if_pos (by unfold inS;omega)]
 ·have g1:=of_decide_eq_true g1
  rw[if_neg (by unfold inS;omega)]
theorem sget_ok (h:SpO b w F x) (c:Int):Calls Tryz.prog 331 #[.pointer (some ⟨b,0,none⟩),.int .i64 c] w fun e w'=>e=.returned (.tuple #[.int .i64 (if inS x c then gtS x c else 0),.int .i64 (if inS x c then 0 else 3)])/\w'=w:=by
 refine u331 ?_
 rw[t331]
 refine⟨(smay_ok_Gate h c).mono ?_⟩
 rintro e w1 ⟨rfl,rfl⟩
 by_cases hc:inS x c
 ·obtain⟨i,hi,rfl⟩:=inS_of hc
  obtain⟨a,c0,hB,hcell,_⟩:=h.at hi
  simp only[if_pos hc]
  refine⟨_,rfl,fun g=>(by cases g),fun _=>⟨_,rfl,_,_,_,hB.cell rfl,⟨by omega,by omega⟩,_,rfl,_,hcell,?_⟩⟩
  rw[gtS_at hi];exact⟨rfl,trivial⟩
 ·simp only[if_neg hc]
  exact⟨_,rfl,fun _=>⟨rfl,trivial⟩,fun g=>(by cases g)⟩
theorem sadd_ok (h:SpO b w F x) (c:Int) {n:Int} (hn:fitI n):Calls Tryz.prog 260 #[.pointer (some ⟨b,0,none⟩),.int .i64 c,.int .i64 n] w fun e w'=>e=.returned (.int .i64 (spAddE x c n))/\Turn (SpO b) w w' F (spAddS x c n):=by
 refine u260 ?_
 rw[t260]
 refine⟨(smay_ok_Gate h c).mono ?_⟩
 rintro e w1 ⟨rfl,rfl⟩
 by_cases hc:inS x c
 ·obtain⟨i,hi,rfl⟩:=inS_of hc
  obtain⟨a,c0,hB,hcell,hput⟩:=h.at hi
  have hr:(0:Int)<=(i:Int)/\(i:Int)<(x.length:Int):=⟨by omega,by omega⟩
  simp only[if_pos hc]
  refine⟨_,rfl,fun g=>(by cases g),fun _=>⟨_,rfl,_,_,_,hB.cell rfl,hr,_,rfl,_,hcell,⟨(nadd_ok (h.2.fit _ (List.getElem_mem hi)) hn w1).mono ?_⟩⟩⟩
  rintro e w2 ⟨rfl,rfl⟩
  have eE:spAddE x (i:Int) n=(addE x[i] n).2:=by unfold spAddE;rw[if_pos hc,gtS_at hi]
  refine⟨_,_,rfl,fun g=>?_,fun g=>⟨_,rfl,_,_,_,hB.cell rfl,hr,_,rfl,?_⟩⟩
  ·have g:¬(addE x[i] n).2=0:=by simpa using g
   have eS:spAddS x (i:Int) n=x:=by unfold spAddS;rw[eE,if_neg g]
   rw[eE,eS]
   exact⟨rfl,Turn.same h⟩
  ·have g:(addE x[i] n).2=0:=by simpa using g
   have hf:fitI (x[i]+n):=by
    unfold addE at g
    by_cases hf:fitI (x[i]+n)
    ·exact hf
    ·rw[if_neg hf]at g;cases g
   have e1:(addE x[i] n).1=x[i]+n:=by unfold addE;rw[if_pos hf]
   have eS:spAddS x (i:Int) n=x.set i (x[i]+n):=by unfold spAddS;rw[eE,if_pos g,gtS_at hi];rfl
   rw[e1,Int.toNat_natCast]
   refine hput _ hf _ fun w3 h3=>?_
   rw[eE,eS,g]
   exact⟨rfl,h3⟩
 ·simp only[if_neg hc]
  have eE:spAddE x c n=3:=by unfold spAddE;rw[if_neg hc]
  have eS:spAddS x c n=x:=by unfold spAddS;rw[eE,if_neg (by decide)]
  rw[eE,eS]
  exact⟨_,rfl,fun _=>⟨rfl,Turn.same h⟩,fun g=>(by cases g)⟩
theorem sfold_ok (h:SpO b w F x) (f t:Int):Calls Tryz.prog 361 #[.pointer (some ⟨b,0,none⟩),.int .i64 f,.int .i64 t] w fun e w'=>e=.returned (.int .i64 (spFoldE x f t))/\Turn (SpO b) w w' F (spFoldS x f t):=by
 refine u361 ?_
 rw[t361]
 have nop:∀n,spFoldE x f t=n->n≠0->spFoldS x f t=x:=fun n hE hn=>by unfold spFoldS;rw[hE,if_neg hn]
 refine⟨(smay_ok_Gate h f).mono ?_⟩
 rintro e w1 ⟨rfl,rfl⟩
 by_cases hf:inS x f
 ·simp only[if_pos hf]
  refine⟨_,rfl,fun g=>(by cases g),fun _=>⟨(smay_ok_Gate h t).mono ?_⟩⟩
  rintro e w2 ⟨rfl,rfl⟩
  by_cases ht:inS x t
  ·simp only[if_pos ht]
   refine⟨_,rfl,fun g=>(by cases g),fun _=>⟨fun g=>?_,fun g=>?_⟩⟩
   ·have g:f=t:=by simpa using g
    have hE:spFoldE x f t=2:=by unfold spFoldE;rw[if_pos hf,if_pos ht,if_pos g]
    rw[nop _ hE (by decide),hE]
    exact⟨rfl,Turn.same h⟩
   ·have g:f≠t:=by simpa using g
    obtain⟨i,hi,rfl⟩:=inS_of hf
    obtain⟨a,c0,hB,hcell,_⟩:=h.at hi
    have hr:(0:Int)<=(i:Int)/\(i:Int)<(x.length:Int):=⟨by omega,by omega⟩
    have hE:spFoldE x (i:Int) t=spAddE x t x[i]:=by unfold spFoldE;rw[if_pos hf,if_pos ht,if_neg g,gtS_at hi]
    refine⟨_,rfl,_,_,_,hB.cell rfl,hr,_,rfl,_,hcell,⟨(sadd_ok h t (h.2.fit _ (List.getElem_mem hi))).mono ?_⟩⟩
    rintro e w3 ⟨rfl,hT⟩
    refine⟨_,rfl,fun g2=>?_,fun g2=>?_⟩
    ·have g2:spAddE x t x[i]=0:=by simpa using g2
     obtain⟨F1,h1,k1⟩:=hT.turn
     have hl:(spAddS x t x[i]).length=x.length:=by unfold spAddS;split<;>simp
     obtain⟨a1,c1,hB1,_,hput1⟩:=h1.at (i:=i) (by rw[hl];exact hi)
     rw[hl]at hB1
     refine⟨_,rfl,_,_,_,hB1.cell rfl,hr,_,rfl,?_⟩
     rw[Int.toNat_natCast]
     refine hput1 0 (by decide) _ fun w4 h4=>?_
     have hS:spFoldS x (i:Int) t=(spAddS x t x[i]).set i 0:=by unfold spFoldS;rw[hE,if_pos g2,gtS_at hi];rfl
     rw[hE,hS]
     exact⟨rfl,k1 _ _ h4⟩
    ·have g2:¬spAddE x t x[i]=0:=by simpa using g2
     rw[nop _ hE g2,hE]
     have:spAddS x t x[i]=x:=by unfold spAddS;rw[if_neg g2]
     rw[this]at hT
     exact⟨rfl,hT⟩
  ·simp only[if_neg ht]
   have hE:spFoldE x f t=3:=by unfold spFoldE;rw[if_pos hf,if_neg ht]
   rw[nop _ hE (by decide),hE]
   exact⟨_,rfl,fun _=>⟨rfl,Turn.same h⟩,fun g=>(by cases g)⟩
 ·simp only[if_neg hf]
  have hE:spFoldE x f t=3:=by unfold spFoldE;rw[if_neg hf]
  rw[nop _ hE (by decide),hE]
  exact⟨_,rfl,fun _=>⟨rfl,Turn.same h⟩,fun g=>(by cases g)⟩
theorem run_add (x y:Int) (hx:0<=x) (hy:0<=y) (w:World):(callFunc 169 #[.int .u64 x,.int .u64 y,.int .u64 0]).run Tryz.prog w=.ok (.value (.tuple #[.int .u64 ((x+y+0)%18446744073709551616),.int .u64 ((x+y+0)/18446744073709551616)])) w:=by
 rw[run_callFunc_extern Tryz.func169 (by kernel_rfl) (by kernel_rfl) (by kernel_rfl) (e:=add64Entry) (by kernel_rfl),run_add64 x y 0 hx hy (by omega) (by omega)]
 rfl
theorem sum_take_le {x:List Int} (hp:∀v∈x,0<=v):∀i,0<=(x.take i).sum/\(x.take i).sum<=x.sum:=by
 induction x with
 | nil=>intro i;simp
 | cons v x ih=>
  intro i
  cases i with
  | zero=>
   have:=ih (fun v hv=>hp v (List.mem_cons_of_mem _ hv)) x.length
   rw[List.take_length]at this
   have:=hp v (List.mem_cons_self)
   simp
   omega
  | succ i=>
   have:=ih (fun v hv=>hp v (List.mem_cons_of_mem _ hv)) i
   have:=hp v (List.mem_cons_self)
   simp only[List.take_succ_cons,List.sum_cons]
   omega
theorem sum_take_succ {x:List Int} {i:Nat} (hi:i<x.length):(x.take (i+1)).sum=(x.take i).sum+x[i]:=by
 rw[List.take_succ_eq_append_getElem hi,List.sum_append]
 simp
theorem shr63 {n:Int} (h:0<=n/\n<=1000):shrOp .i64 n 63=0:=by
 unfold shrOp
 rw[show(2:Int) ^ (min (63:Int).toNat IntKind.i64.bits)=9223372036854775808 from rfl,Int.fdiv_eq_ediv_of_nonneg _ (by decide)]
 omega
theorem wu1000 {n:Int} (h:0<=n/\n<=1000):IntKind.wrap .u64 n=n:=by
 unfold IntKind.wrap
 simp[IntKind.bits,IntKind.signed]
 omega
theorem ssum_ok (h:SpO b w F x) (hp:∀v∈x,0<=v) (hs:x.sum<=1000):Calls Tryz.prog 78 #[.pointer (some ⟨b,0,none⟩)] w fun e w'=>e=.returned (.tuple #[.int .i64 x.sum,.int .i64 0])/\w'=w:=by
 refine u78 ?_
 rw[t78]
 obtain⟨p,c0,hB⟩:=h.blk
 refine⟨fun g=>(by cases g),fun _=>⟨_,rfl,p,x.length,c0,hB.cell rfl,⟨WP_loop okProg (M:=M78) (σ:=Nat) (fun i=>e78_1 0 (x.take i).sum p x.length c0 (x.length:Int) (i:Int)) (fun i w'=>i<=x.length/\w'=w) (fun i _=>x.length-i) 0 ⟨rfl,rfl,rfl,rfl,rfl,trivial⟩ ⟨by omega,rfl⟩ ?_⟩⟩⟩
 rintro i w1 ⟨hi,rfl⟩
 have hb:=sum_take_le hp i
 rw[t78_1]
 refine⟨fun g=>?_,fun g=>CutD.mk ?_⟩
 ·have g:=of_decide_eq_true g
  have hi':i<x.length:=by omega
  obtain⟨a,c1,hB1,hcell,_⟩:=h.at hi'
  have:p=some a:=by
   have e1:=hB.cell (k:=0) rfl
   rw[hB1.cell (k:=0) rfl]at e1
   simp at e1
   exact e1.1.symm
  subst this
  have hv:=hp _ (List.getElem_mem hi')
  have hb2:=sum_take_le hp (i+1)
  rw[sum_take_succ hi']at hb2
  refine⟨⟨by omega,by omega⟩,a,rfl,_,hcell,_,_,w1,run_add _ _ hb.1 (by rw[wu1000 (by omega)];exact hv) w1,by decide,?_⟩
  rw[wu1000 (by omega),shr63 (by omega)]
  refine⟨i+1,⟨?_,?_,rfl,rfl,by rw[w64 (x:=(i:Int)+1) (by have:=h.2.len;omega)];rfl,trivial⟩,⟨by omega,rfl⟩,by omega⟩
  ·rw[show((x.take i).sum+x[i]+0)/18446744073709551616=0 by omega]
   rfl
  ·rw[show((x.take i).sum+x[i]+0)%18446744073709551616=(x.take (i+1)).sum by rw[sum_take_succ hi'];omega]
   rfl
 ·have g:=of_decide_eq_false g
  have:i=x.length:=by omega
  subst this
  rw[List.take_length]at hb⊢
  rw[t78_0]
  have e1:IntKind.wrap .i64 x.sum=x.sum:=w64 (by omega)
  rw[e1,shr63 (by omega)]
  exact⟨by decide,fun _=>⟨rfl,rfl⟩,fun g=>(by cases g)⟩
end
theorem spnew_ok (n:Nat) (hn:1<=n/\n<=64) (w:World):Calls Tryz.prog 50 #[.int .i64 (n:Int)] w fun e w'=>∃b F,e=.returned (.tuple #[.pointer (some ⟨b,0,none⟩),.int .i64 0])/\SpO b w' F (List.replicate n 0)/\Upd no w w'/\∀i,F i->w.heap.size<=i:=by
 refine u50 ?_
 rw[t50]
 refine⟨fun _=>⟨fun g=>?_,fun _=>?_⟩,fun g=>?_⟩
 ·have:=of_decide_eq_true g;omega
 ·obtain⟨w1,hr,hN⟩:=run_mkI elI64 w (n:=n) (by omega) (by omega) .i64 .i64
  refine⟨_,_,_,w1,hr,⟨fun w2 hN2=>?_⟩⟩
  have hsz:=hN.size
  refine⟨w1.heap.size,fun i=>i=w1.heap.size∨fpS (some ⟨w.heap.size,0,none⟩) i,rfl,⟨⟨(some ⟨w.heap.size,0,none⟩,n),?_,?_,?_,fun i=>Iff.rfl⟩,⟨fun v hv=>?_,by simpa using hn⟩⟩,(hN.upd no).and (hN2.upd no),?_⟩
  ·simpa using hN2.blk'
  ·have hS:Sl w1 2 1 (some ⟨w.heap.size,0,none⟩) n n ((List.replicate n (0:Int)).map (Value.int .i64)):=Sl.new hN (by simp) (by unfold maxLen;omega)
   simpa using hS.upd (hN2.upd no) (fun _ _ h=>h)
  ·rintro⟨a,ha,hb⟩
   cases ha
   simp only at hb
   omega
  ·rw[List.eq_of_mem_replicate hv];decide
  ·rintro i (rfl|⟨a,ha,rfl⟩)
   ·omega
   ·cases ha;exact Nat.le_refl _
 ·have:=of_decide_eq_true g;omega
def gaE (b2:Nat) (s:Int):List Value:=[.pointer (some ⟨b2,0,none⟩),.int .i64 s]
def GaO (b:Nat):Ob GaS:=fun w F x=>(∃b2,Star (Rw b 160 (gaE b2)) (SpO b2) w F (x.2,x.1))/\GaV x
instance Frame.gao (b:Nat):Frame (GaO b) where
 upd:=fun⟨⟨b2,h⟩,r⟩ k hG=>⟨⟨b2,Frame.star.upd h k hG⟩,r⟩
 lt:=fun⟨⟨_,h⟩,_⟩=>Frame.star.lt h
section
variable {b:Nat} {w:World} {F:Fp} {x:GaS}
theorem GaO.open (h:GaO b w F x):∃b2 F2,Blk w b (gaE b2 x.2) 160/\SpO b2 w F2 x.1/\(∀w' l,Turn (SpO b2) w w' F2 l->GaV (l,x.2)->Turn (GaO b) w w' F (l,x.2))/\∀(v:Int),(0<=v/\v<=2)->∀K:World->Prop,(∀w',Turn (GaO b) w w' F (x.1,v)->K w')->Wr w ((⟨b,0,none⟩:Addr).add 1) [.int .i64 v] K:=by
 obtain⟨⟨b2,h⟩,hv⟩:=h
 obtain⟨F1,h1,k1⟩:=h.left
 obtain⟨F2,h2,k2⟩:=h.right
 refine⟨b2,F2,h1.blk,h2,fun w' l hT hV=>?_,fun v hr K hK=>h1.blk.wr (k:=1) (by simp[gaE]) fun w' hW=>hK w' ?_⟩
 ·obtain⟨F',h3,h4⟩:=k2 _ _ hT
  exact⟨F',⟨⟨b2,h3⟩,hV⟩,h4⟩
 ·obtain⟨F',h3,h4⟩:=k1 _ _ (h1.turned (s':=v) hW.U hW.blk')
  exact⟨F',⟨⟨b2,h3⟩,⟨hv.pos,hv.sum,hv.len,hr⟩⟩,h4⟩
theorem greaders_ok (h:GaO b w F x):Calls Tryz.prog 20 #[.pointer (some ⟨b,0,none⟩)] w fun e w'=>e=.returned (.int .i64 x.1.sum)/\w'=w:=by
 obtain⟨b2,F2,hB,hS,_,_⟩:=h.open
 refine u20 ?_
 rw[t20]
 refine⟨fun g=>(by cases g),fun _=>⟨_,rfl,_,hB.cell rfl,⟨(ssum_ok hS h.2.pos h.2.sum).mono ?_⟩⟩⟩
 rintro e w1 ⟨rfl,rfl⟩
 exact⟨_,_,rfl,rfl,rfl⟩
theorem gmay_ok (h:GaO b w F x) (c:Int):Calls Tryz.prog 259 #[.pointer (some ⟨b,0,none⟩),.int .i64 c] w fun e w'=>e=.returned (.int .i64 (if inS x.1 c then 0 else 3))/\w'=w:=by
 obtain⟨b2,F2,hB,hS,_,_⟩:=h.open
 refine u259 ?_
 rw[t259]
 refine⟨fun g=>(by cases g),fun _=>⟨_,rfl,_,hB.cell rfl,⟨(sget_ok hS c).mono ?_⟩⟩⟩
 rintro e w1 ⟨rfl,rfl⟩
 exact⟨_,_,rfl,rfl,rfl⟩
theorem gon_ok (h:GaO b w F x) (c:Int):Calls Tryz.prog 265 #[.pointer (some ⟨b,0,none⟩),.int .i64 c] w fun e w'=>e=.returned (.int .i64 (if inS x.1 c then gtS x.1 c else 0))/\w'=w:=by
 obtain⟨b2,F2,hB,hS,_,_⟩:=h.open
 refine u265 ?_
 rw[t265]
 refine⟨fun g=>(by cases g),fun _=>⟨_,rfl,_,hB.cell rfl,⟨(sget_ok hS c).mono ?_⟩⟩⟩
 rintro e w1 ⟨rfl,rfl⟩
 exact⟨_,_,rfl,rfl,rfl⟩
theorem sum_set {l:List Int} {i:Nat} (hi:i<l.length) (v:Int):(l.set i v).sum=l.sum-l[i]+v:=by
 induction l generalizing i with
 | nil=>simp at hi
 | cons a l ih=>
  cases i with
  | zero=>simp;omega
  | succ i=>
   have:=ih (i:=i) (by simpa using hi)
   simp only[List.set_cons_succ,List.sum_cons,List.getElem_cons_succ,this]
   omega
theorem GaV.set (h:GaV x) {i:Nat} (hi:i<x.1.length) {v:Int} (hv:0<=v) (hs:x.1.sum-x.1[i]+v<=1000):GaV (x.1.set i v,x.2):=⟨fun z hz=>by
 rcases List.mem_or_eq_of_mem_set hz with hz|rfl
 ·exact h.pos z hz
 ·exact hv,by rw[sum_set hi];exact hs,by simpa using h.len,h.st⟩
theorem GaV.le (h:GaV x) {i:Nat} (hi:i<x.1.length):0<=x.1[i]/\x.1[i]<=1000:=by
 have h1:=h.pos _ (List.getElem_mem hi)
 have h2:=sum_set hi 0
 have h3:0<=(x.1.set i 0).sum:=(sum_take_le (x:=x.1.set i 0) (fun v hv=>by
  rcases List.mem_or_eq_of_mem_set hv with hz|rfl
  ·exact h.pos v hz
  ·exact Int.le_refl _) 0).1|>fun _=>by
   have:=(sum_take_le (x:=x.1.set i 0) (fun v hv=>by
    rcases List.mem_or_eq_of_mem_set hv with hz|rfl
    ·exact h.pos v hz
    ·exact Int.le_refl _) (x.1.set i 0).length).1
   rwa [List.take_length]at this
 have:=h.sum
 omega
theorem add_small {a n:Int} (h : -1000000<=a+n/\a+n<=1000000):addE a n=(a+n,0):=by
 unfold addE
 rw[if_pos (by unfold fitI;omega)]
theorem genter_ok (h:GaO b w F x) (c:Int):Calls Tryz.prog 157 #[.pointer (some ⟨b,0,none⟩),.int .i64 c] w fun e w'=>e=.returned (.int .i64 (entE x c))/\Turn (GaO b) w w' F (entS x c):=by
 refine u157 ?_
 rw[t157]
 have nop:∀n,entE x c=n->n≠0->entS x c=x:=fun n hE hn=>by unfold entS;rw[hE,if_neg hn]
 obtain⟨b2,F2,hB,hS,kS,_⟩:=h.open
 refine⟨(gmay_ok h c).mono ?_⟩
 rintro e w1 ⟨rfl,rfl⟩
 by_cases hc:inS x.1 c
 ·simp only[if_pos hc]
  refine⟨_,rfl,fun g=>(by cases g),fun _=>⟨_,rfl,_,hB.cell rfl,fun g=>?_,fun g=>⟨(greaders_ok h).mono ?_⟩⟩⟩
  ·have g:x.2≠0:=by simpa using g
   have hE:entE x c=7:=by unfold entE;rw[if_pos hc,if_neg g]
   rw[nop _ hE (by decide),hE]
   exact⟨rfl,Turn.same h⟩
  ·have g:x.2=0:=by simpa using g
   rintro e w2 ⟨rfl,rfl⟩
   refine⟨_,rfl,fun g2=>?_,fun g2=>⟨_,rfl,_,hB.cell rfl,⟨(sadd_ok hS c (n:=1) (by decide)).mono ?_⟩⟩⟩
   ·have g2:=of_decide_eq_true g2
    have hE:entE x c=5:=by unfold entE;rw[if_pos hc,if_pos g,if_pos g2]
    rw[nop _ hE (by decide),hE]
    exact⟨rfl,Turn.same h⟩
   ·have g2:=of_decide_eq_false g2
    rintro e w3 ⟨rfl,h3⟩
    obtain⟨i,hi,rfl⟩:=inS_of hc
    have hle:=h.2.le hi
    have hE:entE x (i:Int)=0:=by unfold entE;rw[if_pos hc,if_pos g,if_neg g2]
    have hE2:spAddE x.1 (i:Int) 1=0:=by unfold spAddE;rw[if_pos hc,gtS_at hi,add_small (by omega)]
    have hS2:spAddS x.1 (i:Int) 1=x.1.set i (x.1[i]+1):=by unfold spAddS;rw[hE2,if_pos rfl,gtS_at hi];rfl
    have hSS:entS x (i:Int)=(x.1.set i (x.1[i]+1),x.2):=by unfold entS;rw[hE,if_pos rfl,gtS_at hi];rfl
    rw[hS2]at h3
    refine⟨_,rfl,by rw[hE2,hE],?_⟩
    rw[hSS]
    exact kS _ _ h3 (h.2.set hi (by omega) (by omega))
 ·simp only[if_neg hc]
  have hE:entE x c=3:=by unfold entE;rw[if_neg hc]
  rw[nop _ hE (by decide),hE]
  exact⟨_,rfl,fun _=>⟨rfl,Turn.same h⟩,fun g=>(by cases g)⟩
theorem gleave_ok (h:GaO b w F x) (c:Int):Calls Tryz.prog 165 #[.pointer (some ⟨b,0,none⟩),.int .i64 c] w fun e w'=>e=.returned (.int .i64 (leaE x c))/\Turn (GaO b) w w' F (leaS x c):=by
 refine u165 ?_
 rw[t165]
 have nop:∀n,leaE x c=n->n≠0->leaS x c=x:=fun n hE hn=>by unfold leaS;rw[hE,if_neg hn]
 obtain⟨b2,F2,hB,hS,kS,_⟩:=h.open
 refine⟨(gmay_ok h c).mono ?_⟩
 rintro e w1 ⟨rfl,rfl⟩
 by_cases hc:inS x.1 c
 ·simp only[if_pos hc]
  refine⟨_,rfl,fun g=>(by cases g),fun _=>⟨(gon_ok h c).mono ?_⟩⟩
  rintro e w2 ⟨rfl,rfl⟩
  rw[if_pos hc]
  refine⟨_,rfl,fun g=>?_,fun g=>⟨_,rfl,_,hB.cell rfl,⟨(sadd_ok hS c (n:=-1) (by decide)).mono ?_⟩⟩⟩
  ·have g:gtS x.1 c=0:=by simpa using g
   have hE:leaE x c=12:=by unfold leaE;rw[if_pos hc,if_pos g]
   rw[nop _ hE (by decide),hE]
   exact⟨rfl,Turn.same h⟩
  ·have g:gtS x.1 c≠0:=by simpa using g
   rintro e w3 ⟨rfl,h3⟩
   obtain⟨i,hi,rfl⟩:=inS_of hc
   have hle:=h.2.le hi
   rw[gtS_at hi]at g
   have hE:leaE x (i:Int)=0:=by unfold leaE;rw[if_pos hc,gtS_at hi,if_neg g]
   have hE2:spAddE x.1 (i:Int) (-1)=0:=by unfold spAddE;rw[if_pos hc,gtS_at hi,add_small (by omega)]
   have hS2:spAddS x.1 (i:Int) (-1)=x.1.set i (x.1[i]-1):=by unfold spAddS;rw[hE2,if_pos rfl,gtS_at hi];rfl
   have hSS:leaS x (i:Int)=(x.1.set i (x.1[i]-1),x.2):=by unfold leaS;rw[hE,if_pos rfl,gtS_at hi];rfl
   rw[hS2]at h3
   refine⟨_,rfl,by rw[hE2,hE],?_⟩
   rw[hSS]
   have:=h.2.sum
   exact kS _ _ h3 (h.2.set hi (by omega) (by omega))
 ·simp only[if_neg hc]
  have hE:leaE x c=3:=by unfold leaE;rw[if_neg hc]
  rw[nop _ hE (by decide),hE]
  exact⟨_,rfl,fun _=>⟨rfl,Turn.same h⟩,fun g=>(by cases g)⟩
theorem gwant_ok (h:GaO b w F x):Calls Tryz.prog 160 #[.pointer (some ⟨b,0,none⟩)] w fun e w'=>e=.returned (.int .i64 (wanE x))/\Turn (GaO b) w w' F (wanS x):=by
 obtain⟨b2,F2,hB,hS,_,kB⟩:=h.open
 refine u160 ?_
 rw[t160]
 refine⟨fun g=>(by cases g),fun _=>⟨_,rfl,_,hB.cell rfl,fun g=>?_,fun g=>⟨_,rfl,kB 1 (by decide) _ fun w2 h2=>?_⟩⟩⟩
 ·have g:x.2≠0:=by simpa using g
  unfold wanE wanS
  rw[if_neg g,if_neg g]
  exact⟨rfl,Turn.same h⟩
 ·have g:x.2=0:=by simpa using g
  unfold wanE wanS
  rw[if_pos g,if_pos g]
  exact⟨rfl,h2⟩
theorem gtake_ok (h:GaO b w F x):Calls Tryz.prog 298 #[.pointer (some ⟨b,0,none⟩)] w fun e w'=>e=.returned (.int .i64 (gtkE x))/\Turn (GaO b) w w' F (gtkS x):=by
 obtain⟨b2,F2,hB,hS,_,kB⟩:=h.open
 refine u298 ?_
 rw[t298]
 have nop:∀n,gtkE x=n->n≠0->gtkS x=x:=fun n hE hn=>by unfold gtkS;rw[hE,if_neg hn]
 refine⟨fun g=>(by cases g),fun _=>⟨_,rfl,_,hB.cell rfl,fun g=>?_,fun g=>⟨(greaders_ok h).mono ?_⟩⟩⟩
 ·have g:x.2≠1:=by simpa using g
  have hE:gtkE x=6:=by unfold gtkE;rw[if_neg g]
  rw[nop _ hE (by decide),hE]
  exact⟨rfl,Turn.same h⟩
 ·have g:x.2=1:=by simpa using g
  rintro e w2 ⟨rfl,rfl⟩
  refine⟨_,rfl,fun g2=>?_,fun g2=>⟨_,rfl,kB 2 (by decide) _ fun w3 h3=>?_⟩⟩
  ·have g2:=of_decide_eq_true g2
   have hE:gtkE x=7:=by unfold gtkE;rw[if_pos g,if_pos g2]
   rw[nop _ hE (by decide),hE]
   exact⟨rfl,Turn.same h⟩
  ·have g2:=of_decide_eq_false g2
   have hE:gtkE x=0:=by unfold gtkE;rw[if_pos g,if_neg g2]
   have hSS:gtkS x=(x.1,2):=by unfold gtkS;rw[hE,if_pos rfl]
   rw[hE,hSS]
   exact⟨rfl,h3⟩
theorem gfree_ok (h:GaO b w F x):Calls Tryz.prog 213 #[.pointer (some ⟨b,0,none⟩)] w fun e w'=>e=.returned (.int .i64 (gfrE x))/\Turn (GaO b) w w' F (gfrS x):=by
 obtain⟨b2,F2,hB,hS,_,kB⟩:=h.open
 refine u213 ?_
 rw[t213]
 refine⟨fun g=>(by cases g),fun _=>⟨_,rfl,_,hB.cell rfl,fun g=>?_,fun g=>⟨_,rfl,kB 0 (by decide) _ fun w2 h2=>?_⟩⟩⟩
 ·have g:x.2=0:=by simpa using g
  unfold gfrE gfrS
  rw[if_pos g,<-g]
  exact⟨rfl,Turn.same h⟩
 ·have g:x.2≠0:=by simpa using g
  unfold gfrE gfrS
  rw[if_neg g]
  exact⟨rfl,h2⟩
end
theorem gnew_ok (n:Nat) (hn:1<=n/\n<=64) (w:World):Calls Tryz.prog 52 #[.int .i64 (n:Int)] w fun e w'=>∃b F,e=.returned (.tuple #[.pointer (some ⟨b,0,none⟩),.int .i64 0])/\GaO b w' F (List.replicate n 0,0)/\Upd no w w'/\∀i,F i->w.heap.size<=i:=by
 refine u52 ?_
 rw[t52]
 refine⟨(spnew_ok n hn w).mono ?_⟩
 rintro e w1 ⟨b2,F2,rfl,hS,hU,hF⟩
 refine⟨_,_,rfl,fun g=>(by cases g),fun _=>⟨fun w2 hN=>?_⟩⟩
 have hR:Rw w1.heap.size 160 (gaE b2) w2 (fun i=>i=w1.heap.size) 0:=Rw.new hN rfl
 have hS2:=(Frame.spo b2).upd hS (hN.upd no) (fun _ _ h=>h)
 refine⟨_,fun i=>i=w1.heap.size∨F2 i,rfl,⟨⟨b2,_,_,hR,hS2,fun i=>Iff.rfl,?_⟩,⟨fun v hv=>?_,?_,by simpa using hn,⟨Int.le_refl _,(show(0:Int)<=2 by decide)⟩⟩⟩,hU.and (hN.upd no),?_⟩
 ·rintro i rfl hf
  have:=(Frame.spo b2).lt hS _ hf
  omega
 ·rw[List.eq_of_mem_replicate hv];exact Int.le_refl _
 ·have:(List.replicate n (0:Int)).sum=0:=by simp
  rw[this];decide
 ·rintro i (rfl|hi)
  ·exact hU.size
  ·exact hF i hi
end Go.Dav
namespace Go.Dav
open Go.Proofs
theorem elM:ElemT Tryz.prog 227 374 10 80 ((List.replicate 10 (0:Int)).map (Value.int .i64)):=⟨by kernel_rfl,by kernel_rfl,rfl,by omega⟩
abbrev MeH (b:Nat):Ob ((Nat×List Int)×Option Addr×Nat):=Hd b 229 374 10 (fun s p c=>[.slice p s.1 c]) (fun s=>s.1) (fun s=>s.2.map (Value.int .i64))
def MeO (b:Nat):Ob Nat:=fun w F n=>∃l y,MeH b w F ((n,l),y)/\∀v∈l,fitI v
instance Frame.meo (b:Nat):Frame (MeO b) where
 upd:=fun⟨l,y,h,r⟩ k hG=>⟨l,y,(Frame.hd ..).upd h k hG,r⟩
 lt:=fun⟨_,_,h,_⟩=>(Frame.hd ..).lt h
section
variable {b:Nat} {w:World} {F:Fp} {n:Nat}
def MeC (b:Nat) (W w:World) (F:Fp) (n:Nat) (a:Addr) (c:Nat) (l:List Int):Prop:=Turn (MeH b) W w F ((n,l),(some a,c))/\(∀v∈l,fitI v)/\l.length=n*10
theorem MeO.open (h:MeO b w F n) (hn:0<n):∃a c l,MeC b w w F n a c l:=by
 obtain⟨l,y,h,hf⟩:=h
 have hlen:=h.sl.len
 simp only[List.length_map]at hlen
 have hlen:l.length=n*10:=hlen
 have h0:0<l.length:=by omega
 obtain⟨a,ha,_⟩:=h.sl.cells.at1 (l:=l) h0
 obtain⟨p,c⟩:=y
 simp only at ha
 subst ha
 exact⟨a,c,l,Turn.same h,hf,hlen⟩
theorem MeC.out {W:World} {a:Addr} {c:Nat} {l:List Int} (h:MeC b W w F n a c l):Turn (MeO b) W w F n:=by
 obtain⟨⟨F',h1,h2⟩,hf,_⟩:=h
 exact⟨F',⟨l,_,h1,hf⟩,h2⟩
theorem MeC.blk {W:World} {a:Addr} {c:Nat} {l:List Int} (h:MeC b W w F n a c l):Blk w b [.slice (some a) n c] 229:=by
 obtain⟨⟨F',h1,h2⟩,_⟩:=h
 exact h1.blk
theorem MeC.cell {W:World} {a:Addr} {c:Nat} {l:List Int} (h:MeC b W w F n a c l) {i:Nat} (hi:i<l.length):w.cell? (a.add i)=some (.int .i64 l[i]):=by
 obtain⟨⟨F',h1,h2⟩,_⟩:=h
 obtain⟨a',ha,hc⟩:=h1.sl.cells.at1 hi
 cases ha
 rw[Nat.mul_one]at hc
 exact hc
theorem MeC.wr {W:World} {a:Addr} {c:Nat} {l:List Int} (h:MeC b W w F n a c l) {i:Nat} (hi:i<l.length) {v:Int} (hv:fitI v) {K:World->Prop} (hK:∀w',MeC b W w' F n a c (l.set i v)->K w'):Wr w (a.add i) [.int .i64 v] K:=by
 obtain⟨hT,hf,hl⟩:=h
 obtain⟨F1,h1,k1⟩:=hT.turn
 refine h1.sl.wr (o:=i) (by simp only[List.length_cons,List.length_nil];omega) fun w' hS hU=>hK w' ?_
 rw[setL_set (f:=Value.int .i64) (r:=l) hi (v:=v)]at hS
 have hT2:=h1.elems (w':=w') (s':=(n,l.set i v)) (by simpa using hS) hU (by simp)
 refine⟨k1 _ _ hT2,fun z hz=>?_,by simpa using hl⟩
 rcases List.mem_or_eq_of_mem_set hz with hz|rfl
 ·exact hf z hz
 ·exact hv
theorem mwithin_ok (x:Int) (w:World):Calls Tryz.prog 370 #[.int .i64 x] w fun e w'=>e=.returned (.bool (decide (0<=x/\x<=2147483648)))/\w'=w:=by
 refine u370 ?_
 rw[t370]
 refine⟨fun g=>⟨?_,rfl⟩,fun g=>⟨?_,rfl⟩⟩
 ·have g:=of_decide_eq_true g
  congr 2
  exact decide_eq_decide.2 (by omega)
 ·have g:=of_decide_eq_false g
  congr 2
  exact(decide_eq_false (by omega)).symm
theorem mpay_ok {W:World} {a:Addr} {c:Nat} {l:List Int} (h:MeC b W w F n a c l) {i j:Nat} (hi:i<n) (hj:j<9) (x y:Int):Calls Tryz.prog 313 #[.pointer (some (a.add (i*10))),.pointer (some (a.add (i*10+j))),.int .i64 x,.int .i64 y] w fun e w'=>(∃m:Int,e=.returned (.int .i64 m))/\Turn (MeO b) W w' F n:=by
 have hl:=h.2.2
 refine u313 ?_
 rw[t313]
 refine⟨(mwithin_ok x w).mono ?_⟩
 rintro e w1 ⟨rfl,rfl⟩
 refine⟨_,rfl,fun _=>⟨(mwithin_ok y w1).mono ?_⟩,fun _=>⟨⟨_,rfl⟩,h.out⟩⟩
 rintro e w2 ⟨rfl,rfl⟩
 refine⟨_,rfl,fun _=>⟨⟨_,rfl⟩,h.out⟩,fun _=>⟨_,rfl,_,by rw[Addr.add_add];exact h.cell (i:=i*10+9) (by omega),⟨(nadd_ok (h.2.1 _ (List.getElem_mem _)) (wrap_fit _) w2).mono ?_⟩⟩⟩
 rintro e w3 ⟨rfl,rfl⟩
 refine⟨_,_,rfl,fun g=>⟨fun _=>⟨⟨_,rfl⟩,h.out⟩,fun _=>⟨_,rfl,?_⟩⟩,fun _=>⟨⟨_,rfl⟩,h.out⟩⟩
 rw[Addr.add_add]
 refine h.wr (i:=i*10+9) (by omega) ?_ fun w4 h4=>⟨_,rfl,_,h4.cell (i:=i*10+j) (by rw[h4.2.2];omega),_,rfl,h4.wr (i:=i*10+j) (by rw[h4.2.2];omega) (wrap_fit _) fun w5 h5=>⟨⟨_,rfl⟩,h5.out⟩⟩
 unfold addE
 split
 ·assumption
 ·decide
theorem mfind_ok (h:MeO b w F n) {i:Nat} (hi:i<n) {a:Addr} {c:Nat} {l:List Int} (hC:MeC b w w F n a c l):Calls Tryz.prog 312 #[.pointer (some ⟨b,0,none⟩),.int .i64 (i:Int)] w fun e w'=>e=.returned (.tuple #[.pointer (some (a.add (i*10))),.int .i64 0])/\w'=w:=by
 have hB:=hC.blk
 refine u312 ?_
 rw[t312]
 refine⟨fun g=>(by cases g),fun _=>⟨fun g1=>⟨_,rfl,_,_,_,hB.cell rfl,fun g2=>?_,fun g2=>⟨_,rfl,_,_,_,hB.cell rfl,⟨by omega,by omega⟩,_,rfl,?_,rfl⟩⟩,fun g1=>?_⟩⟩
 ·have g2:=of_decide_eq_true g2;omega
 ·simp
 ·have g1:=of_decide_eq_true g1;omega
theorem mwork_ok (h:MeO b w F n) {i:Nat} (hi:i<n) (x y:Int):Calls Tryz.prog 230 #[.pointer (some ⟨b,0,none⟩),.int .i64 (i:Int),.int .i64 x,.int .i64 y] w fun e w'=>(∃m:Int,e=.returned (.int .i64 m))/\Turn (MeO b) w w' F n:=by
 obtain⟨a,c,l,hC⟩:=h.open (by omega)
 refine u230 ?_
 rw[t230]
 refine⟨(mfind_ok h hi hC).mono ?_⟩
 rintro e w1 ⟨rfl,rfl⟩
 refine⟨_,_,rfl,fun g=>(by cases g),fun _=>⟨_,rfl,?_⟩⟩
 rw[Addr.add_add]
 refine⟨(mpay_ok hC hi (j:=0) (by omega) x y).mono ?_⟩
 rintro e w2 ⟨⟨m,rfl⟩,hT⟩
 exact⟨_,rfl,⟨_,rfl⟩,hT⟩
theorem mrest_ok (h:MeO b w F n) {i:Nat} (hi:i<n) (way x y:Int):Calls Tryz.prog 229 #[.pointer (some ⟨b,0,none⟩),.int .i64 (i:Int),.int .i64 way,.int .i64 x,.int .i64 y] w fun e w'=>(∃m:Int,e=.returned (.int .i64 m))/\Turn (MeO b) w w' F n:=by
 obtain⟨a,c,l,hC⟩:=h.open (by omega)
 refine u229 ?_
 rw[t229]
 refine⟨(mfind_ok h hi hC).mono ?_⟩
 rintro e w1 ⟨rfl,rfl⟩
 refine⟨_,_,rfl,fun g=>(by cases g),fun _=>⟨fun g1=>⟨fun _=>⟨⟨_,rfl⟩,Turn.same h⟩,fun g2=>⟨_,rfl,?_,?_⟩⟩,fun _=>⟨⟨_,rfl⟩,Turn.same h⟩⟩⟩
 ·have g1:=of_decide_eq_false g1
  have g2:=of_decide_eq_false g2
  exact⟨by omega,by omega⟩
 ·have g1:=of_decide_eq_false g1
  have g2:=of_decide_eq_false g2
  rw[Addr.add_add,Addr.add_add,Nat.mul_one]
  refine⟨(mpay_ok hC hi (j:=1+way.toNat) (by omega) x y).mono ?_⟩
  rintro e w2 ⟨⟨m,rfl⟩,hT⟩
  exact⟨_,rfl,⟨_,rfl⟩,hT⟩
end
theorem flatM (n:Nat):((List.replicate n ([]:List Int)).flatMap fun x:List Int=>(x++List.replicate (10-x.length) 0|>.take 10).map (Value.int .i64))=((List.replicate (n*10) (0:Int)).map (Value.int .i64)):=by
 induction n with
 | zero=>rfl
 | succ n ih=>
  rw[List.replicate_succ,List.flatMap_cons,ih,Nat.succ_mul,Nat.add_comm,<-List.replicate_append_replicate,List.map_append]
  rfl
theorem mnew_ok (n:Nat) (hn:1<=n/\n<=64) (w:World):Calls Tryz.prog 56 #[.int .i64 (n:Int)] w fun e w'=>∃b F,e=.returned (.tuple #[.pointer (some ⟨b,0,none⟩),.int .i64 0])/\MeO b w' F n/\Upd no w w'/\∀i,F i->w.heap.size<=i:=by
 refine u56 ?_
 rw[t56]
 refine⟨fun _=>⟨fun g=>?_,fun _=>?_⟩,fun g=>?_⟩
 ·have:=of_decide_eq_true g;omega
 ·obtain⟨w1,hr,hN⟩:=run_mk elM w (n:=n) (by omega) (by omega) .i64 .i64 (f:=fun x:List Int=>(x++List.replicate (10-x.length) 0|>.take 10).map (Value.int .i64)) (x0:=[]) (fun x=>by simp;omega) rfl
  refine⟨_,_,_,w1,hr,⟨fun w2 hN2=>?_⟩⟩
  have hsz:=hN.size
  have hfl:=flatM n
  refine⟨w1.heap.size,fun i=>i=w1.heap.size∨fpS (some ⟨w.heap.size,0,none⟩) i,rfl,⟨List.replicate (n*10) 0,(some ⟨w.heap.size,0,none⟩,n),⟨?_,?_,?_,fun i=>Iff.rfl⟩,fun v hv=>?_⟩,(hN.upd no).and (hN2.upd no),?_⟩
  ·simpa using hN2.blk'
  ·rw[hfl]at hN
   have hS:Sl w1 374 10 (some ⟨w.heap.size,0,none⟩) n n ((List.replicate (n*10) (0:Int)).map (Value.int .i64)):=Sl.new hN (by simp) (by unfold maxLen;omega)
   exact hS.upd (hN2.upd no) (fun _ _ h=>h)
  ·rintro⟨a,ha,hb⟩
   cases ha
   simp only at hb
   omega
  ·rw[List.eq_of_mem_replicate hv];decide
  ·rintro i (rfl|⟨a,ha,rfl⟩)
   ·omega
   ·cases ha;exact Nat.le_refl _
 ·have:=of_decide_eq_true g;omega
end Go.Dav
