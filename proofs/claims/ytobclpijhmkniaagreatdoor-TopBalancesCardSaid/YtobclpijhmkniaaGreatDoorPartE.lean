/- What functions of the program come to, part 5; the texts are made small to keep within a claim. -/
import Derived.RangeFuncNested
import Derived.RangeFuncLeaves
import Derived.OrdersIn
import Derived.TacticsIn
import Derived.OwnWalkIn
import Derived.Below
import Derived.ChangeArms
import Derived.Deep.Slices
import Derived.Shelf.Abstract
import Derived.WalkKit
import Derived.TacticsInMore
import Derived.LoopNIn
import Derived.LoopIn
import Derived.Test.YtobclpijhmkniaaGreatDoorPartD
set_option linter.unusedVariables false
set_option linter.unusedSimpArgs false
set_option linter.unusedSectionVars false
namespace Go.Dav
open Go.Proofs
theorem shr32 {x:Int} (h:0<=x):shrOp .u64 x 32=x/4294967296:=by
 unfold shrOp
 rw[show(2:Int) ^ (min (32:Int).toNat IntKind.u64.bits)=4294967296 from rfl,Int.fdiv_eq_ediv_of_nonneg _ (by decide)]
theorem and32 {x:Int} (h:0<=x/\x<18446744073709551616):bitsOp .and .u64 x 4294967295=x%4294967296:=by
 obtain⟨n,rfl⟩:∃n:Nat,x=(n:Int):=⟨x.toNat,by omega⟩
 rw[show(4294967295:Int)=((4294967295:Nat):Int)from rfl,andN (by omega) (by omega),show(4294967295:Nat)=2 ^ 32-1 from rfl,Nat.and_two_pow_sub_one_eq_mod]
 omega
theorem wu64 {x:Int} (h:0<=x/\x<18446744073709551616):IntKind.wrap .u64 x=x:=by
 unfold IntKind.wrap
 simp[IntKind.bits,IntKind.signed]
 omega
theorem mul_bd {a b A B:Int} (ha:0<=a/\a<=A) (hb:0<=b/\b<=B):0<=a*b/\a*b<=A*B:=⟨Int.mul_nonneg ha.1 hb.1,Int.mul_le_mul ha.2 hb.2 hb.1 (by omega)⟩
theorem mul64_small {x y:Int} (hx:0<=x/\x<=72057594037927935) (hy:0<=y/\y<=127) (w:World):Calls Tryz.prog 393 #[.int .u64 x,.int .u64 y] w fun e w'=>e=.returned (.tuple #[.int .u64 0,.int .u64 (x*y)])/\w'=w:=by
 refine u393 ?_
 rw[t393]
 refine⟨by decide,by decide,by decide,by decide,by decide,?_,rfl⟩
 rw[shr32 hx.1,shr32 hy.1,and32 (by omega),and32 (by omega)]
 have e1:y/4294967296=0:=by omega
 have e2:y%4294967296=y:=by omega
 rw[e1,e2,Int.mul_zero,Int.mul_zero]
 have b1:=mul_bd (a:=x/4294967296) (b:=y) (A:=16777215) (B:=127) (by omega) hy
 have b2:=mul_bd (a:=x%4294967296) (b:=y) (A:=4294967295) (B:=127) (by omega) hy
 have b3:=mul_bd hx hy
 rw[wu64 (x:=0) (by decide),wu64 (x:=x%4294967296*y) (by omega),shr32 b2.1,wu64 (x:=x/4294967296*y) (by omega),wu64 (x:=x/4294967296*y+x%4294967296*y/4294967296) (by omega),shr32 (by omega),and32 (by omega),wu64 (x:=x*y) (by omega)]
 generalize x/4294967296*y=A at *
 generalize x%4294967296*y=B at *
 have c1:0<=(A+B/4294967296)/4294967296/\(A+B/4294967296)/4294967296<1000:=by omega
 have c2:0<=(A+B/4294967296)%4294967296/\(A+B/4294967296)%4294967296<4294967296:=by omega
 rw[wu64 (x:=0+(A+B/4294967296)/4294967296) (by omega),wu64 (x:=(A+B/4294967296)%4294967296+0) (by omega),shr32 (by omega),wu64 (by omega)]
 rw[show 0+(A+B/4294967296)/4294967296+((A+B/4294967296)%4294967296+0)/4294967296=0 by omega]
theorem div64_small {lo y:Int} (hy:1<=y) (w:World):Calls Tryz.prog 394 #[.int .u64 0,.int .u64 lo,.int .u64 y] w fun e w'=>(∃q r,e=.returned (.tuple #[.int .u64 q,.int .u64 r]))/\Upd no w w':=by
 refine u394 ?_
 rw[t394]
 refine⟨fun g=>?_,fun _=>CutD.mk ?_⟩
 ·have:y=0:=by simpa using g
  omega
 ·rw[t394_0]
  refine⟨fun g=>?_,fun _=>CutD.mk ?_⟩
  ·have:=of_decide_eq_true g
   omega
  ·rw[t394_1]
   refine⟨fun _ w1 q1 q2 q3 q4=>⟨by omega,by omega,⟨_,_,rfl⟩,Upd.same no q1 q2 q3 q4⟩,fun g=>(by cases g)⟩
theorem percent_ok {p q:Int} (hp:p<=72057594037927935) (hq:q<=72057594037927935) (w:World):Calls Tryz.prog 395 #[.int .i64 p,.int .i64 q] w fun e w'=>(∃n:Int,e=.returned (.int .i64 n))/\Upd no w w':=by
 refine u395 ?_
 rw[t395]
 refine⟨fun g1=>⟨fun g2=>⟨_,rfl⟩|>fun h=>⟨h,Upd.refl _ _⟩,fun g2=>⟨fun g3=>⟨⟨_,rfl⟩,Upd.refl _ _⟩,fun g3=>?_⟩⟩,fun g1=>⟨⟨_,rfl⟩,Upd.refl _ _⟩⟩
 have g1:=of_decide_eq_false g1
 have g2:=of_decide_eq_false g2
 rw[wu64 (x:=p) (by omega),wu64 (x:=q) (by omega)]
 refine⟨(mul64_small (x:=p) (y:=100) (by omega) (by decide) w).mono ?_⟩
 rintro e w1 ⟨rfl,rfl⟩
 refine⟨_,_,rfl,⟨(div64_small (y:=q) (by omega) w1).mono ?_⟩⟩
 rintro e w2 ⟨⟨q,r,rfl⟩,hU⟩
 exact⟨_,_,rfl,⟨_,rfl⟩,hU⟩
theorem scale_ok {a b p:Int} (ha:1<=a) (hb:b<=100000) (w:World):Calls Tryz.prog 368 #[.int .i64 a,.int .i64 b,.int .i64 p] w fun e w'=>(∃n:Int,e=.returned (.int .i64 n))/\Upd no w w':=by
 refine u368 ?_
 rw[t368]
 refine⟨fun g1=>⟨fun g2=>⟨⟨_,rfl⟩,Upd.refl _ _⟩,fun g2=>⟨fun g3=>⟨⟨_,rfl⟩,Upd.refl _ _⟩,fun g3=>?_⟩⟩,fun g1=>⟨⟨_,rfl⟩,Upd.refl _ _⟩⟩
 have g1:=of_decide_eq_false g1
 have g2:=of_decide_eq_false g2
 have g3:=of_decide_eq_false g3
 rw[wu64 (x:=a) (by omega),wu64 (x:=b) (by omega),wu64 (x:=p) (by omega),wu64 (x:=b-a) (by omega)]
 refine⟨(mul64_small (x:=b-a) (y:=p) (by omega) (by omega) w).mono ?_⟩
 rintro e w1 ⟨rfl,rfl⟩
 refine⟨_,_,rfl,⟨(div64_small (y:=100) (by decide) w1).mono ?_⟩⟩
 rintro e w2 ⟨⟨q,r,rfl⟩,hU⟩
 exact⟨_,_,rfl,⟨_,rfl⟩,hU⟩
structure GvS where
 low:Int
 high:Int
 f0:Int×Int
 f1:Int×Int
 f2:Int×Int
 f3:Int×Int
 at_:Int
def GvS.cells (g:GvS):List Value:=[.int .i64 g.low,.int .i64 g.high,.int .i64 g.f0.1,.int .i64 g.f0.2,.int .i64 g.f1.1,.int .i64 g.f1.2,.int .i64 g.f2.1,.int .i64 g.f2.2,.int .i64 g.f3.1,.int .i64 g.f3.2,.int .i64 g.at_]
def feedI (f:Int×Int):Prop:=(0<=f.1/\f.1<=1099511627776)/\(0<=f.2/\f.2<=1099511627776)
theorem feedI0:feedI (0,0):=by unfold feedI;decide
structure GvS.V (g:GvS):Prop where
 lim:1<=g.low/\g.high<=100000
 f0:feedI g.f0
 f1:feedI g.f1
 f2:feedI g.f2
 f3:feedI g.f3
 at_:0<=g.at_/\g.at_<4
def GvO (b:Nat):Ob Unit:=fun w F _=>∃g,Rw b 235 GvS.cells w F g/\g.V
instance Frame.gvo (b:Nat):Frame (GvO b) where
 upd:=fun⟨g,h,r⟩ k hG=>⟨g,(Frame.rw ..).upd h k hG,r⟩
 lt:=fun⟨_,h,_⟩=>(Frame.rw ..).lt h
theorem fright_ok (a b:Int) (w:World):Calls Tryz.prog 112 #[.int .i64 a,.int .i64 b] w fun e w'=>e=.returned (.bool (decide (1<=a/\b<=100000/\a<=b)))/\w'=w:=by
 refine u112 ?_
 rw[t112]
 refine⟨fun g1=>⟨fun g2=>⟨?_,rfl⟩,fun g2=>⟨?_,rfl⟩⟩,fun g1=>⟨?_,rfl⟩⟩
 ·have g1:=of_decide_eq_true g1
  have g2:=of_decide_eq_true g2
  congr 2
  exact decide_eq_decide.2 (by omega)
 ·have g2:=of_decide_eq_false g2
  congr 2
  exact(decide_eq_false (by omega)).symm
 ·have g1:=of_decide_eq_false g1
  congr 2
  exact(decide_eq_false (by omega)).symm
theorem fnew_ok {a b:Int} (h:1<=a/\b<=100000/\a<=b) (w:World):Calls Tryz.prog 58 #[.int .i64 a,.int .i64 b] w fun e w'=>∃k F,e=.returned (.tuple #[.pointer (some ⟨k,0,none⟩),.int .i64 0])/\GvO k w' F ()/\Upd no w w'/\∀i,F i->w.heap.size<=i:=by
 refine u58 ?_
 rw[t58]
 refine⟨(fright_ok a b w).mono ?_⟩
 rintro e w1 ⟨rfl,rfl⟩
 refine⟨_,rfl,fun g=>?_,fun _=>⟨fun w2 hN=>⟨_,fun i=>i=w1.heap.size,rfl,⟨⟨a,b,(0,0),(0,0),(0,0),(0,0),0⟩,Rw.new hN rfl,⟨⟨h.1,h.2.1⟩,feedI0,feedI0,feedI0,feedI0,⟨Int.le_refl _,(show(0:Int)<4 by decide)⟩⟩⟩,hN.upd no,fun i hi=>by omega⟩⟩⟩
 rw[decide_eq_true h]at g
 cases g
section
variable {b:Nat} {w:World} {F:Fp}
theorem fset_ok (h:GvO b w F ()) (lo hi:Int):Calls Tryz.prog 266 #[.pointer (some ⟨b,0,none⟩),.int .i64 lo,.int .i64 hi] w fun e w'=>e=.returned (.int .i64 (if 1<=lo/\hi<=100000/\lo<=hi then 0 else 2))/\Turn (GvO b) w w' F ():=by
 refine u266 ?_
 rw[t266]
 refine⟨fun g=>(by cases g),fun _=>⟨(fright_ok lo hi w).mono ?_⟩⟩
 rintro e w1 ⟨rfl,rfl⟩
 obtain⟨g,hR,hV⟩:=id h
 refine⟨_,rfl,fun g1=>?_,fun g1=>⟨_,rfl,hR.blk.wr (k:=0) (by simp[GvS.cells]) fun w2 hW=>⟨_,rfl,hW.blk'.wr (k:=1) (by simp[GvS.cells,setL]) fun w3 hW3=>?_⟩⟩⟩
 ·have g1:¬(1<=lo/\hi<=100000/\lo<=hi):=fun hh=>by rw[decide_eq_true hh]at g1;cases g1
  rw[if_neg g1]
  exact⟨rfl,Turn.same h⟩
 ·have g1:1<=lo/\hi<=100000/\lo<=hi:=by simpa using g1
  rw[if_pos g1]
  obtain⟨F',h1,h2⟩:=hR.turned (w':=w3) (s':={g with low:=lo,high:=hi}) (hW.U.and hW3.U) (by simpa [GvS.cells,setL]using hW3.blk')
  exact⟨rfl,F',⟨_,h1,⟨⟨g1.1,g1.2.1⟩,hV.f0,hV.f1,hV.f2,hV.f3,hV.at_⟩⟩,h2⟩
theorem flim_ok {g:GvS} (hR:Rw b 235 GvS.cells w F g):Calls Tryz.prog 367 #[.pointer (some ⟨b,0,none⟩)] w fun e w'=>e=.returned (.tuple #[.int .i64 g.low,.int .i64 g.high])/\Upd no w w':=by
 refine u367 ?_
 rw[t367]
 refine⟨fun g=>(by cases g),fun _ w1 q1 q2 q3 q4=>?_⟩
 have hU:=Upd.same no q1 q2 q3 q4
 have hB:=hR.blk.upd hU id
 exact⟨_,rfl,_,hB.cell rfl,_,rfl,_,hB.cell rfl,rfl,hU⟩
theorem feed_at {g:GvS} {i:Nat} (hi:i<4):∃q:Int×Int,feedI q/\List.take 2 (List.drop (i*2) [Value.int .i64 g.f0.1,.int .i64 g.f0.2,.int .i64 g.f1.1,.int .i64 g.f1.2,.int .i64 g.f2.1,.int .i64 g.f2.2,.int .i64 g.f3.1,.int .i64 g.f3.2])=[.int .i64 q.1,.int .i64 q.2]∨¬g.V:=by
 by_cases hV:g.V
 ·match i,hi with
  | 0,_=>exact⟨g.f0,.inl ⟨hV.f0,rfl⟩⟩
  | 1,_=>exact⟨g.f1,.inl ⟨hV.f1,rfl⟩⟩
  | 2,_=>exact⟨g.f2,.inl ⟨hV.f2,rfl⟩⟩
  | 3,_=>exact⟨g.f3,.inl ⟨hV.f3,rfl⟩⟩
 ·exact⟨(0,0),.inr hV⟩
theorem Blk.cell2 {T:TypeId} {c:List Value} {k j:Nat} {v:Value} (h:Blk w b c T) (hv:c[k+j]?=some v):w.cell? (((⟨b,0,none⟩:Addr).add k).add j)=some v:=by
 rw[Addr.add_add];exact h.cell hv
theorem fbusy_ok {g:GvS} (hR:Rw b 235 GvS.cells w F g) (hV:g.V):Calls Tryz.prog 369 #[.pointer (some ⟨b,0,none⟩)] w fun e w'=>(∃n:Int,e=.returned (.int .i64 n))/\Upd no w w':=by
 refine u369 ?_
 rw[t369]
 refine⟨fun g=>(by cases g),fun _=>⟨fun w1 hN=>?_⟩⟩
 have hB:=hN.keep hR.blk
 have hN':Blk w1 w.heap.size [.int .i64 0,.int .i64 0] _:=hN.blk'
 refine⟨_,rfl,_,hB.cell2 rfl,_,hB.cell2 rfl,_,hB.cell2 rfl,_,hB.cell2 rfl,_,hB.cell2 rfl,_,hB.cell2 rfl,_,hB.cell2 rfl,_,hB.cell2 rfl,?_⟩
 refine⟨WP_loop okProg (M:=M369) (σ:=Nat) (fun i=>e369_1 ⟨w.heap.size,0,none⟩ g.f0.1 g.f0.2 g.f1.1 g.f1.2 g.f2.1 g.f2.2 g.f3.1 g.f3.2 (i:Int))
  (fun i w'=>i<=4/\Upd no w w'/\∃x y:Int,Blk w' w.heap.size [.int .i64 x,.int .i64 y] 232/\(0<=x/\x<=i*1099511627776)/\(0<=y/\y<=i*1099511627776)) (fun i _=>4-i) 0 ⟨rfl,rfl,rfl,trivial⟩ ⟨by omega,hN.upd no,0,0,hN',by omega,by omega⟩ ?_⟩
 rintro i w2 ⟨hi,hU,x,y,hB2,hx,hy⟩
 rw[t369_1]
 refine⟨fun g1=>?_,fun g1=>CutD.mk ?_⟩
 ·have g1:=of_decide_eq_true g1
  obtain⟨q,⟨hq,hs⟩|hn⟩:=feed_at (g:=g) (i:=i) (by omega)
  ·refine⟨⟨by omega,by omega⟩,q.1,q.2,by rw[Int.toNat_natCast];exact hs,⟨fun w3 hN3=>hN3.blk'.wr0 (by simp) fun w4 hW4=>?_⟩⟩
   have hlt:=hB2.lt
   have hB4:=hW4.keep (hN3.keep hB2) (by omega)
   refine⟨_,hB4.cell rfl,_,hW4.blk'.cell rfl,hB4.wr (k:=0) (by simp) fun w5 hW5=>⟨_,hW5.blk'.cell rfl,_,(hW5.keep hW4.blk' (by omega)).cell rfl,hW5.blk'.wr (k:=1) (by simp[setL]) fun w6 hW6=>?_⟩⟩
   have hsz:=hU.size
   have hU4:Upd no w w4:=(hU.and (hN3.upd no)).trans hW4.U (fun j hj e=>absurd hj (by omega))
   have hU6:Upd no w w6:=hU4.trans (hW5.U.and hW6.U) (fun j hj e=>absurd hj (by omega))
   obtain⟨hq1,hq2⟩:=hq
   have e1:IntKind.wrap .i64 (x+q.1)=x+q.1:=w64 (by omega)
   have e2:IntKind.wrap .i64 (y+q.2)=y+q.2:=w64 (by omega)
   rw[e1]at hW5 hW6
   rw[e2]at hW6
   refine⟨i+1,⟨rfl,rfl,by rw[w64 (by omega)];rfl,trivial⟩,⟨by omega,hU6,x+q.1,y+q.2,hW6.blk',by omega,by omega⟩,by omega⟩
  ·exact absurd hV hn
 ·rw[t369_0]
  refine⟨_,hB2.cell rfl,_,hB2.cell rfl,⟨(percent_ok (by omega) (by omega) w2).mono ?_⟩⟩
  rintro e w3 ⟨⟨n,rfl⟩,hU3⟩
  exact⟨_,rfl,⟨_,rfl⟩,hU.and hU3⟩
theorem ffreq_ok {g:GvS} (hR:Rw b 235 GvS.cells w F g) (hV:g.V):Calls Tryz.prog 311 #[.pointer (some ⟨b,0,none⟩)] w fun e w'=>(∃n:Int,e=.returned (.int .i64 n))/\Upd no w w':=by
 refine u311 ?_
 rw[t311]
 refine⟨(flim_ok hR).mono ?_⟩
 rintro e w1 ⟨rfl,hU⟩
 have hR1:=(Frame.rw ..).upd hR hU (fun _ _ h=>h)
 refine⟨_,_,rfl,⟨(fbusy_ok hR1 hV).mono ?_⟩⟩
 rintro e w2 ⟨⟨n,rfl⟩,hU2⟩
 refine⟨_,rfl,⟨(scale_ok hV.lim.1 hV.lim.2 w2).mono ?_⟩⟩
 rintro e w3 ⟨⟨n,rfl⟩,hU3⟩
 exact⟨_,rfl,⟨_,rfl⟩,(hU.and hU2).and hU3⟩
def feedS (g:GvS) (i:Nat) (q:Int×Int):GvS:=match i with
 | 0=>{g with f0:=q,at_:=1}
 | 1=>{g with f1:=q,at_:=2}
 | 2=>{g with f2:=q,at_:=3}
 | _=>{g with f3:=q,at_:=0}
theorem feedS_at (g:GvS) (i:Nat) (q:Int×Int):0<=(feedS g i q).at_/\(feedS g i q).at_<4:=by
 unfold feedS
 split<;>(simp only;decide)
theorem ffeed_ok (h:GvO b w F ()) (x y:Int):Calls Tryz.prog 228 #[.pointer (some ⟨b,0,none⟩),.int .i64 x,.int .i64 y] w fun e w'=>(∃n m:Int,e=.returned (.tuple #[.int .i64 n,.int .i64 m]))/\Turn (GvO b) w w' F ():=by
 refine u228 ?_
 rw[t228]
 refine⟨fun g=>(by cases g),fun _=>⟨fun g1=>⟨fun g2=>⟨fun g3=>⟨⟨_,_,rfl⟩,Turn.same h⟩,fun g3 w1 q1 q2 q3 q4=>?_⟩,fun g2=>⟨⟨_,_,rfl⟩,Turn.same h⟩⟩,fun g1=>⟨⟨_,_,rfl⟩,Turn.same h⟩⟩⟩
 have g1:=of_decide_eq_false g1
 have g2:=of_decide_eq_false g2
 have g3:=of_decide_eq_false g3
 have hU:=Upd.same no q1 q2 q3 q4
 obtain⟨g,hR,hV⟩:=id h
 have hB:=hR.blk.upd hU id
 obtain⟨i,hi,ei⟩:∃i:Nat,i<4/\g.at_=(i:Int):=⟨g.at_.toNat,by have:=hV.at_;omega,by have:=hV.at_;omega⟩
 refine⟨_,rfl,_,hB.cell rfl,_,rfl,hV.at_,?_⟩
 rw[ei,Int.toNat_natCast,Addr.add_add]
 refine hB.wr (k:=2+i*2) (by simp[GvS.cells];omega) fun w2 hW=>?_
 have hc:setL g.cells (2+i*2) [.int .i64 x,.int .i64 y]=({feedS g i (x,y)with at_:=g.at_}:GvS).cells:=by
  match i,hi with
  | 0,_|1,_|2,_|3,_=>rfl
 rw[hc]at hW
 refine⟨_,rfl,_,hW.blk'.cell rfl,by decide,_,rfl,hW.blk'.wr (k:=10) (by simp[GvS.cells]) fun w3 hW3=>?_⟩
 have hc3:setL ({feedS g i (x,y)with at_:=g.at_}:GvS).cells 10 [.int .i64 (Int.tmod (IntKind.wrap .i64 (g.at_+1)) 4)]=(feedS g i (x,y)).cells:=by
  rw[ei]
  match i,hi with
  | 0,_|1,_|2,_|3,_=>rfl
 rw[hc3]at hW3
 have hT:=hR.turned (w':=w3) (s':=feedS g i (x,y)) ((hU.mono (fun _ _ h=>h.elim)).and (hW.U.and hW3.U)) hW3.blk'
 have hV':(feedS g i (x,y)).V:=by
  have hq:feedI (x,y):=⟨⟨by simp only;omega,by simp only;omega⟩,by simp only;omega,by simp only;omega⟩
  match i,hi with
  | 0,_=>exact⟨hV.lim,hq,hV.f1,hV.f2,hV.f3,feedS_at g _ (x,y)⟩
  | 1,_=>exact⟨hV.lim,hV.f0,hq,hV.f2,hV.f3,feedS_at g _ (x,y)⟩
  | 2,_=>exact⟨hV.lim,hV.f0,hV.f1,hq,hV.f3,feedS_at g _ (x,y)⟩
  | 3,_=>exact⟨hV.lim,hV.f0,hV.f1,hV.f2,hq,feedS_at g _ (x,y)⟩
 obtain⟨F',h1,h2,h3⟩:=hT
 refine⟨(ffreq_ok h1 hV').mono ?_⟩
 rintro e w4 ⟨⟨n,rfl⟩,hU4⟩
 refine⟨_,rfl,⟨_,_,rfl⟩,F',⟨_,(Frame.rw ..).upd h1 hU4 (fun _ _ h=>h),hV'⟩,h2.trans hU4 (fun _ _ h=>h.elim),h3⟩
end
end Go.Dav
namespace Go.Dav
open Go.Proofs
def wayL:List (List Int):=[[0,0,100],[2,10,60],[10,50,25],[50,400,5]]
def wayC:List Value:=wayL.flatMap (fun l=>l.map (Value.int .i64))
theorem itab_ok (w:World):Calls Tryz.prog 218 #[] w fun e w'=>(∃p,e=.returned (.slice (some p) 4 4)/\Cells w' (some p) wayC)/\Upd no w w':=by
 refine u218 ?_
 rw[t218]
 refine⟨fun w1 hN=>⟨⟨_,rfl,?_⟩,hN.upd no⟩⟩
 have hB:Blk w1 w.heap.size wayC _:=hN.blk'
 intro j v hv
 exact⟨_,rfl,hB.cell hv⟩
theorem way_at {w:World} {p:Addr} (h:Cells w (some p) wayC) {i:Nat} (hi:i<4) {j:Nat} (hj:j<3):w.cell? ((p.add (i*3)).add j)=some (.int .i64 ((wayL[i]'hi).getD j 0)):=by
 rw[Addr.add_add]
 obtain⟨a,ha,hc⟩:=h (i*3+j) (.int .i64 ((wayL[i]'hi).getD j 0)) (by
  match i,hi,j,hj with
  | 0,_,0,_|0,_,1,_|0,_,2,_|1,_,0,_|1,_,1,_|1,_,2,_|2,_,0,_|2,_,1,_|2,_,2,_|3,_,0,_|3,_,1,_|3,_,2,_=>rfl)
 cases ha
 exact hc
def chooseF (rest limit:Int):Nat->Int
 | 0=>0
 | i+1=>if(wayL.getD (i+1) []).getD 0 0<=limit/\(wayL.getD (i+1) []).getD 1 0<=rest then((i+1:Nat):Int)else chooseF rest limit i
theorem chooseF_eq (rest limit:Int):chooseF rest limit 3=chooseI rest limit:=by
 unfold chooseI
 simp[chooseF,wayL]
theorem ichoose_ok {w:World} {p:Addr} (h:Cells w (some p) wayC) (rest limit:Int):Calls Tryz.prog 217 #[.slice (some p) 4 4,.int .i64 rest,.int .i64 limit] w fun e w'=>e=.returned (.int .i64 (chooseI rest limit))/\w'=w:=by
 refine u217 ?_
 rw[t217]
 refine⟨WP_loop okProg (M:=M217) (σ:=Nat) (fun i=>e217_1 (some p) 4 4 rest limit (i:Int)) (fun i w'=>i<=3/\chooseF rest limit i=chooseI rest limit/\w'=w) (fun i _=>i) 3 ⟨rfl,rfl,rfl,rfl,trivial⟩ ⟨by omega,chooseF_eq rest limit,rfl⟩ ?_⟩
 rintro i w1 ⟨hi,he,rfl⟩
 rw[t217_1]
 refine⟨fun g=>?_,fun g=>?_⟩
 ·have g:=of_decide_eq_true g
  obtain⟨k,rfl⟩:∃k,i=k+1:=⟨i-1,by omega⟩
  have hk:k+1<4:=by omega
  have hr:(0:Int)<=((k+1:Nat):Int)/\((k+1:Nat):Int)<((4:Nat):Int):=⟨by omega,by omega⟩
  have hget:wayL.getD (k+1) []=wayL[k+1]'hk:=by rw[List.getD_eq_getElem?_getD,List.getElem?_eq_getElem (show k+1<wayL.length from hk)];rfl
  have step:∀(hh:¬((wayL[k+1]'hk).getD 0 0<=limit/\(wayL[k+1]'hk).getD 1 0<=rest)),chooseF rest limit k=chooseI rest limit:=fun hh=>by
   rw[<-he,chooseF,hget,if_neg hh]
  refine⟨hr,p,rfl,_,way_at h hk (j:=0) (by omega),fun g1=>⟨hr,p,rfl,_,way_at h hk (j:=1) (by omega),fun g2=>?_,fun g2=>?_⟩,fun g1=>?_⟩
  ·have g1:=of_decide_eq_true g1
   have g2:=of_decide_eq_true g2
   rw[<-he,chooseF,hget,if_pos ⟨g1,g2⟩]
   exact⟨rfl,rfl⟩
  ·have g2:=of_decide_eq_false g2
   exact⟨k,⟨rfl,rfl,rfl,by rw[w64 (by omega),show((k+1:Nat):Int)-1=(k:Int) by omega];rfl,trivial⟩,⟨by omega,step (fun hh=>g2 hh.2),rfl⟩,by omega⟩
  ·have g1:=of_decide_eq_false g1
   exact⟨k,⟨rfl,rfl,rfl,by rw[w64 (by omega),show((k+1:Nat):Int)-1=(k:Int) by omega];rfl,trivial⟩,⟨by omega,step (fun hh=>g1 hh.1),rfl⟩,by omega⟩
 ·have g:=of_decide_eq_false g
  have:i=0:=by omega
  subst this
  rw[<-he]
  exact⟨rfl,rfl⟩
theorem run_min64 (x y:Int) (w:World):(Builtin.min_ #[2,2] 2 #[.int .i64 x,.int .i64 y]).run Tryz.prog w=.ok (.int .i64 (if y<x then y else x)) w:=by
 simp[Builtin.min_,Builtin.min2]
theorem ipredict_ok {now due:Int} (h:now<=1152921504606846976) (hd:due<=1152921504606846976) (kn:Bool) (w:World):Calls Tryz.prog 215 #[.int .i64 now,.int .i64 due,.bool kn] w fun e w'=>e=.returned (.int .i64 (predictI now due kn))/\w'=w:=by
 refine u215 ?_
 rw[t215]
 unfold predictI
 refine⟨fun g=>?_,fun g=>⟨fun g1=>⟨fun g2=>?_,fun g2=>?_⟩,fun g1=>?_⟩⟩
 ·have g:kn=false:=by simpa using g
  subst g
  exact⟨rfl,rfl⟩
 ·have g:kn=true:=by simpa using g
  have g2:=of_decide_eq_true g2
  subst g
  rw[if_pos rfl,if_pos (.inr g2)]
  exact⟨rfl,rfl⟩
 ·have g:kn=true:=by simpa using g
  have g1:=of_decide_eq_false g1
  have g2:=of_decide_eq_false g2
  subst g
  refine⟨_,w,run_min64 _ _ _,?_,rfl⟩
  rw[w64 (by omega),if_pos rfl,if_neg (show ¬(now<0∨due<=now) by omega)]
  congr 2
  split<;>omega
 ·have g:kn=true:=by simpa using g
  have g1:=of_decide_eq_true g1
  subst g
  rw[if_pos rfl,if_pos (.inl g1)]
  exact⟨rfl,rfl⟩
end Go.Dav
namespace Go.Dav
open Go.Proofs
def rqE2 (r:Req):List Value:=[.int .i64 r.stages,.int .i64 r.did,.bool r.back]
abbrev RnO (b:Nat):Ob Req:=Rw b 385 rqE2
theorem snew_ok_Desk (n:Int) (w:World) (hn:1<=n/\n<=64):Calls Tryz.prog 262 #[.int .i64 n] w fun e w'=>e=.returned (.tuple #[.pointer (some ⟨w.heap.size,0,none⟩),.int .i64 0])/\Newed w w' (.cells (List.toArray [.int .i64 n,.int .i64 0,.bool false]) 385 (0,0)):=by
 refine u262 ?_
 rw[t262]
 refine⟨fun _=>⟨fun g=>?_,fun _=>⟨fun w1 hN=>⟨rfl,hN⟩⟩⟩,fun g=>?_⟩
 ·have:=of_decide_eq_true g;omega
 ·have:=of_decide_eq_true g;omega
section
variable {b:Nat} {w:World} {F:Fp} {r:Req}
theorem at_ok_Desk (h:RnO b w F r) (hd:0<=r.did/\r.did<=64):Calls Tryz.prog 295 #[.pointer (some ⟨b,0,none⟩)] w fun e w'=>e=.returned (.tuple #[.int .i64 r.now.1,.bool r.now.2.1,.bool r.now.2.2])/\Upd no w w':=by
 refine u295 ?_
 rw[t295]
 refine⟨fun g=>(by cases g),fun _ w1 q1 q2 q3 q4=>?_⟩
 have hU:=Upd.same no q1 q2 q3 q4
 have hB:=h.blk.upd hU id
 have hw:IntKind.wrap .i64 (r.did-1)=r.did-1:=w64 (by omega)
 refine⟨_,rfl,_,hB.cell rfl,fun g1=>⟨_,rfl,_,hB.cell rfl,fun g2=>⟨_,rfl,_,hB.cell rfl,fun g3=>?_,fun g3=>?_⟩,fun g2=>?_⟩,fun g1=>⟨_,rfl,_,hB.cell rfl,fun g2=>?_,fun g2=>?_⟩⟩
 ·simp[g1]at g3
 ·refine⟨_,rfl,_,hB.cell rfl,fun g4=>⟨_,rfl,_,hB.cell rfl,?_,hU⟩,fun g4=>?_⟩
  ·rw[hw]
   have:r.did≠0:=by simpa using g2
   unfold Req.now
   simp[g1,this]
  ·rw[g1]at g4;cases g4
 ·intro w2 k1 k2 k3 k4
  have hU2:=Upd.same no k1 k2 k3 k4
  have hB2:=hB.upd hU2 id
  refine⟨_,rfl,_,hB2.cell rfl,?_,hU.and hU2⟩
  have:r.did=0:=by simpa using g2
  unfold Req.now
  simp[g1,this]
 ·refine⟨_,rfl,_,hB.cell rfl,_,rfl,_,hB.cell rfl,fun g3=>?_,fun g3=>?_⟩
  ·intro w2 k1 k2 k3 k4
   have hU2:=Upd.same no k1 k2 k3 k4
   have hB2:=hB.upd hU2 id
   refine⟨_,rfl,_,hB2.cell rfl,?_,hU.and hU2⟩
   have:r.did=r.stages:=by simpa using g3
   unfold Req.now
   simp[g1,this]
  ·have hne:¬r.did=r.stages:=by simpa using g3
   refine⟨_,rfl,_,hB.cell rfl,fun g4=>?_,fun g4=>⟨_,rfl,_,hB.cell rfl,?_,hU⟩⟩
   ·rw[g1]at g4;cases g4
   ·unfold Req.now
    simp[g1,hne]
 ·rw[g1]at g2;cases g2
def didR (r:Req):Req:={r with did:=if r.back then r.did-1 else r.did+1}
theorem sdone_ok (h:RnO b w F r) (hd:0<=r.did/\r.did<=64):Calls Tryz.prog 301 #[.pointer (some ⟨b,0,none⟩)] w fun e w'=>e=.returned (.int .i64 (if r.over then 6 else 0))/\Turn (RnO b) w w' F (if r.over then r else didR r):=by
 refine u301 ?_
 rw[t301]
 refine⟨(at_ok_Desk h hd).mono ?_⟩
 rintro e w1 ⟨rfl,hU⟩
 have hB:=h.blk.upd hU id
 have h1:=(Frame.rw ..).upd h hU (fun _ _ h=>h)
 refine⟨_,_,_,rfl,fun g=>(by cases g),fun _=>⟨fun g=>?_,fun g=>?_⟩⟩
 ·have g:r.over=true:=g
  rw[g]
  exact⟨rfl,Turn.quiet h hU⟩
 ·have g:r.over=false:=g
  have hnow:r.now.2.1=r.back:=by
   unfold Req.over Req.now at g
   unfold Req.now
   split
   ·rfl
   ·split<;>simp_all
  rw[g,hnow]
  refine⟨fun gb=>⟨_,rfl,_,hB.cell rfl,_,rfl,hB.wr (by simp[rqE2]) fun w2 hW=>⟨rfl,?_⟩⟩,fun gb=>⟨_,rfl,_,hB.cell rfl,_,rfl,hB.wr (by simp[rqE2]) fun w2 hW=>⟨rfl,?_⟩⟩⟩
  ·have e:setL (rqE2 r) 1 [Value.int .i64 (IntKind.wrap .i64 (r.did-1))]=rqE2 (didR r):=by
    rw[w64 (by omega)];simp[rqE2,setL,didR,gb]
   rw[e]at hW
   exact h.turned ((hU.nn).and hW.U) hW.blk'
  ·have e:setL (rqE2 r) 1 [Value.int .i64 (IntKind.wrap .i64 (r.did+1))]=rqE2 (didR r):=by
    rw[w64 (by omega)];simp[rqE2,setL,didR,gb]
   rw[e]at hW
   exact h.turned ((hU.nn).and hW.U) hW.blk'
theorem sfail_ok (h:RnO b w F r) (hd:0<=r.did/\r.did<=64) (ho:r.over=false) (hb:r.back=false):Calls Tryz.prog 296 #[.pointer (some ⟨b,0,none⟩)] w fun e w'=>e=.returned (.int .i64 0)/\Turn (RnO b) w w' F {r with back:=true}:=by
 refine u296 ?_
 rw[t296]
 refine⟨(at_ok_Desk h hd).mono ?_⟩
 rintro e w1 ⟨rfl,hU⟩
 have hB:=h.blk.upd hU id
 have hnow:r.now.2.1=false:=by
  unfold Req.now
  split
  ·exact hb
  ·rw[hb];rfl
 refine⟨_,_,_,rfl,fun g=>(by cases g),fun _=>⟨fun g=>⟨fun g=>?_,fun g=>⟨_,rfl,hB.wr (by simp[rqE2]) fun w2 hW=>⟨rfl,?_⟩⟩⟩,fun g=>?_⟩⟩
 ·have:r.over=true:=g
  rw[ho]at this;cases this
 ·exact h.turned ((hU.nn).and hW.U) hW.blk'
 ·rw[hnow]at g;cases g
theorem swhy_ok (h:RnO b w F r) (hd:0<=r.did/\r.did<=64) (ho:r.over=true):Calls Tryz.prog 302 #[.pointer (some ⟨b,0,none⟩)] w fun e w'=>e=.returned (.int .i64 r.why)/\Upd no w w':=by
 refine u302 ?_
 rw[t302]
 refine⟨(at_ok_Desk h hd).mono ?_⟩
 rintro e w1 ⟨rfl,hU⟩
 have hnow:r.now.2.1=r.back:=by
  unfold Req.over Req.now at ho
  unfold Req.now
  split
  ·rfl
  ·rename_i hh;rw[if_neg hh]at ho;split at ho<;>cases ho
 refine⟨_,_,_,rfl,fun g=>(by cases g),fun _=>⟨fun g=>?_,fun g=>⟨fun g=>?_,fun g=>?_⟩⟩⟩
 ·have:r.now.2.2=true:=ho
  rw[this]at g;cases g
 ·rw[hnow]at g
  unfold Req.why
  rw[if_pos g];exact⟨rfl,hU⟩
 ·rw[hnow]at g
  unfold Req.why
  rw[if_neg (by simp[g])];exact⟨rfl,hU⟩
end
theorem mpP:MapT Tryz.prog 134 3 4 (.bool false):=⟨by kernel_rfl,by kernel_rfl,by kernel_rfl,by kernel_rfl⟩
theorem run_lookup_nil {P:Program} {t k e:TypeId} {z:Value} (hT:MapT P t k e z) (n:Int) (w:World):(Instr.lookup t (.map none) (.int .i64 n) false).run P w=.ok z w:=by
 have hk:MapKept.IsKey (.int .i64) (.int .i64 n):=rfl
 have hz:(zeroValue e).run P w=.ok z w:=by rw[run_zeroValue_ok hT.ok,hT.zero]
 have k2:Instr.findNow (.int .i64) (.int .i64 n) [] 0=some none:=rfl
 simp[Instr.lookup,run_underlying_ok hT.under,MapKept.run_checkKey hT.key hk,MapKept.run_findKey hT.key k2,hz,Result.andThen]
abbrev RqD:=Nat×Nat×Req
def rqE1 (x:RqD):List Value:=[.pointer (some ⟨x.2.1,0,none⟩),.bool x.2.2.up,.int .i64 x.2.2.cpu,.int .i64 x.2.2.who,.bool x.2.2.told]
abbrev RqP (b b2:Nat):Ob (RqD×Req):=Star (Rw b 284 rqE1) (RnO b2)
def RqOp:Ob (Option RqD):=fun w F x=>match x with
 | none=>∀i,¬F i
 | some q=>RqP q.1 q.2.1 w F (q,q.2.2)
instance Frame.rqop:Frame RqOp where
 upd:=by
  rintro w w' F G (_|q) h k hG
  ·exact h
  ·exact(Frame.star (A:=Rw q.1 284 rqE1) (B:=RnO q.2.1)).upd h k hG
 lt:=by
  rintro w F (_|q) h
  ·exact fun i hi=>absurd hi (h i)
  ·exact(Frame.star (A:=Rw q.1 284 rqE1) (B:=RnO q.2.1)).lt h
abbrev PlM:=Nat×((Int->Option Bool)×Nat)
def MpOp:Ob (Option PlM):=fun w F x=>match x with
 | none=>∀i,¬F i
 | some q=>MapO q.1 Value.bool w F q.2
instance Frame.mpop:Frame MpOp where
 upd:=by
  rintro w w' F G (_|q) h k hG
  ·exact h
  ·exact(Frame.map q.1 Value.bool).upd h k hG
 lt:=by
  rintro w F (_|q) h
  ·exact fun i hi=>absurd hi (h i)
  ·exact(Frame.map q.1 Value.bool).lt h
def dkE (p:Option Addr×Option Nat):List Value:=[.pointer p.1,.map p.2]
abbrev DkX (b:Nat):Ob (((Option Addr×Option Nat)×Option RqD)×Option PlM):=Star (Star (Rw b 136 dkE) RqOp) MpOp
def dkP (q:Option RqD) (m:Option PlM):Option Addr×Option Nat:=(q.map fun q=>⟨q.1,0,none⟩,m.map (·.1))
def RnV (r:Req):Prop:=0<=r.did/\r.did<=r.stages/\r.stages<=64
theorem RnV.did {r:Req} (h:RnV r):0<=r.did/\r.did<=64:=⟨h.1,Int.le_trans h.2.1 h.2.2⟩
structure DkL (q:Option RqD) (m:Option PlM) (d:DkS):Prop where
 r:q.map (·.2.2)=d.1
 p:∀k,d.2 k=((m.bind fun m=>m.2.1 k).getD false)
 v:∀r,d.1=some r->RnV r
def DkO (b:Nat):Ob DkS:=fun w F d=>∃q m,DkX b w F ((dkP q m,q),m)/\DkL q m d
instance Frame.dko (b:Nat):Frame (DkO b) where
 upd:=fun⟨q,m,h,k⟩ hU hG=>⟨q,m,Frame.star.upd h hU hG,k⟩
 lt:=fun⟨_,_,h,_⟩=>Frame.star.lt h
section
variable {b:Nat} {w w':World} {F:Fp} {d:DkS} {q:Option RqD} {m:Option PlM}
theorem DkX.blk {p:Option Addr×Option Nat} (h:DkX b w F ((p,q),m)):Blk w b (dkE p) 136:=by
 obtain⟨F1,h1,_⟩:=h.left
 obtain⟨F2,h2,_⟩:=h1.left
 exact h2.blk
theorem Turn.dk {q':Option RqD} {m':Option PlM} {d':DkS} (h:Turn (DkX b) w w' F ((dkP q' m',q'),m')) (k:DkL q' m' d'):Turn (DkO b) w w' F d':=by
 obtain⟨F',h1,h2⟩:=h
 exact⟨F',⟨q',m',h1,k⟩,h2⟩
theorem DkX.req {q0:RqD} (h:DkX b w F ((dkP (some q0) m,some q0),m)):Blk w q0.1 (rqE1 q0) 284/\Blk w q0.2.1 (rqE2 q0.2.2) 385:=by
 obtain⟨F1,h1,_⟩:=h.left
 obtain⟨F2,h2,_⟩:=h1.right
 have h2:RqP q0.1 q0.2.1 w F2 (q0,q0.2.2):=h2
 obtain⟨F3,h3,_⟩:=h2.left
 obtain⟨F4,h4,_⟩:=h2.right
 exact⟨h3.blk,h4.blk⟩
theorem DkX.run {q0:RqD} (h:DkX b w F ((dkP (some q0) m,some q0),m)):∃F1,RnO q0.2.1 w F1 q0.2.2/\∀w' (r':Req),r'.up=q0.2.2.up->r'.cpu=q0.2.2.cpu->r'.who=q0.2.2.who->r'.told=q0.2.2.told->Turn (RnO q0.2.1) w w' F1 r'->
  Turn (DkX b) w w' F ((dkP (some (q0.1,q0.2.1,r')) m,some (q0.1,q0.2.1,r')),m):=by
 obtain⟨F1,h1,k1⟩:=h.left
 obtain⟨F2,h2,k2⟩:=h1.right
 have h2:RqP q0.1 q0.2.1 w F2 (q0,q0.2.2):=h2
 obtain⟨F4,h4,k4⟩:=h2.right
 refine⟨F4,h4,fun w' r' e1 e2 e3 e4 hT=>?_⟩
 have hT2:Turn RqOp w w' F2 (some (q0.1,q0.2.1,r')):=by
  obtain⟨F',t1,t2⟩:=k4 _ _ hT
  refine⟨F',?_,t2⟩
  obtain⟨A1,A2,a1,a2,a3,a4⟩:=t1
  refine⟨A1,A2,?_,a2,a3,a4⟩
  obtain⟨x1,x2⟩:=a1
  refine⟨x1,?_⟩
  have e:rqE1 (q0.1,q0.2.1,r')=rqE1 q0:=by simp only[rqE1,e1,e2,e3,e4]
  show Blk w' q0.1 (rqE1 (q0.1,q0.2.1,r')) _
  rw[e];exact x2
 exact k1 _ _ (k2 _ _ hT2)
theorem DkX.toldT {q0:RqD} (h:DkX b w F ((dkP (some q0) m,some q0),m)) (t:Bool) {K:World->Prop} (hK:∀w',Turn (DkX b) w w' F ((dkP (some (q0.1,q0.2.1,{q0.2.2 with told:=t})) m,some (q0.1,q0.2.1,{q0.2.2 with told:=t})),m)->K w') :
  Wr w ((⟨q0.1,0,none⟩:Addr).add 4) [.bool t] K:=by
 obtain⟨F1,h1,k1⟩:=h.left
 obtain⟨F2,h2,k2⟩:=h1.right
 have h2:RqP q0.1 q0.2.1 w F2 (q0,q0.2.2):=h2
 obtain⟨F3,h3,k3⟩:=h2.left
 refine h3.blk.wr (by simp[rqE1]) fun w' hW=>hK w' ?_
 have hT:Turn (Rw q0.1 284 rqE1) w w' F3 (q0.1,q0.2.1,{q0.2.2 with told:=t}):=h3.turned hW.U hW.blk'
 have hT2:Turn RqOp w w' F2 (some (q0.1,q0.2.1,{q0.2.2 with told:=t})):=by
  obtain⟨F',t1,t2⟩:=k3 _ _ hT
  exact⟨F',t1,t2⟩
 exact k1 _ _ (k2 _ _ hT2)
theorem DkL.set {q0:RqD} {r':Req} (k:DkL (some q0) m d) (hv:RnV r'):DkL (some (q0.1,q0.2.1,r')) m (some r',d.2):=⟨rfl,k.p,fun r hr=>(by cases hr;exact hv)⟩
theorem DkL.some_ {q0:RqD} (k:DkL (some q0) m d):d.1=some q0.2.2:=k.r.symm
theorem DkL.none_ (k:DkL none m d):d.1=none:=k.r.symm
theorem hbusy_ok (h:DkO b w F d):Calls Tryz.prog 99 #[.pointer (some ⟨b,0,none⟩)] w fun e w'=>e=.returned (.bool (dkBusy d))/\w'=w:=by
 obtain⟨q,m,h,k⟩:=h
 refine u99 ?_
 rw[t99]
 refine⟨fun _=>⟨_,rfl,_,h.blk.cell rfl,?_,rfl⟩,fun g=>(by cases g)⟩
 unfold dkBusy
 rw[<-k.r]
 cases q<;>rfl
theorem hup_ok (h:DkO b w F d):Calls Tryz.prog 100 #[.pointer (some ⟨b,0,none⟩)] w fun e w'=>e=.returned (.bool (dkUp d))/\w'=w:=by
 refine u100 ?_
 rw[t100]
 refine⟨(hbusy_ok h).mono ?_⟩
 rintro e w' ⟨rfl,rfl⟩
 obtain⟨q,m,h,k⟩:=h
 unfold dkUp dkBusy
 cases q with
 | none=>rw[k.none_];exact⟨_,rfl,fun g=>(by cases g),fun _=>⟨rfl,rfl⟩⟩
 | some q0=>rw[k.some_];exact⟨_,rfl,fun _=>⟨_,rfl,_,h.blk.cell rfl,_,rfl,_,h.req.1.cell rfl,rfl,rfl⟩,fun g=>(by cases g)⟩
theorem hcpu_ok (h:DkO b w F d):Calls Tryz.prog 101 #[.pointer (some ⟨b,0,none⟩)] w fun e w'=>e=.returned (.int .i64 (dkCpu d))/\w'=w:=by
 refine u101 ?_
 rw[t101]
 refine⟨(hbusy_ok h).mono ?_⟩
 rintro e w' ⟨rfl,rfl⟩
 obtain⟨q,m,h,k⟩:=h
 unfold dkCpu dkBusy
 cases q with
 | none=>rw[k.none_];exact⟨_,rfl,fun _=>⟨rfl,rfl⟩,fun g=>(by cases g)⟩
 | some q0=>rw[k.some_];exact⟨_,rfl,fun g=>(by cases g),fun _=>⟨_,rfl,_,h.blk.cell rfl,_,rfl,_,h.req.1.cell rfl,rfl,rfl⟩⟩
theorem hby_ok (h:DkO b w F d):Calls Tryz.prog 102 #[.pointer (some ⟨b,0,none⟩)] w fun e w'=>e=.returned (.int .i64 (dkBy d))/\w'=w:=by
 refine u102 ?_
 rw[t102]
 refine⟨(hbusy_ok h).mono ?_⟩
 rintro e w' ⟨rfl,rfl⟩
 obtain⟨q,m,h,k⟩:=h
 unfold dkBy dkBusy
 cases q with
 | none=>rw[k.none_];exact⟨_,rfl,fun _=>⟨rfl,rfl⟩,fun g=>(by cases g)⟩
 | some q0=>rw[k.some_];exact⟨_,rfl,fun g=>(by cases g),fun _=>⟨_,rfl,_,h.blk.cell rfl,_,rfl,_,h.req.1.cell rfl,rfl,rfl⟩⟩
theorem hover_ok (h:DkO b w F d):Calls Tryz.prog 211 #[.pointer (some ⟨b,0,none⟩)] w fun e w'=>e=.returned (.bool (dkOver d))/\Upd no w w':=by
 refine u211 ?_
 rw[t211]
 refine⟨(hbusy_ok h).mono ?_⟩
 rintro e w' ⟨rfl,rfl⟩
 obtain⟨q,m,h,k⟩:=h
 unfold dkOver dkBusy
 cases q with
 | none=>rw[k.none_];exact⟨_,rfl,fun _=>⟨rfl,Upd.refl _ _⟩,fun g=>(by cases g)⟩
 | some q0=>
  obtain⟨F1,h1,_⟩:=h.run
  have hv:=(k.v _ k.some_).did
  rw[k.some_]
  refine⟨_,rfl,fun g=>(by cases g),fun _=>⟨_,rfl,_,h.blk.cell rfl,_,rfl,_,h.req.1.cell rfl,⟨(at_ok_Desk h1 hv).mono ?_⟩⟩⟩
  rintro e w2 ⟨rfl,hU⟩
  exact⟨_,_,_,rfl,rfl,hU⟩
theorem hmay_ok (h:DkO b w F d):Calls Tryz.prog 294 #[.pointer (some ⟨b,0,none⟩)] w fun e w'=>e=.returned (.int .i64 (dkMay d))/\Upd no w w':=by
 have h0:=h
 obtain⟨q,m,h,k⟩:=h
 refine u294 ?_
 rw[t294]
 refine⟨fun g=>(by cases g),fun _=>⟨_,rfl,_,h.blk.cell rfl,?_⟩⟩
 unfold dkMay
 cases q with
 | none=>rw[k.none_];exact⟨fun _=>⟨rfl,Upd.refl _ _⟩,fun g=>(by cases g)⟩
 | some q0=>
  refine⟨fun g=>(by cases g),fun _=>⟨(hover_ok h0).mono ?_⟩⟩
  rintro e w2 ⟨rfl,hU⟩
  unfold dkOver
  rw[k.some_]
  refine⟨_,rfl,fun g=>?_,fun g=>?_⟩
  ·simp only at g⊢
   rw[g];exact⟨rfl,hU⟩
  ·simp only at g⊢
   rw[g];exact⟨rfl,hU⟩
theorem hcore_ok (n:Int) (w:World):Calls Tryz.prog 261 #[.int .i64 n] w fun e w'=>e=.returned (.bool (decide (dkIn n)))/\w'=w:=by
 refine u261 ?_
 rw[t261]
 unfold dkIn
 refine⟨fun g=>⟨?_,rfl⟩,fun g=>⟨?_,rfl⟩⟩
 ·have:=of_decide_eq_true g
  congr 2
  exact decide_eq_decide.2 (by omega)
 ·have:=of_decide_eq_false g
  congr 2
  exact(decide_eq_false (fun hh=>absurd hh.1 this)).symm
structure DkAt (b:Nat) (w:World) (F:Fp) (d:DkS) (r:Req) (bq b2:Nat) (mo:Option Nat) (F2:Fp):Prop where
 blk:Blk w b (dkE (some ⟨bq,0,none⟩,mo)) 136
 req:Blk w bq (rqE1 (bq,b2,r)) 284
 run:RnO b2 w F2 r
 did:RnV r
 runT:∀w' (r':Req),r'.up=r.up->r'.cpu=r.cpu->r'.who=r.who->r'.told=r.told->RnV r'->Turn (RnO b2) w w' F2 r'->Turn (DkO b) w w' F (some r',d.2)
 toldT:∀(t:Bool) (K:World->Prop),(∀w',Turn (DkO b) w w' F (some {r with told:=t},d.2)->K w')->Wr w ((⟨bq,0,none⟩:Addr).add 4) [.bool t] K
 look:∀k:Int,(Instr.lookup 134 (.map mo) (.int .i64 k) false).run Tryz.prog w=.ok (.bool (d.2 k)) w
 del:∀(k:Int) (k2 ty:TypeId),d.2 k=true->∃w',(Builtin.delete_ #[134,k2] ty #[.map mo,.int .i64 k]).run Tryz.prog w=.ok (.tuple #[]) w'/\Turn (DkO b) w w' F (d.1,fun j=>if j=k then false else d.2 j)
theorem DkO.open (h:DkO b w F d) {r:Req} (hr:d.1=some r):∃bq b2 mo F2,DkAt b w F d r bq b2 mo F2:=by
 obtain⟨q,m,h,k⟩:=h
 cases q with
 | none=>rw[k.none_]at hr;cases hr
 | some q0=>
  obtain⟨bq,b2,r0⟩:=q0
  have e:=k.some_
  rw[hr]at e
  cases e
  obtain⟨F2,h2,k2⟩:=h.run
  have hv0:=k.v _ hr
  refine⟨bq,b2,(dkP (some (bq,b2,r0)) m).2,F2,h.blk,h.req.1,h2,hv0,fun w' r' e1 e2 e3 e4 hv hT=>(k2 w' r' e1 e2 e3 e4 hT).dk (k.set hv),fun t K hK=>h.toldT t fun w' hT=>hK w' (hT.dk (k.set (r':={r0 with told:=t}) hv0)),fun j=>?_,fun j j2 ty hj=>?_⟩
  ·rw[k.p]
   cases m with
   | none=>exact run_lookup_nil mpP j w
   | some m0=>
    obtain⟨F3,h3,_⟩:=h.right
    have h3:MapO m0.1 Value.bool w F3 m0.2:=h3
    have:=run_lookup mpP h3 j false
    show(Instr.lookup _ (.map (some m0.1)) _ _).run _ _=_
    rw[this]
    cases h4:m0.2.1 j<;>simp[h4]
  ·rw[k.p]at hj
   cases m with
   | none=>cases hj
   | some m0=>
    obtain⟨F3,h3,k3⟩:=h.right
    have h3:MapO m0.1 Value.bool w F3 m0.2:=h3
    obtain⟨w',hrun,hT⟩:=run_del mpP h3 j j2 ty
    refine⟨w',hrun,?_⟩
    have hT2:Turn MpOp w w' F3 (some (m0.1,mdel m0.2 j)):=by
     obtain⟨F',t1,t2⟩:=hT
     exact⟨F',t1,t2⟩
    refine(show Turn (DkX b) w w' F ((dkP (some (bq,b2,r0)) (some (m0.1,mdel m0.2 j)),some (bq,b2,r0)),some (m0.1,mdel m0.2 j))from k3 _ _ hT2).dk ⟨k.r,fun i=>?_,k.v⟩
    simp only[Option.bind_some,mdel]
    rw[k.p]
    by_cases e:i=j
    ·rw[if_pos e,if_pos e];rfl
    ·rw[if_neg e,if_neg e];rfl
theorem DkX.wrP {p p':Option Addr×Option Nat} (h:DkX b w F ((p,q),m)) {k:Nat} {v:Value} (hk:k+1<=2) (e:setL (dkE p) k [v]=dkE p') {K:World->Prop} (hK:∀w',Turn (DkX b) w w' F ((p',q),m)->K w'):Wr w ((⟨b,0,none⟩:Addr).add k) [v] K:=by
 obtain⟨F0,h0,k0⟩:=h.left
 obtain⟨F1,h1,k1⟩:=h0.left
 refine h1.blk.wr (by simpa [dkE]using hk) fun w' hW=>hK w' (k0 _ _ (k1 _ _ ?_))
 rw[e]at hW
 exact h1.turned hW.U hW.blk'
theorem hplan_ok (h:DkO b w F d) (n:Int):Calls Tryz.prog 264 #[.pointer (some ⟨b,0,none⟩),.int .i64 n] w fun e w'=>e=.returned (.int .i64 (planE n))/\Turn (DkO b) w w' F (planS d n):=by
 have h0:=h
 obtain⟨q,m,h,k⟩:=h
 refine u264 ?_
 rw[t264]
 have nop:∀{x:Int},¬(0<=n/\n<10)->planE n=3/\planS d n=d:=fun hn=>by
  have e:planE n=3:=by unfold planE;rw[if_neg hn]
  exact⟨e,by unfold planS;rw[e];rfl⟩
 refine⟨fun g=>(by cases g),fun _=>⟨fun g1=>⟨fun g2=>?_,fun g2=>?_⟩,fun g1=>?_⟩⟩
 ·have g2:=of_decide_eq_true g2
  obtain⟨e1,e2⟩:=nop (x:=0) (by omega)
  rw[e1,e2];exact⟨rfl,Turn.same h0⟩
 ·have g1:=of_decide_eq_false g1
  have g2:=of_decide_eq_false g2
  have e1:planE n=0:=by unfold planE;rw[if_pos ⟨by omega,by omega⟩]
  have e2:planS d n=(d.1,fun j=>if j=n then true else d.2 j):=by unfold planS;rw[e1];rfl
  rw[e1,e2]
  cases m with
  | none=>
   refine⟨_,rfl,_,h.blk.cell rfl,fun _=>⟨fun w1 hN=>?_⟩,fun g=>(by cases g)⟩
   obtain⟨F3,h3,k3⟩:=h.right
   have hT1:Turn MpOp w w1 F3 (some (w.heap.size,((fun _=>none,0):(Int->Option Bool)×Nat))):=⟨_,MapO.new hN,hN.upd _,fun i hi=>.inr (Nat.le_of_eq hi.symm)⟩
   have hX1:=k3 _ _ hT1
   obtain⟨F1,hX,hU,hF⟩:=hX1
   refine⟨_,rfl,DkX.wrP hX (p':=dkP q (some (w.heap.size,((fun _=>none,0):(Int->Option Bool)×Nat)))) (by omega) (by simp[dkE,dkP,setL]) fun w2 hT2=>?_⟩
   obtain⟨F2,hX2,hU2,hF2⟩:=Turn.next hX hU hF hT2
   obtain⟨F4,h4,k4⟩:=hX2.right
   have h4:MapO w.heap.size Value.bool w2 F4 (fun _=>none,0):=h4
   obtain⟨w3,hrun,hT3⟩:=run_put mpP h4 n true
   have hT3':Turn MpOp w2 w3 F4 (some (w.heap.size,mput ((fun _=>none,0):(Int->Option Bool)×Nat) n true)):=by
    obtain⟨F',t1,t2⟩:=hT3
    exact⟨F',t1,t2⟩
   refine⟨_,rfl,_,(DkX.blk hX2).cell rfl,w3,hrun,rfl,(show Turn (DkX b) w w3 F ((dkP q (some (w.heap.size,mput ((fun _=>none,0):(Int->Option Bool)×Nat) n true)),q),some (w.heap.size,mput ((fun _=>none,0):(Int->Option Bool)×Nat) n true))from Turn.next hX2 hU2 hF2 (k4 _ _ hT3')).dk ⟨k.r,fun i=>?_,k.v⟩⟩
   simp only[Option.bind_some,mput]
   rw[k.p]
   by_cases e:i=n
   ·rw[if_pos e,if_pos e];rfl
   ·rw[if_neg e,if_neg e];rfl
  | some m0=>
   refine⟨_,rfl,_,h.blk.cell rfl,fun g=>(by cases g),fun _=>?_⟩
   obtain⟨F4,h4,k4⟩:=h.right
   have h4:MapO m0.1 Value.bool w F4 m0.2:=h4
   obtain⟨w3,hrun,hT3⟩:=run_put mpP h4 n true
   have hT3':Turn MpOp w w3 F4 (some (m0.1,mput m0.2 n true)):=by
    obtain⟨F',t1,t2⟩:=hT3
    exact⟨F',t1,t2⟩
   refine⟨_,rfl,_,h.blk.cell rfl,w3,hrun,rfl,(show Turn (DkX b) w w3 F ((dkP q (some (m0.1,mput m0.2 n true)),q),some (m0.1,mput m0.2 n true))from k4 _ _ hT3').dk ⟨k.r,fun i=>?_,k.v⟩⟩
   simp only[Option.bind_some,mput]
   rw[k.p]
   by_cases e:i=n
   ·rw[if_pos e,if_pos e];rfl
   ·rw[if_neg e,if_neg e];rfl
 ·have g1:=of_decide_eq_true g1
  obtain⟨e1,e2⟩:=nop (x:=0) (by omega)
  rw[e1,e2];exact⟨rfl,Turn.same h0⟩
theorem hbegin0_ok (h:DkX b w F ((dkP none m,none),m)) (k:DkL none m d) {up:Bool} {c who:Int} {n:Int} (hn:1<=n/\n<=64) (e:n=if up then 4 else 10) :
  CutD Tryz.prog M161 c161_0 (e161_0 (some ⟨b,0,none⟩) up c who n) w (k161_0 fun e w'=>e=.returned (.int .i64 0)/\Turn (DkO b) w w' F (some ⟨n,0,false,up,c,who,false⟩,d.2)):=by
 refine CutD.mk ?_
 rw[t161_0]
 refine⟨(snew_ok_Desk n w hn).mono ?_⟩
 rintro e w1 ⟨rfl,hN1⟩
 refine⟨_,_,rfl,fun g=>(by simp at g),fun _=>⟨fun w2 hN2=>?_⟩⟩
 have hR:RqP w1.heap.size w.heap.size w2 (fun i=>i=w1.heap.size∨i=w.heap.size) ((w1.heap.size,w.heap.size,⟨n,0,false,up,c,who,false⟩),⟨n,0,false,up,c,who,false⟩):=by
  refine⟨fun i=>i=w1.heap.size,fun i=>i=w.heap.size,Rw.new hN2 rfl,⟨fun _=>Iff.rfl,hN2.keep hN1.blk'⟩,fun i=>Iff.rfl,fun i hi hj=>?_⟩
  have:=hN1.size
  omega
 have hU:Upd no w w2:=(hN1.upd no).and (hN2.upd no)
 obtain⟨F0,h0,k0⟩:=h.left
 obtain⟨F1,h1,k1⟩:=h0.right
 have hsz:=hN1.size
 have hT1:Turn RqOp w w2 F1 (some (w1.heap.size,w.heap.size,⟨n,0,false,up,c,who,false⟩)):=⟨_,hR,hU.nn,fun i hi=>.inr (by rcases hi with rfl|rfl<;>omega)⟩
 obtain⟨F2,hX,hU2,hF2⟩:=k0 _ _ (k1 _ _ hT1)
 refine⟨_,rfl,DkX.wrP hX (p':=dkP (some (w1.heap.size,w.heap.size,⟨n,0,false,up,c,who,false⟩)) m) (by omega) (by simp[dkE,dkP,setL]) fun w3 hT2=>⟨rfl,(Turn.next hX hU2 hF2 hT2).dk ⟨rfl,k.p,fun r hr=>?_⟩⟩⟩
 cases hr
 exact⟨Int.le_refl _,by simp only;omega,hn.2⟩
theorem hbegin_ok (h:DkO b w F d) (up:Bool) (c who:Int):Calls Tryz.prog 161 #[.pointer (some ⟨b,0,none⟩),.bool up,.int .i64 c,.int .i64 who] w fun e w'=>e=.returned (.int .i64 (beginE d c who))/\Turn (DkO b) w w' F (beginS d up c who):=by
 have h0:=h
 obtain⟨q,m,h,k⟩:=h
 refine u161 ?_
 rw[t161]
 have nop:∀{x:Int},x≠0->beginE d c who=x->beginE d c who=x/\beginS d up c who=d:=fun hx e=>⟨e,by unfold beginS;rw[e,if_neg hx]⟩
 refine⟨fun g=>(by cases g),fun _=>⟨_,rfl,_,h.blk.cell rfl,fun g1=>?_,fun g1=>?_⟩⟩
 ·cases q with
  | none=>cases g1
  | some q0=>
   obtain⟨e1,e2⟩:=nop (x:=7) (by omega) (by unfold beginE;rw[k.some_];rfl)
   rw[e1,e2];exact⟨rfl,Turn.same h0⟩
 ·cases q with
  | some q0=>cases g1
  | none=>
   have hd:=k.none_
   refine⟨(hcore_ok c w).mono ?_⟩
   rintro e w1 ⟨rfl,rfl⟩
   refine⟨_,rfl,fun g2=>⟨(hcore_ok who w1).mono ?_⟩,fun g2=>?_⟩
   ·have g2:dkIn c:=by simpa using g2
    rintro e w2 ⟨rfl,rfl⟩
    refine⟨_,rfl,fun g3=>?_,fun g3=>⟨fun g4=>?_,fun g4=>?_⟩⟩
    ·have g3:¬dkIn who:=by simpa using g3
     obtain⟨e1,e2⟩:=nop (x:=3) (by omega) (by unfold beginE;rw[hd];simp[g3])
     rw[e1,e2];exact⟨rfl,Turn.same h0⟩
    ·have g3:dkIn who:=by simpa using g3
     have g4:c=who:=by simpa using g4
     obtain⟨e1,e2⟩:=nop (x:=2) (by omega) (by unfold beginE;rw[hd];subst g4;simp[g3])
     rw[e1,e2];exact⟨rfl,Turn.same h0⟩
    ·have g3:dkIn who:=by simpa using g3
     have g4:¬c=who:=by simpa using g4
     have e1:beginE d c who=0:=by unfold beginE;rw[hd];simp[g2,g3,g4]
     have e2:beginS d up c who=(some ⟨if up then 4 else 10,0,false,up,c,who,false⟩,d.2):=by unfold beginS;rw[if_pos e1]
     rw[e1,e2]
     refine⟨fun g=>?_,fun g=>?_⟩
     ·subst g
      exact hbegin0_ok h k (by omega) rfl
     ·subst g
      exact hbegin0_ok h k (by omega) rfl
   ·have g2:¬dkIn c:=by simpa using g2
    obtain⟨e1,e2⟩:=nop (x:=3) (by omega) (by unfold beginE;rw[hd];simp[g2])
    rw[e1,e2];exact⟨rfl,Turn.same h0⟩
theorem hdone_ok (h:DkO b w F d):Calls Tryz.prog 210 #[.pointer (some ⟨b,0,none⟩)] w fun e w'=>(∃x:Int,e=.returned (.int .i64 x))/\Turn (DkO b) w w' F (doneS d):=by
 refine u210 ?_
 rw[t210]
 refine⟨(hmay_ok h).mono ?_⟩
 rintro e w1 ⟨rfl,hU⟩
 have h1:=(Frame.dko b).upd h hU (fun _ _ h=>h)
 have key:(dkMay d≠0/\doneS d=d)∨(dkMay d=0/\∃r,d.1=some r/\r.over=false/\doneS d=(some {r with told:=false,did:=if r.back then r.did-1 else r.did+1},d.2)):=by
  unfold dkMay doneS
  cases hd:d.1 with
  | none=>exact .inl ⟨by simp,rfl⟩
  | some r=>
   cases ho:r.over with
   | true=>exact .inl ⟨by simp[ho],by simp[ho]⟩
   | false=>exact .inr ⟨by simp[ho],r,rfl,ho,by simp[ho]⟩
 rcases key with⟨e1,e2⟩|⟨e1,r,hd,ho,e2⟩
 ·rw[e2]
  exact⟨_,rfl,fun _=>⟨⟨_,rfl⟩,Turn.quiet h hU⟩,fun g=>absurd (by simpa using g) e1⟩
 ·rw[e1,e2]
  refine⟨_,rfl,fun g=>(by simp at g),fun _=>?_⟩
  obtain⟨bq,b2,mo,F2,hA⟩:=h1.open hd
  refine⟨_,rfl,_,hA.blk.cell rfl,_,rfl,hA.toldT false _ fun w2 hT2=>?_⟩
  obtain⟨F3,h3,hU3,hF3⟩:=hT2
  obtain⟨bq',b2',mo',F4,hB⟩:=h3.open (r:={r with told:=false}) rfl
  refine⟨_,rfl,_,hB.blk.cell rfl,_,rfl,_,hB.req.cell rfl,⟨(sdone_ok hB.run hB.did.did).mono ?_⟩⟩
  rintro e w3 ⟨rfl,hT⟩
  have ho':Req.over {r with told:=false}=false:=ho
  rw[ho']at hT⊢
  refine⟨_,rfl,⟨_,rfl⟩,?_⟩
  have hdid:RnV (didR {r with told:=false}):=by
   obtain⟨v1,v2,v3⟩:=hB.did
   unfold Req.over Req.now at ho
   unfold RnV didR
   simp only at v1 v2 v3⊢
   cases hb:r.back
   ·have:r.did≠r.stages:=fun e=>by simp[hb,e]at ho
    simp;omega
   ·have:r.did≠0:=fun e=>by simp[hb,e]at ho
    simp;omega
  have:=hB.runT w3 (didR {r with told:=false}) rfl rfl rfl rfl hdid (by simpa using hT)
  have:=Turn.next h3 hU3 hF3 this
  exact Turn.next h1 hU.nn (fun i hi=>.inl hi) this
theorem hend_ok (h:DkO b w F d) (ho:dkOver d=true):Calls Tryz.prog 212 #[.pointer (some ⟨b,0,none⟩)] w fun e w'=>e=.returned (.tuple #[.int .i64 (endE' d).1,.int .i64 (endE' d).2])/\Turn (DkO b) w w' F (endS d):=by
 obtain⟨r,hr,ho⟩:∃r,d.1=some r/\r.over=true:=by
  unfold dkOver at ho
  cases hd:d.1 with
  | none=>rw[hd]at ho;cases ho
  | some r=>rw[hd]at ho;exact⟨r,rfl,ho⟩
 have e1:endE' d=(r.why,0):=by unfold endE';rw[hr];simp[ho]
 have e2:endS d=(none,d.2):=by unfold endS;rw[hr];simp[ho]
 rw[e1,e2]
 obtain⟨bq,b2,mo,F2,hA⟩:=h.open hr
 refine u212 ?_
 rw[t212]
 refine⟨fun g=>(by cases g),fun _=>⟨_,rfl,_,hA.blk.cell rfl,fun g=>(by cases g),fun _=>⟨(hover_ok h).mono ?_⟩⟩⟩
 rintro e w1 ⟨rfl,hU⟩
 have hov:dkOver d=true:=by unfold dkOver;rw[hr];exact ho
 rw[hov]
 have h1:=(Frame.dko b).upd h hU (fun _ _ h=>h)
 obtain⟨bq,b2,mo,F2,hA⟩:=h1.open hr
 refine⟨_,rfl,fun g=>(by simp at g),fun _=>⟨_,rfl,_,hA.blk.cell rfl,_,rfl,_,hA.req.cell rfl,⟨(swhy_ok hA.run hA.did.did ho).mono ?_⟩⟩⟩
 rintro e w2 ⟨rfl,hU2⟩
 have h2:=(Frame.dko b).upd h1 hU2 (fun _ _ h=>h)
 have hUU:=hU.and hU2
 obtain⟨q,m,hX,k⟩:=h2
 refine⟨_,rfl,_,rfl,DkX.wrP hX (p':=dkP none m) (by omega) (by simp[dkE,dkP,setL]) fun w3 hT=>⟨rfl,?_⟩⟩
 obtain⟨F6,hX6,hU6,hF6⟩:=hT
 obtain⟨F0,h0,k0⟩:=Star.left hX6
 obtain⟨F7,h7,k7⟩:=h0.right
 have hT7:Turn RqOp w3 w3 F7 none:=⟨fun _=>False,fun _ h=>h,Upd.refl _ _,fun _ h=>h.elim⟩
 have hT8:=(show Turn (DkX b) w2 w3 F ((dkP none m,none),m)from Turn.next hX6 hU6 hF6 (k0 _ _ (k7 _ _ hT7))).dk (d':=(none,d.2)) ⟨rfl,k.p,fun r hr=>(by cases hr)⟩
 obtain⟨F9,a1,a2,a3⟩:=hT8
 exact⟨F9,a1,(hUU.nn).trans a2 (fun i _ hi=>hi),fun i hi=>(a3 i hi).imp id fun h=>Nat.le_trans hUU.size h⟩
def stE3 (x:Int×Bool×Bool):List Value:=[.int .i64 x.1,.bool x.2.1,.bool x.2.2]
abbrev SpO3 (b:Nat):Ob (Int×Bool×Bool):=Rw b 303 stE3
theorem hnext1_ok {W:World} {F0:Fp} {r:Req} {p1 p4:Nat} {x:Int×Bool×Bool} {n:Int} {bk fl:Bool} (hM:Turn (Star (Star (DkO b) (SpO3 p1)) (SpO3 p4)) W w F0 ((d,x),(n,bk,fl))) (hr:d.1=some r) {r2:Req} {f2:Int->Bool} (h2:r2={r with told:=true}) (h3:f2=d.2) :
  CutD Tryz.prog M208 c208_1 (e208_1 (some ⟨b,0,none⟩) ⟨p1,0,none⟩ ⟨p4,0,none⟩) w (k208_1 fun e w'=>e=.returned (.tuple #[.agg #[.int .i64 n,.bool bk,.bool fl],.int .i64 0])/\Turn (DkO b) W w' F0 (some r2,f2)):=by
 subst h2
 subst h3
 refine CutD.mk ?_
 rw[t208_1]
 obtain⟨F1,hA,hT⟩:=hM.ll
 obtain⟨bq,b2,mo,F2,hD⟩:=hA.open hr
 refine⟨_,rfl,_,hD.blk.cell rfl,_,rfl,hD.toldT true _ fun w2 hT2=>?_⟩
 replace hM:=hT _ _ hT2
 clear hA hT hT2 hD
 obtain⟨F1,hA,hT⟩:=hM.right
 refine⟨_,hA.blk.cell rfl,_,hA.blk.cell rfl,_,hA.blk.cell rfl,?_⟩
 clear hA hT
 obtain⟨F1,hA,hT⟩:=hM.lr
 refine hA.blk.wr0 (by simp[stE3]) fun w3 hW=>?_
 replace hM:=hT _ _ (hA.turned (s':=(n,bk,fl)) hW.U hW.blk')
 clear hA hT hW
 obtain⟨F1,hA,hT⟩:=hM.lr
 exact⟨_,hA.blk.cell rfl,_,hA.blk.cell rfl,_,hA.blk.cell rfl,rfl,hM.drop.drop⟩
theorem hnext0_ok {W:World} {F0:Fp} {r:Req} {p1 p4:Nat} {x:Int×Bool×Bool} {n:Int} {bk fl:Bool} (hM:Turn (Star (Star (DkO b) (SpO3 p1)) (SpO3 p4)) W w F0 ((d,x),(n,bk,fl))) (hr:d.1=some r) (ho:r.over=false) (hf:fl=true->r.back=false/\d.2 n=true) {r2:Req} {f2:Int->Bool} (h2:r2={r with told:=true,back:=r.back||fl}) (h3:f2=if fl then fun k=>if k=n then false else d.2 k else d.2) :
  CutD Tryz.prog M208 c208_0 (e208_0 (some ⟨b,0,none⟩) ⟨p1,0,none⟩ n ⟨p4,0,none⟩) w (k208_0 fun e w'=>e=.returned (.tuple #[.agg #[.int .i64 n,.bool bk,.bool fl],.int .i64 0])/\
   Turn (DkO b) W w' F0 (some r2,f2)):=by
 refine CutD.mk ?_
 rw[t208_0]
 obtain⟨F1,hA,hT⟩:=hM.right
 refine⟨_,hA.blk.cell rfl,fun g=>?_,fun g=>?_⟩
 ·have g:fl=true:=g
  subst g
  clear hA hT
  obtain⟨hb,hp⟩:=hf rfl
  obtain⟨F1,hA,hT⟩:=hM.ll
  obtain⟨bq,b2,mo,F2,hD⟩:=hA.open hr
  obtain⟨w2,hrun,hT2⟩:=hD.del n 3 0 hp
  refine⟨_,rfl,_,hD.blk.cell rfl,w2,hrun,?_⟩
  replace hM:=hT _ _ hT2
  clear hA hT hT2 hD hrun
  obtain⟨F1,hA,hT⟩:=hM.ll
  obtain⟨bq,b2,mo,F2,hD⟩:=hA.open hr
  refine⟨_,rfl,_,hD.blk.cell rfl,_,rfl,_,hD.req.cell rfl,⟨(sfail_ok hD.run hD.did.did ho hb).mono ?_⟩⟩
  rintro e w3 ⟨rfl,hT2⟩
  replace hM:=hT _ _ (hD.runT w3 {r with back:=true} rfl rfl rfl rfl hD.did hT2)
  clear hA hT hT2 hD
  refine⟨_,rfl,?_⟩
  exact hnext1_ok (r:={r with back:=true}) hM rfl (by rw[h2,Bool.or_true]) (by rw[h3,if_pos rfl])
 ·have g:fl=false:=g
  subst g
  exact hnext1_ok hM hr (by rw[h2,Bool.or_false]) (by rw[h3,if_neg Bool.false_ne_true])
theorem hnext_ok (h:DkO b w F d):Calls Tryz.prog 208 #[.pointer (some ⟨b,0,none⟩)] w fun e w'=>e=.returned (.tuple #[.agg #[.int .i64 (nextD d).1.1,.bool (nextD d).1.2.1,.bool (nextD d).1.2.2],.int .i64 (nextD d).2])/\Turn (DkO b) w w' F (nextDS d):=by
 have hM:=Turn.same h
 refine u208 ?_
 rw[t208]
 refine⟨fun w1 hN=>?_⟩
 replace hM:Turn (Star (DkO b) (SpO3 w.heap.size)) w w1 F (d,(0,false,false)):=hM.add (hN.upd no) (Rw.new (enc:=stE3) hN rfl) (fun i hi=>Nat.le_of_eq hi.symm)
 generalize w.heap.size=p1 at hM⊢
 obtain⟨F1,hA,hT⟩:=hM.left
 refine⟨(hmay_ok hA).mono ?_⟩
 rintro e w2 ⟨rfl,hU⟩
 replace hM:=hM.upd hU
 clear hA hT hU
 have key:(dkMay d≠0/\nextD d=((0,false,false),dkMay d)/\nextDS d=d)∨(dkMay d=0/\∃r,d.1=some r/\r.over=false/\nextD d=((r.now.1,r.now.2.1,failsR d r),0)/\nextDS d=(some {r with told:=true,back:=r.back||failsR d r},if failsR d r then fun k=>if k=r.now.1 then false else d.2 k else d.2)):=by
  unfold dkMay nextD nextDS
  cases hd:d.1 with
  | none=>exact .inl ⟨by simp,rfl,rfl⟩
  | some r=>
   cases ho:r.over with
   | true=>exact .inl ⟨by simp[ho],by simp[ho],by simp[ho]⟩
   | false=>exact .inr ⟨by simp[ho],r,rfl,ho,by simp[ho],by simp[ho]⟩
 rcases key with⟨e1,e2,e3⟩|⟨e1,r,hr,ho,e2,e3⟩
 ·rw[e2,e3]
  refine⟨_,rfl,fun _=>?_,fun g=>absurd (by simpa using g) e1⟩
  obtain⟨F1,hA,hT⟩:=hM.right
  refine hA.blk.wr0 (by simp[stE3]) fun w3 hW=>?_
  replace hM:=hT _ _ (hA.turned (s':=((0,false,false):Int×Bool×Bool)) hW.U hW.blk')
  clear hA hT hW
  obtain⟨F1,hA,hT⟩:=hM.right
  exact⟨_,hA.blk.cell rfl,_,hA.blk.cell rfl,_,hA.blk.cell rfl,rfl,hM.drop⟩
 ·rw[e1,e2,e3]
  refine⟨_,rfl,fun g=>(by simp at g),fun _=>?_⟩
  obtain⟨F1,hA,hT⟩:=hM.left
  obtain⟨bq,b2,mo,F2,hD⟩:=hA.open hr
  refine⟨_,rfl,_,hD.blk.cell rfl,_,rfl,_,hD.req.cell rfl,⟨(at_ok_Desk hD.run hD.did.did).mono ?_⟩⟩
  rintro e w3 ⟨rfl,hU⟩
  replace hM:=hM.upd hU
  clear hA hT hU hD
  have hb:r.now.2.1=r.back:=by
   unfold Req.over Req.now at ho
   unfold Req.now
   split
   ·rfl
   ·split<;>simp_all
  rw[hb]
  have fin:∀{w4:World} {fl:Bool},fl=failsR d r->Turn (Star (DkO b) (SpO3 p1)) w w4 F (d,(0,false,false))->New w4 [.int .i64 0,.bool false,.bool false] 303 fun p_4 w'=>Wr w' p_4 [.int .i64 r.now.1,.bool r.back,.bool fl] fun w'=>
    CutD Tryz.prog M208 c208_0 (e208_0 (some ⟨b,0,none⟩) ⟨p1,0,none⟩ r.now.1 p_4) w' (k208_0 fun e w'=>e=.returned (.tuple #[.agg #[.int .i64 r.now.1,.bool r.back,.bool (failsR d r)],.int .i64 0])/\
     Turn (DkO b) w w' F (some {r with told:=true,back:=r.back||failsR d r},if failsR d r then fun k=>if k=r.now.1 then false else d.2 k else d.2)):=by
   rintro w4 fl rfl hM
   refine⟨fun w5 hN=>?_⟩
   replace hM:Turn (Star (Star (DkO b) (SpO3 p1)) (SpO3 w4.heap.size)) w w5 F ((d,(0,false,false)),(0,false,false)):=hM.add (hN.upd no) (Rw.new (enc:=stE3) hN rfl) (fun i hi=>Nat.le_of_eq hi.symm)
   generalize w4.heap.size=p4 at hM⊢
   obtain⟨F1,hA,hT⟩:=hM.right
   refine hA.blk.wr0 (by simp[stE3]) fun w6 hW=>?_
   replace hM:=hT _ _ (hA.turned (s':=(r.now.1,r.back,failsR d r)) hW.U hW.blk')
   refine hnext0_ok hM hr ho (fun hf=>?_) rfl rfl
   unfold failsR at hf
   rw[hb]at hf
   simp only[Bool.and_eq_true,Bool.not_eq_true']at hf
   exact⟨hf.1.1,hf.2⟩
  refine⟨_,_,_,rfl,fun g=>?_,fun g=>?_⟩
  ·have g:r.back=false:=by simpa using g
   obtain⟨F1,hA,hT⟩:=hM.left
   obtain⟨bq,b2,mo,F2,hD⟩:=hA.open hr
   refine⟨_,rfl,_,hD.blk.cell rfl,_,rfl,_,hD.req.cell rfl,fun g2=>?_,fun g2=>?_⟩
   ·have g2:r.told=false:=by simpa using g2
    refine⟨_,rfl,_,hD.blk.cell rfl,_,hD.look _,fin ?_ hM⟩
    unfold failsR
    rw[hb,g,g2];rfl
   ·have g2:r.told=true:=by simpa using g2
    refine fin ?_ hM
    unfold failsR
    rw[g2];simp
  ·have g:r.back=true:=by simpa using g
   refine fin ?_ hM
   unfold failsR
   rw[hb,g];rfl
end
end Go.Dav
namespace Go.Dav
open Go.Proofs
theorem elC:ElemT Tryz.prog 222 226 6 40 [.bool false,.bool false,.int .i64 0,.int .i64 0,.int .i64 0,.int .i64 0]:=⟨by kernel_rfl,by kernel_rfl,rfl,by omega⟩
abbrev CoF:=CoS×Int×Int
def coE (x:CoF):List Value:=[.bool x.1.pw,.bool x.1.idle,.int .i64 x.1.way,.int .i64 x.1.since,.int .i64 x.2.1,.int .i64 x.2.2]
theorem coE_len (x:CoF):(coE x).length=6:=rfl
abbrev CoH (b:Nat):Ob (List CoF×Option Addr×Nat):=Hd b 224 226 6 (fun l p c=>[.slice p l.length c]) (fun l=>l.length) (fun l=>l.flatMap coE)
structure CoV (x:List CoS):Prop where
 way:∀q∈x,0<=q.way/\q.way<4
 len:1<=x.length/\x.length<=64
def CoO (b:Nat):Ob (List CoS):=fun w F x=>∃l y,CoH b w F (l,y)/\l.map Prod.fst=x/\CoV x
instance Frame.coo (b:Nat):Frame (CoO b) where
 upd:=fun⟨l,y,h,r⟩ k hG=>⟨l,y,(Frame.hd ..).upd h k hG,r⟩
 lt:=fun⟨_,_,h,_⟩=>(Frame.hd ..).lt h
section
variable {b:Nat} {w w':World} {F:Fp} {x:List CoS} {l:List CoF} {y:Option Addr×Nat}
theorem CoH.wr {a:Addr} {c0:Nat} (h:CoH b w F (l,(some a,c0))) {i:Nat} (hi:i<l.length) {j:Nat} {vs:List Value} {q:CoF} (hj:j+vs.length<=6) (hq:coE q=setL (coE l[i]) j vs) {K:World->Prop} (hK:∀w',Turn (CoH b) w w' F (l.set i q,(some a,c0))->K w'):Wr w ((a.add (i*6)).add j) vs K:=by
 rw[Addr.add_add]
 have hle:(i+1)*6<=l.length*6:=Nat.mul_le_mul_right _ hi
 refine h.sl.wr (o:=i*6+j) (by simp only;omega) fun w' hS hU=>hK w' (h.elems ?_ hU (by simp))
 rw[setL_flat coE_len hi hj hq]at hS
 simpa using hS
theorem CoH.at (h:CoH b w F (l,y)) {i:Nat} (hi:i<l.length):∃a c0,y=(some a,c0)/\∀(j:Nat) v,(coE l[i])[j]?=some v->w.cell? ((a.add (i*6)).add j)=some v:=by
 obtain⟨a,ha,hc⟩:=h.sl.cells.atk coE_len (by omega) hi
 obtain⟨p,c0⟩:=y
 simp only at ha
 subst ha
 exact⟨a,c0,rfl,hc⟩
theorem gtO_at {i:Nat} (hi:i<x.length):gtO x (i:Int)=x[i]:=by
 unfold gtO
 rw[if_pos (show inO x (i:Int)from⟨by omega,by omega⟩)]
 simp[List.getD_eq_getElem?_getD,hi]
theorem inO_of {c:Int} (h:inO x c):∃i:Nat,i<x.length/\c=(i:Int):=⟨c.toNat,by unfold inO at h;omega,by unfold inO at h;omega⟩
def CoC (b:Nat) (W w:World) (F:Fp) (l:List CoF) (a:Addr) (c0:Nat):Prop:=Turn (CoH b) W w F (l,(some a,c0))
theorem CoC.cell {W:World} {a:Addr} {c0:Nat} (h:CoC b W w F l a c0) {i:Nat} (hi:i<l.length) {j:Nat} {v:Value} (hv:(coE l[i])[j]?=some v):w.cell? ((a.add (i*6)).add j)=some v:=by
 obtain⟨F1,h1,_⟩:=h
 obtain⟨a',c',e,hc⟩:=h1.at hi
 cases e
 exact hc j v hv
theorem CoC.blk {W:World} {a:Addr} {c0:Nat} (h:CoC b W w F l a c0):Blk w b [.slice (some a) l.length c0] 224:=by
 obtain⟨F1,h1,_⟩:=h
 exact h1.blk
theorem CoC.wr {W:World} {a:Addr} {c0:Nat} (h:CoC b W w F l a c0) {i:Nat} (hi:i<l.length) {j:Nat} {vs:List Value} (q:CoF) (hj:j+vs.length<=6) (hq:coE q=setL (coE l[i]) j vs) {K:World->Prop} (hK:∀w',CoC b W w' F (l.set i q) a c0->K w'):Wr w ((a.add (i*6)).add j) vs K:=by
 obtain⟨F1,h1,k1⟩:=Turn.turn h
 exact CoH.wr h1 hi hj hq fun w' hT=>hK w' (k1 _ _ hT)
theorem CoC.upd {W w1:World} {a:Addr} {c0:Nat} (h:CoC b W w F l a c0) (hU:Upd no w w1):CoC b W w1 F l a c0:=Turn.upd h hU
theorem CoC.out {W:World} {a:Addr} {c0:Nat} (h:CoC b W w F l a c0) (hx:l.map Prod.fst=x) (hv:CoV x):Turn (CoO b) W w F x:=by
 obtain⟨F',h1,h2⟩:=h
 exact⟨F',⟨l,_,h1,hx,hv⟩,h2⟩
theorem CoO.open (h:CoO b w F x) {i:Nat} (hi:i<x.length):∃l a c0,CoC b w w F l a c0/\l.map Prod.fst=x/\CoV x:=by
 obtain⟨l,y,h,rfl,hv⟩:=h
 have hi':i<l.length:=by simpa using hi
 obtain⟨a,c0,rfl,hc⟩:=h.at hi'
 exact⟨l,a,c0,Turn.same h,rfl,hv⟩
theorem CoV.set (hv:CoV x) {i:Nat} {q:CoS} (hq:0<=q.way/\q.way<4):CoV (x.set i q):=⟨fun z hz=>by
 rcases List.mem_or_eq_of_mem_set hz with hz|rfl
 ·exact hv.way z hz
 ·exact hq,by simpa using hv.len⟩
theorem CoO.v (h:CoO b w F x):CoV x:=by obtain⟨_,_,_,_,hv⟩:=h;exact hv
theorem CoO.way (h:CoO b w F x) (c:Int):0<=(gtO x c).way/\(gtO x c).way<4:=by
 by_cases hc:inO x c
 ·obtain⟨i,hi,rfl⟩:=inO_of hc
  rw[gtO_at hi]
  exact h.v.way _ (List.getElem_mem hi)
 ·unfold gtO
  rw[if_neg hc]
  exact⟨Int.le_refl _,by decide⟩
theorem CoO.blk (h:CoO b w F x):∃p c0,Blk w b [.slice p x.length c0] 224:=by
 obtain⟨l,y,h,rfl,hv⟩:=h
 exact⟨_,_,by simpa using h.blk⟩
theorem cfind_no (h:CoO b w F x) {c:Int} (hc:¬inO x c):Calls Tryz.prog 199 #[.pointer (some ⟨b,0,none⟩),.int .i64 c] w fun e w'=>e=.returned (.tuple #[.pointer none,.int .i64 3])/\w'=w:=by
 obtain⟨p,c0,hB⟩:=h.blk
 refine u199 ?_
 rw[t199]
 refine⟨fun g=>(by cases g),fun _=>⟨fun g1=>⟨_,rfl,_,_,_,hB.cell rfl,fun g2=>⟨rfl,rfl⟩,fun g2=>?_⟩,fun g1=>⟨rfl,rfl⟩⟩⟩
 have g1:=of_decide_eq_false g1
 have g2:=of_decide_eq_false g2
 exact absurd (show inO x c from⟨by omega,by omega⟩) hc
theorem cfind_ok {W:World} {i:Nat} {a:Addr} {c0:Nat} (h:CoC b W w F l a c0) (hi:i<l.length):Calls Tryz.prog 199 #[.pointer (some ⟨b,0,none⟩),.int .i64 (i:Int)] w fun e w'=>e=.returned (.tuple #[.pointer (some (a.add (i*6))),.int .i64 0])/\w'=w:=by
 have hB:=h.blk
 refine u199 ?_
 rw[t199]
 refine⟨fun g=>(by cases g),fun _=>⟨fun g1=>⟨_,rfl,_,_,_,hB.cell rfl,fun g2=>?_,fun g2=>⟨_,rfl,_,_,_,hB.cell rfl,⟨by omega,by omega⟩,_,rfl,?_,rfl⟩⟩,fun g1=>?_⟩⟩
 ·have g2:=of_decide_eq_true g2;omega
 ·simp
 ·have g1:=of_decide_eq_true g1;omega
theorem cright_ok (n:Int) (w:World):Calls Tryz.prog 206 #[.int .i64 n] w fun e w'=>e=.returned (.bool (decide (tickR n)))/\w'=w:=by
 refine u206 ?_
 rw[t206]
 refine⟨fun g=>⟨?_,rfl⟩,fun g=>⟨?_,rfl⟩⟩
 ·have:=of_decide_eq_true g
  congr 2
  exact decide_eq_decide.2 (by unfold tickR;omega)
 ·have:=of_decide_eq_false g
  congr 2
  exact(decide_eq_false (fun hh=>absurd hh.1 this)).symm
theorem cup_ok {W:World} {i:Nat} {a:Addr} {c0:Nat} (h:CoC b W w F l a c0) (hi:i<l.length):Calls Tryz.prog 207 #[.pointer (some (a.add (i*6)))] w fun e w'=>e=.returned (.tuple #[])/\CoC b W w' F (l.set i (⟨l[i].1.pw,false,0,0⟩,l[i].2)) a c0:=by
 refine u207 ?_
 rw[t207]
 refine⟨_,rfl,h.wr hi (⟨l[i].1.pw,false,l[i].1.way,l[i].1.since⟩,l[i].2) (by simp) (by simp[coE,setL]) fun w1 h1=>?_⟩
 refine⟨_,rfl,h1.wr (i:=i) (by simpa using hi) (⟨l[i].1.pw,false,0,l[i].1.since⟩,l[i].2) (by simp) (by simp[coE,setL]) fun w2 h2=>?_⟩
 refine⟨_,rfl,h2.wr (i:=i) (by simpa using hi) (⟨l[i].1.pw,false,0,0⟩,l[i].2) (by simp) (by simp[coE,setL]) fun w3 h3=>⟨rfl,?_⟩⟩
 simpa using h3
theorem fst_at {i:Nat} (hx:l.map Prod.fst=x) (hi:i<l.length):gtO x (i:Int)=l[i].1:=by
 subst hx
 rw[gtO_at (by simpa using hi)]
 simp
theorem cpower_ok (h:CoO b w F x) (c:Int) (on:Bool):Calls Tryz.prog 354 #[.pointer (some ⟨b,0,none⟩),.int .i64 c,.bool on] w fun e w'=>(∃n:Int,e=.returned (.int .i64 n))/\Turn (CoO b) w w' F (coPowS x c on):=by
 refine u354 ?_
 rw[t354]
 by_cases hc:inO x c
 ·obtain⟨i,hi,rfl⟩:=inO_of hc
  obtain⟨l,a,c0,hC,hx,hv⟩:=h.open hi
  have hi':i<l.length:=by rw[<-hx]at hi;simpa using hi
  refine⟨(cfind_ok hC hi').mono ?_⟩
  rintro e w1 ⟨rfl,rfl⟩
  have hq:=fst_at hx hi'
  refine⟨_,_,rfl,fun g=>(by simp at g),fun _=>⟨_,rfl,_,hC.cell hi' rfl,fun g=>?_,fun g=>?_⟩⟩
  ·have g:l[i].1.pw=on:=by simpa using g
   have e1:coPowS x (i:Int) on=x:=by unfold coPowS;rw[if_neg (fun hh=>hh.2 (by rw[hq];exact g))]
   rw[e1]
   exact⟨⟨_,rfl⟩,Turn.same h⟩
  ·have g:l[i].1.pw≠on:=by simpa using g
   refine⟨_,rfl,hC.wr hi' (⟨on,l[i].1.idle,l[i].1.way,l[i].1.since⟩,l[i].2) (by simp) (by simp[coE,setL]) fun w2 h2=>⟨(cup_ok h2 (i:=i) (by simpa using hi')).mono ?_⟩⟩
   rintro e w3 ⟨rfl,h3⟩
   refine⟨rfl,⟨_,rfl⟩,?_⟩
   have e1:coPowS x (i:Int) on=x.set i ⟨on,false,0,0⟩:=by
    unfold coPowS
    rw[if_pos ⟨hc,by rw[hq];exact g⟩]
    rfl
   rw[e1]
   refine h3.out ?_ (hv.set ⟨Int.le_refl _,(show(0:Int)<4 by decide)⟩)
   rw[List.map_set,List.map_set,hx]
   simp
 ·refine⟨(cfind_no h hc).mono ?_⟩
  rintro e w1 ⟨rfl,rfl⟩
  have e1:coPowS x c on=x:=by unfold coPowS;rw[if_neg (fun hh=>hc hh.1)]
  rw[e1]
  exact⟨_,_,rfl,fun _=>⟨⟨_,rfl⟩,Turn.same h⟩,fun g=>(by simp at g)⟩
theorem crest_ok (h:CoO b w F x) (c way now:Int) (hway:way<4):Calls Tryz.prog 216 #[.pointer (some ⟨b,0,none⟩),.int .i64 c,.int .i64 way,.int .i64 now] w fun e w'=>(∃n:Int,e=.returned (.int .i64 n))/\Turn (CoO b) w w' F (coRestS x c way now):=by
 refine u216 ?_
 rw[t216]
 by_cases hc:inO x c
 ·obtain⟨i,hi,rfl⟩:=inO_of hc
  obtain⟨l,a,c0,hC,hx,hv⟩:=h.open hi
  have hi':i<l.length:=by rw[<-hx]at hi;simpa using hi
  refine⟨(cfind_ok hC hi').mono ?_⟩
  rintro e w1 ⟨rfl,rfl⟩
  have hq:=fst_at hx hi'
  have nop:¬((0<=way/\way<8)/\tickR now/\l[i].1.pw=true/\l[i].1.idle=false)->coRestS x (i:Int) way now=x:=fun hn=>by
   unfold coRestS
   rw[if_neg (fun hh=>hn ⟨hh.2.1,hh.2.2.1,by rw[<-hq];exact hh.2.2.2.1,by rw[<-hq];exact hh.2.2.2.2⟩)]
  refine⟨_,_,rfl,fun g=>(by simp at g),fun _=>⟨fun g1=>⟨fun g2=>⟨(cright_ok now w1).mono ?_⟩,fun g2=>?_⟩,fun g1=>?_⟩⟩
  ·rintro e w2 ⟨rfl,rfl⟩
   have g1:=of_decide_eq_false g1
   have g2:=of_decide_eq_false g2
   refine⟨_,rfl,fun g3=>?_,fun g3=>⟨_,rfl,_,hC.cell hi' rfl,fun g4=>⟨_,rfl,_,hC.cell hi' rfl,fun g5=>?_,fun g5=>?_⟩,fun g4=>?_⟩⟩
   ·have g3:¬tickR now:=by simpa using g3
    rw[nop (fun hh=>g3 hh.2.1)]
    exact⟨⟨_,rfl⟩,Turn.same h⟩
   ·have g5:l[i].1.idle=true:=g5
    rw[nop (fun hh=>by rw[g5]at hh;cases hh.2.2.2)]
    exact⟨⟨_,rfl⟩,Turn.same h⟩
   ·have g3:tickR now:=by simpa using g3
    have g4:l[i].1.pw=true:=by simpa using g4
    have g5:l[i].1.idle=false:=g5
    refine⟨_,rfl,hC.wr hi' (⟨l[i].1.pw,true,l[i].1.way,l[i].1.since⟩,l[i].2) (by simp) (by simp[coE,setL]) fun w3 h3=>?_⟩
    refine⟨_,rfl,h3.wr (i:=i) (by simpa using hi') (⟨l[i].1.pw,true,way,l[i].1.since⟩,l[i].2) (by simp) (by simp[coE,setL]) fun w4 h4=>?_⟩
    refine⟨_,rfl,h4.wr (i:=i) (by simpa using hi') (⟨l[i].1.pw,true,way,now⟩,l[i].2) (by simp) (by simp[coE,setL]) fun w5 h5=>⟨⟨_,rfl⟩,?_⟩⟩
    have e1:coRestS x (i:Int) way now=x.set i ⟨l[i].1.pw,true,way,now⟩:=by
     unfold coRestS
     rw[if_pos ⟨hc,⟨by omega,by omega⟩,g3,by rw[hq];exact g4,by rw[hq];exact g5⟩,hq]
     rfl
    rw[e1]
    refine h5.out ?_ (hv.set ⟨by simp only;omega,hway⟩)
    rw[List.map_set,List.map_set,List.map_set,hx]
    simp
   ·have g4:l[i].1.pw=false:=by simpa using g4
    rw[nop (fun hh=>by rw[g4]at hh;cases hh.2.2.1)]
    exact⟨⟨_,rfl⟩,Turn.same h⟩
  ·have g2:=of_decide_eq_true g2
   rw[nop (fun hh=>absurd hh.1.2 (by omega))]
   exact⟨⟨_,rfl⟩,Turn.same h⟩
  ·have g1:=of_decide_eq_true g1
   rw[nop (fun hh=>absurd hh.1.1 (by omega))]
   exact⟨⟨_,rfl⟩,Turn.same h⟩
 ·refine⟨(cfind_no h hc).mono ?_⟩
  rintro e w1 ⟨rfl,rfl⟩
  have e1:coRestS x c way now=x:=by unfold coRestS;rw[if_neg (fun hh=>hc hh.1)]
  rw[e1]
  exact⟨_,_,rfl,fun _=>⟨⟨_,rfl⟩,Turn.same h⟩,fun g=>(by simp at g)⟩
theorem run_max64 (x y:Int) (w:World):(Builtin.max_ #[2,2] 2 #[.int .i64 x,.int .i64 y]).run Tryz.prog w=.ok (.int .i64 (if y>x then y else x)) w:=by
 simp[Builtin.max_,Builtin.max2]
theorem cwake_ok (h:CoO b w F x) (c now:Int):Calls Tryz.prog 117 #[.pointer (some ⟨b,0,none⟩),.int .i64 c,.int .i64 now] w fun e w'=>(∃n m:Int,e=.returned (.tuple #[.int .i64 n,.int .i64 m]))/\Turn (CoO b) w w' F (coWakeS x c now):=by
 refine u117 ?_
 rw[t117]
 by_cases hc:inO x c
 ·obtain⟨i,hi,rfl⟩:=inO_of hc
  obtain⟨l,a,c0,hC,hx,hv⟩:=h.open hi
  have hi':i<l.length:=by rw[<-hx]at hi;simpa using hi
  refine⟨(cfind_ok hC hi').mono ?_⟩
  rintro e w1 ⟨rfl,rfl⟩
  have hq:=fst_at hx hi'
  have nop:¬(tickR now/\l[i].1.idle=true)->coWakeS x (i:Int) now=x:=fun hn=>by
   unfold coWakeS
   rw[if_neg (fun hh=>hn ⟨hh.2.1,by rw[<-hq];exact hh.2.2⟩)]
  refine⟨_,_,rfl,fun g=>(by simp at g),fun _=>⟨(cright_ok now w1).mono ?_⟩⟩
  rintro e w2 ⟨rfl,rfl⟩
  refine⟨_,rfl,fun g3=>?_,fun g3=>⟨_,rfl,_,hC.cell hi' rfl,fun g4=>?_,fun g4=>⟨_,rfl,_,hC.cell hi' rfl,⟨(cup_ok hC hi').mono ?_⟩⟩⟩⟩
  ·have g3:¬tickR now:=by simpa using g3
   rw[nop (fun hh=>g3 hh.1)]
   exact⟨⟨_,_,rfl⟩,Turn.same h⟩
  ·have g4:l[i].1.idle=false:=by simpa using g4
   rw[nop (fun hh=>by rw[g4]at hh;cases hh.2)]
   exact⟨⟨_,_,rfl⟩,Turn.same h⟩
  ·have g3:tickR now:=by simpa using g3
   have g4:l[i].1.idle=true:=by simpa using g4
   rintro e w3 ⟨rfl,h3⟩
   refine⟨rfl,_,w3,run_max64 _ _ _,⟨_,_,rfl⟩,?_⟩
   have e1:coWakeS x (i:Int) now=x.set i ⟨l[i].1.pw,false,0,0⟩:=by
    unfold coWakeS
    rw[if_pos ⟨hc,g3,by rw[hq];exact g4⟩,hq]
    rfl
   rw[e1]
   refine h3.out ?_ (hv.set ⟨Int.le_refl _,(show(0:Int)<4 by decide)⟩)
   rw[List.map_set,hx]
 ·refine⟨(cfind_no h hc).mono ?_⟩
  rintro e w1 ⟨rfl,rfl⟩
  have e1:coWakeS x c now=x:=by unfold coWakeS;rw[if_neg (fun hh=>hc hh.1)]
  rw[e1]
  exact⟨_,_,rfl,fun _=>⟨⟨_,_,rfl⟩,Turn.same h⟩,fun g=>(by simp at g)⟩
theorem same_set {i:Nat} (hi:i<l.length) (hx:l.map Prod.fst=x) (n:Int×Int):(l.set i (l[i].1,n)).map Prod.fst=x:=by
 rw[List.map_set,hx]
 subst hx
 apply List.ext_getElem?
 intro j
 rw[List.getElem?_set]
 by_cases e:i=j
 ·subst e;simp[hi]
 ·simp[e]
theorem ccount_ok (h:CoO b w F x) (c:Int) (bz:Bool):Calls Tryz.prog 116 #[.pointer (some ⟨b,0,none⟩),.int .i64 c,.bool bz] w fun e w'=>(∃n:Int,e=.returned (.int .i64 n))/\Turn (CoO b) w w' F x:=by
 refine u116 ?_
 rw[t116]
 by_cases hc:inO x c
 ·obtain⟨i,hi,rfl⟩:=inO_of hc
  obtain⟨l,a,c0,hC,hx,hv⟩:=h.open hi
  have hi':i<l.length:=by rw[<-hx]at hi;simpa using hi
  refine⟨(cfind_ok hC hi').mono ?_⟩
  rintro e w1 ⟨rfl,rfl⟩
  refine⟨_,_,rfl,fun g=>(by simp at g),fun _=>⟨_,rfl,_,hC.cell hi' rfl,_,rfl,hC.wr hi' (l[i].1,IntKind.wrap .i64 (l[i].2.1+1),l[i].2.2) (by simp) (by simp[coE,setL]) fun w2 h2=>⟨fun g=>?_,fun g=>⟨⟨_,rfl⟩,h2.out (same_set hi' hx _) hv⟩⟩⟩⟩
  refine⟨_,rfl,_,h2.cell (i:=i) (by simpa using hi') (by simp[coE];rfl),_,rfl,h2.wr (i:=i) (by simpa using hi') (l[i].1,IntKind.wrap .i64 (l[i].2.1+1),IntKind.wrap .i64 (l[i].2.2+1)) (by simp) (by simp[coE,setL]) fun w3 h3=>⟨⟨_,rfl⟩,h3.out ?_ hv⟩⟩
  rw[List.set_set]
  exact same_set hi' hx _
 ·refine⟨(cfind_no h hc).mono ?_⟩
  rintro e w1 ⟨rfl,rfl⟩
  exact⟨_,_,rfl,fun _=>⟨⟨_,rfl⟩,Turn.same h⟩,fun g=>(by simp at g)⟩
theorem ctake_ok_Core (h:CoO b w F x) (c:Int):Calls Tryz.prog 227 #[.pointer (some ⟨b,0,none⟩),.int .i64 c] w fun e w'=>(∃n m k:Int,e=.returned (.tuple #[.int .i64 n,.int .i64 m,.int .i64 k]))/\Turn (CoO b) w w' F x:=by
 refine u227 ?_
 rw[t227]
 by_cases hc:inO x c
 ·obtain⟨i,hi,rfl⟩:=inO_of hc
  obtain⟨l,a,c0,hC,hx,hv⟩:=h.open hi
  have hi':i<l.length:=by rw[<-hx]at hi;simpa using hi
  refine⟨(cfind_ok hC hi').mono ?_⟩
  rintro e w1 ⟨rfl,rfl⟩
  refine⟨_,_,rfl,fun g=>(by simp at g),fun _ w2 q1 q2 q3 q4=>?_⟩
  have hC:=hC.upd (Upd.same no q1 q2 q3 q4)
  refine⟨_,rfl,_,hC.cell hi' rfl,_,rfl,_,hC.cell hi' rfl,_,rfl,hC.wr hi' (l[i].1,l[i].2.1,0) (by simp) (by simp[coE,setL]) fun w3 h3=>⟨_,rfl,h3.wr (i:=i) (by simpa using hi') (l[i].1,0,0) (by simp) (by simp[coE,setL]) fun w4 h4=>⟨⟨_,_,_,rfl⟩,h4.out ?_ hv⟩⟩⟩
  rw[List.set_set]
  exact same_set hi' hx _
 ·refine⟨(cfind_no h hc).mono ?_⟩
  rintro e w1 ⟨rfl,rfl⟩
  exact⟨_,_,rfl,fun _=>⟨⟨_,_,_,rfl⟩,Turn.same h⟩,fun g=>(by simp at g)⟩
theorem cget_ok (h:CoO b w F x) (c:Int):Calls Tryz.prog 113 #[.pointer (some ⟨b,0,none⟩),.int .i64 c] w fun e w'=>(∃n m:Int,e=.returned (.tuple #[.agg #[.bool (gtO x c).pw,.bool (gtO x c).idle,.int .i64 (gtO x c).way,.int .i64 (gtO x c).since,.int .i64 n,.int .i64 m],.int .i64 (if inO x c then 0 else 3)]))/\Upd no w w':=by
 refine u113 ?_
 rw[t113]
 refine⟨fun w1 hN=>?_⟩
 have hU:=hN.upd no
 have h1:=(Frame.coo b).upd h hU (fun _ _ h=>h)
 have hB:Blk w1 w.heap.size _ _:=hN.blk'
 by_cases hc:inO x c
 ·obtain⟨i,hi,rfl⟩:=inO_of hc
  obtain⟨l,a,c0,hC,hx,hv⟩:=h1.open hi
  have hi':i<l.length:=by rw[<-hx]at hi;simpa using hi
  refine⟨(cfind_ok hC hi').mono ?_⟩
  rintro e w2 ⟨rfl,rfl⟩
  have hq:=fst_at hx hi'
  rw[hq,if_pos hc]
  refine⟨_,_,rfl,fun g=>(by simp at g),fun _=>⟨_,rfl,_,hC.cell hi' rfl,_,hC.cell hi' rfl,_,hC.cell hi' rfl,_,hC.cell hi' rfl,_,hC.cell hi' rfl,_,hC.cell hi' rfl,hB.wr0 (by simp) fun w3 hW=>?_⟩⟩
  have hB3:=hW.blk'
  exact⟨_,hB3.cell rfl,_,hB3.cell rfl,_,hB3.cell rfl,_,hB3.cell rfl,_,hB3.cell rfl,_,hB3.cell rfl,⟨_,_,rfl⟩,hU.trans hW.U (fun j hj e=>absurd hj (by omega))⟩
 ·refine⟨(cfind_no h1 hc).mono ?_⟩
  rintro e w2 ⟨rfl,rfl⟩
  have e1:gtO x c=co0:=by unfold gtO;rw[if_neg hc]
  rw[e1,if_neg hc]
  refine⟨_,_,rfl,fun _=>hB.wr0 (by simp) fun w3 hW=>?_,fun g=>(by simp at g)⟩
  have hB3:=hW.blk'
  exact⟨_,hB3.cell rfl,_,hB3.cell rfl,_,hB3.cell rfl,_,hB3.cell rfl,_,hB3.cell rfl,_,hB3.cell rfl,⟨0,0,rfl⟩,hU.trans hW.U (fun j hj e=>absurd hj (by omega))⟩
end
def wtL (f:Fl):List (Bool×Int):=[(f.1,2),(f.2.2.1,3),(f.2.1||!f.2.2.2.1,0),(f.2.2.2.2.1,4),(f.2.2.2.2.2.1,5),(f.2.2.2.2.2.2.1,6),(f.2.2.2.2.2.2.2.1,7),(f.2.2.2.2.2.2.2.2,8)]
def recBI (x:Bool×Int):List Value:=[.bool x.1,.int .i64 x.2]
theorem recBI_len (x:Bool×Int):(recBI x).length=2:=rfl
def wtF (f:Fl) (i:Nat):Int:=match((wtL f).drop i).find? (·.1)with|some x=>x.2|none=>9
theorem wtF_zero (f:Fl):wtF f 0=wantsE f:=by
 obtain⟨a,b,c,d,e,g,h,i,j⟩:=f
 unfold wtF wantsE wtL
 cases a<;>cases c<;>cases b<;>cases d<;>cases e<;>cases g<;>cases h<;>cases i<;>cases j<;>rfl
theorem cwants1_ok (f:Fl) (W w:World) (hU:Upd no W w):CutD Tryz.prog M200 c200_1 (e200_1 ((wtL f).flatMap recBI) 0) w (k200_1 fun e w'=>e=.returned (.int .i64 (wantsE f))/\Upd no W w'):=by
 refine CutD.mk ?_
 rw[t200_1]
 refine⟨WP_loop okProg (M:=M200) (σ:=Nat) (fun i=>e200_2 ((wtL f).flatMap recBI) (i:Int)) (fun i w'=>i<=8/\wtF f i=wantsE f/\Upd no W w') (fun i _=>8-i) 0 ⟨rfl,rfl,trivial⟩ ⟨by omega,wtF_zero f,hU⟩ ?_⟩
 rintro i w1 ⟨hi8,hw,hU⟩
 rw[t200_2]
 refine⟨fun g=>?_,fun g=>?_⟩
 ·have g:=of_decide_eq_true g
  have hi:i<(wtL f).length:=by simp only[wtL,List.length_cons,List.length_nil];omega
  have hsl:=flat_slice recBI_len (l:=wtL f) (k:=i) hi
  refine⟨⟨by omega,by omega⟩,(wtL f)[i].1,(wtL f)[i].2,by simpa [recBI]using hsl,⟨fun w2 hN=>hN.blk'.wr0 (by simp) fun w3 hW=>⟨_,hW.blk'.cell rfl,fun g2=>⟨_,hW.blk'.cell rfl,?_,?_⟩,fun g2=>?_⟩⟩⟩
  ·congr 2
   rw[<-hw]
   unfold wtF
   rw[List.drop_eq_getElem_cons hi,List.find?_cons_of_pos g2]
  ·exact(hU.and (hN.upd no)).trans hW.U (fun j hj e=>absurd hj (by have:=hU.size;omega))
  ·refine⟨i+1,⟨rfl,by rw[w64 (by omega)];rfl,trivial⟩,⟨by omega,?_,(hU.and (hN.upd no)).trans hW.U (fun j hj e=>absurd hj (by have:=hU.size;omega))⟩,by omega⟩
   rw[<-hw]
   unfold wtF
   rw[List.drop_eq_getElem_cons hi,List.find?_cons_of_neg (by rw[g2];decide)]
 ·have g:=of_decide_eq_false g
  have:i=8:=by omega
  subst this
  refine⟨?_,hU⟩
  rw[<-hw]
  rfl
theorem cwants_ok (f:Fl) (w:World):Calls Tryz.prog 200 #[.agg #[.bool f.1,.bool f.2.1,.bool f.2.2.1,.bool f.2.2.2.1,.bool f.2.2.2.2.1,.bool f.2.2.2.2.2.1,.bool f.2.2.2.2.2.2.1,.bool f.2.2.2.2.2.2.2.1,.bool f.2.2.2.2.2.2.2.2]] w fun e w'=>e=.returned (.int .i64 (wantsE f))/\Upd no w w':=by
 refine u200 ?_
 rw[t200]
 refine⟨fun w1 hN=>?_⟩
 have hB:Blk w1 w.heap.size _ _:=hN.blk'
 obtain⟨a,b,c,d,e,g,h,i,j⟩:=f
 refine⟨_,hB.cell rfl,_,hB.cell rfl,_,hB.cell rfl,fun hb=>?_,fun hb=>?_⟩
 ·have hb:b=false:=hb
  subst hb
  exact⟨_,hB.cell rfl,_,hB.cell rfl,_,hB.cell rfl,_,hB.cell rfl,_,hB.cell rfl,_,hB.cell rfl,cwants1_ok (a,false,c,d,e,g,h,i,j) w w1 (hN.upd no)⟩
 ·have hb:b=true:=hb
  subst hb
  exact⟨_,hB.cell rfl,_,hB.cell rfl,_,hB.cell rfl,_,hB.cell rfl,_,hB.cell rfl,cwants1_ok (a,true,c,d,e,g,h,i,j) w w1 (hN.upd no)⟩
theorem cnext_ok (q:CoF) (f:Fl) (w:World):Calls Tryz.prog 114 #[.agg #[.bool q.1.pw,.bool q.1.idle,.int .i64 q.1.way,.int .i64 q.1.since,.int .i64 q.2.1,.int .i64 q.2.2],.agg #[.bool f.1,.bool f.2.1,.bool f.2.2.1,.bool f.2.2.2.1,.bool f.2.2.2.2.1,.bool f.2.2.2.2.2.1,.bool f.2.2.2.2.2.2.1,.bool f.2.2.2.2.2.2.2.1,.bool f.2.2.2.2.2.2.2.2]] w
  fun e w'=>e=.returned (.int .i64 (coNext q.1.pw q.1.idle f))/\Upd no w w':=by
 refine u114 ?_
 rw[t114]
 refine⟨fun w1 hN1=>⟨fun w2 hN2=>?_⟩⟩
 have hB1:=hN2.keep hN1.blk'
 have hB2:Blk w2 w1.heap.size _ _:=hN2.blk'
 refine⟨_,hB2.cell rfl,_,hB2.cell rfl,_,hB2.cell rfl,_,hB2.cell rfl,_,hB2.cell rfl,_,hB2.cell rfl,_,hB2.cell rfl,_,hB2.cell rfl,_,hB2.cell rfl,⟨(cwants_ok f w2).mono ?_⟩⟩
 rintro e w3 ⟨rfl,hU⟩
 have hB:=hB1.upd hU id
 have hUU:=((hN1.upd no).and (hN2.upd no)).and hU
 unfold coNext
 refine⟨_,rfl,_,hB.cell rfl,fun g=>⟨?_,hUU⟩,fun g=>⟨_,hB.cell rfl,fun g2=>⟨?_,hUU⟩,fun g2=>⟨fun g3=>⟨fun g4=>⟨?_,hUU⟩,fun g4=>⟨?_,hUU⟩⟩,fun g3=>⟨?_,hUU⟩⟩⟩⟩
 ·rw[if_pos g]
 ·rw[if_neg (by rw[g];decide),if_pos g2]
 ·have g4:wantsE f=9:=by simpa using g4
  rw[if_neg (by rw[g];decide),if_neg (by rw[g2];decide),if_pos (.inr g4)]
 ·have g3:wantsE f≠0:=by simpa using g3
  have g4:wantsE f≠9:=by simpa using g4
  rw[if_neg (by rw[g];decide),if_neg (by rw[g2];decide),if_neg (by simp[g3,g4])]
 ·have g3:wantsE f=0:=by simpa using g3
  rw[if_neg (by rw[g];decide),if_neg (by rw[g2];decide),if_pos (.inl g3)]
def cf0:CoF:=(⟨false,false,0,0⟩,0,0)
def cf1:CoF:=(⟨true,false,0,0⟩,0,0)
theorem cnew_ok_Core (n:Nat) (hn:1<=n/\n<=64) (w:World):Calls Tryz.prog 54 #[.int .i64 (n:Int)] w fun e w'=>∃b F,e=.returned (.tuple #[.pointer (some ⟨b,0,none⟩),.int .i64 0])/\CoO b w' F (List.replicate n ⟨true,false,0,0⟩)/\Upd no w w'/\∀i,F i->w.heap.size<=i:=by
 refine u54 ?_
 rw[t54]
 refine⟨fun _=>⟨fun g=>?_,fun _=>?_⟩,fun g=>?_⟩
 ·have:=of_decide_eq_true g;omega
 ·obtain⟨w1,hr,hN1⟩:=run_mk elC w (n:=n) (by omega) (by omega) .i64 .i64 (f:=coE) (x0:=cf0) coE_len rfl
  refine⟨_,_,_,w1,hr,⟨fun w2 hN2=>?_⟩⟩
  have hH:CoH w1.heap.size w2 (fun i=>i=w1.heap.size∨fpS (some ⟨w.heap.size,0,none⟩) i) (List.replicate n cf0,(some ⟨w.heap.size,0,none⟩,n)):=by
   refine⟨by simpa using hN2.blk',?_,?_,fun i=>Iff.rfl⟩
   ·have hS:Sl w1 226 6 (some ⟨w.heap.size,0,none⟩) n n ((List.replicate n cf0).flatMap coE):=Sl.new hN1 (by rw[flat_len coE_len];simp) (by unfold maxLen;omega)
    have:=hS.upd (hN2.upd no) (fun _ _ h=>h)
    simpa using this
   ·rintro⟨a,ha,hb⟩
    cases ha
    have:=hN1.size
    simp only at hb
    omega
  have hU:Upd no w w2:=(hN1.upd no).and (hN2.upd no)
  have hsz:=hN1.size
  generalize w1.heap.size=b at hH hsz
  have hC:CoC b w2 w2 (fun i=>i=b∨fpS (some ⟨w.heap.size,0,none⟩) i) (List.replicate n cf0) ⟨w.heap.size,0,none⟩ n:=Turn.same hH
  refine⟨_,rfl,_,_,_,hC.blk.cell rfl,⟨WP_loop okProg (M:=M54) (σ:=Nat) (fun i=>e54_1 (some ⟨b,0,none⟩) (n:Int) (i:Int))
   (fun i w'=>i<=n/\CoC b w2 w' (fun i=>i=b∨fpS (some ⟨w.heap.size,0,none⟩) i) (List.replicate i cf1++List.replicate (n-i) cf0) ⟨w.heap.size,0,none⟩ n) (fun i _=>n-i) 0 ⟨rfl,(by show some (Value.int IntKind.i64 (((List.replicate n cf0).length:Nat):Int))=some (Value.int IntKind.i64 (n:Int));rw[List.length_replicate]),rfl,trivial⟩ ⟨by omega,by simpa using hC⟩ ?_⟩⟩
  rintro i w3 ⟨hi,hC⟩
  rw[t54_1]
  refine⟨fun g=>?_,fun g=>?_⟩
  ·have g:=of_decide_eq_true g
   have hlen:(List.replicate i cf1++List.replicate (n-i) cf0).length=n:=by simp;omega
   have hget:(List.replicate i cf1++List.replicate (n-i) cf0)[i]'(by rw[hlen];omega)=cf0:=by
    rw[List.getElem_append_right (by simp)];simp
   refine⟨_,rfl,_,_,_,hC.blk.cell rfl,⟨by omega,by rw[hlen];omega⟩,_,rfl,?_⟩
   rw[Int.toNat_natCast]
   refine hC.wr (i:=i) (by rw[hlen];omega) cf1 (by simp) (by rw[hget];rfl) fun w4 h4=>⟨i+1,⟨rfl,rfl,by rw[w64 (by omega)];rfl,trivial⟩,⟨by omega,?_⟩,by omega⟩
   have e1:(List.replicate i cf1++List.replicate (n-i) cf0).set i cf1=List.replicate (i+1) cf1++List.replicate (n-(i+1)) cf0:=by
    rw[List.set_append_right _ _ (by simp),List.length_replicate,Nat.sub_self,show n-i=(n-(i+1))+1 by omega,List.replicate_succ,List.set_cons_zero,List.replicate_succ',List.append_assoc]
    rfl
   rw[<-e1];exact h4
  ·have g:=of_decide_eq_false g
   have:i=n:=by omega
   subst this
   obtain⟨F',h1,h2,h3⟩:=hC.out (x:=List.replicate i ⟨true,false,0,0⟩) (by simp[cf1]) ⟨fun q hq=>by rw[List.eq_of_mem_replicate hq];decide,by simpa using hn⟩
   refine⟨b,F',rfl,h1,hU.trans h2 (fun j hj hf=>?_),fun j hj=>?_⟩
   ·rcases hf with rfl|⟨a,ha,rfl⟩
    ·omega
    ·cases ha;simp only at hj;omega
   ·rcases h3 j hj with h|h
    ·rcases h with rfl|⟨a,ha,rfl⟩
     ·omega
     ·cases ha;exact Nat.le_refl _
    ·exact Nat.le_trans hU.size h
 ·have:=of_decide_eq_true g;omega
end Go.Dav
namespace Go.Dav
open Go.Proofs
structure KQ where
 th:Nat
 rq:Nat
 tm:Nat
 ir:Nat
 rt:Nat
 wk:Nat
 ca:Nat
 st:Nat
 sc:Nat
 ga:Nat
 so:Nat
 dk:Nat
 co:Nat
 me:Nat
 gp:Option Addr
 gc:Nat
 ow:Nat
def LpO (T:TypeId) (p:Option Addr) (c:Nat):Ob (List (Nat×Unit)):=fun w F qs=>(∀i,F i↔fpS p i)/\Sl w T 1 p qs.length c (qs.map ptV)
instance Frame.lpo (T:TypeId) (p:Option Addr) (c:Nat):Frame (LpO T p c) where
 upd:=fun⟨h1,h2⟩ k hG=>⟨h1,h2.upd k (fun i hi=>hG i ((h1 i).2 hi))⟩
 lt:=fun⟨h1,h2⟩ i hi=>h2.lt i ((h1 i).1 hi)
def GvsO (p:Option Addr) (c:Nat):Ob Nat:=fun w F n=>∃qs:List (Nat×Unit),qs.length=n/\Star (LpO 137 p c) (Fam (At GvO)) w F (qs,qs)
instance Frame.gvs (p:Option Addr) (c:Nat):Frame (GvsO p c) where
 upd:=fun⟨qs,r,h⟩ k hG=>⟨qs,r,Frame.star.upd h k hG⟩
 lt:=fun⟨_,_,h⟩=>Frame.star.lt h
abbrev KR:=Nat×BV×BV×Int×Int
def kCells (q:KQ) (r:KR):List Value:=[.pointer (some ⟨q.th,0,none⟩),.pointer (some ⟨q.rq,0,none⟩),.pointer (some ⟨q.tm,0,none⟩),.pointer (some ⟨q.ir,0,none⟩),.pointer (some ⟨q.rt,0,none⟩),.pointer (some ⟨q.wk,0,none⟩),.pointer (some ⟨q.ca,0,none⟩),.pointer (some ⟨q.st,0,none⟩),.pointer (some ⟨q.sc,0,none⟩),.pointer (some ⟨q.ga,0,none⟩),.pointer (some ⟨q.so,0,none⟩),.pointer (some ⟨q.dk,0,none⟩),.pointer (some ⟨q.co,0,none⟩),.pointer (some ⟨q.me,0,none⟩),.slice q.gp r.1 q.gc,.int .i64 (r.1:Int),.int .u64 (mi r.2.1),.int .u64 (mi r.2.2.1),.int .i64 r.2.2.2.1,.int .i64 r.2.2.2.2,.map (some q.ow)]
inductive KP where
 | row (q:KQ) (r:KR)
 | th (b:Nat) (s:Int×TL)
 | rq (b:Nat) (s:RS)
 | tm (b:Nat) (s:TmS)
 | ir (b:Nat) (s:IrS)
 | rt (b:Nat) (s:RtS)
 | wk (b:Nat) (s:QL)
 | ca (b:Nat) (s:CS)
 | st (b:Nat) (s:KS)
 | sc (b:Nat) (s:List Int)
 | ga (b:Nat) (s:GaS)
 | so (b:Nat) (s:BV×BV)
 | dk (b:Nat) (s:DkS)
 | co (b:Nat) (s:List CoS)
 | me (b:Nat) (s:Nat)
 | gv (p:Option Addr) (c:Nat) (n:Nat)
 | ow (b:Nat) (m:DuM)
def KPO (b:Nat):Ob KP:=fun w F x=>match x with
 | .row q r=>Rw b 94 (kCells q) w F r
 | .th b s=>ThO b w F s
 | .rq b s=>RqO b w F s
 | .tm b s=>TmO b w F s
 | .ir b s=>IrO b w F s
 | .rt b s=>RtO b w F s
 | .wk b s=>WkI b w F s
 | .ca b s=>CaO b w F s
 | .st b s=>StO_Stash b w F s
 | .sc b s=>SpO b w F s
 | .ga b s=>GaO b w F s
 | .so b s=>StO_Stop b w F s
 | .dk b s=>DkO b w F s
 | .co b s=>CoO b w F s
 | .me b s=>MeO b w F s
 | .gv p c n=>GvsO p c w F n
 | .ow b m=>MapO b (Value.int .i64) w F m
instance Frame.kpo (b:Nat):Frame (KPO b) where
 upd:=fun{w w2 F G s} h k hG=>by
  cases s with
  | row q r=>exact(Frame.rw ..).upd (A:=Rw b 94 (kCells q)) h k hG
  | th b s=>exact Frame.upd (A:=ThO b) h k hG
  | rq b s=>exact Frame.upd (A:=RqO b) h k hG
  | tm b s=>exact Frame.upd (A:=TmO b) h k hG
  | ir b s=>exact Frame.upd (A:=IrO b) h k hG
  | rt b s=>exact Frame.upd (A:=RtO b) h k hG
  | wk b s=>exact Frame.upd (A:=WkI b) h k hG
  | ca b s=>exact Frame.upd (A:=CaO b) h k hG
  | st b s=>exact Frame.upd (A:=StO_Stash b) h k hG
  | sc b s=>exact Frame.upd (A:=SpO b) h k hG
  | ga b s=>exact Frame.upd (A:=GaO b) h k hG
  | so b s=>exact Frame.upd (A:=StO_Stop b) h k hG
  | dk b s=>exact Frame.upd (A:=DkO b) h k hG
  | co b s=>exact Frame.upd (A:=CoO b) h k hG
  | me b s=>exact Frame.upd (A:=MeO b) h k hG
  | gv p c n=>exact Frame.upd (A:=GvsO p c) h k hG
  | ow b m=>exact Frame.upd (A:=MapO b (Value.int .i64)) h k hG
 lt:=fun{w F s} h=>by
  cases s with
  | row q r=>exact(Frame.rw b 94 (kCells q)).lt h
  | th b s=>exact Frame.lt (A:=ThO b) h
  | rq b s=>exact Frame.lt (A:=RqO b) h
  | tm b s=>exact Frame.lt (A:=TmO b) h
  | ir b s=>exact Frame.lt (A:=IrO b) h
  | rt b s=>exact Frame.lt (A:=RtO b) h
  | wk b s=>exact Frame.lt (A:=WkI b) h
  | ca b s=>exact Frame.lt (A:=CaO b) h
  | st b s=>exact Frame.lt (A:=StO_Stash b) h
  | sc b s=>exact Frame.lt (A:=SpO b) h
  | ga b s=>exact Frame.lt (A:=GaO b) h
  | so b s=>exact Frame.lt (A:=StO_Stop b) h
  | dk b s=>exact Frame.lt (A:=DkO b) h
  | co b s=>exact Frame.lt (A:=CoO b) h
  | me b s=>exact Frame.lt (A:=MeO b) h
  | gv p c n=>exact Frame.lt (A:=GvsO p c) h
  | ow b m=>exact Frame.lt (A:=MapO b (Value.int .i64)) h
def kList (q:KQ) (k:K) (cnt:List Int) (m:DuM):List KP:=[.row q (k.n,k.on,k.ac,k.now,k.lim),.th q.th (k.th),.rq q.rq (k.rq),.tm q.tm (k.tm),.ir q.ir (k.ir),.rt q.rt (k.rt),.wk q.wk (k.wk),.ca q.ca (k.ca),.st q.st (k.st),.sc q.sc (cnt),.ga q.ga (k.ga),.so q.so (k.sp),.dk q.dk (k.dk),.co q.co (k.co),.me q.me (k.n),.gv q.gp q.gc k.n,.ow q.ow m]
def KF (b:Nat) (q:KQ):Ob K:=fun w F k=>∃cnt m,Fam (KPO b) w F (kList q k cnt m)/\m.1=k.own/\(1<=k.n/\k.n<=64)
def KO (b:Nat):Ob K:=fun w F k=>∃q,KF b q w F k
instance Frame.kf (b:Nat) (q:KQ):Frame (KF b q) where
 upd:=fun⟨cnt,m,h,r⟩ k hG=>⟨cnt,m,Frame.fam.upd h k hG,r⟩
 lt:=fun⟨_,_,h,_⟩=>Frame.fam.lt h
instance Frame.ko (b:Nat):Frame (KO b) where
 upd:=fun⟨q,h⟩ k hG=>⟨q,(Frame.kf b q).upd h k hG⟩
 lt:=fun⟨q,h⟩=>(Frame.kf b q).lt h
theorem KO.fix {b:Nat} {W w:World} {F:Fp} {k:K} (h:Turn (KO b) W w F k):∃q,Turn (KF b q) W w F k:=by
 obtain⟨F',⟨q,h1⟩,h2⟩:=h
 exact⟨q,F',h1,h2⟩
theorem KF.loose {b:Nat} {q:KQ} {W w:World} {F:Fp} {k:K} (h:Turn (KF b q) W w F k):Turn (KO b) W w F k:=by
 obtain⟨F',h1,h2⟩:=h
 exact⟨F',⟨q,h1⟩,h2⟩
section
variable {b:Nat} {q:KQ} {W w:World} {F:Fp} {k:K}
theorem KF.num (h:Turn (KF b q) W w F k):1<=k.n/\k.n<=64:=by
 obtain⟨F',⟨cnt,m,_,h2⟩,_⟩:=h
 exact h2.2
theorem KF.blk (h:Turn (KF b q) W w F k):Blk w b (kCells q (k.n,k.on,k.ac,k.now,k.lim)) 94:=by
 obtain⟨F',⟨cnt,m,h1,_⟩,_⟩:=h
 obtain⟨F1,a1,_⟩:=Fam.at h1 (i:=0) (by simp[kList])
 exact a1.2
theorem KF.row (h:Turn (KF b q) W w F k) (r:KR) (hr:r.1=k.n) {w':World} (hW:Wrote w w' b (kCells q r) 94):Turn (KF b q) W w' F {k with on:=r.2.1,ac:=r.2.2.1,now:=r.2.2.2.1,lim:=r.2.2.2.2}:=by
 obtain⟨F0,h0,k0⟩:=h.turn
 obtain⟨cnt,m,h1,hm⟩:=h0
 obtain⟨F1,a1,_,a3⟩:=Fam.at h1 (i:=0) (by simp[kList])
 have a1':Rw b 94 (kCells q) w F1 (k.n,k.on,k.ac,k.now,k.lim):=a1
 obtain⟨F2,t1,t2⟩:=a3 w' (.row q r) (a1'.turned (s':=r) hW.U hW.blk')
 refine k0 _ _ ⟨F2,⟨cnt,m,?_,hm⟩,t2⟩
 obtain⟨n,on,ac,now,lim⟩:=r
 simp only at hr
 subst hr
 exact t1
theorem KF.th (h:Turn (KF b q) W w F k):∃F1,ThO q.th w F1 k.th/\∀w' s',Turn (ThO q.th) w w' F1 s'->Turn (KF b q) W w' F {k with th:=s'}:=by
 obtain⟨F0,h0,k0⟩:=h.turn
 obtain⟨cnt,m,h1,hm⟩:=h0
 obtain⟨F1,a1,_,a3⟩:=Fam.at h1 (i:=1) (by simp[kList])
 refine⟨F1,a1,fun w' s' hT=>k0 _ _ ?_⟩
 obtain⟨F2,t1,t2⟩:=a3 w' (.th q.th s') hT
 exact⟨F2,⟨cnt,m,t1,hm⟩,t2⟩
theorem KF.rq (h:Turn (KF b q) W w F k):∃F1,RqO q.rq w F1 k.rq/\∀w' s',Turn (RqO q.rq) w w' F1 s'->Turn (KF b q) W w' F {k with rq:=s'}:=by
 obtain⟨F0,h0,k0⟩:=h.turn
 obtain⟨cnt,m,h1,hm⟩:=h0
 obtain⟨F1,a1,_,a3⟩:=Fam.at h1 (i:=2) (by simp[kList])
 refine⟨F1,a1,fun w' s' hT=>k0 _ _ ?_⟩
 obtain⟨F2,t1,t2⟩:=a3 w' (.rq q.rq s') hT
 exact⟨F2,⟨cnt,m,t1,hm⟩,t2⟩
theorem KF.tm (h:Turn (KF b q) W w F k):∃F1,TmO q.tm w F1 k.tm/\∀w' s',Turn (TmO q.tm) w w' F1 s'->Turn (KF b q) W w' F {k with tm:=s'}:=by
 obtain⟨F0,h0,k0⟩:=h.turn
 obtain⟨cnt,m,h1,hm⟩:=h0
 obtain⟨F1,a1,_,a3⟩:=Fam.at h1 (i:=3) (by simp[kList])
 refine⟨F1,a1,fun w' s' hT=>k0 _ _ ?_⟩
 obtain⟨F2,t1,t2⟩:=a3 w' (.tm q.tm s') hT
 exact⟨F2,⟨cnt,m,t1,hm⟩,t2⟩
theorem KF.ir (h:Turn (KF b q) W w F k):∃F1,IrO q.ir w F1 k.ir/\∀w' s',Turn (IrO q.ir) w w' F1 s'->Turn (KF b q) W w' F {k with ir:=s'}:=by
 obtain⟨F0,h0,k0⟩:=h.turn
 obtain⟨cnt,m,h1,hm⟩:=h0
 obtain⟨F1,a1,_,a3⟩:=Fam.at h1 (i:=4) (by simp[kList])
 refine⟨F1,a1,fun w' s' hT=>k0 _ _ ?_⟩
 obtain⟨F2,t1,t2⟩:=a3 w' (.ir q.ir s') hT
 exact⟨F2,⟨cnt,m,t1,hm⟩,t2⟩
theorem KF.rt (h:Turn (KF b q) W w F k):∃F1,RtO q.rt w F1 k.rt/\∀w' s',Turn (RtO q.rt) w w' F1 s'->Turn (KF b q) W w' F {k with rt:=s'}:=by
 obtain⟨F0,h0,k0⟩:=h.turn
 obtain⟨cnt,m,h1,hm⟩:=h0
 obtain⟨F1,a1,_,a3⟩:=Fam.at h1 (i:=5) (by simp[kList])
 refine⟨F1,a1,fun w' s' hT=>k0 _ _ ?_⟩
 obtain⟨F2,t1,t2⟩:=a3 w' (.rt q.rt s') hT
 exact⟨F2,⟨cnt,m,t1,hm⟩,t2⟩
theorem KF.wk (h:Turn (KF b q) W w F k):∃F1,WkI q.wk w F1 k.wk/\∀w' s',Turn (WkI q.wk) w w' F1 s'->Turn (KF b q) W w' F {k with wk:=s'}:=by
 obtain⟨F0,h0,k0⟩:=h.turn
 obtain⟨cnt,m,h1,hm⟩:=h0
 obtain⟨F1,a1,_,a3⟩:=Fam.at h1 (i:=6) (by simp[kList])
 refine⟨F1,a1,fun w' s' hT=>k0 _ _ ?_⟩
 obtain⟨F2,t1,t2⟩:=a3 w' (.wk q.wk s') hT
 exact⟨F2,⟨cnt,m,t1,hm⟩,t2⟩
theorem KF.ca (h:Turn (KF b q) W w F k):∃F1,CaO q.ca w F1 k.ca/\∀w' s',Turn (CaO q.ca) w w' F1 s'->Turn (KF b q) W w' F {k with ca:=s'}:=by
 obtain⟨F0,h0,k0⟩:=h.turn
 obtain⟨cnt,m,h1,hm⟩:=h0
 obtain⟨F1,a1,_,a3⟩:=Fam.at h1 (i:=7) (by simp[kList])
 refine⟨F1,a1,fun w' s' hT=>k0 _ _ ?_⟩
 obtain⟨F2,t1,t2⟩:=a3 w' (.ca q.ca s') hT
 exact⟨F2,⟨cnt,m,t1,hm⟩,t2⟩
theorem KF.st (h:Turn (KF b q) W w F k):∃F1,StO_Stash q.st w F1 k.st/\∀w' s',Turn (StO_Stash q.st) w w' F1 s'->Turn (KF b q) W w' F {k with st:=s'}:=by
 obtain⟨F0,h0,k0⟩:=h.turn
 obtain⟨cnt,m,h1,hm⟩:=h0
 obtain⟨F1,a1,_,a3⟩:=Fam.at h1 (i:=8) (by simp[kList])
 refine⟨F1,a1,fun w' s' hT=>k0 _ _ ?_⟩
 obtain⟨F2,t1,t2⟩:=a3 w' (.st q.st s') hT
 exact⟨F2,⟨cnt,m,t1,hm⟩,t2⟩
theorem KF.sc (h:Turn (KF b q) W w F k):∃F1 cnt,SpO q.sc w F1 cnt/\∀w' s',Turn (SpO q.sc) w w' F1 s'->Turn (KF b q) W w' F k:=by
 obtain⟨F0,h0,k0⟩:=h.turn
 obtain⟨cnt,m,h1,hm⟩:=h0
 obtain⟨F1,a1,_,a3⟩:=Fam.at h1 (i:=9) (by simp[kList])
 refine⟨F1,cnt,a1,fun w' s' hT=>k0 _ _ ?_⟩
 obtain⟨F2,t1,t2⟩:=a3 w' (.sc q.sc s') hT
 exact⟨F2,⟨s',m,t1,hm⟩,t2⟩
theorem KF.ga (h:Turn (KF b q) W w F k):∃F1,GaO q.ga w F1 k.ga/\∀w' s',Turn (GaO q.ga) w w' F1 s'->Turn (KF b q) W w' F {k with ga:=s'}:=by
 obtain⟨F0,h0,k0⟩:=h.turn
 obtain⟨cnt,m,h1,hm⟩:=h0
 obtain⟨F1,a1,_,a3⟩:=Fam.at h1 (i:=10) (by simp[kList])
 refine⟨F1,a1,fun w' s' hT=>k0 _ _ ?_⟩
 obtain⟨F2,t1,t2⟩:=a3 w' (.ga q.ga s') hT
 exact⟨F2,⟨cnt,m,t1,hm⟩,t2⟩
theorem KF.so (h:Turn (KF b q) W w F k):∃F1,StO_Stop q.so w F1 k.sp/\∀w' s',Turn (StO_Stop q.so) w w' F1 s'->Turn (KF b q) W w' F {k with sp:=s'}:=by
 obtain⟨F0,h0,k0⟩:=h.turn
 obtain⟨cnt,m,h1,hm⟩:=h0
 obtain⟨F1,a1,_,a3⟩:=Fam.at h1 (i:=11) (by simp[kList])
 refine⟨F1,a1,fun w' s' hT=>k0 _ _ ?_⟩
 obtain⟨F2,t1,t2⟩:=a3 w' (.so q.so s') hT
 exact⟨F2,⟨cnt,m,t1,hm⟩,t2⟩
theorem KF.dk (h:Turn (KF b q) W w F k):∃F1,DkO q.dk w F1 k.dk/\∀w' s',Turn (DkO q.dk) w w' F1 s'->Turn (KF b q) W w' F {k with dk:=s'}:=by
 obtain⟨F0,h0,k0⟩:=h.turn
 obtain⟨cnt,m,h1,hm⟩:=h0
 obtain⟨F1,a1,_,a3⟩:=Fam.at h1 (i:=12) (by simp[kList])
 refine⟨F1,a1,fun w' s' hT=>k0 _ _ ?_⟩
 obtain⟨F2,t1,t2⟩:=a3 w' (.dk q.dk s') hT
 exact⟨F2,⟨cnt,m,t1,hm⟩,t2⟩
theorem KF.co (h:Turn (KF b q) W w F k):∃F1,CoO q.co w F1 k.co/\∀w' s',Turn (CoO q.co) w w' F1 s'->Turn (KF b q) W w' F {k with co:=s'}:=by
 obtain⟨F0,h0,k0⟩:=h.turn
 obtain⟨cnt,m,h1,hm⟩:=h0
 obtain⟨F1,a1,_,a3⟩:=Fam.at h1 (i:=13) (by simp[kList])
 refine⟨F1,a1,fun w' s' hT=>k0 _ _ ?_⟩
 obtain⟨F2,t1,t2⟩:=a3 w' (.co q.co s') hT
 exact⟨F2,⟨cnt,m,t1,hm⟩,t2⟩
theorem KF.me (h:Turn (KF b q) W w F k):∃F1,MeO q.me w F1 k.n/\∀w',Turn (MeO q.me) w w' F1 k.n->Turn (KF b q) W w' F k:=by
 obtain⟨F0,h0,k0⟩:=h.turn
 obtain⟨cnt,m,h1,hm⟩:=h0
 obtain⟨F1,a1,_,a3⟩:=Fam.at h1 (i:=14) (by simp[kList])
 refine⟨F1,a1,fun w' hT=>k0 _ _ ?_⟩
 obtain⟨F2,t1,t2⟩:=a3 w' (.me q.me k.n) hT
 exact⟨F2,⟨cnt,m,t1,hm⟩,t2⟩
theorem KF.gvs (h:Turn (KF b q) W w F k):∃F1,GvsO q.gp q.gc w F1 k.n/\∀w',Turn (GvsO q.gp q.gc) w w' F1 k.n->Turn (KF b q) W w' F k:=by
 obtain⟨F0,h0,k0⟩:=h.turn
 obtain⟨cnt,m,h1,hm⟩:=h0
 obtain⟨F1,a1,_,a3⟩:=Fam.at h1 (i:=15) (by simp[kList])
 refine⟨F1,a1,fun w' hT=>k0 _ _ ?_⟩
 obtain⟨F2,t1,t2⟩:=a3 w' (.gv q.gp q.gc k.n) hT
 exact⟨F2,⟨cnt,m,t1,hm⟩,t2⟩
theorem KF.own (h:Turn (KF b q) W w F k):∃F1 n,MapO q.ow (Value.int .i64) w F1 (k.own,n)/\∀w' (m':DuM),Turn (MapO q.ow (Value.int .i64)) w w' F1 m'->Turn (KF b q) W w' F {k with own:=m'.1}:=by
 obtain⟨F0,h0,k0⟩:=h.turn
 obtain⟨cnt,m,h1,hm⟩:=h0
 obtain⟨F1,a1,_,a3⟩:=Fam.at h1 (i:=16) (by simp[kList])
 have a1':MapO q.ow (Value.int .i64) w F1 (k.own,m.2):=by rw[<-hm.1];exact a1
 refine⟨F1,m.2,a1',fun w' m' hT=>k0 _ _ ?_⟩
 obtain⟨F2,t1,t2⟩:=a3 w' (.ow q.ow m') hT
 exact⟨F2,⟨cnt,m',t1,rfl,hm.2⟩,t2⟩
end
end Go.Dav
namespace Go.Dav
open Go.Proofs
theorem Turn.tab {σ:Type} {A:Ob σ} {W w:World} {F:Fp} {s:σ} (h:Turn A W w F s) (hT:Tab W) (h0:¬F 0):Tab w:=by
 obtain⟨F',_,hU,_⟩:=h
 refine Cells.upd hT fun a ha=>?_
 cases ha
 obtain⟨a',ha',hc⟩:=hT 0 _ (by rfl)
 cases ha'
 have:=cell_lt hc
 rw[add_block]at this
 exact hU.blk _ this h0
abbrev Lb (p:Nat) (T:TypeId):Ob (List Value):=Rw p T (fun s=>s)
theorem lb_blk {σ:Type} {A:Ob σ} [Frame A] {p:Nat} {T:TypeId} {W w:World} {F:Fp} {s:σ} {l:List Value} (h:Turn (Star A (Lb p T)) W w F (s,l)):Blk w p l T:=by
 obtain⟨F2,hR,_⟩:=h.right
 exact hR.blk
theorem lb_wr {σ:Type} {A:Ob σ} [Frame A] {p:Nat} {T:TypeId} {W w:World} {F:Fp} {s:σ} {l vs:List Value} (h:Turn (Star A (Lb p T)) W w F (s,l)) (hl:vs.length=l.length) {K:World->Prop} (hK:∀w',Turn (Star A (Lb p T)) W w' F (s,vs)->K w'):Wr w ⟨p,0,none⟩ vs K:=by
 obtain⟨F2,hR,kR⟩:=h.right
 refine hR.blk.wr0 (by simp only;omega) fun w' hW=>hK w' (kR w' vs (hR.turned hW.U ?_))
 have e:setL l 0 vs=vs:=by simp[setL,hl]
 have:=hW.blk'
 simp only at this
 rwa [e]at this
section
variable {b:Nat} {W w:World} {F:Fp} {k:K}
theorem KS.fix {p:Nat} {T:TypeId} {l:List Value} (h:Turn (Star (KO b) (Lb p T)) W w F (k,l)):∃q F1,KF b q w F1 k/\Turn (KF b q) w w F1 k/\∀w' k',Turn (KF b q) w w' F1 k'->Turn (Star (KO b) (Lb p T)) W w' F (k',l):=by
 obtain⟨F1,⟨q,h1⟩,k1⟩:=h.left
 exact⟨q,F1,h1,Turn.same h1,fun w' k' hT=>k1 _ _ (KF.loose hT)⟩
theorem kof_ok (h:Turn (KO b) W w F k) (c:Int):Calls Tryz.prog 152 #[.pointer (some ⟨b,0,none⟩),.int .i64 c] w fun e w'=>e=.returned (.int .i64 (ofK k c))/\w'=w:=by
 obtain⟨q,hq⟩:=KO.fix h
 have hB:=KF.blk hq
 refine u152 ?_
 rw[t152]
 unfold ofK
 refine⟨fun g1=>⟨_,rfl,_,hB.cell rfl,fun g2=>?_,fun g2=>⟨_,rfl,_,hB.cell rfl,⟨(mHas_ok k.ac c w).mono ?_⟩⟩⟩,fun g1=>?_⟩
 ·have g2:=of_decide_eq_true g2
  rw[if_neg (by simp only at g2;omega)]
  exact⟨rfl,rfl⟩
 ·have g1:=of_decide_eq_false g1
  have g2:=of_decide_eq_false g2
  rintro e w1 ⟨rfl,rfl⟩
  rw[if_pos ⟨by omega,by simp only at g2;omega⟩]
  refine⟨_,rfl,fun g=>?_,fun g=>?_⟩
  ·have g:hs k.ac c=false:=by simpa using g
   rw[g];exact⟨rfl,rfl⟩
  ·have g:hs k.ac c=true:=by simpa using g
   rw[g];exact⟨rfl,rfl⟩
 ·have g1:=of_decide_eq_true g1
  rw[if_neg (by omega)]
  exact⟨rfl,rfl⟩
theorem karm_ok (hTab:Tab W) (h0:¬F 0) (h:Turn (KO b) W w F k) (c n:Int):Calls Tryz.prog 153 #[.pointer (some ⟨b,0,none⟩),.int .i64 c,.int .i64 n] w fun e w'=>e=.returned (.tuple #[.int .i64 (armKE k c n).1,.int .i64 (armKE k c n).2])/\Turn (KO b) W w' F (armKS k c n):=by
 obtain⟨q,hq⟩:=KO.fix h
 have hB:=KF.blk hq
 refine u153 ?_
 rw[t153]
 refine⟨_,rfl,_,hB.cell rfl,⟨(later_ok k.now n w).mono ?_⟩⟩
 rintro e w1 ⟨rfl,rfl⟩
 unfold armKE armKS
 refine⟨_,_,rfl,fun g=>?_,fun g=>?_⟩
 ·have g:(laterE k.now n).2≠0:=by simpa using g
  rw[if_neg g,if_neg g]
  exact⟨rfl,h⟩
 ·have g:(laterE k.now n).2=0:=by simpa using g
  rw[if_pos g,if_pos g]
  obtain⟨F1,hA,kA⟩:=KF.tm hq
  refine⟨_,rfl,_,hB.cell2 rfl,⟨(tarm_ok (h.tab hTab h0) hA c _).mono ?_⟩⟩
  rintro e w2 ⟨rfl,hT⟩
  exact⟨_,_,rfl,rfl,KF.loose (kA _ _ hT)⟩
theorem kput_ok (hTab:Tab W) (h0:¬F 0) (h:Turn (KO b) W w F k) (id near:Int):Calls Tryz.prog 126 #[.pointer (some ⟨b,0,none⟩),.int .i64 id,.int .i64 near] w fun e w'=>e=.returned (.tuple #[])/\Turn (KO b) W w' F (putK k id near):=by
 obtain⟨q,hq⟩:=KO.fix h
 have hB:=KF.blk hq
 obtain⟨F1,hA,_⟩:=KF.th hq
 refine u126 ?_
 rw[t126]
 refine⟨_,rfl,_,hB.cell2 rfl,⟨(get_ok hA id).mono ?_⟩⟩
 rintro e w1 ⟨rfl,hU1⟩
 refine⟨_,_,_,_,_,_,_,rfl,⟨fun w2 hN=>?_⟩⟩
 have hS:Turn (Star (KO b) (Lb w1.heap.size 250)) W w2 F (k,[.int .i64 0,.int .u64 0,.int .i64 0,.bool false,.bool false,.int .i64 0]):=(h.upd hU1).add (hN.upd no) (Rw.new hN rfl) (fun i hi=>Nat.le_of_eq hi.symm)
 generalize w1.heap.size=p at hS⊢
 refine lb_wr hS (by rfl) fun w3 hS=>?_
 intro w4 q1 q2 q3 q4
 replace hS:=hS.upd (Upd.same no q1 q2 q3 q4)
 obtain⟨q4,F4,_,hK4,kK4⟩:=KS.fix hS
 have hB4:=KF.blk hK4
 obtain⟨F5,hA5,kA5⟩:=KF.th hK4
 refine⟨_,(lb_blk hS).cell rfl,_,rfl,_,hB4.cell rfl,⟨(choose_ok (hS.tab hTab h0) _ _ near).mono ?_⟩⟩
 rintro e w5 ⟨rfl,rfl⟩
 refine⟨_,_,_,rfl,_,rfl,_,hB4.cell2 rfl,⟨(place_ok hA5 id _ _).mono ?_⟩⟩
 rintro e w6 ⟨rfl,hT6⟩
 replace hS:=kK4 _ _ (kA5 _ _ hT6)
 refine⟨_,rfl,fun w7 r1 r2 r3 r4=>?_⟩
 replace hS:=hS.upd (Upd.same no r1 r2 r3 r4)
 obtain⟨q7,F7,_,hK7,kK7⟩:=KS.fix hS
 have hB7:=KF.blk hK7
 obtain⟨F8,hA8,kA8⟩:=KF.rq hK7
 refine⟨_,rfl,_,hB7.cell2 rfl,_,(lb_blk hS).cell rfl,⟨(rqput_ok hA8 _ _ id).mono ?_⟩⟩
 rintro e w8 ⟨rfl,hT8⟩
 exact⟨_,rfl,rfl,(kK7 _ _ (kA8 _ _ hT8)).drop⟩
theorem kmend_ok (hTab:Tab W) (h0:¬F 0) (h:Turn (KO b) W w F k) (id:Int):Calls Tryz.prog 130 #[.pointer (some ⟨b,0,none⟩),.int .i64 id] w fun e w'=>e=.returned (.tuple #[])/\Turn (KO b) W w' F (mendK k id):=by
 obtain⟨q,hq⟩:=KO.fix h
 have hB:=KF.blk hq
 obtain⟨F1,hA,_⟩:=KF.th hq
 refine u130 ?_
 rw[t130]
 refine⟨_,rfl,_,hB.cell2 rfl,⟨(get_ok hA id).mono ?_⟩⟩
 rintro e w1 ⟨rfl,hU1⟩
 refine⟨_,_,_,_,_,_,_,rfl,⟨fun w2 hN=>?_⟩⟩
 have hS:Turn (Star (KO b) (Lb w1.heap.size 250)) W w2 F (k,[.int .i64 0,.int .u64 0,.int .i64 0,.bool false,.bool false,.int .i64 0]):=(h.upd hU1).add (hN.upd no) (Rw.new hN rfl) (fun i hi=>Nat.le_of_eq hi.symm)
 generalize w1.heap.size=p at hS⊢
 refine lb_wr hS (by rfl) fun w3 hS=>?_
 intro w4 q1 q2 q3 q4
 replace hS:=hS.upd (Upd.same no q1 q2 q3 q4)
 obtain⟨q4,F4,_,hK4,kK4⟩:=KS.fix hS
 have hB4:=KF.blk hK4
 have hL:=lb_blk hS
 unfold mendK
 refine⟨_,hL.cell rfl,fun g=>⟨_,rfl,_,hB4.cell rfl,_,hL.cell rfl,_,hL.cell rfl,_,hL.cell rfl,⟨(wrong_ok k.ac (0,(thX k id).2.1,(thX k id).2.2.1,(thX k id).2.2.2.1) w4).mono ?_⟩⟩,fun g=>?_⟩
 ·have g:(thX k id).2.2.2.2.1=false:=g
  rintro e w5 ⟨rfl,hU5⟩
  replace hS:=hS.upd hU5
  refine⟨_,rfl,fun g2=>?_,fun g2=>?_⟩
  ·have g2:wrongK k (thX k id)=false:=by unfold wrongK;simpa using g2
   rw[g,g2]
   exact⟨rfl,hS.drop⟩
  ·have g2:wrongK k (thX k id)=true:=by unfold wrongK;simpa using g2
   rw[g,g2]
   obtain⟨q5,F5,_,hK5,kK5⟩:=KS.fix hS
   have hB5:=KF.blk hK5
   obtain⟨F6,hA6,kA6⟩:=KF.rq hK5
   refine⟨_,rfl,_,hB5.cell2 rfl,⟨(rqtake_ok hA6 id).mono ?_⟩⟩
   rintro e w6 ⟨rfl,hT6⟩
   replace hS:=kK5 _ _ (kA6 _ _ hT6)
   refine⟨_,rfl,_,(lb_blk hS).cell rfl,⟨(kput_ok hTab h0 hS.drop id _).mono ?_⟩⟩
   rintro e w7 ⟨rfl,hT7⟩
   exact⟨rfl,rfl,hT7⟩
 ·have g:(thX k id).2.2.2.2.1=true:=g
  rw[g]
  exact⟨rfl,hS.drop⟩
theorem kquiet_ok (h:Turn (KO b) W w F k) (t:Int):Calls Tryz.prog 133 #[.pointer (some ⟨b,0,none⟩),.int .i64 t] w fun e w'=>e=.returned (.tuple #[])/\Turn (KO b) W w' F (quietK k t):=by
 obtain⟨q,hq⟩:=KO.fix h
 have hB:=KF.blk hq
 obtain⟨F1,hA,kA⟩:=KF.tm hq
 refine u133 ?_
 rw[t133]
 refine⟨_,rfl,_,hB.cell2 rfl,⟨(tcancel_ok hA t).mono ?_⟩⟩
 rintro e w1 ⟨rfl,hT⟩
 have h1:=kA _ _ hT
 obtain⟨F2,n,hM,kM⟩:=KF.own h1
 obtain⟨w2,hrun,hT2⟩:=run_del tmM hM t 3 (0:TypeId)
 exact⟨_,rfl,_,rfl,_,(KF.blk h1).cell rfl,w2,hrun,rfl,KF.loose (kM _ _ hT2)⟩
theorem kwake_ok (hTab:Tab W) (h0:¬F 0) (h:Turn (KO b) W w F k) (id:Int):Calls Tryz.prog 134 #[.pointer (some ⟨b,0,none⟩),.int .i64 id] w fun e w'=>e=.returned (.tuple #[])/\Turn (KO b) W w' F (wakeK k id):=by
 obtain⟨q,hq⟩:=KO.fix h
 have hB:=KF.blk hq
 obtain⟨F1,hA,kA⟩:=KF.th hq
 refine u134 ?_
 rw[t134]
 refine⟨_,rfl,_,hB.cell2 rfl,⟨(wake_ok hA id).mono ?_⟩⟩
 rintro e w1 ⟨rfl,hT⟩
 have h1:=kA _ _ hT
 obtain⟨F2,hA2,_⟩:=KF.th h1
 refine⟨_,_,rfl,_,rfl,_,(KF.blk h1).cell2 rfl,⟨(get_ok hA2 id).mono ?_⟩⟩
 rintro e w2 ⟨rfl,hU2⟩
 refine⟨_,_,_,_,_,_,_,rfl,⟨fun w3 hN=>?_⟩⟩
 have hS:Turn (Star (KO b) (Lb w2.heap.size 250)) W w3 F (_,[.int .i64 0,.int .u64 0,.int .i64 0,.bool false,.bool false,.int .i64 0]):=((KF.loose h1).upd hU2).add (hN.upd no) (Rw.new hN rfl) (fun i hi=>Nat.le_of_eq hi.symm)
 generalize w2.heap.size=p at hS⊢
 refine lb_wr hS (by rfl) fun w4 hS=>?_
 refine⟨_,(lb_blk hS).cell rfl,⟨(kput_ok hTab h0 hS.drop id _).mono ?_⟩⟩
 rintro e w5 ⟨rfl,hT5⟩
 exact⟨rfl,rfl,hT5⟩
theorem spE_pos (x:TX) (p:Int) (m:BV):0<=(spE x p m).1:=by
 unfold spE
 split
 ·unfold takeE_Slot
  split
  ·simp only;omega
  ·exact Int.le_refl _
 ·exact Int.le_refl _
theorem kspawn_ok (hTab:Tab W) (h0:¬F 0) (hn:1<=k.n) (h:Turn (KO b) W w F k) (p:Int) (m:BV):Calls Tryz.prog 65 #[.pointer (some ⟨b,0,none⟩),.int .i64 p,.int .u64 (mi m)] w fun e w'=>e=.returned (.tuple #[.int .i64 (spawnE k p m).1,.int .i64 (spawnE k p m).2])/\Turn (KO b) W w' F (spawnK k p m):=by
 obtain⟨q,hq⟩:=KO.fix h
 have hB:=KF.blk hq
 obtain⟨F1,hA,kA⟩:=KF.th hq
 refine u65 ?_
 rw[t65]
 refine⟨_,rfl,_,hB.cell2 rfl,⟨(spawn_ok hA (h.tab hTab h0) p m).mono ?_⟩⟩
 rintro e w1 ⟨rfl,hT⟩
 have h1:=kA _ _ hT
 unfold spawnE spawnK
 refine⟨_,_,rfl,fun g=>?_,fun g=>?_⟩
 ·have g:(spE k.th p m).2=0:=by simpa using g
  rw[if_pos g]
  have hp:=spE_pos k.th p m
  have et:Int.tmod (spE k.th p m).1 ((k.n:Nat):Int)=(spE k.th p m).1%(k.n:Int):=Int.tmod_eq_emod_of_nonneg hp
  refine⟨_,rfl,_,(KF.blk h1).cell rfl,(show((k.n:Nat):Int)≠0 by omega),⟨?_⟩⟩
  refine Calls.mono (show Calls Tryz.prog 126 #[.pointer (some ⟨b,0,none⟩),.int .i64 (spE k.th p m).1,.int .i64 (Int.tmod (spE k.th p m).1 ((k.n:Nat):Int))] w1 _ from kput_ok hTab h0 (KF.loose h1) (spE k.th p m).1 _) ?_
  rintro e w2 ⟨rfl,hT2⟩
  rw[et]at hT2
  exact⟨rfl,rfl,hT2⟩
 ·have g:¬(spE k.th p m).2=0:=by simpa using g
  rw[if_neg g]
  exact⟨rfl,KF.loose h1⟩
theorem kcancel_ok (h:Turn (KO b) W w F k) (id:Int):Calls Tryz.prog 162 #[.pointer (some ⟨b,0,none⟩),.int .i64 id] w fun e w'=>e=.returned (.int .i64 (cancelKE k id))/\Turn (KO b) W w' F (cancelKS k id):=by
 obtain⟨q,hq⟩:=KO.fix h
 have hB:=KF.blk hq
 obtain⟨F1,hA,kA⟩:=KF.tm hq
 obtain⟨F2,n,hM,_⟩:=KF.own hq
 refine u162 ?_
 rw[t162]
 refine⟨_,rfl,_,hB.cell2 rfl,⟨(twhere_ok hA id).mono ?_⟩⟩
 rintro e w1 ⟨rfl,rfl⟩
 unfold cancelKE cancelKS
 refine⟨_,_,rfl,fun g=>?_,fun g=>?_⟩
 ·have g:(whereT k.tm id).2=false:=by simpa using g
  rw[g]
  exact⟨rfl,h⟩
 ·have g:(whereT k.tm id).2=true:=by simpa using g
  rw[if_pos g,if_pos g]
  have hlk:=run_lookup tmM hM id false
  have e1:((k.own id).map (Value.int .i64)).getD (.int .i64 0)=.int .i64 ((k.own id).getD 0):=by cases k.own id<;>rfl
  simp only[e1]at hlk
  refine⟨_,rfl,_,hB.cell rfl,_,hlk,fun g2=>?_,fun g2=>⟨_,rfl,_,hB.cell2 rfl,⟨(tcancel_ok hA id).mono ?_⟩⟩⟩
  ·have g2:0<(k.own id).getD 0:=of_decide_eq_true g2
   rw[if_pos g2,if_pos g2]
   exact⟨rfl,h⟩
  ·have g2:¬0<(k.own id).getD 0:=of_decide_eq_false g2
   rw[if_neg g2,if_neg g2]
   rintro e w2 ⟨rfl,hT⟩
   exact⟨_,rfl,rfl,KF.loose (kA _ _ hT)⟩
theorem kflush_ok (h:Turn (KO b) W w F k) (id:Int):Calls Tryz.prog 163 #[.pointer (some ⟨b,0,none⟩),.int .i64 id] w fun e w'=>e=.returned (.tuple #[.int .i64 (flushE k id).1,.int .i64 (flushE k id).2])/\w'=w:=by
 obtain⟨q,hq⟩:=KO.fix h
 have hB:=KF.blk hq
 obtain⟨F1,hA,kA⟩:=KF.wk hq
 refine u163 ?_
 rw[t163]
 unfold flushE
 refine⟨fun g1=>⟨fun g2=>?_,fun g2=>⟨_,rfl,_,hB.cell2 rfl,⟨(whas_ok hA id).mono ?_⟩⟩⟩,fun g1=>?_⟩
 ·rw[if_pos (.inr (of_decide_eq_true g2))];exact⟨rfl,rfl⟩
 ·have g1:=of_decide_eq_false g1
  have g2:=of_decide_eq_false g2
  rw[if_neg (by omega)]
  rintro e w1 ⟨rfl,rfl⟩
  refine⟨_,rfl,fun g=>?_,fun g=>?_⟩
  ·rw[if_pos g];exact⟨rfl,rfl⟩
  ·rw[if_neg (by rw[g];decide)];exact⟨rfl,rfl⟩
 ·rw[if_pos (.inl (of_decide_eq_true g1))];exact⟨rfl,rfl⟩
theorem kplan_ok (h:Turn (KO b) W w F k) (n:Int):Calls Tryz.prog 164 #[.pointer (some ⟨b,0,none⟩),.int .i64 n] w fun e w'=>e=.returned (.int .i64 (planE n))/\Turn (KO b) W w' F {k with dk:=planS k.dk n}:=by
 obtain⟨q,hq⟩:=KO.fix h
 have hB:=KF.blk hq
 obtain⟨F1,hA,kA⟩:=KF.dk hq
 refine u164 ?_
 rw[t164]
 refine⟨fun g1=>⟨fun g2=>?_,fun g2=>⟨_,rfl,_,hB.cell2 rfl,⟨(hplan_ok hA n).mono ?_⟩⟩⟩,fun g1=>?_⟩
 ·have g2:=of_decide_eq_true g2
  have e1:planE n=3:=by unfold planE;rw[if_neg (by omega)]
  have e2:planS k.dk n=k.dk:=by unfold planS;rw[if_neg (by omega)]
  rw[e1,e2]
  exact⟨rfl,h⟩
 ·rintro e w1 ⟨rfl,hT⟩
  exact⟨_,rfl,rfl,KF.loose (kA _ _ hT)⟩
 ·have g1:=of_decide_eq_true g1
  have e1:planE n=3:=by unfold planE;rw[if_neg (by omega)]
  have e2:planS k.dk n=k.dk:=by unfold planS;rw[if_neg (by omega)]
  rw[e1,e2]
  exact⟨rfl,h⟩
theorem klimits_ok (h:Turn (KO b) W w F k) (n:Int):Calls Tryz.prog 166 #[.pointer (some ⟨b,0,none⟩),.int .i64 n] w fun e w'=>e=.returned (.int .i64 (limE n))/\Turn (KO b) W w' F (limK k n):=by
 obtain⟨q,hq⟩:=KO.fix h
 have hB:=KF.blk hq
 refine u166 ?_
 rw[t166]
 unfold limK limE
 refine⟨fun g1=>⟨fun g2=>?_,fun g2=>⟨_,rfl,hB.wr (k:=19) (by simp[kCells]) fun w1 hW=>?_⟩⟩,fun g1=>?_⟩
 ·rw[if_pos (.inr (of_decide_eq_true g2)),if_neg (by decide)];exact⟨rfl,h⟩
 ·have g1:=of_decide_eq_false g1
  have g2:=of_decide_eq_false g2
  rw[if_neg (show ¬(n<0∨1073741824<n) by omega),if_pos rfl]
  exact⟨rfl,KF.loose (KF.row hq (k.n,k.on,k.ac,k.now,n) rfl hW)⟩
 ·rw[if_pos (.inl (of_decide_eq_true g1)),if_neg (by decide)];exact⟨rfl,h⟩
def igM (s:IrS) (n:Int):Iq:=if nout_Irq n then i0 else gq s n
theorem igM_mask (k:K) (n:Int):(igM k.ir n).2.2.2=maskI k n:=by
 unfold igM maskI
 split<;>rfl
theorem iget_ok {b:Nat} {w:World} {F:Fp} {s:IrS} (h:IrO b w F s) (n:Int):Calls Tryz.prog 248 #[.pointer (some ⟨b,0,none⟩),.int .i64 n] w fun e w'=>(∃r:Int,e=.returned (.tuple #[.agg #[.bool (igM s n).1,.bool (igM s n).2.1,.bool (igM s n).2.2.1,.int .u64 (mi (igM s n).2.2.2)],.int .i64 r]))/\Upd no w w':=by
 refine u248 ?_
 rw[t248]
 refine⟨fun w1 hN=>?_⟩
 have hU:=hN.upd no
 have h1:=(inferInstance:Frame (IrO b)).upd h hU (fun _ _ h=>h)
 refine⟨(find_ok_Irq b n w1).mono ?_⟩
 rintro e w2 ⟨⟨hn,rfl⟩|⟨hn,k,rfl,hk,rfl⟩,rfl⟩
 ·have e1:igM s n=i0:=by unfold igM;rw[if_pos hn]
  rw[e1]
  refine⟨_,_,rfl,fun _=>hN.blk'.wr0 (by simp) fun w3 hW=>?_,fun g=>(by simp at g)⟩
  have hB3:=hW.blk'
  exact⟨_,hB3.cell rfl,_,hB3.cell rfl,_,hB3.cell rfl,_,hB3.cell rfl,⟨_,rfl⟩,hU.trans hW.U (fun j hj e=>absurd hj (by omega))⟩
 ·have e1:igM s (k:Int)=gq s (k:Int):=by unfold igM;rw[if_neg hn]
  rw[e1]
  refine⟨_,_,rfl,fun g=>(by simp at g),fun _=>⟨_,rfl,_,h1.cell hk rfl,_,h1.cell hk rfl,_,h1.cell hk rfl,_,h1.cell hk rfl,hN.blk'.wr0 (by simp) fun w3 hW=>?_⟩⟩
  have hB3:=hW.blk'
  exact⟨_,hB3.cell rfl,_,hB3.cell rfl,_,hB3.cell rfl,_,hB3.cell rfl,⟨_,rfl⟩,hU.trans hW.U (fun j hj e=>absurd hj (by omega))⟩
theorem klead_ok (hTab:Tab W) (h0:¬F 0) (h:Turn (KO b) W w F k) (n near:Int):Calls Tryz.prog 138 #[.pointer (some ⟨b,0,none⟩),.int .i64 n,.int .i64 near] w fun e w'=>e=.returned (.tuple #[])/\Turn (KO b) W w' F (leadK k n near):=by
 obtain⟨q,hq⟩:=KO.fix h
 have hB:=KF.blk hq
 obtain⟨F1,hA,_⟩:=KF.ir hq
 refine u138 ?_
 rw[t138]
 refine⟨_,rfl,_,hB.cell2 rfl,⟨(iget_ok hA n).mono ?_⟩⟩
 rintro e w1 ⟨⟨r,rfl⟩,hU1⟩
 refine⟨_,_,_,_,_,rfl,⟨fun w2 hN=>?_⟩⟩
 have hS:Turn (Star (KO b) (Lb w1.heap.size 198)) W w2 F (k,[.bool false,.bool false,.bool false,.int .u64 0]):=(h.upd hU1).add (hN.upd no) (Rw.new hN rfl) (fun i hi=>Nat.le_of_eq hi.symm)
 generalize w1.heap.size=p at hS⊢
 refine lb_wr hS (by rfl) fun w3 hS=>?_
 intro w4 q1 q2 q3 q4
 replace hS:=hS.upd (Upd.same no q1 q2 q3 q4)
 obtain⟨q4,F4,_,hK4,kK4⟩:=KS.fix hS
 have hB4:=KF.blk hK4
 obtain⟨F5,hA5,kA5⟩:=KF.rt hK4
 refine⟨_,(lb_blk hS).cell rfl,_,rfl,_,hB4.cell rfl,⟨(choose_ok (hS.tab hTab h0) _ _ near).mono ?_⟩⟩
 rintro e w5 ⟨rfl,rfl⟩
 refine⟨_,_,_,rfl,_,rfl,_,hB4.cell2 rfl,⟨(set_ok hA5 n _).mono ?_⟩⟩
 rintro e w6 ⟨rfl,hT6⟩
 have hfin:=(kK4 _ _ (kA5 _ _ hT6)).drop
 refine⟨_,rfl,rfl,?_⟩
 unfold leadK
 rw[<-igM_mask]
 exact hfin
theorem kaim_ok (hTab:Tab W) (h0:¬F 0) (h:Turn (KO b) W w F k) (n:Int):Calls Tryz.prog 144 #[.pointer (some ⟨b,0,none⟩),.int .i64 n] w fun e w'=>e=.returned (.tuple #[])/\Turn (KO b) W w' F (aimK k n):=by
 obtain⟨q,hq⟩:=KO.fix h
 have hB:=KF.blk hq
 obtain⟨F1,hA,_⟩:=KF.ir hq
 refine u144 ?_
 rw[t144]
 refine⟨_,rfl,_,hB.cell2 rfl,⟨(iget_ok hA n).mono ?_⟩⟩
 rintro e w1 ⟨⟨r,rfl⟩,hU1⟩
 refine⟨_,_,_,_,_,rfl,⟨fun w2 hN=>?_⟩⟩
 have hS:Turn (Star (KO b) (Lb w1.heap.size 198)) W w2 F (k,[.bool false,.bool false,.bool false,.int .u64 0]):=(h.upd hU1).add (hN.upd no) (Rw.new hN rfl) (fun i hi=>Nat.le_of_eq hi.symm)
 generalize w1.heap.size=p at hS⊢
 refine lb_wr hS (by rfl) fun w3 hS=>?_
 obtain⟨q3,F3,_,hK3,kK3⟩:=KS.fix hS
 have hB3:=KF.blk hK3
 obtain⟨F5,hA5,kA5⟩:=KF.rt hK3
 refine⟨_,rfl,_,hB3.cell2 rfl,⟨(of_ok hA5 n).mono ?_⟩⟩
 rintro e w4 ⟨rfl,rfl⟩
 refine⟨_,_,rfl,?_⟩
 intro w5 q1 q2 q3' q4
 replace hS:=hS.upd (Upd.same no q1 q2 q3' q4)
 obtain⟨q5,F6,_,hK5,kK5⟩:=KS.fix hS
 have hB5:=KF.blk hK5
 have hL:=lb_blk hS
 refine⟨_,rfl,_,hB5.cell rfl,_,hL.cell rfl,_,hL.cell rfl,⟨(mHas_ok (igM k.ir n).2.2.2 (ofE k.rt n).1 w5).mono ?_⟩⟩
 rintro e w6 ⟨rfl,rfl⟩
 refine⟨_,rfl,hL.cell rfl,hB5.cell rfl,⟨(wrong_ok k.ac (0,(igM k.ir n).2.2.2,(ofE k.rt n).1,!hs (igM k.ir n).2.2.2 (ofE k.rt n).1) w6).mono ?_⟩⟩
 rintro e w7 ⟨rfl,hU7⟩
 replace hS:=hS.upd hU7
 rw[igM_mask]
 unfold aimK
 refine⟨_,rfl,fun g=>⟨(klead_ok hTab h0 hS.drop n _).mono ?_⟩,fun g=>?_⟩
 ·rintro e w8 ⟨rfl,hT8⟩
  rw[if_pos g]
  exact⟨rfl,rfl,hT8⟩
 ·rw[if_neg (by rw[g];decide)]
  exact⟨rfl,hS.drop⟩
theorem kexit_ok (h:Turn (KO b) W w F k) (id:Int) (x:Th):Calls Tryz.prog 128 #[.pointer (some ⟨b,0,none⟩),.int .i64 id,.agg #[.int .i64 x.1,.int .u64 (mi x.2.1),.int .i64 x.2.2.1,.bool x.2.2.2.1,.bool x.2.2.2.2.1,.int .i64 x.2.2.2.2.2]] w fun e w'=>e=.returned (.int .i64 (exE k.th id))/\Turn (KO b) W w' F (exitK k id x):=by
 refine u128 ?_
 rw[t128]
 refine⟨fun w1 hN=>?_⟩
 have h1:=h.upd (hN.upd no)
 have hL:=hN.blk'
 have last:∀(k2:K) (w2:World),Turn (KO b) W w2 F k2->CutD Tryz.prog M128 c128_0 (e128_0 (some ⟨b,0,none⟩) id) w2 (k128_0 fun e w'=>e=.returned (.int .i64 (exE k2.th id))/\Turn (KO b) W w' F {k2 with th:=exS k2.th id}):=by
  intro k2 w2 h2
  refine CutD.mk ?_
  rw[t128_0]
  obtain⟨q,hq⟩:=KO.fix h2
  have hB:=KF.blk hq
  obtain⟨F1,hA,kA⟩:=KF.th hq
  refine⟨_,rfl,_,hB.cell2 rfl,⟨(exit_ok hA id).mono ?_⟩⟩
  rintro e w3 ⟨rfl,hT⟩
  exact⟨_,rfl,rfl,KF.loose (kA _ _ hT)⟩
 unfold exitK
 refine⟨_,hL.cell rfl,fun g=>⟨_,hL.cell rfl,⟨(kquiet_ok h1 x.2.2.2.2.2).mono ?_⟩⟩,fun g=>?_⟩
 ·rintro e w2 ⟨rfl,h2⟩
  rw[if_pos g]
  exact⟨rfl,last _ _ h2⟩
 ·rw[if_neg (by rw[g];decide)]
  obtain⟨q,hq⟩:=KO.fix h1
  have hB:=KF.blk hq
  obtain⟨F1,hA,kA⟩:=KF.rq hq
  refine⟨_,rfl,_,hB.cell2 rfl,⟨(rqtake_ok hA id).mono ?_⟩⟩
  rintro e w2 ⟨rfl,hT⟩
  exact⟨_,rfl,last _ _ (KF.loose (kA _ _ hT))⟩
theorem ksleep_ok (hTab:Tab W) (h0:¬F 0) (h:Turn (KO b) W w F k) (id:Int) (x:Th) (n:Int):Calls Tryz.prog 131 #[.pointer (some ⟨b,0,none⟩),.int .i64 id,.agg #[.int .i64 x.1,.int .u64 (mi x.2.1),.int .i64 x.2.2.1,.bool x.2.2.2.1,.bool x.2.2.2.2.1,.int .i64 x.2.2.2.2.2],.int .i64 n] w fun e w'=>e=.returned (.tuple #[.int .i64 (sleepE k id x n).1,.int .i64 (sleepE k id x n).2])/\Turn (KO b) W w' F (sleepK k id x n):=by
 refine u131 ?_
 rw[t131]
 refine⟨fun w1 hN=>?_⟩
 have h1:=h.upd (hN.upd no)
 have hL:=hN.blk'
 obtain⟨q,hq⟩:=KO.fix h1
 have hB:=KF.blk hq
 unfold sleepE sleepK
 refine⟨_,rfl,_,hB.cell rfl,⟨(later_ok k.now n w1).mono ?_⟩⟩
 rintro e w2 ⟨rfl,rfl⟩
 refine⟨_,_,rfl,fun g=>?_,fun g=>?_⟩
 ·have g:(laterE k.now n).2≠0:=by simpa using g
  rw[if_neg g,if_neg g]
  exact⟨rfl,h1⟩
 ·have g:(laterE k.now n).2=0:=by simpa using g
  rw[if_pos g,if_pos g]
  have last:∀cc:Int,CutD Tryz.prog M131 c131_0 (e131_0 (some ⟨b,0,none⟩) id (laterE k.now n).1 cc) w2 (k131_0 fun e w'=>e=.returned (.tuple #[.int .i64 (if(armE k.tm cc (laterE k.now n).1).2=0 then((armE k.tm cc (laterE k.now n).1).1,slpE k.th id)else(0,(armE k.tm cc (laterE k.now n).1).2)).1,.int .i64 (if(armE k.tm cc (laterE k.now n).1).2=0 then((armE k.tm cc (laterE k.now n).1).1,slpE k.th id)else(0,(armE k.tm cc (laterE k.now n).1).2)).2])/\Turn (KO b) W w' F (if(armE k.tm cc (laterE k.now n).1).2=0 then{k with tm:=armS k.tm cc (laterE k.now n).1,own:=fun j=>if j=(armE k.tm cc (laterE k.now n).1).1 then some id else k.own j,rq:=rqTakeS k.rq id,th:=slpS k.th id (armE k.tm cc (laterE k.now n).1).1}else{k with tm:=armS k.tm cc (laterE k.now n).1})):=by
   intro cc
   refine CutD.mk ?_
   rw[t131_0]
   obtain⟨F1,hA,kA⟩:=KF.tm hq
   refine⟨_,rfl,_,hB.cell2 rfl,⟨(tarm_ok (h1.tab hTab h0) hA cc _).mono ?_⟩⟩
   rintro e w3 ⟨rfl,hT3⟩
   have h3:=kA _ _ hT3
   refine⟨_,_,rfl,fun g2=>?_,fun g2=>?_⟩
   ·have g2:(armE k.tm cc (laterE k.now n).1).2≠0:=by simpa using g2
    rw[if_neg g2,if_neg g2]
    exact⟨rfl,KF.loose h3⟩
   ·have g2:(armE k.tm cc (laterE k.now n).1).2=0:=by simpa using g2
    rw[if_pos g2,if_pos g2]
    obtain⟨F2,nn,hM,kM⟩:=KF.own h3
    obtain⟨w4,hrun,hT4⟩:=run_put tmM hM (armE k.tm cc (laterE k.now n).1).1 id
    have h4:=kM _ _ hT4
    obtain⟨F3,hA3,kA3⟩:=KF.rq h4
    refine⟨_,rfl,_,(KF.blk h3).cell rfl,w4,hrun,_,rfl,_,(KF.blk h4).cell2 rfl,⟨(rqtake_ok hA3 id).mono ?_⟩⟩
    rintro e w5 ⟨rfl,hT5⟩
    have h5:=kA3 _ _ hT5
    obtain⟨F4,hA4,kA4⟩:=KF.th h5
    refine⟨_,rfl,_,rfl,_,(KF.blk h5).cell2 rfl,⟨(sleep_ok hA4 id _).mono ?_⟩⟩
    rintro e w6 ⟨rfl,hT6⟩
    exact⟨_,rfl,rfl,KF.loose (kA4 _ _ hT6)⟩
  refine⟨_,hL.cell rfl,_,rfl,_,hB.cell rfl,⟨(mHas_ok k.ac x.2.2.1 w2).mono ?_⟩⟩
  rintro e w3 ⟨rfl,rfl⟩
  refine⟨_,rfl,fun g2=>⟨_,rfl,_,hB.cell rfl,?_⟩,fun g2=>?_⟩
  ·have g2:hs k.ac x.2.2.1=false:=by simpa using g2
   have e1:sleepC k x=(firstE k.ac).1:=by unfold sleepC;rw[if_neg (by rw[g2];decide)]
   refine⟨(mFirst_ok k.ac (h1.tab hTab h0)).mono ?_⟩
   rintro e w4 ⟨rfl,rfl⟩
   rw[e1]
   exact⟨_,_,rfl,last _⟩
  ·have g2:hs k.ac x.2.2.1=true:=by simpa using g2
   have e1:sleepC k x=x.2.2.1:=by unfold sleepC;rw[if_pos g2]
   rw[e1]
   exact last _
end
end Go.Dav
namespace Go.Dav
open Go.Proofs
def rcE_Kdo (r:Rc):List Value:=[.int .i64 r.1,.int .i64 r.2.1,.int .i64 r.2.2.1,.int .i64 r.2.2.2.1,.int .i64 r.2.2.2.2]
def RcL (p:Option Addr) (c:Nat):Ob (List Rc):=fun w F rs=>(∀i,F i↔fpS p i)/\Sl w 43 5 p rs.length c (rs.flatMap rcE_Kdo)
instance Frame.rcl (p:Option Addr) (c:Nat):Frame (RcL p c) where
 upd:=fun⟨h1,h2⟩ k hG=>⟨h1,h2.upd k (fun i hi=>hG i ((h1 i).2 hi))⟩
 lt:=fun⟨h1,h2⟩ i hi=>h2.lt i ((h1 i).1 hi)
def Told_Kdo {σ:Type} (A:Ob σ) (W:World) (F:Fp) (s:σ) (rs:List Rc) (e:Ending) (w':World):Prop:=∃p c,e=.returned (.slice p rs.length c)/\Turn (Star A (RcL p c)) W w' F (s,rs)
theorem answer_ok {σ:Type} {A:Ob σ} [Frame A] {W w:World} {F:Fp} {s:σ} (h:Turn A W w F s) (id why:Int):Calls Tryz.prog 64 #[.int .i64 id,.int .i64 why] w (Told_Kdo A W F s (ansR (id,why))):=by
 refine u64 ?_
 rw[t64]
 unfold ansR
 refine⟨fun g=>⟨fun w1 hN=>?_⟩,fun g=>⟨fun w1 hN=>?_⟩⟩
 ·have g:why≠0:=by simpa using g
  rw[if_neg g]
  refine⟨some ⟨w.heap.size,0,none⟩,1,rfl,h.add (hN.upd no) (G:=fpS (some ⟨w.heap.size,0,none⟩)) ⟨fun _=>Iff.rfl,Sl.new hN rfl (show(1:Nat)<=maxLen by unfold maxLen;omega)⟩ (fun i ⟨a,ha,hi⟩=>?_)⟩
  cases ha;rw[hi];exact Nat.le_refl _
 ·have g:why=0:=by simpa using g
  rw[if_pos g]
  refine⟨some ⟨w.heap.size,0,none⟩,1,rfl,h.add (hN.upd no) (G:=fpS (some ⟨w.heap.size,0,none⟩)) ⟨fun _=>Iff.rfl,Sl.new hN rfl (show(1:Nat)<=maxLen by unfold maxLen;omega)⟩ (fun i ⟨a,ha,hi⟩=>?_)⟩
  cases ha;rw[hi];exact Nat.le_refl _
theorem plain_ok {σ:Type} {A:Ob σ} [Frame A] {W w:World} {F:Fp} {s:σ} (h:Turn A W w F s) (why:Int):Calls Tryz.prog 61 #[.int .i64 why] w (Told_Kdo A W F s (plaR why)):=by
 refine u61 ?_
 rw[t61]
 refine⟨(answer_ok h 0 why).mono ?_⟩
 rintro e w1 ⟨p,c,rfl,hT⟩
 have e1:ansR (0,why)=plaR why:=by unfold ansR plaR;simp
 rw[e1]at hT
 exact⟨_,_,_,rfl,p,c,rfl,hT⟩
theorem told_a {b:Nat} {W w:World} {F:Fp} {k k':K} {rs:List Rc} {x:Int×Int} (h:Turn (KO b) W w F k') (e1:k'=k) (e2:rs=ansR x):Calls Tryz.prog 64 #[.int .i64 x.1,.int .i64 x.2] w fun e w'=>∃p n c,e=.returned (.slice p n c)/\Told_Kdo (KO b) W F k rs (.returned (.slice p n c)) w':=by
 subst e1
 subst e2
 refine(answer_ok h x.1 x.2).mono ?_
 rintro e w1 ⟨p,c,rfl,hT⟩
 exact⟨_,_,_,rfl,p,c,rfl,hT⟩
theorem told_p {b:Nat} {W w:World} {F:Fp} {k k':K} {rs:List Rc} {x:Int} (h:Turn (KO b) W w F k') (e1:k'=k) (e2:rs=plaR x):Calls Tryz.prog 61 #[.int .i64 x] w fun e w'=>∃p n c,e=.returned (.slice p n c)/\Told_Kdo (KO b) W F k rs (.returned (.slice p n c)) w':=by
 subst e1
 subst e2
 refine(plain_ok h x).mono ?_
 rintro e w1 ⟨p,c,rfl,hT⟩
 exact⟨_,_,_,rfl,p,c,rfl,hT⟩
def evC (e:Evt):List Value:=[.int .i64 e.1,.int .i64 e.2.1,.int .i64 e.2.2.1,.int .u64 (mi e.2.2.2.1),.int .i64 e.2.2.2.2]
section
variable {b:Nat} {W w:World} {F:Fp} {k:K}
theorem kplaced_ok (hTab:Tab W) (h0:¬F 0) (h:Turn (KO b) W w F k) (e:Evt):Calls Tryz.prog 69 #[.pointer (some ⟨b,0,none⟩),.agg (evC e).toArray] w (Told_Kdo (KO b) W F (plcK k e) (plcR k e)):=by
 refine u69 ?_
 rw[t69]
 refine⟨fun w1 hN=>?_⟩
 have hS:Turn (Star (KO b) (Lb w.heap.size 33)) W w1 F (k,evC e):=h.add (hN.upd no) (Rw.new hN rfl) (fun i hi=>Nat.le_of_eq hi.symm)
 generalize w.heap.size=p at hS⊢
 refine⟨_,(lb_blk hS).cell rfl,⟨(kof_ok hS.drop e.2.1).mono ?_⟩⟩
 rintro e' w2 ⟨rfl,rfl⟩
 refine⟨_,rfl,fun g=>⟨told_p hS.drop ?_ ?_⟩,fun g=>?_⟩
 ·have g:ofK k e.2.1≠0:=by simpa using g
  unfold plcK;rw[if_pos g]
 ·have g:ofK k e.2.1≠0:=by simpa using g
  unfold plcR;rw[if_pos g]
 ·have g:¬ofK k e.2.1≠0:=by simpa using g
  refine⟨_,(lb_blk hS).cell rfl,fun g1=>⟨_,(lb_blk hS).cell rfl,_,(lb_blk hS).cell rfl,⟨(karm_ok hTab h0 hS.drop e.2.1 e.2.2.2.2).mono ?_⟩⟩,fun g1=>?_⟩
  ·have g1:e.1=10:=by simpa using g1
   rintro e' w3 ⟨rfl,hT⟩
   exact⟨_,_,rfl,⟨told_a (x:=armKE k e.2.1 e.2.2.2.2) hT (by unfold plcK;rw[if_neg g,if_pos g1]) (by unfold plcR;rw[if_neg g,if_pos g1])⟩⟩
  ·have g1:¬e.1=10:=by simpa using g1
   refine⟨fun g2=>?_,fun g2=>?_⟩
   ·have g2:e.1=18:=by simpa using g2
    intro w3 q1 q2 q3 q4
    have hS:=hS.upd (Upd.same no q1 q2 q3 q4)
    obtain⟨q,F1,_,hK,kK⟩:=KS.fix hS
    obtain⟨F2,hA,kA⟩:=KF.wk hK
    refine⟨_,rfl,_,(KF.blk hK).cell2 rfl,_,(lb_blk hS).cell rfl,⟨(wqueue_ok hA (hS.tab hTab h0) e.2.1).mono ?_⟩⟩
    rintro e' w4 ⟨rfl,hT⟩
    exact⟨_,_,rfl,⟨told_a (x:=quE k.wk e.2.1) (kK _ _ (kA _ _ hT)).drop (by unfold plcK;rw[if_neg g,if_neg g1,if_pos g2]) (by unfold plcR;rw[if_neg g,if_neg g1,if_pos g2])⟩⟩
   have g2:¬e.1=18:=by simpa using g2
   refine⟨fun g3=>?_,fun g3=>?_⟩
   ·have g3:e.1=20:=by simpa using g3
    intro w3 q1 q2 q3 q4
    have hS:=hS.upd (Upd.same no q1 q2 q3 q4)
    obtain⟨q,F1,_,hK,kK⟩:=KS.fix hS
    obtain⟨F2,hA,kA⟩:=KF.ca hK
    refine⟨_,rfl,_,(KF.blk hK).cell2 rfl,_,(lb_blk hS).cell rfl,⟨(csend_ok hA (hS.tab hTab h0) e.2.1).mono ?_⟩⟩
    rintro e' w4 ⟨rfl,hT⟩
    exact⟨_,_,rfl,⟨told_a (x:=sendE k.ca e.2.1) (kK _ _ (kA _ _ hT)).drop (by unfold plcK;rw[if_neg g,if_neg g1,if_neg g2,if_pos g3]) (by unfold plcR;rw[if_neg g,if_neg g1,if_neg g2,if_pos g3])⟩⟩
   have g3:¬e.1=20:=by simpa using g3
   refine⟨fun g4=>?_,fun g4=>?_⟩
   ·have g4:e.1=21:=by simpa using g4
    intro w3 q1 q2 q3 q4
    have hS:=hS.upd (Upd.same no q1 q2 q3 q4)
    obtain⟨q,F1,_,hK,kK⟩:=KS.fix hS
    obtain⟨F2,hA,kA⟩:=KF.st hK
    refine⟨_,rfl,_,(KF.blk hK).cell2 rfl,_,(lb_blk hS).cell rfl,⟨(salloc_ok hA e.2.1).mono ?_⟩⟩
    rintro e' w4 ⟨rfl,hT⟩
    exact⟨_,_,rfl,⟨told_a (x:=allocE k.st e.2.1) (kK _ _ (kA _ _ hT)).drop (by unfold plcK;rw[if_neg g,if_neg g1,if_neg g2,if_neg g3,if_pos g4]) (by unfold plcR;rw[if_neg g,if_neg g1,if_neg g2,if_neg g3,if_pos g4])⟩⟩
   have g4:¬e.1=21:=by simpa using g4
   refine⟨fun g5=>?_,fun g5=>?_⟩
   ·have g5:e.1=22:=by simpa using g5
    intro w3 q1 q2 q3 q4
    have hS:=hS.upd (Upd.same no q1 q2 q3 q4)
    obtain⟨q,F1,_,hK,kK⟩:=KS.fix hS
    obtain⟨F2,hA,kA⟩:=KF.st hK
    refine⟨_,rfl,_,(KF.blk hK).cell2 rfl,_,(lb_blk hS).cell rfl,_,(lb_blk hS).cell rfl,⟨(sgive_ok hA e.2.1 e.2.2.1).mono ?_⟩⟩
    rintro e' w4 ⟨rfl,hT⟩
    exact⟨_,rfl,⟨told_p (x:=sgiveE k.st e.2.1 e.2.2.1) (kK _ _ (kA _ _ hT)).drop (by unfold plcK;rw[if_neg g,if_neg g1,if_neg g2,if_neg g3,if_neg g4,if_pos g5]) (by unfold plcR;rw[if_neg g,if_neg g1,if_neg g2,if_neg g3,if_neg g4,if_pos g5])⟩⟩
   have g5:¬e.1=22:=by simpa using g5
   intro w3 q1 q2 q3 q4
   have hS:=hS.upd (Upd.same no q1 q2 q3 q4)
   obtain⟨q,F1,_,hK,kK⟩:=KS.fix hS
   obtain⟨F2,hA,kA⟩:=KF.ga hK
   refine⟨_,rfl,_,(KF.blk hK).cell2 rfl,_,(lb_blk hS).cell rfl,⟨(genter_ok hA e.2.1).mono ?_⟩⟩
   rintro e' w4 ⟨rfl,hT⟩
   exact⟨_,rfl,⟨told_p (x:=entE k.ga e.2.1) (kK _ _ (kA _ _ hT)).drop (by unfold plcK;rw[if_neg g,if_neg g1,if_neg g2,if_neg g3,if_neg g4,if_neg g5]) (by unfold plcR;rw[if_neg g,if_neg g1,if_neg g2,if_neg g3,if_neg g4,if_neg g5])⟩⟩
def thC (x:Th):List Value:=[.int .i64 x.1,.int .u64 (mi x.2.1),.int .i64 x.2.2.1,.bool x.2.2.2.1,.bool x.2.2.2.2.1,.int .i64 x.2.2.2.2.2]
theorem KS2.fix {p p2:Nat} {T T2:TypeId} {l l2:List Value} (h:Turn (Star (Star (KO b) (Lb p T)) (Lb p2 T2)) W w F ((k,l),l2)):∃q F1,KF b q w F1 k/\Turn (KF b q) w w F1 k/\∀w' k',Turn (KF b q) w w' F1 k'->Turn (Star (Star (KO b) (Lb p T)) (Lb p2 T2)) W w' F ((k',l),l2):=by
 obtain⟨F1,⟨q,h1⟩,k1⟩:=h.ll
 exact⟨q,F1,h1,Turn.same h1,fun w' k' hT=>k1 _ _ (KF.loose hT)⟩
theorem lb_blk1 {p p2:Nat} {T T2:TypeId} {l l2:List Value} (h:Turn (Star (Star (KO b) (Lb p T)) (Lb p2 T2)) W w F ((k,l),l2)):Blk w p l T:=lb_blk h.drop
theorem kthreaded_ok (hTab:Tab W) (h0:¬F 0) (h:Turn (KO b) W w F k) (e:Evt):Calls Tryz.prog 66 #[.pointer (some ⟨b,0,none⟩),.agg (evC e).toArray] w (Told_Kdo (KO b) W F (thrK k e) (thrR k e)):=by
 refine u66 ?_
 rw[t66]
 refine⟨fun w1 hN=>?_⟩
 have hS:Turn (Star (KO b) (Lb w.heap.size 33)) W w1 F (k,evC e):=h.add (hN.upd no) (Rw.new hN rfl) (fun i hi=>Nat.le_of_eq hi.symm)
 generalize w.heap.size=p at hS⊢
 intro w2 q1 q2 q3 q4
 replace hS:=hS.upd (Upd.same no q1 q2 q3 q4)
 obtain⟨q,F1,_,hK,kK⟩:=KS.fix hS
 obtain⟨F2,hA,_⟩:=KF.th hK
 have hB:=KF.blk hK
 have hL:=lb_blk hS
 refine⟨_,rfl,_,hB.cell2 rfl,_,hL.cell rfl,?a1,?a2⟩
 case' a1=>
  refine⟨(get_ok hA e.2.2.1).mono ?_⟩
  rintro e' w3 ⟨rfl,hU3⟩
  refine⟨_,_,_,_,_,_,_,rfl,⟨fun w4 hN4=>?_⟩⟩
  replace hS:Turn (Star (Star (KO b) (Lb p 33)) (Lb w3.heap.size 250)) W w4 F ((k,evC e),_):=(hS.upd hU3).add (hN4.upd no) (Rw.new hN4 rfl) (fun i hi=>Nat.le_of_eq hi.symm)
  generalize w3.heap.size=p2 at hS⊢
  refine⟨(hL.upd (hU3.and (hN4.upd no)) (fun h=>h)).cell rfl,(hB.upd (hU3.and (hN4.upd no)) (fun h=>h)).cell2 rfl,?_⟩
  refine lb_wr (vs:=thC (thX k e.2.2.1)) hS (by rfl) fun w5 hS=>?_
 case' a2=>
  refine⟨fun w4 hN4=>?_⟩
  have hA4:=(inferInstance:Frame (ThO q.th)).upd hA (hN4.upd no) (fun _ _ h=>h)
  have hS4:Turn (Star (Star (KO b) (Lb p 33)) (Lb w2.heap.size 250)) W w4 F ((k,evC e),_):=hS.add (hN4.upd no) (Rw.new hN4 rfl) (fun i hi=>Nat.le_of_eq hi.symm)
  clear hS
  generalize w2.heap.size=p2 at hS4⊢
  refine⟨(hL.upd (hN4.upd no) (fun h=>h)).cell rfl,(hB.upd (hN4.upd no) (fun h=>h)).cell2 rfl,⟨(get_ok hA4 e.2.2.1).mono ?_⟩⟩
  rintro e' w3 ⟨rfl,hU3⟩
  refine⟨_,_,_,_,_,_,_,rfl,?_⟩
  refine lb_wr (vs:=thC (thX k e.2.2.1)) (hS4.upd hU3) (by rfl) fun w5 hS=>?_
 all_goals
  have hL1:=lb_blk1 hS
  have hL2:=lb_blk hS
  have hd:Turn (KO b) W w5 F k:=hS.drop.drop
  refine⟨fun g=>⟨told_p hd ?_ ?_⟩,fun g=>?_⟩
  ·have g:(getE k.th e.2.2.1).2≠0:=by simpa using g
   unfold thrK;dsimp only;rw[if_pos g]
  ·have g:(getE k.th e.2.2.1).2≠0:=by simpa using g
   unfold thrR;dsimp only;rw[if_pos g]
  have g:¬(getE k.th e.2.2.1).2≠0:=by simpa using g
  refine⟨_,hL1.cell rfl,fun g1=>⟨_,hL2.cell rfl,⟨told_a (x:=((thX k e.2.2.1).2.2.1,0)) hd ?_ ?_⟩⟩,fun g1=>?_⟩
  ·have g1:e.1=9:=by simpa using g1
   unfold thrK;dsimp only;rw[if_neg g,if_pos g1]
  ·have g1:e.1=9:=by simpa using g1
   unfold thrR;dsimp only;rw[if_neg g,if_pos g1]
  have g1:¬e.1=9:=by simpa using g1
  refine⟨_,hL1.cell rfl,fun g2=>?_,fun g2=>?_⟩
  ·have g2:e.1=4:=by simpa using g2
   refine⟨_,hL1.cell rfl,_,hL2.cell rfl,_,hL2.cell rfl,_,hL2.cell rfl,_,hL2.cell rfl,_,hL2.cell rfl,_,hL2.cell rfl,⟨(kexit_ok hd e.2.2.1 (thX k e.2.2.1)).mono ?_⟩⟩
   rintro e' w6 ⟨rfl,hT⟩
   exact⟨_,rfl,⟨told_p hT (by unfold thrK;dsimp only;rw[if_neg g,if_neg g1,if_pos g2]) (by unfold thrR;dsimp only;rw[if_neg g,if_neg g1,if_pos g2])⟩⟩
  have g2:¬e.1=4:=by simpa using g2
  refine⟨_,hL1.cell rfl,fun g3=>?_,fun g3=>?_⟩
  ·have g3:e.1=8:=by simpa using g3
   intro w6 r1 r2 r3 r4
   replace hS:=hS.upd (Upd.same no r1 r2 r3 r4)
   obtain⟨q6,F6,_,hK6,kK6⟩:=KS2.fix hS
   obtain⟨F7,hA7,kA7⟩:=KF.th hK6
   have hL6:=lb_blk1 hS
   refine⟨_,rfl,_,(KF.blk hK6).cell2 rfl,_,hL6.cell rfl,_,hL6.cell rfl,⟨(aim_ok_Thr hA7 e.2.2.1 e.2.2.2.1).mono ?_⟩⟩
   rintro e' w7 ⟨rfl,hT7⟩
   replace hS:=kK6 _ _ (kA7 _ _ hT7)
   have last:∀(k2:K) (w8:World),Turn (KO b) W w8 F k2->k2=thrK k e->CutD Tryz.prog M66 c66_1 (e66_1 (aiE k.th e.2.2.1 e.2.2.2.1)) w8 (k66_1 (Told_Kdo (KO b) W F (thrK k e) (thrR k e))):=by
    intro k2 w8 h8 hk2
    refine CutD.mk ?_
    rw[t66_1]
    exact⟨told_p h8 hk2 (by unfold thrR;dsimp only;rw[if_neg g,if_neg g1,if_neg g2,if_pos g3])⟩
   refine⟨_,rfl,fun g4=>⟨_,(lb_blk1 hS).cell rfl,⟨(kmend_ok hTab h0 hS.drop.drop e.2.2.1).mono ?_⟩⟩,fun g4=>last _ _ hS.drop.drop ?_⟩
   ·have g4:aiE k.th e.2.2.1 e.2.2.2.1=0:=by simpa using g4
    rintro e' w8 ⟨rfl,hT8⟩
    exact⟨rfl,last _ _ hT8 (by unfold thrK;dsimp only;rw[if_neg g,if_neg g1,if_neg g2,if_pos g3,if_pos g4])⟩
   ·have g4:¬aiE k.th e.2.2.1 e.2.2.2.1=0:=by simpa using g4
    unfold thrK;dsimp only;rw[if_neg g,if_neg g1,if_neg g2,if_pos g3,if_neg g4]
  have g3:¬e.1=8:=by simpa using g3
  refine⟨_,hL2.cell rfl,_,hL1.cell rfl,fun g4=>⟨told_p hd ?_ ?_⟩,fun g4=>?_⟩
  ·have g4:(thX k e.2.2.1).2.2.2.2.1≠decide (e.1=7):=by
    intro hh;rw[hh]at g4;by_cases h7:e.1=7<;>simp[h7]at g4
   unfold thrK;dsimp only;rw[if_neg g,if_neg g1,if_neg g2,if_neg g3,if_pos g4]
  ·have g4:(thX k e.2.2.1).2.2.2.2.1≠decide (e.1=7):=by
    intro hh;rw[hh]at g4;by_cases h7:e.1=7<;>simp[h7]at g4
   unfold thrR;dsimp only;rw[if_neg g,if_neg g1,if_neg g2,if_neg g3,if_pos g4]
  have g4:¬(thX k e.2.2.1).2.2.2.2.1≠decide (e.1=7):=by
   intro hh;apply hh;cases h5:(thX k e.2.2.1).2.2.2.2.1<;>rw[h5]at g4<;>by_cases h7:e.1=7<;>simp[h7]at g4⊢
  refine⟨_,hL1.cell rfl,fun g5=>?_,fun g5=>?_⟩
  ·have g5:e.1=6:=by simpa using g5
   refine⟨_,hL1.cell rfl,_,hL2.cell rfl,_,hL2.cell rfl,_,hL2.cell rfl,_,hL2.cell rfl,_,hL2.cell rfl,_,hL2.cell rfl,_,hL1.cell rfl,⟨(ksleep_ok hTab h0 hd e.2.2.1 (thX k e.2.2.1) e.2.2.2.2).mono ?_⟩⟩
   rintro e' w6 ⟨rfl,hT⟩
   exact⟨_,_,rfl,⟨told_a (x:=sleepE k e.2.2.1 (thX k e.2.2.1) e.2.2.2.2) hT (by unfold thrK;dsimp only;rw[if_neg g,if_neg g1,if_neg g2,if_neg g3,if_neg g4,if_pos g5]) (by unfold thrR;dsimp only;rw[if_neg g,if_neg g1,if_neg g2,if_neg g3,if_neg g4,if_pos g5])⟩⟩
  have g5:¬e.1=6:=by simpa using g5
  refine⟨_,hL1.cell rfl,fun g6=>?_,fun g6=>?_⟩
  ·have g6:e.1=5:=by simpa using g6
   intro w6 r1 r2 r3 r4
   replace hS:=hS.upd (Upd.same no r1 r2 r3 r4)
   obtain⟨q6,F6,_,hK6,kK6⟩:=KS2.fix hS
   obtain⟨F7,hA7,kA7⟩:=KF.rq hK6
   refine⟨_,rfl,_,(KF.blk hK6).cell2 rfl,_,(lb_blk1 hS).cell rfl,⟨(rqback_ok hA7 e.2.2.1).mono ?_⟩⟩
   rintro e' w7 ⟨rfl,hT7⟩
   exact⟨_,rfl,⟨told_p (kK6 _ _ (kA7 _ _ hT7)).drop.drop (by unfold thrK;dsimp only;rw[if_neg g,if_neg g1,if_neg g2,if_neg g3,if_neg g4,if_neg g5,if_pos g6]) (by unfold thrR;dsimp only;rw[if_neg g,if_neg g1,if_neg g2,if_neg g3,if_neg g4,if_neg g5,if_pos g6])⟩⟩
  have g6:¬e.1=5:=by simpa using g6
  refine⟨_,hL2.cell rfl,?_⟩
  obtain⟨F8,hK8,kK8⟩:=hS.ll
  have h0':Turn (KO b) w5 w5 F8 k:=Turn.same hK8
  refine⟨(kquiet_ok h0' (thX k e.2.2.1).2.2.2.2.2).mono ?_⟩
  rintro e' w6 ⟨rfl,hT6⟩
  replace hS:=kK8 _ _ hT6
  refine⟨rfl,_,(lb_blk1 hS).cell rfl,⟨(kwake_ok hTab h0 hS.drop.drop e.2.2.1).mono ?_⟩⟩
  rintro e' w7 ⟨rfl,hT7⟩
  exact⟨rfl,⟨told_p hT7 (by unfold thrK;dsimp only;rw[if_neg g,if_neg g1,if_neg g2,if_neg g3,if_neg g4,if_neg g5,if_neg g6]) (by unfold thrR;dsimp only;rw[if_neg g,if_neg g1,if_neg g2,if_neg g3,if_neg g4,if_neg g5,if_neg g6])⟩⟩
theorem krequest_ok (hTab:Tab W) (h0:¬F 0) (h:Turn (KO b) W w F k) (up:Bool) (c:Int):Calls Tryz.prog 70 #[.pointer (some ⟨b,0,none⟩),.bool up,.int .i64 c] w fun e w'=>e=.returned (.int .i64 (reqKE k up c))/\Turn (KO b) W w' F (reqKS k up c):=by
 obtain⟨q,hq⟩:=KO.fix h
 have hB:=KF.blk hq
 obtain⟨F1,hA,kA⟩:=KF.dk hq
 refine u70 ?_
 rw[t70]
 refine⟨_,rfl,_,hB.cell rfl,⟨(mHas_ok k.on c w).mono ?_⟩⟩
 rintro e w1 ⟨rfl,rfl⟩
 refine⟨_,rfl,fun g1=>⟨_,rfl,_,hB.cell rfl,fun g2=>?_,fun g2=>⟨_,rfl,_,hB.cell2 rfl,⟨(hbusy_ok hA).mono ?_⟩⟩⟩,fun g1=>?_⟩
 ·have g2:=of_decide_eq_true g2
  have hn:¬(0<=c/\c<(k.n:Int)):=by simp only at g2;omega
  unfold reqKE reqKS
  rw[if_pos hn,if_pos hn]
  exact⟨rfl,h⟩
 ·have g1:=of_decide_eq_false g1
  have g2:=of_decide_eq_false g2
  have hn:¬¬(0<=c/\c<(k.n:Int)):=by simp only at g2;omega
  rintro e w2 ⟨rfl,rfl⟩
  refine⟨_,rfl,fun g3=>?_,fun g3=>?_⟩
  ·unfold reqKE reqKS
   rw[if_neg hn,if_pos g3,if_neg hn,if_pos g3]
   exact⟨rfl,h⟩
  ·have g3':¬dkBusy k.dk=true:=by rw[g3];decide
   have last:reqKE k up c=beginE k.dk c (firstE (ls k.ac c)).1->reqKS k up c={k with ga:=wanS k.ga,dk:=beginS k.dk up c (firstE (ls k.ac c)).1}->CutD Tryz.prog M70 c70_0 (e70_0 (some ⟨b,0,none⟩) up c) w2 (k70_0 fun e w'=>e=.returned (.int .i64 (reqKE k up c))/\Turn (KO b) W w' F (reqKS k up c)):=by
    intro e1 e2
    refine CutD.mk ?_
    rw[t70_0,e1,e2]
    refine⟨_,rfl,_,hB.cell rfl,⟨(mLess_ok k.ac c w2).mono ?_⟩⟩
    rintro e w3 ⟨rfl,rfl⟩
    refine⟨_,rfl,⟨(mFirst_ok (ls k.ac c) (h.tab hTab h0)).mono ?_⟩⟩
    rintro e w4 ⟨rfl,rfl⟩
    obtain⟨F2,hG,kG⟩:=KF.ga hq
    refine⟨_,_,rfl,_,rfl,_,hB.cell2 rfl,⟨(gwant_ok hG).mono ?_⟩⟩
    rintro e w5 ⟨rfl,hT5⟩
    have h5:=kG _ _ hT5
    obtain⟨F3,hD,kD⟩:=KF.dk h5
    refine⟨_,rfl,_,rfl,_,(KF.blk h5).cell2 rfl,⟨(hbegin_ok hD up c _).mono ?_⟩⟩
    rintro e w6 ⟨rfl,hT6⟩
    exact⟨_,rfl,rfl,KF.loose (kD _ _ hT6)⟩
   cases up
   ·refine⟨fun g=>(by cases g),fun _=>⟨fun _=>⟨fun g5=>?_,fun g5=>⟨fun _=>⟨_,rfl,_,hB.cell rfl,⟨(mMany_ok k.on w2).mono ?_⟩⟩,fun g=>(by cases g)⟩⟩,fun g=>(by cases g)⟩⟩
    ·unfold reqKE reqKS
     rw[if_neg hn,if_neg g3',if_neg (by simp),if_pos (by simpa using g5),if_neg hn,if_neg g3',if_neg (by simp),if_pos (by simpa using g5)]
     exact⟨rfl,h⟩
    ·rintro e w3 ⟨rfl,rfl⟩
     have g5:¬(!false&&!hs k.on c)=true:=by simpa using g5
     refine⟨_,rfl,fun g6=>?_,fun g6=>last ?_ ?_⟩
     ·have g6:(cs k.on).length=1:=by
       have:((cs k.on).length:Int)=1:=by simpa using g6
       omega
      unfold reqKE reqKS
      rw[if_neg hn,if_neg g3',if_neg (by simp),if_neg g5,if_pos (by simp[g6]),if_neg hn,if_neg g3',if_neg (by simp),if_neg g5,if_pos (by simp[g6])]
      exact⟨rfl,h⟩
     ·have g6:¬(cs k.on).length=1:=fun hh=>by rw[hh]at g6;simp at g6
      unfold reqKE
      rw[if_neg hn,if_neg g3',if_neg (by simp),if_neg g5,if_neg (by simp[g6])]
     ·have g6:¬(cs k.on).length=1:=fun hh=>by rw[hh]at g6;simp at g6
      unfold reqKS
      rw[if_neg hn,if_neg g3',if_neg (by simp),if_neg g5,if_neg (by simp[g6])]
   ·refine⟨fun _=>⟨fun g5=>?_,fun g5=>⟨fun g=>(by cases g),fun _=>⟨fun g=>(by cases g),fun _=>last ?_ ?_⟩⟩⟩,fun g=>(by cases g)⟩
    ·unfold reqKE reqKS
     rw[if_neg hn,if_neg g3',if_pos (by simpa using g5),if_neg hn,if_neg g3',if_pos (by simpa using g5)]
     exact⟨rfl,h⟩
    ·unfold reqKE
     rw[if_neg hn,if_neg g3',if_neg (by rw[g5];decide),if_neg (by simp),if_neg (by simp)]
    ·unfold reqKS
     rw[if_neg hn,if_neg g3',if_neg (by rw[g5];decide),if_neg (by simp),if_neg (by simp)]
 ·have g1:=of_decide_eq_true g1
  have hn:¬(0<=c/\c<(k.n:Int)):=by omega
  unfold reqKE reqKS
  rw[if_pos hn,if_pos hn]
  exact⟨rfl,h⟩
end
end Go.Dav
namespace Go.Dav
open Go.Proofs
theorem idxR_ok {b:Nat} {w:World} {F:Fp} {s:IrS} (h:IrO b w F s) {p:Option Addr} {l:List Int} {c:Nat} (hC:Cells w p (l.map (Value.int .i64))) (hl:l.length<=1000) :
  Calls Tryz.prog 270 #[.slice p l.length c,.func (.func 175) #[.pointer (some ⟨b,0,none⟩)] #[]] w fun e w'=>((∃i:Nat,∃hi:i<l.length,l.find? (readyE s)=some l[i]/\e=.returned (.int .i64 (i:Int)))∨(l.find? (readyE s)=none/\e=.returned (.int .i64 (-1))))/\w'=w:=by
 refine u270 ?_
 rw[t270]
 refine⟨WP_loop okProg (M:=M270) (σ:=Nat) (fun i=>e270_1 p l.length c (some ⟨b,0,none⟩) (l.length:Int) (i:Int)) (fun i w'=>i<=l.length/\(∀j (hj:j<l.length),j<i->readyE s l[j]=false)/\w'=w) (fun i _=>l.length-i) 0 ⟨rfl,rfl,rfl,rfl,trivial⟩ ⟨Nat.zero_le _,fun j _ hj=>by omega,rfl⟩ ?_⟩
 rintro i w1 ⟨hi,hn,rfl⟩
 rw[t270_1]
 refine⟨fun g=>?_,fun g=>?_⟩
 ·have g:=of_decide_eq_true g
  have hlt:i<l.length:=by omega
  obtain⟨a,ha,hc⟩:=hC.at1 hlt
  refine⟨⟨by omega,by omega⟩,a,ha,_,hc,⟨(ready_ok_Irq h l[i]).mono ?_⟩⟩
  rintro e w2 ⟨rfl,rfl⟩
  refine⟨_,rfl,fun g2=>⟨.inl ⟨i,hlt,?_,rfl⟩,rfl⟩,fun g2=>⟨i+1,⟨rfl,rfl,rfl,by rw[w64 (by omega)];rfl,trivial⟩,⟨by omega,fun j hj hji=>?_,rfl⟩,by omega⟩⟩
  ·refine List.find?_eq_some_iff_getElem.2 ⟨g2,i,hlt,rfl,fun j hj=>?_⟩
   rw[hn j (by omega) hj];rfl
  ·by_cases e:j=i
   ·subst e;exact g2
   ·exact hn j hj (by omega)
 ·have g:=of_decide_eq_false g
  refine⟨.inr ⟨List.find?_eq_none.2 fun x hx=>?_,rfl⟩,rfl⟩
  obtain⟨j,hj,rfl⟩:=List.getElem_of_mem hx
  rw[hn j hj (by omega)]
  decide
theorem Tab.pos {W:World} (hT:Tab W):0<W.heap.size:=by
 obtain⟨a',ha',hc⟩:=hT 0 _ (by rfl)
 cases ha'
 have:=cell_lt hc
 rw[add_block]at this
 exact this
theorem Told_Kdo.nil {σ:Type} {A:Ob σ} [Frame A] {W w:World} {F:Fp} {s:σ} (h:Turn A W w F s):Told_Kdo A W F s [] (.returned (.slice none 0 0)) w:=
 ⟨none,0,rfl,h.add (Upd.refl _ _) (G:=fun _=>False) ⟨fun i=>⟨fun h=>h.elim,fun⟨a,ha,_⟩=>by cases ha⟩,Sl.nil _ _ _⟩ (fun i hi=>hi.elim)⟩
theorem Told_Kdo.one {σ:Type} {A:Ob σ} [Frame A] {W w w':World} {F:Fp} {s:σ} (h:Turn A W w F s) {r:Rc} (hN:Newed w w' (.cells (List.toArray (rcE_Kdo r)) 43 (0,0))):Told_Kdo A W F s [r] (.returned (.slice (some ⟨w.heap.size,0,none⟩) 1 1)) w':=by
 refine⟨some ⟨w.heap.size,0,none⟩,1,rfl,h.add (hN.upd no) (G:=fpS (some ⟨w.heap.size,0,none⟩)) ⟨fun _=>Iff.rfl,?_⟩ (fun i ⟨a,ha,hi⟩=>?_)⟩
 ·have:=Sl.new hN (sz:=5) (n:=1) rfl (show(1:Nat)<=maxLen by unfold maxLen;omega)
  exact this
 ·cases ha;rw[hi];exact Nat.le_refl _
theorem Turn.leftT {σ τ:Type} {A:Ob σ} {B:Ob τ} [Frame B] {W w:World} {F:Fp} {x:σ×τ} (hTab:Tab W) (h0:¬F 0) (h:Turn (Star A B) W w F x) :
  ∃F1,A w F1 x.1/\Tab w/\¬F1 0/\∀w' s',Turn A w w' F1 s'->Turn (Star A B) W w' F (s',x.2):=by
 have hp:=hTab.pos
 have ht:=h.tab hTab h0
 obtain⟨F',h1,h2,h3⟩:=h
 obtain⟨F1,F2,a1,a2,a3,a4⟩:=h1
 have h':Star A B w F' x:=⟨F1,F2,a1,a2,a3,a4⟩
 refine⟨F1,a1,ht,fun hh=>?_,?_⟩
 ·rcases h3 0 ((a3 0).2 (.inl hh))with k|k
  ·exact h0 k
  ·omega
 ·rintro w' s' ⟨G1,k1,k2,k3⟩
  have fb:Frame B:=inferInstance
  refine⟨fun i=>G1 i∨F2 i,⟨G1,F2,k1,fb.upd a2 k2 (fun i hi hf=>a4 i hf hi),fun _=>Iff.rfl,fun i hi hf=>?_⟩,h2.trans k2 (fun i hi hf=>(h3 i ((a3 i).2 (.inl hf))).elim id (fun h=>absurd h (by omega))),fun i hi=>?_⟩
  ·rcases k3 i hi with h|h
   ·exact a4 i h hf
   ·have:=fb.lt a2 i hf;omega
  ·rcases hi with hi|hi
   ·rcases k3 i hi with h|h
    ·exact h3 i ((a3 i).2 (.inl h))
    ·exact .inr (Nat.le_trans h2.size h)
   ·exact h3 i ((a3 i).2 (.inr hi))
theorem WkI.short {b:Nat} {w:World} {F:Fp} {Q:QL} (h:WkI b w F Q) (c:Int):(lsE_Work Q c).length<=32:=by
 obtain⟨o,g,_,hI⟩:=h
 unfold lsE_Work
 split
 ·rename_i hc
  obtain⟨i,hi,rfl,_⟩:=inW_at hc (by omega)
  rw[rowW_at hi]
  exact(hI.row hi).2
 ·simp
section
variable {b:Nat} {W w:World} {F:Fp} {k:K}
theorem kwaits_ok (h:Turn (KO b) W w F k) (c:Int):Calls Tryz.prog 201 #[.pointer (some ⟨b,0,none⟩),.int .i64 c] w fun e w'=>e=.returned (.tuple #[.int .i64 (waitsK k c).1,.bool (waitsK k c).2])/\Turn (KO b) W w' F k:=by
 obtain⟨q,hq⟩:=KO.fix h
 have hB:=KF.blk hq
 obtain⟨F1,hA,_⟩:=KF.rt hq
 refine u201 ?_
 rw[t201]
 refine⟨_,rfl,_,hB.cell2 rfl,⟨(on_ok_Route hA c).mono ?_⟩⟩
 rintro e w1 ⟨p,d,rfl,hL⟩
 replace hq:=hq.upd hL.U
 obtain⟨F2,hI,_⟩:=KF.ir hq
 have hlen:(onL k.rt c).length<=1000:=Nat.le_trans (upto_length ..) (by omega)
 refine⟨_,_,_,rfl,_,rfl,_,(KF.blk hq).cell2 rfl,⟨(idxR_ok hI hL.S.cells hlen).mono ?_⟩⟩
 unfold waitsK
 rintro e w2 ⟨⟨i,hi,hf,rfl⟩|⟨hf,rfl⟩,rfl⟩
 ·rw[hf]
  obtain⟨a,ha,hc⟩:=hL.S.cells.at1 hi
  exact⟨_,rfl,fun g=>by have:=of_decide_eq_true g;omega,fun g=>⟨⟨by omega,by omega⟩,a,ha,_,hc,rfl,KF.loose hq⟩⟩
 ·rw[hf]
  exact⟨_,rfl,fun g=>⟨rfl,KF.loose hq⟩,fun g=>by simp at g⟩
theorem kflags_ok (h:Turn (KO b) W w F k) (c:Int):Calls Tryz.prog 115 #[.pointer (some ⟨b,0,none⟩),.int .i64 c] w fun e w'=>e=.returned (.agg #[.bool (flagsK k c).1,.bool (flagsK k c).2.1,.bool (flagsK k c).2.2.1,.bool (flagsK k c).2.2.2.1,.bool (flagsK k c).2.2.2.2.1,.bool (flagsK k c).2.2.2.2.2.1,.bool (flagsK k c).2.2.2.2.2.2.1,.bool (flagsK k c).2.2.2.2.2.2.2.1,.bool (flagsK k c).2.2.2.2.2.2.2.2])/\Turn (KO b) W w' F k:=by
 refine u115 ?_
 rw[t115]
 refine⟨fun w1 hN=>?_⟩
 have hS:Turn (Star (KO b) (Lb w.heap.size 240)) W w1 F (k,[.bool false,.bool false,.bool false,.bool false,.bool false,.bool false,.bool false,.bool false,.bool false]):=h.add (hN.upd no) (Rw.new hN rfl) (fun i hi=>Nat.le_of_eq hi.symm)
 generalize w.heap.size=p at hS⊢
 obtain⟨F0,hK0,kK0⟩:=hS.left
 refine⟨(kwaits_ok (Turn.same hK0) c).mono ?_⟩
 rintro e w2 ⟨rfl,hT2⟩
 replace hS:=kK0 _ _ hT2
 refine⟨_,_,rfl,?_⟩
 intro w3 q1 q2 q3 q4
 replace hS:=hS.upd (Upd.same no q1 q2 q3 q4)
 obtain⟨q,F1,_,hK,kK⟩:=KS.fix hS
 have hB:=KF.blk hK
 obtain⟨F2,hA2,_⟩:=KF.so hK
 refine⟨_,rfl,_,hB.cell2 rfl,_,rfl,_,hB.cell2 rfl,_,rfl,_,hB.cell2 rfl,_,rfl,_,hB.cell rfl,_,rfl,_,hB.cell2 rfl,_,rfl,_,hB.cell2 rfl,_,rfl,_,hB.cell2 rfl,_,rfl,_,hB.cell2 rfl,_,rfl,_,hB.cell2 rfl,⟨(must_ok hA2 c).mono ?_⟩⟩
 rintro e w4 ⟨rfl,hU4⟩
 replace hK:=hK.upd hU4
 replace hB:=KF.blk hK
 obtain⟨F3,hA3,_⟩:=KF.so hK
 refine⟨_,rfl,hB.cell2 rfl,hB.cell2 rfl,hB.cell2 rfl,hB.cell2 rfl,hB.cell2 rfl,hB.cell rfl,hB.cell2 rfl,hB.cell2 rfl,⟨(held_ok hA3 c).mono ?_⟩⟩
 rintro e w5 ⟨rfl,rfl⟩
 obtain⟨F4,hA4,_⟩:=KF.dk hK
 refine⟨_,rfl,hB.cell2 rfl,hB.cell2 rfl,hB.cell2 rfl,hB.cell2 rfl,hB.cell2 rfl,hB.cell rfl,hB.cell2 rfl,⟨(hbusy_ok hA4).mono ?_⟩⟩
 rintro e w6 ⟨rfl,rfl⟩
 refine⟨_,rfl,hB.cell2 rfl,hB.cell2 rfl,hB.cell2 rfl,hB.cell2 rfl,hB.cell2 rfl,hB.cell rfl,fun g=>?a1,fun g=>?a2⟩
 case' a1=>
  refine⟨_,rfl,_,hB.cell2 rfl,⟨(hby_ok hA4).mono ?_⟩⟩
  rintro e w7 ⟨rfl,rfl⟩
  have hot:(dkBy k.dk==c)=(dkBusy k.dk&&decide (dkBy k.dk=c)):=by rw[show dkBusy k.dk=true from g,Bool.true_and];rfl
  refine⟨_,rfl,hB.cell2 rfl,hB.cell2 rfl,hB.cell2 rfl,hB.cell2 rfl,hB.cell2 rfl,hB.cell rfl,⟨(mHas_ok k.ac c _).mono ?_⟩⟩
 case' a2=>
  have hot:false=(dkBusy k.dk&&decide (dkBy k.dk=c)):=by rw[show dkBusy k.dk=false from g,Bool.false_and]
  refine⟨(mHas_ok k.ac c _).mono ?_⟩
 all_goals
  rintro e w8 ⟨rfl,rfl⟩
  obtain⟨F5,hA5,_⟩:=KF.ca hK
  refine⟨_,rfl,hB.cell2 rfl,hB.cell2 rfl,hB.cell2 rfl,hB.cell2 rfl,hB.cell2 rfl,⟨(cload_ok hA5 c).mono ?_⟩⟩
  rintro e w9 ⟨rfl,hU9⟩
  replace hK:=hK.upd hU9
  replace hB:=KF.blk hK
  obtain⟨F6,hA6,_⟩:=KF.tm hK
  refine⟨_,rfl,hB.cell2 rfl,hB.cell2 rfl,hB.cell2 rfl,hB.cell2 rfl,⟨(tready_ok hA6 c).mono ?_⟩⟩
  rintro e w10 ⟨rfl,hU10⟩
  replace hK:=hK.upd hU10
  replace hB:=KF.blk hK
  obtain⟨F7,hA7,_⟩:=KF.wk hK
  refine⟨_,rfl,hB.cell2 rfl,hB.cell2 rfl,hB.cell2 rfl,⟨(wload_ok hA7 c).mono ?_⟩⟩
  rintro e w11 ⟨rfl,hU11⟩
  replace hK:=hK.upd hU11
  replace hB:=KF.blk hK
  obtain⟨F8,hA8,_⟩:=KF.wk hK
  have hr1:=WkI.short hA8 c
  have hr2:=WkI.short hA8 (-1)
  refine⟨_,rfl,hB.cell2 rfl,hB.cell2 rfl,⟨(wload_ok hA8 (-1)).mono ?_⟩⟩
  rintro e w12 ⟨rfl,hU12⟩
  replace hK:=hK.upd hU12
  replace hB:=KF.blk hK
  obtain⟨F9,hA9,_⟩:=KF.rq hK
  refine⟨_,rfl,hB.cell2 rfl,⟨(rqload_ok hA9 c).mono ?_⟩⟩
  rintro e w13 ⟨rfl,rfl⟩
  replace hS:=kK _ _ hK
  refine⟨_,rfl,lb_wr hS (by rfl) fun w14 hS=>?_⟩
  have hL:=lb_blk hS
  refine⟨_,hL.cell rfl,_,hL.cell rfl,_,hL.cell rfl,_,hL.cell rfl,_,hL.cell rfl,_,hL.cell rfl,_,hL.cell rfl,_,hL.cell rfl,_,hL.cell rfl,?_,hS.drop⟩
  unfold flagsK
  rw[<-hot]
  dsimp only at hr1 hr2⊢
  rw[w64 (by omega)]
  have e1:decide (((lsE_Call k.ca c).length:Int)>0)=decide (0<(lsE_Call k.ca c).length):=decide_eq_decide.2 (by omega)
  have e2:decide (((lsE_Work k.wk c).length:Int)+((lsE_Work k.wk (-1)).length:Int)>0)=decide (0<(lsE_Work k.wk c).length+(lsE_Work k.wk (-1)).length):=decide_eq_decide.2 (by omega)
  rw[e1,e2]
theorem kdone_ok (h:Turn (KO b) W w F k) (c kind id n:Int):Calls Tryz.prog 220 #[.pointer (some ⟨b,0,none⟩),.int .i64 c,.int .i64 kind,.int .i64 id,.int .i64 n] w (Told_Kdo (KO b) W F k [(kind,c,id,n,0)]):=by
 obtain⟨q,hq⟩:=KO.fix h
 have hB:=KF.blk hq
 obtain⟨F1,cnt,hA,kA⟩:=KF.sc hq
 refine u220 ?_
 rw[t220]
 refine⟨_,rfl,_,hB.cell2 rfl,⟨(sadd_ok hA c (n:=1) (by decide)).mono ?_⟩⟩
 rintro e w1 ⟨rfl,hT⟩
 have h1:=KF.loose (kA _ _ hT)
 refine⟨_,rfl,⟨fun w2 hN=>⟨some ⟨w1.heap.size,0,none⟩,1,rfl,h1.add (hN.upd no) (G:=fpS (some ⟨w1.heap.size,0,none⟩)) ⟨fun _=>Iff.rfl,Sl.new hN rfl (show(1:Nat)<=maxLen by unfold maxLen;omega)⟩ (fun i ⟨a,ha,hi⟩=>?_)⟩⟩⟩
 cases ha;rw[hi];exact Nat.le_refl _
theorem kfire_ok (hTab:Tab W) (h0:¬F 0) (h:Turn (KO b) W w F k) (c:Int):Calls Tryz.prog 222 #[.pointer (some ⟨b,0,none⟩),.int .i64 c] w (Told_Kdo (KO b) W F (fireK k c) [(3,c,(fireE k.tm c).1,(k.own (fireE k.tm c).1).getD 0,0)]):=by
 obtain⟨q,hq⟩:=KO.fix h
 have hB:=KF.blk hq
 obtain⟨F1,hA,kA⟩:=KF.tm hq
 refine u222 ?_
 rw[t222]
 refine⟨_,rfl,_,hB.cell2 rfl,⟨(tfire_ok hA c).mono ?_⟩⟩
 rintro e w1 ⟨rfl,hT⟩
 have h1:=kA _ _ hT
 obtain⟨F2,n,hM,kM⟩:=KF.own h1
 have hlk:=run_lookup tmM hM (fireE k.tm c).1 false
 have e1:((k.own (fireE k.tm c).1).map (Value.int .i64)).getD (.int .i64 0)=.int .i64 ((k.own (fireE k.tm c).1).getD 0):=by cases k.own (fireE k.tm c).1<;>rfl
 simp only[e1]at hlk
 obtain⟨w2,hrun,hT2⟩:=run_del tmM hM (fireE k.tm c).1 3 (0:TypeId)
 have h2:=kM _ _ hT2
 have last:∀(k2:K) (w3:World),Turn (KO b) W w3 F k2->k2=fireK k c->CutD Tryz.prog M222 c222_0 (e222_0 (some ⟨b,0,none⟩) c (fireE k.tm c).1 ((k.own (fireE k.tm c).1).getD 0)) w3 (k222_0 (Told_Kdo (KO b) W F (fireK k c) [(3,c,(fireE k.tm c).1,(k.own (fireE k.tm c).1).getD 0,0)])):=by
  rintro k2 w3 h3 rfl
  refine CutD.mk ?_
  rw[t222_0]
  refine⟨(kdone_ok h3 c 3 _ _).mono ?_⟩
  rintro e w4 ⟨p,d,rfl,hT4⟩
  exact⟨_,_,_,rfl,p,d,rfl,hT4⟩
 refine⟨_,_,rfl,_,rfl,_,(KF.blk h1).cell rfl,_,hlk,_,rfl,_,(KF.blk h1).cell rfl,w2,hrun,fun g=>?_,fun g=>?_⟩
 ·have g:0<(k.own (fireE k.tm c).1).getD 0:=of_decide_eq_true g
  refine⟨(kwake_ok hTab h0 (KF.loose h2) _).mono ?_⟩
  rintro e w3 ⟨rfl,hT3⟩
  exact⟨rfl,last _ _ hT3 (by unfold fireK;dsimp only;rw[if_pos g];rfl)⟩
 ·have g:¬0<(k.own (fireE k.tm c).1).getD 0:=of_decide_eq_false g
  exact last _ _ (KF.loose h2) (by unfold fireK;dsimp only;rw[if_neg g];rfl)
theorem next_le {x:TmS} (h:TmV x) (c:Int):(nextE' x c).1<=1152921504606846976:=by
 unfold nextE'
 split
 ·split
  ·unfold dueK
   split
   ·rename_i p hp
    exact(h.at_ _ _ hp).2.2
   ·omega
  ·simp only;omega
 ·simp only;omega
theorem klie_ok (h:Turn (KO b) W w F k) (hnow:k.tm.now=k.now) (c:Int):Calls Tryz.prog 120 #[.pointer (some ⟨b,0,none⟩),.int .i64 c] w fun e w'=>e=.returned (.tuple #[])/\Turn (KO b) W w' F (lieK k c):=by
 obtain⟨q,hq⟩:=KO.fix h
 have hB:=KF.blk hq
 obtain⟨F1,hA,_⟩:=KF.tm hq
 have hV:TmV k.tm:=by obtain⟨_,_,_,_,_,_,r⟩:=hA;exact r.v
 have hn1:=hV.now
 rw[hnow]at hn1
 refine u120 ?_
 rw[t120]
 refine⟨_,rfl,_,hB.cell2 rfl,⟨(tnext_ok hA c).mono ?_⟩⟩
 rintro e w1 ⟨rfl,hU1⟩
 replace hq:=hq.upd hU1
 replace hB:=KF.blk hq
 refine⟨_,_,rfl,_,rfl,_,hB.cell rfl,⟨(ipredict_ok hn1.2 (next_le hV c) _ w1).mono ?_⟩⟩
 rintro e w2 ⟨rfl,rfl⟩
 refine⟨_,rfl,?_⟩
 intro w3 q1 q2 q3 q4
 replace hq:=hq.upd (Upd.same no q1 q2 q3 q4)
 replace hB:=KF.blk hq
 refine⟨_,rfl,_,hB.cell2 rfl,_,rfl,_,hB.cell rfl,_,rfl,_,hB.cell rfl,⟨(itab_ok w3).mono ?_⟩⟩
 rintro e w4 ⟨⟨pt,rfl,hW⟩,hU4⟩
 replace hq:=hq.upd hU4
 replace hB:=KF.blk hq
 refine⟨_,_,_,rfl,hB.cell rfl,hB.cell rfl,hB.cell2 rfl,⟨(ichoose_ok hW _ _).mono ?_⟩⟩
 rintro e w5 ⟨rfl,rfl⟩
 obtain⟨F2,hC,kC⟩:=KF.co hq
 refine⟨_,rfl,hB.cell rfl,hB.cell2 rfl,⟨(crest_ok hC c _ _ ?_).mono ?_⟩⟩
 ·unfold chooseI
  repeat' split
  all_goals omega
 rintro e w6 ⟨⟨n,rfl⟩,hT⟩
 exact⟨_,rfl,rfl,KF.loose (kC _ _ hT)⟩
theorem kthing_ok (hTab:Tab W) (h0:¬F 0) (h:Turn (KO b) W w F k) (c what:Int):Calls Tryz.prog 121 #[.pointer (some ⟨b,0,none⟩),.int .i64 c,.int .i64 what] w (Told_Kdo (KO b) W F (thingK k c what) (thingR k c what)):=by
 obtain⟨q,hq⟩:=KO.fix h
 have hB:=KF.blk hq
 refine u121 ?_
 rw[t121]
 unfold thingK thingR
 have last:∀{k2:K} {w2:World} (h2:Turn (KO b) W w2 F k2) (kind id:Int),Calls Tryz.prog 220 #[.pointer (some ⟨b,0,none⟩),.int .i64 c,.int .i64 kind,.int .i64 id,.int .i64 0] w2 fun e w'=>∃p n d,e=.returned (.slice p n d)/\Told_Kdo (KO b) W F k2 [(kind,c,id,0,0)] (.returned (.slice p n d)) w':=fun h2 kind id=>(kdone_ok h2 c kind id 0).mono (by
  rintro e w4 ⟨p,d,rfl,hT4⟩
  exact⟨_,_,_,rfl,p,d,rfl,hT4⟩)
 refine⟨fun g=>?_,fun g=>⟨fun g1=>?_,fun g1=>⟨fun g2=>?_,fun g2=>⟨fun g3=>?_,fun g3=>?_⟩⟩⟩⟩
 ·have g:what=4:=by simpa using g
  rw[if_pos g,if_pos g]
  obtain⟨F1,hA,kA⟩:=KF.ca hq
  refine⟨_,rfl,_,hB.cell2 rfl,⟨(ctake_ok_Call hA c).mono ?_⟩⟩
  rintro e w1 ⟨rfl,hT⟩
  exact⟨_,_,rfl,⟨last (KF.loose (kA _ _ hT)) 6 _⟩⟩
 ·have g:¬what=4:=by simpa using g
  have g1:what=5:=by simpa using g1
  rw[if_neg g,if_pos g1,if_neg g,if_pos g1]
  refine⟨(kwaits_ok h c).mono ?_⟩
  rintro e w1 ⟨rfl,h1⟩
  obtain⟨q1,hq1⟩:=KO.fix h1
  obtain⟨F1,hA,kA⟩:=KF.ir hq1
  refine⟨_,_,rfl,_,rfl,_,(KF.blk hq1).cell2 rfl,⟨(clear_ok hA _).mono ?_⟩⟩
  rintro e w2 ⟨rfl,hT⟩
  exact⟨_,rfl,⟨last (KF.loose (kA _ _ hT)) 4 _⟩⟩
 ·have g:¬what=4:=by simpa using g
  have g1:¬what=5:=by simpa using g1
  have g2:what=6:=by simpa using g2
  rw[if_neg g,if_neg g1,if_pos g2,if_neg g,if_neg g1,if_pos g2]
  refine⟨(kfire_ok hTab h0 h c).mono ?_⟩
  rintro e w4 ⟨p,d,rfl,hT4⟩
  exact⟨_,_,_,rfl,p,d,rfl,hT4⟩
 ·have g:¬what=4:=by simpa using g
  have g1:¬what=5:=by simpa using g1
  have g2:¬what=6:=by simpa using g2
  have g3:what=7:=by simpa using g3
  rw[if_neg g,if_neg g1,if_neg g2,if_pos g3,if_neg g,if_neg g1,if_neg g2,if_pos g3]
  obtain⟨F1,hA,kA⟩:=KF.wk hq
  refine⟨_,rfl,_,hB.cell2 rfl,⟨(wtake_ok hA c).mono ?_⟩⟩
  rintro e w1 ⟨rfl,hT⟩
  exact⟨_,_,rfl,⟨last (KF.loose (kA _ _ hT)) 5 _⟩⟩
 ·have g:¬what=4:=by simpa using g
  have g1:¬what=5:=by simpa using g1
  have g2:¬what=6:=by simpa using g2
  have g3:¬what=7:=by simpa using g3
  rw[if_neg g,if_neg g1,if_neg g2,if_neg g3,if_neg g,if_neg g1,if_neg g2,if_neg g3]
  obtain⟨F1,hA,kA⟩:=KF.rq hq
  refine⟨_,rfl,_,hB.cell2 rfl,⟨(rqpick_ok hA c).mono ?_⟩⟩
  rintro e w1 ⟨rfl,hT⟩
  exact⟨_,_,rfl,⟨last (KF.loose (kA _ _ hT)) 2 _⟩⟩
end
end Go.Dav
namespace Go.Dav
open Go.Proofs
section
variable {b:Nat} {W w:World} {F:Fp} {k:K}
theorem kundo_ok (h:Turn (KO b) W w F k) (up:Bool) (stage c:Int):Calls Tryz.prog 297 #[.pointer (some ⟨b,0,none⟩),.bool up,.int .i64 stage,.int .i64 c] w fun e w'=>e=.returned (.tuple #[])/\Turn (KO b) W w' F (undoK k up stage c):=by
 obtain⟨q,hq⟩:=KO.fix h
 have hB:=KF.blk hq
 refine u297 ?_
 rw[t297]
 unfold undoK
 cases up
 ·refine⟨fun g=>(by cases g),fun _=>⟨fun _=>⟨fun g=>?_,fun g=>?_⟩,fun g=>(by cases g)⟩⟩
  ·have g:stage=1:=by simpa using g
   rw[if_neg (by simp),if_pos (by simp[g])]
   refine⟨_,rfl,_,hB.cell rfl,⟨fun w1 hN=>⟨(mWith_ok k.ac (l:=[c]) (p:=some ⟨w.heap.size,0,none⟩) (c:=1) (fun j v hv=>⟨_,rfl,hN.blk'.cell hv⟩) (by simp)).mono ?_⟩⟩⟩
   rintro e w2 ⟨rfl,rfl⟩
   have hq1:=hq.upd (hN.upd no)
   refine⟨_,rfl,_,rfl,(KF.blk hq1).wr (k:=17) (by simp[kCells]) fun w3 hW=>⟨rfl,KF.loose (KF.row hq1 (k.n,k.on,wi k.ac c,k.now,k.lim) rfl hW)⟩⟩
  ·have g:¬stage=1:=by simpa using g
   rw[if_neg (by simp),if_neg (by simp[g])]
   exact⟨rfl,h⟩
 ·refine⟨fun _=>⟨fun g=>?_,fun g=>⟨fun g=>(by cases g),fun _=>?_⟩⟩,fun g=>(by cases g)⟩
  ·have g:stage=1:=by simpa using g
   rw[if_pos (by simp[g])]
   obtain⟨F1,hA,kA⟩:=KF.co hq
   refine⟨_,rfl,_,hB.cell2 rfl,⟨(cpower_ok hA c false).mono ?_⟩⟩
   rintro e w1 ⟨⟨n,rfl⟩,hT⟩
   exact⟨_,rfl,rfl,KF.loose (kA _ _ hT)⟩
  ·have g:¬stage=1:=by simpa using g
   rw[if_neg (by simp[g]),if_neg (by simp)]
   exact⟨rfl,h⟩
theorem KL.fix {T:TypeId} {y:Lst} (h:Turn (Star (KO b) (Ls T)) W w F (k,y)):∃q F1,KF b q w F1 k/\Turn (KF b q) w w F1 k/\∀w' k',Turn (KF b q) w w' F1 k'->Turn (Star (KO b) (Ls T)) W w' F (k',y):=by
 obtain⟨F1,⟨q,h1⟩,k1⟩:=h.left
 exact⟨q,F1,h1,Turn.same h1,fun w' k' hT=>k1 _ _ (KF.loose hT)⟩
theorem ll_cells {T:TypeId} {p:Option Addr} {c:Nat} {l:List Int} (h:Turn (Star (KO b) (Ls T)) W w F (k,(p,c,l))):Cells w p (l.map (Value.int .i64)):=by
 obtain⟨F2,hR,_⟩:=h.right
 exact hR.cells
theorem kempty_ok (hTab:Tab W) (h0:¬F 0) (h:Turn (KO b) W w F k) (c:Int):Calls Tryz.prog 356 #[.pointer (some ⟨b,0,none⟩),.int .i64 c] w fun e w'=>(rqListE k.rq c=[]/\e=.returned (.bool true)/\Turn (KO b) W w' F k)∨∃id l,rqListE k.rq c=id::l/\e=.returned (.bool false)/\Turn (KO b) W w' F (putK {k with rq:=rqTakeS k.rq id} id c):=by
 obtain⟨q,hq⟩:=KO.fix h
 have hB:=KF.blk hq
 obtain⟨F1,hA,_⟩:=KF.rq hq
 refine u356 ?_
 rw[t356]
 refine⟨_,rfl,_,hB.cell2 rfl,⟨(rqlist_ok hA c).mono ?_⟩⟩
 rintro e w1 ⟨p,d,rfl,hL⟩
 cases hl:rqListE k.rq c with
 | nil=>
  rw[hl]at hL
  exact⟨_,_,_,rfl,fun _=>.inl ⟨rfl,rfl,h.upd hL.U⟩,fun g=>by simp at g⟩
 | cons id l=>
  rw[hl]at hL
  have hS:Turn (Star (KO b) (Ls 3)) W w1 F (k,(p,d,id::l)):=h.add hL.U (G:=fpS p) ⟨fun _=>Iff.rfl,hL.S⟩ hL.F
  refine⟨_,_,_,rfl,fun g=>by simp at g;omega,fun _=>?_⟩
  intro w2 q1 q2 q3 q4
  replace hS:=hS.upd (Upd.same no q1 q2 q3 q4)
  obtain⟨q5,F5,_,hK,kK⟩:=KL.fix hS
  obtain⟨F6,hA6,kA6⟩:=KF.rq hK
  obtain⟨a,ha,hcell⟩:=(ll_cells hS).at1 (i:=0) (l:=id::l) (by simp)
  have hr:(0:Int)<=0/\(0:Int)<(((id::l).length:Nat):Int):=⟨by omega,by simp⟩
  refine⟨_,rfl,_,(KF.blk hK).cell2 rfl,hr,a,ha,_,by simpa using hcell,⟨(rqtake_ok hA6 id).mono ?_⟩⟩
  rintro e w3 ⟨rfl,hT3⟩
  replace hS:=kK _ _ (kA6 _ _ hT3)
  obtain⟨a2,ha2,hcell2⟩:=(ll_cells hS).at1 (i:=0) (l:=id::l) (by simp)
  refine⟨_,rfl,hr,a2,ha2,_,by simpa using hcell2,⟨(kput_ok hTab h0 hS.drop id c).mono ?_⟩⟩
  rintro e w4 ⟨rfl,hT4⟩
  exact⟨rfl,.inr ⟨id,l,rfl,rfl,hT4⟩⟩
theorem kempty_ok' (hTab:Tab W) (h0:¬F 0) (h:Turn (KO b) W w F k) (c:Int):Calls Tryz.prog 356 #[.pointer (some ⟨b,0,none⟩),.int .i64 c] w fun e w'=>e=.returned (.bool (emptyOk k c))/\Turn (KO b) W w' F (emptyK k c):=by
 refine(kempty_ok hTab h0 h c).mono ?_
 unfold emptyOk emptyK
 rintro e w' (⟨hl,rfl,hT⟩|⟨id,l,hl,rfl,hT⟩)
 ·rw[hl];exact⟨rfl,hT⟩
 ·rw[hl];exact⟨rfl,hT⟩
theorem tlE_len {b:Nat} {w:World} {F:Fp} {x:TX} (h:ThO b w F x):(tlE x).length<=32:=by
 obtain⟨b2,b3,y,h,hc,hI⟩:=h
 have hl:=hI.len
 have hs:=congrArg List.length hI.s
 rw[List.length_map,hl]at hs
 unfold tlE
 rw[<-hs]
 exact outL_le _ _
theorem kcome_ok (hTab:Tab W) (h0:¬F 0) (h:Turn (KO b) W w F k) (stage c:Int):Calls Tryz.prog 299 #[.pointer (some ⟨b,0,none⟩),.int .i64 stage,.int .i64 c] w fun e w'=>e=.returned (.tuple #[])/\Turn (KO b) W w' F (comeK k stage c):=by
 obtain⟨q,hq⟩:=KO.fix h
 have hB:=KF.blk hq
 refine u299 ?_
 rw[t299]
 unfold comeK
 refine⟨fun g=>?_,fun g=>⟨fun g1=>?_,fun g1=>?_⟩⟩
 ·have g:stage=1:=by simpa using g
  rw[if_pos g]
  obtain⟨F1,hA,kA⟩:=KF.co hq
  refine⟨_,rfl,_,hB.cell2 rfl,⟨(cpower_ok hA c true).mono ?_⟩⟩
  rintro e w1 ⟨⟨n,rfl⟩,hT⟩
  exact⟨_,rfl,rfl,KF.loose (kA _ _ hT)⟩
 ·have g:¬stage=1:=by simpa using g
  have g1:stage=2:=by simpa using g1
  rw[if_neg g,if_pos g1]
  obtain⟨F1,hA,kA⟩:=KF.st hq
  refine⟨_,rfl,_,hB.cell2 rfl,⟨(drain_ok hA c).mono ?_⟩⟩
  rintro e w1 ⟨rfl,hT⟩
  exact⟨_,_,rfl,rfl,KF.loose (kA _ _ hT)⟩
 have g:¬stage=1:=by simpa using g
 have g1:¬stage=2:=by simpa using g1
 rw[if_neg g,if_neg g1]
 dsimp only
 have second:∀(k2:K) (w2:World),Turn (KO b) W w2 F k2->CutD Tryz.prog M299 c299_0 (e299_0 (some ⟨b,0,none⟩)) w2 (k299_0 fun e w'=>e=.returned (.tuple #[])/\Turn (KO b) W w' F ((listL k2.ir).foldl aimK k2)):=by
  intro k2 w2 h2
  refine CutD.mk ?_
  rw[t299_0]
  obtain⟨q2,hq2⟩:=KO.fix h2
  obtain⟨F2,hA2,_⟩:=KF.ir hq2
  refine⟨_,rfl,_,(KF.blk hq2).cell2 rfl,⟨(list_ok_Irq hA2).mono ?_⟩⟩
  rintro e w3 ⟨p,d,rfl,hL⟩
  have hS:Turn (Star (KO b) (Ls 3)) W w3 F (k2,(p,d,listL k2.ir)):=h2.add hL.U (G:=fpS p) ⟨fun _=>Iff.rfl,hL.S⟩ hL.F
  have hlen:(listL k2.ir).length<=16:=upto_length ..
  refine⟨_,_,_,rfl,⟨WP_loop okProg (M:=M299) (σ:=Nat) (fun i=>e299_2 (some ⟨b,0,none⟩) p (listL k2.ir).length d ((listL k2.ir).length:Int) (i:Int)) (fun i w'=>i<=(listL k2.ir).length/\Turn (Star (KO b) (Ls 3)) W w' F (((listL k2.ir).take i).foldl aimK k2,(p,d,listL k2.ir))) (fun i _=>(listL k2.ir).length-i) 0 ⟨rfl,rfl,rfl,rfl,trivial⟩ ⟨Nat.zero_le _,hS⟩ ?_⟩⟩
  rintro i w4 ⟨hi,hS4⟩
  rw[t299_2]
  refine⟨fun g=>?_,fun g=>?_⟩
  ·have g:=of_decide_eq_true g
   have hlt:i<(listL k2.ir).length:=by omega
   obtain⟨a,ha,hcell⟩:=(ll_cells hS4).at1 hlt
   obtain⟨F5,hK5,hT5,hz5,kK5⟩:=Turn.leftT hTab h0 hS4
   refine⟨⟨by omega,by omega⟩,a,ha,_,hcell,⟨(kaim_ok hT5 hz5 (Turn.same hK5) _).mono ?_⟩⟩
   rintro e w5 ⟨rfl,hT5⟩
   have h5:=kK5 _ _ hT5
   refine⟨rfl,i+1,⟨rfl,rfl,rfl,by rw[w64 (by omega)];rfl,trivial⟩,⟨by omega,?_⟩,by omega⟩
   rw[List.take_add_one,List.getElem?_eq_getElem hlt,List.foldl_append]
   exact h5
  ·have g:=of_decide_eq_false g
   rw[List.take_of_length_le (by omega)]at hS4
   exact⟨rfl,hS4.drop⟩
 have tail:∀(w2:World),Turn (KF b q) W w2 F k->∃a,(some ⟨b,0,none⟩:Option Addr)=some a/\Wr w2 (a.add 16) [.int .u64 (mi (wi k.on c))] fun w'=>∃a,(some ⟨b,0,none⟩:Option Addr)=some a/\Wr w' (a.add 17) [.int .u64 (mi (wi k.ac c))] fun w'=>∃a,(some ⟨b,0,none⟩:Option Addr)=some a/\∃p,w'.cell? ((a.add 0).add 0)=some (.pointer p)/\Call Tryz.prog 181 [.pointer p] w' fun e w'=>∃p n d,e=.returned (.slice p n d)/\Cut (WP Tryz.prog (M299).N (Code.loop c299_1) (e299_1 (some ⟨b,0,none⟩) p n d (n:Int) 0) w' (k299_1 fun e w'=>e=.returned (.tuple #[])/\Turn (KO b) W w' F ((listL (((tlE k.th).foldl mendK {k with on:=wi k.on c,ac:=wi k.ac c}).ir)).foldl aimK ((tlE k.th).foldl mendK {k with on:=wi k.on c,ac:=wi k.ac c})))):=by
  intro w2 hq
  refine⟨_,rfl,(KF.blk hq).wr (k:=16) (by simp[kCells]) fun w3 hW3=>?_⟩
  have h3:=KF.row hq (k.n,wi k.on c,k.ac,k.now,k.lim) rfl hW3
  refine⟨_,rfl,(KF.blk h3).wr (k:=17) (by simp[kCells]) fun w4 hW4=>?_⟩
  have h4:=KF.row h3 (k.n,wi k.on c,wi k.ac c,k.now,k.lim) rfl hW4
  obtain⟨F2,hA2,_⟩:=KF.th h4
  refine⟨_,rfl,_,(KF.blk h4).cell2 rfl,⟨(tlist_ok_Thr hA2).mono ?_⟩⟩
  rintro e w5 ⟨p,d,rfl,hL⟩
  have hS:Turn (Star (KO b) (Ls 3)) W w5 F ({k with on:=wi k.on c,ac:=wi k.ac c},(p,d,tlE k.th)):=(KF.loose h4).add hL.U (G:=fpS p) ⟨fun _=>Iff.rfl,hL.S⟩ hL.F
  have hlen:(tlE k.th).length<=32:=tlE_len hA2
  refine⟨_,_,_,rfl,⟨WP_loop okProg (M:=M299) (σ:=Nat) (fun i=>e299_1 (some ⟨b,0,none⟩) p (tlE k.th).length d ((tlE k.th).length:Int) (i:Int)) (fun i w'=>i<=(tlE k.th).length/\Turn (Star (KO b) (Ls 3)) W w' F (((tlE k.th).take i).foldl mendK {k with on:=wi k.on c,ac:=wi k.ac c},(p,d,tlE k.th))) (fun i _=>(tlE k.th).length-i) 0 ⟨rfl,rfl,rfl,rfl,trivial⟩ ⟨Nat.zero_le _,hS⟩ ?_⟩⟩
  rintro i w6 ⟨hi,hS6⟩
  rw[t299_1]
  refine⟨fun g=>?_,fun g=>?_⟩
  ·have g:=of_decide_eq_true g
   have hlt:i<(tlE k.th).length:=by omega
   obtain⟨a,ha,hcell⟩:=(ll_cells hS6).at1 hlt
   obtain⟨F5,hK5,hT5,hz5,kK5⟩:=Turn.leftT hTab h0 hS6
   refine⟨⟨by omega,by omega⟩,a,ha,_,hcell,⟨(kmend_ok hT5 hz5 (Turn.same hK5) _).mono ?_⟩⟩
   rintro e w7 ⟨rfl,hT7⟩
   have h7:=kK5 _ _ hT7
   refine⟨rfl,i+1,⟨rfl,rfl,rfl,by rw[w64 (by omega)];rfl,trivial⟩,⟨by omega,?_⟩,by omega⟩
   rw[List.take_add_one,List.getElem?_eq_getElem hlt,List.foldl_append]
   exact h7
  ·have g:=of_decide_eq_false g
   rw[List.take_of_length_le (by omega)]at hS6
   exact second _ _ hS6.drop
 intro w1 q1 q2 q3 q4
 replace hq:=hq.upd (Upd.same no q1 q2 q3 q4)
 replace hB:=KF.blk hq
 refine⟨_,rfl,_,hB.cell rfl,_,rfl,_,hB.cell rfl,?_,?_⟩
 ·refine⟨fun w2 hN=>?_⟩
  replace hq:=hq.upd (hN.upd no)
  have hB2:=KF.blk hq
  refine⟨hB2.cell rfl,hB2.cell rfl,?_,?_⟩
  ·refine⟨(mWith_ok k.on (l:=[c]) (p:=some ⟨w1.heap.size,0,none⟩) (c:=1) (fun j v hv=>⟨_,rfl,hN.blk'.cell hv⟩) (by simp)).mono ?_⟩
   rintro e w3 ⟨rfl,rfl⟩
   refine⟨_,rfl,hB2.cell rfl,⟨fun w4 hN4=>?_⟩⟩
   replace hq:=hq.upd (hN4.upd no)
   have hB4:=KF.blk hq
   refine⟨hB4.cell rfl,hB4.cell rfl,⟨(mWith_ok k.ac (l:=[c]) (p:=some ⟨w3.heap.size,0,none⟩) (c:=1) (fun j v hv=>⟨_,rfl,hN4.blk'.cell hv⟩) (by simp)).mono ?_⟩⟩
   rintro e w5 ⟨rfl,rfl⟩
   exact⟨_,rfl,tail _ hq⟩
  ·refine⟨fun w3 hN3=>?_⟩
   replace hq:=hq.upd (hN3.upd no)
   have hB3:=KF.blk hq
   refine⟨hB3.cell rfl,hB3.cell rfl,⟨(mWith_ok k.on (l:=[c]) (p:=some ⟨w1.heap.size,0,none⟩) (c:=1) (fun j v hv=>⟨_,rfl,(hN.blk'.upd (hN3.upd no) (fun h=>h)).cell hv⟩) (by simp)).mono ?_⟩⟩
   rintro e w4 ⟨rfl,rfl⟩
   refine⟨_,rfl,hB3.cell rfl,⟨(mWith_ok k.ac (l:=[c]) (p:=some ⟨w2.heap.size,0,none⟩) (c:=1) (fun j v hv=>⟨_,rfl,hN3.blk'.cell hv⟩) (by simp)).mono ?_⟩⟩
   rintro e w5 ⟨rfl,rfl⟩
   exact⟨_,rfl,tail _ hq⟩
 ·refine⟨fun w2 hN=>?_⟩
  replace hq:=hq.upd (hN.upd no)
  have hB2:=KF.blk hq
  refine⟨hB2.cell rfl,hB2.cell rfl,⟨fun w3 hN3=>?_⟩⟩
  replace hq:=hq.upd (hN3.upd no)
  have hB3:=KF.blk hq
  refine⟨hB3.cell rfl,hB3.cell rfl,⟨(mWith_ok k.on (l:=[c]) (p:=some ⟨w2.heap.size,0,none⟩) (c:=1) (fun j v hv=>⟨_,rfl,hN3.blk'.cell hv⟩) (by simp)).mono ?_⟩⟩
  rintro e w4 ⟨rfl,rfl⟩
  refine⟨_,rfl,hB3.cell rfl,⟨(mWith_ok k.ac (l:=[c]) (p:=some ⟨w1.heap.size,0,none⟩) (c:=1) (fun j v hv=>⟨_,rfl,(hN.blk'.upd (hN3.upd no) (fun h=>h)).cell hv⟩) (by simp)).mono ?_⟩⟩
  rintro e w5 ⟨rfl,rfl⟩
  exact⟨_,rfl,tail _ hq⟩
theorem khalt_ok (hTab:Tab W) (h0:¬F 0) (h:Turn (KO b) W w F k) (c who:Int):Calls Tryz.prog 360 #[.pointer (some ⟨b,0,none⟩),.int .i64 c,.int .i64 who] w fun e w'=>e=.returned (.bool (haltOk k))/\Turn (KO b) W w' F (haltK k c who):=by
 obtain⟨q,hq⟩:=KO.fix h
 have hB:=KF.blk hq
 obtain⟨F1,hA,_⟩:=KF.so hq
 refine u360 ?_
 rw[t360]
 unfold haltOk haltK
 refine⟨_,rfl,_,hB.cell2 rfl,⟨(on_ok_Stop hA).mono ?_⟩⟩
 rintro e w1 ⟨rfl,rfl⟩
 refine⟨_,rfl,fun g=>?_,fun g=>?_⟩
 ·have g:k.sp.1=0:=by simpa using g
  have e1:(!(k.sp.1==0)&&sReady k.sp)=false:=by rw[g];rfl
  rw[if_pos g,e1]
  intro w2 q1 q2 q3 q4
  replace hq:=hq.upd (Upd.same no q1 q2 q3 q4)
  replace hB:=KF.blk hq
  refine⟨_,rfl,_,hB.cell2 rfl,_,rfl,_,hB.cell rfl,⟨fun w3 hN=>?_⟩⟩
  replace hq:=hq.upd (hN.upd no)
  replace hB:=KF.blk hq
  refine⟨hB.cell rfl,hB.cell2 rfl,⟨(mWith_ok k.ac (l:=[c]) (p:=some ⟨w2.heap.size,0,none⟩) (c:=1) (fun j v hv=>⟨_,rfl,hN.blk'.cell hv⟩) (by simp)).mono ?_⟩⟩
  rintro e w4 ⟨rfl,rfl⟩
  refine⟨_,rfl,hB.cell2 rfl,⟨(mLess_ok (wi k.ac c) who _).mono ?_⟩⟩
  rintro e w5 ⟨rfl,rfl⟩
  obtain⟨F2,hA2,kA2⟩:=KF.so hq
  refine⟨_,rfl,hB.cell2 rfl,⟨(begin_ok hA2 _).mono ?_⟩⟩
  rintro e w6 ⟨rfl,hT⟩
  exact⟨_,rfl,rfl,KF.loose (kA2 _ _ hT)⟩
 ·have g:¬k.sp.1=0:=by
   intro hh;rw[hh]at g;exact absurd g (by decide)
  have e0:(!(k.sp.1==0))=true:=by simpa using g
  rw[if_neg g,e0,Bool.true_and]
  refine⟨_,rfl,_,hB.cell2 rfl,⟨(ready_ok_Stop hA).mono ?_⟩⟩
  rintro e w2 ⟨rfl,hU2⟩
  replace hq:=hq.upd hU2
  replace hB:=KF.blk hq
  refine⟨_,rfl,fun g2=>?_,fun g2=>?_⟩
  ·have g2:sReady k.sp=false:=by simpa using g2
   rw[g2,if_neg (by decide)]
   exact⟨rfl,KF.loose hq⟩
  ·have g2:sReady k.sp=true:=by simpa using g2
   rw[g2,if_pos rfl]
   dsimp only
   obtain⟨F3,hR,_⟩:=KF.rt hq
   refine⟨_,rfl,_,hB.cell2 rfl,⟨(on_ok_Route hR c).mono ?_⟩⟩
   rintro e w3 ⟨p,d,rfl,hL⟩
   have hS:Turn (Star (KO b) (Ls 3)) W w3 F (k,(p,d,onL k.rt c)):=(KF.loose hq).add hL.U (G:=fpS p) ⟨fun _=>Iff.rfl,hL.S⟩ hL.F
   have hlen:(onL k.rt c).length<=16:=upto_length ..
   refine⟨_,_,_,rfl,⟨WP_loop okProg (M:=M360) (σ:=Nat) (fun i=>e360_1 (some ⟨b,0,none⟩) c p (onL k.rt c).length d ((onL k.rt c).length:Int) (i:Int)) (fun i w'=>i<=(onL k.rt c).length/\Turn (Star (KO b) (Ls 3)) W w' F (((onL k.rt c).take i).foldl (fun k n=>leadK k n c) k,(p,d,onL k.rt c))) (fun i _=>(onL k.rt c).length-i) 0 ⟨rfl,rfl,rfl,rfl,rfl,trivial⟩ ⟨Nat.zero_le _,hS⟩ ?_⟩⟩
   rintro i w4 ⟨hi,hS4⟩
   rw[t360_1]
   refine⟨fun g=>?_,fun g=>CutD.mk ?_⟩
   ·have g:=of_decide_eq_true g
    have hlt:i<(onL k.rt c).length:=by omega
    obtain⟨a,ha,hcell⟩:=(ll_cells hS4).at1 hlt
    obtain⟨F5,hK5,hT5,hz5,kK5⟩:=Turn.leftT hTab h0 hS4
    refine⟨⟨by omega,by omega⟩,a,ha,_,hcell,⟨(klead_ok hT5 hz5 (Turn.same hK5) _ _).mono ?_⟩⟩
    rintro e w5 ⟨rfl,hT5⟩
    have h5:=kK5 _ _ hT5
    refine⟨rfl,i+1,⟨rfl,rfl,rfl,rfl,by rw[w64 (by omega)];rfl,trivial⟩,⟨by omega,?_⟩,by omega⟩
    rw[List.take_add_one,List.getElem?_eq_getElem hlt,List.foldl_append]
    exact h5
   ·have g:=of_decide_eq_false g
    rw[List.take_of_length_le (by omega)]at hS4
    rw[t360_0]
    obtain⟨q6,h6⟩:=KO.fix hS4.drop
    obtain⟨F6,hA6,kA6⟩:=KF.so h6
    refine⟨_,rfl,_,(KF.blk h6).cell2 rfl,⟨(free_ok_Stop hA6).mono ?_⟩⟩
    rintro e w7 ⟨rfl,hT⟩
    exact⟨_,rfl,rfl,KF.loose (kA6 _ _ hT)⟩
theorem kleave_ok (hTab:Tab W) (h0:¬F 0) (h:Turn (KO b) W w F k) (stage c who:Int):Calls Tryz.prog 300 #[.pointer (some ⟨b,0,none⟩),.int .i64 stage,.int .i64 c,.int .i64 who] w fun e w'=>e=.returned (.bool (leaveOk k stage c who))/\Turn (KO b) W w' F (leaveK k stage c who):=by
 obtain⟨q,hq⟩:=KO.fix h
 have hB:=KF.blk hq
 refine u300 ?_
 rw[t300]
 have bne:∀x:Int,(x !=0)=decide (x≠0):=fun x=>by by_cases hx:x=0<;>simp[hx]
 refine⟨fun g=>?_,fun g=>⟨fun g1=>?_,fun g1=>⟨fun g2=>?_,fun g2=>⟨fun g3=>?_,fun g3=>⟨fun g4=>?_,fun g4=>⟨fun g5=>?_,fun g5=>⟨fun g6=>?_,fun g6=>⟨fun g7=>?_,fun g7=>?_⟩⟩⟩⟩⟩⟩⟩⟩
 ·have g:stage=1:=by simpa using g
  subst g
  refine⟨_,rfl,_,hB.cell rfl,⟨(mLess_ok k.ac c w).mono ?_⟩⟩
  rintro e w1 ⟨rfl,rfl⟩
  exact⟨_,rfl,_,rfl,hB.wr (k:=17) (by simp[kCells]) fun w2 hW=>⟨rfl,KF.loose (KF.row hq (k.n,k.on,ls k.ac c,k.now,k.lim) rfl hW)⟩⟩
 ·have g1:stage=2:=by simpa using g1
  subst g1
  refine⟨(kempty_ok' hTab h0 h c).mono ?_⟩
  rintro e w1 ⟨rfl,hT⟩
  exact⟨_,rfl,rfl,hT⟩
 ·have g2:stage=3:=by simpa using g2
  subst g2
  obtain⟨F1,hA,kA⟩:=KF.tm hq
  refine⟨_,rfl,_,hB.cell2 rfl,⟨(tmove_ok hA c who).mono ?_⟩⟩
  rintro e w1 ⟨rfl,hT⟩
  exact⟨_,_,rfl,by rw[bne];rfl,KF.loose (kA _ _ hT)⟩
 ·have g3:stage=4:=by simpa using g3
  subst g3
  obtain⟨F1,hA,kA⟩:=KF.wk hq
  refine⟨_,rfl,_,hB.cell2 rfl,⟨(wunbind_ok hA c).mono ?_⟩⟩
  rintro e w1 ⟨rfl,hT⟩
  exact⟨_,_,rfl,by rw[bne];rfl,KF.loose (kA _ _ hT)⟩
 ·have g4:stage=5:=by simpa using g4
  subst g4
  obtain⟨F1,hA,kA⟩:=KF.ca hq
  refine⟨_,rfl,_,hB.cell2 rfl,⟨(cmove_ok hA c who).mono ?_⟩⟩
  rintro e w1 ⟨rfl,hT⟩
  exact⟨_,_,rfl,by rw[bne];rfl,KF.loose (kA _ _ hT)⟩
 ·have g5:stage=6:=by simpa using g5
  subst g5
  refine⟨(khalt_ok hTab h0 h c who).mono ?_⟩
  rintro e w1 ⟨rfl,hT⟩
  exact⟨_,rfl,rfl,hT⟩
 ·have g6:stage=7:=by simpa using g6
  subst g6
  obtain⟨F1,hA,kA⟩:=KF.st hq
  refine⟨_,rfl,_,hB.cell2 rfl,⟨(drain_ok hA c).mono ?_⟩⟩
  rintro e w1 ⟨rfl,hT⟩
  exact⟨_,_,rfl,rfl,KF.loose (kA _ _ hT)⟩
 ·have g7:stage=8:=by simpa using g7
  subst g7
  obtain⟨F1,cnt,hA,kA⟩:=KF.sc hq
  refine⟨_,rfl,_,hB.cell2 rfl,⟨(sfold_ok hA c who).mono ?_⟩⟩
  rintro e w1 ⟨rfl,hT⟩
  exact⟨_,rfl,rfl,KF.loose (kA _ _ hT)⟩
 ·have e1:leaveOk k stage c who=true:=by
   unfold leaveOk
   simp only[beq_eq_false_iff_ne,ne_eq]at g g1 g2 g3 g4 g5
   rw[if_neg g,if_neg g1,if_neg g2,if_neg g3,if_neg g4,if_neg g5]
  have e2:leaveK k stage c who={k with on:=ls k.on c,co:=coPowS k.co c false}:=by
   unfold leaveK
   simp only[beq_eq_false_iff_ne,ne_eq]at g g1 g2 g3 g4 g5 g6 g7
   rw[if_neg g,if_neg g1,if_neg g2,if_neg g3,if_neg g4,if_neg g5,if_neg g6,if_neg g7]
  rw[e1,e2]
  refine⟨_,rfl,_,hB.cell rfl,⟨(mLess_ok k.on c w).mono ?_⟩⟩
  rintro e w1 ⟨rfl,rfl⟩
  refine⟨_,rfl,_,rfl,hB.wr (k:=16) (by simp[kCells]) fun w2 hW=>?_⟩
  have h2:=KF.row hq (k.n,ls k.on c,k.ac,k.now,k.lim) rfl hW
  obtain⟨F1,hA,kA⟩:=KF.co h2
  refine⟨_,rfl,_,(KF.blk h2).cell2 rfl,⟨(cpower_ok hA c false).mono ?_⟩⟩
  rintro e w3 ⟨⟨n,rfl⟩,hT⟩
  exact⟨_,rfl,rfl,KF.loose (kA _ _ hT)⟩
theorem kstage_ok (hTab:Tab W) (h0:¬F 0) (h:Turn (KO b) W w F k) (s:Int×Bool×Bool) (c who:Int):Calls Tryz.prog 209 #[.pointer (some ⟨b,0,none⟩),.agg #[.int .i64 s.1,.bool s.2.1,.bool s.2.2],.int .i64 c,.int .i64 who] w fun e w'=>e=.returned (.bool (stageOk k s c who))/\Turn (KO b) W w' F (stageK k s c who):=by
 refine u209 ?_
 rw[t209]
 refine⟨fun w1 hN=>?_⟩
 have h1:=h.upd (hN.upd no)
 have hL:=hN.blk'
 obtain⟨q,hq⟩:=KO.fix h1
 have hB:=KF.blk hq
 obtain⟨F1,hA,_⟩:=KF.dk hq
 unfold stageOk stageK
 refine⟨_,rfl,_,hB.cell2 rfl,⟨(hup_ok hA).mono ?_⟩⟩
 rintro e w2 ⟨rfl,rfl⟩
 refine⟨_,rfl,_,hL.cell rfl,fun g=>⟨_,hL.cell rfl,⟨(kundo_ok h1 _ _ c).mono ?_⟩⟩,fun g=>⟨_,hL.cell rfl,fun g1=>?_,fun g1=>⟨fun g2=>⟨_,hL.cell rfl,⟨(kcome_ok hTab h0 h1 _ c).mono ?_⟩⟩,fun g2=>⟨_,hL.cell rfl,⟨(kleave_ok hTab h0 h1 _ c who).mono ?_⟩⟩⟩⟩⟩
 ·have g:s.2.1=true:=g
  rw[if_pos g,if_pos g]
  rintro e w3 ⟨rfl,hT⟩
  exact⟨rfl,rfl,hT⟩
 all_goals have g:¬s.2.1=true:=by simpa using g
 all_goals rw[if_neg g,if_neg g]
 ·have g1:s.1=0:=by simpa using g1
  rw[if_pos g1,if_pos g1]
  obtain⟨F2,hG,kG⟩:=KF.ga hq
  refine⟨_,rfl,_,hB.cell2 rfl,⟨(gtake_ok hG).mono ?_⟩⟩
  rintro e w3 ⟨rfl,hT⟩
  exact⟨_,rfl,by rfl,KF.loose (kG _ _ hT)⟩
 all_goals have g1:¬s.1=0:=by simpa using g1
 all_goals rw[if_neg g1,if_neg g1]
 ·rw[if_pos g2,if_pos g2]
  rintro e w3 ⟨rfl,hT⟩
  exact⟨rfl,rfl,hT⟩
 ·rw[if_neg (by rw[g2];decide),if_neg (by rw[g2];decide)]
  rintro e w3 ⟨rfl,hT⟩
  exact⟨_,rfl,rfl,hT⟩
theorem kturn_ok (hTab:Tab W) (h0:¬F 0) (h:Turn (KO b) W w F k) (who:Int):Calls Tryz.prog 119 #[.pointer (some ⟨b,0,none⟩),.int .i64 who] w (Told_Kdo (KO b) W F (turnK k who) (turnR k who)):=by
 obtain⟨q,hq⟩:=KO.fix h
 have hB:=KF.blk hq
 obtain⟨F1,hA,kA⟩:=KF.dk hq
 refine u119 ?_
 rw[t119]
 refine⟨_,rfl,_,hB.cell2 rfl,⟨(hcpu_ok hA).mono ?_⟩⟩
 rintro e w1 ⟨rfl,rfl⟩
 refine⟨_,rfl,_,rfl,_,hB.cell2 rfl,⟨(hnext_ok hA).mono ?_⟩⟩
 rintro e w2 ⟨rfl,hT⟩
 have h2:=KF.loose (kA _ _ hT)
 refine⟨_,_,_,_,rfl,⟨fun w3 hN=>?_⟩⟩
 have hS:Turn (Star (KO b) (Lb w2.heap.size 303)) W w3 F ({k with dk:=nextDS k.dk},[.int .i64 0,.bool false,.bool false]):=h2.add (hN.upd no) (Rw.new hN rfl) (fun i hi=>Nat.le_of_eq hi.symm)
 generalize w2.heap.size=p at hS⊢
 refine lb_wr (vs:=[.int .i64 (nextD k.dk).1.1,.bool (nextD k.dk).1.2.1,.bool (nextD k.dk).1.2.2]) hS (by rfl) fun w4 hS=>?_
 have hL:=lb_blk hS
 have last:∀(w5:World),Turn (KO b) W w5 F (turn1 k who)->CutD Tryz.prog M119 c119_0 (e119_0 (some ⟨b,0,none⟩) (dkCpu k.dk)) w5 (k119_0 (Told_Kdo (KO b) W F (turnK k who) (turnR k who))):=by
  intro w5 h5
  refine CutD.mk ?_
  rw[t119_0]
  obtain⟨q5,hq5⟩:=KO.fix h5
  obtain⟨F5,hA5,_⟩:=KF.dk hq5
  unfold turnK turnR
  refine⟨_,rfl,_,(KF.blk hq5).cell2 rfl,⟨(hover_ok hA5).mono ?_⟩⟩
  rintro e w6 ⟨rfl,hU6⟩
  replace hq5:=hq5.upd hU6
  refine⟨_,rfl,fun g=>?_,fun g=>?_⟩
  ·have g:dkOver (turn1 k who).dk=false:=by simpa using g
   rw[g]
   exact Told_Kdo.nil (KF.loose hq5)
  ·have g:dkOver (turn1 k who).dk=true:=by simpa using g
   rw[g]
   obtain⟨F7,hA7,kA7⟩:=KF.dk hq5
   refine⟨_,rfl,_,(KF.blk hq5).cell2 rfl,⟨(hend_ok hA7 g).mono ?_⟩⟩
   rintro e w7 ⟨rfl,hT7⟩
   have hq7:=kA7 _ _ hT7
   obtain⟨F8,hG,kG⟩:=KF.ga hq7
   refine⟨_,_,rfl,_,rfl,_,(KF.blk hq7).cell2 rfl,⟨(gfree_ok hG).mono ?_⟩⟩
   rintro e w8 ⟨rfl,hT8⟩
   refine⟨_,rfl,⟨fun w9 hN9=>Told_Kdo.one (KF.loose (kG _ _ hT8)) hN9⟩⟩
 refine⟨_,hL.cell rfl,fun g=>?_,fun g=>?_⟩
 ·have g:(nextD k.dk).1.2.2=false:=by simpa using g
  refine⟨_,hL.cell rfl,_,hL.cell rfl,_,hL.cell rfl,⟨(kstage_ok hTab h0 hS.drop (nextD k.dk).1 (dkCpu k.dk) who).mono ?_⟩⟩
  rintro e w5 ⟨rfl,hT5⟩
  refine⟨_,rfl,fun g2=>?_,fun g2=>?_⟩
  ·obtain⟨q5,hq5⟩:=KO.fix hT5
   obtain⟨F5,hA5,kA5⟩:=KF.dk hq5
   refine⟨_,rfl,_,(KF.blk hq5).cell2 rfl,⟨(hdone_ok hA5).mono ?_⟩⟩
   rintro e w6 ⟨⟨x,rfl⟩,hT6⟩
   refine⟨_,rfl,last _ ?_⟩
   have:=KF.loose (kA5 _ _ hT6)
   unfold turn1
   dsimp only
   rw[if_neg (by rw[g];decide),if_pos g2]
   exact this
  ·refine last _ ?_
   unfold turn1
   dsimp only
   rw[if_neg (by rw[g];decide),if_neg (by rw[g2];decide)]
   exact hT5
 ·have g:(nextD k.dk).1.2.2=true:=by simpa using g
  refine last _ ?_
  unfold turn1
  dsimp only
  rw[if_pos g]
  exact hS.drop
end
end Go.Dav
namespace Go.Dav
open Go.Proofs
theorem kafter_ok {why:Int} {g p p1:Nat} {w:World} {R:Ending->World->Prop} (hb:hasBody Tryz.prog g=true) (hz:why=0->Calls Tryz.prog g #[.pointer (some ⟨p,0,none⟩),.pointer (some ⟨p1,0,none⟩)] w fun e w'=>e=.returned (.tuple #[])/\R (.returned (.int .i64 why)) w') (hn:why≠0->R (.returned (.int .i64 why)) w):Calls Tryz.prog 135 #[.int .i64 why,.func (.func g) #[] #[.pointer (some ⟨p,0,none⟩),.pointer (some ⟨p1,0,none⟩)]] w R:=by
 refine u135 ?_
 rw[t135]
 refine⟨fun h=>?_,fun h=>hn (by simpa using h)⟩
 rw[hb]
 exact⟨hz (by simpa using h)⟩
section
variable {b:Nat} {W w:World} {F:Fp} {k:K} {p p1:Nat} {T T1:TypeId} {e:Evt}
theorem kc2_ok (hTab:Tab W) (h0:¬F 0) (hn:1<=k.n) (h:Turn (Star (Star (KO b) (Lb p T)) (Lb p1 T1)) W w F ((k,[.pointer (some ⟨b,0,none⟩)]),evC e)):Calls Tryz.prog 137 #[.pointer (some ⟨p,0,none⟩),.pointer (some ⟨p1,0,none⟩)] w fun e' w'=>e'=.returned (.tuple #[])/\Turn (KO b) W w' F (leadK k e.2.2.1 (Int.tmod e.2.2.1 k.n)):=by
 refine u137 ?_
 rw[t137]
 intro w1 q1 q2 q3 q4
 replace h:=h.upd (Upd.same no q1 q2 q3 q4)
 obtain⟨q,F1,_,hK,_⟩:=KS2.fix h
 have hL:=lb_blk1 h
 have hL2:=lb_blk h
 refine⟨_,hL.cell0 rfl,_,hL2.cell rfl,_,hL2.cell rfl,_,hL.cell0 rfl,_,rfl,_,(KF.blk hK).cell rfl,(show((k.n:Nat):Int)≠0 by omega),⟨(klead_ok hTab h0 h.drop.drop e.2.2.1 _).mono ?_⟩⟩
 rintro e' w2 ⟨rfl,hT⟩
 exact⟨rfl,rfl,hT⟩
theorem kc3_ok (h:Turn (Star (Star (KO b) (Lb p T)) (Lb p1 T1)) W w F ((k,[.pointer (some ⟨b,0,none⟩)]),evC e)):Calls Tryz.prog 140 #[.pointer (some ⟨p,0,none⟩),.pointer (some ⟨p1,0,none⟩)] w fun e' w'=>e'=.returned (.tuple #[])/\Turn (KO b) W w' F {k with rt:=offS k.rt e.2.2.1}:=by
 refine u140 ?_
 rw[t140]
 intro w1 q1 q2 q3 q4
 replace h:=h.upd (Upd.same no q1 q2 q3 q4)
 obtain⟨q,F1,_,hK,kK⟩:=KS2.fix h
 obtain⟨F2,hA,kA⟩:=KF.rt hK
 have hL:=lb_blk1 h
 have hL2:=lb_blk h
 refine⟨_,hL.cell0 rfl,_,rfl,_,(KF.blk hK).cell2 rfl,_,hL2.cell rfl,⟨(off_ok hA e.2.2.1).mono ?_⟩⟩
 rintro e' w2 ⟨rfl,hT⟩
 exact⟨_,rfl,rfl,(kK _ _ (kA _ _ hT)).drop.drop⟩
theorem kc4_ok (hTab:Tab W) (h0:¬F 0) (h:Turn (Star (Star (KO b) (Lb p T)) (Lb p1 T1)) W w F ((k,[.pointer (some ⟨b,0,none⟩)]),evC e)):Calls Tryz.prog 143 #[.pointer (some ⟨p,0,none⟩),.pointer (some ⟨p1,0,none⟩)] w fun e' w'=>e'=.returned (.tuple #[])/\Turn (KO b) W w' F (aimK k e.2.2.1):=by
 refine u143 ?_
 rw[t143]
 have hL:=lb_blk1 h
 have hL2:=lb_blk h
 refine⟨_,hL.cell0 rfl,_,hL2.cell rfl,⟨(kaim_ok hTab h0 h.drop.drop e.2.2.1).mono ?_⟩⟩
 rintro e' w2 ⟨rfl,hT⟩
 exact⟨rfl,rfl,hT⟩
theorem req_in_Kirq {s:IrS} {n:Int} {m:BV} (h:reqE s n m=0):0<=n:=by
 unfold reqE at h
 by_cases hn:nout_Irq n
 ·rw[if_pos hn]at h;cases h
 ·unfold nout_Irq at hn;omega
theorem kinterrupt_ok (hTab:Tab W) (h0:¬F 0) (hn:1<=k.n) (h:Turn (KO b) W w F k) (e:Evt):Calls Tryz.prog 67 #[.pointer (some ⟨b,0,none⟩),.agg (evC e).toArray] w fun e' w'=>e'=.returned (.int .i64 (irqE' k e))/\Turn (KO b) W w' F (irqK k e):=by
 refine u67 ?_
 rw[t67]
 refine⟨fun w1 hN=>⟨fun w2 hN2=>?_⟩⟩
 have hS:Turn (Star (Star (KO b) (Lb w.heap.size 23)) (Lb w1.heap.size 33)) W w2 F ((k,[.pointer (some ⟨b,0,none⟩)]),evC e):=(h.add (hN.upd no) (Rw.new hN rfl) (fun i hi=>Nat.le_of_eq hi.symm)).add (hN2.upd no) (Rw.new hN2 rfl) (fun i hi=>Nat.le_of_eq hi.symm)
 generalize w.heap.size=p at hS⊢
 generalize w1.heap.size=p1 at hS⊢
 unfold irqE' irqK
 refine⟨_,(lb_blk hS).cell rfl,fun g=>?_,fun g=>⟨fun g1=>?_,fun g1=>⟨fun g2=>?_,fun g2=>⟨fun g3=>?_,fun g3=>⟨fun g4=>?_,fun g4=>?_⟩⟩⟩⟩⟩
 all_goals
  intro w3 q1 q2 q3 q4
  have hS:=hS.upd (Upd.same no q1 q2 q3 q4)
  obtain⟨q,F1,_,hK,kK⟩:=KS2.fix hS
  obtain⟨F2,hA,kA⟩:=KF.ir hK
  have hL:=lb_blk1 hS
  have hL2:=lb_blk hS
  have hB:=KF.blk hK
 ·have g:e.1=12:=by simpa using g
  rw[if_pos g,if_pos g]
  refine⟨_,hL.cell0 rfl,_,rfl,_,hB.cell2 rfl,_,hL2.cell rfl,_,hL2.cell rfl,⟨(request_ok hA e.2.2.1 e.2.2.2.1).mono ?_⟩⟩
  rintro e' w4 ⟨rfl,hT⟩
  have hS:=kK _ _ (kA _ _ hT)
  refine⟨_,rfl,⟨kafter_ok (by kernel_rfl) (fun hz=>?_) (fun hz=>?_)⟩⟩
  ·refine(kc2_ok (k:={k with ir:=reqS k.ir e.2.2.1 e.2.2.2.1}) hTab h0 hn hS).mono ?_
   rintro e' w5 ⟨rfl,hT5⟩
   rw[if_pos hz]
   rw[Int.tmod_eq_emod_of_nonneg (req_in_Kirq hz)]at hT5
   exact⟨rfl,_,rfl,rfl,hT5⟩
  ·rw[if_neg hz]
   exact⟨_,rfl,rfl,hS.drop.drop⟩
 ·have g:¬e.1=12:=by simpa using g
  have g1:e.1=13:=by simpa using g1
  rw[if_neg g,if_pos g1,if_neg g,if_pos g1]
  refine⟨_,hL.cell0 rfl,_,rfl,_,hB.cell2 rfl,_,hL2.cell rfl,⟨(free_ok_Irq hA e.2.2.1).mono ?_⟩⟩
  rintro e' w4 ⟨rfl,hT⟩
  have hS:=kK _ _ (kA _ _ hT)
  refine⟨_,rfl,⟨kafter_ok (by kernel_rfl) (fun hz=>?_) (fun hz=>?_)⟩⟩
  ·refine(kc3_ok hS).mono ?_
   rintro e' w5 ⟨rfl,hT5⟩
   rw[if_pos hz]
   exact⟨rfl,_,rfl,rfl,hT5⟩
  ·rw[if_neg hz]
   exact⟨_,rfl,rfl,hS.drop.drop⟩
 ·have g:¬e.1=12:=by simpa using g
  have g1:¬e.1=13:=by simpa using g1
  have g2:e.1=14:=by simpa using g2
  rw[if_neg g,if_neg g1,if_pos g2,if_neg g,if_neg g1,if_pos g2]
  refine⟨_,hL.cell0 rfl,_,rfl,_,hB.cell2 rfl,_,hL2.cell rfl,_,hL2.cell rfl,⟨(aim_ok_Irq hA e.2.2.1 e.2.2.2.1).mono ?_⟩⟩
  rintro e' w4 ⟨rfl,hT⟩
  have hS:=kK _ _ (kA _ _ hT)
  refine⟨_,rfl,⟨kafter_ok (by kernel_rfl) (fun hz=>?_) (fun hz=>?_)⟩⟩
  ·refine(kc4_ok hTab h0 hS).mono ?_
   rintro e' w5 ⟨rfl,hT5⟩
   rw[if_pos hz]
   exact⟨rfl,_,rfl,rfl,hT5⟩
  ·rw[if_neg hz]
   exact⟨_,rfl,rfl,hS.drop.drop⟩
 ·have g:¬e.1=12:=by simpa using g
  have g1:¬e.1=13:=by simpa using g1
  have g2:¬e.1=14:=by simpa using g2
  have g3:e.1=15:=by simpa using g3
  rw[if_neg g,if_neg g1,if_neg g2,if_pos g3,if_neg g,if_neg g1,if_neg g2,if_pos g3]
  refine⟨_,hL.cell0 rfl,_,rfl,_,hB.cell2 rfl,_,hL2.cell rfl,⟨(hush_ok hA e.2.2.1).mono ?_⟩⟩
  rintro e' w4 ⟨rfl,hT⟩
  exact⟨_,rfl,rfl,(kK _ _ (kA _ _ hT)).drop.drop⟩
 ·have g:¬e.1=12:=by simpa using g
  have g1:¬e.1=13:=by simpa using g1
  have g2:¬e.1=14:=by simpa using g2
  have g3:¬e.1=15:=by simpa using g3
  have g4:e.1=16:=by simpa using g4
  rw[if_neg g,if_neg g1,if_neg g2,if_neg g3,if_pos g4,if_neg g,if_neg g1,if_neg g2,if_neg g3,if_pos g4]
  refine⟨_,hL.cell0 rfl,_,rfl,_,hB.cell2 rfl,_,hL2.cell rfl,⟨(unhush_ok hA e.2.2.1).mono ?_⟩⟩
  rintro e' w4 ⟨rfl,hT⟩
  exact⟨_,rfl,rfl,(kK _ _ (kA _ _ hT)).drop.drop⟩
 ·have g:¬e.1=12:=by simpa using g
  have g1:¬e.1=13:=by simpa using g1
  have g2:¬e.1=14:=by simpa using g2
  have g3:¬e.1=15:=by simpa using g3
  have g4:¬e.1=16:=by simpa using g4
  rw[if_neg g,if_neg g1,if_neg g2,if_neg g3,if_neg g4,if_neg g,if_neg g1,if_neg g2,if_neg g3,if_neg g4]
  refine⟨_,hL.cell0 rfl,_,rfl,_,hB.cell2 rfl,_,hL2.cell rfl,⟨(raise_ok hA e.2.2.1).mono ?_⟩⟩
  rintro e' w4 ⟨rfl,hT⟩
  exact⟨_,rfl,rfl,(kK _ _ (kA _ _ hT)).drop.drop⟩
end
end Go.Dav
namespace Go.Dav
open Go.Proofs
theorem GvsO.at {p:Option Addr} {c n:Nat} {w:World} {F:Fp} (h:GvsO p c w F n) {i:Nat} (hi:i<n):∃a bi F1,p=some a/\w.cell? (a.add (i*1))=some (.pointer (some ⟨bi,0,none⟩))/\GvO bi w F1 ()/\∀w',Turn (GvO bi) w w' F1 ()->Turn (GvsO p c) w w' F n:=by
 obtain⟨qs,hl,hS⟩:=h
 have hi':i<qs.length:=by omega
 obtain⟨G1,h1,_⟩:=Star.left hS
 obtain⟨G2,h2,k2⟩:=Star.right hS
 obtain⟨a,ha,hc⟩:=h1.2.cells.at1 (f:=ptV) (l:=qs) hi'
 obtain⟨F1,q1,_,q2⟩:=Fam.at h2 hi'
 refine⟨a,qs[i].1,F1,ha,hc,q1,fun w' hT=>?_⟩
 have hk:=k2 _ _ (q2 w' (qs[i].1,()) hT)
 have e:qs.set i (qs[i].1,())=qs:=by
  apply List.ext_getElem?
  intro j
  rw[List.getElem?_set]
  by_cases hj:i=j
  ·subst hj;simp[hi']
  ·simp[hj]
 simp only[e]at hk
 obtain⟨F',u1,u2⟩:=hk
 exact⟨F',⟨qs,hl,u1⟩,u2⟩
section
variable {b:Nat} {W w:World} {F:Fp} {k:K}
theorem kmeet_ok (h:Turn (KO b) W w F k) {i:Nat} (hi:i<k.n) (x:CoF) (hx:0<=x.1.way/\x.1.way<4) (t:Int):Calls Tryz.prog 123 #[.pointer (some ⟨b,0,none⟩),.int .i64 (i:Int),.agg (coE x).toArray,.int .i64 t] w fun e w'=>e=.returned (.tuple #[])/\Turn (KO b) W w' F k:=by
 refine u123 ?_
 rw[t123]
 refine⟨fun w1 hN=>?_⟩
 have hS:Turn (Star (KO b) (Lb w.heap.size 226)) W w1 F (k,coE x):=h.add (hN.upd no) (Rw.new hN rfl) (fun i hi=>Nat.le_of_eq hi.symm)
 generalize w.heap.size=p at hS⊢
 obtain⟨q,F1,_,hK,kK⟩:=KS.fix hS
 obtain⟨F2,hA,kA⟩:=KF.co hK
 refine⟨_,rfl,_,(KF.blk hK).cell2 rfl,⟨(ctake_ok_Core hA (i:Int)).mono ?_⟩⟩
 rintro e w2 ⟨⟨n1,n2,n3,rfl⟩,hT⟩
 replace hS:=kK _ _ (kA _ _ hT)
 obtain⟨q2,F3,_,hK2,kK2⟩:=KS.fix hS
 obtain⟨F4,hG,kG⟩:=KF.gvs hK2
 obtain⟨a,bi,F5,hp,hc,hV,kV⟩:=hG.at hi
 refine⟨_,_,_,rfl,_,rfl,_,_,_,(KF.blk hK2).cell2 rfl,⟨by omega,(show((i:Nat):Int)<(k.n:Int) by omega)⟩,a,hp,_,hc,⟨(ffeed_ok hV n1 n2).mono ?_⟩⟩
 rintro e w3 ⟨⟨m1,m2,rfl⟩,hT3⟩
 replace hS:=kK2 _ _ (kG _ (kV _ hT3))
 have hL3:=lb_blk hS
 refine⟨_,_,rfl,_,hL3.cell rfl,fun g=>?_,fun g=>?_⟩
 ·intro w4 q1 q2' q3 q4
  replace hS:=hS.upd (Upd.same no q1 q2' q3 q4)
  have hL4:=lb_blk hS
  obtain⟨q5,F6,_,hK5,kK5⟩:=KS.fix hS
  have hB5:=KF.blk hK5
  refine⟨_,rfl,_,hB5.cell2 rfl,_,hL4.cell rfl,_,hL4.cell rfl,⟨(itab_ok w4).mono ?_⟩⟩
  rintro e w5 ⟨⟨pt,rfl,hW⟩,hU5⟩
  have hL5:=hL4.upd hU5 (fun h=>h)
  have hB6:=hB5.upd hU5 (fun h=>h)
  obtain⟨F7,hM,kM⟩:=KF.me (hK5.upd hU5)
  obtain⟨wi,hwi,ewi⟩:∃wi:Nat,wi<4/\x.1.way=(wi:Int):=⟨x.1.way.toNat,by omega,by omega⟩
  have hcell:=way_at hW hwi (j:=2) (by omega)
  refine⟨_,_,_,rfl,hL5.cell rfl,hL5.cell rfl,hB6.cell2 rfl,⟨hx.1,(show x.1.way<((4:Nat):Int) by omega)⟩,pt,rfl,_,by rw[ewi,Int.toNat_natCast];exact hcell,⟨(mrest_ok hM hi _ t _).mono ?_⟩⟩
  rintro e w6 ⟨⟨mm,rfl⟩,hT6⟩
  exact⟨_,rfl,rfl,(kK5 _ _ (kM _ hT6)).drop⟩
 ·obtain⟨q5,F6,_,hK5,kK5⟩:=KS.fix hS
  obtain⟨F7,hM,kM⟩:=KF.me hK5
  refine⟨_,rfl,_,(KF.blk hK5).cell2 rfl,⟨(mwork_ok hM hi t m1).mono ?_⟩⟩
  rintro e w6 ⟨⟨mm,rfl⟩,hT6⟩
  exact⟨_,rfl,rfl,(kK5 _ _ (kM _ hT6)).drop⟩
theorem ktick_ok (h:Turn (KO b) W w F k) (n:Int):Calls Tryz.prog 63 #[.pointer (some ⟨b,0,none⟩),.int .i64 n] w fun e w'=>e=.returned (.int .i64 (tickE k n))/\Turn (KO b) W w' F (tickK k n):=by
 obtain⟨q,hq⟩:=KO.fix h
 have hB:=KF.blk hq
 refine u63 ?_
 rw[t63]
 unfold tickE tickK
 refine⟨_,rfl,_,hB.cell rfl,⟨(later_ok k.now n w).mono ?_⟩⟩
 rintro e w1 ⟨rfl,rfl⟩
 refine⟨_,_,rfl,fun g=>?_,fun g=>?_⟩
 ·have g:(laterE k.now n).2≠0:=by simpa using g
  rw[if_neg g,if_neg g]
  exact⟨rfl,h⟩
 ·have g:(laterE k.now n).2=0:=by simpa using g
  rw[if_pos g,if_pos g]
  refine⟨_,rfl,_,hB.cell rfl,⟨WP_loop okProg (M:=M63) (σ:=Nat) (fun i=>e63_1 (some ⟨b,0,none⟩) n (laterE k.now n).1 (k.n:Int) (i:Int)) (fun i w'=>i<=k.n/\Turn (KO b) W w' F k) (fun i _=>k.n-i) 0 ⟨rfl,rfl,rfl,rfl,rfl,trivial⟩ ⟨Nat.zero_le _,h⟩ ?_⟩⟩
  rintro i w2 ⟨hi,hT⟩
  obtain⟨q2,hq2⟩:=KO.fix hT
  have hB2:=KF.blk hq2
  rw[t63_1]
  refine⟨fun g1=>?_,fun g1=>CutD.mk ?_⟩
  ·have g1:=of_decide_eq_true g1
   have hi':i<k.n:=by omega
   obtain⟨F2,hA,kA⟩:=KF.co hq2
   have hway:=hA.way (i:Int)
   have hn64:=(KF.num hq2).2
   refine⟨_,rfl,_,hB2.cell2 rfl,⟨(cget_ok hA (i:Int)).mono ?_⟩⟩
   rintro e w3 ⟨⟨n1,n2,rfl⟩,hU3⟩
   refine⟨_,_,_,_,_,_,_,rfl,⟨fun w4 hN=>?_⟩⟩
   have hS:Turn (Star (KO b) (Lb w3.heap.size 226)) W w4 F (k,_):=(hT.upd hU3).add (hN.upd no) (Rw.new hN rfl) (fun i hi=>Nat.le_of_eq hi.symm)
   generalize w3.heap.size=p at hS⊢
   refine lb_wr (vs:=coE (gtO k.co (i:Int),n1,n2)) hS (by rfl) fun w5 hS=>?_
   have hL:=lb_blk hS
   refine⟨_,hL.cell rfl,fun g2=>⟨_,hL.cell rfl,_,hL.cell rfl,_,hL.cell rfl,_,hL.cell rfl,_,hL.cell rfl,_,hL.cell rfl,⟨(kmeet_ok hS.drop hi' (gtO k.co (i:Int),n1,n2) hway n).mono ?_⟩⟩,fun _=>⟨i+1,⟨rfl,rfl,rfl,rfl,by rw[w64 (by omega)];rfl,trivial⟩,⟨by omega,hS.drop⟩,by omega⟩⟩
   rintro e w6 ⟨rfl,hT6⟩
   exact⟨rfl,i+1,⟨rfl,rfl,rfl,rfl,by rw[w64 (by omega)];rfl,trivial⟩,⟨by omega,hT6⟩,by omega⟩
  ·rw[t63_0]
   refine⟨_,rfl,hB2.wr (k:=18) (by simp[kCells]) fun w3 hW=>?_⟩
   have h3:=KF.row hq2 (k.n,k.on,k.ac,(laterE k.now n).1,k.lim) rfl hW
   obtain⟨F3,hA3,kA3⟩:=KF.tm h3
   refine⟨_,rfl,_,(KF.blk h3).cell2 rfl,⟨(tgo_ok hA3 _).mono ?_⟩⟩
   rintro e w4 ⟨rfl,hT4⟩
   exact⟨_,rfl,rfl,KF.loose (kA3 _ _ hT4)⟩
theorem kspeed_ok (h:Turn (KO b) W w F k) (lo hi:Int):Calls Tryz.prog 167 #[.pointer (some ⟨b,0,none⟩),.int .i64 lo,.int .i64 hi] w fun e w'=>e=.returned (.int .i64 (speedE lo hi))/\Turn (KO b) W w' F k:=by
 obtain⟨q,hq⟩:=KO.fix h
 have hB:=KF.blk hq
 have hnum:=KF.num hq
 refine u167 ?_
 rw[t167]
 refine⟨_,rfl,q.gp,k.n,q.gc,hB.cell2 rfl,⟨WP_loop okProg (M:=M167) (σ:=Nat) (fun i=>e167_1 lo hi (if i=0 then 0 else speedE lo hi) q.gp k.n q.gc (k.n:Int) (i:Int)) (fun i w'=>i<=k.n/\Turn (KF b q) W w' F k) (fun i _=>k.n-i) 0 ⟨rfl,rfl,rfl,rfl,rfl,rfl,trivial⟩ ⟨Nat.zero_le _,hq⟩ ?_⟩⟩
 rintro i w1 ⟨hi',hT⟩
 rw[t167_1]
 refine⟨fun g=>?_,fun g=>?_⟩
 ·have g:=of_decide_eq_true g
  have hlt:i<k.n:=by omega
  obtain⟨F1,hG,kG⟩:=KF.gvs hT
  obtain⟨a,bi,F5,hp,hc,hV,kV⟩:=hG.at hlt
  refine⟨⟨by omega,by omega⟩,a,hp,_,hc,⟨(fset_ok hV lo hi).mono ?_⟩⟩
  rintro e w2 ⟨rfl,hT2⟩
  exact⟨_,rfl,i+1,⟨rfl,rfl,by rw[if_neg (Nat.succ_ne_zero i)];rfl,rfl,rfl,by rw[w64 (by omega)];rfl,trivial⟩,⟨by omega,kG _ (kV _ hT2)⟩,by omega⟩
 ·have g:=of_decide_eq_false g
  rw[if_neg (by omega)]
  exact⟨rfl,KF.loose hT⟩
end
end Go.Dav
namespace Go.Dav
abbrev Rd (l:Nat):Fence:=Fence.wide.inRound l
theorem callsRd {l n:Nat} {P:Program} {f:FuncId} {args:Array Value} {w:World} {R:Ending->World->Prop} (h:Calls P f args w R):CallsIn (Rd l) n P f args w R:=(callsIn_wide (n:=n)).2 h
def noDf (o:Oper):Bool:=match o.op with
 | .defer _=>false
 | _=>true
theorem noDf_ne {o:Oper} (h:noDf o=true):∀c,o.op≠.defer c:=by
 intro c e
 unfold noDf at h
 rw[e]at h
 cases h
theorem rowsRd {l n:Nat} {P:Program} {row:String} {args:Array Value} {w:World} {R:Value->World->Prop} (h:Rows P row args w R):RowsIn (Rd l) n P row args w R:=fun c cs _=>
 let ⟨v,w',r,s⟩:=h c cs
 ⟨v,w',r,stepsIn_wide.2 s⟩
section
variable {l n:Nat} {P:Program}
theorem opIn {o:Oper} {a:Act} {w:World} {next next':Act->World->Prop} {Q:Exit->Act->World->Prop} (hd:noDf o=true) (hn:∀a w,next a w->next' a w) (h:o.wp P a w next Q):o.wpIn (Rd l) n P a w next' Q:=by
 refine⟨fun _ _=>trivial,?_⟩
 rw[Oper.semAt_plain (Rd l) _ _ (noDf_ne hd)]
 unfold Oper.wp at h
 generalize (execOp a.eval o).run P w=r at h
 cases r with
 | ok x w'=>
  cases x<;>simp only[Oper.upon,Oper.uponIn]at h⊢<;>
   first
    | exact hn _ _ h
    | exact⟨fun hh=>absurd (show false=true from hh) (by decide),callsRd (Calls.mono h fun e w'' he=>by cases e<;>first|exact hn _ _ he|exact he)⟩
    | exact⟨fun hh=>absurd (show false=true from hh) (by decide),rowsRd (Rows.mono h fun v w'' he=>hn _ _ he)⟩
    | exact h.elim
 | halt x w'=>cases x<;>simp only[Oper.upon,Oper.uponIn]at h⊢<;>exact h
theorem listIn {ops:Array Oper} {Q:Exit->Act->World->Prop} (hQ:¬LetsOut Q):∀(os:List Oper) (a:Act) (w:World),os.all noDf=true->wpList P ops Q os a w->wpListIn (Rd l) n P ops Q os a w
 | [],a,w,_,h=>h
 | o::os,a,w,hd,h=>by
  simp only[List.all_cons,Bool.and_eq_true]at hd
  unfold wpList at h
  unfold wpListIn
  split
  ·rename_i hw
   rw[if_pos hw]at h
   rcases h with h|h
   ·exact opIn hd.1 (fun a w k=>listIn hQ os a w hd.2 k) h
   ·exact absurd h.2 hQ
  ·rename_i hw
   rw[if_neg hw]at h
   exact⟨fun _ _=>trivial,listIn hQ os _ _ hd.2 h⟩
theorem anyIn {ops:Array Oper} {Q:Exit->Act->World->Prop} {md:Region.Mode} (hQ:¬LetsOut Q) (hd:ops.toList.all noDf=true):∀(fuel:Nat) (b:Array Bool) (a:Act) (w:World),wpAny P md ops Q fuel b a w->wpAnyIn (Rd l) n P md ops Q fuel b a w
 | 0,b,a,w,h=>h
 | fuel+1,b,a,w,h=>by
  refine⟨h.1,fun i hi=>?_⟩
  have hk:=h.2 i hi
  unfold wpOp at hk
  unfold wpOpIn
  split
  ·rename_i ho
   rw[ho]at hk
   exact anyIn hQ hd fuel _ _ _ hk
  ·rename_i o ho
   rw[ho]at hk
   simp only at hk
   have hdo:noDf o=true:=List.all_eq_true.1 hd o (by
    rw[<-Array.getElem?_toList]at ho
    exact List.mem_of_getElem? ho)
   split
   ·rename_i hw
    rw[if_pos hw]at hk
    rcases hk with hk|hk
    ·exact opIn hdo (fun a w k=>anyIn hQ hd fuel _ a w k) hk
    ·exact absurd hk.2 hQ
   ·rename_i hw
    rw[if_neg hw]at hk
    exact⟨fun _ _=>trivial,anyIn hQ hd fuel _ _ _ hk⟩
end
theorem lets_lift {N:Nat} {K:Cont}:¬LetsOut (liftK N K):=fun⟨_,_,h⟩=>h
def strC:Mt->Code->Bool
 | _,.skip=>true
 | M,.region id ops draw=>ops.toList.all noDf&&(!draw||(lookT M.alts id).isNone)&&!M.ex
 | M,.seq a b=>strC M a&&strC M b
 | M,.cond _ a b=>strC M a&&strC M b
 | M,.block _ c=>strC M c
 | _,.exit _=>true
 | _,.ret=>true
 | _,_=>false
theorem denRd {P:Program} {M:Mt} (hP:okP P=true) {l n:Nat}:∀(c:Code) (E:Env) (w:World) (K:Cont),strC M c=true->den P M c E w K->∀a,Agree M.N E a->c.wpIn (Rd l) n P (liftK M.N K) a w
 | .skip,E,w,K,_,h,a,ha=>wpIn_skip ⟨E,ha,h⟩
 | .region id ops draw,E,w,K,hs,h,a,ha=>by
  simp only[strC,Bool.and_eq_true]at hs
  obtain⟨⟨hd,ht⟩,hx⟩:=hs
  cases draw with
  | false=>
   exact wpIn_region_list (listIn lets_lift _ _ _ hd (seqR_sound hP rfl (K:=fun E' w'=>K .nrm (E'.keep (lookL M.keep id)) w') (fun E' a' w' ha' hk=>⟨_,ha'.keep _,hk⟩) _ _ _ _ ha h))
  | true=>
   have hm:P.follows .mixedOrders=true:=by
    simp only[okP,Bool.and_eq_true]at hP
    exact hP.2
   simp only[den]at h
   have ht':lookT M.alts id=none:=by
    cases hh:lookT M.alts id with
    | none=>rfl
    | some t=>rw[hh]at ht;cases ht
   have hx':M.ex=false:=by simpa using hx
   rw[ht',hx']at h
   exact wpIn_region_any hm (anyIn lets_lift hd _ _ _ _ (drawTQ_any hP rfl (K:=fun E' w'=>K .nrm (E'.keep (lookL M.keep id)) w') ha (fun E' a' w' ha' hk=>⟨_,ha'.keep _,hk⟩) h))
 | .seq x y,E,w,K,hs,h,a,ha=>by
  simp only[strC,Bool.and_eq_true]at hs
  refine wpIn_seq (wpIn_mono (denRd hP x E w _ hs.1 h a ha) (fun ex a' w' hl=>?_))
  cases ex with
  | normal=>
   obtain⟨E',h1,h2⟩:=hl
   simp only[seqK,cutB]at h2
   split at h2
   ·exact denRd hP y _ w' K hs.2 h2.out a' (h1.keep _)
   ·exact denRd hP y E' w' K hs.2 h2 a' h1
  | exit n=>exact hl
  | ret=>exact hl
  | _=>exact hl.elim
 | .cond c x y,E,w,K,hs,h,a,ha=>by
  simp only[strC,Bool.and_eq_true]at hs
  obtain⟨b,hb,h⟩:=condQ_elim h
  refine wpIn_cond (ha.ev c _ hb) ?_
  have hr:Agree M.N (refE M E c b) a:=by
   unfold refE
   split
   ·exact ha
   ·split
    ·exact ha.setb _ b (by simpa [evS]using hb)
    ·exact ha
  cases b with
  | true=>exact denRd hP x _ w K hs.1 h a hr
  | false=>exact denRd hP y _ w K hs.2 h a hr
 | .block id c,E,w,K,hs,h,a,ha=>by
  refine wpIn_block (wpIn_mono (denRd hP c E w _ hs h a ha) (fun ex a' w' hl=>?_))
  cases ex with
  | normal=>obtain⟨E',h1,h2⟩:=hl;exact⟨_,h1.keep _,h2⟩
  | exit n=>
   obtain⟨E',h1,h2⟩:=hl
   simp only[Exit.inBlock]
   simp only[blockK]at h2
   by_cases hn:n=id
   ·subst hn
    rw[if_pos rfl]
    rw[Nat.beq_refl]at h2
    exact⟨_,h1.keep _,h2⟩
   ·rw[if_neg hn]
    have hb:Nat.beq n id=false:=by
     cases hb:Nat.beq n id with
     | false=>rfl
     | true=>exact absurd (Nat.eq_of_beq_eq_true hb) hn
    rw[hb]at h2
    exact⟨E',h1,h2⟩
  | ret=>exact hl
  | _=>exact hl.elim
 | .exit id,E,w,K,_,h,a,ha=>wpIn_exit ⟨E,ha,h⟩
 | .ret,E,w,K,_,h,a,ha=>wpIn_ret ⟨E,ha,h⟩
 | .loop c,E,w,K,hs,h,a,ha=>by cases hs
 | .rangeFunc f ps x y,E,w,K,hs,h,a,ha=>by cases hs
 | .scope c,E,w,K,hs,h,a,ha=>by cases hs
 | .label l,E,w,K,hs,h,a,ha=>by cases hs
 | .goto l,E,w,K,hs,h,a,ha=>by cases hs
 | .refuse s,E,w,K,hs,h,a,ha=>by cases hs
def StaysFrom (B:Nat) (W W':World):Prop:=W.heap.size<=W'.heap.size/\∀i,B<=i->i<W.heap.size->W'.heap[i]?=W.heap[i]?
theorem wp_range {P:Program} {M:Mt} (hP:okP P=true) {g:Operand} {p1 p2:Tmp} {assign body:Code} {Q:Exit->Act->World->Prop} {E:Env} {a:Act} (ha:Agree M.N E a) {w:World} {gf:Nat} {lb:Array Value} {m:Nat}
  (hg:a.eval g=.func (.func gf) #[] lb) (eg:∀args w,(callFunc gf args).run P w=.ok (.enter gf args) w) {α:Type} (enc:α->Value×Value) (I Ix:List α->World->Prop) (Sx:List α->α->Prop) (Fin:List α->Prop) (E1:α->Env)
  (hp1:p1<M.N) (hp2:p2<M.N) (hsA:strC M assign=true) (hsB:strC M body=true)
  (hA:∀x W,den P M assign ((E.put p1 (.v (enc x).1)).put p2 (.v (enc x).2)) W (fun ex E' W'=>match ex with|.nrm=>W'=W/\E'=E1 x|_=>False))
  (hB:∀pre x W,I pre W->Sx pre x->w.heap.size+2<=W.heap.size->den P M body (E1 x) W (fun ex E' W'=>match ex with|.nrm=>I (pre++[x]) W'/\StaysFrom w.heap.size W W'|.ret=>Ix (pre++[x]) W'/\StaysFrom w.heap.size W W'|.exit _=>False))
  (hI:∀pre W o,I pre W->I pre (W.putObj (w.heap.size+1) o)) (hIx:∀pre W o,Ix pre W->Ix pre (W.putObj (w.heap.size+1) o))
  (hI0:∀r,I [] ((w.alloc (.deferred (some []))).alloc (.loop r)))
  (hseq:∀(J Jx:List α->World->Prop) (W:World),(∀pre W,J pre W->I pre W)->(∀pre x W1,J pre W1->Sx pre x->YieldAt Fence.wide m P (w.heap.size+1) #[(enc x).1,(enc x).2] W1 fun e W'=>(e=.returned (.bool true)/\J (pre++[x]) W')∨(e=.returned (.bool false)/\Jx (pre++[x]) W'))->J [] W->
   CallsIn Fence.wide (m+1) P gf (#[.func (.yield (w.heap.size+1)) #[] #[]]++lb) W fun e W'=>(∃v,e=.returned v)/\((∃xs,Fin xs/\J xs W')∨∃pre,Jx pre W'))
  (hdone:∀xs W,Fin xs->I xs W->W.heap[w.heap.size]?=some (.deferred (some []))->Q .normal {a with defers:=[{target:=.collected w.heap.size,args:=#[]}]} W)
  (hstop:∀pre W,Ix pre W->W.heap[w.heap.size]?=some (.deferred (some []))->Q .ret {a with defers:=[{target:=.collected w.heap.size,args:=#[]}]} W) :
  (Code.rangeFunc g #[p1,p2] assign body).wpIn Fence.wide (m+2) P Q a w:=by
 refine wpIn_rangeFunc fun fn hfn=>?_
 obtain⟨rec,hrec⟩:∃rec:LoopState->Option Code->Loop,rec=fun st pe=>{state:=st,pending:=pe,fn,tmps:=a.tmps,params:=#[p1,p2],assign,body,defers:=w.heap.size}:=⟨_,rfl⟩
 obtain⟨W1,hW1⟩:∃W1,(w.alloc (.deferred (some []))).alloc (.loop (rec .ready none))=W1:=⟨_,rfl⟩
 have hL1:W1.heap[w.heap.size+1]?=some (.loop (rec .ready none)):=by
  rw[<-hW1];have:=World.alloc_heap_new (w.alloc (.deferred (some []))) (.loop (rec .ready none));rwa [World.size_alloc]at this
 have hK1:W1.heap[w.heap.size]?=some (.deferred (some [])):=by
  rw[<-hW1]
  have h2:=World.alloc_heap_new w (.deferred (some []))
  have h3:w.heap.size<(w.alloc (.deferred (some []))).heap.size:=by rw[World.size_alloc];omega
  rw[<-h2]
  simp only[World.alloc,Array.getElem?_push]
  rw[if_neg]
  simp only[World.alloc,Array.size_push]at h3⊢
  omega
 have hI1:I [] W1:=by rw[<-hW1];exact hI0 _
 refine⟨w.heap.size+1,[{target:=.collected w.heap.size,args:=#[]}],W1,{target:=.fn (.func gf) lb,args:=#[.func (.yield (w.heap.size+1)) #[] #[]]},W1,gf,#[.func (.yield (w.heap.size+1)) #[] #[]]++lb,W1,?_,?_,?_,?_,fun hh=>absurd (show false=true from hh) (by decide),?_⟩
 ·rw[<-hW1,hrec];exact run_enterLoop_outer _ _ _ _ _
 ·simp only[resolve,hg]
  simp[go_sem]
 ·intro f' hf';exact trivial
 ·simp[invoke,go_sem,eg]
 ·refine CallsIn.mono (hseq (fun pre W=>I pre W/\W.heap[w.heap.size+1]?=some (.loop (rec .ready none))/\W.heap[w.heap.size]?=some (.deferred (some [])))
   (fun pre W=>Ix pre W/\W.heap[w.heap.size+1]?=some (.loop (rec .done (some .ret)))/\W.heap[w.heap.size]?=some (.deferred (some []))) W1 (fun _ _ h=>h.1) ?_ ⟨hI1,hL1,hK1⟩) ?_
  ·rintro pre x W ⟨hi,hl,hk⟩ hx
   have hlt:w.heap.size+1<W.heap.size:=(Array.getElem?_eq_some_iff.1 hl).1
   have hy:=run_yield (P:=P) (args:=#[(enc x).1,(enc x).2]) hl (by rw[hrec];rfl)
   refine⟨_,_,_,_,hy,?_⟩
   rw[hrec]at hl⊢
   refine roundIn_of_wpIn hfn ?_
   have ha1:Agree M.N ((E.put p1 (.v (enc x).1)).put p2 (.v (enc x).2)) {tmps:=((#[p1,p2].zip #[(enc x).1,(enc x).2]).foldl (fun t (p:Nat×Value)=>t.setIfInBounds p.1 p.2) a.tmps),defers:=[]}:=by
    have h1:=(ha.put p1 hp1 (.v (enc x).1)).put p2 hp2 (.v (enc x).2)
    have h2:=h1.nod
    have e:((a.put (some p1) (enc x).1).put (some p2) (enc x).2)={tmps:=((#[p1,p2].zip #[(enc x).1,(enc x).2]).foldl (fun t (p:Nat×Value)=>t.setIfInBounds p.1 p.2) a.tmps),defers:=[]}:=by
     have:=ha.nod
     simp[Act.put,this]
    rw[<-e]
    exact h1
   refine wpIn_mono (denRd hP assign _ W _ hsA (hA x W) _ ha1) ?_
   rintro ex a1 w1 hl1
   cases ex with
   | normal=>
    obtain⟨E',ha2,rfl,rfl⟩:=hl1
    have hb:=run_beginRound (P:=P) hl rfl
    refine⟨_,hb,?_⟩
    have hl2:(w1.putObj (w.heap.size+1) (.loop {rec .ready none with state:=.busy})).heap[w.heap.size+1]?=some (.loop {rec .ready none with state:=.busy}):=World.putObj_heap_same hlt
    have hk2:(w1.putObj (w.heap.size+1) (.loop {rec .ready none with state:=.busy})).heap[w.heap.size]?=some (.deferred (some [])):=(World.putObj_heap_other (by omega)).trans hk
    rw[hrec]at hl2 hk2
    have hsz:(w1.putObj (w.heap.size+1) (.loop {rec .ready none with state:=.busy})).heap.size=w1.heap.size:=by simp[World.putObj]
    rw[hrec]at hsz
    refine wpIn_mono (denRd hP body _ _ _ hsB (hB pre x _ (hI _ _ _ hi) hx (by rw[hsz];omega)) _ ha2) ?_
    have fin:∀(jump:Option Code) (W3:World),StaysFrom w.heap.size (w1.putObj (w.heap.size+1) (.loop {rec .ready none with state:=.busy})) W3->
      (Instr.endRound (w.heap.size+1) jump).run P W3=.ok (.bool jump.isNone) (W3.putObj (w.heap.size+1) (.loop (rec (if jump.isNone then .ready else .done) jump)))/\
      (W3.putObj (w.heap.size+1) (.loop (rec (if jump.isNone then .ready else .done) jump))).heap[w.heap.size+1]?=some (.loop (rec (if jump.isNone then .ready else .done) jump))/\
      (W3.putObj (w.heap.size+1) (.loop (rec (if jump.isNone then .ready else .done) jump))).heap[w.heap.size]?=some (.deferred (some [])):=fun jump W3 hs3=>by
     rw[hrec]at hs3⊢
     have hl3:=(hs3.2 (w.heap.size+1) (by omega) (by rw[hsz];omega)).trans hl2
     have hk3:=(hs3.2 w.heap.size (Nat.le_refl _) (by rw[hsz];omega)).trans hk2
     have:=run_endRound (P:=P) jump hl3
     exact⟨this,World.putObj_heap_same (Array.getElem?_eq_some_iff.1 hl3).1,(World.putObj_heap_other (by omega)).trans hk3⟩
    rintro ex a3 W3 hl3
    cases ex with
    | normal=>
     obtain⟨_,_,hi3,hs3⟩:=hl3
     obtain⟨e1,e2,e3⟩:=fin none W3 (by rw[hrec];exact hs3)
     exact⟨_,_,e1,.inl ⟨rfl,hI _ _ _ hi3,by rw[e2,hrec];rfl,e3⟩⟩
    | ret=>
     obtain⟨_,_,hi3,hs3⟩:=hl3
     obtain⟨e1,e2,e3⟩:=fin (some .ret) W3 (by rw[hrec];exact hs3)
     exact⟨_,_,e1,.inr ⟨rfl,hIx _ _ _ hi3,by rw[e2,hrec];rfl,e3⟩⟩
    | exit n=>obtain⟨_,_,hf⟩:=hl3;exact hf.elim
    | _=>exact hl3.elim
   | exit n=>obtain⟨_,_,hf⟩:=hl1;exact hf.elim
   | ret=>obtain⟨_,_,hf⟩:=hl1;exact hf.elim
   | _=>exact hl1.elim
  ·have hnod:=ha.nod
   rintro e W2 ⟨⟨v,rfl⟩,(⟨xs,hS,hi,hl,hk⟩|⟨pre,hi,hl,hk⟩)⟩
   ·refine⟨none,_,by have:=run_endLoop (P:=P) hl (by rw[hrec];simp);rw[hrec]at this;exact this,?_⟩
    have:=hdone xs _ hS (hI _ _ (.loop {rec .ready none with state:=.exhausted}) hi) ((World.putObj_heap_other (by omega)).trans hk)
    rw[hrec]at this
    simpa [hnod]using this
   ·refine⟨some .ret,_,by have:=run_endLoop (P:=P) hl (by rw[hrec];simp);rw[hrec]at this;exact this,?_⟩
    refine wpIn_ret ?_
    have:=hstop pre _ (hIx _ _ (.loop {rec .done (some .ret)with state:=.exhausted}) hi) ((World.putObj_heap_other (by omega)).trans hk)
    rw[hrec]at this
    simpa [hnod]using this
theorem seqR_dfr {P:Program} {N:Nat} {ops:Array Oper} {l:List Oper} {d:List Deferred} (hP:okP P=true) (hl:ops.toList=l) {Q:Exit->Act->World->Prop} {K:Env->World->Prop}
  (hQ:∀E a w,Agree N E a->K E w->Q .normal {a with defers:=d} w):∀(os:List Oper) (E:Env) (a:Act) (w:World),Agree N E a->seqR P N l os E w K->wpList P ops Q os {a with defers:=d} w
 | [],E,a,w,ha,h=>hQ E a w ha h
 | o::os,E,a,w,ha,h=>by
  obtain⟨E',hs,h⟩:=guardQ_elim hl h
  have ha':=ha.same hs
  have hput:∀(dst:Option Tmp) (v:Value),({a with defers:=d}:Act).put dst v={a.put dst v with defers:=d}:=fun dst v=>by cases dst<;>rfl
  unfold wpList
  rcases h with⟨h,hw⟩|⟨h,hw⟩
  ·have hw:=hw a (ha.greads l o)
   unfold wantedAt at hw
   rw[if_pos hw]
   refine .inl (opA_sound hP h {a with defers:=d} (ha'.reads o) _ Q (fun s w' hp=>?_))
   obtain⟨E2,ha2,hp⟩:=putQ_elim hp ha'
   rw[hput]
   exact seqR_dfr hP hl hQ os E2 _ w' ha2 hp
  ·have hw:=hw a (ha.greads l o)
   unfold wantedAt at hw
   rw[if_neg (by rw[hw];simp)]
   obtain⟨E2,ha2,hp⟩:=putQ_elim h ha'
   rw[hput]
   exact seqR_dfr hP hl hQ os E2 _ w ha2 hp
theorem agree_args {N:Nat} {fn:Func} (hN:fn.ntmps=N) {args:List Value} (hA:args.length<=N):Agree N (argE 0 args) {tmps:=args.toArray++Array.replicate (fn.ntmps-args.toArray.size) undef,defers:=[]}:=by
 refine⟨by simp[hN];omega,rfl,fun t x hx=>?_⟩
 obtain⟨_,h2⟩:=argE_get args 0 t x hx
 simp only[Nat.sub_zero]at h2
 have hlt:t<args.length:=(List.getElem?_eq_some_iff.1 h2).1
 rw[Array.getElem?_append_left (by simpa using hlt)]
 simpa using h2
theorem Upd.putO (W:World) (l:Nat) (o:Obj):Upd (fun i=>i=l) W (W.putObj l o):=
 ⟨by simp[World.putObj],rfl,rfl,rfl,fun i hi hn=>World.putObj_heap_other (fun e=>hn e)⟩
end Go.Dav
namespace Go.Dav
open Go.Proofs
def preK (Z:Env->World->Prop) (K:Cont):Cont:=fun ex E w=>match ex with
 | .nrm=>Z E w
 | .ret=>K .ret E w
 | .exit n=>K (.exit n) E w
noncomputable def balR:Code:=c168.sr.sr.sr.sr.sl.sl
noncomputable def balA:Code:=match c168_1 with|.rangeFunc _ _ a _=>a|c=>c
noncomputable def balB:Code:=match c168_1 with|.rangeFunc _ _ _ b=>b|c=>c
noncomputable def balT:Code:=c168_0
noncomputable def balO:List Oper:=match balT with|.seq (.region _ ops _) _=>ops.toList|_=>[]
noncomputable def balPre:Code:=.seq c168.sl (.seq c168.sr.sl (.seq c168.sr.sr.sl (.seq c168.sr.sr.sr.sl balR)))
def balM:Mt:={M168 with keep:=M168.keep.map fun x=>if x.1=6 then(6,[1,2,5,8])else x}
theorem bal_code:c168=.seq c168.sl (.seq c168.sr.sl (.seq c168.sr.sr.sl (.seq c168.sr.sr.sr.sl (.seq (.seq balR (.block 0 (.rangeFunc (.tmp 60) #[61,62] balA balB))) balT)))):=by kernel_rfl
theorem bal_T:balT=.seq (.region 13 balO.toArray false) .ret:=by kernel_rfl
theorem bal_str:strC balM balA=true/\strC balM balB=true:=⟨by kernel_rfl,by kernel_rfl⟩
theorem tbp (p0_k:Option Addr) (w:World) (Z:Env->World->Prop) (R:Ending->World->Prop):den Tryz.prog M168 balPre (argE 0 [(Value.pointer p0_k)]) w (preK Z (retK Tryz.prog Tryz.f168.results.toList R)) =
(New w [Value.pointer p0_k] 23 fun p w'=>New w' [Value.int IntKind.i64 0] 3 fun p_1 w'=>∀(w'_1:World),World.heap w'_1=World.heap w'->World.os w'_1=World.os w'->World.tape w'_1=World.tape w'->World.output w'_1=World.output w'->∃p_2,World.cell? w'_1 p=some (Value.pointer p_2)/\∃a,p_2=some a/\∃p_3,World.cell? w'_1 (Addr.add (Addr.add a 0) 1)=some (Value.pointer p_3)/\∃p_4,World.cell? w'_1 p=some (Value.pointer p_4)/\∃a,p_4=some a/\∃n,World.cell? w'_1 (Addr.add a 17)=some (Value.int IntKind.u64 n)/\Call Tryz.prog 267 [Value.pointer p_3,Value.int IntKind.u64 n] w'_1 fun e w'=>∃n n_1,e=Ending.returned (Value.tuple #[Value.int IntKind.i64 n,Value.int IntKind.i64 n_1])/\∀(w'_2:World),World.heap w'_2=World.heap w'->World.os w'_2=World.os w'->World.tape w'_2=World.tape w'->World.output w'_2=World.output w'->∃p_5,World.cell? w'_2 p=some (Value.pointer p_5)/\∃a,p_5=some a/\∃p_6,World.cell? w'_2 (Addr.add (Addr.add a 0) 1)=some (Value.pointer p_6)/\∃p_7,World.cell? w'_2 p=some (Value.pointer p_7)/\∃a_1,p_7=some a_1/\∃n_2,World.cell? w'_2 (Addr.add a_1 17)=some (Value.int IntKind.u64 n_2)/\(Call Tryz.prog 268 [Value.pointer p_6,Value.int IntKind.u64 n_2] w'_2 fun e w'=>∃n_3 n_4,e=Ending.returned (Value.tuple #[Value.int IntKind.i64 n_3,Value.int IntKind.i64 n_4])/\New w' [Value.int IntKind.i64 (0:Int)] 3 fun p_8 w'=>World.cell? w' (Addr.add a_1 17)=some (Value.int IntKind.u64 n_2)/\World.cell? w' p=some (Value.pointer p_7)/\World.cell? w' (Addr.add (Addr.add a 0) 1)=some (Value.pointer p_6)/\World.cell? w' p=some (Value.pointer p_5)/\Wr w' p_8 [Value.int IntKind.i64 n_3] fun w'=>∀(w'_3:World),World.heap w'_3=World.heap w'->World.os w'_3=World.os w'->World.tape w'_3=World.tape w'->World.output w'_3=World.output w'->∃p_9,World.cell? w'_3 p=some (Value.pointer p_9)/\∃a,p_9=some a/\∃p_10,World.cell? w'_3 (Addr.add (Addr.add a 0) 1)=some (Value.pointer p_10)/\∃p_11,World.cell? w'_3 p=some (Value.pointer p_11)/\∃a,p_11=some a/\∃p_12,World.cell? w'_3 (Addr.add (Addr.add a 0) 1)=some (Value.pointer p_12)/\∃n_5,World.cell? w'_3 p_8=some (Value.int IntKind.i64 n_5)/\Call Tryz.prog 14 [Value.pointer p_10,Value.int IntKind.i64 n] w'_3 fun e w'=>∃n_6,e=Ending.returned (Value.int IntKind.i64 n_6)/\World.cell? w' p_8=some (Value.int IntKind.i64 n_5)/\World.cell? w' (Addr.add (Addr.add a 0) 1)=some (Value.pointer p_12)/\World.cell? w' p=some (Value.pointer p_11)/\Call Tryz.prog 14 [Value.pointer p_12,Value.int IntKind.i64 n_5] w' fun e w'=>∃n_7,e=Ending.returned (Value.int IntKind.i64 n_7)/\(decide (IntKind.wrap IntKind.i64 (n_6-n_7)<(2:Int))=true->Wr w' p_1 [Value.int IntKind.i64 (0:Int)] fun w'=>∃n,World.cell? w' p_1=some (Value.int IntKind.i64 n)/\R (Ending.returned (Value.int IntKind.i64 n)) w')/\(decide (IntKind.wrap IntKind.i64 (n_6-n_7)<(2:Int))=false->∃p_13,World.cell? w' p=some (Value.pointer p_13)/\∃a,p_13=some a/\∃p_14,World.cell? w' (Addr.add (Addr.add a 0) 1)=some (Value.pointer p_14)/\Call Tryz.prog 88 [Value.pointer p_14,Value.int IntKind.i64 n] w' fun e w'=>∃p_15 n c,e=Ending.returned (Value.slice p_15 n c)/\Call Tryz.prog 269 [Value.slice p_15 n c] w' fun e w'=>∃v,e=Ending.returned v/\Z [(1,SV.v (Value.pointer (some p))),(2,SV.v (Value.pointer (some p_1))),(5,SV.v (Value.pointer (some p_8))),(8,SV.un),(60,SV.v v),(62,SV.un)] w'))/\New w'_2 [Value.int IntKind.i64 0] 3 fun p_8 w'=>World.cell? w' (Addr.add a_1 17)=some (Value.int IntKind.u64 n_2)/\World.cell? w' p=some (Value.pointer p_7)/\World.cell? w' (Addr.add (Addr.add a 0) 1)=some (Value.pointer p_6)/\World.cell? w' p=some (Value.pointer p_5)/\Call Tryz.prog 268 [Value.pointer p_6,Value.int IntKind.u64 n_2] w' fun e w'=>∃n_3 n_4,e=Ending.returned (Value.tuple #[Value.int IntKind.i64 n_3,Value.int IntKind.i64 n_4])/\Wr w' p_8 [Value.int IntKind.i64 n_3] fun w'=>∀(w'_3:World),World.heap w'_3=World.heap w'->World.os w'_3=World.os w'->World.tape w'_3=World.tape w'->World.output w'_3=World.output w'->∃p_9,World.cell? w'_3 p=some (Value.pointer p_9)/\∃a,p_9=some a/\∃p_10,World.cell? w'_3 (Addr.add (Addr.add a 0) 1)=some (Value.pointer p_10)/\∃p_11,World.cell? w'_3 p=some (Value.pointer p_11)/\∃a,p_11=some a/\∃p_12,World.cell? w'_3 (Addr.add (Addr.add a 0) 1)=some (Value.pointer p_12)/\∃n_5,World.cell? w'_3 p_8=some (Value.int IntKind.i64 n_5)/\Call Tryz.prog 14 [Value.pointer p_10,Value.int IntKind.i64 n] w'_3 fun e w'=>∃n_6,e=Ending.returned (Value.int IntKind.i64 n_6)/\World.cell? w' p_8=some (Value.int IntKind.i64 n_5)/\World.cell? w' (Addr.add (Addr.add a 0) 1)=some (Value.pointer p_12)/\World.cell? w' p=some (Value.pointer p_11)/\Call Tryz.prog 14 [Value.pointer p_12,Value.int IntKind.i64 n_5] w' fun e w'=>∃n_7,e=Ending.returned (Value.int IntKind.i64 n_7)/\(decide (IntKind.wrap IntKind.i64 (n_6-n_7)<(2:Int))=true->Wr w' p_1 [Value.int IntKind.i64 (0:Int)] fun w'=>∃n,World.cell? w' p_1=some (Value.int IntKind.i64 n)/\R (Ending.returned (Value.int IntKind.i64 n)) w')/\(decide (IntKind.wrap IntKind.i64 (n_6-n_7)<(2:Int))=false->∃p_13,World.cell? w' p=some (Value.pointer p_13)/\∃a,p_13=some a/\∃p_14,World.cell? w' (Addr.add (Addr.add a 0) 1)=some (Value.pointer p_14)/\Call Tryz.prog 88 [Value.pointer p_14,Value.int IntKind.i64 n] w' fun e w'=>∃p_15 n c,e=Ending.returned (Value.slice p_15 n c)/\Call Tryz.prog 269 [Value.slice p_15 n c] w' fun e w'=>∃v,e=Ending.returned v/\Z [(1,SV.v (Value.pointer (some p))),(2,SV.v (Value.pointer (some p_1))),(5,SV.v (Value.pointer (some p_8))),(8,SV.un),(60,SV.v v),(62,SV.un)] w')):=by kernel_rfl
theorem tba (p1 p2 p5:Addr) (v:Value) (i x:Int) (w:World) (K:Cont):den Tryz.prog balM balA ((Env.put ([(1,SV.v (Value.pointer (some p1))),(2,SV.v (Value.pointer (some p2))),(5,SV.v (Value.pointer (some p5))),(8,SV.un),(60,SV.v v),(62,SV.un)]:Env) 61 (SV.v (Value.int IntKind.i64 i))).put 62 (SV.v (Value.int IntKind.i64 x))) w K =
(K Ex.nrm [(1,SV.v (Value.pointer (some p1))),(2,SV.v (Value.pointer (some p2))),(5,SV.v (Value.pointer (some p5))),(8,SV.v (Value.int IntKind.i64 x))] w):=by kernel_rfl
theorem tbr (p2:Addr) (w:World) (R:Ending->World->Prop):retK Tryz.prog Tryz.f168.results.toList R Ex.ret [(2,SV.v (Value.pointer (some p2)))] w =
(∃n,World.cell? w p2=some (Value.int IntKind.i64 n)/\R (Ending.returned (Value.int IntKind.i64 n)) w):=by kernel_rfl
theorem tbt (p2:Addr) (w:World) (K:Env->World->Prop):seqR Tryz.prog M168.N balO balO [(2,SV.v (Value.pointer (some p2)))] w K =
(Wr w p2 [Value.int IntKind.i64 0] fun w'=>K [(2,SV.v (Value.pointer (some p2)))] w'):=by kernel_rfl
theorem tbb (p1 p2 p5:Addr) (x:Int) (w:World) (K:Cont):den Tryz.prog balM balB [(1,SV.v (Value.pointer (some p1))),(2,SV.v (Value.pointer (some p2))),(5,SV.v (Value.pointer (some p5))),(8,SV.v (Value.int IntKind.i64 x))] w K =
(∃p,World.cell? w p1=some (Value.pointer p)/\∃a,p=some a/\∃p,World.cell? w (Addr.add (Addr.add a 0) 0)=some (Value.pointer p)/\Call Tryz.prog 127 [Value.pointer p,Value.int IntKind.i64 x] w fun e w'=>∃n n_1 n_2 b b_1 n_3 n_4,e=Ending.returned (Value.tuple #[Value.agg #[Value.int IntKind.i64 n,Value.int IntKind.u64 n_1,Value.int IntKind.i64 n_2,Value.bool b,Value.bool b_1,Value.int IntKind.i64 n_3],Value.int IntKind.i64 n_4])/\New w' [Value.int IntKind.i64 0,Value.int IntKind.u64 0,Value.int IntKind.i64 0,Value.bool false,Value.bool false,Value.int IntKind.i64 0] 250 fun p w'=>Wr w' p [Value.int IntKind.i64 n,Value.int IntKind.u64 n_1,Value.int IntKind.i64 n_2,Value.bool b,Value.bool b_1,Value.int IntKind.i64 n_3] fun w'=>∃n,World.cell? w' (Addr.add p 1)=some (Value.int IntKind.u64 n)/\∃n_5,World.cell? w' p5=some (Value.int IntKind.i64 n_5)/\Call Tryz.prog 23 [Value.int IntKind.u64 n,Value.int IntKind.i64 n_5] w' fun e w'=>∃b,e=Ending.returned (Value.bool b)/\((!b)=true->K Ex.nrm [] w')/\((!b)=false->∃p_1,World.cell? w' p1=some (Value.pointer p_1)/\∃a,p_1=some a/\∃p_2,World.cell? w' (Addr.add (Addr.add a 0) 1)=some (Value.pointer p_2)/\Call Tryz.prog 237 [Value.pointer p_2,Value.int IntKind.i64 x] w' fun e w'=>∃n,e=Ending.returned (Value.int IntKind.i64 n)/\∀(w'_1:World),World.heap w'_1=World.heap w'->World.os w'_1=World.os w'->World.tape w'_1=World.tape w'->World.output w'_1=World.output w'->∃p_3,World.cell? w'_1 p1=some (Value.pointer p_3)/\∃a,p_3=some a/\∃p_4,World.cell? w'_1 (Addr.add (Addr.add a 0) 0)=some (Value.pointer p_4)/\∃n,World.cell? w'_1 p5=some (Value.int IntKind.i64 n)/\Call Tryz.prog 234 [Value.pointer p_4,Value.int IntKind.i64 x,Value.int IntKind.i64 n,Value.bool false] w'_1 fun e w'=>∃n,e=Ending.returned (Value.int IntKind.i64 n)/\∀(w'_2:World),World.heap w'_2=World.heap w'->World.os w'_2=World.os w'->World.tape w'_2=World.tape w'->World.output w'_2=World.output w'->∃p_5,World.cell? w'_2 p1=some (Value.pointer p_5)/\∃a,p_5=some a/\∃p_6,World.cell? w'_2 (Addr.add (Addr.add a 0) 1)=some (Value.pointer p_6)/\∃n,World.cell? w'_2 p5=some (Value.int IntKind.i64 n)/\∃n_6,World.cell? w'_2 (Addr.add p 0)=some (Value.int IntKind.i64 n_6)/\Call Tryz.prog 235 [Value.pointer p_6,Value.int IntKind.i64 n,Value.int IntKind.i64 n_6,Value.int IntKind.i64 x] w'_2 fun e w'=>∃n,e=Ending.returned (Value.int IntKind.i64 n)/\Wr w' p2 [Value.int IntKind.i64 x] fun w'=>K Ex.ret [(2,SV.v (Value.pointer (some p2)))] w')):=by kernel_rfl
end Go.Dav
namespace Go.Dav
inductive FK where
 | int (k:IntKind)
 | bool
def Fits:List FK->List Value->Prop
 | [],[]=>True
 | .int k::ks,.int k' n::vs=>k'=k/\(Lit.int k n).wf=true/\Fits ks vs
 | .bool::ks,.bool _::vs=>Fits ks vs
 | _,_=>False
def okFK (P:Program) (t:TypeId):FK->Bool
 | .int k=>match P.underlying t with
  | some (.int k')=>decide (k'=k)
  | _=>false
 | .bool=>match P.underlying t with
  | some .bool=>true
  | _=>false
def flatOk (P:Program):Nat->List Field->List FK->Bool
 | _,[],[]=>true
 | i,f::fs,k::ks=>decide (f.offset=i)&&decide (P.cellsOf f.type=1)&&okFK P f.type k&&flatOk P (i+1) fs ks
 | _,_,_=>false
theorem okFK_int {P:Program} {t:TypeId} {k:IntKind} (h:okFK P t (.int k)=true):P.underlying t=some (.int k):=by
 simp only[okFK]at h
 split at h
 ·rename_i k' hu
  obtain rfl:k'=k:=by simpa using h
  exact hu
 ·cases h
theorem okFK_bool {P:Program} {t:TypeId} (h:okFK P t .bool=true):P.underlying t=some .bool:=by
 simp only[okFK]at h
 split at h
 ·assumption
 ·cases h
section
variable {H:Type} {enc:TypeId×Value->H} {P:Program} {w:World} {base:Nat} {spare:Nat->Bool} {held:Bool}
theorem one_fits {e:TypeId} {k:FK} {n:Nat} {cs:List Value} {y:DataW H×List MemPlace} (hk:okFK P e k=true) (h:DataW.trod enc P w base spare held n e cs=some y):Fits [k] cs:=by
 cases k with
 | int k=>
  obtain⟨m,rfl,_,hw⟩:=DataW.trod_int (okFK_int hk) h
  exact⟨rfl,hw,trivial⟩
 | bool=>
  obtain⟨m,rfl,_⟩:=DataW.trod_bool (okFK_bool hk) h
  trivial
theorem Fits.cons {k:FK} {ks:List FK} {c:Value} {cs:List Value} (h:Fits [k] [c]) (hr:Fits ks cs):Fits (k::ks) (c::cs):=by
 cases k<;>cases c<;>simp_all [Fits]
theorem flat_fits {n:Nat}:∀{fs:List Field} {ks:List FK} {i:Nat} {cs:List Value},flatOk P i fs ks=true->
  (∀(j:Nat) (f:Field),fs[j]?=some f->∃y,DataW.trod enc P w base spare held n f.type ((cs.drop f.offset).take (P.cellsOf f.type))=some y)->cs.length=i+ks.length->Fits ks (cs.drop i)
 | [],[],i,cs,_,_,hl=>by rw[List.drop_of_length_le (by simp at hl;omega)];trivial
 | [],_::_,_,_,h,_,_=>by simp[flatOk]at h
 | _::_,[],_,_,h,_,_=>by simp[flatOk]at h
 | f::fs,k::ks,i,cs,h,ht,hl=>by
  simp only[flatOk,Bool.and_eq_true,decide_eq_true_eq]at h
  obtain⟨⟨⟨h1,h2⟩,h3⟩,h4⟩:=h
  have hi:i<cs.length:=by rw[hl];simp
  have hr:=flat_fits (i:=i+1) (cs:=cs) h4 (fun j g hg=>ht (j+1) g hg) (by rw[hl];simp;omega)
  obtain⟨y,hy⟩:=ht 0 f rfl
  rw[h1,h2,List.drop_eq_getElem_cons hi,List.take_succ_cons,List.take_zero]at hy
  rw[List.drop_eq_getElem_cons hi]
  exact(one_fits h3 hy).cons hr
def recOk (P:Program) (e:TypeId) (ks:List FK):Bool:=match P.underlying e with
 | some (.struct fs)=>flatOk P 0 fs.toList ks&&decide (P.cellsOf e=ks.length)
 | _=>false
theorem rec_fits {e:TypeId} {ks:List FK} {n:Nat} {cs:List Value} {y:DataW H×List MemPlace} (hk:recOk P e ks=true) (h:DataW.trod enc P w base spare held n e cs=some y):Fits ks cs:=by
 unfold recOk at hk
 split at hk
 ·rename_i fs hu
  simp only[Bool.and_eq_true,decide_eq_true_eq]at hk
  obtain⟨xs,m,_,rfl,hl,hlen,hf⟩:=DataW.trod_struct hu h
  have:=flat_fits (enc:=enc) (w:=w) (base:=base) (spare:=spare) (held:=held) (n:=m) (cs:=cs) hk.1 (fun j f hj=>by
   have hj':j<fs.size:=by simpa using(List.getElem?_eq_some_iff.1 hj).1
   exact⟨xs[j]'(by omega),by
    have:=hf j f (by simpa using hj)
    rw[this]
    simp⟩) (by rw[hl,hk.2];simp)
  simpa using this
 ·cases hk
theorem open_recs {α:Type} {f:α->List Value} {Q:α->Prop} {sz:Nat} {t e:TypeId} {v:Value} {a:Option Addr} {len cap:Nat} {d:DataW H} {p:List MemPlace}
  (hs:∀x,(f x).length=sz) (ht:P.underlying t=some (.slice e)) (hc:P.cellsOf e=sz)
  (hd:∀n cs y,DataW.trod enc P w base spare held n e cs=some y->∃x,cs=f x/\Q x) (hv:v=.slice a len cap) (h:DataW.Trod enc P w base spare held t v d p) :
  ∃l:List α,len=l.length/\(∀x∈l,Q x)/\Cells w a (l.flatMap f)/\len<=cap/\cap<=maxLen:=by
 subst hv
 obtain⟨fuel,h⟩:=h
 rcases Go.Deep.open_slice ht h with⟨hcs,_⟩|⟨x,l,c,m,n,D,Pl,hcs,hb,hlc,hcm,hm,hx,hel⟩
 ·simp[Value.cells]at hcs
  obtain⟨rfl,rfl,rfl⟩:=hcs
  exact⟨[],rfl,by simp,Cells.nil _ _,by omega,by omega⟩
 ·simp[Value.cells]at hcs
  obtain⟨rfl,rfl,rfl⟩:=hcs
  have hlm:len<=m:=by rw[hm];split<;>omega
  have each:∀i,i<len->∃y,Q y/\∀j u,(f y)[j]?=some u->w.cell? (x.add (i*sz+j))=some u:=by
   intro i hi
   obtain⟨cs',h1,h2⟩:=hel i (by omega)
   obtain⟨y,rfl,hq⟩:=hd _ _ _ h2
   refine⟨y,hq,fun j u hj=>?_⟩
   rw[hc]at h1
   obtain⟨_,hl,hcell⟩:=World.cells?_some h1
   have hj':j<sz:=by rw[<-hs y];exact(List.getElem?_eq_some_iff.1 hj).1
   rw[<-Addr.add_add,hcell j hj',hj]
  have build:∀k,k<=len->∃l:List α,l.length=k/\(∀y∈l,Q y)/\Cells w (some x) (l.flatMap f):=by
   intro k
   induction k with
   | zero=>exact fun _=>⟨[],rfl,by simp,Cells.nil _ _⟩
   | succ k ih=>
    intro hk
    obtain⟨l,hl,hq,hcl⟩:=ih (by omega)
    obtain⟨y,hy,hyc⟩:=each k (by omega)
    refine⟨l++[y],by simp[hl],fun z hz=>?_,?_⟩
    ·rcases List.mem_append.1 hz with hz|hz
     ·exact hq z hz
     ·simp at hz;exact hz ▸ hy
    ·intro j u hj
     refine⟨x,rfl,?_⟩
     have hfl:(l.flatMap f).length=k*sz:=by rw[List.length_flatMap];simp[hs,hl,List.map_const',List.sum_replicate_nat]
     rw[List.flatMap_append,List.flatMap_cons,List.flatMap_nil,List.append_nil]at hj
     by_cases hjl:j<(l.flatMap f).length
     ·rw[List.getElem?_append_left hjl]at hj
      obtain⟨a,ha,hc⟩:=hcl j u hj
      obtain rfl:=Option.some.inj ha
      exact hc
     ·rw[List.getElem?_append_right (by omega)]at hj
      have:=hyc _ u hj
      rwa [show k*sz+(j-(l.flatMap f).length)=j by omega]at this
  obtain⟨l,hl,hq,hcl⟩:=build len (Nat.le_refl _)
  exact⟨l,hl.symm,hq,hcl,hlc,hcm⟩
end
theorem Upd.below {w w':World} (h:Upd no w w'):RowKit.Below w.heap.size w w':=⟨h.os,h.tape,h.output,h.size,fun k hk=>h.blk k hk id⟩
end Go.Dav
namespace Go.Proofs
open Go.RowKit Go.Shelf Go.Dav
attribute [local go_sem] Oper.semAt_some
def nxtB (L:List Int) (pre:List (Int×Int)) (x:Int×Int):Prop:=∃k,∃hk:k<L.length,x=((k:Int),L[k])/\pre.map (·.2)=(L.drop (k+1)).reverse
theorem Tryz.bkw1 (m l Bn c:Nat) (p:Option Addr) (L:List Int) (hL:L.length<=1048576) (J Jx:List (Int×Int)->World->Prop)
  (hJ:∀pre W,J pre W->W.cell? ⟨Bn,0,none⟩=some (.slice p L.length c)/\∀(i:Nat) (v:Int),L[i]?=some v->∃bq o,p=some ⟨bq,o,none⟩/\W.cell? ⟨bq,o+i,none⟩=some (.int .i64 v))
  (hY:∀pre x W,J pre W->nxtB L pre x->YieldAt Fence.wide m Tryz.prog l #[.int .i64 x.1,.int .i64 x.2] W fun e W'=>(e=.returned (.bool true)/\J (pre++[x]) W')∨(e=.returned (.bool false)/\Jx (pre++[x]) W'))
  (W:World) (h0:J [] W) :
  CallsIn Fence.wide (m+1) Tryz.prog 338 #[.func (.yield l) #[] #[],.pointer (some ⟨Bn,0,none⟩)] W fun e W'=>(∃v,e=.returned v)/\((∃xs,xs.map (·.2)=L.reverse/\J xs W')∨∃pre,Jx pre W'):=by
 have h38:Fence.wide.fn 338:=trivial
 refine callsIn_of_wp Tryz.func338 rfl h38 ?_ rfl
 simp only[Tryz.ntmps338,List.size_toArray,List.length_cons,List.length_nil,Nat.reduceAdd,Nat.reduceSub,Array.replicate_succ,Array.replicate_zero,List.push_toArray,List.append_toArray,List.nil_append,List.cons_append]
 have hB0:=(hJ [] W h0).1
 gi_wp2
 gi_loopw [3] (fun q wr=>∃(k:Nat) (pre:List (Int×Int)),q=.int .i64 ((k:Int)-1)/\k<=L.length/\pre.map (·.2)=(L.drop k).reverse/\J pre wr)
  (fun q wr=>match q with|.int _ i=>(i+1).toNat|_=>0)
 case atStart=>
  exact⟨L.length,[],rfl,Nat.le_refl _,by rw[List.drop_of_length_le (by omega)];rfl,h0⟩
 case round=>
  obtain⟨k,pre,rfl,hk,hpre,hJs⟩:=hrel
  obtain⟨hB,hC⟩:=hJ pre wr hJs
  cases k with
  | zero=>
   gi_wp2
   go_end0
   exact⟨⟨_,rfl⟩,.inl ⟨pre,by rw[hpre];rfl,hJs⟩⟩
  | succ k=>
   have hkl:k<L.length:=by omega
   obtain⟨bq,o,rfl,hcell⟩:=hC k _ (List.getElem?_eq_getElem hkl)
   have hdr:L.drop k=L[k]::L.drop (k+1):=List.drop_eq_getElem_cons hkl
   obtain⟨fn,tmps,assign,body,hy,hR⟩:=hY pre ((k:Int),L[k]) wr hJs ⟨k,hkl,rfl,hpre⟩
   generalize L[k]=x at *
   have hi:((k+1:Nat):Int)-1=(k:Int):=by omega
   rw[hi]
   replace hy:(Instr.yield l #[.int .i64 (k:Int),.int .i64 x]).run Tryz.prog wr=.ok (.round l fn tmps assign body) wr:=hy
   gi_wp2
   refine hR.mono ?_
   rintro e W3 (⟨rfl,hJ3⟩|⟨rfl,hJx3⟩)
   ·gi_wp2
    go_roundw
    case rel=>exact⟨k,pre++[((k:Int),x)],rfl,by omega,by rw[List.map_append,hpre,hdr,List.reverse_cons];rfl,hJ3⟩
    case measure=>show((k:Int)-1+1).toNat<((k:Int)+1).toNat;omega
   ·gi_wp2
    refine bodyPost_ret (results_none rfl _ _ _) rfl ?_
    exact⟨⟨_,rfl⟩,.inr ⟨_,hJx3⟩⟩
set_option maxHeartbeats 1000000 in
theorem Tryz.bkw (p:Option Addr) (m c:Nat) (w:World):Calls Tryz.prog 269 #[.slice p m c] w fun e w'=>e=.returned (.func (.func 338) #[] #[.pointer (some ⟨w.heap.size,0,none⟩)])/\w'=w.alloc (.cells #[.slice p m c] 36):=by
 rw[<-callsIn_wide (n:=5)]
 have h25:Fence.wide.fn 269:=trivial
 refine callsIn_of_wp Tryz.func269 rfl h25 ?_ rfl
 simp only[Tryz.ntmps269,List.size_toArray,List.length_cons,List.length_nil,Nat.reduceAdd,Nat.reduceSub,Array.replicate_succ,Array.replicate_zero,List.push_toArray,List.append_toArray,List.nil_append,List.cons_append]
 gi_wp2
 go_ret
 exact⟨rfl,rfl⟩
end Go.Proofs
namespace Go.Dav
open Go.Proofs
def KAcc {σ:Type} (b:Nat) (A:Ob σ) (get:σ->K) (put:σ->K->σ):Prop:=∀{W w:World} {F:Fp} {s:σ},Turn A W w F s->∃q F1,KF b q w F1 (get s)/\Turn (KF b q) w w F1 (get s)/\∀w' k',Turn (KF b q) w w' F1 k'->Turn A W w' F (put s k')
theorem KAcc.self (b:Nat):KAcc b (KO b) (fun k=>k) (fun _ k=>k):=by
 intro W w F s h
 obtain⟨F1,⟨q,h1⟩,k1⟩:=h.turn
 exact⟨q,F1,h1,Turn.same h1,fun w' k' hT=>k1 _ _ (KF.loose hT)⟩
theorem KAcc.star {σ τ:Type} {b:Nat} {A:Ob σ} {B:Ob τ} [Frame B] {get:σ->K} {put:σ->K->σ} (h:KAcc b A get put):KAcc b (Star A B) (fun x=>get x.1) (fun x k=>(put x.1 k,x.2)):=by
 intro W w F s hS
 obtain⟨F1,hA,kA⟩:=hS.left
 obtain⟨q,F2,a1,a2,a3⟩:=h (Turn.same hA)
 exact⟨q,F2,a1,a2,fun w' k' hT=>kA _ _ (a3 _ _ hT)⟩
section
variable {b:Nat} {W w:World} {F:Fp} {k:K}
abbrev S1 (b p:Nat):=Star (KO b) (Lb p 23)
abbrev S2 (b p p1:Nat):=Star (S1 b p) (Lb p1 3)
abbrev S3 (b p p1 p8:Nat):=Star (S2 b p p1) (Lb p8 3)
abbrev S4 (b p p1 p8 p9:Nat):=Star (S3 b p p1 p8) (Lb p9 250)
theorem kacc2 (b p p1:Nat):KAcc b (S2 b p p1) (fun x=>x.1.1) (fun x k=>((k,x.1.2),x.2)):=KAcc.star (B:=Lb p1 3) (KAcc.star (B:=Lb p 23) (KAcc.self b))
theorem kacc3 (b p p1 p8:Nat):KAcc b (S3 b p p1 p8) (fun x=>x.1.1.1) (fun x k=>(((k,x.1.1.2),x.1.2),x.2)):=KAcc.star (B:=Lb p8 3) (kacc2 b p p1)
theorem kacc4 (b p p1 p8 p9:Nat):KAcc b (S4 b p p1 p8 p9) (fun x=>x.1.1.1.1) (fun x k=>((((k,x.1.1.1.2),x.1.1.2),x.1.2),x.2)):=KAcc.star (B:=Lb p9 250) (kacc3 b p p1 p8)
theorem Sl.intAt {w:World} {T:TypeId} {p:Option Addr} {n c:Nat} {l:List Int} (h:Sl w T 1 p n c (l.map (Value.int .i64))) {i:Nat} {v:Int} (hi:l[i]?=some v):∃bq o,p=some ⟨bq,o,none⟩/\w.cell? ⟨bq,o+i,none⟩=some (.int .i64 v):=by
 obtain⟨a,rfl,hc⟩:=h.cells i (.int .i64 v) (by rw[List.getElem?_map,hi];rfl)
 obtain⟨_,_,_,cells,_,hs,_⟩:=h
 obtain⟨bq,o,sp⟩:=a
 simp only at hs
 subst hs
 rw[add_lit]at hc
 exact⟨bq,o,rfl,hc⟩
structure BalZ (b:Nat) (W:World) (F:Fp) (k:K) (E:Env) (w:World) (p p1 p8 bn:Nat) (pq:Option Addr) (c:Nat):Prop where
 env:E=[(1,SV.v (.pointer (some ⟨p,0,none⟩))),(2,SV.v (.pointer (some ⟨p1,0,none⟩))),(5,SV.v (.pointer (some ⟨p8,0,none⟩))),(8,SV.un),(60,SV.v (.func (.func 338) #[] #[.pointer (some ⟨bn,0,none⟩)])),(62,SV.un)]
 own:Turn (S3 b p p1 p8) W w F (((k,[.pointer (some ⟨b,0,none⟩)]),[.int .i64 0]),[.int .i64 (idleC k)])
 box:w.cell? ⟨bn,0,none⟩=some (.slice pq (rqListE k.rq (busyC k)).length c)
 sl:Sl w 3 1 pq (rqListE k.rq (busyC k)).length c ((rqListE k.rq (busyC k)).map (Value.int .i64))
 load:¬rqLoadE k.rq (busyC k)-rqLoadE k.rq (idleC k)<2
def BalR (b:Nat) (W:World) (F:Fp) (k:K) (e:Ending) (w':World):Prop:=e=.returned (.int .i64 (balId k))/\Turn (KO b) W w' F (balK k)
theorem RqO.loads {b:Nat} {w:World} {F:Fp} {x:RS} (h:RqO b w F x) (c:Int):0<=rqLoadE x c/\rqLoadE x c<=1024:=by
 unfold rqLoadE
 split
 ·rename_i hc
  obtain⟨i,hi,rfl⟩:=inQ_at hc
  rw[rowQ_at hi]
  have:=(h.V hi).len
  omega
 ·omega
theorem listLen (h:Turn (KO b) W w F k) {c:Int}:(rqListE k.rq c).length<=8192:=by
 obtain⟨q,hq⟩:=KO.fix h
 obtain⟨F1,hA,_⟩:=KF.rq hq
 unfold rqListE
 split
 ·rename_i hc
  obtain⟨i,hi,rfl⟩:=inQ_at hc
  rw[rowQ_at hi]
  have:=(hA.V hi).len
  exact Nat.le_trans (listOf_len _) (by omega)
 ·simp
theorem Upd.cellO {w W:World} {a:Addr} {v:Value} (h:Upd no w W) (hc:w.cell? a=some v):W.cell? a=some v:=
 (World.cell?_of_block (h.blk _ (cell_lt hc) id)).trans hc
theorem bal_pre (hTab:Tab W) (h0:¬F 0) (h:Turn (KO b) W w F k):den Tryz.prog M168 balPre (argE 0 [.pointer (some ⟨b,0,none⟩)]) w (preK (fun E w=>∃p p1 p8 bn pq c,BalZ b W F k E w p p1 p8 bn pq c) (retK Tryz.prog Tryz.f168.results.toList (BalR b W F k))):=by
 rw[tbp]
 refine⟨fun w1 hN=>⟨fun w2 hN2=>?_⟩⟩
 have hS:Turn (S2 b w.heap.size w1.heap.size) W w2 F ((k,[.pointer (some ⟨b,0,none⟩)]),[.int .i64 0]):=(h.add (hN.upd no) (Rw.new hN rfl) (fun i hi=>Nat.le_of_eq hi.symm)).add (hN2.upd no) (Rw.new hN2 rfl) (fun i hi=>Nat.le_of_eq hi.symm)
 generalize w.heap.size=p at hS⊢
 generalize w1.heap.size=p1 at hS⊢
 intro w3 q1 q2 q3 q4
 replace hS:=hS.upd (Upd.same no q1 q2 q3 q4)
 obtain⟨q,F1,_,hK,_⟩:=kacc2 b p p1 hS
 have hB:=KF.blk hK
 have hP:=lb_blk1 hS
 obtain⟨F2,hA,_⟩:=KF.rq hK
 refine⟨_,hP.cell0 rfl,_,rfl,_,hB.cell2 rfl,_,hP.cell0 rfl,_,rfl,_,hB.cell rfl,⟨(rqbusy_ok hA (hS.tab hTab h0) k.ac).mono ?_⟩⟩
 rintro e w4 ⟨rfl,hU4⟩
 replace hS:=hS.upd hU4
 refine⟨_,_,rfl,?_⟩
 intro w5 q1 q2 q3 q4
 replace hS:=hS.upd (Upd.same no q1 q2 q3 q4)
 obtain⟨q5,F5,_,hK,_⟩:=kacc2 b p p1 hS
 have hB:=KF.blk hK
 have hP:=lb_blk1 hS
 obtain⟨F6,hA,_⟩:=KF.rq hK
 refine⟨_,hP.cell0 rfl,_,rfl,_,hB.cell2 rfl,_,hP.cell0 rfl,_,rfl,_,hB.cell rfl,?a1,?a2⟩
 case' a1=>
  refine⟨(rqidle_ok hA (hS.tab hTab h0) k.ac).mono ?_⟩
  rintro e w6 ⟨rfl,hU6⟩
  replace hS:=hS.upd hU6
  refine⟨_,_,rfl,⟨fun w7 hN7=>?_⟩⟩
  replace hS:Turn (S3 b p p1 w6.heap.size) W w7 F (((k,[.pointer (some ⟨b,0,none⟩)]),[.int .i64 0]),[.int .i64 0]):=hS.add (hN7.upd no) (Rw.new hN7 rfl) (fun i hi=>Nat.le_of_eq hi.symm)
  generalize w6.heap.size=p8 at hS⊢
  have hB:=hB.upd (hU6.and (hN7.upd no)) (fun h=>h)
  have hP:=lb_blk1 hS.drop
  refine⟨hB.cell rfl,hP.cell0 rfl,hB.cell2 rfl,hP.cell0 rfl,?_⟩
 case' a2=>
  refine⟨fun w7 hN7=>?_⟩
  replace hS:Turn (S3 b p p1 w5.heap.size) W w7 F (((k,[.pointer (some ⟨b,0,none⟩)]),[.int .i64 0]),[.int .i64 0]):=hS.add (hN7.upd no) (Rw.new hN7 rfl) (fun i hi=>Nat.le_of_eq hi.symm)
  generalize w5.heap.size=p8 at hS⊢
  have hB:=hB.upd (hN7.upd no) (fun h=>h)
  have hP:=lb_blk1 hS.drop
  replace hA:=(inferInstance:Frame (RqO q5.rq)).upd hA (hN7.upd no) (fun _ _ h=>h)
  refine⟨hB.cell rfl,hP.cell0 rfl,hB.cell2 rfl,hP.cell0 rfl,⟨(rqidle_ok hA (hS.tab hTab h0) k.ac).mono ?_⟩⟩
  rintro e w8 ⟨rfl,hU8⟩
  replace hS:=hS.upd hU8
  refine⟨_,_,rfl,?_⟩
 all_goals
  refine lb_wr (vs:=[.int .i64 (idleC k)]) hS (by rfl) fun w9 hS=>?_
  intro w10 q1 q2 q3 q4
  replace hS:=hS.upd (Upd.same no q1 q2 q3 q4)
  obtain⟨q10,F10,_,hK,_⟩:=kacc3 b p p1 p8 hS
  have hB:=KF.blk hK
  have hP:=lb_blk1 hS.drop
  have hT:=lb_blk hS
  obtain⟨F11,hA,_⟩:=KF.rq hK
  refine⟨_,hP.cell0 rfl,_,rfl,_,hB.cell2 rfl,_,hP.cell0 rfl,_,rfl,_,hB.cell2 rfl,_,hT.cell0 rfl,⟨(rqload_ok hA (busyC k)).mono ?_⟩⟩
  rintro e w11 ⟨rfl,rfl⟩
  refine⟨_,rfl,hT.cell0 rfl,hB.cell2 rfl,hP.cell0 rfl,⟨(rqload_ok hA (idleC k)).mono ?_⟩⟩
  rintro e w12 ⟨rfl,rfl⟩
  have hl1:=hA.loads (busyC k)
  have hl2:=hA.loads (idleC k)
  dsimp only at hl1 hl2
  have hw:IntKind.wrap .i64 (rqLoadE k.rq (busyC k)-rqLoadE k.rq (idleC k))=rqLoadE k.rq (busyC k)-rqLoadE k.rq (idleC k):=w64 (by omega)
  refine⟨_,rfl,fun g=>?_,fun g=>?_⟩
  ·have g:=of_decide_eq_true g
   have g:rqLoadE k.rq (busyC k)-rqLoadE k.rq (idleC k)<2:=by rw[<-hw];exact g
   refine lb_wr (vs:=[.int .i64 0]) hS.drop (by rfl) fun w13 hS=>?_
   have hR:=lb_blk hS
   refine⟨_,hR.cell0 rfl,?_,?_⟩
   ·unfold balId;rw[if_pos g]
   ·unfold balK;rw[if_pos g];exact hS.drop.drop
  ·have g:=of_decide_eq_false g
   have g:¬rqLoadE k.rq (busyC k)-rqLoadE k.rq (idleC k)<2:=by rw[<-hw];exact g
   refine⟨_,hP.cell0 rfl,_,rfl,_,hB.cell2 rfl,⟨(rqlist_ok hA (busyC k)).mono ?_⟩⟩
   rintro e w13 ⟨pq,d,rfl,hL⟩
   replace hS:=hS.upd hL.U
   refine⟨_,_,_,rfl,⟨(Tryz.bkw _ _ _ w13).mono ?_⟩⟩
   rintro e w14 ⟨rfl,rfl⟩
   have hUa:Upd no w13 (w13.alloc (.cells #[.slice pq (rqListE k.rq (busyC k)).length d] 36)):=Upd.allocd _ _
   exact⟨_,rfl,p,p1,p8,w13.heap.size,pq,d,rfl,hS.upd hUa,by simp only[World.cell?,World.alloc_heap_new];rfl,hL.S.upd hUa (fun _ _ h=>h),g⟩
def balG (k:K) (id:Int):K:={k with rq:=rqPutS (rqTakeS k.rq id) (idleC k) (thX k id).1 id,th:=plS k.th id (idleC k) false}
theorem balK_some (hl:¬rqLoadE k.rq (busyC k)-rqLoadE k.rq (idleC k)<2) {id:Int} (h:(rqListE k.rq (busyC k)).reverse.find? (balP k)=some id):balK k=balG k id/\balId k=id:=by
 unfold balK balId balG
 rw[if_neg hl,if_neg hl,h]
 exact⟨rfl,rfl⟩
theorem balK_none (hl:¬rqLoadE k.rq (busyC k)-rqLoadE k.rq (idleC k)<2) (h:(rqListE k.rq (busyC k)).reverse.find? (balP k)=none):balK k=k/\balId k=0:=by
 unfold balK balId
 rw[if_neg hl,if_neg hl,h]
 exact⟨rfl,rfl⟩
theorem bal_body {p p1 p8:Nat} (x:Int) {F2:Fp} {P:Ex->Env->World->Prop} (hS:Turn (S3 b p p1 p8) w w F2 (((k,[.pointer (some ⟨b,0,none⟩)]),[.int .i64 0]),[.int .i64 (idleC k)]))
  (hn:∀E w',balP k x=false->Upd no w w'->P .nrm E w') (hr:∀E w',balP k x=true->Turn (S2 b p p1) w w' F2 ((balG k x,[.pointer (some ⟨b,0,none⟩)]),[.int .i64 x])->P .ret E w') :
  den Tryz.prog balM balB [(1,SV.v (.pointer (some ⟨p,0,none⟩))),(2,SV.v (.pointer (some ⟨p1,0,none⟩))),(5,SV.v (.pointer (some ⟨p8,0,none⟩))),(8,SV.v (.int .i64 x))] w P:=by
 rw[tbb]
 obtain⟨q,F1,_,hK,_⟩:=kacc3 b p p1 p8 hS
 have hP:=lb_blk1 hS.drop
 obtain⟨F3,hA,_⟩:=KF.th hK
 refine⟨_,hP.cell0 rfl,_,rfl,_,(KF.blk hK).cell2 rfl,⟨(get_ok hA x).mono ?_⟩⟩
 rintro e w1 ⟨rfl,hU1⟩
 refine⟨_,_,_,_,_,_,_,rfl,⟨fun w2 hN=>?_⟩⟩
 have hU2:Upd no w w2:=hU1.and (hN.upd no)
 replace hS:Turn (S4 b p p1 p8 w1.heap.size) w w2 F2 ((((k,[.pointer (some ⟨b,0,none⟩)]),[.int .i64 0]),[.int .i64 (idleC k)]),[.int .i64 0,.int .u64 0,.int .i64 0,.bool false,.bool false,.int .i64 0]):=(hS.upd hU1).add (hN.upd no) (Rw.new hN rfl) (fun i hi=>Nat.le_of_eq hi.symm)
 have hp9:w.heap.size<=w1.heap.size:=hU1.size
 have hb9:=hN.blk'
 generalize hp:w1.heap.size=p9 at hS hp9 hb9⊢
 obtain⟨F9,hRw,kRw⟩:=hS.right
 refine hRw.blk.wr0 (by simp) fun w3 hW=>?_
 have hU3:Upd no w w3:=hU2.trans hW.U (fun i hi e=>by omega)
 replace hS:=kRw w3 (thC (thX k x)) (hRw.turned hW.U hW.blk')
 have hL:=lb_blk hS
 have hT:=lb_blk hS.drop
 have hPm:balP k x=hs (thX k x).2.1 (idleC k):=rfl
 refine⟨_,hL.cell rfl,_,hT.cell0 rfl,⟨(mHas_ok _ _ _).mono ?_⟩⟩
 rintro e w4 ⟨rfl,rfl⟩
 refine⟨_,rfl,fun g=>hn _ _ (by rw[hPm];simpa using g) hU3,fun g=>?_⟩
 have hb:balP k x=true:=by rw[hPm];simpa using g
 obtain⟨q5,F5,_,hK5,kK5⟩:=kacc4 b p p1 p8 p9 hS
 obtain⟨F6,hA6,kA6⟩:=KF.rq hK5
 have hP5:=lb_blk1 hS.drop.drop
 refine⟨_,hP5.cell0 rfl,_,rfl,_,(KF.blk hK5).cell2 rfl,⟨(rqtake_ok hA6 x).mono ?_⟩⟩
 rintro e w6 ⟨rfl,hT6⟩
 replace hS:=kK5 _ _ (kA6 _ _ hT6)
 refine⟨_,rfl,?_⟩
 intro w7 q1 q2 q3 q4
 replace hS:=hS.upd (Upd.same no q1 q2 q3 q4)
 obtain⟨q8,F8,_,hK8,kK8⟩:=kacc4 b p p1 p8 p9 hS
 obtain⟨F9',hA9,kA9⟩:=KF.th hK8
 refine⟨_,(lb_blk1 hS.drop.drop).cell0 rfl,_,rfl,_,(KF.blk hK8).cell2 rfl,_,(lb_blk hS.drop).cell0 rfl,⟨(place_ok hA9 x (idleC k) false).mono ?_⟩⟩
 rintro e w8 ⟨rfl,hT8⟩
 replace hS:=kK8 _ _ (kA9 _ _ hT8)
 refine⟨_,rfl,?_⟩
 intro w9 q1 q2 q3 q4
 replace hS:=hS.upd (Upd.same no q1 q2 q3 q4)
 obtain⟨q10,F10,_,hK10,kK10⟩:=kacc4 b p p1 p8 p9 hS
 obtain⟨F11,hA11,kA11⟩:=KF.rq hK10
 refine⟨_,(lb_blk1 hS.drop.drop).cell0 rfl,_,rfl,_,(KF.blk hK10).cell2 rfl,_,(lb_blk hS.drop).cell0 rfl,_,(lb_blk hS).cell rfl,⟨(rqput_ok hA11 (idleC k) _ x).mono ?_⟩⟩
 rintro e w10 ⟨rfl,hT10⟩
 replace hS:=kK10 _ _ (kA11 _ _ hT10)
 refine⟨_,rfl,lb_wr hS.drop.drop (by rfl) fun w11 hS=>hr _ _ hb hS⟩
set_option maxRecDepth 100000 in
theorem kbalance_ok (hTab:Tab W) (h0:¬F 0) (h:Turn (KO b) W w F k):Calls Tryz.prog 168 #[.pointer (some ⟨b,0,none⟩)] w (BalR b W F k):=by
 rw[<-callsIn_wide (n:=5)]
 refine callsIn_of_wp_marks Tryz.func168 b168 trivial (wpIn_wide.2 ?_) rfl
 have ha:=agree_args (fn:=Tryz.f168) (N:=M168.N) n168 (args:=[.pointer (some ⟨b,0,none⟩)]) (by show 1<=104;omega)
 generalize he:({tmps:=([.pointer (some ⟨b,0,none⟩)]:List Value).toArray++Array.replicate (Tryz.f168.ntmps-([.pointer (some ⟨b,0,none⟩)]:List Value).toArray.size) undef,defers:=[]}:Act)=a0 at ha⊢
 have hpre:=bal_pre hTab h0 h
 rw[bal_code]
 have out:∀(E:Env) (a:Act) (w':World),Agree M168.N E a->retK Tryz.prog Tryz.f168.results.toList (BalR b W F k) .ret E w'->bodyPostM Fence.wide 5 Tryz.prog Tryz.f168 (BalR b W F k) .ret a w':=by
  intro E a w' h1 h2
  obtain⟨v,hv,hR⟩:=results_run h1 h2
  show LeavesInM _ _ _ _ _ _ a.defers .returning w'
  rw[h1.nod]
  exact⟨v,hv,hR⟩
 unfold balPre at hpre
 have piece:∀{x y y':Code} {E:Env} {a:Act} {w':World},den Tryz.prog M168 (.seq x y) E w' (preK (fun E w=>∃p p1 p8 bn pq c,BalZ b W F k E w p p1 p8 bn pq c) (retK Tryz.prog Tryz.f168.results.toList (BalR b W F k)))->Agree M168.N E a->
   (∀E a w',Agree M168.N E a->den Tryz.prog M168 y E w' (preK (fun E w=>∃p p1 p8 bn pq c,BalZ b W F k E w p p1 p8 bn pq c) (retK Tryz.prog Tryz.f168.results.toList (BalR b W F k)))->y'.wp Tryz.prog (bodyPostM Fence.wide 5 Tryz.prog Tryz.f168 (BalR b W F k)) a w')->
   (Code.seq x y').wp Tryz.prog (bodyPostM Fence.wide 5 Tryz.prog Tryz.f168 (BalR b W F k)) a w':=by
  intro x y y' E a w' hd ha hy
  refine wp_seq (wp_mono (den_sound okProg x E w' _ hd a ha) ?_)
  rintro ex a1 w1 hl
  cases ex with
  | normal=>
   obtain⟨E1,h1,h2⟩:=hl
   have hc:findL M168.cuts (headReg y)=none:=by cases headReg y<;>rfl
   simp only[seqK,cutB]at h2
   rw[hc]at h2
   exact hy E1 a1 w1 h1 h2
  | ret=>obtain⟨E1,h1,h2⟩:=hl;exact out E1 a1 w1 h1 h2
  | exit n=>obtain⟨E1,h1,h2⟩:=hl;exact h2.elim
  | _=>exact hl.elim
 refine piece hpre ha fun E1 a1 w1 ha1 hd1=>?_
 refine piece hd1 ha1 fun E2 a2 w2 ha2 hd2=>?_
 refine piece hd2 ha2 fun E3 a3 w3 ha3 hd3=>?_
 refine piece hd3 ha3 fun E4 a4 w4 ha4 hd4=>?_
 refine wp_seq (wp_seq (wp_mono (den_sound okProg balR E4 w4 _ hd4 a4 ha4) ?_))
 rintro ex a5 w5 hl
 cases ex with
 | ret=>obtain⟨E1,h1,h2⟩:=hl;exact out E1 a5 w5 h1 h2
 | exit n=>obtain⟨E1,h1,h2⟩:=hl;exact h2.elim
 | normal=>?_
 | _=>exact hl.elim
 obtain⟨E5,ha5,p,p1,p8,bn,pq,c,hZ⟩:=hl
 have hE:=hZ.env
 subst hE
 have hP:=hZ.own
 obtain⟨F',hS0,hU0,hF0⟩:=hZ.own
 have hlt:∀i,F' i->i<w5.heap.size:=fun i hi=>Frame.lt hS0 i hi
 have ha2:Agree M168.N [(2,SV.v (.pointer (some ⟨p1,0,none⟩)))] a5:=ha5.keep [2]
 have hF0':∀i,i<W.heap.size->F' i->F i:=fun i hi h=>(hF0 i h).elim id (fun h=>absurd h (by omega))
 have leave:∀{w':World} {k2:K} {id:Int} {F2:Fp} {a:Act},Agree M168.N [(2,SV.v (.pointer (some ⟨p1,0,none⟩)))] a->S2 b p p1 w' F2 ((k2,[.pointer (some ⟨b,0,none⟩)]),[.int .i64 id])->Upd F W w'->(∀i,F2 i->F i∨W.heap.size<=i)->w'.heap[w5.heap.size]?=some (.deferred (some []))->¬F2 w5.heap.size->id=balId k->k2=balK k->
   LeavesInM Fence.wide 5 Tryz.prog Tryz.f168 a.tmps (BalR b W F k) [{target:=.collected w5.heap.size,args:=#[]}] .returning w':=by
  intro w' k2 id F2 a haa hS hU hF hD hnD hid hk
  refine⟨by simp,.inl ⟨_,_,rfl,run_takeDeferred hD,?_⟩⟩
  have hPu:=Upd.putO w' w5.heap.size (.deferred none)
  have hS':=Frame.upd hS hPu (fun i hi e=>hnD (e ▸ hi))
  have hT:Turn (S2 b p p1) W (w'.putObj w5.heap.size (.deferred none)) F ((k2,[.pointer (some ⟨b,0,none⟩)]),[.int .i64 id]):=⟨F2,hS',hU.trans hPu (fun i hi (e:i=w5.heap.size)=>absurd hi (by have:=hU0.size;omega)),hF⟩
  have hret:retK Tryz.prog Tryz.f168.results.toList (BalR b W F k) .ret [(2,SV.v (.pointer (some ⟨p1,0,none⟩)))] (w'.putObj w5.heap.size (.deferred none)):=by
   rw[tbr]
   exact⟨_,(lb_blk hT).cell0 rfl,by rw[hid],by rw[<-hk];exact hT.drop.drop⟩
  obtain⟨v,hv,hR⟩:=results_run haa hret
  exact⟨v,hv,hR⟩
 refine(wpIn_wide (n:=5)).1 (wpIn_block ?_)
 refine wp_range (M:=balM) (m:=3) okProg (E:=[(1,SV.v (.pointer (some ⟨p,0,none⟩))),(2,SV.v (.pointer (some ⟨p1,0,none⟩))),(5,SV.v (.pointer (some ⟨p8,0,none⟩))),(8,SV.un),(60,SV.v (.func (.func 338) #[] #[.pointer (some ⟨bn,0,none⟩)])),(62,SV.un)]) ha5 (gf:=338) (lb:=#[.pointer (some ⟨bn,0,none⟩)]) (ha5.ev (.tmp 60) _ rfl) (fun args w=>callFunc_ok okProg (by kernel_rfl) args) (fun x:Int×Int=>(.int .i64 x.1,.int .i64 x.2))
  (fun pre W1=>Upd no w5 W1/\∀y∈pre,balP k y.2=false)
  (fun pre W1=>∃pr x,pre=pr++[x]/\(∀y∈pr,balP k y.2=false)/\balP k x.2=true/\nxtB (rqListE k.rq (busyC k)) pr x/\∃F2,S2 b p p1 W1 F2 ((balG k x.2,[.pointer (some ⟨b,0,none⟩)]),[.int .i64 x.2])/\Upd F' w5 W1/\∀i,F2 i->F' i∨w5.heap.size+2<=i)
  (nxtB (rqListE k.rq (busyC k))) (fun xs=>xs.map (·.2)=(rqListE k.rq (busyC k)).reverse)
  (fun x=>[(1,SV.v (.pointer (some ⟨p,0,none⟩))),(2,SV.v (.pointer (some ⟨p1,0,none⟩))),(5,SV.v (.pointer (some ⟨p8,0,none⟩))),(8,SV.v (.int .i64 x.2))]) (Nat.le_of_ble_eq_true rfl) (Nat.le_of_ble_eq_true rfl) bal_str.1 bal_str.2 ?hA ?hB ?hI ?hIx ?hI0 ?hseq ?hdone ?hstop
 case hA=>
  intro x W1
  rw[tba]
  exact⟨rfl,rfl⟩
 case hB=>
  rintro pre x W1 ⟨hU,hno⟩ hnx hsz
  have hS1:S3 b p p1 p8 W1 F' (((k,[.pointer (some ⟨b,0,none⟩)]),[.int .i64 0]),[.int .i64 (idleC k)]):=Frame.upd hS0 hU (fun _ _ h=>h)
  refine bal_body x.2 (Turn.same hS1) (fun E w' hf hU'=>⟨⟨hU.trans hU' (fun _ _ h=>h),fun y hy=>?_⟩,hU'.size,fun i h1 h2=>hU'.blk i h2 (fun h=>h)⟩) (fun E w' ht hT=>?_)
  ·rcases List.mem_append.1 hy with hy|hy
   ·exact hno y hy
   ·simp at hy;subst hy;exact hf
  ·obtain⟨F2,t1,t2,t3⟩:=hT
   exact⟨⟨pre,x,rfl,hno,ht,hnx,F2,t1,(hU.mono (fun _ _ h=>h.elim)).trans t2 (fun i hi h=>h),fun i hi=>(t3 i hi).imp id (fun h=>by omega)⟩,t2.size,fun i h1 h2=>t2.blk i h2 (fun h=>by have:=hlt i h;omega)⟩
 case hI=>exact fun pre W1 o hh=>⟨hh.1.trans (Upd.putO W1 _ o) (fun i hi (e:i=w5.heap.size+1)=>absurd hi (by omega)),hh.2⟩
 case hIx=>
  rintro pre W1 o ⟨pr,x,rfl,h1,h2,h3,F2,h4,h5,h6⟩
  refine⟨pr,x,rfl,h1,h2,h3,F2,Frame.upd h4 (Upd.putO W1 _ o) (fun i hi (e:i=w5.heap.size+1)=>?_),h5.trans (Upd.putO W1 _ o) (fun i hi (e:i=w5.heap.size+1)=>absurd hi (by omega)),h6⟩
  rcases h6 i hi with h|h
  ·have:=hlt i h;omega
  ·omega
 case hI0=>exact fun r=>⟨(Upd.allocd _ _).trans (Upd.allocd _ _) (fun _ _ h=>h),fun y hy=>by cases hy⟩
 case hseq=>
  intro J Jx W1 hJI hY h0'
  have hlen:(rqListE k.rq (busyC k)).length<=1048576:=Nat.le_trans (listLen hP.drop.drop.drop) (by omega)
  refine Tryz.bkw1 3 (w5.heap.size+1) bn c pq (rqListE k.rq (busyC k)) hlen J Jx (fun pre W2 hJ=>?_) (fun pre x W2 hJ hx=>hY pre x W2 hJ hx) W1 h0'
  have hU:=(hJI pre W2 hJ).1
  exact⟨Upd.cellO hU hZ.box,fun i v hi=>(hZ.sl.upd hU (fun _ _ h=>h)).intAt hi⟩
 case hstop=>
  rintro pre W1 ⟨pr,x,rfl,h1,h2,⟨kk,hk,hx,hpr⟩,F2,h4,h5,h6⟩ hD
  have hf:(rqListE k.rq (busyC k)).reverse.find? (balP k)=some x.2:=by
   have e1:(rqListE k.rq (busyC k)).reverse=pr.map (·.2)++(x.2::((rqListE k.rq (busyC k)).take kk).reverse):=by
    rw[hpr,hx]
    conv=>lhs;rw[<-List.take_append_drop kk (rqListE k.rq (busyC k)),List.drop_eq_getElem_cons hk]
    simp
   rw[e1,List.find?_append,List.find?_eq_none.2 (fun y hy=>?_),List.find?_cons_of_pos h2]
   ·rfl
   ·obtain⟨z,hz,rfl⟩:=List.mem_map.1 hy
    rw[h1 z hz];decide
  obtain⟨e1,e2⟩:=balK_some hZ.load hf
  show LeavesInM _ _ _ _ _ _ _ _ _
  refine leave (a:=a5) ha2 h4 (hU0.trans h5 (fun i hi h=>hF0' i hi h)) (fun i hi=>?_) hD (fun hh=>?_) e2.symm e1.symm
  ·rcases h6 i hi with h|h
   ·exact hF0 i h
   ·exact .inr (by have:=hU0.size;omega)
  ·rcases h6 _ hh with h|h
   ·have:=hlt _ h;omega
   ·omega
 case hdone=>
  rintro xs W1 hxs ⟨hU,hno⟩ hD
  have hnone:(rqListE k.rq (busyC k)).reverse.find? (balP k)=none:=by
   rw[<-hxs]
   refine List.find?_eq_none.2 fun y hy=>?_
   obtain⟨z,hz,rfl⟩:=List.mem_map.1 hy
   rw[hno z hz];decide
  obtain⟨e1,e2⟩:=balK_none hZ.load hnone
  show balT.wp _ _ _ _
  rw[bal_T]
  have hS1:S3 b p p1 p8 W1 F' (((k,[.pointer (some ⟨b,0,none⟩)]),[.int .i64 0]),[.int .i64 (idleC k)]):=Frame.upd hS0 hU (fun _ _ h=>h)
  have hT1:Turn (S2 b p p1) W1 W1 F' ((k,[.pointer (some ⟨b,0,none⟩)]),[.int .i64 0]):=(Turn.same hS1).drop
  refine wp_seq (wp_region_list (seqR_dfr (N:=M168.N) (l:=balO) (K:=fun E w'=>E=[(2,SV.v (.pointer (some ⟨p1,0,none⟩)))]/\Turn (S2 b p p1) W1 w' F' ((k,[.pointer (some ⟨b,0,none⟩)]),[.int .i64 0])) okProg (by simp) ?_ balO.toArray.toList [(2,SV.v (.pointer (some ⟨p1,0,none⟩)))] a5 W1 ha2 ?_))
  ·rintro E a w' haa ⟨rfl,F2,t1,t2,t3⟩
   refine wp_ret ?_
   show LeavesInM _ _ _ _ _ _ _ _ _
   have hDlt:w5.heap.size<W1.heap.size:=(Array.getElem?_eq_some_iff.1 hD).1
   refine leave (a:=a) haa t1 ((hU0.trans hU (fun _ _ h=>h.elim)).trans t2 (fun i hi h=>hF0' i hi h)) (fun i hi=>?_) ((t2.blk _ hDlt (fun h=>by have:=hlt _ h;omega)).trans hD) (fun hh=>?_) e2.symm e1.symm
   ·rcases t3 i hi with h|h
    ·exact hF0 i h
    ·exact .inr (by have:=hU0.size;have:=hU.size;omega)
   ·rcases t3 _ hh with h|h
    ·have:=hlt _ h;omega
    ·omega
  ·rw[List.toList_toArray,tbt]
   exact lb_wr hT1 (by rfl) fun w' hS=>⟨rfl,hS⟩
end
end Go.Dav
namespace Go.Dav
open Go.Proofs
section
variable {b:Nat} {W w:World} {F:Fp} {k:K}
theorem kstep_ok (hTab:Tab W) (h0:¬F 0) (h:Turn (KO b) W w F k) (hnow:k.tm.now=k.now) (c:Int):Calls Tryz.prog 62 #[.pointer (some ⟨b,0,none⟩),.int .i64 c] w (Told_Kdo (KO b) W F (stepK k c) (stepR k c)):=by
 obtain⟨q,hq⟩:=KO.fix h
 have hB:=KF.blk hq
 obtain⟨F1,hA,_⟩:=KF.co hq
 refine u62 ?_
 rw[t62]
 refine⟨_,rfl,_,hB.cell2 rfl,⟨(cget_ok hA c).mono ?_⟩⟩
 rintro e w1 ⟨⟨n1,n2,rfl⟩,hU1⟩
 refine⟨_,_,_,_,_,_,_,rfl,⟨fun w2 hN=>?_⟩⟩
 have hS:Turn (Star (KO b) (Lb w1.heap.size 226)) W w2 F (k,[.bool false,.bool false,.int .i64 0,.int .i64 0,.int .i64 0,.int .i64 0]):=(h.upd hU1).add (hN.upd no) (Rw.new hN rfl) (fun i hi=>Nat.le_of_eq hi.symm)
 generalize w1.heap.size=p at hS⊢
 refine lb_wr (vs:=coE (gtO k.co c,n1,n2)) hS (by rfl) fun w3 hS=>?_
 intro w4 q1 q2 q3 q4
 replace hS:=hS.upd (Upd.same no q1 q2 q3 q4)
 have hL:=lb_blk hS
 obtain⟨F0,hK0,kK0⟩:=hS.left
 refine⟨_,hL.cell rfl,_,hL.cell rfl,_,hL.cell rfl,_,hL.cell rfl,_,hL.cell rfl,_,hL.cell rfl,⟨(kflags_ok (Turn.same hK0) c).mono ?_⟩⟩
 rintro e w5 ⟨rfl,hT5⟩
 replace hS:=kK0 _ _ hT5
 have hL5:=lb_blk hS
 refine⟨_,_,_,_,_,_,_,_,_,rfl,fun j v hv=>hL5.cell hv,⟨(cnext_ok (gtO k.co c,n1,n2) (flagsK k c) w5).mono ?_⟩⟩
 rintro e w6 ⟨rfl,hU6⟩
 replace hS:=hS.upd hU6
 have last:∀(w7:World),Turn (KO b) W w7 F k->CutD Tryz.prog M62 c62_0 (e62_0 (some ⟨b,0,none⟩) c (whatK k c)) w7 (k62_0 (Told_Kdo (KO b) W F (stepK k c) (stepR k c))):=by
  intro w7 h7
  refine CutD.mk ?_
  rw[t62_0]
  obtain⟨q7,hq7⟩:=KO.fix h7
  unfold stepK stepR
  refine⟨fun g=>?_,fun g=>⟨fun g1=>?_,fun g1=>⟨fun g2=>?_,fun g2=>⟨fun g3=>?_,fun g3=>⟨fun g4=>?_,fun g4=>?_⟩⟩⟩⟩⟩
  ·have g:whatK k c=0:=by simpa using g
   rw[if_pos g,if_pos (.inl g)]
   exact Told_Kdo.nil h7
  ·have g:¬whatK k c=0:=by simpa using g
   have g1:whatK k c=1:=by simpa using g1
   rw[if_neg g,if_pos g1,if_pos (.inr (.inl g1))]
   intro w8 q1 q2 q3 q4
   replace hq7:=hq7.upd (Upd.same no q1 q2 q3 q4)
   obtain⟨F8,hA8,kA8⟩:=KF.co hq7
   refine⟨_,rfl,_,(KF.blk hq7).cell2 rfl,_,rfl,_,(KF.blk hq7).cell rfl,⟨(cwake_ok hA8 c k.now).mono ?_⟩⟩
   rintro e w9 ⟨⟨n,m,rfl⟩,hT9⟩
   exact⟨_,_,rfl,Told_Kdo.nil (KF.loose (kA8 _ _ hT9))⟩
  ·have g:¬whatK k c=0:=by simpa using g
   have g1:¬whatK k c=1:=by simpa using g1
   have g2:whatK k c=2:=by simpa using g2
   rw[if_neg g,if_neg g1,if_pos g2,if_pos (.inr (.inr (.inl g2)))]
   obtain⟨F8,hA8,kA8⟩:=KF.so hq7
   refine⟨_,rfl,_,(KF.blk hq7).cell2 rfl,⟨(ack_ok hA8 c).mono ?_⟩⟩
   rintro e w9 ⟨rfl,hT9⟩
   exact⟨_,rfl,Told_Kdo.nil (KF.loose (kA8 _ _ hT9))⟩
  ·have g:¬whatK k c=0:=by simpa using g
   have g1:¬whatK k c=1:=by simpa using g1
   have g2:¬whatK k c=2:=by simpa using g2
   have g3:whatK k c=3:=by simpa using g3
   rw[if_neg g,if_neg g1,if_neg g2,if_pos g3,if_neg (by omega),if_pos g3]
   refine⟨(kturn_ok hTab h0 h7 c).mono ?_⟩
   rintro e w9 ⟨pp,d,rfl,hT⟩
   exact⟨_,_,_,rfl,pp,d,rfl,hT⟩
  ·have g:¬whatK k c=0:=by simpa using g
   have g1:¬whatK k c=1:=by simpa using g1
   have g2:¬whatK k c=2:=by simpa using g2
   have g3:¬whatK k c=3:=by simpa using g3
   have g4:whatK k c=9:=by simpa using g4
   rw[if_neg g,if_neg g1,if_neg g2,if_neg g3,if_pos g4,if_pos (.inr (.inr (.inr g4)))]
   refine⟨(klie_ok h7 hnow c).mono ?_⟩
   rintro e w9 ⟨rfl,hT⟩
   exact⟨rfl,Told_Kdo.nil hT⟩
  ·have g:¬whatK k c=0:=by simpa using g
   have g1:¬whatK k c=1:=by simpa using g1
   have g2:¬whatK k c=2:=by simpa using g2
   have g3:¬whatK k c=3:=by simpa using g3
   have g4:¬whatK k c=9:=by simpa using g4
   rw[if_neg g,if_neg g1,if_neg g2,if_neg g3,if_neg g4,if_neg (by omega),if_neg g3]
   refine⟨(kthing_ok hTab h0 h7 c _).mono ?_⟩
   rintro e w9 ⟨pp,d,rfl,hT⟩
   exact⟨_,_,_,rfl,pp,d,rfl,hT⟩
 refine⟨_,rfl,_,(lb_blk hS).cell rfl,fun g=>?_,fun g=>last _ hS.drop⟩
 obtain⟨q6,hq6⟩:=KO.fix hS.drop
 obtain⟨F6,hA6,kA6⟩:=KF.co hq6
 refine⟨_,rfl,_,(KF.blk hq6).cell2 rfl,fun g2=>⟨(ccount_ok hA6 c _).mono ?_⟩,fun g2=>⟨(ccount_ok hA6 c false).mono ?_⟩⟩
 ·rintro e w8 ⟨⟨n,rfl⟩,hT8⟩
  exact⟨_,rfl,last _ (KF.loose (kA6 _ _ hT8))⟩
 ·rintro e w8 ⟨⟨n,rfl⟩,hT8⟩
  exact⟨_,rfl,last _ (KF.loose (kA6 _ _ hT8))⟩
theorem krest_ok (hTab:Tab W) (h0:¬F 0) (h:Turn (KO b) W w F k) (e:Evt):Calls Tryz.prog 71 #[.pointer (some ⟨b,0,none⟩),.agg (evC e).toArray] w (Told_Kdo (KO b) W F (rstK k e) (rstR k e)):=by
 refine u71 ?_
 rw[t71]
 refine⟨fun w1 hN=>?_⟩
 have hS:Turn (Star (KO b) (Lb w.heap.size 33)) W w1 F (k,evC e):=h.add (hN.upd no) (Rw.new hN rfl) (fun i hi=>Nat.le_of_eq hi.symm)
 generalize w.heap.size=p at hS⊢
 have hL:=lb_blk hS
 have hd:Turn (KO b) W w1 F k:=hS.drop
 refine⟨_,hL.cell rfl,fun g=>?_,fun g=>⟨fun g1=>?_,fun g1=>⟨fun g2=>?_,fun g2=>⟨fun g3=>?_,fun g3=>⟨fun g4=>?_,fun g4=>⟨fun g5=>?_,fun g5=>⟨fun g6=>?_,fun g6=>?_⟩⟩⟩⟩⟩⟩⟩
 ·have g:e.1=11:=by simpa using g
  refine⟨_,hL.cell rfl,⟨(kcancel_ok hd e.2.2.1).mono ?_⟩⟩
  rintro e' w2 ⟨rfl,hT⟩
  exact⟨_,rfl,⟨told_p (x:=cancelKE k e.2.2.1) hT (by unfold rstK;rw[if_pos g]) (by unfold rstR;rw[if_pos g])⟩⟩
 ·have g:¬e.1=11:=by simpa using g
  have g1:e.1=19:=by simpa using g1
  refine⟨_,hL.cell rfl,⟨(kflush_ok hd e.2.2.1).mono ?_⟩⟩
  rintro e' w2 ⟨rfl,rfl⟩
  exact⟨_,_,rfl,⟨told_a (x:=flushE k e.2.2.1) hd (by unfold rstK;rw[if_neg g,if_pos g1]) (by unfold rstR;rw[if_neg g,if_pos g1])⟩⟩
 ·have g:¬e.1=11:=by simpa using g
  have g1:¬e.1=19:=by simpa using g1
  have g2:e.1=25:=by simpa using g2
  refine⟨_,hL.cell rfl,⟨(kplan_ok hd e.2.2.2.2).mono ?_⟩⟩
  rintro e' w2 ⟨rfl,hT⟩
  exact⟨_,rfl,⟨told_p (x:=planE e.2.2.2.2) hT (by unfold rstK;rw[if_neg g,if_neg g1,if_pos g2]) (by unfold rstR;rw[if_neg g,if_neg g1,if_pos g2])⟩⟩
 ·have g:¬e.1=11:=by simpa using g
  have g1:¬e.1=19:=by simpa using g1
  have g2:¬e.1=25:=by simpa using g2
  have g3:e.1=27:=by simpa using g3
  intro w3 q1 q2 q3 q4
  have hS:=hS.upd (Upd.same no q1 q2 q3 q4)
  obtain⟨q,F1,_,hK,kK⟩:=KS.fix hS
  obtain⟨F2,hA,kA⟩:=KF.ga hK
  refine⟨_,rfl,_,(KF.blk hK).cell2 rfl,_,(lb_blk hS).cell rfl,⟨(gleave_ok hA e.2.1).mono ?_⟩⟩
  rintro e' w4 ⟨rfl,hT⟩
  exact⟨_,rfl,⟨told_p (x:=leaE k.ga e.2.1) (kK _ _ (kA _ _ hT)).drop (by unfold rstK;rw[if_neg g,if_neg g1,if_neg g2,if_pos g3]) (by unfold rstR;rw[if_neg g,if_neg g1,if_neg g2,if_pos g3])⟩⟩
 ·have g:¬e.1=11:=by simpa using g
  have g1:¬e.1=19:=by simpa using g1
  have g2:¬e.1=25:=by simpa using g2
  have g3:¬e.1=27:=by simpa using g3
  have g4:e.1=28:=by simpa using g4
  refine⟨_,hL.cell rfl,⟨(klimits_ok hd e.2.2.2.2).mono ?_⟩⟩
  rintro e' w2 ⟨rfl,hT⟩
  exact⟨_,rfl,⟨told_p (x:=limE e.2.2.2.2) hT (by unfold rstK;rw[if_neg g,if_neg g1,if_neg g2,if_neg g3,if_pos g4]) (by unfold rstR;rw[if_neg g,if_neg g1,if_neg g2,if_neg g3,if_pos g4])⟩⟩
 ·have g:¬e.1=11:=by simpa using g
  have g1:¬e.1=19:=by simpa using g1
  have g2:¬e.1=25:=by simpa using g2
  have g3:¬e.1=27:=by simpa using g3
  have g4:¬e.1=28:=by simpa using g4
  have g5:e.1=29:=by simpa using g5
  refine⟨_,hL.cell rfl,_,hL.cell rfl,⟨(kspeed_ok hd e.2.2.1 e.2.2.2.2).mono ?_⟩⟩
  rintro e' w2 ⟨rfl,hT⟩
  exact⟨_,rfl,⟨told_p (x:=speedE e.2.2.1 e.2.2.2.2) hT (by unfold rstK;rw[if_neg g,if_neg g1,if_neg g2,if_neg g3,if_neg g4,if_pos g5]) (by unfold rstR;rw[if_neg g,if_neg g1,if_neg g2,if_neg g3,if_neg g4,if_pos g5])⟩⟩
 ·have g:¬e.1=11:=by simpa using g
  have g1:¬e.1=19:=by simpa using g1
  have g2:¬e.1=25:=by simpa using g2
  have g3:¬e.1=27:=by simpa using g3
  have g4:¬e.1=28:=by simpa using g4
  have g5:¬e.1=29:=by simpa using g5
  have g6:e.1=30:=by simpa using g6
  refine⟨(kbalance_ok hTab h0 hd).mono ?_⟩
  rintro e' w2 ⟨rfl,hT⟩
  exact⟨_,rfl,⟨told_a (x:=(balId k,0)) hT (by unfold rstK;rw[if_neg g,if_neg g1,if_neg g2,if_neg g3,if_neg g4,if_neg g5,if_pos g6]) (by unfold rstR;rw[if_neg g,if_neg g1,if_neg g2,if_neg g3,if_neg g4,if_neg g5,if_pos g6])⟩⟩
 ·have g:¬e.1=11:=by simpa using g
  have g1:¬e.1=19:=by simpa using g1
  have g2:¬e.1=25:=by simpa using g2
  have g3:¬e.1=27:=by simpa using g3
  have g4:¬e.1=28:=by simpa using g4
  have g5:¬e.1=29:=by simpa using g5
  have g6:¬e.1=30:=by simpa using g6
  exact⟨told_p (x:=2) hd (by unfold rstK;rw[if_neg g,if_neg g1,if_neg g2,if_neg g3,if_neg g4,if_neg g5,if_neg g6]) (by unfold rstR;rw[if_neg g,if_neg g1,if_neg g2,if_neg g3,if_neg g4,if_neg g5,if_neg g6])⟩
theorem told_c {f:FuncId} {args:Array Value} {k':K} {rs rs':List Rc} (h:Calls Tryz.prog f args w (Told_Kdo (KO b) W F k rs)) (e1:k=k') (e2:rs=rs'):Calls Tryz.prog f args w fun e w'=>∃p n c,e=.returned (.slice p n c)/\Told_Kdo (KO b) W F k' rs' (.returned (.slice p n c)) w':=by
 subst e1
 subst e2
 refine h.mono ?_
 rintro e w1 ⟨p,c,rfl,hT⟩
 exact⟨_,_,_,rfl,p,c,rfl,hT⟩
theorem do_thr {e:Evt} (h:4<=e.1/\e.1<=9):thrK k e=doK k e/\thrR k e=doR k e:=by
 unfold doK doR
 simp only[if_neg (show ¬e.1=1 by omega),if_neg (show ¬e.1=2 by omega),if_neg (show ¬e.1=3 by omega),if_pos h]
 exact⟨trivial,trivial⟩
theorem do_irq {e:Evt} (h:12<=e.1/\e.1<=17):irqK k e=doK k e/\plaR (irqE' k e)=doR k e:=by
 unfold doK doR
 simp only[if_neg (show ¬e.1=1 by omega),if_neg (show ¬e.1=2 by omega),if_neg (show ¬e.1=3 by omega),if_neg (show ¬(4<=e.1/\e.1<=9) by omega),if_pos h]
 exact⟨trivial,trivial⟩
theorem do_plc {e:Evt} (h:e.1=10∨e.1=20∨e.1=21∨e.1=22∨e.1=26∨(e.1=18/\¬e.2.1 = -1)):plcK k e=doK k e/\plcR k e=doR k e:=by
 unfold doK doR
 simp only[if_neg (show ¬e.1=1 by omega),if_neg (show ¬e.1=2 by omega),if_neg (show ¬e.1=3 by omega),if_neg (show ¬(4<=e.1/\e.1<=9) by omega),if_neg (show ¬(12<=e.1/\e.1<=17) by omega)]
 by_cases h18:e.1=18
 ·rw[if_pos h18,if_pos h18,if_neg (by omega),if_neg (by omega)];exact⟨rfl,rfl⟩
 ·rw[if_neg h18,if_neg h18,if_pos (by omega),if_pos (by omega)];exact⟨rfl,rfl⟩
theorem do_req {e:Evt} (h:e.1=23∨e.1=24):reqKS k (decide (e.1=23)) e.2.1=doK k e/\plaR (reqKE k (decide (e.1=23)) e.2.1)=doR k e:=by
 unfold doK doR
 simp only[if_neg (show ¬e.1=1 by omega),if_neg (show ¬e.1=2 by omega),if_neg (show ¬e.1=3 by omega),if_neg (show ¬(4<=e.1/\e.1<=9) by omega),if_neg (show ¬(12<=e.1/\e.1<=17) by omega),if_neg (show ¬e.1=18 by omega),if_neg (show ¬(e.1=10∨e.1=20∨e.1=21∨e.1=22∨e.1=26) by omega),if_pos h]
 exact⟨trivial,trivial⟩
theorem kdo_ok (hTab:Tab W) (h0:¬F 0) (h:Turn (KO b) W w F k) (hnow:k.tm.now=k.now) (e:Evt):Calls Tryz.prog 12 #[.pointer (some ⟨b,0,none⟩),.agg (evC e).toArray] w (Told_Kdo (KO b) W F (doK k e) (doR k e)):=by
 have hn:1<=k.n:=by
  obtain⟨q,hq⟩:=KO.fix h
  exact(KF.num hq).1
 refine u12 ?_
 rw[t12]
 refine⟨fun w1 hN=>?_⟩
 have hS:Turn (Star (KO b) (Lb w.heap.size 33)) W w1 F (k,evC e):=h.add (hN.upd no) (Rw.new hN rfl) (fun i hi=>Nat.le_of_eq hi.symm)
 generalize w.heap.size=p at hS⊢
 have hL:=lb_blk hS
 have hd:Turn (KO b) W w1 F k:=hS.drop
 refine⟨fun g=>(by cases g),fun _=>⟨_,hL.cell rfl,fun g1=>?c1,fun g1=>⟨fun g2=>?c2,fun g2=>⟨fun g3=>?c3,fun g3=>⟨fun g4=>?c4,fun g4=>⟨fun g5=>?c5,fun g5=>⟨fun g6=>?c6,fun g6=>⟨fun g7=>?c7,fun g7=>⟨fun g8=>?c8,fun g8=>⟨fun g9=>?c9,fun g9=>⟨fun g12=>?c12,fun g12=>⟨fun g13=>?c13,fun g13=>⟨fun g14=>?c14,fun g14=>⟨fun g15=>?c15,fun g15=>⟨fun g16=>?c16,fun g16=>⟨fun g17=>?c17,fun g17=>⟨fun g18=>?c18,fun g18=>⟨fun g10=>?c10,fun g10=>⟨fun g20=>?c20,fun g20=>⟨fun g21=>?c21,fun g21=>⟨fun g22=>?c22,fun g22=>⟨fun g26=>?c26,fun g26=>⟨fun g23=>?c23,fun g23=>⟨fun g24=>?c24,fun g24=>?c0⟩⟩⟩⟩⟩⟩⟩⟩⟩⟩⟩⟩⟩⟩⟩⟩⟩⟩⟩⟩⟩⟩⟩⟩
 case c1=>
  have g1:e.1=1:=by simpa using g1
  have e1:doK k e=if e.2.1<0∨k.n<=e.2.1 then k else stepK k e.2.1:=by unfold doK;rw[if_pos g1]
  have e2:doR k e=if e.2.1<0∨k.n<=e.2.1 then plaR 3 else stepR k e.2.1:=by unfold doR;rw[if_pos g1]
  rw[e1,e2]
  intro w2 q1 q2 q3 q4
  replace hS:=hS.upd (Upd.same no q1 q2 q3 q4)
  have hL:=lb_blk hS
  obtain⟨q,hq⟩:=KO.fix hS.drop
  refine⟨_,hL.cell rfl,fun g=>⟨_,hL.cell rfl,_,rfl,_,(KF.blk hq).cell rfl,fun g2=>⟨told_p (x:=3) hS.drop ?_ ?_⟩,fun g2=>⟨_,hL.cell rfl,⟨told_c (kstep_ok hTab h0 hS.drop hnow e.2.1) ?_ ?_⟩⟩⟩,fun g=>⟨told_p (x:=3) hS.drop ?_ ?_⟩⟩
  ·rw[if_pos (.inr (of_decide_eq_true g2))]
  ·rw[if_pos (.inr (of_decide_eq_true g2))]
  ·have:=of_decide_eq_false g;have:=of_decide_eq_false g2;dsimp only at this;rw[if_neg (by omega)]
  ·have:=of_decide_eq_false g;have:=of_decide_eq_false g2;dsimp only at this;rw[if_neg (by omega)]
  ·rw[if_pos (.inl (of_decide_eq_true g))]
  ·rw[if_pos (.inl (of_decide_eq_true g))]
 case c2=>
  have g1:¬e.1=1:=by simpa using g1
  have g2:e.1=2:=by simpa using g2
  refine⟨_,hL.cell rfl,⟨(ktick_ok hd e.2.2.2.2).mono ?_⟩⟩
  rintro e' w2 ⟨rfl,hT⟩
  exact⟨_,rfl,⟨told_p (x:=tickE k e.2.2.2.2) hT (by unfold doK;rw[if_neg g1,if_pos g2]) (by unfold doR;rw[if_neg g1,if_pos g2])⟩⟩
 case c3=>
  have g1:¬e.1=1:=by simpa using g1
  have g2:¬e.1=2:=by simpa using g2
  have g3:e.1=3:=by simpa using g3
  refine⟨_,hL.cell rfl,_,hL.cell rfl,⟨(kspawn_ok hTab h0 hn hd e.2.2.1 e.2.2.2.1).mono ?_⟩⟩
  rintro e' w2 ⟨rfl,hT⟩
  exact⟨_,_,rfl,⟨told_a (x:=spawnE k e.2.2.1 e.2.2.2.1) hT (by unfold doK;rw[if_neg g1,if_neg g2,if_pos g3]) (by unfold doR;rw[if_neg g1,if_neg g2,if_pos g3])⟩⟩
 case c4=>
  have g:e.1=4:=by simpa using g4
  obtain⟨e1,e2⟩:=do_thr (k:=k) (e:=e) (by omega)
  exact⟨_,hL.cell rfl,_,hL.cell rfl,_,hL.cell rfl,_,hL.cell rfl,_,hL.cell rfl,⟨told_c (kthreaded_ok hTab h0 hd e) e1 e2⟩⟩
 case c5=>
  have g:e.1=5:=by simpa using g5
  obtain⟨e1,e2⟩:=do_thr (k:=k) (e:=e) (by omega)
  exact⟨_,hL.cell rfl,_,hL.cell rfl,_,hL.cell rfl,_,hL.cell rfl,_,hL.cell rfl,⟨told_c (kthreaded_ok hTab h0 hd e) e1 e2⟩⟩
 case c6=>
  have g:e.1=6:=by simpa using g6
  obtain⟨e1,e2⟩:=do_thr (k:=k) (e:=e) (by omega)
  exact⟨_,hL.cell rfl,_,hL.cell rfl,_,hL.cell rfl,_,hL.cell rfl,_,hL.cell rfl,⟨told_c (kthreaded_ok hTab h0 hd e) e1 e2⟩⟩
 case c7=>
  have g:e.1=7:=by simpa using g7
  obtain⟨e1,e2⟩:=do_thr (k:=k) (e:=e) (by omega)
  exact⟨_,hL.cell rfl,_,hL.cell rfl,_,hL.cell rfl,_,hL.cell rfl,_,hL.cell rfl,⟨told_c (kthreaded_ok hTab h0 hd e) e1 e2⟩⟩
 case c8=>
  have g:e.1=8:=by simpa using g8
  obtain⟨e1,e2⟩:=do_thr (k:=k) (e:=e) (by omega)
  exact⟨_,hL.cell rfl,_,hL.cell rfl,_,hL.cell rfl,_,hL.cell rfl,_,hL.cell rfl,⟨told_c (kthreaded_ok hTab h0 hd e) e1 e2⟩⟩
 case c9=>
  have g:e.1=9:=by simpa using g9
  obtain⟨e1,e2⟩:=do_thr (k:=k) (e:=e) (by omega)
  exact⟨_,hL.cell rfl,_,hL.cell rfl,_,hL.cell rfl,_,hL.cell rfl,_,hL.cell rfl,⟨told_c (kthreaded_ok hTab h0 hd e) e1 e2⟩⟩
 case c12=>
  have g:e.1=12:=by simpa using g12
  obtain⟨e1,e2⟩:=do_irq (k:=k) (e:=e) (by omega)
  refine⟨_,hL.cell rfl,_,hL.cell rfl,_,hL.cell rfl,_,hL.cell rfl,_,hL.cell rfl,⟨(kinterrupt_ok hTab h0 hn hd e).mono ?_⟩⟩
  rintro e' w2 ⟨rfl,hT⟩
  exact⟨_,rfl,⟨told_p (x:=irqE' k e) hT e1 e2.symm⟩⟩
 case c13=>
  have g:e.1=13:=by simpa using g13
  obtain⟨e1,e2⟩:=do_irq (k:=k) (e:=e) (by omega)
  refine⟨_,hL.cell rfl,_,hL.cell rfl,_,hL.cell rfl,_,hL.cell rfl,_,hL.cell rfl,⟨(kinterrupt_ok hTab h0 hn hd e).mono ?_⟩⟩
  rintro e' w2 ⟨rfl,hT⟩
  exact⟨_,rfl,⟨told_p (x:=irqE' k e) hT e1 e2.symm⟩⟩
 case c14=>
  have g:e.1=14:=by simpa using g14
  obtain⟨e1,e2⟩:=do_irq (k:=k) (e:=e) (by omega)
  refine⟨_,hL.cell rfl,_,hL.cell rfl,_,hL.cell rfl,_,hL.cell rfl,_,hL.cell rfl,⟨(kinterrupt_ok hTab h0 hn hd e).mono ?_⟩⟩
  rintro e' w2 ⟨rfl,hT⟩
  exact⟨_,rfl,⟨told_p (x:=irqE' k e) hT e1 e2.symm⟩⟩
 case c15=>
  have g:e.1=15:=by simpa using g15
  obtain⟨e1,e2⟩:=do_irq (k:=k) (e:=e) (by omega)
  refine⟨_,hL.cell rfl,_,hL.cell rfl,_,hL.cell rfl,_,hL.cell rfl,_,hL.cell rfl,⟨(kinterrupt_ok hTab h0 hn hd e).mono ?_⟩⟩
  rintro e' w2 ⟨rfl,hT⟩
  exact⟨_,rfl,⟨told_p (x:=irqE' k e) hT e1 e2.symm⟩⟩
 case c16=>
  have g:e.1=16:=by simpa using g16
  obtain⟨e1,e2⟩:=do_irq (k:=k) (e:=e) (by omega)
  refine⟨_,hL.cell rfl,_,hL.cell rfl,_,hL.cell rfl,_,hL.cell rfl,_,hL.cell rfl,⟨(kinterrupt_ok hTab h0 hn hd e).mono ?_⟩⟩
  rintro e' w2 ⟨rfl,hT⟩
  exact⟨_,rfl,⟨told_p (x:=irqE' k e) hT e1 e2.symm⟩⟩
 case c17=>
  have g:e.1=17:=by simpa using g17
  obtain⟨e1,e2⟩:=do_irq (k:=k) (e:=e) (by omega)
  refine⟨_,hL.cell rfl,_,hL.cell rfl,_,hL.cell rfl,_,hL.cell rfl,_,hL.cell rfl,⟨(kinterrupt_ok hTab h0 hn hd e).mono ?_⟩⟩
  rintro e' w2 ⟨rfl,hT⟩
  exact⟨_,rfl,⟨told_p (x:=irqE' k e) hT e1 e2.symm⟩⟩
 case c18=>
  have g:e.1=18:=by simpa using g18
  refine⟨_,hL.cell rfl,fun g2=>?_,fun g2=>?_⟩
  ·have g2:e.2.1 = -1:=by simpa using g2
   obtain⟨q,F1,_,hK,kK⟩:=KS.fix hS
   obtain⟨F2,hA,kA⟩:=KF.wk hK
   refine⟨_,rfl,_,(KF.blk hK).cell2 rfl,⟨(wqueue_ok hA (hS.tab hTab h0) (-1)).mono ?_⟩⟩
   rintro e' w4 ⟨rfl,hT⟩
   refine⟨_,_,rfl,⟨told_a (x:=quE k.wk (-1)) (kK _ _ (kA _ _ hT)).drop ?_ ?_⟩⟩
   ·unfold doK
    rw[if_neg (by omega),if_neg (by omega),if_neg (by omega),if_neg (by omega),if_neg (by omega),if_pos g,if_pos g2]
   ·unfold doR
    rw[if_neg (by omega),if_neg (by omega),if_neg (by omega),if_neg (by omega),if_neg (by omega),if_pos g,if_pos g2]
  ·have g2:¬e.2.1 = -1:=by simpa using g2
   obtain⟨e1,e2⟩:=do_plc (k:=k) (e:=e) (by omega)
   exact⟨_,hL.cell rfl,_,hL.cell rfl,_,hL.cell rfl,_,hL.cell rfl,_,hL.cell rfl,⟨told_c (kplaced_ok hTab h0 hd e) e1 e2⟩⟩
 case c10=>
  have g:e.1=10:=by simpa using g10
  obtain⟨e1,e2⟩:=do_plc (k:=k) (e:=e) (by omega)
  exact⟨_,hL.cell rfl,_,hL.cell rfl,_,hL.cell rfl,_,hL.cell rfl,_,hL.cell rfl,⟨told_c (kplaced_ok hTab h0 hd e) e1 e2⟩⟩
 case c20=>
  have g:e.1=20:=by simpa using g20
  obtain⟨e1,e2⟩:=do_plc (k:=k) (e:=e) (by omega)
  exact⟨_,hL.cell rfl,_,hL.cell rfl,_,hL.cell rfl,_,hL.cell rfl,_,hL.cell rfl,⟨told_c (kplaced_ok hTab h0 hd e) e1 e2⟩⟩
 case c21=>
  have g:e.1=21:=by simpa using g21
  obtain⟨e1,e2⟩:=do_plc (k:=k) (e:=e) (by omega)
  exact⟨_,hL.cell rfl,_,hL.cell rfl,_,hL.cell rfl,_,hL.cell rfl,_,hL.cell rfl,⟨told_c (kplaced_ok hTab h0 hd e) e1 e2⟩⟩
 case c22=>
  have g:e.1=22:=by simpa using g22
  obtain⟨e1,e2⟩:=do_plc (k:=k) (e:=e) (by omega)
  exact⟨_,hL.cell rfl,_,hL.cell rfl,_,hL.cell rfl,_,hL.cell rfl,_,hL.cell rfl,⟨told_c (kplaced_ok hTab h0 hd e) e1 e2⟩⟩
 case c26=>
  have g:e.1=26:=by simpa using g26
  obtain⟨e1,e2⟩:=do_plc (k:=k) (e:=e) (by omega)
  exact⟨_,hL.cell rfl,_,hL.cell rfl,_,hL.cell rfl,_,hL.cell rfl,_,hL.cell rfl,⟨told_c (kplaced_ok hTab h0 hd e) e1 e2⟩⟩
 case c23=>
  have g:e.1=23:=by simpa using g23
  obtain⟨e1,e2⟩:=do_req (k:=k) (e:=e) (by omega)
  refine⟨_,hL.cell rfl,_,hL.cell rfl,⟨(krequest_ok hTab h0 hd (decide (e.1=23)) e.2.1).mono ?_⟩⟩
  rintro e' w2 ⟨rfl,hT⟩
  exact⟨_,rfl,⟨told_p (x:=reqKE k (decide (e.1=23)) e.2.1) hT e1 e2.symm⟩⟩
 case c24=>
  have g:e.1=24:=by simpa using g24
  obtain⟨e1,e2⟩:=do_req (k:=k) (e:=e) (by omega)
  refine⟨_,hL.cell rfl,_,hL.cell rfl,⟨(krequest_ok hTab h0 hd (decide (e.1=23)) e.2.1).mono ?_⟩⟩
  rintro e' w2 ⟨rfl,hT⟩
  exact⟨_,rfl,⟨told_p (x:=reqKE k (decide (e.1=23)) e.2.1) hT e1 e2.symm⟩⟩
 case c0=>
  have g1:¬e.1=1:=by simpa using g1
  have g2:¬e.1=2:=by simpa using g2
  have g3:¬e.1=3:=by simpa using g3
  have g4:¬e.1=4:=by simpa using g4
  have g5:¬e.1=5:=by simpa using g5
  have g6:¬e.1=6:=by simpa using g6
  have g7:¬e.1=7:=by simpa using g7
  have g8:¬e.1=8:=by simpa using g8
  have g9:¬e.1=9:=by simpa using g9
  have g12:¬e.1=12:=by simpa using g12
  have g13:¬e.1=13:=by simpa using g13
  have g14:¬e.1=14:=by simpa using g14
  have g15:¬e.1=15:=by simpa using g15
  have g16:¬e.1=16:=by simpa using g16
  have g17:¬e.1=17:=by simpa using g17
  have g18:¬e.1=18:=by simpa using g18
  have g10:¬e.1=10:=by simpa using g10
  have g20:¬e.1=20:=by simpa using g20
  have g21:¬e.1=21:=by simpa using g21
  have g22:¬e.1=22:=by simpa using g22
  have g26:¬e.1=26:=by simpa using g26
  have g23:¬e.1=23:=by simpa using g23
  have g24:¬e.1=24:=by simpa using g24
  have e1:rstK k e=doK k e:=by
   unfold doK
   rw[if_neg (by omega),if_neg (by omega),if_neg (by omega),if_neg (by omega),if_neg (by omega),if_neg (by omega),if_neg (by omega),if_neg (by omega)]
  have e2:rstR k e=doR k e:=by
   unfold doR
   rw[if_neg (by omega),if_neg (by omega),if_neg (by omega),if_neg (by omega),if_neg (by omega),if_neg (by omega),if_neg (by omega),if_neg (by omega)]
  refine CutD.mk ?_
  rw[t12_0]
  exact⟨_,hL.cell rfl,_,hL.cell rfl,_,hL.cell rfl,_,hL.cell rfl,_,hL.cell rfl,⟨told_c (krest_ok hTab h0 hd e) e1 e2⟩⟩
end
end Go.Dav
