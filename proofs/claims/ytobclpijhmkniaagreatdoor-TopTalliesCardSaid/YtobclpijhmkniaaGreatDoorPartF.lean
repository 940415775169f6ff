/- What functions of the program come to, part 6; the texts are made small to keep within a claim. -/
import Derived.Test.YtobclpijhmkniaaGreatDoorPartE
set_option linter.unusedVariables false
set_option linter.unusedSimpArgs false
set_option linter.unusedSectionVars false
namespace Go.Dav
open Go.Proofs
section
variable {b:Nat} {W w:World} {F:Fp} {k:K}
theorem kstep_ok (hTab:Tab W) (h0:¬F 0) (h:Turn (KO b) W w F k) (hnow:k.tm.now=k.now) (c:Int):Calls Tryz.prog 62 #[.pointer (some ⟨b,0,none⟩),.int .i64 c] w (Told_Kdo (KO b) W F (stepK k c) (stepR k c)):=by
 obtain⟨q,hq⟩:=KO.fix h
 have hB:=KF.blk hq
 obtain⟨F1,hA,_⟩:=KF.co hq
 refine u62 ?_
 rw[t62]
 refine⟨_,rfl,_,hB.cell2 rfl,⟨(cget_ok hA c).mono ?_⟩⟩
 rintro e w1 ⟨⟨n1,n2,rfl⟩,hU1⟩
 refine⟨_,_,_,_,_,_,_,rfl,⟨fun w2 hN=>?_⟩⟩
 have hS:Turn (Star (KO b) (Lb w1.heap.size 226)) W w2 F (k,[.bool false,.bool false,.int .i64 0,.int .i64 0,.int .i64 0,.int .i64 0]):=(h.upd hU1).add (hN.upd no) (Rw.new hN rfl) (fun i hi=>Nat.le_of_eq hi.symm)
 generalize w1.heap.size=p at hS⊢
 refine lb_wr (vs:=coE (gtO k.co c,n1,n2)) hS (by rfl) fun w3 hS=>?_
 intro w4 q1 q2 q3 q4
 replace hS:=hS.upd (Upd.same no q1 q2 q3 q4)
 have hL:=lb_blk hS
 obtain⟨F0,hK0,kK0⟩:=hS.left
 refine⟨_,hL.cell rfl,_,hL.cell rfl,_,hL.cell rfl,_,hL.cell rfl,_,hL.cell rfl,_,hL.cell rfl,⟨(kflags_ok (Turn.same hK0) c).mono ?_⟩⟩
 rintro e w5 ⟨rfl,hT5⟩
 replace hS:=kK0 _ _ hT5
 have hL5:=lb_blk hS
 refine⟨_,_,_,_,_,_,_,_,_,rfl,fun j v hv=>hL5.cell hv,⟨(cnext_ok (gtO k.co c,n1,n2) (flagsK k c) w5).mono ?_⟩⟩
 rintro e w6 ⟨rfl,hU6⟩
 replace hS:=hS.upd hU6
 have last:∀(w7:World),Turn (KO b) W w7 F k→CutD Tryz.prog M62 c62_0 (e62_0 (some ⟨b,0,none⟩) c (whatK k c)) w7 (k62_0 (Told_Kdo (KO b) W F (stepK k c) (stepR k c))):=by
  intro w7 h7
  refine CutD.mk ?_
  rw[t62_0]
  obtain⟨q7,hq7⟩:=KO.fix h7
  unfold stepK stepR
  refine⟨fun g=>?_,fun g=>⟨fun g1=>?_,fun g1=>⟨fun g2=>?_,fun g2=>⟨fun g3=>?_,fun g3=>⟨fun g4=>?_,fun g4=>?_⟩⟩⟩⟩⟩
  ·have g:whatK k c=0:=by simpa using g
   rw[if_pos g,if_pos (.inl g)]
   exact Told_Kdo.nil h7
  ·have g:¬whatK k c=0:=by simpa using g
   have g1:whatK k c=1:=by simpa using g1
   rw[if_neg g,if_pos g1,if_pos (.inr (.inl g1))]
   intro w8 q1 q2 q3 q4
   replace hq7:=hq7.upd (Upd.same no q1 q2 q3 q4)
   obtain⟨F8,hA8,kA8⟩:=KF.co hq7
   refine⟨_,rfl,_,(KF.blk hq7).cell2 rfl,_,rfl,_,(KF.blk hq7).cell rfl,⟨(cwake_ok hA8 c k.now).mono ?_⟩⟩
   rintro e w9 ⟨⟨n,m,rfl⟩,hT9⟩
   exact⟨_,_,rfl,Told_Kdo.nil (KF.loose (kA8 _ _ hT9))⟩
  ·have g:¬whatK k c=0:=by simpa using g
   have g1:¬whatK k c=1:=by simpa using g1
   have g2:whatK k c=2:=by simpa using g2
   rw[if_neg g,if_neg g1,if_pos g2,if_pos (.inr (.inr (.inl g2)))]
   obtain⟨F8,hA8,kA8⟩:=KF.so hq7
   refine⟨_,rfl,_,(KF.blk hq7).cell2 rfl,⟨(ack_ok hA8 c).mono ?_⟩⟩
   rintro e w9 ⟨rfl,hT9⟩
   exact⟨_,rfl,Told_Kdo.nil (KF.loose (kA8 _ _ hT9))⟩
  ·have g:¬whatK k c=0:=by simpa using g
   have g1:¬whatK k c=1:=by simpa using g1
   have g2:¬whatK k c=2:=by simpa using g2
   have g3:whatK k c=3:=by simpa using g3
   rw[if_neg g,if_neg g1,if_neg g2,if_pos g3,if_neg (by omega),if_pos g3]
   refine⟨(kturn_ok hTab h0 h7 c).mono ?_⟩
   rintro e w9 ⟨pp,d,rfl,hT⟩
   exact⟨_,_,_,rfl,pp,d,rfl,hT⟩
  ·have g:¬whatK k c=0:=by simpa using g
   have g1:¬whatK k c=1:=by simpa using g1
   have g2:¬whatK k c=2:=by simpa using g2
   have g3:¬whatK k c=3:=by simpa using g3
   have g4:whatK k c=9:=by simpa using g4
   rw[if_neg g,if_neg g1,if_neg g2,if_neg g3,if_pos g4,if_pos (.inr (.inr (.inr g4)))]
   refine⟨(klie_ok h7 hnow c).mono ?_⟩
   rintro e w9 ⟨rfl,hT⟩
   exact⟨rfl,Told_Kdo.nil hT⟩
  ·have g:¬whatK k c=0:=by simpa using g
   have g1:¬whatK k c=1:=by simpa using g1
   have g2:¬whatK k c=2:=by simpa using g2
   have g3:¬whatK k c=3:=by simpa using g3
   have g4:¬whatK k c=9:=by simpa using g4
   rw[if_neg g,if_neg g1,if_neg g2,if_neg g3,if_neg g4,if_neg (by omega),if_neg g3]
   refine⟨(kthing_ok hTab h0 h7 c _).mono ?_⟩
   rintro e w9 ⟨pp,d,rfl,hT⟩
   exact⟨_,_,_,rfl,pp,d,rfl,hT⟩
 refine⟨_,rfl,_,(lb_blk hS).cell rfl,fun g=>?_,fun g=>last _ hS.drop⟩
 obtain⟨q6,hq6⟩:=KO.fix hS.drop
 obtain⟨F6,hA6,kA6⟩:=KF.co hq6
 refine⟨_,rfl,_,(KF.blk hq6).cell2 rfl,fun g2=>⟨(ccount_ok hA6 c _).mono ?_⟩,fun g2=>⟨(ccount_ok hA6 c false).mono ?_⟩⟩
 ·rintro e w8 ⟨⟨n,rfl⟩,hT8⟩
  exact⟨_,rfl,last _ (KF.loose (kA6 _ _ hT8))⟩
 ·rintro e w8 ⟨⟨n,rfl⟩,hT8⟩
  exact⟨_,rfl,last _ (KF.loose (kA6 _ _ hT8))⟩
theorem krest_ok (hTab:Tab W) (h0:¬F 0) (h:Turn (KO b) W w F k) (e:Evt):Calls Tryz.prog 71 #[.pointer (some ⟨b,0,none⟩),.agg (evC e).toArray] w (Told_Kdo (KO b) W F (rstK k e) (rstR k e)):=by
 refine u71 ?_
 rw[t71]
 refine⟨fun w1 hN=>?_⟩
 have hS:Turn (Star (KO b) (Lb w.heap.size 33)) W w1 F (k,evC e):=h.add (hN.upd no) (Rw.new hN rfl) (fun i hi=>Nat.le_of_eq hi.symm)
 generalize w.heap.size=p at hS⊢
 have hL:=lb_blk hS
 have hd:Turn (KO b) W w1 F k:=hS.drop
 refine⟨_,hL.cell rfl,fun g=>?_,fun g=>⟨fun g1=>?_,fun g1=>⟨fun g2=>?_,fun g2=>⟨fun g3=>?_,fun g3=>⟨fun g4=>?_,fun g4=>⟨fun g5=>?_,fun g5=>⟨fun g6=>?_,fun g6=>?_⟩⟩⟩⟩⟩⟩⟩
 ·have g:e.1=11:=by simpa using g
  refine⟨_,hL.cell rfl,⟨(kcancel_ok hd e.2.2.1).mono ?_⟩⟩
  rintro e' w2 ⟨rfl,hT⟩
  exact⟨_,rfl,⟨told_p (x:=cancelKE k e.2.2.1) hT (by unfold rstK;rw[if_pos g]) (by unfold rstR;rw[if_pos g])⟩⟩
 ·have g:¬e.1=11:=by simpa using g
  have g1:e.1=19:=by simpa using g1
  refine⟨_,hL.cell rfl,⟨(kflush_ok hd e.2.2.1).mono ?_⟩⟩
  rintro e' w2 ⟨rfl,rfl⟩
  exact⟨_,_,rfl,⟨told_a (x:=flushE k e.2.2.1) hd (by unfold rstK;rw[if_neg g,if_pos g1]) (by unfold rstR;rw[if_neg g,if_pos g1])⟩⟩
 ·have g:¬e.1=11:=by simpa using g
  have g1:¬e.1=19:=by simpa using g1
  have g2:e.1=25:=by simpa using g2
  refine⟨_,hL.cell rfl,⟨(kplan_ok hd e.2.2.2.2).mono ?_⟩⟩
  rintro e' w2 ⟨rfl,hT⟩
  exact⟨_,rfl,⟨told_p (x:=planE e.2.2.2.2) hT (by unfold rstK;rw[if_neg g,if_neg g1,if_pos g2]) (by unfold rstR;rw[if_neg g,if_neg g1,if_pos g2])⟩⟩
 ·have g:¬e.1=11:=by simpa using g
  have g1:¬e.1=19:=by simpa using g1
  have g2:¬e.1=25:=by simpa using g2
  have g3:e.1=27:=by simpa using g3
  intro w3 q1 q2 q3 q4
  have hS:=hS.upd (Upd.same no q1 q2 q3 q4)
  obtain⟨q,F1,_,hK,kK⟩:=KS.fix hS
  obtain⟨F2,hA,kA⟩:=KF.ga hK
  refine⟨_,rfl,_,(KF.blk hK).cell2 rfl,_,(lb_blk hS).cell rfl,⟨(gleave_ok hA e.2.1).mono ?_⟩⟩
  rintro e' w4 ⟨rfl,hT⟩
  exact⟨_,rfl,⟨told_p (x:=leaE k.ga e.2.1) (kK _ _ (kA _ _ hT)).drop (by unfold rstK;rw[if_neg g,if_neg g1,if_neg g2,if_pos g3]) (by unfold rstR;rw[if_neg g,if_neg g1,if_neg g2,if_pos g3])⟩⟩
 ·have g:¬e.1=11:=by simpa using g
  have g1:¬e.1=19:=by simpa using g1
  have g2:¬e.1=25:=by simpa using g2
  have g3:¬e.1=27:=by simpa using g3
  have g4:e.1=28:=by simpa using g4
  refine⟨_,hL.cell rfl,⟨(klimits_ok hd e.2.2.2.2).mono ?_⟩⟩
  rintro e' w2 ⟨rfl,hT⟩
  exact⟨_,rfl,⟨told_p (x:=limE e.2.2.2.2) hT (by unfold rstK;rw[if_neg g,if_neg g1,if_neg g2,if_neg g3,if_pos g4]) (by unfold rstR;rw[if_neg g,if_neg g1,if_neg g2,if_neg g3,if_pos g4])⟩⟩
 ·have g:¬e.1=11:=by simpa using g
  have g1:¬e.1=19:=by simpa using g1
  have g2:¬e.1=25:=by simpa using g2
  have g3:¬e.1=27:=by simpa using g3
  have g4:¬e.1=28:=by simpa using g4
  have g5:e.1=29:=by simpa using g5
  refine⟨_,hL.cell rfl,_,hL.cell rfl,⟨(kspeed_ok hd e.2.2.1 e.2.2.2.2).mono ?_⟩⟩
  rintro e' w2 ⟨rfl,hT⟩
  exact⟨_,rfl,⟨told_p (x:=speedE e.2.2.1 e.2.2.2.2) hT (by unfold rstK;rw[if_neg g,if_neg g1,if_neg g2,if_neg g3,if_neg g4,if_pos g5]) (by unfold rstR;rw[if_neg g,if_neg g1,if_neg g2,if_neg g3,if_neg g4,if_pos g5])⟩⟩
 ·have g:¬e.1=11:=by simpa using g
  have g1:¬e.1=19:=by simpa using g1
  have g2:¬e.1=25:=by simpa using g2
  have g3:¬e.1=27:=by simpa using g3
  have g4:¬e.1=28:=by simpa using g4
  have g5:¬e.1=29:=by simpa using g5
  have g6:e.1=30:=by simpa using g6
  refine⟨(kbalance_ok hTab h0 hd).mono ?_⟩
  rintro e' w2 ⟨rfl,hT⟩
  exact⟨_,rfl,⟨told_a (x:=(balId k,0)) hT (by unfold rstK;rw[if_neg g,if_neg g1,if_neg g2,if_neg g3,if_neg g4,if_neg g5,if_pos g6]) (by unfold rstR;rw[if_neg g,if_neg g1,if_neg g2,if_neg g3,if_neg g4,if_neg g5,if_pos g6])⟩⟩
 ·have g:¬e.1=11:=by simpa using g
  have g1:¬e.1=19:=by simpa using g1
  have g2:¬e.1=25:=by simpa using g2
  have g3:¬e.1=27:=by simpa using g3
  have g4:¬e.1=28:=by simpa using g4
  have g5:¬e.1=29:=by simpa using g5
  have g6:¬e.1=30:=by simpa using g6
  exact⟨told_p (x:=2) hd (by unfold rstK;rw[if_neg g,if_neg g1,if_neg g2,if_neg g3,if_neg g4,if_neg g5,if_neg g6]) (by unfold rstR;rw[if_neg g,if_neg g1,if_neg g2,if_neg g3,if_neg g4,if_neg g5,if_neg g6])⟩
theorem told_c {f:FuncId} {args:Array Value} {k':K} {rs rs':List Rc} (h:Calls Tryz.prog f args w (Told_Kdo (KO b) W F k rs)) (e1:k=k') (e2:rs=rs'):Calls Tryz.prog f args w fun e w'=>∃p n c,e=.returned (.slice p n c)∧Told_Kdo (KO b) W F k' rs' (.returned (.slice p n c)) w':=by
 subst e1
 subst e2
 refine h.mono ?_
 rintro e w1 ⟨p,c,rfl,hT⟩
 exact⟨_,_,_,rfl,p,c,rfl,hT⟩
theorem do_thr {e:Evt} (h:4≤e.1∧e.1≤9):thrK k e=doK k e∧thrR k e=doR k e:=by
 unfold doK doR
 simp only[if_neg (show ¬e.1=1 by omega),if_neg (show ¬e.1=2 by omega),if_neg (show ¬e.1=3 by omega),if_pos h]
 exact⟨trivial,trivial⟩
theorem do_irq {e:Evt} (h:12≤e.1∧e.1≤17):irqK k e=doK k e∧plaR (irqE' k e)=doR k e:=by
 unfold doK doR
 simp only[if_neg (show ¬e.1=1 by omega),if_neg (show ¬e.1=2 by omega),if_neg (show ¬e.1=3 by omega),if_neg (show ¬(4≤e.1∧e.1≤9) by omega),if_pos h]
 exact⟨trivial,trivial⟩
theorem do_plc {e:Evt} (h:e.1=10∨e.1=20∨e.1=21∨e.1=22∨e.1=26∨(e.1=18∧¬e.2.1 = -1)):plcK k e=doK k e∧plcR k e=doR k e:=by
 unfold doK doR
 simp only[if_neg (show ¬e.1=1 by omega),if_neg (show ¬e.1=2 by omega),if_neg (show ¬e.1=3 by omega),if_neg (show ¬(4≤e.1∧e.1≤9) by omega),if_neg (show ¬(12≤e.1∧e.1≤17) by omega)]
 by_cases h18:e.1=18
 ·rw[if_pos h18,if_pos h18,if_neg (by omega),if_neg (by omega)];exact⟨rfl,rfl⟩
 ·rw[if_neg h18,if_neg h18,if_pos (by omega),if_pos (by omega)];exact⟨rfl,rfl⟩
theorem do_req {e:Evt} (h:e.1=23∨e.1=24):reqKS k (decide (e.1=23)) e.2.1=doK k e∧plaR (reqKE k (decide (e.1=23)) e.2.1)=doR k e:=by
 unfold doK doR
 simp only[if_neg (show ¬e.1=1 by omega),if_neg (show ¬e.1=2 by omega),if_neg (show ¬e.1=3 by omega),if_neg (show ¬(4≤e.1∧e.1≤9) by omega),if_neg (show ¬(12≤e.1∧e.1≤17) by omega),if_neg (show ¬e.1=18 by omega),if_neg (show ¬(e.1=10∨e.1=20∨e.1=21∨e.1=22∨e.1=26) by omega),if_pos h]
 exact⟨trivial,trivial⟩
theorem kdo_ok (hTab:Tab W) (h0:¬F 0) (h:Turn (KO b) W w F k) (hnow:k.tm.now=k.now) (e:Evt):Calls Tryz.prog 12 #[.pointer (some ⟨b,0,none⟩),.agg (evC e).toArray] w (Told_Kdo (KO b) W F (doK k e) (doR k e)):=by
 have hn:1≤k.n:=by
  obtain⟨q,hq⟩:=KO.fix h
  exact(KF.num hq).1
 refine u12 ?_
 rw[t12]
 refine⟨fun w1 hN=>?_⟩
 have hS:Turn (Star (KO b) (Lb w.heap.size 33)) W w1 F (k,evC e):=h.add (hN.upd no) (Rw.new hN rfl) (fun i hi=>Nat.le_of_eq hi.symm)
 generalize w.heap.size=p at hS⊢
 have hL:=lb_blk hS
 have hd:Turn (KO b) W w1 F k:=hS.drop
 refine⟨fun g=>(by cases g),fun _=>⟨_,hL.cell rfl,fun g1=>?c1,fun g1=>⟨fun g2=>?c2,fun g2=>⟨fun g3=>?c3,fun g3=>⟨fun g4=>?c4,fun g4=>⟨fun g5=>?c5,fun g5=>⟨fun g6=>?c6,fun g6=>⟨fun g7=>?c7,fun g7=>⟨fun g8=>?c8,fun g8=>⟨fun g9=>?c9,fun g9=>⟨fun g12=>?c12,fun g12=>⟨fun g13=>?c13,fun g13=>⟨fun g14=>?c14,fun g14=>⟨fun g15=>?c15,fun g15=>⟨fun g16=>?c16,fun g16=>⟨fun g17=>?c17,fun g17=>⟨fun g18=>?c18,fun g18=>⟨fun g10=>?c10,fun g10=>⟨fun g20=>?c20,fun g20=>⟨fun g21=>?c21,fun g21=>⟨fun g22=>?c22,fun g22=>⟨fun g26=>?c26,fun g26=>⟨fun g23=>?c23,fun g23=>⟨fun g24=>?c24,fun g24=>?c0⟩⟩⟩⟩⟩⟩⟩⟩⟩⟩⟩⟩⟩⟩⟩⟩⟩⟩⟩⟩⟩⟩⟩⟩
 case c1=>
  have g1:e.1=1:=by simpa using g1
  have e1:doK k e=if e.2.1<0∨k.n≤e.2.1 then k else stepK k e.2.1:=by unfold doK;rw[if_pos g1]
  have e2:doR k e=if e.2.1<0∨k.n≤e.2.1 then plaR 3 else stepR k e.2.1:=by unfold doR;rw[if_pos g1]
  rw[e1,e2]
  intro w2 q1 q2 q3 q4
  replace hS:=hS.upd (Upd.same no q1 q2 q3 q4)
  have hL:=lb_blk hS
  obtain⟨q,hq⟩:=KO.fix hS.drop
  refine⟨_,hL.cell rfl,fun g=>⟨_,hL.cell rfl,_,rfl,_,(KF.blk hq).cell rfl,fun g2=>⟨told_p (x:=3) hS.drop ?_ ?_⟩,fun g2=>⟨_,hL.cell rfl,⟨told_c (kstep_ok hTab h0 hS.drop hnow e.2.1) ?_ ?_⟩⟩⟩,fun g=>⟨told_p (x:=3) hS.drop ?_ ?_⟩⟩
  ·rw[if_pos (.inr (of_decide_eq_true g2))]
  ·rw[if_pos (.inr (of_decide_eq_true g2))]
  ·have:=of_decide_eq_false g;have:=of_decide_eq_false g2;dsimp only at this;rw[if_neg (by omega)]
  ·have:=of_decide_eq_false g;have:=of_decide_eq_false g2;dsimp only at this;rw[if_neg (by omega)]
  ·rw[if_pos (.inl (of_decide_eq_true g))]
  ·rw[if_pos (.inl (of_decide_eq_true g))]
 case c2=>
  have g1:¬e.1=1:=by simpa using g1
  have g2:e.1=2:=by simpa using g2
  refine⟨_,hL.cell rfl,⟨(ktick_ok hd e.2.2.2.2).mono ?_⟩⟩
  rintro e' w2 ⟨rfl,hT⟩
  exact⟨_,rfl,⟨told_p (x:=tickE k e.2.2.2.2) hT (by unfold doK;rw[if_neg g1,if_pos g2]) (by unfold doR;rw[if_neg g1,if_pos g2])⟩⟩
 case c3=>
  have g1:¬e.1=1:=by simpa using g1
  have g2:¬e.1=2:=by simpa using g2
  have g3:e.1=3:=by simpa using g3
  refine⟨_,hL.cell rfl,_,hL.cell rfl,⟨(kspawn_ok hTab h0 hn hd e.2.2.1 e.2.2.2.1).mono ?_⟩⟩
  rintro e' w2 ⟨rfl,hT⟩
  exact⟨_,_,rfl,⟨told_a (x:=spawnE k e.2.2.1 e.2.2.2.1) hT (by unfold doK;rw[if_neg g1,if_neg g2,if_pos g3]) (by unfold doR;rw[if_neg g1,if_neg g2,if_pos g3])⟩⟩
 case c4=>
  have g:e.1=4:=by simpa using g4
  obtain⟨e1,e2⟩:=do_thr (k:=k) (e:=e) (by omega)
  exact⟨_,hL.cell rfl,_,hL.cell rfl,_,hL.cell rfl,_,hL.cell rfl,_,hL.cell rfl,⟨told_c (kthreaded_ok hTab h0 hd e) e1 e2⟩⟩
 case c5=>
  have g:e.1=5:=by simpa using g5
  obtain⟨e1,e2⟩:=do_thr (k:=k) (e:=e) (by omega)
  exact⟨_,hL.cell rfl,_,hL.cell rfl,_,hL.cell rfl,_,hL.cell rfl,_,hL.cell rfl,⟨told_c (kthreaded_ok hTab h0 hd e) e1 e2⟩⟩
 case c6=>
  have g:e.1=6:=by simpa using g6
  obtain⟨e1,e2⟩:=do_thr (k:=k) (e:=e) (by omega)
  exact⟨_,hL.cell rfl,_,hL.cell rfl,_,hL.cell rfl,_,hL.cell rfl,_,hL.cell rfl,⟨told_c (kthreaded_ok hTab h0 hd e) e1 e2⟩⟩
 case c7=>
  have g:e.1=7:=by simpa using g7
  obtain⟨e1,e2⟩:=do_thr (k:=k) (e:=e) (by omega)
  exact⟨_,hL.cell rfl,_,hL.cell rfl,_,hL.cell rfl,_,hL.cell rfl,_,hL.cell rfl,⟨told_c (kthreaded_ok hTab h0 hd e) e1 e2⟩⟩
 case c8=>
  have g:e.1=8:=by simpa using g8
  obtain⟨e1,e2⟩:=do_thr (k:=k) (e:=e) (by omega)
  exact⟨_,hL.cell rfl,_,hL.cell rfl,_,hL.cell rfl,_,hL.cell rfl,_,hL.cell rfl,⟨told_c (kthreaded_ok hTab h0 hd e) e1 e2⟩⟩
 case c9=>
  have g:e.1=9:=by simpa using g9
  obtain⟨e1,e2⟩:=do_thr (k:=k) (e:=e) (by omega)
  exact⟨_,hL.cell rfl,_,hL.cell rfl,_,hL.cell rfl,_,hL.cell rfl,_,hL.cell rfl,⟨told_c (kthreaded_ok hTab h0 hd e) e1 e2⟩⟩
 case c12=>
  have g:e.1=12:=by simpa using g12
  obtain⟨e1,e2⟩:=do_irq (k:=k) (e:=e) (by omega)
  refine⟨_,hL.cell rfl,_,hL.cell rfl,_,hL.cell rfl,_,hL.cell rfl,_,hL.cell rfl,⟨(kinterrupt_ok hTab h0 hn hd e).mono ?_⟩⟩
  rintro e' w2 ⟨rfl,hT⟩
  exact⟨_,rfl,⟨told_p (x:=irqE' k e) hT e1 e2.symm⟩⟩
 case c13=>
  have g:e.1=13:=by simpa using g13
  obtain⟨e1,e2⟩:=do_irq (k:=k) (e:=e) (by omega)
  refine⟨_,hL.cell rfl,_,hL.cell rfl,_,hL.cell rfl,_,hL.cell rfl,_,hL.cell rfl,⟨(kinterrupt_ok hTab h0 hn hd e).mono ?_⟩⟩
  rintro e' w2 ⟨rfl,hT⟩
  exact⟨_,rfl,⟨told_p (x:=irqE' k e) hT e1 e2.symm⟩⟩
 case c14=>
  have g:e.1=14:=by simpa using g14
  obtain⟨e1,e2⟩:=do_irq (k:=k) (e:=e) (by omega)
  refine⟨_,hL.cell rfl,_,hL.cell rfl,_,hL.cell rfl,_,hL.cell rfl,_,hL.cell rfl,⟨(kinterrupt_ok hTab h0 hn hd e).mono ?_⟩⟩
  rintro e' w2 ⟨rfl,hT⟩
  exact⟨_,rfl,⟨told_p (x:=irqE' k e) hT e1 e2.symm⟩⟩
 case c15=>
  have g:e.1=15:=by simpa using g15
  obtain⟨e1,e2⟩:=do_irq (k:=k) (e:=e) (by omega)
  refine⟨_,hL.cell rfl,_,hL.cell rfl,_,hL.cell rfl,_,hL.cell rfl,_,hL.cell rfl,⟨(kinterrupt_ok hTab h0 hn hd e).mono ?_⟩⟩
  rintro e' w2 ⟨rfl,hT⟩
  exact⟨_,rfl,⟨told_p (x:=irqE' k e) hT e1 e2.symm⟩⟩
 case c16=>
  have g:e.1=16:=by simpa using g16
  obtain⟨e1,e2⟩:=do_irq (k:=k) (e:=e) (by omega)
  refine⟨_,hL.cell rfl,_,hL.cell rfl,_,hL.cell rfl,_,hL.cell rfl,_,hL.cell rfl,⟨(kinterrupt_ok hTab h0 hn hd e).mono ?_⟩⟩
  rintro e' w2 ⟨rfl,hT⟩
  exact⟨_,rfl,⟨told_p (x:=irqE' k e) hT e1 e2.symm⟩⟩
 case c17=>
  have g:e.1=17:=by simpa using g17
  obtain⟨e1,e2⟩:=do_irq (k:=k) (e:=e) (by omega)
  refine⟨_,hL.cell rfl,_,hL.cell rfl,_,hL.cell rfl,_,hL.cell rfl,_,hL.cell rfl,⟨(kinterrupt_ok hTab h0 hn hd e).mono ?_⟩⟩
  rintro e' w2 ⟨rfl,hT⟩
  exact⟨_,rfl,⟨told_p (x:=irqE' k e) hT e1 e2.symm⟩⟩
 case c18=>
  have g:e.1=18:=by simpa using g18
  refine⟨_,hL.cell rfl,fun g2=>?_,fun g2=>?_⟩
  ·have g2:e.2.1 = -1:=by simpa using g2
   obtain⟨q,F1,_,hK,kK⟩:=KS.fix hS
   obtain⟨F2,hA,kA⟩:=KF.wk hK
   refine⟨_,rfl,_,(KF.blk hK).cell2 rfl,⟨(wqueue_ok hA (hS.tab hTab h0) (-1)).mono ?_⟩⟩
   rintro e' w4 ⟨rfl,hT⟩
   refine⟨_,_,rfl,⟨told_a (x:=quE k.wk (-1)) (kK _ _ (kA _ _ hT)).drop ?_ ?_⟩⟩
   ·unfold doK
    rw[if_neg (by omega),if_neg (by omega),if_neg (by omega),if_neg (by omega),if_neg (by omega),if_pos g,if_pos g2]
   ·unfold doR
    rw[if_neg (by omega),if_neg (by omega),if_neg (by omega),if_neg (by omega),if_neg (by omega),if_pos g,if_pos g2]
  ·have g2:¬e.2.1 = -1:=by simpa using g2
   obtain⟨e1,e2⟩:=do_plc (k:=k) (e:=e) (by omega)
   exact⟨_,hL.cell rfl,_,hL.cell rfl,_,hL.cell rfl,_,hL.cell rfl,_,hL.cell rfl,⟨told_c (kplaced_ok hTab h0 hd e) e1 e2⟩⟩
 case c10=>
  have g:e.1=10:=by simpa using g10
  obtain⟨e1,e2⟩:=do_plc (k:=k) (e:=e) (by omega)
  exact⟨_,hL.cell rfl,_,hL.cell rfl,_,hL.cell rfl,_,hL.cell rfl,_,hL.cell rfl,⟨told_c (kplaced_ok hTab h0 hd e) e1 e2⟩⟩
 case c20=>
  have g:e.1=20:=by simpa using g20
  obtain⟨e1,e2⟩:=do_plc (k:=k) (e:=e) (by omega)
  exact⟨_,hL.cell rfl,_,hL.cell rfl,_,hL.cell rfl,_,hL.cell rfl,_,hL.cell rfl,⟨told_c (kplaced_ok hTab h0 hd e) e1 e2⟩⟩
 case c21=>
  have g:e.1=21:=by simpa using g21
  obtain⟨e1,e2⟩:=do_plc (k:=k) (e:=e) (by omega)
  exact⟨_,hL.cell rfl,_,hL.cell rfl,_,hL.cell rfl,_,hL.cell rfl,_,hL.cell rfl,⟨told_c (kplaced_ok hTab h0 hd e) e1 e2⟩⟩
 case c22=>
  have g:e.1=22:=by simpa using g22
  obtain⟨e1,e2⟩:=do_plc (k:=k) (e:=e) (by omega)
  exact⟨_,hL.cell rfl,_,hL.cell rfl,_,hL.cell rfl,_,hL.cell rfl,_,hL.cell rfl,⟨told_c (kplaced_ok hTab h0 hd e) e1 e2⟩⟩
 case c26=>
  have g:e.1=26:=by simpa using g26
  obtain⟨e1,e2⟩:=do_plc (k:=k) (e:=e) (by omega)
  exact⟨_,hL.cell rfl,_,hL.cell rfl,_,hL.cell rfl,_,hL.cell rfl,_,hL.cell rfl,⟨told_c (kplaced_ok hTab h0 hd e) e1 e2⟩⟩
 case c23=>
  have g:e.1=23:=by simpa using g23
  obtain⟨e1,e2⟩:=do_req (k:=k) (e:=e) (by omega)
  refine⟨_,hL.cell rfl,_,hL.cell rfl,⟨(krequest_ok hTab h0 hd (decide (e.1=23)) e.2.1).mono ?_⟩⟩
  rintro e' w2 ⟨rfl,hT⟩
  exact⟨_,rfl,⟨told_p (x:=reqKE k (decide (e.1=23)) e.2.1) hT e1 e2.symm⟩⟩
 case c24=>
  have g:e.1=24:=by simpa using g24
  obtain⟨e1,e2⟩:=do_req (k:=k) (e:=e) (by omega)
  refine⟨_,hL.cell rfl,_,hL.cell rfl,⟨(krequest_ok hTab h0 hd (decide (e.1=23)) e.2.1).mono ?_⟩⟩
  rintro e' w2 ⟨rfl,hT⟩
  exact⟨_,rfl,⟨told_p (x:=reqKE k (decide (e.1=23)) e.2.1) hT e1 e2.symm⟩⟩
 case c0=>
  have g1:¬e.1=1:=by simpa using g1
  have g2:¬e.1=2:=by simpa using g2
  have g3:¬e.1=3:=by simpa using g3
  have g4:¬e.1=4:=by simpa using g4
  have g5:¬e.1=5:=by simpa using g5
  have g6:¬e.1=6:=by simpa using g6
  have g7:¬e.1=7:=by simpa using g7
  have g8:¬e.1=8:=by simpa using g8
  have g9:¬e.1=9:=by simpa using g9
  have g12:¬e.1=12:=by simpa using g12
  have g13:¬e.1=13:=by simpa using g13
  have g14:¬e.1=14:=by simpa using g14
  have g15:¬e.1=15:=by simpa using g15
  have g16:¬e.1=16:=by simpa using g16
  have g17:¬e.1=17:=by simpa using g17
  have g18:¬e.1=18:=by simpa using g18
  have g10:¬e.1=10:=by simpa using g10
  have g20:¬e.1=20:=by simpa using g20
  have g21:¬e.1=21:=by simpa using g21
  have g22:¬e.1=22:=by simpa using g22
  have g26:¬e.1=26:=by simpa using g26
  have g23:¬e.1=23:=by simpa using g23
  have g24:¬e.1=24:=by simpa using g24
  have e1:rstK k e=doK k e:=by
   unfold doK
   rw[if_neg (by omega),if_neg (by omega),if_neg (by omega),if_neg (by omega),if_neg (by omega),if_neg (by omega),if_neg (by omega),if_neg (by omega)]
  have e2:rstR k e=doR k e:=by
   unfold doR
   rw[if_neg (by omega),if_neg (by omega),if_neg (by omega),if_neg (by omega),if_neg (by omega),if_neg (by omega),if_neg (by omega),if_neg (by omega)]
  refine CutD.mk ?_
  rw[t12_0]
  exact⟨_,hL.cell rfl,_,hL.cell rfl,_,hL.cell rfl,_,hL.cell rfl,_,hL.cell rfl,⟨told_c (krest_ok hTab h0 hd e) e1 e2⟩⟩
end
end Go.Dav
namespace Go.Dav
open Go.Proofs
theorem FamL.perm {σ:Type} {A:Ob σ} {w:World} {l l':List σ} (h:l.Perm l'):∀{F:Fp},Fam A w F l→Fam A w F l':=by
 induction h with
 | nil=>exact fun h=>h
 | cons x _ ih=>
  rintro F ⟨F1,F2,h1,h2,h3,h4⟩
  exact⟨F1,F2,h1,ih h2,h3,h4⟩
 | swap x y l=>
  rintro F ⟨F1,F2,h1,⟨F3,F4,k1,k2,k3,k4⟩,h3,h4⟩
  refine⟨F3,fun i=>F1 i∨F4 i,k1,⟨F1,F4,h1,k2,fun _=>Iff.rfl,fun i hi hf=>h4 i hi ((k3 i).2 (.inr hf))⟩,fun i=>?_,fun i hi hf=>?_⟩
  ·rw[h3,k3]
   constructor
   ·rintro(h|h|h)
    ·exact .inr (.inl h)
    ·exact .inl h
    ·exact .inr (.inr h)
   ·rintro(h|h|h)
    ·exact .inr (.inl h)
    ·exact .inl h
    ·exact .inr (.inr h)
  ·rcases hf with h|h
   ·exact h4 i h ((k3 i).2 (.inl hi))
   ·exact k4 i hi h
 | trans _ _ ih1 ih2=>exact fun h=>ih2 (ih1 h)
abbrev NewG (b:Nat) (W w:World) (l:List KP) (c:List Value):Prop:=Mine W w (Star (Fam (KPO b)) (Rw b 94 (fun s=>s))) (l,c)
section
variable {b:Nat} {W w w':World} {l:List KP} {c:List Value}
theorem NewG.push (h:NewG b W w l c) (hU:Upd no w w') {s:KP} {G:Fp} (hA:KPO b w' G s) (hG:∀i,G i→w.heap.size≤i):NewG b W w' (l++[s]) c:=by
 obtain⟨F1,h1,k1⟩:=Mine.left h
 exact k1 _ _ (Fam.push h1 hU hA hG)
theorem NewG.wr (h:NewG b W w l c) {o:Nat} {v:List Value} (c':List Value) (hc:setL c o v=c') (ho:o+v.length≤c.length) {K:World→Prop} (hK:∀w',NewG b W w' l c'→K w'):Wr w (((⟨b,0,none⟩:Addr).add 0).add o) v K:=by
 obtain⟨F2,h2,k2⟩:=Mine.right h
 have e:((⟨b,0,none⟩:Addr).add 0).add o=(⟨b,0,none⟩:Addr).add o:=by simp[add_lit]
 rw[e]
 subst hc
 exact h2.blk.wr ho fun w' hW=>hK w' (k2 _ _ (h2.turned hW.U hW.blk'))
theorem NewG.blk (h:NewG b W w l c):Blk w b c 94:=by
 obtain⟨F2,h2,_⟩:=Mine.right h
 exact h2.blk
end
theorem rtnew_ok (n:Nat) (hn:1≤n∧n≤64) (w:World):Calls Tryz.prog 42 #[.int .i64 (n:Int)] w fun e w'=>∃b F,e=.returned (.tuple #[.pointer (some ⟨b,0,none⟩),.int .i64 0])∧RtO b w' F (n,List.replicate 16 (-1))∧Upd no w w'∧∀i,F i→w.heap.size≤i:=by
 refine u42 ?_
 rw[t42]
 refine⟨fun _=>⟨fun g=>?_,fun _=>⟨fun w1 hN=>⟨w.heap.size,fun i=>i=w.heap.size,rfl,⟨Rw.new hN rfl,⟨by simp,?_,fun v hv=>?_⟩⟩,hN.upd no,fun i hi=>Nat.le_of_eq hi.symm⟩⟩⟩,fun g=>?_⟩
 ·have:=of_decide_eq_true g;omega
 ·simp only;omega
 ·rw[List.eq_of_mem_replicate hv];omega
 ·have:=of_decide_eq_true g;omega
theorem needTh_ok (p:Option Addr) (n:Int) (w:World):Calls Tryz.prog 33 #[.pointer p,.int .i64 n] w fun e w'=>e=.returned (.pointer p)∧w'=w:=by
 refine u33 ?_
 rw[t33]
 exact⟨rfl,rfl⟩
theorem needRq_ok (p:Option Addr) (n:Int) (w:World):Calls Tryz.prog 35 #[.pointer p,.int .i64 n] w fun e w'=>e=.returned (.pointer p)∧w'=w:=by
 refine u35 ?_
 rw[t35]
 exact⟨rfl,rfl⟩
theorem needTm_ok (p:Option Addr) (n:Int) (w:World):Calls Tryz.prog 37 #[.pointer p,.int .i64 n] w fun e w'=>e=.returned (.pointer p)∧w'=w:=by
 refine u37 ?_
 rw[t37]
 exact⟨rfl,rfl⟩
theorem needIr_ok (p:Option Addr) (n:Int) (w:World):Calls Tryz.prog 39 #[.pointer p,.int .i64 n] w fun e w'=>e=.returned (.pointer p)∧w'=w:=by
 refine u39 ?_
 rw[t39]
 exact⟨rfl,rfl⟩
theorem needRt_ok (p:Option Addr) (n:Int) (w:World):Calls Tryz.prog 41 #[.pointer p,.int .i64 n] w fun e w'=>e=.returned (.pointer p)∧w'=w:=by
 refine u41 ?_
 rw[t41]
 exact⟨rfl,rfl⟩
theorem needWk_ok (p:Option Addr) (n:Int) (w:World):Calls Tryz.prog 43 #[.pointer p,.int .i64 n] w fun e w'=>e=.returned (.pointer p)∧w'=w:=by
 refine u43 ?_
 rw[t43]
 exact⟨rfl,rfl⟩
theorem needCa_ok (p:Option Addr) (n:Int) (w:World):Calls Tryz.prog 45 #[.pointer p,.int .i64 n] w fun e w'=>e=.returned (.pointer p)∧w'=w:=by
 refine u45 ?_
 rw[t45]
 exact⟨rfl,rfl⟩
theorem needSt_ok (p:Option Addr) (n:Int) (w:World):Calls Tryz.prog 47 #[.pointer p,.int .i64 n] w fun e w'=>e=.returned (.pointer p)∧w'=w:=by
 refine u47 ?_
 rw[t47]
 exact⟨rfl,rfl⟩
theorem needSc_ok (p:Option Addr) (n:Int) (w:World):Calls Tryz.prog 49 #[.pointer p,.int .i64 n] w fun e w'=>e=.returned (.pointer p)∧w'=w:=by
 refine u49 ?_
 rw[t49]
 exact⟨rfl,rfl⟩
theorem needGa_ok (p:Option Addr) (n:Int) (w:World):Calls Tryz.prog 51 #[.pointer p,.int .i64 n] w fun e w'=>e=.returned (.pointer p)∧w'=w:=by
 refine u51 ?_
 rw[t51]
 exact⟨rfl,rfl⟩
theorem needCo_ok (p:Option Addr) (n:Int) (w:World):Calls Tryz.prog 53 #[.pointer p,.int .i64 n] w fun e w'=>e=.returned (.pointer p)∧w'=w:=by
 refine u53 ?_
 rw[t53]
 exact⟨rfl,rfl⟩
theorem needMe_ok (p:Option Addr) (n:Int) (w:World):Calls Tryz.prog 55 #[.pointer p,.int .i64 n] w fun e w'=>e=.returned (.pointer p)∧w'=w:=by
 refine u55 ?_
 rw[t55]
 exact⟨rfl,rfl⟩
theorem needGv_ok (p:Option Addr) (n:Int) (w:World):Calls Tryz.prog 57 #[.pointer p,.int .i64 n] w fun e w'=>e=.returned (.pointer p)∧w'=w:=by
 refine u57 ?_
 rw[t57]
 exact⟨rfl,rfl⟩
theorem elGv:ElemT Tryz.prog 90 137 1 8 [.pointer none]:=⟨by kernel_rfl,by kernel_rfl,rfl,by omega⟩
theorem GvsO.push {p:Option Addr} {c n:Nat} {w w1 w2:World} {F:Fp} (h:GvsO p c w F n) (hn:n≤100000) {bq:Nat} {G:Fp} (hU:Upd no w w1) (hQ:GvO bq w1 G ()) (hG:∀i,G i→w.heap.size≤i)
  {T':TypeId} (hN:Newed w1 w2 (.cells (List.toArray [.pointer (some ⟨bq,0,none⟩)]) T' (0,0))) (ty:TypeId):∃p' c' w3,(Builtin.append_ #[90,90] ty #[.slice p n c,.slice (some ⟨w1.heap.size,0,none⟩) 1 1]).run Tryz.prog w2=.ok (.slice p' (n+1) c') w3∧
   ∃F',GvsO p' c' w3 F' (n+1)∧Upd F w w3∧∀i,F' i→F i∨w.heap.size≤i:=by
 obtain⟨qs,hl,F1,F2,h1,h2,h3,h4⟩:=h
 subst hl
 have hS1:=h1.2.upd hU (fun _ _ h=>h)
 obtain⟨p',c',w3,hr,hS,hU3,hF3⟩:=append1v elGv (v:=.pointer (some ⟨bq,0,none⟩)) rfl hS1 (by dsimp only;omega) (by dsimp only;omega) hN ty
 have hTf:=Fam.push h2 hU (show At GvO w1 G (bq,())from hQ) hG
 obtain⟨H2,f1,f2,f3⟩:=hTf
 have hd:∀i,H2 i→¬fpS p i:=fun i hi hp=>by
  rcases f3 i hi with h|h
  ·exact h4 i ((h1.1 i).2 hp) h
  ·have:=(Frame.lpo ..).lt h1 i ((h1.1 i).2 hp);omega
 have f1':Fam (At GvO) w3 H2 (qs++[(bq,())]):=Frame.fam.upd f1 hU3 (fun i hi hp=>hd i hi hp)
 have hlt:∀i,H2 i→i<w1.heap.size:=fun i hi=>Frame.fam.lt f1 i hi
 refine⟨p',c',w3,hr,fun i=>fpS p' i∨H2 i,⟨qs++[(bq,())],by simp,fun i=>fpS p' i,H2,⟨fun _=>Iff.rfl,?_⟩,f1',fun _=>Iff.rfl,fun i hi hf=>?_⟩,?_,fun i hi=>?_⟩
 ·simp only[List.length_append,List.length_singleton,List.map_append];exact hS
 ·rcases hF3 i hi with h|h
  ·exact hd i hf h
  ·have:=hlt i hf;omega
 ·exact(hU.mono (fun _ _ h=>h.elim)).trans hU3 (fun i hi hp=>(h3 i).2 (.inl ((h1.1 i).2 hp)))
 ·rcases hi with hi|hi
  ·rcases hF3 i hi with h|h
   ·exact .inl ((h3 i).2 (.inl ((h1.1 i).2 h)))
   ·exact .inr (Nat.le_trans hU.size h)
  ·exact(f3 i hi).imp (fun h=>(h3 i).2 (.inr h)) id
theorem dk_new {b:Nat} {w w':World} (hN:Newed w w' (.cells (List.toArray [.pointer none,.map none]) 136 (0,0))):DkO w.heap.size w' (fun i=>i=w.heap.size) (none,fun _=>false):=by
 refine⟨none,none,⟨fun i=>i=w.heap.size,fun _=>False,⟨fun i=>i=w.heap.size,fun _=>False,Rw.new hN rfl,fun i h=>h,fun i=>by simp,fun _ _ h=>h⟩,fun i h=>h,fun i=>by simp,fun _ _ h=>h⟩,⟨rfl,fun k=>rfl,fun r hr=>(by cases hr)⟩⟩
set_option maxRecDepth 100000 in
set_option maxHeartbeats 1000000 in
theorem knew_ok (n:Nat) (hn:1≤n∧n≤64) (w:World):Calls Tryz.prog 8 #[.int .i64 (n:Int)] w fun e w'=>∃b F,e=.returned (.tuple #[.pointer (some ⟨b,0,none⟩),.int .i64 0])∧KO b w' F (newK' n)∧Upd no w w'∧∀i,F i→w.heap.size≤i:=by
 refine u8 ?_
 rw[t8]
 refine⟨fun _=>⟨fun g=>(by have:=of_decide_eq_true g;omega),fun _=>⟨(mUpto_ok (n:Int) w).mono ?_⟩⟩,fun g=>(by have:=of_decide_eq_true g;omega)⟩
 rintro e w0 ⟨rfl,rfl⟩
 refine⟨_,rfl,⟨fun w1 hNm=>⟨fun w2 hN=>?_⟩⟩⟩
 have hG:NewG w1.heap.size w0 w2 [.ow w0.heap.size (fun _=>none,0)] [.pointer none,.pointer none,.pointer none,.pointer none,.pointer none,.pointer none,.pointer none,.pointer none,.pointer none,.pointer none,.pointer none,.pointer none,.pointer none,.pointer none,.slice none 0 0,.int .i64 (n:Int),.int .u64 (mi (upM n)),.int .u64 (mi (upM n)),.int .i64 0,.int .i64 1073741824,.map (some w0.heap.size)]:=by
  refine Mine.add (A:=Fam (KPO w1.heap.size)) (B:=Rw w1.heap.size 94 (fun s=>s)) (w:=w1) (s:=[.ow w0.heap.size (fun _=>none,0)]) ?_ (hN.upd no) (Rw.new hN rfl) (fun i hi=>Nat.le_of_eq hi.symm)
  refine⟨fun i=>i=w0.heap.size,⟨fun i=>i=w0.heap.size,fun _=>False,MapO.new hNm,fun i h=>h,fun i=>by simp,fun _ _ h=>h⟩,hNm.upd no,fun i hi=>Nat.le_of_eq hi.symm⟩
 generalize hb:w1.heap.size=b at hG⊢
 generalize hm:w0.heap.size=m at hG⊢
 refine⟨(tnew_ok_Thr (n:Int) _).mono ?_⟩
 rintro e w3 (⟨hno,_⟩|⟨_,b_th,F_th,rfl,hX,hU,hF⟩)
 ·exact absurd ⟨by omega,by omega⟩ hno
 replace hG:=hG.push hU (s:=.th b_th (newT_Thr n)) hX hF
 clear hX hF hU
 refine⟨_,_,rfl,⟨(needTh_ok _ _ _).mono ?_⟩⟩
 rintro e w4 ⟨rfl,rfl⟩
 refine⟨_,rfl,?_⟩
 refine⟨(rqnew_ok (n:Int) _).mono ?_⟩
 rintro e w5 (⟨hno,_⟩|⟨_,b_rq,F_rq,rfl,hX,hU,hF⟩)
 ·exact absurd ⟨by omega,by omega⟩ hno
 replace hG:=hG.push hU (s:=.rq b_rq (List.replicate n (32,[]))) hX hF
 clear hX hF hU
 refine⟨_,_,rfl,⟨(needRq_ok _ _ _).mono ?_⟩⟩
 rintro e w6 ⟨rfl,rfl⟩
 refine⟨_,rfl,_,rfl,hG.wr (o:=0) [.pointer (some ⟨b_th,0,none⟩),.pointer none,.pointer none,.pointer none,.pointer none,.pointer none,.pointer none,.pointer none,.pointer none,.pointer none,.pointer none,.pointer none,.pointer none,.pointer none,.slice none 0 0,.int .i64 (n:Int),.int .u64 (mi (upM n)),.int .u64 (mi (upM n)),.int .i64 0,.int .i64 1073741824,.map (some m)] rfl (Nat.le_of_ble_eq_true rfl) fun w7 hG=>⟨_,rfl,hG.wr (o:=1) [.pointer (some ⟨b_th,0,none⟩),.pointer (some ⟨b_rq,0,none⟩),.pointer none,.pointer none,.pointer none,.pointer none,.pointer none,.pointer none,.pointer none,.pointer none,.pointer none,.pointer none,.pointer none,.pointer none,.slice none 0 0,.int .i64 (n:Int),.int .u64 (mi (upM n)),.int .u64 (mi (upM n)),.int .i64 0,.int .i64 1073741824,.map (some m)] rfl (Nat.le_of_ble_eq_true rfl) fun w8 hG=>?_⟩⟩
 refine⟨(tnew_ok_Timer n hn _).mono ?_⟩
 rintro e w9 ⟨b_tm,F_tm,rfl,hX,hU,hF⟩
 replace hG:=hG.push hU (s:=.tm b_tm (newT_Timer n)) hX hF
 clear hX hF hU
 refine⟨_,_,rfl,⟨(needTm_ok _ _ _).mono ?_⟩⟩
 rintro e w10 ⟨rfl,rfl⟩
 refine⟨_,rfl,?_⟩
 refine⟨(new_ok_Irq (n:Int) _).mono ?_⟩
 rintro e w11 (⟨hno,_⟩|⟨_,b_ir,F_ir,rfl,hX,hU,hF⟩)
 ·exact absurd ⟨by omega,by omega⟩ hno
 replace hG:=hG.push hU (s:=.ir b_ir ((n:Int),List.replicate 16 i0)) hX hF
 clear hX hF hU
 refine⟨_,_,rfl,⟨(needIr_ok _ _ _).mono ?_⟩⟩
 rintro e w12 ⟨rfl,rfl⟩
 refine⟨_,rfl,_,rfl,hG.wr (o:=2) [.pointer (some ⟨b_th,0,none⟩),.pointer (some ⟨b_rq,0,none⟩),.pointer (some ⟨b_tm,0,none⟩),.pointer none,.pointer none,.pointer none,.pointer none,.pointer none,.pointer none,.pointer none,.pointer none,.pointer none,.pointer none,.pointer none,.slice none 0 0,.int .i64 (n:Int),.int .u64 (mi (upM n)),.int .u64 (mi (upM n)),.int .i64 0,.int .i64 1073741824,.map (some m)] rfl (Nat.le_of_ble_eq_true rfl) fun w13 hG=>⟨_,rfl,hG.wr (o:=3) [.pointer (some ⟨b_th,0,none⟩),.pointer (some ⟨b_rq,0,none⟩),.pointer (some ⟨b_tm,0,none⟩),.pointer (some ⟨b_ir,0,none⟩),.pointer none,.pointer none,.pointer none,.pointer none,.pointer none,.pointer none,.pointer none,.pointer none,.pointer none,.pointer none,.slice none 0 0,.int .i64 (n:Int),.int .u64 (mi (upM n)),.int .u64 (mi (upM n)),.int .i64 0,.int .i64 1073741824,.map (some m)] rfl (Nat.le_of_ble_eq_true rfl) fun w14 hG=>?_⟩⟩
 refine⟨(rtnew_ok n hn _).mono ?_⟩
 rintro e w15 ⟨b_rt,F_rt,rfl,hX,hU,hF⟩
 replace hG:=hG.push hU (s:=.rt b_rt ((n:Int),List.replicate 16 (-1))) hX hF
 clear hX hF hU
 refine⟨_,_,rfl,⟨(needRt_ok _ _ _).mono ?_⟩⟩
 rintro e w16 ⟨rfl,rfl⟩
 refine⟨_,rfl,?_⟩
 refine⟨(wnew_ok_WorkF (n:Int) _).mono ?_⟩
 rintro e w17 (⟨hno,_⟩|⟨_,b_wk,F_wk,rfl,hX,hU,hF⟩)
 ·exact absurd ⟨by omega,by omega⟩ hno
 replace hG:=hG.push hU (s:=.wk b_wk (newQ n)) hX hF
 clear hX hF hU
 refine⟨_,_,rfl,⟨(needWk_ok _ _ _).mono ?_⟩⟩
 rintro e w18 ⟨rfl,rfl⟩
 refine⟨_,rfl,_,rfl,hG.wr (o:=4) [.pointer (some ⟨b_th,0,none⟩),.pointer (some ⟨b_rq,0,none⟩),.pointer (some ⟨b_tm,0,none⟩),.pointer (some ⟨b_ir,0,none⟩),.pointer (some ⟨b_rt,0,none⟩),.pointer none,.pointer none,.pointer none,.pointer none,.pointer none,.pointer none,.pointer none,.pointer none,.pointer none,.slice none 0 0,.int .i64 (n:Int),.int .u64 (mi (upM n)),.int .u64 (mi (upM n)),.int .i64 0,.int .i64 1073741824,.map (some m)] rfl (Nat.le_of_ble_eq_true rfl) fun w19 hG=>⟨_,rfl,hG.wr (o:=5) [.pointer (some ⟨b_th,0,none⟩),.pointer (some ⟨b_rq,0,none⟩),.pointer (some ⟨b_tm,0,none⟩),.pointer (some ⟨b_ir,0,none⟩),.pointer (some ⟨b_rt,0,none⟩),.pointer (some ⟨b_wk,0,none⟩),.pointer none,.pointer none,.pointer none,.pointer none,.pointer none,.pointer none,.pointer none,.pointer none,.slice none 0 0,.int .i64 (n:Int),.int .u64 (mi (upM n)),.int .u64 (mi (upM n)),.int .i64 0,.int .i64 1073741824,.map (some m)] rfl (Nat.le_of_ble_eq_true rfl) fun w20 hG=>?_⟩⟩
 refine⟨(cnew_ok_Call (n:Int) _).mono ?_⟩
 rintro e w21 (⟨hno,_⟩|⟨_,b_ca,F_ca,rfl,hX,hU,hF⟩)
 ·exact absurd ⟨by omega,by omega⟩ hno
 replace hG:=hG.push hU (s:=.ca b_ca (newC n)) hX hF
 clear hX hF hU
 refine⟨_,_,rfl,⟨(needCa_ok _ _ _).mono ?_⟩⟩
 rintro e w22 ⟨rfl,rfl⟩
 refine⟨_,rfl,?_⟩
 refine⟨(snew_ok_Stash (n:Int) 12 _).mono ?_⟩
 rintro e w23 (⟨hno,_⟩|⟨_,b_st,F_st,rfl,hX,hU,hF⟩)
 ·exact absurd (show okNew (n:Int) 12 from⟨by omega,by omega,by omega,by omega⟩) hno
 replace hG:=hG.push hU (s:=.st b_st (newK n 12)) hX hF
 clear hX hF hU
 refine⟨_,_,rfl,⟨(needSt_ok _ _ _).mono ?_⟩⟩
 rintro e w24 ⟨rfl,rfl⟩
 refine⟨_,rfl,_,rfl,hG.wr (o:=6) [.pointer (some ⟨b_th,0,none⟩),.pointer (some ⟨b_rq,0,none⟩),.pointer (some ⟨b_tm,0,none⟩),.pointer (some ⟨b_ir,0,none⟩),.pointer (some ⟨b_rt,0,none⟩),.pointer (some ⟨b_wk,0,none⟩),.pointer (some ⟨b_ca,0,none⟩),.pointer none,.pointer none,.pointer none,.pointer none,.pointer none,.pointer none,.pointer none,.slice none 0 0,.int .i64 (n:Int),.int .u64 (mi (upM n)),.int .u64 (mi (upM n)),.int .i64 0,.int .i64 1073741824,.map (some m)] rfl (Nat.le_of_ble_eq_true rfl) fun w25 hG=>⟨_,rfl,hG.wr (o:=7) [.pointer (some ⟨b_th,0,none⟩),.pointer (some ⟨b_rq,0,none⟩),.pointer (some ⟨b_tm,0,none⟩),.pointer (some ⟨b_ir,0,none⟩),.pointer (some ⟨b_rt,0,none⟩),.pointer (some ⟨b_wk,0,none⟩),.pointer (some ⟨b_ca,0,none⟩),.pointer (some ⟨b_st,0,none⟩),.pointer none,.pointer none,.pointer none,.pointer none,.pointer none,.pointer none,.slice none 0 0,.int .i64 (n:Int),.int .u64 (mi (upM n)),.int .u64 (mi (upM n)),.int .i64 0,.int .i64 1073741824,.map (some m)] rfl (Nat.le_of_ble_eq_true rfl) fun w26 hG=>?_⟩⟩
 refine⟨(spnew_ok n hn _).mono ?_⟩
 rintro e w27 ⟨b_sc,F_sc,rfl,hX,hU,hF⟩
 replace hG:=hG.push hU (s:=.sc b_sc (List.replicate n 0)) hX hF
 clear hX hF hU
 refine⟨_,_,rfl,⟨(needSc_ok _ _ _).mono ?_⟩⟩
 rintro e w28 ⟨rfl,rfl⟩
 refine⟨_,rfl,?_⟩
 refine⟨(gnew_ok n hn _).mono ?_⟩
 rintro e w29 ⟨b_ga,F_ga,rfl,hX,hU,hF⟩
 replace hG:=hG.push hU (s:=.ga b_ga (List.replicate n 0,0)) hX hF
 clear hX hF hU
 refine⟨_,_,rfl,⟨(needGa_ok _ _ _).mono ?_⟩⟩
 rintro e w30 ⟨rfl,rfl⟩
 refine⟨_,rfl,_,rfl,hG.wr (o:=8) [.pointer (some ⟨b_th,0,none⟩),.pointer (some ⟨b_rq,0,none⟩),.pointer (some ⟨b_tm,0,none⟩),.pointer (some ⟨b_ir,0,none⟩),.pointer (some ⟨b_rt,0,none⟩),.pointer (some ⟨b_wk,0,none⟩),.pointer (some ⟨b_ca,0,none⟩),.pointer (some ⟨b_st,0,none⟩),.pointer (some ⟨b_sc,0,none⟩),.pointer none,.pointer none,.pointer none,.pointer none,.pointer none,.slice none 0 0,.int .i64 (n:Int),.int .u64 (mi (upM n)),.int .u64 (mi (upM n)),.int .i64 0,.int .i64 1073741824,.map (some m)] rfl (Nat.le_of_ble_eq_true rfl) fun w31 hG=>⟨_,rfl,hG.wr (o:=9) [.pointer (some ⟨b_th,0,none⟩),.pointer (some ⟨b_rq,0,none⟩),.pointer (some ⟨b_tm,0,none⟩),.pointer (some ⟨b_ir,0,none⟩),.pointer (some ⟨b_rt,0,none⟩),.pointer (some ⟨b_wk,0,none⟩),.pointer (some ⟨b_ca,0,none⟩),.pointer (some ⟨b_st,0,none⟩),.pointer (some ⟨b_sc,0,none⟩),.pointer (some ⟨b_ga,0,none⟩),.pointer none,.pointer none,.pointer none,.pointer none,.slice none 0 0,.int .i64 (n:Int),.int .u64 (mi (upM n)),.int .u64 (mi (upM n)),.int .i64 0,.int .i64 1073741824,.map (some m)] rfl (Nat.le_of_ble_eq_true rfl) fun w32 hG=>?_⟩⟩
 refine⟨(cnew_ok_Core n hn _).mono ?_⟩
 rintro e w33 ⟨b_co,F_co,rfl,hX,hU,hF⟩
 replace hG:=hG.push hU (s:=.co b_co (List.replicate n ⟨true,false,0,0⟩)) hX hF
 clear hX hF hU
 refine⟨_,_,rfl,⟨(needCo_ok _ _ _).mono ?_⟩⟩
 rintro e w34 ⟨rfl,rfl⟩
 refine⟨_,rfl,?_⟩
 refine⟨(mnew_ok n hn _).mono ?_⟩
 rintro e w35 ⟨b_me,F_me,rfl,hX,hU,hF⟩
 replace hG:=hG.push hU (s:=.me b_me n) hX hF
 clear hX hF hU
 refine⟨_,_,rfl,⟨(needMe_ok _ _ _).mono ?_⟩⟩
 rintro e w36 ⟨rfl,rfl⟩
 refine⟨_,rfl,_,rfl,hG.wr (o:=12) [.pointer (some ⟨b_th,0,none⟩),.pointer (some ⟨b_rq,0,none⟩),.pointer (some ⟨b_tm,0,none⟩),.pointer (some ⟨b_ir,0,none⟩),.pointer (some ⟨b_rt,0,none⟩),.pointer (some ⟨b_wk,0,none⟩),.pointer (some ⟨b_ca,0,none⟩),.pointer (some ⟨b_st,0,none⟩),.pointer (some ⟨b_sc,0,none⟩),.pointer (some ⟨b_ga,0,none⟩),.pointer none,.pointer none,.pointer (some ⟨b_co,0,none⟩),.pointer none,.slice none 0 0,.int .i64 (n:Int),.int .u64 (mi (upM n)),.int .u64 (mi (upM n)),.int .i64 0,.int .i64 1073741824,.map (some m)] rfl (Nat.le_of_ble_eq_true rfl) fun w37 hG=>⟨_,rfl,hG.wr (o:=13) [.pointer (some ⟨b_th,0,none⟩),.pointer (some ⟨b_rq,0,none⟩),.pointer (some ⟨b_tm,0,none⟩),.pointer (some ⟨b_ir,0,none⟩),.pointer (some ⟨b_rt,0,none⟩),.pointer (some ⟨b_wk,0,none⟩),.pointer (some ⟨b_ca,0,none⟩),.pointer (some ⟨b_st,0,none⟩),.pointer (some ⟨b_sc,0,none⟩),.pointer (some ⟨b_ga,0,none⟩),.pointer none,.pointer none,.pointer (some ⟨b_co,0,none⟩),.pointer (some ⟨b_me,0,none⟩),.slice none 0 0,.int .i64 (n:Int),.int .u64 (mi (upM n)),.int .u64 (mi (upM n)),.int .i64 0,.int .i64 1073741824,.map (some m)] rfl (Nat.le_of_ble_eq_true rfl) fun w38 hG=>?_⟩⟩
 refine⟨fun w39 hNs=>⟨fun w40 hNd=>?_⟩⟩
 replace hG:=hG.push (hNs.upd no) (s:=.so w38.heap.size (0,0)) (Rw.new hNs rfl) (fun i hi=>Nat.le_of_eq hi.symm)
 replace hG:=hG.push (hNd.upd no) (s:=.dk w39.heap.size (none,fun _=>false)) (dk_new (b:=0) hNd) (fun i hi=>Nat.le_of_eq hi.symm)
 generalize w38.heap.size=b_so at hG⊢
 generalize w39.heap.size=b_dk at hG⊢
 refine⟨_,rfl,hG.wr (o:=10) [.pointer (some ⟨b_th,0,none⟩),.pointer (some ⟨b_rq,0,none⟩),.pointer (some ⟨b_tm,0,none⟩),.pointer (some ⟨b_ir,0,none⟩),.pointer (some ⟨b_rt,0,none⟩),.pointer (some ⟨b_wk,0,none⟩),.pointer (some ⟨b_ca,0,none⟩),.pointer (some ⟨b_st,0,none⟩),.pointer (some ⟨b_sc,0,none⟩),.pointer (some ⟨b_ga,0,none⟩),.pointer (some ⟨b_so,0,none⟩),.pointer none,.pointer (some ⟨b_co,0,none⟩),.pointer (some ⟨b_me,0,none⟩),.slice none 0 0,.int .i64 (n:Int),.int .u64 (mi (upM n)),.int .u64 (mi (upM n)),.int .i64 0,.int .i64 1073741824,.map (some m)] rfl (Nat.le_of_ble_eq_true rfl) fun w41 hG=>⟨_,rfl,hG.wr (o:=11) [.pointer (some ⟨b_th,0,none⟩),.pointer (some ⟨b_rq,0,none⟩),.pointer (some ⟨b_tm,0,none⟩),.pointer (some ⟨b_ir,0,none⟩),.pointer (some ⟨b_rt,0,none⟩),.pointer (some ⟨b_wk,0,none⟩),.pointer (some ⟨b_ca,0,none⟩),.pointer (some ⟨b_st,0,none⟩),.pointer (some ⟨b_sc,0,none⟩),.pointer (some ⟨b_ga,0,none⟩),.pointer (some ⟨b_so,0,none⟩),.pointer (some ⟨b_dk,0,none⟩),.pointer (some ⟨b_co,0,none⟩),.pointer (some ⟨b_me,0,none⟩),.slice none 0 0,.int .i64 (n:Int),.int .u64 (mi (upM n)),.int .u64 (mi (upM n)),.int .i64 0,.int .i64 1073741824,.map (some m)] rfl (Nat.le_of_ble_eq_true rfl) fun w42 hG=>?_⟩⟩
 replace hG:=hG.push (Upd.refl no _) (s:=.gv none 0 0) (G:=fun _=>False) ⟨[],rfl,fun _=>False,fun _=>False,⟨fun i=>⟨fun h=>h.elim,fun⟨a,ha,_⟩=>by cases ha⟩,Sl.nil _ _ _⟩,Fam.nil _,fun i=>by simp,fun _ h=>h.elim⟩ (fun i h=>h.elim)
 have hG0:NewG b w0 w42 [.ow m (fun _=>none,0),.th b_th (newT_Thr n),.rq b_rq (List.replicate n (32,[])),.tm b_tm (newT_Timer n),.ir b_ir ((n:Int),List.replicate 16 i0),.rt b_rt ((n:Int),List.replicate 16 (-1)),.wk b_wk (newQ n),.ca b_ca (newC n),.st b_st (newK n 12),.sc b_sc (List.replicate n 0),.ga b_ga (List.replicate n 0,0),.co b_co (List.replicate n ⟨true,false,0,0⟩),.me b_me n,.so b_so (0,0),.dk b_dk (none,fun _=>false),.gv none 0 0] [.pointer (some ⟨b_th,0,none⟩),.pointer (some ⟨b_rq,0,none⟩),.pointer (some ⟨b_tm,0,none⟩),.pointer (some ⟨b_ir,0,none⟩),.pointer (some ⟨b_rt,0,none⟩),.pointer (some ⟨b_wk,0,none⟩),.pointer (some ⟨b_ca,0,none⟩),.pointer (some ⟨b_st,0,none⟩),.pointer (some ⟨b_sc,0,none⟩),.pointer (some ⟨b_ga,0,none⟩),.pointer (some ⟨b_so,0,none⟩),.pointer (some ⟨b_dk,0,none⟩),.pointer (some ⟨b_co,0,none⟩),.pointer (some ⟨b_me,0,none⟩),.slice none 0 0,.int .i64 (n:Int),.int .u64 (mi (upM n)),.int .u64 (mi (upM n)),.int .i64 0,.int .i64 1073741824,.map (some m)]:=hG
 clear hG
 refine⟨WP_loop okProg (M:=M8) (σ:=Nat) (fun i=>e8_1 (some ⟨b,0,none⟩) (n:Int) (i:Int)) (fun i w'=>i≤n∧∃p c,NewG b w0 w' [.ow m (fun _=>none,0),.th b_th (newT_Thr n),.rq b_rq (List.replicate n (32,[])),.tm b_tm (newT_Timer n),.ir b_ir ((n:Int),List.replicate 16 i0),.rt b_rt ((n:Int),List.replicate 16 (-1)),.wk b_wk (newQ n),.ca b_ca (newC n),.st b_st (newK n 12),.sc b_sc (List.replicate n 0),.ga b_ga (List.replicate n 0,0),.co b_co (List.replicate n ⟨true,false,0,0⟩),.me b_me n,.so b_so (0,0),.dk b_dk (none,fun _=>false),.gv p c i] [.pointer (some ⟨b_th,0,none⟩),.pointer (some ⟨b_rq,0,none⟩),.pointer (some ⟨b_tm,0,none⟩),.pointer (some ⟨b_ir,0,none⟩),.pointer (some ⟨b_rt,0,none⟩),.pointer (some ⟨b_wk,0,none⟩),.pointer (some ⟨b_ca,0,none⟩),.pointer (some ⟨b_st,0,none⟩),.pointer (some ⟨b_sc,0,none⟩),.pointer (some ⟨b_ga,0,none⟩),.pointer (some ⟨b_so,0,none⟩),.pointer (some ⟨b_dk,0,none⟩),.pointer (some ⟨b_co,0,none⟩),.pointer (some ⟨b_me,0,none⟩),.slice p i c,.int .i64 (n:Int),.int .u64 (mi (upM n)),.int .u64 (mi (upM n)),.int .i64 0,.int .i64 1073741824,.map (some m)]) (fun i _=>n-i) 0 ⟨rfl,rfl,rfl,trivial⟩ ⟨Nat.zero_le _,none,0,hG0⟩ ?_⟩
 rintro i v1 ⟨hi,p,c,hG⟩
 rw[t8_1]
 refine⟨fun g=>?_,fun g=>?_⟩
 ·have g:=of_decide_eq_true g
  have hlt:i<n:=by omega
  intro v2 q1 q2 q3 q4
  have hUs:Upd no v1 v2:=Upd.same no q1 q2 q3 q4
  have hG2:=Mine.upd hG hUs
  refine⟨_,rfl,p,i,c,(NewG.blk hG2).cell2 rfl,⟨(fnew_ok (a:=100) (b:=1000) ⟨by omega,by omega,by omega⟩ v2).mono ?_⟩⟩
  rintro e v3 ⟨bq,G,rfl,hQ,hU3,hF3⟩
  have hG3:=Mine.upd hG2 hU3
  refine⟨_,_,rfl,(NewG.blk hG3).cell2 rfl,⟨(needGv_ok _ _ _).mono ?_⟩⟩
  rintro e v4 ⟨rfl,rfl⟩
  refine⟨_,rfl,(NewG.blk hG3).cell2 rfl,⟨fun v5 hN5=>?_⟩⟩
  have hG5:=Mine.upd hG3 (hN5.upd no)
  obtain⟨F1,h1,k1⟩:=Mine.left hG2
  obtain⟨F2,a1,a2,a3⟩:=Fam.at h1 (i:=15) (by simp)
  obtain⟨p',c',v6,hr,F3,b1,b2,b3⟩:=GvsO.push (n:=i) a1 (by omega) hU3 hQ hF3 hN5 90
  refine⟨(NewG.blk hG5).cell2 rfl,p',i+1,c',v6,hr,_,rfl,?_⟩
  have hG6:NewG b w0 v6 [.ow m (fun _=>none,0),.th b_th (newT_Thr n),.rq b_rq (List.replicate n (32,[])),.tm b_tm (newT_Timer n),.ir b_ir ((n:Int),List.replicate 16 i0),.rt b_rt ((n:Int),List.replicate 16 (-1)),.wk b_wk (newQ n),.ca b_ca (newC n),.st b_st (newK n 12),.sc b_sc (List.replicate n 0),.ga b_ga (List.replicate n 0,0),.co b_co (List.replicate n ⟨true,false,0,0⟩),.me b_me n,.so b_so (0,0),.dk b_dk (none,fun _=>false),.gv p' c' (i+1)] [.pointer (some ⟨b_th,0,none⟩),.pointer (some ⟨b_rq,0,none⟩),.pointer (some ⟨b_tm,0,none⟩),.pointer (some ⟨b_ir,0,none⟩),.pointer (some ⟨b_rt,0,none⟩),.pointer (some ⟨b_wk,0,none⟩),.pointer (some ⟨b_ca,0,none⟩),.pointer (some ⟨b_st,0,none⟩),.pointer (some ⟨b_sc,0,none⟩),.pointer (some ⟨b_ga,0,none⟩),.pointer (some ⟨b_so,0,none⟩),.pointer (some ⟨b_dk,0,none⟩),.pointer (some ⟨b_co,0,none⟩),.pointer (some ⟨b_me,0,none⟩),.slice p i c,.int .i64 (n:Int),.int .u64 (mi (upM n)),.int .u64 (mi (upM n)),.int .i64 0,.int .i64 1073741824,.map (some m)]:=k1 _ _ (a3 v6 (.gv p' c' (i+1)) ⟨F3,b1,b2,b3⟩)
  exact NewG.wr hG6 (o:=14) [.pointer (some ⟨b_th,0,none⟩),.pointer (some ⟨b_rq,0,none⟩),.pointer (some ⟨b_tm,0,none⟩),.pointer (some ⟨b_ir,0,none⟩),.pointer (some ⟨b_rt,0,none⟩),.pointer (some ⟨b_wk,0,none⟩),.pointer (some ⟨b_ca,0,none⟩),.pointer (some ⟨b_st,0,none⟩),.pointer (some ⟨b_sc,0,none⟩),.pointer (some ⟨b_ga,0,none⟩),.pointer (some ⟨b_so,0,none⟩),.pointer (some ⟨b_dk,0,none⟩),.pointer (some ⟨b_co,0,none⟩),.pointer (some ⟨b_me,0,none⟩),.slice p' (i+1) c',.int .i64 (n:Int),.int .u64 (mi (upM n)),.int .u64 (mi (upM n)),.int .i64 0,.int .i64 1073741824,.map (some m)] rfl (Nat.le_of_ble_eq_true rfl) fun v7 hG7=>⟨i+1,⟨rfl,rfl,by rw[w64 (by omega)];rfl,trivial⟩,⟨by omega,p',c',hG7⟩,by omega⟩
 ·have g:=of_decide_eq_false g
  have hin:n=i:=by omega
  subst hin
  obtain⟨F0,⟨F1,F2,h1,h2,h3,h4⟩,hU,hF⟩:=hG
  let q:KQ:=⟨b_th,b_rq,b_tm,b_ir,b_rt,b_wk,b_ca,b_st,b_sc,b_ga,b_so,b_dk,b_co,b_me,p,c,m⟩
  have hrow:Fam (KPO b) v1 F0 (KP.row q (n,upM n,upM n,0,1073741824)::[.ow m (fun _=>none,0),.th b_th (newT_Thr n),.rq b_rq (List.replicate n (32,[])),.tm b_tm (newT_Timer n),.ir b_ir ((n:Int),List.replicate 16 i0),.rt b_rt ((n:Int),List.replicate 16 (-1)),.wk b_wk (newQ n),.ca b_ca (newC n),.st b_st (newK n 12),.sc b_sc (List.replicate n 0),.ga b_ga (List.replicate n 0,0),.co b_co (List.replicate n ⟨true,false,0,0⟩),.me b_me n,.so b_so (0,0),.dk b_dk (none,fun _=>false),.gv p c n]):=⟨F2,F1,⟨h2.1,h2.2⟩,h1,fun j=>(h3 j).trans Or.comm,fun j hj hk=>h4 j hk hj⟩
  refine⟨b,F0,rfl,⟨q,List.replicate n 0,(fun _=>none,0),FamL.perm ?_ hrow,rfl,hn⟩,hU,fun j hj=>hm ▸ hF j hj⟩
  refine List.Perm.cons _ ?_
  show List.Perm (α:=KP) ([.ow m (fun _=>none,0)]++([.th b_th (newT_Thr n),.rq b_rq (List.replicate n (32,[])),.tm b_tm (newT_Timer n),.ir b_ir ((n:Int),List.replicate 16 i0),.rt b_rt ((n:Int),List.replicate 16 (-1)),.wk b_wk (newQ n),.ca b_ca (newC n),.st b_st (newK n 12),.sc b_sc (List.replicate n 0),.ga b_ga (List.replicate n 0,0)]++([.co b_co (List.replicate n ⟨true,false,0,0⟩),.me b_me n]++([.so b_so (0,0),.dk b_dk (none,fun _=>false)]++[.gv p c n])))) ([.th b_th (newT_Thr n),.rq b_rq (List.replicate n (32,[])),.tm b_tm (newT_Timer n),.ir b_ir ((n:Int),List.replicate 16 i0),.rt b_rt ((n:Int),List.replicate 16 (-1)),.wk b_wk (newQ n),.ca b_ca (newC n),.st b_st (newK n 12),.sc b_sc (List.replicate n 0),.ga b_ga (List.replicate n 0,0)]++([.so b_so (0,0),.dk b_dk (none,fun _=>false)]++([.co b_co (List.replicate n ⟨true,false,0,0⟩),.me b_me n]++[.gv p c n,.ow m (fun _=>none,0)])))
  refine List.perm_append_comm.trans ?_
  simp only[List.append_assoc]
  refine List.Perm.append_left _ ?_
  exact(List.perm_append_comm_assoc _ _ _)
end Go.Dav
namespace Go.Dav
structure RqV (n:Nat) (x:RS):Prop where
 len:x.length=n
 one:∀k i j,memQ x i k=true→memQ x j k=true→i=j
 v:∀q∈x,PqV q∧q.1=32
theorem RqV.at {n:Nat} {x:RS} (h:RqV n x) {i:Nat} (hi:i<x.length):PqV x[i]∧x[i].1=32:=h.v _ (List.getElem_mem hi)
theorem RqV.uniq {n:Nat} {x:RS} (h:RqV n x) {k:Int} {i j:Nat} (h1:memQ x i k=true) (h2:memQ x j k=true):i=j:=h.one k i j h1 h2
theorem PqV.drop {q:Nat×Its} (h:PqV q) (k:Int):PqV (pqDropS q k) where
 one:=(List.Sublist.map _ List.filter_sublist).nodup h.one
 rng:=fun e he=>h.rng e ((List.mem_filter.1 he).1)
 room:=Nat.le_trans (List.length_filter_le ..) h.room
 most:=h.most
theorem PqV.push {q:Nat×Its} (h:PqV q) {p k:Int} (hp:pqPushE q p k=0):PqV (pqPushS q p k):=by
 have hno:=push_no hp
 have hp':=hp
 unfold pqPushE at hp'
 unfold pqPushS
 rw[if_pos hp]
 split at hp'
 ·omega
 ·split at hp'
  ·omega
  ·split at hp'
   ·omega
   ·refine⟨?_,?_,?_,h.most⟩
    ·simp only[List.map_append,List.map_cons,List.map_nil]
     refine List.nodup_append.2 ⟨h.one,by simp,fun a ha b hb=>?_⟩
     simp only[List.mem_singleton]at hb
     rintro rfl
     subst hb
     rw[show inE q a=true from List.contains_iff_mem.2 ha]at hno
     cases hno
    ·intro e he
     rcases List.mem_append.1 he with he|he
     ·exact h.rng e he
     ·simp only[List.mem_singleton]at he
      subst he
      simp only
      omega
    ·simp only[List.length_append,List.length_singleton];omega
section
variable {n:Nat} {x:RS}
theorem memQ_take (h:RqV n x) (k:Int) (i:Nat) (j:Int):memQ (rqTakeS x k) i j=(memQ x i j&&decide (j≠k)):=by
 unfold rqTakeS
 rcases whE_cases x k with⟨h1,h2⟩|⟨i0,hi0,h1,h2⟩
 ·rw[h1]
  simp only[Bool.false_eq_true,if_false]
  by_cases hj:j=k
  ·subst hj;rw[h2];simp
  ·simp[hj]
 ·rw[h1]
  simp only[if_true,Int.toNat_natCast]
  rw[memQ_set hi0]
  by_cases hi:i=i0
  ·subst hi
   rw[if_pos rfl,in_drop,rowQ_at hi0,memQ_at hi0]
  ·rw[if_neg hi]
   by_cases hj:j=k
   ·subst hj
    have:memQ x i j=false:=by
     cases hm:memQ x i j with
     | false=>rfl
     | true=>exact absurd (h.uniq hm h2) hi
    rw[this];simp
   ·simp[hj]
theorem RqV.take (h:RqV n x) (k:Int):RqV n (rqTakeS x k):=by
 refine⟨?_,fun j i i' h1 h2=>?_,?_⟩
 ·unfold rqTakeS;split<;>simp[h.len]
 ·rw[memQ_take h]at h1 h2
  simp only[Bool.and_eq_true]at h1 h2
  exact h.uniq h1.1 h2.1
 ·unfold rqTakeS
  rcases whE_cases x k with⟨h1,h2⟩|⟨i0,hi0,h1,h2⟩
  ·rw[h1];simp only[Bool.false_eq_true,if_false];exact h.v
  ·rw[h1]
   simp only[if_true,Int.toNat_natCast]
   intro q hq
   rcases List.mem_or_eq_of_mem_set hq with hq|rfl
   ·exact h.v q hq
   ·rw[rowQ_at hi0];exact⟨(h.at hi0).1.drop k,(h.at hi0).2⟩
theorem memQ_put {c p k:Int} (he:rqPutE x c p k=0) (i:Nat) (j:Int):memQ (rqPutS x c p k) i j=(memQ x i j||(decide (i=c.toNat)&&decide (j=k))):=by
 have h0:=he
 unfold rqPutS
 rw[if_pos he]
 unfold rqPutE at h0
 split at h0
 ·rename_i hc
  obtain⟨i0,hi0,rfl⟩:=inQ_at hc
  split at h0
  ·omega
  ·simp only[Int.toNat_natCast]
   rw[memQ_set hi0,rowQ_at hi0]
   rw[rowQ_at hi0]at h0
   by_cases hi:i=i0
   ·subst hi;rw[if_pos rfl,in_push h0,memQ_at hi0];simp
   ·rw[if_neg hi];simp[hi]
 ·omega
theorem RqV.put (h:RqV n x) {c p k:Int} (he:rqPutE x c p k=0):RqV n (rqPutS x c p k):=by
 have h0:=he
 unfold rqPutE at h0
 split at h0
 ·rename_i hc
  split at h0
  ·omega
  ·rename_i hw
   have hno:∀i,memQ x i k=false:=by
    rcases whE_cases x k with⟨h1,h2⟩|⟨i0,hi0,h1,h2⟩
    ·exact h2
    ·rw[h1]at hw;exact absurd rfl hw
   refine⟨by rw[put_len];exact h.len,fun j i i' h1 h2=>?_,?_⟩
   ·rw[memQ_put he]at h1 h2
    simp only[Bool.or_eq_true,Bool.and_eq_true,decide_eq_true_eq]at h1 h2
    rcases h1 with h1|⟨h1,e⟩
    ·rcases h2 with h2|⟨h2,e⟩
     ·exact h.uniq h1 h2
     ·subst e;rw[hno]at h1;cases h1
    ·rcases h2 with h2|⟨h2,e'⟩
     ·subst e;rw[hno]at h2;cases h2
     ·omega
   ·unfold rqPutS
    rw[if_pos he]
    intro q hq
    obtain⟨i0,hi0,rfl⟩:=inQ_at hc
    rw[rowQ_at hi0]at h0 hq
    rcases List.mem_or_eq_of_mem_set hq with hq|rfl
    ·exact h.v q hq
    ·exact⟨(h.at hi0).1.push h0,by rw[most_push];exact(h.at hi0).2⟩
 ·omega
end
end Go.Dav
namespace Go.Dav
section
variable {x:TX} {id c:Int}
theorem exS_fst (x:TX) (id:Int):(exS x id).1=x.1:=by unfold exS;split<;>rfl
theorem aiS_fst (x:TX) (id:Int) (m:BV):(aiS x id m).1=x.1:=by unfold aiS;(repeat' split)<;>rfl
theorem plS_fst (x:TX) (id c:Int) (f:Bool):(plS x id c f).1=x.1:=by unfold plS;(repeat' split)<;>rfl
theorem slpS_fst (x:TX) (id c:Int):(slpS x id c).1=x.1:=by unfold slpS;(repeat' split)<;>rfl
theorem waS_fst (x:TX) (id:Int):(waS x id).1=x.1:=by unfold waS;(repeat' split)<;>rfl
theorem spS_fst (x:TX) (p:Int) (m:BV):(spS x p m).1=x.1:=by unfold spS;split<;>rfl
theorem exS_len (x:TX) (id:Int):(exS x id).2.length=x.2.length:=by unfold exS;split<;>simp
theorem aiS_len (x:TX) (id:Int) (m:BV):(aiS x id m).2.length=x.2.length:=by unfold aiS;(repeat' split)<;>simp
theorem plS_len (x:TX) (id c:Int) (f:Bool):(plS x id c f).2.length=x.2.length:=by unfold plS;(repeat' split)<;>simp
theorem slpS_len (x:TX) (id c:Int):(slpS x id c).2.length=x.2.length:=by unfold slpS;(repeat' split)<;>simp
theorem waS_len (x:TX) (id:Int):(waS x id).2.length=x.2.length:=by unfold waS;(repeat' split)<;>simp
theorem spS_len (x:TX) (p:Int) (m:BV):(spS x p m).2.length=x.2.length:=by unfold spS;split<;>simp
end
end Go.Dav
namespace Go.Dav
structure KSV (k:K):Prop where
 n:1≤k.n∧k.n≤64
 th1:k.th.1=(k.n:Int)
 th2:k.th.2.length=32
 rq:RqV k.n k.rq
 tmn:k.tm.n=k.n
 tml:k.tm.t.length=48
 tmt:k.tm.now=k.now
 ir1:k.ir.1=(k.n:Int)
 ir2:k.ir.2.length=16
 rt1:k.rt.1=(k.n:Int)
 rt2:k.rt.2.length=16
 wk1:k.wk.length=k.n+1
 wk2:∀v,ct k.wk v≤1
 wk3:∀v,0<ct k.wk v→1≤v∧v≤32
 ca:k.ca.2.length=k.n
 st:k.st.2.length=k.n
 ga:k.ga.1.length=k.n
 co:k.co.length=k.n
end Go.Dav
namespace Go.Dav
theorem setS_fst (x:RtS) (n c:Int):(setS x n c).1=x.1∧(setS x n c).2.length=x.2.length:=by unfold setS;split<;>simp
theorem offS_fst (x:RtS) (n:Int):(offS x n).1=x.1∧(offS x n).2.length=x.2.length:=by unfold offS;split<;>simp
section
variable {k:K}
end
end Go.Dav
namespace Go.Dav
section
variable {ac ac':BV} {d d':DkS}
end
theorem coPow_len (co:List CoS) (c:Int) (on:Bool):(coPowS co c on).length=co.length:=by unfold coPowS;split<;>simp
section
variable {k:K}
end
end Go.Dav
namespace Go.Dav
theorem PqV.back {q:Nat×Its} (h:PqV q) (k:Int):PqV (pqBackS q k):=by
 unfold pqBackS
 split
 ·rename_i hk
  obtain⟨p,hp⟩:=in_iff.1 hk
  have hpr:=prio_in h.one hp
  have hd:=h.drop k
  have hl:=drop_len h hk
  refine⟨?_,?_,?_,h.most⟩
  ·simp only[List.map_append,List.map_cons,List.map_nil]
   refine List.nodup_append.2 ⟨hd.one,by simp,fun a ha b hb=>?_⟩
   simp only[List.mem_singleton]at hb
   rintro rfl
   obtain⟨e,he,rfl⟩:=List.mem_map.1 ha
   have:=(List.mem_filter.1 he).2
   simp only[decide_eq_true_eq]at this
   exact this hb
  ·intro e he
   rcases List.mem_append.1 he with he|he
   ·exact hd.rng e he
   ·simp only[List.mem_singleton]at he
    subst he
    simp only[hpr]
    exact h.rng _ hp
  ·simp only[List.length_append,List.length_singleton]
   have:=h.room
   omega
 ·exact h
theorem pqBack_fst (q:Nat×Its) (k:Int):(pqBackS q k).1=q.1:=by unfold pqBackS;split<;>rfl
theorem PqV.turn {q:Nat×Its} (h:PqV q):PqV (pqTurnS q)∧(pqTurnS q).1=q.1:=by
 unfold pqTurnS
 split
 ·exact⟨h.back _,pqBack_fst ..⟩
 ·exact⟨h,rfl⟩
section
variable {n:Nat} {x:RS}
theorem RqV.set (h:RqV n x) {i:Nat} (hi:i<x.length) {q:Nat×Its} (hm:∀k,inE q k=inE x[i] k) (hV:PqV q) (h1:q.1=x[i].1):RqV n (x.set i q):=by
 have hmem:∀j k,memQ (x.set i q) j k=memQ x j k:=by
  intro j k
  rw[memQ_set hi]
  split
  ·rename_i e;subst e;rw[hm,memQ_at hi]
  ·rfl
 refine⟨by simp[h.len],fun k a b h1 h2=>?_,fun e he=>?_⟩
 ·rw[hmem]at h1 h2;exact h.one k a b h1 h2
 ·rcases List.mem_or_eq_of_mem_set he with he|rfl
  ·exact h.v e he
  ·exact⟨hV,by rw[h1];exact(h.at hi).2⟩
theorem RqV.back (h:RqV n x) (k:Int):RqV n (rqBackS x k):=by
 unfold rqBackS
 rcases whE_cases x k with⟨h1,h2⟩|⟨i0,hi0,h1,h2⟩
 ·rw[h1];exact h
 ·rw[h1]
  simp only[if_true,Int.toNat_natCast]
  rw[rowQ_at hi0]
  exact h.set hi0 (fun j=>by rw[in_back]) ((h.at hi0).1.back k) (pqBack_fst ..)
theorem RqV.pick (h:RqV n x) (c:Int):RqV n (rqPickS x c):=by
 unfold rqPickS
 split
 ·rename_i hc
  obtain⟨i0,hi0,rfl⟩:=inQ_at hc
  rw[rowQ_at hi0,Int.toNat_natCast]
  exact h.set hi0 (fun j=>by rw[in_turn]) (h.at hi0).1.turn.1 (h.at hi0).1.turn.2
 ·exact h
theorem RqV.put' (h:RqV n x) (c p k:Int):RqV n (rqPutS x c p k):=by
 by_cases he:rqPutE x c p k=0
 ·exact h.put he
 ·unfold rqPutS;rw[if_neg he];exact h
end
structure WkS (n:Nat) (Q:QL):Prop where
 len:Q.length=n+1
 one:∀v,ct Q v≤1
 rng:∀v,0<ct Q v→1≤v∧v≤32
section
variable {n:Nat} {Q:QL}
theorem WkS.queue (h:WkS n Q) (c:Int):WkS n (quS Q c):=by
 unfold quS
 split
 ·rename_i hc
  obtain⟨i,hi,rfl,hix⟩:=inW_at hc (by omega)
  split
  ·rename_i j hj
   have hj':=hj
   unfold freeId at hj'
   have h1:=of_decide_eq_true (List.find?_some (p:=fun(k:Nat)=>decide (ct Q ((k:Int)+1)=0)) hj')
   have h2:=List.mem_range.1 (List.mem_of_find?_eq_some hj')
   rw[hix,rowW_at hi]
   refine⟨by simp[h.len],fun v=>?_,fun v hv=>?_⟩
   ·rw[ct_push hi]
    have:=h.one v
    split
    ·rename_i e;subst e;omega
    ·omega
   ·rw[ct_push hi]at hv
    split at hv
    ·rename_i e;subst e;omega
    ·exact h.rng v (by omega)
  ·exact h
 ·exact h
theorem WkS.less (h:WkS n Q) {i:Nat} (hi:i<Q.length) {l:List Int} (hl:∀v,l.count v≤Q[i].count v):WkS n (Q.set i l):=by
 have hc:∀v,ct (Q.set i l) v≤ct Q v:=fun v=>by have:=ct_set hi l v;have:=hl v;omega
 exact⟨by simp[h.len],fun v=>Nat.le_trans (hc v) (h.one v),fun v hv=>h.rng v (Nat.lt_of_lt_of_le hv (hc v))⟩
theorem WkS.drop (h:WkS n Q) (v:Int):WkS n (dpS Q v):=by
 unfold dpS
 rcases wh_cases h.one v with⟨e,_⟩|⟨i,hi,hv,e,_⟩
 ·rw[e];exact h
 ·rw[e]
  simp only
  rw[ix_of,rowW_at hi]
  exact h.less hi (fun u=>(List.erase_sublist).count_le u)
theorem WkS.take (h:WkS n Q) (c:Int):WkS n (taS Q c):=by
 unfold taS
 split
 ·split
  ·exact h.drop _
  ·exact h.drop _
  ·exact h
 ·exact h
theorem WkS.unbind (h:WkS n Q) (c:Int):WkS n (unS Q c):=by
 unfold unS
 split
 ·rename_i hc
  obtain⟨i,hi,rfl,hix⟩:=inW_at hc (by omega)
  have hi0:i≠0:=by unfold inW at hc;omega
  rw[rowW_at hi,hix]
  split
  ·rename_i a l hl
   have h0:0<Q.length:=by omega
   have e0:rowW Q (-1)=Q[0]:=rowW_at (i:=0) h0
   have hct:∀v,ct ((Q.set i l).set 0 (rowW Q (-1)++[a])) v=ct Q v:=by
    intro v
    have h1:=ct_set hi l v
    have h2:=ct_set (L:=Q.set i l) (i:=0) (by simpa using h0) (rowW Q (-1)++[a]) v
    rw[e0]at h2⊢
    have h3:(Q.set i l)[0]'(by simpa using h0)=Q[0]:=List.getElem_set_ne hi0 _
    rw[h3,List.count_append,List.count_singleton]at h2
    rw[hl,List.count_cons]at h1
    simp only[beq_iff_eq]at h1 h2
    omega
   exact⟨by simp[h.len],fun v=>by rw[hct];exact h.one v,fun v hv=>h.rng v (by rw[←hct v];exact hv)⟩
  ·exact h
 ·exact h
end
section
variable {k:K}
theorem KSV.wks (h:KSV k):WkS k.n k.wk:=⟨h.wk1,h.wk2,h.wk3⟩
theorem KSV.th_ (h:KSV k) {th:TX} (h1:th.1=k.th.1) (h2:th.2.length=k.th.2.length):KSV {k with th:=th}:=⟨h.n,by rw[←h.th1,←h1],by rw[←h.th2,←h2],h.rq,h.tmn,h.tml,h.tmt,h.ir1,h.ir2,h.rt1,h.rt2,h.wk1,h.wk2,h.wk3,h.ca,h.st,h.ga,h.co⟩
theorem KSV.rq_ (h:KSV k) {rq:RS} (h1:RqV k.n rq):KSV {k with rq:=rq}:=⟨h.n,h.th1,h.th2,h1,h.tmn,h.tml,h.tmt,h.ir1,h.ir2,h.rt1,h.rt2,h.wk1,h.wk2,h.wk3,h.ca,h.st,h.ga,h.co⟩
theorem KSV.tm_ (h:KSV k) {tm:TmS} (h1:tm.n=k.tm.n) (h2:tm.t.length=k.tm.t.length) (h3:tm.now=k.tm.now):KSV {k with tm:=tm}:=⟨h.n,h.th1,h.th2,h.rq,h1.trans h.tmn,h2.trans h.tml,h3.trans h.tmt,h.ir1,h.ir2,h.rt1,h.rt2,h.wk1,h.wk2,h.wk3,h.ca,h.st,h.ga,h.co⟩
theorem KSV.own_ (h:KSV k) (o:Int→Option Int):KSV {k with own:=o}:=⟨h.n,h.th1,h.th2,h.rq,h.tmn,h.tml,h.tmt,h.ir1,h.ir2,h.rt1,h.rt2,h.wk1,h.wk2,h.wk3,h.ca,h.st,h.ga,h.co⟩
theorem KSV.ir_ (h:KSV k) {ir:IrS} (h1:ir.1=k.ir.1) (h2:ir.2.length=k.ir.2.length):KSV {k with ir:=ir}:=⟨h.n,h.th1,h.th2,h.rq,h.tmn,h.tml,h.tmt,h1.trans h.ir1,h2.trans h.ir2,h.rt1,h.rt2,h.wk1,h.wk2,h.wk3,h.ca,h.st,h.ga,h.co⟩
theorem KSV.rt_ (h:KSV k) {rt:RtS} (h1:rt.1=k.rt.1) (h2:rt.2.length=k.rt.2.length):KSV {k with rt:=rt}:=⟨h.n,h.th1,h.th2,h.rq,h.tmn,h.tml,h.tmt,h.ir1,h.ir2,h1.trans h.rt1,h2.trans h.rt2,h.wk1,h.wk2,h.wk3,h.ca,h.st,h.ga,h.co⟩
theorem KSV.wk_ (h:KSV k) {wk:QL} (h1:WkS k.n wk):KSV {k with wk:=wk}:=⟨h.n,h.th1,h.th2,h.rq,h.tmn,h.tml,h.tmt,h.ir1,h.ir2,h.rt1,h.rt2,h1.len,h1.one,h1.rng,h.ca,h.st,h.ga,h.co⟩
theorem KSV.ca_ (h:KSV k) {ca:CS} (h1:ca.2.length=k.ca.2.length):KSV {k with ca:=ca}:=⟨h.n,h.th1,h.th2,h.rq,h.tmn,h.tml,h.tmt,h.ir1,h.ir2,h.rt1,h.rt2,h.wk1,h.wk2,h.wk3,h1.trans h.ca,h.st,h.ga,h.co⟩
theorem KSV.st_ (h:KSV k) {st:KS} (h1:st.2.length=k.st.2.length):KSV {k with st:=st}:=⟨h.n,h.th1,h.th2,h.rq,h.tmn,h.tml,h.tmt,h.ir1,h.ir2,h.rt1,h.rt2,h.wk1,h.wk2,h.wk3,h.ca,h1.trans h.st,h.ga,h.co⟩
theorem KSV.ga_ (h:KSV k) {ga:GaS} (h1:ga.1.length=k.ga.1.length):KSV {k with ga:=ga}:=⟨h.n,h.th1,h.th2,h.rq,h.tmn,h.tml,h.tmt,h.ir1,h.ir2,h.rt1,h.rt2,h.wk1,h.wk2,h.wk3,h.ca,h.st,h1.trans h.ga,h.co⟩
theorem KSV.co_ (h:KSV k) {co:List CoS} (h1:co.length=k.co.length):KSV {k with co:=co}:=⟨h.n,h.th1,h.th2,h.rq,h.tmn,h.tml,h.tmt,h.ir1,h.ir2,h.rt1,h.rt2,h.wk1,h.wk2,h.wk3,h.ca,h.st,h.ga,h1.trans h.co⟩
theorem KSV.rest_ (h:KSV k) (on ac:BV) (lim:Int) (sp:BV×BV) (dk:DkS):KSV {k with on:=on,ac:=ac,lim:=lim,sp:=sp,dk:=dk}:=⟨h.n,h.th1,h.th2,h.rq,h.tmn,h.tml,h.tmt,h.ir1,h.ir2,h.rt1,h.rt2,h.wk1,h.wk2,h.wk3,h.ca,h.st,h.ga,h.co⟩
theorem KSV.dk_ (h:KSV k) (dk:DkS):KSV {k with dk:=dk}:=h.rest_ k.on k.ac k.lim k.sp dk
theorem tm_arm (x:TmS) (c d:Int):(armS x c d).n=x.n∧(armS x c d).t.length=x.t.length∧(armS x c d).now=x.now:=by
 unfold armS
 repeat' split
 all_goals simp
theorem tm_cancel (x:TmS) (c:Int):(cancelS x c).n=x.n∧(cancelS x c).t.length=x.t.length∧(cancelS x c).now=x.now:=by
 unfold cancelS delT
 split<;>simp
theorem tm_fire (x:TmS) (c:Int):(fireS x c).n=x.n∧(fireS x c).t.length=x.t.length∧(fireS x c).now=x.now:=by
 unfold fireS delT
 repeat' split
 all_goals simp
theorem tm_move (x:TmS) (c d:Int):(tmMoveS x c d).n=x.n∧(tmMoveS x c d).t.length=x.t.length∧(tmMoveS x c d).now=x.now:=by
 unfold tmMoveS
 repeat' split
 all_goals simp
theorem ir_put (s:IrS) (n:Int) (q:Iq):(iput s n q).1=s.1∧(iput s n q).2.length=s.2.length:=by unfold iput;simp
theorem KSV.irp (h:KSV k) (n:Int) (q:Iq):KSV {k with ir:=iput k.ir n q}:=h.ir_ (ir_put ..).1 (ir_put ..).2
theorem co_len (co:List CoS) (c a b:Int):(coRestS co c a b).length=co.length∧(coWakeS co c a).length=co.length:=by
 unfold coRestS coWakeS
 constructor<;>split<;>simp
theorem KSV.putK' (h:KSV k) (id near:Int):KSV (putK k id near):=(h.rq_ (h.rq.put' _ _ _)).th_ (plS_fst ..) (plS_len ..)
theorem KSV.mendK' (h:KSV k) (id:Int):KSV (mendK k id):=by
 unfold Dav.mendK
 split
 ·exact h
 ·exact(h.rq_ (h.rq.take id)).putK' _ _
theorem KSV.leadK' (h:KSV k) (n near:Int):KSV (leadK k n near):=h.rt_ (setS_fst ..).1 (setS_fst ..).2
theorem KSV.aimK' (h:KSV k) (n:Int):KSV (aimK k n):=by
 unfold Dav.aimK
 split
 ·exact h.leadK' _ _
 ·exact h
theorem KSV.quietK' (h:KSV k) (t:Int):KSV (quietK k t):=(h.tm_ (tm_cancel ..).1 (tm_cancel ..).2.1 (tm_cancel ..).2.2).own_ _
theorem KSV.wakeK' (h:KSV k) (id:Int):KSV (wakeK k id):=(h.th_ (waS_fst ..) (waS_len ..)).putK' _ _
end
theorem KSV.mends:∀{k:K} (l:List Int),KSV k→KSV (l.foldl mendK k)
 | k,[],h=>h
 | k,a::l,h=>KSV.mends l (h.mendK' a)
theorem KSV.aims:∀{k:K} (l:List Int),KSV k→KSV (l.foldl aimK k)
 | k,[],h=>h
 | k,a::l,h=>KSV.aims l (h.aimK' a)
theorem KSV.leads (c:Int):∀{k:K} (l:List Int),KSV k→KSV (l.foldl (fun k n=>Dav.leadK k n c) k)
 | k,[],h=>h
 | k,a::l,h=>KSV.leads c l (h.leadK' a c)
section
variable {k:K}
theorem later_at {a d:Int} (h:(laterE a d).2=0):tickR a∧0≤d∧(laterE a d).1=a+d∧tickR (a+d):=by
 unfold laterE at h⊢
 unfold tickR
 split at h
 ·rename_i h1
  split at h
  ·rename_i h2
   rw[if_pos h1,if_pos h2]
   exact⟨h1.1,h1.2.1,rfl,by omega,by omega⟩
  ·cases h
 ·cases h
theorem KSV.tick (h:KSV k) (n:Int):KSV (tickK k n):=by
 unfold tickK
 split
 ·rename_i h0
  obtain⟨_,p1,p2,p3⟩:=later_at h0
  have e:goS k.tm (laterE k.now n).1={k.tm with now:=(laterE k.now n).1}:=by
   unfold goS goE
   rw[if_pos (by rw[if_pos ⟨by rw[h.tmt];omega,by rw[p2];exact p3⟩])]
  rw[e]
  exact⟨h.n,h.th1,h.th2,h.rq,h.tmn,h.tml,rfl,h.ir1,h.ir2,h.rt1,h.rt2,h.wk1,h.wk2,h.wk3,h.ca,h.st,h.ga,h.co⟩
 ·exact h
theorem KSV.spawn (h:KSV k) (p:Int) (m:BV):KSV (spawnK k p m):=by
 unfold spawnK
 split
 ·exact(h.th_ (spS_fst ..) (spS_len ..)).putK' _ _
 ·exact h.th_ (spS_fst ..) (spS_len ..)
theorem KSV.sleep (h:KSV k) (id:Int) (x:Th) (n:Int):KSV (sleepK k id x n):=by
 unfold sleepK
 split
 ·have h1:=h.tm_ (tm_arm k.tm (sleepC k x) (laterE k.now n).1).1 (tm_arm k.tm (sleepC k x) (laterE k.now n).1).2.1 (tm_arm k.tm (sleepC k x) (laterE k.now n).1).2.2
  split
  ·exact((h1.own_ _).rq_ (h.rq.take id)).th_ (slpS_fst ..) (slpS_len ..)
  ·exact h1
 ·exact h
theorem KSV.exit (h:KSV k) (id:Int) (x:Th):KSV (exitK k id x):=by
 unfold exitK
 split
 ·exact(h.quietK' _).th_ (exS_fst ..) (exS_len ..)
 ·exact(h.rq_ (h.rq.take id)).th_ (exS_fst ..) (exS_len ..)
theorem KSV.thr (h:KSV k) (e:Evt):KSV (thrK k e):=by
 unfold thrK
 dsimp only
 repeat' split
 ·exact h
 ·exact h
 ·exact h.exit _ _
 ·exact(h.th_ (aiS_fst ..) (aiS_len ..)).mendK' _
 ·exact h.th_ (aiS_fst ..) (aiS_len ..)
 ·exact h
 ·exact h.sleep _ _ _
 ·exact h.rq_ (h.rq.back _)
 ·exact(h.quietK' _).wakeK' _
theorem KSV.irq (h:KSV k) (e:Evt):KSV (irqK k e):=by
 have hr:KSV {k with ir:=reqS k.ir e.2.2.1 e.2.2.2.1}:=by unfold reqS;split;exact h.irp _ _;exact h
 have hf:KSV {k with ir:=freeS k.ir e.2.2.1}:=by unfold freeS;split;exact h.irp _ _;exact h
 have ha:KSV {k with ir:=aimS k.ir e.2.2.1 e.2.2.2.1}:=by unfold aimS;split;exact h.irp _ _;exact h
 have hh:∀b,KSV {k with ir:=hushS k.ir e.2.2.1 b}:=fun b=>by unfold hushS;split;exact h.irp _ _;exact h
 have hx:KSV {k with ir:=raiseS k.ir e.2.2.1}:=by unfold raiseS;split;exact h.irp _ _;exact h
 unfold irqK
 repeat' split
 ·exact hr.leadK' _ _
 ·exact hr
 ·exact hf.rt_ (offS_fst ..).1 (offS_fst ..).2
 ·exact hf
 ·exact ha.aimK' _
 ·exact ha
 ·exact hh _
 ·exact hh _
 ·exact hx
theorem st_alloc (x:KS) (c:Int):(allocS x c).2.length=x.2.length:=by unfold allocS;split<;>simp
theorem st_give (x:KS) (c v:Int):(sgiveS x c v).2.length=x.2.length:=by unfold sgiveS;split<;>simp
theorem st_drain (x:KS) (c:Int):(drainS x c).2.length=x.2.length:=by unfold drainS;split<;>simp
theorem ca_send (x:CS) (c:Int):(sendS x c).2.length=x.2.length:=by
 unfold sendS
 repeat' split
 all_goals simp
theorem ca_take (x:CS) (c:Int):(tkS x c).2.length=x.2.length:=by
 unfold tkS
 repeat' split
 all_goals simp
theorem ca_move (x:CS) (c d:Int):(mvS x c d).2.length=x.2.length:=by
 unfold mvS popB
 repeat' split
 all_goals simp
theorem KSV.arm (h:KSV k) (c n:Int):KSV (armKS k c n):=by
 unfold armKS
 split
 ·exact h.tm_ (tm_arm ..).1 (tm_arm ..).2.1 (tm_arm ..).2.2
 ·exact h
theorem KSV.plc (h:KSV k) (e:Evt):KSV (plcK k e):=by
 unfold plcK
 repeat' split
 ·exact h
 ·exact h.arm _ _
 ·exact h.wk_ (h.wks.queue _)
 ·exact h.ca_ (ca_send ..)
 ·exact h.st_ (st_alloc ..)
 ·exact h.st_ (st_give ..)
 ·refine h.ga_ ?_
  unfold entS;split<;>simp
theorem KSV.bal (h:KSV k):KSV (balK k):=by
 unfold balK
 repeat' split
 ·exact h
 ·exact(h.rq_ ((h.rq.take _).put' _ _ _)).th_ (plS_fst ..) (plS_len ..)
 ·exact h
theorem KSV.request (h:KSV k) (up:Bool) (c:Int):KSV (reqKS k up c):=by
 unfold reqKS
 repeat' split
 any_goals exact h
 have e:(wanS k.ga).1.length=k.ga.1.length:=by unfold wanS;split<;>rfl
 exact(h.ga_ e).dk_ _
theorem KSV.cancel (h:KSV k) (id:Int):KSV (cancelKS k id):=by
 unfold cancelKS
 repeat' split
 any_goals exact h
 exact h.tm_ (tm_cancel ..).1 (tm_cancel ..).2.1 (tm_cancel ..).2.2
theorem KSV.rst (h:KSV k) (e:Evt):KSV (rstK k e):=by
 unfold rstK
 repeat' split
 ·exact h.cancel _
 ·exact h
 ·exact h.dk_ _
 ·refine h.ga_ ?_
  unfold leaS;split<;>simp
 ·unfold limK
  split
  ·exact h.rest_ k.on k.ac _ k.sp k.dk
  ·exact h
 ·exact h
 ·exact h.bal
 ·exact h
theorem KSV.fire (h:KSV k) (c:Int):KSV (fireK k c):=by
 have h1:KSV {k with tm:=fireS k.tm c,own:=ownDel k.own (fireE k.tm c).1}:=(h.tm_ (tm_fire ..).1 (tm_fire ..).2.1 (tm_fire ..).2.2).own_ _
 unfold fireK
 dsimp only
 split
 ·exact h1.wakeK' _
 ·exact h1
theorem KSV.thing (h:KSV k) (c w:Int):KSV (thingK k c w):=by
 unfold thingK
 repeat' split
 ·exact h.ca_ (ca_take ..)
 ·unfold clearS;split
  ·exact h.irp _ _
  ·exact h
 ·exact h.fire _
 ·exact h.wk_ (h.wks.take _)
 ·exact h.rq_ (h.rq.pick _)
theorem KSV.undo (h:KSV k) (u:Bool) (s c:Int):KSV (undoK k u s c):=by
 unfold undoK
 repeat' split
 ·exact h.co_ (coPow_len ..)
 ·exact h.rest_ k.on _ k.lim k.sp k.dk
 ·exact h
theorem KSV.come (h:KSV k) (s c:Int):KSV (comeK k s c):=by
 unfold comeK
 repeat' split
 ·exact h.co_ (coPow_len ..)
 ·exact h.st_ (st_drain ..)
 ·exact KSV.aims _ (KSV.mends _ (h.rest_ _ _ k.lim k.sp k.dk))
theorem KSV.leave (h:KSV k) (s c w:Int):KSV (leaveK k s c w):=by
 unfold leaveK
 repeat' split
 ·exact h.rest_ k.on _ k.lim k.sp k.dk
 ·unfold emptyK
  split
  ·exact h
  ·exact(h.rq_ (h.rq.take _)).putK' _ _
 ·exact h.tm_ (tm_move ..).1 (tm_move ..).2.1 (tm_move ..).2.2
 ·exact h.wk_ (h.wks.unbind _)
 ·exact h.ca_ (ca_move ..)
 ·unfold haltK
  repeat' split
  ·exact h.rest_ k.on k.ac k.lim _ k.dk
  ·have h1:=KSV.leads c (onL k.rt c) h
   exact h1.rest_ _ _ _ _ _
  ·exact h
 ·exact h.st_ (st_drain ..)
 ·exact h
 ·exact KSV.co_ (h.rest_ (ls k.on c) k.ac k.lim k.sp k.dk) (coPow_len k.co c false)
theorem KSV.stage (h:KSV k) (s:Int×Bool×Bool) (c w:Int):KSV (stageK k s c w):=by
 unfold stageK
 repeat' split
 ·exact h.undo _ _ _
 ·refine h.ga_ ?_
  unfold gtkS;split<;>rfl
 ·exact h.come _ _
 ·exact h.leave _ _ _
theorem KSV.turn (h:KSV k) (w:Int):KSV (turnK k w):=by
 have h1:KSV (turn1 k w):=by
  unfold turn1
  dsimp only
  split
  ·exact h.dk_ _
  ·split
   ·exact((h.dk_ _).stage _ _ _).dk_ _
   ·exact(h.dk_ _).stage _ _ _
 unfold turnK
 split
 ·exact KSV.ga_ (h1.dk_ (endS (turn1 k w).dk)) (ga:=gfrS (turn1 k w).ga) rfl
 ·exact h1
theorem KSV.step (h:KSV k) (c:Int):KSV (stepK k c):=by
 unfold stepK
 repeat' split
 ·exact h
 ·exact h.co_ (co_len k.co c k.now 0).2
 ·exact h.rest_ k.on k.ac k.lim _ k.dk
 ·exact h.turn _
 ·exact h.co_ (co_len ..).1
 ·exact h.thing _ _
theorem KSV.do_ (h:KSV k) (e:Evt):KSV (doK k e):=by
 unfold doK
 repeat' split
 ·exact h
 ·exact h.step _
 ·exact h.tick _
 ·exact h.spawn _ _
 ·exact h.thr _
 ·exact h.irq _
 ·exact h.wk_ (h.wks.queue _)
 ·exact h.plc _
 ·exact h.plc _
 ·exact h.request _ _
 ·exact h.rst _
end
end Go.Dav
namespace Go.Dav
section
variable {k:K}
end
theorem newS {n:Nat} (hn:1≤n∧n≤64):KSV (newK' n):=by
 have hm:∀(i:Nat) (j:Int),memQ (List.replicate n ((32:Nat),([]:Its))) i j=false:=by
  intro i j
  cases hh:memQ (List.replicate n ((32:Nat),([]:Its))) i j with
  | false=>rfl
  | true=>
   have hi:=memQ_lt hh
   rw[memQ_at hi]at hh
   simp[inE]at hh
 have hwk:∀v,ct (newQ n) v=0:=fun v=>by unfold newQ;exact ct_new _ _
 refine⟨hn,rfl,by simp[newK'],⟨by simp[newK'],fun j a b h1 h2=>?_,fun q hq=>?_⟩,rfl,by simp[newK'],rfl,rfl,by simp[newK'],rfl,by simp[newK'],by simp[newK',newQ],fun v=>?_,fun v hv=>?_,by simp[newK',newC],by simp[newK',Dav.newK],by simp[newK'],by simp[newK']⟩
 ·have:=hm a j
  rw[show(newK' n).rq=List.replicate n (32,[])from rfl]at h1
  rw[this]at h1;cases h1
 ·rw[show(newK' n).rq=List.replicate n (32,[])from rfl]at hq
  obtain⟨_,rfl⟩:=List.mem_replicate.1 hq
  exact⟨PqV.new (by omega),rfl⟩
 ·rw[show(newK' n).wk=newQ n from rfl,hwk];omega
 ·rw[show(newK' n).wk=newQ n from rfl,hwk]at hv;omega
end Go.Dav
namespace Go.Dav
def alv0:K:=newK' 2
def evA:Evt:=(3,0,2,3,0)
def evB:Evt:=(1,1,0,0,0)
def evC':Evt:=(24,1,0,0,0)
def alv1:K:=doK alv0 evA
def alv2:K:=doK alv1 evB
def alv3:K:=doK alv2 evC'
def alvS:Nat→K
 | 0=>alv3
 | n+1=>doK (alvS n) (1,((n%2:Nat):Int),0,0,0)
theorem alvA:doR alv0 evA=[(1,0,1,0,0)]:=by kernel_rfl
theorem alvB:doR alv1 evB=[(2,1,1,0,0)]:=by kernel_rfl
theorem alvC:doR alv2 evC'=[(1,0,0,0,0)]:=by kernel_rfl
theorem alvK:(alvS 40).on=1:=by kernel_rfl
theorem alv0S:KSV alv0:=newS ⟨by omega,by omega⟩
theorem alv1S:KSV alv1:=alv0S.do_ evA
theorem alv2S:KSV alv2:=alv1S.do_ evB
theorem alvSS:∀n,KSV (alvS n)
 | 0=>alv2S.do_ evC'
 | n+1=>(alvSS n).do_ _
end Go.Dav
namespace Go.Dav
open Go.Proofs
theorem Turn.leftG {σ τ:Type} {A:Ob σ} {B:Ob τ} [fb:Frame B] {W w:World} {F:Fp} {x:σ×τ} (hTab:Tab W) (h0:¬F 0) (h:Turn (Star A B) W w F x) :
  ∃F1,A w F1 x.1∧Tab w∧¬F1 0∧∀{υ:Type} (A':Ob υ) w' s',Turn A' w w' F1 s'→Turn (Star A' B) W w' F (s',x.2):=by
 have hp:=hTab.pos
 have ht:=h.tab hTab h0
 obtain⟨F',h1,h2,h3⟩:=h
 obtain⟨F1,F2,a1,a2,a3,a4⟩:=h1
 refine⟨F1,a1,ht,fun hh=>?_,?_⟩
 ·rcases h3 0 ((a3 0).2 (.inl hh))with k|k
  ·exact h0 k
  ·omega
 ·rintro υ A' w' s' ⟨G1,k1,k2,k3⟩
  refine⟨fun i=>G1 i∨F2 i,⟨G1,F2,k1,fb.upd a2 k2 (fun i hi hf=>a4 i hf hi),fun _=>Iff.rfl,fun i hi hf=>?_⟩,h2.trans k2 (fun i hi hf=>(h3 i ((a3 i).2 (.inl hf))).elim id (fun h=>absurd h (by omega))),fun i hi=>?_⟩
  ·rcases k3 i hi with h|h
   ·exact a4 i h hf
   ·have:=fb.lt a2 i hf;omega
  ·rcases hi with hi|hi
   ·rcases k3 i hi with h|h
    ·exact h3 i ((a3 i).2 (.inl h))
    ·exact .inr (Nat.le_trans h2.size h)
   ·exact h3 i ((a3 i).2 (.inr hi))
theorem rcE_len (x:Rc):(rcE_Kdo x).length=5:=rfl
theorem few_ok (n:Int) {p:Option Addr} {m c:Nat} (w:World):Calls Tryz.prog 9 #[.int .i64 n,.slice p m c] w fun e w'=>e=.returned (.bool (decide (1≤n∧n≤9∧m≤300)))∧w'=w:=by
 refine u9 ?_
 rw[t9]
 refine⟨fun g=>⟨fun g2=>⟨?_,rfl⟩,fun g2=>⟨?_,rfl⟩⟩,fun g=>⟨?_,rfl⟩⟩
 ·have:=of_decide_eq_true g;have:=of_decide_eq_true g2
  have e:decide ((m:Int)≤300)=decide (1≤n∧n≤9∧m≤300):=decide_eq_decide.2 (by omega)
  rw[e]
 ·have:=of_decide_eq_false g2
  rw[decide_eq_false (by omega)]
 ·have:=of_decide_eq_false g
  rw[decide_eq_false (by omega)]
set_option maxRecDepth 100000 in
theorem eqRc (x y:Rc) (w:World):∃b,(Op.equal 43 (.agg #[.int .i64 x.1,.int .i64 x.2.1,.int .i64 x.2.2.1,.int .i64 x.2.2.2.1,.int .i64 x.2.2.2.2]) (.agg #[.int .i64 y.1,.int .i64 y.2.1,.int .i64 y.2.2.1,.int .i64 y.2.2.2.1,.int .i64 y.2.2.2.2])).run Tryz.prog w=.ok b w∧(b=true↔x=y):=by
 have h1:Tryz.prog.stoodInHeld 43=false:=by kernel_rfl
 have h2:flatF Tryz.prog (Tryz.prog.fieldsOf 43).toList 0 (rcE_Kdo x)=true:=by kernel_rfl
 have h3:isStr Tryz.prog 43=true:=by kernel_rfl
 have h4:sameL (rcE_Kdo x) (rcE_Kdo y)=true:=rfl
 have h5:=run_eq_struct (rcE_Kdo x) h1 h2 h3 (vs:=rcE_Kdo y) h4 w
 unfold rcE_Kdo at h5
 refine⟨_,h5,?_⟩
 simp only[eqL,scEq,Bool.and_true,Bool.and_eq_true,beq_iff_eq]
 constructor
 ·rintro⟨h1,h2,h3,h4,h5⟩
  exact Prod.ext h1 (Prod.ext h2 (Prod.ext h3 (Prod.ext h4 h5)))
 ·rintro rfl;exact⟨rfl,rfl,rfl,rfl,rfl⟩
theorem rsame_ok {w:World} {p q:Option Addr} {l m:List Rc} {c d:Nat} (h:Cells w p (l.flatMap rcE_Kdo)) (k:Cells w q (m.flatMap rcE_Kdo)) (hb:l.length≤1000) :
  Calls Tryz.prog 59 #[.slice p l.length c,.slice q m.length d] w fun e w'=>e=.returned (.bool (decide (l=m)))∧Upd no w w':=by
 refine u59 ?_
 rw[t59]
 refine⟨fun g=>⟨?_,Upd.refl _ _⟩,fun g=>?_⟩
 ·have:l≠m:=fun e=>by subst e;simp at g
  simp[this]
 ·have hl:l.length=m.length:=by simp at g;omega
  refine⟨WP_loop okProg (M:=M59) (σ:=Nat) (fun i=>e59_1 p l.length c q m.length d i) (fun i w'=>i≤l.length∧l.take i=m.take i∧Upd no w w') (fun i _=>l.length-i) 0 ⟨rfl,rfl,rfl,trivial⟩ ⟨by omega,by simp,Upd.refl _ _⟩ ?_⟩
  intro i w1 hI
  have h1:=hI.1
  have h2:=hI.2.1
  have hU:=hI.2.2
  rw[t59_1]
  refine⟨fun hlt w2 q1 q2 q3 q4=>?_,fun hge=>⟨?_,hU⟩⟩
  ·have hi:i<l.length:=by simpa using hlt
   have hi':i<m.length:=by omega
   have hU2:=hU.trans (Upd.same no q1 q2 q3 q4) (fun _ _ h=>h)
   obtain⟨a,ha,hc⟩:=(h.no hU2).atk rcE_len (by decide) hi
   obtain⟨b,hb,hc'⟩:=(k.no hU2).atk rcE_len (by decide) hi'
   obtain⟨bb,he,hbb⟩:=eqRc l[i] m[i] w2
   refine⟨⟨by omega,by omega⟩,a,ha,_,hc 0 _ rfl,_,hc 1 _ rfl,_,hc 2 _ rfl,_,hc 3 _ rfl,_,hc 4 _ rfl,⟨by omega,by omega⟩,b,hb,_,hc' 0 _ rfl,_,hc' 1 _ rfl,_,hc' 2 _ rfl,_,hc' 3 _ rfl,_,hc' 4 _ rfl,bb,he,rfl,fun g2=>⟨?_,hU2⟩,fun g2=>?_⟩
   ·have:l≠m:=fun e=>by
     have:bb=true:=hbb.2 (by simp only[e])
     rw[this]at g2;cases g2
    simp[this]
   ·have he:l[i]=m[i]:=hbb.1 (by simpa using g2)
    exact⟨i+1,⟨rfl,rfl,by rw[w64 (by omega)];rfl,trivial⟩,⟨by omega,by rw[List.take_succ_eq_append_getElem hi,List.take_succ_eq_append_getElem hi',h2,he],hU2⟩,by omega⟩
  ·have:i=l.length:=by simp at hge;omega
   subst this
   rw[List.take_length,hl,List.take_length]at h2
   simp[h2]
theorem RcL.cells {p:Option Addr} {c:Nat} {w:World} {F:Fp} {rs:List Rc} (h:RcL p c w F rs):Cells w p (rs.flatMap rcE_Kdo):=h.2.cells
theorem konline_ok {b:Nat} {W w:World} {F:Fp} {k:K} (h:Turn (KO b) W w F k):Calls Tryz.prog 22 #[.pointer (some ⟨b,0,none⟩)] w fun e w'=>e=.returned (.int .u64 (mi k.on))∧w'=w:=by
 obtain⟨q,hq⟩:=KO.fix h
 refine u22 ?_
 rw[t22]
 exact⟨fun g=>(by cases g),fun _=>⟨_,rfl,_,(KF.blk hq).cell rfl,rfl,rfl⟩⟩
theorem alive_ok {w:World} (hTab:Tab w):Calls Tryz.prog 10 #[] w fun e w'=>e=.returned (.bool true)∧Upd no w w':=by
 refine u10 ?_
 rw[t10]
 refine⟨(knew_ok 2 ⟨by omega,by omega⟩ w).mono ?_⟩
 rintro e w1 ⟨b,F,rfl,hK,hU,hF⟩
 have hT1:Tab w1:=hTab.no hU
 have h0:¬F 0:=fun hh=>by have:=hF 0 hh;have:=hTab.pos;omega
 refine⟨_,_,rfl,fun _=>⟨fun g=>(by cases g),fun _=>⟨(kdo_ok (k:=alv0) (e:=evA) hT1 h0 (Turn.same hK) alv0S.tmt).mono ?_⟩⟩,fun g=>by simp at g⟩
 rintro e w2 ⟨pa,ca,rfl,hA⟩
 obtain⟨F2,hK2,hT2,h02,k2⟩:=hA.leftG hT1 h0
 refine⟨_,_,_,rfl,⟨(kdo_ok (k:=alv1) (e:=evB) hT2 h02 (Turn.same hK2) alv1S.tmt).mono ?_⟩⟩
 rintro e w3 ⟨pb,cb,rfl,hB⟩
 replace hB:=k2 _ _ _ hB
 obtain⟨F3,hS3,hT3,h03,k3⟩:=hB.leftG hT1 h0
 obtain⟨F4,hK4,hT4,h04,k4⟩:=(Turn.same hS3).leftG hT3 h03
 refine⟨_,_,_,rfl,⟨(kdo_ok (k:=alv2) (e:=evC') hT4 h04 (Turn.same hK4) alv2S.tmt).mono ?_⟩⟩
 rintro e w4 ⟨pc,cc,rfl,hC⟩
 replace hC:=k3 _ _ _ (k4 _ _ _ hC)
 refine⟨_,_,_,rfl,⟨WP_loop okProg (M:=M10) (σ:=Nat) (fun i=>e10_1 (some ⟨b,0,none⟩) pa _ ca pb _ cb pc _ cc (i:Int)) (fun i w'=>i≤40∧Turn (Star (Star (Star (KO b) (RcL pc cc)) (RcL pb cb)) (RcL pa ca)) w1 w' F (((alvS i,doR alv2 evC'),doR alv1 evB),doR alv0 evA)) (fun i _=>40-i) 0 ⟨rfl,rfl,rfl,rfl,rfl,trivial⟩ ⟨by omega,hC⟩ ?_⟩⟩
 rintro i w5 ⟨hi,hS⟩
 rw[t10_1]
 refine⟨fun g=>?_,fun g=>CutD.mk ?_⟩
 ·have g:=of_decide_eq_true g
  obtain⟨F5,hS5,hT5,h05,k5⟩:=hS.leftG hT1 h0
  obtain⟨F6,hS6,hT6,h06,k6⟩:=(Turn.same hS5).leftG hT5 h05
  obtain⟨F7,hK7,hT7,h07,k7⟩:=(Turn.same hS6).leftG hT6 h06
  have em:Int.tmod (i:Int) 2=((i%2:Nat):Int):=by rw[Int.tmod_eq_emod_of_nonneg (by omega)];omega
  rw[em]
  refine⟨by omega,⟨(kdo_ok (k:=alvS i) (e:=(1,((i%2:Nat):Int),0,0,0)) hT7 h07 (Turn.same hK7) (alvSS i).tmt).mono ?_⟩⟩
  rintro e w6 ⟨pd,cd,rfl,hD⟩
  exact⟨_,_,_,rfl,i+1,⟨rfl,rfl,rfl,rfl,by rw[w64 (by omega)];rfl,trivial⟩,⟨by omega,k5 _ _ _ (k6 _ _ _ (k7 _ _ _ hD.drop))⟩,by omega⟩
 ·have g:=of_decide_eq_false g
  have e40:i=40:=by omega
  subst e40
  rw[t10_0]
  have hRa:Cells w5 pa ((doR alv0 evA).flatMap rcE_Kdo):=by obtain⟨_,hR,_⟩:=hS.right;exact hR.cells
  have hRb:Cells w5 pb ((doR alv1 evB).flatMap rcE_Kdo):=by obtain⟨_,hR,_⟩:=hS.drop.right;exact hR.cells
  have hRc:Cells w5 pc ((doR alv2 evC').flatMap rcE_Kdo):=by obtain⟨_,hR,_⟩:=hS.drop.drop.right;exact hR.cells
  have hD:=hS.drop.drop.drop
  have hUF:Upd no w w5:=by
   obtain⟨F',_,hU5,_⟩:=hS
   exact hU.trans hU5 (fun i hi hf=>by have:=hF i hf;omega)
  rw[alvA]at hRa
  rw[alvB]at hRb
  rw[alvC]at hRc
  rw[alvA,alvB,alvC]
  have one:∀{u:World} {r:Rc} {u':World},Newed u u' (.cells (List.toArray (rcE_Kdo r)) 43 (0,0))→Cells u' (some ⟨u.heap.size,0,none⟩) ([r].flatMap rcE_Kdo):=fun hN=>(Sl.new hN (sz:=5) (n:=1) rfl (show(1:Nat)≤maxLen by unfold maxLen;omega)).cells
  refine⟨fun w6 hN6=>⟨(rsame_ok (l:=[(1,0,1,0,0)]) (m:=[(1,0,1,0,0)]) (hRa.no (hN6.upd no)) (one (r:=(1,0,1,0,0)) hN6) (by simp)).mono ?_⟩⟩
  rintro e w7 ⟨rfl,hU7⟩
  have hU67:=(hN6.upd no).trans hU7 (fun _ _ h=>h)
  refine⟨_,rfl,fun _=>⟨fun w8 hN8=>⟨(rsame_ok (l:=[(2,1,1,0,0)]) (m:=[(2,1,1,0,0)]) (hRb.no (hU67.trans (hN8.upd no) (fun _ _ h=>h))) (one (r:=(2,1,1,0,0)) hN8) (by simp)).mono ?_⟩⟩,fun g=>by simp at g⟩
  rintro e w9 ⟨rfl,hU9⟩
  have hU69:=(hU67.trans (hN8.upd no) (fun _ _ h=>h)).trans hU9 (fun _ _ h=>h)
  refine⟨_,rfl,fun _=>⟨fun w10 hN10=>⟨(rsame_ok (l:=[(1,0,0,0,0)]) (m:=[(1,0,0,0,0)]) (hRc.no (hU69.trans (hN10.upd no) (fun _ _ h=>h))) (one (r:=(1,0,0,0,0)) hN10) (by simp)).mono ?_⟩⟩,fun g=>by simp at g⟩
  rintro e w11 ⟨rfl,hU11⟩
  have hUall:=(hU69.trans (hN10.upd no) (fun _ _ h=>h)).trans hU11 (fun _ _ h=>h)
  refine⟨_,rfl,fun _=>⟨(konline_ok (hD.upd hUall)).mono ?_⟩,fun g=>by simp at g⟩
  rintro e w12 ⟨rfl,rfl⟩
  refine⟨_,rfl,?_,hUF.trans hUall (fun _ _ h=>h)⟩
  rw[alvK]
  rfl
end Go.Dav
namespace Go.Dav
open Go.Proofs
theorem n_mend (k:K) (id:Int):(mendK k id).n=k.n:=by unfold mendK;split<;>rfl
theorem n_aim (k:K) (id:Int):(aimK k id).n=k.n:=by unfold aimK;split<;>rfl
theorem n_mends:∀(l:List Int) (k:K),(l.foldl mendK k).n=k.n
 | [],_=>rfl
 | a::l,k=>(n_mends l _).trans (n_mend k a)
theorem n_aims:∀(l:List Int) (k:K),(l.foldl aimK k).n=k.n
 | [],_=>rfl
 | a::l,k=>(n_aims l _).trans (n_aim k a)
theorem n_leads (c:Int):∀(l:List Int) (k:K),(l.foldl (fun k n=>leadK k n c) k).n=k.n
 | [],_=>rfl
 | a::l,k=>(n_leads c l _).trans rfl
theorem n_tick (k:K) (n:Int):(tickK k n).n=k.n:=by unfold tickK;split<;>rfl
theorem n_spawn (k:K) (p:Int) (m:BV):(spawnK k p m).n=k.n:=by unfold spawnK;split<;>rfl
theorem n_sleep (k:K) (id:Int) (x:Th) (n:Int):(sleepK k id x n).n=k.n:=by unfold sleepK;split;split<;>rfl;rfl
theorem n_exit (k:K) (id:Int) (x:Th):(exitK k id x).n=k.n:=by unfold exitK;split<;>rfl
theorem n_thr (k:K) (e:Evt):(thrK k e).n=k.n:=by
 unfold thrK
 simp only
 split;rfl
 split;rfl
 split;exact n_exit _ _ _
 split
 ·split
  ·exact n_mend _ _
  ·rfl
 split;rfl
 split;exact n_sleep _ _ _ _
 split<;>rfl
theorem n_irq (k:K) (e:Evt):(irqK k e).n=k.n:=by
 unfold irqK
 split;split<;>rfl
 split;split<;>rfl
 split;split;exact n_aim _ _;rfl
 split;rfl
 split<;>rfl
theorem n_plc (k:K) (e:Evt):(plcK k e).n=k.n:=by
 unfold plcK
 split;rfl
 split;unfold armKS;split<;>rfl
 split;rfl
 split;rfl
 split;rfl
 split<;>rfl
theorem n_rst (k:K) (e:Evt):(rstK k e).n=k.n:=by
 unfold rstK
 split;unfold cancelKS;split;split<;>rfl;rfl
 split;rfl
 split;rfl
 split;rfl
 split;unfold limK;split<;>rfl
 split;rfl
 split;unfold balK;split;rfl;split<;>rfl
 rfl
theorem n_stage (k:K) (s:Int×Bool×Bool) (c who:Int):(stageK k s c who).n=k.n:=by
 unfold stageK
 split
 ·unfold undoK;split;rfl;split<;>rfl
 split;rfl
 split
 ·unfold comeK
  split;rfl
  split;rfl
  simp only
  rw[n_aims,n_mends]
 ·unfold leaveK
  split;rfl
  split;unfold emptyK;split<;>rfl
  split;rfl
  split;rfl
  split;rfl
  split
  ·unfold haltK
   split;rfl
   split
   ·simp only
    rw[n_leads]
   ·rfl
  split;rfl
  split<;>rfl
theorem n_turn (k:K) (who:Int):(turnK k who).n=k.n:=by
 have h1:(turn1 k who).n=k.n:=by
  unfold turn1
  simp only
  split;rfl
  split
  ·exact n_stage _ _ _ _
  ·exact n_stage _ _ _ _
 unfold turnK
 split
 ·exact h1
 ·exact h1
theorem n_thing (k:K) (c what:Int):(thingK k c what).n=k.n:=by
 unfold thingK
 split;rfl
 split;rfl
 split;unfold fireK;simp only;split<;>rfl
 split<;>rfl
theorem n_step (k:K) (c:Int):(stepK k c).n=k.n:=by
 unfold stepK
 split;rfl
 split;rfl
 split;rfl
 split;exact n_turn _ _
 split;rfl
 exact n_thing _ _ _
theorem n_req (k:K) (up:Bool) (c:Int):(reqKS k up c).n=k.n:=by
 unfold reqKS
 split;rfl
 split;rfl
 split;rfl
 split;rfl
 split<;>rfl
theorem n_do (k:K) (e:Evt):(doK k e).n=k.n:=by
 unfold doK
 split;split;rfl;exact n_step _ _
 split;exact n_tick _ _
 split;exact n_spawn _ _ _
 split;exact n_thr _ _
 split;exact n_irq _ _
 split;split;rfl;exact n_plc _ _
 split;exact n_plc _ _
 split;exact n_req _ _ _
 exact n_rst _ _
def RcOk (n:Int) (r:Rc):Prop:=r.1=1∨r.1=7∨(2≤r.1∧r.1≤6∧0≤r.2.1∧r.2.1<n)
def RsOk (n:Int) (l:List Rc):Prop:=l.length≤1∧∀r∈l,RcOk n r
theorem ok_ans (n:Int) (x:Int×Int):RsOk n (ansR x):=⟨Nat.le_refl _,fun r hr=>by
 unfold ansR at hr;rw[List.mem_singleton]at hr;subst hr;exact .inl rfl⟩
theorem ok_pla (n x:Int):RsOk n (plaR x):=⟨Nat.le_refl _,fun r hr=>by
 unfold plaR at hr;rw[List.mem_singleton]at hr;subst hr;exact .inl rfl⟩
theorem ok_one {n:Int} {r:Rc} (h:RcOk n r):RsOk n [r]:=⟨Nat.le_refl _,fun x hx=>by
 rw[List.mem_singleton]at hx;subst hx;exact h⟩
theorem ok_step (k:K) {c:Int} (hc:0≤c∧c<k.n):RsOk k.n (stepR k c):=by
 unfold stepR
 split
 ·exact⟨Nat.zero_le _,fun r hr=>by cases hr⟩
 split
 ·unfold turnR
  split
  ·exact ok_one (.inr (.inl rfl))
  ·exact⟨Nat.zero_le _,fun r hr=>by cases hr⟩
 ·unfold thingR
  split;exact ok_one (.inr (.inr ⟨by simp,by simp,hc⟩))
  split;exact ok_one (.inr (.inr ⟨by simp,by simp,hc⟩))
  split;exact ok_one (.inr (.inr ⟨by simp,by simp,hc⟩))
  split;exact ok_one (.inr (.inr ⟨by simp,by simp,hc⟩))
  exact ok_one (.inr (.inr ⟨by simp,by simp,hc⟩))
theorem ok_plc (n:Int) (k:K) (e:Evt):RsOk n (plcR k e):=by
 unfold plcR
 split;exact ok_pla _ _
 split;exact ok_ans _ _
 split;exact ok_ans _ _
 split;exact ok_ans _ _
 split;exact ok_ans _ _
 split<;>exact ok_pla _ _
theorem ok_thr (n:Int) (k:K) (e:Evt):RsOk n (thrR k e):=by
 unfold thrR
 simp only
 split;exact ok_pla _ _
 split;exact ok_ans _ _
 split;exact ok_pla _ _
 split;exact ok_pla _ _
 split;exact ok_pla _ _
 split;exact ok_ans _ _
 split<;>exact ok_pla _ _
theorem ok_rst (n:Int) (k:K) (e:Evt):RsOk n (rstR k e):=by
 unfold rstR
 split;exact ok_pla _ _
 split;exact ok_ans _ _
 split;exact ok_pla _ _
 split;exact ok_pla _ _
 split;exact ok_pla _ _
 split;exact ok_pla _ _
 split
 ·exact ok_ans _ _
 ·exact ok_pla _ _
theorem ok_do (k:K) (e:Evt):RsOk k.n (doR k e):=by
 unfold doR
 split
 ·split
  ·exact ok_pla _ _
  ·exact ok_step k (by omega)
 split;exact ok_pla _ _
 split;exact ok_ans _ _
 split;exact ok_thr _ _ _
 split;exact ok_pla _ _
 split
 ·split
  ·exact ok_ans _ _
  ·exact ok_plc _ _ _
 split;exact ok_plc _ _ _
 split;exact ok_pla _ _
 exact ok_rst _ _ _
def kS (k:K) (es:List Evt):K:=es.foldl doK k
def outS:K→List Evt→List Rc
 | _,[]=>[]
 | k,e::es=>doR k e++outS (doK k e) es
theorem kS_one (k:K) (es:List Evt) (e:Evt):kS k (es++[e])=doK (kS k es) e:=by unfold kS;rw[List.foldl_append];rfl
theorem outS_one (e:Evt):∀(es:List Evt) (k:K),outS k (es++[e])=outS k es++doR (kS k es) e
 | [],k=>by simp[outS,kS]
 | a::es,k=>by
  show doR k a++outS (doK k a) (es++[e])=doR k a++outS (doK k a) es++doR (kS (doK k a) es) e
  rw[outS_one e es,List.append_assoc]
theorem kS_n:∀(es:List Evt) (k:K),(kS k es).n=k.n
 | [],_=>rfl
 | e::es,k=>(kS_n es _).trans (n_do k e)
theorem kS_S:∀(es:List Evt) (k:K),KSV k→KSV (kS k es)
 | [],_,h=>h
 | e::es,k,h=>kS_S es _ (h.do_ e)
theorem outS_len:∀(es:List Evt) (k:K),(outS k es).length≤es.length
 | [],_=>Nat.le_refl _
 | e::es,k=>by
  have h1:=(ok_do k e).1
  have h2:=outS_len es (doK k e)
  show(doR k e++outS (doK k e) es).length≤es.length+1
  rw[List.length_append]
  omega
structure Tl where
 t0:Int
 t1:Int
 t2:Int
 t3:Int
 t4:Int
 we:Int
 fa:Int
 er:Int
def tl0:Tl:=⟨0,0,0,0,0,0,0,0⟩
def cntR (x:Tl) (r:Rc):Tl:=
 if r.1=1 then(if r.2.2.2.2=0 then x else{x with er:=x.er+1})
 else if r.1=7 then(if r.2.2.2.2=0 then{x with we:=x.we+1}else{x with fa:=x.fa+1})
 else if r.1=2 then{x with t0:=x.t0+1}
 else if r.1=3 then{x with t1:=x.t1+1}
 else if r.1=4 then{x with t2:=x.t2+1}
 else if r.1=5 then{x with t3:=x.t3+1}
 else{x with t4:=x.t4+1}
def sumR (s:Int×Int×Int) (r:Rc):Int×Int×Int:=
 if r.1=1 then(if r.2.2.2.2=0 then s else(s.1,s.2.1,s.2.2+1))
 else if r.1=7 then(s.1,s.2.1+1,s.2.2)
 else(s.1+1,s.2.1,s.2.2)
def tlSum (x:Tl):Int×Int×Int:=(x.t0+x.t1+x.t2+x.t3+x.t4,x.we+x.fa,x.er)
theorem sum_cnt (x:Tl) (r:Rc):tlSum (cntR x r)=sumR (tlSum x) r:=by
 unfold cntR sumR tlSum
 split
 ·split<;>rfl
 split
 ·split
  ·refine Prod.ext rfl (Prod.ext ?_ rfl);simp only;omega
  ·refine Prod.ext rfl (Prod.ext ?_ rfl);simp only;omega
 split
 ·refine Prod.ext ?_ rfl;simp only;omega
 split
 ·refine Prod.ext ?_ rfl;simp only;omega
 split
 ·refine Prod.ext ?_ rfl;simp only;omega
 split
 ·refine Prod.ext ?_ rfl;simp only;omega
 ·refine Prod.ext ?_ rfl;simp only;omega
theorem sum_cnts:∀(l:List Rc) (x:Tl),tlSum (l.foldl cntR x)=l.foldl sumR (tlSum x)
 | [],_=>rfl
 | r::l,x=>by rw[List.foldl_cons,List.foldl_cons,sum_cnts l,sum_cnt]
def ww (x:Int):Int:=IntKind.wrap .i64 x
theorem ww_add (x y:Int):IntKind.wrap .i64 (ww x+y)=ww (x+y):=by
 unfold ww IntKind.wrap
 simp only[IntKind.bits,IntKind.signed,Bool.true_and]
 split<;>split<;>split<;>simp_all<;>omega
theorem ww_add2 (x y:Int):IntKind.wrap .i64 (ww x+ww y)=ww (x+y):=by
 rw[ww_add,Int.add_comm]
 have:=ww_add y x
 rw[Int.add_comm]at this
 rw[Int.add_comm x y,←this,Int.add_comm]
 show ww _=_
 unfold ww
 rw[Int.add_comm]
theorem ww0:ww 0=0:=by kernel_rfl
end Go.Dav
namespace Go.Dav
open Go.Proofs
abbrev Hid:=Int×Int×Int×Int
def tlE_Tly (p:Option Addr) (N r1 r2:Nat) (y:Tl×Hid):List Value:=
 [.int .i64 y.2.1,.int .i64 (ww y.1.t0),.int .i64 (ww y.1.t1),.int .i64 (ww y.1.t2),.int .i64 (ww y.1.t3),.int .i64 (ww y.1.t4),.slice p N N,
   .int .i64 (ww y.1.we),.int .i64 (ww y.1.fa),.int .i64 (ww y.1.er),.int .i64 y.2.2.1,.int .i64 y.2.2.2.1,.int .i64 y.2.2.2.2,.map (some r1),.map (some r2)]
abbrev MS:=(Int→Option Int)×Nat
abbrev CtI (b:Nat) (p:Option Addr) (N r1 r2:Nat):Ob ((((Tl×Hid)×(Option Addr×Nat×List Int))×MS)×MS):=
 Star (Star (Star (Rw b 166 (tlE_Tly p N r1 r2)) (Lv 2 (Value.int .i64))) (MapO r1 (Value.int .i64))) (MapO r2 (Value.int .i64))
def CtO (b:Nat) (p:Option Addr) (N r1 r2:Nat):Ob Tl:=fun w F x=>∃h l m1 m2,CtI b p N r1 r2 w F ((((x,h),(p,N,l)),m1),m2)∧l.length=N
instance Frame.cto (b:Nat) (p:Option Addr) (N r1 r2:Nat):Frame (CtO b p N r1 r2) where
 upd:=fun⟨h,l,m1,m2,hI,hl⟩ k hG=>have I:Frame (CtI b p N r1 r2):=inferInstance;⟨h,l,m1,m2,I.upd hI k hG,hl⟩
 lt:=fun⟨_,_,_,_,hI,_⟩=>have I:Frame (CtI b p N r1 r2):=inferInstance;I.lt hI
section
variable {b:Nat} {p:Option Addr} {N r1 r2:Nat} {W w:World} {F:Fp}
theorem CtO.open_ {x:Tl} (h:Turn (CtO b p N r1 r2) W w F x):∃F1 h l m1 m2,Turn (CtI b p N r1 r2) w w F1 ((((x,h),(p,N,l)),m1),m2)∧l.length=N∧∀w' x' h' l' m1' m2',Turn (CtI b p N r1 r2) w w' F1 ((((x',h'),(p,N,l')),m1'),m2')→l'.length=N→Turn (CtO b p N r1 r2) W w' F x':=by
 obtain⟨F1,⟨h,l,m1,m2,hI,hl⟩,k1⟩:=h.turn
 refine⟨F1,h,l,m1,m2,Turn.same hI,hl,fun w' x' h' l' m1' m2' hT hl'=>k1 _ _ ?_⟩
 obtain⟨F',h1,h2⟩:=hT
 exact⟨F',⟨h',l',m1',m2',h1,hl'⟩,h2⟩
theorem CtI.blk {y:Tl×Hid} {z:Option Addr×Nat×List Int} {m1 m2:MS} (h:Turn (CtI b p N r1 r2) W w F (((y,z),m1),m2)):Blk w b (tlE_Tly p N r1 r2 y) 166:=by
 obtain⟨F1,h1,_⟩:=h.drop.drop.left
 exact h1.blk
theorem CtI.wr {y y':Tl×Hid} {z:Option Addr×Nat×List Int} {m1 m2:MS} (h:Turn (CtI b p N r1 r2) W w F (((y,z),m1),m2)) {k:Nat} {v:Value} (hk:k<15) (e:tlE_Tly p N r1 r2 y'=setL (tlE_Tly p N r1 r2 y) k [v]) {K:World→Prop}
  (hK:∀w',Turn (CtI b p N r1 r2) W w' F (((y',z),m1),m2)→K w'):Wr w ((⟨b,0,none⟩:Addr).add k) [v] K:=by
 obtain⟨F1,h1,k1⟩:=h.left
 obtain⟨F2,h2,k2⟩:=Star.left h1
 obtain⟨F3,h3,k3⟩:=Star.left h2
 refine h3.blk.wr (by show k+1≤15;omega) fun w' hW=>hK w' (k1 _ _ (k2 _ _ (k3 _ _ (h3.turned hW.U ?_))))
 rw[e]
 exact hW.blk'
theorem add2 (b o k:Nat):((⟨b,0,none⟩:Addr).add o).add k=(⟨b,0,none⟩:Addr).add (o+k):=by
 rw[add_lit,add_lit,add_lit];congr 1;omega
theorem twaited_ok {x:Tl} {l:List Int} {h:Hid} {m1 m2:MS} (hT:Turn (CtI b p N r1 r2) W w F ((((x,h),(p,N,l)),m1),m2)) {r:Nat} (hr:r=r1∨r=r2) (id at_:Int):Calls Tryz.prog 271 #[.pointer (some ⟨b,0,none⟩),.map (some r),.int .i64 id,.int .i64 at_] w fun e w'=>e=.returned (.tuple #[])∧∃h',Turn (CtI b p N r1 r2) W w' F ((((x,h'),(p,N,l)),m1),m2):=by
 refine u271 ?_
 rw[t271]
 have hlk:∃n,(Instr.lookup 78 (.map (some r)) (.int .i64 id) false).run Tryz.prog w=.ok (.int .i64 n) w:=by
  rcases hr with rfl|rfl
  ·obtain⟨F2,h2,_⟩:=hT.drop.right
   have:=run_lookup tmM h2 id false
   rw[this]
   cases(m1.1 id)with
   | none=>exact⟨0,rfl⟩
   | some v=>exact⟨v,rfl⟩
  ·obtain⟨F2,h2,_⟩:=hT.right
   have:=run_lookup tmM h2 id false
   rw[this]
   cases(m2.1 id)with
   | none=>exact⟨0,rfl⟩
   | some v=>exact⟨v,rfl⟩
 obtain⟨n,hn⟩:=hlk
 refine⟨n,hn,_,rfl,_,(CtI.blk hT).cell2 rfl,_,rfl,?_⟩
 rw[add2]
 refine CtI.wr (y':=(x,h.1,IntKind.wrap .i64 (h.2.1+1),h.2.2)) hT (by omega) rfl fun w1 h1=>⟨_,rfl,_,(CtI.blk h1).cell2 rfl,_,rfl,?_⟩
 rw[add2]
 refine CtI.wr (y':=(x,h.1,IntKind.wrap .i64 (h.2.1+1),IntKind.wrap .i64 (h.2.2.1+IntKind.wrap .i64 (at_-n)),h.2.2.2)) h1 (by omega) rfl fun w2 h2=>⟨_,rfl,_,(CtI.blk h2).cell2 rfl,_,_,run_max64 _ _ _,_,rfl,?_⟩
 rw[add2]
 exact CtI.wr (y':=(x,h.1,IntKind.wrap .i64 (h.2.1+1),IntKind.wrap .i64 (h.2.2.1+IntKind.wrap .i64 (at_-n)),if IntKind.wrap .i64 (at_-n)>h.2.2.2 then IntKind.wrap .i64 (at_-n)else h.2.2.2)) h2 (by omega) rfl fun w3 h3=>⟨rfl,_,h3⟩
theorem ttold0 {x:Tl} {r:Rc} {q:Nat} (hT:Turn (Star (CtO b p N r1 r2) (Lb q 43)) W w F (x,rcE_Kdo r)) (h1:r.1≠1) (h7:r.1≠7) (hr:RcOk (N:Int) r) (R:Ending→World→Prop) (hR:∀w',Turn (Star (CtO b p N r1 r2) (Lb q 43)) W w' F (cntR x r,rcE_Kdo r)→R (.returned (.tuple #[])) w') :
  CutD Tryz.prog M176 c176_0 (e176_0 (some ⟨b,0,none⟩) ⟨q,0,none⟩) w (k176_0 R):=by
 refine CutD.mk ?_
 rw[t176_0]
 obtain⟨g1,g2,g3,g4⟩:2≤r.1∧r.1≤6∧0≤r.2.1∧r.2.1<N:=by
  rcases hr with h|h|h
  ·exact absurd h h1
  ·exact absurd h h7
  ·exact h
 intro w1 q1 q2 q3 q4
 replace hT:=hT.upd (Upd.same no q1 q2 q3 q4)
 refine⟨_,(lb_blk hT).cell rfl,_,rfl,⟨by rw[w64 (by omega)];omega,by rw[w64 (by omega)];omega⟩,?_⟩
 rw[w64 (by omega)]
 obtain⟨G,hG,kG⟩:=hT.left
 obtain⟨F1,h,l,m1,m2,hI,hl,k1⟩:=CtO.open_ (Turn.same hG)
 have ea:∀j:Nat,(((⟨b,0,none⟩:Addr).add 0).add 1).add j=(⟨b,0,none⟩:Addr).add (1+j):=fun j=>by rw[add2,add2]
 have hc:∃n y',w1.cell? ((⟨b,0,none⟩:Addr).add (1+(r.1-2).toNat))=some (.int .i64 n)∧y'.1=cntR x r∧tlE_Tly p N r1 r2 y'=setL (tlE_Tly p N r1 r2 (x,h)) (1+(r.1-2).toNat) [.int .i64 (IntKind.wrap .i64 (n+1))]:=by
  have hB:=CtI.blk hI
  rcases(by omega:r.1=2∨r.1=3∨r.1=4∨r.1=5∨r.1=6)with e|e|e|e|e
  ·rw[e]
   refine⟨_,(cntR x r,h),hB.cell (k:=1) rfl,rfl,?_⟩
   rw[ww_add];unfold cntR
   rw[if_neg (by omega),if_neg (by omega),if_pos (by omega)];rfl
  ·rw[e]
   refine⟨_,(cntR x r,h),hB.cell (k:=2) rfl,rfl,?_⟩
   rw[ww_add];unfold cntR
   rw[if_neg (by omega),if_neg (by omega),if_neg (by omega),if_pos (by omega)];rfl
  ·rw[e]
   refine⟨_,(cntR x r,h),hB.cell (k:=3) rfl,rfl,?_⟩
   rw[ww_add];unfold cntR
   rw[if_neg (by omega),if_neg (by omega),if_neg (by omega),if_neg (by omega),if_pos (by omega)];rfl
  ·rw[e]
   refine⟨_,(cntR x r,h),hB.cell (k:=4) rfl,rfl,?_⟩
   rw[ww_add];unfold cntR
   rw[if_neg (by omega),if_neg (by omega),if_neg (by omega),if_neg (by omega),if_neg (by omega),if_pos (by omega)];rfl
  ·rw[e]
   refine⟨_,(cntR x r,h),hB.cell (k:=5) rfl,rfl,?_⟩
   rw[ww_add];unfold cntR
   rw[if_neg (by omega),if_neg (by omega),if_neg (by omega),if_neg (by omega),if_neg (by omega),if_neg (by omega)];rfl
 obtain⟨n,y',hc,hy,he⟩:=hc
 rw[Nat.mul_one,ea]
 refine⟨n,hc,_,rfl,⟨by omega,by omega⟩,?_⟩
 rw[ea]
 refine CtI.wr hI (by omega) he fun w2 hI2=>?_
 intro w3 q1 q2 q3 q4
 replace hI2:=hI2.upd (Upd.same no q1 q2 q3 q4)
 obtain⟨x',h'⟩:=y'
 simp only at hy
 subst hy
 have hT3:=kG _ _ (k1 _ _ _ _ _ _ hI2 hl)
 obtain⟨j,hj,ej⟩:∃j:Nat,j<l.length∧r.2.1=(j:Int):=⟨r.2.1.toNat,by omega,by omega⟩
 obtain⟨A1,a1,kA1⟩:=hI2.left
 obtain⟨A2,a2,kA2⟩:=Star.left a1
 obtain⟨A3,a3,kA3⟩:=Star.right a2
 obtain⟨a,ha,hcell⟩:=Lv.at a3 hj
 refine⟨_,rfl,p,N,N,(CtI.blk hI2).cell2 rfl,_,(lb_blk hT3).cell rfl,⟨g3,g4⟩,a,ha,?_⟩
 rw[ej,Int.toNat_natCast]
 refine⟨_,hcell,⟨by omega,by omega⟩,a,ha,?_⟩
 have hW:=Lv.wr a3 hj (v:=IntKind.wrap .i64 (l[j]+1)) (K:=R (.returned (.tuple #[]))) fun w4 hL=>hR w4 (kG _ _ (k1 _ _ _ _ _ _ (kA1 _ _ (kA2 _ _ (kA3 _ _ hL))) (by simp[hl])))
 obtain⟨a',ha',hW⟩:=hW
 rw[show p=some a from ha]at ha'
 cases ha'
 exact hW
theorem ttold_ok {x:Tl} (h:Turn (CtO b p N r1 r2) W w F x) (r:Rc) (hr:RcOk (N:Int) r) (at_:Int):Calls Tryz.prog 176 #[.pointer (some ⟨b,0,none⟩),.agg (rcE_Kdo r).toArray,.int .i64 at_] w fun e w'=>e=.returned (.tuple #[])∧Turn (CtO b p N r1 r2) W w' F (cntR x r):=by
 refine u176 ?_
 rw[t176]
 refine⟨fun w1 hN=>?_⟩
 have hS:Turn (Star (CtO b p N r1 r2) (Lb w.heap.size 43)) W w1 F (x,rcE_Kdo r):=h.add (hN.upd no) (Rw.new hN rfl) (fun i hi=>Nat.le_of_eq hi.symm)
 generalize w.heap.size=q at hS⊢
 have hL:=lb_blk hS
 refine⟨_,hL.cell rfl,fun g1=>⟨_,hL.cell rfl,fun g2=>?_,fun g2=>?_⟩,fun g1=>⟨fun g7=>⟨_,hL.cell rfl,fun g2=>?_,fun g2=>?_⟩,fun g7=>⟨fun g5=>?_,fun g5=>⟨fun g6=>?_,fun g6=>?_⟩⟩⟩⟩
 ·obtain⟨F1,h1,l,m1,m2,hI,hl,k1⟩:=CtO.open_ hS.drop
  have e1:cntR x r={x with er:=x.er+1}:=by
   unfold cntR;rw[if_pos (by simpa using g1),if_neg (by simpa using g2)]
  refine⟨_,rfl,_,(CtI.blk hI).cell2 rfl,_,rfl,?_⟩
  rw[add2,ww_add]
  refine CtI.wr (y':=({x with er:=x.er+1},h1)) hI (by omega) rfl fun w2 hI2=>⟨rfl,?_⟩
  rw[e1]
  exact k1 _ _ _ _ _ _ hI2 hl
 ·have e1:cntR x r=x:=by
   unfold cntR;rw[if_pos (by simpa using g1),if_pos (by simpa using g2)]
  rw[e1]
  exact⟨rfl,hS.drop⟩
 ·obtain⟨F1,h1,l,m1,m2,hI,hl,k1⟩:=CtO.open_ hS.drop
  have e1:cntR x r={x with we:=x.we+1}:=by
   unfold cntR;rw[if_neg (by simpa using g1),if_pos (by simpa using g7),if_pos (by simpa using g2)]
  refine⟨_,rfl,_,(CtI.blk hI).cell2 rfl,_,rfl,?_⟩
  rw[add2,ww_add]
  refine CtI.wr (y':=({x with we:=x.we+1},h1)) hI (by omega) rfl fun w2 hI2=>⟨rfl,?_⟩
  rw[e1]
  exact k1 _ _ _ _ _ _ hI2 hl
 ·obtain⟨F1,h1,l,m1,m2,hI,hl,k1⟩:=CtO.open_ hS.drop
  have e1:cntR x r={x with fa:=x.fa+1}:=by
   unfold cntR;rw[if_neg (by simpa using g1),if_pos (by simpa using g7),if_neg (by simpa using g2)]
  refine⟨_,rfl,_,(CtI.blk hI).cell2 rfl,_,rfl,?_⟩
  rw[add2,ww_add]
  refine CtI.wr (y':=({x with fa:=x.fa+1},h1)) hI (by omega) rfl fun w2 hI2=>⟨rfl,?_⟩
  rw[e1]
  exact k1 _ _ _ _ _ _ hI2 hl
 ·intro w2 q1 q2 q3 q4
  replace hS:=hS.upd (Upd.same no q1 q2 q3 q4)
  obtain⟨G,hG,kG⟩:=hS.left
  obtain⟨F1,h1,l,m1,m2,hI,hl,k1⟩:=CtO.open_ (Turn.same hG)
  refine⟨_,rfl,_,(CtI.blk hI).cell rfl,_,(lb_blk hS).cell rfl,⟨(twaited_ok hI (.inl rfl) _ _).mono ?_⟩⟩
  rintro e w3 ⟨rfl,h',hI3⟩
  exact⟨rfl,ttold0 (kG _ _ (k1 _ _ _ _ _ _ hI3 hl)) (by simpa using g1) (by simpa using g7) hr _ fun w4 h4=>⟨rfl,h4.drop⟩⟩
 ·intro w2 q1 q2 q3 q4
  replace hS:=hS.upd (Upd.same no q1 q2 q3 q4)
  obtain⟨G,hG,kG⟩:=hS.left
  obtain⟨F1,h1,l,m1,m2,hI,hl,k1⟩:=CtO.open_ (Turn.same hG)
  refine⟨_,rfl,_,(CtI.blk hI).cell rfl,_,(lb_blk hS).cell rfl,⟨(twaited_ok hI (.inr rfl) _ _).mono ?_⟩⟩
  rintro e w3 ⟨rfl,h',hI3⟩
  exact⟨rfl,ttold0 (kG _ _ (k1 _ _ _ _ _ _ hI3 hl)) (by simpa using g1) (by simpa using g7) hr _ fun w4 h4=>⟨rfl,h4.drop⟩⟩
 ·exact ttold0 hS (by simpa using g1) (by simpa using g7) hr _ fun w4 h4=>⟨rfl,h4.drop⟩
theorem Cells.off {q:Option Addr} {cs:List Value} {w':World} {G:Fp} (h:Cells w q cs) (hd:∀a,q=some a→a.block<w.heap.size∧¬G a.block) (hU:Upd G w w'):Cells w' q cs:=
 h.upd fun a ha=>hU.blk _ (hd a ha).1 (hd a ha).2
theorem tevent_ok {x:Tl} (h:CtO b p N r1 r2 w F x) (e:Evt) {q:Option Addr} {c:Nat} {rs:List Rc} (hq:Cells w q (rs.flatMap rcE_Kdo)) (hd:∀a,q=some a→a.block<w.heap.size∧¬F a.block) (hrs:RsOk (N:Int) rs) (at_:Int) :
  Calls Tryz.prog 81 #[.pointer (some ⟨b,0,none⟩),.agg (evC e).toArray,.slice q rs.length c,.int .i64 at_] w fun e w'=>e=.returned (.tuple #[])∧Turn (CtO b p N r1 r2) w w' F (rs.foldl cntR x):=by
 have hlen:=hrs.1
 refine u81 ?_
 rw[t81]
 refine⟨fun w1 hN=>⟨?_⟩⟩
 have hS:Turn (Star (CtO b p N r1 r2) (Lb w.heap.size 33)) w w1 F (x,evC e):=(Turn.same h).add (hN.upd no) (Rw.new hN rfl) (fun i hi=>Nat.le_of_eq hi.symm)
 generalize w.heap.size=q0 at hS⊢
 refine WP_loop okProg (M:=M81) (σ:=Nat) (fun i=>e81_1 (some ⟨b,0,none⟩) q rs.length c at_ ⟨q0,0,none⟩ q rs.length c rs.length i) (fun i w'=>i≤rs.length∧Turn (Star (CtO b p N r1 r2) (Lb q0 33)) w w' F ((rs.take i).foldl cntR x,evC e)) (fun i _=>rs.length-i) 0 ⟨rfl,rfl,rfl,rfl,rfl,rfl,rfl,trivial⟩ ⟨Nat.zero_le _,hS⟩ ?_
 rintro i w2 ⟨hi,hS⟩
 have hC:Cells w2 q (rs.flatMap rcE_Kdo):=by
  obtain⟨_,_,hU,_⟩:=hS.drop
  exact hq.off hd hU
 rw[t81_1]
 refine⟨fun g=>?_,fun g=>CutD.mk ?_⟩
 ·have hi':i<rs.length:=by simpa using g
  obtain⟨a,ha,hc⟩:=hC.atk rcE_len (by decide) hi'
  refine⟨⟨by omega,by omega⟩,a,ha,_,hc 0 _ rfl,_,hc 1 _ rfl,_,hc 2 _ rfl,_,hc 3 _ rfl,_,hc 4 _ rfl,⟨fun w3 hN3=>?_⟩⟩
  have hS3:Turn (Star (Star (CtO b p N r1 r2) (Lb q0 33)) (Lb w2.heap.size 43)) w w3 F (((rs.take i).foldl cntR x,evC e),[.int .i64 0,.int .i64 0,.int .i64 0,.int .i64 0,.int .i64 0]):=hS.add (hN3.upd no) (Rw.new hN3 rfl) (fun i hi=>Nat.le_of_eq hi.symm)
  generalize w2.heap.size=q1 at hS3⊢
  refine lb_wr (vs:=rcE_Kdo rs[i]) hS3 rfl fun w4 hS4=>?_
  have hB:=lb_blk hS4
  refine⟨_,hB.cell rfl,_,hB.cell rfl,_,hB.cell rfl,_,hB.cell rfl,_,hB.cell rfl,⟨?_⟩⟩
  obtain⟨G,hG,kG⟩:=hS4.drop.left
  refine(ttold_ok (Turn.same hG) rs[i] (hrs.2 _ (List.getElem_mem _)) at_).mono ?_
  rintro e' w5 ⟨rfl,hT⟩
  exact⟨rfl,i+1,⟨rfl,rfl,rfl,rfl,rfl,rfl,by rw[w64 (by omega)];rfl,trivial⟩,⟨by omega,by rw[List.take_succ_eq_append_getElem hi',List.foldl_append];exact kG _ _ hT⟩,by omega⟩
 ·have hil:i=rs.length:=by simp at g;omega
  subst hil
  rw[List.take_length]at hS
  have hL:=lb_blk hS
  rw[t81_0]
  refine⟨_,hL.cell rfl,fun g1=>?_,fun g1=>⟨fun g2=>?_,fun g2=>⟨rfl,hS.drop⟩⟩⟩
  ·obtain⟨F1,h1,l,m1,m2,hI,hl,k1⟩:=CtO.open_ hS.drop
   refine⟨_,rfl,_,(CtI.blk hI).cell2 rfl,_,rfl,?_⟩
   rw[add2]
   exact CtI.wr (y':=(rs.foldl cntR x,IntKind.wrap .i64 (h1.1+1),h1.2)) hI (by omega) rfl fun w3 hI3=>⟨rfl,k1 _ _ _ _ _ _ hI3 hl⟩
  ·have h1:rs.length=1:=by simp at g2;omega
   have h0:0<rs.length:=by omega
   obtain⟨a,ha,hc⟩:=hC.atk rcE_len (by decide) h0
   refine⟨⟨by omega,by omega⟩,a,ha,_,hc 4 _ rfl,fun _=>⟨rfl,hS.drop⟩,fun g3=>⟨_,hL.cell rfl,fun g4=>?_,fun g4=>⟨_,hL.cell rfl,fun g5=>?_,fun g5=>⟨rfl,hS.drop⟩⟩⟩⟩
   ·intro w3 q1 q2 q3 q4
    replace hS:=hS.upd (Upd.same no q1 q2 q3 q4)
    obtain⟨F1,h1,l,m1,m2,hI,hl,k1⟩:=CtO.open_ hS.drop
    obtain⟨A1,a1,kA1⟩:=hI.left
    obtain⟨A2,a2,kA2⟩:=Star.right a1
    have hc3:=(hC.heap q1).atk rcE_len (by decide) h0
    obtain⟨a',ha',hc'⟩:=hc3
    obtain⟨w4,hrun,hT4⟩:=run_put tmM a2 (rs[0]).2.2.1 at_
    exact⟨_,rfl,_,(CtI.blk hI).cell rfl,⟨by omega,by omega⟩,a',ha',_,hc' 2 _ rfl,w4,hrun,rfl,k1 _ _ _ _ _ _ (kA1 _ _ (kA2 _ _ hT4)) hl⟩
   ·intro w3 q1 q2 q3 q4
    replace hS:=hS.upd (Upd.same no q1 q2 q3 q4)
    obtain⟨F1,h1,l,m1,m2,hI,hl,k1⟩:=CtO.open_ hS.drop
    obtain⟨A2,a2,kA2⟩:=hI.right
    have hc3:=(hC.heap q1).atk rcE_len (by decide) h0
    obtain⟨a',ha',hc'⟩:=hc3
    obtain⟨w4,hrun,hT4⟩:=run_put tmM a2 (rs[0]).2.2.1 at_
    exact⟨_,rfl,_,(CtI.blk hI).cell rfl,⟨by omega,by omega⟩,a',ha',_,hc' 2 _ rfl,w4,hrun,rfl,k1 _ _ _ _ _ _ (kA2 _ _ hT4) hl⟩
end
theorem evC_len (e:Evt):(evC e).length=5:=rfl
theorem Turn.rightG {σ τ:Type} {A:Ob σ} {B:Ob τ} [fa:Frame A] [fb:Frame B] {W w:World} {F:Fp} {x:σ×τ} (h:Turn (Star A B) W w F x) :
  ∃F1 F2,A w F1 x.1∧B w F2 x.2∧(∀i,F1 i→¬F2 i)∧∀w' t',Turn B w w' F2 t'→Turn (Star A B) W w' F (x.1,t'):=by
 obtain⟨F',⟨F1,F2,a1,a2,a3,a4⟩,h2,h3⟩:=h
 refine⟨F1,F2,a1,a2,a4,?_⟩
 rintro w' t' ⟨G2,k1,k2,k3⟩
 refine⟨fun i=>F1 i∨G2 i,⟨F1,G2,fa.upd a1 k2 (fun i hi=>a4 i hi),k1,fun _=>Iff.rfl,fun i hi hf=>?_⟩,h2.trans k2 (fun i hi hf=>(h3 i ((a3 i).2 (.inr hf))).elim id (fun h=>absurd h (by omega))),fun i hi=>?_⟩
 ·rcases k3 i hf with k|k
  ·exact a4 i hi k
  ·have:=fa.lt a1 i hi;omega
 ·rcases hi with hi|hi
  ·exact h3 i ((a3 i).2 (.inl hi))
  ·rcases k3 i hi with k|k
   ·exact h3 i ((a3 i).2 (.inr k))
   ·exact .inr (Nat.le_trans h2.size k)
def tlA (p:Option Addr) (N:Nat) (x:Tl) (h:Hid):List Value:=(tlE_Tly p N 0 0 (x,h)).take 13
theorem tOf_ok {N:Nat} (hN:1≤N∧N≤64) {w:World} (hTab:Tab w) {q:Option Addr} {c:Nat} {es:List Evt} (hq:Cells w q (es.flatMap evC)) (hlen:es.length≤600) :
  Calls Tryz.prog 25 #[.int .i64 (N:Int),.slice q es.length c] w fun e w'=>(∃p h,e=.returned (.tuple #[.agg (tlA p N ((outS (newK' N) es).foldl cntR tl0) h).toArray,.int .i64 0]))∧Upd no w w':=by
 refine u25 ?_
 rw[t25]
 refine⟨fun w1 hN1=>⟨(knew_ok N hN w1).mono ?_⟩⟩
 rintro e w2 ⟨b,F,rfl,hK,hU2,hF⟩
 refine⟨_,_,rfl,fun g=>by simp at g,fun _=>?_⟩
 have hU12:=(hN1.upd no).trans hU2 (fun _ _ h=>h)
 have hbt:Blk w2 w.heap.size [.int .i64 0,.int .i64 0,.int .i64 0,.int .i64 0,.int .i64 0,.int .i64 0,.slice none 0 0,.int .i64 0,.int .i64 0,.int .i64 0,.int .i64 0,.int .i64 0,.int .i64 0] 55:=hN1.blk'.upd hU2 (fun h=>h)
 obtain⟨w3,hmk,hN3⟩:=run_mkI (k:=.i64) elI64 w2 (n:=N) (by omega) (by omega) .i64 .i64
 refine⟨_,_,_,w3,hmk,⟨fun w4 hN4=>⟨fun w5 hN5=>⟨fun w6 hN6=>⟨?_⟩⟩⟩⟩⟩
 have s1:=hN1.size
 have s3:=hN3.size
 have s4:=hN4.size
 have s5:=hN5.size
 have hU26:Upd no w2 w6:=(((hN3.upd no).trans (hN4.upd no) (fun _ _ h=>h)).trans (hN5.upd no) (fun _ _ h=>h)).trans (hN6.upd no) (fun _ _ h=>h)
 have hCt:CtO w5.heap.size (some ⟨w2.heap.size,0,none⟩) N w3.heap.size w4.heap.size w6 (fun i=>((i=w5.heap.size∨i=w2.heap.size)∨i=w3.heap.size)∨i=w4.heap.size) tl0:=by
  refine⟨(0,0,0,0),List.replicate N 0,(fun _=>none,0),(fun _=>none,0),⟨_,_,⟨_,_,⟨fun i=>i=w5.heap.size,fun i=>i=w2.heap.size,Rw.new hN6 ?_,⟨?_,?_⟩,fun i=>Iff.rfl,?_⟩,(Frame.map ..).upd (MapO.new (f:=Value.int .i64) hN4) ((hN5.upd no).trans (hN6.upd no) (fun _ _ h=>h)) (fun _ _ h=>h),fun i=>Iff.rfl,?_⟩,(Frame.map ..).upd (MapO.new (f:=Value.int .i64) hN5) (hN6.upd no) (fun _ _ h=>h),fun i=>Iff.rfl,?_⟩,by simp⟩
  ·unfold tlE_Tly tl0;simp only[ww0]
  ·intro i
   exact⟨fun h=>⟨_,rfl,h⟩,fun⟨a,ha,h⟩=>by cases ha;exact h⟩
  ·show Sl w6 2 1 (some ⟨w2.heap.size,0,none⟩) (List.replicate N (0:Int)).length N _
   rw[List.length_replicate]
   refine Sl.upd (Sl.new hN3 (by simp) (by unfold maxLen;omega)) (((hN4.upd no).trans (hN5.upd no) (fun _ _ h=>h)).trans (hN6.upd no) (fun _ _ h=>h)) (fun _ _ h=>h)
  ·intro i h1 h2;omega
  ·intro i h1 h2;omega
  ·intro i h1 h2;omega
 have hp:=hTab.pos
 have hu2:=hU2.size
 have hu12:=hU12.size
 have hT2:Tab w2:=hTab.no hU12
 have hS0:Turn (Star (KO b) (Lb w.heap.size 55)) w2 w2 (fun i=>F i∨i=w.heap.size) (newK' N,[.int .i64 0,.int .i64 0,.int .i64 0,.int .i64 0,.int .i64 0,.int .i64 0,.slice none 0 0,.int .i64 0,.int .i64 0,.int .i64 0,.int .i64 0,.int .i64 0,.int .i64 0]):=
  Turn.same ⟨F,fun i=>i=w.heap.size,hK,⟨fun _=>Iff.rfl,hbt⟩,fun _=>Iff.rfl,fun i h1 h2=>by have:=hF i h1;omega⟩
 have h0:¬(fun i=>F i∨i=w.heap.size) 0:=fun h=>by
  rcases h with h|h
  ·have:=hF 0 h;omega
  ·omega
 have hF0:∀i,(fun i=>F i∨i=w.heap.size) i→w.heap.size≤i:=fun i h=>by
  rcases h with h|h
  ·have:=hF i h;omega
  ·omega
 have hS:=hS0.add hU26 hCt (fun i h=>by omega)
 clear hS0 hCt hbt
 generalize (fun i=>F i∨i=w.heap.size)=F0 at hS h0 hF0
 generalize w5.heap.size=b1 at hS⊢
 generalize (some ⟨w2.heap.size,0,none⟩:Option Addr)=ps at hS⊢
 generalize w3.heap.size=r1 at hS⊢
 generalize w4.heap.size=r2 at hS⊢
 generalize w.heap.size=bt at hS⊢
 refine WP_loop okProg (M:=M25) (σ:=Nat) (fun i=>e25_1 ⟨bt,0,none⟩ (some ⟨b,0,none⟩) (some ⟨b1,0,none⟩) q es.length c es.length i) (fun i w'=>i≤es.length∧Turn (Star (Star (KO b) (Lb bt 55)) (CtO b1 ps N r1 r2)) w2 w' F0 ((kS (newK' N) (es.take i),[.int .i64 0,.int .i64 0,.int .i64 0,.int .i64 0,.int .i64 0,.int .i64 0,.slice none 0 0,.int .i64 0,.int .i64 0,.int .i64 0,.int .i64 0,.int .i64 0,.int .i64 0]),(outS (newK' N) (es.take i)).foldl cntR tl0)) (fun i _=>es.length-i) 0 ⟨rfl,rfl,rfl,rfl,rfl,rfl,trivial⟩ ⟨Nat.zero_le _,hS⟩ ?_
 rintro i w7 ⟨hi,hS⟩
 have up:∀{σ:Type} {A:Ob σ} {s:σ} {w':World},Turn A w2 w' F0 s→Upd no w w':=fun⟨_,_,hU,_⟩=>hU12.trans hU (fun i hi hf=>by have:=hF0 i hf;omega)
 rw[t25_1]
 refine⟨fun g=>?_,fun g=>?_⟩
 ·have hi':i<es.length:=by simpa using g
  obtain⟨a,ha,hc⟩:=(hq.no (up hS)).atk evC_len (by decide) hi'
  refine⟨⟨by omega,by omega⟩,a,ha,_,hc 0 _ rfl,_,hc 1 _ rfl,_,hc 2 _ rfl,_,hc 3 _ rfl,_,hc 4 _ rfl,⟨fun w8 hN8=>?_⟩⟩
  have hS8:Turn (Star (Star (Star (KO b) (Lb bt 55)) (CtO b1 ps N r1 r2)) (Lb w7.heap.size 33)) w2 w8 F0 (_,[.int .i64 0,.int .i64 0,.int .i64 0,.int .u64 0,.int .i64 0]):=hS.add (hN8.upd no) (Rw.new hN8 rfl) (fun i hi=>Nat.le_of_eq hi.symm)
  generalize w7.heap.size=be at hS8⊢
  refine lb_wr (vs:=evC es[i]) hS8 rfl fun w9 hS9=>?_
  intro w10 q1 q2 q3 q4
  replace hS9:=hS9.upd (Upd.same no q1 q2 q3 q4)
  have hB:=lb_blk hS9
  refine⟨_,hB.cell rfl,_,hB.cell rfl,_,hB.cell rfl,_,hB.cell rfl,_,hB.cell rfl,_,hB.cell rfl,_,hB.cell rfl,_,hB.cell rfl,_,hB.cell rfl,_,hB.cell rfl,⟨?_⟩⟩
  obtain⟨F1,hA1,hT1,h01,k1⟩:=hS9.leftG hT2 h0
  obtain⟨F3,hA3,hT3,h03,k3⟩:=(Turn.same hA1).leftG hT1 h01
  obtain⟨F4,hA4,hT4,h04,k4⟩:=(Turn.same hA3).leftG hT3 h03
  refine(kdo_ok (e:=es[i]) hT4 h04 (Turn.same hA4) (kS_S _ _ (newS hN)).tmt).mono ?_
  rintro e w11 ⟨pr,cr,rfl,hD⟩
  have hS11:=k1 _ _ _ (k3 _ _ _ (k4 _ _ _ hD))
  refine⟨_,_,_,rfl,fun j v hv=>(lb_blk hS11).cell hv,⟨?_⟩⟩
  obtain⟨F5,hA5,hT5,h05,k5⟩:=hS11.leftG hT2 h0
  obtain⟨G1,G2,hG1,hG2,hdis,kG⟩:=(Turn.same hA5).rightG
  obtain⟨H1,H2,⟨H3,H4,hKO,hRc,e1,_⟩,hLb,e2,_⟩:=hG1
  have hrs:RsOk (N:Int) (doR (kS (newK' N) (es.take i)) es[i]):=by
   have:=ok_do (kS (newK' N) (es.take i)) es[i]
   rwa [kS_n]at this
  refine(tevent_ok hG2 es[i] hRc.2.cells (fun a ha=>⟨(Frame.rcl pr cr).lt hRc _ ((hRc.1 _).2 ⟨a,ha,rfl⟩),fun hh=>hdis _ ((e2 _).2 (.inl ((e1 _).2 (.inr ((hRc.1 _).2 ⟨a,ha,rfl⟩))))) hh⟩) hrs _).mono ?_
  rintro e w12 ⟨rfl,hE⟩
  have hS12:=(k5 _ _ _ (kG _ _ hE)).drop
  obtain⟨F6,hA6,hT6,h06,k6⟩:=hS12.leftG hT2 h0
  obtain⟨F7,hA7,hT7,h07,k7⟩:=(Turn.same hA6).leftG hT6 h06
  have hS13:=k6 _ _ _ (k7 _ _ _ (Turn.same hA7).drop)
  refine⟨rfl,i+1,⟨rfl,rfl,rfl,rfl,rfl,by rw[w64 (by omega)];rfl,trivial⟩,⟨by omega,?_⟩,by omega⟩
  rw[List.take_succ_eq_append_getElem hi',kS_one,outS_one,List.foldl_append]
  exact hS13
 ·have hil:i=es.length:=by simp at g;omega
  subst hil
  rw[List.take_length]at hS
  obtain⟨F1,h,l,m1,m2,hI,hl,kk⟩:=CtO.open_ (Turn.same hS.right.choose_spec.1)
  have hB:=CtI.blk hI
  refine⟨_,rfl,_,hB.cell2 rfl,_,hB.cell2 rfl,_,hB.cell2 rfl,_,hB.cell2 rfl,_,hB.cell2 rfl,_,hB.cell2 rfl,_,_,_,hB.cell2 rfl,_,hB.cell2 rfl,_,hB.cell2 rfl,_,hB.cell2 rfl,_,hB.cell2 rfl,_,hB.cell2 rfl,_,hB.cell2 rfl,?_⟩
  obtain⟨F2,hA,hT8,h08,k8⟩:=hS.leftG hT2 h0
  refine lb_wr (vs:=tlA ps N ((outS (newK' N) es).foldl cntR tl0) h) (Turn.same hA) rfl fun w8 hS8=>?_
  have hL:=lb_blk hS8
  exact⟨_,hL.cell rfl,_,hL.cell rfl,_,hL.cell rfl,_,hL.cell rfl,_,hL.cell rfl,_,hL.cell rfl,_,_,_,hL.cell rfl,_,hL.cell rfl,_,hL.cell rfl,_,hL.cell rfl,_,hL.cell rfl,_,hL.cell rfl,_,hL.cell rfl,⟨ps,h,rfl⟩,up (k8 _ _ _ hS8)⟩
theorem sright_ok_Tly (n:Int) (w:World):Calls Tryz.prog 177 #[.int .i64 n] w fun e w'=>e=.returned (.bool (decide (1≤n∧n≤64)))∧w'=w:=by
 refine u177 ?_
 rw[t177]
 refine⟨fun g=>⟨?_,rfl⟩,fun g=>⟨?_,rfl⟩⟩
 ·have:=of_decide_eq_true g
  have e:decide (n≤64)=decide (1≤n∧n≤64):=decide_eq_decide.2 (by omega)
  rw[e]
 ·have:=of_decide_eq_false g
  rw[decide_eq_false (by omega)]
theorem smay_ok_Tly (n:Int) {q:Option Addr} {m c:Nat} (w:World):Calls Tryz.prog 82 #[.agg #[.int .i64 n,.slice q m c]] w fun e w'=>e=.returned (.int .i64 (if 1≤n∧n≤64 then(if 600<m then 15 else 0)else 2))∧Upd no w w':=by
 refine u82 ?_
 rw[t82]
 refine⟨fun w1 hN1=>?_⟩
 have hB:=hN1.blk'
 have hU:=hN1.upd no
 refine⟨_,hB.cell rfl,⟨(sright_ok_Tly n w1).mono ?_⟩⟩
 rintro e w2 ⟨rfl,rfl⟩
 refine⟨_,rfl,fun g=>⟨?_,hU⟩,fun g=>⟨_,_,_,hB.cell rfl,fun g2=>⟨?_,hU⟩,fun g2=>⟨?_,hU⟩⟩⟩
 ·rw[if_neg (by intro hh;simp[hh]at g)]
 ·rw[if_pos (by simp at g;omega),if_pos (by have:=of_decide_eq_true g2;omega)]
 ·rw[if_pos (by simp at g;omega),if_neg (by have:=of_decide_eq_false g2;omega)]
theorem LsR.moreQ {α:Type} {f:α→List Value} {sz:Nat} {w:World} {T:TypeId} {p:Option Addr} {c:Nat} {l:List α} {F:Fp} {P:Program} {t:TypeId} {bytes:Nat} {z:List Value} (he:ElemT P t T sz bytes z) (hf:∀x,(f x).length=sz) (h1:∀x,∀u∈f x,u.oneCell'=true) (h:LsR f sz T w F (p,c,l))
  {q:Option Addr} {m:List α} {d:Nat} (hq:Cells w q (m.flatMap f)) (hb:(l.length+m.length)*bytes≤140737488355328) (hl:l.length+m.length≤1048576) (ty:TypeId) :
  ∃p' c' w2,(Builtin.append_ #[t,t] ty #[.slice p l.length c,.slice q m.length d]).run P w=.ok (.slice p' (l++m).length c') w2∧Turn (LsR f sz T) w w2 F (p',c',l++m):=by
 have h2:Sl w T sz p l.length c (l.flatMap f):=h.2
 obtain⟨p',n',c',w2,hr,hn,hS,hU,hF⟩:=run_appendQ he h2 hq (m:=m.length) (d:=d) (flat_len hf m) (fun u hu=>by obtain⟨x,_,hx⟩:=List.mem_flatMap.1 hu;exact h1 x u hx) hb (by omega) ty
 subst hn
 refine⟨p',c',w2,by rw[List.length_append];exact hr,fpS p',⟨fun _=>Iff.rfl,?_⟩,hU.mono (fun i _ hi=>(h.1 i).2 hi),fun i hi=>(hF i hi).imp (fun k=>(h.1 i).2 k) id⟩
 show Sl w2 T sz p' (l++m).length c' ((l++m).flatMap f)
 rw[List.length_append,List.flatMap_append];exact hS
theorem elRc:ElemT Tryz.prog 34 43 5 40 [.int .i64 0,.int .i64 0,.int .i64 0,.int .i64 0,.int .i64 0]:=⟨by kernel_rfl,by kernel_rfl,rfl,by omega⟩
theorem rcE_one (x:Rc):∀u∈rcE_Kdo x,u.oneCell'=true:=fun u hu=>by
 unfold rcE_Kdo at hu
 simp only[List.mem_cons,List.not_mem_nil,or_false]at hu
 rcases hu with rfl|rfl|rfl|rfl|rfl<;>rfl
theorem sRun_ok {N:Nat} (hN:1≤N∧N≤64) {w:World} (hTab:Tab w) {q:Option Addr} {c:Nat} {es:List Evt} (hq:Cells w q (es.flatMap evC)) (hlen:es.length≤600) :
  Calls Tryz.prog 26 #[.agg #[.int .i64 (N:Int),.slice q es.length c]] w fun e w'=>(∃p c',e=.returned (.tuple #[.slice p (outS (newK' N) es).length c',.int .i64 0])∧Cells w' p ((outS (newK' N) es).flatMap rcE_Kdo))∧Upd no w w':=by
 refine u26 ?_
 rw[t26]
 refine⟨fun w1 hN1=>?_⟩
 have hB:=hN1.blk'
 refine⟨_,hB.cell rfl,_,_,_,hB.cell rfl,⟨(smay_ok_Tly (N:Int) w1).mono ?_⟩⟩
 rintro e w2 ⟨rfl,hU12⟩
 replace hB:=hB.upd hU12 (fun h=>h)
 have em:(if(1:Int)≤(N:Int)∧(N:Int)≤64 then(if 600<es.length then(15:Int)else 0)else 2)=0:=by
  rw[if_pos (by omega),if_neg (by omega)]
 rw[em]
 refine⟨_,rfl,fun g=>by simp at g,fun _=>⟨_,hB.cell rfl,⟨(knew_ok N hN w2).mono ?_⟩⟩⟩
 rintro e w3 ⟨b,F,rfl,hK,hU23,hF⟩
 replace hB:=hB.upd hU23 (fun h=>h)
 refine⟨_,_,rfl,fun g=>by simp at g,fun _=>⟨_,_,_,hB.cell rfl,⟨?_⟩⟩⟩
 have hU13:=((hN1.upd no).trans hU12 (fun _ _ h=>h)).trans hU23 (fun _ _ h=>h)
 have hT3:Tab w3:=hTab.no hU13
 have hp:=hTab.pos
 have hu:=((hN1.upd no).trans hU12 (fun _ _ h=>h)).size
 have h0:¬F 0:=fun h=>by have:=hF 0 h;omega
 have hS:Turn (Star (KO b) (LsR rcE_Kdo 5 43)) w3 w3 F (newK' N,(none,0,[])):=(Turn.same hK).add (Upd.refl _ _) (LsR.nil _ _ _ _) (fun _ h=>h.elim)
 refine WP_loop okProg (M:=M26) (σ:=Nat×Option Addr×Nat) (fun s=>e26_1 (some ⟨b,0,none⟩) s.2.1 (outS (newK' N) (es.take s.1)).length s.2.2 q es.length c es.length s.1) (fun s w'=>s.1≤es.length∧Turn (Star (KO b) (LsR rcE_Kdo 5 43)) w3 w' F (kS (newK' N) (es.take s.1),(s.2.1,s.2.2,outS (newK' N) (es.take s.1)))) (fun s _=>es.length-s.1) (0,none,0) ⟨rfl,rfl,rfl,rfl,rfl,trivial⟩ ⟨Nat.zero_le _,hS⟩ ?_
 rintro⟨i,po,co⟩ w7 ⟨hi,hS⟩
 simp only at hi hS⊢
 have up:∀{σ:Type} {A:Ob σ} {s:σ} {w':World},Turn A w3 w' F s→Upd no w w':=fun⟨_,_,hU,_⟩=>hU13.trans hU (fun i hi hf=>by have:=hF i hf;omega)
 rw[t26_1]
 refine⟨fun g=>?_,fun g=>?_⟩
 ·have hi':i<es.length:=by simpa using g
  obtain⟨a,ha,hc⟩:=(hq.no (up hS)).atk evC_len (by decide) hi'
  refine⟨⟨by omega,by omega⟩,a,ha,_,hc 0 _ rfl,_,hc 1 _ rfl,_,hc 2 _ rfl,_,hc 3 _ rfl,_,hc 4 _ rfl,⟨fun w8 hN8=>?_⟩⟩
  have hS8:Turn (Star (Star (KO b) (LsR rcE_Kdo 5 43)) (Lb w7.heap.size 33)) w3 w8 F (_,[.int .i64 0,.int .i64 0,.int .i64 0,.int .u64 0,.int .i64 0]):=hS.add (hN8.upd no) (Rw.new hN8 rfl) (fun i hi=>Nat.le_of_eq hi.symm)
  generalize w7.heap.size=be at hS8⊢
  refine lb_wr (vs:=evC es[i]) hS8 rfl fun w9 hS9=>?_
  have hB:=lb_blk hS9
  refine⟨_,hB.cell rfl,_,hB.cell rfl,_,hB.cell rfl,_,hB.cell rfl,_,hB.cell rfl,⟨?_⟩⟩
  obtain⟨F3,hA3,hT3',h03,k3⟩:=hS9.drop.leftG hT3 h0
  refine(kdo_ok (e:=es[i]) hT3' h03 (Turn.same hA3) (kS_S _ _ (newS hN)).tmt).mono ?_
  rintro e w11 ⟨pr,cr,rfl,hD⟩
  have hS11:=k3 _ _ _ hD
  obtain⟨G1,G2,⟨H3,H4,hKO,hRc,e1,_⟩,hG2,hdis,kG⟩:=hS11.rightG
  have l1:=outS_len (es.take i) (newK' N)
  have l2:=(ok_do (kS (newK' N) (es.take i)) es[i]).1
  have l3:(es.take i).length=i:=by rw[List.length_take];omega
  have hRs:Cells w11 pr ((doR (kS (newK' N) (es.take i)) es[i]).flatMap rcE_Kdo):=hRc.2.cells
  obtain⟨p',c',w12,hrun,hT12⟩:=LsR.moreQ elRc rcE_len rcE_one hG2 hRs (d:=cr) (by omega) (by omega) 34
  have hS12:=kG _ _ hT12
  obtain⟨F6,hA6,hT6,h06,k6⟩:=hS12.leftG hT3 h0
  have hS13:=k6 _ _ _ (Turn.same hA6).drop
  have eo:outS (newK' N) (es.take (i+1))=outS (newK' N) (es.take i)++doR (kS (newK' N) (es.take i)) es[i]:=by
   rw[List.take_succ_eq_append_getElem hi',outS_one]
  refine⟨_,_,_,rfl,p',_,c',w12,hrun,(i+1,p',c'),⟨rfl,(by rw[eo];rfl),rfl,rfl,(by rw[w64 (by omega)];rfl),trivial⟩,⟨by simp only;omega,?_⟩,by simp only;omega⟩
  simp only
  rw[eo,List.take_succ_eq_append_getElem hi',kS_one]
  exact hS13
 ·have hil:i=es.length:=by simp at g;omega
  subst hil
  rw[List.take_length]at hS⊢
  obtain⟨F2,hR,_⟩:=hS.right
  exact⟨⟨po,co,rfl,hR.cells⟩,up hS⟩
end Go.Dav
namespace Go.Dav
open Go.Proofs
def tsum (x:Tl):Nat→Int
 | 0=>0
 | 1=>0+x.t0
 | 2=>0+x.t0+x.t1
 | 3=>0+x.t0+x.t1+x.t2
 | 4=>0+x.t0+x.t1+x.t2+x.t3
 | _=>0+x.t0+x.t1+x.t2+x.t3+x.t4
theorem topTallies_ok {W:World} (hTab:Tab W) {n:Int} (hn:(Lit.int .i64 n).wf=true) {es:List Evt} {q:Option Addr} {c:Nat} (_:∀x∈es,okIIIUI x) (hq:Cells W q (es.flatMap recIIIUI)) (_:es.length≤maxLen) :
  Calls Tryz.prog 5 #[.int .i64 n,.slice q es.length c] W fun e w'=>e=.returned (.bool true)∧Upd no W w':=by
 replace hq:Cells W q (es.flatMap evC):=hq
 refine u5 ?_
 rw[t5]
 refine⟨(few_ok n W).mono ?_⟩
 rintro e w1 ⟨rfl,rfl⟩
 refine⟨_,rfl,fun g=>⟨(alive_ok hTab).mono ?_⟩,fun g=>?_⟩
 ·rintro e w2 ⟨rfl,hU⟩
  exact⟨_,rfl,rfl,hU⟩
 have g:1≤n∧n≤9∧es.length≤300:=by simpa using g
 obtain⟨N,rfl⟩:∃N:Nat,n=(N:Int):=⟨n.toNat,by omega⟩
 have hN:1≤N∧N≤64:=by omega
 refine⟨(tOf_ok hN hTab hq (by omega)).mono ?_⟩
 rintro e w2 ⟨⟨ps,h,rfl⟩,hU2⟩
 refine⟨_,_,_,_,_,_,_,_,_,_,_,_,_,_,_,_,rfl,⟨fun w3 hN3=>?_⟩⟩
 refine hN3.blk'.wr0 (by simp) fun w4 hW=>?_
 have hU4:Upd no w2 w4:=(hN3.upd no).trans (Upd.mono (G:=fun i=>i=w2.heap.size) hW.U (fun _ _ h=>h)) (fun i hi h=>by omega)
 have hB:Blk w4 w2.heap.size (tlA ps N ((outS (newK' N) es).foldl cntR tl0) h) 55:=hW.blk'
 generalize w2.heap.size=b at hB⊢
 have hU14:=hU2.trans hU4 (fun _ _ h=>h)
 refine⟨(sRun_ok hN (hTab.no hU14) (hq.no hU14) (by omega)).mono ?_⟩
 rintro e w5 ⟨⟨p,c',rfl,hC⟩,hU5⟩
 replace hB:=hB.upd hU5 (fun h=>h)
 have hU15:=hU14.trans hU5 (fun _ _ h=>h)
 have hlen:=outS_len es (newK' N)
 generalize outS (newK' N) es=out at hB hC hlen⊢
 have hs:(out.foldl sumR (0,0,0))=tlSum (out.foldl cntR tl0):=(sum_cnts out tl0).symm
 generalize out.foldl cntR tl0=x at hB hs
 refine⟨_,_,_,_,rfl,fun _=>⟨fun g=>by simp at g,fun _=>⟨?_⟩⟩,fun g=>by simp at g⟩
 refine WP_loop okProg (M:=M5) (σ:=Nat) (fun i=>e5_2 ⟨b,0,none⟩ p out.length c' (ww ((out.take i).foldl sumR (0,0,0)).1) (ww ((out.take i).foldl sumR (0,0,0)).2.1) (ww ((out.take i).foldl sumR (0,0,0)).2.2) i) (fun i w'=>i≤out.length∧w'=w5) (fun i _=>out.length-i) 0 ⟨rfl,rfl,rfl,rfl,rfl,rfl,trivial⟩ ⟨Nat.zero_le _,rfl⟩ ?_
 intro i w6 hI
 have hi:i≤out.length:=hI.1
 have hw:w6=w5:=hI.2
 subst hw
 clear hI
 rw[t5_2]
 refine⟨fun g=>?_,fun g=>CutD.mk ?_⟩
 ·have hi':i<out.length:=by simpa using g
  obtain⟨a,ha,hc⟩:=hC.atk rcE_len (by decide) hi'
  have ei:IntKind.wrap .i64 ((i:Int)+1)=((i+1:Nat):Int):=by rw[w64 (by omega)];rfl
  have es1:(out.take (i+1)).foldl sumR (0,0,0)=sumR ((out.take i).foldl sumR (0,0,0)) out[i]:=by
   rw[List.take_succ_eq_append_getElem hi',List.foldl_append];rfl
  refine⟨⟨by omega,by omega⟩,a,ha,_,hc 0 _ rfl,fun g1=>⟨⟨by omega,by omega⟩,a,ha,_,hc 4 _ rfl,fun g2=>?_,fun g2=>?_⟩,fun g1=>⟨fun g2=>?_,fun g2=>?_⟩⟩
  ·have es2:(out.take (i+1)).foldl sumR (0,0,0)=(((out.take i).foldl sumR (0,0,0)).1,((out.take i).foldl sumR (0,0,0)).2.1,((out.take i).foldl sumR (0,0,0)).2.2+1):=by
    rw[es1];unfold sumR;rw[if_pos (by simpa using g1),if_neg (by simpa using g2)]
   exact⟨i+1,⟨rfl,rfl,by rw[es2]<;>rfl,by rw[es2]<;>rfl,by rw[es2,ww_add]<;>rfl,by rw[ei]<;>rfl,trivial⟩,⟨by omega,rfl⟩,by omega⟩
  ·have es2:(out.take (i+1)).foldl sumR (0,0,0)=(((out.take i).foldl sumR (0,0,0)).1,((out.take i).foldl sumR (0,0,0)).2.1,((out.take i).foldl sumR (0,0,0)).2.2):=by
    rw[es1];unfold sumR;rw[if_pos (by simpa using g1),if_pos (by simpa using g2)]
   exact⟨i+1,⟨rfl,rfl,by rw[es2]<;>rfl,by rw[es2]<;>rfl,by rw[es2]<;>rfl,by rw[ei]<;>rfl,trivial⟩,⟨by omega,rfl⟩,by omega⟩
  ·have es2:(out.take (i+1)).foldl sumR (0,0,0)=(((out.take i).foldl sumR (0,0,0)).1,((out.take i).foldl sumR (0,0,0)).2.1+1,((out.take i).foldl sumR (0,0,0)).2.2):=by
    rw[es1];unfold sumR;rw[if_neg (by simpa using g1),if_pos (by simpa using g2)]
   exact⟨i+1,⟨rfl,rfl,by rw[es2]<;>rfl,by rw[es2,ww_add]<;>rfl,by rw[es2]<;>rfl,by rw[ei]<;>rfl,trivial⟩,⟨by omega,rfl⟩,by omega⟩
  ·have es2:(out.take (i+1)).foldl sumR (0,0,0)=(((out.take i).foldl sumR (0,0,0)).1+1,((out.take i).foldl sumR (0,0,0)).2.1,((out.take i).foldl sumR (0,0,0)).2.2):=by
    rw[es1];unfold sumR;rw[if_neg (by simpa using g1),if_neg (by simpa using g2)]
   exact⟨i+1,⟨rfl,rfl,by rw[es2,ww_add]<;>rfl,by rw[es2]<;>rfl,by rw[es2]<;>rfl,by rw[ei]<;>rfl,trivial⟩,⟨by omega,rfl⟩,by omega⟩
 ·have hil:i=out.length:=by simp at g;omega
  subst hil
  rw[List.take_length,hs]
  rw[t5_0]
  refine⟨WP_loop okProg (M:=M5) (σ:=Nat) (fun i=>e5_3 ⟨b,0,none⟩ (ww (tlSum x).1) (ww (tlSum x).2.1) (ww (tlSum x).2.2) (ww (tsum x i)) (i:Int)) (fun i w'=>i≤5∧w'=w6) (fun i _=>5-i) 0 ⟨rfl,rfl,rfl,rfl,rfl,rfl,trivial⟩ ⟨Nat.zero_le _,rfl⟩ ?_⟩
  intro i w7 hI
  have hi:i≤5:=hI.1
  have hw:w7=w6:=hI.2
  subst hw
  clear hI
  rw[t5_3]
  refine⟨fun g=>?_,fun g=>CutD.mk ?_⟩
  ·have hi':i<5:=by have:=of_decide_eq_true g;omega
   refine⟨⟨by omega,by omega⟩,?_⟩
   rw[Int.toNat_natCast,Nat.mul_one,add2]
   rcases(by omega:i=0∨i=1∨i=2∨i=3∨i=4)with rfl|rfl|rfl|rfl|rfl
   ·exact⟨_,hB.cell (k:=1) rfl,1,⟨rfl,rfl,rfl,rfl,by rw[ww_add2]<;>rfl,rfl,trivial⟩,⟨by omega,rfl⟩,by omega⟩
   ·exact⟨_,hB.cell (k:=2) rfl,2,⟨rfl,rfl,rfl,rfl,by rw[ww_add2]<;>rfl,rfl,trivial⟩,⟨by omega,rfl⟩,by omega⟩
   ·exact⟨_,hB.cell (k:=3) rfl,3,⟨rfl,rfl,rfl,rfl,by rw[ww_add2]<;>rfl,rfl,trivial⟩,⟨by omega,rfl⟩,by omega⟩
   ·exact⟨_,hB.cell (k:=4) rfl,4,⟨rfl,rfl,rfl,rfl,by rw[ww_add2]<;>rfl,rfl,trivial⟩,⟨by omega,rfl⟩,by omega⟩
   ·exact⟨_,hB.cell (k:=5) rfl,5,⟨rfl,rfl,rfl,rfl,by rw[ww_add2]<;>rfl,rfl,trivial⟩,⟨by omega,rfl⟩,by omega⟩
  ·have h5:i=5:=by simp at g;omega
   subst h5
   rw[t5_1]
   refine⟨fun _=>⟨_,hB.cell rfl,_,hB.cell rfl,fun _=>⟨_,hB.cell rfl,fun _=>⟨(alive_ok (hTab.no hU15)).mono ?_⟩,fun g=>?_⟩,fun g=>?_⟩,fun g=>?_⟩
   ·rintro e w8 ⟨rfl,hU8⟩
    exact⟨_,rfl,rfl,hU15.trans hU8 (fun _ _ h=>h)⟩
   ·simp[tlSum]at g
   ·rw[ww_add2]at g;simp[tlSum]at g
   ·simp[tlSum,tsum]at g
end Go.Dav
