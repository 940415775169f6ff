/- What functions of the program come to, part 6; the texts are made small to keep within a claim. -/
import Derived.Test.YtobclpijhmkniaaGreatDoorPartE
set_option linter.unusedVariables false
set_option linter.unusedSimpArgs false
set_option linter.unusedSectionVars false
namespace Go.Dav
open Go.Proofs
theorem FamL.perm {σ:Type} {A:Ob σ} {w:World} {l l':List σ} (h:l.Perm l'):∀{F:Fp},Fam A w F l->Fam A w F l':=by
 induction h with
 | nil=>exact fun h=>h
 | cons x _ ih=>
  rintro F ⟨F1,F2,h1,h2,h3,h4⟩
  exact⟨F1,F2,h1,ih h2,h3,h4⟩
 | swap x y l=>
  rintro F ⟨F1,F2,h1,⟨F3,F4,k1,k2,k3,k4⟩,h3,h4⟩
  refine⟨F3,fun i=>F1 i∨F4 i,k1,⟨F1,F4,h1,k2,fun _=>Iff.rfl,fun i hi hf=>h4 i hi ((k3 i).2 (.inr hf))⟩,fun i=>?_,fun i hi hf=>?_⟩
  ·rw[h3,k3]
   constructor
   ·rintro(h|h|h)
    ·exact .inr (.inl h)
    ·exact .inl h
    ·exact .inr (.inr h)
   ·rintro(h|h|h)
    ·exact .inr (.inl h)
    ·exact .inl h
    ·exact .inr (.inr h)
  ·rcases hf with h|h
   ·exact h4 i h ((k3 i).2 (.inl hi))
   ·exact k4 i hi h
 | trans _ _ ih1 ih2=>exact fun h=>ih2 (ih1 h)
abbrev NewG (b:Nat) (W w:World) (l:List KP) (c:List Value):Prop:=Mine W w (Star (Fam (KPO b)) (Rw b 94 (fun s=>s))) (l,c)
section
variable {b:Nat} {W w w':World} {l:List KP} {c:List Value}
theorem NewG.push (h:NewG b W w l c) (hU:Upd no w w') {s:KP} {G:Fp} (hA:KPO b w' G s) (hG:∀i,G i->w.heap.size<=i):NewG b W w' (l++[s]) c:=by
 obtain⟨F1,h1,k1⟩:=Mine.left h
 exact k1 _ _ (Fam.push h1 hU hA hG)
theorem NewG.wr (h:NewG b W w l c) {o:Nat} {v:List Value} (c':List Value) (hc:setL c o v=c') (ho:o+v.length<=c.length) {K:World->Prop} (hK:∀w',NewG b W w' l c'->K w'):Wr w (((⟨b,0,none⟩:Addr).add 0).add o) v K:=by
 obtain⟨F2,h2,k2⟩:=Mine.right h
 have e:((⟨b,0,none⟩:Addr).add 0).add o=(⟨b,0,none⟩:Addr).add o:=by simp[add_lit]
 rw[e]
 subst hc
 exact h2.blk.wr ho fun w' hW=>hK w' (k2 _ _ (h2.turned hW.U hW.blk'))
theorem NewG.blk (h:NewG b W w l c):Blk w b c 94:=by
 obtain⟨F2,h2,_⟩:=Mine.right h
 exact h2.blk
end
theorem rtnew_ok (n:Nat) (hn:1<=n/\n<=64) (w:World):Calls Tryz.prog 42 #[.int .i64 (n:Int)] w fun e w'=>∃b F,e=.returned (.tuple #[.pointer (some ⟨b,0,none⟩),.int .i64 0])/\RtO b w' F (n,List.replicate 16 (-1))/\Upd no w w'/\∀i,F i->w.heap.size<=i:=by
 refine u42 ?_
 rw[t42]
 refine⟨fun _=>⟨fun g=>?_,fun _=>⟨fun w1 hN=>⟨w.heap.size,fun i=>i=w.heap.size,rfl,⟨Rw.new hN rfl,⟨by simp,?_,fun v hv=>?_⟩⟩,hN.upd no,fun i hi=>Nat.le_of_eq hi.symm⟩⟩⟩,fun g=>?_⟩
 ·have:=of_decide_eq_true g;omega
 ·simp only;omega
 ·rw[List.eq_of_mem_replicate hv];omega
 ·have:=of_decide_eq_true g;omega
theorem needTh_ok (p:Option Addr) (n:Int) (w:World):Calls Tryz.prog 33 #[.pointer p,.int .i64 n] w fun e w'=>e=.returned (.pointer p)/\w'=w:=by
 refine u33 ?_
 rw[t33]
 exact⟨rfl,rfl⟩
theorem needRq_ok (p:Option Addr) (n:Int) (w:World):Calls Tryz.prog 35 #[.pointer p,.int .i64 n] w fun e w'=>e=.returned (.pointer p)/\w'=w:=by
 refine u35 ?_
 rw[t35]
 exact⟨rfl,rfl⟩
theorem needTm_ok (p:Option Addr) (n:Int) (w:World):Calls Tryz.prog 37 #[.pointer p,.int .i64 n] w fun e w'=>e=.returned (.pointer p)/\w'=w:=by
 refine u37 ?_
 rw[t37]
 exact⟨rfl,rfl⟩
theorem needIr_ok (p:Option Addr) (n:Int) (w:World):Calls Tryz.prog 39 #[.pointer p,.int .i64 n] w fun e w'=>e=.returned (.pointer p)/\w'=w:=by
 refine u39 ?_
 rw[t39]
 exact⟨rfl,rfl⟩
theorem needRt_ok (p:Option Addr) (n:Int) (w:World):Calls Tryz.prog 41 #[.pointer p,.int .i64 n] w fun e w'=>e=.returned (.pointer p)/\w'=w:=by
 refine u41 ?_
 rw[t41]
 exact⟨rfl,rfl⟩
theorem needWk_ok (p:Option Addr) (n:Int) (w:World):Calls Tryz.prog 43 #[.pointer p,.int .i64 n] w fun e w'=>e=.returned (.pointer p)/\w'=w:=by
 refine u43 ?_
 rw[t43]
 exact⟨rfl,rfl⟩
theorem needCa_ok (p:Option Addr) (n:Int) (w:World):Calls Tryz.prog 45 #[.pointer p,.int .i64 n] w fun e w'=>e=.returned (.pointer p)/\w'=w:=by
 refine u45 ?_
 rw[t45]
 exact⟨rfl,rfl⟩
theorem needSt_ok (p:Option Addr) (n:Int) (w:World):Calls Tryz.prog 47 #[.pointer p,.int .i64 n] w fun e w'=>e=.returned (.pointer p)/\w'=w:=by
 refine u47 ?_
 rw[t47]
 exact⟨rfl,rfl⟩
theorem needSc_ok (p:Option Addr) (n:Int) (w:World):Calls Tryz.prog 49 #[.pointer p,.int .i64 n] w fun e w'=>e=.returned (.pointer p)/\w'=w:=by
 refine u49 ?_
 rw[t49]
 exact⟨rfl,rfl⟩
theorem needGa_ok (p:Option Addr) (n:Int) (w:World):Calls Tryz.prog 51 #[.pointer p,.int .i64 n] w fun e w'=>e=.returned (.pointer p)/\w'=w:=by
 refine u51 ?_
 rw[t51]
 exact⟨rfl,rfl⟩
theorem needCo_ok (p:Option Addr) (n:Int) (w:World):Calls Tryz.prog 53 #[.pointer p,.int .i64 n] w fun e w'=>e=.returned (.pointer p)/\w'=w:=by
 refine u53 ?_
 rw[t53]
 exact⟨rfl,rfl⟩
theorem needMe_ok (p:Option Addr) (n:Int) (w:World):Calls Tryz.prog 55 #[.pointer p,.int .i64 n] w fun e w'=>e=.returned (.pointer p)/\w'=w:=by
 refine u55 ?_
 rw[t55]
 exact⟨rfl,rfl⟩
theorem needGv_ok (p:Option Addr) (n:Int) (w:World):Calls Tryz.prog 57 #[.pointer p,.int .i64 n] w fun e w'=>e=.returned (.pointer p)/\w'=w:=by
 refine u57 ?_
 rw[t57]
 exact⟨rfl,rfl⟩
theorem elGv:ElemT Tryz.prog 90 137 1 8 [.pointer none]:=⟨by kernel_rfl,by kernel_rfl,rfl,by omega⟩
theorem GvsO.push {p:Option Addr} {c n:Nat} {w w1 w2:World} {F:Fp} (h:GvsO p c w F n) (hn:n<=100000) {bq:Nat} {G:Fp} (hU:Upd no w w1) (hQ:GvO bq w1 G ()) (hG:∀i,G i->w.heap.size<=i)
  {T':TypeId} (hN:Newed w1 w2 (.cells (List.toArray [.pointer (some ⟨bq,0,none⟩)]) T' (0,0))) (ty:TypeId):∃p' c' w3,(Builtin.append_ #[90,90] ty #[.slice p n c,.slice (some ⟨w1.heap.size,0,none⟩) 1 1]).run Tryz.prog w2=.ok (.slice p' (n+1) c') w3/\
   ∃F',GvsO p' c' w3 F' (n+1)/\Upd F w w3/\∀i,F' i->F i∨w.heap.size<=i:=by
 obtain⟨qs,hl,F1,F2,h1,h2,h3,h4⟩:=h
 subst hl
 have hS1:=h1.2.upd hU (fun _ _ h=>h)
 obtain⟨p',c',w3,hr,hS,hU3,hF3⟩:=append1v elGv (v:=.pointer (some ⟨bq,0,none⟩)) rfl hS1 (by dsimp only;omega) (by dsimp only;omega) hN ty
 have hTf:=Fam.push h2 hU (show At GvO w1 G (bq,())from hQ) hG
 obtain⟨H2,f1,f2,f3⟩:=hTf
 have hd:∀i,H2 i->¬fpS p i:=fun i hi hp=>by
  rcases f3 i hi with h|h
  ·exact h4 i ((h1.1 i).2 hp) h
  ·have:=(Frame.lpo ..).lt h1 i ((h1.1 i).2 hp);omega
 have f1':Fam (At GvO) w3 H2 (qs++[(bq,())]):=Frame.fam.upd f1 hU3 (fun i hi hp=>hd i hi hp)
 have hlt:∀i,H2 i->i<w1.heap.size:=fun i hi=>Frame.fam.lt f1 i hi
 refine⟨p',c',w3,hr,fun i=>fpS p' i∨H2 i,⟨qs++[(bq,())],by simp,fun i=>fpS p' i,H2,⟨fun _=>Iff.rfl,?_⟩,f1',fun _=>Iff.rfl,fun i hi hf=>?_⟩,?_,fun i hi=>?_⟩
 ·simp only[List.length_append,List.length_singleton,List.map_append];exact hS
 ·rcases hF3 i hi with h|h
  ·exact hd i hf h
  ·have:=hlt i hf;omega
 ·exact(hU.mono (fun _ _ h=>h.elim)).trans hU3 (fun i hi hp=>(h3 i).2 (.inl ((h1.1 i).2 hp)))
 ·rcases hi with hi|hi
  ·rcases hF3 i hi with h|h
   ·exact .inl ((h3 i).2 (.inl ((h1.1 i).2 h)))
   ·exact .inr (Nat.le_trans hU.size h)
  ·exact(f3 i hi).imp (fun h=>(h3 i).2 (.inr h)) id
theorem dk_new {b:Nat} {w w':World} (hN:Newed w w' (.cells (List.toArray [.pointer none,.map none]) 136 (0,0))):DkO w.heap.size w' (fun i=>i=w.heap.size) (none,fun _=>false):=by
 refine⟨none,none,⟨fun i=>i=w.heap.size,fun _=>False,⟨fun i=>i=w.heap.size,fun _=>False,Rw.new hN rfl,fun i h=>h,fun i=>by simp,fun _ _ h=>h⟩,fun i h=>h,fun i=>by simp,fun _ _ h=>h⟩,⟨rfl,fun k=>rfl,fun r hr=>(by cases hr)⟩⟩
set_option maxRecDepth 100000 in
set_option maxHeartbeats 1000000 in
theorem knew_ok (n:Nat) (hn:1<=n/\n<=64) (w:World):Calls Tryz.prog 8 #[.int .i64 (n:Int)] w fun e w'=>∃b F,e=.returned (.tuple #[.pointer (some ⟨b,0,none⟩),.int .i64 0])/\KO b w' F (newK' n)/\Upd no w w'/\∀i,F i->w.heap.size<=i:=by
 refine u8 ?_
 rw[t8]
 refine⟨fun _=>⟨fun g=>(by have:=of_decide_eq_true g;omega),fun _=>⟨(mUpto_ok (n:Int) w).mono ?_⟩⟩,fun g=>(by have:=of_decide_eq_true g;omega)⟩
 rintro e w0 ⟨rfl,rfl⟩
 refine⟨_,rfl,⟨fun w1 hNm=>⟨fun w2 hN=>?_⟩⟩⟩
 have hG:NewG w1.heap.size w0 w2 [.ow w0.heap.size (fun _=>none,0)] [.pointer none,.pointer none,.pointer none,.pointer none,.pointer none,.pointer none,.pointer none,.pointer none,.pointer none,.pointer none,.pointer none,.pointer none,.pointer none,.pointer none,.slice none 0 0,.int .i64 (n:Int),.int .u64 (mi (upM n)),.int .u64 (mi (upM n)),.int .i64 0,.int .i64 1073741824,.map (some w0.heap.size)]:=by
  refine Mine.add (A:=Fam (KPO w1.heap.size)) (B:=Rw w1.heap.size 94 (fun s=>s)) (w:=w1) (s:=[.ow w0.heap.size (fun _=>none,0)]) ?_ (hN.upd no) (Rw.new hN rfl) (fun i hi=>Nat.le_of_eq hi.symm)
  refine⟨fun i=>i=w0.heap.size,⟨fun i=>i=w0.heap.size,fun _=>False,MapO.new hNm,fun i h=>h,fun i=>by simp,fun _ _ h=>h⟩,hNm.upd no,fun i hi=>Nat.le_of_eq hi.symm⟩
 generalize hb:w1.heap.size=b at hG⊢
 generalize hm:w0.heap.size=m at hG⊢
 refine⟨(tnew_ok_Thr (n:Int) _).mono ?_⟩
 rintro e w3 (⟨hno,_⟩|⟨_,b_th,F_th,rfl,hX,hU,hF⟩)
 ·exact absurd ⟨by omega,by omega⟩ hno
 replace hG:=hG.push hU (s:=.th b_th (newT_Thr n)) hX hF
 clear hX hF hU
 refine⟨_,_,rfl,⟨(needTh_ok _ _ _).mono ?_⟩⟩
 rintro e w4 ⟨rfl,rfl⟩
 refine⟨_,rfl,?_⟩
 refine⟨(rqnew_ok (n:Int) _).mono ?_⟩
 rintro e w5 (⟨hno,_⟩|⟨_,b_rq,F_rq,rfl,hX,hU,hF⟩)
 ·exact absurd ⟨by omega,by omega⟩ hno
 replace hG:=hG.push hU (s:=.rq b_rq (List.replicate n (32,[]))) hX hF
 clear hX hF hU
 refine⟨_,_,rfl,⟨(needRq_ok _ _ _).mono ?_⟩⟩
 rintro e w6 ⟨rfl,rfl⟩
 refine⟨_,rfl,_,rfl,hG.wr (o:=0) [.pointer (some ⟨b_th,0,none⟩),.pointer none,.pointer none,.pointer none,.pointer none,.pointer none,.pointer none,.pointer none,.pointer none,.pointer none,.pointer none,.pointer none,.pointer none,.pointer none,.slice none 0 0,.int .i64 (n:Int),.int .u64 (mi (upM n)),.int .u64 (mi (upM n)),.int .i64 0,.int .i64 1073741824,.map (some m)] rfl (Nat.le_of_ble_eq_true rfl) fun w7 hG=>⟨_,rfl,hG.wr (o:=1) [.pointer (some ⟨b_th,0,none⟩),.pointer (some ⟨b_rq,0,none⟩),.pointer none,.pointer none,.pointer none,.pointer none,.pointer none,.pointer none,.pointer none,.pointer none,.pointer none,.pointer none,.pointer none,.pointer none,.slice none 0 0,.int .i64 (n:Int),.int .u64 (mi (upM n)),.int .u64 (mi (upM n)),.int .i64 0,.int .i64 1073741824,.map (some m)] rfl (Nat.le_of_ble_eq_true rfl) fun w8 hG=>?_⟩⟩
 refine⟨(tnew_ok_Timer n hn _).mono ?_⟩
 rintro e w9 ⟨b_tm,F_tm,rfl,hX,hU,hF⟩
 replace hG:=hG.push hU (s:=.tm b_tm (newT_Timer n)) hX hF
 clear hX hF hU
 refine⟨_,_,rfl,⟨(needTm_ok _ _ _).mono ?_⟩⟩
 rintro e w10 ⟨rfl,rfl⟩
 refine⟨_,rfl,?_⟩
 refine⟨(new_ok_Irq (n:Int) _).mono ?_⟩
 rintro e w11 (⟨hno,_⟩|⟨_,b_ir,F_ir,rfl,hX,hU,hF⟩)
 ·exact absurd ⟨by omega,by omega⟩ hno
 replace hG:=hG.push hU (s:=.ir b_ir ((n:Int),List.replicate 16 i0)) hX hF
 clear hX hF hU
 refine⟨_,_,rfl,⟨(needIr_ok _ _ _).mono ?_⟩⟩
 rintro e w12 ⟨rfl,rfl⟩
 refine⟨_,rfl,_,rfl,hG.wr (o:=2) [.pointer (some ⟨b_th,0,none⟩),.pointer (some ⟨b_rq,0,none⟩),.pointer (some ⟨b_tm,0,none⟩),.pointer none,.pointer none,.pointer none,.pointer none,.pointer none,.pointer none,.pointer none,.pointer none,.pointer none,.pointer none,.pointer none,.slice none 0 0,.int .i64 (n:Int),.int .u64 (mi (upM n)),.int .u64 (mi (upM n)),.int .i64 0,.int .i64 1073741824,.map (some m)] rfl (Nat.le_of_ble_eq_true rfl) fun w13 hG=>⟨_,rfl,hG.wr (o:=3) [.pointer (some ⟨b_th,0,none⟩),.pointer (some ⟨b_rq,0,none⟩),.pointer (some ⟨b_tm,0,none⟩),.pointer (some ⟨b_ir,0,none⟩),.pointer none,.pointer none,.pointer none,.pointer none,.pointer none,.pointer none,.pointer none,.pointer none,.pointer none,.pointer none,.slice none 0 0,.int .i64 (n:Int),.int .u64 (mi (upM n)),.int .u64 (mi (upM n)),.int .i64 0,.int .i64 1073741824,.map (some m)] rfl (Nat.le_of_ble_eq_true rfl) fun w14 hG=>?_⟩⟩
 refine⟨(rtnew_ok n hn _).mono ?_⟩
 rintro e w15 ⟨b_rt,F_rt,rfl,hX,hU,hF⟩
 replace hG:=hG.push hU (s:=.rt b_rt ((n:Int),List.replicate 16 (-1))) hX hF
 clear hX hF hU
 refine⟨_,_,rfl,⟨(needRt_ok _ _ _).mono ?_⟩⟩
 rintro e w16 ⟨rfl,rfl⟩
 refine⟨_,rfl,?_⟩
 refine⟨(wnew_ok_WorkF (n:Int) _).mono ?_⟩
 rintro e w17 (⟨hno,_⟩|⟨_,b_wk,F_wk,rfl,hX,hU,hF⟩)
 ·exact absurd ⟨by omega,by omega⟩ hno
 replace hG:=hG.push hU (s:=.wk b_wk (newQ n)) hX hF
 clear hX hF hU
 refine⟨_,_,rfl,⟨(needWk_ok _ _ _).mono ?_⟩⟩
 rintro e w18 ⟨rfl,rfl⟩
 refine⟨_,rfl,_,rfl,hG.wr (o:=4) [.pointer (some ⟨b_th,0,none⟩),.pointer (some ⟨b_rq,0,none⟩),.pointer (some ⟨b_tm,0,none⟩),.pointer (some ⟨b_ir,0,none⟩),.pointer (some ⟨b_rt,0,none⟩),.pointer none,.pointer none,.pointer none,.pointer none,.pointer none,.pointer none,.pointer none,.pointer none,.pointer none,.slice none 0 0,.int .i64 (n:Int),.int .u64 (mi (upM n)),.int .u64 (mi (upM n)),.int .i64 0,.int .i64 1073741824,.map (some m)] rfl (Nat.le_of_ble_eq_true rfl) fun w19 hG=>⟨_,rfl,hG.wr (o:=5) [.pointer (some ⟨b_th,0,none⟩),.pointer (some ⟨b_rq,0,none⟩),.pointer (some ⟨b_tm,0,none⟩),.pointer (some ⟨b_ir,0,none⟩),.pointer (some ⟨b_rt,0,none⟩),.pointer (some ⟨b_wk,0,none⟩),.pointer none,.pointer none,.pointer none,.pointer none,.pointer none,.pointer none,.pointer none,.pointer none,.slice none 0 0,.int .i64 (n:Int),.int .u64 (mi (upM n)),.int .u64 (mi (upM n)),.int .i64 0,.int .i64 1073741824,.map (some m)] rfl (Nat.le_of_ble_eq_true rfl) fun w20 hG=>?_⟩⟩
 refine⟨(cnew_ok_Call (n:Int) _).mono ?_⟩
 rintro e w21 (⟨hno,_⟩|⟨_,b_ca,F_ca,rfl,hX,hU,hF⟩)
 ·exact absurd ⟨by omega,by omega⟩ hno
 replace hG:=hG.push hU (s:=.ca b_ca (newC n)) hX hF
 clear hX hF hU
 refine⟨_,_,rfl,⟨(needCa_ok _ _ _).mono ?_⟩⟩
 rintro e w22 ⟨rfl,rfl⟩
 refine⟨_,rfl,?_⟩
 refine⟨(snew_ok_Stash (n:Int) 12 _).mono ?_⟩
 rintro e w23 (⟨hno,_⟩|⟨_,b_st,F_st,rfl,hX,hU,hF⟩)
 ·exact absurd (show okNew (n:Int) 12 from⟨by omega,by omega,by omega,by omega⟩) hno
 replace hG:=hG.push hU (s:=.st b_st (newK n 12)) hX hF
 clear hX hF hU
 refine⟨_,_,rfl,⟨(needSt_ok _ _ _).mono ?_⟩⟩
 rintro e w24 ⟨rfl,rfl⟩
 refine⟨_,rfl,_,rfl,hG.wr (o:=6) [.pointer (some ⟨b_th,0,none⟩),.pointer (some ⟨b_rq,0,none⟩),.pointer (some ⟨b_tm,0,none⟩),.pointer (some ⟨b_ir,0,none⟩),.pointer (some ⟨b_rt,0,none⟩),.pointer (some ⟨b_wk,0,none⟩),.pointer (some ⟨b_ca,0,none⟩),.pointer none,.pointer none,.pointer none,.pointer none,.pointer none,.pointer none,.pointer none,.slice none 0 0,.int .i64 (n:Int),.int .u64 (mi (upM n)),.int .u64 (mi (upM n)),.int .i64 0,.int .i64 1073741824,.map (some m)] rfl (Nat.le_of_ble_eq_true rfl) fun w25 hG=>⟨_,rfl,hG.wr (o:=7) [.pointer (some ⟨b_th,0,none⟩),.pointer (some ⟨b_rq,0,none⟩),.pointer (some ⟨b_tm,0,none⟩),.pointer (some ⟨b_ir,0,none⟩),.pointer (some ⟨b_rt,0,none⟩),.pointer (some ⟨b_wk,0,none⟩),.pointer (some ⟨b_ca,0,none⟩),.pointer (some ⟨b_st,0,none⟩),.pointer none,.pointer none,.pointer none,.pointer none,.pointer none,.pointer none,.slice none 0 0,.int .i64 (n:Int),.int .u64 (mi (upM n)),.int .u64 (mi (upM n)),.int .i64 0,.int .i64 1073741824,.map (some m)] rfl (Nat.le_of_ble_eq_true rfl) fun w26 hG=>?_⟩⟩
 refine⟨(spnew_ok n hn _).mono ?_⟩
 rintro e w27 ⟨b_sc,F_sc,rfl,hX,hU,hF⟩
 replace hG:=hG.push hU (s:=.sc b_sc (List.replicate n 0)) hX hF
 clear hX hF hU
 refine⟨_,_,rfl,⟨(needSc_ok _ _ _).mono ?_⟩⟩
 rintro e w28 ⟨rfl,rfl⟩
 refine⟨_,rfl,?_⟩
 refine⟨(gnew_ok n hn _).mono ?_⟩
 rintro e w29 ⟨b_ga,F_ga,rfl,hX,hU,hF⟩
 replace hG:=hG.push hU (s:=.ga b_ga (List.replicate n 0,0)) hX hF
 clear hX hF hU
 refine⟨_,_,rfl,⟨(needGa_ok _ _ _).mono ?_⟩⟩
 rintro e w30 ⟨rfl,rfl⟩
 refine⟨_,rfl,_,rfl,hG.wr (o:=8) [.pointer (some ⟨b_th,0,none⟩),.pointer (some ⟨b_rq,0,none⟩),.pointer (some ⟨b_tm,0,none⟩),.pointer (some ⟨b_ir,0,none⟩),.pointer (some ⟨b_rt,0,none⟩),.pointer (some ⟨b_wk,0,none⟩),.pointer (some ⟨b_ca,0,none⟩),.pointer (some ⟨b_st,0,none⟩),.pointer (some ⟨b_sc,0,none⟩),.pointer none,.pointer none,.pointer none,.pointer none,.pointer none,.slice none 0 0,.int .i64 (n:Int),.int .u64 (mi (upM n)),.int .u64 (mi (upM n)),.int .i64 0,.int .i64 1073741824,.map (some m)] rfl (Nat.le_of_ble_eq_true rfl) fun w31 hG=>⟨_,rfl,hG.wr (o:=9) [.pointer (some ⟨b_th,0,none⟩),.pointer (some ⟨b_rq,0,none⟩),.pointer (some ⟨b_tm,0,none⟩),.pointer (some ⟨b_ir,0,none⟩),.pointer (some ⟨b_rt,0,none⟩),.pointer (some ⟨b_wk,0,none⟩),.pointer (some ⟨b_ca,0,none⟩),.pointer (some ⟨b_st,0,none⟩),.pointer (some ⟨b_sc,0,none⟩),.pointer (some ⟨b_ga,0,none⟩),.pointer none,.pointer none,.pointer none,.pointer none,.slice none 0 0,.int .i64 (n:Int),.int .u64 (mi (upM n)),.int .u64 (mi (upM n)),.int .i64 0,.int .i64 1073741824,.map (some m)] rfl (Nat.le_of_ble_eq_true rfl) fun w32 hG=>?_⟩⟩
 refine⟨(cnew_ok_Core n hn _).mono ?_⟩
 rintro e w33 ⟨b_co,F_co,rfl,hX,hU,hF⟩
 replace hG:=hG.push hU (s:=.co b_co (List.replicate n ⟨true,false,0,0⟩)) hX hF
 clear hX hF hU
 refine⟨_,_,rfl,⟨(needCo_ok _ _ _).mono ?_⟩⟩
 rintro e w34 ⟨rfl,rfl⟩
 refine⟨_,rfl,?_⟩
 refine⟨(mnew_ok n hn _).mono ?_⟩
 rintro e w35 ⟨b_me,F_me,rfl,hX,hU,hF⟩
 replace hG:=hG.push hU (s:=.me b_me n) hX hF
 clear hX hF hU
 refine⟨_,_,rfl,⟨(needMe_ok _ _ _).mono ?_⟩⟩
 rintro e w36 ⟨rfl,rfl⟩
 refine⟨_,rfl,_,rfl,hG.wr (o:=12) [.pointer (some ⟨b_th,0,none⟩),.pointer (some ⟨b_rq,0,none⟩),.pointer (some ⟨b_tm,0,none⟩),.pointer (some ⟨b_ir,0,none⟩),.pointer (some ⟨b_rt,0,none⟩),.pointer (some ⟨b_wk,0,none⟩),.pointer (some ⟨b_ca,0,none⟩),.pointer (some ⟨b_st,0,none⟩),.pointer (some ⟨b_sc,0,none⟩),.pointer (some ⟨b_ga,0,none⟩),.pointer none,.pointer none,.pointer (some ⟨b_co,0,none⟩),.pointer none,.slice none 0 0,.int .i64 (n:Int),.int .u64 (mi (upM n)),.int .u64 (mi (upM n)),.int .i64 0,.int .i64 1073741824,.map (some m)] rfl (Nat.le_of_ble_eq_true rfl) fun w37 hG=>⟨_,rfl,hG.wr (o:=13) [.pointer (some ⟨b_th,0,none⟩),.pointer (some ⟨b_rq,0,none⟩),.pointer (some ⟨b_tm,0,none⟩),.pointer (some ⟨b_ir,0,none⟩),.pointer (some ⟨b_rt,0,none⟩),.pointer (some ⟨b_wk,0,none⟩),.pointer (some ⟨b_ca,0,none⟩),.pointer (some ⟨b_st,0,none⟩),.pointer (some ⟨b_sc,0,none⟩),.pointer (some ⟨b_ga,0,none⟩),.pointer none,.pointer none,.pointer (some ⟨b_co,0,none⟩),.pointer (some ⟨b_me,0,none⟩),.slice none 0 0,.int .i64 (n:Int),.int .u64 (mi (upM n)),.int .u64 (mi (upM n)),.int .i64 0,.int .i64 1073741824,.map (some m)] rfl (Nat.le_of_ble_eq_true rfl) fun w38 hG=>?_⟩⟩
 refine⟨fun w39 hNs=>⟨fun w40 hNd=>?_⟩⟩
 replace hG:=hG.push (hNs.upd no) (s:=.so w38.heap.size (0,0)) (Rw.new hNs rfl) (fun i hi=>Nat.le_of_eq hi.symm)
 replace hG:=hG.push (hNd.upd no) (s:=.dk w39.heap.size (none,fun _=>false)) (dk_new (b:=0) hNd) (fun i hi=>Nat.le_of_eq hi.symm)
 generalize w38.heap.size=b_so at hG⊢
 generalize w39.heap.size=b_dk at hG⊢
 refine⟨_,rfl,hG.wr (o:=10) [.pointer (some ⟨b_th,0,none⟩),.pointer (some ⟨b_rq,0,none⟩),.pointer (some ⟨b_tm,0,none⟩),.pointer (some ⟨b_ir,0,none⟩),.pointer (some ⟨b_rt,0,none⟩),.pointer (some ⟨b_wk,0,none⟩),.pointer (some ⟨b_ca,0,none⟩),.pointer (some ⟨b_st,0,none⟩),.pointer (some ⟨b_sc,0,none⟩),.pointer (some ⟨b_ga,0,none⟩),.pointer (some ⟨b_so,0,none⟩),.pointer none,.pointer (some ⟨b_co,0,none⟩),.pointer (some ⟨b_me,0,none⟩),.slice none 0 0,.int .i64 (n:Int),.int .u64 (mi (upM n)),.int .u64 (mi (upM n)),.int .i64 0,.int .i64 1073741824,.map (some m)] rfl (Nat.le_of_ble_eq_true rfl) fun w41 hG=>⟨_,rfl,hG.wr (o:=11) [.pointer (some ⟨b_th,0,none⟩),.pointer (some ⟨b_rq,0,none⟩),.pointer (some ⟨b_tm,0,none⟩),.pointer (some ⟨b_ir,0,none⟩),.pointer (some ⟨b_rt,0,none⟩),.pointer (some ⟨b_wk,0,none⟩),.pointer (some ⟨b_ca,0,none⟩),.pointer (some ⟨b_st,0,none⟩),.pointer (some ⟨b_sc,0,none⟩),.pointer (some ⟨b_ga,0,none⟩),.pointer (some ⟨b_so,0,none⟩),.pointer (some ⟨b_dk,0,none⟩),.pointer (some ⟨b_co,0,none⟩),.pointer (some ⟨b_me,0,none⟩),.slice none 0 0,.int .i64 (n:Int),.int .u64 (mi (upM n)),.int .u64 (mi (upM n)),.int .i64 0,.int .i64 1073741824,.map (some m)] rfl (Nat.le_of_ble_eq_true rfl) fun w42 hG=>?_⟩⟩
 replace hG:=hG.push (Upd.refl no _) (s:=.gv none 0 0) (G:=fun _=>False) ⟨[],rfl,fun _=>False,fun _=>False,⟨fun i=>⟨fun h=>h.elim,fun⟨a,ha,_⟩=>by cases ha⟩,Sl.nil _ _ _⟩,Fam.nil _,fun i=>by simp,fun _ h=>h.elim⟩ (fun i h=>h.elim)
 have hG0:NewG b w0 w42 [.ow m (fun _=>none,0),.th b_th (newT_Thr n),.rq b_rq (List.replicate n (32,[])),.tm b_tm (newT_Timer n),.ir b_ir ((n:Int),List.replicate 16 i0),.rt b_rt ((n:Int),List.replicate 16 (-1)),.wk b_wk (newQ n),.ca b_ca (newC n),.st b_st (newK n 12),.sc b_sc (List.replicate n 0),.ga b_ga (List.replicate n 0,0),.co b_co (List.replicate n ⟨true,false,0,0⟩),.me b_me n,.so b_so (0,0),.dk b_dk (none,fun _=>false),.gv none 0 0] [.pointer (some ⟨b_th,0,none⟩),.pointer (some ⟨b_rq,0,none⟩),.pointer (some ⟨b_tm,0,none⟩),.pointer (some ⟨b_ir,0,none⟩),.pointer (some ⟨b_rt,0,none⟩),.pointer (some ⟨b_wk,0,none⟩),.pointer (some ⟨b_ca,0,none⟩),.pointer (some ⟨b_st,0,none⟩),.pointer (some ⟨b_sc,0,none⟩),.pointer (some ⟨b_ga,0,none⟩),.pointer (some ⟨b_so,0,none⟩),.pointer (some ⟨b_dk,0,none⟩),.pointer (some ⟨b_co,0,none⟩),.pointer (some ⟨b_me,0,none⟩),.slice none 0 0,.int .i64 (n:Int),.int .u64 (mi (upM n)),.int .u64 (mi (upM n)),.int .i64 0,.int .i64 1073741824,.map (some m)]:=hG
 clear hG
 refine⟨WP_loop okProg (M:=M8) (σ:=Nat) (fun i=>e8_1 (some ⟨b,0,none⟩) (n:Int) (i:Int)) (fun i w'=>i<=n/\∃p c,NewG b w0 w' [.ow m (fun _=>none,0),.th b_th (newT_Thr n),.rq b_rq (List.replicate n (32,[])),.tm b_tm (newT_Timer n),.ir b_ir ((n:Int),List.replicate 16 i0),.rt b_rt ((n:Int),List.replicate 16 (-1)),.wk b_wk (newQ n),.ca b_ca (newC n),.st b_st (newK n 12),.sc b_sc (List.replicate n 0),.ga b_ga (List.replicate n 0,0),.co b_co (List.replicate n ⟨true,false,0,0⟩),.me b_me n,.so b_so (0,0),.dk b_dk (none,fun _=>false),.gv p c i] [.pointer (some ⟨b_th,0,none⟩),.pointer (some ⟨b_rq,0,none⟩),.pointer (some ⟨b_tm,0,none⟩),.pointer (some ⟨b_ir,0,none⟩),.pointer (some ⟨b_rt,0,none⟩),.pointer (some ⟨b_wk,0,none⟩),.pointer (some ⟨b_ca,0,none⟩),.pointer (some ⟨b_st,0,none⟩),.pointer (some ⟨b_sc,0,none⟩),.pointer (some ⟨b_ga,0,none⟩),.pointer (some ⟨b_so,0,none⟩),.pointer (some ⟨b_dk,0,none⟩),.pointer (some ⟨b_co,0,none⟩),.pointer (some ⟨b_me,0,none⟩),.slice p i c,.int .i64 (n:Int),.int .u64 (mi (upM n)),.int .u64 (mi (upM n)),.int .i64 0,.int .i64 1073741824,.map (some m)]) (fun i _=>n-i) 0 ⟨rfl,rfl,rfl,trivial⟩ ⟨Nat.zero_le _,none,0,hG0⟩ ?_⟩
 rintro i v1 ⟨hi,p,c,hG⟩
 rw[t8_1]
 refine⟨fun g=>?_,fun g=>?_⟩
 ·have g:=of_decide_eq_true g
  have hlt:i<n:=by omega
  intro v2 q1 q2 q3 q4
  have hUs:Upd no v1 v2:=Upd.same no q1 q2 q3 q4
  have hG2:=Mine.upd hG hUs
  refine⟨_,rfl,p,i,c,(NewG.blk hG2).cell2 rfl,⟨(fnew_ok (a:=100) (b:=1000) ⟨by omega,by omega,by omega⟩ v2).mono ?_⟩⟩
  rintro e v3 ⟨bq,G,rfl,hQ,hU3,hF3⟩
  have hG3:=Mine.upd hG2 hU3
  refine⟨_,_,rfl,(NewG.blk hG3).cell2 rfl,⟨(needGv_ok _ _ _).mono ?_⟩⟩
  rintro e v4 ⟨rfl,rfl⟩
  refine⟨_,rfl,(NewG.blk hG3).cell2 rfl,⟨fun v5 hN5=>?_⟩⟩
  have hG5:=Mine.upd hG3 (hN5.upd no)
  obtain⟨F1,h1,k1⟩:=Mine.left hG2
  obtain⟨F2,a1,a2,a3⟩:=Fam.at h1 (i:=15) (by simp)
  obtain⟨p',c',v6,hr,F3,b1,b2,b3⟩:=GvsO.push (n:=i) a1 (by omega) hU3 hQ hF3 hN5 90
  refine⟨(NewG.blk hG5).cell2 rfl,p',i+1,c',v6,hr,_,rfl,?_⟩
  have hG6:NewG b w0 v6 [.ow m (fun _=>none,0),.th b_th (newT_Thr n),.rq b_rq (List.replicate n (32,[])),.tm b_tm (newT_Timer n),.ir b_ir ((n:Int),List.replicate 16 i0),.rt b_rt ((n:Int),List.replicate 16 (-1)),.wk b_wk (newQ n),.ca b_ca (newC n),.st b_st (newK n 12),.sc b_sc (List.replicate n 0),.ga b_ga (List.replicate n 0,0),.co b_co (List.replicate n ⟨true,false,0,0⟩),.me b_me n,.so b_so (0,0),.dk b_dk (none,fun _=>false),.gv p' c' (i+1)] [.pointer (some ⟨b_th,0,none⟩),.pointer (some ⟨b_rq,0,none⟩),.pointer (some ⟨b_tm,0,none⟩),.pointer (some ⟨b_ir,0,none⟩),.pointer (some ⟨b_rt,0,none⟩),.pointer (some ⟨b_wk,0,none⟩),.pointer (some ⟨b_ca,0,none⟩),.pointer (some ⟨b_st,0,none⟩),.pointer (some ⟨b_sc,0,none⟩),.pointer (some ⟨b_ga,0,none⟩),.pointer (some ⟨b_so,0,none⟩),.pointer (some ⟨b_dk,0,none⟩),.pointer (some ⟨b_co,0,none⟩),.pointer (some ⟨b_me,0,none⟩),.slice p i c,.int .i64 (n:Int),.int .u64 (mi (upM n)),.int .u64 (mi (upM n)),.int .i64 0,.int .i64 1073741824,.map (some m)]:=k1 _ _ (a3 v6 (.gv p' c' (i+1)) ⟨F3,b1,b2,b3⟩)
  exact NewG.wr hG6 (o:=14) [.pointer (some ⟨b_th,0,none⟩),.pointer (some ⟨b_rq,0,none⟩),.pointer (some ⟨b_tm,0,none⟩),.pointer (some ⟨b_ir,0,none⟩),.pointer (some ⟨b_rt,0,none⟩),.pointer (some ⟨b_wk,0,none⟩),.pointer (some ⟨b_ca,0,none⟩),.pointer (some ⟨b_st,0,none⟩),.pointer (some ⟨b_sc,0,none⟩),.pointer (some ⟨b_ga,0,none⟩),.pointer (some ⟨b_so,0,none⟩),.pointer (some ⟨b_dk,0,none⟩),.pointer (some ⟨b_co,0,none⟩),.pointer (some ⟨b_me,0,none⟩),.slice p' (i+1) c',.int .i64 (n:Int),.int .u64 (mi (upM n)),.int .u64 (mi (upM n)),.int .i64 0,.int .i64 1073741824,.map (some m)] rfl (Nat.le_of_ble_eq_true rfl) fun v7 hG7=>⟨i+1,⟨rfl,rfl,by rw[w64 (by omega)];rfl,trivial⟩,⟨by omega,p',c',hG7⟩,by omega⟩
 ·have g:=of_decide_eq_false g
  have hin:n=i:=by omega
  subst hin
  obtain⟨F0,⟨F1,F2,h1,h2,h3,h4⟩,hU,hF⟩:=hG
  let q:KQ:=⟨b_th,b_rq,b_tm,b_ir,b_rt,b_wk,b_ca,b_st,b_sc,b_ga,b_so,b_dk,b_co,b_me,p,c,m⟩
  have hrow:Fam (KPO b) v1 F0 (KP.row q (n,upM n,upM n,0,1073741824)::[.ow m (fun _=>none,0),.th b_th (newT_Thr n),.rq b_rq (List.replicate n (32,[])),.tm b_tm (newT_Timer n),.ir b_ir ((n:Int),List.replicate 16 i0),.rt b_rt ((n:Int),List.replicate 16 (-1)),.wk b_wk (newQ n),.ca b_ca (newC n),.st b_st (newK n 12),.sc b_sc (List.replicate n 0),.ga b_ga (List.replicate n 0,0),.co b_co (List.replicate n ⟨true,false,0,0⟩),.me b_me n,.so b_so (0,0),.dk b_dk (none,fun _=>false),.gv p c n]):=⟨F2,F1,⟨h2.1,h2.2⟩,h1,fun j=>(h3 j).trans Or.comm,fun j hj hk=>h4 j hk hj⟩
  refine⟨b,F0,rfl,⟨q,List.replicate n 0,(fun _=>none,0),FamL.perm ?_ hrow,rfl,hn⟩,hU,fun j hj=>hm ▸ hF j hj⟩
  refine List.Perm.cons _ ?_
  show List.Perm (α:=KP) ([.ow m (fun _=>none,0)]++([.th b_th (newT_Thr n),.rq b_rq (List.replicate n (32,[])),.tm b_tm (newT_Timer n),.ir b_ir ((n:Int),List.replicate 16 i0),.rt b_rt ((n:Int),List.replicate 16 (-1)),.wk b_wk (newQ n),.ca b_ca (newC n),.st b_st (newK n 12),.sc b_sc (List.replicate n 0),.ga b_ga (List.replicate n 0,0)]++([.co b_co (List.replicate n ⟨true,false,0,0⟩),.me b_me n]++([.so b_so (0,0),.dk b_dk (none,fun _=>false)]++[.gv p c n])))) ([.th b_th (newT_Thr n),.rq b_rq (List.replicate n (32,[])),.tm b_tm (newT_Timer n),.ir b_ir ((n:Int),List.replicate 16 i0),.rt b_rt ((n:Int),List.replicate 16 (-1)),.wk b_wk (newQ n),.ca b_ca (newC n),.st b_st (newK n 12),.sc b_sc (List.replicate n 0),.ga b_ga (List.replicate n 0,0)]++([.so b_so (0,0),.dk b_dk (none,fun _=>false)]++([.co b_co (List.replicate n ⟨true,false,0,0⟩),.me b_me n]++[.gv p c n,.ow m (fun _=>none,0)])))
  refine List.perm_append_comm.trans ?_
  simp only[List.append_assoc]
  refine List.Perm.append_left _ ?_
  exact(List.perm_append_comm_assoc _ _ _)
end Go.Dav
namespace Go.Dav
structure RqV (n:Nat) (x:RS):Prop where
 len:x.length=n
 one:∀k i j,memQ x i k=true->memQ x j k=true->i=j
 v:∀q∈x,PqV q/\q.1=32
theorem RqV.at {n:Nat} {x:RS} (h:RqV n x) {i:Nat} (hi:i<x.length):PqV x[i]/\x[i].1=32:=h.v _ (List.getElem_mem hi)
theorem RqV.uniq {n:Nat} {x:RS} (h:RqV n x) {k:Int} {i j:Nat} (h1:memQ x i k=true) (h2:memQ x j k=true):i=j:=h.one k i j h1 h2
theorem PqV.drop {q:Nat×Its} (h:PqV q) (k:Int):PqV (pqDropS q k) where
 one:=(List.Sublist.map _ List.filter_sublist).nodup h.one
 rng:=fun e he=>h.rng e ((List.mem_filter.1 he).1)
 room:=Nat.le_trans (List.length_filter_le ..) h.room
 most:=h.most
theorem PqV.push {q:Nat×Its} (h:PqV q) {p k:Int} (hp:pqPushE q p k=0):PqV (pqPushS q p k):=by
 have hno:=push_no hp
 have hp':=hp
 unfold pqPushE at hp'
 unfold pqPushS
 rw[if_pos hp]
 split at hp'
 ·omega
 ·split at hp'
  ·omega
  ·split at hp'
   ·omega
   ·refine⟨?_,?_,?_,h.most⟩
    ·simp only[List.map_append,List.map_cons,List.map_nil]
     refine List.nodup_append.2 ⟨h.one,by simp,fun a ha b hb=>?_⟩
     simp only[List.mem_singleton]at hb
     rintro rfl
     subst hb
     rw[show inE q a=true from List.contains_iff_mem.2 ha]at hno
     cases hno
    ·intro e he
     rcases List.mem_append.1 he with he|he
     ·exact h.rng e he
     ·simp only[List.mem_singleton]at he
      subst he
      simp only
      omega
    ·simp only[List.length_append,List.length_singleton];omega
section
variable {n:Nat} {x:RS}
theorem memQ_take (h:RqV n x) (k:Int) (i:Nat) (j:Int):memQ (rqTakeS x k) i j=(memQ x i j&&decide (j≠k)):=by
 unfold rqTakeS
 rcases whE_cases x k with⟨h1,h2⟩|⟨i0,hi0,h1,h2⟩
 ·rw[h1]
  simp only[Bool.false_eq_true,if_false]
  by_cases hj:j=k
  ·subst hj;rw[h2];simp
  ·simp[hj]
 ·rw[h1]
  simp only[if_true,Int.toNat_natCast]
  rw[memQ_set hi0]
  by_cases hi:i=i0
  ·subst hi
   rw[if_pos rfl,in_drop,rowQ_at hi0,memQ_at hi0]
  ·rw[if_neg hi]
   by_cases hj:j=k
   ·subst hj
    have:memQ x i j=false:=by
     cases hm:memQ x i j with
     | false=>rfl
     | true=>exact absurd (h.uniq hm h2) hi
    rw[this];simp
   ·simp[hj]
theorem RqV.take (h:RqV n x) (k:Int):RqV n (rqTakeS x k):=by
 refine⟨?_,fun j i i' h1 h2=>?_,?_⟩
 ·unfold rqTakeS;split<;>simp[h.len]
 ·rw[memQ_take h]at h1 h2
  simp only[Bool.and_eq_true]at h1 h2
  exact h.uniq h1.1 h2.1
 ·unfold rqTakeS
  rcases whE_cases x k with⟨h1,h2⟩|⟨i0,hi0,h1,h2⟩
  ·rw[h1];simp only[Bool.false_eq_true,if_false];exact h.v
  ·rw[h1]
   simp only[if_true,Int.toNat_natCast]
   intro q hq
   rcases List.mem_or_eq_of_mem_set hq with hq|rfl
   ·exact h.v q hq
   ·rw[rowQ_at hi0];exact⟨(h.at hi0).1.drop k,(h.at hi0).2⟩
theorem memQ_put {c p k:Int} (he:rqPutE x c p k=0) (i:Nat) (j:Int):memQ (rqPutS x c p k) i j=(memQ x i j||(decide (i=c.toNat)&&decide (j=k))):=by
 have h0:=he
 unfold rqPutS
 rw[if_pos he]
 unfold rqPutE at h0
 split at h0
 ·rename_i hc
  obtain⟨i0,hi0,rfl⟩:=inQ_at hc
  split at h0
  ·omega
  ·simp only[Int.toNat_natCast]
   rw[memQ_set hi0,rowQ_at hi0]
   rw[rowQ_at hi0]at h0
   by_cases hi:i=i0
   ·subst hi;rw[if_pos rfl,in_push h0,memQ_at hi0];simp
   ·rw[if_neg hi];simp[hi]
 ·omega
theorem RqV.put (h:RqV n x) {c p k:Int} (he:rqPutE x c p k=0):RqV n (rqPutS x c p k):=by
 have h0:=he
 unfold rqPutE at h0
 split at h0
 ·rename_i hc
  split at h0
  ·omega
  ·rename_i hw
   have hno:∀i,memQ x i k=false:=by
    rcases whE_cases x k with⟨h1,h2⟩|⟨i0,hi0,h1,h2⟩
    ·exact h2
    ·rw[h1]at hw;exact absurd rfl hw
   refine⟨by rw[put_len];exact h.len,fun j i i' h1 h2=>?_,?_⟩
   ·rw[memQ_put he]at h1 h2
    simp only[Bool.or_eq_true,Bool.and_eq_true,decide_eq_true_eq]at h1 h2
    rcases h1 with h1|⟨h1,e⟩
    ·rcases h2 with h2|⟨h2,e⟩
     ·exact h.uniq h1 h2
     ·subst e;rw[hno]at h1;cases h1
    ·rcases h2 with h2|⟨h2,e'⟩
     ·subst e;rw[hno]at h2;cases h2
     ·omega
   ·unfold rqPutS
    rw[if_pos he]
    intro q hq
    obtain⟨i0,hi0,rfl⟩:=inQ_at hc
    rw[rowQ_at hi0]at h0 hq
    rcases List.mem_or_eq_of_mem_set hq with hq|rfl
    ·exact h.v q hq
    ·exact⟨(h.at hi0).1.push h0,by rw[most_push];exact(h.at hi0).2⟩
 ·omega
theorem put_ok (h:RqV n x) (hid:∀i j,memQ x i j=true->1<=j/\j<=32) {c p k:Int} (hc:0<=c/\c<n) (hp:0<=p/\p<8) (hk:1<=k/\k<=32) (hno:∀i,memQ x i k=false):rqPutE x c p k=0:=by
 have hc':inQ x c:=⟨hc.1,by rw[h.len];exact hc.2⟩
 obtain⟨i0,hi0,rfl⟩:=inQ_at hc'
 unfold rqPutE
 rw[if_pos hc']
 have hw:(whE_Runq x k).2=false:=by
  rcases whE_cases x k with⟨h1,_⟩|⟨i,_,_,h2⟩
  ·rw[h1]
  ·rw[hno]at h2;cases h2
 rw[hw,rowQ_at hi0]
 simp only[Bool.false_eq_true,if_false]
 have hin:inE x[i0] k=false:=by rw[<-memQ_at hi0];exact hno i0
 unfold pqPushE
 rw[if_neg (by omega),hin]
 simp only[Bool.false_eq_true,if_false]
 have hV:=h.at hi0
 have hlen:(k::x[i0].2.map (·.2)).length<=32:=by
  refine few (m:=32) (List.nodup_cons.2 ⟨fun hm=>?_,hV.1.one⟩) ?_
  ·rw[show inE x[i0] k=true from List.contains_iff_mem.2 hm]at hin;cases hin
  ·intro v hv
   rcases List.mem_cons.1 hv with rfl|hv
   ·omega
   ·exact hid i0 v (by rw[memQ_at hi0];exact List.contains_iff_mem.2 hv)
 rw[hV.2,if_neg (by simp at hlen;omega)]
theorem memQ_back (h:RqV n x) (k:Int) (i:Nat) (j:Int):memQ (rqBackS x k) i j=memQ x i j:=by
 unfold rqBackS
 rcases whE_cases x k with⟨h1,h2⟩|⟨i0,hi0,h1,h2⟩
 ·rw[h1];rfl
 ·rw[h1]
  simp only[if_true,Int.toNat_natCast]
  rw[memQ_set hi0,rowQ_at hi0]
  split
  ·rename_i e;subst e;rw[in_back,memQ_at hi0]
  ·rfl
theorem memQ_pick (x:RS) (c:Int) (i:Nat) (j:Int):memQ (rqPickS x c) i j=memQ x i j:=by
 unfold rqPickS
 split
 ·rename_i hc
  obtain⟨i0,hi0,rfl⟩:=inQ_at hc
  simp only[Int.toNat_natCast]
  rw[memQ_set hi0,rowQ_at hi0]
  split
  ·rename_i e;subst e;rw[in_turn,memQ_at hi0]
  ·rfl
 ·rfl
theorem mem_list (h:RqV n x) {c k:Int}:k∈rqListE x c↔0<=c/\memQ x c.toNat k=true:=by
 unfold rqListE
 by_cases hc:inQ x c
 ·rw[if_pos hc]
  obtain⟨i0,hi0,rfl⟩:=inQ_at hc
  rw[rowQ_at hi0,in_list (h.at hi0).1,Int.toNat_natCast,memQ_at hi0]
  exact⟨fun h=>⟨by omega,h⟩,fun h=>h.2⟩
 ·rw[if_neg hc]
  constructor
  ·intro h;cases h
  ·intro hh
   have:=memQ_lt hh.2
   have:=hh.1
   exact absurd (show inQ x c from⟨hh.1,by omega⟩) hc
theorem load_list (h:RqV n x) (c:Int):rqLoadE x c=(rqListE x c).length:=by
 unfold rqLoadE rqListE
 by_cases hc:inQ x c
 ·rw[if_pos hc,if_pos hc]
  obtain⟨i0,hi0,rfl⟩:=inQ_at hc
  rw[rowQ_at hi0,list_all (h.at hi0).1]
 ·rw[if_neg hc,if_neg hc];rfl
end
end Go.Dav
namespace Go.Dav
theorem sAt_set {S:TL} {i:Nat} (hi:i<S.length) (v:Option Th) (id:Int):sAt (S.set i v) id=if id=(i:Int)+1 then v else sAt S id:=by
 unfold sAt
 by_cases h1:1<=id
 ·rw[if_pos h1,if_pos h1]
  by_cases hid:id=(i:Int)+1
  ·subst hid
   have e1:((i:Int)+1).toNat-1=i:=by omega
   rw[if_pos rfl,e1]
   simp[List.getD_eq_getElem?_getD,hi]
  ·rw[if_neg hid]
   have:i≠id.toNat-1:=by omega
   simp[List.getD_eq_getElem?_getD,this]
 ·rw[if_neg h1,if_neg h1,if_neg (by omega)]
theorem sAt_in {S:TL} {id:Int} {t:Th} (h:sAt S id=some t):1<=id/\id<=S.length:=by
 unfold sAt at h
 split at h
 ·rename_i h1
  refine⟨h1,?_⟩
  have:id.toNat-1<S.length:=by
   apply Classical.byContradiction
   intro hn
   rw[List.getD_eq_getElem?_getD,List.getElem?_eq_none (by omega)]at h
   cases h
  omega
 ·cases h
theorem sAt_set' {S:TL} {id:Int} {t:Th} (h:sAt S id=some t) (v:Option Th) (j:Int):sAt (S.set (id.toNat-1) v) j=if j=id then v else sAt S j:=by
 have:=sAt_in h
 rw[sAt_set (by omega)]
 have e:((id.toNat-1:Nat):Int)+1=id:=by omega
 rw[e]
theorem sAt_new (n:Nat) (id:Int):sAt (List.replicate n none) id=none:=by
 unfold sAt
 split
 ·rw[List.getD_eq_getElem?_getD]
  by_cases h:id.toNat-1<n
  ·simp[h]
  ·rw[List.getElem?_eq_none (by simpa using h)];rfl
 ·rfl
section
variable {x:TX} {id c:Int}
theorem exS_at {t:Th} (h:sAt x.2 id=some t) (j:Int):sAt (exS x id).2 j=if j=id then none else sAt x.2 j:=by
 unfold exS;rw[h];exact sAt_set' h none j
theorem aiS_at {t:Th} {m:BV} (h:sAt x.2 id=some t) (hm:rightR x.1 m=true) (j:Int):sAt (aiS x id m).2 j=if j=id then some (t.1,m,t.2.2)else sAt x.2 j:=by
 unfold aiS;rw[h];simp only[hm,if_true];exact sAt_set' h _ j
theorem slpS_at {t:Th} {n:Int} (h:sAt x.2 id=some t) (hs:t.2.2.2.2.1=false) (j:Int):sAt (slpS x id n).2 j=if j=id then some (t.1,t.2.1,t.2.2.1,t.2.2.2.1,true,n)else sAt x.2 j:=by
 unfold slpS;rw[h];simp only[hs];exact sAt_set' h _ j
theorem waS_at {t:Th} (h:sAt x.2 id=some t) (hs:t.2.2.2.2.1=true) (j:Int):sAt (waS x id).2 j=if j=id then some (t.1,t.2.1,t.2.2.1,t.2.2.2.1,false,0)else sAt x.2 j:=by
 unfold waS;rw[h];simp only[hs,if_true];exact sAt_set' h _ j
theorem exS_fst (x:TX) (id:Int):(exS x id).1=x.1:=by unfold exS;split<;>rfl
theorem aiS_fst (x:TX) (id:Int) (m:BV):(aiS x id m).1=x.1:=by unfold aiS;(repeat' split)<;>rfl
theorem plS_fst (x:TX) (id c:Int) (f:Bool):(plS x id c f).1=x.1:=by unfold plS;(repeat' split)<;>rfl
theorem slpS_fst (x:TX) (id c:Int):(slpS x id c).1=x.1:=by unfold slpS;(repeat' split)<;>rfl
theorem waS_fst (x:TX) (id:Int):(waS x id).1=x.1:=by unfold waS;(repeat' split)<;>rfl
theorem spS_fst (x:TX) (p:Int) (m:BV):(spS x p m).1=x.1:=by unfold spS;split<;>rfl
theorem exS_len (x:TX) (id:Int):(exS x id).2.length=x.2.length:=by unfold exS;split<;>simp
theorem aiS_len (x:TX) (id:Int) (m:BV):(aiS x id m).2.length=x.2.length:=by unfold aiS;(repeat' split)<;>simp
theorem plS_len (x:TX) (id c:Int) (f:Bool):(plS x id c f).2.length=x.2.length:=by unfold plS;(repeat' split)<;>simp
theorem slpS_len (x:TX) (id c:Int):(slpS x id c).2.length=x.2.length:=by unfold slpS;(repeat' split)<;>simp
theorem waS_len (x:TX) (id:Int):(waS x id).2.length=x.2.length:=by unfold waS;(repeat' split)<;>simp
theorem spS_len (x:TX) (p:Int) (m:BV):(spS x p m).2.length=x.2.length:=by unfold spS;split<;>simp
theorem spS_at {p:Int} {m:BV} (h:(spE x p m).2=0):spOk x p m/\(1<=(spE x p m).1/\(spE x p m).1<=x.2.length)/\sAt x.2 (spE x p m).1=none/\∀j,sAt (spS x p m).2 j=if j=(spE x p m).1 then some (p,m,0,false,false,0)else sAt x.2 j:=by
 unfold spE at h
 split at h
 ·rename_i hk
  have e:spE x p m=takeE_Slot (okOf x.2):=by unfold spE;rw[if_pos hk]
  rw[e]
  rcases take_cases (okOf x.2)with⟨j,hj,h1,h2,h3⟩|⟨h1,h2⟩
  ·have hj':j<x.2.length:=by simpa [okOf]using hj
   have hnone:sAt x.2 ((j:Int)+1)=none:=by
    rw[hasE_of]at h3
    unfold okOf at h3
    rw[List.getD_eq_getElem?_getD,List.getElem?_map,List.getElem?_eq_getElem hj']at h3
    simp at h3
    unfold sAt
    rw[if_pos (by omega),List.getD_eq_getElem?_getD]
    have e1:((j:Int)+1).toNat-1=j:=by omega
    rw[e1,List.getElem?_eq_getElem hj']
    simpa using h3
   refine⟨hk,by rw[h1];simp only;omega,by rw[h1];exact hnone,fun i=>?_⟩
   unfold spS
   rw[h1]
   simp only[hk,and_true,if_true]
   have e1:((j:Int)+1).toNat-1=j:=by omega
   rw[e1]
   exact sAt_set hj' _ i
  ·rw[h1]at h;cases h
 ·cases h
theorem spS_no {p:Int} {m:BV} (h:(spE x p m).2≠0):spS x p m=x:=by
 unfold spE at h
 unfold spS
 split at h
 ·rw[if_neg (fun hh=>h hh.2)]
 ·rename_i hk
  rw[if_neg (fun hh=>hk hh.1)]
end
theorem thX_of {k:K} {id:Int} {t:Th} (h:sAt k.th.2 id=some t):thX k id=t/\(getE k.th id).2=0:=by
 unfold thX getE;rw[h];exact⟨rfl,rfl⟩
end Go.Dav
namespace Go.Dav
structure KSV (k:K):Prop where
 n:1<=k.n/\k.n<=64
 th1:k.th.1=(k.n:Int)
 th2:k.th.2.length=32
 rq:RqV k.n k.rq
 tmn:k.tm.n=k.n
 tml:k.tm.t.length=48
 tmt:k.tm.now=k.now
 ir1:k.ir.1=(k.n:Int)
 ir2:k.ir.2.length=16
 rt1:k.rt.1=(k.n:Int)
 rt2:k.rt.2.length=16
 wk1:k.wk.length=k.n+1
 wk2:∀v,ct k.wk v<=1
 wk3:∀v,0<ct k.wk v->1<=v/\v<=32
 ca:k.ca.2.length=k.n
 st:k.st.2.length=k.n
 ga:k.ga.1.length=k.n
 co:k.co.length=k.n
end Go.Dav
namespace Go.Dav
theorem setS_fst (x:RtS) (n c:Int):(setS x n c).1=x.1/\(setS x n c).2.length=x.2.length:=by unfold setS;split<;>simp
theorem offS_fst (x:RtS) (n:Int):(offS x n).1=x.1/\(offS x n).2.length=x.2.length:=by unfold offS;split<;>simp
section
variable {k:K}
end
end Go.Dav
namespace Go.Dav
section
variable {ac ac':BV} {d d':DkS}
end
theorem coPow_len (co:List CoS) (c:Int) (on:Bool):(coPowS co c on).length=co.length:=by unfold coPowS;split<;>simp
section
variable {k:K}
end
end Go.Dav
namespace Go.Dav
theorem PqV.back {q:Nat×Its} (h:PqV q) (k:Int):PqV (pqBackS q k):=by
 unfold pqBackS
 split
 ·rename_i hk
  obtain⟨p,hp⟩:=in_iff.1 hk
  have hpr:=prio_in h.one hp
  have hd:=h.drop k
  have hl:=drop_len h hk
  refine⟨?_,?_,?_,h.most⟩
  ·simp only[List.map_append,List.map_cons,List.map_nil]
   refine List.nodup_append.2 ⟨hd.one,by simp,fun a ha b hb=>?_⟩
   simp only[List.mem_singleton]at hb
   rintro rfl
   obtain⟨e,he,rfl⟩:=List.mem_map.1 ha
   have:=(List.mem_filter.1 he).2
   simp only[decide_eq_true_eq]at this
   exact this hb
  ·intro e he
   rcases List.mem_append.1 he with he|he
   ·exact hd.rng e he
   ·simp only[List.mem_singleton]at he
    subst he
    simp only[hpr]
    exact h.rng _ hp
  ·simp only[List.length_append,List.length_singleton]
   have:=h.room
   omega
 ·exact h
theorem pqBack_fst (q:Nat×Its) (k:Int):(pqBackS q k).1=q.1:=by unfold pqBackS;split<;>rfl
theorem PqV.turn {q:Nat×Its} (h:PqV q):PqV (pqTurnS q)/\(pqTurnS q).1=q.1:=by
 unfold pqTurnS
 split
 ·exact⟨h.back _,pqBack_fst ..⟩
 ·exact⟨h,rfl⟩
section
variable {n:Nat} {x:RS}
theorem RqV.set (h:RqV n x) {i:Nat} (hi:i<x.length) {q:Nat×Its} (hm:∀k,inE q k=inE x[i] k) (hV:PqV q) (h1:q.1=x[i].1):RqV n (x.set i q):=by
 have hmem:∀j k,memQ (x.set i q) j k=memQ x j k:=by
  intro j k
  rw[memQ_set hi]
  split
  ·rename_i e;subst e;rw[hm,memQ_at hi]
  ·rfl
 refine⟨by simp[h.len],fun k a b h1 h2=>?_,fun e he=>?_⟩
 ·rw[hmem]at h1 h2;exact h.one k a b h1 h2
 ·rcases List.mem_or_eq_of_mem_set he with he|rfl
  ·exact h.v e he
  ·exact⟨hV,by rw[h1];exact(h.at hi).2⟩
theorem RqV.back (h:RqV n x) (k:Int):RqV n (rqBackS x k):=by
 unfold rqBackS
 rcases whE_cases x k with⟨h1,h2⟩|⟨i0,hi0,h1,h2⟩
 ·rw[h1];exact h
 ·rw[h1]
  simp only[if_true,Int.toNat_natCast]
  rw[rowQ_at hi0]
  exact h.set hi0 (fun j=>by rw[in_back]) ((h.at hi0).1.back k) (pqBack_fst ..)
theorem RqV.pick (h:RqV n x) (c:Int):RqV n (rqPickS x c):=by
 unfold rqPickS
 split
 ·rename_i hc
  obtain⟨i0,hi0,rfl⟩:=inQ_at hc
  rw[rowQ_at hi0,Int.toNat_natCast]
  exact h.set hi0 (fun j=>by rw[in_turn]) (h.at hi0).1.turn.1 (h.at hi0).1.turn.2
 ·exact h
theorem RqV.put' (h:RqV n x) (c p k:Int):RqV n (rqPutS x c p k):=by
 by_cases he:rqPutE x c p k=0
 ·exact h.put he
 ·unfold rqPutS;rw[if_neg he];exact h
end
structure WkS (n:Nat) (Q:QL):Prop where
 len:Q.length=n+1
 one:∀v,ct Q v<=1
 rng:∀v,0<ct Q v->1<=v/\v<=32
section
variable {n:Nat} {Q:QL}
theorem WkS.queue (h:WkS n Q) (c:Int):WkS n (quS Q c):=by
 unfold quS
 split
 ·rename_i hc
  obtain⟨i,hi,rfl,hix⟩:=inW_at hc (by omega)
  split
  ·rename_i j hj
   have hj':=hj
   unfold freeId at hj'
   have h1:=of_decide_eq_true (List.find?_some (p:=fun(k:Nat)=>decide (ct Q ((k:Int)+1)=0)) hj')
   have h2:=List.mem_range.1 (List.mem_of_find?_eq_some hj')
   rw[hix,rowW_at hi]
   refine⟨by simp[h.len],fun v=>?_,fun v hv=>?_⟩
   ·rw[ct_push hi]
    have:=h.one v
    split
    ·rename_i e;subst e;omega
    ·omega
   ·rw[ct_push hi]at hv
    split at hv
    ·rename_i e;subst e;omega
    ·exact h.rng v (by omega)
  ·exact h
 ·exact h
theorem WkS.less (h:WkS n Q) {i:Nat} (hi:i<Q.length) {l:List Int} (hl:∀v,l.count v<=Q[i].count v):WkS n (Q.set i l):=by
 have hc:∀v,ct (Q.set i l) v<=ct Q v:=fun v=>by have:=ct_set hi l v;have:=hl v;omega
 exact⟨by simp[h.len],fun v=>Nat.le_trans (hc v) (h.one v),fun v hv=>h.rng v (Nat.lt_of_lt_of_le hv (hc v))⟩
theorem WkS.drop (h:WkS n Q) (v:Int):WkS n (dpS Q v):=by
 unfold dpS
 rcases wh_cases h.one v with⟨e,_⟩|⟨i,hi,hv,e,_⟩
 ·rw[e];exact h
 ·rw[e]
  simp only
  rw[ix_of,rowW_at hi]
  exact h.less hi (fun u=>(List.erase_sublist).count_le u)
theorem WkS.take (h:WkS n Q) (c:Int):WkS n (taS Q c):=by
 unfold taS
 split
 ·split
  ·exact h.drop _
  ·exact h.drop _
  ·exact h
 ·exact h
theorem WkS.unbind (h:WkS n Q) (c:Int):WkS n (unS Q c):=by
 unfold unS
 split
 ·rename_i hc
  obtain⟨i,hi,rfl,hix⟩:=inW_at hc (by omega)
  have hi0:i≠0:=by unfold inW at hc;omega
  rw[rowW_at hi,hix]
  split
  ·rename_i a l hl
   have h0:0<Q.length:=by omega
   have e0:rowW Q (-1)=Q[0]:=rowW_at (i:=0) h0
   have hct:∀v,ct ((Q.set i l).set 0 (rowW Q (-1)++[a])) v=ct Q v:=by
    intro v
    have h1:=ct_set hi l v
    have h2:=ct_set (L:=Q.set i l) (i:=0) (by simpa using h0) (rowW Q (-1)++[a]) v
    rw[e0]at h2⊢
    have h3:(Q.set i l)[0]'(by simpa using h0)=Q[0]:=List.getElem_set_ne hi0 _
    rw[h3,List.count_append,List.count_singleton]at h2
    rw[hl,List.count_cons]at h1
    simp only[beq_iff_eq]at h1 h2
    omega
   exact⟨by simp[h.len],fun v=>by rw[hct];exact h.one v,fun v hv=>h.rng v (by rw[<-hct v];exact hv)⟩
  ·exact h
 ·exact h
end
section
variable {k:K}
theorem KSV.wks (h:KSV k):WkS k.n k.wk:=⟨h.wk1,h.wk2,h.wk3⟩
theorem KSV.th_ (h:KSV k) {th:TX} (h1:th.1=k.th.1) (h2:th.2.length=k.th.2.length):KSV {k with th:=th}:=⟨h.n,by rw[<-h.th1,<-h1],by rw[<-h.th2,<-h2],h.rq,h.tmn,h.tml,h.tmt,h.ir1,h.ir2,h.rt1,h.rt2,h.wk1,h.wk2,h.wk3,h.ca,h.st,h.ga,h.co⟩
theorem KSV.rq_ (h:KSV k) {rq:RS} (h1:RqV k.n rq):KSV {k with rq:=rq}:=⟨h.n,h.th1,h.th2,h1,h.tmn,h.tml,h.tmt,h.ir1,h.ir2,h.rt1,h.rt2,h.wk1,h.wk2,h.wk3,h.ca,h.st,h.ga,h.co⟩
theorem KSV.tm_ (h:KSV k) {tm:TmS} (h1:tm.n=k.tm.n) (h2:tm.t.length=k.tm.t.length) (h3:tm.now=k.tm.now):KSV {k with tm:=tm}:=⟨h.n,h.th1,h.th2,h.rq,h1.trans h.tmn,h2.trans h.tml,h3.trans h.tmt,h.ir1,h.ir2,h.rt1,h.rt2,h.wk1,h.wk2,h.wk3,h.ca,h.st,h.ga,h.co⟩
theorem KSV.own_ (h:KSV k) (o:Int->Option Int):KSV {k with own:=o}:=⟨h.n,h.th1,h.th2,h.rq,h.tmn,h.tml,h.tmt,h.ir1,h.ir2,h.rt1,h.rt2,h.wk1,h.wk2,h.wk3,h.ca,h.st,h.ga,h.co⟩
theorem KSV.ir_ (h:KSV k) {ir:IrS} (h1:ir.1=k.ir.1) (h2:ir.2.length=k.ir.2.length):KSV {k with ir:=ir}:=⟨h.n,h.th1,h.th2,h.rq,h.tmn,h.tml,h.tmt,h1.trans h.ir1,h2.trans h.ir2,h.rt1,h.rt2,h.wk1,h.wk2,h.wk3,h.ca,h.st,h.ga,h.co⟩
theorem KSV.rt_ (h:KSV k) {rt:RtS} (h1:rt.1=k.rt.1) (h2:rt.2.length=k.rt.2.length):KSV {k with rt:=rt}:=⟨h.n,h.th1,h.th2,h.rq,h.tmn,h.tml,h.tmt,h.ir1,h.ir2,h1.trans h.rt1,h2.trans h.rt2,h.wk1,h.wk2,h.wk3,h.ca,h.st,h.ga,h.co⟩
theorem KSV.wk_ (h:KSV k) {wk:QL} (h1:WkS k.n wk):KSV {k with wk:=wk}:=⟨h.n,h.th1,h.th2,h.rq,h.tmn,h.tml,h.tmt,h.ir1,h.ir2,h.rt1,h.rt2,h1.len,h1.one,h1.rng,h.ca,h.st,h.ga,h.co⟩
theorem KSV.ca_ (h:KSV k) {ca:CS} (h1:ca.2.length=k.ca.2.length):KSV {k with ca:=ca}:=⟨h.n,h.th1,h.th2,h.rq,h.tmn,h.tml,h.tmt,h.ir1,h.ir2,h.rt1,h.rt2,h.wk1,h.wk2,h.wk3,h1.trans h.ca,h.st,h.ga,h.co⟩
theorem KSV.st_ (h:KSV k) {st:KS} (h1:st.2.length=k.st.2.length):KSV {k with st:=st}:=⟨h.n,h.th1,h.th2,h.rq,h.tmn,h.tml,h.tmt,h.ir1,h.ir2,h.rt1,h.rt2,h.wk1,h.wk2,h.wk3,h.ca,h1.trans h.st,h.ga,h.co⟩
theorem KSV.ga_ (h:KSV k) {ga:GaS} (h1:ga.1.length=k.ga.1.length):KSV {k with ga:=ga}:=⟨h.n,h.th1,h.th2,h.rq,h.tmn,h.tml,h.tmt,h.ir1,h.ir2,h.rt1,h.rt2,h.wk1,h.wk2,h.wk3,h.ca,h.st,h1.trans h.ga,h.co⟩
theorem KSV.co_ (h:KSV k) {co:List CoS} (h1:co.length=k.co.length):KSV {k with co:=co}:=⟨h.n,h.th1,h.th2,h.rq,h.tmn,h.tml,h.tmt,h.ir1,h.ir2,h.rt1,h.rt2,h.wk1,h.wk2,h.wk3,h.ca,h.st,h.ga,h1.trans h.co⟩
theorem KSV.rest_ (h:KSV k) (on ac:BV) (lim:Int) (sp:BV×BV) (dk:DkS):KSV {k with on:=on,ac:=ac,lim:=lim,sp:=sp,dk:=dk}:=⟨h.n,h.th1,h.th2,h.rq,h.tmn,h.tml,h.tmt,h.ir1,h.ir2,h.rt1,h.rt2,h.wk1,h.wk2,h.wk3,h.ca,h.st,h.ga,h.co⟩
theorem KSV.dk_ (h:KSV k) (dk:DkS):KSV {k with dk:=dk}:=h.rest_ k.on k.ac k.lim k.sp dk
theorem tm_arm (x:TmS) (c d:Int):(armS x c d).n=x.n/\(armS x c d).t.length=x.t.length/\(armS x c d).now=x.now:=by
 unfold armS
 repeat' split
 all_goals simp
theorem tm_cancel (x:TmS) (c:Int):(cancelS x c).n=x.n/\(cancelS x c).t.length=x.t.length/\(cancelS x c).now=x.now:=by
 unfold cancelS delT
 split<;>simp
theorem tm_fire (x:TmS) (c:Int):(fireS x c).n=x.n/\(fireS x c).t.length=x.t.length/\(fireS x c).now=x.now:=by
 unfold fireS delT
 repeat' split
 all_goals simp
theorem tm_move (x:TmS) (c d:Int):(tmMoveS x c d).n=x.n/\(tmMoveS x c d).t.length=x.t.length/\(tmMoveS x c d).now=x.now:=by
 unfold tmMoveS
 repeat' split
 all_goals simp
theorem ir_put (s:IrS) (n:Int) (q:Iq):(iput s n q).1=s.1/\(iput s n q).2.length=s.2.length:=by unfold iput;simp
theorem KSV.irp (h:KSV k) (n:Int) (q:Iq):KSV {k with ir:=iput k.ir n q}:=h.ir_ (ir_put ..).1 (ir_put ..).2
theorem co_len (co:List CoS) (c a b:Int):(coRestS co c a b).length=co.length/\(coWakeS co c a).length=co.length:=by
 unfold coRestS coWakeS
 constructor<;>split<;>simp
theorem KSV.putK' (h:KSV k) (id near:Int):KSV (putK k id near):=(h.rq_ (h.rq.put' _ _ _)).th_ (plS_fst ..) (plS_len ..)
theorem KSV.mendK' (h:KSV k) (id:Int):KSV (mendK k id):=by
 unfold Dav.mendK
 split
 ·exact h
 ·exact(h.rq_ (h.rq.take id)).putK' _ _
theorem KSV.leadK' (h:KSV k) (n near:Int):KSV (leadK k n near):=h.rt_ (setS_fst ..).1 (setS_fst ..).2
theorem KSV.aimK' (h:KSV k) (n:Int):KSV (aimK k n):=by
 unfold Dav.aimK
 split
 ·exact h.leadK' _ _
 ·exact h
theorem KSV.quietK' (h:KSV k) (t:Int):KSV (quietK k t):=(h.tm_ (tm_cancel ..).1 (tm_cancel ..).2.1 (tm_cancel ..).2.2).own_ _
theorem KSV.wakeK' (h:KSV k) (id:Int):KSV (wakeK k id):=(h.th_ (waS_fst ..) (waS_len ..)).putK' _ _
end
theorem KSV.mends:∀{k:K} (l:List Int),KSV k->KSV (l.foldl mendK k)
 | k,[],h=>h
 | k,a::l,h=>KSV.mends l (h.mendK' a)
theorem KSV.aims:∀{k:K} (l:List Int),KSV k->KSV (l.foldl aimK k)
 | k,[],h=>h
 | k,a::l,h=>KSV.aims l (h.aimK' a)
theorem KSV.leads (c:Int):∀{k:K} (l:List Int),KSV k->KSV (l.foldl (fun k n=>Dav.leadK k n c) k)
 | k,[],h=>h
 | k,a::l,h=>KSV.leads c l (h.leadK' a c)
section
variable {k:K}
theorem later_at {a d:Int} (h:(laterE a d).2=0):tickR a/\0<=d/\(laterE a d).1=a+d/\tickR (a+d):=by
 unfold laterE at h⊢
 unfold tickR
 split at h
 ·rename_i h1
  split at h
  ·rename_i h2
   rw[if_pos h1,if_pos h2]
   exact⟨h1.1,h1.2.1,rfl,by omega,by omega⟩
  ·cases h
 ·cases h
theorem KSV.tick (h:KSV k) (n:Int):KSV (tickK k n):=by
 unfold tickK
 split
 ·rename_i h0
  obtain⟨_,p1,p2,p3⟩:=later_at h0
  have e:goS k.tm (laterE k.now n).1={k.tm with now:=(laterE k.now n).1}:=by
   unfold goS goE
   rw[if_pos (by rw[if_pos ⟨by rw[h.tmt];omega,by rw[p2];exact p3⟩])]
  rw[e]
  exact⟨h.n,h.th1,h.th2,h.rq,h.tmn,h.tml,rfl,h.ir1,h.ir2,h.rt1,h.rt2,h.wk1,h.wk2,h.wk3,h.ca,h.st,h.ga,h.co⟩
 ·exact h
theorem KSV.spawn (h:KSV k) (p:Int) (m:BV):KSV (spawnK k p m):=by
 unfold spawnK
 split
 ·exact(h.th_ (spS_fst ..) (spS_len ..)).putK' _ _
 ·exact h.th_ (spS_fst ..) (spS_len ..)
theorem KSV.sleep (h:KSV k) (id:Int) (x:Th) (n:Int):KSV (sleepK k id x n):=by
 unfold sleepK
 split
 ·have h1:=h.tm_ (tm_arm k.tm (sleepC k x) (laterE k.now n).1).1 (tm_arm k.tm (sleepC k x) (laterE k.now n).1).2.1 (tm_arm k.tm (sleepC k x) (laterE k.now n).1).2.2
  split
  ·exact((h1.own_ _).rq_ (h.rq.take id)).th_ (slpS_fst ..) (slpS_len ..)
  ·exact h1
 ·exact h
theorem KSV.exit (h:KSV k) (id:Int) (x:Th):KSV (exitK k id x):=by
 unfold exitK
 split
 ·exact(h.quietK' _).th_ (exS_fst ..) (exS_len ..)
 ·exact(h.rq_ (h.rq.take id)).th_ (exS_fst ..) (exS_len ..)
theorem KSV.thr (h:KSV k) (e:Evt):KSV (thrK k e):=by
 unfold thrK
 dsimp only
 repeat' split
 ·exact h
 ·exact h
 ·exact h.exit _ _
 ·exact(h.th_ (aiS_fst ..) (aiS_len ..)).mendK' _
 ·exact h.th_ (aiS_fst ..) (aiS_len ..)
 ·exact h
 ·exact h.sleep _ _ _
 ·exact h.rq_ (h.rq.back _)
 ·exact(h.quietK' _).wakeK' _
theorem KSV.irq (h:KSV k) (e:Evt):KSV (irqK k e):=by
 have hr:KSV {k with ir:=reqS k.ir e.2.2.1 e.2.2.2.1}:=by unfold reqS;split;exact h.irp _ _;exact h
 have hf:KSV {k with ir:=freeS k.ir e.2.2.1}:=by unfold freeS;split;exact h.irp _ _;exact h
 have ha:KSV {k with ir:=aimS k.ir e.2.2.1 e.2.2.2.1}:=by unfold aimS;split;exact h.irp _ _;exact h
 have hh:∀b,KSV {k with ir:=hushS k.ir e.2.2.1 b}:=fun b=>by unfold hushS;split;exact h.irp _ _;exact h
 have hx:KSV {k with ir:=raiseS k.ir e.2.2.1}:=by unfold raiseS;split;exact h.irp _ _;exact h
 unfold irqK
 repeat' split
 ·exact hr.leadK' _ _
 ·exact hr
 ·exact hf.rt_ (offS_fst ..).1 (offS_fst ..).2
 ·exact hf
 ·exact ha.aimK' _
 ·exact ha
 ·exact hh _
 ·exact hh _
 ·exact hx
theorem st_alloc (x:KS) (c:Int):(allocS x c).2.length=x.2.length:=by unfold allocS;split<;>simp
theorem st_give (x:KS) (c v:Int):(sgiveS x c v).2.length=x.2.length:=by unfold sgiveS;split<;>simp
theorem st_drain (x:KS) (c:Int):(drainS x c).2.length=x.2.length:=by unfold drainS;split<;>simp
theorem ca_send (x:CS) (c:Int):(sendS x c).2.length=x.2.length:=by
 unfold sendS
 repeat' split
 all_goals simp
theorem ca_take (x:CS) (c:Int):(tkS x c).2.length=x.2.length:=by
 unfold tkS
 repeat' split
 all_goals simp
theorem ca_move (x:CS) (c d:Int):(mvS x c d).2.length=x.2.length:=by
 unfold mvS popB
 repeat' split
 all_goals simp
theorem KSV.arm (h:KSV k) (c n:Int):KSV (armKS k c n):=by
 unfold armKS
 split
 ·exact h.tm_ (tm_arm ..).1 (tm_arm ..).2.1 (tm_arm ..).2.2
 ·exact h
theorem KSV.plc (h:KSV k) (e:Evt):KSV (plcK k e):=by
 unfold plcK
 repeat' split
 ·exact h
 ·exact h.arm _ _
 ·exact h.wk_ (h.wks.queue _)
 ·exact h.ca_ (ca_send ..)
 ·exact h.st_ (st_alloc ..)
 ·exact h.st_ (st_give ..)
 ·refine h.ga_ ?_
  unfold entS;split<;>simp
theorem KSV.bal (h:KSV k):KSV (balK k):=by
 unfold balK
 repeat' split
 ·exact h
 ·exact(h.rq_ ((h.rq.take _).put' _ _ _)).th_ (plS_fst ..) (plS_len ..)
 ·exact h
theorem KSV.request (h:KSV k) (up:Bool) (c:Int):KSV (reqKS k up c):=by
 unfold reqKS
 repeat' split
 any_goals exact h
 have e:(wanS k.ga).1.length=k.ga.1.length:=by unfold wanS;split<;>rfl
 exact(h.ga_ e).dk_ _
theorem KSV.cancel (h:KSV k) (id:Int):KSV (cancelKS k id):=by
 unfold cancelKS
 repeat' split
 any_goals exact h
 exact h.tm_ (tm_cancel ..).1 (tm_cancel ..).2.1 (tm_cancel ..).2.2
theorem KSV.rst (h:KSV k) (e:Evt):KSV (rstK k e):=by
 unfold rstK
 repeat' split
 ·exact h.cancel _
 ·exact h
 ·exact h.dk_ _
 ·refine h.ga_ ?_
  unfold leaS;split<;>simp
 ·unfold limK
  split
  ·exact h.rest_ k.on k.ac _ k.sp k.dk
  ·exact h
 ·exact h
 ·exact h.bal
 ·exact h
theorem KSV.fire (h:KSV k) (c:Int):KSV (fireK k c):=by
 have h1:KSV {k with tm:=fireS k.tm c,own:=ownDel k.own (fireE k.tm c).1}:=(h.tm_ (tm_fire ..).1 (tm_fire ..).2.1 (tm_fire ..).2.2).own_ _
 unfold fireK
 dsimp only
 split
 ·exact h1.wakeK' _
 ·exact h1
theorem KSV.thing (h:KSV k) (c w:Int):KSV (thingK k c w):=by
 unfold thingK
 repeat' split
 ·exact h.ca_ (ca_take ..)
 ·unfold clearS;split
  ·exact h.irp _ _
  ·exact h
 ·exact h.fire _
 ·exact h.wk_ (h.wks.take _)
 ·exact h.rq_ (h.rq.pick _)
theorem KSV.undo (h:KSV k) (u:Bool) (s c:Int):KSV (undoK k u s c):=by
 unfold undoK
 repeat' split
 ·exact h.co_ (coPow_len ..)
 ·exact h.rest_ k.on _ k.lim k.sp k.dk
 ·exact h
theorem KSV.come (h:KSV k) (s c:Int):KSV (comeK k s c):=by
 unfold comeK
 repeat' split
 ·exact h.co_ (coPow_len ..)
 ·exact h.st_ (st_drain ..)
 ·exact KSV.aims _ (KSV.mends _ (h.rest_ _ _ k.lim k.sp k.dk))
theorem KSV.leave (h:KSV k) (s c w:Int):KSV (leaveK k s c w):=by
 unfold leaveK
 repeat' split
 ·exact h.rest_ k.on _ k.lim k.sp k.dk
 ·unfold emptyK
  split
  ·exact h
  ·exact(h.rq_ (h.rq.take _)).putK' _ _
 ·exact h.tm_ (tm_move ..).1 (tm_move ..).2.1 (tm_move ..).2.2
 ·exact h.wk_ (h.wks.unbind _)
 ·exact h.ca_ (ca_move ..)
 ·unfold haltK
  repeat' split
  ·exact h.rest_ k.on k.ac k.lim _ k.dk
  ·have h1:=KSV.leads c (onL k.rt c) h
   exact h1.rest_ _ _ _ _ _
  ·exact h
 ·exact h.st_ (st_drain ..)
 ·exact h
 ·exact KSV.co_ (h.rest_ (ls k.on c) k.ac k.lim k.sp k.dk) (coPow_len k.co c false)
theorem KSV.stage (h:KSV k) (s:Int×Bool×Bool) (c w:Int):KSV (stageK k s c w):=by
 unfold stageK
 repeat' split
 ·exact h.undo _ _ _
 ·refine h.ga_ ?_
  unfold gtkS;split<;>rfl
 ·exact h.come _ _
 ·exact h.leave _ _ _
theorem KSV.turn (h:KSV k) (w:Int):KSV (turnK k w):=by
 have h1:KSV (turn1 k w):=by
  unfold turn1
  dsimp only
  split
  ·exact h.dk_ _
  ·split
   ·exact((h.dk_ _).stage _ _ _).dk_ _
   ·exact(h.dk_ _).stage _ _ _
 unfold turnK
 split
 ·exact KSV.ga_ (h1.dk_ (endS (turn1 k w).dk)) (ga:=gfrS (turn1 k w).ga) rfl
 ·exact h1
theorem KSV.step (h:KSV k) (c:Int):KSV (stepK k c):=by
 unfold stepK
 repeat' split
 ·exact h
 ·exact h.co_ (co_len k.co c k.now 0).2
 ·exact h.rest_ k.on k.ac k.lim _ k.dk
 ·exact h.turn _
 ·exact h.co_ (co_len ..).1
 ·exact h.thing _ _
theorem KSV.do_ (h:KSV k) (e:Evt):KSV (doK k e):=by
 unfold doK
 repeat' split
 ·exact h
 ·exact h.step _
 ·exact h.tick _
 ·exact h.spawn _ _
 ·exact h.thr _
 ·exact h.irq _
 ·exact h.wk_ (h.wks.queue _)
 ·exact h.plc _
 ·exact h.plc _
 ·exact h.request _ _
 ·exact h.rst _
end
end Go.Dav
namespace Go.Dav
section
variable {k:K}
end
theorem newS {n:Nat} (hn:1<=n/\n<=64):KSV (newK' n):=by
 have hm:∀(i:Nat) (j:Int),memQ (List.replicate n ((32:Nat),([]:Its))) i j=false:=by
  intro i j
  cases hh:memQ (List.replicate n ((32:Nat),([]:Its))) i j with
  | false=>rfl
  | true=>
   have hi:=memQ_lt hh
   rw[memQ_at hi]at hh
   simp[inE]at hh
 have hwk:∀v,ct (newQ n) v=0:=fun v=>by unfold newQ;exact ct_new _ _
 refine⟨hn,rfl,by simp[newK'],⟨by simp[newK'],fun j a b h1 h2=>?_,fun q hq=>?_⟩,rfl,by simp[newK'],rfl,rfl,by simp[newK'],rfl,by simp[newK'],by simp[newK',newQ],fun v=>?_,fun v hv=>?_,by simp[newK',newC],by simp[newK',Dav.newK],by simp[newK'],by simp[newK']⟩
 ·have:=hm a j
  rw[show(newK' n).rq=List.replicate n (32,[])from rfl]at h1
  rw[this]at h1;cases h1
 ·rw[show(newK' n).rq=List.replicate n (32,[])from rfl]at hq
  obtain⟨_,rfl⟩:=List.mem_replicate.1 hq
  exact⟨PqV.new (by omega),rfl⟩
 ·rw[show(newK' n).wk=newQ n from rfl,hwk];omega
 ·rw[show(newK' n).wk=newQ n from rfl,hwk]at hv;omega
end Go.Dav
namespace Go.Dav
def alv0:K:=newK' 2
def evA:Evt:=(3,0,2,3,0)
def evB:Evt:=(1,1,0,0,0)
def evC':Evt:=(24,1,0,0,0)
def alv1:K:=doK alv0 evA
def alv2:K:=doK alv1 evB
def alv3:K:=doK alv2 evC'
def alvS:Nat->K
 | 0=>alv3
 | n+1=>doK (alvS n) (1,((n%2:Nat):Int),0,0,0)
theorem alvA:doR alv0 evA=[(1,0,1,0,0)]:=by kernel_rfl
theorem alvB:doR alv1 evB=[(2,1,1,0,0)]:=by kernel_rfl
theorem alvC:doR alv2 evC'=[(1,0,0,0,0)]:=by kernel_rfl
theorem alvK:(alvS 40).on=1:=by kernel_rfl
theorem alv0S:KSV alv0:=newS ⟨by omega,by omega⟩
theorem alv1S:KSV alv1:=alv0S.do_ evA
theorem alv2S:KSV alv2:=alv1S.do_ evB
theorem alvSS:∀n,KSV (alvS n)
 | 0=>alv2S.do_ evC'
 | n+1=>(alvSS n).do_ _
end Go.Dav
namespace Go.Dav
open Go.Proofs
theorem Turn.leftG {σ τ:Type} {A:Ob σ} {B:Ob τ} [fb:Frame B] {W w:World} {F:Fp} {x:σ×τ} (hTab:Tab W) (h0:¬F 0) (h:Turn (Star A B) W w F x) :
  ∃F1,A w F1 x.1/\Tab w/\¬F1 0/\∀{υ:Type} (A':Ob υ) w' s',Turn A' w w' F1 s'->Turn (Star A' B) W w' F (s',x.2):=by
 have hp:=hTab.pos
 have ht:=h.tab hTab h0
 obtain⟨F',h1,h2,h3⟩:=h
 obtain⟨F1,F2,a1,a2,a3,a4⟩:=h1
 refine⟨F1,a1,ht,fun hh=>?_,?_⟩
 ·rcases h3 0 ((a3 0).2 (.inl hh))with k|k
  ·exact h0 k
  ·omega
 ·rintro υ A' w' s' ⟨G1,k1,k2,k3⟩
  refine⟨fun i=>G1 i∨F2 i,⟨G1,F2,k1,fb.upd a2 k2 (fun i hi hf=>a4 i hf hi),fun _=>Iff.rfl,fun i hi hf=>?_⟩,h2.trans k2 (fun i hi hf=>(h3 i ((a3 i).2 (.inl hf))).elim id (fun h=>absurd h (by omega))),fun i hi=>?_⟩
  ·rcases k3 i hi with h|h
   ·exact a4 i h hf
   ·have:=fb.lt a2 i hf;omega
  ·rcases hi with hi|hi
   ·rcases k3 i hi with h|h
    ·exact h3 i ((a3 i).2 (.inl h))
    ·exact .inr (Nat.le_trans h2.size h)
   ·exact h3 i ((a3 i).2 (.inr hi))
theorem rcE_len (x:Rc):(rcE_Kdo x).length=5:=rfl
theorem few_ok (n:Int) {p:Option Addr} {m c:Nat} (w:World):Calls Tryz.prog 9 #[.int .i64 n,.slice p m c] w fun e w'=>e=.returned (.bool (decide (1<=n/\n<=9/\m<=300)))/\w'=w:=by
 refine u9 ?_
 rw[t9]
 refine⟨fun g=>⟨fun g2=>⟨?_,rfl⟩,fun g2=>⟨?_,rfl⟩⟩,fun g=>⟨?_,rfl⟩⟩
 ·have:=of_decide_eq_true g;have:=of_decide_eq_true g2
  have e:decide ((m:Int)<=300)=decide (1<=n/\n<=9/\m<=300):=decide_eq_decide.2 (by omega)
  rw[e]
 ·have:=of_decide_eq_false g2
  rw[decide_eq_false (by omega)]
 ·have:=of_decide_eq_false g
  rw[decide_eq_false (by omega)]
set_option maxRecDepth 100000 in
theorem eqRc (x y:Rc) (w:World):∃b,(Op.equal 43 (.agg #[.int .i64 x.1,.int .i64 x.2.1,.int .i64 x.2.2.1,.int .i64 x.2.2.2.1,.int .i64 x.2.2.2.2]) (.agg #[.int .i64 y.1,.int .i64 y.2.1,.int .i64 y.2.2.1,.int .i64 y.2.2.2.1,.int .i64 y.2.2.2.2])).run Tryz.prog w=.ok b w/\(b=true↔x=y):=by
 have h1:Tryz.prog.stoodInHeld 43=false:=by kernel_rfl
 have h2:flatF Tryz.prog (Tryz.prog.fieldsOf 43).toList 0 (rcE_Kdo x)=true:=by kernel_rfl
 have h3:isStr Tryz.prog 43=true:=by kernel_rfl
 have h4:sameL (rcE_Kdo x) (rcE_Kdo y)=true:=rfl
 have h5:=run_eq_struct (rcE_Kdo x) h1 h2 h3 (vs:=rcE_Kdo y) h4 w
 unfold rcE_Kdo at h5
 refine⟨_,h5,?_⟩
 simp only[eqL,scEq,Bool.and_true,Bool.and_eq_true,beq_iff_eq]
 constructor
 ·rintro⟨h1,h2,h3,h4,h5⟩
  exact Prod.ext h1 (Prod.ext h2 (Prod.ext h3 (Prod.ext h4 h5)))
 ·rintro rfl;exact⟨rfl,rfl,rfl,rfl,rfl⟩
theorem rsame_ok {w:World} {p q:Option Addr} {l m:List Rc} {c d:Nat} (h:Cells w p (l.flatMap rcE_Kdo)) (k:Cells w q (m.flatMap rcE_Kdo)) (hb:l.length<=1000) :
  Calls Tryz.prog 59 #[.slice p l.length c,.slice q m.length d] w fun e w'=>e=.returned (.bool (decide (l=m)))/\Upd no w w':=by
 refine u59 ?_
 rw[t59]
 refine⟨fun g=>⟨?_,Upd.refl _ _⟩,fun g=>?_⟩
 ·have:l≠m:=fun e=>by subst e;simp at g
  simp[this]
 ·have hl:l.length=m.length:=by simp at g;omega
  refine⟨WP_loop okProg (M:=M59) (σ:=Nat) (fun i=>e59_1 p l.length c q m.length d i) (fun i w'=>i<=l.length/\l.take i=m.take i/\Upd no w w') (fun i _=>l.length-i) 0 ⟨rfl,rfl,rfl,trivial⟩ ⟨by omega,by simp,Upd.refl _ _⟩ ?_⟩
  intro i w1 hI
  have h1:=hI.1
  have h2:=hI.2.1
  have hU:=hI.2.2
  rw[t59_1]
  refine⟨fun hlt w2 q1 q2 q3 q4=>?_,fun hge=>⟨?_,hU⟩⟩
  ·have hi:i<l.length:=by simpa using hlt
   have hi':i<m.length:=by omega
   have hU2:=hU.trans (Upd.same no q1 q2 q3 q4) (fun _ _ h=>h)
   obtain⟨a,ha,hc⟩:=(h.no hU2).atk rcE_len (by decide) hi
   obtain⟨b,hb,hc'⟩:=(k.no hU2).atk rcE_len (by decide) hi'
   obtain⟨bb,he,hbb⟩:=eqRc l[i] m[i] w2
   refine⟨⟨by omega,by omega⟩,a,ha,_,hc 0 _ rfl,_,hc 1 _ rfl,_,hc 2 _ rfl,_,hc 3 _ rfl,_,hc 4 _ rfl,⟨by omega,by omega⟩,b,hb,_,hc' 0 _ rfl,_,hc' 1 _ rfl,_,hc' 2 _ rfl,_,hc' 3 _ rfl,_,hc' 4 _ rfl,bb,he,rfl,fun g2=>⟨?_,hU2⟩,fun g2=>?_⟩
   ·have:l≠m:=fun e=>by
     have:bb=true:=hbb.2 (by simp only[e])
     rw[this]at g2;cases g2
    simp[this]
   ·have he:l[i]=m[i]:=hbb.1 (by simpa using g2)
    exact⟨i+1,⟨rfl,rfl,by rw[w64 (by omega)];rfl,trivial⟩,⟨by omega,by rw[List.take_succ_eq_append_getElem hi,List.take_succ_eq_append_getElem hi',h2,he],hU2⟩,by omega⟩
  ·have:i=l.length:=by simp at hge;omega
   subst this
   rw[List.take_length,hl,List.take_length]at h2
   simp[h2]
theorem RcL.cells {p:Option Addr} {c:Nat} {w:World} {F:Fp} {rs:List Rc} (h:RcL p c w F rs):Cells w p (rs.flatMap rcE_Kdo):=h.2.cells
theorem konline_ok {b:Nat} {W w:World} {F:Fp} {k:K} (h:Turn (KO b) W w F k):Calls Tryz.prog 22 #[.pointer (some ⟨b,0,none⟩)] w fun e w'=>e=.returned (.int .u64 (mi k.on))/\w'=w:=by
 obtain⟨q,hq⟩:=KO.fix h
 refine u22 ?_
 rw[t22]
 exact⟨fun g=>(by cases g),fun _=>⟨_,rfl,_,(KF.blk hq).cell rfl,rfl,rfl⟩⟩
theorem alive_ok {w:World} (hTab:Tab w):Calls Tryz.prog 10 #[] w fun e w'=>e=.returned (.bool true)/\Upd no w w':=by
 refine u10 ?_
 rw[t10]
 refine⟨(knew_ok 2 ⟨by omega,by omega⟩ w).mono ?_⟩
 rintro e w1 ⟨b,F,rfl,hK,hU,hF⟩
 have hT1:Tab w1:=hTab.no hU
 have h0:¬F 0:=fun hh=>by have:=hF 0 hh;have:=hTab.pos;omega
 refine⟨_,_,rfl,fun _=>⟨fun g=>(by cases g),fun _=>⟨(kdo_ok (k:=alv0) (e:=evA) hT1 h0 (Turn.same hK) alv0S.tmt).mono ?_⟩⟩,fun g=>by simp at g⟩
 rintro e w2 ⟨pa,ca,rfl,hA⟩
 obtain⟨F2,hK2,hT2,h02,k2⟩:=hA.leftG hT1 h0
 refine⟨_,_,_,rfl,⟨(kdo_ok (k:=alv1) (e:=evB) hT2 h02 (Turn.same hK2) alv1S.tmt).mono ?_⟩⟩
 rintro e w3 ⟨pb,cb,rfl,hB⟩
 replace hB:=k2 _ _ _ hB
 obtain⟨F3,hS3,hT3,h03,k3⟩:=hB.leftG hT1 h0
 obtain⟨F4,hK4,hT4,h04,k4⟩:=(Turn.same hS3).leftG hT3 h03
 refine⟨_,_,_,rfl,⟨(kdo_ok (k:=alv2) (e:=evC') hT4 h04 (Turn.same hK4) alv2S.tmt).mono ?_⟩⟩
 rintro e w4 ⟨pc,cc,rfl,hC⟩
 replace hC:=k3 _ _ _ (k4 _ _ _ hC)
 refine⟨_,_,_,rfl,⟨WP_loop okProg (M:=M10) (σ:=Nat) (fun i=>e10_1 (some ⟨b,0,none⟩) pa _ ca pb _ cb pc _ cc (i:Int)) (fun i w'=>i<=40/\Turn (Star (Star (Star (KO b) (RcL pc cc)) (RcL pb cb)) (RcL pa ca)) w1 w' F (((alvS i,doR alv2 evC'),doR alv1 evB),doR alv0 evA)) (fun i _=>40-i) 0 ⟨rfl,rfl,rfl,rfl,rfl,trivial⟩ ⟨by omega,hC⟩ ?_⟩⟩
 rintro i w5 ⟨hi,hS⟩
 rw[t10_1]
 refine⟨fun g=>?_,fun g=>CutD.mk ?_⟩
 ·have g:=of_decide_eq_true g
  obtain⟨F5,hS5,hT5,h05,k5⟩:=hS.leftG hT1 h0
  obtain⟨F6,hS6,hT6,h06,k6⟩:=(Turn.same hS5).leftG hT5 h05
  obtain⟨F7,hK7,hT7,h07,k7⟩:=(Turn.same hS6).leftG hT6 h06
  have em:Int.tmod (i:Int) 2=((i%2:Nat):Int):=by rw[Int.tmod_eq_emod_of_nonneg (by omega)];omega
  rw[em]
  refine⟨by omega,⟨(kdo_ok (k:=alvS i) (e:=(1,((i%2:Nat):Int),0,0,0)) hT7 h07 (Turn.same hK7) (alvSS i).tmt).mono ?_⟩⟩
  rintro e w6 ⟨pd,cd,rfl,hD⟩
  exact⟨_,_,_,rfl,i+1,⟨rfl,rfl,rfl,rfl,by rw[w64 (by omega)];rfl,trivial⟩,⟨by omega,k5 _ _ _ (k6 _ _ _ (k7 _ _ _ hD.drop))⟩,by omega⟩
 ·have g:=of_decide_eq_false g
  have e40:i=40:=by omega
  subst e40
  rw[t10_0]
  have hRa:Cells w5 pa ((doR alv0 evA).flatMap rcE_Kdo):=by obtain⟨_,hR,_⟩:=hS.right;exact hR.cells
  have hRb:Cells w5 pb ((doR alv1 evB).flatMap rcE_Kdo):=by obtain⟨_,hR,_⟩:=hS.drop.right;exact hR.cells
  have hRc:Cells w5 pc ((doR alv2 evC').flatMap rcE_Kdo):=by obtain⟨_,hR,_⟩:=hS.drop.drop.right;exact hR.cells
  have hD:=hS.drop.drop.drop
  have hUF:Upd no w w5:=by
   obtain⟨F',_,hU5,_⟩:=hS
   exact hU.trans hU5 (fun i hi hf=>by have:=hF i hf;omega)
  rw[alvA]at hRa
  rw[alvB]at hRb
  rw[alvC]at hRc
  rw[alvA,alvB,alvC]
  have one:∀{u:World} {r:Rc} {u':World},Newed u u' (.cells (List.toArray (rcE_Kdo r)) 43 (0,0))->Cells u' (some ⟨u.heap.size,0,none⟩) ([r].flatMap rcE_Kdo):=fun hN=>(Sl.new hN (sz:=5) (n:=1) rfl (show(1:Nat)<=maxLen by unfold maxLen;omega)).cells
  refine⟨fun w6 hN6=>⟨(rsame_ok (l:=[(1,0,1,0,0)]) (m:=[(1,0,1,0,0)]) (hRa.no (hN6.upd no)) (one (r:=(1,0,1,0,0)) hN6) (by simp)).mono ?_⟩⟩
  rintro e w7 ⟨rfl,hU7⟩
  have hU67:=(hN6.upd no).trans hU7 (fun _ _ h=>h)
  refine⟨_,rfl,fun _=>⟨fun w8 hN8=>⟨(rsame_ok (l:=[(2,1,1,0,0)]) (m:=[(2,1,1,0,0)]) (hRb.no (hU67.trans (hN8.upd no) (fun _ _ h=>h))) (one (r:=(2,1,1,0,0)) hN8) (by simp)).mono ?_⟩⟩,fun g=>by simp at g⟩
  rintro e w9 ⟨rfl,hU9⟩
  have hU69:=(hU67.trans (hN8.upd no) (fun _ _ h=>h)).trans hU9 (fun _ _ h=>h)
  refine⟨_,rfl,fun _=>⟨fun w10 hN10=>⟨(rsame_ok (l:=[(1,0,0,0,0)]) (m:=[(1,0,0,0,0)]) (hRc.no (hU69.trans (hN10.upd no) (fun _ _ h=>h))) (one (r:=(1,0,0,0,0)) hN10) (by simp)).mono ?_⟩⟩,fun g=>by simp at g⟩
  rintro e w11 ⟨rfl,hU11⟩
  have hUall:=(hU69.trans (hN10.upd no) (fun _ _ h=>h)).trans hU11 (fun _ _ h=>h)
  refine⟨_,rfl,fun _=>⟨(konline_ok (hD.upd hUall)).mono ?_⟩,fun g=>by simp at g⟩
  rintro e w12 ⟨rfl,rfl⟩
  refine⟨_,rfl,?_,hUF.trans hUall (fun _ _ h=>h)⟩
  rw[alvK]
  rfl
end Go.Dav
namespace Go.Dav
open Go.Proofs
theorem knewNo_ok (n:Int) (hn:¬(1<=n/\n<=64)) (w:World):Calls Tryz.prog 8 #[.int .i64 n] w fun e w'=>e=.returned (.tuple #[.pointer none,.int .i64 2])/\w'=w:=by
 refine u8 ?_
 rw[t8]
 refine⟨fun g=>⟨fun _=>⟨rfl,rfl⟩,fun g2=>?_⟩,fun _=>⟨rfl,rfl⟩⟩
 have g:=of_decide_eq_false g
 have g2:=of_decide_eq_false g2
 exact absurd ⟨by omega,by omega⟩ hn
theorem kqueues_ok {b:Nat} {W w:World} {F:Fp} {k:K} (h:Turn (KO b) W w F k) :
  Calls Tryz.prog 13 #[.pointer (some ⟨b,0,none⟩)] w fun e w'=>∃r,e=.returned (.pointer (some ⟨r,0,none⟩))/\Upd no w w'/\∃F1,RqO r w' F1 k.rq:=by
 obtain⟨q,hq⟩:=KO.fix h
 refine u13 ?_
 rw[t13]
 refine⟨u72 ?_⟩
 rw[t72]
 refine⟨fun w1 hN=>⟨fun g=>(by cases g),fun _=>?_⟩⟩
 have hB:=KF.blk (hq.upd (hN.upd no))
 unfold kCells at hB
 refine⟨_,rfl,_,hB.cell2 rfl,_,hB.cell2 rfl,_,hB.cell2 rfl,_,hB.cell2 rfl,_,hB.cell2 rfl,_,hB.cell2 rfl,_,hB.cell2 rfl,_,hB.cell2 rfl,_,hB.cell2 rfl,_,hB.cell2 rfl,_,hB.cell2 rfl,_,hB.cell2 rfl,_,hB.cell2 rfl,_,hB.cell2 rfl,_,_,_,hB.cell2 rfl,?_⟩
 refine hN.blk'.wr0 (by simp) fun w2 hW=>?_
 have hU:Upd no w w2:=(hN.upd no).trans (Upd.mono (G:=fun i=>i=w.heap.size) hW.U (fun _ _ h=>h)) (fun i hi h=>by omega)
 have hL:=hW.blk'
 refine⟨_,hL.cell rfl,_,hL.cell rfl,_,hL.cell rfl,_,hL.cell rfl,_,hL.cell rfl,_,hL.cell rfl,_,hL.cell rfl,_,hL.cell rfl,_,hL.cell rfl,_,hL.cell rfl,_,hL.cell rfl,_,hL.cell rfl,_,hL.cell rfl,_,hL.cell rfl,_,_,_,hL.cell rfl,_,_,_,_,_,_,_,_,_,_,_,_,_,_,_,_,_,rfl,q.rq,rfl,hU,?_⟩
 obtain⟨F1,hR,_⟩:=KF.rq (hq.upd hU)
 exact⟨F1,hR⟩
end Go.Dav
namespace Go.Dav
def ldOfN (ld:List Int) (m:BV) (n:Nat):List Int:=((List.range n).filter fun c:Nat=>hs m (c:Int)).map fun c=>ld.getD c 0
theorem ldOfN_succ (ld:List Int) (m:BV) (n:Nat):ldOfN ld m (n+1)=if hs m (n:Int)then ldOfN ld m n++[ld.getD n 0]else ldOfN ld m n:=by
 unfold ldOfN
 rw[List.range_succ,List.filter_append]
 cases h:hs m (n:Int)<;>simp[h]
theorem ldOfN_len (ld:List Int) (m:BV) (n:Nat):(ldOfN ld m n).length<=n:=by
 unfold ldOfN
 rw[List.length_map]
 exact Nat.le_trans (List.length_filter_le _ _) (by simp)
def mxL (a:Int) (l:List Int):Int:=l.foldl (fun x y=>if y>x then y else x) a
def mnL (a:Int) (l:List Int):Int:=l.foldl (fun x y=>if y<x then y else x) a
theorem mxL_snoc (a:Int) (l:List Int) (y:Int):mxL a (l++[y])=if y>mxL a l then y else mxL a l:=by unfold mxL;rw[List.foldl_append];rfl
theorem mnL_snoc (a:Int) (l:List Int) (y:Int):mnL a (l++[y])=if y<mnL a l then y else mnL a l:=by unfold mnL;rw[List.foldl_append];rfl
theorem mxL_in (a:Int) (l:List Int):mxL a l∈a::l:=by
 unfold mxL
 induction l generalizing a with
 | nil=>simp
 | cons y l ih=>
  rw[List.foldl_cons]
  have:=ih (if y>a then y else a)
  split at this
  ·rename_i h
   rw[if_pos h]
   exact List.mem_cons_of_mem _ this
  ·rename_i h
   rw[if_neg h]
   rcases List.mem_cons.1 this with h|h
   ·rw[h];simp
   ·exact List.mem_cons_of_mem _ (List.mem_cons_of_mem _ h)
theorem mnL_in (a:Int) (l:List Int):mnL a l∈a::l:=by
 unfold mnL
 induction l generalizing a with
 | nil=>simp
 | cons y l ih=>
  rw[List.foldl_cons]
  have:=ih (if y<a then y else a)
  split at this
  ·rename_i h
   rw[if_pos h]
   exact List.mem_cons_of_mem _ this
  ·rename_i h
   rw[if_neg h]
   rcases List.mem_cons.1 this with h|h
   ·rw[h];simp
   ·exact List.mem_cons_of_mem _ (List.mem_cons_of_mem _ h)
def gapW:List Int->Int
 | []=>0
 | a::l=>IntKind.wrap .i64 (mxL a l-mnL a l)
theorem gapW_le {l:List Int} (h:∀u∈l,∀v∈l,u<=v+1) (hb:∀u∈l,0<=u/\u<=1048576):gapW l<=1:=by
 cases l with
 | nil=>decide
 | cons a l=>
  show IntKind.wrap .i64 (mxL a l-mnL a l)<=1
  have h1:=mxL_in a l
  have h2:=mnL_in a l
  have h3:=h _ h1 _ h2
  have h4:=hb _ h1
  have h5:=hb _ h2
  rw[w64 (by omega)]
  omega
end Go.Dav
namespace Go.Dav
open Go.Proofs
section
variable {w:World}
theorem sloadsOf_ok_Sgap {p:Option Addr} {l:List Int} {c:Nat} (h:Cells w p (l.map (Value.int .i64))) (hl:l.length<=1000) (m:BV) :
  Calls Tryz.prog 75 #[.slice p l.length c,.int .u64 (mi m)] w fun e w'=>∃p' c',e=.returned (.slice p' (ldOfN l m l.length).length c')/\Loc w w' 3 p' c' (ldOfN l m l.length):=by
 refine u75 ?_
 rw[t75]
 refine⟨WP_loop okProg (M:=M75) (σ:=Nat×Option Addr×Nat) (fun s=>e75_1 (mi m) s.2.1 (ldOfN l m s.1).length s.2.2 p l.length c (l.length:Int) (s.1:Int)) (fun s w'=>s.1<=l.length/\Loc w w' 3 s.2.1 s.2.2 (ldOfN l m s.1)) (fun s _=>l.length-s.1) (0,none,0) ⟨rfl,rfl,rfl,rfl,rfl,trivial⟩ ⟨by omega,Loc.nil (Upd.refl _ _) _⟩ ?_⟩
 rintro⟨i,p1,c1⟩ w1 ⟨k1,hL⟩
 simp only at k1 hL⊢
 rw[t75_1]
 refine⟨fun g=>?_,fun g=>?_⟩
 ·have hi:i<l.length:=by simp at g;omega
  obtain⟨a,ha,hc⟩:=(h.no hL.U).at1 hi
  refine⟨⟨by omega,by omega⟩,a,ha,_,hc,⟨(mHas_ok m _ w1).mono ?_⟩⟩
  rintro e w2 ⟨rfl,rfl⟩
  have hs1:=ldOfN_succ l m i
  have e0:l.getD i 0=l[i]:=by simp[hi]
  rw[e0]at hs1
  have hle:=ldOfN_len l m i
  refine⟨_,rfl,fun g1=>⟨fun w3 hN=>?_⟩,fun g1=>?_⟩
  ·rw[if_pos g1]at hs1
   obtain⟨p',c',w4,hr,hL'⟩:=hL.push elI_Lst (by omega) hN 36
   rw[<-hs1]at hr hL'
   exact⟨p',_,c',w4,hr,(i+1,p',c'),⟨rfl,rfl,rfl,rfl,by rw[w64 (by omega)];rfl,trivial⟩,⟨by simp only;omega,hL'⟩,by simp only;omega⟩
  ·rw[if_neg (by simp[g1])]at hs1
   exact⟨(i+1,p1,c1),⟨rfl,by rw[hs1];rfl,rfl,rfl,by rw[w64 (by omega)];rfl,trivial⟩,⟨by simp only;omega,by rw[hs1];exact hL⟩,by simp only;omega⟩
 ·have:i=l.length:=by simp at g;omega
  subst this
  exact⟨p1,c1,rfl,hL⟩
theorem run_max2_Sgap (x y:Int) (w:World):(Builtin.max_ #[3,3] 3 #[.int .i64 x,.int .i64 y]).run Tryz.prog w=.ok (.int .i64 (if y>x then y else x)) w:=by
 simp[Builtin.max_,Builtin.max2]
theorem run_min2_Sgap (x y:Int) (w:World):(Builtin.min_ #[3,3] 3 #[.int .i64 x,.int .i64 y]).run Tryz.prog w=.ok (.int .i64 (if y<x then y else x)) w:=by
 simp[Builtin.min_,Builtin.min2]
set_option maxRecDepth 100000 in
theorem smax_ok_Sgap {p:Option Addr} {v:Int} {l:List Int} {c:Nat} (h:Cells w p ((v::l).map (Value.int .i64))) (hl:l.length<=1000) :
  Calls Tryz.prog 76 #[.slice p (v::l).length c] w fun e w'=>e=.returned (.int .i64 (mxL v l))/\w'=w:=by
 have hlc:(v::l).length=l.length+1:=rfl
 refine u76 ?_
 rw[t76]
 refine⟨fun g=>by simp at g;omega,fun _=>CutD.mk ?_⟩
 rw[t76_0]
 obtain⟨a,ha,hc⟩:=h.at1 (i:=0) (by simp)
 refine⟨⟨by omega,by simp⟩,a,ha,_,hc,⟨WP_loop okProg (M:=M76) (σ:=Nat) (fun j=>e76_2 p (v::l).length c (mxL v (l.take j)) ((j:Int)+1)) (fun j w'=>j<=l.length/\w'=w) (fun j _=>l.length-j) 0 ⟨rfl,rfl,rfl,trivial⟩ ⟨by omega,rfl⟩ ?_⟩⟩
 rintro j w1 ⟨j1,rfl⟩
 rw[t76_2]
 refine⟨fun g=>?_,fun g=>?_⟩
 ·have hj:j<l.length:=by simp at g;omega
  obtain⟨a,ha,hc⟩:=h.at1 (i:=j+1) (by simpa using hj)
  simp only[List.getElem_cons_succ]at hc
  have e1:((j:Int)+1).toNat=j+1:=by omega
  rw[e1]
  refine⟨⟨by omega,by omega⟩,a,ha,_,hc,_,w1,run_max2_Sgap _ _ _,j+1,⟨rfl,?_,?_,trivial⟩,⟨by omega,rfl⟩,by omega⟩
  ·rw[List.take_succ_eq_append_getElem hj,mxL_snoc];rfl
  ·rw[w64 (by omega)];rfl
 ·have:j=l.length:=by simp at g;omega
  subst this
  rw[List.take_length]
  exact⟨rfl,rfl⟩
set_option maxRecDepth 100000 in
theorem smin_ok_Sgap {p:Option Addr} {v:Int} {l:List Int} {c:Nat} (h:Cells w p ((v::l).map (Value.int .i64))) (hl:l.length<=1000) :
  Calls Tryz.prog 77 #[.slice p (v::l).length c] w fun e w'=>e=.returned (.int .i64 (mnL v l))/\w'=w:=by
 have hlc:(v::l).length=l.length+1:=rfl
 refine u77 ?_
 rw[t77]
 refine⟨fun g=>by simp at g;omega,fun _=>CutD.mk ?_⟩
 rw[t77_0]
 obtain⟨a,ha,hc⟩:=h.at1 (i:=0) (by simp)
 refine⟨⟨by omega,by simp⟩,a,ha,_,hc,⟨WP_loop okProg (M:=M77) (σ:=Nat) (fun j=>e77_2 p (v::l).length c (mnL v (l.take j)) ((j:Int)+1)) (fun j w'=>j<=l.length/\w'=w) (fun j _=>l.length-j) 0 ⟨rfl,rfl,rfl,trivial⟩ ⟨by omega,rfl⟩ ?_⟩⟩
 rintro j w1 ⟨j1,rfl⟩
 rw[t77_2]
 refine⟨fun g=>?_,fun g=>?_⟩
 ·have hj:j<l.length:=by simp at g;omega
  obtain⟨a,ha,hc⟩:=h.at1 (i:=j+1) (by simpa using hj)
  simp only[List.getElem_cons_succ]at hc
  have e1:((j:Int)+1).toNat=j+1:=by omega
  rw[e1]
  refine⟨⟨by omega,by omega⟩,a,ha,_,hc,_,w1,run_min2_Sgap _ _ _,j+1,⟨rfl,?_,?_,trivial⟩,⟨by omega,rfl⟩,by omega⟩
  ·rw[List.take_succ_eq_append_getElem hj,mnL_snoc];rfl
  ·rw[w64 (by omega)];rfl
 ·have:j=l.length:=by simp at g;omega
  subst this
  rw[List.take_length]
  exact⟨rfl,rfl⟩
theorem sgap_ok_Sgap {p:Option Addr} {l:List Int} {c:Nat} (h:Cells w p (l.map (Value.int .i64))) (hl:l.length<=1000) (m:BV) :
  Calls Tryz.prog 15 #[.slice p l.length c,.int .u64 (mi m)] w fun e w'=>e=.returned (.int .i64 (gapW (ldOfN l m l.length)))/\Upd no w w':=by
 refine u15 ?_
 rw[t15]
 refine⟨(sloadsOf_ok_Sgap h hl m).mono ?_⟩
 rintro e w1 ⟨p',c',rfl,hL⟩
 have hle:=ldOfN_len l m l.length
 have hC:=hL.S.cells
 have hU:=hL.U
 clear hL
 revert hle hC
 generalize ldOfN l m l.length=k
 intro hle hC
 cases k with
 | nil=>exact⟨_,_,_,rfl,fun _=>⟨rfl,hU⟩,fun g=>by simp at g⟩
 | cons v k=>
  simp only[List.length_cons]at hle
  refine⟨_,_,_,rfl,fun g=>by simp at g;omega,fun _=>⟨(smax_ok_Sgap hC (by omega)).mono ?_⟩⟩
  rintro e w2 ⟨rfl,rfl⟩
  refine⟨_,rfl,⟨(smin_ok_Sgap hC (by omega)).mono ?_⟩⟩
  rintro e w2 ⟨rfl,rfl⟩
  exact⟨_,rfl,rfl,hU⟩
end
end Go.Dav
namespace Go.Dav
open Go.Proofs
theorem n_mend (k:K) (id:Int):(mendK k id).n=k.n:=by unfold mendK;split<;>rfl
theorem n_aim (k:K) (id:Int):(aimK k id).n=k.n:=by unfold aimK;split<;>rfl
theorem n_mends:∀(l:List Int) (k:K),(l.foldl mendK k).n=k.n
 | [],_=>rfl
 | a::l,k=>(n_mends l _).trans (n_mend k a)
theorem n_aims:∀(l:List Int) (k:K),(l.foldl aimK k).n=k.n
 | [],_=>rfl
 | a::l,k=>(n_aims l _).trans (n_aim k a)
theorem n_leads (c:Int):∀(l:List Int) (k:K),(l.foldl (fun k n=>leadK k n c) k).n=k.n
 | [],_=>rfl
 | a::l,k=>(n_leads c l _).trans rfl
theorem n_tick (k:K) (n:Int):(tickK k n).n=k.n:=by unfold tickK;split<;>rfl
theorem n_spawn (k:K) (p:Int) (m:BV):(spawnK k p m).n=k.n:=by unfold spawnK;split<;>rfl
theorem n_sleep (k:K) (id:Int) (x:Th) (n:Int):(sleepK k id x n).n=k.n:=by unfold sleepK;split;split<;>rfl;rfl
theorem n_exit (k:K) (id:Int) (x:Th):(exitK k id x).n=k.n:=by unfold exitK;split<;>rfl
theorem n_thr (k:K) (e:Evt):(thrK k e).n=k.n:=by
 unfold thrK
 simp only
 split;rfl
 split;rfl
 split;exact n_exit _ _ _
 split
 ·split
  ·exact n_mend _ _
  ·rfl
 split;rfl
 split;exact n_sleep _ _ _ _
 split<;>rfl
theorem n_irq (k:K) (e:Evt):(irqK k e).n=k.n:=by
 unfold irqK
 split;split<;>rfl
 split;split<;>rfl
 split;split;exact n_aim _ _;rfl
 split;rfl
 split<;>rfl
theorem n_plc (k:K) (e:Evt):(plcK k e).n=k.n:=by
 unfold plcK
 split;rfl
 split;unfold armKS;split<;>rfl
 split;rfl
 split;rfl
 split;rfl
 split<;>rfl
theorem n_rst (k:K) (e:Evt):(rstK k e).n=k.n:=by
 unfold rstK
 split;unfold cancelKS;split;split<;>rfl;rfl
 split;rfl
 split;rfl
 split;rfl
 split;unfold limK;split<;>rfl
 split;rfl
 split;unfold balK;split;rfl;split<;>rfl
 rfl
theorem n_stage (k:K) (s:Int×Bool×Bool) (c who:Int):(stageK k s c who).n=k.n:=by
 unfold stageK
 split
 ·unfold undoK;split;rfl;split<;>rfl
 split;rfl
 split
 ·unfold comeK
  split;rfl
  split;rfl
  simp only
  rw[n_aims,n_mends]
 ·unfold leaveK
  split;rfl
  split;unfold emptyK;split<;>rfl
  split;rfl
  split;rfl
  split;rfl
  split
  ·unfold haltK
   split;rfl
   split
   ·simp only
    rw[n_leads]
   ·rfl
  split;rfl
  split<;>rfl
theorem n_turn (k:K) (who:Int):(turnK k who).n=k.n:=by
 have h1:(turn1 k who).n=k.n:=by
  unfold turn1
  simp only
  split;rfl
  split
  ·exact n_stage _ _ _ _
  ·exact n_stage _ _ _ _
 unfold turnK
 split
 ·exact h1
 ·exact h1
theorem n_thing (k:K) (c what:Int):(thingK k c what).n=k.n:=by
 unfold thingK
 split;rfl
 split;rfl
 split;unfold fireK;simp only;split<;>rfl
 split<;>rfl
theorem n_step (k:K) (c:Int):(stepK k c).n=k.n:=by
 unfold stepK
 split;rfl
 split;rfl
 split;rfl
 split;exact n_turn _ _
 split;rfl
 exact n_thing _ _ _
theorem n_req (k:K) (up:Bool) (c:Int):(reqKS k up c).n=k.n:=by
 unfold reqKS
 split;rfl
 split;rfl
 split;rfl
 split;rfl
 split<;>rfl
theorem n_do (k:K) (e:Evt):(doK k e).n=k.n:=by
 unfold doK
 split;split;rfl;exact n_step _ _
 split;exact n_tick _ _
 split;exact n_spawn _ _ _
 split;exact n_thr _ _
 split;exact n_irq _ _
 split;split;rfl;exact n_plc _ _
 split;exact n_plc _ _
 split;exact n_req _ _ _
 exact n_rst _ _
end Go.Dav
namespace Go.Dav
open Go.Proofs
def sy (k:K):BV×BV×Option Req:=(k.on,k.ac,k.dk.1)
theorem s_mend (k:K) (id:Int):sy (mendK k id)=sy k:=by unfold mendK;split<;>rfl
theorem s_aim (k:K) (id:Int):sy (aimK k id)=sy k:=by unfold aimK;split<;>rfl
theorem s_tick (k:K) (n:Int):sy (tickK k n)=sy k:=by unfold tickK;split<;>rfl
theorem s_spawn (k:K) (p:Int) (m:BV):sy (spawnK k p m)=sy k:=by unfold spawnK;split<;>rfl
theorem s_sleep (k:K) (id:Int) (x:Th) (n:Int):sy (sleepK k id x n)=sy k:=by unfold sleepK;split;split<;>rfl;rfl
theorem s_exit (k:K) (id:Int) (x:Th):sy (exitK k id x)=sy k:=by unfold exitK;split<;>rfl
theorem s_thr (k:K) (e:Evt):sy (thrK k e)=sy k:=by
 unfold thrK
 simp only
 split;rfl
 split;rfl
 split;exact s_exit _ _ _
 split
 ·split
  ·exact s_mend _ _
  ·rfl
 split;rfl
 split;exact s_sleep _ _ _ _
 split<;>rfl
theorem s_irq (k:K) (e:Evt):sy (irqK k e)=sy k:=by
 unfold irqK
 split;split<;>rfl
 split;split<;>rfl
 split;split;exact s_aim _ _;rfl
 split;rfl
 split<;>rfl
theorem s_plc (k:K) (e:Evt):sy (plcK k e)=sy k:=by
 unfold plcK
 split;rfl
 split;unfold armKS;split<;>rfl
 split;rfl
 split;rfl
 split;rfl
 split<;>rfl
theorem s_rst (k:K) (e:Evt):sy (rstK k e)=sy k:=by
 unfold rstK
 split;unfold cancelKS;split;split<;>rfl;rfl
 split;rfl
 split;unfold planS sy;simp only;split<;>rfl
 split;rfl
 split;unfold limK;split<;>rfl
 split;rfl
 split;unfold balK;split;rfl;split<;>rfl
 rfl
theorem s_thing (k:K) (c what:Int):sy (thingK k c what)=sy k:=by
 unfold thingK
 split;rfl
 split;rfl
 split;unfold fireK;simp only;split<;>rfl
 split<;>rfl
theorem wants_no3 {f:Fl} (h:f.2.2.1=false):wantsE f≠3:=by
 unfold wantsE
 rw[h]
 split
 ·omega
 ·simp only[Bool.false_eq_true,if_false]
  split;omega
  split;omega
  split;omega
  split;omega
  split;omega
  split<;>omega
theorem what_no3 {k:K} (hd:k.dk.1=none) (c:Int):whatK k c≠3:=by
 have h:=wants_no3 (f:=flagsK k c) (by unfold flagsK dkBusy;rw[hd];rfl)
 unfold whatK coNext
 split
 ·omega
 split
 ·exact h
 split<;>omega
theorem s_step {k:K} (hd:k.dk.1=none) (c:Int):sy (stepK k c)=sy k:=by
 unfold stepK
 split;rfl
 split;rfl
 split;rfl
 split;exact absurd ‹_› (what_no3 hd c)
 split;rfl
 exact s_thing _ _ _
theorem s_up {k:K} (hon:∀c:Int,0<=c->c<(k.n:Int)->hs k.on c=true) (c:Int):reqKS k true c=k:=by
 unfold reqKS
 split;rfl
 split;rfl
 split;rfl
 rename_i h1 h2 h3
 have h1:0<=c/\c<k.n:=Decidable.byContradiction h1
 exact absurd (by rw[hon c h1.1 h1.2];rfl) h3
theorem s_do {k:K} (hd:k.dk.1=none) (hon:∀c:Int,0<=c->c<(k.n:Int)->hs k.on c=true) {e:Evt} (he:e.1≠24):sy (doK k e)=sy k:=by
 unfold doK
 split;split;rfl;exact s_step hd _
 split;exact s_tick _ _
 split;exact s_spawn _ _ _
 split;exact s_thr _ _
 split;exact s_irq _ _
 split;split;rfl;exact s_plc _ _
 split;exact s_plc _ _
 split
 ·rename_i h
  have h23:e.1=23:=by omega
  rw[decide_eq_true h23,s_up hon]
 exact s_rst _ _
end Go.Dav
namespace Go.Dav
def sF (f:Nat->Nat) (l:List Nat):Nat:=(l.map f).sum
theorem sF_set (f:Nat->Nat):∀(l:List Nat) (i:Nat) (hi:i<l.length) (v:Nat),sF f (l.set i v)+f l[i]=sF f l+f v
 | x::l,0,_,v=>by simp only[sF,List.set_cons_zero,List.map_cons,List.sum_cons,List.getElem_cons_zero];omega
 | x::l,i+1,hi,v=>by
  have:=sF_set f l i (by simpa using hi) v
  simp only[sF,List.set_cons_succ,List.map_cons,List.sum_cons,List.getElem_cons_succ]at this⊢
  omega
theorem sF_le (f:Nat->Nat):∀(l:List Nat) (i:Nat) (hi:i<l.length),f l[i]<=sF f l
 | x::l,0,_=>by simp only[sF,List.map_cons,List.sum_cons,List.getElem_cons_zero];omega
 | x::l,i+1,hi=>by
  have:=sF_le f l i (by simpa using hi)
  simp only[sF,List.map_cons,List.sum_cons,List.getElem_cons_succ]at this⊢
  omega
theorem sF_zero (f:Nat->Nat):∀(l:List Nat),(∀x∈l,f x=0)->sF f l=0
 | [],_=>rfl
 | x::l,h=>by
  have:=sF_zero f l fun y hy=>h y (by simp[hy])
  have:=h x (by simp)
  simp only[sF,List.map_cons,List.sum_cons]at *
  omega
theorem sF_mono (f g:Nat->Nat):∀(l:List Nat),(∀x∈l,f x<=g x)->sF f l<=sF g l
 | [],_=>Nat.le_refl _
 | x::l,h=>by
  have:=sF_mono f g l fun y hy=>h y (by simp[hy])
  have:=h x (by simp)
  simp only[sF,List.map_cons,List.sum_cons]at *
  omega
theorem sF_const (q:Nat):∀(l:List Nat),sF (fun _=>q) l=l.length*q
 | []=>by simp[sF]
 | x::l=>by
  have:=sF_const q l
  simp only[sF,List.map_cons,List.sum_cons,List.length_cons,Nat.succ_mul]at *
  omega
def idN (x:Nat):Nat:=x
def upN (q x:Nat):Nat:=x-(q+1)
def dnN (q x:Nat):Nat:=q-x
def potN (q:Nat) (l:List Nat):Nat:=max (sF (upN q) l) (sF (dnN q) l)
def mvN (l:List Nat) (a b:Nat):List Nat:=(l.set a (l.getD a 0-1)).set b (l.getD b 0+1)
theorem sF_dn (q:Nat):∀(l:List Nat),(∀x∈l,x<=q)->sF idN l+sF (dnN q) l=l.length*q
 | [],_=>by simp[sF]
 | x::l,h=>by
  have h1:=sF_dn q l fun y hy=>h y (by simp[hy])
  have h2:=h x (by simp)
  simp only[sF,List.map_cons,List.sum_cons,List.length_cons,Nat.succ_mul,idN,dnN]at *
  omega
theorem mv_pot {l:List Nat} {a b q:Nat} (ha:a<l.length) (hb:b<l.length) (hmax:∀x∈l,x<=l[a]) (hmin:∀x∈l,l[b]<=x) (hg:l[b]+2<=l[a]) (hq:l[b]<=q) (hs:l.length*q<=sF idN l) :
  potN q (mvN l a b)+1<=potN q l/\sF idN (mvN l a b)=sF idN l:=by
 have hab:a≠b:=fun e=>by subst e;omega
 have ea:l.getD a 0=l[a]:=by simp[List.getD_eq_getElem?_getD,ha]
 have eb:l.getD b 0=l[b]:=by simp[List.getD_eq_getElem?_getD,hb]
 have hb':b<(l.set a (l[a]-1)).length:=by simpa using hb
 have gb:(l.set a (l[a]-1))[b]'hb'=l[b]:=by simp[List.getElem_set,hab]
 have F:∀f:Nat->Nat,sF f (mvN l a b)+f l[b]+f l[a]=sF f l+f (l[b]+1)+f (l[a]-1):=by
  intro f
  have h1:=sF_set f l a ha (l[a]-1)
  have h2:=sF_set f (l.set a (l[a]-1)) b hb' (l[b]+1)
  rw[gb]at h2
  unfold mvN
  rw[ea,eb]
  omega
 have f1:=F idN
 have f2:=F (upN q)
 have f3:=F (dnN q)
 have u1:=sF_le (upN q) l a ha
 have v1:=sF_le (dnN q) l b hb
 have x0:l[a]<=q->sF idN l+sF (dnN q) l=l.length*q:=fun h=>sF_dn q l fun x hx=>Nat.le_trans (hmax x hx) h
 have u0:l[a]<=q+1->sF (upN q) l=0:=fun h=>sF_zero _ _ fun x hx=>by have:=hmax x hx;unfold upN;omega
 have v0:q<=l[b]->sF (dnN q) l=0:=fun h=>sF_zero _ _ fun x hx=>by have:=hmin x hx;unfold dnN;omega
 unfold potN
 generalize sF (upN q) (mvN l a b)=U1 at *
 generalize sF (dnN q) (mvN l a b)=V1 at *
 generalize sF (upN q) l=U0 at *
 generalize sF (dnN q) l=V0 at *
 generalize sF idN (mvN l a b)=I1 at *
 generalize sF idN l=I0 at *
 unfold idN at f1
 unfold upN at f2 u1
 unfold dnN at f3 v1
 clear F ea eb gb hb' hmax hmin
 generalize l.length*q=N at *
 generalize l[a]=x at *
 generalize l[b]=y at *
 refine⟨?_,by omega⟩
 rcases Nat.lt_or_ge (q+1) x with c1|c1<;>rcases Nat.lt_or_ge y q with c2|c2
 ·omega
 ·have:=v0 c2;omega
 ·have:=u0 c1;omega
 ·omega
theorem min_avg {l:List Nat} {b:Nat} (hb:b<l.length) (hmin:∀x∈l,l[b]<=x):l[b]<=sF idN l/l.length:=by
 have h1:=sF_mono (fun _=>l[b]) idN l (fun x hx=>hmin x hx)
 rw[sF_const]at h1
 exact(Nat.le_div_iff_mul_le (by omega)).2 (by rw[Nat.mul_comm];exact h1)
theorem pot_le (l:List Nat):potN (sF idN l/l.length) l<=sF idN l:=by
 have h1:sF (upN (sF idN l/l.length)) l<=sF idN l:=sF_mono _ _ _ fun x _=>Nat.sub_le _ _
 have h2:sF (dnN (sF idN l/l.length)) l<=sF (fun _=>sF idN l/l.length) l:=sF_mono _ _ _ fun x _=>Nat.sub_le _ _
 rw[sF_const]at h2
 have h3:=Nat.mul_div_le (sF idN l) l.length
 unfold potN
 omega
theorem mvN_len (l:List Nat) (a b:Nat):(mvN l a b).length=l.length:=by simp[mvN]
end Go.Dav
namespace Go.Dav
open Go.Proofs
abbrev KtT:=Int×BV×Bool×Int
def kt (x:TX) (j:Int):Option KtT:=(sAt x.2 j).map fun t=>(t.1,t.2.1,t.2.2.2.2.1,t.2.2.2.2.2)
structure BI (m:BV) (g:Int->Option KtT) (rq:RS) (own:Int->Option Int):Prop where
 q:∀i j,memQ rq i j=true->∃y,g j=some y/\y.2.2.1=false
 p:∀j y,g j=some y->0<=y.1/\y.1<8/\y.2.1=m
 o:∀t j,own t=some j->∃y,g j=some y/\y.2.2.1=true/\y.2.2.2=t
def BK (m:BV) (k:K):Prop:=BI m (kt k.th) k.rq k.own
theorem kt_of {x:TX} {j:Int} {t:Th} (h:sAt x.2 j=some t):kt x j=some (t.1,t.2.1,t.2.2.2.2.1,t.2.2.2.2.2):=by unfold kt;rw[h];rfl
theorem of_kt {x:TX} {j:Int} {y:KtT} (h:kt x j=some y):∃t,sAt x.2 j=some t/\y=(t.1,t.2.1,t.2.2.2.2.1,t.2.2.2.2.2):=by
 obtain⟨t,h1,h2⟩:=Option.map_eq_some_iff.1 h
 exact⟨t,h1,h2.symm⟩
theorem kt_pl (x:TX) (id c:Int) (f:Bool):kt (plS x id c f)=kt x:=by
 funext j
 unfold kt plS
 split
 ·rename_i t ht
  split
  ·simp only
   rw[sAt_set' ht]
   split
   ·rename_i e;rw[e,ht];rfl
   ·rfl
  ·rfl
 ·rfl
theorem memQ_put' {x:RS} {c p k:Int} {i:Nat} {j:Int} (h:memQ (rqPutS x c p k) i j=true):memQ x i j=true∨j=k:=by
 by_cases he:rqPutE x c p k=0
 ·rw[memQ_put he]at h
  simp only[Bool.or_eq_true,Bool.and_eq_true,decide_eq_true_eq]at h
  exact h.imp id fun h=>h.2
 ·unfold rqPutS at h;rw[if_neg he]at h;exact .inl h
section
variable {m:BV} {k:K} {id:Int} {y:KtT}
theorem BK.put (h:BK m k) (hy:kt k.th id=some y) (ha:y.2.2.1=false) (near:Int):BK m (putK k id near):=by
 unfold BK putK
 simp only
 rw[kt_pl]
 exact⟨fun i j hj=>(memQ_put' hj).elim (h.q i j) (fun e=>by subst e;exact⟨y,hy,ha⟩),h.p,h.o⟩
theorem BI.less {g:Int->Option KtT} {rq rq':RS} {own:Int->Option Int} (h:BI m g rq own) (hq:∀i j,memQ rq' i j=true->memQ rq i j=true):BI m g rq' own:=⟨fun i j hj=>h.q i j (hq i j hj),h.p,h.o⟩
theorem take_less (hS:KSV k) (id:Int):∀i j,memQ (rqTakeS k.rq id) i j=true->memQ k.rq i j=true/\j≠id:=by
 intro i j hj
 rw[memQ_take hS.rq]at hj
 simpa using hj
theorem BK.mend (h:BK m k) (hS:KSV k) {t:Th} (ht:sAt k.th.2 id=some t):BK m (mendK k id):=by
 unfold mendK
 rw[(thX_of ht).1]
 split
 ·exact h
 ·rename_i hc
  simp only[Bool.or_eq_true,not_or,Bool.not_eq_true]at hc
  exact BK.put (k:={k with rq:=rqTakeS k.rq id}) (BI.less h fun i j hj=>(take_less hS id i j hj).1) (kt_of ht) hc.1 _
theorem BK.wake (h:BK m k) (hy:kt k.th id=some y) (hs:y.2.2.1=true) (tm:TmS):BK m (wakeK {k with tm:=tm,own:=ownDel k.own y.2.2.2} id):=by
 obtain⟨t,ht,rfl⟩:=of_kt hy
 have hg:∀j,kt (waS k.th id) j=if j=id then some (t.1,t.2.1,false,0)else kt k.th j:=by
  intro j
  unfold kt
  rw[waS_at ht hs]
  split<;>rfl
 unfold wakeK
 refine BK.put (k:={k with tm:=tm,own:=ownDel k.own t.2.2.2.2.2,th:=waS k.th id}) (y:=(t.1,t.2.1,false,0)) ?_ (by simp only;rw[hg,if_pos rfl]) rfl _
 refine⟨fun i j hj=>?_,fun j y hy=>?_,fun u j hj=>?_⟩
 ·obtain⟨z,h1,h2⟩:=h.q i j hj
  simp only
  rw[hg]
  split
  ·exact⟨_,rfl,rfl⟩
  ·exact⟨z,h1,h2⟩
 ·simp only at hy
  rw[hg]at hy
  split at hy
  ·cases hy
   have hh:=h.p _ _ (kt_of ht)
   exact hh
  ·exact h.p j y hy
 ·simp only at hj
  unfold ownDel at hj
  split at hj
  ·cases hj
  ·rename_i hu
   obtain⟨z,h1,h2,h3⟩:=h.o u j hj
   simp only
   rw[hg]
   split
   ·rename_i e
    subst e
    rw[kt_of ht]at h1
    cases h1
    exact absurd h3.symm hu
   ·exact⟨z,h1,h2,h3⟩
theorem BK.exit (h:BK m k) (hS:KSV k) {t:Th} (ht:sAt k.th.2 id=some t):BK m (exitK k id t):=by
 have hg:∀j,kt (exS k.th id) j=if j=id then none else kt k.th j:=by
  intro j
  unfold kt
  rw[exS_at ht]
  split<;>rfl
 unfold exitK
 split
 ·rename_i hs
  refine⟨fun i j hj=>?_,fun j y hy=>?_,fun u j hj=>?_⟩
  ·obtain⟨z,h1,h2⟩:=h.q i j hj
   simp only
   rw[hg,if_neg]
   ·exact⟨z,h1,h2⟩
   ·rintro rfl
    rw[kt_of ht]at h1
    cases h1
    rw[hs]at h2;cases h2
  ·simp only at hy
   rw[hg]at hy
   split at hy
   ·cases hy
   ·exact h.p j y hy
  ·simp only[quietK]at hj
   unfold ownDel at hj
   split at hj
   ·cases hj
   ·rename_i hu
    obtain⟨z,h1,h2,h3⟩:=h.o u j hj
    simp only
    rw[hg,if_neg]
    ·exact⟨z,h1,h2,h3⟩
    ·rintro rfl
     rw[kt_of ht]at h1
     cases h1
     exact hu h3.symm
 ·rename_i hs
  refine⟨fun i j hj=>?_,fun j y hy=>?_,fun u j hj=>?_⟩
  ·obtain⟨h0,hne⟩:=take_less hS id i j hj
   obtain⟨z,h1,h2⟩:=h.q i j h0
   simp only
   rw[hg,if_neg hne]
   exact⟨z,h1,h2⟩
  ·simp only at hy
   rw[hg]at hy
   split at hy
   ·cases hy
   ·exact h.p j y hy
  ·obtain⟨z,h1,h2,h3⟩:=h.o u j hj
   simp only
   rw[hg,if_neg]
   ·exact⟨z,h1,h2,h3⟩
   ·rintro rfl
    rw[kt_of ht]at h1
    cases h1
    exact hs h2
theorem BK.sleep (h:BK m k) (hS:KSV k) {t:Th} (ht:sAt k.th.2 id=some t) (hs:t.2.2.2.2.1=false) (n:Int):BK m (sleepK k id t n):=by
 unfold sleepK
 split
 ·split
  ·generalize (armE k.tm (sleepC k t) (laterE k.now n).1).1=a
   have hg:∀j,kt (slpS k.th id a) j=if j=id then some (t.1,t.2.1,true,a)else kt k.th j:=by
    intro j
    unfold kt
    rw[slpS_at ht hs]
    split<;>rfl
   refine⟨fun i j hj=>?_,fun j y hy=>?_,fun u j hj=>?_⟩
   ·obtain⟨h0,hne⟩:=take_less hS id i j hj
    obtain⟨z,h1,h2⟩:=h.q i j h0
    simp only
    rw[hg,if_neg hne]
    exact⟨z,h1,h2⟩
   ·simp only at hy
    rw[hg]at hy
    split at hy
    ·cases hy
     have hh:=h.p _ _ (kt_of ht)
     exact hh
    ·exact h.p j y hy
   ·simp only at hj
    split at hj
    ·rename_i e
     cases hj
     simp only
     rw[hg,if_pos rfl]
     exact⟨_,rfl,rfl,e.symm⟩
    ·obtain⟨z,h1,h2,h3⟩:=h.o u j hj
     simp only
     rw[hg,if_neg]
     ·exact⟨z,h1,h2,h3⟩
     ·rintro rfl
      rw[kt_of ht]at h1
      cases h1
      rw[hs]at h2;cases h2
  ·exact h
 ·exact h
theorem BK.spawn (h:BK m k) (p:Int):BK m (spawnK k p m):=by
 unfold spawnK
 split
 ·rename_i he
  obtain⟨h1,h2,h3,h4⟩:=spS_at he
  have hg:∀j,kt (spS k.th p m) j=if j=(spE k.th p m).1 then some (p,m,false,0)else kt k.th j:=by
   intro j
   unfold kt
   rw[h4]
   split<;>rfl
  have h0:kt k.th (spE k.th p m).1=none:=by unfold kt;rw[h3];rfl
  refine BK.put (k:={k with th:=spS k.th p m}) (y:=(p,m,false,0)) ?_ (by simp only;rw[hg,if_pos rfl]) rfl _
  refine⟨fun i j hj=>?_,fun j y hy=>?_,fun u j hj=>?_⟩
  ·obtain⟨z,k1,k2⟩:=h.q i j hj
   simp only
   rw[hg]
   split
   ·exact⟨_,rfl,rfl⟩
   ·exact⟨z,k1,k2⟩
  ·simp only at hy
   rw[hg]at hy
   split at hy
   ·cases hy
    exact⟨h1.1,h1.2.1,rfl⟩
   ·exact h.p j y hy
  ·obtain⟨z,k1,k2,k3⟩:=h.o u j hj
   simp only
   rw[hg,if_neg]
   ·exact⟨z,k1,k2,k3⟩
   ·rintro rfl
    rw[h0]at k1;cases k1
 ·rename_i he
  rw[spS_no he]
  exact h
theorem BK.aim (h:BK m k) {t:Th} (ht:sAt k.th.2 id=some t):kt (aiS k.th id m)=kt k.th:=by
 funext j
 have hm:t.2.1=m:=(h.p _ _ (kt_of ht)).2.2
 cases hr:rightR k.th.1 m with
 | true=>
  unfold kt
  rw[aiS_at ht hr]
  split
  ·rename_i e;rw[e,ht,<-hm];try rfl
  ·rfl
 | false=>
  unfold aiS
  rw[ht]
  simp only[hr]
  rfl
theorem BK.thr (h:BK m k) (hS:KSV k) {e:Evt} (hm:e.1=8->e.2.2.2.1=m):BK m (thrK k e):=by
 unfold thrK
 simp only
 split
 ·exact h
 rename_i hg
 have hg:(getE k.th e.2.2.1).2=0:=Decidable.byContradiction hg
 obtain⟨t,ht⟩:∃t,sAt k.th.2 e.2.2.1=some t:=by
  unfold getE at hg
  split at hg
  ·exact⟨_,‹_›⟩
  ·cases hg
 rw[(thX_of ht).1]
 split
 ·exact h
 split
 ·exact h.exit hS ht
 split
 ·rename_i h8
  rw[hm h8]
  have e1:=h.aim ht
  have h1:BK m {k with th:=aiS k.th e.2.2.1 m}:=by unfold BK;simp only;rw[e1];exact h
  split
  ·obtain⟨t',ht',_⟩:∃t',sAt (aiS k.th e.2.2.1 m).2 e.2.2.1=some t'/\True:=by
    have:=kt_of ht
    rw[<-e1]at this
    obtain⟨t',h2,_⟩:=of_kt this
    exact⟨t',h2,trivial⟩
   exact BK.mend (k:={k with th:=aiS k.th e.2.2.1 m}) h1 (hS.th_ (aiS_fst ..) (aiS_len ..)) ht'
  ·exact h1
 split
 ·exact h
 rename_i h9 h4 h8 h7
 have h7:t.2.2.2.2.1=decide (e.1=7):=Decidable.byContradiction h7
 split
 ·rename_i h6
  exact h.sleep hS ht (by rw[h7];exact decide_eq_false (by omega)) _
 split
 ·exact BI.less h fun i j hj=>by rwa [memQ_back hS.rq]at hj
 ·rename_i h6 h5
  by_cases e7:e.1=7
  ·exact h.wake (kt_of ht) (by show t.2.2.2.2.1=true;rw[h7];exact decide_eq_true e7) _
  ·have hq:t.2.2.2.2.1=false:=by rw[h7];exact decide_eq_false e7
   unfold wakeK
   have e1:waS (quietK k t.2.2.2.2.2).th e.2.2.1=k.th:=by
    unfold waS
    rw[show(quietK k t.2.2.2.2.2).th=k.th from rfl,ht]
    simp only[hq]
    rfl
   rw[e1]
   refine BK.put (k:={quietK k t.2.2.2.2.2 with th:=k.th}) (y:=(t.1,t.2.1,t.2.2.2.2.1,t.2.2.2.2.2)) ?_ (kt_of ht) hq _
   refine⟨h.q,h.p,fun u j hj=>h.o u j ?_⟩
   simp only[quietK]at hj
   unfold ownDel at hj
   split at hj
   ·cases hj
   ·exact hj
theorem BK.fire (h:BK m k) (c:Int):BK m (fireK k c):=by
 unfold fireK
 simp only
 split
 ·rename_i ho
  cases hw:k.own (fireE k.tm c).1 with
  | none=>rw[hw]at ho;simp at ho
  | some j=>
   obtain⟨z,h1,h2,h3⟩:=h.o _ j hw
   have:=h.wake h1 h2 (fireS k.tm c)
   rw[h3]at this
   exact this
 ·refine⟨h.q,h.p,fun u j hj=>h.o u j ?_⟩
  simp only at hj
  unfold ownDel at hj
  split at hj
  ·cases hj
  ·exact hj
theorem BK.thing (h:BK m k) (c w:Int):BK m (thingK k c w):=by
 unfold thingK
 split;exact h
 split;exact h
 split;exact h.fire c
 split;exact h
 exact BI.less h fun i j hj=>by rwa [memQ_pick]at hj
theorem bal_mem (hS:KSV k) {c:Int} (hl:(rqListE k.rq c).reverse.find? (balP k)=some id):0<=c/\memQ k.rq c.toNat id=true:=(mem_list hS.rq).1 (List.mem_reverse.1 (List.mem_of_find?_eq_some hl))
theorem BK.bal (h:BK m k) (hS:KSV k):BK m (balK k):=by
 unfold balK
 split;exact h
 split
 ·rename_i id hl
  obtain⟨z,h1,h2⟩:=h.q _ _ (bal_mem hS hl).2
  unfold BK
  simp only
  rw[kt_pl]
  refine⟨fun i j hj=>?_,h.p,h.o⟩
  rcases memQ_put' hj with hj|rfl
  ·exact h.q i j (take_less hS id i j hj).1
  ·exact⟨z,h1,h2⟩
 ·exact h
theorem BK.step (h:BK m k) (hd:k.dk.1=none) (c:Int):BK m (stepK k c):=by
 unfold stepK
 split;exact h
 split;exact h
 split;exact h
 split;exact absurd ‹_› (what_no3 hd c)
 split;exact h
 exact h.thing _ _
theorem BK.rst (h:BK m k) (hS:KSV k) (e:Evt):BK m (rstK k e):=by
 unfold rstK
 split
 ·unfold cancelKS
  split
  ·split
   ·exact h
   ·exact h
  ·exact h
 split;exact h
 split;exact h
 split;exact h
 split
 ·unfold limK;split
  ·exact h
  ·exact h
 split;exact h
 split;exact h.bal hS
 exact h
theorem BK.irq (h:BK m k) (e:Evt):BK m (irqK k e):=by
 have ha:∀(k:K) (n:Int),BK m k->BK m (aimK k n):=fun k n h=>by
  unfold aimK;split
  ·exact h
  ·exact h
 unfold irqK
 split;split;exact h;exact h
 split;split;exact h;exact h
 split;split;exact ha _ _ h;exact h
 split;exact h
 split;exact h
 exact h
theorem BK.plc (h:BK m k) (e:Evt):BK m (plcK k e):=by
 unfold plcK
 split;exact h
 split;unfold armKS;split;exact h;exact h
 split;exact h
 split;exact h
 split;exact h
 split;exact h
 exact h
theorem BK.do_ (h:BK m k) (hS:KSV k) (hd:k.dk.1=none) {e:Evt} (he:e.1=3∨e.1=8->e.2.2.2.1=m):BK m (doK k e):=by
 unfold doK
 split;split;exact h;exact h.step hd _
 split;unfold tickK;split;exact h;exact h
 split
 ·rename_i h3
  rw[he (.inl h3)]
  exact h.spawn _
 split;exact h.thr hS fun h8=>he (.inr h8)
 split;exact h.irq e
 split;split;exact h;exact h.plc e
 split;exact h.plc e
 split
 ·unfold reqKS
  split;exact h
  split;exact h
  split;exact h
  split;exact h
  split;exact h
  exact h
 exact h.rst hS e
end
structure BS (k:K):Prop where
 S:KSV k
 b:BK (upM k.n) k
 on:k.on=upM k.n
 ac:k.ac=upM k.n
 dk:k.dk.1=none
theorem BS.do_ {k:K} (h:BS k) {e:Evt} (he:e.1≠24) (hm:e.1=3∨e.1=8->e.2.2.2.1=upM k.n):BS (doK k e):=by
 have hn:=h.S.n
 have hs:=s_do h.dk (fun c h0 h1=>by
  rw[h.on,hs_upM,decide_eq_true (by omega),decide_eq_true h1];rfl) he
 have e1:(doK k e).on=k.on:=congrArg (·.1) hs
 have e2:(doK k e).ac=k.ac:=congrArg (·.2.1) hs
 have e3:(doK k e).dk.1=k.dk.1:=congrArg (·.2.2) hs
 exact⟨h.S.do_ e,by rw[n_do];exact h.b.do_ h.S h.dk hm,by rw[e1,n_do,h.on],by rw[e2,n_do,h.ac],by rw[e3,h.dk]⟩
theorem BS.new {n:Nat} (hn:1<=n/\n<=64):BS (newK' n):=by
 refine⟨newS hn,⟨fun i j hj=>?_,fun j y hy=>?_,fun t j hj=>(by cases hj)⟩,rfl,rfl,rfl⟩
 ·have hi:=memQ_lt hj
  rw[memQ_at hi]at hj
  simp[newK',inE]at hj
 ·obtain⟨t,ht,_⟩:=of_kt hy
  rw[show sAt (newK' n).th.2 j=none from sAt_new 32 j]at ht
  cases ht
def lds (x:RS):List Nat:=x.map fun q=>q.2.length
theorem lds_len (x:RS):(lds x).length=x.length:=by simp[lds]
theorem load_at {x:RS} {i:Nat} (hi:i<x.length):rqLoadE x (i:Int)=((lds x)[i]'(by rw[lds_len];exact hi):Nat):=by
 unfold rqLoadE lds
 rw[if_pos (inQ_of hi),rowQ_at hi,List.getElem_map]
theorem lds_sum {n:Nat} {x:RS} (h:RqV n x) (hid:∀i j,memQ x i j=true->1<=j/\j<=32):sF idN (lds x)<=32:=by
 have hnd:(x.flatMap fun q=>q.2.map (·.2)).Nodup:=by
  refine List.pairwise_flatMap.2 ⟨fun q hq=>(h.v q hq).1.one,?_⟩
  rw[List.pairwise_iff_getElem]
  intro i j hi hj hij u hu v hv e
  subst e
  have h1:memQ x i u=true:=by rw[memQ_at hi];exact List.contains_iff_mem.2 hu
  have h2:memQ x j u=true:=by rw[memQ_at hj];exact List.contains_iff_mem.2 hv
  have:=h.uniq h1 h2
  omega
 have hf:=few (m:=32) hnd ?_
 ·rw[List.length_flatMap]at hf
  unfold sF lds
  rw[List.map_map]
  refine Nat.le_trans (Nat.le_of_eq ?_) hf
  congr 1
  apply List.map_congr_left
  intro q _
  simp[idN]
 ·intro v hv
  obtain⟨q,hq,hv⟩:=List.mem_flatMap.1 hv
  obtain⟨i,hi,rfl⟩:=List.getElem_of_mem hq
  have:=hid i v (by rw[memQ_at hi];exact List.contains_iff_mem.2 hv)
  omega
section
variable {k:K}
theorem BS.ids (h:BS k):∀i j,memQ k.rq i j=true->1<=j/\j<=32:=by
 intro i j hj
 obtain⟨y,hy,_⟩:=h.b.q i j hj
 obtain⟨t,ht,_⟩:=of_kt hy
 have:=sAt_in ht
 have:=h.S.th2
 omega
theorem all_up {n N:Nat} (hn:1<=n/\n<=64) {c:Int}:c∈upto (hs (upM n)) n↔0<=c/\c<n:=by
 rw[mem_upto,hs_upM]
 constructor
 ·rintro⟨h1,h2,h3⟩;exact⟨h1,h2⟩
 ·rintro⟨h1,h2⟩
  exact⟨h1,h2,by rw[decide_eq_true (by omega),decide_eq_true (by omega)];rfl⟩
theorem BS.ends (h:BS k):∃a b:Nat,a<k.rq.length/\b<k.rq.length/\busyC k=(a:Int)/\idleC k=(b:Int)/\(∀x∈lds k.rq,x<=(lds k.rq).getD a 0)/\(∀x∈lds k.rq,(lds k.rq).getD b 0<=x):=by
 have hn:=h.S.n
 have hl:=h.S.rq.len
 have hne:upto (hs k.ac) k.rq.length≠[]:=by
  intro e
  have:(0:Int)∈upto (hs k.ac) k.rq.length:=by rw[hl,h.ac];exact(all_up (N:=0) hn).2 (by omega)
  rw[e]at this;cases this
 have at_:∀{i:Nat} (hi:i<k.rq.length),rqLoadE k.rq (i:Int)=((lds k.rq).getD i 0:Nat):=by
  intro i hi
  rw[load_at hi,List.getD_eq_getElem?_getD,List.getElem?_eq_getElem (by rw[lds_len];exact hi)];rfl
 have mem:∀x∈lds k.rq,∃i:Nat,i<k.rq.length/\x=(lds k.rq).getD i 0:=by
  intro x hx
  obtain⟨i,hi,rfl⟩:=List.getElem_of_mem hx
  exact⟨i,by rw[lds_len]at hi;exact hi,by rw[List.getD_eq_getElem?_getD,List.getElem?_eq_getElem hi];rfl⟩
 rcases bestF_in (rqLoadE k.rq) gtB (upto (hs k.ac) k.rq.length)with⟨_,e⟩|⟨a,ha,ea⟩
 ·exact absurd e hne
 rcases bestF_in (rqLoadE k.rq) ltB (upto (hs k.ac) k.rq.length)with⟨_,e⟩|⟨b,hb,eb⟩
 ·exact absurd e hne
 have ha':=ha
 have hb':=hb
 rw[hl,h.ac]at ha' hb'
 have ha':=(all_up (N:=0) hn).1 ha'
 have hb':=(all_up (N:=0) hn).1 hb'
 obtain⟨A,rfl⟩:∃A:Nat,a=(A:Int):=⟨a.toNat,by omega⟩
 obtain⟨B,rfl⟩:∃B:Nat,b=(B:Int):=⟨b.toNat,by omega⟩
 refine⟨A,B,by omega,by omega,by unfold busyC bestQ;rw[ea],by unfold idleC bestQ;rw[eb],fun x hx=>?_,fun x hx=>?_⟩
 ·obtain⟨i,hi,rfl⟩:=mem x hx
  have:=bestF_gt ea (i:Int) (by rw[hl,h.ac];exact(all_up (N:=0) hn).2 (by omega))
  rw[at_ hi,at_ (by omega)]at this
  omega
 ·obtain⟨i,hi,rfl⟩:=mem x hx
  have:=bestF_lt eb (i:Int) (by rw[hl,h.ac];exact(all_up (N:=0) hn).2 (by omega))
  rw[at_ hi,at_ (by omega)]at this
  omega
def gapK (k:K):Int:=rqLoadE k.rq (busyC k)-rqLoadE k.rq (idleC k)
theorem BS.moves (h:BS k) (hg:¬gapK k<2):∃a b:Nat,∃(ha:a<(lds k.rq).length) (hb:b<(lds k.rq).length),(∀x∈lds k.rq,x<=(lds k.rq)[a])/\(∀x∈lds k.rq,(lds k.rq)[b]<=x)/\(lds k.rq)[b]+2<=(lds k.rq)[a]/\lds (balK k).rq=mvN (lds k.rq) a b:=by
 obtain⟨a,b,ha,hb,ea,eb,hmax,hmin⟩:=h.ends
 have hn:=h.S.n
 have hV:=h.S.rq
 have hl:=hV.len
 have ha':a<(lds k.rq).length:=by rw[lds_len];exact ha
 have hb':b<(lds k.rq).length:=by rw[lds_len];exact hb
 have ga:(lds k.rq).getD a 0=(lds k.rq)[a]:=by rw[List.getD_eq_getElem?_getD,List.getElem?_eq_getElem ha'];rfl
 have gb:(lds k.rq).getD b 0=(lds k.rq)[b]:=by rw[List.getD_eq_getElem?_getD,List.getElem?_eq_getElem hb'];rfl
 have hgap:(lds k.rq)[b]+2<=(lds k.rq)[a]:=by
  unfold gapK at hg
  rw[ea,eb,load_at ha,load_at hb]at hg
  omega
 have hab:a≠b:=fun e=>by subst e;omega
 refine⟨a,b,ha',hb',fun x hx=>by rw[<-ga];exact hmax x hx,fun x hx=>by rw[<-gb];exact hmin x hx,hgap,?_⟩
 unfold balK
 rw[if_neg (show ¬rqLoadE k.rq (busyC k)-rqLoadE k.rq (idleC k)<2 from hg)]
 have hlen:(rqListE k.rq (busyC k)).length=(lds k.rq)[a]:=by
  have:=load_list hV (busyC k)
  rw[ea,load_at ha]at this
  rw[ea];omega
 cases hr:(rqListE k.rq (busyC k)).reverse with
 | nil=>
  have:=congrArg List.length hr
  rw[List.length_reverse]at this
  simp at this
  rw[this]at hlen
  simp at hlen
  omega
 | cons id l=>
  have hid:id∈rqListE k.rq (busyC k):=by rw[<-List.mem_reverse,hr];simp
  have hm:=(mem_list hV).1 hid
  rw[ea]at hm
  have hmem:memQ k.rq a id=true:=by simpa using hm.2
  obtain⟨y,hy,hya⟩:=h.b.q a id hmem
  have hp:=h.b.p id y hy
  obtain⟨t,ht,rfl⟩:=of_kt hy
  have hx:=(thX_of ht).1
  have hP:balP k id=true:=by
   unfold balP
   rw[hx,show t.2.1=upM k.n from hp.2.2,eb,hs_upM,decide_eq_true (by omega),decide_eq_true (by omega)];rfl
  rw[List.find?_cons_of_pos hP]
  simp only
  rw[eb,hx]
  have hw:whE_Runq k.rq id=((a:Int),true):=by
   rcases whE_cases k.rq id with⟨_,h2⟩|⟨i,hi,h1,h2⟩
   ·rw[h2]at hmem;cases hmem
   ·rw[h1,hV.uniq h2 hmem]
  have hT:rqTakeS k.rq id=k.rq.set a (pqDropS k.rq[a] id):=by
   unfold rqTakeS
   rw[hw]
   simp only[if_true,Int.toNat_natCast]
   rw[rowQ_at ha]
  have hV':=hV.take id
  have hids:=h.ids
  have he:rqPutE (rqTakeS k.rq id) (b:Int) t.1 id=0:=by
   refine put_ok hV' (fun i j hj=>hids i j (take_less h.S id i j hj).1) (by omega) ⟨hp.1,hp.2.1⟩ (hids a id hmem) fun i=>?_
   cases hh:memQ (rqTakeS k.rq id) i id with
   | false=>rfl
   | true=>exact absurd rfl (take_less h.S id i id hh).2
  have hbT:b<(rqTakeS k.rq id).length:=by rw[hT,List.length_set];exact hb
  have he':=he
  unfold rqPutE at he'
  rw[if_pos (inQ_of hbT)]at he'
  split at he'
  ·omega
  rw[rowQ_at hbT]at he'
  unfold rqPutS
  rw[if_pos he,rowQ_at hbT,Int.toNat_natCast]
  have eb2:(rqTakeS k.rq id)[b]=k.rq[b]:=by simp only[hT];rw[List.getElem_set,if_neg hab]
  rw[eb2]at he'⊢
  unfold pqPushS
  rw[if_pos he']
  have hd:(pqDropS k.rq[a] id).2.length+1=(k.rq[a]).2.length:=drop_len (hV.at ha).1 (by rw[<-memQ_at ha];exact hmem)
  have l1:(lds k.rq)[a]=(k.rq[a]).2.length:=by simp only[lds,List.getElem_map]
  have l2:(lds k.rq)[b]=(k.rq[b]).2.length:=by simp only[lds,List.getElem_map]
  unfold mvN
  rw[ga,gb,l1,l2,hT]
  unfold lds
  rw[List.map_set,List.map_set]
  simp only[List.length_append,List.length_singleton]
  rw[show(pqDropS k.rq[a] id).2.length=(k.rq[a]).2.length-1 by omega]
theorem bal_same (hg:gapK k<2):balK k=k/\balId k=0:=by
 unfold balK balId
 rw[if_pos (show rqLoadE k.rq (busyC k)-rqLoadE k.rq (idleC k)<2 from hg),if_pos (show rqLoadE k.rq (busyC k)-rqLoadE k.rq (idleC k)<2 from hg)]
 exact⟨rfl,rfl⟩
end
def evBal:Evt:=(30,0,0,0,0)
theorem do_bal (k:K):doK k evBal=balK k:=by unfold doK rstK evBal;simp
theorem doR_bal (k:K):doR k evBal=ansR (balId k,0):=by unfold doR rstR evBal;simp
def balN (k:K):Nat->K
 | 0=>k
 | j+1=>doK (balN k j) evBal
theorem BS.bals {k:K} (h:BS k):∀j,BS (balN k j)
 | 0=>h
 | j+1=>(h.bals j).do_ (by unfold evBal;simp) (by unfold evBal;simp)
theorem balN_n (k:K):∀j,(balN k j).n=k.n
 | 0=>rfl
 | j+1=>(n_do _ _).trans (balN_n k j)
theorem bal_pot {k:K} (h:BS k):∀j,(lds (balN k j).rq).length=k.n/\sF idN (lds (balN k j).rq)=sF idN (lds k.rq)/\
  (potN (sF idN (lds k.rq)/k.n) (lds (balN k j).rq)+j<=potN (sF idN (lds k.rq)/k.n) (lds k.rq)∨gapK (balN k j)<2)
 | 0=>⟨by rw[lds_len];exact h.S.rq.len,rfl,.inl (Nat.le_refl _)⟩
 | j+1=>by
  have hB:=h.bals j
  obtain⟨h1,h2,h3⟩:=bal_pot h j
  have e:balN k (j+1)=balK (balN k j):=do_bal _
  rw[e]
  by_cases hg:gapK (balN k j)<2
  ·rw[(bal_same hg).1]
   exact⟨h1,h2,.inr hg⟩
  ·obtain⟨a,b,ha,hb,k1,k2,k3,k4⟩:=hB.moves hg
   have hq:=min_avg hb k2
   rw[h1,h2]at hq
   have hm:=mv_pot (q:=sF idN (lds k.rq)/k.n) ha hb k1 k2 k3 hq (by rw[h1,h2];exact Nat.mul_div_le _ _)
   rw[k4]
   refine⟨by rw[mvN_len];exact h1,by rw[hm.2];exact h2,.inl ?_⟩
   rcases h3 with h3|h3
   ·omega
   ·exact absurd h3 hg
theorem bal40 {k:K} (h:BS k):gapK (balN k 40)<2:=by
 rcases(bal_pot h 40).2.2 with h1|h1
 ·have h2:=pot_le (lds k.rq)
  have h3:=lds_sum h.S.rq h.ids
  have h4:(lds k.rq).length=k.n:=by rw[lds_len];exact h.S.rq.len
  rw[h4]at h2
  omega
 ·exact h1
def loadsL (x:RS) (n:Nat):List Int:=(List.range n).map fun c:Nat=>rqLoadE x (c:Int)
theorem loadsL_succ (x:RS) (n:Nat):loadsL x (n+1)=loadsL x n++[rqLoadE x (n:Int)]:=by
 unfold loadsL
 rw[List.range_succ,List.map_append]
 rfl
theorem loadsL_len (x:RS) (n:Nat):(loadsL x n).length=n:=by simp[loadsL]
theorem BS.gap {k:K} (h:BS k) (hg:gapK k<2) (m:BV):gapW (ldOfN (loadsL k.rq k.n) m k.n)<2:=by
 obtain⟨a,b,ha,hb,ea,eb,hmax,hmin⟩:=h.ends
 have hl:=h.S.rq.len
 have at_:∀{i:Nat} (hi:i<k.rq.length),rqLoadE k.rq (i:Int)=((lds k.rq).getD i 0:Nat):=by
  intro i hi
  rw[load_at hi,List.getD_eq_getElem?_getD,List.getElem?_eq_getElem (by rw[lds_len];exact hi)];rfl
 unfold gapK at hg
 rw[ea,eb,at_ ha,at_ hb]at hg
 have mem:∀u∈ldOfN (loadsL k.rq k.n) m k.n,∃v∈lds k.rq,u=(v:Int):=by
  intro u hu
  unfold ldOfN at hu
  obtain⟨c,hc,rfl⟩:=List.mem_map.1 hu
  have hc:=List.mem_range.1 (List.mem_filter.1 hc).1
  refine⟨(lds k.rq)[c]'(by rw[lds_len];omega),List.getElem_mem _,?_⟩
  unfold loadsL
  rw[List.getD_eq_getElem?_getD,List.getElem?_map,List.getElem?_range hc]
  exact load_at (by omega)
 have:=gapW_le (l:=ldOfN (loadsL k.rq k.n) m k.n) (fun u hu v hv=>?_) (fun u hu=>?_)
 ·omega
 ·obtain⟨x,hx,rfl⟩:=mem u hu
  obtain⟨y,hy,rfl⟩:=mem v hv
  have:=hmax x hx
  have:=hmin y hy
  omega
 ·obtain⟨x,hx,rfl⟩:=mem u hu
  obtain⟨i,hi,rfl⟩:=List.getElem_of_mem hx
  rw[lds_len]at hi
  have:=(h.S.rq.at hi).1.len
  have e:(lds k.rq)[i]'(by rw[lds_len];exact hi)=(k.rq[i]).2.length:=by simp only[lds,List.getElem_map]
  rw[e]
  omega
end Go.Dav
namespace Go.Dav
open Go.Proofs
theorem kactive_ok {b:Nat} {W w:World} {F:Fp} {k:K} (h:Turn (KO b) W w F k):Calls Tryz.prog 16 #[.pointer (some ⟨b,0,none⟩)] w fun e w'=>e=.returned (.int .u64 (mi k.ac))/\w'=w:=by
 obtain⟨q,hq⟩:=KO.fix h
 refine u16 ?_
 rw[t16]
 exact⟨fun g=>(by cases g),fun _=>⟨_,rfl,_,(KF.blk hq).cell rfl,rfl,rfl⟩⟩
theorem lb_wrk {σ:Type} {A:Ob σ} [Frame A] {p:Nat} {T:TypeId} {W w:World} {F:Fp} {s:σ} {l l':List Value} (h:Turn (Star A (Lb p T)) W w F (s,l)) {k:Nat} {v:Value} (hk:k<l.length) (e:l'=setL l k [v]) {K:World->Prop} (hK:∀w',Turn (Star A (Lb p T)) W w' F (s,l')->K w'):Wr w ((⟨p,0,none⟩:Addr).add k) [v] K:=by
 obtain⟨F2,hR,kR⟩:=h.right
 subst e
 exact hR.blk.wr (by simp only[List.length_singleton];omega) fun w' hW=>hK w' (kR w' _ (hR.turned hW.U hW.blk'))
theorem evL5 (e:Evt):(evC e).length=5:=rfl
def evM (m:BV) (e:Evt):Evt:=if e.1=3∨e.1=8 then(e.1,e.2.1,e.2.2.1,m,e.2.2.2.2)else e
def balS (m:BV) (k:K) (e:Evt):K:=if e.1=24 then k else doK k (evM m e)
theorem evM_fst (m:BV) (e:Evt):(evM m e).1=e.1:=by unfold evM;split<;>rfl
theorem BS.bal1 {k:K} (h:BS k) {m:BV} (hm:m=upM k.n) (e:Evt):BS (balS m k e)/\(balS m k e).n=k.n:=by
 unfold balS
 split
 ·exact⟨h,rfl⟩
 ·rename_i he
  refine⟨h.do_ (by rw[evM_fst];exact he) fun h38=>?_,n_do _ _⟩
  rw[evM_fst]at h38
  unfold evM
  rw[if_pos h38]
  exact hm
theorem BS.bals1 {m:BV}:∀(es:List Evt) {k:K},BS k->m=upM k.n->BS (es.foldl (balS m) k)/\(es.foldl (balS m) k).n=k.n
 | [],_,h,_=>⟨h,rfl⟩
 | e::es,k,h,hm=>by
  have h1:=h.bal1 hm e
  have h3:=BS.bals1 es h1.1 (hm.trans (by rw[h1.2]))
  subst hm
  exact⟨h3.1,h3.2.trans h1.2⟩
set_option maxRecDepth 100000 in
theorem bal7 {b be:Nat} {W w:World} {F:Fp} {k:K} {e':Evt} (hTab:Tab W) (h0:¬F 0) (hX:Turn (Star (KO b) (Lb be 33)) W w F (k,evC e')) (hnow:k.tm.now=k.now) {n u:Int} {q:Option Addr} {m c:Nat} {i:Int} {B:Env->World->Prop} {R:Ending->World->Prop}
  (hB:∀w',Turn (KO b) W w' F (if e'.1=24 then k else doK k e')->B [(0,SV.v (.int .i64 n)),(1,SV.v (.slice q m c)),(5,SV.v (.pointer (some ⟨b,0,none⟩))),(7,SV.v (.int .u64 u)),(8,SV.v (.int .i64 (IntKind.wrap .i64 (i+1))))] w') :
  CutD Tryz.prog M3 c3_7 (e3_7 n q m c (some ⟨b,0,none⟩) u i ⟨be,0,none⟩) w (k3_7 B R):=by
 refine CutD.mk ?_
 rw[t3_7]
 have hBk:=lb_blk hX
 refine⟨_,hBk.cell rfl,fun g=>⟨_,hBk.cell rfl,_,hBk.cell rfl,_,hBk.cell rfl,_,hBk.cell rfl,_,hBk.cell rfl,⟨?_⟩⟩,fun g=>hB _ ?_⟩
 ·obtain⟨F3,hA3,hT3,h03,k3⟩:=hX.leftG hTab h0
  refine(kdo_ok (e:=e') hT3 h03 (Turn.same hA3) hnow).mono ?_
  rintro e w11 ⟨pr,cr,rfl,hD⟩
  have h1:=k3 _ _ _ hD
  refine⟨_,_,_,rfl,hB _ ?_⟩
  have g:¬e'.1=24:=by simpa using g
  rw[if_neg g]
  exact h1.drop.drop
 ·have g:e'.1=24:=by simpa using g
  rw[if_pos g]
  exact hX.drop
set_option maxRecDepth 100000 in
theorem topBalances_ok {W:World} (hTab:Tab W) {n:Int} (hn:(Lit.int .i64 n).wf=true) {es:List Evt} {q:Option Addr} {c:Nat} (_:∀x∈es,okIIIUI x) (hq:Cells W q (es.flatMap recIIIUI)) (_:es.length<=maxLen) :
  Calls Tryz.prog 3 #[.int .i64 n,.slice q es.length c] W fun e w'=>e=.returned (.bool true)/\Upd no W w':=by
 replace hq:Cells W q (es.flatMap evC):=hq
 refine u3 ?_
 rw[t3]
 by_cases hN:1<=n/\n<=64
 case neg=>
  refine⟨(knewNo_ok n hN W).mono ?_⟩
  rintro e w1 ⟨rfl,rfl⟩
  refine⟨_,_,rfl,fun g=>by simp at g,fun _=>⟨(alive_ok hTab).mono ?_⟩⟩
  rintro e w2 ⟨rfl,hU⟩
  exact⟨_,rfl,rfl,hU⟩
 obtain⟨N,rfl⟩:∃N:Nat,n=(N:Int):=⟨n.toNat,by omega⟩
 have hN':1<=N/\N<=64:=by omega
 refine⟨(knew_ok N hN' W).mono ?_⟩
 rintro e w1 ⟨b,F,rfl,hK,hU1,hF⟩
 have hT1:Tab w1:=hTab.no hU1
 have hp:=hTab.pos
 have h0:¬F 0:=fun h=>by have:=hF 0 h;omega
 have up:∀{σ:Type} {A:Ob σ} {s:σ} {w':World},Turn A w1 w' F s->Upd no W w':=fun⟨_,_,hU,_⟩=>hU1.trans hU (fun i hi hf=>by have:=hF i hf;omega)
 refine⟨_,_,rfl,fun _=>⟨(few_ok (N:Int) w1).mono ?_⟩,fun g=>by simp at g⟩
 rintro e w2 ⟨rfl,rfl⟩
 refine⟨_,rfl,fun g=>⟨(alive_ok hT1).mono ?_⟩,fun g=>?_⟩
 ·rintro e w3 ⟨rfl,hU⟩
  exact⟨_,rfl,rfl,hU1.trans hU (fun _ _ h=>h)⟩
 have g:1<=(N:Int)/\(N:Int)<=9/\es.length<=300:=by simpa using g
 refine⟨(mUpto_ok (N:Int) _).mono ?_⟩
 rintro e w3 ⟨rfl,rfl⟩
 refine⟨_,rfl,⟨?_⟩⟩
 have hbs:∀i,BS ((es.take i).foldl (balS (upM (N:Int))) (newK' N))/\((es.take i).foldl (balS (upM (N:Int))) (newK' N)).n=N:=fun i=>BS.bals1 _ (BS.new hN') rfl
 refine WP_loop okProg (M:=M3) (σ:=Nat) (fun i=>e3_2 (N:Int) q es.length c (some ⟨b,0,none⟩) (mi (upM (N:Int))) (i:Int)) (fun i w'=>i<=es.length/\Turn (KO b) w3 w' F ((es.take i).foldl (balS (upM (N:Int))) (newK' N))) (fun i _=>es.length-i) 0 ⟨rfl,rfl,rfl,rfl,rfl,trivial⟩ ⟨Nat.zero_le _,Turn.same hK⟩ ?_
 intro i w5 hI
 have hi:=hI.1
 have hS:=hI.2
 clear hI
 rw[t3_2]
 refine⟨fun g1=>?_,fun g1=>CutD.mk ?_⟩
 ·have hi':i<es.length:=by simpa using g1
  obtain⟨a,ha,hc⟩:=(hq.no (up hS)).atk evL5 (by decide) hi'
  refine⟨⟨by omega,by omega⟩,a,ha,_,hc 0 _ rfl,_,hc 1 _ rfl,_,hc 2 _ rfl,_,hc 3 _ rfl,_,hc 4 _ rfl,⟨fun w8 hN8=>?_⟩⟩
  have hS8:Turn (Star (KO b) (Lb w5.heap.size 33)) w3 w8 F (_,[.int .i64 0,.int .i64 0,.int .i64 0,.int .u64 0,.int .i64 0]):=hS.add (hN8.upd no) (Rw.new hN8 rfl) (fun i hi=>Nat.le_of_eq hi.symm)
  generalize w5.heap.size=be at hS8⊢
  refine lb_wr (vs:=evC es[i]) hS8 rfl fun w9 hS9=>?_
  have hB:=lb_blk hS9
  have hnow:=(hbs i).1.S.tmt
  have es1:(es.take (i+1)).foldl (balS (upM (N:Int))) (newK' N)=balS (upM (N:Int)) ((es.take i).foldl (balS (upM (N:Int))) (newK' N)) es[i]:=by
   rw[List.take_succ_eq_append_getElem hi',List.foldl_append];rfl
  have ei:IntKind.wrap .i64 ((i:Int)+1)=((i+1:Nat):Int):=by rw[w64 (by omega)];rfl
  have fin:∀w',Turn (KO b) w3 w' F (if(evM (upM (N:Int)) es[i]).1=24 then(es.take i).foldl (balS (upM (N:Int))) (newK' N)else doK ((es.take i).foldl (balS (upM (N:Int))) (newK' N)) (evM (upM (N:Int)) es[i]))->Turn (KO b) w3 w' F ((es.take (i+1)).foldl (balS (upM (N:Int))) (newK' N)):=by
   intro w' h
   rw[es1]
   rw[evM_fst]at h
   exact h
  refine⟨_,hB.cell rfl,fun g3=>⟨_,hB.cell rfl,fun g8=>?_,fun g8=>?_⟩,fun g3=>?_⟩
  ·have e8:es[i].1=8:=by simpa using g8
   refine lb_wrk (l':=evC (evM (upM (N:Int)) es[i])) hS9 (by rw[evL5];decide) (by unfold evM;rw[if_pos (.inr e8)];rfl) fun w10 hS10=>bal7 hT1 h0 hS10 hnow fun w' hT=>?_
   exact⟨i+1,⟨rfl,rfl,rfl,rfl,by rw[ei]<;>rfl,trivial⟩,⟨by omega,fin _ hT⟩,by omega⟩
  ·have e8:¬es[i].1=8:=by simpa using g8
   have e3:¬es[i].1=3:=by simpa using g3
   have ee:evM (upM (N:Int)) es[i]=es[i]:=by unfold evM;rw[if_neg (fun h=>h.elim e3 e8)]
   refine bal7 hT1 h0 (by rw[<-ee]at hS9;exact hS9) hnow fun w' hT=>?_
   exact⟨i+1,⟨rfl,rfl,rfl,rfl,by rw[ei]<;>rfl,trivial⟩,⟨by omega,fin _ hT⟩,by omega⟩
  ·have e3:es[i].1=3:=by simpa using g3
   refine lb_wrk (l':=evC (evM (upM (N:Int)) es[i])) hS9 (by rw[evL5];decide) (by unfold evM;rw[if_pos (.inl e3)];rfl) fun w10 hS10=>bal7 hT1 h0 hS10 hnow fun w' hT=>?_
   exact⟨i+1,⟨rfl,rfl,rfl,rfl,by rw[ei]<;>rfl,trivial⟩,⟨by omega,fin _ hT⟩,by omega⟩
 clear hbs hi g1
 obtain⟨hb0,hn0⟩:=BS.bals1 (m:=upM (N:Int)) (es.take i) (BS.new hN') rfl
 generalize (es.take i).foldl (balS (upM (N:Int))) (newK' N)=k0 at hS hb0 hn0
 have hn0:k0.n=N:=hn0
 rw[t3_0]
 refine⟨WP_loop okProg (M:=M3) (σ:=Nat) (fun j=>e3_4 (N:Int) (some ⟨b,0,none⟩) (j:Int)) (fun j w'=>j<=40/\Turn (KO b) w3 w' F (balN k0 j)) (fun j _=>40-j) 0 ⟨rfl,rfl,rfl,trivial⟩ ⟨Nat.zero_le _,hS⟩ ?_⟩
 intro j w6 hI
 have hj:=hI.1
 have hS6:=hI.2
 clear hI
 rw[t3_4]
 refine⟨fun g1=>?_,fun g1=>CutD.mk ?_⟩
 ·have g1:=of_decide_eq_true g1
  refine⟨(kdo_ok (e:=evBal) hT1 h0 hS6 (hb0.bals j).S.tmt).mono ?_⟩
  rintro e w7 ⟨pr,cr,rfl,hD⟩
  exact⟨_,_,_,rfl,j+1,⟨rfl,rfl,by rw[w64 (by omega)]<;>rfl,trivial⟩,⟨by omega,hD.drop⟩,by omega⟩
 have g1:=of_decide_eq_false g1
 have e40:j=40:=by omega
 subst e40
 have hB40:=hb0.bals 40
 have hg40:=bal40 hb0
 have hn40:(balN k0 40).n=N:=(balN_n k0 40).trans hn0
 generalize balN k0 40=kb at hS6 hB40 hg40 hn40
 obtain⟨F6,hK6,hT6',kS6,hF6⟩:∃F6,KO b w6 F6 kb/\Tab w6/\¬F6 0/\∀i,F6 i->W.heap.size<=i:=by
  have ht:=hS6.tab hT1 h0
  obtain⟨F6,a1,a2,a3⟩:=hS6
  have hz:=hU1.size
  have key:∀i,F6 i->W.heap.size<=i:=fun i hi=>(a3 i hi).elim (hF i) fun h=>by omega
  exact⟨F6,a1,ht,fun h=>by have:=key 0 h;omega,key⟩
 have hU6:Upd no W w6:=up hS6
 rw[t3_1]
 refine⟨WP_loop okProg (M:=M3) (σ:=Nat×Option Addr×Nat) (fun s=>e3_6 (N:Int) (some ⟨b,0,none⟩) s.2.1 (loadsL kb.rq s.1).length s.2.2 (s.1:Int)) (fun s w'=>s.1<=N/\Loc w6 w' 3 s.2.1 s.2.2 (loadsL kb.rq s.1)) (fun s _=>N-s.1) (0,none,0) ⟨rfl,rfl,rfl,rfl,trivial⟩ ⟨Nat.zero_le _,Loc.nil (Upd.refl _ _) _⟩ ?_⟩
 rintro⟨s,po,co⟩ w7 ⟨hs1,hL⟩
 simp only at hs1 hL⊢
 have hK7:Turn (KO b) w6 w7 F6 kb:=(Turn.same hK6).upd hL.U
 rw[t3_6]
 refine⟨fun g2=>?_,fun g2=>CutD.mk ?_⟩
 ·have g2:=of_decide_eq_true g2
  refine⟨(kqueues_ok hK7).mono ?_⟩
  rintro e w8 ⟨r,rfl,hU8,F8,hR8⟩
  refine⟨_,rfl,⟨(rqload_ok hR8 (s:Int)).mono ?_⟩⟩
  rintro e w9 ⟨rfl,rfl⟩
  refine⟨_,rfl,⟨fun w10 hN10=>?_⟩⟩
  have hlen:=loadsL_len kb.rq s
  obtain⟨p',c',w11,hr,hL'⟩:=(hL.upd hU8).push elI_Lst (by omega) hN10 36
  rw[<-loadsL_succ]at hr hL'
  exact⟨p',_,c',w11,hr,(s+1,p',c'),⟨rfl,rfl,rfl,by rw[w64 (by omega)]<;>rfl,trivial⟩,⟨by simp only;omega,hL'⟩,by simp only;omega⟩
 have g2:=of_decide_eq_false g2
 have eN:s=N:=by omega
 subst eN
 have hlen:=loadsL_len kb.rq s
 rw[t3_3]
 have hS7:Turn (Star (KO b) (Ls 3)) w6 w7 F6 (kb,(po,co,loadsL kb.rq s)):=(Turn.same hK6).add hL.U ⟨fun _=>Iff.rfl,hL.S⟩ hL.F
 obtain⟨F7,hA7,hT7,h07,k7⟩:=hS7.leftG hT6' kS6
 refine⟨(kdo_ok (e:=evBal) hT7 h07 (Turn.same hA7) hB40.S.tmt).mono ?_⟩
 rintro e w8 ⟨pr,cr,rfl,hD⟩
 have hS8:=k7 _ _ _ hD
 have hUF:Upd no W w8:=by
  obtain⟨_,_,hU,_⟩:=hS8
  exact hU6.trans hU fun i hi hf=>by have:=hF6 i hf;omega
 have hRs:Cells w8 pr ((doR kb evBal).flatMap rcE_Kdo):=by obtain⟨_,hR,_⟩:=hS8.drop.right;exact hR.cells
 have hLs:Cells w8 po ((loadsL kb.rq s).map (Value.int .i64)):=by obtain⟨_,hR,_⟩:=hS8.right;exact hR.2.cells
 have hK8:=hS8.drop.drop
 refine⟨_,_,_,rfl,⟨(kactive_ok hK8).mono ?_⟩⟩
 rintro e w9 ⟨rfl,rfl⟩
 refine⟨_,rfl,⟨(sgap_ok_Sgap hLs (by omega) _).mono ?_⟩⟩
 rintro e w10 ⟨rfl,hU10⟩
 have hgap:gapW (ldOfN (loadsL kb.rq s) (doK kb evBal).ac (loadsL kb.rq s).length)<2:=by
  rw[hlen]
  have:=hB40.gap hg40 (doK kb evBal).ac
  rw[hn40]at this
  exact this
 have hdr:doR kb evBal=[(1,0,0,0,0)]:=by rw[doR_bal,(bal_same hg40).2];rfl
 rw[hdr]at hRs
 have hlen1:(doR kb evBal).length=1:=by rw[hdr];rfl
 refine⟨_,rfl,fun _=>⟨fun _=>?_,fun g3=>by rw[hlen1]at g3;simp at g3⟩,fun g3=>by rw[decide_eq_true hgap]at g3;cases g3⟩
 obtain⟨a,ha,hc⟩:=(hRs.no hU10).atk (i:=0) rcE_len (by decide) (by decide)
 refine⟨⟨by omega,by rw[hlen1];decide⟩,a,ha,_,hc 2 _ rfl,fun _=>⟨(alive_ok (hTab.no (hUF.trans hU10 (fun _ _ h=>h)))).mono ?_⟩,fun g4=>by simp at g4⟩
 rintro e w11 ⟨rfl,hU11⟩
 exact⟨_,rfl,rfl,(hUF.trans hU10 (fun _ _ h=>h)).trans hU11 (fun _ _ h=>h)⟩
end Go.Dav
