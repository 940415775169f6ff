/- The statements on things that are spread over cores: what their functions come to. -/
import Derived.Test.YtfmehojcgdfghaaDoorRSpread39
set_option linter.unusedSimpArgs false
set_option linter.unusedVariables false
namespace Go.Dav
open Go.Proofs
theorem Tab.pos {w : World} (h : Tab w) : 0 < w.heap.size := by
  obtain ⟨a, ha, hc⟩ := h 0 _ (by rfl)
  obtain ⟨o, ho, _⟩ := cells_of_cell hc
  have := lt_of_blk ho
  omega
theorem eqMv (x y : MV) (w : World) : ∃ b, (Op.equal 57 (.agg (recIII x).toArray) (.agg (recIII y).toArray)).run Tryd.prog w = .ok b w ∧ (b = true ↔ x = y) := by
  refine ⟨_, run_eq_struct (recIII x) (by kernel_rfl) (by kernel_rfl) (by kernel_rfl) (vs := recIII y) (by rfl) w, ?_⟩
  simp only [recIII, eqL, scEq, Bool.and_true, Bool.and_eq_true, beq_iff_eq]
  constructor
  · rintro ⟨h1, h2, h3⟩
    exact Prod.ext h1 (Prod.ext h2 h3)
  · rintro rfl; exact ⟨rfl, rfl, rfl⟩
def knL : List TI := [(1, 0, 3), (2, 0, 3), (3, 0, 1)]
def knE : List TI := [(1, 0, 3), (2, 1, 3), (3, 0, 1)]
theorem kn_run : runP 3 knL 1 = some ([(2, 0, 1)], knE) := by decide +kernel
theorem kn_end : stepP 3 (([(2, 0, 1)], knE) : PS) = none := by decide +kernel
theorem known_ok {w : World} (hTab : Tab w) : Calls Tryd.prog 7 #[] w fun e w' => e = .returned (.bool true) ∧ Upd no w w' := by
  refine u7 ?_
  rw [t7]
  refine ⟨fun w1 hN => ?_⟩
  have hU1 := hN.upd no
  have hC : Cells w1 (some ⟨w.heap.size, 0, none⟩) (knL.flatMap recIIU) := (Sl.new (T := 59) (n := 3) (sz := 3) (cs := knL.flatMap recIIU) hN (by rfl) (by decide)).cells
  refine ⟨(splan_ok 2 3 (l := knL) hC (by decide) (hTab.no hU1) (hTab.no hU1).pos).mono ?_⟩
  rintro e w2 (⟨h, _⟩ | ⟨_, k, s, p', c', hR, hE, rfl, hL⟩)
  · exact absurd (by decide +kernel) h
  have hs := runP_end hR hE kn_run kn_end
  subst hs
  have hU2 := hU1.and hL.U
  have hLC := hL.S.cells
  dsimp only at hLC ⊢
  refine ⟨_, _, _, _, rfl, ⟨(sapply_ok (hC.no hL.U) (by decide) hLC (by decide)).mono ?_⟩⟩
  have hap := runP_ap (m := 3) (by decide) (mayE_ok (n := 2) (m := 3) (l := knL) (by decide +kernel)).2.2.2 kn_run
  rintro e w3 (⟨h, _⟩ | ⟨l', p2, c2, hl', rfl, hL3⟩)
  · rw [hap] at h; cases h
  rw [hap] at hl'
  have := Option.some.inj hl'
  simp only at this
  subst this
  have hU3 := hU2.and hL3.U
  have hLC3 := hLC.no hL3.U
  refine ⟨_, _, _, _, rfl, ⟨(sloads_ok 2 hL3.S.cells (by decide)).mono ?_⟩⟩
  have el : loadsE 2 knE = [2, 1] := by decide +kernel
  rw [el]
  rintro e w4 ⟨p3, c3, rfl, hL4⟩
  have hU4 := hU3.and hL4.U
  have hLC4 := hLC3.no hL4.U
  obtain ⟨a, ha, hc⟩ := hLC4.atk recIII_len (by decide) (i := 0) (by decide)
  obtain ⟨b, hb, hbb⟩ := eqMv (2, 0, 1) (2, 0, 1) w4
  have hbt : b = true := hbb.2 rfl
  refine ⟨_, _, _, rfl, fun _ => ⟨fun _ => ⟨⟨by omega, by decide⟩, a, ha, _, hc 0 _ rfl, _, hc 1 _ rfl, _, hc 2 _ rfl, b, hb, rfl, fun _ => ⟨fun _ => ⟨fun w5 hN5 => ?_⟩, fun g => by simp at g⟩, fun g => by rw [hbt] at g; cases g⟩, fun g => by simp at g⟩, fun g => by simp at g⟩
  have hC2 := (Sl.new (T := 3) (n := 2) (sz := 1) (cs := ([2, 1] : List Int).map (Value.int .i64)) hN5 (by simp) (by decide)).cells
  have hU5 := hU4.and (hN5.upd no)
  have hL5 := hL4.S.cells.no (hN5.upd no)
  refine ⟨(ints_ok hL5 hC2 (by decide)).mono ?_⟩
  rintro e w6 ⟨rfl, hU6⟩
  refine ⟨_, rfl, fun _ => ⟨(sgap_ok (hL5.no hU6) (by decide) 3).mono ?_⟩, fun g => by simp at g⟩
  rintro e w7 ⟨rfl, hU7⟩
  have eg : gapW (ldOfN [2, 1] 3 ([2, 1] : List Int).length) = 1 := by decide +kernel
  rw [eg]
  refine ⟨_, rfl, fun _ => ⟨(sweight_ok ((hL5.no hU6).no hU7) (by decide)).mono ?_⟩, fun g => by simp at g⟩
  rintro e w8 ⟨rfl, rfl⟩
  have ew : wtN [2, 1] ([2, 1] : List Int).length = 5 := by decide +kernel
  rw [ew]
  exact ⟨_, rfl, rfl, (hU5.and hU6).and hU7⟩

theorem spreadLoads_ok {W : World} (hTab : Tab W) {cpus : Int} {p : Option Addr} {l : List TI} {c : Nat} {q : Option Addr} {ld : List Int} {d : Nat} (_ : (Lit.int .i64 cpus).wf = true) (_ : ∀ x ∈ l, okIIU x) (h : Cells W p (l.flatMap recIIU)) (_ : l.length ≤ maxLen)
    (_ : ∀ x ∈ ld, (Lit.int .i64 x).wf = true) (hq : Cells W q (ld.map (Value.int .i64))) (_ : ld.length ≤ maxLen) (m : BV) :
    Calls Tryd.prog 3 #[.int .i64 cpus, .slice p l.length c, .slice q ld.length d, .int .u64 (mi m)] W fun e w' => e = .returned (.bool true) ∧ Upd no W w' := by
  refine u3 ?_
  rw [t3]
  have hk : Call Tryd.prog 7 [] W fun e w' => ∃ b, e = .returned (.bool b) ∧ Ending.returned (.bool b) = .returned (.bool true) ∧ Upd no W w' := ⟨(known_ok hTab).mono fun e w' ⟨h1, h2⟩ => ⟨_, h1, rfl, h2⟩⟩
  refine ⟨fun g1 => ⟨fun g2 => hk, fun g2 => ?_⟩, fun g1 => hk⟩
  have hl : l.length ≤ 100 := by simp at g1; omega
  have hld : ld.length ≤ 100 := by simp at g2; omega
  refine ⟨WP_loop okProg (M := M3) (σ := Nat) (fun i => e3_1 cpus p l.length c q ld.length d (mi m) (i : Int)) (fun i w' => i ≤ ld.length ∧ w' = W) (fun i _ => ld.length - i) 0 ⟨rfl, rfl, rfl, rfl, rfl, trivial⟩ ⟨by omega, rfl⟩ ?_⟩
  rintro i w ⟨i1, rfl⟩
  rw [t3_1]
  refine ⟨fun g3 => ?_, fun g3 => CutD.mk ?_⟩
  · have hi : i < ld.length := by simpa using g3
    obtain ⟨a, ha, hc⟩ := hq.at1 hi
    exact ⟨⟨by omega, by omega⟩, a, ha, _, hc, fun _ => ⟨⟨by omega, by omega⟩, a, ha, _, hc, fun _ => hk, fun _ => ⟨i + 1, ⟨rfl, rfl, rfl, rfl, by rw [w64 (by omega)]; rfl, trivial⟩, ⟨by omega, rfl⟩, by omega⟩⟩, fun _ => hk⟩
  · rw [t3_0]
    refine ⟨(given_ok h (by omega)).mono ?_⟩
    rintro e w1 ⟨p1, c1, rfl, hL1⟩
    refine ⟨_, _, _, rfl, ⟨(sloads_ok cpus hL1.S.cells (by omega)).mono ?_⟩⟩
    rintro e w2 ⟨p2, c2, rfl, hL2⟩
    have hU2 := hL1.U.and hL2.U
    refine ⟨_, _, _, rfl, ⟨(rloads_ok cpus (h.no hU2) (by omega)).mono ?_⟩⟩
    rintro e w3 ⟨p3, c3, rfl, hL3⟩
    have hU3 := hU2.and hL3.U
    have hle : (loadsE cpus l).length ≤ 64 := by
      unfold loadsE
      split
      · rw [ldL_len]; omega
      · simp
    refine ⟨_, _, _, rfl, ⟨(ints_ok (hL2.S.cells.no hL3.U) hL3.S.cells (by omega)).mono ?_⟩⟩
    rintro e w4 ⟨rfl, hU⟩
    have hU4 := hU3.and hU
    refine ⟨_, rfl, fun _ => ⟨(sgap_ok (hq.no hU4) (by omega) m).mono ?_⟩, fun g => by simp at g⟩
    rintro e w5 ⟨rfl, hU⟩
    have hU5 := hU4.and hU
    refine ⟨_, rfl, ⟨(rgap_ok (hq.no hU5) (by omega) m).mono ?_⟩⟩
    rintro e w6 ⟨rfl, rfl⟩
    refine ⟨_, rfl, fun _ => ⟨(sweight_ok (hq.no hU5) (by omega)).mono ?_⟩, fun g => by simp at g⟩
    rintro e w6 ⟨rfl, rfl⟩
    refine ⟨_, rfl, ⟨(rweight_ok (hq.no hU5) (by omega)).mono ?_⟩⟩
    rintro e w7 ⟨rfl, hU⟩
    have hU7 := hU5.and hU
    refine ⟨_, rfl, fun _ => ?_, fun g => by simp at g⟩
    refine ⟨(known_ok (hTab.no hU7)).mono ?_⟩
    rintro e w99 ⟨rfl, hU99⟩
    exact ⟨_, rfl, rfl, hU7.and hU99⟩

theorem spreadPlans_ok {W : World} (hTab : Tab W) {cpus : Int} {p : Option Addr} {l : List TI} {c : Nat} {q : Option Addr} {mvs : List MV} {d : Nat} (_ : (Lit.int .i64 cpus).wf = true) (m : BV) (_ : ∀ x ∈ l, okIIU x) (h : Cells W p (l.flatMap recIIU)) (_ : l.length ≤ maxLen)
    (_ : ∀ x ∈ mvs, okIII x) (hq : Cells W q (mvs.flatMap recIII)) (_ : mvs.length ≤ maxLen) :
    Calls Tryd.prog 4 #[.int .i64 cpus, .int .u64 (mi m), .slice p l.length c, .slice q mvs.length d] W fun e w' => e = .returned (.bool true) ∧ Upd no W w' := by
  refine u4 ?_
  rw [t4]
  have hk : Call Tryd.prog 7 [] W fun e w' => ∃ b, e = .returned (.bool b) ∧ Ending.returned (.bool b) = .returned (.bool true) ∧ Upd no W w' := ⟨(known_ok hTab).mono fun e w' ⟨h1, h2⟩ => ⟨_, h1, rfl, h2⟩⟩
  refine ⟨fun g1 => ⟨fun g2 => hk, fun g2 => ⟨(given_ok h (by simp at g1; omega)).mono ?_⟩⟩, fun g1 => hk⟩
  have hl : l.length ≤ 70 := by simp at g1; omega
  have hm : mvs.length ≤ 100 := by simp at g2; omega
  clear hk
  rintro e w1 ⟨p1, c1, rfl, hL1⟩
  have hU1 := hL1.U
  refine ⟨_, _, _, rfl, ⟨(splan_ok cpus m hL1.S.cells (by omega) (hTab.no hU1) (hTab.no hU1).pos).mono ?_⟩⟩
  intro e w2 hs
  obtain ⟨pa, ca, out, rfl, ho, hCa, hU2, hfa⟩ : ∃ pa ca out, e = .returned (.tuple #[.slice pa out.length ca, .int .i64 (mayE cpus m l)]) ∧ out.length ≤ 5000 ∧ Cells w2 pa (out.flatMap recIII) ∧ Upd no W w2 ∧ (mayE cpus m l = 0 → ∃ k s, runP m l k = some s ∧ stepP m s = none ∧ out = s.1) ∧ (mayE cpus m l ≠ 0 → out = []) := by
    rcases hs with ⟨h0, rfl, hU⟩ | ⟨h0, k, s, p', c', hR, hE, rfl, hL⟩
    · exact ⟨none, 0, [], rfl, by simp, Cells.nil _ _, hU1.and hU, fun h => absurd h h0, fun _ => rfl⟩
    · have hI := runP_I (mayE_ok h0).2.1 (mayE_ok h0).2.2.2 hR
      have h2 := sqN_le (mayE_ok h0).2.2.2.len 64
      have h3 := hI.wt
      have h4 := hI.len
      exact ⟨p', c', s.1, by rw [h0], by omega, hL.S.cells, hU1.and hL.U, fun _ => ⟨k, s, hR, hE, rfl⟩, fun h => absurd h0 h⟩
  refine ⟨_, _, _, _, rfl, ⟨(rplan_ok cpus m (h.no hU2) (by omega)).mono ?_⟩⟩
  intro e w3 hs'
  obtain ⟨pb, cb, rfl, hCb, hU3, hU23⟩ : ∃ pb cb, e = .returned (.tuple #[.slice pb out.length cb, .int .i64 (mayE cpus m l)]) ∧ Cells w3 pb (out.flatMap recIII) ∧ Upd no W w3 ∧ Upd no w2 w3 := by
    rcases hs' with ⟨h0, rfl, hU⟩ | ⟨h0, k, s, p', c', hR, hE, rfl, hL⟩
    · have := hfa.2 h0
      subst this
      exact ⟨none, 0, rfl, Cells.nil _ _, hU2.and hU, hU⟩
    · obtain ⟨k2, s2, hR2, hE2, rfl⟩ := hfa.1 h0
      have := runP_end hR hE hR2 hE2
      subst this
      exact ⟨p', c', by rw [h0], hL.S.cells, hU2.and hL.U, hL.U⟩
  replace hCa := hCa.no hU23
  clear hs hs' hfa hU23
  refine ⟨_, _, _, _, rfl, ⟨(given_ok (h.no hU3) (by omega)).mono ?_⟩⟩
  rintro e w4 ⟨p4, c4, rfl, hL4⟩
  have hU4 := hU3.and hL4.U
  refine ⟨_, _, _, rfl, ⟨(given2_ok (hq.no hU4) (by omega)).mono ?_⟩⟩
  rintro e w5 ⟨p5, c5, rfl, hL5⟩
  have hU5 := hU4.and hL5.U
  have hU35 := hL4.U.and hL5.U
  refine ⟨_, _, _, rfl, ⟨(sapply_ok (hL4.S.cells.no hL5.U) (by omega) hL5.S.cells (by omega)).mono ?_⟩⟩
  intro e w6 hs
  obtain ⟨pc, cc, x, ev, rfl, hxl, hCc, hU56, hfa⟩ : ∃ pc cc x ev, e = .returned (.tuple #[.slice pc x.length cc, .int .i64 ev]) ∧ x.length ≤ 70 ∧ Cells w6 pc (x.flatMap recIIU) ∧ Upd no w5 w6 ∧ (apL l mvs = none → x = [] ∧ ev = 4) ∧ ∀ y, apL l mvs = some y → x = y ∧ ev = 0 := by
    rcases hs with ⟨h0, rfl, hU⟩ | ⟨l', p', c', h0, rfl, hL⟩
    · exact ⟨none, 0, [], 4, rfl, by simp, Cells.nil _ _, hU, fun _ => ⟨rfl, rfl⟩, fun y hy => by rw [h0] at hy; cases hy⟩
    · exact ⟨p', c', l', 0, rfl, by rw [apL_len h0]; exact hl, hL.S.cells, hL.U, fun hy => by rw [h0] at hy; (cases hy), fun y hy => by rw [h0] at hy; exact ⟨Option.some.inj hy, rfl⟩⟩
  have hU6 := hU5.and hU56
  refine ⟨_, _, _, _, rfl, ⟨(rapply_ok (h.no hU6) (by omega) (hq.no hU6) (by omega)).mono ?_⟩⟩
  intro e w7 hs'
  obtain ⟨pd, cd, rfl, hCd, hU67⟩ : ∃ pd cd, e = .returned (.tuple #[.slice pd x.length cd, .int .i64 ev]) ∧ Cells w7 pd (x.flatMap recIIU) ∧ Upd no w6 w7 := by
    rcases hs' with ⟨h0, rfl, hU⟩ | ⟨l', p', c', h0, rfl, hL⟩
    · obtain ⟨rfl, rfl⟩ := hfa.1 h0
      exact ⟨none, 0, rfl, Cells.nil _ _, hU⟩
    · obtain ⟨rfl, rfl⟩ := hfa.2 _ h0
      exact ⟨p', c', rfl, hL.S.cells, hL.U⟩
  have hU37 := (hU35.and hU56).and hU67
  have hU7 := hU6.and hU67
  replace hCa := hCa.no hU37
  replace hCb := hCb.no hU37
  replace hCc := hCc.no hU67
  clear hs hs' hfa
  refine ⟨_, _, _, _, rfl, ⟨(taken2_ok hCa (by omega)).mono ?_⟩⟩
  rintro e w8 ⟨p8, c8, rfl, hL8⟩
  have hU8 := hU7.and hL8.U
  refine ⟨_, _, _, rfl, ⟨(rMoves_ok hL8.S.cells (hCb.no hL8.U) (by omega)).mono ?_⟩⟩
  rintro e w9 ⟨rfl, hU⟩
  have hU9 := hU8.and hU
  have hU79 := hL8.U.and hU
  refine ⟨_, rfl, fun _ => ⟨fun _ => ⟨(taken_ok (hCc.no hU79) (by omega)).mono ?_⟩, fun g => by simp at g⟩, fun g => by simp at g⟩
  rintro e w10 ⟨p10, c10, rfl, hL10⟩
  have hU10 := hU9.and hL10.U
  refine ⟨_, _, _, rfl, ⟨(rSame_ok hL10.S.cells ((hCd.no hU79).no hL10.U) (by omega)).mono ?_⟩⟩
  rintro e w11 ⟨rfl, hU⟩
  have hU11 := hU10.and hU
  refine ⟨_, rfl, fun _ => ⟨fun _ => ?_, fun g => by simp at g⟩, fun g => by simp at g⟩
  refine ⟨(known_ok (hTab.no hU11)).mono ?_⟩
  rintro e w99 ⟨rfl, hU99⟩
  exact ⟨_, rfl, rfl, hU11.and hU99⟩

/-! ### SpreadEven -/
def orL (m : BV) (l : List TI) : List TI := l.map fun x => (x.1, x.2.1, m ||| x.2.2)
theorem orL_may {m : BV} {l : List TI} : ∀ x ∈ orL m l, ∀ c, hs m c = true → hs x.2.2 c = true := by
  intro x hx c hc
  obtain ⟨y, _, rfl⟩ := List.mem_map.1 hx
  rw [hs_or, hc]; rfl
/-- At a plan's end no load differs by more than one. -/
theorem even_end {m : BV} (hm : m ≠ 0) {s : PS} (hE : stepP m s = none) (hall : ∀ x ∈ s.2, ∀ c, hs m c = true → hs x.2.2 c = true) : ∀ c ∈ cs m, ∀ d ∈ cs m, (cnC s.2 c : Int) ≤ cnC s.2 d + 1 := by
  obtain ⟨a1, a2⟩ := bestOf_in (gt := gtB) hm s.2
  obtain ⟨b1, b2⟩ := bestOf_in (gt := ltB) hm s.2
  have hd : (cnC s.2 (bestOf gtB m s.2) : Int) - cnC s.2 (bestOf ltB m s.2) < 2 := by
    rcases step_cases hm s with ⟨_, h | h⟩ | ⟨i, a, b, hS, h⟩
    · exact h
    · rcases lastN_cases (l := s.2) (a := bestOf gtB m s.2) (b := bestOf ltB m s.2) (Nat.le_refl _) with ⟨_, k2⟩ | ⟨i, hi, k1, _⟩
      · have : cnC s.2 (bestOf gtB m s.2) = 0 := by
          unfold cnC
          rw [List.countP_eq_zero]
          intro x hx hxe
          obtain ⟨i, hi, rfl⟩ := List.getElem_of_mem hx
          have h1 := k2 i hi
          unfold satI at h1
          rw [hxe, hall _ (List.getElem_mem hi) _ b1] at h1
          cases h1
        omega
      · rw [k1] at h; omega
    · rw [hE] at h; cases h
  intro c hc d hd'
  have h1 := bestF_gt a2 c hc
  have h2 := bestF_lt b2 d hd'
  omega
theorem gap_end {m : BV} {N : Nat} {l : List TI} (hl : l.length ≤ 64) (h : ∀ c ∈ cs m, ∀ d ∈ cs m, (cnC l c : Int) ≤ cnC l d + 1) : gapW (ldOfN (ldL N l) m (ldL N l).length) ≤ 1 := by
  have hin : ∀ u ∈ ldOfN (ldL N l) m (ldL N l).length, ∃ c ∈ cs m, u = (cnC l c : Int) := by
    intro u hu
    unfold ldOfN at hu
    obtain ⟨c, hc, rfl⟩ := List.mem_map.1 hu
    obtain ⟨h1, h2⟩ := List.mem_filter.1 hc
    have h3 := List.mem_range.1 h1
    rw [ldL_len] at h3
    have h4 := hs_in h2
    exact ⟨c, mem_upto.2 ⟨h4.1, h4.2, h2⟩, by simp [ldL, h3]⟩
  refine gapW_le (fun u hu v hv => ?_) (fun u hu => ?_)
  · obtain ⟨c, hc, rfl⟩ := hin u hu
    obtain ⟨d, hd, rfl⟩ := hin v hv
    exact h c hc d hd
  · obtain ⟨c, _, rfl⟩ := hin u hu
    have := cnC_le l c
    omega
theorem spreadEven_ok {W : World} (hTab : Tab W) {cpus : Int} {p : Option Addr} {l : List TI} {c : Nat} (_ : (Lit.int .i64 cpus).wf = true) (m : BV) (_ : ∀ x ∈ l, okIIU x) (h : Cells W p (l.flatMap recIIU)) (_ : l.length ≤ maxLen) :
    Calls Tryd.prog 5 #[.int .i64 cpus, .int .u64 (mi m), .slice p l.length c] W fun e w' => e = .returned (.bool true) ∧ Upd no W w' := by
  refine u5 ?_
  rw [t5]
  have hk : ∀ w, Upd no W w → Call Tryd.prog 7 [] w fun e w' => ∃ b, e = .returned (.bool b) ∧ Ending.returned (.bool b) = .returned (.bool true) ∧ Upd no W w' := fun w hU => ⟨(known_ok (hTab.no hU)).mono fun e w' ⟨h1, h2⟩ => ⟨_, h1, rfl, hU.and h2⟩⟩
  refine ⟨fun g1 => hk _ (Upd.refl _ _), fun g1 => ?_⟩
  have hl : l.length ≤ 64 := by simp at g1; omega
  refine ⟨WP_loop okProg (M := M5) (σ := Nat × Option Addr × Nat) (fun s => e5_1 cpus (mi m) p l.length c s.2.1 (orL m (l.take s.1)).length s.2.2 (s.1 : Int)) (fun s w' => s.1 ≤ l.length ∧ LocR recIIU 3 W w' 54 s.2.1 s.2.2 (orL m (l.take s.1))) (fun s _ => l.length - s.1) (0, none, 0) ⟨rfl, rfl, rfl, by rw [List.take_zero]; rfl, rfl, trivial⟩ ⟨by omega, by rw [List.take_zero]; exact LocR.nil (Upd.refl _ _) _⟩ ?_⟩
  rintro ⟨i, p1, c1⟩ w ⟨i1, hL⟩
  simp only at i1 hL ⊢
  rw [t5_1]
  refine ⟨fun g2 => ?_, fun g2 => CutD.mk ?_⟩
  · have hi : i < l.length := by simpa using g2
    intro w2 q1 q2 q3 q4
    replace hL := hL.upd (Upd.same no q1 q2 q3 q4)
    obtain ⟨a, ha, hc⟩ := (h.no hL.U).atk recIIU_len (by decide) hi
    refine ⟨⟨by omega, by omega⟩, a, ha, _, hc 0 _ rfl, ⟨by omega, by omega⟩, a, ha, _, hc 1 _ rfl, ⟨by omega, by omega⟩, a, ha, _, hc 2 _ rfl, ?_⟩
    rw [bits_or]
    refine ⟨fun w3 hN => ?_⟩
    have e1 : orL m (l.take (i + 1)) = orL m (l.take i) ++ [(l[i].1, l[i].2.1, m ||| l[i].2.2)] := by
      unfold orL
      rw [List.take_succ_eq_append_getElem hi, List.map_append]
      rfl
    have hlen : (orL m (l.take i)).length = i := by simp [orL]; omega
    obtain ⟨p', c', w4, hr, hL'⟩ := hL.push elTr recIIU_len recIIU_one (by omega) (by omega) (x := (l[i].1, l[i].2.1, m ||| l[i].2.2)) rfl hN 22
    rw [← e1] at hr hL'
    exact ⟨p', _, c', w4, hr, (i + 1, p', c'), ⟨rfl, rfl, rfl, rfl, by rw [w64 (by omega)]; rfl, trivial⟩, ⟨by simp only; omega, hL'⟩, by simp only; omega⟩
  · have : i = l.length := by simp at g2; omega
    subst this
    rw [List.take_length] at hL ⊢
    have hal : (orL m l).length = l.length := by simp [orL]
    have hmay := orL_may (m := m) (l := l)
    rw [t5_0]
    have hC := hL.S.cells
    have hU := hL.U
    clear hL
    revert hC hal hmay
    generalize orL m l = x
    intro hal hmay hC
    refine ⟨(given_ok hC (by omega)).mono ?_⟩
    rintro e w1 ⟨p3, c3, rfl, hL1⟩
    have hU1 := hU.and hL1.U
    refine ⟨_, _, _, rfl, ⟨(splan_ok cpus m hL1.S.cells (by omega) (hTab.no hU1) (hTab.no hU1).pos).mono ?_⟩⟩
    rintro e w2 (⟨h0, rfl, hU2⟩ | ⟨h0, k, s, p', c', hR, hE, rfl, hL2⟩)
    · exact ⟨_, _, _, _, rfl, fun _ => hk _ (hU1.and hU2), fun g => absurd (by simpa using g) h0⟩
    · obtain ⟨hn, hm, hw, hP⟩ := mayE_ok h0
      have hI := runP_I hm hP hR
      have h2 := sqN_le hP.len 64
      have h3 := hI.wt
      have h4 := hI.len
      have hU2 := hU1.and hL2.U
      refine ⟨_, _, _, _, rfl, fun g => by simp at g, fun _ => ⟨(sapply_ok (hL1.S.cells.no hL2.U) (by omega) hL2.S.cells (by omega)).mono ?_⟩⟩
      have hap := runP_ap hm hP hR
      rintro e w3 (⟨h5, _⟩ | ⟨l', p4, c4, hl', rfl, hL3⟩)
      · rw [hap] at h5; cases h5
      rw [hap] at hl'
      have := Option.some.inj hl'
      subst this
      have hU3 := hU2.and hL3.U
      have hsl := hI.plan.len
      refine ⟨_, _, _, _, rfl, fun _ => ⟨(sloads_ok cpus hL3.S.cells (by omega)).mono ?_⟩, fun g => by simp at g⟩
      have hld : loadsE cpus s.2 = ldL cpus.toNat s.2 := by rw [loadsE, if_pos hn]
      rw [hld]
      rintro e w4 ⟨p5, c5, rfl, hL4⟩
      have hU4 := hU3.and hL4.U
      refine ⟨_, _, _, rfl, ⟨(sgap_ok hL4.S.cells (by rw [ldL_len]; omega) m).mono ?_⟩⟩
      rintro e w5 ⟨rfl, hU5⟩
      have hg := gap_end (N := cpus.toNat) hsl (even_end hm hE fun y hy d hd => by
        obtain ⟨j, hj, rfl⟩ := List.getElem_of_mem hy
        rw [(hI.same j hj (by rw [← hI.size]; exact hj)).2]
        exact hmay _ (List.getElem_mem _) d hd)
      exact ⟨_, rfl, fun _ => hk _ (hU4.and hU5), fun g => absurd hg (of_decide_eq_false g)⟩

/-! ### SpreadLess -/
theorem weight_less {m : BV} {l : List TI} {i a b : Nat} (hS : StepI m l i a b) (hP : PlanI m l) {N : Nat} (hN : N ≤ 64) (hw : (m &&& ~~~ upM (N : Int)) = 0) : wtN (ldL N (l.set i ((l[i]'hS.lt).1, (b : Int), (l[i]'hS.lt).2.2))) (ldL N (l.set i ((l[i]'hS.lt).1, (b : Int), (l[i]'hS.lt).2.2))).length < wtN (ldL N l) (ldL N l).length := by
  rw [ldL_len, ldL_len, wtN_ld (hS.set hP).len hN N (Nat.le_refl _), wtN_ld hP.len hN N (Nat.le_refl _)]
  have h1 := cs_within hw (a : Int) (mem_upto.2 ⟨(hs_in hS.a1).1, (hs_in hS.a1).2, hS.a1⟩)
  have h2 := cs_within hw (b : Int) (mem_upto.2 ⟨(hs_in hS.b1).1, (hs_in hS.b1).2, hS.b1⟩)
  have := sqN_move (n := N) hS.lt (a := a) (b := b) (by omega) (by omega) hS.cpu hS.dif (l[i]'hS.lt).1 (l[i]'hS.lt).2.2
  omega
theorem spreadLess_ok {W : World} (hTab : Tab W) {cpus : Int} {p : Option Addr} {l : List TI} {c : Nat} (_ : (Lit.int .i64 cpus).wf = true) (m : BV) (_ : ∀ x ∈ l, okIIU x) (h : Cells W p (l.flatMap recIIU)) (_ : l.length ≤ maxLen) :
    Calls Tryd.prog 6 #[.int .i64 cpus, .int .u64 (mi m), .slice p l.length c] W fun e w' => e = .returned (.bool true) ∧ Upd no W w' := by
  refine u6 ?_
  rw [t6]
  have hk : ∀ w, Upd no W w → Call Tryd.prog 7 [] w fun e w' => ∃ b, e = .returned (.bool b) ∧ Ending.returned (.bool b) = .returned (.bool true) ∧ Upd no W w' := fun w hU => ⟨(known_ok (hTab.no hU)).mono fun e w' ⟨h1, h2⟩ => ⟨_, h1, rfl, hU.and h2⟩⟩
  refine ⟨fun g1 => hk _ (Upd.refl _ _), fun g1 => ⟨(given_ok h (by simp at g1; omega)).mono ?_⟩⟩
  have hl : l.length ≤ 64 := by simp at g1; omega
  rintro e w1 ⟨p1, c1, rfl, hL1⟩
  have hU1 := hL1.U
  refine ⟨_, _, _, rfl, ⟨(splan_ok cpus m hL1.S.cells (by omega) (hTab.no hU1) (hTab.no hU1).pos).mono ?_⟩⟩
  rintro e w2 (⟨h0, rfl, hU2⟩ | ⟨h0, K, S, p2, c2, hR, hE, rfl, hL2⟩)
  · exact ⟨_, _, _, _, rfl, fun _ => hk _ (hU1.and hU2), fun g => absurd (by simpa using g) h0⟩
  obtain ⟨hn, hm, hw, hP⟩ := mayE_ok h0
  obtain ⟨N, rfl⟩ : ∃ N : Nat, cpus = N := ⟨cpus.toNat, by omega⟩
  have hI := runP_I hm hP hR
  have h2 := sqN_le hP.len 64
  have h3 := hI.wt
  have h4 := hI.len
  have hld : ∀ x : List TI, loadsE (N : Int) x = ldL N x := fun x => by rw [loadsE, if_pos hn, Int.toNat_natCast]
  have hM : Mine W w2 (LsR recIII 3 57) (p2, c2, S.1) := Mine.new (B := LsR recIII 3 57) (t := (p2, c2, S.1)) (G := fpS p2) hU1 hL2.U ⟨fun _ => Iff.rfl, hL2.S⟩ hL2.F
  replace hM : Mine W w2 (Star (LsR recIII 3 57) (LsR recIIU 3 59)) ((p2, c2, S.1), (p1, c1, l)) := by
    obtain ⟨F, hA, hU, hF⟩ := hM
    refine ⟨fun i => F i ∨ fpS p1 i, ⟨F, fpS p1, hA, ⟨fun _ => Iff.rfl, hL1.S.upd hL2.U (fun _ _ h => h)⟩, fun _ => Iff.rfl, fun i hi hi2 => ?_⟩, hU, fun i hi => hi.elim (hF i) (hL1.F i)⟩
    have h5 := hL1.S.lt i hi2
    have h6 := hL2.F i ((hA.1 i).1 hi)
    omega
  clear hL1 hL2 hU1
  refine ⟨_, _, _, _, rfl, fun g => by simp at g, fun _ => ?_⟩
  refine ⟨WP_loop okProg (M := M6) (σ := Nat × List TI × Option Addr × Nat) (fun s => e6_1 (N : Int) s.2.2.1 s.2.1.length s.2.2.2 p2 S.1.length c2 (s.1 : Int)) (fun s w => s.1 ≤ K ∧ (∃ s', runP m l s.1 = some s' ∧ s'.1 = S.1.take s.1 ∧ s'.2 = s.2.1) ∧ Mine W w (Star (LsR recIII 3 57) (LsR recIIU 3 59)) ((p2, c2, S.1), (s.2.2.1, s.2.2.2, s.2.1))) (fun s _ => K - s.1) (0, l, p1, c1) ⟨rfl, rfl, rfl, rfl, trivial⟩ ⟨by omega, ⟨([], l), rfl, rfl, rfl⟩, hM⟩ ?_⟩
  clear hM
  rintro ⟨i, x, px, cx⟩ w ⟨i1, ⟨s, hs, hs1, hs2⟩, hM⟩
  simp only at i1 hs hs1 hs2 hM ⊢
  rw [t6_1]
  refine ⟨fun g => ?_, fun g => CutD.mk ?_⟩
  · have hi : i < K := by simp at g; omega
    have hiS : i < S.1.length := by omega
    have hIi := runP_I hm hP hs
    obtain ⟨s', hs', hs'1⟩ := runP_take hm hR (k := i + 1) (by omega)
    have hstep : stepP m s = some s' := by
      have h5 : runP m l (i + 1) = (runP m l i).bind (stepP m) := rfl
      rw [hs, hs'] at h5
      exact h5.symm
    rcases step_cases hm s with ⟨k, _⟩ | ⟨j, a, b, hS, k⟩
    · rw [hstep] at k; cases k
    rw [hstep] at k
    have hse := Option.some.inj k
    subst hs2
    have hmv : S.1[i] = ((s.2[j]'hS.lt).1, (a : Int), (b : Int)) := by
      have h6 : s'.1 = S.1.take i ++ [S.1[i]] := by rw [hs'1, List.take_succ_eq_append_getElem hiS]
      rw [hse] at h6
      simp only [hs1] at h6
      have := List.append_cancel_left h6
      exact (List.cons.inj this).1.symm
    have hwl := weight_less hS hIi.plan (N := N) (by omega) hw
    have hap := hS.ap hIi.plan
    have hPl' := hS.set hIi.plan
    have hlt := hS.lt
    have hone := hIi.plan.one
    have hmay := hS.may
    have hxl : s.2.length ≤ 64 := hIi.plan.len
    have hs'2 : s'.2 = s.2.set j (s.2[j].1, (b : Int), s.2[j].2.2) := by rw [hse]
    refine ⟨(sloads_ok (N : Int) (LsR.cells hM.right.choose_spec.1) (by omega)).mono ?_⟩
    rw [hld]
    rintro e w3 ⟨p3, c3, rfl, hL3⟩
    replace hM := hM.upd hL3.U
    refine ⟨_, _, _, rfl, ⟨(sweight_ok hL3.S.cells (by rw [ldL_len]; omega)).mono ?_⟩⟩
    rintro e w3 ⟨rfl, rfl⟩
    obtain ⟨am, ham, hcm⟩ := (LsR.cells hM.left.choose_spec.1).atk recIII_len (by decide) hiS
    refine ⟨_, rfl, ⟨by omega, by omega⟩, am, ham, _, hcm 0 _ rfl, _, hcm 1 _ rfl, _, hcm 2 _ rfl, ⟨fun w4 hN4 => ?_⟩⟩
    have hC4 : Cells w4 (some ⟨w3.heap.size, 0, none⟩) (([S.1[i]] : List MV).flatMap recIII) := (Sl.new (T := 57) (n := 1) (sz := 3) (cs := ([S.1[i]] : List MV).flatMap recIII) hN4 (by rfl) (by decide)).cells
    replace hM := hM.upd (hN4.upd no)
    refine ⟨(sapply_ok (LsR.cells hM.right.choose_spec.1) (by omega) (mvs := [S.1[i]]) hC4 (by simp)).mono ?_⟩
    have hap1 : apL s.2 [S.1[i]] = some (s.2.set j (s.2[j].1, (b : Int), s.2[j].2.2)) := by
      rw [hmv]
      unfold apL
      rw [hap]
      rfl
    rw [hap1]
    rintro e w5 (⟨h5, _⟩ | ⟨l', p5, c5, hl', rfl, hL5⟩)
    · cases h5
    have := (Option.some.inj hl').symm
    subst this
    generalize hy : s.2.set j (s.2[j].1, (b : Int), s.2[j].2.2) = y at *
    have hyl : y.length = s.2.length := by rw [← hy]; simp
    replace hM : Mine W w5 (Star (LsR recIII 3 57) (LsR recIIU 3 59)) ((p2, c2, S.1), (p5, c5, y)) := by
      obtain ⟨_, hA, hT⟩ := hM.right
      exact hT _ _ (LsR.fresh hL5)
    refine ⟨_, _, _, _, rfl, fun _ => ⟨(sloads_ok (N : Int) hL5.S.cells (by omega)).mono ?_⟩, fun g => by simp at g⟩
    rw [hld]
    rintro e w6 ⟨p6, c6, rfl, hL6⟩
    replace hM := hM.upd hL6.U
    refine ⟨_, _, _, rfl, ⟨(sweight_ok hL6.S.cells (by rw [ldL_len]; omega)).mono ?_⟩⟩
    rintro e w6 ⟨rfl, rfl⟩
    refine ⟨_, rfl, fun g => absurd (of_decide_eq_true g) (by omega), fun _ => ?_⟩
    refine ⟨WP_loop okProg (M := M6) (σ := Nat) (fun k => e6_4 (N : Int) p2 S.1.length c2 (i : Int) p5 y.length c5 (k : Int)) (fun k w => k ≤ y.length ∧ Mine W w (Star (LsR recIII 3 57) (LsR recIIU 3 59)) ((p2, c2, S.1), (p5, c5, y))) (fun k _ => y.length - k) 0 ⟨rfl, rfl, rfl, rfl, rfl, trivial⟩ ⟨by omega, hM⟩ ?_⟩
    clear hM
    rintro k w7 ⟨k1, hM⟩
    rw [t6_4]
    refine ⟨fun g => ?_, fun g => ?_⟩
    · have hk' : k < y.length := by simpa using g
      intro w8 q1 q2 q3 q4
      replace hM := hM.upd (Upd.same no q1 q2 q3 q4)
      obtain ⟨ay, hay, hcy⟩ := (LsR.cells hM.right.choose_spec.1).atk recIIU_len (by decide) hk'
      obtain ⟨am, ham, hcm⟩ := (LsR.cells hM.left.choose_spec.1).atk recIII_len (by decide) hiS
      have nx : ∃ k' : Nat, CoversL (e6_4 (N : Int) p2 S.1.length c2 (i : Int) p5 y.length c5 (IntKind.wrap .i64 ((k : Int) + 1))) (e6_4 (N : Int) p2 S.1.length c2 (i : Int) p5 y.length c5 (k' : Int)) ∧ (k' ≤ y.length ∧ Mine W w8 (Star (LsR recIII 3 57) (LsR recIIU 3 59)) ((p2, c2, S.1), (p5, c5, y))) ∧ y.length - k' < y.length - k :=
        ⟨k + 1, ⟨rfl, rfl, rfl, rfl, by rw [w64 (by omega)]; rfl, trivial⟩, ⟨by omega, hM⟩, by omega⟩
      refine ⟨⟨by omega, by omega⟩, ay, hay, _, hcy 0 _ rfl, ⟨by omega, by omega⟩, am, ham, _, hcm 0 _ rfl, fun g2 => ⟨⟨by omega, by omega⟩, ay, hay, _, hcy 2 _ rfl, ⟨by omega, by omega⟩, am, ham, _, hcm 2 _ rfl, ⟨(mHas_ok _ _ w8).mono ?_⟩⟩, fun _ => nx⟩
      rintro e w9 ⟨rfl, rfl⟩
      have g2 := eq_of_beq g2
      have hjy : y[j]'(by omega) = (s.2[j].1, (b : Int), s.2[j].2.2) := by subst hy; simp
      have hkj : k = j := by
        rw [hmv] at g2
        have hyo := hPl'.one
        rcases Nat.lt_trichotomy k j with hlt' | heq | hgt'
        · have := List.pairwise_iff_getElem.1 hyo k j (by simp; omega) (by simp; omega) hlt'
          simp only [List.getElem_map, hjy] at this
          exact absurd g2 this
        · exact heq
        · have := List.pairwise_iff_getElem.1 hyo j k (by simp; omega) (by simp; omega) hgt'
          simp only [List.getElem_map, hjy] at this
          exact absurd g2.symm this
      subst hkj
      refine ⟨_, rfl, fun g3 => ?_, fun _ => nx⟩
      rw [hjy, hmv] at g3
      simp only [hmay] at g3
      cases g3
    · have : k = y.length := by simp at g; omega
      subst this
      exact ⟨(i + 1, y, p5, c5), ⟨rfl, rfl, rfl, by rw [w64 (by omega)]; rfl, trivial⟩, ⟨by simp only; omega, ⟨s', hs', hs'1, hs'2⟩, hM⟩, by simp only; omega⟩
  · rw [t6_0]
    exact hk _ hM.U
end Go.Dav
