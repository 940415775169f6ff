/- Calls from core to core: what is always so, and what the document's functions come to. -/
import Derived.Test.YtfpgfcecbnlliaaDoorCall18
set_option linter.unusedVariables false
set_option linter.unusedSimpArgs false
set_option linter.unusedSectionVars false
namespace Go.Dav
open Go.Proofs
theorem hasE_set {o : List Bool} {k : Nat} (hk : k < o.length) (v : Bool) (n : Int) : hasE (o.set k v) n = if n = (k : Int) + 1 then v else hasE o n := by
  unfold hasE
  by_cases h1 : 1 ≤ n
  · rw [if_pos h1, if_pos h1]
    by_cases hn : n = (k : Int) + 1
    · subst hn
      have e1 : ((k : Int) + 1).toNat - 1 = k := by omega
      rw [if_pos rfl, e1]
      simp [List.getD_eq_getElem?_getD, hk]
    · rw [if_neg hn]
      have : k ≠ n.toNat - 1 := by omega
      simp [List.getD_eq_getElem?_getD, this]
  · rw [if_neg h1, if_neg h1, if_neg (by omega)]
theorem give_has {o : List Bool} {n : Int} (h : hasE o n = true) : giveE o n = 0 ∧ ∀ v, hasE (giveS o n) v = (hasE o v && decide (v ≠ n)) := by
  obtain ⟨h1, h2⟩ := hasE_in h
  refine ⟨by rw [giveE, if_pos h], fun v => ?_⟩
  rw [giveS, if_pos h, hasE_set (by omega)]
  by_cases hv : v = n
  · rw [if_pos (by omega), hv]; simp
  · rw [if_neg (by omega), decide_eq_true (show v ≠ n from hv), Bool.and_true]
theorem take_of {o : List Bool} {j : Nat} (hj : j < o.length) (h1 : ∀ k, k < j → hasE o ((k : Int) + 1) = true) (h2 : hasE o ((j : Int) + 1) = false) : takeE o = ((j : Int) + 1, 0) ∧ takeS o = o.set j true := by
  have hf : o.findIdx? (fun x => !x) = some j := by
    rw [List.findIdx?_eq_some_iff_getElem]
    rw [hasE_of] at h2
    refine ⟨hj, by simpa [List.getD_eq_getElem?_getD, hj] using h2, fun k hk => ?_⟩
    have := h1 k hk
    rw [hasE_of] at this
    have hk2 : k < o.length := by omega
    simpa [List.getD_eq_getElem?_getD, hk2] using this
  unfold takeE takeS
  rw [hf]
  exact ⟨rfl, rfl⟩
theorem take_no {o : List Bool} (h1 : ∀ k, k < o.length → hasE o ((k : Int) + 1) = true) : takeE o = (0, 5) ∧ takeS o = o := by
  have hf : o.findIdx? (fun x => !x) = none := by
    rw [List.findIdx?_eq_none_iff]
    intro v hv
    obtain ⟨k, hk, rfl⟩ := List.getElem_of_mem hv
    have := h1 k hk
    rw [hasE_of] at this
    simpa [List.getD_eq_getElem?_getD, hk] using this
  unfold takeE takeS
  rw [hf]
  exact ⟨rfl, rfl⟩
/-- What Take gives. -/
theorem take_cases (o : List Bool) : (∃ j : Nat, j < o.length ∧ takeE o = ((j : Int) + 1, 0) ∧ takeS o = o.set j true ∧ hasE o ((j : Int) + 1) = false) ∨ (takeE o = (0, 5) ∧ takeS o = o) := by
  unfold takeE takeS
  cases hf : o.findIdx? (fun x => !x) with
  | none => exact .inr ⟨rfl, rfl⟩
  | some j =>
    obtain ⟨hj, h1, _⟩ := List.findIdx?_eq_some_iff_getElem.1 hf
    refine .inl ⟨j, hj, rfl, rfl, ?_⟩
    rw [hasE_of]
    simpa [List.getD_eq_getElem?_getD, hj] using h1

structure CI (x : CS) : Prop where
  len : x.1.length = 32
  one : ∀ v, ct x.2 v ≤ 1
  has : ∀ v, hasE x.1 v = decide (0 < ct x.2 v)
section
variable {x : CS} {i : Nat}
theorem CI.row (h : CI x) (hi : i < x.2.length) : x.2[i].Nodup ∧ x.2[i].length ≤ 32 := by
  have hn := ct_nodup h.one hi
  refine ⟨hn, few hn fun v hv => ?_⟩
  have : hasE x.1 v = true := by rw [h.has, decide_eq_true (ct_mem hi hv)]
  have := hasE_in this
  rw [h.len] at this
  exact this
theorem CI.all (h : CI x) : ∀ l ∈ x.2, l.length ≤ 32 := fun l hl => by
  obtain ⟨i, hi, rfl⟩ := List.getElem_of_mem hl
  exact (h.row hi).2
theorem CI.push (h : CI x) (hi : i < x.2.length) {v : Int} (h1 : 1 ≤ v ∧ v ≤ 32) (hv : ct x.2 v = 0) : pushE (q32 x.2[i]) v = 0 ∧ pushS (q32 x.2[i]) v = q32 (x.2[i] ++ [v]) := by
  have hnot : v ∉ x.2[i] := fun hm => by have := ct_mem hi hm; omega
  obtain ⟨hn, _⟩ := h.row hi
  have hl : (x.2[i] ++ [v]).length ≤ 32 := by
    refine few ?_ ?_
    · rw [List.nodup_append]
      exact ⟨hn, by simp, fun a ha b hb e => by simp at hb; subst hb; subst e; exact hnot ha⟩
    · intro u hu
      rw [List.mem_append] at hu
      rcases hu with hu | hu
      · have : hasE x.1 u = true := by rw [h.has, decide_eq_true (ct_mem hi hu)]
        have := hasE_in this
        rw [h.len] at this
        exact this
      · simp at hu; subst hu; exact h1
  have e : pushE (q32 x.2[i]) v = 0 := by
    unfold pushE q32
    simp only
    rw [if_neg hnot, if_neg]
    simp at hl; omega
  exact ⟨e, by rw [pushS, if_pos e]; rfl⟩
theorem CI.sendEq (h : CI x) {cpu : Int} {j : Nat} (hc : inB x cpu) (hj : takeE x.1 = ((j : Int) + 1, 0)) (hl : j < 32) (hf : hasE x.1 ((j : Int) + 1) = false) :
    sendE x cpu = ((j : Int) + 1, 0) ∧ (sendS x cpu).1 = takeS x.1 ∧ (sendS x cpu).2 = x.2.set cpu.toNat (rowB x cpu ++ [(j : Int) + 1]) := by
  obtain ⟨i, hi, rfl⟩ := inB_at hc
  rw [h.has] at hf
  obtain ⟨p1, p2⟩ := h.push hi (v := (j : Int) + 1) (by omega) (by simpa using hf)
  unfold sendE sendS
  rw [if_pos hc, if_pos hc, hj]
  simp only [if_true]
  rw [rowB_at hi, p1, p2]
  exact ⟨by first | rfl | trivial, by first | rfl | trivial, by first | rfl | trivial⟩
theorem CI.send (h : CI x) (cpu : Int) : CI (sendS x cpu) ∧ (sendS x cpu).2.length = x.2.length := by
  by_cases hc : inB x cpu
  · rcases take_cases x.1 with ⟨j, hj, k1, k2, k3⟩ | ⟨k1, k2⟩
    · obtain ⟨_, s1, s2⟩ := h.sendEq hc k1 (by have := h.len; omega) k3
      obtain ⟨i, hi, rfl⟩ := inB_at hc
      rw [rowB_at hi, Int.toNat_natCast] at s2
      have h0 := k3
      rw [h.has] at h0
      have h0 : ct x.2 ((j : Int) + 1) = 0 := by simpa using h0
      have hct : ∀ v, ct (sendS x (i : Int)).2 v = ct x.2 v + if (j : Int) + 1 = v then 1 else 0 := fun v => by
        rw [s2]
        have := ct_set hi (x.2[i] ++ [(j : Int) + 1]) v
        rw [List.count_append, List.count_singleton] at this
        simp only [beq_iff_eq] at this
        omega
      refine ⟨⟨by rw [s1, k2]; simpa using h.len, fun v => ?_, fun v => ?_⟩, by rw [s2]; simp⟩
      · rw [hct]
        have := h.one v
        split
        · rename_i e; subst e; omega
        · omega
      · rw [s1, k2, hasE_set hj, hct]
        by_cases hv : v = (j : Int) + 1
        · subst hv; simp
        · rw [if_neg hv, h.has, if_neg (fun e => hv e.symm)]; rfl
    · have e : sendS x cpu = x := by unfold sendS; rw [if_pos hc, k1, if_neg (by simp), k2]
      rw [e]; exact ⟨h, rfl⟩
  · rw [sendS, if_neg hc]; exact ⟨h, rfl⟩
theorem CI.takeEq (h : CI x) (cpu : Int) : tkE x cpu = (if inB x cpu then frontE (q32 (rowB x cpu)) else (0, 3)) ∧ (tkS x cpu).2 = (if inB x cpu then x.2.set cpu.toNat (rowB x cpu).tail else x.2) ∧ CI (tkS x cpu) ∧ (tkS x cpu).2.length = x.2.length := by
  unfold tkE tkS
  by_cases hc : inB x cpu
  · obtain ⟨i, hi, rfl⟩ := inB_at hc
    rw [if_pos hc, if_pos hc, if_pos hc, if_pos hc, rowB_at hi]
    have hrow := h.row hi
    rw [Int.toNat_natCast]
    cases hl : x.2[i] with
    | nil =>
      have e2 : x.2.set i [] = x.2 := by rw [← hl, List.set_getElem_self]
      have f0 : frontE (q32 []) = (0, 12) := rfl
      simp only [f0, List.tail_nil, e2]
      simp
      exact h
    | cons a t =>
      have ha : hasE x.1 a = true := by rw [h.has, decide_eq_true (ct_mem hi (by rw [hl]; simp))]
      obtain ⟨g1, g2⟩ := give_has ha
      simp only [frontE, q32, List.tail_cons, ite_true, g1]
      have hct : ∀ v, ct (x.2.set i t) v + (if a = v then 1 else 0) = ct x.2 v := fun v => by
        have := ct_set hi t v
        rw [hl, List.count_cons] at this
        simp only [beq_iff_eq] at this
        omega
      refine ⟨by first | rfl | trivial, by first | rfl | trivial, ⟨by rw [give_len]; exact h.len, fun v => ?_, fun v => ?_⟩, by simp⟩
      · have := hct v; have := h.one v; simp only; omega
      · rw [g2, h.has]
        have h1 := hct v
        have h2 := h.one v
        by_cases hv : v = a
        · subst hv
          rw [if_pos rfl] at h1
          have : ct (x.2.set i t) v = 0 := by omega
          simp [this]
        · rw [if_neg (fun e => hv e.symm)] at h1
          rw [Nat.add_zero] at h1
          rw [decide_eq_true (show v ≠ a from hv), Bool.and_true]
          simp only [h1]
  · rw [if_neg hc, if_neg hc, if_neg hc, if_neg hc]
    exact ⟨rfl, rfl, h, rfl⟩
theorem CI.moveEq (h : CI x) (f t : Int) : mvE x f t = (if inB x f ∧ inB x t then (if f = t then (0, 2) else frontE (q32 (rowB x f))) else (0, 3)) ∧
    (mvS x f t).2 = (if inB x f ∧ inB x t then (if f = t then x.2 else if (frontE (q32 (rowB x f))).2 = 0 then (popB x f).2.set t.toNat (rowB (popB x f) t ++ [(frontE (q32 (rowB x f))).1]) else (popB x f).2) else x.2) ∧ CI (mvS x f t) ∧ (mvS x f t).2.length = x.2.length := by
  unfold mvE mvS
  by_cases hc : inB x f ∧ inB x t
  · by_cases hft : f = t
    · simp only [if_pos hc, if_pos hft]
      exact ⟨trivial, trivial, h, trivial⟩
    · simp only [if_pos hc, if_neg hft]
      obtain ⟨hf, ht⟩ := hc
      obtain ⟨i, hi, rfl⟩ := inB_at hf
      obtain ⟨k, hk, rfl⟩ := inB_at ht
      unfold popB
      rw [rowB_at hi, Int.toNat_natCast, Int.toNat_natCast]
      cases hl : x.2[i] with
      | nil =>
        have e2 : x.2.set i [] = x.2 := by rw [← hl, List.set_getElem_self]
        have f0 : frontE (q32 []) = (0, 12) := rfl
        simp only [f0, List.tail_nil, e2]
        simp
        exact h
      | cons a l =>
        have ha : hasE x.1 a = true := by rw [h.has, decide_eq_true (ct_mem hi (by rw [hl]; simp))]
        have hin := hasE_in ha
        rw [h.len] at hin
        have h1 : ct x.2 a = 1 := by have := h.one a; have := h.has a; rw [ha] at this; have := of_decide_eq_true this.symm; omega
        simp only [frontE, q32, List.tail_cons, ite_true]
        have hct : ∀ v, ct (x.2.set i l) v + (if a = v then 1 else 0) = ct x.2 v := fun v => by
          have := ct_set hi l v
          rw [hl, List.count_cons] at this
          simp only [beq_iff_eq] at this
          omega
        have hk2 : k < (x.2.set i l).length := by simpa using hk
        have er : rowB (x.1, x.2.set i l) (k : Int) = (x.2.set i l)[k] := rowB_at (x := (x.1, x.2.set i l)) hk2
        rw [er]
        have hik : i ≠ k := fun e => hft (by rw [e])
        have hrow : (x.2.set i l)[k] = x.2[k] := List.getElem_set_ne hik hk2
        have hnot : a ∉ x.2[k] := fun hm => by
          have h2 := ct_mem hk2 (v := a) (by rw [hrow]; exact hm)
          have := hct a
          rw [if_pos rfl] at this
          omega
        have hrk := h.row hk
        have hlen : (x.2[k] ++ [a]).length ≤ 32 := by
          refine few ?_ ?_
          · rw [List.nodup_append]
            exact ⟨hrk.1, by simp, fun u hu b hb e => by simp at hb; subst hb; subst e; exact hnot hu⟩
          · intro u hu
            rw [List.mem_append] at hu
            rcases hu with hu | hu
            · have : hasE x.1 u = true := by rw [h.has, decide_eq_true (ct_mem hk hu)]
              have := hasE_in this
              rw [h.len] at this
              exact this
            · simp at hu; subst hu; exact hin
        have pE : pushE (32, (x.2.set i l)[k]) a = 0 := by
          unfold pushE
          simp only [hrow]
          rw [if_neg hnot, if_neg]
          simp at hlen; omega
        have pS : (pushS (32, (x.2.set i l)[k]) a).2 = (x.2.set i l)[k] ++ [a] := by rw [pushS, if_pos pE]
        rw [pE, pS]
        have hct2 : ∀ v, ct ((x.2.set i l).set k ((x.2.set i l)[k] ++ [a])) v = ct x.2 v := fun v => by
          have := ct_set hk2 ((x.2.set i l)[k] ++ [a]) v
          rw [List.count_append, List.count_singleton] at this
          simp only [beq_iff_eq] at this
          have := hct v
          omega
        refine ⟨by first | rfl | trivial, by first | rfl | trivial, ⟨h.len, fun v => ?_, fun v => ?_⟩, by simp⟩
        · show ct ((x.2.set i l).set k ((x.2.set i l)[k] ++ [a])) v ≤ 1
          rw [hct2]; exact h.one v
        · show hasE x.1 v = decide (0 < ct ((x.2.set i l).set k ((x.2.set i l)[k] ++ [a])) v)
          rw [hct2]; exact h.has v
  · simp only [if_neg hc]
    exact ⟨trivial, trivial, h, trivial⟩
theorem CI.new {n : Int} : CI (newC n) := by
  refine ⟨by simp [newC], fun v => by rw [newC, ct_new]; omega, fun v => ?_⟩
  rw [newC, ct_new]
  have hk : ∀ k, (List.replicate 32 false).getD k false = false := fun k => by
    rw [List.getD_eq_getElem?_getD, List.getElem?_replicate]; split <;> rfl
  unfold hasE
  rw [hk]
  simp
end

/-! ### The document's boxes -/
section
variable {w : World} {F : Fp} {b : Nat} {x : CS}
theorem rcIs_ok (h : RcO b w F x.2) (cpu : Int) : Calls Tryd.prog 26 #[.pointer (some ⟨b, 0, none⟩), .int .i64 cpu] w fun e w' => e = .returned (.bool (decide (inB x cpu))) ∧ w' = w := by
  refine u26 ?_
  rw [t26]
  obtain ⟨p, c, hB⟩ := h.blk
  refine ⟨fun g => ⟨_, rfl, _, _, _, hB.cell rfl, ?_, rfl⟩, fun g => ⟨?_, rfl⟩⟩
  · have : decide (cpu < (x.2.length : Int)) = decide (inB x cpu) := decide_eq_decide.2 ⟨fun h => ⟨by simp at g; omega, h⟩, fun h => h.2⟩
    rw [this]
  · rw [decide_eq_false]; unfold inB; simp at g; omega
theorem rcHas_ok (h : RcO b w F x.2) (hI : CI x) (v : Int) : Calls Tryd.prog 16 #[.pointer (some ⟨b, 0, none⟩), .int .i64 v] w fun e w' => e = .returned (.bool (hasE x.1 v)) ∧ w' = w := by
  refine u16 ?_
  rw [t16]
  obtain ⟨hl, p, c, hB, hR⟩ := h.rows
  refine ⟨WP_loop okProg (M := M16) (σ := Nat) (fun j => e16_1 (some ⟨b, 0, none⟩) v (j : Int)) (fun j w' => j ≤ x.2.length ∧ (x.2.take j).any (fun l => decide (v ∈ l)) = false ∧ w' = w) (fun j _ => x.2.length - j) 0 ⟨rfl, rfl, rfl, trivial⟩ ⟨by omega, rfl, rfl⟩ ?_⟩
  rintro j w1 ⟨j1, j2, rfl⟩
  rw [t16_1]
  refine ⟨_, rfl, _, _, _, hB.cell rfl, fun g => ?_, fun g => ?_⟩
  · have hj : j < x.2.length := by simp at g; omega
    obtain ⟨a, q, d, ha, hc, hC⟩ := hR j hj
    have h4 := (hI.row hj).2
    refine ⟨_, rfl, _, _, _, hB.cell rfl, ⟨by omega, by omega⟩, a, ha, _, _, _, hc, ⟨(fHas_ok hC (by omega) v).mono ?_⟩⟩
    rintro e w2 ⟨rfl, rfl⟩
    refine ⟨_, rfl, fun g1 => ⟨?_, rfl⟩, fun g1 => ⟨j + 1, ⟨rfl, rfl, by rw [w64 (by unfold maxLen at *; omega)]; rfl, trivial⟩, ⟨by omega, ?_, rfl⟩, by omega⟩⟩
    · rw [hI.has, decide_eq_true (ct_mem hj (of_decide_eq_true g1))]
    · rw [List.take_succ_eq_append_getElem hj, List.any_append, j2]
      simpa using g1
  · have : j = x.2.length := by simp at g; omega
    subst this
    rw [List.take_length, ct_any] at j2
    exact ⟨by rw [hI.has, j2], rfl⟩

theorem rcPush (h : RcO b w F x.2) {i : Nat} (hi : i < x.2.length) (hl : x.2[i].length ≤ 32) : ∃ a c0 p c F1, TbAt b 56 38 3 rcE w F x.2 i x.2[i] a c0 p c F1 := h.at hi

theorem rcSend_ok (h : RcO b w F x.2) (hI : CI x) (cpu : Int) : Calls Tryd.prog 10 #[.pointer (some ⟨b, 0, none⟩), .int .i64 cpu] w fun e w' => e = .returned (.tuple #[.int .i64 (sendE x cpu).1, .int .i64 (sendE x cpu).2]) ∧ Turn (RcO b) w w' F (sendS x cpu).2 := by
  refine u10 ?_
  rw [t10]
  refine ⟨(rcIs_ok h cpu).mono ?_⟩
  rintro e w1 ⟨rfl, rfl⟩
  refine ⟨_, rfl, fun g => ?_, fun g => ?_⟩
  · have hn : ¬ inB x cpu := by simpa using g
    rw [sendE, sendS, if_neg hn, if_neg hn]
    exact ⟨rfl, Turn.same h⟩
  · have hc : inB x cpu := by simpa using g
    refine ⟨WP_loop okProg (M := M10) (σ := Nat) (fun j => e10_1 (some ⟨b, 0, none⟩) cpu ((j : Int) + 1)) (fun j w' => j ≤ 32 ∧ (∀ k : Nat, k < j → hasE x.1 ((k : Int) + 1) = true) ∧ w' = w1) (fun j _ => 32 - j) 0 ⟨rfl, rfl, rfl, trivial⟩ ⟨by omega, fun k hk => by omega, rfl⟩ ?_⟩
    rintro j w2 ⟨j1, j2, rfl⟩
    rw [t10_1]
    refine ⟨fun g => ?_, fun g => ?_⟩
    · have hj : j < 32 := by simp at g; omega
      refine ⟨(rcHas_ok h hI _).mono ?_⟩
      rintro e w3 ⟨rfl, rfl⟩
      refine ⟨_, rfl, fun g1 w4 z1 z2 z3 z4 => ?_, fun g1 => ?_⟩
      · have g1 : hasE x.1 ((j : Int) + 1) = false := by simpa using g1
        obtain ⟨k1, k2⟩ := take_of (by rw [hI.len]; exact hj) j2 g1
        obtain ⟨s1, s2, s3⟩ := hI.sendEq hc k1 hj g1
        rw [s1, s3]
        obtain ⟨i, hi, rfl⟩ := inB_at hc
        rw [rowB_at hi, Int.toNat_natCast]
        have hS := Upd.same no z1 z2 z3 z4
        have h4 : RcO b w4 F x.2 := Frame.tb.upd h hS (fun _ _ h => h)
        obtain ⟨a, c0, p, c, F1, hA⟩ := h4.at hi
        have hrow := (hI.row hi).2
        refine ⟨_, rfl, _, _, _, hA.blk0.cell rfl, _, rfl, _, _, _, hA.blk0.cell rfl, ⟨by omega, by omega⟩, a, rfl, _, _, _, hA.cell0, ⟨fun w5 hN => ?_⟩⟩
        have hN' : Upd F1 w4 w5 := (hN.upd no).none
        obtain ⟨p', c', w6, hr, hT⟩ := Ls.push elI hA.ls (by omega) hN 38
        obtain ⟨_, _, hU5, _⟩ := id hT
        refine ⟨hA.cell _ hN', (hA.blk _ hN').cell rfl, (hA.blk _ hN').cell rfl, p', _, c', w6, hr, (hA.blk _ hU5).cell rfl, ⟨by omega, by omega⟩, a, rfl, ?_⟩
        exact hA.put _ _ _ _ hT _ fun w7 h7 => ⟨rfl, Turn.next h4 hS.none (fun _ h => .inl h) h7⟩
      · have g1 : hasE x.1 ((j : Int) + 1) = true := by simpa using g1
        refine ⟨j + 1, ⟨rfl, rfl, by rw [w64 (by omega)]; rfl, trivial⟩, ⟨by omega, fun k hk => ?_, rfl⟩, by omega⟩
        by_cases hkj : k = j
        · subst hkj; exact g1
        · exact j2 k (by omega)
    · have : j = 32 := by simp at g; omega
      subst this
      obtain ⟨k1, k2⟩ := take_no (o := x.1) (by rw [hI.len]; exact j2)
      rw [sendE, sendS, if_pos hc, if_pos hc, k1]
      exact ⟨rfl, Turn.same h⟩

theorem wo_head {a : Int} {l : List Int} (hn : (a :: l).Nodup) : wo (a :: l) a = l := by
  rw [List.nodup_cons] at hn
  unfold wo
  rw [List.filter_cons_of_neg (by simp), List.filter_eq_self]
  intro y hy
  have : y ≠ a := fun e => hn.1 (e ▸ hy)
  simpa using this
theorem rcTake0_ok (h : RcO b w F x.2) (hI : CI x) (cpu : Int) : Calls Tryd.prog 12 #[.pointer (some ⟨b, 0, none⟩), .int .i64 cpu] w fun e w' => e = .returned (.tuple #[.int .i64 (if inB x cpu then frontE (q32 (rowB x cpu)) else (0, 3)).1, .int .i64 (if inB x cpu then frontE (q32 (rowB x cpu)) else (0, 3)).2]) ∧ Turn (RcO b) w w' F (if inB x cpu then x.2.set cpu.toNat (rowB x cpu).tail else x.2) := by
  refine u12 ?_
  rw [t12]
  refine ⟨(rcIs_ok h cpu).mono ?_⟩
  rintro e w1 ⟨rfl, rfl⟩
  refine ⟨_, rfl, fun g => ?_, fun g => ?_⟩
  · have hn : ¬ inB x cpu := by simpa using g
    rw [if_neg hn, if_neg hn]
    exact ⟨rfl, Turn.same h⟩
  · have hc : inB x cpu := by simpa using g
    rw [if_pos hc, if_pos hc]
    obtain ⟨i, hi, rfl⟩ := inB_at hc
    rw [rowB_at hi, Int.toNat_natCast]
    have hrow := hI.row hi
    obtain ⟨a, c0, p, c, F1, hA⟩ := h.at hi
    refine ⟨_, rfl, _, _, _, hA.blk0.cell rfl, ⟨by omega, by omega⟩, a, rfl, _, _, _, hA.cell0, fun g => ?_, fun g => ?_⟩
    · have he : x.2[i] = [] := by simpa using g
      rw [he]
      refine ⟨rfl, ?_⟩
      simp only [List.tail_nil]
      rw [← he, List.set_getElem_self]
      exact Turn.same h
    · cases hl : x.2[i] with
      | nil => rw [hl] at g; simp at g
      | cons v t =>
        have hpos : 0 < x.2[i].length := by rw [hl]; simp
        obtain ⟨a', ha', hc'⟩ := hA.cells.at1 hpos
        have h0 : x.2[i][0] = v := by simp [hl]
        rw [h0] at hc'
        rw [hl] at hrow
        refine ⟨_, rfl, _, _, _, hA.blk0.cell rfl, ⟨by omega, by omega⟩, a, rfl, _, _, _, hA.cell0, ⟨by omega, by omega⟩, a', ha', _, hc', fun w3 z1 z2 z3 z4 => ?_⟩
        have hS := Upd.same no z1 z2 z3 z4
        have h3 : RcO b w3 F x.2 := Frame.tb.upd h hS (fun _ _ h => h)
        obtain ⟨a, c0, p, c, F1, hA⟩ := h3.at hi
        refine ⟨_, rfl, _, _, _, hA.blk0.cell rfl, _, rfl, _, _, _, hA.blk0.cell rfl, ⟨by omega, by omega⟩, a, rfl, _, _, _, hA.cell0, ⟨(fWithout_ok hA.cells (by rw [hl]; omega) _).mono ?_⟩⟩
        rintro e w4 ⟨p', c', rfl, hL⟩
        refine ⟨_, _, _, rfl, (hA.blk _ hL.U.none).cell rfl, ⟨by omega, by omega⟩, a, rfl, ?_⟩
        refine hA.put _ _ _ _ (Ls.fresh hL) _ fun w5 h5 => ⟨rfl, ?_⟩
        rw [hl, wo_head hrow.1] at h5
        exact Turn.next h3 hS.none (fun _ h => .inl h) h5
theorem rcTake_ok (h : RcO b w F x.2) (hI : CI x) (cpu : Int) : Calls Tryd.prog 12 #[.pointer (some ⟨b, 0, none⟩), .int .i64 cpu] w fun e w' => e = .returned (.tuple #[.int .i64 (tkE x cpu).1, .int .i64 (tkE x cpu).2]) ∧ Turn (RcO b) w w' F (tkS x cpu).2 := by
  rw [(hI.takeEq cpu).1, (hI.takeEq cpu).2.1]
  exact rcTake0_ok h hI cpu

theorem rcMove_ok (h : RcO b w F x.2) (hI : CI x) (f t : Int) : Calls Tryd.prog 14 #[.pointer (some ⟨b, 0, none⟩), .int .i64 f, .int .i64 t] w fun e w' => e = .returned (.tuple #[.int .i64 (mvE x f t).1, .int .i64 (mvE x f t).2]) ∧ Turn (RcO b) w w' F (mvS x f t).2 := by
  rw [(hI.moveEq f t).1, (hI.moveEq f t).2.1]
  refine u14 ?_
  rw [t14]
  refine ⟨(rcIs_ok h f).mono ?_⟩
  rintro e w1 ⟨rfl, rfl⟩
  refine ⟨_, rfl, fun g => ⟨(rcIs_ok h t).mono ?_⟩, fun g => ?_⟩
  · rintro e w2 ⟨rfl, rfl⟩
    have hf : inB x f := by simpa using g
    refine ⟨_, rfl, fun g1 => ?_, fun g1 => ⟨fun g2 => ?_, fun g2 => ⟨(rcTake0_ok h hI f).mono ?_⟩⟩⟩
    · have hn : ¬ (inB x f ∧ inB x t) := fun h => by simp [h.2] at g1
      rw [if_neg hn, if_neg hn]
      exact ⟨rfl, Turn.same h⟩
    · have ht : inB x t := by simpa using g1
      have hft : inB x f ∧ inB x t := ⟨hf, ht⟩
      have he : f = t := eq_of_beq g2
      rw [if_pos hft, if_pos hft, if_pos he, if_pos he]
      exact ⟨rfl, Turn.same h⟩
    · have ht : inB x t := by simpa using g1
      have hne : ¬ f = t := by simpa using g2
      have hft : inB x f ∧ inB x t := ⟨hf, ht⟩
      rw [if_pos hf, if_pos hf, if_pos hft, if_pos hft, if_neg hne, if_neg hne]
      rintro e w3 ⟨rfl, F3, q1, q2, q3⟩
      refine ⟨_, _, rfl, fun g3 w4 z1 z2 z3 z4 => ?_, fun g3 => ?_⟩
      · have g3 : (frontE (q32 (rowB x f))).2 = 0 := by simpa using g3
        rw [if_pos g3]
        obtain ⟨k, hk, rfl⟩ := inB_at ht
        unfold popB
        have hk2 : k < (x.2.set f.toNat (rowB x f).tail).length := by simpa using hk
        have er : rowB (x.1, x.2.set f.toNat (rowB x f).tail) (k : Int) = (x.2.set f.toNat (rowB x f).tail)[k] := rowB_at (x := (x.1, x.2.set f.toNat (rowB x f).tail)) hk2
        rw [er, Int.toNat_natCast]
        have hlen : (x.2.set f.toNat (rowB x f).tail)[k].length ≤ 32 := by
          obtain ⟨i, hi, rfl⟩ := inB_at hf
          rw [List.getElem_set]
          split
          · rw [rowB_at hi]; have := (hI.row hi).2; simp; omega
          · exact (hI.row hk).2
        have hS := Upd.same no z1 z2 z3 z4
        have h4 : RcO b w4 F3 (x.2.set f.toNat (rowB x f).tail) := Frame.tb.upd q1 hS (fun _ _ h => h)
        obtain ⟨a, c0, p, c, F1, hA⟩ := h4.at hk2
        refine ⟨_, rfl, _, _, _, hA.blk0.cell rfl, _, rfl, _, _, _, hA.blk0.cell rfl, ⟨by omega, by omega⟩, a, rfl, _, _, _, hA.cell0, ⟨fun w5 hN => ?_⟩⟩
        have hN' : Upd F1 w4 w5 := (hN.upd no).none
        obtain ⟨p', c', w6, hr, hT⟩ := Ls.push elI hA.ls (by omega) hN 38
        obtain ⟨_, _, hU5, _⟩ := id hT
        refine ⟨hA.cell _ hN', (hA.blk _ hN').cell rfl, (hA.blk _ hN').cell rfl, p', _, c', w6, hr, (hA.blk _ hU5).cell rfl, ⟨by omega, by omega⟩, a, rfl, ?_⟩
        exact hA.put _ _ _ _ hT _ fun w7 h7 => ⟨rfl, Turn.next q1 q2 q3 (Turn.next h4 hS.none (fun _ h => .inl h) h7)⟩
      · have g3 : ¬ (frontE (q32 (rowB x f))).2 = 0 := by simpa using g3
        rw [if_neg g3]
        exact ⟨rfl, F3, q1, q2, q3⟩
  · have hn : ¬ (inB x f ∧ inB x t) := fun h => by simp [h.1] at g
    rw [if_neg hn, if_neg hn]
    exact ⟨rfl, Turn.same h⟩
theorem rcList_ok (h : RcO b w F x.2) (cpu : Int) : Calls Tryd.prog 18 #[.pointer (some ⟨b, 0, none⟩), .int .i64 cpu] w fun e w' => ∃ p c, e = .returned (.slice p (lsE x cpu).length c) ∧ Cells w' p ((lsE x cpu).map (Value.int .i64)) ∧ w' = w := by
  refine u18 ?_
  rw [t18]
  refine ⟨(rcIs_ok h cpu).mono ?_⟩
  rintro e w1 ⟨rfl, rfl⟩
  refine ⟨_, rfl, fun g => ?_, fun g => ?_⟩
  · have hn : ¬ inB x cpu := by simpa using g
    rw [lsE, if_neg hn]
    exact ⟨none, 0, rfl, Cells.nil _ _, rfl⟩
  · have hc : inB x cpu := by simpa using g
    rw [lsE, if_pos hc]
    obtain ⟨i, hi, rfl⟩ := inB_at hc
    rw [rowB_at hi]
    obtain ⟨a, c0, p, c, F1, hA⟩ := h.at hi
    exact ⟨_, rfl, _, _, _, hA.blk0.cell rfl, ⟨by omega, by omega⟩, a, rfl, _, _, _, hA.cell0, _, _, rfl, hA.cells, rfl⟩
theorem rcNew_ok (n : Int) (w : World) : Calls Tryd.prog 7 #[.int .i64 n] w fun e w' =>
    (¬ okC n ∧ e = .returned (.tuple #[.pointer none, .int .i64 2]) ∧ w' = w) ∨
    (okC n ∧ ∃ b F, e = .returned (.tuple #[.pointer (some ⟨b, 0, none⟩), .int .i64 0]) ∧ RcO b w' F (newC n).2 ∧ Upd no w w' ∧ ∀ i, F i → w.heap.size ≤ i) := by
  refine u7 ?_
  rw [t7]
  refine ⟨fun g1 => ⟨fun g2 => .inl ⟨?_, rfl, rfl⟩, fun g2 => ?_⟩, fun g1 => .inl ⟨?_, rfl, rfl⟩⟩
  · unfold okC; simp at g2; omega
  · have g1 : ¬ n < 1 := by simpa using g1
    have g2 : ¬ 64 < n := by simpa using g2
    obtain ⟨k, rfl⟩ : ∃ k : Nat, n = k := ⟨n.toNat, by omega⟩
    obtain ⟨w2, hr, hU2, hL⟩ := run_mkV (f := fun _ : Unit => Value.slice none 0 0) (x0 := ()) elL w (n := k) (by omega) (by omega) .i64 .i64
    have hS := hL.2
    simp only [List.length_replicate, List.map_replicate] at hS
    refine ⟨_, _, _, w2, hr, ⟨fun w3 hN => .inr ⟨⟨by omega, by omega⟩, w2.heap.size, _, rfl, Tb.new hU2 hS (fun i hi => (by obtain ⟨a, ha, rfl⟩ := hi; cases ha; exact Nat.le_refl _)) hN rfl, hU2.and (hN.upd no), ?_⟩⟩⟩
    rintro i (rfl | ⟨a, ha, rfl⟩)
    · exact hU2.size
    · cases ha; exact Nat.le_refl _
  · unfold okC; simp at g1; omega
end
end Go.Dav
