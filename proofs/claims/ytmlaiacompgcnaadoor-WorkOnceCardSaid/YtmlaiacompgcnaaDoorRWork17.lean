/- What the document's functions of works come to. -/
import Derived.Test.YtmlaiacompgcnaaDoorWorkF17
set_option linter.unusedVariables false
set_option linter.unusedSimpArgs false
set_option linter.unusedSectionVars false
namespace Go.Dav
open Go.Proofs
/-- The document's order: the list that is no core's is the last one. -/
def rot (Q : QL) : QL := Q.tail ++ [Q.headD []]
def dp (Q : QL) (i : Nat) : Nat := if i = 0 then Q.length - 1 else i - 1
section
variable {Q : QL} {i : Nat}
theorem rot_len (h : 0 < Q.length) : (rot Q).length = Q.length := by unfold rot; simp; omega
theorem dp_lt (hi : i < Q.length) : dp Q i < (rot Q).length := by rw [rot_len (by omega)]; unfold dp; split <;> omega
theorem rot_at (hi : i < Q.length) : (rot Q)[dp Q i]'(dp_lt hi) = Q[i] := by
  cases Q with
  | nil => simp at hi
  | cons f L =>
    cases i with
    | zero => simp [rot, dp]
    | succ k =>
      have : k < L.length := by simpa using hi
      simp [rot, dp, List.getElem_append_left this]
theorem rot_set (hi : i < Q.length) (l : List Int) : rot (Q.set i l) = (rot Q).set (dp Q i) l := by
  cases Q with
  | nil => simp at hi
  | cons f L =>
    cases i with
    | zero => simp [rot, dp]
    | succ k =>
      have : k < L.length := by simpa using hi
      simp [rot, dp, List.set_append_left _ _ this]
theorem rot_ix (h : 0 < Q.length) {j : Nat} (hj : j < Q.length) : ∃ i, ∃ hi : i < Q.length, dp Q i = j ∧ (rot Q)[j]'(by rw [rot_len h]; exact hj) = Q[i] ∧ (i : Int) - 1 = if j = Q.length - 1 then -1 else (j : Int) := by
  by_cases he : j = Q.length - 1
  · refine ⟨0, h, by unfold dp; simp [he], ?_, by rw [if_pos he]; rfl⟩
    have := rot_at (Q := Q) (i := 0) h
    rw [← this]
    congr 1
  · refine ⟨j + 1, by omega, by unfold dp; simp, ?_, by rw [if_neg he]; omega⟩
    have := rot_at (Q := Q) (i := j + 1) (by omega)
    rw [← this]
    congr 1
end
structure WQ (Q : QL) : Prop where
  one : once Q
  rng : ∀ v, 0 < ct Q v → 1 ≤ v ∧ v ≤ 32
  pos : 2 ≤ Q.length ∧ Q.length ≤ 65
theorem WkI.wq {b : Nat} {w : World} {F : Fp} {Q : QL} (h : WkI b w F Q) : WQ Q := by
  obtain ⟨o, g, _, hI⟩ := h
  exact ⟨hI.one, fun v hv => hI.rng hv, hI.pos⟩
theorem WQ.row {Q : QL} {i : Nat} (h : WQ Q) (hi : i < Q.length) : Q[i].Nodup ∧ Q[i].length ≤ 32 := by
  have hn := ct_nodup h.one hi
  exact ⟨hn, few hn fun v hv => h.rng v (ct_mem hi hv)⟩

def rwE (p : Option Addr) (n c : Nat) : List Value := [.slice p n c]
abbrev RwO (b : Nat) : Ob QL := Tb b 58 38 3 rwE
section
variable {w : World} {F : Fp} {b : Nat} {Q : QL}
theorem rwIs_ok (h : RwO b w F (rot Q)) (hI : WQ Q) (cpu : Int) : Calls Tryd.prog 31 #[.pointer (some ⟨b, 0, none⟩), .int .i64 cpu] w fun e w' => e = .returned (.bool (decide (inW Q cpu 0))) ∧ w' = w := by
  have hp := hI.pos
  refine u31 ?_
  rw [t31]
  obtain ⟨p, c, hB⟩ := h.blk
  have hl := rot_len (Q := Q) (by omega)
  rw [hl] at hB
  have e1 : IntKind.wrap .i64 ((Q.length : Int) - 1) = (Q.length : Int) - 1 := w64 (by omega)
  refine ⟨fun g => ⟨_, rfl, _, _, _, hB.cell rfl, ?_, rfl⟩, fun g => ⟨?_, rfl⟩⟩
  · rw [e1]
    have : decide (cpu < (Q.length : Int) - 1) = decide (inW Q cpu 0) := decide_eq_decide.2 ⟨fun h => ⟨by simp at g; omega, by omega⟩, fun h => by have := h.2; omega⟩
    rw [this]
  · rw [decide_eq_false]; unfold inW; simp at g; omega
theorem rwAt_ok (h : RwO b w F (rot Q)) (hI : WQ Q) {i : Nat} (hi : i < Q.length) : Calls Tryd.prog 32 #[.pointer (some ⟨b, 0, none⟩), .int .i64 ((i : Int) - 1)] w fun e w' => e = .returned (.int .i64 (dp Q i : Int)) ∧ w' = w := by
  have hp := hI.pos
  refine u32 ?_
  rw [t32]
  obtain ⟨p, c, hB⟩ := h.blk
  have hl := rot_len (Q := Q) (by omega)
  rw [hl] at hB
  have e1 : IntKind.wrap .i64 ((Q.length : Int) - 1) = ((Q.length - 1 : Nat) : Int) := by rw [w64 (by omega)]; omega
  refine ⟨fun g => ⟨_, rfl, _, _, _, hB.cell rfl, ?_, rfl⟩, fun g => ⟨?_, rfl⟩⟩
  · have : i = 0 := by simp at g; omega
    subst this
    rw [e1]
    rfl
  · have : i ≠ 0 := fun e => by subst e; simp at g
    have e2 : dp Q i = i - 1 := by unfold dp; rw [if_neg this]
    rw [e2, show ((i - 1 : Nat) : Int) = (i : Int) - 1 by omega]
theorem rwWhere_ok (h : RwO b w F (rot Q)) (hI : WQ Q) (v : Int) : Calls Tryd.prog 11 #[.pointer (some ⟨b, 0, none⟩), .int .i64 v] w fun e w' => e = .returned (.tuple #[.int .i64 (whP Q v).1, .bool (whP Q v).2]) ∧ w' = w := by
  have hp := hI.pos
  have hp0 : 0 < Q.length := by omega
  refine u11 ?_
  rw [t11]
  obtain ⟨hlm, p, c, hB, hR⟩ := h.rows
  have hl := rot_len hp0
  rw [hl] at hB
  have e1 : IntKind.wrap .i64 ((Q.length : Int) - 1) = (Q.length : Int) - 1 := w64 (by omega)
  refine ⟨WP_loop okProg (M := M11) (σ := Nat) (fun j => e11_1 (some ⟨b, 0, none⟩) v (j : Int)) (fun j w' => j ≤ Q.length ∧ (∀ k (hk : k < (rot Q).length), k < j → v ∉ (rot Q)[k]) ∧ w' = w) (fun j _ => Q.length - j) 0 ⟨rfl, rfl, rfl, trivial⟩ ⟨by omega, fun k _ h => by omega, rfl⟩ ?_⟩
  rintro j w1 ⟨j1, j2, rfl⟩
  rw [t11_1]
  refine ⟨_, rfl, _, _, _, hB.cell rfl, fun g => ?_, fun g => ?_⟩
  · have hj : j < Q.length := by simp at g; omega
    have hj' : j < (rot Q).length := by omega
    obtain ⟨i, hi, hdp, hrow, hix⟩ := rot_ix hp0 hj
    obtain ⟨a, q, d, ha, hc, hC⟩ := hR j hj'
    have h4 := (hI.row hi).2
    refine ⟨_, rfl, _, _, _, hB.cell rfl, ⟨by omega, by omega⟩, a, ha, _, _, _, hc, ⟨(fHas_ok hC (by rw [hrow]; omega) v).mono ?_⟩⟩
    rintro e w2 ⟨rfl, rfl⟩
    refine ⟨_, rfl, fun g1 => ?_, fun g1 => ⟨j + 1, ⟨rfl, rfl, by rw [w64 (by omega)]; rfl, trivial⟩, ⟨by omega, fun k hk hkj => ?_, rfl⟩, by omega⟩⟩
    · have hv : v ∈ Q[i] := by rw [hrow] at g1; exact of_decide_eq_true g1
      have hw := wh_in hI.one hi hv
      rw [whP, hw]
      simp only [hix, e1]
      refine ⟨_, rfl, _, _, _, hB.cell rfl, fun g2 => ⟨?_, by first | rfl | trivial⟩, fun g2 => ⟨?_, by first | rfl | trivial⟩⟩
      · rw [e1] at g2
        have := eq_of_beq g2
        rw [if_pos (by omega)]
      · rw [e1] at g2
        rw [if_neg (fun e => by subst e; simp at g2; omega)]
    · by_cases hkj' : k = j
      · subst hkj'; simpa using g1
      · exact j2 k hk (by omega)
  · have : j = Q.length := by simp at g; omega
    subst this
    rcases wh_cases hI.one v with ⟨k1, _⟩ | ⟨i, hi, hv, k1, _⟩
    · rw [whP, k1]
      exact ⟨rfl, rfl⟩
    · exact absurd (by rw [rot_at hi]; exact hv) (j2 (dp Q i) (dp_lt hi) (by have := dp_lt hi; omega))

theorem wo_erase {l : List Int} (hn : l.Nodup) (v : Int) : wo l v = l.erase v := by
  unfold wo
  induction l with
  | nil => rfl
  | cons a t ih =>
    rw [List.nodup_cons] at hn
    by_cases h : a = v
    · subst h
      rw [List.erase_cons_head, List.filter_cons_of_neg (by simp), List.filter_eq_self]
      intro y hy
      have : y ≠ a := fun e => hn.1 (e ▸ hy)
      simpa using this
    · rw [List.erase_cons_tail (by simpa using h), List.filter_cons_of_pos (by simpa using h), ih hn.2]
theorem rwRow (h : RwO b w F (rot Q)) {i : Nat} (hi : i < Q.length) : ∃ a c0 p c F1, TbAt b 58 38 3 rwE w F (rot Q) (dp Q i) Q[i] a c0 p c F1 := by
  have := h.at (dp_lt hi)
  rw [rot_at hi] at this
  exact this

theorem rwDrop_ok (h : RwO b w F (rot Q)) (hI : WQ Q) (v : Int) : Calls Tryd.prog 26 #[.pointer (some ⟨b, 0, none⟩), .int .i64 v] w fun e w' => e = .returned (.int .i64 (dpE Q v)) ∧ Turn (RwO b) w w' F (rot (dpS Q v)) := by
  have hp := hI.pos
  have hl := rot_len (Q := Q) (by omega)
  refine u26 ?_
  rw [t26]
  refine ⟨(rwWhere_ok h hI v).mono ?_⟩
  rintro e w1 ⟨rfl, rfl⟩
  rcases wh_cases hI.one v with ⟨k1, _⟩ | ⟨i, hi, hv, k1, _⟩
  · rw [whP, dpE, dpS, k1]
    exact ⟨_, _, rfl, fun _ => ⟨by first | rfl | trivial, Turn.same h⟩, fun g => by simp at g⟩
  · rw [whP, dpE, dpS, k1]
    refine ⟨_, _, rfl, fun g => by simp at g, fun _ => ?_⟩
    simp only
    rw [ix_of, rowW_at hi, rot_set hi]
    refine ⟨(rwAt_ok h hI hi).mono ?_⟩
    rintro e w2 ⟨rfl, rfl⟩
    refine ⟨_, rfl, fun w3 z1 z2 z3 z4 => ?_⟩
    have hS := Upd.same no z1 z2 z3 z4
    have h3 : RwO b w3 F (rot Q) := Frame.tb.upd h hS (fun _ _ h => h)
    obtain ⟨a, c0, p, c, F1, hA⟩ := rwRow h3 hi
    have hrow := hI.row hi
    have hd := dp_lt hi
    refine ⟨_, rfl, _, _, _, hA.blk0.cell rfl, _, rfl, _, _, _, hA.blk0.cell rfl, ⟨by omega, by omega⟩, a, rfl, _, _, _, hA.cell0, ⟨(fWithout_ok hA.cells (by omega) v).mono ?_⟩⟩
    rintro e w4 ⟨p', c', rfl, hL⟩
    refine ⟨_, _, _, rfl, (hA.blk _ hL.U.none).cell rfl, ⟨by omega, by omega⟩, a, rfl, ?_⟩
    refine hA.put _ _ _ _ (Ls.fresh hL) _ fun w5 h5 => ⟨by first | rfl | trivial, ?_⟩
    rw [wo_erase hrow.1] at h5
    exact Turn.next h3 hS.none (fun _ h => .inl h) h5

theorem rwQueue0 (h : RwO b w F (rot Q)) (hI : WQ Q) {i : Nat} (hi : i < Q.length) :
    CutD Tryd.prog M23 c23_0 (e23_0 (some ⟨b, 0, none⟩) ((i : Int) - 1)) w (k23_0 fun e w' => e = .returned (.tuple #[.int .i64 (match freeId Q with | some j => ((j : Int) + 1, (0 : Int)) | none => (0, 5)).1, .int .i64 (match freeId Q with | some j => ((j : Int) + 1, (0 : Int)) | none => (0, 5)).2]) ∧ Turn (RwO b) w w' F (rot (match freeId Q with | some j => Q.set i (Q[i] ++ [(j : Int) + 1]) | none => Q))) := by
  refine CutD.mk ?_
  have hp := hI.pos
  have hl := rot_len (Q := Q) (by omega)
  rw [t23_0]
  refine ⟨WP_loop okProg (M := M23) (σ := Nat) (fun j => e23_2 (some ⟨b, 0, none⟩) ((i : Int) - 1) ((j : Int) + 1)) (fun j w' => j ≤ 32 ∧ (∀ k : Nat, k < j → ct Q ((k : Int) + 1) ≠ 0) ∧ w' = w) (fun j _ => 32 - j) 0 ⟨rfl, rfl, rfl, trivial⟩ ⟨by omega, fun k hk => by omega, rfl⟩ ?_⟩
  rintro j w2 ⟨j1, j2, rfl⟩
  rw [t23_2]
  refine ⟨fun g => ?_, fun g => ?_⟩
  · have hj : j < 32 := by simp at g; omega
    refine ⟨(rwWhere_ok h hI _).mono ?_⟩
    rintro e w3 ⟨rfl, rfl⟩
    rcases wh_cases hI.one ((j : Int) + 1) with ⟨k1, k2⟩ | ⟨i', hi', hv, k1, k2⟩
    · rw [whP, k1]
      have hf : freeId Q = some j := by
        unfold freeId
        rw [List.find?_range_eq_some]
        exact ⟨by simpa using k2, by simpa using hj, fun k hk => by simpa using j2 k hk⟩
      rw [hf]
      refine ⟨_, _, rfl, fun _ => ⟨(rwAt_ok h hI hi).mono ?_⟩, fun g => by simp at g⟩
      rintro e w4 ⟨rfl, rfl⟩
      refine ⟨_, rfl, fun w5 z1 z2 z3 z4 => ?_⟩
      have hS := Upd.same no z1 z2 z3 z4
      have h3 : RwO b w5 F (rot Q) := Frame.tb.upd h hS (fun _ _ h => h)
      obtain ⟨a, c0, p, c, F1, hA⟩ := rwRow h3 hi
      have hrow := hI.row hi
      have hd := dp_lt hi
      refine ⟨_, rfl, _, _, _, hA.blk0.cell rfl, _, rfl, _, _, _, hA.blk0.cell rfl, ⟨by omega, by omega⟩, a, rfl, _, _, _, hA.cell0, ⟨fun w6 hN => ?_⟩⟩
      have hN' : Upd F1 w5 w6 := (hN.upd no).none
      obtain ⟨p', c', w7, hr, hT⟩ := Ls.push elI hA.ls (by omega) hN 38
      obtain ⟨_, _, hU5, _⟩ := id hT
      refine ⟨hA.cell _ hN', (hA.blk _ hN').cell rfl, (hA.blk _ hN').cell rfl, p', _, c', w7, hr, (hA.blk _ hU5).cell rfl, ⟨by omega, by omega⟩, a, rfl, ?_⟩
      refine hA.put _ _ _ _ hT _ fun w8 h8 => ⟨rfl, ?_⟩
      simp only
      rw [rot_set hi]
      exact Turn.next h3 hS.none (fun _ h => .inl h) h8
    · rw [whP, k1]
      refine ⟨_, _, rfl, fun g => by simp at g, fun _ => ⟨j + 1, ⟨rfl, rfl, by rw [w64 (by omega)]; rfl, trivial⟩, ⟨by omega, fun k hk => ?_, rfl⟩, by omega⟩⟩
      by_cases hkj : k = j
      · subst hkj; omega
      · exact j2 k (by omega)
  · have : j = 32 := by simp at g; omega
    subst this
    have hf : freeId Q = none := by
      unfold freeId
      rw [List.find?_eq_none]
      intro k hk
      have := j2 k (by simpa using hk)
      simpa using this
    rw [hf]
    exact ⟨rfl, Turn.same h⟩
theorem inW_free {Q : QL} (hI : WQ Q) (cpu : Int) : inW Q cpu (-1) ↔ (inW Q cpu 0 ∨ cpu = -1) := by have := hI.pos; unfold inW; omega
theorem rwQueue_ok (h : RwO b w F (rot Q)) (hI : WQ Q) (cpu : Int) : Calls Tryd.prog 23 #[.pointer (some ⟨b, 0, none⟩), .int .i64 cpu] w fun e w' => e = .returned (.tuple #[.int .i64 (quE Q cpu).1, .int .i64 (quE Q cpu).2]) ∧ Turn (RwO b) w w' F (rot (quS Q cpu)) := by
  have go : inW Q cpu (-1) → CutD Tryd.prog M23 c23_0 (e23_0 (some ⟨b, 0, none⟩) cpu) w (k23_0 fun e w' => e = .returned (.tuple #[.int .i64 (quE Q cpu).1, .int .i64 (quE Q cpu).2]) ∧ Turn (RwO b) w w' F (rot (quS Q cpu))) := by
    intro hc
    rw [quE, quS, if_pos hc, if_pos hc]
    obtain ⟨i, hi, rfl, hix⟩ := inW_at hc (by omega)
    rw [rowW_at hi, ix_of]
    exact rwQueue0 h hI hi
  refine u23 ?_
  rw [t23]
  refine ⟨(rwIs_ok h hI cpu).mono ?_⟩
  rintro e w1 ⟨rfl, rfl⟩
  refine ⟨_, rfl, fun g => ⟨fun g1 => ?_, fun g1 => go ?_⟩, fun g => go ?_⟩
  · have hn : ¬ inW Q cpu (-1) := by rw [inW_free hI]; simp at g g1; simp [g, g1]
    rw [quE, quS, if_neg hn, if_neg hn]
    exact ⟨rfl, Turn.same h⟩
  · rw [inW_free hI]; simp at g1; exact .inr g1
  · rw [inW_free hI]; simp at g; exact .inl g

theorem rwTake0 (h : RwO b w F (rot Q)) (hI : WQ Q) {i : Nat} (hi : i < Q.length) {K : Ending → World → Prop}
    (hne : ∀ a l, Q[i] = a :: l → ∀ w', Turn (RwO b) w w' F (rot (dpS Q a)) → K (.returned (.tuple #[.int .i64 a, .int .i64 0])) w') (he : Q[i] = [] → K (.returned (.tuple #[.int .i64 0, .int .i64 12])) w) :
    CutD Tryd.prog M24 c24_0 (e24_0 (some ⟨b, 0, none⟩) (dp Q i : Int)) w (k24_0 K) := by
  refine CutD.mk ?_
  have hp := hI.pos
  have hl := rot_len (Q := Q) (by omega)
  rw [t24_0]
  obtain ⟨a, c0, p, c, F1, hA⟩ := rwRow h hi
  have hd := dp_lt hi
  refine ⟨_, rfl, _, _, _, hA.blk0.cell rfl, ⟨by omega, by omega⟩, a, rfl, _, _, _, hA.cell0, fun g => he (by simpa using g), fun g => ?_⟩
  cases hq : Q[i] with
  | nil => rw [hq] at g; simp at g
  | cons v l =>
    have hpos : 0 < Q[i].length := by rw [hq]; simp
    obtain ⟨a', ha', hc'⟩ := hA.cells.at1 hpos
    have h0 : Q[i][0] = v := by simp [hq]
    rw [h0] at hc'
    refine ⟨_, rfl, _, _, _, hA.blk0.cell rfl, ⟨by omega, by omega⟩, a, rfl, _, _, _, hA.cell0, ⟨by omega, by omega⟩, a', ha', _, hc', ⟨(rwDrop_ok h hI v).mono ?_⟩⟩
    rintro e w2 ⟨rfl, hT⟩
    exact ⟨_, rfl, hne v l hq _ hT⟩
theorem rwTake_ok (h : RwO b w F (rot Q)) (hI : WQ Q) (cpu : Int) : Calls Tryd.prog 24 #[.pointer (some ⟨b, 0, none⟩), .int .i64 cpu] w fun e w' => e = .returned (.tuple #[.int .i64 (taE Q cpu).1, .int .i64 (taE Q cpu).2]) ∧ Turn (RwO b) w w' F (rot (taS Q cpu)) := by
  have hp := hI.pos
  have hl := rot_len (Q := Q) (by omega)
  refine u24 ?_
  rw [t24]
  refine ⟨(rwIs_ok h hI cpu).mono ?_⟩
  rintro e w1 ⟨rfl, rfl⟩
  refine ⟨_, rfl, fun g => ?_, fun g => ?_⟩
  · have hn : ¬ inW Q cpu 0 := by simpa using g
    rw [taE, taS, if_neg hn, if_neg hn]
    exact ⟨rfl, Turn.same h⟩
  · have hc : inW Q cpu 0 := by simpa using g
    rw [taE, taS, if_pos hc, if_pos hc]
    obtain ⟨i, hi, rfl, hix⟩ := inW_at hc (by omega)
    have h0 : 0 < i := by unfold inW at hc; omega
    have hz : 0 < Q.length := by omega
    have e0 : rowW Q (-1) = Q[0] := rowW_at (i := 0) hz
    rw [rowW_at hi, e0]
    have ed : dp Q i = i - 1 := by unfold dp; rw [if_neg (by omega)]
    have ed0 : dp Q 0 = Q.length - 1 := by unfold dp; rw [if_pos rfl]
    obtain ⟨a, c0, p, c, F1, hA⟩ := rwRow h hi
    have hd := dp_lt hi
    have ei : ((i : Int) - 1).toNat = dp Q i := by omega
    have eii : (i : Int) - 1 = (dp Q i : Int) := by omega
    refine ⟨_, rfl, _, _, _, hA.blk0.cell rfl, ⟨by omega, by omega⟩, a, rfl, _, _, _, by rw [ei]; exact hA.cell0, fun g => ?_, fun g => ?_⟩
    · have hq : Q[i] = [] := by simpa using g
      have e1 : IntKind.wrap .i64 (((rot Q).length : Int) - 1) = (dp Q 0 : Int) := by rw [w64 (by omega)]; omega
      rw [hq]
      refine ⟨_, rfl, _, _, _, hA.blk0.cell rfl, ?_⟩
      rw [e1]
      refine rwTake0 h hI hz (fun a l hl w' hT => ?_) (fun hl => ?_)
      · rw [hl]; exact ⟨rfl, hT⟩
      · rw [hl]; exact ⟨rfl, Turn.same h⟩
    · rw [eii]
      refine rwTake0 h hI hi (fun a l hl w' hT => ?_) (fun hl => by rw [hl] at g; simp at g)
      rw [hl]; exact ⟨rfl, hT⟩

theorem WQ.drop {v : Int} (hI : WQ Q) {i : Nat} (hi : i < Q.length) (hv : v ∈ Q[i]) : WQ (Q.set i (Q[i].erase v)) := by
  have hct := ct_erase hI.one hi hv
  refine ⟨fun u => ?_, fun u hu => hI.rng u ?_, by simpa using hI.pos⟩
  · have := hct u; have := hI.one u; omega
  · have := hct u; omega
theorem rwUnbind_ok (h : RwO b w F (rot Q)) (hI : WQ Q) (cpu : Int) : Calls Tryd.prog 25 #[.pointer (some ⟨b, 0, none⟩), .int .i64 cpu] w fun e w' => e = .returned (.tuple #[.int .i64 (unE Q cpu).1, .int .i64 (unE Q cpu).2]) ∧ Turn (RwO b) w w' F (rot (unS Q cpu)) := by
  have hp := hI.pos
  have hl := rot_len (Q := Q) (by omega)
  refine u25 ?_
  rw [t25]
  refine ⟨(rwIs_ok h hI cpu).mono ?_⟩
  rintro e w1 ⟨rfl, rfl⟩
  refine ⟨_, rfl, fun g => ?_, fun g => ?_⟩
  · have hn : ¬ inW Q cpu 0 := by simpa using g
    rw [unE, unS, if_neg hn, if_neg hn]
    exact ⟨rfl, Turn.same h⟩
  · have hc : inW Q cpu 0 := by simpa using g
    rw [unE, unS, if_pos hc, if_pos hc]
    obtain ⟨i, hi, rfl, hix⟩ := inW_at hc (by omega)
    have h0 : 0 < i := by unfold inW at hc; omega
    have hz : 0 < Q.length := by omega
    have e0 : rowW Q (-1) = Q[0] := rowW_at (i := 0) hz
    rw [rowW_at hi, e0, ix_of]
    have ed : dp Q i = i - 1 := by unfold dp; rw [if_neg (by omega)]
    obtain ⟨a, c0, p, c, F1, hA⟩ := rwRow h hi
    have hd := dp_lt hi
    have ei : ((i : Int) - 1).toNat = dp Q i := by omega
    refine ⟨_, rfl, _, _, _, hA.blk0.cell rfl, ⟨by omega, by omega⟩, a, rfl, _, _, _, by rw [ei]; exact hA.cell0, fun g => ?_, fun g => ?_⟩
    · have hq : Q[i] = [] := by simpa using g
      rw [hq]
      exact ⟨rfl, Turn.same h⟩
    · cases hq : Q[i] with
      | nil => rw [hq] at g; simp at g
      | cons v l =>
        have hv : v ∈ Q[i] := by rw [hq]; simp
        have hpos : 0 < Q[i].length := by rw [hq]; simp
        obtain ⟨a', ha', hc'⟩ := hA.cells.at1 hpos
        have h0' : Q[i][0] = v := by simp [hq]
        rw [h0'] at hc'
        refine ⟨_, rfl, _, _, _, hA.blk0.cell rfl, ⟨by omega, by omega⟩, a, rfl, _, _, _, by rw [ei]; exact hA.cell0, ⟨by omega, by omega⟩, a', ha', _, hc', ⟨(rwDrop_ok h hI v).mono ?_⟩⟩
        have eS : dpS Q v = Q.set i l := by
          rw [dpS, wh_in hI.one hi hv]
          simp only
          rw [ix_of, rowW_at hi, hq, List.erase_cons_head]
        rw [eS]
        have hID := hI.drop hi hv
        rw [hq, List.erase_cons_head] at hID
        rintro e w2 ⟨rfl, F2, q1, q2, q3⟩
        have hz2 : 0 < (Q.set i l).length := by simpa using hz
        have hl2 : (rot (Q.set i l)).length = Q.length := by rw [rot_len hz2]; simp
        obtain ⟨p2, c2, hB2⟩ := q1.blk
        have ed0 : dp (Q.set i l) 0 = Q.length - 1 := by unfold dp; simp
        have e1 : IntKind.wrap .i64 (((rot (Q.set i l)).length : Int) - 1) = (dp (Q.set i l) 0 : Int) := by rw [w64 (by omega)]; omega
        refine ⟨_, rfl, _, rfl, _, _, _, hB2.cell rfl, ?_⟩
        rw [e1]
        intro w3 z1 z2 z3 z4
        have hS := Upd.same no z1 z2 z3 z4
        have h3 : RwO b w3 F2 (rot (Q.set i l)) := Frame.tb.upd q1 hS (fun _ _ h => h)
        obtain ⟨a, c0, p, c, F1, hA⟩ := rwRow h3 hz2
        have hrow : (Q.set i l)[0] = Q[0] := List.getElem_set_ne (by omega) hz2
        have hr := (hI.row hz).2
        rw [hrow] at hA
        refine ⟨_, rfl, _, _, _, hA.blk0.cell rfl, _, rfl, _, _, _, hA.blk0.cell rfl, ⟨by omega, by omega⟩, a, rfl, _, _, _, hA.cell0, ⟨fun w6 hN => ?_⟩⟩
        have hN' : Upd F1 w3 w6 := (hN.upd no).none
        obtain ⟨p', c', w7, hr', hT⟩ := Ls.push elI hA.ls (by omega) hN 38
        obtain ⟨_, _, hU5, _⟩ := id hT
        refine ⟨hA.cell _ hN', (hA.blk _ hN').cell rfl, (hA.blk _ hN').cell rfl, p', _, c', w7, hr', (hA.blk _ hU5).cell rfl, ⟨by omega, by omega⟩, a, rfl, ?_⟩
        refine hA.put _ _ _ _ hT _ fun w8 h8 => ⟨rfl, ?_⟩
        simp only
        rw [rot_set hz2]
        exact Turn.next q1 q2 q3 (Turn.next h3 hS.none (fun _ h => .inl h) h8)

theorem rwList0 (h : RwO b w F (rot Q)) (hI : WQ Q) {i : Nat} (hi : i < Q.length) {K : Ending → World → Prop} (hK : ∀ p c, Cells w p (Q[i].map (Value.int .i64)) → K (.returned (.slice p Q[i].length c)) w) :
    CutD Tryd.prog M15 c15_0 (e15_0 (some ⟨b, 0, none⟩) ((i : Int) - 1)) w (k15_0 K) := by
  refine CutD.mk ?_
  rw [t15_0]
  refine ⟨(rwAt_ok h hI hi).mono ?_⟩
  rintro e w2 ⟨rfl, rfl⟩
  obtain ⟨a, c0, p, c, F1, hA⟩ := rwRow h hi
  have hd := dp_lt hi
  exact ⟨_, rfl, _, rfl, _, _, _, hA.blk0.cell rfl, ⟨by omega, by omega⟩, a, rfl, _, _, _, hA.cell0, hK _ _ hA.cells⟩
theorem rwList_ok (h : RwO b w F (rot Q)) (hI : WQ Q) (cpu : Int) : Calls Tryd.prog 15 #[.pointer (some ⟨b, 0, none⟩), .int .i64 cpu] w fun e w' => ∃ p c, e = .returned (.slice p (lsE Q cpu).length c) ∧ Cells w' p ((lsE Q cpu).map (Value.int .i64)) ∧ w' = w := by
  have go : inW Q cpu (-1) → CutD Tryd.prog M15 c15_0 (e15_0 (some ⟨b, 0, none⟩) cpu) w (k15_0 fun e w' => ∃ p c, e = .returned (.slice p (lsE Q cpu).length c) ∧ Cells w' p ((lsE Q cpu).map (Value.int .i64)) ∧ w' = w) := by
    intro hc
    rw [lsE, if_pos hc]
    obtain ⟨i, hi, rfl, hix⟩ := inW_at hc (by omega)
    rw [rowW_at hi]
    exact rwList0 h hI hi fun p c hC => ⟨p, c, rfl, hC, rfl⟩
  refine u15 ?_
  rw [t15]
  refine ⟨(rwIs_ok h hI cpu).mono ?_⟩
  rintro e w1 ⟨rfl, rfl⟩
  refine ⟨_, rfl, fun g => ⟨fun g1 => ?_, fun g1 => go ?_⟩, fun g => go ?_⟩
  · have hn : ¬ inW Q cpu (-1) := by rw [inW_free hI]; simp at g g1; simp [g, g1]
    rw [lsE, if_neg hn]
    exact ⟨none, 0, rfl, Cells.nil _ _, rfl⟩
  · rw [inW_free hI]; simp at g1; exact .inr g1
  · rw [inW_free hI]; simp at g; exact .inl g

theorem rwNew_ok (n : Int) (w : World) : Calls Tryd.prog 7 #[.int .i64 n] w fun e w' =>
    (¬ okC n ∧ e = .returned (.tuple #[.pointer none, .int .i64 2]) ∧ w' = w) ∨
    (okC n ∧ ∃ b F, e = .returned (.tuple #[.pointer (some ⟨b, 0, none⟩), .int .i64 0]) ∧ RwO b w' F (rot (newQ n)) ∧ Upd no w w' ∧ ∀ i, F i → w.heap.size ≤ i) := by
  refine u7 ?_
  rw [t7]
  refine ⟨fun g1 => ⟨fun g2 => .inl ⟨?_, rfl, rfl⟩, fun g2 => ?_⟩, fun g1 => .inl ⟨?_, rfl, rfl⟩⟩
  · unfold okC; simp at g2; omega
  · have g1 : ¬ n < 1 := by simpa using g1
    have g2 : ¬ 64 < n := by simpa using g2
    obtain ⟨k, rfl⟩ : ∃ k : Nat, n = k := ⟨n.toNat, by omega⟩
    have ek : IntKind.wrap .i64 ((k : Int) + 1) = ((k + 1 : Nat) : Int) := by rw [w64 (by omega)]; omega
    rw [ek]
    obtain ⟨w2, hr, hU2, hL⟩ := run_mkV (f := fun _ : Unit => Value.slice none 0 0) (x0 := ()) elL w (n := k + 1) (by omega) (by omega) .i64 .i64
    have hS := hL.2
    simp only [List.length_replicate, List.map_replicate] at hS
    have er : rot (newQ (k : Int)) = List.replicate (k + 1) [] := by
      unfold rot newQ
      rw [Int.toNat_natCast, List.replicate_succ]
      simp only [List.tail_cons, List.headD_cons]
      rw [← List.replicate_succ', List.replicate_succ]
    refine ⟨_, _, _, w2, hr, ⟨fun w3 hN => .inr ⟨⟨by omega, by omega⟩, w2.heap.size, _, rfl, by rw [er]; exact Tb.new hU2 hS (fun i hi => (by obtain ⟨a, ha, rfl⟩ := hi; cases ha; exact Nat.le_refl _)) hN rfl, hU2.and (hN.upd no), ?_⟩⟩⟩
    rintro i (rfl | ⟨a, ha, rfl⟩)
    · exact hU2.size
    · cases ha; exact Nat.le_refl _
  · unfold okC; simp at g1; omega
end
end Go.Dav
