/- What the functions of calls from core to core come to. -/
import Derived.Test.YtfpgfcecbnlliaaDoorSlot18
import Derived.Test.YtfpgfcecbnlliaaDoorFifo18
import Derived.Test.YtfpgfcecbnlliaaDoorCt
set_option linter.unusedVariables false
set_option linter.unusedSimpArgs false
set_option linter.unusedSectionVars false
namespace Go.Dav
open Go.Proofs
theorem elQ : ElemT Tryd.prog 48 51 1 8 [.pointer none] := ⟨by kernel_rfl, by kernel_rfl, rfl, by omega⟩
theorem elL : ElemT Tryd.prog 54 38 1 24 [.slice none 0 0] := ⟨by kernel_rfl, by kernel_rfl, rfl, by omega⟩

abbrev CS := List Bool × List (List Int)
def q32 (l : List Int) : Nat × List Int := (32, l)
def caE (b2 : Nat) (p : Option Addr) (n c : Nat) : List Value := [.pointer (some ⟨b2, 0, none⟩), .slice p n c]
abbrev BxO (b b2 : Nat) : Ob (List (Nat × List Int)) := Tq FqO b 50 51 (caE b2)
def CaO (b : Nat) : Ob CS := fun w F x => ∃ b2, Star (SlO b2) (BxO b b2) w F (x.1, x.2.map q32)
instance Frame.ca (b : Nat) : Frame (CaO b) where
  upd := fun ⟨b2, h⟩ k hG => ⟨b2, Frame.star.upd h k hG⟩
  lt := fun ⟨b2, h⟩ => Frame.star.lt h
def rcE (p : Option Addr) (n c : Nat) : List Value := [.slice p n c]
abbrev RcO (b : Nat) : Ob (List (List Int)) := Tb b 56 38 3 rcE

/-! ### What the answers are -/
def inB (x : CS) (cpu : Int) : Prop := 0 ≤ cpu ∧ cpu < x.2.length
instance (x : CS) (cpu : Int) : Decidable (inB x cpu) := by unfold inB; infer_instance
theorem inB_of {x : CS} {i : Nat} (hi : i < x.2.length) : inB x (i : Int) := by unfold inB; omega
theorem inB_at {x : CS} {cpu : Int} (h : inB x cpu) : ∃ i : Nat, i < x.2.length ∧ cpu = (i : Int) := ⟨cpu.toNat, by unfold inB at h; omega, by unfold inB at h; omega⟩
def rowB (x : CS) (cpu : Int) : List Int := x.2.getD cpu.toNat []
theorem rowB_at {x : CS} {i : Nat} (hi : i < x.2.length) : rowB x (i : Int) = x.2[i] := by simp [rowB, hi]
def sendE (x : CS) (cpu : Int) : Int × Int := if inB x cpu then (if (takeE x.1).2 = 0 then ((takeE x.1).1, pushE (q32 (rowB x cpu)) (takeE x.1).1) else (0, (takeE x.1).2)) else (0, 3)
def sendS (x : CS) (cpu : Int) : CS := if inB x cpu then (if (takeE x.1).2 = 0 then (takeS x.1, x.2.set cpu.toNat (pushS (q32 (rowB x cpu)) (takeE x.1).1).2) else (takeS x.1, x.2)) else x
def tkE (x : CS) (cpu : Int) : Int × Int := if inB x cpu then (if (frontE (q32 (rowB x cpu))).2 = 0 then ((frontE (q32 (rowB x cpu))).1, giveE x.1 (frontE (q32 (rowB x cpu))).1) else (0, (frontE (q32 (rowB x cpu))).2)) else (0, 3)
def tkS (x : CS) (cpu : Int) : CS := if inB x cpu then (if (frontE (q32 (rowB x cpu))).2 = 0 then (giveS x.1 (frontE (q32 (rowB x cpu))).1, x.2.set cpu.toNat (rowB x cpu).tail) else (x.1, x.2.set cpu.toNat (rowB x cpu).tail)) else x
def popB (x : CS) (cpu : Int) : CS := (x.1, x.2.set cpu.toNat (rowB x cpu).tail)
def mvE (x : CS) (f t : Int) : Int × Int := if inB x f ∧ inB x t then (if f = t then (0, 2) else if (frontE (q32 (rowB x f))).2 = 0 then ((frontE (q32 (rowB x f))).1, pushE (q32 (rowB (popB x f) t)) (frontE (q32 (rowB x f))).1) else (0, (frontE (q32 (rowB x f))).2)) else (0, 3)
def mvS (x : CS) (f t : Int) : CS := if inB x f ∧ inB x t then (if f = t then x else if (frontE (q32 (rowB x f))).2 = 0 then (x.1, (popB x f).2.set t.toNat (pushS (q32 (rowB (popB x f) t)) (frontE (q32 (rowB x f))).1).2) else popB x f) else x
def lsE (x : CS) (cpu : Int) : List Int := if inB x cpu then rowB x cpu else []
theorem pushS_q (l : List Int) (n : Int) : pushS (q32 l) n = q32 (pushS (q32 l) n).2 := by unfold pushS; split <;> rfl

section
variable {w : World} {F : Fp} {b : Nat} {x : CS}
theorem CaO.slot (h : CaO b w F x) : ∃ b2 F1, SlO b2 w F1 x.1 ∧ (∃ p c, Blk w b (caE b2 p x.2.length c) 50) ∧ ∀ w' o', Turn (SlO b2) w w' F1 o' → Turn (CaO b) w w' F (o', x.2) := by
  obtain ⟨b2, h⟩ := h
  obtain ⟨F2, h2, _⟩ := h.right
  obtain ⟨F1, h1, k⟩ := h.left
  obtain ⟨p, c, hB⟩ := h2.blk
  rw [List.length_map] at hB
  refine ⟨b2, F1, h1, ⟨p, c, hB⟩, fun w' o' hT => ?_⟩
  obtain ⟨F', q1, q2⟩ := k _ _ hT
  exact ⟨F', ⟨b2, q1⟩, q2⟩
theorem CaO.q (h : CaO b w F x) {i : Nat} (hi : i < x.2.length) : ∃ b2 a c bi F1, Blk w b (caE b2 (some a) x.2.length c) 50 ∧ w.cell? (a.add (i * 1)) = some (.pointer (some ⟨bi, 0, none⟩)) ∧ FqO bi w F1 (q32 x.2[i]) ∧
    ∀ w' l', Turn (FqO bi) w w' F1 (q32 l') → Turn (CaO b) w w' F (x.1, x.2.set i l') := by
  obtain ⟨b2, h⟩ := h
  obtain ⟨F2, h2, k⟩ := h.right
  obtain ⟨a, c, bi, F1, hB, hc, hq, ht⟩ := h2.at (i := i) (by simpa using hi)
  simp only [List.length_map] at hB
  simp only [List.getElem_map] at hq
  refine ⟨b2, a, c, bi, F1, hB, hc, hq, fun w' l' hT => ?_⟩
  obtain ⟨F', q1, q2⟩ := k _ _ (ht _ _ hT)
  refine ⟨F', ⟨b2, ?_⟩, q2⟩
  simp only [List.map_set]
  exact q1

theorem cmay_ok (h : CaO b w F x) {p : Option Addr} {l : List Int} {c : Nat} (hC : Cells w p (l.map (Value.int .i64))) (hl : l.length ≤ 100) :
    Calls Tryd.prog 23 #[.pointer (some ⟨b, 0, none⟩), .slice p l.length c] w fun e w' => e = .returned (.int .i64 (if ∀ v ∈ l, inB x v then 0 else 3)) ∧ w' = w := by
  refine u23 ?_
  rw [t23]
  obtain ⟨b2, F1, _, ⟨p1, c1, hB⟩, _⟩ := h.slot
  refine ⟨fun g => by simp at g, fun _ => ?_⟩
  refine ⟨WP_loop okProg (M := M23) (σ := Nat) (fun j => e23_1 (some ⟨b, 0, none⟩) p l.length c (l.length : Int) (j : Int)) (fun j w' => j ≤ l.length ∧ (∀ v ∈ l.take j, inB x v) ∧ w' = w) (fun j _ => l.length - j) 0 ⟨rfl, rfl, rfl, rfl, trivial⟩ ⟨by omega, by simp, rfl⟩ ?_⟩
  rintro j w1 ⟨j1, j2, rfl⟩
  rw [t23_1]
  refine ⟨fun g => ?_, fun g => ?_⟩
  · have hj : j < l.length := by simp at g; omega
    obtain ⟨a, ha, hc⟩ := hC.at1 hj
    have hno : ¬ inB x l[j] → ¬ ∀ v ∈ l, inB x v := fun h1 h2 => h1 (h2 _ (List.getElem_mem hj))
    refine ⟨⟨by omega, by omega⟩, a, ha, _, hc, fun g1 => ⟨_, rfl, _, _, _, hB.cell rfl, fun g2 => ⟨?_, rfl⟩, fun g2 => ?_⟩, fun g1 => ⟨?_, rfl⟩⟩
    · rw [if_neg (hno (by unfold inB; simp at g1 g2; omega))]
    · refine ⟨j + 1, ⟨rfl, rfl, rfl, by rw [w64 (by omega)]; rfl, trivial⟩, ⟨by omega, ?_, rfl⟩, by omega⟩
      rw [List.take_succ_eq_append_getElem hj]
      intro v hv
      rw [List.mem_append] at hv
      rcases hv with hv | hv
      · exact j2 v hv
      · simp at hv; subst hv; unfold inB; simp at g1 g2; omega
    · rw [if_neg (hno (by unfold inB; simp at g1; omega))]
  · have : j = l.length := by simp at g; omega
    subst this
    rw [List.take_length] at j2
    exact ⟨by rw [if_pos j2], rfl⟩
theorem cmayNil_ok {p : Option Addr} {n c : Nat} (w : World) : Calls Tryd.prog 23 #[.pointer none, .slice p n c] w fun e w' => e = .returned (.int .i64 1) ∧ w' = w := by
  refine u23 ?_
  rw [t23]
  exact ⟨fun _ => ⟨rfl, rfl⟩, fun g => by simp at g⟩
theorem cells1 {w w1 : World} {v : Int} {T : TypeId} (hN : Newed w w1 (.cells (List.toArray [Value.int .i64 v]) T (0, 0))) : Cells w1 (some ⟨w.heap.size, 0, none⟩) (([v] : List Int).map (Value.int .i64)) := (Sl.new (T := T) (n := 1) (sz := 1) hN (by simp) (by decide)).cells
theorem cells2 {w w1 : World} {u v : Int} {T : TypeId} (hN : Newed w w1 (.cells (List.toArray [Value.int .i64 u, Value.int .i64 v]) T (0, 0))) : Cells w1 (some ⟨w.heap.size, 0, none⟩) (([u, v] : List Int).map (Value.int .i64)) := (Sl.new (T := T) (n := 2) (sz := 1) hN (by simp) (by decide)).cells
theorem one_if {x : CS} {cpu : Int} : (if ∀ v ∈ ([cpu] : List Int), inB x v then (0 : Int) else 3) = if inB x cpu then 0 else 3 := by simp
theorem two_if {x : CS} {f t : Int} : (if ∀ v ∈ ([f, t] : List Int), inB x v then (0 : Int) else 3) = if inB x f ∧ inB x t then 0 else 3 := by simp

theorem csend_ok (h : CaO b w F x) (hTab : Tab w) (cpu : Int) : Calls Tryd.prog 9 #[.pointer (some ⟨b, 0, none⟩), .int .i64 cpu] w fun e w' => e = .returned (.tuple #[.int .i64 (sendE x cpu).1, .int .i64 (sendE x cpu).2]) ∧ Turn (CaO b) w w' F (sendS x cpu) := by
  refine u9 ?_
  rw [t9]
  refine ⟨fun w1 hN => ?_⟩
  have hU := hN.upd no
  have h1 : CaO b w1 F x := (Frame.ca b).upd h hU (fun _ _ h => h)
  refine ⟨(cmay_ok h1 (cells1 hN) (by simp)).mono ?_⟩
  rw [one_if]
  rintro e w2 ⟨rfl, rfl⟩
  refine ⟨_, rfl, fun g => ?_, fun g => ?_⟩
  · have hn : ¬ inB x cpu := fun h => by rw [if_pos h] at g; simp at g
    rw [sendE, sendS, if_neg hn, if_neg hn, if_neg hn]
    exact ⟨rfl, F, h1, hU.none, fun _ h => .inl h⟩
  · have hc : inB x cpu := Classical.byContradiction fun h => by rw [if_neg h] at g; simp at g
    rw [sendE, sendS, if_pos hc, if_pos hc]
    obtain ⟨i, hi, rfl⟩ := inB_at hc
    rw [rowB_at hi]
    obtain ⟨b2, F1, hs, ⟨p, c, hB⟩, ht⟩ := h1.slot
    refine ⟨_, rfl, _, by rw [add00']; exact hB.cell rfl, ⟨(slTake_ok (hTab.no hU) hs).mono ?_⟩⟩
    rintro e w3 ⟨rfl, hT⟩
    obtain ⟨F3, q1, q2, q3⟩ := ht _ _ hT
    have hUw : Turn (CaO b) w w3 F (takeS x.1, x.2) := Turn.next h1 hU.none (fun _ h => .inl h) ⟨F3, q1, q2, q3⟩
    refine ⟨_, _, rfl, fun g1 => ?_, fun g1 => ?_⟩
    · rw [if_neg (by simpa using g1), if_neg (by simpa using g1)]
      exact ⟨rfl, hUw⟩
    · rw [if_pos (by simpa using g1), if_pos (by simpa using g1)]
      obtain ⟨b2, a, c, bi, F4, hB, hc4, hq, htq⟩ := q1.q (i := i) hi
      refine ⟨_, rfl, _, _, _, hB.cell rfl, ⟨by omega, by show (i : Int) < (x.2.length : Int); omega⟩, a, rfl, _, hc4, ⟨(qpush_ok hq _).mono ?_⟩⟩
      rintro e w4 ⟨rfl, hT4⟩
      rw [pushS_q] at hT4
      have := htq _ _ hT4
      exact ⟨_, rfl, rfl, Turn.next h1 hU.none (fun _ h => .inl h) (Turn.next (s1 := (takeS x.1, x.2)) q1 q2 q3 this)⟩
theorem csendNil_ok (cpu : Int) (w : World) : Calls Tryd.prog 9 #[.pointer none, .int .i64 cpu] w fun e w' => e = .returned (.tuple #[.int .i64 0, .int .i64 1]) ∧ Upd no w w' := by
  refine u9 ?_
  rw [t9]
  refine ⟨fun w1 hN => ⟨(cmayNil_ok w1).mono ?_⟩⟩
  rintro e w2 ⟨rfl, rfl⟩
  exact ⟨_, rfl, fun g => ⟨rfl, hN.upd no⟩, fun g => by simp at g⟩

theorem ctake_ok (h : CaO b w F x) (cpu : Int) : Calls Tryd.prog 11 #[.pointer (some ⟨b, 0, none⟩), .int .i64 cpu] w fun e w' => e = .returned (.tuple #[.int .i64 (tkE x cpu).1, .int .i64 (tkE x cpu).2]) ∧ Turn (CaO b) w w' F (tkS x cpu) := by
  refine u11 ?_
  rw [t11]
  refine ⟨fun w1 hN => ?_⟩
  have hU := hN.upd no
  have h1 : CaO b w1 F x := (Frame.ca b).upd h hU (fun _ _ h => h)
  refine ⟨(cmay_ok h1 (cells1 hN) (by simp)).mono ?_⟩
  rw [one_if]
  rintro e w2 ⟨rfl, rfl⟩
  refine ⟨_, rfl, fun g => ?_, fun g => ?_⟩
  · have hn : ¬ inB x cpu := fun h => by rw [if_pos h] at g; simp at g
    rw [tkE, tkS, if_neg hn, if_neg hn, if_neg hn]
    exact ⟨rfl, F, h1, hU.none, fun _ h => .inl h⟩
  · have hc : inB x cpu := Classical.byContradiction fun h => by rw [if_neg h] at g; simp at g
    rw [tkE, tkS, if_pos hc, if_pos hc]
    obtain ⟨i, hi, rfl⟩ := inB_at hc
    rw [rowB_at hi]
    obtain ⟨b2, a, c, bi, F4, hB, hc4, hq, htq⟩ := h1.q (i := i) hi
    refine ⟨_, rfl, _, _, _, hB.cell rfl, ⟨by omega, by omega⟩, a, rfl, _, hc4, ⟨(qpop_ok hq).mono ?_⟩⟩
    rintro e w3 ⟨rfl, hT⟩
    obtain ⟨F3, q1, q2, q3⟩ := htq _ _ hT
    have hUw : Turn (CaO b) w w3 F (x.1, x.2.set i x.2[i].tail) := Turn.next h1 hU.none (fun _ h => .inl h) ⟨F3, q1, q2, q3⟩
    refine ⟨_, _, rfl, fun g1 => ?_, fun g1 => ?_⟩
    · rw [if_neg (by simpa using g1), if_neg (by simpa using g1)]
      exact ⟨rfl, hUw⟩
    · rw [if_pos (by simpa using g1), if_pos (by simpa using g1)]
      obtain ⟨b2, F1, hs, ⟨p, c, hB⟩, ht⟩ := q1.slot
      refine ⟨_, rfl, _, by rw [add00']; exact hB.cell rfl, ⟨(slGive_ok hs _).mono ?_⟩⟩
      rintro e w4 ⟨rfl, hT4⟩
      have := ht _ _ hT4
      exact ⟨_, rfl, rfl, Turn.next h1 hU.none (fun _ h => .inl h) (Turn.next (s1 := (x.1, x.2.set i x.2[i].tail)) q1 q2 q3 this)⟩
theorem ctakeNil_ok (cpu : Int) (w : World) : Calls Tryd.prog 11 #[.pointer none, .int .i64 cpu] w fun e w' => e = .returned (.tuple #[.int .i64 0, .int .i64 1]) ∧ Upd no w w' := by
  refine u11 ?_
  rw [t11]
  refine ⟨fun w1 hN => ⟨(cmayNil_ok w1).mono ?_⟩⟩
  rintro e w2 ⟨rfl, rfl⟩
  exact ⟨_, rfl, fun g => ⟨rfl, hN.upd no⟩, fun g => by simp at g⟩

theorem cmove_ok (h : CaO b w F x) (f t : Int) : Calls Tryd.prog 13 #[.pointer (some ⟨b, 0, none⟩), .int .i64 f, .int .i64 t] w fun e w' => e = .returned (.tuple #[.int .i64 (mvE x f t).1, .int .i64 (mvE x f t).2]) ∧ Turn (CaO b) w w' F (mvS x f t) := by
  refine u13 ?_
  rw [t13]
  refine ⟨fun w1 hN => ?_⟩
  have hU := hN.upd no
  have h1 : CaO b w1 F x := (Frame.ca b).upd h hU (fun _ _ h => h)
  refine ⟨(cmay_ok h1 (cells2 hN) (by simp)).mono ?_⟩
  rw [two_if]
  rintro e w2 ⟨rfl, rfl⟩
  refine ⟨_, rfl, fun g => ?_, fun g => ⟨fun g0 => ?_, fun g0 => ?_⟩⟩
  · have hn : ¬ (inB x f ∧ inB x t) := fun h => by rw [if_pos h] at g; simp at g
    rw [mvE, mvS, if_neg hn, if_neg hn, if_neg hn]
    exact ⟨rfl, F, h1, hU.none, fun _ h => .inl h⟩
  · have hc : inB x f ∧ inB x t := Classical.byContradiction fun h => by rw [if_neg h] at g; simp at g
    rw [mvE, mvS, if_pos hc, if_pos hc, if_pos (eq_of_beq g0), if_pos (eq_of_beq g0)]
    exact ⟨rfl, F, h1, hU.none, fun _ h => .inl h⟩
  · have hc : inB x f ∧ inB x t := Classical.byContradiction fun h => by rw [if_neg h] at g; simp at g
    have hne : ¬ f = t := by simpa using g0
    rw [mvE, mvS, if_pos hc, if_pos hc, if_neg hne, if_neg hne]
    obtain ⟨i, hi, rfl⟩ := inB_at hc.1
    obtain ⟨k, hk, rfl⟩ := inB_at hc.2
    unfold popB
    rw [rowB_at hi]
    obtain ⟨b2, a, c, bi, F4, hB, hc4, hq, htq⟩ := h1.q (i := i) hi
    refine ⟨_, rfl, _, _, _, hB.cell rfl, ⟨by omega, by omega⟩, a, rfl, _, hc4, ⟨(qpop_ok hq).mono ?_⟩⟩
    rintro e w3 ⟨rfl, hT⟩
    obtain ⟨F3, q1, q2, q3⟩ := htq _ _ hT
    have hUw : Turn (CaO b) w w3 F (x.1, x.2.set i x.2[i].tail) := Turn.next h1 hU.none (fun _ h => .inl h) ⟨F3, q1, q2, q3⟩
    refine ⟨_, _, rfl, fun g1 => ?_, fun g1 => ?_⟩
    · rw [if_neg (by simpa using g1), if_neg (by simpa using g1)]
      exact ⟨rfl, hUw⟩
    · rw [if_pos (by simpa using g1), if_pos (by simpa using g1)]
      have hk2 : k < (x.2.set i x.2[i].tail).length := by simpa using hk
      obtain ⟨b2, a, c, bi, F4, hB, hc4, hq, htq⟩ := q1.q (i := k) hk2
      refine ⟨_, rfl, _, _, _, hB.cell rfl, ⟨by omega, by simp only [List.length_set]; omega⟩, a, rfl, _, hc4, ⟨(qpush_ok hq _).mono ?_⟩⟩
      rintro e w4 ⟨rfl, hT4⟩
      rw [pushS_q] at hT4
      have := htq _ _ hT4
      have er : rowB (x.1, x.2.set (Int.toNat (i : Int)) x.2[i].tail) (k : Int) = (x.2.set i x.2[i].tail)[k] := rowB_at (x := (x.1, x.2.set i x.2[i].tail)) hk2
      rw [er]
      exact ⟨_, rfl, rfl, Turn.next h1 hU.none (fun _ h => .inl h) (Turn.next (s1 := (x.1, x.2.set i x.2[i].tail)) q1 q2 q3 this)⟩
theorem cmoveNil_ok (f t : Int) (w : World) : Calls Tryd.prog 13 #[.pointer none, .int .i64 f, .int .i64 t] w fun e w' => e = .returned (.tuple #[.int .i64 0, .int .i64 1]) ∧ Upd no w w' := by
  refine u13 ?_
  rw [t13]
  refine ⟨fun w1 hN => ⟨(cmayNil_ok w1).mono ?_⟩⟩
  rintro e w2 ⟨rfl, rfl⟩
  exact ⟨_, rfl, fun g => ⟨rfl, hN.upd no⟩, fun g => by simp at g⟩

theorem chas_ok (h : CaO b w F x) (v : Int) : Calls Tryd.prog 15 #[.pointer (some ⟨b, 0, none⟩), .int .i64 v] w fun e w' => e = .returned (.bool (hasE x.1 v)) ∧ Upd no w w' := by
  refine u15 ?_
  rw [t15]
  obtain ⟨b2, F1, hs, ⟨p, c, hB⟩, ht⟩ := h.slot
  refine ⟨fun _ => ⟨_, rfl, _, by rw [add00']; exact hB.cell rfl, ⟨(slHas_ok hs v).mono ?_⟩⟩, fun g => by simp at g⟩
  rintro e w1 ⟨rfl, hU⟩
  exact ⟨_, rfl, rfl, hU⟩
theorem chasNil_ok (v : Int) (w : World) : Calls Tryd.prog 15 #[.pointer none, .int .i64 v] w fun e w' => e = .returned (.bool false) ∧ w' = w := by
  refine u15 ?_
  rw [t15]
  exact ⟨fun g => by simp at g, fun _ => ⟨rfl, rfl⟩⟩

theorem clist_ok (h : CaO b w F x) (cpu : Int) : Calls Tryd.prog 20 #[.pointer (some ⟨b, 0, none⟩), .int .i64 cpu] w fun e w' => ∃ p c, e = .returned (.slice p (lsE x cpu).length c) ∧ Cells w' p ((lsE x cpu).map (Value.int .i64)) ∧ Upd no w w' := by
  refine u20 ?_
  rw [t20]
  refine ⟨fun w1 hN => ?_⟩
  have hU := hN.upd no
  have h1 : CaO b w1 F x := (Frame.ca b).upd h hU (fun _ _ h => h)
  refine ⟨(cmay_ok h1 (cells1 hN) (by simp)).mono ?_⟩
  rw [one_if]
  rintro e w2 ⟨rfl, rfl⟩
  refine ⟨_, rfl, fun g => ?_, fun g => ?_⟩
  · have hn : ¬ inB x cpu := fun h => by rw [if_pos h] at g; simp at g
    rw [lsE, if_neg hn]
    exact ⟨none, 0, rfl, Cells.nil _ _, hU⟩
  · have hc : inB x cpu := Classical.byContradiction fun h => by rw [if_neg h] at g; simp at g
    rw [lsE, if_pos hc]
    obtain ⟨i, hi, rfl⟩ := inB_at hc
    rw [rowB_at hi]
    obtain ⟨b2, a, c, bi, F4, hB, hc4, hq, htq⟩ := h1.q (i := i) hi
    refine ⟨_, rfl, _, _, _, hB.cell rfl, ⟨by omega, by omega⟩, a, rfl, _, hc4, ⟨(qlist_ok hq).mono ?_⟩⟩
    rintro e w3 ⟨p, c, rfl, hC, hU3⟩
    exact ⟨_, _, _, rfl, _, _, rfl, hC, hU.and hU3⟩
theorem clistNil_ok (cpu : Int) (w : World) : Calls Tryd.prog 20 #[.pointer none, .int .i64 cpu] w fun e w' => e = .returned (.slice none 0 0) ∧ Upd no w w' := by
  refine u20 ?_
  rw [t20]
  refine ⟨fun w1 hN => ⟨(cmayNil_ok w1).mono ?_⟩⟩
  rintro e w2 ⟨rfl, rfl⟩
  exact ⟨_, rfl, fun g => ⟨rfl, hN.upd no⟩, fun g => by simp at g⟩
theorem cload_ok (h : CaO b w F x) (cpu : Int) : Calls Tryd.prog 17 #[.pointer (some ⟨b, 0, none⟩), .int .i64 cpu] w fun e w' => e = .returned (.int .i64 ((lsE x cpu).length : Int)) ∧ Upd no w w' := by
  refine u17 ?_
  rw [t17]
  refine ⟨(clist_ok h cpu).mono ?_⟩
  rintro e w1 ⟨p, c, rfl, _, hU⟩
  exact ⟨_, _, _, rfl, rfl, hU⟩
theorem cloadNil_ok (cpu : Int) (w : World) : Calls Tryd.prog 17 #[.pointer none, .int .i64 cpu] w fun e w' => e = .returned (.int .i64 0) ∧ Upd no w w' := by
  refine u17 ?_
  rw [t17]
  refine ⟨(clistNil_ok cpu w).mono ?_⟩
  rintro e w1 ⟨rfl, hU⟩
  exact ⟨_, _, _, rfl, rfl, hU⟩

def okC (n : Int) : Prop := 1 ≤ n ∧ n ≤ 64
def newC (n : Int) : CS := (List.replicate 32 false, List.replicate n.toNat [])
theorem cnew_ok (n : Int) (w : World) : Calls Tryd.prog 6 #[.int .i64 n] w fun e w' =>
    (¬ okC n ∧ e = .returned (.tuple #[.pointer none, .int .i64 2]) ∧ w' = w) ∨
    (okC n ∧ ∃ b F, e = .returned (.tuple #[.pointer (some ⟨b, 0, none⟩), .int .i64 0]) ∧ CaO b w' F (newC n) ∧ Upd no w w' ∧ ∀ i, F i → w.heap.size ≤ i) := by
  refine u6 ?_
  rw [t6]
  refine ⟨fun g1 => ⟨fun g2 => .inl ⟨?_, rfl, rfl⟩, fun g2 => ?_⟩, fun g1 => .inl ⟨?_, rfl, rfl⟩⟩
  · unfold okC; simp at g2; omega
  · have g1 : ¬ n < 1 := by simpa using g1
    have g2 : ¬ 64 < n := by simpa using g2
    obtain ⟨k, rfl⟩ : ∃ k : Nat, n = k := ⟨n.toNat, by omega⟩
    refine ⟨(slNew_ok 32 w).mono ?_⟩
    rintro e w1 hh
    obtain ⟨_, b2, F1, rfl, hQ, hU, hF⟩ := hh.resolve_left (fun h => absurd (by omega) h.1)
    have hM : Mine w w1 (SlO b2) (List.replicate 32 false) := Mine.new (Upd.refl _ _) hU hQ hF
    clear hU hQ hF
    refine ⟨_, _, rfl, fun g => by simp at g, fun _ => ⟨fun w2 hN => ?_⟩⟩
    replace hM : Mine w w2 (Star (SlO b2) (BxO w1.heap.size b2)) (List.replicate 32 false, []) := hM.add (hN.upd no) (Tq.nil hN rfl) (fun i hi => Nat.le_of_eq hi.symm)
    generalize w1.heap.size = b at hM ⊢
    refine ⟨WP_loop okProg (M := M6) (σ := Nat) (fun j => e6_1 (some ⟨b, 0, none⟩) (k : Int) (j : Int)) (fun j w' => j ≤ k ∧ Mine w w' (Star (SlO b2) (BxO b b2)) (List.replicate 32 false, List.replicate j (q32 []))) (fun j _ => k - j) 0 ⟨rfl, rfl, rfl, trivial⟩ ⟨by omega, hM⟩ ?_⟩
    clear hM hN
    rintro j w3 ⟨j1, hM⟩
    rw [t6_1]
    refine ⟨fun g => ?_, fun g => ?_⟩
    · have hj : j < k := by simp at g; omega
      refine ⟨(new_ok 32 w3).mono ?_⟩
      rintro e w4 hh
      obtain ⟨_, bq, G, rfl, hQ, hU, hG⟩ := hh.resolve_left (fun h => absurd (by omega) h.1)
      obtain ⟨F2, hA, hT⟩ := hM.right
      obtain ⟨p, c, hB, hgo⟩ := Tq.push elQ (k := 1) (fun _ _ _ _ _ _ => rfl) (fun _ _ _ => Nat.le_refl _) hA (by simp; omega) hU hQ hG
      refine ⟨_, _, rfl, fun g => by simp at g, fun _ => ⟨_, rfl, _, _, _, hB.cell rfl, ⟨fun w5 hN => ?_⟩⟩⟩
      obtain ⟨p', c', w6, hr, hK⟩ := hgo w5 hN 48
      refine ⟨_, _, _, w6, hr, _, rfl, hK _ fun w7 h7 => ?_⟩
      have h8 := hT _ _ h7
      refine ⟨j + 1, ⟨rfl, rfl, by rw [w64 (by omega)]; rfl, trivial⟩, ⟨by omega, ?_⟩, by omega⟩
      rw [List.replicate_succ' (n := j)]
      exact h8
    · have : j = k := by simp at g; omega
      subst this
      obtain ⟨F, hF1, hF2, hF3⟩ := hM
      refine .inr ⟨⟨by omega, by omega⟩, b, F, rfl, ⟨b2, ?_⟩, hF2, hF3⟩
      simp only [newC, List.map_replicate, Int.toNat_natCast]
      exact hF1
  · unfold okC; simp at g1; omega
end
end Go.Dav
