/- What the functions on the cores of a mask come to: how many, the lowest, the greatest, the next one, all. -/
import Derived.Test.YtfmehojcgdfghaaDoorMsk39
import Derived.Test.YtfmehojcgdfghaaDoorLst39
import Derived.Test.YtfmehojcgdfghaaDoorPop
import Derived.Test.YtfmehojcgdfghaaDoorByt
import Derived.Lib.LaidTab
set_option linter.unusedSimpArgs false
set_option linter.unusedVariables false
namespace Go.Dav
open Go.Proofs

/-- The library's table is as its text lays it. -/
def Tab (w : World) : Prop := Cells w (some ⟨0, 0, none⟩) (dbt.map (fun (z : Nat) => Value.int .u8 (z : Int)))
theorem Tab.no {w w' : World} (h : Tab w) (k : Upd no w w') : Tab w' := Cells.no h k
theorem tabG : Tryd.prog.globalNamed "math/bits.deBruijn64tab" = some 0 := by kernel_rfl
theorem tabT : (Tryd.prog.globals[0]?).map (·.type) = some 89 := by kernel_rfl
theorem tabU : Tryd.prog.underlying 89 = some (.array 64 5) := by kernel_rfl
theorem tabE : Tryd.prog.underlying 5 = some (.int .u8) := by kernel_rfl
def dbz : List Int := dbt.map (fun (z : Nat) => (z : Int))
theorem tab_ok {W : World} (h : laidMet Tryd.prog [("math/bits.deBruijn64tab", Lib.tabData .u8 dbz)] W) : Tab W := by
  have hT := Lib.tabIs_of_head tabG tabT tabU tabE (by kernel_rfl) (by kernel_rfl) h
  intro j v hj
  refine ⟨_, rfl, ?_⟩
  rw [add_lit, Nat.zero_add]
  rw [List.getElem?_map] at hj
  obtain ⟨z, hz, rfl⟩ := Option.map_eq_some_iff.1 hj
  have hl : j < dbt.length := (List.getElem?_eq_some_iff.1 hz).1
  rw [hT.cell tabG j (by simpa [dbz] using hl)]
  have e : dbz.getD j 0 = (z : Int) := by simp [dbz, List.getD_eq_getElem?_getD, hz]
  rw [e]

theorem tz_ok (m : BV) {w : World} (hT : Tab w) : Calls Tryd.prog 51 #[.int .u64 (mi m)] w fun e w' => e = .returned (.int .i64 (tz m)) ∧ w' = w := by
  refine u51 ?_
  rw [t51]
  refine ⟨fun g => ?_, fun g => ⟨by decide, ?_⟩⟩
  · rw [mi_beq0] at g
    have : m = 0 := by simpa using g
    subst this
    exact ⟨by rw [tz_zero], rfl⟩
  · rw [mi_beq0] at g
    have hm : m ≠ 0 := by simpa using g
    obtain ⟨k, hk, h1, h2⟩ := low_ex hm
    rw [neg_wrap, bits_and, low_neg hk h1 h2]
    obtain ⟨d1, d2, d3⟩ := dbp_ok k hk
    unfold dbp at d1 d2 d3
    rw [tz_low hk h1 h2]
    generalize shrOp .u64 (IntKind.wrap .u64 (mi (bt k) * 285870213051353865)) 58 = ix at *
    have hl : ix.toNat < dbt.length := (List.getElem?_eq_some_iff.1 d3).1
    obtain ⟨a, ha, hc⟩ := hT.at1 hl
    cases ha
    have : dbt[ix.toNat] = k := by rw [List.getElem?_eq_getElem hl] at d3; exact Option.some.inj d3
    rw [this] at hc
    exact ⟨⟨d1, d2⟩, _, hc, by rw [w64 (by omega)], rfl⟩
/-- The first, the last one of a mask; the one behind another one. -/
def firstE (m : BV) : Int × Int := match cs m with | [] => (0, 12) | a :: _ => (a, 0)
def lastE (m : BV) : Int × Int := match (cs m).getLast? with | none => (0, 12) | some a => (a, 0)
def nextE (m : BV) (c : Int) : Int × Int := match (cs m).find? (fun d => decide (d > c)) with | some d => (d, 0) | none => firstE m
theorem firstE_ne {m : BV} (h : m ≠ 0) : firstE m = (tz m, 0) := by unfold firstE; rw [cs_cons h]
theorem firstE_zero : firstE 0 = (0, 12) := by unfold firstE; rw [cs_zero]
theorem mList_ok (m : BV) {w : World} (hT : Tab w) : Calls Tryd.prog 47 #[.int .u64 (mi m)] w fun e w' => ∃ p c, e = .returned (.slice p (cs m).length c) ∧ Loc w w' 3 p c (cs m) := by
  refine u47 ?_
  rw [t47]
  refine ⟨WP_loop okProg (M := M47) (σ := BV × List Int × Option Addr × Nat) (fun s => e47_1 (mi s.1) s.2.2.1 s.2.1.length s.2.2.2)
    (fun s w' => s.2.1 ++ cs s.1 = cs m ∧ Loc w w' 3 s.2.2.1 s.2.2.2 s.2.1) (fun s _ => (cs s.1).length) (m, [], none, 0) ⟨rfl, rfl, trivial⟩ ⟨rfl, Loc.nil (Upd.refl _ _) _⟩ ?_⟩
  rintro ⟨a, l, p, c⟩ w1 ⟨h1, hL⟩
  simp only at h1 hL ⊢
  rw [t47_1, mi_bne0, sub1_wrap, bits_and]
  refine ⟨fun g => ⟨(tz_ok a (hT.no hL.U)).mono ?_⟩, fun g => ?_⟩
  · have ha : a ≠ 0 := by simpa using g
    have hc := cs_cons ha
    have hl : l.length ≤ 64 := by have := congrArg List.length h1; have := cs_len m; simp at *; omega
    rintro e w2 ⟨rfl, rfl⟩
    refine ⟨_, rfl, ⟨fun w3 hN => ?_⟩⟩
    obtain ⟨p', c', w4, hr, hL'⟩ := hL.push elI (by omega) hN 23
    refine ⟨p', _, c', w4, hr, (a &&& (a - 1), l ++ [tz a], p', c'), ⟨rfl, rfl, trivial⟩, ⟨by rw [← h1, hc]; simp, hL'⟩, by simp only; rw [hc]; simp⟩
  · have ha : a = 0 := by simpa using g
    subst ha
    rw [cs_zero, List.append_nil] at h1
    subst h1
    exact ⟨p, c, rfl, hL⟩
end Go.Dav
