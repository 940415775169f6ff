/- What the functions on lists of numbers come to. -/
import Derived.Test.YtgakbnonkgohfaaDoorPrg10d
import Derived.Test.YtgakbnonkgohfaaDoorV10da
import Derived.Test.YtgakbnonkgohfaaDoorV10db
import Derived.Test.YtgakbnonkgohfaaDoorV10dx
import Derived.Test.YtgakbnonkgohfaaDoorBits
import Derived.Test.YtgakbnonkgohfaaDoorObj
set_option linter.unusedSimpArgs false
set_option linter.unusedVariables false
namespace Go.Dav
open Go.Proofs

theorem elI : ElemT Tryd.prog 39 3 1 8 [.int .i64 0] := ⟨by kernel_rfl, by kernel_rfl, rfl, by omega⟩

def idx (l : List Int) (v : Int) : Int := if v ∈ l then (l.idxOf v : Int) else -1

theorem idx_found {l : List Int} {v : Int} {i : Nat} (h : i < l.length) (h1 : v ∉ l.take i) (h2 : l[i] = v) : idx l v = i := by
  have hm : v ∈ l := h2 ▸ List.getElem_mem h
  have e : l.idxOf v = i := by
    have hl : l = l.take i ++ l[i] :: l.drop (i + 1) := by simp
    rw [hl, List.idxOf_append, if_neg h1, h2]
    simp; omega
  simp [idx, hm, e]

theorem not_take_succ {l : List Int} {v : Int} {i : Nat} (h : i < l.length) (h1 : v ∉ l.take i) (h2 : l[i] ≠ v) : v ∉ l.take (i + 1) := by
  rw [List.take_succ_eq_append_getElem h]
  simp only [List.mem_append, List.mem_singleton]
  exact fun h => h.elim h1 (fun e => h2 e.symm)

theorem index_ok {w : World} {p : Option Addr} {l : List Int} {c : Nat} (h : Cells w p (l.map (Value.int .i64))) (hb : l.length ≤ 140737488355328) (v : Int) :
    Calls Tryd.prog 76 #[.slice p l.length c, .int .i64 v] w fun e w' => e = .returned (.int .i64 (idx l v)) ∧ w' = w := by
  refine u76 ?_
  rw [t76]
  refine ⟨WP_loop okProg (M := M76) (σ := Nat) (fun i => e76_1 p l.length c v l.length i) (fun i w' => i ≤ l.length ∧ v ∉ l.take i ∧ w' = w) (fun i _ => l.length - i) 0 ⟨rfl, rfl, rfl, rfl, trivial⟩ ⟨by omega, by simp, rfl⟩ ?_⟩
  rintro i w' ⟨h1, h2, rfl⟩
  rw [t76_1]
  refine ⟨fun hlt => ?_, fun hge => ⟨?_, rfl⟩⟩
  · have hi : i < l.length := by simpa using hlt
    obtain ⟨a, rfl, hc⟩ := h.at1 hi
    refine ⟨⟨by omega, by omega⟩, a, rfl, l[i], by simpa using hc, fun he => ⟨?_, rfl⟩, fun he => ?_⟩
    · rw [idx_found hi h2 (by simpa using (eq_comm.1 (by simpa using he)))]
    · refine ⟨i + 1, ⟨rfl, rfl, rfl, by rw [w64 (by omega)]; rfl, trivial⟩, ⟨by omega, not_take_succ hi h2 ?_, rfl⟩, by omega⟩
      simp at he
      exact fun e => he e.symm
  · have : i = l.length := by simp at hge; omega
    subst this
    simp at h2
    simp [idx, h2]
theorem contains_ok {w : World} {p : Option Addr} {l : List Int} {c : Nat} (h : Cells w p (l.map (Value.int .i64))) (hb : l.length ≤ 140737488355328) (v : Int) :
    Calls Tryd.prog 77 #[.slice p l.length c, .int .i64 v] w fun e w' => e = .returned (.bool (decide (v ∈ l))) ∧ w' = w := by
  refine u77 ?_
  rw [t77]
  refine ⟨(index_ok h hb v).mono ?_⟩
  rintro e w' ⟨rfl, rfl⟩
  refine ⟨_, rfl, ?_, rfl⟩
  unfold idx
  split <;> simp_all
theorem ints_ok {w : World} {p q : Option Addr} {l m : List Int} {c d : Nat} (h : Cells w p (l.map (Value.int .i64))) (k : Cells w q (m.map (Value.int .i64))) (hb : l.length ≤ 140737488355328) :
    Calls Tryd.prog 15 #[.slice p l.length c, .slice q m.length d] w fun e w' => e = .returned (.bool (decide (l = m))) ∧ Upd no w w' := by
  refine u15 ?_
  rw [t15]
  refine ⟨fun g => ⟨?_, Upd.refl _ _⟩, fun g => ?_⟩
  · have : l ≠ m := fun e => by subst e; simp at g
    simp [this]
  · have hl : l.length = m.length := by simp at g; omega
    refine ⟨WP_loop okProg (M := M15) (σ := Nat) (fun i => e15_1 p l.length c q m.length d i) (fun i w' => i ≤ l.length ∧ l.take i = m.take i ∧ Upd no w w') (fun i _ => l.length - i) 0 ⟨rfl, rfl, rfl, trivial⟩ ⟨by omega, by simp, Upd.refl _ _⟩ ?_⟩
    rintro i w1 ⟨h1, h2, hU⟩
    rw [t15_1]
    refine ⟨fun hlt w2 q1 q2 q3 q4 => ?_, fun hge => ⟨?_, hU⟩⟩
    · have hi : i < l.length := by simpa using hlt
      have hi' : i < m.length := by omega
      have hU2 := hU.trans (Upd.same no q1 q2 q3 q4) (fun _ _ h => h)
      obtain ⟨a, rfl, hc⟩ := (h.no hU2).at1 hi
      obtain ⟨b, rfl, hc'⟩ := (k.no hU2).at1 hi'
      refine ⟨⟨by omega, by omega⟩, a, rfl, l[i], hc, ⟨by omega, by omega⟩, b, rfl, m[i], hc', fun he => ⟨?_, hU2⟩, fun he => ?_⟩
      · have : l ≠ m := fun e => by subst e; simp at he
        simp [this]
      · have he : l[i] = m[i] := by simpa using he
        exact ⟨i + 1, ⟨rfl, rfl, by rw [w64 (by omega)]; rfl, trivial⟩, ⟨by omega, by rw [List.take_succ_eq_append_getElem hi, List.take_succ_eq_append_getElem hi', h2, he], hU2⟩, by omega⟩
    · have : i = l.length := by simp at hge; omega
      subst this
      rw [List.take_length, hl, List.take_length] at h2
      simp [h2]
end Go.Dav
