/- What the functions on lists of numbers come to. -/
import Derived.Test.YtfmehojcgdfghaaDoorPrg39
import Derived.Test.YtfmehojcgdfghaaDoorV39
import Derived.Test.YtfmehojcgdfghaaDoorV39x
import Derived.Test.YtfmehojcgdfghaaDoorBits
import Derived.Test.YtfmehojcgdfghaaDoorObj
set_option linter.unusedSimpArgs false
set_option linter.unusedVariables false
namespace Go.Dav
open Go.Proofs

theorem elI : ElemT Tryd.prog 23 3 1 8 [.int .i64 0] := ⟨by kernel_rfl, by kernel_rfl, rfl, by omega⟩

def idx (l : List Int) (v : Int) : Int := if v ∈ l then (l.idxOf v : Int) else -1

theorem idx_found {l : List Int} {v : Int} {i : Nat} (h : i < l.length) (h1 : v ∉ l.take i) (h2 : l[i] = v) : idx l v = i := by
  have hm : v ∈ l := h2 ▸ List.getElem_mem h
  have e : l.idxOf v = i := by
    have hl : l = l.take i ++ l[i] :: l.drop (i + 1) := by simp
    rw [hl, List.idxOf_append, if_neg h1, h2]
    simp; omega
  simp [idx, hm, e]

theorem not_take_succ {l : List Int} {v : Int} {i : Nat} (h : i < l.length) (h1 : v ∉ l.take i) (h2 : l[i] ≠ v) : v ∉ l.take (i + 1) := by
  rw [List.take_succ_eq_append_getElem h]
  simp only [List.mem_append, List.mem_singleton]
  exact fun h => h.elim h1 (fun e => h2 e.symm)

theorem ints_ok {w : World} {p q : Option Addr} {l m : List Int} {c d : Nat} (h : Cells w p (l.map (Value.int .i64))) (k : Cells w q (m.map (Value.int .i64))) (hb : l.length ≤ 140737488355328) :
    Calls Tryd.prog 8 #[.slice p l.length c, .slice q m.length d] w fun e w' => e = .returned (.bool (decide (l = m))) ∧ Upd no w w' := by
  refine u8 ?_
  rw [t8]
  refine ⟨fun g => ⟨?_, Upd.refl _ _⟩, fun g => ?_⟩
  · have : l ≠ m := fun e => by subst e; simp at g
    simp [this]
  · have hl : l.length = m.length := by simp at g; omega
    refine ⟨WP_loop okProg (M := M8) (σ := Nat) (fun i => e8_1 p l.length c q m.length d i) (fun i w' => i ≤ l.length ∧ l.take i = m.take i ∧ Upd no w w') (fun i _ => l.length - i) 0 ⟨rfl, rfl, rfl, trivial⟩ ⟨by omega, by simp, Upd.refl _ _⟩ ?_⟩
    rintro i w1 ⟨h1, h2, hU⟩
    rw [t8_1]
    refine ⟨fun hlt w2 q1 q2 q3 q4 => ?_, fun hge => ⟨?_, hU⟩⟩
    · have hi : i < l.length := by simpa using hlt
      have hi' : i < m.length := by omega
      have hU2 := hU.trans (Upd.same no q1 q2 q3 q4) (fun _ _ h => h)
      obtain ⟨a, rfl, hc⟩ := (h.no hU2).at1 hi
      obtain ⟨b, rfl, hc'⟩ := (k.no hU2).at1 hi'
      refine ⟨⟨by omega, by omega⟩, a, rfl, l[i], hc, ⟨by omega, by omega⟩, b, rfl, m[i], hc', fun he => ⟨?_, hU2⟩, fun he => ?_⟩
      · have : l ≠ m := fun e => by subst e; simp at he
        simp [this]
      · have he : l[i] = m[i] := by simpa using he
        exact ⟨i + 1, ⟨rfl, rfl, by rw [w64 (by omega)]; rfl, trivial⟩, ⟨by omega, by rw [List.take_succ_eq_append_getElem hi, List.take_succ_eq_append_getElem hi', h2, he], hU2⟩, by omega⟩
    · have : i = l.length := by simp at hge; omega
      subst this
      rw [List.take_length, hl, List.take_length] at h2
      simp [h2]
end Go.Dav
