/- What the functions on lists of numbers come to. -/
import Derived.Test.YticbeaaghiodlaaDoorPrg12
import Derived.Test.YticbeaaghiodlaaDoorV12
import Derived.Test.YticbeaaghiodlaaDoorBits
import Derived.Test.YticbeaaghiodlaaDoorObj
set_option linter.unusedSimpArgs false
set_option linter.unusedVariables false
namespace Go.Dav
open Go.Proofs

theorem elI : ElemT Tryd.prog 52 3 1 8 [.int .i64 0] := ⟨by kernel_rfl, by kernel_rfl, rfl, by omega⟩

def idx (l : List Int) (v : Int) : Int := if v ∈ l then (l.idxOf v : Int) else -1

theorem idx_found {l : List Int} {v : Int} {i : Nat} (h : i < l.length) (h1 : v ∉ l.take i) (h2 : l[i] = v) : idx l v = i := by
  have hm : v ∈ l := h2 ▸ List.getElem_mem h
  have e : l.idxOf v = i := by
    have hl : l = l.take i ++ l[i] :: l.drop (i + 1) := by simp
    rw [hl, List.idxOf_append, if_neg h1, h2]
    simp; omega
  simp [idx, hm, e]

theorem not_take_succ {l : List Int} {v : Int} {i : Nat} (h : i < l.length) (h1 : v ∉ l.take i) (h2 : l[i] ≠ v) : v ∉ l.take (i + 1) := by
  rw [List.take_succ_eq_append_getElem h]
  simp only [List.mem_append, List.mem_singleton]
  exact fun h => h.elim h1 (fun e => h2 e.symm)

end Go.Dav
