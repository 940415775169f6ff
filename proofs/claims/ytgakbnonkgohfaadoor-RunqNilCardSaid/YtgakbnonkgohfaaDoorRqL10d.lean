/- Plain words on the cores' queues: who is where, and how many there are. -/
import Derived.Test.YtgakbnonkgohfaaDoorRunq10d
set_option linter.unusedVariables false
set_option linter.unusedSimpArgs false
namespace Go.Dav
open Go.Proofs
/-- All that is told of the queues of the cores. -/
structure RqW (x : RS) : Prop where
  one : ∀ k i j, memQ x i k = true → memQ x j k = true → i = j
  V : ∀ i (hi : i < x.length), PqV x[i]
theorem RqO.W {b : Nat} {w : World} {F : Fp} {x : RS} (h : RqO b w F x) : RqW x := by
  obtain ⟨g, hi⟩ := h.I
  exact ⟨fun k i j h1 h2 => hi.one h1 h2, fun i hi => h.V hi⟩
theorem RqW.wh {x : RS} (h : RqW x) {k : Int} {i : Nat} (hm : memQ x i k = true) : whE x k = ((i : Int), true) := by
  rcases whE_cases x k with ⟨h1, h2⟩ | ⟨j, hj, h1, h2⟩
  · rw [h2] at hm; cases hm
  · rw [h1, h.one k _ _ h2 hm]
/-- One has a priority on some core. -/
def hasQ (x : RS) (p k : Int) : Prop := ∃ i, (p, k) ∈ (x.getD i (0, [])).2
theorem hasQ_mem {x : RS} {p k : Int} {i : Nat} (h : (p, k) ∈ (x.getD i (0, [])).2) : memQ x i k = true := in_iff.2 ⟨p, h⟩
theorem RqW.prio {x : RS} (h : RqW x) {p k : Int} (hp : hasQ x p k) : rqPrioE x k = (p, true) := by
  obtain ⟨i, hi⟩ := hp
  have hm := hasQ_mem hi
  have hl := memQ_lt hm
  have e : x.getD i (0, []) = x[i] := by simp [hl]
  rw [e] at hi
  rw [rqPrioE, h.wh hm]
  simp only [if_true, rowQ_at hl]
  exact prio_in (h.V i hl).one hi
theorem getD_set {x : RS} {c i : Nat} (hc : c < x.length) (q : Nat × Its) : (x.set c q).getD i (0, []) = if i = c then q else x.getD i (0, []) := by
  by_cases hi : i = c
  · subst hi; simp [hc]
  · rw [if_neg hi]
    simp [List.getElem?_set, Ne.symm hi]
theorem hasQ_put {x : RS} {c p k : Int} (h : rqPutE x c p k = 0) : hasQ (rqPutS x c p k) p k ∧ ∀ q j, hasQ x q j → hasQ (rqPutS x c p k) q j := by
  rw [rqPutS, if_pos h]
  unfold rqPutE at h
  by_cases hc : inQ x c
  · rw [if_pos hc] at h
    cases hw : (whE x k).2 with
    | true => rw [hw, if_pos rfl] at h; cases h
    | false =>
      rw [hw, if_neg (by simp)] at h
      obtain ⟨i, hi, rfl⟩ := inQ_at hc
      rw [rowQ_at hi] at h ⊢
      rw [Int.toNat_natCast]
      refine ⟨⟨i, ?_⟩, fun q j ⟨n, hn⟩ => ⟨n, ?_⟩⟩
      · rw [getD_set hi, if_pos rfl, pqPushS, if_pos h]
        simp
      · rw [getD_set hi]
        by_cases hni : n = i
        · subst hni
          rw [if_pos rfl, pqPushS, if_pos h]
          have e : x.getD n (0, []) = x[n] := by simp [hi]
          rw [e] at hn
          simp [hn]
        · rw [if_neg hni]; exact hn
  · rw [if_neg hc] at h; cases h
def allQ (x : RS) : Nat := (x.map fun q => q.2.length).sum
theorem allQ_set {x : RS} {c : Nat} (hc : c < x.length) (q : Nat × Its) : allQ (x.set c q) + x[c].2.length = allQ x + q.2.length := by
  unfold allQ
  induction x generalizing c with
  | nil => simp at hc
  | cons a x ih =>
    cases c with
    | zero => simp; omega
    | succ c =>
      have := ih (c := c) (by simpa using hc)
      simp only [List.set_cons_succ, List.map_cons, List.sum_cons, List.getElem_cons_succ]
      omega
theorem allQ_put {x : RS} {c p k : Int} (h : rqPutE x c p k = 0) : allQ (rqPutS x c p k) = allQ x + 1 := by
  rw [rqPutS, if_pos h]
  unfold rqPutE at h
  by_cases hc : inQ x c
  · rw [if_pos hc] at h
    cases hw : (whE x k).2 with
    | true => rw [hw, if_pos rfl] at h; cases h
    | false =>
      rw [hw, if_neg (by simp)] at h
      obtain ⟨i, hi, rfl⟩ := inQ_at hc
      rw [rowQ_at hi] at h ⊢
      rw [Int.toNat_natCast]
      have := allQ_set hi (pqPushS x[i] p k)
      rw [pqPushS, if_pos h] at this ⊢
      simp only [List.length_append, List.length_singleton] at this
      omega
  · rw [if_neg hc] at h; cases h
theorem put_len (x : RS) (c p k : Int) : (rqPutS x c p k).length = x.length := by unfold rqPutS; split <;> simp
theorem move_len (x : RS) (f t : Int) : (rqMoveS x f t).length = x.length := by unfold rqMoveS; split <;> simp
theorem move_all {x : RS} (hW : RqW x) (f t : Int) : allQ (rqMoveS x f t) = allQ x ∧ ∀ p k, hasQ x p k → hasQ (rqMoveS x f t) p k := by
  unfold rqMoveS
  split
  · rename_i h
    obtain ⟨hf, ht, hft, hne, hp⟩ := h
    obtain ⟨i, hfl, rfl⟩ := inQ_at hf
    obtain ⟨j, htl, rfl⟩ := inQ_at ht
    have hij : i ≠ j := fun e => hft (by rw [e])
    rw [rowQ_at hfl] at hne hp ⊢
    rw [rowQ_at htl] at hp ⊢
    rw [Int.toNat_natCast, Int.toNat_natCast]
    have hVf := hW.V i hfl
    have hmem : inE x[i] (endE (listOf x[i].2)) = true := (in_list hVf).1 (by rw [endE_at hne]; exact List.getElem_mem _)
    generalize endE (listOf x[i].2) = id at hp hmem ⊢
    have hfl5 : i < (x.set j (pqPushS x[j] (prioE x[i] id).1 id)).length := by simpa using hfl
    have ei : (x.set j (pqPushS x[j] (prioE x[i] id).1 id))[i] = x[i] := by rw [List.getElem_set_ne (Ne.symm hij)]
    refine ⟨?_, fun p k hk => ?_⟩
    · have h1 := allQ_set htl (pqPushS x[j] (prioE x[i] id).1 id)
      have h2 := allQ_set hfl5 (pqDropS x[i] id)
      rw [ei] at h2
      have h3 := drop_len hVf hmem
      have h4 : (pqPushS x[j] (prioE x[i] id).1 id).2.length = x[j].2.length + 1 := by rw [pqPushS, if_pos hp]; simp
      omega
    · obtain ⟨n, hn⟩ := hk
      by_cases hni : n = i
      · subst hni
        have e : x.getD n (0, []) = x[n] := by simp [hfl]
        rw [e] at hn
        by_cases hk : k = id
        · subst hk
          refine ⟨j, ?_⟩
          rw [getD_set hfl5, if_neg (Ne.symm hij), getD_set htl, if_pos rfl, pqPushS, if_pos hp, prio_in hVf.one hn]
          simp
        · refine ⟨n, ?_⟩
          rw [getD_set hfl5, if_pos rfl]
          simp [pqDropS, hn, hk]
      · by_cases hnj : n = j
        · subst hnj
          refine ⟨n, ?_⟩
          have e : x.getD n (0, []) = x[n] := by simp [htl]
          rw [e] at hn
          rw [getD_set hfl5, if_neg hni, getD_set htl, if_pos rfl, pqPushS, if_pos hp]
          simp [hn]
        · refine ⟨n, ?_⟩
          rw [getD_set hfl5, if_neg hni, getD_set htl, if_neg hnj]
          exact hn
  · exact ⟨rfl, fun p k h => h⟩
theorem load_take {x : RS} {c : Nat} (hc : c < x.length) : (allQ (x.take c) : Int) + rqLoadE x c = allQ (x.take (c + 1)) := by
  rw [rqLoadE, if_pos (inQ_of hc), rowQ_at hc, List.take_succ_eq_append_getElem hc]
  unfold allQ
  rw [List.map_append, List.sum_append]
  simp only [List.map_cons, List.map_nil, List.sum_cons, List.sum_nil]
  omega
theorem allQ_le {x : RS} (hW : RqW x) : allQ x ≤ x.length * 1024 := by
  have h : ∀ l : RS, (∀ q ∈ l, q.2.length ≤ 1024) → allQ l ≤ l.length * 1024 := by
    intro l
    induction l with
    | nil => intro _; simp [allQ]
    | cons a l ih =>
      intro h
      have h1 := h a (by simp)
      have h2 := ih fun q hq => h q (by simp [hq])
      unfold allQ at h2 ⊢
      simp only [List.map_cons, List.sum_cons, List.length_cons]
      omega
  refine h x fun q hq => ?_
  obtain ⟨i, hi, rfl⟩ := List.getElem_of_mem hq
  exact (hW.V i hi).len
theorem allQ_take (x : RS) (c : Nat) : allQ (x.take c) ≤ allQ x := by
  conv => rhs; rw [← List.take_append_drop c x]
  unfold allQ
  rw [List.map_append, List.sum_append]
  omega
/-- One core alone. -/
theorem prio1 {q : Nat × Its} {k : Int} (h : (prioE q k).2 = true) : rqPrioE [q] k = prioE q k := by
  have hm : memQ [q] 0 k = true := by rw [memQ_at (by simp)]; rw [prio_snd] at h; exact h
  rcases whE_cases [q] k with ⟨h1, h2⟩ | ⟨j, hj, h1, h2⟩
  · rw [h2] at hm; cases hm
  · have : j = 0 := by simp at hj; omega
    subst this
    rw [rqPrioE, h1]
    simp [rowQ]
theorem put1 (q : Nat × Its) (p k : Int) : ∃ q', rqPutS [q] 0 p k = [q'] := by
  unfold rqPutS
  split
  · exact ⟨_, rfl⟩
  · exact ⟨_, rfl⟩
theorem pick1 (q : Nat × Its) : rqPickE [q] 0 = topE q ∧ rqPickS [q] 0 = [pqTurnS q] := by
  have h : inQ [q] 0 := by unfold inQ; simp
  rw [rqPickE, rqPickS, if_pos h, if_pos h]
  exact ⟨rfl, rfl⟩
theorem list1 (q : Nat × Its) : rqListE [q] 0 = listOf q.2 := by
  have h : inQ [q] 0 := by unfold inQ; simp
  rw [rqListE, if_pos h]
  rfl
end Go.Dav
