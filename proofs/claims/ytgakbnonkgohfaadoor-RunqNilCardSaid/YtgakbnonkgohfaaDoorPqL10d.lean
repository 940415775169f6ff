/- Plain words on a queue by priorities. -/
import Derived.Test.YtgakbnonkgohfaaDoorPrio10d
set_option linter.unusedVariables false
set_option linter.unusedSimpArgs false
namespace Go.Dav
open Go.Proofs
/-- What is so of each queue. -/
structure PqV (x : Nat × Its) : Prop where
  one : (x.2.map (·.2)).Nodup
  rng : ∀ e ∈ x.2, 0 ≤ e.1 ∧ e.1 < 8
  room : x.2.length ≤ x.1
  most : 1 ≤ x.1 ∧ x.1 ≤ 1024
theorem PqO.V {q : Nat} {w : World} {F : Fp} {x : Nat × Its} (h : PqO q w F x) : PqV x := by
  obtain ⟨_, _, _, _, k⟩ := h
  exact ⟨k.one, k.rng, k.room, k.most⟩
theorem PqV.new {n : Nat} (h : 1 ≤ n ∧ n ≤ 1024) : PqV (n, []) where
  one := List.nodup_nil
  rng := fun _ h => (by cases h)
  room := Nat.zero_le _
  most := h
theorem PqV.len {x : Nat × Its} (h : PqV x) : x.2.length ≤ 1024 := Nat.le_trans h.room h.most.2

theorem inE_no {x : Nat × Its} {k : Int} (h : ∀ e ∈ x.2, e.2 ≠ k) : inE x k = false := by
  cases hh : inE x k with
  | false => rfl
  | true => obtain ⟨p, hp⟩ := in_iff.1 hh; exact absurd rfl (h _ hp)
theorem inE_at {x : Nat × Its} {k : Int} {i : Nat} (hi : i < x.2.length) (h : x.2[i].2 = k) : inE x k = true := in_iff.2 ⟨x.2[i].1, by rw [← h]; exact List.getElem_mem hi⟩
def lO (L : Its) (j : Nat) : List Int := (List.range j).flatMap fun i => lvIds L (7 - i)
theorem lO_all (L : Its) : lO L 8 = listOf L := rfl
theorem lO_succ (L : Its) (j : Nat) : lO L (j + 1) = lO L j ++ lvIds L (7 - j) := by
  unfold lO
  rw [List.range_succ, List.flatMap_append]
  simp
theorem lvI_len (L : Its) (p : Nat) : (lvIds L p).length ≤ L.length := by
  unfold lvIds
  rw [List.length_map]
  exact List.length_filter_le _ _
theorem lO_len (L : Its) (j : Nat) : (lO L j).length ≤ j * L.length := by
  induction j with
  | zero => simp [lO]
  | succ j ih =>
    rw [lO_succ, List.length_append, Nat.add_mul, Nat.one_mul]
    have := lvI_len L (7 - j)
    omega
theorem listOf_len (L : Its) : (listOf L).length ≤ 8 * L.length := lO_len L 8

/-! ### What stands where -/
def prL (L : Its) : Its := L8.reverse.flatMap fun i => L.filter fun e => decide (e.1 = (i.val : Int))
theorem prL_ids (L : Its) : listOf L = (prL L).map (·.2) := by
  unfold listOf prL
  rw [List.map_flatMap]
  rfl
theorem prL_mem {L : Its} {e : Int × Int} (h : e ∈ prL L) : e ∈ L := by
  obtain ⟨i, _, hi⟩ := List.mem_flatMap.1 h
  exact (List.mem_filter.1 hi).1
theorem prL_down (L : Its) : (prL L).Pairwise fun a b => b.1 ≤ a.1 := by
  unfold prL
  rw [List.pairwise_flatMap]
  refine ⟨fun i _ => ?_, ?_⟩
  · rw [List.pairwise_filter]
    refine List.pairwise_of_forall fun a b ha hb => ?_
    have := of_decide_eq_true ha
    have := of_decide_eq_true hb
    omega
  · have h8 : L8.reverse.Pairwise fun (a b : Fin 8) => b.val ≤ a.val := by decide
    refine h8.imp fun {a b} hab x hx y hy => ?_
    have h1 := of_decide_eq_true (List.mem_filter.1 hx).2
    have h2 := of_decide_eq_true (List.mem_filter.1 hy).2
    omega
theorem prio_at {x : Nat × Its} (hV : PqV x) {k : Nat} (hk : k < (prL x.2).length) : prioE x (prL x.2)[k].2 = ((prL x.2)[k].1, true) := prio_in hV.one (prL_mem (List.getElem_mem hk))

/-! ### The turns of the greatest priority -/
theorem listOf_top {L : Its} {T : Nat} (hT : T < 8) (h : ∀ j, T < j → lvIds L j = []) : listOf L = lvIds L T ++ (List.range T).reverse.flatMap (lvIds L) := by
  have e : listOf L = lvIds L 7 ++ (lvIds L 6 ++ (lvIds L 5 ++ (lvIds L 4 ++ (lvIds L 3 ++ (lvIds L 2 ++ (lvIds L 1 ++ (lvIds L 0 ++ []))))))) := rfl
  have a7 := h 7; have a6 := h 6; have a5 := h 5; have a4 := h 4; have a3 := h 3; have a2 := h 2; have a1 := h 1
  rw [e]
  match T, hT with
  | 0, _ => simp [a7, a6, a5, a4, a3, a2, a1]
  | 1, _ => simp [a7, a6, a5, a4, a3, a2, List.range_succ]
  | 2, _ => simp [a7, a6, a5, a4, a3, List.range_succ]
  | 3, _ => simp [a7, a6, a5, a4, List.range_succ]
  | 4, _ => simp [a7, a6, a5, List.range_succ]
  | 5, _ => simp [a7, a6, List.range_succ]
  | 6, _ => simp [a7, List.range_succ]
  | 7, _ => simp [List.range_succ]
theorem lv_high {L : Its} (h : ∀ e ∈ L, 0 ≤ e.1 ∧ e.1 < 8) {j : Nat} (hj : 8 ≤ j) : lvIds L j = [] := by
  unfold lvIds
  rw [List.map_eq_nil_iff, List.filter_eq_nil_iff]
  intro e he
  have := h e he
  simp; omega
/-- The greatest level that has any. -/
theorem top_lv {L : Its} (h : ∀ e ∈ L, 0 ≤ e.1 ∧ e.1 < 8) (hne : listOf L ≠ []) : ∃ T, T < 8 ∧ lvIds L T ≠ [] ∧ ∀ j, T < j → lvIds L j = [] := by
  have hs : ∀ n, n ≤ 8 → (∀ j, n ≤ j → lvIds L j = []) → ∃ T, T < 8 ∧ lvIds L T ≠ [] ∧ ∀ j, T < j → lvIds L j = [] := by
    intro n
    induction n with
    | zero =>
      intro _ h0
      exfalso
      apply hne
      unfold listOf
      rw [List.flatMap_eq_nil_iff]
      exact fun i _ => h0 _ (Nat.zero_le _)
    | succ n ih =>
      intro hn h0
      by_cases hv : lvIds L n = []
      · exact ih (by omega) fun j hj => if e : j = n then e ▸ hv else h0 j (by omega)
      · exact ⟨n, by omega, hv, fun j hj => h0 j hj⟩
  exact hs 8 (Nat.le_refl _) fun j hj => lv_high h hj
theorem back_lv {x : Nat × Its} (hV : PqV x) {j : Nat} {a : Int} {t : List Int} (h : lvIds x.2 j = a :: t) : (pqBackS x a).1 = x.1 ∧ lvIds (pqBackS x a).2 j = t ++ [a] ∧ ∀ i, i ≠ j → lvIds (pqBackS x a).2 i = lvIds x.2 i := by
  have hka : ((j : Int), a) ∈ x.2 := lv_mem.1 (by rw [h]; exact List.mem_cons_self)
  have hb : pqBackS x a = (x.1, (pqDropS x a).2 ++ [((j : Int), a)]) := by rw [pqBackS, if_pos (in_iff.2 ⟨_, hka⟩), prio_in hV.one hka]
  have hnd := lv_nodup hV.one j
  rw [h, List.nodup_cons] at hnd
  rw [hb]
  refine ⟨rfl, ?_, fun i hij => ?_⟩
  · rw [lv_push, if_pos rfl, pqDropS, lv_drop, h, List.filter_cons]
    simp only [ne_eq, not_true_eq_false, decide_false, Bool.false_eq_true, if_false]
    congr 1
    apply List.filter_eq_self.2
    intro u hu
    rw [decide_eq_true_eq]
    rintro rfl
    exact hnd.1 hu
  · rw [lv_push, if_neg (by omega), List.append_nil, pqDropS, lv_drop]
    apply List.filter_eq_self.2
    intro u hu
    rw [decide_eq_true_eq]
    rintro rfl
    have := nodup_key hV.one (lv_mem.1 hu) hka rfl
    simp at this
    omega
/-- Behind some turns of the greatest level. -/
structure Rnd (x y : Nat × Its) (T i : Nat) : Prop where
  top : lvIds y.2 T = (lvIds x.2 T).drop i ++ (lvIds x.2 T).take i
  oth : ∀ j, j ≠ T → lvIds y.2 j = lvIds x.2 j
section
variable {x y : Nat × Its} {T i : Nat}
theorem Rnd.next (h : Rnd x y T i) (hV : PqV y) (hT : T < 8) (ht : ∀ j, T < j → lvIds x.2 j = []) (hi : i < (lvIds x.2 T).length) : topE y = ((lvIds x.2 T)[i], 0) ∧ Rnd x (pqTurnS y) T (i + 1) ∧ pqTurnE y = 0 := by
  have hd : (lvIds x.2 T).drop i = (lvIds x.2 T)[i] :: (lvIds x.2 T).drop (i + 1) := List.drop_eq_getElem_cons hi
  have h1 := h.top
  rw [hd, List.cons_append] at h1
  have h2 : topE y = ((lvIds x.2 T)[i], 0) := by
    unfold topE
    rw [listOf_top hT (fun j hj => by rw [h.oth j (by omega)]; exact ht j hj), h1]
    rfl
  have h3 := back_lv hV h1
  have h4 : pqTurnE y = 0 := by rw [pqTurnE, h2]
  refine ⟨h2, ⟨?_, fun j hj => ?_⟩, h4⟩
  · rw [pqTurnS, if_pos h4, h2, h3.2.1, List.append_assoc]
    congr 1
    rw [List.take_succ_eq_append_getElem hi]
  · rw [pqTurnS, if_pos h4, h2, h3.2.2 j hj, h.oth j hj]
theorem Rnd.all (h : Rnd x y T i) (hT : T < 8) (ht : ∀ j, T < j → lvIds x.2 j = []) (hi : i = (lvIds x.2 T).length) : listOf y.2 = listOf x.2 := by
  have h1 : lvIds y.2 T = lvIds x.2 T := by rw [h.top, hi, List.drop_length, List.take_length]; rfl
  rw [listOf_top hT (fun j hj => by rw [h.oth j (by omega)]; exact ht j hj), listOf_top hT ht, h1]
  congr 1
  rw [List.flatMap_def, List.flatMap_def]
  congr 1
  apply List.map_congr_left
  intro j hj
  exact h.oth j (by simp at hj; omega)
/-- The priority of one of them. -/
theorem Rnd.prio (h : Rnd x y T i) (hV : PqV y) (hT : T < 8) (ht : ∀ j, T < j → lvIds x.2 j = []) {k : Nat} (hk : k < (listOf x.2).length) : (k < (lvIds x.2 T).length → (listOf x.2)[k] = (lvIds x.2 T)[k]! ∧ prioE y (listOf x.2)[k] = ((T : Int), true)) ∧ ((lvIds x.2 T).length ≤ k → ∃ j : Nat, j < T ∧ prioE y (listOf x.2)[k] = ((j : Int), true)) := by
  have e := listOf_top hT ht
  have hq : ∀ {j : Nat} {a : Int}, a ∈ lvIds x.2 j → prioE y a = ((j : Int), true) := by
    intro j a ha
    refine prio_in hV.one (lv_mem.1 ?_)
    by_cases hj : j = T
    · subst hj
      rw [h.top]
      rw [← List.take_append_drop i (lvIds x.2 j)] at ha
      simp only [List.mem_append] at ha ⊢
      exact ha.symm
    · rw [h.oth j hj]; exact ha
  refine ⟨fun h1 => ?_, fun h1 => ?_⟩
  · have e1 : (listOf x.2)[k] = (lvIds x.2 T)[k] := by
      have : (listOf x.2)[k]? = some (lvIds x.2 T)[k] := by rw [e, List.getElem?_append_left h1, List.getElem?_eq_getElem h1]
      rw [List.getElem?_eq_getElem hk] at this
      exact Option.some.inj this
    refine ⟨by rw [e1]; simp [h1], ?_⟩
    rw [e1]
    exact hq (List.getElem_mem h1)
  · have e1 : (listOf x.2)[k] ∈ (List.range T).reverse.flatMap (lvIds x.2) := by
      have : (listOf x.2)[k]? = ((List.range T).reverse.flatMap (lvIds x.2))[k - (lvIds x.2 T).length]? := by rw [e, List.getElem?_append_right h1]
      rw [List.getElem?_eq_getElem hk] at this
      exact List.mem_of_getElem? this.symm
    obtain ⟨j, hj, ha⟩ := List.mem_flatMap.1 e1
    exact ⟨j, by simpa using hj, hq ha⟩
end


/-! ### Which numbers are in it -/
theorem in_push {x : Nat × Its} {p k : Int} (h : pqPushE x p k = 0) (j : Int) : inE (pqPushS x p k) j = (inE x j || decide (j = k)) := by
  rw [pqPushS, if_pos h, Bool.eq_iff_iff, in_iff, Bool.or_eq_true, in_iff, decide_eq_true_iff]
  simp only [List.mem_append, List.mem_singleton, Prod.mk.injEq]
  constructor
  · rintro ⟨q, h | ⟨_, h⟩⟩
    · exact .inl ⟨q, h⟩
    · exact .inr h
  · rintro (⟨q, h⟩ | h)
    · exact ⟨q, .inl h⟩
    · exact ⟨p, .inr ⟨rfl, h⟩⟩
theorem push_no {x : Nat × Its} {p k : Int} (h : pqPushE x p k = 0) : inE x k = false := by
  unfold pqPushE at h
  by_cases h1 : p < 0 ∨ 8 ≤ p
  · rw [if_pos h1] at h; cases h
  · rw [if_neg h1] at h
    cases hk : inE x k with
    | false => rfl
    | true => rw [hk, if_pos rfl] at h; cases h
theorem in_drop (x : Nat × Its) (k j : Int) : inE (pqDropS x k) j = (inE x j && decide (j ≠ k)) := by
  rw [Bool.eq_iff_iff, in_iff, Bool.and_eq_true, in_iff, decide_eq_true_iff]
  simp [pqDropS]
theorem in_back (x : Nat × Its) (k j : Int) : inE (pqBackS x k) j = inE x j := by
  unfold pqBackS
  cases hk : inE x k with
  | false => rfl
  | true =>
    rw [if_pos rfl, Bool.eq_iff_iff, in_iff, in_iff]
    simp only [List.mem_append, List.mem_singleton, Prod.mk.injEq, pqDropS, List.mem_filter, decide_eq_true_iff]
    constructor
    · rintro ⟨q, ⟨h, _⟩ | ⟨_, h⟩⟩
      · exact ⟨q, h⟩
      · rw [h]; exact in_iff.1 hk
    · rintro ⟨q, h⟩
      by_cases hj : j = k
      · exact ⟨_, .inr ⟨rfl, hj⟩⟩
      · exact ⟨q, .inl ⟨h, hj⟩⟩
theorem in_turn (x : Nat × Its) (j : Int) : inE (pqTurnS x) j = inE x j := by
  unfold pqTurnS
  split
  · exact in_back _ _ _
  · rfl
theorem most_push (x : Nat × Its) (p k : Int) : (pqPushS x p k).1 = x.1 := by unfold pqPushS; split <;> rfl
theorem most_back (x : Nat × Its) (k : Int) : (pqBackS x k).1 = x.1 := by unfold pqBackS; split <;> rfl
theorem most_turn (x : Nat × Its) : (pqTurnS x).1 = x.1 := by unfold pqTurnS; split; exact most_back _ _; rfl
theorem in_list {x : Nat × Its} {k : Int} (hV : PqV x) : k ∈ listOf x.2 ↔ inE x k = true := by
  rw [in_iff]
  unfold listOf
  constructor
  · intro h
    obtain ⟨i, _, hi⟩ := List.mem_flatMap.1 h
    exact ⟨_, lv_mem.1 hi⟩
  · rintro ⟨p, hp⟩
    have h1 := hV.rng _ hp
    simp only at h1
    have hall : ∀ i : Fin 8, i ∈ L8.reverse := by decide
    refine List.mem_flatMap.2 ⟨⟨p.toNat, by omega⟩, hall _, lv_mem.2 ?_⟩
    simp only
    rw [Int.toNat_of_nonneg h1.1]
    exact hp
theorem cnt_fil {α : Type} (p q : α → Bool) (h : ∀ a, ¬ (p a = true ∧ q a = true)) : ∀ L : List α, (L.filter p).length + (L.filter q).length = (L.filter fun a => p a || q a).length
  | [] => rfl
  | a :: L => by
    have ih := cnt_fil p q h L
    have := h a
    simp only [List.filter_cons]
    cases hp : p a <;> cases hq : q a <;> simp [hp, hq] at this ⊢ <;> omega
theorem lO_cnt (L : Its) (j : Nat) (hj : j ≤ 8) : (lO L j).length = (L.filter fun e => decide (8 - (j : Int) ≤ e.1 ∧ e.1 < 8)).length := by
  induction j with
  | zero =>
    have : L.filter (fun e => decide (8 - ((0 : Nat) : Int) ≤ e.1 ∧ e.1 < 8)) = [] := by
      rw [List.filter_eq_nil_iff]
      intro e _
      simp
    rw [this]; rfl
  | succ j ih =>
    rw [lO_succ, List.length_append, ih (by omega), lvIds, List.length_map, cnt_fil]
    · congr 1
      apply List.filter_congr
      intro e _
      rw [Bool.eq_iff_iff]
      simp only [Bool.or_eq_true, decide_eq_true_iff]
      omega
    · intro e
      simp only [decide_eq_true_iff]
      omega
theorem list_all {x : Nat × Its} (hV : PqV x) : (listOf x.2).length = x.2.length := by
  rw [← lO_all, lO_cnt _ _ (Nat.le_refl _)]
  congr 1
  apply List.filter_eq_self.2
  intro e he
  have := hV.rng e he
  rw [decide_eq_true_iff]
  omega
theorem prio_snd (x : Nat × Its) (k : Int) : (prioE x k).2 = inE x k := by
  unfold prioE
  cases h : x.2.find? (fun e => decide (e.2 = k)) with
  | none =>
    symm
    refine inE_no fun e he => ?_
    have := List.find?_eq_none.1 h e he
    simpa using this
  | some e =>
    have h1 := List.find?_some h
    have h2 := List.mem_of_find?_eq_some h
    symm
    refine in_iff.2 ⟨e.1, ?_⟩
    have h3 : e.2 = k := by simpa using h1
    rw [← h3]
    exact h2
theorem drop_len {x : Nat × Its} (hV : PqV x) {k : Int} (h : inE x k = true) : (pqDropS x k).2.length + 1 = x.2.length := by
  obtain ⟨p, hp⟩ := in_iff.1 h
  have h2 : (x.2.filter fun e => decide (e.2 ≠ k)).map (·.2) = (x.2.map (·.2)).erase k := by
    rw [erase_eq hV.one, List.filter_map]
    rfl
  have h3 := congrArg List.length h2
  have hm2 : k ∈ x.2.map (·.2) := List.mem_map.2 ⟨_, hp, rfl⟩
  rw [List.length_map, List.length_erase_of_mem hm2, List.length_map] at h3
  have := List.length_pos_of_mem hp
  simp only [pqDropS]
  omega
end Go.Dav
