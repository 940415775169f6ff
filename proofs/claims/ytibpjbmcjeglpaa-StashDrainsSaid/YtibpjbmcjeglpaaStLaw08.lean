/- What is always so of a stash: each object is at one place. -/
import Derived.Test.YtibpjbmcjeglpaaRStash08
set_option linter.unusedVariables false
set_option linter.unusedSimpArgs false
namespace Go.Dav

theorem out_set {pg : List Nat} {i k x : Nat} {v : Bool} (hi : i < pg.length) (hk : k < 8) (hx : bitsB x = (bitsB pg[i]).set k v) (u : Int) : outE (pg.set i x) u = if u = ((8 * i + k + 1 : Nat) : Int) then v else outE pg u := by
  have hb : ∀ j, j < 8 → x.testBit j = if j = k then v else pg[i].testBit j := by
    intro j hj
    have := congrArg (fun l => l[j]?) hx
    simp only [bitsB, List.getElem?_map, List.getElem?_range hj, Option.map_some, List.getElem?_set, List.length_map, List.length_range, hk, ite_true] at this
    by_cases hjk : k = j
    · subst hjk; simpa using this
    · rw [if_neg hjk] at this
      rw [if_neg (fun e => hjk e.symm)]
      simpa using this
  by_cases hu : inP pg u
  · obtain ⟨i', k', hi', hk', rfl⟩ := in_split hu
    rw [out_of (by simpa using hi') hk', out_of hi' hk']
    by_cases hii : i = i'
    · subst hii
      rw [List.getElem_set_self, hb k' hk']
      by_cases hkk : k' = k
      · subst hkk; simp
      · rw [if_neg hkk, if_neg (by omega)]
    · rw [List.getElem_set_ne hii, if_neg (by omega)]
  · have hu' : ¬ inP (pg.set i x) u := by unfold inP at hu ⊢; rw [List.length_set]; exact hu
    rw [outE, if_neg hu', outE, if_neg hu, if_neg]
    rintro rfl
    exact hu (by unfold inP; omega)
theorem out_in {pg : List Nat} {v : Int} (h : outE pg v = true) : inP pg v := by
  unfold outE at h
  split at h
  · assumption
  · cases h
theorem give_out {pg : List Nat} (hp : PgOk pg) (v : Int) : PgOk (giveS pg v) ∧ ∀ u, outE (giveS pg v) u = (outE pg u && decide (u ≠ v)) := by
  by_cases h : outE pg v = true
  · obtain ⟨i, k, hi, hk, rfl⟩ := in_split (out_in h)
    have o := ops8 _ (hp.at hi) k hk
    rw [give_of hi hk, if_pos (by rw [← out_of hi hk]; exact h)]
    refine ⟨hp.set i o.2.2.2.2.1, fun u => ?_⟩
    rw [out_set hi hk o.2.2.2.2.2.2]
    by_cases hu : u = ((8 * i + k + 1 : Nat) : Int)
    · rw [if_pos hu]; simp [hu]
    · rw [if_neg hu, decide_eq_true (show u ≠ _ from hu), Bool.and_true]
  · rw [giveS, if_neg h]
    refine ⟨hp, fun u => ?_⟩
    by_cases hu : u = v
    · subst hu; simp [h]
    · simp [hu]
theorem take_out {pg : List Nat} (hp : PgOk pg) (h : (takeE pg).2 = 0) : PgOk (takeS pg) ∧ outE pg (takeE pg).1 = false ∧ (∀ u, outE (takeS pg) u = (outE pg u || decide (u = (takeE pg).1))) := by
  unfold takeE at h
  cases hP : takeP pg with
  | none => rw [hP] at h; simp at h
  | some i =>
    obtain ⟨hi, hne⟩ := takeP_at hP
    have hx := hp.at hi
    obtain ⟨o1, o2, o3, o4⟩ := one8 _ hx
    obtain ⟨k1, k2, k3⟩ := o4 hne
    have o := ops8 _ hx _ k1
    have hg : pg.getD i 0 = pg[i] := by simp [hi]
    have e1 : (takeE pg).1 = ((8 * i + z8 pg[i] + 1 : Nat) : Int) := by simp only [takeE, hP, hg]
    have e2 : takeS pg = pg.set i (ior pg[i] (z8 pg[i])) := by simp only [takeS, hP, hg]
    refine ⟨by rw [e2]; exact hp.set i o.2.2.2.1, by rw [e1, out_of hi k1, k2], fun u => ?_⟩
    rw [e1, e2, out_set hi k1 o.2.2.2.2.2.1]
    by_cases hu : u = ((8 * i + z8 pg[i] + 1 : Nat) : Int)
    · rw [if_pos hu]; simp [hu]
    · rw [if_neg hu, decide_eq_false hu, Bool.or_false]
theorem take_no {pg : List Nat} (h : (takeE pg).2 ≠ 0) : takeS pg = pg := by
  unfold takeE at h
  unfold takeS
  cases hP : takeP pg with
  | none => rfl
  | some i => rw [hP] at h; simp at h
theorem gives_out {pg : List Nat} (hp : PgOk pg) (m : List Int) : PgOk (gives pg m) ∧ ∀ u, outE (gives pg m) u = (outE pg u && decide (u ∉ m)) := by
  induction m generalizing pg with
  | nil => exact ⟨hp, fun u => by simp [gives]⟩
  | cons v m ih =>
    obtain ⟨h1, h2⟩ := give_out hp v
    obtain ⟨h3, h4⟩ := ih h1
    refine ⟨h3, fun u => ?_⟩
    have : outE (gives pg (v :: m)) u = outE (gives (giveS pg v) m) u := rfl
    rw [this, h4, h2, Bool.and_assoc]
    congr 1
    by_cases hu : u = v <;> simp [hu]

/-! ### At one place -/
def cn (L : List (List Int)) (v : Int) : Nat := L.flatten.count v
theorem cn_set {L : List (List Int)} {i : Nat} (hi : i < L.length) (l' : List Int) (v : Int) : cn (L.set i l') v + L[i].count v = cn L v + l'.count v := by
  unfold cn
  induction L generalizing i with
  | nil => simp at hi
  | cons l L ih =>
    cases i with
    | zero => simp only [List.set_cons_zero, List.flatten_cons, List.count_append, List.getElem_cons_zero]; omega
    | succ i =>
      have := ih (i := i) (by simpa using hi)
      simp only [List.set_cons_succ, List.flatten_cons, List.count_append, List.getElem_cons_succ]
      omega
theorem cn_kept (L : List (List Int)) (v : Int) : keptB L v = decide (0 < cn L v) := by
  unfold keptB cn
  rw [Bool.eq_iff_iff, List.any_eq_true, decide_eq_true_eq, List.count_pos_iff, List.mem_flatten]
  simp
structure KI (x : KS) : Prop where
  pg : PgOk x.1
  one : ∀ v, cn x.2 v ≤ 1
  out : ∀ v, 0 < cn x.2 v → outE x.1 v = true
  le : ∀ l ∈ x.2, l.length ≤ 4

section
variable {x : KS} {i : Nat}
theorem KI.tk (h : KI x) (hi : i < x.2.length) (hl : x.2[i].length ≤ 3) : KI ((tk1 (x.1, x.2[i])).1, x.2.set i (tk1 (x.1, x.2[i])).2) := by
  unfold tk1
  split
  · rename_i h0
    simp only at h0 ⊢
    obtain ⟨h1, h2, h3⟩ := take_out h.pg h0
    have hc : ∀ v, cn (x.2.set i (x.2[i] ++ [(takeE x.1).1])) v = cn x.2 v + if (takeE x.1).1 = v then 1 else 0 := by
      intro v
      have := cn_set hi (x.2[i] ++ [(takeE x.1).1]) v
      rw [List.count_append, List.count_singleton] at this
      simp only [beq_iff_eq] at this
      omega
    have h4 : cn x.2 (takeE x.1).1 = 0 := by
      apply Classical.byContradiction
      intro hne
      have := h.out (takeE x.1).1 (by omega)
      rw [h2] at this; cases this
    refine ⟨h1, fun v => ?_, fun v hv => ?_, set_le h.le i (by simp; omega)⟩
    · rw [hc]
      split
      · rename_i e; subst e; omega
      · have := h.one v; omega
    · rw [hc] at hv
      rw [h3]
      split at hv
      · rename_i e; simp [e]
      · rw [h.out v (by omega)]; rfl
  · rename_i h0
    simp only [List.set_getElem_self]
    rw [take_no h0]
    exact h
theorem KI.fill (h : KI x) (hi : i < x.2.length) : KI ((fillS (x.1, x.2[i])).1, x.2.set i (fillS (x.1, x.2[i])).2) := by
  unfold fillS
  split
  · rename_i he
    simp only at he
    have h1 := h.tk hi (by rw [he]; simp)
    have hlen : (tk1 (x.1, x.2[i])).2.length ≤ 3 := by unfold tk1; split <;> simp [he]
    have h2 := h1.tk (i := i) (by simpa using hi) (by simp only [List.getElem_set_self]; exact hlen)
    simp only [List.getElem_set_self, List.set_set] at h2
    exact h2
  · simp only [List.set_getElem_self]
    exact h
theorem KI.nd (h : KI x) (hi : i < x.2.length) : x.2[i].Nodup := by
  rw [List.nodup_iff_count]
  intro v
  have := h.one v
  have h2 := cn_set hi [] v
  simp at h2
  omega
theorem KI.fillNd (h : KI x) (cpu : Int) (hc : inC x cpu) : (fillS (x.1, rowC x cpu)).2.Nodup := by
  obtain ⟨i, hi, rfl⟩ := inC_at hc
  rw [rowC_at hi]
  have := (h.fill hi).nd (i := i) (by simpa using hi)
  simpa using this
theorem KI.less (h : KI x) (hi : i < x.2.length) {l' : List Int} (hs : l'.Sublist x.2[i]) : KI (x.1, x.2.set i l') := by
  have hc : ∀ v, cn (x.2.set i l') v ≤ cn x.2 v := fun v => by
    have h1 := cn_set hi l' v
    have := hs.count_le v
    omega
  exact ⟨h.pg, fun v => Nat.le_trans (hc v) (h.one v), fun v hv => h.out v (Nat.lt_of_lt_of_le hv (hc v)), set_le h.le i (Nat.le_trans hs.length_le (h.le _ (List.getElem_mem hi)))⟩
theorem KI.alloc (h : KI x) (cpu : Int) : KI (allocS x cpu) := by
  unfold allocS
  split
  · rename_i hc
    obtain ⟨i, hi, rfl⟩ := inC_at hc
    rw [rowC_at hi]
    have h1 := h.fill hi
    have h2 := h1.less (i := i) (by simpa using hi) (l' := (fillS (x.1, x.2[i])).2.dropLast) (by simp only [List.getElem_set_self]; exact List.dropLast_sublist _)
    simp only [List.set_set] at h2
    exact h2
  · exact h
theorem KI.back (h : KI x) (hi : i < x.2.length) (k : Nat) : KI (gives x.1 (x.2[i].take k), x.2.set i (x.2[i].drop k)) ∧ ∀ v, hasE (gives x.1 (x.2[i].take k), x.2.set i (x.2[i].drop k)) v = hasE x v := by
  obtain ⟨h1, h2⟩ := gives_out h.pg (x.2[i].take k)
  have hc : ∀ v, cn (x.2.set i (x.2[i].drop k)) v + (x.2[i].take k).count v = cn x.2 v := fun v => by
    have h3 := cn_set hi (x.2[i].drop k) v
    have h4 : x.2[i].count v = (x.2[i].take k).count v + (x.2[i].drop k).count v := by rw [← List.count_append, List.take_append_drop]
    omega
  refine ⟨⟨h1, fun v => by show cn (x.2.set i (x.2[i].drop k)) v ≤ 1; have := hc v; have := h.one v; omega, fun v hv => ?_, set_le h.le i (by have := h.le _ (List.getElem_mem hi); simp; omega)⟩, fun v => ?_⟩
  · have h3 := hc v
    have h4 := h.one v
    have : v ∉ x.2[i].take k := fun hm => by have := List.count_pos_iff.2 hm; simp only at hv; omega
    rw [h2, h.out v (by simp only at hv; omega)]
    simp [this]
  · unfold hasE
    simp only [cn_kept, h2]
    have h3 := hc v
    have h4 := h.one v
    by_cases hm : v ∈ x.2[i].take k
    · have := List.count_pos_iff.2 hm
      have h5 : 0 < cn x.2 v := by omega
      simp [hm, h5]
    · have : (x.2[i].take k).count v = 0 := List.count_eq_zero.2 hm
      have h5 : cn (x.2.set i (x.2[i].drop k)) v = cn x.2 v := by omega
      simp [hm, h5]
theorem KI.give (h : KI x) (cpu v : Int) : KI (sgiveS x cpu v) := by
  unfold sgiveS
  split
  · rename_i hc
    obtain ⟨i, hi, rfl⟩ := inC_at hc.1
    rw [rowC_at hi]
    have hb : KI ((backS (x.1, x.2[i])).1, x.2.set i (backS (x.1, x.2[i])).2) ∧ (∀ u, hasE ((backS (x.1, x.2[i])).1, x.2.set i (backS (x.1, x.2[i])).2) u = hasE x u) ∧ (backS (x.1, x.2[i])).2.length ≤ 3 := by
      have := h.le _ (List.getElem_mem hi)
      unfold backS
      split
      · exact ⟨(h.back hi 2).1, (h.back hi 2).2, by simp; omega⟩
      · simp only [List.set_getElem_self]
        rename_i h4
        simp only at h4
        exact ⟨h, fun _ => trivial, by omega⟩
    generalize backS (x.1, x.2[i]) = s at hb
    obtain ⟨h1, h2, h3⟩ := hb
    have h4 : hasE (s.1, x.2.set i s.2) v = true := by rw [h2]; exact hc.2
    unfold hasE at h4
    simp only [cn_kept, Bool.and_eq_true, Bool.not_eq_true', decide_eq_false_iff_not] at h4
    have hc : ∀ u, cn (x.2.set i (s.2 ++ [v])) u = cn (x.2.set i s.2) u + if v = u then 1 else 0 := by
      intro u
      have := cn_set (L := x.2.set i s.2) (i := i) (by simpa using hi) (s.2 ++ [v]) u
      rw [List.set_set, List.getElem_set_self, List.count_append, List.count_singleton] at this
      simp only [beq_iff_eq] at this
      omega
    refine ⟨h1.pg, fun u => ?_, fun u hu => ?_, set_le h.le i (by simp; omega)⟩
    · simp only [Int.toNat_natCast]
      rw [hc]
      have := h1.one u
      simp only at this
      split
      · rename_i e; subst e; omega
      · omega
    · simp only [Int.toNat_natCast] at hu
      rw [hc] at hu
      split at hu
      · rename_i e; subst e; exact h4.1
      · exact h1.out u (by omega)
  · exact h
theorem KI.drain (h : KI x) (cpu : Int) : KI (drainS x cpu) ∧ ∀ v, hasE (drainS x cpu) v = hasE x v := by
  unfold drainS
  split
  · rename_i hc
    obtain ⟨i, hi, rfl⟩ := inC_at hc
    rw [rowC_at hi]
    have := h.back hi x.2[i].length
    rw [List.take_length, List.drop_length] at this
    exact this
  · exact ⟨h, fun _ => rfl⟩
theorem KI.new {m n : Int} (h : okNew m n) : KI (newK m n) := by
  unfold okNew at h
  have hc : ∀ v, cn (newK m n).2 v = 0 := fun v => by
    unfold cn newK
    rw [List.count_flatten]
    simp
  refine ⟨⟨by simp [newK]; omega, fun y hy => ?_⟩, fun v => by rw [hc]; omega, fun v hv => by rw [hc] at hv; omega, fun l hl => ?_⟩
  · have := List.eq_of_mem_replicate hy; omega
  · have := List.eq_of_mem_replicate hl; subst this; simp
theorem allocS_len (x : KS) (cpu : Int) : (allocS x cpu).1.length = x.1.length ∧ (allocS x cpu).2.length = x.2.length := by unfold allocS; split <;> simp [fill_len]
theorem sgiveS_len (x : KS) (cpu v : Int) : (sgiveS x cpu v).1.length = x.1.length ∧ (sgiveS x cpu v).2.length = x.2.length := by unfold sgiveS; split <;> simp [back_len]
theorem drainS_len (x : KS) (cpu : Int) : (drainS x cpu).1.length = x.1.length ∧ (drainS x cpu).2.length = x.2.length := by unfold drainS; split <;> simp [gives_len]

/-! ### Together they are all -/
theorem rpB_out {pg : List Nat} (hp : PgOk pg) {k : Nat} (h : k + 1 < (rpB pg).length) : (rpB pg)[k + 1] = outE pg ((k + 1 : Nat) : Int) := by
  have hl := rpB_len pg
  obtain ⟨i, j, hi, hj, e⟩ := in_split (pg := pg) (id := ((k + 1 : Nat) : Int)) (by unfold inP; omega)
  have : k = 8 * i + j := by omega
  subst this
  rw [rpB_get hi hj h, out_of hi hj]
theorem frN_range {pg : List Nat} (hp : PgOk pg) : ∀ j, j ≤ 8 * pg.length → frN pg j + (List.range j).countP (fun (k : Nat) => outE pg ((k + 1 : Nat) : Int)) = j
  | 0, _ => by simp [frN]
  | j + 1, h => by
    have hk : j + 1 < (rpB pg).length := by rw [rpB_len]; omega
    have := frN_range hp j (by omega)
    rw [frN_succ pg hk, List.range_succ, List.countP_append, List.countP_singleton, rpB_out hp hk]
    cases outE pg ((j + 1 : Nat) : Int) <;> simp only [Bool.false_eq_true, reduceIte] <;> omega
/-- The objects that are taken, as a list. -/
theorem taken_count {pg : List Nat} (hp : PgOk pg) {l : List Int} (hn : l.Nodup) (hm : ∀ v, v ∈ l ↔ outE pg v = true) : l.length + freeN pg = 8 * pg.length := by
  have h1 := frN_range hp (8 * pg.length) (Nat.le_refl _)
  rw [frN_all hp.lt] at h1
  have h2 : l.Perm (((List.range (8 * pg.length)).filter (fun (k : Nat) => outE pg ((k + 1 : Nat) : Int))).map (fun (k : Nat) => ((k + 1 : Nat) : Int))) := by
    rw [List.perm_ext_iff_of_nodup hn]
    · intro v
      rw [hm, List.mem_map]
      constructor
      · intro hv
        obtain ⟨h3, h4⟩ := out_in hv
        refine ⟨v.toNat - 1, ?_, by omega⟩
        rw [List.mem_filter]
        refine ⟨by simp; omega, ?_⟩
        have : ((v.toNat - 1 + 1 : Nat) : Int) = v := by omega
        rw [this]; exact hv
      · rintro ⟨k, hk, rfl⟩
        exact (List.mem_filter.1 hk).2
    · refine List.Pairwise.map _ (fun a b hab e => hab (by omega)) ((List.nodup_range (n := 8 * pg.length)).sublist List.filter_sublist)
  have := h2.length_eq
  rw [List.length_map, ← List.countP_eq_length_filter] at this
  omega
theorem outs_mem {x : KS} {v : Int} : v ∈ outsE x ↔ hasE x v = true := by
  unfold outsE outsN
  rw [List.mem_map]
  constructor
  · rintro ⟨k, hk, rfl⟩
    exact (List.mem_filter.1 hk).2
  · intro hv
    have h1 : outE x.1 v = true := by unfold hasE at hv; simp at hv; exact hv.1
    obtain ⟨h3, h4⟩ := out_in h1
    refine ⟨v.toNat - 1, ?_, by omega⟩
    rw [List.mem_filter]
    refine ⟨by simp; omega, ?_⟩
    have : ((v.toNat - 1 + 1 : Nat) : Int) = v := by omega
    unfold isOut
    rw [this]; exact hv
theorem outs_nodup (x : KS) : (outsE x).Nodup :=
  List.Pairwise.map _ (fun a b hab e => hab (by omega)) ((List.nodup_range (n := 8 * x.1.length)).sublist List.filter_sublist)
theorem all_nodup (h : KI x) : (outsE x ++ x.2.flatten).Nodup := by
  rw [List.nodup_append]
  refine ⟨outs_nodup x, List.nodup_iff_count.2 h.one, fun a ha b hb e => ?_⟩
  subst e
  rw [outs_mem, hasE, cn_kept] at ha
  rw [Bool.and_eq_true] at ha
  have := ha.2
  rw [decide_eq_true (show 0 < cn x.2 a from List.count_pos_iff.2 hb)] at this
  cases this
theorem all_mem (h : KI x) (v : Int) : v ∈ outsE x ++ x.2.flatten ↔ outE x.1 v = true := by
  rw [List.mem_append, outs_mem, hasE, cn_kept]
  constructor
  · rintro (hv | hv)
    · simp at hv; exact hv.1
    · exact h.out v (List.count_pos_iff.2 hv)
  · intro hv
    by_cases hf : v ∈ x.2.flatten
    · exact .inr hf
    · have : cn x.2 v = 0 := List.count_eq_zero.2 hf
      exact .inl (by simp [hv, this])
theorem all_count (h : KI x) : (outsE x).length + x.2.flatten.length + freeN x.1 = 8 * x.1.length := by
  rw [← List.length_append]
  exact taken_count h.pg (all_nodup h) (all_mem h)
theorem outs_eq {y : KS} (hl : y.1.length = x.1.length) (h : ∀ v, hasE y v = hasE x v) : outsE y = outsE x := by
  unfold outsE outsN
  rw [hl]
  congr 2
  funext k
  exact h _
end
end Go.Dav
