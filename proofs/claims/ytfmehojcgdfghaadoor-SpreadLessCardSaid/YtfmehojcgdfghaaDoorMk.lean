/- make and copy: what they come to on owned slices. -/
import Derived.Test.YtfmehojcgdfghaaDoorObj
import Derived.Deep.OwnRows
set_option linter.unusedSimpArgs false
set_option linter.unusedVariables false
namespace Go.Dav

theorem run_mk {P : Program} {t e : TypeId} {sz bytes : Nat} {z : List Value} (he : ElemT P t e sz bytes z) (w : World) {n : Nat} (hb : n * bytes ≤ 140737488355328) (hn : n ≤ 140737488355328) (k1 k2 : IntKind)
    {α : Type} {f : α → List Value} {x0 : α} (hf : ∀ x, (f x).length = sz) (hz0 : f x0 = z) :
    ∃ w', (Instr.makeSlice t (.int k1 (n : Int)) (.int k2 (n : Int))).run P w = .ok (.slice (some ⟨w.heap.size, 0, none⟩) n n) w' ∧ Newed w w' (.cells ((List.replicate n x0).flatMap f).toArray e (0, 0)) := by
  obtain ⟨hu, hinfo, hzs, hpos⟩ := he
  obtain ⟨i, hi, hii⟩ := Option.map_eq_some_iff.1 hinfo
  simp only [Prod.mk.injEq] at hii
  obtain ⟨hz, hs1, hb1⟩ := hii
  obtain ⟨zv, hzv, hzc⟩ := Option.map_eq_some_iff.1 hz
  have hb' : (i.bytes : Int) * (n : Int) ≤ 281474976710656 := by
    have h : ((i.bytes * n : Nat) : Int) ≤ 281474976710656 := by rw [hb1, Nat.mul_comm]; omega
    rwa [Int.natCast_mul] at h
  have hr := run_make (P := P) w t e i zv hu hi hzv k1 k2 n n (by omega) (Int.le_refl _) hb' (by omega)
  simp only [Int.toNat_natCast] at hr
  refine ⟨_, hr, ?_⟩
  have hzl : zv.cells.size = sz := by rw [← hzs, ← hzc]; simp
  have e1 : ((List.replicate n x0).flatMap f).toArray = madeCells zv.cells (n * i.size) := by
    rw [hs1]
    apply Array.ext'
    rw [List.toList_toArray]
    have hl : ((List.replicate n x0).flatMap f).length = n * sz := by rw [List.length_flatMap]; simp [hf, List.sum_replicate_nat]
    apply List.ext_getElem?
    intro j
    by_cases hj : j < n * sz
    · have hq : j / sz < n := Nat.div_lt_of_lt_mul (by rwa [Nat.mul_comm])
      have hm : j % sz < sz := Nat.mod_lt _ hpos
      have hv : zv.cells.toList[j % sz]? = some zv.cells[j % zv.cells.size]! := by
        have h1 : j % sz < zv.cells.size := by omega
        rw [hzl, getElem!_pos zv.cells (j % sz) h1]
        simp [h1]
      have := flat_at (l := List.replicate n x0) (i := j / sz) (j := j % sz) (v := zv.cells[j % zv.cells.size]!) hf (by simpa using hq) (by rw [List.getElem_replicate, hz0, ← hzc]; exact hv)
      rw [Nat.div_add_mod'] at this
      rw [this]
      simp [madeCells, hj]
    · rw [List.getElem?_eq_none (by omega), List.getElem?_eq_none (by simp [madeCells]; omega)]
  rw [e1]
  exact newed_push w _

theorem replicate_flat {α : Type} (f : α → Value) (n : Nat) (x : α) : (List.replicate n x).flatMap (fun x => [f x]) = (List.replicate n x).map f := by
  induction n with
  | zero => rfl
  | succ n ih => rw [List.replicate_succ, List.flatMap_cons, ih]; rfl

/-- .. of numbers. -/
theorem run_mkI {P : Program} {t e : TypeId} {k : IntKind} {bytes : Nat} (he : ElemT P t e 1 bytes [.int k 0]) (w : World) {n : Nat} (hb : n * bytes ≤ 140737488355328) (hn : n ≤ 140737488355328) (k1 k2 : IntKind) :
    ∃ w', (Instr.makeSlice t (.int k1 (n : Int)) (.int k2 (n : Int))).run P w = .ok (.slice (some ⟨w.heap.size, 0, none⟩) n n) w' ∧ Newed w w' (.cells ((List.replicate n (0 : Int)).map (Value.int k)).toArray e (0, 0)) := by
  obtain ⟨w', h1, h2⟩ := run_mk he w hb hn k1 k2 (f := fun x : Int => [Value.int k x]) (x0 := 0) (fun _ => rfl) rfl
  rw [replicate_flat] at h2
  exact ⟨w', h1, h2⟩

theorem run_copy {P : Program} {t e : TypeId} {sz bytes : Nat} {z : List Value} (he : ElemT P t e sz bytes z) {w : World} {p : Option Addr} {dn dc : Nat} {ds : List Value} (h : Sl w e sz p dn dc ds)
    {q : Option Addr} {sn sc : Nat} {ss : List Value} (hq : Cells w q ss) (hl : ss.length = sn * sz) (h1 : ∀ u ∈ ss, u.oneCell' = true) (ty : TypeId) :
    ∃ w', (Builtin.copy_ #[t, t] ty #[.slice p dn dc, .slice q sn sc]).run P w = .ok (.int .i64 ((min sn dn : Nat) : Int)) w' ∧ Sl w' e sz p dn dc (ss.take (min sn dn * sz) ++ ds.drop (min sn dn * sz)) ∧ Upd (fpS p) w w' := by
  obtain ⟨hu, hinfo, hzs, hpos⟩ := he
  obtain ⟨i, hi, hii⟩ := Option.map_eq_some_iff.1 hinfo
  simp only [Prod.mk.injEq] at hii
  obtain ⟨hz, hs1, hb1⟩ := hii
  subst hs1
  obtain ⟨l1, l2, l3, l4⟩ := id h
  generalize hm : min sn dn = m
  have hms : m ≤ sn := by omega
  have hmd : m ≤ dn := by omega
  have htl : (ss.take (m * i.size)).length = m * i.size := by
    rw [List.length_take, hl]
    exact Nat.min_eq_left (Nat.mul_le_mul_right _ hms)
  have hf : (Builtin.firstCells i.size m (.slice q sn sc)).run P w = .ok (ss.take (m * i.size)).toArray w := by
    cases q with
    | none =>
      have : ss.take (m * i.size) = [] := by
        apply List.eq_nil_of_length_eq_zero
        rw [htl]
        by_cases h0 : m * i.size = 0
        · exact h0
        · have : 0 < ss.length := by
            rw [hl]
            have : 0 < m * i.size := by omega
            exact Nat.lt_of_lt_of_le this (Nat.mul_le_mul_right _ hms)
          obtain ⟨a, ha, _⟩ := hq 0 ss[0] (by simp [this])
          cases ha
      rw [this]
      simp [Builtin.firstCells]
    | some a =>
      refine run_firstCells_some (P := P) w i.size m a sn sc _ htl (fun j v hj => ?_)
      rw [List.getElem?_take] at hj
      split at hj
      · obtain ⟨b, hb, hc⟩ := hq j v hj
        obtain rfl := Option.some.inj hb
        exact hc
      · cases hj
  have hone : ∀ u ∈ ss.take (m * i.size), u.oneCell' = true := fun u hu => h1 u (List.mem_of_mem_take hu)
  cases p with
  | none =>
    obtain ⟨rfl, rfl⟩ := l4
    have : m = 0 := by omega
    subst this
    refine ⟨w, ?_, by simpa using h, Upd.refl _ _⟩
    simp [Builtin.copy_, run_underlying hu, sizeOf, typeInfo, hi, Builtin.lenOf, hf, goInt] at hm ⊢
  | some a =>
    obtain ⟨cells, hbk, hsp, hfit, htk⟩ := l4
    obtain ⟨b, o, sp⟩ := a
    simp only at hsp hbk hfit htk
    subst hsp
    have hle : m * i.size ≤ dc * i.size := Nat.mul_le_mul_right _ (by omega)
    have hfit' : o + 0 + (ss.take (m * i.size)).length ≤ cells.toArray.size := by rw [htl]; simp only [List.size_toArray]; omega
    have hst := run_storeCells_at P b o e (ss.take (m * i.size)) 0 cells.toArray w hbk hfit' hone
    simp only [Nat.add_zero] at hst
    have hW := wrote_setRow (w := w) (b := b) (c := cells.toArray) (T := e) hbk (setL cells o (ss.take (m * i.size)))
    refine ⟨_, ?_, ?_, hW.upd ⟨_, rfl, rfl⟩⟩
    · have hmin : Nat.min sn dn = m := hm
      simp [Builtin.copy_, run_underlying hu, sizeOf, typeInfo, hi, Builtin.lenOf, hmin, hf, hst, goInt, setL]
    · have hlc : (setL cells o (ss.take (m * i.size))).length = cells.length := setL_length (by rw [htl]; omega)
      have hdl : m * i.size ≤ dn * i.size := Nat.mul_le_mul_right _ hmd
      refine ⟨by rw [List.length_append, htl, List.length_drop, l1]; omega, l2, l3, _, hW.blk, rfl, by rw [hlc]; exact hfit, ?_⟩
      subst htk
      apply List.ext_getElem?
      intro j
      have hcd : dn * i.size ≤ dc * i.size := Nat.mul_le_mul_right _ l2
      unfold setL
      simp only [List.getElem?_take, List.getElem?_drop, List.getElem?_append, List.length_append, List.length_take, htl]
      generalize m * i.size = x at *
      generalize dn * i.size = y at *
      generalize dc * i.size = u at *
      rw [List.length_take] at htl
      grind
/-- copy into a slice's rest. -/
theorem run_copyAt {P : Program} {t e : TypeId} {sz bytes : Nat} {z : List Value} (he : ElemT P t e sz bytes z) {w : World} {p : Option Addr} {dn dc : Nat} {ds : List Value} (h : Sl w e sz p dn dc ds)
    {q : Option Addr} {sn sc : Nat} {ss : List Value} (hq : Cells w q ss) (hl : ss.length = sn * sz) (h1 : ∀ u ∈ ss, u.oneCell' = true) (ty : TypeId) {k : Nat} (hk : k ≤ dn) :
    ∃ w', (Builtin.copy_ #[t, t] ty #[.slice (subA p dc k sz) (dn - k) (dc - k), .slice q sn sc]).run P w = .ok (.int .i64 ((min sn (dn - k) : Nat) : Int)) w' ∧
      Sl w' e sz p dn dc (setL ds (k * sz) (ss.take (min sn (dn - k) * sz))) ∧ Upd (fpS p) w w' := by
  obtain ⟨hu, hinfo, hzs, hpos⟩ := he
  obtain ⟨i, hi, hii⟩ := Option.map_eq_some_iff.1 hinfo
  simp only [Prod.mk.injEq] at hii
  obtain ⟨hz, hs1, hb1⟩ := hii
  subst hs1
  obtain ⟨l1, l2, l3, l4⟩ := id h
  generalize hm : min sn (dn - k) = m
  have hms : m ≤ sn := by omega
  have hmd : m ≤ dn - k := by omega
  have htl : (ss.take (m * i.size)).length = m * i.size := by
    rw [List.length_take, hl]
    exact Nat.min_eq_left (Nat.mul_le_mul_right _ hms)
  have hf : (Builtin.firstCells i.size m (.slice q sn sc)).run P w = .ok (ss.take (m * i.size)).toArray w := by
    cases q with
    | none =>
      have : ss.take (m * i.size) = [] := by
        apply List.eq_nil_of_length_eq_zero
        rw [htl]
        by_cases h0 : m * i.size = 0
        · exact h0
        · have : 0 < ss.length := by
            rw [hl]
            have : 0 < m * i.size := by omega
            exact Nat.lt_of_lt_of_le this (Nat.mul_le_mul_right _ hms)
          obtain ⟨a, ha, _⟩ := hq 0 ss[0] (by simp [this])
          cases ha
      rw [this]
      simp [Builtin.firstCells]
    | some a =>
      refine run_firstCells_some (P := P) w i.size m a sn sc _ htl (fun j v hj => ?_)
      rw [List.getElem?_take] at hj
      split at hj
      · obtain ⟨b, hb, hc⟩ := hq j v hj
        obtain rfl := Option.some.inj hb
        exact hc
      · cases hj
  have hone : ∀ u ∈ ss.take (m * i.size), u.oneCell' = true := fun u hu => h1 u (List.mem_of_mem_take hu)
  have hmin : Nat.min sn (dn - k) = m := hm
  have hset0 : ∀ o, setL ds o [] = ds := fun o => by simp [setL]
  by_cases h0 : m = 0
  · subst h0
    simp only [Nat.zero_mul, List.take_zero] at hf ⊢
    refine ⟨w, ?_, by rw [hset0]; exact h, Upd.refl _ _⟩
    cases hp : subA p dc k i.size with
    | none => simp [Builtin.copy_, run_underlying hu, sizeOf, typeInfo, hi, Builtin.lenOf, hmin, hf, goInt]
    | some a => simp [Builtin.copy_, run_underlying hu, sizeOf, typeInfo, hi, Builtin.lenOf, hmin, hf, goInt, storeCells]
  · cases p with
    | none => obtain ⟨rfl, rfl⟩ := l4; omega
    | some a =>
      obtain ⟨cells, hbk, hsp, hfit, htk⟩ := l4
      obtain ⟨b, o, sp⟩ := a
      simp only at hsp hbk hfit htk
      subst hsp
      have hsub : subA (some (⟨b, o, none⟩ : Addr)) dc k i.size = some ⟨b, o + k * i.size, none⟩ := by
        unfold subA
        rw [if_neg (by omega), Option.map_some, add_lit]
      have hle : k * i.size + m * i.size ≤ dn * i.size := by rw [← Nat.add_mul]; exact Nat.mul_le_mul_right _ (by omega)
      have hcd : dn * i.size ≤ dc * i.size := Nat.mul_le_mul_right _ l2
      have hfit' : o + k * i.size + 0 + (ss.take (m * i.size)).length ≤ cells.toArray.size := by rw [htl]; simp only [List.size_toArray]; omega
      have hst := run_storeCells_at P b (o + k * i.size) e (ss.take (m * i.size)) 0 cells.toArray w hbk hfit' hone
      simp only [Nat.add_zero] at hst
      have hW := wrote_setRow (w := w) (b := b) (c := cells.toArray) (T := e) hbk (setL cells (o + k * i.size) (ss.take (m * i.size)))
      rw [hsub]
      refine ⟨_, ?_, ?_, hW.upd ⟨_, rfl, rfl⟩⟩
      · simp [Builtin.copy_, run_underlying hu, sizeOf, typeInfo, hi, Builtin.lenOf, hmin, hf, hst, goInt, setL]
      · have hlc : (setL cells (o + k * i.size) (ss.take (m * i.size))).length = cells.length := setL_length (by rw [htl]; omega)
        refine ⟨by rw [setL_length (by rw [htl, l1]; omega), l1], l2, l3, _, hW.blk, rfl, by rw [hlc]; exact hfit, ?_⟩
        subst htk
        apply List.ext_getElem?
        intro j
        unfold setL
        simp only [List.getElem?_take, List.getElem?_drop, List.getElem?_append, List.length_append, List.length_take, htl, List.length_drop]
        generalize m * i.size = x at *
        generalize dn * i.size = y at *
        generalize dc * i.size = u at *
        generalize k * i.size = v at *
        rw [List.length_take] at htl
        grind
/-- A list of one-cell things, owned. -/
def Lv {α : Type} (T : TypeId) (f : α → Value) : Ob (Option Addr × Nat × List α) := fun w F x => (∀ i, F i ↔ fpS x.1 i) ∧ Sl w T 1 x.1 x.2.2.length x.2.1 (x.2.2.map f)
instance Frame.lv {α : Type} (T : TypeId) (f : α → Value) : Frame (Lv T f) where
  upd := fun ⟨h1, h2⟩ k hG => ⟨h1, h2.upd k (fun i hi => hG i ((h1 i).2 hi))⟩
  lt := fun ⟨h1, h2⟩ i hi => h2.lt i ((h1 i).1 hi)

/-- make: a new list, all of it the zero. -/
theorem run_mkV {P : Program} {t e : TypeId} {bytes : Nat} {α : Type} {f : α → Value} {x0 : α} (he : ElemT P t e 1 bytes [f x0]) (w : World) {n : Nat} (hb : n * bytes ≤ 140737488355328) (hn : n ≤ 1048576) (k1 k2 : IntKind) :
    ∃ w', (Instr.makeSlice t (.int k1 (n : Int)) (.int k2 (n : Int))).run P w = .ok (.slice (some ⟨w.heap.size, 0, none⟩) n n) w' ∧ Upd no w w' ∧
      Lv e f w' (fpS (some ⟨w.heap.size, 0, none⟩)) (some ⟨w.heap.size, 0, none⟩, n, List.replicate n x0) := by
  obtain ⟨w', h1, h2⟩ := run_mk he w hb (by omega) k1 k2 (f := fun x : α => [f x]) (x0 := x0) (fun _ => rfl) rfl
  rw [replicate_flat] at h2
  refine ⟨w', h1, h2.upd no, fun _ => Iff.rfl, ?_⟩
  simp only [List.length_replicate]
  exact Sl.new h2 (by simp) (by unfold maxLen; omega)
end Go.Dav
