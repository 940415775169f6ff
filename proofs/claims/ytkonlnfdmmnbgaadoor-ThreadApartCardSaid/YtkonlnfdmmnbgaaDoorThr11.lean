/- What the functions of threads come to. -/
import Derived.Test.YtkonlnfdmmnbgaaDoorSlotX11
import Derived.Test.YtkonlnfdmmnbgaaDoorCt
import Derived.Test.YtkonlnfdmmnbgaaDoorMap
set_option linter.unusedVariables false
set_option linter.unusedSimpArgs false
set_option linter.unusedSectionVars false
namespace Go.Dav
open Go.Proofs
theorem mpT : MapT Tryd.prog 66 3 71 (.pointer none) := ⟨by kernel_rfl, by kernel_rfl, by kernel_rfl, by kernel_rfl⟩
abbrev Th := Int × BV × Int × Bool × Bool × Int
def thE (t : Th) : List Value := [.int .i64 t.1, .int .u64 (mi t.2.1), .int .i64 t.2.2.1, .bool t.2.2.2.1, .bool t.2.2.2.2.1, .int .i64 t.2.2.2.2.2]
abbrev TQ := List (Option (Nat × Th))
abbrev TL := List (Option Th)
def OpO : Ob (Option (Nat × Th)) := fun w F x => match x with
  | none => ∀ i, ¬ F i
  | some q => Rw q.1 40 thE w F q.2
instance Frame.op : Frame OpO where
  upd := by
    rintro w w' F G (_ | q) h k hG
    · exact h
    · exact (Frame.rw ..).upd h k hG
  lt := by
    rintro w F (_ | q) h
    · exact fun i hi => absurd hi (h i)
    · exact (Frame.rw ..).lt h
def gO (qs : TQ) (id : Int) : Option Nat := if 1 ≤ id then (qs.getD (id.toNat - 1) none).map Prod.fst else none
def sAt (S : TL) (id : Int) : Option Th := if 1 ≤ id then S.getD (id.toNat - 1) none else none
def tbE (b2 b3 : Nat) (c : Int) : List Value := [.pointer (some ⟨b2, 0, none⟩), .int .i64 c, .map (some b3)]
def fP (b : Nat) : Value := .pointer (some ⟨b, 0, none⟩)
abbrev TR := (List Bool × ((Int → Option Nat) × Nat)) × (Int × TQ)
def ThR (b b2 b3 : Nat) : Ob TR := Star (Star (SlO b2) (MapO b3 fP)) (Star (Rw b 68 (tbE b2 b3)) (Fam OpO))
instance Frame.thr (b b2 b3 : Nat) : Frame (ThR b b2 b3) := by unfold ThR; infer_instance
structure TI (x : TR) (S : TL) : Prop where
  o : x.1.1 = x.2.2.map Option.isSome
  s : x.2.2.map (Option.map Prod.snd) = S
  g : ∀ id, x.1.2.1 id = gO x.2.2 id
  len : x.2.2.length = 32
/-- A table of threads. -/
def ThO (b : Nat) : Ob (Int × TL) := fun w F x => ∃ b2 b3 y, ThR b b2 b3 w F y ∧ y.2.1 = x.1 ∧ TI y x.2
instance Frame.tho (b : Nat) : Frame (ThO b) where
  upd := fun ⟨b2, b3, y, h, r⟩ k hG => ⟨b2, b3, y, (Frame.thr b b2 b3).upd h k hG, r⟩
  lt := fun ⟨b2, b3, y, h, _⟩ => (Frame.thr b b2 b3).lt h
theorem Turn.tho {b b2 b3 : Nat} {w w' : World} {F : Fp} {y : TR} {S : TL} (h : Turn (ThR b b2 b3) w w' F y) (k : TI y S) : Turn (ThO b) w w' F (y.2.1, S) := by
  obtain ⟨F', h1, h2⟩ := h
  exact ⟨F', ⟨b2, b3, y, h1, rfl, k⟩, h2⟩
section
variable {b b2 b3 : Nat} {w : World} {F : Fp} {y : TR}
theorem ThR.slot (h : ThR b b2 b3 w F y) : ∃ F1, SlO b2 w F1 y.1.1 ∧ ∀ w' o', Turn (SlO b2) w w' F1 o' → Turn (ThR b b2 b3) w w' F ((o', y.1.2), y.2) := by
  unfold ThR at h ⊢
  obtain ⟨F1, h1, k1⟩ := h.left
  obtain ⟨F2, h2, k2⟩ := h1.left
  exact ⟨F2, h2, fun w' o' hT => k1 _ _ (k2 _ _ hT)⟩
theorem ThR.mp (h : ThR b b2 b3 w F y) : ∃ F1, MapO b3 fP w F1 y.1.2 ∧ ∀ w' g', Turn (MapO b3 fP) w w' F1 g' → Turn (ThR b b2 b3) w w' F ((y.1.1, g'), y.2) := by
  unfold ThR at h ⊢
  obtain ⟨F1, h1, k1⟩ := h.left
  obtain ⟨F2, h2, k2⟩ := h1.right
  exact ⟨F2, h2, fun w' o' hT => k1 _ _ (k2 _ _ hT)⟩
theorem ThR.blk (h : ThR b b2 b3 w F y) : Blk w b (tbE b2 b3 y.2.1) 68 := by
  unfold ThR at h
  obtain ⟨F1, h1, k1⟩ := h.right
  obtain ⟨F2, h2, k2⟩ := h1.left
  exact h2.blk
theorem ThR.fam (h : ThR b b2 b3 w F y) : ∃ F1, Fam OpO w F1 y.2.2 ∧ ∀ w' q', Turn (Fam OpO) w w' F1 q' → Turn (ThR b b2 b3) w w' F (y.1, (y.2.1, q')) := by
  unfold ThR at h ⊢
  obtain ⟨F1, h1, k1⟩ := h.right
  obtain ⟨F2, h2, k2⟩ := h1.right
  exact ⟨F2, h2, fun w' o' hT => k1 _ _ (k2 _ _ hT)⟩
end

theorem gO_set {qs : TQ} {i : Nat} (hi : i < qs.length) (v : Option (Nat × Th)) (id : Int) : gO (qs.set i v) id = if id = (i : Int) + 1 then v.map Prod.fst else gO qs id := by
  unfold gO
  by_cases h1 : 1 ≤ id
  · rw [if_pos h1, if_pos h1]
    by_cases hid : id = (i : Int) + 1
    · subst hid
      have e1 : ((i : Int) + 1).toNat - 1 = i := by omega
      rw [if_pos rfl, e1]
      simp [List.getD_eq_getElem?_getD, hi]
    · rw [if_neg hid]
      have : i ≠ id.toNat - 1 := by omega
      simp [List.getD_eq_getElem?_getD, this]
  · rw [if_neg h1, if_neg h1, if_neg (by omega)]
section
variable {o : List Bool} {g : (Int → Option Nat) × Nat} {c : Int} {qs : TQ} {S : TL}
theorem TI.at (h : TI ((o, g), (c, qs)) S) {i : Nat} (hi : i < qs.length) : S[i]? = some ((qs[i]).map Prod.snd) := by
  have := h.s
  simp only at this
  rw [← this, List.getElem?_map, List.getElem?_eq_getElem hi]
  rfl
theorem TI.slen (h : TI ((o, g), (c, qs)) S) : S.length = 32 := by have := h.s; have := h.len; simp only at *; rw [← h.s]; simpa using this
theorem TI.sat (h : TI ((o, g), (c, qs)) S) (id : Int) : (∃ i, ∃ hi : i < qs.length, id = (i : Int) + 1 ∧ sAt S id = qs[i].map Prod.snd ∧ gO qs id = qs[i].map Prod.fst) ∨ (sAt S id = none ∧ gO qs id = none ∧ hasE o id = false) := by
  have hl := h.len
  have hs := h.slen
  simp only at hl
  by_cases h1 : 1 ≤ id ∧ id ≤ 32
  · refine .inl ⟨id.toNat - 1, by omega, by omega, ?_, ?_⟩
    · have := h.at (i := id.toNat - 1) (by omega)
      rw [sAt, if_pos h1.1, List.getD_eq_getElem?_getD, this]
      rfl
    · rw [gO, if_pos h1.1, List.getD_eq_getElem?_getD, List.getElem?_eq_getElem (by omega)]
      rfl
  · refine .inr ⟨?_, ?_, ?_⟩
    · unfold sAt
      split
      · rw [List.getD_eq_getElem?_getD, List.getElem?_eq_none (by omega)]; rfl
      · rfl
    · unfold gO
      split
      · rw [List.getD_eq_getElem?_getD, List.getElem?_eq_none (by omega)]; rfl
      · rfl
    · have ho := h.o
      simp only at ho
      have : o.length = 32 := by rw [ho]; simpa using hl
      cases hh : hasE o id with
      | false => rfl
      | true => have := hasE_in hh; omega
theorem TI.has (h : TI ((o, g), (c, qs)) S) {i : Nat} (hi : i < qs.length) : hasE o ((i : Int) + 1) = qs[i].isSome := by
  have ho := h.o
  simp only at ho
  rw [hasE_of, ho, List.getD_eq_getElem?_getD, List.getElem?_map, List.getElem?_eq_getElem hi]
  rfl
theorem map_set {α β : Type} (f : α → β) (l : List α) (i : Nat) (a : α) : (l.set i a).map f = (l.map f).set i (f a) := List.map_set
theorem TI.put (h : TI ((o, g), (c, qs)) S) {i : Nat} (hi : i < qs.length) (q : Nat × Th) : TI ((o.set i true, mput g ((i : Int) + 1) q.1), (c, qs.set i (some q))) (S.set i (some q.2)) := by
  have ho := h.o
  have hs := h.s
  simp only at ho hs
  refine ⟨by simp only [map_set, ho]; rfl, by simp only [map_set, hs]; rfl, fun id => ?_, by simpa using h.len⟩
  simp only [mput]
  rw [gO_set hi]
  split
  · rfl
  · exact h.g id
theorem TI.del (h : TI ((o, g), (c, qs)) S) {i : Nat} (hi : i < qs.length) : TI ((o.set i false, mdel g ((i : Int) + 1)), (c, qs.set i none)) (S.set i none) := by
  have ho := h.o
  have hs := h.s
  simp only at ho hs
  refine ⟨by simp only [map_set, ho]; rfl, by simp only [map_set, hs]; rfl, fun id => ?_, by simpa using h.len⟩
  simp only [mdel]
  rw [gO_set hi]
  split
  · rfl
  · exact h.g id
theorem TI.upd (h : TI ((o, g), (c, qs)) S) {i : Nat} (hi : i < qs.length) {q : Nat × Th} (hq : qs[i] = some q) (t : Th) : TI ((o, g), (c, qs.set i (some (q.1, t)))) (S.set i (some t)) := by
  have ho := h.o
  have hs := h.s
  simp only at ho hs
  refine ⟨?_, by simp only [map_set, hs]; rfl, fun id => ?_, by simpa using h.len⟩
  · simp only [map_set, ho]
    apply List.ext_getElem?
    intro j
    rw [List.getElem?_set]
    by_cases hj : i = j
    · subst hj; simp [hi, hq]
    · simp [hj]
  · simp only
    rw [gO_set hi, h.g id]
    simp only
    split
    · rename_i e
      subst e
      rw [gO, if_pos (by omega)]
      have e1 : ((i : Int) + 1).toNat - 1 = i := by omega
      rw [e1, List.getD_eq_getElem?_getD, List.getElem?_eq_getElem hi, hq]
      rfl
    · rfl
end

/-! ### What the answers are -/
abbrev TX := Int × TL
def okOf (S : TL) : List Bool := S.map Option.isSome
def spOk (x : TX) (p : Int) (m : BV) : Prop := 0 ≤ p ∧ p < 8 ∧ rightR x.1 m = true
instance (x : TX) (p : Int) (m : BV) : Decidable (spOk x p m) := by unfold spOk; infer_instance
def spE (x : TX) (p : Int) (m : BV) : Int × Int := if spOk x p m then takeE (okOf x.2) else (0, 2)
def spS (x : TX) (p : Int) (m : BV) : TX := if spOk x p m ∧ (takeE (okOf x.2)).2 = 0 then (x.1, x.2.set ((takeE (okOf x.2)).1.toNat - 1) (some (p, m, 0, false, false, 0))) else x
def exE (x : TX) (id : Int) : Int := match sAt x.2 id with | some _ => 0 | none => 4
def exS (x : TX) (id : Int) : TX := match sAt x.2 id with | some _ => (x.1, x.2.set (id.toNat - 1) none) | none => x
def getE (x : TX) (id : Int) : Th × Int := match sAt x.2 id with | some t => (t, 0) | none => ((0, 0, 0, false, false, 0), 4)
def aiE (x : TX) (id : Int) (m : BV) : Int := match sAt x.2 id with | some _ => if rightR x.1 m then 0 else 2 | none => 4
def aiS (x : TX) (id : Int) (m : BV) : TX := match sAt x.2 id with | some t => if rightR x.1 m then (x.1, x.2.set (id.toNat - 1) (some (t.1, m, t.2.2))) else x | none => x
def plE (x : TX) (id c : Int) : Int := match sAt x.2 id with | some _ => if 0 ≤ c ∧ c < x.1 then 0 else 3 | none => 4
def plS (x : TX) (id c : Int) (f : Bool) : TX := match sAt x.2 id with | some t => if 0 ≤ c ∧ c < x.1 then (x.1, x.2.set (id.toNat - 1) (some (t.1, t.2.1, c, f, t.2.2.2.2))) else x | none => x
def slpE (x : TX) (id : Int) : Int := match sAt x.2 id with | some t => if t.2.2.2.2.1 then 6 else 0 | none => 4
def slpS (x : TX) (id n : Int) : TX := match sAt x.2 id with | some t => if t.2.2.2.2.1 then x else (x.1, x.2.set (id.toNat - 1) (some (t.1, t.2.1, t.2.2.1, t.2.2.2.1, true, n))) | none => x
def waE (x : TX) (id : Int) : Int × Int := match sAt x.2 id with | some t => if t.2.2.2.2.1 then (t.2.2.2.2.2, 0) else (0, 6) | none => (0, 4)
def waS (x : TX) (id : Int) : TX := match sAt x.2 id with | some t => if t.2.2.2.2.1 then (x.1, x.2.set (id.toNat - 1) (some (t.1, t.2.1, t.2.2.1, t.2.2.2.1, false, 0))) else x | none => x
def tlE (x : TX) : List Int := outL (okOf x.2) x.2.length

section
variable {b : Nat} {w : World} {F : Fp} {x : TX}
theorem fam_none {qs : TQ} {G : Fp} (h : Fam OpO w G qs) {i : Nat} (hi : i < qs.length) : Turn (Fam OpO) w w G (qs.set i none) := by
  obtain ⟨F1, h1, _, k⟩ := Fam.at h hi
  exact k w none ⟨fun _ => False, fun _ h => h, Upd.refl _ _, fun _ h => h.elim⟩
theorem fam_new {qs : TQ} {G : Fp} (h : Fam OpO w G qs) {i : Nat} (hi : i < qs.length) {w' : World} {t : Th} (hN : Newed w w' (.cells (thE t).toArray 40 (0, 0))) : Turn (Fam OpO) w w' G (qs.set i (some (w.heap.size, t))) := by
  obtain ⟨F1, h1, _, k⟩ := Fam.at h hi
  exact k w' (some (w.heap.size, t)) ⟨fun i => i = w.heap.size, Rw.new hN rfl, (hN.upd no).none, fun i hi => .inr (Nat.le_of_eq hi.symm)⟩

/-- A thread that is there. -/
structure Found (b : Nat) (w : World) (F : Fp) (x : TX) (i : Nat) (t : Th) (bi : Nat) (Fi : Fp) : Prop where
  rw : Rw bi 40 thE w Fi t
  turn : ∀ w' t', Turn (Rw bi 40 thE) w w' Fi t' → Turn (ThO b) w w' F (x.1, x.2.set i (some t'))
theorem find_ok (h : ThO b w F x) (id : Int) : Calls Tryd.prog 30 #[.pointer (some ⟨b, 0, none⟩), .int .i64 id] w fun e w' => w' = w ∧
    ((sAt x.2 id = none ∧ e = .returned (.tuple #[.pointer none, .int .i64 4])) ∨ ∃ (i : Nat) (t : Th) (bi : Nat) (Fi : Fp), id = (i : Int) + 1 ∧ sAt x.2 id = some t ∧ e = .returned (.tuple #[.pointer (some ⟨bi, 0, none⟩), .int .i64 0]) ∧ Found b w F x i t bi Fi) := by
  obtain ⟨b2, b3, ⟨⟨o, g⟩, c, qs⟩, h, hc, hI⟩ := h
  obtain ⟨x1, S⟩ := x
  simp only at hc hI ⊢
  subst hc
  refine u30 ?_
  rw [t30]
  obtain ⟨F1, hm, _⟩ := h.mp
  have hr := run_lookup mpT hm id true
  have hg := hI.g id
  simp only at hg hr
  rw [hg] at hr
  refine ⟨fun g => by simp at g, fun _ => ⟨_, rfl, _, h.blk.cell rfl, ?_⟩⟩
  rcases hI.sat id with ⟨i, hi, rfl, k1, k2⟩ | ⟨k1, k2, _⟩
  · cases hq : qs[i] with
    | none =>
      rw [hq] at k1 k2
      rw [k2] at hr
      exact ⟨_, _, hr, fun _ => ⟨rfl, .inl ⟨k1, rfl⟩⟩, fun g => by simp at g⟩
    | some q =>
      obtain ⟨bi, t⟩ := q
      rw [hq] at k1 k2
      rw [k2] at hr
      obtain ⟨G, hf, kf⟩ := h.fam
      obtain ⟨Fi, h1, _, k⟩ := Fam.at hf (i := i) hi
      simp only at h1 kf
      rw [hq] at h1
      refine ⟨_, _, hr, fun g => by simp at g, fun _ => ⟨rfl, .inr ⟨i, t, bi, Fi, rfl, k1, rfl, h1, fun w' t' hT => ?_⟩⟩⟩
      have := kf _ _ (k w' (some (bi, t')) hT)
      exact Turn.tho this (hI.upd hi hq t')
  · rw [k2] at hr
    exact ⟨_, _, hr, fun _ => ⟨rfl, .inl ⟨k1, rfl⟩⟩, fun g => by simp at g⟩
theorem findNil_ok (id : Int) (w : World) : Calls Tryd.prog 30 #[.pointer none, .int .i64 id] w fun e w' => e = .returned (.tuple #[.pointer none, .int .i64 1]) ∧ w' = w := by
  refine u30 ?_
  rw [t30]
  exact ⟨fun _ => ⟨rfl, rfl⟩, fun g => by simp at g⟩
theorem ThO.blk (h : ThO b w F x) : ∃ b2 b3, Blk w b (tbE b2 b3 x.1) 68 := by
  obtain ⟨b2, b3, y, h, hc, hI⟩ := h
  refine ⟨b2, b3, ?_⟩
  rw [← hc]
  exact h.blk
theorem tright_ok (h : ThO b w F x) (m : BV) : Calls Tryd.prog 31 #[.pointer (some ⟨b, 0, none⟩), .int .u64 (mi m)] w fun e w' => e = .returned (.bool (rightR x.1 m)) ∧ w' = w := by
  obtain ⟨b2, b3, hB⟩ := h.blk
  refine u31 ?_
  rw [t31, mi_bne0]
  refine ⟨fun g => ⟨_, rfl, _, hB.cell rfl, ⟨(mUpto_ok x.1 w).mono ?_⟩⟩, fun g => ⟨by rw [rightR, g, Bool.false_and], rfl⟩⟩
  rintro e w1 ⟨rfl, rfl⟩
  refine ⟨_, rfl, ⟨(mWithin_ok m _ w1).mono ?_⟩⟩
  rintro e w2 ⟨rfl, rfl⟩
  exact ⟨_, rfl, by rw [rightR, g, Bool.true_and], rfl⟩

/-! ### The functions -/
theorem rw_wr {bi : Nat} {Fi : Fp} {t t' : Th} (h : Rw bi 40 thE w Fi t) {k : Nat} {v : Value} (hk : k < 6) (ht : setL (thE t) k [v] = thE t') {K : World → Prop} (hK : ∀ w', Turn (Rw bi 40 thE) w w' Fi t' → K w') : Wr w ((⟨bi, 0, none⟩ : Addr).add k) [v] K :=
  h.blk.wr (by simp [thE]; omega) fun w' hW => hK w' (h.turned (s' := t') hW.U (by rw [← ht]; exact hW.blk'))
theorem rw_next {bi : Nat} {Fi : Fp} {t1 t2 : Th} {w1 w2 : World} (h : Turn (Rw bi 40 thE) w w1 Fi t1) (k : ∀ F1, Rw bi 40 thE w1 F1 t1 → Turn (Rw bi 40 thE) w1 w2 F1 t2) : Turn (Rw bi 40 thE) w w2 Fi t2 := h.trans k

theorem aim_ok (h : ThO b w F x) (n : Int) (m : BV) : Calls Tryd.prog 19 #[.pointer (some ⟨b, 0, none⟩), .int .i64 n, .int .u64 (mi m)] w fun e w' => e = .returned (.int .i64 (aiE x n m)) ∧ Turn (ThO b) w w' F (aiS x n m) := by
  refine u19 ?_
  rw [t19]
  refine ⟨(find_ok h n).mono ?_⟩
  rintro e w1 ⟨rfl, ⟨k1, rfl⟩ | ⟨i, t, bi, Fi, rfl, k1, rfl, hF⟩⟩
  · simp only [aiE, aiS, k1]
    exact ⟨_, _, rfl, fun _ => ⟨rfl, Turn.same h⟩, fun g => by simp at g⟩
  · simp only [aiE, aiS, k1]
    refine ⟨_, _, rfl, fun g => by simp at g, fun _ => ⟨(tright_ok h m).mono ?_⟩⟩
    rintro e w2 ⟨rfl, rfl⟩
    refine ⟨_, rfl, fun g => ?_, fun g => ?_⟩
    · have g : rightR x.1 m = false := by simpa using g
      simp only [g]
      exact ⟨rfl, Turn.same h⟩
    · have g : rightR x.1 m = true := by simpa using g
      simp only [g]
      refine ⟨_, rfl, rw_wr hF.rw (t' := (t.1, m, t.2.2)) (by omega) rfl fun w' hT => ⟨rfl, ?_⟩⟩
      have := hF.turn _ _ hT
      have e1 : ((i : Int) + 1).toNat - 1 = i := by omega
      rw [e1]
      exact this
theorem aimNil_ok (n : Int) (m : BV) (w : World) : Calls Tryd.prog 19 #[.pointer none, .int .i64 n, .int .u64 (mi m)] w fun e w' => e = .returned (.int .i64 1) ∧ w' = w := by
  refine u19 ?_
  rw [t19]
  refine ⟨(findNil_ok n w).mono ?_⟩
  rintro e w1 ⟨rfl, rfl⟩
  exact ⟨_, _, rfl, fun _ => ⟨rfl, rfl⟩, fun g => by simp at g⟩
theorem place_ok (h : ThO b w F x) (n c : Int) (f : Bool) : Calls Tryd.prog 20 #[.pointer (some ⟨b, 0, none⟩), .int .i64 n, .int .i64 c, .bool f] w fun e w' => e = .returned (.int .i64 (plE x n c)) ∧ Turn (ThO b) w w' F (plS x n c f) := by
  refine u20 ?_
  rw [t20]
  obtain ⟨b2, b3, hB⟩ := h.blk
  refine ⟨(find_ok h n).mono ?_⟩
  rintro e w1 ⟨rfl, ⟨k1, rfl⟩ | ⟨i, t, bi, Fi, rfl, k1, rfl, hF⟩⟩
  · simp only [plE, plS, k1]
    exact ⟨_, _, rfl, fun _ => ⟨rfl, Turn.same h⟩, fun g => by simp at g⟩
  · simp only [plE, plS, k1]
    refine ⟨_, _, rfl, fun g => by simp at g, fun _ => ⟨fun g => ⟨_, rfl, _, hB.cell rfl, fun g2 => ?_, fun g2 => ?_⟩, fun g => ?_⟩⟩
    · rw [if_neg (by simp at g g2; omega), if_neg (by simp at g g2; omega)]
      exact ⟨rfl, Turn.same h⟩
    · rw [if_pos (by simp at g g2; omega), if_pos (by simp at g g2; omega)]
      refine ⟨_, rfl, rw_wr hF.rw (t' := (t.1, t.2.1, c, t.2.2.2)) (by omega) rfl fun w2 hT => ?_⟩
      obtain ⟨F1, q1, q2, q3⟩ := hT
      refine ⟨_, rfl, rw_wr q1 (t' := (t.1, t.2.1, c, f, t.2.2.2.2)) (by omega) rfl fun w3 hT3 => ⟨rfl, ?_⟩⟩
      have := hF.turn _ _ (Turn.next q1 q2 q3 hT3)
      have e1 : ((i : Int) + 1).toNat - 1 = i := by omega
      rw [e1]
      exact this
    · rw [if_neg (by simp at g; omega), if_neg (by simp at g; omega)]
      exact ⟨rfl, Turn.same h⟩
theorem placeNil_ok (n c : Int) (f : Bool) (w : World) : Calls Tryd.prog 20 #[.pointer none, .int .i64 n, .int .i64 c, .bool f] w fun e w' => e = .returned (.int .i64 1) ∧ w' = w := by
  refine u20 ?_
  rw [t20]
  refine ⟨(findNil_ok n w).mono ?_⟩
  rintro e w1 ⟨rfl, rfl⟩
  exact ⟨_, _, rfl, fun _ => ⟨rfl, rfl⟩, fun g => by simp at g⟩
theorem sleep_ok (h : ThO b w F x) (n c : Int) : Calls Tryd.prog 21 #[.pointer (some ⟨b, 0, none⟩), .int .i64 n, .int .i64 c] w fun e w' => e = .returned (.int .i64 (slpE x n)) ∧ Turn (ThO b) w w' F (slpS x n c) := by
  refine u21 ?_
  rw [t21]
  refine ⟨(find_ok h n).mono ?_⟩
  rintro e w1 ⟨rfl, ⟨k1, rfl⟩ | ⟨i, t, bi, Fi, rfl, k1, rfl, hF⟩⟩
  · simp only [slpE, slpS, k1]
    exact ⟨_, _, rfl, fun _ => ⟨rfl, Turn.same h⟩, fun g => by simp at g⟩
  · simp only [slpE, slpS, k1]
    refine ⟨_, _, rfl, fun g => by simp at g, fun _ => ⟨_, rfl, _, hF.rw.blk.cell rfl, fun g => ?_, fun g => ?_⟩⟩
    · rw [if_pos g, if_pos g]
      exact ⟨rfl, Turn.same h⟩
    · rw [if_neg (by rw [g]; simp), if_neg (by rw [g]; simp)]
      refine ⟨_, rfl, rw_wr hF.rw (t' := (t.1, t.2.1, t.2.2.1, t.2.2.2.1, true, t.2.2.2.2.2)) (by omega) rfl fun w2 hT => ?_⟩
      obtain ⟨F1, q1, q2, q3⟩ := hT
      refine ⟨_, rfl, rw_wr q1 (t' := (t.1, t.2.1, t.2.2.1, t.2.2.2.1, true, c)) (by omega) rfl fun w3 hT3 => ⟨rfl, ?_⟩⟩
      have := hF.turn _ _ (Turn.next q1 q2 q3 hT3)
      have e1 : ((i : Int) + 1).toNat - 1 = i := by omega
      rw [e1]
      exact this
theorem sleepNil_ok (n c : Int) (w : World) : Calls Tryd.prog 21 #[.pointer none, .int .i64 n, .int .i64 c] w fun e w' => e = .returned (.int .i64 1) ∧ w' = w := by
  refine u21 ?_
  rw [t21]
  refine ⟨(findNil_ok n w).mono ?_⟩
  rintro e w1 ⟨rfl, rfl⟩
  exact ⟨_, _, rfl, fun _ => ⟨rfl, rfl⟩, fun g => by simp at g⟩
theorem wake_ok (h : ThO b w F x) (n : Int) : Calls Tryd.prog 17 #[.pointer (some ⟨b, 0, none⟩), .int .i64 n] w fun e w' => e = .returned (.tuple #[.int .i64 (waE x n).1, .int .i64 (waE x n).2]) ∧ Turn (ThO b) w w' F (waS x n) := by
  refine u17 ?_
  rw [t17]
  refine ⟨(find_ok h n).mono ?_⟩
  rintro e w1 ⟨rfl, ⟨k1, rfl⟩ | ⟨i, t, bi, Fi, rfl, k1, rfl, hF⟩⟩
  · simp only [waE, waS, k1]
    exact ⟨_, _, rfl, fun _ => ⟨rfl, Turn.same h⟩, fun g => by simp at g⟩
  · simp only [waE, waS, k1]
    refine ⟨_, _, rfl, fun g => by simp at g, fun _ => ⟨_, rfl, _, hF.rw.blk.cell rfl, fun g => ?_, fun g => ?_⟩⟩
    · have g : t.2.2.2.2.1 = false := by simpa using g
      rw [if_neg (by rw [g]; simp), if_neg (by rw [g]; simp)]
      exact ⟨rfl, Turn.same h⟩
    · have g : t.2.2.2.2.1 = true := by simpa using g
      rw [if_pos g, if_pos g]
      refine ⟨_, rfl, _, hF.rw.blk.cell rfl, _, rfl, rw_wr hF.rw (t' := (t.1, t.2.1, t.2.2.1, t.2.2.2.1, false, t.2.2.2.2.2)) (by omega) rfl fun w2 hT => ?_⟩
      obtain ⟨F1, q1, q2, q3⟩ := hT
      refine ⟨_, rfl, rw_wr q1 (t' := (t.1, t.2.1, t.2.2.1, t.2.2.2.1, false, 0)) (by omega) rfl fun w3 hT3 => ⟨rfl, ?_⟩⟩
      have := hF.turn _ _ (Turn.next q1 q2 q3 hT3)
      have e1 : ((i : Int) + 1).toNat - 1 = i := by omega
      rw [e1]
      exact this
theorem wakeNil_ok (n : Int) (w : World) : Calls Tryd.prog 17 #[.pointer none, .int .i64 n] w fun e w' => e = .returned (.tuple #[.int .i64 0, .int .i64 1]) ∧ w' = w := by
  refine u17 ?_
  rw [t17]
  refine ⟨(findNil_ok n w).mono ?_⟩
  rintro e w1 ⟨rfl, rfl⟩
  exact ⟨_, _, rfl, fun _ => ⟨rfl, rfl⟩, fun g => by simp at g⟩
def thG (t : Th) : Value := .agg (thE t).toArray
theorem get_ok (h : ThO b w F x) (n : Int) : Calls Tryd.prog 13 #[.pointer (some ⟨b, 0, none⟩), .int .i64 n] w fun e w' => e = .returned (.tuple #[.agg #[.int .i64 (getE x n).1.1, .int .u64 (mi (getE x n).1.2.1), .int .i64 (getE x n).1.2.2.1, .bool (getE x n).1.2.2.2.1, .bool (getE x n).1.2.2.2.2.1, .int .i64 (getE x n).1.2.2.2.2.2], .int .i64 (getE x n).2]) ∧ Upd no w w' := by
  refine u13 ?_
  rw [t13]
  refine ⟨fun w1 hN => ?_⟩
  have hU := hN.upd no
  have h1 : ThO b w1 F x := (Frame.tho b).upd h hU (fun _ _ h => h)
  refine ⟨(find_ok h1 n).mono ?_⟩
  have hW0 : ∀ {w2 w3 : World} {c : List Value}, Upd no w w2 → Wrote w2 w3 w.heap.size c 40 → Upd no w w3 := fun hU hW => hU.trans hW.U (fun i hi e => absurd hi (by omega))
  rintro e w2 ⟨rfl, ⟨k1, rfl⟩ | ⟨i, t, bi, Fi, rfl, k1, rfl, hF⟩⟩
  · simp only [getE, k1]
    refine ⟨_, _, rfl, fun _ => ?_, fun g => by simp at g⟩
    refine hN.blk'.wr0 (by simp) fun w3 hW => ?_
    have hB := hW.blk'
    exact ⟨_, hB.cell rfl, _, hB.cell rfl, _, hB.cell rfl, _, hB.cell rfl, _, hB.cell rfl, _, hB.cell rfl, rfl, hW0 hU hW⟩
  · simp only [getE, k1]
    have hA := hF.rw.blk
    refine ⟨_, _, rfl, fun g => by simp at g, fun _ => ⟨_, rfl, _, hA.cell rfl, _, hA.cell rfl, _, hA.cell rfl, _, hA.cell rfl, _, hA.cell rfl, _, hA.cell rfl, ?_⟩⟩
    refine hN.blk'.wr0 (by simp) fun w3 hW => ?_
    have hB := hW.blk'
    exact ⟨_, hB.cell rfl, _, hB.cell rfl, _, hB.cell rfl, _, hB.cell rfl, _, hB.cell rfl, _, hB.cell rfl, rfl, hW0 hU hW⟩
theorem getNil_ok (n : Int) (w : World) : Calls Tryd.prog 13 #[.pointer none, .int .i64 n] w fun e w' => e = .returned (.tuple #[.agg #[.int .i64 0, .int .u64 0, .int .i64 0, .bool false, .bool false, .int .i64 0], .int .i64 1]) ∧ Upd no w w' := by
  refine u13 ?_
  rw [t13]
  refine ⟨fun w1 hN => ⟨(findNil_ok n w1).mono ?_⟩⟩
  have hU := hN.upd no
  rintro e w2 ⟨rfl, rfl⟩
  refine ⟨_, _, rfl, fun _ => ?_, fun g => by simp at g⟩
  refine hN.blk'.wr0 (by simp) fun w3 hW => ?_
  have hB := hW.blk'
  exact ⟨_, hB.cell rfl, _, hB.cell rfl, _, hB.cell rfl, _, hB.cell rfl, _, hB.cell rfl, _, hB.cell rfl, rfl, hU.trans hW.U (fun i hi e => absurd hi (by omega))⟩
theorem tlist_ok (h : ThO b w F x) : Calls Tryd.prog 11 #[.pointer (some ⟨b, 0, none⟩)] w fun e w' => ∃ p c, e = .returned (.slice p (tlE x).length c) ∧ Loc w w' 3 p c (tlE x) := by
  obtain ⟨b2, b3, ⟨⟨o, g⟩, c, qs⟩, h, hc, hI⟩ := h
  refine u11 ?_
  rw [t11]
  obtain ⟨F1, hs, _⟩ := h.slot
  have ho : o = okOf x.2 := by
    have h1 := hI.o
    have h2 := hI.s
    simp only at h1 h2
    rw [h1, ← h2, okOf, List.map_map]
    congr 1
    funext v
    cases v <;> rfl
  have hl := hI.slen
  have hol : o.length = x.2.length := by rw [ho]; simp [okOf]
  simp only at hs
  have hk := slList_ok hs
  rw [hol] at hk
  rw [ho] at hk
  refine ⟨fun g => by simp at g, fun _ => ⟨_, rfl, _, by rw [add00']; exact h.blk.cell rfl, ⟨hk.mono ?_⟩⟩⟩
  rintro e w1 ⟨p, c, rfl, hL⟩
  exact ⟨_, _, _, rfl, p, c, rfl, hL⟩
theorem tlistNil_ok (w : World) : Calls Tryd.prog 11 #[.pointer none] w fun e w' => e = .returned (.slice none 0 0) ∧ w' = w := by
  refine u11 ?_
  rw [t11]
  exact ⟨fun _ => ⟨rfl, rfl⟩, fun g => by simp at g⟩

theorem TI.ok {o : List Bool} {g : (Int → Option Nat) × Nat} {c : Int} {qs : TQ} {S : TL} (hI : TI ((o, g), (c, qs)) S) : o = okOf S := by
  have h1 := hI.o
  have h2 := hI.s
  simp only at h1 h2
  rw [h1, ← h2, okOf, List.map_map]
  congr 1
  funext v
  cases v <;> rfl
theorem spawn_ok (h : ThO b w F x) (hTab : Tab w) (p : Int) (m : BV) : Calls Tryd.prog 16 #[.pointer (some ⟨b, 0, none⟩), .int .i64 p, .int .u64 (mi m)] w fun e w' => e = .returned (.tuple #[.int .i64 (spE x p m).1, .int .i64 (spE x p m).2]) ∧ Turn (ThO b) w w' F (spS x p m) := by
  refine u16 ?_
  rw [t16]
  refine ⟨fun g => by simp at g, fun _ => ⟨fun g1 => ⟨fun g2 => ⟨(tright_ok h m).mono ?_⟩, fun g2 => ?_⟩, fun g1 => ?_⟩⟩
  · rintro e w1 ⟨rfl, rfl⟩
    refine ⟨_, rfl, fun g => ?_, fun g => ?_⟩
    · have hn : ¬ spOk x p m := fun h => by simp [h.2.2] at g
      rw [spE, spS, if_neg hn, if_neg (fun h => hn h.1)]
      exact ⟨rfl, Turn.same h⟩
    · have hs : spOk x p m := ⟨by simp at g1; omega, by simp at g2; omega, by simpa using g⟩
      rw [spE, spS, if_pos hs]
      obtain ⟨x1, S⟩ := x
      obtain ⟨b2, b3, ⟨⟨o, gg⟩, c, qs⟩, hk, hc, hI⟩ := id h
      simp only at hc hI ⊢
      subst hc
      have ho := hI.ok
      have hl := hI.len
      have hsl := hI.slen
      simp only at hl
      obtain ⟨F1, hsl1, ks⟩ := hk.slot
      simp only at hsl1 ks
      refine ⟨_, rfl, _, by rw [add00']; exact hk.blk.cell rfl, ⟨(slTake_ok hTab hsl1).mono ?_⟩⟩
      rintro e w2 ⟨rfl, hT⟩
      obtain ⟨F2, q1, q2, q3⟩ := ks _ _ hT
      rcases take_cases o with ⟨j, hj, t1, t2, t3⟩ | ⟨t1, t2⟩
      · rw [if_pos (show spOk (c, S) p m ∧ (takeE (okOf S)).2 = 0 from ⟨hs, by rw [← ho, t1]⟩)]
        simp only [← ho, t1, t2] at q1 ⊢
        have hj' : j < qs.length := by rw [ho] at hj; simp [okOf] at hj; omega
        refine ⟨_, _, rfl, fun g => by simp at g, fun _ => ⟨_, rfl, _, q1.blk.cell rfl, ⟨fun w3 hN => ?_⟩⟩⟩
        obtain ⟨G, hf, kf⟩ := q1.fam
        simp only at hf kf
        have hTf := fam_new hf hj' (t := (p, m, 0, false, false, 0)) hN
        obtain ⟨F3, r1, r2, r3⟩ := kf _ _ hTf
        obtain ⟨F4, hm, km⟩ := r1.mp
        simp only at hm km
        obtain ⟨w4, hr, hT4⟩ := run_put mpT hm ((j : Int) + 1) w2.heap.size
        have hfin := km _ _ hT4
        have e1 : ((j : Int) + 1).toNat - 1 = j := by omega
        simp only [e1]
        exact ⟨w4, hr, by first | rfl | trivial, Turn.tho (Turn.next q1 q2 q3 (Turn.next r1 r2 r3 hfin)) (hI.put hj' (w2.heap.size, (p, m, 0, false, false, 0)))⟩
      · rw [if_neg (show ¬ (spOk (c, S) p m ∧ (takeE (okOf S)).2 = 0) from fun h => by have := h.2; rw [← ho, t1] at this; cases this)]
        simp only [← ho, t1, t2] at q1 ⊢
        exact ⟨_, _, rfl, fun _ => ⟨by first | rfl | trivial, Turn.tho ⟨F2, q1, q2, q3⟩ hI⟩, fun g => by simp at g⟩
  · have hn : ¬ spOk x p m := fun h => by have := h.2.1; simp at g2; omega
    rw [spE, spS, if_neg hn, if_neg (fun h => hn h.1)]
    exact ⟨rfl, Turn.same h⟩
  · have hn : ¬ spOk x p m := fun h => by have := h.1; simp at g1; omega
    rw [spE, spS, if_neg hn, if_neg (fun h => hn h.1)]
    exact ⟨rfl, Turn.same h⟩
theorem spawnNil_ok (p : Int) (m : BV) (w : World) : Calls Tryd.prog 16 #[.pointer none, .int .i64 p, .int .u64 (mi m)] w fun e w' => e = .returned (.tuple #[.int .i64 0, .int .i64 1]) ∧ w' = w := by
  refine u16 ?_
  rw [t16]
  exact ⟨fun _ => ⟨rfl, rfl⟩, fun g => by simp at g⟩
theorem exit_ok (h : ThO b w F x) (n : Int) : Calls Tryd.prog 18 #[.pointer (some ⟨b, 0, none⟩), .int .i64 n] w fun e w' => e = .returned (.int .i64 (exE x n)) ∧ Turn (ThO b) w w' F (exS x n) := by
  refine u18 ?_
  rw [t18]
  refine ⟨(find_ok h n).mono ?_⟩
  rintro e w1 ⟨rfl, ⟨k1, rfl⟩ | ⟨i, t, bi, Fi, rfl, k1, rfl, hF⟩⟩
  · simp only [exE, exS, k1]
    exact ⟨_, _, rfl, fun _ => ⟨rfl, Turn.same h⟩, fun g => by simp at g⟩
  · simp only [exE, exS, k1]
    clear hF
    obtain ⟨x1, S⟩ := x
    obtain ⟨b2, b3, ⟨⟨o, gg⟩, c, qs⟩, h, hc, hI⟩ := h
    simp only at hc hI k1 ⊢
    subst hc
    have hl := hI.len
    simp only at hl
    rcases hI.sat ((i : Int) + 1) with ⟨i', hi, hii, s1, s2⟩ | ⟨s1, _, _⟩
    · have : i' = i := by omega
      subst this
      rw [k1] at s1
      have hsome : qs[i'].isSome = true := by cases hq : qs[i'] with | none => rw [hq] at s1; cases s1 | some q => rfl
      have hhas := hI.has hi
      rw [hsome] at hhas
      obtain ⟨F1, hm, km⟩ := h.mp
      obtain ⟨w2, hr, hT⟩ := run_del mpT hm ((i' : Int) + 1) 3 0
      obtain ⟨F2, q1, q2, q3⟩ := km _ _ hT
      obtain ⟨F3, hs, ks⟩ := q1.slot
      simp only at hs ks
      refine ⟨_, _, rfl, fun g => by simp at g, fun _ => ⟨_, rfl, _, h.blk.cell rfl, w2, hr, _, rfl, _, by rw [add00']; exact q1.blk.cell rfl, ⟨(slGive_ok hs _).mono ?_⟩⟩⟩
      rintro e w3 ⟨rfl, hT3⟩
      obtain ⟨F4, r1, r2, r3⟩ := ks _ _ hT3
      obtain ⟨G, hf, kf⟩ := r1.fam
      simp only at hf kf
      have hfin := kf _ _ (fam_none hf hi)
      have e1 : ((i' : Int) + 1).toNat - 1 = i' := by omega
      have e2 : giveS o ((i' : Int) + 1) = o.set i' false := by rw [giveS, if_pos hhas, e1]
      rw [e2] at hfin r1
      rw [e1]
      exact ⟨_, rfl, by rw [giveE, if_pos hhas], Turn.tho (Turn.next q1 q2 q3 (Turn.next r1 r2 r3 hfin)) (hI.del hi)⟩
    · rw [k1] at s1; cases s1
theorem exitNil_ok (n : Int) (w : World) : Calls Tryd.prog 18 #[.pointer none, .int .i64 n] w fun e w' => e = .returned (.int .i64 1) ∧ w' = w := by
  refine u18 ?_
  rw [t18]
  refine ⟨(findNil_ok n w).mono ?_⟩
  rintro e w1 ⟨rfl, rfl⟩
  exact ⟨_, _, rfl, fun _ => ⟨rfl, rfl⟩, fun g => by simp at g⟩

def okC (n : Int) : Prop := 1 ≤ n ∧ n ≤ 64
def newT (n : Int) : TX := (n, List.replicate 32 none)
theorem TI.new (c : Int) : TI ((List.replicate 32 false, (fun _ => none, 0)), (c, List.replicate 32 none)) (List.replicate 32 none) := by
  refine ⟨by simp, by simp, fun id => ?_, by simp⟩
  simp only [gO]
  split
  · rw [List.getD_eq_getElem?_getD, List.getElem?_replicate]; split <;> rfl
  · rfl
theorem tnew_ok (n : Int) (w : World) : Calls Tryd.prog 6 #[.int .i64 n] w fun e w' =>
    (¬ okC n ∧ e = .returned (.tuple #[.pointer none, .int .i64 2]) ∧ w' = w) ∨
    (okC n ∧ ∃ b F, e = .returned (.tuple #[.pointer (some ⟨b, 0, none⟩), .int .i64 0]) ∧ ThO b w' F (newT n) ∧ Upd no w w' ∧ ∀ i, F i → w.heap.size ≤ i) := by
  refine u6 ?_
  rw [t6]
  refine ⟨fun g1 => ⟨fun g2 => .inl ⟨?_, rfl, rfl⟩, fun g2 => ?_⟩, fun g1 => .inl ⟨?_, rfl, rfl⟩⟩
  · unfold okC; simp at g2; omega
  · have g1 : ¬ n < 1 := by simpa using g1
    have g2 : ¬ 64 < n := by simpa using g2
    refine ⟨(slNew_ok 32 w).mono ?_⟩
    rintro e w1 hh
    obtain ⟨_, b2, F1, rfl, hQ, hU, hF⟩ := hh.resolve_left (fun h => absurd (by omega) h.1)
    have hM : Mine w w1 (SlO b2) (List.replicate 32 false) := Mine.new (Upd.refl _ _) hU hQ hF
    clear hU hQ hF
    refine ⟨_, _, rfl, fun g => by simp at g, fun _ => ⟨fun w2 hN2 => ⟨fun w3 hN => ?_⟩⟩⟩
    replace hM : Mine w w2 (Star (SlO b2) (MapO w1.heap.size fP)) (List.replicate 32 false, (fun _ => none, 0)) := hM.add (hN2.upd no) (MapO.new hN2) (fun i hi => Nat.le_of_eq hi.symm)
    generalize w1.heap.size = b3 at hM hN ⊢
    have hX : (Star (Rw w2.heap.size 68 (tbE b2 b3)) (Fam OpO)) w3 (fun i => i = w2.heap.size) (n, List.replicate 32 none) := ⟨_, fun _ => False, Rw.new hN rfl, Fam.rep (A := OpO) (s := none) (fun _ h => h), fun i => by simp, fun _ _ h => h⟩
    have hM3 : Mine w w3 (ThR w2.heap.size b2 b3) ((List.replicate 32 false, (fun _ => none, 0)), (n, List.replicate 32 none)) := hM.add (hN.upd no) hX (fun i hi => Nat.le_of_eq hi.symm)
    obtain ⟨F, hF1, hF2, hF3⟩ := hM3
    exact .inr ⟨⟨by omega, by omega⟩, _, F, rfl, ⟨b2, b3, _, hF1, rfl, TI.new n⟩, hF2, hF3⟩
  · unfold okC; simp at g1; omega
end
end Go.Dav
