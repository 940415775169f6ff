/- What the document's functions of threads come to. -/
import Derived.Test.YtkonlnfdmmnbgaaDoorThr11
import Derived.Test.YtkonlnfdmmnbgaaDoorRec
import Derived.Test.YtkonlnfdmmnbgaaDoorLoc
set_option linter.unusedVariables false
set_option linter.unusedSimpArgs false
set_option linter.unusedSectionVars false
namespace Go.Dav
open Go.Proofs
abbrev TD := Int × Th
def recT (d : TD) : List Value := [.int .i64 d.1, .int .i64 d.2.1, .int .u64 (mi d.2.2.1), .int .i64 d.2.2.2.1, .bool d.2.2.2.2.1, .bool d.2.2.2.2.2.1, .int .i64 d.2.2.2.2.2.2]
theorem recT_len (d : TD) : (recT d).length = 7 := rfl
theorem recT_one (d : TD) : ∀ u ∈ recT d, u.oneCell' = true := by simp [recT, Value.oneCell']
theorem elT : ElemT Tryd.prog 47 46 7 48 (recT (0, (0, 0, 0, false, false, 0))) := ⟨by kernel_rfl, by kernel_rfl, rfl, by omega⟩

/-! ### The document's list -/
def dl : Nat → TL → List TD
  | _, [] => []
  | k, none :: S => dl (k + 1) S
  | k, some t :: S => (((k + 1 : Nat) : Int), t) :: dl (k + 1) S
theorem dl_app : ∀ (A B : TL) (k : Nat), dl k (A ++ B) = dl k A ++ dl (k + A.length) B
  | [], B, k => by simp [dl]
  | none :: A, B, k => by
    have := dl_app A B (k + 1)
    simp only [List.cons_append, dl, this, List.length_cons]
    rw [show k + 1 + A.length = k + (A.length + 1) by omega]
  | some t :: A, B, k => by
    have := dl_app A B (k + 1)
    simp only [List.cons_append, dl, this, List.length_cons]
    rw [show k + 1 + A.length = k + (A.length + 1) by omega]
theorem dl_le : ∀ (S : TL) (k : Nat), (dl k S).length ≤ S.length
  | [], k => by simp [dl]
  | none :: S, k => by have := dl_le S (k + 1); simp [dl]; omega
  | some t :: S, k => by have := dl_le S (k + 1); simp [dl]; omega
theorem dl_ix : ∀ (S : TL) (k j : Nat), j < (dl k S).length → ∃ i t, S[i]? = some (some t) ∧ (dl k (S.take i)).length = j ∧ (dl k S)[j]? = some (((k + i + 1 : Nat) : Int), t)
  | [], k, j, h => by simp [dl] at h
  | none :: S, k, j, h => by
    obtain ⟨i, t, h1, h2, h3⟩ := dl_ix S (k + 1) j (by simpa [dl] using h)
    exact ⟨i + 1, t, by simpa using h1, by simpa [dl] using h2, by simp only [dl]; rw [h3, show k + 1 + i + 1 = k + (i + 1) + 1 by omega]⟩
  | some t :: S, k, 0, h => ⟨0, t, by simp, by simp [dl], by simp [dl]⟩
  | some t :: S, k, j + 1, h => by
    obtain ⟨i, t', h1, h2, h3⟩ := dl_ix S (k + 1) j (by simpa [dl] using h)
    exact ⟨i + 1, t', by simpa using h1, by simpa [dl] using h2, by simp only [dl, List.getElem?_cons_succ]; rw [h3, show k + 1 + i + 1 = k + (i + 1) + 1 by omega]⟩
def pos (S : TL) (i : Nat) : Nat := (dl 0 (S.take i)).length
section
variable {S : TL} {i : Nat} {t : Th}
theorem S_split (hi : i < S.length) : S = S.take i ++ S[i] :: S.drop (i + 1) := by simp
theorem set_split (hi : i < S.length) (v : Option Th) : S.set i v = S.take i ++ v :: S.drop (i + 1) := List.set_eq_take_append_cons_drop.trans (by rw [if_pos hi])
theorem take_len_min (hi : i < S.length) : (S.take i).length = i := by simp; omega
theorem dl_some (hi : i < S.length) (h : S[i] = some t) : dl 0 S = dl 0 (S.take i) ++ (((i + 1 : Nat) : Int), t) :: dl (i + 1) (S.drop (i + 1)) := by
  conv => lhs; rw [S_split hi, h, dl_app, take_len_min hi]
  simp [dl]
theorem dl_none (hi : i < S.length) (h : S[i] = none) : dl 0 S = dl 0 (S.take i) ++ dl (i + 1) (S.drop (i + 1)) := by
  conv => lhs; rw [S_split hi, h, dl_app, take_len_min hi]
  simp [dl]
theorem dl_setsome (hi : i < S.length) : dl 0 (S.set i (some t)) = dl 0 (S.take i) ++ (((i + 1 : Nat) : Int), t) :: dl (i + 1) (S.drop (i + 1)) := by
  rw [set_split hi, dl_app, take_len_min hi]
  simp [dl]
theorem dl_setnone (hi : i < S.length) : dl 0 (S.set i none) = dl 0 (S.take i) ++ dl (i + 1) (S.drop (i + 1)) := by
  rw [set_split hi, dl_app, take_len_min hi]
  simp [dl]
theorem pos_lt (hi : i < S.length) (h : S[i] = some t) : pos S i < (dl 0 S).length := by rw [dl_some hi h]; unfold pos; simp
theorem pos_at (hi : i < S.length) (h : S[i] = some t) : (dl 0 S)[pos S i]'(pos_lt hi h) = (((i + 1 : Nat) : Int), t) := by
  have : (dl 0 S)[pos S i]? = some (((i + 1 : Nat) : Int), t) := by rw [dl_some hi h]; unfold pos; simp
  rw [List.getElem?_eq_getElem (pos_lt hi h)] at this
  exact Option.some.inj this
theorem pos_set (hi : i < S.length) (h : S[i] = some t) (t' : Th) : dl 0 (S.set i (some t')) = (dl 0 S).set (pos S i) (((i + 1 : Nat) : Int), t') := by
  rw [dl_setsome hi, dl_some hi h]
  unfold pos
  simp
theorem pos_del (hi : i < S.length) (h : S[i] = some t) : dl 0 (S.set i none) = (dl 0 S).take (pos S i) ++ (dl 0 S).drop (pos S i + 1) := by
  rw [dl_setnone hi, dl_some hi h]
  unfold pos
  simp
theorem pos_ins (hi : i < S.length) (h : S[i] = none) : dl 0 (S.set i (some t)) = (dl 0 S).take (pos S i) ++ [(((i + 1 : Nat) : Int), t)] ++ (dl 0 S).drop (pos S i) := by
  rw [dl_setsome hi, dl_none hi h]
  unfold pos
  simp
theorem at_of {j : Nat} (hj : j < (dl 0 S).length) : ∃ i t, ∃ hi : i < S.length, S[i] = some t ∧ pos S i = j ∧ (dl 0 S)[j] = (((i + 1 : Nat) : Int), t) := by
  obtain ⟨i, t, h1, h2, h3⟩ := dl_ix S 0 j hj
  obtain ⟨hi, h4⟩ := List.getElem?_eq_some_iff.1 h1
  refine ⟨i, t, hi, h4, h2, ?_⟩
  rw [List.getElem?_eq_getElem hj] at h3
  rw [Option.some.inj h3]
  simp
theorem sAt_of (hi : i < S.length) : sAt S ((i : Int) + 1) = S[i] := by
  have e1 : ((i : Int) + 1).toNat - 1 = i := by omega
  rw [sAt, if_pos (by omega), e1, List.getD_eq_getElem?_getD, List.getElem?_eq_getElem hi]
  rfl
theorem sAt_cases (S : TL) (n : Int) : sAt S n = none ∨ ∃ i t, ∃ hi : i < S.length, n = (i : Int) + 1 ∧ S[i] = some t ∧ sAt S n = some t := by
  by_cases h1 : 1 ≤ n ∧ n.toNat - 1 < S.length
  · have hn : n = ((n.toNat - 1 : Nat) : Int) + 1 := by omega
    cases hq : S[n.toNat - 1]'h1.2 with
    | none => left; rw [hn, sAt_of h1.2]; exact hq
    | some t => exact .inr ⟨n.toNat - 1, t, h1.2, hn, hq, by rw [hn, sAt_of h1.2]; exact hq⟩
  · left
    unfold sAt
    split
    · rw [List.getD_eq_getElem?_getD, List.getElem?_eq_none (by omega)]; rfl
    · rfl
end
theorem LocR.more {α : Type} {f : α → List Value} {sz : Nat} {W w : World} {T : TypeId} {p : Option Addr} {c : Nat} {l : List α} {P : Program} {t : TypeId} {bytes : Nat} {z : List Value} (h : LocR f sz W w T p c l) (he : ElemT P t T sz bytes z) (hf : ∀ x, (f x).length = sz) (h1 : ∀ x, ∀ u ∈ f x, u.oneCell' = true)
    {q : Option Addr} {m : List α} {d : Nat} (hq : Cells w q (m.flatMap f)) (hqn : q = none → d = 0) (hb : (l.length + m.length) * bytes ≤ 140737488355328) (hl : l.length + m.length ≤ 1048576) (ty : TypeId) :
    ∃ p' c' w2, (Builtin.append_ #[t, t] ty #[.slice p l.length c, .slice q m.length d]).run P w = .ok (.slice p' (l ++ m).length c') w2 ∧ LocR f sz W w2 T p' c' (l ++ m) := by
  obtain ⟨p', n', c', w2, hr, hn, hS, hU, hF⟩ := run_append he h.S hq (m := m.length) (d := d) (flat_len hf m) (fun u hu => by obtain ⟨x, _, hx⟩ := List.mem_flatMap.1 hu; exact h1 x u hx) hqn hb (by omega) ty
  subst hn
  refine ⟨p', c', w2, by rw [List.length_append]; exact hr, h.U.trans hU (fun i hi hf => absurd (h.F i hf) (by omega)), by rw [List.length_append, List.flatMap_append]; exact hS, fun i hi => ?_⟩
  rcases hF i hi with k | k
  · exact h.F i k
  · exact Nat.le_trans h.U.size k

/-! ### The document's table -/
abbrev RlO (b : Nat) : Ob ((Int × List TD) × Option Addr × Nat) := Hd b 49 46 7 (fun x p c => [.int .i64 x.1, .slice p x.2.length c]) (fun x => x.2.length) (fun x => x.2.flatMap recT)
def RtO (b : Nat) : Ob TX := fun w F x => ∃ y, RlO b w F ((x.1, dl 0 x.2), y) ∧ x.2.length = 32
instance Frame.rt (b : Nat) : Frame (RtO b) where
  upd := fun ⟨y, h, r⟩ k hG => ⟨y, (Frame.hd ..).upd h k hG, r⟩
  lt := fun ⟨_, h, _⟩ => (Frame.hd ..).lt h
section
variable {b : Nat} {w : World} {F : Fp} {x : TX}
/-- The table: its block, one of its records, and a part of one that is written. -/
theorem RtO.blk (h : RtO b w F x) : ∃ p c, Blk w b [.int .i64 x.1, .slice p (dl 0 x.2).length c] 49 := by
  obtain ⟨y, h, _⟩ := h
  exact ⟨y.1, y.2, h.blk⟩
theorem RtO.at (h : RtO b w F x) {i : Nat} {t : Th} (hi : i < x.2.length) (hs : x.2[i] = some t) : ∃ a c, Blk w b [.int .i64 x.1, .slice (some a) (dl 0 x.2).length c] 49 ∧
    (∀ (j : Nat) v, (recT (((i + 1 : Nat) : Int), t))[j]? = some v → w.cell? ((a.add (pos x.2 i * 7)).add j) = some v) ∧
    ∀ {j : Nat} {v : Value} {t' : Th} (_ : j + 1 ≤ 7) (_ : recT (((i + 1 : Nat) : Int), t') = setL (recT (((i + 1 : Nat) : Int), t)) j [v]) {K : World → Prop}, (∀ w', Turn (RtO b) w w' F (x.1, x.2.set i (some t')) → K w') → Wr w ((a.add (pos x.2 i * 7)).add j) [v] K := by
  obtain ⟨⟨y1, y2⟩, h, hl⟩ := h
  have hp := pos_lt hi hs
  obtain ⟨a, ha, hc⟩ := h.sl.cells.atk recT_len (by decide) (l := dl 0 x.2) hp
  simp only at ha
  subst ha
  rw [pos_at hi hs] at hc
  refine ⟨a, y2, h.blk, hc, fun {j v t'} hj ht {K} hK => ?_⟩
  rw [Addr.add_add]
  have hS := h.sl
  simp only at hS
  refine hS.wr (o := pos x.2 i * 7 + j) (by simp; omega) (fun w1 hS1 hU => hK w1 ?_)
  rw [setL_flat recT_len (x := (((i + 1 : Nat) : Int), t')) hp (by simpa using hj) (by rw [pos_at hi hs]; exact ht)] at hS1
  obtain ⟨F', q1, q2, q3⟩ := h.elems (w' := w1) (s' := (x.1, (dl 0 x.2).set (pos x.2 i) (((i + 1 : Nat) : Int), t'))) (by simp only [List.length_set]; exact hS1) hU (by simp only [List.length_set])
  refine ⟨F', ⟨(some a, y2), ?_, by simpa using hl⟩, q2, q3⟩
  simp only
  rw [pos_set hi hs]
  exact q1

theorem rfind_ok (h : RtO b w F x) (n : Int) : Calls Tryd.prog 14 #[.pointer (some ⟨b, 0, none⟩), .int .i64 n] w fun e w' => w' = w ∧
    ((sAt x.2 n = none ∧ e = .returned (.int .i64 (-1))) ∨ ∃ (i : Nat) (t : Th) (hi : i < x.2.length), n = (i : Int) + 1 ∧ x.2[i] = some t ∧ sAt x.2 n = some t ∧ e = .returned (.int .i64 (pos x.2 i : Int))) := by
  refine u14 ?_
  rw [t14]
  obtain ⟨p, c, hB⟩ := h.blk
  have hl : x.2.length = 32 := by obtain ⟨_, _, hl⟩ := h; exact hl
  have hd := dl_le x.2 0
  refine ⟨WP_loop okProg (M := M14) (σ := Nat) (fun j => e14_1 (some ⟨b, 0, none⟩) n (j : Int)) (fun j w' => j ≤ (dl 0 x.2).length ∧ (∀ k (hk : k < (dl 0 x.2).length), k < j → ((dl 0 x.2)[k]).1 ≠ n) ∧ w' = w) (fun j _ => (dl 0 x.2).length - j) 0 ⟨rfl, rfl, rfl, trivial⟩ ⟨by omega, fun k _ h => by omega, rfl⟩ ?_⟩
  rintro j w1 ⟨j1, j2, rfl⟩
  rw [t14_1]
  refine ⟨_, rfl, _, _, _, hB.cell rfl, fun g => ?_, fun g => ?_⟩
  · have hj : j < (dl 0 x.2).length := by simp at g; omega
    obtain ⟨i, t, hi, hs, hp, hat⟩ := at_of hj
    obtain ⟨a, c', hB', hc, _⟩ := h.at hi hs
    rw [hp] at hc
    refine ⟨_, rfl, _, _, _, hB'.cell rfl, ⟨by omega, by omega⟩, a, rfl, _, hc 0 _ rfl, fun g1 => ?_, fun g1 => ?_⟩
    · have hn : ((i + 1 : Nat) : Int) = n := eq_of_beq g1
      subst hn
      exact ⟨rfl, .inr ⟨i, t, hi, by omega, hs, by have := sAt_of hi; rw [show ((i + 1 : Nat) : Int) = (i : Int) + 1 by omega, this]; exact hs, by rw [hp]⟩⟩
    · refine ⟨j + 1, ⟨rfl, rfl, by rw [w64 (by omega)]; rfl, trivial⟩, ⟨by omega, fun k hk hkj => ?_, rfl⟩, by omega⟩
      by_cases hkj' : k = j
      · subst hkj'; rw [hat]; simpa using g1
      · exact j2 k hk (by omega)
  · have : j = (dl 0 x.2).length := by simp at g; omega
    subst this
    refine ⟨rfl, ?_⟩
    rcases sAt_cases x.2 n with h0 | ⟨i, t, hi, hn, hs, h0⟩
    · exact .inl ⟨h0, rfl⟩
    · have := j2 _ (pos_lt hi hs) (pos_lt hi hs)
      rw [pos_at hi hs] at this
      exact absurd (by simp only; omega) this

theorem raim_ok (h : RtO b w F x) (n : Int) (m : BV) : Calls Tryd.prog 25 #[.pointer (some ⟨b, 0, none⟩), .int .i64 n, .int .u64 (mi m)] w fun e w' => e = .returned (.int .i64 (aiE x n m)) ∧ Turn (RtO b) w w' F (aiS x n m) := by
  refine u25 ?_
  rw [t25]
  obtain ⟨p, c, hB⟩ := h.blk
  refine ⟨(rfind_ok h n).mono ?_⟩
  rintro e w1 ⟨rfl, ⟨k1, rfl⟩ | ⟨i, t, hi, rfl, hs, k1, rfl⟩⟩
  · simp only [aiE, aiS, k1]
    exact ⟨_, rfl, fun _ => ⟨by first | rfl | trivial, Turn.same h⟩, fun g => by simp at g⟩
  · simp only [aiE, aiS, k1]
    refine ⟨_, rfl, fun g => absurd (of_decide_eq_true g) (by omega), fun _ => ⟨_, rfl, _, hB.cell rfl, ⟨(right_ok x.1 m w1).mono ?_⟩⟩⟩
    rintro e w2 ⟨rfl, hU⟩
    have h2 : RtO b w2 F x := (Frame.rt b).upd h hU (fun _ _ h => h)
    refine ⟨_, rfl, fun g => ?_, fun g => ?_⟩
    · have g : rightR x.1 m = false := by simpa using g
      simp only [g]
      exact ⟨rfl, F, h2, hU.none, fun _ h => .inl h⟩
    · have g : rightR x.1 m = true := by simpa using g
      simp only [g]
      obtain ⟨a, c', hB', hc, hw⟩ := h2.at hi hs
      have hp := pos_lt hi hs
      have e1 : ((i : Int) + 1).toNat - 1 = i := by omega
      refine ⟨_, rfl, _, _, _, hB'.cell rfl, ⟨by omega, by omega⟩, a, rfl, hw (t' := (t.1, m, t.2.2)) (by omega) rfl fun w3 hT => ⟨rfl, ?_⟩⟩
      rw [e1]
      exact Turn.next h2 hU.none (fun _ h => .inl h) hT
theorem rplace_ok (h : RtO b w F x) (n cpu : Int) (f : Bool) : Calls Tryd.prog 26 #[.pointer (some ⟨b, 0, none⟩), .int .i64 n, .int .i64 cpu, .bool f] w fun e w' => e = .returned (.int .i64 (plE x n cpu)) ∧ Turn (RtO b) w w' F (plS x n cpu f) := by
  refine u26 ?_
  rw [t26]
  obtain ⟨p, c, hB⟩ := h.blk
  refine ⟨(rfind_ok h n).mono ?_⟩
  rintro e w1 ⟨rfl, ⟨k1, rfl⟩ | ⟨i, t, hi, rfl, hs, k1, rfl⟩⟩
  · simp only [plE, plS, k1]
    exact ⟨_, rfl, fun _ => ⟨by first | rfl | trivial, Turn.same h⟩, fun g => by simp at g⟩
  · simp only [plE, plS, k1]
    refine ⟨_, rfl, fun g => absurd (of_decide_eq_true g) (by omega), fun _ => ⟨fun g => ⟨_, rfl, _, hB.cell rfl, fun g2 => ?_, fun g2 => ?_⟩, fun g => ?_⟩⟩
    · rw [if_neg (by simp at g g2; omega), if_neg (by simp at g g2; omega)]
      exact ⟨rfl, Turn.same h⟩
    · rw [if_pos (by simp at g g2; omega), if_pos (by simp at g g2; omega)]
      obtain ⟨a, c', hB', hc, hw⟩ := h.at hi hs
      have hp := pos_lt hi hs
      have e1 : ((i : Int) + 1).toNat - 1 = i := by omega
      refine ⟨_, rfl, _, _, _, hB'.cell rfl, ⟨by omega, by omega⟩, a, rfl, hw (t' := (t.1, t.2.1, cpu, t.2.2.2)) (by omega) rfl fun w3 hT => ?_⟩
      obtain ⟨F3, q1, q2, q3⟩ := hT
      have hi3 : i < (x.2.set i (some (t.1, t.2.1, cpu, t.2.2.2))).length := by simpa using hi
      have hs3 : (x.2.set i (some (t.1, t.2.1, cpu, t.2.2.2)))[i] = some (t.1, t.2.1, cpu, t.2.2.2) := by simp
      obtain ⟨a3, c3, hB3, hc3, hw3⟩ := q1.at hi3 hs3
      have ep : pos (x.2.set i (some (t.1, t.2.1, cpu, t.2.2.2))) i = pos x.2 i := by unfold pos; rw [List.take_set_of_le (Nat.le_refl _)]
      have hp3 : pos x.2 i < (dl 0 (x.1, x.2.set i (some (t.1, t.2.1, cpu, t.2.2.2))).2).length := by have := pos_lt hi3 hs3; rw [ep] at this; exact this
      simp only [ep] at hw3
      refine ⟨_, rfl, _, _, _, hB3.cell rfl, ⟨by omega, by omega⟩, a3, rfl, hw3 (t' := (t.1, t.2.1, cpu, f, t.2.2.2.2)) (by omega) rfl fun w4 hT4 => ⟨rfl, ?_⟩⟩
      rw [List.set_set] at hT4
      rw [e1]
      exact Turn.next q1 q2 q3 hT4
    · rw [if_neg (by simp at g; omega), if_neg (by simp at g; omega)]
      exact ⟨rfl, Turn.same h⟩
theorem rsleep_ok (h : RtO b w F x) (n v : Int) : Calls Tryd.prog 27 #[.pointer (some ⟨b, 0, none⟩), .int .i64 n, .int .i64 v] w fun e w' => e = .returned (.int .i64 (slpE x n)) ∧ Turn (RtO b) w w' F (slpS x n v) := by
  refine u27 ?_
  rw [t27]
  refine ⟨(rfind_ok h n).mono ?_⟩
  rintro e w1 ⟨rfl, ⟨k1, rfl⟩ | ⟨i, t, hi, rfl, hs, k1, rfl⟩⟩
  · simp only [slpE, slpS, k1]
    exact ⟨_, rfl, fun _ => ⟨by first | rfl | trivial, Turn.same h⟩, fun g => by simp at g⟩
  · simp only [slpE, slpS, k1]
    obtain ⟨a, c', hB', hc, hw⟩ := h.at hi hs
    have hp := pos_lt hi hs
    have e1 : ((i : Int) + 1).toNat - 1 = i := by omega
    refine ⟨_, rfl, fun g => absurd (of_decide_eq_true g) (by omega), fun _ => ⟨_, rfl, _, _, _, hB'.cell rfl, ⟨by omega, by omega⟩, a, rfl, _, hc 5 _ rfl, fun g => ?_, fun g => ?_⟩⟩
    · rw [if_pos g, if_pos g]
      exact ⟨rfl, Turn.same h⟩
    · rw [if_neg (by rw [g]; simp), if_neg (by rw [g]; simp)]
      refine ⟨_, rfl, _, _, _, hB'.cell rfl, ⟨by omega, by omega⟩, a, rfl, hw (t' := (t.1, t.2.1, t.2.2.1, t.2.2.2.1, true, t.2.2.2.2.2)) (by omega) rfl fun w3 hT => ?_⟩
      obtain ⟨F3, q1, q2, q3⟩ := hT
      generalize ht1 : (t.1, t.2.1, t.2.2.1, t.2.2.2.1, true, t.2.2.2.2.2) = t1 at q1
      have hi3 : i < (x.2.set i (some t1)).length := by simpa using hi
      have hs3 : (x.2.set i (some t1))[i] = some t1 := by simp
      obtain ⟨a3, c3, hB3, hc3, hw3⟩ := q1.at hi3 hs3
      have ep : pos (x.2.set i (some t1)) i = pos x.2 i := by unfold pos; rw [List.take_set_of_le (Nat.le_refl _)]
      have hp3 : pos x.2 i < (dl 0 (x.1, x.2.set i (some t1)).2).length := by have := pos_lt hi3 hs3; rw [ep] at this; exact this
      simp only [ep] at hw3
      refine ⟨_, rfl, _, _, _, hB3.cell rfl, ⟨by omega, by omega⟩, a3, rfl, hw3 (t' := (t.1, t.2.1, t.2.2.1, t.2.2.2.1, true, v)) (by omega) (by rw [← ht1]; rfl) fun w4 hT4 => ⟨rfl, ?_⟩⟩
      rw [List.set_set] at hT4
      rw [e1]
      exact Turn.next q1 q2 q3 hT4
theorem rwake_ok (h : RtO b w F x) (n : Int) : Calls Tryd.prog 28 #[.pointer (some ⟨b, 0, none⟩), .int .i64 n] w fun e w' => e = .returned (.tuple #[.int .i64 (waE x n).1, .int .i64 (waE x n).2]) ∧ Turn (RtO b) w w' F (waS x n) := by
  refine u28 ?_
  rw [t28]
  refine ⟨(rfind_ok h n).mono ?_⟩
  rintro e w1 ⟨rfl, ⟨k1, rfl⟩ | ⟨i, t, hi, rfl, hs, k1, rfl⟩⟩
  · simp only [waE, waS, k1]
    exact ⟨_, rfl, fun _ => ⟨by first | rfl | trivial, Turn.same h⟩, fun g => by simp at g⟩
  · simp only [waE, waS, k1]
    obtain ⟨a, c', hB', hc, hw⟩ := h.at hi hs
    have hp := pos_lt hi hs
    have e1 : ((i : Int) + 1).toNat - 1 = i := by omega
    refine ⟨_, rfl, fun g => absurd (of_decide_eq_true g) (by omega), fun _ => ⟨_, rfl, _, _, _, hB'.cell rfl, ⟨by omega, by omega⟩, a, rfl, _, hc 5 _ rfl, fun g => ?_, fun g => ?_⟩⟩
    · have g : t.2.2.2.2.1 = false := by simpa using g
      rw [if_neg (by rw [g]; simp), if_neg (by rw [g]; simp)]
      exact ⟨rfl, Turn.same h⟩
    · have g : t.2.2.2.2.1 = true := by simpa using g
      rw [if_pos g, if_pos g]
      refine ⟨_, rfl, _, _, _, hB'.cell rfl, ⟨by omega, by omega⟩, a, rfl, _, hc 6 _ rfl, _, rfl, _, _, _, hB'.cell rfl, ⟨by omega, by omega⟩, a, rfl, hw (t' := (t.1, t.2.1, t.2.2.1, t.2.2.2.1, false, t.2.2.2.2.2)) (by omega) rfl fun w3 hT => ?_⟩
      obtain ⟨F3, q1, q2, q3⟩ := hT
      generalize ht1 : (t.1, t.2.1, t.2.2.1, t.2.2.2.1, false, t.2.2.2.2.2) = t1 at q1
      have hi3 : i < (x.2.set i (some t1)).length := by simpa using hi
      have hs3 : (x.2.set i (some t1))[i] = some t1 := by simp
      obtain ⟨a3, c3, hB3, hc3, hw3⟩ := q1.at hi3 hs3
      have ep : pos (x.2.set i (some t1)) i = pos x.2 i := by unfold pos; rw [List.take_set_of_le (Nat.le_refl _)]
      have hp3 : pos x.2 i < (dl 0 (x.1, x.2.set i (some t1)).2).length := by have := pos_lt hi3 hs3; rw [ep] at this; exact this
      simp only [ep] at hw3
      refine ⟨_, rfl, _, _, _, hB3.cell rfl, ⟨by omega, by omega⟩, a3, rfl, hw3 (t' := (t.1, t.2.1, t.2.2.1, t.2.2.2.1, false, 0)) (by omega) (by rw [← ht1]; rfl) fun w4 hT4 => ⟨rfl, ?_⟩⟩
      rw [List.set_set] at hT4
      rw [e1]
      exact Turn.next q1 q2 q3 hT4

/-! ### The list itself -/
theorem dl_ids : ∀ (S : TL) (k : Nat), (dl k S).map (·.1) = ((List.range S.length).filter (fun i => (okOf S).getD i false)).map (fun (i : Nat) => ((k + i + 1 : Nat) : Int))
  | [], k => by simp [dl]
  | none :: S, k => by
    have := dl_ids S (k + 1)
    simp only [dl, this, List.length_cons, List.range_succ_eq_map, List.filter_cons, okOf, List.map_cons, Option.isSome_none, List.getD_cons_zero, Bool.false_eq_true, if_false, List.filter_map, List.map_map]
    congr 1
    funext i
    simp only [Function.comp]
    omega
  | some t :: S, k => by
    have := dl_ids S (k + 1)
    simp only [dl, List.map_cons, this, List.length_cons, List.range_succ_eq_map, List.filter_cons, okOf, Option.isSome_some, List.getD_cons_zero, if_true, List.filter_map, List.map_map]
    congr 1
    · congr 1
      funext i
      simp only [Function.comp]
      omega
theorem dl_tlE (x : TX) : (dl 0 x.2).map (·.1) = tlE x := by
  rw [dl_ids, tlE, outL]
  congr 1
  funext i
  omega
theorem rtlist_ok (h : RtO b w F x) : Calls Tryd.prog 12 #[.pointer (some ⟨b, 0, none⟩)] w fun e w' => ∃ p c, e = .returned (.slice p (tlE x).length c) ∧ Loc w w' 3 p c (tlE x) := by
  rw [← dl_tlE]
  have hl : x.2.length = 32 := by obtain ⟨_, _, hl⟩ := h; exact hl
  have hd := dl_le x.2 0
  refine u12 ?_
  rw [t12]
  refine ⟨WP_loop okProg (M := M12) (σ := Nat × Option Addr × Nat) (fun s => e12_1 (some ⟨b, 0, none⟩) s.2.1 (((dl 0 x.2).take s.1).map (·.1)).length s.2.2 (s.1 : Int))
    (fun s w' => s.1 ≤ (dl 0 x.2).length ∧ Loc w w' 3 s.2.1 s.2.2 (((dl 0 x.2).take s.1).map (·.1))) (fun s _ => (dl 0 x.2).length - s.1) (0, none, 0) ⟨rfl, rfl, rfl, trivial⟩ ⟨by simp, Loc.nil (Upd.refl _ _) _⟩ ?_⟩
  rintro ⟨j, p, c⟩ w1 ⟨j1, hL⟩
  simp only at j1 hL ⊢
  have h1 : RtO b w1 F x := (Frame.rt b).upd h hL.U (fun _ _ h => h)
  obtain ⟨p1, c1, hB⟩ := h1.blk
  rw [t12_1]
  refine ⟨_, rfl, _, _, _, hB.cell rfl, fun g => ?_, fun g => ?_⟩
  · have hj : j < (dl 0 x.2).length := by simp at g; omega
    obtain ⟨i, t, hi, hs, hp, hat⟩ := at_of hj
    obtain ⟨a, c', hB', hc, _⟩ := h1.at hi hs
    rw [hp] at hc
    have e1 : ((dl 0 x.2).take (j + 1)).map (·.1) = ((dl 0 x.2).take j).map (·.1) ++ [((i + 1 : Nat) : Int)] := by
      rw [List.take_succ_eq_append_getElem hj, List.map_append, hat]; rfl
    refine ⟨_, rfl, _, _, _, hB'.cell rfl, ⟨by omega, by omega⟩, a, rfl, _, hc 0 _ rfl, ⟨fun w2 hN => ?_⟩⟩
    obtain ⟨p', c2, w3, hr, hL'⟩ := hL.push elI (by simp; omega) hN 36
    exact ⟨p', _, c2, w3, hr, (j + 1, p', c2), ⟨rfl, by rw [e1]; rfl, by rw [w64 (by omega)]; rfl, trivial⟩, ⟨by simp only; omega, by rw [e1]; exact hL'⟩, by simp only; omega⟩
  · have : j = (dl 0 x.2).length := by simp at g; omega
    subst this
    rw [List.take_length] at hL ⊢
    exact ⟨p, c, rfl, hL⟩

/-- The whole list is another one. -/
theorem RtO.put (h : RtO b w F x) {w1 : World} {S' : TL} {p' : Option Addr} {c' : Nat} (hl : S'.length = 32) (hL : LocR recT 7 w w1 46 p' c' (dl 0 S')) {K : World → Prop} (hK : ∀ w', Turn (RtO b) w w' F (x.1, S') → K w') :
    Wr w1 ((⟨b, 0, none⟩ : Addr).add 1) [.slice p' (dl 0 S').length c'] K := by
  obtain ⟨y, h, _⟩ := h
  have hB : Blk w1 b [.int .i64 x.1, .slice y.1 (dl 0 x.2).length y.2] 49 := h.blk.upd hL.U (fun h => h)
  refine hB.wr (by simp) fun w2 hW => hK w2 ?_
  obtain ⟨F', q1, q2, q3⟩ := h.put (s' := (x.1, dl 0 S')) (p' := p') (c' := c') hL.S hL.U.none (fun i hi => .inr (hL.F i hi)) hW
  exact ⟨F', ⟨(p', c'), q1, hl⟩, q2, q3⟩
theorem cells_part (h : RtO b w F x) : ∃ p c, Blk w b [.int .i64 x.1, .slice p (dl 0 x.2).length c] 49 ∧ (dl 0 x.2).length ≤ c ∧ (p = none → c = 0) ∧
    ∀ k, k ≤ (dl 0 x.2).length → Cells w (subA p c 0 7) (((dl 0 x.2).take k).flatMap recT) ∧ Cells w (subA p c k 7) (((dl 0 x.2).drop k).flatMap recT) ∧ (subA p c k 7 = none → c - k = 0) := by
  obtain ⟨⟨p, c⟩, h, _⟩ := h
  have hS := h.sl
  simp only at hS
  refine ⟨p, c, h.blk, hS.2.1, fun e => by subst e; exact hS.2.2.2.2, fun k hk => ?_⟩
  have e1 : ((dl 0 x.2).flatMap recT).take (k * 7) = ((dl 0 x.2).take k).flatMap recT := by
    conv => lhs; rw [← List.take_append_drop k (dl 0 x.2), List.flatMap_append]
    rw [List.take_append_of_le_length (by rw [flat_len recT_len]; simp; omega), List.take_of_length_le (by rw [flat_len recT_len]; simp; omega)]
  have e2 : ((dl 0 x.2).flatMap recT).drop (k * 7) = ((dl 0 x.2).drop k).flatMap recT := by
    conv => lhs; rw [← List.take_append_drop k (dl 0 x.2), List.flatMap_append]
    rw [List.drop_append, List.drop_of_length_le (by rw [flat_len recT_len]; simp; omega), flat_len recT_len]
    simp [Nat.min_eq_left hk]
  have h1 := (hS.takeN k hk).cells
  have hS2 := hS.dropN k hk
  have h2 := hS2.cells
  rw [e1] at h1
  rw [e2] at h2
  refine ⟨by rw [subA_zero]; exact h1, h2, fun e => ?_⟩
  have := hS2.2.2.2
  rw [e] at this
  exact this.2

theorem rexit_ok (h : RtO b w F x) (n : Int) : Calls Tryd.prog 24 #[.pointer (some ⟨b, 0, none⟩), .int .i64 n] w fun e w' => e = .returned (.int .i64 (exE x n)) ∧ Turn (RtO b) w w' F (exS x n) := by
  have hl32 : x.2.length = 32 := by obtain ⟨_, _, hl⟩ := h; exact hl
  have hdl := dl_le x.2 0
  refine u24 ?_
  rw [t24]
  refine ⟨(rfind_ok h n).mono ?_⟩
  rintro e w1 ⟨rfl, ⟨k1, rfl⟩ | ⟨i, t, hi, rfl, hs, k1, rfl⟩⟩
  · simp only [exE, exS, k1]
    exact ⟨_, rfl, fun _ => ⟨by first | rfl | trivial, Turn.same h⟩, fun g => by simp at g⟩
  · simp only [exE, exS, k1]
    have hp := pos_lt hi hs
    have e1 : ((i : Int) + 1).toNat - 1 = i := by omega
    obtain ⟨p, c, hB, hnc, hpn, hpart⟩ := cells_part h
    obtain ⟨hc1, _, _⟩ := hpart (pos x.2 i) (by omega)
    have hlt : ((dl 0 x.2).take (pos x.2 i)).length = pos x.2 i := by simp; omega
    obtain ⟨p1, c1, w2, hr, hL⟩ := (LocR.nil (f := recT) (sz := 7) (Upd.refl no w1) 46).more elT recT_len recT_one hc1 (d := c) (fun e => by rw [subA_zero] at e; exact hpn e) (by simp; omega) (by simp; omega) 47
    rw [List.nil_append] at hr hL
    rw [hlt] at hr
    have h2 : RtO b w2 F x := (Frame.rt b).upd h hL.U (fun _ _ h => h)
    obtain ⟨p2, c2, hB2, hnc2, hpn2, hpart2⟩ := cells_part h2
    obtain ⟨_, hc2, hn2⟩ := hpart2 (pos x.2 i + 1) (by omega)
    obtain ⟨p3, c3, w3, hr3, hL3⟩ := hL.more elT recT_len recT_one hc2 (d := c2 - (pos x.2 i + 1)) hn2 (by simp; omega) (by simp; omega) 47
    rw [← pos_del hi hs] at hr3 hL3
    rw [hlt, List.length_drop] at hr3
    have ew : IntKind.wrap .i64 ((pos x.2 i : Int) + 1) = ((pos x.2 i + 1 : Nat) : Int) := by rw [w64 (by omega)]; omega
    rw [e1]
    refine ⟨_, rfl, fun g => absurd (of_decide_eq_true g) (by omega), fun _ => ?_⟩
    rw [ew]
    refine ⟨_, rfl, _, _, _, hB.cell rfl, ⟨by omega, by omega⟩, p1, _, c1, w2, hr, _, rfl, _, _, _, hB2.cell rfl, ⟨by omega, by omega⟩, p3, _, c3, w3, hr3, _, rfl, ?_⟩
    exact h.put (S' := x.2.set i none) (by simpa using hl32) hL3 fun w4 hT => ⟨by first | rfl | trivial, hT⟩

theorem dl_full : ∀ (S : TL) (k : Nat), (∀ v ∈ S, v.isSome = true) → (dl k S).length = S.length
  | [], k, _ => rfl
  | none :: S, k, h => by have := h none (by simp); cases this
  | some t :: S, k, h => by simp only [dl, List.length_cons, dl_full S (k + 1) (fun v hv => h v (by simp [hv]))]
theorem pos_full {S : TL} {j : Nat} (hj : j ≤ S.length) (h : ∀ k (hk : k < S.length), k < j → S[k].isSome = true) : pos S j = j := by
  unfold pos
  rw [dl_full]
  · simp; omega
  · intro v hv
    obtain ⟨k, hk, rfl⟩ := List.getElem_of_mem hv
    rw [List.getElem_take]
    exact h k _ (by simp at hk; omega)
theorem dl_lt {S : TL} {i : Nat} (hi : i < S.length) (h : S[i] = none) : (dl 0 S).length < S.length := by
  rw [dl_none hi h, List.length_append]
  have h1 := dl_le (S.take i) 0
  have h2 := dl_le (S.drop (i + 1)) (i + 1)
  simp at h1 h2
  omega
theorem ok_has {S : TL} {k : Nat} (hk : k < S.length) : hasE (okOf S) ((k : Int) + 1) = S[k].isSome := by
  rw [hasE_of, okOf, List.getD_eq_getElem?_getD, List.getElem?_map, List.getElem?_eq_getElem hk]
  rfl
theorem rspawn0 (h : RtO b w F x) {j : Nat} (hj : j < x.2.length) (hs : x.2[j] = none) (hp : pos x.2 j = j) (q : Int) (m : BV) {K : World → Prop} (hK : ∀ w', Turn (RtO b) w w' F (x.1, x.2.set j (some (q, m, 0, false, false, 0))) → K w') :
    CutD Tryd.prog M23 c23_0 (e23_0 (some ⟨b, 0, none⟩) q (mi m) ((j : Int) + 1) (j : Int)) w (k23_0 fun e w' => e = .returned (.tuple #[.int .i64 ((j : Int) + 1), .int .i64 0]) ∧ K w') := by
  have hl32 : x.2.length = 32 := by obtain ⟨_, _, hl⟩ := h; exact hl
  have hdl := dl_le x.2 0
  refine CutD.mk ?_
  rw [t23_0]
  have hjn : j ≤ (dl 0 x.2).length := by
    have : pos x.2 j ≤ (dl 0 x.2).length := by rw [dl_none hj hs]; unfold pos; simp
    omega
  obtain ⟨p, c, hB, hnc, hpn, hpart⟩ := cells_part h
  obtain ⟨hc1, _, _⟩ := hpart j hjn
  have hlt : ((dl 0 x.2).take j).length = j := by simp; omega
  obtain ⟨p1, c1, w2, hr, hL⟩ := (LocR.nil (f := recT) (sz := 7) (Upd.refl no w) 46).more elT recT_len recT_one hc1 (d := c) (fun e => by rw [subA_zero] at e; exact hpn e) (by simp; omega) (by simp; omega) 47
  rw [List.nil_append] at hr hL
  rw [hlt] at hr
  refine ⟨_, rfl, _, _, _, hB.cell rfl, ⟨by omega, by omega⟩, p1, _, c1, w2, hr, ⟨fun w3 hN => ?_⟩⟩
  obtain ⟨p2, c2, w4, hr2, hL2⟩ := hL.push elT recT_len recT_one (by rw [hlt]; omega) (by rw [hlt]; omega) (x := (((j + 1 : Nat) : Int), (q, m, 0, false, false, 0))) rfl hN 47
  rw [hlt] at hr2
  have h4 : RtO b w4 F x := (Frame.rt b).upd h hL2.U (fun _ _ h => h)
  obtain ⟨p3, c3, hB3, hnc3, hpn3, hpart3⟩ := cells_part h4
  obtain ⟨_, hc3, hn3⟩ := hpart3 j hjn
  obtain ⟨p5, c5, w5, hr5, hL5⟩ := hL2.more elT recT_len recT_one hc3 (d := c3 - j) hn3 (by simp; omega) (by simp; omega) 47
  have hins := pos_ins (t := (q, m, 0, false, false, 0)) hj hs
  rw [hp] at hins
  rw [← hins] at hr5 hL5
  rw [List.length_drop] at hr5
  refine ⟨p2, _, c2, w4, hr2, _, rfl, _, _, _, hB3.cell rfl, ⟨by omega, by omega⟩, p5, _, c5, w5, hr5, _, rfl, ?_⟩
  exact h.put (S' := x.2.set j (some (q, m, 0, false, false, 0))) (by simpa using hl32) hL5 fun w6 hT => ⟨rfl, hK _ hT⟩
theorem rspawn_ok (h : RtO b w F x) (q : Int) (m : BV) : Calls Tryd.prog 23 #[.pointer (some ⟨b, 0, none⟩), .int .i64 q, .int .u64 (mi m)] w fun e w' => e = .returned (.tuple #[.int .i64 (spE x q m).1, .int .i64 (spE x q m).2]) ∧ Turn (RtO b) w w' F (spS x q m) := by
  have hl32 : x.2.length = 32 := by obtain ⟨_, _, hl⟩ := h; exact hl
  have hdl := dl_le x.2 0
  refine u23 ?_
  rw [t23]
  obtain ⟨p, c, hB⟩ := h.blk
  refine ⟨fun g1 => ⟨fun g2 => ⟨_, rfl, _, hB.cell rfl, ⟨(right_ok x.1 m w).mono ?_⟩⟩, fun g2 => ?_⟩, fun g1 => ?_⟩
  · rintro e w1 ⟨rfl, hU⟩
    have h1 : RtO b w1 F x := (Frame.rt b).upd h hU (fun _ _ h => h)
    have hTn : ∀ {w' : World} {S' : TX}, Turn (RtO b) w1 w' F S' → Turn (RtO b) w w' F S' := fun hT => Turn.next h1 hU.none (fun _ h => .inl h) hT
    refine ⟨_, rfl, fun g => ?_, fun g => ?_⟩
    · have hn : ¬ spOk x q m := fun h => by simp [h.2.2] at g
      rw [spE, spS, if_neg hn, if_neg (fun h => hn h.1)]
      exact ⟨rfl, F, h1, hU.none, fun _ h => .inl h⟩
    · have hs : spOk x q m := ⟨by simp at g1; omega, by simp at g2; omega, by simpa using g⟩
      rw [spE, if_pos hs]
      obtain ⟨p1, c1, hB1⟩ := h1.blk
      refine ⟨_, rfl, _, _, _, hB1.cell rfl, fun g3 => ?_, fun g3 => ?_⟩
      · have hfull : ∀ k (hk : k < x.2.length), x.2[k].isSome = true := fun k hk => by
          cases hq : x.2[k] with
          | some t => rfl
          | none => have := dl_lt hk hq; simp at g3; omega
        have ht := take_no (o := okOf x.2) (fun k hk => by
          have hk' : k < x.2.length := by simpa [okOf] using hk
          rw [ok_has hk']; exact hfull k hk')
        rw [spS, if_neg (fun h => by have := h.2; rw [ht.1] at this; cases this), ht.1]
        exact ⟨rfl, F, h1, hU.none, fun _ h => .inl h⟩
      · have hnf : (dl 0 x.2).length < 32 := by simp at g3; omega
        have fin : ∀ {j : Nat} (hj : j < x.2.length), x.2[j] = none → (∀ k (hk : k < x.2.length), k < j → x.2[k].isSome = true) → CutD Tryd.prog M23 c23_0 (e23_0 (some ⟨b, 0, none⟩) q (mi m) ((j : Int) + 1) (j : Int)) w1 (k23_0 fun e w' => e = .returned (.tuple #[.int .i64 (takeE (okOf x.2)).1, .int .i64 (takeE (okOf x.2)).2]) ∧ Turn (RtO b) w w' F (spS x q m)) := by
          intro j hj hsj hall
          have ht := take_of (o := okOf x.2) (j := j) (by simpa [okOf] using hj) (fun k hk => by rw [ok_has (by omega)]; exact hall k (by omega) hk) (by rw [ok_has hj, hsj]; rfl)
          rw [spS, if_pos ⟨hs, by rw [ht.1]⟩, ht.1]
          have e1 : ((j : Int) + 1).toNat - 1 = j := by omega
          simp only [e1]
          exact rspawn0 h1 hj hsj (pos_full (by omega) hall) q m fun w' hT => hTn hT
        refine ⟨WP_loop okProg (M := M23) (σ := Nat) (fun j => e23_1 (some ⟨b, 0, none⟩) q (mi m) ((j : Int) + 1) (j : Int)) (fun j w' => j ≤ (dl 0 x.2).length ∧ (∀ k (hk : k < x.2.length), k < j → x.2[k].isSome = true) ∧ w' = w1) (fun j _ => (dl 0 x.2).length - j) 0 ⟨rfl, rfl, rfl, rfl, rfl, trivial⟩ ⟨by omega, fun k _ h => by omega, rfl⟩ ?_⟩
        rintro j w2 ⟨j1, j2, rfl⟩
        rw [t23_1]
        have hj32 : j < x.2.length := by omega
        have hpj := pos_full (S := x.2) (j := j) (by omega) j2
        refine ⟨_, rfl, _, _, _, hB1.cell rfl, fun g => ?_, fun g => ?_⟩
        · have hj : j < (dl 0 x.2).length := by simp at g; omega
          obtain ⟨i, t, hi, hsi, hpi, hat⟩ := at_of hj
          obtain ⟨a, c', hB', hc, _⟩ := h1.at hi hsi
          rw [hpi] at hc
          refine ⟨_, rfl, _, _, _, hB'.cell rfl, ⟨by omega, by omega⟩, a, rfl, _, hc 0 _ rfl, fun g1 => ?_, fun g1 => fin hj32 ?_ j2⟩
          · have hij : i = j := by have := eq_of_beq g1; omega
            subst hij
            refine ⟨i + 1, ⟨rfl, rfl, rfl, by rw [w64 (x := (i : Int) + 1 + 1) (by omega)]; rfl, by rw [w64 (x := (i : Int) + 1) (by omega)]; rfl, trivial⟩, ⟨by omega, fun k hk hki => ?_, rfl⟩, by omega⟩
            by_cases hk2 : k = i
            · subst hk2; rw [hsi]; rfl
            · exact j2 k hk (by omega)
          · cases hq : x.2[j] with
            | none => rfl
            | some t' =>
              have h5 := pos_at hj32 hq
              have h6 : (dl 0 x.2)[pos x.2 j]'(pos_lt hj32 hq) = (dl 0 x.2)[j] := by congr 1
              rw [h6, hat] at h5
              simp only [Prod.mk.injEq] at h5
              have : i = j := by have := h5.1; omega
              subst this
              simp at g1
        · have hjn : j = (dl 0 x.2).length := by simp at g; omega
          refine fin hj32 ?_ j2
          cases hq : x.2[j] with
          | none => rfl
          | some t' => have := pos_lt hj32 hq; omega
  · have hn : ¬ spOk x q m := fun h => by have := h.2.1; simp at g2; omega
    rw [spE, spS, if_neg hn, if_neg (fun h => hn h.1)]
    exact ⟨rfl, Turn.same h⟩
  · have hn : ¬ spOk x q m := fun h => by have := h.1; simp at g1; omega
    rw [spE, spS, if_neg hn, if_neg (fun h => hn h.1)]
    exact ⟨rfl, Turn.same h⟩
theorem dl_rep : ∀ (n k : Nat), dl k (List.replicate n none) = []
  | 0, _ => rfl
  | n + 1, k => by rw [List.replicate_succ, dl]; exact dl_rep n (k + 1)
theorem rtnew_ok (n : Int) (w : World) : Calls Tryd.prog 7 #[.int .i64 n] w fun e w' =>
    (¬ okC n ∧ e = .returned (.tuple #[.pointer none, .int .i64 2]) ∧ w' = w) ∨
    (okC n ∧ ∃ b F, e = .returned (.tuple #[.pointer (some ⟨b, 0, none⟩), .int .i64 0]) ∧ RtO b w' F (newT n) ∧ Upd no w w' ∧ ∀ i, F i → w.heap.size ≤ i) := by
  refine u7 ?_
  rw [t7]
  refine ⟨fun g1 => ⟨fun g2 => .inl ⟨?_, rfl, rfl⟩, fun g2 => ⟨fun w1 hN => ?_⟩⟩, fun g1 => .inl ⟨?_, rfl, rfl⟩⟩
  · unfold okC; simp at g2; omega
  · refine .inr ⟨⟨by simp at g1; omega, by simp at g2; omega⟩, w.heap.size, fun i => i = w.heap.size, rfl, ⟨(none, 0), ?_, by simp [newT]⟩, hN.upd no, fun i hi => Nat.le_of_eq hi.symm⟩
    simp only [newT, dl_rep]
    exact Hd.nil hN rfl rfl rfl
  · unfold okC; simp at g1; omega
end
end Go.Dav
