/- What the functions of the table of interrupts come to. -/
import Derived.Test.YtbcnndaiaailgaaMsk16
import Derived.Test.YtbcnndaiaailgaaLst16
import Derived.Test.YtbcnndaiaailgaaRing
namespace Go.Dav
open Go.Proofs

/-- How many cores there are, and the core of each interrupt, or -1. -/
abbrev RtS := Int × List Int
structure RtS.ok (x : RtS) : Prop where
  len : x.2.length = 16
  le : x.1 ≤ 64
  in' : ∀ v ∈ x.2, -1 ≤ v ∧ v < 64
def rtE (x : RtS) : List Value := x.2.map (fun v => Value.int .i64 (v + 1)) ++ [.int .i64 x.1]
def RtO (b : Nat) : Ob RtS := fun w F x => Rw b 50 rtE w F x ∧ x.ok
instance Frame.rt (b : Nat) : Frame (RtO b) where
  upd := fun ⟨h, r⟩ k hG => ⟨(Frame.rw ..).upd h k hG, r⟩
  lt := fun ⟨h, _⟩ => (Frame.rw ..).lt h
abbrev QtH (b : Nat) : Ob (RtS × Option Addr × Nat) := Hd b 52 3 1 (fun (x : RtS) p c => [.int .i64 x.1, .slice p x.2.length c]) (fun x => x.2.length) (fun x => x.2.map (Value.int .i64))

def nout (n : Int) : Prop := n < 0 ∨ 16 ≤ n
instance (n : Int) : Decidable (nout n) := inferInstanceAs (Decidable (_ ∨ _))
def gt (x : RtS) (n : Int) : Int := x.2.getD n.toNat 0
def setE (x : RtS) (n c : Int) : Int := if nout n then 3 else if c < 0 ∨ x.1 ≤ c then 3 else 0
def setS (x : RtS) (n c : Int) : RtS := if setE x n c = 0 then (x.1, x.2.set n.toNat c) else x
def offE (x : RtS) (n : Int) : Int := if nout n then 3 else if gt x n < 0 then 4 else 0
def offS (x : RtS) (n : Int) : RtS := if offE x n = 0 then (x.1, x.2.set n.toNat (-1)) else x
def ofE (x : RtS) (n : Int) : Int × Bool := if nout n then (0, false) else if gt x n < 0 then (0, false) else (gt x n, true)
def onP (x : RtS) (c : Int) (i : Int) : Bool := (ofE x i).2 && (ofE x i).1 == c
def onL (x : RtS) (c : Int) : List Int := upto (onP x c) 16

theorem gt_get {x : RtS} (h : x.ok) {k : Nat} (hk : k < 16) : gt x (k : Int) = x.2[k]'(by rw [h.len]; exact hk) := by
  unfold gt
  simp [List.getD_eq_getElem?_getD, h.len, hk]
theorem gt_in {x : RtS} (h : x.ok) {k : Nat} (hk : k < 16) : -1 ≤ gt x (k : Int) ∧ gt x (k : Int) < 64 := by
  rw [gt_get h hk]
  exact h.in' _ (List.getElem_mem _)
theorem rt_cell {x : RtS} (h : x.ok) {k : Nat} (hk : k < 16) : (rtE x)[k]? = some (.int .i64 (gt x (k : Int) + 1)) := by
  rw [gt_get h hk, rtE, List.getElem?_append_left (by simp [h.len, hk])]
  simp [h.len, hk]
theorem rt_cpus {x : RtS} (h : x.ok) : (rtE x)[16]? = some (.int .i64 x.1) := by
  rw [rtE, List.getElem?_append_right (by simp [h.len])]
  simp [h.len]
theorem rt_len {x : RtS} (h : x.ok) : (rtE x).length = 17 := by simp [rtE, h.len]
theorem rt_set {x : RtS} (h : x.ok) {k : Nat} (hk : k < 16) (v : Int) : setL (rtE x) k [.int .i64 (v + 1)] = rtE (x.1, x.2.set k v) := by
  have := h.len
  unfold setL rtE
  apply List.ext_getElem?
  intro j
  simp only [List.getElem?_append, List.getElem?_take, List.getElem?_drop, List.getElem?_map, List.getElem?_set, List.length_append, List.length_take, List.length_map, List.length_cons, List.length_nil, List.length_set]
  grind
theorem ok_set {x : RtS} (h : x.ok) {k : Nat} {v : Int} (hv : -1 ≤ v ∧ v < 64) : RtS.ok (x.1, x.2.set k v) :=
  ⟨by simp [h.len], h.le, fun u hu => by
    rcases List.mem_or_eq_of_mem_set hu with hu | rfl
    · exact h.in' u hu
    · exact hv⟩

section
variable {w : World} {F : Fp} {b : Nat} {x : RtS} {y : Option Addr × Nat}

theorem rmay_ok (b : Nat) (n : Int) (w : World) : Calls Try.prog 21 #[.pointer (some ⟨b, 0, none⟩), .int .i64 n] w fun e w' => e = .returned (.int .i64 (if nout n then 3 else 0)) ∧ w' = w := by
  refine u21 ?_
  rw [t21]
  refine ⟨fun h => by simp at h, fun _ => ⟨fun h1 => ⟨fun h2 => ⟨?_, rfl⟩, fun h2 => ⟨?_, rfl⟩⟩, fun h1 => ⟨?_, rfl⟩⟩⟩
  · rw [if_pos (by simp at h2; unfold nout; omega)]
  · rw [if_neg (by simp at h1 h2; unfold nout; omega)]
  · rw [if_pos (by simp at h1; unfold nout; omega)]
theorem rmayNil_ok (n : Int) (w : World) : Calls Try.prog 21 #[.pointer none, .int .i64 n] w fun e w' => e = .returned (.int .i64 1) ∧ w' = w := by
  refine u21 ?_
  rw [t21]
  exact ⟨fun _ => ⟨rfl, rfl⟩, fun h => by simp at h⟩

theorem RtO.cell {k : Nat} (h : RtO b w F x) (hk : k < 16) : w.cell? (((⟨b, 0, none⟩ : Addr).add 0).add ((k : Int).toNat * 1)) = some (.int .i64 (gt x (k : Int) + 1)) := by
  rw [Addr.add_add, Nat.zero_add, Nat.mul_one]
  exact h.1.blk.cell (rt_cell h.2 hk)
theorem RtO.wr {k : Nat} {v : Int} (h : RtO b w F x) (hk : k < 16) (hv : -1 ≤ v ∧ v < 64) {K : World → Prop} (hK : ∀ w', Turn (RtO b) w w' F (x.1, x.2.set k v) → K w') :
    Wr w (((⟨b, 0, none⟩ : Addr).add 0).add ((k : Int).toNat * 1)) [.int .i64 (v + 1)] K := by
  rw [Addr.add_add, Nat.zero_add, Nat.mul_one]
  refine h.1.blk.wr (by rw [rt_len h.2]; show k + 1 ≤ 17; omega) (fun w' hW => hK w' ?_)
  have hb := hW.blk'
  rw [show (k : Int).toNat = k from rfl, rt_set h.2 hk] at hb
  obtain ⟨F', k1, k2⟩ := h.1.turned (s' := (x.1, x.2.set k v)) hW.U hb
  exact ⟨F', ⟨k1, ok_set h.2 hv⟩, k2⟩

theorem set_ok (h : RtO b w F x) (n c : Int) : Calls Try.prog 11 #[.pointer (some ⟨b, 0, none⟩), .int .i64 n, .int .i64 c] w fun e w' => e = .returned (.int .i64 (setE x n c)) ∧ Turn (RtO b) w w' F (setS x n c) := by
  refine u11 ?_
  rw [t11]
  refine ⟨(rmay_ok b n w).mono ?_⟩
  rintro e w' ⟨rfl, rfl⟩
  have hle := h.2.le
  by_cases hn : nout n
  · have e1 : setE x n c = 3 := by simp [setE, hn]
    rw [if_pos hn, setS, e1]
    exact ⟨_, rfl, fun _ => ⟨rfl, Turn.same h⟩, fun g => by simp at g⟩
  · rw [if_neg hn]
    obtain ⟨k, rfl⟩ : ∃ k : Nat, n = k := ⟨n.toNat, by unfold nout at hn; omega⟩
    have hk : k < 16 := by unfold nout at hn; omega
    refine ⟨_, rfl, fun g => by simp at g, fun _ => ⟨fun g1 => ⟨_, rfl, _, h.1.blk.cell (rt_cpus h.2), fun g2 => ?_, fun g2 => ⟨_, rfl, ⟨by omega, by omega⟩, ?_⟩⟩, fun g1 => ?_⟩⟩
    · have e1 : setE x k c = 3 := by simp at g2; simp [setE, hn, g2]
      rw [setS, e1]
      exact ⟨rfl, Turn.same h⟩
    · have g1 : ¬ c < 0 := by simpa using g1
      have g2 : ¬ x.1 ≤ c := by simpa using g2
      have e1 : setE x k c = 0 := by rw [setE, if_neg hn, if_neg (by omega)]
      rw [setS, e1, if_pos rfl, w64 (by omega)]
      exact h.wr hk (by omega) (fun w' hT => ⟨rfl, hT⟩)
    · have e1 : setE x k c = 3 := by simp at g1; simp [setE, hn, g1]
      rw [setS, e1]
      exact ⟨rfl, Turn.same h⟩
theorem off_ok (h : RtO b w F x) (n : Int) : Calls Try.prog 9 #[.pointer (some ⟨b, 0, none⟩), .int .i64 n] w fun e w' => e = .returned (.int .i64 (offE x n)) ∧ Turn (RtO b) w w' F (offS x n) := by
  refine u9 ?_
  rw [t9]
  refine ⟨(rmay_ok b n w).mono ?_⟩
  rintro e w' ⟨rfl, rfl⟩
  by_cases hn : nout n
  · have e1 : offE x n = 3 := by simp [offE, hn]
    rw [if_pos hn, offS, e1]
    exact ⟨_, rfl, fun _ => ⟨rfl, Turn.same h⟩, fun g => by simp at g⟩
  · rw [if_neg hn]
    obtain ⟨k, rfl⟩ : ∃ k : Nat, n = k := ⟨n.toNat, by unfold nout at hn; omega⟩
    have hk : k < 16 := by unfold nout at hn; omega
    have hi := gt_in h.2 hk
    refine ⟨_, rfl, fun g => by simp at g, fun _ => ⟨_, rfl, ⟨by omega, by omega⟩, _, h.cell hk, fun g1 => ?_, fun g1 => ⟨_, rfl, ⟨by omega, by omega⟩, ?_⟩⟩⟩
    · have e1 : offE x k = 4 := by simp at g1; rw [offE, if_neg hn, if_pos (by omega)]
      rw [offS, e1]
      exact ⟨rfl, Turn.same h⟩
    · have e1 : offE x k = 0 := by simp at g1; rw [offE, if_neg hn, if_neg (by omega)]
      rw [offS, e1, if_pos rfl]
      have := h.wr (v := -1) hk (by omega) (K := fun w2 => Ending.returned (.int .i64 0) = Ending.returned (.int .i64 0) ∧ Turn (RtO b) w' w2 F (x.1, x.2.set k (-1))) (fun w2 hT => ⟨rfl, hT⟩)
      exact this
theorem of_ok (h : RtO b w F x) (n : Int) : Calls Try.prog 13 #[.pointer (some ⟨b, 0, none⟩), .int .i64 n] w fun e w' => e = .returned (.tuple #[.int .i64 (ofE x n).1, .bool (ofE x n).2]) ∧ w' = w := by
  refine u13 ?_
  rw [t13]
  refine ⟨(rmay_ok b n w).mono ?_⟩
  rintro e w' ⟨rfl, rfl⟩
  by_cases hn : nout n
  · have e1 : ofE x n = (0, false) := by simp [ofE, hn]
    rw [if_pos hn, e1]
    exact ⟨_, rfl, fun g => by simp at g, fun _ => ⟨rfl, rfl⟩⟩
  · rw [if_neg hn]
    obtain ⟨k, rfl⟩ : ∃ k : Nat, n = k := ⟨n.toNat, by unfold nout at hn; omega⟩
    have hk : k < 16 := by unfold nout at hn; omega
    have hi := gt_in h.2 hk
    refine ⟨_, rfl, fun _ => ⟨_, rfl, ⟨by omega, by omega⟩, _, h.cell hk, fun g1 => ?_, fun g1 => ⟨_, rfl, ⟨by omega, by omega⟩, _, h.cell hk, ?_⟩⟩, fun g => by simp at g⟩
    · have e1 : ofE x k = (0, false) := by simp at g1; rw [ofE, if_neg hn, if_pos (by omega)]
      rw [e1]
      exact ⟨rfl, rfl⟩
    · have e1 : ofE x k = (gt x k, true) := by simp at g1; rw [ofE, if_neg hn, if_neg (by omega)]
      rw [e1, w64 (by omega), Int.add_sub_cancel]
      exact ⟨rfl, rfl⟩

theorem on_ok (h : RtO b w F x) (c : Int) : Calls Try.prog 16 #[.pointer (some ⟨b, 0, none⟩), .int .i64 c] w fun e w' => ∃ p d, e = .returned (.slice p (onL x c).length d) ∧ Loc w w' 3 p d (onL x c) := by
  refine u16 ?_
  rw [t16]
  refine ⟨fun g => by simp at g, fun _ => ⟨WP_loop okProg (M := M16) (σ := Nat × Option Addr × Nat) (fun s => e16_1 (some ⟨b, 0, none⟩) c s.2.1 (upto (onP x c) s.1).length s.2.2 s.1)
    (fun s w' => s.1 ≤ 16 ∧ Loc w w' 3 s.2.1 s.2.2 (upto (onP x c) s.1)) (fun s _ => 16 - s.1) (0, none, 0) ⟨rfl, rfl, rfl, rfl, trivial⟩ ⟨by simp, Loc.nil (Upd.refl _ _) _⟩ ?_⟩⟩
  rintro ⟨i, p, d⟩ w1 ⟨h1, hL⟩
  simp only at h1 hL ⊢
  rw [t16_1]
  have hs1 := upto_succ (onP x c) i
  have hb := upto_length (onP x c) i
  refine ⟨fun hlt => ?_, fun hge => ?_⟩
  · have hi : i < 16 := by simp at hlt; omega
    have hw : RtO b w1 F x := (Frame.rt b).upd h hL.U (fun _ _ h => h)
    refine ⟨(of_ok hw i).mono ?_⟩
    rintro e w' ⟨rfl, rfl⟩
    refine ⟨_, _, rfl, fun g1 => ⟨fun g2 => ⟨fun w2 hN => ?_⟩, fun g2 => ?_⟩, fun g1 => ?_⟩
    · obtain ⟨p', c', w3, hr, hL'⟩ := hL.push elI (by omega) hN 38
      rw [if_pos (by unfold onP; rw [g1, g2]; rfl)] at hs1
      exact ⟨p', _, c', w3, hr, (i + 1, p', c'), ⟨rfl, rfl, by rw [hs1]; rfl, by rw [w64 (by omega)]; rfl, trivial⟩, ⟨by simp only; omega, by rw [hs1]; exact hL'⟩, by simp only; omega⟩
    · rw [if_neg (by unfold onP; rw [g1, g2]; decide)] at hs1
      exact ⟨(i + 1, p, d), ⟨rfl, rfl, by rw [hs1]; rfl, by rw [w64 (by omega)]; rfl, trivial⟩, ⟨by simp only; omega, by rw [hs1]; exact hL⟩, by simp only; omega⟩
    · rw [if_neg (by unfold onP; rw [g1]; simp)] at hs1
      exact ⟨(i + 1, p, d), ⟨rfl, rfl, by rw [hs1]; rfl, by rw [w64 (by omega)]; rfl, trivial⟩, ⟨by simp only; omega, by rw [hs1]; exact hL⟩, by simp only; omega⟩
  · have : i = 16 := by simp at hge; omega
    subst this
    exact ⟨p, d, rfl, hL⟩

theorem cores_ok (h : RtO b w F x) : Calls Try.prog 18 #[.pointer (some ⟨b, 0, none⟩)] w fun e w' => e = .returned (.int .u64 (mi (ofL x.2))) ∧ Upd no w w' := by
  refine u18 ?_
  rw [t18]
  have hlen := h.2.len
  refine ⟨fun g => by simp at g, fun _ => ⟨_, rfl, x.2.map (fun v => Value.int .i64 (v + 1)), by simp [hlen], ?_, ⟨WP_loop okProg (M := M18) (σ := Nat) (fun i => e18_1 (mi ((x.2.take i).foldl wi 0)) (x.2.map (fun v => Value.int .i64 (v + 1))) i) (fun i w' => i ≤ 16 ∧ Upd no w w') (fun i _ => 16 - i) 0 ⟨rfl, rfl, rfl, trivial⟩ ⟨by omega, Upd.refl _ _⟩ ?_⟩⟩⟩
  · intro j v hj
    have hj16 : j < 16 := by
      have := (List.getElem?_eq_some_iff.1 hj).1
      simpa [hlen] using this
    have := h.cell hj16
    rw [Nat.mul_one] at this
    rw [show ((j : Int).toNat) = j from rfl] at this
    rw [this, ← rt_cell h.2 hj16, rtE, List.getElem?_append_left (by simp [hlen, hj16])]
    exact hj
  · rintro i w1 ⟨h1, hU⟩
    rw [t18_1]
    refine ⟨fun hlt => ?_, fun hge => ⟨?_, hU⟩⟩
    · have hi : i < 16 := by simp at hlt; omega
      have hi' : i < x.2.length := by omega
      have hv := h.2.in' _ (List.getElem_mem hi')
      refine ⟨⟨by omega, by omega⟩, x.2[i] + 1, by simp [hi'], ⟨fun w2 hN => ⟨(mWith_ok _ (l := [x.2[i]]) (Sl.new (n := 1) (sz := 1) (cs := ([x.2[i]] : List Int).map (Value.int .i64)) (T := 3) ?_ (by simp) (by decide)).cells (by simp)).mono ?_⟩⟩⟩
      · rw [w64 (by omega), Int.add_sub_cancel] at hN
        exact hN
      · rintro e w3 ⟨rfl, rfl⟩
        refine ⟨_, rfl, i + 1, ⟨by rw [foldl_take hi']; rfl, rfl, by rw [w64 (by omega)]; rfl, trivial⟩, ⟨by omega, hU.and (hN.upd no)⟩, by omega⟩
    · have : i = 16 := by simp at hge; omega
      subst this
      rw [← hlen, List.take_length]
      rfl

theorem rset_ok (h : QtH b w F (x, y)) (hk : x.ok) (n c : Int) : Calls Try.prog 12 #[.pointer (some ⟨b, 0, none⟩), .int .i64 n, .int .i64 c] w fun e w' => e = .returned (.int .i64 (setE x n c)) ∧ Turn (QtH b) w w' F (setS x n c, y) := by
  have hlen := hk.len
  refine u12 ?_
  rw [t12]
  refine ⟨fun g1 => ⟨_, rfl, _, _, _, h.blk.cell rfl, fun g2 => ⟨fun g3 => ⟨_, rfl, _, h.blk.cell rfl, fun g4 => ?_, fun g4 => ?_⟩, fun g3 => ?_⟩, fun g2 => ?_⟩, fun g1 => ?_⟩
  · have e1 : setE x n c = 3 := by simp at g4; simp [setE, g4]
    rw [setS, e1]; exact ⟨rfl, Turn.same h⟩
  · have g1 : ¬ n < 0 := by simpa using g1
    have g2 : ¬ 16 ≤ n := by simp [hlen] at g2; omega
    have g3 : ¬ c < 0 := by simpa using g3
    have g4 : ¬ x.1 ≤ c := by simpa using g4
    have e1 : setE x n c = 0 := by rw [setE, if_neg (by unfold nout; omega), if_neg (by omega)]
    rw [setS, e1, if_pos rfl]
    obtain ⟨k, rfl⟩ : ∃ k : Nat, n = k := ⟨n.toNat, by omega⟩
    have hS := h.sl
    obtain ⟨a, ha, _⟩ := hS.cells.at1 (l := x.2) (i := k) (by omega)
    simp only at ha hS
    refine ⟨_, rfl, _, _, _, h.blk.cell rfl, ⟨by omega, by simp only; omega⟩, a, ha, ?_⟩
    rw [ha] at hS
    refine hS.wr (o := k * 1) (by simp; omega) (fun w1 hS1 hU => ⟨rfl, ?_⟩)
    rw [Nat.mul_one, setL_set (by omega)] at hS1
    exact h.elems (s' := (x.1, x.2.set k c)) (by simp only [List.length_set]; rw [ha]; exact hS1) (by rw [ha]; exact hU) (by simp)
  · have e1 : setE x n c = 3 := by simp at g3; simp [setE, g3]
    rw [setS, e1]; exact ⟨rfl, Turn.same h⟩
  · have e1 : setE x n c = 3 := by
      have : nout n := by simp [hlen] at g2; unfold nout; omega
      simp [setE, this]
    rw [setS, e1]; exact ⟨rfl, Turn.same h⟩
  · have e1 : setE x n c = 3 := by
      have : nout n := by simp at g1; unfold nout; omega
      simp [setE, this]
    rw [setS, e1]; exact ⟨rfl, Turn.same h⟩
theorem roff_ok (h : QtH b w F (x, y)) (hk : x.ok) (n : Int) : Calls Try.prog 10 #[.pointer (some ⟨b, 0, none⟩), .int .i64 n] w fun e w' => e = .returned (.int .i64 (offE x n)) ∧ Turn (QtH b) w w' F (offS x n, y) := by
  have hlen := hk.len
  refine u10 ?_
  rw [t10]
  refine ⟨fun g1 => ⟨_, rfl, _, _, _, h.blk.cell rfl, fun g2 => ?_, fun g2 => ?_⟩, fun g1 => ?_⟩
  · have e1 : offE x n = 3 := by
      have : nout n := by simp [hlen] at g2; unfold nout; omega
      simp [offE, this]
    rw [offS, e1]; exact ⟨rfl, Turn.same h⟩
  · have g1 : ¬ n < 0 := by simpa using g1
    have g2 : ¬ 16 ≤ n := by simp [hlen] at g2; omega
    have hn : ¬ nout n := by unfold nout; omega
    obtain ⟨k, rfl⟩ : ∃ k : Nat, n = k := ⟨n.toNat, by omega⟩
    have hS := h.sl
    obtain ⟨a, ha, hc⟩ := hS.cells.at1 (l := x.2) (i := k) (by omega)
    simp only at ha hS
    refine ⟨_, rfl, _, _, _, h.blk.cell rfl, ⟨by omega, by simp only; omega⟩, a, ha, _, hc, fun g3 => ?_, fun g3 => ⟨_, rfl, _, _, _, h.blk.cell rfl, ⟨by omega, by simp only; omega⟩, a, ha, ?_⟩⟩
    · have e1 : offE x k = 4 := by rw [offE, if_neg hn, if_pos (by rw [gt_get hk (by omega)]; simpa using g3)]
      rw [offS, e1]; exact ⟨rfl, Turn.same h⟩
    · have e1 : offE x k = 0 := by rw [offE, if_neg hn, if_neg (by rw [gt_get hk (by omega)]; simpa using g3)]
      rw [offS, e1, if_pos rfl]
      rw [ha] at hS
      refine hS.wr (o := k * 1) (by simp; omega) (fun w1 hS1 hU => ⟨rfl, ?_⟩)
      rw [Nat.mul_one, setL_set (by omega)] at hS1
      exact h.elems (s' := (x.1, x.2.set k (-1))) (by simp only [List.length_set]; rw [ha]; exact hS1) (by rw [ha]; exact hU) (by simp)
  · have e1 : offE x n = 3 := by
      have : nout n := by simp at g1; unfold nout; omega
      simp [offE, this]
    rw [offS, e1]; exact ⟨rfl, Turn.same h⟩
theorem rof_ok (h : QtH b w F (x, y)) (hk : x.ok) (n : Int) : Calls Try.prog 14 #[.pointer (some ⟨b, 0, none⟩), .int .i64 n] w fun e w' => e = .returned (.tuple #[.int .i64 (ofE x n).1, .bool (ofE x n).2]) ∧ w' = w := by
  have hlen := hk.len
  refine u14 ?_
  rw [t14]
  refine ⟨fun g1 => ⟨_, rfl, _, _, _, h.blk.cell rfl, fun g2 => ?_, fun g2 => ?_⟩, fun g1 => ?_⟩
  · have g1 : ¬ n < 0 := by simpa using g1
    have g2 : ¬ 16 ≤ n := by simp [hlen] at g2; omega
    have hn : ¬ nout n := by unfold nout; omega
    obtain ⟨k, rfl⟩ : ∃ k : Nat, n = k := ⟨n.toNat, by omega⟩
    obtain ⟨a, ha, hc⟩ := h.sl.cells.at1 (l := x.2) (i := k) (by omega)
    refine ⟨_, rfl, _, _, _, h.blk.cell rfl, ⟨by omega, by simp only; omega⟩, a, ha, _, hc, fun g3 => ?_, fun g3 => ⟨_, rfl, _, _, _, h.blk.cell rfl, ⟨by omega, by simp only; omega⟩, a, ha, _, hc, ?_⟩⟩
    · have e1 : ofE x k = (0, false) := by rw [ofE, if_neg hn, if_pos (by rw [gt_get hk (by omega)]; simpa using g3)]
      rw [e1]; exact ⟨rfl, rfl⟩
    · have e1 : ofE x k = (gt x k, true) := by rw [ofE, if_neg hn, if_neg (by rw [gt_get hk (by omega)]; simpa using g3)]
      rw [e1, gt_get hk (by omega)]; exact ⟨rfl, rfl⟩
  · have e1 : ofE x n = (0, false) := by
      have : nout n := by simp [hlen] at g2; unfold nout; omega
      simp [ofE, this]
    rw [e1]; exact ⟨rfl, rfl⟩
  · have e1 : ofE x n = (0, false) := by
      have : nout n := by simp at g1; unfold nout; omega
      simp [ofE, this]
    rw [e1]; exact ⟨rfl, rfl⟩
theorem onP_neg {x : RtS} {c : Int} (hc : ¬ 0 ≤ c) (i : Int) : onP x c i = false := by
  unfold onP ofE
  split
  · rfl
  · split
    · rfl
    · simp; omega
theorem ron_ok (h : QtH b w F (x, y)) (hk : x.ok) (c : Int) : Calls Try.prog 17 #[.pointer (some ⟨b, 0, none⟩), .int .i64 c] w fun e w' => ∃ p d, e = .returned (.slice p (onL x c).length d) ∧ Loc w w' 3 p d (onL x c) := by
  have hlen := hk.len
  refine u17 ?_
  rw [t17]
  refine ⟨WP_loop okProg (M := M17) (σ := Nat × Option Addr × Nat) (fun s => e17_1 (some ⟨b, 0, none⟩) c s.2.1 (upto (onP x c) s.1).length s.2.2 s.1)
    (fun s w' => s.1 ≤ 16 ∧ Loc w w' 3 s.2.1 s.2.2 (upto (onP x c) s.1)) (fun s _ => 16 - s.1) (0, none, 0) ⟨rfl, rfl, rfl, rfl, trivial⟩ ⟨by simp, Loc.nil (Upd.refl _ _) _⟩ ?_⟩
  rintro ⟨i, p, d⟩ w1 ⟨h1, hL⟩
  simp only at h1 hL ⊢
  rw [t17_1]
  have hs1 := upto_succ (onP x c) i
  have hb := upto_length (onP x c) i
  have hw : QtH b w1 F (x, y) := (Frame.hd ..).upd h hL.U (fun _ _ h => h)
  refine ⟨_, rfl, _, _, _, hw.blk.cell rfl, fun hlt => ⟨fun hc => ?_, fun hc => ?_⟩, fun hge => ?_⟩
  · have hi : i < 16 := by simp [hlen] at hlt; omega
    have hc : 0 ≤ c := by simpa using hc
    obtain ⟨a, ha, hcell⟩ := hw.sl.cells.at1 (l := x.2) (i := i) (by omega)
    have hof : onP x c i = (x.2[i]'(by omega) == c) := by
      unfold onP ofE
      rw [if_neg (by unfold nout; omega), gt_get hk hi]
      split
      · rename_i hneg
        have : x.2[i]'(by omega) ≠ c := by omega
        simp [this]
      · simp
    refine ⟨_, rfl, _, _, _, hw.blk.cell rfl, ⟨by omega, by simp only; omega⟩, a, ha, _, hcell, fun g => ⟨fun w2 hN => ?_⟩, fun g => ?_⟩
    · obtain ⟨p', c', w3, hr, hL'⟩ := hL.push elI (by omega) hN 38
      rw [if_pos (by rw [hof]; exact g)] at hs1
      exact ⟨p', _, c', w3, hr, (i + 1, p', c'), ⟨rfl, rfl, by rw [hs1]; rfl, by rw [w64 (by omega)]; rfl, trivial⟩, ⟨by simp only; omega, by rw [hs1]; exact hL'⟩, by simp only; omega⟩
    · rw [if_neg (by rw [hof, g]; decide)] at hs1
      exact ⟨(i + 1, p, d), ⟨rfl, rfl, by rw [hs1]; rfl, by rw [w64 (by omega)]; rfl, trivial⟩, ⟨by simp only; omega, by rw [hs1]; exact hL⟩, by simp only; omega⟩
  · have hc : ¬ 0 ≤ c := by simpa using hc
    have e1 : ∀ n, upto (onP x c) n = [] := fun n => by
      unfold upto
      rw [List.filter_eq_nil_iff]
      intro a _
      rw [onP_neg hc]; decide
    rw [onL, e1]
    rw [e1] at hL ⊢
    exact ⟨p, d, rfl, hL⟩
  · have : i = 16 := by simp [hlen] at hge; omega
    subst this
    exact ⟨p, d, rfl, hL⟩
theorem rcores_ok (h : QtH b w F (x, y)) (hk : x.ok) : Calls Try.prog 19 #[.pointer (some ⟨b, 0, none⟩)] w fun e w' => e = .returned (.int .u64 (mi (ofL x.2))) ∧ w' = w := by
  have hlen := hk.len
  refine u19 ?_
  rw [t19]
  refine ⟨_, rfl, _, _, _, h.blk.cell rfl, ⟨(rOf_ok h.sl.cells (by simp only; omega)).mono ?_⟩⟩
  rintro e w' ⟨rfl, rfl⟩
  exact ⟨_, rfl, rfl, rfl⟩
end
end Go.Dav
