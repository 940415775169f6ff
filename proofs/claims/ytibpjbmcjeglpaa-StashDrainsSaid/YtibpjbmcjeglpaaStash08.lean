/- What the functions of the stash come to. -/
import Derived.Test.YtibpjbmcjeglpaaPool08
import Derived.Test.YtibpjbmcjeglpaaLst08
import Derived.Test.YtibpjbmcjeglpaaFam
set_option linter.unusedVariables false
set_option linter.unusedSimpArgs false
set_option linter.unusedSectionVars false
namespace Go.Dav
open Go.Proofs
abbrev KS := List Nat × List (List Int)

/-- A block with a pool, and with lists that are its own. -/
def KpO (PO : Nat → Ob (List Nat)) (T E I : TypeId) (enc : Nat → Nat → Option Addr → Nat → Nat → List Value) (b : Nat) : Ob KS := fun w F x => (∃ b2, Star (PO b2) (Tb b T E I (enc b2 x.1.length)) w F x) ∧ ∀ l ∈ x.2, l.length ≤ 4
section
variable {PO : Nat → Ob (List Nat)} [fp : ∀ b, Frame (PO b)] {T E I : TypeId} {enc : Nat → Nat → Option Addr → Nat → Nat → List Value} {b : Nat} {w w' : World} {F : Fp} {x : KS}
instance Frame.kp : Frame (KpO PO T E I enc b) where
  upd := fun ⟨⟨b2, h⟩, r⟩ k hG => ⟨⟨b2, Frame.star.upd h k hG⟩, r⟩
  lt := fun ⟨⟨b2, h⟩, _⟩ => Frame.star.lt h
/-- The block's pool. -/
theorem KpO.ptr (h : KpO PO T E I enc b w F x) : ∃ b2 F1, PO b2 w F1 x.1 ∧ (∃ p c, Blk w b (enc b2 x.1.length p x.2.length c) T) ∧ ∀ w' pg', pg'.length = x.1.length → Turn (PO b2) w w' F1 pg' → Turn (KpO PO T E I enc b) w w' F (pg', x.2) := by
  obtain ⟨⟨b2, h⟩, r⟩ := h
  obtain ⟨F2, h2, _⟩ := h.right
  obtain ⟨F1, h1, k⟩ := h.left
  refine ⟨b2, F1, h1, h2.blk, fun w' pg' hl hT => ?_⟩
  obtain ⟨F', q1, q2, q3⟩ := k _ _ hT
  exact ⟨F', ⟨⟨b2, by rw [hl]; exact q1⟩, r⟩, q2, q3⟩
/-- Lists that are there to be read. -/
def RowsAt (w : World) (p : Option Addr) (L : List (List Int)) : Prop := ∀ i (hi : i < L.length), ∃ a q d, p = some a ∧ w.cell? (a.add (i * 1)) = some (.slice q L[i].length d) ∧ Cells w q (L[i].map (Value.int .i64)) ∧ L[i].length ≤ 4
theorem KpO.rows (h : KpO PO T E I enc b w F x) : ∃ b2 F1, PO b2 w F1 x.1 ∧ x.2.length ≤ maxLen ∧ ∃ p c, Blk w b (enc b2 x.1.length p x.2.length c) T ∧ RowsAt w p x.2 := by
  obtain ⟨⟨b2, h⟩, r⟩ := h
  obtain ⟨F1, G, h1, ⟨⟨p, c⟩, ys, h2, he⟩, h3, h4⟩ := h
  obtain ⟨H1, H2, k1, k2, k3, k4⟩ := h2
  simp only at h1 k1 k2 he r ⊢
  obtain ⟨x1, x2⟩ := x
  simp only at h1 k1 k2 he r ⊢
  subst he
  refine ⟨b2, F1, h1, ?_, p, c, by rw [rws_len]; exact k1.blk, fun i hi => ?_⟩
  · have := k1.sl
    rw [rws_len]
    exact Nat.le_trans this.2.1 this.2.2.1
  · have hi' : i < ys.length := by simpa [rws] using hi
    obtain ⟨a, ha, hc⟩ := k1.sl.cells.at1 (f := hdI) (l := ys) hi'
    obtain ⟨F2, q1, _⟩ := Fam.at k2 hi'
    refine ⟨a, ys[i].1, ys[i].2.1, ha, ?_, ?_, r _ (List.getElem_mem hi)⟩
    · rw [hc, rws_at _ hi']; rfl
    · rw [rws_at _ hi']; exact q1.cells
/-- One of its lists, beside the pool. -/
theorem KpO.row (h : KpO PO T E I enc b w F x) {i : Nat} (hi : i < x.2.length) : ∃ b2 F1 G a c0 p c, PO b2 w F1 x.1 ∧ TbR b T E I (enc b2 x.1.length) w G x.2 i a c0 p c ∧ (∀ j, G j → ¬ F1 j) ∧
    (∀ w' pg', pg'.length = x.1.length → Turn (PO b2) w w' F1 pg' → Turn (KpO PO T E I enc b) w w' F (pg', x.2)) ∧
    ∀ w' L', (∀ l ∈ L', l.length ≤ 4) → Turn (Tb b T E I (enc b2 x.1.length)) w w' G L' → Turn (KpO PO T E I enc b) w w' F (x.1, L') := by
  obtain ⟨⟨b2, h⟩, r⟩ := h
  obtain ⟨F1, G, h1, h2, h3, h4⟩ := id h
  obtain ⟨a, c0, p, c, k⟩ := h2.raw hi
  refine ⟨b2, F1, G, a, c0, p, c, h1, k, fun j hj hf => h4 j hf hj, fun w' pg' hl hT => ?_, fun w' L' hL hT => ?_⟩
  · have hfa : Frame (Tb b T E I (enc b2 x.1.length)) := inferInstance
    obtain ⟨F', q1, q2, q3⟩ := hT
    refine ⟨fun i => F' i ∨ G i, ⟨⟨b2, F', G, q1, ?_, fun _ => Iff.rfl, fun i hi hf => ?_⟩, r⟩, q2.mono (fun i _ hi => (h3 i).2 (.inl hi)), fun i hi => ?_⟩
    · simp only [hl]; exact hfa.upd h2 q2 (fun i hi hf => h4 i hf hi)
    · rcases q3 i hi with h | h
      · exact h4 i h hf
      · have := hfa.lt h2 i hf; omega
    · rcases hi with hi | hi
      · exact (q3 i hi).imp (fun h => (h3 i).2 (.inl h)) id
      · exact .inl ((h3 i).2 (.inr hi))
  · obtain ⟨F', q1, q2, q3⟩ := hT
    refine ⟨fun i => F1 i ∨ F' i, ⟨⟨b2, F1, F', (fp b2).upd h1 q2 h4, q1, fun _ => Iff.rfl, fun i hi hf => ?_⟩, hL⟩, ?_, fun i hi => ?_⟩
    · rcases q3 i hf with h | h
      · exact h4 i hi h
      · have := (fp b2).lt h1 i hi; omega
    · exact q2.mono (fun i _ hi => (h3 i).2 (.inr hi))
    · rcases hi with hi | hi
      · exact .inl ((h3 i).2 (.inl hi))
      · exact (q3 i hi).imp (fun h => (h3 i).2 (.inr h)) id
omit fp in
theorem KpO.new [fp : ∀ b, Frame (PO b)] {w w1 w2 w3 : World} {b1 : Nat} {F1 : Fp} {pg : List Nat} {p : Option Addr} {n c : Nat} {cs : List Value} (hQ : PO b1 w1 F1 pg) (hF : ∀ i, F1 i → w.heap.size ≤ i) (hU1 : Upd no w w1) (hU2 : Upd no w1 w2)
    (hS : Sl w2 E 1 p n c (List.replicate n (Value.slice none 0 0))) (hp : ∀ i, fpS p i → w1.heap.size ≤ i) (hN : Newed w2 w3 (.cells cs.toArray T (0, 0))) (he : enc b1 pg.length p n c = cs) :
    ∃ F, KpO PO T E I enc w2.heap.size w3 F (pg, List.replicate n []) ∧ Upd no w w3 ∧ ∀ i, F i → w.heap.size ≤ i := by
  have hT := Tb.new (E := E) (I := I) (enc := enc b1 pg.length) hU2 hS hp hN he
  have hU3 := hN.upd no
  have hlt := (fp b1).lt hQ
  refine ⟨fun i => F1 i ∨ (i = w2.heap.size ∨ fpS p i), ⟨⟨b1, F1, _, (fp b1).upd hQ (hU2.and hU3) (fun _ _ h => h), hT, fun _ => Iff.rfl, ?_⟩, ?_⟩, hU1.and (hU2.and hU3), ?_⟩
  · rintro i hi (rfl | hf)
    · have := hlt _ hi; have := hU2.size; omega
    · have := hlt _ hi; have := hp _ hf; omega
  · intro l hl; have := List.eq_of_mem_replicate hl; subst this; simp
  · rintro i (hi | rfl | hi)
    · exact hF i hi
    · exact Nat.le_trans hU1.size hU2.size
    · exact Nat.le_trans hU1.size (hp i hi)
end
theorem Turn.next {σ : Type} {A : Ob σ} {w w1 w2 : World} {F F1 : Fp} {s1 s2 : σ} (h : A w1 F1 s1) (hU : Upd F w w1) (hF : ∀ i, F1 i → F i ∨ w.heap.size ≤ i) (k : Turn A w1 w2 F1 s2) : Turn A w w2 F s2 := by
  obtain ⟨F2, k1, k2, k3⟩ := k
  refine ⟨F2, k1, hU.trans k2 (fun i hi hf => (hF i hf).elim id (fun h => absurd h (by omega))), fun i hi => ?_⟩
  rcases k3 i hi with h | h
  · exact hF i h
  · exact .inr (Nat.le_trans hU.size h)

/-! ### What the answers are -/
theorem take_len (pg : List Nat) : (takeS pg).length = pg.length := by unfold takeS; split <;> simp
theorem give_len (pg : List Nat) (v : Int) : (giveS pg v).length = pg.length := by unfold giveS; split <;> simp
def gives (pg : List Nat) (l : List Int) : List Nat := l.foldl giveS pg
theorem gives_len (pg : List Nat) (l : List Int) : (gives pg l).length = pg.length := by
  induction l generalizing pg with
  | nil => rfl
  | cons v l ih => exact (ih (giveS pg v)).trans (give_len pg v)
theorem gives_succ (pg : List Nat) {l : List Int} {k : Nat} (h : k < l.length) : gives pg (l.take (k + 1)) = giveS (gives pg (l.take k)) l[k] := by
  rw [List.take_succ_eq_append_getElem h, gives, List.foldl_append]
  rfl
def inC (x : KS) (cpu : Int) : Prop := 0 ≤ cpu ∧ cpu < x.2.length
instance (x : KS) (cpu : Int) : Decidable (inC x cpu) := by unfold inC; infer_instance
def keptB (L : List (List Int)) (v : Int) : Bool := L.any (fun l => decide (v ∈ l))
def hasE (x : KS) (v : Int) : Bool := outE x.1 v && !keptB x.2 v
def tk1 (s : List Nat × List Int) : List Nat × List Int := if (takeE s.1).2 = 0 then (takeS s.1, s.2 ++ [(takeE s.1).1]) else (takeS s.1, s.2)
def fillS (s : List Nat × List Int) : List Nat × List Int := if s.2 = [] then tk1 (tk1 s) else s
def lastE (l : List Int) : Int × Int := match l.getLast? with | some v => (v, 0) | none => (0, 5)
def rowC (x : KS) (cpu : Int) : List Int := x.2.getD cpu.toNat []
def allocE (x : KS) (cpu : Int) : Int × Int := if inC x cpu then lastE (fillS (x.1, rowC x cpu)).2 else (0, 3)
def allocS (x : KS) (cpu : Int) : KS := if inC x cpu then ((fillS (x.1, rowC x cpu)).1, x.2.set cpu.toNat (fillS (x.1, rowC x cpu)).2.dropLast) else x
def backS (s : List Nat × List Int) : List Nat × List Int := if 4 ≤ s.2.length then (gives s.1 (s.2.take 2), s.2.drop 2) else s
def sgiveE (x : KS) (cpu v : Int) : Int := if inC x cpu then (if hasE x v then 0 else 4) else 3
def sgiveS (x : KS) (cpu v : Int) : KS := if inC x cpu ∧ hasE x v = true then ((backS (x.1, rowC x cpu)).1, x.2.set cpu.toNat ((backS (x.1, rowC x cpu)).2 ++ [v])) else x
def drainE (x : KS) (cpu : Int) : Int × Int := if inC x cpu then ((rowC x cpu).length, 0) else (0, 3)
def drainS (x : KS) (cpu : Int) : KS := if inC x cpu then (gives x.1 (rowC x cpu), x.2.set cpu.toNat []) else x
def isOut (x : KS) (k : Nat) : Bool := hasE x (k : Int)
def outsN (x : KS) (n : Nat) : List Int := ((List.range n).filter (fun k => isOut x (k + 1))).map (fun k => ((k + 1 : Nat) : Int))
def outsE (x : KS) : List Int := outsN x (8 * x.1.length)
theorem outsN_succ (x : KS) (n : Nat) : outsN x (n + 1) = if isOut x (n + 1) then outsN x n ++ [((n + 1 : Nat) : Int)] else outsN x n := by
  unfold outsN
  rw [List.range_succ, List.filter_append, List.map_append]
  cases h : isOut x (n + 1) <;> simp [h]
theorem outsN_len (x : KS) (n : Nat) : (outsN x n).length ≤ n := by unfold outsN; rw [List.length_map]; exact Nat.le_trans (List.length_filter_le ..) (by simp)
theorem rowC_at {x : KS} {i : Nat} (hi : i < x.2.length) : rowC x (i : Int) = x.2[i] := by simp [rowC, hi]
theorem inC_of {x : KS} {i : Nat} (hi : i < x.2.length) : inC x (i : Int) := by unfold inC; omega
theorem inC_at {x : KS} {cpu : Int} (h : inC x cpu) : ∃ i : Nat, i < x.2.length ∧ cpu = (i : Int) := ⟨cpu.toNat, by unfold inC at h; omega, by unfold inC at h; omega⟩
theorem set_le {L : List (List Int)} (h : ∀ l ∈ L, l.length ≤ 4) (i : Nat) {l' : List Int} (hl : l'.length ≤ 4) : ∀ l ∈ L.set i l', l.length ≤ 4 := fun l hm => (List.mem_or_eq_of_mem_set hm).elim (h l) (fun e => e ▸ hl)

/-! ### The program's stash -/
def stE (b2 n : Nat) (p : Option Addr) (m c : Nat) : List Value := [.pointer (some ⟨b2, 0, none⟩), .int .i64 (n : Int), .slice p m c]
abbrev StO (b : Nat) : Ob KS := KpO PlO 54 35 3 stE b
section
variable {w : World} {F : Fp} {b : Nat} {x : KS}
theorem hlen (h : StO b w F x) : 1 ≤ x.1.length ∧ x.1.length ≤ 12 := by
  obtain ⟨b2, F1, h1, _⟩ := h.ptr
  exact h1.2.len

theorem smay_ok (h : StO b w F x) (cpu : Int) : Calls Try.prog 35 #[.pointer (some ⟨b, 0, none⟩), .int .i64 cpu] w fun e w' => e = .returned (.int .i64 (if inC x cpu then 0 else 3)) ∧ w' = w := by
  refine u35 ?_
  rw [t35]
  obtain ⟨b2, F1, _, ⟨p, c, hB⟩, _⟩ := h.ptr
  refine ⟨fun g => by simp at g, fun _ => ⟨fun g => ⟨_, rfl, _, _, _, hB.cell rfl, fun g2 => ⟨?_, rfl⟩, fun g2 => ⟨?_, rfl⟩⟩, fun g => ⟨?_, rfl⟩⟩⟩
  · rw [if_neg]; unfold inC; simp at g g2; omega
  · rw [if_pos]; unfold inC; simp at g g2; omega
  · rw [if_neg]; unfold inC; simp at g; omega
theorem smayNil_ok (cpu : Int) (w : World) : Calls Try.prog 35 #[.pointer none, .int .i64 cpu] w fun e w' => e = .returned (.int .i64 1) ∧ w' = w := by
  refine u35 ?_
  rw [t35]
  exact ⟨fun _ => ⟨rfl, rfl⟩, fun g => by simp at g⟩

theorem fill_ok (h : StO b w F x) {i : Nat} (hi : i < x.2.length) : Calls Try.prog 37 #[.pointer (some ⟨b, 0, none⟩), .int .i64 (i : Int)] w fun e w' => e = .returned (.tuple #[]) ∧ Turn (StO b) w w' F ((fillS (x.1, x.2[i])).1, x.2.set i (fillS (x.1, x.2[i])).2) := by
  refine u37 ?_
  rw [t37]
  obtain ⟨b2, F1, G, a, c0, p, c, h1, hR, hd, ht, hp⟩ := h.row hi
  obtain ⟨F2, hA⟩ := hR.open hi
  refine ⟨_, rfl, _, _, _, hA.blk0.cell rfl, ⟨by omega, by omega⟩, a, rfl, _, _, _, hA.cell0, fun g => ⟨rfl, ?_⟩, fun g => ?_⟩
  · have hne : x.2[i] ≠ [] := fun e => by rw [e] at g; simp at g
    rw [fillS, if_neg hne]
    simp only [List.set_getElem_self]
    exact Turn.same h
  · have he : x.2[i] = [] := by simpa using g
    have h0 : x.2.set i [] = x.2 := by rw [← he, List.set_getElem_self]
    clear hA hR hd ht hp h1
    rw [he, fillS, if_pos rfl]
    refine ⟨WP_loop okProg (M := M37) (σ := Nat × List Nat × List Int) (fun s => e37_0 (some ⟨b, 0, none⟩) (i : Int) (s.1 : Int))
      (fun s w' => s.1 ≤ 2 ∧ s.2.2.length ≤ s.1 ∧ (if s.1 = 0 then s.2 = (x.1, []) else if s.1 = 1 then s.2 = tk1 (x.1, []) else s.2 = tk1 (tk1 (x.1, []))) ∧ Turn (StO b) w w' F (s.2.1, x.2.set i s.2.2)) (fun s _ => 2 - s.1) (0, x.1, []) ⟨rfl, rfl, rfl, trivial⟩ ⟨by simp, by simp, by simp, by rw [h0]; exact Turn.same h⟩ ?_⟩
    rintro ⟨j, pg, l⟩ w1 ⟨j1, j2, j3, F', q1, q2, q3⟩
    simp only at j1 j2 j3 q1 ⊢
    rw [t37_0]
    refine ⟨fun g => ?_, fun g => ⟨rfl, ?_⟩⟩
    · have hj : j < 2 := by simp at g; omega
      obtain ⟨b2, F1, h1, ⟨p, c, hB⟩, ht⟩ := q1.ptr
      refine ⟨_, rfl, _, hB.cell rfl, ⟨(take_ok h1).mono ?_⟩⟩
      rintro e w2 ⟨rfl, hU⟩
      obtain ⟨F3, r1, r2, r3⟩ := ht _ _ (take_len _) hU
      have hn : ∀ s, s = tk1 (pg, l) → (if j + 1 = 0 then s = (x.1, []) else if j + 1 = 1 then s = tk1 (x.1, []) else s = tk1 (tk1 (x.1, []))) := by
        rintro s rfl
        have : j = 0 ∨ j = 1 := by omega
        rcases this with rfl | rfl
        · simp only [reduceIte] at j3; rw [j3]; simp
        · simp at j3; rw [j3]; simp
      simp only at r1 ⊢
      refine ⟨_, _, rfl, fun g1 => ?_, fun g1 => ?_⟩
      · have g1 : (takeE pg).2 = 0 := by simpa using g1
        intro w3 z1 z2 z3 z4
        have hS := Upd.same no z1 z2 z3 z4
        replace r1 : StO b w3 F3 _ := Frame.kp.upd r1 hS (fun _ _ h => h)
        have hi2 : i < (x.2.set i l).length := by simpa using hi
        obtain ⟨b2', G1, G, a, c0, p, c, h1, hR, hd, _, hp⟩ := r1.row (i := i) hi2
        obtain ⟨F2, hA⟩ := hR.open hi2
        refine ⟨_, rfl, _, _, _, hA.blk0.cell rfl, _, rfl, _, _, _, hA.blk0.cell rfl, ⟨by omega, by simp only [List.length_set]; omega⟩, a, rfl, _, _, _, hA.cell0, ⟨fun w4 hN => ?_⟩⟩
        have hN' : Upd F2 w3 w4 := (hN.upd no).none
        have hle : l.length ≤ 2 := by omega
        have hlx : (x.2.set i l)[i] = l := by simp
        obtain ⟨p', c', w5, hr, hT⟩ := Ls.push elI hA.ls (by rw [hlx]; omega) hN 35
        have hT5 := hT
        obtain ⟨_, _, hU5, _⟩ := hT5
        refine ⟨hA.cell _ hN', (hA.blk _ hN').cell rfl, (hA.blk _ hN').cell rfl, p', _, c', w5, hr, (hA.blk _ hU5).cell rfl, ⟨by omega, by simp only [List.length_set]; omega⟩, a, rfl, ?_⟩
        refine hA.put _ _ _ _ hT _ fun w6 h6 => ?_
        have h7 := hp _ _ (by
          rw [hlx]
          refine set_le r1.2 i ?_
          simp; omega) h6
        simp only [List.set_set, hlx] at h7
        refine ⟨(j + 1, takeS pg, l ++ [(takeE pg).1]), ⟨rfl, rfl, by rw [w64 (by omega)]; rfl, trivial⟩, ⟨by simp only; omega, by simp; omega, hn _ (by simp [tk1, g1]), ?_⟩, by simp only; omega⟩
        refine Turn.next q1 q2 q3 ?_
        refine Turn.next (s1 := (takeS pg, x.2.set i l)) (w1 := w3) r1 (r2.and hS.none) r3 h7
      · have g1 : (takeE pg).2 ≠ 0 := by simpa using g1
        exact ⟨(j + 1, takeS pg, l), ⟨rfl, rfl, by rw [w64 (by omega)]; rfl, trivial⟩, ⟨by simp only; omega, by simp; omega, hn _ (by simp [tk1, g1]), Turn.next q1 q2 q3 ⟨F3, r1, r2, r3⟩⟩, by simp only; omega⟩
    · have : j = 2 := by simp at g; omega
      subst this
      simp at j3
      rw [← j3]
      exact ⟨F', q1, q2, q3⟩

theorem back0 (h : StO b w F x) {i k : Nat} (hi : i < x.2.length) (hk : k ≤ x.2[i].length) {K : World → Prop} (hK : ∀ w', Turn (StO b) w w' F (x.1, x.2.set i (x.2[i].drop k)) → K w') :
    CutD Try.prog M38 c38_0 (e38_0 (some ⟨b, 0, none⟩) (i : Int) (k : Int)) w (k38_0 fun e w' => e = .returned (.tuple #[]) ∧ K w') := by
  refine CutD.mk ?_
  rw [t38_0]
  intro w1 z1 z2 z3 z4
  have hS := Upd.same no z1 z2 z3 z4
  have h : StO b w1 F x := Frame.kp.upd h hS (fun _ _ h => h)
  obtain ⟨b2, F1, G, a, c0, p, c, h1, hR, hd, ht, hp⟩ := h.row hi
  obtain ⟨F2, hA⟩ := hR.open hi
  have h4 : x.2[i].length ≤ 4 := h.2 _ (List.getElem_mem hi)
  have hb := (hA.ls.behind hk)
  obtain ⟨F3, hb1, _, _⟩ := hb
  have hc := cloneL_ok hb1.cells (by simp; omega) (fun e => hb1.zero e)
  simp only [List.length_drop] at hc
  refine ⟨_, rfl, _, _, _, hA.blk0.cell rfl, _, rfl, _, _, _, hA.blk0.cell rfl, ⟨by omega, by omega⟩, a, rfl, _, _, _, hA.cell0, ⟨by omega, by omega⟩, ⟨hc.mono ?_⟩⟩
  rintro e w2 ⟨p', c', rfl, hL⟩
  refine ⟨_, _, _, rfl, (hA.blk _ hL.U.none).cell rfl, ⟨by omega, by omega⟩, a, rfl, ?_⟩
  have hput := hA.put _ _ _ _ (Ls.fresh hL) (fun w' => Ending.returned (.tuple #[]) = .returned (.tuple #[]) ∧ K w') (fun w3 h3 => ⟨rfl, hK _ ?_⟩)
  · rw [List.length_drop] at hput
    exact hput
  · have := hp _ _ (set_le h.2 i (by simp; omega)) h3
    exact Turn.next h hS.none (fun _ h => .inl h) this

theorem back_ok (h : StO b w F x) {i k : Nat} (hi : i < x.2.length) (hk : k ≤ x.2[i].length) : Calls Try.prog 38 #[.pointer (some ⟨b, 0, none⟩), .int .i64 (i : Int), .int .i64 (k : Int)] w fun e w' => e = .returned (.tuple #[]) ∧ Turn (StO b) w w' F (gives x.1 (x.2[i].take k), x.2.set i (x.2[i].drop k)) := by
  refine u38 ?_
  rw [t38]
  have h4 : x.2[i].length ≤ 4 := h.2 _ (List.getElem_mem hi)
  obtain ⟨b2, F1, G, a, c0, p, c, h1, hR, hd, ht, hp⟩ := h.row hi
  obtain ⟨F2, hA⟩ := hR.open hi
  have hroom := hA.ls.room
  refine ⟨_, rfl, _, _, _, hA.blk0.cell rfl, ⟨by omega, by omega⟩, a, rfl, _, _, _, hA.cell0, ⟨by omega, by omega⟩, ?_⟩
  refine ⟨WP_loop okProg (M := M38) (σ := Nat) (fun j => e38_1 (some ⟨b, 0, none⟩) (i : Int) (k : Int) (subA p c 0 1) (Int.toNat (k : Int) - 0) (c - 0) ((Int.toNat (k : Int) - 0 : Nat) : Int) (j : Int))
    (fun j w' => j ≤ k ∧ Turn (PlO b2) w w' F1 (gives x.1 (x.2[i].take j))) (fun j _ => k - j) 0 ⟨rfl, rfl, rfl, rfl, rfl, rfl, trivial⟩ ⟨by omega, Turn.same h1⟩ ?_⟩
  rintro j w1 ⟨j1, F1', q1, q2, q3⟩
  rw [t38_1]
  refine ⟨fun g => ?_, fun g => ?_⟩
  · have hj : j < k := by simp at g; omega
    have hj' : j < x.2[i].length := by omega
    obtain ⟨F3, hA'⟩ := (hR.upd q2 hd).open hi
    obtain ⟨a', ha', hc'⟩ := hA'.cells.at1 hj'
    refine ⟨⟨by omega, by simp; omega⟩, a', by rw [subA_zero]; exact ha', _, hc', _, rfl, _, hA'.blk0.cell rfl, ⟨(give_ok q1 _).mono ?_⟩⟩
    rintro e w2 ⟨rfl, hU⟩
    refine ⟨_, rfl, j + 1, ⟨rfl, rfl, rfl, rfl, rfl, by rw [w64 (by omega)]; rfl, trivial⟩, ⟨by omega, ?_⟩, by omega⟩
    rw [gives_succ _ hj']
    exact Turn.next q1 q2 q3 hU
  · have : j = k := by simp at g; omega
    subst this
    obtain ⟨F', r1, r2, r3⟩ := ht _ _ (gives_len _ _) ⟨F1', q1, q2, q3⟩
    exact back0 r1 hi hk fun w' hT => Turn.next r1 r2 r3 hT

theorem hs1_ok {p : Option Addr} {l : List Int} {c : Nat} {bx : Addr} {v : Int} (hb : w.cell? bx = some (.int .i64 v)) (hC : Cells w p (l.map (Value.int .i64))) (hl : l.length ≤ 4) :
    Calls Try.prog 31 #[.slice p l.length c, .pointer (some bx)] w fun e w' => e = .returned (.bool (decide (v ∈ l))) ∧ w' = w := by
  refine u31 ?_
  rw [t31]
  refine ⟨_, hb, ⟨(contains_ok hC (by omega) v).mono ?_⟩⟩
  rintro e w' ⟨rfl, rfl⟩
  exact ⟨_, rfl, rfl, rfl⟩

theorem idxF_ok {p : Option Addr} {L : List (List Int)} {c : Nat} {bx : Addr} {v : Int} (hb : w.cell? bx = some (.int .i64 v)) (hL : RowsAt w p L) (hl : L.length ≤ maxLen) :
    Calls Try.prog 44 #[.slice p L.length c, .func (.func 31) #[] #[.pointer (some bx)]] w fun e w' => (∃ n : Int, e = .returned (.int .i64 n) ∧ decide (n ≥ 0) = keptB L v) ∧ w' = w := by
  refine u44 ?_
  rw [t44]
  refine ⟨WP_loop okProg (M := M44) (σ := Nat) (fun j => e44_1 p L.length c bx (L.length : Int) (j : Int)) (fun j w' => j ≤ L.length ∧ keptB (L.take j) v = false ∧ w' = w) (fun j _ => L.length - j) 0 ⟨rfl, rfl, rfl, rfl, trivial⟩ ⟨by omega, rfl, rfl⟩ ?_⟩
  rintro j w1 ⟨j1, j2, rfl⟩
  rw [t44_1]
  refine ⟨fun g => ?_, fun g => ?_⟩
  · have hj : j < L.length := by simp at g; omega
    obtain ⟨a, q, d, ha, hc, hC, h4⟩ := hL j hj
    refine ⟨⟨by omega, by omega⟩, a, ha, _, _, _, hc, ⟨(hs1_ok hb hC h4).mono ?_⟩⟩
    rintro e w2 ⟨rfl, rfl⟩
    refine ⟨_, rfl, fun g1 => ⟨⟨_, rfl, ?_⟩, rfl⟩, fun g1 => ⟨j + 1, ⟨rfl, rfl, rfl, by rw [w64 (by unfold maxLen at *; omega)]; rfl, trivial⟩, ⟨by omega, ?_, rfl⟩, by omega⟩⟩
    · have : keptB L v = true := by
        unfold keptB
        rw [List.any_eq_true]
        exact ⟨_, List.getElem_mem hj, g1⟩
      rw [this]
      simp
    · rw [List.take_succ_eq_append_getElem hj]
      unfold keptB at j2 ⊢
      rw [List.any_append, j2]
      simpa using g1
  · have : j = L.length := by simp at g; omega
    subst this
    rw [List.take_length] at j2
    exact ⟨⟨_, rfl, by rw [j2]; rfl⟩, rfl⟩
theorem cf_ok {p : Option Addr} {L : List (List Int)} {c : Nat} {bx : Addr} {v : Int} (hb : w.cell? bx = some (.int .i64 v)) (hL : RowsAt w p L) (hl : L.length ≤ maxLen) :
    Calls Try.prog 30 #[.slice p L.length c, .func (.func 31) #[] #[.pointer (some bx)]] w fun e w' => e = .returned (.bool (keptB L v)) ∧ w' = w := by
  refine u30 ?_
  rw [t30]
  refine ⟨(idxF_ok hb hL hl).mono ?_⟩
  rintro e w' ⟨⟨n, rfl, hn⟩, rfl⟩
  exact ⟨_, rfl, by rw [hn], rfl⟩

theorem shas_ok (h : StO b w F x) (v : Int) : Calls Try.prog 16 #[.pointer (some ⟨b, 0, none⟩), .int .i64 v] w fun e w' => e = .returned (.bool (hasE x v)) ∧ Upd no w w' := by
  refine u16 ?_
  rw [t16]
  refine ⟨fun w1 hN w2 z1 z2 z3 z4 => ⟨fun _ => ?_, fun g => by simp at g⟩⟩
  have hS := Upd.same no z1 z2 z3 z4
  have hU := (hN.upd no).and hS
  have hbx : w2.cell? ⟨w.heap.size, 0, none⟩ = some (.int .i64 v) := by
    have := hN.blk'.upd (F := no) hS (fun h => h)
    have := this.cell (k := 0) (v := .int .i64 v) rfl
    simpa [Addr.add] using this
  replace h : StO b w2 F x := Frame.kp.upd h hU (fun _ _ h => h)
  obtain ⟨b2, F1, h1, ⟨p, c, hB⟩, _⟩ := h.ptr
  refine ⟨_, rfl, _, hB.cell rfl, _, hbx, ⟨(out_ok h1 v).mono ?_⟩⟩
  rintro e w3 ⟨rfl, hU3⟩
  refine ⟨_, rfl, fun g => ?_, fun g => ⟨?_, hU.and hU3⟩⟩
  · replace h : StO b w3 F x := Frame.kp.upd h hU3 (fun _ _ h => h)
    obtain ⟨b2, F1, h1, hlen, p, c, hB, hR⟩ := h.rows
    have hbx3 : w3.cell? ⟨w.heap.size, 0, none⟩ = some (.int .i64 v) := by rw [← hbx]; exact World.cell?_of_block (hU3.blk _ (cell_lt hbx) (fun h => h))
    refine ⟨_, rfl, _, _, _, hB.cell rfl, ⟨(cf_ok hbx3 hR hlen).mono ?_⟩⟩
    rintro e w4 ⟨rfl, rfl⟩
    refine ⟨_, rfl, ?_, hU.and hU3⟩
    simp [hasE, g]
  · simp [hasE, g]
theorem shasNil_ok (v : Int) (w : World) : Calls Try.prog 16 #[.pointer none, .int .i64 v] w fun e w' => e = .returned (.bool false) ∧ Upd no w w' := by
  refine u16 ?_
  rw [t16]
  refine ⟨fun w1 hN w2 z1 z2 z3 z4 => ⟨fun g => by simp at g, fun _ => ⟨rfl, (hN.upd no).and (Upd.same no z1 z2 z3 z4)⟩⟩⟩

def keptE (x : KS) (cpu : Int) : List Int := if inC x cpu then rowC x cpu else []
theorem keptL_ok (h : StO b w F x) (cpu : Int) : Calls Try.prog 19 #[.pointer (some ⟨b, 0, none⟩), .int .i64 cpu] w fun e w' => ∃ p c, e = .returned (.slice p (keptE x cpu).length c) ∧ Loc w w' 3 p c (keptE x cpu) := by
  refine u19 ?_
  rw [t19]
  refine ⟨(smay_ok h cpu).mono ?_⟩
  rintro e w1 ⟨rfl, rfl⟩
  refine ⟨_, rfl, fun g => ?_, fun g => ?_⟩
  · have hn : ¬ inC x cpu := fun h => by rw [if_pos h] at g; simp at g
    rw [keptE, if_neg hn]
    exact ⟨none, 0, rfl, Loc.nil (Upd.refl _ _) _⟩
  · have hc : inC x cpu := Classical.byContradiction fun h => by rw [if_neg h] at g; simp at g
    rw [keptE, if_pos hc]
    obtain ⟨i, hi, rfl⟩ := inC_at hc
    obtain ⟨b2, F1, G, a, c0, p, c, h1, hR, hd, ht, hp⟩ := h.row hi
    obtain ⟨F2, hA⟩ := hR.open hi
    have h4 : x.2[i].length ≤ 4 := h.2 _ (List.getElem_mem hi)
    rw [rowC_at hi]
    refine ⟨_, rfl, _, _, _, hA.blk0.cell rfl, ⟨by omega, by omega⟩, a, rfl, _, _, _, hA.cell0, ⟨(cloneL_ok hA.cells (by omega) (fun e => hA.ls.zero e)).mono ?_⟩⟩
    rintro e w2 ⟨p', c', rfl, hL⟩
    exact ⟨_, _, _, rfl, _, _, rfl, hL⟩
theorem kept_ok (h : StO b w F x) (cpu : Int) : Calls Try.prog 19 #[.pointer (some ⟨b, 0, none⟩), .int .i64 cpu] w fun e w' => ∃ p c, e = .returned (.slice p (keptE x cpu).length c) ∧ Cells w' p ((keptE x cpu).map (Value.int .i64)) ∧ Upd no w w' :=
  (keptL_ok h cpu).mono fun _ _ ⟨p, c, he, hL⟩ => ⟨p, c, he, hL.S.cells, hL.U⟩
theorem keptNil_ok (cpu : Int) (w : World) : Calls Try.prog 19 #[.pointer none, .int .i64 cpu] w fun e w' => e = .returned (.slice none 0 0) ∧ w' = w := by
  refine u19 ?_
  rw [t19]
  refine ⟨(smayNil_ok cpu w).mono ?_⟩
  rintro e w1 ⟨rfl, rfl⟩
  exact ⟨_, rfl, fun g => ⟨rfl, rfl⟩, fun g => by simp at g⟩

theorem sfree_ok (h : StO b w F x) : Calls Try.prog 14 #[.pointer (some ⟨b, 0, none⟩)] w fun e w' => e = .returned (.int .i64 (freeN x.1 : Int)) ∧ w' = w := by
  refine u14 ?_
  rw [t14]
  obtain ⟨b2, F1, h1, ⟨p, c, hB⟩, _⟩ := h.ptr
  refine ⟨fun g => by simp at g, fun _ => ⟨_, rfl, _, hB.cell rfl, ⟨(free_ok h1).mono ?_⟩⟩⟩
  rintro e w1 ⟨rfl, rfl⟩
  exact ⟨_, rfl, rfl, rfl⟩
theorem sfreeNil_ok (w : World) : Calls Try.prog 14 #[.pointer none] w fun e w' => e = .returned (.int .i64 0) ∧ w' = w := by
  refine u14 ?_
  rw [t14]
  exact ⟨fun _ => ⟨rfl, rfl⟩, fun g => by simp at g⟩

theorem outsL_ok (h : StO b w F x) : Calls Try.prog 12 #[.pointer (some ⟨b, 0, none⟩)] w fun e w' => ∃ p c, e = .returned (.slice p (outsE x).length c) ∧ Loc w w' 3 p c (outsE x) := by
  have hl := hlen h
  refine u12 ?_
  rw [t12]
  refine ⟨fun g => by simp at g, fun _ => ?_⟩
  refine ⟨WP_loop okProg (M := M12) (σ := Nat × Option Addr × Nat) (fun s => e12_1 (some ⟨b, 0, none⟩) s.2.1 (outsN x s.1).length s.2.2 ((s.1 + 1 : Nat) : Int))
    (fun s w' => s.1 ≤ 8 * x.1.length ∧ Loc w w' 3 s.2.1 s.2.2 (outsN x s.1)) (fun s _ => 8 * x.1.length - s.1) (0, none, 0) ⟨rfl, rfl, rfl, trivial⟩ ⟨by simp, Loc.nil (Upd.refl _ _) _⟩ ?_⟩
  rintro ⟨j, p, c⟩ w1 ⟨j1, hL⟩
  simp only at j1 hL ⊢
  have h1 : StO b w1 F x := Frame.kp.upd h hL.U (fun _ _ h => h)
  obtain ⟨b2, F1, _, ⟨p1, c1, hB⟩, _⟩ := h1.ptr
  rw [t12_1]
  have e0 : IntKind.wrap .i64 ((x.1.length : Int) * 8) = ((8 * x.1.length : Nat) : Int) := by rw [w64 (by omega)]; omega
  refine ⟨_, rfl, _, hB.cell rfl, fun g => ⟨(shas_ok h1 _).mono ?_⟩, fun g => ?_⟩
  · have hj : j < 8 * x.1.length := by rw [e0] at g; simp at g; omega
    have ol := outsN_len x j
    have os := outsN_succ x j
    have ej : IntKind.wrap .i64 (((j + 1 : Nat) : Int) + 1) = ((j + 1 + 1 : Nat) : Int) := by rw [w64 (by omega)]; omega
    rintro e w2 ⟨rfl, hU⟩
    have hL2 := hL.upd hU
    refine ⟨_, rfl, fun g1 => ⟨fun w3 hN => ?_⟩, fun g1 => ?_⟩
    · rw [if_pos (show isOut x (j + 1) = true from g1)] at os
      obtain ⟨p', c', w4, hr, hL3⟩ := hL2.push elI (by omega) hN 35
      exact ⟨p', _, c', w4, hr, (j + 1, p', c'), ⟨rfl, by rw [os]; rfl, by rw [ej]; rfl, trivial⟩, ⟨by simp only; omega, by rw [os]; exact hL3⟩, by simp only; omega⟩
    · rw [if_neg (show ¬ isOut x (j + 1) = true from by unfold isOut; rw [g1]; simp)] at os
      exact ⟨(j + 1, p, c), ⟨rfl, by rw [os]; rfl, by rw [ej]; rfl, trivial⟩, ⟨by simp only; omega, by rw [os]; exact hL2⟩, by simp only; omega⟩
  · have : j = 8 * x.1.length := by rw [e0] at g; simp at g; omega
    subst this
    exact ⟨p, c, rfl, hL⟩
theorem outs_ok (h : StO b w F x) : Calls Try.prog 12 #[.pointer (some ⟨b, 0, none⟩)] w fun e w' => ∃ p c, e = .returned (.slice p (outsE x).length c) ∧ Cells w' p ((outsE x).map (Value.int .i64)) ∧ Upd no w w' :=
  (outsL_ok h).mono fun _ _ ⟨p, c, he, hL⟩ => ⟨p, c, he, hL.S.cells, hL.U⟩
theorem outsNil_ok (w : World) : Calls Try.prog 12 #[.pointer none] w fun e w' => e = .returned (.slice none 0 0) ∧ w' = w := by
  refine u12 ?_
  rw [t12]
  exact ⟨fun _ => ⟨rfl, rfl⟩, fun g => by simp at g⟩

theorem drain_ok (h : StO b w F x) (cpu : Int) : Calls Try.prog 22 #[.pointer (some ⟨b, 0, none⟩), .int .i64 cpu] w fun e w' => e = .returned (.tuple #[.int .i64 (drainE x cpu).1, .int .i64 (drainE x cpu).2]) ∧ Turn (StO b) w w' F (drainS x cpu) := by
  refine u22 ?_
  rw [t22]
  refine ⟨(smay_ok h cpu).mono ?_⟩
  rintro e w1 ⟨rfl, rfl⟩
  refine ⟨_, rfl, fun g => ?_, fun g => ?_⟩
  · have hn : ¬ inC x cpu := fun h => by rw [if_pos h] at g; simp at g
    rw [drainE, drainS, if_neg hn, if_neg hn, if_neg hn]
    exact ⟨rfl, Turn.same h⟩
  · have hc : inC x cpu := Classical.byContradiction fun h => by rw [if_neg h] at g; simp at g
    rw [drainE, drainS, if_pos hc, if_pos hc]
    obtain ⟨i, hi, rfl⟩ := inC_at hc
    obtain ⟨b2, F1, G, a, c0, p, c, h1, hR, hd, ht, hp⟩ := h.row hi
    obtain ⟨F2, hA⟩ := hR.open hi
    rw [rowC_at hi]
    refine ⟨_, rfl, _, _, _, hA.blk0.cell rfl, ⟨by omega, by omega⟩, a, rfl, _, _, _, hA.cell0, ⟨(back_ok h hi (Nat.le_refl _)).mono ?_⟩⟩
    rintro e w2 ⟨rfl, hT⟩
    rw [List.take_length, List.drop_length] at hT
    exact ⟨rfl, rfl, hT⟩
theorem drainNil_ok (cpu : Int) (w : World) : Calls Try.prog 22 #[.pointer none, .int .i64 cpu] w fun e w' => e = .returned (.tuple #[.int .i64 0, .int .i64 1]) ∧ w' = w := by
  refine u22 ?_
  rw [t22]
  refine ⟨(smayNil_ok cpu w).mono ?_⟩
  rintro e w1 ⟨rfl, rfl⟩
  exact ⟨_, rfl, fun g => ⟨rfl, rfl⟩, fun g => by simp at g⟩

theorem fill_le (pg : List Nat) {l : List Int} (h : l.length ≤ 4) : (fillS (pg, l)).2.length ≤ 4 := by
  unfold fillS
  split
  · rename_i h; simp only at h; subst h
    have h1 : ∀ s : List Nat × List Int, (tk1 s).2.length ≤ s.2.length + 1 := fun s => by unfold tk1; split <;> simp
    have a := h1 (pg, [])
    have b := h1 (tk1 (pg, []))
    simp only [List.length_nil] at a
    omega
  · exact h
theorem tk1_len (s : List Nat × List Int) : (tk1 s).1.length = s.1.length := by unfold tk1; split <;> simp [take_len]
theorem fill_len (s : List Nat × List Int) : (fillS s).1.length = s.1.length := by unfold fillS; split <;> simp [tk1_len]
theorem back_len (s : List Nat × List Int) : (backS s).1.length = s.1.length := by unfold backS; split <;> simp [gives_len]

theorem salloc_ok (h : StO b w F x) (cpu : Int) : Calls Try.prog 20 #[.pointer (some ⟨b, 0, none⟩), .int .i64 cpu] w fun e w' => e = .returned (.tuple #[.int .i64 (allocE x cpu).1, .int .i64 (allocE x cpu).2]) ∧ Turn (StO b) w w' F (allocS x cpu) := by
  refine u20 ?_
  rw [t20]
  refine ⟨(smay_ok h cpu).mono ?_⟩
  rintro e w1 ⟨rfl, rfl⟩
  refine ⟨_, rfl, fun g => ?_, fun g => ?_⟩
  · have hn : ¬ inC x cpu := fun h => by rw [if_pos h] at g; simp at g
    rw [allocE, allocS, if_neg hn, if_neg hn, if_neg hn]
    exact ⟨rfl, Turn.same h⟩
  · have hc : inC x cpu := Classical.byContradiction fun h => by rw [if_neg h] at g; simp at g
    rw [allocE, allocS, if_pos hc, if_pos hc]
    obtain ⟨i, hi, rfl⟩ := inC_at hc
    rw [rowC_at hi]
    have h4 := fill_le x.1 (h.2 _ (List.getElem_mem hi))
    generalize hs : fillS (x.1, x.2[i]) = s at h4
    refine ⟨(fill_ok h hi).mono ?_⟩
    rw [hs]
    rintro e w2 ⟨rfl, F', q1, q2, q3⟩
    have hi2 : i < (x.2.set i s.2).length := by simpa using hi
    obtain ⟨b2, F1, G, a, c0, p, c, h1, hR, hd, ht, hp⟩ := q1.row hi2
    obtain ⟨F2, hA⟩ := hR.open hi2
    have hlx : (x.2.set i s.2)[i] = s.2 := by simp
    have hAc := hA.cell0
    rw [hlx] at hAc
    refine ⟨rfl, _, rfl, _, _, _, hA.blk0.cell rfl, ⟨by omega, by simp only [List.length_set]; omega⟩, a, rfl, _, _, _, hAc, fun g1 => ?_, fun g1 => ?_⟩
    · have he : s.2 = [] := by
        apply List.eq_nil_of_length_eq_zero
        rw [w64 (by omega)] at g1
        simp at g1; omega
      simp only [Int.toNat_natCast]
      rw [he] at q1 ⊢
      exact ⟨rfl, F', q1, q2, q3⟩
    · have hpos : 0 < s.2.length := by
        rw [w64 (by omega)] at g1
        simp at g1; omega
      have e1 : IntKind.wrap .i64 ((s.2.length : Int) - 1) = ((s.2.length - 1 : Nat) : Int) := by rw [w64 (by omega)]; omega
      rw [e1]
      have hC := hA.cells
      rw [hlx] at hC
      obtain ⟨a', ha', hc'⟩ := hC.at1 (i := s.2.length - 1) (by omega)
      refine ⟨_, rfl, _, _, _, hA.blk0.cell rfl, ⟨by omega, by simp only [List.length_set]; omega⟩, a, rfl, _, _, _, hAc, ⟨by omega, by omega⟩, a', ha', _, hc', fun w3 z1 z2 z3 z4 => ?_⟩
      have hS := Upd.same no z1 z2 z3 z4
      have q1' : StO b w3 F' (s.1, x.2.set i s.2) := Frame.kp.upd q1 hS (fun _ _ h => h)
      obtain ⟨b2, F1, G, a, c0, p, c, h1, hR, hd, ht, hp⟩ := q1'.row hi2
      obtain ⟨F2, hA⟩ := hR.open hi2
      have hAc := hA.cell0
      rw [hlx] at hAc
      have hroom := hA.ls.room
      rw [hlx] at hroom
      refine ⟨_, rfl, _, _, _, hA.blk0.cell rfl, _, rfl, _, _, _, hA.blk0.cell rfl, ⟨by omega, by simp only [List.length_set]; omega⟩, a, rfl, _, _, _, hAc, ⟨by omega, by omega⟩, ⟨by omega, by omega⟩, ⟨by omega, by simp only [List.length_set]; omega⟩, a, rfl, ?_⟩
      have hls := hA.ls
      rw [hlx] at hls
      have hT := hls.first (k := s.2.length - 1) (by omega)
      rw [← List.dropLast_eq_take] at hT
      have hl : s.2.getLast? = some s.2[s.2.length - 1] := by rw [List.getLast?_eq_getElem?]; simp [hpos]
      have hput := hA.put _ _ _ _ hT (fun w' => Ending.returned (.tuple #[.int .i64 s.2[s.2.length - 1], .int .i64 0]) = .returned (.tuple #[.int .i64 (lastE s.2).1, .int .i64 (lastE s.2).2]) ∧ Turn (StO b) w1 w' F (s.1, x.2.set i s.2.dropLast)) (fun w4 h5 => ⟨by simp [lastE, hl], ?_⟩)
      · rw [List.length_dropLast] at hput
        simp only [Int.toNat_natCast]
        exact hput
      · have h6 := hp _ _ (set_le q1'.2 i (by simp; omega)) h5
        rw [List.set_set] at h6
        exact Turn.next q1 q2 q3 (Turn.next q1' hS.none (fun _ h => .inl h) h6)
theorem sallocNil_ok (cpu : Int) (w : World) : Calls Try.prog 20 #[.pointer none, .int .i64 cpu] w fun e w' => e = .returned (.tuple #[.int .i64 0, .int .i64 1]) ∧ w' = w := by
  refine u20 ?_
  rw [t20]
  refine ⟨(smayNil_ok cpu w).mono ?_⟩
  rintro e w1 ⟨rfl, rfl⟩
  exact ⟨_, rfl, fun g => ⟨rfl, rfl⟩, fun g => by simp at g⟩

theorem sgive0 (h : StO b w F x) {i : Nat} (hi : i < x.2.length) (hl : x.2[i].length ≤ 3) (v : Int) {K : World → Prop} (hK : ∀ w', Turn (StO b) w w' F (x.1, x.2.set i (x.2[i] ++ [v])) → K w') :
    CutD Try.prog M21 c21_0 (e21_0 (some ⟨b, 0, none⟩) (i : Int) v) w (k21_0 fun e w' => e = .returned (.int .i64 0) ∧ K w') := by
  refine CutD.mk ?_
  rw [t21_0]
  intro w1 z1 z2 z3 z4
  have hS := Upd.same no z1 z2 z3 z4
  have h : StO b w1 F x := Frame.kp.upd h hS (fun _ _ h => h)
  obtain ⟨b2, F1, G, a, c0, p, c, h1, hR, hd, ht, hp⟩ := h.row hi
  obtain ⟨F2, hA⟩ := hR.open hi
  refine ⟨_, rfl, _, _, _, hA.blk0.cell rfl, _, rfl, _, _, _, hA.blk0.cell rfl, ⟨by omega, by omega⟩, a, rfl, _, _, _, hA.cell0, ⟨fun w4 hN => ?_⟩⟩
  have hN' : Upd F2 w1 w4 := (hN.upd no).none
  obtain ⟨p', c', w5, hr, hT⟩ := Ls.push elI hA.ls (by omega) hN 35
  obtain ⟨_, _, hU5, _⟩ := id hT
  refine ⟨hA.cell _ hN', (hA.blk _ hN').cell rfl, (hA.blk _ hN').cell rfl, p', _, c', w5, hr, (hA.blk _ hU5).cell rfl, ⟨by omega, by omega⟩, a, rfl, ?_⟩
  refine hA.put _ _ _ _ hT _ fun w6 h6 => ⟨rfl, hK _ ?_⟩
  exact Turn.next h hS.none (fun _ h => .inl h) (hp _ _ (set_le h.2 i (by simp; omega)) h6)

theorem sgive_ok (h : StO b w F x) (cpu v : Int) : Calls Try.prog 21 #[.pointer (some ⟨b, 0, none⟩), .int .i64 cpu, .int .i64 v] w fun e w' => e = .returned (.int .i64 (sgiveE x cpu v)) ∧ Turn (StO b) w w' F (sgiveS x cpu v) := by
  refine u21 ?_
  rw [t21]
  refine ⟨(smay_ok h cpu).mono ?_⟩
  rintro e w1 ⟨rfl, rfl⟩
  refine ⟨_, rfl, fun g => ?_, fun g => ?_⟩
  · have hn : ¬ inC x cpu := fun h => by rw [if_pos h] at g; simp at g
    rw [sgiveE, sgiveS, if_neg hn, if_neg hn, if_neg (fun h => hn h.1)]
    exact ⟨rfl, Turn.same h⟩
  · have hc : inC x cpu := Classical.byContradiction fun h => by rw [if_neg h] at g; simp at g
    refine ⟨(shas_ok h v).mono ?_⟩
    rintro e w2 ⟨rfl, hU⟩
    have h2 : StO b w2 F x := Frame.kp.upd h hU (fun _ _ h => h)
    refine ⟨_, rfl, fun g1 => ?_, fun g1 => ?_⟩
    · have g1 : ¬ hasE x v = true := by simpa using g1
      rw [sgiveE, sgiveS, if_pos hc, if_neg g1, if_neg (fun h => g1 h.2)]
      exact ⟨rfl, F, h2, hU.none, fun _ h => .inl h⟩
    · have g1 : hasE x v = true := by simpa using g1
      rw [sgiveE, sgiveS, if_pos hc, if_pos g1, if_pos ⟨hc, g1⟩]
      obtain ⟨i, hi, rfl⟩ := inC_at hc
      obtain ⟨b2, F1, G, a, c0, p, c, h1, hR, hd, ht, hp⟩ := h2.row hi
      obtain ⟨F2, hA⟩ := hR.open hi
      have h4 : x.2[i].length ≤ 4 := h.2 _ (List.getElem_mem hi)
      rw [rowC_at hi]
      refine ⟨_, rfl, _, _, _, hA.blk0.cell rfl, ⟨by omega, by omega⟩, a, rfl, _, _, _, hA.cell0, fun g2 => ?_, fun g2 => ?_⟩
      · have g2 : 4 ≤ x.2[i].length := by simp at g2; omega
        refine ⟨(back_ok h2 hi (k := 2) (by omega)).mono ?_⟩
        rintro e w3 ⟨rfl, F', q1, q2, q3⟩
        have hb : backS (x.1, x.2[i]) = (gives x.1 (x.2[i].take 2), x.2[i].drop 2) := by simp only [backS]; rw [if_pos g2]
        rw [hb]
        refine ⟨rfl, sgive0 q1 (by simpa using hi) (by simp; omega) v fun w4 hT => ?_⟩
        simp only [List.set_set, List.getElem_set_self] at hT
        exact Turn.next h2 hU.none (fun _ h => .inl h) (Turn.next (s1 := (gives x.1 (x.2[i].take 2), x.2.set i (x.2[i].drop 2))) q1 q2 q3 hT)
      · have g2 : ¬ 4 ≤ x.2[i].length := by simp at g2; omega
        have hb : backS (x.1, x.2[i]) = (x.1, x.2[i]) := by simp only [backS]; rw [if_neg g2]
        rw [hb]
        exact sgive0 h2 hi (by omega) v fun w4 hT => Turn.next h2 hU.none (fun _ h => .inl h) hT
theorem sgiveNil_ok (cpu v : Int) (w : World) : Calls Try.prog 21 #[.pointer none, .int .i64 cpu, .int .i64 v] w fun e w' => e = .returned (.int .i64 1) ∧ w' = w := by
  refine u21 ?_
  rw [t21]
  refine ⟨(smayNil_ok cpu w).mono ?_⟩
  rintro e w1 ⟨rfl, rfl⟩
  exact ⟨_, rfl, fun g => ⟨rfl, rfl⟩, fun g => by simp at g⟩

def okNew (m n : Int) : Prop := 1 ≤ m ∧ m ≤ 64 ∧ 1 ≤ n ∧ n ≤ 12
def newK (m n : Int) : KS := (List.replicate n.toNat 0, List.replicate m.toNat [])
theorem elL : ElemT Try.prog 39 35 1 24 [.slice none 0 0] := ⟨by kernel_rfl, by kernel_rfl, rfl, by omega⟩
theorem snew_ok (m n : Int) (w : World) : Calls Try.prog 7 #[.int .i64 m, .int .i64 n] w fun e w' =>
    (¬ okNew m n ∧ e = .returned (.tuple #[.pointer none, .int .i64 2]) ∧ Upd no w w') ∨
    (okNew m n ∧ ∃ b F, e = .returned (.tuple #[.pointer (some ⟨b, 0, none⟩), .int .i64 0]) ∧ StO b w' F (newK m n) ∧ Upd no w w' ∧ ∀ i, F i → w.heap.size ≤ i) := by
  refine u7 ?_
  rw [t7]
  refine ⟨(new_ok n w).mono ?_⟩
  rintro e w1 (⟨hno, rfl, rfl⟩ | ⟨hyes, b1, F1, rfl, hQ, hU, hF⟩)
  · exact ⟨_, _, rfl, fun g => by simp at g, fun _ => .inl ⟨fun h => hno ⟨h.2.2.1, h.2.2.2⟩, rfl, Upd.refl _ _⟩⟩
  · refine ⟨_, _, rfl, fun _ => ⟨fun g1 => ⟨fun g2 => .inl ⟨?_, rfl, hU⟩, fun g2 => ?_⟩, fun g1 => .inl ⟨?_, rfl, hU⟩⟩, fun g => by simp at g⟩
    · unfold okNew; simp at g2; omega
    · have g1 : ¬ m < 1 := by simpa using g1
      have g2 : ¬ 64 < m := by simpa using g2
      obtain ⟨k, rfl⟩ : ∃ k : Nat, m = k := ⟨m.toNat, by omega⟩
      obtain ⟨w2, hr, hU2, hL⟩ := run_mkV (f := fun _ : Unit => Value.slice none 0 0) (x0 := ()) elL w1 (n := k) (by omega) (by omega) .i64 .i64
      have hS := hL.2
      simp only [List.length_replicate, List.map_replicate] at hS
      refine ⟨_, _, _, w2, hr, ⟨fun w3 hN => .inr ⟨⟨by omega, by omega, hyes.1, hyes.2⟩, w2.heap.size, ?_⟩⟩⟩
      obtain ⟨F, q1, q2, q3⟩ := KpO.new (PO := PlO) (T := 54) (E := 35) (I := 3) (enc := stE) hQ hF hU hU2 hS (fun i hi => (by obtain ⟨a, ha, rfl⟩ := hi; cases ha; exact Nat.le_refl _)) hN (by simp only [stE, List.length_replicate]; rw [Int.toNat_of_nonneg (by omega)])
      exact ⟨F, rfl, q1, q2, q3⟩
    · unfold okNew; simp at g1; omega
end
end Go.Dav
