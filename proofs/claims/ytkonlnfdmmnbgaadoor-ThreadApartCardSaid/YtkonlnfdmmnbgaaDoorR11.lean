/- What is done to one thread changes no other one. -/
import Derived.Test.YtkonlnfdmmnbgaaDoorQ11
import Derived.Test.YtkonlnfdmmnbgaaDoorRow
set_option linter.unusedSimpArgs false
set_option linter.unusedVariables false
namespace Go.Dav
open Go.Proofs
/-- A struct that came in. -/
theorem open_rec {H : Type} {enc : TypeId × Value → H} {P : Program} {w : World} {base : Nat} {spare : Nat → Bool} {held : Bool} {α : Type} {f : α → List Value} {Q : α → Prop} {e : TypeId} {v : Value} {cs0 : Array Value} {d : DataW H} {p : List MemPlace}
    (hd : ∀ n cs y, DataW.trod enc P w base spare held n e cs = some y → ∃ x, cs = f x ∧ Q x) (hv : v = .agg cs0) (h : DataW.Trod enc P w base spare held e v d p) : ∃ x, v = .agg (f x).toArray ∧ Q x := by
  subst hv
  obtain ⟨fuel, h⟩ := h
  obtain ⟨x, hx, hq⟩ := hd _ _ _ h
  refine ⟨x, ?_, hq⟩
  simp [Value.cells] at hx
  rw [← hx]
/-- A list of records, owned. -/
def LsR {α : Type} (T : TypeId) (sz : Nat) (f : α → List Value) : Ob (Option Addr × Nat × List α) := fun w F x => (∀ i, F i ↔ fpS x.1 i) ∧ Sl w T sz x.1 x.2.2.length x.2.1 (x.2.2.flatMap f)
instance Frame.lsR {α : Type} (T : TypeId) (sz : Nat) (f : α → List Value) : Frame (LsR T sz f) where
  upd := fun ⟨h1, h2⟩ k hG => ⟨h1, h2.upd k (fun i hi => hG i ((h1 i).2 hi))⟩
  lt := fun ⟨h1, h2⟩ i hi => h2.lt i ((h1 i).1 hi)
theorem Mine.rot3 {α β γ : Type} {A : Ob α} {B : Ob β} {C : Ob γ} {W w : World} {a : α} {b : β} {c : γ} (h : Mine W w (Star (Star C A) B) ((c, a), b)) : Mine W w (Star (Star A B) C) ((a, b), c) := by
  obtain ⟨F, ⟨F1, F2, ⟨F3, F4, h1, h2, h3, h4⟩, k1, k2, k3⟩, u1, u2⟩ := h
  refine ⟨F, ⟨fun i => F4 i ∨ F2 i, F3, ⟨F4, F2, h2, k1, fun _ => Iff.rfl, fun i hi hf => k3 i ((h3 i).2 (.inr hi)) hf⟩, h1, fun i => ?_, fun i hi hf => ?_⟩, u1, u2⟩
  · rw [k2 i, h3 i]
    constructor
    · rintro ((h | h) | h)
      · exact .inr h
      · exact .inl (.inl h)
      · exact .inl (.inr h)
    · rintro ((h | h) | h)
      · exact .inl (.inr h)
      · exact .inr h
      · exact .inl (.inl h)
  · rcases hi with hi | hi
    · exact h4 i hf hi
    · exact k3 i ((h3 i).2 (.inl hf)) hi
theorem Mine.group {α β γ δ : Type} {A : Ob α} {B : Ob β} {C : Ob γ} {D : Ob δ} {W w : World} {a : α} {b : β} {c : γ} {d : δ} (h : Mine W w (Star (Star (Star A B) C) D) (((a, b), c), d)) : Mine W w (Star A (Star (Star B C) D)) (a, ((b, c), d)) := by
  obtain ⟨F, ⟨F1, F2, ⟨F3, F4, ⟨F5, F6, h1, h2, h3, h4⟩, k1, k2, k3⟩, m1, m2, m3⟩, u1, u2⟩ := h
  refine ⟨F, ⟨F5, fun i => (F6 i ∨ F4 i) ∨ F2 i, h1, ⟨fun i => F6 i ∨ F4 i, F2, ⟨F6, F4, h2, k1, fun _ => Iff.rfl, fun i hi hf => k3 i ((h3 i).2 (.inr hi)) hf⟩, m1, fun _ => Iff.rfl, fun i hi hf => ?_⟩, fun i => ?_, fun i hi hf => ?_⟩, u1, u2⟩
  · rcases hi with hi | hi
    · exact m3 i ((k2 i).2 (.inl ((h3 i).2 (.inr hi)))) hf
    · exact m3 i ((k2 i).2 (.inr hi)) hf
  · rw [m2 i, k2 i, h3 i]
    constructor
    · rintro (((h | h) | h) | h)
      · exact .inl h
      · exact .inr (.inl (.inl h))
      · exact .inr (.inl (.inr h))
      · exact .inr (.inr h)
    · rintro (h | ((h | h) | h))
      · exact .inl (.inl (.inl h))
      · exact .inl (.inl (.inr h))
      · exact .inl (.inr h)
      · exact .inr h
  · rcases hf with (hf | hf) | hf
    · exact h4 i hi hf
    · exact k3 i ((h3 i).2 (.inl hi)) hf
    · exact m3 i ((k2 i).2 (.inl ((h3 i).2 (.inl hi)))) hf

theorem tl_sAt {x : TX} {n : Int} (h : n ∈ tlE x) : ∃ t, sAt x.2 n = some t ∧ getE x n = (t, 0) := by
  unfold tlE at h
  rw [mem_outL] at h
  obtain ⟨h1, h2, h3⟩ := h
  have hi : n.toNat - 1 < x.2.length := by omega
  have hn : n = ((n.toNat - 1 : Nat) : Int) + 1 := by omega
  have h4 : hasE (okOf x.2) (((n.toNat - 1 : Nat) : Int) + 1) = true := by rw [← hn]; exact h3
  rw [ok_has hi] at h4
  cases hq : x.2[n.toNat - 1] with
  | none => rw [hq] at h4; cases h4
  | some t =>
    have h5 : sAt x.2 n = some t := by rw [hn, sAt_of hi]; exact hq
    exact ⟨t, h5, by unfold getE; rw [h5]⟩
theorem thE_len (t : Th) : (thE t).length = 6 := rfl
theorem thE_one (t : Th) : ∀ u ∈ thE t, u.oneCell' = true := by simp [thE, Value.oneCell']
theorem elH : ElemT Tryd.prog 51 40 6 40 (thE (0, 0, 0, false, false, 0)) := ⟨by kernel_rfl, by kernel_rfl, rfl, by omega⟩
theorem eq_th (t : Th) (w : World) : (Op.equal 40 (.agg (thE t).toArray) (.agg (thE t).toArray)).run Tryd.prog w = .ok true w := by
  have := run_eq_struct (P := Tryd.prog) (t := 40) (thE t) (by kernel_rfl) (by kernel_rfl) (by kernel_rfl) (vs := thE t) (by rfl) w
  rw [this]
  congr 1
  simp [thE, eqL, scEq]

section
variable {W w : World} {b1 b2 pm : Nat} {x y : TX} {a : Int × Int × Int × BV × Int × Bool} {p q : Option Addr} {c d : Nat}
abbrev ApC (pm : Nat) := Star (Star (Rw pm 34 recIIIUIB) (Ls 3)) (LsR 40 6 thE)
def wasL (x : TX) (j : Nat) : List Th := ((tlE x).take j).map (fun n => (getE x n).1)
theorem wasL_succ {j : Nat} (h : j < (tlE x).length) : wasL x (j + 1) = wasL x j ++ [(getE x (tlE x)[j]).1] := by
  unfold wasL
  rw [List.take_succ_eq_append_getElem h, List.map_append]
  rfl
theorem apart2 (hTab : Tab W) (hl32 : x.2.length = 32) (hM : Mine W w (Star (Star (ThO b1) (RtO b2)) (ApC pm)) ((x, x), ((a, (p, c, tlE x)), (q, d, wasL x (tlE x).length)))) :
    CutD Tryd.prog M4 c4_2 (e4_2 ⟨pm, 0, none⟩ (some ⟨b1, 0, none⟩) (some ⟨b2, 0, none⟩) p (tlE x).length c q (tlE x).length d) w (k4_2 fun e w' => e = .returned (.bool true) ∧ Upd no W w') := by
  refine CutD.mk ?_
  rw [t4_2]
  have hle := tlE_le x hl32
  have hwl : (wasL x (tlE x).length).length = (tlE x).length := by simp [wasL]
  obtain ⟨G, hC, _⟩ := hM.right
  obtain ⟨G1, hC1, _⟩ := hC.left
  obtain ⟨G2, hC2, _⟩ := hC1.left
  have hB := hC2.blk
  simp only at hB
  refine ⟨_, hB.cell rfl, _, hB.cell rfl, _, hB.cell rfl, _, hB.cell rfl, _, hB.cell rfl, _, hB.cell rfl, ⟨(do_ok (a := a) hTab hM).mono ?_⟩⟩
  clear hM hC hC1 hC2 hB
  rintro e w2 ⟨rfl, y, hK, hM⟩
  refine ⟨_, rfl, ?_⟩
  refine ⟨WP_loop okProg (M := M4) (σ := Nat) (fun j => e4_5 ⟨pm, 0, none⟩ (some ⟨b1, 0, none⟩) p (tlE x).length c q (tlE x).length d (j : Int)) (fun j w => j ≤ (tlE x).length ∧ Mine W w (Star (Star (ThO b1) (RtO b2)) (ApC pm)) ((y, y), ((a, (p, c, tlE x)), (q, d, wasL x (tlE x).length)))) (fun j _ => (tlE x).length - j) 0 ⟨rfl, rfl, rfl, rfl, rfl, trivial⟩ ⟨by omega, hM⟩ ?_⟩
  clear hM
  rintro j w3 ⟨j1, hM⟩
  rw [t4_5]
  refine ⟨fun g => ?_, fun g => ?_⟩
  · have hj : j < (tlE x).length := by simp at g; omega
    obtain ⟨t, ht, hg⟩ := tl_sAt (List.getElem_mem hj)
    obtain ⟨_, hC, _⟩ := hM.right
    obtain ⟨_, hC1, _⟩ := hC.left
    obtain ⟨_, hC2, _⟩ := hC1.right
    obtain ⟨a1, ha1, hc1⟩ := hC2.cells.at1 hj
    subst ha1
    clear hC hC1 hC2
    obtain ⟨_, hA, _⟩ := hM.ll
    refine ⟨⟨by omega, by omega⟩, a1, rfl, _, hc1, ⟨(get_ok hA _).mono ?_⟩⟩
    rintro e w4 ⟨rfl, hU⟩
    replace hM := hM.upd hU
    clear hA hU hc1
    refine ⟨_, _, _, _, _, _, _, rfl, ⟨fun w5 hN => ?_⟩⟩
    replace hM := hM.add (hN.upd no) (Rw.new (enc := thE) (s := ((0 : Int), (0 : BV), (0 : Int), false, false, (0 : Int))) hN rfl) (fun _ h => Nat.le_of_eq h.symm)
    generalize w4.heap.size = b3 at hM hN ⊢
    clear hN
    obtain ⟨_, hA, hT⟩ := hM.right
    refine hA.blk.wr0 (by simp [thE]) fun w6 hW w7 z1 z2 z3 z4 => ?_
    replace hM := hT _ _ (hA.turned (s' := (getE y (tlE x)[j]).1) hW.U hW.blk')
    clear hA hT hW
    replace hM := hM.upd (Upd.same no z1 z2 z3 z4)
    have hB3 := atBlk hM.right
    simp only at hB3
    obtain ⟨_, hX, _⟩ := hM.left
    obtain ⟨_, hC, _⟩ := hX.right
    obtain ⟨_, hC1, _⟩ := hC.left
    obtain ⟨_, hC2, _⟩ := hC1.right
    obtain ⟨_, hC3, _⟩ := hC1.left
    obtain ⟨_, hC4, _⟩ := hC.right
    have hB := hC3.blk
    simp only at hB
    obtain ⟨a2, ha2, hc2⟩ := hC2.cells.at1 hj
    cases ha2
    have hj' : j < (wasL x (tlE x).length).length := by rw [hwl]; exact hj
    obtain ⟨a5, ha5, hc5⟩ := hC4.2.cells.atk thE_len (by decide) (l := wasL x (tlE x).length) hj'
    simp only at ha5
    subst ha5
    have hw5 : (wasL x (tlE x).length)[j] = t := by
      have h0 : (wasL x (tlE x).length)[j]? = some t := by
        unfold wasL
        rw [List.getElem?_map, List.take_length, List.getElem?_eq_getElem hj, Option.map_some, hg]
      rw [List.getElem?_eq_getElem hj'] at h0
      exact Option.some.inj h0
    rw [hw5] at hc5
    have nx : ∃ s : Nat, CoversL (e4_5 ⟨pm, 0, none⟩ (some ⟨b1, 0, none⟩) (some a1) (tlE x).length c (some a5) (tlE x).length d (IntKind.wrap .i64 ((j : Int) + 1))) (e4_5 ⟨pm, 0, none⟩ (some ⟨b1, 0, none⟩) (some a1) (tlE x).length c (some a5) (tlE x).length d (s : Int)) ∧ (s ≤ (tlE x).length ∧ Mine W w7 (Star (Star (ThO b1) (RtO b2)) (ApC pm)) ((y, y), ((a, (some a1, c, tlE x)), (some a5, d, wasL x (tlE x).length)))) ∧ (tlE x).length - s < (tlE x).length - j :=
      ⟨j + 1, ⟨rfl, rfl, rfl, rfl, by rw [w64 (by omega)]; rfl, trivial⟩, ⟨by omega, hM.drop⟩, by omega⟩
    refine ⟨⟨by omega, by omega⟩, a1, rfl, _, hc2, _, hB.cell rfl, fun g1 => ?_, fun _ => nx⟩
    have hne : (tlE x)[j] ≠ a.2.1 := by simpa using g1
    have hgy : getE y (tlE x)[j] = (t, 0) := by unfold getE; rw [hK _ _ hne ht]
    rw [hgy] at hB3 ⊢
    refine ⟨fun _ => ?_, fun g => by simp at g⟩
    exact ⟨_, hB3.cell rfl, _, hB3.cell rfl, _, hB3.cell rfl, _, hB3.cell rfl, _, hB3.cell rfl, _, hB3.cell rfl, ⟨by omega, by omega⟩, a5, rfl, _, hc5 0 _ rfl, _, hc5 1 _ rfl, _, hc5 2 _ rfl, _, hc5 3 _ rfl, _, hc5 4 _ rfl, _, hc5 5 _ rfl, _, eq_th t w7, rfl, fun g => by simp at g, fun _ => nx⟩
  · refine CutD.mk ?_
    rw [t4_3]
    refine ⟨(known_ok (hTab.no hM.U)).mono ?_⟩
    rintro e w' ⟨rfl, hU⟩
    exact ⟨_, rfl, rfl, hM.U.and hU⟩

theorem apart0 (hTab : Tab W) (hM : Mine W w (Star (Star (ThO b1) (RtO b2)) (Rw pm 34 recIIIUIB)) ((x, x), a)) :
    CutD Tryd.prog M4 c4_0 (e4_0 ⟨pm, 0, none⟩ (some ⟨b1, 0, none⟩) (some ⟨b2, 0, none⟩)) w (k4_0 fun e w' => e = .returned (.bool true) ∧ Upd no W w') := by
  refine CutD.mk ?_
  rw [t4_0]
  have hl32 : x.2.length = 32 := by obtain ⟨_, ⟨_, _, hl⟩, _⟩ := hM.lr; exact hl
  have hle := tlE_le x hl32
  obtain ⟨_, hA, _⟩ := hM.ll
  refine ⟨(tlist_ok hA).mono ?_⟩
  rintro e w2 ⟨p, c, rfl, hL⟩
  replace hM : Mine W w2 (Star (Star (Star (ThO b1) (RtO b2)) (Rw pm 34 recIIIUIB)) (Ls 3)) (((x, x), a), (p, c, tlE x)) := hM.add hL.U ⟨fun _ => Iff.rfl, hL.S⟩ hL.F
  clear hA hL
  refine ⟨_, _, _, rfl, ?_⟩
  refine ⟨WP_loop okProg (M := M4) (σ := Nat × Option Addr × Nat) (fun s => e4_4 ⟨pm, 0, none⟩ (some ⟨b1, 0, none⟩) (some ⟨b2, 0, none⟩) p (tlE x).length c s.2.1 (wasL x s.1).length s.2.2 (s.1 : Int))
    (fun s w => s.1 ≤ (tlE x).length ∧ LocR thE 6 w2 w 40 s.2.1 s.2.2 (wasL x s.1)) (fun s _ => (tlE x).length - s.1) (0, none, 0) ⟨rfl, rfl, rfl, rfl, rfl, rfl, trivial⟩ ⟨by simp, LocR.nil (Upd.refl _ _) _⟩ ?_⟩
  rintro ⟨j, q, d⟩ w3 ⟨j1, hL⟩
  simp only at j1 hL ⊢
  have hwl : (wasL x j).length = j := by simp [wasL]; omega
  have hM3 := hM.upd hL.U
  rw [t4_4]
  refine ⟨fun g => ?_, fun g => ?_⟩
  · have hj : j < (tlE x).length := by simp at g; omega
    obtain ⟨_, hC2, _⟩ := hM3.right
    obtain ⟨a1, ha1, hc1⟩ := hC2.cells.at1 hj
    obtain ⟨_, hX, _⟩ := hM3.left
    obtain ⟨_, hX1, _⟩ := hX.left
    obtain ⟨_, hA, _⟩ := hX1.left
    refine ⟨⟨by omega, by omega⟩, a1, ha1, _, hc1, ⟨(get_ok hA _).mono ?_⟩⟩
    rintro e w4 ⟨rfl, hU⟩
    have hL4 := hL.upd hU
    refine ⟨_, _, _, _, _, _, _, rfl, ⟨fun w5 hN => ?_⟩⟩
    refine hN.blk'.wr0 (by simp) fun w6 hW => ?_
    have hB := hW.blk'
    have hU6 : Upd no w4 w6 := (hN.upd no).trans hW.U (fun i hi e => absurd hi (by omega))
    have hL6 := hL4.upd hU6
    refine ⟨_, hB.cell rfl, _, hB.cell rfl, _, hB.cell rfl, _, hB.cell rfl, _, hB.cell rfl, _, hB.cell rfl, ⟨fun w7 hN7 => ?_⟩⟩
    have hs := wasL_succ (x := x) hj
    obtain ⟨p', c', w8, hr, hL8⟩ := hL6.push elH thE_len thE_one (by rw [hwl]; omega) (by rw [hwl]; omega) (x := (getE x (tlE x)[j]).1) rfl hN7 51
    rw [← hs] at hr hL8
    exact ⟨p', _, c', w8, hr, (j + 1, p', c'), ⟨rfl, rfl, rfl, rfl, rfl, by rw [w64 (by omega)]; rfl, trivial⟩, ⟨by simp only; omega, hL8⟩, by simp only; omega⟩
  · have hjj : j = (tlE x).length := by simp at g; omega
    subst hjj
    have hM4 := hM.add hL.U (B := LsR 40 6 thE) (t := (q, d, wasL x (tlE x).length)) (G := fpS q) ⟨fun _ => Iff.rfl, hL.S⟩ hL.F
    rw [hwl]
    exact apart2 hTab hl32 hM4.group
end
theorem threadApart_ok {W : World} (hTab : Tab W) {p : Option Addr} {l : List (Int × Int × Int × BV × Int × Bool)} {c : Nat} {a : Int × Int × Int × BV × Int × Bool} (_ : ∀ x ∈ l, okIIIUIB x) (h : Cells W p (l.flatMap recIIIUIB)) (_ : l.length ≤ maxLen) (_ : okIIIUIB a) :
    Calls Tryd.prog 4 #[.slice p l.length c, .agg (recIIIUIB a).toArray] W fun e w' => e = .returned (.bool true) ∧ Upd no W w' := by
  refine u4 ?_
  rw [t4]
  refine ⟨fun w1 hN => ?_⟩
  have hM : Mine W w1 (Rw W.heap.size 34 recIIIUIB) a := Mine.new (Upd.refl _ _) (hN.upd no) (Rw.new hN rfl) (fun i hi => Nat.le_of_eq hi.symm)
  generalize W.heap.size = pm at hM hN ⊢
  clear hN
  refine ⟨(tnew_ok 8 w1).mono ?_⟩
  rintro e w2 hh
  obtain ⟨_, b1, F1, rfl, hQ, hU, hF⟩ := hh.resolve_left (fun h => absurd (by unfold okC; omega) h.1)
  replace hM := hM.add hU hQ hF
  clear hU hQ hF hh
  refine ⟨_, _, rfl, ⟨(rtnew_ok 8 w2).mono ?_⟩⟩
  rintro e w3 hh
  obtain ⟨_, b2, F2, rfl, hQ, hU, hF⟩ := hh.resolve_left (fun h => absurd (by unfold okC; omega) h.1)
  replace hM := (hM.add hU hQ hF).rot3
  clear hU hQ hF hh
  refine ⟨_, _, rfl, fun g => by simp at g, fun _ => ?_⟩
  refine ⟨WP_loop okProg (M := M4) (σ := Nat × TX) (fun x => e4_1 p l.length c ⟨pm, 0, none⟩ (some ⟨b1, 0, none⟩) (some ⟨b2, 0, none⟩) (x.1 : Int))
    (fun x w => x.1 ≤ l.length ∧ x.1 ≤ 80 ∧ Mine W w (Star (Star (ThO b1) (RtO b2)) (Rw pm 34 recIIIUIB)) ((x.2, x.2), a)) (fun x _ => l.length - x.1) (0, newT 8) ⟨rfl, rfl, rfl, rfl, rfl, trivial⟩ ⟨by simp, by simp, hM⟩ ?_⟩
  clear hM
  rintro ⟨i, x⟩ w ⟨h1, h2, hM⟩
  simp only at h1 h2 hM ⊢
  rw [t4_1]
  refine ⟨fun g1 => ⟨fun g2 => ?_, fun g2 => apart0 hTab hM⟩, fun g1 => apart0 hTab hM⟩
  have hi : i < l.length := by simpa using g1
  have hi2 : i < 80 := by simp at g2; omega
  obtain ⟨a', rfl, hc⟩ := (h.no hM.U).atk recIIIUIB_len (by omega) hi
  refine ⟨⟨by omega, by omega⟩, a', rfl, _, hc 0 _ rfl, _, hc 1 _ rfl, _, hc 2 _ rfl, _, hc 3 _ rfl, _, hc 4 _ rfl, _, hc 5 _ rfl, ⟨(do_ok (a := l[i]) hTab hM).mono ?_⟩⟩
  rintro e w2 ⟨rfl, y, _, hM⟩
  exact ⟨_, rfl, fun g => by simp at g, fun _ => ⟨(i + 1, y), ⟨rfl, rfl, rfl, rfl, by rw [w64 (by omega)]; rfl, trivial⟩, ⟨by simp only; omega, by simp only; omega, hM⟩, by simp only; omega⟩⟩
end Go.Dav
