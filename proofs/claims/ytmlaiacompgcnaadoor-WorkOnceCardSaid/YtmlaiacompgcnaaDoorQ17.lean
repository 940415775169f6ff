/- Each work is taken once. -/
import Derived.Test.YtmlaiacompgcnaaDoorP17
set_option linter.unusedSimpArgs false
set_option linter.unusedVariables false
namespace Go.Dav
open Go.Proofs
theorem ct_perm {l : List Int} {Q : QL} (h : ∀ v, l.count v = ct Q v) : l.length = Q.flatten.length := (List.perm_iff_count.2 h).length_eq
theorem ct_few {l : List Int} {Q : QL} (hI : WQ Q) (h : ∀ v, l.count v = ct Q v) : l.Nodup ∧ l.length ≤ 32 := by
  have hn : l.Nodup := List.nodup_iff_count.2 fun v => by rw [h]; exact hI.one v
  exact ⟨hn, few hn fun v hv => hI.rng v (by rw [← h]; exact List.count_pos_iff.2 hv)⟩
theorem qu_cases (Q : QL) (cpu : Int) : ((quE Q cpu).2 ≠ 0 ∧ quS Q cpu = Q) ∨ ((quE Q cpu).2 = 0 ∧ ∃ i, ∃ hi : i < Q.length, quS Q cpu = Q.set i (Q[i] ++ [(quE Q cpu).1])) := by
  unfold quE quS
  by_cases hc : inW Q cpu (-1)
  · rw [if_pos hc, if_pos hc]
    obtain ⟨i, hi, rfl, _⟩ := inW_at hc (by omega)
    rw [rowW_at hi, ix_of]
    cases freeId Q with
    | none => exact .inl ⟨by simp, rfl⟩
    | some j => exact .inr ⟨rfl, i, hi, rfl⟩
  · rw [if_neg hc, if_neg hc]
    exact .inl ⟨by simp, rfl⟩
theorem ta_cases {Q : QL} (hO : once Q) (cpu : Int) : ((taE Q cpu).2 ≠ 0 ∧ taS Q cpu = Q) ∨ ((taE Q cpu).2 = 0 ∧ ∃ i, ∃ hi : i < Q.length, (taE Q cpu).1 ∈ Q[i] ∧ taS Q cpu = Q.set i (Q[i].erase (taE Q cpu).1)) := by
  unfold taE taS
  by_cases hc : inW Q cpu 0
  · rw [if_pos hc, if_pos hc]
    obtain ⟨i, hi, rfl, _⟩ := inW_at hc (by omega)
    have hz : 0 < Q.length := by omega
    have e0 : rowW Q (-1) = Q[0] := rowW_at (i := 0) hz
    rw [rowW_at hi, e0]
    have hd : ∀ {k : Nat} (hk : k < Q.length) {a : Int}, a ∈ Q[k] → dpS Q a = Q.set k (Q[k].erase a) := fun {k} hk {a} ha => by
      rw [dpS, wh_in hO hk ha]
      simp only
      rw [ix_of, rowW_at hk]
    cases h1 : Q[i] with
    | cons a l =>
      refine .inr ⟨rfl, i, hi, by rw [h1]; simp, ?_⟩
      exact hd hi (by rw [h1]; simp)
    | nil =>
      cases h2 : Q[0] with
      | cons a l =>
        refine .inr ⟨rfl, 0, hz, by rw [h2]; simp, ?_⟩
        exact hd hz (by rw [h2]; simp)
      | nil => exact .inl ⟨by simp, rfl⟩
  · rw [if_neg hc, if_neg hc]
    exact .inl ⟨by simp, rfl⟩
theorem four {Q : QL} (h : Q.length = 4) : ((rowW Q 0).length : Int) + (rowW Q 1).length + (rowW Q 2).length + (rowW Q (-1)).length = (Q.flatten.length : Int) ∧ lsE Q 0 = rowW Q 0 ∧ lsE Q 1 = rowW Q 1 ∧ lsE Q 2 = rowW Q 2 ∧ lsE Q (-1) = rowW Q (-1) := by
  match Q, h with
  | [a, b, c, d], _ =>
    have e0 : rowW [a, b, c, d] 0 = b := rfl
    have e1 : rowW [a, b, c, d] 1 = c := rfl
    have e2 : rowW [a, b, c, d] 2 = d := rfl
    have e3 : rowW [a, b, c, d] (-1) = a := rfl
    have hin : ∀ k : Int, -1 ≤ k → k ≤ 2 → inW [a, b, c, d] k (-1) := fun k h1 h2 => ⟨h1, by simp; omega⟩
    refine ⟨by rw [e0, e1, e2, e3]; simp; omega, ?_, ?_, ?_, ?_⟩
    · rw [lsE, if_pos (hin 0 (by omega) (by omega))]
    · rw [lsE, if_pos (hin 1 (by omega) (by omega))]
    · rw [lsE, if_pos (hin 2 (by omega) (by omega))]
    · rw [lsE, if_pos (hin (-1) (by omega) (by omega))]

section
variable {W w : World} {b1 : Nat} {Q : QL} {p : Option Addr} {c : Nat} {l : List Int}
abbrev WoO (b1 : Nat) := Star (WkI b1) (Ls 3)
theorem wonce2 (hTab : Tab W) (hM : Mine W w (WoO b1) (Q, (p, c, l))) (h4 : Q.length = 4) (hl : ∀ v, l.count v = ct Q v) :
    CutD Tryd.prog M4 c4_2 (e4_2 (some ⟨b1, 0, none⟩) p l.length c) w (k4_2 fun e w' => e = .returned (.bool true) ∧ Upd no W w') := by
  refine CutD.mk ?_
  rw [t4_2]
  have hI : WQ Q := by obtain ⟨_, hA, _⟩ := hM.left; exact hA.wq
  obtain ⟨f1, f2, f3, f4, f5⟩ := four h4
  have hln := (ct_few hI hl).2
  rw [← ct_perm hl] at f1
  obtain ⟨_, hA, hT⟩ := hM.left
  refine ⟨(wload_ok hA 0).mono ?_⟩
  rintro e w2 ⟨rfl, hU⟩
  replace hM := hM.upd hU
  obtain ⟨_, hA, hT⟩ := hM.left
  refine ⟨_, rfl, ⟨(wload_ok hA 1).mono ?_⟩⟩
  rintro e w3 ⟨rfl, hU⟩
  replace hM := hM.upd hU
  obtain ⟨_, hA, hT⟩ := hM.left
  refine ⟨_, rfl, ⟨(wload_ok hA 2).mono ?_⟩⟩
  rintro e w4 ⟨rfl, hU⟩
  replace hM := hM.upd hU
  obtain ⟨_, hA, hT⟩ := hM.left
  refine ⟨_, rfl, ⟨(wload_ok hA (-1)).mono ?_⟩⟩
  rintro e w5 ⟨rfl, hU⟩
  replace hM := hM.upd hU
  simp only [f2, f3, f4, f5]
  have es : IntKind.wrap .i64 (IntKind.wrap .i64 (IntKind.wrap .i64 (((rowW Q 0).length : Int) + ((rowW Q 1).length : Int)) + ((rowW Q 2).length : Int)) + ((rowW Q (-1)).length : Int)) = (l.length : Int) := by
    rw [w64 (x := ((rowW Q 0).length : Int) + ((rowW Q 1).length : Int)) (by omega), w64 (x := ((rowW Q 0).length : Int) + ((rowW Q 1).length : Int) + ((rowW Q 2).length : Int)) (by omega), w64 (by omega)]
    exact f1
  refine ⟨_, rfl, fun _ => ⟨(known_ok (hTab.no hM.U)).mono ?_⟩, fun g => by rw [es] at g; simp at g⟩
  rintro e w' ⟨rfl, hU⟩
  exact ⟨_, rfl, rfl, hM.U.and hU⟩
theorem wonce1 (hTab : Tab W) (hM : Mine W w (WoO b1) (Q, (p, c, l))) (h4 : Q.length = 4) (hl : ∀ v, l.count v = ct Q v) :
    CutD Tryd.prog M4 c4_1 (e4_1 (some ⟨b1, 0, none⟩) p l.length c) w (k4_1 fun e w' => e = .returned (.bool true) ∧ Upd no W w') := by
  refine CutD.mk ?_
  rw [t4_1]
  have hI : WQ Q := by obtain ⟨_, hA, _⟩ := hM.left; exact hA.wq
  have hln := (ct_few hI hl).2
  refine ⟨WP_loop okProg (M := M4) (σ := Nat) (fun j => e4_5 (some ⟨b1, 0, none⟩) p l.length c (j : Int)) (fun j w' => j ≤ l.length ∧ w' = w) (fun j _ => l.length - j) 0 ⟨rfl, rfl, rfl, trivial⟩ ⟨by omega, rfl⟩ ?_⟩
  rintro j w2 ⟨j1, rfl⟩
  rw [t4_5]
  refine ⟨fun g => ?_, fun g => ?_⟩
  · have hj : j < l.length := by simp at g; omega
    obtain ⟨_, hA, hT⟩ := hM.right
    obtain ⟨a, ha, hc⟩ := hA.cells.at1 hj
    obtain ⟨_, hB, _⟩ := hM.left
    refine ⟨⟨by omega, by omega⟩, a, ha, _, hc, ⟨(whas_ok hB _).mono ?_⟩⟩
    rintro e w3 ⟨rfl, rfl⟩
    have hin : (whP Q l[j]).2 = true := by
      have h0 : 0 < ct Q l[j] := by rw [← hl]; exact List.count_pos_iff.2 (List.getElem_mem hj)
      rcases wh_cases hI.one l[j] with ⟨_, k2⟩ | ⟨i, hi, hv, k1, _⟩
      · omega
      · rw [whP, k1]
    simp only [hin]
    exact ⟨_, rfl, fun g => by simp at g, fun _ => ⟨j + 1, ⟨rfl, rfl, by rw [w64 (by omega)]; rfl, trivial⟩, ⟨by omega, by first | rfl | trivial⟩, by omega⟩⟩
  · have : j = l.length := by simp at g; omega
    subst this
    exact wonce2 hTab hM h4 hl

theorem wonce7 {k : Option Addr} {n d : Nat} {i : Int} {a : Int} {p' : Option Addr} {c' : Nat} {l' : List Int} {B : Env → World → Prop} (hM : Mine W w (WoO b1) (Q, (p', c', l'))) (hn : (l'.length : Int) = (l.length : Int) - 1) (hl32 : l.length ≤ 32) (ha : ct Q a = 0)
    (hB : ∀ w', Mine W w' (WoO b1) (Q, (p', c', l')) → B (e4_4 k n d (some ⟨b1, 0, none⟩) p' l'.length c' (IntKind.wrap .i64 (i + 1))) w') :
    CutD Tryd.prog M4 c4_7 (e4_7 k n d (some ⟨b1, 0, none⟩) p l.length c i a p' l'.length c') w (k4_7 B fun e w' => e = .returned (.bool true) ∧ Upd no W w') := by
  refine CutD.mk ?_
  rw [t4_7]
  have e1 : IntKind.wrap .i64 ((l.length : Int) - 1) = (l'.length : Int) := by rw [w64 (by omega)]; omega
  rw [e1]
  refine ⟨fun _ => ?_, fun g => by simp at g⟩
  obtain ⟨_, hA, hT⟩ := hM.left
  refine ⟨(whas_ok hA a).mono ?_⟩
  rintro e w3 ⟨rfl, rfl⟩
  have hno : (whP Q a).2 = false := by rw [whP, wh_no ha]
  simp only [hno]
  exact ⟨_, rfl, ⟨fun g => (by cases g), fun _ => hB _ hM⟩⟩

theorem wonce0 (hTab : Tab W) {q : Option Addr} {t : List Int} {d : Nat} (hC : Cells W q (t.map (Value.int .i64))) (hM : Mine W w (WoO b1) (Q, (p, c, l))) (h4 : Q.length = 4) (hl : ∀ v, l.count v = ct Q v) :
    CutD Tryd.prog M4 c4_0 (e4_0 q t.length d (some ⟨b1, 0, none⟩) p l.length c) w (k4_0 fun e w' => e = .returned (.bool true) ∧ Upd no W w') := by
  refine CutD.mk ?_
  rw [t4_0]
  refine ⟨WP_loop okProg (M := M4) (σ := Nat × QL × Option Addr × Nat × List Int) (fun s => e4_4 q t.length d (some ⟨b1, 0, none⟩) s.2.2.1 s.2.2.2.2.length s.2.2.2.1 (s.1 : Int)) (fun s w' => s.1 ≤ t.length ∧ s.1 ≤ 100 ∧ s.2.1.length = 4 ∧ (∀ v, s.2.2.2.2.count v = ct s.2.1 v) ∧ Mine W w' (WoO b1) s.2) (fun s _ => t.length - s.1) (0, Q, p, c, l) ⟨rfl, rfl, rfl, rfl, trivial⟩ ⟨by simp, by simp, h4, hl, hM⟩ ?_⟩
  clear hM hl h4
  rintro ⟨i, Q, p, c, l⟩ w2 ⟨i1, i2, h4, hl, hM⟩
  simp only at i1 i2 h4 hl hM ⊢
  rw [t4_4]
  have hI : WQ Q := by obtain ⟨_, hA, _⟩ := hM.left; exact hA.wq
  have hln := ct_few hI hl
  refine ⟨fun g => ⟨fun g1 => ?_, fun g1 => wonce1 hTab hM h4 hl⟩, fun g => wonce1 hTab hM h4 hl⟩
  have hi : i < t.length := by simp at g; omega
  have hi2 : i < 100 := by simp at g1; omega
  obtain ⟨a0, ha0, hc0⟩ := (hC.no hM.U).at1 hi
  obtain ⟨_, hA, hT⟩ := hM.left
  have hta := wtake_ok hA t[i]
  refine ⟨⟨by omega, by omega⟩, a0, ha0, _, hc0, ⟨hta.mono ?_⟩⟩
  rintro e w3 ⟨rfl, hU⟩
  replace hM := hT _ _ hU
  clear hA hT hU hta
  simp only at hM ⊢
  rcases ta_cases hI.one t[i] with ⟨k1, k2⟩ | ⟨k1, k, hk, hv, k2⟩
  · rw [k2] at hM
    refine ⟨_, _, rfl, fun _ => ⟨(i + 1, Q, p, c, l), ⟨rfl, rfl, rfl, by rw [w64 (by omega)]; rfl, trivial⟩, ⟨by simp only; omega, by simp only; omega, h4, hl, hM⟩, by simp only; omega⟩, fun g => absurd (by simpa using g) k1⟩
  · rw [k2] at hM
    refine ⟨_, _, rfl, fun g => by rw [k1] at g; simp at g, fun _ => ?_⟩
    generalize (taE Q t[i]).1 = a at hv hM
    have hct := ct_erase hI.one hk hv
    have ha1 := ct_mem hk hv
    have ha2 := hI.one a
    have ha3 : ct (Q.set k (Q[k].erase a)) a = 0 := by have := hct a; rw [if_pos rfl] at this; omega
    generalize hR : Q.set k (Q[k].erase a) = R at hM hct ha3
    have hlR : R.length = 4 := by rw [← hR]; simpa using h4
    replace hM : Mine W w3 (Star (WoO b1) (Ls 3)) ((R, (p, c, l)), (none, 0, [])) := hM.add (Upd.refl _ _) (Ls.nil _ _) (fun _ h => h.elim)
    refine ⟨WP_loop okProg (M := M4) (σ := Nat × Option Addr × Nat) (fun s => e4_8 q t.length d (some ⟨b1, 0, none⟩) p l.length c (i : Int) a s.2.1 (wo (l.take s.1) a).length s.2.2 (s.1 : Int))
      (fun s w' => s.1 ≤ l.length ∧ Mine W w' (Star (WoO b1) (Ls 3)) ((R, (p, c, l)), (s.2.1, s.2.2, wo (l.take s.1) a))) (fun s _ => l.length - s.1) (0, none, 0) ⟨rfl, rfl, rfl, rfl, rfl, rfl, rfl, trivial⟩ ⟨by simp, hM⟩ ?_⟩
    clear hM
    rintro ⟨j, p', c'⟩ w4 ⟨j1, hM⟩
    simp only at j1 hM ⊢
    rw [t4_8]
    refine ⟨fun g => ?_, fun g => ?_⟩
    · have hj : j < l.length := by simp at g; omega
      obtain ⟨_, hA, _⟩ := hM.lr
      obtain ⟨a1, ha1, hc1⟩ := hA.cells.at1 hj
      have hw := wo_take hj a
      have hlen : (wo (l.take j) a).length ≤ j := Nat.le_trans (wo_length _ _) (by simp; omega)
      refine ⟨⟨by omega, by omega⟩, a1, ha1, _, hc1, fun he => ⟨⟨by omega, by omega⟩, a1, ha1, _, hc1, ⟨fun w5 hN => ?_⟩⟩, fun he => ?_⟩
      · have he : l[j] ≠ a := by simpa using he
        rw [if_pos he] at hw
        obtain ⟨_, hA, hT⟩ := hM.right
        obtain ⟨p2, c2, w6, hr, hT6⟩ := Ls.push elI hA (by first | omega | (simp only; omega)) hN 38
        have hM2 := hT _ _ hT6
        exact ⟨p2, _, c2, w6, hr, (j + 1, p2, c2), ⟨rfl, rfl, rfl, rfl, rfl, by rw [hw]; rfl, by rw [w64 (by omega)]; rfl, trivial⟩, ⟨by simp only; omega, by rw [hw]; exact hM2⟩, by simp only; omega⟩
      · have he : ¬ l[j] ≠ a := by simpa using he
        rw [if_neg he] at hw
        exact ⟨(j + 1, p', c'), ⟨rfl, rfl, rfl, rfl, rfl, by rw [hw]; rfl, by rw [w64 (by omega)]; rfl, trivial⟩, ⟨by simp only; omega, by rw [hw]; exact hM⟩, by simp only; omega⟩
    · have : j = l.length := by simp at g; omega
      subst this
      rw [List.take_length, wo_erase hln.1] at hM
      rw [List.take_length, wo_erase hln.1]
      have hal : a ∈ l := List.count_pos_iff.1 (by rw [hl]; exact ha1)
      have hM2 : Mine W w4 (WoO b1) (R, (p', c', l.erase a)) := by
        obtain ⟨F, ⟨F1, F2, h1, h2, h3, h4⟩, u1, u2⟩ := hM
        obtain ⟨F3, F4, r1, r2, r3, r4⟩ := h1
        refine ⟨fun i => F3 i ∨ F2 i, ⟨F3, F2, r1, h2, fun _ => Iff.rfl, fun i hi hf => h4 i ((r3 i).2 (.inl hi)) hf⟩, u1, fun i hi => u2 i ?_⟩
        rcases hi with hi | hi
        · exact (h3 i).2 (.inl ((r3 i).2 (.inl hi)))
        · exact (h3 i).2 (.inr hi)
      have hle := List.length_erase_of_mem hal
      have hlp := List.length_pos_of_mem hal
      refine wonce7 (l := l) hM2 (by omega) hln.2 ha3 fun w5 hM5 => ?_
      refine ⟨(i + 1, R, p', c', l.erase a), ⟨rfl, rfl, rfl, by rw [w64 (by omega)]; rfl, trivial⟩, ⟨by simp only; omega, by simp only; omega, hlR, fun v => ?_, hM5⟩, by simp only; omega⟩
      have h1 := hct v
      have h2 : (l.erase a).count v = l.count v - if (a == v) = true then 1 else 0 := List.count_erase
      rw [hl v] at h2
      simp only
      by_cases hav : a = v
      · subst hav
        rw [if_pos rfl] at h1
        rw [if_pos (by simp)] at h2
        omega
      · rw [if_neg hav] at h1
        rw [if_neg (by simpa using hav)] at h2
        omega
end
theorem workOnce_ok {W : World} (hTab : Tab W) {p : Option Addr} {l : List Int} {c : Nat} {q : Option Addr} {t : List Int} {d : Nat} (_ : ∀ x ∈ l, (Lit.int .i64 x).wf = true) (h : Cells W p (l.map (Value.int .i64))) (_ : l.length ≤ maxLen)
    (_ : ∀ x ∈ t, (Lit.int .i64 x).wf = true) (hq : Cells W q (t.map (Value.int .i64))) (_ : t.length ≤ maxLen) :
    Calls Tryd.prog 4 #[.slice p l.length c, .slice q t.length d] W fun e w' => e = .returned (.bool true) ∧ Upd no W w' := by
  refine u4 ?_
  rw [t4]
  refine ⟨(wnew_ok 3 W).mono ?_⟩
  rintro e w1 hh
  obtain ⟨_, b1, F1, rfl, hQ, hU, hF⟩ := hh.resolve_left (fun h => absurd (by unfold okC; omega) h.1)
  have hM : Mine W w1 (WkI b1) (newQ 3) := Mine.new (Upd.refl _ _) hU hQ hF
  clear hU hQ hF
  have hk : ((0 : Int) == 0) = true → Call Tryd.prog 8 [] w1 fun e w' => ∃ b, e = .returned (.bool b) ∧ Ending.returned (.bool b) = .returned (.bool true) ∧ Upd no W w' := fun _ => ⟨(known_ok (hTab.no hM.U)).mono fun e w' ⟨h1, h2⟩ => ⟨_, h1, rfl, hM.U.and h2⟩⟩
  refine ⟨_, _, rfl, fun _ => ⟨fun _ => ⟨hk, fun g => by simp at g⟩, fun g0 => ?_⟩, fun g => by simp at g⟩
  have hl32 : l.length ≤ 32 := by simp at g0; omega
  replace hM : Mine W w1 (WoO b1) (newQ 3, (none, 0, [])) := hM.add (Upd.refl _ _) (Ls.nil _ _) (fun _ h => h.elim)
  refine ⟨WP_loop okProg (M := M4) (σ := Nat × QL × Option Addr × Nat × List Int) (fun s => e4_3 p l.length c q t.length d (some ⟨b1, 0, none⟩) s.2.2.1 s.2.2.2.2.length s.2.2.2.1 (s.1 : Int)) (fun s w' => s.1 ≤ l.length ∧ s.2.1.length = 4 ∧ (∀ v, s.2.2.2.2.count v = ct s.2.1 v) ∧ Mine W w' (WoO b1) s.2) (fun s _ => l.length - s.1) (0, newQ 3, none, 0, []) ⟨rfl, rfl, rfl, rfl, rfl, trivial⟩ ⟨by simp, rfl, fun v => (ct_new 4 v).symm, hM⟩ ?_⟩
  clear hM hk
  rintro ⟨i, Q, p', c', s⟩ w2 ⟨i1, h4, hl, hM⟩
  simp only at i1 h4 hl hM ⊢
  rw [t4_3]
  have hI : WQ Q := by obtain ⟨_, hA, _⟩ := hM.left; exact hA.wq
  have hln := ct_few hI hl
  refine ⟨fun g => ?_, fun g => wonce0 hTab hq hM h4 hl⟩
  have hi : i < l.length := by simp at g; omega
  obtain ⟨a0, ha0, hc0⟩ := (h.no hM.U).at1 hi
  obtain ⟨_, hA, hT⟩ := hM.left
  refine ⟨⟨by omega, by omega⟩, a0, ha0, _, hc0, ⟨(wqueue_ok hA (hTab.no hM.U) l[i]).mono ?_⟩⟩
  rintro e w3 ⟨rfl, hU⟩
  replace hM := hT _ _ hU
  clear hA hT hU
  simp only at hM ⊢
  rcases qu_cases Q l[i] with ⟨k1, k2⟩ | ⟨k1, k, hk, k2⟩
  · rw [k2] at hM
    exact ⟨_, _, rfl, fun g => absurd (by simpa using g) k1, fun _ => ⟨(i + 1, Q, p', c', s), ⟨rfl, rfl, rfl, rfl, by rw [w64 (by omega)]; rfl, trivial⟩, ⟨by simp only; omega, h4, hl, hM⟩, by simp only; omega⟩⟩
  · rw [k2] at hM
    refine ⟨_, _, rfl, fun _ => ⟨fun w4 hN => ?_⟩, fun g => by rw [k1] at g; simp at g⟩
    generalize (quE Q l[i]).1 = a at hM hN
    obtain ⟨_, hA, hT⟩ := hM.right
    obtain ⟨p2, c2, w6, hr, hT6⟩ := Ls.push elI hA (by first | omega | (simp only; omega)) hN 38
    have hM2 := hT _ _ hT6
    refine ⟨p2, _, c2, w6, hr, (i + 1, Q.set k (Q[k] ++ [a]), p2, c2, s ++ [a]), ⟨rfl, rfl, rfl, rfl, by rw [w64 (by omega)]; rfl, trivial⟩, ⟨by simp only; omega, by simpa using h4, fun v => ?_, hM2⟩, by simp only; omega⟩
    simp only
    rw [ct_push hk, List.count_append, hl, List.count_singleton]
    simp only [beq_iff_eq]
end Go.Dav
