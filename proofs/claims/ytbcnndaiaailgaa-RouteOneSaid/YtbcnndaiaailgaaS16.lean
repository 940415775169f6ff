/- The statement that an interrupt goes to one core at most. -/
import Derived.Test.YtbcnndaiaailgaaP16
import Derived.Test.YtbcnndaiaailgaaMk
set_option linter.unusedSimpArgs false
set_option linter.unusedVariables false
namespace Go.Dav
open Go.Proofs

theorem set_cap (x : RtS) (n c : Int) : (setS x n c).1 = x.1 := by unfold setS; split <;> rfl
theorem off_cap (x : RtS) (n : Int) : (offS x n).1 = x.1 := by unfold offS; split <;> rfl
theorem elB : ElemT Try.prog 46 4 1 1 [.bool false] := ⟨by kernel_rfl, by kernel_rfl, rfl, by omega⟩
abbrev SeO := Lv (α := Bool) 4 Value.bool

theorem onP_iff {x : RtS} (hk : x.ok) {c : Int} (hc : 0 ≤ c) {j : Nat} (hj : j < 16) : onP x c (j : Int) = true ↔ gt x (j : Int) = c := by
  unfold onP ofE
  rw [if_neg (by unfold nout; omega)]
  split
  · simp; omega
  · simp
theorem mem_onL {x : RtS} (hk : x.ok) {c : Int} (hc : 0 ≤ c) {v : Int} : v ∈ onL x c ↔ ∃ j : Nat, j < 16 ∧ v = j ∧ gt x (j : Int) = c := by
  rw [onL, mem_upto]
  constructor
  · rintro ⟨h1, h2, h3⟩
    refine ⟨v.toNat, by omega, by omega, ?_⟩
    have : ((v.toNat : Nat) : Int) = v := by omega
    rw [← onP_iff hk hc (by omega), this]
    exact h3
  · rintro ⟨j, hj, rfl, hg⟩
    exact ⟨by omega, by omega, (onP_iff hk hc hj).2 hg⟩
theorem rep_getD (n j : Nat) : (List.replicate n false).getD j false = false := by
  rw [List.getD_eq_getElem?_getD, List.getElem?_replicate]
  split <;> rfl
theorem onL_nodup (x : RtS) (c : Int) : (onL x c).Nodup := by
  unfold onL upto
  refine List.Pairwise.filter _ ?_
  rw [List.pairwise_map]
  exact List.nodup_range.imp (fun h e => h (by omega))
theorem onL_pos {x : RtS} (hk : x.ok) {c : Int} (hc : 0 ≤ c) (hc2 : c < 64) : decide ((((onL x c).length : Nat) : Int) > 0) = hs (ofL x.2) c := by
  rw [hs_ofL, Bool.eq_iff_iff]
  simp only [decide_eq_true_iff, Bool.and_eq_true]
  constructor
  · intro h
    have hp : 0 < (onL x c).length := by omega
    obtain ⟨j, hj, _, hg⟩ := (mem_onL hk hc).1 (List.getElem_mem hp)
    rw [gt_get hk hj] at hg
    exact ⟨⟨hc, hc2⟩, hg ▸ List.getElem_mem _⟩
  · rintro ⟨_, hm⟩
    obtain ⟨j, hj, hg⟩ := List.getElem_of_mem hm
    have hj16 : j < 16 := by rw [← hk.len]; exact hj
    have : (j : Int) ∈ onL x c := (mem_onL hk hc).2 ⟨j, hj16, rfl, by rw [gt_get hk hj16]; exact hg⟩
    have := List.length_pos_of_mem this
    omega

theorem routeOne_ok {W : World} {cpus : Int} {p : Option Addr} {l : List (Int × Int × Bool)} {c : Nat} (_ : (Lit.int .i64 cpus).wf = true) (_ : ∀ x ∈ l, okIIB x) (h : Cells W p (l.flatMap recIIB)) (_ : l.length ≤ maxLen) :
    Calls Try.prog 5 #[.int .i64 cpus, .slice p l.length c] W fun e w' => e = .returned (.bool true) ∧ Upd no W w' := by
  refine u5 ?_
  rw [t5]
  refine ⟨(new_ok cpus W).mono ?_⟩
  rintro e w1 (⟨hno, rfl, rfl⟩ | ⟨hyes, b1, F1, rfl, hQ, hU, hF⟩)
  · refine ⟨_, _, rfl, fun _ => ⟨fun g1 => ⟨fun g2 => ?_, fun g2 => ?_⟩, fun g1 => ?_⟩, fun g => by simp at g⟩
    refine ⟨(known_ok _).mono ?_⟩
    rintro e w9 ⟨rfl, hU9⟩
    exact ⟨_, rfl, rfl, (Upd.refl no w1).and hU9⟩
    · simp at g1 g2; omega
    refine ⟨(known_ok _).mono ?_⟩
    rintro e w9 ⟨rfl, hU9⟩
    exact ⟨_, rfl, rfl, (Upd.refl no w1).and hU9⟩
  · have hM : Mine W w1 (RtO b1) (cpus, List.replicate 16 (-1)) := Mine.new (Upd.refl _ _) hU hQ hF
    refine ⟨_, _, rfl, fun g => by simp at g, fun _ => ?_⟩
    clear hU hQ hF
    -- what follows the first loop
    have hgo : ∀ (x : RtS) (w : World), x.1 = cpus → Mine W w (RtO b1) x → CutD Try.prog M5 c5_0 (e5_0 cpus (some ⟨b1, 0, none⟩)) w (k5_0 fun e w' => e = .returned (.bool true) ∧ Upd no W w') := by
      intro x w hcp hM
      refine CutD.mk ?_
      rw [t5_0]
      obtain ⟨w2, hr, hU, hS⟩ := run_mkV elB w (n := 16) (by omega) (by omega) .i64 .i64
      refine ⟨_, _, _, w2, hr, ?_⟩
      replace hM : Mine W w2 (Star (RtO b1) SeO) (x, (some ⟨w.heap.size, 0, none⟩, 16, List.replicate 16 false)) := hM.add hU hS (fun i ⟨a, ha, hi⟩ => by cases ha; exact Nat.le_of_eq hi.symm)
      have hk := hM.left.choose_spec.1.2
      simp only at hk
      generalize (some (⟨w.heap.size, 0, none⟩ : Addr)) = sp at hM ⊢
      refine ⟨WP_loop okProg (M := M5) (σ := Nat × List Bool) (fun s => e5_3 cpus (some ⟨b1, 0, none⟩) sp 16 16 (s.1 : Int))
        (fun s w => (s.1 : Int) ≤ cpus ∧ s.2.length = 16 ∧ (∀ j, j < 16 → s.2.getD j false = true → gt x (j : Int) < s.1) ∧ Mine W w (Star (RtO b1) SeO) (x, (sp, 16, s.2))) (fun s _ => cpus.toNat - s.1) (0, List.replicate 16 false) ⟨rfl, rfl, rfl, rfl, trivial⟩
        ⟨by simp only; omega, by simp, fun j hj hs => absurd ((rep_getD 16 j).symm.trans hs) (by decide), hM⟩ ?_⟩
      clear hM hU hS hr
      rintro ⟨cc, s⟩ w3 ⟨k1, k2, k3, hM⟩
      simp only at k1 k2 k3 hM ⊢
      rw [t5_3]
      refine ⟨fun g => ?_, fun g => CutD.mk ?_⟩
      · have hcc : (cc : Int) < cpus := by simpa using g
        have hc64 : (cc : Int) < 64 := by omega
        obtain ⟨_, hA, hT⟩ := hM.left
        refine ⟨(on_ok hA cc).mono ?_⟩
        rintro e w4 ⟨lp, ld, rfl, hL⟩
        replace hM : Mine W w4 (Star (Star (RtO b1) SeO) (Ls 3)) ((x, (sp, 16, s)), (lp, ld, onL x cc)) := hM.add hL.U ⟨fun _ => Iff.rfl, hL.S⟩ hL.F
        clear hA hT hL
        refine ⟨_, _, _, rfl, ?_⟩
        obtain ⟨_, hA, hT⟩ := hM.ll
        refine ⟨(cores_ok hA).mono ?_⟩
        rintro e w5 ⟨rfl, hU⟩
        replace hM := hM.upd hU
        clear hA hT hU
        refine ⟨_, rfl, ⟨(mHas_ok _ _ w5).mono ?_⟩⟩
        rintro e w5 ⟨rfl, rfl⟩
        refine ⟨_, rfl, fun g => ?_, fun g => ?_⟩
        · rw [onL_pos hk (by omega) hc64] at g
          simp at g
        · refine ⟨WP_loop okProg (M := M5) (σ := Nat × List Bool) (fun s => e5_5 cpus (some ⟨b1, 0, none⟩) sp 16 16 (cc : Int) lp (onL x cc).length ld (s.1 : Int))
            (fun s w => s.1 ≤ (onL x cc).length ∧ s.2.length = 16 ∧ (∀ j, j < 16 → s.2.getD j false = true → gt x (j : Int) < cc ∨ (j : Int) ∈ (onL x cc).take s.1) ∧ Mine W w (Star (Star (RtO b1) SeO) (Ls 3)) ((x, (sp, 16, s.2)), (lp, ld, onL x cc))) (fun s _ => (onL x cc).length - s.1) (0, s) ⟨rfl, rfl, rfl, rfl, rfl, rfl, trivial⟩
            ⟨by simp, k2, fun j hj hs => .inl (k3 j hj hs), hM⟩ ?_⟩
          clear hM k2 k3
          rintro ⟨i, s⟩ w6 ⟨i1, k2, k3, hM⟩
          simp only at i1 k2 k3 hM ⊢
          rw [t5_5]
          refine ⟨fun g => ?_, fun g => ?_⟩
          · have hi : i < (onL x cc).length := by simpa using g
            have h16 := on_len x cc
            obtain ⟨j, hj, hv, hg⟩ := (mem_onL hk (by omega)).1 (List.getElem_mem hi)
            obtain ⟨a, rfl, hc⟩ := hM.right.choose_spec.1.2.cells.at1 hi
            simp only at hc
            rw [hv] at hc
            obtain ⟨_, hA, hT⟩ := hM.ll
            refine ⟨⟨by omega, by omega⟩, a, rfl, _, hc, ⟨(of_ok hA j).mono ?_⟩⟩
            rintro e w6 ⟨rfl, rfl⟩
            have hof : ofE x j = ((cc : Int), true) := by
              unfold ofE
              rw [if_neg (by unfold nout; omega), hg, if_neg (by omega)]
            rw [hof]
            have hnt : ((j : Int)) ∉ (onL x cc).take i := fun hm => by
              have hn := onL_nodup x cc
              rw [← List.take_append_drop i (onL x cc), List.nodup_append] at hn
              refine hn.2.2 _ hm _ ?_ rfl
              rw [List.drop_eq_getElem_cons hi, hv]
              exact List.mem_cons_self
            have hns : s.getD j false = false := by
              cases hb : s.getD j false with
              | false => rfl
              | true =>
                rcases k3 j hj hb with h | h
                · omega
                · exact absurd h hnt
            obtain ⟨sa, hsa, hsc⟩ := hM.lr.choose_spec.1.2.cells.at1 (l := s) (i := j) (by omega)
            simp only at hsa
            subst hsa
            have hsj : s[j]'(by omega) = false := by
              rw [List.getD_eq_getElem?_getD, List.getElem?_eq_getElem (by omega)] at hns
              exact hns
            rw [hsj] at hsc
            refine ⟨_, _, rfl, ⟨by omega, by omega⟩, a, rfl, _, hc, fun g1 => ⟨⟨by omega, by omega⟩, a, rfl, _, hc, fun g2 => ⟨⟨by omega, by omega⟩, a, rfl, _, hc, ⟨by omega, by omega⟩, sa, rfl, _, hsc, fun _ => ⟨fun _ => ⟨fun g => by simp at g, fun _ => ⟨⟨by omega, by omega⟩, a, rfl, _, hc, ⟨by omega, by omega⟩, sa, rfl, ?_⟩⟩, fun g => by simp at g⟩, fun g => by cases g⟩, fun g2 => by simp at g2; omega⟩, fun g1 => by simp at g1; omega⟩
            clear hA hT
            obtain ⟨FS, hS, hTS⟩ := hM.lr
            have hS2 := hS.2
            simp only at hS2
            refine hS2.wr (o := j * 1) (by simp; omega) (fun w7 hS7 hU7 => ?_)
            rw [Nat.mul_one, setL_set (by omega)] at hS7
            replace hM := hTS w7 (some sa, 16, s.set j true) ⟨FS, ⟨hS.1, by simp only [List.length_set]; exact hS7⟩, hU7.mono (fun i _ hi => (hS.1 i).2 hi), fun _ hi => .inl hi⟩
            refine ⟨(i + 1, s.set j true), ⟨rfl, rfl, rfl, rfl, rfl, by rw [w64 (by omega)]; rfl, trivial⟩, ⟨by simp only; omega, by simp [k2], ?_, hM⟩, by simp only; omega⟩
            intro j' hj' hs'
            rw [List.take_succ_eq_append_getElem hi, hv]
            simp only [List.mem_append, List.mem_singleton]
            by_cases hjj : j' = j
            · exact .inr (.inr (by omega))
            · have : s.getD j' false = true := by
                rw [List.getD_eq_getElem?_getD, List.getElem?_set_ne (by omega), ← List.getD_eq_getElem?_getD] at hs'
                exact hs'
              exact (k3 j' hj' this).imp id .inl
          · have : i = (onL x cc).length := by simp at g; omega
            subst this
            refine ⟨(cc + 1, s), ⟨rfl, rfl, rfl, by rw [w64 (by omega)]; rfl, trivial⟩, ⟨by simp only; omega, k2, fun j hj hs => ?_, hM.drop⟩, by simp only; omega⟩
            rcases k3 j hj hs with h | h
            · simp only; omega
            · rw [List.take_length] at h
              obtain ⟨j2, hj2, he, hg⟩ := (mem_onL hk (by omega)).1 h
              rw [he, hg]
              simp only; omega
      · rw [t5_1]
        refine ⟨(known_ok _).mono ?_⟩
        rintro e w9 ⟨rfl, hU9⟩
        exact ⟨_, rfl, rfl, hM.U.and hU9⟩
    refine ⟨WP_loop okProg (M := M5) (σ := Nat × RtS) (fun x => e5_2 cpus p l.length c (some ⟨b1, 0, none⟩) (x.1 : Int))
      (fun x w => x.1 ≤ l.length ∧ x.1 ≤ 150 ∧ x.2.1 = cpus ∧ Mine W w (RtO b1) x.2) (fun x _ => l.length - x.1) (0, (cpus, List.replicate 16 (-1))) ⟨rfl, rfl, rfl, rfl, trivial⟩
      ⟨by simp, by simp, rfl, hM⟩ ?_⟩
    clear hM
    rintro ⟨i, x⟩ w ⟨h1, h2, hcp, hM⟩
    simp only at h1 h2 hcp hM ⊢
    rw [t5_2]
    refine ⟨fun g1 => ?_, fun g1 => ?_⟩
    · refine ⟨fun g2 => ?_, fun g2 => ?_⟩
      · have hi : i < l.length := by simpa using g1
        have hi2 : i < 150 := by simp at g2; omega
        refine ⟨⟨by omega, by omega⟩, ?_⟩
        obtain ⟨_, ha, hc⟩ := (h.no hM.U).atk recIIB_len (by decide) hi
        cases ha
        refine ⟨_, rfl, ?_⟩
        refine ⟨_,  hc 2 _ rfl, ?_⟩
        refine ⟨fun g3 => ?_, fun g3 => ?_⟩
        · refine ⟨⟨by omega, by omega⟩, ?_⟩
          obtain ⟨_, ha, hc⟩ := (h.no hM.U).atk recIIB_len (by decide) hi
          cases ha
          refine ⟨_, rfl, ?_⟩
          refine ⟨_,  hc 0 _ rfl, ?_⟩
          obtain ⟨_, hA, hT⟩ := hM.turn
          refine ⟨(off_ok hA _).mono ?_⟩
          rintro e w2 ⟨rfl, hU⟩
          replace hM := hT _ _ hU
          clear hA hT hU
          refine ⟨_, rfl, ?_⟩
          exact ⟨(i + 1, _), ⟨rfl, rfl, rfl, by rw [w64 (by omega)]; rfl, trivial⟩, ⟨by simp only; omega, by simp only; omega, (off_cap ..).trans hcp, hM⟩, by simp only; omega⟩
        · intro w1 q1 q2 q3 q4
          replace hM := hM.upd (Upd.same no q1 q2 q3 q4)
          refine ⟨⟨by omega, by omega⟩, ?_⟩
          obtain ⟨_, ha, hc⟩ := (h.no hM.U).atk recIIB_len (by decide) hi
          cases ha
          refine ⟨_, rfl, ?_⟩
          refine ⟨_,  hc 0 _ rfl, ?_⟩
          refine ⟨⟨by omega, by omega⟩, ?_⟩
          obtain ⟨_, ha, hc⟩ := (h.no hM.U).atk recIIB_len (by decide) hi
          cases ha
          refine ⟨_, rfl, ?_⟩
          refine ⟨_,  hc 1 _ rfl, ?_⟩
          obtain ⟨_, hA, hT⟩ := hM.turn
          refine ⟨(set_ok hA _ _).mono ?_⟩
          rintro e w2 ⟨rfl, hU⟩
          replace hM := hT _ _ hU
          clear hA hT hU
          refine ⟨_, rfl, ?_⟩
          exact ⟨(i + 1, _), ⟨rfl, rfl, rfl, by rw [w64 (by omega)]; rfl, trivial⟩, ⟨by simp only; omega, by simp only; omega, (set_cap ..).trans hcp, hM⟩, by simp only; omega⟩
      · exact hgo _ _ hcp hM
    · exact hgo _ _ hcp hM
end Go.Dav
