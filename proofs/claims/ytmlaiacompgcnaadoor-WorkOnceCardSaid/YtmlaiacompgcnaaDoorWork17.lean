/- What the functions of works that are queued come to. -/
import Derived.Test.YtmlaiacompgcnaaDoorSlot17
import Derived.Test.YtmlaiacompgcnaaDoorDrop17
import Derived.Test.YtmlaiacompgcnaaDoorCt
import Derived.Test.YtmlaiacompgcnaaDoorMap
import Derived.Test.YtmlaiacompgcnaaDoorSlotX17
set_option linter.unusedVariables false
set_option linter.unusedSimpArgs false
set_option linter.unusedSectionVars false
namespace Go.Dav
open Go.Proofs
theorem elQ : ElemT Tryd.prog 50 53 1 8 [.pointer none] := ⟨by kernel_rfl, by kernel_rfl, rfl, by omega⟩
theorem elL : ElemT Tryd.prog 56 38 1 24 [.slice none 0 0] := ⟨by kernel_rfl, by kernel_rfl, rfl, by omega⟩
theorem mpT : MapT Tryd.prog 49 3 3 (.int .i64 0) := ⟨by kernel_rfl, by kernel_rfl, by kernel_rfl, by kernel_rfl⟩

def q32 (l : List Int) : Nat × List Int := (32, l)
abbrev QL := List (List Int)
abbrev WS := List Bool × ((Int → Option Int) × Nat) × QL
def wkE (b2 b3 : Nat) (p : Option Addr) (n c : Nat) : List Value := [.pointer (some ⟨b2, 0, none⟩), .slice p n c, .map (some b3)]
def WkO (b : Nat) : Ob WS := fun w F x => ∃ b2 b3, Star (Star (SlO b2) (MapO b3 (Value.int .i64))) (Tq FqO b 52 53 (wkE b2 b3)) w F ((x.1, x.2.1), x.2.2.map q32)
instance Frame.wk (b : Nat) : Frame (WkO b) where
  upd := fun ⟨b2, b3, h⟩ k hG => ⟨b2, b3, Frame.star.upd h k hG⟩
  lt := fun ⟨b2, b3, h⟩ => Frame.star.lt h

/-! ### Where a number is -/
def whE (Q : QL) (v : Int) : Option Int := (Q.findIdx? (fun l => decide (v ∈ l))).map (fun (i : Nat) => (i : Int) - 1)
def once (Q : QL) : Prop := ∀ v, ct Q v ≤ 1
section
variable {Q : QL} {i j : Nat} {v : Int}
theorem rows_two (hi : i < Q.length) (hj : j < Q.length) (hij : i ≠ j) (h1 : v ∈ Q[i]) (h2 : v ∈ Q[j]) : 2 ≤ ct Q v := by
  have k1 := ct_set hi [] v
  have hj' : j < (Q.set i []).length := by simpa using hj
  have k2 := ct_mem (L := Q.set i []) hj' (v := v) (by rw [List.getElem_set_ne hij]; exact h2)
  have k3 := List.count_pos_iff.2 h1
  simp at k1
  omega
theorem wh_in (hO : once Q) (hi : i < Q.length) (h : v ∈ Q[i]) : whE Q v = some ((i : Int) - 1) := by
  have : Q.findIdx? (fun l => decide (v ∈ l)) = some i := by
    rw [List.findIdx?_eq_some_iff_getElem]
    refine ⟨hi, by simpa using h, fun k hk => ?_⟩
    have hk2 : k < Q.length := by omega
    simp only [decide_eq_true_eq]
    intro hm
    have := rows_two hk2 hi (by omega) hm h
    have := hO v
    omega
  rw [whE, this]
  rfl
theorem wh_no (h : ct Q v = 0) : whE Q v = none := by
  have : Q.findIdx? (fun l => decide (v ∈ l)) = none := by
    rw [List.findIdx?_eq_none_iff]
    intro l hl
    obtain ⟨i, hi, rfl⟩ := List.getElem_of_mem hl
    rw [decide_eq_false_iff_not]
    intro hm
    have := ct_mem hi hm
    omega
  rw [whE, this]
  rfl
theorem wh_cases (hO : once Q) (v : Int) : (whE Q v = none ∧ ct Q v = 0) ∨ ∃ i, ∃ hi : i < Q.length, v ∈ Q[i] ∧ whE Q v = some ((i : Int) - 1) ∧ 0 < ct Q v := by
  by_cases h : ct Q v = 0
  · exact .inl ⟨wh_no h, h⟩
  · have h2 : v ∈ Q.flatten := List.count_pos_iff.1 (by unfold ct at h; omega)
    obtain ⟨l, hl, hv⟩ := List.mem_flatten.1 h2
    obtain ⟨i, hi, rfl⟩ := List.getElem_of_mem hl
    exact .inr ⟨i, hi, hv, wh_in hO hi hv, by omega⟩
theorem wh_set (hO : once Q) {l' : List Int} (hO' : once (Q.set i l')) (hi : i < Q.length) (hv : v ∈ l' ↔ v ∈ Q[i]) : whE (Q.set i l') v = whE Q v := by
  rcases wh_cases hO v with ⟨h1, h2⟩ | ⟨k, hk, h1, h2, _⟩
  · rw [h1]
    apply wh_no
    have h3 := ct_set hi l' v
    have h4 : l'.count v = 0 := List.count_eq_zero.2 fun hm => by have := ct_mem hi (hv.1 hm); omega
    omega
  · rw [h2]
    have hk' : k < (Q.set i l').length := by simpa using hk
    refine wh_in hO' hk' ?_
    by_cases hik : i = k
    · subst hik
      rw [List.getElem_set_self]
      exact hv.2 h1
    · rw [List.getElem_set_ne hik]
      exact h1
end

structure WI (x : WS) : Prop where
  len : x.1.length = 32
  one : once x.2.2
  has : ∀ v, hasE x.1 v = decide (0 < ct x.2.2 v)
  map : ∀ v, x.2.1.1 v = whE x.2.2 v
  pos : 2 ≤ x.2.2.length ∧ x.2.2.length ≤ 65
/-- Lists of works. -/
def WkI (b : Nat) : Ob QL := fun w F Q => ∃ o g, WkO b w F (o, g, Q) ∧ WI (o, g, Q)
instance Frame.wki (b : Nat) : Frame (WkI b) where
  upd := fun ⟨o, g, h, r⟩ k hG => ⟨o, g, (Frame.wk b).upd h k hG, r⟩
  lt := fun ⟨o, g, h, _⟩ => (Frame.wk b).lt h
theorem Turn.wki {b : Nat} {w w' : World} {F : Fp} {o : List Bool} {g : (Int → Option Int) × Nat} {Q : QL} (h : Turn (WkO b) w w' F (o, g, Q)) (k : WI (o, g, Q)) : Turn (WkI b) w w' F Q := by
  obtain ⟨F', h1, h2⟩ := h
  exact ⟨F', ⟨o, g, h1, k⟩, h2⟩

section
variable {o : List Bool} {g : (Int → Option Int) × Nat} {Q : QL} {i : Nat} {v : Int}
theorem WI.rng (h : WI (o, g, Q)) (hv : 0 < ct Q v) : 1 ≤ v ∧ v ≤ 32 := by
  have : hasE o v = true := by rw [h.has]; exact decide_eq_true hv
  have := hasE_in this
  have hl := h.len
  simp only at hl
  rw [hl] at this
  exact this
theorem WI.row (h : WI (o, g, Q)) (hi : i < Q.length) : Q[i].Nodup ∧ Q[i].length ≤ 32 := by
  have hn := ct_nodup h.one hi
  exact ⟨hn, few hn fun v hv => h.rng (ct_mem hi hv)⟩
theorem WI.push (h : WI (o, g, Q)) (hi : i < Q.length) (h1 : 1 ≤ v ∧ v ≤ 32) (hv : v ∉ Q[i]) : pushE (q32 Q[i]) v = 0 ∧ pushS (q32 Q[i]) v = q32 (Q[i] ++ [v]) := by
  obtain ⟨hn, _⟩ := h.row hi
  have hl : (Q[i] ++ [v]).length ≤ 32 := by
    refine few ?_ ?_
    · rw [List.nodup_append]
      exact ⟨hn, by simp, fun a ha b hb e => by simp at hb; subst hb; subst e; exact hv ha⟩
    · intro u hu
      rw [List.mem_append] at hu
      rcases hu with hu | hu
      · exact h.rng (ct_mem hi hu)
      · simp at hu; subst hu; exact h1
  have e : pushE (q32 Q[i]) v = 0 := by
    unfold pushE q32
    simp only
    rw [if_neg hv, if_neg]
    simp at hl; omega
  exact ⟨e, by rw [pushS, if_pos e]; rfl⟩
theorem ct_push (hi : i < Q.length) (v u : Int) : ct (Q.set i (Q[i] ++ [v])) u = ct Q u + if v = u then 1 else 0 := by
  have := ct_set hi (Q[i] ++ [v]) u
  rw [List.count_append, List.count_singleton] at this
  simp only [beq_iff_eq] at this
  omega
theorem ct_erase (hO : once Q) (hi : i < Q.length) (hv : v ∈ Q[i]) (u : Int) : ct (Q.set i (Q[i].erase v)) u + (if v = u then 1 else 0) = ct Q u := by
  have := ct_set hi (Q[i].erase v) u
  have h2 : (Q[i].erase v).count u = Q[i].count u - if (v == u) = true then 1 else 0 := List.count_erase
  have h3 := ct_le hi u
  by_cases huv : v = u
  · subst huv
    have := List.count_pos_iff.2 hv
    rw [if_pos (by simp)] at h2
    rw [if_pos rfl]
    omega
  · have : (v == u) = false := by simpa using huv
    simp [huv, this] at h2 ⊢
    omega
/-- A number that is new. -/
theorem WI.queue (h : WI (o, g, Q)) (hi : i < Q.length) {j : Nat} (hj : takeE o = ((j : Int) + 1, 0)) : WI (takeS o, mput g ((j : Int) + 1) ((i : Int) - 1), Q.set i (Q[i] ++ [(j : Int) + 1])) ∧ (j : Int) + 1 ∉ Q[i] ∧ j < 32 := by
  rcases take_cases o with ⟨j', k0, k1, k2, k3⟩ | ⟨k1, _⟩
  · have hjj : j' = j := by rw [k1] at hj; simp at hj; omega
    subst hjj
    have hl := h.len
    simp only at hl
    have h0 : ct Q ((j' : Int) + 1) = 0 := by have := h.has ((j' : Int) + 1); simp only [k3] at this; simpa using this.symm
    have hnot : (j' : Int) + 1 ∉ Q[i] := fun hm => by have := ct_mem hi hm; omega
    have hct := ct_push hi ((j' : Int) + 1)
    have hO : once (Q.set i (Q[i] ++ [(j' : Int) + 1])) := fun u => by
      rw [hct]
      have := h.one u
      simp only at this
      split
      · rename_i e; subst e; omega
      · omega
    refine ⟨⟨by simp only [k2, List.length_set]; exact hl, hO, fun u => ?_, fun u => ?_, by simpa using h.pos⟩, hnot, by omega⟩
    · simp only [k2, hct]
      rw [hasE_set k0]
      by_cases hu : u = (j' : Int) + 1
      · subst hu; simp
      · rw [if_neg hu, if_neg (fun e => hu e.symm)]; exact h.has u
    · simp only [mput]
      by_cases hu : u = (j' : Int) + 1
      · subst hu
        rw [if_pos rfl, wh_in hO (by simpa using hi) (by rw [List.getElem_set_self]; simp)]
      · rw [if_neg hu, wh_set h.one hO hi (by simp [hu])]
        exact h.map u
  · rw [k1] at hj; simp at hj
theorem WI.drop (h : WI (o, g, Q)) (hi : i < Q.length) (hv : v ∈ Q[i]) : WI (giveS o v, mdel g v, Q.set i (Q[i].erase v)) := by
  have hct := ct_erase (show once Q from h.one) hi hv
  have hpos := ct_mem hi hv
  obtain ⟨_, g2⟩ := give_has (o := o) (n := v) (by rw [h.has]; exact decide_eq_true hpos)
  have hO : once (Q.set i (Q[i].erase v)) := fun u => by have := hct u; have := h.one u; simp only at this; omega
  refine ⟨by simp only [give_len]; exact h.len, hO, fun u => ?_, fun u => ?_, by simpa using h.pos⟩
  · simp only [g2]
    have h1 := hct u
    by_cases hu : u = v
    · subst hu
      have := h.one u
      simp only at this
      rw [if_pos rfl] at h1
      have : ct (Q.set i (Q[i].erase u)) u = 0 := by omega
      simp [this]
    · rw [if_neg (fun e => hu e.symm), Nat.add_zero] at h1
      rw [h1, decide_eq_true (show u ≠ v from hu), Bool.and_true]
      exact h.has u
  · simp only [mdel]
    by_cases hu : u = v
    · subst hu
      have h1 := hct u
      have := h.one u
      simp only at this
      rw [if_pos rfl] at h1 ⊢
      rw [wh_no (by omega)]
    · rw [if_neg hu, wh_set h.one hO hi (by rw [List.mem_erase_of_ne hu])]
      exact h.map u
theorem WI.unbind (h : WI (o, g, Q)) (hi : i < Q.length) (h0 : 0 < i) {l : List Int} (hl : Q[i] = v :: l) : WI (o, mput g v (-1), (Q.set i l).set 0 (Q[0]'(by omega) ++ [v])) ∧ v ∉ Q[0]'(by omega) ∧ (1 ≤ v ∧ v ≤ 32) := by
  have hv : v ∈ Q[i] := by rw [hl]; simp
  have hpos := ct_mem hi hv
  have he : Q[i].erase v = l := by rw [hl]; simp
  have hct := ct_erase (show once Q from h.one) hi hv
  rw [he] at hct
  have hz : 0 < (Q.set i l).length := by simp; omega
  have hne : (Q.set i l)[0] = Q[0]'(by omega) := List.getElem_set_ne (by omega) hz
  have hct2 := ct_push (Q := Q.set i l) hz v
  rw [hne] at hct2
  have hall : ∀ u, ct ((Q.set i l).set 0 (Q[0]'(by omega) ++ [v])) u = ct Q u := fun u => by have := hct u; have := hct2 u; omega
  have hO1 : once (Q.set i l) := fun u => by have := hct u; have := h.one u; simp only at this; omega
  have hO : once ((Q.set i l).set 0 (Q[0]'(by omega) ++ [v])) := fun u => by rw [hall]; exact h.one u
  have hnot : v ∉ Q[0]'(by omega) := fun hm => by
    have := rows_two hi (show 0 < Q.length by omega) (by omega) hv hm
    have := h.one v
    simp only at this
    omega
  refine ⟨⟨h.len, hO, fun u => by simp only [hall]; exact h.has u, fun u => ?_, by simpa using h.pos⟩, hnot, h.rng hpos⟩
  simp only [mput]
  by_cases hu : u = v
  · subst hu
    rw [if_pos rfl, wh_in (i := 0) hO (by simp; omega) (by rw [List.getElem_set_self]; simp)]
    rfl
  · rw [if_neg hu]
    have e1 : whE ((Q.set i l).set 0 (Q[0]'(by omega) ++ [v])) u = whE (Q.set i l) u := by
      refine wh_set hO1 hO hz ?_
      rw [hne]; simp [hu]
    rw [e1, wh_set h.one hO1 hi (by rw [hl]; simp [hu])]
    exact h.map u
end

/-! ### What the answers are -/
def inW (Q : QL) (cpu f : Int) : Prop := f ≤ cpu ∧ cpu + 1 < Q.length
instance (Q : QL) (cpu f : Int) : Decidable (inW Q cpu f) := by unfold inW; infer_instance
def ix (cpu : Int) : Nat := (cpu + 1).toNat
def rowW (Q : QL) (cpu : Int) : List Int := Q.getD (ix cpu) []
theorem inW_at {Q : QL} {cpu f : Int} (h : inW Q cpu f) (hf : -1 ≤ f) : ∃ i : Nat, i < Q.length ∧ cpu = (i : Int) - 1 ∧ ix cpu = i := ⟨ix cpu, by unfold inW at h; unfold ix; omega, by unfold inW at h; unfold ix; omega, rfl⟩
theorem rowW_at {Q : QL} {i : Nat} (hi : i < Q.length) : rowW Q ((i : Int) - 1) = Q[i] := by
  unfold rowW ix
  have : ((i : Int) - 1 + 1).toNat = i := by omega
  rw [this]
  simp [hi]
theorem ix_of (i : Nat) : ix ((i : Int) - 1) = i := by unfold ix; omega
def freeId (Q : QL) : Option Nat := (List.range 32).find? (fun (k : Nat) => decide (ct Q ((k : Int) + 1) = 0))
def quE (Q : QL) (cpu : Int) : Int × Int := if inW Q cpu (-1) then (match freeId Q with | some j => ((j : Int) + 1, 0) | none => (0, 5)) else (0, 3)
def quS (Q : QL) (cpu : Int) : QL := if inW Q cpu (-1) then (match freeId Q with | some j => Q.set (ix cpu) (rowW Q cpu ++ [(j : Int) + 1]) | none => Q) else Q
def whP (Q : QL) (v : Int) : Int × Bool := match whE Q v with | some c => (c, true) | none => (0, false)
def dpE (Q : QL) (v : Int) : Int := match whE Q v with | some _ => 0 | none => 4
def dpS (Q : QL) (v : Int) : QL := match whE Q v with | some c => Q.set (ix c) ((rowW Q c).erase v) | none => Q
def taE (Q : QL) (cpu : Int) : Int × Int := if inW Q cpu 0 then (match rowW Q cpu, rowW Q (-1) with | a :: _, _ => (a, 0) | [], a :: _ => (a, 0) | [], [] => (0, 12)) else (0, 3)
def taS (Q : QL) (cpu : Int) : QL := if inW Q cpu 0 then (match rowW Q cpu, rowW Q (-1) with | a :: _, _ => dpS Q a | [], a :: _ => dpS Q a | [], [] => Q) else Q
def unE (Q : QL) (cpu : Int) : Int × Int := if inW Q cpu 0 then (match rowW Q cpu with | a :: _ => (a, 0) | [] => (0, 12)) else (0, 3)
def unS (Q : QL) (cpu : Int) : QL := if inW Q cpu 0 then (match rowW Q cpu with | a :: l => (Q.set (ix cpu) l).set 0 (rowW Q (-1) ++ [a]) | [] => Q) else Q
def lsE (Q : QL) (cpu : Int) : List Int := if inW Q cpu (-1) then rowW Q cpu else []
theorem freeId_take {o : List Bool} {g : (Int → Option Int) × Nat} {Q : QL} (h : WI (o, g, Q)) : (∃ j, freeId Q = some j ∧ takeE o = ((j : Int) + 1, 0)) ∨ (freeId Q = none ∧ takeE o = (0, 5) ∧ takeS o = o) := by
  have hl := h.len
  simp only at hl
  have hh : ∀ k : Nat, hasE o ((k : Int) + 1) = !decide (ct Q ((k : Int) + 1) = 0) := fun k => by
    rw [h.has]
    by_cases h0 : ct Q ((k : Int) + 1) = 0
    · simp [h0]
    · have : 0 < ct Q ((k : Int) + 1) := by omega
      simp [this, h0]
  cases hf : freeId Q with
  | none =>
    unfold freeId at hf
    rw [List.find?_eq_none] at hf
    have := take_no (o := o) (fun k hk => by rw [hh]; have := hf k (by simp; omega); simpa using this)
    exact .inr ⟨rfl, this⟩
  | some j =>
    refine .inl ⟨j, rfl, ?_⟩
    unfold freeId at hf
    rw [List.find?_range_eq_some] at hf
    obtain ⟨h1, h2, h3⟩ := hf
    refine (take_of (by simp at h2; omega) (fun k hk => ?_) ?_).1
    · rw [hh]; have := h3 k hk; simpa using this
    · rw [hh]; simpa using h1
end Go.Dav
