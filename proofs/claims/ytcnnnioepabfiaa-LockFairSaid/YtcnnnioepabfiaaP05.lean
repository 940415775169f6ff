/- What the functions of the lock, and the laws on it, come to. -/
import Derived.Test.YtcnnnioepabfiaaPrg
import Derived.Test.YtcnnnioepabfiaaV05
import Derived.Test.YtcnnnioepabfiaaOwn
namespace Go.Dav
open Go.Proofs

theorem el3 : ElemT Try.prog 22 3 1 8 [.int .i64 0] := ⟨by kernel_rfl, by kernel_rfl, rfl, by omega⟩

def mayE (b : Bool) (cpu : Int) : Int := if b then (if cpu < 0 ∨ 64 ≤ cpu then 3 else 0) else 1

theorem may_ok (b : Bool) (cpu : Int) (w : World) : Calls Try.prog 27 #[.bool b, .int .i64 cpu] w fun e w' => e = .returned (.int .i64 (mayE b cpu)) ∧ w' = w := by
  refine u27 ?_
  rw [t27]
  grind [mayE]

def idx (l : List Int) (v : Int) : Int := if v ∈ l then (l.idxOf v : Int) else -1

theorem idx_found {l : List Int} {v : Int} {i : Nat} (h : i < l.length) (h1 : v ∉ l.take i) (h2 : l[i] = v) : idx l v = i := by
  have hm : v ∈ l := h2 ▸ List.getElem_mem h
  have e : l.idxOf v = i := by
    have hl : l = l.take i ++ l[i] :: l.drop (i + 1) := by simp
    rw [hl, List.idxOf_append, if_neg h1, h2]
    simp; omega
  simp [idx, hm, e]

theorem not_take_succ {l : List Int} {v : Int} {i : Nat} (h : i < l.length) (h1 : v ∉ l.take i) (h2 : l[i] ≠ v) : v ∉ l.take (i + 1) := by
  rw [List.take_succ_eq_append_getElem h]
  simp only [List.mem_append, List.mem_singleton]
  exact fun h => h.elim h1 (fun e => h2 e.symm)

theorem index_ok {w : World} {p : Option Addr} {l : List Int} {c : Nat} (h : Cells w p (l.map (Value.int .i64))) (hb : l.length ≤ 140737488355328) (v : Int) :
    Calls Try.prog 35 #[.slice p l.length c, .int .i64 v] w fun e w' => e = .returned (.int .i64 (idx l v)) ∧ w' = w := by
  refine u35 ?_
  rw [t35]
  refine ⟨WP_loop okProg (M := M35) (σ := Nat) (fun i => e35_1 p l.length c v l.length i) (fun i w' => i ≤ l.length ∧ v ∉ l.take i ∧ w' = w) (fun i _ => l.length - i) 0 ⟨rfl, rfl, rfl, rfl, trivial⟩ ⟨by omega, by simp, rfl⟩ ?_⟩
  rintro i w' ⟨h1, h2, rfl⟩
  rw [t35_1]
  refine ⟨fun hlt => ?_, fun hge => ⟨?_, rfl⟩⟩
  · have hi : i < l.length := by simpa using hlt
    obtain ⟨a, rfl, hc⟩ := h.at1 hi
    refine ⟨⟨by omega, by omega⟩, a, rfl, l[i], by simpa using hc, fun he => ⟨?_, rfl⟩, fun he => ?_⟩
    · rw [idx_found hi h2 (by simpa using (eq_comm.1 (by simpa using he)))]
    · refine ⟨i + 1, ⟨rfl, rfl, rfl, by rw [w64 (by omega)]; rfl, trivial⟩, ⟨by omega, not_take_succ hi h2 ?_, rfl⟩, by omega⟩
      simp at he
      exact fun e => he e.symm
  · have : i = l.length := by simp at hge; omega
    subst this
    simp at h2
    simp [idx, h2]

theorem contains_ok {w : World} {p : Option Addr} {l : List Int} {c : Nat} (h : Cells w p (l.map (Value.int .i64))) (hb : l.length ≤ 140737488355328) (v : Int) :
    Calls Try.prog 28 #[.slice p l.length c, .int .i64 v] w fun e w' => e = .returned (.bool (decide (v ∈ l))) ∧ w' = w := by
  refine u28 ?_
  rw [t28]
  refine ⟨(index_ok h hb v).mono ?_⟩
  rintro e w' ⟨rfl, rfl⟩
  refine ⟨_, rfl, ?_, rfl⟩
  unfold idx
  split <;> simp_all

/-- A lock: its block, its list's place, the cores that want it. -/
structure SpinAt (T : TypeId) (w : World) (b : Nat) (p : Option Addr) (l : List Int) : Prop where
  c : ∃ c, Blk w b [.slice p l.length c] T ∧ Sl w 3 1 p l.length c (l.map (Value.int .i64))
  ap : ¬ fpS p b

def fpO (b : Nat) (p : Option Addr) : Nat → Prop := fun i => i = b ∨ fpS p i

section
variable {T : TypeId} {w w' : World} {b : Nat} {p : Option Addr} {l : List Int}
theorem SpinAt.lt (h : SpinAt T w b p l) : ∀ i, fpO b p i → i < w.heap.size := by
  obtain ⟨⟨c, h1, h2⟩, _⟩ := h
  rintro i (rfl | hi)
  · exact h1.lt
  · exact h2.lt i hi
theorem SpinAt.upd {F : Nat → Prop} (h : SpinAt T w b p l) (k : Upd F w w') (hF : ∀ i, fpO b p i → ¬ F i) : SpinAt T w' b p l := by
  obtain ⟨⟨c, h1, h2⟩, h3⟩ := h
  exact ⟨⟨c, h1.upd k (hF _ (.inl rfl)), h2.upd k (fun i hi => hF i (.inr hi))⟩, h3⟩

/-- What a call leaves: the lock with another list; nothing else has turned. -/
def Left (T : TypeId) (w w' : World) (b : Nat) (p : Option Addr) (l : List Int) : Prop :=
  ∃ p', SpinAt T w' b p' l ∧ Upd (fpO b p) w w' ∧ ∀ i, fpO b p' i → fpO b p i ∨ w.heap.size ≤ i

theorem SpinAt.left (h : SpinAt T w b p l) : Left T w w b p l := ⟨p, h, Upd.refl _ _, fun _ hi => .inl hi⟩

/-- Another list is laid into the lock. -/
theorem SpinAt.put {p' : Option Addr} {c' : Nat} {l' : List Int} {w1 w2 : World} (h : SpinAt T w b p l) (hS : Sl w1 3 1 p' l'.length c' (l'.map (Value.int .i64))) (hU : Upd (fpS p) w w1)
    (hp : ∀ i, fpS p' i → fpS p i ∨ w.heap.size ≤ i) (hW : Wrote w1 w2 b [.slice p' l'.length c'] T) : Left T w w2 b p l' := by
  obtain ⟨⟨c, h1, h2⟩, h3⟩ := h
  have hb' : ¬ fpS p' b := fun hi => by
    rcases hp b hi with hi | hi
    · exact h3 hi
    · have := h1.lt; omega
  refine ⟨p', ⟨⟨c', hW.blk', hS.upd (hW.upd (F := fun i => i = b) rfl) (fun i hi e => hb' (e ▸ hi))⟩, hb'⟩, ?_, ?_⟩
  · exact (hU.mono (fun i _ hi => .inr hi)).trans (hW.upd (F := fun i => i = b) rfl) (fun i _ e => .inl e)
  · rintro i (rfl | hi)
    · exact .inl (.inl rfl)
    · exact (hp i hi).imp .inr id

/-- The lock's block, behind what has turned its list's memory alone. -/
theorem SpinAt.wr {w1 : World} (h : SpinAt T w b p l) (hU : Upd (fpS p) w w1) {v : Value} {K : World → Prop} (hK : ∀ w2, Wrote w1 w2 b [v] T → K w2) : Wr w1 ((⟨b, 0, none⟩ : Addr).add 0) [v] K := by
  obtain ⟨⟨c, h1, h2⟩, h3⟩ := h
  exact (h1.upd hU h3).wr (by simp) (fun w2 hw => hK w2 hw)
end

/-- One more at the end of an owned list. -/
theorem append1 {w w1 : World} {p : Option Addr} {c : Nat} {l : List Int} {x : Int} (h : Sl w 3 1 p l.length c (l.map (Value.int .i64))) (hb : l.length ≤ 1048576)
    (hN : Newed w w1 (.cells (List.toArray [Value.int .i64 x]) 3 (0, 0))) :
    ∃ p' n' c' w2, (Builtin.append_ #[22, 22] 22 #[.slice p l.length c, .slice (some ⟨w.heap.size, 0, none⟩) 1 1]).run Try.prog w1 = .ok (.slice p' n' c') w2 ∧ n' = (l ++ [x]).length ∧
      Sl w2 3 1 p' (l ++ [x]).length c' ((l ++ [x]).map (Value.int .i64)) ∧ Upd (fpS p) w w2 ∧ (∀ i, fpS p' i → fpS p i ∨ w.heap.size ≤ i) := by
  have h1 : Sl w1 3 1 p l.length c (l.map (Value.int .i64)) := h.upd (hN.upd no) (fun _ _ hn => hn)
  have hN' : Sl w1 3 1 (some ⟨w.heap.size, 0, none⟩) 1 1 [.int .i64 x] := Sl.new hN (by simp) (by unfold maxLen; omega)
  obtain ⟨p', n', c', w2, hr, hn, hS, hU, hF⟩ := run_append el3 h1 hN'.cells (m := 1) (d := 1) (by simp) (by simp [Value.oneCell']) (by simp) (by omega) (by omega) 22
  refine ⟨p', n', c', w2, hr, by simp [hn], by simpa using hS, (hN.upd _).trans hU (fun i _ hi => hi), fun i hi => (hF i hi).imp id (fun h => ?_)⟩
  rw [hN.size] at h; omega

def takeE (l : List Int) (cpu : Int) : Int := if cpu < 0 ∨ 64 ≤ cpu then 3 else if cpu ∈ l then 6 else 0
def takeL (l : List Int) (cpu : Int) : List Int := if takeE l cpu = 0 then l ++ [cpu] else l

theorem take_ok {w : World} {b : Nat} {p : Option Addr} {l : List Int} (h : SpinAt 25 w b p l) (hb : l.length ≤ 1048576) (cpu : Int) :
    Calls Try.prog 8 #[.pointer (some ⟨b, 0, none⟩), .int .i64 cpu] w fun e w' => e = .returned (.int .i64 (takeE l cpu)) ∧ Left 25 w w' b p (takeL l cpu) := by
  refine u8 ?_
  rw [t8]
  refine ⟨(may_ok _ cpu w).mono ?_⟩
  rintro e w' ⟨rfl, rfl⟩
  refine ⟨_, rfl, fun h1 => ?_, fun h1 => ?_⟩
  · have h2 : cpu < 0 ∨ 64 ≤ cpu := by simp [mayE] at h1; omega
    have : takeE l cpu = mayE true cpu ∧ takeE l cpu ≠ 0 := by simp [takeE, mayE, h2]
    simp only [takeL, this.2, if_false]
    exact ⟨by rw [this.1]; rfl, h.left⟩
  · obtain ⟨⟨c, hB, hS⟩, hap⟩ := id h
    refine ⟨_, rfl, _, _, _, hB.cell rfl, ⟨(contains_ok hS.cells (by omega) cpu).mono ?_⟩⟩
    have h2 : ¬ (cpu < 0 ∨ 64 ≤ cpu) := by simp [mayE] at h1; omega
    rintro e w' ⟨rfl, rfl⟩
    refine ⟨_, rfl, fun h3 => ?_, fun h3 => ?_⟩
    · have h4 : cpu ∈ l := by simpa using h3
      have : takeE l cpu = 6 := by simp [takeE, h2, h4]
      rw [takeL, this]
      exact ⟨rfl, h.left⟩
    · have h4 : cpu ∉ l := by simpa using h3
      have : takeE l cpu = 0 := by simp [takeE, h2, h4]
      rw [takeL, this, if_pos rfl]
      refine ⟨_, rfl, _, _, _, hB.cell rfl, ⟨fun w1 hN => ?_⟩⟩
      obtain ⟨p', n', c', w2, hr, hn, hS2, hU, hF⟩ := append1 hS hb hN
      subst hn
      exact ⟨p', _, c', w2, hr, _, rfl, h.wr hU (fun w3 hW => ⟨rfl, h.put hS2 hU hF hW⟩)⟩

def ownE (l : List Int) : Int × Bool := match l with
  | [] => (0, false)
  | x :: _ => (x, true)

theorem owner_ok {w : World} {b : Nat} {p : Option Addr} {l : List Int} (h : SpinAt 25 w b p l) :
    Calls Try.prog 9 #[.pointer (some ⟨b, 0, none⟩)] w fun e w' => e = .returned (.tuple #[.int .i64 (ownE l).1, .bool (ownE l).2]) ∧ w' = w := by
  refine u9 ?_
  rw [t9]
  obtain ⟨⟨c, hB, hS⟩, hap⟩ := id h
  refine ⟨fun _ => ⟨_, rfl, _, _, _, hB.cell rfl, fun h1 => ?_, fun h1 => ⟨_, rfl, _, _, _, hB.cell rfl, ?_⟩⟩, fun h1 => by simp at h1⟩
  · have : l = [] := by simpa using h1
    subst this
    exact ⟨rfl, rfl⟩
  · cases l with
    | nil => simp at h1
    | cons x l =>
      obtain ⟨a, rfl, hc⟩ := hS.cells.at1 (i := 0) (by simp)
      exact ⟨⟨by omega, by simp⟩, a, rfl, x, by simpa using hc, rfl, rfl⟩

theorem ownerNil_ok (w : World) : Calls Try.prog 9 #[.pointer none] w fun e w' => e = .returned (.tuple #[.int .i64 0, .bool false]) ∧ w' = w := by
  refine u9 ?_
  rw [t9]
  exact ⟨fun h => by simp at h, fun _ => ⟨rfl, rfl⟩⟩

def leaveE (l : List Int) (cpu : Int) : Int := if cpu < 0 ∨ 64 ≤ cpu then 3 else match l with
  | [] => 17
  | x :: _ => if x = cpu then 0 else 17
def leaveL (l : List Int) (cpu : Int) : List Int := if leaveE l cpu = 0 then l.tail else l

theorem leave_ok {w : World} {b : Nat} {p : Option Addr} {l : List Int} (h : SpinAt 25 w b p l) (cpu : Int) :
    Calls Try.prog 10 #[.pointer (some ⟨b, 0, none⟩), .int .i64 cpu] w fun e w' => e = .returned (.int .i64 (leaveE l cpu)) ∧ Left 25 w w' b p (leaveL l cpu) := by
  refine u10 ?_
  rw [t10]
  refine ⟨(may_ok _ cpu w).mono ?_⟩
  rintro e w' ⟨rfl, rfl⟩
  refine ⟨_, rfl, fun h1 => ?_, fun h1 => ⟨(owner_ok h).mono ?_⟩⟩
  · have h2 : cpu < 0 ∨ 64 ≤ cpu := by simp [mayE] at h1; omega
    have : leaveE l cpu = mayE true cpu ∧ leaveE l cpu ≠ 0 := by simp [leaveE, mayE, h2]
    simp only [leaveL, this.2, if_false]
    exact ⟨by rw [this.1]; rfl, h.left⟩
  · have h2 : ¬ (cpu < 0 ∨ 64 ≤ cpu) := by simp [mayE] at h1; omega
    rintro e w' ⟨rfl, rfl⟩
    refine ⟨_, _, rfl, fun h3 => ⟨fun h4 => ?_, fun h4 => ?_⟩, fun h3 => ?_⟩
    · cases l with
      | nil => simp [ownE] at h3
      | cons x l =>
        have : leaveE (x :: l) cpu = 17 := by simp [ownE] at h4; simp [leaveE, h2, h4]
        rw [leaveL, this]
        exact ⟨rfl, h.left⟩
    · cases l with
      | nil => simp [ownE] at h3
      | cons x l =>
        have : leaveE (x :: l) cpu = 0 := by simp [ownE] at h4; simp [leaveE, h2, h4]
        rw [leaveL, this, if_pos rfl, List.tail_cons]
        obtain ⟨⟨c, hB, hS⟩, hap⟩ := id h
        refine ⟨_, rfl, _, _, _, hB.cell rfl, ⟨by omega, by simp; omega⟩, _, rfl, ?_⟩
        have hD := hS.dropN 1 (by simp)
        refine h.wr (Upd.refl _ _) (fun w3 hW => ⟨rfl, h.put (c' := c - 1) (by simpa using hD) (Upd.refl _ _) (fun i hi => .inl (fpS_sub i hi)) (by simpa using hW)⟩)
    · cases l with
      | nil =>
        have : leaveE [] cpu = 17 := by simp [leaveE, h2]
        rw [leaveL, this]
        exact ⟨rfl, h.left⟩
      | cons x l => simp [ownE] at h3
/-- A new lock. -/
theorem SpinAt.new {T : TypeId} {w w' : World} (h : Newed w w' (.cells (List.toArray [Value.slice none 0 0]) T (0, 0))) : SpinAt T w' w.heap.size none [] :=
  ⟨⟨0, h.blk', Sl.nil _ _ _⟩, fun ⟨a, ha, _⟩ => by cases ha⟩

/-- Behind a lock of the call's own nothing that was there has turned. -/
theorem Left.no {T : TypeId} {W w w' : World} {b : Nat} {p : Option Addr} {l : List Int} (h : Left T w w' b p l) (k : Upd no W w) (hp : ∀ i, fpO b p i → W.heap.size ≤ i) :
    ∃ p', SpinAt T w' b p' l ∧ Upd no W w' ∧ (∀ i, fpO b p' i → W.heap.size ≤ i) := by
  obtain ⟨p', h1, h2, h3⟩ := h
  refine ⟨p', h1, k.trans h2 (fun i hi hf => absurd (hp i hf) (by omega)), fun i hi => ?_⟩
  rcases h3 i hi with h | h
  · exact hp i h
  · exact Nat.le_trans k.size h

theorem known_ok (w : World) : Calls Try.prog 11 #[] w fun e w' => e = .returned (.bool true) ∧ Upd no w w' := by
  refine u11 ?_
  rw [t11]
  refine ⟨fun w1 hN => ?_⟩
  have hS := SpinAt.new hN
  have hU := hN.upd no
  have hF : ∀ i, fpO w.heap.size none i → w.heap.size ≤ i := by
    rintro i (rfl | ⟨a, ha, _⟩)
    · exact Nat.le_refl _
    · cases ha
  refine ⟨(take_ok hS (by simp) 1).mono ?_⟩
  rintro e w2 ⟨rfl, h⟩
  obtain ⟨p2, hS, hU, hF⟩ := h.no hU hF
  refine ⟨_, rfl, ⟨(take_ok hS (by decide) 2).mono ?_⟩⟩
  rintro e w3 ⟨rfl, h⟩
  obtain ⟨p3, hS, hU, hF⟩ := h.no hU hF
  refine ⟨_, rfl, ⟨(owner_ok hS).mono ?_⟩⟩
  rintro e w' ⟨rfl, rfl⟩
  refine ⟨_, _, rfl, ⟨(leave_ok hS 2).mono ?_⟩⟩
  rintro e w4 ⟨rfl, h⟩
  obtain ⟨p4, hS, hU, hF⟩ := h.no hU hF
  refine ⟨_, rfl, ⟨(leave_ok hS 1).mono ?_⟩⟩
  rintro e w5 ⟨rfl, h⟩
  obtain ⟨p5, hS, hU, hF⟩ := h.no hU hF
  refine ⟨_, rfl, ⟨(owner_ok hS).mono ?_⟩⟩
  rintro e w' ⟨rfl, rfl⟩
  refine ⟨_, _, rfl, ?_⟩
  have e1 : takeE [] 1 = 0 := by decide
  have e2 : takeE (takeL [] 1) 2 = 0 := by decide
  have e3 : ownE (takeL (takeL [] 1) 2) = (1, true) := by decide
  have e4 : leaveE (takeL (takeL [] 1) 2) 2 = 17 := by decide
  have e5 : leaveE (leaveL (takeL (takeL [] 1) 2) 2) 1 = 0 := by decide
  have e6 : ownE (leaveL (leaveL (takeL (takeL [] 1) 2) 2) 1) = (2, true) := by decide
  simp [e1, e2, e3, e4, e5, e6, hU]

/-! ### LockFair -/

/-- What the first loop keeps: the takes that went well. -/
def takeAll : List Int → List Int → List Int
  | q, [] => q
  | q, c :: cs => takeAll (takeL q c) cs

theorem takeL_wf {q : List Int} {c : Int} (hn : q.Nodup) (hr : ∀ x ∈ q, 0 ≤ x ∧ x < 64) : (takeL q c).Nodup ∧ ∀ x ∈ takeL q c, 0 ≤ x ∧ x < 64 := by
  unfold takeL
  split
  · rename_i h
    unfold takeE at h
    split at h
    · cases h
    · split at h
      · cases h
      · rename_i h1 h2
        refine ⟨List.nodup_append.2 ⟨hn, by simp, fun a ha b hb => ?_⟩, fun x hx => ?_⟩
        · simp at hb; subst hb; exact fun e => h2 (e ▸ ha)
        · rcases List.mem_append.1 hx with hx | hx
          · exact hr x hx
          · simp at hx; subst hx; omega
  · exact ⟨hn, hr⟩

/-- A lock of the call's own, and a list beside it. -/
structure Fair (W w : World) (wp : Option Addr) (wc : Nat) (want : List Int) (q : Option Addr) (l : List Int) : Prop where
  S : SpinAt 25 w W.heap.size q l
  U : Upd no W w
  F : ∀ i, fpO W.heap.size q i → W.heap.size ≤ i
  L : Sl w 3 1 wp want.length wc (want.map (Value.int .i64))
  LF : ∀ i, fpS wp i → W.heap.size ≤ i
  D : ∀ i, fpS wp i → ¬ fpO W.heap.size q i

theorem Fair.left {W w w' : World} {wp q : Option Addr} {wc : Nat} {want l l' : List Int} (h : Fair W w wp wc want q l) (k : Left 25 w w' W.heap.size q l') :
    ∃ q', Fair W w' wp wc want q' l' := by
  obtain ⟨q', h1, h2, h3⟩ := k
  refine ⟨q', h1, h.U.trans h2 (fun i hi hf => absurd (h.F i hf) (by omega)), fun i hi => ?_, h.L.upd h2 h.D, h.LF, fun i hi hf => ?_⟩
  · rcases h3 i hi with k | k
    · exact h.F i k
    · exact Nat.le_trans h.U.size k
  · rcases h3 i hf with k | k
    · exact h.D i hi k
    · exact absurd (h.L.lt i hi) (by omega)

theorem lockFair_ok {W : World} {p : Option Addr} {l : List Int} {c : Nat} (_ : ∀ x ∈ l, (Lit.int .i64 x).wf = true) (h : Cells W p (l.map (Value.int .i64))) (_ : l.length ≤ maxLen) :
    Calls Try.prog 3 #[.slice p l.length c] W fun e w' => e = .returned (.bool true) ∧ Upd no W w' := by
  refine u3 ?_
  rw [t3]
  refine ⟨fun w1 hN => ?_⟩
  have hS := SpinAt.new hN
  have hU := hN.upd no
  have hF : ∀ i, fpO W.heap.size none i → W.heap.size ≤ i := by
    rintro i (rfl | ⟨a, ha, _⟩)
    · exact Nat.le_refl _
    · cases ha
  -- the first loop: the lock's list and the wanted one are alike
  refine ⟨WP_loop okProg (M := M3) (σ := Nat × Option Addr × List Int × Nat) (fun s => e3_2 p l.length c (some ⟨W.heap.size, 0, none⟩) s.2.1 s.2.2.1.length s.2.2.2 (s.1 : Int))
    (fun s w => s.1 ≤ l.length ∧ s.1 ≤ 200 ∧ s.2.2.1.length ≤ s.1 ∧ s.2.2.1.Nodup ∧ (∀ x ∈ s.2.2.1, 0 ≤ x ∧ x < 64) ∧ ∃ q, Fair W w s.2.1 s.2.2.2 s.2.2.1 q s.2.2.1)
    (fun s _ => l.length - s.1) (0, none, [], 0) ⟨rfl, rfl, rfl, rfl, trivial⟩ ⟨by simp, by simp, by simp, by simp, by simp, none, hS, hU, hF, Sl.nil _ _ _, fun i ⟨a, ha, _⟩ => (by cases ha), fun i ⟨a, ha, _⟩ => (by cases ha)⟩ ?_⟩
  clear hS hU hF hN
  rintro ⟨i, wp, q, wc⟩ w ⟨h1, h2, h3, h4, h5, sp, hFr⟩
  simp only at h1 h2 h3 h4 h5 hFr ⊢
  -- what follows the loop
  have hgo : CutD Try.prog M3 c3_0 (e3_0 (some ⟨W.heap.size, 0, none⟩) wp q.length wc) w (k3_0 fun e w' => e = .returned (.bool true) ∧ Upd no W w') := by
    refine CutD.mk ?_
    rw [t3_0]
    refine ⟨WP_loop okProg (M := M3) (σ := Nat) (fun j => e3_3 (some ⟨W.heap.size, 0, none⟩) wp q.length wc (j : Int)) (fun j w => j ≤ q.length ∧ ∃ sq, Fair W w wp wc q sq (q.drop j)) (fun j _ => q.length - j) 0 ⟨rfl, rfl, rfl, trivial⟩ ⟨by omega, sp, hFr⟩ ?_⟩
    clear hFr
    rintro j w ⟨hj, sq, hFr⟩
    rw [t3_3]
    refine ⟨fun hlt => ?_, fun hge => CutD.mk ?_⟩
    · have hj' : j < q.length := by simpa using hlt
      have hd : q.drop j = q[j] :: q.drop (j + 1) := List.drop_eq_getElem_cons hj'
      refine ⟨WP_loop okProg (M := M3) (σ := Nat) (fun k => e3_6 (some ⟨W.heap.size, 0, none⟩) wp q.length wc (j : Int) (k : Int)) (fun k w => j ≤ k ∧ k ≤ q.length ∧ ∃ sq, Fair W w wp wc q sq (q.drop j)) (fun k _ => q.length - k) j ⟨rfl, rfl, rfl, rfl, trivial⟩ ⟨by omega, by omega, sq, hFr⟩ ?_⟩
      clear hFr
      rintro k w ⟨hk, hk2, sq, hFr⟩
      rw [t3_6]
      refine ⟨fun hlt => ⟨(owner_ok hFr.S).mono ?_⟩, fun hge => CutD.mk ?_⟩
      · have hk' : k < q.length := by simpa using hlt
        rintro e w' ⟨rfl, rfl⟩
        rw [hd]
        refine ⟨_, _, rfl, fun _ => ⟨⟨by omega, by omega⟩, ?_⟩, fun hx => by simp [ownE] at hx⟩
        obtain ⟨a, rfl, hc⟩ := hFr.L.cells.at1 (i := j) (by simpa using hj')
        refine ⟨a, rfl, q[j], by simpa using hc, fun _ => ⟨fun hkj => ⟨⟨by omega, by omega⟩, a, rfl, q[k], ?_, ⟨(leave_ok hFr.S _).mono ?_⟩⟩, fun hkj => ?_⟩, fun hx => by simp [ownE] at hx⟩
        · obtain ⟨a', ha, hc⟩ := hFr.L.cells.at1 (i := k) (by simpa using hk')
          obtain rfl := Option.some.inj ha
          simpa using hc
        · have hne : q[j] ≠ q[k] := fun e => by
            have := (List.getElem_inj h4).1 e
            simp at hkj; omega
          have hr := h5 _ (List.getElem_mem hk')
          have e17 : leaveE (q.drop j) q[k] = 17 := by
            rw [hd]
            unfold leaveE
            rw [if_neg (by omega)]
            simp [hne]
          rintro e w' ⟨rfl, hL⟩
          rw [leaveL, e17] at hL
          obtain ⟨sq', hFr'⟩ := hFr.left hL
          refine ⟨_, rfl, fun hx => by rw [e17] at hx; simp at hx, fun _ => ⟨k + 1, ⟨rfl, rfl, rfl, by rw [w64 (by omega)]; rfl, trivial⟩, ⟨by omega, by omega, sq', by simpa using hFr'⟩, by omega⟩⟩
        · exact ⟨k + 1, ⟨rfl, rfl, rfl, by rw [w64 (by omega)]; rfl, trivial⟩, ⟨by omega, by omega, sq, by rw [← hd]; exact hFr⟩, by omega⟩
      · rw [t3_5]
        obtain ⟨a, ha, hc⟩ := hFr.L.cells.at1 (i := j) (by simpa using hj')
        have hr := h5 _ (List.getElem_mem hj')
        have e0 : leaveE (q.drop j) q[j] = 0 := by
          rw [hd]
          unfold leaveE
          rw [if_neg (by omega)]
          simp
        refine ⟨⟨by omega, by omega⟩, a, ha, q[j], by simpa using hc, ⟨(leave_ok hFr.S _).mono ?_⟩⟩
        rintro e w' ⟨rfl, hL⟩
        rw [leaveL, e0, if_pos rfl, hd, List.tail_cons] at hL
        obtain ⟨sq', hFr'⟩ := hFr.left hL
        exact ⟨_, rfl, fun hx => by rw [e0] at hx; simp at hx, fun _ => ⟨j + 1, ⟨rfl, rfl, by rw [w64 (by omega)]; rfl, trivial⟩, ⟨by omega, sq', hFr'⟩, by omega⟩⟩
    · have hj' : j = q.length := by simp at hge; omega
      subst hj'
      rw [t3_1]
      refine ⟨(owner_ok hFr.S).mono ?_⟩
      rintro e w' ⟨rfl, rfl⟩
      rw [List.drop_length]
      refine ⟨_, _, rfl, fun _ => ⟨(known_ok w').mono ?_⟩, fun hx => by simp [ownE] at hx⟩
      rintro e w2 ⟨rfl, hU2⟩
      exact ⟨_, rfl, rfl, hFr.U.trans hU2 (fun i _ hf => hf)⟩
  rw [t3_2]
  refine ⟨fun hlt => ⟨fun hlt2 => ?_, fun _ => hgo⟩, fun _ => hgo⟩
  clear hgo
  have hi : i < l.length := by simpa using hlt
  have hi2 : i < 200 := by simp at hlt2; omega
  obtain ⟨a, rfl, hc⟩ := h.at1 (i := i) (by simpa using hi)
  have hcell : ∀ w', Upd no W w' → w'.cell? (a.add ((↑i : Int).toNat * 1)) = some (.int .i64 l[i]) := by
    intro w' hU
    obtain ⟨a', ha, hc⟩ := (h.no hU).at1 (i := i) (by simpa using hi)
    obtain rfl := Option.some.inj ha
    simpa using hc
  refine ⟨⟨by omega, by omega⟩, a, rfl, l[i], hcell w hFr.U, ⟨(take_ok hFr.S (by omega) _).mono ?_⟩⟩
  rintro e w' ⟨rfl, hL⟩
  obtain ⟨sq, hFr⟩ := hFr.left hL
  have hwf := takeL_wf (c := l[i]) h4 h5
  refine ⟨_, rfl, fun h0 => ⟨⟨by omega, by omega⟩, a, rfl, l[i], hcell w' hFr.U, ⟨fun w1 hN => ?_⟩⟩, fun h0 => ?_⟩
  · have h0 : takeE q l[i] = 0 := by simpa using h0
    rw [takeL, if_pos h0] at hFr hwf
    obtain ⟨p', n', c', w2, hr, hn, hS2, hU, hF⟩ := append1 hFr.L (by omega) hN
    subst hn
    refine ⟨p', _, c', w2, hr, (i + 1, p', q ++ [l[i]], c'), ⟨rfl, rfl, rfl, by rw [w64 (by omega)]; rfl, trivial⟩, ⟨by simp only; omega, by simp only; omega, by simp; omega, hwf.1, hwf.2, sq, ?_⟩, by simp only; omega⟩
    refine ⟨hFr.S.upd hU (fun j hj hk => hFr.D j hk hj), hFr.U.trans hU (fun j hj hk => absurd (hFr.LF j hk) (by omega)), hFr.F, hS2, fun j hj => ?_, fun j hj hk => ?_⟩
    · rcases hF j hj with k | k
      · exact hFr.LF j k
      · exact Nat.le_trans hFr.U.size k
    · rcases hF j hj with k | k
      · exact hFr.D j k hk
      · exact absurd (hFr.S.lt j hk) (by omega)
  · have h0 : takeE q l[i] ≠ 0 := by simpa using h0
    rw [takeL, if_neg h0] at hFr
    exact ⟨(i + 1, wp, q, wc), ⟨rfl, rfl, rfl, by rw [w64 (by omega)]; rfl, trivial⟩, ⟨by simp only; omega, by simp only; omega, by simp only; omega, h4, h5, sq, hFr⟩, by simp only; omega⟩
end Go.Dav
