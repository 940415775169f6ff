/- A calculus over the walk's weakest preconditions: what is known of a frame's slots stands in a list; each operation is told as a condition on the world alone. -/
import Derived.Tactics
import Derived.Orders
import Derived.KernelRfl
import Derived.Laws.Cells
import Derived.Laws.CopyRow
import Derived.Laws.Sem
import Derived.Laws.World
import Derived.Laws.NewBlocks
import Derived.Laws.Small
import Derived.Laws.Pointers
import Derived.Laws.Cover3
set_option linter.unusedSimpArgs false
set_option linter.unusedVariables false
namespace Go.Dav

/-- What is known of a slot: nothing; its value; that it is this bool. -/
inductive SV where
  | un
  | v (x : Value)
  | b (x : Bool)

def SV.val? : SV → Option Value
  | .un => none
  | .v x => some x
  | .b x => some (.bool x)

def SV.val : SV → Value
  | .un => undef
  | .v x => x
  | .b x => .bool x

abbrev Env := List (Nat × SV)

def Env.get : Env → Nat → SV
  | [], _ => .un
  | (k, x) :: E, t => match Nat.beq k t with
    | true => x
    | false => Env.get E t

def Env.put : Env → Nat → SV → Env
  | [], t, x => [(t, x)]
  | (k, y) :: E, t, x => match Nat.beq k t with
    | true => (k, x) :: E
    | false => (k, y) :: Env.put E t x

def Env.keep (E : Env) : List Nat → Env
  | [] => []
  | k :: ks => (k, E.get k) :: Env.keep E ks

theorem Env.get_put (E : Env) (t : Nat) (x : SV) (s : Nat) : (E.put t x).get s = if s = t then x else E.get s := by
  induction E with
  | nil =>
    simp only [Env.put, Env.get]
    cases h : Nat.beq t s with
    | true => simp [(Nat.eq_of_beq_eq_true h).symm]
    | false => rw [if_neg (fun e => by rw [e, Nat.beq_refl] at h; cases h)]
  | cons p E ih =>
    obtain ⟨k, y⟩ := p
    simp only [Env.put]
    cases h : Nat.beq k t with
    | true =>
      have hk := Nat.eq_of_beq_eq_true h
      subst hk
      simp only [Env.get]
      cases h2 : Nat.beq k s with
      | true => simp [(Nat.eq_of_beq_eq_true h2).symm]
      | false => rw [if_neg (fun e => by rw [e, Nat.beq_refl] at h2; cases h2)]
    | false =>
      simp only [Env.get]
      cases h2 : Nat.beq k s with
      | true =>
        have hk := Nat.eq_of_beq_eq_true h2
        subst hk
        rw [if_neg (fun e => by rw [e, Nat.beq_refl] at h; cases h)]
      | false => simpa using ih

theorem Env.get_keep (E : Env) (ks : List Nat) (t : Nat) (x : Value) (h : ((E.keep ks).get t).val? = some x) : (E.get t).val? = some x := by
  induction ks with
  | nil => simp [Env.keep, Env.get, SV.val?] at h
  | cons k ks ih =>
    simp only [Env.keep, Env.get] at h
    cases h2 : Nat.beq k t with
    | true => rw [h2] at h; rw [← Nat.eq_of_beq_eq_true h2]; exact h
    | false => rw [h2] at h; exact ih h

def evS (E : Env) : Operand → SV
  | .tmp t => E.get t
  | .const (.bool b) => .b b
  | .const v => .v v
  | .global g => .v (.pointer (some ⟨g, 0, none⟩))
  | .func f => .v (.func (.func f) #[] #[])

/-- A frame of N slots that agrees with what is known. -/
structure Agree (N : Nat) (E : Env) (a : Act) : Prop where
  size : a.tmps.size = N
  nod : a.defers = []
  vals : ∀ t x, (E.get t).val? = some x → a.tmps[t]? = some x

/-- The operands of an operation read as known. -/
def Reads (E : Env) (o : Oper) (a : Act) : Prop := ∀ x ∈ o.op.operands, ∀ v, (evS E x).val? = some v → a.eval x = v

theorem Agree.ev {N : Nat} {E : Env} {a : Act} (h : Agree N E a) (x : Operand) (v : Value) (hv : (evS E x).val? = some v) : a.eval x = v := by
  cases x with
  | tmp t =>
    have := h.vals t v hv
    simp [Act.eval, Array.getD_eq_getD_getElem?, this]
  | const c => cases c <;> simp_all [evS, SV.val?, Act.eval]
  | global g => simpa [evS, SV.val?, Act.eval] using hv
  | func f => simpa [evS, SV.val?, Act.eval] using hv

theorem Agree.reads {N : Nat} {E : Env} {a : Act} (h : Agree N E a) (o : Oper) : Reads E o a := fun x _ v hv => h.ev x v hv

theorem Agree.keep {N : Nat} {E : Env} {a : Act} (h : Agree N E a) (ks : List Nat) : Agree N (E.keep ks) a :=
  ⟨h.size, h.nod, fun t x hx => h.vals t x (Env.get_keep E ks t x hx)⟩

theorem Agree.put {N : Nat} {E : Env} {a : Act} (h : Agree N E a) (d : Nat) (hd : d < N) (s : SV) : Agree N (E.put d s) (a.put (some d) s.val) := by
  refine ⟨by simpa [Act.put] using h.size, h.nod, fun t x hx => ?_⟩
  rw [Env.get_put] at hx
  by_cases ht : t = d
  · subst ht
    rw [if_pos rfl] at hx
    have hv : s.val = x := by cases s <;> simp_all [SV.val?, SV.val]
    simp only [Act.put, Array.getElem?_setIfInBounds, h.size]
    simp [hd, hv]
  · rw [if_neg ht] at hx
    simp only [Act.put]
    rw [Array.getElem?_setIfInBounds_ne (fun e => ht e.symm)]
    exact h.vals t x hx

theorem Agree.setb {N : Nat} {E : Env} {a : Act} (h : Agree N E a) (t : Nat) (b : Bool) (hv : (E.get t).val? = some (.bool b)) : Agree N (E.put t (.b b)) a := by
  refine ⟨h.size, h.nod, fun s x hx => ?_⟩
  rw [Env.get_put] at hx
  by_cases hs : s = t
  · subst hs
    rw [if_pos rfl] at hx
    simp only [SV.val?, Option.some.injEq] at hx
    subst hx
    exact h.vals s _ hv
  · rw [if_neg hs] at hx
    exact h.vals s x hx

/-! ### Values by their shape -/

def onV (s : SV) (F : Value → Prop) : Prop := match s with
  | .un => False
  | .v x => F x
  | .b x => F (.bool x)
def onAd (x : Value) (F : Addr → Prop) : Prop := match x with
  | .pointer (some a) => F a
  | _ => False
def onInt (x : Value) (F : IntKind → Int → Prop) : Prop := match x with
  | .int k n => F k n
  | _ => False

theorem onV_elim {s : SV} {F : Value → Prop} (h : onV s F) : ∃ v, s.val? = some v ∧ s.val = v ∧ F v := by
  cases s with
  | un => exact h.elim
  | v x => exact ⟨x, rfl, rfl, h⟩
  | b x => exact ⟨_, rfl, rfl, h⟩

/-! ### What a type's cells hold -/

inductive Ty where
  | int (k : IntKind)
  | bool | ptr | sl | map | str
  | agg (l : List Ty)
  | tup (l : List Ty)
  | any

def tyScal : Value → Ty
  | .int k _ => .int k
  | .bool _ => .bool
  | .pointer _ => .ptr
  | .slice _ _ _ => .sl
  | .map _ => .map
  | .string _ => .str
  | _ => .any

def tyElem : Value → Ty
  | .agg cs => .agg (cs.toList.map tyScal)
  | v => tyScal v

def tyOf : Value → Ty
  | .tuple vs => .tup (vs.toList.map tyElem)
  | v => tyElem v

def exScal : Ty → (Value → Prop) → Prop
  | .int k, F => ∃ n : Int, F (.int k n)
  | .bool, F => ∃ b : Bool, F (.bool b)
  | .ptr, F => ∃ p : Option Addr, F (.pointer p)
  | .sl, F => ∃ (p : Option Addr) (n c : Nat), F (.slice p n c)
  | .map, F => ∃ r : Option Nat, F (.map r)
  | .str, F => ∃ s : ByteArray, F (.string s)
  | _, F => ∃ v : Value, F v

def exList : List Ty → (List Value → Prop) → Prop
  | [], F => F []
  | t :: ts, F => exScal t fun v => exList ts fun vs => F (v :: vs)

def exElem : Ty → (Value → Prop) → Prop
  | .agg ts, F => match Nat.ble ts.length 12 with
    | true => exList ts fun vs => F (.agg vs.toArray)
    | false => ∃ cs : List Value, cs.length = ts.length ∧ F (.agg cs.toArray)
  | t, F => exScal t F

def exElems : List Ty → (List Value → Prop) → Prop
  | [], F => F []
  | t :: ts, F => exElem t fun v => exElems ts fun vs => F (v :: vs)

def exTy : Ty → (Value → Prop) → Prop
  | .tup ts, F => exElems ts fun vs => F (.tuple vs.toArray)
  | t, F => exElem t F

theorem exScal_elim {t : Ty} {F : Value → Prop} (h : exScal t F) : ∃ v, F v := by
  cases t <;> simp only [exScal] at h
  case sl => obtain ⟨p, n, c, h⟩ := h; exact ⟨_, h⟩
  all_goals (obtain ⟨n, h⟩ := h; exact ⟨_, h⟩)

theorem exList_elim : ∀ {ts : List Ty} {F : List Value → Prop}, exList ts F → ∃ vs, vs.length = ts.length ∧ F vs
  | [], _, h => ⟨[], rfl, h⟩
  | _ :: _, _, h => by
    obtain ⟨v, h⟩ := exScal_elim h
    obtain ⟨vs, hl, h⟩ := exList_elim h
    exact ⟨v :: vs, by simp [hl], h⟩

theorem exElem_elim {t : Ty} {F : Value → Prop} (h : exElem t F) : ∃ v, F v := by
  unfold exElem at h
  split at h
  · split at h
    · obtain ⟨vs, _, h⟩ := exList_elim h; exact ⟨_, h⟩
    · obtain ⟨cs, _, h⟩ := h; exact ⟨_, h⟩
  · exact exScal_elim h

theorem exElems_elim : ∀ {ts : List Ty} {F : List Value → Prop}, exElems ts F → ∃ vs, F vs
  | [], _, h => ⟨[], h⟩
  | _ :: _, _, h => by
    obtain ⟨v, h⟩ := exElem_elim h
    obtain ⟨vs, h⟩ := exElems_elim h
    exact ⟨v :: vs, h⟩

theorem exTy_elim {t : Ty} {F : Value → Prop} (h : exTy t F) : ∃ v, F v := by
  unfold exTy at h
  split at h
  · obtain ⟨vs, h⟩ := exElems_elim h; exact ⟨_, h⟩
  · exact exElem_elim h

/-- The zero value of a type, its cells. -/
def zv (P : Program) (t : TypeId) : Value := ((P.info? t).bind (·.zero)).getD undef
def zc (P : Program) (t : TypeId) : List Value := (zv P t).cells.toList
def tyT (P : Program) (t : TypeId) : Ty := tyOf (zv P t)
def szT (P : Program) (t : TypeId) : Nat := P.cellsOf t
def aggT (P : Program) (t : TypeId) : Bool := match P.underlying t with
  | some (.struct _) | some (.array _ _) => true
  | _ => false
def okT (P : Program) (t : TypeId) : Bool := (P.info? t).isSome && (P.underlying t).isSome
def okZ (P : Program) (t : TypeId) : Bool := ((P.info? t).bind (·.zero)).isSome

section runs
variable {P : Program} {w : World}

theorem run_underlying_ok {t : TypeId} {d : TypeDesc} (h : P.underlying t = some d) : (underlying t).run P w = .ok d w := by
  simp [underlying, h]

theorem run_sizeOf_ok {t : TypeId} (h : okT P t = true) : (sizeOf t).run P w = .ok (szT P t) w := by
  simp only [okT, Bool.and_eq_true] at h
  obtain ⟨i, hi⟩ := Option.isSome_iff_exists.1 h.1
  simp [sizeOf, typeInfo, hi, szT, Program.cellsOf]

theorem run_isAgg_ok {t : TypeId} (h : okT P t = true) : (isAgg t).run P w = .ok (aggT P t) w := by
  simp only [okT, Bool.and_eq_true] at h
  obtain ⟨d, hd⟩ := Option.isSome_iff_exists.1 h.2
  simp only [isAgg, aggT, hd, Sem.run_bind, run_underlying_ok hd, Result.andThen_ok]
  cases d <;> rfl

theorem run_zeroValue_ok {t : TypeId} (h : okZ P t = true) : (zeroValue t).run P w = .ok (zv P t) w := by
  simp only [okZ] at h
  obtain ⟨z, hz⟩ := Option.isSome_iff_exists.1 h
  obtain ⟨i, hi, hz2⟩ := Option.bind_eq_some_iff.1 hz
  simp [zeroValue, typeInfo, hi, hz2, zv]
end runs


/-! ### Operations that leave the world alone -/

def mvQ (s : SV) (K : SV → Prop) : Prop := match s with
  | .un => False
  | .v x => K (.v x)
  | .b x => K (.b x)

def pickQ (c x y : SV) (K : SV → Prop) : Prop := match c with
  | .b true => mvQ x K
  | .b false => mvQ y K
  | .v (.bool c) => onV x fun x => onV y fun y => K (.v (match c with | true => x | false => y))
  | _ => False

def nilQ (x : Value) (K : SV → Prop) : Prop := match x with
  | .pointer p => ∃ a, p = some a ∧ K (.v (.pointer (some a)))
  | .func (.func f) a b => K (.v (.func (.func f) a b))
  | _ => False

def bitsOp (op : BinOp) (k : IntKind) (a b : Int) : Int :=
  let x := BitVec.ofInt k.bits a
  let y := BitVec.ofInt k.bits b
  match op with
  | .and => k.wrap (x &&& y).toNat
  | .or => k.wrap (x ||| y).toNat
  | .xor => k.wrap (x ^^^ y).toNat
  | _ => k.wrap (x &&& ~~~y).toNat

def shlOp (k : IntKind) (a b : Int) : Int := k.wrap (a * 2 ^ (min b.toNat k.bits))
def shrOp (k : IntKind) (a b : Int) : Int := a.fdiv (2 ^ (min b.toNat k.bits))

def intQ (op : BinOp) (k k' : IntKind) (a b : Int) (K : SV → Prop) : Prop :=
  match op with
  | .shl => 0 ≤ b ∧ K (.v (.int k (shlOp k a b)))
  | .shr => 0 ≤ b ∧ K (.v (.int k (shrOp k a b)))
  | op => match decide (k = k') with
    | false => False
    | true => match op with
      | .add => K (.v (.int k (k.wrap (a + b))))
      | .sub => K (.v (.int k (k.wrap (a - b))))
      | .mul => K (.v (.int k (k.wrap (a * b))))
      | .quo => b ≠ 0 ∧ K (.v (.int k (k.wrap (a.tdiv b))))
      | .rem => b ≠ 0 ∧ K (.v (.int k (a.tmod b)))
      | .and => K (.v (.int k (bitsOp .and k a b)))
      | .or => K (.v (.int k (bitsOp .or k a b)))
      | .xor => K (.v (.int k (bitsOp .xor k a b)))
      | .andNot => K (.v (.int k (bitsOp .andNot k a b)))
      | .eql => K (.v (.bool (a == b)))
      | .neq => K (.v (.bool (a != b)))
      | .lss => K (.v (.bool (decide (a < b))))
      | .leq => K (.v (.bool (decide (a ≤ b))))
      | .gtr => K (.v (.bool (decide (a > b))))
      | .geq => K (.v (.bool (decide (a ≥ b))))
      | _ => False

def eqB (op : BinOp) (b : Bool) (K : SV → Prop) : Prop := match op with
  | .eql => K (.v (.bool b))
  | .neq => K (.v (.bool (!b)))
  | _ => False

def binQ (P : Program) (w : World) (op : BinOp) (t : TypeId) (x y : Value) (K : SV → Prop) : Prop :=
  match x with
  | .int k a => match y with
    | .int k' b => intQ op k k' a b K
    | _ => False
  | .bool a => match y with
    | .bool b => match P.underlying t with
      | some .bool => eqB op (a == b) K
      | _ => False
    | _ => False
  | .pointer p => match y with
    | .pointer none => match P.underlying t with
      | some (.pointer _) => eqB op p.isNone K
      | _ => False
    | _ => False
  | .slice p _ _ => match y with
    | .slice none 0 0 => match P.underlying t with
      | some (.slice _) => eqB op p.isNone K
      | _ => False
    | _ => False
  | .agg xs => match y with
    | .agg ys => match aggT P t with
      | true => ∃ b : Bool, (Op.equal t (.agg xs) (.agg ys)).run P w = .ok b w ∧ P.eqGuardType P.depth t = false ∧ eqB op b K
      | false => False
    | _ => False
  | _ => False

def unQ (op : UnOp) (s : SV) (K : SV → Prop) : Prop := match op with
  | .not => match s with
    | .b x => K (.b (!x))
    | .v (.bool x) => K (.v (.bool (!x)))
    | _ => False
  | .neg => onV s fun v => onInt v fun k n => K (.v (.int k (k.wrap (0 - n))))
  | .xor => onV s fun v => onInt v fun k n => K (.v (.int k (bitsOp .xor k (match k.signed with | true => -1 | false => k.max) n)))
  | _ => False

def cvQ (P : Program) (src dst : TypeId) (x : Value) (K : SV → Prop) : Prop :=
  match P.underlying src, P.underlying dst with
  | some _, some (.int k) => onInt x fun _ n => K (.v (.int k (k.wrap n)))
  | _, _ => False

def ldList (w : World) (ad : Addr) : Nat → List Ty → (List Value → Prop) → Prop
  | _, [], F => F []
  | i, t :: ts, F => exScal t fun v => w.cell? (ad.add i) = some v ∧ ldList w ad (i + 1) ts fun vs => F (v :: vs)

def CellsAt (w : World) (ad : Addr) (cs : List Value) : Prop := ∀ j v, cs[j]? = some v → w.cell? (ad.add j) = some v

def ldQ (P : Program) (w : World) (t : TypeId) (ad : Addr) (F : Value → Prop) : Prop :=
  match okT P t with
  | false => False
  | true => match aggT P t with
    | false => exScal (tyScal (zv P t)) fun v => w.cell? ad = some v ∧ F v
    | true => match Nat.beq (zc P t).length (szT P t) with
      | false => False
      | true => match Nat.ble (szT P t) 12 with
        | true => ldList w ad 0 ((zc P t).map tyScal) fun vs => F (.agg vs.toArray)
        | false => ∃ cs : List Value, cs.length = szT P t ∧ CellsAt w ad cs ∧ F (.agg cs.toArray)

def faQ (P : Program) (s : TypeId) (ad : Addr) (f : Nat) (K : SV → Prop) : Prop :=
  match P.underlying s with
  | some (.struct fs) => match fs.toList[f]? with
    | some fd => match okT P fd.type with
      | true => match Nat.beq (szT P fd.type) 0 with
        | false => K (.v (.pointer (some (ad.add fd.offset))))
        | true => False
      | false => False
    | none => False
  | _ => False

def partQ (P : Program) (t : TypeId) (cs : List Value) (off : Nat) (F : Value → Prop) : Prop :=
  match okT P t with
  | false => False
  | true => match aggT P t with
    | true => F (.agg ((cs.drop off).take (szT P t)).toArray)
    | false => match cs[off]? with
      | some v => F v
      | none => False

def flQ (P : Program) (s : TypeId) (x : Value) (f : Nat) (K : SV → Prop) : Prop :=
  match P.underlying s with
  | some (.struct fs) => match fs.toList[f]? with
    | some fd => match x with
      | .agg cs => partQ P fd.type cs.toList fd.offset fun v => K (.v v)
      | _ => False
    | none => False
  | _ => False

def iaQ (P : Program) (t : TypeId) (x ix : Value) (K : SV → Prop) : Prop :=
  onInt ix fun _ i => match P.underlying t with
  | some (.slice e) => match okT P e with
    | false => False
    | true => match x with
      | .slice base len _ => (0 ≤ i ∧ i < (len : Int)) ∧ ∃ a, base = some a ∧ K (.v (.pointer (some (a.add (i.toNat * szT P e)))))
      | _ => False
  | some (.array len e) => match okT P e with
    | false => False
    | true => onAd x fun a => (0 ≤ i ∧ i < (len : Int)) ∧ K (.v (.pointer (some (a.add (i.toNat * szT P e)))))
  | _ => False

def ixQ (P : Program) (t : TypeId) (x ix : Value) (K : SV → Prop) : Prop :=
  onInt ix fun _ i => match P.underlying t with
  | some (.array len e) => match okT P e with
    | false => False
    | true => match x with
      | .agg cs => (0 ≤ i ∧ i < (len : Int)) ∧ match aggT P e with
        | false => exScal (tyScal (zv P e)) fun v => cs.toList[i.toNat * szT P e]? = some v ∧ K (.v v)
        | true => exList ((zc P e).map tyScal) fun vs => (cs.toList.drop (i.toNat * szT P e)).take (szT P e) = vs ∧ K (.v (.agg vs.toArray))
      | _ => False
  | some .string => match x with
    | .string s => (0 ≤ i ∧ i < (s.size : Int)) ∧ ∃ c : Int, (∃ u : UInt8, s[i.toNat]? = some u ∧ (u.toNat : Int) = c) ∧ K (.v (.int .u8 c))
    | _ => False
  | _ => False

def exQ (x : Value) (i : Nat) (K : SV → Prop) : Prop := match x with
  | .tuple vs => match vs.toList[i]? with
    | some v => K (.v v)
    | none => False
  | _ => False

def lenQ (P : Program) (w : World) (t : TypeId) (x : Value) (K : SV → Prop) : Prop :=
  match P.underlying t with
  | some (.slice _) => match x with
    | .slice _ n _ => K (.v (.int .i64 (n : Int)))
    | _ => False
  | some .string => match x with
    | .string s => K (.v (.int .i64 (s.size : Int)))
    | _ => False
  | some (.array n _) => K (.v (.int .i64 (n : Int)))
  | some (.map _ _) => match x with
    | .map r => ∃ n : Nat, (∀ ty, (Builtin.len_ #[t] ty #[.map r]).run P w = .ok (.int .i64 (n : Int)) w) ∧ K (.v (.int .i64 (n : Int)))
    | _ => False
  | _ => False

def argsQ (E : Env) : List Operand → (List Value → Prop) → Prop
  | [], F => F []
  | x :: xs, F => onV (evS E x) fun v => argsQ E xs fun vs => F (v :: vs)

def partsQ (E : Env) : List (Nat × Operand) → (List (Nat × Value) → Prop) → Prop
  | [], F => F []
  | (i, x) :: xs, F => onV (evS E x) fun v => partsQ E xs fun vs => F ((i, v) :: vs)

def setL (cells : List Value) (off : Nat) (vs : List Value) : List Value := cells.take off ++ vs ++ cells.drop (off + vs.length)

def fillL (place : Nat → Option (Nat × Nat)) (cells : List Value) : List (Nat × Value) → Option (List Value)
  | [] => some cells
  | (i, v) :: rest => match place i with
    | none => none
    | some (off, size) => match Nat.beq v.cells.toList.length size && Nat.ble (off + size) cells.length with
      | true => fillL place (setL cells off v.cells.toList) rest
      | false => none

def bdQ (P : Program) (t : TypeId) (ps : List (Nat × Value)) (K : SV → Prop) : Prop :=
  match okZ P t with
  | false => False
  | true => match P.underlying t with
    | some (.struct fs) => match fs.toList.all fun f => okT P f.type with
      | false => False
      | true => match fillL (fun i => (fs.toList[i]?).map fun f => (f.offset, szT P f.type)) (zc P t) ps with
        | some cs => K (.v (.agg cs.toArray))
        | none => False
    | some (.array _ e) => match okT P e with
      | false => False
      | true => match fillL (fun i => some (i * szT P e, szT P e)) (zc P t) ps with
        | some cs => K (.v (.agg cs.toArray))
        | none => False
    | _ => False

/-- A bound of a slice expression. -/
def bndQ (E : Env) (x : Option Operand) (dflt : Nat) (top : Nat) (F : Nat → Prop) : Prop := match x with
  | none => F dflt
  | some o => onV (evS E o) fun v => onInt v fun _ i => (0 ≤ i ∧ i ≤ (top : Int)) ∧ F i.toNat

def subA (a : Option Addr) (m l sz : Nat) : Option Addr := if m = l then a else a.map (·.add (l * sz))

def slQ (P : Program) (E : Env) (t : TypeId) (x : Value) (lo hi mx : Option Operand) (K : SV → Prop) : Prop :=
  match P.underlying t with
  | some (.slice e) => match okT P e with
    | false => False
    | true => match x with
      | .slice a len cap => match mx, hi with
        | some _, none => False
        | _, _ => bndQ E mx cap cap fun m => bndQ E hi len m fun h => bndQ E lo 0 h fun l => K (.v (.slice (subA a m l (szT P e)) (h - l) (m - l)))
      | _ => False
  | some (.array n e) => match okT P e with
    | false => False
    | true => onAd x fun a => match mx, hi with
        | some _, none => False
        | _, _ => bndQ E mx n n fun m => bndQ E hi n m fun h => bndQ E lo 0 h fun l => K (.v (.slice (subA (some a) m l (szT P e)) (h - l) (m - l)))
  | _ => False

def opQ (P : Program) (o : Oper) (E : Env) (w : World) (K : SV → Prop) : Prop :=
  match o.op with
  | .move x => mvQ (evS E x) K
  | .assign x => mvQ (evS E x) K
  | .pick c x y => pickQ (evS E c) (evS E x) (evS E y) K
  | .nilCheck x => onV (evS E x) fun v => nilQ v K
  | .binOp op t x y _ => onV (evS E x) fun x => onV (evS E y) fun y => binQ P w op t x y K
  | .unOp op _ x => unQ op (evS E x) K
  | .convert s d x => onV (evS E x) fun v => cvQ P s d v K
  | .load t a => onV (evS E a) fun v => onAd v fun ad => ldQ P w t ad fun v => K (.v v)
  | .fieldAddr s x f => onV (evS E x) fun v => onAd v fun ad => faQ P s ad f K
  | .field s x f => onV (evS E x) fun v => flQ P s v f K
  | .indexAddr t x i => onV (evS E x) fun x => onV (evS E i) fun i => iaQ P t x i K
  | .index t x i => onV (evS E x) fun x => onV (evS E i) fun i => ixQ P t x i K
  | .extract x i => onV (evS E x) fun x => exQ x i K
  | .build t ps => partsQ E ps.toList fun ps => bdQ P t ps K
  | .slice t x lo hi mx => onV (evS E x) fun x => slQ P E t x lo hi mx K
  | .makeFunc fn first cap => argsQ E first.toList fun fs => argsQ E cap.toList fun cs => K (.v (.func fn fs.toArray cs.toArray))
  | .lookup t x i ok => onV (evS E x) fun x => onV (evS E i) fun i => exTy (tyT P o.type) fun v => (Instr.lookup t x i ok).run P w = .ok v w ∧ K (.v v)
  | .call c => match c.callee with
    | .builtin .len => match c.args.toList with
      | [x] => match c.argTypes.toList with
        | [t] => onV (evS E x) fun x => lenQ P w t x K
        | _ => False
      | _ => False
    | _ => False
  | _ => False

/-! ### They do what they tell -/

def Quiet (P : Program) (o : Oper) (E : Env) (w : World) (s : SV) : Prop :=
  ∀ a, Reads E o a → (execOp a.eval o).run P w = .ok (.value s.val) w

theorem onInt_elim {x : Value} {F : IntKind → Int → Prop} (h : onInt x F) : ∃ k n, x = .int k n ∧ F k n := by
  cases x <;> first | exact ⟨_, _, rfl, h⟩ | exact h.elim
theorem onAd_elim {x : Value} {F : Addr → Prop} (h : onAd x F) : ∃ a, x = .pointer (some a) ∧ F a := by
  cases x with
  | pointer p => cases p with
    | some a => exact ⟨a, rfl, h⟩
    | none => exact h.elim
  | _ => exact h.elim

theorem mvQ_elim {s : SV} {K : SV → Prop} (h : mvQ s K) : ∃ v, s.val? = some v ∧ s.val = v ∧ K s := by
  cases s with
  | un => exact h.elim
  | v x => exact ⟨x, rfl, rfl, h⟩
  | b x => exact ⟨_, rfl, rfl, h⟩

theorem ldList_elim {w : World} {ad : Addr} : ∀ {ts : List Ty} {i : Nat} {F : List Value → Prop}, ldList w ad i ts F →
    ∃ vs : List Value, vs.length = ts.length ∧ (∀ j v, vs[j]? = some v → w.cell? (ad.add (i + j)) = some v) ∧ F vs
  | [], _, _, h => ⟨[], rfl, fun j v hv => by simp at hv, h⟩
  | t :: ts, i, F, h => by
    obtain ⟨v, hc, h⟩ := exScal_elim h
    obtain ⟨vs, hl, hcs, h⟩ := ldList_elim h
    refine ⟨v :: vs, by simp [hl], fun j u hu => ?_, h⟩
    cases j with
    | zero => simp at hu; subst hu; exact hc
    | succ j => rw [show i + (j + 1) = i + 1 + j by omega]; exact hcs j u (by simpa using hu)

theorem ldQ_elim {P : Program} {w : World} {t : TypeId} {ad : Addr} {F : Value → Prop} (h : ldQ P w t ad F) :
    ∃ v, (loadVar t ad).run P w = .ok v w ∧ F v := by
  unfold ldQ at h
  cases ho : okT P t with
  | false => rw [ho] at h; exact h.elim
  | true =>
    rw [ho] at h
    simp only at h
    cases hg : aggT P t with
    | false =>
      rw [hg] at h
      obtain ⟨v, hc, hF⟩ := exScal_elim h
      exact ⟨v, by simp [loadVar, run_isAgg_ok ho, hg, hc], hF⟩
    | true =>
      rw [hg] at h
      simp only at h
      have key : ∀ cs : List Value, cs.length = szT P t → (∀ j v, cs[j]? = some v → w.cell? (ad.add j) = some v) → (loadVar t ad).run P w = .ok (.agg cs.toArray) w := by
        intro cs hl hc
        have := run_loadCells_list (P := P) w ad cs hc
        simp [loadVar, run_isAgg_ok ho, hg, run_sizeOf_ok ho, ← hl, this]
      cases hz : Nat.beq (zc P t).length (szT P t) with
      | false => rw [hz] at h; exact h.elim
      | true =>
        rw [hz] at h
        simp only at h
        cases hb : Nat.ble (szT P t) 12 with
        | true =>
          rw [hb] at h
          obtain ⟨vs, hl, hc, hF⟩ := ldList_elim h
          refine ⟨_, key vs ?_ (fun j v hv => by simpa using hc j v hv), hF⟩
          rw [hl, List.length_map]
          exact Nat.eq_of_beq_eq_true hz
        | false =>
          rw [hb] at h
          obtain ⟨cs, hl, hc, hF⟩ := h
          exact ⟨_, key cs hl hc, hF⟩

section
variable {P : Program} {w : World}

theorem run_part_agg {t : TypeId} {cs : Array Value} {off : Nat} (ho : okT P t = true) (hg : aggT P t = true) :
    (part t cs off).run P w = .ok (.agg ((cs.toList.drop off).take (szT P t)).toArray) w := by
  have e : cs.extract off (off + szT P t) = ((cs.toList.drop off).take (szT P t)).toArray := by
    apply Array.ext'
    simp [Array.toList_extract, List.extract_eq_take_drop]
  simp [part, run_isAgg_ok ho, hg, run_sizeOf_ok ho, e]

theorem run_part_scal {t : TypeId} {cs : Array Value} {off : Nat} {v : Value} (ho : okT P t = true) (hg : aggT P t = false) (hv : cs.toList[off]? = some v) :
    (part t cs off).run P w = .ok v w := by
  have hv' : cs[off]? = some v := by simpa using hv
  simp [part, run_isAgg_ok ho, hg, hv']

theorem partQ_elim {t : TypeId} {cs : Array Value} {off : Nat} {F : Value → Prop} (h : partQ P t cs.toList off F) :
    ∃ v, (∀ w, (part t cs off).run P w = .ok v w) ∧ F v := by
  unfold partQ at h
  cases ho : okT P t with
  | false => rw [ho] at h; exact h.elim
  | true =>
    rw [ho] at h
    simp only at h
    cases hg : aggT P t with
    | true => rw [hg] at h; exact ⟨_, fun _ => run_part_agg ho hg, h⟩
    | false =>
      rw [hg] at h
      simp only at h
      cases hv : cs.toList[off]? with
      | none => rw [hv] at h; exact h.elim
      | some v => rw [hv] at h; exact ⟨v, fun _ => run_part_scal ho hg hv, h⟩

theorem intQ_elim {t : TypeId} {op : BinOp} {k k' : IntKind} {a b : Int} {K : SV → Prop} (h : intQ op k k' a b K) :
    ∃ v, (∀ w, (binOp op t (.int k a) (.int k' b)).run P w = .ok v w) ∧ K (.v v) := by
  unfold intQ at h
  split at h
  · obtain ⟨hb, h⟩ := h
    exact ⟨_, fun w => by simp [binOp, Op.shift, shlOp, show ¬ b < 0 by omega], h⟩
  · obtain ⟨hb, h⟩ := h
    exact ⟨_, fun w => by simp [binOp, Op.shift, shrOp, show ¬ b < 0 by omega], h⟩
  · rename_i op' h1 h2
    by_cases hk : k = k'
    · subst hk
      simp only [decide_true] at h
      split at h
      case h_4 => obtain ⟨hb, h⟩ := h; exact ⟨_, fun w => by simp [binOp, Op.intDiv, hb], h⟩
      case h_5 => obtain ⟨hb, h⟩ := h; exact ⟨_, fun w => by simp [binOp, Op.intDiv, hb], h⟩
      case h_16 => exact h.elim
      all_goals exact ⟨_, fun w => by simp [binOp, Op.intArith, Op.intBits, Op.intCmp, bitsOp], h⟩
    · simp [hk] at h

theorem eqB_elim {op : BinOp} {b : Bool} {K : SV → Prop} (h : eqB op b K) : (op = .eql ∧ K (.v (.bool b))) ∨ (op = .neq ∧ K (.v (.bool (!b)))) := by
  unfold eqB at h
  split at h
  · exact .inl ⟨rfl, h⟩
  · exact .inr ⟨rfl, h⟩
  · exact h.elim

theorem run_eqGuard_plain {op : BinOp} {t : TypeId} {x y : Operand} {a b : Value} (h : ∀ xs ys, ¬ (a = .agg xs ∧ b = .agg ys)) (h2 : a ≠ .nilIface) :
    (eqGuard op t x y a b).run P w = .ok () w := by
  unfold eqGuard
  cases op <;> first
    | rfl
    | (cases a <;> first
        | rfl
        | exact absurd rfl h2
        | (cases b <;> first
            | exact absurd ⟨rfl, rfl⟩ (h _ _)
            | rfl))

def BinRuns (P : Program) (op : BinOp) (t : TypeId) (ox oy : Operand) (x y v : Value) (w : World) : Prop :=
  (eqGuard op t ox oy x y).run P w = .ok () w ∧ (binOp op t x y).run P w = .ok v w

theorem binQ_elim {op : BinOp} {t : TypeId} {x y : Value} {ox oy : Operand} {K : SV → Prop} (h : binQ P w op t x y K) :
    ∃ v, BinRuns P op t ox oy x y v w ∧ (aggT P t = false → ∀ w', BinRuns P op t ox oy x y v w') ∧ K (.v v) := by
  have both : ∀ {v : Value}, (∀ w', BinRuns P op t ox oy x y v w') → K (.v v) → ∃ v, BinRuns P op t ox oy x y v w ∧ (aggT P t = false → ∀ w', BinRuns P op t ox oy x y v w') ∧ K (.v v) :=
    fun h1 h2 => ⟨_, h1 w, fun _ => h1, h2⟩
  unfold binQ at h
  cases x with
  | int k a => cases y with
    | int k' b =>
      obtain ⟨v, hv, hK⟩ := intQ_elim (P := P) (t := t) h
      exact both (fun w' => ⟨run_eqGuard_plain (by simp) (by simp), hv w'⟩) hK
    | _ => exact h.elim
  | bool a => cases y with
    | bool b =>
      simp only at h
      split at h
      · rename_i hu
        rcases eqB_elim h with ⟨rfl, h⟩ | ⟨rfl, h⟩
        · exact both (fun w' => ⟨run_eqGuard_plain (by simp) (by simp), run_eql_bool w' t _ _ hu⟩) h
        · exact both (fun w' => ⟨run_eqGuard_plain (by simp) (by simp), run_neq_bool w' t _ _ hu⟩) h
      · exact h.elim
    | _ => exact h.elim
  | pointer p => cases y with
    | pointer q => cases q with
      | none =>
        simp only at h
        split at h
        · rename_i e hu
          have hu' : P.underlying t = some (.pointer (P.pointee t)) := by simp [Program.pointee, hu]
          rcases eqB_elim h with ⟨rfl, h⟩ | ⟨rfl, h⟩
          · exact both (fun w' => ⟨run_eqGuard_plain (by simp) (by simp), run_eql_pointer_nil w' t _ hu'⟩) h
          · exact both (fun w' => ⟨run_eqGuard_plain (by simp) (by simp), run_neq_pointer_nil w' t _ hu'⟩) h
        · exact h.elim
      | some q => exact h.elim
    | _ => exact h.elim
  | slice p n c =>
    simp only at h
    split at h
    · split at h
      · rename_i e hu
        rcases eqB_elim h with ⟨rfl, h⟩ | ⟨rfl, h⟩
        · exact both (fun w' => ⟨run_eqGuard_plain (by simp) (by simp), by simp only [binOp]; simp [run_equal_slice_nil w' t e _ _ _ hu]⟩) h
        · exact both (fun w' => ⟨run_eqGuard_plain (by simp) (by simp), by simp only [binOp]; simp [run_equal_slice_nil w' t e _ _ _ hu]⟩) h
      · exact h.elim
    · exact h.elim
  | agg xs => cases y with
    | agg ys =>
      simp only at h
      cases hat : aggT P t with
      | false => rw [hat] at h; exact h.elim
      | true =>
        rw [hat] at h
        obtain ⟨b, hr, hg, h⟩ := h
        have hgd : (eqGuard op t ox oy (.agg xs) (.agg ys)).run P w = .ok () w := by
          unfold eqGuard
          cases op <;> first
            | rfl
            | simp [hg]
        rcases eqB_elim h with ⟨rfl, h⟩ | ⟨rfl, h⟩
        · exact ⟨_, ⟨hgd, by simp only [binOp]; simp [hr]⟩, fun hf => by simp at hf, h⟩
        · exact ⟨_, ⟨hgd, by simp only [binOp]; simp [hr]⟩, fun hf => by simp at hf, h⟩
    | _ => exact h.elim
  | _ => exact h.elim

theorem argsQ_elim {E : Env} : ∀ {xs : List Operand} {F : List Value → Prop}, argsQ E xs F →
    ∃ vs, F vs ∧ ∀ a : Act, (∀ x ∈ xs, ∀ v, (evS E x).val? = some v → a.eval x = v) → xs.map a.eval = vs
  | [], _, h => ⟨[], h, fun _ _ => rfl⟩
  | x :: xs, F, h => by
    obtain ⟨v, hv, _, h⟩ := onV_elim h
    obtain ⟨vs, hF, hm⟩ := argsQ_elim h
    refine ⟨v :: vs, hF, fun a ha => ?_⟩
    rw [List.map_cons, ha x (by simp) v hv, hm a (fun y hy => ha y (by simp [hy]))]

theorem partsQ_elim {E : Env} : ∀ {xs : List (Nat × Operand)} {F : List (Nat × Value) → Prop}, partsQ E xs F →
    ∃ vs, F vs ∧ ∀ a : Act, (∀ x ∈ xs.map (·.2), ∀ v, (evS E x).val? = some v → a.eval x = v) → xs.map (fun p => (p.1, a.eval p.2)) = vs
  | [], _, h => ⟨[], h, fun _ _ => rfl⟩
  | (i, x) :: xs, F, h => by
    obtain ⟨v, hv, _, h⟩ := onV_elim h
    obtain ⟨vs, hF, hm⟩ := partsQ_elim h
    refine ⟨(i, v) :: vs, hF, fun a ha => ?_⟩
    rw [List.map_cons, hm a (fun y hy => ha y (by simp only [List.map_cons, List.mem_cons]; exact .inr hy))]
    simp only
    rw [ha x (by simp) v hv]

theorem setL_length {cells : List Value} {off : Nat} {vs : List Value} (h : off + vs.length ≤ cells.length) : (setL cells off vs).length = cells.length := by
  simp [setL]; omega

theorem foldl_set (off : Nat) : ∀ (vs : List Value) (j : Nat) (cs : Array Value), off + j + vs.length ≤ cs.size →
    ((vs.zipIdx j).foldl (fun cs (p : Value × Nat) => cs.setIfInBounds (off + p.2) p.1) cs).toList = setL cs.toList (off + j) vs
  | [], j, cs, _ => by simp [setL]
  | v :: vs, j, cs, h => by
    simp only [List.length_cons] at h
    rw [List.zipIdx_cons, List.foldl_cons, foldl_set off vs (j + 1) _ (by simp; omega)]
    have e := list_seg_step cs.toList (off + j) v vs (by simp; omega)
    simp only [setL, Array.toList_setIfInBounds, List.length_cons]
    rw [← e]
    simp [Nat.add_assoc]

theorem fill_eq (place place' : Nat → Option (Nat × Nat)) : ∀ (ps : List (Nat × Value)) (cells : Array Value) (r : List Value), (∀ i, place i = place' i) →
    fillL place cells.toList ps = some r → Instr.fill place' cells ps = some r.toArray
  | [], cells, r, _, h => by simp only [fillL, Option.some.injEq] at h; subst h; simp [Instr.fill]
  | (i, v) :: ps, cells, r, hp, h => by
    simp only [fillL] at h
    rw [hp i] at h
    simp only [Instr.fill]
    cases hpl : place' i with
    | none => rw [hpl] at h; simp at h
    | some q =>
      obtain ⟨off, size⟩ := q
      rw [hpl] at h
      simp only at h
      cases hb : (Nat.beq v.cells.toList.length size && Nat.ble (off + size) cells.toList.length) with
      | false => rw [hb] at h; simp at h
      | true =>
        rw [hb] at h
        simp only [Bool.and_eq_true] at hb
        have h1 : v.cells.size = size := by simpa using Nat.eq_of_beq_eq_true hb.1
        have h2 : off + size ≤ cells.size := by simpa using Nat.le_of_ble_eq_true hb.2
        simp only at h
        have e : (v.cells.zipIdx.foldl (fun cs (p : Value × Nat) => cs.setIfInBounds (off + p.2) p.1) cells).toList = setL cells.toList off v.cells.toList := by
          rw [← Array.foldl_toList, Array.toList_zipIdx]
          exact foldl_set off v.cells.toList 0 cells (by simp; omega)
        have hcond : ¬ (v.cells.size ≠ size || off + v.cells.size > cells.size) = true := by simp [h1]; omega
        simp only [hcond]
        rw [← e] at h
        exact fill_eq place place' ps _ r hp h
end

section
variable {P : Program} {w : World} {E : Env} {o : Oper} {K : SV → Prop}

theorem sliceBound_ok {i : Int} {k : IntKind} {top : Nat} {code : BoundsCode} (h : 0 ≤ i ∧ i ≤ (top : Int)) : (Instr.sliceBound (.int k i) top code).run P w = .ok i.toNat w := by
  simp [Instr.sliceBound, asIntOf, h]

/-- What a bound comes to. -/
def BndAt (a : Act) (x : Option Operand) (dflt top n : Nat) : Prop := match x with
  | none => n = dflt
  | some o => ∃ k i, a.eval o = .int k i ∧ (0 ≤ i ∧ i ≤ (top : Int)) ∧ n = i.toNat

theorem bndQ_elim {x : Option Operand} {dflt top : Nat} {F : Nat → Prop} (h : bndQ E x dflt top F) :
    ∃ n, F n ∧ ∀ a : Act, (∀ y ∈ x, ∀ v, (evS E y).val? = some v → a.eval y = v) → BndAt a x dflt top n := by
  unfold bndQ at h
  cases x with
  | none => exact ⟨dflt, h, fun _ _ => rfl⟩
  | some o =>
    obtain ⟨v, hv, _, h⟩ := onV_elim h
    obtain ⟨k, i, rfl, hi, h⟩ := onInt_elim h
    exact ⟨i.toNat, h, fun a ha => ⟨k, i, ha o rfl _ hv, hi, rfl⟩⟩

theorem bounds_ok {a : Act} {isS : Bool} {lo hi mx : Option Operand} {len cap l h m : Nat} (hno : ¬ (mx.isSome = true ∧ hi.isSome = false))
    (hm : BndAt a mx cap cap m) (hh : BndAt a hi len m h) (hl : BndAt a lo 0 h l) :
    (Instr.sliceBounds isS len cap (lo.map a.eval) (hi.map a.eval) (mx.map a.eval)).run P w = .ok (l, h, m) w := by
  unfold Instr.sliceBounds
  cases mx with
  | none =>
    obtain rfl : m = cap := hm
    cases hi with
    | none =>
      obtain rfl : h = len := hh
      cases lo with
      | none => obtain rfl : l = 0 := hl; simp
      | some ol => obtain ⟨k, i, he, hb, rfl⟩ := hl; simp [he, sliceBound_ok hb]
    | some oh =>
      obtain ⟨k1, i1, he1, hb1, rfl⟩ := hh
      cases lo with
      | none => obtain rfl : l = 0 := hl; simp [he1, sliceBound_ok hb1]
      | some ol => obtain ⟨k, i, he, hb, rfl⟩ := hl; simp [he, he1, sliceBound_ok hb, sliceBound_ok hb1]
  | some om =>
    obtain ⟨k2, i2, he2, hb2, rfl⟩ := hm
    cases hi with
    | none => simp at hno
    | some oh =>
      obtain ⟨k1, i1, he1, hb1, rfl⟩ := hh
      cases lo with
      | none => obtain rfl : l = 0 := hl; simp [he1, he2, sliceBound_ok hb1, sliceBound_ok hb2]
      | some ol => obtain ⟨k, i, he, hb, rfl⟩ := hl; simp [he, he1, he2, sliceBound_ok hb, sliceBound_ok hb1, sliceBound_ok hb2]

theorem slQ_elim {t : TypeId} {x : Value} {lo hi mx : Option Operand} (h : slQ P E t x lo hi mx K) :
    ∃ v, K (.v v) ∧ ∀ a : Act, (∀ y ∈ lo.toList ++ hi.toList ++ mx.toList, ∀ v, (evS E y).val? = some v → a.eval y = v) →
      ∀ w, (Instr.sliceAt t x (lo.map a.eval) (hi.map a.eval) (mx.map a.eval)).run P w = .ok v w := by
  unfold slQ at h
  split at h
  · rename_i e hu
    cases ho : okT P e with
    | false => rw [ho] at h; exact h.elim
    | true =>
      rw [ho] at h
      simp only at h
      split at h
      · rename_i p len cap
        have hno : ¬ (mx.isSome = true ∧ hi.isSome = false) := by
          rintro ⟨h1, h2⟩
          cases mx <;> cases hi <;> simp_all
        have h' : bndQ E mx cap cap fun m => bndQ E hi len m fun h => bndQ E lo 0 h fun l => K (.v (.slice (subA p m l (szT P e)) (h - l) (m - l))) := by
          cases mx <;> cases hi <;> simp_all
        obtain ⟨m, h1, hm⟩ := bndQ_elim h'
        obtain ⟨hh, h2, hhh⟩ := bndQ_elim h1
        obtain ⟨l, h3, hl⟩ := bndQ_elim h2
        refine ⟨_, h3, fun a ha w => ?_⟩
        have hb := bounds_ok (P := P) (w := w) (isS := true) hno (hm a fun y hy => ha y (by cases mx <;> simp_all)) (hhh a fun y hy => ha y (by cases hi <;> simp_all)) (hl a fun y hy => ha y (by cases lo <;> simp_all))
        simp [Instr.sliceAt, Instr.slice, run_underlying_ok hu, hb, run_sizeOf_ok ho, subA]
      · exact h.elim
  · rename_i n e hu
    cases ho : okT P e with
    | false => rw [ho] at h; exact h.elim
    | true =>
      rw [ho] at h
      simp only at h
      obtain ⟨ad, rfl, h⟩ := onAd_elim h
      have hno : ¬ (mx.isSome = true ∧ hi.isSome = false) := by
        rintro ⟨h1, h2⟩
        cases mx <;> cases hi <;> simp_all
      have h' : bndQ E mx n n fun m => bndQ E hi n m fun h => bndQ E lo 0 h fun l => K (.v (.slice (subA (some ad) m l (szT P e)) (h - l) (m - l))) := by
        cases mx <;> cases hi <;> simp_all
      obtain ⟨m, h1, hm⟩ := bndQ_elim h'
      obtain ⟨hh, h2, hhh⟩ := bndQ_elim h1
      obtain ⟨l, h3, hl⟩ := bndQ_elim h2
      refine ⟨_, h3, fun a ha w => ?_⟩
      have hb := bounds_ok (P := P) (w := w) (isS := false) hno (hm a fun y hy => ha y (by cases mx <;> simp_all)) (hhh a fun y hy => ha y (by cases hi <;> simp_all)) (hl a fun y hy => ha y (by cases lo <;> simp_all))
      have hs : (Instr.sureAddr (.pointer (some ad))).run P w = .ok ad w := rfl
      simp [Instr.sliceAt, run_underlying_ok hu, hs, hb, run_sizeOf_ok ho, subA]
      split <;> simp_all
  · exact h.elim

theorem run_fieldPlace {ad : Addr} {f : Field} (ho : okT P f.type = true) (hz : szT P f.type ≠ 0) : (fieldPlace ad f).run P w = .ok (ad.add f.offset) w := by
  simp [fieldPlace, run_sizeOf_ok ho, hz]

theorem faQ_elim {s : TypeId} {ad : Addr} {f : Nat} (h : faQ P s ad f K) : ∃ v, (∀ w, (Instr.fieldAt s (.pointer (some ad)) f).run P w = .ok v w) ∧ K (.v v) := by
  unfold faQ at h
  split at h
  · rename_i fs hu
    split at h
    · rename_i fd hf
      cases ho : okT P fd.type with
      | false => rw [ho] at h; exact h.elim
      | true =>
        rw [ho] at h
        simp only at h
        cases hz : Nat.beq (szT P fd.type) 0 with
        | true => rw [hz] at h; exact h.elim
        | false =>
          rw [hz] at h
          have hz' : szT P fd.type ≠ 0 := fun e => by rw [e] at hz; simp at hz
          have hf' : fs[f]? = some fd := by simpa using hf
          exact ⟨_, fun w => by simp [Instr.fieldAt, run_underlying_ok hu, hf', Instr.sureAddr, run_fieldPlace ho hz'], h⟩
    · exact h.elim
  · exact h.elim

theorem flQ_elim {s : TypeId} {x : Value} {f : Nat} (h : flQ P s x f K) : ∃ v, (∀ w, (Instr.field s x f).run P w = .ok v w) ∧ K (.v v) := by
  unfold flQ at h
  split at h
  · rename_i fs hu
    split at h
    · rename_i fd hf
      split at h
      · rename_i cs
        obtain ⟨v, hv, hK⟩ := partQ_elim h
        have hf' : fs[f]? = some fd := by simpa using hf
        exact ⟨v, fun w => by simp [Instr.field, run_underlying_ok hu, hf', asAgg, hv], hK⟩
      · exact h.elim
    · exact h.elim
  · exact h.elim

theorem iaQ_elim {t : TypeId} {x ix : Value} (h : iaQ P t x ix K) : ∃ v, (∀ w, (Instr.indexAt t x ix).run P w = .ok v w) ∧ K (.v v) := by
  unfold iaQ at h
  obtain ⟨k, i, rfl, h⟩ := onInt_elim h
  split at h
  · rename_i e hu
    cases ho : okT P e with
    | false => rw [ho] at h; exact h.elim
    | true =>
      rw [ho] at h
      simp only at h
      cases x with
      | slice base len cap =>
        obtain ⟨hi, a, ha, hK⟩ := h
        subst ha
        exact ⟨_, fun w => by simp [Instr.indexAt, asIntOf, run_underlying_ok hu, hi, run_sizeOf_ok ho], hK⟩
      | _ => exact h.elim
  · rename_i len e hu
    cases ho : okT P e with
    | false => rw [ho] at h; exact h.elim
    | true =>
      rw [ho] at h
      simp only at h
      obtain ⟨a, rfl, hi, h⟩ := onAd_elim h
      exact ⟨_, fun w => by simp [Instr.indexAt, asIntOf, run_underlying_ok hu, Instr.sureAddr, hi, run_sizeOf_ok ho], h⟩
  · exact h.elim

theorem ixQ_elim {t : TypeId} {x ix : Value} (h : ixQ P t x ix K) : ∃ v, (∀ w, (Instr.index t x ix).run P w = .ok v w) ∧ K (.v v) := by
  unfold ixQ at h
  obtain ⟨k, i, rfl, h⟩ := onInt_elim h
  split at h
  · rename_i len e hu
    cases ho : okT P e with
    | false => rw [ho] at h; exact h.elim
    | true =>
      rw [ho] at h
      simp only at h
      split at h
      · rename_i cs
        obtain ⟨hi, h⟩ := h
        cases hg : aggT P e with
        | false =>
          rw [hg] at h
          obtain ⟨v, hv, hK⟩ := exScal_elim h
          exact ⟨v, fun w => by simp [Instr.index, asIntOf, run_underlying_ok hu, hi, run_sizeOf_ok ho, run_part_scal ho hg hv], hK⟩
        | true =>
          rw [hg] at h
          obtain ⟨vs, _, hv, hK⟩ := exList_elim h
          exact ⟨_, fun w => by simp [Instr.index, asIntOf, run_underlying_ok hu, hi, run_sizeOf_ok ho, run_part_agg ho hg, hv], hK⟩
      · exact h.elim
  · rename_i hu
    cases x with
    | string s =>
      obtain ⟨hi, c, ⟨u, hu1, hc⟩, hK⟩ := h
      subst hc
      exact ⟨_, fun w => by
        simp only [Instr.index, asIntOf, run_underlying_ok hu, Sem.run_bind, Sem.run_pure, Result.andThen_ok, hi, if_true, hu1], hK⟩
    | _ => exact h.elim
  · exact h.elim

theorem exQ_elim {x : Value} {i : Nat} (h : exQ x i K) : ∃ v, (∀ w, (Instr.extract x i).run P w = .ok v w) ∧ K (.v v) := by
  unfold exQ at h
  split at h
  · rename_i vs
    split at h
    · rename_i v hv
      have hv' : vs[i]? = some v := by simpa using hv
      exact ⟨v, fun w => by simp [Instr.extract, hv'], h⟩
    · exact h.elim
  · exact h.elim

def mapT (P : Program) (t : TypeId) : Bool := match P.underlying t with
  | some (.map _ _) => true
  | _ => false

theorem lenQ_elim {t ty : TypeId} {x : Value} (h : lenQ P w t x K) : ∃ v, (Builtin.len_ #[t] ty #[x]).run P w = .ok v w ∧ (mapT P t = false → ∀ w, (Builtin.len_ #[t] ty #[x]).run P w = .ok v w) ∧ K (.v v) := by
  have both : ∀ {v : Value}, (∀ w', (Builtin.len_ #[t] ty #[x]).run P w' = .ok v w') → K (.v v) → ∃ v, (Builtin.len_ #[t] ty #[x]).run P w = .ok v w ∧ (mapT P t = false → ∀ w, (Builtin.len_ #[t] ty #[x]).run P w = .ok v w) ∧ K (.v v) :=
    fun h1 h2 => ⟨_, h1 w, fun _ => h1, h2⟩
  unfold lenQ at h
  split at h
  · rename_i e hu
    cases x with
    | slice a n c => exact both (fun w => by simp [Builtin.len_, run_underlying_ok hu, goInt]) h
    | _ => exact h.elim
  · rename_i hu
    cases x with
    | string s => exact both (fun w => by simp [Builtin.len_, run_underlying_ok hu, goInt]) h
    | _ => exact h.elim
  · rename_i n e hu
    exact both (fun w => by simp [Builtin.len_, run_underlying_ok hu, goInt]) h
  · rename_i hu
    cases x with
    | map r =>
      obtain ⟨n, hr, h⟩ := h
      exact ⟨_, hr ty, fun hf => by simp [mapT, hu] at hf, h⟩
    | _ => exact h.elim
  · exact h.elim

theorem places_of {fs : List Field} (h : fs.all (fun f => okT P f.type) = true) :
    fs.mapM (fun f => (P.info? f.type).map fun i => (f.offset, i.size)) = some (fs.map fun f => (f.offset, szT P f.type)) := by
  induction fs with
  | nil => rfl
  | cons f fs ih =>
    simp only [List.all_cons, Bool.and_eq_true] at h
    have h1 := h.1
    simp only [okT, Bool.and_eq_true] at h1
    obtain ⟨i, hi⟩ := Option.isSome_iff_exists.1 h1.1
    simp [List.mapM_cons, hi, ih h.2, szT, Program.cellsOf]

theorem bdQ_elim {t : TypeId} {ps : List (Nat × Value)} (h : bdQ P t ps K) : ∃ v, (∀ w, (Instr.build t ps.toArray).run P w = .ok v w) ∧ K (.v v) := by
  unfold bdQ at h
  cases hz : okZ P t with
  | false => rw [hz] at h; exact h.elim
  | true =>
    rw [hz] at h
    simp only at h
    split at h
    · rename_i fs hu
      cases ho : fs.toList.all fun f => okT P f.type with
      | false => rw [ho] at h; exact h.elim
      | true =>
        rw [ho] at h
        simp only at h
        have hp := fun w => run_places (P := P) w _ _ (places_of ho)
        split at h
        · rename_i cs hf
          have hf' := fill_eq (place' := fun i => (fs[i]?).map fun f => (f.offset, szT P f.type)) _ ps (zv P t).cells cs (fun i => by simp) hf
          exact ⟨_, fun w => by simp [Instr.build, run_zeroValue_ok hz, run_underlying_ok hu, Array.mapM_eq_mapM_toList, hp, hf'], h⟩
        · exact h.elim
    · rename_i n e hu
      cases ho : okT P e with
      | false => rw [ho] at h; exact h.elim
      | true =>
        rw [ho] at h
        simp only at h
        split at h
        · rename_i cs hf
          have hf' := fill_eq (place' := fun i => some (i * szT P e, szT P e)) _ ps (zv P t).cells cs (fun i => rfl) hf
          exact ⟨_, fun w => by simp [Instr.build, run_zeroValue_ok hz, run_underlying_ok hu, run_sizeOf_ok ho, hf'], h⟩
        · exact h.elim
    · exact h.elim

theorem pickQ_elim {c x y : SV} (h : pickQ c x y K) : ∃ b s, c.val? = some (.bool b) ∧ (if b then (∃ v, x.val? = some v ∧ s.val = v) else (∃ v, y.val? = some v ∧ s.val = v)) ∧ K s := by
  unfold pickQ at h
  split at h
  · obtain ⟨v, h1, h2, h⟩ := mvQ_elim h
    exact ⟨true, _, rfl, by simp [h1, h2], h⟩
  · obtain ⟨v, h1, h2, h⟩ := mvQ_elim h
    exact ⟨false, _, rfl, by simp [h1, h2], h⟩
  · rename_i c
    obtain ⟨v, h1, _, h⟩ := onV_elim h
    obtain ⟨u, h2, _, h⟩ := onV_elim h
    refine ⟨c, _, rfl, ?_, h⟩
    cases c <;> simp [h1, h2, SV.val]
  · exact h.elim

def readsMem (P : Program) (o : Oper) : Bool := match o.op with
  | .load _ _ => true
  | .lookup _ _ _ _ => true
  | .binOp _ t _ _ _ => aggT P t
  | .call c => match c.argTypes.toList with
    | [t] => mapT P t
    | _ => true
  | _ => false

theorem opQ_sound (h : opQ P o E w K) : ∃ s, Quiet P o E w s ∧ (readsMem P o = false → ∀ w', Quiet P o E w' s) ∧ K s := by
  have both : ∀ {s : SV}, (∀ w', Quiet P o E w' s) → K s → ∃ s, Quiet P o E w s ∧ (readsMem P o = false → ∀ w', Quiet P o E w' s) ∧ K s :=
    fun h1 h2 => ⟨_, h1 w, fun _ => h1, h2⟩
  unfold opQ at h
  split at h
  · rename_i x ho
    obtain ⟨v, h1, h2, h⟩ := mvQ_elim h
    exact both (fun w a ha => by simp [execOp, ho, ha x (by simp [ho, Op.operands]) v h1, h2]) h
  · rename_i x ho
    obtain ⟨v, h1, h2, h⟩ := mvQ_elim h
    exact both (fun w a ha => by simp [execOp, ho, ha x (by simp [ho, Op.operands]) v h1, h2]) h
  · rename_i c x y ho
    obtain ⟨b, s, h1, h2, h⟩ := pickQ_elim h
    refine both (s := s) (fun w a ha => ?_) h
    have hc := ha c (by simp [ho, Op.operands]) _ h1
    cases b with
    | true =>
      obtain ⟨v, h3, h4⟩ := h2
      simp [execOp, ho, hc, asBool, ha x (by simp [ho, Op.operands]) v h3, h4]
    | false =>
      obtain ⟨v, h3, h4⟩ := h2
      simp [execOp, ho, hc, asBool, ha y (by simp [ho, Op.operands]) v h3, h4]
  · rename_i x ho
    obtain ⟨v, h1, _, h⟩ := onV_elim h
    unfold nilQ at h
    split at h
    · obtain ⟨ad, hp, h⟩ := h
      subst hp
      exact both (fun w a ha => by simp [execOp, ho, ha x (by simp [ho, Op.operands]) _ h1, SV.val]) h
    · exact both (fun w a ha => by simp [execOp, ho, ha x (by simp [ho, Op.operands]) _ h1, SV.val]) h
    · exact h.elim
  · rename_i op t x y yt ho
    obtain ⟨v, h1, _, h⟩ := onV_elim h
    obtain ⟨u, h2, _, h⟩ := onV_elim h
    obtain ⟨r, hr, hr2, hK⟩ := binQ_elim (ox := x) (oy := y) h
    exact ⟨.v r, fun a ha => by simp [execOp, ho, ha x (by simp [ho, Op.operands]) v h1, ha y (by simp [ho, Op.operands]) u h2, hr.1, hr.2, SV.val], fun hf w' a ha => by simp [execOp, ho, ha x (by simp [ho, Op.operands]) v h1, ha y (by simp [ho, Op.operands]) u h2, (hr2 (by simpa [readsMem, ho] using hf) w').1, (hr2 (by simpa [readsMem, ho] using hf) w').2, SV.val], hK⟩
  · rename_i op t x ho
    unfold unQ at h
    split at h
    · split at h
      · rename_i b hs
        exact both (fun w a ha => by simp [execOp, ho, ha x (by simp [ho, Op.operands]) (.bool b) (by rw [hs]; rfl), Op.unary, SV.val]) h
      · rename_i b hs
        exact both (fun w a ha => by simp [execOp, ho, ha x (by simp [ho, Op.operands]) (.bool b) (by rw [hs]; rfl), Op.unary, SV.val]) h
      · exact h.elim
    · obtain ⟨v, h1, _, h⟩ := onV_elim h
      obtain ⟨k, n, rfl, h⟩ := onInt_elim h
      exact both (fun w a ha => by simp [execOp, ho, ha x (by simp [ho, Op.operands]) _ h1, Op.unary, Op.intArith, SV.val]) h
    · obtain ⟨v, h1, _, h⟩ := onV_elim h
      obtain ⟨k, n, rfl, h⟩ := onInt_elim h
      refine both (fun w a ha => ?_) h
      cases hk : k.signed <;> simp [execOp, ho, ha x (by simp [ho, Op.operands]) _ h1, Op.unary, Op.intBits, bitsOp, hk, SV.val]
    · exact h.elim
  · rename_i sx dx x ho
    obtain ⟨v, h1, _, h⟩ := onV_elim h
    unfold cvQ at h
    split at h
    · rename_i d k hu1 hu2
      obtain ⟨k', n, rfl, h⟩ := onInt_elim h
      refine both (fun w a ha => ?_) h
      have hc : (convert sx dx (.int k' n)).run P w = .ok (.int k (k.wrap n)) w := by
        unfold convert
        simp only [Sem.run_bind, run_underlying_ok hu1, run_underlying_ok hu2, Result.andThen_ok]
        cases d <;> rfl
      simp [execOp, ho, ha x (by simp [ho, Op.operands]) _ h1, hc, SV.val]
    · exact h.elim
  · rename_i t x ho
    obtain ⟨v, h1, _, h⟩ := onV_elim h
    obtain ⟨ad, rfl, h⟩ := onAd_elim h
    obtain ⟨u, hu, h⟩ := ldQ_elim h
    exact ⟨_, fun a ha => by simp [execOp, ho, ha x (by simp [ho, Op.operands]) _ h1, Instr.loadAt, Instr.sureAddr, hu, SV.val], fun hf => by simp [readsMem, ho] at hf, h⟩
  · rename_i s x f ho
    obtain ⟨v, h1, _, h⟩ := onV_elim h
    obtain ⟨ad, rfl, h⟩ := onAd_elim h
    obtain ⟨u, hu, h⟩ := faQ_elim h
    exact both (fun w a ha => by simp [execOp, ho, ha x (by simp [ho, Op.operands]) _ h1, hu, SV.val]) h
  · rename_i s x f ho
    obtain ⟨v, h1, _, h⟩ := onV_elim h
    obtain ⟨u, hu, h⟩ := flQ_elim h
    exact both (fun w a ha => by simp [execOp, ho, ha x (by simp [ho, Op.operands]) _ h1, hu, SV.val]) h
  · rename_i t x i ho
    obtain ⟨v, h1, _, h⟩ := onV_elim h
    obtain ⟨u, h2, _, h⟩ := onV_elim h
    obtain ⟨r, hr, h⟩ := iaQ_elim h
    exact both (fun w a ha => by simp [execOp, ho, ha x (by simp [ho, Op.operands]) v h1, ha i (by simp [ho, Op.operands]) u h2, hr, SV.val]) h
  · rename_i t x i ho
    obtain ⟨v, h1, _, h⟩ := onV_elim h
    obtain ⟨u, h2, _, h⟩ := onV_elim h
    obtain ⟨r, hr, h⟩ := ixQ_elim h
    exact both (fun w a ha => by simp [execOp, ho, ha x (by simp [ho, Op.operands]) v h1, ha i (by simp [ho, Op.operands]) u h2, hr, SV.val]) h
  · rename_i x i ho
    obtain ⟨v, h1, _, h⟩ := onV_elim h
    obtain ⟨r, hr, h⟩ := exQ_elim (P := P) h
    exact both (fun w a ha => by simp [execOp, ho, ha x (by simp [ho, Op.operands]) v h1, hr, SV.val]) h
  · rename_i t ps ho
    obtain ⟨vs, h, hm⟩ := partsQ_elim h
    obtain ⟨r, hr, h⟩ := bdQ_elim h
    refine both (s := .v r) (fun w a ha => ?_) h
    have e : ps.map (fun p => (p.1, a.eval p.2)) = vs.toArray := by
      apply Array.ext'
      have := hm a (fun x hx => ha x (by simpa [ho, Op.operands] using hx))
      simpa using this
    simp [execOp, ho, e, hr, SV.val]
  · rename_i t x lo hi mx ho
    obtain ⟨v, h1, _, h⟩ := onV_elim h
    obtain ⟨r, h, hr⟩ := slQ_elim h
    refine both (s := .v r) (fun w a ha => ?_) h
    have h2 := hr a (fun y hy => ha y (by simp [ho, Op.operands] at hy ⊢; rcases hy with hy | hy | hy <;> simp [hy]))
    simp [execOp, ho, ha x (by simp [ho, Op.operands]) v h1, h2, SV.val]
  · rename_i fn first cap ho
    obtain ⟨fs, h, h1⟩ := argsQ_elim h
    obtain ⟨cs, h, h2⟩ := argsQ_elim h
    refine both (fun w a ha => ?_) h
    have e1 : first.map a.eval = fs.toArray := by
      apply Array.ext'; simpa using h1 a (fun x hx => ha x (by simp [ho, Op.operands]; exact .inl (by simpa using hx)))
    have e2 : cap.map a.eval = cs.toArray := by
      apply Array.ext'; simpa using h2 a (fun x hx => ha x (by simp [ho, Op.operands]; exact .inr (by simpa using hx)))
    simp [execOp, ho, e1, e2, Instr.makeFunc, SV.val]
  · rename_i t x i ok ho
    obtain ⟨v, h1, _, h⟩ := onV_elim h
    obtain ⟨u, h2, _, h⟩ := onV_elim h
    obtain ⟨r, hr, h⟩ := exTy_elim h
    exact ⟨_, fun a ha => by simp [execOp, ho, ha x (by simp [ho, Op.operands]) v h1, ha i (by simp [ho, Op.operands]) u h2, hr, SV.val], fun hf => by simp [readsMem, ho] at hf, h⟩
  · rename_i c ho
    split at h
    · rename_i hc
      split at h
      · rename_i x hx
        split at h
        · rename_i t ht
          obtain ⟨v, h1, _, h⟩ := onV_elim h
          obtain ⟨r, hr, hr2, h⟩ := lenQ_elim (ty := o.type) h
          have hx' : c.args = #[x] := by apply Array.ext'; simpa using hx
          have ht' : c.argTypes = #[t] := by apply Array.ext'; simpa using ht
          exact ⟨_, fun a ha => by simp [execOp, ho, resolve, hc, hx', ht', invoke, builtin, ha x (by simp [ho, Op.operands, Call.operands, hx']) v h1, hr, SV.val], fun hf w' a ha => by simp [execOp, ho, resolve, hc, hx', ht', invoke, builtin, ha x (by simp [ho, Op.operands, Call.operands, hx']) v h1, hr2 (by simpa [readsMem, ho, ht'] using hf) w', SV.val], h⟩
        · exact h.elim
      · exact h.elim
    · exact h.elim
  · exact h.elim
end

/-! ### Operations that turn the world -/

/-- One block's cells are others; all else is as it was. -/
structure Wrote (w w' : World) (b : Nat) (c : List Value) (T : TypeId) : Prop where
  blk : w'.heap[b]? = some (.cells c.toArray T (0, 0))
  other : ∀ i, i ≠ b → w'.heap[i]? = w.heap[i]?
  size : w'.heap.size = w.heap.size
  os : w'.os = w.os
  tape : w'.tape = w.tape
  output : w'.output = w.output

structure Wr (w : World) (ad : Addr) (vs : List Value) (K : World → Prop) : Prop where
  out : ∃ (c : List Value) (T : TypeId), w.heap[ad.block]? = some (.cells c.toArray T (0, 0)) ∧ ad.spot = none ∧ ad.off + vs.length ≤ c.length ∧
    ∀ w', Wrote w w' ad.block (setL c ad.off vs) T → K w'

/-- A new block; all else is as it was. -/
structure Newed (w w' : World) (o : Obj) : Prop where
  blk : w'.heap[w.heap.size]? = some o
  old : ∀ i, i < w.heap.size → w'.heap[i]? = w.heap[i]?
  size : w'.heap.size = w.heap.size + 1
  os : w'.os = w.os
  tape : w'.tape = w.tape
  output : w'.output = w.output

structure New (w : World) (c : List Value) (T : TypeId) (K : Addr → World → Prop) : Prop where
  out : ∀ w', Newed w w' (.cells c.toArray T (0, 0)) → K ⟨w.heap.size, 0, none⟩ w'

structure NewMap (w : World) (K : Nat → World → Prop) : Prop where
  out : ∀ w', Newed w w' (.map #[] 0) → K w.heap.size w'

def oneCells : List Value → Bool
  | [] => true
  | .agg _ :: _ => false
  | .tuple _ :: _ => false
  | _ :: vs => oneCells vs

theorem oneCells_ok : ∀ {vs : List Value}, oneCells vs = true → ∀ v ∈ vs, v.oneCell' = true
  | [], _, _, hv => by cases hv
  | x :: vs, h, v, hv => by
    rcases List.mem_cons.1 hv with rfl | hv
    · cases v <;> first | rfl | (simp [oneCells] at h)
    · exact oneCells_ok (vs := vs) (by cases x <;> simp_all [oneCells]) v hv

theorem newed_push (w : World) (o : Obj) : Newed w { w with heap := w.heap.push o } o := by
  refine ⟨by simp, fun i hi => ?_, by simp, rfl, rfl, rfl⟩
  simp [Array.getElem?_push, Nat.ne_of_lt hi]

theorem wrote_setRow {w : World} {b : Nat} {c : Array Value} {T : TypeId} (h : w.heap[b]? = some (.cells c T (0, 0))) (c' : List Value) :
    Wrote w (w.setRow b c'.toArray) b c' T := by
  refine ⟨setRow_heap w b c _ T _ h, fun i hi => ?_, by simp [World.setRow], rfl, rfl, rfl⟩
  simp [World.setRow, Array.getElem?_modify, Ne.symm hi]

def hasBody (P : Program) (g : FuncId) : Bool := match P.funcs.toList[g]? with
  | some fn => fn.body.isSome
  | none => false

/-- What is asked of the program as a whole. -/
def okP (P : Program) : Bool := P.funcs.toList.all (fun fn => !(fn.name == "runtime.NumGoroutine")) && P.follows .mixedOrders

structure Call (P : Program) (f : FuncId) (args : List Value) (w : World) (R : Ending → World → Prop) : Prop where
  out : Calls P f args.toArray w R

def callQ (P : Program) (f : FuncId) (args : List Value) (ty : Ty) (w : World) (K : Value → World → Prop) : Prop :=
  Call P f args w fun e w' => exTy ty fun v => e = .returned v ∧ K v w'

/-- A place at which the telling stops. -/
structure Cut (p : Prop) : Prop where
  out : p

def runE (P : Program) (s : Sem Value) (ty : Ty) (w : World) (K : SV → World → Prop) : Prop :=
  exTy ty fun v => ∃ w', s.run P w = .ok v w' ∧ K (.v v) w'

def runU (P : Program) (s : Sem Unit) (w : World) (K : SV → World → Prop) : Prop :=
  ∃ w', s.run P w = .ok () w' ∧ K (.v undef) w'

def bsQ (P : Program) (t : TypeId) (len : Nat) (ps : List (Nat × Value)) (w : World) (K : SV → World → Prop) : Prop :=
  match P.underlying t with
  | some (.slice e) => match okT P e && okZ P e && Nat.beq (zc P e).length (szT P e) && Nat.ble (len * szT P e) 16777216 && Nat.ble 1 (szT P e) with
    | false => False
    | true => match fillL (fun i => some (i * szT P e, szT P e)) ((List.range (len * szT P e)).map fun i => (zc P e).getD (i % szT P e) undef) ps with
      | some cs => New w cs e fun p w' => K (.v (.slice (some p) len len)) w'
      | none => False
  | _ => False

def opE (P : Program) (o : Oper) (E : Env) (w : World) (K : SV → World → Prop) : Prop :=
  match o.op with
  | .store t a x => onV (evS E a) fun v => onAd v fun ad => onV (evS E x) fun v =>
      match okT P t && Nat.beq v.cells.toList.length (szT P t) && oneCells v.cells.toList with
      | false => False
      | true => Wr w ad v.cells.toList fun w' => K (.v undef) w'
  | .alloc T => match okZ P T with
    | false => False
    | true => New w (zc P T) T fun p w' => K (.v (.pointer (some p))) w'
  | .box T x => onV (evS E x) fun v => New w v.cells.toList T fun p w' => K (.v (.pointer (some p))) w'
  | .buildSlice t len ps => partsQ E ps.toList fun ps => bsQ P t len ps w K
  | .makeSlice t l c => onV (evS E l) fun l => onV (evS E c) fun c => runE P (Instr.makeSlice t l c) (tyT P t) w K
  | .makeMap _ none => NewMap w fun r w' => K (.v (.map (some r))) w'
  | .mapUpdate t m k x => onV (evS E m) fun m => onV (evS E k) fun k => onV (evS E x) fun x => runU P (Instr.mapUpdate t m k x) w K
  | .insert t m k x => onV (evS E m) fun m => onV (evS E k) fun k => onV (evS E x) fun x => runU P (Instr.mapUpdate t m k x) w K
  | .call c => match c.callee with
    | .value f => match evS E f with
      | .v (.func (.func g) first cap) => match hasBody P g with
        | true => argsQ E c.args.toList fun vs => callQ P g (first.toList ++ vs ++ cap.toList) (tyT P o.type) w fun v w' => K (.v v) w'
        | false => False
      | _ => False
    | .builtin .append => argsQ E c.args.toList fun vs => runE P (Builtin.append_ c.argTypes o.type vs.toArray) (tyT P o.type) w K
    | .builtin .copy => argsQ E c.args.toList fun vs => runE P (Builtin.copy_ c.argTypes o.type vs.toArray) (tyT P o.type) w K
    | .builtin .delete => argsQ E c.args.toList fun vs => runE P (Builtin.delete_ c.argTypes o.type vs.toArray) (tyT P o.type) w K
    | .builtin .max => argsQ E c.args.toList fun vs => runE P (Builtin.max_ c.argTypes o.type vs.toArray) (tyT P o.type) w K
    | .builtin .min => argsQ E c.args.toList fun vs => runE P (Builtin.min_ c.argTypes o.type vs.toArray) (tyT P o.type) w K
    | _ => False
  | _ => False

/-- The operation may be carried out, and then K holds of its value and the world. -/
def Acts (P : Program) (o : Oper) (E : Env) (w : World) (K : SV → World → Prop) : Prop :=
  ∀ a, Reads E o a → ∀ (next : Act → World → Prop) (Q : Exit → Act → World → Prop), (∀ s w', K s w' → next (a.put o.dst s.val) w') → o.wp P a w next Q

theorem Quiet.acts {P : Program} {o : Oper} {E : Env} {w : World} {s : SV} (h : Quiet P o E w s) {K : SV → World → Prop} (hK : K s w) : Acts P o E w K := by
  intro a ha next Q hn
  unfold Oper.wp
  rw [h a ha]
  exact hn s w hK

section
variable {P : Program} {w : World} {E : Env} {o : Oper} {K : SV → World → Prop}

theorem acts_value {v : Value} {w' : World} (he : ∀ a, Reads E o a → (execOp a.eval o).run P w = .ok (.value v) w') (hK : K (.v v) w') : Acts P o E w K := by
  intro a ha next Q hn
  unfold Oper.wp
  rw [he a ha]
  exact hn _ _ hK

theorem acts_skip {w' : World} (he : ∀ a, Reads E o a → (execOp a.eval o).run P w = .ok .skip w') (hK : K (.v undef) w') : Acts P o E w K := by
  intro a ha next Q hn
  unfold Oper.wp
  rw [he a ha]
  exact hn (.v undef) _ hK

theorem callFunc_ok (hP : okP P = true) {g : FuncId} (hb : hasBody P g = true) (args : Array Value) : (callFunc g args).run P w = .ok (.enter g args) w := by
  unfold hasBody at hb
  split at hb
  · rename_i fn hf
    have hf' : P.funcs[g]? = some fn := by simpa using hf
    simp only [okP, Bool.and_eq_true, List.all_eq_true] at hP
    have hn := hP.1 fn (List.mem_of_getElem? hf)
    have hn' : (fn.name == "runtime.NumGoroutine") = false := by simpa using hn
    have hb' : fn.body.isNone = false := by cases hbb : fn.body <;> simp_all
    unfold callFunc
    simp only [Sem.run_bind, run_program, Result.andThen_ok, hf', hn', hb', Bool.false_eq_true, if_false]
    rfl
  · cases hb

theorem bsQ_elim {t : TypeId} {len : Nat} {ps : List (Nat × Value)} (h : bsQ P t len ps w K) :
    ∃ v w', (Instr.buildSlice t len ps.toArray).run P w = .ok v w' ∧ K (.v v) w' := by
  unfold bsQ at h
  split at h
  · rename_i e hu
    split at h
    · exact h.elim
    · rename_i hc
      simp only [Bool.and_eq_true] at hc
      obtain ⟨⟨⟨⟨ho, hz⟩, hl⟩, hb⟩, h1⟩ := hc
      have hl' : (zc P e).length = szT P e := Nat.eq_of_beq_eq_true hl
      have hb' := Nat.le_of_ble_eq_true hb
      have h1' := Nat.le_of_ble_eq_true h1
      split at h
      · rename_i cs hf
        have hzs : (zv P e).cells.size = szT P e := by rw [← hl']; simp [zc]
        have hr : ((Array.range (len * szT P e)).map (fun x => (zv P e).cells[x % (zv P e).cells.size]!)).toList = (List.range (len * szT P e)).map fun i => (zc P e).getD (i % szT P e) undef := by
          rw [Array.toList_map, Array.toList_range]
          apply List.map_congr_left
          intro i hi
          rw [hzs]
          have hlt : i % szT P e < (zv P e).cells.size := by rw [hzs]; exact Nat.mod_lt _ h1'
          simp [zc, List.getD_eq_getElem?_getD, hlt]
        have hf' := fill_eq (place' := fun i => some (i * szT P e, szT P e)) _ ps ((Array.range (len * szT P e)).map (fun x => (zv P e).cells[x % (zv P e).cells.size]!)) cs (fun i => rfl) (by rw [hr]; exact hf)
        refine ⟨_, _, ?_, h.out _ (newed_push w _)⟩
        by_cases h0 : len * szT P e = 0
        · have hlen : len = 0 := by
            rcases Nat.mul_eq_zero.1 h0 with h0 | h0
            · exact h0
            · omega
          subst hlen
          have hr0 : Array.range 0 = #[] := rfl
          simp only [Nat.zero_mul, hr0, List.map_toArray, List.map_nil] at hf'
          simp [Instr.buildSlice, run_underlying_ok hu, run_sizeOf_ok ho, hr0, hf', newRow]
        · have hnot : ¬ (2 ^ 24 < len * szT P e) := by omega
          simp [Instr.buildSlice, run_underlying_ok hu, run_sizeOf_ok ho, run_zeroValue_ok hz, h0, hnot, hf', newRow]
      · exact h.elim
  · exact h.elim

theorem opE_sound (hP : okP P = true) (h : opE P o E w K) : Acts P o E w K := by
  unfold opE at h
  split at h
  · rename_i t x y ho
    obtain ⟨v, h1, _, h⟩ := onV_elim h
    obtain ⟨ad, rfl, h⟩ := onAd_elim h
    obtain ⟨u, h2, _, h⟩ := onV_elim h
    split at h
    · exact h.elim
    · rename_i hc
      simp only [Bool.and_eq_true] at hc
      obtain ⟨⟨hk, hl⟩, h1c⟩ := hc
      obtain ⟨c, T, hb, hs, hfit, hK⟩ := h.out
      obtain ⟨b, off, spot⟩ := ad
      simp only at hs hb hfit hK
      subst hs
      have hl' : u.cells.size = szT P t := by simpa using Nat.eq_of_beq_eq_true hl
      have hst := run_storeCells_at P b off T u.cells.toList 0 c.toArray w hb (by simpa using hfit) (oneCells_ok h1c)
      refine acts_skip (w' := w.setRow b (setL c off u.cells.toList).toArray) (fun a ha => ?_) (hK _ (wrote_setRow hb _))
      simp only [Nat.add_zero] at hst
      simp [execOp, ho, ha x (by simp [ho, Op.operands]) _ h1, ha y (by simp [ho, Op.operands]) _ h2, Instr.storeAt, Instr.sureAddr, storeVar, run_sizeOf_ok hk, hl', hst, setL]
  · rename_i T ho
    split at h
    · exact h.elim
    · rename_i hz
      refine acts_value (w' := { w with heap := w.heap.push (.cells (zv P T).cells T) }) (fun a ha => ?_) (h.out _ ?_)
      · simp [execOp, ho, Instr.alloc, run_zeroValue_ok hz, newVar, newRow]
      · have := newed_push w (.cells (zv P T).cells T)
        simpa [zc] using this
  · rename_i T x ho
    obtain ⟨v, h1, _, h⟩ := onV_elim h
    refine acts_value (w' := { w with heap := w.heap.push (.cells v.cells T) }) (fun a ha => ?_) (h.out _ ?_)
    · simp [execOp, ho, ha x (by simp [ho, Op.operands]) _ h1, Instr.box, newVar, newRow]
    · have := newed_push w (.cells v.cells T)
      simpa using this
  · rename_i t len ps ho
    obtain ⟨vs, h, hm⟩ := partsQ_elim h
    obtain ⟨v, w', hr, hK⟩ := bsQ_elim h
    refine acts_value (v := v) (w' := w') (fun a ha => ?_) hK
    have e : ps.map (fun p => (p.1, a.eval p.2)) = vs.toArray := by
      apply Array.ext'
      have := hm a (fun x hx => ha x (by simpa [ho, Op.operands] using hx))
      simpa using this
    simp [execOp, ho, e, hr]
  · rename_i t l c ho
    obtain ⟨v, h1, _, h⟩ := onV_elim h
    obtain ⟨u, h2, _, h⟩ := onV_elim h
    obtain ⟨r, w', hr, hK⟩ := exTy_elim h
    exact acts_value (w' := w') (fun a ha => by simp [execOp, ho, ha l (by simp [ho, Op.operands]) v h1, ha c (by simp [ho, Op.operands]) u h2, hr]) hK
  · rename_i t ho
    refine acts_value (w' := { w with heap := w.heap.push (.map #[] 0) }) (fun a ha => ?_) (h.out _ (newed_push w _))
    simp [execOp, ho, Instr.makeMap]
  · rename_i t m k x ho
    obtain ⟨v1, h1, _, h⟩ := onV_elim h
    obtain ⟨v2, h2, _, h⟩ := onV_elim h
    obtain ⟨v3, h3, _, h⟩ := onV_elim h
    obtain ⟨w', hr, hK⟩ := h
    exact acts_skip (w' := w') (fun a ha => by simp [execOp, ho, ha m (by simp [ho, Op.operands]) _ h1, ha k (by simp [ho, Op.operands]) _ h2, ha x (by simp [ho, Op.operands]) _ h3, hr]) hK
  · rename_i t m k x ho
    obtain ⟨v1, h1, _, h⟩ := onV_elim h
    obtain ⟨v2, h2, _, h⟩ := onV_elim h
    obtain ⟨v3, h3, _, h⟩ := onV_elim h
    obtain ⟨w', hr, hK⟩ := h
    exact acts_skip (w' := w') (fun a ha => by simp [execOp, ho, ha m (by simp [ho, Op.operands]) _ h1, ha k (by simp [ho, Op.operands]) _ h2, ha x (by simp [ho, Op.operands]) _ h3, hr]) hK
  · rename_i c ho
    have hargs : ∀ {vs : List Value}, (∀ a : Act, (∀ x ∈ c.args.toList, ∀ v, (evS E x).val? = some v → a.eval x = v) → c.args.toList.map a.eval = vs) → ∀ a, Reads E o a → c.args.map a.eval = vs.toArray := by
      intro vs hm a ha
      apply Array.ext'
      have := hm a (fun x hx => ha x (by
        rw [ho]
        simp only [Op.operands, Call.operands, Array.mem_append]
        exact .inr (by simpa using hx)))
      simpa using this
    split at h
    · rename_i f hcal
      split at h
      · rename_i g first cap hf
        split at h
        · rename_i hb
          obtain ⟨vs, h, hm⟩ := argsQ_elim h
          intro a ha next Q hn
          have hfe : a.eval f = .func (.func g) first cap := ha f (by simp [ho, Op.operands, Call.operands, hcal]) _ (by rw [hf]; rfl)
          have e := hargs hm a ha
          unfold Oper.wp
          have hrun : (execOp a.eval o).run P w = .ok (.enter g (first.toList ++ vs ++ cap.toList).toArray) w := by
            have e2 : (first ++ vs.toArray ++ cap) = (first.toList ++ vs ++ cap.toList).toArray := by apply Array.ext'; simp
            simp only [execOp, ho, resolve, hcal, hfe, e, Deferred.ofValue, Sem.run_bind, Sem.run_pure, Result.andThen_ok, invoke]
            rw [e2]
            exact callFunc_ok hP hb _
          rw [hrun, Oper.upon_enter]
          refine Calls.mono h.out (fun ee w' he => ?_)
          obtain ⟨v, rfl, hK⟩ := exTy_elim he
          exact hn _ _ hK
        · exact h.elim
      · exact h.elim
    · rename_i hcal
      obtain ⟨vs, h, hm⟩ := argsQ_elim h
      obtain ⟨r, w', hr, hK⟩ := exTy_elim h
      exact acts_value (w' := w') (fun a ha => by simp [execOp, ho, resolve, hcal, hargs hm a ha, invoke, builtin, hr]) hK
    · rename_i hcal
      obtain ⟨vs, h, hm⟩ := argsQ_elim h
      obtain ⟨r, w', hr, hK⟩ := exTy_elim h
      exact acts_value (w' := w') (fun a ha => by simp [execOp, ho, resolve, hcal, hargs hm a ha, invoke, builtin, hr]) hK
    · rename_i hcal
      obtain ⟨vs, h, hm⟩ := argsQ_elim h
      obtain ⟨r, w', hr, hK⟩ := exTy_elim h
      exact acts_value (w' := w') (fun a ha => by simp [execOp, ho, resolve, hcal, hargs hm a ha, invoke, builtin, hr]) hK
    · rename_i hcal
      obtain ⟨vs, h, hm⟩ := argsQ_elim h
      obtain ⟨r, w', hr, hK⟩ := exTy_elim h
      exact acts_value (w' := w') (fun a ha => by simp [execOp, ho, resolve, hcal, hargs hm a ha, invoke, builtin, hr]) hK
    · rename_i hcal
      obtain ⟨vs, h, hm⟩ := argsQ_elim h
      obtain ⟨r, w', hr, hK⟩ := exTy_elim h
      exact acts_value (w' := w') (fun a ha => by simp [execOp, ho, resolve, hcal, hargs hm a ha, invoke, builtin, hr]) hK
    · exact h.elim
  · exact h.elim
end

/-! ### A region in the order of its text -/

def isEff : Op → Bool
  | .store _ _ _ => true
  | .alloc _ => true
  | .box _ _ => true
  | .buildSlice _ _ _ => true
  | .makeSlice _ _ _ => true
  | .makeMap _ _ => true
  | .mapUpdate _ _ _ _ => true
  | .insert _ _ _ _ => true
  | .call c => match c.callee with
    | .builtin .len => false
    | _ => true
  | _ => false

def opA (P : Program) (o : Oper) (E : Env) (w : World) (K : SV → World → Prop) : Prop := match isEff o.op with
  | true => opE P o E w K
  | false => opQ P o E w fun s => K s w

theorem opA_sound {P : Program} {o : Oper} {E : Env} {w : World} {K : SV → World → Prop} (hP : okP P = true) (h : opA P o E w K) : Acts P o E w K := by
  unfold opA at h
  split at h
  · exact opE_sound hP h
  · obtain ⟨s, hq, _, hK⟩ := opQ_sound h
    exact hq.acts hK

def putQ (N : Nat) (E : Env) (dst : Option Tmp) (s : SV) (K : Env → Prop) : Prop := match dst with
  | none => K E
  | some d => match Nat.ble (d + 1) N with
    | true => K (E.put d s)
    | false => False

theorem putQ_elim {N : Nat} {E : Env} {dst : Option Tmp} {s : SV} {K : Env → Prop} {a : Act} (h : putQ N E dst s K) (ha : Agree N E a) : ∃ E', Agree N E' (a.put dst s.val) ∧ K E' := by
  unfold putQ at h
  cases dst with
  | none => exact ⟨E, ha, h⟩
  | some d =>
    simp only at h
    split at h
    · rename_i hd
      exact ⟨_, ha.put d (Nat.le_of_ble_eq_true hd) s, h⟩
    · exact h.elim

def dstOf (ops : List Oper) (j : Nat) : Option Tmp := match ops[j]? with
  | some o => o.dst
  | none => none

def guardQ (ops : List Oper) (o : Oper) (E : Env) (run skip : Env → Prop) : Prop := match o.guard with
  | none => run E
  | some (j, want) => match dstOf ops j with
    | none => False
    | some d => match E.get d with
      | .b true => match want with
        | true => run E
        | false => skip E
      | .b false => match want with
        | true => skip E
        | false => run E
      | .v (.bool x) => (x = want → run (E.put d (.b want))) ∧ (x = (!want) → skip (E.put d (.b (!want))))
      | .v (.tuple _) => skip E
      | _ => False

def GReads (ops : List Oper) (E : Env) (o : Oper) (a : Act) : Prop :=
  ∀ j want d, o.guard = some (j, want) → dstOf ops j = some d → ∀ v, (E.get d).val? = some v → a.tmps[d]? = some v

def SameVals (E E' : Env) : Prop := ∀ t, (E'.get t).val? = (E.get t).val?

theorem SameVals.refl (E : Env) : SameVals E E := fun _ => rfl
theorem sameVals_setb {E : Env} {d : Nat} {b : Bool} (h : (E.get d).val? = some (.bool b)) : SameVals E (E.put d (.b b)) := by
  intro t
  rw [Env.get_put]
  split
  · rename_i ht; subst ht; rw [h]; rfl
  · rfl

theorem Agree.same {N : Nat} {E E' : Env} {a : Act} (h : Agree N E a) (hs : SameVals E E') : Agree N E' a :=
  ⟨h.size, h.nod, fun t x hx => h.vals t x (by rw [← hs t]; exact hx)⟩
theorem Agree.greads {N : Nat} {E : Env} {a : Act} (h : Agree N E a) (ops : List Oper) (o : Oper) : GReads ops E o a := fun _ _ d _ _ v hv => h.vals d v hv

def wantedAt (ops : Array Oper) (o : Oper) (a : Act) : Bool := Region.wanted o (yielded ops a.tmps)

theorem yielded_eq {ops : Array Oper} {l : List Oper} (hl : ops.toList = l) {a : Act} {j d : Nat} (hd : dstOf l j = some d) : yielded ops a.tmps j = match a.tmps[d]? with | some (.bool b) => some b | _ => none := by
  have h1 : (ops[j]?).bind (·.dst) = some d := by
    subst hl
    unfold dstOf at hd
    cases h : ops[j]? with
    | none => simp [h] at hd
    | some o => simpa [h] using hd
  unfold yielded
  rw [h1]
  rfl

theorem guardQ_elim {ops : Array Oper} {l : List Oper} (hl : ops.toList = l) {o : Oper} {E : Env} {run skip : Env → Prop} (h : guardQ l o E run skip) :
    ∃ E', SameVals E E' ∧ ((run E' ∧ ∀ a, GReads l E o a → wantedAt ops o a = true) ∨ (skip E' ∧ ∀ a, GReads l E o a → wantedAt ops o a = false)) := by
  unfold guardQ at h
  split at h
  · rename_i hg
    exact ⟨E, .refl E, .inl ⟨h, fun a _ => by simp [wantedAt, Region.wanted, hg]⟩⟩
  · rename_i j want hg
    split at h
    · exact h.elim
    · rename_i d hd
      have key : ∀ (a : Act) (v : Value), GReads l E o a → (E.get d).val? = some v → wantedAt ops o a = ((match v with | .bool b => some b | _ => none) == some want) := by
        intro a v ha hv
        simp only [wantedAt, Region.wanted, hg]
        rw [yielded_eq hl hd, ha j want d hg hd v hv]
        cases v <;> rfl
      split at h
      · rename_i he
        cases want with
        | true => exact ⟨E, .refl E, .inl ⟨h, fun a ha => by rw [key a _ ha (by rw [he]; rfl)]; rfl⟩⟩
        | false => exact ⟨E, .refl E, .inr ⟨h, fun a ha => by rw [key a _ ha (by rw [he]; rfl)]; rfl⟩⟩
      · rename_i he
        cases want with
        | true => exact ⟨E, .refl E, .inr ⟨h, fun a ha => by rw [key a _ ha (by rw [he]; rfl)]; rfl⟩⟩
        | false => exact ⟨E, .refl E, .inl ⟨h, fun a ha => by rw [key a _ ha (by rw [he]; rfl)]; rfl⟩⟩
      · rename_i x he
        by_cases hx : x = want
        · subst hx
          exact ⟨_, sameVals_setb (by rw [he]; rfl), .inl ⟨h.1 rfl, fun a ha => by rw [key a _ ha (by rw [he]; rfl)]; simp⟩⟩
        · have hx' : x = !want := by cases x <;> cases want <;> simp_all
          subst hx'
          exact ⟨_, sameVals_setb (by rw [he]; rfl), .inr ⟨h.2 rfl, fun a ha => by rw [key a _ ha (by rw [he]; rfl)]; cases want <;> rfl⟩⟩
      · rename_i he
        exact ⟨E, .refl E, .inr ⟨h, fun a ha => by rw [key a _ ha (by rw [he]; rfl)]; rfl⟩⟩
      · exact h.elim

def seqR (P : Program) (N : Nat) (ops : List Oper) : List Oper → Env → World → (Env → World → Prop) → Prop
  | [], E, w, K => K E w
  | o :: os, E, w, K => guardQ ops o E
      (fun E => opA P o E w fun s w' => putQ N E o.dst s fun E => seqR P N ops os E w' K)
      (fun E => putQ N E o.dst (.v undef) fun E => seqR P N ops os E w K)

theorem seqR_sound {P : Program} {N : Nat} {ops : Array Oper} {l : List Oper} (hP : okP P = true) (hl : ops.toList = l) {Q : Exit → Act → World → Prop} {K : Env → World → Prop}
    (hQ : ∀ E a w, Agree N E a → K E w → Q .normal a w) : ∀ (os : List Oper) (E : Env) (a : Act) (w : World), Agree N E a → seqR P N l os E w K → wpList P ops Q os a w
  | [], E, a, w, ha, h => hQ E a w ha h
  | o :: os, E, a, w, ha, h => by
    obtain ⟨E', hs, h⟩ := guardQ_elim hl h
    have ha' := ha.same hs
    unfold wpList
    rcases h with ⟨h, hw⟩ | ⟨h, hw⟩
    · have hw := hw a (ha.greads l o)
      unfold wantedAt at hw
      rw [if_pos hw]
      refine .inl (opA_sound hP h a (ha'.reads o) _ Q (fun s w' hp => ?_))
      obtain ⟨E2, ha2, hp⟩ := putQ_elim hp ha'
      exact seqR_sound hP hl hQ os E2 _ w' ha2 hp
    · have hw := hw a (ha.greads l o)
      unfold wantedAt at hw
      rw [if_neg (by rw [hw]; simp)]
      obtain ⟨E2, ha2, hp⟩ := putQ_elim h ha'
      exact seqR_sound hP hl hQ os E2 _ w ha2 hp

/-! ### A region whose order is open: each operation as early as it may be; what is read stands till it must have been read -/

def bindE (e : Edge) : Bool := match e.ground with
  | .textOnly _ => false
  | .gcOnly _ => false
  | _ => true

theorem binds_any (e : Edge) : Region.binds .any e = bindE e := by
  obtain ⟨on, g⟩ := e
  cases g <;> rfl

def befOf (B : List Nat) (es : List Edge) : Nat := es.foldr (fun e s => match bindE e with
  | true => s ||| (2 ^ e.on ||| B.getD e.on 0)
  | false => s) 0

def befs : List Oper → List Nat → List Nat
  | [], B => B
  | o :: os, B => befs os (B ++ [befOf B o.after.toList])

def slotsOf (ops : List Oper) (o : Oper) : List Tmp :=
  (o.op.operands.toList.filterMap fun x => match x with
    | .tmp t => some t
    | _ => none) ++
  (match o.guard with
   | some (j, _) => (dstOf ops j).toList
   | none => [])

def beqT (x : Option Tmp) (t : Tmp) : Bool := match x with
  | some d => Nat.beq d t
  | none => false

/-- Each edge leads to an earlier operation; B is the table of what is before; each destination is a slot of the frame. -/
def chkB (N : Nat) (B : List Nat) : Nat → List Oper → Bool
  | _, [] => true
  | i, o :: os => Nat.beq (B.getD i 0) (befOf B o.after.toList) && o.after.toList.all (fun e => !bindE e || Nat.ble (e.on + 1) i) &&
      (match o.dst with
       | some d => Nat.ble (d + 1) N
       | none => true) && chkB N B (i + 1) os

/-- Whoever writes a slot that another one names stands in order with it; no slot is written twice. -/
def chkW1 (ops : List Oper) (B : List Nat) (i : Nat) (o : Oper) (t : Tmp) : Nat → List Oper → Bool
  | _, [] => true
  | j, p :: ps => (!beqT p.dst t || Nat.beq i j || (B.getD i 0).testBit j || (B.getD j 0).testBit i) && chkW1 ops B i o t (j + 1) ps

def chkW (ops : List Oper) (B : List Nat) : Nat → List Oper → Bool
  | _, [] => true
  | i, o :: os => (slotsOf ops o).all (fun t => chkW1 ops B i o t 0 ops) && (match o.dst with
      | some d => os.all fun p => !beqT p.dst d
      | none => true) && chkW ops B (i + 1) os

/-- L is an order that keeps to B, in which each operation stands as early as the effects before it let it. -/
def chkL (ops : List Oper) (B : List Nat) : Nat → Nat → List Nat → Bool
  | m, _, [] => Nat.beq m (2 ^ ops.length - 1)
  | m, em, i :: L => Nat.ble (i + 1) ops.length && !m.testBit i && Nat.beq (B.getD i 0 &&& m) (B.getD i 0) && Nat.beq (em &&& B.getD i 0) em &&
      chkL ops B (m ||| 2 ^ i) (match ops[i]? with
        | some o => (match isEff o.op with
          | true => em ||| 2 ^ i
          | false => em)
        | none => em) L

def stabQ (P : Program) (o : Oper) (E : Env) (w : World) (s : SV) : Prop := match o.op with
  | .load t a => match aggT P t with
    | false => match okT P t with
      | true => onV (evS E a) fun v => onAd v fun ad => w.cell? ad = some s.val
      | false => False
    | true => match okT P t with
      | true => match s with
        | .v (.agg cs) => match Nat.beq cs.toList.length (szT P t) with
          | true => onV (evS E a) fun v => onAd v fun ad => CellsAt w ad cs.toList
          | false => False
        | _ => Quiet P o E w s
      | false => False
  | _ => Quiet P o E w s

def stabs (P : Program) (ops : List Oper) (Bi : Nat) (w : World) : List (Nat × Env × SV) → Prop → Prop
  | [], X => X
  | (j, E, s) :: r, X => match Bi.testBit j with
    | true => stabs P ops Bi w r X
    | false => match ops[j]? with
      | some o => stabQ P o E w s ∧ stabs P ops Bi w r X
      | none => False

def drawR (P : Program) (N : Nat) (ops : List Oper) (B : List Nat) : List Nat → Env → World → List (Nat × Env × SV) → (Env → World → Prop) → Prop
  | [], E, w, _, K => K E w
  | i :: L, E, w, pend, K => match ops[i]? with
    | none => False
    | some o => guardQ ops o E
      (fun E => match isEff o.op with
        | false => opQ P o E w fun s => putQ N E o.dst s fun E' => drawR P N ops B L E' w (match readsMem P o with
          | true => (i, E, s) :: pend
          | false => pend) K
        | true => opE P o E w fun s w' => stabs P ops (B.getD i 0) w' pend (putQ N E o.dst s fun E' => drawR P N ops B L E' w' pend K))
      (fun E => putQ N E o.dst (.v undef) fun E' => drawR P N ops B L E' w pend K)

def drawQ (P : Program) (N : Nat) (ops : List Oper) (L : List Nat) (E : Env) (w : World) (K : Env → World → Prop) : Prop :=
  match chkB N (befs ops []) 0 ops && chkW ops (befs ops []) 0 ops && chkL ops (befs ops []) 0 0 L with
  | true => ∀ w', w'.heap = w.heap → w'.os = w.os → w'.tape = w.tape → w'.output = w.output → drawR P N ops (befs ops []) L E w' [] K
  | false => False

section draw
variable {P : Program} {N : Nat} {opa : Array Oper} {ops : List Oper} {B : List Nat} {E0 : Env} {a0 : Act}

theorem stabQ_quiet {o : Oper} {E : Env} {w : World} {s : SV} (h : stabQ P o E w s) : Quiet P o E w s := by
  unfold stabQ at h
  split at h
  · rename_i t x ho
    split at h
    · rename_i hg
      split at h
      · rename_i hk
        obtain ⟨v, h1, _, h⟩ := onV_elim h
        obtain ⟨ad, hp, hc⟩ := onAd_elim h
        subst hp
        intro a ha
        have hl : (loadVar t ad).run P w = .ok s.val w := by simp [loadVar, run_isAgg_ok hk, hg, hc]
        simp [execOp, ho, ha x (by simp [ho, Op.operands]) _ h1, Instr.loadAt, Instr.sureAddr, hl]
      · exact h.elim
    · rename_i hg
      split at h
      · rename_i hk
        split at h
        · rename_i cs
          split at h
          · rename_i hb
            obtain ⟨v, h1, _, h⟩ := onV_elim h
            obtain ⟨ad, hp, hc⟩ := onAd_elim h
            subst hp
            intro a ha
            have hlen := Nat.eq_of_beq_eq_true hb
            have hl : (loadVar t ad).run P w = .ok (.agg cs) w := by
              have := run_loadCells_list (P := P) w ad cs.toList hc
              simp only [Array.length_toList] at hlen
              simp [loadVar, run_isAgg_ok hk, hg, run_sizeOf_ok hk, ← hlen] at this ⊢
              rw [this]; rfl
            simp [execOp, ho, ha x (by simp [ho, Op.operands]) _ h1, Instr.loadAt, Instr.sureAddr, hl, SV.val]
          · exact h.elim
        · exact h
      · exact h.elim
  · exact h

theorem stabs_elim {Bi : Nat} {w : World} : ∀ {pend : List (Nat × Env × SV)} {X : Prop}, stabs P ops Bi w pend X →
    X ∧ ∀ j E s, (j, E, s) ∈ pend → Bi.testBit j = false → ∃ o, ops[j]? = some o ∧ Quiet P o E w s
  | [], _, h => ⟨h, fun _ _ _ hm => by cases hm⟩
  | (j, E, s) :: r, X, h => by
    unfold stabs at h
    split at h
    · rename_i hb
      obtain ⟨hX, hr⟩ := stabs_elim h
      refine ⟨hX, fun j' E' s' hm hb' => ?_⟩
      rcases List.mem_cons.1 hm with he | hm
      · cases he; rw [hb] at hb'; cases hb'
      · exact hr j' E' s' hm hb'
    · split at h
      · rename_i o ho
        obtain ⟨hX, hr⟩ := stabs_elim h.2
        refine ⟨hX, fun j' E' s' hm hb' => ?_⟩
        rcases List.mem_cons.1 hm with he | hm
        · cases he; exact ⟨o, ho, stabQ_quiet h.1⟩
        · exact hr j' E' s' hm hb'
      · exact h.elim

/-- The one who writes a slot. -/
def writes (ops : List Oper) (j : Nat) (t : Tmp) : Prop := dstOf ops j = some t

theorem writes_lt {j : Nat} {t : Tmp} (h : writes ops j t) : ∃ o, ops[j]? = some o ∧ o.dst = some t := by
  unfold writes dstOf at h
  cases ho : ops[j]? with
  | none => rw [ho] at h; cases h
  | some o => rw [ho] at h; exact ⟨o, rfl, h⟩

theorem writes_iff {j : Nat} {t : Tmp} {o : Oper} (ho : ops[j]? = some o) : writes ops j t ↔ o.dst = some t := by
  simp [writes, dstOf, ho]

theorem beqT_iff {x : Option Tmp} {t : Tmp} : beqT x t = true ↔ x = some t := by
  cases x with
  | none => simp [beqT]
  | some d => simp [beqT]

theorem chkB_at : ∀ {os : List Oper} {k : Nat}, chkB N B k os = true → ∀ i o, os[i]? = some o →
    B.getD (k + i) 0 = befOf B o.after.toList ∧ (∀ e ∈ o.after.toList, bindE e = true → e.on < k + i) ∧ (∀ d, o.dst = some d → d < N)
  | [], _, _, i, o, ho => by simp at ho
  | p :: os, k, h, i, o, ho => by
    simp only [chkB, Bool.and_eq_true] at h
    obtain ⟨⟨⟨h1, h2⟩, h3⟩, h4⟩ := h
    cases i with
    | zero =>
      simp only [List.getElem?_cons_zero, Option.some.injEq] at ho
      subst ho
      refine ⟨Nat.eq_of_beq_eq_true h1, fun e he hb => ?_, fun d hd => ?_⟩
      · have := List.all_eq_true.1 h2 e he
        rw [hb] at this
        exact Nat.le_of_ble_eq_true (by simpa using this)
      · rw [hd] at h3
        exact Nat.le_of_ble_eq_true h3
    | succ i =>
      have := chkB_at h4 i o (by simpa using ho)
      rw [show k + 1 + i = k + (i + 1) by omega] at this
      exact this

theorem befOf_bit {es : List Edge} {j : Nat} : (befOf B es).testBit j = true ↔ ∃ e ∈ es, bindE e = true ∧ (e.on = j ∨ (B.getD e.on 0).testBit j = true) := by
  induction es with
  | nil => simp [befOf]
  | cons e es ih =>
    simp only [befOf, List.foldr_cons]
    rw [show es.foldr (fun e s => match bindE e with | true => s ||| (2 ^ e.on ||| B.getD e.on 0) | false => s) 0 = befOf B es from rfl]
    cases hb : bindE e with
    | false =>
      simp only [List.mem_cons]
      rw [ih]
      constructor
      · rintro ⟨x, hx, h⟩; exact ⟨x, .inr hx, h⟩
      · rintro ⟨x, rfl | hx, h⟩
        · rw [hb] at h; cases h.1
        · exact ⟨x, hx, h⟩
    | true =>
      simp only [Nat.testBit_or, Bool.or_eq_true, ih, Nat.testBit_two_pow, decide_eq_true_eq, List.mem_cons]
      constructor
      · rintro (⟨x, hx, h⟩ | h)
        · exact ⟨x, .inr hx, h⟩
        · exact ⟨e, .inl rfl, hb, h⟩
      · rintro ⟨x, rfl | hx, h⟩
        · exact .inr h.2
        · exact .inl ⟨x, hx, h⟩

theorem chkW1_at {i : Nat} {o : Oper} {t : Tmp} : ∀ {ps : List Oper} {k : Nat}, chkW1 ops B i o t k ps = true → ∀ j p, ps[j]? = some p → p.dst = some t →
    i = k + j ∨ (B.getD i 0).testBit (k + j) = true ∨ (B.getD (k + j) 0).testBit i = true
  | [], _, _, j, p, hp, _ => by simp at hp
  | q :: ps, k, h, j, p, hp, ht => by
    simp only [chkW1, Bool.and_eq_true, Bool.or_eq_true] at h
    cases j with
    | zero =>
      simp only [List.getElem?_cons_zero, Option.some.injEq] at hp
      subst hp
      rcases h.1 with ((h1 | h1) | h1) | h1
      · rw [beqT_iff.2 ht] at h1; cases h1
      · exact .inl (Nat.eq_of_beq_eq_true h1)
      · exact .inr (.inl h1)
      · exact .inr (.inr h1)
    | succ j =>
      have := chkW1_at h.2 j p (by simpa using hp) ht
      rw [show k + 1 + j = k + (j + 1) by omega] at this
      exact this

theorem chkW_at : ∀ {os : List Oper} {k : Nat}, chkW ops B k os = true → ∀ i o, os[i]? = some o →
    (∀ t ∈ slotsOf ops o, chkW1 ops B (k + i) o t 0 ops = true) ∧ (∀ d, o.dst = some d → ∀ j p, i < j → os[j]? = some p → p.dst ≠ some d)
  | [], _, _, i, o, ho => by simp at ho
  | q :: os, k, h, i, o, ho => by
    simp only [chkW, Bool.and_eq_true] at h
    obtain ⟨⟨h1, h2⟩, h3⟩ := h
    cases i with
    | zero =>
      simp only [List.getElem?_cons_zero, Option.some.injEq] at ho
      subst ho
      refine ⟨fun t ht => List.all_eq_true.1 h1 t ht, fun d hd j p hj hp => ?_⟩
      rw [hd] at h2
      cases j with
      | zero => omega
      | succ j =>
        have := List.all_eq_true.1 h2 p (List.mem_of_getElem? (by simpa using hp))
        intro hpd
        rw [beqT_iff.2 hpd] at this
        cases this
    | succ i =>
      have := chkW_at h3 i o (by simpa using ho)
      rw [show k + 1 + i = k + (i + 1) by omega] at this
      refine ⟨this.1, fun d hd j p hj hp => ?_⟩
      cases j with
      | zero => omega
      | succ j => exact this.2 d hd j p (by omega) (by simpa using hp)

/-- What the three looks give. -/
structure Good (N : Nat) (ops : List Oper) (B : List Nat) : Prop where
  edge : ∀ i o, ops[i]? = some o → B.getD i 0 = befOf B o.after.toList ∧ (∀ e ∈ o.after.toList, bindE e = true → e.on < i) ∧ (∀ d, o.dst = some d → d < N)
  cmp : ∀ i o, ops[i]? = some o → ∀ t ∈ slotsOf ops o, ∀ j, writes ops j t → i = j ∨ (B.getD i 0).testBit j = true ∨ (B.getD j 0).testBit i = true
  once : ∀ i j t, writes ops i t → writes ops j t → i = j

theorem good_of (h1 : chkB N B 0 ops = true) (h2 : chkW ops B 0 ops = true) : Good N ops B := by
  refine ⟨fun i o ho => ?_, fun i o ho t ht j hj => ?_, fun i j t hi hj => ?_⟩
  · have := chkB_at h1 i o ho
    rwa [Nat.zero_add] at this
  · have := (chkW_at h2 i o ho).1 t ht
    rw [Nat.zero_add] at this
    obtain ⟨p, hp, hd⟩ := writes_lt hj
    have := chkW1_at this j p hp hd
    rwa [Nat.zero_add] at this
  · obtain ⟨p, hp, hd⟩ := writes_lt hi
    obtain ⟨q, hq, hd2⟩ := writes_lt hj
    rcases Nat.lt_trichotomy i j with h | h | h
    · exact absurd hd2 ((chkW_at h2 i p hp).2 t hd j q h hq)
    · exact h
    · exact absurd hd ((chkW_at h2 j q hq).2 t hd2 i p h hp)

def ClosedM (B : List Nat) (m : Nat) : Prop := ∀ j, m.testBit j = true → ∀ k, (B.getD j 0).testBit k = true → m.testBit k = true
def ClosedB (B : List Nat) (b : Nat → Bool) : Prop := ∀ j, b j = true → ∀ k, (B.getD j 0).testBit k = true → b k = true

/-- The list agrees with the values of what is done. -/
def EnvOK (ops : List Oper) (E0 : Env) (m : Nat) (V : Nat → Value) (E : Env) : Prop :=
  ∀ t x, (E.get t).val? = some x → (∀ j, writes ops j t → m.testBit j = true → V j = x) ∧ ((∀ j, writes ops j t → m.testBit j = false) → (E0.get t).val? = some x)

/-- The frame holds the values of what is listed. -/
structure ActOK (N : Nat) (ops : List Oper) (a0 : Act) (b : Nat → Bool) (V : Nat → Value) (a : Act) : Prop where
  size : a.tmps.size = N
  nod : a.defers = []
  done : ∀ t j, writes ops j t → b j = true → a.tmps[t]? = some (V j)
  old : ∀ t, (∀ j, writes ops j t → b j = false) → a.tmps[t]? = a0.tmps[t]?

theorem EnvOK.same {m : Nat} {V : Nat → Value} {E E' : Env} (h : EnvOK ops E0 m V E) (hs : SameVals E E') : EnvOK ops E0 m V E' :=
  fun t x hx => h t x (by rw [← hs t]; exact hx)

theorem slot_read (hg : Good N ops B) (h0 : Agree N E0 a0) {m : Nat} {b : Nat → Bool} {V : Nat → Value} {E : Env} {a : Act} {i : Nat} {o : Oper}
    (hm : ClosedM B m) (hb : ClosedB B b) (hE : EnvOK ops E0 m V E) (ha : ActOK N ops a0 b V a) (ho : ops[i]? = some o)
    (him : m.testBit i = false) (hib : b i = false) (hBm : ∀ k, (B.getD i 0).testBit k = true → m.testBit k = true) (hBb : ∀ k, (B.getD i 0).testBit k = true → b k = true)
    {t : Tmp} (ht : t ∈ slotsOf ops o) {x : Value} (hx : (E.get t).val? = some x) : a.tmps[t]? = some x := by
  have hno : ∀ j, writes ops j t → (i = j ∨ (B.getD j 0).testBit i = true) → m.testBit j = false ∧ b j = false := by
    intro j _ hc
    rcases hc with rfl | hc
    · exact ⟨him, hib⟩
    · refine ⟨?_, ?_⟩
      · cases hmj : m.testBit j with
        | false => rfl
        | true => rw [hm j hmj i hc] at him; cases him
      · cases hbj : b j with
        | false => rfl
        | true => rw [hb j hbj i hc] at hib; cases hib
  by_cases hw : ∃ j, writes ops j t
  · obtain ⟨j, hj⟩ := hw
    rcases hg.cmp i o ho t ht j hj with hc | hc | hc
    · obtain ⟨h1, h2⟩ := hno j hj (.inl hc)
      have hall : ∀ k, writes ops k t → k = j := fun k hk => hg.once k j t hk hj
      rw [ha.old t (fun k hk => by rw [hall k hk]; exact h2)]
      exact h0.vals t x ((hE t x hx).2 (fun k hk => by rw [hall k hk]; exact h1))
    · rw [ha.done t j hj (hBb j hc), (hE t x hx).1 j hj (hBm j hc)]
    · obtain ⟨h1, h2⟩ := hno j hj (.inr hc)
      have hall : ∀ k, writes ops k t → k = j := fun k hk => hg.once k j t hk hj
      rw [ha.old t (fun k hk => by rw [hall k hk]; exact h2)]
      exact h0.vals t x ((hE t x hx).2 (fun k hk => by rw [hall k hk]; exact h1))
  · rw [ha.old t (fun k hk => absurd ⟨k, hk⟩ hw)]
    exact h0.vals t x ((hE t x hx).2 (fun k hk => absurd ⟨k, hk⟩ hw))

theorem reads_of {E : Env} {o : Oper} {a : Act} (h : ∀ t ∈ slotsOf ops o, ∀ x, (E.get t).val? = some x → a.tmps[t]? = some x) : Reads E o a ∧ GReads ops E o a := by
  constructor
  · intro x hx v hv
    cases x with
    | tmp t =>
      have ht : t ∈ slotsOf ops o := by
        unfold slotsOf
        refine List.mem_append.2 (.inl (List.mem_filterMap.2 ⟨.tmp t, by simpa using hx, rfl⟩))
      have := h t ht v hv
      simp [Act.eval, this]
    | const c => cases c <;> simp_all [evS, SV.val?, Act.eval]
    | global g => simpa [evS, SV.val?, Act.eval] using hv
    | func f => simpa [evS, SV.val?, Act.eval] using hv
  · intro j want d hg hd v hv
    refine h d ?_ v hv
    unfold slotsOf
    refine List.mem_append.2 (.inr ?_)
    rw [hg]
    simp [hd]

def upB (b : Nat → Bool) (i : Nat) : Nat → Bool := fun j => if j = i then true else b j
def upV (V : Nat → Value) (i : Nat) (v : Value) : Nat → Value := fun j => if j = i then v else V j

theorem actOK_put (hg : Good N ops B) {b : Nat → Bool} {V : Nat → Value} {a : Act} {i : Nat} {o : Oper} (ha : ActOK N ops a0 b V a) (ho : ops[i]? = some o) (v : Value) (hv : V i = v) :
    ActOK N ops a0 (upB b i) V (a.put o.dst v) := by
  cases hd : o.dst with
  | none =>
    refine ⟨ha.size, ha.nod, fun t j hj hb => ?_, fun t hall => ?_⟩
    · have hji : j ≠ i := by
        rintro rfl
        rw [writes_iff ho, hd] at hj
        cases hj
      simp only [upB, hji, if_false] at hb
      exact ha.done t j hj hb
    · refine ha.old t (fun j hj => ?_)
      have := hall j hj
      simp only [upB] at this
      split at this
      · cases this
      · exact this
  | some d =>
    have hdN := (hg.edge i o ho).2.2 d hd
    have hwi : writes ops i d := (writes_iff ho).2 hd
    refine ⟨by simpa [Act.put] using ha.size, ha.nod, fun t j hj hb => ?_, fun t hall => ?_⟩
    · by_cases hji : j = i
      · subst hji
        have : d = t := by unfold writes at hwi hj; rw [hwi] at hj; exact Option.some.inj hj
        subst this
        simp [Act.put, ha.size, hdN, hv]
      · simp only [upB, hji, if_false] at hb
        have hne : d ≠ t := fun e => hji (hg.once j i t hj (e ▸ hwi))
        simp only [Act.put]
        rw [Array.getElem?_setIfInBounds_ne hne]
        exact ha.done t j hj hb
    · have hne : d ≠ t := fun e => by
        have := hall i (e ▸ hwi)
        simp [upB] at this
      simp only [Act.put]
      rw [Array.getElem?_setIfInBounds_ne hne]
      refine ha.old t (fun j hj => ?_)
      have := hall j hj
      simp only [upB] at this
      split at this
      · cases this
      · exact this

theorem testBit_or_pow {m i j : Nat} : (m ||| 2 ^ i).testBit j = (m.testBit j || decide (i = j)) := by
  rw [Nat.testBit_or, Nat.testBit_two_pow]

theorem envOK_put (hg : Good N ops B) {m : Nat} {V : Nat → Value} {E : Env} {i : Nat} {o : Oper} (hE : EnvOK ops E0 m V E) (ho : ops[i]? = some o) (him : m.testBit i = false) {s : SV} {K : Env → Prop}
    (h : putQ N E o.dst s K) : ∃ E', K E' ∧ EnvOK ops E0 (m ||| 2 ^ i) (upV V i s.val) E' := by
  unfold putQ at h
  cases hd : o.dst with
  | none =>
    rw [hd] at h
    refine ⟨E, h, fun t x hx => ⟨fun j hj hb => ?_, fun hall => ?_⟩⟩
    · have hji : j ≠ i := by
        rintro rfl
        rw [writes_iff ho, hd] at hj
        cases hj
      rw [testBit_or_pow] at hb
      simp only [upV, hji, if_false]
      exact (hE t x hx).1 j hj (by simpa [Ne.symm hji] using hb)
    · refine (hE t x hx).2 (fun j hj => ?_)
      have := hall j hj
      rw [testBit_or_pow] at this
      simp only [Bool.or_eq_false_iff] at this
      exact this.1
  | some d =>
    rw [hd] at h
    simp only at h
    split at h
    · have hwi : writes ops i d := (writes_iff ho).2 hd
      refine ⟨_, h, fun t x hx => ?_⟩
      rw [Env.get_put] at hx
      by_cases ht : t = d
      · subst ht
        rw [if_pos rfl] at hx
        refine ⟨fun j hj _ => ?_, fun hall => ?_⟩
        · have : j = i := hg.once j i t hj hwi
          subst this
          simp only [upV, if_true]
          cases s <;> simp_all [SV.val?, SV.val]
        · have := hall i hwi
          rw [testBit_or_pow] at this
          simp at this
      · rw [if_neg ht] at hx
        refine ⟨fun j hj hb => ?_, fun hall => ?_⟩
        · have hji : j ≠ i := by
            rintro rfl
            unfold writes at hwi hj
            rw [hwi] at hj
            exact ht (Option.some.inj hj).symm
          rw [testBit_or_pow] at hb
          simp only [upV, hji, if_false]
          exact (hE t x hx).1 j hj (by simpa [Ne.symm hji] using hb)
        · refine (hE t x hx).2 (fun j hj => ?_)
          have := hall j hj
          rw [testBit_or_pow] at this
          simp only [Bool.or_eq_false_iff] at this
          exact this.1
    · exact h.elim
end draw

section draw2
variable {P : Program} {N : Nat} {opa : Array Oper} {ops : List Oper} {B : List Nat} {E0 : Env} {a0 : Act} {K : Env → World → Prop}

/-- What is known of an operation that has been told but not listed yet. -/
def Told (P : Program) (ops : List Oper) (opa : Array Oper) (B : List Nat) (E0 : Env) (m : Nat) (V : Nat → Value) (w : World) (pend : List (Nat × Env × SV)) (i : Nat) : Prop :=
  ∃ o E mi, ops[i]? = some o ∧ ClosedM B mi ∧ mi.testBit i = false ∧ (∀ k, (B.getD i 0).testBit k = true → mi.testBit k = true) ∧ (∀ k, mi.testBit k = true → m.testBit k = true) ∧
    EnvOK ops E0 mi V E ∧
    (((∀ a, GReads ops E o a → wantedAt opa o a = true) ∧ ∃ s, Quiet P o E w s ∧ (readsMem P o = false → ∀ w', Quiet P o E w' s) ∧ (readsMem P o = true → (i, E, s) ∈ pend) ∧ s.val = V i) ∨
     ((∀ a, GReads ops E o a → wantedAt opa o a = false) ∧ V i = undef))

/-- Where the telling stands: at its end, or before an effect that is to be carried out. -/
def Stage (P : Program) (N : Nat) (ops : List Oper) (opa : Array Oper) (B : List Nat) (L : List Nat) (E : Env) (w : World) (pend : List (Nat × Env × SV)) (K : Env → World → Prop) : Prop :=
  (L = [] ∧ K E w) ∨ ∃ e L' o E', L = e :: L' ∧ ops[e]? = some o ∧ isEff o.op = true ∧ SameVals E E' ∧ (∀ a, GReads ops E o a → wantedAt opa o a = true) ∧
    opE P o E' w fun s w' => stabs P ops (B.getD e 0) w' pend (putQ N E' o.dst s fun E2 => drawR P N ops B L' E2 w' pend K)

structure Inv (P : Program) (N : Nat) (ops : List Oper) (opa : Array Oper) (B : List Nat) (E0 : Env) (a0 : Act) (K : Env → World → Prop) (b : Nat → Bool) (a : Act) (w : World) where
  m : Nat
  em : Nat
  V : Nat → Value
  E : Env
  pend : List (Nat × Env × SV)
  L : List Nat
  chk : chkL ops B m em L = true
  closed : ClosedM B m
  sub : ∀ i, b i = true → m.testBit i = true
  ems : ∀ i o, m.testBit i = true → ops[i]? = some o → isEff o.op = true → em.testBit i = true
  env : EnvOK ops E0 m V E
  act : ActOK N ops a0 b V a
  told : ∀ i, m.testBit i = true → b i = false → Told P ops opa B E0 m V w pend i
  closedB : ClosedB B b
  stage : Stage P N ops opa B L E w pend K

theorem envOK_upV {m mi : Nat} {V : Nat → Value} {E : Env} {i : Nat} (h : EnvOK ops E0 mi V E) (hs : ∀ k, mi.testBit k = true → m.testBit k = true) (him : m.testBit i = false) (v : Value) :
    EnvOK ops E0 mi (upV V i v) E := fun t x hx => ⟨fun j hj hb => by
      have : j ≠ i := by rintro rfl; rw [hs j hb] at him; cases him
      simp only [upV, this, if_false]
      exact (h t x hx).1 j hj hb, (h t x hx).2⟩

theorem told_up {m : Nat} {V : Nat → Value} {w : World} {pend pend' : List (Nat × Env × SV)} {i j : Nat} {v : Value} (h : Told P ops opa B E0 m V w pend j) (hj : m.testBit j = true)
    (him : m.testBit i = false) (hp : ∀ x, x ∈ pend → x ∈ pend') : Told P ops opa B E0 (m ||| 2 ^ i) (upV V i v) w pend' j := by
  obtain ⟨o, E, mi, h1, h2, h3, h4, h5, h6, h7⟩ := h
  have hji : j ≠ i := by rintro rfl; rw [hj] at him; cases him
  refine ⟨o, E, mi, h1, h2, h3, h4, fun k hk => by rw [testBit_or_pow, h5 k hk]; rfl, envOK_upV h6 h5 him v, ?_⟩
  simp only [upV, hji, if_false]
  rcases h7 with ⟨h7, s, h8, h9, h10, h11⟩ | h7
  · exact .inl ⟨h7, s, h8, h9, fun hr => hp _ (h10 hr), h11⟩
  · exact .inr h7

theorem closedM_or {m i : Nat} (h : ClosedM B m) (hB : ∀ k, (B.getD i 0).testBit k = true → m.testBit k = true) : ClosedM B (m ||| 2 ^ i) := by
  intro j hj k hk
  rw [testBit_or_pow] at hj ⊢
  simp only [Bool.or_eq_true, decide_eq_true_eq] at hj ⊢
  rcases hj with hj | rfl
  · exact .inl (h j hj k hk)
  · exact .inl (hB k hk)

theorem chkL_cons {m em i : Nat} {L : List Nat} (h : chkL ops B m em (i :: L) = true) :
    i < ops.length ∧ m.testBit i = false ∧ (∀ k, (B.getD i 0).testBit k = true → m.testBit k = true) ∧ (∀ k, em.testBit k = true → (B.getD i 0).testBit k = true) ∧
      chkL ops B (m ||| 2 ^ i) (match ops[i]? with
        | some o => (match isEff o.op with
          | true => em ||| 2 ^ i
          | false => em)
        | none => em) L = true := by
  simp only [chkL, Bool.and_eq_true] at h
  obtain ⟨⟨⟨⟨h1, h2⟩, h3⟩, h4⟩, h5⟩ := h
  refine ⟨Nat.le_of_ble_eq_true h1, by simpa using h2, fun k hk => ?_, fun k hk => ?_, h5⟩
  · have e := Nat.eq_of_beq_eq_true h3
    rw [← e, Nat.testBit_and] at hk
    simp only [Bool.and_eq_true] at hk
    exact hk.2
  · have e := Nat.eq_of_beq_eq_true h4
    rw [← e, Nat.testBit_and] at hk
    simp only [Bool.and_eq_true] at hk
    exact hk.2

theorem adv (hl : opa.toList = ops) (hg : Good N ops B) {b : Nat → Bool} {a : Act} {w : World} (hcb : ClosedB B b) :
    ∀ (L : List Nat) (m em : Nat) (V : Nat → Value) (E : Env) (pend : List (Nat × Env × SV)), chkL ops B m em L = true → ClosedM B m → (∀ i, b i = true → m.testBit i = true) →
      (∀ i o, m.testBit i = true → ops[i]? = some o → isEff o.op = true → em.testBit i = true) → EnvOK ops E0 m V E → ActOK N ops a0 b V a →
      (∀ i, m.testBit i = true → b i = false → Told P ops opa B E0 m V w pend i) → drawR P N ops B L E w pend K → Nonempty (Inv P N ops opa B E0 a0 K b a w)
  | [], m, em, V, E, pend, h1, h2, h3, h4, h5, h6, h7, h8 => ⟨⟨m, em, V, E, pend, [], h1, h2, h3, h4, h5, h6, h7, hcb, .inl ⟨rfl, h8⟩⟩⟩
  | i :: L, m, em, V, E, pend, h1, h2, h3, h4, h5, h6, h7, h8 => by
    obtain ⟨c1, c2, c3, c4, c5⟩ := chkL_cons h1
    unfold drawR at h8
    cases ho : ops[i]? with
    | none => rw [ho] at h8; exact h8.elim
    | some o =>
      rw [ho] at h8 c5
      simp only at h8 c5
      obtain ⟨E', hs, h8⟩ := guardQ_elim hl h8
      have h5' := h5.same hs
      have hbi : b i = false := by
        cases hb : b i with
        | false => rfl
        | true => rw [h3 i hb] at c2; cases c2
      have hgr : ∀ a, GReads ops E' o a → GReads ops E o a := fun a ha j want d h1 h2 v hv => ha j want d h1 h2 v (by rw [hs d]; exact hv)
      have hgr' : ∀ a, GReads ops E o a → GReads ops E' o a := fun a ha j want d h1 h2 v hv => ha j want d h1 h2 v (by rw [← hs d]; exact hv)
      have hact : ∀ v, ActOK N ops a0 b (upV V i v) a := fun v => ⟨h6.size, h6.nod, fun t j hj hb => by
        have : j ≠ i := by rintro rfl; rw [hb] at hbi; cases hbi
        simp only [upV, this, if_false]
        exact h6.done t j hj hb, h6.old⟩
      rcases h8 with ⟨h8, hw⟩ | ⟨h8, hw⟩
      · cases he : isEff o.op with
        | true =>
          rw [he] at h8
          simp only at h8
          exact ⟨⟨m, em, V, E, pend, i :: L, h1, h2, h3, h4, h5, h6, h7, hcb, .inr ⟨i, L, o, E', rfl, ho, he, hs, hw, h8⟩⟩⟩
        | false =>
          rw [he] at h8 c5
          simp only at h8 c5
          obtain ⟨s, hq, hq2, h8⟩ := opQ_sound h8
          obtain ⟨E2, h8, hE2⟩ := envOK_put hg h5' ho c2 h8
          refine adv hl hg hcb L (m ||| 2 ^ i) em (upV V i s.val) E2 _ c5 (closedM_or h2 c3) (fun j hj => by rw [testBit_or_pow, h3 j hj]; rfl) (fun j p hj hp hpe => ?_) hE2 (hact _) (fun j hj hjb => ?_) h8
          · rw [testBit_or_pow] at hj
            simp only [Bool.or_eq_true, decide_eq_true_eq] at hj
            rcases hj with hj | rfl
            · exact h4 j p hj hp hpe
            · rw [ho] at hp
              rw [← Option.some.inj hp, he] at hpe
              cases hpe
          · rw [testBit_or_pow] at hj
            simp only [Bool.or_eq_true, decide_eq_true_eq] at hj
            rcases hj with hj | rfl
            · exact told_up (h7 j hj hjb) hj c2 (fun x hx => by split <;> simp [hx])
            · refine ⟨o, E', m, ho, h2, c2, c3, fun k hk => by rw [testBit_or_pow, hk]; rfl, envOK_upV h5' (fun k hk => hk) c2 _, .inl ⟨fun a ha => hw a (hgr a ha), s, hq, hq2, fun hr => by rw [hr]; simp, by simp [upV]⟩⟩
      · obtain ⟨E2, h8, hE2⟩ := envOK_put hg h5' ho c2 h8
        refine adv hl hg hcb L (m ||| 2 ^ i) _ (upV V i undef) E2 _ c5 (closedM_or h2 c3) (fun j hj => by rw [testBit_or_pow, h3 j hj]; rfl) (fun j p hj hp hpe => ?_) hE2 (hact _) (fun j hj hjb => ?_) h8
        · rw [testBit_or_pow] at hj
          simp only [Bool.or_eq_true, decide_eq_true_eq] at hj
          rcases hj with hj | rfl
          · have := h4 j p hj hp hpe
            split
            · rw [testBit_or_pow, this]; rfl
            · exact this
          · rw [ho] at hp
            rw [← Option.some.inj hp] at hpe
            rw [hpe]
            simp
        · rw [testBit_or_pow] at hj
          simp only [Bool.or_eq_true, decide_eq_true_eq] at hj
          rcases hj with hj | rfl
          · exact told_up (h7 j hj hjb) hj c2 (fun x hx => hx)
          · exact ⟨o, E', m, ho, h2, c2, c3, fun k hk => by rw [testBit_or_pow, hk]; rfl, envOK_upV h5' (fun k hk => hk) c2 _, .inr ⟨fun a ha => hw a (hgr a ha), by simp [upV]⟩⟩

theorem chkL_has : ∀ {L : List Nat} {m em : Nat} {i : Nat}, chkL ops B m em L = true → i < ops.length → m.testBit i = false → i ∈ L
  | [], m, em, i, h, hi, hm => by
    have e := Nat.eq_of_beq_eq_true h
    rw [e, Nat.testBit_two_pow_sub_one] at hm
    simp [hi] at hm
  | j :: L, m, em, i, h, hi, hm => by
    obtain ⟨_, _, _, _, c5⟩ := chkL_cons h
    by_cases hij : i = j
    · exact hij ▸ List.mem_cons_self
    · exact List.mem_cons_of_mem _ (chkL_has c5 hi (by rw [testBit_or_pow, hm]; simp [Ne.symm hij]))

theorem chkL_eff : ∀ {L : List Nat} {m em : Nat} {i e : Nat}, chkL ops B m em L = true → i ∈ L → em.testBit e = true → (B.getD i 0).testBit e = true
  | j :: L, m, em, i, e, h, hi, he => by
    obtain ⟨_, _, _, c4, c5⟩ := chkL_cons h
    rcases List.mem_cons.1 hi with rfl | hi
    · exact c4 e he
    · refine chkL_eff c5 hi ?_
      split
      · split
        · rw [testBit_or_pow, he]; rfl
        · exact he
      · exact he

def lsB (l : Array Bool) : Nat → Bool := fun i => l.getD i false

theorem mem_ready {l : Array Bool} (hl : opa.toList = ops) (hs : l.size = ops.length) {i : Nat} (hi : i ∈ Region.ready .any opa l) :
    ∃ o, ops[i]? = some o ∧ lsB l i = false ∧ ∀ e ∈ o.after.toList, bindE e = true → e.on < ops.length → lsB l e.on = true := by
  unfold Region.ready at hi
  rw [List.mem_filter, List.mem_range] at hi
  obtain ⟨h1, h2⟩ := hi
  have hsz : opa.size = ops.length := by rw [← hl]; simp
  simp only [Bool.and_eq_true] at h2
  obtain ⟨h2, h3⟩ := h2
  have hget : opa[i]? = some opa[i] := Array.getElem?_eq_getElem h1
  have ho : ops[i]? = some opa[i] := by rw [← hl]; simp
  refine ⟨_, ho, ?_, fun e he hb hlt => ?_⟩
  · have hil : i < l.size := by omega
    simp only [lsB, Array.getD_eq_getD_getElem?, Array.getElem?_eq_getElem hil, Option.getD_some] at h2 ⊢
    simpa using h2
  · rw [hget] at h3
    simp only [Option.map_some, Option.getD_some] at h3
    rw [← Array.all_toList] at h3
    have := List.all_eq_true.1 h3 e he
    rw [binds_any, hb] at this
    simpa [lsB] using this

theorem wpAny_inv (hP : okP P = true) (hl : opa.toList = ops) (hg : Good N ops B) (h0 : Agree N E0 a0) {Q : Exit → Act → World → Prop}
    (hQ : ∀ E a w, Agree N E a → K E w → Q .normal a w) : ∀ (n : Nat) (l : Array Bool) (a : Act) (w : World), l.size = ops.length →
      ((List.range ops.length).filter fun i => !lsB l i).length = n → Inv P N ops opa B E0 a0 K (lsB l) a w → wpAny P .any opa Q n l a w
  | 0, l, a, w, hs, hn, I => by
    have hall : ∀ i, i < ops.length → lsB l i = true := by
      intro i hi
      cases hb : lsB l i with
      | true => rfl
      | false =>
        have : i ∈ (List.range ops.length).filter fun i => !lsB l i := List.mem_filter.2 ⟨List.mem_range.2 hi, by simp [hb]⟩
        rw [List.eq_nil_of_length_eq_zero hn] at this
        cases this
    refine ⟨?_, ?_⟩
    · refine List.eq_nil_iff_forall_not_mem.2 (fun i hi => ?_)
      obtain ⟨o, ho, hb, _⟩ := mem_ready hl hs hi
      rw [hall i (List.getElem?_eq_some_iff.1 ho).1] at hb
      cases hb
    · rcases I.stage with ⟨_, hK⟩ | ⟨e, L', o, E', hL, ho, _⟩
      · refine hQ I.E a w ⟨I.act.size, I.act.nod, fun t x hx => ?_⟩ hK
        have hE := I.env t x hx
        by_cases hw : ∃ j, writes ops j t
        · obtain ⟨j, hj⟩ := hw
          obtain ⟨oj, hoj, _⟩ := writes_lt hj
          have hbj := hall j (List.getElem?_eq_some_iff.1 hoj).1
          rw [I.act.done t j hj hbj, hE.1 j hj (I.sub j hbj)]
        · rw [I.act.old t (fun k hk => absurd ⟨k, hk⟩ hw)]
          exact h0.vals t x (hE.2 (fun k hk => absurd ⟨k, hk⟩ hw))
      · have hc := I.chk
        rw [hL] at hc
        obtain ⟨c1, c2, _⟩ := chkL_cons hc
        rw [I.sub e (hall e c1)] at c2
        cases c2
  | n + 1, l, a, w, hs, hn, I => by
    have hsz : opa.size = ops.length := by rw [← hl]; simp
    refine ⟨fun hr => ?_, fun i hi => ?_⟩
    · exfalso
      have hex : ∃ i, i < ops.length ∧ lsB l i = false := by
        cases hf : (List.range ops.length).filter (fun i => !lsB l i) with
        | nil => rw [hf] at hn; cases hn
        | cons x r =>
          have hx : x ∈ (List.range ops.length).filter (fun i => !lsB l i) := by rw [hf]; exact List.mem_cons_self
          rw [List.mem_filter, List.mem_range] at hx
          exact ⟨x, hx.1, by simpa using hx.2⟩
      have hmin : ∀ k, (∃ i, i ≤ k ∧ i < ops.length ∧ lsB l i = false) → ∃ i, i < ops.length ∧ lsB l i = false ∧ ∀ j, j < i → lsB l j = true := by
        intro k
        induction k with
        | zero =>
          rintro ⟨i, hi, h1, h2⟩
          exact ⟨i, h1, h2, fun j hj => by omega⟩
        | succ k ih =>
          rintro ⟨i, hi, h1, h2⟩
          by_cases hlow : ∃ j, j ≤ k ∧ j < ops.length ∧ lsB l j = false
          · exact ih hlow
          · refine ⟨i, h1, h2, fun j hj => ?_⟩
            cases hb : lsB l j with
            | true => rfl
            | false => exact absurd ⟨j, by omega, by omega, hb⟩ hlow
      obtain ⟨x, hx1, hx2⟩ := hex
      obtain ⟨i, h1, h2, h3⟩ := hmin x ⟨x, Nat.le_refl _, hx1, hx2⟩
      have hmem : i ∈ Region.ready .any opa l := by
        unfold Region.ready
        rw [List.mem_filter, List.mem_range]
        have hi1 : i < opa.size := by omega
        have hget : opa[i]? = some opa[i] := Array.getElem?_eq_getElem hi1
        have ho : ops[i]? = some opa[i] := by rw [← hl]; simp
        refine ⟨hi1, ?_⟩
        rw [hget]
        simp only [Option.map_some, Option.getD_some, Bool.and_eq_true]
        constructor
        · have hil : i < l.size := by omega
          simp only [lsB, Array.getD_eq_getD_getElem?, Array.getElem?_eq_getElem hil, Option.getD_some] at h2 ⊢
          simp [h2]
        · rw [← Array.all_toList]
          refine List.all_eq_true.2 (fun e he => ?_)
          rw [binds_any]
          cases hb : bindE e with
          | false => rfl
          | true =>
            have := h3 e.on ((hg.edge i _ ho).2.1 e he hb)
            simpa [lsB] using this
      rw [hr] at hmem
      cases hmem
    · obtain ⟨o, ho, hb, hed⟩ := mem_ready hl hs hi
      have hilt : i < ops.length := (List.getElem?_eq_some_iff.1 ho).1
      have hopa : opa[i]? = some o := by rw [← hl] at ho; simpa using ho
      have hBb : ∀ k, (B.getD i 0).testBit k = true → lsB l k = true := by
        intro k hk
        rw [(hg.edge i o ho).1] at hk
        obtain ⟨e, he, hbe, hk⟩ := befOf_bit.1 hk
        have hon := hed e he hbe (by have := (hg.edge i o ho).2.1 e he hbe; omega)
        rcases hk with rfl | hk
        · exact hon
        · exact I.closedB e.on hon k hk
      have hls : ∀ j, lsB (l.setIfInBounds i true) j = upB (lsB l) i j := by
        intro j
        simp only [lsB, upB, Array.getD_eq_getD_getElem?, Array.getElem?_setIfInBounds]
        by_cases hij : j = i
        · subst hij; simp [show j < l.size by omega]
        · simp [hij, Ne.symm hij]
      have hlsf : lsB (l.setIfInBounds i true) = upB (lsB l) i := funext hls
      have hcb' : ClosedB B (lsB (l.setIfInBounds i true)) := by
        rw [hlsf]
        intro j hj k hk
        unfold upB at hj ⊢
        by_cases hji : j = i
        · subst hji
          split
          · rfl
          · exact hBb k hk
        · rw [if_neg hji] at hj
          split
          · rfl
          · exact I.closedB j hj k hk
      have hcount : ((List.range ops.length).filter fun j => !lsB (l.setIfInBounds i true) j).length = n := by
        have key : ∀ (r : List Nat), r.Nodup → i ∈ r → (r.filter fun j => !upB (lsB l) i j).length + 1 = (r.filter fun j => !lsB l j).length := by
          intro r
          induction r with
          | nil => intro _ h; cases h
          | cons x r ih =>
            intro hnd hmem
            rw [List.nodup_cons] at hnd
            rcases List.mem_cons.1 hmem with rfl | hmem
            · have h1 : (r.filter fun j => !upB (lsB l) i j) = r.filter fun j => !lsB l j := by
                refine List.filter_congr (fun j hj => ?_)
                have : j ≠ i := fun e => hnd.1 (e ▸ hj)
                simp [upB, this]
              rw [List.filter_cons, List.filter_cons]
              simp [upB, hb]
              simpa [upB] using congrArg List.length h1
            · have hxi : x ≠ i := fun e => hnd.1 (e ▸ hmem)
              have h1 := ih hnd.2 hmem
              rw [List.filter_cons, List.filter_cons]
              have : upB (lsB l) i x = lsB l x := by simp [upB, hxi]
              rw [this]
              cases lsB l x
              · simp only [Bool.not_false, if_true, List.length_cons]; omega
              · simpa using h1
        have := key (List.range ops.length) List.nodup_range (List.mem_range.2 hilt)
        rw [hlsf]
        omega
      have hsz' : (l.setIfInBounds i true).size = ops.length := by simpa using hs
      have hnext : ∀ a' w', Nonempty (Inv P N ops opa B E0 a0 K (upB (lsB l) i) a' w') → wpAny P .any opa Q n (l.setIfInBounds i true) a' w' := by
        rintro a' w' ⟨I'⟩
        exact wpAny_inv hP hl hg h0 hQ n _ a' w' hsz' hcount (hlsf ▸ I')
      unfold wpOp
      rw [hopa]
      simp only
      cases hmi : I.m.testBit i with
      | true =>
        obtain ⟨o', E, mi, h1, h2, h3, h4, h5, h6, h7⟩ := I.told i hmi hb
        rw [ho] at h1
        obtain rfl := Option.some.inj h1
        obtain ⟨hrd, hgr⟩ := reads_of (E := E) (o := o) (a := a) (fun t ht x hx => slot_read hg h0 h2 I.closedB h6 I.act ho h3 hb h4 hBb ht hx)
        have fin : ∀ v, I.V i = v → Nonempty (Inv P N ops opa B E0 a0 K (upB (lsB l) i) (a.put o.dst v) w) := by
          intro v hv
          refine ⟨⟨I.m, I.em, I.V, I.E, I.pend, I.L, I.chk, I.closed, fun j hj => ?_, I.ems, I.env, actOK_put hg I.act ho v hv, fun j hj hjb => ?_, hlsf ▸ hcb', I.stage⟩⟩
          · unfold upB at hj
            by_cases hji : j = i
            · rw [hji]; exact hmi
            · rw [if_neg hji] at hj; exact I.sub j hj
          · unfold upB at hjb
            by_cases hji : j = i
            · rw [if_pos hji] at hjb; cases hjb
            · rw [if_neg hji] at hjb; exact I.told j hj hjb
        rcases h7 with ⟨hw, s, hq, _, _, hv⟩ | ⟨hw, hv⟩
        · have hw := hw a hgr
          unfold wantedAt at hw
          rw [if_pos hw]
          refine .inl ?_
          unfold Oper.wp
          rw [hq a hrd]
          exact hnext _ _ (fin _ hv.symm)
        · have hw := hw a hgr
          unfold wantedAt at hw
          rw [if_neg (by rw [hw]; simp)]
          exact hnext _ _ (fin _ hv)
      | false =>
        have hiL := chkL_has I.chk hilt hmi
        rcases I.stage with ⟨hL, _⟩ | ⟨e, L', oe, E', hL, hoe, hee, hsv, hwe, hop⟩
        · rw [hL] at hiL; cases hiL
        · have hc := I.chk
          rw [hL] at hc hiL
          obtain ⟨c1, c2, c3, c4, c5⟩ := chkL_cons hc
          have hie : i = e := by
            rcases List.mem_cons.1 hiL with h | h
            · exact h
            · exfalso
              rw [hoe] at c5
              simp only [hee] at c5
              have := chkL_eff c5 h (e := e) (by simp)
              rw [I.sub e (hBb e this)] at c2
              cases c2
          subst hie
          rw [ho] at hoe
          obtain rfl := Option.some.inj hoe
          rw [ho] at c5
          simp only [hee] at c5
          have henv' := I.env.same hsv
          obtain ⟨hrd, _⟩ := reads_of (E := E') (o := o) (a := a) (fun t ht x hx => slot_read hg h0 I.closed I.closedB henv' I.act ho c2 hb c3 hBb ht hx)
          obtain ⟨_, hgr⟩ := reads_of (E := I.E) (o := o) (a := a) (fun t ht x hx => slot_read hg h0 I.closed I.closedB I.env I.act ho c2 hb c3 hBb ht hx)
          have hw := hwe a hgr
          unfold wantedAt at hw
          rw [if_pos hw]
          refine .inl (opE_sound hP hop a hrd _ Q (fun s w' hst => hnext _ _ ?_))
          obtain ⟨hput, hstab⟩ := stabs_elim hst
          obtain ⟨E2, hdr, hE2⟩ := envOK_put hg henv' ho c2 hput
          refine adv hl hg (b := upB (lsB l) i) (hlsf ▸ hcb') L' (I.m ||| 2 ^ i) _ (upV I.V i s.val) E2 I.pend c5 (closedM_or I.closed c3) (fun j hj => ?_) (fun j p hj hp hpe => ?_) hE2 ?_ (fun j hj hjb => ?_) hdr
          · unfold upB at hj
            rw [testBit_or_pow]
            by_cases hji : j = i
            · simp [hji]
            · rw [if_neg hji] at hj; rw [I.sub j hj]; rfl
          · rw [testBit_or_pow] at hj ⊢
            simp only [Bool.or_eq_true, decide_eq_true_eq] at hj ⊢
            rcases hj with hj | hj
            · exact .inl (I.ems j p hj hp hpe)
            · exact .inr hj
          · have hA : ActOK N ops a0 (lsB l) (upV I.V i s.val) a := ⟨I.act.size, I.act.nod, fun t j hj hbj => by
              have : j ≠ i := by rintro rfl; rw [hbj] at hb; cases hb
              simp only [upV, this, if_false]
              exact I.act.done t j hj hbj, I.act.old⟩
            exact actOK_put hg hA ho s.val (by simp [upV])
          · unfold upB at hjb
            by_cases hji : j = i
            · rw [if_pos hji] at hjb; cases hjb
            · rw [if_neg hji] at hjb
              have hjm : I.m.testBit j = true := by
                rw [testBit_or_pow] at hj
                simpa [Ne.symm hji] using hj
              have ht := told_up (i := i) (v := s.val) (pend' := I.pend) (I.told j hjm hjb) hjm hmi (fun x hx => hx)
              obtain ⟨oj, Ej, mj, t1, t2, t3, t4, t5, t6, t7⟩ := ht
              refine ⟨oj, Ej, mj, t1, t2, t3, t4, t5, t6, ?_⟩
              rcases t7 with ⟨hwj, sj, hqj, hqj2, hqj3, hvj⟩ | t7
              · refine .inl ⟨hwj, sj, ?_, hqj2, hqj3, hvj⟩
                cases hr : readsMem P oj with
                | false => exact hqj2 hr w'
                | true =>
                  have hnb : (B.getD i 0).testBit j = false := by
                    cases hbb : (B.getD i 0).testBit j with
                    | false => rfl
                    | true => rw [hBb j hbb] at hjb; cases hjb
                  obtain ⟨o2, ho2, hq2⟩ := hstab j Ej sj (hqj3 hr) hnb
                  rw [t1] at ho2
                  obtain rfl := Option.some.inj ho2
                  exact hq2
              · exact .inr t7

theorem drawQ_sound (hP : okP P = true) (hl : opa.toList = ops) {L : List Nat} {w : World} (h0 : Agree N E0 a0) {Q : Exit → Act → World → Prop}
    (hQ : ∀ E a w, Agree N E a → K E w → Q .normal a w) (h : drawQ P N ops L E0 w K) {id : Nat} : (Code.region id opa true).wp P Q a0 w := by
  unfold drawQ at h
  split at h
  · rename_i hc
    simp only [Bool.and_eq_true] at hc
    obtain ⟨⟨h1, h2⟩, h3⟩ := hc
    have hg := good_of h1 h2
    have hm : P.follows .mixedOrders = true := by
      simp only [okP, Bool.and_eq_true] at hP
      exact hP.2
    have hsz : opa.size = ops.length := by rw [← hl]; simp
    have hf : ∀ i, lsB (Array.replicate opa.size false) i = false := by
      intro i
      simp only [lsB, Array.getD_eq_getD_getElem?, Array.getElem?_replicate]
      split <;> rfl
    obtain ⟨I⟩ := adv (P := P) (K := K) (E0 := E0) (a0 := a0) hl hg (b := lsB (Array.replicate opa.size false)) (a := a0) (w := { w with drawn := w.drawn + 1 }) (fun j hj => (by rw [hf] at hj; cases hj)) L 0 0 (fun _ => undef) E0 [] h3
      (fun j hj => (by simp at hj)) (fun j hj => (by rw [hf] at hj; cases hj)) (fun j o hj => (by simp at hj)) (fun t x hx => ⟨fun j _ hj => by simp at hj, fun _ => hx⟩)
      ⟨h0.size, h0.nod, fun t j _ hj => (by rw [hf] at hj; cases hj), fun t _ => rfl⟩ (fun j hj => by simp at hj) (h _ rfl rfl rfl rfl)
    refine wp_region_any hm (wpAny_inv hP hl hg h0 hQ opa.size _ a0 _ (by simp [hsz]) ?_ I)
    rw [hsz]
    have : (List.range ops.length).filter (fun i => !lsB (Array.replicate ops.length false) i) = List.range ops.length := by
      refine List.filter_eq_self.2 (fun i _ => ?_)
      have := hf i
      rw [hsz] at this
      rw [this]; rfl
    rw [this, List.length_range]
  · exact h.elim
end draw2

/-! ### Code -/

inductive Ex where
  | nrm
  | exit (n : Nat)
  | ret

abbrev Cont := Ex → Env → World → Prop

/-- Of a function: how many slots its frame has; of each region the slots that are wanted behind it, and, where its order is open, the order to tell it in; of each block the slots that are wanted behind it; the regions ahead of which the telling stops. -/
structure Mt where
  N : Nat
  keep : List (Nat × List Nat)
  ords : List (Nat × List Nat)
  bk : List (Nat × List Nat) := []
  cuts : List (Nat × List Nat) := []
  lk : List (Nat × List Nat) := []

def lookL : List (Nat × List Nat) → Nat → List Nat
  | [], _ => []
  | (k, x) :: l, id => match Nat.beq k id with
    | true => x
    | false => lookL l id

def liftK (N : Nat) (K : Cont) : Exit → Act → World → Prop
  | .normal, a, w => ∃ E, Agree N E a ∧ K .nrm E w
  | .exit n, a, w => ∃ E, Agree N E a ∧ K (.exit n) E w
  | .ret, a, w => ∃ E, Agree N E a ∧ K .ret E w
  | _, _, _ => False

def WP (P : Program) (N : Nat) (c : Code) (E : Env) (w : World) (K : Cont) : Prop := ∀ a, Agree N E a → c.wp P (liftK N K) a w

def seqK (D : Env → World → Prop) (K : Cont) : Cont := fun ex E w => match ex with
  | .nrm => D E w
  | .exit n => K (.exit n) E w
  | .ret => K .ret E w

def blockK (id : Nat) (ks : List Nat) (K : Cont) : Cont := fun ex E w => match ex with
  | .nrm => K .nrm (E.keep ks) w
  | .exit n => match Nat.beq n id with
    | true => K .nrm (E.keep ks) w
    | false => K (.exit n) E w
  | .ret => K .ret E w

def headReg : Code → Option Nat
  | .region id _ _ => some id
  | .seq a _ => headReg a
  | .block _ c => headReg c
  | .loop c => headReg c
  | .scope c => headReg c
  | _ => none

def findL (l : List (Nat × List Nat)) (n : Option Nat) : Option (List Nat) := match n with
  | none => none
  | some n => match l with
    | [] => none
    | (k, x) :: l => match Nat.beq k n with
      | true => some x
      | false => findL l (some n)

/-- The code that is to be told behind a cut, and what it comes to. -/
structure CutC (P : Program) (M : Mt) (c : Code) (E : Env) (w : World) (K : Cont) (p : Prop) : Prop where
  out : p

/-- Where the telling stops, the frame is what is wanted behind. -/
def cutB (ks : Option (List Nat)) (P : Program) (M : Mt) (c : Code) (E : Env) (w : World) (K : Cont) (D : Env → Prop) : Prop := match ks with
  | some ks => CutC P M c (E.keep ks) w K (D (E.keep ks))
  | none => D E

def keepL (l : List (Nat × List Nat)) (n : Option Nat) (E : Env) : Env := match findL l n with
  | some ks => E.keep ks
  | none => E

def condQ (E : Env) (c : Operand) (t f : Prop) : Prop := match evS E c with
  | .b true => t
  | .b false => f
  | .v (.bool x) => (x = true → t) ∧ (x = false → f)
  | _ => False

def den (P : Program) (M : Mt) : Code → Env → World → Cont → Prop
  | .skip, E, w, K => K .nrm E w
  | .region id ops draw, E, w, K => match draw with
    | false => seqR P M.N ops.toList ops.toList E w fun E' w' => K .nrm (E'.keep (lookL M.keep id)) w'
    | true => drawQ P M.N ops.toList (lookL M.ords id) E w fun E' w' => K .nrm (E'.keep (lookL M.keep id)) w'
  | .seq a b, E, w, K => den P M a E w (seqK (fun E w => cutB (findL M.cuts (headReg b)) P M b E w K fun E => den P M b E w K) K)
  | .cond c a b, E, w, K => condQ E c (den P M a E w K) (den P M b E w K)
  | .block id c, E, w, K => den P M c E w (blockK id (lookL M.bk id) K)
  | .exit id, E, w, K => K (.exit id) E w
  | .ret, E, w, K => K .ret E w
  | .loop c, E, w, K => Cut (WP P M.N (.loop c) (keepL M.lk (headReg c) E) w K)
  | .rangeFunc f ps a b, E, w, K => Cut (WP P M.N (.rangeFunc f ps a b) E w K)
  | .scope c, E, w, K => Cut (WP P M.N (.scope c) E w K)
  | .label l, E, w, K => Cut (WP P M.N (.label l) E w K)
  | .goto l, E, w, K => Cut (WP P M.N (.goto l) E w K)
  | .refuse s, E, w, K => Cut (WP P M.N (.refuse s) E w K)

/-- Code behind a cut. -/
def CutD (P : Program) (M : Mt) (c : Code) (E : Env) (w : World) (K : Cont) : Prop := CutC P M c E w K (den P M c E w K)

theorem CutD.mk {P : Program} {M : Mt} {c : Code} {E : Env} {w : World} {K : Cont} (h : den P M c E w K) : CutD P M c E w K := ⟨h⟩

theorem liftK_mono {N : Nat} {K K' : Cont} (h : ∀ ex E w, K ex E w → K' ex E w) : ∀ ex a w, liftK N K ex a w → liftK N K' ex a w := by
  intro ex a w hl
  cases ex with
  | normal => obtain ⟨E, h1, h2⟩ := hl; exact ⟨E, h1, h _ _ _ h2⟩
  | exit n => obtain ⟨E, h1, h2⟩ := hl; exact ⟨E, h1, h _ _ _ h2⟩
  | ret => obtain ⟨E, h1, h2⟩ := hl; exact ⟨E, h1, h _ _ _ h2⟩
  | _ => exact hl.elim

theorem WP.mono {P : Program} {N : Nat} {c : Code} {E : Env} {w : World} {K K' : Cont} (h : WP P N c E w K) (hk : ∀ ex E w, K ex E w → K' ex E w) : WP P N c E w K' :=
  fun a ha => wp_mono (h a ha) (liftK_mono hk)

theorem condQ_elim {E : Env} {c : Operand} {t f : Prop} (h : condQ E c t f) : ∃ b, (evS E c).val? = some (.bool b) ∧ (if b then t else f) := by
  unfold condQ at h
  split at h
  · rename_i he; exact ⟨true, by rw [he]; rfl, h⟩
  · rename_i he; exact ⟨false, by rw [he]; rfl, h⟩
  · rename_i x he
    refine ⟨x, by rw [he]; rfl, ?_⟩
    cases x
    · exact h.2 rfl
    · exact h.1 rfl
  · exact h.elim

theorem den_sound {P : Program} {M : Mt} (hP : okP P = true) : ∀ (c : Code) (E : Env) (w : World) (K : Cont), den P M c E w K → WP P M.N c E w K
  | .skip, E, w, K, h => fun a ha => wp_skip ⟨E, ha, h⟩
  | .region id ops draw, E, w, K, h => fun a ha => by
    cases draw with
    | false =>
      exact wp_region_list (seqR_sound hP rfl (K := fun E' w' => K .nrm (E'.keep (lookL M.keep id)) w') (fun E' a' w' ha' hk => ⟨_, ha'.keep _, hk⟩) _ _ _ _ ha h)
    | true =>
      exact drawQ_sound hP rfl (K := fun E' w' => K .nrm (E'.keep (lookL M.keep id)) w') ha (fun E' a' w' ha' hk => ⟨_, ha'.keep _, hk⟩) h
  | .seq x y, E, w, K, h => fun a ha => by
    refine wp_seq (wp_mono (den_sound hP x E w _ h a ha) (fun ex a' w' hl => ?_))
    cases ex with
    | normal =>
      obtain ⟨E', h1, h2⟩ := hl
      simp only [seqK, cutB] at h2
      split at h2
      · exact den_sound hP y _ w' K h2.out a' (h1.keep _)
      · exact den_sound hP y E' w' K h2 a' h1
    | exit n => exact hl
    | ret => exact hl
    | _ => exact hl.elim
  | .cond c x y, E, w, K, h => fun a ha => by
    obtain ⟨b, hb, h⟩ := condQ_elim h
    refine wp_cond (ha.ev c _ hb) ?_
    cases b with
    | true => exact den_sound hP x E w K h a ha
    | false => exact den_sound hP y E w K h a ha
  | .block id c, E, w, K, h => fun a ha => by
    refine wp_block (wp_mono (den_sound hP c E w _ h a ha) (fun ex a' w' hl => ?_))
    cases ex with
    | normal => obtain ⟨E', h1, h2⟩ := hl; exact ⟨_, h1.keep _, h2⟩
    | exit n =>
      obtain ⟨E', h1, h2⟩ := hl
      simp only [Exit.inBlock]
      simp only [blockK] at h2
      by_cases hn : n = id
      · subst hn
        rw [if_pos rfl]
        rw [Nat.beq_refl] at h2
        exact ⟨_, h1.keep _, h2⟩
      · rw [if_neg hn]
        have hb : Nat.beq n id = false := by
          cases hb : Nat.beq n id with
          | false => rfl
          | true => exact absurd (Nat.eq_of_beq_eq_true hb) hn
        rw [hb] at h2
        exact ⟨E', h1, h2⟩
    | ret => exact hl
    | _ => exact hl.elim
  | .exit id, E, w, K, h => fun a ha => wp_exit ⟨E, ha, h⟩
  | .ret, E, w, K, h => fun a ha => wp_ret ⟨E, ha, h⟩
  | .loop c, E, w, K, h => fun a ha => by
    refine h.out a ?_
    unfold keepL
    split
    · exact ha.keep _
    · exact ha
  | .rangeFunc f ps x y, E, w, K, h => h.out
  | .scope c, E, w, K, h => h.out
  | .label l, E, w, K, h => h.out
  | .goto l, E, w, K, h => h.out
  | .refuse s, E, w, K, h => h.out

/-! ### Loops -/

def CoversL (E : Env) : Env → Prop
  | [] => True
  | (k, s) :: T => (E.get k).val? = s.val? ∧ CoversL E T

theorem CoversL.agree {N : Nat} {E : Env} {a : Act} (ha : Agree N E a) : ∀ {T : Env}, CoversL E T → Agree N T a
  | [], _ => ⟨ha.size, ha.nod, fun t x hx => by simp [Env.get, SV.val?] at hx⟩
  | (k, s) :: T, h => by
    have ih := CoversL.agree ha h.2
    refine ⟨ha.size, ha.nod, fun t x hx => ?_⟩
    simp only [Env.get] at hx
    cases hb : Nat.beq k t with
    | true =>
      rw [hb] at hx
      have := Nat.eq_of_beq_eq_true hb
      subst this
      exact ha.vals _ x (by rw [h.1]; exact hx)
    | false => rw [hb] at hx; exact ih.vals t x hx

theorem exists_min {p : Nat → Prop} (h : ∃ n, p n) : ∃ n, p n ∧ ∀ m, p m → n ≤ m := by
  obtain ⟨n, hn⟩ := h
  induction n using Nat.strongRecOn with
  | _ n ih =>
    by_cases hx : ∃ m, m < n ∧ p m
    · obtain ⟨m, hm, hpm⟩ := hx
      exact ih m hm hpm
    · exact ⟨n, hn, fun m hm => Nat.le_of_not_lt fun hlt => hx ⟨m, hlt, hm⟩⟩

theorem wp_loop_n {P : Program} {c : Code} {Q : Exit → Act → World → Prop} {a : Act} {w : World} (I : Nat → Act → World → Prop) (h₀ : ∃ n, I n a w)
    (round : ∀ n a w, I n a w → c.wp P (Exit.then (fun a' w' => ∃ m, m < n ∧ I m a' w') Q) a w) : (Code.loop c).wp P Q a w := by
  classical
  refine wp_loop (fun a w => ∃ n, I n a w) (fun a w => if h : ∃ n, I n a w then Classical.choose (exists_min h) else 0) h₀ (fun a w h => ?_)
  have hc := Classical.choose_spec (exists_min h)
  refine wp_mono (round _ a w hc.1) (fun ex a' w' he => ?_)
  cases ex with
  | normal =>
    obtain ⟨m, hm, hI⟩ := he
    have hex : ∃ n, I n a' w' := ⟨m, hI⟩
    refine ⟨hex, ?_⟩
    have hc' := Classical.choose_spec (exists_min hex)
    simp only [dif_pos hex, dif_pos h]
    exact Nat.lt_of_le_of_lt (hc'.2 m hI) hm
  | _ => exact he

/-- Behind a round: B; else as behind the loop. -/
def loopK (B : Env → World → Prop) (K : Cont) : Cont := fun ex E w => match ex with
  | .nrm => B E w
  | .exit n => K (.exit n) E w
  | .ret => K .ret E w

theorem WP_loop {P : Program} {M : Mt} (hP : okP P = true) {c : Code} {E : Env} {w : World} {K : Cont} {σ : Type} (tm : σ → Env) (I : σ → World → Prop) (μ : σ → World → Nat) (s0 : σ)
    (hc : CoversL E (tm s0)) (hI : I s0 w) (round : ∀ s w, I s w → den P M c (tm s) w (loopK (fun E' w' => ∃ s', CoversL E' (tm s') ∧ I s' w' ∧ μ s' w' < μ s w) K)) : WP P M.N (.loop c) E w K := by
  intro a ha
  refine wp_loop_n (fun n a w => ∃ s, Agree M.N (tm s) a ∧ I s w ∧ μ s w = n) ⟨_, s0, hc.agree ha, hI, rfl⟩ (fun n a w h => ?_)
  obtain ⟨s, h1, h2, rfl⟩ := h
  refine wp_mono (den_sound hP c _ w _ (round s w h2) a h1) (fun ex a' w' he => ?_)
  cases ex with
  | normal =>
    obtain ⟨E', h3, s', h4, h5, h6⟩ := he
    exact ⟨_, h6, s', h4.agree h3, h5, rfl⟩
  | exit n => exact he
  | ret => exact he
  | _ => exact he.elim

/-! ### A function -/

def argE : Nat → List Value → Env
  | _, [] => []
  | i, v :: vs => (i, .v v) :: argE (i + 1) vs

theorem argE_get : ∀ (vs : List Value) (i t : Nat) (x : Value), ((argE i vs).get t).val? = some x → i ≤ t ∧ vs[t - i]? = some x
  | [], i, t, x, h => by simp [argE, Env.get, SV.val?] at h
  | v :: vs, i, t, x, h => by
    simp only [argE, Env.get] at h
    cases hb : Nat.beq i t with
    | true =>
      rw [hb] at h
      have := Nat.eq_of_beq_eq_true hb
      subst this
      simpa [SV.val?] using h
    | false =>
      rw [hb] at h
      obtain ⟨h1, h2⟩ := argE_get vs (i + 1) t x h
      refine ⟨by omega, ?_⟩
      rw [show t - i = (t - (i + 1)) + 1 by omega]
      simpa using h2

def resQ (P : Program) (w : World) (E : Env) : List ResultVar → (List Value → Prop) → Prop
  | [], F => F []
  | .tmp t :: rs, F => onV (E.get t) fun v => resQ P w E rs fun vs => F (v :: vs)
  | .cell x t :: rs, F => onV (E.get x) fun v => onAd v fun ad => ldQ P w t ad fun v => resQ P w E rs fun vs => F (v :: vs)

def retV : List Value → Value
  | [v] => v
  | vs => .tuple vs.toArray

def retK (P : Program) (rs : List ResultVar) (R : Ending → World → Prop) : Cont := fun ex E w => match ex with
  | .exit _ => False
  | .nrm => resQ P w E rs fun vs => R (.returned (retV vs)) w
  | .ret => resQ P w E rs fun vs => R (.returned (retV vs)) w

def resSem (a : Act) : ResultVar → Sem Value
  | .tmp t => pure (a.tmps.getD t undef)
  | .cell x t => do loadVar t (← asAddr (a.tmps.getD x undef))

theorem results_eq (fn : Func) (a : Act) : results fn a.tmps = (fn.results.mapM (resSem a)) >>= fun vs => pure (if h : vs.size = 1 then vs[0] else .tuple vs) := by
  unfold results
  congr 2

theorem resQ_run {P : Program} {w : World} {E : Env} {N : Nat} {a : Act} (ha : Agree N E a) : ∀ {rs : List ResultVar} {F : List Value → Prop}, resQ P w E rs F →
    ∃ vs, F vs ∧ (rs.mapM (resSem a)).run P w = .ok vs w
  | [], F, h => ⟨[], h, by simp⟩
  | .tmp t :: rs, F, h => by
    obtain ⟨v, h1, _, h⟩ := onV_elim h
    obtain ⟨vs, hF, hr⟩ := resQ_run ha h
    refine ⟨v :: vs, hF, ?_⟩
    have hv : (resSem a (.tmp t)).run P w = .ok v w := by simp [resSem, ha.vals t v h1]
    simp only [List.mapM_cons, Sem.run_bind, Sem.run_pure, Result.andThen_ok, hv, hr]
  | .cell x t :: rs, F, h => by
    obtain ⟨v, h1, _, h⟩ := onV_elim h
    obtain ⟨ad, rfl, h⟩ := onAd_elim h
    obtain ⟨u, hu, h⟩ := ldQ_elim h
    obtain ⟨vs, hF, hr⟩ := resQ_run ha h
    refine ⟨u :: vs, hF, ?_⟩
    have hv : (resSem a (.cell x t)).run P w = .ok u w := by simp [resSem, ha.vals x _ h1, asAddr, hu]
    simp only [List.mapM_cons, Sem.run_bind, Sem.run_pure, Result.andThen_ok, hv, hr]

theorem results_run {P : Program} {w : World} {E : Env} {N : Nat} {a : Act} {fn : Func} (ha : Agree N E a) {R : Ending → World → Prop} (h : resQ P w E fn.results.toList fun vs => R (.returned (retV vs)) w) :
    ∃ v, (results fn a.tmps).run P w = .ok v w ∧ R (.returned v) w := by
  obtain ⟨vs, hF, hr⟩ := resQ_run ha h
  refine ⟨retV vs, ?_, hF⟩
  have hm : (fn.results.mapM (resSem a)).run P w = .ok vs.toArray w := by
    rw [Array.mapM_eq_mapM_toList]
    simp [hr]
  rw [results_eq, Sem.run_bind, hm, Result.andThen_ok]
  match vs with
  | [] => rfl
  | [v] => rfl
  | v :: u :: vs => simp [retV]

theorem calls_den {P : Program} {M : Mt} (hP : okP P = true) {f : FuncId} {fn : Func} {c : Code} (hf : P.funcs[f]? = some fn) (hb : fn.body = some c) (hN : fn.ntmps = M.N) {args : List Value}
    (hA : args.length ≤ M.N) {w : World} {R : Ending → World → Prop} (h : den P M c (argE 0 args) w (retK P fn.results.toList R)) : Calls P f args.toArray w R := by
  refine calls_of_wp hf hb ?_
  have ha : Agree M.N (argE 0 args) { tmps := args.toArray ++ Array.replicate (fn.ntmps - args.toArray.size) undef, defers := [] } := by
    refine ⟨by simp [hN]; omega, rfl, fun t x hx => ?_⟩
    obtain ⟨_, h2⟩ := argE_get args 0 t x hx
    simp only [Nat.sub_zero] at h2
    have hlt : t < args.length := (List.getElem?_eq_some_iff.1 h2).1
    rw [Array.getElem?_append_left (by simpa using hlt)]
    simpa using h2
  refine wp_mono (den_sound hP c _ w _ h _ ha) (fun ex a' w' hl => ?_)
  cases ex with
  | normal =>
    obtain ⟨E, h1, h2⟩ := hl
    obtain ⟨v, hv, hR⟩ := results_run h1 h2
    exact ⟨h1.nod, v, hv, hR⟩
  | ret =>
    obtain ⟨E, h1, h2⟩ := hl
    obtain ⟨v, hv, hR⟩ := results_run h1 h2
    exact ⟨h1.nod, v, hv, hR⟩
  | exit n => obtain ⟨E, _, h2⟩ := hl; exact h2.elim
  | _ => exact hl.elim
/-! ### Places in a code tree -/

def bodyOf (f : Func) : Code := match f.body with | some c => c | none => .skip
def _root_.Go.Code.sl : Code → Code
  | .seq a _ => a
  | .cond _ a _ => a
  | .block _ c => c
  | .loop c => c
  | .scope c => c
  | c => c
def _root_.Go.Code.sr : Code → Code
  | .seq _ b => b
  | .cond _ _ b => b
  | c => c

end Go.Dav
