/- What functions of the program come to, part 1; the texts are made small to keep within a claim. -/
import Derived.Tactics
import Derived.Orders
import Derived.KernelRfl
import Derived.Laws.Cells
import Derived.Laws.CopyRow
import Derived.Laws.Sem
import Derived.Laws.World
import Derived.Laws.NewBlocks
import Derived.Laws.Small
import Derived.Laws.Pointers
import Derived.Scope
import Derived.Laws.Cover3
import Derived.Test.YtobclpijhmkniaaGreatDoorProg
set_option linter.unusedVariables false
set_option linter.unusedSimpArgs false
set_option linter.unusedSectionVars false
namespace Go.Dav
inductive SV where
 | un
 | v (x:Value)
 | b (x:Bool)
def SV.val?:SV->Option Value
 | .un=>none
 | .v x=>some x
 | .b x=>some (.bool x)
def SV.val:SV->Value
 | .un=>undef
 | .v x=>x
 | .b x=>.bool x
abbrev Env:=List (Nat×SV)
def Env.get:Env->Nat->SV
 | [],_=>.un
 | (k,x)::E,t=>match Nat.beq k t with
  | true=>x
  | false=>Env.get E t
def Env.put:Env->Nat->SV->Env
 | [],t,x=>[(t,x)]
 | (k,y)::E,t,x=>match Nat.beq k t with
  | true=>(k,x)::E
  | false=>(k,y)::Env.put E t x
def Env.keep (E:Env):List Nat->Env
 | []=>[]
 | k::ks=>(k,E.get k)::Env.keep E ks
theorem Env.get_put (E:Env) (t:Nat) (x:SV) (s:Nat):(E.put t x).get s=if s=t then x else E.get s:=by
 induction E with
 | nil=>
  simp only[Env.put,Env.get]
  cases h:Nat.beq t s with
  | true=>simp[(Nat.eq_of_beq_eq_true h).symm]
  | false=>rw[if_neg (fun e=>by rw[e,Nat.beq_refl]at h;cases h)]
 | cons p E ih=>
  obtain⟨k,y⟩:=p
  simp only[Env.put]
  cases h:Nat.beq k t with
  | true=>
   have hk:=Nat.eq_of_beq_eq_true h
   subst hk
   simp only[Env.get]
   cases h2:Nat.beq k s with
   | true=>simp[(Nat.eq_of_beq_eq_true h2).symm]
   | false=>rw[if_neg (fun e=>by rw[e,Nat.beq_refl]at h2;cases h2)]
  | false=>
   simp only[Env.get]
   cases h2:Nat.beq k s with
   | true=>
    have hk:=Nat.eq_of_beq_eq_true h2
    subst hk
    rw[if_neg (fun e=>by rw[e,Nat.beq_refl]at h;cases h)]
   | false=>simpa using ih
theorem Env.get_keep (E:Env) (ks:List Nat) (t:Nat) (x:Value) (h:((E.keep ks).get t).val?=some x):(E.get t).val?=some x:=by
 induction ks with
 | nil=>simp[Env.keep,Env.get,SV.val?]at h
 | cons k ks ih=>
  simp only[Env.keep,Env.get]at h
  cases h2:Nat.beq k t with
  | true=>rw[h2]at h;rw[<-Nat.eq_of_beq_eq_true h2];exact h
  | false=>rw[h2]at h;exact ih h
def evS (E:Env):Operand->SV
 | .tmp t=>E.get t
 | .const (.bool b)=>.b b
 | .const v=>.v v
 | .global g=>.v (.pointer (some ⟨g,0,none⟩))
 | .func f=>.v (.func (.func f) #[] #[])
structure Agree (N:Nat) (E:Env) (a:Act):Prop where
 size:a.tmps.size=N
 nod:a.defers=[]
 vals:∀t x,(E.get t).val?=some x->a.tmps[t]?=some x
def Reads (E:Env) (o:Oper) (a:Act):Prop:=∀x∈o.op.operands,∀v,(evS E x).val?=some v->a.eval x=v
theorem Agree.ev {N:Nat} {E:Env} {a:Act} (h:Agree N E a) (x:Operand) (v:Value) (hv:(evS E x).val?=some v):a.eval x=v:=by
 cases x with
 | tmp t=>
  have:=h.vals t v hv
  simp[Act.eval,Array.getD_eq_getD_getElem?,this]
 | const c=>cases c<;>simp_all [evS,SV.val?,Act.eval]
 | global g=>simpa [evS,SV.val?,Act.eval]using hv
 | func f=>simpa [evS,SV.val?,Act.eval]using hv
theorem Agree.reads {N:Nat} {E:Env} {a:Act} (h:Agree N E a) (o:Oper):Reads E o a:=fun x _ v hv=>h.ev x v hv
theorem Agree.keep {N:Nat} {E:Env} {a:Act} (h:Agree N E a) (ks:List Nat):Agree N (E.keep ks) a:=
 ⟨h.size,h.nod,fun t x hx=>h.vals t x (Env.get_keep E ks t x hx)⟩
theorem Agree.put {N:Nat} {E:Env} {a:Act} (h:Agree N E a) (d:Nat) (hd:d<N) (s:SV):Agree N (E.put d s) (a.put (some d) s.val):=by
 refine⟨by simpa [Act.put]using h.size,h.nod,fun t x hx=>?_⟩
 rw[Env.get_put]at hx
 by_cases ht:t=d
 ·subst ht
  rw[if_pos rfl]at hx
  have hv:s.val=x:=by cases s<;>simp_all [SV.val?,SV.val]
  simp only[Act.put,Array.getElem?_setIfInBounds,h.size]
  simp[hd,hv]
 ·rw[if_neg ht]at hx
  simp only[Act.put]
  rw[Array.getElem?_setIfInBounds_ne (fun e=>ht e.symm)]
  exact h.vals t x hx
theorem Agree.setb {N:Nat} {E:Env} {a:Act} (h:Agree N E a) (t:Nat) (b:Bool) (hv:(E.get t).val?=some (.bool b)):Agree N (E.put t (.b b)) a:=by
 refine⟨h.size,h.nod,fun s x hx=>?_⟩
 rw[Env.get_put]at hx
 by_cases hs:s=t
 ·subst hs
  rw[if_pos rfl]at hx
  simp only[SV.val?,Option.some.injEq]at hx
  subst hx
  exact h.vals s _ hv
 ·rw[if_neg hs]at hx
  exact h.vals s x hx
def onV (s:SV) (F:Value->Prop):Prop:=match s with
 | .un=>False
 | .v x=>F x
 | .b x=>F (.bool x)
def onAd (x:Value) (F:Addr->Prop):Prop:=match x with
 | .pointer (some a)=>F a
 | _=>False
def onInt (x:Value) (F:IntKind->Int->Prop):Prop:=match x with
 | .int k n=>F k n
 | _=>False
theorem onV_elim {s:SV} {F:Value->Prop} (h:onV s F):∃v,s.val?=some v/\s.val=v/\F v:=by
 cases s with
 | un=>exact h.elim
 | v x=>exact⟨x,rfl,rfl,h⟩
 | b x=>exact⟨_,rfl,rfl,h⟩
inductive Ty where
 | int (k:IntKind)
 | bool|ptr|sl|map|str
 | agg (l:List Ty)
 | tup (l:List Ty)
 | any
def tyScal:Value->Ty
 | .int k _=>.int k
 | .bool _=>.bool
 | .pointer _=>.ptr
 | .slice _ _ _=>.sl
 | .map _=>.map
 | .string _=>.str
 | _=>.any
def tyElem:Value->Ty
 | .agg cs=>.agg (cs.toList.map tyScal)
 | v=>tyScal v
def tyOf:Value->Ty
 | .tuple vs=>.tup (vs.toList.map tyElem)
 | v=>tyElem v
def exScal:Ty->(Value->Prop)->Prop
 | .int k,F=>∃n:Int,F (.int k n)
 | .bool,F=>∃b:Bool,F (.bool b)
 | .ptr,F=>∃p:Option Addr,F (.pointer p)
 | .sl,F=>∃(p:Option Addr) (n c:Nat),F (.slice p n c)
 | .map,F=>∃r:Option Nat,F (.map r)
 | .str,F=>∃s:ByteArray,F (.string s)
 | _,F=>∃v:Value,F v
def exList:List Ty->(List Value->Prop)->Prop
 | [],F=>F []
 | t::ts,F=>exScal t fun v=>exList ts fun vs=>F (v::vs)
def exElem:Ty->(Value->Prop)->Prop
 | .agg ts,F=>match Nat.ble ts.length 15 with
  | true=>exList ts fun vs=>F (.agg vs.toArray)
  | false=>∃cs:List Value,cs.length=ts.length/\F (.agg cs.toArray)
 | t,F=>exScal t F
def exElems:List Ty->(List Value->Prop)->Prop
 | [],F=>F []
 | t::ts,F=>exElem t fun v=>exElems ts fun vs=>F (v::vs)
def exTy:Ty->(Value->Prop)->Prop
 | .tup ts,F=>exElems ts fun vs=>F (.tuple vs.toArray)
 | t,F=>exElem t F
theorem exScal_elim {t:Ty} {F:Value->Prop} (h:exScal t F):∃v,F v:=by
 cases t<;>simp only[exScal]at h
 case sl=>obtain⟨p,n,c,h⟩:=h;exact⟨_,h⟩
 all_goals (obtain⟨n,h⟩:=h;exact⟨_,h⟩)
theorem exList_elim:∀{ts:List Ty} {F:List Value->Prop},exList ts F->∃vs,vs.length=ts.length/\F vs
 | [],_,h=>⟨[],rfl,h⟩
 | _::_,_,h=>by
  obtain⟨v,h⟩:=exScal_elim h
  obtain⟨vs,hl,h⟩:=exList_elim h
  exact⟨v::vs,by simp[hl],h⟩
theorem exElem_elim {t:Ty} {F:Value->Prop} (h:exElem t F):∃v,F v:=by
 unfold exElem at h
 split at h
 ·split at h
  ·obtain⟨vs,_,h⟩:=exList_elim h;exact⟨_,h⟩
  ·obtain⟨cs,_,h⟩:=h;exact⟨_,h⟩
 ·exact exScal_elim h
theorem exElems_elim:∀{ts:List Ty} {F:List Value->Prop},exElems ts F->∃vs,F vs
 | [],_,h=>⟨[],h⟩
 | _::_,_,h=>by
  obtain⟨v,h⟩:=exElem_elim h
  obtain⟨vs,h⟩:=exElems_elim h
  exact⟨v::vs,h⟩
theorem exTy_elim {t:Ty} {F:Value->Prop} (h:exTy t F):∃v,F v:=by
 unfold exTy at h
 split at h
 ·obtain⟨vs,h⟩:=exElems_elim h;exact⟨_,h⟩
 ·exact exElem_elim h
def zv (P:Program) (t:TypeId):Value:=((P.info? t).bind (·.zero)).getD undef
def zc (P:Program) (t:TypeId):List Value:=(zv P t).cells.toList
def tyT (P:Program) (t:TypeId):Ty:=tyOf (zv P t)
def szT (P:Program) (t:TypeId):Nat:=P.cellsOf t
def aggT (P:Program) (t:TypeId):Bool:=match P.underlying t with
 | some (.struct _)|some (.array _ _)=>true
 | _=>false
def okT (P:Program) (t:TypeId):Bool:=(P.info? t).isSome&&(P.underlying t).isSome
def okZ (P:Program) (t:TypeId):Bool:=((P.info? t).bind (·.zero)).isSome
section runs
variable {P:Program} {w:World}
theorem run_underlying_ok {t:TypeId} {d:TypeDesc} (h:P.underlying t=some d):(underlying t).run P w=.ok d w:=by
 simp[underlying,h]
theorem run_sizeOf_ok {t:TypeId} (h:okT P t=true):(sizeOf t).run P w=.ok (szT P t) w:=by
 simp only[okT,Bool.and_eq_true]at h
 obtain⟨i,hi⟩:=Option.isSome_iff_exists.1 h.1
 simp[sizeOf,typeInfo,hi,szT,Program.cellsOf]
theorem run_isAgg_ok {t:TypeId} (h:okT P t=true):(isAgg t).run P w=.ok (aggT P t) w:=by
 simp only[okT,Bool.and_eq_true]at h
 obtain⟨d,hd⟩:=Option.isSome_iff_exists.1 h.2
 simp only[isAgg,aggT,hd,Sem.run_bind,run_underlying_ok hd,Result.andThen_ok]
 cases d<;>rfl
theorem run_zeroValue_ok {t:TypeId} (h:okZ P t=true):(zeroValue t).run P w=.ok (zv P t) w:=by
 simp only[okZ]at h
 obtain⟨z,hz⟩:=Option.isSome_iff_exists.1 h
 obtain⟨i,hi,hz2⟩:=Option.bind_eq_some_iff.1 hz
 simp[zeroValue,typeInfo,hi,hz2,zv]
end runs
def mvQ (s:SV) (K:SV->Prop):Prop:=match s with
 | .un=>False
 | .v x=>K (.v x)
 | .b x=>K (.b x)
def pickQ (c x y:SV) (K:SV->Prop):Prop:=match c with
 | .b true=>mvQ x K
 | .b false=>mvQ y K
 | .v (.bool c)=>onV x fun x=>onV y fun y=>K (.v (match c with|true=>x|false=>y))
 | _=>False
def nilQ (x:Value) (K:SV->Prop):Prop:=match x with
 | .pointer p=>∃a,p=some a/\K (.v (.pointer (some a)))
 | .func (.func f) a b=>K (.v (.func (.func f) a b))
 | _=>False
def bitsOp (op:BinOp) (k:IntKind) (a b:Int):Int:=
 let x:=BitVec.ofInt k.bits a
 let y:=BitVec.ofInt k.bits b
 match op with
 | .and=>k.wrap (x&&& y).toNat
 | .or=>k.wrap (x||| y).toNat
 | .xor=>k.wrap (x ^^^ y).toNat
 | _=>k.wrap (x&&& ~~~y).toNat
def shlOp (k:IntKind) (a b:Int):Int:=k.wrap (a*2 ^ (min b.toNat k.bits))
def shrOp (k:IntKind) (a b:Int):Int:=a.fdiv (2 ^ (min b.toNat k.bits))
def intQ (op:BinOp) (k k':IntKind) (a b:Int) (K:SV->Prop):Prop:=
 match op with
 | .shl=>0<=b/\K (.v (.int k (shlOp k a b)))
 | .shr=>0<=b/\K (.v (.int k (shrOp k a b)))
 | op=>match decide (k=k')with
  | false=>False
  | true=>match op with
   | .add=>K (.v (.int k (k.wrap (a+b))))
   | .sub=>K (.v (.int k (k.wrap (a-b))))
   | .mul=>K (.v (.int k (k.wrap (a*b))))
   | .quo=>b≠0/\K (.v (.int k (k.wrap (a.tdiv b))))
   | .rem=>b≠0/\K (.v (.int k (a.tmod b)))
   | .and=>K (.v (.int k (bitsOp .and k a b)))
   | .or=>K (.v (.int k (bitsOp .or k a b)))
   | .xor=>K (.v (.int k (bitsOp .xor k a b)))
   | .andNot=>K (.v (.int k (bitsOp .andNot k a b)))
   | .eql=>K (.v (.bool (a==b)))
   | .neq=>K (.v (.bool (a !=b)))
   | .lss=>K (.v (.bool (decide (a<b))))
   | .leq=>K (.v (.bool (decide (a<=b))))
   | .gtr=>K (.v (.bool (decide (a>b))))
   | .geq=>K (.v (.bool (decide (a>=b))))
   | _=>False
def eqB (op:BinOp) (b:Bool) (K:SV->Prop):Prop:=match op with
 | .eql=>K (.v (.bool b))
 | .neq=>K (.v (.bool (!b)))
 | _=>False
def binQ (P:Program) (w:World) (op:BinOp) (t:TypeId) (x y:Value) (K:SV->Prop):Prop:=
 match x with
 | .int k a=>match y with
  | .int k' b=>intQ op k k' a b K
  | _=>False
 | .bool a=>match y with
  | .bool b=>match P.underlying t with
   | some .bool=>eqB op (a==b) K
   | _=>False
  | _=>False
 | .pointer p=>match y with
  | .pointer none=>match P.underlying t with
   | some (.pointer _)=>eqB op p.isNone K
   | _=>False
  | _=>False
 | .slice p _ _=>match y with
  | .slice none 0 0=>match P.underlying t with
   | some (.slice _)=>eqB op p.isNone K
   | _=>False
  | _=>False
 | .map r=>match y with
  | .map none=>match P.underlying t with
   | some (.map _ _)=>eqB op r.isNone K
   | _=>False
  | _=>False
 | .agg xs=>match y with
  | .agg ys=>match aggT P t with
   | true=>∃b:Bool,(Op.equal t (.agg xs) (.agg ys)).run P w=.ok b w/\P.eqGuardType P.depth t=false/\eqB op b K
   | false=>False
  | _=>False
 | _=>False
def unQ (op:UnOp) (s:SV) (K:SV->Prop):Prop:=match op with
 | .not=>match s with
  | .b x=>K (.b (!x))
  | .v (.bool x)=>K (.v (.bool (!x)))
  | _=>False
 | .neg=>onV s fun v=>onInt v fun k n=>K (.v (.int k (k.wrap (0-n))))
 | .xor=>onV s fun v=>onInt v fun k n=>K (.v (.int k (bitsOp .xor k (match k.signed with|true=>-1|false=>k.max) n)))
 | _=>False
def cvQ (P:Program) (src dst:TypeId) (x:Value) (K:SV->Prop):Prop:=
 match P.underlying src,P.underlying dst with
 | some _,some (.int k)=>onInt x fun _ n=>K (.v (.int k (k.wrap n)))
 | _,_=>False
def ldList (w:World) (ad:Addr):Nat->List Ty->(List Value->Prop)->Prop
 | _,[],F=>F []
 | i,t::ts,F=>exScal t fun v=>w.cell? (ad.add i)=some v/\ldList w ad (i+1) ts fun vs=>F (v::vs)
def CellsAt (w:World) (ad:Addr) (cs:List Value):Prop:=∀j v,cs[j]?=some v->w.cell? (ad.add j)=some v
def ldQ (P:Program) (w:World) (t:TypeId) (ad:Addr) (F:Value->Prop):Prop:=
 match okT P t with
 | false=>False
 | true=>match aggT P t with
  | false=>exScal (tyScal (zv P t)) fun v=>w.cell? ad=some v/\F v
  | true=>match Nat.beq (zc P t).length (szT P t)with
   | false=>False
   | true=>match Nat.ble (szT P t) 15 with
    | true=>ldList w ad 0 ((zc P t).map tyScal) fun vs=>F (.agg vs.toArray)
    | false=>∃cs:List Value,cs.length=szT P t/\CellsAt w ad cs/\F (.agg cs.toArray)
def faQ (P:Program) (s:TypeId) (ad:Addr) (f:Nat) (K:SV->Prop):Prop:=
 match P.underlying s with
 | some (.struct fs)=>match fs.toList[f]? with
  | some fd=>match okT P fd.type with
   | true=>match Nat.beq (szT P fd.type) 0 with
    | false=>K (.v (.pointer (some (ad.add fd.offset))))
    | true=>False
   | false=>False
  | none=>False
 | _=>False
def partQ (P:Program) (t:TypeId) (cs:List Value) (off:Nat) (F:Value->Prop):Prop:=
 match okT P t with
 | false=>False
 | true=>match aggT P t with
  | true=>F (.agg ((cs.drop off).take (szT P t)).toArray)
  | false=>match cs[off]? with
   | some v=>F v
   | none=>False
def flQ (P:Program) (s:TypeId) (x:Value) (f:Nat) (K:SV->Prop):Prop:=
 match P.underlying s with
 | some (.struct fs)=>match fs.toList[f]? with
  | some fd=>match x with
   | .agg cs=>partQ P fd.type cs.toList fd.offset fun v=>K (.v v)
   | _=>False
  | none=>False
 | _=>False
def iaQ (P:Program) (t:TypeId) (x ix:Value) (K:SV->Prop):Prop:=
 onInt ix fun _ i=>match P.underlying t with
 | some (.slice e)=>match okT P e with
  | false=>False
  | true=>match x with
   | .slice base len _=>(0<=i/\i<(len:Int))/\∃a,base=some a/\K (.v (.pointer (some (a.add (i.toNat*szT P e)))))
   | _=>False
 | some (.array len e)=>match okT P e with
  | false=>False
  | true=>onAd x fun a=>(0<=i/\i<(len:Int))/\K (.v (.pointer (some (a.add (i.toNat*szT P e)))))
 | _=>False
def ixQ (P:Program) (t:TypeId) (x ix:Value) (K:SV->Prop):Prop:=
 onInt ix fun _ i=>match P.underlying t with
 | some (.array len e)=>match okT P e with
  | false=>False
  | true=>match x with
   | .agg cs=>(0<=i/\i<(len:Int))/\match aggT P e with
    | false=>exScal (tyScal (zv P e)) fun v=>cs.toList[i.toNat*szT P e]?=some v/\K (.v v)
    | true=>exList ((zc P e).map tyScal) fun vs=>(cs.toList.drop (i.toNat*szT P e)).take (szT P e)=vs/\K (.v (.agg vs.toArray))
   | _=>False
 | some .string=>match x with
  | .string s=>(0<=i/\i<(s.size:Int))/\∃c:Int,(∃u:UInt8,s[i.toNat]?=some u/\(u.toNat:Int)=c)/\K (.v (.int .u8 c))
  | _=>False
 | _=>False
def exQ (x:Value) (i:Nat) (K:SV->Prop):Prop:=match x with
 | .tuple vs=>match vs.toList[i]? with
  | some v=>K (.v v)
  | none=>False
 | _=>False
def lenQ (P:Program) (w:World) (t:TypeId) (x:Value) (K:SV->Prop):Prop:=
 match P.underlying t with
 | some (.slice _)=>match x with
  | .slice _ n _=>K (.v (.int .i64 (n:Int)))
  | _=>False
 | some .string=>match x with
  | .string s=>K (.v (.int .i64 (s.size:Int)))
  | _=>False
 | some (.array n _)=>K (.v (.int .i64 (n:Int)))
 | some (.map _ _)=>match x with
  | .map r=>∃n:Nat,(∀ty,(Builtin.len_ #[t] ty #[.map r]).run P w=.ok (.int .i64 (n:Int)) w)/\K (.v (.int .i64 (n:Int)))
  | _=>False
 | _=>False
def argsQ (E:Env):List Operand->(List Value->Prop)->Prop
 | [],F=>F []
 | x::xs,F=>onV (evS E x) fun v=>argsQ E xs fun vs=>F (v::vs)
def partsQ (E:Env):List (Nat×Operand)->(List (Nat×Value)->Prop)->Prop
 | [],F=>F []
 | (i,x)::xs,F=>onV (evS E x) fun v=>partsQ E xs fun vs=>F ((i,v)::vs)
def setL (cells:List Value) (off:Nat) (vs:List Value):List Value:=cells.take off++vs++cells.drop (off+vs.length)
def fillL (place:Nat->Option (Nat×Nat)) (cells:List Value):List (Nat×Value)->Option (List Value)
 | []=>some cells
 | (i,v)::rest=>match place i with
  | none=>none
  | some (off,size)=>match Nat.beq v.cells.toList.length size&&Nat.ble (off+size) cells.length with
   | true=>fillL place (setL cells off v.cells.toList) rest
   | false=>none
def bdQ (P:Program) (t:TypeId) (ps:List (Nat×Value)) (K:SV->Prop):Prop:=
 match okZ P t with
 | false=>False
 | true=>match P.underlying t with
  | some (.struct fs)=>match fs.toList.all fun f=>okT P f.type with
   | false=>False
   | true=>match fillL (fun i=>(fs.toList[i]?).map fun f=>(f.offset,szT P f.type)) (zc P t) ps with
    | some cs=>K (.v (.agg cs.toArray))
    | none=>False
  | some (.array _ e)=>match okT P e with
   | false=>False
   | true=>match fillL (fun i=>some (i*szT P e,szT P e)) (zc P t) ps with
    | some cs=>K (.v (.agg cs.toArray))
    | none=>False
  | _=>False
def bndQ (E:Env) (x:Option Operand) (dflt:Nat) (top:Nat) (F:Nat->Prop):Prop:=match x with
 | none=>F dflt
 | some o=>onV (evS E o) fun v=>onInt v fun _ i=>(0<=i/\i<=(top:Int))/\F i.toNat
def subA (a:Option Addr) (m l sz:Nat):Option Addr:=if m=l then a else a.map (·.add (l*sz))
def slQ (P:Program) (E:Env) (t:TypeId) (x:Value) (lo hi mx:Option Operand) (K:SV->Prop):Prop:=
 match P.underlying t with
 | some (.slice e)=>match okT P e with
  | false=>False
  | true=>match x with
   | .slice a len cap=>match mx,hi with
    | some _,none=>False
    | _,_=>bndQ E mx cap cap fun m=>bndQ E hi len m fun h=>bndQ E lo 0 h fun l=>K (.v (.slice (subA a m l (szT P e)) (h-l) (m-l)))
   | _=>False
 | some (.array n e)=>match okT P e with
  | false=>False
  | true=>onAd x fun a=>match mx,hi with
    | some _,none=>False
    | _,_=>bndQ E mx n n fun m=>bndQ E hi n m fun h=>bndQ E lo 0 h fun l=>K (.v (.slice (subA (some a) m l (szT P e)) (h-l) (m-l)))
 | _=>False
def opQ (P:Program) (o:Oper) (E:Env) (w:World) (K:SV->Prop):Prop:=
 match o.op with
 | .move x=>mvQ (evS E x) K
 | .assign x=>mvQ (evS E x) K
 | .pick c x y=>pickQ (evS E c) (evS E x) (evS E y) K
 | .nilCheck x=>onV (evS E x) fun v=>nilQ v K
 | .binOp op t x y _=>onV (evS E x) fun x=>onV (evS E y) fun y=>binQ P w op t x y K
 | .unOp op _ x=>unQ op (evS E x) K
 | .convert s d x=>onV (evS E x) fun v=>cvQ P s d v K
 | .load t a=>onV (evS E a) fun v=>onAd v fun ad=>ldQ P w t ad fun v=>K (.v v)
 | .fieldAddr s x f=>onV (evS E x) fun v=>onAd v fun ad=>faQ P s ad f K
 | .field s x f=>onV (evS E x) fun v=>flQ P s v f K
 | .indexAddr t x i=>onV (evS E x) fun x=>onV (evS E i) fun i=>iaQ P t x i K
 | .index t x i=>onV (evS E x) fun x=>onV (evS E i) fun i=>ixQ P t x i K
 | .extract x i=>onV (evS E x) fun x=>exQ x i K
 | .build t ps=>partsQ E ps.toList fun ps=>bdQ P t ps K
 | .slice t x lo hi mx=>onV (evS E x) fun x=>slQ P E t x lo hi mx K
 | .makeFunc fn first cap=>argsQ E first.toList fun fs=>argsQ E cap.toList fun cs=>K (.v (.func fn fs.toArray cs.toArray))
 | .lookup t x i ok=>onV (evS E x) fun x=>onV (evS E i) fun i=>exTy (tyT P o.type) fun v=>(Instr.lookup t x i ok).run P w=.ok v w/\K (.v v)
 | .call c=>match c.callee with
  | .builtin .len=>match c.args.toList with
   | [x]=>match c.argTypes.toList with
    | [t]=>onV (evS E x) fun x=>lenQ P w t x K
    | _=>False
   | _=>False
  | _=>False
 | _=>False
def Quiet (P:Program) (o:Oper) (E:Env) (w:World) (s:SV):Prop:=
 ∀a,Reads E o a->(execOp a.eval o).run P w=.ok (.value s.val) w
theorem onInt_elim {x:Value} {F:IntKind->Int->Prop} (h:onInt x F):∃k n,x=.int k n/\F k n:=by
 cases x<;>first|exact⟨_,_,rfl,h⟩|exact h.elim
theorem onAd_elim {x:Value} {F:Addr->Prop} (h:onAd x F):∃a,x=.pointer (some a)/\F a:=by
 cases x with
 | pointer p=>cases p with
  | some a=>exact⟨a,rfl,h⟩
  | none=>exact h.elim
 | _=>exact h.elim
theorem mvQ_elim {s:SV} {K:SV->Prop} (h:mvQ s K):∃v,s.val?=some v/\s.val=v/\K s:=by
 cases s with
 | un=>exact h.elim
 | v x=>exact⟨x,rfl,rfl,h⟩
 | b x=>exact⟨_,rfl,rfl,h⟩
theorem ldList_elim {w:World} {ad:Addr}:∀{ts:List Ty} {i:Nat} {F:List Value->Prop},ldList w ad i ts F->
  ∃vs:List Value,vs.length=ts.length/\(∀j v,vs[j]?=some v->w.cell? (ad.add (i+j))=some v)/\F vs
 | [],_,_,h=>⟨[],rfl,fun j v hv=>by simp at hv,h⟩
 | t::ts,i,F,h=>by
  obtain⟨v,hc,h⟩:=exScal_elim h
  obtain⟨vs,hl,hcs,h⟩:=ldList_elim h
  refine⟨v::vs,by simp[hl],fun j u hu=>?_,h⟩
  cases j with
  | zero=>simp at hu;subst hu;exact hc
  | succ j=>rw[show i+(j+1)=i+1+j by omega];exact hcs j u (by simpa using hu)
theorem ldQ_elim {P:Program} {w:World} {t:TypeId} {ad:Addr} {F:Value->Prop} (h:ldQ P w t ad F) :
  ∃v,(loadVar t ad).run P w=.ok v w/\F v:=by
 unfold ldQ at h
 cases ho:okT P t with
 | false=>rw[ho]at h;exact h.elim
 | true=>
  rw[ho]at h
  simp only at h
  cases hg:aggT P t with
  | false=>
   rw[hg]at h
   obtain⟨v,hc,hF⟩:=exScal_elim h
   exact⟨v,by simp[loadVar,run_isAgg_ok ho,hg,hc],hF⟩
  | true=>
   rw[hg]at h
   simp only at h
   have key:∀cs:List Value,cs.length=szT P t->(∀j v,cs[j]?=some v->w.cell? (ad.add j)=some v)->(loadVar t ad).run P w=.ok (.agg cs.toArray) w:=by
    intro cs hl hc
    have:=run_loadCells_list (P:=P) w ad cs hc
    simp[loadVar,run_isAgg_ok ho,hg,run_sizeOf_ok ho,<-hl,this]
   cases hz:Nat.beq (zc P t).length (szT P t)with
   | false=>rw[hz]at h;exact h.elim
   | true=>
    rw[hz]at h
    simp only at h
    cases hb:Nat.ble (szT P t) 15 with
    | true=>
     rw[hb]at h
     obtain⟨vs,hl,hc,hF⟩:=ldList_elim h
     refine⟨_,key vs ?_ (fun j v hv=>by simpa using hc j v hv),hF⟩
     rw[hl,List.length_map]
     exact Nat.eq_of_beq_eq_true hz
    | false=>
     rw[hb]at h
     obtain⟨cs,hl,hc,hF⟩:=h
     exact⟨_,key cs hl hc,hF⟩
section
variable {P:Program} {w:World}
theorem run_part_agg {t:TypeId} {cs:Array Value} {off:Nat} (ho:okT P t=true) (hg:aggT P t=true) :
  (part t cs off).run P w=.ok (.agg ((cs.toList.drop off).take (szT P t)).toArray) w:=by
 have e:cs.extract off (off+szT P t)=((cs.toList.drop off).take (szT P t)).toArray:=by
  apply Array.ext'
  simp[Array.toList_extract,List.extract_eq_take_drop]
 simp[part,run_isAgg_ok ho,hg,run_sizeOf_ok ho,e]
theorem run_part_scal {t:TypeId} {cs:Array Value} {off:Nat} {v:Value} (ho:okT P t=true) (hg:aggT P t=false) (hv:cs.toList[off]?=some v) :
  (part t cs off).run P w=.ok v w:=by
 have hv':cs[off]?=some v:=by simpa using hv
 simp[part,run_isAgg_ok ho,hg,hv']
theorem partQ_elim {t:TypeId} {cs:Array Value} {off:Nat} {F:Value->Prop} (h:partQ P t cs.toList off F) :
  ∃v,(∀w,(part t cs off).run P w=.ok v w)/\F v:=by
 unfold partQ at h
 cases ho:okT P t with
 | false=>rw[ho]at h;exact h.elim
 | true=>
  rw[ho]at h
  simp only at h
  cases hg:aggT P t with
  | true=>rw[hg]at h;exact⟨_,fun _=>run_part_agg ho hg,h⟩
  | false=>
   rw[hg]at h
   simp only at h
   cases hv:cs.toList[off]? with
   | none=>rw[hv]at h;exact h.elim
   | some v=>rw[hv]at h;exact⟨v,fun _=>run_part_scal ho hg hv,h⟩
theorem intQ_elim {t:TypeId} {op:BinOp} {k k':IntKind} {a b:Int} {K:SV->Prop} (h:intQ op k k' a b K) :
  ∃v,(∀w,(binOp op t (.int k a) (.int k' b)).run P w=.ok v w)/\K (.v v):=by
 unfold intQ at h
 split at h
 ·obtain⟨hb,h⟩:=h
  exact⟨_,fun w=>by simp[binOp,Op.shift,shlOp,show ¬b<0 by omega],h⟩
 ·obtain⟨hb,h⟩:=h
  exact⟨_,fun w=>by simp[binOp,Op.shift,shrOp,show ¬b<0 by omega],h⟩
 ·rename_i op' h1 h2
  by_cases hk:k=k'
  ·subst hk
   simp only[decide_true]at h
   split at h
   case h_4=>obtain⟨hb,h⟩:=h;exact⟨_,fun w=>by simp[binOp,Op.intDiv,hb],h⟩
   case h_5=>obtain⟨hb,h⟩:=h;exact⟨_,fun w=>by simp[binOp,Op.intDiv,hb],h⟩
   case h_16=>exact h.elim
   all_goals exact⟨_,fun w=>by simp[binOp,Op.intArith,Op.intBits,Op.intCmp,bitsOp],h⟩
  ·simp[hk]at h
theorem eqB_elim {op:BinOp} {b:Bool} {K:SV->Prop} (h:eqB op b K):(op=.eql/\K (.v (.bool b)))∨(op=.neq/\K (.v (.bool (!b)))):=by
 unfold eqB at h
 split at h
 ·exact .inl ⟨rfl,h⟩
 ·exact .inr ⟨rfl,h⟩
 ·exact h.elim
theorem run_eqGuard_plain {op:BinOp} {t:TypeId} {x y:Operand} {a b:Value} (h:∀xs ys,¬(a=.agg xs/\b=.agg ys)) (h2:a≠.nilIface) :
  (eqGuard op t x y a b).run P w=.ok () w:=by
 unfold eqGuard
 cases op<;>first
  | rfl
  | (cases a<;>first
    | rfl
    | exact absurd rfl h2
    | (cases b<;>first
      | exact absurd ⟨rfl,rfl⟩ (h _ _)
      | rfl))
def BinRuns (P:Program) (op:BinOp) (t:TypeId) (ox oy:Operand) (x y v:Value) (w:World):Prop:=
 (eqGuard op t ox oy x y).run P w=.ok () w/\(binOp op t x y).run P w=.ok v w
theorem binQ_elim {op:BinOp} {t:TypeId} {x y:Value} {ox oy:Operand} {K:SV->Prop} (h:binQ P w op t x y K) :
  ∃v,BinRuns P op t ox oy x y v w/\(aggT P t=false->∀w',BinRuns P op t ox oy x y v w')/\K (.v v):=by
 have both:∀{v:Value},(∀w',BinRuns P op t ox oy x y v w')->K (.v v)->∃v,BinRuns P op t ox oy x y v w/\(aggT P t=false->∀w',BinRuns P op t ox oy x y v w')/\K (.v v):=
  fun h1 h2=>⟨_,h1 w,fun _=>h1,h2⟩
 unfold binQ at h
 cases x with
 | int k a=>cases y with
  | int k' b=>
   obtain⟨v,hv,hK⟩:=intQ_elim (P:=P) (t:=t) h
   exact both (fun w'=>⟨run_eqGuard_plain (by simp) (by simp),hv w'⟩) hK
  | _=>exact h.elim
 | bool a=>cases y with
  | bool b=>
   simp only at h
   split at h
   ·rename_i hu
    rcases eqB_elim h with⟨rfl,h⟩|⟨rfl,h⟩
    ·exact both (fun w'=>⟨run_eqGuard_plain (by simp) (by simp),run_eql_bool w' t _ _ hu⟩) h
    ·exact both (fun w'=>⟨run_eqGuard_plain (by simp) (by simp),run_neq_bool w' t _ _ hu⟩) h
   ·exact h.elim
  | _=>exact h.elim
 | pointer p=>cases y with
  | pointer q=>cases q with
   | none=>
    simp only at h
    split at h
    ·rename_i e hu
     have hu':P.underlying t=some (.pointer (P.pointee t)):=by simp[Program.pointee,hu]
     rcases eqB_elim h with⟨rfl,h⟩|⟨rfl,h⟩
     ·exact both (fun w'=>⟨run_eqGuard_plain (by simp) (by simp),run_eql_pointer_nil w' t _ hu'⟩) h
     ·exact both (fun w'=>⟨run_eqGuard_plain (by simp) (by simp),run_neq_pointer_nil w' t _ hu'⟩) h
    ·exact h.elim
   | some q=>exact h.elim
  | _=>exact h.elim
 | slice p n c=>
  simp only at h
  split at h
  ·split at h
   ·rename_i e hu
    rcases eqB_elim h with⟨rfl,h⟩|⟨rfl,h⟩
    ·exact both (fun w'=>⟨run_eqGuard_plain (by simp) (by simp),by simp only[binOp];simp[run_equal_slice_nil w' t e _ _ _ hu]⟩) h
    ·exact both (fun w'=>⟨run_eqGuard_plain (by simp) (by simp),by simp only[binOp];simp[run_equal_slice_nil w' t e _ _ _ hu]⟩) h
   ·exact h.elim
  ·exact h.elim
 | map r=>cases y with
  | map q=>cases q with
   | none=>
    simp only at h
    split at h
    ·rename_i k e hu
     rcases eqB_elim h with⟨rfl,h⟩|⟨rfl,h⟩
     ·exact both (fun w'=>⟨run_eqGuard_plain (by simp) (by simp),by simp only[binOp];simp[run_equal_map_nil w' t k e _ hu]⟩) h
     ·exact both (fun w'=>⟨run_eqGuard_plain (by simp) (by simp),by simp only[binOp];simp[run_equal_map_nil w' t k e _ hu]⟩) h
    ·exact h.elim
   | some q=>exact h.elim
  | _=>exact h.elim
 | agg xs=>cases y with
  | agg ys=>
   simp only at h
   cases hat:aggT P t with
   | false=>rw[hat]at h;exact h.elim
   | true=>
    rw[hat]at h
    obtain⟨b,hr,hg,h⟩:=h
    have hgd:(eqGuard op t ox oy (.agg xs) (.agg ys)).run P w=.ok () w:=by
     unfold eqGuard
     cases op<;>first
      | rfl
      | simp[hg]
    rcases eqB_elim h with⟨rfl,h⟩|⟨rfl,h⟩
    ·exact⟨_,⟨hgd,by simp only[binOp];simp[hr]⟩,fun hf=>by simp at hf,h⟩
    ·exact⟨_,⟨hgd,by simp only[binOp];simp[hr]⟩,fun hf=>by simp at hf,h⟩
  | _=>exact h.elim
 | _=>exact h.elim
theorem argsQ_elim {E:Env}:∀{xs:List Operand} {F:List Value->Prop},argsQ E xs F->
  ∃vs,F vs/\∀a:Act,(∀x∈xs,∀v,(evS E x).val?=some v->a.eval x=v)->xs.map a.eval=vs
 | [],_,h=>⟨[],h,fun _ _=>rfl⟩
 | x::xs,F,h=>by
  obtain⟨v,hv,_,h⟩:=onV_elim h
  obtain⟨vs,hF,hm⟩:=argsQ_elim h
  refine⟨v::vs,hF,fun a ha=>?_⟩
  rw[List.map_cons,ha x (by simp) v hv,hm a (fun y hy=>ha y (by simp[hy]))]
theorem partsQ_elim {E:Env}:∀{xs:List (Nat×Operand)} {F:List (Nat×Value)->Prop},partsQ E xs F->
  ∃vs,F vs/\∀a:Act,(∀x∈xs.map (·.2),∀v,(evS E x).val?=some v->a.eval x=v)->xs.map (fun p=>(p.1,a.eval p.2))=vs
 | [],_,h=>⟨[],h,fun _ _=>rfl⟩
 | (i,x)::xs,F,h=>by
  obtain⟨v,hv,_,h⟩:=onV_elim h
  obtain⟨vs,hF,hm⟩:=partsQ_elim h
  refine⟨(i,v)::vs,hF,fun a ha=>?_⟩
  rw[List.map_cons,hm a (fun y hy=>ha y (by simp only[List.map_cons,List.mem_cons];exact .inr hy))]
  simp only
  rw[ha x (by simp) v hv]
theorem setL_length {cells:List Value} {off:Nat} {vs:List Value} (h:off+vs.length<=cells.length):(setL cells off vs).length=cells.length:=by
 simp[setL];omega
theorem foldl_set (off:Nat):∀(vs:List Value) (j:Nat) (cs:Array Value),off+j+vs.length<=cs.size->
  ((vs.zipIdx j).foldl (fun cs (p:Value×Nat)=>cs.setIfInBounds (off+p.2) p.1) cs).toList=setL cs.toList (off+j) vs
 | [],j,cs,_=>by simp[setL]
 | v::vs,j,cs,h=>by
  simp only[List.length_cons]at h
  rw[List.zipIdx_cons,List.foldl_cons,foldl_set off vs (j+1) _ (by simp;omega)]
  have e:=list_seg_step cs.toList (off+j) v vs (by simp;omega)
  simp only[setL,Array.toList_setIfInBounds,List.length_cons]
  rw[<-e]
  simp[Nat.add_assoc]
theorem fill_eq (place place':Nat->Option (Nat×Nat)):∀(ps:List (Nat×Value)) (cells:Array Value) (r:List Value),(∀i,place i=place' i)->
  fillL place cells.toList ps=some r->Instr.fill place' cells ps=some r.toArray
 | [],cells,r,_,h=>by simp only[fillL,Option.some.injEq]at h;subst h;simp[Instr.fill]
 | (i,v)::ps,cells,r,hp,h=>by
  simp only[fillL]at h
  rw[hp i]at h
  simp only[Instr.fill]
  cases hpl:place' i with
  | none=>rw[hpl]at h;simp at h
  | some q=>
   obtain⟨off,size⟩:=q
   rw[hpl]at h
   simp only at h
   cases hb:(Nat.beq v.cells.toList.length size&&Nat.ble (off+size) cells.toList.length)with
   | false=>rw[hb]at h;simp at h
   | true=>
    rw[hb]at h
    simp only[Bool.and_eq_true]at hb
    have h1:v.cells.size=size:=by simpa using Nat.eq_of_beq_eq_true hb.1
    have h2:off+size<=cells.size:=by simpa using Nat.le_of_ble_eq_true hb.2
    simp only at h
    have e:(v.cells.zipIdx.foldl (fun cs (p:Value×Nat)=>cs.setIfInBounds (off+p.2) p.1) cells).toList=setL cells.toList off v.cells.toList:=by
     rw[<-Array.foldl_toList,Array.toList_zipIdx]
     exact foldl_set off v.cells.toList 0 cells (by simp;omega)
    have hcond:¬(v.cells.size≠size||off+v.cells.size>cells.size)=true:=by simp[h1];omega
    simp only[hcond]
    rw[<-e]at h
    exact fill_eq place place' ps _ r hp h
end
section
variable {P:Program} {w:World} {E:Env} {o:Oper} {K:SV->Prop}
theorem sliceBound_ok {i:Int} {k:IntKind} {top:Nat} {code:BoundsCode} (h:0<=i/\i<=(top:Int)):(Instr.sliceBound (.int k i) top code).run P w=.ok i.toNat w:=by
 simp[Instr.sliceBound,asIntOf,h]
def BndAt (a:Act) (x:Option Operand) (dflt top n:Nat):Prop:=match x with
 | none=>n=dflt
 | some o=>∃k i,a.eval o=.int k i/\(0<=i/\i<=(top:Int))/\n=i.toNat
theorem bndQ_elim {x:Option Operand} {dflt top:Nat} {F:Nat->Prop} (h:bndQ E x dflt top F) :
  ∃n,F n/\∀a:Act,(∀y∈x,∀v,(evS E y).val?=some v->a.eval y=v)->BndAt a x dflt top n:=by
 unfold bndQ at h
 cases x with
 | none=>exact⟨dflt,h,fun _ _=>rfl⟩
 | some o=>
  obtain⟨v,hv,_,h⟩:=onV_elim h
  obtain⟨k,i,rfl,hi,h⟩:=onInt_elim h
  exact⟨i.toNat,h,fun a ha=>⟨k,i,ha o rfl _ hv,hi,rfl⟩⟩
theorem bounds_ok {a:Act} {isS:Bool} {lo hi mx:Option Operand} {len cap l h m:Nat} (hno:¬(mx.isSome=true/\hi.isSome=false))
  (hm:BndAt a mx cap cap m) (hh:BndAt a hi len m h) (hl:BndAt a lo 0 h l) :
  (Instr.sliceBounds isS len cap (lo.map a.eval) (hi.map a.eval) (mx.map a.eval)).run P w=.ok (l,h,m) w:=by
 unfold Instr.sliceBounds
 cases mx with
 | none=>
  obtain rfl:m=cap:=hm
  cases hi with
  | none=>
   obtain rfl:h=len:=hh
   cases lo with
   | none=>obtain rfl:l=0:=hl;simp
   | some ol=>obtain⟨k,i,he,hb,rfl⟩:=hl;simp[he,sliceBound_ok hb]
  | some oh=>
   obtain⟨k1,i1,he1,hb1,rfl⟩:=hh
   cases lo with
   | none=>obtain rfl:l=0:=hl;simp[he1,sliceBound_ok hb1]
   | some ol=>obtain⟨k,i,he,hb,rfl⟩:=hl;simp[he,he1,sliceBound_ok hb,sliceBound_ok hb1]
 | some om=>
  obtain⟨k2,i2,he2,hb2,rfl⟩:=hm
  cases hi with
  | none=>simp at hno
  | some oh=>
   obtain⟨k1,i1,he1,hb1,rfl⟩:=hh
   cases lo with
   | none=>obtain rfl:l=0:=hl;simp[he1,he2,sliceBound_ok hb1,sliceBound_ok hb2]
   | some ol=>obtain⟨k,i,he,hb,rfl⟩:=hl;simp[he,he1,he2,sliceBound_ok hb,sliceBound_ok hb1,sliceBound_ok hb2]
theorem slQ_elim {t:TypeId} {x:Value} {lo hi mx:Option Operand} (h:slQ P E t x lo hi mx K) :
  ∃v,K (.v v)/\∀a:Act,(∀y∈lo.toList++hi.toList++mx.toList,∀v,(evS E y).val?=some v->a.eval y=v)->
   ∀w,(Instr.sliceAt t x (lo.map a.eval) (hi.map a.eval) (mx.map a.eval)).run P w=.ok v w:=by
 unfold slQ at h
 split at h
 ·rename_i e hu
  cases ho:okT P e with
  | false=>rw[ho]at h;exact h.elim
  | true=>
   rw[ho]at h
   simp only at h
   split at h
   ·rename_i p len cap
    have hno:¬(mx.isSome=true/\hi.isSome=false):=by
     rintro⟨h1,h2⟩
     cases mx<;>cases hi<;>simp_all
    have h':bndQ E mx cap cap fun m=>bndQ E hi len m fun h=>bndQ E lo 0 h fun l=>K (.v (.slice (subA p m l (szT P e)) (h-l) (m-l))):=by
     cases mx<;>cases hi<;>simp_all
    obtain⟨m,h1,hm⟩:=bndQ_elim h'
    obtain⟨hh,h2,hhh⟩:=bndQ_elim h1
    obtain⟨l,h3,hl⟩:=bndQ_elim h2
    refine⟨_,h3,fun a ha w=>?_⟩
    have hb:=bounds_ok (P:=P) (w:=w) (isS:=true) hno (hm a fun y hy=>ha y (by cases mx<;>simp_all)) (hhh a fun y hy=>ha y (by cases hi<;>simp_all)) (hl a fun y hy=>ha y (by cases lo<;>simp_all))
    simp[Instr.sliceAt,Instr.slice,run_underlying_ok hu,hb,run_sizeOf_ok ho,subA]
   ·exact h.elim
 ·rename_i n e hu
  cases ho:okT P e with
  | false=>rw[ho]at h;exact h.elim
  | true=>
   rw[ho]at h
   simp only at h
   obtain⟨ad,rfl,h⟩:=onAd_elim h
   have hno:¬(mx.isSome=true/\hi.isSome=false):=by
    rintro⟨h1,h2⟩
    cases mx<;>cases hi<;>simp_all
   have h':bndQ E mx n n fun m=>bndQ E hi n m fun h=>bndQ E lo 0 h fun l=>K (.v (.slice (subA (some ad) m l (szT P e)) (h-l) (m-l))):=by
    cases mx<;>cases hi<;>simp_all
   obtain⟨m,h1,hm⟩:=bndQ_elim h'
   obtain⟨hh,h2,hhh⟩:=bndQ_elim h1
   obtain⟨l,h3,hl⟩:=bndQ_elim h2
   refine⟨_,h3,fun a ha w=>?_⟩
   have hb:=bounds_ok (P:=P) (w:=w) (isS:=false) hno (hm a fun y hy=>ha y (by cases mx<;>simp_all)) (hhh a fun y hy=>ha y (by cases hi<;>simp_all)) (hl a fun y hy=>ha y (by cases lo<;>simp_all))
   have hs:(Instr.sureAddr (.pointer (some ad))).run P w=.ok ad w:=rfl
   simp[Instr.sliceAt,run_underlying_ok hu,hs,hb,run_sizeOf_ok ho,subA]
   split<;>simp_all
 ·exact h.elim
theorem run_fieldPlace {ad:Addr} {f:Field} (ho:okT P f.type=true) (hz:szT P f.type≠0):(fieldPlace ad f).run P w=.ok (ad.add f.offset) w:=by
 simp[fieldPlace,run_sizeOf_ok ho,hz]
theorem faQ_elim {s:TypeId} {ad:Addr} {f:Nat} (h:faQ P s ad f K):∃v,(∀w,(Instr.fieldAt s (.pointer (some ad)) f).run P w=.ok v w)/\K (.v v):=by
 unfold faQ at h
 split at h
 ·rename_i fs hu
  split at h
  ·rename_i fd hf
   cases ho:okT P fd.type with
   | false=>rw[ho]at h;exact h.elim
   | true=>
    rw[ho]at h
    simp only at h
    cases hz:Nat.beq (szT P fd.type) 0 with
    | true=>rw[hz]at h;exact h.elim
    | false=>
     rw[hz]at h
     have hz':szT P fd.type≠0:=fun e=>by rw[e]at hz;simp at hz
     have hf':fs[f]?=some fd:=by simpa using hf
     exact⟨_,fun w=>by simp[Instr.fieldAt,run_underlying_ok hu,hf',Instr.sureAddr,run_fieldPlace ho hz'],h⟩
  ·exact h.elim
 ·exact h.elim
theorem flQ_elim {s:TypeId} {x:Value} {f:Nat} (h:flQ P s x f K):∃v,(∀w,(Instr.field s x f).run P w=.ok v w)/\K (.v v):=by
 unfold flQ at h
 split at h
 ·rename_i fs hu
  split at h
  ·rename_i fd hf
   split at h
   ·rename_i cs
    obtain⟨v,hv,hK⟩:=partQ_elim h
    have hf':fs[f]?=some fd:=by simpa using hf
    exact⟨v,fun w=>by simp[Instr.field,run_underlying_ok hu,hf',asAgg,hv],hK⟩
   ·exact h.elim
  ·exact h.elim
 ·exact h.elim
theorem iaQ_elim {t:TypeId} {x ix:Value} (h:iaQ P t x ix K):∃v,(∀w,(Instr.indexAt t x ix).run P w=.ok v w)/\K (.v v):=by
 unfold iaQ at h
 obtain⟨k,i,rfl,h⟩:=onInt_elim h
 split at h
 ·rename_i e hu
  cases ho:okT P e with
  | false=>rw[ho]at h;exact h.elim
  | true=>
   rw[ho]at h
   simp only at h
   cases x with
   | slice base len cap=>
    obtain⟨hi,a,ha,hK⟩:=h
    subst ha
    exact⟨_,fun w=>by simp[Instr.indexAt,asIntOf,run_underlying_ok hu,hi,run_sizeOf_ok ho],hK⟩
   | _=>exact h.elim
 ·rename_i len e hu
  cases ho:okT P e with
  | false=>rw[ho]at h;exact h.elim
  | true=>
   rw[ho]at h
   simp only at h
   obtain⟨a,rfl,hi,h⟩:=onAd_elim h
   exact⟨_,fun w=>by simp[Instr.indexAt,asIntOf,run_underlying_ok hu,Instr.sureAddr,hi,run_sizeOf_ok ho],h⟩
 ·exact h.elim
theorem ixQ_elim {t:TypeId} {x ix:Value} (h:ixQ P t x ix K):∃v,(∀w,(Instr.index t x ix).run P w=.ok v w)/\K (.v v):=by
 unfold ixQ at h
 obtain⟨k,i,rfl,h⟩:=onInt_elim h
 split at h
 ·rename_i len e hu
  cases ho:okT P e with
  | false=>rw[ho]at h;exact h.elim
  | true=>
   rw[ho]at h
   simp only at h
   split at h
   ·rename_i cs
    obtain⟨hi,h⟩:=h
    cases hg:aggT P e with
    | false=>
     rw[hg]at h
     obtain⟨v,hv,hK⟩:=exScal_elim h
     exact⟨v,fun w=>by simp[Instr.index,asIntOf,run_underlying_ok hu,hi,run_sizeOf_ok ho,run_part_scal ho hg hv],hK⟩
    | true=>
     rw[hg]at h
     obtain⟨vs,_,hv,hK⟩:=exList_elim h
     exact⟨_,fun w=>by simp[Instr.index,asIntOf,run_underlying_ok hu,hi,run_sizeOf_ok ho,run_part_agg ho hg,hv],hK⟩
   ·exact h.elim
 ·rename_i hu
  cases x with
  | string s=>
   obtain⟨hi,c,⟨u,hu1,hc⟩,hK⟩:=h
   subst hc
   exact⟨_,fun w=>by
    simp only[Instr.index,asIntOf,run_underlying_ok hu,Sem.run_bind,Sem.run_pure,Result.andThen_ok,hi,if_true,hu1],hK⟩
  | _=>exact h.elim
 ·exact h.elim
theorem exQ_elim {x:Value} {i:Nat} (h:exQ x i K):∃v,(∀w,(Instr.extract x i).run P w=.ok v w)/\K (.v v):=by
 unfold exQ at h
 split at h
 ·rename_i vs
  split at h
  ·rename_i v hv
   have hv':vs[i]?=some v:=by simpa using hv
   exact⟨v,fun w=>by simp[Instr.extract,hv'],h⟩
  ·exact h.elim
 ·exact h.elim
def mapT (P:Program) (t:TypeId):Bool:=match P.underlying t with
 | some (.map _ _)=>true
 | _=>false
theorem lenQ_elim {t ty:TypeId} {x:Value} (h:lenQ P w t x K):∃v,(Builtin.len_ #[t] ty #[x]).run P w=.ok v w/\(mapT P t=false->∀w,(Builtin.len_ #[t] ty #[x]).run P w=.ok v w)/\K (.v v):=by
 have both:∀{v:Value},(∀w',(Builtin.len_ #[t] ty #[x]).run P w'=.ok v w')->K (.v v)->∃v,(Builtin.len_ #[t] ty #[x]).run P w=.ok v w/\(mapT P t=false->∀w,(Builtin.len_ #[t] ty #[x]).run P w=.ok v w)/\K (.v v):=
  fun h1 h2=>⟨_,h1 w,fun _=>h1,h2⟩
 unfold lenQ at h
 split at h
 ·rename_i e hu
  cases x with
  | slice a n c=>exact both (fun w=>by simp[Builtin.len_,run_underlying_ok hu,goInt]) h
  | _=>exact h.elim
 ·rename_i hu
  cases x with
  | string s=>exact both (fun w=>by simp[Builtin.len_,run_underlying_ok hu,goInt]) h
  | _=>exact h.elim
 ·rename_i n e hu
  exact both (fun w=>by simp[Builtin.len_,run_underlying_ok hu,goInt]) h
 ·rename_i hu
  cases x with
  | map r=>
   obtain⟨n,hr,h⟩:=h
   exact⟨_,hr ty,fun hf=>by simp[mapT,hu]at hf,h⟩
  | _=>exact h.elim
 ·exact h.elim
theorem places_of {fs:List Field} (h:fs.all (fun f=>okT P f.type)=true) :
  fs.mapM (fun f=>(P.info? f.type).map fun i=>(f.offset,i.size))=some (fs.map fun f=>(f.offset,szT P f.type)):=by
 induction fs with
 | nil=>rfl
 | cons f fs ih=>
  simp only[List.all_cons,Bool.and_eq_true]at h
  have h1:=h.1
  simp only[okT,Bool.and_eq_true]at h1
  obtain⟨i,hi⟩:=Option.isSome_iff_exists.1 h1.1
  simp[List.mapM_cons,hi,ih h.2,szT,Program.cellsOf]
theorem bdQ_elim {t:TypeId} {ps:List (Nat×Value)} (h:bdQ P t ps K):∃v,(∀w,(Instr.build t ps.toArray).run P w=.ok v w)/\K (.v v):=by
 unfold bdQ at h
 cases hz:okZ P t with
 | false=>rw[hz]at h;exact h.elim
 | true=>
  rw[hz]at h
  simp only at h
  split at h
  ·rename_i fs hu
   cases ho:fs.toList.all fun f=>okT P f.type with
   | false=>rw[ho]at h;exact h.elim
   | true=>
    rw[ho]at h
    simp only at h
    have hp:=fun w=>run_places (P:=P) w _ _ (places_of ho)
    split at h
    ·rename_i cs hf
     have hf':=fill_eq (place':=fun i=>(fs[i]?).map fun f=>(f.offset,szT P f.type)) _ ps (zv P t).cells cs (fun i=>by simp) hf
     exact⟨_,fun w=>by simp[Instr.build,run_zeroValue_ok hz,run_underlying_ok hu,Array.mapM_eq_mapM_toList,hp,hf'],h⟩
    ·exact h.elim
  ·rename_i n e hu
   cases ho:okT P e with
   | false=>rw[ho]at h;exact h.elim
   | true=>
    rw[ho]at h
    simp only at h
    split at h
    ·rename_i cs hf
     have hf':=fill_eq (place':=fun i=>some (i*szT P e,szT P e)) _ ps (zv P t).cells cs (fun i=>rfl) hf
     exact⟨_,fun w=>by simp[Instr.build,run_zeroValue_ok hz,run_underlying_ok hu,run_sizeOf_ok ho,hf'],h⟩
    ·exact h.elim
  ·exact h.elim
theorem pickQ_elim {c x y:SV} (h:pickQ c x y K):∃b s,c.val?=some (.bool b)/\(if b then(∃v,x.val?=some v/\s.val=v)else(∃v,y.val?=some v/\s.val=v))/\K s:=by
 unfold pickQ at h
 split at h
 ·obtain⟨v,h1,h2,h⟩:=mvQ_elim h
  exact⟨true,_,rfl,by simp[h1,h2],h⟩
 ·obtain⟨v,h1,h2,h⟩:=mvQ_elim h
  exact⟨false,_,rfl,by simp[h1,h2],h⟩
 ·rename_i c
  obtain⟨v,h1,_,h⟩:=onV_elim h
  obtain⟨u,h2,_,h⟩:=onV_elim h
  refine⟨c,_,rfl,?_,h⟩
  cases c<;>simp[h1,h2,SV.val]
 ·exact h.elim
def readsMem (P:Program) (o:Oper):Bool:=match o.op with
 | .load _ _=>true
 | .lookup _ _ _ _=>true
 | .binOp _ t _ _ _=>aggT P t
 | .call c=>match c.argTypes.toList with
  | [t]=>mapT P t
  | _=>true
 | _=>false
theorem opQ_sound (h:opQ P o E w K):∃s,Quiet P o E w s/\(readsMem P o=false->∀w',Quiet P o E w' s)/\K s:=by
 have both:∀{s:SV},(∀w',Quiet P o E w' s)->K s->∃s,Quiet P o E w s/\(readsMem P o=false->∀w',Quiet P o E w' s)/\K s:=
  fun h1 h2=>⟨_,h1 w,fun _=>h1,h2⟩
 unfold opQ at h
 split at h
 ·rename_i x ho
  obtain⟨v,h1,h2,h⟩:=mvQ_elim h
  exact both (fun w a ha=>by simp[execOp,ho,ha x (by simp[ho,Op.operands]) v h1,h2]) h
 ·rename_i x ho
  obtain⟨v,h1,h2,h⟩:=mvQ_elim h
  exact both (fun w a ha=>by simp[execOp,ho,ha x (by simp[ho,Op.operands]) v h1,h2]) h
 ·rename_i c x y ho
  obtain⟨b,s,h1,h2,h⟩:=pickQ_elim h
  refine both (s:=s) (fun w a ha=>?_) h
  have hc:=ha c (by simp[ho,Op.operands]) _ h1
  cases b with
  | true=>
   obtain⟨v,h3,h4⟩:=h2
   simp[execOp,ho,hc,asBool,ha x (by simp[ho,Op.operands]) v h3,h4]
  | false=>
   obtain⟨v,h3,h4⟩:=h2
   simp[execOp,ho,hc,asBool,ha y (by simp[ho,Op.operands]) v h3,h4]
 ·rename_i x ho
  obtain⟨v,h1,_,h⟩:=onV_elim h
  unfold nilQ at h
  split at h
  ·obtain⟨ad,hp,h⟩:=h
   subst hp
   exact both (fun w a ha=>by simp[execOp,ho,ha x (by simp[ho,Op.operands]) _ h1,SV.val]) h
  ·exact both (fun w a ha=>by simp[execOp,ho,ha x (by simp[ho,Op.operands]) _ h1,SV.val]) h
  ·exact h.elim
 ·rename_i op t x y yt ho
  obtain⟨v,h1,_,h⟩:=onV_elim h
  obtain⟨u,h2,_,h⟩:=onV_elim h
  obtain⟨r,hr,hr2,hK⟩:=binQ_elim (ox:=x) (oy:=y) h
  exact⟨.v r,fun a ha=>by simp[execOp,ho,ha x (by simp[ho,Op.operands]) v h1,ha y (by simp[ho,Op.operands]) u h2,hr.1,hr.2,SV.val],fun hf w' a ha=>by simp[execOp,ho,ha x (by simp[ho,Op.operands]) v h1,ha y (by simp[ho,Op.operands]) u h2,(hr2 (by simpa [readsMem,ho]using hf) w').1,(hr2 (by simpa [readsMem,ho]using hf) w').2,SV.val],hK⟩
 ·rename_i op t x ho
  unfold unQ at h
  split at h
  ·split at h
   ·rename_i b hs
    exact both (fun w a ha=>by simp[execOp,ho,ha x (by simp[ho,Op.operands]) (.bool b) (by rw[hs];rfl),Op.unary,SV.val]) h
   ·rename_i b hs
    exact both (fun w a ha=>by simp[execOp,ho,ha x (by simp[ho,Op.operands]) (.bool b) (by rw[hs];rfl),Op.unary,SV.val]) h
   ·exact h.elim
  ·obtain⟨v,h1,_,h⟩:=onV_elim h
   obtain⟨k,n,rfl,h⟩:=onInt_elim h
   exact both (fun w a ha=>by simp[execOp,ho,ha x (by simp[ho,Op.operands]) _ h1,Op.unary,Op.intArith,SV.val]) h
  ·obtain⟨v,h1,_,h⟩:=onV_elim h
   obtain⟨k,n,rfl,h⟩:=onInt_elim h
   refine both (fun w a ha=>?_) h
   cases hk:k.signed<;>simp[execOp,ho,ha x (by simp[ho,Op.operands]) _ h1,Op.unary,Op.intBits,bitsOp,hk,SV.val]
  ·exact h.elim
 ·rename_i sx dx x ho
  obtain⟨v,h1,_,h⟩:=onV_elim h
  unfold cvQ at h
  split at h
  ·rename_i d k hu1 hu2
   obtain⟨k',n,rfl,h⟩:=onInt_elim h
   refine both (fun w a ha=>?_) h
   have hc:(convert sx dx (.int k' n)).run P w=.ok (.int k (k.wrap n)) w:=by
    unfold convert
    simp only[Sem.run_bind,run_underlying_ok hu1,run_underlying_ok hu2,Result.andThen_ok]
    cases d<;>rfl
   simp[execOp,ho,ha x (by simp[ho,Op.operands]) _ h1,hc,SV.val]
  ·exact h.elim
 ·rename_i t x ho
  obtain⟨v,h1,_,h⟩:=onV_elim h
  obtain⟨ad,rfl,h⟩:=onAd_elim h
  obtain⟨u,hu,h⟩:=ldQ_elim h
  exact⟨_,fun a ha=>by simp[execOp,ho,ha x (by simp[ho,Op.operands]) _ h1,Instr.loadAt,Instr.sureAddr,hu,SV.val],fun hf=>by simp[readsMem,ho]at hf,h⟩
 ·rename_i s x f ho
  obtain⟨v,h1,_,h⟩:=onV_elim h
  obtain⟨ad,rfl,h⟩:=onAd_elim h
  obtain⟨u,hu,h⟩:=faQ_elim h
  exact both (fun w a ha=>by simp[execOp,ho,ha x (by simp[ho,Op.operands]) _ h1,hu,SV.val]) h
 ·rename_i s x f ho
  obtain⟨v,h1,_,h⟩:=onV_elim h
  obtain⟨u,hu,h⟩:=flQ_elim h
  exact both (fun w a ha=>by simp[execOp,ho,ha x (by simp[ho,Op.operands]) _ h1,hu,SV.val]) h
 ·rename_i t x i ho
  obtain⟨v,h1,_,h⟩:=onV_elim h
  obtain⟨u,h2,_,h⟩:=onV_elim h
  obtain⟨r,hr,h⟩:=iaQ_elim h
  exact both (fun w a ha=>by simp[execOp,ho,ha x (by simp[ho,Op.operands]) v h1,ha i (by simp[ho,Op.operands]) u h2,hr,SV.val]) h
 ·rename_i t x i ho
  obtain⟨v,h1,_,h⟩:=onV_elim h
  obtain⟨u,h2,_,h⟩:=onV_elim h
  obtain⟨r,hr,h⟩:=ixQ_elim h
  exact both (fun w a ha=>by simp[execOp,ho,ha x (by simp[ho,Op.operands]) v h1,ha i (by simp[ho,Op.operands]) u h2,hr,SV.val]) h
 ·rename_i x i ho
  obtain⟨v,h1,_,h⟩:=onV_elim h
  obtain⟨r,hr,h⟩:=exQ_elim (P:=P) h
  exact both (fun w a ha=>by simp[execOp,ho,ha x (by simp[ho,Op.operands]) v h1,hr,SV.val]) h
 ·rename_i t ps ho
  obtain⟨vs,h,hm⟩:=partsQ_elim h
  obtain⟨r,hr,h⟩:=bdQ_elim h
  refine both (s:=.v r) (fun w a ha=>?_) h
  have e:ps.map (fun p=>(p.1,a.eval p.2))=vs.toArray:=by
   apply Array.ext'
   have:=hm a (fun x hx=>ha x (by simpa [ho,Op.operands]using hx))
   simpa using this
  simp[execOp,ho,e,hr,SV.val]
 ·rename_i t x lo hi mx ho
  obtain⟨v,h1,_,h⟩:=onV_elim h
  obtain⟨r,h,hr⟩:=slQ_elim h
  refine both (s:=.v r) (fun w a ha=>?_) h
  have h2:=hr a (fun y hy=>ha y (by simp[ho,Op.operands]at hy⊢;rcases hy with hy|hy|hy<;>simp[hy]))
  simp[execOp,ho,ha x (by simp[ho,Op.operands]) v h1,h2,SV.val]
 ·rename_i fn first cap ho
  obtain⟨fs,h,h1⟩:=argsQ_elim h
  obtain⟨cs,h,h2⟩:=argsQ_elim h
  refine both (fun w a ha=>?_) h
  have e1:first.map a.eval=fs.toArray:=by
   apply Array.ext';simpa using h1 a (fun x hx=>ha x (by simp[ho,Op.operands];exact .inl (by simpa using hx)))
  have e2:cap.map a.eval=cs.toArray:=by
   apply Array.ext';simpa using h2 a (fun x hx=>ha x (by simp[ho,Op.operands];exact .inr (by simpa using hx)))
  simp[execOp,ho,e1,e2,Instr.makeFunc,SV.val]
 ·rename_i t x i ok ho
  obtain⟨v,h1,_,h⟩:=onV_elim h
  obtain⟨u,h2,_,h⟩:=onV_elim h
  obtain⟨r,hr,h⟩:=exTy_elim h
  exact⟨_,fun a ha=>by simp[execOp,ho,ha x (by simp[ho,Op.operands]) v h1,ha i (by simp[ho,Op.operands]) u h2,hr,SV.val],fun hf=>by simp[readsMem,ho]at hf,h⟩
 ·rename_i c ho
  split at h
  ·rename_i hc
   split at h
   ·rename_i x hx
    split at h
    ·rename_i t ht
     obtain⟨v,h1,_,h⟩:=onV_elim h
     obtain⟨r,hr,hr2,h⟩:=lenQ_elim (ty:=o.type) h
     have hx':c.args=#[x]:=by apply Array.ext';simpa using hx
     have ht':c.argTypes=#[t]:=by apply Array.ext';simpa using ht
     exact⟨_,fun a ha=>by simp[execOp,ho,resolve,hc,hx',ht',invoke,builtin,ha x (by simp[ho,Op.operands,Call.operands,hx']) v h1,hr,SV.val],fun hf w' a ha=>by simp[execOp,ho,resolve,hc,hx',ht',invoke,builtin,ha x (by simp[ho,Op.operands,Call.operands,hx']) v h1,hr2 (by simpa [readsMem,ho,ht']using hf) w',SV.val],h⟩
    ·exact h.elim
   ·exact h.elim
  ·exact h.elim
 ·exact h.elim
end
structure Wrote (w w':World) (b:Nat) (c:List Value) (T:TypeId):Prop where
 blk:w'.heap[b]?=some (.cells c.toArray T (0,0))
 other:∀i,i≠b->w'.heap[i]?=w.heap[i]?
 size:w'.heap.size=w.heap.size
 os:w'.os=w.os
 tape:w'.tape=w.tape
 output:w'.output=w.output
structure Wr (w:World) (ad:Addr) (vs:List Value) (K:World->Prop):Prop where
 out:∃(c:List Value) (T:TypeId),w.heap[ad.block]?=some (.cells c.toArray T (0,0))/\ad.spot=none/\ad.off+vs.length<=c.length/\
  ∀w',Wrote w w' ad.block (setL c ad.off vs) T->K w'
structure Newed (w w':World) (o:Obj):Prop where
 blk:w'.heap[w.heap.size]?=some o
 old:∀i,i<w.heap.size->w'.heap[i]?=w.heap[i]?
 size:w'.heap.size=w.heap.size+1
 os:w'.os=w.os
 tape:w'.tape=w.tape
 output:w'.output=w.output
 drawn:w'.drawn=w.drawn
structure New (w:World) (c:List Value) (T:TypeId) (K:Addr->World->Prop):Prop where
 out:∀w',Newed w w' (.cells c.toArray T (0,0))->K ⟨w.heap.size,0,none⟩ w'
structure NewMap (w:World) (K:Nat->World->Prop):Prop where
 out:∀w',Newed w w' (.map #[] 0)->K w.heap.size w'
def oneCells:List Value->Bool
 | []=>true
 | .agg _::_=>false
 | .tuple _::_=>false
 | _::vs=>oneCells vs
theorem oneCells_ok:∀{vs:List Value},oneCells vs=true->∀v∈vs,v.oneCell'=true
 | [],_,_,hv=>by cases hv
 | x::vs,h,v,hv=>by
  rcases List.mem_cons.1 hv with rfl|hv
  ·cases v<;>first|rfl|(simp[oneCells]at h)
  ·exact oneCells_ok (vs:=vs) (by cases x<;>simp_all [oneCells]) v hv
theorem newed_push (w:World) (o:Obj):Newed w {w with heap:=w.heap.push o} o:=by
 refine⟨by simp,fun i hi=>?_,by simp,rfl,rfl,rfl,rfl⟩
 simp[Array.getElem?_push,Nat.ne_of_lt hi]
theorem wrote_setRow {w:World} {b:Nat} {c:Array Value} {T:TypeId} (h:w.heap[b]?=some (.cells c T (0,0))) (c':List Value) :
  Wrote w (w.setRow b c'.toArray) b c' T:=by
 refine⟨setRow_heap w b c _ T _ h,fun i hi=>?_,by simp[World.setRow],rfl,rfl,rfl⟩
 simp[World.setRow,Array.getElem?_modify,Ne.symm hi]
def hasBody (P:Program) (g:FuncId):Bool:=match P.funcs.toList[g]? with
 | some fn=>fn.body.isSome
 | none=>false
def okP (P:Program):Bool:=P.funcs.toList.all (fun fn=>!(fn.name=="runtime.NumGoroutine"))&&P.follows .mixedOrders
structure Call (P:Program) (f:FuncId) (args:List Value) (w:World) (R:Ending->World->Prop):Prop where
 out:Calls P f args.toArray w R
def callQ (P:Program) (f:FuncId) (args:List Value) (ty:Ty) (w:World) (K:Value->World->Prop):Prop:=
 Call P f args w fun e w'=>exTy ty fun v=>e=.returned v/\K v w'
structure Cut (p:Prop):Prop where
 out:p
def runE (P:Program) (s:Sem Value) (ty:Ty) (w:World) (K:SV->World->Prop):Prop:=
 exTy ty fun v=>∃w',s.run P w=.ok v w'/\K (.v v) w'
def runU (P:Program) (s:Sem Unit) (w:World) (K:SV->World->Prop):Prop:=
 ∃w',s.run P w=.ok () w'/\K (.v undef) w'
def bsQ (P:Program) (t:TypeId) (len:Nat) (ps:List (Nat×Value)) (w:World) (K:SV->World->Prop):Prop:=
 match P.underlying t with
 | some (.slice e)=>match okT P e&&okZ P e&&Nat.beq (zc P e).length (szT P e)&&Nat.ble (len*szT P e) 16777216&&Nat.ble 1 (szT P e)with
  | false=>False
  | true=>match fillL (fun i=>some (i*szT P e,szT P e)) ((List.range (len*szT P e)).map fun i=>(zc P e).getD (i%szT P e) undef) ps with
   | some cs=>New w cs e fun p w'=>K (.v (.slice (some p) len len)) w'
   | none=>False
 | _=>False
def opE (P:Program) (o:Oper) (E:Env) (w:World) (K:SV->World->Prop):Prop:=
 match o.op with
 | .store t a x=>onV (evS E a) fun v=>onAd v fun ad=>onV (evS E x) fun v=>
   match okT P t&&Nat.beq v.cells.toList.length (szT P t)&&oneCells v.cells.toList with
   | false=>False
   | true=>Wr w ad v.cells.toList fun w'=>K (.v undef) w'
 | .alloc T=>match okZ P T with
  | false=>False
  | true=>New w (zc P T) T fun p w'=>K (.v (.pointer (some p))) w'
 | .box T x=>onV (evS E x) fun v=>New w v.cells.toList T fun p w'=>K (.v (.pointer (some p))) w'
 | .buildSlice t len ps=>partsQ E ps.toList fun ps=>bsQ P t len ps w K
 | .makeSlice t l c=>onV (evS E l) fun l=>onV (evS E c) fun c=>runE P (Instr.makeSlice t l c) (tyT P t) w K
 | .makeMap _ none=>NewMap w fun r w'=>K (.v (.map (some r))) w'
 | .mapUpdate t m k x=>onV (evS E m) fun m=>onV (evS E k) fun k=>onV (evS E x) fun x=>runU P (Instr.mapUpdate t m k x) w K
 | .insert t m k x=>onV (evS E m) fun m=>onV (evS E k) fun k=>onV (evS E x) fun x=>runU P (Instr.mapUpdate t m k x) w K
 | .call c=>match c.callee with
  | .value f=>match evS E f with
   | .v (.func (.func g) first cap)=>match hasBody P g with
    | true=>argsQ E c.args.toList fun vs=>callQ P g (first.toList++vs++cap.toList) (tyT P o.type) w fun v w'=>K (.v v) w'
    | false=>argsQ E c.args.toList fun vs=>exTy (tyT P o.type) fun v=>∃w',(callFunc g (first.toList++vs++cap.toList).toArray).run P w=.ok (.value v) w'/\K (.v v) w'
   | _=>False
  | .builtin .append=>argsQ E c.args.toList fun vs=>runE P (Builtin.append_ c.argTypes o.type vs.toArray) (tyT P o.type) w K
  | .builtin .copy=>argsQ E c.args.toList fun vs=>runE P (Builtin.copy_ c.argTypes o.type vs.toArray) (tyT P o.type) w K
  | .builtin .delete=>argsQ E c.args.toList fun vs=>runE P (Builtin.delete_ c.argTypes o.type vs.toArray) (tyT P o.type) w K
  | .builtin .max=>argsQ E c.args.toList fun vs=>runE P (Builtin.max_ c.argTypes o.type vs.toArray) (tyT P o.type) w K
  | .builtin .min=>argsQ E c.args.toList fun vs=>runE P (Builtin.min_ c.argTypes o.type vs.toArray) (tyT P o.type) w K
  | _=>False
 | _=>False
def Acts (P:Program) (o:Oper) (E:Env) (w:World) (K:SV->World->Prop):Prop:=
 ∀a,Reads E o a->∀(next:Act->World->Prop) (Q:Exit->Act->World->Prop),(∀s w',K s w'->next (a.put o.dst s.val) w')->o.wp P a w next Q
theorem Quiet.acts {P:Program} {o:Oper} {E:Env} {w:World} {s:SV} (h:Quiet P o E w s) {K:SV->World->Prop} (hK:K s w):Acts P o E w K:=by
 intro a ha next Q hn
 unfold Oper.wp
 rw[h a ha]
 exact hn s w hK
section
variable {P:Program} {w:World} {E:Env} {o:Oper} {K:SV->World->Prop}
theorem acts_value {v:Value} {w':World} (he:∀a,Reads E o a->(execOp a.eval o).run P w=.ok (.value v) w') (hK:K (.v v) w'):Acts P o E w K:=by
 intro a ha next Q hn
 unfold Oper.wp
 rw[he a ha]
 exact hn _ _ hK
theorem acts_skip {w':World} (he:∀a,Reads E o a->(execOp a.eval o).run P w=.ok .skip w') (hK:K (.v undef) w'):Acts P o E w K:=by
 intro a ha next Q hn
 unfold Oper.wp
 rw[he a ha]
 exact hn (.v undef) _ hK
theorem callFunc_ok (hP:okP P=true) {g:FuncId} (hb:hasBody P g=true) (args:Array Value):(callFunc g args).run P w=.ok (.enter g args) w:=by
 unfold hasBody at hb
 split at hb
 ·rename_i fn hf
  have hf':P.funcs[g]?=some fn:=by simpa using hf
  simp only[okP,Bool.and_eq_true,List.all_eq_true]at hP
  have hn:=hP.1 fn (List.mem_of_getElem? hf)
  have hn':(fn.name=="runtime.NumGoroutine")=false:=by simpa using hn
  have hb':fn.body.isNone=false:=by cases hbb:fn.body<;>simp_all
  unfold callFunc
  simp only[Sem.run_bind,run_program,Result.andThen_ok,hf',hn',hb',Bool.false_eq_true,if_false]
  rfl
 ·cases hb
theorem bsQ_elim {t:TypeId} {len:Nat} {ps:List (Nat×Value)} (h:bsQ P t len ps w K) :
  ∃v w',(Instr.buildSlice t len ps.toArray).run P w=.ok v w'/\K (.v v) w':=by
 unfold bsQ at h
 split at h
 ·rename_i e hu
  split at h
  ·exact h.elim
  ·rename_i hc
   simp only[Bool.and_eq_true]at hc
   obtain⟨⟨⟨⟨ho,hz⟩,hl⟩,hb⟩,h1⟩:=hc
   have hl':(zc P e).length=szT P e:=Nat.eq_of_beq_eq_true hl
   have hb':=Nat.le_of_ble_eq_true hb
   have h1':=Nat.le_of_ble_eq_true h1
   split at h
   ·rename_i cs hf
    have hzs:(zv P e).cells.size=szT P e:=by rw[<-hl'];simp[zc]
    have hr:((Array.range (len*szT P e)).map (fun x=>(zv P e).cells[x%(zv P e).cells.size]!)).toList=(List.range (len*szT P e)).map fun i=>(zc P e).getD (i%szT P e) undef:=by
     rw[Array.toList_map,Array.toList_range]
     apply List.map_congr_left
     intro i hi
     rw[hzs]
     have hlt:i%szT P e<(zv P e).cells.size:=by rw[hzs];exact Nat.mod_lt _ h1'
     simp[zc,List.getD_eq_getElem?_getD,hlt]
    have hf':=fill_eq (place':=fun i=>some (i*szT P e,szT P e)) _ ps ((Array.range (len*szT P e)).map (fun x=>(zv P e).cells[x%(zv P e).cells.size]!)) cs (fun i=>rfl) (by rw[hr];exact hf)
    refine⟨_,_,?_,h.out _ (newed_push w _)⟩
    by_cases h0:len*szT P e=0
    ·have hlen:len=0:=by
      rcases Nat.mul_eq_zero.1 h0 with h0|h0
      ·exact h0
      ·omega
     subst hlen
     have hr0:Array.range 0=#[]:=rfl
     simp only[Nat.zero_mul,hr0,List.map_toArray,List.map_nil]at hf'
     simp[Instr.buildSlice,run_underlying_ok hu,run_sizeOf_ok ho,hr0,hf',newRow]
    ·have hnot:¬(2 ^ 24<len*szT P e):=by omega
     simp[Instr.buildSlice,run_underlying_ok hu,run_sizeOf_ok ho,run_zeroValue_ok hz,h0,hnot,hf',newRow]
   ·exact h.elim
 ·exact h.elim
theorem opE_sound (hP:okP P=true) (h:opE P o E w K):Acts P o E w K:=by
 unfold opE at h
 split at h
 ·rename_i t x y ho
  obtain⟨v,h1,_,h⟩:=onV_elim h
  obtain⟨ad,rfl,h⟩:=onAd_elim h
  obtain⟨u,h2,_,h⟩:=onV_elim h
  split at h
  ·exact h.elim
  ·rename_i hc
   simp only[Bool.and_eq_true]at hc
   obtain⟨⟨hk,hl⟩,h1c⟩:=hc
   obtain⟨c,T,hb,hs,hfit,hK⟩:=h.out
   obtain⟨b,off,spot⟩:=ad
   simp only at hs hb hfit hK
   subst hs
   have hl':u.cells.size=szT P t:=by simpa using Nat.eq_of_beq_eq_true hl
   have hst:=run_storeCells_at P b off T u.cells.toList 0 c.toArray w hb (by simpa using hfit) (oneCells_ok h1c)
   refine acts_skip (w':=w.setRow b (setL c off u.cells.toList).toArray) (fun a ha=>?_) (hK _ (wrote_setRow hb _))
   simp only[Nat.add_zero]at hst
   simp[execOp,ho,ha x (by simp[ho,Op.operands]) _ h1,ha y (by simp[ho,Op.operands]) _ h2,Instr.storeAt,Instr.sureAddr,storeVar,run_sizeOf_ok hk,hl',hst,setL]
 ·rename_i T ho
  split at h
  ·exact h.elim
  ·rename_i hz
   refine acts_value (w':={w with heap:=w.heap.push (.cells (zv P T).cells T)}) (fun a ha=>?_) (h.out _ ?_)
   ·simp[execOp,ho,Instr.alloc,run_zeroValue_ok hz,newVar,newRow]
   ·have:=newed_push w (.cells (zv P T).cells T)
    simpa [zc]using this
 ·rename_i T x ho
  obtain⟨v,h1,_,h⟩:=onV_elim h
  refine acts_value (w':={w with heap:=w.heap.push (.cells v.cells T)}) (fun a ha=>?_) (h.out _ ?_)
  ·simp[execOp,ho,ha x (by simp[ho,Op.operands]) _ h1,Instr.box,newVar,newRow]
  ·have:=newed_push w (.cells v.cells T)
   simpa using this
 ·rename_i t len ps ho
  obtain⟨vs,h,hm⟩:=partsQ_elim h
  obtain⟨v,w',hr,hK⟩:=bsQ_elim h
  refine acts_value (v:=v) (w':=w') (fun a ha=>?_) hK
  have e:ps.map (fun p=>(p.1,a.eval p.2))=vs.toArray:=by
   apply Array.ext'
   have:=hm a (fun x hx=>ha x (by simpa [ho,Op.operands]using hx))
   simpa using this
  simp[execOp,ho,e,hr]
 ·rename_i t l c ho
  obtain⟨v,h1,_,h⟩:=onV_elim h
  obtain⟨u,h2,_,h⟩:=onV_elim h
  obtain⟨r,w',hr,hK⟩:=exTy_elim h
  exact acts_value (w':=w') (fun a ha=>by simp[execOp,ho,ha l (by simp[ho,Op.operands]) v h1,ha c (by simp[ho,Op.operands]) u h2,hr]) hK
 ·rename_i t ho
  refine acts_value (w':={w with heap:=w.heap.push (.map #[] 0)}) (fun a ha=>?_) (h.out _ (newed_push w _))
  simp[execOp,ho,Instr.makeMap]
 ·rename_i t m k x ho
  obtain⟨v1,h1,_,h⟩:=onV_elim h
  obtain⟨v2,h2,_,h⟩:=onV_elim h
  obtain⟨v3,h3,_,h⟩:=onV_elim h
  obtain⟨w',hr,hK⟩:=h
  exact acts_skip (w':=w') (fun a ha=>by simp[execOp,ho,ha m (by simp[ho,Op.operands]) _ h1,ha k (by simp[ho,Op.operands]) _ h2,ha x (by simp[ho,Op.operands]) _ h3,hr]) hK
 ·rename_i t m k x ho
  obtain⟨v1,h1,_,h⟩:=onV_elim h
  obtain⟨v2,h2,_,h⟩:=onV_elim h
  obtain⟨v3,h3,_,h⟩:=onV_elim h
  obtain⟨w',hr,hK⟩:=h
  exact acts_skip (w':=w') (fun a ha=>by simp[execOp,ho,ha m (by simp[ho,Op.operands]) _ h1,ha k (by simp[ho,Op.operands]) _ h2,ha x (by simp[ho,Op.operands]) _ h3,hr]) hK
 ·rename_i c ho
  have hargs:∀{vs:List Value},(∀a:Act,(∀x∈c.args.toList,∀v,(evS E x).val?=some v->a.eval x=v)->c.args.toList.map a.eval=vs)->∀a,Reads E o a->c.args.map a.eval=vs.toArray:=by
   intro vs hm a ha
   apply Array.ext'
   have:=hm a (fun x hx=>ha x (by
    rw[ho]
    simp only[Op.operands,Call.operands,Array.mem_append]
    exact .inr (by simpa using hx)))
   simpa using this
  split at h
  ·rename_i f hcal
   split at h
   ·rename_i g first cap hf
    split at h
    ·rename_i hb
     obtain⟨vs,h,hm⟩:=argsQ_elim h
     intro a ha next Q hn
     have hfe:a.eval f=.func (.func g) first cap:=ha f (by simp[ho,Op.operands,Call.operands,hcal]) _ (by rw[hf];rfl)
     have e:=hargs hm a ha
     unfold Oper.wp
     have hrun:(execOp a.eval o).run P w=.ok (.enter g (first.toList++vs++cap.toList).toArray) w:=by
      have e2:(first++vs.toArray++cap)=(first.toList++vs++cap.toList).toArray:=by apply Array.ext';simp
      simp only[execOp,ho,resolve,hcal,hfe,e,Deferred.ofValue,Sem.run_bind,Sem.run_pure,Result.andThen_ok,invoke]
      rw[e2]
      exact callFunc_ok hP hb _
     rw[hrun,Oper.upon_enter]
     refine Calls.mono h.out (fun ee w' he=>?_)
     obtain⟨v,rfl,hK⟩:=exTy_elim he
     exact hn _ _ hK
    ·obtain⟨vs,h,hm⟩:=argsQ_elim h
     obtain⟨v,w',hr,hK⟩:=exTy_elim h|>.imp fun v h=>h
     refine acts_value (w':=w') (fun a ha=>?_) hK
     have hfe:a.eval f=.func (.func g) first cap:=ha f (by simp[ho,Op.operands,Call.operands,hcal]) _ (by rw[hf];rfl)
     have e:=hargs hm a ha
     have e2:(first++vs.toArray++cap)=(first.toList++vs++cap.toList).toArray:=by apply Array.ext';simp
     simp only[execOp,ho,resolve,hcal,hfe,e,Deferred.ofValue,Sem.run_bind,Sem.run_pure,Result.andThen_ok,invoke]
     rw[e2]
     exact hr
   ·exact h.elim
  ·rename_i hcal
   obtain⟨vs,h,hm⟩:=argsQ_elim h
   obtain⟨r,w',hr,hK⟩:=exTy_elim h
   exact acts_value (w':=w') (fun a ha=>by simp[execOp,ho,resolve,hcal,hargs hm a ha,invoke,builtin,hr]) hK
  ·rename_i hcal
   obtain⟨vs,h,hm⟩:=argsQ_elim h
   obtain⟨r,w',hr,hK⟩:=exTy_elim h
   exact acts_value (w':=w') (fun a ha=>by simp[execOp,ho,resolve,hcal,hargs hm a ha,invoke,builtin,hr]) hK
  ·rename_i hcal
   obtain⟨vs,h,hm⟩:=argsQ_elim h
   obtain⟨r,w',hr,hK⟩:=exTy_elim h
   exact acts_value (w':=w') (fun a ha=>by simp[execOp,ho,resolve,hcal,hargs hm a ha,invoke,builtin,hr]) hK
  ·rename_i hcal
   obtain⟨vs,h,hm⟩:=argsQ_elim h
   obtain⟨r,w',hr,hK⟩:=exTy_elim h
   exact acts_value (w':=w') (fun a ha=>by simp[execOp,ho,resolve,hcal,hargs hm a ha,invoke,builtin,hr]) hK
  ·rename_i hcal
   obtain⟨vs,h,hm⟩:=argsQ_elim h
   obtain⟨r,w',hr,hK⟩:=exTy_elim h
   exact acts_value (w':=w') (fun a ha=>by simp[execOp,ho,resolve,hcal,hargs hm a ha,invoke,builtin,hr]) hK
  ·exact h.elim
 ·exact h.elim
end
def isEff:Op->Bool
 | .store _ _ _=>true
 | .alloc _=>true
 | .box _ _=>true
 | .buildSlice _ _ _=>true
 | .makeSlice _ _ _=>true
 | .makeMap _ _=>true
 | .mapUpdate _ _ _ _=>true
 | .insert _ _ _ _=>true
 | .call c=>match c.callee with
  | .builtin .len=>false
  | _=>true
 | _=>false
def opA (P:Program) (o:Oper) (E:Env) (w:World) (K:SV->World->Prop):Prop:=match isEff o.op with
 | true=>opE P o E w K
 | false=>opQ P o E w fun s=>K s w
theorem opA_sound {P:Program} {o:Oper} {E:Env} {w:World} {K:SV->World->Prop} (hP:okP P=true) (h:opA P o E w K):Acts P o E w K:=by
 unfold opA at h
 split at h
 ·exact opE_sound hP h
 ·obtain⟨s,hq,_,hK⟩:=opQ_sound h
  exact hq.acts hK
def putQ (N:Nat) (E:Env) (dst:Option Tmp) (s:SV) (K:Env->Prop):Prop:=match dst with
 | none=>K E
 | some d=>match Nat.ble (d+1) N with
  | true=>K (E.put d s)
  | false=>False
theorem putQ_elim {N:Nat} {E:Env} {dst:Option Tmp} {s:SV} {K:Env->Prop} {a:Act} (h:putQ N E dst s K) (ha:Agree N E a):∃E',Agree N E' (a.put dst s.val)/\K E':=by
 unfold putQ at h
 cases dst with
 | none=>exact⟨E,ha,h⟩
 | some d=>
  simp only at h
  split at h
  ·rename_i hd
   exact⟨_,ha.put d (Nat.le_of_ble_eq_true hd) s,h⟩
  ·exact h.elim
def dstOf (ops:List Oper) (j:Nat):Option Tmp:=match ops[j]? with
 | some o=>o.dst
 | none=>none
def guardQ (ops:List Oper) (o:Oper) (E:Env) (run skip:Env->Prop):Prop:=match o.guard with
 | none=>run E
 | some (j,want)=>match dstOf ops j with
  | none=>False
  | some d=>match E.get d with
   | .b true=>match want with
    | true=>run E
    | false=>skip E
   | .b false=>match want with
    | true=>skip E
    | false=>run E
   | .v (.bool x)=>(x=want->run (E.put d (.b want)))/\(x=(!want)->skip (E.put d (.b (!want))))
   | .v (.tuple _)=>skip E
   | _=>False
def GReads (ops:List Oper) (E:Env) (o:Oper) (a:Act):Prop:=
 ∀j want d,o.guard=some (j,want)->dstOf ops j=some d->∀v,(E.get d).val?=some v->a.tmps[d]?=some v
def SameVals (E E':Env):Prop:=∀t,(E'.get t).val?=(E.get t).val?
theorem SameVals.refl (E:Env):SameVals E E:=fun _=>rfl
theorem sameVals_setb {E:Env} {d:Nat} {b:Bool} (h:(E.get d).val?=some (.bool b)):SameVals E (E.put d (.b b)):=by
 intro t
 rw[Env.get_put]
 split
 ·rename_i ht;subst ht;rw[h];rfl
 ·rfl
theorem Agree.same {N:Nat} {E E':Env} {a:Act} (h:Agree N E a) (hs:SameVals E E'):Agree N E' a:=
 ⟨h.size,h.nod,fun t x hx=>h.vals t x (by rw[<-hs t];exact hx)⟩
theorem Agree.greads {N:Nat} {E:Env} {a:Act} (h:Agree N E a) (ops:List Oper) (o:Oper):GReads ops E o a:=fun _ _ d _ _ v hv=>h.vals d v hv
def wantedAt (ops:Array Oper) (o:Oper) (a:Act):Bool:=Region.wanted o (yielded ops a.tmps)
theorem yielded_eq {ops:Array Oper} {l:List Oper} (hl:ops.toList=l) {a:Act} {j d:Nat} (hd:dstOf l j=some d):yielded ops a.tmps j=match a.tmps[d]? with|some (.bool b)=>some b|_=>none:=by
 have h1:(ops[j]?).bind (·.dst)=some d:=by
  subst hl
  unfold dstOf at hd
  cases h:ops[j]? with
  | none=>simp[h]at hd
  | some o=>simpa [h]using hd
 unfold yielded
 rw[h1]
 rfl
theorem guardQ_elim {ops:Array Oper} {l:List Oper} (hl:ops.toList=l) {o:Oper} {E:Env} {run skip:Env->Prop} (h:guardQ l o E run skip) :
  ∃E',SameVals E E'/\((run E'/\∀a,GReads l E o a->wantedAt ops o a=true)∨(skip E'/\∀a,GReads l E o a->wantedAt ops o a=false)):=by
 unfold guardQ at h
 split at h
 ·rename_i hg
  exact⟨E,.refl E,.inl ⟨h,fun a _=>by simp[wantedAt,Region.wanted,hg]⟩⟩
 ·rename_i j want hg
  split at h
  ·exact h.elim
  ·rename_i d hd
   have key:∀(a:Act) (v:Value),GReads l E o a->(E.get d).val?=some v->wantedAt ops o a=((match v with|.bool b=>some b|_=>none)==some want):=by
    intro a v ha hv
    simp only[wantedAt,Region.wanted,hg]
    rw[yielded_eq hl hd,ha j want d hg hd v hv]
    cases v<;>rfl
   split at h
   ·rename_i he
    cases want with
    | true=>exact⟨E,.refl E,.inl ⟨h,fun a ha=>by rw[key a _ ha (by rw[he];rfl)];rfl⟩⟩
    | false=>exact⟨E,.refl E,.inr ⟨h,fun a ha=>by rw[key a _ ha (by rw[he];rfl)];rfl⟩⟩
   ·rename_i he
    cases want with
    | true=>exact⟨E,.refl E,.inr ⟨h,fun a ha=>by rw[key a _ ha (by rw[he];rfl)];rfl⟩⟩
    | false=>exact⟨E,.refl E,.inl ⟨h,fun a ha=>by rw[key a _ ha (by rw[he];rfl)];rfl⟩⟩
   ·rename_i x he
    by_cases hx:x=want
    ·subst hx
     exact⟨_,sameVals_setb (by rw[he];rfl),.inl ⟨h.1 rfl,fun a ha=>by rw[key a _ ha (by rw[he];rfl)];simp⟩⟩
    ·have hx':x = !want:=by cases x<;>cases want<;>simp_all
     subst hx'
     exact⟨_,sameVals_setb (by rw[he];rfl),.inr ⟨h.2 rfl,fun a ha=>by rw[key a _ ha (by rw[he];rfl)];cases want<;>rfl⟩⟩
   ·rename_i he
    exact⟨E,.refl E,.inr ⟨h,fun a ha=>by rw[key a _ ha (by rw[he];rfl)];rfl⟩⟩
   ·exact h.elim
def seqR (P:Program) (N:Nat) (ops:List Oper):List Oper->Env->World->(Env->World->Prop)->Prop
 | [],E,w,K=>K E w
 | o::os,E,w,K=>guardQ ops o E
   (fun E=>opA P o E w fun s w'=>putQ N E o.dst s fun E=>seqR P N ops os E w' K)
   (fun E=>putQ N E o.dst (.v undef) fun E=>seqR P N ops os E w K)
theorem seqR_sound {P:Program} {N:Nat} {ops:Array Oper} {l:List Oper} (hP:okP P=true) (hl:ops.toList=l) {Q:Exit->Act->World->Prop} {K:Env->World->Prop}
  (hQ:∀E a w,Agree N E a->K E w->Q .normal a w):∀(os:List Oper) (E:Env) (a:Act) (w:World),Agree N E a->seqR P N l os E w K->wpList P ops Q os a w
 | [],E,a,w,ha,h=>hQ E a w ha h
 | o::os,E,a,w,ha,h=>by
  obtain⟨E',hs,h⟩:=guardQ_elim hl h
  have ha':=ha.same hs
  unfold wpList
  rcases h with⟨h,hw⟩|⟨h,hw⟩
  ·have hw:=hw a (ha.greads l o)
   unfold wantedAt at hw
   rw[if_pos hw]
   refine .inl (opA_sound hP h a (ha'.reads o) _ Q (fun s w' hp=>?_))
   obtain⟨E2,ha2,hp⟩:=putQ_elim hp ha'
   exact seqR_sound hP hl hQ os E2 _ w' ha2 hp
  ·have hw:=hw a (ha.greads l o)
   unfold wantedAt at hw
   rw[if_neg (by rw[hw];simp)]
   obtain⟨E2,ha2,hp⟩:=putQ_elim h ha'
   exact seqR_sound hP hl hQ os E2 _ w ha2 hp
def bindE (e:Edge):Bool:=match e.ground with
 | .textOnly _=>false
 | .gcOnly _=>false
 | _=>true
theorem binds_any (e:Edge):Region.binds .any e=bindE e:=by
 obtain⟨on,g⟩:=e
 cases g<;>rfl
def befOf (B:List Nat) (es:List Edge):Nat:=es.foldr (fun e s=>match bindE e with
 | true=>s||| (2 ^ e.on||| B.getD e.on 0)
 | false=>s) 0
def befs:List Oper->List Nat->List Nat
 | [],B=>B
 | o::os,B=>befs os (B++[befOf B o.after.toList])
def slotsOf (ops:List Oper) (o:Oper):List Tmp:=
 (o.op.operands.toList.filterMap fun x=>match x with
  | .tmp t=>some t
  | _=>none)++
 (match o.guard with
   | some (j,_)=>(dstOf ops j).toList
   | none=>[])
def beqT (x:Option Tmp) (t:Tmp):Bool:=match x with
 | some d=>Nat.beq d t
 | none=>false
def chkB (N:Nat) (B:List Nat):Nat->List Oper->Bool
 | _,[]=>true
 | i,o::os=>Nat.beq (B.getD i 0) (befOf B o.after.toList)&&o.after.toList.all (fun e=>!bindE e||Nat.ble (e.on+1) i)&&
   (match o.dst with
       | some d=>Nat.ble (d+1) N
       | none=>true)&&chkB N B (i+1) os
def chkW1 (ops:List Oper) (B:List Nat) (i:Nat) (o:Oper) (t:Tmp):Nat->List Oper->Bool
 | _,[]=>true
 | j,p::ps=>(!beqT p.dst t||Nat.beq i j||(B.getD i 0).testBit j||(B.getD j 0).testBit i)&&chkW1 ops B i o t (j+1) ps
def chkW (ops:List Oper) (B:List Nat):Nat->List Oper->Bool
 | _,[]=>true
 | i,o::os=>(slotsOf ops o).all (fun t=>chkW1 ops B i o t 0 ops)&&(match o.dst with
   | some d=>os.all fun p=>!beqT p.dst d
   | none=>true)&&chkW ops B (i+1) os
def stabQ (P:Program) (o:Oper) (E:Env) (w:World) (s:SV):Prop:=match o.op with
 | .load t a=>match aggT P t with
  | false=>match okT P t with
   | true=>onV (evS E a) fun v=>onAd v fun ad=>w.cell? ad=some s.val
   | false=>False
  | true=>match okT P t with
   | true=>match s with
    | .v (.agg cs)=>match Nat.beq cs.toList.length (szT P t)with
     | true=>onV (evS E a) fun v=>onAd v fun ad=>CellsAt w ad cs.toList
     | false=>False
    | _=>Quiet P o E w s
   | false=>False
 | _=>Quiet P o E w s
def stabs (P:Program) (ops:List Oper) (Bi:Nat) (w:World):List (Nat×Env×SV)->Prop->Prop
 | [],X=>X
 | (j,E,s)::r,X=>match Bi.testBit j with
  | true=>stabs P ops Bi w r X
  | false=>match ops[j]? with
   | some o=>stabQ P o E w s/\stabs P ops Bi w r X
   | none=>False
section draw
variable {P:Program} {N:Nat} {opa:Array Oper} {ops:List Oper} {B:List Nat} {E0:Env} {a0:Act}
theorem stabQ_quiet {o:Oper} {E:Env} {w:World} {s:SV} (h:stabQ P o E w s):Quiet P o E w s:=by
 unfold stabQ at h
 split at h
 ·rename_i t x ho
  split at h
  ·rename_i hg
   split at h
   ·rename_i hk
    obtain⟨v,h1,_,h⟩:=onV_elim h
    obtain⟨ad,hp,hc⟩:=onAd_elim h
    subst hp
    intro a ha
    have hl:(loadVar t ad).run P w=.ok s.val w:=by simp[loadVar,run_isAgg_ok hk,hg,hc]
    simp[execOp,ho,ha x (by simp[ho,Op.operands]) _ h1,Instr.loadAt,Instr.sureAddr,hl]
   ·exact h.elim
  ·rename_i hg
   split at h
   ·rename_i hk
    split at h
    ·rename_i cs
     split at h
     ·rename_i hb
      obtain⟨v,h1,_,h⟩:=onV_elim h
      obtain⟨ad,hp,hc⟩:=onAd_elim h
      subst hp
      intro a ha
      have hlen:=Nat.eq_of_beq_eq_true hb
      have hl:(loadVar t ad).run P w=.ok (.agg cs) w:=by
       have:=run_loadCells_list (P:=P) w ad cs.toList hc
       simp only[Array.length_toList]at hlen
       simp[loadVar,run_isAgg_ok hk,hg,run_sizeOf_ok hk,<-hlen]at this⊢
       rw[this];rfl
      simp[execOp,ho,ha x (by simp[ho,Op.operands]) _ h1,Instr.loadAt,Instr.sureAddr,hl,SV.val]
     ·exact h.elim
    ·exact h
   ·exact h.elim
 ·exact h
theorem stabs_elim {Bi:Nat} {w:World}:∀{pend:List (Nat×Env×SV)} {X:Prop},stabs P ops Bi w pend X->
  X/\∀j E s,(j,E,s)∈pend->Bi.testBit j=false->∃o,ops[j]?=some o/\Quiet P o E w s
 | [],_,h=>⟨h,fun _ _ _ hm=>by cases hm⟩
 | (j,E,s)::r,X,h=>by
  unfold stabs at h
  split at h
  ·rename_i hb
   obtain⟨hX,hr⟩:=stabs_elim h
   refine⟨hX,fun j' E' s' hm hb'=>?_⟩
   rcases List.mem_cons.1 hm with he|hm
   ·cases he;rw[hb]at hb';cases hb'
   ·exact hr j' E' s' hm hb'
  ·split at h
   ·rename_i o ho
    obtain⟨hX,hr⟩:=stabs_elim h.2
    refine⟨hX,fun j' E' s' hm hb'=>?_⟩
    rcases List.mem_cons.1 hm with he|hm
    ·cases he;exact⟨o,ho,stabQ_quiet h.1⟩
    ·exact hr j' E' s' hm hb'
   ·exact h.elim
def writes (ops:List Oper) (j:Nat) (t:Tmp):Prop:=dstOf ops j=some t
theorem writes_lt {j:Nat} {t:Tmp} (h:writes ops j t):∃o,ops[j]?=some o/\o.dst=some t:=by
 unfold writes dstOf at h
 cases ho:ops[j]? with
 | none=>rw[ho]at h;cases h
 | some o=>rw[ho]at h;exact⟨o,rfl,h⟩
theorem writes_iff {j:Nat} {t:Tmp} {o:Oper} (ho:ops[j]?=some o):writes ops j t↔o.dst=some t:=by
 simp[writes,dstOf,ho]
theorem beqT_iff {x:Option Tmp} {t:Tmp}:beqT x t=true↔x=some t:=by
 cases x with
 | none=>simp[beqT]
 | some d=>simp[beqT]
theorem chkB_at:∀{os:List Oper} {k:Nat},chkB N B k os=true->∀i o,os[i]?=some o->
  B.getD (k+i) 0=befOf B o.after.toList/\(∀e∈o.after.toList,bindE e=true->e.on<k+i)/\(∀d,o.dst=some d->d<N)
 | [],_,_,i,o,ho=>by simp at ho
 | p::os,k,h,i,o,ho=>by
  simp only[chkB,Bool.and_eq_true]at h
  obtain⟨⟨⟨h1,h2⟩,h3⟩,h4⟩:=h
  cases i with
  | zero=>
   simp only[List.getElem?_cons_zero,Option.some.injEq]at ho
   subst ho
   refine⟨Nat.eq_of_beq_eq_true h1,fun e he hb=>?_,fun d hd=>?_⟩
   ·have:=List.all_eq_true.1 h2 e he
    rw[hb]at this
    exact Nat.le_of_ble_eq_true (by simpa using this)
   ·rw[hd]at h3
    exact Nat.le_of_ble_eq_true h3
  | succ i=>
   have:=chkB_at h4 i o (by simpa using ho)
   rw[show k+1+i=k+(i+1) by omega]at this
   exact this
theorem befOf_bit {es:List Edge} {j:Nat}:(befOf B es).testBit j=true↔∃e∈es,bindE e=true/\(e.on=j∨(B.getD e.on 0).testBit j=true):=by
 induction es with
 | nil=>simp[befOf]
 | cons e es ih=>
  simp only[befOf,List.foldr_cons]
  rw[show es.foldr (fun e s=>match bindE e with|true=>s||| (2 ^ e.on||| B.getD e.on 0)|false=>s) 0=befOf B es from rfl]
  cases hb:bindE e with
  | false=>
   simp only[List.mem_cons]
   rw[ih]
   constructor
   ·rintro⟨x,hx,h⟩;exact⟨x,.inr hx,h⟩
   ·rintro⟨x,rfl|hx,h⟩
    ·rw[hb]at h;cases h.1
    ·exact⟨x,hx,h⟩
  | true=>
   simp only[Nat.testBit_or,Bool.or_eq_true,ih,Nat.testBit_two_pow,decide_eq_true_eq,List.mem_cons]
   constructor
   ·rintro(⟨x,hx,h⟩|h)
    ·exact⟨x,.inr hx,h⟩
    ·exact⟨e,.inl rfl,hb,h⟩
   ·rintro⟨x,rfl|hx,h⟩
    ·exact .inr h.2
    ·exact .inl ⟨x,hx,h⟩
theorem chkW1_at {i:Nat} {o:Oper} {t:Tmp}:∀{ps:List Oper} {k:Nat},chkW1 ops B i o t k ps=true->∀j p,ps[j]?=some p->p.dst=some t->
  i=k+j∨(B.getD i 0).testBit (k+j)=true∨(B.getD (k+j) 0).testBit i=true
 | [],_,_,j,p,hp,_=>by simp at hp
 | q::ps,k,h,j,p,hp,ht=>by
  simp only[chkW1,Bool.and_eq_true,Bool.or_eq_true]at h
  cases j with
  | zero=>
   simp only[List.getElem?_cons_zero,Option.some.injEq]at hp
   subst hp
   rcases h.1 with((h1|h1)|h1)|h1
   ·rw[beqT_iff.2 ht]at h1;cases h1
   ·exact .inl (Nat.eq_of_beq_eq_true h1)
   ·exact .inr (.inl h1)
   ·exact .inr (.inr h1)
  | succ j=>
   have:=chkW1_at h.2 j p (by simpa using hp) ht
   rw[show k+1+j=k+(j+1) by omega]at this
   exact this
theorem chkW_at:∀{os:List Oper} {k:Nat},chkW ops B k os=true->∀i o,os[i]?=some o->
  (∀t∈slotsOf ops o,chkW1 ops B (k+i) o t 0 ops=true)/\(∀d,o.dst=some d->∀j p,i<j->os[j]?=some p->p.dst≠some d)
 | [],_,_,i,o,ho=>by simp at ho
 | q::os,k,h,i,o,ho=>by
  simp only[chkW,Bool.and_eq_true]at h
  obtain⟨⟨h1,h2⟩,h3⟩:=h
  cases i with
  | zero=>
   simp only[List.getElem?_cons_zero,Option.some.injEq]at ho
   subst ho
   refine⟨fun t ht=>List.all_eq_true.1 h1 t ht,fun d hd j p hj hp=>?_⟩
   rw[hd]at h2
   cases j with
   | zero=>omega
   | succ j=>
    have:=List.all_eq_true.1 h2 p (List.mem_of_getElem? (by simpa using hp))
    intro hpd
    rw[beqT_iff.2 hpd]at this
    cases this
  | succ i=>
   have:=chkW_at h3 i o (by simpa using ho)
   rw[show k+1+i=k+(i+1) by omega]at this
   refine⟨this.1,fun d hd j p hj hp=>?_⟩
   cases j with
   | zero=>omega
   | succ j=>exact this.2 d hd j p (by omega) (by simpa using hp)
structure Good (N:Nat) (ops:List Oper) (B:List Nat):Prop where
 edge:∀i o,ops[i]?=some o->B.getD i 0=befOf B o.after.toList/\(∀e∈o.after.toList,bindE e=true->e.on<i)/\(∀d,o.dst=some d->d<N)
 cmp:∀i o,ops[i]?=some o->∀t∈slotsOf ops o,∀j,writes ops j t->i=j∨(B.getD i 0).testBit j=true∨(B.getD j 0).testBit i=true
 once:∀i j t,writes ops i t->writes ops j t->i=j
theorem good_of (h1:chkB N B 0 ops=true) (h2:chkW ops B 0 ops=true):Good N ops B:=by
 refine⟨fun i o ho=>?_,fun i o ho t ht j hj=>?_,fun i j t hi hj=>?_⟩
 ·have:=chkB_at h1 i o ho
  rwa [Nat.zero_add]at this
 ·have:=(chkW_at h2 i o ho).1 t ht
  rw[Nat.zero_add]at this
  obtain⟨p,hp,hd⟩:=writes_lt hj
  have:=chkW1_at this j p hp hd
  rwa [Nat.zero_add]at this
 ·obtain⟨p,hp,hd⟩:=writes_lt hi
  obtain⟨q,hq,hd2⟩:=writes_lt hj
  rcases Nat.lt_trichotomy i j with h|h|h
  ·exact absurd hd2 ((chkW_at h2 i p hp).2 t hd j q h hq)
  ·exact h
  ·exact absurd hd ((chkW_at h2 j q hq).2 t hd2 i p h hp)
def ClosedM (B:List Nat) (m:Nat):Prop:=∀j,m.testBit j=true->∀k,(B.getD j 0).testBit k=true->m.testBit k=true
def ClosedB (B:List Nat) (b:Nat->Bool):Prop:=∀j,b j=true->∀k,(B.getD j 0).testBit k=true->b k=true
def EnvOK (ops:List Oper) (E0:Env) (m:Nat) (V:Nat->Value) (E:Env):Prop:=
 ∀t x,(E.get t).val?=some x->(∀j,writes ops j t->m.testBit j=true->V j=x)/\((∀j,writes ops j t->m.testBit j=false)->(E0.get t).val?=some x)
structure ActOK (N:Nat) (ops:List Oper) (a0:Act) (b:Nat->Bool) (V:Nat->Value) (a:Act):Prop where
 size:a.tmps.size=N
 nod:a.defers=[]
 done:∀t j,writes ops j t->b j=true->a.tmps[t]?=some (V j)
 old:∀t,(∀j,writes ops j t->b j=false)->a.tmps[t]?=a0.tmps[t]?
theorem EnvOK.same {m:Nat} {V:Nat->Value} {E E':Env} (h:EnvOK ops E0 m V E) (hs:SameVals E E'):EnvOK ops E0 m V E':=
 fun t x hx=>h t x (by rw[<-hs t];exact hx)
theorem slot_read (hg:Good N ops B) (h0:Agree N E0 a0) {m:Nat} {b:Nat->Bool} {V:Nat->Value} {E:Env} {a:Act} {i:Nat} {o:Oper}
  (hm:ClosedM B m) (hb:ClosedB B b) (hE:EnvOK ops E0 m V E) (ha:ActOK N ops a0 b V a) (ho:ops[i]?=some o)
  (him:m.testBit i=false) (hib:b i=false) (hBm:∀k,(B.getD i 0).testBit k=true->m.testBit k=true) (hBb:∀k,(B.getD i 0).testBit k=true->b k=true)
  {t:Tmp} (ht:t∈slotsOf ops o) {x:Value} (hx:(E.get t).val?=some x):a.tmps[t]?=some x:=by
 have hno:∀j,writes ops j t->(i=j∨(B.getD j 0).testBit i=true)->m.testBit j=false/\b j=false:=by
  intro j _ hc
  rcases hc with rfl|hc
  ·exact⟨him,hib⟩
  ·refine⟨?_,?_⟩
   ·cases hmj:m.testBit j with
    | false=>rfl
    | true=>rw[hm j hmj i hc]at him;cases him
   ·cases hbj:b j with
    | false=>rfl
    | true=>rw[hb j hbj i hc]at hib;cases hib
 by_cases hw:∃j,writes ops j t
 ·obtain⟨j,hj⟩:=hw
  rcases hg.cmp i o ho t ht j hj with hc|hc|hc
  ·obtain⟨h1,h2⟩:=hno j hj (.inl hc)
   have hall:∀k,writes ops k t->k=j:=fun k hk=>hg.once k j t hk hj
   rw[ha.old t (fun k hk=>by rw[hall k hk];exact h2)]
   exact h0.vals t x ((hE t x hx).2 (fun k hk=>by rw[hall k hk];exact h1))
  ·rw[ha.done t j hj (hBb j hc),(hE t x hx).1 j hj (hBm j hc)]
  ·obtain⟨h1,h2⟩:=hno j hj (.inr hc)
   have hall:∀k,writes ops k t->k=j:=fun k hk=>hg.once k j t hk hj
   rw[ha.old t (fun k hk=>by rw[hall k hk];exact h2)]
   exact h0.vals t x ((hE t x hx).2 (fun k hk=>by rw[hall k hk];exact h1))
 ·rw[ha.old t (fun k hk=>absurd ⟨k,hk⟩ hw)]
  exact h0.vals t x ((hE t x hx).2 (fun k hk=>absurd ⟨k,hk⟩ hw))
theorem reads_of {E:Env} {o:Oper} {a:Act} (h:∀t∈slotsOf ops o,∀x,(E.get t).val?=some x->a.tmps[t]?=some x):Reads E o a/\GReads ops E o a:=by
 constructor
 ·intro x hx v hv
  cases x with
  | tmp t=>
   have ht:t∈slotsOf ops o:=by
    unfold slotsOf
    refine List.mem_append.2 (.inl (List.mem_filterMap.2 ⟨.tmp t,by simpa using hx,rfl⟩))
   have:=h t ht v hv
   simp[Act.eval,this]
  | const c=>cases c<;>simp_all [evS,SV.val?,Act.eval]
  | global g=>simpa [evS,SV.val?,Act.eval]using hv
  | func f=>simpa [evS,SV.val?,Act.eval]using hv
 ·intro j want d hg hd v hv
  refine h d ?_ v hv
  unfold slotsOf
  refine List.mem_append.2 (.inr ?_)
  rw[hg]
  simp[hd]
def upB (b:Nat->Bool) (i:Nat):Nat->Bool:=fun j=>if j=i then true else b j
def upV (V:Nat->Value) (i:Nat) (v:Value):Nat->Value:=fun j=>if j=i then v else V j
theorem actOK_put (hg:Good N ops B) {b:Nat->Bool} {V:Nat->Value} {a:Act} {i:Nat} {o:Oper} (ha:ActOK N ops a0 b V a) (ho:ops[i]?=some o) (v:Value) (hv:V i=v) :
  ActOK N ops a0 (upB b i) V (a.put o.dst v):=by
 cases hd:o.dst with
 | none=>
  refine⟨ha.size,ha.nod,fun t j hj hb=>?_,fun t hall=>?_⟩
  ·have hji:j≠i:=by
    rintro rfl
    rw[writes_iff ho,hd]at hj
    cases hj
   simp only[upB,hji,if_false]at hb
   exact ha.done t j hj hb
  ·refine ha.old t (fun j hj=>?_)
   have:=hall j hj
   simp only[upB]at this
   split at this
   ·cases this
   ·exact this
 | some d=>
  have hdN:=(hg.edge i o ho).2.2 d hd
  have hwi:writes ops i d:=(writes_iff ho).2 hd
  refine⟨by simpa [Act.put]using ha.size,ha.nod,fun t j hj hb=>?_,fun t hall=>?_⟩
  ·by_cases hji:j=i
   ·subst hji
    have:d=t:=by unfold writes at hwi hj;rw[hwi]at hj;exact Option.some.inj hj
    subst this
    simp[Act.put,ha.size,hdN,hv]
   ·simp only[upB,hji,if_false]at hb
    have hne:d≠t:=fun e=>hji (hg.once j i t hj (e ▸ hwi))
    simp only[Act.put]
    rw[Array.getElem?_setIfInBounds_ne hne]
    exact ha.done t j hj hb
  ·have hne:d≠t:=fun e=>by
    have:=hall i (e ▸ hwi)
    simp[upB]at this
   simp only[Act.put]
   rw[Array.getElem?_setIfInBounds_ne hne]
   refine ha.old t (fun j hj=>?_)
   have:=hall j hj
   simp only[upB]at this
   split at this
   ·cases this
   ·exact this
theorem testBit_or_pow {m i j:Nat}:(m||| 2 ^ i).testBit j=(m.testBit j||decide (i=j)):=by
 rw[Nat.testBit_or,Nat.testBit_two_pow]
theorem envOK_put (hg:Good N ops B) {m:Nat} {V:Nat->Value} {E:Env} {i:Nat} {o:Oper} (hE:EnvOK ops E0 m V E) (ho:ops[i]?=some o) (him:m.testBit i=false) {s:SV} {K:Env->Prop}
  (h:putQ N E o.dst s K):∃E',K E'/\EnvOK ops E0 (m||| 2 ^ i) (upV V i s.val) E':=by
 unfold putQ at h
 cases hd:o.dst with
 | none=>
  rw[hd]at h
  refine⟨E,h,fun t x hx=>⟨fun j hj hb=>?_,fun hall=>?_⟩⟩
  ·have hji:j≠i:=by
    rintro rfl
    rw[writes_iff ho,hd]at hj
    cases hj
   rw[testBit_or_pow]at hb
   simp only[upV,hji,if_false]
   exact(hE t x hx).1 j hj (by simpa [Ne.symm hji]using hb)
  ·refine(hE t x hx).2 (fun j hj=>?_)
   have:=hall j hj
   rw[testBit_or_pow]at this
   simp only[Bool.or_eq_false_iff]at this
   exact this.1
 | some d=>
  rw[hd]at h
  simp only at h
  split at h
  ·have hwi:writes ops i d:=(writes_iff ho).2 hd
   refine⟨_,h,fun t x hx=>?_⟩
   rw[Env.get_put]at hx
   by_cases ht:t=d
   ·subst ht
    rw[if_pos rfl]at hx
    refine⟨fun j hj _=>?_,fun hall=>?_⟩
    ·have:j=i:=hg.once j i t hj hwi
     subst this
     simp only[upV,if_true]
     cases s<;>simp_all [SV.val?,SV.val]
    ·have:=hall i hwi
     rw[testBit_or_pow]at this
     simp at this
   ·rw[if_neg ht]at hx
    refine⟨fun j hj hb=>?_,fun hall=>?_⟩
    ·have hji:j≠i:=by
      rintro rfl
      unfold writes at hwi hj
      rw[hwi]at hj
      exact ht (Option.some.inj hj).symm
     rw[testBit_or_pow]at hb
     simp only[upV,hji,if_false]
     exact(hE t x hx).1 j hj (by simpa [Ne.symm hji]using hb)
    ·refine(hE t x hx).2 (fun j hj=>?_)
     have:=hall j hj
     rw[testBit_or_pow]at this
     simp only[Bool.or_eq_false_iff]at this
     exact this.1
  ·exact h.elim
end draw
section draw2
variable {P:Program} {N:Nat} {opa:Array Oper} {ops:List Oper} {B:List Nat} {E0:Env} {a0:Act} {K:Env->World->Prop}
def Told (P:Program) (ops:List Oper) (opa:Array Oper) (B:List Nat) (E0:Env) (m:Nat) (V:Nat->Value) (w:World) (pend:List (Nat×Env×SV)) (i:Nat):Prop:=
 ∃o E mi,ops[i]?=some o/\ClosedM B mi/\mi.testBit i=false/\(∀k,(B.getD i 0).testBit k=true->mi.testBit k=true)/\(∀k,mi.testBit k=true->m.testBit k=true)/\
  EnvOK ops E0 mi V E/\
  (((∀a,GReads ops E o a->wantedAt opa o a=true)/\∃s,Quiet P o E w s/\(readsMem P o=false->∀w',Quiet P o E w' s)/\(readsMem P o=true->(i,E,s)∈pend)/\s.val=V i)∨
     ((∀a,GReads ops E o a->wantedAt opa o a=false)/\V i=undef))
theorem envOK_upV {m mi:Nat} {V:Nat->Value} {E:Env} {i:Nat} (h:EnvOK ops E0 mi V E) (hs:∀k,mi.testBit k=true->m.testBit k=true) (him:m.testBit i=false) (v:Value) :
  EnvOK ops E0 mi (upV V i v) E:=fun t x hx=>⟨fun j hj hb=>by
   have:j≠i:=by rintro rfl;rw[hs j hb]at him;cases him
   simp only[upV,this,if_false]
   exact(h t x hx).1 j hj hb,(h t x hx).2⟩
theorem told_up {m:Nat} {V:Nat->Value} {w:World} {pend pend':List (Nat×Env×SV)} {i j:Nat} {v:Value} (h:Told P ops opa B E0 m V w pend j) (hj:m.testBit j=true)
  (him:m.testBit i=false) (hp:∀x,x∈pend->x∈pend'):Told P ops opa B E0 (m||| 2 ^ i) (upV V i v) w pend' j:=by
 obtain⟨o,E,mi,h1,h2,h3,h4,h5,h6,h7⟩:=h
 have hji:j≠i:=by rintro rfl;rw[hj]at him;cases him
 refine⟨o,E,mi,h1,h2,h3,h4,fun k hk=>by rw[testBit_or_pow,h5 k hk];rfl,envOK_upV h6 h5 him v,?_⟩
 simp only[upV,hji,if_false]
 rcases h7 with⟨h7,s,h8,h9,h10,h11⟩|h7
 ·exact .inl ⟨h7,s,h8,h9,fun hr=>hp _ (h10 hr),h11⟩
 ·exact .inr h7
theorem closedM_or {m i:Nat} (h:ClosedM B m) (hB:∀k,(B.getD i 0).testBit k=true->m.testBit k=true):ClosedM B (m||| 2 ^ i):=by
 intro j hj k hk
 rw[testBit_or_pow]at hj⊢
 simp only[Bool.or_eq_true,decide_eq_true_eq]at hj⊢
 rcases hj with hj|rfl
 ·exact .inl (h j hj k hk)
 ·exact .inl (hB k hk)
def lsB (l:Array Bool):Nat->Bool:=fun i=>l.getD i false
theorem mem_ready {l:Array Bool} (hl:opa.toList=ops) (hs:l.size=ops.length) {i:Nat} (hi:i∈Region.ready .any opa l) :
  ∃o,ops[i]?=some o/\lsB l i=false/\∀e∈o.after.toList,bindE e=true->e.on<ops.length->lsB l e.on=true:=by
 unfold Region.ready at hi
 rw[List.mem_filter,List.mem_range]at hi
 obtain⟨h1,h2⟩:=hi
 have hsz:opa.size=ops.length:=by rw[<-hl];simp
 simp only[Bool.and_eq_true]at h2
 obtain⟨h2,h3⟩:=h2
 have hget:opa[i]?=some opa[i]:=Array.getElem?_eq_getElem h1
 have ho:ops[i]?=some opa[i]:=by rw[<-hl];simp
 refine⟨_,ho,?_,fun e he hb hlt=>?_⟩
 ·have hil:i<l.size:=by omega
  simp only[lsB,Array.getD_eq_getD_getElem?,Array.getElem?_eq_getElem hil,Option.getD_some]at h2⊢
  simpa using h2
 ·rw[hget]at h3
  simp only[Option.map_some,Option.getD_some]at h3
  rw[<-Array.all_toList]at h3
  have:=List.all_eq_true.1 h3 e he
  rw[binds_any,hb]at this
  simpa [lsB]using this
end draw2
inductive OT where
 | fin
 | step (i:Nat) (t:OT)
 | alt (a b:OT)
def OT.heads:OT->List Nat
 | .fin=>[]
 | .step i _=>[i]
 | .alt a b=>a.heads++b.heads
def effAt (ops:List Oper) (i:Nat):Bool:=match ops[i]? with
 | some o=>isEff o.op
 | none=>false
def freeAt (ops:List Oper) (i:Nat):Bool:=match ops[i]? with
 | some o=>(match o.guard with|none=>true|some _=>false)
 | none=>false
def covT (ops:List Oper) (B:List Nat) (m:Nat) (l:List Nat):Bool:=(List.range ops.length).all fun i=>m.testBit i||l.any (Nat.beq i)||!(Nat.beq (B.getD i 0&&& m) (B.getD i 0))
def chkT (ops:List Oper) (B:List Nat):Nat->Bool->OT->Bool
 | m,_,.fin=>Nat.beq m (2 ^ ops.length-1)
 | m,al,.step i t=>Nat.ble (i+1) ops.length&&!m.testBit i&&Nat.beq (B.getD i 0&&& m) (B.getD i 0)&&
   (match al with
    | true=>effAt ops i&&freeAt ops i
    | false=>(!effAt ops i||covT ops B m [i]))&&chkT ops B (m||| 2 ^ i) false t
 | m,al,.alt a b=>(match al with
    | true=>true
    | false=>!(a.heads++b.heads).isEmpty&&covT ops B m (a.heads++b.heads))&&chkT ops B m true a&&chkT ops B m true b
def drawT (P:Program) (N:Nat) (ops:List Oper) (B:List Nat):OT->Env->World->List (Nat×Env×SV)->(Env->World->Prop)->Prop
 | .fin,E,w,_,K=>K E w
 | .step i L,E,w,pend,K=>match ops[i]? with
  | none=>False
  | some o=>guardQ ops o E
   (fun E=>match isEff o.op with
    | false=>opQ P o E w fun s=>putQ N E o.dst s fun E'=>drawT P N ops B L E' w (match readsMem P o with
     | true=>(i,E,s)::pend
     | false=>pend) K
    | true=>opE P o E w fun s w'=>stabs P ops (B.getD i 0) w' pend (putQ N E o.dst s fun E'=>drawT P N ops B L E' w' pend K))
   (fun E=>putQ N E o.dst (.v undef) fun E'=>drawT P N ops B L E' w pend K)
 | .alt a b,E,w,pend,K=>drawT P N ops B a E w pend K/\drawT P N ops B b E w pend K
def drawTQ (P:Program) (N:Nat) (ops:List Oper) (L:OT) (E:Env) (w:World) (K:Env->World->Prop):Prop:=
 match chkB N (befs ops []) 0 ops&&chkW ops (befs ops []) 0 ops&&chkT ops (befs ops []) 0 false L with
 | true=>∀w',w'.heap=w.heap->w'.os=w.os->w'.tape=w.tape->w'.output=w.output->drawT P N ops (befs ops []) L E w' [] K
 | false=>False
def ofL:List Nat->OT
 | []=>.fin
 | i::l=>.step i (ofL l)
def drawTX (P:Program) (N:Nat) (ops:List Oper) (L:OT) (E:Env) (w:World) (K:Env->World->Prop):Prop:=
 match chkB N (befs ops []) 0 ops&&chkW ops (befs ops []) 0 ops&&chkT ops (befs ops []) 0 false L with
 | true=>∀w',w'.heap=w.heap->w'.os=w.os->w'.tape=w.tape->w'.output=w.output->w'.drawn=w.drawn+1->drawT P N ops (befs ops []) L E w' [] K
 | false=>False
section draw3
variable {P:Program} {N:Nat} {opa:Array Oper} {ops:List Oper} {B:List Nat} {E0:Env} {a0:Act} {K:Env->World->Prop}
def Next1 (P:Program) (N:Nat) (ops:List Oper) (opa:Array Oper) (B:List Nat) (m:Nat) (E:Env) (w:World) (pend:List (Nat×Env×SV)) (K:Env->World->Prop) (e:Nat):Prop:=
 ∃o t E',ops[e]?=some o/\isEff o.op=true/\e<ops.length/\m.testBit e=false/\(∀k,(B.getD e 0).testBit k=true->m.testBit k=true)/\chkT ops B (m||| 2 ^ e) false t=true/\
  SameVals E E'/\(∀a,GReads ops E o a->wantedAt opa o a=true)/\opE P o E' w fun s w'=>stabs P ops (B.getD e 0) w' pend (putQ N E' o.dst s fun E2=>drawT P N ops B t E2 w' pend K)
def StageT (P:Program) (N:Nat) (ops:List Oper) (opa:Array Oper) (B:List Nat) (m:Nat) (E:Env) (w:World) (pend:List (Nat×Env×SV)) (K:Env->World->Prop):Prop:=
 ((∀i,i<ops.length->m.testBit i=true)/\K E w)∨∃l,l≠[]/\covT ops B m l=true/\∀e∈l,Next1 P N ops opa B m E w pend K e
structure InvT (P:Program) (N:Nat) (ops:List Oper) (opa:Array Oper) (B:List Nat) (E0:Env) (a0:Act) (K:Env->World->Prop) (b:Nat->Bool) (a:Act) (w:World) where
 m:Nat
 V:Nat->Value
 E:Env
 pend:List (Nat×Env×SV)
 closed:ClosedM B m
 sub:∀i,b i=true->m.testBit i=true
 env:EnvOK ops E0 m V E
 act:ActOK N ops a0 b V a
 told:∀i,m.testBit i=true->b i=false->Told P ops opa B E0 m V w pend i
 closedB:ClosedB B b
 stage:StageT P N ops opa B m E w pend K
theorem covT_at {m:Nat} {l:List Nat} (h:covT ops B m l=true) {i:Nat} (hi:i<ops.length) (hm:m.testBit i=false) (hB:∀k,(B.getD i 0).testBit k=true->m.testBit k=true):i∈l:=by
 have:=List.all_eq_true.1 h i (List.mem_range.2 hi)
 rw[hm,Bool.false_or,Bool.or_eq_true]at this
 rcases this with h1|h1
 ·obtain⟨x,hx,he⟩:=List.any_eq_true.1 h1
  rw[Nat.eq_of_beq_eq_true he];exact hx
 ·exfalso
  have e:B.getD i 0&&& m=B.getD i 0:=by
   apply Nat.eq_of_testBit_eq
   intro k
   rw[Nat.testBit_and]
   cases hk:(B.getD i 0).testBit k with
   | false=>rfl
   | true=>rw[hB k hk];rfl
  rw[e,Nat.beq_refl]at h1
  cases h1
theorem subs_of {m i:Nat} (h:Nat.beq (B.getD i 0&&& m) (B.getD i 0)=true):∀k,(B.getD i 0).testBit k=true->m.testBit k=true:=by
 intro k hk
 have e:=Nat.eq_of_beq_eq_true h
 rw[<-e,Nat.testBit_and]at hk
 simp only[Bool.and_eq_true]at hk
 exact hk.2
theorem chkT_step {m i:Nat} {al:Bool} {t:OT} (h:chkT ops B m al (.step i t)=true) :
  i<ops.length/\m.testBit i=false/\(∀k,(B.getD i 0).testBit k=true->m.testBit k=true)/\(al=true->effAt ops i=true/\freeAt ops i=true)/\(al=false->effAt ops i=true->covT ops B m [i]=true)/\chkT ops B (m||| 2 ^ i) false t=true:=by
 simp only[chkT,Bool.and_eq_true]at h
 obtain⟨⟨⟨⟨h1,h2⟩,h3⟩,h4⟩,h5⟩:=h
 refine⟨Nat.le_of_ble_eq_true h1,by simpa using h2,subs_of h3,?_,?_,h5⟩
 ·rintro rfl
  simpa using h4
 ·rintro rfl he
  simp only[Bool.or_eq_true]at h4
  rcases h4 with h4|h4
  ·rw[he]at h4;cases h4
  ·exact h4
theorem alt_next (hl:opa.toList=ops) {m:Nat} {E:Env} {w:World} {pend:List (Nat×Env×SV)}:∀{t:OT},chkT ops B m true t=true->drawT P N ops B t E w pend K->∀e∈t.heads,Next1 P N ops opa B m E w pend K e
 | .fin,_,_,e,he=>by cases he
 | .step i t,hc,hd,e,he=>by
  obtain⟨c1,c2,c3,c4,_,c6⟩:=chkT_step hc
  obtain⟨c4,c5⟩:=c4 rfl
  simp only[OT.heads,List.mem_singleton]at he
  subst he
  unfold drawT at hd
  unfold effAt at c4
  unfold freeAt at c5
  cases ho:ops[e]? with
  | none=>rw[ho]at hd;exact hd.elim
  | some o=>
   rw[ho]at hd c4 c5
   simp only at hd c4 c5
   obtain⟨E',hs,hd⟩:=guardQ_elim hl hd
   rcases hd with⟨hd,hw⟩|⟨hd,hw⟩
   ·rw[c4]at hd
    exact⟨o,t,E',ho,c4,c1,c2,c3,c6,hs,hw,hd⟩
   ·exfalso
    cases hg:o.guard with
    | none=>
     have:=hw ⟨#[],[]⟩ (fun j want d h1=>by rw[hg]at h1;cases h1)
     unfold wantedAt Region.wanted at this
     rw[hg]at this
     simp at this
    | some g=>rw[hg]at c5;cases c5
 | .alt a b,hc,hd,e,he=>by
  simp only[chkT,Bool.and_eq_true]at hc
  unfold drawT at hd
  simp only[OT.heads,List.mem_append]at he
  rcases he with he|he
  ·exact alt_next hl hc.1.2 hd.1 e he
  ·exact alt_next hl hc.2 hd.2 e he
theorem advT (hl:opa.toList=ops) (hg:Good N ops B) {b:Nat->Bool} {a:Act} {w:World} (hcb:ClosedB B b) :
  ∀(L:OT) (m:Nat) (V:Nat->Value) (E:Env) (pend:List (Nat×Env×SV)),chkT ops B m false L=true->ClosedM B m->(∀i,b i=true->m.testBit i=true)->
   EnvOK ops E0 m V E->ActOK N ops a0 b V a->
   (∀i,m.testBit i=true->b i=false->Told P ops opa B E0 m V w pend i)->drawT P N ops B L E w pend K->Nonempty (InvT P N ops opa B E0 a0 K b a w)
 | .fin,m,V,E,pend,h1,h2,h3,h5,h6,h7,h8=>⟨⟨m,V,E,pend,h2,h3,h5,h6,h7,hcb,.inl ⟨fun i hi=>by
   have e:=Nat.eq_of_beq_eq_true h1
   rw[e,Nat.testBit_two_pow_sub_one]
   simp[hi],h8⟩⟩⟩
 | .alt x y,m,V,E,pend,h1,h2,h3,h5,h6,h7,h8=>by
  have h1':=h1
  simp only[chkT,Bool.and_eq_true]at h1'
  refine⟨⟨m,V,E,pend,h2,h3,h5,h6,h7,hcb,.inr ⟨x.heads++y.heads,(fun e=>by rw[e]at h1';exact absurd h1'.1.1.1 (by simp)),h1'.1.1.2,fun e he=>?_⟩⟩⟩
  unfold drawT at h8
  rcases List.mem_append.1 he with he|he
  ·exact alt_next hl h1'.1.2 h8.1 e he
  ·exact alt_next hl h1'.2 h8.2 e he
 | .step i L,m,V,E,pend,h1,h2,h3,h5,h6,h7,h8=>by
  obtain⟨c1,c2,c3,_,c4,c5⟩:=chkT_step h1
  unfold drawT at h8
  cases ho:ops[i]? with
  | none=>rw[ho]at h8;exact h8.elim
  | some o=>
   rw[ho]at h8
   simp only at h8
   obtain⟨E',hs,h8⟩:=guardQ_elim hl h8
   have h5':=h5.same hs
   have hbi:b i=false:=by
    cases hb:b i with
    | false=>rfl
    | true=>rw[h3 i hb]at c2;cases c2
   have hgr:∀a,GReads ops E' o a->GReads ops E o a:=fun a ha j want d h1 h2 v hv=>ha j want d h1 h2 v (by rw[hs d];exact hv)
   have hgr':∀a,GReads ops E o a->GReads ops E' o a:=fun a ha j want d h1 h2 v hv=>ha j want d h1 h2 v (by rw[<-hs d];exact hv)
   have hact:∀v,ActOK N ops a0 b (upV V i v) a:=fun v=>⟨h6.size,h6.nod,fun t j hj hb=>by
    have:j≠i:=by rintro rfl;rw[hb]at hbi;cases hbi
    simp only[upV,this,if_false]
    exact h6.done t j hj hb,h6.old⟩
   rcases h8 with⟨h8,hw⟩|⟨h8,hw⟩
   ·cases he:isEff o.op with
    | true=>
     rw[he]at h8
     simp only at h8
     refine⟨⟨m,V,E,pend,h2,h3,h5,h6,h7,hcb,.inr ⟨[i],by simp,c4 rfl (by unfold effAt;rw[ho];exact he),fun e hm=>?_⟩⟩⟩
     obtain rfl:=List.mem_singleton.1 hm
     exact⟨o,L,E',ho,he,c1,c2,c3,c5,hs,hw,h8⟩
    | false=>
     rw[he]at h8
     simp only at h8
     obtain⟨s,hq,hq2,h8⟩:=opQ_sound h8
     obtain⟨E2,h8,hE2⟩:=envOK_put hg h5' ho c2 h8
     refine advT hl hg hcb L (m||| 2 ^ i) (upV V i s.val) E2 _ c5 (closedM_or h2 c3) (fun j hj=>by rw[testBit_or_pow,h3 j hj];rfl) hE2 (hact _) (fun j hj hjb=>?_) h8
     rw[testBit_or_pow]at hj
     simp only[Bool.or_eq_true,decide_eq_true_eq]at hj
     rcases hj with hj|rfl
     ·exact told_up (h7 j hj hjb) hj c2 (fun x hx=>by split<;>simp[hx])
     ·refine⟨o,E',m,ho,h2,c2,c3,fun k hk=>by rw[testBit_or_pow,hk];rfl,envOK_upV h5' (fun k hk=>hk) c2 _,.inl ⟨fun a ha=>hw a (hgr a ha),s,hq,hq2,fun hr=>by rw[hr];simp,by simp[upV]⟩⟩
   ·obtain⟨E2,h8,hE2⟩:=envOK_put hg h5' ho c2 h8
    refine advT hl hg hcb L (m||| 2 ^ i) (upV V i undef) E2 _ c5 (closedM_or h2 c3) (fun j hj=>by rw[testBit_or_pow,h3 j hj];rfl) hE2 (hact _) (fun j hj hjb=>?_) h8
    rw[testBit_or_pow]at hj
    simp only[Bool.or_eq_true,decide_eq_true_eq]at hj
    rcases hj with hj|rfl
    ·exact told_up (h7 j hj hjb) hj c2 (fun x hx=>hx)
    ·exact⟨o,E',m,ho,h2,c2,c3,fun k hk=>by rw[testBit_or_pow,hk];rfl,envOK_upV h5' (fun k hk=>hk) c2 _,.inr ⟨fun a ha=>hw a (hgr a ha),by simp[upV]⟩⟩
theorem wpAny_invT (hP:okP P=true) (hl:opa.toList=ops) (hg:Good N ops B) (h0:Agree N E0 a0) {Q:Exit->Act->World->Prop}
  (hQ:∀E a w,Agree N E a->K E w->Q .normal a w):∀(n:Nat) (l:Array Bool) (a:Act) (w:World),l.size=ops.length->
   ((List.range ops.length).filter fun i=>!lsB l i).length=n->InvT P N ops opa B E0 a0 K (lsB l) a w->wpAny P .any opa Q n l a w
 | 0,l,a,w,hs,hn,I=>by
  have hall:∀i,i<ops.length->lsB l i=true:=by
   intro i hi
   cases hb:lsB l i with
   | true=>rfl
   | false=>
    have:i∈(List.range ops.length).filter fun i=>!lsB l i:=List.mem_filter.2 ⟨List.mem_range.2 hi,by simp[hb]⟩
    rw[List.eq_nil_of_length_eq_zero hn]at this
    cases this
  refine⟨?_,?_⟩
  ·refine List.eq_nil_iff_forall_not_mem.2 (fun i hi=>?_)
   obtain⟨o,ho,hb,_⟩:=mem_ready hl hs hi
   rw[hall i (List.getElem?_eq_some_iff.1 ho).1]at hb
   cases hb
  ·rcases I.stage with⟨_,hK⟩|⟨l',hne,hcov,hnx⟩
   ·refine hQ I.E a w ⟨I.act.size,I.act.nod,fun t x hx=>?_⟩ hK
    have hE:=I.env t x hx
    by_cases hw:∃j,writes ops j t
    ·obtain⟨j,hj⟩:=hw
     obtain⟨oj,hoj,_⟩:=writes_lt hj
     have hbj:=hall j (List.getElem?_eq_some_iff.1 hoj).1
     rw[I.act.done t j hj hbj,hE.1 j hj (I.sub j hbj)]
    ·rw[I.act.old t (fun k hk=>absurd ⟨k,hk⟩ hw)]
     exact h0.vals t x (hE.2 (fun k hk=>absurd ⟨k,hk⟩ hw))
   ·cases l' with
    | nil=>exact absurd rfl hne
    | cons e l'=>
     obtain⟨_,_,_,_,_,c1,c2,_⟩:=hnx e (by simp)
     rw[I.sub e (hall e c1)]at c2
     cases c2
 | n+1,l,a,w,hs,hn,I=>by
  have hsz:opa.size=ops.length:=by rw[<-hl];simp
  refine⟨fun hr=>?_,fun i hi=>?_⟩
  ·exfalso
   have hex:∃i,i<ops.length/\lsB l i=false:=by
    cases hf:(List.range ops.length).filter (fun i=>!lsB l i)with
    | nil=>rw[hf]at hn;cases hn
    | cons x r=>
     have hx:x∈(List.range ops.length).filter (fun i=>!lsB l i):=by rw[hf];exact List.mem_cons_self
     rw[List.mem_filter,List.mem_range]at hx
     exact⟨x,hx.1,by simpa using hx.2⟩
   have hmin:∀k,(∃i,i<=k/\i<ops.length/\lsB l i=false)->∃i,i<ops.length/\lsB l i=false/\∀j,j<i->lsB l j=true:=by
    intro k
    induction k with
    | zero=>
     rintro⟨i,hi,h1,h2⟩
     exact⟨i,h1,h2,fun j hj=>by omega⟩
    | succ k ih=>
     rintro⟨i,hi,h1,h2⟩
     by_cases hlow:∃j,j<=k/\j<ops.length/\lsB l j=false
     ·exact ih hlow
     ·refine⟨i,h1,h2,fun j hj=>?_⟩
      cases hb:lsB l j with
      | true=>rfl
      | false=>exact absurd ⟨j,by omega,by omega,hb⟩ hlow
   obtain⟨x,hx1,hx2⟩:=hex
   obtain⟨i,h1,h2,h3⟩:=hmin x ⟨x,Nat.le_refl _,hx1,hx2⟩
   have hmem:i∈Region.ready .any opa l:=by
    unfold Region.ready
    rw[List.mem_filter,List.mem_range]
    have hi1:i<opa.size:=by omega
    have hget:opa[i]?=some opa[i]:=Array.getElem?_eq_getElem hi1
    have ho:ops[i]?=some opa[i]:=by rw[<-hl];simp
    refine⟨hi1,?_⟩
    rw[hget]
    simp only[Option.map_some,Option.getD_some,Bool.and_eq_true]
    constructor
    ·have hil:i<l.size:=by omega
     simp only[lsB,Array.getD_eq_getD_getElem?,Array.getElem?_eq_getElem hil,Option.getD_some]at h2⊢
     simp[h2]
    ·rw[<-Array.all_toList]
     refine List.all_eq_true.2 (fun e he=>?_)
     rw[binds_any]
     cases hb:bindE e with
     | false=>rfl
     | true=>
      have:=h3 e.on ((hg.edge i _ ho).2.1 e he hb)
      simpa [lsB]using this
   rw[hr]at hmem
   cases hmem
  ·obtain⟨o,ho,hb,hed⟩:=mem_ready hl hs hi
   have hilt:i<ops.length:=(List.getElem?_eq_some_iff.1 ho).1
   have hopa:opa[i]?=some o:=by rw[<-hl]at ho;simpa using ho
   have hBb:∀k,(B.getD i 0).testBit k=true->lsB l k=true:=by
    intro k hk
    rw[(hg.edge i o ho).1]at hk
    obtain⟨e,he,hbe,hk⟩:=befOf_bit.1 hk
    have hon:=hed e he hbe (by have:=(hg.edge i o ho).2.1 e he hbe;omega)
    rcases hk with rfl|hk
    ·exact hon
    ·exact I.closedB e.on hon k hk
   have hls:∀j,lsB (l.setIfInBounds i true) j=upB (lsB l) i j:=by
    intro j
    simp only[lsB,upB,Array.getD_eq_getD_getElem?,Array.getElem?_setIfInBounds]
    by_cases hij:j=i
    ·subst hij;simp[show j<l.size by omega]
    ·simp[hij,Ne.symm hij]
   have hlsf:lsB (l.setIfInBounds i true)=upB (lsB l) i:=funext hls
   have hcb':ClosedB B (lsB (l.setIfInBounds i true)):=by
    rw[hlsf]
    intro j hj k hk
    unfold upB at hj⊢
    by_cases hji:j=i
    ·subst hji
     split
     ·rfl
     ·exact hBb k hk
    ·rw[if_neg hji]at hj
     split
     ·rfl
     ·exact I.closedB j hj k hk
   have hcount:((List.range ops.length).filter fun j=>!lsB (l.setIfInBounds i true) j).length=n:=by
    have key:∀(r:List Nat),r.Nodup->i∈r->(r.filter fun j=>!upB (lsB l) i j).length+1=(r.filter fun j=>!lsB l j).length:=by
     intro r
     induction r with
     | nil=>intro _ h;cases h
     | cons x r ih=>
      intro hnd hmem
      rw[List.nodup_cons]at hnd
      rcases List.mem_cons.1 hmem with rfl|hmem
      ·have h1:(r.filter fun j=>!upB (lsB l) i j)=r.filter fun j=>!lsB l j:=by
        refine List.filter_congr (fun j hj=>?_)
        have:j≠i:=fun e=>hnd.1 (e ▸ hj)
        simp[upB,this]
       rw[List.filter_cons,List.filter_cons]
       simp[upB,hb]
       simpa [upB]using congrArg List.length h1
      ·have hxi:x≠i:=fun e=>hnd.1 (e ▸ hmem)
       have h1:=ih hnd.2 hmem
       rw[List.filter_cons,List.filter_cons]
       have:upB (lsB l) i x=lsB l x:=by simp[upB,hxi]
       rw[this]
       cases lsB l x
       ·simp only[Bool.not_false,if_true,List.length_cons];omega
       ·simpa using h1
    have:=key (List.range ops.length) List.nodup_range (List.mem_range.2 hilt)
    rw[hlsf]
    omega
   have hsz':(l.setIfInBounds i true).size=ops.length:=by simpa using hs
   have hnext:∀a' w',Nonempty (InvT P N ops opa B E0 a0 K (upB (lsB l) i) a' w')->wpAny P .any opa Q n (l.setIfInBounds i true) a' w':=by
    rintro a' w' ⟨I'⟩
    exact wpAny_invT hP hl hg h0 hQ n _ a' w' hsz' hcount (hlsf ▸ I')
   unfold wpOp
   rw[hopa]
   simp only
   cases hmi:I.m.testBit i with
   | true=>
    obtain⟨o',E,mi,h1,h2,h3,h4,h5,h6,h7⟩:=I.told i hmi hb
    rw[ho]at h1
    obtain rfl:=Option.some.inj h1
    obtain⟨hrd,hgr⟩:=reads_of (E:=E) (o:=o) (a:=a) (fun t ht x hx=>slot_read hg h0 h2 I.closedB h6 I.act ho h3 hb h4 hBb ht hx)
    have fin:∀v,I.V i=v->Nonempty (InvT P N ops opa B E0 a0 K (upB (lsB l) i) (a.put o.dst v) w):=by
     intro v hv
     refine⟨⟨I.m,I.V,I.E,I.pend,I.closed,fun j hj=>?_,I.env,actOK_put hg I.act ho v hv,fun j hj hjb=>?_,hlsf ▸ hcb',I.stage⟩⟩
     ·unfold upB at hj
      by_cases hji:j=i
      ·rw[hji];exact hmi
      ·rw[if_neg hji]at hj;exact I.sub j hj
     ·unfold upB at hjb
      by_cases hji:j=i
      ·rw[if_pos hji]at hjb;cases hjb
      ·rw[if_neg hji]at hjb;exact I.told j hj hjb
    rcases h7 with⟨hw,s,hq,_,_,hv⟩|⟨hw,hv⟩
    ·have hw:=hw a hgr
     unfold wantedAt at hw
     rw[if_pos hw]
     refine .inl ?_
     unfold Oper.wp
     rw[hq a hrd]
     exact hnext _ _ (fin _ hv.symm)
    ·have hw:=hw a hgr
     unfold wantedAt at hw
     rw[if_neg (by rw[hw];simp)]
     exact hnext _ _ (fin _ hv)
   | false=>
    rcases I.stage with⟨hL,_⟩|⟨l',hne,hcov,hnx⟩
    ·rw[hL i hilt]at hmi;cases hmi
    ·have hil:=covT_at hcov hilt hmi (fun k hk=>I.sub k (hBb k hk))
     obtain⟨oe,L',E',hoe,hee,c1,c2,c3,c5,hsv,hwe,hop⟩:=hnx i hil
     rw[ho]at hoe
     obtain rfl:=Option.some.inj hoe
     have henv':=I.env.same hsv
     obtain⟨hrd,_⟩:=reads_of (E:=E') (o:=o) (a:=a) (fun t ht x hx=>slot_read hg h0 I.closed I.closedB henv' I.act ho c2 hb c3 hBb ht hx)
     obtain⟨_,hgr⟩:=reads_of (E:=I.E) (o:=o) (a:=a) (fun t ht x hx=>slot_read hg h0 I.closed I.closedB I.env I.act ho c2 hb c3 hBb ht hx)
     have hw:=hwe a hgr
     unfold wantedAt at hw
     rw[if_pos hw]
     refine .inl (opE_sound hP hop a hrd _ Q (fun s w' hst=>hnext _ _ ?_))
     obtain⟨hput,hstab⟩:=stabs_elim hst
     obtain⟨E2,hdr,hE2⟩:=envOK_put hg henv' ho c2 hput
     refine advT hl hg (b:=upB (lsB l) i) (hlsf ▸ hcb') L' (I.m||| 2 ^ i) (upV I.V i s.val) E2 I.pend c5 (closedM_or I.closed c3) (fun j hj=>?_) hE2 ?_ (fun j hj hjb=>?_) hdr
     ·unfold upB at hj
      rw[testBit_or_pow]
      by_cases hji:j=i
      ·simp[hji]
      ·rw[if_neg hji]at hj;rw[I.sub j hj];rfl
     ·have hA:ActOK N ops a0 (lsB l) (upV I.V i s.val) a:=⟨I.act.size,I.act.nod,fun t j hj hbj=>by
       have:j≠i:=by rintro rfl;rw[hbj]at hb;cases hb
       simp only[upV,this,if_false]
       exact I.act.done t j hj hbj,I.act.old⟩
      exact actOK_put hg hA ho s.val (by simp[upV])
     ·unfold upB at hjb
      by_cases hji:j=i
      ·rw[if_pos hji]at hjb;cases hjb
      ·rw[if_neg hji]at hjb
       have hjm:I.m.testBit j=true:=by
        rw[testBit_or_pow]at hj
        simpa [Ne.symm hji]using hj
       have ht:=told_up (i:=i) (v:=s.val) (pend':=I.pend) (I.told j hjm hjb) hjm hmi (fun x hx=>hx)
       obtain⟨oj,Ej,mj,t1,t2,t3,t4,t5,t6,t7⟩:=ht
       refine⟨oj,Ej,mj,t1,t2,t3,t4,t5,t6,?_⟩
       rcases t7 with⟨hwj,sj,hqj,hqj2,hqj3,hvj⟩|t7
       ·refine .inl ⟨hwj,sj,?_,hqj2,hqj3,hvj⟩
        cases hr:readsMem P oj with
        | false=>exact hqj2 hr w'
        | true=>
         have hnb:(B.getD i 0).testBit j=false:=by
          cases hbb:(B.getD i 0).testBit j with
          | false=>rfl
          | true=>rw[hBb j hbb]at hjb;cases hjb
         obtain⟨o2,ho2,hq2⟩:=hstab j Ej sj (hqj3 hr) hnb
         rw[t1]at ho2
         obtain rfl:=Option.some.inj ho2
         exact hq2
       ·exact .inr t7
theorem drawT_core (hP:okP P=true) (hl:opa.toList=ops) {L:OT} {w:World} (h0:Agree N E0 a0) {Q:Exit->Act->World->Prop}
  (hQ:∀E a w,Agree N E a->K E w->Q .normal a w) (hc:(chkB N (befs ops []) 0 ops&&chkW ops (befs ops []) 0 ops&&chkT ops (befs ops []) 0 false L)=true) (h:drawT P N ops (befs ops []) L E0 {w with drawn:=w.drawn+1} [] K):wpAny P .any opa Q opa.size (Array.replicate opa.size false) a0 {w with drawn:=w.drawn+1}:=by
 simp only[Bool.and_eq_true]at hc
 obtain⟨⟨h1,h2⟩,h3⟩:=hc
 have hg:=good_of h1 h2
 have hsz:opa.size=ops.length:=by rw[<-hl];simp
 have hf:∀i,lsB (Array.replicate opa.size false) i=false:=by
  intro i
  simp only[lsB,Array.getD_eq_getD_getElem?,Array.getElem?_replicate]
  split<;>rfl
 obtain⟨I⟩:=advT (P:=P) (K:=K) (E0:=E0) (a0:=a0) hl hg (b:=lsB (Array.replicate opa.size false)) (a:=a0) (w:={w with drawn:=w.drawn+1}) (fun j hj=>(by rw[hf]at hj;cases hj)) L 0 (fun _=>undef) E0 [] h3
  (fun j hj=>(by simp at hj)) (fun j hj=>(by rw[hf]at hj;cases hj)) (fun t x hx=>⟨fun j _ hj=>by simp at hj,fun _=>hx⟩)
  ⟨h0.size,h0.nod,fun t j _ hj=>(by rw[hf]at hj;cases hj),fun t _=>rfl⟩ (fun j hj=>by simp at hj) h
 refine wpAny_invT hP hl hg h0 hQ opa.size _ a0 _ (by simp[hsz]) ?_ I
 rw[hsz]
 have:(List.range ops.length).filter (fun i=>!lsB (Array.replicate ops.length false) i)=List.range ops.length:=by
  refine List.filter_eq_self.2 (fun i _=>?_)
  have:=hf i
  rw[hsz]at this
  rw[this];rfl
 rw[this,List.length_range]
theorem drawTQ_any (hP:okP P=true) (hl:opa.toList=ops) {L:OT} {w:World} (h0:Agree N E0 a0) {Q:Exit->Act->World->Prop}
  (hQ:∀E a w,Agree N E a->K E w->Q .normal a w) (h:drawTQ P N ops L E0 w K):wpAny P .any opa Q opa.size (Array.replicate opa.size false) a0 {w with drawn:=w.drawn+1}:=by
 unfold drawTQ at h
 split at h
 ·rename_i hc
  exact drawT_core hP hl h0 hQ hc (h _ rfl rfl rfl rfl)
 ·exact h.elim
theorem drawTQ_sound (hP:okP P=true) (hl:opa.toList=ops) {L:OT} {w:World} (h0:Agree N E0 a0) {Q:Exit->Act->World->Prop}
  (hQ:∀E a w,Agree N E a->K E w->Q .normal a w) (h:drawTQ P N ops L E0 w K) {id:Nat}:(Code.region id opa true).wp P Q a0 w:=by
 have hm:P.follows .mixedOrders=true:=by
  simp only[okP,Bool.and_eq_true]at hP
  exact hP.2
 exact wp_region_any hm (drawTQ_any hP hl h0 hQ h)
theorem drawTX_any (hP:okP P=true) (hl:opa.toList=ops) {L:OT} {w:World} (h0:Agree N E0 a0) {Q:Exit->Act->World->Prop}
  (hQ:∀E a w,Agree N E a->K E w->Q .normal a w) (h:drawTX P N ops L E0 w K):wpAny P .any opa Q opa.size (Array.replicate opa.size false) a0 {w with drawn:=w.drawn+1}:=by
 unfold drawTX at h
 split at h
 ·rename_i hc
  exact drawT_core hP hl h0 hQ hc (h _ rfl rfl rfl rfl rfl)
 ·exact h.elim
theorem drawTX_sound (hP:okP P=true) (hl:opa.toList=ops) {L:OT} {w:World} (h0:Agree N E0 a0) {Q:Exit->Act->World->Prop}
  (hQ:∀E a w,Agree N E a->K E w->Q .normal a w) (h:drawTX P N ops L E0 w K) {id:Nat}:(Code.region id opa true).wp P Q a0 w:=by
 have hm:P.follows .mixedOrders=true:=by
  simp only[okP,Bool.and_eq_true]at hP
  exact hP.2
 exact wp_region_any hm (drawTX_any hP hl h0 hQ h)
end draw3
inductive Ex where
 | nrm
 | exit (n:Nat)
 | ret
abbrev Cont:=Ex->Env->World->Prop
structure Mt where
 N:Nat
 keep:List (Nat×List Nat)
 ords:List (Nat×List Nat):=[]
 bk:List (Nat×List Nat):=[]
 cuts:List (Nat×List Nat):=[]
 lk:List (Nat×List Nat):=[]
 alts:List (Nat×OT):=[]
 ref:Bool:=true
 ex:Bool:=false
def lookL:List (Nat×List Nat)->Nat->List Nat
 | [],_=>[]
 | (k,x)::l,id=>match Nat.beq k id with
  | true=>x
  | false=>lookL l id
def lookT:List (Nat×OT)->Nat->Option OT
 | [],_=>none
 | (k,x)::l,id=>match Nat.beq k id with
  | true=>some x
  | false=>lookT l id
def liftK (N:Nat) (K:Cont):Exit->Act->World->Prop
 | .normal,a,w=>∃E,Agree N E a/\K .nrm E w
 | .exit n,a,w=>∃E,Agree N E a/\K (.exit n) E w
 | .ret,a,w=>∃E,Agree N E a/\K .ret E w
 | _,_,_=>False
def WP (P:Program) (N:Nat) (c:Code) (E:Env) (w:World) (K:Cont):Prop:=∀a,Agree N E a->c.wp P (liftK N K) a w
def seqK (D:Env->World->Prop) (K:Cont):Cont:=fun ex E w=>match ex with
 | .nrm=>D E w
 | .exit n=>K (.exit n) E w
 | .ret=>K .ret E w
def blockK (id:Nat) (ks:List Nat) (K:Cont):Cont:=fun ex E w=>match ex with
 | .nrm=>K .nrm (E.keep ks) w
 | .exit n=>match Nat.beq n id with
  | true=>K .nrm (E.keep ks) w
  | false=>K (.exit n) E w
 | .ret=>K .ret E w
def headReg:Code->Option Nat
 | .region id _ _=>some id
 | .seq a _=>headReg a
 | .block _ c=>headReg c
 | .loop c=>headReg c
 | .scope c=>headReg c
 | _=>none
def findL (l:List (Nat×List Nat)) (n:Option Nat):Option (List Nat):=match n with
 | none=>none
 | some n=>match l with
  | []=>none
  | (k,x)::l=>match Nat.beq k n with
   | true=>some x
   | false=>findL l (some n)
structure CutC (P:Program) (M:Mt) (c:Code) (E:Env) (w:World) (K:Cont) (p:Prop):Prop where
 out:p
def cutB (ks:Option (List Nat)) (P:Program) (M:Mt) (c:Code) (E:Env) (w:World) (K:Cont) (D:Env->Prop):Prop:=match ks with
 | some ks=>CutC P M c (E.keep ks) w K (D (E.keep ks))
 | none=>D E
def keepL (l:List (Nat×List Nat)) (n:Option Nat) (E:Env):Env:=match findL l n with
 | some ks=>E.keep ks
 | none=>E
def condQ (E:Env) (c:Operand) (t f:Prop):Prop:=match evS E c with
 | .b true=>t
 | .b false=>f
 | .v (.bool x)=>(x=true->t)/\(x=false->f)
 | _=>False
def refE (M:Mt) (E:Env) (c:Operand) (b:Bool):Env:=match M.ref with
 | false=>E
 | true=>match c with
  | .tmp t=>E.put t (.b b)
  | _=>E
def den (P:Program) (M:Mt):Code->Env->World->Cont->Prop
 | .skip,E,w,K=>K .nrm E w
 | .region id ops draw,E,w,K=>match draw with
  | false=>seqR P M.N ops.toList ops.toList E w fun E' w'=>K .nrm (E'.keep (lookL M.keep id)) w'
  | true=>match lookT M.alts id with
   | some t=>drawTQ P M.N ops.toList t E w fun E' w'=>K .nrm (E'.keep (lookL M.keep id)) w'
   | none=>match M.ex with
    | false=>drawTQ P M.N ops.toList (ofL (lookL M.ords id)) E w fun E' w'=>K .nrm (E'.keep (lookL M.keep id)) w'
    | true=>drawTX P M.N ops.toList (ofL (lookL M.ords id)) E w fun E' w'=>K .nrm (E'.keep (lookL M.keep id)) w'
 | .seq a b,E,w,K=>den P M a E w (seqK (fun E w=>cutB (findL M.cuts (headReg b)) P M b E w K fun E=>den P M b E w K) K)
 | .cond c a b,E,w,K=>condQ E c (den P M a (refE M E c true) w K) (den P M b (refE M E c false) w K)
 | .block id c,E,w,K=>den P M c E w (blockK id (lookL M.bk id) K)
 | .exit id,E,w,K=>K (.exit id) E w
 | .ret,E,w,K=>K .ret E w
 | .loop c,E,w,K=>Cut (WP P M.N (.loop c) (keepL M.lk (headReg c) E) w K)
 | .rangeFunc f ps a b,E,w,K=>Cut (WP P M.N (.rangeFunc f ps a b) E w K)
 | .scope c,E,w,K=>den P M c E w K
 | .label _,E,w,K=>K .nrm E w
 | .goto l,E,w,K=>Cut (WP P M.N (.goto l) E w K)
 | .refuse s,E,w,K=>Cut (WP P M.N (.refuse s) E w K)
def CutD (P:Program) (M:Mt) (c:Code) (E:Env) (w:World) (K:Cont):Prop:=CutC P M c E w K (den P M c E w K)
theorem CutD.mk {P:Program} {M:Mt} {c:Code} {E:Env} {w:World} {K:Cont} (h:den P M c E w K):CutD P M c E w K:=⟨h⟩
theorem condQ_elim {E:Env} {c:Operand} {t f:Prop} (h:condQ E c t f):∃b,(evS E c).val?=some (.bool b)/\(if b then t else f):=by
 unfold condQ at h
 split at h
 ·rename_i he;exact⟨true,by rw[he];rfl,h⟩
 ·rename_i he;exact⟨false,by rw[he];rfl,h⟩
 ·rename_i x he
  refine⟨x,by rw[he];rfl,?_⟩
  cases x
  ·exact h.2 rfl
  ·exact h.1 rfl
 ·exact h.elim
theorem den_sound {P:Program} {M:Mt} (hP:okP P=true):∀(c:Code) (E:Env) (w:World) (K:Cont),den P M c E w K->WP P M.N c E w K
 | .skip,E,w,K,h=>fun a ha=>wp_skip ⟨E,ha,h⟩
 | .region id ops draw,E,w,K,h=>fun a ha=>by
  cases draw with
  | false=>
   exact wp_region_list (seqR_sound hP rfl (K:=fun E' w'=>K .nrm (E'.keep (lookL M.keep id)) w') (fun E' a' w' ha' hk=>⟨_,ha'.keep _,hk⟩) _ _ _ _ ha h)
  | true=>
   simp only[den]at h
   split at h
   ·exact drawTQ_sound hP rfl (K:=fun E' w'=>K .nrm (E'.keep (lookL M.keep id)) w') ha (fun E' a' w' ha' hk=>⟨_,ha'.keep _,hk⟩) h
   ·split at h
    ·exact drawTQ_sound hP rfl (K:=fun E' w'=>K .nrm (E'.keep (lookL M.keep id)) w') ha (fun E' a' w' ha' hk=>⟨_,ha'.keep _,hk⟩) h
    ·exact drawTX_sound hP rfl (K:=fun E' w'=>K .nrm (E'.keep (lookL M.keep id)) w') ha (fun E' a' w' ha' hk=>⟨_,ha'.keep _,hk⟩) h
 | .seq x y,E,w,K,h=>fun a ha=>by
  refine wp_seq (wp_mono (den_sound hP x E w _ h a ha) (fun ex a' w' hl=>?_))
  cases ex with
  | normal=>
   obtain⟨E',h1,h2⟩:=hl
   simp only[seqK,cutB]at h2
   split at h2
   ·exact den_sound hP y _ w' K h2.out a' (h1.keep _)
   ·exact den_sound hP y E' w' K h2 a' h1
  | exit n=>exact hl
  | ret=>exact hl
  | _=>exact hl.elim
 | .cond c x y,E,w,K,h=>fun a ha=>by
  obtain⟨b,hb,h⟩:=condQ_elim h
  refine wp_cond (ha.ev c _ hb) ?_
  have hr:Agree M.N (refE M E c b) a:=by
   unfold refE
   split
   ·exact ha
   ·split
    ·exact ha.setb _ b (by simpa [evS]using hb)
    ·exact ha
  cases b with
  | true=>exact den_sound hP x _ w K h a hr
  | false=>exact den_sound hP y _ w K h a hr
 | .block id c,E,w,K,h=>fun a ha=>by
  refine wp_block (wp_mono (den_sound hP c E w _ h a ha) (fun ex a' w' hl=>?_))
  cases ex with
  | normal=>obtain⟨E',h1,h2⟩:=hl;exact⟨_,h1.keep _,h2⟩
  | exit n=>
   obtain⟨E',h1,h2⟩:=hl
   simp only[Exit.inBlock]
   simp only[blockK]at h2
   by_cases hn:n=id
   ·subst hn
    rw[if_pos rfl]
    rw[Nat.beq_refl]at h2
    exact⟨_,h1.keep _,h2⟩
   ·rw[if_neg hn]
    have hb:Nat.beq n id=false:=by
     cases hb:Nat.beq n id with
     | false=>rfl
     | true=>exact absurd (Nat.eq_of_beq_eq_true hb) hn
    rw[hb]at h2
    exact⟨E',h1,h2⟩
  | ret=>exact hl
  | _=>exact hl.elim
 | .exit id,E,w,K,h=>fun a ha=>wp_exit ⟨E,ha,h⟩
 | .ret,E,w,K,h=>fun a ha=>wp_ret ⟨E,ha,h⟩
 | .loop c,E,w,K,h=>fun a ha=>by
  refine h.out a ?_
  unfold keepL
  split
  ·exact ha.keep _
  ·exact ha
 | .rangeFunc f ps x y,E,w,K,h=>h.out
 | .scope c,E,w,K,h=>fun a ha=>by
  refine wp_scope_straight (wp_mono (den_sound hP c E w K h a ha) (fun ex a' w' hl=>?_))
  cases ex<;>first|exact hl|exact hl.elim
 | .label l,E,w,K,h=>fun a ha=>wp_label ⟨E,ha,h⟩
 | .goto l,E,w,K,h=>h.out
 | .refuse s,E,w,K,h=>h.out
def CoversL (E:Env):Env->Prop
 | []=>True
 | (k,s)::T=>(E.get k).val?=s.val?/\CoversL E T
theorem CoversL.agree {N:Nat} {E:Env} {a:Act} (ha:Agree N E a):∀{T:Env},CoversL E T->Agree N T a
 | [],_=>⟨ha.size,ha.nod,fun t x hx=>by simp[Env.get,SV.val?]at hx⟩
 | (k,s)::T,h=>by
  have ih:=CoversL.agree ha h.2
  refine⟨ha.size,ha.nod,fun t x hx=>?_⟩
  simp only[Env.get]at hx
  cases hb:Nat.beq k t with
  | true=>
   rw[hb]at hx
   have:=Nat.eq_of_beq_eq_true hb
   subst this
   exact ha.vals _ x (by rw[h.1];exact hx)
  | false=>rw[hb]at hx;exact ih.vals t x hx
theorem exists_min {p:Nat->Prop} (h:∃n,p n):∃n,p n/\∀m,p m->n<=m:=by
 obtain⟨n,hn⟩:=h
 induction n using Nat.strongRecOn with
 | _ n ih=>
  by_cases hx:∃m,m<n/\p m
  ·obtain⟨m,hm,hpm⟩:=hx
   exact ih m hm hpm
  ·exact⟨n,hn,fun m hm=>Nat.le_of_not_lt fun hlt=>hx ⟨m,hlt,hm⟩⟩
theorem wp_loop_n {P:Program} {c:Code} {Q:Exit->Act->World->Prop} {a:Act} {w:World} (I:Nat->Act->World->Prop) (h₀:∃n,I n a w)
  (round:∀n a w,I n a w->c.wp P (Exit.then (fun a' w'=>∃m,m<n/\I m a' w') Q) a w):(Code.loop c).wp P Q a w:=by
 classical
 refine wp_loop (fun a w=>∃n,I n a w) (fun a w=>if h:∃n,I n a w then Classical.choose (exists_min h)else 0) h₀ (fun a w h=>?_)
 have hc:=Classical.choose_spec (exists_min h)
 refine wp_mono (round _ a w hc.1) (fun ex a' w' he=>?_)
 cases ex with
 | normal=>
  obtain⟨m,hm,hI⟩:=he
  have hex:∃n,I n a' w':=⟨m,hI⟩
  refine⟨hex,?_⟩
  have hc':=Classical.choose_spec (exists_min hex)
  simp only[dif_pos hex,dif_pos h]
  exact Nat.lt_of_le_of_lt (hc'.2 m hI) hm
 | _=>exact he
def loopK (B:Env->World->Prop) (K:Cont):Cont:=fun ex E w=>match ex with
 | .nrm=>B E w
 | .exit n=>K (.exit n) E w
 | .ret=>K .ret E w
theorem WP_loop {P:Program} {M:Mt} (hP:okP P=true) {c:Code} {E:Env} {w:World} {K:Cont} {σ:Type} (tm:σ->Env) (I:σ->World->Prop) (μ:σ->World->Nat) (s0:σ)
  (hc:CoversL E (tm s0)) (hI:I s0 w) (round:∀s w,I s w->den P M c (tm s) w (loopK (fun E' w'=>∃s',CoversL E' (tm s')/\I s' w'/\μ s' w'<μ s w) K)):WP P M.N (.loop c) E w K:=by
 intro a ha
 refine wp_loop_n (fun n a w=>∃s,Agree M.N (tm s) a/\I s w/\μ s w=n) ⟨_,s0,hc.agree ha,hI,rfl⟩ (fun n a w h=>?_)
 obtain⟨s,h1,h2,rfl⟩:=h
 refine wp_mono (den_sound hP c _ w _ (round s w h2) a h1) (fun ex a' w' he=>?_)
 cases ex with
 | normal=>
  obtain⟨E',h3,s',h4,h5,h6⟩:=he
  exact⟨_,h6,s',h4.agree h3,h5,rfl⟩
 | exit n=>exact he
 | ret=>exact he
 | _=>exact he.elim
def argE:Nat->List Value->Env
 | _,[]=>[]
 | i,v::vs=>(i,.v v)::argE (i+1) vs
theorem argE_get:∀(vs:List Value) (i t:Nat) (x:Value),((argE i vs).get t).val?=some x->i<=t/\vs[t-i]?=some x
 | [],i,t,x,h=>by simp[argE,Env.get,SV.val?]at h
 | v::vs,i,t,x,h=>by
  simp only[argE,Env.get]at h
  cases hb:Nat.beq i t with
  | true=>
   rw[hb]at h
   have:=Nat.eq_of_beq_eq_true hb
   subst this
   simpa [SV.val?]using h
  | false=>
   rw[hb]at h
   obtain⟨h1,h2⟩:=argE_get vs (i+1) t x h
   refine⟨by omega,?_⟩
   rw[show t-i=(t-(i+1))+1 by omega]
   simpa using h2
def resQ (P:Program) (w:World) (E:Env):List ResultVar->(List Value->Prop)->Prop
 | [],F=>F []
 | .tmp t::rs,F=>onV (E.get t) fun v=>resQ P w E rs fun vs=>F (v::vs)
 | .cell x t::rs,F=>onV (E.get x) fun v=>onAd v fun ad=>ldQ P w t ad fun v=>resQ P w E rs fun vs=>F (v::vs)
def retV:List Value->Value
 | [v]=>v
 | vs=>.tuple vs.toArray
def retK (P:Program) (rs:List ResultVar) (R:Ending->World->Prop):Cont:=fun ex E w=>match ex with
 | .exit _=>False
 | .nrm=>resQ P w E rs fun vs=>R (.returned (retV vs)) w
 | .ret=>resQ P w E rs fun vs=>R (.returned (retV vs)) w
def resSem (a:Act):ResultVar->Sem Value
 | .tmp t=>pure (a.tmps.getD t undef)
 | .cell x t=>do loadVar t (<-asAddr (a.tmps.getD x undef))
theorem results_eq (fn:Func) (a:Act):results fn a.tmps=(fn.results.mapM (resSem a))>>=fun vs=>pure (if h:vs.size=1 then vs[0]else .tuple vs):=by
 unfold results
 congr 2
theorem resQ_run {P:Program} {w:World} {E:Env} {N:Nat} {a:Act} (ha:Agree N E a):∀{rs:List ResultVar} {F:List Value->Prop},resQ P w E rs F->
  ∃vs,F vs/\(rs.mapM (resSem a)).run P w=.ok vs w
 | [],F,h=>⟨[],h,by simp⟩
 | .tmp t::rs,F,h=>by
  obtain⟨v,h1,_,h⟩:=onV_elim h
  obtain⟨vs,hF,hr⟩:=resQ_run ha h
  refine⟨v::vs,hF,?_⟩
  have hv:(resSem a (.tmp t)).run P w=.ok v w:=by simp[resSem,ha.vals t v h1]
  simp only[List.mapM_cons,Sem.run_bind,Sem.run_pure,Result.andThen_ok,hv,hr]
 | .cell x t::rs,F,h=>by
  obtain⟨v,h1,_,h⟩:=onV_elim h
  obtain⟨ad,rfl,h⟩:=onAd_elim h
  obtain⟨u,hu,h⟩:=ldQ_elim h
  obtain⟨vs,hF,hr⟩:=resQ_run ha h
  refine⟨u::vs,hF,?_⟩
  have hv:(resSem a (.cell x t)).run P w=.ok u w:=by simp[resSem,ha.vals x _ h1,asAddr,hu]
  simp only[List.mapM_cons,Sem.run_bind,Sem.run_pure,Result.andThen_ok,hv,hr]
theorem results_run {P:Program} {w:World} {E:Env} {N:Nat} {a:Act} {fn:Func} (ha:Agree N E a) {R:Ending->World->Prop} (h:resQ P w E fn.results.toList fun vs=>R (.returned (retV vs)) w) :
  ∃v,(results fn a.tmps).run P w=.ok v w/\R (.returned v) w:=by
 obtain⟨vs,hF,hr⟩:=resQ_run ha h
 refine⟨retV vs,?_,hF⟩
 have hm:(fn.results.mapM (resSem a)).run P w=.ok vs.toArray w:=by
  rw[Array.mapM_eq_mapM_toList]
  simp[hr]
 rw[results_eq,Sem.run_bind,hm,Result.andThen_ok]
 match vs with
 | []=>rfl
 | [v]=>rfl
 | v::u::vs=>simp[retV]
theorem calls_den {P:Program} {M:Mt} (hP:okP P=true) {f:FuncId} {fn:Func} {c:Code} (hf:P.funcs[f]?=some fn) (hb:fn.body=some c) (hN:fn.ntmps=M.N) {args:List Value}
  (hA:args.length<=M.N) {w:World} {R:Ending->World->Prop} (h:den P M c (argE 0 args) w (retK P fn.results.toList R)):Calls P f args.toArray w R:=by
 refine calls_of_wp hf hb ?_
 have ha:Agree M.N (argE 0 args) {tmps:=args.toArray++Array.replicate (fn.ntmps-args.toArray.size) undef,defers:=[]}:=by
  refine⟨by simp[hN];omega,rfl,fun t x hx=>?_⟩
  obtain⟨_,h2⟩:=argE_get args 0 t x hx
  simp only[Nat.sub_zero]at h2
  have hlt:t<args.length:=(List.getElem?_eq_some_iff.1 h2).1
  rw[Array.getElem?_append_left (by simpa using hlt)]
  simpa using h2
 refine wp_mono (den_sound hP c _ w _ h _ ha) (fun ex a' w' hl=>?_)
 cases ex with
 | normal=>
  obtain⟨E,h1,h2⟩:=hl
  obtain⟨v,hv,hR⟩:=results_run h1 h2
  exact⟨h1.nod,v,hv,hR⟩
 | ret=>
  obtain⟨E,h1,h2⟩:=hl
  obtain⟨v,hv,hR⟩:=results_run h1 h2
  exact⟨h1.nod,v,hv,hR⟩
 | exit n=>obtain⟨E,_,h2⟩:=hl;exact h2.elim
 | _=>exact hl.elim
def bodyOf (f:Func):Code:=match f.body with|some c=>c|none=>.skip
def _root_.Go.Code.sl:Code->Code
 | .seq a _=>a
 | .cond _ a _=>a
 | .block _ c=>c
 | .loop c=>c
 | .scope c=>c
 | c=>c
def _root_.Go.Code.sr:Code->Code
 | .seq _ b=>b
 | .cond _ _ b=>b
 | c=>c
end Go.Dav
namespace Go.Dav
open Go.Proofs
theorem okProg:okP Tryz.prog=true:=by kernel_rfl
abbrev I (n:Int):Value:=.int .i64 n
abbrev Z (v:Value):Ending:=.returned v
abbrev N3:Value:=.slice none 0 0
abbrev RT:=Ending->World->Prop
abbrev Rt (f:Func) (R:RT):Cont:=retK Tryz.prog f.results.toList R
abbrev SQ (M:Mt) (c:Code) (K K':Cont):Cont:=seqK (fun E w=>cutB (findL M.cuts (headReg c)) Tryz.prog M c E w K fun E=>den Tryz.prog M c E w K) K'
def kp:Nat->List (List Nat)->List (Nat×List Nat)
 | _,[]=>[]
 | n,a::l=>(n,a)::kp (n+1) l
abbrev Sm (w:World) (Q:World->Prop):Prop:=∀w',w'.heap=w.heap->w'.os=w.os->w'.tape=w.tape->w'.output=w.output->Q w'
abbrev UT (k:FuncId) (M:Mt) (c:Code) (fn:Func):Prop:=∀{vs:List Value} {w:World} {R:RT},den Tryz.prog M c (argE 0 vs) w (Rt fn R)->(hA:Nat.ble vs.length M.N=true:=by rfl)->Calls Tryz.prog k vs.toArray w R
theorem u_ {k:FuncId} {M:Mt} {c:Code} {fn:Func} (hf:Tryz.prog.funcs[k]?=some fn) (hb:(fn.body,fn.ntmps)=(some c,M.N)):UT k M c fn:=
 fun h hA=>calls_den okProg hf (congrArg Prod.fst hb) (congrArg Prod.snd hb) (Nat.le_of_ble_eq_true hA) h
end Go.Dav
namespace Go.Dav
open Go.Proofs
open Value IntKind Ending World Addr Tryz
set_option maxRecDepth 100000
def M11:Mt:={N:=12,keep:=kp 0 [[0],[0,3],[2],[0,6],[2],[2]],bk:=[(0,[0])],ref:=false}
noncomputable def c11:Code:=bodyOf f11
theorem u11:UT 11 M11 c11 f11:=fun h i=>u_ func11 (by kernel_rfl) h i
theorem t11 (x w R):den prog M11 c11 (argE 0 [(int i64 x)]) w (Rt f11 R)=
((decide (x<=0)->R (Z (int .u64 0)) w)/\(decide (x<=0)=false->(decide (x>=64)->R (Z (int .u64 18446744073709551615)) w)/\(decide (x>=64)=false->Call prog 60 [I x] w fun e w'=>∃n,e=Z (int .u64 n)/\R (Z (int .u64 (wrap .u64 (n-1)))) w'))):=by kernel_rfl
def M23:Mt:={N:=10,keep:=kp 0 [[0,1],[4]],ref:=false}
noncomputable def c23:Code:=bodyOf f23
theorem u23:UT 23 M23 c23 f23:=fun h i=>u_ func23 (by kernel_rfl) h i
theorem t23 (x x1 w R):den prog M23 c23 (argE 0 [(int .u64 x),(int i64 x1)]) w (Rt f23 R)=
(Call prog 60 [I x1] w fun e w'=>∃n,e=Z (int .u64 n)/\R (Z (.bool (bitsOp BinOp.and .u64 x n !=0))) w'):=by kernel_rfl
def M24:Mt:={N:=5,keep:=kp 0 [[0],[2]],ref:=false}
noncomputable def c24:Code:=bodyOf f24
theorem u24:UT 24 M24 c24 f24:=fun h i=>u_ func24 (by kernel_rfl) h i
theorem t24 (x w R):den prog M24 c24 (argE 0 [(int .u64 x)]) w (Rt f24 R)=
(Call prog 80 [int .u64 x] w fun e w'=>∃n,e=Z (I n)/\R (Z (I n)) w'):=by kernel_rfl
def M60:Mt:={N:=11,keep:=kp 0 [[0],[0,8],[2],[2]],ref:=false}
noncomputable def c60:Code:=bodyOf f60
theorem u60:UT 60 M60 c60 f60:=fun h i=>u_ func60 (by kernel_rfl) h i
theorem t60 (x w R):den prog M60 c60 (argE 0 [(int i64 x)]) w (Rt f60 R)=
((decide (x<0)=false->(decide (x>=64)->R (Z (int .u64 0)) w)/\(decide (x>=64)=false->0<=x/\R (Z (int .u64 (shlOp .u64 1 x))) w))/\(decide (x<0)->R (Z (int .u64 0)) w)):=by kernel_rfl
def M80:Mt:={N:=35,keep:=kp 0 [[0],[0],[0],[0],[0],[0],[0],[2]],ref:=false}
noncomputable def c80:Code:=bodyOf f80
theorem u80:UT 80 M80 c80 f80:=fun h i=>u_ func80 (by kernel_rfl) h i
theorem t80 (x w R):den prog M80 c80 (argE 0 [(int .u64 x)]) w (Rt f80 R)=
((0:Int)<=1/\(0:Int)<=2/\(0:Int)<=4/\(0:Int)<=8/\(0:Int)<=16/\(0:Int)<=32/\R (Z (I (bitsOp BinOp.and i64 (wrap i64 (wrap .u64 (wrap .u64 (wrap .u64 (bitsOp BinOp.and .u64 (wrap .u64 (shrOp .u64 (wrap .u64 (bitsOp BinOp.and .u64 (shrOp .u64 (wrap .u64 (bitsOp BinOp.and .u64 (shrOp .u64 x 1) 6148914691236517205+bitsOp BinOp.and .u64 x 6148914691236517205)) 2) 3689348814741910323+bitsOp BinOp.and .u64 (wrap .u64 (bitsOp BinOp.and .u64 (shrOp .u64 x 1) 6148914691236517205+bitsOp BinOp.and .u64 x 6148914691236517205)) 3689348814741910323)) 4+wrap .u64 (bitsOp BinOp.and .u64 (shrOp .u64 (wrap .u64 (bitsOp BinOp.and .u64 (shrOp .u64 x 1) 6148914691236517205+bitsOp BinOp.and .u64 x 6148914691236517205)) 2) 3689348814741910323+bitsOp BinOp.and .u64 (wrap .u64 (bitsOp BinOp.and .u64 (shrOp .u64 x 1) 6148914691236517205+bitsOp BinOp.and .u64 x 6148914691236517205)) 3689348814741910323))) 1085102592571150095+shrOp .u64 (bitsOp BinOp.and .u64 (wrap .u64 (shrOp .u64 (wrap .u64 (bitsOp BinOp.and .u64 (shrOp .u64 (wrap .u64 (bitsOp BinOp.and .u64 (shrOp .u64 x 1) 6148914691236517205+bitsOp BinOp.and .u64 x 6148914691236517205)) 2) 3689348814741910323+bitsOp BinOp.and .u64 (wrap .u64 (bitsOp BinOp.and .u64 (shrOp .u64 x 1) 6148914691236517205+bitsOp BinOp.and .u64 x 6148914691236517205)) 3689348814741910323)) 4+wrap .u64 (bitsOp BinOp.and .u64 (shrOp .u64 (wrap .u64 (bitsOp BinOp.and .u64 (shrOp .u64 x 1) 6148914691236517205+bitsOp BinOp.and .u64 x 6148914691236517205)) 2) 3689348814741910323+bitsOp BinOp.and .u64 (wrap .u64 (bitsOp BinOp.and .u64 (shrOp .u64 x 1) 6148914691236517205+bitsOp BinOp.and .u64 x 6148914691236517205)) 3689348814741910323))) 1085102592571150095) 8)+shrOp .u64 (wrap .u64 (bitsOp BinOp.and .u64 (wrap .u64 (shrOp .u64 (wrap .u64 (bitsOp BinOp.and .u64 (shrOp .u64 (wrap .u64 (bitsOp BinOp.and .u64 (shrOp .u64 x 1) 6148914691236517205+bitsOp BinOp.and .u64 x 6148914691236517205)) 2) 3689348814741910323+bitsOp BinOp.and .u64 (wrap .u64 (bitsOp BinOp.and .u64 (shrOp .u64 x 1) 6148914691236517205+bitsOp BinOp.and .u64 x 6148914691236517205)) 3689348814741910323)) 4+wrap .u64 (bitsOp BinOp.and .u64 (shrOp .u64 (wrap .u64 (bitsOp BinOp.and .u64 (shrOp .u64 x 1) 6148914691236517205+bitsOp BinOp.and .u64 x 6148914691236517205)) 2) 3689348814741910323+bitsOp BinOp.and .u64 (wrap .u64 (bitsOp BinOp.and .u64 (shrOp .u64 x 1) 6148914691236517205+bitsOp BinOp.and .u64 x 6148914691236517205)) 3689348814741910323))) 1085102592571150095+shrOp .u64 (bitsOp BinOp.and .u64 (wrap .u64 (shrOp .u64 (wrap .u64 (bitsOp BinOp.and .u64 (shrOp .u64 (wrap .u64 (bitsOp BinOp.and .u64 (shrOp .u64 x 1) 6148914691236517205+bitsOp BinOp.and .u64 x 6148914691236517205)) 2) 3689348814741910323+bitsOp BinOp.and .u64 (wrap .u64 (bitsOp BinOp.and .u64 (shrOp .u64 x 1) 6148914691236517205+bitsOp BinOp.and .u64 x 6148914691236517205)) 3689348814741910323)) 4+wrap .u64 (bitsOp BinOp.and .u64 (shrOp .u64 (wrap .u64 (bitsOp BinOp.and .u64 (shrOp .u64 x 1) 6148914691236517205+bitsOp BinOp.and .u64 x 6148914691236517205)) 2) 3689348814741910323+bitsOp BinOp.and .u64 (wrap .u64 (bitsOp BinOp.and .u64 (shrOp .u64 x 1) 6148914691236517205+bitsOp BinOp.and .u64 x 6148914691236517205)) 3689348814741910323))) 1085102592571150095) 8)) 16)+shrOp .u64 (wrap .u64 (wrap .u64 (bitsOp BinOp.and .u64 (wrap .u64 (shrOp .u64 (wrap .u64 (bitsOp BinOp.and .u64 (shrOp .u64 (wrap .u64 (bitsOp BinOp.and .u64 (shrOp .u64 x 1) 6148914691236517205+bitsOp BinOp.and .u64 x 6148914691236517205)) 2) 3689348814741910323+bitsOp BinOp.and .u64 (wrap .u64 (bitsOp BinOp.and .u64 (shrOp .u64 x 1) 6148914691236517205+bitsOp BinOp.and .u64 x 6148914691236517205)) 3689348814741910323)) 4+wrap .u64 (bitsOp BinOp.and .u64 (shrOp .u64 (wrap .u64 (bitsOp BinOp.and .u64 (shrOp .u64 x 1) 6148914691236517205+bitsOp BinOp.and .u64 x 6148914691236517205)) 2) 3689348814741910323+bitsOp BinOp.and .u64 (wrap .u64 (bitsOp BinOp.and .u64 (shrOp .u64 x 1) 6148914691236517205+bitsOp BinOp.and .u64 x 6148914691236517205)) 3689348814741910323))) 1085102592571150095+shrOp .u64 (bitsOp BinOp.and .u64 (wrap .u64 (shrOp .u64 (wrap .u64 (bitsOp BinOp.and .u64 (shrOp .u64 (wrap .u64 (bitsOp BinOp.and .u64 (shrOp .u64 x 1) 6148914691236517205+bitsOp BinOp.and .u64 x 6148914691236517205)) 2) 3689348814741910323+bitsOp BinOp.and .u64 (wrap .u64 (bitsOp BinOp.and .u64 (shrOp .u64 x 1) 6148914691236517205+bitsOp BinOp.and .u64 x 6148914691236517205)) 3689348814741910323)) 4+wrap .u64 (bitsOp BinOp.and .u64 (shrOp .u64 (wrap .u64 (bitsOp BinOp.and .u64 (shrOp .u64 x 1) 6148914691236517205+bitsOp BinOp.and .u64 x 6148914691236517205)) 2) 3689348814741910323+bitsOp BinOp.and .u64 (wrap .u64 (bitsOp BinOp.and .u64 (shrOp .u64 x 1) 6148914691236517205+bitsOp BinOp.and .u64 x 6148914691236517205)) 3689348814741910323))) 1085102592571150095) 8)+shrOp .u64 (wrap .u64 (bitsOp BinOp.and .u64 (wrap .u64 (shrOp .u64 (wrap .u64 (bitsOp BinOp.and .u64 (shrOp .u64 (wrap .u64 (bitsOp BinOp.and .u64 (shrOp .u64 x 1) 6148914691236517205+bitsOp BinOp.and .u64 x 6148914691236517205)) 2) 3689348814741910323+bitsOp BinOp.and .u64 (wrap .u64 (bitsOp BinOp.and .u64 (shrOp .u64 x 1) 6148914691236517205+bitsOp BinOp.and .u64 x 6148914691236517205)) 3689348814741910323)) 4+wrap .u64 (bitsOp BinOp.and .u64 (shrOp .u64 (wrap .u64 (bitsOp BinOp.and .u64 (shrOp .u64 x 1) 6148914691236517205+bitsOp BinOp.and .u64 x 6148914691236517205)) 2) 3689348814741910323+bitsOp BinOp.and .u64 (wrap .u64 (bitsOp BinOp.and .u64 (shrOp .u64 x 1) 6148914691236517205+bitsOp BinOp.and .u64 x 6148914691236517205)) 3689348814741910323))) 1085102592571150095+shrOp .u64 (bitsOp BinOp.and .u64 (wrap .u64 (shrOp .u64 (wrap .u64 (bitsOp BinOp.and .u64 (shrOp .u64 (wrap .u64 (bitsOp BinOp.and .u64 (shrOp .u64 x 1) 6148914691236517205+bitsOp BinOp.and .u64 x 6148914691236517205)) 2) 3689348814741910323+bitsOp BinOp.and .u64 (wrap .u64 (bitsOp BinOp.and .u64 (shrOp .u64 x 1) 6148914691236517205+bitsOp BinOp.and .u64 x 6148914691236517205)) 3689348814741910323)) 4+wrap .u64 (bitsOp BinOp.and .u64 (shrOp .u64 (wrap .u64 (bitsOp BinOp.and .u64 (shrOp .u64 x 1) 6148914691236517205+bitsOp BinOp.and .u64 x 6148914691236517205)) 2) 3689348814741910323+bitsOp BinOp.and .u64 (wrap .u64 (bitsOp BinOp.and .u64 (shrOp .u64 x 1) 6148914691236517205+bitsOp BinOp.and .u64 x 6148914691236517205)) 3689348814741910323))) 1085102592571150095) 8)) 16)) 32))) 127))) w):=by kernel_rfl
def M158:Mt:={N:=9,keep:=kp 0 [[0,1],[4]],ref:=false}
noncomputable def c158:Code:=bodyOf f158
theorem u158:UT 158 M158 c158 f158:=fun h i=>u_ func158 (by kernel_rfl) h i
theorem t158 (x x1 w R):den prog M158 c158 (argE 0 [(int .u64 x),(int i64 x1)]) w (Rt f158 R)=
(Call prog 60 [I x1] w fun e w'=>∃n,e=Z (int .u64 n)/\R (Z (int .u64 (bitsOp BinOp.andNot .u64 x n))) w'):=by kernel_rfl
def M159:Mt:={N:=8,keep:=kp 0 [[0],[0,5],[2,3],[2,3]],ref:=false}
noncomputable def c159:Code:=bodyOf f159
theorem u159:UT 159 M159 c159 f159:=fun h i=>u_ func159 (by kernel_rfl) h i
theorem t159 (x w R):den prog M159 c159 (argE 0 [(int .u64 x)]) w (Rt f159 R)=
(((x==0)->R (Z (tuple #[I 0,I 12])) w)/\((x==0)=false->Call prog 253 [int .u64 x] w fun e w'=>∃n,e=Z (I n)/\R (Z (tuple #[I n,I 0])) w')):=by kernel_rfl
def M179:Mt:={N:=19,keep:=kp 0 [[0,1],[0,7,8,9],[0,7,8,9,10],[0,6,7,8,9],[0,7,8,9],[0,7,8,9],[4]],bk:=[(0,[0]),(1,[0,7,8,9])],lk:=[(2,[0,7,8,9])],ref:=false}
noncomputable def c179:Code:=bodyOf f179
noncomputable def c179_0:Code:=c179.sr.sr
noncomputable def c179_1:Code:=c179.sr.sl.sr.sl.sl
def e179_1 (x:Int) (x1:Option Addr) (x2 x3:Nat) (x4 x5:Int):Env:=[(0,SV.v (int .u64 x)),(7,SV.v (slice x1 x2 x3)),(8,SV.v (int i64 x4)),(9,SV.v (int i64 x5))]
def k179_1 (R:RT):=blockK 0 [0] (SQ M179 c179_0 (Rt f179 R) (Rt f179 R))
theorem u179:UT 179 M179 c179 f179:=fun h i=>u_ func179 (by kernel_rfl) h i
theorem t179 (x x1 x2 x3 w R):den prog M179 c179 (argE 0 [(int .u64 x),(slice x1 x2 x3)]) w (Rt f179 R)=
(Cut (WP prog 19 (Code.loop c179_1) (e179_1 x x1 x2 x3 (↑x2:Int) 0) w (k179_1 R))):=by kernel_rfl
theorem t179_1 (x x1 x2 x3 x4 x5 w B179_1 R):den prog M179 c179_1 (e179_1 x x1 x2 x3 x4 x5) w (loopK B179_1 (k179_1 R))=
((decide (x5<x4)->(0<=x5/\x5<(↑x2:Int))/\∃a,x1=some a/\∃n,w.cell? (add a (Int.toNat x5*1))=some (I n)/\Call prog 60 [I n] w fun e w'=>∃n,e=Z (int .u64 n)/\B179_1 [(0,SV.v (int .u64 (bitsOp BinOp.or .u64 x n))),(7,SV.v (slice x1 x2 x3)),(8,SV.v (I x4)),(9,SV.v (I (wrap i64 (x5+1))))] w')/\(decide (x5<x4)=false->R (Z (int .u64 x)) w)):=by kernel_rfl
def M253:Mt:={N:=14,keep:=kp 0 [[0],[0,4],[2],[2]],ref:=false}
noncomputable def c253:Code:=bodyOf f253
theorem u253:UT 253 M253 c253 f253:=fun h i=>u_ func253 (by kernel_rfl) h i
theorem t253 (x w R):den prog M253 c253 (argE 0 [(int .u64 x)]) w (Rt f253 R)=
(((x==0)->R (Z (I 64)) w)/\
 ((x==0)=false->(0:Int)<=58/\(0<=shrOp .u64 (wrap .u64 (bitsOp BinOp.and .u64 x (wrap .u64 (0-x))*285870213051353865)) 58/\shrOp .u64 (wrap .u64 (bitsOp BinOp.and .u64 x (wrap .u64 (0-x))*285870213051353865)) 58<((64:Nat):Int))/\
 ∃n,w.cell? (add ⟨0,0,none⟩ (Int.toNat (shrOp .u64 (wrap .u64 (bitsOp BinOp.and .u64 x (wrap .u64 (0-x))*285870213051353865)) 58)*1))=some (int IntKind.u8 n)/\R (Z (I (wrap i64 n))) w)):=by kernel_rfl
def M277:Mt:={N:=9,keep:=kp 0 [[0,1],[4]],ref:=false}
noncomputable def c277:Code:=bodyOf f277
theorem u277:UT 277 M277 c277 f277:=fun h i=>u_ func277 (by kernel_rfl) h i
theorem t277 (x x1 w R):den prog M277 c277 (argE 0 [(int .u64 x),(int .u64 x1)]) w (Rt f277 R)=
(R (Z (.bool (bitsOp BinOp.andNot .u64 x x1==0))) w):=by kernel_rfl
def M318:Mt:={N:=8,keep:=kp 0 [[0,1],[4]],ref:=false}
noncomputable def c318:Code:=bodyOf f318
theorem u318:UT 318 M318 c318 f318:=fun h i=>u_ func318 (by kernel_rfl) h i
theorem t318 (x x1 w R):den prog M318 c318 (argE 0 [(int .u64 x),(int .u64 x1)]) w (Rt f318 R)=
(R (Z (int .u64 (bitsOp BinOp.and .u64 x x1))) w):=by kernel_rfl
def M319:Mt:={N:=32,keep:=kp 0 [[0,1],[0,1,12],[4,5],[0,6],[0,6,23],[4,5],[4,5]],ref:=false}
noncomputable def c319:Code:=bodyOf f319
theorem u319:UT 319 M319 c319 f319:=fun h i=>u_ func319 (by kernel_rfl) h i
theorem t319 (x x1 w R):den prog M319 c319 (argE 0 [(int .u64 x),(int i64 x1)]) w (Rt f319 R)=
((decide (x1<0)=false->(decide (x1>=63)->Call prog 159 [int .u64 x] w fun e w'=>∃n n_1,e=Z (tuple #[I n,I n_1])/\R (Z (tuple #[I n,I n_1])) w')/\(decide (x1>=63)=false->Call prog 11 [I (wrap i64 (x1+1))] w fun e w'=>∃n,e=Z (int .u64 n)/\((bitsOp BinOp.andNot .u64 x n !=0)->Call prog 159 [int .u64 (bitsOp BinOp.andNot .u64 x n)] w' fun e w'=>∃n n_1,e=Z (tuple #[I n,I n_1])/\R (Z (tuple #[I n,I n_1])) w')/\((bitsOp BinOp.andNot .u64 x n !=0)=false->Call prog 159 [int .u64 x] w' fun e w'=>∃n n_1,e=Z (tuple #[I n,I n_1])/\R (Z (tuple #[I n,I n_1])) w')))/\(decide (x1<0)->Call prog 159 [int .u64 x] w fun e w'=>∃n n_1,e=Z (tuple #[I n,I n_1])/\R (Z (tuple #[I n,I n_1])) w')):=by kernel_rfl
def M353:Mt:={N:=8,keep:=kp 0 [[0,1],[4]],ref:=false}
noncomputable def c353:Code:=bodyOf f353
theorem u353:UT 353 M353 c353 f353:=fun h i=>u_ func353 (by kernel_rfl) h i
theorem t353 (x x1 w R):den prog M353 c353 (argE 0 [(int .u64 x),(int .u64 x1)]) w (Rt f353 R)=
(R (Z (int .u64 (bitsOp BinOp.andNot .u64 x x1))) w):=by kernel_rfl
def M382:Mt:={N:=16,keep:=kp 0 [[0],[0,3],[0,3,5],[0,3],[0,3],[2]],bk:=[(0,[3]),(1,[0,3])],lk:=[(2,[0,3])],ref:=false}
noncomputable def c382:Code:=bodyOf f382
noncomputable def c382_0:Code:=c382.sr.sr.sr
noncomputable def c382_1:Code:=c382.sr.sr.sl.sl.sl
def e382_1 (x:Int) (x1:Option Addr) (x2 x3:Nat):Env:=[(0,SV.v (int .u64 x)),(3,SV.v (slice x1 x2 x3))]
def k382_1 (R:RT):=blockK 0 [3] (SQ M382 c382_0 (Rt f382 R) (Rt f382 R))
theorem u382:UT 382 M382 c382 f382:=fun h i=>u_ func382 (by kernel_rfl) h i
theorem t382 (x w R):den prog M382 c382 (argE 0 [(int .u64 x)]) w (Rt f382 R)=
(Cut (WP prog 16 (Code.loop c382_1) (e382_1 x none 0 0) w (k382_1 R))):=by kernel_rfl
theorem t382_1 (x x1 x2 x3 w B382_1 R):den prog M382 c382_1 (e382_1 x x1 x2 x3) w (loopK B382_1 (k382_1 R))=
(((x !=0)->Call prog 253 [int .u64 x] w fun e w'=>∃n,e=Z (I n)/\New w' [I n] 3 fun p w'=>∃p_1 n c w'_1,Sem.run prog (Builtin.append_ #[36,36] 36 #[slice x1 x2 x3,slice (some p) 1 1]) w'=Result.ok (slice p_1 n c) w'_1/\B382_1 [(0,SV.v (int .u64 (bitsOp BinOp.and .u64 x (wrap .u64 (x-1))))),(3,SV.v (slice p_1 n c))] w'_1)/\((x !=0)=false->R (Z (slice x1 x2 x3)) w)):=by kernel_rfl
def M325:Mt:={N:=9,keep:=kp 0 [[0,1],[4]],ref:=false}
noncomputable def c325:Code:=bodyOf f325
theorem u325:UT 325 M325 c325 f325:=fun h i=>u_ func325 (by kernel_rfl) h i
theorem t325 (x x1 x2 x3 w R):den prog M325 c325 (argE 0 [(slice x x1 x2),(int i64 x3)]) w (Rt f325 R)=
(Call prog 375 [slice x x1 x2,I x3] w fun e w'=>∃n,e=Z (I n)/\R (Z (.bool (decide (n>=0)))) w'):=by kernel_rfl
def M375:Mt:={N:=19,keep:=kp 0 [[0,1],[0,1,7,8],[0,1,7,8,9],[0,1,5,7,8],[0,1,5,7,8,16],[4],[0,1,7,8],[4]],bk:=[(0,[]),(1,[0,1,7,8])],lk:=[(2,[0,1,7,8])],ref:=false}
noncomputable def c375:Code:=bodyOf f375
noncomputable def c375_0:Code:=c375.sr.sr
noncomputable def c375_1:Code:=c375.sr.sl.sr.sl.sl
def e375_1 (x:Option Addr) (x1 x2:Nat) (x3 x4 x5:Int):Env:=[(0,SV.v (slice x x1 x2)),(1,SV.v (int i64 x3)),(7,SV.v (int i64 x4)),(8,SV.v (int i64 x5))]
def k375_1 (R:RT):=blockK 0 [] (SQ M375 c375_0 (Rt f375 R) (Rt f375 R))
theorem u375:UT 375 M375 c375 f375:=fun h i=>u_ func375 (by kernel_rfl) h i
theorem t375 (x x1 x2 x3 w R):den prog M375 c375 (argE 0 [(slice x x1 x2),(int i64 x3)]) w (Rt f375 R)=
(Cut (WP prog 19 (Code.loop c375_1) (e375_1 x x1 x2 x3 (↑x1:Int) 0) w (k375_1 R))):=by kernel_rfl
theorem t375_1 (x x1 x2 x3 x4 x5 w B375_1 R):den prog M375 c375_1 (e375_1 x x1 x2 x3 x4 x5) w (loopK B375_1 (k375_1 R))=
((decide (x5<x4)->(0<=x5/\x5<(↑x1:Int))/\∃a,x=some a/\∃n,w.cell? (add a (Int.toNat x5*1))=some (I n)/\((x3==n)->R (Z (I x5)) w)/\((x3==n)=false->B375_1 [(0,SV.v (slice x x1 x2)),(1,SV.v (I x3)),(7,SV.v (I x4)),(8,SV.v (I (wrap i64 (x5+1))))] w))/\(decide (x5<x4)=false->R (Z (I (-1:Int))) w)):=by kernel_rfl
def M190:Mt:={N:=8,keep:=kp 0 [[0],[0,4],[2],[2]],ref:=false}
noncomputable def c190:Code:=bodyOf f190
theorem u190:UT 190 M190 c190 f190:=fun h i=>u_ func190 (by kernel_rfl) h i
theorem t190 (x x1 x2 w R):den prog M190 c190 (argE 0 [(slice x x1 x2)]) w (Rt f190 R)=
((x.isNone->R (Z (N3)) w)/\(x.isNone=false->New w [] 3 fun p w'=>∃p_1 n c w'_1,Sem.run prog (Builtin.append_ #[36,36] 36 #[slice (some p) 0 0,slice x x1 x2]) w'=Result.ok (slice p_1 n c) w'_1/\R (Z (slice p_1 n c)) w'_1)):=by kernel_rfl
def M107:Mt:={N:=18,keep:=kp 0 [[0],[0,9],[2,3],[2,3]],ref:=false}
noncomputable def c107:Code:=bodyOf f107
theorem u107:UT 107 M107 c107 f107:=fun h i=>u_ func107 (by kernel_rfl) h i
theorem t107 (x w R):den prog M107 c107 (argE 0 [(int i64 x)]) w (Rt f107 R)=
((decide (x<1)=false->(decide (x>1024)->R (Z (tuple #[pointer none,I 2])) w)/\(decide (x>1024)=false->(64:Int)≠0/\∃p n c w',Sem.run prog (Instr.makeSlice 290 (I (wrap i64 (Int.tdiv (wrap i64 (wrap i64 (x+64)-1)) 64))) (I (wrap i64 (Int.tdiv (wrap i64 (wrap i64 (x+64)-1)) 64)))) w=Result.ok (slice p n c) w'/\New w' [slice p n c,I x,I 0] 292 fun p w'=>R (Z (tuple #[pointer (some p),I 0])) w'))/\(decide (x<1)->R (Z (tuple #[pointer none,I 2])) w)):=by kernel_rfl
def M149:Mt:={N:=59,keep:=kp 0 [[0],[0,7],[2,3],[0,10],[2,3],[0,23,24,25],[0,23,24,25,26],[0,4,5,23,24,25],[0,4,6,23,24,25],[0,4,6,23,24,25,34],[0,4,6],[4,6],[2,3],[0,23,24,25],[2,3]],ords:=[(3,[0,1,2,3,4,5,6,7,8,9]),(10,[0,1,2,3,4,5,6,7,8,9,10,11])],bk:=[(0,[0]),(1,[]),(2,[0,23,24,25])],lk:=[(6,[0,23,24,25])],ref:=false}
noncomputable def c149:Code:=bodyOf f149
noncomputable def c149_0:Code:=c149.sr.sr.sr
noncomputable def c149_1:Code:=c149.sr.sr.sl.sr.sl.sl
def e149_1 (x x1:Option Addr) (x2 x3:Nat) (x4 x5:Int):Env:=[(0,SV.v (pointer x)),(23,SV.v (slice x1 x2 x3)),(24,SV.v (int i64 x4)),(25,SV.v (int i64 x5))]
def k149_1 (R:RT):=blockK 1 [] (SQ M149 c149_0 (Rt f149 R) (Rt f149 R))
theorem u149:UT 149 M149 c149 f149:=fun h i=>u_ func149 (by kernel_rfl) h i
theorem t149 (x w R):den prog M149 c149 (argE 0 [(pointer x)]) w (Rt f149 R)=
((x.isNone->R (Z (tuple #[I 0,I 1])) w)/\(x.isNone=false->Sm w fun w'=>∃a,x=some a/\∃n,w'.cell? (a.add 2)=some (I n)/\∃a,x=some a/\∃n_1,w'.cell? (a.add 1)=some (I n_1)/\((n==n_1)->R (Z (tuple #[I 0,I 5])) w')/\((n==n_1)=false->∃a,x=some a/\∃p n c,w'.cell? (a.add 0)=some (slice p n c)/\Cut (WP prog 59 (Code.loop c149_1) (e149_1 x p n c (↑n:Int) 0) w' (k149_1 R))))):=by kernel_rfl
theorem t149_1 (x x1 x2 x3 x4 x5 w B149_1 R):den prog M149 c149_1 (e149_1 x x1 x2 x3 x4 x5) w (loopK B149_1 (k149_1 R))=
((decide (x5<x4)->(0<=x5/\x5<(↑x2:Int))/\∃a,x1=some a/\∃n,w.cell? (add a (Int.toNat x5*1))=some (int .u64 n)/\Call prog 253 [int .u64 (bitsOp BinOp.xor .u64 (match false with|true=>(-1:Int)|false=>IntKind.max .u64) n)] w fun e w'=>∃n,e=Z (I n)/\(decide (n<64)->Sm w' fun w'_1=>∃a,x=some a/\∃p n_1 c,w'_1.cell? (a.add 0)=some (slice p n_1 c)/\(0<=x5/\x5<(↑n_1:Int))/\∃a,p=some a/\∃n_2,w'_1.cell? (add a (Int.toNat x5*1))=some (int .u64 n_2)/\0<=n/\(0<=x5/\x5<(↑n_1:Int))/\∃a,p=some a/\Wr w'_1 (add a (Int.toNat x5*1)) [int .u64 (bitsOp BinOp.or .u64 n_2 (shlOp .u64 1 n))] fun w'=>∃a,x=some a/\∃n_3,w'.cell? (a.add 2)=some (I n_3)/\∃a,x=some a/\Wr w' (a.add 2) [I (wrap i64 (n_3+1))] fun w'=>R (Z (tuple #[I (wrap i64 (wrap i64 (wrap i64 (x5*64)+n)+1)),I 0])) w')/\(decide (n<64)=false->B149_1 [(0,SV.v (pointer x)),(23,SV.v (slice x1 x2 x3)),(24,SV.v (I x4)),(25,SV.v (I (wrap i64 (x5+1))))] w'))/\(decide (x5<x4)=false->R (Z (tuple #[I 0,I 5])) w)):=by kernel_rfl
def M272:Mt:={N:=21,keep:=kp 0 [[0],[0,3],[0,3,6,7],[0,3,6,7,8],[0,3,4,6,7],[0,3,4,6,7,13],[0,3,6,7],[0,3,6,7],[2]],bk:=[(0,[3]),(1,[0,3,6,7])],lk:=[(3,[0,3,6,7])],ref:=false}
noncomputable def c272:Code:=bodyOf f272
noncomputable def c272_0:Code:=c272.sr.sr.sr
noncomputable def c272_1:Code:=c272.sr.sr.sl.sr.sl.sl
def e272_1 (x x1:Option Addr) (x2 x3:Nat) (x4 x5:Int):Env:=[(0,SV.v (pointer x)),(3,SV.v (slice x1 x2 x3)),(6,SV.v (int i64 x4)),(7,SV.v (int i64 x5))]
def k272_1 (R:RT):=blockK 0 [3] (SQ M272 c272_0 (Rt f272 R) (Rt f272 R))
theorem u272:UT 272 M272 c272 f272:=fun h i=>u_ func272 (by kernel_rfl) h i
theorem t272 (x w R):den prog M272 c272 (argE 0 [(pointer x)]) w (Rt f272 R)=
(Call prog 339 [pointer x] w fun e w'=>∃n,e=Z (I n)/\Cut (WP prog 21 (Code.loop c272_1) (e272_1 x none 0 0 n 0) w' (k272_1 R))):=by kernel_rfl
theorem t272_1 (x x1 x2 x3 x4 x5 w B272_1 R):den prog M272 c272_1 (e272_1 x x1 x2 x3 x4 x5) w (loopK B272_1 (k272_1 R))=
((decide (x5<x4)->Call prog 340 [pointer x,I (wrap i64 (x5+1))] w fun e w'=>∃b,e=Z (.bool b)/\(b->New w' [I (wrap i64 (x5+1))] 3 fun p w'=>∃p_1 n c w'_1,Sem.run prog (Builtin.append_ #[36,36] 36 #[slice x1 x2 x3,slice (some p) 1 1]) w'=Result.ok (slice p_1 n c) w'_1/\B272_1 [(0,SV.v (pointer x)),(3,SV.v (slice p_1 n c)),(6,SV.v (I x4)),(7,SV.v (I (wrap i64 (x5+1))))] w'_1)/\(b=false->B272_1 [(0,SV.v (pointer x)),(3,SV.v (slice x1 x2 x3)),(6,SV.v (I x4)),(7,SV.v (I (wrap i64 (x5+1))))] w'))/\(decide (x5<x4)=false->R (Z (slice x1 x2 x3)) w)):=by kernel_rfl
def M305:Mt:={N:=40,keep:=kp 0 [[0,1],[0,5,6],[0,5,6,13],[4],[0,5,6,16],[4],[0],[],[4]],bk:=[(0,[0,5,6])],ref:=false}
noncomputable def c305:Code:=bodyOf f305
theorem u305:UT 305 M305 c305 f305:=fun h i=>u_ func305 (by kernel_rfl) h i
theorem t305 (x x1 w R):den prog M305 c305 (argE 0 [(pointer x),(int i64 x1)]) w (Rt f305 R)=
(Call prog 363 [pointer x,I x1] w fun e w'=>∃p n,e=Z (tuple #[pointer p,int .u64 n])/\(x.isNone->R (Z (I 1)) w')/\(x.isNone=false->(p.isNone=false->∃a,p=some a/\∃n_1,w'.cell? a=some (int .u64 n_1)/\((bitsOp BinOp.and .u64 n_1 n==0)->R (Z (I 4)) w')/\((bitsOp BinOp.and .u64 n_1 n==0)=false->∃a,p=some a/\∃n_2,w'.cell? a=some (int .u64 n_2)/\∃a,p=some a/\Wr w' a [int .u64 (bitsOp BinOp.andNot .u64 n_2 n)] fun w'=>∃a,x=some a/\∃n,w'.cell? (a.add 2)=some (I n)/\∃a,x=some a/\Wr w' (a.add 2) [I (wrap i64 (n-1))] fun w'=>R (Z (I 0)) w'))/\(p.isNone->R (Z (I 4)) w'))):=by kernel_rfl
def M339:Mt:={N:=9,keep:=kp 0 [[0],[0,4],[2],[2]],ref:=false}
noncomputable def c339:Code:=bodyOf f339
theorem u339:UT 339 M339 c339 f339:=fun h i=>u_ func339 (by kernel_rfl) h i
theorem t339 (x w R):den prog M339 c339 (argE 0 [(pointer x)]) w (Rt f339 R)=
((x.isNone->R (Z (I 0)) w)/\(x.isNone=false->∃a,x=some a/\∃n,w.cell? (a.add 1)=some (I n)/\R (Z (I n)) w)):=by kernel_rfl
def M340:Mt:={N:=23,keep:=kp 0 [[0,1],[5,6],[4]],ref:=false}
noncomputable def c340:Code:=bodyOf f340
theorem u340:UT 340 M340 c340 f340:=fun h i=>u_ func340 (by kernel_rfl) h i
theorem t340 (x x1 w R):den prog M340 c340 (argE 0 [(pointer x),(int i64 x1)]) w (Rt f340 R)=
(Call prog 363 [pointer x,I x1] w fun e w'=>∃p n,e=Z (tuple #[pointer p,int .u64 n])/\((!p.isNone)->∃a,p=some a/\∃n_1,w'.cell? a=some (int .u64 n_1)/\R (Z (.bool (bitsOp BinOp.and .u64 n_1 n !=0))) w')/\((!p.isNone)=false->R (Z (.bool false)) w')):=by kernel_rfl
def M363:Mt:={N:=32,keep:=kp 0 [[0,1],[0,1,19],[4,5],[4,5]],ords:=[(3,[0,1,2,3,4,5,6,7,8,9,10,11,12,13])],ref:=false}
noncomputable def c363:Code:=bodyOf f363
theorem u363:UT 363 M363 c363 f363:=fun h i=>u_ func363 (by kernel_rfl) h i
theorem t363 (x x1 w R):den prog M363 c363 (argE 0 [(pointer x),(int i64 x1)]) w (Rt f363 R)=
((x.isNone=false->(decide (x1<1)=false->∃a,x=some a/\∃n,w.cell? (a.add 1)=some (I n)/\(decide (x1>n)->R (Z (tuple #[pointer none,int .u64 0])) w)/\(decide (x1>n)=false->Sm w fun w'=>∃a,x=some a/\∃p n c,w'.cell? (a.add 0)=some (slice p n c)/\(64:Int)≠0/\(0<=wrap i64 (Int.tdiv (wrap i64 (x1-1)) 64)/\wrap i64 (Int.tdiv (wrap i64 (x1-1)) 64)<(↑n:Int))/\∃a,p=some a/\(64:Int)≠0/\0<=Int.tmod (wrap i64 (x1-1)) 64/\R (Z (tuple #[pointer (some (add a (Int.toNat (wrap i64 (Int.tdiv (wrap i64 (x1-1)) 64))*1))),int .u64 (shlOp .u64 1 (Int.tmod (wrap i64 (x1-1)) 64))])) w'))/\(decide (x1<1)->R (Z (tuple #[pointer none,int .u64 0])) w))/\(x.isNone->R (Z (tuple #[pointer none,int .u64 0])) w)):=by kernel_rfl
def M110:Mt:={N:=14,keep:=kp 0 [[0],[0,9],[2,3],[2,3]],ref:=false}
noncomputable def c110:Code:=bodyOf f110
theorem u110:UT 110 M110 c110 f110:=fun h i=>u_ func110 (by kernel_rfl) h i
theorem t110 (x w R):den prog M110 c110 (argE 0 [(int i64 x)]) w (Rt f110 R)=
((decide (x<1)=false->(decide (x>1024)->R (Z (tuple #[pointer none,I 2])) w)/\(decide (x>1024)=false->∃p n c w',Sem.run prog (Instr.makeSlice 36 (I x) (I x)) w=Result.ok (slice p n c) w'/\New w' [slice p n c,I 0,I 0] 295 fun p w'=>R (Z (tuple #[pointer (some p),I 0])) w'))/\(decide (x<1)->R (Z (tuple #[pointer none,I 2])) w)):=by kernel_rfl
def M151:Mt:={N:=42,keep:=kp 0 [[0,1],[0,1,5],[4],[0,1,8],[4],[0,1,12],[4],[0],[],[4]],ords:=[(5,[0,1,2,3,4,5,6,7,8,9,10]),(7,[0,1,2,3,4,5,6,7,8,10,9,11,12])],bk:=[(0,[0,1])],ref:=false}
noncomputable def c151:Code:=bodyOf f151
theorem u151:UT 151 M151 c151 f151:=fun h i=>u_ func151 (by kernel_rfl) h i
theorem t151 (x x1 w R):den prog M151 c151 (argE 0 [(pointer x),(int i64 x1)]) w (Rt f151 R)=
((x.isNone->R (Z (I 1)) w)/\(x.isNone=false->Call prog 254 [pointer x,I x1] w fun e w'=>∃b,e=Z (.bool b)/\(b->R (Z (I 6)) w')/\(b=false->Sm w' fun w'_1=>∃a,x=some a/\∃n,w'_1.cell? (a.add 2)=some (I n)/\∃a,x=some a/\∃p n_1 c,w'_1.cell? (a.add 0)=some (slice p n_1 c)/\((n==(↑n_1:Int))->R (Z (I 5)) w'_1)/\((n==(↑n_1:Int))=false->Sm w'_1 fun w'=>∃a,x=some a/\∃p n c,w'.cell? (a.add 0)=some (slice p n c)/\∃a_1,x=some a_1/\∃n_2,w'.cell? (a_1.add 2)=some (I n_2)/\Call prog 255 [pointer x,I n_2] w' fun e w'=>∃n_3,e=Z (I n_3)/\w'.cell? (a.add 0)=some (slice p n c)/\(0<=n_3/\n_3<(↑n:Int))/\∃a,p=some a/\Wr w' (add a (Int.toNat n_3*1)) [I x1] fun w'=>∃a,x=some a/\∃n,w'.cell? (a.add 2)=some (I n)/\∃a,x=some a/\Wr w' (a.add 2) [I (wrap i64 (n+1))] fun w'=>R (Z (I 0)) w')))):=by kernel_rfl
def M187:Mt:={N:=39,keep:=kp 0 [[0],[0,13],[2],[0,3],[0,3,4],[3],[2]],ords:=[(4,[0,1,2,3,4,5,6,7,8,9,10,11]),(5,[0,1,2,3,4,5,6,7])],ref:=false}
noncomputable def c187:Code:=bodyOf f187
theorem u187:UT 187 M187 c187 f187:=fun h i=>u_ func187 (by kernel_rfl) h i
theorem t187 (x w R):den prog M187 c187 (argE 0 [(pointer x)]) w (Rt f187 R)=
((x.isNone=false->∃a,x=some a/\∃n,w.cell? (a.add 2)=some (I n)/\((n==0)->R (Z (N3)) w)/\((n==0)=false->∃a,x=some a/\∃n,w.cell? (a.add 2)=some (I n)/\∃p n_1 c w',Sem.run prog (Instr.makeSlice 36 (I n) (I n)) w=Result.ok (slice p n_1 c) w'/\Sm w' fun w'_1=>∃a,x=some a/\∃p_1 n c_1,w'_1.cell? (a.add 0)=some (slice p_1 n c_1)/\∃a,x=some a/\∃n_2,w'_1.cell? (a.add 1)=some (I n_2)/\(0<=n_2/\n_2<=(↑n:Int))/\∃n_3 w',Sem.run prog (Builtin.copy_ #[36,36] 3 #[slice p n_1 c,slice (subA p_1 c_1 (Int.toNat n_2) 1) (n-Int.toNat n_2) (c_1-Int.toNat n_2)]) w'_1=Result.ok (I n_3) w'/\Sm w' fun w'_2=>(0<=n_3/\n_3<=(↑n_1:Int))/\∃a,x=some a/\∃p_2 n c_2,w'_2.cell? (a.add 0)=some (slice p_2 n c_2)/\∃n_4 w',Sem.run prog (Builtin.copy_ #[36,36] 3 #[slice (subA p c (Int.toNat n_3) 1) (n_1-Int.toNat n_3) (c-Int.toNat n_3),slice p_2 n c_2]) w'_2=Result.ok (I n_4) w'/\R (Z (slice p n_1 c)) w'))/\(x.isNone->R (Z (N3)) w)):=by kernel_rfl
def M254:Mt:={N:=9,keep:=kp 0 [[0,1],[4]],ref:=false}
noncomputable def c254:Code:=bodyOf f254
theorem u254:UT 254 M254 c254 f254:=fun h i=>u_ func254 (by kernel_rfl) h i
theorem t254 (x x1 w R):den prog M254 c254 (argE 0 [(pointer x),(int i64 x1)]) w (Rt f254 R)=
(Call prog 187 [pointer x] w fun e w'=>∃p n c,e=Z (slice p n c)/\Call prog 325 [slice p n c,I x1] w' fun e w'=>∃b,e=Z (.bool b)/\R (Z (.bool b)) w'):=by kernel_rfl
def M255:Mt:={N:=17,keep:=kp 0 [[0,1],[4]],ords:=[(1,[0,1,2,3,4,5,6,7,8,9,10,11,12])],ref:=false}
noncomputable def c255:Code:=bodyOf f255
theorem u255:UT 255 M255 c255 f255:=fun h i=>u_ func255 (by kernel_rfl) h i
theorem t255 (x x1 w R):den prog M255 c255 (argE 0 [(pointer x),(int i64 x1)]) w (Rt f255 R)=
(Sm w fun w'=>∃a,x=some a/\∃n,w'.cell? (a.add 1)=some (I n)/\∃a,x=some a/\∃p n_1 c,w'.cell? (a.add 0)=some (slice p n_1 c)/\(↑n_1:Int)≠0/\R (Z (I (Int.tmod (wrap i64 (n+x1)) (↑n_1:Int)))) w'):=by kernel_rfl
def M304:Mt:={N:=27,keep:=kp 0 [[0],[0,4,5],[0,4,5,12],[0,4,5],[4,5],[2,3]],ref:=false}
noncomputable def c304:Code:=bodyOf f304
theorem u304:UT 304 M304 c304 f304:=fun h i=>u_ func304 (by kernel_rfl) h i
theorem t304 (x w R):den prog M304 c304 (argE 0 [(pointer x)]) w (Rt f304 R)=
(Call prog 307 [pointer x] w fun e w'=>∃n n_1,e=Z (tuple #[I n,I n_1])/\((n_1==0)->Call prog 255 [pointer x,I 1] w' fun e w'=>∃n_2,e=Z (I n_2)/\∃a,x=some a/\Wr w' (a.add 1) [I n_2] fun w'=>∃a,x=some a/\∃n_3,w'.cell? (a.add 2)=some (I n_3)/\∃a,x=some a/\Wr w' (a.add 2) [I (wrap i64 (n_3-1))] fun w'=>R (Z (tuple #[I n,I n_1])) w')/\((n_1==0)=false->R (Z (tuple #[I n,I n_1])) w')):=by kernel_rfl
def M307:Mt:={N:=23,keep:=kp 0 [[0],[0,4],[2,3],[0,7],[2,3],[2,3]],ords:=[(5,[0,1,2,3,4,5,6,7,8,9,10,11])],bk:=[(0,[0])],ref:=false}
noncomputable def c307:Code:=bodyOf f307
theorem u307:UT 307 M307 c307 f307:=fun h i=>u_ func307 (by kernel_rfl) h i
theorem t307 (x w R):den prog M307 c307 (argE 0 [(pointer x)]) w (Rt f307 R)=
((x.isNone->R (Z (tuple #[I 0,I 1])) w)/\(x.isNone=false->∃a,x=some a/\∃n,w.cell? (a.add 2)=some (I n)/\((n==0)->R (Z (tuple #[I 0,I 12])) w)/\((n==0)=false->Sm w fun w'=>∃a,x=some a/\∃p n c,w'.cell? (a.add 0)=some (slice p n c)/\∃a,x=some a/\∃n_1,w'.cell? (a.add 1)=some (I n_1)/\(0<=n_1/\n_1<(↑n:Int))/\∃a,p=some a/\∃n,w'.cell? (add a (Int.toNat n_1*1))=some (I n)/\R (Z (tuple #[I n,I 0])) w'))):=by kernel_rfl
def M364:Mt:={N:=45,keep:=kp 0 [[0,1],[0,1,9],[4],[0,1,5],[0,5,6],[0,5,6,16],[4],[0,5,7],[0,5,7,22],[0,5,7],[0,5,7],[],[4]],ords:=[(10,[0,1,2,3,4,5,7,8,9,10,11,6,12,13])],bk:=[(0,[0]),(1,[0,5,7])],lk:=[(8,[0,5,7])],ref:=false}
noncomputable def c364:Code:=bodyOf f364
noncomputable def c364_0:Code:=c364.sr.sr.sr.sr.sr.sr
noncomputable def c364_1:Code:=c364.sr.sr.sr.sr.sr.sl.sr.sl.sl
def e364_1 (x x1:Option Addr) (x2 x3:Nat) (x4:Int):Env:=[(0,SV.v (pointer x)),(5,SV.v (slice x1 x2 x3)),(7,SV.v (int i64 x4))]
def k364_1 (R:RT):=blockK 0 [0] (SQ M364 c364_0 (Rt f364 R) (Rt f364 R))
theorem u364:UT 364 M364 c364 f364:=fun h i=>u_ func364 (by kernel_rfl) h i
theorem t364 (x x1 w R):den prog M364 c364 (argE 0 [(pointer x),(int i64 x1)]) w (Rt f364 R)=
((x.isNone->R (Z (I 1)) w)/\(x.isNone=false->Call prog 187 [pointer x] w fun e w'=>∃p n c,e=Z (slice p n c)/\Call prog 375 [slice p n c,I x1] w' fun e w'=>∃n_1,e=Z (I n_1)/\(decide (n_1<0)->R (Z (I 4)) w')/\(decide (n_1<0)=false->Cut (WP prog 45 (Code.loop c364_1) (e364_1 x p n c n_1) w' (k364_1 R))))):=by kernel_rfl
theorem t364_1 (x x1 x2 x3 x4 w B364_1 R):den prog M364 c364_1 (e364_1 x x1 x2 x3 x4) w (loopK B364_1 (k364_1 R))=
((decide (wrap i64 (x4+1)<(↑x2:Int))->Sm w fun w'=>∃a,x=some a/\∃p n c,w'.cell? (a.add 0)=some (slice p n c)/\(0<=wrap i64 (x4+1)/\wrap i64 (x4+1)<(↑x2:Int))/\∃a_1,x1=some a_1/\∃n_1,w'.cell? (add a_1 (Int.toNat (wrap i64 (x4+1))*1))=some (I n_1)/\Call prog 255 [pointer x,I x4] w' fun e w'=>∃n_2,e=Z (I n_2)/\w'.cell? (add a_1 (Int.toNat (wrap i64 (x4+1))*1))=some (I n_1)/\w'.cell? (a.add 0)=some (slice p n c)/\(0<=n_2/\n_2<(↑n:Int))/\∃a,p=some a/\Wr w' (add a (Int.toNat n_2*1)) [I n_1] fun w'=>B364_1 [(0,SV.v (pointer x)),(5,SV.v (slice x1 x2 x3)),(7,SV.v (I (wrap i64 (x4+1))))] w')/\(decide (wrap i64 (x4+1)<(↑x2:Int))=false->∃a,x=some a/\∃n,w.cell? (a.add 2)=some (I n)/\∃a,x=some a/\Wr w (a.add 2) [I (wrap i64 (n-1))] fun w'=>R (Z (I 0)) w')):=by kernel_rfl
def M366:Mt:={N:=16,keep:=kp 0 [[0],[0,3,4],[0,3,4,11],[2],[2]],ref:=false}
noncomputable def c366:Code:=bodyOf f366
theorem u366:UT 366 M366 c366 f366:=fun h i=>u_ func366 (by kernel_rfl) h i
theorem t366 (x w R):den prog M366 c366 (argE 0 [(pointer x)]) w (Rt f366 R)=
(Call prog 304 [pointer x] w fun e w'=>∃n n_1,e=Z (tuple #[I n,I n_1])/\((n_1 !=0)->R (Z (I n_1)) w')/\((n_1 !=0)=false->Call prog 151 [pointer x,I n] w' fun e w'=>∃n,e=Z (I n)/\R (Z (I n)) w')):=by kernel_rfl
def M392:Mt:={N:=9,keep:=kp 0 [[0],[0,4],[2],[2]],ref:=false}
noncomputable def c392:Code:=bodyOf f392
theorem u392:UT 392 M392 c392 f392:=fun h i=>u_ func392 (by kernel_rfl) h i
theorem t392 (x w R):den prog M392 c392 (argE 0 [(pointer x)]) w (Rt f392 R)=
((x.isNone->R (Z (I 0)) w)/\(x.isNone=false->∃a,x=some a/\∃n,w.cell? (a.add 2)=some (I n)/\R (Z (I n)) w)):=by kernel_rfl
end Go.Dav
namespace Go.Dav
open Go.Proofs
open Value IntKind Ending World Addr Tryz
set_option maxRecDepth 100000
def M14:Mt:={N:=17,keep:=kp 0 [[0,1],[0,1,8],[4],[4]],ref:=false}
noncomputable def c14:Code:=bodyOf f14
theorem u14:UT 14 M14 c14 f14:=fun h i=>u_ func14 (by kernel_rfl) h i
theorem t14 (x x1 w R):den prog M14 c14 (argE 0 [(pointer x),(int i64 x1)]) w (Rt f14 R)=
(Call prog 73 [pointer x,I x1] w fun e w'=>∃n,e=Z (I n)/\((n !=0)->R (Z (I 0)) w')/\((n !=0)=false->∃a,x=some a/\∃p n c,w'.cell? (a.add 0)=some (slice p n c)/\(0<=x1/\x1<(↑n:Int))/\∃a,p=some a/\∃p,w'.cell? (add a (Int.toNat x1*1))=some (pointer p)/\Call prog 74 [pointer p] w' fun e w'=>∃n,e=Z (I n)/\R (Z (I n)) w')):=by kernel_rfl
def M36:Mt:={N:=38,keep:=kp 0 [[0],[0,12],[2,3],[0,4],[4,16,17],[4,16,17,18],[4,5,6,16,17],[4,5,6,16,17,24],[2,3],[4,16,17],[4,16,17],[2,3]],bk:=[(0,[4]),(1,[4,16,17])],lk:=[(5,[4,16,17])],ref:=false}
noncomputable def c36:Code:=bodyOf f36
noncomputable def c36_0:Code:=c36.sr.sr.sr.sr
noncomputable def c36_1:Code:=c36.sr.sr.sr.sl.sr.sl.sl
def e36_1 (x:Option Addr) (x1 x2:Int):Env:=[(4,SV.v (pointer x)),(16,SV.v (int i64 x1)),(17,SV.v (int i64 x2))]
def k36_1 (R:RT):=blockK 0 [4] (SQ M36 c36_0 (Rt f36 R) (Rt f36 R))
theorem u36:UT 36 M36 c36 f36:=fun h i=>u_ func36 (by kernel_rfl) h i
theorem t36 (x w R):den prog M36 c36 (argE 0 [(int i64 x)]) w (Rt f36 R)=
((decide (x<1)=false->(decide (x>64)->R (Z (tuple #[pointer none,I 2])) w)/\(decide (x>64)=false->NewMap w fun r w'=>New w' [N3,map (some r)] 155 fun p w'=>Cut (WP prog 38 (Code.loop c36_1) (e36_1 (some p) x 0) w' (k36_1 R))))/\(decide (x<1)->R (Z (tuple #[pointer none,I 2])) w)):=by kernel_rfl
theorem t36_1 (x x1 x2 w B36_1 R):den prog M36 c36_1 (e36_1 x x1 x2) w (loopK B36_1 (k36_1 R))=
((decide (x2<x1)->Call prog 108 [I 32] w fun e w'=>∃p n,e=Z (tuple #[pointer p,I n])/\((n !=0)->R (Z (tuple #[pointer none,I n])) w')/\((n !=0)=false->∃a,x=some a/\∃p_1 n c,w'.cell? (a.add 0)=some (slice p_1 n c)/\New w' [pointer p] 152 fun p w'=>∃p_2 n_1 c_1 w'_1,Sem.run prog (Builtin.append_ #[153,153] 153 #[slice p_1 n c,slice (some p) 1 1]) w'=Result.ok (slice p_2 n_1 c_1) w'_1/\∃a,x=some a/\Wr w'_1 (a.add 0) [slice p_2 n_1 c_1] fun w'=>B36_1 [(4,SV.v (pointer x)),(16,SV.v (I x1)),(17,SV.v (I (wrap i64 (x2+1))))] w'))/\(decide (x2<x1)=false->R (Z (tuple #[pointer x,I 0])) w)):=by kernel_rfl
def M73:Mt:={N:=20,keep:=kp 0 [[0,1],[0,1,5],[4],[8],[4],[4]],bk:=[(0,[])],ref:=false}
noncomputable def c73:Code:=bodyOf f73
theorem u73:UT 73 M73 c73 f73:=fun h i=>u_ func73 (by kernel_rfl) h i
theorem t73 (x x1 w R):den prog M73 c73 (argE 0 [(pointer x),(int i64 x1)]) w (Rt f73 R)=
((x.isNone->R (Z (I 1)) w)/\(x.isNone=false->(decide (x1<0)=false->∃a,x=some a/\∃p n c,w.cell? (a.add 0)=some (slice p n c)/\(decide (x1>=(↑n:Int))->R (Z (I 3)) w)/\(decide (x1>=(↑n:Int))=false->R (Z (I 0)) w))/\(decide (x1<0)->R (Z (I 3)) w))):=by kernel_rfl
def M74:Mt:={N:=10,keep:=kp 0 [[0],[0,4],[2],[2]],ref:=false}
noncomputable def c74:Code:=bodyOf f74
theorem u74:UT 74 M74 c74 f74:=fun h i=>u_ func74 (by kernel_rfl) h i
theorem t74 (x w R):den prog M74 c74 (argE 0 [(pointer x)]) w (Rt f74 R)=
((x.isNone->R (Z (I 0)) w)/\(x.isNone=false->∃a,x=some a/\∃r,w.cell? (a.add 8)=some (map r)/\∃(n:Nat),(∀(ty:TypeId),Sem.run prog (Builtin.len_ #[78] ty #[map r]) w=Result.ok (I (↑n:Int)) w)/\R (Z (I (↑n:Int))) w)):=by kernel_rfl
def M88:Mt:={N:=17,keep:=kp 0 [[0,1],[0,1,8],[4],[4]],ref:=false}
noncomputable def c88:Code:=bodyOf f88
theorem u88:UT 88 M88 c88 f88:=fun h i=>u_ func88 (by kernel_rfl) h i
theorem t88 (x x1 w R):den prog M88 c88 (argE 0 [(pointer x),(int i64 x1)]) w (Rt f88 R)=
(Call prog 73 [pointer x,I x1] w fun e w'=>∃n,e=Z (I n)/\((n !=0)->R (Z (N3)) w')/\((n !=0)=false->∃a,x=some a/\∃p n c,w'.cell? (a.add 0)=some (slice p n c)/\(0<=x1/\x1<(↑n:Int))/\∃a,p=some a/\∃p,w'.cell? (add a (Int.toNat x1*1))=some (pointer p)/\Call prog 182 [pointer p] w' fun e w'=>∃p n c,e=Z (slice p n c)/\R (Z (slice p n c)) w')):=by kernel_rfl
def M108:Mt:={N:=31,keep:=kp 0 [[0],[0,4],[0,4,12],[0,4,12,13],[0,4,5,12],[0,4,5,6,7,12],[0,4,5,6,7,12,21],[2,3],[0,4,12],[0,4,12],[2,3]],bk:=[(0,[4]),(1,[0,4,12])],lk:=[(3,[0,4,12])],ref:=false}
noncomputable def c108:Code:=bodyOf f108
noncomputable def c108_0:Code:=c108.sr.sr.sr
noncomputable def c108_1:Code:=c108.sr.sr.sl.sr.sl.sl
def e108_1 (x:Int) (x1:Option Addr) (x2:Int):Env:=[(0,SV.v (int i64 x)),(4,SV.v (pointer x1)),(12,SV.v (int i64 x2))]
def k108_1 (R:RT):=blockK 0 [4] (SQ M108 c108_0 (Rt f108 R) (Rt f108 R))
theorem u108:UT 108 M108 c108 f108:=fun h i=>u_ func108 (by kernel_rfl) h i
theorem t108 (x w R):den prog M108 c108 (argE 0 [(int i64 x)]) w (Rt f108 R)=
(NewMap w fun r w'=>New w' [pointer none,pointer none,pointer none,pointer none,pointer none,pointer none,pointer none,pointer none,map (some r),I x] 265 fun p w'=>Cut (WP prog 31 (Code.loop c108_1) (e108_1 x (some p) 0) w' (k108_1 R))):=by kernel_rfl
theorem t108_1 (x x1 x2 w B108_1 R):den prog M108 c108_1 (e108_1 x x1 x2) w (loopK B108_1 (k108_1 R))=
((decide (x2<8)->Call prog 110 [I x] w fun e w'=>∃p n,e=Z (tuple #[pointer p,I n])/\((n !=0)->R (Z (tuple #[pointer none,I n])) w')/\((n !=0)=false->∃a,x1=some a/\(0<=x2/\x2<(↑8:Int))/\Wr w' (add (a.add 0) (Int.toNat x2*1)) [pointer p] fun w'=>B108_1 [(0,SV.v (I x)),(4,SV.v (pointer x1)),(12,SV.v (I (wrap i64 (x2+1))))] w'))/\(decide (x2<8)=false->R (Z (tuple #[pointer x1,I 0])) w)):=by kernel_rfl
def M132:Mt:={N:=19,keep:=kp 0 [[0,1],[1,5,6],[1,5,6,14],[4],[4]],ref:=false}
noncomputable def c132:Code:=bodyOf f132
theorem u132:UT 132 M132 c132 f132:=fun h i=>u_ func132 (by kernel_rfl) h i
theorem t132 (x x1 w R):den prog M132 c132 (argE 0 [(pointer x),(int i64 x1)]) w (Rt f132 R)=
(Call prog 242 [pointer x,I x1] w fun e w'=>∃p n,e=Z (tuple #[pointer p,I n])/\((n !=0)->R (Z (I n)) w')/\((n !=0)=false->Call prog 243 [pointer p,I x1] w' fun e w'=>∃n,e=Z (I n)/\R (Z (I n)) w')):=by kernel_rfl
def M224:Mt:={N:=38,keep:=kp 0 [[0,1],[0,1,6],[0,1,6,13],[4,5],[0,1,7,8],[0,1,7,8,27],[4,5],[4,5]],ref:=false}
noncomputable def c224:Code:=bodyOf f224
theorem u224:UT 224 M224 c224 f224:=fun h i=>u_ func224 (by kernel_rfl) h i
theorem t224 (x x1 w R):den prog M224 c224 (argE 0 [(pointer x),(int i64 x1)]) w (Rt f224 R)=
(Call prog 73 [pointer x,I x1] w fun e w'=>∃n,e=Z (I n)/\((n !=0)->R (Z (tuple #[I 0,I n])) w')/\((n !=0)=false->∃a,x=some a/\∃p n c,w'.cell? (a.add 0)=some (slice p n c)/\(0<=x1/\x1<(↑n:Int))/\∃a,p=some a/\∃p,w'.cell? (add a (Int.toNat x1*1))=some (pointer p)/\Call prog 309 [pointer p] w' fun e w'=>∃n n_1,e=Z (tuple #[I n,I n_1])/\((n_1 !=0)->R (Z (tuple #[I 0,I n_1])) w')/\((n_1 !=0)=false->∃a,x=some a/\∃p n_2 c,w'.cell? (a.add 0)=some (slice p n_2 c)/\(0<=x1/\x1<(↑n_2:Int))/\∃a,p=some a/\∃p,w'.cell? (add a (Int.toNat x1*1))=some (pointer p)/\Call prog 310 [pointer p] w' fun e w'=>∃n_3,e=Z (I n_3)/\R (Z (tuple #[I n,I n_3])) w'))):=by kernel_rfl
def M235:Mt:={N:=48,keep:=kp 0 [[0,1,2,3],[0,1,2,3,9],[0,1,2,3,9,17],[8],[0,1,2,3,11],[0,1,2,3,28],[8],[0,1,3,12],[0,1,3,12,40],[12],[8]],ref:=false}
noncomputable def c235:Code:=bodyOf f235
theorem u235:UT 235 M235 c235 f235:=fun h i=>u_ func235 (by kernel_rfl) h i
theorem t235 (x x1 x2 x3 w R):den prog M235 c235 (argE 0 [(pointer x),(int i64 x1),(int i64 x2),(int i64 x3)]) w (Rt f235 R)=
(Call prog 73 [pointer x,I x1] w fun e w'=>∃n,e=Z (I n)/\((n !=0)->R (Z (I n)) w')/\((n !=0)=false->∃a,x=some a/\∃r,w'.cell? (a.add 1)=some (map r)/\∃n b,Sem.run prog (Instr.lookup 78 (map r) (I x3) true) w'=Result.ok (tuple #[I n,.bool b]) w'/\(b->R (Z (I 6)) w')/\(b=false->∃a,x=some a/\∃p n c,w'.cell? (a.add 0)=some (slice p n c)/\(0<=x1/\x1<(↑n:Int))/\∃a,p=some a/\∃p,w'.cell? (add a (Int.toNat x1*1))=some (pointer p)/\Call prog 320 [pointer p,I x2,I x3] w' fun e w'=>∃n,e=Z (I n)/\((n==0)->∃a,x=some a/\∃r,w'.cell? (a.add 1)=some (map r)/\∃w'_1,Sem.run prog (Instr.mapUpdate 78 (map r) (I x3) (I x1)) w'=Result.ok () w'_1/\R (Z (I n)) w'_1)/\((n==0)=false->R (Z (I n)) w')))):=by kernel_rfl
def M237:Mt:={N:=24,keep:=kp 0 [[0,1],[0,1,5,6],[0,1,5,6,14],[4],[1,5],[4]],ref:=false}
noncomputable def c237:Code:=bodyOf f237
theorem u237:UT 237 M237 c237 f237:=fun h i=>u_ func237 (by kernel_rfl) h i
theorem t237 (x x1 w R):den prog M237 c237 (argE 0 [(pointer x),(int i64 x1)]) w (Rt f237 R)=
(Call prog 242 [pointer x,I x1] w fun e w'=>∃p n,e=Z (tuple #[pointer p,I n])/\((n !=0)->R (Z (I n)) w')/\((n !=0)=false->∃a,x=some a/\∃r,w'.cell? (a.add 1)=some (map r)/\∃w'_1,Sem.run prog (Builtin.delete_ #[78,3] 0 #[map r,I x1]) w'=Result.ok (tuple #[]) w'_1/\Call prog 321 [pointer p,I x1] w'_1 fun e w'=>∃n,e=Z (I n)/\R (Z (I n)) w')):=by kernel_rfl
def M242:Mt:={N:=28,keep:=kp 0 [[0,1],[0,1,9],[4,5],[0,6,7],[0,6,20],[4,5],[4,5]],ref:=false}
noncomputable def c242:Code:=bodyOf f242
theorem u242:UT 242 M242 c242 f242:=fun h i=>u_ func242 (by kernel_rfl) h i
theorem t242 (x x1 w R):den prog M242 c242 (argE 0 [(pointer x),(int i64 x1)]) w (Rt f242 R)=
((x.isNone->R (Z (tuple #[pointer none,I 1])) w)/\(x.isNone=false->∃a,x=some a/\∃r,w.cell? (a.add 1)=some (map r)/\∃n b,Sem.run prog (Instr.lookup 78 (map r) (I x1) true) w=Result.ok (tuple #[I n,.bool b]) w/\((!b)->R (Z (tuple #[pointer none,I 4])) w)/\((!b)=false->∃a,x=some a/\∃p n_1 c,w.cell? (a.add 0)=some (slice p n_1 c)/\(0<=n/\n<(↑n_1:Int))/\∃a,p=some a/\∃p,w.cell? (add a (Int.toNat n*1))=some (pointer p)/\R (Z (tuple #[pointer p,I 0])) w))):=by kernel_rfl
def M243:Mt:={N:=24,keep:=kp 0 [[0,1],[0,1,5],[0,1,5,7],[0,1,5,7,18],[4],[4]],ref:=false}
noncomputable def c243:Code:=bodyOf f243
theorem u243:UT 243 M243 c243 f243:=fun h i=>u_ func243 (by kernel_rfl) h i
theorem t243 (x x1 w R):den prog M243 c243 (argE 0 [(pointer x),(int i64 x1)]) w (Rt f243 R)=
(Call prog 323 [pointer x,I x1] w fun e w'=>∃n b,e=Z (tuple #[I n,.bool b])/\Call prog 321 [pointer x,I x1] w' fun e w'=>∃n_1,e=Z (I n_1)/\((n_1 !=0)->R (Z (I n_1)) w')/\((n_1 !=0)=false->Call prog 320 [pointer x,I n,I x1] w' fun e w'=>∃n,e=Z (I n)/\R (Z (I n)) w')):=by kernel_rfl
def M267:Mt:={N:=11,keep:=kp 0 [[0,1],[4,5]],ref:=false}
noncomputable def c267:Code:=bodyOf f267
theorem u267:UT 267 M267 c267 f267:=fun h i=>u_ func267 (by kernel_rfl) h i
theorem t267 (x x1 w R):den prog M267 c267 (argE 0 [(pointer x),(int .u64 x1)]) w (Rt f267 R)=
(Call prog 335 [pointer x,int .u64 x1,func (Fn.func 336) #[] #[]] w fun e w'=>∃n n_1,e=Z (tuple #[I n,I n_1])/\R (Z (tuple #[I n,I n_1])) w'):=by kernel_rfl
def M268:Mt:={N:=11,keep:=kp 0 [[0,1],[4,5]],ref:=false}
noncomputable def c268:Code:=bodyOf f268
theorem u268:UT 268 M268 c268 f268:=fun h i=>u_ func268 (by kernel_rfl) h i
theorem t268 (x x1 w R):den prog M268 c268 (argE 0 [(pointer x),(int .u64 x1)]) w (Rt f268 R)=
(Call prog 335 [pointer x,int .u64 x1,func (Fn.func 337) #[] #[]] w fun e w'=>∃n n_1,e=Z (tuple #[I n,I n_1])/\R (Z (tuple #[I n,I n_1])) w'):=by kernel_rfl
def M309:Mt:={N:=18,keep:=kp 0 [[0],[4,5],[4,5,12],[2,3],[2,3]],ref:=false}
noncomputable def c309:Code:=bodyOf f309
theorem u309:UT 309 M309 c309 f309:=fun h i=>u_ func309 (by kernel_rfl) h i
theorem t309 (x w R):den prog M309 c309 (argE 0 [(pointer x)]) w (Rt f309 R)=
(Call prog 365 [pointer x] w fun e w'=>∃p n,e=Z (tuple #[pointer p,I n])/\((n !=0)->R (Z (tuple #[I 0,I n])) w')/\((n !=0)=false->Call prog 307 [pointer p] w' fun e w'=>∃n n_1,e=Z (tuple #[I n,I n_1])/\R (Z (tuple #[I n,I n_1])) w')):=by kernel_rfl
def M310:Mt:={N:=15,keep:=kp 0 [[0],[3,4],[3,4,11],[2],[2]],ref:=false}
noncomputable def c310:Code:=bodyOf f310
theorem u310:UT 310 M310 c310 f310:=fun h i=>u_ func310 (by kernel_rfl) h i
theorem t310 (x w R):den prog M310 c310 (argE 0 [(pointer x)]) w (Rt f310 R)=
(Call prog 365 [pointer x] w fun e w'=>∃p n,e=Z (tuple #[pointer p,I n])/\((n !=0)->R (Z (I n)) w')/\((n !=0)=false->Call prog 366 [pointer p] w' fun e w'=>∃n,e=Z (I n)/\R (Z (I n)) w')):=by kernel_rfl
def M320:Mt:={N:=54,keep:=kp 0 [[0,1,2],[0,1,2,10],[6],[0,1,2,8],[0,1,2,8,20],[6],[0,1,2,27],[6],[0,1,2,29],[6],[0,1,2],[6]],ords:=[(8,[0,1,2,3,4,5,6,7,8,9,10])],bk:=[(0,[0,1,2])],ref:=false}
noncomputable def c320:Code:=bodyOf f320
theorem u320:UT 320 M320 c320 f320:=fun h i=>u_ func320 (by kernel_rfl) h i
theorem t320 (x x1 x2 w R):den prog M320 c320 (argE 0 [(pointer x),(int i64 x1),(int i64 x2)]) w (Rt f320 R)=
((x.isNone->R (Z (I 1)) w)/\(x.isNone=false->∃a,x=some a/\∃r,w.cell? (a.add 8)=some (map r)/\∃n b,Sem.run prog (Instr.lookup 78 (map r) (I x2) true) w=Result.ok (tuple #[I n,.bool b]) w/\(decide (x1<0)=false->(decide (x1>=8)->R (Z (I 2)) w)/\(decide (x1>=8)=false->(b->R (Z (I 6)) w)/\(b=false->Sm w fun w'=>∃a,x=some a/\∃r,w'.cell? (a.add 8)=some (map r)/\∃(n:Nat),(∀(ty:TypeId),Sem.run prog (Builtin.len_ #[78] ty #[map r]) w'=Result.ok (I (↑n:Int)) w')/\∃a,x=some a/\∃n_1,w'.cell? (a.add 9)=some (I n_1)/\(decide ((↑n:Int)>=n_1)->R (Z (I 5)) w')/\(decide ((↑n:Int)>=n_1)=false->∃a,x=some a/\∃r,w'.cell? (a.add 8)=some (map r)/\∃w'_1,Sem.run prog (Instr.mapUpdate 78 (map r) (I x2) (I x1)) w'=Result.ok () w'_1/\∃a,x=some a/\(0<=x1/\x1<(↑8:Int))/\∃p,w'_1.cell? (add (a.add 0) (Int.toNat x1*1))=some (pointer p)/\Call prog 151 [pointer p,I x2] w'_1 fun e w'=>∃n,e=Z (I n)/\R (Z (I n)) w'))))/\(decide (x1<0)->R (Z (I 2)) w))):=by kernel_rfl
def M321:Mt:={N:=33,keep:=kp 0 [[0,1],[0,1,8],[4],[0,1,5,6],[0,1,5,19],[4],[0,1,5],[4]],ref:=false}
noncomputable def c321:Code:=bodyOf f321
theorem u321:UT 321 M321 c321 f321:=fun h i=>u_ func321 (by kernel_rfl) h i
theorem t321 (x x1 w R):den prog M321 c321 (argE 0 [(pointer x),(int i64 x1)]) w (Rt f321 R)=
((x.isNone->R (Z (I 1)) w)/\(x.isNone=false->∃a,x=some a/\∃r,w.cell? (a.add 8)=some (map r)/\∃n b,Sem.run prog (Instr.lookup 78 (map r) (I x1) true) w=Result.ok (tuple #[I n,.bool b]) w/\((!b)->R (Z (I 4)) w)/\((!b)=false->∃a,x=some a/\∃r,w.cell? (a.add 8)=some (map r)/\∃w',Sem.run prog (Builtin.delete_ #[78,3] 0 #[map r,I x1]) w=Result.ok (tuple #[]) w'/\∃a,x=some a/\(0<=n/\n<(↑8:Int))/\∃p,w'.cell? (add (a.add 0) (Int.toNat n*1))=some (pointer p)/\Call prog 364 [pointer p,I x1] w' fun e w'=>∃n,e=Z (I n)/\R (Z (I n)) w'))):=by kernel_rfl
def M323:Mt:={N:=21,keep:=kp 0 [[0,1],[0,1,9],[4,5],[6,7],[4,5]],ref:=false}
noncomputable def c323:Code:=bodyOf f323
theorem u323:UT 323 M323 c323 f323:=fun h i=>u_ func323 (by kernel_rfl) h i
theorem t323 (x x1 w R):den prog M323 c323 (argE 0 [(pointer x),(int i64 x1)]) w (Rt f323 R)=
((x.isNone->R (Z (tuple #[int i64 0,.bool false])) w)/\(x.isNone=false->∃a,x=some a/\∃r,w.cell? (a.add 8)=some (map r)/\∃n b,Sem.run prog (Instr.lookup 78 (map r) (int i64 x1) true) w=Result.ok (tuple #[int i64 n,.bool b]) w/\R (Z (tuple #[int i64 n,.bool b])) w)):=by kernel_rfl
def M335:Mt:={N:=46,keep:=kp 0 [[0,1,2],[0,1,2,13],[6,7],[0,2,8],[0,2,8,25],[6,7],[0,2,8,9],[0,2,9,29,30,31],[0,2,9,29,30,31,32],[0,2,9,11,29,30,31],[0,2,9,11,29,30,31,42],[0,2,9,29,30,31],[0,2,9,29,30,31],[6,7]],bk:=[(0,[9]),(1,[0,2,9,29,30,31])],lk:=[(8,[0,2,9,29,30,31])],ref:=false}
noncomputable def c335:Code:=bodyOf f335
noncomputable def c335_0:Code:=c335.sr.sr.sr.sr.sr.sr
noncomputable def c335_1:Code:=c335.sr.sr.sr.sr.sr.sl.sr.sl.sl
def e335_1 (x:Option Addr) (x1:Int) (x2:Option Addr) (x3 x4:Nat) (x5 x6:Int):Env:=[(0,SV.v (pointer x)),(2,SV.v (func (Fn.func 336) #[] #[])),(9,SV.v (int i64 x1)),(29,SV.v (slice x2 x3 x4)),(30,SV.v (int i64 x5)),(31,SV.v (int i64 x6))]
def k335_1 (R:RT):=blockK 0 [9] (SQ M335 c335_0 (Rt f335 R) (Rt f335 R))
theorem u335:UT 335 M335 c335 f335:=fun h i=>u_ func335 (by kernel_rfl) h i
theorem t335 (x x1 w R):den prog M335 c335 (argE 0 [(pointer x),(int .u64 x1),(func (Fn.func 336) #[] #[])]) w (Rt f335 R)=
((x.isNone->R (Z (tuple #[I 0,I 1])) w)/\(x.isNone=false->∃a,x=some a/\∃p n c,w.cell? (a.add 0)=some (slice p n c)/\Call prog 11 [I (↑n:Int)] w fun e w'=>∃n,e=Z (int .u64 n)/\Call prog 318 [int .u64 x1,int .u64 n] w' fun e w'=>∃n,e=Z (int .u64 n)/\Call prog 382 [int .u64 n] w' fun e w'=>∃p n c,e=Z (slice p n c)/\(((↑n:Int)==0)->R (Z (tuple #[I 0,I 12])) w')/\(((↑n:Int)==0)=false->((0:Int)<=0/\0<(↑n:Int))/\∃a,p=some a/\∃n_1,w'.cell? (a.add 0)=some (I n_1)/\Cut (WP prog 46 (Code.loop c335_1) [(0,SV.v (pointer x)),(2,SV.v (func (Fn.func 336) #[] #[])),(9,SV.v (I n_1)),(29,SV.v (slice p n c)),(30,SV.v (I (↑n:Int))),(31,SV.v (I 0))] w' (k335_1 R))))):=by kernel_rfl
theorem t335_1 (x x1 x2 x3 x4 x5 x6 w B335_1 R):den prog M335 c335_1 (e335_1 x x1 x2 x3 x4 x5 x6) w (loopK B335_1 (k335_1 R))=
((decide (x6<x5)->(0<=x6/\x6<(↑x3:Int))/\∃a,x2=some a/\∃n,w.cell? (add a (Int.toNat x6*1))=some (I n)/\Call prog 14 [pointer x,I n] w fun e w'=>∃n_1,e=Z (I n_1)/\Call prog 14 [pointer x,I x1] w' fun e w'=>∃n_2,e=Z (I n_2)/\Call prog 336 [I n_1,I n_2] w' fun e w'=>∃b,e=Z (.bool b)/\(b->B335_1 [(0,SV.v (pointer x)),(2,SV.v (func (Fn.func 336) #[] #[])),(9,SV.v (I n)),(29,SV.v (slice x2 x3 x4)),(30,SV.v (I x5)),(31,SV.v (I (wrap i64 (x6+1))))] w')/\(b=false->B335_1 [(0,SV.v (pointer x)),(2,SV.v (func (Fn.func 336) #[] #[])),(9,SV.v (I x1)),(29,SV.v (slice x2 x3 x4)),(30,SV.v (I x5)),(31,SV.v (I (wrap i64 (x6+1))))] w'))/\(decide (x6<x5)=false->R (Z (tuple #[I x1,I 0])) w)):=by kernel_rfl
def M336:Mt:={N:=8,keep:=kp 0 [[0,1],[4]],ref:=false}
noncomputable def c336:Code:=bodyOf f336
theorem u336:UT 336 M336 c336 f336:=fun h i=>u_ func336 (by kernel_rfl) h i
theorem t336 (x x1 w R):den prog M336 c336 (argE 0 [(int i64 x),(int i64 x1)]) w (Rt f336 R)=
(R (Z (.bool (decide (x>x1)))) w):=by kernel_rfl
def M337:Mt:={N:=8,keep:=kp 0 [[0,1],[4]],ref:=false}
noncomputable def c337:Code:=bodyOf f337
theorem u337:UT 337 M337 c337 f337:=fun h i=>u_ func337 (by kernel_rfl) h i
theorem t337 (x x1 w R):den prog M337 c337 (argE 0 [(int i64 x),(int i64 x1)]) w (Rt f337 R)=
(R (Z (.bool (decide (x<x1)))) w):=by kernel_rfl
end Go.Dav
namespace Go.Dav
open Go.Proofs
open Value IntKind Ending World Addr Tryz
set_option maxRecDepth 100000
def M34:Mt:={N:=25,keep:=kp 0 [[0],[0,11],[2,3],[0,4,5],[0,4,5,17],[2,3],[2,3]],ref:=false}
noncomputable def c34:Code:=bodyOf f34
theorem u34:UT 34 M34 c34 f34:=fun h i=>u_ func34 (by kernel_rfl) h i
theorem t34 (x w R):den prog M34 c34 (argE 0 [(int i64 x)]) w (Rt f34 R)=
((decide (x<1)=false->(decide (x>64)->R (Z (tuple #[pointer none,I 2])) w)/\(decide (x>64)=false->Call prog 107 [I 32] w fun e w'=>∃p n,e=Z (tuple #[pointer p,I n])/\((n !=0)->R (Z (tuple #[pointer none,I n])) w')/\((n !=0)=false->NewMap w' fun r w'=>New w' [pointer p,I x,map (some r)] 192 fun p w'=>R (Z (tuple #[pointer (some p),I 0])) w')))/\(decide (x<1)->R (Z (tuple #[pointer none,I 2])) w)):=by kernel_rfl
def M125:Mt:={N:=48,keep:=kp 0 [[0,1,2],[0,1,2,10],[6,7],[0,1,2,13],[6,7],[0,1,2,8,9],[0,1,2,8,9,36],[6,7],[8],[6,7]],bk:=[(0,[0,1,2])],ref:=false}
noncomputable def c125:Code:=bodyOf f125
theorem u125:UT 125 M125 c125 f125:=fun h i=>u_ func125 (by kernel_rfl) h i
theorem t125 (x x1 x2 w R):den prog M125 c125 (argE 0 [(pointer x),(int i64 x1),(int .u64 x2)]) w (Rt f125 R)=
((x.isNone->R (Z (tuple #[I 0,I 1])) w)/\(x.isNone=false->(decide (x1<0)=false->(decide (x1>=8)=false->Call prog 232 [pointer x,int .u64 x2] w fun e w'=>∃b,e=Z (.bool b)/\((!b)->R (Z (tuple #[I 0,I 2])) w')/\((!b)=false->∃a,x=some a/\∃p,w'.cell? (add (a.add 0) 0)=some (pointer p)/\Call prog 149 [pointer p] w' fun e w'=>∃n n_1,e=Z (tuple #[I n,I n_1])/\((n_1 !=0)->R (Z (tuple #[I 0,I n_1])) w')/\((n_1 !=0)=false->∃a,x=some a/\∃r,w'.cell? (a.add 2)=some (map r)/\New w' [I x1,int .u64 x2,I 0,.bool false,.bool false,I 0] 250 fun p w'=>∃w'_1,Sem.run prog (Instr.mapUpdate 190 (map r) (I n) (pointer (some p))) w'=Result.ok () w'_1/\R (Z (tuple #[I n,I 0])) w'_1)))/\(decide (x1>=8)->R (Z (tuple #[I 0,I 2])) w))/\(decide (x1<0)->R (Z (tuple #[I 0,I 2])) w))):=by kernel_rfl
def M127:Mt:={N:=21,keep:=kp 0 [[0,1,4],[4,6,7],[4,6,7,15],[4,5],[4,5]],ref:=false}
noncomputable def c127:Code:=bodyOf f127
theorem u127:UT 127 M127 c127 f127:=fun h i=>u_ func127 (by kernel_rfl) h i
theorem t127 (x x1 w R):den prog M127 c127 (argE 0 [(pointer x),(int i64 x1)]) w (Rt f127 R)=
(New w [I 0,int .u64 0,I 0,.bool false,.bool false,I 0] 250 fun p w'=>Call prog 236 [pointer x,I x1] w' fun e w'=>∃p_1 n,e=Z (tuple #[pointer p_1,I n])/\((n !=0)->Wr w' p [I 0,int .u64 0,I 0,.bool false,.bool false,I 0] fun w'=>∃n_1,w'.cell? (p.add 0)=some (I n_1)/\∃n_2,w'.cell? (p.add 1)=some (int .u64 n_2)/\∃n_3,w'.cell? (p.add 2)=some (I n_3)/\∃b,w'.cell? (p.add 3)=some (.bool b)/\∃b_1,w'.cell? (p.add 4)=some (.bool b_1)/\∃n_4,w'.cell? (p.add 5)=some (I n_4)/\R (Z (tuple #[agg #[I n_1,int .u64 n_2,I n_3,.bool b,.bool b_1,I n_4],I n])) w')/\((n !=0)=false->∃a,p_1=some a/\∃n,w'.cell? (a.add 0)=some (I n)/\∃n_1,w'.cell? (a.add 1)=some (int .u64 n_1)/\∃n_2,w'.cell? (a.add 2)=some (I n_2)/\∃b,w'.cell? (a.add 3)=some (.bool b)/\∃b_1,w'.cell? (a.add 4)=some (.bool b_1)/\∃n_3,w'.cell? (a.add 5)=some (I n_3)/\Wr w' p [I n,int .u64 n_1,I n_2,.bool b,.bool b_1,I n_3] fun w'=>∃n,w'.cell? (p.add 0)=some (I n)/\∃n_4,w'.cell? (p.add 1)=some (int .u64 n_4)/\∃n_5,w'.cell? (p.add 2)=some (I n_5)/\∃b,w'.cell? (p.add 3)=some (.bool b)/\∃b_2,w'.cell? (p.add 4)=some (.bool b_2)/\∃n_6,w'.cell? (p.add 5)=some (I n_6)/\R (Z (tuple #[agg #[I n,int .u64 n_4,I n_5,.bool b,.bool b_2,I n_6],I 0])) w')):=by kernel_rfl
def M129:Mt:={N:=28,keep:=kp 0 [[0,1,2],[0,2,7,8],[0,2,7,8,15],[6],[2,7,19],[6],[],[6]],bk:=[(0,[2,7])],ref:=false}
noncomputable def c129:Code:=bodyOf f129
theorem u129:UT 129 M129 c129 f129:=fun h i=>u_ func129 (by kernel_rfl) h i
theorem t129 (x x1 x2 w R):den prog M129 c129 (argE 0 [(pointer x),(int i64 x1),(int .u64 x2)]) w (Rt f129 R)=
(Call prog 236 [pointer x,I x1] w fun e w'=>∃p n,e=Z (tuple #[pointer p,I n])/\((n !=0)->R (Z (I n)) w')/\((n !=0)=false->Call prog 232 [pointer x,int .u64 x2] w' fun e w'=>∃b,e=Z (.bool b)/\((!b)->R (Z (I 2)) w')/\((!b)=false->∃a,p=some a/\Wr w' (a.add 1) [int .u64 x2] fun w'=>R (Z (I 0)) w'))):=by kernel_rfl
def M181:Mt:={N:=11,keep:=kp 0 [[0],[0,4],[2],[2]],ref:=false}
noncomputable def c181:Code:=bodyOf f181
theorem u181:UT 181 M181 c181 f181:=fun h i=>u_ func181 (by kernel_rfl) h i
theorem t181 (x w R):den prog M181 c181 (argE 0 [(pointer x)]) w (Rt f181 R)=
((x.isNone->R (Z (N3)) w)/\(x.isNone=false->∃a,x=some a/\∃p,w.cell? (add (a.add 0) 0)=some (pointer p)/\Call prog 272 [pointer p] w fun e w'=>∃p n c,e=Z (slice p n c)/\R (Z (slice p n c)) w')):=by kernel_rfl
def M232:Mt:={N:=16,keep:=kp 0 [[0,1],[4]],ref:=false}
noncomputable def c232:Code:=bodyOf f232
theorem u232:UT 232 M232 c232 f232:=fun h i=>u_ func232 (by kernel_rfl) h i
theorem t232 (x x1 w R):den prog M232 c232 (argE 0 [(pointer x),(int .u64 x1)]) w (Rt f232 R)=
(((x1 !=0)->∃a,x=some a/\∃n,w.cell? (a.add 1)=some (I n)/\Call prog 11 [I n] w fun e w'=>∃n,e=Z (int .u64 n)/\Call prog 277 [int .u64 x1,int .u64 n] w' fun e w'=>∃b,e=Z (.bool b)/\R (Z (.bool b)) w')/\((x1 !=0)=false->R (Z (.bool false)) w)):=by kernel_rfl
def M234:Mt:={N:=40,keep:=kp 0 [[0,1,2,3],[0,2,3,9,10],[0,2,3,9,10,17],[8],[2,3,9,21],[8],[],[8]],bk:=[(0,[2,3,9])],ref:=false}
noncomputable def c234:Code:=bodyOf f234
theorem u234:UT 234 M234 c234 f234:=fun h i=>u_ func234 (by kernel_rfl) h i
theorem t234 (x x1 x2 x3 w R):den prog M234 c234 (argE 0 [(pointer x),(int i64 x1),(int i64 x2),(.bool x3)]) w (Rt f234 R)=
(Call prog 236 [pointer x,I x1] w fun e w'=>∃p n,e=Z (tuple #[pointer p,I n])/\((n !=0)->R (Z (I n)) w')/\((n !=0)=false->(decide (x2<0)=false->∃a,x=some a/\∃n,w'.cell? (a.add 1)=some (I n)/\(decide (x2>=n)->R (Z (I 3)) w')/\(decide (x2>=n)=false->∃a,p=some a/\Wr w' (a.add 2) [I x2] fun w'=>∃a,p=some a/\Wr w' (a.add 3) [.bool x3] fun w'=>R (Z (I 0)) w'))/\(decide (x2<0)->R (Z (I 3)) w'))):=by kernel_rfl
def M236:Mt:={N:=22,keep:=kp 0 [[0,1],[0,1,9],[4,5],[6,7],[6,20],[4,5],[4,5]],ref:=false}
noncomputable def c236:Code:=bodyOf f236
theorem u236:UT 236 M236 c236 f236:=fun h i=>u_ func236 (by kernel_rfl) h i
theorem t236 (x x1 w R):den prog M236 c236 (argE 0 [(pointer x),(int i64 x1)]) w (Rt f236 R)=
((x.isNone->R (Z (tuple #[pointer none,I 1])) w)/\(x.isNone=false->∃a,x=some a/\∃r,w.cell? (a.add 2)=some (map r)/\∃p b,Sem.run prog (Instr.lookup 190 (map r) (I x1) true) w=Result.ok (tuple #[pointer p,.bool b]) w/\((!b)->R (Z (tuple #[pointer none,I 4])) w)/\((!b)=false->R (Z (tuple #[pointer p,I 0])) w))):=by kernel_rfl
def M238:Mt:={N:=28,keep:=kp 0 [[0,1],[0,1,6],[0,1,6,14],[4],[0,1],[4]],ref:=false}
noncomputable def c238:Code:=bodyOf f238
theorem u238:UT 238 M238 c238 f238:=fun h i=>u_ func238 (by kernel_rfl) h i
theorem t238 (x x1 w R):den prog M238 c238 (argE 0 [(pointer x),(int i64 x1)]) w (Rt f238 R)=
(Call prog 236 [pointer x,I x1] w fun e w'=>∃p n,e=Z (tuple #[pointer p,I n])/\((n !=0)->R (Z (I n)) w')/\((n !=0)=false->∃a,x=some a/\∃r,w'.cell? (a.add 2)=some (map r)/\∃w'_1,Sem.run prog (Builtin.delete_ #[190,3] 0 #[map r,I x1]) w'=Result.ok (tuple #[]) w'_1/\∃a,x=some a/\∃p,w'_1.cell? (add (a.add 0) 0)=some (pointer p)/\Call prog 305 [pointer p,I x1] w'_1 fun e w'=>∃n,e=Z (I n)/\R (Z (I n)) w')):=by kernel_rfl
def M241:Mt:={N:=31,keep:=kp 0 [[0,1,2],[2,7,8],[2,7,8,15],[6],[2,7,19],[6],[],[6]],bk:=[(0,[2,7])],ref:=false}
noncomputable def c241:Code:=bodyOf f241
theorem u241:UT 241 M241 c241 f241:=fun h i=>u_ func241 (by kernel_rfl) h i
theorem t241 (x x1 x2 w R):den prog M241 c241 (argE 0 [(pointer x),(int i64 x1),(int i64 x2)]) w (Rt f241 R)=
(Call prog 236 [pointer x,I x1] w fun e w'=>∃p n,e=Z (tuple #[pointer p,I n])/\((n !=0)->R (Z (I n)) w')/\((n !=0)=false->∃a,p=some a/\∃b,w'.cell? (a.add 4)=some (.bool b)/\(b->R (Z (I 6)) w')/\(b=false->∃a,p=some a/\Wr w' (a.add 4) [.bool true] fun w'=>∃a,p=some a/\Wr w' (a.add 5) [I x2] fun w'=>R (Z (I 0)) w'))):=by kernel_rfl
def M245:Mt:={N:=36,keep:=kp 0 [[0,1],[6,7],[6,7,15],[4,5],[6,19],[4,5],[6,8],[8],[4,5]],bk:=[(0,[6])],ref:=false}
noncomputable def c245:Code:=bodyOf f245
theorem u245:UT 245 M245 c245 f245:=fun h i=>u_ func245 (by kernel_rfl) h i
theorem t245 (x x1 w R):den prog M245 c245 (argE 0 [(pointer x),(int i64 x1)]) w (Rt f245 R)=
(Call prog 236 [pointer x,I x1] w fun e w'=>∃p n,e=Z (tuple #[pointer p,I n])/\((n !=0)->R (Z (tuple #[I 0,I n])) w')/\((n !=0)=false->∃a,p=some a/\∃b,w'.cell? (a.add 4)=some (.bool b)/\((!b)->R (Z (tuple #[I 0,I 6])) w')/\((!b)=false->∃a,p=some a/\∃n,w'.cell? (a.add 5)=some (I n)/\∃a,p=some a/\Wr w' (a.add 4) [.bool false] fun w'=>∃a,p=some a/\Wr w' (a.add 5) [I 0] fun w'=>R (Z (tuple #[I n,I 0])) w'))):=by kernel_rfl
def M40:Mt:={N:=14,keep:=kp 0 [[0],[0,9],[2,3],[2,3]],ref:=false}
noncomputable def c40:Code:=bodyOf f40
theorem u40:UT 40 M40 c40 f40:=fun h i=>u_ func40 (by kernel_rfl) h i
theorem t40 (x w R):den prog M40 c40 (argE 0 [(int i64 x)]) w (Rt f40 R)=
((decide (x<1)=false->(decide (x>64)->R (Z (tuple #[pointer none,I 2])) w)/\(decide (x>64)=false->Call prog 11 [I x] w fun e w'=>∃n,e=Z (int .u64 n)/\New w' [.bool false,.bool false,.bool false,int .u64 0,.bool false,.bool false,.bool false,int .u64 0,.bool false,.bool false,.bool false,int .u64 0,.bool false,.bool false,.bool false,int .u64 0,.bool false,.bool false,.bool false,int .u64 0,.bool false,.bool false,.bool false,int .u64 0,.bool false,.bool false,.bool false,int .u64 0,.bool false,.bool false,.bool false,int .u64 0,.bool false,.bool false,.bool false,int .u64 0,.bool false,.bool false,.bool false,int .u64 0,.bool false,.bool false,.bool false,int .u64 0,.bool false,.bool false,.bool false,int .u64 0,.bool false,.bool false,.bool false,int .u64 0,.bool false,.bool false,.bool false,int .u64 0,.bool false,.bool false,.bool false,int .u64 0,.bool false,.bool false,.bool false,int .u64 0,int .u64 n] 201 fun p w'=>R (Z (tuple #[pointer (some p),I 0])) w'))/\(decide (x<1)->R (Z (tuple #[pointer none,I 2])) w)):=by kernel_rfl
def M136:Mt:={N:=33,keep:=kp 0 [[0,1,2],[0,2,7,8],[0,2,7,8,15],[6],[0,2,7,19],[6],[2,7,24],[6],[],[6]],bk:=[(0,[2,7])],ref:=false}
noncomputable def c136:Code:=bodyOf f136
theorem u136:UT 136 M136 c136 f136:=fun h i=>u_ func136 (by kernel_rfl) h i
theorem t136 (x x1 x2 w R):den prog M136 c136 (argE 0 [(pointer x),(int i64 x1),(int .u64 x2)]) w (Rt f136 R)=
(Call prog 246 [pointer x,I x1] w fun e w'=>∃p n,e=Z (tuple #[pointer p,I n])/\((n !=0)->R (Z (I n)) w')/\((n !=0)=false->∃a,p=some a/\∃b,w'.cell? (a.add 0)=some (.bool b)/\(b->R (Z (I 6)) w')/\(b=false->Call prog 247 [pointer x,int .u64 x2] w' fun e w'=>∃b,e=Z (.bool b)/\((!b)->R (Z (I 2)) w')/\((!b)=false->∃a,p=some a/\Wr w' a [.bool true,.bool false,.bool false,int .u64 x2] fun w'=>R (Z (I 0)) w')))):=by kernel_rfl
def M139:Mt:={N:=19,keep:=kp 0 [[0,1],[5,6],[5,6,14],[6],[4]],ref:=false}
noncomputable def c139:Code:=bodyOf f139
theorem u139:UT 139 M139 c139 f139:=fun h i=>u_ func139 (by kernel_rfl) h i
theorem t139 (x x1 w R):den prog M139 c139 (argE 0 [(pointer x),(int i64 x1)]) w (Rt f139 R)=
(Call prog 250 [pointer x,I x1] w fun e w'=>∃p n,e=Z (tuple #[pointer p,I n])/\((n==0)->∃a,p=some a/\Wr w' a [.bool false,.bool false,.bool false,int .u64 0] fun w'=>R (Z (I n)) w')/\((n==0)=false->R (Z (I n)) w')):=by kernel_rfl
def M142:Mt:={N:=28,keep:=kp 0 [[0,1,2],[0,2,7,8],[0,2,7,8,15],[6],[2,7,19],[6],[],[6]],bk:=[(0,[2,7])],ref:=false}
noncomputable def c142:Code:=bodyOf f142
theorem u142:UT 142 M142 c142 f142:=fun h i=>u_ func142 (by kernel_rfl) h i
theorem t142 (x x1 x2 w R):den prog M142 c142 (argE 0 [(pointer x),(int i64 x1),(int .u64 x2)]) w (Rt f142 R)=
(Call prog 250 [pointer x,I x1] w fun e w'=>∃p n,e=Z (tuple #[pointer p,I n])/\((n !=0)->R (Z (I n)) w')/\((n !=0)=false->Call prog 247 [pointer x,int .u64 x2] w' fun e w'=>∃b,e=Z (.bool b)/\((!b)->R (Z (I 2)) w')/\((!b)=false->∃a,p=some a/\Wr w' (a.add 3) [int .u64 x2] fun w'=>R (Z (I 0)) w'))):=by kernel_rfl
def M145:Mt:={N:=8,keep:=kp 0 [[0,1],[4]],ref:=false}
noncomputable def c145:Code:=bodyOf f145
theorem u145:UT 145 M145 c145 f145:=fun h i=>u_ func145 (by kernel_rfl) h i
theorem t145 (x x1 w R):den prog M145 c145 (argE 0 [(pointer x),(int i64 x1)]) w (Rt f145 R)=
(Call prog 252 [pointer x,I x1,.bool true] w fun e w'=>∃n,e=Z (I n)/\R (Z (I n)) w'):=by kernel_rfl
def M146:Mt:={N:=8,keep:=kp 0 [[0,1],[4]],ref:=false}
noncomputable def c146:Code:=bodyOf f146
theorem u146:UT 146 M146 c146 f146:=fun h i=>u_ func146 (by kernel_rfl) h i
theorem t146 (x x1 w R):den prog M146 c146 (argE 0 [(pointer x),(int i64 x1)]) w (Rt f146 R)=
(Call prog 252 [pointer x,I x1,.bool false] w fun e w'=>∃n,e=Z (I n)/\R (Z (I n)) w'):=by kernel_rfl
def M147:Mt:={N:=19,keep:=kp 0 [[0,1],[5,6],[5,6,14],[6],[4]],ref:=false}
noncomputable def c147:Code:=bodyOf f147
theorem u147:UT 147 M147 c147 f147:=fun h i=>u_ func147 (by kernel_rfl) h i
theorem t147 (x x1 w R):den prog M147 c147 (argE 0 [(pointer x),(int i64 x1)]) w (Rt f147 R)=
(Call prog 250 [pointer x,I x1] w fun e w'=>∃p n,e=Z (tuple #[pointer p,I n])/\((n==0)->∃a,p=some a/\Wr w' (a.add 2) [.bool true] fun w'=>R (Z (I n)) w')/\((n==0)=false->R (Z (I n)) w')):=by kernel_rfl
def M174:Mt:={N:=24,keep:=kp 0 [[0],[0,7],[2],[0,3],[3,11,12],[3,11,12,13],[3,4,5,11,12],[3,4,11,12,17],[3,11,12],[3,11,12],[2]],bk:=[(0,[3]),(1,[3,11,12])],lk:=[(5,[3,11,12])],ref:=false}
noncomputable def c174:Code:=bodyOf f174
noncomputable def c174_0:Code:=c174.sr.sr.sr.sr
noncomputable def c174_1:Code:=c174.sr.sr.sr.sl.sr.sl.sl
def e174_1 (x:Option Addr) (x1 x2:Nat) (x3:List Value) (x4:Int):Env:=[(3,SV.v (slice x x1 x2)),(11,SV.v (agg x3.toArray)),(12,SV.v (int i64 x4))]
def k174_1 (R:RT):=blockK 0 [3] (SQ M174 c174_0 (Rt f174 R) (Rt f174 R))
theorem u174:UT 174 M174 c174 f174:=fun h i=>u_ func174 (by kernel_rfl) h i
theorem t174 (x w R):den prog M174 c174 (argE 0 [(pointer x)]) w (Rt f174 R)=
((x.isNone->R (Z (N3)) w)/\(x.isNone=false->∃a,x=some a/\∃cs,List.length cs=64/\(∀(j:Nat) (v:Value),cs[j]?=some v->w.cell? (add (a.add 0) j)=some v)/\Cut (WP prog 24 (Code.loop c174_1) (e174_1 none 0 0 cs 0) w (k174_1 R)))):=by kernel_rfl
theorem t174_1 (x x1 x2 x3 x4 w B174_1 R):den prog M174 c174_1 (e174_1 x x1 x2 x3 x4) w (loopK B174_1 (k174_1 R))=
((decide (x4<16)->(0<=x4/\x4<(↑16:Int))/\∃b b_1 b_2 n,List.take 4 (List.drop (Int.toNat x4*4) (Array.toList (List.toArray x3)))=[.bool b,.bool b_1,.bool b_2,int .u64 n]/\New w [.bool false,.bool false,.bool false,int .u64 0] 198 fun p w'=>Wr w' p [.bool b,.bool b_1,.bool b_2,int .u64 n] fun w'=>∃b,w'.cell? (p.add 0)=some (.bool b)/\(b->New w' [I x4] 3 fun p w'=>∃p_1 n c w'_1,Sem.run prog (Builtin.append_ #[36,36] 36 #[slice x x1 x2,slice (some p) 1 1]) w'=Result.ok (slice p_1 n c) w'_1/\B174_1 [(3,SV.v (slice p_1 n c)),(11,SV.v (agg (List.toArray x3))),(12,SV.v (I (wrap i64 (x4+1))))] w'_1)/\(b=false->B174_1 [(3,SV.v (slice x x1 x2)),(11,SV.v (agg (List.toArray x3))),(12,SV.v (I (wrap i64 (x4+1))))] w'))/\(decide (x4<16)=false->R (Z (slice x x1 x2)) w)):=by kernel_rfl
def M175:Mt:={N:=28,keep:=kp 0 [[0,1],[5,6],[4]],ref:=false}
noncomputable def c175:Code:=bodyOf f175
theorem u175:UT 175 M175 c175 f175:=fun h i=>u_ func175 (by kernel_rfl) h i
theorem t175 (x x1 w R):den prog M175 c175 (argE 0 [(pointer x),(int i64 x1)]) w (Rt f175 R)=
(Call prog 250 [pointer x,I x1] w fun e w'=>∃p n,e=Z (tuple #[pointer p,I n])/\((n==0)->∃a,p=some a/\∃b,w'.cell? (a.add 2)=some (.bool b)/\(b->∃a,p=some a/\∃b,w'.cell? (a.add 1)=some (.bool b)/\R (Z (.bool !b)) w')/\(b=false->R (Z (.bool false)) w'))/\((n==0)=false->R (Z (.bool false)) w')):=by kernel_rfl
def M221:Mt:={N:=32,keep:=kp 0 [[0,1],[5,6],[5,6,13],[4],[5,17],[4],[],[4]],bk:=[(0,[5])],ref:=false}
noncomputable def c221:Code:=bodyOf f221
theorem u221:UT 221 M221 c221 f221:=fun h i=>u_ func221 (by kernel_rfl) h i
theorem t221 (x x1 w R):den prog M221 c221 (argE 0 [(pointer x),(int i64 x1)]) w (Rt f221 R)=
(Call prog 250 [pointer x,I x1] w fun e w'=>∃p n,e=Z (tuple #[pointer p,I n])/\((n !=0)->R (Z (I n)) w')/\((n !=0)=false->∃a,p=some a/\∃b,w'.cell? (a.add 2)=some (.bool b)/\((!b)=false->∃a,p=some a/\∃b,w'.cell? (a.add 1)=some (.bool b)/\(b->R (Z (I 12)) w')/\(b=false->∃a,p=some a/\Wr w' (a.add 2) [.bool false] fun w'=>R (Z (I 0)) w'))/\((!b)->R (Z (I 12)) w'))):=by kernel_rfl
def M246:Mt:={N:=21,keep:=kp 0 [[0,1],[0,1,6],[4,5],[0,1,9],[4,5],[4,5]],bk:=[(0,[0,1])],ref:=false}
noncomputable def c246:Code:=bodyOf f246
theorem u246:UT 246 M246 c246 f246:=fun h i=>u_ func246 (by kernel_rfl) h i
theorem t246 (x x1 w R):den prog M246 c246 (argE 0 [(pointer x),(int i64 x1)]) w (Rt f246 R)=
((x.isNone->R (Z (tuple #[pointer none,I 1])) w)/\(x.isNone=false->(decide (x1<0)=false->(decide (x1>=16)->R (Z (tuple #[pointer none,I 3])) w)/\(decide (x1>=16)=false->∃a,x=some a/\(0<=x1/\x1<(↑16:Int))/\R (Z (tuple #[pointer (some (add (a.add 0) (Int.toNat x1*4))),I 0])) w))/\(decide (x1<0)->R (Z (tuple #[pointer none,I 3])) w))):=by kernel_rfl
def M247:Mt:={N:=15,keep:=kp 0 [[0,1],[4]],ref:=false}
noncomputable def c247:Code:=bodyOf f247
theorem u247:UT 247 M247 c247 f247:=fun h i=>u_ func247 (by kernel_rfl) h i
theorem t247 (x x1 w R):den prog M247 c247 (argE 0 [(pointer x),(int .u64 x1)]) w (Rt f247 R)=
(((x1 !=0)->∃a,x=some a/\∃n,w.cell? (a.add 64)=some (int .u64 n)/\Call prog 277 [int .u64 x1,int .u64 n] w fun e w'=>∃b,e=Z (.bool b)/\R (Z (.bool b)) w')/\((x1 !=0)=false->R (Z (.bool false)) w)):=by kernel_rfl
def M248:Mt:={N:=21,keep:=kp 0 [[0,1,4],[4,6,7],[4,6,7,15],[4,5],[4,5]],ref:=false}
noncomputable def c248:Code:=bodyOf f248
theorem u248:UT 248 M248 c248 f248:=fun h i=>u_ func248 (by kernel_rfl) h i
theorem t248 (x x1 w R):den prog M248 c248 (argE 0 [(pointer x),(int i64 x1)]) w (Rt f248 R)=
(New w [.bool false,.bool false,.bool false,int .u64 0] 198 fun p w'=>Call prog 246 [pointer x,I x1] w' fun e w'=>∃p_1 n,e=Z (tuple #[pointer p_1,I n])/\((n !=0)->Wr w' p [.bool false,.bool false,.bool false,int .u64 0] fun w'=>∃b,w'.cell? (p.add 0)=some (.bool b)/\∃b_1,w'.cell? (p.add 1)=some (.bool b_1)/\∃b_2,w'.cell? (p.add 2)=some (.bool b_2)/\∃n_1,w'.cell? (p.add 3)=some (int .u64 n_1)/\R (Z (tuple #[agg #[.bool b,.bool b_1,.bool b_2,int .u64 n_1],I n])) w')/\((n !=0)=false->∃a,p_1=some a/\∃b,w'.cell? (a.add 0)=some (.bool b)/\∃b_1,w'.cell? (a.add 1)=some (.bool b_1)/\∃b_2,w'.cell? (a.add 2)=some (.bool b_2)/\∃n,w'.cell? (a.add 3)=some (int .u64 n)/\Wr w' p [.bool b,.bool b_1,.bool b_2,int .u64 n] fun w'=>∃b,w'.cell? (p.add 0)=some (.bool b)/\∃b_3,w'.cell? (p.add 1)=some (.bool b_3)/\∃b_4,w'.cell? (p.add 2)=some (.bool b_4)/\∃n,w'.cell? (p.add 3)=some (int .u64 n)/\R (Z (tuple #[agg #[.bool b,.bool b_3,.bool b_4,int .u64 n],I 0])) w')):=by kernel_rfl
def M250:Mt:={N:=25,keep:=kp 0 [[0,1],[6,7],[6,7,22],[4,5],[4,5]],ref:=false}
noncomputable def c250:Code:=bodyOf f250
theorem u250:UT 250 M250 c250 f250:=fun h i=>u_ func250 (by kernel_rfl) h i
theorem t250 (x x1 w R):den prog M250 c250 (argE 0 [(pointer x),(int i64 x1)]) w (Rt f250 R)=
(Call prog 246 [pointer x,I x1] w fun e w'=>∃p n,e=Z (tuple #[pointer p,I n])/\((n==0)->∃a,p=some a/\∃b,w'.cell? (a.add 0)=some (.bool b)/\((!b)->R (Z (tuple #[pointer none,I 4])) w')/\((!b)=false->R (Z (tuple #[pointer p,I n])) w'))/\((n==0)=false->R (Z (tuple #[pointer p,I n])) w')):=by kernel_rfl
def M252:Mt:={N:=30,keep:=kp 0 [[0,1,2],[2,7,8],[2,7,8,15],[6],[2,7,19],[6],[],[6]],bk:=[(0,[2,7])],ref:=false}
noncomputable def c252:Code:=bodyOf f252
theorem u252:UT 252 M252 c252 f252:=fun h i=>u_ func252 (by kernel_rfl) h i
theorem t252 (x x1 x2 w R):den prog M252 c252 (argE 0 [(pointer x),(int i64 x1),(.bool x2)]) w (Rt f252 R)=
(Call prog 250 [pointer x,I x1] w fun e w'=>∃p n,e=Z (tuple #[pointer p,I n])/\((n !=0)->R (Z (I n)) w')/\((n !=0)=false->∃a,p=some a/\∃b,w'.cell? (a.add 1)=some (.bool b)/\((b==x2)->R (Z (I 6)) w')/\((b==x2)=false->∃a,p=some a/\Wr w' (a.add 1) [.bool x2] fun w'=>R (Z (I 0)) w'))):=by kernel_rfl
def M42:Mt:={N:=13,keep:=kp 0 [[0],[0,9],[2,3],[2,3]],ref:=false}
noncomputable def c42:Code:=bodyOf f42
theorem u42:UT 42 M42 c42 f42:=fun h i=>u_ func42 (by kernel_rfl) h i
theorem t42 (x w R):den prog M42 c42 (argE 0 [(int i64 x)]) w (Rt f42 R)=
((decide (x<1)=false->(decide (x>64)->R (Z (tuple #[pointer none,I 2])) w)/\(decide (x>64)=false->New w [I 0,I 0,I 0,I 0,I 0,I 0,I 0,I 0,I 0,I 0,I 0,I 0,I 0,I 0,I 0,I 0,I x] 204 fun p w'=>R (Z (tuple #[pointer (some p),I 0])) w'))/\(decide (x<1)->R (Z (tuple #[pointer none,I 2])) w)):=by kernel_rfl
def M141:Mt:={N:=24,keep:=kp 0 [[0,1],[0,1,5],[0,1,5,10],[4],[0,1,18],[4],[],[4]],ref:=false}
noncomputable def c141:Code:=bodyOf f141
theorem u141:UT 141 M141 c141 f141:=fun h i=>u_ func141 (by kernel_rfl) h i
theorem t141 (x x1 w R):den prog M141 c141 (argE 0 [(pointer x),(int i64 x1)]) w (Rt f141 R)=
(Call prog 251 [pointer x,I x1] w fun e w'=>∃n,e=Z (I n)/\((n !=0)->R (Z (I n)) w')/\((n !=0)=false->∃a,x=some a/\(0<=x1/\x1<(↑16:Int))/\∃n,w'.cell? (add (a.add 0) (Int.toNat x1*1))=some (I n)/\((n==0)->R (Z (I 4)) w')/\((n==0)=false->∃a,x=some a/\(0<=x1/\x1<(↑16:Int))/\Wr w' (add (a.add 0) (Int.toNat x1*1)) [I 0] fun w'=>R (Z (I 0)) w'))):=by kernel_rfl
def M186:Mt:={N:=26,keep:=kp 0 [[0,1],[0,1,18],[4,5],[4,5]],ref:=false}
noncomputable def c186:Code:=bodyOf f186
theorem u186:UT 186 M186 c186 f186:=fun h i=>u_ func186 (by kernel_rfl) h i
theorem t186 (x x1 w R):den prog M186 c186 (argE 0 [(pointer x),(int i64 x1)]) w (Rt f186 R)=
(Call prog 251 [pointer x,I x1] w fun e w'=>∃n,e=Z (I n)/\((n !=0)=false->∃a,x=some a/\(0<=x1/\x1<(↑16:Int))/\∃n,w'.cell? (add (a.add 0) (Int.toNat x1*1))=some (I n)/\((n==0)->R (Z (tuple #[I 0,.bool false])) w')/\((n==0)=false->∃a,x=some a/\(0<=x1/\x1<(↑16:Int))/\∃n,w'.cell? (add (a.add 0) (Int.toNat x1*1))=some (I n)/\R (Z (tuple #[I (wrap i64 (n-1)),.bool true])) w'))/\((n !=0)->R (Z (tuple #[I 0,.bool false])) w')):=by kernel_rfl
def M249:Mt:={N:=31,keep:=kp 0 [[0,1,2],[0,1,2,7],[0,1,2,7,12],[6],[0,1,2,23],[6],[],[6]],ref:=false}
noncomputable def c249:Code:=bodyOf f249
theorem u249:UT 249 M249 c249 f249:=fun h i=>u_ func249 (by kernel_rfl) h i
theorem t249 (x x1 x2 w R):den prog M249 c249 (argE 0 [(pointer x),(int i64 x1),(int i64 x2)]) w (Rt f249 R)=
(Call prog 251 [pointer x,I x1] w fun e w'=>∃n,e=Z (I n)/\((n !=0)->R (Z (I n)) w')/\((n !=0)=false->(decide (x2<0)=false->∃a,x=some a/\∃n,w'.cell? (a.add 16)=some (I n)/\(decide (x2>=n)->R (Z (I 3)) w')/\(decide (x2>=n)=false->∃a,x=some a/\(0<=x1/\x1<(↑16:Int))/\Wr w' (add (a.add 0) (Int.toNat x1*1)) [I (wrap i64 (x2+1))] fun w'=>R (Z (I 0)) w'))/\(decide (x2<0)->R (Z (I 3)) w'))):=by kernel_rfl
def M251:Mt:={N:=15,keep:=kp 0 [[0,1],[1,5],[4],[8],[4],[4]],bk:=[(0,[])],ref:=false}
noncomputable def c251:Code:=bodyOf f251
theorem u251:UT 251 M251 c251 f251:=fun h i=>u_ func251 (by kernel_rfl) h i
theorem t251 (x x1 w R):den prog M251 c251 (argE 0 [(pointer x),(int i64 x1)]) w (Rt f251 R)=
((x.isNone->R (Z (I 1)) w)/\(x.isNone=false->(decide (x1<0)=false->(decide (x1>=16)->R (Z (I 3)) w)/\(decide (x1>=16)=false->R (Z (I 0)) w))/\(decide (x1<0)->R (Z (I 3)) w))):=by kernel_rfl
def M291:Mt:={N:=32,keep:=kp 0 [[0,1],[0,1,10],[4],[0,1,5],[0,1,5,11],[0,1,5,11,12],[0,1,5,6,11],[0,1,5,6,7,8,11],[0,1,5,6,11,25],[0,1,5,11],[0,1,5,11],[4]],bk:=[(0,[5]),(1,[0,1,5,11])],lk:=[(5,[0,1,5,11])],ref:=false}
noncomputable def c291:Code:=bodyOf f291
noncomputable def c291_0:Code:=c291.sr.sr.sr.sr
noncomputable def c291_1:Code:=c291.sr.sr.sr.sl.sr.sl.sl
def e291_1 (x:Option Addr) (x1:Int) (x2:Option Addr) (x3 x4:Nat) (x5:Int):Env:=[(0,SV.v (pointer x)),(1,SV.v (int i64 x1)),(5,SV.v (slice x2 x3 x4)),(11,SV.v (int i64 x5))]
def k291_1 (R:RT):=blockK 0 [5] (SQ M291 c291_0 (Rt f291 R) (Rt f291 R))
theorem u291:UT 291 M291 c291 f291:=fun h i=>u_ func291 (by kernel_rfl) h i
theorem t291 (x x1 w R):den prog M291 c291 (argE 0 [(pointer x),(int i64 x1)]) w (Rt f291 R)=
((x.isNone->R (Z (N3)) w)/\(x.isNone=false->Cut (WP prog 32 (Code.loop c291_1) (e291_1 x x1 none 0 0 0) w (k291_1 R)))):=by kernel_rfl
theorem t291_1 (x x1 x2 x3 x4 x5 w B291_1 R):den prog M291 c291_1 (e291_1 x x1 x2 x3 x4 x5) w (loopK B291_1 (k291_1 R))=
((decide (x5<16)->Call prog 186 [pointer x,I x5] w fun e w'=>∃n b,e=Z (tuple #[I n,.bool b])/\(b->((n==x1)->New w' [I x5] 3 fun p w'=>∃p_1 n c w'_1,Sem.run prog (Builtin.append_ #[36,36] 36 #[slice x2 x3 x4,slice (some p) 1 1]) w'=Result.ok (slice p_1 n c) w'_1/\B291_1 [(0,SV.v (pointer x)),(1,SV.v (I x1)),(5,SV.v (slice p_1 n c)),(11,SV.v (I (wrap i64 (x5+1))))] w'_1)/\((n==x1)=false->B291_1 [(0,SV.v (pointer x)),(1,SV.v (I x1)),(5,SV.v (slice x2 x3 x4)),(11,SV.v (I (wrap i64 (x5+1))))] w'))/\(b=false->B291_1 [(0,SV.v (pointer x)),(1,SV.v (I x1)),(5,SV.v (slice x2 x3 x4)),(11,SV.v (I (wrap i64 (x5+1))))] w'))/\(decide (x5<16)=false->R (Z (slice x2 x3 x4)) w)):=by kernel_rfl
def M233:Mt:={N:=36,keep:=kp 0 [[0,1,2],[0,1,2,14],[6,7,8],[1,2,9],[1,2,9,10],[1,2,9,10,20],[2,9,10],[2,9,10,24],[6,7,8],[10,11,12],[6,7,8]],cuts:=[(7,[2,9,10])],ref:=false}
noncomputable def c233:Code:=bodyOf f233
noncomputable def c233_0:Code:=c233.sr.sr.sr.sr.sr
def e233_0 (x x1:Int) (x2:Bool):Env:=[(2,SV.v (int i64 x)),(9,SV.v (int .u64 x1)),(10,SV.v (.bool x2))]
def k233_0 (R:RT):=Rt f233 R
theorem u233:UT 233 M233 c233 f233:=fun h i=>u_ func233 (by kernel_rfl) h i
theorem t233 (x x1 x2 w R):den prog M233 c233 (argE 0 [(int .u64 x),(int .u64 x1),(int i64 x2)]) w (Rt f233 R)=
(((x1==0)->R (Z (tuple #[I 0,.bool false,I 12])) w)/\((x1==0)=false->Call prog 318 [int .u64 x,int .u64 x1] w fun e w'=>∃n,e=Z (int .u64 n)/\((n==0)->CutD prog M233 c233_0 (e233_0 x2 x1 (n==0)) w' (k233_0 R))/\((n==0)=false->CutD prog M233 c233_0 (e233_0 x2 n (n==0)) w' (k233_0 R)))):=by kernel_rfl
theorem t233_0 (x x1 x2 w R):den prog M233 c233_0 (e233_0 x x1 x2) w (k233_0 R)=
(Call prog 23 [int .u64 x1,I x] w fun e w'=>∃b,e=Z (.bool b)/\(b->R (Z (tuple #[I x,.bool x2,I 0])) w')/\(b=false->Call prog 319 [int .u64 x1,I x] w' fun e w'=>∃n n_1,e=Z (tuple #[I n,I n_1])/\R (Z (tuple #[I n,.bool x2,I n_1])) w')):=by kernel_rfl
def M239:Mt:={N:=31,keep:=kp 0 [[0,3],[0,3,5],[0,3,5,11],[4],[3,5,17],[4],[4]],bk:=[(0,[3,5])],ref:=false}
noncomputable def c239:Code:=bodyOf f239
theorem u239 {a b c d e w R}(h:den prog M239 c239 (argE 0 [a,agg #[b,c,d,e]]) w (Rt f239 R)):Calls prog 239 #[a,agg #[b,c,d,e]] w R:=u_ func239 (by kernel_rfl) h
theorem t239 (x x1 x2 x3 x4 w R):den prog M239 c239 (argE 0 [(int .u64 x),(agg #[(int i64 x1),(int .u64 x2),(int i64 x3),(.bool x4)])]) w (Rt f239 R)=
(New w [I x1,int .u64 x2,I x3,.bool x4] 333 fun p w'=>∃n,w'.cell? (p.add 1)=some (int .u64 n)/\∃n_1,w'.cell? (p.add 2)=some (I n_1)/\Call prog 23 [int .u64 n,I n_1] w' fun e w'=>∃b,e=Z (.bool b)/\∃n,w'.cell? (p.add 2)=some (I n)/\Call prog 23 [int .u64 x,I n] w' fun e w'=>∃b_1,e=Z (.bool b_1)/\((!b_1)->R (Z (.bool true)) w')/\((!b_1)=false->((!b)->∃n,w'.cell? (p.add 1)=some (int .u64 n)/\Call prog 318 [int .u64 n,int .u64 x] w' fun e w'=>∃n,e=Z (int .u64 n)/\((n !=0)->R (Z (.bool true)) w')/\((n !=0)=false->∃b_2,w'.cell? (p.add 3)=some (.bool b_2)/\R (Z (.bool (b_2==b))) w'))/\((!b)=false->∃b_2,w'.cell? (p.add 3)=some (.bool b_2)/\R (Z (.bool (b_2==b))) w'))):=by kernel_rfl
end Go.Dav
namespace Go.Dav
open Go.Proofs
open Value IntKind Ending World Addr Tryz
set_option maxRecDepth 100000
def M44:Mt:={N:=49,keep:=kp 0 [[0],[0,14],[2,3],[0,4,5],[0,4,5,20],[2,3],[0,6],[6,27,28],[6,27,28,29],[6,7,8,27,28],[6,7,8,27,28,35],[2,3],[6,27,28],[6,27,28],[2,3]],bk:=[(0,[6]),(1,[6,27,28])],lk:=[(8,[6,27,28])],ref:=false}
noncomputable def c44:Code:=bodyOf f44
noncomputable def c44_0:Code:=c44.sr.sr.sr.sr.sr.sr
noncomputable def c44_1:Code:=c44.sr.sr.sr.sr.sr.sl.sr.sl.sl
def e44_1 (x:Option Addr) (x1 x2:Int):Env:=[(6,SV.v (pointer x)),(27,SV.v (int i64 x1)),(28,SV.v (int i64 x2))]
def k44_1 (R:RT):=blockK 0 [6] (SQ M44 c44_0 (Rt f44 R) (Rt f44 R))
theorem u44:UT 44 M44 c44 f44:=fun h i=>u_ func44 (by kernel_rfl) h i
theorem t44 (x w R):den prog M44 c44 (argE 0 [(int i64 x)]) w (Rt f44 R)=
((decide (x<1)=false->(decide (x>64)->R (Z (tuple #[pointer none,I 2])) w)/\(decide (x>64)=false->Call prog 107 [I 32] w fun e w'=>∃p n,e=Z (tuple #[pointer p,I n])/\((n !=0)->R (Z (tuple #[pointer none,I n])) w')/\((n !=0)=false->NewMap w' fun r w'=>New w' [pointer p,N3,map (some r)] 207 fun p w'=>Cut (WP prog 49 (Code.loop c44_1) (e44_1 (some p) (wrap i64 (x+1)) 0) w' (k44_1 R)))))/\(decide (x<1)->R (Z (tuple #[pointer none,I 2])) w)):=by kernel_rfl
theorem t44_1 (x x1 x2 w B44_1 R):den prog M44 c44_1 (e44_1 x x1 x2) w (loopK B44_1 (k44_1 R))=
((decide (x2<x1)->Call prog 110 [I 32] w fun e w'=>∃p n,e=Z (tuple #[pointer p,I n])/\((n !=0)->R (Z (tuple #[pointer none,I n])) w')/\((n !=0)=false->∃a,x=some a/\∃p_1 n c,w'.cell? (a.add 1)=some (slice p_1 n c)/\New w' [pointer p] 208 fun p w'=>∃p_2 n_1 c_1 w'_1,Sem.run prog (Builtin.append_ #[205,205] 205 #[slice p_1 n c,slice (some p) 1 1]) w'=Result.ok (slice p_2 n_1 c_1) w'_1/\∃a,x=some a/\Wr w'_1 (a.add 1) [slice p_2 n_1 c_1] fun w'=>B44_1 [(6,SV.v (pointer x)),(27,SV.v (I x1)),(28,SV.v (I (wrap i64 (x2+1))))] w'))/\(decide (x2<x1)=false->R (Z (tuple #[pointer x,I 0])) w)):=by kernel_rfl
def M68:Mt:={N:=38,keep:=kp 0 [[0,1],[0,1,6],[0,1,6,13],[4,5],[0,1,7,8],[0,1,7,8,24],[4,5],[0,1,7],[4,5]],ref:=false}
noncomputable def c68:Code:=bodyOf f68
theorem u68:UT 68 M68 c68 f68:=fun h i=>u_ func68 (by kernel_rfl) h i
theorem t68 (x x1 w R):den prog M68 c68 (argE 0 [(pointer x),(int i64 x1)]) w (Rt f68 R)=
(Call prog 148 [pointer x,I x1,I (-1:Int)] w fun e w'=>∃n,e=Z (I n)/\((n !=0)->R (Z (tuple #[I 0,I n])) w')/\((n !=0)=false->∃a,x=some a/\∃p,w'.cell? (a.add 0)=some (pointer p)/\Call prog 149 [pointer p] w' fun e w'=>∃n n_1,e=Z (tuple #[I n,I n_1])/\((n_1 !=0)->R (Z (tuple #[I 0,I n_1])) w')/\((n_1 !=0)=false->∃a,x=some a/\∃r,w'.cell? (a.add 2)=some (map r)/\∃w'_1,Sem.run prog (Instr.mapUpdate 78 (map r) (I n) (I x1)) w'=Result.ok () w'_1/\Call prog 150 [pointer x,I x1] w'_1 fun e w'=>∃p,e=Z (pointer p)/\Call prog 151 [pointer p,I n] w' fun e w'=>∃n_2,e=Z (I n_2)/\R (Z (tuple #[I n,I n_2])) w'))):=by kernel_rfl
def M93:Mt:={N:=13,keep:=kp 0 [[0,1],[0,1,8],[4],[4]],ref:=false}
noncomputable def c93:Code:=bodyOf f93
theorem u93:UT 93 M93 c93 f93:=fun h i=>u_ func93 (by kernel_rfl) h i
theorem t93 (x x1 w R):den prog M93 c93 (argE 0 [(pointer x),(int i64 x1)]) w (Rt f93 R)=
(Call prog 148 [pointer x,I x1,I (-1:Int)] w fun e w'=>∃n,e=Z (I n)/\((n !=0)->R (Z (N3)) w')/\((n !=0)=false->Call prog 150 [pointer x,I x1] w' fun e w'=>∃p,e=Z (pointer p)/\Call prog 187 [pointer p] w' fun e w'=>∃p n c,e=Z (slice p n c)/\R (Z (slice p n c)) w')):=by kernel_rfl
def M148:Mt:={N:=24,keep:=kp 0 [[0,1,2],[0,1,2,7],[6],[10],[6],[6]],bk:=[(0,[])],ref:=false}
noncomputable def c148:Code:=bodyOf f148
theorem u148:UT 148 M148 c148 f148:=fun h i=>u_ func148 (by kernel_rfl) h i
theorem t148 (x x1 x2 w R):den prog M148 c148 (argE 0 [(pointer x),(int i64 x1),(int i64 x2)]) w (Rt f148 R)=
((x.isNone->R (Z (I 1)) w)/\(x.isNone=false->(decide (x1<x2)=false->∃a,x=some a/\∃p n c,w.cell? (a.add 1)=some (slice p n c)/\(decide (x1>=wrap i64 ((↑n:Int)-1))->R (Z (I 3)) w)/\(decide (x1>=wrap i64 ((↑n:Int)-1))=false->R (Z (I 0)) w))/\(decide (x1<x2)->R (Z (I 3)) w))):=by kernel_rfl
def M150:Mt:={N:=13,keep:=kp 0 [[0,1],[4]],ref:=false}
noncomputable def c150:Code:=bodyOf f150
theorem u150:UT 150 M150 c150 f150:=fun h i=>u_ func150 (by kernel_rfl) h i
theorem t150 (x x1 w R):den prog M150 c150 (argE 0 [(pointer x),(int i64 x1)]) w (Rt f150 R)=
(∃a,x=some a/\∃p n c,w.cell? (a.add 1)=some (slice p n c)/\(0<=wrap i64 (x1-(-1:Int))/\wrap i64 (x1-(-1:Int))<(↑n:Int))/\∃a,p=some a/\∃p,w.cell? (add a (Int.toNat (wrap i64 (x1-(-1:Int)))*1))=some (pointer p)/\R (Z (pointer p)) w):=by kernel_rfl
def M170:Mt:={N:=9,keep:=kp 0 [[0,1],[4]],ref:=false}
noncomputable def c170:Code:=bodyOf f170
theorem u170:UT 170 M170 c170 f170:=fun h i=>u_ func170 (by kernel_rfl) h i
theorem t170 (x x1 w R):den prog M170 c170 (argE 0 [(pointer x),(int i64 x1)]) w (Rt f170 R)=
(Call prog 93 [pointer x,I x1] w fun e w'=>∃p n c,e=Z (slice p n c)/\R (Z (I (↑n:Int))) w'):=by kernel_rfl
def M223:Mt:={N:=38,keep:=kp 0 [[0,1],[0,1,6],[0,1,6,15],[4,5],[0,18,19,20],[0,18,19,20,21],[0,8,18,19,20],[0,9,10,18,19,20],[0,9,18,19,20,32],[4,5],[0,18,19,20],[4,5]],bk:=[(0,[]),(1,[0,18,19,20])],lk:=[(5,[0,18,19,20])],ref:=false}
noncomputable def c223:Code:=bodyOf f223
noncomputable def c223_0:Code:=c223.sr.sr.sr
noncomputable def c223_1:Code:=c223.sr.sr.sl.sr.sl.sl
def e223_1 (x x1:Option Addr) (x2 x3:Nat) (x4 x5:Int):Env:=[(0,SV.v (pointer x)),(18,SV.v (slice x1 x2 x3)),(19,SV.v (int i64 x4)),(20,SV.v (int i64 x5))]
def k223_1 (R:RT):=blockK 0 [] (SQ M223 c223_0 (Rt f223 R) (Rt f223 R))
theorem u223:UT 223 M223 c223 f223:=fun h i=>u_ func223 (by kernel_rfl) h i
theorem t223 (x x1 w R):den prog M223 c223 (argE 0 [(pointer x),(int i64 x1)]) w (Rt f223 R)=
(Call prog 148 [pointer x,I x1,I 0] w fun e w'=>∃n,e=Z (I n)/\((n !=0)->R (Z (tuple #[I 0,I n])) w')/\((n !=0)=false->New w' [I x1,I (-1:Int)] 3 fun p w'=>Cut (WP prog 38 (Code.loop c223_1) (e223_1 x (some p) 2 2 (↑2:Int) 0) w' (k223_1 R)))):=by kernel_rfl
theorem t223_1 (x x1 x2 x3 x4 x5 w B223_1 R):den prog M223 c223_1 (e223_1 x x1 x2 x3 x4 x5) w (loopK B223_1 (k223_1 R))=
((decide (x5<x4)->(0<=x5/\x5<(↑x2:Int))/\∃a,x1=some a/\∃n,w.cell? (add a (Int.toNat x5*1))=some (I n)/\Call prog 150 [pointer x,I n] w fun e w'=>∃p,e=Z (pointer p)/\Call prog 307 [pointer p] w' fun e w'=>∃n n_1,e=Z (tuple #[I n,I n_1])/\((n_1==0)->Call prog 308 [pointer x,I n] w' fun e w'=>∃n_2,e=Z (I n_2)/\R (Z (tuple #[I n,I n_2])) w')/\((n_1==0)=false->B223_1 [(0,SV.v (pointer x)),(18,SV.v (slice x1 x2 x3)),(19,SV.v (I x4)),(20,SV.v (I (wrap i64 (x5+1))))] w'))/\(decide (x5<x4)=false->R (Z (tuple #[I 0,I 12])) w)):=by kernel_rfl
def M263:Mt:={N:=14,keep:=kp 0 [[0,1],[6],[4]],ref:=false}
noncomputable def c263:Code:=bodyOf f263
theorem u263:UT 263 M263 c263 f263:=fun h i=>u_ func263 (by kernel_rfl) h i
theorem t263 (x x1 w R):den prog M263 c263 (argE 0 [(pointer x),(int i64 x1)]) w (Rt f263 R)=
(Call prog 334 [pointer x,I x1] w fun e w'=>∃n b,e=Z (tuple #[I n,.bool b])/\R (Z (.bool b)) w'):=by kernel_rfl
def M308:Mt:={N:=35,keep:=kp 0 [[0,1],[0,1,5,6],[0,1,5,6,13],[4],[0,1,5,16],[4],[0,1,5],[0,1,5],[4]],bk:=[(0,[0,1,5])],ref:=false}
noncomputable def c308:Code:=bodyOf f308
theorem u308:UT 308 M308 c308 f308:=fun h i=>u_ func308 (by kernel_rfl) h i
theorem t308 (x x1 w R):den prog M308 c308 (argE 0 [(pointer x),(int i64 x1)]) w (Rt f308 R)=
(Call prog 334 [pointer x,I x1] w fun e w'=>∃n b,e=Z (tuple #[I n,.bool b])/\(x.isNone->R (Z (I 1)) w')/\(x.isNone=false->((!b)->R (Z (I 4)) w')/\((!b)=false->∃a,x=some a/\∃r,w'.cell? (a.add 2)=some (map r)/\∃w'_1,Sem.run prog (Builtin.delete_ #[78,3] 0 #[map r,I x1]) w'=Result.ok (tuple #[]) w'_1/\∃a,x=some a/\∃p,w'_1.cell? (a.add 0)=some (pointer p)/\Call prog 305 [pointer p,I x1] w'_1 fun e w'=>∃n_1,e=Z (I n_1)/\Call prog 150 [pointer x,I n] w' fun e w'=>∃p,e=Z (pointer p)/\Call prog 364 [pointer p,I x1] w' fun e w'=>∃n,e=Z (I n)/\R (Z (I n)) w'))):=by kernel_rfl
def M334:Mt:={N:=21,keep:=kp 0 [[0,1],[0,1,9],[4,5],[6,7],[4,5]],ref:=false}
noncomputable def c334:Code:=bodyOf f334
theorem u334:UT 334 M334 c334 f334:=fun h i=>u_ func334 (by kernel_rfl) h i
theorem t334 (x x1 w R):den prog M334 c334 (argE 0 [(pointer x),(int i64 x1)]) w (Rt f334 R)=
((x.isNone->R (Z (tuple #[I 0,.bool false])) w)/\(x.isNone=false->∃a,x=some a/\∃r,w.cell? (a.add 2)=some (map r)/\∃n b,Sem.run prog (Instr.lookup 78 (map r) (I x1) true) w=Result.ok (tuple #[I n,.bool b]) w/\R (Z (tuple #[I n,.bool b])) w)):=by kernel_rfl
def M358:Mt:={N:=35,keep:=kp 0 [[0,1],[0,1,6],[0,1,6,13],[4,5],[0,7,8],[0,7,8,23],[4,5],[0,7],[4,5]],ref:=false}
noncomputable def c358:Code:=bodyOf f358
theorem u358:UT 358 M358 c358 f358:=fun h i=>u_ func358 (by kernel_rfl) h i
theorem t358 (x x1 w R):den prog M358 c358 (argE 0 [(pointer x),(int i64 x1)]) w (Rt f358 R)=
(Call prog 148 [pointer x,I x1,I 0] w fun e w'=>∃n,e=Z (I n)/\((n !=0)->R (Z (tuple #[I 0,I n])) w')/\((n !=0)=false->Call prog 150 [pointer x,I x1] w' fun e w'=>∃p,e=Z (pointer p)/\Call prog 304 [pointer p] w' fun e w'=>∃n n_1,e=Z (tuple #[I n,I n_1])/\((n_1 !=0)->R (Z (tuple #[I 0,I n_1])) w')/\((n_1 !=0)=false->∃a,x=some a/\∃r,w'.cell? (a.add 2)=some (map r)/\∃w'_1,Sem.run prog (Instr.mapUpdate 78 (map r) (I n) (I (-1:Int))) w'=Result.ok () w'_1/\Call prog 150 [pointer x,I (-1:Int)] w'_1 fun e w'=>∃p,e=Z (pointer p)/\Call prog 151 [pointer p,I n] w' fun e w'=>∃n_2,e=Z (I n_2)/\R (Z (tuple #[I n,I n_2])) w'))):=by kernel_rfl
def M46:Mt:={N:=48,keep:=kp 0 [[0],[0,14],[2,3],[0,4,5],[0,4,5,20],[2,3],[0,6],[6,26,27],[6,26,27,28],[6,7,8,26,27],[6,7,8,26,27,34],[2,3],[6,26,27],[6,26,27],[2,3]],bk:=[(0,[6]),(1,[6,26,27])],lk:=[(8,[6,26,27])],ref:=false}
noncomputable def c46:Code:=bodyOf f46
noncomputable def c46_0:Code:=c46.sr.sr.sr.sr.sr.sr
noncomputable def c46_1:Code:=c46.sr.sr.sr.sr.sr.sl.sr.sl.sl
def e46_1 (x:Option Addr) (x1 x2:Int):Env:=[(6,SV.v (pointer x)),(26,SV.v (int i64 x1)),(27,SV.v (int i64 x2))]
def k46_1 (R:RT):=blockK 0 [6] (SQ M46 c46_0 (Rt f46 R) (Rt f46 R))
theorem u46:UT 46 M46 c46 f46:=fun h i=>u_ func46 (by kernel_rfl) h i
theorem t46 (x w R):den prog M46 c46 (argE 0 [(int i64 x)]) w (Rt f46 R)=
((decide (x<1)=false->(decide (x>64)->R (Z (tuple #[pointer none,I 2])) w)/\(decide (x>64)=false->Call prog 107 [I 32] w fun e w'=>∃p n,e=Z (tuple #[pointer p,I n])/\((n !=0)->R (Z (tuple #[pointer none,I n])) w')/\((n !=0)=false->New w' [pointer p,N3] 213 fun p w'=>Cut (WP prog 48 (Code.loop c46_1) (e46_1 (some p) x 0) w' (k46_1 R)))))/\(decide (x<1)->R (Z (tuple #[pointer none,I 2])) w)):=by kernel_rfl
theorem t46_1 (x x1 x2 w B46_1 R):den prog M46 c46_1 (e46_1 x x1 x2) w (loopK B46_1 (k46_1 R))=
((decide (x2<x1)->Call prog 110 [I 32] w fun e w'=>∃p n,e=Z (tuple #[pointer p,I n])/\((n !=0)->R (Z (tuple #[pointer none,I n])) w')/\((n !=0)=false->∃a,x=some a/\∃p_1 n c,w'.cell? (a.add 1)=some (slice p_1 n c)/\New w' [pointer p] 208 fun p w'=>∃p_2 n_1 c_1 w'_1,Sem.run prog (Builtin.append_ #[205,205] 205 #[slice p_1 n c,slice (some p) 1 1]) w'=Result.ok (slice p_2 n_1 c_1) w'_1/\∃a,x=some a/\Wr w'_1 (a.add 1) [slice p_2 n_1 c_1] fun w'=>B46_1 [(6,SV.v (pointer x)),(26,SV.v (I x1)),(27,SV.v (I (wrap i64 (x2+1))))] w'))/\(decide (x2<x1)=false->R (Z (tuple #[pointer x,I 0])) w)):=by kernel_rfl
def M95:Mt:={N:=18,keep:=kp 0 [[0,1],[0,1,9],[4],[4]],ref:=false}
noncomputable def c95:Code:=bodyOf f95
theorem u95:UT 95 M95 c95 f95:=fun h i=>u_ func95 (by kernel_rfl) h i
theorem t95 (x x1 w R):den prog M95 c95 (argE 0 [(pointer x),(int i64 x1)]) w (Rt f95 R)=
(New w [I x1] 3 fun p w'=>Call prog 188 [pointer x,slice (some p) 1 1] w' fun e w'=>∃n,e=Z (I n)/\((n !=0)->R (Z (N3)) w')/\((n !=0)=false->∃a,x=some a/\∃p n c,w'.cell? (a.add 1)=some (slice p n c)/\(0<=x1/\x1<(↑n:Int))/\∃a,p=some a/\∃p,w'.cell? (add a (Int.toNat x1*1))=some (pointer p)/\Call prog 187 [pointer p] w' fun e w'=>∃p n c,e=Z (slice p n c)/\R (Z (slice p n c)) w')):=by kernel_rfl
def M154:Mt:={N:=38,keep:=kp 0 [[0,1],[0,1,6],[0,1,6,14],[4,5],[0,1,7,8],[0,1,7,8,26],[4,5],[4,5]],ref:=false}
noncomputable def c154:Code:=bodyOf f154
theorem u154:UT 154 M154 c154 f154:=fun h i=>u_ func154 (by kernel_rfl) h i
theorem t154 (x x1 w R):den prog M154 c154 (argE 0 [(pointer x),(int i64 x1)]) w (Rt f154 R)=
(New w [I x1] 3 fun p w'=>Call prog 188 [pointer x,slice (some p) 1 1] w' fun e w'=>∃n,e=Z (I n)/\((n !=0)->R (Z (tuple #[I 0,I n])) w')/\((n !=0)=false->∃a,x=some a/\∃p,w'.cell? (add (a.add 0) 0)=some (pointer p)/\Call prog 149 [pointer p] w' fun e w'=>∃n n_1,e=Z (tuple #[I n,I n_1])/\((n_1 !=0)->R (Z (tuple #[I 0,I n_1])) w')/\((n_1 !=0)=false->∃a,x=some a/\∃p n_2 c,w'.cell? (a.add 1)=some (slice p n_2 c)/\(0<=x1/\x1<(↑n_2:Int))/\∃a,p=some a/\∃p,w'.cell? (add a (Int.toNat x1*1))=some (pointer p)/\Call prog 151 [pointer p,I n] w' fun e w'=>∃n_3,e=Z (I n_3)/\R (Z (tuple #[I n,I n_3])) w'))):=by kernel_rfl
def M188:Mt:={N:=27,keep:=kp 0 [[0,1],[0,1,8],[4],[0,9,10,11],[0,9,10,11,12],[0,6,9,10,11],[0,9,10,11,25],[4],[0,9,10,11],[4]],bk:=[(0,[]),(1,[0,9,10,11])],lk:=[(4,[0,9,10,11])],ref:=false}
noncomputable def c188:Code:=bodyOf f188
noncomputable def c188_0:Code:=c188.sr.sr.sr
noncomputable def c188_1:Code:=c188.sr.sr.sl.sr.sl.sl
def e188_1 (x x1:Option Addr) (x2 x3:Nat) (x4 x5:Int):Env:=[(0,SV.v (pointer x)),(9,SV.v (slice x1 x2 x3)),(10,SV.v (int i64 x4)),(11,SV.v (int i64 x5))]
def k188_1 (R:RT):=blockK 0 [] (SQ M188 c188_0 (Rt f188 R) (Rt f188 R))
theorem u188:UT 188 M188 c188 f188:=fun h i=>u_ func188 (by kernel_rfl) h i
theorem t188 (x x1 x2 x3 w R):den prog M188 c188 (argE 0 [(pointer x),(slice x1 x2 x3)]) w (Rt f188 R)=
((x.isNone->R (Z (I 1)) w)/\(x.isNone=false->Cut (WP prog 27 (Code.loop c188_1) (e188_1 x x1 x2 x3 (↑x2:Int) 0) w (k188_1 R)))):=by kernel_rfl
theorem t188_1 (x x1 x2 x3 x4 x5 w B188_1 R):den prog M188 c188_1 (e188_1 x x1 x2 x3 x4 x5) w (loopK B188_1 (k188_1 R))=
((decide (x5<x4)->(0<=x5/\x5<(↑x2:Int))/\∃a,x1=some a/\∃n,w.cell? (add a (Int.toNat x5*1))=some (I n)/\(decide (n<0)=false->∃a,x=some a/\∃p n_1 c,w.cell? (a.add 1)=some (slice p n_1 c)/\(decide (n>=(↑n_1:Int))->R (Z (I 3)) w)/\(decide (n>=(↑n_1:Int))=false->B188_1 [(0,SV.v (pointer x)),(9,SV.v (slice x1 x2 x3)),(10,SV.v (I x4)),(11,SV.v (I (wrap i64 (x5+1))))] w))/\(decide (n<0)->R (Z (I 3)) w))/\(decide (x5<x4)=false->R (Z (I 0)) w)):=by kernel_rfl
def M204:Mt:={N:=9,keep:=kp 0 [[0,1],[4]],ref:=false}
noncomputable def c204:Code:=bodyOf f204
theorem u204:UT 204 M204 c204 f204:=fun h i=>u_ func204 (by kernel_rfl) h i
theorem t204 (x x1 w R):den prog M204 c204 (argE 0 [(pointer x),(int i64 x1)]) w (Rt f204 R)=
(Call prog 95 [pointer x,I x1] w fun e w'=>∃p n c,e=Z (slice p n c)/\R (Z (I (↑n:Int))) w'):=by kernel_rfl
def M219:Mt:={N:=38,keep:=kp 0 [[0,1],[0,1,6],[0,1,6,14],[4,5],[0,7,8],[0,7,8,28],[4,5],[4,5]],ref:=false}
noncomputable def c219:Code:=bodyOf f219
theorem u219:UT 219 M219 c219 f219:=fun h i=>u_ func219 (by kernel_rfl) h i
theorem t219 (x x1 w R):den prog M219 c219 (argE 0 [(pointer x),(int i64 x1)]) w (Rt f219 R)=
(New w [I x1] 3 fun p w'=>Call prog 188 [pointer x,slice (some p) 1 1] w' fun e w'=>∃n,e=Z (I n)/\((n !=0)->R (Z (tuple #[I 0,I n])) w')/\((n !=0)=false->∃a,x=some a/\∃p n c,w'.cell? (a.add 1)=some (slice p n c)/\(0<=x1/\x1<(↑n:Int))/\∃a,p=some a/\∃p,w'.cell? (add a (Int.toNat x1*1))=some (pointer p)/\Call prog 304 [pointer p] w' fun e w'=>∃n n_1,e=Z (tuple #[I n,I n_1])/\((n_1 !=0)->R (Z (tuple #[I 0,I n_1])) w')/\((n_1 !=0)=false->∃a,x=some a/\∃p,w'.cell? (add (a.add 0) 0)=some (pointer p)/\Call prog 305 [pointer p,I n] w' fun e w'=>∃n_2,e=Z (I n_2)/\R (Z (tuple #[I n,I n_2])) w'))):=by kernel_rfl
def M359:Mt:={N:=46,keep:=kp 0 [[0,1,2],[0,1,2,8],[0,1,2,8,17],[6,7],[0,1,2,21],[6,7],[0,2,9,10],[0,2,9,10,34],[6,7],[6,7]],ref:=false}
noncomputable def c359:Code:=bodyOf f359
theorem u359:UT 359 M359 c359 f359:=fun h i=>u_ func359 (by kernel_rfl) h i
theorem t359 (x x1 x2 w R):den prog M359 c359 (argE 0 [(pointer x),(int i64 x1),(int i64 x2)]) w (Rt f359 R)=
(New w [I x1,I x2] 3 fun p w'=>Call prog 188 [pointer x,slice (some p) 2 2] w' fun e w'=>∃n,e=Z (I n)/\((n !=0)->R (Z (tuple #[I 0,I n])) w')/\((n !=0)=false->((x1==x2)->R (Z (tuple #[I 0,I 2])) w')/\((x1==x2)=false->∃a,x=some a/\∃p n c,w'.cell? (a.add 1)=some (slice p n c)/\(0<=x1/\x1<(↑n:Int))/\∃a,p=some a/\∃p,w'.cell? (add a (Int.toNat x1*1))=some (pointer p)/\Call prog 304 [pointer p] w' fun e w'=>∃n n_1,e=Z (tuple #[I n,I n_1])/\((n_1 !=0)->R (Z (tuple #[I 0,I n_1])) w')/\((n_1 !=0)=false->∃a,x=some a/\∃p n_2 c,w'.cell? (a.add 1)=some (slice p n_2 c)/\(0<=x2/\x2<(↑n_2:Int))/\∃a,p=some a/\∃p,w'.cell? (add a (Int.toNat x2*1))=some (pointer p)/\Call prog 151 [pointer p,I n] w' fun e w'=>∃n_3,e=Z (I n_3)/\R (Z (tuple #[I n,I n_3])) w')))):=by kernel_rfl
def M48:Mt:={N:=29,keep:=kp 0 [[0,1],[0,1,6,7],[0,1,6,22],[4,5],[4,5]],ref:=false}
noncomputable def c48:Code:=bodyOf f48
theorem u48:UT 48 M48 c48 f48:=fun h i=>u_ func48 (by kernel_rfl) h i
theorem t48 (x x1 w R):den prog M48 c48 (argE 0 [(int i64 x),(int i64 x1)]) w (Rt f48 R)=
(Call prog 111 [I x1] w fun e w'=>∃p n,e=Z (tuple #[pointer p,I n])/\((n !=0)=false->(decide (x<1)=false->(decide (x>64)->R (Z (tuple #[pointer none,I 2])) w')/\(decide (x>64)=false->∃p_1 n c w'_1,Sem.run prog (Instr.makeSlice 217 (I x) (I x)) w'=Result.ok (slice p_1 n c) w'_1/\New w'_1 [pointer p,I x1,slice p_1 n c] 219 fun p w'=>R (Z (tuple #[pointer (some p),I 0])) w'))/\(decide (x<1)->R (Z (tuple #[pointer none,I 2])) w'))/\((n !=0)->R (Z (tuple #[pointer none,I 2])) w')):=by kernel_rfl
def M155:Mt:={N:=56,keep:=kp 0 [[0,1],[0,1,6],[0,1,6,13],[4,5],[0,1],[0,1,7],[0,1,7,28],[4,5],[0,1,7,8],[8],[4,5]],ords:=[(9,[0,1,2,3,4,5,6,7,8,9,10,11,12,13,14,15,16])],ref:=false}
noncomputable def c155:Code:=bodyOf f155
theorem u155:UT 155 M155 c155 f155:=fun h i=>u_ func155 (by kernel_rfl) h i
theorem t155 (x x1 w R):den prog M155 c155 (argE 0 [(pointer x),(int i64 x1)]) w (Rt f155 R)=
(Call prog 189 [pointer x,I x1] w fun e w'=>∃n,e=Z (I n)/\((n !=0)->R (Z (tuple #[I 0,I n])) w')/\((n !=0)=false->Call prog 256 [pointer x,I x1] w' fun e w'=>e=Z (tuple #[])/\∃a,x=some a/\∃p n c,w'.cell? (a.add 2)=some (slice p n c)/\(0<=x1/\x1<(↑n:Int))/\∃a,p=some a/\∃p n c,w'.cell? (add a (Int.toNat x1*1))=some (slice p n c)/\(decide (wrap i64 ((↑n:Int)-1)<0)->R (Z (tuple #[I 0,I 5])) w')/\(decide (wrap i64 ((↑n:Int)-1)<0)=false->∃a,x=some a/\∃p n_1 c,w'.cell? (a.add 2)=some (slice p n_1 c)/\(0<=x1/\x1<(↑n_1:Int))/\∃a,p=some a/\∃p n_2 c,w'.cell? (add a (Int.toNat x1*1))=some (slice p n_2 c)/\(0<=wrap i64 ((↑n:Int)-1)/\wrap i64 ((↑n:Int)-1)<(↑n_2:Int))/\∃a,p=some a/\∃n_3,w'.cell? (add a (Int.toNat (wrap i64 ((↑n:Int)-1))*1))=some (I n_3)/\Sm w' fun w'_1=>∃a,x=some a/\∃p n_4 c,w'_1.cell? (a.add 2)=some (slice p n_4 c)/\∃a,x=some a/\∃p_1 n_5 c,w'_1.cell? (a.add 2)=some (slice p_1 n_5 c)/\(0<=x1/\x1<(↑n_5:Int))/\∃a,p_1=some a/\∃p_2 n_6 c,w'_1.cell? (add a (Int.toNat x1*1))=some (slice p_2 n_6 c)/\(0<=wrap i64 ((↑n:Int)-1)/\wrap i64 ((↑n:Int)-1)<=(↑c:Int))/\(0<=wrap i64 ((↑n:Int)-1)/\wrap i64 ((↑n:Int)-1)<=(↑(Int.toNat (wrap i64 ((↑n:Int)-1))):Int))/\(0<=x1/\x1<(↑n_4:Int))/\∃a,p=some a/\Wr w'_1 (add a (Int.toNat x1*1)) [slice (subA p_2 (Int.toNat (wrap i64 ((↑n:Int)-1))) 0 1) (Int.toNat (wrap i64 ((↑n:Int)-1))-0) (Int.toNat (wrap i64 ((↑n:Int)-1))-0)] fun w'=>R (Z (tuple #[I n_3,I 0])) w'))):=by kernel_rfl
def M156:Mt:={N:=46,keep:=kp 0 [[0,1,2],[0,1,2,7],[0,1,2,7,12],[6],[0,1,2,17],[6],[0,1,2,26],[0,1,2],[],[6]],ords:=[(8,[0,1,2,3,4,5,6,7,8,9,10,11,12,13,14,15,16])],cuts:=[(8,[0,1,2])],ref:=false}
noncomputable def c156:Code:=bodyOf f156
noncomputable def c156_0:Code:=c156.sr.sr.sr.sr
def e156_0 (x:Option Addr) (x1 x2:Int):Env:=[(0,SV.v (pointer x)),(1,SV.v (int i64 x1)),(2,SV.v (int i64 x2))]
def k156_0 (R:RT):=Rt f156 R
theorem u156:UT 156 M156 c156 f156:=fun h i=>u_ func156 (by kernel_rfl) h i
theorem t156 (x x1 x2 w R):den prog M156 c156 (argE 0 [(pointer x),(int i64 x1),(int i64 x2)]) w (Rt f156 R)=
(Call prog 189 [pointer x,I x1] w fun e w'=>∃n,e=Z (I n)/\((n !=0)->R (Z (I n)) w')/\((n !=0)=false->Call prog 257 [pointer x,I x2] w' fun e w'=>∃b,e=Z (.bool b)/\((!b)->R (Z (I 4)) w')/\((!b)=false->∃a,x=some a/\∃p n c,w'.cell? (a.add 2)=some (slice p n c)/\(0<=x1/\x1<(↑n:Int))/\∃a,p=some a/\∃p n c,w'.cell? (add a (Int.toNat x1*1))=some (slice p n c)/\(decide ((↑n:Int)>=4)->Call prog 258 [pointer x,I x1,I 2] w' fun e w'=>e=Z (tuple #[])/\CutD prog M156 c156_0 (e156_0 x x1 x2) w' (k156_0 R))/\(decide ((↑n:Int)>=4)=false->CutD prog M156 c156_0 (e156_0 x x1 x2) w' (k156_0 R))))):=by kernel_rfl
theorem t156_0 (x x1 x2 w R):den prog M156 c156_0 (e156_0 x x1 x2) w (k156_0 R)=
(Sm w fun w'=>∃a,x=some a/\∃p n c,w'.cell? (a.add 2)=some (slice p n c)/\∃a_1,x=some a_1/\∃p_1 n_1 c_1,w'.cell? (a_1.add 2)=some (slice p_1 n_1 c_1)/\(0<=x1/\x1<(↑n_1:Int))/\∃a_2,p_1=some a_2/\∃p_2 n_2 c_2,w'.cell? (add a_2 (Int.toNat x1*1))=some (slice p_2 n_2 c_2)/\New w' [I x2] 3 fun p_3 w'=>w'.cell? (add a_2 (Int.toNat x1*1))=some (slice p_2 n_2 c_2)/\w'.cell? (a_1.add 2)=some (slice p_1 n_1 c_1)/\w'.cell? (a.add 2)=some (slice p n c)/\∃p_4 n_3 c_3 w'_1,Sem.run prog (Builtin.append_ #[36,36] 36 #[slice p_2 n_2 c_2,slice (some p_3) 1 1]) w'=Result.ok (slice p_4 n_3 c_3) w'_1/\w'_1.cell? (a.add 2)=some (slice p n c)/\(0<=x1/\x1<(↑n:Int))/\∃a,p=some a/\Wr w'_1 (add a (Int.toNat x1*1)) [slice p_4 n_3 c_3] fun w'=>R (Z (I 0)) w'):=by kernel_rfl
def M189:Mt:={N:=20,keep:=kp 0 [[0,1],[0,1,5],[4],[8],[4],[4]],bk:=[(0,[])],ref:=false}
noncomputable def c189:Code:=bodyOf f189
theorem u189:UT 189 M189 c189 f189:=fun h i=>u_ func189 (by kernel_rfl) h i
theorem t189 (x x1 w R):den prog M189 c189 (argE 0 [(pointer x),(int i64 x1)]) w (Rt f189 R)=
((x.isNone->R (Z (I 1)) w)/\(x.isNone=false->(decide (x1<0)=false->∃a,x=some a/\∃p n c,w.cell? (a.add 2)=some (slice p n c)/\(decide (x1>=(↑n:Int))->R (Z (I 3)) w)/\(decide (x1>=(↑n:Int))=false->R (Z (I 0)) w))/\(decide (x1<0)->R (Z (I 3)) w))):=by kernel_rfl
def M256:Mt:={N:=44,keep:=kp 0 [[0,1,14],[0,1,15],[0,1,15,16],[0,1,4,5,15],[0,1,4,15,26],[0,1,15],[0,1,15]],ords:=[(5,[0,1,2,3,4,5,6,7,8,9,10,11,12,13,14,15,16])],bk:=[(0,[]),(1,[0,1,15])],lk:=[(2,[0,1,15])],ref:=false}
noncomputable def c256:Code:=bodyOf f256
noncomputable def c256_0:Code:=c256.sr.sr.sl.sl
def e256_0 (x:Option Addr) (x1 x2:Int):Env:=[(0,SV.v (pointer x)),(1,SV.v (int i64 x1)),(15,SV.v (int i64 x2))]
def k256_0 (R:RT):=blockK 0 [] (Rt f256 R)
theorem u256:UT 256 M256 c256 f256:=fun h i=>u_ func256 (by kernel_rfl) h i
theorem t256 (x x1 w R):den prog M256 c256 (argE 0 [(pointer x),(int i64 x1)]) w (Rt f256 R)=
(∃a,x=some a/\∃p n c,w.cell? (a.add 2)=some (slice p n c)/\(0<=x1/\x1<(↑n:Int))/\∃a,p=some a/\∃p n c,w.cell? (add a (Int.toNat x1*1))=some (slice p n c)/\(decide ((↑n:Int)>0)->R (Z (tuple #[])) w)/\(decide ((↑n:Int)>0)=false->Cut (WP prog 44 (Code.loop c256_0) (e256_0 x x1 0) w (k256_0 R)))):=by kernel_rfl
theorem t256_0 (x x1 x2 w B256_0 R):den prog M256 c256_0 (e256_0 x x1 x2) w (loopK B256_0 (k256_0 R))=
((decide (x2<2)->∃a,x=some a/\∃p,w.cell? (a.add 0)=some (pointer p)/\Call prog 326 [pointer p] w fun e w'=>∃n n_1,e=Z (tuple #[I n,I n_1])/\((n_1==0)->Sm w' fun w'_1=>∃a,x=some a/\∃p n_2 c,w'_1.cell? (a.add 2)=some (slice p n_2 c)/\∃a_1,x=some a_1/\∃p_1 n_3 c_1,w'_1.cell? (a_1.add 2)=some (slice p_1 n_3 c_1)/\(0<=x1/\x1<(↑n_3:Int))/\∃a_2,p_1=some a_2/\∃p_2 n_4 c_2,w'_1.cell? (add a_2 (Int.toNat x1*1))=some (slice p_2 n_4 c_2)/\New w'_1 [I n] 3 fun p_3 w'=>w'.cell? (add a_2 (Int.toNat x1*1))=some (slice p_2 n_4 c_2)/\w'.cell? (a_1.add 2)=some (slice p_1 n_3 c_1)/\w'.cell? (a.add 2)=some (slice p n_2 c)/\∃p_4 n c_3 w'_2,Sem.run prog (Builtin.append_ #[36,36] 36 #[slice p_2 n_4 c_2,slice (some p_3) 1 1]) w'=Result.ok (slice p_4 n c_3) w'_2/\w'_2.cell? (a.add 2)=some (slice p n_2 c)/\(0<=x1/\x1<(↑n_2:Int))/\∃a,p=some a/\Wr w'_2 (add a (Int.toNat x1*1)) [slice p_4 n c_3] fun w'=>B256_0 [(0,SV.v (pointer x)),(1,SV.v (I x1)),(15,SV.v (I (wrap i64 (x2+1))))] w')/\((n_1==0)=false->B256_0 [(0,SV.v (pointer x)),(1,SV.v (I x1)),(15,SV.v (I (wrap i64 (x2+1))))] w'))/\(decide (x2<2)=false->R (Z (tuple #[])) w)):=by kernel_rfl
def M257:Mt:={N:=24,keep:=kp 0 [[0,3],[4]],ords:=[(1,[0,1,2,3,4,5,6,7,8,9,10,11,12,13,14,15,16,17,18,19])],ref:=false}
noncomputable def c257:Code:=bodyOf f257
theorem u257:UT 257 M257 c257 f257:=fun h i=>u_ func257 (by kernel_rfl) h i
theorem t257 (x x1 w R):den prog M257 c257 (argE 0 [(pointer x),(int i64 x1)]) w (Rt f257 R)=
(New w [I x1] 3 fun p w'=>Sm w' fun w'_1=>((!x.isNone)->∃a,x=some a/\∃p_1,w'_1.cell? (a.add 0)=some (pointer p_1)/\∃n,w'_1.cell? p=some (I n)/\Call prog 327 [pointer p_1,I n] w'_1 fun e w'=>∃b,e=Z (.bool b)/\(b->∃a,x=some a/\∃p_2 n c,w'.cell? (a.add 2)=some (slice p_2 n c)/\Call prog 328 [slice p_2 n c,func (Fn.func 329) #[] #[pointer (some p)]] w' fun e w'=>∃b,e=Z (.bool b)/\R (Z (.bool !b)) w')/\(b=false->R (Z (.bool false)) w'))/\((!x.isNone)=false->R (Z (.bool false)) w'_1)):=by kernel_rfl
def M258:Mt:={N:=45,keep:=kp 0 [[0,1,2,16,17,18],[0,1,2,16,17,18,19],[0,1,2,7,16,17,18],[0,1,2,16,17,18],[0,1,2,16,17,18],[]],ords:=[(5,[0,1,2,3,4,5,6,7,8,9,10,11,12,13,14,15,16])],bk:=[(0,[0,1,2]),(1,[0,1,2,16,17,18])],cuts:=[(5,[0,1,2])],lk:=[(1,[0,1,2,16,17,18])],ref:=false}
noncomputable def c258:Code:=bodyOf f258
noncomputable def c258_0:Code:=c258.sr
noncomputable def c258_1:Code:=c258.sl.sr.sl.sl
def e258_0 (x:Option Addr) (x1 x2:Int):Env:=[(0,SV.v (pointer x)),(1,SV.v (int i64 x1)),(2,SV.v (int i64 x2))]
def e258_1 (x:Option Addr) (x1 x2:Int) (x3:Option Addr) (x4 x5:Nat) (x6 x7:Int):Env:=[(0,SV.v (pointer x)),(1,SV.v (int i64 x1)),(2,SV.v (int i64 x2)),(16,SV.v (slice x3 x4 x5)),(17,SV.v (int i64 x6)),(18,SV.v (int i64 x7))]
def k258_0 (R:RT):=Rt f258 R
def k258_1 (R:RT):=blockK 0 [0,1,2] (SQ M258 c258_0 (Rt f258 R) (Rt f258 R))
theorem u258:UT 258 M258 c258 f258:=fun h i=>u_ func258 (by kernel_rfl) h i
theorem t258 (x x1 x2 w R):den prog M258 c258 (argE 0 [(pointer x),(int i64 x1),(int i64 x2)]) w (Rt f258 R)=
(∃a,x=some a/\∃p n c,w.cell? (a.add 2)=some (slice p n c)/\(0<=x1/\x1<(↑n:Int))/\∃a,p=some a/\∃p n c,w.cell? (add a (Int.toNat x1*1))=some (slice p n c)/\(0<=x2/\x2<=(↑c:Int))/\Cut (WP prog 45 (Code.loop c258_1) (e258_1 x x1 x2 (subA p c 0 1) (Int.toNat x2-0) (c-0) (↑(Int.toNat x2-0):Int) 0) w (k258_1 R))):=by kernel_rfl
theorem t258_0 (x x1 x2 w R):den prog M258 c258_0 (e258_0 x x1 x2) w (k258_0 R)=
(Sm w fun w'=>∃a,x=some a/\∃p n c,w'.cell? (a.add 2)=some (slice p n c)/\∃a_1,x=some a_1/\∃p_1 n_1 c_1,w'.cell? (a_1.add 2)=some (slice p_1 n_1 c_1)/\(0<=x1/\x1<(↑n_1:Int))/\∃a_2,p_1=some a_2/\∃p_2 n_2 c_2,w'.cell? (add a_2 (Int.toNat x1*1))=some (slice p_2 n_2 c_2)/\(0<=x2/\x2<=(↑n_2:Int))/\Call prog 190 [slice (subA p_2 c_2 (Int.toNat x2) 1) (n_2-Int.toNat x2) (c_2-Int.toNat x2)] w' fun e w'=>∃p_3 n_3 c_3,e=Z (slice p_3 n_3 c_3)/\w'.cell? (a.add 2)=some (slice p n c)/\(0<=x1/\x1<(↑n:Int))/\∃a,p=some a/\Wr w' (add a (Int.toNat x1*1)) [slice p_3 n_3 c_3] fun w'=>R (Z (tuple #[])) w'):=by kernel_rfl
theorem t258_1 (x x1 x2 x3 x4 x5 x6 x7 w B258_1 R):den prog M258 c258_1 (e258_1 x x1 x2 x3 x4 x5 x6 x7) w (loopK B258_1 (k258_1 R))=
((decide (x7<x6)->(0<=x7/\x7<(↑x4:Int))/\∃a,x3=some a/\∃n,w.cell? (add a (Int.toNat x7*1))=some (I n)/\∃a,x=some a/\∃p,w.cell? (a.add 0)=some (pointer p)/\Call prog 330 [pointer p,I n] w fun e w'=>∃n,e=Z (I n)/\B258_1 [(0,SV.v (pointer x)),(1,SV.v (I x1)),(2,SV.v (I x2)),(16,SV.v (slice x3 x4 x5)),(17,SV.v (I x6)),(18,SV.v (I (wrap i64 (x7+1))))] w')/\(decide (x7<x6)=false->CutD prog M258 c258_0 (e258_0 x x1 x2) w (k258_0 R))):=by kernel_rfl
def M355:Mt:={N:=27,keep:=kp 0 [[0,1],[0,1,6],[0,1,6,12],[4,5],[0,1,7],[7],[4,5]],ref:=false}
noncomputable def c355:Code:=bodyOf f355
theorem u355:UT 355 M355 c355 f355:=fun h i=>u_ func355 (by kernel_rfl) h i
theorem t355 (x x1 w R):den prog M355 c355 (argE 0 [(pointer x),(int i64 x1)]) w (Rt f355 R)=
(Call prog 189 [pointer x,I x1] w fun e w'=>∃n,e=Z (I n)/\((n !=0)->R (Z (tuple #[I 0,I n])) w')/\((n !=0)=false->∃a,x=some a/\∃p n c,w'.cell? (a.add 2)=some (slice p n c)/\(0<=x1/\x1<(↑n:Int))/\∃a,p=some a/\∃p n c,w'.cell? (add a (Int.toNat x1*1))=some (slice p n c)/\Call prog 258 [pointer x,I x1,I (↑n:Int)] w' fun e w'=>e=Z (tuple #[])/\R (Z (tuple #[I (↑n:Int),I 0])) w')):=by kernel_rfl
def M328:Mt:={N:=9,keep:=kp 0 [[0,1],[4]],ref:=false}
noncomputable def c328:Code:=bodyOf f328
theorem u328:UT 328 M328 c328 f328:=fun h i=>u_ func328 (by kernel_rfl) h i
theorem t328 (x x1 x2 x3 w R):den prog M328 c328 (argE 0 [(slice x x1 x2),(func (Fn.func 329) #[] #[(pointer (some x3))])]) w (Rt f328 R)=
(Call prog 381 [slice x x1 x2,func (Fn.func 329) #[] #[pointer (some x3)]] w fun e w'=>∃n,e=Z (I n)/\R (Z (.bool (decide (n>=0)))) w'):=by kernel_rfl
def M329:Mt:={N:=7,keep:=kp 0 [[0,1],[3]],ref:=false}
noncomputable def c329:Code:=bodyOf f329
theorem u329:UT 329 M329 c329 f329:=fun h i=>u_ func329 (by kernel_rfl) h i
theorem t329 (x x1 x2 x3 w R):den prog M329 c329 (argE 0 [(slice x x1 x2),(pointer (some x3))]) w (Rt f329 R)=
(∃n,w.cell? x3=some (I n)/\Call prog 325 [slice x x1 x2,I n] w fun e w'=>∃b,e=Z (.bool b)/\R (Z (.bool b)) w'):=by kernel_rfl
def M381:Mt:={N:=19,keep:=kp 0 [[0,1],[0,1,7,8],[0,1,7,8,9],[0,1,5,7,8],[0,1,5,7,8,16],[4],[0,1,7,8],[4]],bk:=[(0,[]),(1,[0,1,7,8])],lk:=[(2,[0,1,7,8])],ref:=false}
noncomputable def c381:Code:=bodyOf f381
noncomputable def c381_0:Code:=c381.sr.sr
noncomputable def c381_1:Code:=c381.sr.sl.sr.sl.sl
def e381_1 (x:Option Addr) (x1 x2:Nat) (x3:Addr) (x4 x5:Int):Env:=[(0,SV.v (slice x x1 x2)),(1,SV.v (func (Fn.func 329) #[] #[(pointer (some x3))])),(7,SV.v (int i64 x4)),(8,SV.v (int i64 x5))]
def k381_1 (R:RT):=blockK 0 [] (SQ M381 c381_0 (Rt f381 R) (Rt f381 R))
theorem u381:UT 381 M381 c381 f381:=fun h i=>u_ func381 (by kernel_rfl) h i
theorem t381 (x x1 x2 x3 w R):den prog M381 c381 (argE 0 [(slice x x1 x2),(func (Fn.func 329) #[] #[(pointer (some x3))])]) w (Rt f381 R)=
(Cut (WP prog 19 (Code.loop c381_1) [(0,SV.v (slice x x1 x2)),(1,SV.v (func (Fn.func 329) #[] #[pointer (some x3)])),(7,SV.v (I (↑x1:Int))),(8,SV.v (I 0))] w (k381_1 R))):=by kernel_rfl
theorem t381_1 (x x1 x2 x3 x4 x5 w B381_1 R):den prog M381 c381_1 (e381_1 x x1 x2 x3 x4 x5) w (loopK B381_1 (k381_1 R))=
((decide (x5<x4)->(0<=x5/\x5<(↑x1:Int))/\∃a,x=some a/\∃p n c,w.cell? (add a (Int.toNat x5*1))=some (slice p n c)/\Call prog 329 [slice p n c,pointer (some x3)] w fun e w'=>∃b,e=Z (.bool b)/\(b->R (Z (I x5)) w')/\(b=false->B381_1 [(0,SV.v (slice x x1 x2)),(1,SV.v (func (Fn.func 329) #[] #[pointer (some x3)])),(7,SV.v (I x4)),(8,SV.v (I (wrap i64 (x5+1))))] w'))/\(decide (x5<x4)=false->R (Z (I (-1:Int))) w)):=by kernel_rfl
def M111:Mt:={N:=13,keep:=kp 0 [[0],[0,9],[2,3],[2,3]],ref:=false}
noncomputable def c111:Code:=bodyOf f111
theorem u111:UT 111 M111 c111 f111:=fun h i=>u_ func111 (by kernel_rfl) h i
theorem t111 (x w R):den prog M111 c111 (argE 0 [(int i64 x)]) w (Rt f111 R)=
((decide (x<1)=false->(decide (x>12)->R (Z (tuple #[pointer none,I 2])) w)/\(decide (x>12)=false->New w [int IntKind.u8 0,int IntKind.u8 0,int IntKind.u8 0,int IntKind.u8 0,int IntKind.u8 0,int IntKind.u8 0,int IntKind.u8 0,int IntKind.u8 0,int IntKind.u8 0,int IntKind.u8 0,int IntKind.u8 0,int IntKind.u8 0,I x] 298 fun p w'=>R (Z (tuple #[pointer (some p),I 0])) w'))/\(decide (x<1)->R (Z (tuple #[pointer none,I 2])) w)):=by kernel_rfl
def M326:Mt:={N:=41,keep:=kp 0 [[0],[0,7],[2,3],[0,4],[0,4,11],[0,4],[0,4,15],[2,3],[0,4,5],[4,5],[2,3]],ords:=[(9,[0,1,2,3,4,5,6,7,8,9,10,11,12])],cuts:=[(6,[0,4])],ref:=false}
noncomputable def c326:Code:=bodyOf f326
noncomputable def c326_0:Code:=c326.sr.sr.sr.sr
def e326_0 (x:Option Addr) (x1:Int):Env:=[(0,SV.v (pointer x)),(4,SV.v (int i64 x1))]
def k326_0 (R:RT):=Rt f326 R
theorem u326:UT 326 M326 c326 f326:=fun h i=>u_ func326 (by kernel_rfl) h i
theorem t326 (x w R):den prog M326 c326 (argE 0 [(pointer x)]) w (Rt f326 R)=
((x.isNone->R (Z (tuple #[I 0,I 1])) w)/\(x.isNone=false->Call prog 376 [pointer x,func (Fn.func 377) #[] #[]] w fun e w'=>∃n,e=Z (I n)/\(decide (n<0)->Call prog 376 [pointer x,func (Fn.func 378) #[] #[]] w' fun e w'=>∃n,e=Z (I n)/\CutD prog M326 c326_0 (e326_0 x n) w' (k326_0 R))/\(decide (n<0)=false->CutD prog M326 c326_0 (e326_0 x n) w' (k326_0 R)))):=by kernel_rfl
theorem t326_0 (x x1 w R):den prog M326 c326_0 (e326_0 x x1) w (k326_0 R)=
((decide (x1<0)->R (Z (tuple #[I 0,I 5])) w)/\(decide (x1<0)=false->∃a,x=some a/\(0<=x1/\x1<(↑12:Int))/\∃n,w.cell? (add (a.add 0) (Int.toNat x1*1))=some (int IntKind.u8 n)/\Call prog 379 [int IntKind.u8 (bitsOp BinOp.xor IntKind.u8 (match false with|true=>(-1:Int)|false=>IntKind.max IntKind.u8) n)] w fun e w'=>∃n,e=Z (I n)/\Sm w' fun w'_1=>∃a,x=some a/\(0<=x1/\x1<(↑12:Int))/\∃n_1,w'_1.cell? (add (a.add 0) (Int.toNat x1*1))=some (int IntKind.u8 n_1)/\0<=n/\∃a,x=some a/\(0<=x1/\x1<(↑12:Int))/\Wr w'_1 (add (a.add 0) (Int.toNat x1*1)) [int IntKind.u8 (bitsOp BinOp.or IntKind.u8 n_1 (shlOp IntKind.u8 1 n))] fun w'=>R (Z (tuple #[I (wrap i64 (wrap i64 (wrap i64 (x1*8)+n)+1)),I 0])) w')):=by kernel_rfl
def M327:Mt:={N:=26,keep:=kp 0 [[0,1],[0,5,6],[4]],ref:=false}
noncomputable def c327:Code:=bodyOf f327
theorem u327:UT 327 M327 c327 f327:=fun h i=>u_ func327 (by kernel_rfl) h i
theorem t327 (x x1 w R):den prog M327 c327 (argE 0 [(pointer x),(int i64 x1)]) w (Rt f327 R)=
(Call prog 380 [pointer x,I x1] w fun e w'=>∃n n_1,e=Z (tuple #[I n,int IntKind.u8 n_1])/\((n_1 !=0)->∃a,x=some a/\(0<=n/\n<(↑12:Int))/\∃n_2,w'.cell? (add (a.add 0) (Int.toNat n*1))=some (int IntKind.u8 n_2)/\R (Z (.bool (bitsOp BinOp.and IntKind.u8 n_2 n_1 !=0))) w')/\((n_1 !=0)=false->R (Z (.bool false)) w')):=by kernel_rfl
def M330:Mt:={N:=32,keep:=kp 0 [[0,1],[0,1,7],[4],[0,1,10],[4],[0,5,6],[],[4]],ords:=[(6,[0,1,2,3,4,5,6,7,8,9,10,11])],bk:=[(0,[0,1])],ref:=false}
noncomputable def c330:Code:=bodyOf f330
theorem u330:UT 330 M330 c330 f330:=fun h i=>u_ func330 (by kernel_rfl) h i
theorem t330 (x x1 w R):den prog M330 c330 (argE 0 [(pointer x),(int i64 x1)]) w (Rt f330 R)=
((x.isNone->R (Z (I 1)) w)/\(x.isNone=false->Call prog 327 [pointer x,I x1] w fun e w'=>∃b,e=Z (.bool b)/\((!b)->R (Z (I 4)) w')/\((!b)=false->Call prog 380 [pointer x,I x1] w' fun e w'=>∃n n_1,e=Z (tuple #[I n,int IntKind.u8 n_1])/\Sm w' fun w'_1=>∃a,x=some a/\(0<=n/\n<(↑12:Int))/\∃n_2,w'_1.cell? (add (a.add 0) (Int.toNat n*1))=some (int IntKind.u8 n_2)/\∃a,x=some a/\(0<=n/\n<(↑12:Int))/\Wr w'_1 (add (a.add 0) (Int.toNat n*1)) [int IntKind.u8 (bitsOp BinOp.andNot IntKind.u8 n_2 n_1)] fun w'=>R (Z (I 0)) w'))):=by kernel_rfl
def M376:Mt:={N:=23,keep:=kp 0 [[0,1],[0,1,9,10],[0,1,9,10,11],[0,1,5,9,10],[0,1,5,9,10,20],[4],[0,1,9,10],[4]],bk:=[(0,[]),(1,[0,1,9,10])],lk:=[(2,[0,1,9,10])],ref:=false}
noncomputable def c376:Code:=bodyOf f376
noncomputable def c376_0:Code:=c376.sr.sr
noncomputable def c376_1:Code:=c376.sr.sl.sr.sl.sl
def e376_1 (x:Option Addr) (x1 x2:Int):Env:=[(0,SV.v (pointer x)),(1,SV.v (func (Fn.func 377) #[] #[])),(9,SV.v (int i64 x1)),(10,SV.v (int i64 x2))]
def k376_1 (R:RT):=blockK 0 [] (SQ M376 c376_0 (Rt f376 R) (Rt f376 R))
theorem u376:UT 376 M376 c376 f376:=fun h i=>u_ func376 (by kernel_rfl) h i
theorem t376 (x w R):den prog M376 c376 (argE 0 [(pointer x),(func (Fn.func 377) #[] #[])]) w (Rt f376 R)=
(∃a,x=some a/\∃n,w.cell? (a.add 12)=some (I n)/\Cut (WP prog 23 (Code.loop c376_1) [(0,SV.v (pointer x)),(1,SV.v (func (Fn.func 377) #[] #[])),(9,SV.v (I n)),(10,SV.v (I 0))] w (k376_1 R))):=by kernel_rfl
theorem t376_1 (x x1 x2 w B376_1 R):den prog M376 c376_1 (e376_1 x x1 x2) w (loopK B376_1 (k376_1 R))=
((decide (x2<x1)->∃a,x=some a/\(0<=x2/\x2<(↑12:Int))/\∃n,w.cell? (add (a.add 0) (Int.toNat x2*1))=some (int IntKind.u8 n)/\Call prog 377 [int IntKind.u8 n] w fun e w'=>∃b,e=Z (.bool b)/\(b->R (Z (I x2)) w')/\(b=false->B376_1 [(0,SV.v (pointer x)),(1,SV.v (func (Fn.func 377) #[] #[])),(9,SV.v (I x1)),(10,SV.v (I (wrap i64 (x2+1))))] w'))/\(decide (x2<x1)=false->R (Z (I (-1:Int))) w)):=by kernel_rfl
def M377:Mt:={N:=9,keep:=kp 0 [[0],[2]],ref:=false}
noncomputable def c377:Code:=bodyOf f377
theorem u377:UT 377 M377 c377 f377:=fun h i=>u_ func377 (by kernel_rfl) h i
theorem t377 (x w R):den prog M377 c377 (argE 0 [(int IntKind.u8 x)]) w (Rt f377 R)=
(((x !=0)->R (Z (.bool (x !=255))) w)/\((x !=0)=false->R (Z (.bool false)) w)):=by kernel_rfl
def M378:Mt:={N:=5,keep:=kp 0 [[0],[2]],ref:=false}
noncomputable def c378:Code:=bodyOf f378
theorem u378:UT 378 M378 c378 f378:=fun h i=>u_ func378 (by kernel_rfl) h i
theorem t378 (x w R):den prog M378 c378 (argE 0 [(int IntKind.u8 x)]) w (Rt f378 R)=
(R (Z (.bool (x==0))) w):=by kernel_rfl
def M379:Mt:={N:=6,keep:=kp 0 [[0],[2]],ref:=false}
noncomputable def c379:Code:=bodyOf f379
theorem u379:UT 379 M379 c379 f379:=fun h i=>u_ func379 (by kernel_rfl) h i
theorem t379 (x w R):den prog M379 c379 (argE 0 [(int IntKind.u8 x)]) w (Rt f379 R)=
((0<=x/\x<(↑256:Int))/\∃c,(∃u,(ByteArray.mk #[8,0,1,0,2,0,1,0,3,0,1,0,2,0,1,0,4,0,1,0,2,0,1,0,3,0,1,0,2,0,1,0,5,0,1,0,2,0,1,0,3,0,1,0,2,0,1,0,4,0,1,0,2,0,1,0,3,0,1,0,2,0,1,0,6,0,1,0,2,0,1,0,3,0,1,0,2,0,1,0,4,0,1,0,2,0,1,0,3,0,1,0,2,0,1,0,5,0,1,0,2,0,1,0,3,0,1,0,2,0,1,0,4,0,1,0,2,0,1,0,3,0,1,0,2,0,1,0,7,0,1,0,2,0,1,0,3,0,1,0,2,0,1,0,4,0,1,0,2,0,1,0,3,0,1,0,2,0,1,0,5,0,1,0,2,0,1,0,3,0,1,0,2,0,1,0,4,0,1,0,2,0,1,0,3,0,1,0,2,0,1,0,6,0,1,0,2,0,1,0,3,0,1,0,2,0,1,0,4,0,1,0,2,0,1,0,3,0,1,0,2,0,1,0,5,0,1,0,2,0,1,0,3,0,1,0,2,0,1,0,4,0,1,0,2,0,1,0,3,0,1,0,2,0,1,0])[Int.toNat x]?=some u/\(↑(UInt8.toNat u):Int)=c)/\R (Z (I (wrap i64 c))) w):=by kernel_rfl
def M380:Mt:={N:=28,keep:=kp 0 [[0,1],[1,20],[4,5],[4,5]],ords:=[(3,[0,1,2,3,4,5,6,7,8])],ref:=false}
noncomputable def c380:Code:=bodyOf f380
theorem u380:UT 380 M380 c380 f380:=fun h i=>u_ func380 (by kernel_rfl) h i
theorem t380 (x x1 w R):den prog M380 c380 (argE 0 [(pointer x),(int i64 x1)]) w (Rt f380 R)=
((x.isNone=false->(decide (x1<1)=false->∃a,x=some a/\∃n,w.cell? (a.add 12)=some (I n)/\(decide (x1>wrap i64 (n*8))->R (Z (tuple #[I 0,int IntKind.u8 0])) w)/\(decide (x1>wrap i64 (n*8))=false->Sm w fun w'=>(8:Int)≠0/\(8:Int)≠0/\0<=Int.tmod (wrap i64 (x1-1)) 8/\R (Z (tuple #[I (wrap i64 (Int.tdiv (wrap i64 (x1-1)) 8)),int IntKind.u8 (shlOp IntKind.u8 1 (Int.tmod (wrap i64 (x1-1)) 8))])) w'))/\(decide (x1<1)->R (Z (tuple #[I 0,int IntKind.u8 0])) w))/\(x.isNone->R (Z (tuple #[I 0,int IntKind.u8 0])) w)):=by kernel_rfl
def M118:Mt:={N:=23,keep:=kp 0 [[0,1],[0,1,5],[4],[0,1,8],[4],[],[4]],bk:=[(0,[0,1])],ref:=false}
noncomputable def c118:Code:=bodyOf f118
theorem u118:UT 118 M118 c118 f118:=fun h i=>u_ func118 (by kernel_rfl) h i
theorem t118 (x x1 w R):den prog M118 c118 (argE 0 [(pointer x),(int i64 x1)]) w (Rt f118 R)=
((x.isNone->R (Z (I 1)) w)/\(x.isNone=false->Call prog 202 [pointer x,I x1] w fun e w'=>∃b,e=Z (.bool b)/\((!b)->R (Z (I 6)) w')/\((!b)=false->∃a,x=some a/\∃n,w'.cell? (a.add 1)=some (int .u64 n)/\New w' [I x1] 3 fun p w'=>Call prog 179 [int .u64 n,slice (some p) 1 1] w' fun e w'=>∃n,e=Z (int .u64 n)/\∃a,x=some a/\Wr w' (a.add 1) [int .u64 n] fun w'=>R (Z (I 0)) w'))):=by kernel_rfl
def M202:Mt:={N:=12,keep:=kp 0 [[0,1],[1,5],[4]],ref:=false}
noncomputable def c202:Code:=bodyOf f202
theorem u202:UT 202 M202 c202 f202:=fun h i=>u_ func202 (by kernel_rfl) h i
theorem t202 (x x1 w R):den prog M202 c202 (argE 0 [(pointer x),(int i64 x1)]) w (Rt f202 R)=
(Call prog 292 [pointer x] w fun e w'=>∃n,e=Z (int .u64 n)/\Call prog 23 [int .u64 n,I x1] w' fun e w'=>∃b,e=Z (.bool b)/\R (Z (.bool b)) w'):=by kernel_rfl
def M203:Mt:={N:=15,keep:=kp 0 [[0,1],[4]],ref:=false}
noncomputable def c203:Code:=bodyOf f203
theorem u203:UT 203 M203 c203 f203:=fun h i=>u_ func203 (by kernel_rfl) h i
theorem t203 (x x1 w R):den prog M203 c203 (argE 0 [(pointer x),(int i64 x1)]) w (Rt f203 R)=
(((!x.isNone)->∃a,x=some a/\∃n,w.cell? (a.add 1)=some (int .u64 n)/\Call prog 23 [int .u64 n,I x1] w fun e w'=>∃b,e=Z (.bool b)/\R (Z (.bool b)) w')/\((!x.isNone)=false->R (Z (.bool false)) w)):=by kernel_rfl
def M292:Mt:={N:=14,keep:=kp 0 [[0],[0,4],[2],[2]],ords:=[(3,[0,1,2,3,4,5,6,7,8,9])],ref:=false}
noncomputable def c292:Code:=bodyOf f292
theorem u292:UT 292 M292 c292 f292:=fun h i=>u_ func292 (by kernel_rfl) h i
theorem t292 (x w R):den prog M292 c292 (argE 0 [(pointer x)]) w (Rt f292 R)=
((x.isNone->R (Z (int .u64 0)) w)/\(x.isNone=false->Sm w fun w'=>∃a,x=some a/\∃n,w'.cell? (a.add 0)=some (int .u64 n)/\∃a,x=some a/\∃n_1,w'.cell? (a.add 1)=some (int .u64 n_1)/\Call prog 353 [int .u64 n,int .u64 n_1] w' fun e w'=>∃n,e=Z (int .u64 n)/\R (Z (int .u64 n)) w')):=by kernel_rfl
def M388:Mt:={N:=12,keep:=kp 0 [[0],[2]],ref:=false}
noncomputable def c388:Code:=bodyOf f388
theorem u388:UT 388 M388 c388 f388:=fun h i=>u_ func388 (by kernel_rfl) h i
theorem t388 (x w R):den prog M388 c388 (argE 0 [(pointer x)]) w (Rt f388 R)=
(((!x.isNone)->∃a,x=some a/\∃n,w.cell? (a.add 0)=some (int .u64 n)/\R (Z (.bool (n !=0))) w)/\((!x.isNone)=false->R (Z (.bool false)) w)):=by kernel_rfl
def M389:Mt:={N:=21,keep:=kp 0 [[0,1],[0,1,5],[4],[0,1,8],[4],[0,1,11],[4],[],[4]],bk:=[(0,[0,1])],ref:=false}
noncomputable def c389:Code:=bodyOf f389
theorem u389:UT 389 M389 c389 f389:=fun h i=>u_ func389 (by kernel_rfl) h i
theorem t389 (x x1 w R):den prog M389 c389 (argE 0 [(pointer x),(int .u64 x1)]) w (Rt f389 R)=
((x.isNone->R (Z (I 1)) w)/\(x.isNone=false->Call prog 388 [pointer x] w fun e w'=>∃b,e=Z (.bool b)/\(b->R (Z (I 7)) w')/\(b=false->((x1==0)->R (Z (I 2)) w')/\((x1==0)=false->∃a,x=some a/\Wr w' (a.add 0) [int .u64 x1] fun w'=>∃a,x=some a/\Wr w' (a.add 1) [int .u64 0] fun w'=>R (Z (I 0)) w')))):=by kernel_rfl
def M390:Mt:={N:=10,keep:=kp 0 [[0],[2]],ref:=false}
noncomputable def c390:Code:=bodyOf f390
theorem u390:UT 390 M390 c390 f390:=fun h i=>u_ func390 (by kernel_rfl) h i
theorem t390 (x w R):den prog M390 c390 (argE 0 [(pointer x)]) w (Rt f390 R)=
(Call prog 388 [pointer x] w fun e w'=>∃b,e=Z (.bool b)/\(b->Call prog 292 [pointer x] w' fun e w'=>∃n,e=Z (int .u64 n)/\R (Z (.bool (n==0))) w')/\(b=false->R (Z (.bool false)) w')):=by kernel_rfl
def M391:Mt:={N:=16,keep:=kp 0 [[0],[0,3],[2],[0,6],[2],[],[2]],bk:=[(0,[0])],ref:=false}
noncomputable def c391:Code:=bodyOf f391
theorem u391:UT 391 M391 c391 f391:=fun h i=>u_ func391 (by kernel_rfl) h i
theorem t391 (x w R):den prog M391 c391 (argE 0 [(pointer x)]) w (Rt f391 R)=
((x.isNone->R (Z (I 1)) w)/\(x.isNone=false->Call prog 388 [pointer x] w fun e w'=>∃b,e=Z (.bool b)/\((!b)->R (Z (I 6)) w')/\((!b)=false->∃a,x=some a/\Wr w' (a.add 0) [int .u64 0] fun w'=>∃a,x=some a/\Wr w' (a.add 1) [int .u64 0] fun w'=>R (Z (I 0)) w'))):=by kernel_rfl
end Go.Dav
