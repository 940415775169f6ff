/- What functions of the program come to, part 1; the texts are made small to keep within a claim. -/
import Derived.Tactics
import Derived.Orders
import Derived.KernelRfl
import Derived.Laws.Cells
import Derived.Laws.CopyRow
import Derived.Laws.Sem
import Derived.Laws.World
import Derived.Laws.NewBlocks
import Derived.Laws.Small
import Derived.Laws.Pointers
import Derived.Scope
import Derived.Laws.Cover3
import Derived.Test.YtobclpijhmkniaaGreatDoorProg
set_option linter.unusedVariables false
set_option linter.unusedSimpArgs false
set_option linter.unusedSectionVars false
namespace Go.Dav
inductive SV where
 | un
 | v (x:Value)
 | b (x:Bool)
def SV.val?:SV->Option Value
 | .un=>none
 | .v x=>some x
 | .b x=>some (.bool x)
def SV.val:SV->Value
 | .un=>undef
 | .v x=>x
 | .b x=>.bool x
abbrev Env:=List (Nat×SV)
def Env.get:Env->Nat->SV
 | [],_=>.un
 | (k,x)::E,t=>match Nat.beq k t with
  | true=>x
  | false=>Env.get E t
def Env.put:Env->Nat->SV->Env
 | [],t,x=>[(t,x)]
 | (k,y)::E,t,x=>match Nat.beq k t with
  | true=>(k,x)::E
  | false=>(k,y)::Env.put E t x
def Env.keep (E:Env):List Nat->Env
 | []=>[]
 | k::ks=>(k,E.get k)::Env.keep E ks
theorem Env.zF (E:Env) (t:Nat) (x:SV) (s:Nat):(E.put t x).get s=if s=t then x else E.get s:=by
 induction E with
 | nil=>
  simp only[Env.put,Env.get]
  cases h:Nat.beq t s with
  | true=>simp[(Nat.eq_of_beq_eq_true h).symm]
  | false=>rw[if_neg (fun e=>by rw[e,Nat.beq_refl]at h;cases h)]
 | cons p E ih=>
  obtain⟨k,y⟩:=p;simp only[Env.put]
  cases h:Nat.beq k t with
  | true=>
   have hk:=Nat.eq_of_beq_eq_true h;subst hk;simp only[Env.get]
   cases h2:Nat.beq k s with
   | true=>simp[(Nat.eq_of_beq_eq_true h2).symm]
   | false=>rw[if_neg (fun e=>by rw[e,Nat.beq_refl]at h2;cases h2)]
  | false=>
   simp only[Env.get]
   cases h2:Nat.beq k s with
   | true=>
    have hk:=Nat.eq_of_beq_eq_true h2;subst hk
    rw[if_neg (fun e=>by rw[e,Nat.beq_refl]at h;cases h)]
   | false=>simpa using ih
theorem Env.abn (E:Env) (ks:List Nat) (t:Nat) (x:Value) (h:((E.keep ks).get t).val?=some x):(E.get t).val?=some x:=by
 induction ks with
 | nil=>simp[Env.keep,Env.get,SV.val?]at h
 | cons k ks ih=>
  simp only[Env.keep,Env.get]at h
  cases h2:Nat.beq k t with
  | true=>rw[h2]at h;rw[<-Nat.eq_of_beq_eq_true h2];exact h
  | false=>rw[h2]at h;exact ih h
def ba (E:Env):Operand->SV
 | .tmp t=>E.get t
 | .const (.bool b)=>.b b
 | .const v=>.v v
 | .global g=>.v (.pointer (some ⟨g,0,none⟩))
 | .func f=>.v (.func (.func f) #[] #[])
structure aX (N:Nat) (E:Env) (a:Act):Prop where
 size:a.tmps.size=N
 gx:a.defers=[]
 jI:∀t x,(E.get t).val?=some x->a.tmps[t]?=some x
def Reads (E:Env) (o:Oper) (a:Act):Prop:=∀x∈o.op.operands,∀v,(ba E x).val?=some v->a.eval x=v
theorem aX.ev {N:Nat} {E:Env} {a:Act} (h:aX N E a) (x:Operand) (v:Value) (hv:(ba E x).val?=some v):a.eval x=v:=by
 cases x with
 | tmp t=>
  have:=h.jI t v hv
  simp[Act.eval,Array.getD_eq_getD_getElem?,this]
 | const c=>cases c<;>simp_all [ba,SV.val?,Act.eval]
 | global g=>simpa [ba,SV.val?,Act.eval]using hv
 | func f=>simpa [ba,SV.val?,Act.eval]using hv
theorem aX.reads {N:Nat} {E:Env} {a:Act} (h:aX N E a) (o:Oper):Reads E o a:=fun x _ v hv=>h.ev x v hv
theorem aX.keep {N:Nat} {E:Env} {a:Act} (h:aX N E a) (ks:List Nat):aX N (E.keep ks) a:=
 ⟨h.size,h.gx,fun t x hx=>h.jI t x (Env.abn E ks t x hx)⟩
theorem aX.put {N:Nat} {E:Env} {a:Act} (h:aX N E a) (d:Nat) (hd:d<N) (s:SV):aX N (E.put d s) (a.put (some d) s.val):=by
 refine⟨by simpa [Act.put]using h.size,h.gx,fun t x hx=>?_⟩;rw[Env.zF]at hx;by_cases ht:t=d
 ·subst ht;rw[if_pos rfl]at hx;have hv:s.val=x:=by cases s<;>simp_all [SV.val?,SV.val]
  simp only[Act.put,Array.getElem?_setIfInBounds,h.size];simp[hd,hv]
 ·rw[if_neg ht]at hx;simp only[Act.put];rw[Array.getElem?_setIfInBounds_ne (fun e=>ht e.symm)];exact h.jI t x hx
theorem aX.WV {N:Nat} {E:Env} {a:Act} (h:aX N E a) (t:Nat) (b:Bool) (hv:(E.get t).val?=some (.bool b)):aX N (E.put t (.b b)) a:=by
 refine⟨h.size,h.gx,fun s x hx=>?_⟩;rw[Env.zF]at hx;by_cases hs:s=t
 ·subst hs;rw[if_pos rfl]at hx;simp only[SV.val?,Option.some.injEq]at hx;subst hx;exact h.jI s _ hv
 ·rw[if_neg hs]at hx;exact h.jI s x hx
def bZ (s:SV) (F:Value->Prop):Prop:=match s with
 | .un=>False
 | .v x=>F x
 | .b x=>F (.bool x)
def o7 (x:Value) (F:Addr->Prop):Prop:=match x with
 | .pointer (some a)=>F a
 | _=>False
def rH (x:Value) (F:IntKind->Int->Prop):Prop:=match x with
 | .int k n=>F k n
 | _=>False
theorem cf {s:SV} {F:Value->Prop} (h:bZ s F):∃v,s.val?=some v/\s.val=v/\F v:=by
 cases s with
 | un=>exact h.elim
 | v x=>exact⟨x,rfl,rfl,h⟩
 | b x=>exact⟨_,rfl,rfl,h⟩
inductive Ty where
 | int (k:IntKind)
 | bool|ptr|sl|map|str
 | agg (l:List Ty)
 | Xs (l:List Ty)
 | any
def ux:Value->Ty
 | .int k _=>.int k
 | .bool _=>.bool
 | .pointer _=>.ptr
 | .slice _ _ _=>.sl
 | .map _=>.map
 | .string _=>.str
 | _=>.any
def Xt:Value->Ty
 | .agg cs=>.agg (cs.toList.map ux)
 | v=>ux v
def aih:Value->Ty
 | .tuple vs=>.Xs (vs.toList.map Xt)
 | v=>Xt v
def rj:Ty->(Value->Prop)->Prop
 | .int k,F=>∃n:Int,F (.int k n)
 | .bool,F=>∃b:Bool,F (.bool b)
 | .ptr,F=>∃p:Option Addr,F (.pointer p)
 | .sl,F=>∃(p:Option Addr) (n c:Nat),F (.slice p n c)
 | .map,F=>∃r:Option Nat,F (.map r)
 | .str,F=>∃s:ByteArray,F (.string s)
 | _,F=>∃v:Value,F v
def zy:List Ty->(List Value->Prop)->Prop
 | [],F=>F []
 | t::ts,F=>rj t fun v=>zy ts fun vs=>F (v::vs)
def zx:Ty->(Value->Prop)->Prop
 | .agg ts,F=>match Nat.ble ts.length 15 with
  | true=>zy ts fun vs=>F (.agg vs.toArray)
  | false=>∃cs:List Value,cs.length=ts.length/\F (.agg cs.toArray)
 | t,F=>rj t F
def DD:List Ty->(List Value->Prop)->Prop
 | [],F=>F []
 | t::ts,F=>zx t fun v=>DD ts fun vs=>F (v::vs)
def s8:Ty->(Value->Prop)->Prop
 | .Xs ts,F=>DD ts fun vs=>F (.tuple vs.toArray)
 | t,F=>zx t F
theorem vU {t:Ty} {F:Value->Prop} (h:rj t F):∃v,F v:=by
 cases t<;>simp only[rj]at h
 case sl=>obtain⟨p,n,c,h⟩:=h;exact⟨_,h⟩
 all_goals (obtain⟨n,h⟩:=h;exact⟨_,h⟩)
theorem DE:∀{ts:List Ty} {F:List Value->Prop},zy ts F->∃vs,vs.length=ts.length/\F vs
 | [],_,h=>⟨[],rfl,h⟩
 | _::_,_,h=>by
  obtain⟨v,h⟩:=vU h;obtain⟨vs,hl,h⟩:=DE h;exact⟨v::vs,by simp[hl],h⟩
theorem Sw {t:Ty} {F:Value->Prop} (h:zx t F):∃v,F v:=by
 unfold zx at h;split at h
 ·split at h
  ·obtain⟨vs,_,h⟩:=DE h;exact⟨_,h⟩
  ·obtain⟨cs,_,h⟩:=h;exact⟨_,h⟩
 ·exact vU h
theorem Sy:∀{ts:List Ty} {F:List Value->Prop},DD ts F->∃vs,F vs
 | [],_,h=>⟨[],h⟩
 | _::_,_,h=>by
  obtain⟨v,h⟩:=Sw h;obtain⟨vs,h⟩:=Sy h;exact⟨v::vs,h⟩
theorem oO {t:Ty} {F:Value->Prop} (h:s8 t F):∃v,F v:=by
 unfold s8 at h;split at h
 ·obtain⟨vs,h⟩:=Sy h;exact⟨_,h⟩
 ·exact Sw h
def zv (P:Program) (t:TypeId):Value:=((P.info? t).bind (·.zero)).getD undef
def zc (P:Program) (t:TypeId):List Value:=(zv P t).cells.toList
def pC (P:Program) (t:TypeId):Ty:=aih (zv P t)
def bg (P:Program) (t:TypeId):Nat:=P.cellsOf t
def ij (P:Program) (t:TypeId):Bool:=match P.underlying t with
 | some (.struct _)|some (.array _ _)=>true
 | _=>false
def cF (P:Program) (t:TypeId):Bool:=(P.info? t).isSome&&(P.underlying t).isSome
def rG (P:Program) (t:TypeId):Bool:=((P.info? t).bind (·.zero)).isSome
section runs
variable {P:Program} {w:World}
theorem dF {t:TypeId} {d:TypeDesc} (h:P.underlying t=some d):(underlying t).run P w=.ok d w:=by
 simp[underlying,h]
theorem j7 {t:TypeId} (h:cF P t=true):(sizeOf t).run P w=.ok (bg P t) w:=by
 simp only[cF,Bool.and_eq_true]at h;obtain⟨i,hi⟩:=Option.isSome_iff_exists.1 h.1;simp[sizeOf,typeInfo,hi,bg,Program.cellsOf]
theorem uc {t:TypeId} (h:cF P t=true):(isAgg t).run P w=.ok (ij P t) w:=by
 simp only[cF,Bool.and_eq_true]at h;obtain⟨d,hd⟩:=Option.isSome_iff_exists.1 h.2;simp only[isAgg,ij,hd,Sem.run_bind,dF hd,Result.andThen_ok];cases d<;>rfl
theorem rM {t:TypeId} (h:rG P t=true):(zeroValue t).run P w=.ok (zv P t) w:=by
 simp only[rG]at h;obtain⟨z,hz⟩:=Option.isSome_iff_exists.1 h;obtain⟨i,hi,hz2⟩:=Option.bind_eq_some_iff.1 hz;simp[zeroValue,typeInfo,hi,hz2,zv]
end runs
def wD (s:SV) (K:SV->Prop):Prop:=match s with
 | .un=>False
 | .v x=>K (.v x)
 | .b x=>K (.b x)
def EH (c x y:SV) (K:SV->Prop):Prop:=match c with
 | .b true=>wD x K
 | .b false=>wD y K
 | .v (.bool c)=>bZ x fun x=>bZ y fun y=>K (.v (match c with|true=>x|false=>y))
 | _=>False
def VM (x:Value) (K:SV->Prop):Prop:=match x with
 | .pointer p=>∃a,p=some a/\K (.v (.pointer (some a)))
 | .func (.func f) a b=>K (.v (.func (.func f) a b))
 | _=>False
def aw (op:BinOp) (k:IntKind) (a b:Int):Int:=
 let x:=BitVec.ofInt k.bits a
 let y:=BitVec.ofInt k.bits b
 match op with
 | .and=>k.wrap (x&&& y).toNat
 | .or=>k.wrap (x||| y).toNat
 | .xor=>k.wrap (x ^^^ y).toNat
 | _=>k.wrap (x&&& ~~~y).toNat
def dq (k:IntKind) (a b:Int):Int:=k.wrap (a*2 ^ (min b.toNat k.bits))
def aC (k:IntKind) (a b:Int):Int:=a.fdiv (2 ^ (min b.toNat k.bits))
def D2 (op:BinOp) (k k':IntKind) (a b:Int) (K:SV->Prop):Prop:=
 match op with
 | .shl=>0<=b/\K (.v (.int k (dq k a b)))
 | .shr=>0<=b/\K (.v (.int k (aC k a b)))
 | op=>match decide (k=k')with
  | false=>False
  | true=>match op with
   | .add=>K (.v (.int k (k.wrap (a+b))))
   | .sub=>K (.v (.int k (k.wrap (a-b))))
   | .mul=>K (.v (.int k (k.wrap (a*b))))
   | .quo=>b≠0/\K (.v (.int k (k.wrap (a.tdiv b))))
   | .rem=>b≠0/\K (.v (.int k (a.tmod b)))
   | .and=>K (.v (.int k (aw .and k a b)))
   | .or=>K (.v (.int k (aw .or k a b)))
   | .xor=>K (.v (.int k (aw .xor k a b)))
   | .andNot=>K (.v (.int k (aw .andNot k a b)))
   | .eql=>K (.v (.bool (a==b)))
   | .neq=>K (.v (.bool (a !=b)))
   | .lss=>K (.v (.bool (decide (a<b))))
   | .leq=>K (.v (.bool (decide (a<=b))))
   | .gtr=>K (.v (.bool (decide (a>b))))
   | .geq=>K (.v (.bool (decide (a>=b))))
   | _=>False
def ri (op:BinOp) (b:Bool) (K:SV->Prop):Prop:=match op with
 | .eql=>K (.v (.bool b))
 | .neq=>K (.v (.bool (!b)))
 | _=>False
def BT (P:Program) (w:World) (op:BinOp) (t:TypeId) (x y:Value) (K:SV->Prop):Prop:=
 match x with
 | .int k a=>match y with
  | .int k' b=>D2 op k k' a b K
  | _=>False
 | .bool a=>match y with
  | .bool b=>match P.underlying t with
   | some .bool=>ri op (a==b) K
   | _=>False
  | _=>False
 | .pointer p=>match y with
  | .pointer none=>match P.underlying t with
   | some (.pointer _)=>ri op p.isNone K
   | _=>False
  | _=>False
 | .slice p _ _=>match y with
  | .slice none 0 0=>match P.underlying t with
   | some (.slice _)=>ri op p.isNone K
   | _=>False
  | _=>False
 | .map r=>match y with
  | .map none=>match P.underlying t with
   | some (.map _ _)=>ri op r.isNone K
   | _=>False
  | _=>False
 | .agg xs=>match y with
  | .agg ys=>match ij P t with
   | true=>∃b:Bool,(Op.equal t (.agg xs) (.agg ys)).run P w=.ok b w/\P.eqGuardType P.depth t=false/\ri op b K
   | false=>False
  | _=>False
 | _=>False
def Xz (op:UnOp) (s:SV) (K:SV->Prop):Prop:=match op with
 | .not=>match s with
  | .b x=>K (.b (!x))
  | .v (.bool x)=>K (.v (.bool (!x)))
  | _=>False
 | .neg=>bZ s fun v=>rH v fun k n=>K (.v (.int k (k.wrap (0-n))))
 | .xor=>bZ s fun v=>rH v fun k n=>K (.v (.int k (aw .xor k (match k.signed with|true=>-1|false=>k.max) n)))
 | _=>False
def RG (P:Program) (src dst:TypeId) (x:Value) (K:SV->Prop):Prop:=
 match P.underlying src,P.underlying dst with
 | some _,some (.int k)=>rH x fun _ n=>K (.v (.int k (k.wrap n)))
 | _,_=>False
def Ec (w:World) (ad:Addr):Nat->List Ty->(List Value->Prop)->Prop
 | _,[],F=>F []
 | i,t::ts,F=>rj t fun v=>w.cell? (ad.add i)=some v/\Ec w ad (i+1) ts fun vs=>F (v::vs)
def Gt (w:World) (ad:Addr) (cs:List Value):Prop:=∀j v,cs[j]?=some v->w.cell? (ad.add j)=some v
def Ae (P:Program) (w:World) (t:TypeId) (ad:Addr) (F:Value->Prop):Prop:=
 match cF P t with
 | false=>False
 | true=>match ij P t with
  | false=>rj (ux (zv P t)) fun v=>w.cell? ad=some v/\F v
  | true=>match Nat.beq (zc P t).length (bg P t)with
   | false=>False
   | true=>match Nat.ble (bg P t) 15 with
    | true=>Ec w ad 0 ((zc P t).map ux) fun vs=>F (.agg vs.toArray)
    | false=>∃cs:List Value,cs.length=bg P t/\Gt w ad cs/\F (.agg cs.toArray)
def DG (P:Program) (s:TypeId) (ad:Addr) (f:Nat) (K:SV->Prop):Prop:=
 match P.underlying s with
 | some (.struct fs)=>match fs.toList[f]? with
  | some fd=>match cF P fd.type with
   | true=>match Nat.beq (bg P fd.type) 0 with
    | false=>K (.v (.pointer (some (ad.add fd.offset))))
    | true=>False
   | false=>False
  | none=>False
 | _=>False
def EF (P:Program) (t:TypeId) (cs:List Value) (off:Nat) (F:Value->Prop):Prop:=
 match cF P t with
 | false=>False
 | true=>match ij P t with
  | true=>F (.agg ((cs.drop off).take (bg P t)).toArray)
  | false=>match cs[off]? with
   | some v=>F v
   | none=>False
def DJ (P:Program) (s:TypeId) (x:Value) (f:Nat) (K:SV->Prop):Prop:=
 match P.underlying s with
 | some (.struct fs)=>match fs.toList[f]? with
  | some fd=>match x with
   | .agg cs=>EF P fd.type cs.toList fd.offset fun v=>K (.v v)
   | _=>False
  | none=>False
 | _=>False
def DZ (P:Program) (t:TypeId) (x ix:Value) (K:SV->Prop):Prop:=
 rH ix fun _ i=>match P.underlying t with
 | some (.slice e)=>match cF P e with
  | false=>False
  | true=>match x with
   | .slice base len _=>(0<=i/\i<(len:Int))/\∃a,base=some a/\K (.v (.pointer (some (a.add (i.toNat*bg P e)))))
   | _=>False
 | some (.array len e)=>match cF P e with
  | false=>False
  | true=>o7 x fun a=>(0<=i/\i<(len:Int))/\K (.v (.pointer (some (a.add (i.toNat*bg P e)))))
 | _=>False
def D3 (P:Program) (t:TypeId) (x ix:Value) (K:SV->Prop):Prop:=
 rH ix fun _ i=>match P.underlying t with
 | some (.array len e)=>match cF P e with
  | false=>False
  | true=>match x with
   | .agg cs=>(0<=i/\i<(len:Int))/\match ij P e with
    | false=>rj (ux (zv P e)) fun v=>cs.toList[i.toNat*bg P e]?=some v/\K (.v v)
    | true=>zy ((zc P e).map ux) fun vs=>(cs.toList.drop (i.toNat*bg P e)).take (bg P e)=vs/\K (.v (.agg vs.toArray))
   | _=>False
 | some .string=>match x with
  | .string s=>(0<=i/\i<(s.size:Int))/\∃c:Int,(∃u:UInt8,s[i.toNat]?=some u/\(u.toNat:Int)=c)/\K (.v (.int .u8 c))
  | _=>False
 | _=>False
def DF (x:Value) (i:Nat) (K:SV->Prop):Prop:=match x with
 | .tuple vs=>match vs.toList[i]? with
  | some v=>K (.v v)
  | none=>False
 | _=>False
def Ei (P:Program) (w:World) (t:TypeId) (x:Value) (K:SV->Prop):Prop:=
 match P.underlying t with
 | some (.slice _)=>match x with
  | .slice _ n _=>K (.v (.int .i64 (n:Int)))
  | _=>False
 | some .string=>match x with
  | .string s=>K (.v (.int .i64 (s.size:Int)))
  | _=>False
 | some (.array n _)=>K (.v (.int .i64 (n:Int)))
 | some (.map _ _)=>match x with
  | .map r=>∃n:Nat,(∀ty,(Builtin.len_ #[t] ty #[.map r]).run P w=.ok (.int .i64 (n:Int)) w)/\K (.v (.int .i64 (n:Int)))
  | _=>False
 | _=>False
def ml (E:Env):List Operand->(List Value->Prop)->Prop
 | [],F=>F []
 | x::xs,F=>bZ (ba E x) fun v=>ml E xs fun vs=>F (v::vs)
def Ay (E:Env):List (Nat×Operand)->(List (Nat×Value)->Prop)->Prop
 | [],F=>F []
 | (i,x)::xs,F=>bZ (ba E x) fun v=>Ay E xs fun vs=>F ((i,v)::vs)
def aI (cells:List Value) (off:Nat) (vs:List Value):List Value:=cells.take off++vs++cells.drop (off+vs.length)
def rk (place:Nat->Option (Nat×Nat)) (cells:List Value):List (Nat×Value)->Option (List Value)
 | []=>some cells
 | (i,v)::rest=>match place i with
  | none=>none
  | some (off,size)=>match Nat.beq v.cells.toList.length size&&Nat.ble (off+size) cells.length with
   | true=>rk place (aI cells off v.cells.toList) rest
   | false=>none
def BS (P:Program) (t:TypeId) (ps:List (Nat×Value)) (K:SV->Prop):Prop:=
 match rG P t with
 | false=>False
 | true=>match P.underlying t with
  | some (.struct fs)=>match fs.toList.all fun f=>cF P f.type with
   | false=>False
   | true=>match rk (fun i=>(fs.toList[i]?).map fun f=>(f.offset,bg P f.type)) (zc P t) ps with
    | some cs=>K (.v (.agg cs.toArray))
    | none=>False
  | some (.array _ e)=>match cF P e with
   | false=>False
   | true=>match rk (fun i=>some (i*bg P e,bg P e)) (zc P t) ps with
    | some cs=>K (.v (.agg cs.toArray))
    | none=>False
  | _=>False
def jP (E:Env) (x:Option Operand) (dflt:Nat) (top:Nat) (F:Nat->Prop):Prop:=match x with
 | none=>F dflt
 | some o=>bZ (ba E o) fun v=>rH v fun _ i=>(0<=i/\i<=(top:Int))/\F i.toNat
def dO (a:Option Addr) (m l sz:Nat):Option Addr:=if m=l then a else a.map (·.add (l*sz))
def Fv (P:Program) (E:Env) (t:TypeId) (x:Value) (lo hi mx:Option Operand) (K:SV->Prop):Prop:=
 match P.underlying t with
 | some (.slice e)=>match cF P e with
  | false=>False
  | true=>match x with
   | .slice a len cap=>match mx,hi with
    | some _,none=>False
    | _,_=>jP E mx cap cap fun m=>jP E hi len m fun h=>jP E lo 0 h fun l=>K (.v (.slice (dO a m l (bg P e)) (h-l) (m-l)))
   | _=>False
 | some (.array n e)=>match cF P e with
  | false=>False
  | true=>o7 x fun a=>match mx,hi with
    | some _,none=>False
    | _,_=>jP E mx n n fun m=>jP E hi n m fun h=>jP E lo 0 h fun l=>K (.v (.slice (dO (some a) m l (bg P e)) (h-l) (m-l)))
 | _=>False
def Aw (P:Program) (o:Oper) (E:Env) (w:World) (K:SV->Prop):Prop:=
 match o.op with
 | .move x=>wD (ba E x) K
 | .assign x=>wD (ba E x) K
 | .pick c x y=>EH (ba E c) (ba E x) (ba E y) K
 | .nilCheck x=>bZ (ba E x) fun v=>VM v K
 | .binOp op t x y _=>bZ (ba E x) fun x=>bZ (ba E y) fun y=>BT P w op t x y K
 | .unOp op _ x=>Xz op (ba E x) K
 | .convert s d x=>bZ (ba E x) fun v=>RG P s d v K
 | .load t a=>bZ (ba E a) fun v=>o7 v fun ad=>Ae P w t ad fun v=>K (.v v)
 | .fieldAddr s x f=>bZ (ba E x) fun v=>o7 v fun ad=>DG P s ad f K
 | .field s x f=>bZ (ba E x) fun v=>DJ P s v f K
 | .indexAddr t x i=>bZ (ba E x) fun x=>bZ (ba E i) fun i=>DZ P t x i K
 | .index t x i=>bZ (ba E x) fun x=>bZ (ba E i) fun i=>D3 P t x i K
 | .extract x i=>bZ (ba E x) fun x=>DF x i K
 | .build t ps=>Ay E ps.toList fun ps=>BS P t ps K
 | .slice t x lo hi mx=>bZ (ba E x) fun x=>Fv P E t x lo hi mx K
 | .makeFunc fn first cap=>ml E first.toList fun fs=>ml E cap.toList fun cs=>K (.v (.func fn fs.toArray cs.toArray))
 | .lookup t x i ok=>bZ (ba E x) fun x=>bZ (ba E i) fun i=>s8 (pC P o.type) fun v=>(Instr.lookup t x i ok).run P w=.ok v w/\K (.v v)
 | .call c=>match c.callee with
  | .builtin .len=>match c.args.toList with
   | [x]=>match c.argTypes.toList with
    | [t]=>bZ (ba E x) fun x=>Ei P w t x K
    | _=>False
   | _=>False
  | _=>False
 | _=>False
def Quiet (P:Program) (o:Oper) (E:Env) (w:World) (s:SV):Prop:=
 ∀a,Reads E o a->(execOp a.eval o).run P w=.ok (.value s.val) w
theorem tO {x:Value} {F:IntKind->Int->Prop} (h:rH x F):∃k n,x=.int k n/\F k n:=by
 cases x<;>first|exact⟨_,_,rfl,h⟩|exact h.elim
theorem qk {x:Value} {F:Addr->Prop} (h:o7 x F):∃a,x=.pointer (some a)/\F a:=by
 cases x with
 | pointer p=>cases p with
  | some a=>exact⟨a,rfl,h⟩
  | none=>exact h.elim
 | _=>exact h.elim
theorem Ap {s:SV} {K:SV->Prop} (h:wD s K):∃v,s.val?=some v/\s.val=v/\K s:=by
 cases s with
 | un=>exact h.elim
 | v x=>exact⟨x,rfl,rfl,h⟩
 | b x=>exact⟨_,rfl,rfl,h⟩
theorem US {w:World} {ad:Addr}:∀{ts:List Ty} {i:Nat} {F:List Value->Prop},Ec w ad i ts F->
  ∃vs:List Value,vs.length=ts.length/\(∀j v,vs[j]?=some v->w.cell? (ad.add (i+j))=some v)/\F vs
 | [],_,_,h=>⟨[],rfl,fun j v hv=>by simp at hv,h⟩
 | t::ts,i,F,h=>by
  obtain⟨v,hc,h⟩:=vU h;obtain⟨vs,hl,hcs,h⟩:=US h;refine⟨v::vs,by simp[hl],fun j u hu=>?_,h⟩
  cases j with
  | zero=>simp at hu;subst hu;exact hc
  | succ j=>rw[show i+(j+1)=i+1+j by omega];exact hcs j u (by simpa using hu)
theorem UU {P:Program} {w:World} {t:TypeId} {ad:Addr} {F:Value->Prop} (h:Ae P w t ad F) :
  ∃v,(loadVar t ad).run P w=.ok v w/\F v:=by
 unfold Ae at h
 cases ho:cF P t with
 | false=>rw[ho]at h;exact h.elim
 | true=>
  rw[ho]at h;simp only at h
  cases hg:ij P t with
  | false=>
   rw[hg]at h;obtain⟨v,hc,hF⟩:=vU h
   exact⟨v,by simp[loadVar,uc ho,hg,hc],hF⟩
  | true=>
   rw[hg]at h;simp only at h
   have key:∀cs:List Value,cs.length=bg P t->(∀j v,cs[j]?=some v->w.cell? (ad.add j)=some v)->(loadVar t ad).run P w=.ok (.agg cs.toArray) w:=by
    intro cs hl hc;have:=run_loadCells_list (P:=P) w ad cs hc;simp[loadVar,uc ho,hg,j7 ho,<-hl,this]
   cases hz:Nat.beq (zc P t).length (bg P t)with
   | false=>rw[hz]at h;exact h.elim
   | true=>
    rw[hz]at h;simp only at h
    cases hb:Nat.ble (bg P t) 15 with
    | true=>
     rw[hb]at h;obtain⟨vs,hl,hc,hF⟩:=US h;refine⟨_,key vs ?_ (fun j v hv=>by simpa using hc j v hv),hF⟩;rw[hl,List.length_map]
     exact Nat.eq_of_beq_eq_true hz
    | false=>
     rw[hb]at h;obtain⟨cs,hl,hc,hF⟩:=h;exact⟨_,key cs hl hc,hF⟩
section
variable {P:Program} {w:World}
theorem WN {t:TypeId} {cs:Array Value} {off:Nat} (ho:cF P t=true) (hg:ij P t=true) :
  (part t cs off).run P w=.ok (.agg ((cs.toList.drop off).take (bg P t)).toArray) w:=by
 have e:cs.extract off (off+bg P t)=((cs.toList.drop off).take (bg P t)).toArray:=by
  apply Array.ext';simp[Array.toList_extract,List.extract_eq_take_drop]
 simp[part,uc ho,hg,j7 ho,e]
theorem AS {t:TypeId} {cs:Array Value} {off:Nat} {v:Value} (ho:cF P t=true) (hg:ij P t=false) (hv:cs.toList[off]?=some v) :
  (part t cs off).run P w=.ok v w:=by
 have hv':cs[off]?=some v:=by simpa using hv
 simp[part,uc ho,hg,hv']
theorem aeu {t:TypeId} {cs:Array Value} {off:Nat} {F:Value->Prop} (h:EF P t cs.toList off F) :
  ∃v,(∀w,(part t cs off).run P w=.ok v w)/\F v:=by
 unfold EF at h
 cases ho:cF P t with
 | false=>rw[ho]at h;exact h.elim
 | true=>
  rw[ho]at h;simp only at h
  cases hg:ij P t with
  | true=>rw[hg]at h;exact⟨_,fun _=>WN ho hg,h⟩
  | false=>
   rw[hg]at h;simp only at h
   cases hv:cs.toList[off]? with
   | none=>rw[hv]at h;exact h.elim
   | some v=>rw[hv]at h;exact⟨v,fun _=>AS ho hg hv,h⟩
theorem ab7 {t:TypeId} {op:BinOp} {k k':IntKind} {a b:Int} {K:SV->Prop} (h:D2 op k k' a b K) :
  ∃v,(∀w,(binOp op t (.int k a) (.int k' b)).run P w=.ok v w)/\K (.v v):=by
 unfold D2 at h;split at h
 ·obtain⟨hb,h⟩:=h;exact⟨_,fun w=>by simp[binOp,Op.shift,dq,show ¬b<0 by omega],h⟩
 ·obtain⟨hb,h⟩:=h;exact⟨_,fun w=>by simp[binOp,Op.shift,aC,show ¬b<0 by omega],h⟩
 ·rename_i op' h1 h2;by_cases hk:k=k'
  ·subst hk;simp only[decide_true]at h;split at h
   case h_4=>obtain⟨hb,h⟩:=h;exact⟨_,fun w=>by simp[binOp,Op.intDiv,hb],h⟩
   case h_5=>obtain⟨hb,h⟩:=h;exact⟨_,fun w=>by simp[binOp,Op.intDiv,hb],h⟩
   case h_16=>exact h.elim
   all_goals exact⟨_,fun w=>by simp[binOp,Op.intArith,Op.intBits,Op.intCmp,aw],h⟩
  ·simp[hk]at h
theorem vT {op:BinOp} {b:Bool} {K:SV->Prop} (h:ri op b K):(op=.eql/\K (.v (.bool b)))∨(op=.neq/\K (.v (.bool (!b)))):=by
 unfold ri at h;split at h
 ·exact .inl ⟨rfl,h⟩
 ·exact .inr ⟨rfl,h⟩
 ·exact h.elim
theorem pj {op:BinOp} {t:TypeId} {x y:Operand} {a b:Value} (h:∀xs ys,¬(a=.agg xs/\b=.agg ys)) (h2:a≠.nilIface) :
  (eqGuard op t x y a b).run P w=.ok () w:=by
 unfold eqGuard
 cases op<;>first
  | rfl
  | (cases a<;>first
    | rfl
    | exact absurd rfl h2
    | (cases b<;>first
      | exact absurd ⟨rfl,rfl⟩ (h _ _)
      | rfl))
def uF (P:Program) (op:BinOp) (t:TypeId) (ox oy:Operand) (x y v:Value) (w:World):Prop:=
 (eqGuard op t ox oy x y).run P w=.ok () w/\(binOp op t x y).run P w=.ok v w
theorem YE {op:BinOp} {t:TypeId} {x y:Value} {ox oy:Operand} {K:SV->Prop} (h:BT P w op t x y K) :
  ∃v,uF P op t ox oy x y v w/\(ij P t=false->∀w',uF P op t ox oy x y v w')/\K (.v v):=by
 have both:∀{v:Value},(∀w',uF P op t ox oy x y v w')->K (.v v)->∃v,uF P op t ox oy x y v w/\(ij P t=false->∀w',uF P op t ox oy x y v w')/\K (.v v):=
  fun h1 h2=>⟨_,h1 w,fun _=>h1,h2⟩
 unfold BT at h
 cases x with
 | int k a=>cases y with
  | int k' b=>
   obtain⟨v,hv,hK⟩:=ab7 (P:=P) (t:=t) h
   exact both (fun w'=>⟨pj (by simp) (by simp),hv w'⟩) hK
  | _=>exact h.elim
 | bool a=>cases y with
  | bool b=>
   simp only at h;split at h
   ·rename_i hu;rcases vT h with⟨rfl,h⟩|⟨rfl,h⟩
    ·exact both (fun w'=>⟨pj (by simp) (by simp),run_eql_bool w' t _ _ hu⟩) h
    ·exact both (fun w'=>⟨pj (by simp) (by simp),run_neq_bool w' t _ _ hu⟩) h
   ·exact h.elim
  | _=>exact h.elim
 | pointer p=>cases y with
  | pointer q=>cases q with
   | none=>
    simp only at h;split at h
    ·rename_i e hu;have hu':P.underlying t=some (.pointer (P.pointee t)):=by simp[Program.pointee,hu]
     rcases vT h with⟨rfl,h⟩|⟨rfl,h⟩
     ·exact both (fun w'=>⟨pj (by simp) (by simp),run_eql_pointer_nil w' t _ hu'⟩) h
     ·exact both (fun w'=>⟨pj (by simp) (by simp),run_neq_pointer_nil w' t _ hu'⟩) h
    ·exact h.elim
   | some q=>exact h.elim
  | _=>exact h.elim
 | slice p n c=>
  simp only at h;split at h
  ·split at h
   ·rename_i e hu;rcases vT h with⟨rfl,h⟩|⟨rfl,h⟩
    ·exact both (fun w'=>⟨pj (by simp) (by simp),by simp only[binOp];simp[run_equal_slice_nil w' t e _ _ _ hu]⟩) h
    ·exact both (fun w'=>⟨pj (by simp) (by simp),by simp only[binOp];simp[run_equal_slice_nil w' t e _ _ _ hu]⟩) h
   ·exact h.elim
  ·exact h.elim
 | map r=>cases y with
  | map q=>cases q with
   | none=>
    simp only at h;split at h
    ·rename_i k e hu;rcases vT h with⟨rfl,h⟩|⟨rfl,h⟩
     ·exact both (fun w'=>⟨pj (by simp) (by simp),by simp only[binOp];simp[run_equal_map_nil w' t k e _ hu]⟩) h
     ·exact both (fun w'=>⟨pj (by simp) (by simp),by simp only[binOp];simp[run_equal_map_nil w' t k e _ hu]⟩) h
    ·exact h.elim
   | some q=>exact h.elim
  | _=>exact h.elim
 | agg xs=>cases y with
  | agg ys=>
   simp only at h
   cases hat:ij P t with
   | false=>rw[hat]at h;exact h.elim
   | true=>
    rw[hat]at h;obtain⟨b,hr,hg,h⟩:=h
    have hgd:(eqGuard op t ox oy (.agg xs) (.agg ys)).run P w=.ok () w:=by
     unfold eqGuard
     cases op<;>first
      | rfl
      | simp[hg]
    rcases vT h with⟨rfl,h⟩|⟨rfl,h⟩
    ·exact⟨_,⟨hgd,by simp only[binOp];simp[hr]⟩,fun hf=>by simp at hf,h⟩
    ·exact⟨_,⟨hgd,by simp only[binOp];simp[hr]⟩,fun hf=>by simp at hf,h⟩
  | _=>exact h.elim
 | _=>exact h.elim
theorem nm {E:Env}:∀{xs:List Operand} {F:List Value->Prop},ml E xs F->
  ∃vs,F vs/\∀a:Act,(∀x∈xs,∀v,(ba E x).val?=some v->a.eval x=v)->xs.map a.eval=vs
 | [],_,h=>⟨[],h,fun _ _=>rfl⟩
 | x::xs,F,h=>by
  obtain⟨v,hv,_,h⟩:=cf h;obtain⟨vs,hF,hm⟩:=nm h;refine⟨v::vs,hF,fun a ha=>?_⟩;rw[List.map_cons,ha x (by simp) v hv,hm a (fun y hy=>ha y (by simp[hy]))]
theorem EG {E:Env}:∀{xs:List (Nat×Operand)} {F:List (Nat×Value)->Prop},Ay E xs F->
  ∃vs,F vs/\∀a:Act,(∀x∈xs.map (·.2),∀v,(ba E x).val?=some v->a.eval x=v)->xs.map (fun p=>(p.1,a.eval p.2))=vs
 | [],_,h=>⟨[],h,fun _ _=>rfl⟩
 | (i,x)::xs,F,h=>by
  obtain⟨v,hv,_,h⟩:=cf h;obtain⟨vs,hF,hm⟩:=EG h;refine⟨(i,v)::vs,hF,fun a ha=>?_⟩;rw[List.map_cons,hm a (fun y hy=>ha y (by simp only[List.map_cons,List.mem_cons];exact .inr hy))];simp only;rw[ha x (by simp) v hv]
theorem ue {cells:List Value} {off:Nat} {vs:List Value} (h:off+vs.length<=cells.length):(aI cells off vs).length=cells.length:=by
 simp[aI];omega
theorem SM (off:Nat):∀(vs:List Value) (j:Nat) (cs:Array Value),off+j+vs.length<=cs.size->
  ((vs.zipIdx j).foldl (fun cs (p:Value×Nat)=>cs.setIfInBounds (off+p.2) p.1) cs).toList=aI cs.toList (off+j) vs
 | [],j,cs,_=>by simp[aI]
 | v::vs,j,cs,h=>by
  simp only[List.length_cons]at h;rw[List.zipIdx_cons,List.foldl_cons,SM off vs (j+1) _ (by simp;omega)];have e:=list_seg_step cs.toList (off+j) v vs (by simp;omega);simp only[aI,Array.toList_setIfInBounds,List.length_cons];rw[<-e];simp[Nat.add_assoc]
theorem fill_eq (place place':Nat->Option (Nat×Nat)):∀(ps:List (Nat×Value)) (cells:Array Value) (r:List Value),(∀i,place i=place' i)->
  rk place cells.toList ps=some r->Instr.fill place' cells ps=some r.toArray
 | [],cells,r,_,h=>by simp only[rk,Option.some.injEq]at h;subst h;simp[Instr.fill]
 | (i,v)::ps,cells,r,hp,h=>by
  simp only[rk]at h;rw[hp i]at h;simp only[Instr.fill]
  cases hpl:place' i with
  | none=>rw[hpl]at h;simp at h
  | some q=>
   obtain⟨off,size⟩:=q;rw[hpl]at h;simp only at h
   cases hb:(Nat.beq v.cells.toList.length size&&Nat.ble (off+size) cells.toList.length)with
   | false=>rw[hb]at h;simp at h
   | true=>
    rw[hb]at h;simp only[Bool.and_eq_true]at hb;have h1:v.cells.size=size:=by simpa using Nat.eq_of_beq_eq_true hb.1
    have h2:off+size<=cells.size:=by simpa using Nat.le_of_ble_eq_true hb.2
    simp only at h
    have e:(v.cells.zipIdx.foldl (fun cs (p:Value×Nat)=>cs.setIfInBounds (off+p.2) p.1) cells).toList=aI cells.toList off v.cells.toList:=by
     rw[<-Array.foldl_toList,Array.toList_zipIdx];exact SM off v.cells.toList 0 cells (by simp;omega)
    have hcond:¬(v.cells.size≠size||off+v.cells.size>cells.size)=true:=by simp[h1];omega
    simp only[hcond];rw[<-e]at h;exact fill_eq place place' ps _ r hp h
end
section
variable {P:Program} {w:World} {E:Env} {o:Oper} {K:SV->Prop}
theorem px {i:Int} {k:IntKind} {top:Nat} {code:BoundsCode} (h:0<=i/\i<=(top:Int)):(Instr.sliceBound (.int k i) top code).run P w=.ok i.toNat w:=by
 simp[Instr.sliceBound,asIntOf,h]
def xq (a:Act) (x:Option Operand) (dflt top n:Nat):Prop:=match x with
 | none=>n=dflt
 | some o=>∃k i,a.eval o=.int k i/\(0<=i/\i<=(top:Int))/\n=i.toNat
theorem sy {x:Option Operand} {dflt top:Nat} {F:Nat->Prop} (h:jP E x dflt top F) :
  ∃n,F n/\∀a:Act,(∀y∈x,∀v,(ba E y).val?=some v->a.eval y=v)->xq a x dflt top n:=by
 unfold jP at h
 cases x with
 | none=>exact⟨dflt,h,fun _ _=>rfl⟩
 | some o=>
  obtain⟨v,hv,_,h⟩:=cf h;obtain⟨k,i,rfl,hi,h⟩:=tO h;exact⟨i.toNat,h,fun a ha=>⟨k,i,ha o rfl _ hv,hi,rfl⟩⟩
theorem LW {a:Act} {isS:Bool} {lo hi mx:Option Operand} {len cap l h m:Nat} (hno:¬(mx.isSome=true/\hi.isSome=false))
  (hm:xq a mx cap cap m) (hh:xq a hi len m h) (hl:xq a lo 0 h l) :
  (Instr.sliceBounds isS len cap (lo.map a.eval) (hi.map a.eval) (mx.map a.eval)).run P w=.ok (l,h,m) w:=by
 unfold Instr.sliceBounds
 cases mx with
 | none=>
  obtain rfl:m=cap:=hm
  cases hi with
  | none=>
   obtain rfl:h=len:=hh
   cases lo with
   | none=>obtain rfl:l=0:=hl;simp
   | some ol=>obtain⟨k,i,he,hb,rfl⟩:=hl;simp[he,px hb]
  | some oh=>
   obtain⟨k1,i1,he1,hb1,rfl⟩:=hh
   cases lo with
   | none=>obtain rfl:l=0:=hl;simp[he1,px hb1]
   | some ol=>obtain⟨k,i,he,hb,rfl⟩:=hl;simp[he,he1,px hb,px hb1]
 | some om=>
  obtain⟨k2,i2,he2,hb2,rfl⟩:=hm
  cases hi with
  | none=>simp at hno
  | some oh=>
   obtain⟨k1,i1,he1,hb1,rfl⟩:=hh
   cases lo with
   | none=>obtain rfl:l=0:=hl;simp[he1,he2,px hb1,px hb2]
   | some ol=>obtain⟨k,i,he,hb,rfl⟩:=hl;simp[he,he1,he2,px hb,px hb1,px hb2]
theorem afW {t:TypeId} {x:Value} {lo hi mx:Option Operand} (h:Fv P E t x lo hi mx K) :
  ∃v,K (.v v)/\∀a:Act,(∀y∈lo.toList++hi.toList++mx.toList,∀v,(ba E y).val?=some v->a.eval y=v)->
   ∀w,(Instr.sliceAt t x (lo.map a.eval) (hi.map a.eval) (mx.map a.eval)).run P w=.ok v w:=by
 unfold Fv at h;split at h
 ·rename_i e hu
  cases ho:cF P e with
  | false=>rw[ho]at h;exact h.elim
  | true=>
   rw[ho]at h;simp only at h;split at h
   ·rename_i p len cap
    have hno:¬(mx.isSome=true/\hi.isSome=false):=by
     rintro⟨h1,h2⟩;cases mx<;>cases hi<;>simp_all
    have h':jP E mx cap cap fun m=>jP E hi len m fun h=>jP E lo 0 h fun l=>K (.v (.slice (dO p m l (bg P e)) (h-l) (m-l))):=by
     cases mx<;>cases hi<;>simp_all
    obtain⟨m,h1,hm⟩:=sy h';obtain⟨hh,h2,hhh⟩:=sy h1;obtain⟨l,h3,hl⟩:=sy h2;refine⟨_,h3,fun a ha w=>?_⟩;have hb:=LW (P:=P) (w:=w) (isS:=true) hno (hm a fun y hy=>ha y (by cases mx<;>simp_all)) (hhh a fun y hy=>ha y (by cases hi<;>simp_all)) (hl a fun y hy=>ha y (by cases lo<;>simp_all));simp[Instr.sliceAt,Instr.slice,dF hu,hb,j7 ho,dO]
   ·exact h.elim
 ·rename_i n e hu
  cases ho:cF P e with
  | false=>rw[ho]at h;exact h.elim
  | true=>
   rw[ho]at h;simp only at h;obtain⟨ad,rfl,h⟩:=qk h
   have hno:¬(mx.isSome=true/\hi.isSome=false):=by
    rintro⟨h1,h2⟩;cases mx<;>cases hi<;>simp_all
   have h':jP E mx n n fun m=>jP E hi n m fun h=>jP E lo 0 h fun l=>K (.v (.slice (dO (some ad) m l (bg P e)) (h-l) (m-l))):=by
    cases mx<;>cases hi<;>simp_all
   obtain⟨m,h1,hm⟩:=sy h';obtain⟨hh,h2,hhh⟩:=sy h1;obtain⟨l,h3,hl⟩:=sy h2;refine⟨_,h3,fun a ha w=>?_⟩;have hb:=LW (P:=P) (w:=w) (isS:=false) hno (hm a fun y hy=>ha y (by cases mx<;>simp_all)) (hhh a fun y hy=>ha y (by cases hi<;>simp_all)) (hl a fun y hy=>ha y (by cases lo<;>simp_all));have hs:(Instr.sureAddr (.pointer (some ad))).run P w=.ok ad w:=rfl;simp[Instr.sliceAt,dF hu,hs,hb,j7 ho,dO];split<;>simp_all
 ·exact h.elim
theorem afu {ad:Addr} {f:Field} (ho:cF P f.type=true) (hz:bg P f.type≠0):(fieldPlace ad f).run P w=.ok (ad.add f.offset) w:=by
 simp[fieldPlace,j7 ho,hz]
theorem aaK {s:TypeId} {ad:Addr} {f:Nat} (h:DG P s ad f K):∃v,(∀w,(Instr.fieldAt s (.pointer (some ad)) f).run P w=.ok v w)/\K (.v v):=by
 unfold DG at h;split at h
 ·rename_i fs hu;split at h
  ·rename_i fd hf
   cases ho:cF P fd.type with
   | false=>rw[ho]at h;exact h.elim
   | true=>
    rw[ho]at h;simp only at h
    cases hz:Nat.beq (bg P fd.type) 0 with
    | true=>rw[hz]at h;exact h.elim
    | false=>
     rw[hz]at h;have hz':bg P fd.type≠0:=fun e=>by rw[e]at hz;simp at hz
     have hf':fs[f]?=some fd:=by simpa using hf
     exact⟨_,fun w=>by simp[Instr.fieldAt,dF hu,hf',Instr.sureAddr,afu ho hz'],h⟩
  ·exact h.elim
 ·exact h.elim
theorem aa6 {s:TypeId} {x:Value} {f:Nat} (h:DJ P s x f K):∃v,(∀w,(Instr.field s x f).run P w=.ok v w)/\K (.v v):=by
 unfold DJ at h;split at h
 ·rename_i fs hu;split at h
  ·rename_i fd hf;split at h
   ·rename_i cs;obtain⟨v,hv,hK⟩:=aeu h;have hf':fs[f]?=some fd:=by simpa using hf
    exact⟨v,fun w=>by simp[Instr.field,dF hu,hf',asAgg,hv],hK⟩
   ·exact h.elim
  ·exact h.elim
 ·exact h.elim
theorem abY {t:TypeId} {x ix:Value} (h:DZ P t x ix K):∃v,(∀w,(Instr.indexAt t x ix).run P w=.ok v w)/\K (.v v):=by
 unfold DZ at h;obtain⟨k,i,rfl,h⟩:=tO h;split at h
 ·rename_i e hu
  cases ho:cF P e with
  | false=>rw[ho]at h;exact h.elim
  | true=>
   rw[ho]at h;simp only at h
   cases x with
   | slice base len cap=>
    obtain⟨hi,a,ha,hK⟩:=h;subst ha
    exact⟨_,fun w=>by simp[Instr.indexAt,asIntOf,dF hu,hi,j7 ho],hK⟩
   | _=>exact h.elim
 ·rename_i len e hu
  cases ho:cF P e with
  | false=>rw[ho]at h;exact h.elim
  | true=>
   rw[ho]at h;simp only at h;obtain⟨a,rfl,hi,h⟩:=qk h;exact⟨_,fun w=>by simp[Instr.indexAt,asIntOf,dF hu,Instr.sureAddr,hi,j7 ho],h⟩
 ·exact h.elim
theorem acb {t:TypeId} {x ix:Value} (h:D3 P t x ix K):∃v,(∀w,(Instr.index t x ix).run P w=.ok v w)/\K (.v v):=by
 unfold D3 at h;obtain⟨k,i,rfl,h⟩:=tO h;split at h
 ·rename_i len e hu
  cases ho:cF P e with
  | false=>rw[ho]at h;exact h.elim
  | true=>
   rw[ho]at h;simp only at h;split at h
   ·rename_i cs;obtain⟨hi,h⟩:=h
    cases hg:ij P e with
    | false=>
     rw[hg]at h;obtain⟨v,hv,hK⟩:=vU h
     exact⟨v,fun w=>by simp[Instr.index,asIntOf,dF hu,hi,j7 ho,AS ho hg hv],hK⟩
    | true=>
     rw[hg]at h;obtain⟨vs,_,hv,hK⟩:=DE h;exact⟨_,fun w=>by simp[Instr.index,asIntOf,dF hu,hi,j7 ho,WN ho hg,hv],hK⟩
   ·exact h.elim
 ·rename_i hu
  cases x with
  | string s=>
   obtain⟨hi,c,⟨u,hu1,hc⟩,hK⟩:=h;subst hc
   exact⟨_,fun w=>by
    simp only[Instr.index,asIntOf,dF hu,Sem.run_bind,Sem.run_pure,Result.andThen_ok,hi,if_true,hu1],hK⟩
  | _=>exact h.elim
 ·exact h.elim
theorem aaG {x:Value} {i:Nat} (h:DF x i K):∃v,(∀w,(Instr.extract x i).run P w=.ok v w)/\K (.v v):=by
 unfold DF at h;split at h
 ·rename_i vs;split at h
  ·rename_i v hv;have hv':vs[i]?=some v:=by simpa using hv
   exact⟨v,fun w=>by simp[Instr.extract,hv'],h⟩
  ·exact h.elim
 ·exact h.elim
def Am (P:Program) (t:TypeId):Bool:=match P.underlying t with
 | some (.map _ _)=>true
 | _=>false
theorem ac2 {t ty:TypeId} {x:Value} (h:Ei P w t x K):∃v,(Builtin.len_ #[t] ty #[x]).run P w=.ok v w/\(Am P t=false->∀w,(Builtin.len_ #[t] ty #[x]).run P w=.ok v w)/\K (.v v):=by
 have both:∀{v:Value},(∀w',(Builtin.len_ #[t] ty #[x]).run P w'=.ok v w')->K (.v v)->∃v,(Builtin.len_ #[t] ty #[x]).run P w=.ok v w/\(Am P t=false->∀w,(Builtin.len_ #[t] ty #[x]).run P w=.ok v w)/\K (.v v):=
  fun h1 h2=>⟨_,h1 w,fun _=>h1,h2⟩
 unfold Ei at h;split at h
 ·rename_i e hu
  cases x with
  | slice a n c=>exact both (fun w=>by simp[Builtin.len_,dF hu,goInt]) h
  | _=>exact h.elim
 ·rename_i hu
  cases x with
  | string s=>exact both (fun w=>by simp[Builtin.len_,dF hu,goInt]) h
  | _=>exact h.elim
 ·rename_i n e hu;exact both (fun w=>by simp[Builtin.len_,dF hu,goInt]) h
 ·rename_i hu
  cases x with
  | map r=>
   obtain⟨n,hr,h⟩:=h
   exact⟨_,hr ty,fun hf=>by simp[Am,hu]at hf,h⟩
  | _=>exact h.elim
 ·exact h.elim
theorem aeI {fs:List Field} (h:fs.all (fun f=>cF P f.type)=true) :
  fs.mapM (fun f=>(P.info? f.type).map fun i=>(f.offset,i.size))=some (fs.map fun f=>(f.offset,bg P f.type)):=by
 induction fs with
 | nil=>rfl
 | cons f fs ih=>
  simp only[List.all_cons,Bool.and_eq_true]at h;have h1:=h.1;simp only[cF,Bool.and_eq_true]at h1;obtain⟨i,hi⟩:=Option.isSome_iff_exists.1 h1.1;simp[List.mapM_cons,hi,ih h.2,bg,Program.cellsOf]
theorem YA {t:TypeId} {ps:List (Nat×Value)} (h:BS P t ps K):∃v,(∀w,(Instr.build t ps.toArray).run P w=.ok v w)/\K (.v v):=by
 unfold BS at h
 cases hz:rG P t with
 | false=>rw[hz]at h;exact h.elim
 | true=>
  rw[hz]at h;simp only at h;split at h
  ·rename_i fs hu
   cases ho:fs.toList.all fun f=>cF P f.type with
   | false=>rw[ho]at h;exact h.elim
   | true=>
    rw[ho]at h;simp only at h;have hp:=fun w=>run_places (P:=P) w _ _ (aeI ho);split at h
    ·rename_i cs hf;have hf':=fill_eq (place':=fun i=>(fs[i]?).map fun f=>(f.offset,bg P f.type)) _ ps (zv P t).cells cs (fun i=>by simp) hf;exact⟨_,fun w=>by simp[Instr.build,rM hz,dF hu,Array.mapM_eq_mapM_toList,hp,hf'],h⟩
    ·exact h.elim
  ·rename_i n e hu
   cases ho:cF P e with
   | false=>rw[ho]at h;exact h.elim
   | true=>
    rw[ho]at h;simp only at h;split at h
    ·rename_i cs hf;have hf':=fill_eq (place':=fun i=>some (i*bg P e,bg P e)) _ ps (zv P t).cells cs (fun i=>rfl) hf;exact⟨_,fun w=>by simp[Instr.build,rM hz,dF hu,j7 ho,hf'],h⟩
    ·exact h.elim
  ·exact h.elim
theorem aeA {c x y:SV} (h:EH c x y K):∃b s,c.val?=some (.bool b)/\(if b then(∃v,x.val?=some v/\s.val=v)else(∃v,y.val?=some v/\s.val=v))/\K s:=by
 unfold EH at h;split at h
 ·obtain⟨v,h1,h2,h⟩:=Ap h;exact⟨true,_,rfl,by simp[h1,h2],h⟩
 ·obtain⟨v,h1,h2,h⟩:=Ap h;exact⟨false,_,rfl,by simp[h1,h2],h⟩
 ·rename_i c;obtain⟨v,h1,_,h⟩:=cf h;obtain⟨u,h2,_,h⟩:=cf h;refine⟨c,_,rfl,?_,h⟩;cases c<;>simp[h1,h2,SV.val]
 ·exact h.elim
def mL (P:Program) (o:Oper):Bool:=match o.op with
 | .load _ _=>true
 | .lookup _ _ _ _=>true
 | .binOp _ t _ _ _=>ij P t
 | .call c=>match c.argTypes.toList with
  | [t]=>Am P t
  | _=>true
 | _=>false
theorem V1 (h:Aw P o E w K):∃s,Quiet P o E w s/\(mL P o=false->∀w',Quiet P o E w' s)/\K s:=by
 have both:∀{s:SV},(∀w',Quiet P o E w' s)->K s->∃s,Quiet P o E w s/\(mL P o=false->∀w',Quiet P o E w' s)/\K s:=
  fun h1 h2=>⟨_,h1 w,fun _=>h1,h2⟩
 unfold Aw at h;split at h
 ·rename_i x ho;obtain⟨v,h1,h2,h⟩:=Ap h;exact both (fun w a ha=>by simp[execOp,ho,ha x (by simp[ho,Op.operands]) v h1,h2]) h
 ·rename_i x ho;obtain⟨v,h1,h2,h⟩:=Ap h;exact both (fun w a ha=>by simp[execOp,ho,ha x (by simp[ho,Op.operands]) v h1,h2]) h
 ·rename_i c x y ho;obtain⟨b,s,h1,h2,h⟩:=aeA h;refine both (s:=s) (fun w a ha=>?_) h;have hc:=ha c (by simp[ho,Op.operands]) _ h1
  cases b with
  | true=>
   obtain⟨v,h3,h4⟩:=h2
   simp[execOp,ho,hc,asBool,ha x (by simp[ho,Op.operands]) v h3,h4]
  | false=>
   obtain⟨v,h3,h4⟩:=h2;simp[execOp,ho,hc,asBool,ha y (by simp[ho,Op.operands]) v h3,h4]
 ·rename_i x ho;obtain⟨v,h1,_,h⟩:=cf h;unfold VM at h;split at h
  ·obtain⟨ad,hp,h⟩:=h;subst hp;exact both (fun w a ha=>by simp[execOp,ho,ha x (by simp[ho,Op.operands]) _ h1,SV.val]) h
  ·exact both (fun w a ha=>by simp[execOp,ho,ha x (by simp[ho,Op.operands]) _ h1,SV.val]) h
  ·exact h.elim
 ·rename_i op t x y yt ho;obtain⟨v,h1,_,h⟩:=cf h;obtain⟨u,h2,_,h⟩:=cf h;obtain⟨r,hr,hr2,hK⟩:=YE (ox:=x) (oy:=y) h;exact⟨.v r,fun a ha=>by simp[execOp,ho,ha x (by simp[ho,Op.operands]) v h1,ha y (by simp[ho,Op.operands]) u h2,hr.1,hr.2,SV.val],fun hf w' a ha=>by simp[execOp,ho,ha x (by simp[ho,Op.operands]) v h1,ha y (by simp[ho,Op.operands]) u h2,(hr2 (by simpa [mL,ho]using hf) w').1,(hr2 (by simpa [mL,ho]using hf) w').2,SV.val],hK⟩
 ·rename_i op t x ho;unfold Xz at h;split at h
  ·split at h
   ·rename_i b hs;exact both (fun w a ha=>by simp[execOp,ho,ha x (by simp[ho,Op.operands]) (.bool b) (by rw[hs];rfl),Op.unary,SV.val]) h
   ·rename_i b hs;exact both (fun w a ha=>by simp[execOp,ho,ha x (by simp[ho,Op.operands]) (.bool b) (by rw[hs];rfl),Op.unary,SV.val]) h
   ·exact h.elim
  ·obtain⟨v,h1,_,h⟩:=cf h;obtain⟨k,n,rfl,h⟩:=tO h;exact both (fun w a ha=>by simp[execOp,ho,ha x (by simp[ho,Op.operands]) _ h1,Op.unary,Op.intArith,SV.val]) h
  ·obtain⟨v,h1,_,h⟩:=cf h;obtain⟨k,n,rfl,h⟩:=tO h;refine both (fun w a ha=>?_) h;cases hk:k.signed<;>simp[execOp,ho,ha x (by simp[ho,Op.operands]) _ h1,Op.unary,Op.intBits,aw,hk,SV.val]
  ·exact h.elim
 ·rename_i sx dx x ho;obtain⟨v,h1,_,h⟩:=cf h;unfold RG at h;split at h
  ·rename_i d k hu1 hu2;obtain⟨k',n,rfl,h⟩:=tO h;refine both (fun w a ha=>?_) h
   have hc:(convert sx dx (.int k' n)).run P w=.ok (.int k (k.wrap n)) w:=by
    unfold convert;simp only[Sem.run_bind,dF hu1,dF hu2,Result.andThen_ok];cases d<;>rfl
   simp[execOp,ho,ha x (by simp[ho,Op.operands]) _ h1,hc,SV.val]
  ·exact h.elim
 ·rename_i t x ho;obtain⟨v,h1,_,h⟩:=cf h;obtain⟨ad,rfl,h⟩:=qk h;obtain⟨u,hu,h⟩:=UU h;exact⟨_,fun a ha=>by simp[execOp,ho,ha x (by simp[ho,Op.operands]) _ h1,Instr.loadAt,Instr.sureAddr,hu,SV.val],fun hf=>by simp[mL,ho]at hf,h⟩
 ·rename_i s x f ho;obtain⟨v,h1,_,h⟩:=cf h;obtain⟨ad,rfl,h⟩:=qk h;obtain⟨u,hu,h⟩:=aaK h;exact both (fun w a ha=>by simp[execOp,ho,ha x (by simp[ho,Op.operands]) _ h1,hu,SV.val]) h
 ·rename_i s x f ho;obtain⟨v,h1,_,h⟩:=cf h;obtain⟨u,hu,h⟩:=aa6 h;exact both (fun w a ha=>by simp[execOp,ho,ha x (by simp[ho,Op.operands]) _ h1,hu,SV.val]) h
 ·rename_i t x i ho;obtain⟨v,h1,_,h⟩:=cf h;obtain⟨u,h2,_,h⟩:=cf h;obtain⟨r,hr,h⟩:=abY h;exact both (fun w a ha=>by simp[execOp,ho,ha x (by simp[ho,Op.operands]) v h1,ha i (by simp[ho,Op.operands]) u h2,hr,SV.val]) h
 ·rename_i t x i ho;obtain⟨v,h1,_,h⟩:=cf h;obtain⟨u,h2,_,h⟩:=cf h;obtain⟨r,hr,h⟩:=acb h;exact both (fun w a ha=>by simp[execOp,ho,ha x (by simp[ho,Op.operands]) v h1,ha i (by simp[ho,Op.operands]) u h2,hr,SV.val]) h
 ·rename_i x i ho;obtain⟨v,h1,_,h⟩:=cf h;obtain⟨r,hr,h⟩:=aaG (P:=P) h;exact both (fun w a ha=>by simp[execOp,ho,ha x (by simp[ho,Op.operands]) v h1,hr,SV.val]) h
 ·rename_i t ps ho;obtain⟨vs,h,hm⟩:=EG h;obtain⟨r,hr,h⟩:=YA h;refine both (s:=.v r) (fun w a ha=>?_) h
  have e:ps.map (fun p=>(p.1,a.eval p.2))=vs.toArray:=by
   apply Array.ext';have:=hm a (fun x hx=>ha x (by simpa [ho,Op.operands]using hx));simpa using this
  simp[execOp,ho,e,hr,SV.val]
 ·rename_i t x lo hi mx ho;obtain⟨v,h1,_,h⟩:=cf h;obtain⟨r,h,hr⟩:=afW h;refine both (s:=.v r) (fun w a ha=>?_) h;have h2:=hr a (fun y hy=>ha y (by simp[ho,Op.operands]at hy⊢;rcases hy with hy|hy|hy<;>simp[hy]));simp[execOp,ho,ha x (by simp[ho,Op.operands]) v h1,h2,SV.val]
 ·rename_i fn first cap ho
  obtain⟨fs,h,h1⟩:=nm h;obtain⟨cs,h,h2⟩:=nm h;refine both (fun w a ha=>?_) h
  have e1:first.map a.eval=fs.toArray:=by
   apply Array.ext';simpa using h1 a (fun x hx=>ha x (by simp[ho,Op.operands];exact .inl (by simpa using hx)))
  have e2:cap.map a.eval=cs.toArray:=by
   apply Array.ext';simpa using h2 a (fun x hx=>ha x (by simp[ho,Op.operands];exact .inr (by simpa using hx)))
  simp[execOp,ho,e1,e2,Instr.makeFunc,SV.val]
 ·rename_i t x i ok ho;obtain⟨v,h1,_,h⟩:=cf h;obtain⟨u,h2,_,h⟩:=cf h;obtain⟨r,hr,h⟩:=oO h;exact⟨_,fun a ha=>by simp[execOp,ho,ha x (by simp[ho,Op.operands]) v h1,ha i (by simp[ho,Op.operands]) u h2,hr,SV.val],fun hf=>by simp[mL,ho]at hf,h⟩
 ·rename_i c ho;split at h
  ·rename_i hc;split at h
   ·rename_i x hx;split at h
    ·rename_i t ht;obtain⟨v,h1,_,h⟩:=cf h;obtain⟨r,hr,hr2,h⟩:=ac2 (ty:=o.type) h;have hx':c.args=#[x]:=by apply Array.ext';simpa using hx
     have ht':c.argTypes=#[t]:=by apply Array.ext';simpa using ht
     exact⟨_,fun a ha=>by simp[execOp,ho,resolve,hc,hx',ht',invoke,builtin,ha x (by simp[ho,Op.operands,Call.operands,hx']) v h1,hr,SV.val],fun hf w' a ha=>by simp[execOp,ho,resolve,hc,hx',ht',invoke,builtin,ha x (by simp[ho,Op.operands,Call.operands,hx']) v h1,hr2 (by simpa [mL,ho,ht']using hf) w',SV.val],h⟩
    ·exact h.elim
   ·exact h.elim
  ·exact h.elim
 ·exact h.elim
end
structure jk (w w':World) (b:Nat) (c:List Value) (T:TypeId):Prop where
 ai:w'.heap[b]?=some (.cells c.toArray T (0,0))
 other:∀i,i≠b->w'.heap[i]?=w.heap[i]?
 size:w'.heap.size=w.heap.size
 os:w'.os=w.os
 tape:w'.tape=w.tape
 output:w'.output=w.output
structure Wr (w:World) (ad:Addr) (vs:List Value) (K:World->Prop):Prop where
 out:∃(c:List Value) (T:TypeId),w.heap[ad.block]?=some (.cells c.toArray T (0,0))/\ad.spot=none/\ad.off+vs.length<=c.length/\
  ∀w',jk w w' ad.block (aI c ad.off vs) T->K w'
structure cH (w w':World) (o:Obj):Prop where
 ai:w'.heap[w.heap.size]?=some o
 j6:∀i,i<w.heap.size->w'.heap[i]?=w.heap[i]?
 size:w'.heap.size=w.heap.size+1
 os:w'.os=w.os
 tape:w'.tape=w.tape
 output:w'.output=w.output
 drawn:w'.drawn=w.drawn
structure ay (w:World) (c:List Value) (T:TypeId) (K:Addr->World->Prop):Prop where
 out:∀w',cH w w' (.cells c.toArray T (0,0))->K ⟨w.heap.size,0,none⟩ w'
structure ob (w:World) (K:Nat->World->Prop):Prop where
 out:∀w',cH w w' (.map #[] 0)->K w.heap.size w'
def wH:List Value->Bool
 | []=>true
 | .agg _::_=>false
 | .tuple _::_=>false
 | _::vs=>wH vs
theorem VX:∀{vs:List Value},wH vs=true->∀v∈vs,v.oneCell'=true
 | [],_,_,hv=>by cases hv
 | x::vs,h,v,hv=>by
  rcases List.mem_cons.1 hv with rfl|hv
  ·cases v<;>first|rfl|(simp[wH]at h)
  ·exact VX (vs:=vs) (by cases x<;>simp_all [wH]) v hv
theorem wF (w:World) (o:Obj):cH w {w with heap:=w.heap.push o} o:=by
 refine⟨by simp,fun i hi=>?_,by simp,rfl,rfl,rfl,rfl⟩;simp[Array.getElem?_push,Nat.ne_of_lt hi]
theorem BB {w:World} {b:Nat} {c:Array Value} {T:TypeId} (h:w.heap[b]?=some (.cells c T (0,0))) (c':List Value) :
  jk w (w.setRow b c'.toArray) b c' T:=by
 refine⟨setRow_heap w b c _ T _ h,fun i hi=>?_,by simp[World.setRow],rfl,rfl,rfl⟩;simp[World.setRow,Array.getElem?_modify,Ne.symm hi]
def vZ (P:Program) (g:FuncId):Bool:=match P.funcs.toList[g]? with
 | some fn=>fn.body.isSome
 | none=>false
def fF (P:Program):Bool:=P.funcs.toList.all (fun fn=>!(fn.name=="runtime.NumGoroutine"))&&P.follows .mixedOrders
structure Call (P:Program) (f:FuncId) (args:List Value) (w:World) (R:Ending->World->Prop):Prop where
 out:Calls P f args.toArray w R
def Zr (P:Program) (f:FuncId) (args:List Value) (ty:Ty) (w:World) (K:Value->World->Prop):Prop:=
 Call P f args w fun e w'=>s8 ty fun v=>e=.returned v/\K v w'
structure Cut (p:Prop):Prop where
 out:p
def ub (P:Program) (s:Sem Value) (ty:Ty) (w:World) (K:SV->World->Prop):Prop:=
 s8 ty fun v=>∃w',s.run P w=.ok v w'/\K (.v v) w'
def WL (P:Program) (s:Sem Unit) (w:World) (K:SV->World->Prop):Prop:=
 ∃w',s.run P w=.ok () w'/\K (.v undef) w'
def BU (P:Program) (t:TypeId) (len:Nat) (ps:List (Nat×Value)) (w:World) (K:SV->World->Prop):Prop:=
 match P.underlying t with
 | some (.slice e)=>match cF P e&&rG P e&&Nat.beq (zc P e).length (bg P e)&&Nat.ble (len*bg P e) 16777216&&Nat.ble 1 (bg P e)with
  | false=>False
  | true=>match rk (fun i=>some (i*bg P e,bg P e)) ((List.range (len*bg P e)).map fun i=>(zc P e).getD (i%bg P e) undef) ps with
   | some cs=>ay w cs e fun p w'=>K (.v (.slice (some p) len len)) w'
   | none=>False
 | _=>False
def wI (P:Program) (o:Oper) (E:Env) (w:World) (K:SV->World->Prop):Prop:=
 match o.op with
 | .store t a x=>bZ (ba E a) fun v=>o7 v fun ad=>bZ (ba E x) fun v=>
   match cF P t&&Nat.beq v.cells.toList.length (bg P t)&&wH v.cells.toList with
   | false=>False
   | true=>Wr w ad v.cells.toList fun w'=>K (.v undef) w'
 | .alloc T=>match rG P T with
  | false=>False
  | true=>ay w (zc P T) T fun p w'=>K (.v (.pointer (some p))) w'
 | .box T x=>bZ (ba E x) fun v=>ay w v.cells.toList T fun p w'=>K (.v (.pointer (some p))) w'
 | .buildSlice t len ps=>Ay E ps.toList fun ps=>BU P t len ps w K
 | .makeSlice t l c=>bZ (ba E l) fun l=>bZ (ba E c) fun c=>ub P (Instr.makeSlice t l c) (pC P t) w K
 | .makeMap _ none=>ob w fun r w'=>K (.v (.map (some r))) w'
 | .mapUpdate t m k x=>bZ (ba E m) fun m=>bZ (ba E k) fun k=>bZ (ba E x) fun x=>WL P (Instr.mapUpdate t m k x) w K
 | .insert t m k x=>bZ (ba E m) fun m=>bZ (ba E k) fun k=>bZ (ba E x) fun x=>WL P (Instr.mapUpdate t m k x) w K
 | .call c=>match c.callee with
  | .value f=>match ba E f with
   | .v (.func (.func g) first cap)=>match vZ P g with
    | true=>ml E c.args.toList fun vs=>Zr P g (first.toList++vs++cap.toList) (pC P o.type) w fun v w'=>K (.v v) w'
    | false=>ml E c.args.toList fun vs=>s8 (pC P o.type) fun v=>∃w',(callFunc g (first.toList++vs++cap.toList).toArray).run P w=.ok (.value v) w'/\K (.v v) w'
   | _=>False
  | .builtin .append=>ml E c.args.toList fun vs=>ub P (Builtin.append_ c.argTypes o.type vs.toArray) (pC P o.type) w K
  | .builtin .copy=>ml E c.args.toList fun vs=>ub P (Builtin.copy_ c.argTypes o.type vs.toArray) (pC P o.type) w K
  | .builtin .delete=>ml E c.args.toList fun vs=>ub P (Builtin.delete_ c.argTypes o.type vs.toArray) (pC P o.type) w K
  | .builtin .max=>ml E c.args.toList fun vs=>ub P (Builtin.max_ c.argTypes o.type vs.toArray) (pC P o.type) w K
  | .builtin .min=>ml E c.args.toList fun vs=>ub P (Builtin.min_ c.argTypes o.type vs.toArray) (pC P o.type) w K
  | _=>False
 | _=>False
def uE (P:Program) (o:Oper) (E:Env) (w:World) (K:SV->World->Prop):Prop:=
 ∀a,Reads E o a->∀(next:Act->World->Prop) (Q:Exit->Act->World->Prop),(∀s w',K s w'->next (a.put o.dst s.val) w')->o.wp P a w next Q
theorem Quiet.X9 {P:Program} {o:Oper} {E:Env} {w:World} {s:SV} (h:Quiet P o E w s) {K:SV->World->Prop} (hK:K s w):uE P o E w K:=by
 intro a ha next Q hn
 unfold Oper.wp;rw[h a ha];exact hn s w hK
section
variable {P:Program} {w:World} {E:Env} {o:Oper} {K:SV->World->Prop}
theorem mg {v:Value} {w':World} (he:∀a,Reads E o a->(execOp a.eval o).run P w=.ok (.value v) w') (hK:K (.v v) w'):uE P o E w K:=by
 intro a ha next Q hn
 unfold Oper.wp;rw[he a ha];exact hn _ _ hK
theorem BJ {w':World} (he:∀a,Reads E o a->(execOp a.eval o).run P w=.ok .skip w') (hK:K (.v undef) w'):uE P o E w K:=by
 intro a ha next Q hn
 unfold Oper.wp;rw[he a ha];exact hn (.v undef) _ hK
theorem Ri (hP:fF P=true) {g:FuncId} (hb:vZ P g=true) (args:Array Value):(callFunc g args).run P w=.ok (.enter g args) w:=by
 unfold vZ at hb;split at hb
 ·rename_i fn hf;have hf':P.funcs[g]?=some fn:=by simpa using hf
  simp only[fF,Bool.and_eq_true,List.all_eq_true]at hP;have hn:=hP.1 fn (List.mem_of_getElem? hf);have hn':(fn.name=="runtime.NumGoroutine")=false:=by simpa using hn
  have hb':fn.body.isNone=false:=by cases hbb:fn.body<;>simp_all
  unfold callFunc;simp only[Sem.run_bind,run_program,Result.andThen_ok,hf',hn',hb',Bool.false_eq_true,if_false];rfl
 ·cases hb
theorem YK {t:TypeId} {len:Nat} {ps:List (Nat×Value)} (h:BU P t len ps w K) :
  ∃v w',(Instr.buildSlice t len ps.toArray).run P w=.ok v w'/\K (.v v) w':=by
 unfold BU at h;split at h
 ·rename_i e hu;split at h
  ·exact h.elim
  ·rename_i hc;simp only[Bool.and_eq_true]at hc;obtain⟨⟨⟨⟨ho,hz⟩,hl⟩,hb⟩,h1⟩:=hc;have hl':(zc P e).length=bg P e:=Nat.eq_of_beq_eq_true hl;have hb':=Nat.le_of_ble_eq_true hb;have h1':=Nat.le_of_ble_eq_true h1;split at h
   ·rename_i cs hf;have hzs:(zv P e).cells.size=bg P e:=by rw[<-hl'];simp[zc]
    have hr:((Array.range (len*bg P e)).map (fun x=>(zv P e).cells[x%(zv P e).cells.size]!)).toList=(List.range (len*bg P e)).map fun i=>(zc P e).getD (i%bg P e) undef:=by
     rw[Array.toList_map,Array.toList_range];apply List.map_congr_left;intro i hi;rw[hzs];have hlt:i%bg P e<(zv P e).cells.size:=by rw[hzs];exact Nat.mod_lt _ h1'
     simp[zc,List.getD_eq_getElem?_getD,hlt]
    have hf':=fill_eq (place':=fun i=>some (i*bg P e,bg P e)) _ ps ((Array.range (len*bg P e)).map (fun x=>(zv P e).cells[x%(zv P e).cells.size]!)) cs (fun i=>rfl) (by rw[hr];exact hf);refine⟨_,_,?_,h.out _ (wF w _)⟩;by_cases h0:len*bg P e=0
    ·have hlen:len=0:=by
      rcases Nat.mul_eq_zero.1 h0 with h0|h0
      ·exact h0
      ·omega
     subst hlen;have hr0:Array.range 0=#[]:=rfl;simp only[Nat.zero_mul,hr0,List.map_toArray,List.map_nil]at hf';simp[Instr.buildSlice,dF hu,j7 ho,hr0,hf',newRow]
    ·have hnot:¬(2 ^ 24<len*bg P e):=by omega
     simp[Instr.buildSlice,dF hu,j7 ho,rM hz,h0,hnot,hf',newRow]
   ·exact h.elim
 ·exact h.elim
theorem VZ (hP:fF P=true) (h:wI P o E w K):uE P o E w K:=by
 unfold wI at h;split at h
 ·rename_i t x y ho;obtain⟨v,h1,_,h⟩:=cf h;obtain⟨ad,rfl,h⟩:=qk h;obtain⟨u,h2,_,h⟩:=cf h;split at h
  ·exact h.elim
  ·rename_i hc;simp only[Bool.and_eq_true]at hc;obtain⟨⟨hk,hl⟩,h1c⟩:=hc;obtain⟨c,T,hb,hs,hfit,hK⟩:=h.out;obtain⟨b,off,spot⟩:=ad;simp only at hs hb hfit hK;subst hs;have hl':u.cells.size=bg P t:=by simpa using Nat.eq_of_beq_eq_true hl
   have hst:=run_storeCells_at P b off T u.cells.toList 0 c.toArray w hb (by simpa using hfit) (VX h1c);refine BJ (w':=w.setRow b (aI c off u.cells.toList).toArray) (fun a ha=>?_) (hK _ (BB hb _));simp only[Nat.add_zero]at hst;simp[execOp,ho,ha x (by simp[ho,Op.operands]) _ h1,ha y (by simp[ho,Op.operands]) _ h2,Instr.storeAt,Instr.sureAddr,storeVar,j7 hk,hl',hst,aI]
 ·rename_i T ho;split at h
  ·exact h.elim
  ·rename_i hz;refine mg (w':={w with heap:=w.heap.push (.cells (zv P T).cells T)}) (fun a ha=>?_) (h.out _ ?_)
   ·simp[execOp,ho,Instr.alloc,rM hz,newVar,newRow]
   ·have:=wF w (.cells (zv P T).cells T);simpa [zc]using this
 ·rename_i T x ho;obtain⟨v,h1,_,h⟩:=cf h;refine mg (w':={w with heap:=w.heap.push (.cells v.cells T)}) (fun a ha=>?_) (h.out _ ?_)
  ·simp[execOp,ho,ha x (by simp[ho,Op.operands]) _ h1,Instr.box,newVar,newRow]
  ·have:=wF w (.cells v.cells T);simpa using this
 ·rename_i t len ps ho;obtain⟨vs,h,hm⟩:=EG h;obtain⟨v,w',hr,hK⟩:=YK h;refine mg (v:=v) (w':=w') (fun a ha=>?_) hK
  have e:ps.map (fun p=>(p.1,a.eval p.2))=vs.toArray:=by
   apply Array.ext';have:=hm a (fun x hx=>ha x (by simpa [ho,Op.operands]using hx));simpa using this
  simp[execOp,ho,e,hr]
 ·rename_i t l c ho;obtain⟨v,h1,_,h⟩:=cf h;obtain⟨u,h2,_,h⟩:=cf h;obtain⟨r,w',hr,hK⟩:=oO h;exact mg (w':=w') (fun a ha=>by simp[execOp,ho,ha l (by simp[ho,Op.operands]) v h1,ha c (by simp[ho,Op.operands]) u h2,hr]) hK
 ·rename_i t ho;refine mg (w':={w with heap:=w.heap.push (.map #[] 0)}) (fun a ha=>?_) (h.out _ (wF w _));simp[execOp,ho,Instr.makeMap]
 ·rename_i t m k x ho;obtain⟨v1,h1,_,h⟩:=cf h;obtain⟨v2,h2,_,h⟩:=cf h;obtain⟨v3,h3,_,h⟩:=cf h;obtain⟨w',hr,hK⟩:=h;exact BJ (w':=w') (fun a ha=>by simp[execOp,ho,ha m (by simp[ho,Op.operands]) _ h1,ha k (by simp[ho,Op.operands]) _ h2,ha x (by simp[ho,Op.operands]) _ h3,hr]) hK
 ·rename_i t m k x ho;obtain⟨v1,h1,_,h⟩:=cf h;obtain⟨v2,h2,_,h⟩:=cf h;obtain⟨v3,h3,_,h⟩:=cf h;obtain⟨w',hr,hK⟩:=h;exact BJ (w':=w') (fun a ha=>by simp[execOp,ho,ha m (by simp[ho,Op.operands]) _ h1,ha k (by simp[ho,Op.operands]) _ h2,ha x (by simp[ho,Op.operands]) _ h3,hr]) hK
 ·rename_i c ho
  have hargs:∀{vs:List Value},(∀a:Act,(∀x∈c.args.toList,∀v,(ba E x).val?=some v->a.eval x=v)->c.args.toList.map a.eval=vs)->∀a,Reads E o a->c.args.map a.eval=vs.toArray:=by
   intro vs hm a ha;apply Array.ext'
   have:=hm a (fun x hx=>ha x (by
    rw[ho];simp only[Op.operands,Call.operands,Array.mem_append];exact .inr (by simpa using hx)))
   simpa using this
  split at h
  ·rename_i f hcal;split at h
   ·rename_i g first cap hf
    split at h
    ·rename_i hb;obtain⟨vs,h,hm⟩:=nm h;intro a ha next Q hn
     have hfe:a.eval f=.func (.func g) first cap:=ha f (by simp[ho,Op.operands,Call.operands,hcal]) _ (by rw[hf];rfl)
     have e:=hargs hm a ha;unfold Oper.wp
     have hrun:(execOp a.eval o).run P w=.ok (.enter g (first.toList++vs++cap.toList).toArray) w:=by
      have e2:(first++vs.toArray++cap)=(first.toList++vs++cap.toList).toArray:=by apply Array.ext';simp
      simp only[execOp,ho,resolve,hcal,hfe,e,Deferred.ofValue,Sem.run_bind,Sem.run_pure,Result.andThen_ok,invoke];rw[e2];exact Ri hP hb _
     rw[hrun,Oper.upon_enter];refine Calls.mono h.out (fun ee w' he=>?_);obtain⟨v,rfl,hK⟩:=oO he;exact hn _ _ hK
    ·obtain⟨vs,h,hm⟩:=nm h;obtain⟨v,w',hr,hK⟩:=oO h|>.imp fun v h=>h
     refine mg (w':=w') (fun a ha=>?_) hK;have hfe:a.eval f=.func (.func g) first cap:=ha f (by simp[ho,Op.operands,Call.operands,hcal]) _ (by rw[hf];rfl)
     have e:=hargs hm a ha;have e2:(first++vs.toArray++cap)=(first.toList++vs++cap.toList).toArray:=by apply Array.ext';simp
     simp only[execOp,ho,resolve,hcal,hfe,e,Deferred.ofValue,Sem.run_bind,Sem.run_pure,Result.andThen_ok,invoke];rw[e2];exact hr
   ·exact h.elim
  ·rename_i hcal;obtain⟨vs,h,hm⟩:=nm h;obtain⟨r,w',hr,hK⟩:=oO h;exact mg (w':=w') (fun a ha=>by simp[execOp,ho,resolve,hcal,hargs hm a ha,invoke,builtin,hr]) hK
  ·rename_i hcal;obtain⟨vs,h,hm⟩:=nm h;obtain⟨r,w',hr,hK⟩:=oO h;exact mg (w':=w') (fun a ha=>by simp[execOp,ho,resolve,hcal,hargs hm a ha,invoke,builtin,hr]) hK
  ·rename_i hcal;obtain⟨vs,h,hm⟩:=nm h;obtain⟨r,w',hr,hK⟩:=oO h;exact mg (w':=w') (fun a ha=>by simp[execOp,ho,resolve,hcal,hargs hm a ha,invoke,builtin,hr]) hK
  ·rename_i hcal;obtain⟨vs,h,hm⟩:=nm h;obtain⟨r,w',hr,hK⟩:=oO h;exact mg (w':=w') (fun a ha=>by simp[execOp,ho,resolve,hcal,hargs hm a ha,invoke,builtin,hr]) hK
  ·rename_i hcal;obtain⟨vs,h,hm⟩:=nm h;obtain⟨r,w',hr,hK⟩:=oO h;exact mg (w':=w') (fun a ha=>by simp[execOp,ho,resolve,hcal,hargs hm a ha,invoke,builtin,hr]) hK
  ·exact h.elim
 ·exact h.elim
end
def wb:Op->Bool
 | .store _ _ _=>true
 | .alloc _=>true
 | .box _ _=>true
 | .buildSlice _ _ _=>true
 | .makeSlice _ _ _=>true
 | .makeMap _ _=>true
 | .mapUpdate _ _ _ _=>true
 | .insert _ _ _ _=>true
 | .call c=>match c.callee with
  | .builtin .len=>false
  | _=>true
 | _=>false
def ED (P:Program) (o:Oper) (E:Env) (w:World) (K:SV->World->Prop):Prop:=match wb o.op with
 | true=>wI P o E w K
 | false=>Aw P o E w fun s=>K s w
theorem VY {P:Program} {o:Oper} {E:Env} {w:World} {K:SV->World->Prop} (hP:fF P=true) (h:ED P o E w K):uE P o E w K:=by
 unfold ED at h;split at h
 ·exact VZ hP h
 ·obtain⟨s,hq,_,hK⟩:=V1 h;exact hq.X9 hK
def nQ (N:Nat) (E:Env) (dst:Option Tmp) (s:SV) (K:Env->Prop):Prop:=match dst with
 | none=>K E
 | some d=>match Nat.ble (d+1) N with
  | true=>K (E.put d s)
  | false=>False
theorem AI {N:Nat} {E:Env} {dst:Option Tmp} {s:SV} {K:Env->Prop} {a:Act} (h:nQ N E dst s K) (ha:aX N E a):∃E',aX N E' (a.put dst s.val)/\K E':=by
 unfold nQ at h
 cases dst with
 | none=>exact⟨E,ha,h⟩
 | some d=>
  simp only at h;split at h
  ·rename_i hd;exact⟨_,ha.put d (Nat.le_of_ble_eq_true hd) s,h⟩
  ·exact h.elim
def pY (ops:List Oper) (j:Nat):Option Tmp:=match ops[j]? with
 | some o=>o.dst
 | none=>none
def zK (ops:List Oper) (o:Oper) (E:Env) (run skip:Env->Prop):Prop:=match o.guard with
 | none=>run E
 | some (j,want)=>match pY ops j with
  | none=>False
  | some d=>match E.get d with
   | .b true=>match want with
    | true=>run E
    | false=>skip E
   | .b false=>match want with
    | true=>skip E
    | false=>run E
   | .v (.bool x)=>(x=want->run (E.put d (.b want)))/\(x=(!want)->skip (E.put d (.b (!want))))
   | .v (.tuple _)=>skip E
   | _=>False
def lA (ops:List Oper) (E:Env) (o:Oper) (a:Act):Prop:=
 ∀j want d,o.guard=some (j,want)->pY ops j=some d->∀v,(E.get d).val?=some v->a.tmps[d]?=some v
def qU (E E':Env):Prop:=∀t,(E'.get t).val?=(E.get t).val?
theorem qU.refl (E:Env):qU E E:=fun _=>rfl
theorem WT {E:Env} {d:Nat} {b:Bool} (h:(E.get d).val?=some (.bool b)):qU E (E.put d (.b b)):=by
 intro t;rw[Env.zF];split
 ·rename_i ht;subst ht;rw[h];rfl
 ·rfl
theorem aX.same {N:Nat} {E E':Env} {a:Act} (h:aX N E a) (hs:qU E E'):aX N E' a:=
 ⟨h.size,h.gx,fun t x hx=>h.jI t x (by rw[<-hs t];exact hx)⟩
theorem aX.zJ {N:Nat} {E:Env} {a:Act} (h:aX N E a) (ops:List Oper) (o:Oper):lA ops E o a:=fun _ _ d _ _ v hv=>h.jI d v hv
def wantedAt (ops:Array Oper) (o:Oper) (a:Act):Bool:=Region.wanted o (yielded ops a.tmps)
theorem am6 {ops:Array Oper} {l:List Oper} (hl:ops.toList=l) {a:Act} {j d:Nat} (hd:pY l j=some d):yielded ops a.tmps j=match a.tmps[d]? with|some (.bool b)=>some b|_=>none:=by
 have h1:(ops[j]?).bind (·.dst)=some d:=by
  subst hl;unfold pY at hd
  cases h:ops[j]? with
  | none=>simp[h]at hd
  | some o=>simpa [h]using hd
 unfold yielded;rw[h1];rfl
theorem zL {ops:Array Oper} {l:List Oper} (hl:ops.toList=l) {o:Oper} {E:Env} {run skip:Env->Prop} (h:zK l o E run skip) :
  ∃E',qU E E'/\((run E'/\∀a,lA l E o a->wantedAt ops o a=true)∨(skip E'/\∀a,lA l E o a->wantedAt ops o a=false)):=by
 unfold zK at h;split at h
 ·rename_i hg;exact⟨E,.refl E,.inl ⟨h,fun a _=>by simp[wantedAt,Region.wanted,hg]⟩⟩
 ·rename_i j want hg;split at h
  ·exact h.elim
  ·rename_i d hd
   have key:∀(a:Act) (v:Value),lA l E o a->(E.get d).val?=some v->wantedAt ops o a=((match v with|.bool b=>some b|_=>none)==some want):=by
    intro a v ha hv;simp only[wantedAt,Region.wanted,hg];rw[am6 hl hd,ha j want d hg hd v hv];cases v<;>rfl
   split at h
   ·rename_i he
    cases want with
    | true=>exact⟨E,.refl E,.inl ⟨h,fun a ha=>by rw[key a _ ha (by rw[he];rfl)];rfl⟩⟩
    | false=>exact⟨E,.refl E,.inr ⟨h,fun a ha=>by rw[key a _ ha (by rw[he];rfl)];rfl⟩⟩
   ·rename_i he
    cases want with
    | true=>exact⟨E,.refl E,.inr ⟨h,fun a ha=>by rw[key a _ ha (by rw[he];rfl)];rfl⟩⟩
    | false=>exact⟨E,.refl E,.inl ⟨h,fun a ha=>by rw[key a _ ha (by rw[he];rfl)];rfl⟩⟩
   ·rename_i x he;by_cases hx:x=want
    ·subst hx;exact⟨_,WT (by rw[he];rfl),.inl ⟨h.1 rfl,fun a ha=>by rw[key a _ ha (by rw[he];rfl)];simp⟩⟩
    ·have hx':x = !want:=by cases x<;>cases want<;>simp_all
     subst hx';exact⟨_,WT (by rw[he];rfl),.inr ⟨h.2 rfl,fun a ha=>by rw[key a _ ha (by rw[he];rfl)];cases want<;>rfl⟩⟩
   ·rename_i he;exact⟨E,.refl E,.inr ⟨h,fun a ha=>by rw[key a _ ha (by rw[he];rfl)];rfl⟩⟩
   ·exact h.elim
def ud (P:Program) (N:Nat) (ops:List Oper):List Oper->Env->World->(Env->World->Prop)->Prop
 | [],E,w,K=>K E w
 | o::os,E,w,K=>zK ops o E
   (fun E=>ED P o E w fun s w'=>nQ N E o.dst s fun E=>ud P N ops os E w' K)
   (fun E=>nQ N E o.dst (.v undef) fun E=>ud P N ops os E w K)
theorem AY {P:Program} {N:Nat} {ops:Array Oper} {l:List Oper} (hP:fF P=true) (hl:ops.toList=l) {Q:Exit->Act->World->Prop} {K:Env->World->Prop}
  (hQ:∀E a w,aX N E a->K E w->Q .normal a w):∀(os:List Oper) (E:Env) (a:Act) (w:World),aX N E a->ud P N l os E w K->wpList P ops Q os a w
 | [],E,a,w,ha,h=>hQ E a w ha h
 | o::os,E,a,w,ha,h=>by
  obtain⟨E',hs,h⟩:=zL hl h;have ha':=ha.same hs;unfold wpList;rcases h with⟨h,hw⟩|⟨h,hw⟩
  ·have hw:=hw a (ha.zJ l o);unfold wantedAt at hw;rw[if_pos hw];refine .inl (VY hP h a (ha'.reads o) _ Q (fun s w' hp=>?_));obtain⟨E2,ha2,hp⟩:=AI hp ha';exact AY hP hl hQ os E2 _ w' ha2 hp
  ·have hw:=hw a (ha.zJ l o);unfold wantedAt at hw;rw[if_neg (by rw[hw];simp)];obtain⟨E2,ha2,hp⟩:=AI h ha';exact AY hP hl hQ os E2 _ w ha2 hp
def nr (e:Edge):Bool:=match e.ground with
 | .textOnly _=>false
 | .gcOnly _=>false
 | _=>true
theorem LR (e:Edge):Region.binds .any e=nr e:=by
 obtain⟨on,g⟩:=e;cases g<;>rfl
def pP (B:List Nat) (es:List Edge):Nat:=es.foldr (fun e s=>match nr e with
 | true=>s||| (2 ^ e.on||| B.getD e.on 0)
 | false=>s) 0
def kv:List Oper->List Nat->List Nat
 | [],B=>B
 | o::os,B=>kv os (B++[pP B o.after.toList])
def slotsOf (ops:List Oper) (o:Oper):List Tmp:=
 (o.op.operands.toList.filterMap fun x=>match x with
  | .tmp t=>some t
  | _=>none)++
 (match o.guard with
   | some (j,_)=>(pY ops j).toList
   | none=>[])
def vo (x:Option Tmp) (t:Tmp):Bool:=match x with
 | some d=>Nat.beq d t
 | none=>false
def qY (N:Nat) (B:List Nat):Nat->List Oper->Bool
 | _,[]=>true
 | i,o::os=>Nat.beq (B.getD i 0) (pP B o.after.toList)&&o.after.toList.all (fun e=>!nr e||Nat.ble (e.on+1) i)&&
   (match o.dst with
       | some d=>Nat.ble (d+1) N
       | none=>true)&&qY N B (i+1) os
def vE (ops:List Oper) (B:List Nat) (i:Nat) (o:Oper) (t:Tmp):Nat->List Oper->Bool
 | _,[]=>true
 | j,p::ps=>(!vo p.dst t||Nat.beq i j||(B.getD i 0).testBit j||(B.getD j 0).testBit i)&&vE ops B i o t (j+1) ps
def qZ (ops:List Oper) (B:List Nat):Nat->List Oper->Bool
 | _,[]=>true
 | i,o::os=>(slotsOf ops o).all (fun t=>vE ops B i o t 0 ops)&&(match o.dst with
   | some d=>os.all fun p=>!vo p.dst d
   | none=>true)&&qZ ops B (i+1) os
def FF (P:Program) (o:Oper) (E:Env) (w:World) (s:SV):Prop:=match o.op with
 | .load t a=>match ij P t with
  | false=>match cF P t with
   | true=>bZ (ba E a) fun v=>o7 v fun ad=>w.cell? ad=some s.val
   | false=>False
  | true=>match cF P t with
   | true=>match s with
    | .v (.agg cs)=>match Nat.beq cs.toList.length (bg P t)with
     | true=>bZ (ba E a) fun v=>o7 v fun ad=>Gt w ad cs.toList
     | false=>False
    | _=>Quiet P o E w s
   | false=>False
 | _=>Quiet P o E w s
def uo (P:Program) (ops:List Oper) (Bi:Nat) (w:World):List (Nat×Env×SV)->Prop->Prop
 | [],X=>X
 | (j,E,s)::r,X=>match Bi.testBit j with
  | true=>uo P ops Bi w r X
  | false=>match ops[j]? with
   | some o=>FF P o E w s/\uo P ops Bi w r X
   | none=>False
section draw
variable {P:Program} {N:Nat} {opa:Array Oper} {ops:List Oper} {B:List Nat} {E0:Env} {a0:Act}
theorem age {o:Oper} {E:Env} {w:World} {s:SV} (h:FF P o E w s):Quiet P o E w s:=by
 unfold FF at h;split at h
 ·rename_i t x ho;split at h
  ·rename_i hg;split at h
   ·rename_i hk;obtain⟨v,h1,_,h⟩:=cf h;obtain⟨ad,hp,hc⟩:=qk h;subst hp;intro a ha;have hl:(loadVar t ad).run P w=.ok s.val w:=by simp[loadVar,uc hk,hg,hc]
    simp[execOp,ho,ha x (by simp[ho,Op.operands]) _ h1,Instr.loadAt,Instr.sureAddr,hl]
   ·exact h.elim
  ·rename_i hg;split at h
   ·rename_i hk;split at h
    ·rename_i cs;split at h
     ·rename_i hb;obtain⟨v,h1,_,h⟩:=cf h;obtain⟨ad,hp,hc⟩:=qk h;subst hp;intro a ha;have hlen:=Nat.eq_of_beq_eq_true hb
      have hl:(loadVar t ad).run P w=.ok (.agg cs) w:=by
       have:=run_loadCells_list (P:=P) w ad cs.toList hc;simp only[Array.length_toList]at hlen;simp[loadVar,uc hk,hg,j7 hk,<-hlen]at this⊢;rw[this];rfl
      simp[execOp,ho,ha x (by simp[ho,Op.operands]) _ h1,Instr.loadAt,Instr.sureAddr,hl,SV.val]
     ·exact h.elim
    ·exact h
   ·exact h.elim
 ·exact h
theorem FG {Bi:Nat} {w:World}:∀{b5:List (Nat×Env×SV)} {X:Prop},uo P ops Bi w b5 X->
  X/\∀j E s,(j,E,s)∈b5->Bi.testBit j=false->∃o,ops[j]?=some o/\Quiet P o E w s
 | [],_,h=>⟨h,fun _ _ _ hm=>by cases hm⟩
 | (j,E,s)::r,X,h=>by
  unfold uo at h;split at h
  ·rename_i hb;obtain⟨hX,hr⟩:=FG h;refine⟨hX,fun j' E' s' hm hb'=>?_⟩;rcases List.mem_cons.1 hm with he|hm
   ·cases he;rw[hb]at hb';cases hb'
   ·exact hr j' E' s' hm hb'
  ·split at h
   ·rename_i o ho;obtain⟨hX,hr⟩:=FG h.2;refine⟨hX,fun j' E' s' hm hb'=>?_⟩;rcases List.mem_cons.1 hm with he|hm
    ·cases he;exact⟨o,ho,age h.1⟩
    ·exact hr j' E' s' hm hb'
   ·exact h.elim
def writes (ops:List Oper) (j:Nat) (t:Tmp):Prop:=pY ops j=some t
theorem By {j:Nat} {t:Tmp} (h:writes ops j t):∃o,ops[j]?=some o/\o.dst=some t:=by
 unfold writes pY at h
 cases ho:ops[j]? with
 | none=>rw[ho]at h;cases h
 | some o=>rw[ho]at h;exact⟨o,rfl,h⟩
theorem Bx {j:Nat} {t:Tmp} {o:Oper} (ho:ops[j]?=some o):writes ops j t↔o.dst=some t:=by
 simp[writes,pY,ho]
theorem LP {x:Option Tmp} {t:Tmp}:vo x t=true↔x=some t:=by
 cases x with
 | none=>simp[vo]
 | some d=>simp[vo]
theorem Rm:∀{os:List Oper} {k:Nat},qY N B k os=true->∀i o,os[i]?=some o->
  B.getD (k+i) 0=pP B o.after.toList/\(∀e∈o.after.toList,nr e=true->e.on<k+i)/\(∀d,o.dst=some d->d<N)
 | [],_,_,i,o,ho=>by simp at ho
 | p::os,k,h,i,o,ho=>by
  simp only[qY,Bool.and_eq_true]at h;obtain⟨⟨⟨h1,h2⟩,h3⟩,h4⟩:=h
  cases i with
  | zero=>
   simp only[List.getElem?_cons_zero,Option.some.injEq]at ho;subst ho;refine⟨Nat.eq_of_beq_eq_true h1,fun e he hb=>?_,fun d hd=>?_⟩
   ·have:=List.all_eq_true.1 h2 e he;rw[hb]at this;exact Nat.le_of_ble_eq_true (by simpa using this)
   ·rw[hd]at h3
    exact Nat.le_of_ble_eq_true h3
  | succ i=>
   have:=Rm h4 i o (by simpa using ho);rw[show k+1+i=k+(i+1) by omega]at this;exact this
theorem YB {es:List Edge} {j:Nat}:(pP B es).testBit j=true↔∃e∈es,nr e=true/\(e.on=j∨(B.getD e.on 0).testBit j=true):=by
 induction es with
 | nil=>simp[pP]
 | cons e es ih=>
  simp only[pP,List.foldr_cons];rw[show es.foldr (fun e s=>match nr e with|true=>s||| (2 ^ e.on||| B.getD e.on 0)|false=>s) 0=pP B es from rfl]
  cases hb:nr e with
  | false=>
   simp only[List.mem_cons];rw[ih];constructor
   ·rintro⟨x,hx,h⟩;exact⟨x,.inr hx,h⟩
   ·rintro⟨x,rfl|hx,h⟩
    ·rw[hb]at h;cases h.1
    ·exact⟨x,hx,h⟩
  | true=>
   simp only[Nat.testBit_or,Bool.or_eq_true,ih,Nat.testBit_two_pow,decide_eq_true_eq,List.mem_cons];constructor
   ·rintro(⟨x,hx,h⟩|h)
    ·exact⟨x,.inr hx,h⟩
    ·exact⟨e,.inl rfl,hb,h⟩
   ·rintro⟨x,rfl|hx,h⟩
    ·exact .inr h.2
    ·exact .inl ⟨x,hx,h⟩
theorem Ro {i:Nat} {o:Oper} {t:Tmp}:∀{ps:List Oper} {k:Nat},vE ops B i o t k ps=true->∀j p,ps[j]?=some p->p.dst=some t->
  i=k+j∨(B.getD i 0).testBit (k+j)=true∨(B.getD (k+j) 0).testBit i=true
 | [],_,_,j,p,hp,_=>by simp at hp
 | q::ps,k,h,j,p,hp,ht=>by
  simp only[vE,Bool.and_eq_true,Bool.or_eq_true]at h
  cases j with
  | zero=>
   simp only[List.getElem?_cons_zero,Option.some.injEq]at hp;subst hp;rcases h.1 with((h1|h1)|h1)|h1
   ·rw[LP.2 ht]at h1;cases h1
   ·exact .inl (Nat.eq_of_beq_eq_true h1)
   ·exact .inr (.inl h1)
   ·exact .inr (.inr h1)
  | succ j=>
   have:=Ro h.2 j p (by simpa using hp) ht;rw[show k+1+j=k+(j+1) by omega]at this;exact this
theorem yT:∀{os:List Oper} {k:Nat},qZ ops B k os=true->∀i o,os[i]?=some o->
  (∀t∈slotsOf ops o,vE ops B (k+i) o t 0 ops=true)/\(∀d,o.dst=some d->∀j p,i<j->os[j]?=some p->p.dst≠some d)
 | [],_,_,i,o,ho=>by simp at ho
 | q::os,k,h,i,o,ho=>by
  simp only[qZ,Bool.and_eq_true]at h;obtain⟨⟨h1,h2⟩,h3⟩:=h
  cases i with
  | zero=>
   simp only[List.getElem?_cons_zero,Option.some.injEq]at ho;subst ho;refine⟨fun t ht=>List.all_eq_true.1 h1 t ht,fun d hd j p hj hp=>?_⟩;rw[hd]at h2
   cases j with
   | zero=>omega
   | succ j=>
    have:=List.all_eq_true.1 h2 p (List.mem_of_getElem? (by simpa using hp));intro hpd;rw[LP.2 hpd]at this
    cases this
  | succ i=>
   have:=yT h3 i o (by simpa using ho);rw[show k+1+i=k+(i+1) by omega]at this;refine⟨this.1,fun d hd j p hj hp=>?_⟩
   cases j with
   | zero=>omega
   | succ j=>exact this.2 d hd j p (by omega) (by simpa using hp)
structure Good (N:Nat) (ops:List Oper) (B:List Nat):Prop where
 zw:∀i o,ops[i]?=some o->B.getD i 0=pP B o.after.toList/\(∀e∈o.after.toList,nr e=true->e.on<i)/\(∀d,o.dst=some d->d<N)
 cmp:∀i o,ops[i]?=some o->∀t∈slotsOf ops o,∀j,writes ops j t->i=j∨(B.getD i 0).testBit j=true∨(B.getD j 0).testBit i=true
 once:∀i j t,writes ops i t->writes ops j t->i=j
theorem abD (h1:qY N B 0 ops=true) (h2:qZ ops B 0 ops=true):Good N ops B:=by
 refine⟨fun i o ho=>?_,fun i o ho t ht j hj=>?_,fun i j t hi hj=>?_⟩
 ·have:=Rm h1 i o ho
  rwa [Nat.zero_add]at this
 ·have:=(yT h2 i o ho).1 t ht;rw[Nat.zero_add]at this;obtain⟨p,hp,hd⟩:=By hj;have:=Ro this j p hp hd
  rwa [Nat.zero_add]at this
 ·obtain⟨p,hp,hd⟩:=By hi;obtain⟨q,hq,hd2⟩:=By hj;rcases Nat.lt_trichotomy i j with h|h|h
  ·exact absurd hd2 ((yT h2 i p hp).2 t hd j q h hq)
  ·exact h
  ·exact absurd hd ((yT h2 j q hq).2 t hd2 i p h hp)
def rR (B:List Nat) (m:Nat):Prop:=∀j,m.testBit j=true->∀k,(B.getD j 0).testBit k=true->m.testBit k=true
def xr (B:List Nat) (b:Nat->Bool):Prop:=∀j,b j=true->∀k,(B.getD j 0).testBit k=true->b k=true
def l7 (ops:List Oper) (E0:Env) (m:Nat) (V:Nat->Value) (E:Env):Prop:=
 ∀t x,(E.get t).val?=some x->(∀j,writes ops j t->m.testBit j=true->V j=x)/\((∀j,writes ops j t->m.testBit j=false)->(E0.get t).val?=some x)
structure qE (N:Nat) (ops:List Oper) (a0:Act) (b:Nat->Bool) (V:Nat->Value) (a:Act):Prop where
 size:a.tmps.size=N
 gx:a.defers=[]
 done:∀t j,writes ops j t->b j=true->a.tmps[t]?=some (V j)
 j6:∀t,(∀j,writes ops j t->b j=false)->a.tmps[t]?=a0.tmps[t]?
theorem l7.same {m:Nat} {V:Nat->Value} {E E':Env} (h:l7 ops E0 m V E) (hs:qU E E'):l7 ops E0 m V E':=
 fun t x hx=>h t x (by rw[<-hs t];exact hx)
theorem Fx (hg:Good N ops B) (h0:aX N E0 a0) {m:Nat} {b:Nat->Bool} {V:Nat->Value} {E:Env} {a:Act} {i:Nat} {o:Oper}
  (hm:rR B m) (hb:xr B b) (hE:l7 ops E0 m V E) (ha:qE N ops a0 b V a) (ho:ops[i]?=some o)
  (him:m.testBit i=false) (hib:b i=false) (hBm:∀k,(B.getD i 0).testBit k=true->m.testBit k=true) (hBb:∀k,(B.getD i 0).testBit k=true->b k=true)
  {t:Tmp} (ht:t∈slotsOf ops o) {x:Value} (hx:(E.get t).val?=some x):a.tmps[t]?=some x:=by
 have hno:∀j,writes ops j t->(i=j∨(B.getD j 0).testBit i=true)->m.testBit j=false/\b j=false:=by
  intro j _ hc;rcases hc with rfl|hc
  ·exact⟨him,hib⟩
  ·refine⟨?_,?_⟩
   ·cases hmj:m.testBit j with
    | false=>rfl
    | true=>rw[hm j hmj i hc]at him;cases him
   ·cases hbj:b j with
    | false=>rfl
    | true=>rw[hb j hbj i hc]at hib;cases hib
 by_cases hw:∃j,writes ops j t
 ·obtain⟨j,hj⟩:=hw;rcases hg.cmp i o ho t ht j hj with hc|hc|hc
  ·obtain⟨h1,h2⟩:=hno j hj (.inl hc);have hall:∀k,writes ops k t->k=j:=fun k hk=>hg.once k j t hk hj;rw[ha.j6 t (fun k hk=>by rw[hall k hk];exact h2)];exact h0.jI t x ((hE t x hx).2 (fun k hk=>by rw[hall k hk];exact h1))
  ·rw[ha.done t j hj (hBb j hc),(hE t x hx).1 j hj (hBm j hc)]
  ·obtain⟨h1,h2⟩:=hno j hj (.inr hc);have hall:∀k,writes ops k t->k=j:=fun k hk=>hg.once k j t hk hj;rw[ha.j6 t (fun k hk=>by rw[hall k hk];exact h2)];exact h0.jI t x ((hE t x hx).2 (fun k hk=>by rw[hall k hk];exact h1))
 ·rw[ha.j6 t (fun k hk=>absurd ⟨k,hk⟩ hw)];exact h0.jI t x ((hE t x hx).2 (fun k hk=>absurd ⟨k,hk⟩ hw))
theorem EV {E:Env} {o:Oper} {a:Act} (h:∀t∈slotsOf ops o,∀x,(E.get t).val?=some x->a.tmps[t]?=some x):Reads E o a/\lA ops E o a:=by
 constructor
 ·intro x hx v hv
  cases x with
  | tmp t=>
   have ht:t∈slotsOf ops o:=by
    unfold slotsOf;refine List.mem_append.2 (.inl (List.mem_filterMap.2 ⟨.tmp t,by simpa using hx,rfl⟩))
   have:=h t ht v hv
   simp[Act.eval,this]
  | const c=>cases c<;>simp_all [ba,SV.val?,Act.eval]
  | global g=>simpa [ba,SV.val?,Act.eval]using hv
  | func f=>simpa [ba,SV.val?,Act.eval]using hv
 ·intro j want d hg hd v hv;refine h d ?_ v hv;unfold slotsOf;refine List.mem_append.2 (.inr ?_);rw[hg];simp[hd]
def eL (b:Nat->Bool) (i:Nat):Nat->Bool:=fun j=>if j=i then true else b j
def ic (V:Nat->Value) (i:Nat) (v:Value):Nat->Value:=fun j=>if j=i then v else V j
theorem Lm (hg:Good N ops B) {b:Nat->Bool} {V:Nat->Value} {a:Act} {i:Nat} {o:Oper} (ha:qE N ops a0 b V a) (ho:ops[i]?=some o) (v:Value) (hv:V i=v) :
  qE N ops a0 (eL b i) V (a.put o.dst v):=by
 cases hd:o.dst with
 | none=>
  refine⟨ha.size,ha.gx,fun t j hj hb=>?_,fun t hall=>?_⟩
  ·have hji:j≠i:=by
    rintro rfl;rw[Bx ho,hd]at hj;cases hj
   simp only[eL,hji,if_false]at hb;exact ha.done t j hj hb
  ·refine ha.j6 t (fun j hj=>?_);have:=hall j hj;simp only[eL]at this;split at this
   ·cases this
   ·exact this
 | some d=>
  have hdN:=(hg.zw i o ho).2.2 d hd;have hwi:writes ops i d:=(Bx ho).2 hd;refine⟨by simpa [Act.put]using ha.size,ha.gx,fun t j hj hb=>?_,fun t hall=>?_⟩
  ·by_cases hji:j=i
   ·subst hji;have:d=t:=by unfold writes at hwi hj;rw[hwi]at hj;exact Option.some.inj hj
    subst this;simp[Act.put,ha.size,hdN,hv]
   ·simp only[eL,hji,if_false]at hb;have hne:d≠t:=fun e=>hji (hg.once j i t hj (e ▸ hwi));simp only[Act.put];rw[Array.getElem?_setIfInBounds_ne hne];exact ha.done t j hj hb
  ·have hne:d≠t:=fun e=>by
    have:=hall i (e ▸ hwi);simp[eL]at this
   simp only[Act.put];rw[Array.getElem?_setIfInBounds_ne hne];refine ha.j6 t (fun j hj=>?_);have:=hall j hj;simp only[eL]at this;split at this
   ·cases this
   ·exact this
theorem jG {m i j:Nat}:(m||| 2 ^ i).testBit j=(m.testBit j||decide (i=j)):=by
 rw[Nat.testBit_or,Nat.testBit_two_pow]
theorem DA (hg:Good N ops B) {m:Nat} {V:Nat->Value} {E:Env} {i:Nat} {o:Oper} (hE:l7 ops E0 m V E) (ho:ops[i]?=some o) (him:m.testBit i=false) {s:SV} {K:Env->Prop}
  (h:nQ N E o.dst s K):∃E',K E'/\l7 ops E0 (m||| 2 ^ i) (ic V i s.val) E':=by
 unfold nQ at h
 cases hd:o.dst with
 | none=>
  rw[hd]at h;refine⟨E,h,fun t x hx=>⟨fun j hj hb=>?_,fun hall=>?_⟩⟩
  ·have hji:j≠i:=by
    rintro rfl;rw[Bx ho,hd]at hj;cases hj
   rw[jG]at hb;simp only[ic,hji,if_false];exact(hE t x hx).1 j hj (by simpa [Ne.symm hji]using hb)
  ·refine(hE t x hx).2 (fun j hj=>?_);have:=hall j hj;rw[jG]at this;simp only[Bool.or_eq_false_iff]at this
   exact this.1
 | some d=>
  rw[hd]at h;simp only at h;split at h
  ·have hwi:writes ops i d:=(Bx ho).2 hd;refine⟨_,h,fun t x hx=>?_⟩;rw[Env.zF]at hx;by_cases ht:t=d
   ·subst ht;rw[if_pos rfl]at hx;refine⟨fun j hj _=>?_,fun hall=>?_⟩
    ·have:j=i:=hg.once j i t hj hwi;subst this;simp only[ic,if_true];cases s<;>simp_all [SV.val?,SV.val]
    ·have:=hall i hwi;rw[jG]at this;simp at this
   ·rw[if_neg ht]at hx;refine⟨fun j hj hb=>?_,fun hall=>?_⟩
    ·have hji:j≠i:=by
      rintro rfl;unfold writes at hwi hj;rw[hwi]at hj;exact ht (Option.some.inj hj).symm
     rw[jG]at hb;simp only[ic,hji,if_false];exact(hE t x hx).1 j hj (by simpa [Ne.symm hji]using hb)
    ·refine(hE t x hx).2 (fun j hj=>?_);have:=hall j hj;rw[jG]at this;simp only[Bool.or_eq_false_iff]at this;exact this.1
  ·exact h.elim
end draw
section draw2
variable {P:Program} {N:Nat} {opa:Array Oper} {ops:List Oper} {B:List Nat} {E0:Env} {a0:Act} {K:Env->World->Prop}
def Told (P:Program) (ops:List Oper) (opa:Array Oper) (B:List Nat) (E0:Env) (m:Nat) (V:Nat->Value) (w:World) (b5:List (Nat×Env×SV)) (i:Nat):Prop:=
 ∃o E mi,ops[i]?=some o/\rR B mi/\mi.testBit i=false/\(∀k,(B.getD i 0).testBit k=true->mi.testBit k=true)/\(∀k,mi.testBit k=true->m.testBit k=true)/\
  l7 ops E0 mi V E/\
  (((∀a,lA ops E o a->wantedAt opa o a=true)/\∃s,Quiet P o E w s/\(mL P o=false->∀w',Quiet P o E w' s)/\(mL P o=true->(i,E,s)∈b5)/\s.val=V i)∨
     ((∀a,lA ops E o a->wantedAt opa o a=false)/\V i=undef))
theorem DB {m mi:Nat} {V:Nat->Value} {E:Env} {i:Nat} (h:l7 ops E0 mi V E) (hs:∀k,mi.testBit k=true->m.testBit k=true) (him:m.testBit i=false) (v:Value) :
  l7 ops E0 mi (ic V i v) E:=fun t x hx=>⟨fun j hj hb=>by
   have:j≠i:=by rintro rfl;rw[hs j hb]at him;cases him
   simp only[ic,this,if_false];exact(h t x hx).1 j hj hb,(h t x hx).2⟩
theorem FW {m:Nat} {V:Nat->Value} {w:World} {b5 pend':List (Nat×Env×SV)} {i j:Nat} {v:Value} (h:Told P ops opa B E0 m V w b5 j) (hj:m.testBit j=true)
  (him:m.testBit i=false) (hp:∀x,x∈b5->x∈pend'):Told P ops opa B E0 (m||| 2 ^ i) (ic V i v) w pend' j:=by
 obtain⟨o,E,mi,h1,h2,h3,h4,h5,h6,h7⟩:=h;have hji:j≠i:=by rintro rfl;rw[hj]at him;cases him
 refine⟨o,E,mi,h1,h2,h3,h4,fun k hk=>by rw[jG,h5 k hk];rfl,DB h6 h5 him v,?_⟩;simp only[ic,hji,if_false];rcases h7 with⟨h7,s,h8,h9,h10,h11⟩|h7
 ·exact .inl ⟨h7,s,h8,h9,fun hr=>hp _ (h10 hr),h11⟩
 ·exact .inr h7
theorem CA {m i:Nat} (h:rR B m) (hB:∀k,(B.getD i 0).testBit k=true->m.testBit k=true):rR B (m||| 2 ^ i):=by
 intro j hj k hk;rw[jG]at hj⊢;simp only[Bool.or_eq_true,decide_eq_true_eq]at hj⊢;rcases hj with hj|rfl
 ·exact .inl (h j hj k hk)
 ·exact .inl (hB k hk)
def bO (l:Array Bool):Nat->Bool:=fun i=>l.getD i false
theorem mem_ready {l:Array Bool} (hl:opa.toList=ops) (hs:l.size=ops.length) {i:Nat} (hi:i∈Region.ready .any opa l) :
  ∃o,ops[i]?=some o/\bO l i=false/\∀e∈o.after.toList,nr e=true->e.on<ops.length->bO l e.on=true:=by
 unfold Region.ready at hi;rw[List.mem_filter,List.mem_range]at hi;obtain⟨h1,h2⟩:=hi;have hsz:opa.size=ops.length:=by rw[<-hl];simp
 simp only[Bool.and_eq_true]at h2;obtain⟨h2,h3⟩:=h2;have hget:opa[i]?=some opa[i]:=Array.getElem?_eq_getElem h1;have ho:ops[i]?=some opa[i]:=by rw[<-hl];simp
 refine⟨_,ho,?_,fun e he hb hlt=>?_⟩
 ·have hil:i<l.size:=by omega
  simp only[bO,Array.getD_eq_getD_getElem?,Array.getElem?_eq_getElem hil,Option.getD_some]at h2⊢;simpa using h2
 ·rw[hget]at h3;simp only[Option.map_some,Option.getD_some]at h3;rw[<-Array.all_toList]at h3;have:=List.all_eq_true.1 h3 e he;rw[LR,hb]at this;simpa [bO]using this
end draw2
inductive OT where
 | fin
 | step (i:Nat) (t:OT)
 | alt (a b:OT)
def OT.mA:OT->List Nat
 | .fin=>[]
 | .step i _=>[i]
 | .alt a b=>a.mA++b.mA
def sX (ops:List Oper) (i:Nat):Bool:=match ops[i]? with
 | some o=>wb o.op
 | none=>false
def DL (ops:List Oper) (i:Nat):Bool:=match ops[i]? with
 | some o=>(match o.guard with|none=>true|some _=>false)
 | none=>false
def vH (ops:List Oper) (B:List Nat) (m:Nat) (l:List Nat):Bool:=(List.range ops.length).all fun i=>m.testBit i||l.any (Nat.beq i)||!(Nat.beq (B.getD i 0&&& m) (B.getD i 0))
def jQ (ops:List Oper) (B:List Nat):Nat->Bool->OT->Bool
 | m,_,.fin=>Nat.beq m (2 ^ ops.length-1)
 | m,al,.step i t=>Nat.ble (i+1) ops.length&&!m.testBit i&&Nat.beq (B.getD i 0&&& m) (B.getD i 0)&&
   (match al with
    | true=>sX ops i&&DL ops i
    | false=>(!sX ops i||vH ops B m [i]))&&jQ ops B (m||| 2 ^ i) false t
 | m,al,.alt a b=>(match al with
    | true=>true
    | false=>!(a.mA++b.mA).isEmpty&&vH ops B m (a.mA++b.mA))&&jQ ops B m true a&&jQ ops B m true b
def jw (P:Program) (N:Nat) (ops:List Oper) (B:List Nat):OT->Env->World->List (Nat×Env×SV)->(Env->World->Prop)->Prop
 | .fin,E,w,_,K=>K E w
 | .step i L,E,w,b5,K=>match ops[i]? with
  | none=>False
  | some o=>zK ops o E
   (fun E=>match wb o.op with
    | false=>Aw P o E w fun s=>nQ N E o.dst s fun E'=>jw P N ops B L E' w (match mL P o with
     | true=>(i,E,s)::b5
     | false=>b5) K
    | true=>wI P o E w fun s w'=>uo P ops (B.getD i 0) w' b5 (nQ N E o.dst s fun E'=>jw P N ops B L E' w' b5 K))
   (fun E=>nQ N E o.dst (.v undef) fun E'=>jw P N ops B L E' w b5 K)
 | .alt a b,E,w,b5,K=>jw P N ops B a E w b5 K/\jw P N ops B b E w b5 K
def vL (P:Program) (N:Nat) (ops:List Oper) (L:OT) (E:Env) (w:World) (K:Env->World->Prop):Prop:=
 match qY N (kv ops []) 0 ops&&qZ ops (kv ops []) 0 ops&&jQ ops (kv ops []) 0 false L with
 | true=>∀w',w'.heap=w.heap->w'.os=w.os->w'.tape=w.tape->w'.output=w.output->jw P N ops (kv ops []) L E w' [] K
 | false=>False
def EA:List Nat->OT
 | []=>.fin
 | i::l=>.step i (EA l)
def drawTX (P:Program) (N:Nat) (ops:List Oper) (L:OT) (E:Env) (w:World) (K:Env->World->Prop):Prop:=
 match qY N (kv ops []) 0 ops&&qZ ops (kv ops []) 0 ops&&jQ ops (kv ops []) 0 false L with
 | true=>∀w',w'.heap=w.heap->w'.os=w.os->w'.tape=w.tape->w'.output=w.output->w'.drawn=w.drawn+1->jw P N ops (kv ops []) L E w' [] K
 | false=>False
section draw3
variable {P:Program} {N:Nat} {opa:Array Oper} {ops:List Oper} {B:List Nat} {E0:Env} {a0:Act} {K:Env->World->Prop}
def Lg (P:Program) (N:Nat) (ops:List Oper) (opa:Array Oper) (B:List Nat) (m:Nat) (E:Env) (w:World) (b5:List (Nat×Env×SV)) (K:Env->World->Prop) (e:Nat):Prop:=
 ∃o t E',ops[e]?=some o/\wb o.op=true/\e<ops.length/\m.testBit e=false/\(∀k,(B.getD e 0).testBit k=true->m.testBit k=true)/\jQ ops B (m||| 2 ^ e) false t=true/\
  qU E E'/\(∀a,lA ops E o a->wantedAt opa o a=true)/\wI P o E' w fun s w'=>uo P ops (B.getD e 0) w' b5 (nQ N E' o.dst s fun E2=>jw P N ops B t E2 w' b5 K)
def X1 (P:Program) (N:Nat) (ops:List Oper) (opa:Array Oper) (B:List Nat) (m:Nat) (E:Env) (w:World) (b5:List (Nat×Env×SV)) (K:Env->World->Prop):Prop:=
 ((∀i,i<ops.length->m.testBit i=true)/\K E w)∨∃l,l≠[]/\vH ops B m l=true/\∀e∈l,Lg P N ops opa B m E w b5 K e
structure xu (P:Program) (N:Nat) (ops:List Oper) (opa:Array Oper) (B:List Nat) (E0:Env) (a0:Act) (K:Env->World->Prop) (b:Nat->Bool) (a:Act) (w:World) where
 m:Nat
 V:Nat->Value
 E:Env
 b5:List (Nat×Env×SV)
 closed:rR B m
 sub:∀i,b i=true->m.testBit i=true
 env:l7 ops E0 m V E
 act:qE N ops a0 b V a
 told:∀i,m.testBit i=true->b i=false->Told P ops opa B E0 m V w b5 i
 vF:xr B b
 a8:X1 P N ops opa B m E w b5 K
theorem ZT {m:Nat} {l:List Nat} (h:vH ops B m l=true) {i:Nat} (hi:i<ops.length) (hm:m.testBit i=false) (hB:∀k,(B.getD i 0).testBit k=true->m.testBit k=true):i∈l:=by
 have:=List.all_eq_true.1 h i (List.mem_range.2 hi);rw[hm,Bool.false_or,Bool.or_eq_true]at this;rcases this with h1|h1
 ·obtain⟨x,hx,he⟩:=List.any_eq_true.1 h1;rw[Nat.eq_of_beq_eq_true he];exact hx
 ·exfalso
  have e:B.getD i 0&&& m=B.getD i 0:=by
   apply Nat.eq_of_testBit_eq;intro k;rw[Nat.testBit_and]
   cases hk:(B.getD i 0).testBit k with
   | false=>rfl
   | true=>rw[hB k hk];rfl
  rw[e,Nat.beq_refl]at h1;cases h1
theorem agj {m i:Nat} (h:Nat.beq (B.getD i 0&&& m) (B.getD i 0)=true):∀k,(B.getD i 0).testBit k=true->m.testBit k=true:=by
 intro k hk;have e:=Nat.eq_of_beq_eq_true h;rw[<-e,Nat.testBit_and]at hk;simp only[Bool.and_eq_true]at hk;exact hk.2
theorem Rn {m i:Nat} {al:Bool} {t:OT} (h:jQ ops B m al (.step i t)=true) :
  i<ops.length/\m.testBit i=false/\(∀k,(B.getD i 0).testBit k=true->m.testBit k=true)/\(al=true->sX ops i=true/\DL ops i=true)/\(al=false->sX ops i=true->vH ops B m [i]=true)/\jQ ops B (m||| 2 ^ i) false t=true:=by
 simp only[jQ,Bool.and_eq_true]at h;obtain⟨⟨⟨⟨h1,h2⟩,h3⟩,h4⟩,h5⟩:=h;refine⟨Nat.le_of_ble_eq_true h1,by simpa using h2,agj h3,?_,?_,h5⟩
 ·rintro rfl;simpa using h4
 ·rintro rfl he;simp only[Bool.or_eq_true]at h4;rcases h4 with h4|h4
  ·rw[he]at h4;cases h4
  ·exact h4
theorem xE (hl:opa.toList=ops) {m:Nat} {E:Env} {w:World} {b5:List (Nat×Env×SV)}:∀{t:OT},jQ ops B m true t=true->jw P N ops B t E w b5 K->∀e∈t.mA,Lg P N ops opa B m E w b5 K e
 | .fin,_,_,e,he=>by cases he
 | .step i t,hc,hd,e,he=>by
  obtain⟨c1,c2,c3,c4,_,c6⟩:=Rn hc;obtain⟨c4,c5⟩:=c4 rfl;simp only[OT.mA,List.mem_singleton]at he;subst he;unfold jw at hd;unfold sX at c4;unfold DL at c5
  cases ho:ops[e]? with
  | none=>rw[ho]at hd;exact hd.elim
  | some o=>
   rw[ho]at hd c4 c5;simp only at hd c4 c5;obtain⟨E',hs,hd⟩:=zL hl hd;rcases hd with⟨hd,hw⟩|⟨hd,hw⟩
   ·rw[c4]at hd;exact⟨o,t,E',ho,c4,c1,c2,c3,c6,hs,hw,hd⟩
   ·exfalso
    cases hg:o.guard with
    | none=>
     have:=hw ⟨#[],[]⟩ (fun j want d h1=>by rw[hg]at h1;cases h1);unfold wantedAt Region.wanted at this;rw[hg]at this
     simp at this
    | some g=>rw[hg]at c5;cases c5
 | .alt a b,hc,hd,e,he=>by
  simp only[jQ,Bool.and_eq_true]at hc;unfold jw at hd;simp only[OT.mA,List.mem_append]at he;rcases he with he|he
  ·exact xE hl hc.1.2 hd.1 e he
  ·exact xE hl hc.2 hd.2 e he
theorem xD (hl:opa.toList=ops) (hg:Good N ops B) {b:Nat->Bool} {a:Act} {w:World} (hcb:xr B b) :
  ∀(L:OT) (m:Nat) (V:Nat->Value) (E:Env) (b5:List (Nat×Env×SV)),jQ ops B m false L=true->rR B m->(∀i,b i=true->m.testBit i=true)->
   l7 ops E0 m V E->qE N ops a0 b V a->
   (∀i,m.testBit i=true->b i=false->Told P ops opa B E0 m V w b5 i)->jw P N ops B L E w b5 K->Nonempty (xu P N ops opa B E0 a0 K b a w)
 | .fin,m,V,E,b5,h1,h2,h3,h5,h6,h7,h8=>⟨⟨m,V,E,b5,h2,h3,h5,h6,h7,hcb,.inl ⟨fun i hi=>by
   have e:=Nat.eq_of_beq_eq_true h1;rw[e,Nat.testBit_two_pow_sub_one]
   simp[hi],h8⟩⟩⟩
 | .alt x y,m,V,E,b5,h1,h2,h3,h5,h6,h7,h8=>by
  have h1':=h1;simp only[jQ,Bool.and_eq_true]at h1';refine⟨⟨m,V,E,b5,h2,h3,h5,h6,h7,hcb,.inr ⟨x.mA++y.mA,(fun e=>by rw[e]at h1';exact absurd h1'.1.1.1 (by simp)),h1'.1.1.2,fun e he=>?_⟩⟩⟩;unfold jw at h8;rcases List.mem_append.1 he with he|he
  ·exact xE hl h1'.1.2 h8.1 e he
  ·exact xE hl h1'.2 h8.2 e he
 | .step i L,m,V,E,b5,h1,h2,h3,h5,h6,h7,h8=>by
  obtain⟨c1,c2,c3,_,c4,c5⟩:=Rn h1;unfold jw at h8
  cases ho:ops[i]? with
  | none=>rw[ho]at h8;exact h8.elim
  | some o=>
   rw[ho]at h8;simp only at h8;obtain⟨E',hs,h8⟩:=zL hl h8;have h5':=h5.same hs
   have hbi:b i=false:=by
    cases hb:b i with
    | false=>rfl
    | true=>rw[h3 i hb]at c2;cases c2
   have hgr:∀a,lA ops E' o a->lA ops E o a:=fun a ha j want d h1 h2 v hv=>ha j want d h1 h2 v (by rw[hs d];exact hv);have hgr':∀a,lA ops E o a->lA ops E' o a:=fun a ha j want d h1 h2 v hv=>ha j want d h1 h2 v (by rw[<-hs d];exact hv)
   have hact:∀v,qE N ops a0 b (ic V i v) a:=fun v=>⟨h6.size,h6.gx,fun t j hj hb=>by
    have:j≠i:=by rintro rfl;rw[hb]at hbi;cases hbi
    simp only[ic,this,if_false];exact h6.done t j hj hb,h6.j6⟩
   rcases h8 with⟨h8,hw⟩|⟨h8,hw⟩
   ·cases he:wb o.op with
    | true=>
     rw[he]at h8;simp only at h8;refine⟨⟨m,V,E,b5,h2,h3,h5,h6,h7,hcb,.inr ⟨[i],by simp,c4 rfl (by unfold sX;rw[ho];exact he),fun e hm=>?_⟩⟩⟩;obtain rfl:=List.mem_singleton.1 hm
     exact⟨o,L,E',ho,he,c1,c2,c3,c5,hs,hw,h8⟩
    | false=>
     rw[he]at h8;simp only at h8;obtain⟨s,hq,hq2,h8⟩:=V1 h8;obtain⟨E2,h8,hE2⟩:=DA hg h5' ho c2 h8;refine xD hl hg hcb L (m||| 2 ^ i) (ic V i s.val) E2 _ c5 (CA h2 c3) (fun j hj=>by rw[jG,h3 j hj];rfl) hE2 (hact _) (fun j hj hjb=>?_) h8;rw[jG]at hj;simp only[Bool.or_eq_true,decide_eq_true_eq]at hj;rcases hj with hj|rfl
     ·exact FW (h7 j hj hjb) hj c2 (fun x hx=>by split<;>simp[hx])
     ·refine⟨o,E',m,ho,h2,c2,c3,fun k hk=>by rw[jG,hk];rfl,DB h5' (fun k hk=>hk) c2 _,.inl ⟨fun a ha=>hw a (hgr a ha),s,hq,hq2,fun hr=>by rw[hr];simp,by simp[ic]⟩⟩
   ·obtain⟨E2,h8,hE2⟩:=DA hg h5' ho c2 h8;refine xD hl hg hcb L (m||| 2 ^ i) (ic V i undef) E2 _ c5 (CA h2 c3) (fun j hj=>by rw[jG,h3 j hj];rfl) hE2 (hact _) (fun j hj hjb=>?_) h8;rw[jG]at hj;simp only[Bool.or_eq_true,decide_eq_true_eq]at hj;rcases hj with hj|rfl
    ·exact FW (h7 j hj hjb) hj c2 (fun x hx=>hx)
    ·exact⟨o,E',m,ho,h2,c2,c3,fun k hk=>by rw[jG,hk];rfl,DB h5' (fun k hk=>hk) c2 _,.inr ⟨fun a ha=>hw a (hgr a ha),by simp[ic]⟩⟩
theorem XQ (hP:fF P=true) (hl:opa.toList=ops) (hg:Good N ops B) (h0:aX N E0 a0) {Q:Exit->Act->World->Prop}
  (hQ:∀E a w,aX N E a->K E w->Q .normal a w):∀(n:Nat) (l:Array Bool) (a:Act) (w:World),l.size=ops.length->
   ((List.range ops.length).filter fun i=>!bO l i).length=n->xu P N ops opa B E0 a0 K (bO l) a w->wpAny P .any opa Q n l a w
 | 0,l,a,w,hs,hn,I=>by
  have hall:∀i,i<ops.length->bO l i=true:=by
   intro i hi
   cases hb:bO l i with
   | true=>rfl
   | false=>
    have:i∈(List.range ops.length).filter fun i=>!bO l i:=List.mem_filter.2 ⟨List.mem_range.2 hi,by simp[hb]⟩;rw[List.eq_nil_of_length_eq_zero hn]at this;cases this
  refine⟨?_,?_⟩
  ·refine List.eq_nil_iff_forall_not_mem.2 (fun i hi=>?_);obtain⟨o,ho,hb,_⟩:=mem_ready hl hs hi;rw[hall i (List.getElem?_eq_some_iff.1 ho).1]at hb;cases hb
  ·rcases I.a8 with⟨_,hK⟩|⟨l',hne,hcov,hnx⟩
   ·refine hQ I.E a w ⟨I.act.size,I.act.gx,fun t x hx=>?_⟩ hK;have hE:=I.env t x hx;by_cases hw:∃j,writes ops j t
    ·obtain⟨j,hj⟩:=hw;obtain⟨oj,hoj,_⟩:=By hj;have hbj:=hall j (List.getElem?_eq_some_iff.1 hoj).1;rw[I.act.done t j hj hbj,hE.1 j hj (I.sub j hbj)]
    ·rw[I.act.j6 t (fun k hk=>absurd ⟨k,hk⟩ hw)];exact h0.jI t x (hE.2 (fun k hk=>absurd ⟨k,hk⟩ hw))
   ·cases l' with
    | nil=>exact absurd rfl hne
    | cons e l'=>
     obtain⟨_,_,_,_,_,c1,c2,_⟩:=hnx e (by simp);rw[I.sub e (hall e c1)]at c2
     cases c2
 | n+1,l,a,w,hs,hn,I=>by
  have hsz:opa.size=ops.length:=by rw[<-hl];simp
  refine⟨fun hr=>?_,fun i hi=>?_⟩
  ·exfalso
   have hex:∃i,i<ops.length/\bO l i=false:=by
    cases hf:(List.range ops.length).filter (fun i=>!bO l i)with
    | nil=>rw[hf]at hn;cases hn
    | cons x r=>
     have hx:x∈(List.range ops.length).filter (fun i=>!bO l i):=by rw[hf];exact List.mem_cons_self
     rw[List.mem_filter,List.mem_range]at hx;exact⟨x,hx.1,by simpa using hx.2⟩
   have hmin:∀k,(∃i,i<=k/\i<ops.length/\bO l i=false)->∃i,i<ops.length/\bO l i=false/\∀j,j<i->bO l j=true:=by
    intro k
    induction k with
    | zero=>
     rintro⟨i,hi,h1,h2⟩
     exact⟨i,h1,h2,fun j hj=>by omega⟩
    | succ k ih=>
     rintro⟨i,hi,h1,h2⟩;by_cases hlow:∃j,j<=k/\j<ops.length/\bO l j=false
     ·exact ih hlow
     ·refine⟨i,h1,h2,fun j hj=>?_⟩
      cases hb:bO l j with
      | true=>rfl
      | false=>exact absurd ⟨j,by omega,by omega,hb⟩ hlow
   obtain⟨x,hx1,hx2⟩:=hex;obtain⟨i,h1,h2,h3⟩:=hmin x ⟨x,Nat.le_refl _,hx1,hx2⟩
   have hmem:i∈Region.ready .any opa l:=by
    unfold Region.ready;rw[List.mem_filter,List.mem_range];have hi1:i<opa.size:=by omega
    have hget:opa[i]?=some opa[i]:=Array.getElem?_eq_getElem hi1;have ho:ops[i]?=some opa[i]:=by rw[<-hl];simp
    refine⟨hi1,?_⟩;rw[hget];simp only[Option.map_some,Option.getD_some,Bool.and_eq_true];constructor
    ·have hil:i<l.size:=by omega
     simp only[bO,Array.getD_eq_getD_getElem?,Array.getElem?_eq_getElem hil,Option.getD_some]at h2⊢;simp[h2]
    ·rw[<-Array.all_toList];refine List.all_eq_true.2 (fun e he=>?_);rw[LR]
     cases hb:nr e with
     | false=>rfl
     | true=>
      have:=h3 e.on ((hg.zw i _ ho).2.1 e he hb);simpa [bO]using this
   rw[hr]at hmem;cases hmem
  ·obtain⟨o,ho,hb,hed⟩:=mem_ready hl hs hi;have hilt:i<ops.length:=(List.getElem?_eq_some_iff.1 ho).1;have hopa:opa[i]?=some o:=by rw[<-hl]at ho;simpa using ho
   have hBb:∀k,(B.getD i 0).testBit k=true->bO l k=true:=by
    intro k hk;rw[(hg.zw i o ho).1]at hk;obtain⟨e,he,hbe,hk⟩:=YB.1 hk;have hon:=hed e he hbe (by have:=(hg.zw i o ho).2.1 e he hbe;omega);rcases hk with rfl|hk
    ·exact hon
    ·exact I.vF e.on hon k hk
   have hls:∀j,bO (l.setIfInBounds i true) j=eL (bO l) i j:=by
    intro j;simp only[bO,eL,Array.getD_eq_getD_getElem?,Array.getElem?_setIfInBounds];by_cases hij:j=i
    ·subst hij;simp[show j<l.size by omega]
    ·simp[hij,Ne.symm hij]
   have hlsf:bO (l.setIfInBounds i true)=eL (bO l) i:=funext hls
   have hcb':xr B (bO (l.setIfInBounds i true)):=by
    rw[hlsf];intro j hj k hk;unfold eL at hj⊢;by_cases hji:j=i
    ·subst hji;split
     ·rfl
     ·exact hBb k hk
    ·rw[if_neg hji]at hj;split
     ·rfl
     ·exact I.vF j hj k hk
   have hcount:((List.range ops.length).filter fun j=>!bO (l.setIfInBounds i true) j).length=n:=by
    have key:∀(r:List Nat),r.Nodup->i∈r->(r.filter fun j=>!eL (bO l) i j).length+1=(r.filter fun j=>!bO l j).length:=by
     intro r
     induction r with
     | nil=>intro _ h;cases h
     | cons x r ih=>
      intro hnd hmem;rw[List.nodup_cons]at hnd;rcases List.mem_cons.1 hmem with rfl|hmem
      ·have h1:(r.filter fun j=>!eL (bO l) i j)=r.filter fun j=>!bO l j:=by
        refine List.filter_congr (fun j hj=>?_);have:j≠i:=fun e=>hnd.1 (e ▸ hj);simp[eL,this]
       rw[List.filter_cons,List.filter_cons];simp[eL,hb];simpa [eL]using congrArg List.length h1
      ·have hxi:x≠i:=fun e=>hnd.1 (e ▸ hmem);have h1:=ih hnd.2 hmem;rw[List.filter_cons,List.filter_cons];have:eL (bO l) i x=bO l x:=by simp[eL,hxi]
       rw[this];cases bO l x
       ·simp only[Bool.not_false,if_true,List.length_cons];omega
       ·simpa using h1
    have:=key (List.range ops.length) List.nodup_range (List.mem_range.2 hilt);rw[hlsf];omega
   have hsz':(l.setIfInBounds i true).size=ops.length:=by simpa using hs
   have hnext:∀a' w',Nonempty (xu P N ops opa B E0 a0 K (eL (bO l) i) a' w')->wpAny P .any opa Q n (l.setIfInBounds i true) a' w':=by
    rintro a' w' ⟨I'⟩;exact XQ hP hl hg h0 hQ n _ a' w' hsz' hcount (hlsf ▸ I')
   unfold wpOp;rw[hopa];simp only
   cases hmi:I.m.testBit i with
   | true=>
    obtain⟨o',E,mi,h1,h2,h3,h4,h5,h6,h7⟩:=I.told i hmi hb;rw[ho]at h1;obtain rfl:=Option.some.inj h1;obtain⟨hrd,hgr⟩:=EV (E:=E) (o:=o) (a:=a) (fun t ht x hx=>Fx hg h0 h2 I.vF h6 I.act ho h3 hb h4 hBb ht hx)
    have fin:∀v,I.V i=v->Nonempty (xu P N ops opa B E0 a0 K (eL (bO l) i) (a.put o.dst v) w):=by
     intro v hv;refine⟨⟨I.m,I.V,I.E,I.b5,I.closed,fun j hj=>?_,I.env,Lm hg I.act ho v hv,fun j hj hjb=>?_,hlsf ▸ hcb',I.a8⟩⟩
     ·unfold eL at hj;by_cases hji:j=i
      ·rw[hji];exact hmi
      ·rw[if_neg hji]at hj;exact I.sub j hj
     ·unfold eL at hjb;by_cases hji:j=i
      ·rw[if_pos hji]at hjb;cases hjb
      ·rw[if_neg hji]at hjb;exact I.told j hj hjb
    rcases h7 with⟨hw,s,hq,_,_,hv⟩|⟨hw,hv⟩
    ·have hw:=hw a hgr;unfold wantedAt at hw;rw[if_pos hw];refine .inl ?_;unfold Oper.wp;rw[hq a hrd];exact hnext _ _ (fin _ hv.symm)
    ·have hw:=hw a hgr;unfold wantedAt at hw;rw[if_neg (by rw[hw];simp)]
     exact hnext _ _ (fin _ hv)
   | false=>
    rcases I.a8 with⟨hL,_⟩|⟨l',hne,hcov,hnx⟩
    ·rw[hL i hilt]at hmi;cases hmi
    ·have hil:=ZT hcov hilt hmi (fun k hk=>I.sub k (hBb k hk));obtain⟨oe,L',E',hoe,hee,c1,c2,c3,c5,hsv,hwe,hop⟩:=hnx i hil;rw[ho]at hoe;obtain rfl:=Option.some.inj hoe;have henv':=I.env.same hsv;obtain⟨hrd,_⟩:=EV (E:=E') (o:=o) (a:=a) (fun t ht x hx=>Fx hg h0 I.closed I.vF henv' I.act ho c2 hb c3 hBb ht hx);obtain⟨_,hgr⟩:=EV (E:=I.E) (o:=o) (a:=a) (fun t ht x hx=>Fx hg h0 I.closed I.vF I.env I.act ho c2 hb c3 hBb ht hx);have hw:=hwe a hgr;unfold wantedAt at hw;rw[if_pos hw];refine .inl (VZ hP hop a hrd _ Q (fun s w' hst=>hnext _ _ ?_));obtain⟨hput,hstab⟩:=FG hst;obtain⟨E2,hdr,hE2⟩:=DA hg henv' ho c2 hput;refine xD hl hg (b:=eL (bO l) i) (hlsf ▸ hcb') L' (I.m||| 2 ^ i) (ic I.V i s.val) E2 I.b5 c5 (CA I.closed c3) (fun j hj=>?_) hE2 ?_ (fun j hj hjb=>?_) hdr
     ·unfold eL at hj;rw[jG];by_cases hji:j=i
      ·simp[hji]
      ·rw[if_neg hji]at hj;rw[I.sub j hj];rfl
     ·have hA:qE N ops a0 (bO l) (ic I.V i s.val) a:=⟨I.act.size,I.act.gx,fun t j hj hbj=>by
       have:j≠i:=by rintro rfl;rw[hbj]at hb;cases hb
       simp only[ic,this,if_false];exact I.act.done t j hj hbj,I.act.j6⟩
      exact Lm hg hA ho s.val (by simp[ic])
     ·unfold eL at hjb;by_cases hji:j=i
      ·rw[if_pos hji]at hjb;cases hjb
      ·rw[if_neg hji]at hjb
       have hjm:I.m.testBit j=true:=by
        rw[jG]at hj;simpa [Ne.symm hji]using hj
       have ht:=FW (i:=i) (v:=s.val) (pend':=I.b5) (I.told j hjm hjb) hjm hmi (fun x hx=>hx);obtain⟨oj,Ej,mj,t1,t2,t3,t4,t5,t6,t7⟩:=ht;refine⟨oj,Ej,mj,t1,t2,t3,t4,t5,t6,?_⟩;rcases t7 with⟨hwj,sj,hqj,hqj2,hqj3,hvj⟩|t7
       ·refine .inl ⟨hwj,sj,?_,hqj2,hqj3,hvj⟩
        cases hr:mL P oj with
        | false=>exact hqj2 hr w'
        | true=>
         have hnb:(B.getD i 0).testBit j=false:=by
          cases hbb:(B.getD i 0).testBit j with
          | false=>rfl
          | true=>rw[hBb j hbb]at hjb;cases hjb
         obtain⟨o2,ho2,hq2⟩:=hstab j Ej sj (hqj3 hr) hnb;rw[t1]at ho2;obtain rfl:=Option.some.inj ho2;exact hq2
       ·exact .inr t7
theorem drawT_core (hP:fF P=true) (hl:opa.toList=ops) {L:OT} {w:World} (h0:aX N E0 a0) {Q:Exit->Act->World->Prop}
  (hQ:∀E a w,aX N E a->K E w->Q .normal a w) (hc:(qY N (kv ops []) 0 ops&&qZ ops (kv ops []) 0 ops&&jQ ops (kv ops []) 0 false L)=true) (h:jw P N ops (kv ops []) L E0 {w with drawn:=w.drawn+1} [] K):wpAny P .any opa Q opa.size (Array.replicate opa.size false) a0 {w with drawn:=w.drawn+1}:=by
 simp only[Bool.and_eq_true]at hc;obtain⟨⟨h1,h2⟩,h3⟩:=hc;have hg:=abD h1 h2;have hsz:opa.size=ops.length:=by rw[<-hl];simp
 have hf:∀i,bO (Array.replicate opa.size false) i=false:=by
  intro i;simp only[bO,Array.getD_eq_getD_getElem?,Array.getElem?_replicate];split<;>rfl
 obtain⟨I⟩:=xD (P:=P) (K:=K) (E0:=E0) (a0:=a0) hl hg (b:=bO (Array.replicate opa.size false)) (a:=a0) (w:={w with drawn:=w.drawn+1}) (fun j hj=>(by rw[hf]at hj;cases hj)) L 0 (fun _=>undef) E0 [] h3
  (fun j hj=>(by simp at hj)) (fun j hj=>(by rw[hf]at hj;cases hj)) (fun t x hx=>⟨fun j _ hj=>by simp at hj,fun _=>hx⟩)
  ⟨h0.size,h0.gx,fun t j _ hj=>(by rw[hf]at hj;cases hj),fun t _=>rfl⟩ (fun j hj=>by simp at hj) h
 refine XQ hP hl hg h0 hQ opa.size _ a0 _ (by simp[hsz]) ?_ I;rw[hsz]
 have:(List.range ops.length).filter (fun i=>!bO (Array.replicate ops.length false) i)=List.range ops.length:=by
  refine List.filter_eq_self.2 (fun i _=>?_);have:=hf i;rw[hsz]at this;rw[this];rfl
 rw[this,List.length_range]
theorem drawTQ_any (hP:fF P=true) (hl:opa.toList=ops) {L:OT} {w:World} (h0:aX N E0 a0) {Q:Exit->Act->World->Prop}
  (hQ:∀E a w,aX N E a->K E w->Q .normal a w) (h:vL P N ops L E0 w K):wpAny P .any opa Q opa.size (Array.replicate opa.size false) a0 {w with drawn:=w.drawn+1}:=by
 unfold vL at h;split at h
 ·rename_i hc;exact drawT_core hP hl h0 hQ hc (h _ rfl rfl rfl rfl)
 ·exact h.elim
theorem R1 (hP:fF P=true) (hl:opa.toList=ops) {L:OT} {w:World} (h0:aX N E0 a0) {Q:Exit->Act->World->Prop}
  (hQ:∀E a w,aX N E a->K E w->Q .normal a w) (h:vL P N ops L E0 w K) {id:Nat}:(Code.region id opa true).wp P Q a0 w:=by
 have hm:P.follows .mixedOrders=true:=by
  simp only[fF,Bool.and_eq_true]at hP;exact hP.2
 exact wp_region_any hm (drawTQ_any hP hl h0 hQ h)
theorem drawTX_any (hP:fF P=true) (hl:opa.toList=ops) {L:OT} {w:World} (h0:aX N E0 a0) {Q:Exit->Act->World->Prop}
  (hQ:∀E a w,aX N E a->K E w->Q .normal a w) (h:drawTX P N ops L E0 w K):wpAny P .any opa Q opa.size (Array.replicate opa.size false) a0 {w with drawn:=w.drawn+1}:=by
 unfold drawTX at h;split at h
 ·rename_i hc;exact drawT_core hP hl h0 hQ hc (h _ rfl rfl rfl rfl rfl)
 ·exact h.elim
theorem drawTX_sound (hP:fF P=true) (hl:opa.toList=ops) {L:OT} {w:World} (h0:aX N E0 a0) {Q:Exit->Act->World->Prop}
  (hQ:∀E a w,aX N E a->K E w->Q .normal a w) (h:drawTX P N ops L E0 w K) {id:Nat}:(Code.region id opa true).wp P Q a0 w:=by
 have hm:P.follows .mixedOrders=true:=by
  simp only[fF,Bool.and_eq_true]at hP;exact hP.2
 exact wp_region_any hm (drawTX_any hP hl h0 hQ h)
end draw3
inductive Ex where
 | dV
 | exit (n:Nat)
 | ret
abbrev dG:=Ex->Env->World->Prop
structure Mt where
 N:Nat
 keep:List (Nat×List Nat)
 bu:List (Nat×List Nat):=[]
 bk:List (Nat×List Nat):=[]
 cB:List (Nat×List Nat):=[]
 lk:List (Nat×List Nat):=[]
 alts:List (Nat×OT):=[]
 ref:Bool:=true
 ex:Bool:=false
def jZ:List (Nat×List Nat)->Nat->List Nat
 | [],_=>[]
 | (k,x)::l,id=>match Nat.beq k id with
  | true=>x
  | false=>jZ l id
def wv:List (Nat×OT)->Nat->Option OT
 | [],_=>none
 | (k,x)::l,id=>match Nat.beq k id with
  | true=>some x
  | false=>wv l id
def Ek (N:Nat) (K:dG):Exit->Act->World->Prop
 | .normal,a,w=>∃E,aX N E a/\K .dV E w
 | .exit n,a,w=>∃E,aX N E a/\K (.exit n) E w
 | .ret,a,w=>∃E,aX N E a/\K .ret E w
 | _,_,_=>False
def WP (P:Program) (N:Nat) (c:Code) (E:Env) (w:World) (K:dG):Prop:=∀a,aX N E a->c.wp P (Ek N K) a w
def pk (D:Env->World->Prop) (K:dG):dG:=fun ex E w=>match ex with
 | .dV=>D E w
 | .exit n=>K (.exit n) E w
 | .ret=>K .ret E w
def a7 (id:Nat) (ks:List Nat) (K:dG):dG:=fun ex E w=>match ex with
 | .dV=>K .dV (E.keep ks) w
 | .exit n=>match Nat.beq n id with
  | true=>K .dV (E.keep ks) w
  | false=>K (.exit n) E w
 | .ret=>K .ret E w
def kQ:Code->Option Nat
 | .region id _ _=>some id
 | .seq a _=>kQ a
 | .block _ c=>kQ c
 | .loop c=>kQ c
 | .scope c=>kQ c
 | _=>none
def oP (l:List (Nat×List Nat)) (n:Option Nat):Option (List Nat):=match n with
 | none=>none
 | some n=>match l with
  | []=>none
  | (k,x)::l=>match Nat.beq k n with
   | true=>some x
   | false=>oP l (some n)
structure Gu (P:Program) (M:Mt) (c:Code) (E:Env) (w:World) (K:dG) (p:Prop):Prop where
 out:p
def oH (ks:Option (List Nat)) (P:Program) (M:Mt) (c:Code) (E:Env) (w:World) (K:dG) (D:Env->Prop):Prop:=match ks with
 | some ks=>Gu P M c (E.keep ks) w K (D (E.keep ks))
 | none=>D E
def UH (l:List (Nat×List Nat)) (n:Option Nat) (E:Env):Env:=match oP l n with
 | some ks=>E.keep ks
 | none=>E
def CD (E:Env) (c:Operand) (t f:Prop):Prop:=match ba E c with
 | .b true=>t
 | .b false=>f
 | .v (.bool x)=>(x=true->t)/\(x=false->f)
 | _=>False
def tU (M:Mt) (E:Env) (c:Operand) (b:Bool):Env:=match M.ref with
 | false=>E
 | true=>match c with
  | .tmp t=>E.put t (.b b)
  | _=>E
def den (P:Program) (M:Mt):Code->Env->World->dG->Prop
 | .skip,E,w,K=>K .dV E w
 | .region id ops draw,E,w,K=>match draw with
  | false=>ud P M.N ops.toList ops.toList E w fun E' w'=>K .dV (E'.keep (jZ M.keep id)) w'
  | true=>match wv M.alts id with
   | some t=>vL P M.N ops.toList t E w fun E' w'=>K .dV (E'.keep (jZ M.keep id)) w'
   | none=>match M.ex with
    | false=>vL P M.N ops.toList (EA (jZ M.bu id)) E w fun E' w'=>K .dV (E'.keep (jZ M.keep id)) w'
    | true=>drawTX P M.N ops.toList (EA (jZ M.bu id)) E w fun E' w'=>K .dV (E'.keep (jZ M.keep id)) w'
 | .seq a b,E,w,K=>den P M a E w (pk (fun E w=>oH (oP M.cB (kQ b)) P M b E w K fun E=>den P M b E w K) K)
 | .cond c a b,E,w,K=>CD E c (den P M a (tU M E c true) w K) (den P M b (tU M E c false) w K)
 | .block id c,E,w,K=>den P M c E w (a7 id (jZ M.bk id) K)
 | .exit id,E,w,K=>K (.exit id) E w
 | .ret,E,w,K=>K .ret E w
 | .loop c,E,w,K=>Cut (WP P M.N (.loop c) (UH M.lk (kQ c) E) w K)
 | .rangeFunc f ps a b,E,w,K=>Cut (WP P M.N (.rangeFunc f ps a b) E w K)
 | .scope c,E,w,K=>den P M c E w K
 | .label _,E,w,K=>K .dV E w
 | .goto l,E,w,K=>Cut (WP P M.N (.goto l) E w K)
 | .refuse s,E,w,K=>Cut (WP P M.N (.refuse s) E w K)
def aA (P:Program) (M:Mt) (c:Code) (E:Env) (w:World) (K:dG):Prop:=Gu P M c E w K (den P M c E w K)
theorem aA.mk {P:Program} {M:Mt} {c:Code} {E:Env} {w:World} {K:dG} (h:den P M c E w K):aA P M c E w K:=⟨h⟩
theorem Ry {E:Env} {c:Operand} {t f:Prop} (h:CD E c t f):∃b,(ba E c).val?=some (.bool b)/\(if b then t else f):=by
 unfold CD at h;split at h
 ·rename_i he;exact⟨true,by rw[he];rfl,h⟩
 ·rename_i he;exact⟨false,by rw[he];rfl,h⟩
 ·rename_i x he;refine⟨x,by rw[he];rfl,?_⟩;cases x
  ·exact h.2 rfl
  ·exact h.1 rfl
 ·exact h.elim
theorem mr {P:Program} {M:Mt} (hP:fF P=true):∀(c:Code) (E:Env) (w:World) (K:dG),den P M c E w K->WP P M.N c E w K
 | .skip,E,w,K,h=>fun a ha=>wp_skip ⟨E,ha,h⟩
 | .region id ops draw,E,w,K,h=>fun a ha=>by
  cases draw with
  | false=>
   exact wp_region_list (AY hP rfl (K:=fun E' w'=>K .dV (E'.keep (jZ M.keep id)) w') (fun E' a' w' ha' hk=>⟨_,ha'.keep _,hk⟩) _ _ _ _ ha h)
  | true=>
   simp only[den]at h;split at h
   ·exact R1 hP rfl (K:=fun E' w'=>K .dV (E'.keep (jZ M.keep id)) w') ha (fun E' a' w' ha' hk=>⟨_,ha'.keep _,hk⟩) h
   ·split at h
    ·exact R1 hP rfl (K:=fun E' w'=>K .dV (E'.keep (jZ M.keep id)) w') ha (fun E' a' w' ha' hk=>⟨_,ha'.keep _,hk⟩) h
    ·exact drawTX_sound hP rfl (K:=fun E' w'=>K .dV (E'.keep (jZ M.keep id)) w') ha (fun E' a' w' ha' hk=>⟨_,ha'.keep _,hk⟩) h
 | .seq x y,E,w,K,h=>fun a ha=>by
  refine wp_seq (wp_mono (mr hP x E w _ h a ha) (fun ex a' w' hl=>?_))
  cases ex with
  | normal=>
   obtain⟨E',h1,h2⟩:=hl;simp only[pk,oH]at h2;split at h2
   ·exact mr hP y _ w' K h2.out a' (h1.keep _)
   ·exact mr hP y E' w' K h2 a' h1
  | exit n=>exact hl
  | ret=>exact hl
  | _=>exact hl.elim
 | .cond c x y,E,w,K,h=>fun a ha=>by
  obtain⟨b,hb,h⟩:=Ry h;refine wp_cond (ha.ev c _ hb) ?_
  have hr:aX M.N (tU M E c b) a:=by
   unfold tU;split
   ·exact ha
   ·split
    ·exact ha.WV _ b (by simpa [ba]using hb)
    ·exact ha
  cases b with
  | true=>exact mr hP x _ w K h a hr
  | false=>exact mr hP y _ w K h a hr
 | .block id c,E,w,K,h=>fun a ha=>by
  refine wp_block (wp_mono (mr hP c E w _ h a ha) (fun ex a' w' hl=>?_))
  cases ex with
  | normal=>obtain⟨E',h1,h2⟩:=hl;exact⟨_,h1.keep _,h2⟩
  | exit n=>
   obtain⟨E',h1,h2⟩:=hl;simp only[Exit.inBlock];simp only[a7]at h2;by_cases hn:n=id
   ·subst hn;rw[if_pos rfl];rw[Nat.beq_refl]at h2;exact⟨_,h1.keep _,h2⟩
   ·rw[if_neg hn]
    have hb:Nat.beq n id=false:=by
     cases hb:Nat.beq n id with
     | false=>rfl
     | true=>exact absurd (Nat.eq_of_beq_eq_true hb) hn
    rw[hb]at h2
    exact⟨E',h1,h2⟩
  | ret=>exact hl
  | _=>exact hl.elim
 | .exit id,E,w,K,h=>fun a ha=>wp_exit ⟨E,ha,h⟩
 | .ret,E,w,K,h=>fun a ha=>wp_ret ⟨E,ha,h⟩
 | .loop c,E,w,K,h=>fun a ha=>by
  refine h.out a ?_;unfold UH;split
  ·exact ha.keep _
  ·exact ha
 | .rangeFunc f ps x y,E,w,K,h=>h.out
 | .scope c,E,w,K,h=>fun a ha=>by
  refine wp_scope_straight (wp_mono (mr hP c E w K h a ha) (fun ex a' w' hl=>?_))
  cases ex<;>first|exact hl|exact hl.elim
 | .label l,E,w,K,h=>fun a ha=>wp_label ⟨E,ha,h⟩
 | .goto l,E,w,K,h=>h.out
 | .refuse s,E,w,K,h=>h.out
def qG (E:Env):Env->Prop
 | []=>True
 | (k,s)::T=>(E.get k).val?=s.val?/\qG E T
theorem qG.agree {N:Nat} {E:Env} {a:Act} (ha:aX N E a):∀{T:Env},qG E T->aX N T a
 | [],_=>⟨ha.size,ha.gx,fun t x hx=>by simp[Env.get,SV.val?]at hx⟩
 | (k,s)::T,h=>by
  have ih:=qG.agree ha h.2;refine⟨ha.size,ha.gx,fun t x hx=>?_⟩;simp only[Env.get]at hx
  cases hb:Nat.beq k t with
  | true=>
   rw[hb]at hx;have:=Nat.eq_of_beq_eq_true hb;subst this
   exact ha.jI _ x (by rw[h.1];exact hx)
  | false=>rw[hb]at hx;exact ih.jI t x hx
theorem zz {p:Nat->Prop} (h:∃n,p n):∃n,p n/\∀m,p m->n<=m:=by
 obtain⟨n,hn⟩:=h
 induction n using Nat.strongRecOn with
 | _ n ih=>
  by_cases hx:∃m,m<n/\p m
  ·obtain⟨m,hm,hpm⟩:=hx;exact ih m hm hpm
  ·exact⟨n,hn,fun m hm=>Nat.le_of_not_lt fun hlt=>hx ⟨m,hlt,hm⟩⟩
theorem amX {P:Program} {c:Code} {Q:Exit->Act->World->Prop} {a:Act} {w:World} (I:Nat->Act->World->Prop) (h₀:∃n,I n a w)
  (round:∀n a w,I n a w->c.wp P (Exit.then (fun a' w'=>∃m,m<n/\I m a' w') Q) a w):(Code.loop c).wp P Q a w:=by
 classical
 refine wp_loop (fun a w=>∃n,I n a w) (fun a w=>if h:∃n,I n a w then Classical.choose (zz h)else 0) h₀ (fun a w h=>?_);have hc:=Classical.choose_spec (zz h);refine wp_mono (round _ a w hc.1) (fun ex a' w' he=>?_)
 cases ex with
 | normal=>
  obtain⟨m,hm,hI⟩:=he;have hex:∃n,I n a' w':=⟨m,hI⟩;refine⟨hex,?_⟩;have hc':=Classical.choose_spec (zz hex);simp only[dif_pos hex,dif_pos h]
  exact Nat.lt_of_le_of_lt (hc'.2 m hI) hm
 | _=>exact he
def bo (B:Env->World->Prop) (K:dG):dG:=fun ex E w=>match ex with
 | .dV=>B E w
 | .exit n=>K (.exit n) E w
 | .ret=>K .ret E w
theorem bA {P:Program} {M:Mt} (hP:fF P=true) {c:Code} {E:Env} {w:World} {K:dG} {σ:Type} (tm:σ->Env) (I:σ->World->Prop) (μ:σ->World->Nat) (s0:σ)
  (hc:qG E (tm s0)) (hI:I s0 w) (round:∀s w,I s w->den P M c (tm s) w (bo (fun E' w'=>∃s',qG E' (tm s')/\I s' w'/\μ s' w'<μ s w) K)):WP P M.N (.loop c) E w K:=by
 intro a ha;refine amX (fun n a w=>∃s,aX M.N (tm s) a/\I s w/\μ s w=n) ⟨_,s0,hc.agree ha,hI,rfl⟩ (fun n a w h=>?_);obtain⟨s,h1,h2,rfl⟩:=h;refine wp_mono (mr hP c _ w _ (round s w h2) a h1) (fun ex a' w' he=>?_)
 cases ex with
 | normal=>
  obtain⟨E',h3,s',h4,h5,h6⟩:=he
  exact⟨_,h6,s',h4.agree h3,h5,rfl⟩
 | exit n=>exact he
 | ret=>exact he
 | _=>exact he.elim
def aj:Nat->List Value->Env
 | _,[]=>[]
 | i,v::vs=>(i,.v v)::aj (i+1) vs
theorem BN:∀(vs:List Value) (i t:Nat) (x:Value),((aj i vs).get t).val?=some x->i<=t/\vs[t-i]?=some x
 | [],i,t,x,h=>by simp[aj,Env.get,SV.val?]at h
 | v::vs,i,t,x,h=>by
  simp only[aj,Env.get]at h
  cases hb:Nat.beq i t with
  | true=>
   rw[hb]at h;have:=Nat.eq_of_beq_eq_true hb;subst this
   simpa [SV.val?]using h
  | false=>
   rw[hb]at h;obtain⟨h1,h2⟩:=BN vs (i+1) t x h;refine⟨by omega,?_⟩;rw[show t-i=(t-(i+1))+1 by omega];simpa using h2
def tW (P:Program) (w:World) (E:Env):List ResultVar->(List Value->Prop)->Prop
 | [],F=>F []
 | .tmp t::rs,F=>bZ (E.get t) fun v=>tW P w E rs fun vs=>F (v::vs)
 | .cell x t::rs,F=>bZ (E.get x) fun v=>o7 v fun ad=>Ae P w t ad fun v=>tW P w E rs fun vs=>F (v::vs)
def wP:List Value->Value
 | [v]=>v
 | vs=>.tuple vs.toArray
def pf (P:Program) (rs:List ResultVar) (R:Ending->World->Prop):dG:=fun ex E w=>match ex with
 | .exit _=>False
 | .dV=>tW P w E rs fun vs=>R (.returned (wP vs)) w
 | .ret=>tW P w E rs fun vs=>R (.returned (wP vs)) w
def rJ (a:Act):ResultVar->Sem Value
 | .tmp t=>pure (a.tmps.getD t undef)
 | .cell x t=>do loadVar t (<-asAddr (a.tmps.getD x undef))
theorem ae9 (fn:Func) (a:Act):results fn a.tmps=(fn.results.mapM (rJ a))>>=fun vs=>pure (if h:vs.size=1 then vs[0]else .tuple vs):=by
 unfold results;congr 2
theorem EY {P:Program} {w:World} {E:Env} {N:Nat} {a:Act} (ha:aX N E a):∀{rs:List ResultVar} {F:List Value->Prop},tW P w E rs F->
  ∃vs,F vs/\(rs.mapM (rJ a)).run P w=.ok vs w
 | [],F,h=>⟨[],h,by simp⟩
 | .tmp t::rs,F,h=>by
  obtain⟨v,h1,_,h⟩:=cf h;obtain⟨vs,hF,hr⟩:=EY ha h;refine⟨v::vs,hF,?_⟩;have hv:(rJ a (.tmp t)).run P w=.ok v w:=by simp[rJ,ha.jI t v h1]
  simp only[List.mapM_cons,Sem.run_bind,Sem.run_pure,Result.andThen_ok,hv,hr]
 | .cell x t::rs,F,h=>by
  obtain⟨v,h1,_,h⟩:=cf h;obtain⟨ad,rfl,h⟩:=qk h;obtain⟨u,hu,h⟩:=UU h;obtain⟨vs,hF,hr⟩:=EY ha h;refine⟨u::vs,hF,?_⟩;have hv:(rJ a (.cell x t)).run P w=.ok u w:=by simp[rJ,ha.jI x _ h1,asAddr,hu]
  simp only[List.mapM_cons,Sem.run_bind,Sem.run_pure,Result.andThen_ok,hv,hr]
theorem AN {P:Program} {w:World} {E:Env} {N:Nat} {a:Act} {fn:Func} (ha:aX N E a) {R:Ending->World->Prop} (h:tW P w E fn.results.toList fun vs=>R (.returned (wP vs)) w) :
  ∃v,(results fn a.tmps).run P w=.ok v w/\R (.returned v) w:=by
 obtain⟨vs,hF,hr⟩:=EY ha h;refine⟨wP vs,?_,hF⟩
 have hm:(fn.results.mapM (rJ a)).run P w=.ok vs.toArray w:=by
  rw[Array.mapM_eq_mapM_toList];simp[hr]
 rw[ae9,Sem.run_bind,hm,Result.andThen_ok]
 match vs with
 | []=>rfl
 | [v]=>rfl
 | v::u::vs=>simp[wP]
theorem Zu {P:Program} {M:Mt} (hP:fF P=true) {f:FuncId} {fn:Func} {c:Code} (hf:P.funcs[f]?=some fn) (hb:fn.body=some c) (hN:fn.ntmps=M.N) {args:List Value}
  (hA:args.length<=M.N) {w:World} {R:Ending->World->Prop} (h:den P M c (aj 0 args) w (pf P fn.results.toList R)):Calls P f args.toArray w R:=by
 refine calls_of_wp hf hb ?_
 have ha:aX M.N (aj 0 args) {tmps:=args.toArray++Array.replicate (fn.ntmps-args.toArray.size) undef,defers:=[]}:=by
  refine⟨by simp[hN];omega,rfl,fun t x hx=>?_⟩;obtain⟨_,h2⟩:=BN args 0 t x hx;simp only[Nat.sub_zero]at h2;have hlt:t<args.length:=(List.getElem?_eq_some_iff.1 h2).1;rw[Array.getElem?_append_left (by simpa using hlt)];simpa using h2
 refine wp_mono (mr hP c _ w _ h _ ha) (fun ex a' w' hl=>?_)
 cases ex with
 | normal=>
  obtain⟨E,h1,h2⟩:=hl;obtain⟨v,hv,hR⟩:=AN h1 h2
  exact⟨h1.gx,v,hv,hR⟩
 | ret=>
  obtain⟨E,h1,h2⟩:=hl;obtain⟨v,hv,hR⟩:=AN h1 h2
  exact⟨h1.gx,v,hv,hR⟩
 | exit n=>obtain⟨E,_,h2⟩:=hl;exact h2.elim
 | _=>exact hl.elim
def ak (f:Func):Code:=match f.body with|some c=>c|none=>.skip
def _root_.Go.Code.sl:Code->Code
 | .seq a _=>a
 | .cond _ a _=>a
 | .block _ c=>c
 | .loop c=>c
 | .scope c=>c
 | c=>c
def _root_.Go.Code.sr:Code->Code
 | .seq _ b=>b
 | .cond _ _ b=>b
 | c=>c
end Go.Dav
namespace Go.Dav
open Go.Proofs
theorem bf:fF Tryz.prog=true:=by kernel_rfl
abbrev I (n:Int):Value:=.int .i64 n
abbrev Z (v:Value):Ending:=.returned v
abbrev N3:Value:=.slice none 0 0
abbrev RT:=Ending->World->Prop
abbrev Rt (f:Func) (R:RT):dG:=pf Tryz.prog f.results.toList R
abbrev SQ (M:Mt) (c:Code) (K K':dG):dG:=pk (fun E w=>oH (oP M.cB (kQ c)) Tryz.prog M c E w K fun E=>den Tryz.prog M c E w K) K'
def kp:Nat->List (List Nat)->List (Nat×List Nat)
 | _,[]=>[]
 | n,a::l=>(n,a)::kp (n+1) l
abbrev Sm (w:World) (Q:World->Prop):Prop:=∀w',w'.heap=w.heap->w'.os=w.os->w'.tape=w.tape->w'.output=w.output->Q w'
abbrev UT (k:FuncId) (M:Mt) (c:Code) (fn:Func):Prop:=∀⦃vs:List Value⦄ ⦃w:World⦄ ⦃R:RT⦄,den Tryz.prog M c (aj 0 vs) w (Rt fn R)->(hA:Nat.ble vs.length M.N=true:=by rfl)->Calls Tryz.prog k vs.toArray w R
theorem u_ {k:FuncId} {M:Mt} {c:Code} {fn:Func} (hf:Tryz.prog.funcs[k]?=some fn) (hb:(fn.body,fn.ntmps)=(some c,M.N)):UT k M c fn:=
 fun _ _ _ h hA=>Zu bf hf (congrArg Prod.fst hb) (congrArg Prod.snd hb) (Nat.le_of_ble_eq_true hA) h
abbrev Fz (b:Bool) (A B:Prop):Prop:=(b=false->A)/\(b=true->B)
abbrev Fo (b:Bool) (A B:Prop):Prop:=(b=true->A)/\(b=false->B)
abbrev Li (w:World) (a:Addr) (P:Int->Prop):Prop:=∃n,w.cell? a=some (.int .i64 n)/\P n
abbrev Lu (w:World) (a:Addr) (P:Int->Prop):Prop:=∃n,w.cell? a=some (.int .u64 n)/\P n
abbrev Lj (w:World) (a:Addr) (P:Bool->Prop):Prop:=∃n,w.cell? a=some (.bool n)/\P n
abbrev Lp (w:World) (a:Addr) (P:Option Addr->Prop):Prop:=∃n,w.cell? a=some (.pointer n)/\P n
abbrev Lq (w:World) (a:Addr) (P:Option Addr->Nat->Nat->Prop):Prop:=∃p n c,w.cell? a=some (.slice p n c)/\P p n c
abbrev Ci (k:FuncId) (a:List Value) (w:World) (P:Int->World->Prop):Prop:=Call Tryz.prog k a w fun e w'=>∃n,e=.returned (.int .i64 n)/\P n w'
abbrev Cu (k:FuncId) (a:List Value) (w:World) (P:Int->World->Prop):Prop:=Call Tryz.prog k a w fun e w'=>∃n,e=.returned (.int .u64 n)/\P n w'
abbrev Cj (k:FuncId) (a:List Value) (w:World) (P:Bool->World->Prop):Prop:=Call Tryz.prog k a w fun e w'=>∃n,e=.returned (.bool n)/\P n w'
abbrev Cp (k:FuncId) (a:List Value) (w:World) (P:Option Addr->World->Prop):Prop:=Call Tryz.prog k a w fun e w'=>∃n,e=.returned (.pointer n)/\P n w'
abbrev Cq (k:FuncId) (a:List Value) (w:World) (P:Option Addr->Nat->Nat->World->Prop):Prop:=Call Tryz.prog k a w fun e w'=>∃p n c,e=.returned (.slice p n c)/\P p n c w'
abbrev Ct (k:FuncId) (a:List Value) (w:World) (P:Int->Int->World->Prop):Prop:=Call Tryz.prog k a w fun e w'=>∃n m,e=.returned (.tuple #[.int .i64 n,.int .i64 m])/\P n m w'
abbrev Cn (k:FuncId) (a:List Value) (w:World) (P:World->Prop):Prop:=Call Tryz.prog k a w fun e w'=>e=.returned (.tuple #[])/\P w'
def rp:Nat->Nat->List Nat->List (Nat×List Nat)->List (Nat×List Nat)
 | 0,_,_,l=>l
 | c+1,n,a,l=>(n,a)::rp c (n+1) a l
def kq:Nat->List (Nat×List Nat)->List (Nat×List Nat)
 | _,[]=>[]
 | n,(c,a)::l=>rp c n a (kq (n+c) l)
abbrev vI (k:Nat) (n:Int):Nat×SV:=(k,SV.v (.int .i64 n))
abbrev vP (k:Nat) (p:Option Addr):Nat×SV:=(k,SV.v (.pointer p))
abbrev vS (k:Nat) (p:Option Addr) (n c:Nat):Nat×SV:=(k,SV.v (.slice p n c))
abbrev pt (b:Nat):Value:=.pointer (some ⟨b,0,none⟩)
abbrev Cx (k:FuncId) (a:Array Value) (w:World) (Q:Ending->World->Prop):Prop:=Calls Tryz.prog k a w Q
end Go.Dav
namespace Go.Dav
open Go.Proofs
open Value IntKind Ending World Addr Tryz
set_option maxRecDepth 100000
noncomputable section
def GG:Mt:={N:=12,keep:=kp 0 [[0],[0,3],[2],[0,6],[2],[2]],bk:=[(0,[0])],ref:=false}
def L6:=ak f11
theorem u11:UT 11 GG L6 f11:=u_ func11 (by kernel_rfl)
theorem t11 (x w R):den prog GG L6 (aj 0 [I x]) w (Rt f11 R)=
(Fo (decide (x<=0)) (R (Z (int .u64 0)) w) (Fo (decide (x>=64)) (R (Z (int .u64 18446744073709551615)) w) (Cu 60 [I x] w fun n w'=>R (Z (int .u64 (wrap .u64 (n-1)))) w'))):=by kernel_rfl
def Is:Mt:={N:=10,keep:=kp 0 [[0,1],[4]],ref:=false}
def yi:=ak f23
theorem u23:UT 23 Is yi f23:=u_ func23 (by kernel_rfl)
theorem t23 (x x1 w R):den prog Is yi (aj 0 [int .u64 x,I x1]) w (Rt f23 R)=
(Cu 60 [I x1] w fun n w'=>R (Z (.bool (aw BinOp.and .u64 x n !=0))) w'):=by kernel_rfl
def IC:Mt:={N:=5,keep:=kp 0 [[0],[2]],ref:=false}
def yl:=ak f24
theorem u24:UT 24 IC yl f24:=u_ func24 (by kernel_rfl)
theorem t24 (x w R):den prog IC yl (aj 0 [int .u64 x]) w (Rt f24 R)=
(Ci 80 [int .u64 x] w fun n w'=>R (Z (I n)) w'):=by kernel_rfl
def KT:Mt:={N:=11,keep:=kp 0 [[0],[0,8],[2],[2]],ref:=false}
def QQ:=ak f60
theorem u60:UT 60 KT QQ f60:=u_ func60 (by kernel_rfl)
theorem t60 (x w R):den prog KT QQ (aj 0 [I x]) w (Rt f60 R)=
(Fz (decide (x<0)) (Fo (decide (x>=64)) (R (Z (int .u64 0)) w) (0<=x/\R (Z (int .u64 (dq .u64 1 x))) w)) (R (Z (int .u64 0)) w)):=by kernel_rfl
def K4:Mt:={N:=35,keep:=kq 0 [(7,[0]),(1,[2])],ref:=false}
def Q4:=ak f80
theorem u80:UT 80 K4 Q4 f80:=u_ func80 (by kernel_rfl)
theorem t80 (x w R):den prog K4 Q4 (aj 0 [int .u64 x]) w (Rt f80 R)=
((0:Int)<=1/\(0:Int)<=2/\(0:Int)<=4/\(0:Int)<=8/\(0:Int)<=16/\(0:Int)<=32/\R (Z (I (aw BinOp.and i64 (wrap i64 (wrap .u64 (wrap .u64 (wrap .u64 (aw BinOp.and .u64 (wrap .u64 (aC .u64 (wrap .u64 (aw BinOp.and .u64 (aC .u64 (wrap .u64 (aw BinOp.and .u64 (aC .u64 x 1) 6148914691236517205+aw BinOp.and .u64 x 6148914691236517205)) 2) 3689348814741910323+aw BinOp.and .u64 (wrap .u64 (aw BinOp.and .u64 (aC .u64 x 1) 6148914691236517205+aw BinOp.and .u64 x 6148914691236517205)) 3689348814741910323)) 4+wrap .u64 (aw BinOp.and .u64 (aC .u64 (wrap .u64 (aw BinOp.and .u64 (aC .u64 x 1) 6148914691236517205+aw BinOp.and .u64 x 6148914691236517205)) 2) 3689348814741910323+aw BinOp.and .u64 (wrap .u64 (aw BinOp.and .u64 (aC .u64 x 1) 6148914691236517205+aw BinOp.and .u64 x 6148914691236517205)) 3689348814741910323))) 1085102592571150095+aC .u64 (aw BinOp.and .u64 (wrap .u64 (aC .u64 (wrap .u64 (aw BinOp.and .u64 (aC .u64 (wrap .u64 (aw BinOp.and .u64 (aC .u64 x 1) 6148914691236517205+aw BinOp.and .u64 x 6148914691236517205)) 2) 3689348814741910323+aw BinOp.and .u64 (wrap .u64 (aw BinOp.and .u64 (aC .u64 x 1) 6148914691236517205+aw BinOp.and .u64 x 6148914691236517205)) 3689348814741910323)) 4+wrap .u64 (aw BinOp.and .u64 (aC .u64 (wrap .u64 (aw BinOp.and .u64 (aC .u64 x 1) 6148914691236517205+aw BinOp.and .u64 x 6148914691236517205)) 2) 3689348814741910323+aw BinOp.and .u64 (wrap .u64 (aw BinOp.and .u64 (aC .u64 x 1) 6148914691236517205+aw BinOp.and .u64 x 6148914691236517205)) 3689348814741910323))) 1085102592571150095) 8)+aC .u64 (wrap .u64 (aw BinOp.and .u64 (wrap .u64 (aC .u64 (wrap .u64 (aw BinOp.and .u64 (aC .u64 (wrap .u64 (aw BinOp.and .u64 (aC .u64 x 1) 6148914691236517205+aw BinOp.and .u64 x 6148914691236517205)) 2) 3689348814741910323+aw BinOp.and .u64 (wrap .u64 (aw BinOp.and .u64 (aC .u64 x 1) 6148914691236517205+aw BinOp.and .u64 x 6148914691236517205)) 3689348814741910323)) 4+wrap .u64 (aw BinOp.and .u64 (aC .u64 (wrap .u64 (aw BinOp.and .u64 (aC .u64 x 1) 6148914691236517205+aw BinOp.and .u64 x 6148914691236517205)) 2) 3689348814741910323+aw BinOp.and .u64 (wrap .u64 (aw BinOp.and .u64 (aC .u64 x 1) 6148914691236517205+aw BinOp.and .u64 x 6148914691236517205)) 3689348814741910323))) 1085102592571150095+aC .u64 (aw BinOp.and .u64 (wrap .u64 (aC .u64 (wrap .u64 (aw BinOp.and .u64 (aC .u64 (wrap .u64 (aw BinOp.and .u64 (aC .u64 x 1) 6148914691236517205+aw BinOp.and .u64 x 6148914691236517205)) 2) 3689348814741910323+aw BinOp.and .u64 (wrap .u64 (aw BinOp.and .u64 (aC .u64 x 1) 6148914691236517205+aw BinOp.and .u64 x 6148914691236517205)) 3689348814741910323)) 4+wrap .u64 (aw BinOp.and .u64 (aC .u64 (wrap .u64 (aw BinOp.and .u64 (aC .u64 x 1) 6148914691236517205+aw BinOp.and .u64 x 6148914691236517205)) 2) 3689348814741910323+aw BinOp.and .u64 (wrap .u64 (aw BinOp.and .u64 (aC .u64 x 1) 6148914691236517205+aw BinOp.and .u64 x 6148914691236517205)) 3689348814741910323))) 1085102592571150095) 8)) 16)+aC .u64 (wrap .u64 (wrap .u64 (aw BinOp.and .u64 (wrap .u64 (aC .u64 (wrap .u64 (aw BinOp.and .u64 (aC .u64 (wrap .u64 (aw BinOp.and .u64 (aC .u64 x 1) 6148914691236517205+aw BinOp.and .u64 x 6148914691236517205)) 2) 3689348814741910323+aw BinOp.and .u64 (wrap .u64 (aw BinOp.and .u64 (aC .u64 x 1) 6148914691236517205+aw BinOp.and .u64 x 6148914691236517205)) 3689348814741910323)) 4+wrap .u64 (aw BinOp.and .u64 (aC .u64 (wrap .u64 (aw BinOp.and .u64 (aC .u64 x 1) 6148914691236517205+aw BinOp.and .u64 x 6148914691236517205)) 2) 3689348814741910323+aw BinOp.and .u64 (wrap .u64 (aw BinOp.and .u64 (aC .u64 x 1) 6148914691236517205+aw BinOp.and .u64 x 6148914691236517205)) 3689348814741910323))) 1085102592571150095+aC .u64 (aw BinOp.and .u64 (wrap .u64 (aC .u64 (wrap .u64 (aw BinOp.and .u64 (aC .u64 (wrap .u64 (aw BinOp.and .u64 (aC .u64 x 1) 6148914691236517205+aw BinOp.and .u64 x 6148914691236517205)) 2) 3689348814741910323+aw BinOp.and .u64 (wrap .u64 (aw BinOp.and .u64 (aC .u64 x 1) 6148914691236517205+aw BinOp.and .u64 x 6148914691236517205)) 3689348814741910323)) 4+wrap .u64 (aw BinOp.and .u64 (aC .u64 (wrap .u64 (aw BinOp.and .u64 (aC .u64 x 1) 6148914691236517205+aw BinOp.and .u64 x 6148914691236517205)) 2) 3689348814741910323+aw BinOp.and .u64 (wrap .u64 (aw BinOp.and .u64 (aC .u64 x 1) 6148914691236517205+aw BinOp.and .u64 x 6148914691236517205)) 3689348814741910323))) 1085102592571150095) 8)+aC .u64 (wrap .u64 (aw BinOp.and .u64 (wrap .u64 (aC .u64 (wrap .u64 (aw BinOp.and .u64 (aC .u64 (wrap .u64 (aw BinOp.and .u64 (aC .u64 x 1) 6148914691236517205+aw BinOp.and .u64 x 6148914691236517205)) 2) 3689348814741910323+aw BinOp.and .u64 (wrap .u64 (aw BinOp.and .u64 (aC .u64 x 1) 6148914691236517205+aw BinOp.and .u64 x 6148914691236517205)) 3689348814741910323)) 4+wrap .u64 (aw BinOp.and .u64 (aC .u64 (wrap .u64 (aw BinOp.and .u64 (aC .u64 x 1) 6148914691236517205+aw BinOp.and .u64 x 6148914691236517205)) 2) 3689348814741910323+aw BinOp.and .u64 (wrap .u64 (aw BinOp.and .u64 (aC .u64 x 1) 6148914691236517205+aw BinOp.and .u64 x 6148914691236517205)) 3689348814741910323))) 1085102592571150095+aC .u64 (aw BinOp.and .u64 (wrap .u64 (aC .u64 (wrap .u64 (aw BinOp.and .u64 (aC .u64 (wrap .u64 (aw BinOp.and .u64 (aC .u64 x 1) 6148914691236517205+aw BinOp.and .u64 x 6148914691236517205)) 2) 3689348814741910323+aw BinOp.and .u64 (wrap .u64 (aw BinOp.and .u64 (aC .u64 x 1) 6148914691236517205+aw BinOp.and .u64 x 6148914691236517205)) 3689348814741910323)) 4+wrap .u64 (aw BinOp.and .u64 (aC .u64 (wrap .u64 (aw BinOp.and .u64 (aC .u64 x 1) 6148914691236517205+aw BinOp.and .u64 x 6148914691236517205)) 2) 3689348814741910323+aw BinOp.and .u64 (wrap .u64 (aw BinOp.and .u64 (aC .u64 x 1) 6148914691236517205+aw BinOp.and .u64 x 6148914691236517205)) 3689348814741910323))) 1085102592571150095) 8)) 16)) 32))) 127))) w):=by kernel_rfl
def Hx:Mt:={N:=9,keep:=kp 0 [[0,1],[4]],ref:=false}
def MT:=ak f158
theorem ajg:UT 158 Hx MT f158:=u_ func158 (by kernel_rfl)
theorem t158 (x x1 w R):den prog Hx MT (aj 0 [int .u64 x,I x1]) w (Rt f158 R)=
(Cu 60 [I x1] w fun n w'=>R (Z (int .u64 (aw BinOp.andNot .u64 x n))) w'):=by kernel_rfl
def Hy:Mt:={N:=8,keep:=kp 0 [[0],[0,5],[2,3],[2,3]],ref:=false}
def MU:=ak f159
theorem ajh:UT 159 Hy MU f159:=u_ func159 (by kernel_rfl)
theorem t159 (x w R):den prog Hy MU (aj 0 [int .u64 x]) w (Rt f159 R)=
(Fo (x==0) (R (Z (tuple #[I 0,I 12])) w) (Ci 253 [int .u64 x] w fun n w'=>R (Z (tuple #[I n,I 0])) w')):=by kernel_rfl
def uM:Mt:={N:=19,keep:=kp 0 [[0,1],[0,7,8,9],[0,7,8,9,10],[0,6,7,8,9],[0,7,8,9],[0,7,8,9],[4]],bk:=[(0,[0]),(1,[0,7,8,9])],lk:=[(2,[0,7,8,9])],ref:=false}
def xW:=ak f179
def YW:=xW.sr.sr
def Nd:=xW.sr.sl.sr.sl.sl
def CW (x:Int) (x1:Option Addr) (x2 x3:Nat) (x4 x5:Int):Env:=[(0,SV.v (int .u64 x)),vS 7 x1 x2 x3,vI 8 x4,vI 9 x5]
def TN (R:RT):=a7 0 [0] (SQ uM YW (Rt f179 R) (Rt f179 R))
theorem ajw:UT 179 uM xW f179:=u_ func179 (by kernel_rfl)
theorem t179 (x x1 x2 x3 w R):den prog uM xW (aj 0 [int .u64 x,slice x1 x2 x3]) w (Rt f179 R)=
(Cut (WP prog 19 (Code.loop Nd) (CW x x1 x2 x3 (↑x2:Int) 0) w (TN R))):=by kernel_rfl
theorem agy (x x1 x2 x3 x4 x5 w B R):den prog uM Nd (CW x x1 x2 x3 x4 x5) w (bo B (TN R))=
(Fo (decide (x5<x4)) ((0<=x5/\x5<(↑x2:Int))/\∃a,x1=some a/\Li w (add a (Int.toNat x5*1)) fun n=>Cu 60 [I n] w fun n w'=>B [(0,SV.v (int .u64 (aw BinOp.or .u64 x n))),vS 7 x1 x2 x3,vI 8 x4,(9,SV.v (I (wrap i64 (x5+1))))] w') (R (Z (int .u64 x)) w)):=by kernel_rfl
def IU:Mt:={N:=14,keep:=kp 0 [[0],[0,4],[2],[2]],ref:=false}
def On:=ak f253
theorem akx:UT 253 IU On f253:=u_ func253 (by kernel_rfl)
theorem t253 (x w R):den prog IU On (aj 0 [int .u64 x]) w (Rt f253 R)=
(((x==0)->R (Z (I 64)) w)/\
 ((x==0)=false->(0:Int)<=58/\(0<=aC .u64 (wrap .u64 (aw BinOp.and .u64 x (wrap .u64 (0-x))*285870213051353865)) 58/\aC .u64 (wrap .u64 (aw BinOp.and .u64 x (wrap .u64 (0-x))*285870213051353865)) 58<((64:Nat):Int))/\
 ∃n,w.cell? (add ⟨0,0,none⟩ (Int.toNat (aC .u64 (wrap .u64 (aw BinOp.and .u64 x (wrap .u64 (0-x))*285870213051353865)) 58)*1))=some (int IntKind.u8 n)/\R (Z (I (wrap i64 n))) w)):=by kernel_rfl
def I9:Mt:={N:=9,keep:=kp 0 [[0,1],[4]],ref:=false}
def OJ:=ak f277
theorem akQ:UT 277 I9 OJ f277:=u_ func277 (by kernel_rfl)
theorem t277 (x x1 w R):den prog I9 OJ (aj 0 [int .u64 x,int .u64 x1]) w (Rt f277 R)=
(R (Z (.bool (aw BinOp.andNot .u64 x x1==0))) w):=by kernel_rfl
def JA:Mt:={N:=8,keep:=kp 0 [[0,1],[4]],ref:=false}
def Pe:=ak f318
theorem ali:UT 318 JA Pe f318:=u_ func318 (by kernel_rfl)
theorem t318 (x x1 w R):den prog JA Pe (aj 0 [int .u64 x,int .u64 x1]) w (Rt f318 R)=
(R (Z (int .u64 (aw BinOp.and .u64 x x1))) w):=by kernel_rfl
def JB:Mt:={N:=32,keep:=kp 0 [[0,1],[0,1,12],[4,5],[0,6],[0,6,23],[4,5],[4,5]],ref:=false}
def Pf:=ak f319
theorem alj:UT 319 JB Pf f319:=u_ func319 (by kernel_rfl)
theorem t319 (x x1 w R):den prog JB Pf (aj 0 [int .u64 x,I x1]) w (Rt f319 R)=
(Fz (decide (x1<0)) (Fo (decide (x1>=63)) (Call prog 159 [int .u64 x] w fun e w'=>∃n a,e=Z (tuple #[I n,I a])/\R (Z (tuple #[I n,I a])) w') (Call prog 11 [I (wrap i64 (x1+1))] w fun e w'=>∃n,e=Z (int .u64 n)/\Fo (aw BinOp.andNot .u64 x n !=0) (Call prog 159 [int .u64 (aw BinOp.andNot .u64 x n)] w' fun e w'=>∃n a,e=Z (tuple #[I n,I a])/\R (Z (tuple #[I n,I a])) w') (Call prog 159 [int .u64 x] w' fun e w'=>∃n a,e=Z (tuple #[I n,I a])/\R (Z (tuple #[I n,I a])) w'))) (Call prog 159 [int .u64 x] w fun e w'=>∃n a,e=Z (tuple #[I n,I a])/\R (Z (tuple #[I n,I a])) w')):=by kernel_rfl
def J0:Mt:={N:=8,keep:=kp 0 [[0,1],[4]],ref:=false}
def PJ:=ak f353
theorem alJ:UT 353 J0 PJ f353:=u_ func353 (by kernel_rfl)
theorem t353 (x x1 w R):den prog J0 PJ (aj 0 [int .u64 x,int .u64 x1]) w (Rt f353 R)=
(R (Z (int .u64 (aw BinOp.andNot .u64 x x1))) w):=by kernel_rfl
def u5:Mt:={N:=16,keep:=kp 0 [[0],[0,3],[0,3,5],[0,3],[0,3],[2]],bk:=[(0,[3]),(1,[0,3])],lk:=[(2,[0,3])],ref:=false}
def yH:=ak f382
def Zc:=yH.sr.sr.sr
def Qg:=yH.sr.sr.sl.sl.sl
def Dm (x:Int) (x1:Option Addr) (x2 x3:Nat):Env:=[(0,SV.v (int .u64 x)),vS 3 x1 x2 x3]
def Un (R:RT):=a7 0 [3] (SQ u5 Zc (Rt f382 R) (Rt f382 R))
theorem al7:UT 382 u5 yH f382:=u_ func382 (by kernel_rfl)
theorem t382 (x w R):den prog u5 yH (aj 0 [int .u64 x]) w (Rt f382 R)=
(Cut (WP prog 16 (Code.loop Qg) (Dm x none 0 0) w (Un R))):=by kernel_rfl
theorem ahd (x x1 x2 x3 w B R):den prog u5 Qg (Dm x x1 x2 x3) w (bo B (Un R))=
(Fo (x !=0) (Ci 253 [int .u64 x] w fun n w'=>ay w' [I n] 3 fun p w'=>∃a n c b,Sem.run prog (Builtin.append_ #[36,36] 36 #[slice x1 x2 x3,slice (some p) 1 1]) w'=Result.ok (slice a n c) b/\B [(0,SV.v (int .u64 (aw BinOp.and .u64 x (wrap .u64 (x-1))))),vS 3 a n c] b) (R (Z (slice x1 x2 x3)) w)):=by kernel_rfl
def JH:Mt:={N:=9,keep:=kp 0 [[0,1],[4]],ref:=false}
def Pn:=ak f325
theorem alq:UT 325 JH Pn f325:=u_ func325 (by kernel_rfl)
theorem t325 (x x1 x2 x3 w R):den prog JH Pn (aj 0 [slice x x1 x2,I x3]) w (Rt f325 R)=
(Ci 375 [slice x x1 x2,I x3] w fun n w'=>R (Z (.bool (decide (n>=0)))) w'):=by kernel_rfl
def uY:Mt:={N:=19,keep:=kp 0 [[0,1],[0,1,7,8],[0,1,7,8,9],[0,1,5,7,8],[0,1,5,7,8,16],[4],[0,1,7,8],[4]],bk:=[(0,[]),(1,[0,1,7,8])],lk:=[(2,[0,1,7,8])],ref:=false}
def yE:=ak f375
def Za:=yE.sr.sr
def Qa:=yE.sr.sl.sr.sl.sl
def Dl (x:Option Addr) (x1 x2:Nat) (x3 x4 x5:Int):Env:=[vS 0 x x1 x2,vI 1 x3,vI 7 x4,vI 8 x5]
def Ul (R:RT):=a7 0 [] (SQ uY Za (Rt f375 R) (Rt f375 R))
theorem al2:UT 375 uY yE f375:=u_ func375 (by kernel_rfl)
theorem t375 (x x1 x2 x3 w R):den prog uY yE (aj 0 [slice x x1 x2,I x3]) w (Rt f375 R)=
(Cut (WP prog 19 (Code.loop Qa) (Dl x x1 x2 x3 (↑x1:Int) 0) w (Ul R))):=by kernel_rfl
theorem ahb (x x1 x2 x3 x4 x5 w B R):den prog uY Qa (Dl x x1 x2 x3 x4 x5) w (bo B (Ul R))=
(Fo (decide (x5<x4)) ((0<=x5/\x5<(↑x1:Int))/\∃a,x=some a/\Li w (add a (Int.toNat x5*1)) fun n=>Fo (x3==n) (R (Z (I x5)) w) (B [vS 0 x x1 x2,vI 1 x3,vI 7 x4,(8,SV.v (I (wrap i64 (x5+1))))] w)) (R (Z (I (-1:Int))) w)):=by kernel_rfl
def HS:Mt:={N:=8,keep:=kp 0 [[0],[0,4],[2],[2]],ref:=false}
def Nq:=ak f190
theorem ajE:UT 190 HS Nq f190:=u_ func190 (by kernel_rfl)
theorem t190 (x x1 x2 w R):den prog HS Nq (aj 0 [slice x x1 x2]) w (Rt f190 R)=
(Fo x.isNone (R (Z (N3)) w) (ay w [] 3 fun p w'=>∃a n c b,Sem.run prog (Builtin.append_ #[36,36] 36 #[slice (some p) 0 0,slice x x1 x2]) w'=Result.ok (slice a n c) b/\R (Z (slice a n c)) b)):=by kernel_rfl
def GD:Mt:={N:=18,keep:=kp 0 [[0],[0,9],[2,3],[2,3]],ref:=false}
def L2:=ak f107
theorem aip:UT 107 GD L2 f107:=u_ func107 (by kernel_rfl)
theorem t107 (x w R):den prog GD L2 (aj 0 [I x]) w (Rt f107 R)=
(Fz (decide (x<1)) (Fo (decide (x>1024)) (R (Z (tuple #[pointer none,I 2])) w) ((64:Int)≠0/\∃p n c w',Sem.run prog (Instr.makeSlice 290 (I (wrap i64 (Int.tdiv (wrap i64 (wrap i64 (x+64)-1)) 64))) (I (wrap i64 (Int.tdiv (wrap i64 (wrap i64 (x+64)-1)) 64)))) w=Result.ok (slice p n c) w'/\ay w' [slice p n c,I x,I 0] 292 fun p w'=>R (Z (tuple #[pointer (some p),I 0])) w')) (R (Z (tuple #[pointer none,I 2])) w)):=by kernel_rfl
def uI:Mt:={N:=59,keep:=kp 0 [[0],[0,7],[2,3],[0,10],[2,3],[0,23,24,25],[0,23,24,25,26],[0,4,5,23,24,25],[0,4,6,23,24,25],[0,4,6,23,24,25,34],[0,4,6],[4,6],[2,3],[0,23,24,25],[2,3]],bu:=[(3,(.range 10)),(10,(.range 12))],bk:=[(0,[0]),(1,[]),(2,[0,23,24,25])],lk:=[(6,[0,23,24,25])],ref:=false}
def xQ:=ak f149
def YR:=xQ.sr.sr.sr
def ML:=xQ.sr.sr.sl.sr.sl.sl
def CT (x x1:Option Addr) (x2 x3:Nat) (x4 x5:Int):Env:=[vP 0 x,vS 23 x1 x2 x3,vI 24 x4,vI 25 x5]
def TJ (R:RT):=a7 1 [] (SQ uI YR (Rt f149 R) (Rt f149 R))
theorem ai7:UT 149 uI xQ f149:=u_ func149 (by kernel_rfl)
theorem t149 (x w R):den prog uI xQ (aj 0 [pointer x]) w (Rt f149 R)=
(Fo x.isNone (R (Z (tuple #[I 0,I 1])) w) (Sm w fun w'=>∃a,x=some a/\Li w' (a.add 2) fun n=>∃a,x=some a/\Li w' (a.add 1) fun b=>Fo (n==b) (R (Z (tuple #[I 0,I 5])) w') (∃a,x=some a/\Lq w' (a.add 0) fun p n c=>Cut (WP prog 59 (Code.loop ML) (CT x p n c (↑n:Int) 0) w' (TJ R))))):=by kernel_rfl
theorem agt (x x1 x2 x3 x4 x5 w B R):den prog uI ML (CT x x1 x2 x3 x4 x5) w (bo B (TJ R))=
(Fo (decide (x5<x4)) ((0<=x5/\x5<(↑x2:Int))/\∃a,x1=some a/\Lu w (add a (Int.toNat x5*1)) fun n=>Ci 253 [int .u64 (aw BinOp.xor .u64 (match false with|true=>(-1:Int)|false=>IntKind.max .u64) n)] w fun n w'=>Fo (decide (n<64)) (Sm w' fun b=>∃a,x=some a/\∃p d c,b.cell? (a.add 0)=some (slice p d c)/\(0<=x5/\x5<(↑d:Int))/\∃a,p=some a/\∃f,b.cell? (add a (Int.toNat x5*1))=some (int .u64 f)/\0<=n/\(0<=x5/\x5<(↑d:Int))/\∃a,p=some a/\Wr b (add a (Int.toNat x5*1)) [int .u64 (aw BinOp.or .u64 f (dq .u64 1 n))] fun w'=>∃a,x=some a/\Li w' (a.add 2) fun g=>∃a,x=some a/\Wr w' (a.add 2) [I (wrap i64 (g+1))] fun w'=>R (Z (tuple #[I (wrap i64 (wrap i64 (wrap i64 (x5*64)+n)+1)),I 0])) w') (B [vP 0 x,vS 23 x1 x2 x3,vI 24 x4,(25,SV.v (I (wrap i64 (x5+1))))] w')) (R (Z (tuple #[I 0,I 5])) w)):=by kernel_rfl
def uS:Mt:={N:=21,keep:=kp 0 [[0],[0,3],[0,3,6,7],[0,3,6,7,8],[0,3,4,6,7],[0,3,4,6,7,13],[0,3,6,7],[0,3,6,7],[2]],bk:=[(0,[3]),(1,[0,3,6,7])],lk:=[(3,[0,3,6,7])],ref:=false}
def yp:=ak f272
def Y4:=yp.sr.sr.sr
def OH:=yp.sr.sr.sl.sr.sl.sl
def C8 (x x1:Option Addr) (x2 x3:Nat) (x4 x5:Int):Env:=[vP 0 x,vS 3 x1 x2 x3,vI 6 x4,vI 7 x5]
def T7 (R:RT):=a7 0 [3] (SQ uS Y4 (Rt f272 R) (Rt f272 R))
theorem akO:UT 272 uS yp f272:=u_ func272 (by kernel_rfl)
theorem t272 (x w R):den prog uS yp (aj 0 [pointer x]) w (Rt f272 R)=
(Ci 339 [pointer x] w fun n w'=>Cut (WP prog 21 (Code.loop OH) (C8 x none 0 0 n 0) w' (T7 R))):=by kernel_rfl
theorem agS (x x1 x2 x3 x4 x5 w B R):den prog uS OH (C8 x x1 x2 x3 x4 x5) w (bo B (T7 R))=
(Fo (decide (x5<x4)) (Cj 340 [pointer x,I (wrap i64 (x5+1))] w fun b w'=>Fo b (ay w' [I (wrap i64 (x5+1))] 3 fun p w'=>∃a n c d,Sem.run prog (Builtin.append_ #[36,36] 36 #[slice x1 x2 x3,slice (some p) 1 1]) w'=Result.ok (slice a n c) d/\B [vP 0 x,vS 3 a n c,vI 6 x4,(7,SV.v (I (wrap i64 (x5+1))))] d) (B [vP 0 x,vS 3 x1 x2 x3,vI 6 x4,(7,SV.v (I (wrap i64 (x5+1))))] w')) (R (Z (slice x1 x2 x3)) w)):=by kernel_rfl
def Jn:Mt:={N:=40,keep:=kp 0 [[0,1],[0,5,6],[0,5,6,13],[4],[0,5,6,16],[4],[0],[],[4]],bk:=[(0,[0,5,6])],ref:=false}
def O0:=ak f305
theorem ak5:UT 305 Jn O0 f305:=u_ func305 (by kernel_rfl)
theorem t305 (x x1 w R):den prog Jn O0 (aj 0 [pointer x,I x1]) w (Rt f305 R)=
(Call prog 363 [pointer x,I x1] w fun e w'=>∃p n,e=Z (tuple #[pointer p,int .u64 n])/\Fo x.isNone (R (Z (I 1)) w') (Fz p.isNone (∃a,p=some a/\∃b,w'.cell? a=some (int .u64 b)/\Fo (aw BinOp.and .u64 b n==0) (R (Z (I 4)) w') (∃a,p=some a/\∃c,w'.cell? a=some (int .u64 c)/\∃a,p=some a/\Wr w' a [int .u64 (aw BinOp.andNot .u64 c n)] fun w'=>∃a,x=some a/\∃n,w'.cell? (a.add 2)=some (I n)/\∃a,x=some a/\Wr w' (a.add 2) [I (wrap i64 (n-1))] fun w'=>R (Z (I 0)) w')) (R (Z (I 4)) w'))):=by kernel_rfl
def JT:Mt:={N:=9,keep:=kp 0 [[0],[0,4],[2],[2]],ref:=false}
def Pz:=ak f339
theorem alD:UT 339 JT Pz f339:=u_ func339 (by kernel_rfl)
theorem t339 (x w R):den prog JT Pz (aj 0 [pointer x]) w (Rt f339 R)=
(Fo x.isNone (R (Z (I 0)) w) (∃a,x=some a/\Li w (a.add 1) fun n=>R (Z (I n)) w)):=by kernel_rfl
def JV:Mt:={N:=23,keep:=kp 0 [[0,1],[5,6],[4]],ref:=false}
def PB:=ak f340
theorem alE:UT 340 JV PB f340:=u_ func340 (by kernel_rfl)
theorem t340 (x x1 w R):den prog JV PB (aj 0 [pointer x,I x1]) w (Rt f340 R)=
(Call prog 363 [pointer x,I x1] w fun e w'=>∃p n,e=Z (tuple #[pointer p,int .u64 n])/\Fo (!p.isNone) (∃a,p=some a/\Lu w' a fun b=>R (Z (.bool (aw BinOp.and .u64 b n !=0))) w') (R (Z (.bool false)) w')):=by kernel_rfl
def J8:Mt:={N:=32,keep:=kp 0 [[0,1],[0,1,19],[4,5],[4,5]],bu:=[(3,(.range 14))],ref:=false}
def PZ:=ak f363
theorem Xx:UT 363 J8 PZ f363:=u_ func363 (by kernel_rfl)
theorem t363 (x x1 w R):den prog J8 PZ (aj 0 [pointer x,I x1]) w (Rt f363 R)=
(Fz x.isNone (Fz (decide (x1<1)) (∃a,x=some a/\Li w (a.add 1) fun n=>Fo (decide (x1>n)) (R (Z (tuple #[pointer none,int .u64 0])) w) (Sm w fun w'=>∃a,x=some a/\Lq w' (a.add 0) fun p n c=>(64:Int)≠0/\(0<=wrap i64 (Int.tdiv (wrap i64 (x1-1)) 64)/\wrap i64 (Int.tdiv (wrap i64 (x1-1)) 64)<(↑n:Int))/\∃a,p=some a/\(64:Int)≠0/\0<=Int.tmod (wrap i64 (x1-1)) 64/\R (Z (tuple #[pointer (some (add a (Int.toNat (wrap i64 (Int.tdiv (wrap i64 (x1-1)) 64))*1))),int .u64 (dq .u64 1 (Int.tmod (wrap i64 (x1-1)) 64))])) w')) (R (Z (tuple #[pointer none,int .u64 0])) w)) (R (Z (tuple #[pointer none,int .u64 0])) w)):=by kernel_rfl
def GH:Mt:={N:=14,keep:=kp 0 [[0],[0,9],[2,3],[2,3]],ref:=false}
def L7:=ak f110
theorem ais:UT 110 GH L7 f110:=u_ func110 (by kernel_rfl)
theorem t110 (x w R):den prog GH L7 (aj 0 [I x]) w (Rt f110 R)=
(Fz (decide (x<1)) (Fo (decide (x>1024)) (R (Z (tuple #[pointer none,I 2])) w) (∃p n c w',Sem.run prog (Instr.makeSlice 36 (I x) (I x)) w=Result.ok (slice p n c) w'/\ay w' [slice p n c,I 0,I 0] 295 fun p w'=>R (Z (tuple #[pointer (some p),I 0])) w')) (R (Z (tuple #[pointer none,I 2])) w)):=by kernel_rfl
def Hr:Mt:={N:=42,keep:=kp 0 [[0,1],[0,1,5],[4],[0,1,8],[4],[0,1,12],[4],[0],[],[4]],bu:=[(5,(.range 11)),(7,[0,1,2,3,4,5,6,7,8,10,9,11,12])],bk:=[(0,[0,1])],ref:=false}
def MN:=ak f151
theorem ai9:UT 151 Hr MN f151:=u_ func151 (by kernel_rfl)
theorem t151 (x x1 w R):den prog Hr MN (aj 0 [pointer x,I x1]) w (Rt f151 R)=
(Fo x.isNone (R (Z (I 1)) w) (Cj 254 [pointer x,I x1] w fun b w'=>Fo b (R (Z (I 6)) w') (Sm w' fun d=>∃a,x=some a/\∃n,d.cell? (a.add 2)=some (I n)/\∃a,x=some a/\∃p g c,d.cell? (a.add 0)=some (slice p g c)/\Fo (n==(↑g:Int)) (R (Z (I 5)) d) (Sm d fun w'=>∃a,x=some a/\Lq w' (a.add 0) fun p n c=>∃h,x=some h/\Li w' (h.add 2) fun i=>Ci 255 [pointer x,I i] w' fun f w'=>w'.cell? (a.add 0)=some (slice p n c)/\(0<=f/\f<(↑n:Int))/\∃a,p=some a/\Wr w' (add a (Int.toNat f*1)) [I x1] fun w'=>∃a,x=some a/\Li w' (a.add 2) fun n=>∃a,x=some a/\Wr w' (a.add 2) [I (wrap i64 (n+1))] fun w'=>R (Z (I 0)) w')))):=by kernel_rfl
def HP:Mt:={N:=39,keep:=kp 0 [[0],[0,13],[2],[0,3],[0,3,4],[3],[2]],bu:=[(4,(.range 12)),(5,(.range 8))],ref:=false}
def Nk:=ak f187
theorem ajB:UT 187 HP Nk f187:=u_ func187 (by kernel_rfl)
theorem t187 (x w R):den prog HP Nk (aj 0 [pointer x]) w (Rt f187 R)=
(Fz x.isNone (∃a,x=some a/\Li w (a.add 2) fun n=>Fo (n==0) (R (Z (N3)) w) (∃a,x=some a/\Li w (a.add 2) fun n=>∃p e c w',Sem.run prog (Instr.makeSlice 36 (I n) (I n)) w=Result.ok (slice p e c) w'/\Sm w' fun f=>∃a,x=some a/\∃h n g,f.cell? (a.add 0)=some (slice h n g)/\∃a,x=some a/\∃b,f.cell? (a.add 1)=some (I b)/\(0<=b/\b<=(↑n:Int))/\∃d w',Sem.run prog (Builtin.copy_ #[36,36] 3 #[slice p e c,slice (dO h g (Int.toNat b) 1) (n-Int.toNat b) (g-Int.toNat b)]) f=Result.ok (I d) w'/\Sm w' fun i=>(0<=d/\d<=(↑e:Int))/\∃a,x=some a/\∃j n k,i.cell? (a.add 0)=some (slice j n k)/\∃l w',Sem.run prog (Builtin.copy_ #[36,36] 3 #[slice (dO p c (Int.toNat d) 1) (e-Int.toNat d) (c-Int.toNat d),slice j n k]) i=Result.ok (I l) w'/\R (Z (slice p e c)) w')) (R (Z (N3)) w)):=by kernel_rfl
def IV:Mt:={N:=9,keep:=kp 0 [[0,1],[4]],ref:=false}
def Oo:=ak f254
theorem aky:UT 254 IV Oo f254:=u_ func254 (by kernel_rfl)
theorem t254 (x x1 w R):den prog IV Oo (aj 0 [pointer x,I x1]) w (Rt f254 R)=
(Cq 187 [pointer x] w fun p n c w'=>Cj 325 [slice p n c,I x1] w' fun b w'=>R (Z (.bool b)) w'):=by kernel_rfl
def IW:Mt:={N:=17,keep:=kp 0 [[0,1],[4]],bu:=[(1,(.range 13))],ref:=false}
def Oq:=ak f255
theorem akz:UT 255 IW Oq f255:=u_ func255 (by kernel_rfl)
theorem t255 (x x1 w R):den prog IW Oq (aj 0 [pointer x,I x1]) w (Rt f255 R)=
(Sm w fun w'=>∃a,x=some a/\Li w' (a.add 1) fun n=>∃a,x=some a/\Lq w' (a.add 0) fun p b c=>(↑b:Int)≠0/\R (Z (I (Int.tmod (wrap i64 (n+x1)) (↑b:Int)))) w'):=by kernel_rfl
def Jm:Mt:={N:=27,keep:=kp 0 [[0],[0,4,5],[0,4,5,12],[0,4,5],[4,5],[2,3]],ref:=false}
def OZ:=ak f304
theorem ak4:UT 304 Jm OZ f304:=u_ func304 (by kernel_rfl)
theorem t304 (x w R):den prog Jm OZ (aj 0 [pointer x]) w (Rt f304 R)=
(Ct 307 [pointer x] w fun n b w'=>Fo (b==0) (Ci 255 [pointer x,I 1] w' fun c w'=>∃a,x=some a/\Wr w' (a.add 1) [I c] fun w'=>∃a,x=some a/\Li w' (a.add 2) fun d=>∃a,x=some a/\Wr w' (a.add 2) [I (wrap i64 (d-1))] fun w'=>R (Z (tuple #[I n,I b])) w') (R (Z (tuple #[I n,I b])) w')):=by kernel_rfl
def Jp:Mt:={N:=23,keep:=kp 0 [[0],[0,4],[2,3],[0,7],[2,3],[2,3]],bu:=[(5,(.range 12))],bk:=[(0,[0])],ref:=false}
def O2:=ak f307
theorem ak7:UT 307 Jp O2 f307:=u_ func307 (by kernel_rfl)
theorem t307 (x w R):den prog Jp O2 (aj 0 [pointer x]) w (Rt f307 R)=
(Fo x.isNone (R (Z (tuple #[I 0,I 1])) w) (∃a,x=some a/\Li w (a.add 2) fun n=>Fo (n==0) (R (Z (tuple #[I 0,I 12])) w) (Sm w fun w'=>∃a,x=some a/\Lq w' (a.add 0) fun p n c=>∃a,x=some a/\Li w' (a.add 1) fun b=>(0<=b/\b<(↑n:Int))/\∃a,p=some a/\Li w' (add a (Int.toNat b*1)) fun n=>R (Z (tuple #[I n,I 0])) w'))):=by kernel_rfl
def uX:Mt:={N:=45,keep:=kp 0 [[0,1],[0,1,9],[4],[0,1,5],[0,5,6],[0,5,6,16],[4],[0,5,7],[0,5,7,22],[0,5,7],[0,5,7],[],[4]],bu:=[(10,[0,1,2,3,4,5,7,8,9,10,11,6,12,13])],bk:=[(0,[0]),(1,[0,5,7])],lk:=[(8,[0,5,7])],ref:=false}
def yz:=ak f364
def Y8:=yz.sr.sr.sr.sr.sr.sr
def P0:=yz.sr.sr.sr.sr.sr.sl.sr.sl.sl
def Di (x x1:Option Addr) (x2 x3:Nat) (x4:Int):Env:=[vP 0 x,vS 5 x1 x2 x3,vI 7 x4]
def Uh (R:RT):=a7 0 [0] (SQ uX Y8 (Rt f364 R) (Rt f364 R))
theorem alT:UT 364 uX yz f364:=u_ func364 (by kernel_rfl)
theorem t364 (x x1 w R):den prog uX yz (aj 0 [pointer x,I x1]) w (Rt f364 R)=
(Fo x.isNone (R (Z (I 1)) w) (Cq 187 [pointer x] w fun p n c w'=>Ci 375 [slice p n c,I x1] w' fun a w'=>Fo (decide (a<0)) (R (Z (I 4)) w') (Cut (WP prog 45 (Code.loop P0) (Di x p n c a) w' (Uh R))))):=by kernel_rfl
theorem ag5 (x x1 x2 x3 x4 w B R):den prog uX P0 (Di x x1 x2 x3 x4) w (bo B (Uh R))=
(Fo (decide (wrap i64 (x4+1)<(↑x2:Int))) (Sm w fun w'=>∃a,x=some a/\Lq w' (a.add 0) fun p n c=>(0<=wrap i64 (x4+1)/\wrap i64 (x4+1)<(↑x2:Int))/\∃d,x1=some d/\∃f,w'.cell? (add d (Int.toNat (wrap i64 (x4+1))*1))=some (I f)/\Ci 255 [pointer x,I x4] w' fun b w'=>w'.cell? (add d (Int.toNat (wrap i64 (x4+1))*1))=some (I f)/\w'.cell? (a.add 0)=some (slice p n c)/\(0<=b/\b<(↑n:Int))/\∃a,p=some a/\Wr w' (add a (Int.toNat b*1)) [I f] fun w'=>B [vP 0 x,vS 5 x1 x2 x3,(7,SV.v (I (wrap i64 (x4+1))))] w') (∃a,x=some a/\Li w (a.add 2) fun n=>∃a,x=some a/\Wr w (a.add 2) [I (wrap i64 (n-1))] fun w'=>R (Z (I 0)) w')):=by kernel_rfl
def J9:Mt:={N:=16,keep:=kp 0 [[0],[0,3,4],[0,3,4,11],[2],[2]],ref:=false}
def P1:=ak f366
theorem alU:UT 366 J9 P1 f366:=u_ func366 (by kernel_rfl)
theorem t366 (x w R):den prog J9 P1 (aj 0 [pointer x]) w (Rt f366 R)=
(Ct 304 [pointer x] w fun n a w'=>Fo (a !=0) (R (Z (I a)) w') (Ci 151 [pointer x,I n] w' fun n w'=>R (Z (I n)) w')):=by kernel_rfl
def Ks:Mt:={N:=9,keep:=kp 0 [[0],[0,4],[2],[2]],ref:=false}
def Qp:=ak f392
theorem ame:UT 392 Ks Qp f392:=u_ func392 (by kernel_rfl)
theorem t392 (x w R):den prog Ks Qp (aj 0 [pointer x]) w (Rt f392 R)=
(Fo x.isNone (R (Z (I 0)) w) (∃a,x=some a/\Li w (a.add 2) fun n=>R (Z (I n)) w)):=by kernel_rfl
end
end Go.Dav
namespace Go.Dav
open Go.Proofs
open Value IntKind Ending World Addr Tryz
set_option maxRecDepth 100000
noncomputable section
def Hg:Mt:={N:=17,keep:=kp 0 [[0,1],[0,1,8],[4],[4]],ref:=false}
def xP:=ak f14
theorem u14:UT 14 Hg xP f14:=u_ func14 (by kernel_rfl)
theorem t14 (x x1 w R):den prog Hg xP (aj 0 [pointer x,I x1]) w (Rt f14 R)=
(Ci 73 [pointer x,I x1] w fun n w'=>Fo (n !=0) (R (Z (I 0)) w') (∃a,x=some a/\Lq w' (a.add 0) fun p n c=>(0<=x1/\x1<(↑n:Int))/\∃a,p=some a/\Lp w' (add a (Int.toNat x1*1)) fun p=>Ci 74 [pointer p] w' fun n w'=>R (Z (I n)) w')):=by kernel_rfl
def uW:Mt:={N:=38,keep:=kp 0 [[0],[0,12],[2,3],[0,4],[4,16,17],[4,16,17,18],[4,5,6,16,17],[4,5,6,16,17,24],[2,3],[4,16,17],[4,16,17],[2,3]],bk:=[(0,[4]),(1,[4,16,17])],lk:=[(5,[4,16,17])],ref:=false}
def yx:=ak f36
def Y9:=yx.sr.sr.sr.sr
def P5:=yx.sr.sr.sr.sl.sr.sl.sl
def Dk (x:Option Addr) (x1 x2:Int):Env:=[vP 4 x,vI 16 x1,vI 17 x2]
def Uk (R:RT):=a7 0 [4] (SQ uW Y9 (Rt f36 R) (Rt f36 R))
theorem u36:UT 36 uW yx f36:=u_ func36 (by kernel_rfl)
theorem t36 (x w R):den prog uW yx (aj 0 [I x]) w (Rt f36 R)=
(Fz (decide (x<1)) (Fo (decide (x>64)) (R (Z (tuple #[pointer none,I 2])) w) (ob w fun r w'=>ay w' [N3,map (some r)] 155 fun p w'=>Cut (WP prog 38 (Code.loop P5) (Dk (some p) x 0) w' (Uk R)))) (R (Z (tuple #[pointer none,I 2])) w)):=by kernel_rfl
theorem ag8 (x x1 x2 w B R):den prog uW P5 (Dk x x1 x2) w (bo B (Uk R))=
(Fo (decide (x2<x1)) (Call prog 108 [I 32] w fun e w'=>∃p n,e=Z (tuple #[pointer p,I n])/\Fo (n !=0) (R (Z (tuple #[pointer none,I n])) w') (∃a,x=some a/\Lq w' (a.add 0) fun b n c=>ay w' [pointer p] 152 fun p w'=>∃d f g h,Sem.run prog (Builtin.append_ #[153,153] 153 #[slice b n c,slice (some p) 1 1]) w'=Result.ok (slice d f g) h/\∃a,x=some a/\Wr h (a.add 0) [slice d f g] fun w'=>B [vP 4 x,vI 16 x1,(17,SV.v (I (wrap i64 (x2+1))))] w')) (R (Z (tuple #[pointer x,I 0])) w)):=by kernel_rfl
def K2:Mt:={N:=20,keep:=kp 0 [[0,1],[0,1,5],[4],[8],[4],[4]],bk:=[(0,[])],ref:=false}
def Q0:=ak f73
theorem u73:UT 73 K2 Q0 f73:=u_ func73 (by kernel_rfl)
theorem t73 (x x1 w R):den prog K2 Q0 (aj 0 [pointer x,I x1]) w (Rt f73 R)=
(Fo x.isNone (R (Z (I 1)) w) (Fz (decide (x1<0)) (∃a,x=some a/\Lq w (a.add 0) fun p n c=>Fo (decide (x1>=(↑n:Int))) (R (Z (I 3)) w) (R (Z (I 0)) w)) (R (Z (I 3)) w))):=by kernel_rfl
def K3:Mt:={N:=10,keep:=kp 0 [[0],[0,4],[2],[2]],ref:=false}
def Q1:=ak f74
theorem u74:UT 74 K3 Q1 f74:=u_ func74 (by kernel_rfl)
theorem t74 (x w R):den prog K3 Q1 (aj 0 [pointer x]) w (Rt f74 R)=
(Fo x.isNone (R (Z (I 0)) w) (∃a,x=some a/\∃r,w.cell? (a.add 8)=some (map r)/\∃(n:Nat),(∀(ty:TypeId),Sem.run prog (Builtin.len_ #[78] ty #[map r]) w=Result.ok (I (↑n:Int)) w)/\R (Z (I (↑n:Int))) w)):=by kernel_rfl
def K6:Mt:={N:=17,keep:=kp 0 [[0,1],[0,1,8],[4],[4]],ref:=false}
def Q6:=ak f88
theorem u88:UT 88 K6 Q6 f88:=u_ func88 (by kernel_rfl)
theorem t88 (x x1 w R):den prog K6 Q6 (aj 0 [pointer x,I x1]) w (Rt f88 R)=
(Ci 73 [pointer x,I x1] w fun n w'=>Fo (n !=0) (R (Z (N3)) w') (∃a,x=some a/\Lq w' (a.add 0) fun p n c=>(0<=x1/\x1<(↑n:Int))/\∃a,p=some a/\Lp w' (add a (Int.toNat x1*1)) fun p=>Cq 182 [pointer p] w' fun p n c w'=>R (Z (slice p n c)) w')):=by kernel_rfl
def rT:Mt:={N:=31,keep:=kp 0 [[0],[0,4],[0,4,12],[0,4,12,13],[0,4,5,12],[0,4,5,6,7,12],[0,4,5,6,7,12,21],[2,3],[0,4,12],[0,4,12],[2,3]],bk:=[(0,[4]),(1,[0,4,12])],lk:=[(3,[0,4,12])],ref:=false}
def xL:=ak f108
def YO:=xL.sr.sr.sr
def L3:=xL.sr.sr.sl.sr.sl.sl
def zh (x:Int) (x1:Option Addr) (x2:Int):Env:=[vI 0 x,vP 4 x1,vI 12 x2]
def TE (R:RT):=a7 0 [4] (SQ rT YO (Rt f108 R) (Rt f108 R))
theorem aiq:UT 108 rT xL f108:=u_ func108 (by kernel_rfl)
theorem t108 (x w R):den prog rT xL (aj 0 [I x]) w (Rt f108 R)=
(ob w fun r w'=>ay w' [pointer none,pointer none,pointer none,pointer none,pointer none,pointer none,pointer none,pointer none,map (some r),I x] 265 fun p w'=>Cut (WP prog 31 (Code.loop L3) (zh x (some p) 0) w' (TE R))):=by kernel_rfl
theorem Xi (x x1 x2 w B R):den prog rT L3 (zh x x1 x2) w (bo B (TE R))=
(Fo (decide (x2<8)) (Call prog 110 [I x] w fun e w'=>∃p n,e=Z (tuple #[pointer p,I n])/\Fo (n !=0) (R (Z (tuple #[pointer none,I n])) w') (∃a,x1=some a/\(0<=x2/\x2<(↑8:Int))/\Wr w' (add (a.add 0) (Int.toNat x2*1)) [pointer p] fun w'=>B [vI 0 x,vP 4 x1,(12,SV.v (I (wrap i64 (x2+1))))] w')) (R (Z (tuple #[pointer x1,I 0])) w)):=by kernel_rfl
def G7:Mt:={N:=19,keep:=kp 0 [[0,1],[1,5,6],[1,5,6,14],[4],[4]],ref:=false}
def Mu:=ak f132
theorem aiP:UT 132 G7 Mu f132:=u_ func132 (by kernel_rfl)
theorem t132 (x x1 w R):den prog G7 Mu (aj 0 [pointer x,I x1]) w (Rt f132 R)=
(Call prog 242 [pointer x,I x1] w fun e w'=>∃p n,e=Z (tuple #[pointer p,I n])/\Fo (n !=0) (R (Z (I n)) w') (Ci 243 [pointer p,I x1] w' fun n w'=>R (Z (I n)) w')):=by kernel_rfl
def Ik:Mt:={N:=38,keep:=kp 0 [[0,1],[0,1,6],[0,1,6,13],[4,5],[0,1,7,8],[0,1,7,8,27],[4,5],[4,5]],ref:=false}
def NS:=ak f224
theorem aj4:UT 224 Ik NS f224:=u_ func224 (by kernel_rfl)
theorem t224 (x x1 w R):den prog Ik NS (aj 0 [pointer x,I x1]) w (Rt f224 R)=
(Ci 73 [pointer x,I x1] w fun n w'=>Fo (n !=0) (R (Z (tuple #[I 0,I n])) w') (∃a,x=some a/\Lq w' (a.add 0) fun p n c=>(0<=x1/\x1<(↑n:Int))/\∃a,p=some a/\Lp w' (add a (Int.toNat x1*1)) fun p=>Ct 309 [pointer p] w' fun n b w'=>Fo (b !=0) (R (Z (tuple #[I 0,I b])) w') (∃a,x=some a/\Lq w' (a.add 0) fun p d c=>(0<=x1/\x1<(↑d:Int))/\∃a,p=some a/\Lp w' (add a (Int.toNat x1*1)) fun p=>Ci 310 [pointer p] w' fun f w'=>R (Z (tuple #[I n,I f])) w'))):=by kernel_rfl
def Iw:Mt:={N:=48,keep:=kp 0 [[0,1,2,3],[0,1,2,3,9],[0,1,2,3,9,17],[8],[0,1,2,3,11],[0,1,2,3,28],[8],[0,1,3,12],[0,1,3,12,40],[12],[8]],ref:=false}
def N2:=ak f235
theorem akf:UT 235 Iw N2 f235:=u_ func235 (by kernel_rfl)
theorem t235 (x x1 x2 x3 w R):den prog Iw N2 (aj 0 [pointer x,I x1,I x2,I x3]) w (Rt f235 R)=
(Ci 73 [pointer x,I x1] w fun n w'=>Fo (n !=0) (R (Z (I n)) w') (∃a,x=some a/\∃r,w'.cell? (a.add 1)=some (map r)/\∃n b,Sem.run prog (Instr.lookup 78 (map r) (I x3) true) w'=Result.ok (tuple #[I n,.bool b]) w'/\Fo b (R (Z (I 6)) w') (∃a,x=some a/\Lq w' (a.add 0) fun p n c=>(0<=x1/\x1<(↑n:Int))/\∃a,p=some a/\Lp w' (add a (Int.toNat x1*1)) fun p=>Ci 320 [pointer p,I x2,I x3] w' fun n w'=>Fo (n==0) (∃a,x=some a/\∃r,w'.cell? (a.add 1)=some (map r)/\∃d,Sem.run prog (Instr.mapUpdate 78 (map r) (I x3) (I x1)) w'=Result.ok () d/\R (Z (I n)) d) (R (Z (I n)) w')))):=by kernel_rfl
def Iz:Mt:={N:=24,keep:=kp 0 [[0,1],[0,1,5,6],[0,1,5,6,14],[4],[1,5],[4]],ref:=false}
def N5:=ak f237
theorem akh:UT 237 Iz N5 f237:=u_ func237 (by kernel_rfl)
theorem t237 (x x1 w R):den prog Iz N5 (aj 0 [pointer x,I x1]) w (Rt f237 R)=
(Call prog 242 [pointer x,I x1] w fun e w'=>∃p n,e=Z (tuple #[pointer p,I n])/\Fo (n !=0) (R (Z (I n)) w') (∃a,x=some a/\∃r,w'.cell? (a.add 1)=some (map r)/\∃b,Sem.run prog (Builtin.delete_ #[78,3] 0 #[map r,I x1]) w'=Result.ok (tuple #[]) b/\Call prog 321 [pointer p,I x1] b fun e w'=>∃n,e=Z (I n)/\R (Z (I n)) w')):=by kernel_rfl
def IF:Mt:={N:=28,keep:=kp 0 [[0,1],[0,1,9],[4,5],[0,6,7],[0,6,20],[4,5],[4,5]],ref:=false}
def Oa:=ak f242
theorem akm:UT 242 IF Oa f242:=u_ func242 (by kernel_rfl)
theorem t242 (x x1 w R):den prog IF Oa (aj 0 [pointer x,I x1]) w (Rt f242 R)=
(Fo x.isNone (R (Z (tuple #[pointer none,I 1])) w) (∃a,x=some a/\∃r,w.cell? (a.add 1)=some (map r)/\∃n b,Sem.run prog (Instr.lookup 78 (map r) (I x1) true) w=Result.ok (tuple #[I n,.bool b]) w/\Fo (!b) (R (Z (tuple #[pointer none,I 4])) w) (∃a,x=some a/\Lq w (a.add 0) fun p d c=>(0<=n/\n<(↑d:Int))/\∃a,p=some a/\Lp w (add a (Int.toNat n*1)) fun p=>R (Z (tuple #[pointer p,I 0])) w))):=by kernel_rfl
def IG:Mt:={N:=24,keep:=kp 0 [[0,1],[0,1,5],[0,1,5,7],[0,1,5,7,18],[4],[4]],ref:=false}
def Oc:=ak f243
theorem akn:UT 243 IG Oc f243:=u_ func243 (by kernel_rfl)
theorem t243 (x x1 w R):den prog IG Oc (aj 0 [pointer x,I x1]) w (Rt f243 R)=
(Call prog 323 [pointer x,I x1] w fun e w'=>∃n b,e=Z (tuple #[I n,.bool b])/\Ci 321 [pointer x,I x1] w' fun a w'=>Fo (a !=0) (R (Z (I a)) w') (Ci 320 [pointer x,I n,I x1] w' fun n w'=>R (Z (I n)) w')):=by kernel_rfl
def I6:Mt:={N:=11,keep:=kp 0 [[0,1],[4,5]],ref:=false}
def OE:=ak f267
theorem akL:UT 267 I6 OE f267:=u_ func267 (by kernel_rfl)
theorem t267 (x x1 w R):den prog I6 OE (aj 0 [pointer x,int .u64 x1]) w (Rt f267 R)=
(Ct 335 [pointer x,int .u64 x1,func (Fn.func 336) #[] #[]] w fun n a w'=>R (Z (tuple #[I n,I a])) w'):=by kernel_rfl
def I7:Mt:={N:=11,keep:=kp 0 [[0,1],[4,5]],ref:=false}
def OF:=ak f268
theorem akM:UT 268 I7 OF f268:=u_ func268 (by kernel_rfl)
theorem t268 (x x1 w R):den prog I7 OF (aj 0 [pointer x,int .u64 x1]) w (Rt f268 R)=
(Ct 335 [pointer x,int .u64 x1,func (Fn.func 337) #[] #[]] w fun n a w'=>R (Z (tuple #[I n,I a])) w'):=by kernel_rfl
def Jr:Mt:={N:=18,keep:=kp 0 [[0],[4,5],[4,5,12],[2,3],[2,3]],ref:=false}
def O4:=ak f309
theorem ak9:UT 309 Jr O4 f309:=u_ func309 (by kernel_rfl)
theorem t309 (x w R):den prog Jr O4 (aj 0 [pointer x]) w (Rt f309 R)=
(Call prog 365 [pointer x] w fun e w'=>∃p n,e=Z (tuple #[pointer p,I n])/\Fo (n !=0) (R (Z (tuple #[I 0,I n])) w') (Ct 307 [pointer p] w' fun n a w'=>R (Z (tuple #[I n,I a])) w')):=by kernel_rfl
def Jt:Mt:={N:=15,keep:=kp 0 [[0],[3,4],[3,4,11],[2],[2]],ref:=false}
def O6:=ak f310
theorem ala:UT 310 Jt O6 f310:=u_ func310 (by kernel_rfl)
theorem t310 (x w R):den prog Jt O6 (aj 0 [pointer x]) w (Rt f310 R)=
(Call prog 365 [pointer x] w fun e w'=>∃p n,e=Z (tuple #[pointer p,I n])/\Fo (n !=0) (R (Z (I n)) w') (Ci 366 [pointer p] w' fun n w'=>R (Z (I n)) w')):=by kernel_rfl
def JC:Mt:={N:=54,keep:=kp 0 [[0,1,2],[0,1,2,10],[6],[0,1,2,8],[0,1,2,8,20],[6],[0,1,2,27],[6],[0,1,2,29],[6],[0,1,2],[6]],bu:=[(8,(.range 11))],bk:=[(0,[0,1,2])],ref:=false}
def Pg:=ak f320
theorem alk:UT 320 JC Pg f320:=u_ func320 (by kernel_rfl)
theorem t320 (x x1 x2 w R):den prog JC Pg (aj 0 [pointer x,I x1,I x2]) w (Rt f320 R)=
(Fo x.isNone (R (Z (I 1)) w) (∃a,x=some a/\∃r,w.cell? (a.add 8)=some (map r)/\∃n b,Sem.run prog (Instr.lookup 78 (map r) (I x2) true) w=Result.ok (tuple #[I n,.bool b]) w/\Fz (decide (x1<0)) (Fo (decide (x1>=8)) (R (Z (I 2)) w) (Fo b (R (Z (I 6)) w) (Sm w fun w'=>∃a,x=some a/\∃r,w'.cell? (a.add 8)=some (map r)/\∃(n:Nat),(∀(ty:TypeId),Sem.run prog (Builtin.len_ #[78] ty #[map r]) w'=Result.ok (I (↑n:Int)) w')/\∃a,x=some a/\Li w' (a.add 9) fun c=>Fo (decide ((↑n:Int)>=c)) (R (Z (I 5)) w') (∃a,x=some a/\∃r,w'.cell? (a.add 8)=some (map r)/\∃d,Sem.run prog (Instr.mapUpdate 78 (map r) (I x2) (I x1)) w'=Result.ok () d/\∃a,x=some a/\(0<=x1/\x1<(↑8:Int))/\∃p,d.cell? (add (a.add 0) (Int.toNat x1*1))=some (pointer p)/\Call prog 151 [pointer p,I x2] d fun e w'=>∃n,e=Z (I n)/\R (Z (I n)) w')))) (R (Z (I 2)) w))):=by kernel_rfl
def JD:Mt:={N:=33,keep:=kp 0 [[0,1],[0,1,8],[4],[0,1,5,6],[0,1,5,19],[4],[0,1,5],[4]],ref:=false}
def Ph:=ak f321
theorem alm:UT 321 JD Ph f321:=u_ func321 (by kernel_rfl)
theorem t321 (x x1 w R):den prog JD Ph (aj 0 [pointer x,I x1]) w (Rt f321 R)=
(Fo x.isNone (R (Z (I 1)) w) (∃a,x=some a/\∃r,w.cell? (a.add 8)=some (map r)/\∃n b,Sem.run prog (Instr.lookup 78 (map r) (I x1) true) w=Result.ok (tuple #[I n,.bool b]) w/\Fo (!b) (R (Z (I 4)) w) (∃a,x=some a/\∃r,w.cell? (a.add 8)=some (map r)/\∃w',Sem.run prog (Builtin.delete_ #[78,3] 0 #[map r,I x1]) w=Result.ok (tuple #[]) w'/\∃a,x=some a/\(0<=n/\n<(↑8:Int))/\Lp w' (add (a.add 0) (Int.toNat n*1)) fun p=>Ci 364 [pointer p,I x1] w' fun n w'=>R (Z (I n)) w'))):=by kernel_rfl
def JF:Mt:={N:=21,keep:=kp 0 [[0,1],[0,1,9],[4,5],[6,7],[4,5]],ref:=false}
def Pk:=ak f323
theorem alo:UT 323 JF Pk f323:=u_ func323 (by kernel_rfl)
theorem t323 (x x1 w R):den prog JF Pk (aj 0 [pointer x,I x1]) w (Rt f323 R)=
((x.isNone->R (Z (tuple #[int i64 0,.bool false])) w)/\(x.isNone=false->∃a,x=some a/\∃r,w.cell? (a.add 8)=some (map r)/\∃n b,Sem.run prog (Instr.lookup 78 (map r) (int i64 x1) true) w=Result.ok (tuple #[int i64 n,.bool b]) w/\R (Z (tuple #[int i64 n,.bool b])) w)):=by kernel_rfl
def mb:Mt:={N:=46,keep:=kp 0 [[0,1,2],[0,1,2,13],[6,7],[0,2,8],[0,2,8,25],[6,7],[0,2,8,9],[0,2,9,29,30,31],[0,2,9,29,30,31,32],[0,2,9,11,29,30,31],[0,2,9,11,29,30,31,42],[0,2,9,29,30,31],[0,2,9,29,30,31],[6,7]],bk:=[(0,[9]),(1,[0,2,9,29,30,31])],lk:=[(8,[0,2,9,29,30,31])],ref:=false}
def oq:=ak f335
def Cd:=oq.sr.sr.sr.sr.sr.sr
def vx:=oq.sr.sr.sr.sr.sr.sl.sr.sl.sl
def vO (x:Option Addr) (x1:Int) (x2:Option Addr) (x3 x4:Nat) (x5 x6:Int):Env:=[vP 0 x,(2,SV.v (func (Fn.func 336) #[] #[])),vI 9 x1,vS 29 x2 x3 x4,vI 30 x5,vI 31 x6]
def wm (R:RT):=a7 0 [9] (SQ mb Cd (Rt f335 R) (Rt f335 R))
theorem Ge:UT 335 mb oq f335:=u_ func335 (by kernel_rfl)
theorem t335 (x x1 w R):den prog mb oq (aj 0 [pointer x,int .u64 x1,func (Fn.func 336) #[] #[]]) w (Rt f335 R)=
(Fo x.isNone (R (Z (tuple #[I 0,I 1])) w) (∃a,x=some a/\Lq w (a.add 0) fun p n c=>Cu 11 [I (↑n:Int)] w fun n w'=>Cu 318 [int .u64 x1,int .u64 n] w' fun n w'=>Cq 382 [int .u64 n] w' fun p n c w'=>Fo ((↑n:Int)==0) (R (Z (tuple #[I 0,I 12])) w') (((0:Int)<=0/\0<(↑n:Int))/\∃a,p=some a/\Li w' (a.add 0) fun b=>Cut (WP prog 46 (Code.loop vx) [vP 0 x,(2,SV.v (func (Fn.func 336) #[] #[])),vI 9 b,vS 29 p n c,(30,SV.v (I (↑n:Int))),vI 31 0] w' (wm R))))):=by kernel_rfl
theorem FJ (x x1 x2 x3 x4 x5 x6 w B R):den prog mb vx (vO x x1 x2 x3 x4 x5 x6) w (bo B (wm R))=
(Fo (decide (x6<x5)) ((0<=x6/\x6<(↑x3:Int))/\∃a,x2=some a/\Li w (add a (Int.toNat x6*1)) fun n=>Ci 14 [pointer x,I n] w fun c w'=>Ci 14 [pointer x,I x1] w' fun d w'=>Cj 336 [I c,I d] w' fun b w'=>Fo b (B [vP 0 x,(2,SV.v (func (Fn.func 336) #[] #[])),vI 9 n,vS 29 x2 x3 x4,vI 30 x5,(31,SV.v (I (wrap i64 (x6+1))))] w') (B [vP 0 x,(2,SV.v (func (Fn.func 336) #[] #[])),vI 9 x1,vS 29 x2 x3 x4,vI 30 x5,(31,SV.v (I (wrap i64 (x6+1))))] w')) (R (Z (tuple #[I x1,I 0])) w)):=by kernel_rfl
def JR:Mt:={N:=8,keep:=kp 0 [[0,1],[4]],ref:=false}
def Px:=ak f336
theorem alB:UT 336 JR Px f336:=u_ func336 (by kernel_rfl)
theorem t336 (x x1 w R):den prog JR Px (aj 0 [I x,I x1]) w (Rt f336 R)=
(R (Z (.bool (decide (x>x1)))) w):=by kernel_rfl
def JS:Mt:={N:=8,keep:=kp 0 [[0,1],[4]],ref:=false}
def Py:=ak f337
theorem alC:UT 337 JS Py f337:=u_ func337 (by kernel_rfl)
theorem t337 (x x1 w R):den prog JS Py (aj 0 [I x,I x1]) w (Rt f337 R)=
(R (Z (.bool (decide (x<x1)))) w):=by kernel_rfl
end
end Go.Dav
namespace Go.Dav
open Go.Proofs
open Value IntKind Ending World Addr Tryz
set_option maxRecDepth 100000
noncomputable section
def JU:Mt:={N:=25,keep:=kp 0 [[0],[0,11],[2,3],[0,4,5],[0,4,5,17],[2,3],[2,3]],ref:=false}
def PA:=ak f34
theorem u34:UT 34 JU PA f34:=u_ func34 (by kernel_rfl)
theorem t34 (x w R):den prog JU PA (aj 0 [I x]) w (Rt f34 R)=
(Fz (decide (x<1)) (Fo (decide (x>64)) (R (Z (tuple #[pointer none,I 2])) w) (Call prog 107 [I 32] w fun e w'=>∃p n,e=Z (tuple #[pointer p,I n])/\Fo (n !=0) (R (Z (tuple #[pointer none,I n])) w') (ob w' fun r w'=>ay w' [pointer p,I x,map (some r)] 192 fun p w'=>R (Z (tuple #[pointer (some p),I 0])) w'))) (R (Z (tuple #[pointer none,I 2])) w)):=by kernel_rfl
def GV:Mt:={N:=48,keep:=kp 0 [[0,1,2],[0,1,2,10],[6,7],[0,1,2,13],[6,7],[0,1,2,8,9],[0,1,2,8,9,36],[6,7],[8],[6,7]],bk:=[(0,[0,1,2])],ref:=false}
def Mn:=ak f125
theorem aiI:UT 125 GV Mn f125:=u_ func125 (by kernel_rfl)
theorem t125 (x x1 x2 w R):den prog GV Mn (aj 0 [pointer x,I x1,int .u64 x2]) w (Rt f125 R)=
(Fo x.isNone (R (Z (tuple #[I 0,I 1])) w) (Fz (decide (x1<0)) (Fz (decide (x1>=8)) (Cj 232 [pointer x,int .u64 x2] w fun b w'=>Fo (!b) (R (Z (tuple #[I 0,I 2])) w') (∃a,x=some a/\Lp w' (add (a.add 0) 0) fun p=>Ct 149 [pointer p] w' fun n c w'=>Fo (c !=0) (R (Z (tuple #[I 0,I c])) w') (∃a,x=some a/\∃r,w'.cell? (a.add 2)=some (map r)/\ay w' [I x1,int .u64 x2,I 0,.bool false,.bool false,I 0] 250 fun p w'=>∃d,Sem.run prog (Instr.mapUpdate 190 (map r) (I n) (pointer (some p))) w'=Result.ok () d/\R (Z (tuple #[I n,I 0])) d))) (R (Z (tuple #[I 0,I 2])) w)) (R (Z (tuple #[I 0,I 2])) w))):=by kernel_rfl
def GX:Mt:={N:=21,keep:=kp 0 [[0,1,4],[4,6,7],[4,6,7,15],[4,5],[4,5]],ref:=false}
def Mp:=ak f127
theorem aiK:UT 127 GX Mp f127:=u_ func127 (by kernel_rfl)
theorem t127 (x x1 w R):den prog GX Mp (aj 0 [pointer x,I x1]) w (Rt f127 R)=
(ay w [I 0,int .u64 0,I 0,.bool false,.bool false,I 0] 250 fun p w'=>Call prog 236 [pointer x,I x1] w' fun e w'=>∃i n,e=Z (tuple #[pointer i,I n])/\Fo (n !=0) (Wr w' p [I 0,int .u64 0,I 0,.bool false,.bool false,I 0] fun w'=>Li w' (p.add 0) fun c=>Lu w' (p.add 1) fun d=>Li w' (p.add 2) fun f=>Lj w' (p.add 3) fun b=>Lj w' (p.add 4) fun g=>Li w' (p.add 5) fun h=>R (Z (tuple #[agg #[I c,int .u64 d,I f,.bool b,.bool g,I h],I n])) w') (∃a,i=some a/\Li w' (a.add 0) fun n=>Lu w' (a.add 1) fun c=>Li w' (a.add 2) fun d=>Lj w' (a.add 3) fun b=>Lj w' (a.add 4) fun g=>Li w' (a.add 5) fun f=>Wr w' p [I n,int .u64 c,I d,.bool b,.bool g,I f] fun w'=>Li w' (p.add 0) fun n=>Lu w' (p.add 1) fun h=>Li w' (p.add 2) fun j=>Lj w' (p.add 3) fun b=>Lj w' (p.add 4) fun k=>Li w' (p.add 5) fun l=>R (Z (tuple #[agg #[I n,int .u64 h,I j,.bool b,.bool k,I l],I 0])) w')):=by kernel_rfl
def GY:Mt:={N:=28,keep:=kp 0 [[0,1,2],[0,2,7,8],[0,2,7,8,15],[6],[2,7,19],[6],[],[6]],bk:=[(0,[2,7])],ref:=false}
def Mq:=ak f129
theorem aiM:UT 129 GY Mq f129:=u_ func129 (by kernel_rfl)
theorem t129 (x x1 x2 w R):den prog GY Mq (aj 0 [pointer x,I x1,int .u64 x2]) w (Rt f129 R)=
(Call prog 236 [pointer x,I x1] w fun e w'=>∃p n,e=Z (tuple #[pointer p,I n])/\Fo (n !=0) (R (Z (I n)) w') (Cj 232 [pointer x,int .u64 x2] w' fun b w'=>Fo (!b) (R (Z (I 2)) w') (∃a,p=some a/\Wr w' (a.add 1) [int .u64 x2] fun w'=>R (Z (I 0)) w'))):=by kernel_rfl
def HM:Mt:={N:=11,keep:=kp 0 [[0],[0,4],[2],[2]],ref:=false}
def Ng:=ak f181
theorem ajx:UT 181 HM Ng f181:=u_ func181 (by kernel_rfl)
theorem t181 (x w R):den prog HM Ng (aj 0 [pointer x]) w (Rt f181 R)=
(Fo x.isNone (R (Z (N3)) w) (∃a,x=some a/\Lp w (add (a.add 0) 0) fun p=>Cq 272 [pointer p] w fun p n c w'=>R (Z (slice p n c)) w')):=by kernel_rfl
def Iu:Mt:={N:=16,keep:=kp 0 [[0,1],[4]],ref:=false}
def N0:=ak f232
theorem akc:UT 232 Iu N0 f232:=u_ func232 (by kernel_rfl)
theorem t232 (x x1 w R):den prog Iu N0 (aj 0 [pointer x,int .u64 x1]) w (Rt f232 R)=
(Fo (x1 !=0) (∃a,x=some a/\Li w (a.add 1) fun n=>Cu 11 [I n] w fun n w'=>Cj 277 [int .u64 x1,int .u64 n] w' fun b w'=>R (Z (.bool b)) w') (R (Z (.bool false)) w)):=by kernel_rfl
def Iv:Mt:={N:=40,keep:=kp 0 [[0,1,2,3],[0,2,3,9,10],[0,2,3,9,10,17],[8],[2,3,9,21],[8],[],[8]],bk:=[(0,[2,3,9])],ref:=false}
def N1:=ak f234
theorem ake:UT 234 Iv N1 f234:=u_ func234 (by kernel_rfl)
theorem t234 (x x1 x2 x3 w R):den prog Iv N1 (aj 0 [pointer x,I x1,I x2,.bool x3]) w (Rt f234 R)=
(Call prog 236 [pointer x,I x1] w fun e w'=>∃p n,e=Z (tuple #[pointer p,I n])/\Fo (n !=0) (R (Z (I n)) w') (Fz (decide (x2<0)) (∃a,x=some a/\Li w' (a.add 1) fun n=>Fo (decide (x2>=n)) (R (Z (I 3)) w') (∃a,p=some a/\Wr w' (a.add 2) [I x2] fun w'=>∃a,p=some a/\Wr w' (a.add 3) [.bool x3] fun w'=>R (Z (I 0)) w')) (R (Z (I 3)) w'))):=by kernel_rfl
def Iy:Mt:={N:=22,keep:=kp 0 [[0,1],[0,1,9],[4,5],[6,7],[6,20],[4,5],[4,5]],ref:=false}
def N4:=ak f236
theorem akg:UT 236 Iy N4 f236:=u_ func236 (by kernel_rfl)
theorem t236 (x x1 w R):den prog Iy N4 (aj 0 [pointer x,I x1]) w (Rt f236 R)=
(Fo x.isNone (R (Z (tuple #[pointer none,I 1])) w) (∃a,x=some a/\∃r,w.cell? (a.add 2)=some (map r)/\∃p b,Sem.run prog (Instr.lookup 190 (map r) (I x1) true) w=Result.ok (tuple #[pointer p,.bool b]) w/\Fo (!b) (R (Z (tuple #[pointer none,I 4])) w) (R (Z (tuple #[pointer p,I 0])) w))):=by kernel_rfl
def IA:Mt:={N:=28,keep:=kp 0 [[0,1],[0,1,6],[0,1,6,14],[4],[0,1],[4]],ref:=false}
def N6:=ak f238
theorem aki:UT 238 IA N6 f238:=u_ func238 (by kernel_rfl)
theorem t238 (x x1 w R):den prog IA N6 (aj 0 [pointer x,I x1]) w (Rt f238 R)=
(Call prog 236 [pointer x,I x1] w fun e w'=>∃p n,e=Z (tuple #[pointer p,I n])/\Fo (n !=0) (R (Z (I n)) w') (∃a,x=some a/\∃r,w'.cell? (a.add 2)=some (map r)/\∃b,Sem.run prog (Builtin.delete_ #[190,3] 0 #[map r,I x1]) w'=Result.ok (tuple #[]) b/\∃a,x=some a/\∃p,b.cell? (add (a.add 0) 0)=some (pointer p)/\Call prog 305 [pointer p,I x1] b fun e w'=>∃n,e=Z (I n)/\R (Z (I n)) w')):=by kernel_rfl
def IE:Mt:={N:=31,keep:=kp 0 [[0,1,2],[2,7,8],[2,7,8,15],[6],[2,7,19],[6],[],[6]],bk:=[(0,[2,7])],ref:=false}
def N9:=ak f241
theorem akl:UT 241 IE N9 f241:=u_ func241 (by kernel_rfl)
theorem t241 (x x1 x2 w R):den prog IE N9 (aj 0 [pointer x,I x1,I x2]) w (Rt f241 R)=
(Call prog 236 [pointer x,I x1] w fun e w'=>∃p n,e=Z (tuple #[pointer p,I n])/\Fo (n !=0) (R (Z (I n)) w') (∃a,p=some a/\Lj w' (a.add 4) fun b=>Fo b (R (Z (I 6)) w') (∃a,p=some a/\Wr w' (a.add 4) [.bool true] fun w'=>∃a,p=some a/\Wr w' (a.add 5) [I x2] fun w'=>R (Z (I 0)) w'))):=by kernel_rfl
def II:Mt:={N:=36,keep:=kp 0 [[0,1],[6,7],[6,7,15],[4,5],[6,19],[4,5],[6,8],[8],[4,5]],bk:=[(0,[6])],ref:=false}
def Oe:=ak f245
theorem akp:UT 245 II Oe f245:=u_ func245 (by kernel_rfl)
theorem t245 (x x1 w R):den prog II Oe (aj 0 [pointer x,I x1]) w (Rt f245 R)=
(Call prog 236 [pointer x,I x1] w fun e w'=>∃p n,e=Z (tuple #[pointer p,I n])/\Fo (n !=0) (R (Z (tuple #[I 0,I n])) w') (∃a,p=some a/\Lj w' (a.add 4) fun b=>Fo (!b) (R (Z (tuple #[I 0,I 6])) w') (∃a,p=some a/\Li w' (a.add 5) fun n=>∃a,p=some a/\Wr w' (a.add 4) [.bool false] fun w'=>∃a,p=some a/\Wr w' (a.add 5) [I 0] fun w'=>R (Z (tuple #[I n,I 0])) w'))):=by kernel_rfl
def Kv:Mt:={N:=14,keep:=kp 0 [[0],[0,9],[2,3],[2,3]],ref:=false}
def Qu:=ak f40
theorem u40:UT 40 Kv Qu f40:=u_ func40 (by kernel_rfl)
theorem t40 (x w R):den prog Kv Qu (aj 0 [I x]) w (Rt f40 R)=
(Fz (decide (x<1)) (Fo (decide (x>64)) (R (Z (tuple #[pointer none,I 2])) w) (Cu 11 [I x] w fun n w'=>ay w' [.bool false,.bool false,.bool false,int .u64 0,.bool false,.bool false,.bool false,int .u64 0,.bool false,.bool false,.bool false,int .u64 0,.bool false,.bool false,.bool false,int .u64 0,.bool false,.bool false,.bool false,int .u64 0,.bool false,.bool false,.bool false,int .u64 0,.bool false,.bool false,.bool false,int .u64 0,.bool false,.bool false,.bool false,int .u64 0,.bool false,.bool false,.bool false,int .u64 0,.bool false,.bool false,.bool false,int .u64 0,.bool false,.bool false,.bool false,int .u64 0,.bool false,.bool false,.bool false,int .u64 0,.bool false,.bool false,.bool false,int .u64 0,.bool false,.bool false,.bool false,int .u64 0,.bool false,.bool false,.bool false,int .u64 0,.bool false,.bool false,.bool false,int .u64 0,int .u64 n] 201 fun p w'=>R (Z (tuple #[pointer (some p),I 0])) w')) (R (Z (tuple #[pointer none,I 2])) w)):=by kernel_rfl
def Hb:Mt:={N:=33,keep:=kp 0 [[0,1,2],[0,2,7,8],[0,2,7,8,15],[6],[0,2,7,19],[6],[2,7,24],[6],[],[6]],bk:=[(0,[2,7])],ref:=false}
def My:=ak f136
theorem aiU:UT 136 Hb My f136:=u_ func136 (by kernel_rfl)
theorem t136 (x x1 x2 w R):den prog Hb My (aj 0 [pointer x,I x1,int .u64 x2]) w (Rt f136 R)=
(Call prog 246 [pointer x,I x1] w fun e w'=>∃p n,e=Z (tuple #[pointer p,I n])/\Fo (n !=0) (R (Z (I n)) w') (∃a,p=some a/\Lj w' (a.add 0) fun b=>Fo b (R (Z (I 6)) w') (Cj 247 [pointer x,int .u64 x2] w' fun b w'=>Fo (!b) (R (Z (I 2)) w') (∃a,p=some a/\Wr w' a [.bool true,.bool false,.bool false,int .u64 x2] fun w'=>R (Z (I 0)) w')))):=by kernel_rfl
def Hf:Mt:={N:=19,keep:=kp 0 [[0,1],[5,6],[5,6,14],[6],[4]],ref:=false}
def MB:=ak f139
theorem aiX:UT 139 Hf MB f139:=u_ func139 (by kernel_rfl)
theorem t139 (x x1 w R):den prog Hf MB (aj 0 [pointer x,I x1]) w (Rt f139 R)=
(Call prog 250 [pointer x,I x1] w fun e w'=>∃p n,e=Z (tuple #[pointer p,I n])/\Fo (n==0) (∃a,p=some a/\Wr w' a [.bool false,.bool false,.bool false,int .u64 0] fun w'=>R (Z (I n)) w') (R (Z (I n)) w')):=by kernel_rfl
def Hj:Mt:={N:=28,keep:=kp 0 [[0,1,2],[0,2,7,8],[0,2,7,8,15],[6],[2,7,19],[6],[],[6]],bk:=[(0,[2,7])],ref:=false}
def ME:=ak f142
theorem ai0:UT 142 Hj ME f142:=u_ func142 (by kernel_rfl)
theorem t142 (x x1 x2 w R):den prog Hj ME (aj 0 [pointer x,I x1,int .u64 x2]) w (Rt f142 R)=
(Call prog 250 [pointer x,I x1] w fun e w'=>∃p n,e=Z (tuple #[pointer p,I n])/\Fo (n !=0) (R (Z (I n)) w') (Cj 247 [pointer x,int .u64 x2] w' fun b w'=>Fo (!b) (R (Z (I 2)) w') (∃a,p=some a/\Wr w' (a.add 3) [int .u64 x2] fun w'=>R (Z (I 0)) w'))):=by kernel_rfl
def Hm:Mt:={N:=8,keep:=kp 0 [[0,1],[4]],ref:=false}
def MH:=ak f145
theorem ai3:UT 145 Hm MH f145:=u_ func145 (by kernel_rfl)
theorem t145 (x x1 w R):den prog Hm MH (aj 0 [pointer x,I x1]) w (Rt f145 R)=
(Ci 252 [pointer x,I x1,.bool true] w fun n w'=>R (Z (I n)) w'):=by kernel_rfl
def Hn:Mt:={N:=8,keep:=kp 0 [[0,1],[4]],ref:=false}
def MI:=ak f146
theorem ai4:UT 146 Hn MI f146:=u_ func146 (by kernel_rfl)
theorem t146 (x x1 w R):den prog Hn MI (aj 0 [pointer x,I x1]) w (Rt f146 R)=
(Ci 252 [pointer x,I x1,.bool false] w fun n w'=>R (Z (I n)) w'):=by kernel_rfl
def Ho:Mt:={N:=19,keep:=kp 0 [[0,1],[5,6],[5,6,14],[6],[4]],ref:=false}
def MJ:=ak f147
theorem ai5:UT 147 Ho MJ f147:=u_ func147 (by kernel_rfl)
theorem t147 (x x1 w R):den prog Ho MJ (aj 0 [pointer x,I x1]) w (Rt f147 R)=
(Call prog 250 [pointer x,I x1] w fun e w'=>∃p n,e=Z (tuple #[pointer p,I n])/\Fo (n==0) (∃a,p=some a/\Wr w' (a.add 2) [.bool true] fun w'=>R (Z (I n)) w') (R (Z (I n)) w')):=by kernel_rfl
def uL:Mt:={N:=24,keep:=kp 0 [[0],[0,7],[2],[0,3],[3,11,12],[3,11,12,13],[3,4,5,11,12],[3,4,11,12,17],[3,11,12],[3,11,12],[2]],bk:=[(0,[3]),(1,[3,11,12])],lk:=[(5,[3,11,12])],ref:=false}
def xV:=ak f174
def YV:=xV.sr.sr.sr.sr
def Nb:=xV.sr.sr.sr.sl.sr.sl.sl
def CV (x:Option Addr) (x1 x2:Nat) (x3:List Value) (x4:Int):Env:=[vS 3 x x1 x2,(11,SV.v (agg x3.toArray)),vI 12 x4]
def TM (R:RT):=a7 0 [3] (SQ uL YV (Rt f174 R) (Rt f174 R))
theorem aju:UT 174 uL xV f174:=u_ func174 (by kernel_rfl)
theorem t174 (x w R):den prog uL xV (aj 0 [pointer x]) w (Rt f174 R)=
(Fo x.isNone (R (Z (N3)) w) (∃a,x=some a/\∃cs,List.length cs=64/\(∀(j:Nat) (v:Value),cs[j]?=some v->w.cell? (add (a.add 0) j)=some v)/\Cut (WP prog 24 (Code.loop Nb) (CV none 0 0 cs 0) w (TM R)))):=by kernel_rfl
theorem agx (x x1 x2 x3 x4 w B R):den prog uL Nb (CV x x1 x2 x3 x4) w (bo B (TM R))=
(Fo (decide (x4<16)) ((0<=x4/\x4<(↑16:Int))/\∃b a d n,List.take 4 (List.drop (Int.toNat x4*4) (Array.toList (List.toArray x3)))=[.bool b,.bool a,.bool d,int .u64 n]/\ay w [.bool false,.bool false,.bool false,int .u64 0] 198 fun p w'=>Wr w' p [.bool b,.bool a,.bool d,int .u64 n] fun w'=>Lj w' (p.add 0) fun b=>Fo b (ay w' [I x4] 3 fun p w'=>∃e n c f,Sem.run prog (Builtin.append_ #[36,36] 36 #[slice x x1 x2,slice (some p) 1 1]) w'=Result.ok (slice e n c) f/\B [vS 3 e n c,(11,SV.v (agg (List.toArray x3))),(12,SV.v (I (wrap i64 (x4+1))))] f) (B [vS 3 x x1 x2,(11,SV.v (agg (List.toArray x3))),(12,SV.v (I (wrap i64 (x4+1))))] w')) (R (Z (slice x x1 x2)) w)):=by kernel_rfl
def HK:Mt:={N:=28,keep:=kp 0 [[0,1],[5,6],[4]],ref:=false}
def Nc:=ak f175
theorem ajv:UT 175 HK Nc f175:=u_ func175 (by kernel_rfl)
theorem t175 (x x1 w R):den prog HK Nc (aj 0 [pointer x,I x1]) w (Rt f175 R)=
(Call prog 250 [pointer x,I x1] w fun e w'=>∃p n,e=Z (tuple #[pointer p,I n])/\Fo (n==0) (∃a,p=some a/\Lj w' (a.add 2) fun b=>Fo b (∃a,p=some a/\Lj w' (a.add 1) fun b=>R (Z (.bool !b)) w') (R (Z (.bool false)) w')) (R (Z (.bool false)) w')):=by kernel_rfl
def Ij:Mt:={N:=32,keep:=kp 0 [[0,1],[5,6],[5,6,13],[4],[5,17],[4],[],[4]],bk:=[(0,[5])],ref:=false}
def NQ:=ak f221
theorem aj1:UT 221 Ij NQ f221:=u_ func221 (by kernel_rfl)
theorem t221 (x x1 w R):den prog Ij NQ (aj 0 [pointer x,I x1]) w (Rt f221 R)=
(Call prog 250 [pointer x,I x1] w fun e w'=>∃p n,e=Z (tuple #[pointer p,I n])/\Fo (n !=0) (R (Z (I n)) w') (∃a,p=some a/\Lj w' (a.add 2) fun b=>Fz (!b) (∃a,p=some a/\Lj w' (a.add 1) fun b=>Fo b (R (Z (I 12)) w') (∃a,p=some a/\Wr w' (a.add 2) [.bool false] fun w'=>R (Z (I 0)) w')) (R (Z (I 12)) w'))):=by kernel_rfl
def IJ:Mt:={N:=21,keep:=kp 0 [[0,1],[0,1,6],[4,5],[0,1,9],[4,5],[4,5]],bk:=[(0,[0,1])],ref:=false}
def Of:=ak f246
theorem akq:UT 246 IJ Of f246:=u_ func246 (by kernel_rfl)
theorem t246 (x x1 w R):den prog IJ Of (aj 0 [pointer x,I x1]) w (Rt f246 R)=
(Fo x.isNone (R (Z (tuple #[pointer none,I 1])) w) (Fz (decide (x1<0)) (Fo (decide (x1>=16)) (R (Z (tuple #[pointer none,I 3])) w) (∃a,x=some a/\(0<=x1/\x1<(↑16:Int))/\R (Z (tuple #[pointer (some (add (a.add 0) (Int.toNat x1*4))),I 0])) w)) (R (Z (tuple #[pointer none,I 3])) w))):=by kernel_rfl
def IK:Mt:={N:=15,keep:=kp 0 [[0,1],[4]],ref:=false}
def Og:=ak f247
theorem akr:UT 247 IK Og f247:=u_ func247 (by kernel_rfl)
theorem t247 (x x1 w R):den prog IK Og (aj 0 [pointer x,int .u64 x1]) w (Rt f247 R)=
(Fo (x1 !=0) (∃a,x=some a/\Lu w (a.add 64) fun n=>Cj 277 [int .u64 x1,int .u64 n] w fun b w'=>R (Z (.bool b)) w') (R (Z (.bool false)) w)):=by kernel_rfl
def IL:Mt:={N:=21,keep:=kp 0 [[0,1,4],[4,6,7],[4,6,7,15],[4,5],[4,5]],ref:=false}
def Oh:=ak f248
theorem aks:UT 248 IL Oh f248:=u_ func248 (by kernel_rfl)
theorem t248 (x x1 w R):den prog IL Oh (aj 0 [pointer x,I x1]) w (Rt f248 R)=
(ay w [.bool false,.bool false,.bool false,int .u64 0] 198 fun p w'=>Call prog 246 [pointer x,I x1] w' fun e w'=>∃f n,e=Z (tuple #[pointer f,I n])/\Fo (n !=0) (Wr w' p [.bool false,.bool false,.bool false,int .u64 0] fun w'=>Lj w' (p.add 0) fun b=>Lj w' (p.add 1) fun c=>Lj w' (p.add 2) fun d=>Lu w' (p.add 3) fun g=>R (Z (tuple #[agg #[.bool b,.bool c,.bool d,int .u64 g],I n])) w') (∃a,f=some a/\Lj w' (a.add 0) fun b=>Lj w' (a.add 1) fun c=>Lj w' (a.add 2) fun d=>Lu w' (a.add 3) fun n=>Wr w' p [.bool b,.bool c,.bool d,int .u64 n] fun w'=>Lj w' (p.add 0) fun b=>Lj w' (p.add 1) fun h=>Lj w' (p.add 2) fun i=>Lu w' (p.add 3) fun n=>R (Z (tuple #[agg #[.bool b,.bool h,.bool i,int .u64 n],I 0])) w')):=by kernel_rfl
def IP:Mt:={N:=25,keep:=kp 0 [[0,1],[6,7],[6,7,22],[4,5],[4,5]],ref:=false}
def Oj:=ak f250
theorem aku:UT 250 IP Oj f250:=u_ func250 (by kernel_rfl)
theorem t250 (x x1 w R):den prog IP Oj (aj 0 [pointer x,I x1]) w (Rt f250 R)=
(Call prog 246 [pointer x,I x1] w fun e w'=>∃p n,e=Z (tuple #[pointer p,I n])/\Fo (n==0) (∃a,p=some a/\Lj w' (a.add 0) fun b=>Fo (!b) (R (Z (tuple #[pointer none,I 4])) w') (R (Z (tuple #[pointer p,I n])) w')) (R (Z (tuple #[pointer p,I n])) w')):=by kernel_rfl
def IT:Mt:={N:=30,keep:=kp 0 [[0,1,2],[2,7,8],[2,7,8,15],[6],[2,7,19],[6],[],[6]],bk:=[(0,[2,7])],ref:=false}
def Om:=ak f252
theorem akw:UT 252 IT Om f252:=u_ func252 (by kernel_rfl)
theorem t252 (x x1 x2 w R):den prog IT Om (aj 0 [pointer x,I x1,.bool x2]) w (Rt f252 R)=
(Call prog 250 [pointer x,I x1] w fun e w'=>∃p n,e=Z (tuple #[pointer p,I n])/\Fo (n !=0) (R (Z (I n)) w') (∃a,p=some a/\Lj w' (a.add 1) fun b=>Fo (b==x2) (R (Z (I 6)) w') (∃a,p=some a/\Wr w' (a.add 1) [.bool x2] fun w'=>R (Z (I 0)) w'))):=by kernel_rfl
def Kx:Mt:={N:=13,keep:=kp 0 [[0],[0,9],[2,3],[2,3]],ref:=false}
def Qw:=ak f42
theorem u42:UT 42 Kx Qw f42:=u_ func42 (by kernel_rfl)
theorem t42 (x w R):den prog Kx Qw (aj 0 [I x]) w (Rt f42 R)=
(Fz (decide (x<1)) (Fo (decide (x>64)) (R (Z (tuple #[pointer none,I 2])) w) (ay w [I 0,I 0,I 0,I 0,I 0,I 0,I 0,I 0,I 0,I 0,I 0,I 0,I 0,I 0,I 0,I 0,I x] 204 fun p w'=>R (Z (tuple #[pointer (some p),I 0])) w')) (R (Z (tuple #[pointer none,I 2])) w)):=by kernel_rfl
def Hi:Mt:={N:=24,keep:=kp 0 [[0,1],[0,1,5],[0,1,5,10],[4],[0,1,18],[4],[],[4]],ref:=false}
def MD:=ak f141
theorem aiZ:UT 141 Hi MD f141:=u_ func141 (by kernel_rfl)
theorem t141 (x x1 w R):den prog Hi MD (aj 0 [pointer x,I x1]) w (Rt f141 R)=
(Ci 251 [pointer x,I x1] w fun n w'=>Fo (n !=0) (R (Z (I n)) w') (∃a,x=some a/\(0<=x1/\x1<(↑16:Int))/\Li w' (add (a.add 0) (Int.toNat x1*1)) fun n=>Fo (n==0) (R (Z (I 4)) w') (∃a,x=some a/\(0<=x1/\x1<(↑16:Int))/\Wr w' (add (a.add 0) (Int.toNat x1*1)) [I 0] fun w'=>R (Z (I 0)) w'))):=by kernel_rfl
def HO:Mt:={N:=26,keep:=kp 0 [[0,1],[0,1,18],[4,5],[4,5]],ref:=false}
def Nj:=ak f186
theorem ajA:UT 186 HO Nj f186:=u_ func186 (by kernel_rfl)
theorem t186 (x x1 w R):den prog HO Nj (aj 0 [pointer x,I x1]) w (Rt f186 R)=
(Call prog 251 [pointer x,I x1] w fun e w'=>∃n,e=Z (I n)/\Fz (n !=0) (∃a,x=some a/\(0<=x1/\x1<(↑16:Int))/\∃n,w'.cell? (add (a.add 0) (Int.toNat x1*1))=some (I n)/\Fo (n==0) (R (Z (tuple #[I 0,.bool false])) w') (∃a,x=some a/\(0<=x1/\x1<(↑16:Int))/\∃n,w'.cell? (add (a.add 0) (Int.toNat x1*1))=some (I n)/\R (Z (tuple #[I (wrap i64 (n-1)),.bool true])) w')) (R (Z (tuple #[I 0,.bool false])) w')):=by kernel_rfl
def IM:Mt:={N:=31,keep:=kp 0 [[0,1,2],[0,1,2,7],[0,1,2,7,12],[6],[0,1,2,23],[6],[],[6]],ref:=false}
def Oi:=ak f249
theorem akt:UT 249 IM Oi f249:=u_ func249 (by kernel_rfl)
theorem t249 (x x1 x2 w R):den prog IM Oi (aj 0 [pointer x,I x1,I x2]) w (Rt f249 R)=
(Ci 251 [pointer x,I x1] w fun n w'=>Fo (n !=0) (R (Z (I n)) w') (Fz (decide (x2<0)) (∃a,x=some a/\Li w' (a.add 16) fun n=>Fo (decide (x2>=n)) (R (Z (I 3)) w') (∃a,x=some a/\(0<=x1/\x1<(↑16:Int))/\Wr w' (add (a.add 0) (Int.toNat x1*1)) [I (wrap i64 (x2+1))] fun w'=>R (Z (I 0)) w')) (R (Z (I 3)) w'))):=by kernel_rfl
def IQ:Mt:={N:=15,keep:=kp 0 [[0,1],[1,5],[4],[8],[4],[4]],bk:=[(0,[])],ref:=false}
def Ol:=ak f251
theorem akv:UT 251 IQ Ol f251:=u_ func251 (by kernel_rfl)
theorem t251 (x x1 w R):den prog IQ Ol (aj 0 [pointer x,I x1]) w (Rt f251 R)=
(Fo x.isNone (R (Z (I 1)) w) (Fz (decide (x1<0)) (Fo (decide (x1>=16)) (R (Z (I 3)) w) (R (Z (I 0)) w)) (R (Z (I 3)) w))):=by kernel_rfl
def uT:Mt:={N:=32,keep:=kp 0 [[0,1],[0,1,10],[4],[0,1,5],[0,1,5,11],[0,1,5,11,12],[0,1,5,6,11],[0,1,5,6,7,8,11],[0,1,5,6,11,25],[0,1,5,11],[0,1,5,11],[4]],bk:=[(0,[5]),(1,[0,1,5,11])],lk:=[(5,[0,1,5,11])],ref:=false}
def yq:=ak f291
def Y5:=yq.sr.sr.sr.sr
def OK:=yq.sr.sr.sr.sl.sr.sl.sl
def C9 (x:Option Addr) (x1:Int) (x2:Option Addr) (x3 x4:Nat) (x5:Int):Env:=[vP 0 x,vI 1 x1,vS 5 x2 x3 x4,vI 11 x5]
def T8 (R:RT):=a7 0 [5] (SQ uT Y5 (Rt f291 R) (Rt f291 R))
theorem akR:UT 291 uT yq f291:=u_ func291 (by kernel_rfl)
theorem t291 (x x1 w R):den prog uT yq (aj 0 [pointer x,I x1]) w (Rt f291 R)=
(Fo x.isNone (R (Z (N3)) w) (Cut (WP prog 32 (Code.loop OK) (C9 x x1 none 0 0 0) w (T8 R)))):=by kernel_rfl
theorem agT (x x1 x2 x3 x4 x5 w B R):den prog uT OK (C9 x x1 x2 x3 x4 x5) w (bo B (T8 R))=
(Fo (decide (x5<16)) (Call prog 186 [pointer x,I x5] w fun e w'=>∃n b,e=Z (tuple #[I n,.bool b])/\Fo b (Fo (n==x1) (ay w' [I x5] 3 fun p w'=>∃a n c d,Sem.run prog (Builtin.append_ #[36,36] 36 #[slice x2 x3 x4,slice (some p) 1 1]) w'=Result.ok (slice a n c) d/\B [vP 0 x,vI 1 x1,vS 5 a n c,(11,SV.v (I (wrap i64 (x5+1))))] d) (B [vP 0 x,vI 1 x1,vS 5 x2 x3 x4,(11,SV.v (I (wrap i64 (x5+1))))] w')) (B [vP 0 x,vI 1 x1,vS 5 x2 x3 x4,(11,SV.v (I (wrap i64 (x5+1))))] w')) (R (Z (slice x2 x3 x4)) w)):=by kernel_rfl
def rZ:Mt:={N:=36,keep:=kp 0 [[0,1,2],[0,1,2,14],[6,7,8],[1,2,9],[1,2,9,10],[1,2,9,10,20],[2,9,10],[2,9,10,24],[6,7,8],[10,11,12],[6,7,8]],cB:=[(7,[2,9,10])],ref:=false}
def B9:=ak f233
def yk:=B9.sr.sr.sr.sr.sr
def zo (x x1:Int) (x2:Bool):Env:=[vI 2 x,(9,SV.v (int .u64 x1)),(10,SV.v (.bool x2))]
def zY (R:RT):=Rt f233 R
theorem akd:UT 233 rZ B9 f233:=u_ func233 (by kernel_rfl)
theorem t233 (x x1 x2 w R):den prog rZ B9 (aj 0 [int .u64 x,int .u64 x1,I x2]) w (Rt f233 R)=
(Fo (x1==0) (R (Z (tuple #[I 0,.bool false,I 12])) w) (Cu 318 [int .u64 x,int .u64 x1] w fun n w'=>Fo (n==0) (aA prog rZ yk (zo x2 x1 (n==0)) w' (zY R)) (aA prog rZ yk (zo x2 n (n==0)) w' (zY R)))):=by kernel_rfl
theorem agN (x x1 x2 w R):den prog rZ yk (zo x x1 x2) w (zY R)=
(Cj 23 [int .u64 x1,I x] w fun b w'=>Fo b (R (Z (tuple #[I x,.bool x2,I 0])) w') (Ct 319 [int .u64 x1,I x] w' fun n a w'=>R (Z (tuple #[I n,.bool x2,I a])) w')):=by kernel_rfl
def IB:Mt:={N:=31,keep:=kp 0 [[0,3],[0,3,5],[0,3,5,11],[4],[3,5,17],[4],[4]],bk:=[(0,[3,5])],ref:=false}
def N7:=ak f239
theorem akj {a b c d e w R}(h:den prog IB N7 (aj 0 [a,agg #[b,c,d,e]]) w (Rt f239 R)):Calls prog 239 #[a,agg #[b,c,d,e]] w R:=u_ func239 (by kernel_rfl) h
theorem t239 (x x1 x2 x3 x4 w R):den prog IB N7 (aj 0 [int .u64 x,agg #[I x1,(int .u64 x2),I x3,(.bool x4)]]) w (Rt f239 R)=
(ay w [I x1,int .u64 x2,I x3,.bool x4] 333 fun p w'=>∃n,w'.cell? (p.add 1)=some (int .u64 n)/\∃d,w'.cell? (p.add 2)=some (I d)/\Call prog 23 [int .u64 n,I d] w' fun e w'=>∃b,e=Z (.bool b)/\∃n,w'.cell? (p.add 2)=some (I n)/\Call prog 23 [int .u64 x,I n] w' fun e w'=>∃c,e=Z (.bool c)/\Fo (!c) (R (Z (.bool true)) w') (Fo (!b) (∃n,w'.cell? (p.add 1)=some (int .u64 n)/\Call prog 318 [int .u64 n,int .u64 x] w' fun e w'=>∃n,e=Z (int .u64 n)/\Fo (n !=0) (R (Z (.bool true)) w') (∃a,w'.cell? (p.add 3)=some (.bool a)/\R (Z (.bool (a==b))) w')) (∃a,w'.cell? (p.add 3)=some (.bool a)/\R (Z (.bool (a==b))) w'))):=by kernel_rfl
end
end Go.Dav
namespace Go.Dav
open Go.Proofs
open Value IntKind Ending World Addr Tryz
set_option maxRecDepth 100000
noncomputable section
def u6:Mt:={N:=49,keep:=kp 0 [[0],[0,14],[2,3],[0,4,5],[0,4,5,20],[2,3],[0,6],[6,27,28],[6,27,28,29],[6,7,8,27,28],[6,7,8,27,28,35],[2,3],[6,27,28],[6,27,28],[2,3]],bk:=[(0,[6]),(1,[6,27,28])],lk:=[(8,[6,27,28])],ref:=false}
def yI:=ak f44
def Zg:=yI.sr.sr.sr.sr.sr.sr
def Qy:=yI.sr.sr.sr.sr.sr.sl.sr.sl.sl
def Dp (x:Option Addr) (x1 x2:Int):Env:=[vP 6 x,vI 27 x1,vI 28 x2]
def Ur (R:RT):=a7 0 [6] (SQ u6 Zg (Rt f44 R) (Rt f44 R))
theorem u44:UT 44 u6 yI f44:=u_ func44 (by kernel_rfl)
theorem t44 (x w R):den prog u6 yI (aj 0 [I x]) w (Rt f44 R)=
(Fz (decide (x<1)) (Fo (decide (x>64)) (R (Z (tuple #[pointer none,I 2])) w) (Call prog 107 [I 32] w fun e w'=>∃p n,e=Z (tuple #[pointer p,I n])/\Fo (n !=0) (R (Z (tuple #[pointer none,I n])) w') (ob w' fun r w'=>ay w' [pointer p,N3,map (some r)] 207 fun p w'=>Cut (WP prog 49 (Code.loop Qy) (Dp (some p) (wrap i64 (x+1)) 0) w' (Ur R))))) (R (Z (tuple #[pointer none,I 2])) w)):=by kernel_rfl
theorem ahh (x x1 x2 w B R):den prog u6 Qy (Dp x x1 x2) w (bo B (Ur R))=
(Fo (decide (x2<x1)) (Call prog 110 [I 32] w fun e w'=>∃p n,e=Z (tuple #[pointer p,I n])/\Fo (n !=0) (R (Z (tuple #[pointer none,I n])) w') (∃a,x=some a/\Lq w' (a.add 1) fun b n c=>ay w' [pointer p] 208 fun p w'=>∃d f g h,Sem.run prog (Builtin.append_ #[205,205] 205 #[slice b n c,slice (some p) 1 1]) w'=Result.ok (slice d f g) h/\∃a,x=some a/\Wr h (a.add 1) [slice d f g] fun w'=>B [vP 6 x,vI 27 x1,(28,SV.v (I (wrap i64 (x2+1))))] w')) (R (Z (tuple #[pointer x,I 0])) w)):=by kernel_rfl
def KY:Mt:={N:=38,keep:=kp 0 [[0,1],[0,1,6],[0,1,6,13],[4,5],[0,1,7,8],[0,1,7,8,24],[4,5],[0,1,7],[4,5]],ref:=false}
def QW:=ak f68
theorem u68:UT 68 KY QW f68:=u_ func68 (by kernel_rfl)
theorem t68 (x x1 w R):den prog KY QW (aj 0 [pointer x,I x1]) w (Rt f68 R)=
(Ci 148 [pointer x,I x1,I (-1:Int)] w fun n w'=>Fo (n !=0) (R (Z (tuple #[I 0,I n])) w') (∃a,x=some a/\Lp w' (a.add 0) fun p=>Ct 149 [pointer p] w' fun n b w'=>Fo (b !=0) (R (Z (tuple #[I 0,I b])) w') (∃a,x=some a/\∃r,w'.cell? (a.add 2)=some (map r)/\∃c,Sem.run prog (Instr.mapUpdate 78 (map r) (I n) (I x1)) w'=Result.ok () c/\Call prog 150 [pointer x,I x1] c fun e w'=>∃p,e=Z (pointer p)/\Ci 151 [pointer p,I n] w' fun d w'=>R (Z (tuple #[I n,I d])) w'))):=by kernel_rfl
def K9:Mt:={N:=13,keep:=kp 0 [[0,1],[0,1,8],[4],[4]],ref:=false}
def Ra:=ak f93
theorem u93:UT 93 K9 Ra f93:=u_ func93 (by kernel_rfl)
theorem t93 (x x1 w R):den prog K9 Ra (aj 0 [pointer x,I x1]) w (Rt f93 R)=
(Ci 148 [pointer x,I x1,I (-1:Int)] w fun n w'=>Fo (n !=0) (R (Z (N3)) w') (Cp 150 [pointer x,I x1] w' fun p w'=>Cq 187 [pointer p] w' fun p n c w'=>R (Z (slice p n c)) w')):=by kernel_rfl
def Hp:Mt:={N:=24,keep:=kp 0 [[0,1,2],[0,1,2,7],[6],[10],[6],[6]],bk:=[(0,[])],ref:=false}
def MK:=ak f148
theorem ai6:UT 148 Hp MK f148:=u_ func148 (by kernel_rfl)
theorem t148 (x x1 x2 w R):den prog Hp MK (aj 0 [pointer x,I x1,I x2]) w (Rt f148 R)=
(Fo x.isNone (R (Z (I 1)) w) (Fz (decide (x1<x2)) (∃a,x=some a/\Lq w (a.add 1) fun p n c=>Fo (decide (x1>=wrap i64 ((↑n:Int)-1))) (R (Z (I 3)) w) (R (Z (I 0)) w)) (R (Z (I 3)) w))):=by kernel_rfl
def Hq:Mt:={N:=13,keep:=kp 0 [[0,1],[4]],ref:=false}
def MM:=ak f150
theorem ai8:UT 150 Hq MM f150:=u_ func150 (by kernel_rfl)
theorem t150 (x x1 w R):den prog Hq MM (aj 0 [pointer x,I x1]) w (Rt f150 R)=
(∃a,x=some a/\Lq w (a.add 1) fun p n c=>(0<=wrap i64 (x1-(-1:Int))/\wrap i64 (x1-(-1:Int))<(↑n:Int))/\∃a,p=some a/\∃p,w.cell? (add a (Int.toNat (wrap i64 (x1-(-1:Int)))*1))=some (pointer p)/\R (Z (pointer p)) w):=by kernel_rfl
def HG:Mt:={N:=9,keep:=kp 0 [[0,1],[4]],ref:=false}
def M5:=ak f170
theorem ajq:UT 170 HG M5 f170:=u_ func170 (by kernel_rfl)
theorem t170 (x x1 w R):den prog HG M5 (aj 0 [pointer x,I x1]) w (Rt f170 R)=
(Cq 93 [pointer x,I x1] w fun p n c w'=>R (Z (I (↑n:Int))) w'):=by kernel_rfl
def uQ:Mt:={N:=38,keep:=kp 0 [[0,1],[0,1,6],[0,1,6,15],[4,5],[0,18,19,20],[0,18,19,20,21],[0,8,18,19,20],[0,9,10,18,19,20],[0,9,18,19,20,32],[4,5],[0,18,19,20],[4,5]],bk:=[(0,[]),(1,[0,18,19,20])],lk:=[(5,[0,18,19,20])],ref:=false}
def yh:=ak f223
def Y1:=yh.sr.sr.sr
def NR:=yh.sr.sr.sl.sr.sl.sl
def C3 (x x1:Option Addr) (x2 x3:Nat) (x4 x5:Int):Env:=[vP 0 x,vS 18 x1 x2 x3,vI 19 x4,vI 20 x5]
def TY (R:RT):=a7 0 [] (SQ uQ Y1 (Rt f223 R) (Rt f223 R))
theorem aj3:UT 223 uQ yh f223:=u_ func223 (by kernel_rfl)
theorem t223 (x x1 w R):den prog uQ yh (aj 0 [pointer x,I x1]) w (Rt f223 R)=
(Ci 148 [pointer x,I x1,I 0] w fun n w'=>Fo (n !=0) (R (Z (tuple #[I 0,I n])) w') (ay w' [I x1,I (-1:Int)] 3 fun p w'=>Cut (WP prog 38 (Code.loop NR) (C3 x (some p) 2 2 (↑2:Int) 0) w' (TY R)))):=by kernel_rfl
theorem agK (x x1 x2 x3 x4 x5 w B R):den prog uQ NR (C3 x x1 x2 x3 x4 x5) w (bo B (TY R))=
(Fo (decide (x5<x4)) ((0<=x5/\x5<(↑x2:Int))/\∃a,x1=some a/\Li w (add a (Int.toNat x5*1)) fun n=>Cp 150 [pointer x,I n] w fun p w'=>Ct 307 [pointer p] w' fun n b w'=>Fo (b==0) (Ci 308 [pointer x,I n] w' fun c w'=>R (Z (tuple #[I n,I c])) w') (B [vP 0 x,vS 18 x1 x2 x3,vI 19 x4,(20,SV.v (I (wrap i64 (x5+1))))] w')) (R (Z (tuple #[I 0,I 12])) w)):=by kernel_rfl
def I2:Mt:={N:=14,keep:=kp 0 [[0,1],[6],[4]],ref:=false}
def OA:=ak f263
theorem akH:UT 263 I2 OA f263:=u_ func263 (by kernel_rfl)
theorem t263 (x x1 w R):den prog I2 OA (aj 0 [pointer x,I x1]) w (Rt f263 R)=
(Call prog 334 [pointer x,I x1] w fun e w'=>∃n b,e=Z (tuple #[I n,.bool b])/\R (Z (.bool b)) w'):=by kernel_rfl
def Jq:Mt:={N:=35,keep:=kp 0 [[0,1],[0,1,5,6],[0,1,5,6,13],[4],[0,1,5,16],[4],[0,1,5],[0,1,5],[4]],bk:=[(0,[0,1,5])],ref:=false}
def O3:=ak f308
theorem ak8:UT 308 Jq O3 f308:=u_ func308 (by kernel_rfl)
theorem t308 (x x1 w R):den prog Jq O3 (aj 0 [pointer x,I x1]) w (Rt f308 R)=
(Call prog 334 [pointer x,I x1] w fun e w'=>∃n b,e=Z (tuple #[I n,.bool b])/\Fo x.isNone (R (Z (I 1)) w') (Fo (!b) (R (Z (I 4)) w') (∃a,x=some a/\∃r,w'.cell? (a.add 2)=some (map r)/\∃c,Sem.run prog (Builtin.delete_ #[78,3] 0 #[map r,I x1]) w'=Result.ok (tuple #[]) c/\∃a,x=some a/\∃p,c.cell? (a.add 0)=some (pointer p)/\Call prog 305 [pointer p,I x1] c fun e w'=>∃d,e=Z (I d)/\Cp 150 [pointer x,I n] w' fun p w'=>Ci 364 [pointer p,I x1] w' fun n w'=>R (Z (I n)) w'))):=by kernel_rfl
def JQ:Mt:={N:=21,keep:=kp 0 [[0,1],[0,1,9],[4,5],[6,7],[4,5]],ref:=false}
def Pw:=ak f334
theorem alA:UT 334 JQ Pw f334:=u_ func334 (by kernel_rfl)
theorem t334 (x x1 w R):den prog JQ Pw (aj 0 [pointer x,I x1]) w (Rt f334 R)=
(Fo x.isNone (R (Z (tuple #[I 0,.bool false])) w) (∃a,x=some a/\∃r,w.cell? (a.add 2)=some (map r)/\∃n b,Sem.run prog (Instr.lookup 78 (map r) (I x1) true) w=Result.ok (tuple #[I n,.bool b]) w/\R (Z (tuple #[I n,.bool b])) w)):=by kernel_rfl
def J5:Mt:={N:=35,keep:=kp 0 [[0,1],[0,1,6],[0,1,6,13],[4,5],[0,7,8],[0,7,8,23],[4,5],[0,7],[4,5]],ref:=false}
def PR:=ak f358
theorem alO:UT 358 J5 PR f358:=u_ func358 (by kernel_rfl)
theorem t358 (x x1 w R):den prog J5 PR (aj 0 [pointer x,I x1]) w (Rt f358 R)=
(Ci 148 [pointer x,I x1,I 0] w fun n w'=>Fo (n !=0) (R (Z (tuple #[I 0,I n])) w') (Cp 150 [pointer x,I x1] w' fun p w'=>Ct 304 [pointer p] w' fun n b w'=>Fo (b !=0) (R (Z (tuple #[I 0,I b])) w') (∃a,x=some a/\∃r,w'.cell? (a.add 2)=some (map r)/\∃c,Sem.run prog (Instr.mapUpdate 78 (map r) (I n) (I (-1:Int))) w'=Result.ok () c/\Call prog 150 [pointer x,I (-1:Int)] c fun e w'=>∃p,e=Z (pointer p)/\Ci 151 [pointer p,I n] w' fun d w'=>R (Z (tuple #[I n,I d])) w'))):=by kernel_rfl
def u7:Mt:={N:=48,keep:=kp 0 [[0],[0,14],[2,3],[0,4,5],[0,4,5,20],[2,3],[0,6],[6,26,27],[6,26,27,28],[6,7,8,26,27],[6,7,8,26,27,34],[2,3],[6,26,27],[6,26,27],[2,3]],bk:=[(0,[6]),(1,[6,26,27])],lk:=[(8,[6,26,27])],ref:=false}
def yJ:=ak f46
def Zh:=yJ.sr.sr.sr.sr.sr.sr
def QA:=yJ.sr.sr.sr.sr.sr.sl.sr.sl.sl
def Dq (x:Option Addr) (x1 x2:Int):Env:=[vP 6 x,vI 26 x1,vI 27 x2]
def Us (R:RT):=a7 0 [6] (SQ u7 Zh (Rt f46 R) (Rt f46 R))
theorem u46:UT 46 u7 yJ f46:=u_ func46 (by kernel_rfl)
theorem t46 (x w R):den prog u7 yJ (aj 0 [I x]) w (Rt f46 R)=
(Fz (decide (x<1)) (Fo (decide (x>64)) (R (Z (tuple #[pointer none,I 2])) w) (Call prog 107 [I 32] w fun e w'=>∃p n,e=Z (tuple #[pointer p,I n])/\Fo (n !=0) (R (Z (tuple #[pointer none,I n])) w') (ay w' [pointer p,N3] 213 fun p w'=>Cut (WP prog 48 (Code.loop QA) (Dq (some p) x 0) w' (Us R))))) (R (Z (tuple #[pointer none,I 2])) w)):=by kernel_rfl
theorem ahi (x x1 x2 w B R):den prog u7 QA (Dq x x1 x2) w (bo B (Us R))=
(Fo (decide (x2<x1)) (Call prog 110 [I 32] w fun e w'=>∃p n,e=Z (tuple #[pointer p,I n])/\Fo (n !=0) (R (Z (tuple #[pointer none,I n])) w') (∃a,x=some a/\Lq w' (a.add 1) fun b n c=>ay w' [pointer p] 208 fun p w'=>∃d f g h,Sem.run prog (Builtin.append_ #[205,205] 205 #[slice b n c,slice (some p) 1 1]) w'=Result.ok (slice d f g) h/\∃a,x=some a/\Wr h (a.add 1) [slice d f g] fun w'=>B [vP 6 x,vI 26 x1,(27,SV.v (I (wrap i64 (x2+1))))] w')) (R (Z (tuple #[pointer x,I 0])) w)):=by kernel_rfl
def Lc:Mt:={N:=18,keep:=kp 0 [[0,1],[0,1,9],[4],[4]],ref:=false}
def Re:=ak f95
theorem u95:UT 95 Lc Re f95:=u_ func95 (by kernel_rfl)
theorem t95 (x x1 w R):den prog Lc Re (aj 0 [pointer x,I x1]) w (Rt f95 R)=
(ay w [I x1] 3 fun p w'=>Ci 188 [pointer x,slice (some p) 1 1] w' fun n w'=>Fo (n !=0) (R (Z (N3)) w') (∃a,x=some a/\Lq w' (a.add 1) fun p n c=>(0<=x1/\x1<(↑n:Int))/\∃a,p=some a/\Lp w' (add a (Int.toNat x1*1)) fun p=>Cq 187 [pointer p] w' fun p n c w'=>R (Z (slice p n c)) w')):=by kernel_rfl
def Hu:Mt:={N:=38,keep:=kp 0 [[0,1],[0,1,6],[0,1,6,14],[4,5],[0,1,7,8],[0,1,7,8,26],[4,5],[4,5]],ref:=false}
def MQ:=ak f154
theorem ajc:UT 154 Hu MQ f154:=u_ func154 (by kernel_rfl)
theorem t154 (x x1 w R):den prog Hu MQ (aj 0 [pointer x,I x1]) w (Rt f154 R)=
(ay w [I x1] 3 fun p w'=>Ci 188 [pointer x,slice (some p) 1 1] w' fun n w'=>Fo (n !=0) (R (Z (tuple #[I 0,I n])) w') (∃a,x=some a/\Lp w' (add (a.add 0) 0) fun p=>Ct 149 [pointer p] w' fun n b w'=>Fo (b !=0) (R (Z (tuple #[I 0,I b])) w') (∃a,x=some a/\Lq w' (a.add 1) fun p d c=>(0<=x1/\x1<(↑d:Int))/\∃a,p=some a/\Lp w' (add a (Int.toNat x1*1)) fun p=>Ci 151 [pointer p,I n] w' fun f w'=>R (Z (tuple #[I n,I f])) w'))):=by kernel_rfl
def uO:Mt:={N:=27,keep:=kp 0 [[0,1],[0,1,8],[4],[0,9,10,11],[0,9,10,11,12],[0,6,9,10,11],[0,9,10,11,25],[4],[0,9,10,11],[4]],bk:=[(0,[]),(1,[0,9,10,11])],lk:=[(4,[0,9,10,11])],ref:=false}
def xZ:=ak f188
def YZ:=xZ.sr.sr.sr
def Nl:=xZ.sr.sr.sl.sr.sl.sl
def CZ (x x1:Option Addr) (x2 x3:Nat) (x4 x5:Int):Env:=[vP 0 x,vS 9 x1 x2 x3,vI 10 x4,vI 11 x5]
def TS (R:RT):=a7 0 [] (SQ uO YZ (Rt f188 R) (Rt f188 R))
theorem ajC:UT 188 uO xZ f188:=u_ func188 (by kernel_rfl)
theorem t188 (x x1 x2 x3 w R):den prog uO xZ (aj 0 [pointer x,slice x1 x2 x3]) w (Rt f188 R)=
(Fo x.isNone (R (Z (I 1)) w) (Cut (WP prog 27 (Code.loop Nl) (CZ x x1 x2 x3 (↑x2:Int) 0) w (TS R)))):=by kernel_rfl
theorem agB (x x1 x2 x3 x4 x5 w B R):den prog uO Nl (CZ x x1 x2 x3 x4 x5) w (bo B (TS R))=
(Fo (decide (x5<x4)) ((0<=x5/\x5<(↑x2:Int))/\∃a,x1=some a/\Li w (add a (Int.toNat x5*1)) fun n=>Fz (decide (n<0)) (∃a,x=some a/\Lq w (a.add 1) fun p b c=>Fo (decide (n>=(↑b:Int))) (R (Z (I 3)) w) (B [vP 0 x,vS 9 x1 x2 x3,vI 10 x4,(11,SV.v (I (wrap i64 (x5+1))))] w)) (R (Z (I 3)) w)) (R (Z (I 0)) w)):=by kernel_rfl
def HZ:Mt:={N:=9,keep:=kp 0 [[0,1],[4]],ref:=false}
def Ny:=ak f204
theorem ajK:UT 204 HZ Ny f204:=u_ func204 (by kernel_rfl)
theorem t204 (x x1 w R):den prog HZ Ny (aj 0 [pointer x,I x1]) w (Rt f204 R)=
(Cq 95 [pointer x,I x1] w fun p n c w'=>R (Z (I (↑n:Int))) w'):=by kernel_rfl
def Ig:Mt:={N:=38,keep:=kp 0 [[0,1],[0,1,6],[0,1,6,14],[4,5],[0,7,8],[0,7,8,28],[4,5],[4,5]],ref:=false}
def NN:=ak f219
theorem ajZ:UT 219 Ig NN f219:=u_ func219 (by kernel_rfl)
theorem t219 (x x1 w R):den prog Ig NN (aj 0 [pointer x,I x1]) w (Rt f219 R)=
(ay w [I x1] 3 fun p w'=>Ci 188 [pointer x,slice (some p) 1 1] w' fun n w'=>Fo (n !=0) (R (Z (tuple #[I 0,I n])) w') (∃a,x=some a/\Lq w' (a.add 1) fun p n c=>(0<=x1/\x1<(↑n:Int))/\∃a,p=some a/\Lp w' (add a (Int.toNat x1*1)) fun p=>Ct 304 [pointer p] w' fun n b w'=>Fo (b !=0) (R (Z (tuple #[I 0,I b])) w') (∃a,x=some a/\Lp w' (add (a.add 0) 0) fun p=>Ci 305 [pointer p,I n] w' fun d w'=>R (Z (tuple #[I n,I d])) w'))):=by kernel_rfl
def J6:Mt:={N:=46,keep:=kp 0 [[0,1,2],[0,1,2,8],[0,1,2,8,17],[6,7],[0,1,2,21],[6,7],[0,2,9,10],[0,2,9,10,34],[6,7],[6,7]],ref:=false}
def PS:=ak f359
theorem alP:UT 359 J6 PS f359:=u_ func359 (by kernel_rfl)
theorem t359 (x x1 x2 w R):den prog J6 PS (aj 0 [pointer x,I x1,I x2]) w (Rt f359 R)=
(ay w [I x1,I x2] 3 fun p w'=>Ci 188 [pointer x,slice (some p) 2 2] w' fun n w'=>Fo (n !=0) (R (Z (tuple #[I 0,I n])) w') (Fo (x1==x2) (R (Z (tuple #[I 0,I 2])) w') (∃a,x=some a/\Lq w' (a.add 1) fun p n c=>(0<=x1/\x1<(↑n:Int))/\∃a,p=some a/\Lp w' (add a (Int.toNat x1*1)) fun p=>Ct 304 [pointer p] w' fun n b w'=>Fo (b !=0) (R (Z (tuple #[I 0,I b])) w') (∃a,x=some a/\Lq w' (a.add 1) fun p d c=>(0<=x2/\x2<(↑d:Int))/\∃a,p=some a/\Lp w' (add a (Int.toNat x2*1)) fun p=>Ci 151 [pointer p,I n] w' fun f w'=>R (Z (tuple #[I n,I f])) w')))):=by kernel_rfl
def KB:Mt:={N:=29,keep:=kp 0 [[0,1],[0,1,6,7],[0,1,6,22],[4,5],[4,5]],ref:=false}
def QC:=ak f48
theorem u48:UT 48 KB QC f48:=u_ func48 (by kernel_rfl)
theorem t48 (x x1 w R):den prog KB QC (aj 0 [I x,I x1]) w (Rt f48 R)=
(Call prog 111 [I x1] w fun e w'=>∃p n,e=Z (tuple #[pointer p,I n])/\Fz (n !=0) (Fz (decide (x<1)) (Fo (decide (x>64)) (R (Z (tuple #[pointer none,I 2])) w') (∃a n c b,Sem.run prog (Instr.makeSlice 217 (I x) (I x)) w'=Result.ok (slice a n c) b/\ay b [pointer p,I x1,slice a n c] 219 fun p w'=>R (Z (tuple #[pointer (some p),I 0])) w')) (R (Z (tuple #[pointer none,I 2])) w')) (R (Z (tuple #[pointer none,I 2])) w')):=by kernel_rfl
def Hv:Mt:={N:=56,keep:=kp 0 [[0,1],[0,1,6],[0,1,6,13],[4,5],[0,1],[0,1,7],[0,1,7,28],[4,5],[0,1,7,8],[8],[4,5]],bu:=[(9,(.range 17))],ref:=false}
def MR:=ak f155
theorem ajd:UT 155 Hv MR f155:=u_ func155 (by kernel_rfl)
theorem t155 (x x1 w R):den prog Hv MR (aj 0 [pointer x,I x1]) w (Rt f155 R)=
(Ci 189 [pointer x,I x1] w fun n w'=>Fo (n !=0) (R (Z (tuple #[I 0,I n])) w') (Cn 256 [pointer x,I x1] w' fun w'=>∃a,x=some a/\Lq w' (a.add 2) fun p n c=>(0<=x1/\x1<(↑n:Int))/\∃a,p=some a/\Lq w' (add a (Int.toNat x1*1)) fun p n c=>Fo (decide (wrap i64 ((↑n:Int)-1)<0)) (R (Z (tuple #[I 0,I 5])) w') (∃a,x=some a/\Lq w' (a.add 2) fun p d c=>(0<=x1/\x1<(↑d:Int))/\∃a,p=some a/\Lq w' (add a (Int.toNat x1*1)) fun p f c=>(0<=wrap i64 ((↑n:Int)-1)/\wrap i64 ((↑n:Int)-1)<(↑f:Int))/\∃a,p=some a/\∃g,w'.cell? (add a (Int.toNat (wrap i64 ((↑n:Int)-1))*1))=some (I g)/\Sm w' fun b=>∃a,x=some a/\∃p h c,b.cell? (a.add 2)=some (slice p h c)/\∃a,x=some a/\∃i j c,b.cell? (a.add 2)=some (slice i j c)/\(0<=x1/\x1<(↑j:Int))/\∃a,i=some a/\∃k l c,b.cell? (add a (Int.toNat x1*1))=some (slice k l c)/\(0<=wrap i64 ((↑n:Int)-1)/\wrap i64 ((↑n:Int)-1)<=(↑c:Int))/\(0<=wrap i64 ((↑n:Int)-1)/\wrap i64 ((↑n:Int)-1)<=(↑(Int.toNat (wrap i64 ((↑n:Int)-1))):Int))/\(0<=x1/\x1<(↑h:Int))/\∃a,p=some a/\Wr b (add a (Int.toNat x1*1)) [slice (dO k (Int.toNat (wrap i64 ((↑n:Int)-1))) 0 1) (Int.toNat (wrap i64 ((↑n:Int)-1))-0) (Int.toNat (wrap i64 ((↑n:Int)-1))-0)] fun w'=>R (Z (tuple #[I g,I 0])) w'))):=by kernel_rfl
def rW:Mt:={N:=46,keep:=kp 0 [[0,1,2],[0,1,2,7],[0,1,2,7,12],[6],[0,1,2,17],[6],[0,1,2,26],[0,1,2],[],[6]],bu:=[(8,(.range 17))],cB:=[(8,[0,1,2])],ref:=false}
def B4:=ak f156
def xR:=B4.sr.sr.sr.sr
def zk (x:Option Addr) (x1 x2:Int):Env:=[vP 0 x,vI 1 x1,vI 2 x2]
def zT (R:RT):=Rt f156 R
theorem aje:UT 156 rW B4 f156:=u_ func156 (by kernel_rfl)
theorem t156 (x x1 x2 w R):den prog rW B4 (aj 0 [pointer x,I x1,I x2]) w (Rt f156 R)=
(Ci 189 [pointer x,I x1] w fun n w'=>Fo (n !=0) (R (Z (I n)) w') (Cj 257 [pointer x,I x2] w' fun b w'=>Fo (!b) (R (Z (I 4)) w') (∃a,x=some a/\Lq w' (a.add 2) fun p n c=>(0<=x1/\x1<(↑n:Int))/\∃a,p=some a/\Lq w' (add a (Int.toNat x1*1)) fun p n c=>Fo (decide ((↑n:Int)>=4)) (Cn 258 [pointer x,I x1,I 2] w' fun w'=>aA prog rW xR (zk x x1 x2) w' (zT R)) (aA prog rW xR (zk x x1 x2) w' (zT R))))):=by kernel_rfl
theorem agu (x x1 x2 w R):den prog rW xR (zk x x1 x2) w (zT R)=
(Sm w fun w'=>∃a,x=some a/\Lq w' (a.add 2) fun p n c=>∃b,x=some b/\Lq w' (b.add 2) fun d e k=>(0<=x1/\x1<(↑e:Int))/\∃f,d=some f/\Lq w' (add f (Int.toNat x1*1)) fun g h i=>ay w' [I x2] 3 fun q w'=>w'.cell? (add f (Int.toNat x1*1))=some (slice g h i)/\w'.cell? (b.add 2)=some (slice d e k)/\w'.cell? (a.add 2)=some (slice p n c)/\∃l m o j,Sem.run prog (Builtin.append_ #[36,36] 36 #[slice g h i,slice (some q) 1 1]) w'=Result.ok (slice l m o) j/\j.cell? (a.add 2)=some (slice p n c)/\(0<=x1/\x1<(↑n:Int))/\∃a,p=some a/\Wr j (add a (Int.toNat x1*1)) [slice l m o] fun w'=>R (Z (I 0)) w'):=by kernel_rfl
def HQ:Mt:={N:=20,keep:=kp 0 [[0,1],[0,1,5],[4],[8],[4],[4]],bk:=[(0,[])],ref:=false}
def Nn:=ak f189
theorem ajD:UT 189 HQ Nn f189:=u_ func189 (by kernel_rfl)
theorem t189 (x x1 w R):den prog HQ Nn (aj 0 [pointer x,I x1]) w (Rt f189 R)=
(Fo x.isNone (R (Z (I 1)) w) (Fz (decide (x1<0)) (∃a,x=some a/\Lq w (a.add 2) fun p n c=>Fo (decide (x1>=(↑n:Int))) (R (Z (I 3)) w) (R (Z (I 0)) w)) (R (Z (I 3)) w))):=by kernel_rfl
def xw:Mt:={N:=44,keep:=kp 0 [[0,1,14],[0,1,15],[0,1,15,16],[0,1,4,5,15],[0,1,4,15,26],[0,1,15],[0,1,15]],bu:=[(5,(.range 17))],bk:=[(0,[]),(1,[0,1,15])],lk:=[(2,[0,1,15])],ref:=false}
def Ca:=ak f256
def Ot:=Ca.sr.sr.sl.sl
def C5 (x:Option Addr) (x1 x2:Int):Env:=[vP 0 x,vI 1 x1,vI 15 x2]
def T3 (R:RT):=a7 0 [] (Rt f256 R)
theorem akA:UT 256 xw Ca f256:=u_ func256 (by kernel_rfl)
theorem t256 (x x1 w R):den prog xw Ca (aj 0 [pointer x,I x1]) w (Rt f256 R)=
(∃a,x=some a/\Lq w (a.add 2) fun p n c=>(0<=x1/\x1<(↑n:Int))/\∃a,p=some a/\Lq w (add a (Int.toNat x1*1)) fun p n c=>Fo (decide ((↑n:Int)>0)) (R (Z (tuple #[])) w) (Cut (WP prog 44 (Code.loop Ot) (C5 x x1 0) w (T3 R)))):=by kernel_rfl
theorem agO (x x1 x2 w B R):den prog xw Ot (C5 x x1 x2) w (bo B (T3 R))=
(Fo (decide (x2<2)) (∃a,x=some a/\Lp w (a.add 0) fun p=>Ct 326 [pointer p] w fun n f w'=>Fo (f==0) (Sm w' fun b=>∃a,x=some a/\∃p d c,b.cell? (a.add 2)=some (slice p d c)/\∃g,x=some g/\∃h i q,b.cell? (g.add 2)=some (slice h i q)/\(0<=x1/\x1<(↑i:Int))/\∃j,h=some j/\∃k l m,b.cell? (add j (Int.toNat x1*1))=some (slice k l m)/\ay b [I n] 3 fun t w'=>w'.cell? (add j (Int.toNat x1*1))=some (slice k l m)/\w'.cell? (g.add 2)=some (slice h i q)/\w'.cell? (a.add 2)=some (slice p d c)/\∃r n s o,Sem.run prog (Builtin.append_ #[36,36] 36 #[slice k l m,slice (some t) 1 1]) w'=Result.ok (slice r n s) o/\o.cell? (a.add 2)=some (slice p d c)/\(0<=x1/\x1<(↑d:Int))/\∃a,p=some a/\Wr o (add a (Int.toNat x1*1)) [slice r n s] fun w'=>B [vP 0 x,vI 1 x1,(15,SV.v (I (wrap i64 (x2+1))))] w') (B [vP 0 x,vI 1 x1,(15,SV.v (I (wrap i64 (x2+1))))] w')) (R (Z (tuple #[])) w)):=by kernel_rfl
def IX:Mt:={N:=24,keep:=kp 0 [[0,3],[4]],bu:=[(1,(.range 20))],ref:=false}
def Ou:=ak f257
theorem akB:UT 257 IX Ou f257:=u_ func257 (by kernel_rfl)
theorem t257 (x x1 w R):den prog IX Ou (aj 0 [pointer x,I x1]) w (Rt f257 R)=
(ay w [I x1] 3 fun p w'=>Sm w' fun d=>Fo (!x.isNone) (∃a,x=some a/\∃f,d.cell? (a.add 0)=some (pointer f)/\∃n,d.cell? p=some (I n)/\Call prog 327 [pointer f,I n] d fun e w'=>∃b,e=Z (.bool b)/\Fo b (∃a,x=some a/\Lq w' (a.add 2) fun g n c=>Cj 328 [slice g n c,func (Fn.func 329) #[] #[pointer (some p)]] w' fun b w'=>R (Z (.bool !b)) w') (R (Z (.bool false)) w')) (R (Z (.bool false)) d)):=by kernel_rfl
def pJ:Mt:={N:=45,keep:=kp 0 [[0,1,2,16,17,18],[0,1,2,16,17,18,19],[0,1,2,7,16,17,18],[0,1,2,16,17,18],[0,1,2,16,17,18],[]],bu:=[(5,(.range 17))],bk:=[(0,[0,1,2]),(1,[0,1,2,16,17,18])],cB:=[(5,[0,1,2])],lk:=[(1,[0,1,2,16,17,18])],ref:=false}
def ym:=ak f258
def yn:=ym.sr
def Ov:=ym.sl.sr.sl.sl
def C6 (x:Option Addr) (x1 x2:Int):Env:=[vP 0 x,vI 1 x1,vI 2 x2]
def C7 (x:Option Addr) (x1 x2:Int) (x3:Option Addr) (x4 x5:Nat) (x6 x7:Int):Env:=[vP 0 x,vI 1 x1,vI 2 x2,vS 16 x3 x4 x5,vI 17 x6,vI 18 x7]
def D4 (R:RT):=Rt f258 R
def T5 (R:RT):=a7 0 [0,1,2] (SQ pJ yn (Rt f258 R) (Rt f258 R))
theorem akC:UT 258 pJ ym f258:=u_ func258 (by kernel_rfl)
theorem t258 (x x1 x2 w R):den prog pJ ym (aj 0 [pointer x,I x1,I x2]) w (Rt f258 R)=
(∃a,x=some a/\Lq w (a.add 2) fun p n c=>(0<=x1/\x1<(↑n:Int))/\∃a,p=some a/\Lq w (add a (Int.toNat x1*1)) fun p n c=>(0<=x2/\x2<=(↑c:Int))/\Cut (WP prog 45 (Code.loop Ov) (C7 x x1 x2 (dO p c 0 1) (Int.toNat x2-0) (c-0) (↑(Int.toNat x2-0):Int) 0) w (T5 R))):=by kernel_rfl
theorem agP (x x1 x2 w R):den prog pJ yn (C6 x x1 x2) w (D4 R)=
(Sm w fun w'=>∃a,x=some a/\Lq w' (a.add 2) fun p n c=>∃f,x=some f/\Lq w' (f.add 2) fun g h o=>(0<=x1/\x1<(↑h:Int))/\∃i,g=some i/\Lq w' (add i (Int.toNat x1*1)) fun j b d=>(0<=x2/\x2<=(↑b:Int))/\Cq 190 [slice (dO j d (Int.toNat x2) 1) (b-Int.toNat x2) (d-Int.toNat x2)] w' fun k l m w'=>w'.cell? (a.add 2)=some (slice p n c)/\(0<=x1/\x1<(↑n:Int))/\∃a,p=some a/\Wr w' (add a (Int.toNat x1*1)) [slice k l m] fun w'=>R (Z (tuple #[])) w'):=by kernel_rfl
theorem agQ (x x1 x2 x3 x4 x5 x6 x7 w B R):den prog pJ Ov (C7 x x1 x2 x3 x4 x5 x6 x7) w (bo B (T5 R))=
(Fo (decide (x7<x6)) ((0<=x7/\x7<(↑x4:Int))/\∃a,x3=some a/\Li w (add a (Int.toNat x7*1)) fun n=>∃a,x=some a/\Lp w (a.add 0) fun p=>Ci 330 [pointer p,I n] w fun n w'=>B [vP 0 x,vI 1 x1,vI 2 x2,vS 16 x3 x4 x5,vI 17 x6,(18,SV.v (I (wrap i64 (x7+1))))] w') (aA prog pJ yn (C6 x x1 x2) w (D4 R))):=by kernel_rfl
def J2:Mt:={N:=27,keep:=kp 0 [[0,1],[0,1,6],[0,1,6,12],[4,5],[0,1,7],[7],[4,5]],ref:=false}
def PL:=ak f355
theorem alL:UT 355 J2 PL f355:=u_ func355 (by kernel_rfl)
theorem t355 (x x1 w R):den prog J2 PL (aj 0 [pointer x,I x1]) w (Rt f355 R)=
(Ci 189 [pointer x,I x1] w fun n w'=>Fo (n !=0) (R (Z (tuple #[I 0,I n])) w') (∃a,x=some a/\Lq w' (a.add 2) fun p n c=>(0<=x1/\x1<(↑n:Int))/\∃a,p=some a/\Lq w' (add a (Int.toNat x1*1)) fun p n c=>Cn 258 [pointer x,I x1,I (↑n:Int)] w' fun w'=>R (Z (tuple #[I (↑n:Int),I 0])) w')):=by kernel_rfl
def JJ:Mt:={N:=9,keep:=kp 0 [[0,1],[4]],ref:=false}
def Pp:=ak f328
theorem alu:UT 328 JJ Pp f328:=u_ func328 (by kernel_rfl)
theorem t328 (x x1 x2 x3 w R):den prog JJ Pp (aj 0 [slice x x1 x2,(func (Fn.func 329) #[] #[pointer (some x3)])]) w (Rt f328 R)=
(Ci 381 [slice x x1 x2,func (Fn.func 329) #[] #[pointer (some x3)]] w fun n w'=>R (Z (.bool (decide (n>=0)))) w'):=by kernel_rfl
def JK:Mt:={N:=7,keep:=kp 0 [[0,1],[3]],ref:=false}
def Pq:=ak f329
theorem alv:UT 329 JK Pq f329:=u_ func329 (by kernel_rfl)
theorem t329 (x x1 x2 x3 w R):den prog JK Pq (aj 0 [slice x x1 x2,pointer (some x3)]) w (Rt f329 R)=
(Li w x3 fun n=>Cj 325 [slice x x1 x2,I n] w fun b w'=>R (Z (.bool b)) w'):=by kernel_rfl
def u0:Mt:={N:=19,keep:=kp 0 [[0,1],[0,1,7,8],[0,1,7,8,9],[0,1,5,7,8],[0,1,5,7,8,16],[4],[0,1,7,8],[4]],bk:=[(0,[]),(1,[0,1,7,8])],lk:=[(2,[0,1,7,8])],ref:=false}
def yG:=ak f381
def Zb:=yG.sr.sr
def Qf:=yG.sr.sl.sr.sl.sl
def Si (x:Option Addr) (x1 x2:Nat) (x3:Addr) (x4 x5:Int):Env:=[vS 0 x x1 x2,(1,SV.v (func (Fn.func 329) #[] #[(pointer (some x3))])),vI 7 x4,vI 8 x5]
def Um (R:RT):=a7 0 [] (SQ u0 Zb (Rt f381 R) (Rt f381 R))
theorem al6:UT 381 u0 yG f381:=u_ func381 (by kernel_rfl)
theorem t381 (x x1 x2 x3 w R):den prog u0 yG (aj 0 [slice x x1 x2,(func (Fn.func 329) #[] #[pointer (some x3)])]) w (Rt f381 R)=
(Cut (WP prog 19 (Code.loop Qf) [vS 0 x x1 x2,(1,SV.v (func (Fn.func 329) #[] #[pointer (some x3)])),(7,SV.v (I (↑x1:Int))),vI 8 0] w (Um R))):=by kernel_rfl
theorem ahc (x x1 x2 x3 x4 x5 w B R):den prog u0 Qf (Si x x1 x2 x3 x4 x5) w (bo B (Um R))=
(Fo (decide (x5<x4)) ((0<=x5/\x5<(↑x1:Int))/\∃a,x=some a/\Lq w (add a (Int.toNat x5*1)) fun p n c=>Cj 329 [slice p n c,pointer (some x3)] w fun b w'=>Fo b (R (Z (I x5)) w') (B [vS 0 x x1 x2,(1,SV.v (func (Fn.func 329) #[] #[pointer (some x3)])),vI 7 x4,(8,SV.v (I (wrap i64 (x5+1))))] w')) (R (Z (I (-1:Int))) w)):=by kernel_rfl
def GI:Mt:={N:=13,keep:=kp 0 [[0],[0,9],[2,3],[2,3]],ref:=false}
def L9:=ak f111
theorem ait:UT 111 GI L9 f111:=u_ func111 (by kernel_rfl)
theorem t111 (x w R):den prog GI L9 (aj 0 [I x]) w (Rt f111 R)=
(Fz (decide (x<1)) (Fo (decide (x>12)) (R (Z (tuple #[pointer none,I 2])) w) (ay w [int IntKind.u8 0,int IntKind.u8 0,int IntKind.u8 0,int IntKind.u8 0,int IntKind.u8 0,int IntKind.u8 0,int IntKind.u8 0,int IntKind.u8 0,int IntKind.u8 0,int IntKind.u8 0,int IntKind.u8 0,int IntKind.u8 0,I x] 298 fun p w'=>R (Z (tuple #[pointer (some p),I 0])) w')) (R (Z (tuple #[pointer none,I 2])) w)):=by kernel_rfl
def r5:Mt:={N:=41,keep:=kp 0 [[0],[0,7],[2,3],[0,4],[0,4,11],[0,4],[0,4,15],[2,3],[0,4,5],[4,5],[2,3]],bu:=[(9,(.range 13))],cB:=[(6,[0,4])],ref:=false}
def Cc:=ak f326
def yv:=Cc.sr.sr.sr.sr
def zp (x:Option Addr) (x1:Int):Env:=[vP 0 x,vI 4 x1]
def zZ (R:RT):=Rt f326 R
theorem alr:UT 326 r5 Cc f326:=u_ func326 (by kernel_rfl)
theorem t326 (x w R):den prog r5 Cc (aj 0 [pointer x]) w (Rt f326 R)=
(Fo x.isNone (R (Z (tuple #[I 0,I 1])) w) (Ci 376 [pointer x,func (Fn.func 377) #[] #[]] w fun n w'=>Fo (decide (n<0)) (Ci 376 [pointer x,func (Fn.func 378) #[] #[]] w' fun n w'=>aA prog r5 yv (zp x n) w' (zZ R)) (aA prog r5 yv (zp x n) w' (zZ R)))):=by kernel_rfl
theorem agZ (x x1 w R):den prog r5 yv (zp x x1) w (zZ R)=
(Fo (decide (x1<0)) (R (Z (tuple #[I 0,I 5])) w) (∃a,x=some a/\(0<=x1/\x1<(↑12:Int))/\∃n,w.cell? (add (a.add 0) (Int.toNat x1*1))=some (int IntKind.u8 n)/\Ci 379 [int IntKind.u8 (aw BinOp.xor IntKind.u8 (match false with|true=>(-1:Int)|false=>IntKind.max IntKind.u8) n)] w fun n w'=>Sm w' fun b=>∃a,x=some a/\(0<=x1/\x1<(↑12:Int))/\∃c,b.cell? (add (a.add 0) (Int.toNat x1*1))=some (int IntKind.u8 c)/\0<=n/\∃a,x=some a/\(0<=x1/\x1<(↑12:Int))/\Wr b (add (a.add 0) (Int.toNat x1*1)) [int IntKind.u8 (aw BinOp.or IntKind.u8 c (dq IntKind.u8 1 n))] fun w'=>R (Z (tuple #[I (wrap i64 (wrap i64 (wrap i64 (x1*8)+n)+1)),I 0])) w')):=by kernel_rfl
def JI:Mt:={N:=26,keep:=kp 0 [[0,1],[0,5,6],[4]],ref:=false}
def Po:=ak f327
theorem als:UT 327 JI Po f327:=u_ func327 (by kernel_rfl)
theorem t327 (x x1 w R):den prog JI Po (aj 0 [pointer x,I x1]) w (Rt f327 R)=
(Call prog 380 [pointer x,I x1] w fun e w'=>∃n b,e=Z (tuple #[I n,int IntKind.u8 b])/\Fo (b !=0) (∃a,x=some a/\(0<=n/\n<(↑12:Int))/\∃c,w'.cell? (add (a.add 0) (Int.toNat n*1))=some (int IntKind.u8 c)/\R (Z (.bool (aw BinOp.and IntKind.u8 c b !=0))) w') (R (Z (.bool false)) w')):=by kernel_rfl
def JM:Mt:={N:=32,keep:=kp 0 [[0,1],[0,1,7],[4],[0,1,10],[4],[0,5,6],[],[4]],bu:=[(6,(.range 12))],bk:=[(0,[0,1])],ref:=false}
def Ps:=ak f330
theorem alw:UT 330 JM Ps f330:=u_ func330 (by kernel_rfl)
theorem t330 (x x1 w R):den prog JM Ps (aj 0 [pointer x,I x1]) w (Rt f330 R)=
(Fo x.isNone (R (Z (I 1)) w) (Cj 327 [pointer x,I x1] w fun b w'=>Fo (!b) (R (Z (I 4)) w') (Call prog 380 [pointer x,I x1] w' fun e w'=>∃n c,e=Z (tuple #[I n,int IntKind.u8 c])/\Sm w' fun d=>∃a,x=some a/\(0<=n/\n<(↑12:Int))/\∃f,d.cell? (add (a.add 0) (Int.toNat n*1))=some (int IntKind.u8 f)/\∃a,x=some a/\(0<=n/\n<(↑12:Int))/\Wr d (add (a.add 0) (Int.toNat n*1)) [int IntKind.u8 (aw BinOp.andNot IntKind.u8 f c)] fun w'=>R (Z (I 0)) w'))):=by kernel_rfl
def mc:Mt:={N:=23,keep:=kp 0 [[0,1],[0,1,9,10],[0,1,9,10,11],[0,1,5,9,10],[0,1,5,9,10,20],[4],[0,1,9,10],[4]],bk:=[(0,[]),(1,[0,1,9,10])],lk:=[(2,[0,1,9,10])],ref:=false}
def ot:=ak f376
def Ch:=ot.sr.sr
def vy:=ot.sr.sl.sr.sl.sl
def sU (x:Option Addr) (x1 x2:Int):Env:=[vP 0 x,(1,SV.v (func (Fn.func 377) #[] #[])),vI 9 x1,vI 10 x2]
def wo (R:RT):=a7 0 [] (SQ mc Ch (Rt f376 R) (Rt f376 R))
theorem Gf:UT 376 mc ot f376:=u_ func376 (by kernel_rfl)
theorem t376 (x w R):den prog mc ot (aj 0 [pointer x,func (Fn.func 377) #[] #[]]) w (Rt f376 R)=
(∃a,x=some a/\Li w (a.add 12) fun n=>Cut (WP prog 23 (Code.loop vy) [vP 0 x,(1,SV.v (func (Fn.func 377) #[] #[])),vI 9 n,vI 10 0] w (wo R))):=by kernel_rfl
theorem FL (x x1 x2 w B R):den prog mc vy (sU x x1 x2) w (bo B (wo R))=
(Fo (decide (x2<x1)) (∃a,x=some a/\(0<=x2/\x2<(↑12:Int))/\∃n,w.cell? (add (a.add 0) (Int.toNat x2*1))=some (int IntKind.u8 n)/\Cj 377 [int IntKind.u8 n] w fun b w'=>Fo b (R (Z (I x2)) w') (B [vP 0 x,(1,SV.v (func (Fn.func 377) #[] #[])),vI 9 x1,(10,SV.v (I (wrap i64 (x2+1))))] w')) (R (Z (I (-1:Int))) w)):=by kernel_rfl
def Kg:Mt:={N:=9,keep:=kp 0 [[0],[2]],ref:=false}
def Qb:=ak f377
theorem al3:UT 377 Kg Qb f377:=u_ func377 (by kernel_rfl)
theorem t377 (x w R):den prog Kg Qb (aj 0 [int IntKind.u8 x]) w (Rt f377 R)=
(((x !=0)->R (Z (.bool (x !=255))) w)/\((x !=0)=false->R (Z (.bool false)) w)):=by kernel_rfl
def Kh:Mt:={N:=5,keep:=kp 0 [[0],[2]],ref:=false}
def Qc:=ak f378
theorem al4:UT 378 Kh Qc f378:=u_ func378 (by kernel_rfl)
theorem t378 (x w R):den prog Kh Qc (aj 0 [int IntKind.u8 x]) w (Rt f378 R)=
(R (Z (.bool (x==0))) w):=by kernel_rfl
def Ki:Mt:={N:=6,keep:=kp 0 [[0],[2]],ref:=false}
def Qd:=ak f379
theorem al5:UT 379 Ki Qd f379:=u_ func379 (by kernel_rfl)
theorem t379 (x w R):den prog Ki Qd (aj 0 [int IntKind.u8 x]) w (Rt f379 R)=
((0<=x/\x<(↑256:Int))/\∃c,(∃u,(ByteArray.mk #[8,0,1,0,2,0,1,0,3,0,1,0,2,0,1,0,4,0,1,0,2,0,1,0,3,0,1,0,2,0,1,0,5,0,1,0,2,0,1,0,3,0,1,0,2,0,1,0,4,0,1,0,2,0,1,0,3,0,1,0,2,0,1,0,6,0,1,0,2,0,1,0,3,0,1,0,2,0,1,0,4,0,1,0,2,0,1,0,3,0,1,0,2,0,1,0,5,0,1,0,2,0,1,0,3,0,1,0,2,0,1,0,4,0,1,0,2,0,1,0,3,0,1,0,2,0,1,0,7,0,1,0,2,0,1,0,3,0,1,0,2,0,1,0,4,0,1,0,2,0,1,0,3,0,1,0,2,0,1,0,5,0,1,0,2,0,1,0,3,0,1,0,2,0,1,0,4,0,1,0,2,0,1,0,3,0,1,0,2,0,1,0,6,0,1,0,2,0,1,0,3,0,1,0,2,0,1,0,4,0,1,0,2,0,1,0,3,0,1,0,2,0,1,0,5,0,1,0,2,0,1,0,3,0,1,0,2,0,1,0,4,0,1,0,2,0,1,0,3,0,1,0,2,0,1,0])[Int.toNat x]?=some u/\(↑(UInt8.toNat u):Int)=c)/\R (Z (I (wrap i64 c))) w):=by kernel_rfl
def Kj:Mt:={N:=28,keep:=kp 0 [[0,1],[1,20],[4,5],[4,5]],bu:=[(3,(.range 9))],ref:=false}
def Qe:=ak f380
theorem Xy:UT 380 Kj Qe f380:=u_ func380 (by kernel_rfl)
theorem t380 (x x1 w R):den prog Kj Qe (aj 0 [pointer x,I x1]) w (Rt f380 R)=
(Fz x.isNone (Fz (decide (x1<1)) (∃a,x=some a/\Li w (a.add 12) fun n=>Fo (decide (x1>wrap i64 (n*8))) (R (Z (tuple #[I 0,int IntKind.u8 0])) w) (Sm w fun w'=>(8:Int)≠0/\(8:Int)≠0/\0<=Int.tmod (wrap i64 (x1-1)) 8/\R (Z (tuple #[I (wrap i64 (Int.tdiv (wrap i64 (x1-1)) 8)),int IntKind.u8 (dq IntKind.u8 1 (Int.tmod (wrap i64 (x1-1)) 8))])) w')) (R (Z (tuple #[I 0,int IntKind.u8 0])) w)) (R (Z (tuple #[I 0,int IntKind.u8 0])) w)):=by kernel_rfl
def GP:Mt:={N:=23,keep:=kp 0 [[0,1],[0,1,5],[4],[0,1,8],[4],[],[4]],bk:=[(0,[0,1])],ref:=false}
def Mg:=ak f118
theorem aiA:UT 118 GP Mg f118:=u_ func118 (by kernel_rfl)
theorem t118 (x x1 w R):den prog GP Mg (aj 0 [pointer x,I x1]) w (Rt f118 R)=
(Fo x.isNone (R (Z (I 1)) w) (Cj 202 [pointer x,I x1] w fun b w'=>Fo (!b) (R (Z (I 6)) w') (∃a,x=some a/\Lu w' (a.add 1) fun n=>ay w' [I x1] 3 fun p w'=>Cu 179 [int .u64 n,slice (some p) 1 1] w' fun n w'=>∃a,x=some a/\Wr w' (a.add 1) [int .u64 n] fun w'=>R (Z (I 0)) w'))):=by kernel_rfl
def HX:Mt:={N:=12,keep:=kp 0 [[0,1],[1,5],[4]],ref:=false}
def Nw:=ak f202
theorem ajI:UT 202 HX Nw f202:=u_ func202 (by kernel_rfl)
theorem t202 (x x1 w R):den prog HX Nw (aj 0 [pointer x,I x1]) w (Rt f202 R)=
(Cu 292 [pointer x] w fun n w'=>Cj 23 [int .u64 n,I x1] w' fun b w'=>R (Z (.bool b)) w'):=by kernel_rfl
def HY:Mt:={N:=15,keep:=kp 0 [[0,1],[4]],ref:=false}
def Nx:=ak f203
theorem ajJ:UT 203 HY Nx f203:=u_ func203 (by kernel_rfl)
theorem t203 (x x1 w R):den prog HY Nx (aj 0 [pointer x,I x1]) w (Rt f203 R)=
(Fo (!x.isNone) (∃a,x=some a/\Lu w (a.add 1) fun n=>Cj 23 [int .u64 n,I x1] w fun b w'=>R (Z (.bool b)) w') (R (Z (.bool false)) w)):=by kernel_rfl
def Ja:Mt:={N:=14,keep:=kp 0 [[0],[0,4],[2],[2]],bu:=[(3,(.range 10))],ref:=false}
def OL:=ak f292
theorem akS:UT 292 Ja OL f292:=u_ func292 (by kernel_rfl)
theorem t292 (x w R):den prog Ja OL (aj 0 [pointer x]) w (Rt f292 R)=
(Fo x.isNone (R (Z (int .u64 0)) w) (Sm w fun w'=>∃a,x=some a/\Lu w' (a.add 0) fun n=>∃a,x=some a/\Lu w' (a.add 1) fun b=>Cu 353 [int .u64 n,int .u64 b] w' fun n w'=>R (Z (int .u64 n)) w')):=by kernel_rfl
def Km:Mt:={N:=12,keep:=kp 0 [[0],[2]],ref:=false}
def Qj:=ak f388
theorem ama:UT 388 Km Qj f388:=u_ func388 (by kernel_rfl)
theorem t388 (x w R):den prog Km Qj (aj 0 [pointer x]) w (Rt f388 R)=
(Fo (!x.isNone) (∃a,x=some a/\Lu w (a.add 0) fun n=>R (Z (.bool (n !=0))) w) (R (Z (.bool false)) w)):=by kernel_rfl
def Kn:Mt:={N:=21,keep:=kp 0 [[0,1],[0,1,5],[4],[0,1,8],[4],[0,1,11],[4],[],[4]],bk:=[(0,[0,1])],ref:=false}
def Qk:=ak f389
theorem amb:UT 389 Kn Qk f389:=u_ func389 (by kernel_rfl)
theorem t389 (x x1 w R):den prog Kn Qk (aj 0 [pointer x,int .u64 x1]) w (Rt f389 R)=
(Fo x.isNone (R (Z (I 1)) w) (Cj 388 [pointer x] w fun b w'=>Fo b (R (Z (I 7)) w') (Fo (x1==0) (R (Z (I 2)) w') (∃a,x=some a/\Wr w' (a.add 0) [int .u64 x1] fun w'=>∃a,x=some a/\Wr w' (a.add 1) [int .u64 0] fun w'=>R (Z (I 0)) w')))):=by kernel_rfl
def Kp:Mt:={N:=10,keep:=kp 0 [[0],[2]],ref:=false}
def Qn:=ak f390
theorem amc:UT 390 Kp Qn f390:=u_ func390 (by kernel_rfl)
theorem t390 (x w R):den prog Kp Qn (aj 0 [pointer x]) w (Rt f390 R)=
(Cj 388 [pointer x] w fun b w'=>Fo b (Cu 292 [pointer x] w' fun n w'=>R (Z (.bool (n==0))) w') (R (Z (.bool false)) w')):=by kernel_rfl
def Kr:Mt:={N:=16,keep:=kp 0 [[0],[0,3],[2],[0,6],[2],[],[2]],bk:=[(0,[0])],ref:=false}
def Qo:=ak f391
theorem amd:UT 391 Kr Qo f391:=u_ func391 (by kernel_rfl)
theorem t391 (x w R):den prog Kr Qo (aj 0 [pointer x]) w (Rt f391 R)=
(Fo x.isNone (R (Z (I 1)) w) (Cj 388 [pointer x] w fun b w'=>Fo (!b) (R (Z (I 6)) w') (∃a,x=some a/\Wr w' (a.add 0) [int .u64 0] fun w'=>∃a,x=some a/\Wr w' (a.add 1) [int .u64 0] fun w'=>R (Z (I 0)) w'))):=by kernel_rfl
end
end Go.Dav
namespace Go.Dav
open Go.Proofs
open Value IntKind Ending World Addr Tryz
set_option maxRecDepth 100000
noncomputable section
def GS:Mt:={N:=24,keep:=kp 0 [[0,1],[0,1,13],[4,5],[4,5]]}
def Mj:=ak f122
theorem aiF:UT 122 GS Mj f122:=u_ func122 (by kernel_rfl)
theorem t122 (x x1 w R):den prog GS Mj (aj 0 [I x,I x1]) w (Rt f122 R)=
(Cj 225 [I x,I 1152921504606846976] w fun b w'=>Fz (!b) (Cj 225 [I x1,I 1073741824] w' fun b w'=>Fo (!b) (R (Z (tuple #[I 0,I 2])) w') (Ct 226 [I (wrap i64 (x+x1)),.bool (decide (x<=wrap i64 (1152921504606846976-x1)))] w' fun n a w'=>R (Z (tuple #[I n,I a])) w')) (R (Z (tuple #[I 0,I 2])) w')):=by kernel_rfl
def Il:Mt:={N:=12,keep:=kp 0 [[0,1],[4]]}
def NT:=ak f225
theorem aj5:UT 225 Il NT f225:=u_ func225 (by kernel_rfl)
theorem t225 (x x1 w R):den prog Il NT (aj 0 [I x,I x1]) w (Rt f225 R)=
(Fo (decide (x>=0)) (R (Z (.bool (decide (x<=x1)))) w) (R (Z (.bool false)) w)):=by kernel_rfl
def Im:Mt:={N:=9,keep:=kp 0 [[0,1],[0,7],[4,5],[4,5]]}
def NU:=ak f226
theorem aj6:UT 226 Im NU f226:=u_ func226 (by kernel_rfl)
theorem t226 (x x1 w R):den prog Im NU (aj 0 [I x,.bool x1]) w (Rt f226 R)=
(Fo (!x1) (R (Z (tuple #[I 0,I 16])) w) (R (Z (tuple #[I x,I 0])) w)):=by kernel_rfl
def JP:Mt:={N:=20,keep:=kp 0 [[0,1],[0,1,6],[4,5]]}
def Pv:=ak f333
theorem alz:UT 333 JP Pv f333:=u_ func333 (by kernel_rfl)
theorem t333 (x x1 w R):den prog JP Pv (aj 0 [I x,I x1]) w (Rt f333 R)=
(Ct 226 [I (wrap i64 (x+x1)),.bool (decide (wrap i64 (x+x1)<x)==decide (x1<0))] w fun n a w'=>R (Z (tuple #[I n,I a])) w'):=by kernel_rfl
def Kb:Mt:={N:=46,keep:=kp 0 [[0,1,2],[0,1,2,11],[6],[0,1,2,20],[6],[0,7,8],[0,9],[6]],bk:=[(0,[0,1,2])]}
def P3:=ak f368
theorem alW:UT 368 Kb P3 f368:=u_ func368 (by kernel_rfl)
theorem t368 (x x1 x2 w R):den prog Kb P3 (aj 0 [I x,I x1,I x2]) w (Rt f368 R)=
(Fz (decide (x>x1)) (Fo (decide (x2<1)) (R (Z (I x)) w) (Fo (decide (x2>=100)) (R (Z (I x1)) w) (Call prog 393 [int .u64 (wrap .u64 (wrap .u64 x1-wrap .u64 x)),int .u64 (wrap .u64 x2)] w fun e w'=>∃n a,e=Z (tuple #[int .u64 n,int .u64 a])/\Call prog 394 [int .u64 n,int .u64 a,int .u64 100] w' fun e w'=>∃n b,e=Z (tuple #[int .u64 n,int .u64 b])/\R (Z (I (wrap i64 (wrap .u64 (wrap .u64 x+n))))) w'))) (R (Z (I x)) w)):=by kernel_rfl
def Ku:Mt:={N:=36,keep:=kp 0 [[0,1],[0,1,9],[4],[0,1,16],[4],[1,5,6],[7],[4]],bk:=[(0,[0,1])]}
def Qt:=ak f395
theorem amh:UT 395 Ku Qt f395:=u_ func395 (by kernel_rfl)
theorem t395 (x x1 w R):den prog Ku Qt (aj 0 [I x,I x1]) w (Rt f395 R)=
(Fz (decide (x<1)) (Fo (decide (x1<1)) (R (Z (I 0)) w) (Fo (decide (x>=x1)) (R (Z (I 100)) w) (Call prog 393 [int .u64 (wrap .u64 x),int .u64 100] w fun e w'=>∃n a,e=Z (tuple #[int .u64 n,int .u64 a])/\Call prog 394 [int .u64 n,int .u64 a,int .u64 (wrap .u64 x1)] w' fun e w'=>∃n b,e=Z (tuple #[int .u64 n,int .u64 b])/\R (Z (I (wrap i64 n))) w'))) (R (Z (I 0)) w)):=by kernel_rfl
def KD:Mt:={N:=14,keep:=kp 0 [[0],[0,9],[2,3],[2,3]]}
def QF:=ak f50
theorem u50:UT 50 KD QF f50:=u_ func50 (by kernel_rfl)
theorem t50 (x w R):den prog KD QF (aj 0 [I x]) w (Rt f50 R)=
(Fz (decide (x<1)) (Fo (decide (x>64)) (R (Z (tuple #[pointer none,I 2])) w) (∃p n c w',Sem.run prog (Instr.makeSlice 53 (I x) (I x)) w=Result.ok (slice p n c) w'/\ay w' [slice p n c] 221 fun p w'=>R (Z (tuple #[pointer (some p),I 0])) w')) (R (Z (tuple #[pointer none,I 2])) w)):=by kernel_rfl
def qS:Mt:={N:=43,keep:=kp 0 [[0],[0,11],[2,3],[0,4],[0,4,5],[4,5,15,16,17],[4,5,15,16,17,18],[4,5,8,15,16,17],[4,5,6,8,15,16,17],[4,5,15,16,17],[4,5,15,16,17],[4,9],[9,41],[2,3],[2,3]],bk:=[(0,[4,5]),(1,[4,5,15,16,17])],cB:=[(11,[4,5])],lk:=[(6,[4,5,15,16,17])]}
def yQ:=ak f78
def Cr:=yQ.sr.sr.sr.sr.sr
def Q2:=yQ.sr.sr.sr.sr.sl.sr.sl.sl
def Sq (x x1:Int):Env:=[vI 4 x,(5,SV.v (int .u64 x1))]
def Dv (x x1:Int) (x2:Option Addr) (x3 x4:Nat) (x5 x6:Int):Env:=[vI 4 x,(5,SV.v (int .u64 x1)),vS 15 x2 x3 x4,vI 16 x5,vI 17 x6]
def Uz (R:RT):=Rt f78 R
def UA (R:RT):=a7 0 [4,5] (SQ qS Cr (Rt f78 R) (Rt f78 R))
theorem u78:UT 78 qS yQ f78:=u_ func78 (by kernel_rfl)
theorem t78 (x w R):den prog qS yQ (aj 0 [pointer x]) w (Rt f78 R)=
(Fo x.isNone (R (Z (tuple #[I 0,I 1])) w) (∃a,x=some a/\Lq w (a.add 0) fun p n c=>Cut (WP prog 43 (Code.loop Q2) (Dv 0 0 p n c (↑n:Int) 0) w (UA R)))):=by kernel_rfl
theorem ahu (x x1 w R):den prog qS Cr (Sq x x1) w (Uz R)=
((0:Int)<=63/\Fo (x==aC i64 (wrap i64 x1) 63) (R (Z (tuple #[I (wrap i64 x1),I 0])) w) (R (Z (tuple #[I 0,I 16])) w)):=by kernel_rfl
theorem ahv (x x1 x2 x3 x4 x5 x6 w B R):den prog qS Q2 (Dv x x1 x2 x3 x4 x5 x6) w (bo B (UA R))=
(Fo (decide (x6<x5)) ((0<=x6/\x6<(↑x3:Int))/\∃a,x2=some a/\Li w (add a (Int.toNat x6*1)) fun n=>∃b c w',Sem.run prog (callFunc 169 #[int .u64 x1,int .u64 (wrap .u64 n),int .u64 0]) w=Result.ok (Next.value (tuple #[int .u64 b,int .u64 c])) w'/\(0:Int)<=63/\B [(4,SV.v (I (wrap i64 (x+wrap i64 (aC i64 n 63+wrap i64 c))))),(5,SV.v (int .u64 b)),vS 15 x2 x3 x4,vI 16 x5,(17,SV.v (I (wrap i64 (x6+1))))] w') (aA prog qS Cr (Sq x x1) w (Uz R))):=by kernel_rfl
def IZ:Mt:={N:=38,keep:=kp 0 [[0,1,2],[0,1,2,7],[0,1,2,7,14],[6],[0,1,8,9],[0,1,8,9,29],[6],[],[6]]}
def Ox:=ak f260
theorem akE:UT 260 IZ Ox f260:=u_ func260 (by kernel_rfl)
theorem t260 (x x1 x2 w R):den prog IZ Ox (aj 0 [pointer x,I x1,I x2]) w (Rt f260 R)=
(Ci 332 [pointer x,I x1] w fun n w'=>Fo (n !=0) (R (Z (I n)) w') (∃a,x=some a/\Lq w' (a.add 0) fun p n c=>(0<=x1/\x1<(↑n:Int))/\∃a,p=some a/\Li w' (add a (Int.toNat x1*1)) fun n=>Ct 333 [I n,I x2] w' fun n b w'=>Fo (b !=0) (R (Z (I b)) w') (∃a,x=some a/\Lq w' (a.add 0) fun p d c=>(0<=x1/\x1<(↑d:Int))/\∃a,p=some a/\Wr w' (add a (Int.toNat x1*1)) [I n] fun w'=>R (Z (I 0)) w'))):=by kernel_rfl
def JN:Mt:={N:=20,keep:=kp 0 [[0,1],[0,1,6],[0,1,6,11],[4,5],[4,5]]}
def Pt:=ak f331
theorem alx:UT 331 JN Pt f331:=u_ func331 (by kernel_rfl)
theorem t331 (x x1 w R):den prog JN Pt (aj 0 [pointer x,I x1]) w (Rt f331 R)=
(Ci 332 [pointer x,I x1] w fun n w'=>Fo (n !=0) (R (Z (tuple #[I 0,I n])) w') (∃a,x=some a/\Lq w' (a.add 0) fun p n c=>(0<=x1/\x1<(↑n:Int))/\∃a,p=some a/\Li w' (add a (Int.toNat x1*1)) fun n=>R (Z (tuple #[I n,I 0])) w')):=by kernel_rfl
def JO:Mt:={N:=20,keep:=kp 0 [[0,1],[0,1,5],[4],[8],[4],[4]],bk:=[(0,[])]}
def Pu:=ak f332
theorem aly:UT 332 JO Pu f332:=u_ func332 (by kernel_rfl)
theorem t332 (x x1 w R):den prog JO Pu (aj 0 [pointer x,I x1]) w (Rt f332 R)=
(Fo x.isNone (R (Z (I 1)) w) (Fz (decide (x1<0)) (∃a,x=some a/\Lq w (a.add 0) fun p n c=>Fo (decide (x1>=(↑n:Int))) (R (Z (I 3)) w) (R (Z (I 0)) w)) (R (Z (I 3)) w))):=by kernel_rfl
def J7:Mt:={N:=44,keep:=kp 0 [[0,1,2],[0,1,2,7],[0,1,2,7,14],[6],[0,1,2,8],[0,1,2,8,20],[6],[0,1,2,24],[6],[0,1,9],[0,1,9,36],[9],[6]]}
def PV:=ak f361
theorem alR:UT 361 J7 PV f361:=u_ func361 (by kernel_rfl)
theorem t361 (x x1 x2 w R):den prog J7 PV (aj 0 [pointer x,I x1,I x2]) w (Rt f361 R)=
(Ci 332 [pointer x,I x1] w fun n w'=>Fo (n !=0) (R (Z (I n)) w') (Ci 332 [pointer x,I x2] w' fun n w'=>Fo (n !=0) (R (Z (I n)) w') (Fo (x1==x2) (R (Z (I 2)) w') (∃a,x=some a/\Lq w' (a.add 0) fun p n c=>(0<=x1/\x1<(↑n:Int))/\∃a,p=some a/\Li w' (add a (Int.toNat x1*1)) fun n=>Ci 260 [pointer x,I x2,I n] w' fun n w'=>Fo (n==0) (∃a,x=some a/\Lq w' (a.add 0) fun p b c=>(0<=x1/\x1<(↑b:Int))/\∃a,p=some a/\Wr w' (add a (Int.toNat x1*1)) [I 0] fun w'=>R (Z (I n)) w') (R (Z (I n)) w'))))):=by kernel_rfl
def KG:Mt:={N:=17,keep:=kp 0 [[0],[4,5],[4,5,12],[2,3],[2,3]]}
def QH:=ak f52
theorem u52:UT 52 KG QH f52:=u_ func52 (by kernel_rfl)
theorem t52 (x w R):den prog KG QH (aj 0 [I x]) w (Rt f52 R)=
(Call prog 50 [I x] w fun e w'=>∃p n,e=Z (tuple #[pointer p,I n])/\Fo (n !=0) (R (Z (tuple #[pointer none,I n])) w') (ay w' [pointer p,I 0] 160 fun p w'=>R (Z (tuple #[pointer (some p),I 0])) w')):=by kernel_rfl
def HV:Mt:={N:=16,keep:=kp 0 [[0],[0,6],[2],[3],[2]]}
def ya:=ak f20
theorem u20:UT 20 HV ya f20:=u_ func20 (by kernel_rfl)
theorem t20 (x w R):den prog HV ya (aj 0 [pointer x]) w (Rt f20 R)=
(Fo x.isNone (R (Z (I 0)) w) (∃a,x=some a/\Lp w (a.add 0) fun p=>Ct 78 [pointer p] w fun n b w'=>R (Z (I n)) w')):=by kernel_rfl
def Hw:Mt:={N:=29,keep:=kp 0 [[0,1],[0,1,5],[0,1,5,9],[4],[0,1,13],[4],[0,1,19],[4],[4]],bk:=[(0,[0,1])]}
def MS:=ak f157
theorem ajf:UT 157 Hw MS f157:=u_ func157 (by kernel_rfl)
theorem t157 (x x1 w R):den prog Hw MS (aj 0 [pointer x,I x1]) w (Rt f157 R)=
(Ci 259 [pointer x,I x1] w fun n w'=>Fo (n !=0) (R (Z (I n)) w') (∃a,x=some a/\Li w' (a.add 1) fun n=>Fo (n !=0) (R (Z (I 7)) w') (Ci 20 [pointer x] w' fun n w'=>Fo (decide (n>=1000)) (R (Z (I 5)) w') (∃a,x=some a/\Lp w' (a.add 0) fun p=>Ci 260 [pointer p,I x1,I 1] w' fun n w'=>R (Z (I n)) w')))):=by kernel_rfl
def HA:Mt:={N:=15,keep:=kp 0 [[0],[0,3],[2],[0,6],[2],[],[2]],bk:=[(0,[0])]}
def MV:=ak f160
theorem aji:UT 160 HA MV f160:=u_ func160 (by kernel_rfl)
theorem t160 (x w R):den prog HA MV (aj 0 [pointer x]) w (Rt f160 R)=
(Fo x.isNone (R (Z (I 1)) w) (∃a,x=some a/\Li w (a.add 1) fun n=>Fo (n !=0) (R (Z (I 7)) w) (∃a,x=some a/\Wr w (a.add 1) [I 1] fun w'=>R (Z (I 0)) w'))):=by kernel_rfl
def HE:Mt:={N:=24,keep:=kp 0 [[0,1],[0,1,5],[0,1,5,9],[4],[0,1,13],[4],[4]],bk:=[(0,[0,1])]}
def MZ:=ak f165
theorem ajn:UT 165 HE MZ f165:=u_ func165 (by kernel_rfl)
theorem t165 (x x1 w R):den prog HE MZ (aj 0 [pointer x,I x1]) w (Rt f165 R)=
(Ci 259 [pointer x,I x1] w fun n w'=>Fo (n !=0) (R (Z (I n)) w') (Ci 265 [pointer x,I x1] w' fun n w'=>Fo (n==0) (R (Z (I 12)) w') (∃a,x=some a/\Lp w' (a.add 0) fun p=>Ci 260 [pointer p,I x1,I (-1:Int)] w' fun n w'=>R (Z (I n)) w'))):=by kernel_rfl
def H9:Mt:={N:=15,keep:=kp 0 [[0],[0,3],[2],[0,6],[2],[],[2]],bk:=[(0,[0])]}
def NH:=ak f213
theorem ajT:UT 213 H9 NH f213:=u_ func213 (by kernel_rfl)
theorem t213 (x w R):den prog H9 NH (aj 0 [pointer x]) w (Rt f213 R)=
(Fo x.isNone (R (Z (I 1)) w) (∃a,x=some a/\Li w (a.add 1) fun n=>Fo (n==0) (R (Z (I 6)) w) (∃a,x=some a/\Wr w (a.add 1) [I 0] fun w'=>R (Z (I 0)) w'))):=by kernel_rfl
def IY:Mt:={N:=19,keep:=kp 0 [[0,1],[0,1,8],[4],[6],[4]]}
def Ow:=ak f259
theorem akD:UT 259 IY Ow f259:=u_ func259 (by kernel_rfl)
theorem t259 (x x1 w R):den prog IY Ow (aj 0 [pointer x,I x1]) w (Rt f259 R)=
(Fo x.isNone (R (Z (I 1)) w) (∃a,x=some a/\Lp w (a.add 0) fun p=>Ct 331 [pointer p,I x1] w fun n b w'=>R (Z (I b)) w')):=by kernel_rfl
def I4:Mt:={N:=19,keep:=kp 0 [[0,1],[0,1,8],[4],[5],[4]]}
def OC:=ak f265
theorem akJ:UT 265 I4 OC f265:=u_ func265 (by kernel_rfl)
theorem t265 (x x1 w R):den prog I4 OC (aj 0 [pointer x,I x1]) w (Rt f265 R)=
(Fo x.isNone (R (Z (I 0)) w) (∃a,x=some a/\Lp w (a.add 0) fun p=>Ct 331 [pointer p,I x1] w fun n b w'=>R (Z (I n)) w')):=by kernel_rfl
def Jg:Mt:={N:=19,keep:=kp 0 [[0],[0,3],[2],[0,6],[2],[0,12],[2],[],[2]],bk:=[(0,[0])]}
def OR:=ak f298
theorem akY:UT 298 Jg OR f298:=u_ func298 (by kernel_rfl)
theorem t298 (x w R):den prog Jg OR (aj 0 [pointer x]) w (Rt f298 R)=
(Fo x.isNone (R (Z (I 1)) w) (∃a,x=some a/\Li w (a.add 1) fun n=>Fo (n !=1) (R (Z (I 6)) w) (Ci 20 [pointer x] w fun n w'=>Fo (decide (n>0)) (R (Z (I 7)) w') (∃a,x=some a/\Wr w' (a.add 1) [I 2] fun w'=>R (Z (I 0)) w')))):=by kernel_rfl
def I1:Mt:={N:=13,keep:=kp 0 [[0],[0,9],[2,3],[2,3]]}
def Oz:=ak f262
theorem akG:UT 262 I1 Oz f262:=u_ func262 (by kernel_rfl)
theorem t262 (x w R):den prog I1 Oz (aj 0 [I x]) w (Rt f262 R)=
(Fz (decide (x<1)) (Fo (decide (x>64)) (R (Z (tuple #[pointer none,I 2])) w) (ay w [I x,I 0,.bool false] 385 fun p w'=>R (Z (tuple #[pointer (some p),I 0])) w')) (R (Z (tuple #[pointer none,I 2])) w)):=by kernel_rfl
def Jd:Mt:={N:=56,keep:=kp 0 [[0],[0,5],[2,3,4],[0,8],[2,3,4],[0,42],[2,3,4],[2,3,4]],bu:=[(3,(.range 30)),(4,(.range 7))],bk:=[(0,[0])]}
def OO:=ak f295
theorem akV:UT 295 Jd OO f295:=u_ func295 (by kernel_rfl)
theorem t295 (x w R):den prog Jd OO (aj 0 [pointer x]) w (Rt f295 R)=
(Fo x.isNone (R (Z (tuple #[I 0,.bool false,.bool true])) w) (Sm w fun w'=>∃a,x=some a/\Lj w' (a.add 2) fun b=>Fo b (∃a,x=some a/\Li w' (a.add 1) fun n=>Fz (n==0) (∃a,x=some a/\Lj w' (a.add 2) fun b=>Fo (!b) (∃a,x=some a/\Li w' (a.add 1) fun n=>∃a,x=some a/\Li w' (a.add 0) fun d=>Fo (n==d) (Sm w' fun c=>∃a,x=some a/\∃b,c.cell? (a.add 2)=some (.bool b)/\R (Z (tuple #[I 0,.bool b,.bool true])) c) (∃a,x=some a/\Lj w' (a.add 2) fun b=>Fo b (∃a,x=some a/\Li w' (a.add 1) fun n=>R (Z (tuple #[I (wrap i64 (n-1)),.bool true,.bool false])) w') (∃a,x=some a/\Li w' (a.add 1) fun n=>R (Z (tuple #[I n,.bool false,.bool false])) w'))) (∃a,x=some a/\Lj w' (a.add 2) fun b=>Fo b (∃a,x=some a/\Li w' (a.add 1) fun n=>R (Z (tuple #[I (wrap i64 (n-1)),.bool true,.bool false])) w') (∃a,x=some a/\Li w' (a.add 1) fun n=>R (Z (tuple #[I n,.bool false,.bool false])) w'))) (Sm w' fun c=>∃a,x=some a/\∃b,c.cell? (a.add 2)=some (.bool b)/\R (Z (tuple #[I 0,.bool b,.bool true])) c)) (∃a,x=some a/\Lj w' (a.add 2) fun b=>Fo (!b) (∃a,x=some a/\Li w' (a.add 1) fun n=>∃a,x=some a/\Li w' (a.add 0) fun d=>Fo (n==d) (Sm w' fun c=>∃a,x=some a/\∃b,c.cell? (a.add 2)=some (.bool b)/\R (Z (tuple #[I 0,.bool b,.bool true])) c) (∃a,x=some a/\Lj w' (a.add 2) fun b=>Fo b (∃a,x=some a/\Li w' (a.add 1) fun n=>R (Z (tuple #[I (wrap i64 (n-1)),.bool true,.bool false])) w') (∃a,x=some a/\Li w' (a.add 1) fun n=>R (Z (tuple #[I n,.bool false,.bool false])) w'))) (∃a,x=some a/\Lj w' (a.add 2) fun b=>Fo b (∃a,x=some a/\Li w' (a.add 1) fun n=>R (Z (tuple #[I (wrap i64 (n-1)),.bool true,.bool false])) w') (∃a,x=some a/\Li w' (a.add 1) fun n=>R (Z (tuple #[I n,.bool false,.bool false])) w'))))):=by kernel_rfl
def Je:Mt:={N:=23,keep:=kp 0 [[0],[0,4,5],[0,4,5,12],[2],[0,15],[2],[],[2]],bk:=[(0,[0])]}
def OP:=ak f296
theorem akW:UT 296 Je OP f296:=u_ func296 (by kernel_rfl)
theorem t296 (x w R):den prog Je OP (aj 0 [pointer x]) w (Rt f296 R)=
(Call prog 295 [pointer x] w fun e w'=>∃n b c,e=Z (tuple #[I n,.bool b,.bool c])/\Fo x.isNone (R (Z (I 1)) w') (Fz b (Fo c (R (Z (I 6)) w') (∃a,x=some a/\Wr w' (a.add 2) [.bool true] fun w'=>R (Z (I 0)) w')) (R (Z (I 6)) w'))):=by kernel_rfl
def Jj:Mt:={N:=33,keep:=kp 0 [[0],[0,4,5],[],[0,4,5,19],[2],[0,4,22],[2],[0,24],[],[2]],bk:=[(0,[])]}
def OW:=ak f301
theorem ak1:UT 301 Jj OW f301:=u_ func301 (by kernel_rfl)
theorem t301 (x w R):den prog Jj OW (aj 0 [pointer x]) w (Rt f301 R)=
(Call prog 295 [pointer x] w fun e w'=>∃n b c,e=Z (tuple #[I n,.bool b,.bool c])/\Fo x.isNone (R (Z (I 1)) w') (Fo c (R (Z (I 6)) w') (Fo b (∃a,x=some a/\Li w' (a.add 1) fun n=>∃a,x=some a/\Wr w' (a.add 1) [I (wrap i64 (n-1))] fun w'=>R (Z (I 0)) w') (∃a,x=some a/\Li w' (a.add 1) fun n=>∃a,x=some a/\Wr w' (a.add 1) [I (wrap i64 (n+1))] fun w'=>R (Z (I 0)) w')))):=by kernel_rfl
def Jk:Mt:={N:=20,keep:=kp 0 [[0],[0,4,5],[4,5,12],[2],[4,15],[2],[18],[2],[2]],bk:=[(0,[])]}
def OX:=ak f302
theorem ak2:UT 302 Jk OX f302:=u_ func302 (by kernel_rfl)
theorem t302 (x w R):den prog Jk OX (aj 0 [pointer x]) w (Rt f302 R)=
(Call prog 295 [pointer x] w fun e w'=>∃n b a,e=Z (tuple #[I n,.bool b,.bool a])/\Fo x.isNone (R (Z (I 1)) w') (Fo (!a) (R (Z (I 7)) w') (Fo b (R (Z (I 11)) w') (R (Z (I 0)) w')))):=by kernel_rfl
def Le:Mt:={N:=12,keep:=kp 0 [[0],[2]]}
def Rg:=ak f99
theorem u99:UT 99 Le Rg f99:=u_ func99 (by kernel_rfl)
theorem t99 (x w R):den prog Le Rg (aj 0 [pointer x]) w (Rt f99 R)=
(Fo (!x.isNone) (∃a,x=some a/\Lp w (a.add 0) fun p=>R (Z (.bool !p.isNone)) w) (R (Z (.bool false)) w)):=by kernel_rfl
def Gy:Mt:={N:=14,keep:=kp 0 [[0],[2]]}
def LX:=ak f100
theorem aik:UT 100 Gy LX f100:=u_ func100 (by kernel_rfl)
theorem t100 (x w R):den prog Gy LX (aj 0 [pointer x]) w (Rt f100 R)=
(Cj 99 [pointer x] w fun b w'=>Fo b (∃a,x=some a/\Lp w' (a.add 0) fun p=>∃a,p=some a/\Lj w' (a.add 1) fun b=>R (Z (.bool b)) w') (R (Z (.bool false)) w')):=by kernel_rfl
def Gz:Mt:={N:=13,keep:=kp 0 [[0],[0,5],[2],[2]]}
def LY:=ak f101
theorem ail:UT 101 Gz LY f101:=u_ func101 (by kernel_rfl)
theorem t101 (x w R):den prog Gz LY (aj 0 [pointer x]) w (Rt f101 R)=
(Cj 99 [pointer x] w fun b w'=>Fo (!b) (R (Z (I 0)) w') (∃a,x=some a/\Lp w' (a.add 0) fun p=>∃a,p=some a/\Li w' (a.add 2) fun n=>R (Z (I n)) w')):=by kernel_rfl
def GA:Mt:={N:=13,keep:=kp 0 [[0],[0,5],[2],[2]]}
def LZ:=ak f102
theorem aim:UT 102 GA LZ f102:=u_ func102 (by kernel_rfl)
theorem t102 (x w R):den prog GA LZ (aj 0 [pointer x]) w (Rt f102 R)=
(Cj 99 [pointer x] w fun b w'=>Fo (!b) (R (Z (I 0)) w') (∃a,x=some a/\Lp w' (a.add 0) fun p=>∃a,p=some a/\Li w' (a.add 3) fun n=>R (Z (I n)) w')):=by kernel_rfl
def rX:Mt:={N:=52,keep:=kp 0 [[0,1,2,3],[0,1,2,3,12],[8],[0,1,2,3,15],[8],[0,1,2,3,21],[8],[0,1,2,3,30],[8],[0,1,2,3,9],[0,1,2,3,9,34],[0,1,2,3,9],[0,1,2,3,10,11],[0,1,2,3,10,11,41],[8],[],[8]],bk:=[(0,[0,1,2,3])],cB:=[(12,[0,1,2,3,9])]}
def B5:=ak f161
def xT:=B5.sr.sr.sr.sr
def zl (x:Option Addr) (x1:Bool) (x2 x3 x4:Int):Env:=[vP 0 x,(1,SV.v (.bool x1)),vI 2 x2,vI 3 x3,vI 9 x4]
def zU (R:RT):=Rt f161 R
theorem ajj:UT 161 rX B5 f161:=u_ func161 (by kernel_rfl)
theorem t161 (x x1 x2 x3 w R):den prog rX B5 (aj 0 [pointer x,.bool x1,I x2,I x3]) w (Rt f161 R)=
(Fo x.isNone (R (Z (I 1)) w) (∃a,x=some a/\Lp w (a.add 0) fun p=>Fo (!p.isNone) (R (Z (I 7)) w) (Cj 261 [I x2] w fun b w'=>Fz (!b) (Cj 261 [I x3] w' fun b w'=>Fo (!b) (R (Z (I 3)) w') (Fo (x2==x3) (R (Z (I 2)) w') (Fo x1 (aA prog rX xT (zl x x1 x2 x3 4) w' (zU R)) (aA prog rX xT (zl x x1 x2 x3 10) w' (zU R))))) (R (Z (I 3)) w')))):=by kernel_rfl
theorem agv (x x1 x2 x3 x4 w R):den prog rX xT (zl x x1 x2 x3 x4) w (zU R)=
(Call prog 262 [I x4] w fun e w'=>∃p n,e=Z (tuple #[pointer p,I n])/\Fo (n !=0) (R (Z (I n)) w') (ay w' [pointer p,.bool x1,I x2,I x3,.bool false] 284 fun p w'=>∃a,x=some a/\Wr w' (a.add 0) [pointer (some p)] fun w'=>R (Z (I 0)) w')):=by kernel_rfl
def lC:Mt:={N:=72,keep:=kp 0 [[0,2],[0,2,4],[0,2,4,12],[2,3],[0,2,5,6],[0,2,5,8],[0,2,5,8,51],[0,2,8],[0,2,8],[2,8],[2,3]],cB:=[(6,[0,2,5,8]),(9,[0,2,8])]}
def yc:=ak f208
def sF:=yc.sr.sr.sr.sr
def yd:=yc.sr.sr.sr.sr.sr
def sS (x:Option Addr) (x1:Addr) (x2:Int) (x3:Addr):Env:=[vP 0 x,(2,SV.v (pointer (some x1))),vI 5 x2,(8,SV.v (pointer (some x3)))]
def zm (x:Option Addr) (x1 x2:Addr):Env:=[vP 0 x,(2,SV.v (pointer (some x1))),(8,SV.v (pointer (some x2)))]
def tv (R:RT):=Rt f208 R
def zW (R:RT):=Rt f208 R
theorem ajO:UT 208 lC yc f208:=u_ func208 (by kernel_rfl)
theorem t208 (x w R):den prog lC yc (aj 0 [pointer x]) w (Rt f208 R)=
(ay w [I 0,.bool false,.bool false] 303 fun p w'=>Ci 294 [pointer x] w' fun n w'=>Fo (n !=0) (Wr w' p [I 0,.bool false,.bool false] fun w'=>Li w' (p.add 0) fun h=>Lj w' (p.add 1) fun b=>Lj w' (p.add 2) fun f=>R (Z (tuple #[agg #[I h,.bool b,.bool f],I n])) w') (∃a,x=some a/\Lp w' (a.add 0) fun i=>∃a,i=some a/\Lp w' (a.add 0) fun j=>Call prog 295 [pointer j] w' fun e w'=>∃n b f,e=Z (tuple #[I n,.bool b,.bool f])/\Fo (!b) (∃a,x=some a/\Lp w' (a.add 0) fun c=>∃a,c=some a/\Lj w' (a.add 4) fun g=>Fo (!g) (∃a,x=some a/\∃r,w'.cell? (a.add 1)=some (map r)/\∃k,Sem.run prog (Instr.lookup 134 (map r) (I n) false) w'=Result.ok (.bool k) w'/\ay w' [I 0,.bool false,.bool false] 303 fun d w'=>Wr w' d [I n,.bool b,.bool k] fun w'=>aA prog lC sF (sS x p n d) w' (tv R)) (ay w' [I 0,.bool false,.bool false] 303 fun d w'=>Wr w' d [I n,.bool b,.bool false] fun w'=>aA prog lC sF (sS x p n d) w' (tv R))) (ay w' [I 0,.bool false,.bool false] 303 fun c w'=>Wr w' c [I n,.bool b,.bool false] fun w'=>aA prog lC sF (sS x p n c) w' (tv R)))):=by kernel_rfl
theorem agE (x x1 x2 x3 w R):den prog lC sF (sS x x1 x2 x3) w (tv R)=
(Lj w (x3.add 2) fun b=>Fo b (∃a,x=some a/\∃r,w.cell? (a.add 1)=some (map r)/\∃w',Sem.run prog (Builtin.delete_ #[134,3] 0 #[map r,I x2]) w=Result.ok (tuple #[]) w'/\∃a,x=some a/\Lp w' (a.add 0) fun p=>∃a,p=some a/\Lp w' (a.add 0) fun p=>Ci 296 [pointer p] w' fun n w'=>aA prog lC yd (zm x x1 x3) w' (zW R)) (aA prog lC yd (zm x x1 x3) w (zW R))):=by kernel_rfl
theorem agF (x x1 x2 w R):den prog lC yd (zm x x1 x2) w (zW R)=
(∃a,x=some a/\Lp w (a.add 0) fun p=>∃a,p=some a/\Wr w (a.add 4) [.bool true] fun w'=>Li w' (x2.add 0) fun n=>Lj w' (x2.add 1) fun b=>Lj w' (x2.add 2) fun c=>Wr w' x1 [I n,.bool b,.bool c] fun w'=>Li w' (x1.add 0) fun n=>Lj w' (x1.add 1) fun b=>Lj w' (x1.add 2) fun d=>R (Z (tuple #[agg #[I n,.bool b,.bool d],I 0])) w'):=by kernel_rfl
def H6:Mt:={N:=23,keep:=kp 0 [[0],[0,3],[0,3,7],[2],[0],[2]]}
def ND:=ak f210
theorem ajQ:UT 210 H6 ND f210:=u_ func210 (by kernel_rfl)
theorem t210 (x w R):den prog H6 ND (aj 0 [pointer x]) w (Rt f210 R)=
(Ci 294 [pointer x] w fun n w'=>Fo (n !=0) (R (Z (I n)) w') (∃a,x=some a/\Lp w' (a.add 0) fun p=>∃a,p=some a/\Wr w' (a.add 4) [.bool false] fun w'=>∃a,x=some a/\Lp w' (a.add 0) fun p=>∃a,p=some a/\Lp w' (a.add 0) fun p=>Ci 301 [pointer p] w' fun n w'=>R (Z (I n)) w')):=by kernel_rfl
def H7:Mt:={N:=22,keep:=kp 0 [[0],[0,8],[2],[5],[2]]}
def NF:=ak f211
theorem ajR:UT 211 H7 NF f211:=u_ func211 (by kernel_rfl)
theorem t211 (x w R):den prog H7 NF (aj 0 [pointer x]) w (Rt f211 R)=
(Cj 99 [pointer x] w fun b w'=>Fo (!b) (R (Z (.bool false)) w') (∃a,x=some a/\Lp w' (a.add 0) fun p=>∃a,p=some a/\Lp w' (a.add 0) fun p=>Call prog 295 [pointer p] w' fun e w'=>∃n b c,e=Z (tuple #[I n,.bool b,.bool c])/\R (Z (.bool c)) w')):=by kernel_rfl
def H8:Mt:={N:=30,keep:=kp 0 [[0],[0,5],[2,3],[0,8],[2,3],[0,14],[2,3],[0,4],[4],[2,3]],bk:=[(0,[0])]}
def NG:=ak f212
theorem ajS:UT 212 H8 NG f212:=u_ func212 (by kernel_rfl)
theorem t212 (x w R):den prog H8 NG (aj 0 [pointer x]) w (Rt f212 R)=
(Fo x.isNone (R (Z (tuple #[I 0,I 1])) w) (∃a,x=some a/\Lp w (a.add 0) fun p=>Fo p.isNone (R (Z (tuple #[I 0,I 12])) w) (Cj 211 [pointer x] w fun b w'=>Fo (!b) (R (Z (tuple #[I 0,I 6])) w') (∃a,x=some a/\Lp w' (a.add 0) fun p=>∃a,p=some a/\Lp w' (a.add 0) fun p=>Ci 302 [pointer p] w' fun n w'=>∃a,x=some a/\Wr w' (a.add 0) [pointer none] fun w'=>R (Z (tuple #[I n,I 0])) w')))):=by kernel_rfl
def I0:Mt:={N:=9,keep:=kp 0 [[0],[2]]}
def Oy:=ak f261
theorem akF:UT 261 I0 Oy f261:=u_ func261 (by kernel_rfl)
theorem t261 (x w R):den prog I0 Oy (aj 0 [I x]) w (Rt f261 R)=
(Fo (decide (x>=0)) (R (Z (.bool (decide (x<64)))) w) (R (Z (.bool false)) w)):=by kernel_rfl
def I3:Mt:={N:=29,keep:=kp 0 [[0,1],[0,1,5],[4],[0,1,8],[4],[0,1,19],[0,1],[],[4]],bk:=[(0,[0,1])]}
def OB:=ak f264
theorem akI:UT 264 I3 OB f264:=u_ func264 (by kernel_rfl)
theorem t264 (x x1 w R):den prog I3 OB (aj 0 [pointer x,I x1]) w (Rt f264 R)=
(Fo x.isNone (R (Z (I 1)) w) (Fz (decide (x1<0)) (Fo (decide (x1>=10)) (R (Z (I 3)) w) (∃a,x=some a/\∃r,w.cell? (a.add 1)=some (map r)/\Fo r.isNone (ob w fun r w'=>∃a,x=some a/\Wr w' (a.add 1) [map (some r)] fun w'=>∃a,x=some a/\∃r,w'.cell? (a.add 1)=some (map r)/\∃b,Sem.run prog (Instr.mapUpdate 134 (map r) (I x1) (.bool true)) w'=Result.ok () b/\R (Z (I 0)) b) (∃a,x=some a/\∃r,w.cell? (a.add 1)=some (map r)/\∃w',Sem.run prog (Instr.mapUpdate 134 (map r) (I x1) (.bool true)) w=Result.ok () w'/\R (Z (I 0)) w'))) (R (Z (I 3)) w))):=by kernel_rfl
def Jc:Mt:={N:=15,keep:=kp 0 [[0],[0,3],[2],[0,6],[2],[12],[2],[2]],bk:=[(0,[])]}
def ON:=ak f294
theorem akU:UT 294 Jc ON f294:=u_ func294 (by kernel_rfl)
theorem t294 (x w R):den prog Jc ON (aj 0 [pointer x]) w (Rt f294 R)=
(Fo x.isNone (R (Z (I 1)) w) (∃a,x=some a/\Lp w (a.add 0) fun p=>Fo p.isNone (R (Z (I 12)) w) (Cj 211 [pointer x] w fun b w'=>Fo b (R (Z (I 6)) w') (R (Z (I 0)) w')))):=by kernel_rfl
def va:Mt:={N:=33,keep:=kp 0 [[0],[0,11],[2,3],[4],[4,20,21],[4,20,21,22],[4,5,20,21],[4,20,21],[4,20,21],[2,3]],bk:=[(0,[4]),(1,[4,20,21])],lk:=[(5,[4,20,21])]}
def yM:=ak f54
def Zi:=yM.sr.sr.sr.sr
def QJ:=yM.sr.sr.sr.sl.sr.sl.sl
def Ds (x:Option Addr) (x1 x2:Int):Env:=[vP 4 x,vI 20 x1,vI 21 x2]
def Uv (R:RT):=a7 0 [4] (SQ va Zi (Rt f54 R) (Rt f54 R))
theorem u54:UT 54 va yM f54:=u_ func54 (by kernel_rfl)
theorem t54 (x w R):den prog va yM (aj 0 [I x]) w (Rt f54 R)=
(Fz (decide (x<1)) (Fo (decide (x>64)) (R (Z (tuple #[pointer none,I 2])) w) (∃p n c w',Sem.run prog (Instr.makeSlice 222 (I x) (I x)) w=Result.ok (slice p n c) w'/\ay w' [slice p n c] 224 fun p w'=>∃a,some p=some a/\Lq w' (a.add 0) fun b n c=>Cut (WP prog 33 (Code.loop QJ) (Ds (some p) (↑n:Int) 0) w' (Uv R)))) (R (Z (tuple #[pointer none,I 2])) w)):=by kernel_rfl
theorem ahn (x x1 x2 w B R):den prog va QJ (Ds x x1 x2) w (bo B (Uv R))=
(Fo (decide (x2<x1)) (∃a,x=some a/\Lq w (a.add 0) fun p n c=>(0<=x2/\x2<(↑n:Int))/\∃a,p=some a/\Wr w (add (add a (Int.toNat x2*6)) 0) [.bool true] fun w'=>B [vP 4 x,vI 20 x1,(21,SV.v (I (wrap i64 (x2+1))))] w') (R (Z (tuple #[pointer x,I 0])) w)):=by kernel_rfl
def GK:Mt:={N:=21,keep:=kp 0 [[0,1,4],[4,6,7],[4,6,7,15],[4,5],[4,5]]}
def Mb:=ak f113
theorem aiv:UT 113 GK Mb f113:=u_ func113 (by kernel_rfl)
theorem t113 (x x1 w R):den prog GK Mb (aj 0 [pointer x,I x1]) w (Rt f113 R)=
(ay w [.bool false,.bool false,I 0,I 0,I 0,I 0] 226 fun p w'=>Call prog 199 [pointer x,I x1] w' fun e w'=>∃i n,e=Z (tuple #[pointer i,I n])/\Fo (n !=0) (Wr w' p [.bool false,.bool false,I 0,I 0,I 0,I 0] fun w'=>Lj w' (p.add 0) fun b=>Lj w' (p.add 1) fun c=>Li w' (p.add 2) fun d=>Li w' (p.add 3) fun f=>Li w' (p.add 4) fun g=>Li w' (p.add 5) fun h=>R (Z (tuple #[agg #[.bool b,.bool c,I d,I f,I g,I h],I n])) w') (∃a,i=some a/\Lj w' (a.add 0) fun b=>Lj w' (a.add 1) fun c=>Li w' (a.add 2) fun n=>Li w' (a.add 3) fun d=>Li w' (a.add 4) fun f=>Li w' (a.add 5) fun g=>Wr w' p [.bool b,.bool c,I n,I d,I f,I g] fun w'=>Lj w' (p.add 0) fun b=>Lj w' (p.add 1) fun j=>Li w' (p.add 2) fun n=>Li w' (p.add 3) fun h=>Li w' (p.add 4) fun k=>Li w' (p.add 5) fun l=>R (Z (tuple #[agg #[.bool b,.bool j,I n,I h,I k,I l],I 0])) w')):=by kernel_rfl
def GL:Mt:={N:=24,keep:=kp 0 [[2,3],[2,5],[2,5,8],[4],[5,12],[4],[17],[4],[4]],bk:=[(0,[])]}
def Mc:=ak f114
theorem aiw {a b c d e f g i j k l m n o p w R}(h:den prog GL Mc (aj 0 [agg #[a,b,c,d,e,f],agg #[g,i,j,k,l,m,n,o,p]]) w (Rt f114 R)):Calls prog 114 #[agg #[a,b,c,d,e,f],agg #[g,i,j,k,l,m,n,o,p]] w R:=u_ func114 (by kernel_rfl) h
theorem t114 (x x1 x2 x3 x4 x5 x6 x7 x8 x9 x10 x11 x12 x13 x14 w R):den prog GL Mc (aj 0 [agg #[(.bool x),(.bool x1),I x2,I x3,I x4,I x5],agg #[(.bool x6),(.bool x7),(.bool x8),(.bool x9),(.bool x10),(.bool x11),(.bool x12),(.bool x13),(.bool x14)]]) w (Rt f114 R)=
(ay w [.bool x,.bool x1,I x2,I x3,I x4,I x5] 226 fun p w'=>ay w' [.bool x6,.bool x7,.bool x8,.bool x9,.bool x10,.bool x11,.bool x12,.bool x13,.bool x14] 240 fun a w'=>Lj w' (a.add 0) fun b=>Lj w' (a.add 1) fun c=>Lj w' (a.add 2) fun d=>Lj w' (a.add 3) fun f=>Lj w' (a.add 4) fun g=>Lj w' (a.add 5) fun h=>Lj w' (a.add 6) fun i=>Lj w' (a.add 7) fun j=>Lj w' (a.add 8) fun k=>Ci 200 [agg #[.bool b,.bool c,.bool d,.bool f,.bool g,.bool h,.bool i,.bool j,.bool k]] w' fun n w'=>Lj w' (p.add 0) fun b=>Fo (!b) (R (Z (I 0)) w') (Lj w' (p.add 1) fun b=>Fo (!b) (R (Z (I n)) w') (Fz (n==0) (Fo (n==9) (R (Z (I 0)) w') (R (Z (I 1)) w')) (R (Z (I 0)) w')))):=by kernel_rfl
def GN:Mt:={N:=33,keep:=kp 0 [[0,1,2],[2,7,8],[2,7,8,16],[6],[2,7],[7,25],[],[6]]}
def Me:=ak f116
theorem aiy:UT 116 GN Me f116:=u_ func116 (by kernel_rfl)
theorem t116 (x x1 x2 w R):den prog GN Me (aj 0 [pointer x,I x1,.bool x2]) w (Rt f116 R)=
(Call prog 199 [pointer x,I x1] w fun e w'=>∃p n,e=Z (tuple #[pointer p,I n])/\Fo (n !=0) (R (Z (I n)) w') (∃a,p=some a/\Li w' (a.add 4) fun n=>∃a,p=some a/\Wr w' (a.add 4) [I (wrap i64 (n+1))] fun w'=>Fo x2 (∃a,p=some a/\Li w' (a.add 5) fun n=>∃a,p=some a/\Wr w' (a.add 5) [I (wrap i64 (n+1))] fun w'=>R (Z (I 0)) w') (R (Z (I 0)) w'))):=by kernel_rfl
def GO:Mt:={N:=41,keep:=kp 0 [[0,1,2],[2,8,9],[2,8,9,17],[6,7],[2,8,21],[6,7],[2,8,25],[6,7],[2,8,10],[2,10],[6,7]],bk:=[(0,[2,8])]}
def Mf:=ak f117
theorem aiz:UT 117 GO Mf f117:=u_ func117 (by kernel_rfl)
theorem t117 (x x1 x2 w R):den prog GO Mf (aj 0 [pointer x,I x1,I x2]) w (Rt f117 R)=
(Call prog 199 [pointer x,I x1] w fun e w'=>∃p n,e=Z (tuple #[pointer p,I n])/\Fo (n !=0) (R (Z (tuple #[I 0,I n])) w') (Cj 206 [I x2] w' fun b w'=>Fo (!b) (R (Z (tuple #[I 0,I 2])) w') (∃a,p=some a/\Lj w' (a.add 1) fun b=>Fo (!b) (R (Z (tuple #[I 0,I 6])) w') (∃a,p=some a/\Li w' (a.add 3) fun n=>Cn 207 [pointer p] w' fun w'=>∃c d,Sem.run prog (Builtin.max_ #[2,2] 2 #[I 0,I (wrap i64 (x2-n))]) w'=Result.ok (I c) d/\R (Z (tuple #[I c,I 0])) d)))):=by kernel_rfl
def HU:Mt:={N:=27,keep:=kp 0 [[0,1],[0,1,6],[4,5],[0,1,9],[4,5],[4,5]],bk:=[(0,[0,1])]}
def Ns:=ak f199
theorem Xw:UT 199 HU Ns f199:=u_ func199 (by kernel_rfl)
theorem t199 (x x1 w R):den prog HU Ns (aj 0 [pointer x,I x1]) w (Rt f199 R)=
(Fo x.isNone (R (Z (tuple #[pointer none,I 1])) w) (Fz (decide (x1<0)) (∃a,x=some a/\Lq w (a.add 0) fun p n c=>Fo (decide (x1>=(↑n:Int))) (R (Z (tuple #[pointer none,I 3])) w) (∃a,x=some a/\Lq w (a.add 0) fun p n c=>(0<=x1/\x1<(↑n:Int))/\∃a,p=some a/\R (Z (tuple #[pointer (some (add a (Int.toNat x1*6))),I 0])) w)) (R (Z (tuple #[pointer none,I 3])) w))):=by kernel_rfl
def na:Mt:={N:=43,keep:=kp 0 [[1],[34,35],[34,35,36],[4,34,35],[4,34,35,39],[2],[34,35],[2]],bk:=[(0,[]),(1,[34,35])],cB:=[(2,[34,35])],lk:=[(2,[34,35])]}
def vu:=ak f200
def Nt:=vu.sr.sr
def yb:=vu.sr.sl.sr
def Nu:=vu.sr.sl.sr.sl.sl
def Sc (x:List Value) (x1:Int):Env:=[(34,SV.v (agg x.toArray)),vI 35 x1]
def C0 (x:List Value) (x1:Int):Env:=[(34,SV.v (agg x.toArray)),vI 35 x1]
def zV (R:RT):=SQ na Nt (Rt f200 R) (Rt f200 R)
def TT (R:RT):=a7 0 [] (SQ na Nt (Rt f200 R) (Rt f200 R))
theorem ajG {a b c d e f g i j w R}(h:den prog na vu (aj 0 [agg #[a,b,c,d,e,f,g,i,j]]) w (Rt f200 R)):Calls prog 200 #[agg #[a,b,c,d,e,f,g,i,j]] w R:=u_ func200 (by kernel_rfl) h
theorem t200 (x x1 x2 x3 x4 x5 x6 x7 x8 w R):den prog na vu (aj 0 [agg #[(.bool x),(.bool x1),(.bool x2),(.bool x3),(.bool x4),(.bool x5),(.bool x6),(.bool x7),(.bool x8)]]) w (Rt f200 R)=
(ay w [.bool x,.bool x1,.bool x2,.bool x3,.bool x4,.bool x5,.bool x6,.bool x7,.bool x8] 240 fun p w'=>Lj w' (p.add 0) fun b=>Lj w' (p.add 2) fun g=>Lj w' (p.add 1) fun h=>Fz h (Lj w' (p.add 3) fun a=>Lj w' (p.add 4) fun c=>Lj w' (p.add 5) fun d=>Lj w' (p.add 6) fun e=>Lj w' (p.add 7) fun f=>Lj w' (p.add 8) fun i=>aA prog na yb [(34,SV.v (agg #[.bool b,I 2,.bool g,I 3,.bool !a,I 0,.bool c,I 4,.bool d,I 5,.bool e,I 6,.bool f,I 7,.bool i,I 8])),vI 35 0] w' (zV R)) (Lj w' (p.add 4) fun a=>Lj w' (p.add 5) fun c=>Lj w' (p.add 6) fun d=>Lj w' (p.add 7) fun e=>Lj w' (p.add 8) fun f=>aA prog na yb [(34,SV.v (agg #[.bool b,I 2,.bool g,I 3,.bool true,I 0,.bool a,I 4,.bool c,I 5,.bool d,I 6,.bool e,I 7,.bool f,I 8])),vI 35 0] w' (zV R))):=by kernel_rfl
theorem agC (x x1 w R):den prog na yb (Sc x x1) w (zV R)=
(Cut (WP prog 43 (Code.loop Nu) (C0 x x1) w (TT R))):=by kernel_rfl
theorem agD (x x1 w B R):den prog na Nu (C0 x x1) w (bo B (TT R))=
(Fo (decide (x1<8)) ((0<=x1/\x1<(↑8:Int))/\∃b n,List.take 2 (List.drop (Int.toNat x1*2) (Array.toList (List.toArray x)))=[.bool b,I n]/\ay w [.bool false,I 0] 361 fun p w'=>Wr w' p [.bool b,I n] fun w'=>Lj w' (p.add 0) fun b=>Fo b (Li w' (p.add 1) fun n=>R (Z (I n)) w') (B [(34,SV.v (agg (List.toArray x))),(35,SV.v (I (wrap i64 (x1+1))))] w')) (R (Z (I 9)) w)):=by kernel_rfl
def H3:Mt:={N:=9,keep:=kp 0 [[0],[2]]}
def NA:=ak f206
theorem ajM:UT 206 H3 NA f206:=u_ func206 (by kernel_rfl)
theorem t206 (x w R):den prog H3 NA (aj 0 [I x]) w (Rt f206 R)=
(Fo (decide (x>=0)) (R (Z (.bool (decide (x<=1152921504606846976)))) w) (R (Z (.bool false)) w)):=by kernel_rfl
def H4:Mt:={N:=11,keep:=kp 0 [[]]}
def NB:=ak f207
theorem ajN:UT 207 H4 NB f207:=u_ func207 (by kernel_rfl)
theorem t207 (x w R):den prog H4 NB (aj 0 [pointer x]) w (Rt f207 R)=
(∃a,x=some a/\Wr w (a.add 1) [.bool false] fun w'=>∃a,x=some a/\Wr w' (a.add 2) [I 0] fun w'=>∃a,x=some a/\Wr w' (a.add 3) [I 0] fun w'=>R (Z (tuple #[])) w'):=by kernel_rfl
def Ic:Mt:={N:=56,keep:=kp 0 [[0,1,2,3],[2,3,9,10],[2,3,9,10,17],[8],[2,3,9,21],[8],[2,3,9,33],[8],[],[8]],bk:=[(0,[2,3,9])]}
def NK:=ak f216
theorem ajW:UT 216 Ic NK f216:=u_ func216 (by kernel_rfl)
theorem t216 (x x1 x2 x3 w R):den prog Ic NK (aj 0 [pointer x,I x1,I x2,I x3]) w (Rt f216 R)=
(Call prog 199 [pointer x,I x1] w fun e w'=>∃p n,e=Z (tuple #[pointer p,I n])/\Fo (n !=0) (R (Z (I n)) w') (Fz (decide (x2<0)) (Fz (decide (x2>=8)) (Cj 206 [I x3] w' fun b w'=>Fo (!b) (R (Z (I 2)) w') (∃a,p=some a/\Lj w' (a.add 0) fun b=>Fz (!b) (∃a,p=some a/\Lj w' (a.add 1) fun b=>Fo b (R (Z (I 6)) w') (∃a,p=some a/\Wr w' (a.add 1) [.bool true] fun w'=>∃a,p=some a/\Wr w' (a.add 2) [I x2] fun w'=>∃a,p=some a/\Wr w' (a.add 3) [I x3] fun w'=>R (Z (I 0)) w')) (R (Z (I 6)) w'))) (R (Z (I 2)) w')) (R (Z (I 2)) w'))):=by kernel_rfl
def Io:Mt:={N:=36,keep:=kp 0 [[0,1],[7,8],[7,8,18],[4,5,6],[7,9,10],[9,10],[4,5,6]],bu:=[(4,(.range 10))]}
def NV:=ak f227
theorem aj7:UT 227 Io NV f227:=u_ func227 (by kernel_rfl)
theorem t227 (x x1 w R):den prog Io NV (aj 0 [pointer x,I x1]) w (Rt f227 R)=
(Call prog 199 [pointer x,I x1] w fun e w'=>∃p n,e=Z (tuple #[pointer p,I n])/\Fo (n !=0) (R (Z (tuple #[I 0,I 0,I n])) w') (Sm w' fun b=>∃a,p=some a/\∃n,b.cell? (a.add 5)=some (I n)/\∃a,p=some a/\∃c,b.cell? (a.add 4)=some (I c)/\∃a,p=some a/\Wr b (a.add 5) [I 0] fun w'=>∃a,p=some a/\Wr w' (a.add 4) [I 0] fun w'=>R (Z (tuple #[I n,I c,I 0])) w')):=by kernel_rfl
def J1:Mt:={N:=32,keep:=kp 0 [[0,1,2],[2,7,8],[2,7,8,15],[6],[2,7,19],[6],[7],[],[6]],bk:=[(0,[2,7])]}
def PK:=ak f354
theorem alK:UT 354 J1 PK f354:=u_ func354 (by kernel_rfl)
theorem t354 (x x1 x2 w R):den prog J1 PK (aj 0 [pointer x,I x1,.bool x2]) w (Rt f354 R)=
(Call prog 199 [pointer x,I x1] w fun e w'=>∃p n,e=Z (tuple #[pointer p,I n])/\Fo (n !=0) (R (Z (I n)) w') (∃a,p=some a/\Lj w' (a.add 0) fun b=>Fo (b==x2) (R (Z (I 6)) w') (∃a,p=some a/\Wr w' (a.add 0) [.bool x2] fun w'=>Cn 207 [pointer p] w' fun w'=>R (Z (I 0)) w'))):=by kernel_rfl
def Ib:Mt:={N:=22,keep:=kp 0 [[0,1,2],[0,1,7],[6],[0,1,10],[6],[6]],bk:=[(0,[0,1])]}
def NJ:=ak f215
theorem ajV:UT 215 Ib NJ f215:=u_ func215 (by kernel_rfl)
theorem t215 (x x1 x2 w R):den prog Ib NJ (aj 0 [I x,I x1,.bool x2]) w (Rt f215 R)=
(Fo (!x2) (R (Z (I 1073741824)) w) (Fz (decide (x<0)) (Fo (decide (x1<=x)) (R (Z (I 0)) w) (∃n w',Sem.run prog (Builtin.min_ #[2,2] 2 #[I (wrap i64 (x1-x)),I 1073741824]) w=Result.ok (I n) w'/\R (Z (I n)) w')) (R (Z (I 0)) w))):=by kernel_rfl
def uP:Mt:={N:=32,keep:=kp 0 [[0,1,2],[0,1,2,7],[0,1,2,7,12],[0,1,2,7],[0,1,2,7,30],[6],[6]],bk:=[(0,[]),(1,[0,1,2,7])],lk:=[(2,[0,1,2,7])]}
def ye:=ak f217
def Y0:=ye.sr.sr
def NL:=ye.sr.sl.sr.sl.sl
def C1 (x:Option Addr) (x1 x2:Nat) (x3 x4 x5:Int):Env:=[vS 0 x x1 x2,vI 1 x3,vI 2 x4,vI 7 x5]
def TU (R:RT):=a7 0 [] (SQ uP Y0 (Rt f217 R) (Rt f217 R))
theorem ajX:UT 217 uP ye f217:=u_ func217 (by kernel_rfl)
theorem t217 (x x1 x2 x3 x4 w R):den prog uP ye (aj 0 [slice x x1 x2,I x3,I x4]) w (Rt f217 R)=
(Cut (WP prog 32 (Code.loop NL) (C1 x x1 x2 x3 x4 (wrap i64 ((↑x1:Int)-1))) w (TU R))):=by kernel_rfl
theorem agG (x x1 x2 x3 x4 x5 w B R):den prog uP NL (C1 x x1 x2 x3 x4 x5) w (bo B (TU R))=
(Fo (decide (x5>0)) ((0<=x5/\x5<(↑x1:Int))/\∃a,x=some a/\∃n,w.cell? (add (add a (Int.toNat x5*3)) 0)=some (I n)/\Fo (decide (n<=x4)) ((0<=x5/\x5<(↑x1:Int))/\∃a,x=some a/\∃n,w.cell? (add (add a (Int.toNat x5*3)) 1)=some (I n)/\Fo (decide (n<=x3)) (R (Z (I x5)) w) (B [vS 0 x x1 x2,vI 1 x3,vI 2 x4,(7,SV.v (I (wrap i64 (x5-1))))] w)) (B [vS 0 x x1 x2,vI 1 x3,vI 2 x4,(7,SV.v (I (wrap i64 (x5-1))))] w)) (R (Z (I 0)) w)):=by kernel_rfl
def Ie:Mt:={N:=6,keep:=kp 0 [[],[0]]}
def NM:=ak f218
theorem ajY:UT 218 Ie NM f218:=u_ func218 (by kernel_rfl)
theorem t218 (w R):den prog Ie NM (aj 0 []) w (Rt f218 R)=
(ay w [I 0,I 0,I 100,I 2,I 10,I 60,I 10,I 50,I 25,I 50,I 400,I 5] 321 fun p w'=>R (Z (slice (some p) 4 4)) w'):=by kernel_rfl
def KN:Mt:={N:=14,keep:=kp 0 [[0,1],[0,1,9],[4,5],[4,5]]}
def QO:=ak f58
theorem u58:UT 58 KN QO f58:=u_ func58 (by kernel_rfl)
theorem t58 (x x1 w R):den prog KN QO (aj 0 [I x,I x1]) w (Rt f58 R)=
(Cj 112 [I x,I x1] w fun b w'=>Fo (!b) (R (Z (tuple #[pointer none,I 2])) w') (ay w' [I x,I x1,I 0,I 0,I 0,I 0,I 0,I 0,I 0,I 0,I 0] 235 fun p w'=>R (Z (tuple #[pointer (some p),I 0])) w')):=by kernel_rfl
def GJ:Mt:={N:=16,keep:=kp 0 [[0,1],[4]]}
def Ma:=ak f112
theorem aiu:UT 112 GJ Ma f112:=u_ func112 (by kernel_rfl)
theorem t112 (x x1 w R):den prog GJ Ma (aj 0 [I x,I x1]) w (Rt f112 R)=
(Fo (decide (x>=1)) (Fo (decide (x1<=100000)) (R (Z (.bool (decide (x<=x1)))) w) (R (Z (.bool false)) w)) (R (Z (.bool false)) w)):=by kernel_rfl
def Ip:Mt:={N:=45,keep:=kp 0 [[0,1,2],[0,1,2,8],[6,7],[0,1,2,11],[6,7],[0],[0],[6,7]],bu:=[(5,(.range 12))],bk:=[(0,[0,1,2])]}
def NW:=ak f228
theorem aj8:UT 228 Ip NW f228:=u_ func228 (by kernel_rfl)
theorem t228 (x x1 x2 w R):den prog Ip NW (aj 0 [pointer x,I x1,I x2]) w (Rt f228 R)=
(Fo x.isNone (R (Z (tuple #[I 0,I 1])) w) (Fz (decide (x1<0)) (Fz (decide (x1>x2)) (Fo (decide (x2>1099511627776)) (R (Z (tuple #[I 0,I 2])) w) (Sm w fun w'=>∃a,x=some a/\Li w' (a.add 10) fun n=>∃a,x=some a/\(0<=n/\n<(↑4:Int))/\Wr w' (add (a.add 2) (Int.toNat n*2)) [I x1,I x2] fun w'=>∃a,x=some a/\Li w' (a.add 10) fun n=>(4:Int)≠0/\∃a,x=some a/\Wr w' (a.add 10) [I (Int.tmod (wrap i64 (n+1)) 4)] fun w'=>Ci 311 [pointer x] w' fun n w'=>R (Z (tuple #[I n,I 0])) w')) (R (Z (tuple #[I 0,I 2])) w)) (R (Z (tuple #[I 0,I 2])) w))):=by kernel_rfl
def I5:Mt:={N:=23,keep:=kp 0 [[0,1,2],[0,1,2,7],[6],[0,1,2,10],[6],[],[6]],bk:=[(0,[0,1,2])]}
def OD:=ak f266
theorem akK:UT 266 I5 OD f266:=u_ func266 (by kernel_rfl)
theorem t266 (x x1 x2 w R):den prog I5 OD (aj 0 [pointer x,I x1,I x2]) w (Rt f266 R)=
(Fo x.isNone (R (Z (I 1)) w) (Cj 112 [I x1,I x2] w fun b w'=>Fo (!b) (R (Z (I 2)) w') (∃a,x=some a/\Wr w' (a.add 0) [I x1] fun w'=>∃a,x=some a/\Wr w' (a.add 1) [I x2] fun w'=>R (Z (I 0)) w'))):=by kernel_rfl
def Ju:Mt:={N:=15,keep:=kp 0 [[0],[0,3,4],[2]]}
def O7:=ak f311
theorem alb:UT 311 Ju O7 f311:=u_ func311 (by kernel_rfl)
theorem t311 (x w R):den prog Ju O7 (aj 0 [pointer x]) w (Rt f311 R)=
(Ct 367 [pointer x] w fun n a w'=>Ci 369 [pointer x] w' fun b w'=>Ci 368 [I n,I a,I b] w' fun n w'=>R (Z (I n)) w'):=by kernel_rfl
def Ka:Mt:={N:=14,keep:=kp 0 [[0],[0,5],[2,3],[2,3]],bu:=[(3,(.range 10))]}
def P2:=ak f367
theorem alV:UT 367 Ka P2 f367:=u_ func367 (by kernel_rfl)
theorem t367 (x w R):den prog Ka P2 (aj 0 [pointer x]) w (Rt f367 R)=
(Fo x.isNone (R (Z (tuple #[I 0,I 0])) w) (Sm w fun w'=>∃a,x=some a/\Li w' (a.add 0) fun n=>∃a,x=some a/\Li w' (a.add 1) fun b=>R (Z (tuple #[I n,I b])) w')):=by kernel_rfl
def qO:Mt:={N:=33,keep:=kp 0 [[0],[0,7],[2],[0,3],[3,11,12],[3,11,12,13],[3,5,11,12],[3,5,11,12],[3,11,12],[3,11,12],[2]],bk:=[(0,[3]),(1,[3,11,12])],cB:=[(10,[3])],lk:=[(5,[3,11,12])]}
def yA:=ak f369
def Cg:=yA.sr.sr.sr.sr
def P4:=yA.sr.sr.sr.sl.sr.sl.sl
def Sh (x:Addr):Env:=[(3,SV.v (pointer (some x)))]
def Dj (x:Addr) (x1 x2 x3 x4 x5 x6 x7 x8 x9:Int):Env:=[(3,SV.v (pointer (some x))),(11,SV.v (agg #[(int i64 x1),(int i64 x2),(int i64 x3),(int i64 x4),(int i64 x5),(int i64 x6),(int i64 x7),(int i64 x8)])),vI 12 x9]
def Ui (R:RT):=Rt f369 R
def Uj (R:RT):=a7 0 [3] (SQ qO Cg (Rt f369 R) (Rt f369 R))
theorem alX:UT 369 qO yA f369:=u_ func369 (by kernel_rfl)
theorem t369 (x w R):den prog qO yA (aj 0 [pointer x]) w (Rt f369 R)=
(Fo x.isNone (R (Z (I 0)) w) (ay w [I 0,I 0] 232 fun p w'=>∃a,x=some a/\Li w' (add (a.add 2) 0) fun n=>Li w' (add (a.add 2) 1) fun b=>Li w' (add (a.add 2) 2) fun c=>Li w' (add (a.add 2) 3) fun d=>Li w' (add (a.add 2) 4) fun e=>Li w' (add (a.add 2) 5) fun f=>Li w' (add (a.add 2) 6) fun g=>Li w' (add (a.add 2) 7) fun h=>Cut (WP prog 33 (Code.loop P4) (Dj p n b c d e f g h 0) w' (Uj R)))):=by kernel_rfl
theorem ag6 (x w R):den prog qO Cg (Sh x) w (Ui R)=
(Li w (x.add 0) fun n=>Li w (x.add 1) fun a=>Ci 395 [I n,I a] w fun n w'=>R (Z (I n)) w'):=by kernel_rfl
theorem ag7 (x x1 x2 x3 x4 x5 x6 x7 x8 x9 w B R):den prog qO P4 (Dj x x1 x2 x3 x4 x5 x6 x7 x8 x9) w (bo B (Uj R))=
(Fo (decide (x9<4)) ((0<=x9/\x9<(↑4:Int))/\∃n a,List.take 2 (List.drop (Int.toNat x9*2) [I x1,I x2,I x3,I x4,I x5,I x6,I x7,I x8])=[I n,I a]/\ay w [I 0,I 0] 232 fun p w'=>Wr w' p [I n,I a] fun w'=>Li w' (x.add 0) fun n=>Li w' (p.add 0) fun b=>Wr w' (x.add 0) [I (wrap i64 (n+b))] fun w'=>Li w' (x.add 1) fun n=>Li w' (p.add 1) fun c=>Wr w' (x.add 1) [I (wrap i64 (n+c))] fun w'=>B [(3,SV.v (pointer (some x))),(11,SV.v (agg #[I x1,I x2,I x3,I x4,I x5,I x6,I x7,I x8])),(12,SV.v (I (wrap i64 (x9+1))))] w') (aA prog qO Cg (Sh x) w (Ui R))):=by kernel_rfl
def KK:Mt:={N:=14,keep:=kp 0 [[0],[0,9],[2,3],[2,3]]}
def QM:=ak f56
theorem u56:UT 56 KK QM f56:=u_ func56 (by kernel_rfl)
theorem t56 (x w R):den prog KK QM (aj 0 [I x]) w (Rt f56 R)=
(Fz (decide (x<1)) (Fo (decide (x>64)) (R (Z (tuple #[pointer none,I 2])) w) (∃p n c w',Sem.run prog (Instr.makeSlice 227 (I x) (I x)) w=Result.ok (slice p n c) w'/\ay w' [slice p n c] 229 fun p w'=>R (Z (tuple #[pointer (some p),I 0])) w')) (R (Z (tuple #[pointer none,I 2])) w)):=by kernel_rfl
def Ir:Mt:={N:=39,keep:=kp 0 [[0,1,2,3,4],[2,3,4,11,12],[2,3,4,11,12,19],[10],[2,3,4,11,23],[10],[10]],bk:=[(0,[2,3,4,11])]}
def NX:=ak f229
theorem aj9:UT 229 Ir NX f229:=u_ func229 (by kernel_rfl)
theorem t229 (x x1 x2 x3 x4 w R):den prog Ir NX (aj 0 [pointer x,I x1,I x2,I x3,I x4]) w (Rt f229 R)=
(Call prog 312 [pointer x,I x1] w fun e w'=>∃p n,e=Z (tuple #[pointer p,I n])/\Fo (n !=0) (R (Z (I n)) w') (Fz (decide (x2<0)) (Fo (decide (x2>=8)) (R (Z (I 3)) w') (∃a,p=some a/\(0<=x2/\x2<(↑8:Int))/\Ci 313 [pointer p,pointer (some (add (a.add 1) (Int.toNat x2*1))),I x3,I x4] w' fun n w'=>R (Z (I n)) w')) (R (Z (I 3)) w'))):=by kernel_rfl
def It:Mt:={N:=27,keep:=kp 0 [[0,1,2,3],[2,3,9,10],[2,3,9,10,18],[8],[8]]}
def NY:=ak f230
theorem aka:UT 230 It NY f230:=u_ func230 (by kernel_rfl)
theorem t230 (x x1 x2 x3 w R):den prog It NY (aj 0 [pointer x,I x1,I x2,I x3]) w (Rt f230 R)=
(Call prog 312 [pointer x,I x1] w fun e w'=>∃p n,e=Z (tuple #[pointer p,I n])/\Fo (n !=0) (R (Z (I n)) w') (∃a,p=some a/\Ci 313 [pointer p,pointer (some (a.add 0)),I x2,I x3] w' fun n w'=>R (Z (I n)) w')):=by kernel_rfl
def Jv:Mt:={N:=27,keep:=kp 0 [[0,1],[0,1,6],[4,5],[0,1,9],[4,5],[4,5]],bk:=[(0,[0,1])]}
def O8:=ak f312
theorem alc:UT 312 Jv O8 f312:=u_ func312 (by kernel_rfl)
theorem t312 (x x1 w R):den prog Jv O8 (aj 0 [pointer x,I x1]) w (Rt f312 R)=
(Fo x.isNone (R (Z (tuple #[pointer none,I 1])) w) (Fz (decide (x1<0)) (∃a,x=some a/\Lq w (a.add 0) fun p n c=>Fo (decide (x1>=(↑n:Int))) (R (Z (tuple #[pointer none,I 3])) w) (∃a,x=some a/\Lq w (a.add 0) fun p n c=>(0<=x1/\x1<(↑n:Int))/\∃a,p=some a/\R (Z (tuple #[pointer (some (add a (Int.toNat x1*10))),I 0])) w)) (R (Z (tuple #[pointer none,I 3])) w))):=by kernel_rfl
def Jw:Mt:={N:=46,keep:=kp 0 [[0,1,2,3],[0,1,2,3,18],[8],[0,1,2,9,10],[0,1,2,9,35],[8],[1,2],[],[8]]}
def O9:=ak f313
theorem ald:UT 313 Jw O9 f313:=u_ func313 (by kernel_rfl)
theorem t313 (x x1 x2 x3 w R):den prog Jw O9 (aj 0 [pointer x,pointer x1,I x2,I x3]) w (Rt f313 R)=
(Cj 370 [I x2] w fun b w'=>Fz (!b) (Cj 370 [I x3] w' fun b w'=>Fo (!b) (R (Z (I 2)) w') (∃a,x=some a/\Li w' (a.add 9) fun n=>Ct 333 [I n,I (wrap i64 (x2*x3))] w' fun n c w'=>Fz (c !=0) (Fo (decide (n>4611686018427387904)) (R (Z (I 16)) w') (∃a,x=some a/\Wr w' (a.add 9) [I n] fun w'=>∃a,x1=some a/\Li w' a fun n=>∃a,x1=some a/\Wr w' a [I (wrap i64 (n+x2))] fun w'=>R (Z (I 0)) w')) (R (Z (I 16)) w'))) (R (Z (I 2)) w')):=by kernel_rfl
def Kd:Mt:={N:=9,keep:=kp 0 [[0],[2]]}
def P7:=ak f370
theorem alY:UT 370 Kd P7 f370:=u_ func370 (by kernel_rfl)
theorem t370 (x w R):den prog Kd P7 (aj 0 [I x]) w (Rt f370 R)=
(Fo (decide (x>=0)) (R (Z (.bool (decide (x<=2147483648)))) w) (R (Z (.bool false)) w)):=by kernel_rfl
def qP:Mt:={N:=135,keep:=kp 0 [[0,1,2],[0,1,2,20],[0,1,2],[0,1,2,24],[0,1,2],[0,1,2,27],[6,7],[0,1,2,8],[0,1,2,8],[0,1,2,8,9],[0,1,2,8,9,10],[1,2,8,9,10,11],[2,8,9,10,11,12],[2,8,9,10,11,12,13],[2,8,9,10,11,13,14],[2,8,9,10,11,13,14,15],[2,8,9,10,11,13,14,15,16],[2,8,9,10,11,13,14,15,16,78],[2,8,9,10,11,13,14,15,16],[2,8,9,10,11,13,14,15,16],[2,8,9,10,11,13,14,15,16,85],[2,8,9,10,14,15,17],[2,8,9,10,14,15,17,18],[2,8,9,10,14,15,16,17,18],[2,8,9,10,14,15,16,17,18,113],[2,8,9,10,14,15,16,17,18],[2,8,9,10,14,15,16,17,18],[2,8,9,10,14,15,16,17,18,120],[6,7]],bu:=[(6,(.range 8))],bk:=[(0,[2,8,9,10,11,13,14,15]),(1,[2,8,9,10,11,13,14,15,16]),(2,[2,8,14,15,17,18]),(3,[2,8,9,10,14,15,16,17,18])],cB:=[(3,[0,1,2]),(5,[0,1,2]),(21,[2,8,9,10,11,13,14,15]),(28,[2,8,14,15,17,18])],lk:=[(17,[2,8,9,10,11,13,14,15,16]),(24,[2,8,9,10,14,15,16,17,18])]}
def sI:=ak f394
def Qr:=sI.sr.sr
def Qs:=sI.sr.sr.sr
def Ze:=sI.sr.sr.sr.sr.sr.sr.sr.sr.sr.sr.sr.sr.sr.sr.sr
def Zf:=sI.sr.sr.sr.sr.sr.sr.sr.sr.sr.sr.sr.sr.sr.sr.sl.sl.sl
def Sj (x x1 x2:Int):Env:=[(0,SV.v (int .u64 x)),(1,SV.v (int .u64 x1)),(2,SV.v (int .u64 x2))]
def Sk (x x1 x2:Int):Env:=[(0,SV.v (int .u64 x)),(1,SV.v (int .u64 x1)),(2,SV.v (int .u64 x2))]
def aap (x x1 x2 x3 x4 x5 x6 x7 x8:Int):Env:=[(2,SV.v (int .u64 x)),(8,SV.v (int .u64 x1)),(9,SV.v (int .u64 x2)),(10,SV.v (int .u64 x3)),(11,SV.v (int .u64 x4)),(13,SV.v (int .u64 x5)),(14,SV.v (int .u64 x6)),(15,SV.v (int .u64 x7)),(16,SV.v (int .u64 x8))]
def Up (R:RT):=Rt f394 R
def Uq (R:RT):=Rt f394 R
def acg (R:RT):=a7 0 [2,8,9,10,11,13,14,15] (SQ qP Ze (Rt f394 R) (Rt f394 R))
theorem amg:UT 394 qP sI f394:=u_ func394 (by kernel_rfl)
theorem t394 (x x1 x2 w R):den prog qP sI (aj 0 [int .u64 x,int .u64 x1,int .u64 x2]) w (Rt f394 R)=
(((x2==0)->∃v,w.cell? {block:=1,off:=0}=some v/\False)/\((x2==0)=false->aA prog qP Qr (Sj x x1 x2) w (Up R))):=by kernel_rfl
theorem ahf (x x1 x2 w R):den prog qP Qr (Sj x x1 x2) w (Up R)=
((decide (x2<=x)->∃v,w.cell? {block:=2,off:=0}=some v/\False)/\(decide (x2<=x)=false->aA prog qP Qs (Sk x x1 x2) w (Uq R))):=by kernel_rfl
theorem ahg (x x1 x2 w R):den prog qP Qs (Sk x x1 x2) w (Uq R)=
(Fo (x==0) (Sm w fun w'=>x2≠0/\x2≠0/\R (Z (tuple #[int .u64 (wrap .u64 (Int.tdiv x1 x2)),int .u64 (Int.tmod x1 x2)])) w') (Ci 405 [int .u64 x2] w fun n w'=>0<=wrap .u64 n/\(0:Int)<=32/\0<=wrap .u64 n/\0<=wrap .u64 (64-wrap .u64 n)/\0<=wrap .u64 n/\(0:Int)<=32/\aC .u64 (dq .u64 x2 (wrap .u64 n)) (32:Int)≠0/\Cut (WP prog 135 (Code.loop Zf) (aap (dq .u64 x2 (wrap .u64 n)) (wrap .u64 n) (aC .u64 (dq .u64 x2 (wrap .u64 n)) 32) (aw BinOp.and .u64 (dq .u64 x2 (wrap .u64 n)) 4294967295) (aw BinOp.or .u64 (dq .u64 x (wrap .u64 n)) (aC .u64 x1 (wrap .u64 (64-wrap .u64 n)))) (aC .u64 (dq .u64 x1 (wrap .u64 n)) 32) (aw BinOp.and .u64 (dq .u64 x1 (wrap .u64 n)) 4294967295) (wrap .u64 (Int.tdiv (aw BinOp.or .u64 (dq .u64 x (wrap .u64 n)) (aC .u64 x1 (wrap .u64 (64-wrap .u64 n)))) (aC .u64 (dq .u64 x2 (wrap .u64 n)) 32))) (wrap .u64 (aw BinOp.or .u64 (dq .u64 x (wrap .u64 n)) (aC .u64 x1 (wrap .u64 (64-wrap .u64 n)))-wrap .u64 (wrap .u64 (Int.tdiv (aw BinOp.or .u64 (dq .u64 x (wrap .u64 n)) (aC .u64 x1 (wrap .u64 (64-wrap .u64 n)))) (aC .u64 (dq .u64 x2 (wrap .u64 n)) 32))*aC .u64 (dq .u64 x2 (wrap .u64 n)) 32)))) w' (acg R)))):=by kernel_rfl
end
end Go.Dav
