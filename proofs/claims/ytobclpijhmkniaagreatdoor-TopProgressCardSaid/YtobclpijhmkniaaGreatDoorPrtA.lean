/- What functions of the program come to, part 1; the texts are made small to keep within a claim. -/
import Derived.Tactics
import Derived.Orders
import Derived.KernelRfl
import Derived.Laws.Cells
import Derived.Laws.CopyRow
import Derived.Laws.Sem
import Derived.Laws.World
import Derived.Laws.NewBlocks
import Derived.Laws.Small
import Derived.Laws.Pointers
import Derived.Scope
import Derived.Laws.Cover3
import Derived.Test.YtobclpijhmkniaaGreatDoorProg
set_option linter.unusedVariables false
set_option linter.unusedSimpArgs false
set_option linter.unusedSectionVars false
namespace Go.Dav
open Go.Proofs
open _root_.Option renaming none→ah,some→aa,isSome_iff_exists→lU,getD_some→ie,map_some→gK
open _root_.Nat renaming beq→dJ,eq_of_beq_eq_true→jn,beq_refl→vy,ble→nr,le_of_ble_eq_true→dP,add_zero→pF,zero_add→eU,testBit_and→xn,le_refl→aX
open _root_.Array renaming getD_eq_getD_getElem?→zN,ext'→pN,getElem?_eq_getElem→CJ,replicate→qz,getElem?_append_left→xt
open _root_.Bool renaming true→ag,false→ae,and_eq_true→aY,false_eq_true→fD,or_eq_true→eT,false_or→ur,not_false→tc
open Sem renaming run_bind→qw,run→aZ
open Result renaming andThen_ok→qx,ok→a7
open _root_.BitVec renaming ofInt→ib
open Builtin renaming len_→k9,append_→bR,copy_→pA,delete_→iJ,max_→xr,min_→qC
open Instr renaming lookup→dr,sureAddr→vx,makeSlice→mE,mapUpdate→ic
open _root_.List renaming length_map→bW,map_cons→np,mem_cons→ez,length_cons→il,foldl_cons→nm,range→bU,all_eq_true→fL,map_congr_left→uq,getD_eq_getElem?_getD→aO,getElem?_cons_zero→xm,mem_append→eG,mem_filter→ij,mem_range→cD,any_eq_true→mF,mem_singleton→gJ,eq_nil_of_length_eq_zero→lM,getElem?_eq_some_iff→dQ,mem_cons_self→i6,nodup_cons→mG,filter_congr→pB,filter_cons→xo,length→gu,nodup_range→rS,take→rT,drop→rU,toArray→dK
open Op renaming operands→cw
open Code renaming loop→bh
open _root_.Prod renaming fst→fv
open BinOp renaming and→aN,andNot→uk,or→s6
open _root_.Int renaming toNat→aG,tdiv→jq,tmod→eH
open IntKind renaming u8→cz,max→pG
open Fn renaming func→aQ
theorem af {c:Prop} {h:Decidable c} (a:¬c) {α:Sort _} {t e:α}:ite c t e=e:=if_neg a
theorem aj {c:Prop} {h:Decidable c} (a:c) {α:Sort _} {t e:α}:ite c t e=t:=if_pos a
theorem aL {p:Prop} [h:Decidable p] (k:decide p=true):p:=of_decide_eq_true k
theorem aT {p:Prop} [h:Decidable p] (k:decide p=false):¬p:=of_decide_eq_false k
inductive SV where
 | un
 | v (x:Value)
 | b (x:Bool)
def SV.val?:SV->Option Value
 | .un=>ah
 | .v x=>aa x
 | .b x=>aa (.bool x)
def SV.val:SV->Value
 | .un=>undef
 | .v x=>x
 | .b x=>.bool x
abbrev Env:=List (Nat×SV)
def Env.get:Env->Nat->SV
 | [],_=>.un
 | (k,x)::E,t=>match dJ k t with
  | true=>x
  | false=>Env.get E t
def Env.put:Env->Nat->SV->Env
 | [],t,x=>[(t,x)]
 | (k,y)::E,t,x=>match dJ k t with
  | true=>(k,x)::E
  | false=>(k,y)::Env.put E t x
def Env.keep (E:Env):List Nat->Env
 | []=>[]
 | k::a=>(k,E.get k)::Env.keep E a
theorem Env.DP (E:Env) (t:Nat) (x:SV) (s:Nat):(E.put t x).get s=if s=t then x else E.get s:=by
 induction E with
 | nil=>
  simp only[Env.put,Env.get]
  cases h:dJ t s with
  | true=>simp[(jn h).symm]
  | false=>rw[af (λe=>by rw[e,vy]at h;cases h)]
 | cons p E c=>
  obtain⟨k,y⟩:=p;simp only[Env.put]
  cases h:dJ k t with
  | true=>
   have b:=jn h;subst b;simp only[Env.get]
   cases a:dJ k s with
   | true=>simp[(jn a).symm]
   | false=>rw[af (λe=>by rw[e,vy]at a;cases a)]
  | false=>
   simp only[Env.get]
   cases a:dJ k s with
   | true=>
    have b:=jn a;subst b
    rw[af (λe=>by rw[e,vy]at h;cases h)]
   | false=>simpa using c
theorem Env.Y5 (E:Env) (ks:List Nat) (t:Nat) (x:Value) (h:((E.keep ks).get t).val?=aa x):(E.get t).val?=aa x:=by
 induction ks with
 | nil=>simp[Env.keep,Env.get,SV.val?]at h
 | cons k ks b=>
  simp only[Env.keep,Env.get]at h
  cases a:dJ k t with
  | true=>rw[a]at h;rw[<-jn a];exact h
  | false=>rw[a]at h;exact b h
def b7 (E:Env):Operand->SV
 | .tmp t=>E.get t
 | .const (.bool b)=>.b b
 | .const v=>.v v
 | .global g=>.v (.pointer (aa ⟨g,0,ah⟩))
 | .func f=>.v (.func (.func f) #[] #[])
structure bV (N:Nat) (E:Env) (a:Act):Prop where
 size:a.tmps.size=N
 jX:a.defers=[]
 mZ:∀t x,(E.get t).val?=aa x->a.tmps[t]?=aa x
def Reads (E:Env) (o:Oper) (a:Act):Prop:=∀x∈o.op.operands,∀v,(b7 E x).val?=aa v->a.eval x=v
theorem bV.ev {N:Nat} {E:Env} {a:Act} (h:bV N E a) (x:Operand) (v:Value) (b:(b7 E x).val?=aa v):a.eval x=v:=by
 cases x with
 | tmp t=>
  have:=h.mZ t v b
  simp[Act.eval,zN,this]
 | const c=>cases c<;>simp_all [b7,SV.val?,Act.eval]
 | global g=>simpa [b7,SV.val?,Act.eval]using b
 | func f=>simpa [b7,SV.val?,Act.eval]using b
theorem bV.reads {N:Nat} {E:Env} {a:Act} (h:bV N E a) (o:Oper):Reads E o a:=λx _ v b=>h.ev x v b
theorem bV.keep {N:Nat} {E:Env} {a:Act} (h:bV N E a) (ks:List Nat):bV N (E.keep ks) a:=
 ⟨h.size,h.jX,λt x b=>h.mZ t x (Env.Y5 E ks t x b)⟩
theorem bV.put {N:Nat} {E:Env} {a:Act} (h:bV N E a) (d:Nat) (hd:d<N) (s:SV):bV N (E.put d s) (a.put (aa d) s.val):=by
 refine⟨by simpa [Act.put]using h.size,h.jX,λt x b=>?_⟩;rw[Env.DP]at b;by_cases c:t=d
 ·subst c;rw[aj rfl]at b;have f:s.val=x:=by cases s<;>simp_all [SV.val?,SV.val]
  simp only[Act.put,Array.getElem?_setIfInBounds,h.size];simp[hd,f]
 ·rw[af c]at b;simp only[Act.put];rw[Array.getElem?_setIfInBounds_ne (λe=>c e.symm)];exact h.mZ t x b
theorem bV.TO {N:Nat} {E:Env} {a:Act} (h:bV N E a) (t:Nat) (b:Bool) (d:(E.get t).val?=aa (.bool b)):bV N (E.put t (.b b)) a:=by
 refine⟨h.size,h.jX,λs x c=>?_⟩;rw[Env.DP]at c;by_cases hs:s=t
 ·subst hs;rw[aj rfl]at c;simp only[SV.val?,Option.some.injEq]at c;subst c;exact h.mZ s _ d
 ·rw[af hs]at c;exact h.mZ s x c
def dj (s:SV) (F:Value->Prop):Prop:=match s with
 | .un=>False
 | .v x=>F x
 | .b x=>F (.bool x)
def tQ (x:Value) (F:Addr->Prop):Prop:=match x with
 | .pointer (aa a)=>F a
 | _=>False
def wA (x:Value) (F:IntKind->Int->Prop):Prop:=match x with
 | .int k n=>F k n
 | _=>False
theorem du {s:SV} {F:Value->Prop} (h:dj s F):∃v,s.val?=aa v/\s.val=v/\F v:=by
 cases s with
 | un=>exact h.elim
 | v x=>exact⟨x,rfl,rfl,h⟩
 | b x=>exact⟨_,rfl,rfl,h⟩
inductive Ty where
 | int (k:IntKind)
 | bool|ptr|sl|map|str
 | agg (l:List Ty)
 | Uv (l:List Ty)
 | any
def zr:Value->Ty
 | .int k _=>.int k
 | .bool _=>.bool
 | .pointer _=>.ptr
 | .slice _ _ _=>.sl
 | .map _=>.map
 | .string _=>.str
 | _=>.any
def UA:Value->Ty
 | .agg cs=>.agg (cs.toList.map zr)
 | v=>zr v
def ag3:Value->Ty
 | .tuple vs=>.Uv (vs.toList.map UA)
 | v=>UA v
def vV:Ty->(Value->Prop)->Prop
 | .int k,F=>∃n:Int,F (.int k n)
 | .bool,F=>∃b:Bool,F (.bool b)
 | .ptr,F=>∃p:Option Addr,F (.pointer p)
 | .sl,F=>∃(p:Option Addr) (n c:Nat),F (.slice p n c)
 | .map,F=>∃r:Option Nat,F (.map r)
 | .str,F=>∃s:ByteArray,F (.string s)
 | _,F=>∃v:Value,F v
def DI:List Ty->(List Value->Prop)->Prop
 | [],F=>F []
 | t::a,F=>vV t λv=>DI a λvs=>F (v::vs)
def DH:Ty->(Value->Prop)->Prop
 | .agg a,F=>match nr a.length 15 with
  | true=>DI a λvs=>F (.agg vs.toArray)
  | false=>∃cs:List Value,cs.length=a.length/\F (.agg cs.toArray)
 | t,F=>vV t F
def Ik:List Ty->(List Value->Prop)->Prop
 | [],F=>F []
 | t::a,F=>DH t λv=>Ik a λvs=>F (v::vs)
def yf:Ty->(Value->Prop)->Prop
 | .Uv a,F=>Ik a λvs=>F (.tuple vs.toArray)
 | t,F=>DH t F
theorem AB {t:Ty} {F:Value->Prop} (h:vV t F):∃v,F v:=by
 cases t<;>simp only[vV]at h
 case sl=>obtain⟨p,n,c,h⟩:=h;exact⟨_,h⟩
 all_goals (obtain⟨n,h⟩:=h;exact⟨_,h⟩)
theorem Il:∀{a:List Ty} {F:List Value->Prop},DI a F->∃vs,vs.length=a.length/\F vs
 | [],_,h=>⟨[],rfl,h⟩
 | _::_,_,h=>by
  obtain⟨v,h⟩:=AB h;obtain⟨vs,b,h⟩:=Il h;exact⟨v::vs,by simp[b],h⟩
theorem Pf {t:Ty} {F:Value->Prop} (h:DH t F):∃v,F v:=by
 unfold DH at h;split at h
 ·split at h
  ·obtain⟨vs,_,h⟩:=Il h;exact⟨_,h⟩
  ·obtain⟨cs,_,h⟩:=h;exact⟨_,h⟩
 ·exact AB h
theorem Pg:∀{a:List Ty} {F:List Value->Prop},Ik a F->∃vs,F vs
 | [],_,h=>⟨[],h⟩
 | _::_,_,h=>by
  obtain⟨v,h⟩:=Pf h;obtain⟨vs,h⟩:=Pg h;exact⟨v::vs,h⟩
theorem tD {t:Ty} {F:Value->Prop} (h:yf t F):∃v,F v:=by
 unfold yf at h;split at h
 ·obtain⟨vs,h⟩:=Pg h;exact⟨_,h⟩
 ·exact Pf h
def zv (P:Program) (t:TypeId):Value:=((P.info? t).bind (·.zero)).getD undef
def zc (P:Program) (t:TypeId):List Value:=(zv P t).cells.toList
def ua (P:Program) (t:TypeId):Ty:=ag3 (zv P t)
def cg (P:Program) (t:TypeId):Nat:=P.cellsOf t
def kY (P:Program) (t:TypeId):Bool:=match P.underlying t with
 | some (.struct _)|some (.array _ _)=>ag
 | _=>ae
def dU (P:Program) (t:TypeId):Bool:=(P.info? t).isSome&&(P.underlying t).isSome
def wz (P:Program) (t:TypeId):Bool:=((P.info? t).bind (·.zero)).isSome
section runs
variable {P:Program} {w:World}
theorem fR {t:TypeId} {d:TypeDesc} (h:P.underlying t=aa d):(underlying t).run P w=.ok d w:=by
 simp[underlying,h]
theorem nO {t:TypeId} (h:dU P t=ag):(sizeOf t).run P w=.ok (cg P t) w:=by
 simp only[dU,aY]at h;obtain⟨i,hi⟩:=lU.1 h.1;simp[sizeOf,typeInfo,hi,cg,Program.cellsOf]
theorem y9 {t:TypeId} (h:dU P t=ag):(isAgg t).run P w=.ok (kY P t) w:=by
 simp only[dU,aY]at h;obtain⟨d,hd⟩:=lU.1 h.2;simp only[isAgg,kY,hd,qw,fR hd,qx];cases d<;>rfl
theorem wF {t:TypeId} (h:wz P t=ag):(zeroValue t).run P w=.ok (zv P t) w:=by
 simp only[wz]at h;obtain⟨z,b⟩:=lU.1 h;obtain⟨i,hi,a⟩:=Option.bind_eq_some_iff.1 b;simp[zeroValue,typeInfo,hi,a,zv]
end runs
def A4 (s:SV) (K:SV->Prop):Prop:=match s with
 | .un=>False
 | .v x=>K (.v x)
 | .b x=>K (.b x)
def JE (c x y:SV) (K:SV->Prop):Prop:=match c with
 | .b ag=>A4 x K
 | .b ae=>A4 y K
 | .v (.bool c)=>dj x λx=>dj y λy=>K (.v (match c with|true=>x|false=>y))
 | _=>False
def SI (x:Value) (K:SV->Prop):Prop:=match x with
 | .pointer p=>∃a,p=aa a/\K (.v (.pointer (aa a)))
 | .func (.func f) a b=>K (.v (.func (.func f) a b))
 | _=>False
def aH (op:BinOp) (k:IntKind) (a b:Int):Int:=
 let x:=ib k.bits a
 let y:=ib k.bits b
 match op with
 | .and=>k.wrap (x&&& y).toNat
 | .or=>k.wrap (x||| y).toNat
 | .xor=>k.wrap (x ^^^ y).toNat
 | _=>k.wrap (x&&& ~~~y).toNat
def fB (k:IntKind) (a b:Int):Int:=k.wrap (a*2 ^ (min b.toNat k.bits))
def aS (k:IntKind) (a b:Int):Int:=a.fdiv (2 ^ (min b.toNat k.bits))
def IQ (op:BinOp) (k k':IntKind) (a b:Int) (K:SV->Prop):Prop:=
 match op with
 | .shl=>0<=b/\K (.v (.int k (fB k a b)))
 | .shr=>0<=b/\K (.v (.int k (aS k a b)))
 | op=>match decide (k=k')with
  | false=>False
  | true=>match op with
   | .add=>K (.v (.int k (k.wrap (a+b))))
   | .sub=>K (.v (.int k (k.wrap (a-b))))
   | .mul=>K (.v (.int k (k.wrap (a*b))))
   | .quo=>b≠0/\K (.v (.int k (k.wrap (a.tdiv b))))
   | .rem=>b≠0/\K (.v (.int k (a.tmod b)))
   | .and=>K (.v (.int k (aH .and k a b)))
   | .or=>K (.v (.int k (aH .or k a b)))
   | .xor=>K (.v (.int k (aH .xor k a b)))
   | .andNot=>K (.v (.int k (aH .andNot k a b)))
   | .eql=>K (.v (.bool (a==b)))
   | .neq=>K (.v (.bool (a !=b)))
   | .lss=>K (.v (.bool (decide (a<b))))
   | .leq=>K (.v (.bool (decide (a<=b))))
   | .gtr=>K (.v (.bool (decide (a>b))))
   | .geq=>K (.v (.bool (decide (a>=b))))
   | _=>False
def vU (op:BinOp) (b:Bool) (K:SV->Prop):Prop:=match op with
 | .eql=>K (.v (.bool b))
 | .neq=>K (.v (.bool (!b)))
 | _=>False
def Gz (P:Program) (w:World) (op:BinOp) (t:TypeId) (x y:Value) (K:SV->Prop):Prop:=
 match x with
 | .int k a=>match y with
  | .int k' b=>IQ op k k' a b K
  | _=>False
 | .bool a=>match y with
  | .bool b=>match P.underlying t with
   | some .bool=>vU op (a==b) K
   | _=>False
  | _=>False
 | .pointer p=>match y with
  | .pointer ah=>match P.underlying t with
   | some (.pointer _)=>vU op p.isNone K
   | _=>False
  | _=>False
 | .slice p _ _=>match y with
  | .slice ah 0 0=>match P.underlying t with
   | some (.slice _)=>vU op p.isNone K
   | _=>False
  | _=>False
 | .map r=>match y with
  | .map ah=>match P.underlying t with
   | some (.map _ _)=>vU op r.isNone K
   | _=>False
  | _=>False
 | .agg xs=>match y with
  | .agg c=>match kY P t with
   | true=>∃b:Bool,(Op.equal t (.agg xs) (.agg c)).run P w=.ok b w/\P.eqGuardType P.depth t=ae/\vU op b K
   | false=>False
  | _=>False
 | _=>False
def UI (op:UnOp) (s:SV) (K:SV->Prop):Prop:=match op with
 | .not=>match s with
  | .b x=>K (.b (!x))
  | .v (.bool x)=>K (.v (.bool (!x)))
  | _=>False
 | .neg=>dj s λv=>wA v λk n=>K (.v (.int k (k.wrap (0-n))))
 | .xor=>dj s λv=>wA v λk n=>K (.v (.int k (aH .xor k (match k.signed with|true=>-1|false=>k.max) n)))
 | _=>False
def Ou (P:Program) (src dst:TypeId) (x:Value) (K:SV->Prop):Prop:=
 match P.underlying src,P.underlying dst with
 | some _,aa (.int k)=>wA x λ_ n=>K (.v (.int k (k.wrap n)))
 | _,_=>False
def Ja (w:World) (ad:Addr):Nat->List Ty->(List Value->Prop)->Prop
 | _,[],F=>F []
 | i,t::a,F=>vV t λv=>w.cell? (ad.add i)=aa v/\Ja w ad (i+1) a λvs=>F (v::vs)
def K9 (w:World) (ad:Addr) (cs:List Value):Prop:=∀j v,cs[j]?=aa v->w.cell? (ad.add j)=aa v
def Ee (P:Program) (w:World) (t:TypeId) (ad:Addr) (F:Value->Prop):Prop:=
 match dU P t with
 | false=>False
 | true=>match kY P t with
  | false=>vV (zr (zv P t)) λv=>w.cell? ad=aa v/\F v
  | true=>match dJ (zc P t).length (cg P t)with
   | false=>False
   | true=>match nr (cg P t) 15 with
    | true=>Ja w ad 0 ((zc P t).map zr) λvs=>F (.agg vs.toArray)
    | false=>∃cs:List Value,cs.length=cg P t/\K9 w ad cs/\F (.agg cs.toArray)
def Io (P:Program) (s:TypeId) (ad:Addr) (f:Nat) (K:SV->Prop):Prop:=
 match P.underlying s with
 | some (.struct a)=>match a.toList[f]? with
  | some fd=>match dU P fd.type with
   | true=>match dJ (cg P fd.type) 0 with
    | false=>K (.v (.pointer (aa (ad.add fd.offset))))
    | true=>False
   | false=>False
  | none=>False
 | _=>False
def JC (P:Program) (t:TypeId) (cs:List Value) (off:Nat) (F:Value->Prop):Prop:=
 match dU P t with
 | false=>False
 | true=>match kY P t with
  | true=>F (.agg ((cs.drop off).take (cg P t)).toArray)
  | false=>match cs[off]? with
   | some v=>F v
   | none=>False
def Is (P:Program) (s:TypeId) (x:Value) (f:Nat) (K:SV->Prop):Prop:=
 match P.underlying s with
 | some (.struct a)=>match a.toList[f]? with
  | some fd=>match x with
   | .agg cs=>JC P fd.type cs.toList fd.offset λv=>K (.v v)
   | _=>False
  | none=>False
 | _=>False
def IJ (P:Program) (t:TypeId) (x ix:Value) (K:SV->Prop):Prop:=
 wA ix λ_ i=>match P.underlying t with
 | some (.slice e)=>match dU P e with
  | false=>False
  | true=>match x with
   | .slice base len _=>(0<=i/\i<(len:Int))/\∃a,base=aa a/\K (.v (.pointer (aa (a.add (i.toNat*cg P e)))))
   | _=>False
 | some (.array len e)=>match dU P e with
  | false=>False
  | true=>tQ x λa=>(0<=i/\i<(len:Int))/\K (.v (.pointer (aa (a.add (i.toNat*cg P e)))))
 | _=>False
def IU (P:Program) (t:TypeId) (x ix:Value) (K:SV->Prop):Prop:=
 wA ix λ_ i=>match P.underlying t with
 | some (.array len e)=>match dU P e with
  | false=>False
  | true=>match x with
   | .agg cs=>(0<=i/\i<(len:Int))/\match kY P e with
    | false=>vV (zr (zv P e)) λv=>cs.toList[i.toNat*cg P e]?=aa v/\K (.v v)
    | true=>DI ((zc P e).map zr) λvs=>(cs.toList.drop (i.toNat*cg P e)).take (cg P e)=vs/\K (.v (.agg vs.toArray))
   | _=>False
 | some .string=>match x with
  | .string s=>(0<=i/\i<(s.size:Int))/\∃c:Int,(∃u:UInt8,s[i.toNat]?=aa u/\(u.toNat:Int)=c)/\K (.v (.int .u8 c))
  | _=>False
 | _=>False
def Im (x:Value) (i:Nat) (K:SV->Prop):Prop:=match x with
 | .tuple vs=>match vs.toList[i]? with
  | some v=>K (.v v)
  | none=>False
 | _=>False
def Jg (P:Program) (w:World) (t:TypeId) (x:Value) (K:SV->Prop):Prop:=
 match P.underlying t with
 | some (.slice _)=>match x with
  | .slice _ n _=>K (.v (.int .i64 (n:Int)))
  | _=>False
 | some .string=>match x with
  | .string s=>K (.v (.int .i64 (s.size:Int)))
  | _=>False
 | some (.array n _)=>K (.v (.int .i64 (n:Int)))
 | some (.map _ _)=>match x with
  | .map r=>∃n:Nat,(∀ty,(k9 #[t] ty #[.map r]).run P w=.ok (.int .i64 (n:Int)) w)/\K (.v (.int .i64 (n:Int)))
  | _=>False
 | _=>False
def qF (E:Env):List Operand->(List Value->Prop)->Prop
 | [],F=>F []
 | x::xs,F=>dj (b7 E x) λv=>qF E xs λvs=>F (v::vs)
def EF (E:Env):List (Nat×Operand)->(List (Nat×Value)->Prop)->Prop
 | [],F=>F []
 | (i,x)::xs,F=>dj (b7 E x) λv=>EF E xs λvs=>F ((i,v)::vs)
def bc (cells:List Value) (off:Nat) (vs:List Value):List Value:=cells.take off++vs++cells.drop (off+vs.length)
def vW (place:Nat->Option (Nat×Nat)) (cells:List Value):List (Nat×Value)->Option (List Value)
 | []=>aa cells
 | (i,v)::rest=>match place i with
  | none=>ah
  | some (off,size)=>match dJ v.cells.toList.length size&&nr (off+size) cells.length with
   | true=>vW place (bc cells off v.cells.toList) rest
   | false=>ah
def Gy (P:Program) (t:TypeId) (a:List (Nat×Value)) (K:SV->Prop):Prop:=
 match wz P t with
 | false=>False
 | true=>match P.underlying t with
  | some (.struct b)=>match b.toList.all λf=>dU P f.type with
   | false=>False
   | true=>match vW (λi=>(b.toList[i]?).map λf=>(f.offset,cg P f.type)) (zc P t) a with
    | some cs=>K (.v (.agg cs.toArray))
    | none=>False
  | some (.array _ e)=>match dU P e with
   | false=>False
   | true=>match vW (λi=>aa (i*cg P e,cg P e)) (zc P t) a with
    | some cs=>K (.v (.agg cs.toArray))
    | none=>False
  | _=>False
def nw (E:Env) (x:Option Operand) (a:Nat) (top:Nat) (F:Nat->Prop):Prop:=match x with
 | none=>F a
 | some o=>dj (b7 E o) λv=>wA v λ_ i=>(0<=i/\i<=(top:Int))/\F i.toNat
def gl (a:Option Addr) (m l sz:Nat):Option Addr:=if m=l then a else a.map (·.add (l*sz))
def Kd (P:Program) (E:Env) (t:TypeId) (x:Value) (c hi b:Option Operand) (K:SV->Prop):Prop:=
 match P.underlying t with
 | some (.slice e)=>match dU P e with
  | false=>False
  | true=>match x with
   | .slice a len cap=>match b,hi with
    | some _,ah=>False
    | _,_=>nw E b cap cap λm=>nw E hi len m λh=>nw E c 0 h λl=>K (.v (.slice (gl a m l (cg P e)) (h-l) (m-l)))
   | _=>False
 | some (.array n e)=>match dU P e with
  | false=>False
  | true=>tQ x λa=>match b,hi with
    | some _,ah=>False
    | _,_=>nw E b n n λm=>nw E hi n m λh=>nw E c 0 h λl=>K (.v (.slice (gl (aa a) m l (cg P e)) (h-l) (m-l)))
 | _=>False
def EC (P:Program) (o:Oper) (E:Env) (w:World) (K:SV->Prop):Prop:=
 match o.op with
 | .move x=>A4 (b7 E x) K
 | .assign x=>A4 (b7 E x) K
 | .pick c x y=>JE (b7 E c) (b7 E x) (b7 E y) K
 | .nilCheck x=>dj (b7 E x) λv=>SI v K
 | .binOp op t x y _=>dj (b7 E x) λx=>dj (b7 E y) λy=>Gz P w op t x y K
 | .unOp op _ x=>UI op (b7 E x) K
 | .convert s d x=>dj (b7 E x) λv=>Ou P s d v K
 | .load t a=>dj (b7 E a) λv=>tQ v λad=>Ee P w t ad λv=>K (.v v)
 | .fieldAddr s x f=>dj (b7 E x) λv=>tQ v λad=>Io P s ad f K
 | .field s x f=>dj (b7 E x) λv=>Is P s v f K
 | .indexAddr t x i=>dj (b7 E x) λx=>dj (b7 E i) λi=>IJ P t x i K
 | .index t x i=>dj (b7 E x) λx=>dj (b7 E i) λi=>IU P t x i K
 | .extract x i=>dj (b7 E x) λx=>Im x i K
 | .build t b=>EF E b.toList λb=>Gy P t b K
 | .slice t x e hi g=>dj (b7 E x) λx=>Kd P E t x e hi g K
 | .makeFunc fn first cap=>qF E first.toList λh=>qF E cap.toList λcs=>K (.v (.func fn h.toArray cs.toArray))
 | .lookup t x i ok=>dj (b7 E x) λx=>dj (b7 E i) λi=>yf (ua P o.type) λv=>(dr t x i ok).run P w=.ok v w/\K (.v v)
 | .call c=>match c.callee with
  | .builtin .len=>match c.args.toList with
   | [x]=>match c.argTypes.toList with
    | [t]=>dj (b7 E x) λx=>Jg P w t x K
    | _=>False
   | _=>False
  | _=>False
 | _=>False
def Quiet (P:Program) (o:Oper) (E:Env) (w:World) (s:SV):Prop:=
 ∀a,Reads E o a->(execOp a.eval o).run P w=.ok (.value s.val) w
theorem yI {x:Value} {F:IntKind->Int->Prop} (h:wA x F):∃k n,x=.int k n/\F k n:=by
 cases x<;>first|exact⟨_,_,rfl,h⟩|exact h.elim
theorem uW {x:Value} {F:Addr->Prop} (h:tQ x F):∃a,x=.pointer (aa a)/\F a:=by
 cases x with
 | pointer p=>cases p with
  | some a=>exact⟨a,rfl,h⟩
  | none=>exact h.elim
 | _=>exact h.elim
theorem Es {s:SV} {K:SV->Prop} (h:A4 s K):∃v,s.val?=aa v/\s.val=v/\K s:=by
 cases s with
 | un=>exact h.elim
 | v x=>exact⟨x,rfl,rfl,h⟩
 | b x=>exact⟨_,rfl,rfl,h⟩
theorem RN {w:World} {ad:Addr}:∀{a:List Ty} {i:Nat} {F:List Value->Prop},Ja w ad i a F->
  ∃vs:List Value,vs.length=a.length/\(∀j v,vs[j]?=aa v->w.cell? (ad.add (i+j))=aa v)/\F vs
 | [],_,_,h=>⟨[],rfl,λj v d=>by simp at d,h⟩
 | t::a,i,F,h=>by
  obtain⟨v,e,h⟩:=AB h;obtain⟨vs,f,b,h⟩:=RN h;refine⟨v::vs,by simp[f],λj u c=>?_,h⟩
  cases j with
  | zero=>simp at c;subst c;exact e
  | succ j=>rw[show i+(j+1)=i+1+j by omega];exact b j u (by simpa using c)
theorem RP {P:Program} {w:World} {t:TypeId} {ad:Addr} {F:Value->Prop} (h:Ee P w t ad F) :
  ∃v,(loadVar t ad).run P w=.ok v w/\F v:=by
 unfold Ee at h
 cases b:dU P t with
 | false=>rw[b]at h;exact h.elim
 | true=>
  rw[b]at h;simp only at h
  cases e:kY P t with
  | false=>
   rw[e]at h;obtain⟨v,a,c⟩:=AB h
   exact⟨v,by simp[loadVar,y9 b,e,a],c⟩
  | true=>
   rw[e]at h;simp only at h
   have key:∀cs:List Value,cs.length=cg P t->(∀j v,cs[j]?=aa v->w.cell? (ad.add j)=aa v)->(loadVar t ad).run P w=.ok (.agg cs.toArray) w:=by
    intro cs d a;have:=run_loadCells_list (P:=P) w ad cs a;simp[loadVar,y9 b,e,nO b,<-d,this]
   cases f:dJ (zc P t).length (cg P t)with
   | false=>rw[f]at h;exact h.elim
   | true=>
    rw[f]at h;simp only at h
    cases g:nr (cg P t) 15 with
    | true=>
     rw[g]at h;obtain⟨vs,d,a,c⟩:=RN h;refine⟨_,key vs ?_ (λj v i=>by simpa using a j v i),c⟩;rw[d,bW]
     exact jn f
    | false=>
     rw[g]at h;obtain⟨cs,d,a,c⟩:=h;exact⟨_,key cs d a,c⟩
section
variable {P:Program} {w:World}
theorem TH {t:TypeId} {cs:Array Value} {off:Nat} (a:dU P t=ag) (b:kY P t=ag) :
  (part t cs off).run P w=.ok (.agg ((cs.toList.drop off).take (cg P t)).toArray) w:=by
 have e:cs.extract off (off+cg P t)=((cs.toList.drop off).take (cg P t)).toArray:=by
  apply pN;simp[Array.toList_extract,List.extract_eq_take_drop]
 simp[part,y9 a,b,nO a,e]
theorem E9 {t:TypeId} {cs:Array Value} {off:Nat} {v:Value} (b:dU P t=ag) (c:kY P t=ae) (d:cs.toList[off]?=aa v) :
  (part t cs off).run P w=.ok v w:=by
 have a:cs[off]?=aa v:=by simpa using d
 simp[part,y9 b,c,a]
theorem acr {t:TypeId} {cs:Array Value} {off:Nat} {F:Value->Prop} (h:JC P t cs.toList off F) :
  ∃v,(∀w,(part t cs off).run P w=.ok v w)/\F v:=by
 unfold JC at h
 cases a:dU P t with
 | false=>rw[a]at h;exact h.elim
 | true=>
  rw[a]at h;simp only at h
  cases b:kY P t with
  | true=>rw[b]at h;exact⟨_,λ_=>TH a b,h⟩
  | false=>
   rw[b]at h;simp only at h
   cases c:cs.toList[off]? with
   | none=>rw[c]at h;exact h.elim
   | some v=>rw[c]at h;exact⟨v,λ_=>E9 a b c,h⟩
theorem ZP {t:TypeId} {op:BinOp} {k k':IntKind} {a b:Int} {K:SV->Prop} (h:IQ op k k' a b K) :
  ∃v,(∀w,(binOp op t (.int k a) (.int k' b)).run P w=.ok v w)/\K (.v v):=by
 unfold IQ at h;split at h
 ·obtain⟨c,h⟩:=h;exact⟨_,λw=>by simp[binOp,Op.shift,fB,show ¬b<0 by omega],h⟩
 ·obtain⟨c,h⟩:=h;exact⟨_,λw=>by simp[binOp,Op.shift,aS,show ¬b<0 by omega],h⟩
 ·rename_i d h1 e;by_cases hk:k=k'
  ·subst hk;simp only[decide_true]at h;split at h
   case h_4=>obtain⟨c,h⟩:=h;exact⟨_,λw=>by simp[binOp,Op.intDiv,c],h⟩
   case h_5=>obtain⟨c,h⟩:=h;exact⟨_,λw=>by simp[binOp,Op.intDiv,c],h⟩
   case h_16=>exact h.elim
   all_goals exact⟨_,λw=>by simp[binOp,Op.intArith,Op.intBits,Op.intCmp,aH],h⟩
  ·simp[hk]at h
theorem AA {op:BinOp} {b:Bool} {K:SV->Prop} (h:vU op b K):(op=.eql/\K (.v (.bool b)))∨(op=.neq/\K (.v (.bool (!b)))):=by
 unfold vU at h;split at h
 ·exact .inl ⟨rfl,h⟩
 ·exact .inr ⟨rfl,h⟩
 ·exact h.elim
theorem tU {op:BinOp} {t:TypeId} {x y:Operand} {a b:Value} (h:∀xs c,¬(a=.agg xs/\b=.agg c)) (d:a≠.nilIface) :
  (eqGuard op t x y a b).run P w=.ok () w:=by
 unfold eqGuard
 cases op<;>first
  | rfl
  | (cases a<;>first
    | rfl
    | exact absurd rfl d
    | (cases b<;>first
      | exact absurd ⟨rfl,rfl⟩ (h _ _)
      | rfl))
def zz (P:Program) (op:BinOp) (t:TypeId) (ox oy:Operand) (x y v:Value) (w:World):Prop:=
 (eqGuard op t ox oy x y).run P w=.ok () w/\(binOp op t x y).run P w=.ok v w
theorem VW {op:BinOp} {t:TypeId} {x y:Value} {ox oy:Operand} {K:SV->Prop} (h:Gz P w op t x y K) :
  ∃v,zz P op t ox oy x y v w/\(kY P t=ae->∀w',zz P op t ox oy x y v w')/\K (.v v):=by
 have both:∀{v:Value},(∀w',zz P op t ox oy x y v w')->K (.v v)->∃v,zz P op t ox oy x y v w/\(kY P t=ae->∀w',zz P op t ox oy x y v w')/\K (.v v):=
  λj m=>⟨_,j w,λ_=>j,m⟩
 unfold Gz at h
 cases x with
 | int k a=>cases y with
  | int k' b=>
   obtain⟨v,s,u⟩:=ZP (P:=P) (t:=t) h
   exact both (λw'=>⟨tU (by simp) (by simp),s w'⟩) u
  | _=>exact h.elim
 | bool a=>cases y with
  | bool b=>
   simp only at h;split at h
   ·rename_i hu;rcases AA h with⟨rfl,h⟩|⟨rfl,h⟩
    ·exact both (λw'=>⟨tU (by simp) (by simp),run_eql_bool w' t _ _ hu⟩) h
    ·exact both (λw'=>⟨tU (by simp) (by simp),run_neq_bool w' t _ _ hu⟩) h
   ·exact h.elim
  | _=>exact h.elim
 | pointer p=>cases y with
  | pointer q=>cases q with
   | none=>
    simp only at h;split at h
    ·rename_i e hu;have d:P.underlying t=aa (.pointer (P.pointee t)):=by simp[Program.pointee,hu]
     rcases AA h with⟨rfl,h⟩|⟨rfl,h⟩
     ·exact both (λw'=>⟨tU (by simp) (by simp),run_eql_pointer_nil w' t _ d⟩) h
     ·exact both (λw'=>⟨tU (by simp) (by simp),run_neq_pointer_nil w' t _ d⟩) h
    ·exact h.elim
   | some q=>exact h.elim
  | _=>exact h.elim
 | slice p n c=>
  simp only at h;split at h
  ·split at h
   ·rename_i e hu;rcases AA h with⟨rfl,h⟩|⟨rfl,h⟩
    ·exact both (λw'=>⟨tU (by simp) (by simp),by simp only[binOp];simp[run_equal_slice_nil w' t e _ _ _ hu]⟩) h
    ·exact both (λw'=>⟨tU (by simp) (by simp),by simp only[binOp];simp[run_equal_slice_nil w' t e _ _ _ hu]⟩) h
   ·exact h.elim
  ·exact h.elim
 | map r=>cases y with
  | map q=>cases q with
   | none=>
    simp only at h;split at h
    ·rename_i k e hu;rcases AA h with⟨rfl,h⟩|⟨rfl,h⟩
     ·exact both (λw'=>⟨tU (by simp) (by simp),by simp only[binOp];simp[run_equal_map_nil w' t k e _ hu]⟩) h
     ·exact both (λw'=>⟨tU (by simp) (by simp),by simp only[binOp];simp[run_equal_map_nil w' t k e _ hu]⟩) h
    ·exact h.elim
   | some q=>exact h.elim
  | _=>exact h.elim
 | agg xs=>cases y with
  | agg z=>
   simp only at h
   cases f:kY P t with
   | false=>rw[f]at h;exact h.elim
   | true=>
    rw[f]at h;obtain⟨b,l,A,h⟩:=h
    have g:(eqGuard op t ox oy (.agg xs) (.agg z)).run P w=.ok () w:=by
     unfold eqGuard
     cases op<;>first
      | rfl
      | simp[A]
    rcases AA h with⟨rfl,h⟩|⟨rfl,h⟩
    ·exact⟨_,⟨g,by simp only[binOp];simp[l]⟩,λi=>by simp at i,h⟩
    ·exact⟨_,⟨g,by simp only[binOp];simp[l]⟩,λi=>by simp at i,h⟩
  | _=>exact h.elim
 | _=>exact h.elim
theorem rY {E:Env}:∀{xs:List Operand} {F:List Value->Prop},qF E xs F->
  ∃vs,F vs/\∀a:Act,(∀x∈xs,∀v,(b7 E x).val?=aa v->a.eval x=v)->xs.map a.eval=vs
 | [],_,h=>⟨[],h,λ_ _=>rfl⟩
 | x::xs,F,h=>by
  obtain⟨v,c,_,h⟩:=du h;obtain⟨vs,d,e⟩:=rY h;refine⟨v::vs,d,λa b=>?_⟩;rw[np,b x (by simp) v c,e a (λy f=>b y (by simp[f]))]
theorem JD {E:Env}:∀{xs:List (Nat×Operand)} {F:List (Nat×Value)->Prop},EF E xs F->
  ∃vs,F vs/\∀a:Act,(∀x∈xs.map (·.2),∀v,(b7 E x).val?=aa v->a.eval x=v)->xs.map (λp=>(p.1,a.eval p.2))=vs
 | [],_,h=>⟨[],h,λ_ _=>rfl⟩
 | (i,x)::xs,F,h=>by
  obtain⟨v,c,_,h⟩:=du h;obtain⟨vs,d,e⟩:=JD h;refine⟨(i,v)::vs,d,λa b=>?_⟩;rw[np,e a (λy f=>b y (by simp only[np,ez];exact .inr f))];simp only;rw[b x (by simp) v c]
theorem za {cells:List Value} {off:Nat} {vs:List Value} (h:off+vs.length<=cells.length):(bc cells off vs).length=cells.length:=by
 simp[bc];omega
theorem Pv (off:Nat):∀(vs:List Value) (j:Nat) (cs:Array Value),off+j+vs.length<=cs.size->
  ((vs.zipIdx j).foldl (λcs (p:Value×Nat)=>cs.setIfInBounds (off+p.2) p.1) cs).toList=bc cs.toList (off+j) vs
 | [],j,cs,_=>by simp[bc]
 | v::vs,j,cs,h=>by
  simp only[il]at h;rw[List.zipIdx_cons,nm,Pv off vs (j+1) _ (by simp;omega)];have e:=list_seg_step cs.toList (off+j) v vs (by simp;omega);simp only[bc,Array.toList_setIfInBounds,il];rw[<-e];simp[Nat.add_assoc]
theorem fill_eq (place place':Nat->Option (Nat×Nat)):∀(d:List (Nat×Value)) (cells:Array Value) (r:List Value),(∀i,place i=place' i)->
  vW place cells.toList d=aa r->Instr.fill place' cells d=aa r.toArray
 | [],cells,r,_,h=>by simp only[vW,Option.some.injEq]at h;subst h;simp[Instr.fill]
 | (i,v)::d,cells,r,f,h=>by
  simp only[vW]at h;rw[f i]at h;simp only[Instr.fill]
  cases b:place' i with
  | none=>rw[b]at h;simp at h
  | some q=>
   obtain⟨off,size⟩:=q;rw[b]at h;simp only at h
   cases c:(dJ v.cells.toList.length size&&nr (off+size) cells.toList.length)with
   | false=>rw[c]at h;simp at h
   | true=>
    rw[c]at h;simp only[aY]at c;have g:v.cells.size=size:=by simpa using jn c.1
    have j:off+size<=cells.size:=by simpa using dP c.2
    simp only at h
    have e:(v.cells.zipIdx.foldl (λcs (p:Value×Nat)=>cs.setIfInBounds (off+p.2) p.1) cells).toList=bc cells.toList off v.cells.toList:=by
     rw[<-Array.foldl_toList,Array.toList_zipIdx];exact Pv off v.cells.toList 0 cells (by simp;omega)
    have a:¬(v.cells.size≠size||off+v.cells.size>cells.size)=ag:=by simp[g];omega
    simp only[a];rw[<-e]at h;exact fill_eq place place' d _ r f h
end
section
variable {P:Program} {w:World} {E:Env} {o:Oper} {K:SV->Prop}
theorem tW {i:Int} {k:IntKind} {top:Nat} {code:BoundsCode} (h:0<=i/\i<=(top:Int)):(Instr.sliceBound (.int k i) top code).run P w=.ok i.toNat w:=by
 simp[Instr.sliceBound,asIntOf,h]
def BR (a:Act) (x:Option Operand) (b top n:Nat):Prop:=match x with
 | none=>n=b
 | some o=>∃k i,a.eval o=.int k i/\(0<=i/\i<=(top:Int))/\n=i.toNat
theorem xG {x:Option Operand} {b top:Nat} {F:Nat->Prop} (h:nw E x b top F) :
  ∃n,F n/\∀a:Act,(∀y∈x,∀v,(b7 E y).val?=aa v->a.eval y=v)->BR a x b top n:=by
 unfold nw at h
 cases x with
 | none=>exact⟨b,h,λ_ _=>rfl⟩
 | some o=>
  obtain⟨v,c,_,h⟩:=du h;obtain⟨k,i,rfl,hi,h⟩:=yI h;exact⟨i.toNat,h,λa d=>⟨k,i,d o rfl _ c,hi,rfl⟩⟩
theorem L3 {a:Act} {isS:Bool} {e hi p:Option Operand} {len cap l h m:Nat} (q:¬(p.isSome=ag/\hi.isSome=ae))
  (s:BR a p cap cap m) (r:BR a hi len m h) (d:BR a e 0 h l) :
  (Instr.sliceBounds isS len cap (e.map a.eval) (hi.map a.eval) (p.map a.eval)).run P w=.ok (l,h,m) w:=by
 unfold Instr.sliceBounds
 cases p with
 | none=>
  obtain rfl:m=cap:=s
  cases hi with
  | none=>
   obtain rfl:h=len:=r
   cases e with
   | none=>obtain rfl:l=0:=d;simp
   | some ol=>obtain⟨k,i,f,g,rfl⟩:=d;simp[f,tW g]
  | some t=>
   obtain⟨u,x,b,c,rfl⟩:=r
   cases e with
   | none=>obtain rfl:l=0:=d;simp[b,tW c]
   | some ol=>obtain⟨k,i,f,g,rfl⟩:=d;simp[f,b,tW g,tW c]
 | some y=>
  obtain⟨k2,z,j,n,rfl⟩:=s
  cases hi with
  | none=>simp at q
  | some t=>
   obtain⟨u,x,b,c,rfl⟩:=r
   cases e with
   | none=>obtain rfl:l=0:=d;simp[b,j,tW c,tW n]
   | some ol=>obtain⟨k,i,f,g,rfl⟩:=d;simp[f,b,j,tW g,tW c,tW n]
theorem aer {t:TypeId} {x:Value} {c hi b:Option Operand} (h:Kd P E t x c hi b K) :
  ∃v,K (.v v)/\∀a:Act,(∀y∈c.toList++hi.toList++b.toList,∀v,(b7 E y).val?=aa v->a.eval y=v)->
   ∀w,(Instr.sliceAt t x (c.map a.eval) (hi.map a.eval) (b.map a.eval)).run P w=.ok v w:=by
 unfold Kd at h;split at h
 ·rename_i e hu
  cases d:dU P e with
  | false=>rw[d]at h;exact h.elim
  | true=>
   rw[d]at h;simp only at h;split at h
   ·rename_i p len cap
    have f:¬(b.isSome=ag/\hi.isSome=ae):=by
     rintro⟨j,k⟩;cases b<;>cases hi<;>simp_all
    have r:nw E b cap cap λm=>nw E hi len m λh=>nw E c 0 h λl=>K (.v (.slice (gl p m l (cg P e)) (h-l) (m-l))):=by
     cases b<;>cases hi<;>simp_all
    obtain⟨m,j,s⟩:=xG r;obtain⟨C,k,g⟩:=xG j;obtain⟨l,u,z⟩:=xG k;refine⟨_,u,λa i w=>?_⟩;have A:=L3 (P:=P) (w:=w) (isS:=ag) f (s a λy q=>i y (by cases b<;>simp_all)) (g a λy q=>i y (by cases hi<;>simp_all)) (z a λy q=>i y (by cases c<;>simp_all));simp[Instr.sliceAt,Instr.slice,fR hu,A,nO d,gl]
   ·exact h.elim
 ·rename_i n e hu
  cases d:dU P e with
  | false=>rw[d]at h;exact h.elim
  | true=>
   rw[d]at h;simp only at h;obtain⟨ad,rfl,h⟩:=uW h
   have f:¬(b.isSome=ag/\hi.isSome=ae):=by
    rintro⟨j,k⟩;cases b<;>cases hi<;>simp_all
   have r:nw E b n n λm=>nw E hi n m λh=>nw E c 0 h λl=>K (.v (.slice (gl (aa ad) m l (cg P e)) (h-l) (m-l))):=by
    cases b<;>cases hi<;>simp_all
   obtain⟨m,j,s⟩:=xG r;obtain⟨C,k,g⟩:=xG j;obtain⟨l,u,z⟩:=xG k;refine⟨_,u,λa i w=>?_⟩;have A:=L3 (P:=P) (w:=w) (isS:=ae) f (s a λy q=>i y (by cases b<;>simp_all)) (g a λy q=>i y (by cases hi<;>simp_all)) (z a λy q=>i y (by cases c<;>simp_all));have hs:(vx (.pointer (aa ad))).run P w=.ok ad w:=rfl;simp[Instr.sliceAt,fR hu,hs,A,nO d,gl];split<;>simp_all
 ·exact h.elim
theorem adV {ad:Addr} {f:Field} (a:dU P f.type=ag) (b:cg P f.type≠0):(fieldPlace ad f).run P w=.ok (ad.add f.offset) w:=by
 simp[fieldPlace,nO a,b]
theorem Ys {s:TypeId} {ad:Addr} {f:Nat} (h:Io P s ad f K):∃v,(∀w,(Instr.fieldAt s (.pointer (aa ad)) f).run P w=.ok v w)/\K (.v v):=by
 unfold Io at h;split at h
 ·rename_i g hu;split at h
  ·rename_i fd i
   cases b:dU P fd.type with
   | false=>rw[b]at h;exact h.elim
   | true=>
    rw[b]at h;simp only at h
    cases a:dJ (cg P fd.type) 0 with
    | true=>rw[a]at h;exact h.elim
    | false=>
     rw[a]at h;have c:cg P fd.type≠0:=λe=>by rw[e]at a;simp at a
     have d:g[f]?=aa fd:=by simpa using i
     exact⟨_,λw=>by simp[Instr.fieldAt,fR hu,d,vx,adV b c],h⟩
  ·exact h.elim
 ·exact h.elim
theorem YO {s:TypeId} {x:Value} {f:Nat} (h:Is P s x f K):∃v,(∀w,(Instr.field s x f).run P w=.ok v w)/\K (.v v):=by
 unfold Is at h;split at h
 ·rename_i b hu;split at h
  ·rename_i fd c;split at h
   ·rename_i cs;obtain⟨v,d,e⟩:=acr h;have a:b[f]?=aa fd:=by simpa using c
    exact⟨v,λw=>by simp[Instr.field,fR hu,a,asAgg,d],e⟩
   ·exact h.elim
  ·exact h.elim
 ·exact h.elim
theorem ZE {t:TypeId} {x ix:Value} (h:IJ P t x ix K):∃v,(∀w,(Instr.indexAt t x ix).run P w=.ok v w)/\K (.v v):=by
 unfold IJ at h;obtain⟨k,i,rfl,h⟩:=yI h;split at h
 ·rename_i e hu
  cases b:dU P e with
  | false=>rw[b]at h;exact h.elim
  | true=>
   rw[b]at h;simp only at h
   cases x with
   | slice base len cap=>
    obtain⟨hi,a,c,d⟩:=h;subst c
    exact⟨_,λw=>by simp[Instr.indexAt,asIntOf,fR hu,hi,nO b],d⟩
   | _=>exact h.elim
 ·rename_i len e hu
  cases b:dU P e with
  | false=>rw[b]at h;exact h.elim
  | true=>
   rw[b]at h;simp only at h;obtain⟨a,rfl,hi,h⟩:=uW h;exact⟨_,λw=>by simp[Instr.indexAt,asIntOf,fR hu,vx,hi,nO b],h⟩
 ·exact h.elim
theorem ZX {t:TypeId} {x ix:Value} (h:IU P t x ix K):∃v,(∀w,(Instr.index t x ix).run P w=.ok v w)/\K (.v v):=by
 unfold IU at h;obtain⟨k,i,rfl,h⟩:=yI h;split at h
 ·rename_i len e hu
  cases a:dU P e with
  | false=>rw[a]at h;exact h.elim
  | true=>
   rw[a]at h;simp only at h;split at h
   ·rename_i cs;obtain⟨hi,h⟩:=h
    cases d:kY P e with
    | false=>
     rw[d]at h;obtain⟨v,f,b⟩:=AB h
     exact⟨v,λw=>by simp[Instr.index,asIntOf,fR hu,hi,nO a,E9 a d f],b⟩
    | true=>
     rw[d]at h;obtain⟨vs,_,f,b⟩:=Il h;exact⟨_,λw=>by simp[Instr.index,asIntOf,fR hu,hi,nO a,TH a d,f],b⟩
   ·exact h.elim
 ·rename_i hu
  cases x with
  | string s=>
   obtain⟨hi,c,⟨u,g,j⟩,b⟩:=h;subst j
   exact⟨_,λw=>by
    simp only[Instr.index,asIntOf,fR hu,qw,Sem.run_pure,qx,hi,if_true,g],b⟩
  | _=>exact h.elim
 ·exact h.elim
theorem Yo {x:Value} {i:Nat} (h:Im x i K):∃v,(∀w,(Instr.extract x i).run P w=.ok v w)/\K (.v v):=by
 unfold Im at h;split at h
 ·rename_i vs;split at h
  ·rename_i v b;have a:vs[i]?=aa v:=by simpa using b
   exact⟨v,λw=>by simp[Instr.extract,a],h⟩
  ·exact h.elim
 ·exact h.elim
def Eo (P:Program) (t:TypeId):Bool:=match P.underlying t with
 | some (.map _ _)=>ag
 | _=>ae
theorem aaP {t ty:TypeId} {x:Value} (h:Jg P w t x K):∃v,(k9 #[t] ty #[x]).run P w=.ok v w/\(Eo P t=ae->∀w,(k9 #[t] ty #[x]).run P w=.ok v w)/\K (.v v):=by
 have both:∀{v:Value},(∀w',(k9 #[t] ty #[x]).run P w'=.ok v w')->K (.v v)->∃v,(k9 #[t] ty #[x]).run P w=.ok v w/\(Eo P t=ae->∀w,(k9 #[t] ty #[x]).run P w=.ok v w)/\K (.v v):=
  λb d=>⟨_,b w,λ_=>b,d⟩
 unfold Jg at h;split at h
 ·rename_i e hu
  cases x with
  | slice a n c=>exact both (λw=>by simp[k9,fR hu,goInt]) h
  | _=>exact h.elim
 ·rename_i hu
  cases x with
  | string s=>exact both (λw=>by simp[k9,fR hu,goInt]) h
  | _=>exact h.elim
 ·rename_i n e hu;exact both (λw=>by simp[k9,fR hu,goInt]) h
 ·rename_i hu
  cases x with
  | map r=>
   obtain⟨n,f,h⟩:=h
   exact⟨_,f ty,λg=>by simp[Eo,hu]at g,h⟩
  | _=>exact h.elim
 ·exact h.elim
theorem acG {fs:List Field} (h:fs.all (λf=>dU P f.type)=ag) :
  fs.mapM (λf=>(P.info? f.type).map λi=>(f.offset,i.size))=aa (fs.map λf=>(f.offset,cg P f.type)):=by
 induction fs with
 | nil=>rfl
 | cons f fs b=>
  simp only[List.all_cons,aY]at h;have a:=h.1;simp only[dU,aY]at a;obtain⟨i,hi⟩:=lU.1 a.1;simp[List.mapM_cons,hi,b h.2,cg,Program.cellsOf]
theorem VS {t:TypeId} {c:List (Nat×Value)} (h:Gy P t c K):∃v,(∀w,(Instr.build t c.toArray).run P w=.ok v w)/\K (.v v):=by
 unfold Gy at h
 cases d:wz P t with
 | false=>rw[d]at h;exact h.elim
 | true=>
  rw[d]at h;simp only at h;split at h
  ·rename_i j hu
   cases a:j.toList.all λf=>dU P f.type with
   | false=>rw[a]at h;exact h.elim
   | true=>
    rw[a]at h;simp only at h;have k:=λw=>run_places (P:=P) w _ _ (acG a);split at h
    ·rename_i cs g;have b:=fill_eq (place':=λi=>(j[i]?).map λf=>(f.offset,cg P f.type)) _ c (zv P t).cells cs (λi=>by simp) g;exact⟨_,λw=>by simp[Instr.build,wF d,fR hu,Array.mapM_eq_mapM_toList,k,b],h⟩
    ·exact h.elim
  ·rename_i n e hu
   cases a:dU P e with
   | false=>rw[a]at h;exact h.elim
   | true=>
    rw[a]at h;simp only at h;split at h
    ·rename_i cs g;have b:=fill_eq (place':=λi=>aa (i*cg P e,cg P e)) _ c (zv P t).cells cs (λi=>rfl) g;exact⟨_,λw=>by simp[Instr.build,wF d,fR hu,nO a,b],h⟩
    ·exact h.elim
  ·exact h.elim
theorem acy {c x y:SV} (h:JE c x y K):∃b s,c.val?=aa (.bool b)/\(if b then(∃v,x.val?=aa v/\s.val=v)else(∃v,y.val?=aa v/\s.val=v))/\K s:=by
 unfold JE at h;split at h
 ·obtain⟨v,a,d,h⟩:=Es h;exact⟨ag,_,rfl,by simp[a,d],h⟩
 ·obtain⟨v,a,d,h⟩:=Es h;exact⟨ae,_,rfl,by simp[a,d],h⟩
 ·rename_i c;obtain⟨v,a,_,h⟩:=du h;obtain⟨u,d,_,h⟩:=du h;refine⟨c,_,rfl,?_,h⟩;cases c<;>simp[a,d,SV.val]
 ·exact h.elim
def ri (P:Program) (o:Oper):Bool:=match o.op with
 | .load _ _=>ag
 | .lookup _ _ _ _=>ag
 | .binOp _ t _ _ _=>kY P t
 | .call c=>match c.argTypes.toList with
  | [t]=>Eo P t
  | _=>ag
 | _=>ae
theorem SY (h:EC P o E w K):∃s,Quiet P o E w s/\(ri P o=ae->∀w',Quiet P o E w' s)/\K s:=by
 have both:∀{s:SV},(∀w',Quiet P o E w' s)->K s->∃s,Quiet P o E w s/\(ri P o=ae->∀w',Quiet P o E w' s)/\K s:=
  λl m=>⟨_,l w,λ_=>l,m⟩
 unfold EC at h;split at h
 ·rename_i x g;obtain⟨v,l,m,h⟩:=Es h;exact both (λw a j=>by simp[execOp,g,j x (by simp[g,cw]) v l,m]) h
 ·rename_i x g;obtain⟨v,l,m,h⟩:=Es h;exact both (λw a j=>by simp[execOp,g,j x (by simp[g,cw]) v l,m]) h
 ·rename_i c x y g;obtain⟨b,s,l,m,h⟩:=acy h;refine both (s:=s) (λw a j=>?_) h;have D:=j c (by simp[g,cw]) _ l
  cases b with
  | true=>
   obtain⟨v,J,L⟩:=m
   simp[execOp,g,D,asBool,j x (by simp[g,cw]) v J,L]
  | false=>
   obtain⟨v,J,L⟩:=m;simp[execOp,g,D,asBool,j y (by simp[g,cw]) v J,L]
 ·rename_i x g;obtain⟨v,l,_,h⟩:=du h;unfold SI at h;split at h
  ·obtain⟨ad,Q,h⟩:=h;subst Q;exact both (λw a j=>by simp[execOp,g,j x (by simp[g,cw]) _ l,SV.val]) h
  ·exact both (λw a j=>by simp[execOp,g,j x (by simp[g,cw]) _ l,SV.val]) h
  ·exact h.elim
 ·rename_i op t x y yt g;obtain⟨v,l,_,h⟩:=du h;obtain⟨u,m,_,h⟩:=du h;obtain⟨r,q,z,R⟩:=VW (ox:=x) (oy:=y) h;exact⟨.v r,λa j=>by simp[execOp,g,j x (by simp[g,cw]) v l,j y (by simp[g,cw]) u m,q.1,q.2,SV.val],λC w' a j=>by simp[execOp,g,j x (by simp[g,cw]) v l,j y (by simp[g,cw]) u m,(z (by simpa [ri,g]using C) w').1,(z (by simpa [ri,g]using C) w').2,SV.val],R⟩
 ·rename_i op t x g;unfold UI at h;split at h
  ·split at h
   ·rename_i b hs;exact both (λw a j=>by simp[execOp,g,j x (by simp[g,cw]) (.bool b) (by rw[hs];rfl),Op.unary,SV.val]) h
   ·rename_i b hs;exact both (λw a j=>by simp[execOp,g,j x (by simp[g,cw]) (.bool b) (by rw[hs];rfl),Op.unary,SV.val]) h
   ·exact h.elim
  ·obtain⟨v,l,_,h⟩:=du h;obtain⟨k,n,rfl,h⟩:=yI h;exact both (λw a j=>by simp[execOp,g,j x (by simp[g,cw]) _ l,Op.unary,Op.intArith,SV.val]) h
  ·obtain⟨v,l,_,h⟩:=du h;obtain⟨k,n,rfl,h⟩:=yI h;refine both (λw a j=>?_) h;cases hk:k.signed<;>simp[execOp,g,j x (by simp[g,cw]) _ l,Op.unary,Op.intBits,aH,hk,SV.val]
  ·exact h.elim
 ·rename_i S T x g;obtain⟨v,l,_,h⟩:=du h;unfold Ou at h;split at h
  ·rename_i d k M O;obtain⟨k',n,rfl,h⟩:=yI h;refine both (λw a j=>?_) h
   have D:(convert S T (.int k' n)).run P w=.ok (.int k (k.wrap n)) w:=by
    unfold convert;simp only[qw,fR M,fR O,qx];cases d<;>rfl
   simp[execOp,g,j x (by simp[g,cw]) _ l,D,SV.val]
  ·exact h.elim
 ·rename_i t x g;obtain⟨v,l,_,h⟩:=du h;obtain⟨ad,rfl,h⟩:=uW h;obtain⟨u,I,h⟩:=RP h;exact⟨_,λa j=>by simp[execOp,g,j x (by simp[g,cw]) _ l,Instr.loadAt,vx,I,SV.val],λC=>by simp[ri,g]at C,h⟩
 ·rename_i s x f g;obtain⟨v,l,_,h⟩:=du h;obtain⟨ad,rfl,h⟩:=uW h;obtain⟨u,I,h⟩:=Ys h;exact both (λw a j=>by simp[execOp,g,j x (by simp[g,cw]) _ l,I,SV.val]) h
 ·rename_i s x f g;obtain⟨v,l,_,h⟩:=du h;obtain⟨u,I,h⟩:=YO h;exact both (λw a j=>by simp[execOp,g,j x (by simp[g,cw]) _ l,I,SV.val]) h
 ·rename_i t x i g;obtain⟨v,l,_,h⟩:=du h;obtain⟨u,m,_,h⟩:=du h;obtain⟨r,q,h⟩:=ZE h;exact both (λw a j=>by simp[execOp,g,j x (by simp[g,cw]) v l,j i (by simp[g,cw]) u m,q,SV.val]) h
 ·rename_i t x i g;obtain⟨v,l,_,h⟩:=du h;obtain⟨u,m,_,h⟩:=du h;obtain⟨r,q,h⟩:=ZX h;exact both (λw a j=>by simp[execOp,g,j x (by simp[g,cw]) v l,j i (by simp[g,cw]) u m,q,SV.val]) h
 ·rename_i x i g;obtain⟨v,l,_,h⟩:=du h;obtain⟨r,q,h⟩:=Yo (P:=P) h;exact both (λw a j=>by simp[execOp,g,j x (by simp[g,cw]) v l,q,SV.val]) h
 ·rename_i t U g;obtain⟨vs,h,V⟩:=JD h;obtain⟨r,q,h⟩:=VS h;refine both (s:=.v r) (λw a j=>?_) h
  have e:U.map (λp=>(p.1,a.eval p.2))=vs.toArray:=by
   apply pN;have:=V a (λx F=>j x (by simpa [g,cw]using F));simpa using this
  simp[execOp,g,e,q,SV.val]
 ·rename_i t x lo hi mx g;obtain⟨v,l,_,h⟩:=du h;obtain⟨r,h,q⟩:=aer h;refine both (s:=.v r) (λw a j=>?_) h;have m:=q a (λy H=>j y (by simp[g,cw]at H⊢;rcases H with H|H|H<;>simp[H]));simp[execOp,g,j x (by simp[g,cw]) v l,m,SV.val]
 ·rename_i fn first cap g
  obtain⟨W,h,l⟩:=rY h;obtain⟨cs,h,m⟩:=rY h;refine both (λw a j=>?_) h
  have X:first.map a.eval=W.toArray:=by
   apply pN;simpa using l a (λx F=>j x (by simp[g,cw];exact .inl (by simpa using F)))
  have Y:cap.map a.eval=cs.toArray:=by
   apply pN;simpa using m a (λx F=>j x (by simp[g,cw];exact .inr (by simpa using F)))
  simp[execOp,g,X,Y,Instr.makeFunc,SV.val]
 ·rename_i t x i ok g;obtain⟨v,l,_,h⟩:=du h;obtain⟨u,m,_,h⟩:=du h;obtain⟨r,q,h⟩:=tD h;exact⟨_,λa j=>by simp[execOp,g,j x (by simp[g,cw]) v l,j i (by simp[g,cw]) u m,q,SV.val],λC=>by simp[ri,g]at C,h⟩
 ·rename_i c g;split at h
  ·rename_i D;split at h
   ·rename_i x F;split at h
    ·rename_i t Z;obtain⟨v,l,_,h⟩:=du h;obtain⟨r,q,z,h⟩:=aaP (ty:=o.type) h;have A:c.args=#[x]:=by apply pN;simpa using F
     have G:c.argTypes=#[t]:=by apply pN;simpa using Z
     exact⟨_,λa j=>by simp[execOp,g,resolve,D,A,G,invoke,builtin,j x (by simp[g,cw,Call.operands,A]) v l,q,SV.val],λC w' a j=>by simp[execOp,g,resolve,D,A,G,invoke,builtin,j x (by simp[g,cw,Call.operands,A]) v l,z (by simpa [ri,g,G]using C) w',SV.val],h⟩
    ·exact h.elim
   ·exact h.elim
  ·exact h.elim
 ·exact h.elim
end
structure mC (w w':World) (b:Nat) (c:List Value) (T:TypeId):Prop where
 ay:w'.heap[b]?=aa (.cells c.toArray T (0,0))
 other:∀i,i≠b->w'.heap[i]?=w.heap[i]?
 size:w'.heap.size=w.heap.size
 os:w'.os=w.os
 tape:w'.tape=w.tape
 output:w'.output=w.output
structure Wr (w:World) (ad:Addr) (vs:List Value) (K:World->Prop):Prop where
 out:∃(c:List Value) (T:TypeId),w.heap[ad.block]?=aa (.cells c.toArray T (0,0))/\ad.spot=ah/\ad.off+vs.length<=c.length/\
  ∀w',mC w w' ad.block (bc c ad.off vs) T->K w'
structure dy (w w':World) (o:Obj):Prop where
 ay:w'.heap[w.heap.size]?=aa o
 nM:∀i,i<w.heap.size->w'.heap[i]?=w.heap[i]?
 size:w'.heap.size=w.heap.size+1
 os:w'.os=w.os
 tape:w'.tape=w.tape
 output:w'.output=w.output
 drawn:w'.drawn=w.drawn
structure aJ (w:World) (c:List Value) (T:TypeId) (K:Addr->World->Prop):Prop where
 out:∀w',dy w w' (.cells c.toArray T (0,0))->K ⟨w.heap.size,0,ah⟩ w'
structure sU (w:World) (K:Nat->World->Prop):Prop where
 out:∀w',dy w w' (.map #[] 0)->K w.heap.size w'
def A9:List Value->Bool
 | []=>ag
 | .agg _::_=>ae
 | .tuple _::_=>ae
 | _::vs=>A9 vs
theorem SR:∀{vs:List Value},A9 vs=ag->∀v∈vs,v.oneCell'=ag
 | [],_,_,a=>by cases a
 | x::vs,h,v,a=>by
  rcases ez.1 a with rfl|a
  ·cases v<;>first|rfl|(simp[A9]at h)
  ·exact SR (vs:=vs) (by cases x<;>simp_all [A9]) v a
theorem A6 (w:World) (o:Obj):dy w {w with heap:=w.heap.push o} o:=by
 refine⟨by simp,λi hi=>?_,by simp,rfl,rfl,rfl,rfl⟩;simp[Array.getElem?_push,Nat.ne_of_lt hi]
theorem Gd {w:World} {b:Nat} {c:Array Value} {T:TypeId} (h:w.heap[b]?=aa (.cells c T (0,0))) (c':List Value) :
  mC w (w.setRow b c'.toArray) b c' T:=by
 refine⟨setRow_heap w b c _ T _ h,λi hi=>?_,by simp[World.setRow],rfl,rfl,rfl⟩;simp[World.setRow,Array.getElem?_modify,Ne.symm hi]
def jx (P:Program) (g:FuncId):Bool:=match P.funcs.toList[g]? with
 | some fn=>fn.body.isSome
 | none=>ae
def jg (P:Program):Bool:=P.funcs.toList.all (λfn=>!(fn.name=="runtime.NumGoroutine"))&&P.follows .mixedOrders
structure Call (P:Program) (f:FuncId) (args:List Value) (w:World) (R:Ending->World->Prop):Prop where
 out:Calls P f args.toArray w R
def Xd (P:Program) (f:FuncId) (args:List Value) (ty:Ty) (w:World) (K:Value->World->Prop):Prop:=
 Call P f args w λe w'=>yf ty λv=>e=.returned v/\K v w'
structure Cut (p:Prop):Prop where
 out:p
def y7 (P:Program) (s:Sem Value) (ty:Ty) (w:World) (K:SV->World->Prop):Prop:=
 yf ty λv=>∃w',s.run P w=.ok v w'/\K (.v v) w'
def TF (P:Program) (s:Sem Unit) (w:World) (K:SV->World->Prop):Prop:=
 ∃w',s.run P w=.ok () w'/\K (.v undef) w'
def GA (P:Program) (t:TypeId) (len:Nat) (a:List (Nat×Value)) (w:World) (K:SV->World->Prop):Prop:=
 match P.underlying t with
 | some (.slice e)=>match dU P e&&wz P e&&dJ (zc P e).length (cg P e)&&nr (len*cg P e) 16777216&&nr 1 (cg P e)with
  | false=>False
  | true=>match vW (λi=>aa (i*cg P e,cg P e)) ((bU (len*cg P e)).map λi=>(zc P e).getD (i%cg P e) undef) a with
   | some cs=>aJ w cs e λp w'=>K (.v (.slice (aa p) len len)) w'
   | none=>False
 | _=>False
def Ba (P:Program) (o:Oper) (E:Env) (w:World) (K:SV->World->Prop):Prop:=
 match o.op with
 | .store t a x=>dj (b7 E a) λv=>tQ v λad=>dj (b7 E x) λv=>
   match dU P t&&dJ v.cells.toList.length (cg P t)&&A9 v.cells.toList with
   | false=>False
   | true=>Wr w ad v.cells.toList λw'=>K (.v undef) w'
 | .alloc T=>match wz P T with
  | false=>False
  | true=>aJ w (zc P T) T λp w'=>K (.v (.pointer (aa p))) w'
 | .box T x=>dj (b7 E x) λv=>aJ w v.cells.toList T λp w'=>K (.v (.pointer (aa p))) w'
 | .buildSlice t len b=>EF E b.toList λb=>GA P t len b w K
 | .makeSlice t l c=>dj (b7 E l) λl=>dj (b7 E c) λc=>y7 P (mE t l c) (ua P t) w K
 | .makeMap _ ah=>sU w λr w'=>K (.v (.map (aa r))) w'
 | .mapUpdate t m k x=>dj (b7 E m) λm=>dj (b7 E k) λk=>dj (b7 E x) λx=>TF P (ic t m k x) w K
 | .insert t m k x=>dj (b7 E m) λm=>dj (b7 E k) λk=>dj (b7 E x) λx=>TF P (ic t m k x) w K
 | .call c=>match c.callee with
  | .value f=>match b7 E f with
   | .v (.func (.func g) first cap)=>match jx P g with
    | true=>qF E c.args.toList λvs=>Xd P g (first.toList++vs++cap.toList) (ua P o.type) w λv w'=>K (.v v) w'
    | false=>qF E c.args.toList λvs=>yf (ua P o.type) λv=>∃w',(callFunc g (first.toList++vs++cap.toList).toArray).run P w=.ok (.value v) w'/\K (.v v) w'
   | _=>False
  | .builtin .append=>qF E c.args.toList λvs=>y7 P (bR c.argTypes o.type vs.toArray) (ua P o.type) w K
  | .builtin .copy=>qF E c.args.toList λvs=>y7 P (pA c.argTypes o.type vs.toArray) (ua P o.type) w K
  | .builtin .delete=>qF E c.args.toList λvs=>y7 P (iJ c.argTypes o.type vs.toArray) (ua P o.type) w K
  | .builtin .max=>qF E c.args.toList λvs=>y7 P (xr c.argTypes o.type vs.toArray) (ua P o.type) w K
  | .builtin .min=>qF E c.args.toList λvs=>y7 P (qC c.argTypes o.type vs.toArray) (ua P o.type) w K
  | _=>False
 | _=>False
def zy (P:Program) (o:Oper) (E:Env) (w:World) (K:SV->World->Prop):Prop:=
 ∀a,Reads E o a->∀(next:Act->World->Prop) (Q:Exit->Act->World->Prop),(∀s w',K s w'->next (a.put o.dst s.val) w')->o.wp P a w next Q
theorem Quiet.Vj {P:Program} {o:Oper} {E:Env} {w:World} {s:SV} (h:Quiet P o E w s) {K:SV->World->Prop} (b:K s w):zy P o E w K:=by
 intro a c next Q d
 unfold Oper.wp;rw[h a c];exact d s w b
section
variable {P:Program} {w:World} {E:Env} {o:Oper} {K:SV->World->Prop}
theorem qt {v:Value} {w':World} (b:∀a,Reads E o a->(execOp a.eval o).run P w=.ok (.value v) w') (c:K (.v v) w'):zy P o E w K:=by
 intro a d next Q e
 unfold Oper.wp;rw[b a d];exact e _ _ c
theorem Gp {w':World} (b:∀a,Reads E o a->(execOp a.eval o).run P w=.ok .skip w') (c:K (.v undef) w'):zy P o E w K:=by
 intro a d next Q e
 unfold Oper.wp;rw[b a d];exact e (.v undef) _ c
theorem N7 (e:jg P=ag) {g:FuncId} (a:jx P g=ag) (args:Array Value):(callFunc g args).run P w=.ok (.enter g args) w:=by
 unfold jx at a;split at a
 ·rename_i fn f;have b:P.funcs[g]?=aa fn:=by simpa using f
  simp only[jg,aY,fL]at e;have h:=e.1 fn (List.mem_of_getElem? f);have c:(fn.name=="runtime.NumGoroutine")=ae:=by simpa using h
  have d:fn.body.isNone=ae:=by cases i:fn.body<;>simp_all
  unfold callFunc;simp only[qw,run_program,qx,b,c,d,fD,if_false];rfl
 ·cases a
theorem V2 {t:TypeId} {len:Nat} {j:List (Nat×Value)} (h:GA P t len j w K) :
  ∃v w',(Instr.buildSlice t len j.toArray).run P w=.ok v w'/\K (.v v) w':=by
 unfold GA at h;split at h
 ·rename_i e hu;split at h
  ·exact h.elim
  ·rename_i n;simp only[aY]at n;obtain⟨⟨⟨⟨p,q⟩,r⟩,s⟩,u⟩:=n;have k:(zc P e).length=cg P e:=jn r;have y:=dP s;have l:=dP u;split at h
   ·rename_i cs z;have b:(zv P e).cells.size=cg P e:=by rw[<-k];simp[zc]
    have A:((Array.range (len*cg P e)).map (λx=>(zv P e).cells[x%(zv P e).cells.size]!)).toList=(bU (len*cg P e)).map λi=>(zc P e).getD (i%cg P e) undef:=by
     rw[Array.toList_map,Array.toList_range];apply uq;intro i hi;rw[b];have m:i%cg P e<(zv P e).cells.size:=by rw[b];exact Nat.mod_lt _ l
     simp[zc,aO,m]
    have a:=fill_eq (place':=λi=>aa (i*cg P e,cg P e)) _ j ((Array.range (len*cg P e)).map (λx=>(zv P e).cells[x%(zv P e).cells.size]!)) cs (λi=>rfl) (by rw[A];exact z);refine⟨_,_,?_,h.out _ (A6 w _)⟩;by_cases c:len*cg P e=0
    ·have d:len=0:=by
      rcases Nat.mul_eq_zero.1 c with c|c
      ·exact c
      ·omega
     subst d;have f:Array.range 0=#[]:=rfl;simp only[Nat.zero_mul,f,List.map_toArray,List.map_nil]at a;simp[Instr.buildSlice,fR hu,nO p,f,a,newRow]
    ·have g:¬(2 ^ 24<len*cg P e):=by omega
     simp[Instr.buildSlice,fR hu,nO p,wF q,c,g,a,newRow]
   ·exact h.elim
 ·exact h.elim
theorem SU (V:jg P=ag) (h:Ba P o E w K):zy P o E w K:=by
 unfold Ba at h;split at h
 ·rename_i t x y i;obtain⟨v,A,_,h⟩:=du h;obtain⟨ad,rfl,h⟩:=uW h;obtain⟨u,D,_,h⟩:=du h;split at h
  ·exact h.elim
  ·rename_i S;simp only[aY]at S;obtain⟨⟨W,X⟩,J⟩:=S;obtain⟨c,T,G,hs,C,q⟩:=h.out;obtain⟨b,off,spot⟩:=ad;simp only at hs G C q;subst hs;have L:u.cells.size=cg P t:=by simpa using jn X
   have H:=run_storeCells_at P b off T u.cells.toList 0 c.toArray w G (by simpa using C) (SR J);refine Gp (w':=w.setRow b (bc c off u.cells.toList).toArray) (λa j=>?_) (q _ (Gd G _));simp only[pF]at H;simp[execOp,i,j x (by simp[i,cw]) _ A,j y (by simp[i,cw]) _ D,Instr.storeAt,vx,storeVar,nO W,L,H,bc]
 ·rename_i T i;split at h
  ·exact h.elim
  ·rename_i Y;refine qt (w':={w with heap:=w.heap.push (.cells (zv P T).cells T)}) (λa j=>?_) (h.out _ ?_)
   ·simp[execOp,i,Instr.alloc,wF Y,newVar,newRow]
   ·have:=A6 w (.cells (zv P T).cells T);simpa [zc]using this
 ·rename_i T x i;obtain⟨v,A,_,h⟩:=du h;refine qt (w':={w with heap:=w.heap.push (.cells v.cells T)}) (λa j=>?_) (h.out _ ?_)
  ·simp[execOp,i,j x (by simp[i,cw]) _ A,Instr.box,newVar,newRow]
  ·have:=A6 w (.cells v.cells T);simpa using this
 ·rename_i t len Z i;obtain⟨vs,h,z⟩:=JD h;obtain⟨v,w',s,q⟩:=V2 h;refine qt (v:=v) (w':=w') (λa j=>?_) q
  have e:Z.map (λp=>(p.1,a.eval p.2))=vs.toArray:=by
   apply pN;have:=z a (λx M=>j x (by simpa [i,cw]using M));simpa using this
  simp[execOp,i,e,s]
 ·rename_i t l c i;obtain⟨v,A,_,h⟩:=du h;obtain⟨u,D,_,h⟩:=du h;obtain⟨r,w',s,q⟩:=tD h;exact qt (w':=w') (λa j=>by simp[execOp,i,j l (by simp[i,cw]) v A,j c (by simp[i,cw]) u D,s]) q
 ·rename_i t i;refine qt (w':={w with heap:=w.heap.push (.map #[] 0)}) (λa j=>?_) (h.out _ (A6 w _));simp[execOp,i,Instr.makeMap]
 ·rename_i t m k x i;obtain⟨v1,A,_,h⟩:=du h;obtain⟨v2,D,_,h⟩:=du h;obtain⟨v3,O,_,h⟩:=du h;obtain⟨w',s,q⟩:=h;exact Gp (w':=w') (λa j=>by simp[execOp,i,j m (by simp[i,cw]) _ A,j k (by simp[i,cw]) _ D,j x (by simp[i,cw]) _ O,s]) q
 ·rename_i t m k x i;obtain⟨v1,A,_,h⟩:=du h;obtain⟨v2,D,_,h⟩:=du h;obtain⟨v3,O,_,h⟩:=du h;obtain⟨w',s,q⟩:=h;exact Gp (w':=w') (λa j=>by simp[execOp,i,j m (by simp[i,cw]) _ A,j k (by simp[i,cw]) _ D,j x (by simp[i,cw]) _ O,s]) q
 ·rename_i c i
  have n:∀{vs:List Value},(∀a:Act,(∀x∈c.args.toList,∀v,(b7 E x).val?=aa v->a.eval x=v)->c.args.toList.map a.eval=vs)->∀a,Reads E o a->c.args.map a.eval=vs.toArray:=by
   intro vs z a j;apply pN
   have:=z a (λx M=>j x (by
    rw[i];simp only[cw,Call.operands,Array.mem_append];exact .inr (by simpa using M)))
   simpa using this
  split at h
  ·rename_i f d;split at h
   ·rename_i g first cap U
    split at h
    ·rename_i G;obtain⟨vs,h,z⟩:=rY h;intro a j next Q hn
     have F:a.eval f=.func (.func g) first cap:=j f (by simp[i,cw,Call.operands,d]) _ (by rw[U];rfl)
     have e:=n z a j;unfold Oper.wp
     have I:(execOp a.eval o).run P w=.ok (.enter g (first.toList++vs++cap.toList).toArray) w:=by
      have R:(first++vs.toArray++cap)=(first.toList++vs++cap.toList).toArray:=by apply pN;simp
      simp only[execOp,i,resolve,d,F,e,Deferred.ofValue,qw,Sem.run_pure,qx,invoke];rw[R];exact N7 V G _
     rw[I,Oper.upon_enter];refine Calls.mono h.out (λee w' he=>?_);obtain⟨v,rfl,q⟩:=tD he;exact hn _ _ q
    ·obtain⟨vs,h,z⟩:=rY h;obtain⟨v,w',s,q⟩:=tD h|>.imp λv h=>h
     refine qt (w':=w') (λa j=>?_) q;have F:a.eval f=.func (.func g) first cap:=j f (by simp[i,cw,Call.operands,d]) _ (by rw[U];rfl)
     have e:=n z a j;have R:(first++vs.toArray++cap)=(first.toList++vs++cap.toList).toArray:=by apply pN;simp
     simp only[execOp,i,resolve,d,F,e,Deferred.ofValue,qw,Sem.run_pure,qx,invoke];rw[R];exact s
   ·exact h.elim
  ·rename_i d;obtain⟨vs,h,z⟩:=rY h;obtain⟨r,w',s,q⟩:=tD h;exact qt (w':=w') (λa j=>by simp[execOp,i,resolve,d,n z a j,invoke,builtin,s]) q
  ·rename_i d;obtain⟨vs,h,z⟩:=rY h;obtain⟨r,w',s,q⟩:=tD h;exact qt (w':=w') (λa j=>by simp[execOp,i,resolve,d,n z a j,invoke,builtin,s]) q
  ·rename_i d;obtain⟨vs,h,z⟩:=rY h;obtain⟨r,w',s,q⟩:=tD h;exact qt (w':=w') (λa j=>by simp[execOp,i,resolve,d,n z a j,invoke,builtin,s]) q
  ·rename_i d;obtain⟨vs,h,z⟩:=rY h;obtain⟨r,w',s,q⟩:=tD h;exact qt (w':=w') (λa j=>by simp[execOp,i,resolve,d,n z a j,invoke,builtin,s]) q
  ·rename_i d;obtain⟨vs,h,z⟩:=rY h;obtain⟨r,w',s,q⟩:=tD h;exact qt (w':=w') (λa j=>by simp[execOp,i,resolve,d,n z a j,invoke,builtin,s]) q
  ·exact h.elim
 ·exact h.elim
end
def AJ:Op->Bool
 | .store _ _ _=>ag
 | .alloc _=>ag
 | .box _ _=>ag
 | .buildSlice _ _ _=>ag
 | .makeSlice _ _ _=>ag
 | .makeMap _ _=>ag
 | .mapUpdate _ _ _ _=>ag
 | .insert _ _ _ _=>ag
 | .call c=>match c.callee with
  | .builtin .len=>ae
  | _=>ag
 | _=>ae
def JA (P:Program) (o:Oper) (E:Env) (w:World) (K:SV->World->Prop):Prop:=match AJ o.op with
 | true=>Ba P o E w K
 | false=>EC P o E w λs=>K s w
theorem SS {P:Program} {o:Oper} {E:Env} {w:World} {K:SV->World->Prop} (a:jg P=ag) (h:JA P o E w K):zy P o E w K:=by
 unfold JA at h;split at h
 ·exact SU a h
 ·obtain⟨s,b,_,c⟩:=SY h;exact b.Vj c
def sD (N:Nat) (E:Env) (dst:Option Tmp) (s:SV) (K:Env->Prop):Prop:=match dst with
 | none=>K E
 | some d=>match nr (d+1) N with
  | true=>K (E.put d s)
  | false=>False
theorem EP {N:Nat} {E:Env} {dst:Option Tmp} {s:SV} {K:Env->Prop} {a:Act} (h:sD N E dst s K) (b:bV N E a):∃c,bV N c (a.put dst s.val)/\K c:=by
 unfold sD at h
 cases dst with
 | none=>exact⟨E,b,h⟩
 | some d=>
  simp only at h;split at h
  ·rename_i hd;exact⟨_,b.put d (dP hd) s,h⟩
  ·exact h.elim
def uG (ops:List Oper) (j:Nat):Option Tmp:=match ops[j]? with
 | some o=>o.dst
 | none=>ah
def DT (ops:List Oper) (o:Oper) (E:Env) (run skip:Env->Prop):Prop:=match o.guard with
 | none=>run E
 | some (j,want)=>match uG ops j with
  | none=>False
  | some d=>match E.get d with
   | .b ag=>match want with
    | true=>run E
    | false=>skip E
   | .b ae=>match want with
    | true=>skip E
    | false=>run E
   | .v (.bool x)=>(x=want->run (E.put d (.b want)))/\(x=(!want)->skip (E.put d (.b (!want))))
   | .v (.tuple _)=>skip E
   | _=>False
def pj (ops:List Oper) (E:Env) (o:Oper) (a:Act):Prop:=
 ∀j want d,o.guard=aa (j,want)->uG ops j=aa d->∀v,(E.get d).val?=aa v->a.tmps[d]?=aa v
def vu (E a:Env):Prop:=∀t,(a.get t).val?=(E.get t).val?
theorem vu.refl (E:Env):vu E E:=λ_=>rfl
theorem TM {E:Env} {d:Nat} {b:Bool} (h:(E.get d).val?=aa (.bool b)):vu E (E.put d (.b b)):=by
 intro t;rw[Env.DP];split
 ·rename_i a;subst a;rw[h];rfl
 ·rfl
theorem bV.same {N:Nat} {E b:Env} {a:Act} (h:bV N E a) (hs:vu E b):bV N b a:=
 ⟨h.size,h.jX,λt x c=>h.mZ t x (by rw[<-hs t];exact c)⟩
theorem bV.DS {N:Nat} {E:Env} {a:Act} (h:bV N E a) (ops:List Oper) (o:Oper):pj ops E o a:=λ_ _ d _ _ v b=>h.mZ d v b
def wantedAt (ops:Array Oper) (o:Oper) (a:Act):Bool:=Region.wanted o (yielded ops a.tmps)
theorem amn {ops:Array Oper} {l:List Oper} (c:ops.toList=l) {a:Act} {j d:Nat} (hd:uG l j=aa d):yielded ops a.tmps j=match a.tmps[d]? with|some (.bool b)=>aa b|_=>ah:=by
 have e:(ops[j]?).bind (·.dst)=aa d:=by
  subst c;unfold uG at hd
  cases h:ops[j]? with
  | none=>simp[h]at hd
  | some o=>simpa [h]using hd
 unfold yielded;rw[e];rfl
theorem DU {ops:Array Oper} {l:List Oper} (i:ops.toList=l) {o:Oper} {E:Env} {run skip:Env->Prop} (h:DT l o E run skip) :
  ∃f,vu E f/\((run f/\∀a,pj l E o a->wantedAt ops o a=ag)∨(skip f/\∀a,pj l E o a->wantedAt ops o a=ae)):=by
 unfold DT at h;split at h
 ·rename_i e;exact⟨E,.refl E,.inl ⟨h,λa _=>by simp[wantedAt,Region.wanted,e]⟩⟩
 ·rename_i j want e;split at h
  ·exact h.elim
  ·rename_i d hd
   have key:∀(a:Act) (v:Value),pj l E o a->(E.get d).val?=aa v->wantedAt ops o a=((match v with|.bool b=>aa b|_=>ah)==aa want):=by
    intro a v c k;simp only[wantedAt,Region.wanted,e];rw[amn i hd,c j want d e hd v k];cases v<;>rfl
   split at h
   ·rename_i he
    cases want with
    | true=>exact⟨E,.refl E,.inl ⟨h,λa c=>by rw[key a _ c (by rw[he];rfl)];rfl⟩⟩
    | false=>exact⟨E,.refl E,.inr ⟨h,λa c=>by rw[key a _ c (by rw[he];rfl)];rfl⟩⟩
   ·rename_i he
    cases want with
    | true=>exact⟨E,.refl E,.inr ⟨h,λa c=>by rw[key a _ c (by rw[he];rfl)];rfl⟩⟩
    | false=>exact⟨E,.refl E,.inl ⟨h,λa c=>by rw[key a _ c (by rw[he];rfl)];rfl⟩⟩
   ·rename_i x he;by_cases m:x=want
    ·subst m;exact⟨_,TM (by rw[he];rfl),.inl ⟨h.1 rfl,λa c=>by rw[key a _ c (by rw[he];rfl)];simp⟩⟩
    ·have g:x = !want:=by cases x<;>cases want<;>simp_all
     subst g;exact⟨_,TM (by rw[he];rfl),.inr ⟨h.2 rfl,λa c=>by rw[key a _ c (by rw[he];rfl)];cases want<;>rfl⟩⟩
   ·rename_i he;exact⟨E,.refl E,.inr ⟨h,λa c=>by rw[key a _ c (by rw[he];rfl)];rfl⟩⟩
   ·exact h.elim
def sF (P:Program) (N:Nat) (ops:List Oper):List Oper->Env->World->(Env->World->Prop)->Prop
 | [],E,w,K=>K E w
 | o::os,E,w,K=>DT ops o E
   (λE=>JA P o E w λs w'=>sD N E o.dst s λE=>sF P N ops os E w' K)
   (λE=>sD N E o.dst (.v undef) λE=>sF P N ops os E w K)
theorem Ff {P:Program} {N:Nat} {ops:Array Oper} {l:List Oper} (g:jg P=ag) (i:ops.toList=l) {Q:Exit->Act->World->Prop} {K:Env->World->Prop}
  (j:∀E a w,bV N E a->K E w->Q .normal a w):∀(os:List Oper) (E:Env) (a:Act) (w:World),bV N E a->sF P N l os E w K->wpList P ops Q os a w
 | [],E,a,w,e,h=>j E a w e h
 | o::os,E,a,w,e,h=>by
  obtain⟨k,hs,h⟩:=DU i h;have c:=e.same hs;unfold wpList;rcases h with⟨h,b⟩|⟨h,b⟩
  ·have b:=b a (e.DS l o);unfold wantedAt at b;rw[aj b];refine .inl (SS g h a (c.reads o) _ Q (λs w' f=>?_));obtain⟨E2,d,f⟩:=EP f c;exact Ff g i j os E2 _ w' d f
  ·have b:=b a (e.DS l o);unfold wantedAt at b;rw[af (by rw[b];simp)];obtain⟨E2,d,f⟩:=EP h c;exact Ff g i j os E2 _ w d f
def rZ (e:Edge):Bool:=match e.ground with
 | .textOnly _=>ae
 | .gcOnly _=>ae
 | _=>ag
theorem LZ (e:Edge):Region.binds .any e=rZ e:=by
 obtain⟨on,g⟩:=e;cases g<;>rfl
def ux (B:List Nat) (es:List Edge):Nat:=es.foldr (λe s=>match rZ e with
 | true=>s||| (2 ^ e.on||| B.getD e.on 0)
 | false=>s) 0
def oz:List Oper->List Nat->List Nat
 | [],B=>B
 | o::os,B=>oz os (B++[ux B o.after.toList])
def slotsOf (ops:List Oper) (o:Oper):List Tmp:=
 (o.op.operands.toList.filterMap λx=>match x with
  | .tmp t=>aa t
  | _=>ah)++
 (match o.guard with
   | some (j,_)=>(uG ops j).toList
   | none=>[])
def zV (x:Option Tmp) (t:Tmp):Bool:=match x with
 | some d=>dJ d t
 | none=>ae
def vH (N:Nat) (B:List Nat):Nat->List Oper->Bool
 | _,[]=>ag
 | i,o::os=>dJ (B.getD i 0) (ux B o.after.toList)&&o.after.toList.all (λe=>!rZ e||nr (e.on+1) i)&&
   (match o.dst with
       | some d=>nr (d+1) N
       | none=>ag)&&vH N B (i+1) os
def Aj (ops:List Oper) (B:List Nat) (i:Nat) (o:Oper) (t:Tmp):Nat->List Oper->Bool
 | _,[]=>ag
 | j,p::a=>(!zV p.dst t||dJ i j||(B.getD i 0).testBit j||(B.getD j 0).testBit i)&&Aj ops B i o t (j+1) a
def vJ (ops:List Oper) (B:List Nat):Nat->List Oper->Bool
 | _,[]=>ag
 | i,o::os=>(slotsOf ops o).all (λt=>Aj ops B i o t 0 ops)&&(match o.dst with
   | some d=>os.all λp=>!zV p.dst d
   | none=>ag)&&vJ ops B (i+1) os
def Km (P:Program) (o:Oper) (E:Env) (w:World) (s:SV):Prop:=match o.op with
 | .load t a=>match kY P t with
  | false=>match dU P t with
   | true=>dj (b7 E a) λv=>tQ v λad=>w.cell? ad=aa s.val
   | false=>False
  | true=>match dU P t with
   | true=>match s with
    | .v (.agg cs)=>match dJ cs.toList.length (cg P t)with
     | true=>dj (b7 E a) λv=>tQ v λad=>K9 w ad cs.toList
     | false=>False
    | _=>Quiet P o E w s
   | false=>False
 | _=>Quiet P o E w s
def zj (P:Program) (ops:List Oper) (Bi:Nat) (w:World):List (Nat×Env×SV)->Prop->Prop
 | [],X=>X
 | (j,E,s)::r,X=>match Bi.testBit j with
  | true=>zj P ops Bi w r X
  | false=>match ops[j]? with
   | some o=>Km P o E w s/\zj P ops Bi w r X
   | none=>False
section draw
variable {P:Program} {N:Nat} {opa:Array Oper} {ops:List Oper} {B:List Nat} {E0:Env} {a0:Act}
theorem aeK {o:Oper} {E:Env} {w:World} {s:SV} (h:Km P o E w s):Quiet P o E w s:=by
 unfold Km at h;split at h
 ·rename_i t x c;split at h
  ·rename_i d;split at h
   ·rename_i hk;obtain⟨v,e,_,h⟩:=du h;obtain⟨ad,f,g⟩:=uW h;subst f;intro a i;have j:(loadVar t ad).run P w=.ok s.val w:=by simp[loadVar,y9 hk,d,g]
    simp[execOp,c,i x (by simp[c,cw]) _ e,Instr.loadAt,vx,j]
   ·exact h.elim
  ·rename_i d;split at h
   ·rename_i hk;split at h
    ·rename_i cs;split at h
     ·rename_i k;obtain⟨v,e,_,h⟩:=du h;obtain⟨ad,f,g⟩:=uW h;subst f;intro a i;have b:=jn k
      have j:(loadVar t ad).run P w=.ok (.agg cs) w:=by
       have:=run_loadCells_list (P:=P) w ad cs.toList g;simp only[Array.length_toList]at b;simp[loadVar,y9 hk,d,nO hk,<-b]at this⊢;rw[this];rfl
      simp[execOp,c,i x (by simp[c,cw]) _ e,Instr.loadAt,vx,j,SV.val]
     ·exact h.elim
    ·exact h
   ·exact h.elim
 ·exact h
theorem Kn {Bi:Nat} {w:World}:∀{dm:List (Nat×Env×SV)} {X:Prop},zj P ops Bi w dm X->
  X/\∀j E s,(j,E,s)∈dm->Bi.testBit j=ae->∃o,ops[j]?=aa o/\Quiet P o E w s
 | [],_,h=>⟨h,λ_ _ _ b=>by cases b⟩
 | (j,E,s)::r,X,h=>by
  unfold zj at h;split at h
  ·rename_i k;obtain⟨c,d⟩:=Kn h;refine⟨c,λe f g b a=>?_⟩;rcases ez.1 b with i|b
   ·cases i;rw[k]at a;cases a
   ·exact d e f g b a
  ·split at h
   ·rename_i o l;obtain⟨c,d⟩:=Kn h.2;refine⟨c,λe f g b a=>?_⟩;rcases ez.1 b with i|b
    ·cases i;exact⟨o,l,aeK h.1⟩
    ·exact d e f g b a
   ·exact h.elim
def writes (ops:List Oper) (j:Nat) (t:Tmp):Prop:=uG ops j=aa t
theorem Ga {j:Nat} {t:Tmp} (h:writes ops j t):∃o,ops[j]?=aa o/\o.dst=aa t:=by
 unfold writes uG at h
 cases a:ops[j]? with
 | none=>rw[a]at h;cases h
 | some o=>rw[a]at h;exact⟨o,rfl,h⟩
theorem FZ {j:Nat} {t:Tmp} {o:Oper} (a:ops[j]?=aa o):writes ops j t↔o.dst=aa t:=by
 simp[writes,uG,a]
theorem LX {x:Option Tmp} {t:Tmp}:zV x t=ag↔x=aa t:=by
 cases x with
 | none=>simp[zV]
 | some d=>simp[zV]
theorem Oa:∀{os:List Oper} {k:Nat},vH N B k os=ag->∀i o,os[i]?=aa o->
  B.getD (k+i) 0=ux B o.after.toList/\(∀e∈o.after.toList,rZ e=ag->e.on<k+i)/\(∀d,o.dst=aa d->d<N)
 | [],_,_,i,o,a=>by simp at a
 | p::os,k,h,i,o,a=>by
  simp only[vH,aY]at h;obtain⟨⟨⟨c,f⟩,b⟩,g⟩:=h
  cases i with
  | zero=>
   simp only[xm,Option.some.injEq]at a;subst a;refine⟨jn c,λe j l=>?_,λd hd=>?_⟩
   ·have:=fL.1 f e j;rw[l]at this;exact dP (by simpa using this)
   ·rw[hd]at b
    exact dP b
  | succ i=>
   have:=Oa g i o (by simpa using a);rw[show k+1+i=k+(i+1) by omega]at this;exact this
theorem VT {es:List Edge} {j:Nat}:(ux B es).testBit j=ag↔∃e∈es,rZ e=ag/\(e.on=j∨(B.getD e.on 0).testBit j=ag):=by
 induction es with
 | nil=>simp[ux]
 | cons e es b=>
  simp only[ux,List.foldr_cons];rw[show es.foldr (λe s=>match rZ e with|true=>s||| (2 ^ e.on||| B.getD e.on 0)|false=>s) 0=ux B es from rfl]
  cases c:rZ e with
  | false=>
   simp only[ez];rw[b];constructor
   ·rintro⟨x,a,h⟩;exact⟨x,.inr a,h⟩
   ·rintro⟨x,rfl|a,h⟩
    ·rw[c]at h;cases h.1
    ·exact⟨x,a,h⟩
  | true=>
   simp only[Nat.testBit_or,eT,b,Nat.testBit_two_pow,decide_eq_true_eq,ez];constructor
   ·rintro(⟨x,a,h⟩|h)
    ·exact⟨x,.inr a,h⟩
    ·exact⟨e,.inl rfl,c,h⟩
   ·rintro⟨x,rfl|a,h⟩
    ·exact .inr h.2
    ·exact .inl ⟨x,a,h⟩
theorem Od {i:Nat} {o:Oper} {t:Tmp}:∀{c:List Oper} {k:Nat},Aj ops B i o t k c=ag->∀j p,c[j]?=aa p->p.dst=aa t->
  i=k+j∨(B.getD i 0).testBit (k+j)=ag∨(B.getD (k+j) 0).testBit i=ag
 | [],_,_,j,p,b,_=>by simp at b
 | q::c,k,h,j,p,b,d=>by
  simp only[Aj,aY,eT]at h
  cases j with
  | zero=>
   simp only[xm,Option.some.injEq]at b;subst b;rcases h.1 with((a|a)|a)|a
   ·rw[LX.2 d]at a;cases a
   ·exact .inl (jn a)
   ·exact .inr (.inl a)
   ·exact .inr (.inr a)
  | succ j=>
   have:=Od h.2 j p (by simpa using b) d;rw[show k+1+j=k+(j+1) by omega]at this;exact this
theorem Dd:∀{os:List Oper} {k:Nat},vJ ops B k os=ag->∀i o,os[i]?=aa o->
  (∀t∈slotsOf ops o,Aj ops B (k+i) o t 0 ops=ag)/\(∀d,o.dst=aa d->∀j p,i<j->os[j]?=aa p->p.dst≠aa d)
 | [],_,_,i,o,a=>by simp at a
 | q::os,k,h,i,o,a=>by
  simp only[vJ,aY]at h;obtain⟨⟨f,e⟩,g⟩:=h
  cases i with
  | zero=>
   simp only[xm,Option.some.injEq]at a;subst a;refine⟨λt l=>fL.1 f t l,λd hd j p m b=>?_⟩;rw[hd]at e
   cases j with
   | zero=>omega
   | succ j=>
    have:=fL.1 e p (List.mem_of_getElem? (by simpa using b));intro c;rw[LX.2 c]at this
    cases this
  | succ i=>
   have:=Dd g i o (by simpa using a);rw[show k+1+i=k+(i+1) by omega]at this;refine⟨this.1,λd hd j p m b=>?_⟩
   cases j with
   | zero=>omega
   | succ j=>exact this.2 d hd j p (by omega) (by simpa using b)
structure Good (N:Nat) (ops:List Oper) (B:List Nat):Prop where
 DF:∀i o,ops[i]?=aa o->B.getD i 0=ux B o.after.toList/\(∀e∈o.after.toList,rZ e=ag->e.on<i)/\(∀d,o.dst=aa d->d<N)
 cmp:∀i o,ops[i]?=aa o->∀t∈slotsOf ops o,∀j,writes ops j t->i=j∨(B.getD i 0).testBit j=ag∨(B.getD j 0).testBit i=ag
 once:∀i j t,writes ops i t->writes ops j t->i=j
theorem Zk (g:vH N B 0 ops=ag) (c:vJ ops B 0 ops=ag):Good N ops B:=by
 refine⟨λi o d=>?_,λi o d t k j e=>?_,λi j t hi e=>?_⟩
 ·have:=Oa g i o d
  rwa [eU]at this
 ·have:=(Dd c i o d).1 t k;rw[eU]at this;obtain⟨p,b,hd⟩:=Ga e;have:=Od this j p b hd
  rwa [eU]at this
 ·obtain⟨p,b,hd⟩:=Ga hi;obtain⟨q,f,a⟩:=Ga e;rcases Nat.lt_trichotomy i j with h|h|h
  ·exact absurd a ((Dd c i p b).2 t hd j q h f)
  ·exact h
  ·exact absurd hd ((Dd c j q f).2 t a i p h b)
def wM (B:List Nat) (m:Nat):Prop:=∀j,m.testBit j=ag->∀k,(B.getD j 0).testBit k=ag->m.testBit k=ag
def BS (B:List Nat) (b:Nat->Bool):Prop:=∀j,b j=ag->∀k,(B.getD j 0).testBit k=ag->b k=ag
def qm (ops:List Oper) (E0:Env) (m:Nat) (V:Nat->Value) (E:Env):Prop:=
 ∀t x,(E.get t).val?=aa x->(∀j,writes ops j t->m.testBit j=ag->V j=x)/\((∀j,writes ops j t->m.testBit j=ae)->(E0.get t).val?=aa x)
structure vk (N:Nat) (ops:List Oper) (a0:Act) (b:Nat->Bool) (V:Nat->Value) (a:Act):Prop where
 size:a.tmps.size=N
 jX:a.defers=[]
 done:∀t j,writes ops j t->b j=ag->a.tmps[t]?=aa (V j)
 nM:∀t,(∀j,writes ops j t->b j=ae)->a.tmps[t]?=a0.tmps[t]?
theorem qm.same {m:Nat} {V:Nat->Value} {E a:Env} (h:qm ops E0 m V E) (hs:vu E a):qm ops E0 m V a:=
 λt x b=>h t x (by rw[<-hs t];exact b)
theorem Kf (r:Good N ops B) (s:bV N E0 a0) {m:Nat} {b:Nat->Bool} {V:Nat->Value} {E:Env} {a:Act} {i:Nat} {o:Oper}
  (F:wM B m) (G:BS B b) (n:qm ops E0 m V E) (p:vk N ops a0 b V a) (H:ops[i]?=aa o)
  (f:m.testBit i=ae) (g:b i=ae) (u:∀k,(B.getD i 0).testBit k=ag->m.testBit k=ag) (y:∀k,(B.getD i 0).testBit k=ag->b k=ag)
  {t:Tmp} (I:t∈slotsOf ops o) {x:Value} (q:(E.get t).val?=aa x):a.tmps[t]?=aa x:=by
 have l:∀j,writes ops j t->(i=j∨(B.getD j 0).testBit i=ag)->m.testBit j=ae/\b j=ae:=by
  intro j _ e;rcases e with rfl|e
  ·exact⟨f,g⟩
  ·refine⟨?_,?_⟩
   ·cases z:m.testBit j with
    | false=>rfl
    | true=>rw[F j z i e]at f;cases f
   ·cases A:b j with
    | false=>rfl
    | true=>rw[G j A i e]at g;cases g
 by_cases hw:∃j,writes ops j t
 ·obtain⟨j,h⟩:=hw;rcases r.cmp i o H t I j h with e|e|e
  ·obtain⟨C,D⟩:=l j h (.inl e);have c:∀k,writes ops k t->k=j:=λk d=>r.once k j t d h;rw[p.nM t (λk d=>by rw[c k d];exact D)];exact s.mZ t x ((n t x q).2 (λk d=>by rw[c k d];exact C))
  ·rw[p.done t j h (y j e),(n t x q).1 j h (u j e)]
  ·obtain⟨C,D⟩:=l j h (.inr e);have c:∀k,writes ops k t->k=j:=λk d=>r.once k j t d h;rw[p.nM t (λk d=>by rw[c k d];exact D)];exact s.mZ t x ((n t x q).2 (λk d=>by rw[c k d];exact C))
 ·rw[p.nM t (λk d=>absurd ⟨k,d⟩ hw)];exact s.mZ t x ((n t x q).2 (λk d=>absurd ⟨k,d⟩ hw))
theorem JQ {E:Env} {o:Oper} {a:Act} (h:∀t∈slotsOf ops o,∀x,(E.get t).val?=aa x->a.tmps[t]?=aa x):Reads E o a/\pj ops E o a:=by
 constructor
 ·intro x e v b
  cases x with
  | tmp t=>
   have i:t∈slotsOf ops o:=by
    unfold slotsOf;refine eG.2 (.inl (List.mem_filterMap.2 ⟨.tmp t,by simpa using e,rfl⟩))
   have:=h t i v b
   simp[Act.eval,this]
  | const c=>cases c<;>simp_all [b7,SV.val?,Act.eval]
  | global g=>simpa [b7,SV.val?,Act.eval]using b
  | func f=>simpa [b7,SV.val?,Act.eval]using b
 ·intro j want d k hd v b;refine h d ?_ v b;unfold slotsOf;refine eG.2 (.inr ?_);rw[k];simp[hd]
def gW (b:Nat->Bool) (i:Nat):Nat->Bool:=λj=>if j=i then ag else b j
def kU (V:Nat->Value) (i:Nat) (v:Value):Nat->Value:=λj=>if j=i then v else V j
theorem Lw (q:Good N ops B) {b:Nat->Bool} {V:Nat->Value} {a:Act} {i:Nat} {o:Oper} (h:vk N ops a0 b V a) (n:ops[i]?=aa o) (v:Value) (r:V i=v) :
  vk N ops a0 (gW b i) V (a.put o.dst v):=by
 cases hd:o.dst with
 | none=>
  refine⟨h.size,h.jX,λt j f m=>?_,λt c=>?_⟩
  ·have g:j≠i:=by
    rintro rfl;rw[FZ n,hd]at f;cases f
   simp only[gW,g,if_false]at m;exact h.done t j f m
  ·refine h.nM t (λj f=>?_);have:=c j f;simp only[gW]at this;split at this
   ·cases this
   ·exact this
 | some d=>
  have p:=(q.DF i o n).2.2 d hd;have k:writes ops i d:=(FZ n).2 hd;refine⟨by simpa [Act.put]using h.size,h.jX,λt j f m=>?_,λt c=>?_⟩
  ·by_cases g:j=i
   ·subst g;have:d=t:=by unfold writes at k f;rw[k]at f;exact Option.some.inj f
    subst this;simp[Act.put,h.size,p,r]
   ·simp only[gW,g,if_false]at m;have l:d≠t:=λe=>g (q.once j i t f (e ▸ k));simp only[Act.put];rw[Array.getElem?_setIfInBounds_ne l];exact h.done t j f m
  ·have l:d≠t:=λe=>by
    have:=c i (e ▸ k);simp[gW]at this
   simp only[Act.put];rw[Array.getElem?_setIfInBounds_ne l];refine h.nM t (λj f=>?_);have:=c j f;simp only[gW]at this;split at this
   ·cases this
   ·exact this
theorem mY {m i j:Nat}:(m||| 2 ^ i).testBit j=(m.testBit j||decide (i=j)):=by
 rw[Nat.testBit_or,Nat.testBit_two_pow]
theorem Ih (q:Good N ops B) {m:Nat} {V:Nat->Value} {E:Env} {i:Nat} {o:Oper} (k:qm ops E0 m V E) (n:ops[i]?=aa o) (r:m.testBit i=ae) {s:SV} {K:Env->Prop}
  (h:sD N E o.dst s K):∃p,K p/\qm ops E0 (m||| 2 ^ i) (kU V i s.val) p:=by
 unfold sD at h
 cases hd:o.dst with
 | none=>
  rw[hd]at h;refine⟨E,h,λt x f=>⟨λj b g=>?_,λa=>?_⟩⟩
  ·have c:j≠i:=by
    rintro rfl;rw[FZ n,hd]at b;cases b
   rw[mY]at g;simp only[kU,c,if_false];exact(k t x f).1 j b (by simpa [Ne.symm c]using g)
  ·refine(k t x f).2 (λj b=>?_);have:=a j b;rw[mY]at this;simp only[Bool.or_eq_false_iff]at this
   exact this.1
 | some d=>
  rw[hd]at h;simp only at h;split at h
  ·have e:writes ops i d:=(FZ n).2 hd;refine⟨_,h,λt x f=>?_⟩;rw[Env.DP]at f;by_cases l:t=d
   ·subst l;rw[aj rfl]at f;refine⟨λj b _=>?_,λa=>?_⟩
    ·have:j=i:=q.once j i t b e;subst this;simp only[kU,if_true];cases s<;>simp_all [SV.val?,SV.val]
    ·have:=a i e;rw[mY]at this;simp at this
   ·rw[af l]at f;refine⟨λj b g=>?_,λa=>?_⟩
    ·have c:j≠i:=by
      rintro rfl;unfold writes at e b;rw[e]at b;exact l (Option.some.inj b).symm
     rw[mY]at g;simp only[kU,c,if_false];exact(k t x f).1 j b (by simpa [Ne.symm c]using g)
    ·refine(k t x f).2 (λj b=>?_);have:=a j b;rw[mY]at this;simp only[Bool.or_eq_false_iff]at this;exact this.1
  ·exact h.elim
end draw
section draw2
variable {P:Program} {N:Nat} {opa:Array Oper} {ops:List Oper} {B:List Nat} {E0:Env} {a0:Act} {K:Env->World->Prop}
def Told (P:Program) (ops:List Oper) (opa:Array Oper) (B:List Nat) (E0:Env) (m:Nat) (V:Nat->Value) (w:World) (dm:List (Nat×Env×SV)) (i:Nat):Prop:=
 ∃o E mi,ops[i]?=aa o/\wM B mi/\mi.testBit i=ae/\(∀k,(B.getD i 0).testBit k=ag->mi.testBit k=ag)/\(∀k,mi.testBit k=ag->m.testBit k=ag)/\
  qm ops E0 mi V E/\
  (((∀a,pj ops E o a->wantedAt opa o a=ag)/\∃s,Quiet P o E w s/\(ri P o=ae->∀w',Quiet P o E w' s)/\(ri P o=ag->(i,E,s)∈dm)/\s.val=V i)∨
     ((∀a,pj ops E o a->wantedAt opa o a=ae)/\V i=undef))
theorem Ii {m mi:Nat} {V:Nat->Value} {E:Env} {i:Nat} (h:qm ops E0 mi V E) (hs:∀k,mi.testBit k=ag->m.testBit k=ag) (a:m.testBit i=ae) (v:Value) :
  qm ops E0 mi (kU V i v) E:=λt x b=>⟨λj d c=>by
   have:j≠i:=by rintro rfl;rw[hs j c]at a;cases a
   simp only[kU,this,if_false];exact(h t x b).1 j d c,(h t x b).2⟩
theorem KC {m:Nat} {V:Nat->Value} {w:World} {dm pend':List (Nat×Env×SV)} {i j:Nat} {v:Value} (h:Told P ops opa B E0 m V w dm j) (g:m.testBit j=ag)
  (a:m.testBit i=ae) (l:∀x,x∈dm->x∈pend'):Told P ops opa B E0 (m||| 2 ^ i) (kU V i v) w pend' j:=by
 obtain⟨o,E,mi,n,p,q,r,f,t,b⟩:=h;have c:j≠i:=by rintro rfl;rw[g]at a;cases a
 refine⟨o,E,mi,n,p,q,r,λk u=>by rw[mY,f k u];rfl,Ii t f a v,?_⟩;simp only[kU,c,if_false];rcases b with⟨b,s,y,z,d,e⟩|b
 ·exact .inl ⟨b,s,y,z,λA=>l _ (d A),e⟩
 ·exact .inr b
theorem G9 {m i:Nat} (h:wM B m) (hB:∀k,(B.getD i 0).testBit k=ag->m.testBit k=ag):wM B (m||| 2 ^ i):=by
 intro j a k b;rw[mY]at a⊢;simp only[eT,decide_eq_true_eq]at a⊢;rcases a with a|rfl
 ·exact .inl (h j a k b)
 ·exact .inl (hB k b)
def cU (l:Array Bool):Nat->Bool:=λi=>l.getD i ae
theorem mem_ready {l:Array Bool} (f:opa.toList=ops) (hs:l.size=ops.length) {i:Nat} (hi:i∈Region.ready .any opa l) :
  ∃o,ops[i]?=aa o/\cU l i=ae/\∀e∈o.after.toList,rZ e=ag->e.on<ops.length->cU l e.on=ag:=by
 unfold Region.ready at hi;rw[ij,cD]at hi;obtain⟨g,a⟩:=hi;have h:opa.size=ops.length:=by rw[<-f];simp
 simp only[aY]at a;obtain⟨a,c⟩:=a;have b:opa[i]?=aa opa[i]:=CJ g;have j:ops[i]?=aa opa[i]:=by rw[<-f];simp
 refine⟨_,j,?_,λe k m n=>?_⟩
 ·have d:i<l.size:=by omega
  simp only[cU,zN,CJ d,ie]at a⊢;simpa using a
 ·rw[b]at c;simp only[gK,ie]at c;rw[<-Array.all_toList]at c;have:=fL.1 c e k;rw[LZ,m]at this;simpa [cU]using this
end draw2
inductive OT where
 | fin
 | step (i:Nat) (t:OT)
 | alt (a b:OT)
def OT.qP:OT->List Nat
 | .fin=>[]
 | .step i _=>[i]
 | .alt a b=>a.qP++b.qP
def xY (ops:List Oper) (i:Nat):Bool:=match ops[i]? with
 | some o=>AJ o.op
 | none=>ae
def Iu (ops:List Oper) (i:Nat):Bool:=match ops[i]? with
 | some o=>(match o.guard with|none=>ag|some _=>ae)
 | none=>ae
def Ao (ops:List Oper) (B:List Nat) (m:Nat) (l:List Nat):Bool:=(bU ops.length).all λi=>m.testBit i||l.any (dJ i)||!(dJ (B.getD i 0&&& m) (B.getD i 0))
def ny (ops:List Oper) (B:List Nat):Nat->Bool->OT->Bool
 | m,_,.fin=>dJ m (2 ^ ops.length-1)
 | m,c,.step i t=>nr (i+1) ops.length&&!m.testBit i&&dJ (B.getD i 0&&& m) (B.getD i 0)&&
   (match c with
    | true=>xY ops i&&Iu ops i
    | false=>(!xY ops i||Ao ops B m [i]))&&ny ops B (m||| 2 ^ i) ae t
 | m,c,.alt a b=>(match c with
    | true=>ag
    | false=>!(a.qP++b.qP).isEmpty&&Ao ops B m (a.qP++b.qP))&&ny ops B m ag a&&ny ops B m ag b
def mP (P:Program) (N:Nat) (ops:List Oper) (B:List Nat):OT->Env->World->List (Nat×Env×SV)->(Env->World->Prop)->Prop
 | .fin,E,w,_,K=>K E w
 | .step i L,E,w,dm,K=>match ops[i]? with
  | none=>False
  | some o=>DT ops o E
   (λE=>match AJ o.op with
    | false=>EC P o E w λs=>sD N E o.dst s λc=>mP P N ops B L c w (match ri P o with
     | true=>(i,E,s)::dm
     | false=>dm) K
    | true=>Ba P o E w λs w'=>zj P ops (B.getD i 0) w' dm (sD N E o.dst s λc=>mP P N ops B L c w' dm K))
   (λE=>sD N E o.dst (.v undef) λc=>mP P N ops B L c w dm K)
 | .alt a b,E,w,dm,K=>mP P N ops B a E w dm K/\mP P N ops B b E w dm K
def Ar (P:Program) (N:Nat) (ops:List Oper) (L:OT) (E:Env) (w:World) (K:Env->World->Prop):Prop:=
 match vH N (oz ops []) 0 ops&&vJ ops (oz ops []) 0 ops&&ny ops (oz ops []) 0 ae L with
 | true=>∀w',w'.heap=w.heap->w'.os=w.os->w'.tape=w.tape->w'.output=w.output->mP P N ops (oz ops []) L E w' [] K
 | false=>False
def otL:List Nat->OT
 | []=>.fin
 | i::l=>.step i (otL l)
def drawTX (P:Program) (N:Nat) (ops:List Oper) (L:OT) (E:Env) (w:World) (K:Env->World->Prop):Prop:=
 match vH N (oz ops []) 0 ops&&vJ ops (oz ops []) 0 ops&&ny ops (oz ops []) 0 ae L with
 | true=>∀w',w'.heap=w.heap->w'.os=w.os->w'.tape=w.tape->w'.output=w.output->w'.drawn=w.drawn+1->mP P N ops (oz ops []) L E w' [] K
 | false=>False
section draw3
variable {P:Program} {N:Nat} {opa:Array Oper} {ops:List Oper} {B:List Nat} {E0:Env} {a0:Act} {K:Env->World->Prop}
def Ln (P:Program) (N:Nat) (ops:List Oper) (opa:Array Oper) (B:List Nat) (m:Nat) (E:Env) (w:World) (dm:List (Nat×Env×SV)) (K:Env->World->Prop) (e:Nat):Prop:=
 ∃o t b,ops[e]?=aa o/\AJ o.op=ag/\e<ops.length/\m.testBit e=ae/\(∀k,(B.getD e 0).testBit k=ag->m.testBit k=ag)/\ny ops B (m||| 2 ^ e) ae t=ag/\
  vu E b/\(∀a,pj ops E o a->wantedAt opa o a=ag)/\Ba P o b w λs w'=>zj P ops (B.getD e 0) w' dm (sD N b o.dst s λE2=>mP P N ops B t E2 w' dm K)
def Vb (P:Program) (N:Nat) (ops:List Oper) (opa:Array Oper) (B:List Nat) (m:Nat) (E:Env) (w:World) (dm:List (Nat×Env×SV)) (K:Env->World->Prop):Prop:=
 ((∀i,i<ops.length->m.testBit i=ag)/\K E w)∨∃l,l≠[]/\Ao ops B m l=ag/\∀e∈l,Ln P N ops opa B m E w dm K e
structure BU (P:Program) (N:Nat) (ops:List Oper) (opa:Array Oper) (B:List Nat) (E0:Env) (a0:Act) (K:Env->World->Prop) (b:Nat->Bool) (a:Act) (w:World) where
 m:Nat
 V:Nat->Value
 E:Env
 dm:List (Nat×Env×SV)
 closed:wM B m
 sub:∀i,b i=ag->m.testBit i=ag
 env:qm ops E0 m V E
 act:vk N ops a0 b V a
 told:∀i,m.testBit i=ag->b i=ae->Told P ops opa B E0 m V w dm i
 Ak:BS B b
 bZ:Vb P N ops opa B m E w dm K
theorem XH {m:Nat} {l:List Nat} (h:Ao ops B m l=ag) {i:Nat} (hi:i<ops.length) (b:m.testBit i=ae) (hB:∀k,(B.getD i 0).testBit k=ag->m.testBit k=ag):i∈l:=by
 have:=fL.1 h i (cD.2 hi);rw[b,ur,eT]at this;rcases this with a|a
 ·obtain⟨x,c,d⟩:=mF.1 a;rw[jn d];exact c
 ·exfalso
  have e:B.getD i 0&&& m=B.getD i 0:=by
   apply Nat.eq_of_testBit_eq;intro k;rw[xn]
   cases hk:(B.getD i 0).testBit k with
   | false=>rfl
   | true=>rw[hB k hk];rfl
  rw[e,vy]at a;cases a
theorem aeR {m i:Nat} (h:dJ (B.getD i 0&&& m) (B.getD i 0)=ag):∀k,(B.getD i 0).testBit k=ag->m.testBit k=ag:=by
 intro k a;have e:=jn h;rw[<-e,xn]at a;simp only[aY]at a;exact a.2
theorem Oc {m i:Nat} {b:Bool} {t:OT} (h:ny ops B m b (.step i t)=ag) :
  i<ops.length/\m.testBit i=ae/\(∀k,(B.getD i 0).testBit k=ag->m.testBit k=ag)/\(b=ag->xY ops i=ag/\Iu ops i=ag)/\(b=ae->xY ops i=ag->Ao ops B m [i]=ag)/\ny ops B (m||| 2 ^ i) ae t=ag:=by
 simp only[ny,aY]at h;obtain⟨⟨⟨⟨c,d⟩,e⟩,a⟩,f⟩:=h;refine⟨dP c,by simpa using d,aeR e,?_,?_,f⟩
 ·rintro rfl;simpa using a
 ·rintro rfl g;simp only[eT]at a;rcases a with a|a
  ·rw[g]at a;cases a
  ·exact a
theorem CM (h:opa.toList=ops) {m:Nat} {E:Env} {w:World} {dm:List (Nat×Env×SV)}:∀{t:OT},ny ops B m ag t=ag->mP P N ops B t E w dm K->∀e∈t.qP,Ln P N ops opa B m E w dm K e
 | .fin,_,_,e,c=>by cases c
 | .step i t,f,hd,e,c=>by
  obtain⟨c1,c2,c3,c4,_,c6⟩:=Oc f;obtain⟨c4,c5⟩:=c4 rfl;simp only[OT.qP,gJ]at c;subst c;unfold mP at hd;unfold xY at c4;unfold Iu at c5
  cases k:ops[e]? with
  | none=>rw[k]at hd;exact hd.elim
  | some o=>
   rw[k]at hd c4 c5;simp only at hd c4 c5;obtain⟨q,hs,hd⟩:=DU h hd;rcases hd with⟨hd,l⟩|⟨hd,l⟩
   ·rw[c4]at hd;exact⟨o,t,q,k,c4,c1,c2,c3,c6,hs,l,hd⟩
   ·exfalso
    cases n:o.guard with
    | none=>
     have:=l ⟨#[],[]⟩ (λj want d p=>by rw[n]at p;cases p);unfold wantedAt Region.wanted at this;rw[n]at this
     simp at this
    | some g=>rw[n]at c5;cases c5
 | .alt a b,f,hd,e,c=>by
  simp only[ny,aY]at f;unfold mP at hd;simp only[OT.qP,eG]at c;rcases c with c|c
  ·exact CM h f.1.2 hd.1 e c
  ·exact CM h f.2 hd.2 e c
theorem CH (J:opa.toList=ops) (R:Good N ops B) {b:Nat->Bool} {a:Act} {w:World} (l:BS B b) :
  ∀(L:OT) (m:Nat) (V:Nat->Value) (E:Env) (dm:List (Nat×Env×SV)),ny ops B m ae L=ag->wM B m->(∀i,b i=ag->m.testBit i=ag)->
   qm ops E0 m V E->vk N ops a0 b V a->
   (∀i,m.testBit i=ag->b i=ae->Told P ops opa B E0 m V w dm i)->mP P N ops B L E w dm K->Nonempty (BU P N ops opa B E0 a0 K b a w)
 | .fin,m,V,E,dm,p,g,u,I,q,C,c=>⟨⟨m,V,E,dm,g,u,I,q,C,l,.inl ⟨λi hi=>by
   have e:=jn p;rw[e,Nat.testBit_two_pow_sub_one]
   simp[hi],c⟩⟩⟩
 | .alt x y,m,V,E,dm,p,g,u,I,q,C,c=>by
  have h:=p;simp only[ny,aY]at h;refine⟨⟨m,V,E,dm,g,u,I,q,C,l,.inr ⟨x.qP++y.qP,(λe=>by rw[e]at h;exact absurd h.1.1.1 (by simp)),h.1.1.2,λe n=>?_⟩⟩⟩;unfold mP at c;rcases eG.1 n with n|n
  ·exact CM J h.1.2 c.1 e n
  ·exact CM J h.2 c.2 e n
 | .step i L,m,V,E,dm,p,g,u,I,q,C,c=>by
  obtain⟨c1,c2,c3,_,c4,c5⟩:=Oc p;unfold mP at c
  cases z:ops[i]? with
  | none=>rw[z]at c;exact c.elim
  | some o=>
   rw[z]at c;simp only at c;obtain⟨M,hs,c⟩:=DU J c;have r:=I.same hs
   have O:b i=ae:=by
    cases S:b i with
    | false=>rfl
    | true=>rw[u i S]at c2;cases c2
   have Q:∀a,pj ops M o a->pj ops E o a:=λa D j want d p g v U=>D j want d p g v (by rw[hs d];exact U);have Y:∀a,pj ops E o a->pj ops M o a:=λa D j want d p g v U=>D j want d p g v (by rw[<-hs d];exact U)
   have A:∀v,vk N ops a0 b (kU V i v) a:=λv=>⟨q.size,q.jX,λt j f S=>by
    have:j≠i:=by rintro rfl;rw[S]at O;cases O
    simp only[kU,this,if_false];exact q.done t j f S,q.nM⟩
   rcases c with⟨c,T⟩|⟨c,T⟩
   ·cases n:AJ o.op with
    | true=>
     rw[n]at c;simp only at c;refine⟨⟨m,V,E,dm,g,u,I,q,C,l,.inr ⟨[i],by simp,c4 rfl (by unfold xY;rw[z];exact n),λe Z=>?_⟩⟩⟩;obtain rfl:=gJ.1 Z
     exact⟨o,L,M,z,n,c1,c2,c3,c5,hs,T,c⟩
    | false=>
     rw[n]at c;simp only at c;obtain⟨s,hq,W,c⟩:=SY c;obtain⟨E2,c,F⟩:=Ih R r z c2 c;refine CH J R l L (m||| 2 ^ i) (kU V i s.val) E2 _ c5 (G9 g c3) (λj f=>by rw[mY,u j f];rfl) F (A _) (λj f G=>?_) c;rw[mY]at f;simp only[eT,decide_eq_true_eq]at f;rcases f with f|rfl
     ·exact KC (C j f G) f c2 (λx X=>by split<;>simp[X])
     ·refine⟨o,M,m,z,g,c2,c3,λk H=>by rw[mY,H];rfl,Ii r (λk H=>H) c2 _,.inl ⟨λa D=>T a (Q a D),s,hq,W,λhr=>by rw[hr];simp,by simp[kU]⟩⟩
   ·obtain⟨E2,c,F⟩:=Ih R r z c2 c;refine CH J R l L (m||| 2 ^ i) (kU V i undef) E2 _ c5 (G9 g c3) (λj f=>by rw[mY,u j f];rfl) F (A _) (λj f G=>?_) c;rw[mY]at f;simp only[eT,decide_eq_true_eq]at f;rcases f with f|rfl
    ·exact KC (C j f G) f c2 (λx X=>X)
    ·exact⟨o,M,m,z,g,c2,c3,λk H=>by rw[mY,H];rfl,Ii r (λk H=>H) c2 _,.inr ⟨λa D=>T a (Q a D),by simp[kU]⟩⟩
theorem U0 (hP:jg P=ag) (hl:opa.toList=ops) (G:Good N ops B) (h0:bV N E0 a0) {Q:Exit->Act->World->Prop}
  (hQ:∀E a w,bV N E a->K E w->Q .normal a w):∀(n:Nat) (l:Array Bool) (a:Act) (w:World),l.size=ops.length->
   ((bU ops.length).filter λi=>!cU l i).length=n->BU P N ops opa B E0 a0 K (cU l) a w->wpAny P .any opa Q n l a w
 | 0,l,a,w,hs,hn,I=>by
  have H:∀i,i<ops.length->cU l i=ag:=by
   intro i hi
   cases u:cU l i with
   | true=>rfl
   | false=>
    have:i∈(bU ops.length).filter λi=>!cU l i:=ij.2 ⟨cD.2 hi,by simp[u]⟩;rw[lM hn]at this;cases this
  refine⟨?_,?_⟩
  ·refine List.eq_nil_iff_forall_not_mem.2 (λi hi=>?_);obtain⟨o,p,u,_⟩:=mem_ready hl hs hi;rw[H i (dQ.1 p).1]at u;cases u
  ·rcases I.bZ with⟨_,hK⟩|⟨l',be,U,am⟩
   ·refine hQ I.E a w ⟨I.act.size,I.act.jX,λt x C=>?_⟩ hK;have hE:=I.env t x C;by_cases y:∃j,writes ops j t
    ·obtain⟨j,f⟩:=y;obtain⟨oj,cq,_⟩:=Ga f;have J:=H j (dQ.1 cq).1;rw[I.act.done t j f J,hE.1 j f (I.sub j J)]
    ·rw[I.act.nM t (λk z=>absurd ⟨k,z⟩ y)];exact h0.mZ t x (hE.2 (λk z=>absurd ⟨k,z⟩ y))
   ·cases l' with
    | nil=>exact absurd rfl be
    | cons e l'=>
     obtain⟨_,_,_,_,_,c1,c2,_⟩:=am e (by simp);rw[I.sub e (H e c1)]at c2
     cases c2
 | n+1,l,a,w,hs,hn,I=>by
  have en:opa.size=ops.length:=by rw[<-hl];simp
  refine⟨λhr=>?_,λi hi=>?_⟩
  ·exfalso
   have cr:∃i,i<ops.length/\cU l i=ae:=by
    cases hf:(bU ops.length).filter (λi=>!cU l i)with
    | nil=>rw[hf]at hn;cases hn
    | cons x r=>
     have C:x∈(bU ops.length).filter (λi=>!cU l i):=by rw[hf];exact i6
     rw[ij,cD]at C;exact⟨x,C.1,by simpa using C.2⟩
   have bl:∀k,(∃i,i<=k/\i<ops.length/\cU l i=ae)->∃i,i<ops.length/\cU l i=ae/\∀j,j<i->cU l j=ag:=by
    intro k
    induction k with
    | zero=>
     rintro⟨i,hi,L,W⟩
     exact⟨i,L,W,λj f=>by omega⟩
    | succ k ih=>
     rintro⟨i,hi,L,W⟩;by_cases X:∃j,j<=k/\j<ops.length/\cU l j=ae
     ·exact ih X
     ·refine⟨i,L,W,λj f=>?_⟩
      cases u:cU l j with
      | true=>rfl
      | false=>exact absurd ⟨j,by omega,by omega,u⟩ X
   obtain⟨x,dc,dl⟩:=cr;obtain⟨i,L,W,h3⟩:=bl x ⟨x,aX _,dc,dl⟩
   have g:i∈Region.ready .any opa l:=by
    unfold Region.ready;rw[ij,cD];have bm:i<opa.size:=by omega
    have bs:opa[i]?=aa opa[i]:=CJ bm;have p:ops[i]?=aa opa[i]:=by rw[<-hl];simp
    refine⟨bm,?_⟩;rw[bs];simp only[gK,ie,aY];constructor
    ·have ap:i<l.size:=by omega
     simp only[cU,zN,CJ ap,ie]at W⊢;simp[W]
    ·rw[<-Array.all_toList];refine fL.2 (λe he=>?_);rw[LZ]
     cases u:rZ e with
     | false=>rfl
     | true=>
      have:=h3 e.on ((G.DF i _ p).2.1 e he u);simpa [cU]using this
   rw[hr]at g;cases g
  ·obtain⟨o,p,u,dn⟩:=mem_ready hl hs hi;have M:i<ops.length:=(dQ.1 p).1;have bv:opa[i]?=aa o:=by rw[<-hl]at p;simpa using p
   have D:∀k,(B.getD i 0).testBit k=ag->cU l k=ag:=by
    intro k z;rw[(G.DF i o p).1]at z;obtain⟨e,he,bw,z⟩:=VT.1 z;have bz:=dn e he bw (by have:=(G.DF i o p).2.1 e he bw;omega);rcases z with rfl|z
    ·exact bz
    ·exact I.Ak e.on bz k z
   have ds:∀j,cU (l.setIfInBounds i ag) j=gW (cU l) i j:=by
    intro j;simp only[cU,gW,zN,Array.getElem?_setIfInBounds];by_cases aq:j=i
    ·subst aq;simp[show j<l.size by omega]
    ·simp[aq,Ne.symm aq]
   have q:cU (l.setIfInBounds i ag)=gW (cU l) i:=funext ds
   have Y:BS B (cU (l.setIfInBounds i ag)):=by
    rw[q];intro j f k z;unfold gW at f⊢;by_cases c:j=i
    ·subst c;split
     ·rfl
     ·exact D k z
    ·rw[af c]at f;split
     ·rfl
     ·exact I.Ak j f k z
   have R:((bU ops.length).filter λj=>!cU (l.setIfInBounds i ag) j).length=n:=by
    have key:∀(r:List Nat),r.Nodup->i∈r->(r.filter λj=>!gW (cU l) i j).length+1=(r.filter λj=>!cU l j).length:=by
     intro r
     induction r with
     | nil=>intro _ h;cases h
     | cons x r ih=>
      intro S g;rw[mG]at S;rcases ez.1 g with rfl|g
      ·have L:(r.filter λj=>!gW (cU l) i j)=r.filter λj=>!cU l j:=by
        refine pB (λj f=>?_);have:j≠i:=λe=>S.1 (e ▸ f);simp[gW,this]
       rw[xo,xo];simp[gW,u];simpa [gW]using congrArg gu L
      ·have dv:x≠i:=λe=>S.1 (e ▸ g);have L:=ih S.2 g;rw[xo,xo];have:gW (cU l) i x=cU l x:=by simp[gW,dv]
       rw[this];cases cU l x
       ·simp only[tc,if_true,il];omega
       ·simpa using L
    have:=key (bU ops.length) rS (cD.2 M);rw[q];omega
   have cb:(l.setIfInBounds i ag).size=ops.length:=by simpa using hs
   have A:∀a' w',Nonempty (BU P N ops opa B E0 a0 K (gW (cU l) i) a' w')->wpAny P .any opa Q n (l.setIfInBounds i ag) a' w':=by
    rintro a' w' ⟨I'⟩;exact U0 hP hl G h0 hQ n _ a' w' cb R (q ▸ I')
   unfold wpOp;rw[bv];simp only
   cases F:I.m.testBit i with
   | true=>
    obtain⟨o',E,mi,L,W,h3,h4,h5,h6,h7⟩:=I.told i F u;rw[p]at L;obtain rfl:=Option.some.inj L;obtain⟨az,T⟩:=JQ (E:=E) (o:=o) (a:=a) (λt ht x C=>Kf G h0 W I.Ak h6 I.act p h3 u h4 D ht C)
    have fin:∀v,I.V i=v->Nonempty (BU P N ops opa B E0 a0 K (gW (cU l) i) (a.put o.dst v) w):=by
     intro v hv;refine⟨⟨I.m,I.V,I.E,I.dm,I.closed,λj f=>?_,I.env,Lw G I.act p v hv,λj f d=>?_,q ▸ Y,I.bZ⟩⟩
     ·unfold gW at f;by_cases c:j=i
      ·rw[c];exact F
      ·rw[af c]at f;exact I.sub j f
     ·unfold gW at d;by_cases c:j=i
      ·rw[aj c]at d;cases d
      ·rw[af c]at d;exact I.told j f d
    rcases h7 with⟨y,s,hq,_,_,hv⟩|⟨y,hv⟩
    ·have y:=y a T;unfold wantedAt at y;rw[aj y];refine .inl ?_;unfold Oper.wp;rw[hq a az];exact A _ _ (fin _ hv.symm)
    ·have y:=y a T;unfold wantedAt at y;rw[af (by rw[y];simp)]
     exact A _ _ (fin _ hv)
   | false=>
    rcases I.bZ with⟨hL,_⟩|⟨l',be,U,am⟩
    ·rw[hL i M]at F;cases F
    ·have ap:=XH U M F (λk z=>I.sub k (D k z));obtain⟨oe,L',E',cc,eo,c1,c2,c3,c5,dx,ea,ec⟩:=am i ap;rw[p]at cc;obtain rfl:=Option.some.inj cc;have O:=I.env.same dx;obtain⟨az,_⟩:=JQ (E:=E') (o:=o) (a:=a) (λt ht x C=>Kf G h0 I.closed I.Ak O I.act p c2 u c3 D ht C);obtain⟨_,T⟩:=JQ (E:=I.E) (o:=o) (a:=a) (λt ht x C=>Kf G h0 I.closed I.Ak I.env I.act p c2 u c3 D ht C);have y:=ea a T;unfold wantedAt at y;rw[aj y];refine .inl (SU hP ec a az _ Q (λs w' ed=>A _ _ ?_));obtain⟨cd,bb⟩:=Kn ed;obtain⟨E2,ee,eg⟩:=Ih G O p c2 cd;refine CH hl G (b:=gW (cU l) i) (q ▸ Y) L' (I.m||| 2 ^ i) (kU I.V i s.val) E2 I.dm c5 (G9 I.closed c3) (λj f=>?_) eg ?_ (λj f d=>?_) ee
     ·unfold gW at f;rw[mY];by_cases c:j=i
      ·simp[c]
      ·rw[af c]at f;rw[I.sub j f];rfl
     ·have hA:vk N ops a0 (cU l) (kU I.V i s.val) a:=⟨I.act.size,I.act.jX,λt j f J=>by
       have:j≠i:=by rintro rfl;rw[J]at u;cases u
       simp only[kU,this,if_false];exact I.act.done t j f J,I.act.nM⟩
      exact Lw G hA p s.val (by simp[kU])
     ·unfold gW at d;by_cases c:j=i
      ·rw[aj c]at d;cases d
      ·rw[af c]at d
       have ce:I.m.testBit j=ag:=by
        rw[mY]at f;simpa [Ne.symm c]using f
       have ht:=KC (i:=i) (v:=s.val) (pend':=I.dm) (I.told j ce d) ce F (λx C=>C);obtain⟨oj,Ej,mj,t1,t2,t3,t4,t5,t6,t7⟩:=ht;refine⟨oj,Ej,mj,t1,t2,t3,t4,t5,t6,?_⟩;rcases t7 with⟨ei,sj,ep,Z,al,ej⟩|t7
       ·refine .inl ⟨ei,sj,?_,Z,al,ej⟩
        cases hr:ri P oj with
        | false=>exact Z hr w'
        | true=>
         have ek:(B.getD i 0).testBit j=ae:=by
          cases el:(B.getD i 0).testBit j with
          | false=>rfl
          | true=>rw[D j el]at d;cases d
         obtain⟨o2,cl,em⟩:=bb j Ej sj (al hr) ek;rw[t1]at cl;obtain rfl:=Option.some.inj cl;exact em
       ·exact .inr t7
theorem drawT_core (m:jg P=ag) (f:opa.toList=ops) {L:OT} {w:World} (g:bV N E0 a0) {Q:Exit->Act->World->Prop}
  (n:∀E a w,bV N E a->K E w->Q .normal a w) (k:(vH N (oz ops []) 0 ops&&vJ ops (oz ops []) 0 ops&&ny ops (oz ops []) 0 ae L)=ag) (h:mP P N ops (oz ops []) L E0 {w with drawn:=w.drawn+1} [] K):wpAny P .any opa Q opa.size (qz opa.size ae) a0 {w with drawn:=w.drawn+1}:=by
 simp only[aY]at k;obtain⟨⟨p,q⟩,r⟩:=k;have l:=Zk p q;have d:opa.size=ops.length:=by rw[<-f];simp
 have e:∀i,cU (qz opa.size ae) i=ae:=by
  intro i;simp only[cU,zN,Array.getElem?_replicate];split<;>rfl
 obtain⟨I⟩:=CH (P:=P) (K:=K) (E0:=E0) (a0:=a0) f l (b:=cU (qz opa.size ae)) (a:=a0) (w:={w with drawn:=w.drawn+1}) (λj c=>(by rw[e]at c;cases c)) L 0 (λ_=>undef) E0 [] r
  (λj c=>(by simp at c)) (λj c=>(by rw[e]at c;cases c)) (λt x s=>⟨λj _ c=>by simp at c,λ_=>s⟩)
  ⟨g.size,g.jX,λt j _ c=>(by rw[e]at c;cases c),λt _=>rfl⟩ (λj c=>by simp at c) h
 refine U0 m f l g n opa.size _ a0 _ (by simp[d]) ?_ I;rw[d]
 have:(bU ops.length).filter (λi=>!cU (qz ops.length ae) i)=bU ops.length:=by
  refine List.filter_eq_self.2 (λi _=>?_);have:=e i;rw[d]at this;rw[this];rfl
 rw[this,List.length_range]
theorem drawTQ_any (b:jg P=ag) (c:opa.toList=ops) {L:OT} {w:World} (d:bV N E0 a0) {Q:Exit->Act->World->Prop}
  (e:∀E a w,bV N E a->K E w->Q .normal a w) (h:Ar P N ops L E0 w K):wpAny P .any opa Q opa.size (qz opa.size ae) a0 {w with drawn:=w.drawn+1}:=by
 unfold Ar at h;split at h
 ·rename_i f;exact drawT_core b c d e f (h _ rfl rfl rfl rfl)
 ·exact h.elim
theorem OK (b:jg P=ag) (c:opa.toList=ops) {L:OT} {w:World} (d:bV N E0 a0) {Q:Exit->Act->World->Prop}
  (e:∀E a w,bV N E a->K E w->Q .normal a w) (h:Ar P N ops L E0 w K) {id:Nat}:(Code.region id opa ag).wp P Q a0 w:=by
 have f:P.follows .mixedOrders=ag:=by
  simp only[jg,aY]at b;exact b.2
 exact wp_region_any f (drawTQ_any b c d e h)
theorem drawTX_any (b:jg P=ag) (c:opa.toList=ops) {L:OT} {w:World} (d:bV N E0 a0) {Q:Exit->Act->World->Prop}
  (e:∀E a w,bV N E a->K E w->Q .normal a w) (h:drawTX P N ops L E0 w K):wpAny P .any opa Q opa.size (qz opa.size ae) a0 {w with drawn:=w.drawn+1}:=by
 unfold drawTX at h;split at h
 ·rename_i f;exact drawT_core b c d e f (h _ rfl rfl rfl rfl rfl)
 ·exact h.elim
theorem drawTX_sound (b:jg P=ag) (c:opa.toList=ops) {L:OT} {w:World} (d:bV N E0 a0) {Q:Exit->Act->World->Prop}
  (e:∀E a w,bV N E a->K E w->Q .normal a w) (h:drawTX P N ops L E0 w K) {id:Nat}:(Code.region id opa ag).wp P Q a0 w:=by
 have f:P.follows .mixedOrders=ag:=by
  simp only[jg,aY]at b;exact b.2
 exact wp_region_any f (drawTX_any b c d e h)
end draw3
inductive Ex where
 | fA
 | exit (n:Nat)
 | ret
abbrev fe:=Ex->Env->World->Prop
structure Mt where
 N:Nat
 keep:List (Nat×List Nat)
 bX:List (Nat×List Nat):=[]
 bk:List (Nat×List Nat):=[]
 cE:List (Nat×List Nat):=[]
 lk:List (Nat×List Nat):=[]
 alts:List (Nat×OT):=[]
 ref:Bool:=ag
 ex:Bool:=ae
def kE:List (Nat×List Nat)->Nat->List Nat
 | [],_=>[]
 | (k,x)::l,id=>match dJ k id with
  | true=>x
  | false=>kE l id
def AV:List (Nat×OT)->Nat->Option OT
 | [],_=>ah
 | (k,x)::l,id=>match dJ k id with
  | true=>aa x
  | false=>AV l id
def Jh (N:Nat) (K:fe):Exit->Act->World->Prop
 | .normal,a,w=>∃E,bV N E a/\K .fA E w
 | .exit n,a,w=>∃E,bV N E a/\K (.exit n) E w
 | .ret,a,w=>∃E,bV N E a/\K .ret E w
 | _,_,_=>False
def WP (P:Program) (N:Nat) (c:Code) (E:Env) (w:World) (K:fe):Prop:=∀a,bV N E a->c.wp P (Jh N K) a w
def j6 (D:Env->World->Prop) (K:fe):fe:=λex E w=>match ex with
 | .fA=>D E w
 | .exit n=>K (.exit n) E w
 | .ret=>K .ret E w
def bo (id:Nat) (ks:List Nat) (K:fe):fe:=λex E w=>match ex with
 | .fA=>K .fA (E.keep ks) w
 | .exit n=>match dJ n id with
  | true=>K .fA (E.keep ks) w
  | false=>K (.exit n) E w
 | .ret=>K .ret E w
def iu:Code->Option Nat
 | .region id _ _=>aa id
 | .seq a _=>iu a
 | .block _ c=>iu c
 | .loop c=>iu c
 | .scope c=>iu c
 | _=>ah
def jU (l:List (Nat×List Nat)) (n:Option Nat):Option (List Nat):=match n with
 | none=>ah
 | some n=>match l with
  | []=>ah
  | (k,x)::l=>match dJ k n with
   | true=>aa x
   | false=>jU l (aa n)
structure La (P:Program) (M:Mt) (c:Code) (E:Env) (w:World) (K:fe) (p:Prop):Prop where
 out:p
def jQ (ks:Option (List Nat)) (P:Program) (M:Mt) (c:Code) (E:Env) (w:World) (K:fe) (D:Env->Prop):Prop:=match ks with
 | some ks=>La P M c (E.keep ks) w K (D (E.keep ks))
 | none=>D E
def RD (l:List (Nat×List Nat)) (n:Option Nat) (E:Env):Env:=match jU l n with
 | some a=>E.keep a
 | none=>E
def He (E:Env) (c:Operand) (t f:Prop):Prop:=match b7 E c with
 | .b ag=>t
 | .b ae=>f
 | .v (.bool x)=>(x=ag->t)/\(x=ae->f)
 | _=>False
def yQ (M:Mt) (E:Env) (c:Operand) (b:Bool):Env:=match M.ref with
 | false=>E
 | true=>match c with
  | .tmp t=>E.put t (.b b)
  | _=>E
def den (P:Program) (M:Mt):Code->Env->World->fe->Prop
 | .skip,E,w,K=>K .fA E w
 | .region id ops draw,E,w,K=>match draw with
  | false=>sF P M.N ops.toList ops.toList E w λd w'=>K .fA (d.keep (kE M.keep id)) w'
  | true=>match AV M.alts id with
   | some t=>Ar P M.N ops.toList t E w λd w'=>K .fA (d.keep (kE M.keep id)) w'
   | none=>match M.ex with
    | false=>Ar P M.N ops.toList (otL (kE M.bX id)) E w λd w'=>K .fA (d.keep (kE M.keep id)) w'
    | true=>drawTX P M.N ops.toList (otL (kE M.bX id)) E w λd w'=>K .fA (d.keep (kE M.keep id)) w'
 | .seq a b,E,w,K=>den P M a E w (j6 (λE w=>jQ (jU M.cE (iu b)) P M b E w K λE=>den P M b E w K) K)
 | .cond c a b,E,w,K=>He E c (den P M a (yQ M E c ag) w K) (den P M b (yQ M E c ae) w K)
 | .block id c,E,w,K=>den P M c E w (bo id (kE M.bk id) K)
 | .exit id,E,w,K=>K (.exit id) E w
 | .ret,E,w,K=>K .ret E w
 | .loop c,E,w,K=>Cut (WP P M.N (.loop c) (RD M.lk (iu c) E) w K)
 | .rangeFunc f e a b,E,w,K=>Cut (WP P M.N (.rangeFunc f e a b) E w K)
 | .scope c,E,w,K=>den P M c E w K
 | .label _,E,w,K=>K .fA E w
 | .goto l,E,w,K=>Cut (WP P M.N (.goto l) E w K)
 | .refuse s,E,w,K=>Cut (WP P M.N (.refuse s) E w K)
def aU (P:Program) (M:Mt) (c:Code) (E:Env) (w:World) (K:fe):Prop:=La P M c E w K (den P M c E w K)
theorem aU.mk {P:Program} {M:Mt} {c:Code} {E:Env} {w:World} {K:fe} (h:den P M c E w K):aU P M c E w K:=⟨h⟩
theorem Oi {E:Env} {c:Operand} {t f:Prop} (h:He E c t f):∃b,(b7 E c).val?=aa (.bool b)/\(if b then t else f):=by
 unfold He at h;split at h
 ·rename_i he;exact⟨ag,by rw[he];rfl,h⟩
 ·rename_i he;exact⟨ae,by rw[he];rfl,h⟩
 ·rename_i x he;refine⟨x,by rw[he];rfl,?_⟩;cases x
  ·exact h.2 rfl
  ·exact h.1 rfl
 ·exact h.elim
theorem qK {P:Program} {M:Mt} (k:jg P=ag):∀(c:Code) (E:Env) (w:World) (K:fe),den P M c E w K->WP P M.N c E w K
 | .skip,E,w,K,h=>λa d=>wp_skip ⟨E,d,h⟩
 | .region id ops draw,E,w,K,h=>λa d=>by
  cases draw with
  | false=>
   exact wp_region_list (Ff k rfl (K:=λe w'=>K .fA (e.keep (kE M.keep id)) w') (λe m w' g p=>⟨_,g.keep _,p⟩) _ _ _ _ d h)
  | true=>
   simp only[den]at h;split at h
   ·exact OK k rfl (K:=λe w'=>K .fA (e.keep (kE M.keep id)) w') d (λe m w' g p=>⟨_,g.keep _,p⟩) h
   ·split at h
    ·exact OK k rfl (K:=λe w'=>K .fA (e.keep (kE M.keep id)) w') d (λe m w' g p=>⟨_,g.keep _,p⟩) h
    ·exact drawTX_sound k rfl (K:=λe w'=>K .fA (e.keep (kE M.keep id)) w') d (λe m w' g p=>⟨_,g.keep _,p⟩) h
 | .seq x y,E,w,K,h=>λa d=>by
  refine wp_seq (wp_mono (qK k x E w _ h a d) (λex m w' i=>?_))
  cases ex with
  | normal=>
   obtain⟨e,q,j⟩:=i;simp only[j6,jQ]at j;split at j
   ·exact qK k y _ w' K j.out m (q.keep _)
   ·exact qK k y e w' K j m q
  | exit n=>exact i
  | ret=>exact i
  | _=>exact i.elim
 | .cond c x y,E,w,K,h=>λa d=>by
  obtain⟨b,r,h⟩:=Oi h;refine wp_cond (d.ev c _ r) ?_
  have u:bV M.N (yQ M E c b) a:=by
   unfold yQ;split
   ·exact d
   ·split
    ·exact d.TO _ b (by simpa [b7]using r)
    ·exact d
  cases b with
  | true=>exact qK k x _ w K h a u
  | false=>exact qK k y _ w K h a u
 | .block id c,E,w,K,h=>λa d=>by
  refine wp_block (wp_mono (qK k c E w _ h a d) (λex m w' i=>?_))
  cases ex with
  | normal=>obtain⟨e,q,j⟩:=i;exact⟨_,q.keep _,j⟩
  | exit n=>
   obtain⟨e,q,j⟩:=i;simp only[Exit.inBlock];simp only[bo]at j;by_cases t:n=id
   ·subst t;rw[aj rfl];rw[vy]at j;exact⟨_,q.keep _,j⟩
   ·rw[af t]
    have r:dJ n id=ae:=by
     cases r:dJ n id with
     | false=>rfl
     | true=>exact absurd (jn r) t
    rw[r]at j
    exact⟨e,q,j⟩
  | ret=>exact i
  | _=>exact i.elim
 | .exit id,E,w,K,h=>λa d=>wp_exit ⟨E,d,h⟩
 | .ret,E,w,K,h=>λa d=>wp_ret ⟨E,d,h⟩
 | .loop c,E,w,K,h=>λa d=>by
  refine h.out a ?_;unfold RD;split
  ·exact d.keep _
  ·exact d
 | .rangeFunc f z x y,E,w,K,h=>h.out
 | .scope c,E,w,K,h=>λa d=>by
  refine wp_scope_straight (wp_mono (qK k c E w K h a d) (λex m w' i=>?_))
  cases ex<;>first|exact i|exact i.elim
 | .label l,E,w,K,h=>λa d=>wp_label ⟨E,d,h⟩
 | .goto l,E,w,K,h=>h.out
 | .refuse s,E,w,K,h=>h.out
def vm (E:Env):Env->Prop
 | []=>True
 | (k,s)::T=>(E.get k).val?=s.val?/\vm E T
theorem vm.agree {N:Nat} {E:Env} {a:Act} (c:bV N E a):∀{T:Env},vm E T->bV N T a
 | [],_=>⟨c.size,c.jX,λt x b=>by simp[Env.get,SV.val?]at b⟩
 | (k,s)::T,h=>by
  have e:=vm.agree c h.2;refine⟨c.size,c.jX,λt x b=>?_⟩;simp only[Env.get]at b
  cases d:dJ k t with
  | true=>
   rw[d]at b;have:=jn d;subst this
   exact c.mZ _ x (by rw[h.1];exact b)
  | false=>rw[d]at b;exact e.mZ t x b
theorem DJ {p:Nat->Prop} (h:∃n,p n):∃n,p n/\∀m,p m->n<=m:=by
 obtain⟨n,e⟩:=h
 induction n using Nat.strongRecOn with
 | _ n f=>
  by_cases d:∃m,m<n/\p m
  ·obtain⟨m,a,b⟩:=d;exact f m a b
  ·exact⟨n,e,λm a=>Nat.le_of_not_lt λc=>d ⟨m,c,a⟩⟩
theorem ame {P:Program} {c:Code} {Q:Exit->Act->World->Prop} {a:Act} {w:World} (I:Nat->Act->World->Prop) (h₀:∃n,I n a w)
  (round:∀n a w,I n a w->c.wp P (Exit.then (λd w'=>∃m,m<n/\I m d w') Q) a w):(bh c).wp P Q a w:=by
 classical
 refine wp_loop (λa w=>∃n,I n a w) (λa w=>if h:∃n,I n a w then Classical.choose (DJ h)else 0) h₀ (λa w h=>?_);have g:=Classical.choose_spec (DJ h);refine wp_mono (round _ a w g.1) (λex d w' f=>?_)
 cases ex with
 | normal=>
  obtain⟨m,i,hI⟩:=f;have b:∃n,I n d w':=⟨m,hI⟩;refine⟨b,?_⟩;have e:=Classical.choose_spec (DJ b);simp only[dif_pos b,dif_pos h]
  exact Nat.lt_of_le_of_lt (e.2 m hI) i
 | _=>exact f
def bC (B:Env->World->Prop) (K:fe):fe:=λex E w=>match ex with
 | .fA=>B E w
 | .exit n=>K (.exit n) E w
 | .ret=>K .ret E w
theorem bO {P:Program} {M:Mt} (g:jg P=ag) {c:Code} {E:Env} {w:World} {K:fe} {σ:Type} (tm:σ->Env) (I:σ->World->Prop) (μ:σ->World->Nat) (e:σ)
  (i:vm E (tm e)) (hI:I e w) (round:∀s w,I s w->den P M c (tm s) w (bC (λf w'=>∃b,vm f (tm b)/\I b w'/\μ b w'<μ s w) K)):WP P M.N (.loop c) E w K:=by
 intro a j;refine ame (λn a w=>∃s,bV M.N (tm s) a/\I s w/\μ s w=n) ⟨_,e,i.agree j,hI,rfl⟩ (λn a w h=>?_);obtain⟨s,k,l,rfl⟩:=h;refine wp_mono (qK g c _ w _ (round s w l) a k) (λex t w' d=>?_)
 cases ex with
 | normal=>
  obtain⟨f,m,b,p,q,r⟩:=d
  exact⟨_,r,b,p.agree m,q,rfl⟩
 | exit n=>exact d
 | ret=>exact d
 | _=>exact d.elim
def jv:Nat->List Value->Env
 | _,[]=>[]
 | i,v::vs=>(i,.v v)::jv (i+1) vs
theorem Gt:∀(vs:List Value) (i t:Nat) (x:Value),((jv i vs).get t).val?=aa x->i<=t/\vs[t-i]?=aa x
 | [],i,t,x,h=>by simp[jv,Env.get,SV.val?]at h
 | v::vs,i,t,x,h=>by
  simp only[jv,Env.get]at h
  cases a:dJ i t with
  | true=>
   rw[a]at h;have:=jn a;subst this
   simpa [SV.val?]using h
  | false=>
   rw[a]at h;obtain⟨c,b⟩:=Gt vs (i+1) t x h;refine⟨by omega,?_⟩;rw[show t-i=(t-(i+1))+1 by omega];simpa using b
def yR (P:Program) (w:World) (E:Env):List ResultVar->(List Value->Prop)->Prop
 | [],F=>F []
 | .tmp t::rs,F=>dj (E.get t) λv=>yR P w E rs λvs=>F (v::vs)
 | .cell x t::rs,F=>dj (E.get x) λv=>tQ v λad=>Ee P w t ad λv=>yR P w E rs λvs=>F (v::vs)
def Bj:List Value->Value
 | [v]=>v
 | vs=>.tuple vs.toArray
def j0 (P:Program) (rs:List ResultVar) (R:Ending->World->Prop):fe:=λex E w=>match ex with
 | .exit _=>False
 | .fA=>yR P w E rs λvs=>R (.returned (Bj vs)) w
 | .ret=>yR P w E rs λvs=>R (.returned (Bj vs)) w
def wC (a:Act):ResultVar->Sem Value
 | .tmp t=>pure (a.tmps.getD t undef)
 | .cell x t=>do loadVar t (<-asAddr (a.tmps.getD x undef))
theorem adr (fn:Func) (a:Act):results fn a.tmps=(fn.results.mapM (wC a))>>=λvs=>pure (if h:vs.size=1 then vs[0]else .tuple vs):=by
 unfold results;congr 2
theorem JT {P:Program} {w:World} {E:Env} {N:Nat} {a:Act} (b:bV N E a):∀{rs:List ResultVar} {F:List Value->Prop},yR P w E rs F->
  ∃vs,F vs/\(rs.mapM (wC a)).run P w=.ok vs w
 | [],F,h=>⟨[],h,by simp⟩
 | .tmp t::rs,F,h=>by
  obtain⟨v,c,_,h⟩:=du h;obtain⟨vs,d,e⟩:=JT b h;refine⟨v::vs,d,?_⟩;have f:(wC a (.tmp t)).run P w=.ok v w:=by simp[wC,b.mZ t v c]
  simp only[List.mapM_cons,qw,Sem.run_pure,qx,f,e]
 | .cell x t::rs,F,h=>by
  obtain⟨v,c,_,h⟩:=du h;obtain⟨ad,rfl,h⟩:=uW h;obtain⟨u,g,h⟩:=RP h;obtain⟨vs,d,e⟩:=JT b h;refine⟨u::vs,d,?_⟩;have f:(wC a (.cell x t)).run P w=.ok u w:=by simp[wC,b.mZ x _ c,asAddr,g]
  simp only[List.mapM_cons,qw,Sem.run_pure,qx,f,e]
theorem EX {P:Program} {w:World} {E:Env} {N:Nat} {a:Act} {fn:Func} (b:bV N E a) {R:Ending->World->Prop} (h:yR P w E fn.results.toList λvs=>R (.returned (Bj vs)) w) :
  ∃v,(results fn a.tmps).run P w=.ok v w/\R (.returned v) w:=by
 obtain⟨vs,c,d⟩:=JT b h;refine⟨Bj vs,?_,c⟩
 have e:(fn.results.mapM (wC a)).run P w=.ok vs.toArray w:=by
  rw[Array.mapM_eq_mapM_toList];simp[d]
 rw[adr,qw,e,qx]
 match vs with
 | []=>rfl
 | [v]=>rfl
 | v::u::vs=>simp[Bj]
theorem xL {P:Program} {M:Mt} (j:jg P=ag) {f:FuncId} {fn:Func} {c:Code} (k:P.funcs[f]?=aa fn) (l:fn.body=aa c) (m:fn.ntmps=M.N) {args:List Value}
  (hA:args.length<=M.N) {w:World} {R:Ending->World->Prop} (h:den P M c (jv 0 args) w (j0 P fn.results.toList R)):Calls P f args.toArray w R:=by
 refine calls_of_wp k l ?_
 have p:bV M.N (jv 0 args) {tmps:=args.toArray++qz (fn.ntmps-args.toArray.size) undef,defers:=[]}:=by
  refine⟨by simp[m];omega,rfl,λt x q=>?_⟩;obtain⟨_,a⟩:=Gt args 0 t x q;simp only[Nat.sub_zero]at a;have e:t<args.length:=(dQ.1 a).1;rw[xt (by simpa using e)];simpa using a
 refine wp_mono (qK j c _ w _ h _ p) (λex r w' d=>?_)
 cases ex with
 | normal=>
  obtain⟨E,b,a⟩:=d;obtain⟨v,g,i⟩:=EX b a
  exact⟨b.jX,v,g,i⟩
 | ret=>
  obtain⟨E,b,a⟩:=d;obtain⟨v,g,i⟩:=EX b a
  exact⟨b.jX,v,g,i⟩
 | exit n=>obtain⟨E,_,a⟩:=d;exact a.elim
 | _=>exact d.elim
def a8 (f:Func):Code:=match f.body with|some c=>c|none=>.skip
def _root_.Go.Code.sl:Code->Code
 | .seq a _=>a
 | .cond _ a _=>a
 | .block _ c=>c
 | .loop c=>c
 | .scope c=>c
 | c=>c
def _root_.Go.Code.sr:Code->Code
 | .seq _ b=>b
 | .cond _ _ b=>b
 | c=>c
theorem bu:jg Tryz.prog=ag:=by kernel_rfl
abbrev I (n:Int):Value:=.int .i64 n
abbrev Z (v:Value):Ending:=.returned v
abbrev N3:Value:=.slice ah 0 0
abbrev RT:=Ending->World->Prop
abbrev Rt (f:Func) (R:RT):fe:=j0 Tryz.prog f.results.toList R
abbrev SQ (M:Mt) (c:Code) (K a:fe):fe:=j6 (λE w=>jQ (jU M.cE (iu c)) Tryz.prog M c E w K λE=>den Tryz.prog M c E w K) a
def kp:Nat->List (List Nat)->List (Nat×List Nat)
 | _,[]=>[]
 | n,a::l=>(n,a)::kp (n+1) l
abbrev Sm (w:World) (Q:World->Prop):Prop:=∀w',w'.heap=w.heap->w'.os=w.os->w'.tape=w.tape->w'.output=w.output->Q w'
abbrev UT (k:FuncId) (M:Mt) (c:Code) (fn:Func):Prop:=∀⦃vs:List Value⦄ ⦃w:World⦄ ⦃R:RT⦄,den Tryz.prog M c (jv 0 vs) w (Rt fn R)->(hA:nr vs.length M.N=ag:=by rfl)->Calls Tryz.prog k vs.toArray w R
theorem u_ {k:FuncId} {M:Mt} {c:Code} {fn:Func} (b:Tryz.prog.funcs[k]?=aa fn) (a:(fn.body,fn.ntmps)=(aa c,M.N)):UT k M c fn:=
 λ_ _ _ h hA=>xL bu b (congrArg fv a) (congrArg Prod.snd a) (dP hA) h
abbrev Fz (b:Bool) (A B:Prop):Prop:=(b=ae->A)/\(b=ag->B)
abbrev Fo (b:Bool) (A B:Prop):Prop:=(b=ag->A)/\(b=ae->B)
abbrev Li (w:World) (a:Addr) (P:Int->Prop):Prop:=∃n,w.cell? a=aa (.int .i64 n)/\P n
abbrev Lu (w:World) (a:Addr) (P:Int->Prop):Prop:=∃n,w.cell? a=aa (.int .u64 n)/\P n
abbrev Lj (w:World) (a:Addr) (P:Bool->Prop):Prop:=∃n,w.cell? a=aa (.bool n)/\P n
abbrev Lp (w:World) (a:Addr) (P:Option Addr->Prop):Prop:=∃n,w.cell? a=aa (.pointer n)/\P n
abbrev Lq (w:World) (a:Addr) (P:Option Addr->Nat->Nat->Prop):Prop:=∃p n c,w.cell? a=aa (.slice p n c)/\P p n c
abbrev Ci (k:FuncId) (a:List Value) (w:World) (P:Int->World->Prop):Prop:=Call Tryz.prog k a w λe w'=>∃n,e=.returned (.int .i64 n)/\P n w'
abbrev Cu (k:FuncId) (a:List Value) (w:World) (P:Int->World->Prop):Prop:=Call Tryz.prog k a w λe w'=>∃n,e=.returned (.int .u64 n)/\P n w'
abbrev Cj (k:FuncId) (a:List Value) (w:World) (P:Bool->World->Prop):Prop:=Call Tryz.prog k a w λe w'=>∃n,e=.returned (.bool n)/\P n w'
abbrev Cp (k:FuncId) (a:List Value) (w:World) (P:Option Addr->World->Prop):Prop:=Call Tryz.prog k a w λe w'=>∃n,e=.returned (.pointer n)/\P n w'
abbrev Cq (k:FuncId) (a:List Value) (w:World) (P:Option Addr->Nat->Nat->World->Prop):Prop:=Call Tryz.prog k a w λe w'=>∃p n c,e=.returned (.slice p n c)/\P p n c w'
abbrev Ct (k:FuncId) (a:List Value) (w:World) (P:Int->Int->World->Prop):Prop:=Call Tryz.prog k a w λe w'=>∃n m,e=.returned (.tuple #[.int .i64 n,.int .i64 m])/\P n m w'
abbrev Cn (k:FuncId) (a:List Value) (w:World) (P:World->Prop):Prop:=Call Tryz.prog k a w λe w'=>e=.returned (.tuple #[])/\P w'
def rp:Nat->Nat->List Nat->List (Nat×List Nat)->List (Nat×List Nat)
 | 0,_,_,l=>l
 | c+1,n,a,l=>(n,a)::rp c (n+1) a l
def kq:Nat->List (Nat×List Nat)->List (Nat×List Nat)
 | _,[]=>[]
 | n,(c,a)::l=>rp c n a (kq (n+c) l)
abbrev vI (k:Nat) (n:Int):Nat×SV:=(k,SV.v (.int .i64 n))
abbrev vP (k:Nat) (p:Option Addr):Nat×SV:=(k,SV.v (.pointer p))
abbrev vS (k:Nat) (p:Option Addr) (n c:Nat):Nat×SV:=(k,SV.v (.slice p n c))
abbrev pt (b:Nat):Value:=.pointer (aa ⟨b,0,ah⟩)
abbrev Cx (k:FuncId) (a:Array Value) (w:World) (Q:Ending->World->Prop):Prop:=Calls Tryz.prog k a w Q
abbrev Uj (C P:Prop):Prop:=P->C
theorem uj_ {k:FuncId} (M:Mt) {fn:Func} {vs:List Value} {w:World} {R:RT} {P:Prop} (b:Tryz.prog.funcs[k]?=aa fn) (a:((fn.body,fn.ntmps),den Tryz.prog M (a8 fn) (jv 0 vs) w (Rt fn R))=((aa (a8 fn),M.N),P)) (hA:nr vs.length M.N=ag:=by rfl):Uj (Calls Tryz.prog k vs.toArray w R) P:=
 λh=>xL bu b (congrArg (·.1.1) a) (congrArg (·.1.2) a) (dP hA) ((congrArg Prod.snd a).symm.mp h)
section
open Value IntKind Ending World Addr Tryz
open Value renaming pointer→ab,slice→ar,tuple→aw,bool→qv
set_option maxRecDepth 100000
noncomputable section
theorem u11 {x w R}:Uj (Calls prog 11 #[I x] w R) (Fo (decide (x<=0)) (R (Z (int .u64 0)) w) (Fo (decide (x>=64)) (R (Z (int .u64 18446744073709551615)) w) (Cu 60 [I x] w λn w'=>R (Z (int .u64 (wrap .u64 (n-1)))) w'))):=uj_ {N:=12,keep:=kp 0 [[0],[0,3],[2],[0,6],[2],[2]],bk:=[(0,[0])],ref:=ae} func11 (by kernel_rfl)
def MJ:=a8 f23
theorem u23 {x x1 w R}:Uj (Calls prog 23 #[int .u64 x,I x1] w R) (Cu 60 [I x1] w λn w'=>R (Z (.bool (aH aN .u64 x n !=0))) w'):=uj_ {N:=10,keep:=kp 0 [[0,1],[4]],ref:=ae} func23 (by kernel_rfl)
def MM:=a8 f24
theorem u24 {x w R}:Uj (Calls prog 24 #[int .u64 x] w R) (Ci 80 [int .u64 x] w λn w'=>R (Z (I n)) w'):=uj_ {N:=5,keep:=kp 0 [[0],[2]],ref:=ae} func24 (by kernel_rfl)
theorem u60 {x w R}:Uj (Calls prog 60 #[I x] w R) (Fz (decide (x<0)) (Fo (decide (x>=64)) (R (Z (int .u64 0)) w) (0<=x/\R (Z (int .u64 (fB .u64 1 x))) w)) (R (Z (int .u64 0)) w)):=uj_ {N:=11,keep:=kp 0 [[0],[0,8],[2],[2]],ref:=ae} func60 (by kernel_rfl)
theorem u80 {x w R}:Uj (Calls prog 80 #[int .u64 x] w R) ((0:Int)<=1/\(0:Int)<=2/\(0:Int)<=4/\(0:Int)<=8/\(0:Int)<=16/\(0:Int)<=32/\R (Z (I (aH aN i64 (wrap i64 (wrap .u64 (wrap .u64 (wrap .u64 (aH aN .u64 (wrap .u64 (aS .u64 (wrap .u64 (aH aN .u64 (aS .u64 (wrap .u64 (aH aN .u64 (aS .u64 x 1) 6148914691236517205+aH aN .u64 x 6148914691236517205)) 2) 3689348814741910323+aH aN .u64 (wrap .u64 (aH aN .u64 (aS .u64 x 1) 6148914691236517205+aH aN .u64 x 6148914691236517205)) 3689348814741910323)) 4+wrap .u64 (aH aN .u64 (aS .u64 (wrap .u64 (aH aN .u64 (aS .u64 x 1) 6148914691236517205+aH aN .u64 x 6148914691236517205)) 2) 3689348814741910323+aH aN .u64 (wrap .u64 (aH aN .u64 (aS .u64 x 1) 6148914691236517205+aH aN .u64 x 6148914691236517205)) 3689348814741910323))) 1085102592571150095+aS .u64 (aH aN .u64 (wrap .u64 (aS .u64 (wrap .u64 (aH aN .u64 (aS .u64 (wrap .u64 (aH aN .u64 (aS .u64 x 1) 6148914691236517205+aH aN .u64 x 6148914691236517205)) 2) 3689348814741910323+aH aN .u64 (wrap .u64 (aH aN .u64 (aS .u64 x 1) 6148914691236517205+aH aN .u64 x 6148914691236517205)) 3689348814741910323)) 4+wrap .u64 (aH aN .u64 (aS .u64 (wrap .u64 (aH aN .u64 (aS .u64 x 1) 6148914691236517205+aH aN .u64 x 6148914691236517205)) 2) 3689348814741910323+aH aN .u64 (wrap .u64 (aH aN .u64 (aS .u64 x 1) 6148914691236517205+aH aN .u64 x 6148914691236517205)) 3689348814741910323))) 1085102592571150095) 8)+aS .u64 (wrap .u64 (aH aN .u64 (wrap .u64 (aS .u64 (wrap .u64 (aH aN .u64 (aS .u64 (wrap .u64 (aH aN .u64 (aS .u64 x 1) 6148914691236517205+aH aN .u64 x 6148914691236517205)) 2) 3689348814741910323+aH aN .u64 (wrap .u64 (aH aN .u64 (aS .u64 x 1) 6148914691236517205+aH aN .u64 x 6148914691236517205)) 3689348814741910323)) 4+wrap .u64 (aH aN .u64 (aS .u64 (wrap .u64 (aH aN .u64 (aS .u64 x 1) 6148914691236517205+aH aN .u64 x 6148914691236517205)) 2) 3689348814741910323+aH aN .u64 (wrap .u64 (aH aN .u64 (aS .u64 x 1) 6148914691236517205+aH aN .u64 x 6148914691236517205)) 3689348814741910323))) 1085102592571150095+aS .u64 (aH aN .u64 (wrap .u64 (aS .u64 (wrap .u64 (aH aN .u64 (aS .u64 (wrap .u64 (aH aN .u64 (aS .u64 x 1) 6148914691236517205+aH aN .u64 x 6148914691236517205)) 2) 3689348814741910323+aH aN .u64 (wrap .u64 (aH aN .u64 (aS .u64 x 1) 6148914691236517205+aH aN .u64 x 6148914691236517205)) 3689348814741910323)) 4+wrap .u64 (aH aN .u64 (aS .u64 (wrap .u64 (aH aN .u64 (aS .u64 x 1) 6148914691236517205+aH aN .u64 x 6148914691236517205)) 2) 3689348814741910323+aH aN .u64 (wrap .u64 (aH aN .u64 (aS .u64 x 1) 6148914691236517205+aH aN .u64 x 6148914691236517205)) 3689348814741910323))) 1085102592571150095) 8)) 16)+aS .u64 (wrap .u64 (wrap .u64 (aH aN .u64 (wrap .u64 (aS .u64 (wrap .u64 (aH aN .u64 (aS .u64 (wrap .u64 (aH aN .u64 (aS .u64 x 1) 6148914691236517205+aH aN .u64 x 6148914691236517205)) 2) 3689348814741910323+aH aN .u64 (wrap .u64 (aH aN .u64 (aS .u64 x 1) 6148914691236517205+aH aN .u64 x 6148914691236517205)) 3689348814741910323)) 4+wrap .u64 (aH aN .u64 (aS .u64 (wrap .u64 (aH aN .u64 (aS .u64 x 1) 6148914691236517205+aH aN .u64 x 6148914691236517205)) 2) 3689348814741910323+aH aN .u64 (wrap .u64 (aH aN .u64 (aS .u64 x 1) 6148914691236517205+aH aN .u64 x 6148914691236517205)) 3689348814741910323))) 1085102592571150095+aS .u64 (aH aN .u64 (wrap .u64 (aS .u64 (wrap .u64 (aH aN .u64 (aS .u64 (wrap .u64 (aH aN .u64 (aS .u64 x 1) 6148914691236517205+aH aN .u64 x 6148914691236517205)) 2) 3689348814741910323+aH aN .u64 (wrap .u64 (aH aN .u64 (aS .u64 x 1) 6148914691236517205+aH aN .u64 x 6148914691236517205)) 3689348814741910323)) 4+wrap .u64 (aH aN .u64 (aS .u64 (wrap .u64 (aH aN .u64 (aS .u64 x 1) 6148914691236517205+aH aN .u64 x 6148914691236517205)) 2) 3689348814741910323+aH aN .u64 (wrap .u64 (aH aN .u64 (aS .u64 x 1) 6148914691236517205+aH aN .u64 x 6148914691236517205)) 3689348814741910323))) 1085102592571150095) 8)+aS .u64 (wrap .u64 (aH aN .u64 (wrap .u64 (aS .u64 (wrap .u64 (aH aN .u64 (aS .u64 (wrap .u64 (aH aN .u64 (aS .u64 x 1) 6148914691236517205+aH aN .u64 x 6148914691236517205)) 2) 3689348814741910323+aH aN .u64 (wrap .u64 (aH aN .u64 (aS .u64 x 1) 6148914691236517205+aH aN .u64 x 6148914691236517205)) 3689348814741910323)) 4+wrap .u64 (aH aN .u64 (aS .u64 (wrap .u64 (aH aN .u64 (aS .u64 x 1) 6148914691236517205+aH aN .u64 x 6148914691236517205)) 2) 3689348814741910323+aH aN .u64 (wrap .u64 (aH aN .u64 (aS .u64 x 1) 6148914691236517205+aH aN .u64 x 6148914691236517205)) 3689348814741910323))) 1085102592571150095+aS .u64 (aH aN .u64 (wrap .u64 (aS .u64 (wrap .u64 (aH aN .u64 (aS .u64 (wrap .u64 (aH aN .u64 (aS .u64 x 1) 6148914691236517205+aH aN .u64 x 6148914691236517205)) 2) 3689348814741910323+aH aN .u64 (wrap .u64 (aH aN .u64 (aS .u64 x 1) 6148914691236517205+aH aN .u64 x 6148914691236517205)) 3689348814741910323)) 4+wrap .u64 (aH aN .u64 (aS .u64 (wrap .u64 (aH aN .u64 (aS .u64 x 1) 6148914691236517205+aH aN .u64 x 6148914691236517205)) 2) 3689348814741910323+aH aN .u64 (wrap .u64 (aH aN .u64 (aS .u64 x 1) 6148914691236517205+aH aN .u64 x 6148914691236517205)) 3689348814741910323))) 1085102592571150095) 8)) 16)) 32))) 127))) w):=uj_ {N:=35,keep:=kq 0 [(7,[0]),(1,[2])],ref:=ae} func80 (by kernel_rfl)
theorem ah1 {x x1 w R}:Uj (Calls prog 158 #[int .u64 x,I x1] w R) (Cu 60 [I x1] w λn w'=>R (Z (int .u64 (aH uk .u64 x n))) w'):=uj_ {N:=9,keep:=kp 0 [[0,1],[4]],ref:=ae} func158 (by kernel_rfl)
theorem ah2 {x w R}:Uj (Calls prog 159 #[int .u64 x] w R) (Fo (x==0) (R (Z (aw #[I 0,I 12])) w) (Ci 253 [int .u64 x] w λn w'=>R (Z (aw #[I n,I 0])) w')):=uj_ {N:=8,keep:=kp 0 [[0],[0,5],[2,3],[2,3]],ref:=ae} func159 (by kernel_rfl)
def B2:Mt:={N:=19,keep:=kp 0 [[0,1],[0,7,8,9],[0,7,8,9,10],[0,6,7,8,9],[0,7,8,9],[0,7,8,9],[4]],bk:=[(0,[0]),(1,[0,7,8,9])],lk:=[(2,[0,7,8,9])],ref:=ae}
def Mm:=a8 f179
def Wi:=Mm.sr.sr
def Mn:=Mm.sr.sl.sr.sl.sl
def Ht (x:Int) (x1:Option Addr) (x2 x3:Nat) (x4 x5:Int):Env:=[(0,SV.v (int .u64 x)),vS 7 x1 x2 x3,vI 8 x4,vI 9 x5]
def Qv (R:RT):=bo 0 [0] (SQ B2 Wi (Rt f179 R) (Rt f179 R))
theorem aij {x x1 x2 x3 w R}:Uj (Calls prog 179 #[int .u64 x,ar x1 x2 x3] w R) (Cut (WP prog 19 (bh Mn) (Ht x x1 x2 x3 (↑x2:Int) 0) w (Qv R))):=uj_ B2 func179 (by kernel_rfl)
theorem ae6 (x x1 x2 x3 x4 x5 w B R):den prog B2 Mn (Ht x x1 x2 x3 x4 x5) w (bC B (Qv R))=
(Fo (decide (x5<x4)) ((0<=x5/\x5<(↑x2:Int))/\∃a,x1=aa a/\Li w (add a (aG x5*1)) λn=>Cu 60 [I n] w λn w'=>B [(0,SV.v (int .u64 (aH s6 .u64 x n))),vS 7 x1 x2 x3,vI 8 x4,(9,SV.v (I (wrap i64 (x5+1))))] w') (R (Z (int .u64 x)) w)):=by kernel_rfl
theorem ajv {x w R}:Uj (Calls prog 253 #[int .u64 x] w R) (((x==0)->R (Z (I 64)) w)/\
 ((x==0)=ae->(0:Int)<=58/\(0<=aS .u64 (wrap .u64 (aH aN .u64 x (wrap .u64 (0-x))*285870213051353865)) 58/\aS .u64 (wrap .u64 (aH aN .u64 x (wrap .u64 (0-x))*285870213051353865)) 58<((64:Nat):Int))/\
 ∃n,w.cell? (add ⟨0,0,ah⟩ (aG (aS .u64 (wrap .u64 (aH aN .u64 x (wrap .u64 (0-x))*285870213051353865)) 58)*1))=aa (int cz n)/\R (Z (I (wrap i64 n))) w)):=uj_ {N:=14,keep:=kp 0 [[0],[0,4],[2],[2]],ref:=ae} func253 (by kernel_rfl)
theorem ajO {x x1 w R}:Uj (Calls prog 277 #[int .u64 x,int .u64 x1] w R) (R (Z (.bool (aH uk .u64 x x1==0))) w):=uj_ {N:=9,keep:=kp 0 [[0,1],[4]],ref:=ae} func277 (by kernel_rfl)
theorem akr {x x1 w R}:Uj (Calls prog 318 #[int .u64 x,int .u64 x1] w R) (R (Z (int .u64 (aH aN .u64 x x1))) w):=uj_ {N:=8,keep:=kp 0 [[0,1],[4]],ref:=ae} func318 (by kernel_rfl)
theorem aks {x x1 w R}:Uj (Calls prog 319 #[int .u64 x,I x1] w R) (Fz (decide (x1<0)) (Fo (decide (x1>=63)) (Call prog 159 [int .u64 x] w λe w'=>∃n a,e=Z (aw #[I n,I a])/\R (Z (aw #[I n,I a])) w') (Call prog 11 [I (wrap i64 (x1+1))] w λe w'=>∃n,e=Z (int .u64 n)/\Fo (aH uk .u64 x n !=0) (Call prog 159 [int .u64 (aH uk .u64 x n)] w' λe w'=>∃n a,e=Z (aw #[I n,I a])/\R (Z (aw #[I n,I a])) w') (Call prog 159 [int .u64 x] w' λe w'=>∃n a,e=Z (aw #[I n,I a])/\R (Z (aw #[I n,I a])) w'))) (Call prog 159 [int .u64 x] w λe w'=>∃n a,e=Z (aw #[I n,I a])/\R (Z (aw #[I n,I a])) w')):=uj_ {N:=32,keep:=kp 0 [[0,1],[0,1,12],[4,5],[0,6],[0,6,23],[4,5],[4,5]],ref:=ae} func319 (by kernel_rfl)
theorem akS {x x1 w R}:Uj (Calls prog 353 #[int .u64 x,int .u64 x1] w R) (R (Z (int .u64 (aH uk .u64 x x1))) w):=uj_ {N:=8,keep:=kp 0 [[0,1],[4]],ref:=ae} func353 (by kernel_rfl)
def Co:Mt:={N:=16,keep:=kp 0 [[0],[0,3],[0,3,5],[0,3],[0,3],[2]],bk:=[(0,[3]),(1,[0,3])],lk:=[(2,[0,3])],ref:=ae}
def Nz:=a8 f382
def WL:=Nz.sr.sr.sr
def NA:=Nz.sr.sr.sl.sl.sl
def HX (x:Int) (x1:Option Addr) (x2 x3:Nat):Env:=[(0,SV.v (int .u64 x)),vS 3 x1 x2 x3]
def Q8 (R:RT):=bo 0 [3] (SQ Co WL (Rt f382 R) (Rt f382 R))
theorem alg {x w R}:Uj (Calls prog 382 #[int .u64 x] w R) (Cut (WP prog 16 (bh NA) (HX x ah 0 0) w (Q8 R))):=uj_ Co func382 (by kernel_rfl)
theorem afR (x x1 x2 x3 w B R):den prog Co NA (HX x x1 x2 x3) w (bC B (Q8 R))=
(Fo (x !=0) (Ci 253 [int .u64 x] w λn w'=>aJ w' [I n] 3 λp w'=>∃a n c b,aZ prog (bR #[36,36] 36 #[ar x1 x2 x3,ar (aa p) 1 1]) w'=a7 (ar a n c) b/\B [(0,SV.v (int .u64 (aH aN .u64 x (wrap .u64 (x-1))))),vS 3 a n c] b) (R (Z (ar x1 x2 x3)) w)):=by kernel_rfl
theorem aky {x x1 x2 x3 w R}:Uj (Calls prog 325 #[ar x x1 x2,I x3] w R) (Ci 375 [ar x x1 x2,I x3] w λn w'=>R (Z (.bool (decide (n>=0)))) w'):=uj_ {N:=9,keep:=kp 0 [[0,1],[4]],ref:=ae} func325 (by kernel_rfl)
def Ck:Mt:={N:=19,keep:=kp 0 [[0,1],[0,1,7,8],[0,1,7,8,9],[0,1,5,7,8],[0,1,5,7,8,16],[4],[0,1,7,8],[4]],bk:=[(0,[]),(1,[0,1,7,8])],lk:=[(2,[0,1,7,8])],ref:=ae}
def Ns:=a8 f375
def WJ:=Ns.sr.sr
def Nt:=Ns.sr.sl.sr.sl.sl
def HW (x:Option Addr) (x1 x2:Nat) (x3 x4 x5:Int):Env:=[vS 0 x x1 x2,vI 1 x3,vI 7 x4,vI 8 x5]
def Q6 (R:RT):=bo 0 [] (SQ Ck WJ (Rt f375 R) (Rt f375 R))
theorem alb {x x1 x2 x3 w R}:Uj (Calls prog 375 #[ar x x1 x2,I x3] w R) (Cut (WP prog 19 (bh Nt) (HW x x1 x2 x3 (↑x1:Int) 0) w (Q6 R))):=uj_ Ck func375 (by kernel_rfl)
theorem afP (x x1 x2 x3 x4 x5 w B R):den prog Ck Nt (HW x x1 x2 x3 x4 x5) w (bC B (Q6 R))=
(Fo (decide (x5<x4)) ((0<=x5/\x5<(↑x1:Int))/\∃a,x=aa a/\Li w (add a (aG x5*1)) λn=>Fo (x3==n) (R (Z (I x5)) w) (B [vS 0 x x1 x2,vI 1 x3,vI 7 x4,(8,SV.v (I (wrap i64 (x5+1))))] w)) (R (Z (I (-1:Int))) w)):=by kernel_rfl
theorem ait {x x1 x2 w R}:Uj (Calls prog 190 #[ar x x1 x2] w R) (Fo x.isNone (R (Z (N3)) w) (aJ w [] 3 λp w'=>∃a n c b,aZ prog (bR #[36,36] 36 #[ar (aa p) 0 0,ar x x1 x2]) w'=a7 (ar a n c) b/\R (Z (ar a n c)) b)):=uj_ {N:=8,keep:=kp 0 [[0],[0,4],[2],[2]],ref:=ae} func190 (by kernel_rfl)
theorem ahc {x w R}:Uj (Calls prog 107 #[I x] w R) (Fz (decide (x<1)) (Fo (decide (x>1024)) (R (Z (aw #[ab ah,I 2])) w) ((64:Int)≠0/\∃p n c w',aZ prog (mE 290 (I (wrap i64 (jq (wrap i64 (wrap i64 (x+64)-1)) 64))) (I (wrap i64 (jq (wrap i64 (wrap i64 (x+64)-1)) 64)))) w=a7 (ar p n c) w'/\aJ w' [ar p n c,I x,I 0] 292 λp w'=>R (Z (aw #[ab (aa p),I 0])) w')) (R (Z (aw #[ab ah,I 2])) w)):=uj_ {N:=18,keep:=kp 0 [[0],[0,9],[2,3],[2,3]],ref:=ae} func107 (by kernel_rfl)
def BX:Mt:={N:=59,keep:=kp 0 [[0],[0,7],[2,3],[0,10],[2,3],[0,23,24,25],[0,23,24,25,26],[0,4,5,23,24,25],[0,4,6,23,24,25],[0,4,6,23,24,25,34],[0,4,6],[4,6],[2,3],[0,23,24,25],[2,3]],bX:=[(3,(.range 10)),(10,(.range 12))],bk:=[(0,[0]),(1,[]),(2,[0,23,24,25])],lk:=[(6,[0,23,24,25])],ref:=ae}
def Md:=a8 f149
def Wb:=Md.sr.sr.sr
def Me:=Md.sr.sr.sl.sr.sl.sl
def Hq (x x1:Option Addr) (x2 x3:Nat) (x4 x5:Int):Env:=[vP 0 x,vS 23 x1 x2 x3,vI 24 x4,vI 25 x5]
def Qs (R:RT):=bo 1 [] (SQ BX Wb (Rt f149 R) (Rt f149 R))
theorem ahS {x w R}:Uj (Calls prog 149 #[ab x] w R) (Fo x.isNone (R (Z (aw #[I 0,I 1])) w) (Sm w λw'=>∃a,x=aa a/\Li w' (a.add 2) λn=>∃a,x=aa a/\Li w' (a.add 1) λb=>Fo (n==b) (R (Z (aw #[I 0,I 5])) w') (∃a,x=aa a/\Lq w' (a.add 0) λp n c=>Cut (WP prog 59 (bh Me) (Hq x p n c (↑n:Int) 0) w' (Qs R))))):=uj_ BX func149 (by kernel_rfl)
theorem ae1 (x x1 x2 x3 x4 x5 w B R):den prog BX Me (Hq x x1 x2 x3 x4 x5) w (bC B (Qs R))=
(Fo (decide (x5<x4)) ((0<=x5/\x5<(↑x2:Int))/\∃a,x1=aa a/\Lu w (add a (aG x5*1)) λn=>Ci 253 [int .u64 (aH BinOp.xor .u64 (match ae with|true=>(-1:Int)|false=>pG .u64) n)] w λn w'=>Fo (decide (n<64)) (Sm w' λb=>∃a,x=aa a/\∃p d c,b.cell? (a.add 0)=aa (ar p d c)/\(0<=x5/\x5<(↑d:Int))/\∃a,p=aa a/\∃f,b.cell? (add a (aG x5*1))=aa (int .u64 f)/\0<=n/\(0<=x5/\x5<(↑d:Int))/\∃a,p=aa a/\Wr b (add a (aG x5*1)) [int .u64 (aH s6 .u64 f (fB .u64 1 n))] λw'=>∃a,x=aa a/\Li w' (a.add 2) λg=>∃a,x=aa a/\Wr w' (a.add 2) [I (wrap i64 (g+1))] λw'=>R (Z (aw #[I (wrap i64 (wrap i64 (wrap i64 (x5*64)+n)+1)),I 0])) w') (B [vP 0 x,vS 23 x1 x2 x3,vI 24 x4,(25,SV.v (I (wrap i64 (x5+1))))] w')) (R (Z (aw #[I 0,I 5])) w)):=by kernel_rfl
def B9:Mt:={N:=21,keep:=kp 0 [[0],[0,3],[0,3,6,7],[0,3,6,7,8],[0,3,4,6,7],[0,3,4,6,7,13],[0,3,6,7],[0,3,6,7],[2]],bk:=[(0,[3]),(1,[0,3,6,7])],lk:=[(3,[0,3,6,7])],ref:=ae}
def MS:=a8 f272
def Ww:=MS.sr.sr.sr
def MT:=MS.sr.sr.sl.sr.sl.sl
def HH (x x1:Option Addr) (x2 x3:Nat) (x4 x5:Int):Env:=[vP 0 x,vS 3 x1 x2 x3,vI 6 x4,vI 7 x5]
def QN (R:RT):=bo 0 [3] (SQ B9 Ww (Rt f272 R) (Rt f272 R))
theorem ajM {x w R}:Uj (Calls prog 272 #[ab x] w R) (Ci 339 [ab x] w λn w'=>Cut (WP prog 21 (bh MT) (HH x ah 0 0 n 0) w' (QN R))):=uj_ B9 func272 (by kernel_rfl)
theorem aft (x x1 x2 x3 x4 x5 w B R):den prog B9 MT (HH x x1 x2 x3 x4 x5) w (bC B (QN R))=
(Fo (decide (x5<x4)) (Cj 340 [ab x,I (wrap i64 (x5+1))] w λb w'=>Fo b (aJ w' [I (wrap i64 (x5+1))] 3 λp w'=>∃a n c d,aZ prog (bR #[36,36] 36 #[ar x1 x2 x3,ar (aa p) 1 1]) w'=a7 (ar a n c) d/\B [vP 0 x,vS 3 a n c,vI 6 x4,(7,SV.v (I (wrap i64 (x5+1))))] d) (B [vP 0 x,vS 3 x1 x2 x3,vI 6 x4,(7,SV.v (I (wrap i64 (x5+1))))] w')) (R (Z (ar x1 x2 x3)) w)):=by kernel_rfl
theorem ake {x x1 w R}:Uj (Calls prog 305 #[ab x,I x1] w R) (Call prog 363 [ab x,I x1] w λe w'=>∃p n,e=Z (aw #[ab p,int .u64 n])/\Fo x.isNone (R (Z (I 1)) w') (Fz p.isNone (∃a,p=aa a/\∃b,w'.cell? a=aa (int .u64 b)/\Fo (aH aN .u64 b n==0) (R (Z (I 4)) w') (∃a,p=aa a/\∃c,w'.cell? a=aa (int .u64 c)/\∃a,p=aa a/\Wr w' a [int .u64 (aH uk .u64 c n)] λw'=>∃a,x=aa a/\∃n,w'.cell? (a.add 2)=aa (I n)/\∃a,x=aa a/\Wr w' (a.add 2) [I (wrap i64 (n-1))] λw'=>R (Z (I 0)) w')) (R (Z (I 4)) w'))):=uj_ {N:=40,keep:=kp 0 [[0,1],[0,5,6],[0,5,6,13],[4],[0,5,6,16],[4],[0],[],[4]],bk:=[(0,[0,5,6])],ref:=ae} func305 (by kernel_rfl)
theorem akK {x w R}:Uj (Calls prog 339 #[ab x] w R) (Fo x.isNone (R (Z (I 0)) w) (∃a,x=aa a/\Li w (a.add 1) λn=>R (Z (I n)) w)):=uj_ {N:=9,keep:=kp 0 [[0],[0,4],[2],[2]],ref:=ae} func339 (by kernel_rfl)
theorem akL {x x1 w R}:Uj (Calls prog 340 #[ab x,I x1] w R) (Call prog 363 [ab x,I x1] w λe w'=>∃p n,e=Z (aw #[ab p,int .u64 n])/\Fo (!p.isNone) (∃a,p=aa a/\Lu w' a λb=>R (Z (.bool (aH aN .u64 b n !=0))) w') (R (Z (.bool ae)) w')):=uj_ {N:=23,keep:=kp 0 [[0,1],[5,6],[4]],ref:=ae} func340 (by kernel_rfl)
theorem UE {x x1 w R}:Uj (Calls prog 363 #[ab x,I x1] w R) (Fz x.isNone (Fz (decide (x1<1)) (∃a,x=aa a/\Li w (a.add 1) λn=>Fo (decide (x1>n)) (R (Z (aw #[ab ah,int .u64 0])) w) (Sm w λw'=>∃a,x=aa a/\Lq w' (a.add 0) λp n c=>(64:Int)≠0/\(0<=wrap i64 (jq (wrap i64 (x1-1)) 64)/\wrap i64 (jq (wrap i64 (x1-1)) 64)<(↑n:Int))/\∃a,p=aa a/\(64:Int)≠0/\0<=eH (wrap i64 (x1-1)) 64/\R (Z (aw #[ab (aa (add a (aG (wrap i64 (jq (wrap i64 (x1-1)) 64))*1))),int .u64 (fB .u64 1 (eH (wrap i64 (x1-1)) 64))])) w')) (R (Z (aw #[ab ah,int .u64 0])) w)) (R (Z (aw #[ab ah,int .u64 0])) w)):=uj_ {N:=32,keep:=kp 0 [[0,1],[0,1,19],[4,5],[4,5]],bX:=[(3,(.range 14))],ref:=ae} func363 (by kernel_rfl)
theorem ahf {x w R}:Uj (Calls prog 110 #[I x] w R) (Fz (decide (x<1)) (Fo (decide (x>1024)) (R (Z (aw #[ab ah,I 2])) w) (∃p n c w',aZ prog (mE 36 (I x) (I x)) w=a7 (ar p n c) w'/\aJ w' [ar p n c,I 0,I 0] 295 λp w'=>R (Z (aw #[ab (aa p),I 0])) w')) (R (Z (aw #[ab ah,I 2])) w)):=uj_ {N:=14,keep:=kp 0 [[0],[0,9],[2,3],[2,3]],ref:=ae} func110 (by kernel_rfl)
theorem ahU {x x1 w R}:Uj (Calls prog 151 #[ab x,I x1] w R) (Fo x.isNone (R (Z (I 1)) w) (Cj 254 [ab x,I x1] w λb w'=>Fo b (R (Z (I 6)) w') (Sm w' λd=>∃a,x=aa a/\∃n,d.cell? (a.add 2)=aa (I n)/\∃a,x=aa a/\∃p g c,d.cell? (a.add 0)=aa (ar p g c)/\Fo (n==(↑g:Int)) (R (Z (I 5)) d) (Sm d λw'=>∃a,x=aa a/\Lq w' (a.add 0) λp n c=>∃h,x=aa h/\Li w' (h.add 2) λi=>Ci 255 [ab x,I i] w' λf w'=>w'.cell? (a.add 0)=aa (ar p n c)/\(0<=f/\f<(↑n:Int))/\∃a,p=aa a/\Wr w' (add a (aG f*1)) [I x1] λw'=>∃a,x=aa a/\Li w' (a.add 2) λn=>∃a,x=aa a/\Wr w' (a.add 2) [I (wrap i64 (n+1))] λw'=>R (Z (I 0)) w')))):=uj_ {N:=42,keep:=kp 0 [[0,1],[0,1,5],[4],[0,1,8],[4],[0,1,12],[4],[0],[],[4]],bX:=[(5,(.range 11)),(7,[0,1,2,3,4,5,6,7,8,10,9,11,12])],bk:=[(0,[0,1])],ref:=ae} func151 (by kernel_rfl)
theorem aiq {x w R}:Uj (Calls prog 187 #[ab x] w R) (Fz x.isNone (∃a,x=aa a/\Li w (a.add 2) λn=>Fo (n==0) (R (Z (N3)) w) (∃a,x=aa a/\Li w (a.add 2) λn=>∃p e c w',aZ prog (mE 36 (I n) (I n)) w=a7 (ar p e c) w'/\Sm w' λf=>∃a,x=aa a/\∃h n g,f.cell? (a.add 0)=aa (ar h n g)/\∃a,x=aa a/\∃b,f.cell? (a.add 1)=aa (I b)/\(0<=b/\b<=(↑n:Int))/\∃d w',aZ prog (pA #[36,36] 3 #[ar p e c,ar (gl h g (aG b) 1) (n-aG b) (g-aG b)]) f=a7 (I d) w'/\Sm w' λi=>(0<=d/\d<=(↑e:Int))/\∃a,x=aa a/\∃j n k,i.cell? (a.add 0)=aa (ar j n k)/\∃l w',aZ prog (pA #[36,36] 3 #[ar (gl p c (aG d) 1) (e-aG d) (c-aG d),ar j n k]) i=a7 (I l) w'/\R (Z (ar p e c)) w')) (R (Z (N3)) w)):=uj_ {N:=39,keep:=kp 0 [[0],[0,13],[2],[0,3],[0,3,4],[3],[2]],bX:=[(4,(.range 12)),(5,(.range 8))],ref:=ae} func187 (by kernel_rfl)
theorem ajw {x x1 w R}:Uj (Calls prog 254 #[ab x,I x1] w R) (Cq 187 [ab x] w λp n c w'=>Cj 325 [ar p n c,I x1] w' λb w'=>R (Z (.bool b)) w'):=uj_ {N:=9,keep:=kp 0 [[0,1],[4]],ref:=ae} func254 (by kernel_rfl)
theorem ajx {x x1 w R}:Uj (Calls prog 255 #[ab x,I x1] w R) (Sm w λw'=>∃a,x=aa a/\Li w' (a.add 1) λn=>∃a,x=aa a/\Lq w' (a.add 0) λp b c=>(↑b:Int)≠0/\R (Z (I (eH (wrap i64 (n+x1)) (↑b:Int)))) w'):=uj_ {N:=17,keep:=kp 0 [[0,1],[4]],bX:=[(1,(.range 13))],ref:=ae} func255 (by kernel_rfl)
theorem akd {x w R}:Uj (Calls prog 304 #[ab x] w R) (Ct 307 [ab x] w λn b w'=>Fo (b==0) (Ci 255 [ab x,I 1] w' λc w'=>∃a,x=aa a/\Wr w' (a.add 1) [I c] λw'=>∃a,x=aa a/\Li w' (a.add 2) λd=>∃a,x=aa a/\Wr w' (a.add 2) [I (wrap i64 (d-1))] λw'=>R (Z (aw #[I n,I b])) w') (R (Z (aw #[I n,I b])) w')):=uj_ {N:=27,keep:=kp 0 [[0],[0,4,5],[0,4,5,12],[0,4,5],[4,5],[2,3]],ref:=ae} func304 (by kernel_rfl)
theorem akg {x w R}:Uj (Calls prog 307 #[ab x] w R) (Fo x.isNone (R (Z (aw #[I 0,I 1])) w) (∃a,x=aa a/\Li w (a.add 2) λn=>Fo (n==0) (R (Z (aw #[I 0,I 12])) w) (Sm w λw'=>∃a,x=aa a/\Lq w' (a.add 0) λp n c=>∃a,x=aa a/\Li w' (a.add 1) λb=>(0<=b/\b<(↑n:Int))/\∃a,p=aa a/\Li w' (add a (aG b*1)) λn=>R (Z (aw #[I n,I 0])) w'))):=uj_ {N:=23,keep:=kp 0 [[0],[0,4],[2,3],[0,7],[2,3],[2,3]],bX:=[(5,(.range 12))],bk:=[(0,[0])],ref:=ae} func307 (by kernel_rfl)
def Ch:Mt:={N:=45,keep:=kp 0 [[0,1],[0,1,9],[4],[0,1,5],[0,5,6],[0,5,6,16],[4],[0,5,7],[0,5,7,22],[0,5,7],[0,5,7],[],[4]],bX:=[(10,[0,1,2,3,4,5,7,8,9,10,11,6,12,13])],bk:=[(0,[0]),(1,[0,5,7])],lk:=[(8,[0,5,7])],ref:=ae}
def Nk:=a8 f364
def WG:=Nk.sr.sr.sr.sr.sr.sr
def Nl:=Nk.sr.sr.sr.sr.sr.sl.sr.sl.sl
def HT (x x1:Option Addr) (x2 x3:Nat) (x4:Int):Env:=[vP 0 x,vS 5 x1 x2 x3,vI 7 x4]
def Q2 (R:RT):=bo 0 [0] (SQ Ch WG (Rt f364 R) (Rt f364 R))
theorem ak2 {x x1 w R}:Uj (Calls prog 364 #[ab x,I x1] w R) (Fo x.isNone (R (Z (I 1)) w) (Cq 187 [ab x] w λp n c w'=>Ci 375 [ar p n c,I x1] w' λa w'=>Fo (decide (a<0)) (R (Z (I 4)) w') (Cut (WP prog 45 (bh Nl) (HT x p n c a) w' (Q2 R))))):=uj_ Ch func364 (by kernel_rfl)
theorem afJ (x x1 x2 x3 x4 w B R):den prog Ch Nl (HT x x1 x2 x3 x4) w (bC B (Q2 R))=
(Fo (decide (wrap i64 (x4+1)<(↑x2:Int))) (Sm w λw'=>∃a,x=aa a/\Lq w' (a.add 0) λp n c=>(0<=wrap i64 (x4+1)/\wrap i64 (x4+1)<(↑x2:Int))/\∃d,x1=aa d/\∃f,w'.cell? (add d (aG (wrap i64 (x4+1))*1))=aa (I f)/\Ci 255 [ab x,I x4] w' λb w'=>w'.cell? (add d (aG (wrap i64 (x4+1))*1))=aa (I f)/\w'.cell? (a.add 0)=aa (ar p n c)/\(0<=b/\b<(↑n:Int))/\∃a,p=aa a/\Wr w' (add a (aG b*1)) [I f] λw'=>B [vP 0 x,vS 5 x1 x2 x3,(7,SV.v (I (wrap i64 (x4+1))))] w') (∃a,x=aa a/\Li w (a.add 2) λn=>∃a,x=aa a/\Wr w (a.add 2) [I (wrap i64 (n-1))] λw'=>R (Z (I 0)) w')):=by kernel_rfl
theorem ak3 {x w R}:Uj (Calls prog 366 #[ab x] w R) (Ct 304 [ab x] w λn a w'=>Fo (a !=0) (R (Z (I a)) w') (Ci 151 [ab x,I n] w' λn w'=>R (Z (I n)) w')):=uj_ {N:=16,keep:=kp 0 [[0],[0,3,4],[0,3,4,11],[2],[2]],ref:=ae} func366 (by kernel_rfl)
theorem alp {x w R}:Uj (Calls prog 392 #[ab x] w R) (Fo x.isNone (R (Z (I 0)) w) (∃a,x=aa a/\Li w (a.add 2) λn=>R (Z (I n)) w)):=uj_ {N:=9,keep:=kp 0 [[0],[0,4],[2],[2]],ref:=ae} func392 (by kernel_rfl)
end
end
section
open Value IntKind Ending World Addr Tryz
open Value renaming pointer→ab,slice→ar,tuple→aw,bool→qv
set_option maxRecDepth 100000
noncomputable section
def Mc:=a8 f14
theorem u14 {x x1 w R}:Uj (Calls prog 14 #[ab x,I x1] w R) (Ci 73 [ab x,I x1] w λn w'=>Fo (n !=0) (R (Z (I 0)) w') (∃a,x=aa a/\Lq w' (a.add 0) λp n c=>(0<=x1/\x1<(↑n:Int))/\∃a,p=aa a/\Lp w' (add a (aG x1*1)) λp=>Ci 74 [ab p] w' λn w'=>R (Z (I n)) w')):=uj_ {N:=17,keep:=kp 0 [[0,1],[0,1,8],[4],[4]],ref:=ae} func14 (by kernel_rfl)
def Cg:Mt:={N:=38,keep:=kp 0 [[0],[0,12],[2,3],[0,4],[4,16,17],[4,16,17,18],[4,5,6,16,17],[4,5,6,16,17,24],[2,3],[4,16,17],[4,16,17],[2,3]],bk:=[(0,[4]),(1,[4,16,17])],lk:=[(5,[4,16,17])],ref:=ae}
def Nf:=a8 f36
def WH:=Nf.sr.sr.sr.sr
def Nq:=Nf.sr.sr.sr.sl.sr.sl.sl
def HV (x:Option Addr) (x1 x2:Int):Env:=[vP 4 x,vI 16 x1,vI 17 x2]
def Q5 (R:RT):=bo 0 [4] (SQ Cg WH (Rt f36 R) (Rt f36 R))
theorem u36 {x w R}:Uj (Calls prog 36 #[I x] w R) (Fz (decide (x<1)) (Fo (decide (x>64)) (R (Z (aw #[ab ah,I 2])) w) (sU w λr w'=>aJ w' [N3,map (aa r)] 155 λp w'=>Cut (WP prog 38 (bh Nq) (HV (aa p) x 0) w' (Q5 R)))) (R (Z (aw #[ab ah,I 2])) w)):=uj_ Cg func36 (by kernel_rfl)
theorem afM (x x1 x2 w B R):den prog Cg Nq (HV x x1 x2) w (bC B (Q5 R))=
(Fo (decide (x2<x1)) (Call prog 108 [I 32] w λe w'=>∃p n,e=Z (aw #[ab p,I n])/\Fo (n !=0) (R (Z (aw #[ab ah,I n])) w') (∃a,x=aa a/\Lq w' (a.add 0) λb n c=>aJ w' [ab p] 152 λp w'=>∃d f g h,aZ prog (bR #[153,153] 153 #[ar b n c,ar (aa p) 1 1]) w'=a7 (ar d f g) h/\∃a,x=aa a/\Wr h (a.add 0) [ar d f g] λw'=>B [vP 4 x,vI 16 x1,(17,SV.v (I (wrap i64 (x2+1))))] w')) (R (Z (aw #[ab x,I 0])) w)):=by kernel_rfl
theorem u73 {x x1 w R}:Uj (Calls prog 73 #[ab x,I x1] w R) (Fo x.isNone (R (Z (I 1)) w) (Fz (decide (x1<0)) (∃a,x=aa a/\Lq w (a.add 0) λp n c=>Fo (decide (x1>=(↑n:Int))) (R (Z (I 3)) w) (R (Z (I 0)) w)) (R (Z (I 3)) w))):=uj_ {N:=20,keep:=kp 0 [[0,1],[0,1,5],[4],[8],[4],[4]],bk:=[(0,[])],ref:=ae} func73 (by kernel_rfl)
theorem u74 {x w R}:Uj (Calls prog 74 #[ab x] w R) (Fo x.isNone (R (Z (I 0)) w) (∃a,x=aa a/\∃r,w.cell? (a.add 8)=aa (map r)/\∃(n:Nat),(∀(ty:TypeId),aZ prog (k9 #[78] ty #[map r]) w=a7 (I (↑n:Int)) w)/\R (Z (I (↑n:Int))) w)):=uj_ {N:=10,keep:=kp 0 [[0],[0,4],[2],[2]],ref:=ae} func74 (by kernel_rfl)
theorem u88 {x x1 w R}:Uj (Calls prog 88 #[ab x,I x1] w R) (Ci 73 [ab x,I x1] w λn w'=>Fo (n !=0) (R (Z (N3)) w') (∃a,x=aa a/\Lq w' (a.add 0) λp n c=>(0<=x1/\x1<(↑n:Int))/\∃a,p=aa a/\Lp w' (add a (aG x1*1)) λp=>Cq 182 [ab p] w' λp n c w'=>R (Z (ar p n c)) w')):=uj_ {N:=17,keep:=kp 0 [[0,1],[0,1,8],[4],[4]],ref:=ae} func88 (by kernel_rfl)
def zB:Mt:={N:=31,keep:=kp 0 [[0],[0,4],[0,4,12],[0,4,12,13],[0,4,5,12],[0,4,5,6,7,12],[0,4,5,6,7,12,21],[2,3],[0,4,12],[0,4,12],[2,3]],bk:=[(0,[4]),(1,[0,4,12])],lk:=[(3,[0,4,12])],ref:=ae}
def L4:=a8 f108
def V6:=L4.sr.sr.sr
def L5:=L4.sr.sr.sl.sr.sl.sl
def Dt (x:Int) (x1:Option Addr) (x2:Int):Env:=[vI 0 x,vP 4 x1,vI 12 x2]
def Qn (R:RT):=bo 0 [4] (SQ zB V6 (Rt f108 R) (Rt f108 R))
theorem ahd {x w R}:Uj (Calls prog 108 #[I x] w R) (sU w λr w'=>aJ w' [ab ah,ab ah,ab ah,ab ah,ab ah,ab ah,ab ah,ab ah,map (aa r),I x] 265 λp w'=>Cut (WP prog 31 (bh L5) (Dt x (aa p) 0) w' (Qn R))):=uj_ zB func108 (by kernel_rfl)
theorem Uf (x x1 x2 w B R):den prog zB L5 (Dt x x1 x2) w (bC B (Qn R))=
(Fo (decide (x2<8)) (Call prog 110 [I x] w λe w'=>∃p n,e=Z (aw #[ab p,I n])/\Fo (n !=0) (R (Z (aw #[ab ah,I n])) w') (∃a,x1=aa a/\(0<=x2/\x2<(↑8:Int))/\Wr w' (add (a.add 0) (aG x2*1)) [ab p] λw'=>B [vI 0 x,vP 4 x1,(12,SV.v (I (wrap i64 (x2+1))))] w')) (R (Z (aw #[ab x1,I 0])) w)):=by kernel_rfl
theorem ahB {x x1 w R}:Uj (Calls prog 132 #[ab x,I x1] w R) (Call prog 242 [ab x,I x1] w λe w'=>∃p n,e=Z (aw #[ab p,I n])/\Fo (n !=0) (R (Z (I n)) w') (Ci 243 [ab p,I x1] w' λn w'=>R (Z (I n)) w')):=uj_ {N:=19,keep:=kp 0 [[0,1],[1,5,6],[1,5,6,14],[4],[4]],ref:=ae} func132 (by kernel_rfl)
theorem ai2 {x x1 w R}:Uj (Calls prog 224 #[ab x,I x1] w R) (Ci 73 [ab x,I x1] w λn w'=>Fo (n !=0) (R (Z (aw #[I 0,I n])) w') (∃a,x=aa a/\Lq w' (a.add 0) λp n c=>(0<=x1/\x1<(↑n:Int))/\∃a,p=aa a/\Lp w' (add a (aG x1*1)) λp=>Ct 309 [ab p] w' λn b w'=>Fo (b !=0) (R (Z (aw #[I 0,I b])) w') (∃a,x=aa a/\Lq w' (a.add 0) λp d c=>(0<=x1/\x1<(↑d:Int))/\∃a,p=aa a/\Lp w' (add a (aG x1*1)) λp=>Ci 310 [ab p] w' λf w'=>R (Z (aw #[I n,I f])) w'))):=uj_ {N:=38,keep:=kp 0 [[0,1],[0,1,6],[0,1,6,13],[4,5],[0,1,7,8],[0,1,7,8,27],[4,5],[4,5]],ref:=ae} func224 (by kernel_rfl)
theorem ajd {x x1 x2 x3 w R}:Uj (Calls prog 235 #[ab x,I x1,I x2,I x3] w R) (Ci 73 [ab x,I x1] w λn w'=>Fo (n !=0) (R (Z (I n)) w') (∃a,x=aa a/\∃r,w'.cell? (a.add 1)=aa (map r)/\∃n b,aZ prog (dr 78 (map r) (I x3) ag) w'=a7 (aw #[I n,.bool b]) w'/\Fo b (R (Z (I 6)) w') (∃a,x=aa a/\Lq w' (a.add 0) λp n c=>(0<=x1/\x1<(↑n:Int))/\∃a,p=aa a/\Lp w' (add a (aG x1*1)) λp=>Ci 320 [ab p,I x2,I x3] w' λn w'=>Fo (n==0) (∃a,x=aa a/\∃r,w'.cell? (a.add 1)=aa (map r)/\∃d,aZ prog (ic 78 (map r) (I x3) (I x1)) w'=a7 () d/\R (Z (I n)) d) (R (Z (I n)) w')))):=uj_ {N:=48,keep:=kp 0 [[0,1,2,3],[0,1,2,3,9],[0,1,2,3,9,17],[8],[0,1,2,3,11],[0,1,2,3,28],[8],[0,1,3,12],[0,1,3,12,40],[12],[8]],ref:=ae} func235 (by kernel_rfl)
theorem ajf {x x1 w R}:Uj (Calls prog 237 #[ab x,I x1] w R) (Call prog 242 [ab x,I x1] w λe w'=>∃p n,e=Z (aw #[ab p,I n])/\Fo (n !=0) (R (Z (I n)) w') (∃a,x=aa a/\∃r,w'.cell? (a.add 1)=aa (map r)/\∃b,aZ prog (iJ #[78,3] 0 #[map r,I x1]) w'=a7 (aw #[]) b/\Call prog 321 [ab p,I x1] b λe w'=>∃n,e=Z (I n)/\R (Z (I n)) w')):=uj_ {N:=24,keep:=kp 0 [[0,1],[0,1,5,6],[0,1,5,6,14],[4],[1,5],[4]],ref:=ae} func237 (by kernel_rfl)
theorem ajk {x x1 w R}:Uj (Calls prog 242 #[ab x,I x1] w R) (Fo x.isNone (R (Z (aw #[ab ah,I 1])) w) (∃a,x=aa a/\∃r,w.cell? (a.add 1)=aa (map r)/\∃n b,aZ prog (dr 78 (map r) (I x1) ag) w=a7 (aw #[I n,.bool b]) w/\Fo (!b) (R (Z (aw #[ab ah,I 4])) w) (∃a,x=aa a/\Lq w (a.add 0) λp d c=>(0<=n/\n<(↑d:Int))/\∃a,p=aa a/\Lp w (add a (aG n*1)) λp=>R (Z (aw #[ab p,I 0])) w))):=uj_ {N:=28,keep:=kp 0 [[0,1],[0,1,9],[4,5],[0,6,7],[0,6,20],[4,5],[4,5]],ref:=ae} func242 (by kernel_rfl)
theorem ajl {x x1 w R}:Uj (Calls prog 243 #[ab x,I x1] w R) (Call prog 323 [ab x,I x1] w λe w'=>∃n b,e=Z (aw #[I n,.bool b])/\Ci 321 [ab x,I x1] w' λa w'=>Fo (a !=0) (R (Z (I a)) w') (Ci 320 [ab x,I n,I x1] w' λn w'=>R (Z (I n)) w')):=uj_ {N:=24,keep:=kp 0 [[0,1],[0,1,5],[0,1,5,7],[0,1,5,7,18],[4],[4]],ref:=ae} func243 (by kernel_rfl)
theorem ajJ {x x1 w R}:Uj (Calls prog 267 #[ab x,int .u64 x1] w R) (Ct 335 [ab x,int .u64 x1,func (aQ 336) #[] #[]] w λn a w'=>R (Z (aw #[I n,I a])) w'):=uj_ {N:=11,keep:=kp 0 [[0,1],[4,5]],ref:=ae} func267 (by kernel_rfl)
theorem ajK {x x1 w R}:Uj (Calls prog 268 #[ab x,int .u64 x1] w R) (Ct 335 [ab x,int .u64 x1,func (aQ 337) #[] #[]] w λn a w'=>R (Z (aw #[I n,I a])) w'):=uj_ {N:=11,keep:=kp 0 [[0,1],[4,5]],ref:=ae} func268 (by kernel_rfl)
theorem aki {x w R}:Uj (Calls prog 309 #[ab x] w R) (Call prog 365 [ab x] w λe w'=>∃p n,e=Z (aw #[ab p,I n])/\Fo (n !=0) (R (Z (aw #[I 0,I n])) w') (Ct 307 [ab p] w' λn a w'=>R (Z (aw #[I n,I a])) w')):=uj_ {N:=18,keep:=kp 0 [[0],[4,5],[4,5,12],[2,3],[2,3]],ref:=ae} func309 (by kernel_rfl)
theorem akj {x w R}:Uj (Calls prog 310 #[ab x] w R) (Call prog 365 [ab x] w λe w'=>∃p n,e=Z (aw #[ab p,I n])/\Fo (n !=0) (R (Z (I n)) w') (Ci 366 [ab p] w' λn w'=>R (Z (I n)) w')):=uj_ {N:=15,keep:=kp 0 [[0],[3,4],[3,4,11],[2],[2]],ref:=ae} func310 (by kernel_rfl)
theorem akt {x x1 x2 w R}:Uj (Calls prog 320 #[ab x,I x1,I x2] w R) (Fo x.isNone (R (Z (I 1)) w) (∃a,x=aa a/\∃r,w.cell? (a.add 8)=aa (map r)/\∃n b,aZ prog (dr 78 (map r) (I x2) ag) w=a7 (aw #[I n,.bool b]) w/\Fz (decide (x1<0)) (Fo (decide (x1>=8)) (R (Z (I 2)) w) (Fo b (R (Z (I 6)) w) (Sm w λw'=>∃a,x=aa a/\∃r,w'.cell? (a.add 8)=aa (map r)/\∃(n:Nat),(∀(ty:TypeId),aZ prog (k9 #[78] ty #[map r]) w'=a7 (I (↑n:Int)) w')/\∃a,x=aa a/\Li w' (a.add 9) λc=>Fo (decide ((↑n:Int)>=c)) (R (Z (I 5)) w') (∃a,x=aa a/\∃r,w'.cell? (a.add 8)=aa (map r)/\∃d,aZ prog (ic 78 (map r) (I x2) (I x1)) w'=a7 () d/\∃a,x=aa a/\(0<=x1/\x1<(↑8:Int))/\∃p,d.cell? (add (a.add 0) (aG x1*1))=aa (ab p)/\Call prog 151 [ab p,I x2] d λe w'=>∃n,e=Z (I n)/\R (Z (I n)) w')))) (R (Z (I 2)) w))):=uj_ {N:=54,keep:=kp 0 [[0,1,2],[0,1,2,10],[6],[0,1,2,8],[0,1,2,8,20],[6],[0,1,2,27],[6],[0,1,2,29],[6],[0,1,2],[6]],bX:=[(8,(.range 11))],bk:=[(0,[0,1,2])],ref:=ae} func320 (by kernel_rfl)
theorem aku {x x1 w R}:Uj (Calls prog 321 #[ab x,I x1] w R) (Fo x.isNone (R (Z (I 1)) w) (∃a,x=aa a/\∃r,w.cell? (a.add 8)=aa (map r)/\∃n b,aZ prog (dr 78 (map r) (I x1) ag) w=a7 (aw #[I n,.bool b]) w/\Fo (!b) (R (Z (I 4)) w) (∃a,x=aa a/\∃r,w.cell? (a.add 8)=aa (map r)/\∃w',aZ prog (iJ #[78,3] 0 #[map r,I x1]) w=a7 (aw #[]) w'/\∃a,x=aa a/\(0<=n/\n<(↑8:Int))/\Lp w' (add (a.add 0) (aG n*1)) λp=>Ci 364 [ab p,I x1] w' λn w'=>R (Z (I n)) w'))):=uj_ {N:=33,keep:=kp 0 [[0,1],[0,1,8],[4],[0,1,5,6],[0,1,5,19],[4],[0,1,5],[4]],ref:=ae} func321 (by kernel_rfl)
theorem akw {x x1 w R}:Uj (Calls prog 323 #[ab x,I x1] w R) ((x.isNone->R (Z (aw #[int i64 0,.bool ae])) w)/\(x.isNone=ae->∃a,x=aa a/\∃r,w.cell? (a.add 8)=aa (map r)/\∃n b,aZ prog (dr 78 (map r) (int i64 x1) ag) w=a7 (aw #[int i64 n,.bool b]) w/\R (Z (aw #[int i64 n,.bool b])) w)):=uj_ {N:=21,keep:=kp 0 [[0,1],[0,1,9],[4,5],[6,7],[4,5]],ref:=ae} func323 (by kernel_rfl)
def sR:Mt:={N:=46,keep:=kp 0 [[0,1,2],[0,1,2,13],[6,7],[0,2,8],[0,2,8,25],[6,7],[0,2,8,9],[0,2,9,29,30,31],[0,2,9,29,30,31,32],[0,2,9,11,29,30,31],[0,2,9,11,29,30,31,42],[0,2,9,29,30,31],[0,2,9,29,30,31],[6,7]],bk:=[(0,[9]),(1,[0,2,9,29,30,31])],lk:=[(8,[0,2,9,29,30,31])],ref:=ae}
def z6:=a8 f335
def GN:=z6.sr.sr.sr.sr.sr.sr
def z7:=z6.sr.sr.sr.sr.sr.sl.sr.sl.sl
def Av (x:Option Addr) (x1:Int) (x2:Option Addr) (x3 x4:Nat) (x5 x6:Int):Env:=[vP 0 x,(2,SV.v (func (aQ 336) #[] #[])),vI 9 x1,vS 29 x2 x3 x4,vI 30 x5,vI 31 x6]
def AN (R:RT):=bo 0 [9] (SQ sR GN (Rt f335 R) (Rt f335 R))
theorem KM {x x1 w R}:Uj (Calls prog 335 #[ab x,int .u64 x1,func (aQ 336) #[] #[]] w R) (Fo x.isNone (R (Z (aw #[I 0,I 1])) w) (∃a,x=aa a/\Lq w (a.add 0) λp n c=>Cu 11 [I (↑n:Int)] w λn w'=>Cu 318 [int .u64 x1,int .u64 n] w' λn w'=>Cq 382 [int .u64 n] w' λp n c w'=>Fo ((↑n:Int)==0) (R (Z (aw #[I 0,I 12])) w') (((0:Int)<=0/\0<(↑n:Int))/\∃a,p=aa a/\Li w' (a.add 0) λb=>Cut (WP prog 46 (bh z7) [vP 0 x,(2,SV.v (func (aQ 336) #[] #[])),vI 9 b,vS 29 p n c,(30,SV.v (I (↑n:Int))),vI 31 0] w' (AN R))))):=uj_ sR func335 (by kernel_rfl)
theorem Ko (x x1 x2 x3 x4 x5 x6 w B R):den prog sR z7 (Av x x1 x2 x3 x4 x5 x6) w (bC B (AN R))=
(Fo (decide (x6<x5)) ((0<=x6/\x6<(↑x3:Int))/\∃a,x2=aa a/\Li w (add a (aG x6*1)) λn=>Ci 14 [ab x,I n] w λc w'=>Ci 14 [ab x,I x1] w' λd w'=>Cj 336 [I c,I d] w' λb w'=>Fo b (B [vP 0 x,(2,SV.v (func (aQ 336) #[] #[])),vI 9 n,vS 29 x2 x3 x4,vI 30 x5,(31,SV.v (I (wrap i64 (x6+1))))] w') (B [vP 0 x,(2,SV.v (func (aQ 336) #[] #[])),vI 9 x1,vS 29 x2 x3 x4,vI 30 x5,(31,SV.v (I (wrap i64 (x6+1))))] w')) (R (Z (aw #[I x1,I 0])) w)):=by kernel_rfl
theorem akI {x x1 w R}:Uj (Calls prog 336 #[I x,I x1] w R) (R (Z (.bool (decide (x>x1)))) w):=uj_ {N:=8,keep:=kp 0 [[0,1],[4]],ref:=ae} func336 (by kernel_rfl)
theorem akJ {x x1 w R}:Uj (Calls prog 337 #[I x,I x1] w R) (R (Z (.bool (decide (x<x1)))) w):=uj_ {N:=8,keep:=kp 0 [[0,1],[4]],ref:=ae} func337 (by kernel_rfl)
end
end
section
open Value IntKind Ending World Addr Tryz
open Value renaming pointer→ab,slice→ar,tuple→aw,bool→qv
set_option maxRecDepth 100000
noncomputable section
theorem u34 {x w R}:Uj (Calls prog 34 #[I x] w R) (Fz (decide (x<1)) (Fo (decide (x>64)) (R (Z (aw #[ab ah,I 2])) w) (Call prog 107 [I 32] w λe w'=>∃p n,e=Z (aw #[ab p,I n])/\Fo (n !=0) (R (Z (aw #[ab ah,I n])) w') (sU w' λr w'=>aJ w' [ab p,I x,map (aa r)] 192 λp w'=>R (Z (aw #[ab (aa p),I 0])) w'))) (R (Z (aw #[ab ah,I 2])) w)):=uj_ {N:=25,keep:=kp 0 [[0],[0,11],[2,3],[0,4,5],[0,4,5,17],[2,3],[2,3]],ref:=ae} func34 (by kernel_rfl)
theorem ahu {x x1 x2 w R}:Uj (Calls prog 125 #[ab x,I x1,int .u64 x2] w R) (Fo x.isNone (R (Z (aw #[I 0,I 1])) w) (Fz (decide (x1<0)) (Fz (decide (x1>=8)) (Cj 232 [ab x,int .u64 x2] w λb w'=>Fo (!b) (R (Z (aw #[I 0,I 2])) w') (∃a,x=aa a/\Lp w' (add (a.add 0) 0) λp=>Ct 149 [ab p] w' λn c w'=>Fo (c !=0) (R (Z (aw #[I 0,I c])) w') (∃a,x=aa a/\∃r,w'.cell? (a.add 2)=aa (map r)/\aJ w' [I x1,int .u64 x2,I 0,.bool ae,.bool ae,I 0] 250 λp w'=>∃d,aZ prog (ic 190 (map r) (I n) (ab (aa p))) w'=a7 () d/\R (Z (aw #[I n,I 0])) d))) (R (Z (aw #[I 0,I 2])) w)) (R (Z (aw #[I 0,I 2])) w))):=uj_ {N:=48,keep:=kp 0 [[0,1,2],[0,1,2,10],[6,7],[0,1,2,13],[6,7],[0,1,2,8,9],[0,1,2,8,9,36],[6,7],[8],[6,7]],bk:=[(0,[0,1,2])],ref:=ae} func125 (by kernel_rfl)
theorem ahw {x x1 w R}:Uj (Calls prog 127 #[ab x,I x1] w R) (aJ w [I 0,int .u64 0,I 0,.bool ae,.bool ae,I 0] 250 λp w'=>Call prog 236 [ab x,I x1] w' λe w'=>∃i n,e=Z (aw #[ab i,I n])/\Fo (n !=0) (Wr w' p [I 0,int .u64 0,I 0,.bool ae,.bool ae,I 0] λw'=>Li w' (p.add 0) λc=>Lu w' (p.add 1) λd=>Li w' (p.add 2) λf=>Lj w' (p.add 3) λb=>Lj w' (p.add 4) λg=>Li w' (p.add 5) λh=>R (Z (aw #[agg #[I c,int .u64 d,I f,.bool b,.bool g,I h],I n])) w') (∃a,i=aa a/\Li w' (a.add 0) λn=>Lu w' (a.add 1) λc=>Li w' (a.add 2) λd=>Lj w' (a.add 3) λb=>Lj w' (a.add 4) λg=>Li w' (a.add 5) λf=>Wr w' p [I n,int .u64 c,I d,.bool b,.bool g,I f] λw'=>Li w' (p.add 0) λn=>Lu w' (p.add 1) λh=>Li w' (p.add 2) λj=>Lj w' (p.add 3) λb=>Lj w' (p.add 4) λk=>Li w' (p.add 5) λl=>R (Z (aw #[agg #[I n,int .u64 h,I j,.bool b,.bool k,I l],I 0])) w')):=uj_ {N:=21,keep:=kp 0 [[0,1,4],[4,6,7],[4,6,7,15],[4,5],[4,5]],ref:=ae} func127 (by kernel_rfl)
theorem ahy {x x1 x2 w R}:Uj (Calls prog 129 #[ab x,I x1,int .u64 x2] w R) (Call prog 236 [ab x,I x1] w λe w'=>∃p n,e=Z (aw #[ab p,I n])/\Fo (n !=0) (R (Z (I n)) w') (Cj 232 [ab x,int .u64 x2] w' λb w'=>Fo (!b) (R (Z (I 2)) w') (∃a,p=aa a/\Wr w' (a.add 1) [int .u64 x2] λw'=>R (Z (I 0)) w'))):=uj_ {N:=28,keep:=kp 0 [[0,1,2],[0,2,7,8],[0,2,7,8,15],[6],[2,7,19],[6],[],[6]],bk:=[(0,[2,7])],ref:=ae} func129 (by kernel_rfl)
theorem ail {x w R}:Uj (Calls prog 181 #[ab x] w R) (Fo x.isNone (R (Z (N3)) w) (∃a,x=aa a/\Lp w (add (a.add 0) 0) λp=>Cq 272 [ab p] w λp n c w'=>R (Z (ar p n c)) w')):=uj_ {N:=11,keep:=kp 0 [[0],[0,4],[2],[2]],ref:=ae} func181 (by kernel_rfl)
theorem aja {x x1 w R}:Uj (Calls prog 232 #[ab x,int .u64 x1] w R) (Fo (x1 !=0) (∃a,x=aa a/\Li w (a.add 1) λn=>Cu 11 [I n] w λn w'=>Cj 277 [int .u64 x1,int .u64 n] w' λb w'=>R (Z (.bool b)) w') (R (Z (.bool ae)) w)):=uj_ {N:=16,keep:=kp 0 [[0,1],[4]],ref:=ae} func232 (by kernel_rfl)
theorem ajc {x x1 x2 x3 w R}:Uj (Calls prog 234 #[ab x,I x1,I x2,.bool x3] w R) (Call prog 236 [ab x,I x1] w λe w'=>∃p n,e=Z (aw #[ab p,I n])/\Fo (n !=0) (R (Z (I n)) w') (Fz (decide (x2<0)) (∃a,x=aa a/\Li w' (a.add 1) λn=>Fo (decide (x2>=n)) (R (Z (I 3)) w') (∃a,p=aa a/\Wr w' (a.add 2) [I x2] λw'=>∃a,p=aa a/\Wr w' (a.add 3) [.bool x3] λw'=>R (Z (I 0)) w')) (R (Z (I 3)) w'))):=uj_ {N:=40,keep:=kp 0 [[0,1,2,3],[0,2,3,9,10],[0,2,3,9,10,17],[8],[2,3,9,21],[8],[],[8]],bk:=[(0,[2,3,9])],ref:=ae} func234 (by kernel_rfl)
theorem aje {x x1 w R}:Uj (Calls prog 236 #[ab x,I x1] w R) (Fo x.isNone (R (Z (aw #[ab ah,I 1])) w) (∃a,x=aa a/\∃r,w.cell? (a.add 2)=aa (map r)/\∃p b,aZ prog (dr 190 (map r) (I x1) ag) w=a7 (aw #[ab p,.bool b]) w/\Fo (!b) (R (Z (aw #[ab ah,I 4])) w) (R (Z (aw #[ab p,I 0])) w))):=uj_ {N:=22,keep:=kp 0 [[0,1],[0,1,9],[4,5],[6,7],[6,20],[4,5],[4,5]],ref:=ae} func236 (by kernel_rfl)
theorem ajg {x x1 w R}:Uj (Calls prog 238 #[ab x,I x1] w R) (Call prog 236 [ab x,I x1] w λe w'=>∃p n,e=Z (aw #[ab p,I n])/\Fo (n !=0) (R (Z (I n)) w') (∃a,x=aa a/\∃r,w'.cell? (a.add 2)=aa (map r)/\∃b,aZ prog (iJ #[190,3] 0 #[map r,I x1]) w'=a7 (aw #[]) b/\∃a,x=aa a/\∃p,b.cell? (add (a.add 0) 0)=aa (ab p)/\Call prog 305 [ab p,I x1] b λe w'=>∃n,e=Z (I n)/\R (Z (I n)) w')):=uj_ {N:=28,keep:=kp 0 [[0,1],[0,1,6],[0,1,6,14],[4],[0,1],[4]],ref:=ae} func238 (by kernel_rfl)
theorem ajj {x x1 x2 w R}:Uj (Calls prog 241 #[ab x,I x1,I x2] w R) (Call prog 236 [ab x,I x1] w λe w'=>∃p n,e=Z (aw #[ab p,I n])/\Fo (n !=0) (R (Z (I n)) w') (∃a,p=aa a/\Lj w' (a.add 4) λb=>Fo b (R (Z (I 6)) w') (∃a,p=aa a/\Wr w' (a.add 4) [.bool ag] λw'=>∃a,p=aa a/\Wr w' (a.add 5) [I x2] λw'=>R (Z (I 0)) w'))):=uj_ {N:=31,keep:=kp 0 [[0,1,2],[2,7,8],[2,7,8,15],[6],[2,7,19],[6],[],[6]],bk:=[(0,[2,7])],ref:=ae} func241 (by kernel_rfl)
theorem ajn {x x1 w R}:Uj (Calls prog 245 #[ab x,I x1] w R) (Call prog 236 [ab x,I x1] w λe w'=>∃p n,e=Z (aw #[ab p,I n])/\Fo (n !=0) (R (Z (aw #[I 0,I n])) w') (∃a,p=aa a/\Lj w' (a.add 4) λb=>Fo (!b) (R (Z (aw #[I 0,I 6])) w') (∃a,p=aa a/\Li w' (a.add 5) λn=>∃a,p=aa a/\Wr w' (a.add 4) [.bool ae] λw'=>∃a,p=aa a/\Wr w' (a.add 5) [I 0] λw'=>R (Z (aw #[I n,I 0])) w'))):=uj_ {N:=36,keep:=kp 0 [[0,1],[6,7],[6,7,15],[4,5],[6,19],[4,5],[6,8],[8],[4,5]],bk:=[(0,[6])],ref:=ae} func245 (by kernel_rfl)
theorem u40 {x w R}:Uj (Calls prog 40 #[I x] w R) (Fz (decide (x<1)) (Fo (decide (x>64)) (R (Z (aw #[ab ah,I 2])) w) (Cu 11 [I x] w λn w'=>aJ w' [.bool ae,.bool ae,.bool ae,int .u64 0,.bool ae,.bool ae,.bool ae,int .u64 0,.bool ae,.bool ae,.bool ae,int .u64 0,.bool ae,.bool ae,.bool ae,int .u64 0,.bool ae,.bool ae,.bool ae,int .u64 0,.bool ae,.bool ae,.bool ae,int .u64 0,.bool ae,.bool ae,.bool ae,int .u64 0,.bool ae,.bool ae,.bool ae,int .u64 0,.bool ae,.bool ae,.bool ae,int .u64 0,.bool ae,.bool ae,.bool ae,int .u64 0,.bool ae,.bool ae,.bool ae,int .u64 0,.bool ae,.bool ae,.bool ae,int .u64 0,.bool ae,.bool ae,.bool ae,int .u64 0,.bool ae,.bool ae,.bool ae,int .u64 0,.bool ae,.bool ae,.bool ae,int .u64 0,.bool ae,.bool ae,.bool ae,int .u64 0,int .u64 n] 201 λp w'=>R (Z (aw #[ab (aa p),I 0])) w')) (R (Z (aw #[ab ah,I 2])) w)):=uj_ {N:=14,keep:=kp 0 [[0],[0,9],[2,3],[2,3]],ref:=ae} func40 (by kernel_rfl)
theorem ahF {x x1 x2 w R}:Uj (Calls prog 136 #[ab x,I x1,int .u64 x2] w R) (Call prog 246 [ab x,I x1] w λe w'=>∃p n,e=Z (aw #[ab p,I n])/\Fo (n !=0) (R (Z (I n)) w') (∃a,p=aa a/\Lj w' (a.add 0) λb=>Fo b (R (Z (I 6)) w') (Cj 247 [ab x,int .u64 x2] w' λb w'=>Fo (!b) (R (Z (I 2)) w') (∃a,p=aa a/\Wr w' a [.bool ag,.bool ae,.bool ae,int .u64 x2] λw'=>R (Z (I 0)) w')))):=uj_ {N:=33,keep:=kp 0 [[0,1,2],[0,2,7,8],[0,2,7,8,15],[6],[0,2,7,19],[6],[2,7,24],[6],[],[6]],bk:=[(0,[2,7])],ref:=ae} func136 (by kernel_rfl)
theorem ahI {x x1 w R}:Uj (Calls prog 139 #[ab x,I x1] w R) (Call prog 250 [ab x,I x1] w λe w'=>∃p n,e=Z (aw #[ab p,I n])/\Fo (n==0) (∃a,p=aa a/\Wr w' a [.bool ae,.bool ae,.bool ae,int .u64 0] λw'=>R (Z (I n)) w') (R (Z (I n)) w')):=uj_ {N:=19,keep:=kp 0 [[0,1],[5,6],[5,6,14],[6],[4]],ref:=ae} func139 (by kernel_rfl)
theorem ahL {x x1 x2 w R}:Uj (Calls prog 142 #[ab x,I x1,int .u64 x2] w R) (Call prog 250 [ab x,I x1] w λe w'=>∃p n,e=Z (aw #[ab p,I n])/\Fo (n !=0) (R (Z (I n)) w') (Cj 247 [ab x,int .u64 x2] w' λb w'=>Fo (!b) (R (Z (I 2)) w') (∃a,p=aa a/\Wr w' (a.add 3) [int .u64 x2] λw'=>R (Z (I 0)) w'))):=uj_ {N:=28,keep:=kp 0 [[0,1,2],[0,2,7,8],[0,2,7,8,15],[6],[2,7,19],[6],[],[6]],bk:=[(0,[2,7])],ref:=ae} func142 (by kernel_rfl)
theorem ahO {x x1 w R}:Uj (Calls prog 145 #[ab x,I x1] w R) (Ci 252 [ab x,I x1,.bool ag] w λn w'=>R (Z (I n)) w'):=uj_ {N:=8,keep:=kp 0 [[0,1],[4]],ref:=ae} func145 (by kernel_rfl)
theorem ahP {x x1 w R}:Uj (Calls prog 146 #[ab x,I x1] w R) (Ci 252 [ab x,I x1,.bool ae] w λn w'=>R (Z (I n)) w'):=uj_ {N:=8,keep:=kp 0 [[0,1],[4]],ref:=ae} func146 (by kernel_rfl)
theorem ahQ {x x1 w R}:Uj (Calls prog 147 #[ab x,I x1] w R) (Call prog 250 [ab x,I x1] w λe w'=>∃p n,e=Z (aw #[ab p,I n])/\Fo (n==0) (∃a,p=aa a/\Wr w' (a.add 2) [.bool ag] λw'=>R (Z (I n)) w') (R (Z (I n)) w')):=uj_ {N:=19,keep:=kp 0 [[0,1],[5,6],[5,6,14],[6],[4]],ref:=ae} func147 (by kernel_rfl)
def B1:Mt:={N:=24,keep:=kp 0 [[0],[0,7],[2],[0,3],[3,11,12],[3,11,12,13],[3,4,5,11,12],[3,4,11,12,17],[3,11,12],[3,11,12],[2]],bk:=[(0,[3]),(1,[3,11,12])],lk:=[(5,[3,11,12])],ref:=ae}
def Mj:=a8 f174
def Wh:=Mj.sr.sr.sr.sr
def Ml:=Mj.sr.sr.sr.sl.sr.sl.sl
def Hs (x:Option Addr) (x1 x2:Nat) (x3:List Value) (x4:Int):Env:=[vS 3 x x1 x2,(11,SV.v (agg x3.toArray)),vI 12 x4]
def Qu (R:RT):=bo 0 [3] (SQ B1 Wh (Rt f174 R) (Rt f174 R))
theorem aif {x w R}:Uj (Calls prog 174 #[ab x] w R) (Fo x.isNone (R (Z (N3)) w) (∃a,x=aa a/\∃cs,gu cs=64/\(∀(j:Nat) (v:Value),cs[j]?=aa v->w.cell? (add (a.add 0) j)=aa v)/\Cut (WP prog 24 (bh Ml) (Hs ah 0 0 cs 0) w (Qu R)))):=uj_ B1 func174 (by kernel_rfl)
theorem ae5 (x x1 x2 x3 x4 w B R):den prog B1 Ml (Hs x x1 x2 x3 x4) w (bC B (Qu R))=
(Fo (decide (x4<16)) ((0<=x4/\x4<(↑16:Int))/\∃b a d n,rT 4 (rU (aG x4*4) (Array.toList (dK x3)))=[.bool b,.bool a,.bool d,int .u64 n]/\aJ w [.bool ae,.bool ae,.bool ae,int .u64 0] 198 λp w'=>Wr w' p [.bool b,.bool a,.bool d,int .u64 n] λw'=>Lj w' (p.add 0) λb=>Fo b (aJ w' [I x4] 3 λp w'=>∃e n c f,aZ prog (bR #[36,36] 36 #[ar x x1 x2,ar (aa p) 1 1]) w'=a7 (ar e n c) f/\B [vS 3 e n c,(11,SV.v (agg (dK x3))),(12,SV.v (I (wrap i64 (x4+1))))] f) (B [vS 3 x x1 x2,(11,SV.v (agg (dK x3))),(12,SV.v (I (wrap i64 (x4+1))))] w')) (R (Z (ar x x1 x2)) w)):=by kernel_rfl
theorem aih {x x1 w R}:Uj (Calls prog 175 #[ab x,I x1] w R) (Call prog 250 [ab x,I x1] w λe w'=>∃p n,e=Z (aw #[ab p,I n])/\Fo (n==0) (∃a,p=aa a/\Lj w' (a.add 2) λb=>Fo b (∃a,p=aa a/\Lj w' (a.add 1) λb=>R (Z (.bool !b)) w') (R (Z (.bool ae)) w')) (R (Z (.bool ae)) w')):=uj_ {N:=28,keep:=kp 0 [[0,1],[5,6],[4]],ref:=ae} func175 (by kernel_rfl)
theorem aiZ {x x1 w R}:Uj (Calls prog 221 #[ab x,I x1] w R) (Call prog 250 [ab x,I x1] w λe w'=>∃p n,e=Z (aw #[ab p,I n])/\Fo (n !=0) (R (Z (I n)) w') (∃a,p=aa a/\Lj w' (a.add 2) λb=>Fz (!b) (∃a,p=aa a/\Lj w' (a.add 1) λb=>Fo b (R (Z (I 12)) w') (∃a,p=aa a/\Wr w' (a.add 2) [.bool ae] λw'=>R (Z (I 0)) w')) (R (Z (I 12)) w'))):=uj_ {N:=32,keep:=kp 0 [[0,1],[5,6],[5,6,13],[4],[5,17],[4],[],[4]],bk:=[(0,[5])],ref:=ae} func221 (by kernel_rfl)
theorem ajo {x x1 w R}:Uj (Calls prog 246 #[ab x,I x1] w R) (Fo x.isNone (R (Z (aw #[ab ah,I 1])) w) (Fz (decide (x1<0)) (Fo (decide (x1>=16)) (R (Z (aw #[ab ah,I 3])) w) (∃a,x=aa a/\(0<=x1/\x1<(↑16:Int))/\R (Z (aw #[ab (aa (add (a.add 0) (aG x1*4))),I 0])) w)) (R (Z (aw #[ab ah,I 3])) w))):=uj_ {N:=21,keep:=kp 0 [[0,1],[0,1,6],[4,5],[0,1,9],[4,5],[4,5]],bk:=[(0,[0,1])],ref:=ae} func246 (by kernel_rfl)
theorem ajp {x x1 w R}:Uj (Calls prog 247 #[ab x,int .u64 x1] w R) (Fo (x1 !=0) (∃a,x=aa a/\Lu w (a.add 64) λn=>Cj 277 [int .u64 x1,int .u64 n] w λb w'=>R (Z (.bool b)) w') (R (Z (.bool ae)) w)):=uj_ {N:=15,keep:=kp 0 [[0,1],[4]],ref:=ae} func247 (by kernel_rfl)
theorem ajq {x x1 w R}:Uj (Calls prog 248 #[ab x,I x1] w R) (aJ w [.bool ae,.bool ae,.bool ae,int .u64 0] 198 λp w'=>Call prog 246 [ab x,I x1] w' λe w'=>∃f n,e=Z (aw #[ab f,I n])/\Fo (n !=0) (Wr w' p [.bool ae,.bool ae,.bool ae,int .u64 0] λw'=>Lj w' (p.add 0) λb=>Lj w' (p.add 1) λc=>Lj w' (p.add 2) λd=>Lu w' (p.add 3) λg=>R (Z (aw #[agg #[.bool b,.bool c,.bool d,int .u64 g],I n])) w') (∃a,f=aa a/\Lj w' (a.add 0) λb=>Lj w' (a.add 1) λc=>Lj w' (a.add 2) λd=>Lu w' (a.add 3) λn=>Wr w' p [.bool b,.bool c,.bool d,int .u64 n] λw'=>Lj w' (p.add 0) λb=>Lj w' (p.add 1) λh=>Lj w' (p.add 2) λi=>Lu w' (p.add 3) λn=>R (Z (aw #[agg #[.bool b,.bool h,.bool i,int .u64 n],I 0])) w')):=uj_ {N:=21,keep:=kp 0 [[0,1,4],[4,6,7],[4,6,7,15],[4,5],[4,5]],ref:=ae} func248 (by kernel_rfl)
theorem ajs {x x1 w R}:Uj (Calls prog 250 #[ab x,I x1] w R) (Call prog 246 [ab x,I x1] w λe w'=>∃p n,e=Z (aw #[ab p,I n])/\Fo (n==0) (∃a,p=aa a/\Lj w' (a.add 0) λb=>Fo (!b) (R (Z (aw #[ab ah,I 4])) w') (R (Z (aw #[ab p,I n])) w')) (R (Z (aw #[ab p,I n])) w')):=uj_ {N:=25,keep:=kp 0 [[0,1],[6,7],[6,7,22],[4,5],[4,5]],ref:=ae} func250 (by kernel_rfl)
theorem aju {x x1 x2 w R}:Uj (Calls prog 252 #[ab x,I x1,.bool x2] w R) (Call prog 250 [ab x,I x1] w λe w'=>∃p n,e=Z (aw #[ab p,I n])/\Fo (n !=0) (R (Z (I n)) w') (∃a,p=aa a/\Lj w' (a.add 1) λb=>Fo (b==x2) (R (Z (I 6)) w') (∃a,p=aa a/\Wr w' (a.add 1) [.bool x2] λw'=>R (Z (I 0)) w'))):=uj_ {N:=30,keep:=kp 0 [[0,1,2],[2,7,8],[2,7,8,15],[6],[2,7,19],[6],[],[6]],bk:=[(0,[2,7])],ref:=ae} func252 (by kernel_rfl)
theorem u42 {x w R}:Uj (Calls prog 42 #[I x] w R) (Fz (decide (x<1)) (Fo (decide (x>64)) (R (Z (aw #[ab ah,I 2])) w) (aJ w [I 0,I 0,I 0,I 0,I 0,I 0,I 0,I 0,I 0,I 0,I 0,I 0,I 0,I 0,I 0,I 0,I x] 204 λp w'=>R (Z (aw #[ab (aa p),I 0])) w')) (R (Z (aw #[ab ah,I 2])) w)):=uj_ {N:=13,keep:=kp 0 [[0],[0,9],[2,3],[2,3]],ref:=ae} func42 (by kernel_rfl)
theorem ahK {x x1 w R}:Uj (Calls prog 141 #[ab x,I x1] w R) (Ci 251 [ab x,I x1] w λn w'=>Fo (n !=0) (R (Z (I n)) w') (∃a,x=aa a/\(0<=x1/\x1<(↑16:Int))/\Li w' (add (a.add 0) (aG x1*1)) λn=>Fo (n==0) (R (Z (I 4)) w') (∃a,x=aa a/\(0<=x1/\x1<(↑16:Int))/\Wr w' (add (a.add 0) (aG x1*1)) [I 0] λw'=>R (Z (I 0)) w'))):=uj_ {N:=24,keep:=kp 0 [[0,1],[0,1,5],[0,1,5,10],[4],[0,1,18],[4],[],[4]],ref:=ae} func141 (by kernel_rfl)
theorem aip {x x1 w R}:Uj (Calls prog 186 #[ab x,I x1] w R) (Call prog 251 [ab x,I x1] w λe w'=>∃n,e=Z (I n)/\Fz (n !=0) (∃a,x=aa a/\(0<=x1/\x1<(↑16:Int))/\∃n,w'.cell? (add (a.add 0) (aG x1*1))=aa (I n)/\Fo (n==0) (R (Z (aw #[I 0,.bool ae])) w') (∃a,x=aa a/\(0<=x1/\x1<(↑16:Int))/\∃n,w'.cell? (add (a.add 0) (aG x1*1))=aa (I n)/\R (Z (aw #[I (wrap i64 (n-1)),.bool ag])) w')) (R (Z (aw #[I 0,.bool ae])) w')):=uj_ {N:=26,keep:=kp 0 [[0,1],[0,1,18],[4,5],[4,5]],ref:=ae} func186 (by kernel_rfl)
theorem ajr {x x1 x2 w R}:Uj (Calls prog 249 #[ab x,I x1,I x2] w R) (Ci 251 [ab x,I x1] w λn w'=>Fo (n !=0) (R (Z (I n)) w') (Fz (decide (x2<0)) (∃a,x=aa a/\Li w' (a.add 16) λn=>Fo (decide (x2>=n)) (R (Z (I 3)) w') (∃a,x=aa a/\(0<=x1/\x1<(↑16:Int))/\Wr w' (add (a.add 0) (aG x1*1)) [I (wrap i64 (x2+1))] λw'=>R (Z (I 0)) w')) (R (Z (I 3)) w'))):=uj_ {N:=31,keep:=kp 0 [[0,1,2],[0,1,2,7],[0,1,2,7,12],[6],[0,1,2,23],[6],[],[6]],ref:=ae} func249 (by kernel_rfl)
theorem ajt {x x1 w R}:Uj (Calls prog 251 #[ab x,I x1] w R) (Fo x.isNone (R (Z (I 1)) w) (Fz (decide (x1<0)) (Fo (decide (x1>=16)) (R (Z (I 3)) w) (R (Z (I 0)) w)) (R (Z (I 3)) w))):=uj_ {N:=15,keep:=kp 0 [[0,1],[1,5],[4],[8],[4],[4]],bk:=[(0,[])],ref:=ae} func251 (by kernel_rfl)
def Cc:Mt:={N:=32,keep:=kp 0 [[0,1],[0,1,10],[4],[0,1,5],[0,1,5,11],[0,1,5,11,12],[0,1,5,6,11],[0,1,5,6,7,8,11],[0,1,5,6,11,25],[0,1,5,11],[0,1,5,11],[4]],bk:=[(0,[5]),(1,[0,1,5,11])],lk:=[(5,[0,1,5,11])],ref:=ae}
def M0:=a8 f291
def Wz:=M0.sr.sr.sr.sr
def M1:=M0.sr.sr.sr.sl.sr.sl.sl
def HK (x:Option Addr) (x1:Int) (x2:Option Addr) (x3 x4:Nat) (x5:Int):Env:=[vP 0 x,vI 1 x1,vS 5 x2 x3 x4,vI 11 x5]
def QQ (R:RT):=bo 0 [5] (SQ Cc Wz (Rt f291 R) (Rt f291 R))
theorem aj0 {x x1 w R}:Uj (Calls prog 291 #[ab x,I x1] w R) (Fo x.isNone (R (Z (N3)) w) (Cut (WP prog 32 (bh M1) (HK x x1 ah 0 0 0) w (QQ R)))):=uj_ Cc func291 (by kernel_rfl)
theorem afw (x x1 x2 x3 x4 x5 w B R):den prog Cc M1 (HK x x1 x2 x3 x4 x5) w (bC B (QQ R))=
(Fo (decide (x5<16)) (Call prog 186 [ab x,I x5] w λe w'=>∃n b,e=Z (aw #[I n,.bool b])/\Fo b (Fo (n==x1) (aJ w' [I x5] 3 λp w'=>∃a n c d,aZ prog (bR #[36,36] 36 #[ar x2 x3 x4,ar (aa p) 1 1]) w'=a7 (ar a n c) d/\B [vP 0 x,vI 1 x1,vS 5 a n c,(11,SV.v (I (wrap i64 (x5+1))))] d) (B [vP 0 x,vI 1 x1,vS 5 x2 x3 x4,(11,SV.v (I (wrap i64 (x5+1))))] w')) (B [vP 0 x,vI 1 x1,vS 5 x2 x3 x4,(11,SV.v (I (wrap i64 (x5+1))))] w')) (R (Z (ar x2 x3 x4)) w)):=by kernel_rfl
def zH:Mt:={N:=36,keep:=kp 0 [[0,1,2],[0,1,2,14],[6,7,8],[1,2,9],[1,2,9,10],[1,2,9,10,20],[2,9,10],[2,9,10,24],[6,7,8],[10,11,12],[6,7,8]],cE:=[(7,[2,9,10])],ref:=ae}
def Wq:=a8 f233
def C4:=Wq.sr.sr.sr.sr.sr
def DA (x x1:Int) (x2:Bool):Env:=[vI 2 x,(9,SV.v (int .u64 x1)),(10,SV.v (.bool x2))]
def D8 (R:RT):=Rt f233 R
theorem ajb {x x1 x2 w R}:Uj (Calls prog 233 #[int .u64 x,int .u64 x1,I x2] w R) (Fo (x1==0) (R (Z (aw #[I 0,.bool ae,I 12])) w) (Cu 318 [int .u64 x,int .u64 x1] w λn w'=>Fo (n==0) (aU prog zH C4 (DA x2 x1 (n==0)) w' (D8 R)) (aU prog zH C4 (DA x2 n (n==0)) w' (D8 R)))):=uj_ zH func233 (by kernel_rfl)
theorem afo (x x1 x2 w R):den prog zH C4 (DA x x1 x2) w (D8 R)=
(Cj 23 [int .u64 x1,I x] w λb w'=>Fo b (R (Z (aw #[I x,.bool x2,I 0])) w') (Ct 319 [int .u64 x1,I x] w' λn a w'=>R (Z (aw #[I n,.bool x2,I a])) w')):=by kernel_rfl
theorem ajh {x x1 x2 x3 x4 w R}:Uj (Calls prog 239 #[int .u64 x,agg #[I x1,(int .u64 x2),I x3,(.bool x4)]] w R) (aJ w [I x1,int .u64 x2,I x3,.bool x4] 333 λp w'=>∃n,w'.cell? (p.add 1)=aa (int .u64 n)/\∃d,w'.cell? (p.add 2)=aa (I d)/\Call prog 23 [int .u64 n,I d] w' λe w'=>∃b,e=Z (.bool b)/\∃n,w'.cell? (p.add 2)=aa (I n)/\Call prog 23 [int .u64 x,I n] w' λe w'=>∃c,e=Z (.bool c)/\Fo (!c) (R (Z (.bool ag)) w') (Fo (!b) (∃n,w'.cell? (p.add 1)=aa (int .u64 n)/\Call prog 318 [int .u64 n,int .u64 x] w' λe w'=>∃n,e=Z (int .u64 n)/\Fo (n !=0) (R (Z (.bool ag)) w') (∃a,w'.cell? (p.add 3)=aa (.bool a)/\R (Z (.bool (a==b))) w')) (∃a,w'.cell? (p.add 3)=aa (.bool a)/\R (Z (.bool (a==b))) w'))):=uj_ {N:=31,keep:=kp 0 [[0,3],[0,3,5],[0,3,5,11],[4],[3,5,17],[4],[4]],bk:=[(0,[3,5])],ref:=ae} func239 (by kernel_rfl)
end
end
section
open Value IntKind Ending World Addr Tryz
open Value renaming pointer→ab,slice→ar,tuple→aw,bool→qv
set_option maxRecDepth 100000
noncomputable section
def Cs:Mt:={N:=49,keep:=kp 0 [[0],[0,14],[2,3],[0,4,5],[0,4,5,20],[2,3],[0,6],[6,27,28],[6,27,28,29],[6,7,8,27,28],[6,7,8,27,28,35],[2,3],[6,27,28],[6,27,28],[2,3]],bk:=[(0,[6]),(1,[6,27,28])],lk:=[(8,[6,27,28])],ref:=ae}
def NH:=a8 f44
def WR:=NH.sr.sr.sr.sr.sr.sr
def NI:=NH.sr.sr.sr.sr.sr.sl.sr.sl.sl
def HZ (x:Option Addr) (x1 x2:Int):Env:=[vP 6 x,vI 27 x1,vI 28 x2]
def Rf (R:RT):=bo 0 [6] (SQ Cs WR (Rt f44 R) (Rt f44 R))
theorem u44 {x w R}:Uj (Calls prog 44 #[I x] w R) (Fz (decide (x<1)) (Fo (decide (x>64)) (R (Z (aw #[ab ah,I 2])) w) (Call prog 107 [I 32] w λe w'=>∃p n,e=Z (aw #[ab p,I n])/\Fo (n !=0) (R (Z (aw #[ab ah,I n])) w') (sU w' λr w'=>aJ w' [ab p,N3,map (aa r)] 207 λp w'=>Cut (WP prog 49 (bh NI) (HZ (aa p) (wrap i64 (x+1)) 0) w' (Rf R))))) (R (Z (aw #[ab ah,I 2])) w)):=uj_ Cs func44 (by kernel_rfl)
theorem afW (x x1 x2 w B R):den prog Cs NI (HZ x x1 x2) w (bC B (Rf R))=
(Fo (decide (x2<x1)) (Call prog 110 [I 32] w λe w'=>∃p n,e=Z (aw #[ab p,I n])/\Fo (n !=0) (R (Z (aw #[ab ah,I n])) w') (∃a,x=aa a/\Lq w' (a.add 1) λb n c=>aJ w' [ab p] 208 λp w'=>∃d f g h,aZ prog (bR #[205,205] 205 #[ar b n c,ar (aa p) 1 1]) w'=a7 (ar d f g) h/\∃a,x=aa a/\Wr h (a.add 1) [ar d f g] λw'=>B [vP 6 x,vI 27 x1,(28,SV.v (I (wrap i64 (x2+1))))] w')) (R (Z (aw #[ab x,I 0])) w)):=by kernel_rfl
theorem u68 {x x1 w R}:Uj (Calls prog 68 #[ab x,I x1] w R) (Ci 148 [ab x,I x1,I (-1:Int)] w λn w'=>Fo (n !=0) (R (Z (aw #[I 0,I n])) w') (∃a,x=aa a/\Lp w' (a.add 0) λp=>Ct 149 [ab p] w' λn b w'=>Fo (b !=0) (R (Z (aw #[I 0,I b])) w') (∃a,x=aa a/\∃r,w'.cell? (a.add 2)=aa (map r)/\∃c,aZ prog (ic 78 (map r) (I n) (I x1)) w'=a7 () c/\Call prog 150 [ab x,I x1] c λe w'=>∃p,e=Z (ab p)/\Ci 151 [ab p,I n] w' λd w'=>R (Z (aw #[I n,I d])) w'))):=uj_ {N:=38,keep:=kp 0 [[0,1],[0,1,6],[0,1,6,13],[4,5],[0,1,7,8],[0,1,7,8,24],[4,5],[0,1,7],[4,5]],ref:=ae} func68 (by kernel_rfl)
theorem UG {x x1 w R}:Uj (Calls prog 93 #[ab x,I x1] w R) (Ci 148 [ab x,I x1,I (-1:Int)] w λn w'=>Fo (n !=0) (R (Z (N3)) w') (Cp 150 [ab x,I x1] w' λp w'=>Cq 187 [ab p] w' λp n c w'=>R (Z (ar p n c)) w')):=uj_ {N:=13,keep:=kp 0 [[0,1],[0,1,8],[4],[4]],ref:=ae} func93 (by kernel_rfl)
theorem ahR {x x1 x2 w R}:Uj (Calls prog 148 #[ab x,I x1,I x2] w R) (Fo x.isNone (R (Z (I 1)) w) (Fz (decide (x1<x2)) (∃a,x=aa a/\Lq w (a.add 1) λp n c=>Fo (decide (x1>=wrap i64 ((↑n:Int)-1))) (R (Z (I 3)) w) (R (Z (I 0)) w)) (R (Z (I 3)) w))):=uj_ {N:=24,keep:=kp 0 [[0,1,2],[0,1,2,7],[6],[10],[6],[6]],bk:=[(0,[])],ref:=ae} func148 (by kernel_rfl)
theorem ahT {x x1 w R}:Uj (Calls prog 150 #[ab x,I x1] w R) (∃a,x=aa a/\Lq w (a.add 1) λp n c=>(0<=wrap i64 (x1-(-1:Int))/\wrap i64 (x1-(-1:Int))<(↑n:Int))/\∃a,p=aa a/\∃p,w.cell? (add a (aG (wrap i64 (x1-(-1:Int)))*1))=aa (ab p)/\R (Z (ab p)) w):=uj_ {N:=13,keep:=kp 0 [[0,1],[4]],ref:=ae} func150 (by kernel_rfl)
theorem aib {x x1 w R}:Uj (Calls prog 170 #[ab x,I x1] w R) (Cq 93 [ab x,I x1] w λp n c w'=>R (Z (I (↑n:Int))) w'):=uj_ {N:=9,keep:=kp 0 [[0,1],[4]],ref:=ae} func170 (by kernel_rfl)
def B7:Mt:={N:=38,keep:=kp 0 [[0,1],[0,1,6],[0,1,6,15],[4,5],[0,18,19,20],[0,18,19,20,21],[0,8,18,19,20],[0,9,10,18,19,20],[0,9,18,19,20,32],[4,5],[0,18,19,20],[4,5]],bk:=[(0,[]),(1,[0,18,19,20])],lk:=[(5,[0,18,19,20])],ref:=ae}
def MH:=a8 f223
def Wp:=MH.sr.sr.sr
def MI:=MH.sr.sr.sl.sr.sl.sl
def HC (x x1:Option Addr) (x2 x3:Nat) (x4 x5:Int):Env:=[vP 0 x,vS 18 x1 x2 x3,vI 19 x4,vI 20 x5]
def QG (R:RT):=bo 0 [] (SQ B7 Wp (Rt f223 R) (Rt f223 R))
theorem ai1 {x x1 w R}:Uj (Calls prog 223 #[ab x,I x1] w R) (Ci 148 [ab x,I x1,I 0] w λn w'=>Fo (n !=0) (R (Z (aw #[I 0,I n])) w') (aJ w' [I x1,I (-1:Int)] 3 λp w'=>Cut (WP prog 38 (bh MI) (HC x (aa p) 2 2 (↑2:Int) 0) w' (QG R)))):=uj_ B7 func223 (by kernel_rfl)
theorem afl (x x1 x2 x3 x4 x5 w B R):den prog B7 MI (HC x x1 x2 x3 x4 x5) w (bC B (QG R))=
(Fo (decide (x5<x4)) ((0<=x5/\x5<(↑x2:Int))/\∃a,x1=aa a/\Li w (add a (aG x5*1)) λn=>Cp 150 [ab x,I n] w λp w'=>Ct 307 [ab p] w' λn b w'=>Fo (b==0) (Ci 308 [ab x,I n] w' λc w'=>R (Z (aw #[I n,I c])) w') (B [vP 0 x,vS 18 x1 x2 x3,vI 19 x4,(20,SV.v (I (wrap i64 (x5+1))))] w')) (R (Z (aw #[I 0,I 12])) w)):=by kernel_rfl
theorem ajF {x x1 w R}:Uj (Calls prog 263 #[ab x,I x1] w R) (Call prog 334 [ab x,I x1] w λe w'=>∃n b,e=Z (aw #[I n,.bool b])/\R (Z (.bool b)) w'):=uj_ {N:=14,keep:=kp 0 [[0,1],[6],[4]],ref:=ae} func263 (by kernel_rfl)
theorem akh {x x1 w R}:Uj (Calls prog 308 #[ab x,I x1] w R) (Call prog 334 [ab x,I x1] w λe w'=>∃n b,e=Z (aw #[I n,.bool b])/\Fo x.isNone (R (Z (I 1)) w') (Fo (!b) (R (Z (I 4)) w') (∃a,x=aa a/\∃r,w'.cell? (a.add 2)=aa (map r)/\∃c,aZ prog (iJ #[78,3] 0 #[map r,I x1]) w'=a7 (aw #[]) c/\∃a,x=aa a/\∃p,c.cell? (a.add 0)=aa (ab p)/\Call prog 305 [ab p,I x1] c λe w'=>∃d,e=Z (I d)/\Cp 150 [ab x,I n] w' λp w'=>Ci 364 [ab p,I x1] w' λn w'=>R (Z (I n)) w'))):=uj_ {N:=35,keep:=kp 0 [[0,1],[0,1,5,6],[0,1,5,6,13],[4],[0,1,5,16],[4],[0,1,5],[0,1,5],[4]],bk:=[(0,[0,1,5])],ref:=ae} func308 (by kernel_rfl)
theorem akH {x x1 w R}:Uj (Calls prog 334 #[ab x,I x1] w R) (Fo x.isNone (R (Z (aw #[I 0,.bool ae])) w) (∃a,x=aa a/\∃r,w.cell? (a.add 2)=aa (map r)/\∃n b,aZ prog (dr 78 (map r) (I x1) ag) w=a7 (aw #[I n,.bool b]) w/\R (Z (aw #[I n,.bool b])) w)):=uj_ {N:=21,keep:=kp 0 [[0,1],[0,1,9],[4,5],[6,7],[4,5]],ref:=ae} func334 (by kernel_rfl)
theorem akX {x x1 w R}:Uj (Calls prog 358 #[ab x,I x1] w R) (Ci 148 [ab x,I x1,I 0] w λn w'=>Fo (n !=0) (R (Z (aw #[I 0,I n])) w') (Cp 150 [ab x,I x1] w' λp w'=>Ct 304 [ab p] w' λn b w'=>Fo (b !=0) (R (Z (aw #[I 0,I b])) w') (∃a,x=aa a/\∃r,w'.cell? (a.add 2)=aa (map r)/\∃c,aZ prog (ic 78 (map r) (I n) (I (-1:Int))) w'=a7 () c/\Call prog 150 [ab x,I (-1:Int)] c λe w'=>∃p,e=Z (ab p)/\Ci 151 [ab p,I n] w' λd w'=>R (Z (aw #[I n,I d])) w'))):=uj_ {N:=35,keep:=kp 0 [[0,1],[0,1,6],[0,1,6,13],[4,5],[0,7,8],[0,7,8,23],[4,5],[0,7],[4,5]],ref:=ae} func358 (by kernel_rfl)
def Cv:Mt:={N:=48,keep:=kp 0 [[0],[0,14],[2,3],[0,4,5],[0,4,5,20],[2,3],[0,6],[6,26,27],[6,26,27,28],[6,7,8,26,27],[6,7,8,26,27,34],[2,3],[6,26,27],[6,26,27],[2,3]],bk:=[(0,[6]),(1,[6,26,27])],lk:=[(8,[6,26,27])],ref:=ae}
def NJ:=a8 f46
def WT:=NJ.sr.sr.sr.sr.sr.sr
def NK:=NJ.sr.sr.sr.sr.sr.sl.sr.sl.sl
def H0 (x:Option Addr) (x1 x2:Int):Env:=[vP 6 x,vI 26 x1,vI 27 x2]
def Rg (R:RT):=bo 0 [6] (SQ Cv WT (Rt f46 R) (Rt f46 R))
theorem u46 {x w R}:Uj (Calls prog 46 #[I x] w R) (Fz (decide (x<1)) (Fo (decide (x>64)) (R (Z (aw #[ab ah,I 2])) w) (Call prog 107 [I 32] w λe w'=>∃p n,e=Z (aw #[ab p,I n])/\Fo (n !=0) (R (Z (aw #[ab ah,I n])) w') (aJ w' [ab p,N3] 213 λp w'=>Cut (WP prog 48 (bh NK) (H0 (aa p) x 0) w' (Rg R))))) (R (Z (aw #[ab ah,I 2])) w)):=uj_ Cv func46 (by kernel_rfl)
theorem afX (x x1 x2 w B R):den prog Cv NK (H0 x x1 x2) w (bC B (Rg R))=
(Fo (decide (x2<x1)) (Call prog 110 [I 32] w λe w'=>∃p n,e=Z (aw #[ab p,I n])/\Fo (n !=0) (R (Z (aw #[ab ah,I n])) w') (∃a,x=aa a/\Lq w' (a.add 1) λb n c=>aJ w' [ab p] 208 λp w'=>∃d f g h,aZ prog (bR #[205,205] 205 #[ar b n c,ar (aa p) 1 1]) w'=a7 (ar d f g) h/\∃a,x=aa a/\Wr h (a.add 1) [ar d f g] λw'=>B [vP 6 x,vI 26 x1,(27,SV.v (I (wrap i64 (x2+1))))] w')) (R (Z (aw #[ab x,I 0])) w)):=by kernel_rfl
theorem UH {x x1 w R}:Uj (Calls prog 95 #[ab x,I x1] w R) (aJ w [I x1] 3 λp w'=>Ci 188 [ab x,ar (aa p) 1 1] w' λn w'=>Fo (n !=0) (R (Z (N3)) w') (∃a,x=aa a/\Lq w' (a.add 1) λp n c=>(0<=x1/\x1<(↑n:Int))/\∃a,p=aa a/\Lp w' (add a (aG x1*1)) λp=>Cq 187 [ab p] w' λp n c w'=>R (Z (ar p n c)) w')):=uj_ {N:=18,keep:=kp 0 [[0,1],[0,1,9],[4],[4]],ref:=ae} func95 (by kernel_rfl)
theorem ahX {x x1 w R}:Uj (Calls prog 154 #[ab x,I x1] w R) (aJ w [I x1] 3 λp w'=>Ci 188 [ab x,ar (aa p) 1 1] w' λn w'=>Fo (n !=0) (R (Z (aw #[I 0,I n])) w') (∃a,x=aa a/\Lp w' (add (a.add 0) 0) λp=>Ct 149 [ab p] w' λn b w'=>Fo (b !=0) (R (Z (aw #[I 0,I b])) w') (∃a,x=aa a/\Lq w' (a.add 1) λp d c=>(0<=x1/\x1<(↑d:Int))/\∃a,p=aa a/\Lp w' (add a (aG x1*1)) λp=>Ci 151 [ab p,I n] w' λf w'=>R (Z (aw #[I n,I f])) w'))):=uj_ {N:=38,keep:=kp 0 [[0,1],[0,1,6],[0,1,6,14],[4,5],[0,1,7,8],[0,1,7,8,26],[4,5],[4,5]],ref:=ae} func154 (by kernel_rfl)
def B4:Mt:={N:=27,keep:=kp 0 [[0,1],[0,1,8],[4],[0,9,10,11],[0,9,10,11,12],[0,6,9,10,11],[0,9,10,11,25],[4],[0,9,10,11],[4]],bk:=[(0,[]),(1,[0,9,10,11])],lk:=[(4,[0,9,10,11])],ref:=ae}
def Ms:=a8 f188
def Wl:=Ms.sr.sr.sr
def Mu:=Ms.sr.sr.sl.sr.sl.sl
def Hw (x x1:Option Addr) (x2 x3:Nat) (x4 x5:Int):Env:=[vP 0 x,vS 9 x1 x2 x3,vI 10 x4,vI 11 x5]
def Qy (R:RT):=bo 0 [] (SQ B4 Wl (Rt f188 R) (Rt f188 R))
theorem air {x x1 x2 x3 w R}:Uj (Calls prog 188 #[ab x,ar x1 x2 x3] w R) (Fo x.isNone (R (Z (I 1)) w) (Cut (WP prog 27 (bh Mu) (Hw x x1 x2 x3 (↑x2:Int) 0) w (Qy R)))):=uj_ B4 func188 (by kernel_rfl)
theorem ae9 (x x1 x2 x3 x4 x5 w B R):den prog B4 Mu (Hw x x1 x2 x3 x4 x5) w (bC B (Qy R))=
(Fo (decide (x5<x4)) ((0<=x5/\x5<(↑x2:Int))/\∃a,x1=aa a/\Li w (add a (aG x5*1)) λn=>Fz (decide (n<0)) (∃a,x=aa a/\Lq w (a.add 1) λp b c=>Fo (decide (n>=(↑b:Int))) (R (Z (I 3)) w) (B [vP 0 x,vS 9 x1 x2 x3,vI 10 x4,(11,SV.v (I (wrap i64 (x5+1))))] w)) (R (Z (I 3)) w)) (R (Z (I 0)) w)):=by kernel_rfl
theorem aiH {x x1 w R}:Uj (Calls prog 204 #[ab x,I x1] w R) (Cq 95 [ab x,I x1] w λp n c w'=>R (Z (I (↑n:Int))) w'):=uj_ {N:=9,keep:=kp 0 [[0,1],[4]],ref:=ae} func204 (by kernel_rfl)
theorem aiX {x x1 w R}:Uj (Calls prog 219 #[ab x,I x1] w R) (aJ w [I x1] 3 λp w'=>Ci 188 [ab x,ar (aa p) 1 1] w' λn w'=>Fo (n !=0) (R (Z (aw #[I 0,I n])) w') (∃a,x=aa a/\Lq w' (a.add 1) λp n c=>(0<=x1/\x1<(↑n:Int))/\∃a,p=aa a/\Lp w' (add a (aG x1*1)) λp=>Ct 304 [ab p] w' λn b w'=>Fo (b !=0) (R (Z (aw #[I 0,I b])) w') (∃a,x=aa a/\Lp w' (add (a.add 0) 0) λp=>Ci 305 [ab p,I n] w' λd w'=>R (Z (aw #[I n,I d])) w'))):=uj_ {N:=38,keep:=kp 0 [[0,1],[0,1,6],[0,1,6,14],[4,5],[0,7,8],[0,7,8,28],[4,5],[4,5]],ref:=ae} func219 (by kernel_rfl)
theorem akY {x x1 x2 w R}:Uj (Calls prog 359 #[ab x,I x1,I x2] w R) (aJ w [I x1,I x2] 3 λp w'=>Ci 188 [ab x,ar (aa p) 2 2] w' λn w'=>Fo (n !=0) (R (Z (aw #[I 0,I n])) w') (Fo (x1==x2) (R (Z (aw #[I 0,I 2])) w') (∃a,x=aa a/\Lq w' (a.add 1) λp n c=>(0<=x1/\x1<(↑n:Int))/\∃a,p=aa a/\Lp w' (add a (aG x1*1)) λp=>Ct 304 [ab p] w' λn b w'=>Fo (b !=0) (R (Z (aw #[I 0,I b])) w') (∃a,x=aa a/\Lq w' (a.add 1) λp d c=>(0<=x2/\x2<(↑d:Int))/\∃a,p=aa a/\Lp w' (add a (aG x2*1)) λp=>Ci 151 [ab p,I n] w' λf w'=>R (Z (aw #[I n,I f])) w')))):=uj_ {N:=46,keep:=kp 0 [[0,1,2],[0,1,2,8],[0,1,2,8,17],[6,7],[0,1,2,21],[6,7],[0,2,9,10],[0,2,9,10,34],[6,7],[6,7]],ref:=ae} func359 (by kernel_rfl)
theorem u48 {x x1 w R}:Uj (Calls prog 48 #[I x,I x1] w R) (Call prog 111 [I x1] w λe w'=>∃p n,e=Z (aw #[ab p,I n])/\Fz (n !=0) (Fz (decide (x<1)) (Fo (decide (x>64)) (R (Z (aw #[ab ah,I 2])) w') (∃a n c b,aZ prog (mE 217 (I x) (I x)) w'=a7 (ar a n c) b/\aJ b [ab p,I x1,ar a n c] 219 λp w'=>R (Z (aw #[ab (aa p),I 0])) w')) (R (Z (aw #[ab ah,I 2])) w')) (R (Z (aw #[ab ah,I 2])) w')):=uj_ {N:=29,keep:=kp 0 [[0,1],[0,1,6,7],[0,1,6,22],[4,5],[4,5]],ref:=ae} func48 (by kernel_rfl)
theorem u97 {x x1 w R}:Uj (Calls prog 97 #[ab x,I x1] w R) (Ci 189 [ab x,I x1] w λn w'=>Fo (n !=0) (R (Z (N3)) w') (∃a,x=aa a/\Lq w' (a.add 2) λp n c=>(0<=x1/\x1<(↑n:Int))/\∃a,p=aa a/\Lq w' (add a (aG x1*1)) λp n c=>Cq 190 [ar p n c] w' λp n c w'=>R (Z (ar p n c)) w')):=uj_ {N:=17,keep:=kp 0 [[0,1],[0,1,8],[4],[4]],ref:=ae} func97 (by kernel_rfl)
theorem ahY {x x1 w R}:Uj (Calls prog 155 #[ab x,I x1] w R) (Ci 189 [ab x,I x1] w λn w'=>Fo (n !=0) (R (Z (aw #[I 0,I n])) w') (Cn 256 [ab x,I x1] w' λw'=>∃a,x=aa a/\Lq w' (a.add 2) λp n c=>(0<=x1/\x1<(↑n:Int))/\∃a,p=aa a/\Lq w' (add a (aG x1*1)) λp n c=>Fo (decide (wrap i64 ((↑n:Int)-1)<0)) (R (Z (aw #[I 0,I 5])) w') (∃a,x=aa a/\Lq w' (a.add 2) λp d c=>(0<=x1/\x1<(↑d:Int))/\∃a,p=aa a/\Lq w' (add a (aG x1*1)) λp f c=>(0<=wrap i64 ((↑n:Int)-1)/\wrap i64 ((↑n:Int)-1)<(↑f:Int))/\∃a,p=aa a/\∃g,w'.cell? (add a (aG (wrap i64 ((↑n:Int)-1))*1))=aa (I g)/\Sm w' λb=>∃a,x=aa a/\∃p h c,b.cell? (a.add 2)=aa (ar p h c)/\∃a,x=aa a/\∃i j c,b.cell? (a.add 2)=aa (ar i j c)/\(0<=x1/\x1<(↑j:Int))/\∃a,i=aa a/\∃k l c,b.cell? (add a (aG x1*1))=aa (ar k l c)/\(0<=wrap i64 ((↑n:Int)-1)/\wrap i64 ((↑n:Int)-1)<=(↑c:Int))/\(0<=wrap i64 ((↑n:Int)-1)/\wrap i64 ((↑n:Int)-1)<=(↑(aG (wrap i64 ((↑n:Int)-1))):Int))/\(0<=x1/\x1<(↑h:Int))/\∃a,p=aa a/\Wr b (add a (aG x1*1)) [ar (gl k (aG (wrap i64 ((↑n:Int)-1))) 0 1) (aG (wrap i64 ((↑n:Int)-1))-0) (aG (wrap i64 ((↑n:Int)-1))-0)] λw'=>R (Z (aw #[I g,I 0])) w'))):=uj_ {N:=56,keep:=kp 0 [[0,1],[0,1,6],[0,1,6,13],[4,5],[0,1],[0,1,7],[0,1,7,28],[4,5],[0,1,7,8],[8],[4,5]],bX:=[(9,(.range 17))],ref:=ae} func155 (by kernel_rfl)
def zE:Mt:={N:=46,keep:=kp 0 [[0,1,2],[0,1,2,7],[0,1,2,7,12],[6],[0,1,2,17],[6],[0,1,2,26],[0,1,2],[],[6]],bX:=[(8,(.range 17))],cE:=[(8,[0,1,2])],ref:=ae}
def Wd:=a8 f156
def CX:=Wd.sr.sr.sr.sr
def Dw (x:Option Addr) (x1 x2:Int):Env:=[vP 0 x,vI 1 x1,vI 2 x2]
def D3 (R:RT):=Rt f156 R
theorem ahZ {x x1 x2 w R}:Uj (Calls prog 156 #[ab x,I x1,I x2] w R) (Ci 189 [ab x,I x1] w λn w'=>Fo (n !=0) (R (Z (I n)) w') (Cj 257 [ab x,I x2] w' λb w'=>Fo (!b) (R (Z (I 4)) w') (∃a,x=aa a/\Lq w' (a.add 2) λp n c=>(0<=x1/\x1<(↑n:Int))/\∃a,p=aa a/\Lq w' (add a (aG x1*1)) λp n c=>Fo (decide ((↑n:Int)>=4)) (Cn 258 [ab x,I x1,I 2] w' λw'=>aU prog zE CX (Dw x x1 x2) w' (D3 R)) (aU prog zE CX (Dw x x1 x2) w' (D3 R))))):=uj_ zE func156 (by kernel_rfl)
theorem ae2 (x x1 x2 w R):den prog zE CX (Dw x x1 x2) w (D3 R)=
(Sm w λw'=>∃a,x=aa a/\Lq w' (a.add 2) λp n c=>∃b,x=aa b/\Lq w' (b.add 2) λd e k=>(0<=x1/\x1<(↑e:Int))/\∃f,d=aa f/\Lq w' (add f (aG x1*1)) λg h i=>aJ w' [I x2] 3 λq w'=>w'.cell? (add f (aG x1*1))=aa (ar g h i)/\w'.cell? (b.add 2)=aa (ar d e k)/\w'.cell? (a.add 2)=aa (ar p n c)/\∃l m o j,aZ prog (bR #[36,36] 36 #[ar g h i,ar (aa q) 1 1]) w'=a7 (ar l m o) j/\j.cell? (a.add 2)=aa (ar p n c)/\(0<=x1/\x1<(↑n:Int))/\∃a,p=aa a/\Wr j (add a (aG x1*1)) [ar l m o] λw'=>R (Z (I 0)) w'):=by kernel_rfl
theorem ais {x x1 w R}:Uj (Calls prog 189 #[ab x,I x1] w R) (Fo x.isNone (R (Z (I 1)) w) (Fz (decide (x1<0)) (∃a,x=aa a/\Lq w (a.add 2) λp n c=>Fo (decide (x1>=(↑n:Int))) (R (Z (I 3)) w) (R (Z (I 0)) w)) (R (Z (I 3)) w))):=uj_ {N:=20,keep:=kp 0 [[0,1],[0,1,5],[4],[8],[4],[4]],bk:=[(0,[])],ref:=ae} func189 (by kernel_rfl)
def Gi:Mt:={N:=44,keep:=kp 0 [[0,1,14],[0,1,15],[0,1,15,16],[0,1,4,5,15],[0,1,4,15,26],[0,1,15],[0,1,15]],bX:=[(5,(.range 17))],bk:=[(0,[]),(1,[0,1,15])],lk:=[(2,[0,1,15])],ref:=ae}
def Ws:=a8 f256
def MN:=Ws.sr.sr.sl.sl
def HE (x:Option Addr) (x1 x2:Int):Env:=[vP 0 x,vI 1 x1,vI 15 x2]
def QJ (R:RT):=bo 0 [] (Rt f256 R)
theorem ajy {x x1 w R}:Uj (Calls prog 256 #[ab x,I x1] w R) (∃a,x=aa a/\Lq w (a.add 2) λp n c=>(0<=x1/\x1<(↑n:Int))/\∃a,p=aa a/\Lq w (add a (aG x1*1)) λp n c=>Fo (decide ((↑n:Int)>0)) (R (Z (aw #[])) w) (Cut (WP prog 44 (bh MN) (HE x x1 0) w (QJ R)))):=uj_ Gi func256 (by kernel_rfl)
theorem afp (x x1 x2 w B R):den prog Gi MN (HE x x1 x2) w (bC B (QJ R))=
(Fo (decide (x2<2)) (∃a,x=aa a/\Lp w (a.add 0) λp=>Ct 326 [ab p] w λn f w'=>Fo (f==0) (Sm w' λb=>∃a,x=aa a/\∃p d c,b.cell? (a.add 2)=aa (ar p d c)/\∃g,x=aa g/\∃h i q,b.cell? (g.add 2)=aa (ar h i q)/\(0<=x1/\x1<(↑i:Int))/\∃j,h=aa j/\∃k l m,b.cell? (add j (aG x1*1))=aa (ar k l m)/\aJ b [I n] 3 λt w'=>w'.cell? (add j (aG x1*1))=aa (ar k l m)/\w'.cell? (g.add 2)=aa (ar h i q)/\w'.cell? (a.add 2)=aa (ar p d c)/\∃r n s o,aZ prog (bR #[36,36] 36 #[ar k l m,ar (aa t) 1 1]) w'=a7 (ar r n s) o/\o.cell? (a.add 2)=aa (ar p d c)/\(0<=x1/\x1<(↑d:Int))/\∃a,p=aa a/\Wr o (add a (aG x1*1)) [ar r n s] λw'=>B [vP 0 x,vI 1 x1,(15,SV.v (I (wrap i64 (x2+1))))] w') (B [vP 0 x,vI 1 x1,(15,SV.v (I (wrap i64 (x2+1))))] w')) (R (Z (aw #[])) w)):=by kernel_rfl
theorem ajz {x x1 w R}:Uj (Calls prog 257 #[ab x,I x1] w R) (aJ w [I x1] 3 λp w'=>Sm w' λd=>Fo (!x.isNone) (∃a,x=aa a/\∃f,d.cell? (a.add 0)=aa (ab f)/\∃n,d.cell? p=aa (I n)/\Call prog 327 [ab f,I n] d λe w'=>∃b,e=Z (.bool b)/\Fo b (∃a,x=aa a/\Lq w' (a.add 2) λg n c=>Cj 328 [ar g n c,func (aQ 329) #[] #[ab (aa p)]] w' λb w'=>R (Z (.bool !b)) w') (R (Z (.bool ae)) w')) (R (Z (.bool ae)) d)):=uj_ {N:=24,keep:=kp 0 [[0,3],[4]],bX:=[(1,(.range 20))],ref:=ae} func257 (by kernel_rfl)
def vp:Mt:={N:=45,keep:=kp 0 [[0,1,2,16,17,18],[0,1,2,16,17,18,19],[0,1,2,7,16,17,18],[0,1,2,16,17,18],[0,1,2,16,17,18],[]],bX:=[(5,(.range 17))],bk:=[(0,[0,1,2]),(1,[0,1,2,16,17,18])],cE:=[(5,[0,1,2])],lk:=[(1,[0,1,2,16,17,18])],ref:=ae}
def MO:=a8 f258
def C5:=MO.sr
def MP:=MO.sl.sr.sl.sl
def HF (x:Option Addr) (x1 x2:Int):Env:=[vP 0 x,vI 1 x1,vI 2 x2]
def HG (x:Option Addr) (x1 x2:Int) (x3:Option Addr) (x4 x5:Nat) (x6 a:Int):Env:=[vP 0 x,vI 1 x1,vI 2 x2,vS 16 x3 x4 x5,vI 17 x6,vI 18 a]
def IV (R:RT):=Rt f258 R
def QK (R:RT):=bo 0 [0,1,2] (SQ vp C5 (Rt f258 R) (Rt f258 R))
theorem ajA {x x1 x2 w R}:Uj (Calls prog 258 #[ab x,I x1,I x2] w R) (∃a,x=aa a/\Lq w (a.add 2) λp n c=>(0<=x1/\x1<(↑n:Int))/\∃a,p=aa a/\Lq w (add a (aG x1*1)) λp n c=>(0<=x2/\x2<=(↑c:Int))/\Cut (WP prog 45 (bh MP) (HG x x1 x2 (gl p c 0 1) (aG x2-0) (c-0) (↑(aG x2-0):Int) 0) w (QK R))):=uj_ vp func258 (by kernel_rfl)
theorem afq (x x1 x2 w R):den prog vp C5 (HF x x1 x2) w (IV R)=
(Sm w λw'=>∃a,x=aa a/\Lq w' (a.add 2) λp n c=>∃f,x=aa f/\Lq w' (f.add 2) λg h o=>(0<=x1/\x1<(↑h:Int))/\∃i,g=aa i/\Lq w' (add i (aG x1*1)) λj b d=>(0<=x2/\x2<=(↑b:Int))/\Cq 190 [ar (gl j d (aG x2) 1) (b-aG x2) (d-aG x2)] w' λk l m w'=>w'.cell? (a.add 2)=aa (ar p n c)/\(0<=x1/\x1<(↑n:Int))/\∃a,p=aa a/\Wr w' (add a (aG x1*1)) [ar k l m] λw'=>R (Z (aw #[])) w'):=by kernel_rfl
theorem afr (x x1 x2 x3 x4 x5 x6 b w B R):den prog vp MP (HG x x1 x2 x3 x4 x5 x6 b) w (bC B (QK R))=
(Fo (decide (b<x6)) ((0<=b/\b<(↑x4:Int))/\∃a,x3=aa a/\Li w (add a (aG b*1)) λn=>∃a,x=aa a/\Lp w (a.add 0) λp=>Ci 330 [ab p,I n] w λn w'=>B [vP 0 x,vI 1 x1,vI 2 x2,vS 16 x3 x4 x5,vI 17 x6,(18,SV.v (I (wrap i64 (b+1))))] w') (aU prog vp C5 (HF x x1 x2) w (IV R))):=by kernel_rfl
theorem akU {x x1 w R}:Uj (Calls prog 355 #[ab x,I x1] w R) (Ci 189 [ab x,I x1] w λn w'=>Fo (n !=0) (R (Z (aw #[I 0,I n])) w') (∃a,x=aa a/\Lq w' (a.add 2) λp n c=>(0<=x1/\x1<(↑n:Int))/\∃a,p=aa a/\Lq w' (add a (aG x1*1)) λp n c=>Cn 258 [ab x,I x1,I (↑n:Int)] w' λw'=>R (Z (aw #[I (↑n:Int),I 0])) w')):=uj_ {N:=27,keep:=kp 0 [[0,1],[0,1,6],[0,1,6,12],[4,5],[0,1,7],[7],[4,5]],ref:=ae} func355 (by kernel_rfl)
theorem akB {x x1 x2 x3 w R}:Uj (Calls prog 328 #[ar x x1 x2,(func (aQ 329) #[] #[ab (aa x3)])] w R) (Ci 381 [ar x x1 x2,func (aQ 329) #[] #[ab (aa x3)]] w λn w'=>R (Z (.bool (decide (n>=0)))) w'):=uj_ {N:=9,keep:=kp 0 [[0,1],[4]],ref:=ae} func328 (by kernel_rfl)
theorem akC {x x1 x2 x3 w R}:Uj (Calls prog 329 #[ar x x1 x2,ab (aa x3)] w R) (Li w x3 λn=>Cj 325 [ar x x1 x2,I n] w λb w'=>R (Z (.bool b)) w'):=uj_ {N:=7,keep:=kp 0 [[0,1],[3]],ref:=ae} func329 (by kernel_rfl)
def Cm:Mt:={N:=19,keep:=kp 0 [[0,1],[0,1,7,8],[0,1,7,8,9],[0,1,5,7,8],[0,1,5,7,8,16],[4],[0,1,7,8],[4]],bk:=[(0,[]),(1,[0,1,7,8])],lk:=[(2,[0,1,7,8])],ref:=ae}
def Nx:=a8 f381
def WK:=Nx.sr.sr
def Ny:=Nx.sr.sl.sr.sl.sl
def O3 (x:Option Addr) (x1 x2:Nat) (x3:Addr) (x4 x5:Int):Env:=[vS 0 x x1 x2,(1,SV.v (func (aQ 329) #[] #[(ab (aa x3))])),vI 7 x4,vI 8 x5]
def Q7 (R:RT):=bo 0 [] (SQ Cm WK (Rt f381 R) (Rt f381 R))
theorem alf {x x1 x2 x3 w R}:Uj (Calls prog 381 #[ar x x1 x2,(func (aQ 329) #[] #[ab (aa x3)])] w R) (Cut (WP prog 19 (bh Ny) [vS 0 x x1 x2,(1,SV.v (func (aQ 329) #[] #[ab (aa x3)])),(7,SV.v (I (↑x1:Int))),vI 8 0] w (Q7 R))):=uj_ Cm func381 (by kernel_rfl)
theorem afQ (x x1 x2 x3 x4 x5 w B R):den prog Cm Ny (O3 x x1 x2 x3 x4 x5) w (bC B (Q7 R))=
(Fo (decide (x5<x4)) ((0<=x5/\x5<(↑x1:Int))/\∃a,x=aa a/\Lq w (add a (aG x5*1)) λp n c=>Cj 329 [ar p n c,ab (aa x3)] w λb w'=>Fo b (R (Z (I x5)) w') (B [vS 0 x x1 x2,(1,SV.v (func (aQ 329) #[] #[ab (aa x3)])),vI 7 x4,(8,SV.v (I (wrap i64 (x5+1))))] w')) (R (Z (I (-1:Int))) w)):=by kernel_rfl
theorem ahg {x w R}:Uj (Calls prog 111 #[I x] w R) (Fz (decide (x<1)) (Fo (decide (x>12)) (R (Z (aw #[ab ah,I 2])) w) (aJ w [int cz 0,int cz 0,int cz 0,int cz 0,int cz 0,int cz 0,int cz 0,int cz 0,int cz 0,int cz 0,int cz 0,int cz 0,I x] 298 λp w'=>R (Z (aw #[ab (aa p),I 0])) w')) (R (Z (aw #[ab ah,I 2])) w)):=uj_ {N:=13,keep:=kp 0 [[0],[0,9],[2,3],[2,3]],ref:=ae} func111 (by kernel_rfl)
def zI:Mt:={N:=41,keep:=kp 0 [[0],[0,7],[2,3],[0,4],[0,4,11],[0,4],[0,4,15],[2,3],[0,4,5],[4,5],[2,3]],bX:=[(9,(.range 13))],cE:=[(6,[0,4])],ref:=ae}
def WC:=a8 f326
def C7:=WC.sr.sr.sr.sr
def DB (x:Option Addr) (x1:Int):Env:=[vP 0 x,vI 4 x1]
def D9 (R:RT):=Rt f326 R
theorem akz {x w R}:Uj (Calls prog 326 #[ab x] w R) (Fo x.isNone (R (Z (aw #[I 0,I 1])) w) (Ci 376 [ab x,func (aQ 377) #[] #[]] w λn w'=>Fo (decide (n<0)) (Ci 376 [ab x,func (aQ 378) #[] #[]] w' λn w'=>aU prog zI C7 (DB x n) w' (D9 R)) (aU prog zI C7 (DB x n) w' (D9 R)))):=uj_ zI func326 (by kernel_rfl)
theorem afC (x x1 w R):den prog zI C7 (DB x x1) w (D9 R)=
(Fo (decide (x1<0)) (R (Z (aw #[I 0,I 5])) w) (∃a,x=aa a/\(0<=x1/\x1<(↑12:Int))/\∃n,w.cell? (add (a.add 0) (aG x1*1))=aa (int cz n)/\Ci 379 [int cz (aH BinOp.xor cz (match ae with|true=>(-1:Int)|false=>pG cz) n)] w λn w'=>Sm w' λb=>∃a,x=aa a/\(0<=x1/\x1<(↑12:Int))/\∃c,b.cell? (add (a.add 0) (aG x1*1))=aa (int cz c)/\0<=n/\∃a,x=aa a/\(0<=x1/\x1<(↑12:Int))/\Wr b (add (a.add 0) (aG x1*1)) [int cz (aH s6 cz c (fB cz 1 n))] λw'=>R (Z (aw #[I (wrap i64 (wrap i64 (wrap i64 (x1*8)+n)+1)),I 0])) w')):=by kernel_rfl
theorem akA {x x1 w R}:Uj (Calls prog 327 #[ab x,I x1] w R) (Call prog 380 [ab x,I x1] w λe w'=>∃n b,e=Z (aw #[I n,int cz b])/\Fo (b !=0) (∃a,x=aa a/\(0<=n/\n<(↑12:Int))/\∃c,w'.cell? (add (a.add 0) (aG n*1))=aa (int cz c)/\R (Z (.bool (aH aN cz c b !=0))) w') (R (Z (.bool ae)) w')):=uj_ {N:=26,keep:=kp 0 [[0,1],[0,5,6],[4]],ref:=ae} func327 (by kernel_rfl)
theorem akD {x x1 w R}:Uj (Calls prog 330 #[ab x,I x1] w R) (Fo x.isNone (R (Z (I 1)) w) (Cj 327 [ab x,I x1] w λb w'=>Fo (!b) (R (Z (I 4)) w') (Call prog 380 [ab x,I x1] w' λe w'=>∃n c,e=Z (aw #[I n,int cz c])/\Sm w' λd=>∃a,x=aa a/\(0<=n/\n<(↑12:Int))/\∃f,d.cell? (add (a.add 0) (aG n*1))=aa (int cz f)/\∃a,x=aa a/\(0<=n/\n<(↑12:Int))/\Wr d (add (a.add 0) (aG n*1)) [int cz (aH uk cz f c)] λw'=>R (Z (I 0)) w'))):=uj_ {N:=32,keep:=kp 0 [[0,1],[0,1,7],[4],[0,1,10],[4],[0,5,6],[],[4]],bX:=[(6,(.range 12))],bk:=[(0,[0,1])],ref:=ae} func330 (by kernel_rfl)
def sT:Mt:={N:=23,keep:=kp 0 [[0,1],[0,1,9,10],[0,1,9,10,11],[0,1,5,9,10],[0,1,5,9,10,20],[4],[0,1,9,10],[4]],bk:=[(0,[]),(1,[0,1,9,10])],lk:=[(2,[0,1,9,10])],ref:=ae}
def Aa:=a8 f376
def GR:=Aa.sr.sr
def Ab:=Aa.sr.sl.sr.sl.sl
def xW (x:Option Addr) (x1 x2:Int):Env:=[vP 0 x,(1,SV.v (func (aQ 377) #[] #[])),vI 9 x1,vI 10 x2]
def AO (R:RT):=bo 0 [] (SQ sT GR (Rt f376 R) (Rt f376 R))
theorem KN {x w R}:Uj (Calls prog 376 #[ab x,func (aQ 377) #[] #[]] w R) (∃a,x=aa a/\Li w (a.add 12) λn=>Cut (WP prog 23 (bh Ab) [vP 0 x,(1,SV.v (func (aQ 377) #[] #[])),vI 9 n,vI 10 0] w (AO R))):=uj_ sT func376 (by kernel_rfl)
theorem Kp (x x1 x2 w B R):den prog sT Ab (xW x x1 x2) w (bC B (AO R))=
(Fo (decide (x2<x1)) (∃a,x=aa a/\(0<=x2/\x2<(↑12:Int))/\∃n,w.cell? (add (a.add 0) (aG x2*1))=aa (int cz n)/\Cj 377 [int cz n] w λb w'=>Fo b (R (Z (I x2)) w') (B [vP 0 x,(1,SV.v (func (aQ 377) #[] #[])),vI 9 x1,(10,SV.v (I (wrap i64 (x2+1))))] w')) (R (Z (I (-1:Int))) w)):=by kernel_rfl
def Lh:Mt:={N:=9,keep:=kp 0 [[0],[2]],ref:=ae}
def Nu:=a8 f377
theorem alc:UT 377 Lh Nu f377:=u_ func377 (by kernel_rfl)
theorem t377 (x w R):den prog Lh Nu (jv 0 [int cz x]) w (Rt f377 R)=
(((x !=0)->R (Z (.bool (x !=255))) w)/\((x !=0)=ae->R (Z (.bool ae)) w)):=by kernel_rfl
def Lk:Mt:={N:=5,keep:=kp 0 [[0],[2]],ref:=ae}
def Nv:=a8 f378
theorem ald:UT 378 Lk Nv f378:=u_ func378 (by kernel_rfl)
theorem t378 (x w R):den prog Lk Nv (jv 0 [int cz x]) w (Rt f378 R)=
(R (Z (.bool (x==0))) w):=by kernel_rfl
theorem ale {x w R}:Uj (Calls prog 379 #[int cz x] w R) ((0<=x/\x<(↑256:Int))/\∃c,(∃u,(ByteArray.mk #[8,0,1,0,2,0,1,0,3,0,1,0,2,0,1,0,4,0,1,0,2,0,1,0,3,0,1,0,2,0,1,0,5,0,1,0,2,0,1,0,3,0,1,0,2,0,1,0,4,0,1,0,2,0,1,0,3,0,1,0,2,0,1,0,6,0,1,0,2,0,1,0,3,0,1,0,2,0,1,0,4,0,1,0,2,0,1,0,3,0,1,0,2,0,1,0,5,0,1,0,2,0,1,0,3,0,1,0,2,0,1,0,4,0,1,0,2,0,1,0,3,0,1,0,2,0,1,0,7,0,1,0,2,0,1,0,3,0,1,0,2,0,1,0,4,0,1,0,2,0,1,0,3,0,1,0,2,0,1,0,5,0,1,0,2,0,1,0,3,0,1,0,2,0,1,0,4,0,1,0,2,0,1,0,3,0,1,0,2,0,1,0,6,0,1,0,2,0,1,0,3,0,1,0,2,0,1,0,4,0,1,0,2,0,1,0,3,0,1,0,2,0,1,0,5,0,1,0,2,0,1,0,3,0,1,0,2,0,1,0,4,0,1,0,2,0,1,0,3,0,1,0,2,0,1,0])[aG x]?=aa u/\(↑(UInt8.toNat u):Int)=c)/\R (Z (I (wrap i64 c))) w):=uj_ {N:=6,keep:=kp 0 [[0],[2]],ref:=ae} func379 (by kernel_rfl)
theorem UF {x x1 w R}:Uj (Calls prog 380 #[ab x,I x1] w R) (Fz x.isNone (Fz (decide (x1<1)) (∃a,x=aa a/\Li w (a.add 12) λn=>Fo (decide (x1>wrap i64 (n*8))) (R (Z (aw #[I 0,int cz 0])) w) (Sm w λw'=>(8:Int)≠0/\(8:Int)≠0/\0<=eH (wrap i64 (x1-1)) 8/\R (Z (aw #[I (wrap i64 (jq (wrap i64 (x1-1)) 8)),int cz (fB cz 1 (eH (wrap i64 (x1-1)) 8))])) w')) (R (Z (aw #[I 0,int cz 0])) w)) (R (Z (aw #[I 0,int cz 0])) w)):=uj_ {N:=28,keep:=kp 0 [[0,1],[1,20],[4,5],[4,5]],bX:=[(3,(.range 9))],ref:=ae} func380 (by kernel_rfl)
theorem ahn {x x1 w R}:Uj (Calls prog 118 #[ab x,I x1] w R) (Fo x.isNone (R (Z (I 1)) w) (Cj 202 [ab x,I x1] w λb w'=>Fo (!b) (R (Z (I 6)) w') (∃a,x=aa a/\Lu w' (a.add 1) λn=>aJ w' [I x1] 3 λp w'=>Cu 179 [int .u64 n,ar (aa p) 1 1] w' λn w'=>∃a,x=aa a/\Wr w' (a.add 1) [int .u64 n] λw'=>R (Z (I 0)) w'))):=uj_ {N:=23,keep:=kp 0 [[0,1],[0,1,5],[4],[0,1,8],[4],[],[4]],bk:=[(0,[0,1])],ref:=ae} func118 (by kernel_rfl)
theorem aiF {x x1 w R}:Uj (Calls prog 202 #[ab x,I x1] w R) (Cu 292 [ab x] w λn w'=>Cj 23 [int .u64 n,I x1] w' λb w'=>R (Z (.bool b)) w'):=uj_ {N:=12,keep:=kp 0 [[0,1],[1,5],[4]],ref:=ae} func202 (by kernel_rfl)
theorem aiG {x x1 w R}:Uj (Calls prog 203 #[ab x,I x1] w R) (Fo (!x.isNone) (∃a,x=aa a/\Lu w (a.add 1) λn=>Cj 23 [int .u64 n,I x1] w λb w'=>R (Z (.bool b)) w') (R (Z (.bool ae)) w)):=uj_ {N:=15,keep:=kp 0 [[0,1],[4]],ref:=ae} func203 (by kernel_rfl)
theorem aj1 {x w R}:Uj (Calls prog 292 #[ab x] w R) (Fo x.isNone (R (Z (int .u64 0)) w) (Sm w λw'=>∃a,x=aa a/\Lu w' (a.add 0) λn=>∃a,x=aa a/\Lu w' (a.add 1) λb=>Cu 353 [int .u64 n,int .u64 b] w' λn w'=>R (Z (int .u64 n)) w')):=uj_ {N:=14,keep:=kp 0 [[0],[0,4],[2],[2]],bX:=[(3,(.range 10))],ref:=ae} func292 (by kernel_rfl)
theorem alk {x w R}:Uj (Calls prog 388 #[ab x] w R) (Fo (!x.isNone) (∃a,x=aa a/\Lu w (a.add 0) λn=>R (Z (.bool (n !=0))) w) (R (Z (.bool ae)) w)):=uj_ {N:=12,keep:=kp 0 [[0],[2]],ref:=ae} func388 (by kernel_rfl)
theorem alm {x x1 w R}:Uj (Calls prog 389 #[ab x,int .u64 x1] w R) (Fo x.isNone (R (Z (I 1)) w) (Cj 388 [ab x] w λb w'=>Fo b (R (Z (I 7)) w') (Fo (x1==0) (R (Z (I 2)) w') (∃a,x=aa a/\Wr w' (a.add 0) [int .u64 x1] λw'=>∃a,x=aa a/\Wr w' (a.add 1) [int .u64 0] λw'=>R (Z (I 0)) w')))):=uj_ {N:=21,keep:=kp 0 [[0,1],[0,1,5],[4],[0,1,8],[4],[0,1,11],[4],[],[4]],bk:=[(0,[0,1])],ref:=ae} func389 (by kernel_rfl)
theorem aln {x w R}:Uj (Calls prog 390 #[ab x] w R) (Cj 388 [ab x] w λb w'=>Fo b (Cu 292 [ab x] w' λn w'=>R (Z (.bool (n==0))) w') (R (Z (.bool ae)) w')):=uj_ {N:=10,keep:=kp 0 [[0],[2]],ref:=ae} func390 (by kernel_rfl)
theorem alo {x w R}:Uj (Calls prog 391 #[ab x] w R) (Fo x.isNone (R (Z (I 1)) w) (Cj 388 [ab x] w λb w'=>Fo (!b) (R (Z (I 6)) w') (∃a,x=aa a/\Wr w' (a.add 0) [int .u64 0] λw'=>∃a,x=aa a/\Wr w' (a.add 1) [int .u64 0] λw'=>R (Z (I 0)) w'))):=uj_ {N:=16,keep:=kp 0 [[0],[0,3],[2],[0,6],[2],[],[2]],bk:=[(0,[0])],ref:=ae} func391 (by kernel_rfl)
end
end
section
open Value IntKind Ending World Addr Tryz
open Value renaming pointer→ab,slice→ar,tuple→aw,bool→qv
set_option maxRecDepth 100000
noncomputable section
theorem ahr {x x1 w R}:Uj (Calls prog 122 #[I x,I x1] w R) (Cj 225 [I x,I 1152921504606846976] w λb w'=>Fz (!b) (Cj 225 [I x1,I 1073741824] w' λb w'=>Fo (!b) (R (Z (aw #[I 0,I 2])) w') (Ct 226 [I (wrap i64 (x+x1)),.bool (decide (x<=wrap i64 (1152921504606846976-x1)))] w' λn a w'=>R (Z (aw #[I n,I a])) w')) (R (Z (aw #[I 0,I 2])) w')):=uj_ {N:=24,keep:=kp 0 [[0,1],[0,1,13],[4,5],[4,5]]} func122 (by kernel_rfl)
theorem ai3 {x x1 w R}:Uj (Calls prog 225 #[I x,I x1] w R) (Fo (decide (x>=0)) (R (Z (.bool (decide (x<=x1)))) w) (R (Z (.bool ae)) w)):=uj_ {N:=12,keep:=kp 0 [[0,1],[4]]} func225 (by kernel_rfl)
theorem ai4 {x x1 w R}:Uj (Calls prog 226 #[I x,.bool x1] w R) (Fo (!x1) (R (Z (aw #[I 0,I 16])) w) (R (Z (aw #[I x,I 0])) w)):=uj_ {N:=9,keep:=kp 0 [[0,1],[0,7],[4,5],[4,5]]} func226 (by kernel_rfl)
theorem akG {x x1 w R}:Uj (Calls prog 333 #[I x,I x1] w R) (Ct 226 [I (wrap i64 (x+x1)),.bool (decide (wrap i64 (x+x1)<x)==decide (x1<0))] w λn a w'=>R (Z (aw #[I n,I a])) w'):=uj_ {N:=20,keep:=kp 0 [[0,1],[0,1,6],[4,5]]} func333 (by kernel_rfl)
theorem ak5 {x x1 x2 w R}:Uj (Calls prog 368 #[I x,I x1,I x2] w R) (Fz (decide (x>x1)) (Fo (decide (x2<1)) (R (Z (I x)) w) (Fo (decide (x2>=100)) (R (Z (I x1)) w) (Call prog 393 [int .u64 (wrap .u64 (wrap .u64 x1-wrap .u64 x)),int .u64 (wrap .u64 x2)] w λe w'=>∃n a,e=Z (aw #[int .u64 n,int .u64 a])/\Call prog 394 [int .u64 n,int .u64 a,int .u64 100] w' λe w'=>∃n b,e=Z (aw #[int .u64 n,int .u64 b])/\R (Z (I (wrap i64 (wrap .u64 (wrap .u64 x+n))))) w'))) (R (Z (I x)) w)):=uj_ {N:=46,keep:=kp 0 [[0,1,2],[0,1,2,11],[6],[0,1,2,20],[6],[0,7,8],[0,9],[6]],bk:=[(0,[0,1,2])]} func368 (by kernel_rfl)
theorem als {x x1 w R}:Uj (Calls prog 395 #[I x,I x1] w R) (Fz (decide (x<1)) (Fo (decide (x1<1)) (R (Z (I 0)) w) (Fo (decide (x>=x1)) (R (Z (I 100)) w) (Call prog 393 [int .u64 (wrap .u64 x),int .u64 100] w λe w'=>∃n a,e=Z (aw #[int .u64 n,int .u64 a])/\Call prog 394 [int .u64 n,int .u64 a,int .u64 (wrap .u64 x1)] w' λe w'=>∃n b,e=Z (aw #[int .u64 n,int .u64 b])/\R (Z (I (wrap i64 n))) w'))) (R (Z (I 0)) w)):=uj_ {N:=36,keep:=kp 0 [[0,1],[0,1,9],[4],[0,1,16],[4],[1,5,6],[7],[4]],bk:=[(0,[0,1])]} func395 (by kernel_rfl)
theorem u50 {x w R}:Uj (Calls prog 50 #[I x] w R) (Fz (decide (x<1)) (Fo (decide (x>64)) (R (Z (aw #[ab ah,I 2])) w) (∃p n c w',aZ prog (mE 53 (I x) (I x)) w=a7 (ar p n c) w'/\aJ w' [ar p n c] 221 λp w'=>R (Z (aw #[ab (aa p),I 0])) w')) (R (Z (aw #[ab ah,I 2])) w)):=uj_ {N:=14,keep:=kp 0 [[0],[0,9],[2,3],[2,3]]} func50 (by kernel_rfl)
def wY:Mt:={N:=43,keep:=kp 0 [[0],[0,11],[2,3],[0,4],[0,4,5],[4,5,15,16,17],[4,5,15,16,17,18],[4,5,8,15,16,17],[4,5,6,8,15,16,17],[4,5,15,16,17],[4,5,15,16,17],[4,9],[9,41],[2,3],[2,3]],bk:=[(0,[4,5]),(1,[4,5,15,16,17])],cE:=[(11,[4,5])],lk:=[(6,[4,5,15,16,17])]}
def NT:=a8 f78
def GU:=NT.sr.sr.sr.sr.sr
def NU:=NT.sr.sr.sr.sr.sl.sr.sl.sl
def O8 (x x1:Int):Env:=[vI 4 x,(5,SV.v (int .u64 x1))]
def H6 (x x1:Int) (x2:Option Addr) (x3 x4:Nat) (x5 x6:Int):Env:=[vI 4 x,(5,SV.v (int .u64 x1)),vS 15 x2 x3 x4,vI 16 x5,vI 17 x6]
def Rl (R:RT):=Rt f78 R
def Rm (R:RT):=bo 0 [4,5] (SQ wY GU (Rt f78 R) (Rt f78 R))
theorem u78 {x w R}:Uj (Calls prog 78 #[ab x] w R) (Fo x.isNone (R (Z (aw #[I 0,I 1])) w) (∃a,x=aa a/\Lq w (a.add 0) λp n c=>Cut (WP prog 43 (bh NU) (H6 0 0 p n c (↑n:Int) 0) w (Rm R)))):=uj_ wY func78 (by kernel_rfl)
theorem af5 (x x1 w R):den prog wY GU (O8 x x1) w (Rl R)=
((0:Int)<=63/\Fo (x==aS i64 (wrap i64 x1) 63) (R (Z (aw #[I (wrap i64 x1),I 0])) w) (R (Z (aw #[I 0,I 16])) w)):=by kernel_rfl
theorem af6 (x x1 x2 x3 x4 x5 x6 w B R):den prog wY NU (H6 x x1 x2 x3 x4 x5 x6) w (bC B (Rm R))=
(Fo (decide (x6<x5)) ((0<=x6/\x6<(↑x3:Int))/\∃a,x2=aa a/\Li w (add a (aG x6*1)) λn=>∃b c w',aZ prog (callFunc 169 #[int .u64 x1,int .u64 (wrap .u64 n),int .u64 0]) w=a7 (Next.value (aw #[int .u64 b,int .u64 c])) w'/\(0:Int)<=63/\B [(4,SV.v (I (wrap i64 (x+wrap i64 (aS i64 n 63+wrap i64 c))))),(5,SV.v (int .u64 b)),vS 15 x2 x3 x4,vI 16 x5,(17,SV.v (I (wrap i64 (x6+1))))] w') (aU prog wY GU (O8 x x1) w (Rl R))):=by kernel_rfl
theorem ajC {x x1 x2 w R}:Uj (Calls prog 260 #[ab x,I x1,I x2] w R) (Ci 332 [ab x,I x1] w λn w'=>Fo (n !=0) (R (Z (I n)) w') (∃a,x=aa a/\Lq w' (a.add 0) λp n c=>(0<=x1/\x1<(↑n:Int))/\∃a,p=aa a/\Li w' (add a (aG x1*1)) λn=>Ct 333 [I n,I x2] w' λn b w'=>Fo (b !=0) (R (Z (I b)) w') (∃a,x=aa a/\Lq w' (a.add 0) λp d c=>(0<=x1/\x1<(↑d:Int))/\∃a,p=aa a/\Wr w' (add a (aG x1*1)) [I n] λw'=>R (Z (I 0)) w'))):=uj_ {N:=38,keep:=kp 0 [[0,1,2],[0,1,2,7],[0,1,2,7,14],[6],[0,1,8,9],[0,1,8,9,29],[6],[],[6]]} func260 (by kernel_rfl)
theorem akE {x x1 w R}:Uj (Calls prog 331 #[ab x,I x1] w R) (Ci 332 [ab x,I x1] w λn w'=>Fo (n !=0) (R (Z (aw #[I 0,I n])) w') (∃a,x=aa a/\Lq w' (a.add 0) λp n c=>(0<=x1/\x1<(↑n:Int))/\∃a,p=aa a/\Li w' (add a (aG x1*1)) λn=>R (Z (aw #[I n,I 0])) w')):=uj_ {N:=20,keep:=kp 0 [[0,1],[0,1,6],[0,1,6,11],[4,5],[4,5]]} func331 (by kernel_rfl)
theorem akF {x x1 w R}:Uj (Calls prog 332 #[ab x,I x1] w R) (Fo x.isNone (R (Z (I 1)) w) (Fz (decide (x1<0)) (∃a,x=aa a/\Lq w (a.add 0) λp n c=>Fo (decide (x1>=(↑n:Int))) (R (Z (I 3)) w) (R (Z (I 0)) w)) (R (Z (I 3)) w))):=uj_ {N:=20,keep:=kp 0 [[0,1],[0,1,5],[4],[8],[4],[4]],bk:=[(0,[])]} func332 (by kernel_rfl)
theorem ak0 {x x1 x2 w R}:Uj (Calls prog 361 #[ab x,I x1,I x2] w R) (Ci 332 [ab x,I x1] w λn w'=>Fo (n !=0) (R (Z (I n)) w') (Ci 332 [ab x,I x2] w' λn w'=>Fo (n !=0) (R (Z (I n)) w') (Fo (x1==x2) (R (Z (I 2)) w') (∃a,x=aa a/\Lq w' (a.add 0) λp n c=>(0<=x1/\x1<(↑n:Int))/\∃a,p=aa a/\Li w' (add a (aG x1*1)) λn=>Ci 260 [ab x,I x2,I n] w' λn w'=>Fo (n==0) (∃a,x=aa a/\Lq w' (a.add 0) λp b c=>(0<=x1/\x1<(↑b:Int))/\∃a,p=aa a/\Wr w' (add a (aG x1*1)) [I 0] λw'=>R (Z (I n)) w') (R (Z (I n)) w'))))):=uj_ {N:=44,keep:=kp 0 [[0,1,2],[0,1,2,7],[0,1,2,7,14],[6],[0,1,2,8],[0,1,2,8,20],[6],[0,1,2,24],[6],[0,1,9],[0,1,9,36],[9],[6]]} func361 (by kernel_rfl)
theorem u52 {x w R}:Uj (Calls prog 52 #[I x] w R) (Call prog 50 [I x] w λe w'=>∃p n,e=Z (aw #[ab p,I n])/\Fo (n !=0) (R (Z (aw #[ab ah,I n])) w') (aJ w' [ab p,I 0] 160 λp w'=>R (Z (aw #[ab (aa p),I 0])) w')):=uj_ {N:=17,keep:=kp 0 [[0],[4,5],[4,5,12],[2,3],[2,3]]} func52 (by kernel_rfl)
def Mz:=a8 f20
theorem u20 {x w R}:Uj (Calls prog 20 #[ab x] w R) (Fo x.isNone (R (Z (I 0)) w) (∃a,x=aa a/\Lp w (a.add 0) λp=>Ct 78 [ab p] w λn b w'=>R (Z (I n)) w')):=uj_ {N:=16,keep:=kp 0 [[0],[0,6],[2],[3],[2]]} func20 (by kernel_rfl)
theorem ah0 {x x1 w R}:Uj (Calls prog 157 #[ab x,I x1] w R) (Ci 259 [ab x,I x1] w λn w'=>Fo (n !=0) (R (Z (I n)) w') (∃a,x=aa a/\Li w' (a.add 1) λn=>Fo (n !=0) (R (Z (I 7)) w') (Ci 20 [ab x] w' λn w'=>Fo (decide (n>=1000)) (R (Z (I 5)) w') (∃a,x=aa a/\Lp w' (a.add 0) λp=>Ci 260 [ab p,I x1,I 1] w' λn w'=>R (Z (I n)) w')))):=uj_ {N:=29,keep:=kp 0 [[0,1],[0,1,5],[0,1,5,9],[4],[0,1,13],[4],[0,1,19],[4],[4]],bk:=[(0,[0,1])]} func157 (by kernel_rfl)
theorem ah3 {x w R}:Uj (Calls prog 160 #[ab x] w R) (Fo x.isNone (R (Z (I 1)) w) (∃a,x=aa a/\Li w (a.add 1) λn=>Fo (n !=0) (R (Z (I 7)) w) (∃a,x=aa a/\Wr w (a.add 1) [I 1] λw'=>R (Z (I 0)) w'))):=uj_ {N:=15,keep:=kp 0 [[0],[0,3],[2],[0,6],[2],[],[2]],bk:=[(0,[0])]} func160 (by kernel_rfl)
theorem ah8 {x x1 w R}:Uj (Calls prog 165 #[ab x,I x1] w R) (Ci 259 [ab x,I x1] w λn w'=>Fo (n !=0) (R (Z (I n)) w') (Ci 265 [ab x,I x1] w' λn w'=>Fo (n==0) (R (Z (I 12)) w') (∃a,x=aa a/\Lp w' (a.add 0) λp=>Ci 260 [ab p,I x1,I (-1:Int)] w' λn w'=>R (Z (I n)) w'))):=uj_ {N:=24,keep:=kp 0 [[0,1],[0,1,5],[0,1,5,9],[4],[0,1,13],[4],[4]],bk:=[(0,[0,1])]} func165 (by kernel_rfl)
theorem aiQ {x w R}:Uj (Calls prog 213 #[ab x] w R) (Fo x.isNone (R (Z (I 1)) w) (∃a,x=aa a/\Li w (a.add 1) λn=>Fo (n==0) (R (Z (I 6)) w) (∃a,x=aa a/\Wr w (a.add 1) [I 0] λw'=>R (Z (I 0)) w'))):=uj_ {N:=15,keep:=kp 0 [[0],[0,3],[2],[0,6],[2],[],[2]],bk:=[(0,[0])]} func213 (by kernel_rfl)
theorem ajB {x x1 w R}:Uj (Calls prog 259 #[ab x,I x1] w R) (Fo x.isNone (R (Z (I 1)) w) (∃a,x=aa a/\Lp w (a.add 0) λp=>Ct 331 [ab p,I x1] w λn b w'=>R (Z (I b)) w')):=uj_ {N:=19,keep:=kp 0 [[0,1],[0,1,8],[4],[6],[4]]} func259 (by kernel_rfl)
theorem ajH {x x1 w R}:Uj (Calls prog 265 #[ab x,I x1] w R) (Fo x.isNone (R (Z (I 0)) w) (∃a,x=aa a/\Lp w (a.add 0) λp=>Ct 331 [ab p,I x1] w λn b w'=>R (Z (I n)) w')):=uj_ {N:=19,keep:=kp 0 [[0,1],[0,1,8],[4],[5],[4]]} func265 (by kernel_rfl)
theorem aj7 {x w R}:Uj (Calls prog 298 #[ab x] w R) (Fo x.isNone (R (Z (I 1)) w) (∃a,x=aa a/\Li w (a.add 1) λn=>Fo (n !=1) (R (Z (I 6)) w) (Ci 20 [ab x] w λn w'=>Fo (decide (n>0)) (R (Z (I 7)) w') (∃a,x=aa a/\Wr w' (a.add 1) [I 2] λw'=>R (Z (I 0)) w')))):=uj_ {N:=19,keep:=kp 0 [[0],[0,3],[2],[0,6],[2],[0,12],[2],[],[2]],bk:=[(0,[0])]} func298 (by kernel_rfl)
theorem ajE {x w R}:Uj (Calls prog 262 #[I x] w R) (Fz (decide (x<1)) (Fo (decide (x>64)) (R (Z (aw #[ab ah,I 2])) w) (aJ w [I x,I 0,.bool ae] 385 λp w'=>R (Z (aw #[ab (aa p),I 0])) w')) (R (Z (aw #[ab ah,I 2])) w)):=uj_ {N:=13,keep:=kp 0 [[0],[0,9],[2,3],[2,3]]} func262 (by kernel_rfl)
theorem aj4 {x w R}:Uj (Calls prog 295 #[ab x] w R) (Fo x.isNone (R (Z (aw #[I 0,.bool ae,.bool ag])) w) (Sm w λw'=>∃a,x=aa a/\Lj w' (a.add 2) λb=>Fo b (∃a,x=aa a/\Li w' (a.add 1) λn=>Fz (n==0) (∃a,x=aa a/\Lj w' (a.add 2) λb=>Fo (!b) (∃a,x=aa a/\Li w' (a.add 1) λn=>∃a,x=aa a/\Li w' (a.add 0) λd=>Fo (n==d) (Sm w' λc=>∃a,x=aa a/\∃b,c.cell? (a.add 2)=aa (.bool b)/\R (Z (aw #[I 0,.bool b,.bool ag])) c) (∃a,x=aa a/\Lj w' (a.add 2) λb=>Fo b (∃a,x=aa a/\Li w' (a.add 1) λn=>R (Z (aw #[I (wrap i64 (n-1)),.bool ag,.bool ae])) w') (∃a,x=aa a/\Li w' (a.add 1) λn=>R (Z (aw #[I n,.bool ae,.bool ae])) w'))) (∃a,x=aa a/\Lj w' (a.add 2) λb=>Fo b (∃a,x=aa a/\Li w' (a.add 1) λn=>R (Z (aw #[I (wrap i64 (n-1)),.bool ag,.bool ae])) w') (∃a,x=aa a/\Li w' (a.add 1) λn=>R (Z (aw #[I n,.bool ae,.bool ae])) w'))) (Sm w' λc=>∃a,x=aa a/\∃b,c.cell? (a.add 2)=aa (.bool b)/\R (Z (aw #[I 0,.bool b,.bool ag])) c)) (∃a,x=aa a/\Lj w' (a.add 2) λb=>Fo (!b) (∃a,x=aa a/\Li w' (a.add 1) λn=>∃a,x=aa a/\Li w' (a.add 0) λd=>Fo (n==d) (Sm w' λc=>∃a,x=aa a/\∃b,c.cell? (a.add 2)=aa (.bool b)/\R (Z (aw #[I 0,.bool b,.bool ag])) c) (∃a,x=aa a/\Lj w' (a.add 2) λb=>Fo b (∃a,x=aa a/\Li w' (a.add 1) λn=>R (Z (aw #[I (wrap i64 (n-1)),.bool ag,.bool ae])) w') (∃a,x=aa a/\Li w' (a.add 1) λn=>R (Z (aw #[I n,.bool ae,.bool ae])) w'))) (∃a,x=aa a/\Lj w' (a.add 2) λb=>Fo b (∃a,x=aa a/\Li w' (a.add 1) λn=>R (Z (aw #[I (wrap i64 (n-1)),.bool ag,.bool ae])) w') (∃a,x=aa a/\Li w' (a.add 1) λn=>R (Z (aw #[I n,.bool ae,.bool ae])) w'))))):=uj_ {N:=56,keep:=kp 0 [[0],[0,5],[2,3,4],[0,8],[2,3,4],[0,42],[2,3,4],[2,3,4]],bX:=[(3,(.range 30)),(4,(.range 7))],bk:=[(0,[0])]} func295 (by kernel_rfl)
theorem aj5 {x w R}:Uj (Calls prog 296 #[ab x] w R) (Call prog 295 [ab x] w λe w'=>∃n b c,e=Z (aw #[I n,.bool b,.bool c])/\Fo x.isNone (R (Z (I 1)) w') (Fz b (Fo c (R (Z (I 6)) w') (∃a,x=aa a/\Wr w' (a.add 2) [.bool ag] λw'=>R (Z (I 0)) w')) (R (Z (I 6)) w'))):=uj_ {N:=23,keep:=kp 0 [[0],[0,4,5],[0,4,5,12],[2],[0,15],[2],[],[2]],bk:=[(0,[0])]} func296 (by kernel_rfl)
theorem aka {x w R}:Uj (Calls prog 301 #[ab x] w R) (Call prog 295 [ab x] w λe w'=>∃n b c,e=Z (aw #[I n,.bool b,.bool c])/\Fo x.isNone (R (Z (I 1)) w') (Fo c (R (Z (I 6)) w') (Fo b (∃a,x=aa a/\Li w' (a.add 1) λn=>∃a,x=aa a/\Wr w' (a.add 1) [I (wrap i64 (n-1))] λw'=>R (Z (I 0)) w') (∃a,x=aa a/\Li w' (a.add 1) λn=>∃a,x=aa a/\Wr w' (a.add 1) [I (wrap i64 (n+1))] λw'=>R (Z (I 0)) w')))):=uj_ {N:=33,keep:=kp 0 [[0],[0,4,5],[],[0,4,5,19],[2],[0,4,22],[2],[0,24],[],[2]],bk:=[(0,[])]} func301 (by kernel_rfl)
theorem akb {x w R}:Uj (Calls prog 302 #[ab x] w R) (Call prog 295 [ab x] w λe w'=>∃n b a,e=Z (aw #[I n,.bool b,.bool a])/\Fo x.isNone (R (Z (I 1)) w') (Fo (!a) (R (Z (I 7)) w') (Fo b (R (Z (I 11)) w') (R (Z (I 0)) w')))):=uj_ {N:=20,keep:=kp 0 [[0],[0,4,5],[4,5,12],[2],[4,15],[2],[18],[2],[2]],bk:=[(0,[])]} func302 (by kernel_rfl)
theorem u99 {x w R}:Uj (Calls prog 99 #[ab x] w R) (Fo (!x.isNone) (∃a,x=aa a/\Lp w (a.add 0) λp=>R (Z (.bool !p.isNone)) w) (R (Z (.bool ae)) w)):=uj_ {N:=12,keep:=kp 0 [[0],[2]]} func99 (by kernel_rfl)
theorem ag6 {x w R}:Uj (Calls prog 100 #[ab x] w R) (Cj 99 [ab x] w λb w'=>Fo b (∃a,x=aa a/\Lp w' (a.add 0) λp=>∃a,p=aa a/\Lj w' (a.add 1) λb=>R (Z (.bool b)) w') (R (Z (.bool ae)) w')):=uj_ {N:=14,keep:=kp 0 [[0],[2]]} func100 (by kernel_rfl)
theorem ag7 {x w R}:Uj (Calls prog 101 #[ab x] w R) (Cj 99 [ab x] w λb w'=>Fo (!b) (R (Z (I 0)) w') (∃a,x=aa a/\Lp w' (a.add 0) λp=>∃a,p=aa a/\Li w' (a.add 2) λn=>R (Z (I n)) w')):=uj_ {N:=13,keep:=kp 0 [[0],[0,5],[2],[2]]} func101 (by kernel_rfl)
theorem ag8 {x w R}:Uj (Calls prog 102 #[ab x] w R) (Cj 99 [ab x] w λb w'=>Fo (!b) (R (Z (I 0)) w') (∃a,x=aa a/\Lp w' (a.add 0) λp=>∃a,p=aa a/\Li w' (a.add 3) λn=>R (Z (I n)) w')):=uj_ {N:=13,keep:=kp 0 [[0],[0,5],[2],[2]]} func102 (by kernel_rfl)
def zF:Mt:={N:=52,keep:=kp 0 [[0,1,2,3],[0,1,2,3,12],[8],[0,1,2,3,15],[8],[0,1,2,3,21],[8],[0,1,2,3,30],[8],[0,1,2,3,9],[0,1,2,3,9,34],[0,1,2,3,9],[0,1,2,3,10,11],[0,1,2,3,10,11,41],[8],[],[8]],bk:=[(0,[0,1,2,3])],cE:=[(12,[0,1,2,3,9])]}
def We:=a8 f161
def CY:=We.sr.sr.sr.sr
def Dx (x:Option Addr) (x1:Bool) (x2 x3 x4:Int):Env:=[vP 0 x,(1,SV.v (.bool x1)),vI 2 x2,vI 3 x3,vI 9 x4]
def D4 (R:RT):=Rt f161 R
theorem ah4 {x x1 x2 x3 w R}:Uj (Calls prog 161 #[ab x,.bool x1,I x2,I x3] w R) (Fo x.isNone (R (Z (I 1)) w) (∃a,x=aa a/\Lp w (a.add 0) λp=>Fo (!p.isNone) (R (Z (I 7)) w) (Cj 261 [I x2] w λb w'=>Fz (!b) (Cj 261 [I x3] w' λb w'=>Fo (!b) (R (Z (I 3)) w') (Fo (x2==x3) (R (Z (I 2)) w') (Fo x1 (aU prog zF CY (Dx x x1 x2 x3 4) w' (D4 R)) (aU prog zF CY (Dx x x1 x2 x3 10) w' (D4 R))))) (R (Z (I 3)) w')))):=uj_ zF func161 (by kernel_rfl)
theorem ae3 (x x1 x2 x3 x4 w R):den prog zF CY (Dx x x1 x2 x3 x4) w (D4 R)=
(Call prog 262 [I x4] w λe w'=>∃p n,e=Z (aw #[ab p,I n])/\Fo (n !=0) (R (Z (I n)) w') (aJ w' [ab p,.bool x1,I x2,I x3,.bool ae] 284 λp w'=>∃a,x=aa a/\Wr w' (a.add 0) [ab (aa p)] λw'=>R (Z (I 0)) w')):=by kernel_rfl
def qo:Mt:={N:=72,keep:=kp 0 [[0,2],[0,2,4],[0,2,4,12],[2,3],[0,2,5,6],[0,2,5,8],[0,2,5,8,51],[0,2,8],[0,2,8],[2,8],[2,3]],cE:=[(6,[0,2,5,8]),(9,[0,2,8])]}
def MC:=a8 f208
def xH:=MC.sr.sr.sr.sr
def C1:=MC.sr.sr.sr.sr.sr
def xU (x:Option Addr) (x1:Addr) (x2:Int) (x3:Addr):Env:=[vP 0 x,(2,SV.v (ab (aa x1))),vI 5 x2,(8,SV.v (ab (aa x3)))]
def Dy (x:Option Addr) (x1 x2:Addr):Env:=[vP 0 x,(2,SV.v (ab (aa x1))),(8,SV.v (ab (aa x2)))]
def yq (R:RT):=Rt f208 R
def D6 (R:RT):=Rt f208 R
theorem aiL {x w R}:Uj (Calls prog 208 #[ab x] w R) (aJ w [I 0,.bool ae,.bool ae] 303 λp w'=>Ci 294 [ab x] w' λn w'=>Fo (n !=0) (Wr w' p [I 0,.bool ae,.bool ae] λw'=>Li w' (p.add 0) λh=>Lj w' (p.add 1) λb=>Lj w' (p.add 2) λf=>R (Z (aw #[agg #[I h,.bool b,.bool f],I n])) w') (∃a,x=aa a/\Lp w' (a.add 0) λi=>∃a,i=aa a/\Lp w' (a.add 0) λj=>Call prog 295 [ab j] w' λe w'=>∃n b f,e=Z (aw #[I n,.bool b,.bool f])/\Fo (!b) (∃a,x=aa a/\Lp w' (a.add 0) λc=>∃a,c=aa a/\Lj w' (a.add 4) λg=>Fo (!g) (∃a,x=aa a/\∃r,w'.cell? (a.add 1)=aa (map r)/\∃k,aZ prog (dr 134 (map r) (I n) ae) w'=a7 (.bool k) w'/\aJ w' [I 0,.bool ae,.bool ae] 303 λd w'=>Wr w' d [I n,.bool b,.bool k] λw'=>aU prog qo xH (xU x p n d) w' (yq R)) (aJ w' [I 0,.bool ae,.bool ae] 303 λd w'=>Wr w' d [I n,.bool b,.bool ae] λw'=>aU prog qo xH (xU x p n d) w' (yq R))) (aJ w' [I 0,.bool ae,.bool ae] 303 λc w'=>Wr w' c [I n,.bool b,.bool ae] λw'=>aU prog qo xH (xU x p n c) w' (yq R)))):=uj_ qo func208 (by kernel_rfl)
theorem aff (x x1 x2 x3 w R):den prog qo xH (xU x x1 x2 x3) w (yq R)=
(Lj w (x3.add 2) λb=>Fo b (∃a,x=aa a/\∃r,w.cell? (a.add 1)=aa (map r)/\∃w',aZ prog (iJ #[134,3] 0 #[map r,I x2]) w=a7 (aw #[]) w'/\∃a,x=aa a/\Lp w' (a.add 0) λp=>∃a,p=aa a/\Lp w' (a.add 0) λp=>Ci 296 [ab p] w' λn w'=>aU prog qo C1 (Dy x x1 x3) w' (D6 R)) (aU prog qo C1 (Dy x x1 x3) w (D6 R))):=by kernel_rfl
theorem afg (x x1 x2 w R):den prog qo C1 (Dy x x1 x2) w (D6 R)=
(∃a,x=aa a/\Lp w (a.add 0) λp=>∃a,p=aa a/\Wr w (a.add 4) [.bool ag] λw'=>Li w' (x2.add 0) λn=>Lj w' (x2.add 1) λb=>Lj w' (x2.add 2) λc=>Wr w' x1 [I n,.bool b,.bool c] λw'=>Li w' (x1.add 0) λn=>Lj w' (x1.add 1) λb=>Lj w' (x1.add 2) λd=>R (Z (aw #[agg #[I n,.bool b,.bool d],I 0])) w'):=by kernel_rfl
theorem aiN {x w R}:Uj (Calls prog 210 #[ab x] w R) (Ci 294 [ab x] w λn w'=>Fo (n !=0) (R (Z (I n)) w') (∃a,x=aa a/\Lp w' (a.add 0) λp=>∃a,p=aa a/\Wr w' (a.add 4) [.bool ae] λw'=>∃a,x=aa a/\Lp w' (a.add 0) λp=>∃a,p=aa a/\Lp w' (a.add 0) λp=>Ci 301 [ab p] w' λn w'=>R (Z (I n)) w')):=uj_ {N:=23,keep:=kp 0 [[0],[0,3],[0,3,7],[2],[0],[2]]} func210 (by kernel_rfl)
theorem aiO {x w R}:Uj (Calls prog 211 #[ab x] w R) (Cj 99 [ab x] w λb w'=>Fo (!b) (R (Z (.bool ae)) w') (∃a,x=aa a/\Lp w' (a.add 0) λp=>∃a,p=aa a/\Lp w' (a.add 0) λp=>Call prog 295 [ab p] w' λe w'=>∃n b c,e=Z (aw #[I n,.bool b,.bool c])/\R (Z (.bool c)) w')):=uj_ {N:=22,keep:=kp 0 [[0],[0,8],[2],[5],[2]]} func211 (by kernel_rfl)
theorem aiP {x w R}:Uj (Calls prog 212 #[ab x] w R) (Fo x.isNone (R (Z (aw #[I 0,I 1])) w) (∃a,x=aa a/\Lp w (a.add 0) λp=>Fo p.isNone (R (Z (aw #[I 0,I 12])) w) (Cj 211 [ab x] w λb w'=>Fo (!b) (R (Z (aw #[I 0,I 6])) w') (∃a,x=aa a/\Lp w' (a.add 0) λp=>∃a,p=aa a/\Lp w' (a.add 0) λp=>Ci 302 [ab p] w' λn w'=>∃a,x=aa a/\Wr w' (a.add 0) [ab ah] λw'=>R (Z (aw #[I n,I 0])) w')))):=uj_ {N:=30,keep:=kp 0 [[0],[0,5],[2,3],[0,8],[2,3],[0,14],[2,3],[0,4],[4],[2,3]],bk:=[(0,[0])]} func212 (by kernel_rfl)
theorem ajD {x w R}:Uj (Calls prog 261 #[I x] w R) (Fo (decide (x>=0)) (R (Z (.bool (decide (x<64)))) w) (R (Z (.bool ae)) w)):=uj_ {N:=9,keep:=kp 0 [[0],[2]]} func261 (by kernel_rfl)
theorem ajG {x x1 w R}:Uj (Calls prog 264 #[ab x,I x1] w R) (Fo x.isNone (R (Z (I 1)) w) (Fz (decide (x1<0)) (Fo (decide (x1>=10)) (R (Z (I 3)) w) (∃a,x=aa a/\∃r,w.cell? (a.add 1)=aa (map r)/\Fo r.isNone (sU w λr w'=>∃a,x=aa a/\Wr w' (a.add 1) [map (aa r)] λw'=>∃a,x=aa a/\∃r,w'.cell? (a.add 1)=aa (map r)/\∃b,aZ prog (ic 134 (map r) (I x1) (.bool ag)) w'=a7 () b/\R (Z (I 0)) b) (∃a,x=aa a/\∃r,w.cell? (a.add 1)=aa (map r)/\∃w',aZ prog (ic 134 (map r) (I x1) (.bool ag)) w=a7 () w'/\R (Z (I 0)) w'))) (R (Z (I 3)) w))):=uj_ {N:=29,keep:=kp 0 [[0,1],[0,1,5],[4],[0,1,8],[4],[0,1,19],[0,1],[],[4]],bk:=[(0,[0,1])]} func264 (by kernel_rfl)
theorem aj3 {x w R}:Uj (Calls prog 294 #[ab x] w R) (Fo x.isNone (R (Z (I 1)) w) (∃a,x=aa a/\Lp w (a.add 0) λp=>Fo p.isNone (R (Z (I 12)) w) (Cj 211 [ab x] w λb w'=>Fo b (R (Z (I 6)) w') (R (Z (I 0)) w')))):=uj_ {N:=15,keep:=kp 0 [[0],[0,3],[2],[0,6],[2],[12],[2],[2]],bk:=[(0,[])]} func294 (by kernel_rfl)
def Cw:Mt:={N:=33,keep:=kp 0 [[0],[0,11],[2,3],[4],[4,20,21],[4,20,21,22],[4,5,20,21],[4,20,21],[4,20,21],[2,3]],bk:=[(0,[4]),(1,[4,20,21])],lk:=[(5,[4,20,21])]}
def NL:=a8 f54
def WU:=NL.sr.sr.sr.sr
def NM:=NL.sr.sr.sr.sl.sr.sl.sl
def H3 (x:Option Addr) (x1 x2:Int):Env:=[vP 4 x,vI 20 x1,vI 21 x2]
def Rh (R:RT):=bo 0 [4] (SQ Cw WU (Rt f54 R) (Rt f54 R))
theorem u54 {x w R}:Uj (Calls prog 54 #[I x] w R) (Fz (decide (x<1)) (Fo (decide (x>64)) (R (Z (aw #[ab ah,I 2])) w) (∃p n c w',aZ prog (mE 222 (I x) (I x)) w=a7 (ar p n c) w'/\aJ w' [ar p n c] 224 λp w'=>∃a,aa p=aa a/\Lq w' (a.add 0) λb n c=>Cut (WP prog 33 (bh NM) (H3 (aa p) (↑n:Int) 0) w' (Rh R)))) (R (Z (aw #[ab ah,I 2])) w)):=uj_ Cw func54 (by kernel_rfl)
theorem afY (x x1 x2 w B R):den prog Cw NM (H3 x x1 x2) w (bC B (Rh R))=
(Fo (decide (x2<x1)) (∃a,x=aa a/\Lq w (a.add 0) λp n c=>(0<=x2/\x2<(↑n:Int))/\∃a,p=aa a/\Wr w (add (add a (aG x2*6)) 0) [.bool ag] λw'=>B [vP 4 x,vI 20 x1,(21,SV.v (I (wrap i64 (x2+1))))] w') (R (Z (aw #[ab x,I 0])) w)):=by kernel_rfl
theorem ahi {x x1 w R}:Uj (Calls prog 113 #[ab x,I x1] w R) (aJ w [.bool ae,.bool ae,I 0,I 0,I 0,I 0] 226 λp w'=>Call prog 199 [ab x,I x1] w' λe w'=>∃i n,e=Z (aw #[ab i,I n])/\Fo (n !=0) (Wr w' p [.bool ae,.bool ae,I 0,I 0,I 0,I 0] λw'=>Lj w' (p.add 0) λb=>Lj w' (p.add 1) λc=>Li w' (p.add 2) λd=>Li w' (p.add 3) λf=>Li w' (p.add 4) λg=>Li w' (p.add 5) λh=>R (Z (aw #[agg #[.bool b,.bool c,I d,I f,I g,I h],I n])) w') (∃a,i=aa a/\Lj w' (a.add 0) λb=>Lj w' (a.add 1) λc=>Li w' (a.add 2) λn=>Li w' (a.add 3) λd=>Li w' (a.add 4) λf=>Li w' (a.add 5) λg=>Wr w' p [.bool b,.bool c,I n,I d,I f,I g] λw'=>Lj w' (p.add 0) λb=>Lj w' (p.add 1) λj=>Li w' (p.add 2) λn=>Li w' (p.add 3) λh=>Li w' (p.add 4) λk=>Li w' (p.add 5) λl=>R (Z (aw #[agg #[.bool b,.bool j,I n,I h,I k,I l],I 0])) w')):=uj_ {N:=21,keep:=kp 0 [[0,1,4],[4,6,7],[4,6,7,15],[4,5],[4,5]]} func113 (by kernel_rfl)
theorem ahj {x x1 x2 x3 x4 x5 x6 r s t e l m o q w R}:Uj (Calls prog 114 #[agg #[(.bool x),(.bool x1),I x2,I x3,I x4,I x5],agg #[(.bool x6),(.bool r),(.bool s),(.bool t),(.bool e),(.bool l),(.bool m),(.bool o),(.bool q)]] w R) (aJ w [.bool x,.bool x1,I x2,I x3,I x4,I x5] 226 λp w'=>aJ w' [.bool x6,.bool r,.bool s,.bool t,.bool e,.bool l,.bool m,.bool o,.bool q] 240 λa w'=>Lj w' (a.add 0) λb=>Lj w' (a.add 1) λc=>Lj w' (a.add 2) λd=>Lj w' (a.add 3) λf=>Lj w' (a.add 4) λg=>Lj w' (a.add 5) λh=>Lj w' (a.add 6) λi=>Lj w' (a.add 7) λj=>Lj w' (a.add 8) λk=>Ci 200 [agg #[.bool b,.bool c,.bool d,.bool f,.bool g,.bool h,.bool i,.bool j,.bool k]] w' λn w'=>Lj w' (p.add 0) λb=>Fo (!b) (R (Z (I 0)) w') (Lj w' (p.add 1) λb=>Fo (!b) (R (Z (I n)) w') (Fz (n==0) (Fo (n==9) (R (Z (I 0)) w') (R (Z (I 1)) w')) (R (Z (I 0)) w')))):=uj_ {N:=24,keep:=kp 0 [[2,3],[2,5],[2,5,8],[4],[5,12],[4],[17],[4],[4]],bk:=[(0,[])]} func114 (by kernel_rfl)
theorem ahl {x x1 x2 w R}:Uj (Calls prog 116 #[ab x,I x1,.bool x2] w R) (Call prog 199 [ab x,I x1] w λe w'=>∃p n,e=Z (aw #[ab p,I n])/\Fo (n !=0) (R (Z (I n)) w') (∃a,p=aa a/\Li w' (a.add 4) λn=>∃a,p=aa a/\Wr w' (a.add 4) [I (wrap i64 (n+1))] λw'=>Fo x2 (∃a,p=aa a/\Li w' (a.add 5) λn=>∃a,p=aa a/\Wr w' (a.add 5) [I (wrap i64 (n+1))] λw'=>R (Z (I 0)) w') (R (Z (I 0)) w'))):=uj_ {N:=33,keep:=kp 0 [[0,1,2],[2,7,8],[2,7,8,16],[6],[2,7],[7,25],[],[6]]} func116 (by kernel_rfl)
theorem ahm {x x1 x2 w R}:Uj (Calls prog 117 #[ab x,I x1,I x2] w R) (Call prog 199 [ab x,I x1] w λe w'=>∃p n,e=Z (aw #[ab p,I n])/\Fo (n !=0) (R (Z (aw #[I 0,I n])) w') (Cj 206 [I x2] w' λb w'=>Fo (!b) (R (Z (aw #[I 0,I 2])) w') (∃a,p=aa a/\Lj w' (a.add 1) λb=>Fo (!b) (R (Z (aw #[I 0,I 6])) w') (∃a,p=aa a/\Li w' (a.add 3) λn=>Cn 207 [ab p] w' λw'=>∃c d,aZ prog (xr #[2,2] 2 #[I 0,I (wrap i64 (x2-n))]) w'=a7 (I c) d/\R (Z (aw #[I c,I 0])) d)))):=uj_ {N:=41,keep:=kp 0 [[0,1,2],[2,8,9],[2,8,9,17],[6,7],[2,8,21],[6,7],[2,8,25],[6,7],[2,8,10],[2,10],[6,7]],bk:=[(0,[2,8])]} func117 (by kernel_rfl)
theorem UD {x x1 w R}:Uj (Calls prog 199 #[ab x,I x1] w R) (Fo x.isNone (R (Z (aw #[ab ah,I 1])) w) (Fz (decide (x1<0)) (∃a,x=aa a/\Lq w (a.add 0) λp n c=>Fo (decide (x1>=(↑n:Int))) (R (Z (aw #[ab ah,I 3])) w) (∃a,x=aa a/\Lq w (a.add 0) λp n c=>(0<=x1/\x1<(↑n:Int))/\∃a,p=aa a/\R (Z (aw #[ab (aa (add a (aG x1*6))),I 0])) w)) (R (Z (aw #[ab ah,I 3])) w))):=uj_ {N:=27,keep:=kp 0 [[0,1],[0,1,6],[4,5],[0,1,9],[4,5],[4,5]],bk:=[(0,[0,1])]} func199 (by kernel_rfl)
def sQ:Mt:={N:=43,keep:=kp 0 [[1],[34,35],[34,35,36],[4,34,35],[4,34,35,39],[2],[34,35],[2]],bk:=[(0,[]),(1,[34,35])],cE:=[(2,[34,35])],lk:=[(2,[34,35])]}
def GJ:=a8 f200
def MA:=GJ.sr.sr
def C0:=GJ.sr.sl.sr
def MB:=GJ.sr.sl.sr.sl.sl
def OW (x:List Value) (x1:Int):Env:=[(34,SV.v (agg x.toArray)),vI 35 x1]
def Hz (x:List Value) (x1:Int):Env:=[(34,SV.v (agg x.toArray)),vI 35 x1]
def D5 (R:RT):=SQ sQ MA (Rt f200 R) (Rt f200 R)
def QC (R:RT):=bo 0 [] (SQ sQ MA (Rt f200 R) (Rt f200 R))
theorem aiC {x x1 x2 x3 x4 x5 x6 j k w R}:Uj (Calls prog 200 #[agg #[(.bool x),(.bool x1),(.bool x2),(.bool x3),(.bool x4),(.bool x5),(.bool x6),(.bool j),(.bool k)]] w R) (aJ w [.bool x,.bool x1,.bool x2,.bool x3,.bool x4,.bool x5,.bool x6,.bool j,.bool k] 240 λp w'=>Lj w' (p.add 0) λb=>Lj w' (p.add 2) λg=>Lj w' (p.add 1) λh=>Fz h (Lj w' (p.add 3) λa=>Lj w' (p.add 4) λc=>Lj w' (p.add 5) λd=>Lj w' (p.add 6) λe=>Lj w' (p.add 7) λf=>Lj w' (p.add 8) λi=>aU prog sQ C0 [(34,SV.v (agg #[.bool b,I 2,.bool g,I 3,.bool !a,I 0,.bool c,I 4,.bool d,I 5,.bool e,I 6,.bool f,I 7,.bool i,I 8])),vI 35 0] w' (D5 R)) (Lj w' (p.add 4) λa=>Lj w' (p.add 5) λc=>Lj w' (p.add 6) λd=>Lj w' (p.add 7) λe=>Lj w' (p.add 8) λf=>aU prog sQ C0 [(34,SV.v (agg #[.bool b,I 2,.bool g,I 3,.bool ag,I 0,.bool a,I 4,.bool c,I 5,.bool d,I 6,.bool e,I 7,.bool f,I 8])),vI 35 0] w' (D5 R))):=uj_ sQ func200 (by kernel_rfl)
theorem afd (x x1 w R):den prog sQ C0 (OW x x1) w (D5 R)=
(Cut (WP prog 43 (bh MB) (Hz x x1) w (QC R))):=by kernel_rfl
theorem afe (x x1 w B R):den prog sQ MB (Hz x x1) w (bC B (QC R))=
(Fo (decide (x1<8)) ((0<=x1/\x1<(↑8:Int))/\∃b n,rT 2 (rU (aG x1*2) (Array.toList (dK x)))=[.bool b,I n]/\aJ w [.bool ae,I 0] 361 λp w'=>Wr w' p [.bool b,I n] λw'=>Lj w' (p.add 0) λb=>Fo b (Li w' (p.add 1) λn=>R (Z (I n)) w') (B [(34,SV.v (agg (dK x))),(35,SV.v (I (wrap i64 (x1+1))))] w')) (R (Z (I 9)) w)):=by kernel_rfl
theorem aiJ {x w R}:Uj (Calls prog 206 #[I x] w R) (Fo (decide (x>=0)) (R (Z (.bool (decide (x<=1152921504606846976)))) w) (R (Z (.bool ae)) w)):=uj_ {N:=9,keep:=kp 0 [[0],[2]]} func206 (by kernel_rfl)
theorem aiK {x w R}:Uj (Calls prog 207 #[ab x] w R) (∃a,x=aa a/\Wr w (a.add 1) [.bool ae] λw'=>∃a,x=aa a/\Wr w' (a.add 2) [I 0] λw'=>∃a,x=aa a/\Wr w' (a.add 3) [I 0] λw'=>R (Z (aw #[])) w'):=uj_ {N:=11,keep:=kp 0 [[]]} func207 (by kernel_rfl)
theorem aiU {x x1 x2 x3 w R}:Uj (Calls prog 216 #[ab x,I x1,I x2,I x3] w R) (Call prog 199 [ab x,I x1] w λe w'=>∃p n,e=Z (aw #[ab p,I n])/\Fo (n !=0) (R (Z (I n)) w') (Fz (decide (x2<0)) (Fz (decide (x2>=8)) (Cj 206 [I x3] w' λb w'=>Fo (!b) (R (Z (I 2)) w') (∃a,p=aa a/\Lj w' (a.add 0) λb=>Fz (!b) (∃a,p=aa a/\Lj w' (a.add 1) λb=>Fo b (R (Z (I 6)) w') (∃a,p=aa a/\Wr w' (a.add 1) [.bool ag] λw'=>∃a,p=aa a/\Wr w' (a.add 2) [I x2] λw'=>∃a,p=aa a/\Wr w' (a.add 3) [I x3] λw'=>R (Z (I 0)) w')) (R (Z (I 6)) w'))) (R (Z (I 2)) w')) (R (Z (I 2)) w'))):=uj_ {N:=56,keep:=kp 0 [[0,1,2,3],[2,3,9,10],[2,3,9,10,17],[8],[2,3,9,21],[8],[2,3,9,33],[8],[],[8]],bk:=[(0,[2,3,9])]} func216 (by kernel_rfl)
theorem ai5 {x x1 w R}:Uj (Calls prog 227 #[ab x,I x1] w R) (Call prog 199 [ab x,I x1] w λe w'=>∃p n,e=Z (aw #[ab p,I n])/\Fo (n !=0) (R (Z (aw #[I 0,I 0,I n])) w') (Sm w' λb=>∃a,p=aa a/\∃n,b.cell? (a.add 5)=aa (I n)/\∃a,p=aa a/\∃c,b.cell? (a.add 4)=aa (I c)/\∃a,p=aa a/\Wr b (a.add 5) [I 0] λw'=>∃a,p=aa a/\Wr w' (a.add 4) [I 0] λw'=>R (Z (aw #[I n,I c,I 0])) w')):=uj_ {N:=36,keep:=kp 0 [[0,1],[7,8],[7,8,18],[4,5,6],[7,9,10],[9,10],[4,5,6]],bX:=[(4,(.range 10))]} func227 (by kernel_rfl)
theorem akT {x x1 x2 w R}:Uj (Calls prog 354 #[ab x,I x1,.bool x2] w R) (Call prog 199 [ab x,I x1] w λe w'=>∃p n,e=Z (aw #[ab p,I n])/\Fo (n !=0) (R (Z (I n)) w') (∃a,p=aa a/\Lj w' (a.add 0) λb=>Fo (b==x2) (R (Z (I 6)) w') (∃a,p=aa a/\Wr w' (a.add 0) [.bool x2] λw'=>Cn 207 [ab p] w' λw'=>R (Z (I 0)) w'))):=uj_ {N:=32,keep:=kp 0 [[0,1,2],[2,7,8],[2,7,8,15],[6],[2,7,19],[6],[7],[],[6]],bk:=[(0,[2,7])]} func354 (by kernel_rfl)
theorem aiT {x x1 x2 w R}:Uj (Calls prog 215 #[I x,I x1,.bool x2] w R) (Fo (!x2) (R (Z (I 1073741824)) w) (Fz (decide (x<0)) (Fo (decide (x1<=x)) (R (Z (I 0)) w) (∃n w',aZ prog (qC #[2,2] 2 #[I (wrap i64 (x1-x)),I 1073741824]) w=a7 (I n) w'/\R (Z (I n)) w')) (R (Z (I 0)) w))):=uj_ {N:=22,keep:=kp 0 [[0,1,2],[0,1,7],[6],[0,1,10],[6],[6]],bk:=[(0,[0,1])]} func215 (by kernel_rfl)
def B6:Mt:={N:=32,keep:=kp 0 [[0,1,2],[0,1,2,7],[0,1,2,7,12],[0,1,2,7],[0,1,2,7,30],[6],[6]],bk:=[(0,[]),(1,[0,1,2,7])],lk:=[(2,[0,1,2,7])]}
def MD:=a8 f217
def Wn:=MD.sr.sr
def ME:=MD.sr.sl.sr.sl.sl
def HA (x:Option Addr) (x1 x2:Nat) (x3 x4 x5:Int):Env:=[vS 0 x x1 x2,vI 1 x3,vI 2 x4,vI 7 x5]
def QD (R:RT):=bo 0 [] (SQ B6 Wn (Rt f217 R) (Rt f217 R))
theorem aiV {x x1 x2 x3 x4 w R}:Uj (Calls prog 217 #[ar x x1 x2,I x3,I x4] w R) (Cut (WP prog 32 (bh ME) (HA x x1 x2 x3 x4 (wrap i64 ((↑x1:Int)-1))) w (QD R))):=uj_ B6 func217 (by kernel_rfl)
theorem afh (x x1 x2 x3 x4 x5 w B R):den prog B6 ME (HA x x1 x2 x3 x4 x5) w (bC B (QD R))=
(Fo (decide (x5>0)) ((0<=x5/\x5<(↑x1:Int))/\∃a,x=aa a/\∃n,w.cell? (add (add a (aG x5*3)) 0)=aa (I n)/\Fo (decide (n<=x4)) ((0<=x5/\x5<(↑x1:Int))/\∃a,x=aa a/\∃n,w.cell? (add (add a (aG x5*3)) 1)=aa (I n)/\Fo (decide (n<=x3)) (R (Z (I x5)) w) (B [vS 0 x x1 x2,vI 1 x3,vI 2 x4,(7,SV.v (I (wrap i64 (x5-1))))] w)) (B [vS 0 x x1 x2,vI 1 x3,vI 2 x4,(7,SV.v (I (wrap i64 (x5-1))))] w)) (R (Z (I 0)) w)):=by kernel_rfl
theorem aiW {w R}:Uj (Calls prog 218 #[] w R) (aJ w [I 0,I 0,I 100,I 2,I 10,I 60,I 10,I 50,I 25,I 50,I 400,I 5] 321 λp w'=>R (Z (ar (aa p) 4 4)) w'):=uj_ {N:=6,keep:=kp 0 [[],[0]]} func218 (by kernel_rfl)
theorem u58 {x x1 w R}:Uj (Calls prog 58 #[I x,I x1] w R) (Cj 112 [I x,I x1] w λb w'=>Fo (!b) (R (Z (aw #[ab ah,I 2])) w') (aJ w' [I x,I x1,I 0,I 0,I 0,I 0,I 0,I 0,I 0,I 0,I 0] 235 λp w'=>R (Z (aw #[ab (aa p),I 0])) w')):=uj_ {N:=14,keep:=kp 0 [[0,1],[0,1,9],[4,5],[4,5]]} func58 (by kernel_rfl)
theorem ahh {x x1 w R}:Uj (Calls prog 112 #[I x,I x1] w R) (Fo (decide (x>=1)) (Fo (decide (x1<=100000)) (R (Z (.bool (decide (x<=x1)))) w) (R (Z (.bool ae)) w)) (R (Z (.bool ae)) w)):=uj_ {N:=16,keep:=kp 0 [[0,1],[4]]} func112 (by kernel_rfl)
theorem ai6 {x x1 x2 w R}:Uj (Calls prog 228 #[ab x,I x1,I x2] w R) (Fo x.isNone (R (Z (aw #[I 0,I 1])) w) (Fz (decide (x1<0)) (Fz (decide (x1>x2)) (Fo (decide (x2>1099511627776)) (R (Z (aw #[I 0,I 2])) w) (Sm w λw'=>∃a,x=aa a/\Li w' (a.add 10) λn=>∃a,x=aa a/\(0<=n/\n<(↑4:Int))/\Wr w' (add (a.add 2) (aG n*2)) [I x1,I x2] λw'=>∃a,x=aa a/\Li w' (a.add 10) λn=>(4:Int)≠0/\∃a,x=aa a/\Wr w' (a.add 10) [I (eH (wrap i64 (n+1)) 4)] λw'=>Ci 311 [ab x] w' λn w'=>R (Z (aw #[I n,I 0])) w')) (R (Z (aw #[I 0,I 2])) w)) (R (Z (aw #[I 0,I 2])) w))):=uj_ {N:=45,keep:=kp 0 [[0,1,2],[0,1,2,8],[6,7],[0,1,2,11],[6,7],[0],[0],[6,7]],bX:=[(5,(.range 12))],bk:=[(0,[0,1,2])]} func228 (by kernel_rfl)
theorem ajI {x x1 x2 w R}:Uj (Calls prog 266 #[ab x,I x1,I x2] w R) (Fo x.isNone (R (Z (I 1)) w) (Cj 112 [I x1,I x2] w λb w'=>Fo (!b) (R (Z (I 2)) w') (∃a,x=aa a/\Wr w' (a.add 0) [I x1] λw'=>∃a,x=aa a/\Wr w' (a.add 1) [I x2] λw'=>R (Z (I 0)) w'))):=uj_ {N:=23,keep:=kp 0 [[0,1,2],[0,1,2,7],[6],[0,1,2,10],[6],[],[6]],bk:=[(0,[0,1,2])]} func266 (by kernel_rfl)
theorem akk {x w R}:Uj (Calls prog 311 #[ab x] w R) (Ct 367 [ab x] w λn a w'=>Ci 369 [ab x] w' λb w'=>Ci 368 [I n,I a,I b] w' λn w'=>R (Z (I n)) w'):=uj_ {N:=15,keep:=kp 0 [[0],[0,3,4],[2]]} func311 (by kernel_rfl)
theorem ak4 {x w R}:Uj (Calls prog 367 #[ab x] w R) (Fo x.isNone (R (Z (aw #[I 0,I 0])) w) (Sm w λw'=>∃a,x=aa a/\Li w' (a.add 0) λn=>∃a,x=aa a/\Li w' (a.add 1) λb=>R (Z (aw #[I n,I b])) w')):=uj_ {N:=14,keep:=kp 0 [[0],[0,5],[2,3],[2,3]],bX:=[(3,(.range 10))]} func367 (by kernel_rfl)
def wU:Mt:={N:=33,keep:=kp 0 [[0],[0,7],[2],[0,3],[3,11,12],[3,11,12,13],[3,5,11,12],[3,5,11,12],[3,11,12],[3,11,12],[2]],bk:=[(0,[3]),(1,[3,11,12])],cE:=[(10,[3])],lk:=[(5,[3,11,12])]}
def Nn:=a8 f369
def GQ:=Nn.sr.sr.sr.sr
def Np:=Nn.sr.sr.sr.sl.sr.sl.sl
def O2 (x:Addr):Env:=[(3,SV.v (ab (aa x)))]
def HU (x:Addr) (x1 x2 x3 x4 x5 x6 a b c:Int):Env:=[(3,SV.v (ab (aa x))),(11,SV.v (agg #[(int i64 x1),(int i64 x2),(int i64 x3),(int i64 x4),(int i64 x5),(int i64 x6),(int i64 a),(int i64 b)])),vI 12 c]
def Q3 (R:RT):=Rt f369 R
def Q4 (R:RT):=bo 0 [3] (SQ wU GQ (Rt f369 R) (Rt f369 R))
theorem ak6 {x w R}:Uj (Calls prog 369 #[ab x] w R) (Fo x.isNone (R (Z (I 0)) w) (aJ w [I 0,I 0] 232 λp w'=>∃a,x=aa a/\Li w' (add (a.add 2) 0) λn=>Li w' (add (a.add 2) 1) λb=>Li w' (add (a.add 2) 2) λc=>Li w' (add (a.add 2) 3) λd=>Li w' (add (a.add 2) 4) λe=>Li w' (add (a.add 2) 5) λf=>Li w' (add (a.add 2) 6) λg=>Li w' (add (a.add 2) 7) λh=>Cut (WP prog 33 (bh Np) (HU p n b c d e f g h 0) w' (Q4 R)))):=uj_ wU func369 (by kernel_rfl)
theorem afK (x w R):den prog wU GQ (O2 x) w (Q3 R)=
(Li w (x.add 0) λn=>Li w (x.add 1) λa=>Ci 395 [I n,I a] w λn w'=>R (Z (I n)) w'):=by kernel_rfl
theorem afL (x x1 x2 x3 x4 x5 x6 e f d w B R):den prog wU Np (HU x x1 x2 x3 x4 x5 x6 e f d) w (bC B (Q4 R))=
(Fo (decide (d<4)) ((0<=d/\d<(↑4:Int))/\∃n a,rT 2 (rU (aG d*2) [I x1,I x2,I x3,I x4,I x5,I x6,I e,I f])=[I n,I a]/\aJ w [I 0,I 0] 232 λp w'=>Wr w' p [I n,I a] λw'=>Li w' (x.add 0) λn=>Li w' (p.add 0) λb=>Wr w' (x.add 0) [I (wrap i64 (n+b))] λw'=>Li w' (x.add 1) λn=>Li w' (p.add 1) λc=>Wr w' (x.add 1) [I (wrap i64 (n+c))] λw'=>B [(3,SV.v (ab (aa x))),(11,SV.v (agg #[I x1,I x2,I x3,I x4,I x5,I x6,I e,I f])),(12,SV.v (I (wrap i64 (d+1))))] w') (aU prog wU GQ (O2 x) w (Q3 R))):=by kernel_rfl
theorem u56 {x w R}:Uj (Calls prog 56 #[I x] w R) (Fz (decide (x<1)) (Fo (decide (x>64)) (R (Z (aw #[ab ah,I 2])) w) (∃p n c w',aZ prog (mE 227 (I x) (I x)) w=a7 (ar p n c) w'/\aJ w' [ar p n c] 229 λp w'=>R (Z (aw #[ab (aa p),I 0])) w')) (R (Z (aw #[ab ah,I 2])) w)):=uj_ {N:=14,keep:=kp 0 [[0],[0,9],[2,3],[2,3]]} func56 (by kernel_rfl)
theorem ai7 {x x1 x2 x3 x4 w R}:Uj (Calls prog 229 #[ab x,I x1,I x2,I x3,I x4] w R) (Call prog 312 [ab x,I x1] w λe w'=>∃p n,e=Z (aw #[ab p,I n])/\Fo (n !=0) (R (Z (I n)) w') (Fz (decide (x2<0)) (Fo (decide (x2>=8)) (R (Z (I 3)) w') (∃a,p=aa a/\(0<=x2/\x2<(↑8:Int))/\Ci 313 [ab p,ab (aa (add (a.add 1) (aG x2*1))),I x3,I x4] w' λn w'=>R (Z (I n)) w')) (R (Z (I 3)) w'))):=uj_ {N:=39,keep:=kp 0 [[0,1,2,3,4],[2,3,4,11,12],[2,3,4,11,12,19],[10],[2,3,4,11,23],[10],[10]],bk:=[(0,[2,3,4,11])]} func229 (by kernel_rfl)
theorem ai8 {x x1 x2 x3 w R}:Uj (Calls prog 230 #[ab x,I x1,I x2,I x3] w R) (Call prog 312 [ab x,I x1] w λe w'=>∃p n,e=Z (aw #[ab p,I n])/\Fo (n !=0) (R (Z (I n)) w') (∃a,p=aa a/\Ci 313 [ab p,ab (aa (a.add 0)),I x2,I x3] w' λn w'=>R (Z (I n)) w')):=uj_ {N:=27,keep:=kp 0 [[0,1,2,3],[2,3,9,10],[2,3,9,10,18],[8],[8]]} func230 (by kernel_rfl)
theorem akl {x x1 w R}:Uj (Calls prog 312 #[ab x,I x1] w R) (Fo x.isNone (R (Z (aw #[ab ah,I 1])) w) (Fz (decide (x1<0)) (∃a,x=aa a/\Lq w (a.add 0) λp n c=>Fo (decide (x1>=(↑n:Int))) (R (Z (aw #[ab ah,I 3])) w) (∃a,x=aa a/\Lq w (a.add 0) λp n c=>(0<=x1/\x1<(↑n:Int))/\∃a,p=aa a/\R (Z (aw #[ab (aa (add a (aG x1*10))),I 0])) w)) (R (Z (aw #[ab ah,I 3])) w))):=uj_ {N:=27,keep:=kp 0 [[0,1],[0,1,6],[4,5],[0,1,9],[4,5],[4,5]],bk:=[(0,[0,1])]} func312 (by kernel_rfl)
theorem akm {x x1 x2 x3 w R}:Uj (Calls prog 313 #[ab x,ab x1,I x2,I x3] w R) (Cj 370 [I x2] w λb w'=>Fz (!b) (Cj 370 [I x3] w' λb w'=>Fo (!b) (R (Z (I 2)) w') (∃a,x=aa a/\Li w' (a.add 9) λn=>Ct 333 [I n,I (wrap i64 (x2*x3))] w' λn c w'=>Fz (c !=0) (Fo (decide (n>4611686018427387904)) (R (Z (I 16)) w') (∃a,x=aa a/\Wr w' (a.add 9) [I n] λw'=>∃a,x1=aa a/\Li w' a λn=>∃a,x1=aa a/\Wr w' a [I (wrap i64 (n+x2))] λw'=>R (Z (I 0)) w')) (R (Z (I 16)) w'))) (R (Z (I 2)) w')):=uj_ {N:=46,keep:=kp 0 [[0,1,2,3],[0,1,2,3,18],[8],[0,1,2,9,10],[0,1,2,9,35],[8],[1,2],[],[8]]} func313 (by kernel_rfl)
theorem ak7 {x w R}:Uj (Calls prog 370 #[I x] w R) (Fo (decide (x>=0)) (R (Z (.bool (decide (x<=2147483648)))) w) (R (Z (.bool ae)) w)):=uj_ {N:=9,keep:=kp 0 [[0],[2]]} func370 (by kernel_rfl)
def wV:Mt:={N:=135,keep:=kp 0 [[0,1,2],[0,1,2,20],[0,1,2],[0,1,2,24],[0,1,2],[0,1,2,27],[6,7],[0,1,2,8],[0,1,2,8],[0,1,2,8,9],[0,1,2,8,9,10],[1,2,8,9,10,11],[2,8,9,10,11,12],[2,8,9,10,11,12,13],[2,8,9,10,11,13,14],[2,8,9,10,11,13,14,15],[2,8,9,10,11,13,14,15,16],[2,8,9,10,11,13,14,15,16,78],[2,8,9,10,11,13,14,15,16],[2,8,9,10,11,13,14,15,16],[2,8,9,10,11,13,14,15,16,85],[2,8,9,10,14,15,17],[2,8,9,10,14,15,17,18],[2,8,9,10,14,15,16,17,18],[2,8,9,10,14,15,16,17,18,113],[2,8,9,10,14,15,16,17,18],[2,8,9,10,14,15,16,17,18],[2,8,9,10,14,15,16,17,18,120],[6,7]],bX:=[(6,(.range 8))],bk:=[(0,[2,8,9,10,11,13,14,15]),(1,[2,8,9,10,11,13,14,15,16]),(2,[2,8,14,15,17,18]),(3,[2,8,9,10,14,15,16,17,18])],cE:=[(3,[0,1,2]),(5,[0,1,2]),(21,[2,8,9,10,11,13,14,15]),(28,[2,8,14,15,17,18])],lk:=[(17,[2,8,9,10,11,13,14,15,16]),(24,[2,8,9,10,14,15,16,17,18])]}
def Db:=a8 f394
def NF:=Db.sr.sr
def NG:=Db.sr.sr.sr
def WO:=Db.sr.sr.sr.sr.sr.sr.sr.sr.sr.sr.sr.sr.sr.sr.sr
def WQ:=Db.sr.sr.sr.sr.sr.sr.sr.sr.sr.sr.sr.sr.sr.sr.sl.sl.sl
def O5 (x x1 x2:Int):Env:=[(0,SV.v (int .u64 x)),(1,SV.v (int .u64 x1)),(2,SV.v (int .u64 x2))]
def O6 (x x1 x2:Int):Env:=[(0,SV.v (int .u64 x)),(1,SV.v (int .u64 x1)),(2,SV.v (int .u64 x2))]
def X6 (x x1 x2 x3 x4 x5 x6 a b:Int):Env:=[(2,SV.v (int .u64 x)),(8,SV.v (int .u64 x1)),(9,SV.v (int .u64 x2)),(10,SV.v (int .u64 x3)),(11,SV.v (int .u64 x4)),(13,SV.v (int .u64 x5)),(14,SV.v (int .u64 x6)),(15,SV.v (int .u64 a)),(16,SV.v (int .u64 b))]
def Rb (R:RT):=Rt f394 R
def Re (R:RT):=Rt f394 R
def Z1 (R:RT):=bo 0 [2,8,9,10,11,13,14,15] (SQ wV WO (Rt f394 R) (Rt f394 R))
theorem alr {x x1 x2 w R}:Uj (Calls prog 394 #[int .u64 x,int .u64 x1,int .u64 x2] w R) (((x2==0)->∃v,w.cell? {block:=1,off:=0}=aa v/\False)/\((x2==0)=ae->aU prog wV NF (O5 x x1 x2) w (Rb R))):=uj_ wV func394 (by kernel_rfl)
theorem afU (x x1 x2 w R):den prog wV NF (O5 x x1 x2) w (Rb R)=
((decide (x2<=x)->∃v,w.cell? {block:=2,off:=0}=aa v/\False)/\(decide (x2<=x)=ae->aU prog wV NG (O6 x x1 x2) w (Re R))):=by kernel_rfl
theorem afV (x x1 x2 w R):den prog wV NG (O6 x x1 x2) w (Re R)=
(Fo (x==0) (Sm w λw'=>x2≠0/\x2≠0/\R (Z (aw #[int .u64 (wrap .u64 (jq x1 x2)),int .u64 (eH x1 x2)])) w') (Ci 405 [int .u64 x2] w λn w'=>0<=wrap .u64 n/\(0:Int)<=32/\0<=wrap .u64 n/\0<=wrap .u64 (64-wrap .u64 n)/\0<=wrap .u64 n/\(0:Int)<=32/\aS .u64 (fB .u64 x2 (wrap .u64 n)) (32:Int)≠0/\Cut (WP prog 135 (bh WQ) (X6 (fB .u64 x2 (wrap .u64 n)) (wrap .u64 n) (aS .u64 (fB .u64 x2 (wrap .u64 n)) 32) (aH aN .u64 (fB .u64 x2 (wrap .u64 n)) 4294967295) (aH s6 .u64 (fB .u64 x (wrap .u64 n)) (aS .u64 x1 (wrap .u64 (64-wrap .u64 n)))) (aS .u64 (fB .u64 x1 (wrap .u64 n)) 32) (aH aN .u64 (fB .u64 x1 (wrap .u64 n)) 4294967295) (wrap .u64 (jq (aH s6 .u64 (fB .u64 x (wrap .u64 n)) (aS .u64 x1 (wrap .u64 (64-wrap .u64 n)))) (aS .u64 (fB .u64 x2 (wrap .u64 n)) 32))) (wrap .u64 (aH s6 .u64 (fB .u64 x (wrap .u64 n)) (aS .u64 x1 (wrap .u64 (64-wrap .u64 n)))-wrap .u64 (wrap .u64 (jq (aH s6 .u64 (fB .u64 x (wrap .u64 n)) (aS .u64 x1 (wrap .u64 (64-wrap .u64 n)))) (aS .u64 (fB .u64 x2 (wrap .u64 n)) 32))*aS .u64 (fB .u64 x2 (wrap .u64 n)) 32)))) w' (Z1 R)))):=by kernel_rfl
end
end
section
open Value IntKind Ending World Addr Tryz
open Value renaming pointer→ab,slice→ar,tuple→aw,bool→qv
set_option maxRecDepth 100000
noncomputable section
theorem ahe {x w R}:Uj (Calls prog 109 #[I x] w R) (Cj 198 [I x] w λb w'=>Fo (!b) (R (Z (aw #[ab ah,I 2])) w') (sU w' λr w'=>aJ w' [I x,map (aa r),N3,N3,N3,N3,N3,N3,N3,N3,N3,N3,N3,N3,N3,N3,N3,N3,N3,N3,N3,N3,N3,N3,N3,N3,N3,N3,N3,N3,N3,N3,N3,N3,N3,N3,N3,N3,N3,N3,N3,N3,N3,N3,N3,N3,N3,N3,N3,N3,N3,N3,N3,N3,N3,N3,N3,N3,N3,N3,N3,N3,N3,N3,N3,N3,N3,N3,N3,N3,N3,N3,N3,N3,N3,N3,N3,N3,N3,N3,N3,N3,N3,N3,N3,N3,N3,N3,N3,N3,N3,N3,N3,N3,N3,N3,N3,N3,N3,N3,N3,N3,N3,N3,N3,N3,N3,N3,N3,N3,N3,N3,N3,N3,N3,N3,N3,N3,N3,N3,N3,N3,N3,N3,N3,N3,N3,N3,N3,N3,N3,N3,N3,N3,N3,N3,N3,N3,N3,N3,N3,N3,N3,N3,N3,N3,N3,N3,N3,N3,N3,N3,N3,N3,N3,N3,N3,N3,N3,N3,N3,N3,N3,N3,N3,N3,N3,N3,N3,N3,N3] 289 λp w'=>R (Z (aw #[ab (aa p),I 0])) w')):=uj_ {N:=11,keep:=kp 0 [[0],[0,6],[2,3],[2,3]]} func109 (by kernel_rfl)
theorem aiB {x w R}:Uj (Calls prog 198 #[I x] w R) (Fo (decide (x>=0)) (R (Z (.bool (decide (x<=1152921504606846976)))) w) (R (Z (.bool ae)) w)):=uj_ {N:=9,keep:=kp 0 [[0],[2]]} func198 (by kernel_rfl)
def wS:Mt:={N:=62,keep:=kp 0 [[0,1],[0,1,8],[4],[0,1,11],[4],[0,1,23],[4],[0,1,5],[0,1,5,6],[0,1,5,6,36,37],[0,1,5,6,36,37,38],[0,1,5,6,7,36,37],[0,1,5,6,36,37],[0,1,5,6,36,37],[0,1,6],[0,6],[],[4]],bk:=[(0,[0,1]),(1,[0,1,5,6]),(2,[0,1,5,6,36,37])],cE:=[(14,[0,1,5,6])],lk:=[(10,[0,1,5,6,36,37])]}
def MK:=a8 f231
def GL:=MK.sr.sr.sr.sr.sr
def ML:=MK.sr.sr.sr.sr.sl.sr.sl.sl
def OY (x:Option Addr) (x1 x2:Int) (x3:Option Addr) (x4 x5:Nat):Env:=[vP 0 x,vI 1 x1,vI 5 x2,vS 6 x3 x4 x5]
def HD (x:Option Addr) (x1 x2:Int) (x3:Option Addr) (x4 x5:Nat) (x6 a:Int):Env:=[vP 0 x,vI 1 x1,vI 5 x2,vS 6 x3 x4 x5,vI 36 x6,vI 37 a]
def QH (R:RT):=Rt f231 R
def QI (R:RT):=bo 1 [0,1,5,6] (SQ wS GL (Rt f231 R) (Rt f231 R))
theorem ai9 {x x1 w R}:Uj (Calls prog 231 #[ab x,I x1] w R) (Fo x.isNone (R (Z (I 1)) w) (∃a,x=aa a/\∃n,w.cell? (a.add 0)=aa (I n)/\Fz (decide (x1<n)) (Call prog 198 [I x1] w λe w'=>∃b,e=Z (.bool b)/\Fo (!b) (R (Z (I 2)) w') (∃a,x=aa a/\∃n,w'.cell? (a.add 0)=aa (I n)/\Fo (x1==n) (R (Z (I 0)) w') (∃a,x=aa a/\∃n,w'.cell? (a.add 0)=aa (I n)/\Call prog 314 [I x1,I n] w' λe w'=>∃n,e=Z (I n)/\Cut (WP prog 62 (bh ML) (HD x x1 n ah 0 0 n 0) w' (QI R))))) (R (Z (I 2)) w))):=uj_ wS func231 (by kernel_rfl)
theorem afm (x x1 x2 x3 x4 x5 w R):den prog wS GL (OY x x1 x2 x3 x4 x5) w (QH R)=
(Call prog 316 [I x1,I x2] w λe w'=>∃n,e=Z (I n)/\Call prog 315 [ab x,I x2,I (wrap i64 (n+1))] w' λe w'=>∃p n c,e=Z (ar p n c)/\∃b d f g,aZ prog (bR #[36,36] 36 #[ar x3 x4 x5,ar p n c]) w'=a7 (ar b d f) g/\∃a,x=aa a/\Wr g (a.add 0) [I x1] λw'=>Call prog 317 [ab x,ar b d f] w' λe w'=>e=Z (aw #[])/\R (Z (I 0)) w'):=by kernel_rfl
theorem afn (x x1 x2 x3 x4 x5 x6 g w B R):den prog wS ML (HD x x1 x2 x3 x4 x5 x6 g) w (bC B (QI R))=
(Fo (decide (g<x6)) (Call prog 315 [ab x,I g,I 8] w λe w'=>∃p n c,e=Z (ar p n c)/\∃a b d f,aZ prog (bR #[36,36] 36 #[ar x3 x4 x5,ar p n c]) w'=a7 (ar a b d) f/\B [vP 0 x,vI 1 x1,vI 5 x2,vS 6 a b d,vI 36 x6,(37,SV.v (I (wrap i64 (g+1))))] f) (aU prog wS GL (OY x x1 x2 x3 x4 x5) w (QH R))):=by kernel_rfl
theorem ahb {x x1 w R}:Uj (Calls prog 106 #[ab x,I x1] w R) (Fo x.isNone (R (Z (aw #[I 0,.bool ae])) w) (∃a,x=aa a/\∃r,w.cell? (a.add 1)=aa (map r)/\∃n b,aZ prog (dr 285 (map r) (I x1) ag) w=a7 (aw #[I n,.bool b]) w/\R (Z (aw #[I n,.bool b])) w)):=uj_ {N:=21,keep:=kp 0 [[0,1],[0,1,9],[4,5],[6,7],[4,5]]} func106 (by kernel_rfl)
theorem ain {x w R}:Uj (Calls prog 184 #[ab x] w R) (Fo x.isNone (R (Z (N3)) w) (∃a,x=aa a/\∃r,w.cell? (a.add 1)=aa (map r)/\Call prog 276 [map r] w λe w'=>∃v,e=Z v/\Cq 275 [v] w' λp n c w'=>Cq 274 [ab x,ar p n c] w' λp n c w'=>R (Z (ar p n c)) w')):=uj_ {N:=13,keep:=kp 0 [[0],[0,4],[2],[2]]} func184 (by kernel_rfl)
theorem ajN {x x1 x2 x3 w R}:Uj (Calls prog 274 #[ab x,ar x1 x2 x3] w R) (aJ w [ab x] 181 λp w'=>Cq 190 [ar x1 x2 x3] w' λa n c w'=>Cn 342 [ar a n c,func (aQ 343) #[] #[ab (aa p)]] w' λw'=>R (Z (ar a n c)) w'):=uj_ {N:=12,keep:=kp 0 [[1,2],[2,5],[5],[4]]} func274 (by kernel_rfl)
theorem aj2 {x w R}:Uj (Calls prog 293 #[ab x] w R) (Fo x.isNone (R (Z (N3)) w) (∃a,x=aa a/\Lq w (a.add 170) λp n c=>Cq 274 [ab x,ar p n c] w λp n c w'=>R (Z (ar p n c)) w')):=uj_ {N:=11,keep:=kp 0 [[0],[0,4],[2],[2]]} func293 (by kernel_rfl)
theorem akc {x w R}:Uj (Calls prog 303 #[ab x] w R) (Fo x.isNone (R (Z (aw #[I 0,I 1])) w) (∃a,x=aa a/\∃r,w.cell? (a.add 1)=aa (map r)/\∃(n:Nat),(∀(ty:TypeId),aZ prog (k9 #[285] ty #[map r]) w=a7 (I (↑n:Int)) w)/\Fo ((↑n:Int)==0) (R (Z (aw #[I 0,I 12])) w) (Sm w λw'=>∃a,x=aa a/\∃r,w'.cell? (a.add 1)=aa (map r)/\Cq 362 [ab x] w' λp n c w'=>w'.cell? (a.add 1)=aa (map r)/\Cq 274 [ab x,ar p n c] w' λp n c w'=>w'.cell? (a.add 1)=aa (map r)/\((0:Int)<=0/\0<(↑n:Int))/\∃a,p=aa a/\Li w' (a.add 0) λn=>∃b,aZ prog (dr 285 (map r) (I n) ae) w'=a7 (I b) w'/\R (Z (aw #[I b,I 0])) w'))):=uj_ {N:=25,keep:=kp 0 [[0],[0,4],[2,3],[0,7],[2,3],[2,3]],bX:=[(5,(.range 13))],bk:=[(0,[0])]} func303 (by kernel_rfl)
theorem akn {x x1 w R}:Uj (Calls prog 314 #[I x,I x1] w R) (Ci 371 [int .u64 (wrap .u64 (aH BinOp.xor i64 x x1))] w λn w'=>(3:Int)≠0/\R (Z (I (wrap i64 (jq (wrap i64 (n-1)) 3)))) w'):=uj_ {N:=12,keep:=kp 0 [[0,1],[4]]} func314 (by kernel_rfl)
def Cd:Mt:={N:=33,keep:=kq 0 [(1,[0,1,2]),(1,[0,1,2,7]),(1,[0,1,7,10,11]),(1,[0,1,7,10,11,12]),(2,[0,1,7,8,10,11]),(2,[0,1,7,10,11]),(1,[6])],bk:=[(0,[7]),(1,[0,1,7,10,11])],lk:=[(3,[0,1,7,10,11])]}
def M4:=a8 f315
def WA:=M4.sr.sr.sr
def M5:=M4.sr.sr.sl.sr.sl.sl
def HN (x:Option Addr) (x1:Int) (x2:Option Addr) (x3 x4:Nat) (x5 x6:Int):Env:=[vP 0 x,vI 1 x1,vS 7 x2 x3 x4,vI 10 x5,vI 11 x6]
def QS (R:RT):=bo 0 [7] (SQ Cd WA (Rt f315 R) (Rt f315 R))
theorem ako {x x1 x2 w R}:Uj (Calls prog 315 #[ab x,I x1,I x2] w R) (∃n w',aZ prog (qC #[3,3] 3 #[I x2,I 8]) w=a7 (I n) w'/\Cut (WP prog 33 (bh M5) (HN x x1 ah 0 0 n 0) w' (QS R))):=uj_ Cd func315 (by kernel_rfl)
theorem afA (x x1 x2 x3 x4 x5 x6 w B R):den prog Cd M5 (HN x x1 x2 x3 x4 x5 x6) w (bC B (QS R))=
(Fo (decide (x6<x5)) (∃a,x=aa a/\(0<=x1/\x1<(↑21:Int))/\(0<=x6/\x6<(↑8:Int))/\∃p n c,w.cell? (add (add (a.add 2) (aG x1*8)) (aG x6*1))=aa (ar p n c)/\∃b d e w',aZ prog (bR #[36,36] 36 #[ar x2 x3 x4,ar p n c]) w=a7 (ar b d e) w'/\∃a,x=aa a/\(0<=x1/\x1<(↑21:Int))/\(0<=x6/\x6<(↑8:Int))/\Wr w' (add (add (a.add 2) (aG x1*8)) (aG x6*1)) [N3] λw'=>B [vP 0 x,vI 1 x1,vS 7 b d e,vI 10 x5,(11,SV.v (I (wrap i64 (x6+1))))] w') (R (Z (ar x2 x3 x4)) w)):=by kernel_rfl
theorem akp {x x1 w R}:Uj (Calls prog 316 #[I x,I x1] w R) (0<=wrap i64 (3*x1)/\(8:Int)≠0/\R (Z (I (eH (aS i64 x (wrap i64 (3*x1))) 8))) w):=uj_ {N:=10,keep:=kp 0 [[0,1],[4]]} func316 (by kernel_rfl)
def Gj:Mt:={N:=30,keep:=kp 0 [[0,7,8,9],[0,7,8,9,10],[0,5,7,8,9],[0,5,6,7,8,9],[0,7,8,9],[0,7,8,9]],bk:=[(0,[]),(1,[0,7,8,9])],lk:=[(1,[0,7,8,9])]}
def WB:=a8 f317
def M6:=WB.sr.sl.sl
def HO (x x1:Option Addr) (x2 x3:Nat) (x4 x5:Int):Env:=[vP 0 x,vS 7 x1 x2 x3,vI 8 x4,vI 9 x5]
def QT (R:RT):=bo 0 [] (Rt f317 R)
theorem akq {x x1 x2 x3 w R}:Uj (Calls prog 317 #[ab x,ar x1 x2 x3] w R) (Cut (WP prog 30 (bh M6) (HO x x1 x2 x3 (↑x2:Int) 0) w (QT R))):=uj_ Gj func317 (by kernel_rfl)
theorem afB (x x1 x2 x3 x4 x5 w B R):den prog Gj M6 (HO x x1 x2 x3 x4 x5) w (bC B (QT R))=
(Fo (decide (x5<x4)) ((0<=x5/\x5<(↑x2:Int))/\∃a,x1=aa a/\Li w (add a (aG x5*1)) λn=>∃a,x=aa a/\∃r,w.cell? (a.add 1)=aa (map r)/\∃b,aZ prog (dr 285 (map r) (I n) ae) w=a7 (I b) w/\Cp 372 [ab x,I b] w λp w'=>∃a,p=aa a/\Lq w' a λd f c=>aJ w' [I n] 3 λj w'=>∃g n h i,aZ prog (bR #[36,36] 36 #[ar d f c,ar (aa j) 1 1]) w'=a7 (ar g n h) i/\∃a,p=aa a/\Wr i a [ar g n h] λw'=>B [vP 0 x,vS 7 x1 x2 x3,vI 8 x4,(9,SV.v (I (wrap i64 (x5+1))))] w') (R (Z (aw #[])) w)):=by kernel_rfl
theorem akv {x x1 x2 w R}:Uj (Calls prog 322 #[ab x,I x1,I x2] w R) (Fo x.isNone (R (Z (I 1)) w) (∃a,x=aa a/\∃r,w.cell? (a.add 1)=aa (map r)/\∃n b,aZ prog (dr 285 (map r) (I x1) ag) w=a7 (aw #[I n,.bool b]) w/\Cj 198 [I x2] w λc w'=>Fo (!c) (R (Z (I 2)) w') (Fo b (R (Z (I 6)) w') (∃a,x=aa a/\∃r,w'.cell? (a.add 1)=aa (map r)/\∃d,aZ prog (ic 285 (map r) (I x1) (I x2)) w'=a7 () d/\aJ d [I x1] 3 λp w'=>Cn 317 [ab x,ar (aa p) 1 1] w' λw'=>R (Z (I 0)) w')))):=uj_ {N:=36,keep:=kp 0 [[0,1,2],[0,1,2,10],[6],[0,1,2,8],[0,1,2,8,20],[6],[0,1,2,24],[6],[0,1],[],[6]],bk:=[(0,[0,1,2])]} func322 (by kernel_rfl)
theorem akx {x x1 w R}:Uj (Calls prog 324 #[ab x,I x1] w R) (aJ w [I x1] 3 λp w'=>Fo x.isNone (R (Z (I 1)) w') (Sm w' λd=>∃a,x=aa a/\∃r,d.cell? (a.add 1)=aa (map r)/\∃n,d.cell? p=aa (I n)/\∃h b,aZ prog (dr 285 (map r) (I n) ag) d=a7 (aw #[I h,.bool b]) d/\Fo (!b) (R (Z (I 4)) d) (Call prog 372 [ab x,I h] d λe w'=>∃f,e=Z (ab f)/\∃a,f=aa a/\Lq w' a λi n c=>Cq 373 [ar i n c,func (aQ 374) #[] #[ab (aa p)]] w' λj n c w'=>∃a,f=aa a/\Wr w' a [ar j n c] λw'=>Sm w' λg=>∃a,x=aa a/\∃r,g.cell? (a.add 1)=aa (map r)/\∃n,g.cell? p=aa (I n)/\∃w',aZ prog (iJ #[285,3] 0 #[map r,I n]) g=a7 (aw #[]) w'/\R (Z (I 0)) w'))):=uj_ {N:=36,keep:=kp 0 [[0,3],[0,3,9],[4],[0,3,5,6],[0,3,5,20],[4],[0,3,7],[0,3],[],[4]],bX:=[(3,(.range 11)),(8,(.range 6))]} func324 (by kernel_rfl)
theorem ak9 {x x1 w R}:Uj (Calls prog 372 #[ab x,I x1] w R) (∃a,x=aa a/\Li w (a.add 0) λn=>Fo (decide (x1<=n)) (∃a,x=aa a/\R (Z (ab (aa (a.add 170)))) w) (∃a,x=aa a/\Li w (a.add 0) λn=>Ci 314 [I x1,I n] w λn w'=>Sm w' λc=>∃a,x=aa a/\(0<=n/\n<(↑21:Int))/\Call prog 316 [I x1,I n] c λe w'=>∃b,e=Z (I b)/\(0<=b/\b<(↑8:Int))/\R (Z (ab (aa (add (add (a.add 2) (aG n*8)) (aG b*1))))) w')):=uj_ {N:=30,keep:=kp 0 [[0,1],[0,1,11],[4],[0,1,5],[4]],bX:=[(4,[0,1,2,3,5,6,7,4,8,9])]} func372 (by kernel_rfl)
theorem ala {x x1 w R}:Uj (Calls prog 374 #[I x,ab (aa x1)] w R) (Li w x1 λn=>R (Z (.bool (x==n))) w):=uj_ {N:=7,keep:=kp 0 [[0,1],[3]]} func374 (by kernel_rfl)
def Cl:Mt:={N:=48,keep:=kp 0 [[0],[0,14],[2,3],[0,4,5],[0,4,5,20],[2,3],[0,6],[6,26,27],[6,26,27,28],[6,7,8,26,27],[6,7,8,26,27,34],[2,3],[6,26,27],[6,26,27],[2,3]],bk:=[(0,[6]),(1,[6,26,27])],lk:=[(8,[6,26,27])]}
def Nw:=a8 f38
def WN:=Nw.sr.sr.sr.sr.sr.sr
def ND:=Nw.sr.sr.sr.sr.sr.sl.sr.sl.sl
def HY (x:Option Addr) (x1 x2:Int):Env:=[vP 6 x,vI 26 x1,vI 27 x2]
def Ra (R:RT):=bo 0 [6] (SQ Cl WN (Rt f38 R) (Rt f38 R))
theorem u38 {x w R}:Uj (Calls prog 38 #[I x] w R) (Fz (decide (x<1)) (Fo (decide (x>64)) (R (Z (aw #[ab ah,I 2])) w) (Call prog 107 [I 48] w λe w'=>∃p n,e=Z (aw #[ab p,I n])/\Fo (n !=0) (R (Z (aw #[ab ah,I n])) w') (sU w' λr w'=>aJ w' [ab p,N3,map (aa r)] 185 λp w'=>Cut (WP prog 48 (bh ND) (HY (aa p) x 0) w' (Ra R))))) (R (Z (aw #[ab ah,I 2])) w)):=uj_ Cl func38 (by kernel_rfl)
theorem afT (x x1 x2 w B R):den prog Cl ND (HY x x1 x2) w (bC B (Ra R))=
(Fo (decide (x2<x1)) (Call prog 109 [I 0] w λe w'=>∃p n,e=Z (aw #[ab p,I n])/\Fo (n !=0) (R (Z (aw #[ab ah,I n])) w') (∃a,x=aa a/\Lq w' (a.add 1) λb n c=>aJ w' [ab p] 181 λp w'=>∃d f g h,aZ prog (bR #[183,183] 183 #[ar b n c,ar (aa p) 1 1]) w'=a7 (ar d f g) h/\∃a,x=aa a/\Wr h (a.add 1) [ar d f g] λw'=>B [vP 6 x,vI 26 x1,(27,SV.v (I (wrap i64 (x2+1))))] w')) (R (Z (aw #[ab x,I 0])) w)):=by kernel_rfl
theorem u31 {x x1 w R}:Uj (Calls prog 31 #[ab x,I x1] w R) (Call prog 105 [ab x,I x1] w λe w'=>∃n b,e=Z (aw #[I n,.bool b])/\Fo (!b) (R (Z (aw #[I 0,.bool ae])) w') (∃a,x=aa a/\Lq w' (a.add 1) λp d c=>(0<=n/\n<(↑d:Int))/\∃a,p=aa a/\Lp w' (add a (aG n*1)) λp=>Call prog 106 [ab p,I x1] w' λe w'=>∃n b,e=Z (aw #[I n,.bool b])/\R (Z (aw #[I n,.bool b])) w')):=uj_ {N:=27,keep:=kp 0 [[0,1],[0,1,6,7],[0,1,6,15],[4,5],[4,5]]} func31 (by kernel_rfl)
theorem u89 {x x1 w R}:Uj (Calls prog 89 #[ab x,I x1] w R) (aJ w [I x1] 3 λp w'=>Ci 183 [ab x,ar (aa p) 1 1] w' λn w'=>Fo (n !=0) (R (Z (N3)) w') (∃a,x=aa a/\Lq w' (a.add 1) λp n c=>(0<=x1/\x1<(↑n:Int))/\∃a,p=aa a/\Lp w' (add a (aG x1*1)) λp=>Cq 184 [ab p] w' λp n c w'=>R (Z (ar p n c)) w')):=uj_ {N:=18,keep:=kp 0 [[0,1],[0,1,9],[4],[4]]} func89 (by kernel_rfl)
theorem aha {x x1 w R}:Uj (Calls prog 105 #[ab x,I x1] w R) (Fo x.isNone (R (Z (aw #[I 0,.bool ae])) w) (∃a,x=aa a/\∃r,w.cell? (a.add 2)=aa (map r)/\∃n b,aZ prog (dr 78 (map r) (I x1) ag) w=a7 (aw #[I n,.bool b]) w/\R (Z (aw #[I n,.bool b])) w)):=uj_ {N:=21,keep:=kp 0 [[0,1],[0,1,9],[4,5],[6,7],[4,5]]} func105 (by kernel_rfl)
def BW:Mt:={N:=28,keep:=kp 0 [[0,1],[0,1,5],[0,1,5,12],[4],[0,1,6],[1,6,17,18,19],[1,6,17,18,19,20],[1,8,17,18,19],[1,6,17,18,19],[1,6,17,18,19],[4]],bk:=[(0,[6]),(1,[1,6,17,18,19])],lk:=[(6,[1,6,17,18,19])]}
def L7:=a8 f124
def V8:=L7.sr.sr.sr.sr
def L9:=L7.sr.sr.sr.sl.sr.sl.sl
def Hp (x x1:Int) (x2:Option Addr) (x3 x4:Nat) (x5 x6:Int):Env:=[vI 1 x,vI 6 x1,vS 17 x2 x3 x4,vI 18 x5,vI 19 x6]
def Qq (R:RT):=bo 0 [6] (SQ BW V8 (Rt f124 R) (Rt f124 R))
theorem aht {x x1 w R}:Uj (Calls prog 124 #[ab x,I x1] w R) (Ci 183 [ab x,N3] w λn w'=>Fo (n !=0) (R (Z (I n)) w') (∃a,x=aa a/\Lq w' (a.add 1) λp n c=>Cut (WP prog 28 (bh L9) (Hp x1 0 p n c (↑n:Int) 0) w' (Qq R)))):=uj_ BW func124 (by kernel_rfl)
theorem aeX (x x1 x2 x3 x4 x5 x6 w B R):den prog BW L9 (Hp x x1 x2 x3 x4 x5 x6) w (bC B (Qq R))=
(Fo (decide (x6<x5)) ((0<=x6/\x6<(↑x3:Int))/\∃a,x2=aa a/\Lp w (add a (aG x6*1)) λp=>Ci 231 [ab p,I x] w λn w'=>B [vI 1 x,vI 6 n,vS 17 x2 x3 x4,vI 18 x5,(19,SV.v (I (wrap i64 (x6+1))))] w') (R (Z (I x1)) w)):=by kernel_rfl
def B3:Mt:={N:=27,keep:=kp 0 [[0,1],[0,1,8],[4],[0,9,10,11],[0,9,10,11,12],[0,6,9,10,11],[0,9,10,11,25],[4],[0,9,10,11],[4]],bk:=[(0,[]),(1,[0,9,10,11])],lk:=[(4,[0,9,10,11])]}
def Mq:=a8 f183
def Wk:=Mq.sr.sr.sr
def Mr:=Mq.sr.sr.sl.sr.sl.sl
def Hv (x x1:Option Addr) (x2 x3:Nat) (x4 x5:Int):Env:=[vP 0 x,vS 9 x1 x2 x3,vI 10 x4,vI 11 x5]
def Qx (R:RT):=bo 0 [] (SQ B3 Wk (Rt f183 R) (Rt f183 R))
theorem aim {x x1 x2 x3 w R}:Uj (Calls prog 183 #[ab x,ar x1 x2 x3] w R) (Fo x.isNone (R (Z (I 1)) w) (Cut (WP prog 27 (bh Mr) (Hv x x1 x2 x3 (↑x2:Int) 0) w (Qx R)))):=uj_ B3 func183 (by kernel_rfl)
theorem ae8 (x x1 x2 x3 x4 x5 w B R):den prog B3 Mr (Hv x x1 x2 x3 x4 x5) w (bC B (Qx R))=
(Fo (decide (x5<x4)) ((0<=x5/\x5<(↑x2:Int))/\∃a,x1=aa a/\Li w (add a (aG x5*1)) λn=>Fz (decide (n<0)) (∃a,x=aa a/\Lq w (a.add 1) λp b c=>Fo (decide (n>=(↑b:Int))) (R (Z (I 3)) w) (B [vP 0 x,vS 9 x1 x2 x3,vI 10 x4,(11,SV.v (I (wrap i64 (x5+1))))] w)) (R (Z (I 3)) w)) (R (Z (I 0)) w)):=by kernel_rfl
theorem aiI {x x1 w R}:Uj (Calls prog 205 #[ab x,I x1] w R) (aJ w [I x1] 3 λp w'=>Ci 183 [ab x,ar (aa p) 1 1] w' λn w'=>Fo (n==0) (∃a,x=aa a/\Lq w' (a.add 1) λp n c=>(0<=x1/\x1<(↑n:Int))/\∃a,p=aa a/\Lp w' (add a (aG x1*1)) λp=>Cq 293 [ab p] w' λp n c w'=>R (Z (.bool (decide ((↑n:Int)>0)))) w') (R (Z (.bool ae)) w')):=uj_ {N:=22,keep:=kp 0 [[0,1],[4]]} func205 (by kernel_rfl)
theorem aiR {x x1 w R}:Uj (Calls prog 214 #[ab x,I x1] w R) (aJ w [I x1] 3 λp w'=>Ci 183 [ab x,ar (aa p) 1 1] w' λn w'=>Fo (n !=0) (R (Z (aw #[I 0,I n])) w') (∃a,x=aa a/\Lq w' (a.add 1) λp n c=>(0<=x1/\x1<(↑n:Int))/\∃a,p=aa a/\Lp w' (add a (aG x1*1)) λp=>Ct 303 [ab p] w' λn b w'=>R (Z (aw #[I n,I b])) w')):=uj_ {N:=24,keep:=kp 0 [[0,1],[0,1,6],[0,1,6,12],[4,5],[4,5]]} func214 (by kernel_rfl)
theorem aji {x x1 x2 w R}:Uj (Calls prog 240 #[ab x,I x1,I x2] w R) (aJ w [I x1] 3 λp w'=>Ci 183 [ab x,ar (aa p) 1 1] w' λn w'=>Fo (n !=0) (R (Z (aw #[I 0,I n])) w') (Fz (decide (x2<0)) (Fo (decide (x2>1152921504606846976)) (R (Z (aw #[I 0,I 2])) w') (∃a,x=aa a/\Lp w' (a.add 0) λp=>Ct 149 [ab p] w' λn b w'=>Fo (b !=0) (R (Z (aw #[I 0,I b])) w') (∃a,x=aa a/\∃r,w'.cell? (a.add 2)=aa (map r)/\∃d,aZ prog (ic 78 (map r) (I n) (I x1)) w'=a7 () d/\∃a,x=aa a/\∃p f c,d.cell? (a.add 1)=aa (ar p f c)/\(0<=x1/\x1<(↑f:Int))/\∃a,p=aa a/\∃p,d.cell? (add a (aG x1*1))=aa (ab p)/\Call prog 322 [ab p,I n,I x2] d λe w'=>∃g,e=Z (I g)/\R (Z (aw #[I n,I g])) w'))) (R (Z (aw #[I 0,I 2])) w'))):=uj_ {N:=52,keep:=kp 0 [[0,1,2],[0,1,2,8],[0,1,2,8,16],[6,7],[0,1,2,23],[6,7],[0,1,2,9,10],[0,1,2,9,10,33],[6,7],[0,1,2,9],[6,7]]} func240 (by kernel_rfl)
theorem ajm {x x1 w R}:Uj (Calls prog 244 #[ab x,I x1] w R) (Call prog 105 [ab x,I x1] w λe w'=>∃n b,e=Z (aw #[I n,.bool b])/\Fo x.isNone (R (Z (I 1)) w') (Fo (!b) (R (Z (I 4)) w') (∃a,x=aa a/\∃r,w'.cell? (a.add 2)=aa (map r)/\∃d,aZ prog (iJ #[78,3] 0 #[map r,I x1]) w'=a7 (aw #[]) d/\∃a,x=aa a/\∃p,d.cell? (a.add 0)=aa (ab p)/\Call prog 305 [ab p,I x1] d λe w'=>∃g,e=Z (I g)/\∃a,x=aa a/\Lq w' (a.add 1) λp f c=>(0<=n/\n<(↑f:Int))/\∃a,p=aa a/\Lp w' (add a (aG n*1)) λp=>Ci 324 [ab p,I x1] w' λn w'=>R (Z (I n)) w'))):=uj_ {N:=39,keep:=kp 0 [[0,1],[0,1,5,6],[0,1,5,6,13],[4],[0,1,5,16],[4],[0,1,5],[0,1,5],[4]],bk:=[(0,[0,1,5])]} func244 (by kernel_rfl)
theorem akf {x x1 w R}:Uj (Calls prog 306 #[ab x,I x1] w R) (aJ w [I x1] 3 λp w'=>Ci 183 [ab x,ar (aa p) 1 1] w' λn w'=>Fo (n !=0) (R (Z (aw #[I 0,I n])) w') (∃a,x=aa a/\Lq w' (a.add 1) λp n c=>(0<=x1/\x1<(↑n:Int))/\∃a,p=aa a/\Lp w' (add a (aG x1*1)) λp=>Cq 293 [ab p] w' λp n c w'=>Fo ((↑n:Int)==0) (R (Z (aw #[I 0,I 12])) w') (Sm w' λb=>((0:Int)<=0/\0<(↑n:Int))/\∃a,p=aa a/\∃d,b.cell? (a.add 0)=aa (I d)/\((0:Int)<=0/\0<(↑n:Int))/\∃f,p=aa f/\∃n,b.cell? (f.add 0)=aa (I n)/\Call prog 244 [ab x,I n] b λe w'=>∃n,e=Z (I n)/\w'.cell? (a.add 0)=aa (I d)/\R (Z (aw #[I d,I n])) w'))):=uj_ {N:=34,keep:=kp 0 [[0,1],[0,1,6],[0,1,6,13],[4,5],[0,7],[0,7,25],[4,5],[4,5]],bX:=[(7,(.range 10))]} func306 (by kernel_rfl)
theorem akW {x x1 x2 w R}:Uj (Calls prog 357 #[ab x,I x1,I x2] w R) (aJ w [I x1,I x2] 3 λp w'=>Ci 183 [ab x,ar (aa p) 2 2] w' λn w'=>Fo (n !=0) (R (Z (aw #[I 0,I n])) w') (Cq 89 [ab x,I x1] w' λp n c w'=>Fo (x1==x2) (R (Z (aw #[I 0,I 2])) w') (Fo ((↑n:Int)==0) (R (Z (aw #[I 0,I 12])) w') (((0:Int)<=0/\0<(↑n:Int))/\∃a,p=aa a/\Li w' (a.add 0) λn=>Call prog 31 [ab x,I n] w' λe w'=>∃f b,e=Z (aw #[I f,.bool b])/\∃a,x=aa a/\Lq w' (a.add 1) λp g c=>(0<=x1/\x1<(↑g:Int))/\∃a,p=aa a/\Lp w' (add a (aG x1*1)) λp=>Ci 324 [ab p,I n] w' λj w'=>∃a,x=aa a/\∃r,w'.cell? (a.add 2)=aa (map r)/\∃d,aZ prog (ic 78 (map r) (I n) (I x2)) w'=a7 () d/\∃a,x=aa a/\∃p h c,d.cell? (a.add 1)=aa (ar p h c)/\(0<=x2/\x2<(↑h:Int))/\∃a,p=aa a/\∃p,d.cell? (add a (aG x2*1))=aa (ab p)/\Call prog 322 [ab p,I n,I f] d λe w'=>∃i,e=Z (I i)/\R (Z (aw #[I n,I i])) w')))):=uj_ {N:=67,keep:=kp 0 [[0,1,2],[0,1,2,8],[0,1,2,8,19],[6,7],[0,1,2,9],[0,1,2,9,24],[6,7],[0,1,2,9,28],[6,7],[0,1,2,10],[0,1,2,10,11],[0,2,10,11],[0,2,10,11],[6,7]],bk:=[(0,[0,1,2,9])]} func357 (by kernel_rfl)
def sS:Mt:={N:=25,keep:=kp 0 [[0,2],[0,2,4],[0],[0,2],[0,2,8],[0,2],[0,2],[0,2,14],[0,2],[0,2],[2]],cE:=[(4,[0,2]),(7,[0,2])]}
def Nr:=a8 f371
def C9:=Nr.sr.sr
def Da:=Nr.sr.sr.sr
def DC (x x1:Int):Env:=[(0,SV.v (int .u64 x)),vI 2 x1]
def DD (x x1:Int):Env:=[(0,SV.v (int .u64 x)),vI 2 x1]
def Ea (R:RT):=Rt f371 R
def Eb (R:RT):=Rt f371 R
theorem ak8 {x w R}:Uj (Calls prog 371 #[int .u64 x] w R) (Fo (decide (x>=4294967296)) ((0:Int)<=32/\aU prog sS C9 (DC (aS .u64 x 32) 32) w (Ea R)) (aU prog sS C9 (DC x 0) w (Ea R))):=uj_ sS func371 (by kernel_rfl)
theorem afN (x x1 w R):den prog sS C9 (DC x x1) w (Ea R)=
(Fo (decide (x>=65536)) ((0:Int)<=16/\aU prog sS Da (DD (aS .u64 x 16) (wrap i64 (x1+16))) w (Eb R)) (aU prog sS Da (DD x x1) w (Eb R))):=by kernel_rfl
theorem afO (x x1 w R):den prog sS Da (DD x x1) w (Eb R)=
(Fo (decide (x>=256)) ((0:Int)<=8/\(0<=wrap cz (aS .u64 x 8)/\wrap cz (aS .u64 x 8)<(↑256:Int))/\∃c,(∃u,(ByteArray.mk #[0,1,2,2,3,3,3,3,4,4,4,4,4,4,4,4,5,5,5,5,5,5,5,5,5,5,5,5,5,5,5,5,6,6,6,6,6,6,6,6,6,6,6,6,6,6,6,6,6,6,6,6,6,6,6,6,6,6,6,6,6,6,6,6,7,7,7,7,7,7,7,7,7,7,7,7,7,7,7,7,7,7,7,7,7,7,7,7,7,7,7,7,7,7,7,7,7,7,7,7,7,7,7,7,7,7,7,7,7,7,7,7,7,7,7,7,7,7,7,7,7,7,7,7,7,7,7,7,8,8,8,8,8,8,8,8,8,8,8,8,8,8,8,8,8,8,8,8,8,8,8,8,8,8,8,8,8,8,8,8,8,8,8,8,8,8,8,8,8,8,8,8,8,8,8,8,8,8,8,8,8,8,8,8,8,8,8,8,8,8,8,8,8,8,8,8,8,8,8,8,8,8,8,8,8,8,8,8,8,8,8,8,8,8,8,8,8,8,8,8,8,8,8,8,8,8,8,8,8,8,8,8,8,8,8,8,8,8,8,8,8,8,8,8,8,8,8,8,8,8,8,8,8,8,8,8])[aG (wrap cz (aS .u64 x 8))]?=aa u/\(↑(UInt8.toNat u):Int)=c)/\R (Z (I (wrap i64 (wrap i64 (x1+8)+wrap i64 c)))) w) ((0<=wrap cz x/\wrap cz x<(↑256:Int))/\∃c,(∃u,(ByteArray.mk #[0,1,2,2,3,3,3,3,4,4,4,4,4,4,4,4,5,5,5,5,5,5,5,5,5,5,5,5,5,5,5,5,6,6,6,6,6,6,6,6,6,6,6,6,6,6,6,6,6,6,6,6,6,6,6,6,6,6,6,6,6,6,6,6,7,7,7,7,7,7,7,7,7,7,7,7,7,7,7,7,7,7,7,7,7,7,7,7,7,7,7,7,7,7,7,7,7,7,7,7,7,7,7,7,7,7,7,7,7,7,7,7,7,7,7,7,7,7,7,7,7,7,7,7,7,7,7,7,8,8,8,8,8,8,8,8,8,8,8,8,8,8,8,8,8,8,8,8,8,8,8,8,8,8,8,8,8,8,8,8,8,8,8,8,8,8,8,8,8,8,8,8,8,8,8,8,8,8,8,8,8,8,8,8,8,8,8,8,8,8,8,8,8,8,8,8,8,8,8,8,8,8,8,8,8,8,8,8,8,8,8,8,8,8,8,8,8,8,8,8,8,8,8,8,8,8,8,8,8,8,8,8,8,8,8,8,8,8,8,8,8,8,8,8,8,8,8,8,8,8,8,8,8,8,8,8])[aG (wrap cz x)]?=aa u/\(↑(UInt8.toNat u):Int)=c)/\R (Z (I (wrap i64 (x1+wrap i64 c)))) w)):=by kernel_rfl
end
end
end Go.Dav
