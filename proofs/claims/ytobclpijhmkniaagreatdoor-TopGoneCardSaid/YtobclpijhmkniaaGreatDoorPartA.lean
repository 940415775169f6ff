/- What functions of the program come to, part 1; the texts are made small to keep within a claim. -/
import Derived.Tactics
import Derived.Orders
import Derived.KernelRfl
import Derived.Laws.Cells
import Derived.Laws.CopyRow
import Derived.Laws.Sem
import Derived.Laws.World
import Derived.Laws.NewBlocks
import Derived.Laws.Small
import Derived.Laws.Pointers
import Derived.Scope
import Derived.Laws.Cover3
import Derived.Test.YtobclpijhmkniaaGreatDoorProg
set_option linter.unusedVariables false
set_option linter.unusedSimpArgs false
set_option linter.unusedSectionVars false
namespace Go.Dav
open Go.Proofs
open _root_.Option renaming none→ag,some→aa,isSome_iff_exists→kJ,getD_some→gA,map_some→fX
open _root_.Nat renaming beq→dz,eq_of_beq_eq_true→iG,beq_refl→uy,ble→mv,le_of_ble_eq_true→dH,add_zero→n5,zero_add→fv,testBit_and→vY,le_refl→b7
open _root_.Array renaming getD_eq_getD_getElem?→yJ,ext'→oo,getElem?_eq_getElem→BD,replicate→ph,getElem?_append_left→wc
open _root_.Bool renaming true→ah,false→ae,and_eq_true→br,false_eq_true→gz,or_eq_true→ik,false_or→n9
open Sem renaming run_bind→o8,run→aZ
open Result renaming andThen_ok→o9,ok→a7
open _root_.BitVec renaming ofInt→gw
open Builtin renaming len_→jY,append_→bM,copy_→nX,delete_→gW,max_→wb,min_→po
open Instr renaming lookup→dg,sureAddr→ux,makeSlice→lA,mapUpdate→gy
open _root_.List renaming length_map→bO,map_cons→pk,mem_cons→eN,length_cons→im,foldl_cons→nY,range→b8,all_eq_true→gx,getD_eq_getElem?_getD→aQ,getElem?_cons_zero→vX,mem_append→dS,mem_filter→gC,mem_range→dh,any_eq_true→mn,mem_singleton→fV,eq_nil_of_length_eq_zero→mq,getElem?_eq_some_iff→dI,mem_cons_self→ij,nodup_cons→ni,filter_congr→nZ,filter_cons→vZ,length→iX,nodup_range→qF,take→qG,drop→qH,toArray→dB
open Op renaming operands→ch
open Code renaming loop→bj
open _root_.Prod renaming fst→eX
open BinOp renaming and→aM,andNot→tc,or→rR
open _root_.Int renaming toNat→aG,tdiv→iH,tmod→eO
open IntKind renaming u8→cu,max→oa
open Fn renaming func→aS
theorem af {c:Prop} {h:Decidable c} (a:¬c) {α:Sort _} {t e:α}:ite c t e=e:=if_neg a
theorem ar {c:Prop} {h:Decidable c} (a:c) {α:Sort _} {t e:α}:ite c t e=t:=if_pos a
theorem aO {p:Prop} [h:Decidable p] (k:decide p=true):p:=of_decide_eq_true k
theorem aV {p:Prop} [h:Decidable p] (k:decide p=false):¬p:=of_decide_eq_false k
inductive SV where
 | un
 | v (x:Value)
 | b (x:Bool)
def SV.val?:SV->Option Value
 | .un=>ag
 | .v x=>aa x
 | .b x=>aa (.bool x)
def SV.val:SV->Value
 | .un=>undef
 | .v x=>x
 | .b x=>.bool x
abbrev Env:=List (Nat×SV)
def Env.get:Env->Nat->SV
 | [],_=>.un
 | (k,x)::E,t=>match dz k t with
  | true=>x
  | false=>Env.get E t
def Env.put:Env->Nat->SV->Env
 | [],t,x=>[(t,x)]
 | (k,y)::E,t,x=>match dz k t with
  | true=>(k,x)::E
  | false=>(k,y)::Env.put E t x
def Env.keep (E:Env):List Nat->Env
 | []=>[]
 | k::a=>(k,E.get k)::Env.keep E a
theorem Env.CR (E:Env) (t:Nat) (x:SV) (s:Nat):(E.put t x).get s=if s=t then x else E.get s:=by
 induction E with
 | nil=>
  simp only[Env.put,Env.get]
  cases h:dz t s with
  | true=>simp[(iG h).symm]
  | false=>rw[af (λe=>by rw[e,uy]at h;cases h)]
 | cons p E c=>
  obtain⟨k,y⟩:=p;simp only[Env.put]
  cases h:dz k t with
  | true=>
   have b:=iG h;subst b;simp only[Env.get]
   cases a:dz k s with
   | true=>simp[(iG a).symm]
   | false=>rw[af (λe=>by rw[e,uy]at a;cases a)]
  | false=>
   simp only[Env.get]
   cases a:dz k s with
   | true=>
    have b:=iG a;subst b
    rw[af (λe=>by rw[e,uy]at h;cases h)]
   | false=>simpa using c
theorem Env.WK (E:Env) (ks:List Nat) (t:Nat) (x:Value) (h:((E.keep ks).get t).val?=aa x):(E.get t).val?=aa x:=by
 induction ks with
 | nil=>simp[Env.keep,Env.get,SV.val?]at h
 | cons k ks b=>
  simp only[Env.keep,Env.get]at h
  cases a:dz k t with
  | true=>rw[a]at h;rw[<-iG a];exact h
  | false=>rw[a]at h;exact b h
def bT (E:Env):Operand->SV
 | .tmp t=>E.get t
 | .const (.bool b)=>.b b
 | .const v=>.v v
 | .global g=>.v (.pointer (aa ⟨g,0,ag⟩))
 | .func f=>.v (.func (.func f) #[] #[])
structure bN (N:Nat) (E:Env) (a:Act):Prop where
 size:a.tmps.size=N
 jb:a.defers=[]
 l7:∀t x,(E.get t).val?=aa x->a.tmps[t]?=aa x
def Reads (E:Env) (o:Oper) (a:Act):Prop:=∀x∈o.op.operands,∀v,(bT E x).val?=aa v->a.eval x=v
theorem bN.ev {N:Nat} {E:Env} {a:Act} (h:bN N E a) (x:Operand) (v:Value) (b:(bT E x).val?=aa v):a.eval x=v:=by
 cases x with
 | tmp t=>
  have:=h.l7 t v b
  simp[Act.eval,yJ,this]
 | const c=>cases c<;>simp_all [bT,SV.val?,Act.eval]
 | global g=>simpa [bT,SV.val?,Act.eval]using b
 | func f=>simpa [bT,SV.val?,Act.eval]using b
theorem bN.reads {N:Nat} {E:Env} {a:Act} (h:bN N E a) (o:Oper):Reads E o a:=λx _ v b=>h.ev x v b
theorem bN.keep {N:Nat} {E:Env} {a:Act} (h:bN N E a) (ks:List Nat):bN N (E.keep ks) a:=
 ⟨h.size,h.jb,λt x b=>h.l7 t x (Env.WK E ks t x b)⟩
theorem bN.put {N:Nat} {E:Env} {a:Act} (h:bN N E a) (d:Nat) (hd:d<N) (s:SV):bN N (E.put d s) (a.put (aa d) s.val):=by
 refine⟨by simpa [Act.put]using h.size,h.jb,λt x b=>?_⟩;rw[Env.CR]at b;by_cases c:t=d
 ·subst c;rw[ar rfl]at b;have f:s.val=x:=by cases s<;>simp_all [SV.val?,SV.val]
  simp only[Act.put,Array.getElem?_setIfInBounds,h.size];simp[hd,f]
 ·rw[af c]at b;simp only[Act.put];rw[Array.getElem?_setIfInBounds_ne (λe=>c e.symm)];exact h.l7 t x b
theorem bN.RA {N:Nat} {E:Env} {a:Act} (h:bN N E a) (t:Nat) (b:Bool) (d:(E.get t).val?=aa (.bool b)):bN N (E.put t (.b b)) a:=by
 refine⟨h.size,h.jb,λs x c=>?_⟩;rw[Env.CR]at c;by_cases hs:s=t
 ·subst hs;rw[ar rfl]at c;simp only[SV.val?,Option.some.injEq]at c;subst c;exact h.l7 s _ d
 ·rw[af hs]at c;exact h.l7 s x c
def da (s:SV) (F:Value->Prop):Prop:=match s with
 | .un=>False
 | .v x=>F x
 | .b x=>F (.bool x)
def sG (x:Value) (F:Addr->Prop):Prop:=match x with
 | .pointer (aa a)=>F a
 | _=>False
def vk (x:Value) (F:IntKind->Int->Prop):Prop:=match x with
 | .int k n=>F k n
 | _=>False
theorem dj {s:SV} {F:Value->Prop} (h:da s F):∃v,s.val?=aa v/\s.val=v/\F v:=by
 cases s with
 | un=>exact h.elim
 | v x=>exact⟨x,rfl,rfl,h⟩
 | b x=>exact⟨_,rfl,rfl,h⟩
inductive Ty where
 | int (k:IntKind)
 | bool|ptr|sl|map|str
 | agg (l:List Ty)
 | R9 (l:List Ty)
 | any
def yn:Value->Ty
 | .int k _=>.int k
 | .bool _=>.bool
 | .pointer _=>.ptr
 | .slice _ _ _=>.sl
 | .map _=>.map
 | .string _=>.str
 | _=>.any
def Sa:Value->Ty
 | .agg cs=>.agg (cs.toList.map yn)
 | v=>yn v
def aeF:Value->Ty
 | .tuple vs=>.R9 (vs.toList.map Sa)
 | v=>Sa v
def uU:Ty->(Value->Prop)->Prop
 | .int k,F=>∃n:Int,F (.int k n)
 | .bool,F=>∃b:Bool,F (.bool b)
 | .ptr,F=>∃p:Option Addr,F (.pointer p)
 | .sl,F=>∃(p:Option Addr) (n c:Nat),F (.slice p n c)
 | .map,F=>∃r:Option Nat,F (.map r)
 | .str,F=>∃s:ByteArray,F (.string s)
 | _,F=>∃v:Value,F v
def CJ:List Ty->(List Value->Prop)->Prop
 | [],F=>F []
 | t::a,F=>uU t λv=>CJ a λvs=>F (v::vs)
def CH:Ty->(Value->Prop)->Prop
 | .agg a,F=>match mv a.length 15 with
  | true=>CJ a λvs=>F (.agg vs.toArray)
  | false=>∃cs:List Value,cs.length=a.length/\F (.agg cs.toArray)
 | t,F=>uU t F
def G9:List Ty->(List Value->Prop)->Prop
 | [],F=>F []
 | t::a,F=>CH t λv=>G9 a λvs=>F (v::vs)
def wY:Ty->(Value->Prop)->Prop
 | .R9 a,F=>G9 a λvs=>F (.tuple vs.toArray)
 | t,F=>CH t F
theorem zy {t:Ty} {F:Value->Prop} (h:uU t F):∃v,F v:=by
 cases t<;>simp only[uU]at h
 case sl=>obtain⟨p,n,c,h⟩:=h;exact⟨_,h⟩
 all_goals (obtain⟨n,h⟩:=h;exact⟨_,h⟩)
theorem Ha:∀{a:List Ty} {F:List Value->Prop},CJ a F->∃vs,vs.length=a.length/\F vs
 | [],_,h=>⟨[],rfl,h⟩
 | _::_,_,h=>by
  obtain⟨v,h⟩:=zy h;obtain⟨vs,b,h⟩:=Ha h;exact⟨v::vs,by simp[b],h⟩
theorem Nr {t:Ty} {F:Value->Prop} (h:CH t F):∃v,F v:=by
 unfold CH at h;split at h
 ·split at h
  ·obtain⟨vs,_,h⟩:=Ha h;exact⟨_,h⟩
  ·obtain⟨cs,_,h⟩:=h;exact⟨_,h⟩
 ·exact zy h
theorem Ns:∀{a:List Ty} {F:List Value->Prop},G9 a F->∃vs,F vs
 | [],_,h=>⟨[],h⟩
 | _::_,_,h=>by
  obtain⟨v,h⟩:=Nr h;obtain⟨vs,h⟩:=Ns h;exact⟨v::vs,h⟩
theorem sf {t:Ty} {F:Value->Prop} (h:wY t F):∃v,F v:=by
 unfold wY at h;split at h
 ·obtain⟨vs,h⟩:=Ns h;exact⟨_,h⟩
 ·exact Nr h
def zv (P:Program) (t:TypeId):Value:=((P.info? t).bind (·.zero)).getD undef
def zc (P:Program) (t:TypeId):List Value:=(zv P t).cells.toList
def sW (P:Program) (t:TypeId):Ty:=aeF (zv P t)
def bX (P:Program) (t:TypeId):Nat:=P.cellsOf t
def jT (P:Program) (t:TypeId):Bool:=match P.underlying t with
 | some (.struct _)|some (.array _ _)=>ah
 | _=>ae
def dJ (P:Program) (t:TypeId):Bool:=(P.info? t).isSome&&(P.underlying t).isSome
def vj (P:Program) (t:TypeId):Bool:=((P.info? t).bind (·.zero)).isSome
section runs
variable {P:Program} {w:World}
theorem fy {t:TypeId} {d:TypeDesc} (h:P.underlying t=aa d):(underlying t).run P w=.ok d w:=by
 simp[underlying,h]
theorem mL {t:TypeId} (h:dJ P t=ah):(sizeOf t).run P w=.ok (bX P t) w:=by
 simp only[dJ,br]at h;obtain⟨i,hi⟩:=kJ.1 h.1;simp[sizeOf,typeInfo,hi,bX,Program.cellsOf]
theorem xV {t:TypeId} (h:dJ P t=ah):(isAgg t).run P w=.ok (jT P t) w:=by
 simp only[dJ,br]at h;obtain⟨d,hd⟩:=kJ.1 h.2;simp only[isAgg,jT,hd,o8,fy hd,o9];cases d<;>rfl
theorem vp {t:TypeId} (h:vj P t=ah):(zeroValue t).run P w=.ok (zv P t) w:=by
 simp only[vj]at h;obtain⟨z,b⟩:=kJ.1 h;obtain⟨i,hi,a⟩:=Option.bind_eq_some_iff.1 b;simp[zeroValue,typeInfo,hi,a,zv]
end runs
def zZ (s:SV) (K:SV->Prop):Prop:=match s with
 | .un=>False
 | .v x=>K (.v x)
 | .b x=>K (.b x)
def Ie (c x y:SV) (K:SV->Prop):Prop:=match c with
 | .b ah=>zZ x K
 | .b ae=>zZ y K
 | .v (.bool c)=>da x λx=>da y λy=>K (.v (match c with|true=>x|false=>y))
 | _=>False
def QD (x:Value) (K:SV->Prop):Prop:=match x with
 | .pointer p=>∃a,p=aa a/\K (.v (.pointer (aa a)))
 | .func (.func f) a b=>K (.v (.func (.func f) a b))
 | _=>False
def aH (op:BinOp) (k:IntKind) (a b:Int):Int:=
 let x:=gw k.bits a
 let y:=gw k.bits b
 match op with
 | .and=>k.wrap (x&&& y).toNat
 | .or=>k.wrap (x||| y).toNat
 | .xor=>k.wrap (x ^^^ y).toNat
 | _=>k.wrap (x&&& ~~~y).toNat
def fg (k:IntKind) (a b:Int):Int:=k.wrap (a*2 ^ (min b.toNat k.bits))
def aU (k:IntKind) (a b:Int):Int:=a.fdiv (2 ^ (min b.toNat k.bits))
def HC (op:BinOp) (k c:IntKind) (a b:Int) (K:SV->Prop):Prop:=
 match op with
 | .shl=>0<=b/\K (.v (.int k (fg k a b)))
 | .shr=>0<=b/\K (.v (.int k (aU k a b)))
 | op=>match decide (k=c)with
  | false=>False
  | true=>match op with
   | .add=>K (.v (.int k (k.wrap (a+b))))
   | .sub=>K (.v (.int k (k.wrap (a-b))))
   | .mul=>K (.v (.int k (k.wrap (a*b))))
   | .quo=>b≠0/\K (.v (.int k (k.wrap (a.tdiv b))))
   | .rem=>b≠0/\K (.v (.int k (a.tmod b)))
   | .and=>K (.v (.int k (aH .and k a b)))
   | .or=>K (.v (.int k (aH .or k a b)))
   | .xor=>K (.v (.int k (aH .xor k a b)))
   | .andNot=>K (.v (.int k (aH .andNot k a b)))
   | .eql=>K (.v (.bool (a==b)))
   | .neq=>K (.v (.bool (a !=b)))
   | .lss=>K (.v (.bool (decide (a<b))))
   | .leq=>K (.v (.bool (decide (a<=b))))
   | .gtr=>K (.v (.bool (decide (a>b))))
   | .geq=>K (.v (.bool (decide (a>=b))))
   | _=>False
def uT (op:BinOp) (b:Bool) (K:SV->Prop):Prop:=match op with
 | .eql=>K (.v (.bool b))
 | .neq=>K (.v (.bool (!b)))
 | _=>False
def Fg (P:Program) (w:World) (op:BinOp) (t:TypeId) (x y:Value) (K:SV->Prop):Prop:=
 match x with
 | .int k a=>match y with
  | .int c b=>HC op k c a b K
  | _=>False
 | .bool a=>match y with
  | .bool b=>match P.underlying t with
   | some .bool=>uT op (a==b) K
   | _=>False
  | _=>False
 | .pointer p=>match y with
  | .pointer ag=>match P.underlying t with
   | some (.pointer _)=>uT op p.isNone K
   | _=>False
  | _=>False
 | .slice p _ _=>match y with
  | .slice ag 0 0=>match P.underlying t with
   | some (.slice _)=>uT op p.isNone K
   | _=>False
  | _=>False
 | .map r=>match y with
  | .map ag=>match P.underlying t with
   | some (.map _ _)=>uT op r.isNone K
   | _=>False
  | _=>False
 | .agg xs=>match y with
  | .agg d=>match jT P t with
   | true=>∃b:Bool,(Op.equal t (.agg xs) (.agg d)).run P w=.ok b w/\P.eqGuardType P.depth t=ae/\uT op b K
   | false=>False
  | _=>False
 | _=>False
def Si (op:UnOp) (s:SV) (K:SV->Prop):Prop:=match op with
 | .not=>match s with
  | .b x=>K (.b (!x))
  | .v (.bool x)=>K (.v (.bool (!x)))
  | _=>False
 | .neg=>da s λv=>vk v λk n=>K (.v (.int k (k.wrap (0-n))))
 | .xor=>da s λv=>vk v λk n=>K (.v (.int k (aH .xor k (match k.signed with|true=>-1|false=>k.max) n)))
 | _=>False
def MO (P:Program) (src dst:TypeId) (x:Value) (K:SV->Prop):Prop:=
 match P.underlying src,P.underlying dst with
 | some _,aa (.int k)=>vk x λ_ n=>K (.v (.int k (k.wrap n)))
 | _,_=>False
def HM (w:World) (ad:Addr):Nat->List Ty->(List Value->Prop)->Prop
 | _,[],F=>F []
 | i,t::a,F=>uU t λv=>w.cell? (ad.add i)=aa v/\HM w ad (i+1) a λvs=>F (v::vs)
def JA (w:World) (ad:Addr) (cs:List Value):Prop:=∀j v,cs[j]?=aa v->w.cell? (ad.add j)=aa v
def Di (P:Program) (w:World) (t:TypeId) (ad:Addr) (F:Value->Prop):Prop:=
 match dJ P t with
 | false=>False
 | true=>match jT P t with
  | false=>uU (yn (zv P t)) λv=>w.cell? ad=aa v/\F v
  | true=>match dz (zc P t).length (bX P t)with
   | false=>False
   | true=>match mv (bX P t) 15 with
    | true=>HM w ad 0 ((zc P t).map yn) λvs=>F (.agg vs.toArray)
    | false=>∃cs:List Value,cs.length=bX P t/\JA w ad cs/\F (.agg cs.toArray)
def Hc (P:Program) (s:TypeId) (ad:Addr) (f:Nat) (K:SV->Prop):Prop:=
 match P.underlying s with
 | some (.struct a)=>match a.toList[f]? with
  | some fd=>match dJ P fd.type with
   | true=>match dz (bX P fd.type) 0 with
    | false=>K (.v (.pointer (aa (ad.add fd.offset))))
    | true=>False
   | false=>False
  | none=>False
 | _=>False
def Ib (P:Program) (t:TypeId) (cs:List Value) (off:Nat) (F:Value->Prop):Prop:=
 match dJ P t with
 | false=>False
 | true=>match jT P t with
  | true=>F (.agg ((cs.drop off).take (bX P t)).toArray)
  | false=>match cs[off]? with
   | some v=>F v
   | none=>False
def Hh (P:Program) (s:TypeId) (x:Value) (f:Nat) (K:SV->Prop):Prop:=
 match P.underlying s with
 | some (.struct a)=>match a.toList[f]? with
  | some fd=>match x with
   | .agg cs=>Ib P fd.type cs.toList fd.offset λv=>K (.v v)
   | _=>False
  | none=>False
 | _=>False
def Hy (P:Program) (t:TypeId) (x ix:Value) (K:SV->Prop):Prop:=
 vk ix λ_ i=>match P.underlying t with
 | some (.slice e)=>match dJ P e with
  | false=>False
  | true=>match x with
   | .slice base len _=>(0<=i/\i<(len:Int))/\∃a,base=aa a/\K (.v (.pointer (aa (a.add (i.toNat*bX P e)))))
   | _=>False
 | some (.array len e)=>match dJ P e with
  | false=>False
  | true=>sG x λa=>(0<=i/\i<(len:Int))/\K (.v (.pointer (aa (a.add (i.toNat*bX P e)))))
 | _=>False
def HD (P:Program) (t:TypeId) (x ix:Value) (K:SV->Prop):Prop:=
 vk ix λ_ i=>match P.underlying t with
 | some (.array len e)=>match dJ P e with
  | false=>False
  | true=>match x with
   | .agg cs=>(0<=i/\i<(len:Int))/\match jT P e with
    | false=>uU (yn (zv P e)) λv=>cs.toList[i.toNat*bX P e]?=aa v/\K (.v v)
    | true=>CJ ((zc P e).map yn) λvs=>(cs.toList.drop (i.toNat*bX P e)).take (bX P e)=vs/\K (.v (.agg vs.toArray))
   | _=>False
 | some .string=>match x with
  | .string s=>(0<=i/\i<(s.size:Int))/\∃c:Int,(∃u:UInt8,s[i.toNat]?=aa u/\(u.toNat:Int)=c)/\K (.v (.int .u8 c))
  | _=>False
 | _=>False
def Hb (x:Value) (i:Nat) (K:SV->Prop):Prop:=match x with
 | .tuple vs=>match vs.toList[i]? with
  | some v=>K (.v v)
  | none=>False
 | _=>False
def HS (P:Program) (w:World) (t:TypeId) (x:Value) (K:SV->Prop):Prop:=
 match P.underlying t with
 | some (.slice _)=>match x with
  | .slice _ n _=>K (.v (.int .i64 (n:Int)))
  | _=>False
 | some .string=>match x with
  | .string s=>K (.v (.int .i64 (s.size:Int)))
  | _=>False
 | some (.array n _)=>K (.v (.int .i64 (n:Int)))
 | some (.map _ _)=>match x with
  | .map r=>∃n:Nat,(∀ty,(jY #[t] ty #[.map r]).run P w=.ok (.int .i64 (n:Int)) w)/\K (.v (.int .i64 (n:Int)))
  | _=>False
 | _=>False
def py (E:Env):List Operand->(List Value->Prop)->Prop
 | [],F=>F []
 | x::xs,F=>da (bT E x) λv=>py E xs λvs=>F (v::vs)
def DJ (E:Env):List (Nat×Operand)->(List (Nat×Value)->Prop)->Prop
 | [],F=>F []
 | (i,x)::xs,F=>da (bT E x) λv=>DJ E xs λvs=>F ((i,v)::vs)
def ba (cells:List Value) (off:Nat) (vs:List Value):List Value:=cells.take off++vs++cells.drop (off+vs.length)
def uV (place:Nat->Option (Nat×Nat)) (cells:List Value):List (Nat×Value)->Option (List Value)
 | []=>aa cells
 | (i,v)::rest=>match place i with
  | none=>ag
  | some (off,size)=>match dz v.cells.toList.length size&&mv (off+size) cells.length with
   | true=>uV place (ba cells off v.cells.toList) rest
   | false=>ag
def Ff (P:Program) (t:TypeId) (a:List (Nat×Value)) (K:SV->Prop):Prop:=
 match vj P t with
 | false=>False
 | true=>match P.underlying t with
  | some (.struct b)=>match b.toList.all λf=>dJ P f.type with
   | false=>False
   | true=>match uV (λi=>(b.toList[i]?).map λf=>(f.offset,bX P f.type)) (zc P t) a with
    | some cs=>K (.v (.agg cs.toArray))
    | none=>False
  | some (.array _ e)=>match dJ P e with
   | false=>False
   | true=>match uV (λi=>aa (i*bX P e,bX P e)) (zc P t) a with
    | some cs=>K (.v (.agg cs.toArray))
    | none=>False
  | _=>False
def mz (E:Env) (x:Option Operand) (a:Nat) (top:Nat) (F:Nat->Prop):Prop:=match x with
 | none=>F a
 | some o=>da (bT E o) λv=>vk v λ_ i=>(0<=i/\i<=(top:Int))/\F i.toNat
def fJ (a:Option Addr) (m l sz:Nat):Option Addr:=if m=l then a else a.map (·.add (l*sz))
def IP (P:Program) (E:Env) (t:TypeId) (x:Value) (c hi b:Option Operand) (K:SV->Prop):Prop:=
 match P.underlying t with
 | some (.slice e)=>match dJ P e with
  | false=>False
  | true=>match x with
   | .slice a len cap=>match b,hi with
    | some _,ag=>False
    | _,_=>mz E b cap cap λm=>mz E hi len m λh=>mz E c 0 h λl=>K (.v (.slice (fJ a m l (bX P e)) (h-l) (m-l)))
   | _=>False
 | some (.array n e)=>match dJ P e with
  | false=>False
  | true=>sG x λa=>match b,hi with
    | some _,ag=>False
    | _,_=>mz E b n n λm=>mz E hi n m λh=>mz E c 0 h λl=>K (.v (.slice (fJ (aa a) m l (bX P e)) (h-l) (m-l)))
 | _=>False
def DG (P:Program) (o:Oper) (E:Env) (w:World) (K:SV->Prop):Prop:=
 match o.op with
 | .move x=>zZ (bT E x) K
 | .assign x=>zZ (bT E x) K
 | .pick c x y=>Ie (bT E c) (bT E x) (bT E y) K
 | .nilCheck x=>da (bT E x) λv=>QD v K
 | .binOp op t x y _=>da (bT E x) λx=>da (bT E y) λy=>Fg P w op t x y K
 | .unOp op _ x=>Si op (bT E x) K
 | .convert s d x=>da (bT E x) λv=>MO P s d v K
 | .load t a=>da (bT E a) λv=>sG v λad=>Di P w t ad λv=>K (.v v)
 | .fieldAddr s x f=>da (bT E x) λv=>sG v λad=>Hc P s ad f K
 | .field s x f=>da (bT E x) λv=>Hh P s v f K
 | .indexAddr t x i=>da (bT E x) λx=>da (bT E i) λi=>Hy P t x i K
 | .index t x i=>da (bT E x) λx=>da (bT E i) λi=>HD P t x i K
 | .extract x i=>da (bT E x) λx=>Hb x i K
 | .build t b=>DJ E b.toList λb=>Ff P t b K
 | .slice t x e hi g=>da (bT E x) λx=>IP P E t x e hi g K
 | .makeFunc fn first cap=>py E first.toList λh=>py E cap.toList λcs=>K (.v (.func fn h.toArray cs.toArray))
 | .lookup t x i ok=>da (bT E x) λx=>da (bT E i) λi=>wY (sW P o.type) λv=>(dg t x i ok).run P w=.ok v w/\K (.v v)
 | .call c=>match c.callee with
  | .builtin .len=>match c.args.toList with
   | [x]=>match c.argTypes.toList with
    | [t]=>da (bT E x) λx=>HS P w t x K
    | _=>False
   | _=>False
  | _=>False
 | _=>False
def Quiet (P:Program) (o:Oper) (E:Env) (w:World) (s:SV):Prop:=
 ∀a,Reads E o a->(execOp a.eval o).run P w=.ok (.value s.val) w
theorem xC {x:Value} {F:IntKind->Int->Prop} (h:vk x F):∃k n,x=.int k n/\F k n:=by
 cases x<;>first|exact⟨_,_,rfl,h⟩|exact h.elim
theorem tO {x:Value} {F:Addr->Prop} (h:sG x F):∃a,x=.pointer (aa a)/\F a:=by
 cases x with
 | pointer p=>cases p with
  | some a=>exact⟨a,rfl,h⟩
  | none=>exact h.elim
 | _=>exact h.elim
theorem Dw {s:SV} {K:SV->Prop} (h:zZ s K):∃v,s.val?=aa v/\s.val=v/\K s:=by
 cases s with
 | un=>exact h.elim
 | v x=>exact⟨x,rfl,rfl,h⟩
 | b x=>exact⟨_,rfl,rfl,h⟩
theorem PK {w:World} {ad:Addr}:∀{a:List Ty} {i:Nat} {F:List Value->Prop},HM w ad i a F->
  ∃vs:List Value,vs.length=a.length/\(∀j v,vs[j]?=aa v->w.cell? (ad.add (i+j))=aa v)/\F vs
 | [],_,_,h=>⟨[],rfl,λj v d=>by simp at d,h⟩
 | t::a,i,F,h=>by
  obtain⟨v,e,h⟩:=zy h;obtain⟨vs,f,b,h⟩:=PK h;refine⟨v::vs,by simp[f],λj u c=>?_,h⟩
  cases j with
  | zero=>simp at c;subst c;exact e
  | succ j=>rw[show i+(j+1)=i+1+j by omega];exact b j u (by simpa using c)
theorem PL {P:Program} {w:World} {t:TypeId} {ad:Addr} {F:Value->Prop} (h:Di P w t ad F) :
  ∃v,(loadVar t ad).run P w=.ok v w/\F v:=by
 unfold Di at h
 cases b:dJ P t with
 | false=>rw[b]at h;exact h.elim
 | true=>
  rw[b]at h;simp only at h
  cases e:jT P t with
  | false=>
   rw[e]at h;obtain⟨v,a,c⟩:=zy h
   exact⟨v,by simp[loadVar,xV b,e,a],c⟩
  | true=>
   rw[e]at h;simp only at h
   have key:∀cs:List Value,cs.length=bX P t->(∀j v,cs[j]?=aa v->w.cell? (ad.add j)=aa v)->(loadVar t ad).run P w=.ok (.agg cs.toArray) w:=by
    intro cs d a;have:=run_loadCells_list (P:=P) w ad cs a;simp[loadVar,xV b,e,mL b,<-d,this]
   cases f:dz (zc P t).length (bX P t)with
   | false=>rw[f]at h;exact h.elim
   | true=>
    rw[f]at h;simp only at h
    cases g:mv (bX P t) 15 with
    | true=>
     rw[g]at h;obtain⟨vs,d,a,c⟩:=PK h;refine⟨_,key vs ?_ (λj v i=>by simpa using a j v i),c⟩;rw[d,bO]
     exact iG f
    | false=>
     rw[g]at h;obtain⟨cs,d,a,c⟩:=h;exact⟨_,key cs d a,c⟩
section
variable {P:Program} {w:World}
theorem Ru {t:TypeId} {cs:Array Value} {off:Nat} (a:dJ P t=ah) (b:jT P t=ah) :
  (part t cs off).run P w=.ok (.agg ((cs.toList.drop off).take (bX P t)).toArray) w:=by
 have e:cs.extract off (off+bX P t)=((cs.toList.drop off).take (bX P t)).toArray:=by
  apply oo;simp[Array.toList_extract,List.extract_eq_take_drop]
 simp[part,xV a,b,mL a,e]
theorem D3 {t:TypeId} {cs:Array Value} {off:Nat} {v:Value} (b:dJ P t=ah) (c:jT P t=ae) (d:cs.toList[off]?=aa v) :
  (part t cs off).run P w=.ok v w:=by
 have a:cs[off]?=aa v:=by simpa using d
 simp[part,xV b,c,a]
theorem aae {t:TypeId} {cs:Array Value} {off:Nat} {F:Value->Prop} (h:Ib P t cs.toList off F) :
  ∃v,(∀w,(part t cs off).run P w=.ok v w)/\F v:=by
 unfold Ib at h
 cases a:dJ P t with
 | false=>rw[a]at h;exact h.elim
 | true=>
  rw[a]at h;simp only at h
  cases b:jT P t with
  | true=>rw[b]at h;exact⟨_,λ_=>Ru a b,h⟩
  | false=>
   rw[b]at h;simp only at h
   cases c:cs.toList[off]? with
   | none=>rw[c]at h;exact h.elim
   | some v=>rw[c]at h;exact⟨v,λ_=>D3 a b c,h⟩
theorem XC {t:TypeId} {op:BinOp} {k d:IntKind} {a b:Int} {K:SV->Prop} (h:HC op k d a b K) :
  ∃v,(∀w,(binOp op t (.int k a) (.int d b)).run P w=.ok v w)/\K (.v v):=by
 unfold HC at h;split at h
 ·obtain⟨c,h⟩:=h;exact⟨_,λw=>by simp[binOp,Op.shift,fg,show ¬b<0 by omega],h⟩
 ·obtain⟨c,h⟩:=h;exact⟨_,λw=>by simp[binOp,Op.shift,aU,show ¬b<0 by omega],h⟩
 ·rename_i e h1 f;by_cases hk:k=d
  ·subst hk;simp only[decide_true]at h;split at h
   case h_4=>obtain⟨c,h⟩:=h;exact⟨_,λw=>by simp[binOp,Op.intDiv,c],h⟩
   case h_5=>obtain⟨c,h⟩:=h;exact⟨_,λw=>by simp[binOp,Op.intDiv,c],h⟩
   case h_16=>exact h.elim
   all_goals exact⟨_,λw=>by simp[binOp,Op.intArith,Op.intBits,Op.intCmp,aH],h⟩
  ·simp[hk]at h
theorem zx {op:BinOp} {b:Bool} {K:SV->Prop} (h:uT op b K):(op=.eql/\K (.v (.bool b)))∨(op=.neq/\K (.v (.bool (!b)))):=by
 unfold uT at h;split at h
 ·exact .inl ⟨rfl,h⟩
 ·exact .inr ⟨rfl,h⟩
 ·exact h.elim
theorem sM {op:BinOp} {t:TypeId} {x y:Operand} {a b:Value} (h:∀xs c,¬(a=.agg xs/\b=.agg c)) (d:a≠.nilIface) :
  (eqGuard op t x y a b).run P w=.ok () w:=by
 unfold eqGuard
 cases op<;>first
  | rfl
  | (cases a<;>first
    | rfl
    | exact absurd rfl d
    | (cases b<;>first
      | exact absurd ⟨rfl,rfl⟩ (h _ _)
      | rfl))
def yw (P:Program) (op:BinOp) (t:TypeId) (ox oy:Operand) (x y v:Value) (w:World):Prop:=
 (eqGuard op t ox oy x y).run P w=.ok () w/\(binOp op t x y).run P w=.ok v w
theorem TN {op:BinOp} {t:TypeId} {x y:Value} {ox oy:Operand} {K:SV->Prop} (h:Fg P w op t x y K) :
  ∃v,yw P op t ox oy x y v w/\(jT P t=ae->∀w',yw P op t ox oy x y v w')/\K (.v v):=by
 have both:∀{v:Value},(∀w',yw P op t ox oy x y v w')->K (.v v)->∃v,yw P op t ox oy x y v w/\(jT P t=ae->∀w',yw P op t ox oy x y v w')/\K (.v v):=
  λj m=>⟨_,j w,λ_=>j,m⟩
 unfold Fg at h
 cases x with
 | int k a=>cases y with
  | int C b=>
   obtain⟨v,s,u⟩:=XC (P:=P) (t:=t) h
   exact both (λw'=>⟨sM (by simp) (by simp),s w'⟩) u
  | _=>exact h.elim
 | bool a=>cases y with
  | bool b=>
   simp only at h;split at h
   ·rename_i hu;rcases zx h with⟨rfl,h⟩|⟨rfl,h⟩
    ·exact both (λw'=>⟨sM (by simp) (by simp),run_eql_bool w' t _ _ hu⟩) h
    ·exact both (λw'=>⟨sM (by simp) (by simp),run_neq_bool w' t _ _ hu⟩) h
   ·exact h.elim
  | _=>exact h.elim
 | pointer p=>cases y with
  | pointer q=>cases q with
   | none=>
    simp only at h;split at h
    ·rename_i e hu;have d:P.underlying t=aa (.pointer (P.pointee t)):=by simp[Program.pointee,hu]
     rcases zx h with⟨rfl,h⟩|⟨rfl,h⟩
     ·exact both (λw'=>⟨sM (by simp) (by simp),run_eql_pointer_nil w' t _ d⟩) h
     ·exact both (λw'=>⟨sM (by simp) (by simp),run_neq_pointer_nil w' t _ d⟩) h
    ·exact h.elim
   | some q=>exact h.elim
  | _=>exact h.elim
 | slice p n c=>
  simp only at h;split at h
  ·split at h
   ·rename_i e hu;rcases zx h with⟨rfl,h⟩|⟨rfl,h⟩
    ·exact both (λw'=>⟨sM (by simp) (by simp),by simp only[binOp];simp[run_equal_slice_nil w' t e _ _ _ hu]⟩) h
    ·exact both (λw'=>⟨sM (by simp) (by simp),by simp only[binOp];simp[run_equal_slice_nil w' t e _ _ _ hu]⟩) h
   ·exact h.elim
  ·exact h.elim
 | map r=>cases y with
  | map q=>cases q with
   | none=>
    simp only at h;split at h
    ·rename_i k e hu;rcases zx h with⟨rfl,h⟩|⟨rfl,h⟩
     ·exact both (λw'=>⟨sM (by simp) (by simp),by simp only[binOp];simp[run_equal_map_nil w' t k e _ hu]⟩) h
     ·exact both (λw'=>⟨sM (by simp) (by simp),by simp only[binOp];simp[run_equal_map_nil w' t k e _ hu]⟩) h
    ·exact h.elim
   | some q=>exact h.elim
  | _=>exact h.elim
 | agg xs=>cases y with
  | agg z=>
   simp only at h
   cases f:jT P t with
   | false=>rw[f]at h;exact h.elim
   | true=>
    rw[f]at h;obtain⟨b,l,A,h⟩:=h
    have g:(eqGuard op t ox oy (.agg xs) (.agg z)).run P w=.ok () w:=by
     unfold eqGuard
     cases op<;>first
      | rfl
      | simp[A]
    rcases zx h with⟨rfl,h⟩|⟨rfl,h⟩
    ·exact⟨_,⟨g,by simp only[binOp];simp[l]⟩,λi=>by simp at i,h⟩
    ·exact⟨_,⟨g,by simp only[binOp];simp[l]⟩,λi=>by simp at i,h⟩
  | _=>exact h.elim
 | _=>exact h.elim
theorem qM {E:Env}:∀{xs:List Operand} {F:List Value->Prop},py E xs F->
  ∃vs,F vs/\∀a:Act,(∀x∈xs,∀v,(bT E x).val?=aa v->a.eval x=v)->xs.map a.eval=vs
 | [],_,h=>⟨[],h,λ_ _=>rfl⟩
 | x::xs,F,h=>by
  obtain⟨v,c,_,h⟩:=dj h;obtain⟨vs,d,e⟩:=qM h;refine⟨v::vs,d,λa b=>?_⟩;rw[pk,b x (by simp) v c,e a (λy f=>b y (by simp[f]))]
theorem Ic {E:Env}:∀{xs:List (Nat×Operand)} {F:List (Nat×Value)->Prop},DJ E xs F->
  ∃vs,F vs/\∀a:Act,(∀x∈xs.map (·.2),∀v,(bT E x).val?=aa v->a.eval x=v)->xs.map (λp=>(p.1,a.eval p.2))=vs
 | [],_,h=>⟨[],h,λ_ _=>rfl⟩
 | (i,x)::xs,F,h=>by
  obtain⟨v,c,_,h⟩:=dj h;obtain⟨vs,d,e⟩:=Ic h;refine⟨(i,v)::vs,d,λa b=>?_⟩;rw[pk,e a (λy f=>b y (by simp only[pk,eN];exact .inr f))];simp only;rw[b x (by simp) v c]
theorem xW {cells:List Value} {off:Nat} {vs:List Value} (h:off+vs.length<=cells.length):(ba cells off vs).length=cells.length:=by
 simp[ba];omega
theorem NG (off:Nat):∀(vs:List Value) (j:Nat) (cs:Array Value),off+j+vs.length<=cs.size->
  ((vs.zipIdx j).foldl (λcs (p:Value×Nat)=>cs.setIfInBounds (off+p.2) p.1) cs).toList=ba cs.toList (off+j) vs
 | [],j,cs,_=>by simp[ba]
 | v::vs,j,cs,h=>by
  simp only[im]at h;rw[List.zipIdx_cons,nY,NG off vs (j+1) _ (by simp;omega)];have e:=list_seg_step cs.toList (off+j) v vs (by simp;omega);simp only[ba,Array.toList_setIfInBounds,im];rw[<-e];simp[Nat.add_assoc]
theorem fill_eq (place place':Nat->Option (Nat×Nat)):∀(d:List (Nat×Value)) (cells:Array Value) (r:List Value),(∀i,place i=place' i)->
  uV place cells.toList d=aa r->Instr.fill place' cells d=aa r.toArray
 | [],cells,r,_,h=>by simp only[uV,Option.some.injEq]at h;subst h;simp[Instr.fill]
 | (i,v)::d,cells,r,f,h=>by
  simp only[uV]at h;rw[f i]at h;simp only[Instr.fill]
  cases b:place' i with
  | none=>rw[b]at h;simp at h
  | some q=>
   obtain⟨off,size⟩:=q;rw[b]at h;simp only at h
   cases c:(dz v.cells.toList.length size&&mv (off+size) cells.toList.length)with
   | false=>rw[c]at h;simp at h
   | true=>
    rw[c]at h;simp only[br]at c;have g:v.cells.size=size:=by simpa using iG c.1
    have j:off+size<=cells.size:=by simpa using dH c.2
    simp only at h
    have e:(v.cells.zipIdx.foldl (λcs (p:Value×Nat)=>cs.setIfInBounds (off+p.2) p.1) cells).toList=ba cells.toList off v.cells.toList:=by
     rw[<-Array.foldl_toList,Array.toList_zipIdx];exact NG off v.cells.toList 0 cells (by simp;omega)
    have a:¬(v.cells.size≠size||off+v.cells.size>cells.size)=ah:=by simp[g];omega
    simp only[a];rw[<-e]at h;exact fill_eq place place' d _ r f h
end
section
variable {P:Program} {w:World} {E:Env} {o:Oper} {K:SV->Prop}
theorem sP {i:Int} {k:IntKind} {top:Nat} {code:BoundsCode} (h:0<=i/\i<=(top:Int)):(Instr.sliceBound (.int k i) top code).run P w=.ok i.toNat w:=by
 simp[Instr.sliceBound,asIntOf,h]
def AQ (a:Act) (x:Option Operand) (b top n:Nat):Prop:=match x with
 | none=>n=b
 | some o=>∃k i,a.eval o=.int k i/\(0<=i/\i<=(top:Int))/\n=i.toNat
theorem wA {x:Option Operand} {b top:Nat} {F:Nat->Prop} (h:mz E x b top F) :
  ∃n,F n/\∀a:Act,(∀y∈x,∀v,(bT E y).val?=aa v->a.eval y=v)->AQ a x b top n:=by
 unfold mz at h
 cases x with
 | none=>exact⟨b,h,λ_ _=>rfl⟩
 | some o=>
  obtain⟨v,c,_,h⟩:=dj h;obtain⟨k,i,rfl,hi,h⟩:=xC h;exact⟨i.toNat,h,λa d=>⟨k,i,d o rfl _ c,hi,rfl⟩⟩
theorem Kk {a:Act} {isS:Bool} {e hi p:Option Operand} {len cap l h m:Nat} (q:¬(p.isSome=ah/\hi.isSome=ae))
  (s:AQ a p cap cap m) (r:AQ a hi len m h) (d:AQ a e 0 h l) :
  (Instr.sliceBounds isS len cap (e.map a.eval) (hi.map a.eval) (p.map a.eval)).run P w=.ok (l,h,m) w:=by
 unfold Instr.sliceBounds
 cases p with
 | none=>
  obtain rfl:m=cap:=s
  cases hi with
  | none=>
   obtain rfl:h=len:=r
   cases e with
   | none=>obtain rfl:l=0:=d;simp
   | some ol=>obtain⟨k,i,f,g,rfl⟩:=d;simp[f,sP g]
  | some t=>
   obtain⟨u,x,b,c,rfl⟩:=r
   cases e with
   | none=>obtain rfl:l=0:=d;simp[b,sP c]
   | some ol=>obtain⟨k,i,f,g,rfl⟩:=d;simp[f,b,sP g,sP c]
 | some y=>
  obtain⟨k2,z,j,n,rfl⟩:=s
  cases hi with
  | none=>simp at q
  | some t=>
   obtain⟨u,x,b,c,rfl⟩:=r
   cases e with
   | none=>obtain rfl:l=0:=d;simp[b,j,sP c,sP n]
   | some ol=>obtain⟨k,i,f,g,rfl⟩:=d;simp[f,b,j,sP g,sP c,sP n]
theorem ab8 {t:TypeId} {x:Value} {c hi b:Option Operand} (h:IP P E t x c hi b K) :
  ∃v,K (.v v)/\∀a:Act,(∀y∈c.toList++hi.toList++b.toList,∀v,(bT E y).val?=aa v->a.eval y=v)->
   ∀w,(Instr.sliceAt t x (c.map a.eval) (hi.map a.eval) (b.map a.eval)).run P w=.ok v w:=by
 unfold IP at h;split at h
 ·rename_i e hu
  cases d:dJ P e with
  | false=>rw[d]at h;exact h.elim
  | true=>
   rw[d]at h;simp only at h;split at h
   ·rename_i p len cap
    have f:¬(b.isSome=ah/\hi.isSome=ae):=by
     rintro⟨j,k⟩;cases b<;>cases hi<;>simp_all
    have r:mz E b cap cap λm=>mz E hi len m λh=>mz E c 0 h λl=>K (.v (.slice (fJ p m l (bX P e)) (h-l) (m-l))):=by
     cases b<;>cases hi<;>simp_all
    obtain⟨m,j,s⟩:=wA r;obtain⟨C,k,g⟩:=wA j;obtain⟨l,u,z⟩:=wA k;refine⟨_,u,λa i w=>?_⟩;have A:=Kk (P:=P) (w:=w) (isS:=ah) f (s a λy q=>i y (by cases b<;>simp_all)) (g a λy q=>i y (by cases hi<;>simp_all)) (z a λy q=>i y (by cases c<;>simp_all));simp[Instr.sliceAt,Instr.slice,fy hu,A,mL d,fJ]
   ·exact h.elim
 ·rename_i n e hu
  cases d:dJ P e with
  | false=>rw[d]at h;exact h.elim
  | true=>
   rw[d]at h;simp only at h;obtain⟨ad,rfl,h⟩:=tO h
   have f:¬(b.isSome=ah/\hi.isSome=ae):=by
    rintro⟨j,k⟩;cases b<;>cases hi<;>simp_all
   have r:mz E b n n λm=>mz E hi n m λh=>mz E c 0 h λl=>K (.v (.slice (fJ (aa ad) m l (bX P e)) (h-l) (m-l))):=by
    cases b<;>cases hi<;>simp_all
   obtain⟨m,j,s⟩:=wA r;obtain⟨C,k,g⟩:=wA j;obtain⟨l,u,z⟩:=wA k;refine⟨_,u,λa i w=>?_⟩;have A:=Kk (P:=P) (w:=w) (isS:=ae) f (s a λy q=>i y (by cases b<;>simp_all)) (g a λy q=>i y (by cases hi<;>simp_all)) (z a λy q=>i y (by cases c<;>simp_all));have hs:(ux (.pointer (aa ad))).run P w=.ok ad w:=rfl;simp[Instr.sliceAt,fy hu,hs,A,mL d,fJ];split<;>simp_all
 ·exact h.elim
theorem abF {ad:Addr} {f:Field} (a:dJ P f.type=ah) (b:bX P f.type≠0):(fieldPlace ad f).run P w=.ok (ad.add f.offset) w:=by
 simp[fieldPlace,mL a,b]
theorem We {s:TypeId} {ad:Addr} {f:Nat} (h:Hc P s ad f K):∃v,(∀w,(Instr.fieldAt s (.pointer (aa ad)) f).run P w=.ok v w)/\K (.v v):=by
 unfold Hc at h;split at h
 ·rename_i g hu;split at h
  ·rename_i fd i
   cases b:dJ P fd.type with
   | false=>rw[b]at h;exact h.elim
   | true=>
    rw[b]at h;simp only at h
    cases a:dz (bX P fd.type) 0 with
    | true=>rw[a]at h;exact h.elim
    | false=>
     rw[a]at h;have c:bX P fd.type≠0:=λe=>by rw[e]at a;simp at a
     have d:g[f]?=aa fd:=by simpa using i
     exact⟨_,λw=>by simp[Instr.fieldAt,fy hu,d,ux,abF b c],h⟩
  ·exact h.elim
 ·exact h.elim
theorem Ww {s:TypeId} {x:Value} {f:Nat} (h:Hh P s x f K):∃v,(∀w,(Instr.field s x f).run P w=.ok v w)/\K (.v v):=by
 unfold Hh at h;split at h
 ·rename_i b hu;split at h
  ·rename_i fd c;split at h
   ·rename_i cs;obtain⟨v,d,e⟩:=aae h;have a:b[f]?=aa fd:=by simpa using c
    exact⟨v,λw=>by simp[Instr.field,fy hu,a,asAgg,d],e⟩
   ·exact h.elim
  ·exact h.elim
 ·exact h.elim
theorem Xo {t:TypeId} {x ix:Value} (h:Hy P t x ix K):∃v,(∀w,(Instr.indexAt t x ix).run P w=.ok v w)/\K (.v v):=by
 unfold Hy at h;obtain⟨k,i,rfl,h⟩:=xC h;split at h
 ·rename_i e hu
  cases b:dJ P e with
  | false=>rw[b]at h;exact h.elim
  | true=>
   rw[b]at h;simp only at h
   cases x with
   | slice base len cap=>
    obtain⟨hi,a,c,d⟩:=h;subst c
    exact⟨_,λw=>by simp[Instr.indexAt,asIntOf,fy hu,hi,mL b],d⟩
   | _=>exact h.elim
 ·rename_i len e hu
  cases b:dJ P e with
  | false=>rw[b]at h;exact h.elim
  | true=>
   rw[b]at h;simp only at h;obtain⟨a,rfl,hi,h⟩:=tO h;exact⟨_,λw=>by simp[Instr.indexAt,asIntOf,fy hu,ux,hi,mL b],h⟩
 ·exact h.elim
theorem XJ {t:TypeId} {x ix:Value} (h:HD P t x ix K):∃v,(∀w,(Instr.index t x ix).run P w=.ok v w)/\K (.v v):=by
 unfold HD at h;obtain⟨k,i,rfl,h⟩:=xC h;split at h
 ·rename_i len e hu
  cases a:dJ P e with
  | false=>rw[a]at h;exact h.elim
  | true=>
   rw[a]at h;simp only at h;split at h
   ·rename_i cs;obtain⟨hi,h⟩:=h
    cases d:jT P e with
    | false=>
     rw[d]at h;obtain⟨v,f,b⟩:=zy h
     exact⟨v,λw=>by simp[Instr.index,asIntOf,fy hu,hi,mL a,D3 a d f],b⟩
    | true=>
     rw[d]at h;obtain⟨vs,_,f,b⟩:=Ha h;exact⟨_,λw=>by simp[Instr.index,asIntOf,fy hu,hi,mL a,Ru a d,f],b⟩
   ·exact h.elim
 ·rename_i hu
  cases x with
  | string s=>
   obtain⟨hi,c,⟨u,g,j⟩,b⟩:=h;subst j
   exact⟨_,λw=>by
    simp only[Instr.index,asIntOf,fy hu,o8,Sem.run_pure,o9,hi,if_true,g],b⟩
  | _=>exact h.elim
 ·exact h.elim
theorem Wa {x:Value} {i:Nat} (h:Hb x i K):∃v,(∀w,(Instr.extract x i).run P w=.ok v w)/\K (.v v):=by
 unfold Hb at h;split at h
 ·rename_i vs;split at h
  ·rename_i v b;have a:vs[i]?=aa v:=by simpa using b
   exact⟨v,λw=>by simp[Instr.extract,a],h⟩
  ·exact h.elim
 ·exact h.elim
def Ds (P:Program) (t:TypeId):Bool:=match P.underlying t with
 | some (.map _ _)=>ah
 | _=>ae
theorem YE {t ty:TypeId} {x:Value} (h:HS P w t x K):∃v,(jY #[t] ty #[x]).run P w=.ok v w/\(Ds P t=ae->∀w,(jY #[t] ty #[x]).run P w=.ok v w)/\K (.v v):=by
 have both:∀{v:Value},(∀w',(jY #[t] ty #[x]).run P w'=.ok v w')->K (.v v)->∃v,(jY #[t] ty #[x]).run P w=.ok v w/\(Ds P t=ae->∀w,(jY #[t] ty #[x]).run P w=.ok v w)/\K (.v v):=
  λb d=>⟨_,b w,λ_=>b,d⟩
 unfold HS at h;split at h
 ·rename_i e hu
  cases x with
  | slice a n c=>exact both (λw=>by simp[jY,fy hu,goInt]) h
  | _=>exact h.elim
 ·rename_i hu
  cases x with
  | string s=>exact both (λw=>by simp[jY,fy hu,goInt]) h
  | _=>exact h.elim
 ·rename_i n e hu;exact both (λw=>by simp[jY,fy hu,goInt]) h
 ·rename_i hu
  cases x with
  | map r=>
   obtain⟨n,f,h⟩:=h
   exact⟨_,f ty,λg=>by simp[Ds,hu]at g,h⟩
  | _=>exact h.elim
 ·exact h.elim
theorem aar {fs:List Field} (h:fs.all (λf=>dJ P f.type)=ah) :
  fs.mapM (λf=>(P.info? f.type).map λi=>(f.offset,i.size))=aa (fs.map λf=>(f.offset,bX P f.type)):=by
 induction fs with
 | nil=>rfl
 | cons f fs b=>
  simp only[List.all_cons,br]at h;have a:=h.1;simp only[dJ,br]at a;obtain⟨i,hi⟩:=kJ.1 a.1;simp[List.mapM_cons,hi,b h.2,bX,Program.cellsOf]
theorem TI {t:TypeId} {c:List (Nat×Value)} (h:Ff P t c K):∃v,(∀w,(Instr.build t c.toArray).run P w=.ok v w)/\K (.v v):=by
 unfold Ff at h
 cases d:vj P t with
 | false=>rw[d]at h;exact h.elim
 | true=>
  rw[d]at h;simp only at h;split at h
  ·rename_i j hu
   cases a:j.toList.all λf=>dJ P f.type with
   | false=>rw[a]at h;exact h.elim
   | true=>
    rw[a]at h;simp only at h;have k:=λw=>run_places (P:=P) w _ _ (aar a);split at h
    ·rename_i cs g;have b:=fill_eq (place':=λi=>(j[i]?).map λf=>(f.offset,bX P f.type)) _ c (zv P t).cells cs (λi=>by simp) g;exact⟨_,λw=>by simp[Instr.build,vp d,fy hu,Array.mapM_eq_mapM_toList,k,b],h⟩
    ·exact h.elim
  ·rename_i n e hu
   cases a:dJ P e with
   | false=>rw[a]at h;exact h.elim
   | true=>
    rw[a]at h;simp only at h;split at h
    ·rename_i cs g;have b:=fill_eq (place':=λi=>aa (i*bX P e,bX P e)) _ c (zv P t).cells cs (λi=>rfl) g;exact⟨_,λw=>by simp[Instr.build,vp d,fy hu,mL a,b],h⟩
    ·exact h.elim
  ·exact h.elim
theorem aaj {c x y:SV} (h:Ie c x y K):∃b s,c.val?=aa (.bool b)/\(if b then(∃v,x.val?=aa v/\s.val=v)else(∃v,y.val?=aa v/\s.val=v))/\K s:=by
 unfold Ie at h;split at h
 ·obtain⟨v,a,d,h⟩:=Dw h;exact⟨ah,_,rfl,by simp[a,d],h⟩
 ·obtain⟨v,a,d,h⟩:=Dw h;exact⟨ae,_,rfl,by simp[a,d],h⟩
 ·rename_i c;obtain⟨v,a,_,h⟩:=dj h;obtain⟨u,d,_,h⟩:=dj h;refine⟨c,_,rfl,?_,h⟩;cases c<;>simp[a,d,SV.val]
 ·exact h.elim
def qe (P:Program) (o:Oper):Bool:=match o.op with
 | .load _ _=>ah
 | .lookup _ _ _ _=>ah
 | .binOp _ t _ _ _=>jT P t
 | .call c=>match c.argTypes.toList with
  | [t]=>Ds P t
  | _=>ah
 | _=>ae
theorem QR (h:DG P o E w K):∃s,Quiet P o E w s/\(qe P o=ae->∀w',Quiet P o E w' s)/\K s:=by
 have both:∀{s:SV},(∀w',Quiet P o E w' s)->K s->∃s,Quiet P o E w s/\(qe P o=ae->∀w',Quiet P o E w' s)/\K s:=
  λl m=>⟨_,l w,λ_=>l,m⟩
 unfold DG at h;split at h
 ·rename_i x g;obtain⟨v,l,m,h⟩:=Dw h;exact both (λw a j=>by simp[execOp,g,j x (by simp[g,ch]) v l,m]) h
 ·rename_i x g;obtain⟨v,l,m,h⟩:=Dw h;exact both (λw a j=>by simp[execOp,g,j x (by simp[g,ch]) v l,m]) h
 ·rename_i c x y g;obtain⟨b,s,l,m,h⟩:=aaj h;refine both (s:=s) (λw a j=>?_) h;have D:=j c (by simp[g,ch]) _ l
  cases b with
  | true=>
   obtain⟨v,J,L⟩:=m
   simp[execOp,g,D,asBool,j x (by simp[g,ch]) v J,L]
  | false=>
   obtain⟨v,J,L⟩:=m;simp[execOp,g,D,asBool,j y (by simp[g,ch]) v J,L]
 ·rename_i x g;obtain⟨v,l,_,h⟩:=dj h;unfold QD at h;split at h
  ·obtain⟨ad,Q,h⟩:=h;subst Q;exact both (λw a j=>by simp[execOp,g,j x (by simp[g,ch]) _ l,SV.val]) h
  ·exact both (λw a j=>by simp[execOp,g,j x (by simp[g,ch]) _ l,SV.val]) h
  ·exact h.elim
 ·rename_i op t x y yt g;obtain⟨v,l,_,h⟩:=dj h;obtain⟨u,m,_,h⟩:=dj h;obtain⟨r,q,z,R⟩:=TN (ox:=x) (oy:=y) h;exact⟨.v r,λa j=>by simp[execOp,g,j x (by simp[g,ch]) v l,j y (by simp[g,ch]) u m,q.1,q.2,SV.val],λC w' a j=>by simp[execOp,g,j x (by simp[g,ch]) v l,j y (by simp[g,ch]) u m,(z (by simpa [qe,g]using C) w').1,(z (by simpa [qe,g]using C) w').2,SV.val],R⟩
 ·rename_i op t x g;unfold Si at h;split at h
  ·split at h
   ·rename_i b hs;exact both (λw a j=>by simp[execOp,g,j x (by simp[g,ch]) (.bool b) (by rw[hs];rfl),Op.unary,SV.val]) h
   ·rename_i b hs;exact both (λw a j=>by simp[execOp,g,j x (by simp[g,ch]) (.bool b) (by rw[hs];rfl),Op.unary,SV.val]) h
   ·exact h.elim
  ·obtain⟨v,l,_,h⟩:=dj h;obtain⟨k,n,rfl,h⟩:=xC h;exact both (λw a j=>by simp[execOp,g,j x (by simp[g,ch]) _ l,Op.unary,Op.intArith,SV.val]) h
  ·obtain⟨v,l,_,h⟩:=dj h;obtain⟨k,n,rfl,h⟩:=xC h;refine both (λw a j=>?_) h;cases hk:k.signed<;>simp[execOp,g,j x (by simp[g,ch]) _ l,Op.unary,Op.intBits,aH,hk,SV.val]
  ·exact h.elim
 ·rename_i S T x g;obtain⟨v,l,_,h⟩:=dj h;unfold MO at h;split at h
  ·rename_i d k M O;obtain⟨U,n,rfl,h⟩:=xC h;refine both (λw a j=>?_) h
   have D:(convert S T (.int U n)).run P w=.ok (.int k (k.wrap n)) w:=by
    unfold convert;simp only[o8,fy M,fy O,o9];cases d<;>rfl
   simp[execOp,g,j x (by simp[g,ch]) _ l,D,SV.val]
  ·exact h.elim
 ·rename_i t x g;obtain⟨v,l,_,h⟩:=dj h;obtain⟨ad,rfl,h⟩:=tO h;obtain⟨u,I,h⟩:=PL h;exact⟨_,λa j=>by simp[execOp,g,j x (by simp[g,ch]) _ l,Instr.loadAt,ux,I,SV.val],λC=>by simp[qe,g]at C,h⟩
 ·rename_i s x f g;obtain⟨v,l,_,h⟩:=dj h;obtain⟨ad,rfl,h⟩:=tO h;obtain⟨u,I,h⟩:=We h;exact both (λw a j=>by simp[execOp,g,j x (by simp[g,ch]) _ l,I,SV.val]) h
 ·rename_i s x f g;obtain⟨v,l,_,h⟩:=dj h;obtain⟨u,I,h⟩:=Ww h;exact both (λw a j=>by simp[execOp,g,j x (by simp[g,ch]) _ l,I,SV.val]) h
 ·rename_i t x i g;obtain⟨v,l,_,h⟩:=dj h;obtain⟨u,m,_,h⟩:=dj h;obtain⟨r,q,h⟩:=Xo h;exact both (λw a j=>by simp[execOp,g,j x (by simp[g,ch]) v l,j i (by simp[g,ch]) u m,q,SV.val]) h
 ·rename_i t x i g;obtain⟨v,l,_,h⟩:=dj h;obtain⟨u,m,_,h⟩:=dj h;obtain⟨r,q,h⟩:=XJ h;exact both (λw a j=>by simp[execOp,g,j x (by simp[g,ch]) v l,j i (by simp[g,ch]) u m,q,SV.val]) h
 ·rename_i x i g;obtain⟨v,l,_,h⟩:=dj h;obtain⟨r,q,h⟩:=Wa (P:=P) h;exact both (λw a j=>by simp[execOp,g,j x (by simp[g,ch]) v l,q,SV.val]) h
 ·rename_i t V g;obtain⟨vs,h,W⟩:=Ic h;obtain⟨r,q,h⟩:=TI h;refine both (s:=.v r) (λw a j=>?_) h
  have e:V.map (λp=>(p.1,a.eval p.2))=vs.toArray:=by
   apply oo;have:=W a (λx F=>j x (by simpa [g,ch]using F));simpa using this
  simp[execOp,g,e,q,SV.val]
 ·rename_i t x lo hi mx g;obtain⟨v,l,_,h⟩:=dj h;obtain⟨r,h,q⟩:=ab8 h;refine both (s:=.v r) (λw a j=>?_) h;have m:=q a (λy H=>j y (by simp[g,ch]at H⊢;rcases H with H|H|H<;>simp[H]));simp[execOp,g,j x (by simp[g,ch]) v l,m,SV.val]
 ·rename_i fn first cap g
  obtain⟨X,h,l⟩:=qM h;obtain⟨cs,h,m⟩:=qM h;refine both (λw a j=>?_) h
  have Y:first.map a.eval=X.toArray:=by
   apply oo;simpa using l a (λx F=>j x (by simp[g,ch];exact .inl (by simpa using F)))
  have Z:cap.map a.eval=cs.toArray:=by
   apply oo;simpa using m a (λx F=>j x (by simp[g,ch];exact .inr (by simpa using F)))
  simp[execOp,g,Y,Z,Instr.makeFunc,SV.val]
 ·rename_i t x i ok g;obtain⟨v,l,_,h⟩:=dj h;obtain⟨u,m,_,h⟩:=dj h;obtain⟨r,q,h⟩:=sf h;exact⟨_,λa j=>by simp[execOp,g,j x (by simp[g,ch]) v l,j i (by simp[g,ch]) u m,q,SV.val],λC=>by simp[qe,g]at C,h⟩
 ·rename_i c g;split at h
  ·rename_i D;split at h
   ·rename_i x F;split at h
    ·rename_i t ht;obtain⟨v,l,_,h⟩:=dj h;obtain⟨r,q,z,h⟩:=YE (ty:=o.type) h;have A:c.args=#[x]:=by apply oo;simpa using F
     have G:c.argTypes=#[t]:=by apply oo;simpa using ht
     exact⟨_,λa j=>by simp[execOp,g,resolve,D,A,G,invoke,builtin,j x (by simp[g,ch,Call.operands,A]) v l,q,SV.val],λC w' a j=>by simp[execOp,g,resolve,D,A,G,invoke,builtin,j x (by simp[g,ch,Call.operands,A]) v l,z (by simpa [qe,g,G]using C) w',SV.val],h⟩
    ·exact h.elim
   ·exact h.elim
  ·exact h.elim
 ·exact h.elim
end
structure lq (w w':World) (b:Nat) (c:List Value) (T:TypeId):Prop where
 ax:w'.heap[b]?=aa (.cells c.toArray T (0,0))
 other:∀i,i≠b->w'.heap[i]?=w.heap[i]?
 size:w'.heap.size=w.heap.size
 os:w'.os=w.os
 tape:w'.tape=w.tape
 output:w'.output=w.output
structure Wr (w:World) (ad:Addr) (vs:List Value) (K:World->Prop):Prop where
 out:∃(c:List Value) (T:TypeId),w.heap[ad.block]?=aa (.cells c.toArray T (0,0))/\ad.spot=ag/\ad.off+vs.length<=c.length/\
  ∀w',lq w w' ad.block (ba c ad.off vs) T->K w'
structure dr (w w':World) (o:Obj):Prop where
 ax:w'.heap[w.heap.size]?=aa o
 mI:∀i,i<w.heap.size->w'.heap[i]?=w.heap[i]?
 size:w'.heap.size=w.heap.size+1
 os:w'.os=w.os
 tape:w'.tape=w.tape
 output:w'.output=w.output
 drawn:w'.drawn=w.drawn
structure aI (w:World) (c:List Value) (T:TypeId) (K:Addr->World->Prop):Prop where
 out:∀w',dr w w' (.cells c.toArray T (0,0))->K ⟨w.heap.size,0,ag⟩ w'
structure rM (w:World) (K:Nat->World->Prop):Prop where
 out:∀w',dr w w' (.map #[] 0)->K w.heap.size w'
def Ab:List Value->Bool
 | []=>ah
 | .agg _::_=>ae
 | .tuple _::_=>ae
 | _::vs=>Ab vs
theorem QN:∀{vs:List Value},Ab vs=ah->∀v∈vs,v.oneCell'=ah
 | [],_,_,a=>by cases a
 | x::vs,h,v,a=>by
  rcases eN.1 a with rfl|a
  ·cases v<;>first|rfl|(simp[Ab]at h)
  ·exact QN (vs:=vs) (by cases x<;>simp_all [Ab]) v a
theorem z6 (w:World) (o:Obj):dr w {w with heap:=w.heap.push o} o:=by
 refine⟨by simp,λi hi=>?_,by simp,rfl,rfl,rfl,rfl⟩;simp[Array.getElem?_push,Nat.ne_of_lt hi]
theorem EL {w:World} {b:Nat} {c:Array Value} {T:TypeId} (h:w.heap[b]?=aa (.cells c T (0,0))) (c':List Value) :
  lq w (w.setRow b c'.toArray) b c' T:=by
 refine⟨setRow_heap w b c _ T _ h,λi hi=>?_,by simp[World.setRow],rfl,rfl,rfl⟩;simp[World.setRow,Array.getElem?_modify,Ne.symm hi]
def iM (P:Program) (g:FuncId):Bool:=match P.funcs.toList[g]? with
 | some fn=>fn.body.isSome
 | none=>ae
def iz (P:Program):Bool:=P.funcs.toList.all (λfn=>!(fn.name=="runtime.NumGoroutine"))&&P.follows .mixedOrders
structure Call (P:Program) (f:FuncId) (args:List Value) (w:World) (R:Ending->World->Prop):Prop where
 out:Calls P f args.toArray w R
def U6 (P:Program) (f:FuncId) (args:List Value) (ty:Ty) (w:World) (K:Value->World->Prop):Prop:=
 Call P f args w λe w'=>wY ty λv=>e=.returned v/\K v w'
structure Cut (p:Prop):Prop where
 out:p
def xT (P:Program) (s:Sem Value) (ty:Ty) (w:World) (K:SV->World->Prop):Prop:=
 wY ty λv=>∃w',s.run P w=.ok v w'/\K (.v v) w'
def Rr (P:Program) (s:Sem Unit) (w:World) (K:SV->World->Prop):Prop:=
 ∃w',s.run P w=.ok () w'/\K (.v undef) w'
def Fh (P:Program) (t:TypeId) (len:Nat) (a:List (Nat×Value)) (w:World) (K:SV->World->Prop):Prop:=
 match P.underlying t with
 | some (.slice e)=>match dJ P e&&vj P e&&dz (zc P e).length (bX P e)&&mv (len*bX P e) 16777216&&mv 1 (bX P e)with
  | false=>False
  | true=>match uV (λi=>aa (i*bX P e,bX P e)) ((b8 (len*bX P e)).map λi=>(zc P e).getD (i%bX P e) undef) a with
   | some cs=>aI w cs e λp w'=>K (.v (.slice (aa p) len len)) w'
   | none=>False
 | _=>False
def Ac (P:Program) (o:Oper) (E:Env) (w:World) (K:SV->World->Prop):Prop:=
 match o.op with
 | .store t a x=>da (bT E a) λv=>sG v λad=>da (bT E x) λv=>
   match dJ P t&&dz v.cells.toList.length (bX P t)&&Ab v.cells.toList with
   | false=>False
   | true=>Wr w ad v.cells.toList λw'=>K (.v undef) w'
 | .alloc T=>match vj P T with
  | false=>False
  | true=>aI w (zc P T) T λp w'=>K (.v (.pointer (aa p))) w'
 | .box T x=>da (bT E x) λv=>aI w v.cells.toList T λp w'=>K (.v (.pointer (aa p))) w'
 | .buildSlice t len b=>DJ E b.toList λb=>Fh P t len b w K
 | .makeSlice t l c=>da (bT E l) λl=>da (bT E c) λc=>xT P (lA t l c) (sW P t) w K
 | .makeMap _ ag=>rM w λr w'=>K (.v (.map (aa r))) w'
 | .mapUpdate t m k x=>da (bT E m) λm=>da (bT E k) λk=>da (bT E x) λx=>Rr P (gy t m k x) w K
 | .insert t m k x=>da (bT E m) λm=>da (bT E k) λk=>da (bT E x) λx=>Rr P (gy t m k x) w K
 | .call c=>match c.callee with
  | .value f=>match bT E f with
   | .v (.func (.func g) first cap)=>match iM P g with
    | true=>py E c.args.toList λvs=>U6 P g (first.toList++vs++cap.toList) (sW P o.type) w λv w'=>K (.v v) w'
    | false=>py E c.args.toList λvs=>wY (sW P o.type) λv=>∃w',(callFunc g (first.toList++vs++cap.toList).toArray).run P w=.ok (.value v) w'/\K (.v v) w'
   | _=>False
  | .builtin .append=>py E c.args.toList λvs=>xT P (bM c.argTypes o.type vs.toArray) (sW P o.type) w K
  | .builtin .copy=>py E c.args.toList λvs=>xT P (nX c.argTypes o.type vs.toArray) (sW P o.type) w K
  | .builtin .delete=>py E c.args.toList λvs=>xT P (gW c.argTypes o.type vs.toArray) (sW P o.type) w K
  | .builtin .max=>py E c.args.toList λvs=>xT P (wb c.argTypes o.type vs.toArray) (sW P o.type) w K
  | .builtin .min=>py E c.args.toList λvs=>xT P (po c.argTypes o.type vs.toArray) (sW P o.type) w K
  | _=>False
 | _=>False
def yv (P:Program) (o:Oper) (E:Env) (w:World) (K:SV->World->Prop):Prop:=
 ∀a,Reads E o a->∀(next:Act->World->Prop) (Q:Exit->Act->World->Prop),(∀s w',K s w'->next (a.put o.dst s.val) w')->o.wp P a w next Q
theorem Quiet.S5 {P:Program} {o:Oper} {E:Env} {w:World} {s:SV} (h:Quiet P o E w s) {K:SV->World->Prop} (b:K s w):yv P o E w K:=by
 intro a c next Q d
 unfold Oper.wp;rw[h a c];exact d s w b
section
variable {P:Program} {w:World} {E:Env} {o:Oper} {K:SV->World->Prop}
theorem o5 {v:Value} {w':World} (b:∀a,Reads E o a->(execOp a.eval o).run P w=.ok (.value v) w') (c:K (.v v) w'):yv P o E w K:=by
 intro a d next Q e
 unfold Oper.wp;rw[b a d];exact e _ _ c
theorem EY {w':World} (b:∀a,Reads E o a->(execOp a.eval o).run P w=.ok .skip w') (c:K (.v undef) w'):yv P o E w K:=by
 intro a d next Q e
 unfold Oper.wp;rw[b a d];exact e (.v undef) _ c
theorem Mw (e:iz P=ah) {g:FuncId} (a:iM P g=ah) (args:Array Value):(callFunc g args).run P w=.ok (.enter g args) w:=by
 unfold iM at a;split at a
 ·rename_i fn f;have b:P.funcs[g]?=aa fn:=by simpa using f
  simp only[iz,br,gx]at e;have h:=e.1 fn (List.mem_of_getElem? f);have c:(fn.name=="runtime.NumGoroutine")=ae:=by simpa using h
  have d:fn.body.isNone=ae:=by cases i:fn.body<;>simp_all
  unfold callFunc;simp only[o8,run_program,o9,b,c,d,gz,if_false];rfl
 ·cases a
theorem TV {t:TypeId} {len:Nat} {j:List (Nat×Value)} (h:Fh P t len j w K) :
  ∃v w',(Instr.buildSlice t len j.toArray).run P w=.ok v w'/\K (.v v) w':=by
 unfold Fh at h;split at h
 ·rename_i e hu;split at h
  ·exact h.elim
  ·rename_i n;simp only[br]at n;obtain⟨⟨⟨⟨p,q⟩,r⟩,s⟩,u⟩:=n;have k:(zc P e).length=bX P e:=iG r;have y:=dH s;have l:=dH u;split at h
   ·rename_i cs z;have b:(zv P e).cells.size=bX P e:=by rw[<-k];simp[zc]
    have A:((Array.range (len*bX P e)).map (λx=>(zv P e).cells[x%(zv P e).cells.size]!)).toList=(b8 (len*bX P e)).map λi=>(zc P e).getD (i%bX P e) undef:=by
     rw[Array.toList_map,Array.toList_range];apply List.map_congr_left;intro i hi;rw[b];have m:i%bX P e<(zv P e).cells.size:=by rw[b];exact Nat.mod_lt _ l
     simp[zc,aQ,m]
    have a:=fill_eq (place':=λi=>aa (i*bX P e,bX P e)) _ j ((Array.range (len*bX P e)).map (λx=>(zv P e).cells[x%(zv P e).cells.size]!)) cs (λi=>rfl) (by rw[A];exact z);refine⟨_,_,?_,h.out _ (z6 w _)⟩;by_cases c:len*bX P e=0
    ·have d:len=0:=by
      rcases Nat.mul_eq_zero.1 c with c|c
      ·exact c
      ·omega
     subst d;have f:Array.range 0=#[]:=rfl;simp only[Nat.zero_mul,f,List.map_toArray,List.map_nil]at a;simp[Instr.buildSlice,fy hu,mL p,f,a,newRow]
    ·have g:¬(2 ^ 24<len*bX P e):=by omega
     simp[Instr.buildSlice,fy hu,mL p,vp q,c,g,a,newRow]
   ·exact h.elim
 ·exact h.elim
theorem QP (V:iz P=ah) (h:Ac P o E w K):yv P o E w K:=by
 unfold Ac at h;split at h
 ·rename_i t x y i;obtain⟨v,A,_,h⟩:=dj h;obtain⟨ad,rfl,h⟩:=tO h;obtain⟨u,D,_,h⟩:=dj h;split at h
  ·exact h.elim
  ·rename_i S;simp only[br]at S;obtain⟨⟨W,X⟩,J⟩:=S;obtain⟨c,T,G,hs,C,q⟩:=h.out;obtain⟨b,off,spot⟩:=ad;simp only at hs G C q;subst hs;have L:u.cells.size=bX P t:=by simpa using iG X
   have H:=run_storeCells_at P b off T u.cells.toList 0 c.toArray w G (by simpa using C) (QN J);refine EY (w':=w.setRow b (ba c off u.cells.toList).toArray) (λa j=>?_) (q _ (EL G _));simp only[n5]at H;simp[execOp,i,j x (by simp[i,ch]) _ A,j y (by simp[i,ch]) _ D,Instr.storeAt,ux,storeVar,mL W,L,H,ba]
 ·rename_i T i;split at h
  ·exact h.elim
  ·rename_i Y;refine o5 (w':={w with heap:=w.heap.push (.cells (zv P T).cells T)}) (λa j=>?_) (h.out _ ?_)
   ·simp[execOp,i,Instr.alloc,vp Y,newVar,newRow]
   ·have:=z6 w (.cells (zv P T).cells T);simpa [zc]using this
 ·rename_i T x i;obtain⟨v,A,_,h⟩:=dj h;refine o5 (w':={w with heap:=w.heap.push (.cells v.cells T)}) (λa j=>?_) (h.out _ ?_)
  ·simp[execOp,i,j x (by simp[i,ch]) _ A,Instr.box,newVar,newRow]
  ·have:=z6 w (.cells v.cells T);simpa using this
 ·rename_i t len Z i;obtain⟨vs,h,z⟩:=Ic h;obtain⟨v,w',s,q⟩:=TV h;refine o5 (v:=v) (w':=w') (λa j=>?_) q
  have e:Z.map (λp=>(p.1,a.eval p.2))=vs.toArray:=by
   apply oo;have:=z a (λx M=>j x (by simpa [i,ch]using M));simpa using this
  simp[execOp,i,e,s]
 ·rename_i t l c i;obtain⟨v,A,_,h⟩:=dj h;obtain⟨u,D,_,h⟩:=dj h;obtain⟨r,w',s,q⟩:=sf h;exact o5 (w':=w') (λa j=>by simp[execOp,i,j l (by simp[i,ch]) v A,j c (by simp[i,ch]) u D,s]) q
 ·rename_i t i;refine o5 (w':={w with heap:=w.heap.push (.map #[] 0)}) (λa j=>?_) (h.out _ (z6 w _));simp[execOp,i,Instr.makeMap]
 ·rename_i t m k x i;obtain⟨v1,A,_,h⟩:=dj h;obtain⟨v2,D,_,h⟩:=dj h;obtain⟨v3,O,_,h⟩:=dj h;obtain⟨w',s,q⟩:=h;exact EY (w':=w') (λa j=>by simp[execOp,i,j m (by simp[i,ch]) _ A,j k (by simp[i,ch]) _ D,j x (by simp[i,ch]) _ O,s]) q
 ·rename_i t m k x i;obtain⟨v1,A,_,h⟩:=dj h;obtain⟨v2,D,_,h⟩:=dj h;obtain⟨v3,O,_,h⟩:=dj h;obtain⟨w',s,q⟩:=h;exact EY (w':=w') (λa j=>by simp[execOp,i,j m (by simp[i,ch]) _ A,j k (by simp[i,ch]) _ D,j x (by simp[i,ch]) _ O,s]) q
 ·rename_i c i
  have n:∀{vs:List Value},(∀a:Act,(∀x∈c.args.toList,∀v,(bT E x).val?=aa v->a.eval x=v)->c.args.toList.map a.eval=vs)->∀a,Reads E o a->c.args.map a.eval=vs.toArray:=by
   intro vs z a j;apply oo
   have:=z a (λx M=>j x (by
    rw[i];simp only[ch,Call.operands,Array.mem_append];exact .inr (by simpa using M)))
   simpa using this
  split at h
  ·rename_i f d;split at h
   ·rename_i g first cap U
    split at h
    ·rename_i G;obtain⟨vs,h,z⟩:=qM h;intro a j next Q hn
     have F:a.eval f=.func (.func g) first cap:=j f (by simp[i,ch,Call.operands,d]) _ (by rw[U];rfl)
     have e:=n z a j;unfold Oper.wp
     have I:(execOp a.eval o).run P w=.ok (.enter g (first.toList++vs++cap.toList).toArray) w:=by
      have R:(first++vs.toArray++cap)=(first.toList++vs++cap.toList).toArray:=by apply oo;simp
      simp only[execOp,i,resolve,d,F,e,Deferred.ofValue,o8,Sem.run_pure,o9,invoke];rw[R];exact Mw V G _
     rw[I,Oper.upon_enter];refine Calls.mono h.out (λee w' he=>?_);obtain⟨v,rfl,q⟩:=sf he;exact hn _ _ q
    ·obtain⟨vs,h,z⟩:=qM h;obtain⟨v,w',s,q⟩:=sf h|>.imp λv h=>h
     refine o5 (w':=w') (λa j=>?_) q;have F:a.eval f=.func (.func g) first cap:=j f (by simp[i,ch,Call.operands,d]) _ (by rw[U];rfl)
     have e:=n z a j;have R:(first++vs.toArray++cap)=(first.toList++vs++cap.toList).toArray:=by apply oo;simp
     simp only[execOp,i,resolve,d,F,e,Deferred.ofValue,o8,Sem.run_pure,o9,invoke];rw[R];exact s
   ·exact h.elim
  ·rename_i d;obtain⟨vs,h,z⟩:=qM h;obtain⟨r,w',s,q⟩:=sf h;exact o5 (w':=w') (λa j=>by simp[execOp,i,resolve,d,n z a j,invoke,builtin,s]) q
  ·rename_i d;obtain⟨vs,h,z⟩:=qM h;obtain⟨r,w',s,q⟩:=sf h;exact o5 (w':=w') (λa j=>by simp[execOp,i,resolve,d,n z a j,invoke,builtin,s]) q
  ·rename_i d;obtain⟨vs,h,z⟩:=qM h;obtain⟨r,w',s,q⟩:=sf h;exact o5 (w':=w') (λa j=>by simp[execOp,i,resolve,d,n z a j,invoke,builtin,s]) q
  ·rename_i d;obtain⟨vs,h,z⟩:=qM h;obtain⟨r,w',s,q⟩:=sf h;exact o5 (w':=w') (λa j=>by simp[execOp,i,resolve,d,n z a j,invoke,builtin,s]) q
  ·rename_i d;obtain⟨vs,h,z⟩:=qM h;obtain⟨r,w',s,q⟩:=sf h;exact o5 (w':=w') (λa j=>by simp[execOp,i,resolve,d,n z a j,invoke,builtin,s]) q
  ·exact h.elim
 ·exact h.elim
end
def zF:Op->Bool
 | .store _ _ _=>ah
 | .alloc _=>ah
 | .box _ _=>ah
 | .buildSlice _ _ _=>ah
 | .makeSlice _ _ _=>ah
 | .makeMap _ _=>ah
 | .mapUpdate _ _ _ _=>ah
 | .insert _ _ _ _=>ah
 | .call c=>match c.callee with
  | .builtin .len=>ae
  | _=>ah
 | _=>ae
def H9 (P:Program) (o:Oper) (E:Env) (w:World) (K:SV->World->Prop):Prop:=match zF o.op with
 | true=>Ac P o E w K
 | false=>DG P o E w λs=>K s w
theorem QO {P:Program} {o:Oper} {E:Env} {w:World} {K:SV->World->Prop} (a:iz P=ah) (h:H9 P o E w K):yv P o E w K:=by
 unfold H9 at h;split at h
 ·exact QP a h
 ·obtain⟨s,b,_,c⟩:=QR h;exact b.S5 c
def rl (N:Nat) (E:Env) (dst:Option Tmp) (s:SV) (K:Env->Prop):Prop:=match dst with
 | none=>K E
 | some d=>match mv (d+1) N with
  | true=>K (E.put d s)
  | false=>False
theorem DR {N:Nat} {E:Env} {dst:Option Tmp} {s:SV} {K:Env->Prop} {a:Act} (h:rl N E dst s K) (b:bN N E a):∃c,bN N c (a.put dst s.val)/\K c:=by
 unfold rl at h
 cases dst with
 | none=>exact⟨E,b,h⟩
 | some d=>
  simp only at h;split at h
  ·rename_i hd;exact⟨_,b.put d (dH hd) s,h⟩
  ·exact h.elim
def tA (ops:List Oper) (j:Nat):Option Tmp:=match ops[j]? with
 | some o=>o.dst
 | none=>ag
def CV (ops:List Oper) (o:Oper) (E:Env) (run skip:Env->Prop):Prop:=match o.guard with
 | none=>run E
 | some (j,want)=>match tA ops j with
  | none=>False
  | some d=>match E.get d with
   | .b ah=>match want with
    | true=>run E
    | false=>skip E
   | .b ae=>match want with
    | true=>skip E
    | false=>run E
   | .v (.bool x)=>(x=want->run (E.put d (.b want)))/\(x=(!want)->skip (E.put d (.b (!want))))
   | .v (.tuple _)=>skip E
   | _=>False
def nR (ops:List Oper) (E:Env) (o:Oper) (a:Act):Prop:=
 ∀j want d,o.guard=aa (j,want)->tA ops j=aa d->∀v,(E.get d).val?=aa v->a.tmps[d]?=aa v
def uu (E a:Env):Prop:=∀t,(a.get t).val?=(E.get t).val?
theorem uu.refl (E:Env):uu E E:=λ_=>rfl
theorem Ry {E:Env} {d:Nat} {b:Bool} (h:(E.get d).val?=aa (.bool b)):uu E (E.put d (.b b)):=by
 intro t;rw[Env.CR];split
 ·rename_i a;subst a;rw[h];rfl
 ·rfl
theorem bN.same {N:Nat} {E b:Env} {a:Act} (h:bN N E a) (hs:uu E b):bN N b a:=
 ⟨h.size,h.jb,λt x c=>h.l7 t x (by rw[<-hs t];exact c)⟩
theorem bN.CU {N:Nat} {E:Env} {a:Act} (h:bN N E a) (ops:List Oper) (o:Oper):nR ops E o a:=λ_ _ d _ _ v b=>h.l7 d v b
def wantedAt (ops:Array Oper) (o:Oper) (a:Act):Bool:=Region.wanted o (yielded ops a.tmps)
theorem ajL {ops:Array Oper} {l:List Oper} (c:ops.toList=l) {a:Act} {j d:Nat} (hd:tA l j=aa d):yielded ops a.tmps j=match a.tmps[d]? with|some (.bool b)=>aa b|_=>ag:=by
 have e:(ops[j]?).bind (·.dst)=aa d:=by
  subst c;unfold tA at hd
  cases h:ops[j]? with
  | none=>simp[h]at hd
  | some o=>simpa [h]using hd
 unfold yielded;rw[e];rfl
theorem CW {ops:Array Oper} {l:List Oper} (i:ops.toList=l) {o:Oper} {E:Env} {run skip:Env->Prop} (h:CV l o E run skip) :
  ∃f,uu E f/\((run f/\∀a,nR l E o a->wantedAt ops o a=ah)∨(skip f/\∀a,nR l E o a->wantedAt ops o a=ae)):=by
 unfold CV at h;split at h
 ·rename_i e;exact⟨E,.refl E,.inl ⟨h,λa _=>by simp[wantedAt,Region.wanted,e]⟩⟩
 ·rename_i j want e;split at h
  ·exact h.elim
  ·rename_i d hd
   have key:∀(a:Act) (v:Value),nR l E o a->(E.get d).val?=aa v->wantedAt ops o a=((match v with|.bool b=>aa b|_=>ag)==aa want):=by
    intro a v c k;simp only[wantedAt,Region.wanted,e];rw[ajL i hd,c j want d e hd v k];cases v<;>rfl
   split at h
   ·rename_i he
    cases want with
    | true=>exact⟨E,.refl E,.inl ⟨h,λa c=>by rw[key a _ c (by rw[he];rfl)];rfl⟩⟩
    | false=>exact⟨E,.refl E,.inr ⟨h,λa c=>by rw[key a _ c (by rw[he];rfl)];rfl⟩⟩
   ·rename_i he
    cases want with
    | true=>exact⟨E,.refl E,.inr ⟨h,λa c=>by rw[key a _ c (by rw[he];rfl)];rfl⟩⟩
    | false=>exact⟨E,.refl E,.inl ⟨h,λa c=>by rw[key a _ c (by rw[he];rfl)];rfl⟩⟩
   ·rename_i x he;by_cases m:x=want
    ·subst m;exact⟨_,Ry (by rw[he];rfl),.inl ⟨h.1 rfl,λa c=>by rw[key a _ c (by rw[he];rfl)];simp⟩⟩
    ·have g:x = !want:=by cases x<;>cases want<;>simp_all
     subst g;exact⟨_,Ry (by rw[he];rfl),.inr ⟨h.2 rfl,λa c=>by rw[key a _ c (by rw[he];rfl)];cases want<;>rfl⟩⟩
   ·rename_i he;exact⟨E,.refl E,.inr ⟨h,λa c=>by rw[key a _ c (by rw[he];rfl)];rfl⟩⟩
   ·exact h.elim
def rv (P:Program) (N:Nat) (ops:List Oper):List Oper->Env->World->(Env->World->Prop)->Prop
 | [],E,w,K=>K E w
 | o::os,E,w,K=>CV ops o E
   (λE=>H9 P o E w λs w'=>rl N E o.dst s λE=>rv P N ops os E w' K)
   (λE=>rl N E o.dst (.v undef) λE=>rv P N ops os E w K)
theorem D7 {P:Program} {N:Nat} {ops:Array Oper} {l:List Oper} (g:iz P=ah) (i:ops.toList=l) {Q:Exit->Act->World->Prop} {K:Env->World->Prop}
  (j:∀E a w,bN N E a->K E w->Q .normal a w):∀(os:List Oper) (E:Env) (a:Act) (w:World),bN N E a->rv P N l os E w K->wpList P ops Q os a w
 | [],E,a,w,e,h=>j E a w e h
 | o::os,E,a,w,e,h=>by
  obtain⟨k,hs,h⟩:=CW i h;have c:=e.same hs;unfold wpList;rcases h with⟨h,b⟩|⟨h,b⟩
  ·have b:=b a (e.CU l o);unfold wantedAt at b;rw[ar b];refine .inl (QO g h a (c.reads o) _ Q (λs w' f=>?_));obtain⟨E2,d,f⟩:=DR f c;exact D7 g i j os E2 _ w' d f
  ·have b:=b a (e.CU l o);unfold wantedAt at b;rw[af (by rw[b];simp)];obtain⟨E2,d,f⟩:=DR h c;exact D7 g i j os E2 _ w d f
def qO (e:Edge):Bool:=match e.ground with
 | .textOnly _=>ae
 | .gcOnly _=>ae
 | _=>ah
theorem Kg (e:Edge):Region.binds .any e=qO e:=by
 obtain⟨on,g⟩:=e;cases g<;>rfl
def tn (B:List Nat) (es:List Edge):Nat:=es.foldr (λe s=>match qO e with
 | true=>s||| (2 ^ e.on||| B.getD e.on 0)
 | false=>s) 0
def ns:List Oper->List Nat->List Nat
 | [],B=>B
 | o::os,B=>ns os (B++[tn B o.after.toList])
def slotsOf (ops:List Oper) (o:Oper):List Tmp:=
 (o.op.operands.toList.filterMap λx=>match x with
  | .tmp t=>aa t
  | _=>ag)++
 (match o.guard with
   | some (j,_)=>(tA ops j).toList
   | none=>[])
def yS (x:Option Tmp) (t:Tmp):Bool:=match x with
 | some d=>dz d t
 | none=>ae
def uI (N:Nat) (B:List Nat):Nat->List Oper->Bool
 | _,[]=>ah
 | i,o::os=>dz (B.getD i 0) (tn B o.after.toList)&&o.after.toList.all (λe=>!qO e||mv (e.on+1) i)&&
   (match o.dst with
       | some d=>mv (d+1) N
       | none=>ah)&&uI N B (i+1) os
def zf (ops:List Oper) (B:List Nat) (i:Nat) (o:Oper) (t:Tmp):Nat->List Oper->Bool
 | _,[]=>ah
 | j,p::a=>(!yS p.dst t||dz i j||(B.getD i 0).testBit j||(B.getD j 0).testBit i)&&zf ops B i o t (j+1) a
def uJ (ops:List Oper) (B:List Nat):Nat->List Oper->Bool
 | _,[]=>ah
 | i,o::os=>(slotsOf ops o).all (λt=>zf ops B i o t 0 ops)&&(match o.dst with
   | some d=>os.all λp=>!yS p.dst d
   | none=>ah)&&uJ ops B (i+1) os
def I0 (P:Program) (o:Oper) (E:Env) (w:World) (s:SV):Prop:=match o.op with
 | .load t a=>match jT P t with
  | false=>match dJ P t with
   | true=>da (bT E a) λv=>sG v λad=>w.cell? ad=aa s.val
   | false=>False
  | true=>match dJ P t with
   | true=>match s with
    | .v (.agg cs)=>match dz cs.toList.length (bX P t)with
     | true=>da (bT E a) λv=>sG v λad=>JA w ad cs.toList
     | false=>False
    | _=>Quiet P o E w s
   | false=>False
 | _=>Quiet P o E w s
def yf (P:Program) (ops:List Oper) (Bi:Nat) (w:World):List (Nat×Env×SV)->Prop->Prop
 | [],X=>X
 | (j,E,s)::r,X=>match Bi.testBit j with
  | true=>yf P ops Bi w r X
  | false=>match ops[j]? with
   | some o=>I0 P o E w s/\yf P ops Bi w r X
   | none=>False
section draw
variable {P:Program} {N:Nat} {opa:Array Oper} {ops:List Oper} {B:List Nat} {E0:Env} {a0:Act}
theorem acv {o:Oper} {E:Env} {w:World} {s:SV} (h:I0 P o E w s):Quiet P o E w s:=by
 unfold I0 at h;split at h
 ·rename_i t x c;split at h
  ·rename_i d;split at h
   ·rename_i hk;obtain⟨v,e,_,h⟩:=dj h;obtain⟨ad,f,g⟩:=tO h;subst f;intro a i;have j:(loadVar t ad).run P w=.ok s.val w:=by simp[loadVar,xV hk,d,g]
    simp[execOp,c,i x (by simp[c,ch]) _ e,Instr.loadAt,ux,j]
   ·exact h.elim
  ·rename_i d;split at h
   ·rename_i hk;split at h
    ·rename_i cs;split at h
     ·rename_i k;obtain⟨v,e,_,h⟩:=dj h;obtain⟨ad,f,g⟩:=tO h;subst f;intro a i;have b:=iG k
      have j:(loadVar t ad).run P w=.ok (.agg cs) w:=by
       have:=run_loadCells_list (P:=P) w ad cs.toList g;simp only[Array.length_toList]at b;simp[loadVar,xV hk,d,mL hk,<-b]at this⊢;rw[this];rfl
      simp[execOp,c,i x (by simp[c,ch]) _ e,Instr.loadAt,ux,j,SV.val]
     ·exact h.elim
    ·exact h
   ·exact h.elim
 ·exact h
theorem I1 {Bi:Nat} {w:World}:∀{db:List (Nat×Env×SV)} {X:Prop},yf P ops Bi w db X->
  X/\∀j E s,(j,E,s)∈db->Bi.testBit j=ae->∃o,ops[j]?=aa o/\Quiet P o E w s
 | [],_,h=>⟨h,λ_ _ _ b=>by cases b⟩
 | (j,E,s)::r,X,h=>by
  unfold yf at h;split at h
  ·rename_i k;obtain⟨c,d⟩:=I1 h;refine⟨c,λe f g b a=>?_⟩;rcases eN.1 b with i|b
   ·cases i;rw[k]at a;cases a
   ·exact d e f g b a
  ·split at h
   ·rename_i o l;obtain⟨c,d⟩:=I1 h.2;refine⟨c,λe f g b a=>?_⟩;rcases eN.1 b with i|b
    ·cases i;exact⟨o,l,acv h.1⟩
    ·exact d e f g b a
   ·exact h.elim
def writes (ops:List Oper) (j:Nat) (t:Tmp):Prop:=tA ops j=aa t
theorem EI {j:Nat} {t:Tmp} (h:writes ops j t):∃o,ops[j]?=aa o/\o.dst=aa t:=by
 unfold writes tA at h
 cases a:ops[j]? with
 | none=>rw[a]at h;cases h
 | some o=>rw[a]at h;exact⟨o,rfl,h⟩
theorem EH {j:Nat} {t:Tmp} {o:Oper} (a:ops[j]?=aa o):writes ops j t↔o.dst=aa t:=by
 simp[writes,tA,a]
theorem Ke {x:Option Tmp} {t:Tmp}:yS x t=ah↔x=aa t:=by
 cases x with
 | none=>simp[yS]
 | some d=>simp[yS]
theorem Mz:∀{os:List Oper} {k:Nat},uI N B k os=ah->∀i o,os[i]?=aa o->
  B.getD (k+i) 0=tn B o.after.toList/\(∀e∈o.after.toList,qO e=ah->e.on<k+i)/\(∀d,o.dst=aa d->d<N)
 | [],_,_,i,o,a=>by simp at a
 | p::os,k,h,i,o,a=>by
  simp only[uI,br]at h;obtain⟨⟨⟨c,f⟩,b⟩,g⟩:=h
  cases i with
  | zero=>
   simp only[vX,Option.some.injEq]at a;subst a;refine⟨iG c,λe j l=>?_,λd hd=>?_⟩
   ·have:=gx.1 f e j;rw[l]at this;exact dH (by simpa using this)
   ·rw[hd]at b
    exact dH b
  | succ i=>
   have:=Mz g i o (by simpa using a);rw[show k+1+i=k+(i+1) by omega]at this;exact this
theorem TJ {es:List Edge} {j:Nat}:(tn B es).testBit j=ah↔∃e∈es,qO e=ah/\(e.on=j∨(B.getD e.on 0).testBit j=ah):=by
 induction es with
 | nil=>simp[tn]
 | cons e es b=>
  simp only[tn,List.foldr_cons];rw[show es.foldr (λe s=>match qO e with|true=>s||| (2 ^ e.on||| B.getD e.on 0)|false=>s) 0=tn B es from rfl]
  cases c:qO e with
  | false=>
   simp only[eN];rw[b];constructor
   ·rintro⟨x,a,h⟩;exact⟨x,.inr a,h⟩
   ·rintro⟨x,rfl|a,h⟩
    ·rw[c]at h;cases h.1
    ·exact⟨x,a,h⟩
  | true=>
   simp only[Nat.testBit_or,ik,b,Nat.testBit_two_pow,decide_eq_true_eq,eN];constructor
   ·rintro(⟨x,a,h⟩|h)
    ·exact⟨x,.inr a,h⟩
    ·exact⟨e,.inl rfl,c,h⟩
   ·rintro⟨x,rfl|a,h⟩
    ·exact .inr h.2
    ·exact .inl ⟨x,a,h⟩
theorem MB {i:Nat} {o:Oper} {t:Tmp}:∀{c:List Oper} {k:Nat},zf ops B i o t k c=ah->∀j p,c[j]?=aa p->p.dst=aa t->
  i=k+j∨(B.getD i 0).testBit (k+j)=ah∨(B.getD (k+j) 0).testBit i=ah
 | [],_,_,j,p,b,_=>by simp at b
 | q::c,k,h,j,p,b,d=>by
  simp only[zf,br,ik]at h
  cases j with
  | zero=>
   simp only[vX,Option.some.injEq]at b;subst b;rcases h.1 with((a|a)|a)|a
   ·rw[Ke.2 d]at a;cases a
   ·exact .inl (iG a)
   ·exact .inr (.inl a)
   ·exact .inr (.inr a)
  | succ j=>
   have:=MB h.2 j p (by simpa using b) d;rw[show k+1+j=k+(j+1) by omega]at this;exact this
theorem B8:∀{os:List Oper} {k:Nat},uJ ops B k os=ah->∀i o,os[i]?=aa o->
  (∀t∈slotsOf ops o,zf ops B (k+i) o t 0 ops=ah)/\(∀d,o.dst=aa d->∀j p,i<j->os[j]?=aa p->p.dst≠aa d)
 | [],_,_,i,o,a=>by simp at a
 | q::os,k,h,i,o,a=>by
  simp only[uJ,br]at h;obtain⟨⟨f,e⟩,g⟩:=h
  cases i with
  | zero=>
   simp only[vX,Option.some.injEq]at a;subst a;refine⟨λt l=>gx.1 f t l,λd hd j p m b=>?_⟩;rw[hd]at e
   cases j with
   | zero=>omega
   | succ j=>
    have:=gx.1 e p (List.mem_of_getElem? (by simpa using b));intro c;rw[Ke.2 c]at this
    cases this
  | succ i=>
   have:=B8 g i o (by simpa using a);rw[show k+1+i=k+(i+1) by omega]at this;refine⟨this.1,λd hd j p m b=>?_⟩
   cases j with
   | zero=>omega
   | succ j=>exact this.2 d hd j p (by omega) (by simpa using b)
structure Good (N:Nat) (ops:List Oper) (B:List Nat):Prop where
 CF:∀i o,ops[i]?=aa o->B.getD i 0=tn B o.after.toList/\(∀e∈o.after.toList,qO e=ah->e.on<i)/\(∀d,o.dst=aa d->d<N)
 cmp:∀i o,ops[i]?=aa o->∀t∈slotsOf ops o,∀j,writes ops j t->i=j∨(B.getD i 0).testBit j=ah∨(B.getD j 0).testBit i=ah
 once:∀i j t,writes ops i t->writes ops j t->i=j
theorem W5 (g:uI N B 0 ops=ah) (c:uJ ops B 0 ops=ah):Good N ops B:=by
 refine⟨λi o d=>?_,λi o d t k j e=>?_,λi j t hi e=>?_⟩
 ·have:=Mz g i o d
  rwa [fv]at this
 ·have:=(B8 c i o d).1 t k;rw[fv]at this;obtain⟨p,b,hd⟩:=EI e;have:=MB this j p b hd
  rwa [fv]at this
 ·obtain⟨p,b,hd⟩:=EI hi;obtain⟨q,f,a⟩:=EI e;rcases Nat.lt_trichotomy i j with h|h|h
  ·exact absurd a ((B8 c i p b).2 t hd j q h f)
  ·exact h
  ·exact absurd hd ((B8 c j q f).2 t a i p h b)
def vz (B:List Nat) (m:Nat):Prop:=∀j,m.testBit j=ah->∀k,(B.getD j 0).testBit k=ah->m.testBit k=ah
def AR (B:List Nat) (b:Nat->Bool):Prop:=∀j,b j=ah->∀k,(B.getD j 0).testBit k=ah->b k=ah
def oX (ops:List Oper) (E0:Env) (m:Nat) (V:Nat->Value) (E:Env):Prop:=
 ∀t x,(E.get t).val?=aa x->(∀j,writes ops j t->m.testBit j=ah->V j=x)/\((∀j,writes ops j t->m.testBit j=ae)->(E0.get t).val?=aa x)
structure uh (N:Nat) (ops:List Oper) (a0:Act) (b:Nat->Bool) (V:Nat->Value) (a:Act):Prop where
 size:a.tmps.size=N
 jb:a.defers=[]
 done:∀t j,writes ops j t->b j=ah->a.tmps[t]?=aa (V j)
 mI:∀t,(∀j,writes ops j t->b j=ae)->a.tmps[t]?=a0.tmps[t]?
theorem oX.same {m:Nat} {V:Nat->Value} {E a:Env} (h:oX ops E0 m V E) (hs:uu E a):oX ops E0 m V a:=
 λt x b=>h t x (by rw[<-hs t];exact b)
theorem IT (r:Good N ops B) (s:bN N E0 a0) {m:Nat} {b:Nat->Bool} {V:Nat->Value} {E:Env} {a:Act} {i:Nat} {o:Oper}
  (F:vz B m) (G:AR B b) (n:oX ops E0 m V E) (p:uh N ops a0 b V a) (H:ops[i]?=aa o)
  (f:m.testBit i=ae) (g:b i=ae) (u:∀k,(B.getD i 0).testBit k=ah->m.testBit k=ah) (y:∀k,(B.getD i 0).testBit k=ah->b k=ah)
  {t:Tmp} (I:t∈slotsOf ops o) {x:Value} (q:(E.get t).val?=aa x):a.tmps[t]?=aa x:=by
 have l:∀j,writes ops j t->(i=j∨(B.getD j 0).testBit i=ah)->m.testBit j=ae/\b j=ae:=by
  intro j _ e;rcases e with rfl|e
  ·exact⟨f,g⟩
  ·refine⟨?_,?_⟩
   ·cases z:m.testBit j with
    | false=>rfl
    | true=>rw[F j z i e]at f;cases f
   ·cases A:b j with
    | false=>rfl
    | true=>rw[G j A i e]at g;cases g
 by_cases hw:∃j,writes ops j t
 ·obtain⟨j,h⟩:=hw;rcases r.cmp i o H t I j h with e|e|e
  ·obtain⟨C,D⟩:=l j h (.inl e);have c:∀k,writes ops k t->k=j:=λk d=>r.once k j t d h;rw[p.mI t (λk d=>by rw[c k d];exact D)];exact s.l7 t x ((n t x q).2 (λk d=>by rw[c k d];exact C))
  ·rw[p.done t j h (y j e),(n t x q).1 j h (u j e)]
  ·obtain⟨C,D⟩:=l j h (.inr e);have c:∀k,writes ops k t->k=j:=λk d=>r.once k j t d h;rw[p.mI t (λk d=>by rw[c k d];exact D)];exact s.l7 t x ((n t x q).2 (λk d=>by rw[c k d];exact C))
 ·rw[p.mI t (λk d=>absurd ⟨k,d⟩ hw)];exact s.l7 t x ((n t x q).2 (λk d=>absurd ⟨k,d⟩ hw))
theorem It {E:Env} {o:Oper} {a:Act} (h:∀t∈slotsOf ops o,∀x,(E.get t).val?=aa x->a.tmps[t]?=aa x):Reads E o a/\nR ops E o a:=by
 constructor
 ·intro x e v b
  cases x with
  | tmp t=>
   have i:t∈slotsOf ops o:=by
    unfold slotsOf;refine dS.2 (.inl (List.mem_filterMap.2 ⟨.tmp t,by simpa using e,rfl⟩))
   have:=h t i v b
   simp[Act.eval,this]
  | const c=>cases c<;>simp_all [bT,SV.val?,Act.eval]
  | global g=>simpa [bT,SV.val?,Act.eval]using b
  | func f=>simpa [bT,SV.val?,Act.eval]using b
 ·intro j want d k hd v b;refine h d ?_ v b;unfold slotsOf;refine dS.2 (.inr ?_);rw[k];simp[hd]
def gn (b:Nat->Bool) (i:Nat):Nat->Bool:=λj=>if j=i then ah else b j
def jO (V:Nat->Value) (i:Nat) (v:Value):Nat->Value:=λj=>if j=i then v else V j
theorem JP (q:Good N ops B) {b:Nat->Bool} {V:Nat->Value} {a:Act} {i:Nat} {o:Oper} (h:uh N ops a0 b V a) (n:ops[i]?=aa o) (v:Value) (r:V i=v) :
  uh N ops a0 (gn b i) V (a.put o.dst v):=by
 cases hd:o.dst with
 | none=>
  refine⟨h.size,h.jb,λt j f m=>?_,λt c=>?_⟩
  ·have g:j≠i:=by
    rintro rfl;rw[EH n,hd]at f;cases f
   simp only[gn,g,if_false]at m;exact h.done t j f m
  ·refine h.mI t (λj f=>?_);have:=c j f;simp only[gn]at this;split at this
   ·cases this
   ·exact this
 | some d=>
  have p:=(q.CF i o n).2.2 d hd;have k:writes ops i d:=(EH n).2 hd;refine⟨by simpa [Act.put]using h.size,h.jb,λt j f m=>?_,λt c=>?_⟩
  ·by_cases g:j=i
   ·subst g;have:d=t:=by unfold writes at k f;rw[k]at f;exact Option.some.inj f
    subst this;simp[Act.put,h.size,p,r]
   ·simp only[gn,g,if_false]at m;have l:d≠t:=λe=>g (q.once j i t f (e ▸ k));simp only[Act.put];rw[Array.getElem?_setIfInBounds_ne l];exact h.done t j f m
  ·have l:d≠t:=λe=>by
    have:=c i (e ▸ k);simp[gn]at this
   simp only[Act.put];rw[Array.getElem?_setIfInBounds_ne l];refine h.mI t (λj f=>?_);have:=c j f;simp only[gn]at this;split at this
   ·cases this
   ·exact this
theorem lZ {m i j:Nat}:(m||| 2 ^ i).testBit j=(m.testBit j||decide (i=j)):=by
 rw[Nat.testBit_or,Nat.testBit_two_pow]
theorem G5 (q:Good N ops B) {m:Nat} {V:Nat->Value} {E:Env} {i:Nat} {o:Oper} (k:oX ops E0 m V E) (n:ops[i]?=aa o) (r:m.testBit i=ae) {s:SV} {K:Env->Prop}
  (h:rl N E o.dst s K):∃p,K p/\oX ops E0 (m||| 2 ^ i) (jO V i s.val) p:=by
 unfold rl at h
 cases hd:o.dst with
 | none=>
  rw[hd]at h;refine⟨E,h,λt x f=>⟨λj b g=>?_,λa=>?_⟩⟩
  ·have c:j≠i:=by
    rintro rfl;rw[EH n,hd]at b;cases b
   rw[lZ]at g;simp only[jO,c,if_false];exact(k t x f).1 j b (by simpa [Ne.symm c]using g)
  ·refine(k t x f).2 (λj b=>?_);have:=a j b;rw[lZ]at this;simp only[Bool.or_eq_false_iff]at this
   exact this.1
 | some d=>
  rw[hd]at h;simp only at h;split at h
  ·have e:writes ops i d:=(EH n).2 hd;refine⟨_,h,λt x f=>?_⟩;rw[Env.CR]at f;by_cases l:t=d
   ·subst l;rw[ar rfl]at f;refine⟨λj b _=>?_,λa=>?_⟩
    ·have:j=i:=q.once j i t b e;subst this;simp only[jO,if_true];cases s<;>simp_all [SV.val?,SV.val]
    ·have:=a i e;rw[lZ]at this;simp at this
   ·rw[af l]at f;refine⟨λj b g=>?_,λa=>?_⟩
    ·have c:j≠i:=by
      rintro rfl;unfold writes at e b;rw[e]at b;exact l (Option.some.inj b).symm
     rw[lZ]at g;simp only[jO,c,if_false];exact(k t x f).1 j b (by simpa [Ne.symm c]using g)
    ·refine(k t x f).2 (λj b=>?_);have:=a j b;rw[lZ]at this;simp only[Bool.or_eq_false_iff]at this;exact this.1
  ·exact h.elim
end draw
section draw2
variable {P:Program} {N:Nat} {opa:Array Oper} {ops:List Oper} {B:List Nat} {E0:Env} {a0:Act} {K:Env->World->Prop}
def Told (P:Program) (ops:List Oper) (opa:Array Oper) (B:List Nat) (E0:Env) (m:Nat) (V:Nat->Value) (w:World) (db:List (Nat×Env×SV)) (i:Nat):Prop:=
 ∃o E mi,ops[i]?=aa o/\vz B mi/\mi.testBit i=ae/\(∀k,(B.getD i 0).testBit k=ah->mi.testBit k=ah)/\(∀k,mi.testBit k=ah->m.testBit k=ah)/\
  oX ops E0 mi V E/\
  (((∀a,nR ops E o a->wantedAt opa o a=ah)/\∃s,Quiet P o E w s/\(qe P o=ae->∀w',Quiet P o E w' s)/\(qe P o=ah->(i,E,s)∈db)/\s.val=V i)∨
     ((∀a,nR ops E o a->wantedAt opa o a=ae)/\V i=undef))
theorem G7 {m mi:Nat} {V:Nat->Value} {E:Env} {i:Nat} (h:oX ops E0 mi V E) (hs:∀k,mi.testBit k=ah->m.testBit k=ah) (a:m.testBit i=ae) (v:Value) :
  oX ops E0 mi (jO V i v) E:=λt x b=>⟨λj d c=>by
   have:j≠i:=by rintro rfl;rw[hs j c]at a;cases a
   simp only[jO,this,if_false];exact(h t x b).1 j d c,(h t x b).2⟩
theorem Je {m:Nat} {V:Nat->Value} {w:World} {db pend':List (Nat×Env×SV)} {i j:Nat} {v:Value} (h:Told P ops opa B E0 m V w db j) (g:m.testBit j=ah)
  (a:m.testBit i=ae) (l:∀x,x∈db->x∈pend'):Told P ops opa B E0 (m||| 2 ^ i) (jO V i v) w pend' j:=by
 obtain⟨o,E,mi,n,p,q,r,f,t,b⟩:=h;have c:j≠i:=by rintro rfl;rw[g]at a;cases a
 refine⟨o,E,mi,n,p,q,r,λk u=>by rw[lZ,f k u];rfl,G7 t f a v,?_⟩;simp only[jO,c,if_false];rcases b with⟨b,s,y,z,d,e⟩|b
 ·exact .inl ⟨b,s,y,z,λA=>l _ (d A),e⟩
 ·exact .inr b
theorem FR {m i:Nat} (h:vz B m) (hB:∀k,(B.getD i 0).testBit k=ah->m.testBit k=ah):vz B (m||| 2 ^ i):=by
 intro j a k b;rw[lZ]at a⊢;simp only[ik,decide_eq_true_eq]at a⊢;rcases a with a|rfl
 ·exact .inl (h j a k b)
 ·exact .inl (hB k b)
def cK (l:Array Bool):Nat->Bool:=λi=>l.getD i ae
theorem mem_ready {l:Array Bool} (f:opa.toList=ops) (hs:l.size=ops.length) {i:Nat} (hi:i∈Region.ready .any opa l) :
  ∃o,ops[i]?=aa o/\cK l i=ae/\∀e∈o.after.toList,qO e=ah->e.on<ops.length->cK l e.on=ah:=by
 unfold Region.ready at hi;rw[gC,dh]at hi;obtain⟨g,a⟩:=hi;have h:opa.size=ops.length:=by rw[<-f];simp
 simp only[br]at a;obtain⟨a,c⟩:=a;have b:opa[i]?=aa opa[i]:=BD g;have j:ops[i]?=aa opa[i]:=by rw[<-f];simp
 refine⟨_,j,?_,λe k m n=>?_⟩
 ·have d:i<l.size:=by omega
  simp only[cK,yJ,BD d,gA]at a⊢;simpa using a
 ·rw[b]at c;simp only[fX,gA]at c;rw[<-Array.all_toList]at c;have:=gx.1 c e k;rw[Kg,m]at this;simpa [cK]using this
end draw2
inductive OT where
 | fin
 | step (i:Nat) (t:OT)
 | alt (a b:OT)
def OT.pN:OT->List Nat
 | .fin=>[]
 | .step i _=>[i]
 | .alt a b=>a.pN++b.pN
def wS (ops:List Oper) (i:Nat):Bool:=match ops[i]? with
 | some o=>zF o.op
 | none=>ae
def Hj (ops:List Oper) (i:Nat):Bool:=match ops[i]? with
 | some o=>(match o.guard with|none=>ah|some _=>ae)
 | none=>ae
def zl (ops:List Oper) (B:List Nat) (m:Nat) (l:List Nat):Bool:=(b8 ops.length).all λi=>m.testBit i||l.any (dz i)||!(dz (B.getD i 0&&& m) (B.getD i 0))
def mA (ops:List Oper) (B:List Nat):Nat->Bool->OT->Bool
 | m,_,.fin=>dz m (2 ^ ops.length-1)
 | m,c,.step i t=>mv (i+1) ops.length&&!m.testBit i&&dz (B.getD i 0&&& m) (B.getD i 0)&&
   (match c with
    | true=>wS ops i&&Hj ops i
    | false=>(!wS ops i||zl ops B m [i]))&&mA ops B (m||| 2 ^ i) ae t
 | m,c,.alt a b=>(match c with
    | true=>ah
    | false=>!(a.pN++b.pN).isEmpty&&zl ops B m (a.pN++b.pN))&&mA ops B m ah a&&mA ops B m ah b
def lH (P:Program) (N:Nat) (ops:List Oper) (B:List Nat):OT->Env->World->List (Nat×Env×SV)->(Env->World->Prop)->Prop
 | .fin,E,w,_,K=>K E w
 | .step i L,E,w,db,K=>match ops[i]? with
  | none=>False
  | some o=>CV ops o E
   (λE=>match zF o.op with
    | false=>DG P o E w λs=>rl N E o.dst s λc=>lH P N ops B L c w (match qe P o with
     | true=>(i,E,s)::db
     | false=>db) K
    | true=>Ac P o E w λs w'=>yf P ops (B.getD i 0) w' db (rl N E o.dst s λc=>lH P N ops B L c w' db K))
   (λE=>rl N E o.dst (.v undef) λc=>lH P N ops B L c w db K)
 | .alt a b,E,w,db,K=>lH P N ops B a E w db K/\lH P N ops B b E w db K
def zo (P:Program) (N:Nat) (ops:List Oper) (L:OT) (E:Env) (w:World) (K:Env->World->Prop):Prop:=
 match uI N (ns ops []) 0 ops&&uJ ops (ns ops []) 0 ops&&mA ops (ns ops []) 0 ae L with
 | true=>∀w',w'.heap=w.heap->w'.os=w.os->w'.tape=w.tape->w'.output=w.output->lH P N ops (ns ops []) L E w' [] K
 | false=>False
def otL:List Nat->OT
 | []=>.fin
 | i::l=>.step i (otL l)
def drawTX (P:Program) (N:Nat) (ops:List Oper) (L:OT) (E:Env) (w:World) (K:Env->World->Prop):Prop:=
 match uI N (ns ops []) 0 ops&&uJ ops (ns ops []) 0 ops&&mA ops (ns ops []) 0 ae L with
 | true=>∀w',w'.heap=w.heap->w'.os=w.os->w'.tape=w.tape->w'.output=w.output->w'.drawn=w.drawn+1->lH P N ops (ns ops []) L E w' [] K
 | false=>False
section draw3
variable {P:Program} {N:Nat} {opa:Array Oper} {ops:List Oper} {B:List Nat} {E0:Env} {a0:Act} {K:Env->World->Prop}
def JL (P:Program) (N:Nat) (ops:List Oper) (opa:Array Oper) (B:List Nat) (m:Nat) (E:Env) (w:World) (db:List (Nat×Env×SV)) (K:Env->World->Prop) (e:Nat):Prop:=
 ∃o t b,ops[e]?=aa o/\zF o.op=ah/\e<ops.length/\m.testBit e=ae/\(∀k,(B.getD e 0).testBit k=ah->m.testBit k=ah)/\mA ops B (m||| 2 ^ e) ae t=ah/\
  uu E b/\(∀a,nR ops E o a->wantedAt opa o a=ah)/\Ac P o b w λs w'=>yf P ops (B.getD e 0) w' db (rl N b o.dst s λE2=>lH P N ops B t E2 w' db K)
def SP (P:Program) (N:Nat) (ops:List Oper) (opa:Array Oper) (B:List Nat) (m:Nat) (E:Env) (w:World) (db:List (Nat×Env×SV)) (K:Env->World->Prop):Prop:=
 ((∀i,i<ops.length->m.testBit i=ah)/\K E w)∨∃l,l≠[]/\zl ops B m l=ah/\∀e∈l,JL P N ops opa B m E w db K e
structure AU (P:Program) (N:Nat) (ops:List Oper) (opa:Array Oper) (B:List Nat) (E0:Env) (a0:Act) (K:Env->World->Prop) (b:Nat->Bool) (a:Act) (w:World) where
 m:Nat
 V:Nat->Value
 E:Env
 db:List (Nat×Env×SV)
 closed:vz B m
 sub:∀i,b i=ah->m.testBit i=ah
 env:oX ops E0 m V E
 act:uh N ops a0 b V a
 told:∀i,m.testBit i=ah->b i=ae->Told P ops opa B E0 m V w db i
 zg:AR B b
 bS:SP P N ops opa B m E w db K
theorem Vy {m:Nat} {l:List Nat} (h:zl ops B m l=ah) {i:Nat} (hi:i<ops.length) (b:m.testBit i=ae) (hB:∀k,(B.getD i 0).testBit k=ah->m.testBit k=ah):i∈l:=by
 have:=gx.1 h i (dh.2 hi);rw[b,n9,ik]at this;rcases this with a|a
 ·obtain⟨x,c,d⟩:=mn.1 a;rw[iG d];exact c
 ·exfalso
  have e:B.getD i 0&&& m=B.getD i 0:=by
   apply Nat.eq_of_testBit_eq;intro k;rw[vY]
   cases hk:(B.getD i 0).testBit k with
   | false=>rfl
   | true=>rw[hB k hk];rfl
  rw[e,uy]at a;cases a
theorem acy {m i:Nat} (h:dz (B.getD i 0&&& m) (B.getD i 0)=ah):∀k,(B.getD i 0).testBit k=ah->m.testBit k=ah:=by
 intro k a;have e:=iG h;rw[<-e,vY]at a;simp only[br]at a;exact a.2
theorem MA {m i:Nat} {b:Bool} {t:OT} (h:mA ops B m b (.step i t)=ah) :
  i<ops.length/\m.testBit i=ae/\(∀k,(B.getD i 0).testBit k=ah->m.testBit k=ah)/\(b=ah->wS ops i=ah/\Hj ops i=ah)/\(b=ae->wS ops i=ah->zl ops B m [i]=ah)/\mA ops B (m||| 2 ^ i) ae t=ah:=by
 simp only[mA,br]at h;obtain⟨⟨⟨⟨c,d⟩,e⟩,a⟩,f⟩:=h;refine⟨dH c,by simpa using d,acy e,?_,?_,f⟩
 ·rintro rfl;simpa using a
 ·rintro rfl g;simp only[ik]at a;rcases a with a|a
  ·rw[g]at a;cases a
  ·exact a
theorem BE (h:opa.toList=ops) {m:Nat} {E:Env} {w:World} {db:List (Nat×Env×SV)}:∀{t:OT},mA ops B m ah t=ah->lH P N ops B t E w db K->∀e∈t.pN,JL P N ops opa B m E w db K e
 | .fin,_,_,e,c=>by cases c
 | .step i t,f,hd,e,c=>by
  obtain⟨c1,c2,c3,c4,_,c6⟩:=MA f;obtain⟨c4,c5⟩:=c4 rfl;simp only[OT.pN,fV]at c;subst c;unfold lH at hd;unfold wS at c4;unfold Hj at c5
  cases k:ops[e]? with
  | none=>rw[k]at hd;exact hd.elim
  | some o=>
   rw[k]at hd c4 c5;simp only at hd c4 c5;obtain⟨q,hs,hd⟩:=CW h hd;rcases hd with⟨hd,l⟩|⟨hd,l⟩
   ·rw[c4]at hd;exact⟨o,t,q,k,c4,c1,c2,c3,c6,hs,l,hd⟩
   ·exfalso
    cases n:o.guard with
    | none=>
     have:=l ⟨#[],[]⟩ (λj want d p=>by rw[n]at p;cases p);unfold wantedAt Region.wanted at this;rw[n]at this
     simp at this
    | some g=>rw[n]at c5;cases c5
 | .alt a b,f,hd,e,c=>by
  simp only[mA,br]at f;unfold lH at hd;simp only[OT.pN,dS]at c;rcases c with c|c
  ·exact BE h f.1.2 hd.1 e c
  ·exact BE h f.2 hd.2 e c
theorem BC (J:opa.toList=ops) (R:Good N ops B) {b:Nat->Bool} {a:Act} {w:World} (l:AR B b) :
  ∀(L:OT) (m:Nat) (V:Nat->Value) (E:Env) (db:List (Nat×Env×SV)),mA ops B m ae L=ah->vz B m->(∀i,b i=ah->m.testBit i=ah)->
   oX ops E0 m V E->uh N ops a0 b V a->
   (∀i,m.testBit i=ah->b i=ae->Told P ops opa B E0 m V w db i)->lH P N ops B L E w db K->Nonempty (AU P N ops opa B E0 a0 K b a w)
 | .fin,m,V,E,db,p,g,u,I,q,C,c=>⟨⟨m,V,E,db,g,u,I,q,C,l,.inl ⟨λi hi=>by
   have e:=iG p;rw[e,Nat.testBit_two_pow_sub_one]
   simp[hi],c⟩⟩⟩
 | .alt x y,m,V,E,db,p,g,u,I,q,C,c=>by
  have h:=p;simp only[mA,br]at h;refine⟨⟨m,V,E,db,g,u,I,q,C,l,.inr ⟨x.pN++y.pN,(λe=>by rw[e]at h;exact absurd h.1.1.1 (by simp)),h.1.1.2,λe n=>?_⟩⟩⟩;unfold lH at c;rcases dS.1 n with n|n
  ·exact BE J h.1.2 c.1 e n
  ·exact BE J h.2 c.2 e n
 | .step i L,m,V,E,db,p,g,u,I,q,C,c=>by
  obtain⟨c1,c2,c3,_,c4,c5⟩:=MA p;unfold lH at c
  cases z:ops[i]? with
  | none=>rw[z]at c;exact c.elim
  | some o=>
   rw[z]at c;simp only at c;obtain⟨M,hs,c⟩:=CW J c;have r:=I.same hs
   have O:b i=ae:=by
    cases S:b i with
    | false=>rfl
    | true=>rw[u i S]at c2;cases c2
   have Q:∀a,nR ops M o a->nR ops E o a:=λa D j want d p g v U=>D j want d p g v (by rw[hs d];exact U);have Y:∀a,nR ops E o a->nR ops M o a:=λa D j want d p g v U=>D j want d p g v (by rw[<-hs d];exact U)
   have A:∀v,uh N ops a0 b (jO V i v) a:=λv=>⟨q.size,q.jb,λt j f S=>by
    have:j≠i:=by rintro rfl;rw[S]at O;cases O
    simp only[jO,this,if_false];exact q.done t j f S,q.mI⟩
   rcases c with⟨c,T⟩|⟨c,T⟩
   ·cases n:zF o.op with
    | true=>
     rw[n]at c;simp only at c;refine⟨⟨m,V,E,db,g,u,I,q,C,l,.inr ⟨[i],by simp,c4 rfl (by unfold wS;rw[z];exact n),λe Z=>?_⟩⟩⟩;obtain rfl:=fV.1 Z
     exact⟨o,L,M,z,n,c1,c2,c3,c5,hs,T,c⟩
    | false=>
     rw[n]at c;simp only at c;obtain⟨s,hq,W,c⟩:=QR c;obtain⟨E2,c,F⟩:=G5 R r z c2 c;refine BC J R l L (m||| 2 ^ i) (jO V i s.val) E2 _ c5 (FR g c3) (λj f=>by rw[lZ,u j f];rfl) F (A _) (λj f G=>?_) c;rw[lZ]at f;simp only[ik,decide_eq_true_eq]at f;rcases f with f|rfl
     ·exact Je (C j f G) f c2 (λx X=>by split<;>simp[X])
     ·refine⟨o,M,m,z,g,c2,c3,λk H=>by rw[lZ,H];rfl,G7 r (λk H=>H) c2 _,.inl ⟨λa D=>T a (Q a D),s,hq,W,λhr=>by rw[hr];simp,by simp[jO]⟩⟩
   ·obtain⟨E2,c,F⟩:=G5 R r z c2 c;refine BC J R l L (m||| 2 ^ i) (jO V i undef) E2 _ c5 (FR g c3) (λj f=>by rw[lZ,u j f];rfl) F (A _) (λj f G=>?_) c;rw[lZ]at f;simp only[ik,decide_eq_true_eq]at f;rcases f with f|rfl
    ·exact Je (C j f G) f c2 (λx X=>X)
    ·exact⟨o,M,m,z,g,c2,c3,λk H=>by rw[lZ,H];rfl,G7 r (λk H=>H) c2 _,.inr ⟨λa D=>T a (Q a D),by simp[jO]⟩⟩
theorem SE (hP:iz P=ah) (hl:opa.toList=ops) (G:Good N ops B) (h0:bN N E0 a0) {Q:Exit->Act->World->Prop}
  (hQ:∀E a w,bN N E a->K E w->Q .normal a w):∀(n:Nat) (l:Array Bool) (a:Act) (w:World),l.size=ops.length->
   ((b8 ops.length).filter λi=>!cK l i).length=n->AU P N ops opa B E0 a0 K (cK l) a w->wpAny P .any opa Q n l a w
 | 0,l,a,w,hs,hn,I=>by
  have H:∀i,i<ops.length->cK l i=ah:=by
   intro i hi
   cases u:cK l i with
   | true=>rfl
   | false=>
    have:i∈(b8 ops.length).filter λi=>!cK l i:=gC.2 ⟨dh.2 hi,by simp[u]⟩;rw[mq hn]at this;cases this
  refine⟨?_,?_⟩
  ·refine List.eq_nil_iff_forall_not_mem.2 (λi hi=>?_);obtain⟨o,p,u,_⟩:=mem_ready hl hs hi;rw[H i (dI.1 p).1]at u;cases u
  ·rcases I.bS with⟨_,hK⟩|⟨l',be,U,am⟩
   ·refine hQ I.E a w ⟨I.act.size,I.act.jb,λt x C=>?_⟩ hK;have hE:=I.env t x C;by_cases y:∃j,writes ops j t
    ·obtain⟨j,f⟩:=y;obtain⟨oj,cq,_⟩:=EI f;have J:=H j (dI.1 cq).1;rw[I.act.done t j f J,hE.1 j f (I.sub j J)]
    ·rw[I.act.mI t (λk z=>absurd ⟨k,z⟩ y)];exact h0.l7 t x (hE.2 (λk z=>absurd ⟨k,z⟩ y))
   ·cases l' with
    | nil=>exact absurd rfl be
    | cons e l'=>
     obtain⟨_,_,_,_,_,c1,c2,_⟩:=am e (by simp);rw[I.sub e (H e c1)]at c2
     cases c2
 | n+1,l,a,w,hs,hn,I=>by
  have eo:opa.size=ops.length:=by rw[<-hl];simp
  refine⟨λhr=>?_,λi hi=>?_⟩
  ·exfalso
   have cr:∃i,i<ops.length/\cK l i=ae:=by
    cases hf:(b8 ops.length).filter (λi=>!cK l i)with
    | nil=>rw[hf]at hn;cases hn
    | cons x r=>
     have C:x∈(b8 ops.length).filter (λi=>!cK l i):=by rw[hf];exact ij
     rw[gC,dh]at C;exact⟨x,C.1,by simpa using C.2⟩
   have bl:∀k,(∃i,i<=k/\i<ops.length/\cK l i=ae)->∃i,i<ops.length/\cK l i=ae/\∀j,j<i->cK l j=ah:=by
    intro k
    induction k with
    | zero=>
     rintro⟨i,hi,L,W⟩
     exact⟨i,L,W,λj f=>by omega⟩
    | succ k ih=>
     rintro⟨i,hi,L,W⟩;by_cases X:∃j,j<=k/\j<ops.length/\cK l j=ae
     ·exact ih X
     ·refine⟨i,L,W,λj f=>?_⟩
      cases u:cK l j with
      | true=>rfl
      | false=>exact absurd ⟨j,by omega,by omega,u⟩ X
   obtain⟨x,dc,dl⟩:=cr;obtain⟨i,L,W,h3⟩:=bl x ⟨x,b7 _,dc,dl⟩
   have g:i∈Region.ready .any opa l:=by
    unfold Region.ready;rw[gC,dh];have bm:i<opa.size:=by omega
    have bs:opa[i]?=aa opa[i]:=BD bm;have p:ops[i]?=aa opa[i]:=by rw[<-hl];simp
    refine⟨bm,?_⟩;rw[bs];simp only[fX,gA,br];constructor
    ·have ap:i<l.size:=by omega
     simp only[cK,yJ,BD ap,gA]at W⊢;simp[W]
    ·rw[<-Array.all_toList];refine gx.2 (λe he=>?_);rw[Kg]
     cases u:qO e with
     | false=>rfl
     | true=>
      have:=h3 e.on ((G.CF i _ p).2.1 e he u);simpa [cK]using this
   rw[hr]at g;cases g
  ·obtain⟨o,p,u,dn⟩:=mem_ready hl hs hi;have M:i<ops.length:=(dI.1 p).1;have bv:opa[i]?=aa o:=by rw[<-hl]at p;simpa using p
   have D:∀k,(B.getD i 0).testBit k=ah->cK l k=ah:=by
    intro k z;rw[(G.CF i o p).1]at z;obtain⟨e,he,bw,z⟩:=TJ.1 z;have bz:=dn e he bw (by have:=(G.CF i o p).2.1 e he bw;omega);rcases z with rfl|z
    ·exact bz
    ·exact I.zg e.on bz k z
   have ds:∀j,cK (l.setIfInBounds i ah) j=gn (cK l) i j:=by
    intro j;simp only[cK,gn,yJ,Array.getElem?_setIfInBounds];by_cases aq:j=i
    ·subst aq;simp[show j<l.size by omega]
    ·simp[aq,Ne.symm aq]
   have q:cK (l.setIfInBounds i ah)=gn (cK l) i:=funext ds
   have Y:AR B (cK (l.setIfInBounds i ah)):=by
    rw[q];intro j f k z;unfold gn at f⊢;by_cases c:j=i
    ·subst c;split
     ·rfl
     ·exact D k z
    ·rw[af c]at f;split
     ·rfl
     ·exact I.zg j f k z
   have R:((b8 ops.length).filter λj=>!cK (l.setIfInBounds i ah) j).length=n:=by
    have key:∀(r:List Nat),r.Nodup->i∈r->(r.filter λj=>!gn (cK l) i j).length+1=(r.filter λj=>!cK l j).length:=by
     intro r
     induction r with
     | nil=>intro _ h;cases h
     | cons x r ih=>
      intro S g;rw[ni]at S;rcases eN.1 g with rfl|g
      ·have L:(r.filter λj=>!gn (cK l) i j)=r.filter λj=>!cK l j:=by
        refine nZ (λj f=>?_);have:j≠i:=λe=>S.1 (e ▸ f);simp[gn,this]
       rw[vZ,vZ];simp[gn,u];simpa [gn]using congrArg iX L
      ·have dv:x≠i:=λe=>S.1 (e ▸ g);have L:=ih S.2 g;rw[vZ,vZ];have:gn (cK l) i x=cK l x:=by simp[gn,dv]
       rw[this];cases cK l x
       ·simp only[Bool.not_false,if_true,im];omega
       ·simpa using L
    have:=key (b8 ops.length) qF (dh.2 M);rw[q];omega
   have cb:(l.setIfInBounds i ah).size=ops.length:=by simpa using hs
   have A:∀a' w',Nonempty (AU P N ops opa B E0 a0 K (gn (cK l) i) a' w')->wpAny P .any opa Q n (l.setIfInBounds i ah) a' w':=by
    rintro a' w' ⟨I'⟩;exact SE hP hl G h0 hQ n _ a' w' cb R (q ▸ I')
   unfold wpOp;rw[bv];simp only
   cases F:I.m.testBit i with
   | true=>
    obtain⟨o',E,mi,L,W,h3,h4,h5,h6,h7⟩:=I.told i F u;rw[p]at L;obtain rfl:=Option.some.inj L;obtain⟨az,T⟩:=It (E:=E) (o:=o) (a:=a) (λt ht x C=>IT G h0 W I.zg h6 I.act p h3 u h4 D ht C)
    have fin:∀v,I.V i=v->Nonempty (AU P N ops opa B E0 a0 K (gn (cK l) i) (a.put o.dst v) w):=by
     intro v hv;refine⟨⟨I.m,I.V,I.E,I.db,I.closed,λj f=>?_,I.env,JP G I.act p v hv,λj f d=>?_,q ▸ Y,I.bS⟩⟩
     ·unfold gn at f;by_cases c:j=i
      ·rw[c];exact F
      ·rw[af c]at f;exact I.sub j f
     ·unfold gn at d;by_cases c:j=i
      ·rw[ar c]at d;cases d
      ·rw[af c]at d;exact I.told j f d
    rcases h7 with⟨y,s,hq,_,_,hv⟩|⟨y,hv⟩
    ·have y:=y a T;unfold wantedAt at y;rw[ar y];refine .inl ?_;unfold Oper.wp;rw[hq a az];exact A _ _ (fin _ hv.symm)
    ·have y:=y a T;unfold wantedAt at y;rw[af (by rw[y];simp)]
     exact A _ _ (fin _ hv)
   | false=>
    rcases I.bS with⟨hL,_⟩|⟨l',be,U,am⟩
    ·rw[hL i M]at F;cases F
    ·have ap:=Vy U M F (λk z=>I.sub k (D k z));obtain⟨oe,L',E',cc,ep,c1,c2,c3,c5,dx,ea,ec⟩:=am i ap;rw[p]at cc;obtain rfl:=Option.some.inj cc;have O:=I.env.same dx;obtain⟨az,_⟩:=It (E:=E') (o:=o) (a:=a) (λt ht x C=>IT G h0 I.closed I.zg O I.act p c2 u c3 D ht C);obtain⟨_,T⟩:=It (E:=I.E) (o:=o) (a:=a) (λt ht x C=>IT G h0 I.closed I.zg I.env I.act p c2 u c3 D ht C);have y:=ea a T;unfold wantedAt at y;rw[ar y];refine .inl (QP hP ec a az _ Q (λs w' ee=>A _ _ ?_));obtain⟨cd,bb⟩:=I1 ee;obtain⟨E2,eg,ei⟩:=G5 G O p c2 cd;refine BC hl G (b:=gn (cK l) i) (q ▸ Y) L' (I.m||| 2 ^ i) (jO I.V i s.val) E2 I.db c5 (FR I.closed c3) (λj f=>?_) ei ?_ (λj f d=>?_) eg
     ·unfold gn at f;rw[lZ];by_cases c:j=i
      ·simp[c]
      ·rw[af c]at f;rw[I.sub j f];rfl
     ·have hA:uh N ops a0 (cK l) (jO I.V i s.val) a:=⟨I.act.size,I.act.jb,λt j f J=>by
       have:j≠i:=by rintro rfl;rw[J]at u;cases u
       simp only[jO,this,if_false];exact I.act.done t j f J,I.act.mI⟩
      exact JP G hA p s.val (by simp[jO])
     ·unfold gn at d;by_cases c:j=i
      ·rw[ar c]at d;cases d
      ·rw[af c]at d
       have ce:I.m.testBit j=ah:=by
        rw[lZ]at f;simpa [Ne.symm c]using f
       have ht:=Je (i:=i) (v:=s.val) (pend':=I.db) (I.told j ce d) ce F (λx C=>C);obtain⟨oj,Ej,mj,t1,t2,t3,t4,t5,t6,t7⟩:=ht;refine⟨oj,Ej,mj,t1,t2,t3,t4,t5,t6,?_⟩;rcases t7 with⟨ej,sj,eq,Z,al,ek⟩|t7
       ·refine .inl ⟨ej,sj,?_,Z,al,ek⟩
        cases hr:qe P oj with
        | false=>exact Z hr w'
        | true=>
         have el:(B.getD i 0).testBit j=ae:=by
          cases em:(B.getD i 0).testBit j with
          | false=>rfl
          | true=>rw[D j em]at d;cases d
         obtain⟨o2,cl,en⟩:=bb j Ej sj (al hr) el;rw[t1]at cl;obtain rfl:=Option.some.inj cl;exact en
       ·exact .inr t7
theorem drawT_core (m:iz P=ah) (f:opa.toList=ops) {L:OT} {w:World} (g:bN N E0 a0) {Q:Exit->Act->World->Prop}
  (n:∀E a w,bN N E a->K E w->Q .normal a w) (k:(uI N (ns ops []) 0 ops&&uJ ops (ns ops []) 0 ops&&mA ops (ns ops []) 0 ae L)=ah) (h:lH P N ops (ns ops []) L E0 {w with drawn:=w.drawn+1} [] K):wpAny P .any opa Q opa.size (ph opa.size ae) a0 {w with drawn:=w.drawn+1}:=by
 simp only[br]at k;obtain⟨⟨p,q⟩,r⟩:=k;have l:=W5 p q;have d:opa.size=ops.length:=by rw[<-f];simp
 have e:∀i,cK (ph opa.size ae) i=ae:=by
  intro i;simp only[cK,yJ,Array.getElem?_replicate];split<;>rfl
 obtain⟨I⟩:=BC (P:=P) (K:=K) (E0:=E0) (a0:=a0) f l (b:=cK (ph opa.size ae)) (a:=a0) (w:={w with drawn:=w.drawn+1}) (λj c=>(by rw[e]at c;cases c)) L 0 (λ_=>undef) E0 [] r
  (λj c=>(by simp at c)) (λj c=>(by rw[e]at c;cases c)) (λt x s=>⟨λj _ c=>by simp at c,λ_=>s⟩)
  ⟨g.size,g.jb,λt j _ c=>(by rw[e]at c;cases c),λt _=>rfl⟩ (λj c=>by simp at c) h
 refine SE m f l g n opa.size _ a0 _ (by simp[d]) ?_ I;rw[d]
 have:(b8 ops.length).filter (λi=>!cK (ph ops.length ae) i)=b8 ops.length:=by
  refine List.filter_eq_self.2 (λi _=>?_);have:=e i;rw[d]at this;rw[this];rfl
 rw[this,List.length_range]
theorem drawTQ_any (b:iz P=ah) (c:opa.toList=ops) {L:OT} {w:World} (d:bN N E0 a0) {Q:Exit->Act->World->Prop}
  (e:∀E a w,bN N E a->K E w->Q .normal a w) (h:zo P N ops L E0 w K):wpAny P .any opa Q opa.size (ph opa.size ae) a0 {w with drawn:=w.drawn+1}:=by
 unfold zo at h;split at h
 ·rename_i f;exact drawT_core b c d e f (h _ rfl rfl rfl rfl)
 ·exact h.elim
theorem MY (b:iz P=ah) (c:opa.toList=ops) {L:OT} {w:World} (d:bN N E0 a0) {Q:Exit->Act->World->Prop}
  (e:∀E a w,bN N E a->K E w->Q .normal a w) (h:zo P N ops L E0 w K) {id:Nat}:(Code.region id opa ah).wp P Q a0 w:=by
 have f:P.follows .mixedOrders=ah:=by
  simp only[iz,br]at b;exact b.2
 exact wp_region_any f (drawTQ_any b c d e h)
theorem drawTX_any (b:iz P=ah) (c:opa.toList=ops) {L:OT} {w:World} (d:bN N E0 a0) {Q:Exit->Act->World->Prop}
  (e:∀E a w,bN N E a->K E w->Q .normal a w) (h:drawTX P N ops L E0 w K):wpAny P .any opa Q opa.size (ph opa.size ae) a0 {w with drawn:=w.drawn+1}:=by
 unfold drawTX at h;split at h
 ·rename_i f;exact drawT_core b c d e f (h _ rfl rfl rfl rfl rfl)
 ·exact h.elim
theorem drawTX_sound (b:iz P=ah) (c:opa.toList=ops) {L:OT} {w:World} (d:bN N E0 a0) {Q:Exit->Act->World->Prop}
  (e:∀E a w,bN N E a->K E w->Q .normal a w) (h:drawTX P N ops L E0 w K) {id:Nat}:(Code.region id opa ah).wp P Q a0 w:=by
 have f:P.follows .mixedOrders=ah:=by
  simp only[iz,br]at b;exact b.2
 exact wp_region_any f (drawTX_any b c d e h)
end draw3
inductive Ex where
 | ff
 | exit (n:Nat)
 | ret
abbrev dL:=Ex->Env->World->Prop
structure Mt where
 N:Nat
 keep:List (Nat×List Nat)
 bQ:List (Nat×List Nat):=[]
 bk:List (Nat×List Nat):=[]
 bD:List (Nat×List Nat):=[]
 lk:List (Nat×List Nat):=[]
 alts:List (Nat×OT):=[]
 ref:Bool:=ah
 ex:Bool:=ae
def jB:List (Nat×List Nat)->Nat->List Nat
 | [],_=>[]
 | (k,x)::l,id=>match dz k id with
  | true=>x
  | false=>jB l id
def zQ:List (Nat×OT)->Nat->Option OT
 | [],_=>ag
 | (k,x)::l,id=>match dz k id with
  | true=>aa x
  | false=>zQ l id
def HT (N:Nat) (K:dL):Exit->Act->World->Prop
 | .normal,a,w=>∃E,bN N E a/\K .ff E w
 | .exit n,a,w=>∃E,bN N E a/\K (.exit n) E w
 | .ret,a,w=>∃E,bN N E a/\K .ret E w
 | _,_,_=>False
def WP (P:Program) (N:Nat) (c:Code) (E:Env) (w:World) (K:dL):Prop:=∀a,bN N E a->c.wp P (HT N K) a w
def cW (D:Env->World->Prop) (K:dL):dL:=λex E w=>match ex with
 | .ff=>D E w
 | .exit n=>K (.exit n) E w
 | .ret=>K .ret E w
def aW (id:Nat) (ks:List Nat) (K:dL):dL:=λex E w=>match ex with
 | .ff=>K .ff (E.keep ks) w
 | .exit n=>match dz n id with
  | true=>K .ff (E.keep ks) w
  | false=>K (.exit n) E w
 | .ret=>K .ret E w
def cF:Code->Option Nat
 | .region id _ _=>aa id
 | .seq a _=>cF a
 | .block _ c=>cF c
 | .loop c=>cF c
 | .scope c=>cF c
 | _=>ag
def cV (l:List (Nat×List Nat)) (n:Option Nat):Option (List Nat):=match n with
 | none=>ag
 | some n=>match l with
  | []=>ag
  | (k,x)::l=>match dz k n with
   | true=>aa x
   | false=>cV l (aa n)
structure JB (P:Program) (M:Mt) (c:Code) (E:Env) (w:World) (K:dL) (p:Prop):Prop where
 out:p
def cU (ks:Option (List Nat)) (P:Program) (M:Mt) (c:Code) (E:Env) (w:World) (K:dL) (D:Env->Prop):Prop:=match ks with
 | some ks=>JB P M c (E.keep ks) w K (D (E.keep ks))
 | none=>D E
def Px (l:List (Nat×List Nat)) (n:Option Nat) (E:Env):Env:=match cV l n with
 | some a=>E.keep a
 | none=>E
def FW (E:Env) (c:Operand) (t f:Prop):Prop:=match bT E c with
 | .b ah=>t
 | .b ae=>f
 | .v (.bool x)=>(x=ah->t)/\(x=ae->f)
 | _=>False
def xJ (M:Mt) (E:Env) (c:Operand) (b:Bool):Env:=match M.ref with
 | false=>E
 | true=>match c with
  | .tmp t=>E.put t (.b b)
  | _=>E
def den (P:Program) (M:Mt):Code->Env->World->dL->Prop
 | .skip,E,w,K=>K .ff E w
 | .region id ops draw,E,w,K=>match draw with
  | false=>rv P M.N ops.toList ops.toList E w λd w'=>K .ff (d.keep (jB M.keep id)) w'
  | true=>match zQ M.alts id with
   | some t=>zo P M.N ops.toList t E w λd w'=>K .ff (d.keep (jB M.keep id)) w'
   | none=>match M.ex with
    | false=>zo P M.N ops.toList (otL (jB M.bQ id)) E w λd w'=>K .ff (d.keep (jB M.keep id)) w'
    | true=>drawTX P M.N ops.toList (otL (jB M.bQ id)) E w λd w'=>K .ff (d.keep (jB M.keep id)) w'
 | .seq a b,E,w,K=>den P M a E w (cW (λE w=>cU (cV M.bD (cF b)) P M b E w K λE=>den P M b E w K) K)
 | .cond c a b,E,w,K=>FW E c (den P M a (xJ M E c ah) w K) (den P M b (xJ M E c ae) w K)
 | .block id c,E,w,K=>den P M c E w (aW id (jB M.bk id) K)
 | .exit id,E,w,K=>K (.exit id) E w
 | .ret,E,w,K=>K .ret E w
 | .loop c,E,w,K=>Cut (WP P M.N (.loop c) (Px M.lk (cF c) E) w K)
 | .rangeFunc f e a b,E,w,K=>Cut (WP P M.N (.rangeFunc f e a b) E w K)
 | .scope c,E,w,K=>den P M c E w K
 | .label _,E,w,K=>K .ff E w
 | .goto l,E,w,K=>Cut (WP P M.N (.goto l) E w K)
 | .refuse s,E,w,K=>Cut (WP P M.N (.refuse s) E w K)
def aP (P:Program) (M:Mt) (c:Code) (E:Env) (w:World) (K:dL):Prop:=JB P M c E w K (den P M c E w K)
theorem aP.mk {P:Program} {M:Mt} {c:Code} {E:Env} {w:World} {K:dL} (h:den P M c E w K):aP P M c E w K:=⟨h⟩
theorem MG {E:Env} {c:Operand} {t f:Prop} (h:FW E c t f):∃b,(bT E c).val?=aa (.bool b)/\(if b then t else f):=by
 unfold FW at h;split at h
 ·rename_i he;exact⟨ah,by rw[he];rfl,h⟩
 ·rename_i he;exact⟨ae,by rw[he];rfl,h⟩
 ·rename_i x he;refine⟨x,by rw[he];rfl,?_⟩;cases x
  ·exact h.2 rfl
  ·exact h.1 rfl
 ·exact h.elim
theorem pF {P:Program} {M:Mt} (k:iz P=ah):∀(c:Code) (E:Env) (w:World) (K:dL),den P M c E w K->WP P M.N c E w K
 | .skip,E,w,K,h=>λa d=>wp_skip ⟨E,d,h⟩
 | .region id ops draw,E,w,K,h=>λa d=>by
  cases draw with
  | false=>
   exact wp_region_list (D7 k rfl (K:=λe w'=>K .ff (e.keep (jB M.keep id)) w') (λe m w' g p=>⟨_,g.keep _,p⟩) _ _ _ _ d h)
  | true=>
   simp only[den]at h;split at h
   ·exact MY k rfl (K:=λe w'=>K .ff (e.keep (jB M.keep id)) w') d (λe m w' g p=>⟨_,g.keep _,p⟩) h
   ·split at h
    ·exact MY k rfl (K:=λe w'=>K .ff (e.keep (jB M.keep id)) w') d (λe m w' g p=>⟨_,g.keep _,p⟩) h
    ·exact drawTX_sound k rfl (K:=λe w'=>K .ff (e.keep (jB M.keep id)) w') d (λe m w' g p=>⟨_,g.keep _,p⟩) h
 | .seq x y,E,w,K,h=>λa d=>by
  refine wp_seq (wp_mono (pF k x E w _ h a d) (λex m w' i=>?_))
  cases ex with
  | normal=>
   obtain⟨e,q,j⟩:=i;simp only[cW,cU]at j;split at j
   ·exact pF k y _ w' K j.out m (q.keep _)
   ·exact pF k y e w' K j m q
  | exit n=>exact i
  | ret=>exact i
  | _=>exact i.elim
 | .cond c x y,E,w,K,h=>λa d=>by
  obtain⟨b,r,h⟩:=MG h;refine wp_cond (d.ev c _ r) ?_
  have u:bN M.N (xJ M E c b) a:=by
   unfold xJ;split
   ·exact d
   ·split
    ·exact d.RA _ b (by simpa [bT]using r)
    ·exact d
  cases b with
  | true=>exact pF k x _ w K h a u
  | false=>exact pF k y _ w K h a u
 | .block id c,E,w,K,h=>λa d=>by
  refine wp_block (wp_mono (pF k c E w _ h a d) (λex m w' i=>?_))
  cases ex with
  | normal=>obtain⟨e,q,j⟩:=i;exact⟨_,q.keep _,j⟩
  | exit n=>
   obtain⟨e,q,j⟩:=i;simp only[Exit.inBlock];simp only[aW]at j;by_cases t:n=id
   ·subst t;rw[ar rfl];rw[uy]at j;exact⟨_,q.keep _,j⟩
   ·rw[af t]
    have r:dz n id=ae:=by
     cases r:dz n id with
     | false=>rfl
     | true=>exact absurd (iG r) t
    rw[r]at j
    exact⟨e,q,j⟩
  | ret=>exact i
  | _=>exact i.elim
 | .exit id,E,w,K,h=>λa d=>wp_exit ⟨E,d,h⟩
 | .ret,E,w,K,h=>λa d=>wp_ret ⟨E,d,h⟩
 | .loop c,E,w,K,h=>λa d=>by
  refine h.out a ?_;unfold Px;split
  ·exact d.keep _
  ·exact d
 | .rangeFunc f z x y,E,w,K,h=>h.out
 | .scope c,E,w,K,h=>λa d=>by
  refine wp_scope_straight (wp_mono (pF k c E w K h a d) (λex m w' i=>?_))
  cases ex<;>first|exact i|exact i.elim
 | .label l,E,w,K,h=>λa d=>wp_label ⟨E,d,h⟩
 | .goto l,E,w,K,h=>h.out
 | .refuse s,E,w,K,h=>h.out
def rH (E:Env):Env->Prop
 | []=>True
 | (k,s)::T=>(E.get k).val?=s.val?/\rH E T
theorem rH.agree {N:Nat} {E:Env} {a:Act} (c:bN N E a):∀{T:Env},rH E T->bN N T a
 | [],_=>⟨c.size,c.jb,λt x b=>by simp[Env.get,SV.val?]at b⟩
 | (k,s)::T,h=>by
  have e:=rH.agree c h.2;refine⟨c.size,c.jb,λt x b=>?_⟩;simp only[Env.get]at b
  cases d:dz k t with
  | true=>
   rw[d]at b;have:=iG d;subst this
   exact c.l7 _ x (by rw[h.1];exact b)
  | false=>rw[d]at b;exact e.l7 t x b
theorem CK {p:Nat->Prop} (h:∃n,p n):∃n,p n/\∀m,p m->n<=m:=by
 obtain⟨n,e⟩:=h
 induction n using Nat.strongRecOn with
 | _ n f=>
  by_cases d:∃m,m<n/\p m
  ·obtain⟨m,a,b⟩:=d;exact f m a b
  ·exact⟨n,e,λm a=>Nat.le_of_not_lt λc=>d ⟨m,c,a⟩⟩
theorem ajC {P:Program} {c:Code} {Q:Exit->Act->World->Prop} {a:Act} {w:World} (I:Nat->Act->World->Prop) (h₀:∃n,I n a w)
  (round:∀n a w,I n a w->c.wp P (Exit.then (λd w'=>∃m,m<n/\I m d w') Q) a w):(bj c).wp P Q a w:=by
 classical
 refine wp_loop (λa w=>∃n,I n a w) (λa w=>if h:∃n,I n a w then Classical.choose (CK h)else 0) h₀ (λa w h=>?_);have g:=Classical.choose_spec (CK h);refine wp_mono (round _ a w g.1) (λex d w' f=>?_)
 cases ex with
 | normal=>
  obtain⟨m,i,hI⟩:=f;have b:∃n,I n d w':=⟨m,hI⟩;refine⟨b,?_⟩;have e:=Classical.choose_spec (CK b);simp only[dif_pos b,dif_pos h]
  exact Nat.lt_of_le_of_lt (e.2 m hI) i
 | _=>exact f
def bd (B:Env->World->Prop) (K:dL):dL:=λex E w=>match ex with
 | .ff=>B E w
 | .exit n=>K (.exit n) E w
 | .ret=>K .ret E w
theorem bJ {P:Program} {M:Mt} (g:iz P=ah) {c:Code} {E:Env} {w:World} {K:dL} {σ:Type} (tm:σ->Env) (I:σ->World->Prop) (μ:σ->World->Nat) (e:σ)
  (i:rH E (tm e)) (hI:I e w) (round:∀s w,I s w->den P M c (tm s) w (bd (λf w'=>∃b,rH f (tm b)/\I b w'/\μ b w'<μ s w) K)):WP P M.N (.loop c) E w K:=by
 intro a j;refine ajC (λn a w=>∃s,bN M.N (tm s) a/\I s w/\μ s w=n) ⟨_,e,i.agree j,hI,rfl⟩ (λn a w h=>?_);obtain⟨s,k,l,rfl⟩:=h;refine wp_mono (pF g c _ w _ (round s w l) a k) (λex t w' d=>?_)
 cases ex with
 | normal=>
  obtain⟨f,m,b,p,q,r⟩:=d
  exact⟨_,r,b,p.agree m,q,rfl⟩
 | exit n=>exact d
 | ret=>exact d
 | _=>exact d.elim
def iL:Nat->List Value->Env
 | _,[]=>[]
 | i,v::vs=>(i,.v v)::iL (i+1) vs
theorem E9:∀(vs:List Value) (i t:Nat) (x:Value),((iL i vs).get t).val?=aa x->i<=t/\vs[t-i]?=aa x
 | [],i,t,x,h=>by simp[iL,Env.get,SV.val?]at h
 | v::vs,i,t,x,h=>by
  simp only[iL,Env.get]at h
  cases a:dz i t with
  | true=>
   rw[a]at h;have:=iG a;subst this
   simpa [SV.val?]using h
  | false=>
   rw[a]at h;obtain⟨c,b⟩:=E9 vs (i+1) t x h;refine⟨by omega,?_⟩;rw[show t-i=(t-(i+1))+1 by omega];simpa using b
def xK (P:Program) (w:World) (E:Env):List ResultVar->(List Value->Prop)->Prop
 | [],F=>F []
 | .tmp t::rs,F=>da (E.get t) λv=>xK P w E rs λvs=>F (v::vs)
 | .cell x t::rs,F=>da (E.get x) λv=>sG v λad=>Di P w t ad λv=>xK P w E rs λvs=>F (v::vs)
def Ak:List Value->Value
 | [v]=>v
 | vs=>.tuple vs.toArray
def jf (P:Program) (rs:List ResultVar) (R:Ending->World->Prop):dL:=λex E w=>match ex with
 | .exit _=>False
 | .ff=>xK P w E rs λvs=>R (.returned (Ak vs)) w
 | .ret=>xK P w E rs λvs=>R (.returned (Ak vs)) w
def vn (a:Act):ResultVar->Sem Value
 | .tmp t=>pure (a.tmps.getD t undef)
 | .cell x t=>do loadVar t (<-asAddr (a.tmps.getD x undef))
theorem aa8 (fn:Func) (a:Act):results fn a.tmps=(fn.results.mapM (vn a))>>=λvs=>pure (if h:vs.size=1 then vs[0]else .tuple vs):=by
 unfold results;congr 2
theorem Iv {P:Program} {w:World} {E:Env} {N:Nat} {a:Act} (b:bN N E a):∀{rs:List ResultVar} {F:List Value->Prop},xK P w E rs F->
  ∃vs,F vs/\(rs.mapM (vn a)).run P w=.ok vs w
 | [],F,h=>⟨[],h,by simp⟩
 | .tmp t::rs,F,h=>by
  obtain⟨v,c,_,h⟩:=dj h;obtain⟨vs,d,e⟩:=Iv b h;refine⟨v::vs,d,?_⟩;have f:(vn a (.tmp t)).run P w=.ok v w:=by simp[vn,b.l7 t v c]
  simp only[List.mapM_cons,o8,Sem.run_pure,o9,f,e]
 | .cell x t::rs,F,h=>by
  obtain⟨v,c,_,h⟩:=dj h;obtain⟨ad,rfl,h⟩:=tO h;obtain⟨u,g,h⟩:=PL h;obtain⟨vs,d,e⟩:=Iv b h;refine⟨u::vs,d,?_⟩;have f:(vn a (.cell x t)).run P w=.ok u w:=by simp[vn,b.l7 x _ c,asAddr,g]
  simp only[List.mapM_cons,o8,Sem.run_pure,o9,f,e]
theorem DX {P:Program} {w:World} {E:Env} {N:Nat} {a:Act} {fn:Func} (b:bN N E a) {R:Ending->World->Prop} (h:xK P w E fn.results.toList λvs=>R (.returned (Ak vs)) w) :
  ∃v,(results fn a.tmps).run P w=.ok v w/\R (.returned v) w:=by
 obtain⟨vs,c,d⟩:=Iv b h;refine⟨Ak vs,?_,c⟩
 have e:(fn.results.mapM (vn a)).run P w=.ok vs.toArray w:=by
  rw[Array.mapM_eq_mapM_toList];simp[d]
 rw[aa8,o8,e,o9]
 match vs with
 | []=>rfl
 | [v]=>rfl
 | v::u::vs=>simp[Ak]
theorem wF {P:Program} {M:Mt} (j:iz P=ah) {f:FuncId} {fn:Func} {c:Code} (k:P.funcs[f]?=aa fn) (l:fn.body=aa c) (m:fn.ntmps=M.N) {args:List Value}
  (hA:args.length<=M.N) {w:World} {R:Ending->World->Prop} (h:den P M c (iL 0 args) w (jf P fn.results.toList R)):Calls P f args.toArray w R:=by
 refine calls_of_wp k l ?_
 have p:bN M.N (iL 0 args) {tmps:=args.toArray++ph (fn.ntmps-args.toArray.size) undef,defers:=[]}:=by
  refine⟨by simp[m];omega,rfl,λt x q=>?_⟩;obtain⟨_,a⟩:=E9 args 0 t x q;simp only[Nat.sub_zero]at a;have e:t<args.length:=(dI.1 a).1;rw[wc (by simpa using e)];simpa using a
 refine wp_mono (pF j c _ w _ h _ p) (λex r w' d=>?_)
 cases ex with
 | normal=>
  obtain⟨E,b,a⟩:=d;obtain⟨v,g,i⟩:=DX b a
  exact⟨b.jb,v,g,i⟩
 | ret=>
  obtain⟨E,b,a⟩:=d;obtain⟨v,g,i⟩:=DX b a
  exact⟨b.jb,v,g,i⟩
 | exit n=>obtain⟨E,_,a⟩:=d;exact a.elim
 | _=>exact d.elim
def bc (f:Func):Code:=match f.body with|some c=>c|none=>.skip
def _root_.Go.Code.sl:Code->Code
 | .seq a _=>a
 | .cond _ a _=>a
 | .block _ c=>c
 | .loop c=>c
 | .scope c=>c
 | c=>c
def _root_.Go.Code.sr:Code->Code
 | .seq _ b=>b
 | .cond _ _ b=>b
 | c=>c
theorem bA:iz Tryz.prog=ah:=by kernel_rfl
abbrev I (n:Int):Value:=.int .i64 n
abbrev Z (v:Value):Ending:=.returned v
abbrev N3:Value:=.slice ag 0 0
abbrev RT:=Ending->World->Prop
abbrev Rt (f:Func) (R:RT):dL:=jf Tryz.prog f.results.toList R
abbrev SQ (M:Mt) (c:Code) (K a:dL):dL:=cW (λE w=>cU (cV M.bD (cF c)) Tryz.prog M c E w K λE=>den Tryz.prog M c E w K) a
def kp:Nat->List (List Nat)->List (Nat×List Nat)
 | _,[]=>[]
 | n,a::l=>(n,a)::kp (n+1) l
abbrev Sm (w:World) (Q:World->Prop):Prop:=∀w',w'.heap=w.heap->w'.os=w.os->w'.tape=w.tape->w'.output=w.output->Q w'
abbrev UT (k:FuncId) (M:Mt) (c:Code) (fn:Func):Prop:=∀⦃vs:List Value⦄ ⦃w:World⦄ ⦃R:RT⦄,den Tryz.prog M c (iL 0 vs) w (Rt fn R)->(hA:mv vs.length M.N=ah:=by rfl)->Calls Tryz.prog k vs.toArray w R
theorem u_ {k:FuncId} {M:Mt} {c:Code} {fn:Func} (b:Tryz.prog.funcs[k]?=aa fn) (a:(fn.body,fn.ntmps)=(aa c,M.N)):UT k M c fn:=
 λ_ _ _ h hA=>wF bA b (congrArg eX a) (congrArg Prod.snd a) (dH hA) h
abbrev Fz (b:Bool) (A B:Prop):Prop:=(b=ae->A)/\(b=ah->B)
abbrev Fo (b:Bool) (A B:Prop):Prop:=(b=ah->A)/\(b=ae->B)
abbrev Li (w:World) (a:Addr) (P:Int->Prop):Prop:=∃n,w.cell? a=aa (.int .i64 n)/\P n
abbrev Lu (w:World) (a:Addr) (P:Int->Prop):Prop:=∃n,w.cell? a=aa (.int .u64 n)/\P n
abbrev Lj (w:World) (a:Addr) (P:Bool->Prop):Prop:=∃n,w.cell? a=aa (.bool n)/\P n
abbrev Lp (w:World) (a:Addr) (P:Option Addr->Prop):Prop:=∃n,w.cell? a=aa (.pointer n)/\P n
abbrev Lq (w:World) (a:Addr) (P:Option Addr->Nat->Nat->Prop):Prop:=∃p n c,w.cell? a=aa (.slice p n c)/\P p n c
abbrev Ci (k:FuncId) (a:List Value) (w:World) (P:Int->World->Prop):Prop:=Call Tryz.prog k a w λe w'=>∃n,e=.returned (.int .i64 n)/\P n w'
abbrev Cu (k:FuncId) (a:List Value) (w:World) (P:Int->World->Prop):Prop:=Call Tryz.prog k a w λe w'=>∃n,e=.returned (.int .u64 n)/\P n w'
abbrev Cj (k:FuncId) (a:List Value) (w:World) (P:Bool->World->Prop):Prop:=Call Tryz.prog k a w λe w'=>∃n,e=.returned (.bool n)/\P n w'
abbrev Cp (k:FuncId) (a:List Value) (w:World) (P:Option Addr->World->Prop):Prop:=Call Tryz.prog k a w λe w'=>∃n,e=.returned (.pointer n)/\P n w'
abbrev Cq (k:FuncId) (a:List Value) (w:World) (P:Option Addr->Nat->Nat->World->Prop):Prop:=Call Tryz.prog k a w λe w'=>∃p n c,e=.returned (.slice p n c)/\P p n c w'
abbrev Ct (k:FuncId) (a:List Value) (w:World) (P:Int->Int->World->Prop):Prop:=Call Tryz.prog k a w λe w'=>∃n m,e=.returned (.tuple #[.int .i64 n,.int .i64 m])/\P n m w'
abbrev Cn (k:FuncId) (a:List Value) (w:World) (P:World->Prop):Prop:=Call Tryz.prog k a w λe w'=>e=.returned (.tuple #[])/\P w'
def rp:Nat->Nat->List Nat->List (Nat×List Nat)->List (Nat×List Nat)
 | 0,_,_,l=>l
 | c+1,n,a,l=>(n,a)::rp c (n+1) a l
def kq:Nat->List (Nat×List Nat)->List (Nat×List Nat)
 | _,[]=>[]
 | n,(c,a)::l=>rp c n a (kq (n+c) l)
abbrev vI (k:Nat) (n:Int):Nat×SV:=(k,SV.v (.int .i64 n))
abbrev vP (k:Nat) (p:Option Addr):Nat×SV:=(k,SV.v (.pointer p))
abbrev vS (k:Nat) (p:Option Addr) (n c:Nat):Nat×SV:=(k,SV.v (.slice p n c))
abbrev pt (b:Nat):Value:=.pointer (aa ⟨b,0,ag⟩)
abbrev Cx (k:FuncId) (a:Array Value) (w:World) (Q:Ending->World->Prop):Prop:=Calls Tryz.prog k a w Q
abbrev Uj (C P:Prop):Prop:=P->C
theorem uj_ {k:FuncId} (M:Mt) {fn:Func} {vs:List Value} {w:World} {R:RT} {P:Prop} (b:Tryz.prog.funcs[k]?=aa fn) (a:((fn.body,fn.ntmps),den Tryz.prog M (bc fn) (iL 0 vs) w (Rt fn R))=((aa (bc fn),M.N),P)) (hA:mv vs.length M.N=ah:=by rfl):Uj (Calls Tryz.prog k vs.toArray w R) P:=
 λh=>wF bA b (congrArg (·.1.1) a) (congrArg (·.1.2) a) (dH hA) ((congrArg Prod.snd a).symm.mp h)
section
open Value IntKind Ending World Addr Tryz
open Value renaming pointer→ab,slice→aj,tuple→aw,bool→o7
set_option maxRecDepth 100000
noncomputable section
theorem u11 {x w R}:Uj (Calls prog 11 #[I x] w R) (Fo (decide (x<=0)) (R (Z (int .u64 0)) w) (Fo (decide (x>=64)) (R (Z (int .u64 18446744073709551615)) w) (Cu 60 [I x] w λn w'=>R (Z (int .u64 (wrap .u64 (n-1)))) w'))):=uj_ {N:=12,keep:=kp 0 [[0],[0,3],[2],[0,6],[2],[2]],bk:=[(0,[0])],ref:=ae} func11 (by kernel_rfl)
def K5:=bc f23
theorem u23 {x x1 w R}:Uj (Calls prog 23 #[int .u64 x,I x1] w R) (Cu 60 [I x1] w λn w'=>R (Z (.bool (aH aM .u64 x n !=0))) w'):=uj_ {N:=10,keep:=kp 0 [[0,1],[4]],ref:=ae} func23 (by kernel_rfl)
def K8:=bc f24
theorem u24 {x w R}:Uj (Calls prog 24 #[int .u64 x] w R) (Ci 80 [int .u64 x] w λn w'=>R (Z (I n)) w'):=uj_ {N:=5,keep:=kp 0 [[0],[2]],ref:=ae} func24 (by kernel_rfl)
theorem u60 {x w R}:Uj (Calls prog 60 #[I x] w R) (Fz (decide (x<0)) (Fo (decide (x>=64)) (R (Z (int .u64 0)) w) (0<=x/\R (Z (int .u64 (fg .u64 1 x))) w)) (R (Z (int .u64 0)) w)):=uj_ {N:=11,keep:=kp 0 [[0],[0,8],[2],[2]],ref:=ae} func60 (by kernel_rfl)
theorem u80 {x w R}:Uj (Calls prog 80 #[int .u64 x] w R) ((0:Int)<=1/\(0:Int)<=2/\(0:Int)<=4/\(0:Int)<=8/\(0:Int)<=16/\(0:Int)<=32/\R (Z (I (aH aM i64 (wrap i64 (wrap .u64 (wrap .u64 (wrap .u64 (aH aM .u64 (wrap .u64 (aU .u64 (wrap .u64 (aH aM .u64 (aU .u64 (wrap .u64 (aH aM .u64 (aU .u64 x 1) 6148914691236517205+aH aM .u64 x 6148914691236517205)) 2) 3689348814741910323+aH aM .u64 (wrap .u64 (aH aM .u64 (aU .u64 x 1) 6148914691236517205+aH aM .u64 x 6148914691236517205)) 3689348814741910323)) 4+wrap .u64 (aH aM .u64 (aU .u64 (wrap .u64 (aH aM .u64 (aU .u64 x 1) 6148914691236517205+aH aM .u64 x 6148914691236517205)) 2) 3689348814741910323+aH aM .u64 (wrap .u64 (aH aM .u64 (aU .u64 x 1) 6148914691236517205+aH aM .u64 x 6148914691236517205)) 3689348814741910323))) 1085102592571150095+aU .u64 (aH aM .u64 (wrap .u64 (aU .u64 (wrap .u64 (aH aM .u64 (aU .u64 (wrap .u64 (aH aM .u64 (aU .u64 x 1) 6148914691236517205+aH aM .u64 x 6148914691236517205)) 2) 3689348814741910323+aH aM .u64 (wrap .u64 (aH aM .u64 (aU .u64 x 1) 6148914691236517205+aH aM .u64 x 6148914691236517205)) 3689348814741910323)) 4+wrap .u64 (aH aM .u64 (aU .u64 (wrap .u64 (aH aM .u64 (aU .u64 x 1) 6148914691236517205+aH aM .u64 x 6148914691236517205)) 2) 3689348814741910323+aH aM .u64 (wrap .u64 (aH aM .u64 (aU .u64 x 1) 6148914691236517205+aH aM .u64 x 6148914691236517205)) 3689348814741910323))) 1085102592571150095) 8)+aU .u64 (wrap .u64 (aH aM .u64 (wrap .u64 (aU .u64 (wrap .u64 (aH aM .u64 (aU .u64 (wrap .u64 (aH aM .u64 (aU .u64 x 1) 6148914691236517205+aH aM .u64 x 6148914691236517205)) 2) 3689348814741910323+aH aM .u64 (wrap .u64 (aH aM .u64 (aU .u64 x 1) 6148914691236517205+aH aM .u64 x 6148914691236517205)) 3689348814741910323)) 4+wrap .u64 (aH aM .u64 (aU .u64 (wrap .u64 (aH aM .u64 (aU .u64 x 1) 6148914691236517205+aH aM .u64 x 6148914691236517205)) 2) 3689348814741910323+aH aM .u64 (wrap .u64 (aH aM .u64 (aU .u64 x 1) 6148914691236517205+aH aM .u64 x 6148914691236517205)) 3689348814741910323))) 1085102592571150095+aU .u64 (aH aM .u64 (wrap .u64 (aU .u64 (wrap .u64 (aH aM .u64 (aU .u64 (wrap .u64 (aH aM .u64 (aU .u64 x 1) 6148914691236517205+aH aM .u64 x 6148914691236517205)) 2) 3689348814741910323+aH aM .u64 (wrap .u64 (aH aM .u64 (aU .u64 x 1) 6148914691236517205+aH aM .u64 x 6148914691236517205)) 3689348814741910323)) 4+wrap .u64 (aH aM .u64 (aU .u64 (wrap .u64 (aH aM .u64 (aU .u64 x 1) 6148914691236517205+aH aM .u64 x 6148914691236517205)) 2) 3689348814741910323+aH aM .u64 (wrap .u64 (aH aM .u64 (aU .u64 x 1) 6148914691236517205+aH aM .u64 x 6148914691236517205)) 3689348814741910323))) 1085102592571150095) 8)) 16)+aU .u64 (wrap .u64 (wrap .u64 (aH aM .u64 (wrap .u64 (aU .u64 (wrap .u64 (aH aM .u64 (aU .u64 (wrap .u64 (aH aM .u64 (aU .u64 x 1) 6148914691236517205+aH aM .u64 x 6148914691236517205)) 2) 3689348814741910323+aH aM .u64 (wrap .u64 (aH aM .u64 (aU .u64 x 1) 6148914691236517205+aH aM .u64 x 6148914691236517205)) 3689348814741910323)) 4+wrap .u64 (aH aM .u64 (aU .u64 (wrap .u64 (aH aM .u64 (aU .u64 x 1) 6148914691236517205+aH aM .u64 x 6148914691236517205)) 2) 3689348814741910323+aH aM .u64 (wrap .u64 (aH aM .u64 (aU .u64 x 1) 6148914691236517205+aH aM .u64 x 6148914691236517205)) 3689348814741910323))) 1085102592571150095+aU .u64 (aH aM .u64 (wrap .u64 (aU .u64 (wrap .u64 (aH aM .u64 (aU .u64 (wrap .u64 (aH aM .u64 (aU .u64 x 1) 6148914691236517205+aH aM .u64 x 6148914691236517205)) 2) 3689348814741910323+aH aM .u64 (wrap .u64 (aH aM .u64 (aU .u64 x 1) 6148914691236517205+aH aM .u64 x 6148914691236517205)) 3689348814741910323)) 4+wrap .u64 (aH aM .u64 (aU .u64 (wrap .u64 (aH aM .u64 (aU .u64 x 1) 6148914691236517205+aH aM .u64 x 6148914691236517205)) 2) 3689348814741910323+aH aM .u64 (wrap .u64 (aH aM .u64 (aU .u64 x 1) 6148914691236517205+aH aM .u64 x 6148914691236517205)) 3689348814741910323))) 1085102592571150095) 8)+aU .u64 (wrap .u64 (aH aM .u64 (wrap .u64 (aU .u64 (wrap .u64 (aH aM .u64 (aU .u64 (wrap .u64 (aH aM .u64 (aU .u64 x 1) 6148914691236517205+aH aM .u64 x 6148914691236517205)) 2) 3689348814741910323+aH aM .u64 (wrap .u64 (aH aM .u64 (aU .u64 x 1) 6148914691236517205+aH aM .u64 x 6148914691236517205)) 3689348814741910323)) 4+wrap .u64 (aH aM .u64 (aU .u64 (wrap .u64 (aH aM .u64 (aU .u64 x 1) 6148914691236517205+aH aM .u64 x 6148914691236517205)) 2) 3689348814741910323+aH aM .u64 (wrap .u64 (aH aM .u64 (aU .u64 x 1) 6148914691236517205+aH aM .u64 x 6148914691236517205)) 3689348814741910323))) 1085102592571150095+aU .u64 (aH aM .u64 (wrap .u64 (aU .u64 (wrap .u64 (aH aM .u64 (aU .u64 (wrap .u64 (aH aM .u64 (aU .u64 x 1) 6148914691236517205+aH aM .u64 x 6148914691236517205)) 2) 3689348814741910323+aH aM .u64 (wrap .u64 (aH aM .u64 (aU .u64 x 1) 6148914691236517205+aH aM .u64 x 6148914691236517205)) 3689348814741910323)) 4+wrap .u64 (aH aM .u64 (aU .u64 (wrap .u64 (aH aM .u64 (aU .u64 x 1) 6148914691236517205+aH aM .u64 x 6148914691236517205)) 2) 3689348814741910323+aH aM .u64 (wrap .u64 (aH aM .u64 (aU .u64 x 1) 6148914691236517205+aH aM .u64 x 6148914691236517205)) 3689348814741910323))) 1085102592571150095) 8)) 16)) 32))) 127))) w):=uj_ {N:=35,keep:=kq 0 [(7,[0]),(1,[2])],ref:=ae} func80 (by kernel_rfl)
theorem afE {x x1 w R}:Uj (Calls prog 158 #[int .u64 x,I x1] w R) (Cu 60 [I x1] w λn w'=>R (Z (int .u64 (aH tc .u64 x n))) w'):=uj_ {N:=9,keep:=kp 0 [[0,1],[4]],ref:=ae} func158 (by kernel_rfl)
theorem afF {x w R}:Uj (Calls prog 159 #[int .u64 x] w R) (Fo (x==0) (R (Z (aw #[I 0,I 12])) w) (Ci 253 [int .u64 x] w λn w'=>R (Z (aw #[I n,I 0])) w')):=uj_ {N:=8,keep:=kp 0 [[0],[0,5],[2,3],[2,3]],ref:=ae} func159 (by kernel_rfl)
def A0:Mt:={N:=19,keep:=kp 0 [[0,1],[0,7,8,9],[0,7,8,9,10],[0,6,7,8,9],[0,7,8,9],[0,7,8,9],[4]],bk:=[(0,[0]),(1,[0,7,8,9])],lk:=[(2,[0,7,8,9])],ref:=ae}
def KE:=bc f179
def Ug:=KE.sr.sr
def KG:=KE.sr.sl.sr.sl.sl
def Gj (x:Int) (x1:Option Addr) (x2 x3:Nat) (x4 x5:Int):Env:=[(0,SV.v (int .u64 x)),vS 7 x1 x2 x3,vI 8 x4,vI 9 x5]
def Oy (R:RT):=aW 0 [0] (SQ A0 Ug (Rt f179 R) (Rt f179 R))
theorem afT {x x1 x2 x3 w R}:Uj (Calls prog 179 #[int .u64 x,aj x1 x2 x3] w R) (Cut (WP prog 19 (bj KG) (Gj x x1 x2 x3 (↑x2:Int) 0) w (Oy R))):=uj_ A0 func179 (by kernel_rfl)
theorem acO (x x1 x2 x3 x4 x5 w B R):den prog A0 KG (Gj x x1 x2 x3 x4 x5) w (bd B (Oy R))=
(Fo (decide (x5<x4)) ((0<=x5/\x5<(↑x2:Int))/\∃a,x1=aa a/\Li w (add a (aG x5*1)) λn=>Cu 60 [I n] w λn w'=>B [(0,SV.v (int .u64 (aH rR .u64 x n))),vS 7 x1 x2 x3,vI 8 x4,(9,SV.v (I (wrap i64 (x5+1))))] w') (R (Z (int .u64 x)) w)):=by kernel_rfl
theorem ag4 {x w R}:Uj (Calls prog 253 #[int .u64 x] w R) (((x==0)->R (Z (I 64)) w)/\
 ((x==0)=ae->(0:Int)<=58/\(0<=aU .u64 (wrap .u64 (aH aM .u64 x (wrap .u64 (0-x))*285870213051353865)) 58/\aU .u64 (wrap .u64 (aH aM .u64 x (wrap .u64 (0-x))*285870213051353865)) 58<((64:Nat):Int))/\
 ∃n,w.cell? (add ⟨0,0,ag⟩ (aG (aU .u64 (wrap .u64 (aH aM .u64 x (wrap .u64 (0-x))*285870213051353865)) 58)*1))=aa (int cu n)/\R (Z (I (wrap i64 n))) w)):=uj_ {N:=14,keep:=kp 0 [[0],[0,4],[2],[2]],ref:=ae} func253 (by kernel_rfl)
theorem ahn {x x1 w R}:Uj (Calls prog 277 #[int .u64 x,int .u64 x1] w R) (R (Z (.bool (aH tc .u64 x x1==0))) w):=uj_ {N:=9,keep:=kp 0 [[0,1],[4]],ref:=ae} func277 (by kernel_rfl)
theorem ah0 {x x1 w R}:Uj (Calls prog 318 #[int .u64 x,int .u64 x1] w R) (R (Z (int .u64 (aH aM .u64 x x1))) w):=uj_ {N:=8,keep:=kp 0 [[0,1],[4]],ref:=ae} func318 (by kernel_rfl)
theorem ah1 {x x1 w R}:Uj (Calls prog 319 #[int .u64 x,I x1] w R) (Fz (decide (x1<0)) (Fo (decide (x1>=63)) (Call prog 159 [int .u64 x] w λe w'=>∃n a,e=Z (aw #[I n,I a])/\R (Z (aw #[I n,I a])) w') (Call prog 11 [I (wrap i64 (x1+1))] w λe w'=>∃n,e=Z (int .u64 n)/\Fo (aH tc .u64 x n !=0) (Call prog 159 [int .u64 (aH tc .u64 x n)] w' λe w'=>∃n a,e=Z (aw #[I n,I a])/\R (Z (aw #[I n,I a])) w') (Call prog 159 [int .u64 x] w' λe w'=>∃n a,e=Z (aw #[I n,I a])/\R (Z (aw #[I n,I a])) w'))) (Call prog 159 [int .u64 x] w λe w'=>∃n a,e=Z (aw #[I n,I a])/\R (Z (aw #[I n,I a])) w')):=uj_ {N:=32,keep:=kp 0 [[0,1],[0,1,12],[4,5],[0,6],[0,6,23],[4,5],[4,5]],ref:=ae} func319 (by kernel_rfl)
theorem ais {x x1 w R}:Uj (Calls prog 353 #[int .u64 x,int .u64 x1] w R) (R (Z (int .u64 (aH tc .u64 x x1))) w):=uj_ {N:=8,keep:=kp 0 [[0,1],[4]],ref:=ae} func353 (by kernel_rfl)
def Bm:Mt:={N:=16,keep:=kp 0 [[0],[0,3],[0,3,5],[0,3],[0,3],[2]],bk:=[(0,[3]),(1,[0,3])],lk:=[(2,[0,3])],ref:=ae}
def LY:=bc f382
def UH:=LY.sr.sr.sr
def LZ:=LY.sr.sr.sl.sl.sl
def GN (x:Int) (x1:Option Addr) (x2 x3:Nat):Env:=[(0,SV.v (int .u64 x)),vS 3 x1 x2 x3]
def O8 (R:RT):=aW 0 [3] (SQ Bm UH (Rt f382 R) (Rt f382 R))
theorem aiR {x w R}:Uj (Calls prog 382 #[int .u64 x] w R) (Cut (WP prog 16 (bj LZ) (GN x ag 0 0) w (O8 R))):=uj_ Bm func382 (by kernel_rfl)
theorem ady (x x1 x2 x3 w B R):den prog Bm LZ (GN x x1 x2 x3) w (bd B (O8 R))=
(Fo (x !=0) (Ci 253 [int .u64 x] w λn w'=>aI w' [I n] 3 λp w'=>∃a n c b,aZ prog (bM #[36,36] 36 #[aj x1 x2 x3,aj (aa p) 1 1]) w'=a7 (aj a n c) b/\B [(0,SV.v (int .u64 (aH aM .u64 x (wrap .u64 (x-1))))),vS 3 a n c] b) (R (Z (aj x1 x2 x3)) w)):=by kernel_rfl
theorem ah7 {x x1 x2 x3 w R}:Uj (Calls prog 325 #[aj x x1 x2,I x3] w R) (Ci 375 [aj x x1 x2,I x3] w λn w'=>R (Z (.bool (decide (n>=0)))) w'):=uj_ {N:=9,keep:=kp 0 [[0,1],[4]],ref:=ae} func325 (by kernel_rfl)
def Bj:Mt:={N:=19,keep:=kp 0 [[0,1],[0,1,7,8],[0,1,7,8,9],[0,1,5,7,8],[0,1,5,7,8,16],[4],[0,1,7,8],[4]],bk:=[(0,[]),(1,[0,1,7,8])],lk:=[(2,[0,1,7,8])],ref:=ae}
def LQ:=bc f375
def UF:=LQ.sr.sr
def LR:=LQ.sr.sl.sr.sl.sl
def GM (x:Option Addr) (x1 x2:Nat) (x3 x4 x5:Int):Env:=[vS 0 x x1 x2,vI 1 x3,vI 7 x4,vI 8 x5]
def O6 (R:RT):=aW 0 [] (SQ Bj UF (Rt f375 R) (Rt f375 R))
theorem aiM {x x1 x2 x3 w R}:Uj (Calls prog 375 #[aj x x1 x2,I x3] w R) (Cut (WP prog 19 (bj LR) (GM x x1 x2 x3 (↑x1:Int) 0) w (O6 R))):=uj_ Bj func375 (by kernel_rfl)
theorem adw (x x1 x2 x3 x4 x5 w B R):den prog Bj LR (GM x x1 x2 x3 x4 x5) w (bd B (O6 R))=
(Fo (decide (x5<x4)) ((0<=x5/\x5<(↑x1:Int))/\∃a,x=aa a/\Li w (add a (aG x5*1)) λn=>Fo (x3==n) (R (Z (I x5)) w) (B [vS 0 x x1 x2,vI 1 x3,vI 7 x4,(8,SV.v (I (wrap i64 (x5+1))))] w)) (R (Z (I (-1:Int))) w)):=by kernel_rfl
theorem af3 {x x1 x2 w R}:Uj (Calls prog 190 #[aj x x1 x2] w R) (Fo x.isNone (R (Z (N3)) w) (aI w [] 3 λp w'=>∃a n c b,aZ prog (bM #[36,36] 36 #[aj (aa p) 0 0,aj x x1 x2]) w'=a7 (aj a n c) b/\R (Z (aj a n c)) b)):=uj_ {N:=8,keep:=kp 0 [[0],[0,4],[2],[2]],ref:=ae} func190 (by kernel_rfl)
theorem aeP {x w R}:Uj (Calls prog 107 #[I x] w R) (Fz (decide (x<1)) (Fo (decide (x>1024)) (R (Z (aw #[ab ag,I 2])) w) ((64:Int)≠0/\∃p n c w',aZ prog (lA 290 (I (wrap i64 (iH (wrap i64 (wrap i64 (x+64)-1)) 64))) (I (wrap i64 (iH (wrap i64 (wrap i64 (x+64)-1)) 64)))) w=a7 (aj p n c) w'/\aI w' [aj p n c,I x,I 0] 292 λp w'=>R (Z (aw #[ab (aa p),I 0])) w')) (R (Z (aw #[ab ag,I 2])) w)):=uj_ {N:=18,keep:=kp 0 [[0],[0,9],[2,3],[2,3]],ref:=ae} func107 (by kernel_rfl)
def AX:Mt:={N:=59,keep:=kp 0 [[0],[0,7],[2,3],[0,10],[2,3],[0,23,24,25],[0,23,24,25,26],[0,4,5,23,24,25],[0,4,6,23,24,25],[0,4,6,23,24,25,34],[0,4,6],[4,6],[2,3],[0,23,24,25],[2,3]],bQ:=[(3,(.range 10)),(10,(.range 12))],bk:=[(0,[0]),(1,[]),(2,[0,23,24,25])],lk:=[(6,[0,23,24,25])],ref:=ae}
def Kw:=bc f149
def T8:=Kw.sr.sr.sr
def Kx:=Kw.sr.sr.sl.sr.sl.sl
def Gg (x x1:Option Addr) (x2 x3:Nat) (x4 x5:Int):Env:=[vP 0 x,vS 23 x1 x2 x3,vI 24 x4,vI 25 x5]
def Ov (R:RT):=aW 1 [] (SQ AX T8 (Rt f149 R) (Rt f149 R))
theorem afv {x w R}:Uj (Calls prog 149 #[ab x] w R) (Fo x.isNone (R (Z (aw #[I 0,I 1])) w) (Sm w λw'=>∃a,x=aa a/\Li w' (a.add 2) λn=>∃a,x=aa a/\Li w' (a.add 1) λb=>Fo (n==b) (R (Z (aw #[I 0,I 5])) w') (∃a,x=aa a/\Lq w' (a.add 0) λp n c=>Cut (WP prog 59 (bj Kx) (Gg x p n c (↑n:Int) 0) w' (Ov R))))):=uj_ AX func149 (by kernel_rfl)
theorem acJ (x x1 x2 x3 x4 x5 w B R):den prog AX Kx (Gg x x1 x2 x3 x4 x5) w (bd B (Ov R))=
(Fo (decide (x5<x4)) ((0<=x5/\x5<(↑x2:Int))/\∃a,x1=aa a/\Lu w (add a (aG x5*1)) λn=>Ci 253 [int .u64 (aH BinOp.xor .u64 (match ae with|true=>(-1:Int)|false=>oa .u64) n)] w λn w'=>Fo (decide (n<64)) (Sm w' λb=>∃a,x=aa a/\∃p d c,b.cell? (a.add 0)=aa (aj p d c)/\(0<=x5/\x5<(↑d:Int))/\∃a,p=aa a/\∃f,b.cell? (add a (aG x5*1))=aa (int .u64 f)/\0<=n/\(0<=x5/\x5<(↑d:Int))/\∃a,p=aa a/\Wr b (add a (aG x5*1)) [int .u64 (aH rR .u64 f (fg .u64 1 n))] λw'=>∃a,x=aa a/\Li w' (a.add 2) λg=>∃a,x=aa a/\Wr w' (a.add 2) [I (wrap i64 (g+1))] λw'=>R (Z (aw #[I (wrap i64 (wrap i64 (wrap i64 (x5*64)+n)+1)),I 0])) w') (B [vP 0 x,vS 23 x1 x2 x3,vI 24 x4,(25,SV.v (I (wrap i64 (x5+1))))] w')) (R (Z (aw #[I 0,I 5])) w)):=by kernel_rfl
def A9:Mt:={N:=21,keep:=kp 0 [[0],[0,3],[0,3,6,7],[0,3,6,7,8],[0,3,4,6,7],[0,3,4,6,7,13],[0,3,6,7],[0,3,6,7],[2]],bk:=[(0,[3]),(1,[0,3,6,7])],lk:=[(3,[0,3,6,7])],ref:=ae}
def Lf:=bc f272
def Uu:=Lf.sr.sr.sr
def Lg:=Lf.sr.sr.sl.sr.sl.sl
def Gw (x x1:Option Addr) (x2 x3:Nat) (x4 x5:Int):Env:=[vP 0 x,vS 3 x1 x2 x3,vI 6 x4,vI 7 x5]
def OM (R:RT):=aW 0 [3] (SQ A9 Uu (Rt f272 R) (Rt f272 R))
theorem ahl {x w R}:Uj (Calls prog 272 #[ab x] w R) (Ci 339 [ab x] w λn w'=>Cut (WP prog 21 (bj Lg) (Gw x ag 0 0 n 0) w' (OM R))):=uj_ A9 func272 (by kernel_rfl)
theorem ac8 (x x1 x2 x3 x4 x5 w B R):den prog A9 Lg (Gw x x1 x2 x3 x4 x5) w (bd B (OM R))=
(Fo (decide (x5<x4)) (Cj 340 [ab x,I (wrap i64 (x5+1))] w λb w'=>Fo b (aI w' [I (wrap i64 (x5+1))] 3 λp w'=>∃a n c d,aZ prog (bM #[36,36] 36 #[aj x1 x2 x3,aj (aa p) 1 1]) w'=a7 (aj a n c) d/\B [vP 0 x,vS 3 a n c,vI 6 x4,(7,SV.v (I (wrap i64 (x5+1))))] d) (B [vP 0 x,vS 3 x1 x2 x3,vI 6 x4,(7,SV.v (I (wrap i64 (x5+1))))] w')) (R (Z (aj x1 x2 x3)) w)):=by kernel_rfl
theorem ahN {x x1 w R}:Uj (Calls prog 305 #[ab x,I x1] w R) (Call prog 363 [ab x,I x1] w λe w'=>∃p n,e=Z (aw #[ab p,int .u64 n])/\Fo x.isNone (R (Z (I 1)) w') (Fz p.isNone (∃a,p=aa a/\∃b,w'.cell? a=aa (int .u64 b)/\Fo (aH aM .u64 b n==0) (R (Z (I 4)) w') (∃a,p=aa a/\∃c,w'.cell? a=aa (int .u64 c)/\∃a,p=aa a/\Wr w' a [int .u64 (aH tc .u64 c n)] λw'=>∃a,x=aa a/\∃n,w'.cell? (a.add 2)=aa (I n)/\∃a,x=aa a/\Wr w' (a.add 2) [I (wrap i64 (n-1))] λw'=>R (Z (I 0)) w')) (R (Z (I 4)) w'))):=uj_ {N:=40,keep:=kp 0 [[0,1],[0,5,6],[0,5,6,13],[4],[0,5,6,16],[4],[0],[],[4]],bk:=[(0,[0,5,6])],ref:=ae} func305 (by kernel_rfl)
theorem aik {x w R}:Uj (Calls prog 339 #[ab x] w R) (Fo x.isNone (R (Z (I 0)) w) (∃a,x=aa a/\Li w (a.add 1) λn=>R (Z (I n)) w)):=uj_ {N:=9,keep:=kp 0 [[0],[0,4],[2],[2]],ref:=ae} func339 (by kernel_rfl)
theorem ail {x x1 w R}:Uj (Calls prog 340 #[ab x,I x1] w R) (Call prog 363 [ab x,I x1] w λe w'=>∃p n,e=Z (aw #[ab p,int .u64 n])/\Fo (!p.isNone) (∃a,p=aa a/\Lu w' a λb=>R (Z (.bool (aH aM .u64 b n !=0))) w') (R (Z (.bool ae)) w')):=uj_ {N:=23,keep:=kp 0 [[0,1],[5,6],[4]],ref:=ae} func340 (by kernel_rfl)
theorem Se {x x1 w R}:Uj (Calls prog 363 #[ab x,I x1] w R) (Fz x.isNone (Fz (decide (x1<1)) (∃a,x=aa a/\Li w (a.add 1) λn=>Fo (decide (x1>n)) (R (Z (aw #[ab ag,int .u64 0])) w) (Sm w λw'=>∃a,x=aa a/\Lq w' (a.add 0) λp n c=>(64:Int)≠0/\(0<=wrap i64 (iH (wrap i64 (x1-1)) 64)/\wrap i64 (iH (wrap i64 (x1-1)) 64)<(↑n:Int))/\∃a,p=aa a/\(64:Int)≠0/\0<=eO (wrap i64 (x1-1)) 64/\R (Z (aw #[ab (aa (add a (aG (wrap i64 (iH (wrap i64 (x1-1)) 64))*1))),int .u64 (fg .u64 1 (eO (wrap i64 (x1-1)) 64))])) w')) (R (Z (aw #[ab ag,int .u64 0])) w)) (R (Z (aw #[ab ag,int .u64 0])) w)):=uj_ {N:=32,keep:=kp 0 [[0,1],[0,1,19],[4,5],[4,5]],bQ:=[(3,(.range 14))],ref:=ae} func363 (by kernel_rfl)
theorem aeS {x w R}:Uj (Calls prog 110 #[I x] w R) (Fz (decide (x<1)) (Fo (decide (x>1024)) (R (Z (aw #[ab ag,I 2])) w) (∃p n c w',aZ prog (lA 36 (I x) (I x)) w=a7 (aj p n c) w'/\aI w' [aj p n c,I 0,I 0] 295 λp w'=>R (Z (aw #[ab (aa p),I 0])) w')) (R (Z (aw #[ab ag,I 2])) w)):=uj_ {N:=14,keep:=kp 0 [[0],[0,9],[2,3],[2,3]],ref:=ae} func110 (by kernel_rfl)
theorem afx {x x1 w R}:Uj (Calls prog 151 #[ab x,I x1] w R) (Fo x.isNone (R (Z (I 1)) w) (Cj 254 [ab x,I x1] w λb w'=>Fo b (R (Z (I 6)) w') (Sm w' λd=>∃a,x=aa a/\∃n,d.cell? (a.add 2)=aa (I n)/\∃a,x=aa a/\∃p g c,d.cell? (a.add 0)=aa (aj p g c)/\Fo (n==(↑g:Int)) (R (Z (I 5)) d) (Sm d λw'=>∃a,x=aa a/\Lq w' (a.add 0) λp n c=>∃h,x=aa h/\Li w' (h.add 2) λi=>Ci 255 [ab x,I i] w' λf w'=>w'.cell? (a.add 0)=aa (aj p n c)/\(0<=f/\f<(↑n:Int))/\∃a,p=aa a/\Wr w' (add a (aG f*1)) [I x1] λw'=>∃a,x=aa a/\Li w' (a.add 2) λn=>∃a,x=aa a/\Wr w' (a.add 2) [I (wrap i64 (n+1))] λw'=>R (Z (I 0)) w')))):=uj_ {N:=42,keep:=kp 0 [[0,1],[0,1,5],[4],[0,1,8],[4],[0,1,12],[4],[0],[],[4]],bQ:=[(5,(.range 11)),(7,[0,1,2,3,4,5,6,7,8,10,9,11,12])],bk:=[(0,[0,1])],ref:=ae} func151 (by kernel_rfl)
theorem af0 {x w R}:Uj (Calls prog 187 #[ab x] w R) (Fz x.isNone (∃a,x=aa a/\Li w (a.add 2) λn=>Fo (n==0) (R (Z (N3)) w) (∃a,x=aa a/\Li w (a.add 2) λn=>∃p e c w',aZ prog (lA 36 (I n) (I n)) w=a7 (aj p e c) w'/\Sm w' λf=>∃a,x=aa a/\∃h n g,f.cell? (a.add 0)=aa (aj h n g)/\∃a,x=aa a/\∃b,f.cell? (a.add 1)=aa (I b)/\(0<=b/\b<=(↑n:Int))/\∃d w',aZ prog (nX #[36,36] 3 #[aj p e c,aj (fJ h g (aG b) 1) (n-aG b) (g-aG b)]) f=a7 (I d) w'/\Sm w' λi=>(0<=d/\d<=(↑e:Int))/\∃a,x=aa a/\∃j n k,i.cell? (a.add 0)=aa (aj j n k)/\∃l w',aZ prog (nX #[36,36] 3 #[aj (fJ p c (aG d) 1) (e-aG d) (c-aG d),aj j n k]) i=a7 (I l) w'/\R (Z (aj p e c)) w')) (R (Z (N3)) w)):=uj_ {N:=39,keep:=kp 0 [[0],[0,13],[2],[0,3],[0,3,4],[3],[2]],bQ:=[(4,(.range 12)),(5,(.range 8))],ref:=ae} func187 (by kernel_rfl)
theorem ag5 {x x1 w R}:Uj (Calls prog 254 #[ab x,I x1] w R) (Cq 187 [ab x] w λp n c w'=>Cj 325 [aj p n c,I x1] w' λb w'=>R (Z (.bool b)) w'):=uj_ {N:=9,keep:=kp 0 [[0,1],[4]],ref:=ae} func254 (by kernel_rfl)
theorem ag6 {x x1 w R}:Uj (Calls prog 255 #[ab x,I x1] w R) (Sm w λw'=>∃a,x=aa a/\Li w' (a.add 1) λn=>∃a,x=aa a/\Lq w' (a.add 0) λp b c=>(↑b:Int)≠0/\R (Z (I (eO (wrap i64 (n+x1)) (↑b:Int)))) w'):=uj_ {N:=17,keep:=kp 0 [[0,1],[4]],bQ:=[(1,(.range 13))],ref:=ae} func255 (by kernel_rfl)
theorem ahM {x w R}:Uj (Calls prog 304 #[ab x] w R) (Ct 307 [ab x] w λn b w'=>Fo (b==0) (Ci 255 [ab x,I 1] w' λc w'=>∃a,x=aa a/\Wr w' (a.add 1) [I c] λw'=>∃a,x=aa a/\Li w' (a.add 2) λd=>∃a,x=aa a/\Wr w' (a.add 2) [I (wrap i64 (d-1))] λw'=>R (Z (aw #[I n,I b])) w') (R (Z (aw #[I n,I b])) w')):=uj_ {N:=27,keep:=kp 0 [[0],[0,4,5],[0,4,5,12],[0,4,5],[4,5],[2,3]],ref:=ae} func304 (by kernel_rfl)
theorem ahP {x w R}:Uj (Calls prog 307 #[ab x] w R) (Fo x.isNone (R (Z (aw #[I 0,I 1])) w) (∃a,x=aa a/\Li w (a.add 2) λn=>Fo (n==0) (R (Z (aw #[I 0,I 12])) w) (Sm w λw'=>∃a,x=aa a/\Lq w' (a.add 0) λp n c=>∃a,x=aa a/\Li w' (a.add 1) λb=>(0<=b/\b<(↑n:Int))/\∃a,p=aa a/\Li w' (add a (aG b*1)) λn=>R (Z (aw #[I n,I 0])) w'))):=uj_ {N:=23,keep:=kp 0 [[0],[0,4],[2,3],[0,7],[2,3],[2,3]],bQ:=[(5,(.range 12))],bk:=[(0,[0])],ref:=ae} func307 (by kernel_rfl)
def Bh:Mt:={N:=45,keep:=kp 0 [[0,1],[0,1,9],[4],[0,1,5],[0,5,6],[0,5,6,16],[4],[0,5,7],[0,5,7,22],[0,5,7],[0,5,7],[],[4]],bQ:=[(10,[0,1,2,3,4,5,7,8,9,10,11,6,12,13])],bk:=[(0,[0]),(1,[0,5,7])],lk:=[(8,[0,5,7])],ref:=ae}
def LK:=bc f364
def UD:=LK.sr.sr.sr.sr.sr.sr
def LL:=LK.sr.sr.sr.sr.sr.sl.sr.sl.sl
def GJ (x x1:Option Addr) (x2 x3:Nat) (x4:Int):Env:=[vP 0 x,vS 5 x1 x2 x3,vI 7 x4]
def O2 (R:RT):=aW 0 [0] (SQ Bh UD (Rt f364 R) (Rt f364 R))
theorem aiC {x x1 w R}:Uj (Calls prog 364 #[ab x,I x1] w R) (Fo x.isNone (R (Z (I 1)) w) (Cq 187 [ab x] w λp n c w'=>Ci 375 [aj p n c,I x1] w' λa w'=>Fo (decide (a<0)) (R (Z (I 4)) w') (Cut (WP prog 45 (bj LL) (GJ x p n c a) w' (O2 R))))):=uj_ Bh func364 (by kernel_rfl)
theorem adq (x x1 x2 x3 x4 w B R):den prog Bh LL (GJ x x1 x2 x3 x4) w (bd B (O2 R))=
(Fo (decide (wrap i64 (x4+1)<(↑x2:Int))) (Sm w λw'=>∃a,x=aa a/\Lq w' (a.add 0) λp n c=>(0<=wrap i64 (x4+1)/\wrap i64 (x4+1)<(↑x2:Int))/\∃d,x1=aa d/\∃f,w'.cell? (add d (aG (wrap i64 (x4+1))*1))=aa (I f)/\Ci 255 [ab x,I x4] w' λb w'=>w'.cell? (add d (aG (wrap i64 (x4+1))*1))=aa (I f)/\w'.cell? (a.add 0)=aa (aj p n c)/\(0<=b/\b<(↑n:Int))/\∃a,p=aa a/\Wr w' (add a (aG b*1)) [I f] λw'=>B [vP 0 x,vS 5 x1 x2 x3,(7,SV.v (I (wrap i64 (x4+1))))] w') (∃a,x=aa a/\Li w (a.add 2) λn=>∃a,x=aa a/\Wr w (a.add 2) [I (wrap i64 (n-1))] λw'=>R (Z (I 0)) w')):=by kernel_rfl
theorem aiD {x w R}:Uj (Calls prog 366 #[ab x] w R) (Ct 304 [ab x] w λn a w'=>Fo (a !=0) (R (Z (I a)) w') (Ci 151 [ab x,I n] w' λn w'=>R (Z (I n)) w')):=uj_ {N:=16,keep:=kp 0 [[0],[0,3,4],[0,3,4,11],[2],[2]],ref:=ae} func366 (by kernel_rfl)
theorem ai0 {x w R}:Uj (Calls prog 392 #[ab x] w R) (Fo x.isNone (R (Z (I 0)) w) (∃a,x=aa a/\Li w (a.add 2) λn=>R (Z (I n)) w)):=uj_ {N:=9,keep:=kp 0 [[0],[0,4],[2],[2]],ref:=ae} func392 (by kernel_rfl)
end
end
section
open Value IntKind Ending World Addr Tryz
open Value renaming pointer→ab,slice→aj,tuple→aw,bool→o7
set_option maxRecDepth 100000
noncomputable section
def Kv:=bc f14
theorem u14 {x x1 w R}:Uj (Calls prog 14 #[ab x,I x1] w R) (Ci 73 [ab x,I x1] w λn w'=>Fo (n !=0) (R (Z (I 0)) w') (∃a,x=aa a/\Lq w' (a.add 0) λp n c=>(0<=x1/\x1<(↑n:Int))/\∃a,p=aa a/\Lp w' (add a (aG x1*1)) λp=>Ci 74 [ab p] w' λn w'=>R (Z (I n)) w')):=uj_ {N:=17,keep:=kp 0 [[0,1],[0,1,8],[4],[4]],ref:=ae} func14 (by kernel_rfl)
def Bg:Mt:={N:=38,keep:=kp 0 [[0],[0,12],[2,3],[0,4],[4,16,17],[4,16,17,18],[4,5,6,16,17],[4,5,6,16,17,24],[2,3],[4,16,17],[4,16,17],[2,3]],bk:=[(0,[4]),(1,[4,16,17])],lk:=[(5,[4,16,17])],ref:=ae}
def LF:=bc f36
def UE:=LF.sr.sr.sr.sr
def LO:=LF.sr.sr.sr.sl.sr.sl.sl
def GL (x:Option Addr) (x1 x2:Int):Env:=[vP 4 x,vI 16 x1,vI 17 x2]
def O5 (R:RT):=aW 0 [4] (SQ Bg UE (Rt f36 R) (Rt f36 R))
theorem u36 {x w R}:Uj (Calls prog 36 #[I x] w R) (Fz (decide (x<1)) (Fo (decide (x>64)) (R (Z (aw #[ab ag,I 2])) w) (rM w λr w'=>aI w' [N3,map (aa r)] 155 λp w'=>Cut (WP prog 38 (bj LO) (GL (aa p) x 0) w' (O5 R)))) (R (Z (aw #[ab ag,I 2])) w)):=uj_ Bg func36 (by kernel_rfl)
theorem adt (x x1 x2 w B R):den prog Bg LO (GL x x1 x2) w (bd B (O5 R))=
(Fo (decide (x2<x1)) (Call prog 108 [I 32] w λe w'=>∃p n,e=Z (aw #[ab p,I n])/\Fo (n !=0) (R (Z (aw #[ab ag,I n])) w') (∃a,x=aa a/\Lq w' (a.add 0) λb n c=>aI w' [ab p] 152 λp w'=>∃d f g h,aZ prog (bM #[153,153] 153 #[aj b n c,aj (aa p) 1 1]) w'=a7 (aj d f g) h/\∃a,x=aa a/\Wr h (a.add 0) [aj d f g] λw'=>B [vP 4 x,vI 16 x1,(17,SV.v (I (wrap i64 (x2+1))))] w')) (R (Z (aw #[ab x,I 0])) w)):=by kernel_rfl
theorem u73 {x x1 w R}:Uj (Calls prog 73 #[ab x,I x1] w R) (Fo x.isNone (R (Z (I 1)) w) (Fz (decide (x1<0)) (∃a,x=aa a/\Lq w (a.add 0) λp n c=>Fo (decide (x1>=(↑n:Int))) (R (Z (I 3)) w) (R (Z (I 0)) w)) (R (Z (I 3)) w))):=uj_ {N:=20,keep:=kp 0 [[0,1],[0,1,5],[4],[8],[4],[4]],bk:=[(0,[])],ref:=ae} func73 (by kernel_rfl)
theorem u74 {x w R}:Uj (Calls prog 74 #[ab x] w R) (Fo x.isNone (R (Z (I 0)) w) (∃a,x=aa a/\∃r,w.cell? (a.add 8)=aa (map r)/\∃(n:Nat),(∀(ty:TypeId),aZ prog (jY #[78] ty #[map r]) w=a7 (I (↑n:Int)) w)/\R (Z (I (↑n:Int))) w)):=uj_ {N:=10,keep:=kp 0 [[0],[0,4],[2],[2]],ref:=ae} func74 (by kernel_rfl)
theorem u88 {x x1 w R}:Uj (Calls prog 88 #[ab x,I x1] w R) (Ci 73 [ab x,I x1] w λn w'=>Fo (n !=0) (R (Z (N3)) w') (∃a,x=aa a/\Lq w' (a.add 0) λp n c=>(0<=x1/\x1<(↑n:Int))/\∃a,p=aa a/\Lp w' (add a (aG x1*1)) λp=>Cq 182 [ab p] w' λp n c w'=>R (Z (aj p n c)) w')):=uj_ {N:=17,keep:=kp 0 [[0,1],[0,1,8],[4],[4]],ref:=ae} func88 (by kernel_rfl)
def yy:Mt:={N:=31,keep:=kp 0 [[0],[0,4],[0,4,12],[0,4,12,13],[0,4,5,12],[0,4,5,6,7,12],[0,4,5,6,7,12,21],[2,3],[0,4,12],[0,4,12],[2,3]],bk:=[(0,[4]),(1,[0,4,12])],lk:=[(3,[0,4,12])],ref:=ae}
def Kn:=bc f108
def T0:=Kn.sr.sr.sr
def Ko:=Kn.sr.sr.sl.sr.sl.sl
def Cl (x:Int) (x1:Option Addr) (x2:Int):Env:=[vI 0 x,vP 4 x1,vI 12 x2]
def On (R:RT):=aW 0 [4] (SQ yy T0 (Rt f108 R) (Rt f108 R))
theorem aeQ {x w R}:Uj (Calls prog 108 #[I x] w R) (rM w λr w'=>aI w' [ab ag,ab ag,ab ag,ab ag,ab ag,ab ag,ab ag,ab ag,map (aa r),I x] 265 λp w'=>Cut (WP prog 31 (bj Ko) (Cl x (aa p) 0) w' (On R))):=uj_ yy func108 (by kernel_rfl)
theorem RW (x x1 x2 w B R):den prog yy Ko (Cl x x1 x2) w (bd B (On R))=
(Fo (decide (x2<8)) (Call prog 110 [I x] w λe w'=>∃p n,e=Z (aw #[ab p,I n])/\Fo (n !=0) (R (Z (aw #[ab ag,I n])) w') (∃a,x1=aa a/\(0<=x2/\x2<(↑8:Int))/\Wr w' (add (a.add 0) (aG x2*1)) [ab p] λw'=>B [vI 0 x,vP 4 x1,(12,SV.v (I (wrap i64 (x2+1))))] w')) (R (Z (aw #[ab x1,I 0])) w)):=by kernel_rfl
theorem afe {x x1 w R}:Uj (Calls prog 132 #[ab x,I x1] w R) (Call prog 242 [ab x,I x1] w λe w'=>∃p n,e=Z (aw #[ab p,I n])/\Fo (n !=0) (R (Z (I n)) w') (Ci 243 [ab p,I x1] w' λn w'=>R (Z (I n)) w')):=uj_ {N:=19,keep:=kp 0 [[0,1],[1,5,6],[1,5,6,14],[4],[4]],ref:=ae} func132 (by kernel_rfl)
theorem agB {x x1 w R}:Uj (Calls prog 224 #[ab x,I x1] w R) (Ci 73 [ab x,I x1] w λn w'=>Fo (n !=0) (R (Z (aw #[I 0,I n])) w') (∃a,x=aa a/\Lq w' (a.add 0) λp n c=>(0<=x1/\x1<(↑n:Int))/\∃a,p=aa a/\Lp w' (add a (aG x1*1)) λp=>Ct 309 [ab p] w' λn b w'=>Fo (b !=0) (R (Z (aw #[I 0,I b])) w') (∃a,x=aa a/\Lq w' (a.add 0) λp d c=>(0<=x1/\x1<(↑d:Int))/\∃a,p=aa a/\Lp w' (add a (aG x1*1)) λp=>Ci 310 [ab p] w' λf w'=>R (Z (aw #[I n,I f])) w'))):=uj_ {N:=38,keep:=kp 0 [[0,1],[0,1,6],[0,1,6,13],[4,5],[0,1,7,8],[0,1,7,8,27],[4,5],[4,5]],ref:=ae} func224 (by kernel_rfl)
theorem agM {x x1 x2 x3 w R}:Uj (Calls prog 235 #[ab x,I x1,I x2,I x3] w R) (Ci 73 [ab x,I x1] w λn w'=>Fo (n !=0) (R (Z (I n)) w') (∃a,x=aa a/\∃r,w'.cell? (a.add 1)=aa (map r)/\∃n b,aZ prog (dg 78 (map r) (I x3) ah) w'=a7 (aw #[I n,.bool b]) w'/\Fo b (R (Z (I 6)) w') (∃a,x=aa a/\Lq w' (a.add 0) λp n c=>(0<=x1/\x1<(↑n:Int))/\∃a,p=aa a/\Lp w' (add a (aG x1*1)) λp=>Ci 320 [ab p,I x2,I x3] w' λn w'=>Fo (n==0) (∃a,x=aa a/\∃r,w'.cell? (a.add 1)=aa (map r)/\∃d,aZ prog (gy 78 (map r) (I x3) (I x1)) w'=a7 () d/\R (Z (I n)) d) (R (Z (I n)) w')))):=uj_ {N:=48,keep:=kp 0 [[0,1,2,3],[0,1,2,3,9],[0,1,2,3,9,17],[8],[0,1,2,3,11],[0,1,2,3,28],[8],[0,1,3,12],[0,1,3,12,40],[12],[8]],ref:=ae} func235 (by kernel_rfl)
theorem agO {x x1 w R}:Uj (Calls prog 237 #[ab x,I x1] w R) (Call prog 242 [ab x,I x1] w λe w'=>∃p n,e=Z (aw #[ab p,I n])/\Fo (n !=0) (R (Z (I n)) w') (∃a,x=aa a/\∃r,w'.cell? (a.add 1)=aa (map r)/\∃b,aZ prog (gW #[78,3] 0 #[map r,I x1]) w'=a7 (aw #[]) b/\Call prog 321 [ab p,I x1] b λe w'=>∃n,e=Z (I n)/\R (Z (I n)) w')):=uj_ {N:=24,keep:=kp 0 [[0,1],[0,1,5,6],[0,1,5,6,14],[4],[1,5],[4]],ref:=ae} func237 (by kernel_rfl)
theorem agT {x x1 w R}:Uj (Calls prog 242 #[ab x,I x1] w R) (Fo x.isNone (R (Z (aw #[ab ag,I 1])) w) (∃a,x=aa a/\∃r,w.cell? (a.add 1)=aa (map r)/\∃n b,aZ prog (dg 78 (map r) (I x1) ah) w=a7 (aw #[I n,.bool b]) w/\Fo (!b) (R (Z (aw #[ab ag,I 4])) w) (∃a,x=aa a/\Lq w (a.add 0) λp d c=>(0<=n/\n<(↑d:Int))/\∃a,p=aa a/\Lp w (add a (aG n*1)) λp=>R (Z (aw #[ab p,I 0])) w))):=uj_ {N:=28,keep:=kp 0 [[0,1],[0,1,9],[4,5],[0,6,7],[0,6,20],[4,5],[4,5]],ref:=ae} func242 (by kernel_rfl)
theorem agU {x x1 w R}:Uj (Calls prog 243 #[ab x,I x1] w R) (Call prog 323 [ab x,I x1] w λe w'=>∃n b,e=Z (aw #[I n,.bool b])/\Ci 321 [ab x,I x1] w' λa w'=>Fo (a !=0) (R (Z (I a)) w') (Ci 320 [ab x,I n,I x1] w' λn w'=>R (Z (I n)) w')):=uj_ {N:=24,keep:=kp 0 [[0,1],[0,1,5],[0,1,5,7],[0,1,5,7,18],[4],[4]],ref:=ae} func243 (by kernel_rfl)
theorem ahi {x x1 w R}:Uj (Calls prog 267 #[ab x,int .u64 x1] w R) (Ct 335 [ab x,int .u64 x1,func (aS 336) #[] #[]] w λn a w'=>R (Z (aw #[I n,I a])) w'):=uj_ {N:=11,keep:=kp 0 [[0,1],[4,5]],ref:=ae} func267 (by kernel_rfl)
theorem ahj {x x1 w R}:Uj (Calls prog 268 #[ab x,int .u64 x1] w R) (Ct 335 [ab x,int .u64 x1,func (aS 337) #[] #[]] w λn a w'=>R (Z (aw #[I n,I a])) w'):=uj_ {N:=11,keep:=kp 0 [[0,1],[4,5]],ref:=ae} func268 (by kernel_rfl)
theorem ahR {x w R}:Uj (Calls prog 309 #[ab x] w R) (Call prog 365 [ab x] w λe w'=>∃p n,e=Z (aw #[ab p,I n])/\Fo (n !=0) (R (Z (aw #[I 0,I n])) w') (Ct 307 [ab p] w' λn a w'=>R (Z (aw #[I n,I a])) w')):=uj_ {N:=18,keep:=kp 0 [[0],[4,5],[4,5,12],[2,3],[2,3]],ref:=ae} func309 (by kernel_rfl)
theorem ahS {x w R}:Uj (Calls prog 310 #[ab x] w R) (Call prog 365 [ab x] w λe w'=>∃p n,e=Z (aw #[ab p,I n])/\Fo (n !=0) (R (Z (I n)) w') (Ci 366 [ab p] w' λn w'=>R (Z (I n)) w')):=uj_ {N:=15,keep:=kp 0 [[0],[3,4],[3,4,11],[2],[2]],ref:=ae} func310 (by kernel_rfl)
theorem ah2 {x x1 x2 w R}:Uj (Calls prog 320 #[ab x,I x1,I x2] w R) (Fo x.isNone (R (Z (I 1)) w) (∃a,x=aa a/\∃r,w.cell? (a.add 8)=aa (map r)/\∃n b,aZ prog (dg 78 (map r) (I x2) ah) w=a7 (aw #[I n,.bool b]) w/\Fz (decide (x1<0)) (Fo (decide (x1>=8)) (R (Z (I 2)) w) (Fo b (R (Z (I 6)) w) (Sm w λw'=>∃a,x=aa a/\∃r,w'.cell? (a.add 8)=aa (map r)/\∃(n:Nat),(∀(ty:TypeId),aZ prog (jY #[78] ty #[map r]) w'=a7 (I (↑n:Int)) w')/\∃a,x=aa a/\Li w' (a.add 9) λc=>Fo (decide ((↑n:Int)>=c)) (R (Z (I 5)) w') (∃a,x=aa a/\∃r,w'.cell? (a.add 8)=aa (map r)/\∃d,aZ prog (gy 78 (map r) (I x2) (I x1)) w'=a7 () d/\∃a,x=aa a/\(0<=x1/\x1<(↑8:Int))/\∃p,d.cell? (add (a.add 0) (aG x1*1))=aa (ab p)/\Call prog 151 [ab p,I x2] d λe w'=>∃n,e=Z (I n)/\R (Z (I n)) w')))) (R (Z (I 2)) w))):=uj_ {N:=54,keep:=kp 0 [[0,1,2],[0,1,2,10],[6],[0,1,2,8],[0,1,2,8,20],[6],[0,1,2,27],[6],[0,1,2,29],[6],[0,1,2],[6]],bQ:=[(8,(.range 11))],bk:=[(0,[0,1,2])],ref:=ae} func320 (by kernel_rfl)
theorem ah3 {x x1 w R}:Uj (Calls prog 321 #[ab x,I x1] w R) (Fo x.isNone (R (Z (I 1)) w) (∃a,x=aa a/\∃r,w.cell? (a.add 8)=aa (map r)/\∃n b,aZ prog (dg 78 (map r) (I x1) ah) w=a7 (aw #[I n,.bool b]) w/\Fo (!b) (R (Z (I 4)) w) (∃a,x=aa a/\∃r,w.cell? (a.add 8)=aa (map r)/\∃w',aZ prog (gW #[78,3] 0 #[map r,I x1]) w=a7 (aw #[]) w'/\∃a,x=aa a/\(0<=n/\n<(↑8:Int))/\Lp w' (add (a.add 0) (aG n*1)) λp=>Ci 364 [ab p,I x1] w' λn w'=>R (Z (I n)) w'))):=uj_ {N:=33,keep:=kp 0 [[0,1],[0,1,8],[4],[0,1,5,6],[0,1,5,19],[4],[0,1,5],[4]],ref:=ae} func321 (by kernel_rfl)
theorem ah5 {x x1 w R}:Uj (Calls prog 323 #[ab x,I x1] w R) ((x.isNone->R (Z (aw #[int i64 0,.bool ae])) w)/\(x.isNone=ae->∃a,x=aa a/\∃r,w.cell? (a.add 8)=aa (map r)/\∃n b,aZ prog (dg 78 (map r) (int i64 x1) ah) w=a7 (aw #[int i64 n,.bool b]) w/\R (Z (aw #[int i64 n,.bool b])) w)):=uj_ {N:=21,keep:=kp 0 [[0,1],[0,1,9],[4,5],[6,7],[4,5]],ref:=ae} func323 (by kernel_rfl)
def rJ:Mt:={N:=46,keep:=kp 0 [[0,1,2],[0,1,2,13],[6,7],[0,2,8],[0,2,8,25],[6,7],[0,2,8,9],[0,2,9,29,30,31],[0,2,9,29,30,31,32],[0,2,9,11,29,30,31],[0,2,9,11,29,30,31,42],[0,2,9,29,30,31],[0,2,9,29,30,31],[6,7]],bk:=[(0,[9]),(1,[0,2,9,29,30,31])],lk:=[(8,[0,2,9,29,30,31])],ref:=ae}
def yX:=bc f335
def FC:=yX.sr.sr.sr.sr.sr.sr
def yY:=yX.sr.sr.sr.sr.sr.sl.sr.sl.sl
def zq (x:Option Addr) (x1:Int) (x2:Option Addr) (x3 x4:Nat) (x5 x6:Int):Env:=[vP 0 x,(2,SV.v (func (aS 336) #[] #[])),vI 9 x1,vS 29 x2 x3 x4,vI 30 x5,vI 31 x6]
def zJ (R:RT):=aW 0 [9] (SQ rJ FC (Rt f335 R) (Rt f335 R))
theorem Jk {x x1 w R}:Uj (Calls prog 335 #[ab x,int .u64 x1,func (aS 336) #[] #[]] w R) (Fo x.isNone (R (Z (aw #[I 0,I 1])) w) (∃a,x=aa a/\Lq w (a.add 0) λp n c=>Cu 11 [I (↑n:Int)] w λn w'=>Cu 318 [int .u64 x1,int .u64 n] w' λn w'=>Cq 382 [int .u64 n] w' λp n c w'=>Fo ((↑n:Int)==0) (R (Z (aw #[I 0,I 12])) w') (((0:Int)<=0/\0<(↑n:Int))/\∃a,p=aa a/\Li w' (a.add 0) λb=>Cut (WP prog 46 (bj yY) [vP 0 x,(2,SV.v (func (aS 336) #[] #[])),vI 9 b,vS 29 p n c,(30,SV.v (I (↑n:Int))),vI 31 0] w' (zJ R))))):=uj_ rJ func335 (by kernel_rfl)
theorem I2 (x x1 x2 x3 x4 x5 x6 w B R):den prog rJ yY (zq x x1 x2 x3 x4 x5 x6) w (bd B (zJ R))=
(Fo (decide (x6<x5)) ((0<=x6/\x6<(↑x3:Int))/\∃a,x2=aa a/\Li w (add a (aG x6*1)) λn=>Ci 14 [ab x,I n] w λc w'=>Ci 14 [ab x,I x1] w' λd w'=>Cj 336 [I c,I d] w' λb w'=>Fo b (B [vP 0 x,(2,SV.v (func (aS 336) #[] #[])),vI 9 n,vS 29 x2 x3 x4,vI 30 x5,(31,SV.v (I (wrap i64 (x6+1))))] w') (B [vP 0 x,(2,SV.v (func (aS 336) #[] #[])),vI 9 x1,vS 29 x2 x3 x4,vI 30 x5,(31,SV.v (I (wrap i64 (x6+1))))] w')) (R (Z (aw #[I x1,I 0])) w)):=by kernel_rfl
theorem aii {x x1 w R}:Uj (Calls prog 336 #[I x,I x1] w R) (R (Z (.bool (decide (x>x1)))) w):=uj_ {N:=8,keep:=kp 0 [[0,1],[4]],ref:=ae} func336 (by kernel_rfl)
theorem aij {x x1 w R}:Uj (Calls prog 337 #[I x,I x1] w R) (R (Z (.bool (decide (x<x1)))) w):=uj_ {N:=8,keep:=kp 0 [[0,1],[4]],ref:=ae} func337 (by kernel_rfl)
end
end
section
open Value IntKind Ending World Addr Tryz
open Value renaming pointer→ab,slice→aj,tuple→aw,bool→o7
set_option maxRecDepth 100000
noncomputable section
theorem u34 {x w R}:Uj (Calls prog 34 #[I x] w R) (Fz (decide (x<1)) (Fo (decide (x>64)) (R (Z (aw #[ab ag,I 2])) w) (Call prog 107 [I 32] w λe w'=>∃p n,e=Z (aw #[ab p,I n])/\Fo (n !=0) (R (Z (aw #[ab ag,I n])) w') (rM w' λr w'=>aI w' [ab p,I x,map (aa r)] 192 λp w'=>R (Z (aw #[ab (aa p),I 0])) w'))) (R (Z (aw #[ab ag,I 2])) w)):=uj_ {N:=25,keep:=kp 0 [[0],[0,11],[2,3],[0,4,5],[0,4,5,17],[2,3],[2,3]],ref:=ae} func34 (by kernel_rfl)
theorem ae7 {x x1 x2 w R}:Uj (Calls prog 125 #[ab x,I x1,int .u64 x2] w R) (Fo x.isNone (R (Z (aw #[I 0,I 1])) w) (Fz (decide (x1<0)) (Fz (decide (x1>=8)) (Cj 232 [ab x,int .u64 x2] w λb w'=>Fo (!b) (R (Z (aw #[I 0,I 2])) w') (∃a,x=aa a/\Lp w' (add (a.add 0) 0) λp=>Ct 149 [ab p] w' λn c w'=>Fo (c !=0) (R (Z (aw #[I 0,I c])) w') (∃a,x=aa a/\∃r,w'.cell? (a.add 2)=aa (map r)/\aI w' [I x1,int .u64 x2,I 0,.bool ae,.bool ae,I 0] 250 λp w'=>∃d,aZ prog (gy 190 (map r) (I n) (ab (aa p))) w'=a7 () d/\R (Z (aw #[I n,I 0])) d))) (R (Z (aw #[I 0,I 2])) w)) (R (Z (aw #[I 0,I 2])) w))):=uj_ {N:=48,keep:=kp 0 [[0,1,2],[0,1,2,10],[6,7],[0,1,2,13],[6,7],[0,1,2,8,9],[0,1,2,8,9,36],[6,7],[8],[6,7]],bk:=[(0,[0,1,2])],ref:=ae} func125 (by kernel_rfl)
theorem ae9 {x x1 w R}:Uj (Calls prog 127 #[ab x,I x1] w R) (aI w [I 0,int .u64 0,I 0,.bool ae,.bool ae,I 0] 250 λp w'=>Call prog 236 [ab x,I x1] w' λe w'=>∃i n,e=Z (aw #[ab i,I n])/\Fo (n !=0) (Wr w' p [I 0,int .u64 0,I 0,.bool ae,.bool ae,I 0] λw'=>Li w' (p.add 0) λc=>Lu w' (p.add 1) λd=>Li w' (p.add 2) λf=>Lj w' (p.add 3) λb=>Lj w' (p.add 4) λg=>Li w' (p.add 5) λh=>R (Z (aw #[agg #[I c,int .u64 d,I f,.bool b,.bool g,I h],I n])) w') (∃a,i=aa a/\Li w' (a.add 0) λn=>Lu w' (a.add 1) λc=>Li w' (a.add 2) λd=>Lj w' (a.add 3) λb=>Lj w' (a.add 4) λg=>Li w' (a.add 5) λf=>Wr w' p [I n,int .u64 c,I d,.bool b,.bool g,I f] λw'=>Li w' (p.add 0) λn=>Lu w' (p.add 1) λh=>Li w' (p.add 2) λj=>Lj w' (p.add 3) λb=>Lj w' (p.add 4) λk=>Li w' (p.add 5) λl=>R (Z (aw #[agg #[I n,int .u64 h,I j,.bool b,.bool k,I l],I 0])) w')):=uj_ {N:=21,keep:=kp 0 [[0,1,4],[4,6,7],[4,6,7,15],[4,5],[4,5]],ref:=ae} func127 (by kernel_rfl)
theorem afb {x x1 x2 w R}:Uj (Calls prog 129 #[ab x,I x1,int .u64 x2] w R) (Call prog 236 [ab x,I x1] w λe w'=>∃p n,e=Z (aw #[ab p,I n])/\Fo (n !=0) (R (Z (I n)) w') (Cj 232 [ab x,int .u64 x2] w' λb w'=>Fo (!b) (R (Z (I 2)) w') (∃a,p=aa a/\Wr w' (a.add 1) [int .u64 x2] λw'=>R (Z (I 0)) w'))):=uj_ {N:=28,keep:=kp 0 [[0,1,2],[0,2,7,8],[0,2,7,8,15],[6],[2,7,19],[6],[],[6]],bk:=[(0,[2,7])],ref:=ae} func129 (by kernel_rfl)
theorem afV {x w R}:Uj (Calls prog 181 #[ab x] w R) (Fo x.isNone (R (Z (N3)) w) (∃a,x=aa a/\Lp w (add (a.add 0) 0) λp=>Cq 272 [ab p] w λp n c w'=>R (Z (aj p n c)) w')):=uj_ {N:=11,keep:=kp 0 [[0],[0,4],[2],[2]],ref:=ae} func181 (by kernel_rfl)
theorem agJ {x x1 w R}:Uj (Calls prog 232 #[ab x,int .u64 x1] w R) (Fo (x1 !=0) (∃a,x=aa a/\Li w (a.add 1) λn=>Cu 11 [I n] w λn w'=>Cj 277 [int .u64 x1,int .u64 n] w' λb w'=>R (Z (.bool b)) w') (R (Z (.bool ae)) w)):=uj_ {N:=16,keep:=kp 0 [[0,1],[4]],ref:=ae} func232 (by kernel_rfl)
theorem agL {x x1 x2 x3 w R}:Uj (Calls prog 234 #[ab x,I x1,I x2,.bool x3] w R) (Call prog 236 [ab x,I x1] w λe w'=>∃p n,e=Z (aw #[ab p,I n])/\Fo (n !=0) (R (Z (I n)) w') (Fz (decide (x2<0)) (∃a,x=aa a/\Li w' (a.add 1) λn=>Fo (decide (x2>=n)) (R (Z (I 3)) w') (∃a,p=aa a/\Wr w' (a.add 2) [I x2] λw'=>∃a,p=aa a/\Wr w' (a.add 3) [.bool x3] λw'=>R (Z (I 0)) w')) (R (Z (I 3)) w'))):=uj_ {N:=40,keep:=kp 0 [[0,1,2,3],[0,2,3,9,10],[0,2,3,9,10,17],[8],[2,3,9,21],[8],[],[8]],bk:=[(0,[2,3,9])],ref:=ae} func234 (by kernel_rfl)
theorem agN {x x1 w R}:Uj (Calls prog 236 #[ab x,I x1] w R) (Fo x.isNone (R (Z (aw #[ab ag,I 1])) w) (∃a,x=aa a/\∃r,w.cell? (a.add 2)=aa (map r)/\∃p b,aZ prog (dg 190 (map r) (I x1) ah) w=a7 (aw #[ab p,.bool b]) w/\Fo (!b) (R (Z (aw #[ab ag,I 4])) w) (R (Z (aw #[ab p,I 0])) w))):=uj_ {N:=22,keep:=kp 0 [[0,1],[0,1,9],[4,5],[6,7],[6,20],[4,5],[4,5]],ref:=ae} func236 (by kernel_rfl)
theorem agP {x x1 w R}:Uj (Calls prog 238 #[ab x,I x1] w R) (Call prog 236 [ab x,I x1] w λe w'=>∃p n,e=Z (aw #[ab p,I n])/\Fo (n !=0) (R (Z (I n)) w') (∃a,x=aa a/\∃r,w'.cell? (a.add 2)=aa (map r)/\∃b,aZ prog (gW #[190,3] 0 #[map r,I x1]) w'=a7 (aw #[]) b/\∃a,x=aa a/\∃p,b.cell? (add (a.add 0) 0)=aa (ab p)/\Call prog 305 [ab p,I x1] b λe w'=>∃n,e=Z (I n)/\R (Z (I n)) w')):=uj_ {N:=28,keep:=kp 0 [[0,1],[0,1,6],[0,1,6,14],[4],[0,1],[4]],ref:=ae} func238 (by kernel_rfl)
theorem agS {x x1 x2 w R}:Uj (Calls prog 241 #[ab x,I x1,I x2] w R) (Call prog 236 [ab x,I x1] w λe w'=>∃p n,e=Z (aw #[ab p,I n])/\Fo (n !=0) (R (Z (I n)) w') (∃a,p=aa a/\Lj w' (a.add 4) λb=>Fo b (R (Z (I 6)) w') (∃a,p=aa a/\Wr w' (a.add 4) [.bool ah] λw'=>∃a,p=aa a/\Wr w' (a.add 5) [I x2] λw'=>R (Z (I 0)) w'))):=uj_ {N:=31,keep:=kp 0 [[0,1,2],[2,7,8],[2,7,8,15],[6],[2,7,19],[6],[],[6]],bk:=[(0,[2,7])],ref:=ae} func241 (by kernel_rfl)
theorem agW {x x1 w R}:Uj (Calls prog 245 #[ab x,I x1] w R) (Call prog 236 [ab x,I x1] w λe w'=>∃p n,e=Z (aw #[ab p,I n])/\Fo (n !=0) (R (Z (aw #[I 0,I n])) w') (∃a,p=aa a/\Lj w' (a.add 4) λb=>Fo (!b) (R (Z (aw #[I 0,I 6])) w') (∃a,p=aa a/\Li w' (a.add 5) λn=>∃a,p=aa a/\Wr w' (a.add 4) [.bool ae] λw'=>∃a,p=aa a/\Wr w' (a.add 5) [I 0] λw'=>R (Z (aw #[I n,I 0])) w'))):=uj_ {N:=36,keep:=kp 0 [[0,1],[6,7],[6,7,15],[4,5],[6,19],[4,5],[6,8],[8],[4,5]],bk:=[(0,[6])],ref:=ae} func245 (by kernel_rfl)
theorem u40 {x w R}:Uj (Calls prog 40 #[I x] w R) (Fz (decide (x<1)) (Fo (decide (x>64)) (R (Z (aw #[ab ag,I 2])) w) (Cu 11 [I x] w λn w'=>aI w' [.bool ae,.bool ae,.bool ae,int .u64 0,.bool ae,.bool ae,.bool ae,int .u64 0,.bool ae,.bool ae,.bool ae,int .u64 0,.bool ae,.bool ae,.bool ae,int .u64 0,.bool ae,.bool ae,.bool ae,int .u64 0,.bool ae,.bool ae,.bool ae,int .u64 0,.bool ae,.bool ae,.bool ae,int .u64 0,.bool ae,.bool ae,.bool ae,int .u64 0,.bool ae,.bool ae,.bool ae,int .u64 0,.bool ae,.bool ae,.bool ae,int .u64 0,.bool ae,.bool ae,.bool ae,int .u64 0,.bool ae,.bool ae,.bool ae,int .u64 0,.bool ae,.bool ae,.bool ae,int .u64 0,.bool ae,.bool ae,.bool ae,int .u64 0,.bool ae,.bool ae,.bool ae,int .u64 0,.bool ae,.bool ae,.bool ae,int .u64 0,int .u64 n] 201 λp w'=>R (Z (aw #[ab (aa p),I 0])) w')) (R (Z (aw #[ab ag,I 2])) w)):=uj_ {N:=14,keep:=kp 0 [[0],[0,9],[2,3],[2,3]],ref:=ae} func40 (by kernel_rfl)
theorem afi {x x1 x2 w R}:Uj (Calls prog 136 #[ab x,I x1,int .u64 x2] w R) (Call prog 246 [ab x,I x1] w λe w'=>∃p n,e=Z (aw #[ab p,I n])/\Fo (n !=0) (R (Z (I n)) w') (∃a,p=aa a/\Lj w' (a.add 0) λb=>Fo b (R (Z (I 6)) w') (Cj 247 [ab x,int .u64 x2] w' λb w'=>Fo (!b) (R (Z (I 2)) w') (∃a,p=aa a/\Wr w' a [.bool ah,.bool ae,.bool ae,int .u64 x2] λw'=>R (Z (I 0)) w')))):=uj_ {N:=33,keep:=kp 0 [[0,1,2],[0,2,7,8],[0,2,7,8,15],[6],[0,2,7,19],[6],[2,7,24],[6],[],[6]],bk:=[(0,[2,7])],ref:=ae} func136 (by kernel_rfl)
theorem afl {x x1 w R}:Uj (Calls prog 139 #[ab x,I x1] w R) (Call prog 250 [ab x,I x1] w λe w'=>∃p n,e=Z (aw #[ab p,I n])/\Fo (n==0) (∃a,p=aa a/\Wr w' a [.bool ae,.bool ae,.bool ae,int .u64 0] λw'=>R (Z (I n)) w') (R (Z (I n)) w')):=uj_ {N:=19,keep:=kp 0 [[0,1],[5,6],[5,6,14],[6],[4]],ref:=ae} func139 (by kernel_rfl)
theorem afo {x x1 x2 w R}:Uj (Calls prog 142 #[ab x,I x1,int .u64 x2] w R) (Call prog 250 [ab x,I x1] w λe w'=>∃p n,e=Z (aw #[ab p,I n])/\Fo (n !=0) (R (Z (I n)) w') (Cj 247 [ab x,int .u64 x2] w' λb w'=>Fo (!b) (R (Z (I 2)) w') (∃a,p=aa a/\Wr w' (a.add 3) [int .u64 x2] λw'=>R (Z (I 0)) w'))):=uj_ {N:=28,keep:=kp 0 [[0,1,2],[0,2,7,8],[0,2,7,8,15],[6],[2,7,19],[6],[],[6]],bk:=[(0,[2,7])],ref:=ae} func142 (by kernel_rfl)
theorem afr {x x1 w R}:Uj (Calls prog 145 #[ab x,I x1] w R) (Ci 252 [ab x,I x1,.bool ah] w λn w'=>R (Z (I n)) w'):=uj_ {N:=8,keep:=kp 0 [[0,1],[4]],ref:=ae} func145 (by kernel_rfl)
theorem afs {x x1 w R}:Uj (Calls prog 146 #[ab x,I x1] w R) (Ci 252 [ab x,I x1,.bool ae] w λn w'=>R (Z (I n)) w'):=uj_ {N:=8,keep:=kp 0 [[0,1],[4]],ref:=ae} func146 (by kernel_rfl)
theorem aft {x x1 w R}:Uj (Calls prog 147 #[ab x,I x1] w R) (Call prog 250 [ab x,I x1] w λe w'=>∃p n,e=Z (aw #[ab p,I n])/\Fo (n==0) (∃a,p=aa a/\Wr w' (a.add 2) [.bool ah] λw'=>R (Z (I n)) w') (R (Z (I n)) w')):=uj_ {N:=19,keep:=kp 0 [[0,1],[5,6],[5,6,14],[6],[4]],ref:=ae} func147 (by kernel_rfl)
def AZ:Mt:={N:=24,keep:=kp 0 [[0],[0,7],[2],[0,3],[3,11,12],[3,11,12,13],[3,4,5,11,12],[3,4,11,12,17],[3,11,12],[3,11,12],[2]],bk:=[(0,[3]),(1,[3,11,12])],lk:=[(5,[3,11,12])],ref:=ae}
def KC:=bc f174
def Uf:=KC.sr.sr.sr.sr
def KD:=KC.sr.sr.sr.sl.sr.sl.sl
def Gi (x:Option Addr) (x1 x2:Nat) (x3:List Value) (x4:Int):Env:=[vS 3 x x1 x2,(11,SV.v (agg x3.toArray)),vI 12 x4]
def Ox (R:RT):=aW 0 [3] (SQ AZ Uf (Rt f174 R) (Rt f174 R))
theorem afQ {x w R}:Uj (Calls prog 174 #[ab x] w R) (Fo x.isNone (R (Z (N3)) w) (∃a,x=aa a/\∃cs,iX cs=64/\(∀(j:Nat) (v:Value),cs[j]?=aa v->w.cell? (add (a.add 0) j)=aa v)/\Cut (WP prog 24 (bj KD) (Gi ag 0 0 cs 0) w (Ox R)))):=uj_ AZ func174 (by kernel_rfl)
theorem acN (x x1 x2 x3 x4 w B R):den prog AZ KD (Gi x x1 x2 x3 x4) w (bd B (Ox R))=
(Fo (decide (x4<16)) ((0<=x4/\x4<(↑16:Int))/\∃b a d n,qG 4 (qH (aG x4*4) (Array.toList (dB x3)))=[.bool b,.bool a,.bool d,int .u64 n]/\aI w [.bool ae,.bool ae,.bool ae,int .u64 0] 198 λp w'=>Wr w' p [.bool b,.bool a,.bool d,int .u64 n] λw'=>Lj w' (p.add 0) λb=>Fo b (aI w' [I x4] 3 λp w'=>∃e n c f,aZ prog (bM #[36,36] 36 #[aj x x1 x2,aj (aa p) 1 1]) w'=a7 (aj e n c) f/\B [vS 3 e n c,(11,SV.v (agg (dB x3))),(12,SV.v (I (wrap i64 (x4+1))))] f) (B [vS 3 x x1 x2,(11,SV.v (agg (dB x3))),(12,SV.v (I (wrap i64 (x4+1))))] w')) (R (Z (aj x x1 x2)) w)):=by kernel_rfl
theorem afR {x x1 w R}:Uj (Calls prog 175 #[ab x,I x1] w R) (Call prog 250 [ab x,I x1] w λe w'=>∃p n,e=Z (aw #[ab p,I n])/\Fo (n==0) (∃a,p=aa a/\Lj w' (a.add 2) λb=>Fo b (∃a,p=aa a/\Lj w' (a.add 1) λb=>R (Z (.bool !b)) w') (R (Z (.bool ae)) w')) (R (Z (.bool ae)) w')):=uj_ {N:=28,keep:=kp 0 [[0,1],[5,6],[4]],ref:=ae} func175 (by kernel_rfl)
theorem agy {x x1 w R}:Uj (Calls prog 221 #[ab x,I x1] w R) (Call prog 250 [ab x,I x1] w λe w'=>∃p n,e=Z (aw #[ab p,I n])/\Fo (n !=0) (R (Z (I n)) w') (∃a,p=aa a/\Lj w' (a.add 2) λb=>Fz (!b) (∃a,p=aa a/\Lj w' (a.add 1) λb=>Fo b (R (Z (I 12)) w') (∃a,p=aa a/\Wr w' (a.add 2) [.bool ae] λw'=>R (Z (I 0)) w')) (R (Z (I 12)) w'))):=uj_ {N:=32,keep:=kp 0 [[0,1],[5,6],[5,6,13],[4],[5,17],[4],[],[4]],bk:=[(0,[5])],ref:=ae} func221 (by kernel_rfl)
theorem agX {x x1 w R}:Uj (Calls prog 246 #[ab x,I x1] w R) (Fo x.isNone (R (Z (aw #[ab ag,I 1])) w) (Fz (decide (x1<0)) (Fo (decide (x1>=16)) (R (Z (aw #[ab ag,I 3])) w) (∃a,x=aa a/\(0<=x1/\x1<(↑16:Int))/\R (Z (aw #[ab (aa (add (a.add 0) (aG x1*4))),I 0])) w)) (R (Z (aw #[ab ag,I 3])) w))):=uj_ {N:=21,keep:=kp 0 [[0,1],[0,1,6],[4,5],[0,1,9],[4,5],[4,5]],bk:=[(0,[0,1])],ref:=ae} func246 (by kernel_rfl)
theorem agY {x x1 w R}:Uj (Calls prog 247 #[ab x,int .u64 x1] w R) (Fo (x1 !=0) (∃a,x=aa a/\Lu w (a.add 64) λn=>Cj 277 [int .u64 x1,int .u64 n] w λb w'=>R (Z (.bool b)) w') (R (Z (.bool ae)) w)):=uj_ {N:=15,keep:=kp 0 [[0,1],[4]],ref:=ae} func247 (by kernel_rfl)
theorem agZ {x x1 w R}:Uj (Calls prog 248 #[ab x,I x1] w R) (aI w [.bool ae,.bool ae,.bool ae,int .u64 0] 198 λp w'=>Call prog 246 [ab x,I x1] w' λe w'=>∃f n,e=Z (aw #[ab f,I n])/\Fo (n !=0) (Wr w' p [.bool ae,.bool ae,.bool ae,int .u64 0] λw'=>Lj w' (p.add 0) λb=>Lj w' (p.add 1) λc=>Lj w' (p.add 2) λd=>Lu w' (p.add 3) λg=>R (Z (aw #[agg #[.bool b,.bool c,.bool d,int .u64 g],I n])) w') (∃a,f=aa a/\Lj w' (a.add 0) λb=>Lj w' (a.add 1) λc=>Lj w' (a.add 2) λd=>Lu w' (a.add 3) λn=>Wr w' p [.bool b,.bool c,.bool d,int .u64 n] λw'=>Lj w' (p.add 0) λb=>Lj w' (p.add 1) λh=>Lj w' (p.add 2) λi=>Lu w' (p.add 3) λn=>R (Z (aw #[agg #[.bool b,.bool h,.bool i,int .u64 n],I 0])) w')):=uj_ {N:=21,keep:=kp 0 [[0,1,4],[4,6,7],[4,6,7,15],[4,5],[4,5]],ref:=ae} func248 (by kernel_rfl)
theorem ag1 {x x1 w R}:Uj (Calls prog 250 #[ab x,I x1] w R) (Call prog 246 [ab x,I x1] w λe w'=>∃p n,e=Z (aw #[ab p,I n])/\Fo (n==0) (∃a,p=aa a/\Lj w' (a.add 0) λb=>Fo (!b) (R (Z (aw #[ab ag,I 4])) w') (R (Z (aw #[ab p,I n])) w')) (R (Z (aw #[ab p,I n])) w')):=uj_ {N:=25,keep:=kp 0 [[0,1],[6,7],[6,7,22],[4,5],[4,5]],ref:=ae} func250 (by kernel_rfl)
theorem ag3 {x x1 x2 w R}:Uj (Calls prog 252 #[ab x,I x1,.bool x2] w R) (Call prog 250 [ab x,I x1] w λe w'=>∃p n,e=Z (aw #[ab p,I n])/\Fo (n !=0) (R (Z (I n)) w') (∃a,p=aa a/\Lj w' (a.add 1) λb=>Fo (b==x2) (R (Z (I 6)) w') (∃a,p=aa a/\Wr w' (a.add 1) [.bool x2] λw'=>R (Z (I 0)) w'))):=uj_ {N:=30,keep:=kp 0 [[0,1,2],[2,7,8],[2,7,8,15],[6],[2,7,19],[6],[],[6]],bk:=[(0,[2,7])],ref:=ae} func252 (by kernel_rfl)
theorem u42 {x w R}:Uj (Calls prog 42 #[I x] w R) (Fz (decide (x<1)) (Fo (decide (x>64)) (R (Z (aw #[ab ag,I 2])) w) (aI w [I 0,I 0,I 0,I 0,I 0,I 0,I 0,I 0,I 0,I 0,I 0,I 0,I 0,I 0,I 0,I 0,I x] 204 λp w'=>R (Z (aw #[ab (aa p),I 0])) w')) (R (Z (aw #[ab ag,I 2])) w)):=uj_ {N:=13,keep:=kp 0 [[0],[0,9],[2,3],[2,3]],ref:=ae} func42 (by kernel_rfl)
theorem afn {x x1 w R}:Uj (Calls prog 141 #[ab x,I x1] w R) (Ci 251 [ab x,I x1] w λn w'=>Fo (n !=0) (R (Z (I n)) w') (∃a,x=aa a/\(0<=x1/\x1<(↑16:Int))/\Li w' (add (a.add 0) (aG x1*1)) λn=>Fo (n==0) (R (Z (I 4)) w') (∃a,x=aa a/\(0<=x1/\x1<(↑16:Int))/\Wr w' (add (a.add 0) (aG x1*1)) [I 0] λw'=>R (Z (I 0)) w'))):=uj_ {N:=24,keep:=kp 0 [[0,1],[0,1,5],[0,1,5,10],[4],[0,1,18],[4],[],[4]],ref:=ae} func141 (by kernel_rfl)
theorem afZ {x x1 w R}:Uj (Calls prog 186 #[ab x,I x1] w R) (Call prog 251 [ab x,I x1] w λe w'=>∃n,e=Z (I n)/\Fz (n !=0) (∃a,x=aa a/\(0<=x1/\x1<(↑16:Int))/\∃n,w'.cell? (add (a.add 0) (aG x1*1))=aa (I n)/\Fo (n==0) (R (Z (aw #[I 0,.bool ae])) w') (∃a,x=aa a/\(0<=x1/\x1<(↑16:Int))/\∃n,w'.cell? (add (a.add 0) (aG x1*1))=aa (I n)/\R (Z (aw #[I (wrap i64 (n-1)),.bool ah])) w')) (R (Z (aw #[I 0,.bool ae])) w')):=uj_ {N:=26,keep:=kp 0 [[0,1],[0,1,18],[4,5],[4,5]],ref:=ae} func186 (by kernel_rfl)
theorem ag0 {x x1 x2 w R}:Uj (Calls prog 249 #[ab x,I x1,I x2] w R) (Ci 251 [ab x,I x1] w λn w'=>Fo (n !=0) (R (Z (I n)) w') (Fz (decide (x2<0)) (∃a,x=aa a/\Li w' (a.add 16) λn=>Fo (decide (x2>=n)) (R (Z (I 3)) w') (∃a,x=aa a/\(0<=x1/\x1<(↑16:Int))/\Wr w' (add (a.add 0) (aG x1*1)) [I (wrap i64 (x2+1))] λw'=>R (Z (I 0)) w')) (R (Z (I 3)) w'))):=uj_ {N:=31,keep:=kp 0 [[0,1,2],[0,1,2,7],[0,1,2,7,12],[6],[0,1,2,23],[6],[],[6]],ref:=ae} func249 (by kernel_rfl)
theorem ag2 {x x1 w R}:Uj (Calls prog 251 #[ab x,I x1] w R) (Fo x.isNone (R (Z (I 1)) w) (Fz (decide (x1<0)) (Fo (decide (x1>=16)) (R (Z (I 3)) w) (R (Z (I 0)) w)) (R (Z (I 3)) w))):=uj_ {N:=15,keep:=kp 0 [[0,1],[1,5],[4],[8],[4],[4]],bk:=[(0,[])],ref:=ae} func251 (by kernel_rfl)
def Bc:Mt:={N:=32,keep:=kp 0 [[0,1],[0,1,10],[4],[0,1,5],[0,1,5,11],[0,1,5,11,12],[0,1,5,6,11],[0,1,5,6,7,8,11],[0,1,5,6,11,25],[0,1,5,11],[0,1,5,11],[4]],bk:=[(0,[5]),(1,[0,1,5,11])],lk:=[(5,[0,1,5,11])],ref:=ae}
def Lr:=bc f291
def Ux:=Lr.sr.sr.sr.sr
def Lt:=Lr.sr.sr.sr.sl.sr.sl.sl
def Gz (x:Option Addr) (x1:Int) (x2:Option Addr) (x3 x4:Nat) (x5:Int):Env:=[vP 0 x,vI 1 x1,vS 5 x2 x3 x4,vI 11 x5]
def OP (R:RT):=aW 0 [5] (SQ Bc Ux (Rt f291 R) (Rt f291 R))
theorem ahz {x x1 w R}:Uj (Calls prog 291 #[ab x,I x1] w R) (Fo x.isNone (R (Z (N3)) w) (Cut (WP prog 32 (bj Lt) (Gz x x1 ag 0 0 0) w (OP R)))):=uj_ Bc func291 (by kernel_rfl)
theorem adb (x x1 x2 x3 x4 x5 w B R):den prog Bc Lt (Gz x x1 x2 x3 x4 x5) w (bd B (OP R))=
(Fo (decide (x5<16)) (Call prog 186 [ab x,I x5] w λe w'=>∃n b,e=Z (aw #[I n,.bool b])/\Fo b (Fo (n==x1) (aI w' [I x5] 3 λp w'=>∃a n c d,aZ prog (bM #[36,36] 36 #[aj x2 x3 x4,aj (aa p) 1 1]) w'=a7 (aj a n c) d/\B [vP 0 x,vI 1 x1,vS 5 a n c,(11,SV.v (I (wrap i64 (x5+1))))] d) (B [vP 0 x,vI 1 x1,vS 5 x2 x3 x4,(11,SV.v (I (wrap i64 (x5+1))))] w')) (B [vP 0 x,vI 1 x1,vS 5 x2 x3 x4,(11,SV.v (I (wrap i64 (x5+1))))] w')) (R (Z (aj x2 x3 x4)) w)):=by kernel_rfl
def yE:Mt:={N:=36,keep:=kp 0 [[0,1,2],[0,1,2,14],[6,7,8],[1,2,9],[1,2,9,10],[1,2,9,10,20],[2,9,10],[2,9,10,24],[6,7,8],[10,11,12],[6,7,8]],bD:=[(7,[2,9,10])],ref:=ae}
def Uq:=bc f233
def BT:=Uq.sr.sr.sr.sr.sr
def Cy (x x1:Int) (x2:Bool):Env:=[vI 2 x,(9,SV.v (int .u64 x1)),(10,SV.v (.bool x2))]
def C9 (R:RT):=Rt f233 R
theorem agK {x x1 x2 w R}:Uj (Calls prog 233 #[int .u64 x,int .u64 x1,I x2] w R) (Fo (x1==0) (R (Z (aw #[I 0,.bool ae,I 12])) w) (Cu 318 [int .u64 x,int .u64 x1] w λn w'=>Fo (n==0) (aP prog yE BT (Cy x2 x1 (n==0)) w' (C9 R)) (aP prog yE BT (Cy x2 n (n==0)) w' (C9 R)))):=uj_ yE func233 (by kernel_rfl)
theorem ac3 (x x1 x2 w R):den prog yE BT (Cy x x1 x2) w (C9 R)=
(Cj 23 [int .u64 x1,I x] w λb w'=>Fo b (R (Z (aw #[I x,.bool x2,I 0])) w') (Ct 319 [int .u64 x1,I x] w' λn a w'=>R (Z (aw #[I n,.bool x2,I a])) w')):=by kernel_rfl
theorem agQ {x x1 x2 x3 x4 w R}:Uj (Calls prog 239 #[int .u64 x,agg #[I x1,(int .u64 x2),I x3,(.bool x4)]] w R) (aI w [I x1,int .u64 x2,I x3,.bool x4] 333 λp w'=>∃n,w'.cell? (p.add 1)=aa (int .u64 n)/\∃d,w'.cell? (p.add 2)=aa (I d)/\Call prog 23 [int .u64 n,I d] w' λe w'=>∃b,e=Z (.bool b)/\∃n,w'.cell? (p.add 2)=aa (I n)/\Call prog 23 [int .u64 x,I n] w' λe w'=>∃c,e=Z (.bool c)/\Fo (!c) (R (Z (.bool ah)) w') (Fo (!b) (∃n,w'.cell? (p.add 1)=aa (int .u64 n)/\Call prog 318 [int .u64 n,int .u64 x] w' λe w'=>∃n,e=Z (int .u64 n)/\Fo (n !=0) (R (Z (.bool ah)) w') (∃a,w'.cell? (p.add 3)=aa (.bool a)/\R (Z (.bool (a==b))) w')) (∃a,w'.cell? (p.add 3)=aa (.bool a)/\R (Z (.bool (a==b))) w'))):=uj_ {N:=31,keep:=kp 0 [[0,3],[0,3,5],[0,3,5,11],[4],[3,5,17],[4],[4]],bk:=[(0,[3,5])],ref:=ae} func239 (by kernel_rfl)
end
end
section
open Value IntKind Ending World Addr Tryz
open Value renaming pointer→ab,slice→aj,tuple→aw,bool→o7
set_option maxRecDepth 100000
noncomputable section
def Bp:Mt:={N:=49,keep:=kp 0 [[0],[0,14],[2,3],[0,4,5],[0,4,5,20],[2,3],[0,6],[6,27,28],[6,27,28,29],[6,7,8,27,28],[6,7,8,27,28,35],[2,3],[6,27,28],[6,27,28],[2,3]],bk:=[(0,[6]),(1,[6,27,28])],lk:=[(8,[6,27,28])],ref:=ae}
def L5:=bc f44
def UM:=L5.sr.sr.sr.sr.sr.sr
def L6:=L5.sr.sr.sr.sr.sr.sl.sr.sl.sl
def GP (x:Option Addr) (x1 x2:Int):Env:=[vP 6 x,vI 27 x1,vI 28 x2]
def Pd (R:RT):=aW 0 [6] (SQ Bp UM (Rt f44 R) (Rt f44 R))
theorem u44 {x w R}:Uj (Calls prog 44 #[I x] w R) (Fz (decide (x<1)) (Fo (decide (x>64)) (R (Z (aw #[ab ag,I 2])) w) (Call prog 107 [I 32] w λe w'=>∃p n,e=Z (aw #[ab p,I n])/\Fo (n !=0) (R (Z (aw #[ab ag,I n])) w') (rM w' λr w'=>aI w' [ab p,N3,map (aa r)] 207 λp w'=>Cut (WP prog 49 (bj L6) (GP (aa p) (wrap i64 (x+1)) 0) w' (Pd R))))) (R (Z (aw #[ab ag,I 2])) w)):=uj_ Bp func44 (by kernel_rfl)
theorem adD (x x1 x2 w B R):den prog Bp L6 (GP x x1 x2) w (bd B (Pd R))=
(Fo (decide (x2<x1)) (Call prog 110 [I 32] w λe w'=>∃p n,e=Z (aw #[ab p,I n])/\Fo (n !=0) (R (Z (aw #[ab ag,I n])) w') (∃a,x=aa a/\Lq w' (a.add 1) λb n c=>aI w' [ab p] 208 λp w'=>∃d f g h,aZ prog (bM #[205,205] 205 #[aj b n c,aj (aa p) 1 1]) w'=a7 (aj d f g) h/\∃a,x=aa a/\Wr h (a.add 1) [aj d f g] λw'=>B [vP 6 x,vI 27 x1,(28,SV.v (I (wrap i64 (x2+1))))] w')) (R (Z (aw #[ab x,I 0])) w)):=by kernel_rfl
theorem u68 {x x1 w R}:Uj (Calls prog 68 #[ab x,I x1] w R) (Ci 148 [ab x,I x1,I (-1:Int)] w λn w'=>Fo (n !=0) (R (Z (aw #[I 0,I n])) w') (∃a,x=aa a/\Lp w' (a.add 0) λp=>Ct 149 [ab p] w' λn b w'=>Fo (b !=0) (R (Z (aw #[I 0,I b])) w') (∃a,x=aa a/\∃r,w'.cell? (a.add 2)=aa (map r)/\∃c,aZ prog (gy 78 (map r) (I n) (I x1)) w'=a7 () c/\Call prog 150 [ab x,I x1] c λe w'=>∃p,e=Z (ab p)/\Ci 151 [ab p,I n] w' λd w'=>R (Z (aw #[I n,I d])) w'))):=uj_ {N:=38,keep:=kp 0 [[0,1],[0,1,6],[0,1,6,13],[4,5],[0,1,7,8],[0,1,7,8,24],[4,5],[0,1,7],[4,5]],ref:=ae} func68 (by kernel_rfl)
theorem Sg {x x1 w R}:Uj (Calls prog 93 #[ab x,I x1] w R) (Ci 148 [ab x,I x1,I (-1:Int)] w λn w'=>Fo (n !=0) (R (Z (N3)) w') (Cp 150 [ab x,I x1] w' λp w'=>Cq 187 [ab p] w' λp n c w'=>R (Z (aj p n c)) w')):=uj_ {N:=13,keep:=kp 0 [[0,1],[0,1,8],[4],[4]],ref:=ae} func93 (by kernel_rfl)
theorem afu {x x1 x2 w R}:Uj (Calls prog 148 #[ab x,I x1,I x2] w R) (Fo x.isNone (R (Z (I 1)) w) (Fz (decide (x1<x2)) (∃a,x=aa a/\Lq w (a.add 1) λp n c=>Fo (decide (x1>=wrap i64 ((↑n:Int)-1))) (R (Z (I 3)) w) (R (Z (I 0)) w)) (R (Z (I 3)) w))):=uj_ {N:=24,keep:=kp 0 [[0,1,2],[0,1,2,7],[6],[10],[6],[6]],bk:=[(0,[])],ref:=ae} func148 (by kernel_rfl)
theorem afw {x x1 w R}:Uj (Calls prog 150 #[ab x,I x1] w R) (∃a,x=aa a/\Lq w (a.add 1) λp n c=>(0<=wrap i64 (x1-(-1:Int))/\wrap i64 (x1-(-1:Int))<(↑n:Int))/\∃a,p=aa a/\∃p,w.cell? (add a (aG (wrap i64 (x1-(-1:Int)))*1))=aa (ab p)/\R (Z (ab p)) w):=uj_ {N:=13,keep:=kp 0 [[0,1],[4]],ref:=ae} func150 (by kernel_rfl)
theorem afO {x x1 w R}:Uj (Calls prog 170 #[ab x,I x1] w R) (Cq 93 [ab x,I x1] w λp n c w'=>R (Z (I (↑n:Int))) w'):=uj_ {N:=9,keep:=kp 0 [[0,1],[4]],ref:=ae} func170 (by kernel_rfl)
def A7:Mt:={N:=38,keep:=kp 0 [[0,1],[0,1,6],[0,1,6,15],[4,5],[0,18,19,20],[0,18,19,20,21],[0,8,18,19,20],[0,9,10,18,19,20],[0,9,18,19,20,32],[4,5],[0,18,19,20],[4,5]],bk:=[(0,[]),(1,[0,18,19,20])],lk:=[(5,[0,18,19,20])],ref:=ae}
def K3:=bc f223
def Up:=K3.sr.sr.sr
def K4:=K3.sr.sr.sl.sr.sl.sl
def Gr (x x1:Option Addr) (x2 x3:Nat) (x4 x5:Int):Env:=[vP 0 x,vS 18 x1 x2 x3,vI 19 x4,vI 20 x5]
def OG (R:RT):=aW 0 [] (SQ A7 Up (Rt f223 R) (Rt f223 R))
theorem agA {x x1 w R}:Uj (Calls prog 223 #[ab x,I x1] w R) (Ci 148 [ab x,I x1,I 0] w λn w'=>Fo (n !=0) (R (Z (aw #[I 0,I n])) w') (aI w' [I x1,I (-1:Int)] 3 λp w'=>Cut (WP prog 38 (bj K4) (Gr x (aa p) 2 2 (↑2:Int) 0) w' (OG R)))):=uj_ A7 func223 (by kernel_rfl)
theorem ac0 (x x1 x2 x3 x4 x5 w B R):den prog A7 K4 (Gr x x1 x2 x3 x4 x5) w (bd B (OG R))=
(Fo (decide (x5<x4)) ((0<=x5/\x5<(↑x2:Int))/\∃a,x1=aa a/\Li w (add a (aG x5*1)) λn=>Cp 150 [ab x,I n] w λp w'=>Ct 307 [ab p] w' λn b w'=>Fo (b==0) (Ci 308 [ab x,I n] w' λc w'=>R (Z (aw #[I n,I c])) w') (B [vP 0 x,vS 18 x1 x2 x3,vI 19 x4,(20,SV.v (I (wrap i64 (x5+1))))] w')) (R (Z (aw #[I 0,I 12])) w)):=by kernel_rfl
theorem ahe {x x1 w R}:Uj (Calls prog 263 #[ab x,I x1] w R) (Call prog 334 [ab x,I x1] w λe w'=>∃n b,e=Z (aw #[I n,.bool b])/\R (Z (.bool b)) w'):=uj_ {N:=14,keep:=kp 0 [[0,1],[6],[4]],ref:=ae} func263 (by kernel_rfl)
theorem ahQ {x x1 w R}:Uj (Calls prog 308 #[ab x,I x1] w R) (Call prog 334 [ab x,I x1] w λe w'=>∃n b,e=Z (aw #[I n,.bool b])/\Fo x.isNone (R (Z (I 1)) w') (Fo (!b) (R (Z (I 4)) w') (∃a,x=aa a/\∃r,w'.cell? (a.add 2)=aa (map r)/\∃c,aZ prog (gW #[78,3] 0 #[map r,I x1]) w'=a7 (aw #[]) c/\∃a,x=aa a/\∃p,c.cell? (a.add 0)=aa (ab p)/\Call prog 305 [ab p,I x1] c λe w'=>∃d,e=Z (I d)/\Cp 150 [ab x,I n] w' λp w'=>Ci 364 [ab p,I x1] w' λn w'=>R (Z (I n)) w'))):=uj_ {N:=35,keep:=kp 0 [[0,1],[0,1,5,6],[0,1,5,6,13],[4],[0,1,5,16],[4],[0,1,5],[0,1,5],[4]],bk:=[(0,[0,1,5])],ref:=ae} func308 (by kernel_rfl)
theorem aih {x x1 w R}:Uj (Calls prog 334 #[ab x,I x1] w R) (Fo x.isNone (R (Z (aw #[I 0,.bool ae])) w) (∃a,x=aa a/\∃r,w.cell? (a.add 2)=aa (map r)/\∃n b,aZ prog (dg 78 (map r) (I x1) ah) w=a7 (aw #[I n,.bool b]) w/\R (Z (aw #[I n,.bool b])) w)):=uj_ {N:=21,keep:=kp 0 [[0,1],[0,1,9],[4,5],[6,7],[4,5]],ref:=ae} func334 (by kernel_rfl)
theorem aix {x x1 w R}:Uj (Calls prog 358 #[ab x,I x1] w R) (Ci 148 [ab x,I x1,I 0] w λn w'=>Fo (n !=0) (R (Z (aw #[I 0,I n])) w') (Cp 150 [ab x,I x1] w' λp w'=>Ct 304 [ab p] w' λn b w'=>Fo (b !=0) (R (Z (aw #[I 0,I b])) w') (∃a,x=aa a/\∃r,w'.cell? (a.add 2)=aa (map r)/\∃c,aZ prog (gy 78 (map r) (I n) (I (-1:Int))) w'=a7 () c/\Call prog 150 [ab x,I (-1:Int)] c λe w'=>∃p,e=Z (ab p)/\Ci 151 [ab p,I n] w' λd w'=>R (Z (aw #[I n,I d])) w'))):=uj_ {N:=35,keep:=kp 0 [[0,1],[0,1,6],[0,1,6,13],[4,5],[0,7,8],[0,7,8,23],[4,5],[0,7],[4,5]],ref:=ae} func358 (by kernel_rfl)
def Bq:Mt:={N:=48,keep:=kp 0 [[0],[0,14],[2,3],[0,4,5],[0,4,5,20],[2,3],[0,6],[6,26,27],[6,26,27,28],[6,7,8,26,27],[6,7,8,26,27,34],[2,3],[6,26,27],[6,26,27],[2,3]],bk:=[(0,[6]),(1,[6,26,27])],lk:=[(8,[6,26,27])],ref:=ae}
def L7:=bc f46
def UN:=L7.sr.sr.sr.sr.sr.sr
def L9:=L7.sr.sr.sr.sr.sr.sl.sr.sl.sl
def GQ (x:Option Addr) (x1 x2:Int):Env:=[vP 6 x,vI 26 x1,vI 27 x2]
def Pe (R:RT):=aW 0 [6] (SQ Bq UN (Rt f46 R) (Rt f46 R))
theorem u46 {x w R}:Uj (Calls prog 46 #[I x] w R) (Fz (decide (x<1)) (Fo (decide (x>64)) (R (Z (aw #[ab ag,I 2])) w) (Call prog 107 [I 32] w λe w'=>∃p n,e=Z (aw #[ab p,I n])/\Fo (n !=0) (R (Z (aw #[ab ag,I n])) w') (aI w' [ab p,N3] 213 λp w'=>Cut (WP prog 48 (bj L9) (GQ (aa p) x 0) w' (Pe R))))) (R (Z (aw #[ab ag,I 2])) w)):=uj_ Bq func46 (by kernel_rfl)
theorem adE (x x1 x2 w B R):den prog Bq L9 (GQ x x1 x2) w (bd B (Pe R))=
(Fo (decide (x2<x1)) (Call prog 110 [I 32] w λe w'=>∃p n,e=Z (aw #[ab p,I n])/\Fo (n !=0) (R (Z (aw #[ab ag,I n])) w') (∃a,x=aa a/\Lq w' (a.add 1) λb n c=>aI w' [ab p] 208 λp w'=>∃d f g h,aZ prog (bM #[205,205] 205 #[aj b n c,aj (aa p) 1 1]) w'=a7 (aj d f g) h/\∃a,x=aa a/\Wr h (a.add 1) [aj d f g] λw'=>B [vP 6 x,vI 26 x1,(27,SV.v (I (wrap i64 (x2+1))))] w')) (R (Z (aw #[ab x,I 0])) w)):=by kernel_rfl
theorem Sh {x x1 w R}:Uj (Calls prog 95 #[ab x,I x1] w R) (aI w [I x1] 3 λp w'=>Ci 188 [ab x,aj (aa p) 1 1] w' λn w'=>Fo (n !=0) (R (Z (N3)) w') (∃a,x=aa a/\Lq w' (a.add 1) λp n c=>(0<=x1/\x1<(↑n:Int))/\∃a,p=aa a/\Lp w' (add a (aG x1*1)) λp=>Cq 187 [ab p] w' λp n c w'=>R (Z (aj p n c)) w')):=uj_ {N:=18,keep:=kp 0 [[0,1],[0,1,9],[4],[4]],ref:=ae} func95 (by kernel_rfl)
theorem afA {x x1 w R}:Uj (Calls prog 154 #[ab x,I x1] w R) (aI w [I x1] 3 λp w'=>Ci 188 [ab x,aj (aa p) 1 1] w' λn w'=>Fo (n !=0) (R (Z (aw #[I 0,I n])) w') (∃a,x=aa a/\Lp w' (add (a.add 0) 0) λp=>Ct 149 [ab p] w' λn b w'=>Fo (b !=0) (R (Z (aw #[I 0,I b])) w') (∃a,x=aa a/\Lq w' (a.add 1) λp d c=>(0<=x1/\x1<(↑d:Int))/\∃a,p=aa a/\Lp w' (add a (aG x1*1)) λp=>Ci 151 [ab p,I n] w' λf w'=>R (Z (aw #[I n,I f])) w'))):=uj_ {N:=38,keep:=kp 0 [[0,1],[0,1,6],[0,1,6,14],[4,5],[0,1,7,8],[0,1,7,8,26],[4,5],[4,5]],ref:=ae} func154 (by kernel_rfl)
def A4:Mt:={N:=27,keep:=kp 0 [[0,1],[0,1,8],[4],[0,9,10,11],[0,9,10,11,12],[0,6,9,10,11],[0,9,10,11,25],[4],[0,9,10,11],[4]],bk:=[(0,[]),(1,[0,9,10,11])],lk:=[(4,[0,9,10,11])],ref:=ae}
def KK:=bc f188
def Uk:=KK.sr.sr.sr
def KM:=KK.sr.sr.sl.sr.sl.sl
def Gl (x x1:Option Addr) (x2 x3:Nat) (x4 x5:Int):Env:=[vP 0 x,vS 9 x1 x2 x3,vI 10 x4,vI 11 x5]
def OA (R:RT):=aW 0 [] (SQ A4 Uk (Rt f188 R) (Rt f188 R))
theorem af1 {x x1 x2 x3 w R}:Uj (Calls prog 188 #[ab x,aj x1 x2 x3] w R) (Fo x.isNone (R (Z (I 1)) w) (Cut (WP prog 27 (bj KM) (Gl x x1 x2 x3 (↑x2:Int) 0) w (OA R)))):=uj_ A4 func188 (by kernel_rfl)
theorem acQ (x x1 x2 x3 x4 x5 w B R):den prog A4 KM (Gl x x1 x2 x3 x4 x5) w (bd B (OA R))=
(Fo (decide (x5<x4)) ((0<=x5/\x5<(↑x2:Int))/\∃a,x1=aa a/\Li w (add a (aG x5*1)) λn=>Fz (decide (n<0)) (∃a,x=aa a/\Lq w (a.add 1) λp b c=>Fo (decide (n>=(↑b:Int))) (R (Z (I 3)) w) (B [vP 0 x,vS 9 x1 x2 x3,vI 10 x4,(11,SV.v (I (wrap i64 (x5+1))))] w)) (R (Z (I 3)) w)) (R (Z (I 0)) w)):=by kernel_rfl
theorem agh {x x1 w R}:Uj (Calls prog 204 #[ab x,I x1] w R) (Cq 95 [ab x,I x1] w λp n c w'=>R (Z (I (↑n:Int))) w'):=uj_ {N:=9,keep:=kp 0 [[0,1],[4]],ref:=ae} func204 (by kernel_rfl)
theorem agw {x x1 w R}:Uj (Calls prog 219 #[ab x,I x1] w R) (aI w [I x1] 3 λp w'=>Ci 188 [ab x,aj (aa p) 1 1] w' λn w'=>Fo (n !=0) (R (Z (aw #[I 0,I n])) w') (∃a,x=aa a/\Lq w' (a.add 1) λp n c=>(0<=x1/\x1<(↑n:Int))/\∃a,p=aa a/\Lp w' (add a (aG x1*1)) λp=>Ct 304 [ab p] w' λn b w'=>Fo (b !=0) (R (Z (aw #[I 0,I b])) w') (∃a,x=aa a/\Lp w' (add (a.add 0) 0) λp=>Ci 305 [ab p,I n] w' λd w'=>R (Z (aw #[I n,I d])) w'))):=uj_ {N:=38,keep:=kp 0 [[0,1],[0,1,6],[0,1,6,14],[4,5],[0,7,8],[0,7,8,28],[4,5],[4,5]],ref:=ae} func219 (by kernel_rfl)
theorem aiy {x x1 x2 w R}:Uj (Calls prog 359 #[ab x,I x1,I x2] w R) (aI w [I x1,I x2] 3 λp w'=>Ci 188 [ab x,aj (aa p) 2 2] w' λn w'=>Fo (n !=0) (R (Z (aw #[I 0,I n])) w') (Fo (x1==x2) (R (Z (aw #[I 0,I 2])) w') (∃a,x=aa a/\Lq w' (a.add 1) λp n c=>(0<=x1/\x1<(↑n:Int))/\∃a,p=aa a/\Lp w' (add a (aG x1*1)) λp=>Ct 304 [ab p] w' λn b w'=>Fo (b !=0) (R (Z (aw #[I 0,I b])) w') (∃a,x=aa a/\Lq w' (a.add 1) λp d c=>(0<=x2/\x2<(↑d:Int))/\∃a,p=aa a/\Lp w' (add a (aG x2*1)) λp=>Ci 151 [ab p,I n] w' λf w'=>R (Z (aw #[I n,I f])) w')))):=uj_ {N:=46,keep:=kp 0 [[0,1,2],[0,1,2,8],[0,1,2,8,17],[6,7],[0,1,2,21],[6,7],[0,2,9,10],[0,2,9,10,34],[6,7],[6,7]],ref:=ae} func359 (by kernel_rfl)
theorem u48 {x x1 w R}:Uj (Calls prog 48 #[I x,I x1] w R) (Call prog 111 [I x1] w λe w'=>∃p n,e=Z (aw #[ab p,I n])/\Fz (n !=0) (Fz (decide (x<1)) (Fo (decide (x>64)) (R (Z (aw #[ab ag,I 2])) w') (∃a n c b,aZ prog (lA 217 (I x) (I x)) w'=a7 (aj a n c) b/\aI b [ab p,I x1,aj a n c] 219 λp w'=>R (Z (aw #[ab (aa p),I 0])) w')) (R (Z (aw #[ab ag,I 2])) w')) (R (Z (aw #[ab ag,I 2])) w')):=uj_ {N:=29,keep:=kp 0 [[0,1],[0,1,6,7],[0,1,6,22],[4,5],[4,5]],ref:=ae} func48 (by kernel_rfl)
theorem u97 {x x1 w R}:Uj (Calls prog 97 #[ab x,I x1] w R) (Ci 189 [ab x,I x1] w λn w'=>Fo (n !=0) (R (Z (N3)) w') (∃a,x=aa a/\Lq w' (a.add 2) λp n c=>(0<=x1/\x1<(↑n:Int))/\∃a,p=aa a/\Lq w' (add a (aG x1*1)) λp n c=>Cq 190 [aj p n c] w' λp n c w'=>R (Z (aj p n c)) w')):=uj_ {N:=17,keep:=kp 0 [[0,1],[0,1,8],[4],[4]],ref:=ae} func97 (by kernel_rfl)
theorem afB {x x1 w R}:Uj (Calls prog 155 #[ab x,I x1] w R) (Ci 189 [ab x,I x1] w λn w'=>Fo (n !=0) (R (Z (aw #[I 0,I n])) w') (Cn 256 [ab x,I x1] w' λw'=>∃a,x=aa a/\Lq w' (a.add 2) λp n c=>(0<=x1/\x1<(↑n:Int))/\∃a,p=aa a/\Lq w' (add a (aG x1*1)) λp n c=>Fo (decide (wrap i64 ((↑n:Int)-1)<0)) (R (Z (aw #[I 0,I 5])) w') (∃a,x=aa a/\Lq w' (a.add 2) λp d c=>(0<=x1/\x1<(↑d:Int))/\∃a,p=aa a/\Lq w' (add a (aG x1*1)) λp f c=>(0<=wrap i64 ((↑n:Int)-1)/\wrap i64 ((↑n:Int)-1)<(↑f:Int))/\∃a,p=aa a/\∃g,w'.cell? (add a (aG (wrap i64 ((↑n:Int)-1))*1))=aa (I g)/\Sm w' λb=>∃a,x=aa a/\∃p h c,b.cell? (a.add 2)=aa (aj p h c)/\∃a,x=aa a/\∃i j c,b.cell? (a.add 2)=aa (aj i j c)/\(0<=x1/\x1<(↑j:Int))/\∃a,i=aa a/\∃k l c,b.cell? (add a (aG x1*1))=aa (aj k l c)/\(0<=wrap i64 ((↑n:Int)-1)/\wrap i64 ((↑n:Int)-1)<=(↑c:Int))/\(0<=wrap i64 ((↑n:Int)-1)/\wrap i64 ((↑n:Int)-1)<=(↑(aG (wrap i64 ((↑n:Int)-1))):Int))/\(0<=x1/\x1<(↑h:Int))/\∃a,p=aa a/\Wr b (add a (aG x1*1)) [aj (fJ k (aG (wrap i64 ((↑n:Int)-1))) 0 1) (aG (wrap i64 ((↑n:Int)-1))-0) (aG (wrap i64 ((↑n:Int)-1))-0)] λw'=>R (Z (aw #[I g,I 0])) w'))):=uj_ {N:=56,keep:=kp 0 [[0,1],[0,1,6],[0,1,6,13],[4,5],[0,1],[0,1,7],[0,1,7,28],[4,5],[0,1,7,8],[8],[4,5]],bQ:=[(9,(.range 17))],ref:=ae} func155 (by kernel_rfl)
def yB:Mt:={N:=46,keep:=kp 0 [[0,1,2],[0,1,2,7],[0,1,2,7,12],[6],[0,1,2,17],[6],[0,1,2,26],[0,1,2],[],[6]],bQ:=[(8,(.range 17))],bD:=[(8,[0,1,2])],ref:=ae}
def Ua:=bc f156
def BO:=Ua.sr.sr.sr.sr
def Cr (x:Option Addr) (x1 x2:Int):Env:=[vP 0 x,vI 1 x1,vI 2 x2]
def C4 (R:RT):=Rt f156 R
theorem afC {x x1 x2 w R}:Uj (Calls prog 156 #[ab x,I x1,I x2] w R) (Ci 189 [ab x,I x1] w λn w'=>Fo (n !=0) (R (Z (I n)) w') (Cj 257 [ab x,I x2] w' λb w'=>Fo (!b) (R (Z (I 4)) w') (∃a,x=aa a/\Lq w' (a.add 2) λp n c=>(0<=x1/\x1<(↑n:Int))/\∃a,p=aa a/\Lq w' (add a (aG x1*1)) λp n c=>Fo (decide ((↑n:Int)>=4)) (Cn 258 [ab x,I x1,I 2] w' λw'=>aP prog yB BO (Cr x x1 x2) w' (C4 R)) (aP prog yB BO (Cr x x1 x2) w' (C4 R))))):=uj_ yB func156 (by kernel_rfl)
theorem acK (x x1 x2 w R):den prog yB BO (Cr x x1 x2) w (C4 R)=
(Sm w λw'=>∃a,x=aa a/\Lq w' (a.add 2) λp n c=>∃b,x=aa b/\Lq w' (b.add 2) λd e k=>(0<=x1/\x1<(↑e:Int))/\∃f,d=aa f/\Lq w' (add f (aG x1*1)) λg h i=>aI w' [I x2] 3 λq w'=>w'.cell? (add f (aG x1*1))=aa (aj g h i)/\w'.cell? (b.add 2)=aa (aj d e k)/\w'.cell? (a.add 2)=aa (aj p n c)/\∃l m o j,aZ prog (bM #[36,36] 36 #[aj g h i,aj (aa q) 1 1]) w'=a7 (aj l m o) j/\j.cell? (a.add 2)=aa (aj p n c)/\(0<=x1/\x1<(↑n:Int))/\∃a,p=aa a/\Wr j (add a (aG x1*1)) [aj l m o] λw'=>R (Z (I 0)) w'):=by kernel_rfl
theorem af2 {x x1 w R}:Uj (Calls prog 189 #[ab x,I x1] w R) (Fo x.isNone (R (Z (I 1)) w) (Fz (decide (x1<0)) (∃a,x=aa a/\Lq w (a.add 2) λp n c=>Fo (decide (x1>=(↑n:Int))) (R (Z (I 3)) w) (R (Z (I 0)) w)) (R (Z (I 3)) w))):=uj_ {N:=20,keep:=kp 0 [[0,1],[0,1,5],[4],[8],[4],[4]],bk:=[(0,[])],ref:=ae} func189 (by kernel_rfl)
def ER:Mt:={N:=44,keep:=kp 0 [[0,1,14],[0,1,15],[0,1,15,16],[0,1,4,5,15],[0,1,4,15,26],[0,1,15],[0,1,15]],bQ:=[(5,(.range 17))],bk:=[(0,[]),(1,[0,1,15])],lk:=[(2,[0,1,15])],ref:=ae}
def Ur:=bc f256
def K9:=Ur.sr.sr.sl.sl
def Gt (x:Option Addr) (x1 x2:Int):Env:=[vP 0 x,vI 1 x1,vI 15 x2]
def OJ (R:RT):=aW 0 [] (Rt f256 R)
theorem ag7 {x x1 w R}:Uj (Calls prog 256 #[ab x,I x1] w R) (∃a,x=aa a/\Lq w (a.add 2) λp n c=>(0<=x1/\x1<(↑n:Int))/\∃a,p=aa a/\Lq w (add a (aG x1*1)) λp n c=>Fo (decide ((↑n:Int)>0)) (R (Z (aw #[])) w) (Cut (WP prog 44 (bj K9) (Gt x x1 0) w (OJ R)))):=uj_ ER func256 (by kernel_rfl)
theorem ac4 (x x1 x2 w B R):den prog ER K9 (Gt x x1 x2) w (bd B (OJ R))=
(Fo (decide (x2<2)) (∃a,x=aa a/\Lp w (a.add 0) λp=>Ct 326 [ab p] w λn f w'=>Fo (f==0) (Sm w' λb=>∃a,x=aa a/\∃p d c,b.cell? (a.add 2)=aa (aj p d c)/\∃g,x=aa g/\∃h i q,b.cell? (g.add 2)=aa (aj h i q)/\(0<=x1/\x1<(↑i:Int))/\∃j,h=aa j/\∃k l m,b.cell? (add j (aG x1*1))=aa (aj k l m)/\aI b [I n] 3 λt w'=>w'.cell? (add j (aG x1*1))=aa (aj k l m)/\w'.cell? (g.add 2)=aa (aj h i q)/\w'.cell? (a.add 2)=aa (aj p d c)/\∃r n s o,aZ prog (bM #[36,36] 36 #[aj k l m,aj (aa t) 1 1]) w'=a7 (aj r n s) o/\o.cell? (a.add 2)=aa (aj p d c)/\(0<=x1/\x1<(↑d:Int))/\∃a,p=aa a/\Wr o (add a (aG x1*1)) [aj r n s] λw'=>B [vP 0 x,vI 1 x1,(15,SV.v (I (wrap i64 (x2+1))))] w') (B [vP 0 x,vI 1 x1,(15,SV.v (I (wrap i64 (x2+1))))] w')) (R (Z (aw #[])) w)):=by kernel_rfl
theorem ag8 {x x1 w R}:Uj (Calls prog 257 #[ab x,I x1] w R) (aI w [I x1] 3 λp w'=>Sm w' λd=>Fo (!x.isNone) (∃a,x=aa a/\∃f,d.cell? (a.add 0)=aa (ab f)/\∃n,d.cell? p=aa (I n)/\Call prog 327 [ab f,I n] d λe w'=>∃b,e=Z (.bool b)/\Fo b (∃a,x=aa a/\Lq w' (a.add 2) λg n c=>Cj 328 [aj g n c,func (aS 329) #[] #[ab (aa p)]] w' λb w'=>R (Z (.bool !b)) w') (R (Z (.bool ae)) w')) (R (Z (.bool ae)) d)):=uj_ {N:=24,keep:=kp 0 [[0,3],[4]],bQ:=[(1,(.range 20))],ref:=ae} func257 (by kernel_rfl)
def uk:Mt:={N:=45,keep:=kp 0 [[0,1,2,16,17,18],[0,1,2,16,17,18,19],[0,1,2,7,16,17,18],[0,1,2,16,17,18],[0,1,2,16,17,18],[]],bQ:=[(5,(.range 17))],bk:=[(0,[0,1,2]),(1,[0,1,2,16,17,18])],bD:=[(5,[0,1,2])],lk:=[(1,[0,1,2,16,17,18])],ref:=ae}
def La:=bc f258
def BU:=La.sr
def Lc:=La.sl.sr.sl.sl
def Gu (x:Option Addr) (x1 x2:Int):Env:=[vP 0 x,vI 1 x1,vI 2 x2]
def Gv (x:Option Addr) (x1 x2:Int) (x3:Option Addr) (x4 x5:Nat) (x6 a:Int):Env:=[vP 0 x,vI 1 x1,vI 2 x2,vS 16 x3 x4 x5,vI 17 x6,vI 18 a]
def HE (R:RT):=Rt f258 R
def OK (R:RT):=aW 0 [0,1,2] (SQ uk BU (Rt f258 R) (Rt f258 R))
theorem ag9 {x x1 x2 w R}:Uj (Calls prog 258 #[ab x,I x1,I x2] w R) (∃a,x=aa a/\Lq w (a.add 2) λp n c=>(0<=x1/\x1<(↑n:Int))/\∃a,p=aa a/\Lq w (add a (aG x1*1)) λp n c=>(0<=x2/\x2<=(↑c:Int))/\Cut (WP prog 45 (bj Lc) (Gv x x1 x2 (fJ p c 0 1) (aG x2-0) (c-0) (↑(aG x2-0):Int) 0) w (OK R))):=uj_ uk func258 (by kernel_rfl)
theorem ac5 (x x1 x2 w R):den prog uk BU (Gu x x1 x2) w (HE R)=
(Sm w λw'=>∃a,x=aa a/\Lq w' (a.add 2) λp n c=>∃f,x=aa f/\Lq w' (f.add 2) λg h o=>(0<=x1/\x1<(↑h:Int))/\∃i,g=aa i/\Lq w' (add i (aG x1*1)) λj b d=>(0<=x2/\x2<=(↑b:Int))/\Cq 190 [aj (fJ j d (aG x2) 1) (b-aG x2) (d-aG x2)] w' λk l m w'=>w'.cell? (a.add 2)=aa (aj p n c)/\(0<=x1/\x1<(↑n:Int))/\∃a,p=aa a/\Wr w' (add a (aG x1*1)) [aj k l m] λw'=>R (Z (aw #[])) w'):=by kernel_rfl
theorem ac6 (x x1 x2 x3 x4 x5 x6 b w B R):den prog uk Lc (Gv x x1 x2 x3 x4 x5 x6 b) w (bd B (OK R))=
(Fo (decide (b<x6)) ((0<=b/\b<(↑x4:Int))/\∃a,x3=aa a/\Li w (add a (aG b*1)) λn=>∃a,x=aa a/\Lp w (a.add 0) λp=>Ci 330 [ab p,I n] w λn w'=>B [vP 0 x,vI 1 x1,vI 2 x2,vS 16 x3 x4 x5,vI 17 x6,(18,SV.v (I (wrap i64 (b+1))))] w') (aP prog uk BU (Gu x x1 x2) w (HE R))):=by kernel_rfl
theorem aiu {x x1 w R}:Uj (Calls prog 355 #[ab x,I x1] w R) (Ci 189 [ab x,I x1] w λn w'=>Fo (n !=0) (R (Z (aw #[I 0,I n])) w') (∃a,x=aa a/\Lq w' (a.add 2) λp n c=>(0<=x1/\x1<(↑n:Int))/\∃a,p=aa a/\Lq w' (add a (aG x1*1)) λp n c=>Cn 258 [ab x,I x1,I (↑n:Int)] w' λw'=>R (Z (aw #[I (↑n:Int),I 0])) w')):=uj_ {N:=27,keep:=kp 0 [[0,1],[0,1,6],[0,1,6,12],[4,5],[0,1,7],[7],[4,5]],ref:=ae} func355 (by kernel_rfl)
theorem aia {x x1 x2 x3 w R}:Uj (Calls prog 328 #[aj x x1 x2,(func (aS 329) #[] #[ab (aa x3)])] w R) (Ci 381 [aj x x1 x2,func (aS 329) #[] #[ab (aa x3)]] w λn w'=>R (Z (.bool (decide (n>=0)))) w'):=uj_ {N:=9,keep:=kp 0 [[0,1],[4]],ref:=ae} func328 (by kernel_rfl)
theorem aib {x x1 x2 x3 w R}:Uj (Calls prog 329 #[aj x x1 x2,ab (aa x3)] w R) (Li w x3 λn=>Cj 325 [aj x x1 x2,I n] w λb w'=>R (Z (.bool b)) w'):=uj_ {N:=7,keep:=kp 0 [[0,1],[3]],ref:=ae} func329 (by kernel_rfl)
def Bl:Mt:={N:=19,keep:=kp 0 [[0,1],[0,1,7,8],[0,1,7,8,9],[0,1,5,7,8],[0,1,5,7,8,16],[4],[0,1,7,8],[4]],bk:=[(0,[]),(1,[0,1,7,8])],lk:=[(2,[0,1,7,8])],ref:=ae}
def LW:=bc f381
def UG:=LW.sr.sr
def LX:=LW.sr.sl.sr.sl.sl
def Nf (x:Option Addr) (x1 x2:Nat) (x3:Addr) (x4 x5:Int):Env:=[vS 0 x x1 x2,(1,SV.v (func (aS 329) #[] #[(ab (aa x3))])),vI 7 x4,vI 8 x5]
def O7 (R:RT):=aW 0 [] (SQ Bl UG (Rt f381 R) (Rt f381 R))
theorem aiQ {x x1 x2 x3 w R}:Uj (Calls prog 381 #[aj x x1 x2,(func (aS 329) #[] #[ab (aa x3)])] w R) (Cut (WP prog 19 (bj LX) [vS 0 x x1 x2,(1,SV.v (func (aS 329) #[] #[ab (aa x3)])),(7,SV.v (I (↑x1:Int))),vI 8 0] w (O7 R))):=uj_ Bl func381 (by kernel_rfl)
theorem adx (x x1 x2 x3 x4 x5 w B R):den prog Bl LX (Nf x x1 x2 x3 x4 x5) w (bd B (O7 R))=
(Fo (decide (x5<x4)) ((0<=x5/\x5<(↑x1:Int))/\∃a,x=aa a/\Lq w (add a (aG x5*1)) λp n c=>Cj 329 [aj p n c,ab (aa x3)] w λb w'=>Fo b (R (Z (I x5)) w') (B [vS 0 x x1 x2,(1,SV.v (func (aS 329) #[] #[ab (aa x3)])),vI 7 x4,(8,SV.v (I (wrap i64 (x5+1))))] w')) (R (Z (I (-1:Int))) w)):=by kernel_rfl
theorem aeT {x w R}:Uj (Calls prog 111 #[I x] w R) (Fz (decide (x<1)) (Fo (decide (x>12)) (R (Z (aw #[ab ag,I 2])) w) (aI w [int cu 0,int cu 0,int cu 0,int cu 0,int cu 0,int cu 0,int cu 0,int cu 0,int cu 0,int cu 0,int cu 0,int cu 0,I x] 298 λp w'=>R (Z (aw #[ab (aa p),I 0])) w')) (R (Z (aw #[ab ag,I 2])) w)):=uj_ {N:=13,keep:=kp 0 [[0],[0,9],[2,3],[2,3]],ref:=ae} func111 (by kernel_rfl)
def yF:Mt:={N:=41,keep:=kp 0 [[0],[0,7],[2,3],[0,4],[0,4,11],[0,4],[0,4,15],[2,3],[0,4,5],[4,5],[2,3]],bQ:=[(9,(.range 13))],bD:=[(6,[0,4])],ref:=ae}
def UA:=bc f326
def BX:=UA.sr.sr.sr.sr
def Cz (x:Option Addr) (x1:Int):Env:=[vP 0 x,vI 4 x1]
def Da (R:RT):=Rt f326 R
theorem ah8 {x w R}:Uj (Calls prog 326 #[ab x] w R) (Fo x.isNone (R (Z (aw #[I 0,I 1])) w) (Ci 376 [ab x,func (aS 377) #[] #[]] w λn w'=>Fo (decide (n<0)) (Ci 376 [ab x,func (aS 378) #[] #[]] w' λn w'=>aP prog yF BX (Cz x n) w' (Da R)) (aP prog yF BX (Cz x n) w' (Da R)))):=uj_ yF func326 (by kernel_rfl)
theorem adj (x x1 w R):den prog yF BX (Cz x x1) w (Da R)=
(Fo (decide (x1<0)) (R (Z (aw #[I 0,I 5])) w) (∃a,x=aa a/\(0<=x1/\x1<(↑12:Int))/\∃n,w.cell? (add (a.add 0) (aG x1*1))=aa (int cu n)/\Ci 379 [int cu (aH BinOp.xor cu (match ae with|true=>(-1:Int)|false=>oa cu) n)] w λn w'=>Sm w' λb=>∃a,x=aa a/\(0<=x1/\x1<(↑12:Int))/\∃c,b.cell? (add (a.add 0) (aG x1*1))=aa (int cu c)/\0<=n/\∃a,x=aa a/\(0<=x1/\x1<(↑12:Int))/\Wr b (add (a.add 0) (aG x1*1)) [int cu (aH rR cu c (fg cu 1 n))] λw'=>R (Z (aw #[I (wrap i64 (wrap i64 (wrap i64 (x1*8)+n)+1)),I 0])) w')):=by kernel_rfl
theorem ah9 {x x1 w R}:Uj (Calls prog 327 #[ab x,I x1] w R) (Call prog 380 [ab x,I x1] w λe w'=>∃n b,e=Z (aw #[I n,int cu b])/\Fo (b !=0) (∃a,x=aa a/\(0<=n/\n<(↑12:Int))/\∃c,w'.cell? (add (a.add 0) (aG n*1))=aa (int cu c)/\R (Z (.bool (aH aM cu c b !=0))) w') (R (Z (.bool ae)) w')):=uj_ {N:=26,keep:=kp 0 [[0,1],[0,5,6],[4]],ref:=ae} func327 (by kernel_rfl)
theorem aic {x x1 w R}:Uj (Calls prog 330 #[ab x,I x1] w R) (Fo x.isNone (R (Z (I 1)) w) (Cj 327 [ab x,I x1] w λb w'=>Fo (!b) (R (Z (I 4)) w') (Call prog 380 [ab x,I x1] w' λe w'=>∃n c,e=Z (aw #[I n,int cu c])/\Sm w' λd=>∃a,x=aa a/\(0<=n/\n<(↑12:Int))/\∃f,d.cell? (add (a.add 0) (aG n*1))=aa (int cu f)/\∃a,x=aa a/\(0<=n/\n<(↑12:Int))/\Wr d (add (a.add 0) (aG n*1)) [int cu (aH tc cu f c)] λw'=>R (Z (I 0)) w'))):=uj_ {N:=32,keep:=kp 0 [[0,1],[0,1,7],[4],[0,1,10],[4],[0,5,6],[],[4]],bQ:=[(6,(.range 12))],bk:=[(0,[0,1])],ref:=ae} func330 (by kernel_rfl)
def rL:Mt:={N:=23,keep:=kp 0 [[0,1],[0,1,9,10],[0,1,9,10,11],[0,1,5,9,10],[0,1,5,9,10,20],[4],[0,1,9,10],[4]],bk:=[(0,[]),(1,[0,1,9,10])],lk:=[(2,[0,1,9,10])],ref:=ae}
def yZ:=bc f376
def FG:=yZ.sr.sr
def y7:=yZ.sr.sl.sr.sl.sl
def wQ (x:Option Addr) (x1 x2:Int):Env:=[vP 0 x,(1,SV.v (func (aS 377) #[] #[])),vI 9 x1,vI 10 x2]
def zK (R:RT):=aW 0 [] (SQ rL FG (Rt f376 R) (Rt f376 R))
theorem Jl {x w R}:Uj (Calls prog 376 #[ab x,func (aS 377) #[] #[]] w R) (∃a,x=aa a/\Li w (a.add 12) λn=>Cut (WP prog 23 (bj y7) [vP 0 x,(1,SV.v (func (aS 377) #[] #[])),vI 9 n,vI 10 0] w (zK R))):=uj_ rL func376 (by kernel_rfl)
theorem I3 (x x1 x2 w B R):den prog rL y7 (wQ x x1 x2) w (bd B (zK R))=
(Fo (decide (x2<x1)) (∃a,x=aa a/\(0<=x2/\x2<(↑12:Int))/\∃n,w.cell? (add (a.add 0) (aG x2*1))=aa (int cu n)/\Cj 377 [int cu n] w λb w'=>Fo b (R (Z (I x2)) w') (B [vP 0 x,(1,SV.v (func (aS 377) #[] #[])),vI 9 x1,(10,SV.v (I (wrap i64 (x2+1))))] w')) (R (Z (I (-1:Int))) w)):=by kernel_rfl
def JH:Mt:={N:=9,keep:=kp 0 [[0],[2]],ref:=ae}
def LS:=bc f377
theorem aiN:UT 377 JH LS f377:=u_ func377 (by kernel_rfl)
theorem t377 (x w R):den prog JH LS (iL 0 [int cu x]) w (Rt f377 R)=
(((x !=0)->R (Z (.bool (x !=255))) w)/\((x !=0)=ae->R (Z (.bool ae)) w)):=by kernel_rfl
def JI:Mt:={N:=5,keep:=kp 0 [[0],[2]],ref:=ae}
def LU:=bc f378
theorem aiO:UT 378 JI LU f378:=u_ func378 (by kernel_rfl)
theorem t378 (x w R):den prog JI LU (iL 0 [int cu x]) w (Rt f378 R)=
(R (Z (.bool (x==0))) w):=by kernel_rfl
theorem aiP {x w R}:Uj (Calls prog 379 #[int cu x] w R) ((0<=x/\x<(↑256:Int))/\∃c,(∃u,(ByteArray.mk #[8,0,1,0,2,0,1,0,3,0,1,0,2,0,1,0,4,0,1,0,2,0,1,0,3,0,1,0,2,0,1,0,5,0,1,0,2,0,1,0,3,0,1,0,2,0,1,0,4,0,1,0,2,0,1,0,3,0,1,0,2,0,1,0,6,0,1,0,2,0,1,0,3,0,1,0,2,0,1,0,4,0,1,0,2,0,1,0,3,0,1,0,2,0,1,0,5,0,1,0,2,0,1,0,3,0,1,0,2,0,1,0,4,0,1,0,2,0,1,0,3,0,1,0,2,0,1,0,7,0,1,0,2,0,1,0,3,0,1,0,2,0,1,0,4,0,1,0,2,0,1,0,3,0,1,0,2,0,1,0,5,0,1,0,2,0,1,0,3,0,1,0,2,0,1,0,4,0,1,0,2,0,1,0,3,0,1,0,2,0,1,0,6,0,1,0,2,0,1,0,3,0,1,0,2,0,1,0,4,0,1,0,2,0,1,0,3,0,1,0,2,0,1,0,5,0,1,0,2,0,1,0,3,0,1,0,2,0,1,0,4,0,1,0,2,0,1,0,3,0,1,0,2,0,1,0])[aG x]?=aa u/\(↑(UInt8.toNat u):Int)=c)/\R (Z (I (wrap i64 c))) w):=uj_ {N:=6,keep:=kp 0 [[0],[2]],ref:=ae} func379 (by kernel_rfl)
theorem Sf {x x1 w R}:Uj (Calls prog 380 #[ab x,I x1] w R) (Fz x.isNone (Fz (decide (x1<1)) (∃a,x=aa a/\Li w (a.add 12) λn=>Fo (decide (x1>wrap i64 (n*8))) (R (Z (aw #[I 0,int cu 0])) w) (Sm w λw'=>(8:Int)≠0/\(8:Int)≠0/\0<=eO (wrap i64 (x1-1)) 8/\R (Z (aw #[I (wrap i64 (iH (wrap i64 (x1-1)) 8)),int cu (fg cu 1 (eO (wrap i64 (x1-1)) 8))])) w')) (R (Z (aw #[I 0,int cu 0])) w)) (R (Z (aw #[I 0,int cu 0])) w)):=uj_ {N:=28,keep:=kp 0 [[0,1],[1,20],[4,5],[4,5]],bQ:=[(3,(.range 9))],ref:=ae} func380 (by kernel_rfl)
theorem ae0 {x x1 w R}:Uj (Calls prog 118 #[ab x,I x1] w R) (Fo x.isNone (R (Z (I 1)) w) (Cj 202 [ab x,I x1] w λb w'=>Fo (!b) (R (Z (I 6)) w') (∃a,x=aa a/\Lu w' (a.add 1) λn=>aI w' [I x1] 3 λp w'=>Cu 179 [int .u64 n,aj (aa p) 1 1] w' λn w'=>∃a,x=aa a/\Wr w' (a.add 1) [int .u64 n] λw'=>R (Z (I 0)) w'))):=uj_ {N:=23,keep:=kp 0 [[0,1],[0,1,5],[4],[0,1,8],[4],[],[4]],bk:=[(0,[0,1])],ref:=ae} func118 (by kernel_rfl)
theorem age {x x1 w R}:Uj (Calls prog 202 #[ab x,I x1] w R) (Cu 292 [ab x] w λn w'=>Cj 23 [int .u64 n,I x1] w' λb w'=>R (Z (.bool b)) w'):=uj_ {N:=12,keep:=kp 0 [[0,1],[1,5],[4]],ref:=ae} func202 (by kernel_rfl)
theorem agf {x x1 w R}:Uj (Calls prog 203 #[ab x,I x1] w R) (Fo (!x.isNone) (∃a,x=aa a/\Lu w (a.add 1) λn=>Cj 23 [int .u64 n,I x1] w λb w'=>R (Z (.bool b)) w') (R (Z (.bool ae)) w)):=uj_ {N:=15,keep:=kp 0 [[0,1],[4]],ref:=ae} func203 (by kernel_rfl)
theorem ahA {x w R}:Uj (Calls prog 292 #[ab x] w R) (Fo x.isNone (R (Z (int .u64 0)) w) (Sm w λw'=>∃a,x=aa a/\Lu w' (a.add 0) λn=>∃a,x=aa a/\Lu w' (a.add 1) λb=>Cu 353 [int .u64 n,int .u64 b] w' λn w'=>R (Z (int .u64 n)) w')):=uj_ {N:=14,keep:=kp 0 [[0],[0,4],[2],[2]],bQ:=[(3,(.range 10))],ref:=ae} func292 (by kernel_rfl)
theorem aiW {x w R}:Uj (Calls prog 388 #[ab x] w R) (Fo (!x.isNone) (∃a,x=aa a/\Lu w (a.add 0) λn=>R (Z (.bool (n !=0))) w) (R (Z (.bool ae)) w)):=uj_ {N:=12,keep:=kp 0 [[0],[2]],ref:=ae} func388 (by kernel_rfl)
theorem aiX {x x1 w R}:Uj (Calls prog 389 #[ab x,int .u64 x1] w R) (Fo x.isNone (R (Z (I 1)) w) (Cj 388 [ab x] w λb w'=>Fo b (R (Z (I 7)) w') (Fo (x1==0) (R (Z (I 2)) w') (∃a,x=aa a/\Wr w' (a.add 0) [int .u64 x1] λw'=>∃a,x=aa a/\Wr w' (a.add 1) [int .u64 0] λw'=>R (Z (I 0)) w')))):=uj_ {N:=21,keep:=kp 0 [[0,1],[0,1,5],[4],[0,1,8],[4],[0,1,11],[4],[],[4]],bk:=[(0,[0,1])],ref:=ae} func389 (by kernel_rfl)
theorem aiY {x w R}:Uj (Calls prog 390 #[ab x] w R) (Cj 388 [ab x] w λb w'=>Fo b (Cu 292 [ab x] w' λn w'=>R (Z (.bool (n==0))) w') (R (Z (.bool ae)) w')):=uj_ {N:=10,keep:=kp 0 [[0],[2]],ref:=ae} func390 (by kernel_rfl)
theorem aiZ {x w R}:Uj (Calls prog 391 #[ab x] w R) (Fo x.isNone (R (Z (I 1)) w) (Cj 388 [ab x] w λb w'=>Fo (!b) (R (Z (I 6)) w') (∃a,x=aa a/\Wr w' (a.add 0) [int .u64 0] λw'=>∃a,x=aa a/\Wr w' (a.add 1) [int .u64 0] λw'=>R (Z (I 0)) w'))):=uj_ {N:=16,keep:=kp 0 [[0],[0,3],[2],[0,6],[2],[],[2]],bk:=[(0,[0])],ref:=ae} func391 (by kernel_rfl)
end
end
section
open Value IntKind Ending World Addr Tryz
open Value renaming pointer→ab,slice→aj,tuple→aw,bool→o7
set_option maxRecDepth 100000
noncomputable section
theorem ae4 {x x1 w R}:Uj (Calls prog 122 #[I x,I x1] w R) (Cj 225 [I x,I 1152921504606846976] w λb w'=>Fz (!b) (Cj 225 [I x1,I 1073741824] w' λb w'=>Fo (!b) (R (Z (aw #[I 0,I 2])) w') (Ct 226 [I (wrap i64 (x+x1)),.bool (decide (x<=wrap i64 (1152921504606846976-x1)))] w' λn a w'=>R (Z (aw #[I n,I a])) w')) (R (Z (aw #[I 0,I 2])) w')):=uj_ {N:=24,keep:=kp 0 [[0,1],[0,1,13],[4,5],[4,5]]} func122 (by kernel_rfl)
theorem agC {x x1 w R}:Uj (Calls prog 225 #[I x,I x1] w R) (Fo (decide (x>=0)) (R (Z (.bool (decide (x<=x1)))) w) (R (Z (.bool ae)) w)):=uj_ {N:=12,keep:=kp 0 [[0,1],[4]]} func225 (by kernel_rfl)
theorem agD {x x1 w R}:Uj (Calls prog 226 #[I x,.bool x1] w R) (Fo (!x1) (R (Z (aw #[I 0,I 16])) w) (R (Z (aw #[I x,I 0])) w)):=uj_ {N:=9,keep:=kp 0 [[0,1],[0,7],[4,5],[4,5]]} func226 (by kernel_rfl)
theorem aif {x x1 w R}:Uj (Calls prog 333 #[I x,I x1] w R) (Ct 226 [I (wrap i64 (x+x1)),.bool (decide (wrap i64 (x+x1)<x)==decide (x1<0))] w λn a w'=>R (Z (aw #[I n,I a])) w'):=uj_ {N:=20,keep:=kp 0 [[0,1],[0,1,6],[4,5]]} func333 (by kernel_rfl)
theorem aiG {x x1 x2 w R}:Uj (Calls prog 368 #[I x,I x1,I x2] w R) (Fz (decide (x>x1)) (Fo (decide (x2<1)) (R (Z (I x)) w) (Fo (decide (x2>=100)) (R (Z (I x1)) w) (Call prog 393 [int .u64 (wrap .u64 (wrap .u64 x1-wrap .u64 x)),int .u64 (wrap .u64 x2)] w λe w'=>∃n a,e=Z (aw #[int .u64 n,int .u64 a])/\Call prog 394 [int .u64 n,int .u64 a,int .u64 100] w' λe w'=>∃n b,e=Z (aw #[int .u64 n,int .u64 b])/\R (Z (I (wrap i64 (wrap .u64 (wrap .u64 x+n))))) w'))) (R (Z (I x)) w)):=uj_ {N:=46,keep:=kp 0 [[0,1,2],[0,1,2,11],[6],[0,1,2,20],[6],[0,7,8],[0,9],[6]],bk:=[(0,[0,1,2])]} func368 (by kernel_rfl)
theorem ai3 {x x1 w R}:Uj (Calls prog 395 #[I x,I x1] w R) (Fz (decide (x<1)) (Fo (decide (x1<1)) (R (Z (I 0)) w) (Fo (decide (x>=x1)) (R (Z (I 100)) w) (Call prog 393 [int .u64 (wrap .u64 x),int .u64 100] w λe w'=>∃n a,e=Z (aw #[int .u64 n,int .u64 a])/\Call prog 394 [int .u64 n,int .u64 a,int .u64 (wrap .u64 x1)] w' λe w'=>∃n b,e=Z (aw #[int .u64 n,int .u64 b])/\R (Z (I (wrap i64 n))) w'))) (R (Z (I 0)) w)):=uj_ {N:=36,keep:=kp 0 [[0,1],[0,1,9],[4],[0,1,16],[4],[1,5,6],[7],[4]],bk:=[(0,[0,1])]} func395 (by kernel_rfl)
theorem u50 {x w R}:Uj (Calls prog 50 #[I x] w R) (Fz (decide (x<1)) (Fo (decide (x>64)) (R (Z (aw #[ab ag,I 2])) w) (∃p n c w',aZ prog (lA 53 (I x) (I x)) w=a7 (aj p n c) w'/\aI w' [aj p n c] 221 λp w'=>R (Z (aw #[ab (aa p),I 0])) w')) (R (Z (aw #[ab ag,I 2])) w)):=uj_ {N:=14,keep:=kp 0 [[0],[0,9],[2,3],[2,3]]} func50 (by kernel_rfl)
def vL:Mt:={N:=43,keep:=kp 0 [[0],[0,11],[2,3],[0,4],[0,4,5],[4,5,15,16,17],[4,5,15,16,17,18],[4,5,8,15,16,17],[4,5,6,8,15,16,17],[4,5,15,16,17],[4,5,15,16,17],[4,9],[9,41],[2,3],[2,3]],bk:=[(0,[4,5]),(1,[4,5,15,16,17])],bD:=[(11,[4,5])],lk:=[(6,[4,5,15,16,17])]}
def Ml:=bc f78
def FJ:=Ml.sr.sr.sr.sr.sr
def Mm:=Ml.sr.sr.sr.sr.sl.sr.sl.sl
def Nl (x x1:Int):Env:=[vI 4 x,(5,SV.v (int .u64 x1))]
def GW (x x1:Int) (x2:Option Addr) (x3 x4:Nat) (x5 x6:Int):Env:=[vI 4 x,(5,SV.v (int .u64 x1)),vS 15 x2 x3 x4,vI 16 x5,vI 17 x6]
def Po (R:RT):=Rt f78 R
def Pp (R:RT):=aW 0 [4,5] (SQ vL FJ (Rt f78 R) (Rt f78 R))
theorem u78 {x w R}:Uj (Calls prog 78 #[ab x] w R) (Fo x.isNone (R (Z (aw #[I 0,I 1])) w) (∃a,x=aa a/\Lq w (a.add 0) λp n c=>Cut (WP prog 43 (bj Mm) (GW 0 0 p n c (↑n:Int) 0) w (Pp R)))):=uj_ vL func78 (by kernel_rfl)
theorem adR (x x1 w R):den prog vL FJ (Nl x x1) w (Po R)=
((0:Int)<=63/\Fo (x==aU i64 (wrap i64 x1) 63) (R (Z (aw #[I (wrap i64 x1),I 0])) w) (R (Z (aw #[I 0,I 16])) w)):=by kernel_rfl
theorem adS (x x1 x2 x3 x4 x5 x6 w B R):den prog vL Mm (GW x x1 x2 x3 x4 x5 x6) w (bd B (Pp R))=
(Fo (decide (x6<x5)) ((0<=x6/\x6<(↑x3:Int))/\∃a,x2=aa a/\Li w (add a (aG x6*1)) λn=>∃b c w',aZ prog (callFunc 169 #[int .u64 x1,int .u64 (wrap .u64 n),int .u64 0]) w=a7 (Next.value (aw #[int .u64 b,int .u64 c])) w'/\(0:Int)<=63/\B [(4,SV.v (I (wrap i64 (x+wrap i64 (aU i64 n 63+wrap i64 c))))),(5,SV.v (int .u64 b)),vS 15 x2 x3 x4,vI 16 x5,(17,SV.v (I (wrap i64 (x6+1))))] w') (aP prog vL FJ (Nl x x1) w (Po R))):=by kernel_rfl
theorem ahb {x x1 x2 w R}:Uj (Calls prog 260 #[ab x,I x1,I x2] w R) (Ci 332 [ab x,I x1] w λn w'=>Fo (n !=0) (R (Z (I n)) w') (∃a,x=aa a/\Lq w' (a.add 0) λp n c=>(0<=x1/\x1<(↑n:Int))/\∃a,p=aa a/\Li w' (add a (aG x1*1)) λn=>Ct 333 [I n,I x2] w' λn b w'=>Fo (b !=0) (R (Z (I b)) w') (∃a,x=aa a/\Lq w' (a.add 0) λp d c=>(0<=x1/\x1<(↑d:Int))/\∃a,p=aa a/\Wr w' (add a (aG x1*1)) [I n] λw'=>R (Z (I 0)) w'))):=uj_ {N:=38,keep:=kp 0 [[0,1,2],[0,1,2,7],[0,1,2,7,14],[6],[0,1,8,9],[0,1,8,9,29],[6],[],[6]]} func260 (by kernel_rfl)
theorem aid {x x1 w R}:Uj (Calls prog 331 #[ab x,I x1] w R) (Ci 332 [ab x,I x1] w λn w'=>Fo (n !=0) (R (Z (aw #[I 0,I n])) w') (∃a,x=aa a/\Lq w' (a.add 0) λp n c=>(0<=x1/\x1<(↑n:Int))/\∃a,p=aa a/\Li w' (add a (aG x1*1)) λn=>R (Z (aw #[I n,I 0])) w')):=uj_ {N:=20,keep:=kp 0 [[0,1],[0,1,6],[0,1,6,11],[4,5],[4,5]]} func331 (by kernel_rfl)
theorem aie {x x1 w R}:Uj (Calls prog 332 #[ab x,I x1] w R) (Fo x.isNone (R (Z (I 1)) w) (Fz (decide (x1<0)) (∃a,x=aa a/\Lq w (a.add 0) λp n c=>Fo (decide (x1>=(↑n:Int))) (R (Z (I 3)) w) (R (Z (I 0)) w)) (R (Z (I 3)) w))):=uj_ {N:=20,keep:=kp 0 [[0,1],[0,1,5],[4],[8],[4],[4]],bk:=[(0,[])]} func332 (by kernel_rfl)
theorem aiA {x x1 x2 w R}:Uj (Calls prog 361 #[ab x,I x1,I x2] w R) (Ci 332 [ab x,I x1] w λn w'=>Fo (n !=0) (R (Z (I n)) w') (Ci 332 [ab x,I x2] w' λn w'=>Fo (n !=0) (R (Z (I n)) w') (Fo (x1==x2) (R (Z (I 2)) w') (∃a,x=aa a/\Lq w' (a.add 0) λp n c=>(0<=x1/\x1<(↑n:Int))/\∃a,p=aa a/\Li w' (add a (aG x1*1)) λn=>Ci 260 [ab x,I x2,I n] w' λn w'=>Fo (n==0) (∃a,x=aa a/\Lq w' (a.add 0) λp b c=>(0<=x1/\x1<(↑b:Int))/\∃a,p=aa a/\Wr w' (add a (aG x1*1)) [I 0] λw'=>R (Z (I n)) w') (R (Z (I n)) w'))))):=uj_ {N:=44,keep:=kp 0 [[0,1,2],[0,1,2,7],[0,1,2,7,14],[6],[0,1,2,8],[0,1,2,8,20],[6],[0,1,2,24],[6],[0,1,9],[0,1,9,36],[9],[6]]} func361 (by kernel_rfl)
theorem u52 {x w R}:Uj (Calls prog 52 #[I x] w R) (Call prog 50 [I x] w λe w'=>∃p n,e=Z (aw #[ab p,I n])/\Fo (n !=0) (R (Z (aw #[ab ag,I n])) w') (aI w' [ab p,I 0] 160 λp w'=>R (Z (aw #[ab (aa p),I 0])) w')):=uj_ {N:=17,keep:=kp 0 [[0],[4,5],[4,5,12],[2,3],[2,3]]} func52 (by kernel_rfl)
def KW:=bc f20
theorem u20 {x w R}:Uj (Calls prog 20 #[ab x] w R) (Fo x.isNone (R (Z (I 0)) w) (∃a,x=aa a/\Lp w (a.add 0) λp=>Ct 78 [ab p] w λn b w'=>R (Z (I n)) w')):=uj_ {N:=16,keep:=kp 0 [[0],[0,6],[2],[3],[2]]} func20 (by kernel_rfl)
theorem afD {x x1 w R}:Uj (Calls prog 157 #[ab x,I x1] w R) (Ci 259 [ab x,I x1] w λn w'=>Fo (n !=0) (R (Z (I n)) w') (∃a,x=aa a/\Li w' (a.add 1) λn=>Fo (n !=0) (R (Z (I 7)) w') (Ci 20 [ab x] w' λn w'=>Fo (decide (n>=1000)) (R (Z (I 5)) w') (∃a,x=aa a/\Lp w' (a.add 0) λp=>Ci 260 [ab p,I x1,I 1] w' λn w'=>R (Z (I n)) w')))):=uj_ {N:=29,keep:=kp 0 [[0,1],[0,1,5],[0,1,5,9],[4],[0,1,13],[4],[0,1,19],[4],[4]],bk:=[(0,[0,1])]} func157 (by kernel_rfl)
theorem afG {x w R}:Uj (Calls prog 160 #[ab x] w R) (Fo x.isNone (R (Z (I 1)) w) (∃a,x=aa a/\Li w (a.add 1) λn=>Fo (n !=0) (R (Z (I 7)) w) (∃a,x=aa a/\Wr w (a.add 1) [I 1] λw'=>R (Z (I 0)) w'))):=uj_ {N:=15,keep:=kp 0 [[0],[0,3],[2],[0,6],[2],[],[2]],bk:=[(0,[0])]} func160 (by kernel_rfl)
theorem afL {x x1 w R}:Uj (Calls prog 165 #[ab x,I x1] w R) (Ci 259 [ab x,I x1] w λn w'=>Fo (n !=0) (R (Z (I n)) w') (Ci 265 [ab x,I x1] w' λn w'=>Fo (n==0) (R (Z (I 12)) w') (∃a,x=aa a/\Lp w' (a.add 0) λp=>Ci 260 [ab p,I x1,I (-1:Int)] w' λn w'=>R (Z (I n)) w'))):=uj_ {N:=24,keep:=kp 0 [[0,1],[0,1,5],[0,1,5,9],[4],[0,1,13],[4],[4]],bk:=[(0,[0,1])]} func165 (by kernel_rfl)
theorem agq {x w R}:Uj (Calls prog 213 #[ab x] w R) (Fo x.isNone (R (Z (I 1)) w) (∃a,x=aa a/\Li w (a.add 1) λn=>Fo (n==0) (R (Z (I 6)) w) (∃a,x=aa a/\Wr w (a.add 1) [I 0] λw'=>R (Z (I 0)) w'))):=uj_ {N:=15,keep:=kp 0 [[0],[0,3],[2],[0,6],[2],[],[2]],bk:=[(0,[0])]} func213 (by kernel_rfl)
theorem aha {x x1 w R}:Uj (Calls prog 259 #[ab x,I x1] w R) (Fo x.isNone (R (Z (I 1)) w) (∃a,x=aa a/\Lp w (a.add 0) λp=>Ct 331 [ab p,I x1] w λn b w'=>R (Z (I b)) w')):=uj_ {N:=19,keep:=kp 0 [[0,1],[0,1,8],[4],[6],[4]]} func259 (by kernel_rfl)
theorem ahg {x x1 w R}:Uj (Calls prog 265 #[ab x,I x1] w R) (Fo x.isNone (R (Z (I 0)) w) (∃a,x=aa a/\Lp w (a.add 0) λp=>Ct 331 [ab p,I x1] w λn b w'=>R (Z (I n)) w')):=uj_ {N:=19,keep:=kp 0 [[0,1],[0,1,8],[4],[5],[4]]} func265 (by kernel_rfl)
theorem ahG {x w R}:Uj (Calls prog 298 #[ab x] w R) (Fo x.isNone (R (Z (I 1)) w) (∃a,x=aa a/\Li w (a.add 1) λn=>Fo (n !=1) (R (Z (I 6)) w) (Ci 20 [ab x] w λn w'=>Fo (decide (n>0)) (R (Z (I 7)) w') (∃a,x=aa a/\Wr w' (a.add 1) [I 2] λw'=>R (Z (I 0)) w')))):=uj_ {N:=19,keep:=kp 0 [[0],[0,3],[2],[0,6],[2],[0,12],[2],[],[2]],bk:=[(0,[0])]} func298 (by kernel_rfl)
theorem ahd {x w R}:Uj (Calls prog 262 #[I x] w R) (Fz (decide (x<1)) (Fo (decide (x>64)) (R (Z (aw #[ab ag,I 2])) w) (aI w [I x,I 0,.bool ae] 385 λp w'=>R (Z (aw #[ab (aa p),I 0])) w')) (R (Z (aw #[ab ag,I 2])) w)):=uj_ {N:=13,keep:=kp 0 [[0],[0,9],[2,3],[2,3]]} func262 (by kernel_rfl)
theorem ahD {x w R}:Uj (Calls prog 295 #[ab x] w R) (Fo x.isNone (R (Z (aw #[I 0,.bool ae,.bool ah])) w) (Sm w λw'=>∃a,x=aa a/\Lj w' (a.add 2) λb=>Fo b (∃a,x=aa a/\Li w' (a.add 1) λn=>Fz (n==0) (∃a,x=aa a/\Lj w' (a.add 2) λb=>Fo (!b) (∃a,x=aa a/\Li w' (a.add 1) λn=>∃a,x=aa a/\Li w' (a.add 0) λd=>Fo (n==d) (Sm w' λc=>∃a,x=aa a/\∃b,c.cell? (a.add 2)=aa (.bool b)/\R (Z (aw #[I 0,.bool b,.bool ah])) c) (∃a,x=aa a/\Lj w' (a.add 2) λb=>Fo b (∃a,x=aa a/\Li w' (a.add 1) λn=>R (Z (aw #[I (wrap i64 (n-1)),.bool ah,.bool ae])) w') (∃a,x=aa a/\Li w' (a.add 1) λn=>R (Z (aw #[I n,.bool ae,.bool ae])) w'))) (∃a,x=aa a/\Lj w' (a.add 2) λb=>Fo b (∃a,x=aa a/\Li w' (a.add 1) λn=>R (Z (aw #[I (wrap i64 (n-1)),.bool ah,.bool ae])) w') (∃a,x=aa a/\Li w' (a.add 1) λn=>R (Z (aw #[I n,.bool ae,.bool ae])) w'))) (Sm w' λc=>∃a,x=aa a/\∃b,c.cell? (a.add 2)=aa (.bool b)/\R (Z (aw #[I 0,.bool b,.bool ah])) c)) (∃a,x=aa a/\Lj w' (a.add 2) λb=>Fo (!b) (∃a,x=aa a/\Li w' (a.add 1) λn=>∃a,x=aa a/\Li w' (a.add 0) λd=>Fo (n==d) (Sm w' λc=>∃a,x=aa a/\∃b,c.cell? (a.add 2)=aa (.bool b)/\R (Z (aw #[I 0,.bool b,.bool ah])) c) (∃a,x=aa a/\Lj w' (a.add 2) λb=>Fo b (∃a,x=aa a/\Li w' (a.add 1) λn=>R (Z (aw #[I (wrap i64 (n-1)),.bool ah,.bool ae])) w') (∃a,x=aa a/\Li w' (a.add 1) λn=>R (Z (aw #[I n,.bool ae,.bool ae])) w'))) (∃a,x=aa a/\Lj w' (a.add 2) λb=>Fo b (∃a,x=aa a/\Li w' (a.add 1) λn=>R (Z (aw #[I (wrap i64 (n-1)),.bool ah,.bool ae])) w') (∃a,x=aa a/\Li w' (a.add 1) λn=>R (Z (aw #[I n,.bool ae,.bool ae])) w'))))):=uj_ {N:=56,keep:=kp 0 [[0],[0,5],[2,3,4],[0,8],[2,3,4],[0,42],[2,3,4],[2,3,4]],bQ:=[(3,(.range 30)),(4,(.range 7))],bk:=[(0,[0])]} func295 (by kernel_rfl)
theorem ahE {x w R}:Uj (Calls prog 296 #[ab x] w R) (Call prog 295 [ab x] w λe w'=>∃n b c,e=Z (aw #[I n,.bool b,.bool c])/\Fo x.isNone (R (Z (I 1)) w') (Fz b (Fo c (R (Z (I 6)) w') (∃a,x=aa a/\Wr w' (a.add 2) [.bool ah] λw'=>R (Z (I 0)) w')) (R (Z (I 6)) w'))):=uj_ {N:=23,keep:=kp 0 [[0],[0,4,5],[0,4,5,12],[2],[0,15],[2],[],[2]],bk:=[(0,[0])]} func296 (by kernel_rfl)
theorem ahJ {x w R}:Uj (Calls prog 301 #[ab x] w R) (Call prog 295 [ab x] w λe w'=>∃n b c,e=Z (aw #[I n,.bool b,.bool c])/\Fo x.isNone (R (Z (I 1)) w') (Fo c (R (Z (I 6)) w') (Fo b (∃a,x=aa a/\Li w' (a.add 1) λn=>∃a,x=aa a/\Wr w' (a.add 1) [I (wrap i64 (n-1))] λw'=>R (Z (I 0)) w') (∃a,x=aa a/\Li w' (a.add 1) λn=>∃a,x=aa a/\Wr w' (a.add 1) [I (wrap i64 (n+1))] λw'=>R (Z (I 0)) w')))):=uj_ {N:=33,keep:=kp 0 [[0],[0,4,5],[],[0,4,5,19],[2],[0,4,22],[2],[0,24],[],[2]],bk:=[(0,[])]} func301 (by kernel_rfl)
theorem ahK {x w R}:Uj (Calls prog 302 #[ab x] w R) (Call prog 295 [ab x] w λe w'=>∃n b a,e=Z (aw #[I n,.bool b,.bool a])/\Fo x.isNone (R (Z (I 1)) w') (Fo (!a) (R (Z (I 7)) w') (Fo b (R (Z (I 11)) w') (R (Z (I 0)) w')))):=uj_ {N:=20,keep:=kp 0 [[0],[0,4,5],[4,5,12],[2],[4,15],[2],[18],[2],[2]],bk:=[(0,[])]} func302 (by kernel_rfl)
theorem u99 {x w R}:Uj (Calls prog 99 #[ab x] w R) (Fo (!x.isNone) (∃a,x=aa a/\Lp w (a.add 0) λp=>R (Z (.bool !p.isNone)) w) (R (Z (.bool ae)) w)):=uj_ {N:=12,keep:=kp 0 [[0],[2]]} func99 (by kernel_rfl)
theorem aeI {x w R}:Uj (Calls prog 100 #[ab x] w R) (Cj 99 [ab x] w λb w'=>Fo b (∃a,x=aa a/\Lp w' (a.add 0) λp=>∃a,p=aa a/\Lj w' (a.add 1) λb=>R (Z (.bool b)) w') (R (Z (.bool ae)) w')):=uj_ {N:=14,keep:=kp 0 [[0],[2]]} func100 (by kernel_rfl)
theorem aeJ {x w R}:Uj (Calls prog 101 #[ab x] w R) (Cj 99 [ab x] w λb w'=>Fo (!b) (R (Z (I 0)) w') (∃a,x=aa a/\Lp w' (a.add 0) λp=>∃a,p=aa a/\Li w' (a.add 2) λn=>R (Z (I n)) w')):=uj_ {N:=13,keep:=kp 0 [[0],[0,5],[2],[2]]} func101 (by kernel_rfl)
theorem aeK {x w R}:Uj (Calls prog 102 #[ab x] w R) (Cj 99 [ab x] w λb w'=>Fo (!b) (R (Z (I 0)) w') (∃a,x=aa a/\Lp w' (a.add 0) λp=>∃a,p=aa a/\Li w' (a.add 3) λn=>R (Z (I n)) w')):=uj_ {N:=13,keep:=kp 0 [[0],[0,5],[2],[2]]} func102 (by kernel_rfl)
def yC:Mt:={N:=52,keep:=kp 0 [[0,1,2,3],[0,1,2,3,12],[8],[0,1,2,3,15],[8],[0,1,2,3,21],[8],[0,1,2,3,30],[8],[0,1,2,3,9],[0,1,2,3,9,34],[0,1,2,3,9],[0,1,2,3,10,11],[0,1,2,3,10,11,41],[8],[],[8]],bk:=[(0,[0,1,2,3])],bD:=[(12,[0,1,2,3,9])]}
def Ub:=bc f161
def BP:=Ub.sr.sr.sr.sr
def Cs (x:Option Addr) (x1:Bool) (x2 x3 x4:Int):Env:=[vP 0 x,(1,SV.v (.bool x1)),vI 2 x2,vI 3 x3,vI 9 x4]
def C5 (R:RT):=Rt f161 R
theorem afH {x x1 x2 x3 w R}:Uj (Calls prog 161 #[ab x,.bool x1,I x2,I x3] w R) (Fo x.isNone (R (Z (I 1)) w) (∃a,x=aa a/\Lp w (a.add 0) λp=>Fo (!p.isNone) (R (Z (I 7)) w) (Cj 261 [I x2] w λb w'=>Fz (!b) (Cj 261 [I x3] w' λb w'=>Fo (!b) (R (Z (I 3)) w') (Fo (x2==x3) (R (Z (I 2)) w') (Fo x1 (aP prog yC BP (Cs x x1 x2 x3 4) w' (C5 R)) (aP prog yC BP (Cs x x1 x2 x3 10) w' (C5 R))))) (R (Z (I 3)) w')))):=uj_ yC func161 (by kernel_rfl)
theorem acL (x x1 x2 x3 x4 w R):den prog yC BP (Cs x x1 x2 x3 x4) w (C5 R)=
(Call prog 262 [I x4] w λe w'=>∃p n,e=Z (aw #[ab p,I n])/\Fo (n !=0) (R (Z (I n)) w') (aI w' [ab p,.bool x1,I x2,I x3,.bool ae] 284 λp w'=>∃a,x=aa a/\Wr w' (a.add 0) [ab (aa p)] λw'=>R (Z (I 0)) w')):=by kernel_rfl
def oY:Mt:={N:=72,keep:=kp 0 [[0,2],[0,2,4],[0,2,4,12],[2,3],[0,2,5,6],[0,2,5,8],[0,2,5,8,51],[0,2,8],[0,2,8],[2,8],[2,3]],bD:=[(6,[0,2,5,8]),(9,[0,2,8])]}
def KZ:=bc f208
def wB:=KZ.sr.sr.sr.sr
def BR:=KZ.sr.sr.sr.sr.sr
def wO (x:Option Addr) (x1:Addr) (x2:Int) (x3:Addr):Env:=[vP 0 x,(2,SV.v (ab (aa x1))),vI 5 x2,(8,SV.v (ab (aa x3)))]
def Cv (x:Option Addr) (x1 x2:Addr):Env:=[vP 0 x,(2,SV.v (ab (aa x1))),(8,SV.v (ab (aa x2)))]
def xk (R:RT):=Rt f208 R
def C7 (R:RT):=Rt f208 R
theorem agl {x w R}:Uj (Calls prog 208 #[ab x] w R) (aI w [I 0,.bool ae,.bool ae] 303 λp w'=>Ci 294 [ab x] w' λn w'=>Fo (n !=0) (Wr w' p [I 0,.bool ae,.bool ae] λw'=>Li w' (p.add 0) λh=>Lj w' (p.add 1) λb=>Lj w' (p.add 2) λf=>R (Z (aw #[agg #[I h,.bool b,.bool f],I n])) w') (∃a,x=aa a/\Lp w' (a.add 0) λi=>∃a,i=aa a/\Lp w' (a.add 0) λj=>Call prog 295 [ab j] w' λe w'=>∃n b f,e=Z (aw #[I n,.bool b,.bool f])/\Fo (!b) (∃a,x=aa a/\Lp w' (a.add 0) λc=>∃a,c=aa a/\Lj w' (a.add 4) λg=>Fo (!g) (∃a,x=aa a/\∃r,w'.cell? (a.add 1)=aa (map r)/\∃k,aZ prog (dg 134 (map r) (I n) ae) w'=a7 (.bool k) w'/\aI w' [I 0,.bool ae,.bool ae] 303 λd w'=>Wr w' d [I n,.bool b,.bool k] λw'=>aP prog oY wB (wO x p n d) w' (xk R)) (aI w' [I 0,.bool ae,.bool ae] 303 λd w'=>Wr w' d [I n,.bool b,.bool ae] λw'=>aP prog oY wB (wO x p n d) w' (xk R))) (aI w' [I 0,.bool ae,.bool ae] 303 λc w'=>Wr w' c [I n,.bool b,.bool ae] λw'=>aP prog oY wB (wO x p n c) w' (xk R)))):=uj_ oY func208 (by kernel_rfl)
theorem acW (x x1 x2 x3 w R):den prog oY wB (wO x x1 x2 x3) w (xk R)=
(Lj w (x3.add 2) λb=>Fo b (∃a,x=aa a/\∃r,w.cell? (a.add 1)=aa (map r)/\∃w',aZ prog (gW #[134,3] 0 #[map r,I x2]) w=a7 (aw #[]) w'/\∃a,x=aa a/\Lp w' (a.add 0) λp=>∃a,p=aa a/\Lp w' (a.add 0) λp=>Ci 296 [ab p] w' λn w'=>aP prog oY BR (Cv x x1 x3) w' (C7 R)) (aP prog oY BR (Cv x x1 x3) w (C7 R))):=by kernel_rfl
theorem acX (x x1 x2 w R):den prog oY BR (Cv x x1 x2) w (C7 R)=
(∃a,x=aa a/\Lp w (a.add 0) λp=>∃a,p=aa a/\Wr w (a.add 4) [.bool ah] λw'=>Li w' (x2.add 0) λn=>Lj w' (x2.add 1) λb=>Lj w' (x2.add 2) λc=>Wr w' x1 [I n,.bool b,.bool c] λw'=>Li w' (x1.add 0) λn=>Lj w' (x1.add 1) λb=>Lj w' (x1.add 2) λd=>R (Z (aw #[agg #[I n,.bool b,.bool d],I 0])) w'):=by kernel_rfl
theorem agn {x w R}:Uj (Calls prog 210 #[ab x] w R) (Ci 294 [ab x] w λn w'=>Fo (n !=0) (R (Z (I n)) w') (∃a,x=aa a/\Lp w' (a.add 0) λp=>∃a,p=aa a/\Wr w' (a.add 4) [.bool ae] λw'=>∃a,x=aa a/\Lp w' (a.add 0) λp=>∃a,p=aa a/\Lp w' (a.add 0) λp=>Ci 301 [ab p] w' λn w'=>R (Z (I n)) w')):=uj_ {N:=23,keep:=kp 0 [[0],[0,3],[0,3,7],[2],[0],[2]]} func210 (by kernel_rfl)
theorem ago {x w R}:Uj (Calls prog 211 #[ab x] w R) (Cj 99 [ab x] w λb w'=>Fo (!b) (R (Z (.bool ae)) w') (∃a,x=aa a/\Lp w' (a.add 0) λp=>∃a,p=aa a/\Lp w' (a.add 0) λp=>Call prog 295 [ab p] w' λe w'=>∃n b c,e=Z (aw #[I n,.bool b,.bool c])/\R (Z (.bool c)) w')):=uj_ {N:=22,keep:=kp 0 [[0],[0,8],[2],[5],[2]]} func211 (by kernel_rfl)
theorem agp {x w R}:Uj (Calls prog 212 #[ab x] w R) (Fo x.isNone (R (Z (aw #[I 0,I 1])) w) (∃a,x=aa a/\Lp w (a.add 0) λp=>Fo p.isNone (R (Z (aw #[I 0,I 12])) w) (Cj 211 [ab x] w λb w'=>Fo (!b) (R (Z (aw #[I 0,I 6])) w') (∃a,x=aa a/\Lp w' (a.add 0) λp=>∃a,p=aa a/\Lp w' (a.add 0) λp=>Ci 302 [ab p] w' λn w'=>∃a,x=aa a/\Wr w' (a.add 0) [ab ag] λw'=>R (Z (aw #[I n,I 0])) w')))):=uj_ {N:=30,keep:=kp 0 [[0],[0,5],[2,3],[0,8],[2,3],[0,14],[2,3],[0,4],[4],[2,3]],bk:=[(0,[0])]} func212 (by kernel_rfl)
theorem ahc {x w R}:Uj (Calls prog 261 #[I x] w R) (Fo (decide (x>=0)) (R (Z (.bool (decide (x<64)))) w) (R (Z (.bool ae)) w)):=uj_ {N:=9,keep:=kp 0 [[0],[2]]} func261 (by kernel_rfl)
theorem ahf {x x1 w R}:Uj (Calls prog 264 #[ab x,I x1] w R) (Fo x.isNone (R (Z (I 1)) w) (Fz (decide (x1<0)) (Fo (decide (x1>=10)) (R (Z (I 3)) w) (∃a,x=aa a/\∃r,w.cell? (a.add 1)=aa (map r)/\Fo r.isNone (rM w λr w'=>∃a,x=aa a/\Wr w' (a.add 1) [map (aa r)] λw'=>∃a,x=aa a/\∃r,w'.cell? (a.add 1)=aa (map r)/\∃b,aZ prog (gy 134 (map r) (I x1) (.bool ah)) w'=a7 () b/\R (Z (I 0)) b) (∃a,x=aa a/\∃r,w.cell? (a.add 1)=aa (map r)/\∃w',aZ prog (gy 134 (map r) (I x1) (.bool ah)) w=a7 () w'/\R (Z (I 0)) w'))) (R (Z (I 3)) w))):=uj_ {N:=29,keep:=kp 0 [[0,1],[0,1,5],[4],[0,1,8],[4],[0,1,19],[0,1],[],[4]],bk:=[(0,[0,1])]} func264 (by kernel_rfl)
theorem ahC {x w R}:Uj (Calls prog 294 #[ab x] w R) (Fo x.isNone (R (Z (I 1)) w) (∃a,x=aa a/\Lp w (a.add 0) λp=>Fo p.isNone (R (Z (I 12)) w) (Cj 211 [ab x] w λb w'=>Fo b (R (Z (I 6)) w') (R (Z (I 0)) w')))):=uj_ {N:=15,keep:=kp 0 [[0],[0,3],[2],[0,6],[2],[12],[2],[2]],bk:=[(0,[])]} func294 (by kernel_rfl)
def Br:Mt:={N:=33,keep:=kp 0 [[0],[0,11],[2,3],[4],[4,20,21],[4,20,21,22],[4,5,20,21],[4,20,21],[4,20,21],[2,3]],bk:=[(0,[4]),(1,[4,20,21])],lk:=[(5,[4,20,21])]}
def Ma:=bc f54
def UO:=Ma.sr.sr.sr.sr
def Mb:=Ma.sr.sr.sr.sl.sr.sl.sl
def GR (x:Option Addr) (x1 x2:Int):Env:=[vP 4 x,vI 20 x1,vI 21 x2]
def Pf (R:RT):=aW 0 [4] (SQ Br UO (Rt f54 R) (Rt f54 R))
theorem u54 {x w R}:Uj (Calls prog 54 #[I x] w R) (Fz (decide (x<1)) (Fo (decide (x>64)) (R (Z (aw #[ab ag,I 2])) w) (∃p n c w',aZ prog (lA 222 (I x) (I x)) w=a7 (aj p n c) w'/\aI w' [aj p n c] 224 λp w'=>∃a,aa p=aa a/\Lq w' (a.add 0) λb n c=>Cut (WP prog 33 (bj Mb) (GR (aa p) (↑n:Int) 0) w' (Pf R)))) (R (Z (aw #[ab ag,I 2])) w)):=uj_ Br func54 (by kernel_rfl)
theorem adF (x x1 x2 w B R):den prog Br Mb (GR x x1 x2) w (bd B (Pf R))=
(Fo (decide (x2<x1)) (∃a,x=aa a/\Lq w (a.add 0) λp n c=>(0<=x2/\x2<(↑n:Int))/\∃a,p=aa a/\Wr w (add (add a (aG x2*6)) 0) [.bool ah] λw'=>B [vP 4 x,vI 20 x1,(21,SV.v (I (wrap i64 (x2+1))))] w') (R (Z (aw #[ab x,I 0])) w)):=by kernel_rfl
theorem aeV {x x1 w R}:Uj (Calls prog 113 #[ab x,I x1] w R) (aI w [.bool ae,.bool ae,I 0,I 0,I 0,I 0] 226 λp w'=>Call prog 199 [ab x,I x1] w' λe w'=>∃i n,e=Z (aw #[ab i,I n])/\Fo (n !=0) (Wr w' p [.bool ae,.bool ae,I 0,I 0,I 0,I 0] λw'=>Lj w' (p.add 0) λb=>Lj w' (p.add 1) λc=>Li w' (p.add 2) λd=>Li w' (p.add 3) λf=>Li w' (p.add 4) λg=>Li w' (p.add 5) λh=>R (Z (aw #[agg #[.bool b,.bool c,I d,I f,I g,I h],I n])) w') (∃a,i=aa a/\Lj w' (a.add 0) λb=>Lj w' (a.add 1) λc=>Li w' (a.add 2) λn=>Li w' (a.add 3) λd=>Li w' (a.add 4) λf=>Li w' (a.add 5) λg=>Wr w' p [.bool b,.bool c,I n,I d,I f,I g] λw'=>Lj w' (p.add 0) λb=>Lj w' (p.add 1) λj=>Li w' (p.add 2) λn=>Li w' (p.add 3) λh=>Li w' (p.add 4) λk=>Li w' (p.add 5) λl=>R (Z (aw #[agg #[.bool b,.bool j,I n,I h,I k,I l],I 0])) w')):=uj_ {N:=21,keep:=kp 0 [[0,1,4],[4,6,7],[4,6,7,15],[4,5],[4,5]]} func113 (by kernel_rfl)
theorem aeW {x x1 x2 x3 x4 x5 x6 r s t e l m o q w R}:Uj (Calls prog 114 #[agg #[(.bool x),(.bool x1),I x2,I x3,I x4,I x5],agg #[(.bool x6),(.bool r),(.bool s),(.bool t),(.bool e),(.bool l),(.bool m),(.bool o),(.bool q)]] w R) (aI w [.bool x,.bool x1,I x2,I x3,I x4,I x5] 226 λp w'=>aI w' [.bool x6,.bool r,.bool s,.bool t,.bool e,.bool l,.bool m,.bool o,.bool q] 240 λa w'=>Lj w' (a.add 0) λb=>Lj w' (a.add 1) λc=>Lj w' (a.add 2) λd=>Lj w' (a.add 3) λf=>Lj w' (a.add 4) λg=>Lj w' (a.add 5) λh=>Lj w' (a.add 6) λi=>Lj w' (a.add 7) λj=>Lj w' (a.add 8) λk=>Ci 200 [agg #[.bool b,.bool c,.bool d,.bool f,.bool g,.bool h,.bool i,.bool j,.bool k]] w' λn w'=>Lj w' (p.add 0) λb=>Fo (!b) (R (Z (I 0)) w') (Lj w' (p.add 1) λb=>Fo (!b) (R (Z (I n)) w') (Fz (n==0) (Fo (n==9) (R (Z (I 0)) w') (R (Z (I 1)) w')) (R (Z (I 0)) w')))):=uj_ {N:=24,keep:=kp 0 [[2,3],[2,5],[2,5,8],[4],[5,12],[4],[17],[4],[4]],bk:=[(0,[])]} func114 (by kernel_rfl)
theorem aeY {x x1 x2 w R}:Uj (Calls prog 116 #[ab x,I x1,.bool x2] w R) (Call prog 199 [ab x,I x1] w λe w'=>∃p n,e=Z (aw #[ab p,I n])/\Fo (n !=0) (R (Z (I n)) w') (∃a,p=aa a/\Li w' (a.add 4) λn=>∃a,p=aa a/\Wr w' (a.add 4) [I (wrap i64 (n+1))] λw'=>Fo x2 (∃a,p=aa a/\Li w' (a.add 5) λn=>∃a,p=aa a/\Wr w' (a.add 5) [I (wrap i64 (n+1))] λw'=>R (Z (I 0)) w') (R (Z (I 0)) w'))):=uj_ {N:=33,keep:=kp 0 [[0,1,2],[2,7,8],[2,7,8,16],[6],[2,7],[7,25],[],[6]]} func116 (by kernel_rfl)
theorem aeZ {x x1 x2 w R}:Uj (Calls prog 117 #[ab x,I x1,I x2] w R) (Call prog 199 [ab x,I x1] w λe w'=>∃p n,e=Z (aw #[ab p,I n])/\Fo (n !=0) (R (Z (aw #[I 0,I n])) w') (Cj 206 [I x2] w' λb w'=>Fo (!b) (R (Z (aw #[I 0,I 2])) w') (∃a,p=aa a/\Lj w' (a.add 1) λb=>Fo (!b) (R (Z (aw #[I 0,I 6])) w') (∃a,p=aa a/\Li w' (a.add 3) λn=>Cn 207 [ab p] w' λw'=>∃c d,aZ prog (wb #[2,2] 2 #[I 0,I (wrap i64 (x2-n))]) w'=a7 (I c) d/\R (Z (aw #[I c,I 0])) d)))):=uj_ {N:=41,keep:=kp 0 [[0,1,2],[2,8,9],[2,8,9,17],[6,7],[2,8,21],[6,7],[2,8,25],[6,7],[2,8,10],[2,10],[6,7]],bk:=[(0,[2,8])]} func117 (by kernel_rfl)
theorem Sd {x x1 w R}:Uj (Calls prog 199 #[ab x,I x1] w R) (Fo x.isNone (R (Z (aw #[ab ag,I 1])) w) (Fz (decide (x1<0)) (∃a,x=aa a/\Lq w (a.add 0) λp n c=>Fo (decide (x1>=(↑n:Int))) (R (Z (aw #[ab ag,I 3])) w) (∃a,x=aa a/\Lq w (a.add 0) λp n c=>(0<=x1/\x1<(↑n:Int))/\∃a,p=aa a/\R (Z (aw #[ab (aa (add a (aG x1*6))),I 0])) w)) (R (Z (aw #[ab ag,I 3])) w))):=uj_ {N:=27,keep:=kp 0 [[0,1],[0,1,6],[4,5],[0,1,9],[4,5],[4,5]],bk:=[(0,[0,1])]} func199 (by kernel_rfl)
def rI:Mt:={N:=43,keep:=kp 0 [[1],[34,35],[34,35,36],[4,34,35],[4,34,35,39],[2],[34,35],[2]],bk:=[(0,[]),(1,[34,35])],bD:=[(2,[34,35])],lk:=[(2,[34,35])]}
def Fy:=bc f200
def KX:=Fy.sr.sr
def BQ:=Fy.sr.sl.sr
def KY:=Fy.sr.sl.sr.sl.sl
def M7 (x:List Value) (x1:Int):Env:=[(34,SV.v (agg x.toArray)),vI 35 x1]
def Gp (x:List Value) (x1:Int):Env:=[(34,SV.v (agg x.toArray)),vI 35 x1]
def C6 (R:RT):=SQ rI KX (Rt f200 R) (Rt f200 R)
def OE (R:RT):=aW 0 [] (SQ rI KX (Rt f200 R) (Rt f200 R))
theorem agc {x x1 x2 x3 x4 x5 x6 j k w R}:Uj (Calls prog 200 #[agg #[(.bool x),(.bool x1),(.bool x2),(.bool x3),(.bool x4),(.bool x5),(.bool x6),(.bool j),(.bool k)]] w R) (aI w [.bool x,.bool x1,.bool x2,.bool x3,.bool x4,.bool x5,.bool x6,.bool j,.bool k] 240 λp w'=>Lj w' (p.add 0) λb=>Lj w' (p.add 2) λg=>Lj w' (p.add 1) λh=>Fz h (Lj w' (p.add 3) λa=>Lj w' (p.add 4) λc=>Lj w' (p.add 5) λd=>Lj w' (p.add 6) λe=>Lj w' (p.add 7) λf=>Lj w' (p.add 8) λi=>aP prog rI BQ [(34,SV.v (agg #[.bool b,I 2,.bool g,I 3,.bool !a,I 0,.bool c,I 4,.bool d,I 5,.bool e,I 6,.bool f,I 7,.bool i,I 8])),vI 35 0] w' (C6 R)) (Lj w' (p.add 4) λa=>Lj w' (p.add 5) λc=>Lj w' (p.add 6) λd=>Lj w' (p.add 7) λe=>Lj w' (p.add 8) λf=>aP prog rI BQ [(34,SV.v (agg #[.bool b,I 2,.bool g,I 3,.bool ah,I 0,.bool a,I 4,.bool c,I 5,.bool d,I 6,.bool e,I 7,.bool f,I 8])),vI 35 0] w' (C6 R))):=uj_ rI func200 (by kernel_rfl)
theorem acU (x x1 w R):den prog rI BQ (M7 x x1) w (C6 R)=
(Cut (WP prog 43 (bj KY) (Gp x x1) w (OE R))):=by kernel_rfl
theorem acV (x x1 w B R):den prog rI KY (Gp x x1) w (bd B (OE R))=
(Fo (decide (x1<8)) ((0<=x1/\x1<(↑8:Int))/\∃b n,qG 2 (qH (aG x1*2) (Array.toList (dB x)))=[.bool b,I n]/\aI w [.bool ae,I 0] 361 λp w'=>Wr w' p [.bool b,I n] λw'=>Lj w' (p.add 0) λb=>Fo b (Li w' (p.add 1) λn=>R (Z (I n)) w') (B [(34,SV.v (agg (dB x))),(35,SV.v (I (wrap i64 (x1+1))))] w')) (R (Z (I 9)) w)):=by kernel_rfl
theorem agj {x w R}:Uj (Calls prog 206 #[I x] w R) (Fo (decide (x>=0)) (R (Z (.bool (decide (x<=1152921504606846976)))) w) (R (Z (.bool ae)) w)):=uj_ {N:=9,keep:=kp 0 [[0],[2]]} func206 (by kernel_rfl)
theorem agk {x w R}:Uj (Calls prog 207 #[ab x] w R) (∃a,x=aa a/\Wr w (a.add 1) [.bool ae] λw'=>∃a,x=aa a/\Wr w' (a.add 2) [I 0] λw'=>∃a,x=aa a/\Wr w' (a.add 3) [I 0] λw'=>R (Z (aw #[])) w'):=uj_ {N:=11,keep:=kp 0 [[]]} func207 (by kernel_rfl)
theorem agt {x x1 x2 x3 w R}:Uj (Calls prog 216 #[ab x,I x1,I x2,I x3] w R) (Call prog 199 [ab x,I x1] w λe w'=>∃p n,e=Z (aw #[ab p,I n])/\Fo (n !=0) (R (Z (I n)) w') (Fz (decide (x2<0)) (Fz (decide (x2>=8)) (Cj 206 [I x3] w' λb w'=>Fo (!b) (R (Z (I 2)) w') (∃a,p=aa a/\Lj w' (a.add 0) λb=>Fz (!b) (∃a,p=aa a/\Lj w' (a.add 1) λb=>Fo b (R (Z (I 6)) w') (∃a,p=aa a/\Wr w' (a.add 1) [.bool ah] λw'=>∃a,p=aa a/\Wr w' (a.add 2) [I x2] λw'=>∃a,p=aa a/\Wr w' (a.add 3) [I x3] λw'=>R (Z (I 0)) w')) (R (Z (I 6)) w'))) (R (Z (I 2)) w')) (R (Z (I 2)) w'))):=uj_ {N:=56,keep:=kp 0 [[0,1,2,3],[2,3,9,10],[2,3,9,10,17],[8],[2,3,9,21],[8],[2,3,9,33],[8],[],[8]],bk:=[(0,[2,3,9])]} func216 (by kernel_rfl)
theorem agE {x x1 w R}:Uj (Calls prog 227 #[ab x,I x1] w R) (Call prog 199 [ab x,I x1] w λe w'=>∃p n,e=Z (aw #[ab p,I n])/\Fo (n !=0) (R (Z (aw #[I 0,I 0,I n])) w') (Sm w' λb=>∃a,p=aa a/\∃n,b.cell? (a.add 5)=aa (I n)/\∃a,p=aa a/\∃c,b.cell? (a.add 4)=aa (I c)/\∃a,p=aa a/\Wr b (a.add 5) [I 0] λw'=>∃a,p=aa a/\Wr w' (a.add 4) [I 0] λw'=>R (Z (aw #[I n,I c,I 0])) w')):=uj_ {N:=36,keep:=kp 0 [[0,1],[7,8],[7,8,18],[4,5,6],[7,9,10],[9,10],[4,5,6]],bQ:=[(4,(.range 10))]} func227 (by kernel_rfl)
theorem ait {x x1 x2 w R}:Uj (Calls prog 354 #[ab x,I x1,.bool x2] w R) (Call prog 199 [ab x,I x1] w λe w'=>∃p n,e=Z (aw #[ab p,I n])/\Fo (n !=0) (R (Z (I n)) w') (∃a,p=aa a/\Lj w' (a.add 0) λb=>Fo (b==x2) (R (Z (I 6)) w') (∃a,p=aa a/\Wr w' (a.add 0) [.bool x2] λw'=>Cn 207 [ab p] w' λw'=>R (Z (I 0)) w'))):=uj_ {N:=32,keep:=kp 0 [[0,1,2],[2,7,8],[2,7,8,15],[6],[2,7,19],[6],[7],[],[6]],bk:=[(0,[2,7])]} func354 (by kernel_rfl)
theorem ags {x x1 x2 w R}:Uj (Calls prog 215 #[I x,I x1,.bool x2] w R) (Fo (!x2) (R (Z (I 1073741824)) w) (Fz (decide (x<0)) (Fo (decide (x1<=x)) (R (Z (I 0)) w) (∃n w',aZ prog (po #[2,2] 2 #[I (wrap i64 (x1-x)),I 1073741824]) w=a7 (I n) w'/\R (Z (I n)) w')) (R (Z (I 0)) w))):=uj_ {N:=22,keep:=kp 0 [[0,1,2],[0,1,7],[6],[0,1,10],[6],[6]],bk:=[(0,[0,1])]} func215 (by kernel_rfl)
def A6:Mt:={N:=32,keep:=kp 0 [[0,1,2],[0,1,2,7],[0,1,2,7,12],[0,1,2,7],[0,1,2,7,30],[6],[6]],bk:=[(0,[]),(1,[0,1,2,7])],lk:=[(2,[0,1,2,7])]}
def K0:=bc f217
def Un:=K0.sr.sr
def K1:=K0.sr.sl.sr.sl.sl
def Gq (x:Option Addr) (x1 x2:Nat) (x3 x4 x5:Int):Env:=[vS 0 x x1 x2,vI 1 x3,vI 2 x4,vI 7 x5]
def OF (R:RT):=aW 0 [] (SQ A6 Un (Rt f217 R) (Rt f217 R))
theorem agu {x x1 x2 x3 x4 w R}:Uj (Calls prog 217 #[aj x x1 x2,I x3,I x4] w R) (Cut (WP prog 32 (bj K1) (Gq x x1 x2 x3 x4 (wrap i64 ((↑x1:Int)-1))) w (OF R))):=uj_ A6 func217 (by kernel_rfl)
theorem acY (x x1 x2 x3 x4 x5 w B R):den prog A6 K1 (Gq x x1 x2 x3 x4 x5) w (bd B (OF R))=
(Fo (decide (x5>0)) ((0<=x5/\x5<(↑x1:Int))/\∃a,x=aa a/\∃n,w.cell? (add (add a (aG x5*3)) 0)=aa (I n)/\Fo (decide (n<=x4)) ((0<=x5/\x5<(↑x1:Int))/\∃a,x=aa a/\∃n,w.cell? (add (add a (aG x5*3)) 1)=aa (I n)/\Fo (decide (n<=x3)) (R (Z (I x5)) w) (B [vS 0 x x1 x2,vI 1 x3,vI 2 x4,(7,SV.v (I (wrap i64 (x5-1))))] w)) (B [vS 0 x x1 x2,vI 1 x3,vI 2 x4,(7,SV.v (I (wrap i64 (x5-1))))] w)) (R (Z (I 0)) w)):=by kernel_rfl
theorem agv {w R}:Uj (Calls prog 218 #[] w R) (aI w [I 0,I 0,I 100,I 2,I 10,I 60,I 10,I 50,I 25,I 50,I 400,I 5] 321 λp w'=>R (Z (aj (aa p) 4 4)) w'):=uj_ {N:=6,keep:=kp 0 [[],[0]]} func218 (by kernel_rfl)
theorem u58 {x x1 w R}:Uj (Calls prog 58 #[I x,I x1] w R) (Cj 112 [I x,I x1] w λb w'=>Fo (!b) (R (Z (aw #[ab ag,I 2])) w') (aI w' [I x,I x1,I 0,I 0,I 0,I 0,I 0,I 0,I 0,I 0,I 0] 235 λp w'=>R (Z (aw #[ab (aa p),I 0])) w')):=uj_ {N:=14,keep:=kp 0 [[0,1],[0,1,9],[4,5],[4,5]]} func58 (by kernel_rfl)
theorem aeU {x x1 w R}:Uj (Calls prog 112 #[I x,I x1] w R) (Fo (decide (x>=1)) (Fo (decide (x1<=100000)) (R (Z (.bool (decide (x<=x1)))) w) (R (Z (.bool ae)) w)) (R (Z (.bool ae)) w)):=uj_ {N:=16,keep:=kp 0 [[0,1],[4]]} func112 (by kernel_rfl)
theorem agF {x x1 x2 w R}:Uj (Calls prog 228 #[ab x,I x1,I x2] w R) (Fo x.isNone (R (Z (aw #[I 0,I 1])) w) (Fz (decide (x1<0)) (Fz (decide (x1>x2)) (Fo (decide (x2>1099511627776)) (R (Z (aw #[I 0,I 2])) w) (Sm w λw'=>∃a,x=aa a/\Li w' (a.add 10) λn=>∃a,x=aa a/\(0<=n/\n<(↑4:Int))/\Wr w' (add (a.add 2) (aG n*2)) [I x1,I x2] λw'=>∃a,x=aa a/\Li w' (a.add 10) λn=>(4:Int)≠0/\∃a,x=aa a/\Wr w' (a.add 10) [I (eO (wrap i64 (n+1)) 4)] λw'=>Ci 311 [ab x] w' λn w'=>R (Z (aw #[I n,I 0])) w')) (R (Z (aw #[I 0,I 2])) w)) (R (Z (aw #[I 0,I 2])) w))):=uj_ {N:=45,keep:=kp 0 [[0,1,2],[0,1,2,8],[6,7],[0,1,2,11],[6,7],[0],[0],[6,7]],bQ:=[(5,(.range 12))],bk:=[(0,[0,1,2])]} func228 (by kernel_rfl)
theorem ahh {x x1 x2 w R}:Uj (Calls prog 266 #[ab x,I x1,I x2] w R) (Fo x.isNone (R (Z (I 1)) w) (Cj 112 [I x1,I x2] w λb w'=>Fo (!b) (R (Z (I 2)) w') (∃a,x=aa a/\Wr w' (a.add 0) [I x1] λw'=>∃a,x=aa a/\Wr w' (a.add 1) [I x2] λw'=>R (Z (I 0)) w'))):=uj_ {N:=23,keep:=kp 0 [[0,1,2],[0,1,2,7],[6],[0,1,2,10],[6],[],[6]],bk:=[(0,[0,1,2])]} func266 (by kernel_rfl)
theorem ahT {x w R}:Uj (Calls prog 311 #[ab x] w R) (Ct 367 [ab x] w λn a w'=>Ci 369 [ab x] w' λb w'=>Ci 368 [I n,I a,I b] w' λn w'=>R (Z (I n)) w'):=uj_ {N:=15,keep:=kp 0 [[0],[0,3,4],[2]]} func311 (by kernel_rfl)
theorem aiF {x w R}:Uj (Calls prog 367 #[ab x] w R) (Fo x.isNone (R (Z (aw #[I 0,I 0])) w) (Sm w λw'=>∃a,x=aa a/\Li w' (a.add 0) λn=>∃a,x=aa a/\Li w' (a.add 1) λb=>R (Z (aw #[I n,I b])) w')):=uj_ {N:=14,keep:=kp 0 [[0],[0,5],[2,3],[2,3]],bQ:=[(3,(.range 10))]} func367 (by kernel_rfl)
def vG:Mt:={N:=33,keep:=kp 0 [[0],[0,7],[2],[0,3],[3,11,12],[3,11,12,13],[3,5,11,12],[3,5,11,12],[3,11,12],[3,11,12],[2]],bk:=[(0,[3]),(1,[3,11,12])],bD:=[(10,[3])],lk:=[(5,[3,11,12])]}
def LM:=bc f369
def FF:=LM.sr.sr.sr.sr
def LN:=LM.sr.sr.sr.sl.sr.sl.sl
def Nd (x:Addr):Env:=[(3,SV.v (ab (aa x)))]
def GK (x:Addr) (x1 x2 x3 x4 x5 x6 a b c:Int):Env:=[(3,SV.v (ab (aa x))),(11,SV.v (agg #[(int i64 x1),(int i64 x2),(int i64 x3),(int i64 x4),(int i64 x5),(int i64 x6),(int i64 a),(int i64 b)])),vI 12 c]
def O3 (R:RT):=Rt f369 R
def O4 (R:RT):=aW 0 [3] (SQ vG FF (Rt f369 R) (Rt f369 R))
theorem aiH {x w R}:Uj (Calls prog 369 #[ab x] w R) (Fo x.isNone (R (Z (I 0)) w) (aI w [I 0,I 0] 232 λp w'=>∃a,x=aa a/\Li w' (add (a.add 2) 0) λn=>Li w' (add (a.add 2) 1) λb=>Li w' (add (a.add 2) 2) λc=>Li w' (add (a.add 2) 3) λd=>Li w' (add (a.add 2) 4) λe=>Li w' (add (a.add 2) 5) λf=>Li w' (add (a.add 2) 6) λg=>Li w' (add (a.add 2) 7) λh=>Cut (WP prog 33 (bj LN) (GK p n b c d e f g h 0) w' (O4 R)))):=uj_ vG func369 (by kernel_rfl)
theorem adr (x w R):den prog vG FF (Nd x) w (O3 R)=
(Li w (x.add 0) λn=>Li w (x.add 1) λa=>Ci 395 [I n,I a] w λn w'=>R (Z (I n)) w'):=by kernel_rfl
theorem ads (x x1 x2 x3 x4 x5 x6 e f d w B R):den prog vG LN (GK x x1 x2 x3 x4 x5 x6 e f d) w (bd B (O4 R))=
(Fo (decide (d<4)) ((0<=d/\d<(↑4:Int))/\∃n a,qG 2 (qH (aG d*2) [I x1,I x2,I x3,I x4,I x5,I x6,I e,I f])=[I n,I a]/\aI w [I 0,I 0] 232 λp w'=>Wr w' p [I n,I a] λw'=>Li w' (x.add 0) λn=>Li w' (p.add 0) λb=>Wr w' (x.add 0) [I (wrap i64 (n+b))] λw'=>Li w' (x.add 1) λn=>Li w' (p.add 1) λc=>Wr w' (x.add 1) [I (wrap i64 (n+c))] λw'=>B [(3,SV.v (ab (aa x))),(11,SV.v (agg #[I x1,I x2,I x3,I x4,I x5,I x6,I e,I f])),(12,SV.v (I (wrap i64 (d+1))))] w') (aP prog vG FF (Nd x) w (O3 R))):=by kernel_rfl
theorem u56 {x w R}:Uj (Calls prog 56 #[I x] w R) (Fz (decide (x<1)) (Fo (decide (x>64)) (R (Z (aw #[ab ag,I 2])) w) (∃p n c w',aZ prog (lA 227 (I x) (I x)) w=a7 (aj p n c) w'/\aI w' [aj p n c] 229 λp w'=>R (Z (aw #[ab (aa p),I 0])) w')) (R (Z (aw #[ab ag,I 2])) w)):=uj_ {N:=14,keep:=kp 0 [[0],[0,9],[2,3],[2,3]]} func56 (by kernel_rfl)
theorem agG {x x1 x2 x3 x4 w R}:Uj (Calls prog 229 #[ab x,I x1,I x2,I x3,I x4] w R) (Call prog 312 [ab x,I x1] w λe w'=>∃p n,e=Z (aw #[ab p,I n])/\Fo (n !=0) (R (Z (I n)) w') (Fz (decide (x2<0)) (Fo (decide (x2>=8)) (R (Z (I 3)) w') (∃a,p=aa a/\(0<=x2/\x2<(↑8:Int))/\Ci 313 [ab p,ab (aa (add (a.add 1) (aG x2*1))),I x3,I x4] w' λn w'=>R (Z (I n)) w')) (R (Z (I 3)) w'))):=uj_ {N:=39,keep:=kp 0 [[0,1,2,3,4],[2,3,4,11,12],[2,3,4,11,12,19],[10],[2,3,4,11,23],[10],[10]],bk:=[(0,[2,3,4,11])]} func229 (by kernel_rfl)
theorem agH {x x1 x2 x3 w R}:Uj (Calls prog 230 #[ab x,I x1,I x2,I x3] w R) (Call prog 312 [ab x,I x1] w λe w'=>∃p n,e=Z (aw #[ab p,I n])/\Fo (n !=0) (R (Z (I n)) w') (∃a,p=aa a/\Ci 313 [ab p,ab (aa (a.add 0)),I x2,I x3] w' λn w'=>R (Z (I n)) w')):=uj_ {N:=27,keep:=kp 0 [[0,1,2,3],[2,3,9,10],[2,3,9,10,18],[8],[8]]} func230 (by kernel_rfl)
theorem ahU {x x1 w R}:Uj (Calls prog 312 #[ab x,I x1] w R) (Fo x.isNone (R (Z (aw #[ab ag,I 1])) w) (Fz (decide (x1<0)) (∃a,x=aa a/\Lq w (a.add 0) λp n c=>Fo (decide (x1>=(↑n:Int))) (R (Z (aw #[ab ag,I 3])) w) (∃a,x=aa a/\Lq w (a.add 0) λp n c=>(0<=x1/\x1<(↑n:Int))/\∃a,p=aa a/\R (Z (aw #[ab (aa (add a (aG x1*10))),I 0])) w)) (R (Z (aw #[ab ag,I 3])) w))):=uj_ {N:=27,keep:=kp 0 [[0,1],[0,1,6],[4,5],[0,1,9],[4,5],[4,5]],bk:=[(0,[0,1])]} func312 (by kernel_rfl)
theorem ahV {x x1 x2 x3 w R}:Uj (Calls prog 313 #[ab x,ab x1,I x2,I x3] w R) (Cj 370 [I x2] w λb w'=>Fz (!b) (Cj 370 [I x3] w' λb w'=>Fo (!b) (R (Z (I 2)) w') (∃a,x=aa a/\Li w' (a.add 9) λn=>Ct 333 [I n,I (wrap i64 (x2*x3))] w' λn c w'=>Fz (c !=0) (Fo (decide (n>4611686018427387904)) (R (Z (I 16)) w') (∃a,x=aa a/\Wr w' (a.add 9) [I n] λw'=>∃a,x1=aa a/\Li w' a λn=>∃a,x1=aa a/\Wr w' a [I (wrap i64 (n+x2))] λw'=>R (Z (I 0)) w')) (R (Z (I 16)) w'))) (R (Z (I 2)) w')):=uj_ {N:=46,keep:=kp 0 [[0,1,2,3],[0,1,2,3,18],[8],[0,1,2,9,10],[0,1,2,9,35],[8],[1,2],[],[8]]} func313 (by kernel_rfl)
theorem aiI {x w R}:Uj (Calls prog 370 #[I x] w R) (Fo (decide (x>=0)) (R (Z (.bool (decide (x<=2147483648)))) w) (R (Z (.bool ae)) w)):=uj_ {N:=9,keep:=kp 0 [[0],[2]]} func370 (by kernel_rfl)
def vH:Mt:={N:=135,keep:=kp 0 [[0,1,2],[0,1,2,20],[0,1,2],[0,1,2,24],[0,1,2],[0,1,2,27],[6,7],[0,1,2,8],[0,1,2,8],[0,1,2,8,9],[0,1,2,8,9,10],[1,2,8,9,10,11],[2,8,9,10,11,12],[2,8,9,10,11,12,13],[2,8,9,10,11,13,14],[2,8,9,10,11,13,14,15],[2,8,9,10,11,13,14,15,16],[2,8,9,10,11,13,14,15,16,78],[2,8,9,10,11,13,14,15,16],[2,8,9,10,11,13,14,15,16],[2,8,9,10,11,13,14,15,16,85],[2,8,9,10,14,15,17],[2,8,9,10,14,15,17,18],[2,8,9,10,14,15,16,17,18],[2,8,9,10,14,15,16,17,18,113],[2,8,9,10,14,15,16,17,18],[2,8,9,10,14,15,16,17,18],[2,8,9,10,14,15,16,17,18,120],[6,7]],bQ:=[(6,(.range 8))],bk:=[(0,[2,8,9,10,11,13,14,15]),(1,[2,8,9,10,11,13,14,15,16]),(2,[2,8,14,15,17,18]),(3,[2,8,9,10,14,15,16,17,18])],bD:=[(3,[0,1,2]),(5,[0,1,2]),(21,[2,8,9,10,11,13,14,15]),(28,[2,8,14,15,17,18])],lk:=[(17,[2,8,9,10,11,13,14,15,16]),(24,[2,8,9,10,14,15,16,17,18])]}
def B3:=bc f394
def L3:=B3.sr.sr
def L4:=B3.sr.sr.sr
def UK:=B3.sr.sr.sr.sr.sr.sr.sr.sr.sr.sr.sr.sr.sr.sr.sr
def UL:=B3.sr.sr.sr.sr.sr.sr.sr.sr.sr.sr.sr.sr.sr.sr.sl.sl.sl
def Nh (x x1 x2:Int):Env:=[(0,SV.v (int .u64 x)),(1,SV.v (int .u64 x1)),(2,SV.v (int .u64 x2))]
def Ni (x x1 x2:Int):Env:=[(0,SV.v (int .u64 x)),(1,SV.v (int .u64 x1)),(2,SV.v (int .u64 x2))]
def VT (x x1 x2 x3 x4 x5 x6 a b:Int):Env:=[(2,SV.v (int .u64 x)),(8,SV.v (int .u64 x1)),(9,SV.v (int .u64 x2)),(10,SV.v (int .u64 x3)),(11,SV.v (int .u64 x4)),(13,SV.v (int .u64 x5)),(14,SV.v (int .u64 x6)),(15,SV.v (int .u64 a)),(16,SV.v (int .u64 b))]
def Pb (R:RT):=Rt f394 R
def Pc (R:RT):=Rt f394 R
def XN (R:RT):=aW 0 [2,8,9,10,11,13,14,15] (SQ vH UK (Rt f394 R) (Rt f394 R))
theorem ai2 {x x1 x2 w R}:Uj (Calls prog 394 #[int .u64 x,int .u64 x1,int .u64 x2] w R) (((x2==0)->∃v,w.cell? {block:=1,off:=0}=aa v/\False)/\((x2==0)=ae->aP prog vH L3 (Nh x x1 x2) w (Pb R))):=uj_ vH func394 (by kernel_rfl)
theorem adB (x x1 x2 w R):den prog vH L3 (Nh x x1 x2) w (Pb R)=
((decide (x2<=x)->∃v,w.cell? {block:=2,off:=0}=aa v/\False)/\(decide (x2<=x)=ae->aP prog vH L4 (Ni x x1 x2) w (Pc R))):=by kernel_rfl
theorem adC (x x1 x2 w R):den prog vH L4 (Ni x x1 x2) w (Pc R)=
(Fo (x==0) (Sm w λw'=>x2≠0/\x2≠0/\R (Z (aw #[int .u64 (wrap .u64 (iH x1 x2)),int .u64 (eO x1 x2)])) w') (Ci 405 [int .u64 x2] w λn w'=>0<=wrap .u64 n/\(0:Int)<=32/\0<=wrap .u64 n/\0<=wrap .u64 (64-wrap .u64 n)/\0<=wrap .u64 n/\(0:Int)<=32/\aU .u64 (fg .u64 x2 (wrap .u64 n)) (32:Int)≠0/\Cut (WP prog 135 (bj UL) (VT (fg .u64 x2 (wrap .u64 n)) (wrap .u64 n) (aU .u64 (fg .u64 x2 (wrap .u64 n)) 32) (aH aM .u64 (fg .u64 x2 (wrap .u64 n)) 4294967295) (aH rR .u64 (fg .u64 x (wrap .u64 n)) (aU .u64 x1 (wrap .u64 (64-wrap .u64 n)))) (aU .u64 (fg .u64 x1 (wrap .u64 n)) 32) (aH aM .u64 (fg .u64 x1 (wrap .u64 n)) 4294967295) (wrap .u64 (iH (aH rR .u64 (fg .u64 x (wrap .u64 n)) (aU .u64 x1 (wrap .u64 (64-wrap .u64 n)))) (aU .u64 (fg .u64 x2 (wrap .u64 n)) 32))) (wrap .u64 (aH rR .u64 (fg .u64 x (wrap .u64 n)) (aU .u64 x1 (wrap .u64 (64-wrap .u64 n)))-wrap .u64 (wrap .u64 (iH (aH rR .u64 (fg .u64 x (wrap .u64 n)) (aU .u64 x1 (wrap .u64 (64-wrap .u64 n)))) (aU .u64 (fg .u64 x2 (wrap .u64 n)) 32))*aU .u64 (fg .u64 x2 (wrap .u64 n)) 32)))) w' (XN R)))):=by kernel_rfl
end
end
section
open Value IntKind Ending World Addr Tryz
open Value renaming pointer→ab,slice→aj,tuple→aw,bool→o7
set_option maxRecDepth 100000
noncomputable section
theorem aeR {x w R}:Uj (Calls prog 109 #[I x] w R) (Cj 198 [I x] w λb w'=>Fo (!b) (R (Z (aw #[ab ag,I 2])) w') (rM w' λr w'=>aI w' [I x,map (aa r),N3,N3,N3,N3,N3,N3,N3,N3,N3,N3,N3,N3,N3,N3,N3,N3,N3,N3,N3,N3,N3,N3,N3,N3,N3,N3,N3,N3,N3,N3,N3,N3,N3,N3,N3,N3,N3,N3,N3,N3,N3,N3,N3,N3,N3,N3,N3,N3,N3,N3,N3,N3,N3,N3,N3,N3,N3,N3,N3,N3,N3,N3,N3,N3,N3,N3,N3,N3,N3,N3,N3,N3,N3,N3,N3,N3,N3,N3,N3,N3,N3,N3,N3,N3,N3,N3,N3,N3,N3,N3,N3,N3,N3,N3,N3,N3,N3,N3,N3,N3,N3,N3,N3,N3,N3,N3,N3,N3,N3,N3,N3,N3,N3,N3,N3,N3,N3,N3,N3,N3,N3,N3,N3,N3,N3,N3,N3,N3,N3,N3,N3,N3,N3,N3,N3,N3,N3,N3,N3,N3,N3,N3,N3,N3,N3,N3,N3,N3,N3,N3,N3,N3,N3,N3,N3,N3,N3,N3,N3,N3,N3,N3,N3,N3,N3,N3,N3,N3,N3] 289 λp w'=>R (Z (aw #[ab (aa p),I 0])) w')):=uj_ {N:=11,keep:=kp 0 [[0],[0,6],[2,3],[2,3]]} func109 (by kernel_rfl)
theorem agb {x w R}:Uj (Calls prog 198 #[I x] w R) (Fo (decide (x>=0)) (R (Z (.bool (decide (x<=1152921504606846976)))) w) (R (Z (.bool ae)) w)):=uj_ {N:=9,keep:=kp 0 [[0],[2]]} func198 (by kernel_rfl)
def vE:Mt:={N:=62,keep:=kp 0 [[0,1],[0,1,8],[4],[0,1,11],[4],[0,1,23],[4],[0,1,5],[0,1,5,6],[0,1,5,6,36,37],[0,1,5,6,36,37,38],[0,1,5,6,7,36,37],[0,1,5,6,36,37],[0,1,5,6,36,37],[0,1,6],[0,6],[],[4]],bk:=[(0,[0,1]),(1,[0,1,5,6]),(2,[0,1,5,6,36,37])],bD:=[(14,[0,1,5,6])],lk:=[(10,[0,1,5,6,36,37])]}
def K6:=bc f231
def FA:=K6.sr.sr.sr.sr.sr
def K7:=K6.sr.sr.sr.sr.sl.sr.sl.sl
def M9 (x:Option Addr) (x1 x2:Int) (x3:Option Addr) (x4 x5:Nat):Env:=[vP 0 x,vI 1 x1,vI 5 x2,vS 6 x3 x4 x5]
def Gs (x:Option Addr) (x1 x2:Int) (x3:Option Addr) (x4 x5:Nat) (x6 a:Int):Env:=[vP 0 x,vI 1 x1,vI 5 x2,vS 6 x3 x4 x5,vI 36 x6,vI 37 a]
def OH (R:RT):=Rt f231 R
def OI (R:RT):=aW 1 [0,1,5,6] (SQ vE FA (Rt f231 R) (Rt f231 R))
theorem agI {x x1 w R}:Uj (Calls prog 231 #[ab x,I x1] w R) (Fo x.isNone (R (Z (I 1)) w) (∃a,x=aa a/\∃n,w.cell? (a.add 0)=aa (I n)/\Fz (decide (x1<n)) (Call prog 198 [I x1] w λe w'=>∃b,e=Z (.bool b)/\Fo (!b) (R (Z (I 2)) w') (∃a,x=aa a/\∃n,w'.cell? (a.add 0)=aa (I n)/\Fo (x1==n) (R (Z (I 0)) w') (∃a,x=aa a/\∃n,w'.cell? (a.add 0)=aa (I n)/\Call prog 314 [I x1,I n] w' λe w'=>∃n,e=Z (I n)/\Cut (WP prog 62 (bj K7) (Gs x x1 n ag 0 0 n 0) w' (OI R))))) (R (Z (I 2)) w))):=uj_ vE func231 (by kernel_rfl)
theorem ac1 (x x1 x2 x3 x4 x5 w R):den prog vE FA (M9 x x1 x2 x3 x4 x5) w (OH R)=
(Call prog 316 [I x1,I x2] w λe w'=>∃n,e=Z (I n)/\Call prog 315 [ab x,I x2,I (wrap i64 (n+1))] w' λe w'=>∃p n c,e=Z (aj p n c)/\∃b d f g,aZ prog (bM #[36,36] 36 #[aj x3 x4 x5,aj p n c]) w'=a7 (aj b d f) g/\∃a,x=aa a/\Wr g (a.add 0) [I x1] λw'=>Call prog 317 [ab x,aj b d f] w' λe w'=>e=Z (aw #[])/\R (Z (I 0)) w'):=by kernel_rfl
theorem ac2 (x x1 x2 x3 x4 x5 x6 g w B R):den prog vE K7 (Gs x x1 x2 x3 x4 x5 x6 g) w (bd B (OI R))=
(Fo (decide (g<x6)) (Call prog 315 [ab x,I g,I 8] w λe w'=>∃p n c,e=Z (aj p n c)/\∃a b d f,aZ prog (bM #[36,36] 36 #[aj x3 x4 x5,aj p n c]) w'=a7 (aj a b d) f/\B [vP 0 x,vI 1 x1,vI 5 x2,vS 6 a b d,vI 36 x6,(37,SV.v (I (wrap i64 (g+1))))] f) (aP prog vE FA (M9 x x1 x2 x3 x4 x5) w (OH R))):=by kernel_rfl
theorem aeO {x x1 w R}:Uj (Calls prog 106 #[ab x,I x1] w R) (Fo x.isNone (R (Z (aw #[I 0,.bool ae])) w) (∃a,x=aa a/\∃r,w.cell? (a.add 1)=aa (map r)/\∃n b,aZ prog (dg 285 (map r) (I x1) ah) w=a7 (aw #[I n,.bool b]) w/\R (Z (aw #[I n,.bool b])) w)):=uj_ {N:=21,keep:=kp 0 [[0,1],[0,1,9],[4,5],[6,7],[4,5]]} func106 (by kernel_rfl)
theorem afX {x w R}:Uj (Calls prog 184 #[ab x] w R) (Fo x.isNone (R (Z (N3)) w) (∃a,x=aa a/\∃r,w.cell? (a.add 1)=aa (map r)/\Call prog 276 [map r] w λe w'=>∃v,e=Z v/\Cq 275 [v] w' λp n c w'=>Cq 274 [ab x,aj p n c] w' λp n c w'=>R (Z (aj p n c)) w')):=uj_ {N:=13,keep:=kp 0 [[0],[0,4],[2],[2]]} func184 (by kernel_rfl)
theorem ahm {x x1 x2 x3 w R}:Uj (Calls prog 274 #[ab x,aj x1 x2 x3] w R) (aI w [ab x] 181 λp w'=>Cq 190 [aj x1 x2 x3] w' λa n c w'=>Cn 342 [aj a n c,func (aS 343) #[] #[ab (aa p)]] w' λw'=>R (Z (aj a n c)) w'):=uj_ {N:=12,keep:=kp 0 [[1,2],[2,5],[5],[4]]} func274 (by kernel_rfl)
theorem ahB {x w R}:Uj (Calls prog 293 #[ab x] w R) (Fo x.isNone (R (Z (N3)) w) (∃a,x=aa a/\Lq w (a.add 170) λp n c=>Cq 274 [ab x,aj p n c] w λp n c w'=>R (Z (aj p n c)) w')):=uj_ {N:=11,keep:=kp 0 [[0],[0,4],[2],[2]]} func293 (by kernel_rfl)
theorem ahL {x w R}:Uj (Calls prog 303 #[ab x] w R) (Fo x.isNone (R (Z (aw #[I 0,I 1])) w) (∃a,x=aa a/\∃r,w.cell? (a.add 1)=aa (map r)/\∃(n:Nat),(∀(ty:TypeId),aZ prog (jY #[285] ty #[map r]) w=a7 (I (↑n:Int)) w)/\Fo ((↑n:Int)==0) (R (Z (aw #[I 0,I 12])) w) (Sm w λw'=>∃a,x=aa a/\∃r,w'.cell? (a.add 1)=aa (map r)/\Cq 362 [ab x] w' λp n c w'=>w'.cell? (a.add 1)=aa (map r)/\Cq 274 [ab x,aj p n c] w' λp n c w'=>w'.cell? (a.add 1)=aa (map r)/\((0:Int)<=0/\0<(↑n:Int))/\∃a,p=aa a/\Li w' (a.add 0) λn=>∃b,aZ prog (dg 285 (map r) (I n) ae) w'=a7 (I b) w'/\R (Z (aw #[I b,I 0])) w'))):=uj_ {N:=25,keep:=kp 0 [[0],[0,4],[2,3],[0,7],[2,3],[2,3]],bQ:=[(5,(.range 13))],bk:=[(0,[0])]} func303 (by kernel_rfl)
theorem ahW {x x1 w R}:Uj (Calls prog 314 #[I x,I x1] w R) (Ci 371 [int .u64 (wrap .u64 (aH BinOp.xor i64 x x1))] w λn w'=>(3:Int)≠0/\R (Z (I (wrap i64 (iH (wrap i64 (n-1)) 3)))) w'):=uj_ {N:=12,keep:=kp 0 [[0,1],[4]]} func314 (by kernel_rfl)
def Bd:Mt:={N:=33,keep:=kq 0 [(1,[0,1,2]),(1,[0,1,2,7]),(1,[0,1,7,10,11]),(1,[0,1,7,10,11,12]),(2,[0,1,7,8,10,11]),(2,[0,1,7,10,11]),(1,[6])],bk:=[(0,[7]),(1,[0,1,7,10,11])],lk:=[(3,[0,1,7,10,11])]}
def Lx:=bc f315
def Uy:=Lx.sr.sr.sr
def Ly:=Lx.sr.sr.sl.sr.sl.sl
def GC (x:Option Addr) (x1:Int) (x2:Option Addr) (x3 x4:Nat) (x5 x6:Int):Env:=[vP 0 x,vI 1 x1,vS 7 x2 x3 x4,vI 10 x5,vI 11 x6]
def OR (R:RT):=aW 0 [7] (SQ Bd Uy (Rt f315 R) (Rt f315 R))
theorem ahX {x x1 x2 w R}:Uj (Calls prog 315 #[ab x,I x1,I x2] w R) (∃n w',aZ prog (po #[3,3] 3 #[I x2,I 8]) w=a7 (I n) w'/\Cut (WP prog 33 (bj Ly) (GC x x1 ag 0 0 n 0) w' (OR R))):=uj_ Bd func315 (by kernel_rfl)
theorem adh (x x1 x2 x3 x4 x5 x6 w B R):den prog Bd Ly (GC x x1 x2 x3 x4 x5 x6) w (bd B (OR R))=
(Fo (decide (x6<x5)) (∃a,x=aa a/\(0<=x1/\x1<(↑21:Int))/\(0<=x6/\x6<(↑8:Int))/\∃p n c,w.cell? (add (add (a.add 2) (aG x1*8)) (aG x6*1))=aa (aj p n c)/\∃b d e w',aZ prog (bM #[36,36] 36 #[aj x2 x3 x4,aj p n c]) w=a7 (aj b d e) w'/\∃a,x=aa a/\(0<=x1/\x1<(↑21:Int))/\(0<=x6/\x6<(↑8:Int))/\Wr w' (add (add (a.add 2) (aG x1*8)) (aG x6*1)) [N3] λw'=>B [vP 0 x,vI 1 x1,vS 7 b d e,vI 10 x5,(11,SV.v (I (wrap i64 (x6+1))))] w') (R (Z (aj x2 x3 x4)) w)):=by kernel_rfl
theorem ahY {x x1 w R}:Uj (Calls prog 316 #[I x,I x1] w R) (0<=wrap i64 (3*x1)/\(8:Int)≠0/\R (Z (I (eO (aU i64 x (wrap i64 (3*x1))) 8))) w):=uj_ {N:=10,keep:=kp 0 [[0,1],[4]]} func316 (by kernel_rfl)
def ES:Mt:={N:=30,keep:=kp 0 [[0,7,8,9],[0,7,8,9,10],[0,5,7,8,9],[0,5,6,7,8,9],[0,7,8,9],[0,7,8,9]],bk:=[(0,[]),(1,[0,7,8,9])],lk:=[(1,[0,7,8,9])]}
def Uz:=bc f317
def Lz:=Uz.sr.sl.sl
def GD (x x1:Option Addr) (x2 x3:Nat) (x4 x5:Int):Env:=[vP 0 x,vS 7 x1 x2 x3,vI 8 x4,vI 9 x5]
def OS (R:RT):=aW 0 [] (Rt f317 R)
theorem ahZ {x x1 x2 x3 w R}:Uj (Calls prog 317 #[ab x,aj x1 x2 x3] w R) (Cut (WP prog 30 (bj Lz) (GD x x1 x2 x3 (↑x2:Int) 0) w (OS R))):=uj_ ES func317 (by kernel_rfl)
theorem adi (x x1 x2 x3 x4 x5 w B R):den prog ES Lz (GD x x1 x2 x3 x4 x5) w (bd B (OS R))=
(Fo (decide (x5<x4)) ((0<=x5/\x5<(↑x2:Int))/\∃a,x1=aa a/\Li w (add a (aG x5*1)) λn=>∃a,x=aa a/\∃r,w.cell? (a.add 1)=aa (map r)/\∃b,aZ prog (dg 285 (map r) (I n) ae) w=a7 (I b) w/\Cp 372 [ab x,I b] w λp w'=>∃a,p=aa a/\Lq w' a λd f c=>aI w' [I n] 3 λj w'=>∃g n h i,aZ prog (bM #[36,36] 36 #[aj d f c,aj (aa j) 1 1]) w'=a7 (aj g n h) i/\∃a,p=aa a/\Wr i a [aj g n h] λw'=>B [vP 0 x,vS 7 x1 x2 x3,vI 8 x4,(9,SV.v (I (wrap i64 (x5+1))))] w') (R (Z (aw #[])) w)):=by kernel_rfl
theorem ah4 {x x1 x2 w R}:Uj (Calls prog 322 #[ab x,I x1,I x2] w R) (Fo x.isNone (R (Z (I 1)) w) (∃a,x=aa a/\∃r,w.cell? (a.add 1)=aa (map r)/\∃n b,aZ prog (dg 285 (map r) (I x1) ah) w=a7 (aw #[I n,.bool b]) w/\Cj 198 [I x2] w λc w'=>Fo (!c) (R (Z (I 2)) w') (Fo b (R (Z (I 6)) w') (∃a,x=aa a/\∃r,w'.cell? (a.add 1)=aa (map r)/\∃d,aZ prog (gy 285 (map r) (I x1) (I x2)) w'=a7 () d/\aI d [I x1] 3 λp w'=>Cn 317 [ab x,aj (aa p) 1 1] w' λw'=>R (Z (I 0)) w')))):=uj_ {N:=36,keep:=kp 0 [[0,1,2],[0,1,2,10],[6],[0,1,2,8],[0,1,2,8,20],[6],[0,1,2,24],[6],[0,1],[],[6]],bk:=[(0,[0,1,2])]} func322 (by kernel_rfl)
theorem ah6 {x x1 w R}:Uj (Calls prog 324 #[ab x,I x1] w R) (aI w [I x1] 3 λp w'=>Fo x.isNone (R (Z (I 1)) w') (Sm w' λd=>∃a,x=aa a/\∃r,d.cell? (a.add 1)=aa (map r)/\∃n,d.cell? p=aa (I n)/\∃h b,aZ prog (dg 285 (map r) (I n) ah) d=a7 (aw #[I h,.bool b]) d/\Fo (!b) (R (Z (I 4)) d) (Call prog 372 [ab x,I h] d λe w'=>∃f,e=Z (ab f)/\∃a,f=aa a/\Lq w' a λi n c=>Cq 373 [aj i n c,func (aS 374) #[] #[ab (aa p)]] w' λj n c w'=>∃a,f=aa a/\Wr w' a [aj j n c] λw'=>Sm w' λg=>∃a,x=aa a/\∃r,g.cell? (a.add 1)=aa (map r)/\∃n,g.cell? p=aa (I n)/\∃w',aZ prog (gW #[285,3] 0 #[map r,I n]) g=a7 (aw #[]) w'/\R (Z (I 0)) w'))):=uj_ {N:=36,keep:=kp 0 [[0,3],[0,3,9],[4],[0,3,5,6],[0,3,5,20],[4],[0,3,7],[0,3],[],[4]],bQ:=[(3,(.range 11)),(8,(.range 6))]} func324 (by kernel_rfl)
theorem aiK {x x1 w R}:Uj (Calls prog 372 #[ab x,I x1] w R) (∃a,x=aa a/\Li w (a.add 0) λn=>Fo (decide (x1<=n)) (∃a,x=aa a/\R (Z (ab (aa (a.add 170)))) w) (∃a,x=aa a/\Li w (a.add 0) λn=>Ci 314 [I x1,I n] w λn w'=>Sm w' λc=>∃a,x=aa a/\(0<=n/\n<(↑21:Int))/\Call prog 316 [I x1,I n] c λe w'=>∃b,e=Z (I b)/\(0<=b/\b<(↑8:Int))/\R (Z (ab (aa (add (add (a.add 2) (aG n*8)) (aG b*1))))) w')):=uj_ {N:=30,keep:=kp 0 [[0,1],[0,1,11],[4],[0,1,5],[4]],bQ:=[(4,[0,1,2,3,5,6,7,4,8,9])]} func372 (by kernel_rfl)
theorem aiL {x x1 w R}:Uj (Calls prog 374 #[I x,ab (aa x1)] w R) (Li w x1 λn=>R (Z (.bool (x==n))) w):=uj_ {N:=7,keep:=kp 0 [[0,1],[3]]} func374 (by kernel_rfl)
def Bk:Mt:={N:=48,keep:=kp 0 [[0],[0,14],[2,3],[0,4,5],[0,4,5,20],[2,3],[0,6],[6,26,27],[6,26,27,28],[6,7,8,26,27],[6,7,8,26,27,34],[2,3],[6,26,27],[6,26,27],[2,3]],bk:=[(0,[6]),(1,[6,26,27])],lk:=[(8,[6,26,27])]}
def LV:=bc f38
def UJ:=LV.sr.sr.sr.sr.sr.sr
def L2:=LV.sr.sr.sr.sr.sr.sl.sr.sl.sl
def GO (x:Option Addr) (x1 x2:Int):Env:=[vP 6 x,vI 26 x1,vI 27 x2]
def Pa (R:RT):=aW 0 [6] (SQ Bk UJ (Rt f38 R) (Rt f38 R))
theorem u38 {x w R}:Uj (Calls prog 38 #[I x] w R) (Fz (decide (x<1)) (Fo (decide (x>64)) (R (Z (aw #[ab ag,I 2])) w) (Call prog 107 [I 48] w λe w'=>∃p n,e=Z (aw #[ab p,I n])/\Fo (n !=0) (R (Z (aw #[ab ag,I n])) w') (rM w' λr w'=>aI w' [ab p,N3,map (aa r)] 185 λp w'=>Cut (WP prog 48 (bj L2) (GO (aa p) x 0) w' (Pa R))))) (R (Z (aw #[ab ag,I 2])) w)):=uj_ Bk func38 (by kernel_rfl)
theorem adA (x x1 x2 w B R):den prog Bk L2 (GO x x1 x2) w (bd B (Pa R))=
(Fo (decide (x2<x1)) (Call prog 109 [I 0] w λe w'=>∃p n,e=Z (aw #[ab p,I n])/\Fo (n !=0) (R (Z (aw #[ab ag,I n])) w') (∃a,x=aa a/\Lq w' (a.add 1) λb n c=>aI w' [ab p] 181 λp w'=>∃d f g h,aZ prog (bM #[183,183] 183 #[aj b n c,aj (aa p) 1 1]) w'=a7 (aj d f g) h/\∃a,x=aa a/\Wr h (a.add 1) [aj d f g] λw'=>B [vP 6 x,vI 26 x1,(27,SV.v (I (wrap i64 (x2+1))))] w')) (R (Z (aw #[ab x,I 0])) w)):=by kernel_rfl
theorem u31 {x x1 w R}:Uj (Calls prog 31 #[ab x,I x1] w R) (Call prog 105 [ab x,I x1] w λe w'=>∃n b,e=Z (aw #[I n,.bool b])/\Fo (!b) (R (Z (aw #[I 0,.bool ae])) w') (∃a,x=aa a/\Lq w' (a.add 1) λp d c=>(0<=n/\n<(↑d:Int))/\∃a,p=aa a/\Lp w' (add a (aG n*1)) λp=>Call prog 106 [ab p,I x1] w' λe w'=>∃n b,e=Z (aw #[I n,.bool b])/\R (Z (aw #[I n,.bool b])) w')):=uj_ {N:=27,keep:=kp 0 [[0,1],[0,1,6,7],[0,1,6,15],[4,5],[4,5]]} func31 (by kernel_rfl)
theorem u89 {x x1 w R}:Uj (Calls prog 89 #[ab x,I x1] w R) (aI w [I x1] 3 λp w'=>Ci 183 [ab x,aj (aa p) 1 1] w' λn w'=>Fo (n !=0) (R (Z (N3)) w') (∃a,x=aa a/\Lq w' (a.add 1) λp n c=>(0<=x1/\x1<(↑n:Int))/\∃a,p=aa a/\Lp w' (add a (aG x1*1)) λp=>Cq 184 [ab p] w' λp n c w'=>R (Z (aj p n c)) w')):=uj_ {N:=18,keep:=kp 0 [[0,1],[0,1,9],[4],[4]]} func89 (by kernel_rfl)
theorem aeN {x x1 w R}:Uj (Calls prog 105 #[ab x,I x1] w R) (Fo x.isNone (R (Z (aw #[I 0,.bool ae])) w) (∃a,x=aa a/\∃r,w.cell? (a.add 2)=aa (map r)/\∃n b,aZ prog (dg 78 (map r) (I x1) ah) w=a7 (aw #[I n,.bool b]) w/\R (Z (aw #[I n,.bool b])) w)):=uj_ {N:=21,keep:=kp 0 [[0,1],[0,1,9],[4,5],[6,7],[4,5]]} func105 (by kernel_rfl)
def AW:Mt:={N:=28,keep:=kp 0 [[0,1],[0,1,5],[0,1,5,12],[4],[0,1,6],[1,6,17,18,19],[1,6,17,18,19,20],[1,8,17,18,19],[1,6,17,18,19],[1,6,17,18,19],[4]],bk:=[(0,[6]),(1,[1,6,17,18,19])],lk:=[(6,[1,6,17,18,19])]}
def Kr:=bc f124
def T5:=Kr.sr.sr.sr.sr
def Ks:=Kr.sr.sr.sr.sl.sr.sl.sl
def Gf (x x1:Int) (x2:Option Addr) (x3 x4:Nat) (x5 x6:Int):Env:=[vI 1 x,vI 6 x1,vS 17 x2 x3 x4,vI 18 x5,vI 19 x6]
def Ot (R:RT):=aW 0 [6] (SQ AW T5 (Rt f124 R) (Rt f124 R))
theorem ae6 {x x1 w R}:Uj (Calls prog 124 #[ab x,I x1] w R) (Ci 183 [ab x,N3] w λn w'=>Fo (n !=0) (R (Z (I n)) w') (∃a,x=aa a/\Lq w' (a.add 1) λp n c=>Cut (WP prog 28 (bj Ks) (Gf x1 0 p n c (↑n:Int) 0) w' (Ot R)))):=uj_ AW func124 (by kernel_rfl)
theorem acF (x x1 x2 x3 x4 x5 x6 w B R):den prog AW Ks (Gf x x1 x2 x3 x4 x5 x6) w (bd B (Ot R))=
(Fo (decide (x6<x5)) ((0<=x6/\x6<(↑x3:Int))/\∃a,x2=aa a/\Lp w (add a (aG x6*1)) λp=>Ci 231 [ab p,I x] w λn w'=>B [vI 1 x,vI 6 n,vS 17 x2 x3 x4,vI 18 x5,(19,SV.v (I (wrap i64 (x6+1))))] w') (R (Z (I x1)) w)):=by kernel_rfl
def A3:Mt:={N:=27,keep:=kp 0 [[0,1],[0,1,8],[4],[0,9,10,11],[0,9,10,11,12],[0,6,9,10,11],[0,9,10,11,25],[4],[0,9,10,11],[4]],bk:=[(0,[]),(1,[0,9,10,11])],lk:=[(4,[0,9,10,11])]}
def KH:=bc f183
def Ui:=KH.sr.sr.sr
def KJ:=KH.sr.sr.sl.sr.sl.sl
def Gk (x x1:Option Addr) (x2 x3:Nat) (x4 x5:Int):Env:=[vP 0 x,vS 9 x1 x2 x3,vI 10 x4,vI 11 x5]
def Oz (R:RT):=aW 0 [] (SQ A3 Ui (Rt f183 R) (Rt f183 R))
theorem afW {x x1 x2 x3 w R}:Uj (Calls prog 183 #[ab x,aj x1 x2 x3] w R) (Fo x.isNone (R (Z (I 1)) w) (Cut (WP prog 27 (bj KJ) (Gk x x1 x2 x3 (↑x2:Int) 0) w (Oz R)))):=uj_ A3 func183 (by kernel_rfl)
theorem acP (x x1 x2 x3 x4 x5 w B R):den prog A3 KJ (Gk x x1 x2 x3 x4 x5) w (bd B (Oz R))=
(Fo (decide (x5<x4)) ((0<=x5/\x5<(↑x2:Int))/\∃a,x1=aa a/\Li w (add a (aG x5*1)) λn=>Fz (decide (n<0)) (∃a,x=aa a/\Lq w (a.add 1) λp b c=>Fo (decide (n>=(↑b:Int))) (R (Z (I 3)) w) (B [vP 0 x,vS 9 x1 x2 x3,vI 10 x4,(11,SV.v (I (wrap i64 (x5+1))))] w)) (R (Z (I 3)) w)) (R (Z (I 0)) w)):=by kernel_rfl
theorem agi {x x1 w R}:Uj (Calls prog 205 #[ab x,I x1] w R) (aI w [I x1] 3 λp w'=>Ci 183 [ab x,aj (aa p) 1 1] w' λn w'=>Fo (n==0) (∃a,x=aa a/\Lq w' (a.add 1) λp n c=>(0<=x1/\x1<(↑n:Int))/\∃a,p=aa a/\Lp w' (add a (aG x1*1)) λp=>Cq 293 [ab p] w' λp n c w'=>R (Z (.bool (decide ((↑n:Int)>0)))) w') (R (Z (.bool ae)) w')):=uj_ {N:=22,keep:=kp 0 [[0,1],[4]]} func205 (by kernel_rfl)
theorem agr {x x1 w R}:Uj (Calls prog 214 #[ab x,I x1] w R) (aI w [I x1] 3 λp w'=>Ci 183 [ab x,aj (aa p) 1 1] w' λn w'=>Fo (n !=0) (R (Z (aw #[I 0,I n])) w') (∃a,x=aa a/\Lq w' (a.add 1) λp n c=>(0<=x1/\x1<(↑n:Int))/\∃a,p=aa a/\Lp w' (add a (aG x1*1)) λp=>Ct 303 [ab p] w' λn b w'=>R (Z (aw #[I n,I b])) w')):=uj_ {N:=24,keep:=kp 0 [[0,1],[0,1,6],[0,1,6,12],[4,5],[4,5]]} func214 (by kernel_rfl)
theorem agR {x x1 x2 w R}:Uj (Calls prog 240 #[ab x,I x1,I x2] w R) (aI w [I x1] 3 λp w'=>Ci 183 [ab x,aj (aa p) 1 1] w' λn w'=>Fo (n !=0) (R (Z (aw #[I 0,I n])) w') (Fz (decide (x2<0)) (Fo (decide (x2>1152921504606846976)) (R (Z (aw #[I 0,I 2])) w') (∃a,x=aa a/\Lp w' (a.add 0) λp=>Ct 149 [ab p] w' λn b w'=>Fo (b !=0) (R (Z (aw #[I 0,I b])) w') (∃a,x=aa a/\∃r,w'.cell? (a.add 2)=aa (map r)/\∃d,aZ prog (gy 78 (map r) (I n) (I x1)) w'=a7 () d/\∃a,x=aa a/\∃p f c,d.cell? (a.add 1)=aa (aj p f c)/\(0<=x1/\x1<(↑f:Int))/\∃a,p=aa a/\∃p,d.cell? (add a (aG x1*1))=aa (ab p)/\Call prog 322 [ab p,I n,I x2] d λe w'=>∃g,e=Z (I g)/\R (Z (aw #[I n,I g])) w'))) (R (Z (aw #[I 0,I 2])) w'))):=uj_ {N:=52,keep:=kp 0 [[0,1,2],[0,1,2,8],[0,1,2,8,16],[6,7],[0,1,2,23],[6,7],[0,1,2,9,10],[0,1,2,9,10,33],[6,7],[0,1,2,9],[6,7]]} func240 (by kernel_rfl)
theorem agV {x x1 w R}:Uj (Calls prog 244 #[ab x,I x1] w R) (Call prog 105 [ab x,I x1] w λe w'=>∃n b,e=Z (aw #[I n,.bool b])/\Fo x.isNone (R (Z (I 1)) w') (Fo (!b) (R (Z (I 4)) w') (∃a,x=aa a/\∃r,w'.cell? (a.add 2)=aa (map r)/\∃d,aZ prog (gW #[78,3] 0 #[map r,I x1]) w'=a7 (aw #[]) d/\∃a,x=aa a/\∃p,d.cell? (a.add 0)=aa (ab p)/\Call prog 305 [ab p,I x1] d λe w'=>∃g,e=Z (I g)/\∃a,x=aa a/\Lq w' (a.add 1) λp f c=>(0<=n/\n<(↑f:Int))/\∃a,p=aa a/\Lp w' (add a (aG n*1)) λp=>Ci 324 [ab p,I x1] w' λn w'=>R (Z (I n)) w'))):=uj_ {N:=39,keep:=kp 0 [[0,1],[0,1,5,6],[0,1,5,6,13],[4],[0,1,5,16],[4],[0,1,5],[0,1,5],[4]],bk:=[(0,[0,1,5])]} func244 (by kernel_rfl)
theorem ahO {x x1 w R}:Uj (Calls prog 306 #[ab x,I x1] w R) (aI w [I x1] 3 λp w'=>Ci 183 [ab x,aj (aa p) 1 1] w' λn w'=>Fo (n !=0) (R (Z (aw #[I 0,I n])) w') (∃a,x=aa a/\Lq w' (a.add 1) λp n c=>(0<=x1/\x1<(↑n:Int))/\∃a,p=aa a/\Lp w' (add a (aG x1*1)) λp=>Cq 293 [ab p] w' λp n c w'=>Fo ((↑n:Int)==0) (R (Z (aw #[I 0,I 12])) w') (Sm w' λb=>((0:Int)<=0/\0<(↑n:Int))/\∃a,p=aa a/\∃d,b.cell? (a.add 0)=aa (I d)/\((0:Int)<=0/\0<(↑n:Int))/\∃f,p=aa f/\∃n,b.cell? (f.add 0)=aa (I n)/\Call prog 244 [ab x,I n] b λe w'=>∃n,e=Z (I n)/\w'.cell? (a.add 0)=aa (I d)/\R (Z (aw #[I d,I n])) w'))):=uj_ {N:=34,keep:=kp 0 [[0,1],[0,1,6],[0,1,6,13],[4,5],[0,7],[0,7,25],[4,5],[4,5]],bQ:=[(7,(.range 10))]} func306 (by kernel_rfl)
theorem aiw {x x1 x2 w R}:Uj (Calls prog 357 #[ab x,I x1,I x2] w R) (aI w [I x1,I x2] 3 λp w'=>Ci 183 [ab x,aj (aa p) 2 2] w' λn w'=>Fo (n !=0) (R (Z (aw #[I 0,I n])) w') (Cq 89 [ab x,I x1] w' λp n c w'=>Fo (x1==x2) (R (Z (aw #[I 0,I 2])) w') (Fo ((↑n:Int)==0) (R (Z (aw #[I 0,I 12])) w') (((0:Int)<=0/\0<(↑n:Int))/\∃a,p=aa a/\Li w' (a.add 0) λn=>Call prog 31 [ab x,I n] w' λe w'=>∃f b,e=Z (aw #[I f,.bool b])/\∃a,x=aa a/\Lq w' (a.add 1) λp g c=>(0<=x1/\x1<(↑g:Int))/\∃a,p=aa a/\Lp w' (add a (aG x1*1)) λp=>Ci 324 [ab p,I n] w' λj w'=>∃a,x=aa a/\∃r,w'.cell? (a.add 2)=aa (map r)/\∃d,aZ prog (gy 78 (map r) (I n) (I x2)) w'=a7 () d/\∃a,x=aa a/\∃p h c,d.cell? (a.add 1)=aa (aj p h c)/\(0<=x2/\x2<(↑h:Int))/\∃a,p=aa a/\∃p,d.cell? (add a (aG x2*1))=aa (ab p)/\Call prog 322 [ab p,I n,I f] d λe w'=>∃i,e=Z (I i)/\R (Z (aw #[I n,I i])) w')))):=uj_ {N:=67,keep:=kp 0 [[0,1,2],[0,1,2,8],[0,1,2,8,19],[6,7],[0,1,2,9],[0,1,2,9,24],[6,7],[0,1,2,9,28],[6,7],[0,1,2,10],[0,1,2,10,11],[0,2,10,11],[0,2,10,11],[6,7]],bk:=[(0,[0,1,2,9])]} func357 (by kernel_rfl)
def rK:Mt:={N:=25,keep:=kp 0 [[0,2],[0,2,4],[0],[0,2],[0,2,8],[0,2],[0,2],[0,2,14],[0,2],[0,2],[2]],bD:=[(4,[0,2]),(7,[0,2])]}
def LP:=bc f371
def BZ:=LP.sr.sr
def B2:=LP.sr.sr.sr
def CA (x x1:Int):Env:=[(0,SV.v (int .u64 x)),vI 2 x1]
def CB (x x1:Int):Env:=[(0,SV.v (int .u64 x)),vI 2 x1]
def Db (R:RT):=Rt f371 R
def Dc (R:RT):=Rt f371 R
theorem aiJ {x w R}:Uj (Calls prog 371 #[int .u64 x] w R) (Fo (decide (x>=4294967296)) ((0:Int)<=32/\aP prog rK BZ (CA (aU .u64 x 32) 32) w (Db R)) (aP prog rK BZ (CA x 0) w (Db R))):=uj_ rK func371 (by kernel_rfl)
theorem adu (x x1 w R):den prog rK BZ (CA x x1) w (Db R)=
(Fo (decide (x>=65536)) ((0:Int)<=16/\aP prog rK B2 (CB (aU .u64 x 16) (wrap i64 (x1+16))) w (Dc R)) (aP prog rK B2 (CB x x1) w (Dc R))):=by kernel_rfl
theorem adv (x x1 w R):den prog rK B2 (CB x x1) w (Dc R)=
(Fo (decide (x>=256)) ((0:Int)<=8/\(0<=wrap cu (aU .u64 x 8)/\wrap cu (aU .u64 x 8)<(↑256:Int))/\∃c,(∃u,(ByteArray.mk #[0,1,2,2,3,3,3,3,4,4,4,4,4,4,4,4,5,5,5,5,5,5,5,5,5,5,5,5,5,5,5,5,6,6,6,6,6,6,6,6,6,6,6,6,6,6,6,6,6,6,6,6,6,6,6,6,6,6,6,6,6,6,6,6,7,7,7,7,7,7,7,7,7,7,7,7,7,7,7,7,7,7,7,7,7,7,7,7,7,7,7,7,7,7,7,7,7,7,7,7,7,7,7,7,7,7,7,7,7,7,7,7,7,7,7,7,7,7,7,7,7,7,7,7,7,7,7,7,8,8,8,8,8,8,8,8,8,8,8,8,8,8,8,8,8,8,8,8,8,8,8,8,8,8,8,8,8,8,8,8,8,8,8,8,8,8,8,8,8,8,8,8,8,8,8,8,8,8,8,8,8,8,8,8,8,8,8,8,8,8,8,8,8,8,8,8,8,8,8,8,8,8,8,8,8,8,8,8,8,8,8,8,8,8,8,8,8,8,8,8,8,8,8,8,8,8,8,8,8,8,8,8,8,8,8,8,8,8,8,8,8,8,8,8,8,8,8,8,8,8,8,8,8,8,8,8])[aG (wrap cu (aU .u64 x 8))]?=aa u/\(↑(UInt8.toNat u):Int)=c)/\R (Z (I (wrap i64 (wrap i64 (x1+8)+wrap i64 c)))) w) ((0<=wrap cu x/\wrap cu x<(↑256:Int))/\∃c,(∃u,(ByteArray.mk #[0,1,2,2,3,3,3,3,4,4,4,4,4,4,4,4,5,5,5,5,5,5,5,5,5,5,5,5,5,5,5,5,6,6,6,6,6,6,6,6,6,6,6,6,6,6,6,6,6,6,6,6,6,6,6,6,6,6,6,6,6,6,6,6,7,7,7,7,7,7,7,7,7,7,7,7,7,7,7,7,7,7,7,7,7,7,7,7,7,7,7,7,7,7,7,7,7,7,7,7,7,7,7,7,7,7,7,7,7,7,7,7,7,7,7,7,7,7,7,7,7,7,7,7,7,7,7,7,8,8,8,8,8,8,8,8,8,8,8,8,8,8,8,8,8,8,8,8,8,8,8,8,8,8,8,8,8,8,8,8,8,8,8,8,8,8,8,8,8,8,8,8,8,8,8,8,8,8,8,8,8,8,8,8,8,8,8,8,8,8,8,8,8,8,8,8,8,8,8,8,8,8,8,8,8,8,8,8,8,8,8,8,8,8,8,8,8,8,8,8,8,8,8,8,8,8,8,8,8,8,8,8,8,8,8,8,8,8,8,8,8,8,8,8,8,8,8,8,8,8,8,8,8,8,8,8])[aG (wrap cu x)]?=aa u/\(↑(UInt8.toNat u):Int)=c)/\R (Z (I (wrap i64 (x1+wrap i64 c)))) w)):=by kernel_rfl
end
end
end Go.Dav
