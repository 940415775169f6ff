/- What functions of the program come to, part 3; the texts are made small to keep within a claim. -/
import Derived.Laws.MathBits
import Derived.Lib.LaidTab
import Derived.Deep.OwnRows
import Derived.MapKept
import Derived.RangeFuncKeeps
import Derived.RangeFuncLeaves
import Derived.RangeFuncFrom
import Derived.Shelf.Abstract
import Derived.WalkKit
import Derived.OwnWalkIn
import Derived.TacticsInMore
import Derived.LoopNIn
import Derived.LoopIn
import Derived.Stop.RegionWithIn
import Derived.Test.YtobclpijhmkniaaGreatDoorPartB
set_option linter.unusedVariables false
set_option linter.unusedSimpArgs false
set_option linter.unusedSectionVars false
namespace Go.Dav
theorem byte_at {data:Array UInt8} (f:Nat->Nat) (h:(data.toList.map UInt8.toNat==(List.range 256).map f)=true) {x:Nat} (hx:x<256):∃u,(ByteArray.mk data)[x]?=some u/\((UInt8.toNat u:Nat):Int)=(f x:Int):=by
 have h:=eq_of_beq h
 have hs:data.size=256:=by
  have:=congrArg List.length h
  simpa using this
 have hx':x<(ByteArray.mk data).size:=by show x<data.size;omega
 refine⟨data[x]'(by omega),?_,?_⟩
 ·rw[getElem?_pos (ByteArray.mk data) x hx']
  rfl
 ·have h1:(data.toList.map UInt8.toNat)[x]?=((List.range 256).map f)[x]?:=by rw[h]
  simp[hx,hs]at h1
  exact congrArg Int.ofNat h1
end Go.Dav
namespace Go.Dav
open Go.Proofs
def Tab (w:World):Prop:=Cells w (some ⟨0,0,none⟩) (dbt.map (fun(z:Nat)=>Value.int .u8 (z:Int)))
theorem Tab.no {w w':World} (h:Tab w) (k:Upd no w w'):Tab w':=Cells.no h k
theorem tabG:Tryz.prog.globalNamed "math/bits.deBruijn64tab" = some 0:=by kernel_rfl
theorem tabT:(Tryz.prog.globals[0]?).map (·.type)=some 380:=by kernel_rfl
theorem tabU:Tryz.prog.underlying 380=some (.array 64 5):=by kernel_rfl
theorem tabE:Tryz.prog.underlying 5=some (.int .u8):=by kernel_rfl
def dbz:List Int:=dbt.map (fun(z:Nat)=>(z:Int))
theorem tab_ok {W:World} (h:laidMet Tryz.prog [("math/bits.deBruijn64tab",Lib.tabData .u8 dbz)] W):Tab W:=by
 have hT:=Lib.tabIs_of_head tabG tabT tabU tabE (by kernel_rfl) (by kernel_rfl) h
 intro j v hj
 refine⟨_,rfl,?_⟩
 rw[add_lit,Nat.zero_add]
 rw[List.getElem?_map]at hj
 obtain⟨z,hz,rfl⟩:=Option.map_eq_some_iff.1 hj
 have hl:j<dbt.length:=(List.getElem?_eq_some_iff.1 hz).1
 rw[hT.cell tabG j (by simpa [dbz]using hl)]
 have e:dbz.getD j 0=(z:Int):=by simp[dbz,List.getD_eq_getElem?_getD,hz]
 rw[e]
theorem tz_ok (m:BV) {w:World} (hT:Tab w):Calls Tryz.prog 253 #[.int .u64 (mi m)] w fun e w'=>e=.returned (.int .i64 (tz m))/\w'=w:=by
 refine u253 ?_
 rw[t253]
 refine⟨fun g=>?_,fun g=>⟨by decide,?_⟩⟩
 ·rw[mi_beq0]at g
  have:m=0:=by simpa using g
  subst this
  exact⟨by rw[tz_zero],rfl⟩
 ·rw[mi_beq0]at g
  have hm:m≠0:=by simpa using g
  obtain⟨k,hk,h1,h2⟩:=low_ex hm
  rw[neg_wrap,bits_and,low_neg hk h1 h2]
  obtain⟨d1,d2,d3⟩:=dbp_ok k hk
  unfold dbp at d1 d2 d3
  rw[tz_low hk h1 h2]
  generalize shrOp .u64 (IntKind.wrap .u64 (mi (bt k)*285870213051353865)) 58=ix at *
  have hl:ix.toNat<dbt.length:=(List.getElem?_eq_some_iff.1 d3).1
  obtain⟨a,ha,hc⟩:=hT.at1 hl
  cases ha
  have:dbt[ix.toNat]=k:=by rw[List.getElem?_eq_getElem hl]at d3;exact Option.some.inj d3
  rw[this]at hc
  exact⟨⟨d1,d2⟩,_,hc,by rw[w64 (by omega)],rfl⟩
def oA (x:Int):Int:=IntKind.wrap .u64 (bitsOp .and .u64 (shrOp .u64 x 1) 6148914691236517205+bitsOp .and .u64 x 6148914691236517205)
def oB (x:Int):Int:=IntKind.wrap .u64 (bitsOp .and .u64 (shrOp .u64 x 2) 3689348814741910323+bitsOp .and .u64 x 3689348814741910323)
def oC (x:Int):Int:=bitsOp .and .u64 (IntKind.wrap .u64 (shrOp .u64 x 4+x)) 1085102592571150095
def oD (x:Int):Int:=IntKind.wrap .u64 (x+shrOp .u64 x 8)
def oE (x:Int):Int:=IntKind.wrap .u64 (x+shrOp .u64 x 16)
def oF (x:Int):Int:=IntKind.wrap .u64 (x+shrOp .u64 x 32)
def oG (x:Int):Int:=bitsOp .and .i64 (IntKind.wrap .i64 x) 127
theorem and127 {x:Nat} (h:x<18446744073709551616):oG (x:Int)=((x%128:Nat):Int):=by
 unfold oG
 have e1:BitVec.ofInt 64 (IntKind.wrap .i64 (x:Int))=BitVec.ofNat 64 x:=by
  apply BitVec.eq_of_toNat_eq
  rw[BitVec.toNat_ofInt,BitVec.toNat_ofNat]
  have:IntKind.wrap .i64 (x:Int)=if(x:Int)<9223372036854775808 then(x:Int)else(x:Int)-18446744073709551616:=by
   unfold IntKind.wrap
   simp only[IntKind.bits,IntKind.signed,Bool.true_and]
   split<;>split<;>simp_all<;>omega
  rw[this]
  split<;>omega
 show IntKind.wrap .i64 ((BitVec.ofInt 64 (IntKind.wrap .i64 (x:Int))&&& BitVec.ofInt 64 127).toNat:Int)=_
 rw[e1]
 have e2:BitVec.ofInt 64 127=BitVec.ofNat 64 127:=rfl
 rw[e2,BitVec.toNat_and,BitVec.toNat_ofNat,BitVec.toNat_ofNat,Nat.mod_eq_of_lt h]
 have e3:x&&& (127%2 ^ 64)=x%128:=Nat.and_two_pow_sub_one_eq_mod x 7
 rw[e3,w64 (by omega)]
theorem oc_val (m:BV):oG (oF (oE (oD (oC (oB (oA (mi m)))))))=((cs m).length:Int):=by
 have hx:m.toNat<2 ^ 64:=m.isLt
 obtain⟨x,hxe⟩:∃x,x=m.toNat:=⟨_,rfl⟩
 rw[cs_pc,show(mi m)=((x:Nat):Int) by rw[hxe];rfl,<-hxe]
 rw[<-hxe]at hx
 clear hxe
 have r1:rep8 85 8=6148914691236517205:=by decide +kernel
 have r2:rep8 51 8=3689348814741910323:=by decide +kernel
 have r3:rep8 15 8=1085102592571150095:=by decide +kernel
 have hb:=abc_val (bytes8 8 x) (bytes_lt 8 x)
 rw[bytes_len,val_bytes 8 x (by omega),r1,r2,r3]at hb
 have a1:x/2&&& 6148914691236517205<2 ^ 63:=Nat.and_lt_two_pow _ (by omega)
 have a2:x&&& 6148914691236517205<2 ^ 63:=Nat.and_lt_two_pow _ (by omega)
 have eA:oA (x:Int)=((sA x 6148914691236517205:Nat):Int):=by
  unfold oA sA
  rw[show(1:Int)=((1:Nat):Int)from rfl,shrN (d:=2) x (by omega) rfl,show(6148914691236517205:Int)=((6148914691236517205:Nat):Int)from rfl,andN (by omega) (by omega),andN (by omega) (by omega),addN (by omega)]
 have hA:sA x 6148914691236517205<2 ^ 64:=by unfold sA;omega
 rw[eA]
 generalize sA x 6148914691236517205=y at *
 have b1:y/4&&& 3689348814741910323<2 ^ 62:=Nat.and_lt_two_pow _ (by omega)
 have b2:y&&& 3689348814741910323<2 ^ 62:=Nat.and_lt_two_pow _ (by omega)
 have eB:oB (y:Int)=((sB y 3689348814741910323:Nat):Int):=by
  unfold oB sB
  rw[show(2:Int)=((2:Nat):Int)from rfl,shrN (d:=4) y (by omega) rfl,show(3689348814741910323:Int)=((3689348814741910323:Nat):Int)from rfl,andN (by omega) (by omega),andN (by omega) (by omega),addN (by omega)]
 have hB:sB y 3689348814741910323<2 ^ 63:=by unfold sB;omega
 rw[eB]
 generalize sB y 3689348814741910323=z at *
 have eC:oC (z:Int)=((sC z 1085102592571150095:Nat):Int):=by
  unfold oC sC
  rw[show(4:Int)=((4:Nat):Int)from rfl,shrN (d:=16) z (by omega) rfl,addN (by omega),show(1085102592571150095:Int)=((1085102592571150095:Nat):Int)from rfl,andN (by omega) (by omega)]
 rw[eC,hb,pc_bytes 8 x]
 have hl:=bytes_len 8 x
 have hlt:=bytes_lt 8 x
 generalize bytes8 8 x=l at *
 match l,hl,hlt with
 | [c0,c1,c2,c3,c4,c5,c6,c7],_,hlt=>
  have q:∀c∈[c0,c1,c2,c3,c4,c5,c6,c7],pcN 8 c<=8:=fun c hc=>(abc_byte c (hlt c hc)).2.2.2
  simp only[List.map_cons,List.map_nil,List.sum_cons,List.sum_nil]
  generalize hy:val8 [pcN 8 c0,pcN 8 c1,pcN 8 c2,pcN 8 c3,pcN 8 c4,pcN 8 c5,pcN 8 c6,pcN 8 c7]=v
  obtain⟨f1,f2,f3,f4⟩:=fold8 (pcN 8 c0) (pcN 8 c1) (pcN 8 c2) (pcN 8 c3) (pcN 8 c4) (pcN 8 c5) (pcN 8 c6) (pcN 8 c7) (q _ (by simp)) (q _ (by simp)) (q _ (by simp)) (q _ (by simp)) (q _ (by simp)) (q _ (by simp)) (q _ (by simp)) (q _ (by simp)) hy.symm rfl rfl rfl
  have eD:oD (v:Int)=((v+v/256:Nat):Int):=by
   unfold oD
   rw[show(8:Int)=((8:Nat):Int)from rfl,shrN (d:=256) v (by omega) rfl,addN (by omega)]
  have eE:∀v:Nat,v+v/65536<18446744073709551616->oE (v:Int)=((v+v/65536:Nat):Int):=fun v h=>by
   unfold oE
   rw[show(16:Int)=((16:Nat):Int)from rfl,shrN (d:=65536) v (by omega) rfl,addN (by omega)]
  have eF:∀v:Nat,v+v/4294967296<18446744073709551616->oF (v:Int)=((v+v/4294967296:Nat):Int):=fun v h=>by
   unfold oF
   rw[show(32:Int)=((32:Nat):Int)from rfl,shrN (d:=4294967296) v (by omega) rfl,addN (by omega)]
  rw[eD,eE _ f2,eF _ f3,and127 f3,f4]
  congr 1
  omega
theorem oc_ok (m:BV) (w:World):Calls Tryz.prog 80 #[.int .u64 (mi m)] w fun e w'=>e=.returned (.int .i64 ((cs m).length:Int))/\w'=w:=by
 refine u80 ?_
 rw[t80]
 refine⟨by decide,by decide,by decide,by decide,by decide,by decide,?_,rfl⟩
 show Ending.returned (.int .i64 (oG (oF (oE (oD (oC (oB (oA (mi m)))))))))=_
 rw[oc_val]
theorem mMany_ok (m:BV) (w:World):Calls Tryz.prog 24 #[.int .u64 (mi m)] w fun e w'=>e=.returned (.int .i64 ((cs m).length:Int))/\w'=w:=by
 refine u24 ?_
 rw[t24]
 refine⟨(oc_ok m w).mono ?_⟩
 rintro e w' ⟨rfl,rfl⟩
 exact⟨_,rfl,rfl,rfl⟩
def firstE (m:BV):Int×Int:=match cs m with|[]=>(0,12)|a::_=>(a,0)
def nextE (m:BV) (c:Int):Int×Int:=match(cs m).find? (fun d=>decide (d>c))with|some d=>(d,0)|none=>firstE m
theorem firstE_ne {m:BV} (h:m≠0):firstE m=(tz m,0):=by unfold firstE;rw[cs_cons h]
theorem firstE_zero:firstE 0=(0,12):=by unfold firstE;rw[cs_zero]
theorem mFirst_ok (m:BV) {w:World} (hT:Tab w):Calls Tryz.prog 159 #[.int .u64 (mi m)] w fun e w'=>e=.returned (.tuple #[.int .i64 (firstE m).1,.int .i64 (firstE m).2])/\w'=w:=by
 refine u159 ?_
 rw[t159]
 refine⟨fun g=>?_,fun g=>⟨(tz_ok m hT).mono ?_⟩⟩
 ·rw[mi_beq0]at g
  have:m=0:=by simpa using g
  subst this
  exact⟨by rw[firstE_zero],rfl⟩
 ·rw[mi_beq0]at g
  rintro e w' ⟨rfl,rfl⟩
  exact⟨_,rfl,by rw[firstE_ne (by simpa using g)],rfl⟩
theorem cs_above (m:BV) (c:Int):cs (m&&& ~~~ upM (c+1))=(cs m).filter (fun d=>decide (d>c)):=by
 unfold cs upto
 rw[List.filter_filter]
 apply List.filter_congr
 intro d hd
 obtain⟨i,hi,rfl⟩:=List.mem_map.1 hd
 rw[List.mem_range]at hi
 rw[hs_not,hs_upM,decide_eq_true (show 0<=(i:Int)/\(i:Int)<64 by omega),Bool.true_and]
 by_cases hc:(i:Int)>c
 ·simp[hc,show ¬((i:Int)<c+1) by omega]
 ·simp[hc,show(i:Int)<c+1 by omega]
theorem next_above {m:BV} {c:Int} (h:m&&& ~~~ upM (c+1)≠0):firstE (m&&& ~~~ upM (c+1))=nextE m c:=by
 unfold nextE
 rw[firstE_ne h]
 have e:((cs m).filter (fun d=>decide (d>c))).head?=some (tz (m&&& ~~~ upM (c+1))):=by rw[<-cs_above,cs_cons h];rfl
 rw[List.head?_filter]at e
 rw[e]
theorem next_wrap {m:BV} {c:Int} (h:m&&& ~~~ upM (c+1)=0):nextE m c=firstE m:=by
 unfold nextE
 have e:(cs m).filter (fun d=>decide (d>c))=[]:=by rw[<-cs_above,h,cs_zero]
 rw[List.filter_eq_nil_iff]at e
 rw[List.find?_eq_none.2 e]
theorem next_low {m:BV} {c:Int} (h:c<0):nextE m c=firstE m:=by
 unfold nextE firstE
 cases hc:cs m with
 | nil=>rfl
 | cons a l=>
  have:hs m a=true:=mem_cs.1 (by rw[hc];simp)
  have:=hs_in this
  have e:decide (a>c)=true:=by simp;omega
  simp[e]
theorem next_high {m:BV} {c:Int} (h:63<=c):nextE m c=firstE m:=by
 unfold nextE
 rw[List.find?_eq_none.2]
 intro d hd
 have:=hs_in (mem_cs.1 hd)
 simp;omega
theorem mNext_ok (m:BV) (c:Int) {w:World} (hT:Tab w):Calls Tryz.prog 319 #[.int .u64 (mi m),.int .i64 c] w fun e w'=>e=.returned (.tuple #[.int .i64 (nextE m c).1,.int .i64 (nextE m c).2])/\w'=w:=by
 refine u319 ?_
 rw[t319]
 refine⟨fun g=>⟨fun g2=>⟨(mFirst_ok m hT).mono ?_⟩,fun g2=>?_⟩,fun g=>⟨(mFirst_ok m hT).mono ?_⟩⟩
 ·rintro e w' ⟨rfl,rfl⟩
  exact⟨_,_,rfl,by rw[next_high (of_decide_eq_true g2)],rfl⟩
 ·have h1:¬c<0:=of_decide_eq_false g
  have h2:¬c>=63:=of_decide_eq_false g2
  rw[w64 (by omega)]
  refine⟨(mUpto_ok (c+1) w).mono ?_⟩
  rintro e w' ⟨rfl,rfl⟩
  refine⟨_,rfl,?_⟩
  rw[bits_not,mi_bne0]
  refine⟨fun g3=>⟨(mFirst_ok _ hT).mono ?_⟩,fun g3=>⟨(mFirst_ok m hT).mono ?_⟩⟩
  ·rintro e w' ⟨rfl,rfl⟩
   exact⟨_,_,rfl,by rw[next_above (by simpa using g3)],rfl⟩
  ·rintro e w' ⟨rfl,rfl⟩
   exact⟨_,_,rfl,by rw[next_wrap (by simpa using g3)],rfl⟩
 ·rintro e w' ⟨rfl,rfl⟩
  exact⟨_,_,rfl,by rw[next_low (of_decide_eq_true g)],rfl⟩
theorem mList_ok (m:BV) {w:World} (hT:Tab w):Calls Tryz.prog 382 #[.int .u64 (mi m)] w fun e w'=>∃p c,e=.returned (.slice p (cs m).length c)/\Loc w w' 3 p c (cs m):=by
 refine u382 ?_
 rw[t382]
 refine⟨WP_loop okProg (M:=M382) (σ:=BV×List Int×Option Addr×Nat) (fun s=>e382_1 (mi s.1) s.2.2.1 s.2.1.length s.2.2.2)
  (fun s w'=>s.2.1++cs s.1=cs m/\Loc w w' 3 s.2.2.1 s.2.2.2 s.2.1) (fun s _=>(cs s.1).length) (m,[],none,0) ⟨rfl,rfl,trivial⟩ ⟨rfl,Loc.nil (Upd.refl _ _) _⟩ ?_⟩
 rintro⟨a,l,p,c⟩ w1 ⟨h1,hL⟩
 simp only at h1 hL⊢
 rw[t382_1,mi_bne0,sub1_wrap,bits_and]
 refine⟨fun g=>⟨(tz_ok a (hT.no hL.U)).mono ?_⟩,fun g=>?_⟩
 ·have ha:a≠0:=by simpa using g
  have hc:=cs_cons ha
  have hl:l.length<=64:=by have:=congrArg List.length h1;have:=cs_len m;simp at *;omega
  rintro e w2 ⟨rfl,rfl⟩
  refine⟨_,rfl,⟨fun w3 hN=>?_⟩⟩
  obtain⟨p',c',w4,hr,hL'⟩:=hL.push elI_Lst (by omega) hN 36
  refine⟨p',_,c',w4,hr,(a&&& (a-1),l++[tz a],p',c'),⟨rfl,rfl,trivial⟩,⟨by rw[<-h1,hc];simp,hL'⟩,by simp only;rw[hc];simp⟩
 ·have ha:a=0:=by simpa using g
  subst ha
  rw[cs_zero,List.append_nil]at h1
  subst h1
  exact⟨p,c,rfl,hL⟩
end Go.Dav
namespace Go.Dav
theorem run_mk {P:Program} {t e:TypeId} {sz bytes:Nat} {z:List Value} (he:ElemT P t e sz bytes z) (w:World) {n:Nat} (hb:n*bytes<=140737488355328) (hn:n<=140737488355328) (k1 k2:IntKind)
  {α:Type} {f:α->List Value} {x0:α} (hf:∀x,(f x).length=sz) (hz0:f x0=z) :
  ∃w',(Instr.makeSlice t (.int k1 (n:Int)) (.int k2 (n:Int))).run P w=.ok (.slice (some ⟨w.heap.size,0,none⟩) n n) w'/\Newed w w' (.cells ((List.replicate n x0).flatMap f).toArray e (0,0)):=by
 obtain⟨hu,hinfo,hzs,hpos⟩:=he
 obtain⟨i,hi,hii⟩:=Option.map_eq_some_iff.1 hinfo
 simp only[Prod.mk.injEq]at hii
 obtain⟨hz,hs1,hb1⟩:=hii
 obtain⟨zv,hzv,hzc⟩:=Option.map_eq_some_iff.1 hz
 have hb':(i.bytes:Int)*(n:Int)<=281474976710656:=by
  have h:((i.bytes*n:Nat):Int)<=281474976710656:=by rw[hb1,Nat.mul_comm];omega
  rwa [Int.natCast_mul]at h
 have hr:=run_make (P:=P) w t e i zv hu hi hzv k1 k2 n n (by omega) (Int.le_refl _) hb' (by omega)
 simp only[Int.toNat_natCast]at hr
 refine⟨_,hr,?_⟩
 have hzl:zv.cells.size=sz:=by rw[<-hzs,<-hzc];simp
 have e1:((List.replicate n x0).flatMap f).toArray=madeCells zv.cells (n*i.size):=by
  rw[hs1]
  apply Array.ext'
  rw[List.toList_toArray]
  have hl:((List.replicate n x0).flatMap f).length=n*sz:=by rw[List.length_flatMap];simp[hf,List.sum_replicate_nat]
  apply List.ext_getElem?
  intro j
  by_cases hj:j<n*sz
  ·have hq:j/sz<n:=Nat.div_lt_of_lt_mul (by rwa [Nat.mul_comm])
   have hm:j%sz<sz:=Nat.mod_lt _ hpos
   have hv:zv.cells.toList[j%sz]?=some zv.cells[j%zv.cells.size]!:=by
    have h1:j%sz<zv.cells.size:=by omega
    rw[hzl,getElem!_pos zv.cells (j%sz) h1]
    simp[h1]
   have:=flat_at (l:=List.replicate n x0) (i:=j/sz) (j:=j%sz) (v:=zv.cells[j%zv.cells.size]!) hf (by simpa using hq) (by rw[List.getElem_replicate,hz0,<-hzc];exact hv)
   rw[Nat.div_add_mod']at this
   rw[this]
   simp[madeCells,hj]
  ·rw[List.getElem?_eq_none (by omega),List.getElem?_eq_none (by simp[madeCells];omega)]
 rw[e1]
 exact newed_push w _
theorem replicate_flat {α:Type} (f:α->Value) (n:Nat) (x:α):(List.replicate n x).flatMap (fun x=>[f x])=(List.replicate n x).map f:=by
 induction n with
 | zero=>rfl
 | succ n ih=>rw[List.replicate_succ,List.flatMap_cons,ih];rfl
theorem run_mkI {P:Program} {t e:TypeId} {k:IntKind} {bytes:Nat} (he:ElemT P t e 1 bytes [.int k 0]) (w:World) {n:Nat} (hb:n*bytes<=140737488355328) (hn:n<=140737488355328) (k1 k2:IntKind) :
  ∃w',(Instr.makeSlice t (.int k1 (n:Int)) (.int k2 (n:Int))).run P w=.ok (.slice (some ⟨w.heap.size,0,none⟩) n n) w'/\Newed w w' (.cells ((List.replicate n (0:Int)).map (Value.int k)).toArray e (0,0)):=by
 obtain⟨w',h1,h2⟩:=run_mk he w hb hn k1 k2 (f:=fun x:Int=>[Value.int k x]) (x0:=0) (fun _=>rfl) rfl
 rw[replicate_flat]at h2
 exact⟨w',h1,h2⟩
theorem run_copy {P:Program} {t e:TypeId} {sz bytes:Nat} {z:List Value} (he:ElemT P t e sz bytes z) {w:World} {p:Option Addr} {dn dc:Nat} {ds:List Value} (h:Sl w e sz p dn dc ds)
  {q:Option Addr} {sn sc:Nat} {ss:List Value} (hq:Cells w q ss) (hl:ss.length=sn*sz) (h1:∀u∈ss,u.oneCell'=true) (ty:TypeId) :
  ∃w',(Builtin.copy_ #[t,t] ty #[.slice p dn dc,.slice q sn sc]).run P w=.ok (.int .i64 ((min sn dn:Nat):Int)) w'/\Sl w' e sz p dn dc (ss.take (min sn dn*sz)++ds.drop (min sn dn*sz))/\Upd (fpS p) w w':=by
 obtain⟨hu,hinfo,hzs,hpos⟩:=he
 obtain⟨i,hi,hii⟩:=Option.map_eq_some_iff.1 hinfo
 simp only[Prod.mk.injEq]at hii
 obtain⟨hz,hs1,hb1⟩:=hii
 subst hs1
 obtain⟨l1,l2,l3,l4⟩:=id h
 generalize hm:min sn dn=m
 have hms:m<=sn:=by omega
 have hmd:m<=dn:=by omega
 have htl:(ss.take (m*i.size)).length=m*i.size:=by
  rw[List.length_take,hl]
  exact Nat.min_eq_left (Nat.mul_le_mul_right _ hms)
 have hf:(Builtin.firstCells i.size m (.slice q sn sc)).run P w=.ok (ss.take (m*i.size)).toArray w:=by
  cases q with
  | none=>
   have:ss.take (m*i.size)=[]:=by
    apply List.eq_nil_of_length_eq_zero
    rw[htl]
    by_cases h0:m*i.size=0
    ·exact h0
    ·have:0<ss.length:=by
      rw[hl]
      have:0<m*i.size:=by omega
      exact Nat.lt_of_lt_of_le this (Nat.mul_le_mul_right _ hms)
     obtain⟨a,ha,_⟩:=hq 0 ss[0] (by simp[this])
     cases ha
   rw[this]
   simp[Builtin.firstCells]
  | some a=>
   refine run_firstCells_some (P:=P) w i.size m a sn sc _ htl (fun j v hj=>?_)
   rw[List.getElem?_take]at hj
   split at hj
   ·obtain⟨b,hb,hc⟩:=hq j v hj
    obtain rfl:=Option.some.inj hb
    exact hc
   ·cases hj
 have hone:∀u∈ss.take (m*i.size),u.oneCell'=true:=fun u hu=>h1 u (List.mem_of_mem_take hu)
 cases p with
 | none=>
  obtain⟨rfl,rfl⟩:=l4
  have:m=0:=by omega
  subst this
  refine⟨w,?_,by simpa using h,Upd.refl _ _⟩
  simp[Builtin.copy_,run_underlying hu,sizeOf,typeInfo,hi,Builtin.lenOf,hf,goInt]at hm⊢
 | some a=>
  obtain⟨cells,hbk,hsp,hfit,htk⟩:=l4
  obtain⟨b,o,sp⟩:=a
  simp only at hsp hbk hfit htk
  subst hsp
  have hle:m*i.size<=dc*i.size:=Nat.mul_le_mul_right _ (by omega)
  have hfit':o+0+(ss.take (m*i.size)).length<=cells.toArray.size:=by rw[htl];simp only[List.size_toArray];omega
  have hst:=run_storeCells_at P b o e (ss.take (m*i.size)) 0 cells.toArray w hbk hfit' hone
  simp only[Nat.add_zero]at hst
  have hW:=wrote_setRow (w:=w) (b:=b) (c:=cells.toArray) (T:=e) hbk (setL cells o (ss.take (m*i.size)))
  refine⟨_,?_,?_,hW.upd ⟨_,rfl,rfl⟩⟩
  ·have hmin:Nat.min sn dn=m:=hm
   simp[Builtin.copy_,run_underlying hu,sizeOf,typeInfo,hi,Builtin.lenOf,hmin,hf,hst,goInt,setL]
  ·have hlc:(setL cells o (ss.take (m*i.size))).length=cells.length:=setL_length (by rw[htl];omega)
   have hdl:m*i.size<=dn*i.size:=Nat.mul_le_mul_right _ hmd
   refine⟨by rw[List.length_append,htl,List.length_drop,l1];omega,l2,l3,_,hW.blk,rfl,by rw[hlc];exact hfit,?_⟩
   subst htk
   apply List.ext_getElem?
   intro j
   have hcd:dn*i.size<=dc*i.size:=Nat.mul_le_mul_right _ l2
   unfold setL
   simp only[List.getElem?_take,List.getElem?_drop,List.getElem?_append,List.length_append,List.length_take,htl]
   generalize m*i.size=x at *
   generalize dn*i.size=y at *
   generalize dc*i.size=u at *
   rw[List.length_take]at htl
   grind
theorem run_copyAt {P:Program} {t e:TypeId} {sz bytes:Nat} {z:List Value} (he:ElemT P t e sz bytes z) {w:World} {p:Option Addr} {dn dc:Nat} {ds:List Value} (h:Sl w e sz p dn dc ds)
  {q:Option Addr} {sn sc:Nat} {ss:List Value} (hq:Cells w q ss) (hl:ss.length=sn*sz) (h1:∀u∈ss,u.oneCell'=true) (ty:TypeId) {k:Nat} (hk:k<=dn) :
  ∃w',(Builtin.copy_ #[t,t] ty #[.slice (subA p dc k sz) (dn-k) (dc-k),.slice q sn sc]).run P w=.ok (.int .i64 ((min sn (dn-k):Nat):Int)) w'/\
   Sl w' e sz p dn dc (setL ds (k*sz) (ss.take (min sn (dn-k)*sz)))/\Upd (fpS p) w w':=by
 obtain⟨hu,hinfo,hzs,hpos⟩:=he
 obtain⟨i,hi,hii⟩:=Option.map_eq_some_iff.1 hinfo
 simp only[Prod.mk.injEq]at hii
 obtain⟨hz,hs1,hb1⟩:=hii
 subst hs1
 obtain⟨l1,l2,l3,l4⟩:=id h
 generalize hm:min sn (dn-k)=m
 have hms:m<=sn:=by omega
 have hmd:m<=dn-k:=by omega
 have htl:(ss.take (m*i.size)).length=m*i.size:=by
  rw[List.length_take,hl]
  exact Nat.min_eq_left (Nat.mul_le_mul_right _ hms)
 have hf:(Builtin.firstCells i.size m (.slice q sn sc)).run P w=.ok (ss.take (m*i.size)).toArray w:=by
  cases q with
  | none=>
   have:ss.take (m*i.size)=[]:=by
    apply List.eq_nil_of_length_eq_zero
    rw[htl]
    by_cases h0:m*i.size=0
    ·exact h0
    ·have:0<ss.length:=by
      rw[hl]
      have:0<m*i.size:=by omega
      exact Nat.lt_of_lt_of_le this (Nat.mul_le_mul_right _ hms)
     obtain⟨a,ha,_⟩:=hq 0 ss[0] (by simp[this])
     cases ha
   rw[this]
   simp[Builtin.firstCells]
  | some a=>
   refine run_firstCells_some (P:=P) w i.size m a sn sc _ htl (fun j v hj=>?_)
   rw[List.getElem?_take]at hj
   split at hj
   ·obtain⟨b,hb,hc⟩:=hq j v hj
    obtain rfl:=Option.some.inj hb
    exact hc
   ·cases hj
 have hone:∀u∈ss.take (m*i.size),u.oneCell'=true:=fun u hu=>h1 u (List.mem_of_mem_take hu)
 have hmin:Nat.min sn (dn-k)=m:=hm
 have hset0:∀o,setL ds o []=ds:=fun o=>by simp[setL]
 by_cases h0:m=0
 ·subst h0
  simp only[Nat.zero_mul,List.take_zero]at hf⊢
  refine⟨w,?_,by rw[hset0];exact h,Upd.refl _ _⟩
  cases hp:subA p dc k i.size with
  | none=>simp[Builtin.copy_,run_underlying hu,sizeOf,typeInfo,hi,Builtin.lenOf,hmin,hf,goInt]
  | some a=>simp[Builtin.copy_,run_underlying hu,sizeOf,typeInfo,hi,Builtin.lenOf,hmin,hf,goInt,storeCells]
 ·cases p with
  | none=>obtain⟨rfl,rfl⟩:=l4;omega
  | some a=>
   obtain⟨cells,hbk,hsp,hfit,htk⟩:=l4
   obtain⟨b,o,sp⟩:=a
   simp only at hsp hbk hfit htk
   subst hsp
   have hsub:subA (some (⟨b,o,none⟩:Addr)) dc k i.size=some ⟨b,o+k*i.size,none⟩:=by
    unfold subA
    rw[if_neg (by omega),Option.map_some,add_lit]
   have hle:k*i.size+m*i.size<=dn*i.size:=by rw[<-Nat.add_mul];exact Nat.mul_le_mul_right _ (by omega)
   have hcd:dn*i.size<=dc*i.size:=Nat.mul_le_mul_right _ l2
   have hfit':o+k*i.size+0+(ss.take (m*i.size)).length<=cells.toArray.size:=by rw[htl];simp only[List.size_toArray];omega
   have hst:=run_storeCells_at P b (o+k*i.size) e (ss.take (m*i.size)) 0 cells.toArray w hbk hfit' hone
   simp only[Nat.add_zero]at hst
   have hW:=wrote_setRow (w:=w) (b:=b) (c:=cells.toArray) (T:=e) hbk (setL cells (o+k*i.size) (ss.take (m*i.size)))
   rw[hsub]
   refine⟨_,?_,?_,hW.upd ⟨_,rfl,rfl⟩⟩
   ·simp[Builtin.copy_,run_underlying hu,sizeOf,typeInfo,hi,Builtin.lenOf,hmin,hf,hst,goInt,setL]
   ·have hlc:(setL cells (o+k*i.size) (ss.take (m*i.size))).length=cells.length:=setL_length (by rw[htl];omega)
    refine⟨by rw[setL_length (by rw[htl,l1];omega),l1],l2,l3,_,hW.blk,rfl,by rw[hlc];exact hfit,?_⟩
    subst htk
    apply List.ext_getElem?
    intro j
    unfold setL
    simp only[List.getElem?_take,List.getElem?_drop,List.getElem?_append,List.length_append,List.length_take,htl,List.length_drop]
    generalize m*i.size=x at *
    generalize dn*i.size=y at *
    generalize dc*i.size=u at *
    generalize k*i.size=v at *
    rw[List.length_take]at htl
    grind
def Lv {α:Type} (T:TypeId) (f:α->Value):Ob (Option Addr×Nat×List α):=fun w F x=>(∀i,F i↔fpS x.1 i)/\Sl w T 1 x.1 x.2.2.length x.2.1 (x.2.2.map f)
theorem run_mkV {P:Program} {t e:TypeId} {bytes:Nat} {α:Type} {f:α->Value} {x0:α} (he:ElemT P t e 1 bytes [f x0]) (w:World) {n:Nat} (hb:n*bytes<=140737488355328) (hn:n<=1048576) (k1 k2:IntKind) :
  ∃w',(Instr.makeSlice t (.int k1 (n:Int)) (.int k2 (n:Int))).run P w=.ok (.slice (some ⟨w.heap.size,0,none⟩) n n) w'/\Upd no w w'/\
   Lv e f w' (fpS (some ⟨w.heap.size,0,none⟩)) (some ⟨w.heap.size,0,none⟩,n,List.replicate n x0):=by
 obtain⟨w',h1,h2⟩:=run_mk he w hb (by omega) k1 k2 (f:=fun x:α=>[f x]) (x0:=x0) (fun _=>rfl) rfl
 rw[replicate_flat]at h2
 refine⟨w',h1,h2.upd no,fun _=>Iff.rfl,?_⟩
 simp only[List.length_replicate]
 exact Sl.new h2 (by simp) (by unfold maxLen;omega)
end Go.Dav
namespace Go.Dav
structure Ring where
 r:List Int
 f:Nat
 m:Nat
structure Ring.ok (g:Ring):Prop where
 pos:0<g.r.length
 le:g.r.length<=1024
 f:g.f<g.r.length
 m:g.m<=g.r.length
def pl (c f k:Nat):Nat:=if f+k<c then f+k else f+k-c
theorem pl_mod {c f k:Nat} (hf:f<c) (hk:k<=c):(f+k)%c=pl c f k:=by
 unfold pl
 split
 ·exact Nat.mod_eq_of_lt (by assumption)
 ·rw[Nat.mod_eq_sub_mod (by omega),Nat.mod_eq_of_lt (by omega)]
theorem pl_lt {c f k:Nat} (hf:f<c) (hk:k<=c):pl c f k<c:=by unfold pl;split<;>omega
theorem pl_inj {c f k j:Nat} (hk:k<c) (hj:j<c) (h:pl c f k=pl c f j):k=j:=by unfold pl at h;split at h<;>split at h<;>omega
def view (g:Ring):List Int:=(List.range g.m).map (fun k=>g.r.getD (pl g.r.length g.f k) 0)
theorem view_length (g:Ring):(view g).length=g.m:=by simp[view]
theorem view_get (g:Ring) {k:Nat} (h:k<g.m):(view g)[k]'(by rw[view_length];exact h)=g.r.getD (pl g.r.length g.f k) 0:=by simp[view]
theorem view_get? (g:Ring) (k:Nat):(view g)[k]?=if k<g.m then some (g.r.getD (pl g.r.length g.f k) 0)else none:=by
 split
 ·rename_i h
  rw[List.getElem?_eq_getElem (by rw[view_length];exact h),view_get g h]
 ·exact List.getElem?_eq_none (by rw[view_length];omega)
theorem view_set {g:Ring} (h:g.ok) {i:Nat} (hi:i<g.r.length) (v:Int) {m:Nat} (hm:m<=g.r.length) :
  view ⟨g.r.set (pl g.r.length g.f i) v,g.f,m⟩=(view ⟨g.r,g.f,m⟩).set i v:=by
 apply List.ext_getElem?
 intro k
 rw[view_get?,List.getElem?_set,view_get?,view_length]
 simp only[List.length_set]
 by_cases hk:k<m
 ·simp only[hk,if_true]
  by_cases hik:i=k
  ·subst hik
   simp[hk,List.getD_eq_getElem?_getD,pl_lt h.f (Nat.le_of_lt hi)]
  ·rw[if_neg hik]
   have:pl g.r.length g.f i≠pl g.r.length g.f k:=fun e=>hik (pl_inj hi (by omega) e)
   simp[List.getD_eq_getElem?_getD,this]
 ·simp only[hk,if_false]
  by_cases hik:i=k
  ·rw[if_pos hik,if_neg (by omega)]
  ·rw[if_neg hik]
theorem view_more (r:List Int) (f m:Nat):view ⟨r,f,m+1⟩=view ⟨r,f,m⟩++[r.getD (pl r.length f m) 0]:=by
 simp[view,List.range_succ]
theorem view_push {g:Ring} (h:g.ok) (hm:g.m<g.r.length) (v:Int):view ⟨g.r.set (pl g.r.length g.f g.m) v,g.f,g.m+1⟩=view g++[v]:=by
 rw[view_more,List.length_set,view_set h hm v h.m]
 have e1:(view ⟨g.r,g.f,g.m⟩).set g.m v=view g:=by
  apply List.set_eq_of_length_le
  rw[view_length]
  exact Nat.le_refl _
 rw[e1]
 simp[List.getD_eq_getElem?_getD,pl_lt h.f h.m]
theorem view_pop {g:Ring} (h:g.ok) (hm:0<g.m):view g=g.r.getD g.f 0::view ⟨g.r,pl g.r.length g.f 1,g.m-1⟩:=by
 apply List.ext_getElem?
 intro k
 have hf:=h.f
 have h2:=h.m
 cases k with
 | zero=>
  rw[view_get?,if_pos hm]
  have:pl g.r.length g.f 0=g.f:=by unfold pl;split<;>omega
  rw[this]
  rfl
 | succ k=>
  rw[List.getElem?_cons_succ,view_get?,view_get?]
  by_cases hk:k+1<g.m
  ·rw[if_pos hk,if_pos (show k<g.m-1 by omega)]
   have:pl g.r.length g.f (k+1)=pl g.r.length (pl g.r.length g.f 1) k:=by
    have hp:=h.pos
    unfold pl
    split<;>split<;>split<;>omega
   rw[this]
  ·rw[if_neg hk,if_neg (show ¬k<g.m-1 by omega)]
theorem view_fresh (n:Nat):view ⟨List.replicate n 0,0,0⟩=[]:=rfl
theorem view_front {g:Ring} (h:g.ok) {x:Int} {l:List Int} (hv:view g=x::l):0<g.m/\g.r.getD g.f 0=x/\view ⟨g.r,pl g.r.length g.f 1,g.m-1⟩=l:=by
 have hm:0<g.m:=by
  have:=view_length g
  rw[hv]at this
  simp at this
  omega
 rw[view_pop h hm]at hv
 simp only[List.cons.injEq]at hv
 exact⟨hm,hv.1,hv.2⟩
theorem view_less (r:List Int) (f:Nat) {m k:Nat} (h:k<=m):view ⟨r,f,k⟩=(view ⟨r,f,m⟩).take k:=by
 unfold view
 rw[<-List.map_take,List.take_range,Nat.min_eq_left h]
theorem ring_copy {g:Ring} (h:g.ok) (f:Int->Value) :
  setL (((g.r.map f).drop g.f).take (min (g.r.length-g.f) g.m)++((List.replicate g.m (0:Int)).map f).drop (min (g.r.length-g.f) g.m)) (min (g.r.length-g.f) g.m)
   ((g.r.map f).take (min g.r.length (g.m-min (g.r.length-g.f) g.m)))=(view g).map f:=by
 have hf:=h.f
 have hm:=h.m
 apply List.ext_getElem?
 intro k
 generalize hn:min (g.r.length-g.f) g.m=n
 have hn2:min g.r.length (g.m-n)=g.m-n:=by omega
 rw[hn2,List.getElem?_map,view_get?]
 unfold setL
 simp only[List.getElem?_append,List.getElem?_take,List.getElem?_drop,List.getElem?_map,List.getElem?_replicate,List.length_append,List.length_take,List.length_drop,List.length_map,List.length_replicate]
 by_cases hk:k<g.m
 ·rw[if_pos hk]
  by_cases hkn:k<n
  ·have hp:pl g.r.length g.f k=g.f+k:=by unfold pl;split<;>omega
   have h1:g.f+k<g.r.length:=by omega
   simp[hkn,hp,List.getD_eq_getElem?_getD,h1]
   grind
  ·have hp:pl g.r.length g.f k=k-n:=by unfold pl;split<;>omega
   have h1:k-n<g.r.length:=by omega
   simp[hp,List.getD_eq_getElem?_getD,h1]
   grind
 ·rw[if_neg hk]
  simp
  grind
theorem setL_set {α:Type} {f:α->Value} {r:List α} {k:Nat} (h:k<r.length) {v:α}:setL (r.map f) k [f v]=(r.set k v).map f:=by
 unfold setL
 rw[List.map_set]
 apply List.ext_getElem?
 intro j
 simp only[List.getElem?_append,List.getElem?_take,List.getElem?_drop,List.getElem?_set,List.length_append,List.length_take,List.length_map,List.length_cons,List.length_nil]
 grind
end Go.Dav
namespace Go.Dav
theorem flat_len {α:Type} {f:α->List Value} {sz:Nat} (hf:∀x,(f x).length=sz) (l:List α):(l.flatMap f).length=l.length*sz:=by
 induction l with
 | nil=>simp
 | cons x l ih=>rw[List.flatMap_cons,List.length_append,hf,ih,List.length_cons,Nat.add_mul,Nat.one_mul,Nat.add_comm]
theorem setL_flat {α:Type} {f:α->List Value} {sz:Nat} (hf:∀x,(f x).length=sz):∀{l:List α} {k o:Nat} {vs:List Value} {x:α} (hk:k<l.length),o+vs.length<=sz->f x=setL (f l[k]) o vs->
  setL (l.flatMap f) (k*sz+o) vs=(l.set k x).flatMap f
 | y::l,0,o,vs,x,_,ho,hx=>by
  have hy:=hf y
  simp only[List.flatMap_cons,Nat.zero_mul,Nat.zero_add,List.set_cons_zero]
  rw[hx]
  simp only[List.getElem_cons_zero]
  unfold setL
  apply List.ext_getElem?
  intro j
  simp only[List.getElem?_append,List.getElem?_take,List.getElem?_drop,List.length_append,List.length_take,List.length_drop,hy]
  grind
 | y::l,k+1,o,vs,x,hk,ho,hx=>by
  have hy:=hf y
  simp only[List.flatMap_cons,List.set_cons_succ]
  have ih:=setL_flat hf (l:=l) (k:=k) (o:=o) (vs:=vs) (x:=x) (by simpa using hk) ho (by simpa using hx)
  rw[<-ih]
  unfold setL
  have e1:(k+1)*sz+o=sz+(k*sz+o):=by rw[Nat.add_mul,Nat.one_mul];omega
  rw[e1]
  apply List.ext_getElem?
  intro j
  simp only[List.getElem?_append,List.getElem?_take,List.getElem?_drop,List.length_append,List.length_take,hy]
  generalize k*sz+o=u
  grind
theorem setL_app {a b vs:List Value} {o:Nat} (h:o+vs.length<=a.length):setL (a++b) o vs=setL a o vs++b:=by
 unfold setL
 apply List.ext_getElem?
 intro j
 simp only[List.getElem?_append,List.getElem?_take,List.getElem?_drop,List.length_append,List.length_take,List.length_drop]
 grind
theorem flat_slice {α:Type} {f:α->List Value} {sz:Nat} (hf:∀x,(f x).length=sz) {l:List α} {k:Nat} (hk:k<l.length):((l.flatMap f).drop (k*sz)).take sz=f l[k]:=by
 apply List.ext_getElem?
 intro j
 rw[List.getElem?_take,List.getElem?_drop]
 by_cases hj:j<sz
 ·rw[if_pos hj]
  have hv:(f l[k])[j]?=some ((f l[k])[j]'(by rw[hf];exact hj)):=by simp[hf,hj]
  rw[hv]
  exact flat_at hf hk hv
 ·rw[if_neg hj,List.getElem?_eq_none (by rw[hf];omega)]
end Go.Dav
namespace Go.Dav
theorem append1v {P:Program} {t e:TypeId} {bytes:Nat} {z:List Value} (he:ElemT P t e 1 bytes z) {w w1:World} {p:Option Addr} {n c:Nat} {cs:List Value} {v:Value} (hv:v.oneCell'=true) (h:Sl w e 1 p n c cs) (hb:(n+1)*bytes<=140737488355328) (hl:n<=1048576)
  {T:TypeId} (hN:Newed w w1 (.cells (List.toArray [v]) T (0,0))) (ty:TypeId) :
  ∃p' c' w2,(Builtin.append_ #[t,t] ty #[.slice p n c,.slice (some ⟨w.heap.size,0,none⟩) 1 1]).run P w1=.ok (.slice p' (n+1) c') w2/\Sl w2 e 1 p' (n+1) c' (cs++[v])/\Upd (fpS p) w w2/\(∀i,fpS p' i->fpS p i∨w.heap.size<=i):=by
 have h1:=h.upd (hN.upd no) (fun _ _ hn=>hn)
 have hN':Sl w1 T 1 (some ⟨w.heap.size,0,none⟩) 1 1 [v]:=Sl.new hN (by simp) (by unfold maxLen;omega)
 obtain⟨p',n',c',w2,hr,hn,hS,hU,hF⟩:=run_append he h1 hN'.cells (m:=1) (d:=1) (by simp) (by simpa using hv) (by simp) hb (by omega) ty
 refine⟨p',c',w2,by rw[hr,hn],hS,(hN.upd _).trans hU (fun i _ hi=>hi),fun i hi=>(hF i hi).imp id (fun h=>?_)⟩
 rw[hN.size]at h;omega
section
variable {α:Type} {f:α->Value}
end
end Go.Dav
namespace Go.Dav
open Go.Proofs
theorem elU:ElemT Tryz.prog 290 29 1 8 [.int .u64 0]:=⟨by kernel_rfl,by kernel_rfl,rfl,by omega⟩
structure Wds (ws:List BV) (o:List Bool):Prop where
 len:ws.length=(o.length+63)/64
 bits:∀(i:Nat) (hi:i<ws.length) (k:Nat),k<64->ws[i].getLsbD k=o.getD (64*i+k) false
def u64V (m:BV):Value:=.int .u64 (mi m)
def slE (x:List BV×List Bool) (p:Option Addr) (c:Nat):List Value:=[.slice p x.1.length c,.int .i64 (x.2.length:Int),.int .i64 ((x.2.count true:Nat):Int)]
abbrev SlH (b:Nat):Ob ((List BV×List Bool)×Option Addr×Nat):=Hd b 292 29 1 slE (fun x=>x.1.length) (fun x=>x.1.map u64V)
def SlO (b:Nat):Ob (List Bool):=fun w F o=>∃ws y,SlH b w F ((ws,o),y)/\Wds ws o/\1<=o.length/\o.length<=1024
instance Frame.slo (b:Nat):Frame (SlO b) where
 upd:=fun⟨ws,y,h,r⟩ k hG=>⟨ws,y,(Frame.hd ..).upd h k hG,r⟩
 lt:=fun⟨_,_,h,_⟩=>(Frame.hd ..).lt h
def hasE_Slot (o:List Bool) (n:Int):Bool:=if 1<=n then o.getD (n.toNat-1) false else false
def takeE_Slot (o:List Bool):Int×Int:=match o.findIdx? (fun x=>!x)with|some i=>((i:Int)+1,0)|none=>(0,5)
def takeS_Slot (o:List Bool):List Bool:=match o.findIdx? (fun x=>!x)with|some i=>o.set i true|none=>o
def giveE_Slot (o:List Bool) (n:Int):Int:=if hasE_Slot o n then 0 else 4
def giveS_Slot (o:List Bool) (n:Int):List Bool:=if hasE_Slot o n then o.set (n.toNat-1) false else o
def outL (o:List Bool) (k:Nat):List Int:=((List.range k).filter (fun i=>o.getD i false)).map (fun(i:Nat)=>(i:Int)+1)
theorem give_len_Slot (o:List Bool) (n:Int):(giveS_Slot o n).length=o.length:=by unfold giveS_Slot;split<;>simp
theorem outL_succ (o:List Bool) (k:Nat):outL o (k+1)=if o.getD k false then outL o k++[(k:Int)+1]else outL o k:=by
 unfold outL
 rw[List.range_succ,List.filter_append,List.map_append]
 by_cases h:o.getD k false=true
 ·rw[if_pos h,List.filter_cons_of_pos (p:=fun i=>o.getD i false) h];rfl
 ·rw[if_neg h,List.filter_cons_of_neg (p:=fun i=>o.getD i false) h];simp
theorem outL_le (o:List Bool) (k:Nat):(outL o k).length<=k:=by unfold outL;rw[List.length_map];exact Nat.le_trans (List.length_filter_le ..) (by simp)
theorem hasE_in {o:List Bool} {n:Int} (h:hasE_Slot o n=true):1<=n/\n<=(o.length:Int):=by
 unfold hasE_Slot at h
 split at h
 ·refine⟨by assumption,?_⟩
  by_cases hl:n.toNat-1<o.length
  ·omega
  ·rw[List.getD_eq_getElem?_getD,List.getElem?_eq_none (by omega)]at h;simp at h
 ·cases h
theorem hasE_of {o:List Bool} {k:Nat}:hasE_Slot o ((k:Int)+1)=o.getD k false:=by
 unfold hasE_Slot
 rw[if_pos (by omega),show((k:Int)+1).toNat-1=k by omega]
theorem count_set {o:List Bool} {k:Nat} (hk:k<o.length) (v:Bool):(o.set k v).count true+(if o[k]then 1 else 0)=o.count true+(if v then 1 else 0):=by
 induction o generalizing k with
 | nil=>simp at hk
 | cons x l ih=>
  cases k with
  | zero=>cases x<;>cases v<;>simp
  | succ k=>
   have:=ih (k:=k) (by simpa using hk)
   simp only[List.set_cons_succ,List.count_cons,List.getElem_cons_succ]
   omega
theorem count_len (o:List Bool):o.count true<=o.length:=List.count_le_length
theorem count_full {o:List Bool}:o.count true=o.length↔o.findIdx? (fun x=>!x)=none:=by
 rw[List.findIdx?_eq_none_iff]
 constructor
 ·intro h x hx
  rw[List.count_eq_length]at h
  simp[<-h x hx]
 ·intro h
  rw[List.count_eq_length]
  intro x hx
  have:=h x hx
  simpa using this.symm
theorem Wds.set {ws:List BV} {o:List Bool} (h:Wds ws o) {i k:Nat} (hi:i<ws.length) (hk:k<64) (ho:64*i+k<o.length) {v:Bool} {x:BV} (hx:∀j,j<64->x.getLsbD j=if j=k then v else ws[i].getLsbD j):Wds (ws.set i x) (o.set (64*i+k) v):=by
 refine⟨by simpa using h.len,fun i' hi' j hj=>?_⟩
 rw[List.length_set]at hi'
 rw[List.getElem_set,List.getD_eq_getElem?_getD,List.getElem?_set]
 by_cases h1:i=i'
 ·subst h1
  rw[if_pos rfl,hx j hj]
  by_cases h2:j=k
  ·subst h2;simp[ho]
  ·rw[if_neg h2,if_neg (by omega),h.bits i hi j hj,List.getD_eq_getElem?_getD]
 ·rw[if_neg h1,if_neg (by omega),h.bits i' hi' j hj,List.getD_eq_getElem?_getD]
theorem hs_bit {m:BV} {k:Nat} (hk:k<64):hs m (k:Int)=m.getLsbD k:=by
 unfold hs
 rw[decide_eq_true (show 0<=(k:Int)/\(k:Int)<64 by omega)]
 simp
theorem bit_of {m:BV} {k:Nat} (hk:k<64):(bitsOp .and .u64 (mi m) (mi (bt k))==0) = !m.getLsbD k:=by
 rw[bits_and,mi_beq0,<-hs_bit hk,<-and_bt];simp
theorem wi_bit {m:BV} {k j:Nat} (hk:k<64) (hj:j<64):(wi m k).getLsbD j=if j=k then true else m.getLsbD j:=by
 rw[<-hs_bit hj,hs_wi,hs_bit hj]
 by_cases h:j=k
 ·subst h;simp;omega
 ·simp[h];omega
theorem ls_bit {m:BV} {k j:Nat} (hj:j<64):(ls m k).getLsbD j=if j=k then false else m.getLsbD j:=by
 rw[<-hs_bit hj,hs_ls,hs_bit hj]
 by_cases h:j=k
 ·subst h;simp
 ·simp[h];omega
section
variable {w:World} {F:Fp} {b:Nat} {o:List Bool}
theorem slNew_ok (n:Int) (w:World):Calls Tryz.prog 107 #[.int .i64 n] w fun e w'=>
  (¬(1<=n/\n<=1024)/\e=.returned (.tuple #[.pointer none,.int .i64 2])/\w'=w)∨
  ((1<=n/\n<=1024)/\∃b F,e=.returned (.tuple #[.pointer (some ⟨b,0,none⟩),.int .i64 0])/\SlO b w' F (List.replicate n.toNat false)/\Upd no w w'/\∀i,F i->w.heap.size<=i):=by
 refine u107 ?_
 rw[t107]
 refine⟨fun h1=>⟨fun h2=>.inl ⟨?_,rfl,rfl⟩,fun h2=>⟨by decide,?_⟩⟩,fun h1=>.inl ⟨?_,rfl,rfl⟩⟩
 ·simp at h2;omega
 ·have h1:¬n<1:=by simpa using h1
  have h2:¬1024<n:=by simpa using h2
  obtain⟨m,rfl⟩:∃m:Nat,n=m:=⟨n.toNat,by omega⟩
  have e0:IntKind.wrap .i64 (Int.tdiv (IntKind.wrap .i64 (IntKind.wrap .i64 ((m:Int)+64)-1)) 64)=(((m+63)/64:Nat):Int):=by
   rw[w64 (x:=(m:Int)+64) (by omega),w64 (x:=(m:Int)+64-1) (by omega),Int.tdiv_eq_ediv_of_nonneg (by omega),w64 (by omega)];omega
  rw[e0]
  obtain⟨w1,hr,hU,hL⟩:=run_mkV (f:=u64V) (x0:=0) elU w (n:=(m+63)/64) (by omega) (by omega) .i64 .i64
  refine⟨_,_,_,w1,hr,⟨fun w2 hN=>.inr ⟨by omega,w1.heap.size,fun i=>i=w1.heap.size∨fpS (some ⟨w.heap.size,0,none⟩) i,rfl,⟨List.replicate ((m+63)/64) 0,(some ⟨w.heap.size,0,none⟩,(m+63)/64),⟨?_,?_,?_,fun _=>Iff.rfl⟩,⟨by simp,fun i hi k hk=>?_⟩,by simp;omega,by simp;omega⟩,hU.and (hN.upd no),?_⟩⟩⟩
  ·show Blk w2 w1.heap.size (slE (List.replicate ((m+63)/64) 0,List.replicate (Int.toNat (m:Int)) false) _ ((m+63)/64)) _
   unfold slE
   simp only[List.length_replicate,Int.toNat_natCast,List.count_replicate]
   exact hN.blk'
  ·have hS:=hL.2.upd (hN.upd no) fun _ _ h=>h
   simp only[List.length_replicate]at hS⊢
   exact hS
  ·rintro⟨a,ha,hb⟩
   cases ha
   have:=hU.size
   have:=hL.2.lt _ ⟨_,rfl,rfl⟩
   simp only at hb this
   omega
  ·simp[List.getD_eq_getElem?_getD,List.getElem?_replicate]
   split<;>rfl
  ·rintro i (rfl|⟨a,ha,rfl⟩)
   ·exact hU.size
   ·cases ha;exact Nat.le_refl _
 ·simp at h1;omega
theorem slCap_ok (h:SlO b w F o):Calls Tryz.prog 339 #[.pointer (some ⟨b,0,none⟩)] w fun e w'=>e=.returned (.int .i64 (o.length:Int))/\w'=w:=by
 obtain⟨ws,y,h1,h2,h3⟩:=h
 refine u339 ?_
 rw[t339]
 exact⟨fun h=>by simp at h,fun _=>⟨_,rfl,_,h1.blk.cell rfl,rfl,rfl⟩⟩
theorem slot_split {o:List Bool} {n:Int} (h:1<=n/\n<=(o.length:Int)):∃i k:Nat,k<64/\64*i+k<o.length/\n=((64*i+k:Nat):Int)+1:=
 ⟨(n.toNat-1)/64,(n.toNat-1)%64,by omega,by omega,by omega⟩
theorem slBit_in {ws:List BV} {y:Option Addr×Nat} (h:SlH b w F ((ws,o),y)) (hw:Wds ws o) (hl:1<=o.length/\o.length<=1024) {i k:Nat} (hk:k<64) (ho:64*i+k<o.length) :
  Calls Tryz.prog 363 #[.pointer (some ⟨b,0,none⟩),.int .i64 (((64*i+k:Nat):Int)+1)] w fun e w'=>(∃a,y.1=some a/\e=.returned (.tuple #[.pointer (some (a.add (i*1))),.int .u64 (mi (bt k))]))/\Upd no w w':=by
 refine u363 ?_
 rw[t363]
 refine⟨fun _=>⟨fun _=>⟨_,rfl,_,h.blk.cell rfl,fun g=>absurd (of_decide_eq_true g) (by simp only;omega),fun _=>?_⟩,fun g=>absurd (of_decide_eq_true g) (by omega)⟩,fun g=>by simp at g⟩
 intro w1 q1 q2 q3 q4
 have hU:=Upd.same no q1 q2 q3 q4
 have h1:=(Frame.hd ..).upd h hU fun _ _ h=>h
 have e0:IntKind.wrap .i64 (((64*i+k:Nat):Int)+1-1)=((64*i+k:Nat):Int):=by rw[w64 (by omega)];omega
 have e1:Int.tdiv ((64*i+k:Nat):Int) 64=(i:Int):=by rw[Int.tdiv_eq_ediv_of_nonneg (by omega)];omega
 have e2:Int.tmod ((64*i+k:Nat):Int) 64=(k:Int):=by rw[Int.tmod_eq_emod_of_nonneg (by omega)];omega
 have e3:IntKind.wrap .i64 (i:Int)=(i:Int):=w64 (by omega)
 have hi:i<ws.length:=by have:=hw.len;omega
 obtain⟨a,ha,_⟩:=h1.sl.cells.at1 (l:=ws) hi
 rw[e0,e1,e2,e3,shl_one (by omega)]
 first
  | exact⟨_,rfl,_,_,_,h1.blk.cell rfl,by decide,⟨by omega,by simp only;omega⟩,a,ha,by decide,by omega,⟨a,ha,rfl⟩,hU⟩
  | exact⟨_,rfl,_,_,_,h1.blk.cell rfl,by decide,by decide,by omega,⟨by omega,by simp only;omega⟩,a,ha,⟨a,ha,rfl⟩,hU⟩
  | exact⟨_,rfl,_,_,_,h1.blk.cell rfl,by decide,⟨by omega,by simp only;omega⟩,a,ha,by decide,by omega,rfl,hU⟩
theorem slBit_out (h:SlO b w F o) {n:Int} (hn:¬(1<=n/\n<=(o.length:Int))):Calls Tryz.prog 363 #[.pointer (some ⟨b,0,none⟩),.int .i64 n] w fun e w'=>e=.returned (.tuple #[.pointer none,.int .u64 0])/\w'=w:=by
 obtain⟨ws,y,h1,h2,h3⟩:=h
 refine u363 ?_
 rw[t363]
 refine⟨fun _=>⟨fun g=>⟨_,rfl,_,h1.blk.cell rfl,fun _=>⟨rfl,rfl⟩,fun g2=>?_⟩,fun _=>⟨rfl,rfl⟩⟩,fun g=>by simp at g⟩
 have:=of_decide_eq_false g
 have:=of_decide_eq_false g2
 simp only at this
 omega
theorem slHas_ok (h:SlO b w F o) (n:Int):Calls Tryz.prog 340 #[.pointer (some ⟨b,0,none⟩),.int .i64 n] w fun e w'=>e=.returned (.bool (hasE_Slot o n))/\Upd no w w':=by
 refine u340 ?_
 rw[t340]
 by_cases hn:1<=n/\n<=(o.length:Int)
 ·obtain⟨ws,y,h1,h2,h3⟩:=h
  obtain⟨i,k,hk,ho,rfl⟩:=slot_split hn
  refine⟨(slBit_in h1 h2 h3 hk ho).mono ?_⟩
  rintro e w1 ⟨⟨a,ha,rfl⟩,hU⟩
  have h1':=(Frame.hd ..).upd h1 hU fun _ _ h=>h
  have hi:i<ws.length:=by have:=h2.len;omega
  obtain⟨a',ha',hc⟩:=h1'.sl.cells.at1 (l:=ws) hi
  obtain rfl:=Option.some.inj (ha.symm.trans ha')
  have hb:=bit_of (m:=ws[i]) hk
  have hx:=h2.bits i hi k hk
  refine⟨_,_,rfl,fun _=>⟨_,rfl,_,hc,?_,hU⟩,fun g=>by simp at g⟩
  rw[bne,hb,hx,Bool.not_not,hasE_of]
 ·refine⟨(slBit_out h hn).mono ?_⟩
  rintro e w1 ⟨rfl,rfl⟩
  have:hasE_Slot o n=false:=by
   cases hh:hasE_Slot o n with
   | false=>rfl
   | true=>exact absurd (hasE_in hh) hn
  rw[this]
  exact⟨_,_,rfl,fun g=>by simp at g,fun _=>⟨rfl,Upd.refl _ _⟩⟩
theorem slWr {ws:List BV} {y:Option Addr×Nat} (h:SlH b w F ((ws,o),y)) (hw:Wds ws o) (hl:1<=o.length/\o.length<=1024) {w1:World} (hU:Upd no w w1) {i k:Nat} (hk:k<64) (ho:64*i+k<o.length) (hi:i<ws.length) {v:Bool} {x:BV}
  (hx:∀j,j<64->x.getLsbD j=if j=k then v else ws[i].getLsbD j) {K:World->Prop}
  (hK:∀w2,w2.cell? ((⟨b,0,none⟩:Addr).add 2)=some (.int .i64 ((o.count true:Nat):Int))->Wr w2 ((⟨b,0,none⟩:Addr).add 2) [.int .i64 (((o.set (64*i+k) v).count true:Nat):Int)] (fun w3=>Turn (SlO b) w w3 F (o.set (64*i+k) v))->K w2) :
  ∃a,y.1=some a/\Wr w1 (a.add (i*1)) [.int .u64 (mi x)] K:=by
 have h1:=(Frame.hd ..).upd h hU fun _ _ h=>h
 have hS:=h1.sl
 obtain⟨a,ha,_⟩:=hS.cells.at1 (l:=ws) hi
 simp only at ha hS
 rw[ha]at hS
 refine⟨a,ha,hS.wr (o:=i*1) (by simp;omega) fun w2 hS2 hU2=>?_⟩
 have hB:=h1.blkU (w1:=w2) (by rw[ha];exact hU2)
 rw[Nat.mul_one]at hS2
 have e:[Value.int .u64 (mi x)]=[u64V x]:=rfl
 rw[e,setL_set hi]at hS2
 refine hK w2 (hB.cell rfl) (hB.wr (by simp[slE]) fun w3 hW=>?_)
 have hT:Turn (SlH b) w1 w3 F ((ws.set i x,o.set (64*i+k) v),y):=by
  refine h1.put (p':=y.1) (c':=y.2) (w1:=w2) ?_ (by rw[ha];exact hU2) (fun i hi=>.inl hi) ?_
  ·simp only[List.length_set]
   rw[ha];exact hS2
  ·have hW':=hW
   simp only[slE,List.length_set]
   exact hW'
 obtain⟨F',t1,t2,t3⟩:=hT
 exact⟨F',⟨_,y,t1,hw.set hi hk ho hx,by simpa using hl⟩,(hU.mono (fun _ _ h=>h.elim)).trans t2 (fun _ _ h=>h),fun i hi=>(t3 i hi).imp id (fun h=>Nat.le_trans hU.size h)⟩
theorem slGive_ok (h:SlO b w F o) (n:Int):Calls Tryz.prog 305 #[.pointer (some ⟨b,0,none⟩),.int .i64 n] w fun e w'=>e=.returned (.int .i64 (giveE_Slot o n))/\Turn (SlO b) w w' F (giveS_Slot o n):=by
 refine u305 ?_
 rw[t305]
 by_cases hn:1<=n/\n<=(o.length:Int)
 ·obtain⟨ws,y,h1,h2,h3⟩:=id h
  obtain⟨i,k,hk,ho,rfl⟩:=slot_split hn
  refine⟨(slBit_in h1 h2 h3 hk ho).mono ?_⟩
  rintro e w1 ⟨⟨a,ha,rfl⟩,hU⟩
  have h1':=(Frame.hd ..).upd h1 hU fun _ _ h=>h
  have hi:i<ws.length:=by have:=h2.len;omega
  obtain⟨a',ha',hc⟩:=h1'.sl.cells.at1 (l:=ws) hi
  obtain rfl:=Option.some.inj (ha.symm.trans ha')
  have hb:=bit_of (m:=ws[i]) hk
  have hx:=h2.bits i hi k hk
  rw[hx]at hb
  have hg:hasE_Slot o (((64*i+k:Nat):Int)+1)=o.getD (64*i+k) false:=hasE_of
  have hcl:=count_len o
  have hcs:=count_set ho false
  have hgd:o.getD (64*i+k) false=o[64*i+k]:=by simp[ho]
  refine⟨_,_,rfl,fun g=>by simp at g,fun _=>⟨fun _=>⟨_,rfl,_,hc,fun g=>?_,fun g=>?_⟩,fun g=>by simp at g⟩⟩
  ·have g:o.getD (64*i+k) false=false:=by rw[hb]at g;simpa using g
   rw[giveE_Slot,giveS_Slot,hg,g]
   exact⟨rfl,Turn.quiet h hU⟩
  ·have g:o.getD (64*i+k) false=true:=by rw[hb]at g;simpa using g
   rw[hgd]at g
   rw[g]at hcs
   simp only[if_true,Bool.false_eq_true,if_false]at hcs
   refine⟨_,rfl,_,hc,?_⟩
   rw[bits_not]
   obtain⟨a2,ha2,hW⟩:=slWr h1 h2 h3 hU hk ho hi (v:=false) (x:=ls ws[i] k) (fun j hj=>ls_bit hj) (K:=fun w2=>∃a,some (⟨b,0,none⟩:Addr)=some a/\∃n_1,w2.cell? (Addr.add a 2)=some (Value.int .i64 n_1)/\∃a,some (⟨b,0,none⟩:Addr)=some a/\Wr w2 (Addr.add a 2) [Value.int .i64 (IntKind.wrap .i64 (n_1-1))] fun w'=>Ending.returned (Value.int .i64 0)=Ending.returned (.int .i64 (giveE_Slot o (((64*i+k:Nat):Int)+1)))/\Turn (SlO b) w w' F (giveS_Slot o (((64*i+k:Nat):Int)+1)))
    (fun w2 c1 c2=>⟨_,rfl,_,c1,_,rfl,by
     rw[w64 (by omega),show((o.count true:Nat):Int)-1=(((o.set (64*i+k) false).count true:Nat):Int) by omega]
     obtain⟨⟨cc,T,r1,r2,r3,r4⟩⟩:=c2
     refine⟨⟨cc,T,r1,r2,r3,fun w' hw'=>⟨?_,?_⟩⟩⟩
     ·rw[giveE_Slot,hg,hgd,g];rfl
     ·rw[giveS_Slot,hg,hgd,g,if_pos rfl,show(((64*i+k:Nat):Int)+1).toNat-1=64*i+k by omega];exact r4 w' hw'⟩)
   obtain rfl:=Option.some.inj (ha.symm.trans ha2)
   exact⟨_,rfl,hW⟩
 ·have hf:hasE_Slot o n=false:=by
   cases hh:hasE_Slot o n with
   | false=>rfl
   | true=>exact absurd (hasE_in hh) hn
  refine⟨(slBit_out h hn).mono ?_⟩
  rintro e w1 ⟨rfl,rfl⟩
  rw[giveE_Slot,giveS_Slot,hf]
  exact⟨_,_,rfl,fun g=>by simp at g,fun _=>⟨fun g=>by simp at g,fun _=>⟨rfl,Turn.same h⟩⟩⟩
theorem slTake_ok (hT:Tab w) (h:SlO b w F o):Calls Tryz.prog 149 #[.pointer (some ⟨b,0,none⟩)] w fun e w'=>e=.returned (.tuple #[.int .i64 (takeE_Slot o).1,.int .i64 (takeE_Slot o).2])/\Turn (SlO b) w w' F (takeS_Slot o):=by
 obtain⟨ws,y,h1,h2,h3⟩:=id h
 have hcl:=count_len o
 refine u149 ?_
 rw[t149]
 refine⟨fun g=>by simp at g,fun _ w1 q1 q2 q3 q4=>?_⟩
 have hU:=Upd.same no q1 q2 q3 q4
 have h1':=(Frame.hd ..).upd h1 hU fun _ _ h=>h
 refine⟨_,rfl,_,h1'.blk.cell rfl,_,rfl,_,h1'.blk.cell rfl,fun g=>?_,fun g=>⟨_,rfl,_,_,_,h1'.blk.cell rfl,?_⟩⟩
 ·have g:o.count true=o.length:=by have:=eq_of_beq g;simp only at this;omega
  have hn:=count_full.1 g
  simp only[takeE_Slot,takeS_Slot,hn]
  exact⟨by trivial,Turn.quiet h hU⟩
 ·have g:o.count true≠o.length:=by have:=ne_of_beq_false g;simp only at this;omega
  have hlen:=h2.len
  refine⟨WP_loop okProg (M:=M149) (σ:=Nat) (fun j=>e149_1 (some ⟨b,0,none⟩) y.1 ws.length y.2 (ws.length:Int) (j:Int)) (fun j w'=>j<=ws.length/\(∀i,i<64*j->i<o.length->o.getD i false=true)/\Upd no w w') (fun j _=>ws.length-j) 0 ⟨rfl,rfl,rfl,rfl,trivial⟩ ⟨by omega,fun i hi=>by omega,hU⟩ ?_⟩
  clear h1' hU q1 q2 q3 q4
  rintro j w2 ⟨k1,k2,hU⟩
  rw[t149_1]
  have h1':=(Frame.hd ..).upd h1 hU fun _ _ h=>h
  refine⟨fun gj=>?_,fun gj=>?_⟩
  ·have hj:j<ws.length:=by simpa using gj
   obtain⟨a,ha,hc⟩:=h1'.sl.cells.at1 (l:=ws) hj
   refine⟨⟨by omega,by omega⟩,a,ha,_,hc,?_⟩
   show Call Tryz.prog _ [.int .u64 (bitsOp .xor .u64 (IntKind.max .u64) (mi ws[j]))] w2 _
   rw[show IntKind.max .u64=18446744073709551615 by decide +kernel,not_bits]
   refine⟨(tz_ok _ (hT.no hU)).mono ?_⟩
   rintro e w3 ⟨rfl,rfl⟩
   refine⟨_,rfl,fun g2=>?_,fun g2=>?_⟩
   ·have hne:=tz_lt.1 (of_decide_eq_true g2)
    obtain⟨k,hk,hb1,hb2⟩:=low_ex hne
    have htz:=tz_low hk hb1 hb2
    rw[htz]
    have nb:∀i:Nat,i<64->hs (~~~ ws[j]) (i:Int) = !(o.getD (64*j+i) false):=fun i hi=>by
     rw[hs_bit hi,BitVec.getLsbD_not,h2.bits j hj i hi];simp[hi]
    have hko:o.getD (64*j+k) false=false:=by have:=nb k hk;rw[hb1]at this;simpa using this.symm
    have hlow:∀i,i<64*j+k->i<o.length->o.getD i false=true:=fun i hi hio=>by
     by_cases hij:i<64*j
     ·exact k2 i hij hio
     ·have:=nb (i-64*j) (by omega)
      rw[hb2 _ (by omega),show 64*j+(i-64*j)=i by omega]at this
      simpa using this.symm
    have ho:64*j+k<o.length:=Decidable.byContradiction fun hno=>g (count_full.2 (List.findIdx?_eq_none_iff.2 fun x hx=>by
     obtain⟨i,hi,rfl⟩:=List.mem_iff_getElem.1 hx
     have:=hlow i (by omega) hi
     simp[hi]at this
     simp[this]))
    have hf:o.findIdx? (fun x=>!x)=some (64*j+k):=List.findIdx?_eq_some_iff_getElem.2 ⟨ho,by simp[ho]at hko;simp[hko],fun i hi=>by
     have:=hlow i hi (by omega)
     simp[show i<o.length by omega]at this
     simp[this]⟩
    have hcs:=count_set ho true
    have hgd:o[64*j+k]=false:=by simp[ho]at hko;exact hko
    rw[hgd]at hcs
    simp only[if_true,Bool.false_eq_true,if_false]at hcs
    have hcl2:=count_len (o.set (64*j+k) true)
    rw[List.length_set]at hcl2
    intro w4 q1 q2 q3 q4
    have hU4:=hU.and (Upd.same no q1 q2 q3 q4)
    have h4:=(Frame.hd ..).upd h1 hU4 fun _ _ h=>h
    obtain⟨a4,ha4,hc4⟩:=h4.sl.cells.at1 (l:=ws) hj
    refine⟨_,rfl,_,_,_,h4.blk.cell rfl,⟨by omega,by simp only;omega⟩,a4,ha4,_,hc4,by omega,⟨by omega,by simp only;omega⟩,a4,ha4,?_⟩
    show Wr w4 _ [.int .u64 (bitsOp .or .u64 (mi ws[j]) (shlOp .u64 1 (k:Int)))] _
    rw[shl_one (by omega),bits_or]
    obtain⟨a2,ha2,hW⟩:=slWr h1 h2 h3 hU4 hk ho hj (v:=true) (x:=wi ws[j] k) (fun i hi=>wi_bit hk hi) (K:=fun w5=>∃a,some (⟨b,0,none⟩:Addr)=some a/\∃n_1,w5.cell? (Addr.add a 2)=some (Value.int .i64 n_1)/\∃a,some (⟨b,0,none⟩:Addr)=some a/\Wr w5 (Addr.add a 2) [Value.int .i64 (IntKind.wrap .i64 (n_1+1))] fun w'=>Ending.returned (Value.tuple #[.int .i64 (IntKind.wrap .i64 (IntKind.wrap .i64 (IntKind.wrap .i64 ((j:Int)*64)+(k:Int))+1)),.int .i64 0])=Ending.returned (.tuple #[.int .i64 (takeE_Slot o).1,.int .i64 (takeE_Slot o).2])/\Turn (SlO b) w w' F (takeS_Slot o))
     (fun w5 c1 c2=>⟨_,rfl,_,c1,_,rfl,by
      rw[w64 (x:=((o.count true:Nat):Int)+1) (by omega),show((o.count true:Nat):Int)+1=(((o.set (64*j+k) true).count true:Nat):Int) by omega]
      obtain⟨⟨cc,T,r1,r2,r3,r4⟩⟩:=c2
      refine⟨⟨cc,T,r1,r2,r3,fun w' hw'=>⟨?_,?_⟩⟩⟩
      ·simp only[takeE_Slot,hf]
       rw[w64 (x:=(j:Int)*64) (by omega),w64 (x:=(j:Int)*64+(k:Int)) (by omega),w64 (by omega)]
       have:(j:Int)*64+(k:Int)+1=((64*j+k:Nat):Int)+1:=by omega
       rw[this]
      ·simp only[takeS_Slot,hf];exact r4 w' hw'⟩)
    obtain rfl:=Option.some.inj (ha4.symm.trans ha2)
    exact hW
   ·have g2:¬tz (~~~ ws[j])<64:=of_decide_eq_false g2
    have hz : ~~~ ws[j]=0:=Decidable.byContradiction fun hne=>g2 (tz_lt.2 hne)
    refine⟨j+1,⟨rfl,rfl,rfl,by rw[w64 (by omega)];rfl,trivial⟩,⟨by omega,fun i hi hio=>?_,hU⟩,by omega⟩
    by_cases hij:i<64*j
    ·exact k2 i hij hio
    ·have hb:=h2.bits j hj (i-64*j) (by omega)
     rw[show 64*j+(i-64*j)=i by omega]at hb
     rw[<-hb]
     have:=congrArg (fun m:BV=>m.getLsbD (i-64*j)) hz
     simp only[BitVec.getLsbD_not]at this
     simp[show i-64*j<64 by omega]at this
     exact this
  ·have:j=ws.length:=by simp at gj;omega
   subst this
   refine absurd (count_full.2 (List.findIdx?_eq_none_iff.2 fun x hx=>?_)) g
   obtain⟨i,hi,rfl⟩:=List.mem_iff_getElem.1 hx
   have:=k2 i (by omega) hi
   simp[hi]at this
   simp[this]
theorem slList_ok (h:SlO b w F o):Calls Tryz.prog 272 #[.pointer (some ⟨b,0,none⟩)] w fun e w'=>∃p c,e=.returned (.slice p (outL o o.length).length c)/\Loc w w' 3 p c (outL o o.length):=by
 have hl:o.length<=1024:=by obtain⟨_,_,_,_,h3⟩:=h;exact h3.2
 refine u272 ?_
 rw[t272]
 refine⟨(slCap_ok h).mono ?_⟩
 rintro e w1 ⟨rfl,rfl⟩
 refine⟨_,rfl,⟨WP_loop okProg (M:=M272) (σ:=Nat×Option Addr×Nat) (fun s=>e272_1 (some ⟨b,0,none⟩) s.2.1 (outL o s.1).length s.2.2 (o.length:Int) (s.1:Int))
  (fun s w'=>s.1<=o.length/\Loc w1 w' 3 s.2.1 s.2.2 (outL o s.1)) (fun s _=>o.length-s.1) (0,none,0) ⟨rfl,rfl,rfl,rfl,trivial⟩ ⟨by omega,Loc.nil (Upd.refl _ _) _⟩ ?_⟩⟩
 rintro⟨j,p,c⟩ w2 ⟨k1,hL⟩
 simp only at k1 hL⊢
 rw[t272_1]
 have hs1:=outL_succ o j
 have hle:=outL_le o j
 refine⟨fun g=>?_,fun g=>?_⟩
 ·have hj:j<o.length:=by simpa using g
  rw[w64 (x:=(j:Int)+1) (by omega)]
  have h2:SlO b w2 F o:=(Frame.slo b).upd h hL.U fun _ _ h=>h
  refine⟨(slHas_ok h2 _).mono ?_⟩
  rintro e w3 ⟨rfl,hU⟩
  have hL3:=hL.upd hU
  rw[hasE_of]
  refine⟨_,rfl,fun g2=>⟨fun w4 hN=>?_⟩,fun g2=>?_⟩
  ·rw[if_pos g2]at hs1
   obtain⟨p',c',w5,hr,hL'⟩:=hL3.push elI_Lst (by omega) hN 36
   exact⟨p',_,c',w5,hr,(j+1,p',c'),⟨rfl,by rw[hs1];rfl,rfl,rfl,trivial⟩,⟨by simp only;omega,by rw[hs1];exact hL'⟩,by simp only;omega⟩
  ·rw[if_neg (by rw[g2];decide)]at hs1
   exact⟨(j+1,p,c),⟨rfl,by rw[hs1];rfl,rfl,rfl,trivial⟩,⟨by simp only;omega,by rw[hs1];exact hL3⟩,by simp only;omega⟩
 ·have:j=o.length:=by simp at g;omega
  subst this
  exact⟨p,c,rfl,hL⟩
end
end Go.Dav
namespace Go.Dav
theorem hasE_set {o:List Bool} {k:Nat} (hk:k<o.length) (v:Bool) (n:Int):hasE_Slot (o.set k v) n=if n=(k:Int)+1 then v else hasE_Slot o n:=by
 unfold hasE_Slot
 by_cases h1:1<=n
 ·rw[if_pos h1,if_pos h1]
  by_cases hn:n=(k:Int)+1
  ·subst hn
   have e1:((k:Int)+1).toNat-1=k:=by omega
   rw[if_pos rfl,e1]
   simp[List.getD_eq_getElem?_getD,hk]
  ·rw[if_neg hn]
   have:k≠n.toNat-1:=by omega
   simp[List.getD_eq_getElem?_getD,this]
 ·rw[if_neg h1,if_neg h1,if_neg (by omega)]
theorem give_has {o:List Bool} {n:Int} (h:hasE_Slot o n=true):giveE_Slot o n=0/\∀v,hasE_Slot (giveS_Slot o n) v=(hasE_Slot o v&&decide (v≠n)):=by
 obtain⟨h1,h2⟩:=hasE_in h
 refine⟨by rw[giveE_Slot,if_pos h],fun v=>?_⟩
 rw[giveS_Slot,if_pos h,hasE_set (by omega)]
 by_cases hv:v=n
 ·rw[if_pos (by omega),hv];simp
 ·rw[if_neg (by omega),decide_eq_true (show v≠n from hv),Bool.and_true]
theorem take_of {o:List Bool} {j:Nat} (hj:j<o.length) (h1:∀k,k<j->hasE_Slot o ((k:Int)+1)=true) (h2:hasE_Slot o ((j:Int)+1)=false):takeE_Slot o=((j:Int)+1,0)/\takeS_Slot o=o.set j true:=by
 have hf:o.findIdx? (fun x=>!x)=some j:=by
  rw[List.findIdx?_eq_some_iff_getElem]
  rw[hasE_of]at h2
  refine⟨hj,by simpa [List.getD_eq_getElem?_getD,hj]using h2,fun k hk=>?_⟩
  have:=h1 k hk
  rw[hasE_of]at this
  have hk2:k<o.length:=by omega
  simpa [List.getD_eq_getElem?_getD,hk2]using this
 unfold takeE_Slot takeS_Slot
 rw[hf]
 exact⟨rfl,rfl⟩
theorem take_no {o:List Bool} (h1:∀k,k<o.length->hasE_Slot o ((k:Int)+1)=true):takeE_Slot o=(0,5)/\takeS_Slot o=o:=by
 have hf:o.findIdx? (fun x=>!x)=none:=by
  rw[List.findIdx?_eq_none_iff]
  intro v hv
  obtain⟨k,hk,rfl⟩:=List.getElem_of_mem hv
  have:=h1 k hk
  rw[hasE_of]at this
  simpa [List.getD_eq_getElem?_getD,hk]using this
 unfold takeE_Slot takeS_Slot
 rw[hf]
 exact⟨rfl,rfl⟩
theorem take_cases (o:List Bool):(∃j:Nat,j<o.length/\takeE_Slot o=((j:Int)+1,0)/\takeS_Slot o=o.set j true/\hasE_Slot o ((j:Int)+1)=false)∨(takeE_Slot o=(0,5)/\takeS_Slot o=o):=by
 unfold takeE_Slot takeS_Slot
 cases hf:o.findIdx? (fun x=>!x)with
 | none=>exact .inr ⟨rfl,rfl⟩
 | some j=>
  obtain⟨hj,h1,_⟩:=List.findIdx?_eq_some_iff_getElem.1 hf
  refine .inl ⟨j,hj,rfl,rfl,?_⟩
  rw[hasE_of]
  simpa [List.getD_eq_getElem?_getD,hj]using h1
end Go.Dav
namespace Go.Dav
def FamL {σ:Type} (A:Ob σ):List σ->World->Fp->Prop
 | [],_,F=>∀i,¬F i
 | s::l,w,F=>∃F1 F2,A w F1 s/\FamL A l w F2/\(∀i,F i↔F1 i∨F2 i)/\∀i,F1 i->¬F2 i
def Fam {σ:Type} (A:Ob σ):Ob (List σ):=fun w F l=>FamL A l w F
section
variable {σ:Type} {A:Ob σ} {w w':World} {F:Fp} {l:List σ} {s:σ}
theorem FamL.upd [fa:Frame A]:∀{l:List σ} {F G:Fp},FamL A l w F->Upd G w w'->(∀i,F i->¬G i)->FamL A l w' F
 | [],_,_,h,_,_=>h
 | s::l,F,G,⟨F1,F2,h1,h2,h3,h4⟩,k,hG=>
  ⟨F1,F2,fa.upd h1 k (fun i hi=>hG i ((h3 i).2 (.inl hi))),FamL.upd h2 k (fun i hi=>hG i ((h3 i).2 (.inr hi))),h3,h4⟩
theorem FamL.lt [fa:Frame A]:∀{l:List σ} {F:Fp},FamL A l w F->∀i,F i->i<w.heap.size
 | [],_,h,i,hi=>absurd hi (h i)
 | s::l,F,⟨F1,F2,h1,h2,h3,h4⟩,i,hi=>((h3 i).1 hi).elim (fa.lt h1 i) (FamL.lt h2 i)
instance Frame.fam [Frame A]:Frame (Fam A) where
 upd:=FamL.upd
 lt:=FamL.lt
theorem Fam.nil (w:World):Fam A w (fun _=>False) []:=fun _ h=>h
theorem Fam.rep {n:Nat} (h:A w (fun _=>False) s):Fam A w (fun _=>False) (List.replicate n s):=by
 induction n with
 | zero=>exact Fam.nil w
 | succ n ih=>exact⟨_,_,h,ih,fun i=>by simp,fun _ h=>h.elim⟩
theorem Fam.at [fa:Frame A]:∀{l:List σ} {F:Fp} (_:Fam A w F l) {i:Nat} (hi:i<l.length),∃F1,A w F1 l[i]/\(∀j,F1 j->F j)/\∀w' s',Turn A w w' F1 s'->Turn (Fam A) w w' F (l.set i s')
 | s::l,F,h,0,_=>by
  obtain⟨F1,h1,h2⟩:=Star.left (A:=A) (B:=Fam A) (x:=(s,l)) h
  obtain⟨F1,F2,h1,h2,h3,h4⟩:=h
  refine⟨F1,h1,fun j hj=>(h3 j).2 (.inl hj),fun w' s' k=>?_⟩
  obtain⟨F',k1,k2,k3⟩:=k
  refine⟨fun i=>F' i∨F2 i,⟨F',F2,k1,FamL.upd h2 k2 (fun i hi hf=>h4 i hf hi),fun _=>Iff.rfl,fun i hi hf=>?_⟩,k2.mono (fun i _ hi=>(h3 i).2 (.inl hi)),fun i hi=>?_⟩
  ·rcases k3 i hi with h|h
   ·exact h4 i h hf
   ·have:=FamL.lt h2 i hf;omega
  ·rcases hi with hi|hi
   ·exact(k3 i hi).imp (fun h=>(h3 i).2 (.inl h)) id
   ·exact .inl ((h3 i).2 (.inr hi))
 | s::l,F,⟨G1,G2,h1,h2,h3,h4⟩,i+1,hi=>by
  obtain⟨F1,k1,k0,k2⟩:=Fam.at (l:=l) (F:=G2) h2 (i:=i) (by simpa using hi)
  refine⟨F1,k1,fun j hj=>(h3 j).2 (.inr (k0 j hj)),fun w' s' k=>?_⟩
  obtain⟨F',q1,q2,q3⟩:=k2 w' s' k
  refine⟨fun i=>G1 i∨F' i,⟨G1,F',fa.upd h1 q2 h4,q1,fun _=>Iff.rfl,fun i hi hf=>?_⟩,q2.mono (fun i _ hi=>(h3 i).2 (.inr hi)),fun i hi=>?_⟩
  ·rcases q3 i hf with h|h
   ·exact h4 i hi h
   ·have:=fa.lt h1 i hi;omega
  ·rcases hi with hi|hi
   ·exact .inl ((h3 i).2 (.inl hi))
   ·exact(q3 i hi).imp (fun h=>(h3 i).2 (.inr h)) id
theorem Fam.atU [fa:Frame A]:∀{l:List σ} {F:Fp} (_:Fam A w F l) {i:Nat} (hi:i<l.length),∃F1,(∀j,F1 j->F j)/\∀w1 G,Upd G w w1->(∀j,F j->¬G j)->A w1 F1 l[i]/\∀w' s',Turn A w1 w' F1 s'->Turn (Fam A) w1 w' F (l.set i s')
 | s::l,F,h,0,_=>by
  obtain⟨F1,F2,h1,h2,h3,h4⟩:=h
  refine⟨F1,fun j hj=>(h3 j).2 (.inl hj),fun w1 G hU hG=>?_⟩
  have h1':=fa.upd h1 hU (fun i hi=>hG i ((h3 i).2 (.inl hi)))
  have h2':=FamL.upd h2 hU (fun i hi=>hG i ((h3 i).2 (.inr hi)))
  refine⟨h1',fun w' s' k=>?_⟩
  obtain⟨F',k1,k2,k3⟩:=k
  refine⟨fun i=>F' i∨F2 i,⟨F',F2,k1,FamL.upd h2' k2 (fun i hi hf=>h4 i hf hi),fun _=>Iff.rfl,fun i hi hf=>?_⟩,k2.mono (fun i _ hi=>(h3 i).2 (.inl hi)),fun i hi=>?_⟩
  ·rcases k3 i hi with h|h
   ·exact h4 i h hf
   ·have:=FamL.lt h2' i hf;omega
  ·rcases hi with hi|hi
   ·exact(k3 i hi).imp (fun h=>(h3 i).2 (.inl h)) id
   ·exact .inl ((h3 i).2 (.inr hi))
 | s::l,F,⟨G1,G2,h1,h2,h3,h4⟩,i+1,hi=>by
  obtain⟨F1,k0,k1⟩:=Fam.atU (l:=l) (F:=G2) h2 (i:=i) (by simpa using hi)
  refine⟨F1,fun j hj=>(h3 j).2 (.inr (k0 j hj)),fun w1 G hU hG=>?_⟩
  obtain⟨q0,q1⟩:=k1 w1 G hU (fun j hj=>hG j ((h3 j).2 (.inr hj)))
  have h1':=fa.upd h1 hU (fun i hi=>hG i ((h3 i).2 (.inl hi)))
  refine⟨q0,fun w' s' k=>?_⟩
  obtain⟨F',q1,q2,q3⟩:=q1 w' s' k
  refine⟨fun i=>G1 i∨F' i,⟨G1,F',fa.upd h1' q2 h4,q1,fun _=>Iff.rfl,fun i hi hf=>?_⟩,q2.mono (fun i _ hi=>(h3 i).2 (.inr hi)),fun i hi=>?_⟩
  ·rcases q3 i hf with h|h
   ·exact h4 i hi h
   ·have:=fa.lt h1' i hi;omega
  ·rcases hi with hi|hi
   ·exact .inl ((h3 i).2 (.inl hi))
   ·exact(q3 i hi).imp (fun h=>(h3 i).2 (.inr h)) id
theorem Fam.push [fa:Frame A]:∀{l:List σ} {F:Fp} (_:Fam A w F l) (_:Upd no w w') {G:Fp} (_:A w' G s) (_:∀i,G i->w.heap.size<=i),Turn (Fam A) w w' F (l++[s])
 | [],F,h,k,G,hA,hG=>⟨G,⟨G,fun _=>False,hA,fun _ h=>h,fun i=>by simp,fun _ _ h=>h⟩,k.mono (fun _ _ h=>h.elim),fun i hi=>.inr (hG i hi)⟩
 | t::l,F,⟨G1,G2,h1,h2,h3,h4⟩,k,G,hA,hG=>by
  obtain⟨F',q1,q2,q3⟩:=Fam.push (l:=l) (F:=G2) h2 k hA hG
  refine⟨fun i=>G1 i∨F' i,⟨G1,F',fa.upd h1 k (fun _ _ h=>h),q1,fun _=>Iff.rfl,fun i hi hf=>?_⟩,k.mono (fun _ _ h=>h.elim),fun i hi=>?_⟩
  ·rcases q3 i hf with h|h
   ·exact h4 i hi h
   ·have:=fa.lt h1 i hi;omega
  ·rcases hi with hi|hi
   ·exact .inl ((h3 i).2 (.inl hi))
   ·exact(q3 i hi).imp (fun h=>(h3 i).2 (.inr h)) id
end
section
variable {T:TypeId} {w w':World} {F:Fp} {p:Option Addr} {c:Nat} {l:List Int}
theorem Ls.cells (h:Ls T w F (p,c,l)):Cells w p (l.map (Value.int .i64)):=h.2.cells
theorem Ls.zero (h:Ls T w F (p,c,l)) (hp:p=none):l=[]/\c=0:=by
 obtain⟨_,_,_,h4⟩:=h.2
 subst hp
 exact⟨List.eq_nil_of_length_eq_zero h4.1,h4.2⟩
theorem Ls.room (h:Ls T w F (p,c,l)):l.length<=c:=h.2.2.1
theorem Ls.behind (h:Ls T w F (p,c,l)) {k:Nat} (hk:k<=l.length):Turn (Ls T) w w F (subA p c k 1,c-k,l.drop k):=by
 refine⟨fpS (subA p c k 1),⟨fun _=>Iff.rfl,?_⟩,Upd.refl _ _,fun i hi=>.inl ((h.1 i).2 (fpS_sub i hi))⟩
 have:=h.2.dropN k hk
 rw[Nat.mul_one,<-List.map_drop]at this
 simp only[List.length_drop]
 exact this
theorem Ls.first (h:Ls T w F (p,c,l)) {k:Nat} (hk:k<=l.length):Turn (Ls T) w w F (subA p k 0 1,k,l.take k):=by
 obtain⟨hF,h1,h2,h3,h4⟩:=h
 simp only at hF h1 h2 h3 h4
 have hkc:k<=c:=Nat.le_trans hk h2
 refine⟨fpS (subA p k 0 1),⟨fun _=>Iff.rfl,?_⟩,Upd.refl _ _,fun i hi=>.inl ((hF i).2 (fpS_sub i hi))⟩
 simp only[subA_zero,List.length_take,Nat.min_eq_left hk]
 refine⟨by simp;omega,Nat.le_refl _,by omega,?_⟩
 cases p with
 | none=>obtain⟨q1,q2⟩:=h4;exact⟨by omega,by omega⟩
 | some a=>
  obtain⟨cells,hb,hs,hl,ht⟩:=h4
  refine⟨cells,hb,hs,by omega,?_⟩
  rw[List.map_take,<-ht,List.take_take]
  congr 1
  omega
theorem Ls.empty (h:Ls T w F (p,c,l)):Turn (Ls T) w w F (none,0,[]):=⟨fun _=>False,⟨fun i=>⟨fun h=>h.elim,fun⟨a,ha,_⟩=>by cases ha⟩,Sl.nil _ _ _⟩,Upd.refl _ _,fun _ h=>h.elim⟩
theorem Ls.more {P:Program} {t:TypeId} {z:List Value} (he:ElemT P t T 1 8 z) (h:Ls T w F (p,c,l)) {q:Option Addr} {m:List Int} {d:Nat} (hq:Cells w q (m.map (Value.int .i64))) (hqn:q=none->d=0) (hb:l.length+m.length<=1048576) (ty:TypeId) :
  ∃p' c' w2,(Builtin.append_ #[t,t] ty #[.slice p l.length c,.slice q m.length d]).run P w=.ok (.slice p' (l++m).length c') w2/\Turn (Ls T) w w2 F (p',c',l++m):=by
 obtain⟨p',n',c',w2,hr,hn,hS,hU,hF⟩:=run_append he h.2 hq (m:=m.length) (d:=d) (by simp) (by simp[Value.oneCell']) hqn (by simp only;omega) (by simp only;omega) ty
 simp only at hn hS hU hF
 subst hn
 refine⟨p',c',w2,by rw[List.length_append];exact hr,fpS p',⟨fun _=>Iff.rfl,?_⟩,hU.mono (fun i _ hi=>(h.1 i).2 hi),fun i hi=>(hF i hi).imp (fun k=>(h.1 i).2 k) id⟩
 simp only[List.length_append,List.map_append]
 exact hS
theorem Ls.fresh {p':Option Addr} {c':Nat} {l':List Int} (k:Loc w w' T p' c' l'):Turn (Ls T) w w' F (p',c',l'):=
 ⟨fpS p',⟨fun _=>Iff.rfl,k.S⟩,k.U.mono (fun _ _ h=>h.elim),fun i hi=>.inr (k.F i hi)⟩
end
section
variable {w w1 w':World} {F:Fp}
abbrev Lst:=Option Addr×Nat×List Int
def hdI (y:Lst):Value:=.slice y.1 y.2.2.length y.2.1
def rws (ys:List Lst):List (List Int):=ys.map (·.2.2)
theorem rws_len (ys:List Lst):(rws ys).length=ys.length:=by simp[rws]
theorem rws_at (ys:List Lst) {i:Nat} (hi:i<ys.length):(rws ys)[i]'(by rw[rws_len];exact hi)=ys[i].2.2:=by simp[rws]
theorem rws_set (ys:List Lst) (i:Nat) (p:Option Addr) (c:Nat) (l:List Int):rws (ys.set i (p,c,l))=(rws ys).set i l:=by simp[rws,List.map_set]
def Tb (b:Nat) (T E I:TypeId) (enc:Option Addr->Nat->Nat->List Value):Ob (List (List Int)):=fun w F x=>∃y ys,
 Star (Hd b T E 1 (fun(ys:List Lst) p c=>enc p ys.length c) (fun ys=>ys.length) (fun ys=>ys.map hdI)) (Fam (Ls I)) w F ((ys,y),ys)/\rws ys=x
variable {b:Nat} {T E I:TypeId} {enc:Option Addr->Nat->Nat->List Value} {x:List (List Int)}
instance Frame.tb:Frame (Tb b T E I enc) where
 upd:=fun⟨y,ys,h,r⟩ k hG=>⟨y,ys,Frame.star.upd h k hG,r⟩
 lt:=fun⟨_,_,h,_⟩=>Frame.star.lt h
theorem Tb.blk (h:Tb b T E I enc w F x):∃p c,Blk w b (enc p x.length c) T:=by
 obtain⟨y,ys,h,rfl⟩:=h
 obtain⟨F1,h1,_⟩:=h.left
 rw[rws_len]
 exact⟨_,_,h1.blk⟩
structure TbAt (b:Nat) (T E I:TypeId) (enc:Option Addr->Nat->Nat->List Value) (w:World) (F:Fp) (x:List (List Int)) (i:Nat) (l:List Int) (a:Addr) (c0:Nat) (p:Option Addr) (c:Nat) (F1:Fp):Prop where
 ls:Ls I w F1 (p,c,l)
 sub:∀i,F1 i->F i
 blk:∀w',Upd F1 w w'->Blk w' b (enc (some a) x.length c0) T
 cell:∀w',Upd F1 w w'->w'.cell? (a.add (i*1))=some (.slice p l.length c)
 put:∀w1 p' c' l',Turn (Ls I) w w1 F1 (p',c',l')->∀K:World->Prop,(∀w',Turn (Tb b T E I enc) w w' F (x.set i l')->K w')->Wr w1 (a.add (i*1)) [.slice p' l'.length c'] K
def TbR (b:Nat) (T E I:TypeId) (enc:Option Addr->Nat->Nat->List Value) (w:World) (F:Fp) (x:List (List Int)) (i:Nat) (a:Addr) (c0:Nat) (p:Option Addr) (c:Nat):Prop:=∃ys,
 Star (Hd b T E 1 (fun(ys:List Lst) p c=>enc p ys.length c) (fun ys=>ys.length) (fun ys=>ys.map hdI)) (Fam (Ls I)) w F ((ys,(some a,c0)),ys)/\rws ys=x/\∃hi:i<ys.length,ys[i].1=p/\ys[i].2.1=c
theorem TbR.upd {i:Nat} {a:Addr} {c0:Nat} {p:Option Addr} {c:Nat} {G:Fp} (h:TbR b T E I enc w F x i a c0 p c) (k:Upd G w w') (hG:∀i,F i->¬G i):TbR b T E I enc w' F x i a c0 p c:=by
 obtain⟨ys,h,r⟩:=h
 exact⟨ys,Frame.star.upd h k hG,r⟩
theorem Upd.nn {F:Fp} (h:Upd no w w'):Upd F w w':=h.mono (fun _ _ h=>h.elim)
theorem TbAt.blk0 {i:Nat} {l:List Int} {a:Addr} {c0:Nat} {p:Option Addr} {c:Nat} {F1:Fp} (h:TbAt b T E I enc w F x i l a c0 p c F1):Blk w b (enc (some a) x.length c0) T:=h.blk _ (Upd.refl _ _)
theorem TbAt.cell0 {i:Nat} {l:List Int} {a:Addr} {c0:Nat} {p:Option Addr} {c:Nat} {F1:Fp} (h:TbAt b T E I enc w F x i l a c0 p c F1):w.cell? (a.add (i*1))=some (.slice p l.length c):=h.cell _ (Upd.refl _ _)
theorem TbAt.cells {i:Nat} {l:List Int} {a:Addr} {c0:Nat} {p:Option Addr} {c:Nat} {F1:Fp} (h:TbAt b T E I enc w F x i l a c0 p c F1):Cells w p (l.map (Value.int .i64)):=h.ls.cells
theorem Tb.raw (h:Tb b T E I enc w F x) {i:Nat} (hi:i<x.length):∃a c0 p c,TbR b T E I enc w F x i a c0 p c:=by
 obtain⟨⟨y1,y2⟩,ys,h,rfl⟩:=h
 have hi':i<ys.length:=by simpa [rws]using hi
 obtain⟨F1,h1,_⟩:=h.left
 obtain⟨a,ha,hc⟩:=h1.sl.cells.at1 (f:=hdI) (l:=ys) hi'
 simp only at ha
 subst ha
 exact⟨a,y2,_,_,ys,h,rfl,hi',rfl,rfl⟩
theorem TbR.open {i:Nat} {a:Addr} {c0:Nat} {p:Option Addr} {c:Nat} (h:TbR b T E I enc w F x i a c0 p c) (hi:i<x.length):∃F1,TbAt b T E I enc w F x i x[i] a c0 p c F1:=by
 obtain⟨ys,h,rfl,hi',rfl,rfl⟩:=h
 obtain⟨G1,G2,h1,h2,h3,h4⟩:=h
 simp only at h1 h2
 obtain⟨F1,k1,k0,k2⟩:=Fam.at h2 hi'
 have hU:∀w',Upd F1 w w'->Hd b T E 1 (fun(ys:List Lst) p c=>enc p ys.length c) (fun ys=>ys.length) (fun ys=>ys.map hdI) w' G1 (ys,(some a,c0)):=fun w' k=>(Frame.hd ..).upd h1 k (fun j hj hf=>h4 j hj (k0 j hf))
 refine⟨F1,?_,fun j hj=>(h3 j).2 (.inr (k0 j hj)),fun w' k=>?_,fun w' k=>?_,fun w1 p' c' l' k K hK=>?_⟩
 ·rw[rws_at _ hi']
  exact k1
 ·rw[rws_len]
  exact(hU w' k).blk
 ·obtain⟨a',ha',hc'⟩:=(hU w' k).sl.cells.at1 (f:=hdI) (l:=ys) hi'
  cases ha'
  rw[hc',rws_at _ hi']
  rfl
 ·obtain⟨F',q1,q2,q3⟩:=k2 _ _ k
  have h1':=(Frame.hd ..).upd h1 q2 h4
  refine h1'.sl.wr (o:=i*1) (by simp;omega) fun w' hS hV=>hK w' ?_
  rw[Nat.mul_one]at hS
  have e1:setL (ys.map hdI) i [.slice p' l'.length c']=(ys.set i (p',c',l')).map hdI:=by
   have:=setL_set (f:=hdI) (r:=ys) hi' (v:=(p',c',l'))
   exact this
  rw[e1]at hS
  have hT:=h1'.elems (w':=w') (s':=ys.set i (p',c',l')) (by simp only[List.length_set];exact hS) hV (by simp only[List.length_set])
  obtain⟨H',t1,t2,t3⟩:=hT
  have hlt:=(Frame.hd ..).lt h1
  refine⟨fun j=>H' j∨F' j,⟨(some a,c0),ys.set i (p',c',l'),⟨H',F',t1,Frame.fam.upd q1 t2 ?_,fun _=>Iff.rfl,?_⟩,rws_set ..⟩,?_,?_⟩
  ·intro j hj hf
   rcases q3 j hj with h|h
   ·exact h4 j hf h
   ·have:=hlt j hf;omega
  ·intro j hj hf
   rcases t3 j hj with h|h
   ·rcases q3 j hf with h'|h'
    ·exact h4 j h h'
    ·have:=hlt j h;omega
   ·have:=Frame.fam.lt q1 j hf;omega
  ·exact(q2.mono (fun j _ hj=>(h3 j).2 (.inr hj))).trans t2 (fun j _ hj=>(h3 j).2 (.inl hj))
  ·rintro j (hj|hj)
   ·rcases t3 j hj with h|h
    ·exact .inl ((h3 j).2 (.inl h))
    ·exact .inr (Nat.le_trans q2.size h)
   ·rcases q3 j hj with h|h
    ·exact .inl ((h3 j).2 (.inr h))
    ·exact .inr h
theorem Tb.new {n:Nat} {p:Option Addr} {c:Nat} {cs:List Value} (hU:Upd no w w1) (hS:Sl w1 E 1 p n c (List.replicate n (Value.slice none 0 0))) (hp:∀i,fpS p i->w.heap.size<=i) (hN:Newed w1 w' (.cells cs.toArray T (0,0))) (he:enc p n c=cs) :
  Tb w1.heap.size T E I enc w' (fun i=>i=w1.heap.size∨fpS p i) (List.replicate n []):=by
 have e0:(List.replicate n ((none,0,[]):Lst)).map hdI=List.replicate n (Value.slice none 0 0):=by simp[hdI]
 refine⟨(p,c),List.replicate n (none,0,[]),⟨fun i=>i=w1.heap.size∨fpS p i,fun _=>False,⟨?_,?_,?_,fun _=>Iff.rfl⟩,Fam.rep ⟨fun i=>⟨fun h=>h.elim,fun⟨a,ha,_⟩=>by cases ha⟩,Sl.nil _ _ _⟩,fun i=>by simp,fun _ _ h=>h⟩,by simp[rws]⟩
 ·simp only[List.length_replicate]
  rw[he]
  exact hN.blk'
 ·simp only[List.length_replicate]
  rw[e0]
  exact hS.upd (hN.upd no) (fun _ _ h=>h)
 ·intro h
  exact absurd (hS.lt _ h) (Nat.lt_irrefl _)
end
end Go.Dav
namespace Go.Dav
def At {σ:Type} (A:Nat->Ob σ):Ob (Nat×σ):=fun w F x=>A x.1 w F x.2
def ptV {σ:Type} (x:Nat×σ):Value:=.pointer (some ⟨x.1,0,none⟩)
instance Frame.at {σ:Type} {A:Nat->Ob σ} [fa:∀b,Frame (A b)]:Frame (At A) where
 upd:=fun h k hG=>(fa _).upd h k hG
 lt:=fun h=>(fa _).lt h
abbrev TqH (σ:Type) (b:Nat) (T E:TypeId) (enc:Option Addr->Nat->Nat->List Value):Ob (List (Nat×σ)×Option Addr×Nat):=Hd b T E 1 (fun qs p c=>enc p qs.length c) (fun qs=>qs.length) (fun qs=>qs.map ptV)
def Tq {σ:Type} (A:Nat->Ob σ) (b:Nat) (T E:TypeId) (enc:Option Addr->Nat->Nat->List Value):Ob (List σ):=fun w F x=>∃y qs,Star (TqH σ b T E enc) (Fam (At A)) w F ((qs,y),qs)/\qs.map (·.2)=x
section
variable {σ:Type} {A:Nat->Ob σ} [fa:∀b,Frame (A b)] {b:Nat} {T E:TypeId} {enc:Option Addr->Nat->Nat->List Value} {w w1 w':World} {F:Fp} {x:List σ}
instance Frame.tq:Frame (Tq A b T E enc) where
 upd:=fun⟨y,qs,h,r⟩ k hG=>⟨y,qs,Frame.star.upd h k hG,r⟩
 lt:=fun⟨_,_,h,_⟩=>Frame.star.lt h
theorem Tq.blk (h:Tq A b T E enc w F x):∃p c,Blk w b (enc p x.length c) T:=by
 obtain⟨y,qs,h,rfl⟩:=h
 obtain⟨F1,h1,_⟩:=h.left
 rw[List.length_map]
 exact⟨_,_,h1.blk⟩
theorem Tq.at (h:Tq A b T E enc w F x) {i:Nat} (hi:i<x.length):∃a c bi F1,Blk w b (enc (some a) x.length c) T/\w.cell? (a.add (i*1))=some (.pointer (some ⟨bi,0,none⟩))/\A bi w F1 x[i]/\
  ∀w' s',Turn (A bi) w w' F1 s'->Turn (Tq A b T E enc) w w' F (x.set i s'):=by
 obtain⟨⟨p,c⟩,qs,h,rfl⟩:=h
 have hi':i<qs.length:=by simpa using hi
 obtain⟨G1,h1,_⟩:=h.left
 obtain⟨G2,h2,k2⟩:=h.right
 simp only at h1 h2
 obtain⟨a,ha,hc⟩:=h1.sl.cells.at1 (f:=ptV) (l:=qs) hi'
 simp only at ha
 subst ha
 obtain⟨F1,q1,_,q2⟩:=Fam.at h2 hi'
 refine⟨a,c,qs[i].1,F1,by rw[List.length_map];exact h1.blk,hc,by rw[List.getElem_map];exact q1,fun w' s' hT=>?_⟩
 obtain⟨F1',t1,t2,t3⟩:=hT
 have hk:=k2 _ _ (q2 w' (qs[i].1,s') ⟨F1',t1,t2,t3⟩)
 obtain⟨F',⟨H1,H2,u1,u2,u3,u4⟩,v2,v3⟩:=hk
 simp only at u1 u2
 have e1:(qs.set i (qs[i].1,s')).map (ptV (σ:=σ))=qs.map ptV:=by
  rw[List.map_set]
  show(qs.map ptV).set i (ptV qs[i])=qs.map ptV
  apply List.ext_getElem?
  intro j
  rw[List.getElem?_set]
  by_cases hj:i=j
  ·subst hj;simp[hi']
  ·simp[hj]
 refine⟨F',⟨(some a,c),qs.set i (qs[i].1,s'),⟨H1,H2,?_,u2,u3,u4⟩,?_⟩,v2,v3⟩
 ·obtain⟨a1,a2,a3,a4⟩:=u1
  refine⟨?_,?_,a3,a4⟩
  ·simp only[List.length_set];exact a1
  ·simp only[List.length_set];rw[e1];exact a2
 ·rw[List.map_set]
theorem Tq.atU (h:Tq A b T E enc w F x) {i:Nat} (hi:i<x.length):∃a c bi F1,∀w1 G,Upd G w w1->(∀j,F j->¬G j)->Blk w1 b (enc (some a) x.length c) T/\w1.cell? (a.add (i*1))=some (.pointer (some ⟨bi,0,none⟩))/\A bi w1 F1 x[i]/\
  ∀w' s',Turn (A bi) w1 w' F1 s'->Turn (Tq A b T E enc) w1 w' F (x.set i s'):=by
 obtain⟨⟨p,c⟩,qs,h,rfl⟩:=h
 have hi':i<qs.length:=by simpa using hi
 obtain⟨G1,G2,h1,h2,h3,h4⟩:=h
 simp only at h1 h2
 obtain⟨a,ha,hc⟩:=h1.sl.cells.at1 (f:=ptV) (l:=qs) hi'
 simp only at ha
 subst ha
 obtain⟨F1,q0,q2⟩:=Fam.atU h2 hi'
 refine⟨a,c,qs[i].1,F1,fun w1 G hU hG=>?_⟩
 have hG1:∀j,G1 j->¬G j:=fun j hj=>hG j ((h3 j).2 (.inl hj))
 have hG2:∀j,G2 j->¬G j:=fun j hj=>hG j ((h3 j).2 (.inr hj))
 have h1':=(Frame.hd ..).upd h1 hU hG1
 have h2':=Frame.fam.upd h2 hU hG2
 obtain⟨p1,p2⟩:=q2 w1 G hU hG2
 obtain⟨a',ha',hc'⟩:=h1'.sl.cells.at1 (f:=ptV) (l:=qs) hi'
 cases ha'
 have hS:Star (TqH σ b T E enc) (Fam (At A)) w1 F ((qs,(some a,c)),qs):=⟨G1,G2,h1',h2',h3,h4⟩
 refine⟨by rw[List.length_map];exact h1'.blk,hc',by rw[List.getElem_map];exact p1,fun w' s' hT=>?_⟩
 obtain⟨F1',t1,t2,t3⟩:=hT
 obtain⟨F2',u1,u2,u3⟩:=p2 w' (qs[i].1,s') ⟨F1',t1,t2,t3⟩
 have e1:(qs.set i (qs[i].1,s')).map (ptV (σ:=σ))=qs.map ptV:=by
  rw[List.map_set]
  show(qs.map ptV).set i (ptV qs[i])=qs.map ptV
  apply List.ext_getElem?
  intro j
  rw[List.getElem?_set]
  by_cases hj:i=j
  ·subst hj;simp[hi']
  ·simp[hj]
 have h1'':=(Frame.hd ..).upd h1' u2 h4
 have hlt:=(Frame.hd ..).lt h1'
 refine⟨fun j=>G1 j∨F2' j,⟨(some a,c),qs.set i (qs[i].1,s'),⟨G1,F2',?_,u1,fun _=>Iff.rfl,fun j hj hf=>?_⟩,?_⟩,u2.mono (fun j _ hj=>(h3 j).2 (.inr hj)),fun j hj=>?_⟩
 ·obtain⟨a1,a2,a3,a4⟩:=h1''
  refine⟨?_,?_,a3,a4⟩
  ·simp only[List.length_set];exact a1
  ·simp only[List.length_set];rw[e1];exact a2
 ·rcases u3 j hf with h|h
  ·exact h4 j hj h
  ·have:=hlt j hj;omega
 ·rw[List.map_set]
 ·rcases hj with hj|hj
  ·exact .inl ((h3 j).2 (.inl hj))
  ·exact(u3 j hj).imp (fun h=>(h3 j).2 (.inr h)) id
theorem Tq.nil {c:List Value} (hN:Newed w w' (.cells c.toArray T (0,0))) (he:enc none 0 0=c):Tq A w.heap.size T E enc w' (fun i=>i=w.heap.size) []:=
 ⟨(none,0),[],⟨_,fun _=>False,Hd.nil hN (by simpa using he) rfl rfl,Fam.nil _,fun i=>by simp,fun _ _ h=>h⟩,rfl⟩
theorem Tq.push {P:Program} {t:TypeId} {z:List Value} (he:ElemT P t E 1 8 z) {k:Nat} (henc:∀p n c p' n' c',setL (enc p n c) k [.slice p' n' c']=enc p' n' c') (hk:∀p n c,k+1<=(enc p n c).length) (h:Tq A b T E enc w F x) (hl:x.length<=100000)
  {bq:Nat} {G:Fp} {s:σ} (hU:Upd no w w1) (hQ:A bq w1 G s) (hG:∀i,G i->w.heap.size<=i):∃p c,Blk w1 b (enc p x.length c) T/\
  ∀w2 {T':TypeId} (hN:Newed w1 w2 (.cells (List.toArray [.pointer (some ⟨bq,0,none⟩)]) T' (0,0))) (ty:TypeId),∃p' c' w3,(Builtin.append_ #[t,t] ty #[.slice p x.length c,.slice (some ⟨w1.heap.size,0,none⟩) 1 1]).run P w2=.ok (.slice p' (x.length+1) c') w3/\
   ∀K:World->Prop,(∀w4,Turn (Tq A b T E enc) w w4 F (x++[s])->K w4)->Wr w3 ((⟨b,0,none⟩:Addr).add k) [.slice p' (x.length+1) c'] K:=by
 obtain⟨⟨p,c⟩,qs,h,rfl⟩:=h
 obtain⟨G1,G2,h1,h2,h3,h4⟩:=h
 simp only at h1 h2
 rw[List.length_map]at hl
 have h1':TqH σ b T E enc w1 G1 (qs,(p,c)):=(Frame.hd ..).upd h1 hU (fun _ _ h=>h)
 refine⟨p,c,by rw[List.length_map];exact h1'.blk,fun w2 T' hN ty=>?_⟩
 obtain⟨p',c',w3,hr,hS,hU3,hF3⟩:=append1v he (v:=.pointer (some ⟨bq,0,none⟩)) rfl h1'.sl (by simp only;omega) (by simp only;omega) hN ty
 simp only at hS hU3 hF3
 refine⟨p',c',w3,by rw[List.length_map];exact hr,fun K hK=>?_⟩
 have hB3:=h1'.blkU hU3
 rw[List.length_map]
 refine hB3.wr (by simpa using hk _ _ _) fun w4 hW=>hK w4 ?_
 rw[henc]at hW
 have hTh:=h1'.put (s':=qs++[(bq,s)]) (p':=p') (c':=c') (by simp only[List.length_append,List.length_singleton,List.map_append];exact hS) hU3 hF3 (by simp only[List.length_append,List.length_singleton];exact hW)
 obtain⟨H1,t1,t2,t3⟩:=hTh
 have hTf:=Fam.push h2 hU (show At A w1 G (bq,s)from hQ) hG
 obtain⟨H2,f1,f2,f3⟩:=hTf
 have hd1:∀j,H2 j->¬G1 j:=fun j hj hg=>by
  rcases f3 j hj with h|h
  ·exact h4 j hg h
  ·have:=(Frame.hd ..).lt h1 j hg;omega
 refine⟨fun j=>H1 j∨H2 j,⟨(p',c'),qs++[(bq,s)],⟨H1,H2,t1,Frame.fam.upd f1 t2 hd1,fun _=>Iff.rfl,fun j hj hg=>?_⟩,by simp⟩,?_,?_⟩
 ·rcases t3 j hj with h|h
  ·exact hd1 j hg h
  ·have:=Frame.fam.lt f1 j hg;omega
 ·exact(hU.nn).trans t2 (fun j _ hj=>(h3 j).2 (.inl hj))
 ·rintro j (hj|hj)
  ·rcases t3 j hj with h|h
   ·exact .inl ((h3 j).2 (.inl h))
   ·exact .inr (Nat.le_trans hU.size h)
  ·rcases f3 j hj with h|h
   ·exact .inl ((h3 j).2 (.inr h))
   ·exact .inr h
end
theorem Turn.next {σ:Type} {A:Ob σ} {w w1 w2:World} {F F1:Fp} {s1 s2:σ} (h:A w1 F1 s1) (hU:Upd F w w1) (hF:∀i,F1 i->F i∨w.heap.size<=i) (k:Turn A w1 w2 F1 s2):Turn A w w2 F s2:=by
 obtain⟨F2,k1,k2,k3⟩:=k
 refine⟨F2,k1,hU.trans k2 (fun i hi hf=>(hF i hf).elim id (fun h=>absurd h (by omega))),fun i hi=>?_⟩
 rcases k3 i hi with h|h
 ·exact hF i h
 ·exact .inr (Nat.le_trans hU.size h)
end Go.Dav
namespace Go.Dav
def ct (L:List (List Int)) (v:Int):Nat:=L.flatten.count v
theorem ct_set {L:List (List Int)} {i:Nat} (hi:i<L.length) (l':List Int) (v:Int):ct (L.set i l') v+L[i].count v=ct L v+l'.count v:=by
 unfold ct
 induction L generalizing i with
 | nil=>simp at hi
 | cons l L ih=>
  cases i with
  | zero=>simp only[List.set_cons_zero,List.flatten_cons,List.count_append,List.getElem_cons_zero];omega
  | succ i=>
   have:=ih (i:=i) (by simpa using hi)
   simp only[List.set_cons_succ,List.flatten_cons,List.count_append,List.getElem_cons_succ]
   omega
theorem ct_le {L:List (List Int)} {i:Nat} (hi:i<L.length) (v:Int):L[i].count v<=ct L v:=by
 have:=ct_set hi [] v
 simp at this
 omega
theorem ct_mem {L:List (List Int)} {i:Nat} (hi:i<L.length) {v:Int} (h:v∈L[i]):0<ct L v:=Nat.lt_of_lt_of_le (List.count_pos_iff.2 h) (ct_le hi v)
theorem ct_new (n:Nat) (v:Int):ct (List.replicate n []) v=0:=by
 unfold ct
 rw[List.count_flatten]
 simp
theorem ct_nodup {L:List (List Int)} (h:∀v,ct L v<=1) {i:Nat} (hi:i<L.length):L[i].Nodup:=List.nodup_iff_count.2 fun v=>Nat.le_trans (ct_le hi v) (h v)
theorem few {l:List Int} {m:Nat} (hn:l.Nodup) (h:∀v∈l,1<=v/\v<=m):l.length<=m:=by
 have:=hn.length_le_of_subset (l₂:=(List.range m).map (fun(k:Nat)=>(k:Int)+1)) (fun v hv=>by
  obtain⟨h1,h2⟩:=h v hv
  rw[List.mem_map]
  exact⟨v.toNat-1,by simp;omega,by omega⟩)
 simpa using this
theorem add00' (b k:Nat):Addr.add (Addr.add ⟨b,0,none⟩ 0) k=(⟨b,0,none⟩:Addr).add k:=by rw[add_lit b 0 0]
end Go.Dav
namespace Go.Dav
structure MapT (P:Program) (t k e:TypeId) (z:Value):Prop where
 under:P.underlying t=some (.map k e)
 key:P.underlying k=some (.int .i64)
 ok:okZ P e=true
 zero:zv P e=z
section
variable {α:Type} {f:α->Value}
def EsL (f:α->Value) (es:List MapEntry) (L:List (Int×α)):Prop:=es.map (fun e=>(e.key,e.val))=L.map (fun p=>(Value.int .i64 p.1,f p.2))
theorem EsL.len {es:List MapEntry} {L:List (Int×α)} (h:EsL f es L):es.length=L.length:=by simpa [EsL]using congrArg List.length h
theorem EsL.at {es:List MapEntry} {L:List (Int×α)} (h:EsL f es L) {j:Nat} {e:MapEntry} (he:es[j]?=some e):∃p,L[j]?=some p/\e.key=.int .i64 p.1/\e.val=f p.2:=by
 have:=congrArg (fun l=>l[j]?) h
 simp only[List.getElem?_map,he,Option.map_some]at this
 cases hl:L[j]? with
 | none=>rw[hl]at this;cases this
 | some p=>
  rw[hl]at this
  simp only[Option.map_some,Option.some.injEq,Prod.mk.injEq]at this
  exact⟨p,rfl,this.1,this.2⟩
theorem EsL.mem {es:List MapEntry} {L:List (Int×α)} (h:EsL f es L) {p:Int×α} (hp:p∈L):∃e∈es,e.key=.int .i64 p.1:=by
 have:(Value.int .i64 p.1,f p.2)∈es.map (fun e=>(e.key,e.val)):=by rw[h];exact List.mem_map.2 ⟨p,hp,rfl⟩
 obtain⟨e,he,hq⟩:=List.mem_map.1 this
 simp only[Prod.mk.injEq]at hq
 exact⟨e,he,hq.1⟩
theorem EsL.keys {es:List MapEntry} {L:List (Int×α)} (h:EsL f es L):∀x∈es,MapKept.IsKey (.int .i64) x.key:=by
 intro x hx
 obtain⟨j,hj⟩:=List.mem_iff_getElem?.1 hx
 obtain⟨p,_,hk,_⟩:=h.at hj
 rw[hk];rfl
def MapO (b:Nat) (f:α->Value):Ob ((Int->Option α)×Nat):=fun w F x=>(∀i,F i↔i=b)/\∃es clock L,w.heap[b]?=some (.map es clock)/\EsL f es.toList L/\(L.map Prod.fst).Nodup/\(∀k v,x.1 k=some v↔(k,v)∈L)/\x.2=L.length/\MapKept.Stamped es clock
instance Frame.map (b:Nat) (f:α->Value):Frame (MapO b f) where
 upd:=by
  rintro w w' F G s ⟨h1,es,clock,L,h2,r⟩ k hG
  exact⟨h1,es,clock,L,(k.blk b (lt_of_blk h2) (hG b ((h1 b).2 rfl))).trans h2,r⟩
 lt:=by
  rintro w F s ⟨h1,es,clock,L,h2,r⟩ i hi
  rw[(h1 i).1 hi];exact lt_of_blk h2
theorem MapO.new {w w':World} (h:Newed w w' (.map #[] 0)):MapO w.heap.size f w' (fun i=>i=w.heap.size) (fun _=>none,0):=
 ⟨fun _=>Iff.rfl,#[],0,[],h.blk,rfl,List.nodup_nil,fun k v=>by simp,rfl,MapKept.stamped_empty 0⟩
def mput (x:(Int->Option α)×Nat) (k:Int) (v:α):(Int->Option α)×Nat:=(fun j=>if j=k then some v else x.1 j,if(x.1 k).isSome then x.2 else x.2+1)
def mdel (x:(Int->Option α)×Nat) (k:Int):(Int->Option α)×Nat:=(fun j=>if j=k then none else x.1 j,if(x.1 k).isSome then x.2-1 else x.2)
variable {P:Program} {t k e:TypeId} {z:Value} {b:Nat} {w:World} {F:Fp} {x:(Int->Option α)×Nat}
theorem map_erase {β γ:Type} (g:β->γ):∀(l:List β) (j:Nat),(l.eraseIdx j).map g=(l.map g).eraseIdx j
 | [],_=>rfl
 | _::_,0=>rfl
 | a::l,j+1=>by simp[map_erase g l j]
theorem nodup_at {L:List (Int×α)} (h:(L.map Prod.fst).Nodup) {i j:Nat} {p q:Int×α} (hi:L[i]?=some p) (hj:L[j]?=some q) (he:p.1=q.1):i=j:=by
 have h1:(L.map Prod.fst)[i]?=some p.1:=by simp[hi]
 have h2:(L.map Prod.fst)[j]?=some p.1:=by simp[hj,he]
 exact(List.getElem?_inj (List.getElem?_eq_some_iff.1 h1).1 h).1 (h1.trans h2.symm)
theorem find_spec {es:List MapEntry} {L:List (Int×α)} (h:EsL f es L) (hn:(L.map Prod.fst).Nodup) (hx:∀k v,x.1 k=some v↔(k,v)∈L) (n:Int) :
  (x.1 n=none/\Instr.findNow (.int .i64) (.int .i64 n) es 0=some none)∨∃j v e,x.1 n=some v/\Instr.findNow (.int .i64) (.int .i64 n) es 0=some (some (j,f v))/\es[j]?=some e/\e.key=.int .i64 n/\L[j]?=some (n,v):=by
 rcases MapKept.findNow_spec (d:=.int .i64) (k:=.int .i64 n) rfl es 0 h.keys with⟨h1,h2⟩|⟨j,e,h1,h2,h3⟩
 ·refine .inl ⟨?_,h1⟩
  cases hv:x.1 n with
  | none=>rfl
  | some v=>
   obtain⟨e,he,hk⟩:=h.mem ((hx n v).1 hv)
   exact absurd hk (h2 e he)
 ·obtain⟨p,hp,hk,hv⟩:=h.at h2
  obtain⟨pn,pv⟩:=p
  have:pn=n:=by rw[h3]at hk;simpa using hk.symm
  subst this
  simp only at hv
  exact .inr ⟨j,pv,e,(hx pn pv).2 (List.mem_iff_getElem?.2 ⟨j,hp⟩),by rw[h1,hv];simp,h2,h3,hp⟩
theorem run_lookup (hT:MapT P t k e z) (h:MapO b f w F x) (n:Int) (ok:Bool) :
  (Instr.lookup t (.map (some b)) (.int .i64 n) ok).run P w=.ok (if ok then .tuple #[((x.1 n).map f).getD z,.bool (x.1 n).isSome]else((x.1 n).map f).getD z) w:=by
 obtain⟨h1,es,clock,L,hb,hE,hn,hx,hl,hst⟩:=h
 have hk:MapKept.IsKey (.int .i64) (.int .i64 n):=rfl
 rcases find_spec hE hn hx n with⟨k1,k2⟩|⟨j,v,e',k1,k2,k3,k4,k5⟩
 ·have hz:(zeroValue e).run P w=.ok z w:=by rw[run_zeroValue_ok hT.ok,hT.zero]
  simp[Instr.lookup,run_underlying_ok hT.under,MapKept.run_getObj_map hb,MapKept.run_checkKey hT.key hk,MapKept.run_findKey hT.key k2,k1,hz,Result.andThen]
 ·simp[Instr.lookup,run_underlying_ok hT.under,MapKept.run_getObj_map hb,MapKept.run_checkKey hT.key hk,MapKept.run_findKey hT.key k2,k1,Result.andThen]
theorem wrote_map {o o':Obj} (hb:w.heap[b]?=some o):Upd (fun i=>i=b) w {w with heap:=w.heap.setIfInBounds b o'}:=
 ⟨by simp,rfl,rfl,rfl,fun i _ hi=>by simp[Ne.symm hi]⟩
theorem run_put (hT:MapT P t k e z) (h:MapO b f w F x) (n:Int) (v:α) :
  ∃w',(Instr.mapUpdate t (.map (some b)) (.int .i64 n) (f v)).run P w=.ok () w'/\Turn (MapO b f) w w' F (mput x n v):=by
 obtain⟨h1,es,clock,L,hb,hE,hn,hx,hl,hst⟩:=h
 have hk:MapKept.IsKey (.int .i64) (.int .i64 n):=rfl
 rcases find_spec hE hn hx n with⟨k1,k2⟩|⟨j,v0,e',k1,k2,k3,k4,k5⟩
 ·refine⟨_,by simp[Instr.mapUpdate,run_underlying_ok hT.under,MapKept.run_getObj_map hb,MapKept.run_checkKey hT.key hk,MapKept.run_findKey hT.key k2,MapKept.run_setObj_map _ hb,Result.andThen];rfl,
   F,⟨h1,_,_,L++[(n,v)],(MapKept.heap_set hb).1,?_,?_,?_,?_,MapKept.stamped_push hst (fun y hy hk'=>by
    obtain⟨i,hi⟩:=List.mem_iff_getElem?.1 hy
    obtain⟨p,hp,hk2,_⟩:=hE.at hi
    rw[hk']at hk2
    have e1:n=p.1:=by simpa using hk2
    have:=(hx p.1 p.2).2 (List.mem_iff_getElem?.2 ⟨i,hp⟩)
    rw[<-e1,k1]at this
    cases this)⟩,(wrote_map hb).mono (fun i _ hi=>(h1 i).2 hi),fun _ hi=>.inl hi⟩
  ·unfold EsL at hE⊢
   simp[hE]
  ·rw[List.map_append,List.nodup_append]
   refine⟨hn,by simp,fun a ha c hc=>?_⟩
   simp at hc
   subst hc
   rintro rfl
   obtain⟨p,hp,rfl⟩:=List.mem_map.1 ha
   have:=(hx p.1 p.2).2 hp
   rw[k1]at this;cases this
  ·intro a c
   simp only[mput,List.mem_append,List.mem_singleton,Prod.mk.injEq]
   by_cases ha:a=n
   ·subst ha
    have:(a,c)∉L:=fun hm=>by have:=(hx a c).2 hm;rw[k1]at this;cases this
    simp[this,eq_comm]
   ·simp[ha,hx]
  ·simp[mput,k1,hl]
 ·have hj:es[j]?=some e':=by simpa using k3
  refine⟨_,by simp[Instr.mapUpdate,run_underlying_ok hT.under,MapKept.run_getObj_map hb,MapKept.run_checkKey hT.key hk,MapKept.run_findKey hT.key k2,hj,k4,MapKept.run_keyThatStays hk,MapKept.run_setObj_map _ hb,Result.andThen];rfl,
   F,⟨h1,_,_,L.set j (n,v),(MapKept.heap_set hb).1,?_,?_,?_,?_,by
    refine MapKept.stamped_modify hst _ _ (fun _ _=>rfl) (fun e _ he=>?_)
    rw[hj]at he
    cases he
    exact k4.symm⟩,(wrote_map hb).mono (fun i _ hi=>(h1 i).2 hi),fun _ hi=>.inl hi⟩
  ·unfold EsL at hE⊢
   rw[Array.toList_modify,List.map_set,<-hE]
   apply List.ext_getElem?
   intro i
   rw[List.getElem?_map,List.getElem?_modify,List.getElem?_set,List.getElem?_map]
   by_cases hij:j=i
   ·subst hij
    have hlt:j<es.toList.length:=(List.getElem?_eq_some_iff.1 k3).1
    simp[k3]
    simpa using hlt
   ·simp only[hij,if_false]
    cases es.toList[i]?<;>simp
  ·rw[List.map_set]
   have:(L.map Prod.fst).set j (n,v).1=L.map Prod.fst:=by
    apply List.ext_getElem?
    intro i
    rw[List.getElem?_set]
    by_cases hij:j=i
    ·subst hij
     have hlt:j<L.length:=(List.getElem?_eq_some_iff.1 k5).1
     have:=(List.getElem?_eq_some_iff.1 k5).2
     simp[hlt,this]
    ·simp[hij]
   rw[this];exact hn
  ·intro a c
   simp only[mput]
   rw[List.mem_iff_getElem?]
   by_cases ha:a=n
   ·subst ha
    simp only[if_true,Option.some.injEq]
    constructor
    ·rintro rfl
     exact⟨j,by rw[List.getElem?_set];simp[(List.getElem?_eq_some_iff.1 k5).1]⟩
    ·rintro⟨i,hi⟩
     rw[List.getElem?_set]at hi
     by_cases hij:j=i
     ·subst hij
      simp[(List.getElem?_eq_some_iff.1 k5).1]at hi
      exact hi
     ·rw[if_neg hij]at hi
      exact absurd (nodup_at hn k5 hi rfl) hij
   ·rw[if_neg ha,hx,List.mem_iff_getElem?]
    constructor
    ·rintro⟨i,hi⟩
     refine⟨i,?_⟩
     rw[List.getElem?_set,if_neg (fun hij=>by subst hij;rw[k5]at hi;simp at hi;exact ha hi.1.symm)]
     exact hi
    ·rintro⟨i,hi⟩
     rw[List.getElem?_set]at hi
     by_cases hij:j=i
     ·subst hij
      simp[(List.getElem?_eq_some_iff.1 k5).1]at hi
      exact absurd hi.1.symm ha
     ·rw[if_neg hij]at hi
      exact⟨i,hi⟩
  ·simp[mput,k1,hl]
theorem run_del (hT:MapT P t k e z) (h:MapO b f w F x) (n:Int) (k2 ty:TypeId) :
  ∃w',(Builtin.delete_ #[t,k2] ty #[.map (some b),.int .i64 n]).run P w=.ok (.tuple #[]) w'/\Turn (MapO b f) w w' F (mdel x n):=by
 obtain⟨h1,es,clock,L,hb,hE,hn,hx,hl,hst⟩:=h
 have hk:MapKept.IsKey (.int .i64) (.int .i64 n):=rfl
 rcases find_spec hE hn hx n with⟨k1,k2⟩|⟨j,v0,e',k1,k2,k3,k4,k5⟩
 ·refine⟨_,by simp[Builtin.delete_,run_underlying_ok hT.under,MapKept.run_getObj_map hb,MapKept.run_checkKey hT.key hk,MapKept.run_findKey hT.key k2,MapKept.run_setObj_map _ hb,Result.andThen]<;>rfl,
   F,⟨h1,_,_,L,(MapKept.heap_set hb).1,hE,hn,?_,?_,hst⟩,(wrote_map hb).mono (fun i _ hi=>(h1 i).2 hi),fun _ hi=>.inl hi⟩
  ·intro a c
   simp only[mdel]
   by_cases ha:a=n
   ·subst ha
    have:(a,c)∉L:=fun hm=>by have:=(hx a c).2 hm;rw[k1]at this;cases this
    simp[this]
   ·simp[ha,hx]
  ·simp[mdel,k1,hl]
 ·refine⟨_,by simp[Builtin.delete_,run_underlying_ok hT.under,MapKept.run_getObj_map hb,MapKept.run_checkKey hT.key hk,MapKept.run_findKey hT.key k2,MapKept.run_setObj_map _ hb,Result.andThen];rfl,
   F,⟨h1,_,_,L.eraseIdx j,(MapKept.heap_set hb).1,?_,?_,?_,?_,MapKept.stamped_erase hst _⟩,(wrote_map hb).mono (fun i _ hi=>(h1 i).2 hi),fun _ hi=>.inl hi⟩
  ·unfold EsL at hE⊢
   rw[map_erase,<-hE,<-map_erase]
   congr 1
   simp[Array.eraseIdxIfInBounds]
   split
   ·simp
   ·rename_i hlt
    have:=(List.getElem?_eq_some_iff.1 k3).1
    simp at this
    omega
  ·rw[map_erase]
   exact hn.eraseIdx _
  ·intro a c
   simp only[mdel]
   rw[List.mem_eraseIdx_iff_getElem?]
   by_cases ha:a=n
   ·subst ha
    simp only[if_true]
    constructor
    ·intro h;cases h
    ·rintro⟨i,hij,hi⟩
     exact absurd (nodup_at hn hi k5 rfl) hij
   ·rw[if_neg ha,hx,List.mem_iff_getElem?]
    constructor
    ·rintro⟨i,hi⟩
     exact⟨i,fun hij=>by subst hij;rw[k5]at hi;simp at hi;exact ha hi.1.symm,hi⟩
    ·rintro⟨i,_,hi⟩;exact⟨i,hi⟩
  ·have:=(List.getElem?_eq_some_iff.1 k5).1
   simp[mdel,k1,hl,List.length_eraseIdx,this]
theorem run_mlen (hT:MapT P t k e z) (h:MapO b f w F x) (ty:TypeId):(Builtin.len_ #[t] ty #[.map (some b)]).run P w=.ok (.int .i64 (x.2:Int)) w:=by
 obtain⟨h1,es,clock,L,hb,hE,hn,hx,hl,hst⟩:=h
 have:=hE.len
 simp at this
 simp[Builtin.len_,run_underlying_ok hT.under,MapKept.run_getObj_map hb,goInt,Result.andThen,hl,this]
end
end Go.Dav
namespace Go.Dav
open Go.Proofs
theorem mpT_Thr:MapT Tryz.prog 190 3 324 (.pointer none):=⟨by kernel_rfl,by kernel_rfl,by kernel_rfl,by kernel_rfl⟩
abbrev Th:=Int×BV×Int×Bool×Bool×Int
def thE (t:Th):List Value:=[.int .i64 t.1,.int .u64 (mi t.2.1),.int .i64 t.2.2.1,.bool t.2.2.2.1,.bool t.2.2.2.2.1,.int .i64 t.2.2.2.2.2]
abbrev TQ:=List (Option (Nat×Th))
abbrev TL:=List (Option Th)
def OpO:Ob (Option (Nat×Th)):=fun w F x=>match x with
 | none=>∀i,¬F i
 | some q=>Rw q.1 250 thE w F q.2
instance Frame.op:Frame OpO where
 upd:=by
  rintro w w' F G (_|q) h k hG
  ·exact h
  ·exact(Frame.rw ..).upd h k hG
 lt:=by
  rintro w F (_|q) h
  ·exact fun i hi=>absurd hi (h i)
  ·exact(Frame.rw ..).lt h
def gO (qs:TQ) (id:Int):Option Nat:=if 1<=id then(qs.getD (id.toNat-1) none).map Prod.fst else none
def sAt (S:TL) (id:Int):Option Th:=if 1<=id then S.getD (id.toNat-1) none else none
def tbE (b2 b3:Nat) (c:Int):List Value:=[.pointer (some ⟨b2,0,none⟩),.int .i64 c,.map (some b3)]
def fP (b:Nat):Value:=.pointer (some ⟨b,0,none⟩)
abbrev TR:=(List Bool×((Int->Option Nat)×Nat))×(Int×TQ)
def ThR (b b2 b3:Nat):Ob TR:=Star (Star (SlO b2) (MapO b3 fP)) (Star (Rw b 192 (tbE b2 b3)) (Fam OpO))
instance Frame.thr (b b2 b3:Nat):Frame (ThR b b2 b3):=by unfold ThR;infer_instance
structure TI_Thr (x:TR) (S:TL):Prop where
 o:x.1.1=x.2.2.map Option.isSome
 s:x.2.2.map (Option.map Prod.snd)=S
 g:∀id,x.1.2.1 id=gO x.2.2 id
 len:x.2.2.length=32
def ThO (b:Nat):Ob (Int×TL):=fun w F x=>∃b2 b3 y,ThR b b2 b3 w F y/\y.2.1=x.1/\TI_Thr y x.2
instance Frame.tho (b:Nat):Frame (ThO b) where
 upd:=fun⟨b2,b3,y,h,r⟩ k hG=>⟨b2,b3,y,(Frame.thr b b2 b3).upd h k hG,r⟩
 lt:=fun⟨b2,b3,y,h,_⟩=>(Frame.thr b b2 b3).lt h
theorem Turn.tho {b b2 b3:Nat} {w w':World} {F:Fp} {y:TR} {S:TL} (h:Turn (ThR b b2 b3) w w' F y) (k:TI_Thr y S):Turn (ThO b) w w' F (y.2.1,S):=by
 obtain⟨F',h1,h2⟩:=h
 exact⟨F',⟨b2,b3,y,h1,rfl,k⟩,h2⟩
section
variable {b b2 b3:Nat} {w:World} {F:Fp} {y:TR}
theorem ThR.slot (h:ThR b b2 b3 w F y):∃F1,SlO b2 w F1 y.1.1/\∀w' o',Turn (SlO b2) w w' F1 o'->Turn (ThR b b2 b3) w w' F ((o',y.1.2),y.2):=by
 unfold ThR at h⊢
 obtain⟨F1,h1,k1⟩:=h.left
 obtain⟨F2,h2,k2⟩:=h1.left
 exact⟨F2,h2,fun w' o' hT=>k1 _ _ (k2 _ _ hT)⟩
theorem ThR.mp (h:ThR b b2 b3 w F y):∃F1,MapO b3 fP w F1 y.1.2/\∀w' g',Turn (MapO b3 fP) w w' F1 g'->Turn (ThR b b2 b3) w w' F ((y.1.1,g'),y.2):=by
 unfold ThR at h⊢
 obtain⟨F1,h1,k1⟩:=h.left
 obtain⟨F2,h2,k2⟩:=h1.right
 exact⟨F2,h2,fun w' o' hT=>k1 _ _ (k2 _ _ hT)⟩
theorem ThR.blk (h:ThR b b2 b3 w F y):Blk w b (tbE b2 b3 y.2.1) 192:=by
 unfold ThR at h
 obtain⟨F1,h1,k1⟩:=h.right
 obtain⟨F2,h2,k2⟩:=h1.left
 exact h2.blk
theorem ThR.fam (h:ThR b b2 b3 w F y):∃F1,Fam OpO w F1 y.2.2/\∀w' q',Turn (Fam OpO) w w' F1 q'->Turn (ThR b b2 b3) w w' F (y.1,(y.2.1,q')):=by
 unfold ThR at h⊢
 obtain⟨F1,h1,k1⟩:=h.right
 obtain⟨F2,h2,k2⟩:=h1.right
 exact⟨F2,h2,fun w' o' hT=>k1 _ _ (k2 _ _ hT)⟩
end
theorem gO_set {qs:TQ} {i:Nat} (hi:i<qs.length) (v:Option (Nat×Th)) (id:Int):gO (qs.set i v) id=if id=(i:Int)+1 then v.map Prod.fst else gO qs id:=by
 unfold gO
 by_cases h1:1<=id
 ·rw[if_pos h1,if_pos h1]
  by_cases hid:id=(i:Int)+1
  ·subst hid
   have e1:((i:Int)+1).toNat-1=i:=by omega
   rw[if_pos rfl,e1]
   simp[List.getD_eq_getElem?_getD,hi]
  ·rw[if_neg hid]
   have:i≠id.toNat-1:=by omega
   simp[List.getD_eq_getElem?_getD,this]
 ·rw[if_neg h1,if_neg h1,if_neg (by omega)]
section
variable {o:List Bool} {g:(Int->Option Nat)×Nat} {c:Int} {qs:TQ} {S:TL}
theorem TI_Thr.at (h:TI_Thr ((o,g),(c,qs)) S) {i:Nat} (hi:i<qs.length):S[i]?=some ((qs[i]).map Prod.snd):=by
 have:=h.s
 simp only at this
 rw[<-this,List.getElem?_map,List.getElem?_eq_getElem hi]
 rfl
theorem TI_Thr.slen (h:TI_Thr ((o,g),(c,qs)) S):S.length=32:=by have:=h.s;have:=h.len;simp only at *;rw[<-h.s];simpa using this
theorem TI_Thr.sat (h:TI_Thr ((o,g),(c,qs)) S) (id:Int):(∃i,∃hi:i<qs.length,id=(i:Int)+1/\sAt S id=qs[i].map Prod.snd/\gO qs id=qs[i].map Prod.fst)∨(sAt S id=none/\gO qs id=none/\hasE_Slot o id=false):=by
 have hl:=h.len
 have hs:=h.slen
 simp only at hl
 by_cases h1:1<=id/\id<=32
 ·refine .inl ⟨id.toNat-1,by omega,by omega,?_,?_⟩
  ·have:=h.at (i:=id.toNat-1) (by omega)
   rw[sAt,if_pos h1.1,List.getD_eq_getElem?_getD,this]
   rfl
  ·rw[gO,if_pos h1.1,List.getD_eq_getElem?_getD,List.getElem?_eq_getElem (by omega)]
   rfl
 ·refine .inr ⟨?_,?_,?_⟩
  ·unfold sAt
   split
   ·rw[List.getD_eq_getElem?_getD,List.getElem?_eq_none (by omega)];rfl
   ·rfl
  ·unfold gO
   split
   ·rw[List.getD_eq_getElem?_getD,List.getElem?_eq_none (by omega)];rfl
   ·rfl
  ·have ho:=h.o
   simp only at ho
   have:o.length=32:=by rw[ho];simpa using hl
   cases hh:hasE_Slot o id with
   | false=>rfl
   | true=>have:=hasE_in hh;omega
theorem TI_Thr.has (h:TI_Thr ((o,g),(c,qs)) S) {i:Nat} (hi:i<qs.length):hasE_Slot o ((i:Int)+1)=qs[i].isSome:=by
 have ho:=h.o
 simp only at ho
 rw[hasE_of,ho,List.getD_eq_getElem?_getD,List.getElem?_map,List.getElem?_eq_getElem hi]
 rfl
theorem map_set {α β:Type} (f:α->β) (l:List α) (i:Nat) (a:α):(l.set i a).map f=(l.map f).set i (f a):=List.map_set
theorem TI_Thr.put (h:TI_Thr ((o,g),(c,qs)) S) {i:Nat} (hi:i<qs.length) (q:Nat×Th):TI_Thr ((o.set i true,mput g ((i:Int)+1) q.1),(c,qs.set i (some q))) (S.set i (some q.2)):=by
 have ho:=h.o
 have hs:=h.s
 simp only at ho hs
 refine⟨by simp only[map_set,ho];rfl,by simp only[map_set,hs];rfl,fun id=>?_,by simpa using h.len⟩
 simp only[mput]
 rw[gO_set hi]
 split
 ·rfl
 ·exact h.g id
theorem TI_Thr.del (h:TI_Thr ((o,g),(c,qs)) S) {i:Nat} (hi:i<qs.length):TI_Thr ((o.set i false,mdel g ((i:Int)+1)),(c,qs.set i none)) (S.set i none):=by
 have ho:=h.o
 have hs:=h.s
 simp only at ho hs
 refine⟨by simp only[map_set,ho];rfl,by simp only[map_set,hs];rfl,fun id=>?_,by simpa using h.len⟩
 simp only[mdel]
 rw[gO_set hi]
 split
 ·rfl
 ·exact h.g id
theorem TI_Thr.upd (h:TI_Thr ((o,g),(c,qs)) S) {i:Nat} (hi:i<qs.length) {q:Nat×Th} (hq:qs[i]=some q) (t:Th):TI_Thr ((o,g),(c,qs.set i (some (q.1,t)))) (S.set i (some t)):=by
 have ho:=h.o
 have hs:=h.s
 simp only at ho hs
 refine⟨?_,by simp only[map_set,hs];rfl,fun id=>?_,by simpa using h.len⟩
 ·simp only[map_set,ho]
  apply List.ext_getElem?
  intro j
  rw[List.getElem?_set]
  by_cases hj:i=j
  ·subst hj;simp[hi,hq]
  ·simp[hj]
 ·simp only
  rw[gO_set hi,h.g id]
  simp only
  split
  ·rename_i e
   subst e
   rw[gO,if_pos (by omega)]
   have e1:((i:Int)+1).toNat-1=i:=by omega
   rw[e1,List.getD_eq_getElem?_getD,List.getElem?_eq_getElem hi,hq]
   rfl
  ·rfl
end
abbrev TX:=Int×TL
def okOf (S:TL):List Bool:=S.map Option.isSome
def spOk (x:TX) (p:Int) (m:BV):Prop:=0<=p/\p<8/\rightR x.1 m=true
instance (x:TX) (p:Int) (m:BV):Decidable (spOk x p m):=by unfold spOk;infer_instance
def spE (x:TX) (p:Int) (m:BV):Int×Int:=if spOk x p m then takeE_Slot (okOf x.2)else(0,2)
def spS (x:TX) (p:Int) (m:BV):TX:=if spOk x p m/\(takeE_Slot (okOf x.2)).2=0 then(x.1,x.2.set ((takeE_Slot (okOf x.2)).1.toNat-1) (some (p,m,0,false,false,0)))else x
def exE (x:TX) (id:Int):Int:=match sAt x.2 id with|some _=>0|none=>4
def exS (x:TX) (id:Int):TX:=match sAt x.2 id with|some _=>(x.1,x.2.set (id.toNat-1) none)|none=>x
def getE (x:TX) (id:Int):Th×Int:=match sAt x.2 id with|some t=>(t,0)|none=>((0,0,0,false,false,0),4)
def aiE (x:TX) (id:Int) (m:BV):Int:=match sAt x.2 id with|some _=>if rightR x.1 m then 0 else 2|none=>4
def aiS (x:TX) (id:Int) (m:BV):TX:=match sAt x.2 id with|some t=>if rightR x.1 m then(x.1,x.2.set (id.toNat-1) (some (t.1,m,t.2.2)))else x|none=>x
def plE_Thr (x:TX) (id c:Int):Int:=match sAt x.2 id with|some _=>if 0<=c/\c<x.1 then 0 else 3|none=>4
def plS (x:TX) (id c:Int) (f:Bool):TX:=match sAt x.2 id with|some t=>if 0<=c/\c<x.1 then(x.1,x.2.set (id.toNat-1) (some (t.1,t.2.1,c,f,t.2.2.2.2)))else x|none=>x
def slpE (x:TX) (id:Int):Int:=match sAt x.2 id with|some t=>if t.2.2.2.2.1 then 6 else 0|none=>4
def slpS (x:TX) (id n:Int):TX:=match sAt x.2 id with|some t=>if t.2.2.2.2.1 then x else(x.1,x.2.set (id.toNat-1) (some (t.1,t.2.1,t.2.2.1,t.2.2.2.1,true,n)))|none=>x
def waE (x:TX) (id:Int):Int×Int:=match sAt x.2 id with|some t=>if t.2.2.2.2.1 then(t.2.2.2.2.2,0)else(0,6)|none=>(0,4)
def waS (x:TX) (id:Int):TX:=match sAt x.2 id with|some t=>if t.2.2.2.2.1 then(x.1,x.2.set (id.toNat-1) (some (t.1,t.2.1,t.2.2.1,t.2.2.2.1,false,0)))else x|none=>x
def tlE (x:TX):List Int:=outL (okOf x.2) x.2.length
section
variable {b:Nat} {w:World} {F:Fp} {x:TX}
theorem fam_none {qs:TQ} {G:Fp} (h:Fam OpO w G qs) {i:Nat} (hi:i<qs.length):Turn (Fam OpO) w w G (qs.set i none):=by
 obtain⟨F1,h1,_,k⟩:=Fam.at h hi
 exact k w none ⟨fun _=>False,fun _ h=>h,Upd.refl _ _,fun _ h=>h.elim⟩
theorem fam_new {qs:TQ} {G:Fp} (h:Fam OpO w G qs) {i:Nat} (hi:i<qs.length) {w':World} {t:Th} (hN:Newed w w' (.cells (thE t).toArray 250 (0,0))):Turn (Fam OpO) w w' G (qs.set i (some (w.heap.size,t))):=by
 obtain⟨F1,h1,_,k⟩:=Fam.at h hi
 exact k w' (some (w.heap.size,t)) ⟨fun i=>i=w.heap.size,Rw.new hN rfl,(hN.upd no).nn,fun i hi=>.inr (Nat.le_of_eq hi.symm)⟩
structure Found (b:Nat) (w:World) (F:Fp) (x:TX) (i:Nat) (t:Th) (bi:Nat) (Fi:Fp):Prop where
 rw:Rw bi 250 thE w Fi t
 turn:∀w' t',Turn (Rw bi 250 thE) w w' Fi t'->Turn (ThO b) w w' F (x.1,x.2.set i (some t'))
theorem find_ok_Thr (h:ThO b w F x) (id:Int):Calls Tryz.prog 236 #[.pointer (some ⟨b,0,none⟩),.int .i64 id] w fun e w'=>w'=w/\
  ((sAt x.2 id=none/\e=.returned (.tuple #[.pointer none,.int .i64 4]))∨∃(i:Nat) (t:Th) (bi:Nat) (Fi:Fp),id=(i:Int)+1/\sAt x.2 id=some t/\e=.returned (.tuple #[.pointer (some ⟨bi,0,none⟩),.int .i64 0])/\Found b w F x i t bi Fi):=by
 obtain⟨b2,b3,⟨⟨o,g⟩,c,qs⟩,h,hc,hI⟩:=h
 obtain⟨x1,S⟩:=x
 simp only at hc hI⊢
 subst hc
 refine u236 ?_
 rw[t236]
 obtain⟨F1,hm,_⟩:=h.mp
 have hr:=run_lookup mpT_Thr hm id true
 have hg:=hI.g id
 simp only at hg hr
 rw[hg]at hr
 refine⟨fun g=>by simp at g,fun _=>⟨_,rfl,_,h.blk.cell rfl,?_⟩⟩
 rcases hI.sat id with⟨i,hi,rfl,k1,k2⟩|⟨k1,k2,_⟩
 ·cases hq:qs[i]with
  | none=>
   rw[hq]at k1 k2
   rw[k2]at hr
   exact⟨_,_,hr,fun _=>⟨rfl,.inl ⟨k1,rfl⟩⟩,fun g=>by simp at g⟩
  | some q=>
   obtain⟨bi,t⟩:=q
   rw[hq]at k1 k2
   rw[k2]at hr
   obtain⟨G,hf,kf⟩:=h.fam
   obtain⟨Fi,h1,_,k⟩:=Fam.at hf (i:=i) hi
   simp only at h1 kf
   rw[hq]at h1
   refine⟨_,_,hr,fun g=>by simp at g,fun _=>⟨rfl,.inr ⟨i,t,bi,Fi,rfl,k1,rfl,h1,fun w' t' hT=>?_⟩⟩⟩
   have:=kf _ _ (k w' (some (bi,t')) hT)
   exact Turn.tho this (hI.upd hi hq t')
 ·rw[k2]at hr
  exact⟨_,_,hr,fun _=>⟨rfl,.inl ⟨k1,rfl⟩⟩,fun g=>by simp at g⟩
theorem ThO.blk (h:ThO b w F x):∃b2 b3,Blk w b (tbE b2 b3 x.1) 192:=by
 obtain⟨b2,b3,y,h,hc,hI⟩:=h
 refine⟨b2,b3,?_⟩
 rw[<-hc]
 exact h.blk
theorem tright_ok (h:ThO b w F x) (m:BV):Calls Tryz.prog 232 #[.pointer (some ⟨b,0,none⟩),.int .u64 (mi m)] w fun e w'=>e=.returned (.bool (rightR x.1 m))/\w'=w:=by
 obtain⟨b2,b3,hB⟩:=h.blk
 refine u232 ?_
 rw[t232,mi_bne0]
 refine⟨fun g=>⟨_,rfl,_,hB.cell rfl,⟨(mUpto_ok x.1 w).mono ?_⟩⟩,fun g=>⟨by rw[rightR,g,Bool.false_and],rfl⟩⟩
 rintro e w1 ⟨rfl,rfl⟩
 refine⟨_,rfl,⟨(mWithin_ok m _ w1).mono ?_⟩⟩
 rintro e w2 ⟨rfl,rfl⟩
 exact⟨_,rfl,by rw[rightR,g,Bool.true_and],rfl⟩
theorem rw_wr {bi:Nat} {Fi:Fp} {t t':Th} (h:Rw bi 250 thE w Fi t) {k:Nat} {v:Value} (hk:k<6) (ht:setL (thE t) k [v]=thE t') {K:World->Prop} (hK:∀w',Turn (Rw bi 250 thE) w w' Fi t'->K w'):Wr w ((⟨bi,0,none⟩:Addr).add k) [v] K:=
 h.blk.wr (by simp[thE];omega) fun w' hW=>hK w' (h.turned (s':=t') hW.U (by rw[<-ht];exact hW.blk'))
theorem aim_ok_Thr (h:ThO b w F x) (n:Int) (m:BV):Calls Tryz.prog 129 #[.pointer (some ⟨b,0,none⟩),.int .i64 n,.int .u64 (mi m)] w fun e w'=>e=.returned (.int .i64 (aiE x n m))/\Turn (ThO b) w w' F (aiS x n m):=by
 refine u129 ?_
 rw[t129]
 refine⟨(find_ok_Thr h n).mono ?_⟩
 rintro e w1 ⟨rfl,⟨k1,rfl⟩|⟨i,t,bi,Fi,rfl,k1,rfl,hF⟩⟩
 ·simp only[aiE,aiS,k1]
  exact⟨_,_,rfl,fun _=>⟨rfl,Turn.same h⟩,fun g=>by simp at g⟩
 ·simp only[aiE,aiS,k1]
  refine⟨_,_,rfl,fun g=>by simp at g,fun _=>⟨(tright_ok h m).mono ?_⟩⟩
  rintro e w2 ⟨rfl,rfl⟩
  refine⟨_,rfl,fun g=>?_,fun g=>?_⟩
  ·have g:rightR x.1 m=false:=by simpa using g
   simp only[g]
   exact⟨rfl,Turn.same h⟩
  ·have g:rightR x.1 m=true:=by simpa using g
   simp only[g]
   refine⟨_,rfl,rw_wr hF.rw (t':=(t.1,m,t.2.2)) (by omega) rfl fun w' hT=>⟨rfl,?_⟩⟩
   have:=hF.turn _ _ hT
   have e1:((i:Int)+1).toNat-1=i:=by omega
   rw[e1]
   exact this
theorem place_ok (h:ThO b w F x) (n c:Int) (f:Bool):Calls Tryz.prog 234 #[.pointer (some ⟨b,0,none⟩),.int .i64 n,.int .i64 c,.bool f] w fun e w'=>e=.returned (.int .i64 (plE_Thr x n c))/\Turn (ThO b) w w' F (plS x n c f):=by
 refine u234 ?_
 rw[t234]
 obtain⟨b2,b3,hB⟩:=h.blk
 refine⟨(find_ok_Thr h n).mono ?_⟩
 rintro e w1 ⟨rfl,⟨k1,rfl⟩|⟨i,t,bi,Fi,rfl,k1,rfl,hF⟩⟩
 ·simp only[plE_Thr,plS,k1]
  exact⟨_,_,rfl,fun _=>⟨rfl,Turn.same h⟩,fun g=>by simp at g⟩
 ·simp only[plE_Thr,plS,k1]
  refine⟨_,_,rfl,fun g=>by simp at g,fun _=>⟨fun g=>⟨_,rfl,_,hB.cell rfl,fun g2=>?_,fun g2=>?_⟩,fun g=>?_⟩⟩
  ·rw[if_neg (by simp at g g2;omega),if_neg (by simp at g g2;omega)]
   exact⟨rfl,Turn.same h⟩
  ·rw[if_pos (by simp at g g2;omega),if_pos (by simp at g g2;omega)]
   refine⟨_,rfl,rw_wr hF.rw (t':=(t.1,t.2.1,c,t.2.2.2)) (by omega) rfl fun w2 hT=>?_⟩
   obtain⟨F1,q1,q2,q3⟩:=hT
   refine⟨_,rfl,rw_wr q1 (t':=(t.1,t.2.1,c,f,t.2.2.2.2)) (by omega) rfl fun w3 hT3=>⟨rfl,?_⟩⟩
   have:=hF.turn _ _ (Turn.next q1 q2 q3 hT3)
   have e1:((i:Int)+1).toNat-1=i:=by omega
   rw[e1]
   exact this
  ·rw[if_neg (by simp at g;omega),if_neg (by simp at g;omega)]
   exact⟨rfl,Turn.same h⟩
theorem sleep_ok (h:ThO b w F x) (n c:Int):Calls Tryz.prog 241 #[.pointer (some ⟨b,0,none⟩),.int .i64 n,.int .i64 c] w fun e w'=>e=.returned (.int .i64 (slpE x n))/\Turn (ThO b) w w' F (slpS x n c):=by
 refine u241 ?_
 rw[t241]
 refine⟨(find_ok_Thr h n).mono ?_⟩
 rintro e w1 ⟨rfl,⟨k1,rfl⟩|⟨i,t,bi,Fi,rfl,k1,rfl,hF⟩⟩
 ·simp only[slpE,slpS,k1]
  exact⟨_,_,rfl,fun _=>⟨rfl,Turn.same h⟩,fun g=>by simp at g⟩
 ·simp only[slpE,slpS,k1]
  refine⟨_,_,rfl,fun g=>by simp at g,fun _=>⟨_,rfl,_,hF.rw.blk.cell rfl,fun g=>?_,fun g=>?_⟩⟩
  ·rw[if_pos g,if_pos g]
   exact⟨rfl,Turn.same h⟩
  ·rw[if_neg (by rw[g];simp),if_neg (by rw[g];simp)]
   refine⟨_,rfl,rw_wr hF.rw (t':=(t.1,t.2.1,t.2.2.1,t.2.2.2.1,true,t.2.2.2.2.2)) (by omega) rfl fun w2 hT=>?_⟩
   obtain⟨F1,q1,q2,q3⟩:=hT
   refine⟨_,rfl,rw_wr q1 (t':=(t.1,t.2.1,t.2.2.1,t.2.2.2.1,true,c)) (by omega) rfl fun w3 hT3=>⟨rfl,?_⟩⟩
   have:=hF.turn _ _ (Turn.next q1 q2 q3 hT3)
   have e1:((i:Int)+1).toNat-1=i:=by omega
   rw[e1]
   exact this
theorem wake_ok (h:ThO b w F x) (n:Int):Calls Tryz.prog 245 #[.pointer (some ⟨b,0,none⟩),.int .i64 n] w fun e w'=>e=.returned (.tuple #[.int .i64 (waE x n).1,.int .i64 (waE x n).2])/\Turn (ThO b) w w' F (waS x n):=by
 refine u245 ?_
 rw[t245]
 refine⟨(find_ok_Thr h n).mono ?_⟩
 rintro e w1 ⟨rfl,⟨k1,rfl⟩|⟨i,t,bi,Fi,rfl,k1,rfl,hF⟩⟩
 ·simp only[waE,waS,k1]
  exact⟨_,_,rfl,fun _=>⟨rfl,Turn.same h⟩,fun g=>by simp at g⟩
 ·simp only[waE,waS,k1]
  refine⟨_,_,rfl,fun g=>by simp at g,fun _=>⟨_,rfl,_,hF.rw.blk.cell rfl,fun g=>?_,fun g=>?_⟩⟩
  ·have g:t.2.2.2.2.1=false:=by simpa using g
   rw[if_neg (by rw[g];simp),if_neg (by rw[g];simp)]
   exact⟨rfl,Turn.same h⟩
  ·have g:t.2.2.2.2.1=true:=by simpa using g
   rw[if_pos g,if_pos g]
   refine⟨_,rfl,_,hF.rw.blk.cell rfl,_,rfl,rw_wr hF.rw (t':=(t.1,t.2.1,t.2.2.1,t.2.2.2.1,false,t.2.2.2.2.2)) (by omega) rfl fun w2 hT=>?_⟩
   obtain⟨F1,q1,q2,q3⟩:=hT
   refine⟨_,rfl,rw_wr q1 (t':=(t.1,t.2.1,t.2.2.1,t.2.2.2.1,false,0)) (by omega) rfl fun w3 hT3=>⟨rfl,?_⟩⟩
   have:=hF.turn _ _ (Turn.next q1 q2 q3 hT3)
   have e1:((i:Int)+1).toNat-1=i:=by omega
   rw[e1]
   exact this
theorem get_ok (h:ThO b w F x) (n:Int):Calls Tryz.prog 127 #[.pointer (some ⟨b,0,none⟩),.int .i64 n] w fun e w'=>e=.returned (.tuple #[.agg #[.int .i64 (getE x n).1.1,.int .u64 (mi (getE x n).1.2.1),.int .i64 (getE x n).1.2.2.1,.bool (getE x n).1.2.2.2.1,.bool (getE x n).1.2.2.2.2.1,.int .i64 (getE x n).1.2.2.2.2.2],.int .i64 (getE x n).2])/\Upd no w w':=by
 refine u127 ?_
 rw[t127]
 refine⟨fun w1 hN=>?_⟩
 have hU:=hN.upd no
 have h1:ThO b w1 F x:=(Frame.tho b).upd h hU (fun _ _ h=>h)
 refine⟨(find_ok_Thr h1 n).mono ?_⟩
 have hW0:∀{w2 w3:World} {c:List Value},Upd no w w2->Wrote w2 w3 w.heap.size c 250->Upd no w w3:=fun hU hW=>hU.trans hW.U (fun i hi e=>absurd hi (by omega))
 rintro e w2 ⟨rfl,⟨k1,rfl⟩|⟨i,t,bi,Fi,rfl,k1,rfl,hF⟩⟩
 ·simp only[getE,k1]
  refine⟨_,_,rfl,fun _=>?_,fun g=>by simp at g⟩
  refine hN.blk'.wr0 (by simp) fun w3 hW=>?_
  have hB:=hW.blk'
  exact⟨_,hB.cell rfl,_,hB.cell rfl,_,hB.cell rfl,_,hB.cell rfl,_,hB.cell rfl,_,hB.cell rfl,rfl,hW0 hU hW⟩
 ·simp only[getE,k1]
  have hA:=hF.rw.blk
  refine⟨_,_,rfl,fun g=>by simp at g,fun _=>⟨_,rfl,_,hA.cell rfl,_,hA.cell rfl,_,hA.cell rfl,_,hA.cell rfl,_,hA.cell rfl,_,hA.cell rfl,?_⟩⟩
  refine hN.blk'.wr0 (by simp) fun w3 hW=>?_
  have hB:=hW.blk'
  exact⟨_,hB.cell rfl,_,hB.cell rfl,_,hB.cell rfl,_,hB.cell rfl,_,hB.cell rfl,_,hB.cell rfl,rfl,hW0 hU hW⟩
theorem tlist_ok_Thr (h:ThO b w F x):Calls Tryz.prog 181 #[.pointer (some ⟨b,0,none⟩)] w fun e w'=>∃p c,e=.returned (.slice p (tlE x).length c)/\Loc w w' 3 p c (tlE x):=by
 obtain⟨b2,b3,⟨⟨o,g⟩,c,qs⟩,h,hc,hI⟩:=h
 refine u181 ?_
 rw[t181]
 obtain⟨F1,hs,_⟩:=h.slot
 have ho:o=okOf x.2:=by
  have h1:=hI.o
  have h2:=hI.s
  simp only at h1 h2
  rw[h1,<-h2,okOf,List.map_map]
  congr 1
  funext v
  cases v<;>rfl
 have hl:=hI.slen
 have hol:o.length=x.2.length:=by rw[ho];simp[okOf]
 simp only at hs
 have hk:=slList_ok hs
 rw[hol]at hk
 rw[ho]at hk
 refine⟨fun g=>by simp at g,fun _=>⟨_,rfl,_,by rw[add00'];exact h.blk.cell rfl,⟨hk.mono ?_⟩⟩⟩
 rintro e w1 ⟨p,c,rfl,hL⟩
 exact⟨_,_,_,rfl,p,c,rfl,hL⟩
theorem TI_Thr.ok {o:List Bool} {g:(Int->Option Nat)×Nat} {c:Int} {qs:TQ} {S:TL} (hI:TI_Thr ((o,g),(c,qs)) S):o=okOf S:=by
 have h1:=hI.o
 have h2:=hI.s
 simp only at h1 h2
 rw[h1,<-h2,okOf,List.map_map]
 congr 1
 funext v
 cases v<;>rfl
theorem spawn_ok (h:ThO b w F x) (hTab:Tab w) (p:Int) (m:BV):Calls Tryz.prog 125 #[.pointer (some ⟨b,0,none⟩),.int .i64 p,.int .u64 (mi m)] w fun e w'=>e=.returned (.tuple #[.int .i64 (spE x p m).1,.int .i64 (spE x p m).2])/\Turn (ThO b) w w' F (spS x p m):=by
 refine u125 ?_
 rw[t125]
 refine⟨fun g=>by simp at g,fun _=>⟨fun g1=>⟨fun g2=>⟨(tright_ok h m).mono ?_⟩,fun g2=>?_⟩,fun g1=>?_⟩⟩
 ·rintro e w1 ⟨rfl,rfl⟩
  refine⟨_,rfl,fun g=>?_,fun g=>?_⟩
  ·have hn:¬spOk x p m:=fun h=>by simp[h.2.2]at g
   rw[spE,spS,if_neg hn,if_neg (fun h=>hn h.1)]
   exact⟨rfl,Turn.same h⟩
  ·have hs:spOk x p m:=⟨by simp at g1;omega,by simp at g2;omega,by simpa using g⟩
   rw[spE,spS,if_pos hs]
   obtain⟨x1,S⟩:=x
   obtain⟨b2,b3,⟨⟨o,gg⟩,c,qs⟩,hk,hc,hI⟩:=id h
   simp only at hc hI⊢
   subst hc
   have ho:=hI.ok
   have hl:=hI.len
   have hsl:=hI.slen
   simp only at hl
   obtain⟨F1,hsl1,ks⟩:=hk.slot
   simp only at hsl1 ks
   refine⟨_,rfl,_,by rw[add00'];exact hk.blk.cell rfl,⟨(slTake_ok hTab hsl1).mono ?_⟩⟩
   rintro e w2 ⟨rfl,hT⟩
   obtain⟨F2,q1,q2,q3⟩:=ks _ _ hT
   rcases take_cases o with⟨j,hj,t1,t2,t3⟩|⟨t1,t2⟩
   ·rw[if_pos (show spOk (c,S) p m/\(takeE_Slot (okOf S)).2=0 from⟨hs,by rw[<-ho,t1]⟩)]
    simp only[<-ho,t1,t2]at q1⊢
    have hj':j<qs.length:=by rw[ho]at hj;simp[okOf]at hj;omega
    refine⟨_,_,rfl,fun g=>by simp at g,fun _=>⟨_,rfl,_,q1.blk.cell rfl,⟨fun w3 hN=>?_⟩⟩⟩
    obtain⟨G,hf,kf⟩:=q1.fam
    simp only at hf kf
    have hTf:=fam_new hf hj' (t:=(p,m,0,false,false,0)) hN
    obtain⟨F3,r1,r2,r3⟩:=kf _ _ hTf
    obtain⟨F4,hm,km⟩:=r1.mp
    simp only at hm km
    obtain⟨w4,hr,hT4⟩:=run_put mpT_Thr hm ((j:Int)+1) w2.heap.size
    have hfin:=km _ _ hT4
    have e1:((j:Int)+1).toNat-1=j:=by omega
    simp only[e1]
    exact⟨w4,hr,by first|rfl|trivial,Turn.tho (Turn.next q1 q2 q3 (Turn.next r1 r2 r3 hfin)) (hI.put hj' (w2.heap.size,(p,m,0,false,false,0)))⟩
   ·rw[if_neg (show ¬(spOk (c,S) p m/\(takeE_Slot (okOf S)).2=0)from fun h=>by have:=h.2;rw[<-ho,t1]at this;cases this)]
    simp only[<-ho,t1,t2]at q1⊢
    exact⟨_,_,rfl,fun _=>⟨by first|rfl|trivial,Turn.tho ⟨F2,q1,q2,q3⟩ hI⟩,fun g=>by simp at g⟩
 ·have hn:¬spOk x p m:=fun h=>by have:=h.2.1;simp at g2;omega
  rw[spE,spS,if_neg hn,if_neg (fun h=>hn h.1)]
  exact⟨rfl,Turn.same h⟩
 ·have hn:¬spOk x p m:=fun h=>by have:=h.1;simp at g1;omega
  rw[spE,spS,if_neg hn,if_neg (fun h=>hn h.1)]
  exact⟨rfl,Turn.same h⟩
theorem exit_ok (h:ThO b w F x) (n:Int):Calls Tryz.prog 238 #[.pointer (some ⟨b,0,none⟩),.int .i64 n] w fun e w'=>e=.returned (.int .i64 (exE x n))/\Turn (ThO b) w w' F (exS x n):=by
 refine u238 ?_
 rw[t238]
 refine⟨(find_ok_Thr h n).mono ?_⟩
 rintro e w1 ⟨rfl,⟨k1,rfl⟩|⟨i,t,bi,Fi,rfl,k1,rfl,hF⟩⟩
 ·simp only[exE,exS,k1]
  exact⟨_,_,rfl,fun _=>⟨rfl,Turn.same h⟩,fun g=>by simp at g⟩
 ·simp only[exE,exS,k1]
  clear hF
  obtain⟨x1,S⟩:=x
  obtain⟨b2,b3,⟨⟨o,gg⟩,c,qs⟩,h,hc,hI⟩:=h
  simp only at hc hI k1⊢
  subst hc
  have hl:=hI.len
  simp only at hl
  rcases hI.sat ((i:Int)+1)with⟨i',hi,hii,s1,s2⟩|⟨s1,_,_⟩
  ·have:i'=i:=by omega
   subst this
   rw[k1]at s1
   have hsome:qs[i'].isSome=true:=by cases hq:qs[i']with|none=>rw[hq]at s1;cases s1|some q=>rfl
   have hhas:=hI.has hi
   rw[hsome]at hhas
   obtain⟨F1,hm,km⟩:=h.mp
   obtain⟨w2,hr,hT⟩:=run_del mpT_Thr hm ((i':Int)+1) 3 0
   obtain⟨F2,q1,q2,q3⟩:=km _ _ hT
   obtain⟨F3,hs,ks⟩:=q1.slot
   simp only at hs ks
   refine⟨_,_,rfl,fun g=>by simp at g,fun _=>⟨_,rfl,_,h.blk.cell rfl,w2,hr,_,rfl,_,by rw[add00'];exact q1.blk.cell rfl,⟨(slGive_ok hs _).mono ?_⟩⟩⟩
   rintro e w3 ⟨rfl,hT3⟩
   obtain⟨F4,r1,r2,r3⟩:=ks _ _ hT3
   obtain⟨G,hf,kf⟩:=r1.fam
   simp only at hf kf
   have hfin:=kf _ _ (fam_none hf hi)
   have e1:((i':Int)+1).toNat-1=i':=by omega
   have e2:giveS_Slot o ((i':Int)+1)=o.set i' false:=by rw[giveS_Slot,if_pos hhas,e1]
   rw[e2]at hfin r1
   rw[e1]
   exact⟨_,rfl,by rw[giveE_Slot,if_pos hhas],Turn.tho (Turn.next q1 q2 q3 (Turn.next r1 r2 r3 hfin)) (hI.del hi)⟩
  ·rw[k1]at s1;cases s1
def okC_Thr (n:Int):Prop:=1<=n/\n<=64
def newT_Thr (n:Int):TX:=(n,List.replicate 32 none)
theorem TI_Thr.new (c:Int):TI_Thr ((List.replicate 32 false,(fun _=>none,0)),(c,List.replicate 32 none)) (List.replicate 32 none):=by
 refine⟨by simp,by simp,fun id=>?_,by simp⟩
 simp only[gO]
 split
 ·rw[List.getD_eq_getElem?_getD,List.getElem?_replicate];split<;>rfl
 ·rfl
theorem tnew_ok_Thr (n:Int) (w:World):Calls Tryz.prog 34 #[.int .i64 n] w fun e w'=>
  (¬okC_Thr n/\e=.returned (.tuple #[.pointer none,.int .i64 2])/\w'=w)∨
  (okC_Thr n/\∃b F,e=.returned (.tuple #[.pointer (some ⟨b,0,none⟩),.int .i64 0])/\ThO b w' F (newT_Thr n)/\Upd no w w'/\∀i,F i->w.heap.size<=i):=by
 refine u34 ?_
 rw[t34]
 refine⟨fun g1=>⟨fun g2=>.inl ⟨?_,rfl,rfl⟩,fun g2=>?_⟩,fun g1=>.inl ⟨?_,rfl,rfl⟩⟩
 ·unfold okC_Thr;simp at g2;omega
 ·have g1:¬n<1:=by simpa using g1
  have g2:¬64<n:=by simpa using g2
  refine⟨(slNew_ok 32 w).mono ?_⟩
  rintro e w1 hh
  obtain⟨_,b2,F1,rfl,hQ,hU,hF⟩:=hh.resolve_left (fun h=>absurd (by omega) h.1)
  have hM:Mine w w1 (SlO b2) (List.replicate 32 false):=Mine.new (Upd.refl _ _) hU hQ hF
  clear hU hQ hF
  refine⟨_,_,rfl,fun g=>by simp at g,fun _=>⟨fun w2 hN2=>⟨fun w3 hN=>?_⟩⟩⟩
  replace hM:Mine w w2 (Star (SlO b2) (MapO w1.heap.size fP)) (List.replicate 32 false,(fun _=>none,0)):=hM.add (hN2.upd no) (MapO.new hN2) (fun i hi=>Nat.le_of_eq hi.symm)
  generalize w1.heap.size=b3 at hM hN⊢
  have hX:(Star (Rw w2.heap.size 192 (tbE b2 b3)) (Fam OpO)) w3 (fun i=>i=w2.heap.size) (n,List.replicate 32 none):=⟨_,fun _=>False,Rw.new hN rfl,Fam.rep (A:=OpO) (s:=none) (fun _ h=>h),fun i=>by simp,fun _ _ h=>h⟩
  have hM3:Mine w w3 (ThR w2.heap.size b2 b3) ((List.replicate 32 false,(fun _=>none,0)),(n,List.replicate 32 none)):=hM.add (hN.upd no) hX (fun i hi=>Nat.le_of_eq hi.symm)
  obtain⟨F,hF1,hF2,hF3⟩:=hM3
  exact .inr ⟨⟨by omega,by omega⟩,_,F,rfl,⟨b2,b3,_,hF1,rfl,TI_Thr.new n⟩,hF2,hF3⟩
 ·unfold okC_Thr;simp at g1;omega
end
end Go.Dav
namespace Go.Dav
open Go.Proofs
def fqE (g:Ring) (p:Option Addr) (c:Nat):List Value:=[.slice p g.r.length c,.int .i64 g.f,.int .i64 g.m]
abbrev RO (b:Nat):Ob (Ring×Option Addr×Nat):=Hd b 295 3 1 fqE (fun g=>g.r.length) (fun g=>g.r.map (Value.int .i64))
def FqO (b:Nat):Ob (Nat×List Int):=fun w F x=>∃g y,RO b w F (g,y)/\g.ok/\g.r.length=x.1/\view g=x.2/\x.2.Nodup
instance Frame.fq (b:Nat):Frame (FqO b) where
 upd:=fun⟨g,y,h,r⟩ k hG=>⟨g,y,(Frame.hd ..).upd h k hG,r⟩
 lt:=fun⟨_,_,h,_⟩=>(Frame.hd ..).lt h
def pushE (x:Nat×List Int) (n:Int):Int:=if n∈x.2 then 6 else if x.2.length=x.1 then 5 else 0
def pushS (x:Nat×List Int) (n:Int):Nat×List Int:=if pushE x n=0 then(x.1,x.2++[n])else x
def frontE (x:Nat×List Int):Int×Int:=match x.2 with
 | []=>(0,12)
 | a::_=>(a,0)
def popS (x:Nat×List Int):Nat×List Int:=(x.1,x.2.tail)
def dropE (x:Nat×List Int) (n:Int):Int:=if n∈x.2 then 0 else 4
def dropS (x:Nat×List Int) (n:Int):Nat×List Int:=(x.1,x.2.erase n)
def turnE (x:Nat×List Int):Int:=(frontE x).2
def turnS (x:Nat×List Int):Nat×List Int:=match x.2 with
 | []=>x
 | a::l=>(x.1,l++[a])
section
variable {w:World} {F:Fp} {b:Nat} {x:Nat×List Int} {g:Ring} {y:Option Addr×Nat}
theorem FqO.len (h:FqO b w F x):x.2.length<=x.1/\x.1<=1024/\0<x.1:=by
 obtain⟨g,y,h1,h2,h3,h4,h5⟩:=h
 rw[<-h3,<-h4,view_length]
 exact⟨h2.m,h2.le,h2.pos⟩
theorem new_ok_Fifo (n:Int) (w:World):Calls Tryz.prog 110 #[.int .i64 n] w fun e w'=>
  (¬(1<=n/\n<=1024)/\e=.returned (.tuple #[.pointer none,.int .i64 2])/\w'=w)∨
  ((1<=n/\n<=1024)/\∃b F,e=.returned (.tuple #[.pointer (some ⟨b,0,none⟩),.int .i64 0])/\FqO b w' F (n.toNat,[])/\Upd no w w'/\∀i,F i->w.heap.size<=i):=by
 refine u110 ?_
 rw[t110]
 refine⟨fun h1=>⟨fun h2=>.inl ⟨?_,rfl,rfl⟩,fun h2=>?_⟩,fun h1=>.inl ⟨?_,rfl,rfl⟩⟩
 ·simp at h2;omega
 ·have h1:¬n<1:=by simpa using h1
  have h2:¬1024<n:=by simpa using h2
  obtain⟨m,rfl⟩:∃m:Nat,n=m:=⟨n.toNat,by omega⟩
  obtain⟨w1,hr,hN⟩:=run_mkI elI_Lst w (n:=m) (by omega) (by omega) .i64 .i64
  refine⟨_,_,_,w1,hr,⟨fun w2 hN2=>.inr ⟨by omega,w1.heap.size,fun i=>i=w1.heap.size∨fpS (some ⟨w.heap.size,0,none⟩) i,rfl,?_,(hN.upd no).and (hN2.upd no),?_⟩⟩⟩
  ·refine⟨⟨List.replicate m 0,0,0⟩,(some ⟨w.heap.size,0,none⟩,m),⟨?_,?_,?_,fun _=>Iff.rfl⟩,⟨?_,?_,?_,?_⟩,?_,view_fresh m,List.nodup_nil⟩
   ·show Blk w2 w1.heap.size (fqE ⟨List.replicate m 0,0,0⟩ _ m) _
    unfold fqE
    rw[List.length_replicate]
    exact hN2.blk'
   ·simp only[List.length_replicate]
    exact(Sl.new hN (by simp) (by unfold maxLen;omega)).upd (hN2.upd no) (fun _ _ h=>h)
   ·rintro⟨a,ha,hb⟩
    cases ha
    have:=hN.size
    simp only at hb
    omega
   ·simp;omega
   ·simp;omega
   ·simp;omega
   ·simp
   ·simp
  ·rintro i (rfl|⟨a,ha,rfl⟩)
   ·have:=hN.size;omega
   ·cases ha;exact Nat.le_refl _
 ·simp at h1;omega
theorem at_ok_Fifo (h:RO b w F (g,y)) (hk:g.ok) {k:Nat} (hm:k<=g.r.length):Calls Tryz.prog 255 #[.pointer (some ⟨b,0,none⟩),.int .i64 k] w fun e w'=>e=.returned (.int .i64 (pl g.r.length g.f k:Nat))/\Upd no w w':=by
 refine u255 ?_
 rw[t255]
 intro w1 q1 q2 q3 q4
 have hU:=Upd.same no q1 q2 q3 q4
 have hB:=h.blk.upd hU id
 have h1:=hk.f
 have h2:=hk.le
 refine⟨_,rfl,_,hB.cell rfl,_,rfl,_,_,_,hB.cell rfl,?_,?_,hU⟩
 ·simp only;omega
 ·simp only
  rw[w64 (by omega),<-pl_mod h1 hm,Int.tmod_eq_emod_of_nonneg (by omega)]
  simp
theorem list_ok_Fifo (h:RO b w F (g,y)) (hk:g.ok):Calls Tryz.prog 187 #[.pointer (some ⟨b,0,none⟩)] w fun e w'=>∃p c,e=.returned (.slice p (view g).length c)/\Loc w w' 3 p c (view g):=by
 refine u187 ?_
 rw[t187]
 refine⟨fun _=>⟨_,rfl,_,h.blk.cell rfl,fun h1=>?_,fun h1=>⟨_,rfl,_,h.blk.cell rfl,?_⟩⟩,fun h1=>by simp at h1⟩
 ·have h1:g.m=0:=by simpa using h1
  have hv:view g=[]:=List.eq_nil_of_length_eq_zero (by rw[view_length];exact h1)
  rw[hv]
  exact⟨none,0,rfl,Loc.nil (Upd.refl _ _) _⟩
 ·have hle:=hk.le
  have hm:=hk.m
  have hf:=hk.f
  obtain⟨w1,hr,hN⟩:=run_mkI elI_Lst w (n:=g.m) (by omega) (by omega) .i64 .i64
  refine⟨_,_,_,w1,hr,?_⟩
  intro w2 q1 q2 q3 q4
  have hU:=(hN.upd no).and (Upd.same no q1 q2 q3 q4)
  have hB:=h.blk.upd hU id
  have hS0:Sl w1 3 1 (some ⟨w.heap.size,0,none⟩) g.m g.m ((List.replicate g.m (0:Int)).map (Value.int .i64)):=Sl.new hN (by simp) (by unfold maxLen;omega)
  have hS:=hS0.upd (Upd.same no q1 q2 q3 q4) (fun _ _ h=>h)
  have hR:=h.sl.upd hU (fun _ _ h=>h)
  have hD:=hR.dropN g.f (by simp only;omega)
  refine⟨_,rfl,_,_,_,hB.cell rfl,_,rfl,_,hB.cell rfl,⟨by omega,by simp only;omega⟩,?_⟩
  obtain⟨w3,hr3,hS3,hU3⟩:=run_copy elI_Lst hS hD.cells (sn:=g.r.length-g.f) (sc:=y.2-g.f) (by simp) (fun u hu=>by obtain⟨v,_,rfl⟩:=List.mem_map.1 (List.mem_of_mem_drop hu);rfl) 3
  refine⟨_,w3,hr3,?_⟩
  intro w4 q1 q2 q3 q4
  have hU4:=hU3.trans (Upd.same no q1 q2 q3 q4) (fun _ _ h=>h.elim)
  have hnew:∀i,i<w.heap.size->¬fpS (some ⟨w.heap.size,0,none⟩) i:=by
   rintro i hi ⟨a,ha,rfl⟩
   cases ha
   exact Nat.lt_irrefl _ hi
  have hUw:Upd no w w4:=hU.trans hU4 (fun i hi hf=>absurd hf (hnew i hi))
  have hB4:=h.blk.upd hUw id
  have hR4:=h.sl.upd hUw (fun _ _ h=>h)
  have hS4:=hS3.upd (Upd.same no q1 q2 q3 q4) (fun _ _ h=>h)
  refine⟨⟨by omega,by omega⟩,_,rfl,_,_,_,hB4.cell rfl,?_⟩
  obtain⟨w5,hr5,hS5,hU5⟩:=run_copyAt elI_Lst hS4 hR4.cells (sn:=g.r.length) (sc:=y.2) (by simp) (by simp[Value.oneCell']) 3 (k:=min (g.r.length-g.f) g.m) (by omega)
  refine⟨_,w5,hr5,some ⟨w.heap.size,0,none⟩,g.m,by rw[view_length],hUw.trans hU5 (fun i hi hf=>absurd hf (hnew i hi)),?_,?_⟩
  ·rw[view_length]
   have:=ring_copy hk (Value.int .i64)
   simp only[Nat.mul_one]at hS5
   rw[this]at hS5
   exact hS5
  ·rintro i ⟨a,ha,rfl⟩
   cases ha
   exact Nat.le_refl _
theorem qlist_ok (h:FqO b w F x):Calls Tryz.prog 187 #[.pointer (some ⟨b,0,none⟩)] w fun e w'=>∃p c,e=.returned (.slice p x.2.length c)/\Cells w' p (x.2.map (Value.int .i64))/\Upd no w w':=by
 obtain⟨g,y,h1,h2,h3,h4,h5⟩:=h
 refine(list_ok_Fifo h1 h2).mono ?_
 rintro e w' ⟨p,c,rfl,hL⟩
 rw[h4]at hL⊢
 exact⟨p,c,rfl,hL.S.cells,hL.U⟩
theorem qlen_ok (h:FqO b w F x):Calls Tryz.prog 392 #[.pointer (some ⟨b,0,none⟩)] w fun e w'=>e=.returned (.int .i64 x.2.length)/\w'=w:=by
 obtain⟨g,y,h1,h2,h3,h4,h5⟩:=h
 refine u392 ?_
 rw[t392]
 exact⟨fun h=>by simp at h,fun _=>⟨_,rfl,_,h1.blk.cell rfl,by rw[<-h4,view_length],rfl⟩⟩
theorem qhas_ok (h:FqO b w F x) (n:Int):Calls Tryz.prog 254 #[.pointer (some ⟨b,0,none⟩),.int .i64 n] w fun e w'=>e=.returned (.bool (decide (n∈x.2)))/\Upd no w w':=by
 have hl:=h.len
 refine u254 ?_
 rw[t254]
 refine⟨(qlist_ok h).mono ?_⟩
 rintro e w' ⟨p,c,rfl,hC,hU⟩
 refine⟨_,_,_,rfl,⟨(contains_ok hC (by omega) n).mono ?_⟩⟩
 rintro e w' ⟨rfl,rfl⟩
 exact⟨_,rfl,rfl,hU⟩
theorem qfront_ok (h:FqO b w F x):Calls Tryz.prog 307 #[.pointer (some ⟨b,0,none⟩)] w fun e w'=>e=.returned (.tuple #[.int .i64 (frontE x).1,.int .i64 (frontE x).2])/\Upd no w w':=by
 obtain⟨g,y,h1,h2,h3,h4,h5⟩:=h
 obtain⟨xc,xl⟩:=x
 simp only at h3 h4 h5
 refine u307 ?_
 rw[t307]
 refine⟨fun h=>by simp at h,fun _=>⟨_,rfl,_,h1.blk.cell rfl,fun k1=>?_,fun k1=>?_⟩⟩
 ·have k1:g.m=0:=by simpa using k1
  have hv:xl=[]:=by rw[<-h4];exact List.eq_nil_of_length_eq_zero (by rw[view_length];exact k1)
  subst hv
  exact⟨rfl,Upd.refl _ _⟩
 ·have k1:g.m≠0:=by simp at k1;omega
  intro w1 q1 q2 q3 q4
  have hU:=Upd.same no q1 q2 q3 q4
  have hB:=h1.blk.upd hU id
  have hS:=h1.sl.upd hU (fun _ _ h=>h)
  have hf:=h2.f
  obtain⟨a,ha,hc⟩:=hS.cells.at1 (l:=g.r) (i:=g.f) hf
  refine⟨_,rfl,_,_,_,hB.cell rfl,_,rfl,_,hB.cell rfl,⟨by omega,by simp only;omega⟩,a,ha,_,hc,?_,hU⟩
  cases xl with
  | nil=>rw[<-List.length_eq_zero_iff,view_length]at h4;omega
  | cons v l=>
   obtain⟨_,k2,_⟩:=view_front h2 h4
   show _=Ending.returned (.tuple #[.int .i64 v,.int .i64 0])
   rw[<-k2]
   simp[List.getD_eq_getElem?_getD,hf]
theorem qpush_ok (h:FqO b w F x) (n:Int):Calls Tryz.prog 151 #[.pointer (some ⟨b,0,none⟩),.int .i64 n] w fun e w'=>e=.returned (.int .i64 (pushE x n))/\Turn (FqO b) w w' F (pushS x n):=by
 refine u151 ?_
 rw[t151]
 refine⟨fun h=>by simp at h,fun _=>⟨(qhas_ok h n).mono ?_⟩⟩
 rintro e w1 ⟨rfl,hU1⟩
 refine⟨_,rfl,fun k1=>?_,fun k1=>?_⟩
 ·have k1:n∈x.2:=by simpa using k1
  have e1:pushE x n=6:=by simp[pushE,k1]
  rw[pushS,e1]
  exact⟨rfl,Turn.quiet h hU1⟩
 ·have k1:n∉x.2:=by simpa using k1
  obtain⟨g,y,h1,h2,h3,h4,h5⟩:=id h
  intro w2 q1 q2 q3 q4
  have hU2:=hU1.and (Upd.same no q1 q2 q3 q4)
  have hB:=h1.blk.upd hU2 id
  have hm:=h2.m
  have hle:=h2.le
  refine⟨_,rfl,_,hB.cell rfl,_,rfl,_,_,_,hB.cell rfl,fun k2=>?_,fun k2=>?_⟩
  ·have k2:g.m=g.r.length:=by simp at k2;omega
   have e1:pushE x n=5:=by
    have:x.2.length=x.1:=by rw[<-h4,view_length,<-h3,k2]
    simp[pushE,k1,this]
   rw[pushS,e1]
   exact⟨rfl,Turn.quiet h hU2⟩
  ·have k2:g.m<g.r.length:=by simp at k2;omega
   have e1:pushE x n=0:=by
    have:x.2.length≠x.1:=by rw[<-h4,view_length,<-h3];omega
    simp[pushE,k1,this]
   rw[pushS,e1,if_pos rfl]
   intro w3 q1 q2 q3 q4
   have hU3:=hU2.and (Upd.same no q1 q2 q3 q4)
   have hB3:=h1.blk.upd hU3 id
   have hR3:RO b w3 F (g,y):=(Frame.hd ..).upd h1 hU3 (fun _ _ h=>h)
   refine⟨_,rfl,_,_,_,hB3.cell rfl,_,rfl,_,hB3.cell rfl,⟨(at_ok_Fifo hR3 h2 h2.m).mono ?_⟩⟩
   rintro e w4 ⟨rfl,hU4⟩
   have hU5:=hU3.and hU4
   have hB4:=h1.blk.upd hU5 id
   have hR4:RO b w4 F (g,y):=(Frame.hd ..).upd h1 hU5 (fun _ _ h=>h)
   have hpl:=pl_lt h2.f h2.m
   have hS4:=hR4.sl
   obtain⟨a,ha,_⟩:=hS4.cells.at1 (l:=g.r) (i:=0) h2.pos
   simp only at ha hS4
   refine⟨_,rfl,hB4.cell rfl,⟨by omega,by simp only;omega⟩,a,ha,?_⟩
   rw[ha]at hS4
   refine hS4.wr (o:=pl g.r.length g.f g.m*1) (by simp;omega) (fun w5 hS5 hU6=>?_)
   have hB5:=hR4.blkU (w1:=w5) (by rw[ha];exact hU6)
   refine⟨_,rfl,_,hB5.cell rfl,_,rfl,hB5.wr (by simp[fqE]) (fun w6 hW=>⟨rfl,?_⟩)⟩
   have hset:setL (g.r.map (Value.int .i64)) (pl g.r.length g.f g.m*1) [.int .i64 n]=(g.r.set (pl g.r.length g.f g.m) n).map (Value.int .i64):=by
    rw[Nat.mul_one]
    exact setL_set hpl
   rw[hset]at hS5
   have hT:Turn (RO b) w4 w6 F (⟨g.r.set (pl g.r.length g.f g.m) n,g.f,g.m+1⟩,y):=by
    refine hR4.put (p':=y.1) (c':=y.2) (w1:=w5) ?_ (by rw[ha];exact hU6) (fun i hi=>.inl hi) ?_
    ·simp only[List.length_set]
     rw[ha];exact hS5
    ·have hW':=hW
     simp only[fqE,List.length_set]
     rw[w64 (by omega)]at hW'
     exact hW'
   obtain⟨F',t1,t2,t3⟩:=hT
   refine⟨F',⟨_,y,t1,⟨?_,?_,?_,?_⟩,?_,?_,?_⟩,(hU5.mono (fun _ _ h=>h.elim)).trans t2 (fun _ _ h=>h),fun i hi=>(t3 i hi).imp id (fun h=>Nat.le_trans hU5.size h)⟩
   ·simp only[List.length_set];exact h2.pos
   ·simp only[List.length_set];exact h2.le
   ·simp only[List.length_set];exact h2.f
   ·simp only[List.length_set];omega
   ·simp only[List.length_set];exact h3
   ·rw[view_push h2 k2,h4]
   ·exact List.nodup_append.2 ⟨h5,by simp,fun a ha b hb=>by simp at hb;subst hb;exact fun e=>k1 (e ▸ ha)⟩
theorem qpop_ok (h:FqO b w F x):Calls Tryz.prog 304 #[.pointer (some ⟨b,0,none⟩)] w fun e w'=>e=.returned (.tuple #[.int .i64 (frontE x).1,.int .i64 (frontE x).2])/\Turn (FqO b) w w' F (popS x):=by
 refine u304 ?_
 rw[t304]
 refine⟨(qfront_ok h).mono ?_⟩
 rintro e w1 ⟨rfl,hU1⟩
 obtain⟨xc,xl⟩:=x
 cases xl with
 | nil=>exact⟨_,_,rfl,fun k=>by simp[frontE]at k,fun _=>⟨rfl,Turn.quiet h hU1⟩⟩
 | cons v l=>
  obtain⟨g,y,h1,h2,h3,h4,h5⟩:=id h
  simp only at h3 h4 h5
  obtain⟨k1,k2,k3⟩:=view_front h2 h4
  have hR:RO b w1 F (g,y):=(Frame.hd ..).upd h1 hU1 (fun _ _ h=>h)
  have hm:=h2.m
  have hle:=h2.le
  refine⟨_,_,rfl,fun _=>⟨(at_ok_Fifo hR h2 (k:=1) h2.pos).mono ?_⟩,fun k=>by simp[frontE]at k⟩
  rintro e w2 ⟨rfl,hU2⟩
  have hU:=hU1.and hU2
  have hR2:RO b w2 F (g,y):=(Frame.hd ..).upd h1 hU (fun _ _ h=>h)
  refine⟨_,rfl,_,rfl,hR2.blk.wr (by simp[fqE]) (fun w3 hW3=>⟨_,rfl,_,hW3.blk'.cell rfl,_,rfl,hW3.blk'.wr (by simp[fqE,setL]) (fun w4 hW4=>⟨rfl,?_⟩)⟩)⟩
  have hT:Turn (RO b) w2 w4 F (⟨g.r,pl g.r.length g.f 1,g.m-1⟩,y):=by
   refine⟨F,⟨?_,hR2.sl.upd (hW3.U.and hW4.U) (fun i hi e=>hR2.2.2.1 (e ▸ hi)),hR2.2.2.1,hR2.2.2.2⟩,(hW3.U.and hW4.U).mono (fun i _ hi=>(hR2.2.2.2 i).2 (.inl hi)),fun _ hi=>.inl hi⟩
   have:=hW4.blk'
   rw[w64 (x:=(g.m:Int)-1) (by omega)]at this
   show Blk w4 b [.slice y.1 g.r.length y.2,.int .i64 (pl g.r.length g.f 1:Nat),.int .i64 ((g.m-1:Nat):Int)] _
   rw[show((g.m-1:Nat):Int)=(g.m:Int)-1 by omega]
   exact this
  obtain⟨F',t1,t2,t3⟩:=hT
  exact⟨F',⟨_,y,t1,⟨h2.pos,h2.le,pl_lt h2.f h2.pos,by simp only;omega⟩,h3,k3,(List.nodup_cons.1 h5).2⟩,(hU.mono (fun _ _ h=>h.elim)).trans t2 (fun _ _ h=>h),fun i hi=>(t3 i hi).imp id (fun h=>Nat.le_trans hU.size h)⟩
theorem qturn_ok (h:FqO b w F x):Calls Tryz.prog 366 #[.pointer (some ⟨b,0,none⟩)] w fun e w'=>e=.returned (.int .i64 (turnE x))/\Turn (FqO b) w w' F (turnS x):=by
 refine u366 ?_
 rw[t366]
 have hl:=h.len
 have hnd:x.2.Nodup:=by obtain⟨_,_,_,_,_,_,h5⟩:=h;exact h5
 refine⟨(qpop_ok h).mono ?_⟩
 rintro e w1 ⟨rfl,F',t1,t2,t3⟩
 obtain⟨xc,xl⟩:=x
 cases xl with
 | nil=>exact⟨_,_,rfl,fun _=>⟨rfl,F',t1,t2,t3⟩,fun k=>by simp[frontE]at k⟩
 | cons v l=>
  refine⟨_,_,rfl,fun k=>by simp[frontE]at k,fun _=>⟨(qpush_ok t1 _).mono ?_⟩⟩
  rintro e w2 ⟨rfl,F2,r1,r2,r3⟩
  simp only at hl hnd
  rw[List.nodup_cons]at hnd
  have e1:pushE (popS (xc,v::l)) (frontE (xc,v::l)).1=0:=by
   simp only[List.length_cons]at hl
   have:l.length≠xc:=by omega
   simp[pushE,popS,frontE,hnd.1,this]
  refine⟨_,rfl,by rw[e1];rfl,?_⟩
  rw[pushS,e1,if_pos rfl]at r1
  refine⟨F2,r1,t2.trans r2 (fun i hi hf=>(t3 i hf).elim id (fun h=>absurd h (by omega))),fun i hi=>?_⟩
  rcases r3 i hi with h|h
  ·exact t3 i h
  ·exact .inr (Nat.le_trans t2.size h)
end
end Go.Dav
namespace Go.Dav
open Go.Proofs
section
variable {w:World} {F:Fp} {b:Nat} {x:Nat×List Int} {g:Ring} {y:Option Addr×Nat}
theorem FqO.nodup (h:FqO b w F x):x.2.Nodup:=by obtain⟨_,_,_,_,_,_,h5⟩:=h;exact h5
def shift (l:List Int) (k i:Nat):List Int:=(List.range l.length).map (fun j=>if k<=j/\j<i then l.getD (j+1) 0 else l.getD j 0)
theorem shift_start (l:List Int) (k:Nat):shift l k k=l:=by
 apply List.ext_getElem?
 intro j
 by_cases h:j<l.length
 ·simp[shift,h,show ¬(k<=j/\j<k) by omega]
 ·simp[shift,h]
theorem shift_step {l:List Int} {k i:Nat} (hk:k<=i) (hi:i+1<l.length):(shift l k i).set i (l[i+1])=shift l k (i+1):=by
 apply List.ext_getElem?
 intro j
 rw[List.getElem?_set]
 by_cases h:j<l.length
 ·by_cases hij:i=j
  ·subst hij
   simp[shift,h,hk,hi]
  ·rw[if_neg hij]
   have:(k<=j/\j<i)↔(k<=j/\j<i+1):=by omega
   simp[shift,h,this]
 ·by_cases hij:i=j
  ·omega
  ·simp[shift,h,hij]
theorem shift_end {l:List Int} {k:Nat} (hk:k<l.length):(shift l k (l.length-1)).take (l.length-1)=l.eraseIdx k:=by
 apply List.ext_getElem?
 intro j
 rw[List.getElem?_take,List.getElem?_eraseIdx]
 by_cases h:j<l.length-1
 ·have h2:j<l.length:=by omega
  have h3:j+1<l.length:=by omega
  by_cases hkj:j<k
  ·simp[shift,h,h2,hkj,show ¬k<=j by omega]
  ·simp[shift,h,h2,h3,hkj,show k<=j by omega]
 ·rw[if_neg h]
  split<;>(symm;apply List.getElem?_eq_none;omega)
set_option maxRecDepth 100000 in
theorem qdrop_ok (h:FqO b w F x) (n:Int):Calls Tryz.prog 364 #[.pointer (some ⟨b,0,none⟩),.int .i64 n] w fun e w'=>e=.returned (.int .i64 (dropE x n))/\Turn (FqO b) w w' F (dropS x n):=by
 have hnd:=h.nodup
 obtain⟨g,y,h1,h2,h3,h4,h5⟩:=id h
 obtain⟨xc,l⟩:=x
 simp only at h3 h4 h5 hnd
 refine u364 ?_
 rw[t364]
 refine⟨fun h=>by simp at h,fun _=>⟨(list_ok_Fifo h1 h2).mono ?_⟩⟩
 rintro e w1 ⟨p,c,rfl,hL⟩
 rw[h4]at hL⊢
 have hm:=h2.m
 have hle:=h2.le
 have hlen:l.length=g.m:=by rw[<-h4,view_length]
 refine⟨_,_,_,rfl,⟨(index_ok hL.S.cells (by omega) n).mono ?_⟩⟩
 rintro e w1' ⟨rfl,rfl⟩
 refine⟨_,rfl,fun k1=>?_,fun k1=>?_⟩
 ·have k1:n∉l:=fun hm=>by simp[idx,hm]at k1;omega
  have e1:dropE (xc,l) n=4:=by simp[dropE,k1]
  rw[dropS,e1,List.erase_of_not_mem k1]
  exact⟨rfl,Turn.quiet h hL.U⟩
 ·have k1:n∈l:=by
   refine Decidable.byContradiction fun hm=>?_
   simp[idx,hm]at k1
  have e1:dropE (xc,l) n=0:=by simp[dropE,k1]
  have hi:idx l n=(l.idxOf n:Int):=by simp[idx,k1]
  have hk:l.idxOf n<l.length:=List.idxOf_lt_length_of_mem k1
  rw[dropS,e1,hi]
  generalize hkk:l.idxOf n=k at hk⊢
  have hR1:RO b w1' F (g,y):=(Frame.hd ..).upd h1 hL.U (fun _ _ h=>h)
  refine⟨WP_loop okProg (M:=M364) (σ:=Nat×List Int) (fun s=>e364_1 (some ⟨b,0,none⟩) p l.length c (s.1:Int))
   (fun s w'=>k<=s.1/\s.1+1<=l.length/\s.2.length=g.r.length/\view ⟨s.2,g.f,g.m⟩=shift l k s.1/\Upd F w1' w'/\RO b w' F (⟨s.2,g.f,g.m⟩,y)/\Cells w' p (l.map (Value.int .i64))) (fun s _=>l.length-s.1) (k,g.r)
   ⟨rfl,rfl,rfl,trivial⟩ ⟨by simp,by simp only;omega,rfl,by simp only;rw[shift_start];exact h4,Upd.refl _ _,hR1,hL.S.cells⟩ ?_⟩
  rintro⟨i,r⟩ w2 ⟨i1,i2,i3,i4,hU2,hR2,hC2⟩
  simp only at i1 i2 i3 i4 hR2⊢
  rw[t364_1]
  have ew:IntKind.wrap .i64 ((i:Int)+1)=((i+1:Nat):Int):=by rw[w64 (by omega)];rfl
  rw[ew]
  refine⟨fun hlt w3 q1 q2 q3 q4=>?_,fun hge=>?_⟩
  ·have hi1:i+1<l.length:=by simp at hlt;omega
   have hU3:=Upd.same no q1 q2 q3 q4
   have hR3:RO b w3 F (⟨r,g.f,g.m⟩,y):=(Frame.hd ..).upd hR2 hU3 (fun _ _ h=>h)
   have hok:Ring.ok ⟨r,g.f,g.m⟩:=⟨by rw[i3];exact h2.pos,by rw[i3];exact hle,by rw[i3];exact h2.f,by rw[i3];exact hm⟩
   obtain⟨a,ha,hc⟩:=(hC2.no hU3).at1 hi1
   refine⟨_,rfl,_,_,_,hR3.blk.cell rfl,⟨by omega,by omega⟩,a,ha,_,hc,⟨(at_ok_Fifo hR3 hok (k:=i) (by rw[i3];omega)).mono ?_⟩⟩
   rintro e w4 ⟨rfl,hU4⟩
   have hR4:RO b w4 F (⟨r,g.f,g.m⟩,y):=(Frame.hd ..).upd hR3 hU4 (fun _ _ h=>h)
   obtain⟨a',ha',hc'⟩:=((hC2.no hU3).no hU4).at1 hi1
   have haa:a'=a:=Option.some.inj (ha'.symm.trans ha)
   subst haa
   have hpl:pl r.length g.f i<r.length:=pl_lt hok.f (by rw[i3];omega)
   have hS4:=hR4.sl
   obtain⟨a2,ha2,_⟩:=hS4.cells.at1 (l:=r) (i:=0) (by rw[i3];exact h2.pos)
   simp only at ha2 hS4
   refine⟨_,rfl,hc',hR4.blk.cell rfl,⟨by omega,by simp only;omega⟩,a2,ha2,?_⟩
   rw[ha2]at hS4
   refine hS4.wr (o:=pl r.length g.f i*1) (by simp;omega) (fun w5 hS5 hU5=>?_)
   have hset:setL (r.map (Value.int .i64)) (pl r.length g.f i*1) [.int .i64 l[i+1]]=(r.set (pl r.length g.f i) l[i+1]).map (Value.int .i64):=by
    rw[Nat.mul_one]
    exact setL_set hpl
   rw[hset]at hS5
   have hU5F:Upd F w4 w5:=hU5.mono (fun j _ hj=>(hR4.2.2.2 j).2 (.inr (by rw[ha2];exact hj)))
   have hR5:RO b w5 F (⟨r.set (pl r.length g.f i) l[i+1],g.f,g.m⟩,y):=by
    refine⟨?_,?_,hR4.2.2.1,hR4.2.2.2⟩
    ·have:=hR4.blkU (w1:=w5) (by rw[ha2];exact hU5)
     simpa [fqE]using this
    ·simp only[List.length_set]
     rw[ha2];exact hS5
   have hCdis:∀a,p=some a->¬F a.block:=fun a ha hf=>by
    have k1:=hL.F a.block ⟨a,ha,rfl⟩
    have k2:=(Frame.fq b).lt h _ hf
    omega
   refine⟨(i+1,r.set (pl r.length g.f i) l[i+1]),⟨rfl,rfl,rfl,trivial⟩,⟨by simp only;omega,by simp only;omega,by simp only[List.length_set];exact i3,?_,?_,hR5,?_⟩,by simp only;omega⟩
   ·have:=view_set hok (i:=i) (by simp only;rw[i3];omega) l[i+1] (m:=g.m) (by simp only;rw[i3];exact hm)
    simp only at this
    rw[this,i4,shift_step i1 hi1]
   ·exact((hU2.trans hU3 (fun _ _ h=>h.elim)).trans hU4 (fun _ _ h=>h.elim)).trans hU5F (fun _ _ h=>h)
   ·exact((hC2.no hU3).no hU4).upd (fun a ha=>by
     have k1:=(hL.S.lt a.block ⟨a,ha,rfl⟩)
     exact hU5F.blk _ (Nat.lt_of_lt_of_le k1 (Nat.le_trans hU2.size (Nat.le_trans hU3.size hU4.size))) (hCdis a ha))
  ·have hi1:i+1=l.length:=by simp at hge;omega
   refine⟨_,rfl,_,hR2.blk.cell rfl,_,rfl,hR2.blk.wr (by simp[fqE]) (fun w3 hW=>⟨rfl,?_⟩)⟩
   have hB3:Blk w3 b (fqE ⟨r,g.f,g.m-1⟩ y.1 y.2) 295:=by
    have:=hW.blk'
    rw[w64 (x:=(g.m:Int)-1) (by omega)]at this
    show Blk w3 b [.slice y.1 r.length y.2,.int .i64 g.f,.int .i64 ((g.m-1:Nat):Int)] _
    rw[show((g.m-1:Nat):Int)=(g.m:Int)-1 by omega]
    exact this
   have hR3:RO b w3 F (⟨r,g.f,g.m-1⟩,y):=⟨hB3,hR2.sl.upd hW.U (fun j hj e=>hR2.2.2.1 (e ▸ hj)),hR2.2.2.1,hR2.2.2.2⟩
   have hUF:Upd F w w3:=((hL.U.mono fun _ _ h=>h.elim).trans hU2 (fun _ _ h=>h)).trans hW.U (fun j _ hj=>(hR2.2.2.2 j).2 (.inl hj))
   refine⟨F,⟨_,y,hR3,⟨by simp only;rw[i3];exact h2.pos,by simp only;rw[i3];exact hle,by simp only;rw[i3];exact h2.f,by simp only;rw[i3];omega⟩,by simp only;rw[i3];exact h3,?_,?_⟩,hUF,fun _ hi=>.inl hi⟩
   ·rw[view_less r g.f (m:=g.m) (by omega),i4,show i=l.length-1 by omega,<-hlen,shift_end hk,List.erase_eq_eraseIdx_of_idxOf hkk]
   ·exact hnd.erase n
end
end Go.Dav
namespace Go.Proofs
open Go.RowKit Go.Shelf
attribute [local go_sem] Oper.semAt_some
def Keep2 (a b:Nat) (W W':World):Prop:=W'.heap[a]?=W.heap[a]?/\W'.heap[b]?=W.heap[b]?
theorem Keep2.t {a b:Nat} {A B C:World} (h:Keep2 a b A B) (k:Keep2 a b B C):Keep2 a b A C:=⟨k.1.trans h.1,k.2.trans h.2⟩
theorem Keep2.b {a b:Nat} {w:World} (ha:a<w.heap.size) (hb:b<w.heap.size) (W:World) (l:Nat) (o o':Obj) (hl:w.heap.size<=l) (_:W.heap[l]?=some o) (_:o.isCells=false) (_:o.isWalk=false):Keep2 a b W (W.putObj l o'):=
 ⟨World.putObj_heap_other (by omega),World.putObj_heap_other (by omega)⟩
theorem Keep2.refl (a b:Nat) (W:World):Keep2 a b W W:=⟨rfl,rfl⟩
theorem Tryz.down1_in {α:Type} (enc:α->Value) (F:Fence) (n:Nat) (h38:F.fn 341) (hro:F.round=none) (hn:1<=n) (l Bn bq:Nat) (L:List α) (hL:L.length=8) (J Jx:List α->World->Prop)
  (hY:∀pre x W,J pre W->pre.length<8->YieldAt F (n-1) Tryz.prog l #[enc x] W fun e W'=>
   (e=.returned (.bool true)/\J (pre++[x]) W'/\Keep2 Bn bq W W')∨(e=.returned (.bool false)/\Jx (pre++[x]) W'))
  (W:World) (hBn:W.cell? ⟨Bn,0,none⟩=some (.pointer (some ⟨bq,0,none⟩))) (hc:∀i v,L[i]?=some v->W.cell? ⟨bq,i,none⟩=some (enc v)) (h0:J [] W) :
  CallsIn F n Tryz.prog 341 #[.func (.yield l) #[] #[],.pointer (some ⟨Bn,0,none⟩)] W fun e W'=>(∃v,e=.returned v)/\
   ((∃ys,ys=L.reverse/\J ys W')∨(∃pre,pre <+:L.reverse/\Jx pre W')):=by
 refine callsIn_of_wp Tryz.func341 rfl h38 ?_ hro
 simp only[Tryz.ntmps341,List.size_toArray,List.length_cons,List.length_nil,Nat.reduceAdd,Nat.reduceSub,Array.replicate_succ,Array.replicate_zero,List.push_toArray,List.append_toArray,List.nil_append,List.cons_append]
 gi_wp2
 gi_loopw [3] (fun p wr=>∃(k:Nat),p=.int .i64 ((k:Int)-1)/\k<=8/\wr.cell? ⟨Bn,0,none⟩=some (.pointer (some ⟨bq,0,none⟩))/\(∀i v,L[i]?=some v->wr.cell? ⟨bq,i,none⟩=some (enc v))/\J (L.drop k).reverse wr)
  (fun p wr=>match p with|.int _ i=>(i+1).toNat|_=>0)
 case atStart=>
  exact⟨8,rfl,Nat.le_refl _,hBn,hc,by rw[List.drop_of_length_le (by omega)];exact h0⟩
 case round=>
  obtain⟨k,rfl,hk,hB,hC,hJs⟩:=hrel
  cases k with
  | zero=>
   gi_wp2
   go_end0
   exact⟨⟨_,rfl⟩,.inl ⟨_,by simp,hJs⟩⟩
  | succ k=>
   have hkl:k<L.length:=by omega
   have hcell:wr.cell? ⟨bq,k,none⟩=some (enc L[k]):=hC k _ (List.getElem?_eq_getElem hkl)
   have hdr:L.drop k=L[k]::L.drop (k+1):=List.drop_eq_getElem_cons hkl
   have hrv:(L.drop (k+1)).reverse++[L[k]]=(L.drop k).reverse:=by rw[hdr,List.reverse_cons]
   obtain⟨fn,tmps,assign,body,hy,hR⟩:=hY _ L[k] wr hJs (by simp;omega)
   generalize L[k]=x at *
   have hi:((k+1:Nat):Int)-1=(k:Int):=by omega
   rw[hi]
   gi_wp2
   refine hR.mono ?_
   rintro e W3 (⟨rfl,hJ3,hk3⟩|⟨rfl,hJx3⟩)
   ·gi_wp2
    go_roundw
    case rel=>exact⟨k,rfl,by omega,(World.cell?_of_block hk3.1).trans hB,fun i v h=>(World.cell?_of_block hk3.2).trans (hC i v h),by rw[<-hrv];exact hJ3⟩
    case measure=>show((k:Int)-1+1).toNat<((k:Int)+1).toNat;omega
   ·gi_wp2
    refine bodyPost_ret (results_none rfl _ _ _) rfl ?_
    exact⟨⟨_,rfl⟩,.inr ⟨_,⟨(L.take k).reverse,by rw[hrv,<-List.reverse_append,List.take_append_drop]⟩,hJx3⟩⟩
set_option maxHeartbeats 1000000 in
theorem Tryz.down_in (F:Fence) (n:Nat) (h25:F.fn 273) (hro:F.round=none) (p0:Option Addr) (w:World) :
  CallsIn F n Tryz.prog 273 #[.pointer p0] w fun e w'=>e=.returned (.func (.func 341) #[] #[.pointer (some ⟨w.heap.size,0,none⟩)])/\w'=w.alloc (.cells #[.pointer p0] 152):=by
 refine callsIn_of_wp Tryz.func273 rfl h25 ?_ hro
 simp only[Tryz.ntmps273,List.size_toArray,List.length_cons,List.length_nil,Nat.reduceAdd,Nat.reduceSub,Array.replicate_succ,Array.replicate_zero,List.push_toArray,List.append_toArray,List.nil_append,List.cons_append]
 gi_wp2
 go_ret
 exact⟨rfl,rfl⟩
theorem Tryz.down_stops {α:Type} (enc:α->Value) (F:Fence) (n:Nat) (h38:F.fn 341) (hro:F.round=none) (hn:1<=n) (Bn bq:Nat) (L:List α) (hL:L.length=8) (w:World) (hBn:Bn<w.heap.size) (hbq:bq<w.heap.size)
  (hB:w.cell? ⟨Bn,0,none⟩=some (.pointer (some ⟨bq,0,none⟩))) (hc:∀i v,L[i]?=some v->w.cell? ⟨bq,i,none⟩=some (enc v)) :
  SeqStopsK F n Tryz.prog 341 #[.pointer (some ⟨Bn,0,none⟩)] (fun x:α=>#[enc x]) (Keep2 Bn bq) (fun ys=>ys=L.reverse) (fun pre=>pre <+:L.reverse) 8 w:=fun l J Jx W hW _ _ hY h0=>
 Tryz.down1_in enc F n h38 hro hn l Bn bq L hL J Jx hY W ((hW.cell (p:=⟨Bn,0,none⟩) (by simp only;omega)).trans hB) (fun i v h=>(hW.cell (p:=⟨bq,i,none⟩) (by simp only;omega)).trans (hc i v h)) h0
end Go.Proofs
namespace Go.Dav
open Go.Proofs
theorem Upd.grown {w W W':World} {row:Option Nat} (h:Upd no w W) (hg:W.grownBy W' row) (hr:∀r,row=some r->w.heap.size<=r):Upd no w W':=
 ⟨Nat.le_trans h.size hg.size,hg.os.trans h.os,hg.tape.trans h.tape,hg.output.trans h.output,fun i hi _=>(hg.block i (Nat.lt_of_lt_of_le hi h.size) (fun e=>by have:=hr i e.symm;omega)).trans (h.blk i hi id)⟩
theorem Upd.cells_old {w W:World} {a:Addr} {v:Value} (h:Upd no w W) (hc:w.cell? a=some v):W.cell? a=some v:=by
 have hl:a.block<w.heap.size:=by
  obtain⟨o,ho,_⟩:=cells_of_cell hc
  exact lt_of_blk ho
 exact(World.cell?_of_block (h.blk _ hl id)).trans hc
theorem Upd.allocd (w:World) (o:Obj):Upd no w (w.alloc o):=(Upd.refl no w).grown (World.grownBy_alloc w o none) (fun r e=>by cases e)
theorem Upd.stored {w W:World} (h:Upd no w W) {b:Nat} (hb:w.heap.size<=b) (o:Nat) (v:Value):Upd no w (W.setCell ⟨b,o,none⟩ v):=
 ⟨by show _<=(Array.modify _ _ _).size;rw[Array.size_modify];exact h.size,h.os,h.tape,h.output,fun i hi hn=>by
  rw[<-h.blk i hi hn]
  simp only[World.setCell,Array.getElem?_modify]
  rw[if_neg (by omega)]⟩
end Go.Dav
namespace Go.Proofs
open Go.RowKit Go.Shelf Go.Dav
attribute [local go_sem] Oper.semAt_some
theorem cell_of_box_l {W:World} {B:Nat} {v:Value} {t:TypeId} (h:W.heap[B]?=some (.cells #[v] t (0,0))):W.cell? ⟨B,0,none⟩=some v/\W.frozen? ⟨B,0,none⟩=false:=by
 constructor<;>simp[World.cell?,World.frozen?,h]
theorem cell_new_l (W:World) (v:Value) (t:TypeId):(W.alloc (.cells #[v] t)).cell? ⟨W.heap.size,0,none⟩=some v/\(W.alloc (.cells #[v] t)).frozen? ⟨W.heap.size,0,none⟩=false:=
 cell_of_box_l (World.alloc_heap_new W _)
theorem cell_alloc_l {W:World} {a:Addr} {v:Value} (o:Obj) (h:W.cell? a=some v):(W.alloc o).cell? a=some v:=cell_kept h (World.grownBy_alloc W o none) (fun r e=>by cases e)
theorem frozen_alloc_l {W:World} {a:Addr} {v:Value} (o:Obj) (h:W.cell? a=some v) (hf:W.frozen? a=false):(W.alloc o).frozen? a=false:=(frozen_kept h (World.grownBy_alloc W o none) (fun r e=>by cases e)).trans hf
theorem callsIn_round {n l:Nat} {P:Program} {f:FuncId} {args:Array Value} {w:World} {R:Ending->World->Prop} (h:Calls P f args w R):CallsIn (Fence.wide.inRound l) n P f args w R:=(callsIn_wide (n:=n)).2 h
def topV {α:Type} (bl:α->Nat) (len:α->Nat) (l:List α):Value:=
 match l.find? (fun x=>decide (0<len x))with
 | none=>.tuple #[.pointer none,.int .i64 12]
 | some x=>.tuple #[.pointer (some ⟨bl x,0,none⟩),.int .i64 0]
theorem topV_none {α:Type} {bl:α->Nat} {len:α->Nat} {l:List α} (h:∀y∈l,len y=0):topV bl len l=.tuple #[.pointer none,.int .i64 12]:=by
 unfold topV
 rw[List.find?_eq_none.2 (fun y hy=>by simp[h y hy])]
theorem topV_some {α:Type} {bl:α->Nat} {len:α->Nat} {l pr:List α} {x:α} (hp:pr++[x] <+:l) (h:∀y∈pr,len y=0) (hx:0<len x):topV bl len l=.tuple #[.pointer (some ⟨bl x,0,none⟩),.int .i64 0]:=by
 obtain⟨t,rfl⟩:=hp
 unfold topV
 rw[List.append_assoc,List.find?_append,List.find?_eq_none.2 (fun y hy=>by simp[h y hy])]
 simp[hx]
set_option maxRecDepth 100000 in
set_option maxHeartbeats 4000000 in
theorem Tryz.top_in {α:Type} (bl:α->Nat) (len:α->Nat) (L:List α) (hL:L.length=8) (q:Nat) (w:World) (hq:q<w.heap.size)
  (hc:∀i v,L[i]?=some v->w.cell? ⟨q,i,none⟩=some (.pointer (some ⟨bl v,0,none⟩)))
  (hlen:∀x W,Upd no w W->Calls Tryz.prog 392 #[.pointer (some ⟨bl x,0,none⟩)] W fun e w'=>e=.returned (.int .i64 (len x))/\w'=W) :
  Calls Tryz.prog 365 #[.pointer (some ⟨q,0,none⟩)] w fun e w'=>
   e=.returned (topV bl len L.reverse)/\Upd no w w':=by
 rw[<-callsIn_wide (n:=5)]
 refine callsIn_of_wp_marks Tryz.func365 rfl trivial ?_ rfl
 simp only[Tryz.ntmps365,List.size_toArray,List.length_cons,List.length_nil,Nat.reduceAdd,Nat.reduceSub,Array.replicate_succ,Array.replicate_zero,List.push_toArray,List.append_toArray,List.nil_append,List.cons_append]
 have h1:Fence.wide.fn 273:=trivial
 have h2:Fence.wide.fn 392:=trivial
 have h3:Fence.wide.fn 341:=trivial
 gi_wp2_with (gi_at_call 273;refine(Tryz.down_in Fence.wide _ h1 rfl _ _).mono ?_;rintro e w' ⟨rfl,rfl⟩)
 have c0:=cell_new_l w (.pointer none) 208
 have c1:=cell_new_l (w.alloc (.cells #[.pointer none] 208)) (.int .i64 0) 24
 have c2:=cell_new_l ((w.alloc (.cells #[.pointer none] 208)).alloc (.cells #[.int .i64 0] 24)) (.pointer (some ⟨q,0,none⟩)) 152
 simp only[World.size_alloc]at c1 c2
 have hU:Upd no w (((w.alloc (.cells #[.pointer none] 208)).alloc (.cells #[.int .i64 0] 24)).alloc (.cells #[.pointer (some ⟨q,0,none⟩)] 152)):=(((Upd.allocd w _).trans (Upd.allocd _ _) (fun _ _ h=>h)).trans (Upd.allocd _ _) (fun _ _ h=>h))
 refine wpIn_rangeFunc_ownF rfl (by decide) (gf:=341) (lb:=#[.pointer (some ⟨w.heap.size+1+1,0,none⟩)]) rfl h3 (enters_of Tryz.func341 (by kernel_rfl) rfl)
  (Tryz.down_stops (fun x=>.pointer (some ⟨bl x,0,none⟩)) Fence.wide _ h3 rfl (by decide) (w.heap.size+1+1) q L hL _ (by simp) (by simp;omega) c2.1 (fun i v h=>hU.cells_old (hc i v h))) Keep2.t (Keep2.b (by simp) (by simp;omega)) (Below.refl _ _) (fun _=>rfl)
  (fun pre W=>Upd no w W/\(∀y∈pre,len y=0)/\(W.cell? ⟨w.heap.size,0,none⟩=some (.pointer none)/\W.frozen? ⟨w.heap.size,0,none⟩=false)/\W.cell? ⟨w.heap.size+1,0,none⟩=some (.int .i64 0)/\W.frozen? ⟨w.heap.size+1,0,none⟩=false)
  (fun c pre W=>c=.ret/\Upd no w W/\∃pr x,pre=pr++[x]/\(∀y∈pr,len y=0)/\0<len x/\W.cell? ⟨w.heap.size,0,none⟩=some (.pointer (some ⟨bl x,0,none⟩))/\W.cell? ⟨w.heap.size+1,0,none⟩=some (.int .i64 0))
  ?own ?ownx ?start
  (fun x=>{tmps:=#[.pointer (some ⟨q,0,none⟩),undef,.pointer (some ⟨w.heap.size,0,none⟩),.pointer (some ⟨w.heap.size+1,0,none⟩),.pointer (some ⟨bl x,0,none⟩),.pointer (some ⟨q,0,none⟩),.bool false,.pointer (some ⟨q,0,none⟩),.func (.func 341) #[] #[.pointer (some ⟨w.heap.size+1+1,0,none⟩)],.pointer (some ⟨bl x,0,none⟩),undef,undef,undef,undef],defers:=[]}) ?assign ?body ?done ?stop
 case own=>
  rintro s A B row ⟨h1,h2,h3,h4,h5⟩ hg hr
  have hr':∀r,row=some r->∃o:Obj,A.heap[r]?=some o/\o.isCells=false:=fun r e=>(hr r e).2
  exact⟨h1.grown hg (fun r e=>by have:=(hr r e).1;simp at this;omega),h2,⟨cell_kept h3.1 hg hr',(frozen_kept h3.1 hg hr').trans h3.2⟩,cell_kept h4 hg hr',(frozen_kept h4 hg hr').trans h5⟩
 case ownx=>
  rintro c s A B row ⟨h0,h1,pr,x,h2,h3,h4,h5,h6⟩ hg hr
  have hr':∀r,row=some r->∃o:Obj,A.heap[r]?=some o/\o.isCells=false:=fun r e=>(hr r e).2
  exact⟨h0,h1.grown hg (fun r e=>by have:=(hr r e).1;simp at this;omega),pr,x,h2,h3,h4,cell_kept h5 hg hr',cell_kept h6 hg hr'⟩
 case start=>
  exact⟨hU,by simp,⟨cell_alloc_l _ (cell_alloc_l _ c0.1),frozen_alloc_l _ (cell_alloc_l _ c0.1) (frozen_alloc_l _ c0.1 c0.2)⟩,cell_alloc_l _ c1.1,frozen_alloc_l _ c1.1 c1.2⟩
 case assign=>
  intro l x W K hK
  gi_wp2
  exact hK
 case body=>
  rintro l pre x W ⟨hW,hp,⟨hca,hfa⟩,hcb,hfb⟩ _
  gi_wp2_with (gi_at_call 392;refine(callsIn_round (hlen x W hW)).mono ?_;rintro e w' ⟨rfl,rfl⟩)
  ·rename_i hx
   have b0:(w'.setCell ⟨w.heap.size,0,none⟩ (.pointer (some ⟨bl x,0,none⟩))).cell? ⟨w.heap.size+1,0,none⟩=some (.int .i64 0):=(World.cell?_setCell_other _ _ _ _ (by simp)).trans hcb
   exact⟨(KeepsOthers.setCell _ _ _).trans (KeepsOthers.setCell _ _ _),rfl,(hW.stored (Nat.le_refl _) _ _).stored (Nat.le_succ _) _ _,pre,x,rfl,hp,by simpa using hx,
    (World.cell?_setCell_other _ _ _ _ (by simp)).trans (World.cell?_setCell_same' _ _ _ (by rw[hca];rfl)),World.cell?_setCell_same' _ _ _ (by rw[b0];rfl)⟩
  ·rename_i hx
   exact⟨KeepsOthers.refl _,Keep2.refl _ _ _,hW,fun y hy=>(List.mem_append.1 hy).elim (hp y) (fun e=>by simp at e;subst e;simpa using hx),⟨hca,hfa⟩,hcb,hfb⟩
 case done=>
  rintro D ys W hD rfl ⟨hW,hne,⟨hca,hfa⟩,hcb,hfb⟩ hK
  gi_wp2
  have hK':=((KeepsOthers.setCell W ⟨w.heap.size,0,none⟩ (.pointer none)).trans (KeepsOthers.setCell _ ⟨w.heap.size+1,0,none⟩ (.int .i64 12))).same D _ hK rfl
  refine⟨by simp,.inl ⟨_,_,rfl,run_takeDeferred hK',?_⟩⟩
  have hS:Upd no w ((W.setCell ⟨w.heap.size,0,none⟩ (.pointer none)).setCell ⟨w.heap.size+1,0,none⟩ (.int .i64 12)):=(hW.stored (Nat.le_refl _) _ _).stored (Nat.le_succ _) _ _
  have a0:(W.setCell ⟨w.heap.size,0,none⟩ (.pointer none)).cell? ⟨w.heap.size+1,0,none⟩=some (.int .i64 0):=(World.cell?_setCell_other _ _ _ _ (by simp)).trans hcb
  have a1:((W.setCell ⟨w.heap.size,0,none⟩ (.pointer none)).setCell ⟨w.heap.size+1,0,none⟩ (.int .i64 12)).cell? ⟨w.heap.size,0,none⟩=some (.pointer none):=(World.cell?_setCell_other _ _ _ _ (by simp)).trans (World.cell?_setCell_same' W _ _ (by rw[hca];rfl))
  have a2:=World.cell?_setCell_same' (W.setCell ⟨w.heap.size,0,none⟩ (.pointer none)) ⟨w.heap.size+1,0,none⟩ (.int .i64 12) (by rw[a0];rfl)
  generalize ((W.setCell ⟨w.heap.size,0,none⟩ (.pointer none)).setCell ⟨w.heap.size+1,0,none⟩ (.int .i64 12))=W2 at *
  have hg:=grownBy_putObj' W2 D (.deferred none)
  have hr:∀r,some D=some r->∃o:Obj,W2.heap[r]?=some o/\o.isCells=false:=fun r e=>by cases e;exact⟨_,hK',rfl⟩
  have ha:=cell_kept a1 hg hr
  have hb:=cell_kept a2 hg hr
  refine⟨_,?_,by rw[topV_none hne],hS.grown hg (fun r e=>by cases e;simp at hD;omega)⟩
  simp[results,Tryz.f365,go_sem,ha,hb]
 case stop=>
  rintro D c pre W hD hpre ⟨rfl,hW,pr,x,rfl,hpr,hx,hca,hcb⟩ hK
  gi_wp2
  refine⟨by simp,.inl ⟨_,_,rfl,run_takeDeferred hK,?_⟩⟩
  have hg:=grownBy_putObj' W D (.deferred none)
  have hr:∀r,some D=some r->∃o:Obj,W.heap[r]?=some o/\o.isCells=false:=fun r e=>by cases e;exact⟨_,hK,rfl⟩
  have ha:=cell_kept hca hg hr
  have hb:=cell_kept hcb hg hr
  refine⟨_,?_,by rw[topV_some hpre hpr hx],hW.grown hg (fun r e=>by cases e;simp at hD;omega)⟩
  simp[results,Tryz.f365,go_sem,ha,hb]
end Go.Proofs
namespace Go.Dav
open Go.Proofs
section
variable {w w':World} {T:TypeId} {sz:Nat} {p:Option Addr} {n c:Nat} {cs:List Value} {row:Option Nat}
theorem Sl.isc (h:Sl w T sz p n c cs) {k:Nat} (hk:fpS p k) {o:Obj} (ho:w.heap[k]?=some o):o.isCells=true:=by
 obtain⟨a,rfl,rfl⟩:=hk
 obtain⟨_,_,_,cells,hb,_⟩:=h
 have:=hb.symm.trans ho
 cases this
 rfl
theorem Sl.grown (h:Sl w T sz p n c cs) (hg:w.grownBy w' row) (hr:∀r,row=some r->∃o:Obj,w.heap[r]?=some o/\o.isCells=false):Sl w' T sz p n c cs:=
 h.upd (F:=fun i=>row=some i) ⟨hg.size,hg.os,hg.tape,hg.output,fun i hi hF=>hg.block i hi (fun e=>hF e.symm)⟩ (fun i hi e=>by obtain⟨o,ho,hc⟩:=hr i e;rw[h.isc hi ho]at hc;cases hc)
theorem Upd.others (h:Upd no w w'):KeepsOthers w w':=⟨h.size,fun k _ hk _=>(h.blk k (lt_of_blk hk) id).trans hk⟩
theorem Sl.others (h:Sl w T sz p n c cs) (k:Upd (fpS p) w w'):KeepsOthers w w':=
 ⟨k.size,fun i _ hi ho=>(k.blk i (lt_of_blk hi) (fun hf=>by rw[h.isc hf hi]at ho;cases ho)).trans hi⟩
theorem upd_setCell (w:World) (b o:Nat) (v:Value):Upd (fun i=>i=b) w (w.setCell ⟨b,o,none⟩ v):=
 ⟨by show _<=(Array.modify _ _ _).size;rw[Array.size_modify];exact Nat.le_refl _,rfl,rfl,rfl,fun i hi hn=>by
  simp only[World.setCell,Array.getElem?_modify]
  rw[if_neg (by omega)]⟩
end
end Go.Dav
namespace Go.Proofs
open Go.RowKit Go.Shelf Go.Dav
attribute [local go_sem] Oper.semAt_some
attribute [-go_sem] Builtin.append_
set_option maxRecDepth 100000 in
set_option maxHeartbeats 4000000 in
theorem Tryz.list_in {α:Type} (bl:α->Nat) (it:α->List Int) (L:List α) (hL:L.length=8) (q:Nat) (w:World) (hq:q<w.heap.size) {z:List Value} (he:ElemT Tryz.prog 36 3 1 8 z)
  (hc:∀i v,L[i]?=some v->w.cell? ⟨q,i,none⟩=some (.pointer (some ⟨bl v,0,none⟩))) (hit:∀x,(it x).length<=1024)
  (hlist:∀x W,Upd no w W->Calls Tryz.prog 187 #[.pointer (some ⟨bl x,0,none⟩)] W fun e w'=>∃p c,e=.returned (.slice p (it x).length c)/\Dav.Loc W w' 3 p c (it x)) :
  Calls Tryz.prog 182 #[.pointer (some ⟨q,0,none⟩)] w fun e w'=>
   ∃p c,e=.returned (.slice p (L.reverse.flatMap it).length c)/\Dav.Loc w w' 3 p c (L.reverse.flatMap it):=by
 rw[<-callsIn_wide (n:=5)]
 refine callsIn_of_wp_marks Tryz.func182 rfl trivial ?_ rfl
 simp only[Tryz.ntmps182,List.size_toArray,List.length_cons,List.length_nil,Nat.reduceAdd,Nat.reduceSub,Array.replicate_succ,Array.replicate_zero,List.push_toArray,List.append_toArray,List.nil_append,List.cons_append]
 have h1:Fence.wide.fn 273:=trivial
 have h2:Fence.wide.fn 187:=trivial
 have h3:Fence.wide.fn 341:=trivial
 gi_wp2_with (gi_at_call 273;refine(Tryz.down_in Fence.wide _ h1 rfl _ _).mono ?_;rintro e w' ⟨rfl,rfl⟩)
 have c0:=cell_new_l w (.slice none 0 0) 36
 have c2:=cell_new_l (w.alloc (.cells #[.slice none 0 0] 36)) (.pointer (some ⟨q,0,none⟩)) 152
 simp only[World.size_alloc]at c2
 have hU:Upd no w ((w.alloc (.cells #[.slice none 0 0] 36)).alloc (.cells #[.pointer (some ⟨q,0,none⟩)] 152)):=(Upd.allocd w _).trans (Upd.allocd _ _) (fun _ _ h=>h)
 refine wpIn_rangeFunc_ownF rfl (by decide) (gf:=341) (lb:=#[.pointer (some ⟨w.heap.size+1,0,none⟩)]) rfl h3 (enters_of Tryz.func341 (by kernel_rfl) rfl)
  (Tryz.down_stops (fun x=>.pointer (some ⟨bl x,0,none⟩)) Fence.wide _ h3 rfl (by decide) (w.heap.size+1) q L hL _ (by simp) (by simp;omega) c2.1 (fun i v h=>hU.cells_old (hc i v h))) Keep2.t (Keep2.b (by simp) (by simp;omega)) (Below.refl _ _) (fun _=>rfl)
  (fun pre W=>Upd no w W/\∃p c,(W.cell? ⟨w.heap.size,0,none⟩=some (.slice p (pre.flatMap it).length c)/\W.frozen? ⟨w.heap.size,0,none⟩=false)/\Sl W 3 1 p (pre.flatMap it).length c ((pre.flatMap it).map (Value.int .i64))/\w.heap.size+1<W.heap.size/\∀i,fpS p i->w.heap.size+1<i)
  (fun _ _ _=>False)
  ?own (fun _ _ _ _ _ h _ _=>h.elim) ?start
  (fun x=>{tmps:=#[.pointer (some ⟨q,0,none⟩),undef,.slice none 0 0,.pointer (some ⟨w.heap.size,0,none⟩),.pointer (some ⟨bl x,0,none⟩),.pointer (some ⟨q,0,none⟩),.bool false,.pointer (some ⟨q,0,none⟩),.func (.func 341) #[] #[.pointer (some ⟨w.heap.size+1,0,none⟩)],.pointer (some ⟨bl x,0,none⟩),undef,undef,undef,undef,undef],defers:=[]}) ?assign ?body ?done ?stop
 case own=>
  rintro s A B row ⟨h1,p,c,h3,h4,h6,h5⟩ hg hr
  have hr':∀r,row=some r->∃o:Obj,A.heap[r]?=some o/\o.isCells=false:=fun r e=>(hr r e).2
  exact⟨h1.grown hg (fun r e=>by have:=(hr r e).1;simp at this;omega),p,c,⟨cell_kept h3.1 hg hr',(frozen_kept h3.1 hg hr').trans h3.2⟩,h4.grown hg hr',Nat.lt_of_lt_of_le h6 hg.size,h5⟩
 case start=>
  exact⟨hU,none,0,⟨cell_alloc_l _ c0.1,frozen_alloc_l _ c0.1 c0.2⟩,Sl.nil _ _ _,by simp,fun i ⟨a,ha,_⟩=>by cases ha⟩
 case assign=>
  intro l x W K hK
  gi_wp2
  exact hK
 case body=>
  rintro l pre x W ⟨hW,p,c,⟨hca,hfa⟩,hS,hKp,hF⟩ hlt
  have hle:(pre.flatMap it).length<=8192:=by
   have:∀l:List α,(l.flatMap it).length<=1024*l.length:=fun l=>by
    induction l with
    | nil=>simp
    | cons a l ih=>rw[List.flatMap_cons,List.length_append,List.length_cons];have:=hit a;omega
   have:=this pre
   omega
  have hix:=hit x
  obtain⟨lp,hlp⟩:∃lp,pre.flatMap it=lp:=⟨_,rfl⟩
  rw[hlp]at hca hS hle
  have hm:Tryz.prog.follows .mixedOrders=true:=by kernel_rfl
  have hWd:Upd no w W.drew:=hW.trans (Upd.same no rfl rfl rfl rfl) (fun _ _ h=>h)
  have hcd:W.drew.cell? ⟨w.heap.size,0,none⟩=some (.slice p lp.length c):=hca
  have hfd:W.drew.frozen? ⟨w.heap.size,0,none⟩=false:=hfa
  have hSd:Sl W.drew 3 1 p lp.length c (lp.map (Value.int .i64)):=hS.upd (Upd.same no rfl rfl rfl rfl) (fun _ _ h=>h)
  gi_wp2
  gi_region_with (gi_at_call 187;refine(callsIn_round (hlist x _ hWd)).mono ?_;rintro e w2 ⟨p2,c2,rfl,hL2⟩;have hS2:=hSd.upd hL2.U (fun _ _ h=>h);have hcl:=hL2.U.cells_old hcd;have hlw:w.heap.size<W.drew.heap.size:=(cells_of_cell hcd).elim (fun _ h=>lt_of_blk h.1);have hlw2:=Nat.lt_of_lt_of_le hlw hL2.U.size;have hfl:w2.frozen? ⟨w.heap.size,0,none⟩=false:=(World.frozen?_of_block (a:=⟨w.heap.size,0,none⟩) (hL2.U.blk _ hlw id)).trans hfd;obtain⟨p',n',c',w3,hr,hn3,hS3,hU3,hF3⟩:=run_append he hS2 hL2.S.cells (m:=(it x).length) (d:=c2) (by simp) (by simp[Value.oneCell']) (fun e=>by have:=hL2.S.2.2.2;subst e;exact this.2) (by omega) (by omega) 36;have hb3:w3.heap[w.heap.size]?=w2.heap[w.heap.size]?:=hU3.blk _ hlw2 (fun h=>by have:=hF _ h;omega);have hc3:=(World.cell?_of_block (a:=⟨w.heap.size,0,none⟩) hb3).trans hcl;have hf3:w3.frozen? ⟨w.heap.size,0,none⟩=false:=(World.frozen?_of_block (a:=⟨w.heap.size,0,none⟩) hb3).trans hfl)
  all_goals
   subst hn3
   have hUa:Upd no W w2:=(Upd.same (w:=W) (w':=W.drew) no rfl rfl rfl rfl).trans hL2.U (fun _ _ h=>h)
   have hw2:w.heap.size+1<w2.heap.size:=Nat.lt_of_lt_of_le hKp hUa.size
   have hsl:∀i,fpS p' i->w.heap.size+1<i:=fun i hi=>(hF3 i hi).elim (hF i) (fun h=>by omega)
   have hU3':Upd no w w3:=(hW.trans hUa (fun _ _ h=>h)).trans hU3 (fun i hi h=>by have:=hF i h;omega)
   refine⟨(hUa.others.trans (hS2.others hU3)).trans (KeepsOthers.setCell _ _ _),⟨?_,?_⟩,hU3'.stored (Nat.le_refl _) _ _,p',c',⟨?_,?_⟩,?_,by have:=hU3.size;have:=(upd_setCell w3 w.heap.size 0 (.slice p' (lp.length+(it x).length) c')).size;omega,hsl⟩
   ·exact((upd_setCell w3 _ 0 _).blk _ (by have:=hU3.size;omega) (by omega)).trans ((hU3.blk _ (by omega) (fun h=>by have:=hF _ h;omega)).trans (hUa.blk _ (by have:=hL2.U.size;exact hKp) id))
   ·exact((upd_setCell w3 _ 0 _).blk _ (by have:=hU3.size;omega) (by omega)).trans ((hU3.blk _ (by omega) (fun h=>by have:=hF _ h;omega)).trans (hUa.blk _ (by have:=hW.size;omega) id))
   ·rw[List.flatMap_append,hlp,List.flatMap_singleton,List.length_append]
    exact World.cell?_setCell_same' _ _ _ (by rw[hc3];rfl)
   ·rw[World.frozen?_setCell];exact hf3
   ·rw[List.flatMap_append,hlp,List.flatMap_singleton,List.length_append,List.map_append]
    exact hS3.upd (upd_setCell w3 _ 0 _) (fun i hi e=>by have:=hsl i hi;omega)
 case done=>
  rintro D ys W hD rfl ⟨hW,p,c,⟨hca,hfa⟩,hS,_,hF⟩ hK
  obtain⟨l0,hl0⟩:∃l0,L.reverse.flatMap it=l0:=⟨_,rfl⟩
  rw[hl0]at hca hS
  gi_wp2
  refine⟨by simp,.inl ⟨_,_,rfl,run_takeDeferred hK,?_⟩⟩
  rw[hl0]
  refine⟨_,results_tmp rfl _ _ _,p,c,rfl,?_⟩
  have hg:=grownBy_putObj' W D (.deferred none)
  exact⟨hW.grown hg (fun r e=>by cases e;simp at hD;omega),hS.grown hg (fun r e=>by cases e;exact⟨_,hK,rfl⟩),fun i hi=>by have:=hF i hi;omega⟩
 case stop=>
  rintro D c pre W hD hpre h
  exact h.elim
end Go.Proofs
namespace Go.Dav
open Go.Proofs
theorem mpT_Prio:MapT Tryz.prog 78 3 3 (.int .i64 0):=⟨by kernel_rfl,by kernel_rfl,by kernel_rfl,by kernel_rfl⟩
abbrev Its:=List (Int×Int)
def lvIds (L:Its) (p:Nat):List Int:=(L.filter (fun e=>decide (e.1=(p:Int)))).map (·.2)
abbrev PLv:=Nat×Nat×List Int
def Lvl:Ob PLv:=fun w F s=>FqO s.1 w F s.2
instance Frame.lvl:Frame Lvl where
 upd:=fun{_ _ _ _ s} h k hG=>(Frame.fq s.1).upd h k hG
 lt:=fun{_ _ s} h=>(Frame.fq s.1).lt h
def ptrV (b:Nat):Value:=.pointer (some ⟨b,0,none⟩)
def pqE (r:Nat) (x:List Value×Nat):List Value:=x.1++[.map (some r),.int .i64 x.2]
abbrev PqR (q r:Nat):Ob ((((Int->Option Int)×Nat)×(List Value×Nat))×List PLv):=Star (Star (MapO r (Value.int .i64)) (Rw q 265 (pqE r))) (Fam Lvl)
def lvs (B:Nat->Nat) (m:Nat) (L:Its):List PLv:=(List.range 8).map fun i=>(B i,m,lvIds L i)
def bks (B:Nat->Nat):List Value:=(List.range 8).map fun i=>ptrV (B i)
structure PqI (x:Nat×Its) (g:(Int->Option Int)×Nat):Prop where
 map:∀k v,g.1 k=some v↔(v,k)∈x.2
 len:g.2=x.2.length
 one:(x.2.map (·.2)).Nodup
 rng:∀e∈x.2,0<=e.1/\e.1<8
 room:x.2.length<=x.1
 most:1<=x.1/\x.1<=1024
def PqO (q:Nat):Ob (Nat×Its):=fun w F x=>∃r B g,PqR q r w F ((g,(bks B,x.1)),lvs B x.1 x.2)/\PqI x g
instance Frame.pq (q:Nat):Frame (PqO q) where
 upd:=fun⟨r,B,g,h,k⟩ hU hG=>⟨r,B,g,Frame.star.upd h hU hG,k⟩
 lt:=fun⟨_,_,_,h,_⟩=>Frame.star.lt h
section
variable {q r:Nat} {w w':World} {F:Fp} {x:Nat×Its} {g:(Int->Option Int)×Nat} {B:Nat->Nat}
theorem pq_blk {y:(((Int->Option Int)×Nat)×(List Value×Nat))×List PLv} (h:PqR q r w F y):Blk w q (pqE r y.1.2) 265:=by
 obtain⟨F1,F2,⟨F3,F4,_,h1,_⟩,_⟩:=h
 exact h1.blk
theorem pq_map {y:(((Int->Option Int)×Nat)×(List Value×Nat))×List PLv} (h:PqR q r w F y):∃F1,MapO r (Value.int .i64) w F1 y.1.1:=by
 obtain⟨F1,F2,⟨F3,F4,h1,_⟩,_⟩:=h
 exact⟨_,h1⟩
theorem pq_cell {y:(((Int->Option Int)×Nat)×(List Value×Nat))×List PLv} (h:PqR q r w F y) (hl:y.1.2.1.length=8):w.cell? ((⟨q,0,none⟩:Addr).add 8)=some (.map (some r))/\w.cell? ((⟨q,0,none⟩:Addr).add 9)=some (.int .i64 y.1.2.2):=by
 have hb:=pq_blk h
 exact⟨hb.cell (by simp[pqE,hl]),hb.cell (by simp[pqE,hl])⟩
theorem bks_len (B:Nat->Nat):(bks B).length=8:=by simp[bks]
def prioE (x:Nat×Its) (k:Int):Int×Bool:=match x.2.find? (fun e=>decide (e.2=k))with
 | none=>(0,false)
 | some e=>(e.1,true)
theorem nodup_key:∀{L:Its} (_:(L.map (·.2)).Nodup) {a b:Int×Int} (_:a∈L) (_:b∈L) (_:a.2=b.2),a=b
 | c::L,hn,a,b,ha,hb,h=>by
  rw[List.map_cons,List.nodup_cons]at hn
  rcases List.mem_cons.1 ha with ha|ha<;>rcases List.mem_cons.1 hb with hb|hb
  ·rw[ha,hb]
  ·exact absurd (List.mem_map.2 ⟨b,hb,by rw[<-h,ha]⟩) hn.1
  ·exact absurd (List.mem_map.2 ⟨a,ha,by rw[h,hb]⟩) hn.1
  ·exact nodup_key hn.2 ha hb h
theorem PqI.prio (h:PqI x g) (k:Int):((g.1 k).map (Value.int .i64)).getD (.int .i64 0)=.int .i64 (prioE x k).1/\(g.1 k).isSome=(prioE x k).2:=by
 unfold prioE
 cases hf:x.2.find? (fun e=>decide (e.2=k))with
 | none=>
  have:g.1 k=none:=by
   cases hg:g.1 k with
   | none=>rfl
   | some v=>
    have:=List.find?_eq_none.1 hf _ ((h.map k v).1 hg)
    simp at this
  simp[this]
 | some e=>
  have hm:=List.mem_of_find?_eq_some hf
  have hk:=List.find?_some hf
  simp at hk
  have:g.1 k=some e.1:=(h.map k e.1).2 (by rw[<-hk];exact hm)
  simp[this]
theorem plen_ok (h:PqO q w F x):Calls Tryz.prog 74 #[.pointer (some ⟨q,0,none⟩)] w fun e w'=>e=.returned (.int .i64 x.2.length)/\w'=w:=by
 obtain⟨r,B,g,h,hi⟩:=h
 obtain⟨F1,hm⟩:=pq_map h
 refine u74 ?_
 rw[t74]
 refine⟨fun h=>by simp at h,fun _=>⟨_,rfl,_,(pq_cell h (bks_len B)).1,_,fun ty=>run_mlen mpT_Prio hm ty,by simp only[hi.len],rfl⟩⟩
theorem prio_ok (h:PqO q w F x) (k:Int):Calls Tryz.prog 323 #[.pointer (some ⟨q,0,none⟩),.int .i64 k] w fun e w'=>e=.returned (.tuple #[.int .i64 (prioE x k).1,.bool (prioE x k).2])/\w'=w:=by
 obtain⟨r,B,g,h,hi⟩:=h
 obtain⟨F1,hm⟩:=pq_map h
 refine u323 ?_
 rw[t323]
 refine⟨fun h=>by simp at h,fun _=>⟨_,rfl,_,(pq_cell h (bks_len B)).1,(prioE x k).1,(prioE x k).2,?_,rfl,rfl⟩⟩
 rw[run_lookup mpT_Prio hm k true,<-(hi.prio k).1,<-(hi.prio k).2]
 rfl
def L8:List (Fin 8):=[0,1,2,3,4,5,6,7]
theorem l8_at {i:Nat} {v:Fin 8} (h:L8[i]?=some v):v.val=i:=by
 have hi:i<8:=(List.getElem?_eq_some_iff.1 h).1
 have hA:∀i:Fin 8,L8[i.val]?=some i:=by decide
 have:=hA ⟨i,hi⟩
 simp only at this
 rw[h]at this
 cases this
 rfl
def listOf (L:Its):List Int:=L8.reverse.flatMap fun i=>lvIds L i.val
def topE (x:Nat×Its):Int×Int:=match listOf x.2 with
 | []=>(0,12)
 | a::_=>(a,0)
theorem flat_find {α:Type} {f:α->List Int}:∀{l:List α},(l.find? (fun i=>decide (0<(f i).length))=none/\l.flatMap f=[])∨∃i a t t',l.find? (fun i=>decide (0<(f i).length))=some i/\i∈l/\f i=a::t/\l.flatMap f=a::t'
 | []=>.inl ⟨rfl,rfl⟩
 | i::l=>by
  cases hf:f i with
  | nil=>
   rcases flat_find (f:=f) (l:=l)with⟨h1,h2⟩|⟨j,a,t,t',h1,h2,h3,h4⟩
   ·exact .inl ⟨by simp[List.find?_cons,hf,h1],by simp[hf,h2]⟩
   ·exact .inr ⟨j,a,t,t',by simp[List.find?_cons,hf,h1],List.mem_cons_of_mem _ h2,h3,by simp[hf,h4]⟩
  | cons a t=>exact .inr ⟨i,a,t,t++l.flatMap f,by simp[List.find?_cons,hf],List.mem_cons_self,hf,by simp[hf]⟩
theorem lvs_len {m:Nat} {L:Its}:(lvs B m L).length=8:=by simp[lvs]
theorem pq_lvl (h:PqR q r w F ((g,(bks B,x.1)),lvs B x.1 x.2)) (i:Fin 8):∃F1,FqO (B i.val) w F1 (x.1,lvIds x.2 i.val):=by
 obtain⟨F2,h2,_⟩:=Star.right h
 obtain⟨F1,h1,_⟩:=Fam.at h2 (i:=i.val) (by rw[lvs_len];exact i.isLt)
 refine⟨F1,?_⟩
 have:(lvs B x.1 x.2)[i.val]'(by rw[lvs_len];exact i.isLt)=(B i.val,x.1,lvIds x.2 i.val):=by simp[lvs]
 rw[this]at h1
 exact h1
theorem pq_ptr (h:PqR q r w F ((g,(bks B,x.1)),lvs B x.1 x.2)):∀i v,L8[i]?=some v->w.cell? ⟨q,i,none⟩=some (.pointer (some ⟨B v.val,0,none⟩)):=by
 intro i v hv
 have h1:=l8_at hv
 have h2:=v.isLt
 rw[cell_blk (pq_blk h)]
 subst h1
 simp only[pqE]
 rw[List.getElem?_append_left (by rw[bks_len];exact h2)]
 simp[bks,ptrV,h2]
theorem top_ok (h:PqR q r w F ((g,(bks B,x.1)),lvs B x.1 x.2)):Calls Tryz.prog 365 #[.pointer (some ⟨q,0,none⟩)] w fun e w'=>
  e=.returned (topV (fun v:Fin 8=>B v.val) (fun v=>(lvIds x.2 v.val).length) L8.reverse)/\Upd no w w':=by
 refine Tryz.top_in _ _ L8 rfl q w (pq_blk h).lt (pq_ptr h) fun v W hW=>?_
 obtain⟨F1,h1⟩:=pq_lvl h v
 exact qlen_ok ((Frame.fq _).upd h1 hW (fun _ _ h=>h))
theorem topq_ok (h:PqO q w F x):Calls Tryz.prog 309 #[.pointer (some ⟨q,0,none⟩)] w fun e w'=>e=.returned (.tuple #[.int .i64 (topE x).1,.int .i64 (topE x).2])/\Upd no w w':=by
 obtain⟨r,B,g,h,hi⟩:=h
 refine u309 ?_
 rw[t309]
 refine⟨(top_ok h).mono ?_⟩
 rintro e w1 ⟨rfl,hU⟩
 unfold topV topE listOf
 rcases flat_find (f:=fun v:Fin 8=>lvIds x.2 v.val) (l:=L8.reverse)with⟨h1,h2⟩|⟨j,a,t,t',h1,h2,h3,h4⟩
 ·rw[h1,h2]
  exact⟨_,_,rfl,fun _=>⟨rfl,hU⟩,fun k=>by simp at k⟩
 ·rw[h1,h4]
  refine⟨_,_,rfl,fun k=>by simp at k,fun _=>?_⟩
  obtain⟨F1,k1⟩:=pq_lvl h j
  refine⟨(qfront_ok ((Frame.fq _).upd k1 hU (fun _ _ h=>h))).mono ?_⟩
  rintro e w2 ⟨rfl,hU2⟩
  refine⟨_,_,rfl,?_,hU.and hU2⟩
  simp[frontE,h3]
theorem lv_len (h:PqI x g) (p:Nat):(lvIds x.2 p).length<=1024:=by
 have h1:=h.room
 have h2:=h.most
 have h3:(lvIds x.2 p).length<=x.2.length:=by unfold lvIds;rw[List.length_map];exact List.length_filter_le _ _
 omega
theorem listq_ok (h:PqO q w F x):Calls Tryz.prog 182 #[.pointer (some ⟨q,0,none⟩)] w fun e w'=>∃p c,e=.returned (.slice p (listOf x.2).length c)/\Loc w w' 3 p c (listOf x.2):=by
 obtain⟨r,B,g,h,hi⟩:=h
 refine Tryz.list_in (fun v:Fin 8=>B v.val) (fun v=>lvIds x.2 v.val) L8 rfl q w (pq_blk h).lt elI_Lst (pq_ptr h) (fun v=>lv_len hi v.val) fun v W hW=>?_
 obtain⟨F1,k1⟩:=pq_lvl h v
 obtain⟨g,y,h1,h2,h3,h4,h5⟩:=(Frame.fq _).upd k1 hW (fun _ _ h=>h)
 have h4:view g=lvIds x.2 v.val:=h4
 rw[<-h4]
 exact list_ok_Fifo h1 h2
theorem pq_mapT {y:List Value×Nat} {ls:List PLv} (h:PqR q r w F ((g,y),ls)):∃F1,MapO r (Value.int .i64) w F1 g/\∀w' g',Turn (MapO r (Value.int .i64)) w w' F1 g'->Turn (PqR q r) w w' F ((g',y),ls):=by
 obtain⟨F1,h1,k1⟩:=Star.left h
 obtain⟨F2,h2,k2⟩:=Star.left h1
 exact⟨F2,h2,fun w' g' ht=>k1 _ _ (k2 _ _ ht)⟩
theorem lvs_set {m:Nat} {L L':Its} {i:Nat} (hi:i<8) {l':List Int} (h1:lvIds L' i=l') (h2:∀j,j≠i->lvIds L' j=lvIds L j):(lvs B m L).set i (B i,m,l')=lvs B m L':=by
 apply List.ext_getElem
 ·simp[lvs]
 ·intro j a b
  rw[List.getElem_set]
  simp only[lvs,List.getElem_map,List.getElem_range]
  split
  ·rename_i h
   subst h
   rw[h1]
  ·rename_i h
   rw[h2 j (by omega)]
theorem pq_lvlT {m:Nat} {L:Its} {y:List Value×Nat} (h:PqR q r w F ((g,y),lvs B m L)) {i:Nat} (hi:i<8):∃F1,FqO (B i) w F1 (m,lvIds L i)/\
  ∀w' l',Turn (FqO (B i)) w w' F1 (m,l')->∀L',lvIds L' i=l'->(∀j,j≠i->lvIds L' j=lvIds L j)->Turn (PqR q r) w w' F ((g,y),lvs B m L'):=by
 obtain⟨F2,h2,k2⟩:=Star.right h
 obtain⟨F1,h1,_,k1⟩:=Fam.at h2 (i:=i) (by rw[lvs_len];exact hi)
 have:(lvs B m L)[i]'(by rw[lvs_len];exact hi)=(B i,m,lvIds L i):=by simp[lvs]
 rw[this]at h1
 refine⟨F1,h1,fun w' l' ht L' e1 e2=>?_⟩
 have:=k2 _ _ (k1 w' (B i,m,l') ht)
 rw[lvs_set hi e1 e2]at this
 exact this
theorem Turn.pq (h:Turn (PqR q r) w w' F ((g,(bks B,x.1)),lvs B x.1 x.2)) (k:PqI x g):Turn (PqO q) w w' F x:=by
 obtain⟨F',h1,h2⟩:=h
 exact⟨F',⟨r,B,g,h1,k⟩,h2⟩
theorem Turn.glue {σ:Type} {A:Ob σ} {s2:σ} {w1 w2 w3:World} {F3:Fp} (h0:Upd F w w1) (u3:Upd F w1 w2) (f3:∀i,F3 i->F i∨w1.heap.size<=i) (k:Turn A w2 w3 F3 s2):Turn A w w3 F s2:=by
 obtain⟨F',h1,h2,h3⟩:=k
 have hs:=h0.size
 have hs2:=u3.size
 refine⟨F',h1,(h0.and u3).trans h2 (fun i hi hF=>(f3 i hF).elim id (fun h=>by omega)),fun i hF=>?_⟩
 rcases h3 i hF with h|h
 ·exact(f3 i h).imp id (fun h=>by omega)
 ·exact .inr (by omega)
def inE (x:Nat×Its) (k:Int):Bool:=(x.2.map (·.2)).contains k
def pqPushE (x:Nat×Its) (p k:Int):Int:=if p<0∨8<=p then 2 else if inE x k then 6 else if x.1<=x.2.length then 5 else 0
def pqPushS (x:Nat×Its) (p k:Int):Nat×Its:=if pqPushE x p k=0 then(x.1,x.2++[(p,k)])else x
def pqDropE (x:Nat×Its) (k:Int):Int:=if inE x k then 0 else 4
def pqDropS (x:Nat×Its) (k:Int):Nat×Its:=(x.1,x.2.filter fun e=>decide (e.2≠k))
def pqBackE (x:Nat×Its) (k:Int):Int:=pqDropE x k
def pqBackS (x:Nat×Its) (k:Int):Nat×Its:=if inE x k then(x.1,(pqDropS x k).2++[((prioE x k).1,k)])else x
def pqTurnE (x:Nat×Its):Int:=(topE x).2
def pqTurnS (x:Nat×Its):Nat×Its:=if pqTurnE x=0 then pqBackS x (topE x).1 else x
theorem lv_push (L:Its) (p k:Int) (i:Nat):lvIds (L++[(p,k)]) i=lvIds L i++(if p=(i:Int)then[k]else[]):=by
 unfold lvIds
 rw[List.filter_append,List.map_append]
 congr 1
 by_cases h:p=(i:Int)<;>simp[h]
theorem lv_drop (L:Its) (k:Int) (i:Nat):lvIds (L.filter fun e=>decide (e.2≠k)) i=(lvIds L i).filter fun a=>decide (a≠k):=by
 unfold lvIds
 rw[List.filter_map,List.filter_filter,List.filter_filter]
 congr 1
 apply List.filter_congr
 intro e _
 simp[Bool.and_comm]
theorem lv_mem {L:Its} {i:Nat} {k:Int}:k∈lvIds L i↔((i:Int),k)∈L:=by
 unfold lvIds
 simp
theorem lv_nodup {L:Its} (h:(L.map (·.2)).Nodup) (i:Nat):(lvIds L i).Nodup:=by
 unfold lvIds
 exact List.Nodup.sublist (List.Sublist.map _ List.filter_sublist) h
theorem in_iff {k:Int}:inE x k=true↔∃p,(p,k)∈x.2:=by
 unfold inE
 simp
theorem PqI.in_some (h:PqI x g) (k:Int):(g.1 k).isSome=inE x k:=by
 rw[Bool.eq_iff_iff,in_iff,Option.isSome_iff_exists]
 exact⟨fun⟨v,hv⟩=>⟨v,(h.map k v).1 hv⟩,fun⟨v,hv⟩=>⟨v,(h.map k v).2 hv⟩⟩
theorem PqI.push (h:PqI x g) {p k:Int} (hp:0<=p/\p<8) (hk:inE x k=false) (hl:x.2.length<x.1):PqI (x.1,x.2++[(p,k)]) (mput g k p):=by
 have hs:=h.in_some k
 rw[hk]at hs
 have hnone:g.1 k=none:=by cases hg:g.1 k<;>simp_all
 have hno:∀v,(v,k)∉x.2:=fun v hv=>by have:=in_iff.2 ⟨v,hv⟩;rw[hk]at this;cases this
 refine⟨?_,?_,?_,?_,?_,h.most⟩
 ·intro a v
  simp only[mput]
  split
  ·rename_i e
   subst e
   simp only[List.mem_append,List.mem_singleton,Prod.mk.injEq,and_true,Option.some.injEq]
   exact⟨fun e=>.inr e.symm,fun e=>e.elim (fun e=>absurd e (hno v)) (fun e=>e.symm)⟩
  ·rename_i e
   rw[h.map]
   simp[e]
 ·simp only[mput,hs,List.length_append,List.length_singleton,h.len]
  simp
 ·rw[List.map_append,List.nodup_append]
  refine⟨h.one,by simp,fun a ha b hb e=>?_⟩
  simp at hb
  subst hb
  subst e
  obtain⟨e,he,rfl⟩:=List.mem_map.1 ha
  exact hno e.1 he
 ·intro e he
  rcases List.mem_append.1 he with he|he
  ·exact h.rng e he
  ·simp at he
   subst he
   exact hp
 ·simp;omega
theorem ppush_ok (h:PqO q w F x) (p k:Int):Calls Tryz.prog 320 #[.pointer (some ⟨q,0,none⟩),.int .i64 p,.int .i64 k] w fun e w'=>e=.returned (.int .i64 (pqPushE x p k))/\Turn (PqO q) w w' F (pqPushS x p k):=by
 obtain⟨r,B,g,h,hi⟩:=id h
 rename_i hO
 obtain⟨F1,hm⟩:=pq_map h
 have hc:=pq_cell h (bks_len B)
 refine u320 ?_
 rw[t320]
 have hlk:=run_lookup mpT_Prio hm k true
 simp only[if_true,(hi.prio k).1,hi.in_some k]at hlk
 refine⟨fun h=>by simp at h,fun _=>⟨_,rfl,_,hc.1,_,_,hlk,fun h1=>⟨fun h2=>?_,fun h2=>⟨fun h3=>?_,fun h3 w1 q1 q2 q3 q4=>?_⟩⟩,fun h1=>?_⟩⟩
 ·have e:pqPushE x p k=2:=by simp at h2;unfold pqPushE;rw[if_pos (.inr h2)]
  rw[pqPushS,e]
  exact⟨rfl,Turn.same hO⟩
 ·simp at h1 h2
  have e:pqPushE x p k=6:=by unfold pqPushE;rw[if_neg (by omega),if_pos h3]
  rw[pqPushS,e]
  exact⟨rfl,Turn.same hO⟩
 ·simp at h1 h2
  have hU:=Upd.same no q1 q2 q3 q4
  have h':=Frame.star.upd h hU (fun _ _ h=>h)
  have hO':=(Frame.pq q).upd hO hU (fun _ _ h=>h)
  obtain⟨F2,hm2,km⟩:=pq_mapT h'
  have hc':=pq_cell h' (bks_len B)
  refine⟨_,rfl,_,hc'.1,_,fun ty=>run_mlen mpT_Prio hm2 ty,_,rfl,_,hc'.2,fun h4=>?_,fun h4=>?_⟩
  ·simp only[hi.len]at h4
   simp at h4
   have e:pqPushE x p k=5:=by unfold pqPushE;rw[if_neg (by omega),if_neg (by rw[h3];simp),if_pos (by omega)]
   rw[pqPushS,e]
   exact⟨rfl,Turn.quiet hO hU⟩
  ·simp only[hi.len]at h4
   simp at h4
   have e:pqPushE x p k=0:=by unfold pqPushE;rw[if_neg (by omega),if_neg (by rw[h3];simp),if_neg (by omega)]
   obtain⟨w2,hr,ht⟩:=run_put mpT_Prio hm2 k p
   refine⟨_,rfl,_,hc'.1,w2,hr,_,rfl,⟨h1,h2⟩,?_⟩
   obtain⟨F3,h3',u3,f3⟩:=km _ _ ht
   obtain⟨i,rfl⟩:∃i:Nat,p=i:=⟨p.toNat,by omega⟩
   have hi8:i<8:=by omega
   obtain⟨F4,hq4,k4⟩:=pq_lvlT h3' hi8
   have hcell:w2.cell? (((⟨q,0,none⟩:Addr).add 0).add (i*1))=some (.pointer (some ⟨B i,0,none⟩)):=by
    have:=pq_ptr (x:=x) h3' i ⟨i,hi8⟩ (by
     have hA:∀i:Fin 8,L8[i.val]?=some i:=by decide
     exact hA ⟨i,hi8⟩)
    simpa [add_lit]using this
   refine⟨_,hcell,⟨(qpush_ok hq4 k).mono ?_⟩⟩
   rintro e1 w3 ⟨rfl,ht3⟩
   have hkn:k∉lvIds x.2 i:=fun hm=>by have:=in_iff.2 ⟨_,lv_mem.1 hm⟩;rw[h3]at this;cases this
   have hll:(lvIds x.2 i).length<=x.2.length:=by unfold lvIds;rw[List.length_map];exact List.length_filter_le _ _
   have e2:pushE (x.1,lvIds x.2 i) k=0:=by unfold pushE;simp only;rw[if_neg hkn,if_neg (by omega)]
   rw[pushS,if_pos e2]at ht3
   rw[e2,pqPushS,e,if_pos rfl]
   have T:=Turn.pq (x:=(x.1,x.2++[((i:Int),k)])) (Turn.glue (hU.mono (fun _ _ h=>h.elim)) u3 f3 (k4 _ _ ht3 (x.2++[((i:Int),k)]) (by rw[lv_push,if_pos rfl]) (fun j hj=>by rw[lv_push,if_neg (by omega),List.append_nil]))) (hi.push ⟨h1,by omega⟩ h3 (by omega))
   exact⟨_,rfl,rfl,T⟩
 ·have e:pqPushE x p k=2:=by simp at h1;unfold pqPushE;rw[if_pos (.inl h1)]
  rw[pqPushS,e]
  exact⟨rfl,Turn.same hO⟩
theorem erase_eq {l:List Int} (h:l.Nodup) (k:Int):l.erase k=l.filter fun a=>decide (a≠k):=by
 rw[h.erase_eq_filter]
 apply List.filter_congr
 intro a _
 rw[Bool.eq_iff_iff]
 simp
theorem PqI.drop (h:PqI x g) {k p:Int} (hk:(p,k)∈x.2):PqI (pqDropS x k) (mdel g k):=by
 have hs:(g.1 k).isSome=true:=by rw[h.in_some];exact in_iff.2 ⟨p,hk⟩
 have hl:(x.2.filter fun e=>decide (e.2≠k)).length+1=x.2.length:=by
  have h1:∀L:Its,(L.map (·.2)).Nodup->(p,k)∈L->(L.filter fun e=>decide (e.2≠k)).length+1=L.length:=by
   intro L hn hm
   have h2:(L.filter fun e=>decide (e.2≠k)).map (·.2)=(L.map (·.2)).erase k:=by
    rw[erase_eq hn,List.filter_map]
    rfl
   have h3:=congrArg List.length h2
   have hm2:k∈L.map (·.2):=List.mem_map.2 ⟨_,hm,rfl⟩
   rw[List.length_map,List.length_erase_of_mem hm2,List.length_map]at h3
   have:=List.length_pos_of_mem hm
   omega
  exact h1 x.2 h.one hk
 refine⟨?_,?_,?_,?_,?_,h.most⟩
 ·intro a v
  simp only[mdel,pqDropS]
  split
  ·rename_i e
   subst e
   simp
  ·rename_i e
   rw[h.map]
   simp[e]
 ·simp only[mdel,hs,pqDropS,h.len,if_true]
  omega
 ·exact List.Nodup.sublist (List.Sublist.map _ List.filter_sublist) h.one
 ·intro e he
  exact h.rng e (List.mem_filter.1 he).1
 ·have:=h.room
  simp only[pqDropS]
  omega
theorem prio_in {k p:Int} (hn:(x.2.map (·.2)).Nodup) (hk:(p,k)∈x.2):prioE x k=(p,true):=by
 unfold prioE
 cases hf:x.2.find? (fun e=>decide (e.2=k))with
 | none=>
  have:=List.find?_eq_none.1 hf _ hk
  simp at this
 | some e=>
  have hm:=List.mem_of_find?_eq_some hf
  have h1:=List.find?_some hf
  simp at h1
  have:=nodup_key hn hm hk (by simpa using h1)
  simp[this]
theorem pdrop_ok (h:PqO q w F x) (k:Int):Calls Tryz.prog 321 #[.pointer (some ⟨q,0,none⟩),.int .i64 k] w fun e w'=>e=.returned (.int .i64 (pqDropE x k))/\Turn (PqO q) w w' F (if inE x k then pqDropS x k else x):=by
 obtain⟨r,B,g,h,hi⟩:=id h
 rename_i hO
 obtain⟨F1,hm,km⟩:=pq_mapT h
 have hc:=pq_cell h (bks_len B)
 refine u321 ?_
 rw[t321]
 have hlk:=run_lookup mpT_Prio hm k true
 simp only[if_true,(hi.prio k).1,hi.in_some k]at hlk
 refine⟨fun h=>by simp at h,fun _=>⟨_,rfl,_,hc.1,_,_,hlk,fun h1=>?_,fun h1=>?_⟩⟩
 ·simp at h1
  rw[pqDropE,h1]
  exact⟨rfl,Turn.same hO⟩
 ·have h1:inE x k=true:=by simpa using h1
  obtain⟨p,hp⟩:=in_iff.1 h1
  have hr:=hi.rng _ hp
  rw[prio_in hi.one hp]
  obtain⟨w2,hrun,ht⟩:=run_del mpT_Prio hm k 3 0
  refine⟨_,rfl,_,hc.1,w2,hrun,_,rfl,⟨hr.1,hr.2⟩,?_⟩
  obtain⟨F3,h3',u3,f3⟩:=km _ _ ht
  obtain⟨i,rfl⟩:∃i:Nat,p=i:=⟨p.toNat,by have:=hr.1;omega⟩
  have hi8:i<8:=by have:=hr.2;simp at this;omega
  obtain⟨F4,hq4,k4⟩:=pq_lvlT h3' hi8
  have hcell:w2.cell? (((⟨q,0,none⟩:Addr).add 0).add (i*1))=some (.pointer (some ⟨B i,0,none⟩)):=by
   have:=pq_ptr (x:=x) h3' i ⟨i,hi8⟩ (by
    have hA:∀i:Fin 8,L8[i.val]?=some i:=by decide
    exact hA ⟨i,hi8⟩)
   simpa [add_lit]using this
  refine⟨_,hcell,⟨(qdrop_ok hq4 k).mono ?_⟩⟩
  rintro e1 w3 ⟨rfl,ht3⟩
  have hkn:k∈lvIds x.2 i:=lv_mem.2 hp
  have e2:dropE (x.1,lvIds x.2 i) k=0:=by unfold dropE;rw[if_pos hkn]
  rw[e2,pqDropE,h1]
  refine⟨_,rfl,rfl,?_⟩
  have e3:=erase_eq (lv_nodup hi.one i) k
  have T:=Turn.pq (x:=pqDropS x k) (Turn.glue (Upd.refl _ _) u3 f3 (k4 _ _ ht3 (pqDropS x k).2 (by rw[e3];exact lv_drop _ _ _) (fun j hj=>by
   rw[pqDropS,lv_drop]
   apply List.filter_eq_self.2
   intro a ha
   rw[decide_eq_true_eq]
   rintro rfl
   have:=nodup_key hi.one (lv_mem.1 ha) hp rfl
   simp at this
   omega))) (hi.drop hp)
  exact T
theorem drop_out (x:Nat×Its) (k:Int):inE (pqDropS x k) k=false:=by
 cases h:inE (pqDropS x k) k with
 | false=>rfl
 | true=>
  obtain⟨p,hp⟩:=in_iff.1 h
  simp[pqDropS]at hp
theorem PqI.dropLen (h:PqI x g) {p k:Int} (hk:(p,k)∈x.2):(pqDropS x k).2.length+1=x.2.length:=by
 have h1:=(h.drop hk).len
 have hs:(g.1 k).isSome=true:=by rw[h.in_some];exact in_iff.2 ⟨p,hk⟩
 have:=List.length_pos_of_mem hk
 simp only[mdel,hs,if_true,h.len]at h1
 omega
theorem PqI.back (h:PqI x g) {p k:Int} (hk:(p,k)∈x.2):PqI (pqBackS x k) g:=by
 have h1:=h.drop hk
 have h2:=h.dropLen hk
 have h3:=h.room
 have h4:=h1.push (h.rng _ hk) (drop_out x k) (by simp only[pqDropS]at h2⊢;omega)
 have hs:(g.1 k).isSome=true:=by rw[h.in_some];exact in_iff.2 ⟨p,hk⟩
 have hg:mput (mdel g k) k p=g:=by
  apply Prod.ext
  ·funext j
   simp only[mput,mdel]
   split
   ·rename_i e
    subst e
    exact((h.map _ _).2 hk).symm
   ·rfl
  ·have:=h.len
   have:=List.length_pos_of_mem hk
   simp[mput,mdel,hs]
   omega
 rw[hg]at h4
 rw[pqBackS,if_pos (in_iff.2 ⟨p,hk⟩),prio_in h.one hk]
 exact h4
theorem pturn_ok (h:PqO q w F x):Calls Tryz.prog 310 #[.pointer (some ⟨q,0,none⟩)] w fun e w'=>e=.returned (.int .i64 (pqTurnE x))/\Turn (PqO q) w w' F (pqTurnS x):=by
 obtain⟨r,B,g,h,hi⟩:=id h
 rename_i hO
 refine u310 ?_
 rw[t310]
 refine⟨(top_ok h).mono ?_⟩
 rintro e w1 ⟨rfl,hU⟩
 unfold topV
 rcases flat_find (f:=fun v:Fin 8=>lvIds x.2 v.val) (l:=L8.reverse)with⟨h1,h2⟩|⟨j,a,t,t',h1,h2,h3,h4⟩
 ·rw[h1]
  have e:pqTurnE x=12:=by rw[pqTurnE,topE,listOf,h2]
  rw[pqTurnS,e]
  exact⟨_,_,rfl,fun _=>⟨rfl,Turn.quiet hO hU⟩,fun k=>by simp at k⟩
 ·rw[h1]
  have et:topE x=(a,0):=by rw[topE,listOf,h4]
  have e:pqTurnE x=0:=by rw[pqTurnE,et]
  rw[pqTurnS,e,if_pos rfl,et]
  refine⟨_,_,rfl,fun k=>by simp at k,fun _=>?_⟩
  have h':=Frame.star.upd h hU (fun _ _ h=>h)
  obtain⟨F4,hq4,k4⟩:=pq_lvlT h' j.isLt
  refine⟨(qturn_ok hq4).mono ?_⟩
  rintro e1 w3 ⟨rfl,ht3⟩
  have h3:lvIds x.2 j.val=a::t:=h3
  have e5:turnE (x.1,lvIds x.2 j.val)=0:=by simp[turnE,frontE,h3]
  have e6:turnS (x.1,lvIds x.2 j.val)=(x.1,t++[a]):=by simp[turnS,h3]
  rw[e5]
  rw[e6]at ht3
  have hka:((j.val:Int),a)∈x.2:=lv_mem.1 (by rw[h3];exact List.mem_cons_self)
  have hb:pqBackS x a=(x.1,(pqDropS x a).2++[((j.val:Int),a)]):=by rw[pqBackS,if_pos (in_iff.2 ⟨_,hka⟩),prio_in hi.one hka]
  have hnd:=lv_nodup hi.one j.val
  rw[h3,List.nodup_cons]at hnd
  have T:=Turn.pq (x:=pqBackS x a) (g:=g) (B:=B) (by
   rw[hb]
   exact Turn.glue (F3:=F) (hU.mono (fun _ _ h=>h.elim)) (Upd.refl _ _) (fun i h=>.inl h) (k4 _ _ ht3 ((pqDropS x a).2++[((j.val:Int),a)])
    (by
     rw[lv_push,if_pos rfl,pqDropS,lv_drop,h3,List.filter_cons]
     simp only[ne_eq,not_true_eq_false,decide_false,Bool.false_eq_true,if_false]
     congr 1
     apply List.filter_eq_self.2
     intro u hu
     rw[decide_eq_true_eq]
     rintro rfl
     exact hnd.1 hu)
    (fun i hij=>by
     rw[lv_push,if_neg (by omega),List.append_nil,pqDropS,lv_drop]
     apply List.filter_eq_self.2
     intro u hu
     rw[decide_eq_true_eq]
     rintro rfl
     have:=nodup_key hi.one (lv_mem.1 hu) hka rfl
     simp at this
     omega))) (hi.back hka)
  exact⟨_,rfl,rfl,T⟩
theorem pback_ok (h:PqO q w F x) (k:Int):Calls Tryz.prog 243 #[.pointer (some ⟨q,0,none⟩),.int .i64 k] w fun e w'=>e=.returned (.int .i64 (pqBackE x k))/\Turn (PqO q) w w' F (pqBackS x k):=by
 refine u243 ?_
 rw[t243]
 refine⟨(prio_ok h k).mono ?_⟩
 rintro e w1 ⟨rfl,rfl⟩
 refine⟨_,_,rfl,⟨(pdrop_ok h k).mono ?_⟩⟩
 rintro e w2 ⟨rfl,F3,h3,u3,f3⟩
 obtain⟨r,B,g,_,hi⟩:=h
 cases hk:inE x k with
 | false=>
  have e:pqBackE x k=4:=by rw[pqBackE,pqDropE,hk];rfl
  rw[hk]at h3
  rw[e,pqBackS,hk]
  have e':pqDropE x k=4:=e
  rw[e']
  exact⟨_,rfl,fun _=>⟨rfl,F3,h3,u3,f3⟩,fun h=>by simp at h⟩
 | true=>
  have e:pqBackE x k=0:=by rw[pqBackE,pqDropE,hk];rfl
  rw[hk,if_pos rfl]at h3
  have e':pqDropE x k=0:=e
  rw[e,e',pqBackS,if_pos hk]
  refine⟨_,rfl,fun h=>by simp at h,fun _=>⟨(ppush_ok h3 _ k).mono ?_⟩⟩
  rintro e w4 ⟨rfl,T4⟩
  obtain⟨p,hp⟩:=in_iff.1 hk
  have hr:=hi.rng _ hp
  have hl:=hi.dropLen hp
  have hm:=hi.room
  have e7:pqPushE (pqDropS x k) (prioE x k).1 k=0:=by
   rw[prio_in hi.one hp,pqPushE,if_neg (by simp only at hr⊢;omega),if_neg (by rw[drop_out];simp),if_neg (by simp only[pqDropS]at hl⊢;omega)]
  rw[pqPushS,if_pos e7]at T4
  rw[e7]
  exact⟨_,rfl,rfl,Turn.glue (Upd.refl _ _) u3 f3 T4⟩
def okP9 (n:Int):Prop:=1<=n/\n<=1024
def bkN (B:Nat->Nat) (j:Nat):List Value:=((List.range j).map fun i=>ptrV (B i))++List.replicate (8-j) (.pointer none)
def lvN (B:Nat->Nat) (m j:Nat):List PLv:=(List.range j).map fun i=>(B i,m,[])
theorem bk_set {j b m:Nat} (hj:j<8):setL (pqE r (bkN B j,m)) j [ptrV b]=pqE r (bkN (fun i=>if i=j then b else B i) (j+1),m):=by
 have h0:∀(l:List Value) (v:Value),j<l.length->setL l j [v]=l.set j v:=fun l v h=>by
  rw[setL,List.set_eq_take_append_cons_drop,if_pos h]
  simp
 have hl:(bkN B j).length=8:=by simp[bkN];omega
 have hl':(bkN (fun i=>if i=j then b else B i) (j+1)).length=8:=by simp[bkN];omega
 rw[h0 _ _ (by simp[pqE,hl];omega)]
 unfold pqE
 rw[List.set_append_left _ _ (by simp only;omega)]
 congr 1
 show(bkN B j).set j (ptrV b)=bkN (fun i=>if i=j then b else B i) (j+1)
 have e:8-j=(8-(j+1))+1:=by omega
 unfold bkN
 rw[e,List.replicate_succ,List.set_append_right _ _ (by simp),List.length_map,List.length_range,Nat.sub_self,List.set_cons_zero,List.range_succ,List.map_append,List.append_assoc]
 congr 1
 ·apply List.map_congr_left
  intro i hi
  have:=List.mem_range.1 hi
  simp only
  rw[if_neg (by omega)]
 ·simp
theorem lv_snoc {j b m:Nat}:lvN B m j++[(b,m,[])]=lvN (fun i=>if i=j then b else B i) m (j+1):=by
 unfold lvN
 rw[List.range_succ,List.map_append]
 congr 1
 ·apply List.map_congr_left
  intro i hi
  have:=List.mem_range.1 hi
  simp only
  rw[if_neg (by omega)]
 ·simp
theorem pnew_ok (n:Int) (w:World):Calls Tryz.prog 108 #[.int .i64 n] w fun e w'=>
  (¬okP9 n/\e=.returned (.tuple #[.pointer none,.int .i64 2])/\Upd no w w')∨
  (okP9 n/\∃b F,e=.returned (.tuple #[.pointer (some ⟨b,0,none⟩),.int .i64 0])/\PqO b w' F (n.toNat,[])/\Upd no w w'/\∀i,F i->w.heap.size<=i):=by
 refine u108 ?_
 rw[t108]
 refine⟨fun w1 hN1=>⟨fun w2 hN2=>?_⟩⟩
 have hM:Mine w w1 (MapO w.heap.size (Value.int .i64)) (fun _=>none,0):=Mine.new (Upd.refl _ _) (hN1.upd no) (MapO.new hN1) (fun i hi=>Nat.le_of_eq hi.symm)
 by_cases hok:okP9 n
 ·obtain⟨m,rfl⟩:∃m:Nat,n=m:=⟨n.toNat,by unfold okP9 at hok;omega⟩
  replace hM:Mine w w2 (Star (MapO w.heap.size (Value.int .i64)) (Rw w1.heap.size 265 (pqE w.heap.size))) ((fun _=>none,0),(bkN (fun _=>0) 0,m)):=hM.add (hN2.upd no) (Rw.new hN2 rfl) (fun i hi=>Nat.le_of_eq hi.symm)
  obtain⟨r,hr⟩:∃r,w.heap.size=r:=⟨_,rfl⟩
  rw[hr]at hM
  generalize w1.heap.size=q at hM⊢
  replace hM:Mine w w2 (PqR q r) (((fun _=>none,0),(bkN (fun _=>0) 0,m)),lvN (fun _=>0) m 0):=hM.add (Upd.refl _ _) (Fam.nil _) (fun i hi=>hi.elim)
  clear hN1 hN2
  refine⟨WP_loop okProg (M:=M108) (σ:=Nat) (fun j=>e108_1 (m:Int) (some ⟨q,0,none⟩) (j:Int)) (fun j w'=>j<=8/\∃B,Mine w w' (PqR q r) (((fun _=>none,0),(bkN B j,m)),lvN B m j)) (fun j _=>8-j) 0 ⟨rfl,rfl,rfl,trivial⟩ ⟨by omega,_,hM⟩ ?_⟩
  clear hM
  rintro j w3 ⟨j1,B,hM⟩
  rw[t108_1]
  refine⟨fun g=>?_,fun g=>?_⟩
  ·have hj:j<8:=by simp at g;omega
   refine⟨(new_ok_Fifo m w3).mono ?_⟩
   rintro e w4 hh
   obtain⟨_,bq,G,rfl,hQ,hU,hG⟩:=hh.resolve_left (fun h=>absurd hok h.1)
   refine⟨_,_,rfl,fun g=>by simp at g,fun _=>⟨_,rfl,⟨by omega,by omega⟩,?_⟩⟩
   obtain⟨F2,hA,hT⟩:=hM.right
   have h5:=hT _ _ (Fam.push (s:=((bq,m,[]):PLv)) hA hU hQ hG)
   rw[lv_snoc]at h5
   obtain⟨F3,hB3,hT3⟩:=h5.left
   obtain⟨F4,hB4,hT4⟩:=Star.right hB3
   have hbk:((⟨q,0,none⟩:Addr).add 0).add (j*1)=(⟨q,0,none⟩:Addr).add j:=by simp[add_lit]
   simp only[Int.toNat_natCast]
   rw[hbk]
   refine hB4.blk.wr (by simp[pqE,bkN]<;>omega) fun w5 hW=>?_
   refine⟨j+1,⟨rfl,rfl,by rw[w64 (by omega)];rfl,trivial⟩,⟨by omega,fun i=>if i=j then bq else B i,?_⟩,by omega⟩
   refine hT3 _ _ (hT4 _ _ (Rw.turned hB4 hW.U ?_))
   rw[<-bk_set hj]
   exact hW.blk
  ·have:j=8:=by simp at g;omega
   subst this
   obtain⟨F,hF1,hF2,hF3⟩:=hM
   refine .inr ⟨hok,q,F,rfl,⟨r,B,(fun _=>none,0),?_,⟨?_,rfl,List.nodup_nil,fun _ h=>by simp at h,Nat.zero_le _,by unfold okP9 at hok;simp;omega⟩⟩,hF2,hF3⟩
   ·have e1:bkN B 8=bks B:=by simp[bkN,bks]
    have e2:lvN B m 8=lvs B m []:=rfl
    rw[e1,e2]at hF1
    exact hF1
   ·intro k v
    simp
 ·have hU:=(hN1.upd no).and (hN2.upd no)
  refine⟨WP_loop okProg (M:=M108) (σ:=Unit) (fun _=>e108_1 n (some ⟨w1.heap.size,0,none⟩) 0) (fun _ w'=>Upd no w w') (fun _ _=>0) () ⟨rfl,rfl,rfl,trivial⟩ hU ?_⟩
  rintro _ w3 hU3
  rw[t108_1]
  refine⟨fun g=>?_,fun g=>by simp at g⟩
  refine⟨(new_ok_Fifo n w3).mono ?_⟩
  rintro e w4 hh
  obtain⟨_,rfl,rfl⟩:=hh.resolve_right (fun h=>absurd h.1 hok)
  exact⟨_,_,rfl,fun _=>.inl ⟨hok,rfl,hU3⟩,fun g=>by simp at g⟩
end
end Go.Dav
namespace Go.Dav
open Go.Proofs
structure PqV (x:Nat×Its):Prop where
 one:(x.2.map (·.2)).Nodup
 rng:∀e∈x.2,0<=e.1/\e.1<8
 room:x.2.length<=x.1
 most:1<=x.1/\x.1<=1024
theorem PqO.V {q:Nat} {w:World} {F:Fp} {x:Nat×Its} (h:PqO q w F x):PqV x:=by
 obtain⟨_,_,_,_,k⟩:=h
 exact⟨k.one,k.rng,k.room,k.most⟩
theorem PqV.new {n:Nat} (h:1<=n/\n<=1024):PqV (n,[]) where
 one:=List.nodup_nil
 rng:=fun _ h=>(by cases h)
 room:=Nat.zero_le _
 most:=h
theorem PqV.len {x:Nat×Its} (h:PqV x):x.2.length<=1024:=Nat.le_trans h.room h.most.2
def lO (L:Its) (j:Nat):List Int:=(List.range j).flatMap fun i=>lvIds L (7-i)
theorem lO_all (L:Its):lO L 8=listOf L:=rfl
theorem lO_succ (L:Its) (j:Nat):lO L (j+1)=lO L j++lvIds L (7-j):=by
 unfold lO
 rw[List.range_succ,List.flatMap_append]
 simp
theorem lvI_len (L:Its) (p:Nat):(lvIds L p).length<=L.length:=by
 unfold lvIds
 rw[List.length_map]
 exact List.length_filter_le _ _
theorem lO_len (L:Its) (j:Nat):(lO L j).length<=j*L.length:=by
 induction j with
 | zero=>simp[lO]
 | succ j ih=>
  rw[lO_succ,List.length_append,Nat.add_mul,Nat.one_mul]
  have:=lvI_len L (7-j)
  omega
theorem listOf_len (L:Its):(listOf L).length<=8*L.length:=lO_len L 8
section
variable {x y:Nat×Its} {T i:Nat}
end
theorem in_push {x:Nat×Its} {p k:Int} (h:pqPushE x p k=0) (j:Int):inE (pqPushS x p k) j=(inE x j||decide (j=k)):=by
 rw[pqPushS,if_pos h,Bool.eq_iff_iff,in_iff,Bool.or_eq_true,in_iff,decide_eq_true_iff]
 simp only[List.mem_append,List.mem_singleton,Prod.mk.injEq]
 constructor
 ·rintro⟨q,h|⟨_,h⟩⟩
  ·exact .inl ⟨q,h⟩
  ·exact .inr h
 ·rintro(⟨q,h⟩|h)
  ·exact⟨q,.inl h⟩
  ·exact⟨p,.inr ⟨rfl,h⟩⟩
theorem push_no {x:Nat×Its} {p k:Int} (h:pqPushE x p k=0):inE x k=false:=by
 unfold pqPushE at h
 by_cases h1:p<0∨8<=p
 ·rw[if_pos h1]at h;cases h
 ·rw[if_neg h1]at h
  cases hk:inE x k with
  | false=>rfl
  | true=>rw[hk,if_pos rfl]at h;cases h
theorem in_drop (x:Nat×Its) (k j:Int):inE (pqDropS x k) j=(inE x j&&decide (j≠k)):=by
 rw[Bool.eq_iff_iff,in_iff,Bool.and_eq_true,in_iff,decide_eq_true_iff]
 simp[pqDropS]
theorem in_back (x:Nat×Its) (k j:Int):inE (pqBackS x k) j=inE x j:=by
 unfold pqBackS
 cases hk:inE x k with
 | false=>rfl
 | true=>
  rw[if_pos rfl,Bool.eq_iff_iff,in_iff,in_iff]
  simp only[List.mem_append,List.mem_singleton,Prod.mk.injEq,pqDropS,List.mem_filter,decide_eq_true_iff]
  constructor
  ·rintro⟨q,⟨h,_⟩|⟨_,h⟩⟩
   ·exact⟨q,h⟩
   ·rw[h];exact in_iff.1 hk
  ·rintro⟨q,h⟩
   by_cases hj:j=k
   ·exact⟨_,.inr ⟨rfl,hj⟩⟩
   ·exact⟨q,.inl ⟨h,hj⟩⟩
theorem in_turn (x:Nat×Its) (j:Int):inE (pqTurnS x) j=inE x j:=by
 unfold pqTurnS
 split
 ·exact in_back _ _ _
 ·rfl
theorem most_push (x:Nat×Its) (p k:Int):(pqPushS x p k).1=x.1:=by unfold pqPushS;split<;>rfl
theorem most_back (x:Nat×Its) (k:Int):(pqBackS x k).1=x.1:=by unfold pqBackS;split<;>rfl
theorem most_turn (x:Nat×Its):(pqTurnS x).1=x.1:=by unfold pqTurnS;split;exact most_back _ _;rfl
theorem in_list {x:Nat×Its} {k:Int} (hV:PqV x):k∈listOf x.2↔inE x k=true:=by
 rw[in_iff]
 unfold listOf
 constructor
 ·intro h
  obtain⟨i,_,hi⟩:=List.mem_flatMap.1 h
  exact⟨_,lv_mem.1 hi⟩
 ·rintro⟨p,hp⟩
  have h1:=hV.rng _ hp
  simp only at h1
  have hall:∀i:Fin 8,i∈L8.reverse:=by decide
  refine List.mem_flatMap.2 ⟨⟨p.toNat,by omega⟩,hall _,lv_mem.2 ?_⟩
  simp only
  rw[Int.toNat_of_nonneg h1.1]
  exact hp
theorem cnt_fil {α:Type} (p q:α->Bool) (h:∀a,¬(p a=true/\q a=true)):∀L:List α,(L.filter p).length+(L.filter q).length=(L.filter fun a=>p a||q a).length
 | []=>rfl
 | a::L=>by
  have ih:=cnt_fil p q h L
  have:=h a
  simp only[List.filter_cons]
  cases hp:p a<;>cases hq:q a<;>simp[hp,hq]at this⊢<;>omega
theorem lO_cnt (L:Its) (j:Nat) (hj:j<=8):(lO L j).length=(L.filter fun e=>decide (8-(j:Int)<=e.1/\e.1<8)).length:=by
 induction j with
 | zero=>
  have:L.filter (fun e=>decide (8-((0:Nat):Int)<=e.1/\e.1<8))=[]:=by
   rw[List.filter_eq_nil_iff]
   intro e _
   simp
  rw[this];rfl
 | succ j ih=>
  rw[lO_succ,List.length_append,ih (by omega),lvIds,List.length_map,cnt_fil]
  ·congr 1
   apply List.filter_congr
   intro e _
   rw[Bool.eq_iff_iff]
   simp only[Bool.or_eq_true,decide_eq_true_iff]
   omega
  ·intro e
   simp only[decide_eq_true_iff]
   omega
theorem list_all {x:Nat×Its} (hV:PqV x):(listOf x.2).length=x.2.length:=by
 rw[<-lO_all,lO_cnt _ _ (Nat.le_refl _)]
 congr 1
 apply List.filter_eq_self.2
 intro e he
 have:=hV.rng e he
 rw[decide_eq_true_iff]
 omega
theorem drop_len {x:Nat×Its} (hV:PqV x) {k:Int} (h:inE x k=true):(pqDropS x k).2.length+1=x.2.length:=by
 obtain⟨p,hp⟩:=in_iff.1 h
 have h2:(x.2.filter fun e=>decide (e.2≠k)).map (·.2)=(x.2.map (·.2)).erase k:=by
  rw[erase_eq hV.one,List.filter_map]
  rfl
 have h3:=congrArg List.length h2
 have hm2:k∈x.2.map (·.2):=List.mem_map.2 ⟨_,hp,rfl⟩
 rw[List.length_map,List.length_erase_of_mem hm2,List.length_map]at h3
 have:=List.length_pos_of_mem hp
 simp only[pqDropS]
 omega
end Go.Dav
namespace Go.Dav
open Go.Proofs
theorem elPq:ElemT Tryz.prog 153 152 1 8 [.pointer none]:=⟨by kernel_rfl,by kernel_rfl,rfl,by omega⟩
abbrev RS:=List (Nat×Its)
def rqE (r:Nat) (p:Option Addr) (n c:Nat):List Value:=[.slice p n c,.map (some r)]
abbrev RqX (b r:Nat):Ob (((Int->Option Int)×Nat)×RS):=Star (MapO r (Value.int .i64)) (Tq PqO b 155 152 (rqE r))
def memQ (x:RS) (i:Nat) (k:Int):Bool:=inE (x.getD i (0,[])) k
structure RqI (x:RS) (g:Int->Option Int):Prop where
 map:∀k v,g k=some v↔∃i:Nat,v=i/\memQ x i k=true
 most:∀q∈x,q.1=32
 cpus:1<=x.length/\x.length<=64
def RqO (b:Nat):Ob RS:=fun w F x=>∃r g,RqX b r w F (g,x)/\RqI x g.1
instance Frame.rq (b:Nat):Frame (RqO b) where
 upd:=fun⟨r,g,h,k⟩ hU hG=>⟨r,g,Frame.star.upd h hU hG,k⟩
 lt:=fun⟨r,g,h,_⟩=>Frame.star.lt h
def inQ (x:RS) (c:Int):Prop:=0<=c/\c<x.length
instance (x:RS) (c:Int):Decidable (inQ x c):=by unfold inQ;infer_instance
theorem inQ_of {x:RS} {i:Nat} (hi:i<x.length):inQ x (i:Int):=by unfold inQ;omega
theorem inQ_at {x:RS} {c:Int} (h:inQ x c):∃i:Nat,i<x.length/\c=(i:Int):=⟨c.toNat,by unfold inQ at h;omega,by unfold inQ at h;omega⟩
def rowQ (x:RS) (c:Int):Nat×Its:=x.getD c.toNat (0,[])
theorem rowQ_at {x:RS} {i:Nat} (hi:i<x.length):rowQ x (i:Int)=x[i]:=by simp[rowQ,hi]
def whE_Runq (x:RS) (k:Int):Int×Bool:=match(List.range x.length).find? (fun i=>memQ x i k)with
 | none=>(0,false)
 | some i=>((i:Int),true)
theorem memQ_lt {x:RS} {i:Nat} {k:Int} (h:memQ x i k=true):i<x.length:=by
 rcases Nat.lt_or_ge i x.length with hi|hi
 ·exact hi
 ·rw[memQ,List.getD_eq_getElem?_getD,List.getElem?_eq_none hi]at h;cases h
theorem memQ_at {x:RS} {i:Nat} (hi:i<x.length) (k:Int):memQ x i k=inE x[i] k:=by simp[memQ,hi]
theorem memQ_set {x:RS} {c:Nat} (hc:c<x.length) (q:Nat×Its) (i:Nat) (k:Int):memQ (x.set c q) i k=if i=c then inE q k else memQ x i k:=by
 unfold memQ
 by_cases hi:i=c
 ·subst hi;simp[hc]
 ·rw[if_neg hi]
  simp[List.getElem?_set,Ne.symm hi]
theorem whE_cases (x:RS) (k:Int):(whE_Runq x k=(0,false)/\∀i,memQ x i k=false)∨∃i:Nat,i<x.length/\whE_Runq x k=((i:Int),true)/\memQ x i k=true:=by
 unfold whE_Runq
 cases h:(List.range x.length).find? (fun i=>memQ x i k)with
 | none=>
  refine .inl ⟨rfl,fun i=>?_⟩
  cases hm:memQ x i k with
  | false=>rfl
  | true=>
   have:=List.find?_eq_none.1 h i (List.mem_range.2 (memQ_lt hm))
   simp[hm]at this
 | some i=>
  have h1:=List.find?_some h
  exact .inr ⟨i,memQ_lt h1,rfl,h1⟩
section
variable {x:RS} {g:(Int->Option Int)×Nat}
theorem RqI.one (h:RqI x g.1) {k:Int} {i j:Nat} (h1:memQ x i k=true) (h2:memQ x j k=true):i=j:=by
 have e1:=(h.map k i).2 ⟨i,rfl,h1⟩
 have e2:=(h.map k j).2 ⟨j,rfl,h2⟩
 rw[e1]at e2
 have:=Option.some.inj e2
 omega
theorem RqI.wh (h:RqI x g.1) (k:Int):(g.1 k).getD 0=(whE_Runq x k).1/\(g.1 k).isSome=(whE_Runq x k).2:=by
 rcases whE_cases x k with⟨h1,h2⟩|⟨i,hi,h1,h2⟩
 ·have:g.1 k=none:=by
   cases hg:g.1 k with
   | none=>rfl
   | some v=>obtain⟨i,_,hm⟩:=(h.map k v).1 hg;rw[h2]at hm;cases hm
  rw[h1,this];exact⟨rfl,rfl⟩
 ·rw[h1,(h.map k i).2 ⟨i,rfl,h2⟩];exact⟨rfl,rfl⟩
theorem most_set {x:RS} (h:∀q∈x,q.1=32) {c:Nat} {q:Nat×Its} (hq:q.1=32):∀q'∈x.set c q,q'.1=32:=by
 intro q' hq'
 rcases List.mem_or_eq_of_mem_set hq' with h1|h1
 ·exact h q' h1
 ·rw[h1];exact hq
theorem RqI.same (h:RqI x g.1) {c:Nat} (hc:c<x.length) {q:Nat×Its} (h1:∀k,inE q k=inE x[c] k) (h2:q.1=x[c].1):RqI (x.set c q) g.1:=by
 refine⟨fun k v=>?_,most_set h.most (by rw[h2];exact h.most _ (List.getElem_mem hc)),by simpa using h.cpus⟩
 rw[h.map]
 have:∀i,memQ (x.set c q) i k=memQ x i k:=fun i=>by
  rw[memQ_set hc]
  by_cases hi:i=c
  ·subst hi;rw[if_pos rfl,h1,memQ_at hc]
  ·rw[if_neg hi]
 simp only[this]
theorem RqI.put (h:RqI x g.1) {c:Nat} (hc:c<x.length) {p k:Int} (hp:pqPushE x[c] p k=0) (hk:∀i,memQ x i k=false):RqI (x.set c (pqPushS x[c] p k)) (mput g k (c:Int)).1:=by
 refine⟨fun j v=>?_,most_set h.most (by rw[most_push];exact h.most _ (List.getElem_mem hc)),by simpa using h.cpus⟩
 simp only[mput,memQ_set hc,in_push hp]
 by_cases hj:j=k
 ·subst hj
  rw[if_pos rfl]
  constructor
  ·rintro h1
   have:=Option.some.inj h1
   exact⟨c,this.symm,by simp⟩
  ·rintro⟨i,rfl,hi⟩
   by_cases hic:i=c
   ·rw[hic]
   ·rw[if_neg hic,hk]at hi;cases hi
 ·rw[if_neg hj,h.map]
  have:∀i,(if i=c then(inE x[c] j||decide (j=k))else memQ x i j)=memQ x i j:=fun i=>by
   by_cases hic:i=c
   ·subst hic;rw[if_pos rfl,memQ_at hc];simp[hj]
   ·rw[if_neg hic]
  simp only[this]
theorem RqI.take (h:RqI x g.1) {c:Nat} (hc:c<x.length) {k:Int} (hk:memQ x c k=true):RqI (x.set c (pqDropS x[c] k)) (mdel g k).1:=by
 refine⟨fun j v=>?_,most_set h.most (h.most x[c] (List.getElem_mem hc)),by simpa using h.cpus⟩
 simp only[mdel,memQ_set hc,in_drop]
 by_cases hj:j=k
 ·subst hj
  rw[if_pos rfl]
  constructor
  ·intro h1;cases h1
  ·rintro⟨i,rfl,hi⟩
   by_cases hic:i=c
   ·rw[if_pos hic]at hi;simp at hi
   ·rw[if_neg hic]at hi;exact absurd (h.one hi hk) hic
 ·rw[if_neg hj,h.map]
  have:∀i,(if i=c then(inE x[c] j&&decide (j≠k))else memQ x i j)=memQ x i j:=fun i=>by
   by_cases hic:i=c
   ·subst hic;rw[if_pos rfl,memQ_at hc];simp[hj]
   ·rw[if_neg hic]
  simp only[this]
end
def rqPutE (x:RS) (c p k:Int):Int:=if inQ x c then(if(whE_Runq x k).2 then 6 else pqPushE (rowQ x c) p k)else 3
def rqPutS (x:RS) (c p k:Int):RS:=if rqPutE x c p k=0 then x.set c.toNat (pqPushS (rowQ x c) p k)else x
def rqPickE (x:RS) (c:Int):Int×Int:=if inQ x c then topE (rowQ x c)else(0,3)
def rqPickS (x:RS) (c:Int):RS:=if inQ x c then x.set c.toNat (pqTurnS (rowQ x c))else x
def rqBackE (x:RS) (k:Int):Int:=if(whE_Runq x k).2 then 0 else 4
def rqBackS (x:RS) (k:Int):RS:=if(whE_Runq x k).2 then x.set (whE_Runq x k).1.toNat (pqBackS (rowQ x (whE_Runq x k).1) k)else x
def rqTakeE (x:RS) (k:Int):Int:=if(whE_Runq x k).2 then 0 else 4
def rqTakeS (x:RS) (k:Int):RS:=if(whE_Runq x k).2 then x.set (whE_Runq x k).1.toNat (pqDropS (rowQ x (whE_Runq x k).1) k)else x
def rqLoadE (x:RS) (c:Int):Int:=if inQ x c then(rowQ x c).2.length else 0
def rqListE (x:RS) (c:Int):List Int:=if inQ x c then listOf (rowQ x c).2 else[]
section
variable {b r:Nat} {w w':World} {F:Fp} {x:RS} {g:(Int->Option Int)×Nat}
theorem rqx_blk (h:RqX b r w F (g,x)):∃p c,Blk w b (rqE r p x.length c) 155:=by
 obtain⟨F1,h1,_⟩:=h.right
 exact h1.blk
theorem rqx_map (h:RqX b r w F (g,x)):∃F1,MapO r (Value.int .i64) w F1 g/\∀w' g',Turn (MapO r (Value.int .i64)) w w' F1 g'->Turn (RqX b r) w w' F (g',x):=Star.left h
theorem rqx_q (h:RqX b r w F (g,x)) {i:Nat} (hi:i<x.length):∃a c bi F1,Blk w b (rqE r (some a) x.length c) 155/\w.cell? (a.add (i*1))=some (.pointer (some ⟨bi,0,none⟩))/\PqO bi w F1 x[i]/\
  ∀w' s',Turn (PqO bi) w w' F1 s'->Turn (RqX b r) w w' F (g,x.set i s'):=by
 obtain⟨F1,h1,k1⟩:=h.right
 obtain⟨a,c,bi,F2,q1,q2,q3,q4⟩:=h1.at hi
 exact⟨a,c,bi,F2,q1,q2,q3,fun w' s' hT=>k1 _ _ (q4 _ _ hT)⟩
theorem rqx_qm (h:RqX b r w F (g,x)) {i:Nat} (hi:i<x.length):∃a c bi F1 Fm,Blk w b (rqE r (some a) x.length c) 155/\w.cell? (a.add (i*1))=some (.pointer (some ⟨bi,0,none⟩))/\PqO bi w F1 x[i]/\MapO r (Value.int .i64) w Fm g/\
  ∀w1 g',Turn (MapO r (Value.int .i64)) w w1 Fm g'->PqO bi w1 F1 x[i]/\∀w' s',Turn (PqO bi) w1 w' F1 s'->Turn (RqX b r) w w' F (g',x.set i s'):=by
 obtain⟨G1,G2,h1,h2,h3,h4⟩:=h
 simp only at h1 h2
 obtain⟨a,c,bi,F1,hall⟩:=Tq.atU h2 hi
 obtain⟨q1,q2,q3,_⟩:=hall w no (Upd.refl _ _) (fun _ _ h=>h)
 refine⟨a,c,bi,F1,G1,q1,q2,q3,h1,?_⟩
 rintro w1 g' ⟨F',m1,m2,m3⟩
 obtain⟨_,_,p3,p4⟩:=hall w1 G1 m2 (fun j hj hf=>h4 j hf hj)
 refine⟨p3,fun w' s' hT=>?_⟩
 obtain⟨H2,t1,t2,t3⟩:=p4 w' s' hT
 have hlt:=Frame.tq.lt h2
 have hd:∀j,F' j->¬G2 j:=fun j hj hf=>by
  rcases m3 j hj with h|h
  ·exact h4 j h hf
  ·have:=hlt j hf;omega
 have hl1:=(Frame.map r _).lt m1
 refine⟨fun j=>F' j∨H2 j,⟨F',H2,(Frame.map r _).upd m1 t2 hd,t1,fun _=>Iff.rfl,fun j hj hf=>?_⟩,(m2.mono (fun j _ hj=>(h3 j).2 (.inl hj))).trans t2 (fun j _ hj=>(h3 j).2 (.inr hj)),fun j hj=>?_⟩
 ·rcases t3 j hf with h|h
  ·exact hd j hj h
  ·have:=hl1 j hj;omega
 ·rcases hj with hj|hj
  ·exact(m3 j hj).imp (fun h=>(h3 j).2 (.inl h)) id
  ·rcases t3 j hj with h|h
   ·exact .inl ((h3 j).2 (.inr h))
   ·exact .inr (Nat.le_trans m2.size h)
theorem Turn.rq (h:Turn (RqX b r) w w' F (g,x)) (k:RqI x g.1):Turn (RqO b) w w' F x:=by
 obtain⟨F',h1,h2⟩:=h
 exact⟨F',⟨r,g,h1,k⟩,h2⟩
theorem RqO.V (h:RqO b w F x) {i:Nat} (hi:i<x.length):PqV x[i]:=by
 obtain⟨r,g,h,_⟩:=h
 obtain⟨_,_,_,_,_,_,hq,_⟩:=rqx_q h hi
 exact hq.V
theorem rqmay_ok (h:RqX b r w F (g,x)) (c:Int):Calls Tryz.prog 73 #[.pointer (some ⟨b,0,none⟩),.int .i64 c] w fun e w'=>e=.returned (.int .i64 (if inQ x c then 0 else 3))/\w'=w:=by
 obtain⟨p,c1,hB⟩:=rqx_blk h
 refine u73 ?_
 rw[t73]
 refine⟨fun g=>by simp at g,fun _=>⟨fun g1=>⟨_,rfl,_,_,_,hB.cell rfl,fun g2=>?_,fun g2=>?_⟩,fun g1=>?_⟩⟩
 ·rw[if_neg (by unfold inQ;simp at g1 g2;omega)];exact⟨rfl,rfl⟩
 ·rw[if_pos (by unfold inQ;simp at g1 g2;omega)];exact⟨rfl,rfl⟩
 ·rw[if_neg (by unfold inQ;simp at g1;omega)];exact⟨rfl,rfl⟩
theorem rqload_ok (h:RqO b w F x) (c:Int):Calls Tryz.prog 14 #[.pointer (some ⟨b,0,none⟩),.int .i64 c] w fun e w'=>e=.returned (.int .i64 (rqLoadE x c))/\w'=w:=by
 obtain⟨r,g,h,hi⟩:=h
 refine u14 ?_
 rw[t14]
 refine⟨(rqmay_ok h c).mono ?_⟩
 rintro e w1 ⟨rfl,rfl⟩
 unfold rqLoadE
 by_cases hc:inQ x c
 ·rw[if_pos hc,if_pos hc]
  obtain⟨i,hl,rfl⟩:=inQ_at hc
  obtain⟨a,c,bi,F1,hB,hcl,hq,_⟩:=rqx_q h hl
  rw[rowQ_at hl]
  refine⟨_,rfl,fun g=>by simp at g,fun _=>⟨_,rfl,_,_,_,hB.cell rfl,⟨by omega,by omega⟩,a,rfl,_,hcl,⟨(plen_ok hq).mono ?_⟩⟩⟩
  rintro e w2 ⟨rfl,rfl⟩
  exact⟨_,rfl,rfl,rfl⟩
 ·rw[if_neg hc,if_neg hc]
  exact⟨_,rfl,fun _=>⟨rfl,rfl⟩,fun g=>by simp at g⟩
theorem rqlist_ok (h:RqO b w F x) (c:Int):Calls Tryz.prog 88 #[.pointer (some ⟨b,0,none⟩),.int .i64 c] w fun e w'=>∃p d,e=.returned (.slice p (rqListE x c).length d)/\Loc w w' 3 p d (rqListE x c):=by
 obtain⟨r,g,h,hi⟩:=h
 refine u88 ?_
 rw[t88]
 refine⟨(rqmay_ok h c).mono ?_⟩
 rintro e w1 ⟨rfl,rfl⟩
 unfold rqListE
 by_cases hc:inQ x c
 ·rw[if_pos hc,if_pos hc]
  obtain⟨i,hl,rfl⟩:=inQ_at hc
  obtain⟨a,c,bi,F1,hB,hcl,hq,_⟩:=rqx_q h hl
  rw[rowQ_at hl]
  refine⟨_,rfl,fun g=>by simp at g,fun _=>⟨_,rfl,_,_,_,hB.cell rfl,⟨by omega,by omega⟩,a,rfl,_,hcl,⟨(listq_ok hq).mono ?_⟩⟩⟩
  rintro e w2 ⟨p,d,rfl,hL⟩
  exact⟨_,_,_,rfl,p,d,rfl,hL⟩
 ·rw[if_neg hc,if_neg hc]
  exact⟨_,rfl,fun _=>⟨none,0,rfl,Loc.nil (Upd.refl _ _) _⟩,fun g=>by simp at g⟩
theorem rqput_ok (h:RqO b w F x) (c p k:Int):Calls Tryz.prog 235 #[.pointer (some ⟨b,0,none⟩),.int .i64 c,.int .i64 p,.int .i64 k] w fun e w'=>e=.returned (.int .i64 (rqPutE x c p k))/\Turn (RqO b) w w' F (rqPutS x c p k):=by
 obtain⟨r,g,hx,hi⟩:=id h
 refine u235 ?_
 rw[t235]
 refine⟨(rqmay_ok hx c).mono ?_⟩
 rintro e w1 ⟨rfl,rfl⟩
 unfold rqPutS rqPutE
 by_cases hc:inQ x c
 ·simp only[if_pos hc]
  obtain⟨i,hl,rfl⟩:=inQ_at hc
  obtain⟨a,c,bi,F1,hB,hcl,hq,kq⟩:=rqx_q hx hl
  obtain⟨F2,hm,_⟩:=rqx_map hx
  rw[rowQ_at hl]
  have hlk:=run_lookup mpT_Prio hm k true
  have e1:((g.1 k).map (Value.int .i64)).getD (.int .i64 0)=.int .i64 (whE_Runq x k).1:=by rw[<-(hi.wh k).1];cases g.1 k<;>rfl
  simp only[if_true,e1,(hi.wh k).2]at hlk
  refine⟨_,rfl,fun g=>by simp at g,fun _=>⟨_,rfl,_,hB.cell rfl,_,_,hlk,fun g1=>?_,fun g1=>⟨_,rfl,_,_,_,hB.cell rfl,⟨by omega,by omega⟩,a,rfl,_,hcl,⟨(ppush_ok hq p k).mono ?_⟩⟩⟩⟩
  ·rw[g1]
   exact⟨rfl,Turn.same h⟩
  ·rintro e w2 ⟨rfl,hT⟩
   rw[g1]
   have hT2:=kq _ _ hT
   have hno:∀j,memQ x j k=false:=by
    rcases whE_cases x k with⟨_,h2⟩|⟨j,_,h1,_⟩
    ·exact h2
    ·rw[h1]at g1;cases g1
   refine⟨_,rfl,fun g2=>?_,fun g2=>?_⟩
   ·have g2:=eq_of_beq g2
    obtain⟨F3,q1,q2,q3⟩:=hT2
    obtain⟨p3,c3,hB3⟩:=rqx_blk q1
    obtain⟨F4,hm3,k3⟩:=rqx_map q1
    obtain⟨w3,hr,ht⟩:=run_put mpT_Prio hm3 k (i:Int)
    refine⟨_,rfl,_,hB3.cell rfl,w3,hr,?_,?_⟩
    ·simp[g2]
    ·have T:=Turn.rq (Turn.glue (Upd.refl _ _) q2 q3 (k3 _ _ ht)) (hi.put hl g2 hno)
     rw[Int.toNat_natCast]
     simp only[Bool.false_eq_true,if_false,g2,if_true]
     exact T
   ·have g2:¬pqPushE x[i] p k=0:=ne_of_beq_false g2
    simp only[Bool.false_eq_true,if_false,if_neg g2]
    rw[pqPushS,if_neg g2,List.set_getElem_self]at hT2
    exact⟨by trivial,Turn.rq hT2 hi⟩
 ·simp only[if_neg hc]
  exact⟨_,rfl,fun _=>⟨rfl,Turn.same h⟩,fun g=>by simp at g⟩
theorem rqpick_ok (h:RqO b w F x) (c:Int):Calls Tryz.prog 224 #[.pointer (some ⟨b,0,none⟩),.int .i64 c] w fun e w'=>e=.returned (.tuple #[.int .i64 (rqPickE x c).1,.int .i64 (rqPickE x c).2])/\Turn (RqO b) w w' F (rqPickS x c):=by
 obtain⟨r,g,hx,hi⟩:=id h
 refine u224 ?_
 rw[t224]
 refine⟨(rqmay_ok hx c).mono ?_⟩
 rintro e w1 ⟨rfl,rfl⟩
 unfold rqPickS rqPickE
 by_cases hc:inQ x c
 ·simp only[if_pos hc]
  obtain⟨i,hl,rfl⟩:=inQ_at hc
  obtain⟨a,c,bi,F1,hB,hcl,hq,kq⟩:=rqx_q hx hl
  rw[rowQ_at hl]
  refine⟨_,rfl,fun g=>by simp at g,fun _=>⟨_,rfl,_,_,_,hB.cell rfl,⟨by omega,by omega⟩,a,rfl,_,hcl,⟨(topq_ok hq).mono ?_⟩⟩⟩
  rintro e w2 ⟨rfl,hU⟩
  refine⟨_,_,rfl,fun g1=>?_,fun g1=>?_⟩
  ·have g1:(topE x[i]).2≠0:=by simpa using g1
   have e1:(topE x[i])=(0,(topE x[i]).2):=by
    unfold topE at g1⊢
    cases hl0:listOf x[i].2 with
    | nil=>rfl
    | cons v t=>rw[hl0]at g1;simp at g1
   have e2:pqTurnS x[i]=x[i]:=by rw[pqTurnS,pqTurnE,if_neg g1]
   rw[e2,Int.toNat_natCast,List.set_getElem_self]
   refine⟨?_,Turn.quiet h hU⟩
   rw[e1]
  ·have g1:(topE x[i]).2=0:=by simpa using g1
   have hx2:=Frame.star.upd hx hU (fun _ _ h=>h)
   obtain⟨a2,c2,bi2,F2,hB2,hcl2,hq2,kq2⟩:=rqx_q hx2 hl
   refine⟨_,rfl,_,_,_,hB2.cell rfl,⟨by omega,by omega⟩,a2,rfl,_,hcl2,⟨(pturn_ok hq2).mono ?_⟩⟩
   rintro e w3 ⟨rfl,hT⟩
   rw[Int.toNat_natCast]
   refine⟨_,rfl,by rw[pqTurnE],Turn.rq (g:=g) (r:=r) (Turn.next hx2 hU.nn (fun _ h=>.inl h) (kq2 _ _ hT)) (hi.same hl (in_turn _) (most_turn _))⟩
 ·simp only[if_neg hc]
  exact⟨_,rfl,fun _=>⟨rfl,Turn.same h⟩,fun g=>by simp at g⟩
theorem rqof_ok (h:RqX b r w F (g,x)) (hi:RqI x g.1) (k:Int):Calls Tryz.prog 242 #[.pointer (some ⟨b,0,none⟩),.int .i64 k] w fun e w'=>w'=w/\((e=.returned (.tuple #[.pointer none,.int .i64 4])/\whE_Runq x k=(0,false))∨
  ∃i,∃hl:i<x.length,whE_Runq x k=((i:Int),true)/\memQ x i k=true/\∃a c bi F1 Fm,e=.returned (.tuple #[.pointer (some ⟨bi,0,none⟩),.int .i64 0])/\Blk w b (rqE r (some a) x.length c) 155/\PqO bi w F1 x[i]/\MapO r (Value.int .i64) w Fm g/\
   ∀w1 g',Turn (MapO r (Value.int .i64)) w w1 Fm g'->PqO bi w1 F1 x[i]/\∀w' s',Turn (PqO bi) w1 w' F1 s'->Turn (RqX b r) w w' F (g',x.set i s')):=by
 refine u242 ?_
 rw[t242]
 obtain⟨p,c1,hB⟩:=rqx_blk h
 obtain⟨F2,hm,_⟩:=rqx_map h
 have hlk:=run_lookup mpT_Prio hm k true
 have e1:((g.1 k).map (Value.int .i64)).getD (.int .i64 0)=.int .i64 (whE_Runq x k).1:=by rw[<-(hi.wh k).1];cases g.1 k<;>rfl
 simp only[if_true,e1,(hi.wh k).2]at hlk
 refine⟨fun g=>by simp at g,fun _=>⟨_,rfl,_,hB.cell rfl,_,_,hlk,fun g1=>?_,fun g1=>?_⟩⟩
 ·refine⟨rfl,.inl ⟨rfl,?_⟩⟩
  rcases whE_cases x k with⟨h1,_⟩|⟨j,_,h1,_⟩
  ·exact h1
  ·rw[h1]at g1;cases g1
 ·rcases whE_cases x k with⟨h1,_⟩|⟨i,hl,h1,h2⟩
  ·rw[h1]at g1;cases g1
  ·obtain⟨a,c,bi,F1,Fm,hB,hcl,hq,hm,kq⟩:=rqx_qm h hl
   rw[h1]
   exact⟨_,rfl,_,_,_,hB.cell rfl,⟨by simp only;omega,by simp only;omega⟩,a,rfl,_,hcl,rfl,.inr ⟨i,hl,rfl,h2,a,c,bi,F1,Fm,rfl,hB,hq,hm,kq⟩⟩
theorem rqback_ok (h:RqO b w F x) (k:Int):Calls Tryz.prog 132 #[.pointer (some ⟨b,0,none⟩),.int .i64 k] w fun e w'=>e=.returned (.int .i64 (rqBackE x k))/\Turn (RqO b) w w' F (rqBackS x k):=by
 obtain⟨r,g,hx,hi⟩:=id h
 refine u132 ?_
 rw[t132]
 refine⟨(rqof_ok hx hi k).mono ?_⟩
 unfold rqBackE rqBackS
 rintro e w1 ⟨rfl,⟨rfl,h1⟩|⟨i,hl,h1,h2,a,c,bi,F1,Fm,rfl,hB,hq,hm,kq⟩⟩
 ·rw[h1]
  exact⟨_,_,rfl,fun _=>⟨rfl,Turn.same h⟩,fun g=>by simp at g⟩
 ·rw[h1]
  refine⟨_,_,rfl,fun g=>by simp at g,fun _=>⟨(pback_ok hq k).mono ?_⟩⟩
  rintro e w2 ⟨rfl,hT⟩
  have hin:inE x[i] k=true:=by rw[<-memQ_at hl];exact h2
  simp only[if_true,Int.toNat_natCast,rowQ_at hl]
  exact⟨_,rfl,by rw[pqBackE,pqDropE,hin];rfl,Turn.rq ((kq _ _ (Turn.same hm)).2 _ _ hT) (hi.same hl (in_back _ _) (most_back _ _))⟩
theorem rqtake_ok (h:RqO b w F x) (k:Int):Calls Tryz.prog 237 #[.pointer (some ⟨b,0,none⟩),.int .i64 k] w fun e w'=>e=.returned (.int .i64 (rqTakeE x k))/\Turn (RqO b) w w' F (rqTakeS x k):=by
 obtain⟨r,g,hx,hi⟩:=id h
 refine u237 ?_
 rw[t237]
 refine⟨(rqof_ok hx hi k).mono ?_⟩
 unfold rqTakeE rqTakeS
 rintro e w1 ⟨rfl,⟨rfl,h1⟩|⟨i,hl,h1,h2,a,c,bi,F1,Fm,rfl,hB,hq,hm,kq⟩⟩
 ·rw[h1]
  exact⟨_,_,rfl,fun _=>⟨rfl,Turn.same h⟩,fun g=>by simp at g⟩
 ·rw[h1]
  have hin:inE x[i] k=true:=by rw[<-memQ_at hl];exact h2
  obtain⟨w2,hr,ht⟩:=run_del mpT_Prio hm k 3 0
  obtain⟨hq2,kq2⟩:=kq _ _ ht
  refine⟨_,_,rfl,fun g=>by simp at g,fun _=>⟨_,rfl,_,hB.cell rfl,w2,hr,⟨(pdrop_ok hq2 k).mono ?_⟩⟩⟩
  rintro e w3 ⟨rfl,hT⟩
  rw[hin,if_pos rfl]at hT
  simp only[if_true,Int.toNat_natCast,rowQ_at hl]
  exact⟨_,rfl,by rw[pqDropE,hin];rfl,Turn.rq (kq2 _ _ hT) (hi.take hl h2)⟩
end
def okRq (n:Int):Prop:=1<=n/\n<=64
theorem RqI.new {n:Nat} (h:1<=n/\n<=64):RqI (List.replicate n (32,[])) (fun _=>none):=by
 refine⟨fun k v=>?_,fun q hq=>?_,by simpa using h⟩
 ·constructor
  ·intro h;cases h
  ·rintro⟨i,_,hi⟩
   have hl:=memQ_lt hi
   rw[memQ_at hl]at hi
   simp at hi
   cases hi
 ·have:=List.eq_of_mem_replicate hq
  rw[this]
theorem rqnew_ok (n:Int) (w:World):Calls Tryz.prog 36 #[.int .i64 n] w fun e w'=>
  (¬okRq n/\e=.returned (.tuple #[.pointer none,.int .i64 2])/\w'=w)∨
  (okRq n/\∃b F,e=.returned (.tuple #[.pointer (some ⟨b,0,none⟩),.int .i64 0])/\RqO b w' F (List.replicate n.toNat (32,[]))/\Upd no w w'/\∀i,F i->w.heap.size<=i):=by
 refine u36 ?_
 rw[t36]
 unfold okRq
 refine⟨fun h1=>⟨fun h2=>.inl ⟨?_,rfl,rfl⟩,fun h2=>⟨fun w1 hN1=>⟨fun w2 hN2=>?_⟩⟩⟩,fun h1=>.inl ⟨?_,rfl,rfl⟩⟩
 ·simp at h2;omega
 ·have h1:¬n<1:=by simpa using h1
  have h2:¬64<n:=by simpa using h2
  obtain⟨m,rfl⟩:∃m:Nat,n=m:=⟨n.toNat,by omega⟩
  have hM:Mine w w1 (MapO w.heap.size (Value.int .i64)) (fun _=>none,0):=Mine.new (Upd.refl _ _) (hN1.upd no) (MapO.new hN1) (fun i hi=>Nat.le_of_eq hi.symm)
  obtain⟨r,hr⟩:∃r,w.heap.size=r:=⟨_,rfl⟩
  rw[hr]at hM hN2
  replace hM:Mine w w2 (RqX w1.heap.size r) ((fun _=>none,0),[]):=hM.add (hN2.upd no) (Tq.nil hN2 rfl) (fun i hi=>Nat.le_of_eq hi.symm)
  generalize w1.heap.size=b at hM⊢
  clear hN1 hN2
  refine⟨WP_loop okProg (M:=M36) (σ:=Nat) (fun j=>e36_1 (some ⟨b,0,none⟩) (m:Int) (j:Int)) (fun j w'=>j<=m/\Mine w w' (RqX b r) ((fun _=>none,0),List.replicate j (32,[]))) (fun j _=>m-j) 0 ⟨rfl,rfl,rfl,trivial⟩ ⟨by omega,hM⟩ ?_⟩
  clear hM
  rintro j w3 ⟨j1,hM⟩
  rw[t36_1]
  refine⟨fun g=>?_,fun g=>?_⟩
  ·have hj:j<m:=by simp at g;omega
   obtain⟨F2,hA,hT⟩:=hM.right
   refine⟨(pnew_ok 32 w3).mono ?_⟩
   rintro e w4 hh
   obtain⟨_,bq,G,rfl,hQ,hU,hG⟩:=hh.resolve_left (fun h=>absurd (by unfold okP9;decide) h.1)
   obtain⟨p,c,hB,hput⟩:=Tq.push elPq (k:=0) (fun p n c p' n' c'=>rfl) (fun _ _ _=>by simp[rqE]) hA (by simp;omega) (s:=(32,[])) hU hQ hG
   refine⟨_,_,rfl,fun g=>by simp at g,fun _=>⟨_,rfl,_,_,_,hB.cell rfl,⟨fun w5 hN=>?_⟩⟩⟩
   obtain⟨p',c',w6,hr,hW⟩:=hput w5 hN 153
   refine⟨p',_,c',w6,hr,_,rfl,hW _ fun w7 hT7=>?_⟩
   refine⟨j+1,⟨rfl,rfl,by rw[w64 (by omega)];rfl,trivial⟩,⟨by omega,?_⟩,by omega⟩
   have:=hT _ _ hT7
   rw[List.replicate_succ']
   exact this
  ·have:j=m:=by simp at g;omega
   subst this
   obtain⟨F,hF1,hF2,hF3⟩:=hM
   exact .inr ⟨by omega,b,F,rfl,⟨r,_,hF1,RqI.new (by omega)⟩,hF2,hF3⟩
 ·simp at h1;omega
end Go.Dav
namespace Go.Dav
open Go.Proofs
theorem put_len (x:RS) (c p k:Int):(rqPutS x c p k).length=x.length:=by unfold rqPutS;split<;>simp
end Go.Dav
namespace Go.Dav
def stepB (ld:Int->Int) (gt:Int->Int->Bool) (o:Option Int) (c:Int):Option Int:=match o with
 | none=>some c
 | some a=>if gt (ld c) (ld a)then some c else some a
def bestF (ld:Int->Int) (gt:Int->Int->Bool) (l:List Int):Option Int:=l.foldl (stepB ld gt) none
theorem bestF_snoc (ld:Int->Int) (gt:Int->Int->Bool) (l:List Int) (c:Int):bestF ld gt (l++[c])=stepB ld gt (bestF ld gt l) c:=by
 unfold bestF
 rw[List.foldl_append]
 rfl
theorem bestF_in (ld:Int->Int) (gt:Int->Int->Bool) (l:List Int):(bestF ld gt l=none/\l=[])∨∃a∈l,bestF ld gt l=some a:=by
 have h:∀(l:List Int) (o:Option Int),(l.foldl (stepB ld gt) o=none/\l=[])∨∃a,(a∈l∨o=some a)/\l.foldl (stepB ld gt) o=some a:=by
  intro l
  induction l with
  | nil=>intro o;cases o with
   | none=>exact .inl ⟨rfl,rfl⟩
   | some a=>exact .inr ⟨a,.inr rfl,rfl⟩
  | cons c l ih=>
   intro o
   right
   rw[List.foldl_cons]
   rcases ih (stepB ld gt o c)with⟨k1,k2⟩|⟨a,k1,k2⟩
   ·subst k2
    exfalso
    simp only[List.foldl_nil]at k1
    unfold stepB at k1
    split at k1
    ·cases k1
    ·split at k1<;>cases k1
   ·refine⟨a,?_,k2⟩
    rcases k1 with k1|k1
    ·exact .inl (List.mem_cons_of_mem _ k1)
    ·unfold stepB at k1
     split at k1
     ·exact .inl (by have:=Option.some.inj k1;rw[this];exact List.mem_cons_self)
     ·split at k1
      ·exact .inl (by have:=Option.some.inj k1;rw[this];exact List.mem_cons_self)
      ·exact .inr k1
 rcases h l none with⟨k1,k2⟩|⟨a,k1,k2⟩
 ·exact .inl ⟨k1,k2⟩
 ·exact .inr ⟨a,k1.resolve_right (by simp),k2⟩
def bestQ (ld:Int->Int) (gt:Int->Int->Bool) (l:List Int):Int×Int:=match bestF ld gt l with
 | none=>(0,12)
 | some a=>(a,0)
def gtB (a b:Int):Bool:=decide (a>b)
def ltB (a b:Int):Bool:=decide (a<b)
theorem bestF_gt {ld:Int->Int} {l:List Int} {a:Int} (h:bestF ld gtB l=some a):∀c∈l,ld c<=ld a:=by
 have hg:∀(l:List Int) (o:Option Int) (a:Int),l.foldl (stepB ld gtB) o=some a->(∀c∈l,ld c<=ld a)/\∀b,o=some b->ld b<=ld a:=by
  intro l
  induction l with
  | nil=>
   intro o a h
   simp only[List.foldl_nil]at h
   subst h
   exact⟨fun _ h=>(by cases h),fun b hb=>by cases hb;exact Int.le_refl _⟩
  | cons c l ih=>
   intro o a h
   rw[List.foldl_cons]at h
   obtain⟨k1,k2⟩:=ih _ _ h
   have hc:ld c<=ld a/\∀b,o=some b->ld b<=ld a:=by
    unfold stepB at k2
    cases o with
    | none=>exact⟨k2 c rfl,fun b hb=>by cases hb⟩
    | some b=>
     simp only at k2
     by_cases hgt:gtB (ld c) (ld b)=true
     ·rw[if_pos hgt]at k2
      have h1:=k2 c rfl
      have h2:=of_decide_eq_true hgt
      exact⟨h1,fun b' hb=>by cases hb;omega⟩
     ·rw[if_neg hgt]at k2
      have h1:=k2 b rfl
      have h2:¬ld c>ld b:=fun h=>hgt (decide_eq_true h)
      exact⟨by omega,fun b' hb=>by cases hb;exact h1⟩
   exact⟨fun d hd=>(List.mem_cons.1 hd).elim (fun e=>e ▸ hc.1) (k1 d),hc.2⟩
 exact(hg l none a h).1
theorem bestF_lt {ld:Int->Int} {l:List Int} {a:Int} (h:bestF ld ltB l=some a):∀c∈l,ld a<=ld c:=by
 have hg:∀(l:List Int) (o:Option Int) (a:Int),l.foldl (stepB ld ltB) o=some a->(∀c∈l,ld a<=ld c)/\∀b,o=some b->ld a<=ld b:=by
  intro l
  induction l with
  | nil=>
   intro o a h
   simp only[List.foldl_nil]at h
   subst h
   exact⟨fun _ h=>(by cases h),fun b hb=>by cases hb;exact Int.le_refl _⟩
  | cons c l ih=>
   intro o a h
   rw[List.foldl_cons]at h
   obtain⟨k1,k2⟩:=ih _ _ h
   have hc:ld a<=ld c/\∀b,o=some b->ld a<=ld b:=by
    unfold stepB at k2
    cases o with
    | none=>exact⟨k2 c rfl,fun b hb=>by cases hb⟩
    | some b=>
     simp only at k2
     by_cases hgt:ltB (ld c) (ld b)=true
     ·rw[if_pos hgt]at k2
      have h1:=k2 c rfl
      have h2:=of_decide_eq_true hgt
      exact⟨h1,fun b' hb=>by cases hb;omega⟩
     ·rw[if_neg hgt]at k2
      have h1:=k2 b rfl
      have h2:¬ld c<ld b:=fun h=>hgt (decide_eq_true h)
      exact⟨by omega,fun b' hb=>by cases hb;exact h1⟩
   exact⟨fun d hd=>(List.mem_cons.1 hd).elim (fun e=>e ▸ hc.1) (k1 d),hc.2⟩
 exact(hg l none a h).1
end Go.Dav
namespace Go.Dav
open Go.Proofs
theorem cs_low_of (m:BV) {n:Nat} (hn:n<=64):cs (m&&& upM n)=upto (hs m) n:=by
 have h:∀k,k<=64->upto (hs (m&&& upM n)) k=upto (hs m) (min k n):=by
  intro k
  induction k with
  | zero=>intro _;rw[Nat.zero_min];rfl
  | succ k ih=>
   intro hk
   rw[upto_succ,ih (by omega),hs_and,hs_upM]
   by_cases hkn:k<n
   ·rw[Nat.min_eq_left (by omega),Nat.min_eq_left (by omega),upto_succ]
    have e1:decide (0<=(k:Int)/\(k:Int)<64)=true:=by simp;omega
    have e2:decide ((k:Int)<(n:Int))=true:=by simp;omega
    rw[e1,e2,Bool.and_self,Bool.and_true]
   ·rw[Nat.min_eq_right (by omega),Nat.min_eq_right (by omega)]
    have e2:decide ((k:Int)<(n:Int))=false:=by simp;omega
    rw[e2,Bool.and_false,Bool.and_false]
    rfl
 have:=h 64 (Nat.le_refl _)
 rw[Nat.min_eq_right hn]at this
 exact this
section
variable {b:Nat} {w:World} {F:Fp} {x:RS}
theorem more_ok (u v:Int) (w:World):Calls Tryz.prog 336 #[.int .i64 u,.int .i64 v] w fun e w'=>e=.returned (.bool (gtB u v))/\w'=w:=by
 refine u336 ?_
 rw[t336]
 exact⟨rfl,rfl⟩
theorem less_ok (u v:Int) (w:World):Calls Tryz.prog 337 #[.int .i64 u,.int .i64 v] w fun e w'=>e=.returned (.bool (ltB u v))/\w'=w:=by
 refine u337 ?_
 rw[t337]
 exact⟨rfl,rfl⟩
theorem rqbest1_ok (h:RqO b w F x) (hTab:Tab w) (m:BV):Calls Tryz.prog 335 #[.pointer (some ⟨b,0,none⟩),.int .u64 (mi m),.func (.func 336) #[] #[]] w fun e w'=>e=.returned (.tuple #[.int .i64 (bestQ (rqLoadE x) gtB (upto (hs m) x.length)).1,.int .i64 (bestQ (rqLoadE x) gtB (upto (hs m) x.length)).2])/\Upd no w w':=by
 obtain⟨r,g,hx,hi⟩:=id h
 obtain⟨p,c,hB⟩:=rqx_blk hx
 refine u335 ?_
 rw[t335]
 refine⟨fun g=>by simp at g,fun _=>⟨_,rfl,_,_,_,hB.cell rfl,⟨(mUpto_ok _ w).mono ?_⟩⟩⟩
 rintro e w1 ⟨rfl,rfl⟩
 refine⟨_,rfl,⟨(mAnd_ok m _ w1).mono ?_⟩⟩
 rintro e w1 ⟨rfl,rfl⟩
 refine⟨_,rfl,⟨(mList_ok _ hTab).mono ?_⟩⟩
 rw[cs_low_of m hi.cpus.2]
 have hlt:(upto (hs m) x.length).length<=x.length:=upto_length _ _
 have hcp:=hi.cpus
 generalize upto (hs m) x.length=l at hlt⊢
 rintro e w2 ⟨p2,c2,rfl,hL⟩
 have h2:RqO b w2 F x:=(Frame.rq b).upd h hL.U (fun _ _ h=>h)
 have hC:=hL.S.cells
 have hU:=hL.U
 clear hL
 cases l with
 | nil=>exact⟨_,_,_,rfl,fun _=>⟨rfl,hU⟩,fun g=>by simp at g⟩
 | cons v t=>
  refine⟨_,_,_,rfl,fun g=>by simp at g;omega,fun _=>⟨⟨by omega,by simp⟩,?_⟩⟩
  obtain⟨a,ha,hc⟩:=hC.at1 (i:=0) (by simp)
  refine⟨a,ha,_,hc,?_⟩
  have hlc:(v::t).length=t.length+1:=rfl
  refine⟨WP_loop okProg (M:=M335) (σ:=Nat) (fun j=>e335_1 (some ⟨b,0,none⟩) ((bestF (rqLoadE x) gtB ((v::t).take j)).getD v) p2 (v::t).length c2 ((v::t).length:Int) (j:Int)) (fun j w'=>j<=(v::t).length/\w'=w2) (fun j _=>(v::t).length-j) 0 ⟨rfl,rfl,rfl,rfl,rfl,rfl,trivial⟩ ⟨by omega,rfl⟩ ?_⟩
  rintro j w3 ⟨j1,rfl⟩
  rw[t335_1]
  refine⟨fun g=>?_,fun g=>?_⟩
  ·have hj:j<(v::t).length:=by simp at g⊢;omega
   obtain⟨a,ha,hc⟩:=hC.at1 hj
   refine⟨⟨by omega,by omega⟩,a,ha,_,hc,⟨(rqload_ok h2 _).mono ?_⟩⟩
   rintro e w4 ⟨rfl,rfl⟩
   refine⟨_,rfl,⟨(rqload_ok h2 _).mono ?_⟩⟩
   rintro e w4 ⟨rfl,rfl⟩
   refine⟨_,rfl,⟨(more_ok _ _ _).mono ?_⟩⟩
   rintro e w4 ⟨rfl,rfl⟩
   have hs1:=bestF_snoc (rqLoadE x) gtB ((v::t).take j) (v::t)[j]
   rw[<-List.take_succ_eq_append_getElem hj]at hs1
   have hstep:((bestF (rqLoadE x) gtB ((v::t).take (j+1))).getD v)=if gtB (rqLoadE x (v::t)[j]) (rqLoadE x ((bestF (rqLoadE x) gtB ((v::t).take j)).getD v))then(v::t)[j]else((bestF (rqLoadE x) gtB ((v::t).take j)).getD v):=by
    rw[hs1]
    rcases bestF_in (rqLoadE x) gtB ((v::t).take j)with⟨k1,k2⟩|⟨a,_,k1⟩
    ·have hj0:j=0:=by
      cases j with
      | zero=>rfl
      | succ j=>simp at k2
     subst hj0
     rw[k1]
     simp[stepB]
    ·rw[k1]
     unfold stepB
     simp only[Option.getD_some]
     split<;>rfl
   refine⟨_,rfl,fun g1=>⟨j+1,⟨rfl,rfl,by rw[hstep,if_pos g1];rfl,rfl,rfl,by rw[w64 (by omega)];rfl,trivial⟩,⟨by omega,rfl⟩,by omega⟩,fun g1=>⟨j+1,⟨rfl,rfl,by rw[hstep,if_neg (by simp[g1])];rfl,rfl,rfl,by rw[w64 (by omega)];rfl,trivial⟩,⟨by omega,rfl⟩,by omega⟩⟩
  ·have:j=(v::t).length:=by simp at g⊢;omega
   subst this
   rw[List.take_length]
   unfold bestQ
   rcases bestF_in (rqLoadE x) gtB (v::t)with⟨_,k2⟩|⟨a,_,k1⟩
   ·cases k2
   ·rw[k1]
    exact⟨rfl,hU⟩
theorem rqbusy_ok (h:RqO b w F x) (hTab:Tab w) (m:BV):Calls Tryz.prog 267 #[.pointer (some ⟨b,0,none⟩),.int .u64 (mi m)] w fun e w'=>e=.returned (.tuple #[.int .i64 (bestQ (rqLoadE x) gtB (upto (hs m) x.length)).1,.int .i64 (bestQ (rqLoadE x) gtB (upto (hs m) x.length)).2])/\Upd no w w':=by
 refine u267 ?_
 rw[t267]
 refine⟨(rqbest1_ok h hTab m).mono ?_⟩
 rintro e w1 ⟨rfl,hU⟩
 exact⟨_,_,rfl,rfl,hU⟩
theorem rqbest2_ok (h:RqO b w F x) (hTab:Tab w) (m:BV):Calls Tryz.prog 335 #[.pointer (some ⟨b,0,none⟩),.int .u64 (mi m),.func (.func 337) #[] #[]] w fun e w'=>e=.returned (.tuple #[.int .i64 (bestQ (rqLoadE x) ltB (upto (hs m) x.length)).1,.int .i64 (bestQ (rqLoadE x) ltB (upto (hs m) x.length)).2])/\Upd no w w':=by
 obtain⟨r,g,hx,hi⟩:=id h
 obtain⟨p,c,hB⟩:=rqx_blk hx
 refine Fn2.u335 ?_
 rw[Fn2.t335]
 refine⟨fun g=>by simp at g,fun _=>⟨_,rfl,_,_,_,hB.cell rfl,⟨(mUpto_ok _ w).mono ?_⟩⟩⟩
 rintro e w1 ⟨rfl,rfl⟩
 refine⟨_,rfl,⟨(mAnd_ok m _ w1).mono ?_⟩⟩
 rintro e w1 ⟨rfl,rfl⟩
 refine⟨_,rfl,⟨(mList_ok _ hTab).mono ?_⟩⟩
 rw[cs_low_of m hi.cpus.2]
 have hlt:(upto (hs m) x.length).length<=x.length:=upto_length _ _
 have hcp:=hi.cpus
 generalize upto (hs m) x.length=l at hlt⊢
 rintro e w2 ⟨p2,c2,rfl,hL⟩
 have h2:RqO b w2 F x:=(Frame.rq b).upd h hL.U (fun _ _ h=>h)
 have hC:=hL.S.cells
 have hU:=hL.U
 clear hL
 cases l with
 | nil=>exact⟨_,_,_,rfl,fun _=>⟨rfl,hU⟩,fun g=>by simp at g⟩
 | cons v t=>
  refine⟨_,_,_,rfl,fun g=>by simp at g;omega,fun _=>⟨⟨by omega,by simp⟩,?_⟩⟩
  obtain⟨a,ha,hc⟩:=hC.at1 (i:=0) (by simp)
  refine⟨a,ha,_,hc,?_⟩
  have hlc:(v::t).length=t.length+1:=rfl
  refine⟨WP_loop okProg (M:=Fn2.M335) (σ:=Nat) (fun j=>Fn2.e335_1 (some ⟨b,0,none⟩) ((bestF (rqLoadE x) ltB ((v::t).take j)).getD v) p2 (v::t).length c2 ((v::t).length:Int) (j:Int)) (fun j w'=>j<=(v::t).length/\w'=w2) (fun j _=>(v::t).length-j) 0 ⟨rfl,rfl,rfl,rfl,rfl,rfl,trivial⟩ ⟨by omega,rfl⟩ ?_⟩
  rintro j w3 ⟨j1,rfl⟩
  rw[Fn2.t335_1]
  refine⟨fun g=>?_,fun g=>?_⟩
  ·have hj:j<(v::t).length:=by simp at g⊢;omega
   obtain⟨a,ha,hc⟩:=hC.at1 hj
   refine⟨⟨by omega,by omega⟩,a,ha,_,hc,⟨(rqload_ok h2 _).mono ?_⟩⟩
   rintro e w4 ⟨rfl,rfl⟩
   refine⟨_,rfl,⟨(rqload_ok h2 _).mono ?_⟩⟩
   rintro e w4 ⟨rfl,rfl⟩
   refine⟨_,rfl,⟨(less_ok _ _ _).mono ?_⟩⟩
   rintro e w4 ⟨rfl,rfl⟩
   have hs1:=bestF_snoc (rqLoadE x) ltB ((v::t).take j) (v::t)[j]
   rw[<-List.take_succ_eq_append_getElem hj]at hs1
   have hstep:((bestF (rqLoadE x) ltB ((v::t).take (j+1))).getD v)=if ltB (rqLoadE x (v::t)[j]) (rqLoadE x ((bestF (rqLoadE x) ltB ((v::t).take j)).getD v))then(v::t)[j]else((bestF (rqLoadE x) ltB ((v::t).take j)).getD v):=by
    rw[hs1]
    rcases bestF_in (rqLoadE x) ltB ((v::t).take j)with⟨k1,k2⟩|⟨a,_,k1⟩
    ·have hj0:j=0:=by
      cases j with
      | zero=>rfl
      | succ j=>simp at k2
     subst hj0
     rw[k1]
     simp[stepB]
    ·rw[k1]
     unfold stepB
     simp only[Option.getD_some]
     split<;>rfl
   refine⟨_,rfl,fun g1=>⟨j+1,⟨rfl,rfl,by rw[hstep,if_pos g1];rfl,rfl,rfl,by rw[w64 (by omega)];rfl,trivial⟩,⟨by omega,rfl⟩,by omega⟩,fun g1=>⟨j+1,⟨rfl,rfl,by rw[hstep,if_neg (by simp[g1])];rfl,rfl,rfl,by rw[w64 (by omega)];rfl,trivial⟩,⟨by omega,rfl⟩,by omega⟩⟩
  ·have:j=(v::t).length:=by simp at g⊢;omega
   subst this
   rw[List.take_length]
   unfold bestQ
   rcases bestF_in (rqLoadE x) ltB (v::t)with⟨_,k2⟩|⟨a,_,k1⟩
   ·cases k2
   ·rw[k1]
    exact⟨rfl,hU⟩
theorem rqidle_ok (h:RqO b w F x) (hTab:Tab w) (m:BV):Calls Tryz.prog 268 #[.pointer (some ⟨b,0,none⟩),.int .u64 (mi m)] w fun e w'=>e=.returned (.tuple #[.int .i64 (bestQ (rqLoadE x) ltB (upto (hs m) x.length)).1,.int .i64 (bestQ (rqLoadE x) ltB (upto (hs m) x.length)).2])/\Upd no w w':=by
 refine u268 ?_
 rw[t268]
 refine⟨(rqbest2_ok h hTab m).mono ?_⟩
 rintro e w1 ⟨rfl,hU⟩
 exact⟨_,_,rfl,rfl,hU⟩
end
end Go.Dav
namespace Go.Dav
open Go.Proofs
abbrev Iq:=Bool×Bool×Bool×BV
def iqE (x:Iq):List Value:=[.bool x.1,.bool x.2.1,.bool x.2.2.1,.int .u64 (mi x.2.2.2)]
theorem iqE_len (x:Iq):(iqE x).length=4:=rfl
def i0:Iq:=(false,false,false,0)
abbrev IrS:=Int×List Iq
def irE (s:IrS):List Value:=s.2.flatMap iqE++[.int .u64 (mi (upM s.1))]
def IrO (b:Nat):Ob IrS:=fun w F s=>Rw b 201 irE w F s/\s.2.length=16
instance Frame.ir (b:Nat):Frame (IrO b) where
 upd:=fun⟨h,r⟩ k hG=>⟨(Frame.rw ..).upd h k hG,r⟩
 lt:=fun⟨h,_⟩=>(Frame.rw ..).lt h
def nout_Irq (n:Int):Prop:=n<0∨16<=n
instance (n:Int):Decidable (nout_Irq n):=inferInstanceAs (Decidable (_∨_))
def gq (s:IrS) (n:Int):Iq:=s.2.getD n.toNat i0
def iput (s:IrS) (n:Int) (q:Iq):IrS:=(s.1,s.2.set n.toNat q)
def wantE (s:IrS) (n:Int):Int:=if nout_Irq n then 3 else if(gq s n).1=true then 0 else 4
def reqE (s:IrS) (n:Int) (m:BV):Int:=if nout_Irq n then 3 else if(gq s n).1=true then 6 else if rightR s.1 m=true then 0 else 2
def reqS (s:IrS) (n:Int) (m:BV):IrS:=if reqE s n m=0 then iput s n (true,false,false,m)else s
def freeS (s:IrS) (n:Int):IrS:=if wantE s n=0 then iput s n i0 else s
def aimE (s:IrS) (n:Int) (m:BV):Int:=if wantE s n=0 then(if rightR s.1 m=true then 0 else 2)else wantE s n
def aimS (s:IrS) (n:Int) (m:BV):IrS:=if aimE s n m=0 then iput s n ((gq s n).1,(gq s n).2.1,(gq s n).2.2.1,m)else s
def hushE (s:IrS) (n:Int) (b:Bool):Int:=if wantE s n=0 then(if(gq s n).2.1=b then 6 else 0)else wantE s n
def hushS (s:IrS) (n:Int) (b:Bool):IrS:=if hushE s n b=0 then iput s n ((gq s n).1,b,(gq s n).2.2.1,(gq s n).2.2.2)else s
def raiseS (s:IrS) (n:Int):IrS:=if wantE s n=0 then iput s n ((gq s n).1,(gq s n).2.1,true,(gq s n).2.2.2)else s
def readyE (s:IrS) (n:Int):Bool:=decide (wantE s n=0)&&(gq s n).2.2.1&&!(gq s n).2.1
def clearE (s:IrS) (n:Int):Int:=if wantE s n=0 then(if readyE s n=true then 0 else 12)else wantE s n
def clearS (s:IrS) (n:Int):IrS:=if clearE s n=0 then iput s n ((gq s n).1,(gq s n).2.1,false,(gq s n).2.2.2)else s
def listP (s:IrS) (i:Int):Bool:=(gq s i).1
def listL (s:IrS):List Int:=upto (listP s) 16
def ia (b:Nat) (k:Nat):Addr:=((⟨b,0,none⟩:Addr).add 0).add (k*4)
section
variable {w:World} {F:Fp} {b:Nat} {s:IrS}
theorem gq_get (h:s.2.length=16) {k:Nat} (hk:k<16):gq s (k:Int)=s.2[k]'(by omega):=by
 unfold gq
 simp[List.getD_eq_getElem?_getD,h,hk]
theorem ir_len (h:s.2.length=16):(s.2.flatMap iqE).length=64:=by rw[flat_len iqE_len,h]
theorem IrO.cell (h:IrO b w F s) {k j:Nat} (hk:k<16) {v:Value} (hv:(iqE (gq s (k:Int)))[j]?=some v):w.cell? ((ia b k).add j)=some v:=by
 unfold ia
 rw[Addr.add_add,Addr.add_add]
 refine h.1.blk.cell ?_
 rw[gq_get h.2 hk]at hv
 have hj:j<4:=by have:=(List.getElem?_eq_some_iff.1 hv).1;rwa [iqE_len]at this
 rw[irE,Nat.zero_add,List.getElem?_append_left (by rw[ir_len h.2];omega)]
 exact flat_at iqE_len (by rw[h.2];exact hk) hv
theorem IrO.cpus (h:IrO b w F s):w.cell? ((⟨b,0,none⟩:Addr).add 64)=some (.int .u64 (mi (upM s.1))):=by
 refine h.1.blk.cell ?_
 rw[irE,List.getElem?_append_right (by rw[ir_len h.2];omega),ir_len h.2]
 rfl
theorem IrO.wr (h:IrO b w F s) {k j:Nat} (hk:k<16) {vs:List Value} {q:Iq} (hj:j+vs.length<=4) (hq:iqE q=setL (iqE (gq s (k:Int))) j vs) {K:World->Prop} (hK:∀w',Turn (IrO b) w w' F (iput s (k:Int) q)->K w') :
  Wr w ((ia b k).add j) vs K:=by
 unfold ia
 rw[Addr.add_add,Addr.add_add,Nat.zero_add]
 rw[gq_get h.2 hk]at hq
 refine h.1.blk.wr (by rw[irE,List.length_append,ir_len h.2];simp;omega) (fun w' hW=>hK w' ?_)
 have hb:=hW.blk'
 rw[irE,setL_app (by rw[ir_len h.2];omega),setL_flat iqE_len (by rw[h.2];exact hk) hj hq]at hb
 obtain⟨F',k1,k2⟩:=h.1.turned (s':=iput s (k:Int) q) hW.U hb
 exact⟨F',⟨k1,by simp[iput,h.2]⟩,k2⟩
theorem ia_zero (b k:Nat):(ia b k).add 0=ia b k:=by unfold ia;rw[Addr.add_add];rfl
theorem IrO.wr0 (h:IrO b w F s) {k:Nat} (hk:k<16) {q:Iq} {vs:List Value} (hq:vs=iqE q) {K:World->Prop} (hK:∀w',Turn (IrO b) w w' F (iput s (k:Int) q)->K w'):Wr w (ia b k) vs K:=by
 subst hq
 rw[<-ia_zero]
 exact h.wr hk (by rw[iqE_len];omega) (by simp[setL,iqE]) hK
theorem find_ok_Irq (b:Nat) (n:Int) (w:World):Calls Tryz.prog 246 #[.pointer (some ⟨b,0,none⟩),.int .i64 n] w fun e w'=>
  ((nout_Irq n/\e=.returned (.tuple #[.pointer none,.int .i64 3]))∨(¬nout_Irq n/\∃k:Nat,n=k/\k<16/\e=.returned (.tuple #[.pointer (some (ia b k)),.int .i64 0])))/\w'=w:=by
 refine u246 ?_
 rw[t246]
 refine⟨fun h=>by simp at h,fun _=>⟨fun h1=>⟨fun h2=>⟨.inl ⟨?_,rfl⟩,rfl⟩,fun h2=>⟨_,rfl,⟨?_,?_⟩,.inr ⟨?_,n.toNat,?_,?_,rfl⟩,rfl⟩⟩,fun h1=>⟨.inl ⟨?_,rfl⟩,rfl⟩⟩⟩<;>(first|(simp at h1 h2;unfold nout_Irq;omega)|(simp at h1 h2;omega)|(simp at h1;unfold nout_Irq;omega))
theorem wanted_ok (h:IrO b w F s) (n:Int):Calls Tryz.prog 250 #[.pointer (some ⟨b,0,none⟩),.int .i64 n] w fun e w'=>
  ((wantE s n≠0/\e=.returned (.tuple #[.pointer none,.int .i64 (wantE s n)]))∨(wantE s n=0/\∃k:Nat,n=k/\k<16/\e=.returned (.tuple #[.pointer (some (ia b k)),.int .i64 0])))/\w'=w:=by
 refine u250 ?_
 rw[t250]
 refine⟨(find_ok_Irq b n w).mono ?_⟩
 rintro e w' ⟨hh,rfl⟩
 rcases hh with⟨hn,rfl⟩|⟨hn,k,rfl,hk,rfl⟩
 ·have e1:wantE s n=3:=by simp[wantE,hn]
  exact⟨_,_,rfl,fun g=>by simp at g,fun _=>⟨.inl ⟨by omega,by rw[e1]⟩,rfl⟩⟩
 ·refine⟨_,_,rfl,fun _=>⟨_,rfl,_,h.cell hk rfl,fun g=>⟨.inl ?_,rfl⟩,fun g=>⟨.inr ⟨?_,k,rfl,hk,rfl⟩,rfl⟩⟩,fun g=>by simp at g⟩
  ·have e1:wantE s k=4:=by rw[wantE,if_neg hn,if_neg (by simpa using g)]
   exact⟨by omega,by rw[e1]⟩
  ·rw[wantE,if_neg hn,if_pos (by simpa using g)]
theorem iright_ok (h:IrO b w F s) (m:BV):Calls Tryz.prog 247 #[.pointer (some ⟨b,0,none⟩),.int .u64 (mi m)] w fun e w'=>e=.returned (.bool (rightR s.1 m))/\w'=w:=by
 refine u247 ?_
 rw[t247,mi_bne0]
 refine⟨fun g=>⟨_,rfl,_,h.cpus,⟨(mWithin_ok _ _ w).mono ?_⟩⟩,fun g=>⟨by rw[rightR,g,Bool.false_and],rfl⟩⟩
 rintro e w' ⟨rfl,rfl⟩
 exact⟨_,rfl,by rw[rightR,g,Bool.true_and],rfl⟩
theorem raise_ok (h:IrO b w F s) (n:Int):Calls Tryz.prog 147 #[.pointer (some ⟨b,0,none⟩),.int .i64 n] w fun e w'=>e=.returned (.int .i64 (wantE s n))/\Turn (IrO b) w w' F (raiseS s n):=by
 refine u147 ?_
 rw[t147]
 refine⟨(wanted_ok h n).mono ?_⟩
 rintro e w' ⟨⟨hn,rfl⟩|⟨hn,k,rfl,hk,rfl⟩,rfl⟩
 ·rw[raiseS,if_neg hn]
  exact⟨_,_,rfl,fun g=>absurd (by simpa using g) hn,fun _=>⟨rfl,Turn.same h⟩⟩
 ·rw[raiseS,if_pos hn,hn]
  exact⟨_,_,rfl,fun _=>⟨_,rfl,h.wr hk (by simp) rfl fun w1 hT=>⟨rfl,hT⟩⟩,fun g=>by simp at g⟩
theorem free_ok_Irq (h:IrO b w F s) (n:Int):Calls Tryz.prog 139 #[.pointer (some ⟨b,0,none⟩),.int .i64 n] w fun e w'=>e=.returned (.int .i64 (wantE s n))/\Turn (IrO b) w w' F (freeS s n):=by
 refine u139 ?_
 rw[t139]
 refine⟨(wanted_ok h n).mono ?_⟩
 rintro e w' ⟨⟨hn,rfl⟩|⟨hn,k,rfl,hk,rfl⟩,rfl⟩
 ·rw[freeS,if_neg hn]
  exact⟨_,_,rfl,fun g=>absurd (by simpa using g) hn,fun _=>⟨rfl,Turn.same h⟩⟩
 ·rw[freeS,if_pos hn,hn]
  exact⟨_,_,rfl,fun _=>⟨_,rfl,h.wr0 (q:=i0) hk rfl fun w1 hT=>⟨rfl,hT⟩⟩,fun g=>by simp at g⟩
theorem aim_ok_Irq (h:IrO b w F s) (n:Int) (m:BV):Calls Tryz.prog 142 #[.pointer (some ⟨b,0,none⟩),.int .i64 n,.int .u64 (mi m)] w fun e w'=>e=.returned (.int .i64 (aimE s n m))/\Turn (IrO b) w w' F (aimS s n m):=by
 refine u142 ?_
 rw[t142]
 refine⟨(wanted_ok h n).mono ?_⟩
 rintro e w' ⟨⟨hn,rfl⟩|⟨hn,k,rfl,hk,rfl⟩,rfl⟩
 ·have e1:aimE s n m=wantE s n:=by rw[aimE,if_neg hn]
  rw[aimS,e1,if_neg hn]
  exact⟨_,_,rfl,fun _=>⟨rfl,Turn.same h⟩,fun g=>absurd (by simpa using g) hn⟩
 ·refine⟨_,_,rfl,fun g=>by simp at g,fun _=>⟨(iright_ok h m).mono ?_⟩⟩
  rintro e w1 ⟨rfl,rfl⟩
  refine⟨_,rfl,fun g=>?_,fun g=>⟨_,rfl,?_⟩⟩
  ·have e1:aimE s k m=2:=by rw[aimE,if_pos hn,if_neg (by simpa using g)]
   rw[aimS,e1]
   exact⟨rfl,Turn.same h⟩
  ·have e1:aimE s k m=0:=by rw[aimE,if_pos hn,if_pos (by simpa using g)]
   rw[aimS,e1,if_pos rfl]
   exact h.wr hk (by simp) rfl fun w1 hT=>⟨rfl,hT⟩
theorem ihush_ok (h:IrO b w F s) (n:Int) (is:Bool):Calls Tryz.prog 252 #[.pointer (some ⟨b,0,none⟩),.int .i64 n,.bool is] w fun e w'=>e=.returned (.int .i64 (hushE s n is))/\Turn (IrO b) w w' F (hushS s n is):=by
 refine u252 ?_
 rw[t252]
 refine⟨(wanted_ok h n).mono ?_⟩
 rintro e w' ⟨⟨hn,rfl⟩|⟨hn,k,rfl,hk,rfl⟩,rfl⟩
 ·have e1:hushE s n is=wantE s n:=by rw[hushE,if_neg hn]
  rw[hushS,e1,if_neg hn]
  exact⟨_,_,rfl,fun _=>⟨rfl,Turn.same h⟩,fun g=>absurd (by simpa using g) hn⟩
 ·refine⟨_,_,rfl,fun g=>by simp at g,fun _=>⟨_,rfl,_,h.cell hk rfl,fun g=>?_,fun g=>⟨_,rfl,?_⟩⟩⟩
  ·have e1:hushE s k is=6:=by rw[hushE,if_pos hn,if_pos (by simpa using g)]
   rw[hushS,e1]
   exact⟨rfl,Turn.same h⟩
  ·have e1:hushE s k is=0:=by rw[hushE,if_pos hn,if_neg (by simpa using g)]
   rw[hushS,e1,if_pos rfl]
   exact h.wr hk (by simp) rfl fun w1 hT=>⟨rfl,hT⟩
theorem hush_ok (h:IrO b w F s) (n:Int):Calls Tryz.prog 145 #[.pointer (some ⟨b,0,none⟩),.int .i64 n] w fun e w'=>e=.returned (.int .i64 (hushE s n true))/\Turn (IrO b) w w' F (hushS s n true):=by
 refine u145 ?_
 rw[t145]
 refine⟨(ihush_ok h n true).mono ?_⟩
 rintro e w' ⟨rfl,hT⟩
 exact⟨_,rfl,rfl,hT⟩
theorem unhush_ok (h:IrO b w F s) (n:Int):Calls Tryz.prog 146 #[.pointer (some ⟨b,0,none⟩),.int .i64 n] w fun e w'=>e=.returned (.int .i64 (hushE s n false))/\Turn (IrO b) w w' F (hushS s n false):=by
 refine u146 ?_
 rw[t146]
 refine⟨(ihush_ok h n false).mono ?_⟩
 rintro e w' ⟨rfl,hT⟩
 exact⟨_,rfl,rfl,hT⟩
theorem ready_ok_Irq (h:IrO b w F s) (n:Int):Calls Tryz.prog 175 #[.pointer (some ⟨b,0,none⟩),.int .i64 n] w fun e w'=>e=.returned (.bool (readyE s n))/\w'=w:=by
 refine u175 ?_
 rw[t175]
 refine⟨(wanted_ok h n).mono ?_⟩
 rintro e w' ⟨⟨hn,rfl⟩|⟨hn,k,rfl,hk,rfl⟩,rfl⟩
 ·have e1:readyE s n=false:=by simp[readyE,hn]
  rw[e1]
  exact⟨_,_,rfl,fun g=>absurd (by simpa using g) hn,fun _=>⟨rfl,rfl⟩⟩
 ·refine⟨_,_,rfl,fun _=>⟨_,rfl,_,h.cell hk rfl,fun g=>⟨_,rfl,_,h.cell hk rfl,?_,rfl⟩,fun g=>⟨?_,rfl⟩⟩,fun g=>by simp at g⟩
  ·have e1:readyE s k = !(gq s k).2.1:=by simp[readyE,hn,g]
   rw[e1]
  ·have e1:readyE s k=false:=by simp[readyE,g]
   rw[e1]
theorem clear_ok (h:IrO b w F s) (n:Int):Calls Tryz.prog 221 #[.pointer (some ⟨b,0,none⟩),.int .i64 n] w fun e w'=>e=.returned (.int .i64 (clearE s n))/\Turn (IrO b) w w' F (clearS s n):=by
 refine u221 ?_
 rw[t221]
 refine⟨(wanted_ok h n).mono ?_⟩
 rintro e w' ⟨⟨hn,rfl⟩|⟨hn,k,rfl,hk,rfl⟩,rfl⟩
 ·have e1:clearE s n=wantE s n:=by rw[clearE,if_neg hn]
  rw[clearS,e1,if_neg hn]
  exact⟨_,_,rfl,fun _=>⟨rfl,Turn.same h⟩,fun g=>absurd (by simpa using g) hn⟩
 ·refine⟨_,_,rfl,fun g=>by simp at g,fun _=>⟨_,rfl,_,h.cell hk rfl,fun g1=>⟨_,rfl,_,h.cell hk rfl,fun g2=>?_,fun g2=>⟨_,rfl,?_⟩⟩,fun g1=>?_⟩⟩
  ·have e1:clearE s k=12:=by rw[clearE,if_pos hn,if_neg (by simp[readyE,g2])]
   rw[clearS,e1]
   exact⟨rfl,Turn.same h⟩
  ·have g1:(gq s k).2.2.1=true:=by simpa using g1
   have e1:clearE s k=0:=by rw[clearE,if_pos hn,if_pos (by simp[readyE,hn,g1,g2])]
   rw[clearS,e1,if_pos rfl]
   exact h.wr hk (by simp) rfl fun w1 hT=>⟨rfl,hT⟩
  ·have g1:(gq s k).2.2.1=false:=by simpa using g1
   have e1:clearE s k=12:=by rw[clearE,if_pos hn,if_neg (by simp[readyE,g1])]
   rw[clearS,e1]
   exact⟨rfl,Turn.same h⟩
theorem request_ok (h:IrO b w F s) (n:Int) (m:BV):Calls Tryz.prog 136 #[.pointer (some ⟨b,0,none⟩),.int .i64 n,.int .u64 (mi m)] w fun e w'=>e=.returned (.int .i64 (reqE s n m))/\Turn (IrO b) w w' F (reqS s n m):=by
 refine u136 ?_
 rw[t136]
 refine⟨(find_ok_Irq b n w).mono ?_⟩
 rintro e w' ⟨⟨hn,rfl⟩|⟨hn,k,rfl,hk,rfl⟩,rfl⟩
 ·have e1:reqE s n m=3:=by simp[reqE,hn]
  rw[reqS,e1]
  exact⟨_,_,rfl,fun _=>⟨rfl,Turn.same h⟩,fun g=>by simp at g⟩
 ·refine⟨_,_,rfl,fun g=>by simp at g,fun _=>⟨_,rfl,_,h.cell hk rfl,fun g1=>?_,fun g1=>⟨(iright_ok h m).mono ?_⟩⟩⟩
  ·have e1:reqE s k m=6:=by rw[reqE,if_neg hn,if_pos g1]
   rw[reqS,e1]
   exact⟨rfl,Turn.same h⟩
  ·rintro e w1 ⟨rfl,rfl⟩
   refine⟨_,rfl,fun g=>?_,fun g=>⟨_,rfl,?_⟩⟩
   ·have e1:reqE s k m=2:=by rw[reqE,if_neg hn,if_neg (by simp[g1]),if_neg (by simpa using g)]
    rw[reqS,e1]
    exact⟨rfl,Turn.same h⟩
   ·have e1:reqE s k m=0:=by rw[reqE,if_neg hn,if_neg (by simp[g1]),if_pos (by simpa using g)]
    rw[reqS,e1,if_pos rfl]
    exact h.wr0 (q:=(true,false,false,m)) hk rfl fun w1 hT=>⟨rfl,hT⟩
theorem list_ok_Irq (h:IrO b w F s):Calls Tryz.prog 174 #[.pointer (some ⟨b,0,none⟩)] w fun e w'=>∃p c,e=.returned (.slice p (listL s).length c)/\Loc w w' 3 p c (listL s):=by
 have hl:=h.2
 refine u174 ?_
 rw[t174]
 refine⟨fun g=>by simp at g,fun _=>⟨_,rfl,s.2.flatMap iqE,ir_len hl,?_,⟨WP_loop okProg (M:=M174) (σ:=Nat×Option Addr×Nat) (fun x=>e174_1 x.2.1 (upto (listP s) x.1).length x.2.2 (s.2.flatMap iqE) x.1)
  (fun x w'=>x.1<=16/\Loc w w' 3 x.2.1 x.2.2 (upto (listP s) x.1)) (fun x _=>16-x.1) (0,none,0) ⟨rfl,rfl,rfl,trivial⟩ ⟨by simp,Loc.nil (Upd.refl _ _) _⟩ ?_⟩⟩⟩
 ·intro j v hj
  rw[Addr.add_add]
  refine h.1.blk.cell ?_
  have hj64:j<64:=by have:=(List.getElem?_eq_some_iff.1 hj).1;rwa [ir_len hl]at this
  rw[irE,Nat.zero_add,List.getElem?_append_left (by rw[ir_len hl];exact hj64)]
  exact hj
 ·rintro⟨i,p,d⟩ w1 ⟨h1,hL⟩
  simp only at h1 hL⊢
  rw[t174_1]
  have hs1:=upto_succ (listP s) i
  have hb:=upto_length (listP s) i
  refine⟨fun hlt=>?_,fun hge=>?_⟩
  ·have hi:i<16:=by simp at hlt;omega
   have hsl:=flat_slice iqE_len (l:=s.2) (k:=i) (by omega)
   have hlp:listP s i=(s.2[i]'(by omega)).1:=by unfold listP;rw[gq_get hl hi]
   refine⟨⟨by omega,by omega⟩,_,_,_,_,hsl,⟨fun w2 hN=>?_⟩⟩
   refine hN.blk'.wr0 (by simp) (fun w3 hW=>?_)
   refine⟨_,hW.blk'.cell rfl,fun g=>⟨fun w4 hN4=>?_⟩,fun g=>?_⟩
   ·have hL3:Loc w w3 3 p d (upto (listP s) i):=⟨hL.U.and ((hN.upd no).trans (hW.U) (fun j hj e=>absurd hj (by omega))),?_,hL.F⟩
    ·obtain⟨p',c',w5,hr,hL'⟩:=hL3.push elI_Lst (by omega) hN4 36
     rw[if_pos (by rw[hlp];exact g)]at hs1
     exact⟨p',_,c',w5,hr,(i+1,p',c'),⟨by rw[hs1];rfl,rfl,by rw[w64 (by omega)];rfl,trivial⟩,⟨by simp only;omega,by rw[hs1];exact hL'⟩,by simp only;omega⟩
    ·exact(hL.S.upd (hN.upd no) (fun _ _ h=>h)).upd hW.U (fun j hj e=>by have:=hL.S.lt j hj;omega)
   ·have hL3:Loc w w3 3 p d (upto (listP s) i):=⟨hL.U.and ((hN.upd no).trans (hW.U) (fun j hj e=>absurd hj (by omega))),(hL.S.upd (hN.upd no) (fun _ _ h=>h)).upd hW.U (fun j hj e=>by have:=hL.S.lt j hj;omega),hL.F⟩
    rw[if_neg (by rw[hlp,g];decide)]at hs1
    exact⟨(i+1,p,d),⟨by rw[hs1];rfl,rfl,by rw[w64 (by omega)];rfl,trivial⟩,⟨by simp only;omega,by rw[hs1];exact hL3⟩,by simp only;omega⟩
  ·have:i=16:=by simp at hge;omega
   subst this
   exact⟨p,d,rfl,hL⟩
end
theorem new_ok_Irq (n:Int) (w:World):Calls Tryz.prog 40 #[.int .i64 n] w fun e w'=>
  (¬(1<=n/\n<=64)/\e=.returned (.tuple #[.pointer none,.int .i64 2])/\w'=w)∨
  ((1<=n/\n<=64)/\∃b F,e=.returned (.tuple #[.pointer (some ⟨b,0,none⟩),.int .i64 0])/\IrO b w' F (n,List.replicate 16 i0)/\Upd no w w'/\∀i,F i->w.heap.size<=i):=by
 refine u40 ?_
 rw[t40]
 refine⟨fun h1=>⟨fun h2=>.inl ⟨by simp at h2;omega,rfl,rfl⟩,fun h2=>⟨(mUpto_ok n w).mono ?_⟩⟩,fun h1=>.inl ⟨by simp at h1;omega,rfl,rfl⟩⟩
 rintro e w1 ⟨rfl,rfl⟩
 exact⟨_,rfl,⟨fun w2 hN=>.inr ⟨by simp at h1 h2;omega,w1.heap.size,fun i=>i=w1.heap.size,rfl,⟨Rw.new hN rfl,rfl⟩,hN.upd no,fun i hi=>Nat.le_of_eq hi.symm⟩⟩⟩
end Go.Dav
namespace Go.Dav
open Go.Proofs
abbrev RtS:=Int×List Int
structure RtS.ok (x:RtS):Prop where
 len:x.2.length=16
 le:x.1<=64
 in':∀v∈x.2,-1<=v/\v<64
def rtE (x:RtS):List Value:=x.2.map (fun v=>Value.int .i64 (v+1))++[.int .i64 x.1]
def RtO (b:Nat):Ob RtS:=fun w F x=>Rw b 204 rtE w F x/\x.ok
instance Frame.rt (b:Nat):Frame (RtO b) where
 upd:=fun⟨h,r⟩ k hG=>⟨(Frame.rw ..).upd h k hG,r⟩
 lt:=fun⟨h,_⟩=>(Frame.rw ..).lt h
def nout_Route (n:Int):Prop:=n<0∨16<=n
instance (n:Int):Decidable (nout_Route n):=inferInstanceAs (Decidable (_∨_))
def gt (x:RtS) (n:Int):Int:=x.2.getD n.toNat 0
def setE (x:RtS) (n c:Int):Int:=if nout_Route n then 3 else if c<0∨x.1<=c then 3 else 0
def setS (x:RtS) (n c:Int):RtS:=if setE x n c=0 then(x.1,x.2.set n.toNat c)else x
def offE (x:RtS) (n:Int):Int:=if nout_Route n then 3 else if gt x n<0 then 4 else 0
def offS (x:RtS) (n:Int):RtS:=if offE x n=0 then(x.1,x.2.set n.toNat (-1))else x
def ofE (x:RtS) (n:Int):Int×Bool:=if nout_Route n then(0,false)else if gt x n<0 then(0,false)else(gt x n,true)
def onP (x:RtS) (c:Int) (i:Int):Bool:=(ofE x i).2&&(ofE x i).1==c
def onL (x:RtS) (c:Int):List Int:=upto (onP x c) 16
theorem gt_get {x:RtS} (h:x.ok) {k:Nat} (hk:k<16):gt x (k:Int)=x.2[k]'(by rw[h.len];exact hk):=by
 unfold gt
 simp[List.getD_eq_getElem?_getD,h.len,hk]
theorem gt_in {x:RtS} (h:x.ok) {k:Nat} (hk:k<16) : -1<=gt x (k:Int)/\gt x (k:Int)<64:=by
 rw[gt_get h hk]
 exact h.in' _ (List.getElem_mem _)
theorem rt_cell {x:RtS} (h:x.ok) {k:Nat} (hk:k<16):(rtE x)[k]?=some (.int .i64 (gt x (k:Int)+1)):=by
 rw[gt_get h hk,rtE,List.getElem?_append_left (by simp[h.len,hk])]
 simp[h.len,hk]
theorem rt_cpus {x:RtS} (h:x.ok):(rtE x)[16]?=some (.int .i64 x.1):=by
 rw[rtE,List.getElem?_append_right (by simp[h.len])]
 simp[h.len]
theorem rt_len {x:RtS} (h:x.ok):(rtE x).length=17:=by simp[rtE,h.len]
theorem rt_set {x:RtS} (h:x.ok) {k:Nat} (hk:k<16) (v:Int):setL (rtE x) k [.int .i64 (v+1)]=rtE (x.1,x.2.set k v):=by
 have:=h.len
 unfold setL rtE
 apply List.ext_getElem?
 intro j
 simp only[List.getElem?_append,List.getElem?_take,List.getElem?_drop,List.getElem?_map,List.getElem?_set,List.length_append,List.length_take,List.length_map,List.length_cons,List.length_nil,List.length_set]
 grind
theorem ok_set {x:RtS} (h:x.ok) {k:Nat} {v:Int} (hv : -1<=v/\v<64):RtS.ok (x.1,x.2.set k v):=
 ⟨by simp[h.len],h.le,fun u hu=>by
  rcases List.mem_or_eq_of_mem_set hu with hu|rfl
  ·exact h.in' u hu
  ·exact hv⟩
section
variable {w:World} {F:Fp} {b:Nat} {x:RtS} {y:Option Addr×Nat}
theorem rmay_ok (b:Nat) (n:Int) (w:World):Calls Tryz.prog 251 #[.pointer (some ⟨b,0,none⟩),.int .i64 n] w fun e w'=>e=.returned (.int .i64 (if nout_Route n then 3 else 0))/\w'=w:=by
 refine u251 ?_
 rw[t251]
 refine⟨fun h=>by simp at h,fun _=>⟨fun h1=>⟨fun h2=>⟨?_,rfl⟩,fun h2=>⟨?_,rfl⟩⟩,fun h1=>⟨?_,rfl⟩⟩⟩
 ·rw[if_pos (by simp at h2;unfold nout_Route;omega)]
 ·rw[if_neg (by simp at h1 h2;unfold nout_Route;omega)]
 ·rw[if_pos (by simp at h1;unfold nout_Route;omega)]
theorem RtO.cell {k:Nat} (h:RtO b w F x) (hk:k<16):w.cell? (((⟨b,0,none⟩:Addr).add 0).add ((k:Int).toNat*1))=some (.int .i64 (gt x (k:Int)+1)):=by
 rw[Addr.add_add,Nat.zero_add,Nat.mul_one]
 exact h.1.blk.cell (rt_cell h.2 hk)
theorem RtO.wr {k:Nat} {v:Int} (h:RtO b w F x) (hk:k<16) (hv : -1<=v/\v<64) {K:World->Prop} (hK:∀w',Turn (RtO b) w w' F (x.1,x.2.set k v)->K w') :
  Wr w (((⟨b,0,none⟩:Addr).add 0).add ((k:Int).toNat*1)) [.int .i64 (v+1)] K:=by
 rw[Addr.add_add,Nat.zero_add,Nat.mul_one]
 refine h.1.blk.wr (by rw[rt_len h.2];show k+1<=17;omega) (fun w' hW=>hK w' ?_)
 have hb:=hW.blk'
 rw[show(k:Int).toNat=k from rfl,rt_set h.2 hk]at hb
 obtain⟨F',k1,k2⟩:=h.1.turned (s':=(x.1,x.2.set k v)) hW.U hb
 exact⟨F',⟨k1,ok_set h.2 hv⟩,k2⟩
theorem set_ok (h:RtO b w F x) (n c:Int):Calls Tryz.prog 249 #[.pointer (some ⟨b,0,none⟩),.int .i64 n,.int .i64 c] w fun e w'=>e=.returned (.int .i64 (setE x n c))/\Turn (RtO b) w w' F (setS x n c):=by
 refine u249 ?_
 rw[t249]
 refine⟨(rmay_ok b n w).mono ?_⟩
 rintro e w' ⟨rfl,rfl⟩
 have hle:=h.2.le
 by_cases hn:nout_Route n
 ·have e1:setE x n c=3:=by simp[setE,hn]
  rw[if_pos hn,setS,e1]
  exact⟨_,rfl,fun _=>⟨rfl,Turn.same h⟩,fun g=>by simp at g⟩
 ·rw[if_neg hn]
  obtain⟨k,rfl⟩:∃k:Nat,n=k:=⟨n.toNat,by unfold nout_Route at hn;omega⟩
  have hk:k<16:=by unfold nout_Route at hn;omega
  refine⟨_,rfl,fun g=>by simp at g,fun _=>⟨fun g1=>⟨_,rfl,_,h.1.blk.cell (rt_cpus h.2),fun g2=>?_,fun g2=>⟨_,rfl,⟨by omega,by omega⟩,?_⟩⟩,fun g1=>?_⟩⟩
  ·have e1:setE x k c=3:=by simp at g2;simp[setE,hn,g2]
   rw[setS,e1]
   exact⟨rfl,Turn.same h⟩
  ·have g1:¬c<0:=by simpa using g1
   have g2:¬x.1<=c:=by simpa using g2
   have e1:setE x k c=0:=by rw[setE,if_neg hn,if_neg (by omega)]
   rw[setS,e1,if_pos rfl,w64 (by omega)]
   exact h.wr hk (by omega) (fun w' hT=>⟨rfl,hT⟩)
  ·have e1:setE x k c=3:=by simp at g1;simp[setE,hn,g1]
   rw[setS,e1]
   exact⟨rfl,Turn.same h⟩
theorem off_ok (h:RtO b w F x) (n:Int):Calls Tryz.prog 141 #[.pointer (some ⟨b,0,none⟩),.int .i64 n] w fun e w'=>e=.returned (.int .i64 (offE x n))/\Turn (RtO b) w w' F (offS x n):=by
 refine u141 ?_
 rw[t141]
 refine⟨(rmay_ok b n w).mono ?_⟩
 rintro e w' ⟨rfl,rfl⟩
 by_cases hn:nout_Route n
 ·have e1:offE x n=3:=by simp[offE,hn]
  rw[if_pos hn,offS,e1]
  exact⟨_,rfl,fun _=>⟨rfl,Turn.same h⟩,fun g=>by simp at g⟩
 ·rw[if_neg hn]
  obtain⟨k,rfl⟩:∃k:Nat,n=k:=⟨n.toNat,by unfold nout_Route at hn;omega⟩
  have hk:k<16:=by unfold nout_Route at hn;omega
  have hi:=gt_in h.2 hk
  refine⟨_,rfl,fun g=>by simp at g,fun _=>⟨_,rfl,⟨by omega,by omega⟩,_,h.cell hk,fun g1=>?_,fun g1=>⟨_,rfl,⟨by omega,by omega⟩,?_⟩⟩⟩
  ·have e1:offE x k=4:=by simp at g1;rw[offE,if_neg hn,if_pos (by omega)]
   rw[offS,e1]
   exact⟨rfl,Turn.same h⟩
  ·have e1:offE x k=0:=by simp at g1;rw[offE,if_neg hn,if_neg (by omega)]
   rw[offS,e1,if_pos rfl]
   have:=h.wr (v:=-1) hk (by omega) (K:=fun w2=>Ending.returned (.int .i64 0)=Ending.returned (.int .i64 0)/\Turn (RtO b) w' w2 F (x.1,x.2.set k (-1))) (fun w2 hT=>⟨rfl,hT⟩)
   exact this
theorem of_ok (h:RtO b w F x) (n:Int):Calls Tryz.prog 186 #[.pointer (some ⟨b,0,none⟩),.int .i64 n] w fun e w'=>e=.returned (.tuple #[.int .i64 (ofE x n).1,.bool (ofE x n).2])/\w'=w:=by
 refine u186 ?_
 rw[t186]
 refine⟨(rmay_ok b n w).mono ?_⟩
 rintro e w' ⟨rfl,rfl⟩
 by_cases hn:nout_Route n
 ·have e1:ofE x n=(0,false):=by simp[ofE,hn]
  rw[if_pos hn,e1]
  exact⟨_,rfl,fun g=>by simp at g,fun _=>⟨rfl,rfl⟩⟩
 ·rw[if_neg hn]
  obtain⟨k,rfl⟩:∃k:Nat,n=k:=⟨n.toNat,by unfold nout_Route at hn;omega⟩
  have hk:k<16:=by unfold nout_Route at hn;omega
  have hi:=gt_in h.2 hk
  refine⟨_,rfl,fun _=>⟨_,rfl,⟨by omega,by omega⟩,_,h.cell hk,fun g1=>?_,fun g1=>⟨_,rfl,⟨by omega,by omega⟩,_,h.cell hk,?_⟩⟩,fun g=>by simp at g⟩
  ·have e1:ofE x k=(0,false):=by simp at g1;rw[ofE,if_neg hn,if_pos (by omega)]
   rw[e1]
   exact⟨rfl,rfl⟩
  ·have e1:ofE x k=(gt x k,true):=by simp at g1;rw[ofE,if_neg hn,if_neg (by omega)]
   rw[e1,w64 (by omega),Int.add_sub_cancel]
   exact⟨rfl,rfl⟩
theorem on_ok_Route (h:RtO b w F x) (c:Int):Calls Tryz.prog 291 #[.pointer (some ⟨b,0,none⟩),.int .i64 c] w fun e w'=>∃p d,e=.returned (.slice p (onL x c).length d)/\Loc w w' 3 p d (onL x c):=by
 refine u291 ?_
 rw[t291]
 refine⟨fun g=>by simp at g,fun _=>⟨WP_loop okProg (M:=M291) (σ:=Nat×Option Addr×Nat) (fun s=>e291_1 (some ⟨b,0,none⟩) c s.2.1 (upto (onP x c) s.1).length s.2.2 s.1)
  (fun s w'=>s.1<=16/\Loc w w' 3 s.2.1 s.2.2 (upto (onP x c) s.1)) (fun s _=>16-s.1) (0,none,0) ⟨rfl,rfl,rfl,rfl,trivial⟩ ⟨by simp,Loc.nil (Upd.refl _ _) _⟩ ?_⟩⟩
 rintro⟨i,p,d⟩ w1 ⟨h1,hL⟩
 simp only at h1 hL⊢
 rw[t291_1]
 have hs1:=upto_succ (onP x c) i
 have hb:=upto_length (onP x c) i
 refine⟨fun hlt=>?_,fun hge=>?_⟩
 ·have hi:i<16:=by simp at hlt;omega
  have hw:RtO b w1 F x:=(Frame.rt b).upd h hL.U (fun _ _ h=>h)
  refine⟨(of_ok hw i).mono ?_⟩
  rintro e w' ⟨rfl,rfl⟩
  refine⟨_,_,rfl,fun g1=>⟨fun g2=>⟨fun w2 hN=>?_⟩,fun g2=>?_⟩,fun g1=>?_⟩
  ·obtain⟨p',c',w3,hr,hL'⟩:=hL.push elI_Lst (by omega) hN 36
   rw[if_pos (by unfold onP;rw[g1,g2];rfl)]at hs1
   exact⟨p',_,c',w3,hr,(i+1,p',c'),⟨rfl,rfl,by rw[hs1];rfl,by rw[w64 (by omega)];rfl,trivial⟩,⟨by simp only;omega,by rw[hs1];exact hL'⟩,by simp only;omega⟩
  ·rw[if_neg (by unfold onP;rw[g1,g2];decide)]at hs1
   exact⟨(i+1,p,d),⟨rfl,rfl,by rw[hs1];rfl,by rw[w64 (by omega)];rfl,trivial⟩,⟨by simp only;omega,by rw[hs1];exact hL⟩,by simp only;omega⟩
  ·rw[if_neg (by unfold onP;rw[g1];simp)]at hs1
   exact⟨(i+1,p,d),⟨rfl,rfl,by rw[hs1];rfl,by rw[w64 (by omega)];rfl,trivial⟩,⟨by simp only;omega,by rw[hs1];exact hL⟩,by simp only;omega⟩
 ·have:i=16:=by simp at hge;omega
  subst this
  exact⟨p,d,rfl,hL⟩
end
end Go.Dav
namespace Go.Dav
open Go.Proofs
theorem elQ_Work:ElemT Tryz.prog 205 208 1 8 [.pointer none]:=⟨by kernel_rfl,by kernel_rfl,rfl,by omega⟩
theorem mpT_Work:MapT Tryz.prog 78 3 3 (.int .i64 0):=⟨by kernel_rfl,by kernel_rfl,by kernel_rfl,by kernel_rfl⟩
def q32_Work (l:List Int):Nat×List Int:=(32,l)
abbrev QL:=List (List Int)
abbrev WS:=List Bool×((Int->Option Int)×Nat)×QL
def wkE (b2 b3:Nat) (p:Option Addr) (n c:Nat):List Value:=[.pointer (some ⟨b2,0,none⟩),.slice p n c,.map (some b3)]
def WkO (b:Nat):Ob WS:=fun w F x=>∃b2 b3,Star (Star (SlO b2) (MapO b3 (Value.int .i64))) (Tq FqO b 207 208 (wkE b2 b3)) w F ((x.1,x.2.1),x.2.2.map q32_Work)
instance Frame.wk (b:Nat):Frame (WkO b) where
 upd:=fun⟨b2,b3,h⟩ k hG=>⟨b2,b3,Frame.star.upd h k hG⟩
 lt:=fun⟨b2,b3,h⟩=>Frame.star.lt h
def whE_Work (Q:QL) (v:Int):Option Int:=(Q.findIdx? (fun l=>decide (v∈l))).map (fun(i:Nat)=>(i:Int)-1)
def once (Q:QL):Prop:=∀v,ct Q v<=1
section
variable {Q:QL} {i j:Nat} {v:Int}
theorem rows_two (hi:i<Q.length) (hj:j<Q.length) (hij:i≠j) (h1:v∈Q[i]) (h2:v∈Q[j]):2<=ct Q v:=by
 have k1:=ct_set hi [] v
 have hj':j<(Q.set i []).length:=by simpa using hj
 have k2:=ct_mem (L:=Q.set i []) hj' (v:=v) (by rw[List.getElem_set_ne hij];exact h2)
 have k3:=List.count_pos_iff.2 h1
 simp at k1
 omega
theorem wh_in (hO:once Q) (hi:i<Q.length) (h:v∈Q[i]):whE_Work Q v=some ((i:Int)-1):=by
 have:Q.findIdx? (fun l=>decide (v∈l))=some i:=by
  rw[List.findIdx?_eq_some_iff_getElem]
  refine⟨hi,by simpa using h,fun k hk=>?_⟩
  have hk2:k<Q.length:=by omega
  simp only[decide_eq_true_eq]
  intro hm
  have:=rows_two hk2 hi (by omega) hm h
  have:=hO v
  omega
 rw[whE_Work,this]
 rfl
theorem wh_no (h:ct Q v=0):whE_Work Q v=none:=by
 have:Q.findIdx? (fun l=>decide (v∈l))=none:=by
  rw[List.findIdx?_eq_none_iff]
  intro l hl
  obtain⟨i,hi,rfl⟩:=List.getElem_of_mem hl
  rw[decide_eq_false_iff_not]
  intro hm
  have:=ct_mem hi hm
  omega
 rw[whE_Work,this]
 rfl
theorem wh_cases (hO:once Q) (v:Int):(whE_Work Q v=none/\ct Q v=0)∨∃i,∃hi:i<Q.length,v∈Q[i]/\whE_Work Q v=some ((i:Int)-1)/\0<ct Q v:=by
 by_cases h:ct Q v=0
 ·exact .inl ⟨wh_no h,h⟩
 ·have h2:v∈Q.flatten:=List.count_pos_iff.1 (by unfold ct at h;omega)
  obtain⟨l,hl,hv⟩:=List.mem_flatten.1 h2
  obtain⟨i,hi,rfl⟩:=List.getElem_of_mem hl
  exact .inr ⟨i,hi,hv,wh_in hO hi hv,by omega⟩
theorem wh_set (hO:once Q) {l':List Int} (hO':once (Q.set i l')) (hi:i<Q.length) (hv:v∈l'↔v∈Q[i]):whE_Work (Q.set i l') v=whE_Work Q v:=by
 rcases wh_cases hO v with⟨h1,h2⟩|⟨k,hk,h1,h2,_⟩
 ·rw[h1]
  apply wh_no
  have h3:=ct_set hi l' v
  have h4:l'.count v=0:=List.count_eq_zero.2 fun hm=>by have:=ct_mem hi (hv.1 hm);omega
  omega
 ·rw[h2]
  have hk':k<(Q.set i l').length:=by simpa using hk
  refine wh_in hO' hk' ?_
  by_cases hik:i=k
  ·subst hik
   rw[List.getElem_set_self]
   exact hv.2 h1
  ·rw[List.getElem_set_ne hik]
   exact h1
end
structure WI (x:WS):Prop where
 len:x.1.length=32
 one:once x.2.2
 has:∀v,hasE_Slot x.1 v=decide (0<ct x.2.2 v)
 map:∀v,x.2.1.1 v=whE_Work x.2.2 v
 pos:2<=x.2.2.length/\x.2.2.length<=65
def WkI (b:Nat):Ob QL:=fun w F Q=>∃o g,WkO b w F (o,g,Q)/\WI (o,g,Q)
instance Frame.wki (b:Nat):Frame (WkI b) where
 upd:=fun⟨o,g,h,r⟩ k hG=>⟨o,g,(Frame.wk b).upd h k hG,r⟩
 lt:=fun⟨o,g,h,_⟩=>(Frame.wk b).lt h
theorem Turn.wki {b:Nat} {w w':World} {F:Fp} {o:List Bool} {g:(Int->Option Int)×Nat} {Q:QL} (h:Turn (WkO b) w w' F (o,g,Q)) (k:WI (o,g,Q)):Turn (WkI b) w w' F Q:=by
 obtain⟨F',h1,h2⟩:=h
 exact⟨F',⟨o,g,h1,k⟩,h2⟩
section
variable {o:List Bool} {g:(Int->Option Int)×Nat} {Q:QL} {i:Nat} {v:Int}
theorem WI.rng (h:WI (o,g,Q)) (hv:0<ct Q v):1<=v/\v<=32:=by
 have:hasE_Slot o v=true:=by rw[h.has];exact decide_eq_true hv
 have:=hasE_in this
 have hl:=h.len
 simp only at hl
 rw[hl]at this
 exact this
theorem WI.row (h:WI (o,g,Q)) (hi:i<Q.length):Q[i].Nodup/\Q[i].length<=32:=by
 have hn:=ct_nodup h.one hi
 exact⟨hn,few hn fun v hv=>h.rng (ct_mem hi hv)⟩
theorem WI.push (h:WI (o,g,Q)) (hi:i<Q.length) (h1:1<=v/\v<=32) (hv:v∉Q[i]):pushE (q32_Work Q[i]) v=0/\pushS (q32_Work Q[i]) v=q32_Work (Q[i]++[v]):=by
 obtain⟨hn,_⟩:=h.row hi
 have hl:(Q[i]++[v]).length<=32:=by
  refine few ?_ ?_
  ·rw[List.nodup_append]
   exact⟨hn,by simp,fun a ha b hb e=>by simp at hb;subst hb;subst e;exact hv ha⟩
  ·intro u hu
   rw[List.mem_append]at hu
   rcases hu with hu|hu
   ·exact h.rng (ct_mem hi hu)
   ·simp at hu;subst hu;exact h1
 have e:pushE (q32_Work Q[i]) v=0:=by
  unfold pushE q32_Work
  simp only
  rw[if_neg hv,if_neg]
  simp at hl;omega
 exact⟨e,by rw[pushS,if_pos e];rfl⟩
theorem ct_push (hi:i<Q.length) (v u:Int):ct (Q.set i (Q[i]++[v])) u=ct Q u+if v=u then 1 else 0:=by
 have:=ct_set hi (Q[i]++[v]) u
 rw[List.count_append,List.count_singleton]at this
 simp only[beq_iff_eq]at this
 omega
theorem ct_erase (hO:once Q) (hi:i<Q.length) (hv:v∈Q[i]) (u:Int):ct (Q.set i (Q[i].erase v)) u+(if v=u then 1 else 0)=ct Q u:=by
 have:=ct_set hi (Q[i].erase v) u
 have h2:(Q[i].erase v).count u=Q[i].count u-if(v==u)=true then 1 else 0:=List.count_erase
 have h3:=ct_le hi u
 by_cases huv:v=u
 ·subst huv
  have:=List.count_pos_iff.2 hv
  rw[if_pos (by simp)]at h2
  rw[if_pos rfl]
  omega
 ·have:(v==u)=false:=by simpa using huv
  simp[huv,this]at h2⊢
  omega
theorem WI.queue (h:WI (o,g,Q)) (hi:i<Q.length) {j:Nat} (hj:takeE_Slot o=((j:Int)+1,0)):WI (takeS_Slot o,mput g ((j:Int)+1) ((i:Int)-1),Q.set i (Q[i]++[(j:Int)+1]))/\(j:Int)+1∉Q[i]/\j<32:=by
 rcases take_cases o with⟨j',k0,k1,k2,k3⟩|⟨k1,_⟩
 ·have hjj:j'=j:=by rw[k1]at hj;simp at hj;omega
  subst hjj
  have hl:=h.len
  simp only at hl
  have h0:ct Q ((j':Int)+1)=0:=by have:=h.has ((j':Int)+1);simp only[k3]at this;simpa using this.symm
  have hnot:(j':Int)+1∉Q[i]:=fun hm=>by have:=ct_mem hi hm;omega
  have hct:=ct_push hi ((j':Int)+1)
  have hO:once (Q.set i (Q[i]++[(j':Int)+1])):=fun u=>by
   rw[hct]
   have:=h.one u
   simp only at this
   split
   ·rename_i e;subst e;omega
   ·omega
  refine⟨⟨by simp only[k2,List.length_set];exact hl,hO,fun u=>?_,fun u=>?_,by simpa using h.pos⟩,hnot,by omega⟩
  ·simp only[k2,hct]
   rw[hasE_set k0]
   by_cases hu:u=(j':Int)+1
   ·subst hu;simp
   ·rw[if_neg hu,if_neg (fun e=>hu e.symm)];exact h.has u
  ·simp only[mput]
   by_cases hu:u=(j':Int)+1
   ·subst hu
    rw[if_pos rfl,wh_in hO (by simpa using hi) (by rw[List.getElem_set_self];simp)]
   ·rw[if_neg hu,wh_set h.one hO hi (by simp[hu])]
    exact h.map u
 ·rw[k1]at hj;simp at hj
theorem WI.drop (h:WI (o,g,Q)) (hi:i<Q.length) (hv:v∈Q[i]):WI (giveS_Slot o v,mdel g v,Q.set i (Q[i].erase v)):=by
 have hct:=ct_erase (show once Q from h.one) hi hv
 have hpos:=ct_mem hi hv
 obtain⟨_,g2⟩:=give_has (o:=o) (n:=v) (by rw[h.has];exact decide_eq_true hpos)
 have hO:once (Q.set i (Q[i].erase v)):=fun u=>by have:=hct u;have:=h.one u;simp only at this;omega
 refine⟨by simp only[give_len_Slot];exact h.len,hO,fun u=>?_,fun u=>?_,by simpa using h.pos⟩
 ·simp only[g2]
  have h1:=hct u
  by_cases hu:u=v
  ·subst hu
   have:=h.one u
   simp only at this
   rw[if_pos rfl]at h1
   have:ct (Q.set i (Q[i].erase u)) u=0:=by omega
   simp[this]
  ·rw[if_neg (fun e=>hu e.symm),Nat.add_zero]at h1
   rw[h1,decide_eq_true (show u≠v from hu),Bool.and_true]
   exact h.has u
 ·simp only[mdel]
  by_cases hu:u=v
  ·subst hu
   have h1:=hct u
   have:=h.one u
   simp only at this
   rw[if_pos rfl]at h1⊢
   rw[wh_no (by omega)]
  ·rw[if_neg hu,wh_set h.one hO hi (by rw[List.mem_erase_of_ne hu])]
   exact h.map u
theorem WI.unbind (h:WI (o,g,Q)) (hi:i<Q.length) (h0:0<i) {l:List Int} (hl:Q[i]=v::l):WI (o,mput g v (-1),(Q.set i l).set 0 (Q[0]'(by omega)++[v]))/\v∉Q[0]'(by omega)/\(1<=v/\v<=32):=by
 have hv:v∈Q[i]:=by rw[hl];simp
 have hpos:=ct_mem hi hv
 have he:Q[i].erase v=l:=by rw[hl];simp
 have hct:=ct_erase (show once Q from h.one) hi hv
 rw[he]at hct
 have hz:0<(Q.set i l).length:=by simp;omega
 have hne:(Q.set i l)[0]=Q[0]'(by omega):=List.getElem_set_ne (by omega) hz
 have hct2:=ct_push (Q:=Q.set i l) hz v
 rw[hne]at hct2
 have hall:∀u,ct ((Q.set i l).set 0 (Q[0]'(by omega)++[v])) u=ct Q u:=fun u=>by have:=hct u;have:=hct2 u;omega
 have hO1:once (Q.set i l):=fun u=>by have:=hct u;have:=h.one u;simp only at this;omega
 have hO:once ((Q.set i l).set 0 (Q[0]'(by omega)++[v])):=fun u=>by rw[hall];exact h.one u
 have hnot:v∉Q[0]'(by omega):=fun hm=>by
  have:=rows_two hi (show 0<Q.length by omega) (by omega) hv hm
  have:=h.one v
  simp only at this
  omega
 refine⟨⟨h.len,hO,fun u=>by simp only[hall];exact h.has u,fun u=>?_,by simpa using h.pos⟩,hnot,h.rng hpos⟩
 simp only[mput]
 by_cases hu:u=v
 ·subst hu
  rw[if_pos rfl,wh_in (i:=0) hO (by simp;omega) (by rw[List.getElem_set_self];simp)]
  rfl
 ·rw[if_neg hu]
  have e1:whE_Work ((Q.set i l).set 0 (Q[0]'(by omega)++[v])) u=whE_Work (Q.set i l) u:=by
   refine wh_set hO1 hO hz ?_
   rw[hne];simp[hu]
  rw[e1,wh_set h.one hO1 hi (by rw[hl];simp[hu])]
  exact h.map u
end
def inW (Q:QL) (cpu f:Int):Prop:=f<=cpu/\cpu+1<Q.length
instance (Q:QL) (cpu f:Int):Decidable (inW Q cpu f):=by unfold inW;infer_instance
def ix (cpu:Int):Nat:=(cpu+1).toNat
def rowW (Q:QL) (cpu:Int):List Int:=Q.getD (ix cpu) []
theorem inW_at {Q:QL} {cpu f:Int} (h:inW Q cpu f) (hf : -1<=f):∃i:Nat,i<Q.length/\cpu=(i:Int)-1/\ix cpu=i:=⟨ix cpu,by unfold inW at h;unfold ix;omega,by unfold inW at h;unfold ix;omega,rfl⟩
theorem rowW_at {Q:QL} {i:Nat} (hi:i<Q.length):rowW Q ((i:Int)-1)=Q[i]:=by
 unfold rowW ix
 have:((i:Int)-1+1).toNat=i:=by omega
 rw[this]
 simp[hi]
theorem ix_of (i:Nat):ix ((i:Int)-1)=i:=by unfold ix;omega
def freeId (Q:QL):Option Nat:=(List.range 32).find? (fun(k:Nat)=>decide (ct Q ((k:Int)+1)=0))
def quE (Q:QL) (cpu:Int):Int×Int:=if inW Q cpu (-1)then(match freeId Q with|some j=>((j:Int)+1,0)|none=>(0,5))else(0,3)
def quS (Q:QL) (cpu:Int):QL:=if inW Q cpu (-1)then(match freeId Q with|some j=>Q.set (ix cpu) (rowW Q cpu++[(j:Int)+1])|none=>Q)else Q
def whP (Q:QL) (v:Int):Int×Bool:=match whE_Work Q v with|some c=>(c,true)|none=>(0,false)
def dpE (Q:QL) (v:Int):Int:=match whE_Work Q v with|some _=>0|none=>4
def dpS (Q:QL) (v:Int):QL:=match whE_Work Q v with|some c=>Q.set (ix c) ((rowW Q c).erase v)|none=>Q
def taE (Q:QL) (cpu:Int):Int×Int:=if inW Q cpu 0 then(match rowW Q cpu,rowW Q (-1)with|a::_,_=>(a,0)|[],a::_=>(a,0)|[],[]=>(0,12))else(0,3)
def taS (Q:QL) (cpu:Int):QL:=if inW Q cpu 0 then(match rowW Q cpu,rowW Q (-1)with|a::_,_=>dpS Q a|[],a::_=>dpS Q a|[],[]=>Q)else Q
def unE (Q:QL) (cpu:Int):Int×Int:=if inW Q cpu 0 then(match rowW Q cpu with|a::_=>(a,0)|[]=>(0,12))else(0,3)
def unS (Q:QL) (cpu:Int):QL:=if inW Q cpu 0 then(match rowW Q cpu with|a::l=>(Q.set (ix cpu) l).set 0 (rowW Q (-1)++[a])|[]=>Q)else Q
def lsE_Work (Q:QL) (cpu:Int):List Int:=if inW Q cpu (-1)then rowW Q cpu else[]
theorem freeId_take {o:List Bool} {g:(Int->Option Int)×Nat} {Q:QL} (h:WI (o,g,Q)):(∃j,freeId Q=some j/\takeE_Slot o=((j:Int)+1,0))∨(freeId Q=none/\takeE_Slot o=(0,5)/\takeS_Slot o=o):=by
 have hl:=h.len
 simp only at hl
 have hh:∀k:Nat,hasE_Slot o ((k:Int)+1) = !decide (ct Q ((k:Int)+1)=0):=fun k=>by
  rw[h.has]
  by_cases h0:ct Q ((k:Int)+1)=0
  ·simp[h0]
  ·have:0<ct Q ((k:Int)+1):=by omega
   simp[this,h0]
 cases hf:freeId Q with
 | none=>
  unfold freeId at hf
  rw[List.find?_eq_none]at hf
  have:=take_no (o:=o) (fun k hk=>by rw[hh];have:=hf k (by simp;omega);simpa using this)
  exact .inr ⟨rfl,this⟩
 | some j=>
  refine .inl ⟨j,rfl,?_⟩
  unfold freeId at hf
  rw[List.find?_range_eq_some]at hf
  obtain⟨h1,h2,h3⟩:=hf
  refine(take_of (by simp at h2;omega) (fun k hk=>?_) ?_).1
  ·rw[hh];have:=h3 k hk;simpa using this
  ·rw[hh];simpa using h1
end Go.Dav
namespace Go.Dav
open Go.Proofs
section
variable {w:World} {F:Fp} {b:Nat} {x:WS} {Q:QL} {o:List Bool} {g:(Int->Option Int)×Nat}
theorem WkO.slot (h:WkO b w F x):∃b2 b3 F1,SlO b2 w F1 x.1/\(∃p c,Blk w b (wkE b2 b3 p x.2.2.length c) 207)/\∀w' o',Turn (SlO b2) w w' F1 o'->Turn (WkO b) w w' F (o',x.2):=by
 obtain⟨b2,b3,h⟩:=h
 obtain⟨F2,h2,_⟩:=h.right
 obtain⟨F1,h1,k⟩:=h.left
 obtain⟨F3,h3,k3⟩:=h1.left
 obtain⟨p,c,hB⟩:=h2.blk
 rw[List.length_map]at hB
 refine⟨b2,b3,F3,h3,⟨p,c,hB⟩,fun w' o' hT=>?_⟩
 obtain⟨F',q1,q2⟩:=k _ _ (k3 _ _ hT)
 exact⟨F',⟨b2,b3,q1⟩,q2⟩
theorem WkO.mp (h:WkO b w F x):∃b2 b3 F1,MapO b3 (Value.int .i64) w F1 x.2.1/\(∃p c,Blk w b (wkE b2 b3 p x.2.2.length c) 207)/\∀w' g',Turn (MapO b3 (Value.int .i64)) w w' F1 g'->Turn (WkO b) w w' F (x.1,g',x.2.2):=by
 obtain⟨b2,b3,h⟩:=h
 obtain⟨F2,h2,_⟩:=h.right
 obtain⟨F1,h1,k⟩:=h.left
 obtain⟨F3,h3,k3⟩:=h1.right
 obtain⟨p,c,hB⟩:=h2.blk
 rw[List.length_map]at hB
 refine⟨b2,b3,F3,h3,⟨p,c,hB⟩,fun w' o' hT=>?_⟩
 obtain⟨F',q1,q2⟩:=k _ _ (k3 _ _ hT)
 exact⟨F',⟨b2,b3,q1⟩,q2⟩
theorem WkO.q (h:WkO b w F x) {i:Nat} (hi:i<x.2.2.length):∃b2 b3 a c bi F1,Blk w b (wkE b2 b3 (some a) x.2.2.length c) 207/\w.cell? (a.add (i*1))=some (.pointer (some ⟨bi,0,none⟩))/\FqO bi w F1 (q32_Work x.2.2[i])/\
  ∀w' l',Turn (FqO bi) w w' F1 (q32_Work l')->Turn (WkO b) w w' F (x.1,x.2.1,x.2.2.set i l'):=by
 obtain⟨b2,b3,h⟩:=h
 obtain⟨F2,h2,k⟩:=h.right
 obtain⟨a,c,bi,F1,hB,hc,hq,ht⟩:=h2.at (i:=i) (by simpa using hi)
 simp only[List.length_map]at hB
 simp only[List.getElem_map]at hq
 refine⟨b2,b3,a,c,bi,F1,hB,hc,hq,fun w' l' hT=>?_⟩
 obtain⟨F',q1,q2⟩:=k _ _ (ht _ _ hT)
 refine⟨F',⟨b2,b3,?_⟩,q2⟩
 simp only[List.map_set]
 exact q1
theorem wmay_ok (h:WkI b w F Q) (cpu:Int) (f:Int):Calls Tryz.prog 148 #[.pointer (some ⟨b,0,none⟩),.int .i64 cpu,.int .i64 f] w fun e w'=>e=.returned (.int .i64 (if inW Q cpu f then 0 else 3))/\w'=w:=by
 obtain⟨o,g,h,hI⟩:=h
 have hp:=hI.pos
 simp only at hp
 refine u148 ?_
 rw[t148]
 obtain⟨b2,b3,F1,_,⟨p,c,hB⟩,_⟩:=h.slot
 have e1:IntKind.wrap .i64 ((Q.length:Int)-1)=(Q.length:Int)-1:=w64 (by omega)
 refine⟨fun g=>by simp at g,fun _=>⟨fun g=>⟨_,rfl,_,_,_,hB.cell rfl,fun g2=>⟨?_,rfl⟩,fun g2=>⟨?_,rfl⟩⟩,fun g=>⟨?_,rfl⟩⟩⟩
 ·simp only[e1]at g2
  rw[if_neg];unfold inW;simp at g g2;omega
 ·simp only[e1]at g2
  rw[if_pos];unfold inW;simp at g g2;omega
 ·rw[if_neg];unfold inW;simp at g;omega
theorem wlist_ok_WorkF {b2 b3 c bi i n:Nat} {a:Addr} (hB:Blk w b (wkE b2 b3 (some a) n c) 207) (hc:w.cell? (a.add (i*1))=some (.pointer (some ⟨bi,0,none⟩))) (hi:i<n) (hn:n<=1000) :
  Calls Tryz.prog 150 #[.pointer (some ⟨b,0,none⟩),.int .i64 ((i:Int)-1)] w fun e w'=>e=.returned (.pointer (some ⟨bi,0,none⟩))/\w'=w:=by
 refine u150 ?_
 rw[t150]
 have e1:IntKind.wrap .i64 ((i:Int)-1-(-1))=(i:Int):=by rw[w64 (by omega)];omega
 rw[e1]
 exact⟨_,rfl,_,_,_,hB.cell rfl,⟨by omega,by omega⟩,a,rfl,_,hc,rfl,rfl⟩
theorem wwhere_ok (h:WkI b w F Q) (v:Int):Calls Tryz.prog 334 #[.pointer (some ⟨b,0,none⟩),.int .i64 v] w fun e w'=>e=.returned (.tuple #[.int .i64 (whP Q v).1,.bool (whP Q v).2])/\w'=w:=by
 obtain⟨o,g,h,hI⟩:=h
 refine u334 ?_
 rw[t334]
 obtain⟨b2,b3,F1,hm,⟨p,c,hB⟩,_⟩:=h.mp
 refine⟨fun g=>by simp at g,fun _=>⟨_,rfl,_,hB.cell rfl,?_⟩⟩
 have hr:=run_lookup mpT_Work hm v true
 have hv:=hI.map v
 simp only at hv hr
 rw[hv]at hr
 unfold whP
 cases hw:whE_Work Q v with
 | none=>rw[hw]at hr;exact⟨_,_,hr,rfl,rfl⟩
 | some c=>rw[hw]at hr;exact⟨_,_,hr,rfl,rfl⟩
theorem whas_ok (h:WkI b w F Q) (v:Int):Calls Tryz.prog 263 #[.pointer (some ⟨b,0,none⟩),.int .i64 v] w fun e w'=>e=.returned (.bool (whP Q v).2)/\w'=w:=by
 refine u263 ?_
 rw[t263]
 refine⟨(wwhere_ok h v).mono ?_⟩
 rintro e w1 ⟨rfl,rfl⟩
 exact⟨_,_,rfl,rfl,rfl⟩
theorem wls_ok (h:WkI b w F Q) (cpu:Int):Calls Tryz.prog 93 #[.pointer (some ⟨b,0,none⟩),.int .i64 cpu] w fun e w'=>∃p c,e=.returned (.slice p (lsE_Work Q cpu).length c)/\Cells w' p ((lsE_Work Q cpu).map (Value.int .i64))/\Upd no w w':=by
 refine u93 ?_
 rw[t93]
 refine⟨(wmay_ok h cpu (-1)).mono ?_⟩
 rintro e w1 ⟨rfl,rfl⟩
 refine⟨_,rfl,fun g=>?_,fun g=>?_⟩
 ·have hn:¬inW Q cpu (-1):=fun h=>by rw[if_pos h]at g;simp at g
  rw[lsE_Work,if_neg hn]
  exact⟨none,0,rfl,Cells.nil _ _,Upd.refl _ _⟩
 ·have hc:inW Q cpu (-1):=Classical.byContradiction fun h=>by rw[if_neg h]at g;simp at g
  rw[lsE_Work,if_pos hc]
  obtain⟨i,hi,rfl,hix⟩:=inW_at hc (by omega)
  rw[rowW_at hi]
  obtain⟨o,g,h,hI⟩:=h
  obtain⟨b2,b3,a,c,bi,F4,hB,hc4,hq,htq⟩:=h.q (i:=i) hi
  have hp:=hI.pos
  simp only at hp hB
  refine⟨(wlist_ok_WorkF hB hc4 hi (by omega)).mono ?_⟩
  rintro e w2 ⟨rfl,rfl⟩
  refine⟨_,rfl,⟨(qlist_ok hq).mono ?_⟩⟩
  rintro e w3 ⟨p,c,rfl,hC,hU3⟩
  exact⟨_,_,_,rfl,_,_,rfl,hC,hU3⟩
theorem wload_ok (h:WkI b w F Q) (cpu:Int):Calls Tryz.prog 170 #[.pointer (some ⟨b,0,none⟩),.int .i64 cpu] w fun e w'=>e=.returned (.int .i64 ((lsE_Work Q cpu).length:Int))/\Upd no w w':=by
 refine u170 ?_
 rw[t170]
 refine⟨(wls_ok h cpu).mono ?_⟩
 rintro e w1 ⟨p,c,rfl,_,hU⟩
 exact⟨_,_,_,rfl,rfl,hU⟩
theorem wdrop_ok_WorkF (h:WkI b w F Q) (v:Int):Calls Tryz.prog 308 #[.pointer (some ⟨b,0,none⟩),.int .i64 v] w fun e w'=>e=.returned (.int .i64 (dpE Q v))/\Turn (WkI b) w w' F (dpS Q v):=by
 refine u308 ?_
 rw[t308]
 refine⟨(wwhere_ok h v).mono ?_⟩
 rintro e w1 ⟨rfl,rfl⟩
 refine⟨_,_,rfl,fun g=>by simp at g,fun _=>⟨fun g1=>?_,fun g1=>?_⟩⟩
 ·have hn:whE_Work Q v=none:=by unfold whP at g1;cases hw:whE_Work Q v with|none=>rfl|some c=>rw[hw]at g1;simp at g1
  rw[dpE,dpS,hn]
  exact⟨rfl,Turn.same h⟩
 ·obtain⟨o,g,h,hI⟩:=h
  rcases wh_cases (show once Q from hI.one) v with⟨k1,_⟩|⟨i,hi,hv,k1,_⟩
  ·unfold whP at g1;rw[k1]at g1;simp at g1
  ·rw[dpE,dpS,whP,k1]
   simp only
   rw[ix_of,rowW_at hi]
   have hID:=hI.drop hi hv
   have hp:=hI.pos
   simp only at hp
   obtain⟨b2,b3,F1,hm,⟨p,c,hB⟩,hmt⟩:=h.mp
   obtain⟨w2,hr,hT⟩:=run_del mpT_Work hm v 3 0
   obtain⟨F2,q1,q2,q3⟩:=hmt _ _ hT
   obtain⟨b2',b3',F3,hs,⟨p',c',hB'⟩,hst⟩:=q1.slot
   refine⟨_,rfl,_,hB.cell rfl,w2,hr,_,rfl,_,hB'.cell rfl,⟨(slGive_ok hs v).mono ?_⟩⟩
   rintro e w3 ⟨rfl,hT3⟩
   obtain⟨F4,r1,r2,r3⟩:=hst _ _ hT3
   obtain⟨b2,b3,a,c,bi,F5,hB,hc4,hq,htq⟩:=r1.q (i:=i) hi
   simp only at hB
   refine⟨_,rfl,⟨(wlist_ok_WorkF hB hc4 hi (by omega)).mono ?_⟩⟩
   rintro e w4 ⟨rfl,rfl⟩
   refine⟨_,rfl,⟨(qdrop_ok hq v).mono ?_⟩⟩
   rintro e w5 ⟨rfl,hT5⟩
   have e1:dropE (q32_Work Q[i]) v=0:=by unfold dropE q32_Work;rw[if_pos hv]
   refine⟨_,rfl,by rw[e1],?_⟩
   have h7:=htq _ _ hT5
   exact Turn.wki (Turn.next q1 q2 q3 (Turn.next r1 r2 r3 h7)) hID
theorem wqueue_ok (h:WkI b w F Q) (hTab:Tab w) (cpu:Int):Calls Tryz.prog 68 #[.pointer (some ⟨b,0,none⟩),.int .i64 cpu] w fun e w'=>e=.returned (.tuple #[.int .i64 (quE Q cpu).1,.int .i64 (quE Q cpu).2])/\Turn (WkI b) w w' F (quS Q cpu):=by
 refine u68 ?_
 rw[t68]
 refine⟨(wmay_ok h cpu (-1)).mono ?_⟩
 rintro e w1 ⟨rfl,rfl⟩
 refine⟨_,rfl,fun g=>?_,fun g=>?_⟩
 ·have hn:¬inW Q cpu (-1):=fun h=>by rw[if_pos h]at g;simp at g
  rw[quE,quS,if_neg hn,if_neg hn,if_neg hn]
  exact⟨rfl,Turn.same h⟩
 ·have hc:inW Q cpu (-1):=Classical.byContradiction fun h=>by rw[if_neg h]at g;simp at g
  rw[quE,quS,if_pos hc,if_pos hc]
  obtain⟨i,hi,rfl,hix⟩:=inW_at hc (by omega)
  rw[rowW_at hi,ix_of]
  obtain⟨o,g,h,hI⟩:=h
  have hp:=hI.pos
  simp only at hp
  obtain⟨b2,b3,F1,hs,⟨p,c,hB⟩,hst⟩:=h.slot
  refine⟨_,rfl,_,hB.cell rfl,⟨(slTake_ok hTab hs).mono ?_⟩⟩
  rintro e w2 ⟨rfl,hT⟩
  obtain⟨F2,q1,q2,q3⟩:=hst _ _ hT
  rcases freeId_take hI with⟨j,f1,f2⟩|⟨f1,f2,f3⟩
  ·obtain⟨hIQ,hnot,hj⟩:=hI.queue hi f2
   obtain⟨p1,p2⟩:=hI.push hi (v:=(j:Int)+1) (by omega) hnot
   simp only[f1,f2]
   obtain⟨b2',b3',F3,hm,⟨p',c',hB'⟩,hmt⟩:=q1.mp
   obtain⟨w3,hr,hT3⟩:=run_put mpT_Work hm ((j:Int)+1) ((i:Int)-1)
   obtain⟨F4,r1,r2,r3⟩:=hmt _ _ hT3
   obtain⟨b2,b3,a,c,bi,F5,hB,hc4,hq,htq⟩:=r1.q (i:=i) hi
   simp only at hB
   refine⟨_,_,rfl,fun g=>by simp at g,fun _=>⟨_,rfl,_,hB'.cell rfl,w3,hr,⟨(wlist_ok_WorkF hB hc4 hi (by omega)).mono ?_⟩⟩⟩
   rintro e w4 ⟨rfl,rfl⟩
   refine⟨_,rfl,⟨(qpush_ok hq _).mono ?_⟩⟩
   rintro e w5 ⟨rfl,hT5⟩
   simp only[p1,p2]at hT5⊢
   have h7:=htq _ _ hT5
   exact⟨_,rfl,rfl,Turn.wki (Turn.next q1 q2 q3 (Turn.next r1 r2 r3 h7)) hIQ⟩
  ·simp only[f1,f2]
   rw[f3]at q1
   exact⟨_,_,rfl,fun _=>⟨rfl,Turn.wki ⟨F2,q1,q2,q3⟩ hI⟩,fun g=>by simp at g⟩
theorem wunbind_ok (h:WkI b w F Q) (cpu:Int):Calls Tryz.prog 358 #[.pointer (some ⟨b,0,none⟩),.int .i64 cpu] w fun e w'=>e=.returned (.tuple #[.int .i64 (unE Q cpu).1,.int .i64 (unE Q cpu).2])/\Turn (WkI b) w w' F (unS Q cpu):=by
 refine u358 ?_
 rw[t358]
 refine⟨(wmay_ok h cpu 0).mono ?_⟩
 rintro e w1 ⟨rfl,rfl⟩
 refine⟨_,rfl,fun g=>?_,fun g=>?_⟩
 ·have hn:¬inW Q cpu 0:=fun h=>by rw[if_pos h]at g;simp at g
  rw[unE,unS,if_neg hn,if_neg hn,if_neg hn]
  exact⟨rfl,Turn.same h⟩
 ·have hc:inW Q cpu 0:=Classical.byContradiction fun h=>by rw[if_neg h]at g;simp at g
  rw[unE,unS,if_pos hc,if_pos hc]
  obtain⟨i,hi,rfl,hix⟩:=inW_at hc (by omega)
  have h0:0<i:=by unfold inW at hc;omega
  rw[rowW_at hi,ix_of]
  obtain⟨o,g,h,hI⟩:=h
  have hp:=hI.pos
  simp only at hp
  obtain⟨b2,b3,a,c,bi,F1,hB,hc4,hq,htq⟩:=h.q (i:=i) hi
  simp only at hB hq htq
  refine⟨(wlist_ok_WorkF hB hc4 hi (by omega)).mono ?_⟩
  rintro e w2 ⟨rfl,rfl⟩
  refine⟨_,rfl,⟨(qpop_ok hq).mono ?_⟩⟩
  rintro e w3 ⟨rfl,hT⟩
  obtain⟨F2,q1,q2,q3⟩:=htq _ _ hT
  cases hl:Q[i]with
  | nil=>
   have e2:Q.set i []=Q:=by rw[<-hl,List.set_getElem_self]
   simp only[q32_Work,hl,List.tail_nil,e2]at q1
   exact⟨_,_,rfl,fun _=>⟨rfl,Turn.wki ⟨F2,q1,q2,q3⟩ hI⟩,fun g=>by simp[frontE,q32_Work]at g⟩
  | cons v l=>
   obtain⟨hIU,hnot,hr⟩:=hI.unbind hi h0 hl
   simp only[q32_Work,hl,List.tail_cons]at q1
   have hz:0<Q.length:=by omega
   have e0:rowW Q (-1)=Q[0]:=rowW_at (i:=0) hz
   obtain⟨p1,p2⟩:=hI.push hz hr hnot
   simp only[e0]
   obtain⟨b2',b3',F3,hm,⟨p',c',hB'⟩,hmt⟩:=q1.mp
   obtain⟨w4,hrn,hT3⟩:=run_put mpT_Work hm v (-1)
   obtain⟨F4,r1,r2,r3⟩:=hmt _ _ hT3
   have hz2:0<(Q.set i l).length:=by simpa using hz
   obtain⟨b2,b3,a,c,bi,F5,hB,hc4,hq,htq⟩:=r1.q (i:=0) hz2
   simp only[List.length_set]at hB
   have hrow:(Q.set i l)[0]=Q[0]:=List.getElem_set_ne (by omega) hz2
   simp only[hrow]at hq
   refine⟨_,_,rfl,fun g=>by simp[frontE,q32_Work]at g,fun _=>⟨_,rfl,_,hB'.cell rfl,w4,hrn,⟨(wlist_ok_WorkF hB hc4 hz (by omega)).mono ?_⟩⟩⟩
   rintro e w5 ⟨rfl,rfl⟩
   refine⟨_,rfl,⟨(qpush_ok hq _).mono ?_⟩⟩
   rintro e w6 ⟨rfl,hT5⟩
   have hfr:(frontE (32,v::l)).1=v:=rfl
   simp only[q32_Work]at p1 p2 hT5⊢
   simp only[hfr,p1,p2]at hT5⊢
   have h7:=htq _ _ hT5
   exact⟨_,rfl,rfl,Turn.wki (Turn.next q1 q2 q3 (Turn.next r1 r2 r3 h7)) hIU⟩
theorem dp_head {i:Nat} (hO:once Q) (hi:i<Q.length) {v:Int} (hv:v∈Q[i]):dpE Q v=0:=by rw[dpE,wh_in hO hi hv]
theorem wtake_ok (h:WkI b w F Q) (cpu:Int):Calls Tryz.prog 223 #[.pointer (some ⟨b,0,none⟩),.int .i64 cpu] w fun e w'=>e=.returned (.tuple #[.int .i64 (taE Q cpu).1,.int .i64 (taE Q cpu).2])/\Turn (WkI b) w w' F (taS Q cpu):=by
 refine u223 ?_
 rw[t223]
 refine⟨(wmay_ok h cpu 0).mono ?_⟩
 rintro e w1 ⟨rfl,rfl⟩
 refine⟨_,rfl,fun g=>?_,fun g=>⟨fun w2 hN=>?_⟩⟩
 ·have hn:¬inW Q cpu 0:=fun h=>by rw[if_pos h]at g;simp at g
  rw[taE,taS,if_neg hn,if_neg hn,if_neg hn]
  exact⟨rfl,Turn.same h⟩
 ·have hc:inW Q cpu 0:=Classical.byContradiction fun h=>by rw[if_neg h]at g;simp at g
  rw[taE,taS,if_pos hc,if_pos hc]
  have hU:=hN.upd no
  have hC:Cells w2 (some ⟨w1.heap.size,0,none⟩) (([cpu,-1]:List Int).map (Value.int .i64)):=(Sl.new (n:=2) (sz:=1) hN (by simp) (by decide)).cells
  have h2:WkI b w2 F Q:=(Frame.wki b).upd h hU (fun _ _ h=>h)
  refine⟨WP_loop okProg (M:=M223) (σ:=Nat) (fun j=>e223_1 (some ⟨b,0,none⟩) (some ⟨w1.heap.size,0,none⟩) 2 2 2 (j:Int)) (fun j w'=>j<=2/\Upd no w2 w'/\(1<=j->rowW Q cpu=[])/\(2<=j->rowW Q (-1)=[])) (fun j _=>2-j) 0 ⟨rfl,rfl,rfl,rfl,trivial⟩ ⟨by omega,Upd.refl _ _,fun h=>by omega,fun h=>by omega⟩ ?_⟩
  rintro j w3 ⟨j1,hU3,k1,k2⟩
  rw[t223_1]
  have h3:WkI b w3 F Q:=(Frame.wki b).upd h2 hU3 (fun _ _ h=>h)
  have hUw:Upd no w1 w3:=hU.and hU3
  refine⟨fun g=>?_,fun g=>?_⟩
  ·have hj:j<2:=by simp at g;omega
   obtain⟨a0,ha0,hc0⟩:=(hC.no hU3).at1 (i:=j) (l:=([cpu,-1]:List Int)) (by simp;omega)
   obtain⟨i,hi,hcpu,hix⟩:=inW_at hc (by omega)
   subst hcpu
   have hz:0<Q.length:=by omega
   have ei:=rowW_at hi
   have e0:rowW Q (-1)=Q[0]:=rowW_at (i:=0) hz
   rw[ei,e0]
   rw[ei]at k1
   rw[e0]at k2
   obtain⟨k,hk,hvk,hcase⟩:∃k:Nat,∃hk:k<Q.length,([(i:Int)-1,-1]:List Int)[j]'(by simp;omega)=(k:Int)-1/\((j=0/\k=i)∨(j=1/\k=0)):=by
    have:j=0∨j=1:=by omega
    rcases this with rfl|rfl
    ·exact⟨i,hi,rfl,.inl ⟨rfl,rfl⟩⟩
    ·exact⟨0,hz,rfl,.inr ⟨rfl,rfl⟩⟩
   rw[hvk]at hc0
   obtain⟨o,gm,hk3,hI⟩:=id h3
   have hp:=hI.pos
   simp only at hp
   obtain⟨b2,b3,a,c,bi,F5,hB,hc4,hq,htq⟩:=hk3.q (i:=k) hk
   simp only at hB hq
   refine⟨⟨by omega,by omega⟩,a0,ha0,_,hc0,⟨(wlist_ok_WorkF hB hc4 hk (by omega)).mono ?_⟩⟩
   rintro e w4 ⟨rfl,rfl⟩
   refine⟨_,rfl,⟨(qfront_ok hq).mono ?_⟩⟩
   rintro e w5 ⟨rfl,hU5⟩
   have h5:WkI b w5 F Q:=(Frame.wki b).upd h3 hU5 (fun _ _ h=>h)
   cases hl:Q[k]with
   | nil=>
    refine⟨_,_,rfl,fun g=>by simp[frontE,q32_Work]at g,fun _=>⟨j+1,⟨rfl,rfl,rfl,by rw[w64 (by omega)];rfl,trivial⟩,⟨by omega,hU3.and hU5,fun _=>?_,fun _=>?_⟩,by omega⟩⟩
    ·rcases hcase with⟨rfl,rfl⟩|⟨rfl,rfl⟩
     ·exact hl
     ·exact k1 (by omega)
    ·rcases hcase with⟨rfl,rfl⟩|⟨rfl,rfl⟩
     ·omega
     ·exact hl
   | cons u l=>
    refine⟨_,_,rfl,fun _=>⟨(wdrop_ok_WorkF h5 _).mono ?_⟩,fun g=>by simp[frontE,q32_Work]at g⟩
    have hfr:(frontE (q32_Work (u::l))).1=u:=rfl
    rw[hfr,dp_head (show once Q from hI.one) hk (by rw[hl];simp)]
    rintro e w6 ⟨rfl,hT⟩
    have hTw:=Turn.next h5 (hUw.and hU5).nn (fun _ h=>.inl h) hT
    rcases hcase with⟨rfl,rfl⟩|⟨rfl,rfl⟩
    ·rw[hl]
     exact⟨_,rfl,rfl,hTw⟩
    ·rw[k1 (by omega),hl]
     exact⟨_,rfl,rfl,hTw⟩
  ·have:j=2:=by simp at g;omega
   subst this
   rw[k1 (by omega),k2 (by omega)]
   exact⟨rfl,F,h3,hUw.nn,fun _ h=>.inl h⟩
def okC_WorkF (n:Int):Prop:=1<=n/\n<=64
def newQ (n:Int):QL:=List.replicate (n.toNat+1) []
theorem WI.new {n:Int} (h:okC_WorkF n):WI (List.replicate 32 false,(fun _=>none,0),newQ n):=by
 have hk:∀k,(List.replicate 32 false).getD k false=false:=fun k=>by
  rw[List.getD_eq_getElem?_getD,List.getElem?_replicate];split<;>rfl
 unfold okC_WorkF at h
 refine⟨by simp,fun v=>by simp only[newQ,ct_new];omega,fun v=>?_,fun v=>?_,by simp[newQ];omega⟩
 ·simp only[newQ,ct_new]
  unfold hasE_Slot
  rw[hk]
  simp
 ·simp only[newQ]
  rw[wh_no (ct_new _ _)]
theorem wnew_ok_WorkF (n:Int) (w:World):Calls Tryz.prog 44 #[.int .i64 n] w fun e w'=>
  (¬okC_WorkF n/\e=.returned (.tuple #[.pointer none,.int .i64 2])/\w'=w)∨
  (okC_WorkF n/\∃b F,e=.returned (.tuple #[.pointer (some ⟨b,0,none⟩),.int .i64 0])/\WkI b w' F (newQ n)/\Upd no w w'/\∀i,F i->w.heap.size<=i):=by
 refine u44 ?_
 rw[t44]
 refine⟨fun g1=>⟨fun g2=>.inl ⟨?_,rfl,rfl⟩,fun g2=>?_⟩,fun g1=>.inl ⟨?_,rfl,rfl⟩⟩
 ·unfold okC_WorkF;simp at g2;omega
 ·have g1:¬n<1:=by simpa using g1
  have g2:¬64<n:=by simpa using g2
  obtain⟨k,rfl⟩:∃k:Nat,n=k:=⟨n.toNat,by omega⟩
  have ek:IntKind.wrap .i64 ((k:Int)+1)=((k+1:Nat):Int):=by rw[w64 (by omega)];omega
  refine⟨(slNew_ok 32 w).mono ?_⟩
  rintro e w1 hh
  obtain⟨_,b2,F1,rfl,hQ,hU,hF⟩:=hh.resolve_left (fun h=>absurd (by omega) h.1)
  have hM:Mine w w1 (SlO b2) (List.replicate 32 false):=Mine.new (Upd.refl _ _) hU hQ hF
  clear hU hQ hF
  refine⟨_,_,rfl,fun g=>by simp at g,fun _=>⟨fun w2 hN2=>⟨fun w3 hN=>?_⟩⟩⟩
  replace hM:Mine w w2 (Star (SlO b2) (MapO w1.heap.size (Value.int .i64))) (List.replicate 32 false,(fun _=>none,0)):=hM.add (hN2.upd no) (MapO.new hN2) (fun i hi=>Nat.le_of_eq hi.symm)
  generalize w1.heap.size=b3 at hM hN⊢
  replace hM:Mine w w3 (Star (Star (SlO b2) (MapO b3 (Value.int .i64))) (Tq FqO w2.heap.size 207 208 (wkE b2 b3))) ((List.replicate 32 false,(fun _=>none,0)),[]):=hM.add (hN.upd no) (Tq.nil hN rfl) (fun i hi=>Nat.le_of_eq hi.symm)
  generalize w2.heap.size=b at hM⊢
  rw[ek]
  refine⟨WP_loop okProg (M:=M44) (σ:=Nat) (fun j=>e44_1 (some ⟨b,0,none⟩) ((k+1:Nat):Int) (j:Int)) (fun j w'=>j<=k+1/\Mine w w' (Star (Star (SlO b2) (MapO b3 (Value.int .i64))) (Tq FqO b 207 208 (wkE b2 b3))) ((List.replicate 32 false,(fun _=>none,0)),List.replicate j (q32_Work []))) (fun j _=>k+1-j) 0 ⟨rfl,rfl,rfl,trivial⟩ ⟨by omega,hM⟩ ?_⟩
  clear hM hN hN2
  rintro j w3 ⟨j1,hM⟩
  rw[t44_1]
  refine⟨fun g=>?_,fun g=>?_⟩
  ·have hj:j<k+1:=by simp at g;omega
   refine⟨(new_ok_Fifo 32 w3).mono ?_⟩
   rintro e w4 hh
   obtain⟨_,bq,G,rfl,hQ,hU,hG⟩:=hh.resolve_left (fun h=>absurd (by omega) h.1)
   obtain⟨F2,hA,hT⟩:=hM.right
   obtain⟨p,c,hB,hgo⟩:=Tq.push elQ_Work (k:=1) (fun _ _ _ _ _ _=>rfl) (fun _ _ _=>by simp[wkE]) hA (by simp;omega) hU hQ hG
   refine⟨_,_,rfl,fun g=>by simp at g,fun _=>⟨_,rfl,_,_,_,hB.cell rfl,⟨fun w5 hN=>?_⟩⟩⟩
   obtain⟨p',c',w6,hr,hK⟩:=hgo w5 hN 205
   refine⟨_,_,_,w6,hr,_,rfl,hK _ fun w7 h7=>?_⟩
   have h8:=hT _ _ h7
   refine⟨j+1,⟨rfl,rfl,by rw[w64 (by omega)];rfl,trivial⟩,⟨by omega,?_⟩,by omega⟩
   rw[List.replicate_succ' (n:=j)]
   exact h8
  ·have:j=k+1:=by simp at g;omega
   subst this
   obtain⟨F,hF1,hF2,hF3⟩:=hM
   refine .inr ⟨⟨by omega,by omega⟩,b,F,rfl,⟨_,_,⟨b2,b3,?_⟩,WI.new ⟨by omega,by omega⟩⟩,hF2,hF3⟩
   simp only[newQ,List.map_replicate,Int.toNat_natCast]
   exact hF1
 ·unfold okC_WorkF;simp at g1;omega
end
end Go.Dav
