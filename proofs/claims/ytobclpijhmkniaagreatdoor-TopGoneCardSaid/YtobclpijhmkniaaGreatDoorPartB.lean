/- What functions of the program come to, part 2; the texts are made small to keep within a claim. -/
import Derived.ArgAppend
import Derived.DataElems
import Derived.Laws.MathBits
import Derived.Lib.LaidTab
import Derived.Deep.OwnRows
import Derived.MapKept
import Derived.Test.YtobclpijhmkniaaGreatDoorPartA
set_option linter.unusedVariables false
set_option linter.unusedSimpArgs false
set_option linter.unusedSectionVars false
namespace Go.Dav
open Go.Proofs
open Code renaming loop→bj
open _root_.Option renaming none→ag,some→aa,map_some→fX,map_eq_some_iff→jZ
open Sem renaming run→aZ
open Builtin renaming append_→bM,delete_→gW,zeroCells→vW,firstCells→td,lenOf→rP,copy_→nX,len_→jY
open Result renaming ok→a7,andThen→rQ
open _root_.Bool renaming false→ae,true→ah,true_and→fc,eq_iff_iff→gB,false_and→iI,and_eq_true→br,and_true→mu,false_eq_true→gz
open _root_.Int renaming tmod→eO,toNat→aG,fdiv_eq_ediv_of_nonneg→uB,le_refl→fW,toNat_natCast→bK,tdiv→iH,tdiv_eq_ediv_of_nonneg→wj,tmod_eq_emod_of_nonneg→px
open Fn renaming func→aS
open Instr renaming lookup→dg,mapUpdate→gy,makeSlice→lA
open BinOp renaming and→aM
open _root_.List renaming length→iX,take→qG,drop→qH,toArray→dB,getElem?_eq_some_iff→dI,getElem?_take→gV,getElem?_drop→gD,length_drop→kz,length_take→eh,length_append→cz,eq_nil_of_length_eq_zero→mq,append_assoc→iY,take_of_length_le→qB,flatMap_cons→n4,getElem?_append_left→js,getElem?_append_right→kE,foldl_cons→nY,range→b8,range_succ→ob,map_append→fj,filter_append→rU,mem_filter→gC,mem_map→cv,mem_range→dh,length_filter_le→jW,take_succ_eq_append_getElem→ey,foldl_append→lx,take_length→dA,ext_getElem?→cT,getElem?_append→ng,getElem_mem→cx,mem_append→dS,mem_singleton→fV,filter_congr→nZ,filter_map→uz,length_map→bO,mem_cons→eN,map_map→uA,getElem?_map→eZ,getD_eq_getElem?_getD→aQ,getElem?_eq_getElem→cS,map_cons→pk,find?_eq_none→mr,replicate→aD,getElem?_eq_none→fB,length_replicate→fC,getElem?_set→cB,length_set→bZ,getElem?_replicate→iJ,map_set→eY,length_cons→im,length_nil→nm,set_cons_zero→rV,set_cons_succ→rW,getElem_cons_succ→uC,findIdx?_eq_none_iff→rT,findIdx?_eq_some_iff_getElem→nk,getElem_of_mem→tg,getElem_map→qI,length_singleton→qJ,count_append→ml,count_pos_iff→rS,mem_iff_getElem?→pf,nodup_nil→iK,nodup_append→iW
open IntKind renaming u8→cu,wrap→aT,bits→kF,signed→ju,max→oa,u64→ef
open _root_.Nat renaming le_refl→b7,le_trans→aX,lt_of_lt_of_le→jV,le_of_eq→bG,zero_add→fv,zero_le→cZ,mul_le_mul_right→fu,min_eq_left→nj,add_mul→lz,add_zero→n5,mul_one→ez,mod_eq_of_lt→jt,and_lt_two_pow→v8,testBit_and→vY
open _root_.Array renaming getElem?_eq_some_iff→we,ext'→oo
open World renaming cell?→bf,cell?_of_block→tf
open Addr renaming add→bh,add_add→dN
open Value renaming int→ay,tuple→wa,slice→ft
open _root_.BitVec renaming ofInt→gw,eq_of_toNat_eq→wg,toNat_ofNat→nf
open _root_.Iff renaming rfl→bB
open _root_.Classical renaming byContradiction→eu
open Ending renaming returned→cj
open _root_.Prod renaming fst→eX
section
open Value IntKind Ending World Addr Tryz
open Value renaming pointer→ab,slice→aj,tuple→aw,bool→o7
set_option maxRecDepth 100000
noncomputable section
def M8:Mt:={N:=160,keep:=kq 0 [(1,[0]),(1,[0,11]),(1,[2,3]),(1,[0,4]),(8,[0,5]),(1,[5,140,141]),(1,[5,140,141,142]),(2,[5,140,141]),(1,[2,3])],bQ:=[(14,(.range 16))],bk:=[(0,[5]),(1,[5,140,141])],lk:=[(13,[5,140,141])]}
def c8:=bc f8
def UX:=c8.sr.sr.sr.sr.sr.sr.sr.sr.sr.sr.sr.sr
def Mr:=c8.sr.sr.sr.sr.sr.sr.sr.sr.sr.sr.sr.sl.sr.sl.sl
def GZ (x:Option Addr) (x1 x2:Int):Env:=[vP 5 x,vI 140 x1,vI 141 x2]
def Ps (R:RT):=aW 0 [5] (SQ M8 UX (Rt f8 R) (Rt f8 R))
theorem u8:UT 8 M8 c8 f8:=u_ func8 (by kernel_rfl)
theorem t8 (x w R):den prog M8 c8 (iL 0 [I x]) w (Rt f8 R)=
(Fz (decide (x<1)) (Fo (decide (x>64)) (R (Z (aw #[ab ag,I 2])) w) (Cu 11 [I x] w λn w'=>rM w' λr w'=>aI w' [ab ag,ab ag,ab ag,ab ag,ab ag,ab ag,ab ag,ab ag,ab ag,ab ag,ab ag,ab ag,ab ag,ab ag,N3,I x,int .u64 n,int .u64 n,I 0,I 1073741824,map (aa r)] 94 λp w'=>Call prog 34 [I x] w' λe w'=>∃b n,e=Z (aw #[ab b,I n])/\Cp 33 [ab b,I n] w' λc w'=>Call prog 36 [I x] w' λe w'=>∃d n,e=Z (aw #[ab d,I n])/\Cp 35 [ab d,I n] w' λf w'=>∃a,aa p=aa a/\Wr w' (add (a.add 0) 0) [ab c] λw'=>∃a,aa p=aa a/\Wr w' (add (a.add 0) 1) [ab f] λw'=>Call prog 38 [I x] w' λe w'=>∃g n,e=Z (aw #[ab g,I n])/\Cp 37 [ab g,I n] w' λh w'=>Call prog 40 [I x] w' λe w'=>∃i n,e=Z (aw #[ab i,I n])/\Cp 39 [ab i,I n] w' λj w'=>∃a,aa p=aa a/\Wr w' (add (a.add 0) 2) [ab h] λw'=>∃a,aa p=aa a/\Wr w' (add (a.add 0) 3) [ab j] λw'=>Call prog 42 [I x] w' λe w'=>∃k n,e=Z (aw #[ab k,I n])/\Cp 41 [ab k,I n] w' λl w'=>Call prog 44 [I x] w' λe w'=>∃m n,e=Z (aw #[ab m,I n])/\Cp 43 [ab m,I n] w' λo w'=>∃a,aa p=aa a/\Wr w' (add (a.add 0) 4) [ab l] λw'=>∃a,aa p=aa a/\Wr w' (add (a.add 0) 5) [ab o] λw'=>Call prog 46 [I x] w' λe w'=>∃q n,e=Z (aw #[ab q,I n])/\Cp 45 [ab q,I n] w' λs w'=>Call prog 48 [I x,I 12] w' λe w'=>∃t n,e=Z (aw #[ab t,I n])/\Cp 47 [ab t,I n] w' λu w'=>∃a,aa p=aa a/\Wr w' (add (a.add 0) 6) [ab s] λw'=>∃a,aa p=aa a/\Wr w' (add (a.add 0) 7) [ab u] λw'=>Call prog 50 [I x] w' λe w'=>∃v n,e=Z (aw #[ab v,I n])/\Cp 49 [ab v,I n] w' λy w'=>Call prog 52 [I x] w' λe w'=>∃z n,e=Z (aw #[ab z,I n])/\Cp 51 [ab z,I n] w' λA w'=>∃a,aa p=aa a/\Wr w' (add (a.add 0) 8) [ab y] λw'=>∃a,aa p=aa a/\Wr w' (add (a.add 0) 9) [ab A] λw'=>Call prog 54 [I x] w' λe w'=>∃B n,e=Z (aw #[ab B,I n])/\Cp 53 [ab B,I n] w' λC w'=>Call prog 56 [I x] w' λe w'=>∃D n,e=Z (aw #[ab D,I n])/\Cp 55 [ab D,I n] w' λE w'=>∃a,aa p=aa a/\Wr w' (add (a.add 0) 12) [ab C] λw'=>∃a,aa p=aa a/\Wr w' (add (a.add 0) 13) [ab E] λw'=>aI w' [int .u64 0,int .u64 0] 132 λF w'=>aI w' [ab ag,map ag] 136 λG w'=>∃a,aa p=aa a/\Wr w' (add (a.add 0) 10) [ab (aa F)] λw'=>∃a,aa p=aa a/\Wr w' (add (a.add 0) 11) [ab (aa G)] λw'=>Cut (WP prog 160 (bj Mr) (GZ (aa p) x 0) w' (Ps R)))) (R (Z (aw #[ab ag,I 2])) w)):=by kernel_rfl
theorem adV (x x1 x2 w B R):den prog M8 Mr (GZ x x1 x2) w (bd B (Ps R))=
(Fo (decide (x2<x1)) (Sm w λw'=>∃a,x=aa a/\Lq w' (add (a.add 0) 14) λp n c=>Call prog 58 [I 100,I 1000] w' λe w'=>∃b d,e=Z (aw #[ab b,I d])/\w'.cell? (add (a.add 0) 14)=aa (aj p n c)/\Cp 57 [ab b,I d] w' λf w'=>w'.cell? (add (a.add 0) 14)=aa (aj p n c)/\aI w' [ab f] 137 λk w'=>w'.cell? (add (a.add 0) 14)=aa (aj p n c)/\∃g h i j,aZ prog (bM #[90,90] 90 #[aj p n c,aj (aa k) 1 1]) w'=a7 (aj g h i) j/\∃a,x=aa a/\Wr j (add (a.add 0) 14) [aj g h i] λw'=>B [vP 5 x,vI 140 x1,(141,SV.v (I (wrap i64 (x2+1))))] w') (R (Z (aw #[ab x,I 0])) w)):=by kernel_rfl
def EP:Mt:={N:=107,keep:=kq 0 [(1,[0,3]),(1,[0,3,6]),(1,[4]),(1,[0,3,8]),(1,[0,3,8,9]),(1,[0,3,22]),(2,[4]),(1,[0,3,8,28]),(1,[4]),(1,[0,3,8,35]),(1,[4]),(6,[0,3,8,46]),(1,[4]),(6,[0,3,8,56]),(1,[4]),(1,[0,3,8,67]),(1,[0,3,71]),(2,[4]),(5,[0,3,8,84]),(1,[4]),(1,[0,3,8,93]),(1,[0,3,93]),(2,[4])],bQ:=[(5,(.range 12))],bk:=[(0,[0,3])],bD:=[(39,[0,3])]}
def Fw:=bc f12
def Kt:=Fw.sr.sr.sr
def M4 (x:Option Addr) (x1:Addr):Env:=[vP 0 x,(3,SV.v (ab (aa x1)))]
def Ou (R:RT):=Rt f12 R
theorem u12 {x x1 x2 x3 x4 x5 w R}:Uj (Calls prog 12 #[ab x,agg #[I x1,I x2,I x3,(int .u64 x4),I x5]] w R) (aI w [I x1,I x2,I x3,int .u64 x4,I x5] 33 λp w'=>Fo x.isNone (R (Z (N3)) w') (Li w' (p.add 0) λn=>Fo (n==1) (Sm w' λh=>∃n,h.cell? (p.add 1)=aa (I n)/\Fz (decide (n<0)) (∃n,h.cell? (p.add 1)=aa (I n)/\∃a,x=aa a/\∃b,h.cell? (a.add 15)=aa (I b)/\Fo (decide (n>=b)) (Call prog 61 [I 3] h λe w'=>∃p n c,e=Z (aj p n c)/\R (Z (aj p n c)) w') (∃n,h.cell? (p.add 1)=aa (I n)/\Call prog 62 [ab x,I n] h λe w'=>∃p n c,e=Z (aj p n c)/\R (Z (aj p n c)) w')) (Call prog 61 [I 3] h λe w'=>∃p n c,e=Z (aj p n c)/\R (Z (aj p n c)) w')) (Fo (n==2) (Li w' (p.add 4) λn=>Ci 63 [ab x,I n] w' λn w'=>Cq 61 [I n] w' λp n c w'=>R (Z (aj p n c)) w') (Fo (n==3) (Li w' (p.add 2) λn=>Lu w' (p.add 3) λb=>Ct 65 [ab x,I n,int .u64 b] w' λn d w'=>Cq 64 [I n,I d] w' λp n c w'=>R (Z (aj p n c)) w') (Fo (n==4) (Li w' (p.add 0) λn=>Li w' (p.add 1) λb=>Li w' (p.add 2) λd=>Lu w' (p.add 3) λf=>Li w' (p.add 4) λg=>Cq 66 [ab x,agg #[I n,I b,I d,int .u64 f,I g]] w' λp n c w'=>R (Z (aj p n c)) w') (Fo (n==5) (Li w' (p.add 0) λn=>Li w' (p.add 1) λb=>Li w' (p.add 2) λd=>Lu w' (p.add 3) λf=>Li w' (p.add 4) λg=>Cq 66 [ab x,agg #[I n,I b,I d,int .u64 f,I g]] w' λp n c w'=>R (Z (aj p n c)) w') (Fo (n==6) (Li w' (p.add 0) λn=>Li w' (p.add 1) λb=>Li w' (p.add 2) λd=>Lu w' (p.add 3) λf=>Li w' (p.add 4) λg=>Cq 66 [ab x,agg #[I n,I b,I d,int .u64 f,I g]] w' λp n c w'=>R (Z (aj p n c)) w') (Fo (n==7) (Li w' (p.add 0) λn=>Li w' (p.add 1) λb=>Li w' (p.add 2) λd=>Lu w' (p.add 3) λf=>Li w' (p.add 4) λg=>Cq 66 [ab x,agg #[I n,I b,I d,int .u64 f,I g]] w' λp n c w'=>R (Z (aj p n c)) w') (Fo (n==8) (Li w' (p.add 0) λn=>Li w' (p.add 1) λb=>Li w' (p.add 2) λd=>Lu w' (p.add 3) λf=>Li w' (p.add 4) λg=>Cq 66 [ab x,agg #[I n,I b,I d,int .u64 f,I g]] w' λp n c w'=>R (Z (aj p n c)) w') (Fo (n==9) (Li w' (p.add 0) λn=>Li w' (p.add 1) λb=>Li w' (p.add 2) λd=>Lu w' (p.add 3) λf=>Li w' (p.add 4) λg=>Cq 66 [ab x,agg #[I n,I b,I d,int .u64 f,I g]] w' λp n c w'=>R (Z (aj p n c)) w') (Fo (n==12) (Li w' (p.add 0) λn=>Li w' (p.add 1) λb=>Li w' (p.add 2) λd=>Lu w' (p.add 3) λf=>Li w' (p.add 4) λg=>Ci 67 [ab x,agg #[I n,I b,I d,int .u64 f,I g]] w' λn w'=>Cq 61 [I n] w' λp n c w'=>R (Z (aj p n c)) w') (Fo (n==13) (Li w' (p.add 0) λn=>Li w' (p.add 1) λb=>Li w' (p.add 2) λd=>Lu w' (p.add 3) λf=>Li w' (p.add 4) λg=>Ci 67 [ab x,agg #[I n,I b,I d,int .u64 f,I g]] w' λn w'=>Cq 61 [I n] w' λp n c w'=>R (Z (aj p n c)) w') (Fo (n==14) (Li w' (p.add 0) λn=>Li w' (p.add 1) λb=>Li w' (p.add 2) λd=>Lu w' (p.add 3) λf=>Li w' (p.add 4) λg=>Ci 67 [ab x,agg #[I n,I b,I d,int .u64 f,I g]] w' λn w'=>Cq 61 [I n] w' λp n c w'=>R (Z (aj p n c)) w') (Fo (n==15) (Li w' (p.add 0) λn=>Li w' (p.add 1) λb=>Li w' (p.add 2) λd=>Lu w' (p.add 3) λf=>Li w' (p.add 4) λg=>Ci 67 [ab x,agg #[I n,I b,I d,int .u64 f,I g]] w' λn w'=>Cq 61 [I n] w' λp n c w'=>R (Z (aj p n c)) w') (Fo (n==16) (Li w' (p.add 0) λn=>Li w' (p.add 1) λb=>Li w' (p.add 2) λd=>Lu w' (p.add 3) λf=>Li w' (p.add 4) λg=>Ci 67 [ab x,agg #[I n,I b,I d,int .u64 f,I g]] w' λn w'=>Cq 61 [I n] w' λp n c w'=>R (Z (aj p n c)) w') (Fo (n==17) (Li w' (p.add 0) λn=>Li w' (p.add 1) λb=>Li w' (p.add 2) λd=>Lu w' (p.add 3) λf=>Li w' (p.add 4) λg=>Ci 67 [ab x,agg #[I n,I b,I d,int .u64 f,I g]] w' λn w'=>Cq 61 [I n] w' λp n c w'=>R (Z (aj p n c)) w') (Fo (n==18) (Li w' (p.add 1) λn=>Fo (n==(-1:Int)) (∃a,x=aa a/\Lp w' (add (a.add 0) 5) λp=>Ct 68 [ab p,I (-1:Int)] w' λn b w'=>Cq 64 [I n,I b] w' λp n c w'=>R (Z (aj p n c)) w') (Li w' (p.add 0) λn=>Li w' (p.add 1) λb=>Li w' (p.add 2) λd=>Lu w' (p.add 3) λf=>Li w' (p.add 4) λg=>Cq 69 [ab x,agg #[I n,I b,I d,int .u64 f,I g]] w' λp n c w'=>R (Z (aj p n c)) w')) (Fo (n==10) (Li w' (p.add 0) λn=>Li w' (p.add 1) λb=>Li w' (p.add 2) λd=>Lu w' (p.add 3) λf=>Li w' (p.add 4) λg=>Cq 69 [ab x,agg #[I n,I b,I d,int .u64 f,I g]] w' λp n c w'=>R (Z (aj p n c)) w') (Fo (n==20) (Li w' (p.add 0) λn=>Li w' (p.add 1) λb=>Li w' (p.add 2) λd=>Lu w' (p.add 3) λf=>Li w' (p.add 4) λg=>Cq 69 [ab x,agg #[I n,I b,I d,int .u64 f,I g]] w' λp n c w'=>R (Z (aj p n c)) w') (Fo (n==21) (Li w' (p.add 0) λn=>Li w' (p.add 1) λb=>Li w' (p.add 2) λd=>Lu w' (p.add 3) λf=>Li w' (p.add 4) λg=>Cq 69 [ab x,agg #[I n,I b,I d,int .u64 f,I g]] w' λp n c w'=>R (Z (aj p n c)) w') (Fo (n==22) (Li w' (p.add 0) λn=>Li w' (p.add 1) λb=>Li w' (p.add 2) λd=>Lu w' (p.add 3) λf=>Li w' (p.add 4) λg=>Cq 69 [ab x,agg #[I n,I b,I d,int .u64 f,I g]] w' λp n c w'=>R (Z (aj p n c)) w') (Fo (n==26) (Li w' (p.add 0) λn=>Li w' (p.add 1) λb=>Li w' (p.add 2) λd=>Lu w' (p.add 3) λf=>Li w' (p.add 4) λg=>Cq 69 [ab x,agg #[I n,I b,I d,int .u64 f,I g]] w' λp n c w'=>R (Z (aj p n c)) w') (Fo (n==23) (Li w' (p.add 0) λn=>Li w' (p.add 1) λb=>Ci 70 [ab x,.bool (n==23),I b] w' λn w'=>Cq 61 [I n] w' λp n c w'=>R (Z (aj p n c)) w') (Fo (n==24) (Li w' (p.add 0) λn=>Li w' (p.add 1) λb=>Ci 70 [ab x,.bool (n==23),I b] w' λn w'=>Cq 61 [I n] w' λp n c w'=>R (Z (aj p n c)) w') (aP prog EP Kt (M4 x p) w' (Ou R)))))))))))))))))))))))))):=uj_ EP func12 (by kernel_rfl)
theorem acH (x x1 w R):den prog EP Kt (M4 x x1) w (Ou R)=
(Li w (x1.add 0) λn=>Li w (x1.add 1) λa=>Li w (x1.add 2) λb=>Lu w (x1.add 3) λd=>Li w (x1.add 4) λf=>Cq 71 [ab x,agg #[I n,I a,I b,int .u64 d,I f]] w λp n c w'=>R (Z (aj p n c)) w'):=by kernel_rfl
def Ku:=bc f13
theorem u13 {x w R}:Uj (Calls prog 13 #[ab x] w R) (Call prog 72 [ab x] w λe w'=>∃p a b d f g h i j k l m o q r n c,e=Z (agg #[ab p,ab a,ab b,ab d,ab f,ab g,ab h,ab i,ab j,ab k,ab l,ab m,ab o,ab q,aj r n c])/\R (Z (ab a)) w'):=uj_ {N:=6,keep:=kp 0 [[0],[2]]} func13 (by kernel_rfl)
def Ky:=bc f16
theorem u16 {x w R}:Uj (Calls prog 16 #[ab x] w R) (Fo x.isNone (R (Z (int .u64 0)) w) (∃a,x=aa a/\Lu w (a.add 17) λn=>R (Z (int .u64 n)) w)):=uj_ {N:=9,keep:=kp 0 [[0],[0,4],[2],[2]]} func16 (by kernel_rfl)
def K2:=bc f22
theorem u22 {x w R}:Uj (Calls prog 22 #[ab x] w R) (Fo x.isNone (R (Z (int .u64 0)) w) (∃a,x=aa a/\Lu w (a.add 16) λn=>R (Z (int .u64 n)) w)):=uj_ {N:=9,keep:=kp 0 [[0],[0,4],[2],[2]]} func22 (by kernel_rfl)
theorem u30 {x w R}:Uj (Calls prog 30 #[ab x] w R) (Call prog 72 [ab x] w λe w'=>∃p b a d f g h i j k l m o q r n c,e=Z (agg #[ab p,ab b,ab a,ab d,ab f,ab g,ab h,ab i,ab j,ab k,ab l,ab m,ab o,ab q,aj r n c])/\R (Z (ab a)) w'):=uj_ {N:=6,keep:=kp 0 [[0],[2]]} func30 (by kernel_rfl)
theorem u33 {x x1 w R}:Uj (Calls prog 33 #[ab x,I x1] w R) (R (Z (ab x)) w):=uj_ {N:=6,keep:=kp 0 [[0],[4]]} func33 (by kernel_rfl)
theorem u35 {x x1 w R}:Uj (Calls prog 35 #[ab x,I x1] w R) (R (Z (ab x)) w):=uj_ {N:=6,keep:=kp 0 [[0],[4]]} func35 (by kernel_rfl)
theorem u37 {x x1 w R}:Uj (Calls prog 37 #[ab x,I x1] w R) (R (Z (ab x)) w):=uj_ {N:=6,keep:=kp 0 [[0],[4]]} func37 (by kernel_rfl)
theorem u39 {x x1 w R}:Uj (Calls prog 39 #[ab x,I x1] w R) (R (Z (ab x)) w):=uj_ {N:=6,keep:=kp 0 [[0],[4]]} func39 (by kernel_rfl)
theorem u41 {x x1 w R}:Uj (Calls prog 41 #[ab x,I x1] w R) (R (Z (ab x)) w):=uj_ {N:=6,keep:=kp 0 [[0],[4]]} func41 (by kernel_rfl)
theorem u43 {x x1 w R}:Uj (Calls prog 43 #[ab x,I x1] w R) (R (Z (ab x)) w):=uj_ {N:=6,keep:=kp 0 [[0],[4]]} func43 (by kernel_rfl)
theorem u45 {x x1 w R}:Uj (Calls prog 45 #[ab x,I x1] w R) (R (Z (ab x)) w):=uj_ {N:=6,keep:=kp 0 [[0],[4]]} func45 (by kernel_rfl)
theorem u47 {x x1 w R}:Uj (Calls prog 47 #[ab x,I x1] w R) (R (Z (ab x)) w):=uj_ {N:=6,keep:=kp 0 [[0],[4]]} func47 (by kernel_rfl)
theorem u49 {x x1 w R}:Uj (Calls prog 49 #[ab x,I x1] w R) (R (Z (ab x)) w):=uj_ {N:=6,keep:=kp 0 [[0],[4]]} func49 (by kernel_rfl)
theorem u51 {x x1 w R}:Uj (Calls prog 51 #[ab x,I x1] w R) (R (Z (ab x)) w):=uj_ {N:=6,keep:=kp 0 [[0],[4]]} func51 (by kernel_rfl)
theorem u53 {x x1 w R}:Uj (Calls prog 53 #[ab x,I x1] w R) (R (Z (ab x)) w):=uj_ {N:=6,keep:=kp 0 [[0],[4]]} func53 (by kernel_rfl)
theorem u55 {x x1 w R}:Uj (Calls prog 55 #[ab x,I x1] w R) (R (Z (ab x)) w):=uj_ {N:=6,keep:=kp 0 [[0],[4]]} func55 (by kernel_rfl)
theorem u57 {x x1 w R}:Uj (Calls prog 57 #[ab x,I x1] w R) (R (Z (ab x)) w):=uj_ {N:=6,keep:=kp 0 [[0],[4]]} func57 (by kernel_rfl)
theorem u61 {x w R}:Uj (Calls prog 61 #[I x] w R) (Cq 64 [I 0,I x] w λp n c w'=>R (Z (aj p n c)) w'):=uj_ {N:=5,keep:=kp 0 [[0],[2]]} func61 (by kernel_rfl)
def vJ:Mt:={N:=77,keep:=kp 0 [[0,1],[0,1,5],[0,1,5,7],[0,1,7,24],[0,1,7],[0,1,7,38],[0,1,7,38,39],[4],[0,1,7,38,41],[],[4],[0,1,7,38,54],[],[4],[0,1,7,38,63],[4],[0,1,7,68],[],[4],[4]],bQ:=[(2,(.range 6)),(9,(.range 11))],bk:=[(0,[0,1,7])],bD:=[(5,[0,1,7])]}
def UQ:=bc f62
def y8:=UQ.sr.sr.sr.sr
def zr (x:Option Addr) (x1 x2:Int):Env:=[vP 0 x,vI 1 x1,vI 7 x2]
def zL (R:RT):=Rt f62 R
theorem u62 {x x1 w R}:Uj (Calls prog 62 #[ab x,I x1] w R) (∃a,x=aa a/\Lp w (add (a.add 0) 12) λp=>Call prog 113 [ab p,I x1] w λe w'=>∃b k n l m o C,e=Z (aw #[agg #[.bool b,.bool k,I n,I l,I m,I o],I C])/\aI w' [.bool ae,.bool ae,I 0,I 0,I 0,I 0] 226 λp w'=>Wr w' p [.bool b,.bool k,I n,I l,I m,I o] λw'=>Sm w' λc=>∃b,c.cell? (p.add 0)=aa (.bool b)/\∃d,c.cell? (p.add 1)=aa (.bool d)/\∃n,c.cell? (p.add 2)=aa (I n)/\∃f,c.cell? (p.add 3)=aa (I f)/\∃g,c.cell? (p.add 4)=aa (I g)/\∃h,c.cell? (p.add 5)=aa (I h)/\Call prog 115 [ab x,I x1] c λe w'=>∃q r s t u y z A B,e=Z (agg #[.bool q,.bool r,.bool s,.bool t,.bool u,.bool y,.bool z,.bool A,.bool B])/\(∀(j:Nat) (v:Value),[.bool b,.bool d,I n,I f,I g,I h][j]?=aa v->w'.cell? (p.add j)=aa v)/\Ci 114 [agg #[.bool b,.bool d,I n,I f,I g,I h],agg #[.bool q,.bool r,.bool s,.bool t,.bool u,.bool y,.bool z,.bool A,.bool B]] w' λn w'=>Lj w' (p.add 0) λb=>Fo b (∃a,x=aa a/\Lp w' (add (a.add 0) 12) λp=>Fo (n !=0) (Ci 116 [ab p,I x1,.bool (n !=9)] w' λi w'=>aP prog vJ y8 (zr x x1 n) w' (zL R)) (Ci 116 [ab p,I x1,.bool ae] w' λi w'=>aP prog vJ y8 (zr x x1 n) w' (zL R))) (aP prog vJ y8 (zr x x1 n) w' (zL R))):=uj_ vJ func62 (by kernel_rfl)
theorem adH (x x1 x2 w R):den prog vJ y8 (zr x x1 x2) w (zL R)=
(Fo (x2==0) (R (Z (N3)) w) (Fo (x2==1) (Sm w λw'=>∃a,x=aa a/\Lp w' (add (a.add 0) 12) λp=>∃a,x=aa a/\Li w' (a.add 18) λn=>Ct 117 [ab p,I x1,I n] w' λn b w'=>R (Z (N3)) w') (Fo (x2==2) (∃a,x=aa a/\Lp w (add (a.add 0) 10) λp=>Ci 118 [ab p,I x1] w λn w'=>R (Z (N3)) w') (Fo (x2==3) (Cq 119 [ab x,I x1] w λp n c w'=>R (Z (aj p n c)) w') (Fo (x2==9) (Cn 120 [ab x,I x1] w λw'=>R (Z (N3)) w') (Cq 121 [ab x,I x1,I x2] w λp n c w'=>R (Z (aj p n c)) w')))))):=by kernel_rfl
def vK:Mt:={N:=58,keep:=kp 0 [[0,1],[0,1,5,6],[0,1,5,6,20],[4],[0,1,5,25,26],[0,1,5,25,26,27],[0,1,5,7,25,26],[0,1,5,7,8,25,26],[0,1,5,7,8,25,26,40],[0,1,5,25,26],[0,1,5,25,26],[0,5],[4]],bk:=[(0,[0,5]),(1,[0,1,5,25,26])],bD:=[(11,[0,5])],lk:=[(5,[0,1,5,25,26])]}
def Me:=bc f63
def FH:=Me.sr.sr.sr.sr
def Mf:=Me.sr.sr.sr.sl.sr.sl.sl
def Nj (x:Option Addr) (x1:Int):Env:=[vP 0 x,vI 5 x1]
def GU (x:Option Addr) (x1 x2 x3 x4:Int):Env:=[vP 0 x,vI 1 x1,vI 5 x2,vI 25 x3,vI 26 x4]
def Ph (R:RT):=Rt f63 R
def Pj (R:RT):=aW 0 [0,5] (SQ vK FH (Rt f63 R) (Rt f63 R))
theorem u63 {x x1 w R}:Uj (Calls prog 63 #[ab x,I x1] w R) (∃a,x=aa a/\Li w (a.add 18) λn=>Ct 122 [I n,I x1] w λn b w'=>Fo (b !=0) (R (Z (I b)) w') (∃a,x=aa a/\Li w' (a.add 15) λc=>Cut (WP prog 58 (bj Mf) (GU x x1 n c 0) w' (Pj R)))):=uj_ vK func63 (by kernel_rfl)
theorem adI (x x1 w R):den prog vK FH (Nj x x1) w (Ph R)=
(∃a,x=aa a/\Wr w (a.add 18) [I x1] λw'=>∃a,x=aa a/\Lp w' (add (a.add 0) 2) λp=>Ci 124 [ab p,I x1] w' λn w'=>R (Z (I n)) w'):=by kernel_rfl
theorem adJ (x x1 x2 x3 x4 w B R):den prog vK Mf (GU x x1 x2 x3 x4) w (bd B (Pj R))=
(Fo (decide (x4<x3)) (∃a,x=aa a/\Lp w (add (a.add 0) 12) λp=>Call prog 113 [ab p,I x4] w λe w'=>∃b c n d f g l,e=Z (aw #[agg #[.bool b,.bool c,I n,I d,I f,I g],I l])/\aI w' [.bool ae,.bool ae,I 0,I 0,I 0,I 0] 226 λp w'=>Wr w' p [.bool b,.bool c,I n,I d,I f,I g] λw'=>Lj w' (p.add 0) λb=>Fo b (Lj w' (p.add 0) λb=>Lj w' (p.add 1) λh=>Li w' (p.add 2) λn=>Li w' (p.add 3) λi=>Li w' (p.add 4) λj=>Li w' (p.add 5) λk=>Cn 123 [ab x,I x4,agg #[.bool b,.bool h,I n,I i,I j,I k],I x1] w' λw'=>B [vP 0 x,vI 1 x1,vI 5 x2,vI 25 x3,(26,SV.v (I (wrap i64 (x4+1))))] w') (B [vP 0 x,vI 1 x1,vI 5 x2,vI 25 x3,(26,SV.v (I (wrap i64 (x4+1))))] w')) (aP prog vK FH (Nj x x2) w (Ph R))):=by kernel_rfl
def JJ:Mt:={N:=11,keep:=kp 0 [[0,1],[0,1,6],[0,1],[4]]}
def Mg:=bc f64
theorem u64:UT 64 JJ Mg f64:=u_ func64 (by kernel_rfl)
theorem t64 (x x1 w R):den prog JJ Mg (iL 0 [I x,I x1]) w (Rt f64 R)=
(Fo (x1 !=0) (aI w [I 1,I 0,I 0,I 0,I x1] 43 λp w'=>R (Z (aj (aa p) 1 1)) w') (aI w [I 1,I 0,I x,I 0,I x1] 43 λp w'=>R (Z (aj (aa p) 1 1)) w')):=by kernel_rfl
theorem u65 {x x1 x2 w R}:Uj (Calls prog 65 #[ab x,I x1,int .u64 x2] w R) (∃a,x=aa a/\Lp w (add (a.add 0) 0) λp=>Ct 125 [ab p,I x1,int .u64 x2] w λn b w'=>Fo (b==0) (∃a,x=aa a/\Li w' (a.add 15) λc=>c≠0/\Cn 126 [ab x,I n,I (eO n c)] w' λw'=>R (Z (aw #[I n,I b])) w') (R (Z (aw #[I n,I b])) w')):=uj_ {N:=34,keep:=kp 0 [[0,1,2],[0,8,9],[0,8,9,22],[8,9],[6,7]]} func65 (by kernel_rfl)
def s7:Mt:={N:=106,keep:=kp 0 [[0,3],[0,3,5,6],[0,3,5,6,18],[4],[0,3,5,23],[4],[0,3,5,30],[4],[0,3,5,40],[0,3,6],[0,3,6,55],[6],[4],[0,3,5,62],[4],[0,3,5,70],[4],[0,3,5,84],[4],[0,3],[],[4]],bQ:=[(1,(.range 14)),(9,(.range 11)),(18,(.range 10))],bk:=[(0,[0,3,5])],bD:=[(12,[6])],alts:=[(1,(.step 0 (.step 1 (.step 2 (.step 3 (.step 4 (.step 5 (.step 6 (.alt (.step 7 (.step 8 (.step 9 (.step 10 (.step 11 (.step 12 (.step 13 .fin))))))) (.step 11 (.step 7 (.step 8 (.step 9 (.step 10 (.step 12 (.step 13 .fin))))))))))))))))]}
def Mh:=bc f66
def UR:=Mh.sr.sr.sr
def wE:=Mh.sr.sr.sl.sl.sr.sr.sr.sr.sr.sr.sr.sl.sr
def wR (x:Int):Env:=[vI 6 x]
def xm (R:RT):=aW 0 [0,3,5] (SQ s7 UR (Rt f66 R) (Rt f66 R))
theorem u66 {x x1 x2 x3 x4 x5 w R}:Uj (Calls prog 66 #[ab x,agg #[I x1,I x2,I x3,(int .u64 x4),I x5]] w R) (aI w [I x1,I x2,I x3,int .u64 x4,I x5] 33 λp w'=>Sm w' λy=>∃a,x=aa a/\∃q,y.cell? (add (a.add 0) 0)=aa (ab q)/\∃n,y.cell? (p.add 2)=aa (I n)/\(Call prog 127 [ab q,I n] y λe w'=>∃r s t b u o i,e=Z (aw #[agg #[I r,int .u64 s,I t,.bool b,.bool u,I o],I i])/\aI w' [I 0,int .u64 0,I 0,.bool ae,.bool ae,I 0] 250 λd w'=>w'.cell? (p.add 2)=aa (I n)/\w'.cell? (add (a.add 0) 0)=aa (ab q)/\Wr w' d [I r,int .u64 s,I t,.bool b,.bool u,I o] λw'=>Fo (i !=0) (Cq 61 [I i] w' λp n c w'=>R (Z (aj p n c)) w') (Li w' (p.add 0) λn=>Fo (n==9) (Li w' (d.add 2) λn=>Cq 64 [I n,I 0] w' λp n c w'=>R (Z (aj p n c)) w') (Li w' (p.add 0) λn=>Fo (n==4) (Li w' (p.add 2) λn=>Li w' (d.add 0) λf=>Lu w' (d.add 1) λh=>Li w' (d.add 2) λj=>Lj w' (d.add 3) λb=>Lj w' (d.add 4) λk=>Li w' (d.add 5) λm=>Ci 128 [ab x,I n,agg #[I f,int .u64 h,I j,.bool b,.bool k,I m]] w' λn w'=>Cq 61 [I n] w' λp n c w'=>R (Z (aj p n c)) w') (Li w' (p.add 0) λn=>Fo (n==8) (Sm w' λg=>∃a,x=aa a/\∃l,g.cell? (add (a.add 0) 0)=aa (ab l)/\∃n,g.cell? (p.add 2)=aa (I n)/\∃f,g.cell? (p.add 3)=aa (int .u64 f)/\Call prog 129 [ab l,I n,int .u64 f] g λe w'=>∃n,e=Z (I n)/\Fo (n==0) (Li w' (p.add 2) λh=>Cn 130 [ab x,I h] w' λw'=>aP prog s7 wE (wR n) w' (xm R)) (aP prog s7 wE (wR n) w' (xm R))) (Lj w' (d.add 4) λb=>Li w' (p.add 0) λn=>Fo (!b==(n==7)) (Cq 61 [I 6] w' λp n c w'=>R (Z (aj p n c)) w') (Li w' (p.add 0) λn=>Fo (n==6) (Li w' (p.add 2) λn=>Li w' (d.add 0) λf=>Lu w' (d.add 1) λh=>Li w' (d.add 2) λj=>Lj w' (d.add 3) λb=>Lj w' (d.add 4) λk=>Li w' (d.add 5) λm=>Li w' (p.add 4) λv=>Ct 131 [ab x,I n,agg #[I f,int .u64 h,I j,.bool b,.bool k,I m],I v] w' λn z w'=>Cq 64 [I n,I z] w' λp n c w'=>R (Z (aj p n c)) w') (Li w' (p.add 0) λn=>Fo (n==5) (Sm w' λg=>∃a,x=aa a/\∃l,g.cell? (add (a.add 0) 1)=aa (ab l)/\∃n,g.cell? (p.add 2)=aa (I n)/\Call prog 132 [ab l,I n] g λe w'=>∃n,e=Z (I n)/\Cq 61 [I n] w' λp n c w'=>R (Z (aj p n c)) w') (Li w' (d.add 5) λn=>Cn 133 [ab x,I n] w' λw'=>Li w' (p.add 2) λn=>Cn 134 [ab x,I n] w' λw'=>Cq 61 [I 0] w' λp n c w'=>R (Z (aj p n c)) w'))))))))/\aI y [I 0,int .u64 0,I 0,.bool ae,.bool ae,I 0] 250 λd w'=>w'.cell? (p.add 2)=aa (I n)/\w'.cell? (add (a.add 0) 0)=aa (ab q)/\Call prog 127 [ab q,I n] w' λe w'=>∃n r s b u t o,e=Z (aw #[agg #[I n,int .u64 r,I s,.bool b,.bool u,I t],I o])/\Wr w' d [I n,int .u64 r,I s,.bool b,.bool u,I t] λw'=>Fo (o !=0) (Cq 61 [I o] w' λp n c w'=>R (Z (aj p n c)) w') (Li w' (p.add 0) λn=>Fo (n==9) (Li w' (d.add 2) λn=>Cq 64 [I n,I 0] w' λp n c w'=>R (Z (aj p n c)) w') (Li w' (p.add 0) λn=>Fo (n==4) (Li w' (p.add 2) λn=>Li w' (d.add 0) λi=>Lu w' (d.add 1) λf=>Li w' (d.add 2) λh=>Lj w' (d.add 3) λb=>Lj w' (d.add 4) λk=>Li w' (d.add 5) λj=>Ci 128 [ab x,I n,agg #[I i,int .u64 f,I h,.bool b,.bool k,I j]] w' λn w'=>Cq 61 [I n] w' λp n c w'=>R (Z (aj p n c)) w') (Li w' (p.add 0) λn=>Fo (n==8) (Sm w' λg=>∃a,x=aa a/\∃l,g.cell? (add (a.add 0) 0)=aa (ab l)/\∃n,g.cell? (p.add 2)=aa (I n)/\∃i,g.cell? (p.add 3)=aa (int .u64 i)/\Call prog 129 [ab l,I n,int .u64 i] g λe w'=>∃n,e=Z (I n)/\Fo (n==0) (Li w' (p.add 2) λf=>Cn 130 [ab x,I f] w' λw'=>aP prog s7 wE (wR n) w' (xm R)) (aP prog s7 wE (wR n) w' (xm R))) (Lj w' (d.add 4) λb=>Li w' (p.add 0) λn=>Fo (!b==(n==7)) (Cq 61 [I 6] w' λp n c w'=>R (Z (aj p n c)) w') (Li w' (p.add 0) λn=>Fo (n==6) (Li w' (p.add 2) λn=>Li w' (d.add 0) λi=>Lu w' (d.add 1) λf=>Li w' (d.add 2) λh=>Lj w' (d.add 3) λb=>Lj w' (d.add 4) λk=>Li w' (d.add 5) λj=>Li w' (p.add 4) λm=>Ct 131 [ab x,I n,agg #[I i,int .u64 f,I h,.bool b,.bool k,I j],I m] w' λn v w'=>Cq 64 [I n,I v] w' λp n c w'=>R (Z (aj p n c)) w') (Li w' (p.add 0) λn=>Fo (n==5) (Sm w' λg=>∃a,x=aa a/\∃l,g.cell? (add (a.add 0) 1)=aa (ab l)/\∃n,g.cell? (p.add 2)=aa (I n)/\Call prog 132 [ab l,I n] g λe w'=>∃n,e=Z (I n)/\Cq 61 [I n] w' λp n c w'=>R (Z (aj p n c)) w') (Li w' (d.add 5) λn=>Cn 133 [ab x,I n] w' λw'=>Li w' (p.add 2) λn=>Cn 134 [ab x,I n] w' λw'=>Cq 61 [I 0] w' λp n c w'=>R (Z (aj p n c)) w')))))))):=uj_ s7 func66 (by kernel_rfl)
theorem adK (x w R):den prog s7 wE (wR x) w (xm R)=
(Cq 61 [I x] w λp n c w'=>R (Z (aj p n c)) w'):=by kernel_rfl
theorem u67 {x x1 x2 x3 x4 x5 w R}:Uj (Calls prog 67 #[ab x,agg #[I x1,I x2,I x3,(int .u64 x4),I x5]] w R) (aI w [ab x] 23 λp w'=>aI w' [I x1,I x2,I x3,int .u64 x4,I x5] 33 λd w'=>Li w' (d.add 0) λn=>Fo (n==12) (Sm w' λb=>∃c,b.cell? p=aa (ab c)/\∃a,c=aa a/\∃f,b.cell? (add (a.add 0) 3)=aa (ab f)/\∃n,b.cell? (d.add 2)=aa (I n)/\∃g,b.cell? (d.add 3)=aa (int .u64 g)/\Call prog 136 [ab f,I n,int .u64 g] b λe w'=>∃n,e=Z (I n)/\Ci 135 [I n,func (aS 137) #[] #[ab (aa p),ab (aa d)]] w' λn w'=>R (Z (I n)) w') (Fo (n==13) (Sm w' λb=>∃c,b.cell? p=aa (ab c)/\∃a,c=aa a/\∃f,b.cell? (add (a.add 0) 3)=aa (ab f)/\∃n,b.cell? (d.add 2)=aa (I n)/\Call prog 139 [ab f,I n] b λe w'=>∃n,e=Z (I n)/\Ci 135 [I n,func (aS 140) #[] #[ab (aa p),ab (aa d)]] w' λn w'=>R (Z (I n)) w') (Fo (n==14) (Sm w' λb=>∃c,b.cell? p=aa (ab c)/\∃a,c=aa a/\∃f,b.cell? (add (a.add 0) 3)=aa (ab f)/\∃n,b.cell? (d.add 2)=aa (I n)/\∃g,b.cell? (d.add 3)=aa (int .u64 g)/\Call prog 142 [ab f,I n,int .u64 g] b λe w'=>∃n,e=Z (I n)/\Ci 135 [I n,func (aS 143) #[] #[ab (aa p),ab (aa d)]] w' λn w'=>R (Z (I n)) w') (Fo (n==15) (Sm w' λb=>∃c,b.cell? p=aa (ab c)/\∃a,c=aa a/\∃p,b.cell? (add (a.add 0) 3)=aa (ab p)/\∃n,b.cell? (d.add 2)=aa (I n)/\Call prog 145 [ab p,I n] b λe w'=>∃n,e=Z (I n)/\R (Z (I n)) w') (Fo (n==16) (Sm w' λb=>∃c,b.cell? p=aa (ab c)/\∃a,c=aa a/\∃p,b.cell? (add (a.add 0) 3)=aa (ab p)/\∃n,b.cell? (d.add 2)=aa (I n)/\Call prog 146 [ab p,I n] b λe w'=>∃n,e=Z (I n)/\R (Z (I n)) w') (Sm w' λb=>∃c,b.cell? p=aa (ab c)/\∃a,c=aa a/\∃p,b.cell? (add (a.add 0) 3)=aa (ab p)/\∃n,b.cell? (d.add 2)=aa (I n)/\Call prog 147 [ab p,I n] b λe w'=>∃n,e=Z (I n)/\R (Z (I n)) w')))))):=uj_ {N:=79,keep:=kp 0 [[2,3],[2,3,5],[2,3,5,7],[2,3,5,7,8],[4],[2,3,5,7,23],[4],[2,3,5,7,36],[4],[2,3,7,51],[4],[2,3,61],[4],[4]],bQ:=[(4,[0,1,2,3,4,5,6,7,8,9,11,10,12,13]),(6,[0,1,2,3,4,5,6,7,9,8,10,11]),(8,[0,1,2,3,4,5,6,7,8,9,11,10,12,13]),(10,(.range 9)),(12,(.range 9)),(13,(.range 9))],bk:=[(0,[2,3])]} func67 (by kernel_rfl)
theorem u69 {x x1 x2 x3 x4 x5 w R}:Uj (Calls prog 69 #[ab x,agg #[I x1,I x2,I x3,(int .u64 x4),I x5]] w R) (aI w [I x1,I x2,I x3,int .u64 x4,I x5] 33 λp w'=>Li w' (p.add 1) λn=>Ci 152 [ab x,I n] w' λn w'=>Fo (n !=0) (Cq 61 [I n] w' λp n c w'=>R (Z (aj p n c)) w') (Li w' (p.add 0) λn=>Fo (n==10) (Li w' (p.add 1) λn=>Li w' (p.add 4) λd=>Ct 153 [ab x,I n,I d] w' λn g w'=>Cq 64 [I n,I g] w' λp n c w'=>R (Z (aj p n c)) w') (Fo (n==18) (Sm w' λb=>∃a,x=aa a/\∃f,b.cell? (add (a.add 0) 5)=aa (ab f)/\∃n,b.cell? (p.add 1)=aa (I n)/\Call prog 68 [ab f,I n] b λe w'=>∃n d,e=Z (aw #[I n,I d])/\Cq 64 [I n,I d] w' λp n c w'=>R (Z (aj p n c)) w') (Fo (n==20) (Sm w' λb=>∃a,x=aa a/\∃f,b.cell? (add (a.add 0) 6)=aa (ab f)/\∃n,b.cell? (p.add 1)=aa (I n)/\Call prog 154 [ab f,I n] b λe w'=>∃n d,e=Z (aw #[I n,I d])/\Cq 64 [I n,I d] w' λp n c w'=>R (Z (aj p n c)) w') (Fo (n==21) (Sm w' λb=>∃a,x=aa a/\∃f,b.cell? (add (a.add 0) 7)=aa (ab f)/\∃n,b.cell? (p.add 1)=aa (I n)/\Call prog 155 [ab f,I n] b λe w'=>∃n d,e=Z (aw #[I n,I d])/\Cq 64 [I n,I d] w' λp n c w'=>R (Z (aj p n c)) w') (Fo (n==22) (Sm w' λb=>∃a,x=aa a/\∃f,b.cell? (add (a.add 0) 7)=aa (ab f)/\∃n,b.cell? (p.add 1)=aa (I n)/\∃d,b.cell? (p.add 2)=aa (I d)/\Call prog 156 [ab f,I n,I d] b λe w'=>∃n,e=Z (I n)/\Cq 61 [I n] w' λp n c w'=>R (Z (aj p n c)) w') (Sm w' λb=>∃a,x=aa a/\∃f,b.cell? (add (a.add 0) 9)=aa (ab f)/\∃n,b.cell? (p.add 1)=aa (I n)/\Call prog 157 [ab f,I n] b λe w'=>∃n,e=Z (I n)/\Cq 61 [I n] w' λp n c w'=>R (Z (aj p n c)) w'))))))):=uj_ {N:=88,keep:=kp 0 [[0,3],[0,3,5],[0,3,5,11],[4],[0,3,15],[0,3,15,16],[4],[0,3,15,27],[4],[0,3,15,40],[4],[0,3,15,53],[4],[0,3,66],[4],[4]],bQ:=[(8,(.range 12)),(10,(.range 12)),(12,(.range 12)),(14,(.range 12)),(15,(.range 10))],bk:=[(0,[0,3])]} func69 (by kernel_rfl)
def oZ:Mt:={N:=82,keep:=kp 0 [[0,1,2],[0,1,2,7],[0,1,2,7,16],[6],[0,1,2,7,27],[6],[0,1,2,7,34],[6],[0,1,2,39],[6],[0,1,2,46],[6],[0,1,2,8],[0,1,2,8],[6]],bk:=[(0,[0,1,2])],bD:=[(12,[0,1,2])]}
def US:=bc f70
def qR:=US.sr.sr.sr
def qS (x:Option Addr) (x1:Bool) (x2:Int):Env:=[vP 0 x,(1,SV.v (.bool x1)),vI 2 x2]
def rb (R:RT):=Rt f70 R
theorem u70 {x x1 x2 w R}:Uj (Calls prog 70 #[ab x,.bool x1,I x2] w R) (∃a,x=aa a/\Lu w (a.add 16) λn=>Cj 23 [int .u64 n,I x2] w λb w'=>Fz (decide (x2<0)) (∃a,x=aa a/\Li w' (a.add 15) λn=>Fo (decide (x2>=n)) (R (Z (I 3)) w') (∃a,x=aa a/\Lp w' (add (a.add 0) 11) λp=>Cj 99 [ab p] w' λc w'=>Fo c (R (Z (I 7)) w') (Fo x1 (Fo b (R (Z (I 8)) w') (Fo (!x1) (Fo (!b) (R (Z (I 9)) w') (Fo (!x1) (∃a,x=aa a/\Lu w' (a.add 16) λn=>Ci 24 [int .u64 n] w' λn w'=>Fo (n==1) (R (Z (I 10)) w') (aP prog oZ qR (qS x x1 x2) w' (rb R))) (aP prog oZ qR (qS x x1 x2) w' (rb R)))) (Fo (!x1) (∃a,x=aa a/\Lu w' (a.add 16) λn=>Ci 24 [int .u64 n] w' λn w'=>Fo (n==1) (R (Z (I 10)) w') (aP prog oZ qR (qS x x1 x2) w' (rb R))) (aP prog oZ qR (qS x x1 x2) w' (rb R))))) (Fo (!x1) (Fo (!b) (R (Z (I 9)) w') (Fo (!x1) (∃a,x=aa a/\Lu w' (a.add 16) λn=>Ci 24 [int .u64 n] w' λn w'=>Fo (n==1) (R (Z (I 10)) w') (aP prog oZ qR (qS x x1 x2) w' (rb R))) (aP prog oZ qR (qS x x1 x2) w' (rb R)))) (Fo (!x1) (∃a,x=aa a/\Lu w' (a.add 16) λn=>Ci 24 [int .u64 n] w' λn w'=>Fo (n==1) (R (Z (I 10)) w') (aP prog oZ qR (qS x x1 x2) w' (rb R))) (aP prog oZ qR (qS x x1 x2) w' (rb R))))))) (R (Z (I 3)) w')):=uj_ oZ func70 (by kernel_rfl)
theorem adQ (x x1 x2 w R):den prog oZ qR (qS x x1 x2) w (rb R)=
(∃a,x=aa a/\Lu w (a.add 17) λn=>Cu 158 [int .u64 n,I x2] w λn w'=>Ct 159 [int .u64 n] w' λn b w'=>∃a,x=aa a/\Lp w' (add (a.add 0) 9) λp=>Ci 160 [ab p] w' λc w'=>∃a,x=aa a/\Lp w' (add (a.add 0) 11) λp=>Ci 161 [ab p,.bool x1,I x2,I n] w' λn w'=>R (Z (I n)) w'):=by kernel_rfl
theorem u71 {x x1 x2 x3 x4 x5 w R}:Uj (Calls prog 71 #[ab x,agg #[I x1,I x2,I x3,(int .u64 x4),I x5]] w R) (aI w [I x1,I x2,I x3,int .u64 x4,I x5] 33 λp w'=>Li w' (p.add 0) λn=>Fo (n==11) (Li w' (p.add 2) λn=>Ci 162 [ab x,I n] w' λn w'=>Cq 61 [I n] w' λp n c w'=>R (Z (aj p n c)) w') (Fo (n==19) (Li w' (p.add 2) λn=>Ct 163 [ab x,I n] w' λn b w'=>Cq 64 [I n,I b] w' λp n c w'=>R (Z (aj p n c)) w') (Fo (n==25) (Li w' (p.add 4) λn=>Ci 164 [ab x,I n] w' λn w'=>Cq 61 [I n] w' λp n c w'=>R (Z (aj p n c)) w') (Fo (n==27) (Sm w' λd=>∃a,x=aa a/\∃f,d.cell? (add (a.add 0) 9)=aa (ab f)/\∃n,d.cell? (p.add 1)=aa (I n)/\Call prog 165 [ab f,I n] d λe w'=>∃n,e=Z (I n)/\Cq 61 [I n] w' λp n c w'=>R (Z (aj p n c)) w') (Fo (n==28) (Li w' (p.add 4) λn=>Ci 166 [ab x,I n] w' λn w'=>Cq 61 [I n] w' λp n c w'=>R (Z (aj p n c)) w') (Fo (n==29) (Li w' (p.add 2) λn=>Li w' (p.add 4) λb=>Ci 167 [ab x,I n,I b] w' λn w'=>Cq 61 [I n] w' λp n c w'=>R (Z (aj p n c)) w') (Fo (n==30) (Ci 168 [ab x] w' λn w'=>Cq 64 [I n,I 0] w' λp n c w'=>R (Z (aj p n c)) w') (Cq 61 [I 2] w' λp n c w'=>R (Z (aj p n c)) w')))))))):=uj_ {N:=63,keep:=kp 0 [[0,3],[0,3,6],[0,3,6,7],[4],[0,3,6,14],[4],[0,3,6,23],[4],[0,3,6,30],[4],[0,3,6,41],[4],[0,3,6,48],[4],[0,57],[4],[4]],bQ:=[(9,(.range 10))],bk:=[(0,[])]} func71 (by kernel_rfl)
theorem u72 {x w R}:Uj (Calls prog 72 #[ab x] w R) (aI w [ab ag,ab ag,ab ag,ab ag,ab ag,ab ag,ab ag,ab ag,ab ag,ab ag,ab ag,ab ag,ab ag,ab ag,N3] 92 λp w'=>Fo x.isNone (Wr w' p [ab ag,ab ag,ab ag,ab ag,ab ag,ab ag,ab ag,ab ag,ab ag,ab ag,ab ag,ab ag,ab ag,ab ag,N3] λw'=>Lp w' (p.add 0) λb=>Lp w' (p.add 1) λd=>Lp w' (p.add 2) λe=>Lp w' (p.add 3) λf=>Lp w' (p.add 4) λg=>Lp w' (p.add 5) λh=>Lp w' (p.add 6) λi=>Lp w' (p.add 7) λj=>Lp w' (p.add 8) λk=>Lp w' (p.add 9) λl=>Lp w' (p.add 10) λm=>Lp w' (p.add 11) λo=>Lp w' (p.add 12) λq=>Lp w' (p.add 13) λr=>Lq w' (p.add 14) λs n c=>R (Z (agg #[ab b,ab d,ab e,ab f,ab g,ab h,ab i,ab j,ab k,ab l,ab m,ab o,ab q,ab r,aj s n c])) w') (∃a,x=aa a/\Lp w' (add (a.add 0) 0) λb=>Lp w' (add (a.add 0) 1) λd=>Lp w' (add (a.add 0) 2) λe=>Lp w' (add (a.add 0) 3) λf=>Lp w' (add (a.add 0) 4) λg=>Lp w' (add (a.add 0) 5) λh=>Lp w' (add (a.add 0) 6) λi=>Lp w' (add (a.add 0) 7) λj=>Lp w' (add (a.add 0) 8) λk=>Lp w' (add (a.add 0) 9) λl=>Lp w' (add (a.add 0) 10) λm=>Lp w' (add (a.add 0) 11) λo=>Lp w' (add (a.add 0) 12) λq=>Lp w' (add (a.add 0) 13) λr=>Lq w' (add (a.add 0) 14) λs n c=>Wr w' p [ab b,ab d,ab e,ab f,ab g,ab h,ab i,ab j,ab k,ab l,ab m,ab o,ab q,ab r,aj s n c] λw'=>Lp w' (p.add 0) λt=>Lp w' (p.add 1) λu=>Lp w' (p.add 2) λv=>Lp w' (p.add 3) λy=>Lp w' (p.add 4) λz=>Lp w' (p.add 5) λA=>Lp w' (p.add 6) λB=>Lp w' (p.add 7) λC=>Lp w' (p.add 8) λD=>Lp w' (p.add 9) λE=>Lp w' (p.add 10) λF=>Lp w' (p.add 11) λG=>Lp w' (p.add 12) λH=>Lp w' (p.add 13) λI=>Lq w' (p.add 14) λJ n c=>R (Z (agg #[ab t,ab u,ab v,ab y,ab z,ab A,ab B,ab C,ab D,ab E,ab F,ab G,ab H,ab I,aj J n c])) w')):=uj_ {N:=10,keep:=kp 0 [[0,2],[0,2,4],[2],[2]]} func72 (by kernel_rfl)
theorem u83 {x w R}:Uj (Calls prog 83 #[ab x] w R) (Fo x.isNone (R (Z (I 0)) w) (∃a,x=aa a/\Li w (a.add 15) λn=>R (Z (I n)) w)):=uj_ {N:=9,keep:=kp 0 [[0],[0,4],[2],[2]]} func83 (by kernel_rfl)
theorem u90 {x x1 w R}:Uj (Calls prog 90 #[ab x,I x1] w R) (Fo x.isNone (R (Z (I 0)) w) (∃a,x=aa a/\∃r,w.cell? (a.add 20)=aa (map r)/\∃n,aZ prog (dg 78 (map r) (I x1) ae) w=a7 (I n) w/\R (Z (I n)) w)):=uj_ {N:=13,keep:=kp 0 [[0,1],[0,1,6],[4],[4]]} func90 (by kernel_rfl)
theorem u92 {x w R}:Uj (Calls prog 92 #[ab x] w R) (Call prog 72 [ab x] w λe w'=>∃p b d f g a h i j k l m o q r n c,e=Z (agg #[ab p,ab b,ab d,ab f,ab g,ab a,ab h,ab i,ab j,ab k,ab l,ab m,ab o,ab q,aj r n c])/\R (Z (ab a)) w'):=uj_ {N:=6,keep:=kp 0 [[0],[2]]} func92 (by kernel_rfl)
theorem u94 {x w R}:Uj (Calls prog 94 #[ab x] w R) (Call prog 72 [ab x] w λe w'=>∃p b d f g h a i j k l m o q r n c,e=Z (agg #[ab p,ab b,ab d,ab f,ab g,ab h,ab a,ab i,ab j,ab k,ab l,ab m,ab o,ab q,aj r n c])/\R (Z (ab a)) w'):=uj_ {N:=6,keep:=kp 0 [[0],[2]]} func94 (by kernel_rfl)
theorem u96 {x w R}:Uj (Calls prog 96 #[ab x] w R) (Call prog 72 [ab x] w λe w'=>∃p b d f g h i a j k l m o q r n c,e=Z (agg #[ab p,ab b,ab d,ab f,ab g,ab h,ab i,ab a,ab j,ab k,ab l,ab m,ab o,ab q,aj r n c])/\R (Z (ab a)) w'):=uj_ {N:=6,keep:=kp 0 [[0],[2]]} func96 (by kernel_rfl)
theorem u98 {x w R}:Uj (Calls prog 98 #[ab x] w R) (Call prog 72 [ab x] w λe w'=>∃p b d f g h i j k l m a o q r n c,e=Z (agg #[ab p,ab b,ab d,ab f,ab g,ab h,ab i,ab j,ab k,ab l,ab m,ab a,ab o,ab q,aj r n c])/\R (Z (ab a)) w'):=uj_ {N:=6,keep:=kp 0 [[0],[2]]} func98 (by kernel_rfl)
theorem aeX {x x1 w R}:Uj (Calls prog 115 #[ab x,I x1] w R) (aI w [.bool ae,.bool ae,.bool ae,.bool ae,.bool ae,.bool ae,.bool ae,.bool ae,.bool ae] 240 λp w'=>Call prog 201 [ab x,I x1] w' λe w'=>∃n b,e=Z (aw #[I n,.bool b])/\Sm w' λk=>∃a,x=aa a/\∃N,k.cell? (add (a.add 0) 10)=aa (ab N)/\∃a,x=aa a/\∃J,k.cell? (add (a.add 0) 10)=aa (ab J)/\∃G,x=aa G/\∃H,k.cell? (add (G.add 0) 11)=aa (ab H)/\∃q,x=aa q/\∃n,k.cell? (q.add 17)=aa (int .u64 n)/\∃o,x=aa o/\∃m,k.cell? (add (o.add 0) 6)=aa (ab m)/\∃l,x=aa l/\∃j,k.cell? (add (l.add 0) 2)=aa (ab j)/\∃i,x=aa i/\∃h,k.cell? (add (i.add 0) 5)=aa (ab h)/\∃g,x=aa g/\∃f,k.cell? (add (g.add 0) 5)=aa (ab f)/\∃d,x=aa d/\∃c,k.cell? (add (d.add 0) 1)=aa (ab c)/\Call prog 202 [ab N,I x1] k λe w'=>∃K,e=Z (.bool K)/\w'.cell? (add (d.add 0) 1)=aa (ab c)/\w'.cell? (add (g.add 0) 5)=aa (ab f)/\w'.cell? (add (i.add 0) 5)=aa (ab h)/\w'.cell? (add (l.add 0) 2)=aa (ab j)/\w'.cell? (add (o.add 0) 6)=aa (ab m)/\w'.cell? (q.add 17)=aa (int .u64 n)/\w'.cell? (add (G.add 0) 11)=aa (ab H)/\w'.cell? (add (a.add 0) 10)=aa (ab J)/\Cj 203 [ab J,I x1] w' λL w'=>w'.cell? (add (d.add 0) 1)=aa (ab c)/\w'.cell? (add (g.add 0) 5)=aa (ab f)/\w'.cell? (add (i.add 0) 5)=aa (ab h)/\w'.cell? (add (l.add 0) 2)=aa (ab j)/\w'.cell? (add (o.add 0) 6)=aa (ab m)/\w'.cell? (q.add 17)=aa (int .u64 n)/\w'.cell? (add (G.add 0) 11)=aa (ab H)/\Cj 99 [ab H] w' λM w'=>w'.cell? (add (d.add 0) 1)=aa (ab c)/\w'.cell? (add (g.add 0) 5)=aa (ab f)/\w'.cell? (add (i.add 0) 5)=aa (ab h)/\w'.cell? (add (l.add 0) 2)=aa (ab j)/\w'.cell? (add (o.add 0) 6)=aa (ab m)/\w'.cell? (q.add 17)=aa (int .u64 n)/\Fo M (∃a,x=aa a/\Lp w' (add (a.add 0) 11) λO=>Ci 102 [ab O] w' λr w'=>w'.cell? (add (d.add 0) 1)=aa (ab c)/\w'.cell? (add (g.add 0) 5)=aa (ab f)/\w'.cell? (add (i.add 0) 5)=aa (ab h)/\w'.cell? (add (l.add 0) 2)=aa (ab j)/\w'.cell? (add (o.add 0) 6)=aa (ab m)/\w'.cell? (q.add 17)=aa (int .u64 n)/\Cj 23 [int .u64 n,I x1] w' λs w'=>w'.cell? (add (d.add 0) 1)=aa (ab c)/\w'.cell? (add (g.add 0) 5)=aa (ab f)/\w'.cell? (add (i.add 0) 5)=aa (ab h)/\w'.cell? (add (l.add 0) 2)=aa (ab j)/\w'.cell? (add (o.add 0) 6)=aa (ab m)/\Ci 204 [ab m,I x1] w' λn w'=>w'.cell? (add (d.add 0) 1)=aa (ab c)/\w'.cell? (add (g.add 0) 5)=aa (ab f)/\w'.cell? (add (i.add 0) 5)=aa (ab h)/\w'.cell? (add (l.add 0) 2)=aa (ab j)/\Cj 205 [ab j,I x1] w' λt w'=>w'.cell? (add (d.add 0) 1)=aa (ab c)/\w'.cell? (add (g.add 0) 5)=aa (ab f)/\w'.cell? (add (i.add 0) 5)=aa (ab h)/\Ci 170 [ab h,I x1] w' λu w'=>w'.cell? (add (d.add 0) 1)=aa (ab c)/\w'.cell? (add (g.add 0) 5)=aa (ab f)/\Ci 170 [ab f,I (-1:Int)] w' λv w'=>w'.cell? (add (d.add 0) 1)=aa (ab c)/\Ci 14 [ab c,I x1] w' λP w'=>Wr w' p [.bool K,.bool L,.bool (r==x1),.bool s,.bool (decide (n>0)),.bool b,.bool t,.bool (decide (wrap i64 (u+v)>0)),.bool (decide (P>0))] λw'=>Lj w' (p.add 0) λb=>Lj w' (p.add 1) λy=>Lj w' (p.add 2) λz=>Lj w' (p.add 3) λA=>Lj w' (p.add 4) λB=>Lj w' (p.add 5) λC=>Lj w' (p.add 6) λD=>Lj w' (p.add 7) λE=>Lj w' (p.add 8) λF=>R (Z (agg #[.bool b,.bool y,.bool z,.bool A,.bool B,.bool C,.bool D,.bool E,.bool F])) w') (Cj 23 [int .u64 n,I x1] w' λs w'=>w'.cell? (add (d.add 0) 1)=aa (ab c)/\w'.cell? (add (g.add 0) 5)=aa (ab f)/\w'.cell? (add (i.add 0) 5)=aa (ab h)/\w'.cell? (add (l.add 0) 2)=aa (ab j)/\w'.cell? (add (o.add 0) 6)=aa (ab m)/\Ci 204 [ab m,I x1] w' λn w'=>w'.cell? (add (d.add 0) 1)=aa (ab c)/\w'.cell? (add (g.add 0) 5)=aa (ab f)/\w'.cell? (add (i.add 0) 5)=aa (ab h)/\w'.cell? (add (l.add 0) 2)=aa (ab j)/\Cj 205 [ab j,I x1] w' λt w'=>w'.cell? (add (d.add 0) 1)=aa (ab c)/\w'.cell? (add (g.add 0) 5)=aa (ab f)/\w'.cell? (add (i.add 0) 5)=aa (ab h)/\Ci 170 [ab h,I x1] w' λr w'=>w'.cell? (add (d.add 0) 1)=aa (ab c)/\w'.cell? (add (g.add 0) 5)=aa (ab f)/\Ci 170 [ab f,I (-1:Int)] w' λu w'=>w'.cell? (add (d.add 0) 1)=aa (ab c)/\Ci 14 [ab c,I x1] w' λv w'=>Wr w' p [.bool K,.bool L,.bool ae,.bool s,.bool (decide (n>0)),.bool b,.bool t,.bool (decide (wrap i64 (r+u)>0)),.bool (decide (v>0))] λw'=>Lj w' (p.add 0) λb=>Lj w' (p.add 1) λy=>Lj w' (p.add 2) λz=>Lj w' (p.add 3) λA=>Lj w' (p.add 4) λB=>Lj w' (p.add 5) λC=>Lj w' (p.add 6) λD=>Lj w' (p.add 7) λE=>Lj w' (p.add 8) λF=>R (Z (agg #[.bool b,.bool y,.bool z,.bool A,.bool B,.bool C,.bool D,.bool E,.bool F])) w')):=uj_ {N:=89,keep:=kp 0 [[0,1,4],[0,1,4,6],[4]],bQ:=[(2,[0,1,2,3,4,5,7,8,9,10,11,12,14,15,16,17,18,30,31,32,33,34,36,37,38,39,40,41,44,45,46,47,48,49,50,52,53,54,55,56,57,59,60,61,62,63,67,68,69,70,71,72,6,13,19,20,21,22,23,24,25,27,26,28,29,35,42,43,51,58,64,65,66,73,74,75,76])]} func115 (by kernel_rfl)
def vC:Mt:={N:=67,keep:=kp 0 [[0,1],[0,1,5],[0,1,5,6],[0,5,34],[0,5],[0,5,47],[4],[0,5,8],[5,8],[4]],bD:=[(5,[0,5])]}
def T3:=bc f119
def yV:=T3.sr.sr.sr
def zp (x:Option Addr) (x1:Int):Env:=[vP 0 x,vI 5 x1]
def zH (R:RT):=Rt f119 R
theorem ae1 {x x1 w R}:Uj (Calls prog 119 #[ab x,I x1] w R) (∃a,x=aa a/\Lp w (add (a.add 0) 11) λp=>Ci 101 [ab p] w λn w'=>∃a,x=aa a/\Lp w' (add (a.add 0) 11) λp=>Call prog 208 [ab p] w' λe w'=>∃c b d h,e=Z (aw #[agg #[I c,.bool b,.bool d],I h])/\aI w' [I 0,.bool ae,.bool ae] 303 λp w'=>Wr w' p [I c,.bool b,.bool d] λw'=>Lj w' (p.add 2) λb=>Fo (!b) (Li w' (p.add 0) λf=>Lj w' (p.add 1) λb=>Lj w' (p.add 2) λg=>Cj 209 [ab x,agg #[I f,.bool b,.bool g],I n,I x1] w' λb w'=>Fo b (∃a,x=aa a/\Lp w' (add (a.add 0) 11) λp=>Ci 210 [ab p] w' λi w'=>aP prog vC yV (zp x n) w' (zH R)) (aP prog vC yV (zp x n) w' (zH R))) (aP prog vC yV (zp x n) w' (zH R))):=uj_ vC func119 (by kernel_rfl)
theorem acE (x x1 w R):den prog vC yV (zp x x1) w (zH R)=
(∃a,x=aa a/\Lp w (add (a.add 0) 11) λp=>Cj 211 [ab p] w λb w'=>Fo (!b) (R (Z (N3)) w') (∃a,x=aa a/\Lp w' (add (a.add 0) 11) λp=>Ct 212 [ab p] w' λn c w'=>∃a,x=aa a/\Lp w' (add (a.add 0) 9) λp=>Ci 213 [ab p] w' λd w'=>aI w' [I 7,I x1,I 0,I 0,I n] 43 λp w'=>R (Z (aj (aa p) 1 1)) w')):=by kernel_rfl
theorem ae2 {x x1 w R}:Uj (Calls prog 120 #[ab x,I x1] w R) (∃a,x=aa a/\Lp w (add (a.add 0) 2) λp=>Ct 214 [ab p,I x1] w λn i w'=>∃a,x=aa a/\Li w' (a.add 18) λj=>Ci 215 [I j,I n,.bool (i==0)] w' λn w'=>Sm w' λb=>∃a,x=aa a/\∃p,b.cell? (add (a.add 0) 12)=aa (ab p)/\∃g,x=aa g/\∃h,b.cell? (g.add 19)=aa (I h)/\∃d,x=aa d/\∃f,b.cell? (d.add 18)=aa (I f)/\Call prog 218 [] b λe w'=>∃k l c,e=Z (aj k l c)/\w'.cell? (d.add 18)=aa (I f)/\w'.cell? (g.add 19)=aa (I h)/\w'.cell? (add (a.add 0) 12)=aa (ab p)/\Ci 217 [aj k l c,I n,I h] w' λn w'=>w'.cell? (d.add 18)=aa (I f)/\w'.cell? (add (a.add 0) 12)=aa (ab p)/\Ci 216 [ab p,I x1,I n,I f] w' λn w'=>R (Z (aw #[])) w'):=uj_ {N:=43,keep:=kp 0 [[0,1,4,5],[0,1,6],[]],bQ:=[(2,[0,1,2,3,4,5,7,8,9,10,11,13,14,15,16,6,12,17])]} func120 (by kernel_rfl)
theorem ae3 {x x1 x2 w R}:Uj (Calls prog 121 #[ab x,I x1,I x2] w R) (Fo (x2==4) (∃a,x=aa a/\Lp w (add (a.add 0) 6) λp=>Ct 219 [ab p,I x1] w λn d w'=>Cq 220 [ab x,I x1,I 6,I n,I 0] w' λp n c w'=>R (Z (aj p n c)) w') (Fo (x2==5) (Call prog 201 [ab x,I x1] w λe w'=>∃n b,e=Z (aw #[I n,.bool b])/\∃a,x=aa a/\Lp w' (add (a.add 0) 3) λp=>Ci 221 [ab p,I n] w' λd w'=>Cq 220 [ab x,I x1,I 4,I n,I 0] w' λp n c w'=>R (Z (aj p n c)) w') (Fo (x2==6) (Cq 222 [ab x,I x1] w λp n c w'=>R (Z (aj p n c)) w') (Fo (x2==7) (∃a,x=aa a/\Lp w (add (a.add 0) 5) λp=>Ct 223 [ab p,I x1] w λn d w'=>Cq 220 [ab x,I x1,I 5,I n,I 0] w' λp n c w'=>R (Z (aj p n c)) w') (∃a,x=aa a/\Lp w (add (a.add 0) 1) λp=>Ct 224 [ab p,I x1] w λn d w'=>Cq 220 [ab x,I x1,I 2,I n,I 0] w' λp n c w'=>R (Z (aj p n c)) w'))))):=uj_ {N:=86,keep:=kp 0 [[0,1,2],[0,1,15],[0,1,15,16],[0,1,7],[6],[0,1,15,32],[0,1,9],[0,1,9],[6],[0,1,15,51],[6],[0,1,56],[0,1,11],[6],[0,1,13],[6]],bk:=[(0,[0,1])]} func121 (by kernel_rfl)
theorem ae5 {x x1 x2 x3 x4 x5 x6 u t w R}:Uj (Calls prog 123 #[ab x,I x1,agg #[(.bool x2),(.bool x3),I x4,I x5,I x6,I u],I t] w R) (aI w [.bool x2,.bool x3,I x4,I x5,I x6,I u] 226 λp w'=>∃a,x=aa a/\Lp w' (add (a.add 0) 12) λh=>Call prog 227 [ab h,I x1] w' λe w'=>∃n i r,e=Z (aw #[I n,I i,I r])/\∃a,x=aa a/\Lq w' (add (a.add 0) 14) λj k c=>(0<=x1/\x1<(↑k:Int))/\∃a,j=aa a/\Lp w' (add a (aG x1*1)) λl=>Ct 228 [ab l,I n,I i] w' λn s w'=>Lj w' (p.add 1) λb=>Fo b (Sm w' λf=>∃a,x=aa a/\∃g,f.cell? (add (a.add 0) 13)=aa (ab g)/\∃n,f.cell? (p.add 2)=aa (I n)/\∃d,f.cell? (p.add 2)=aa (I d)/\Call prog 218 [] f λe w'=>∃m o c,e=Z (aj m o c)/\w'.cell? (p.add 2)=aa (I d)/\w'.cell? (p.add 2)=aa (I n)/\w'.cell? (add (a.add 0) 13)=aa (ab g)/\(0<=d/\d<(↑o:Int))/\∃a,m=aa a/\∃q,w'.cell? (add (add a (aG d*3)) 2)=aa (I q)/\Ci 229 [ab g,I x1,I n,I t,I q] w' λn w'=>R (Z (aw #[])) w') (∃a,x=aa a/\Lp w' (add (a.add 0) 13) λp=>Ci 230 [ab p,I x1,I t,I n] w' λn w'=>R (Z (aw #[])) w')):=uj_ {N:=65,keep:=kp 0 [[0,1,3,6],[0,1,3,6,8,9],[0,1,3,6,11],[0,1,3,6,11,39],[],[]],bQ:=[(4,[0,1,2,3,4,5,6,7,8,10,11,9,12,13,14,15])]} func123 (by kernel_rfl)
theorem ae8 {x x1 x2 w R}:Uj (Calls prog 126 #[ab x,I x1,I x2] w R) (∃a,x=aa a/\Lp w (add (a.add 0) 0) λp=>Call prog 127 [ab p,I x1] w λe w'=>∃n f g b h i o,e=Z (aw #[agg #[I n,int .u64 f,I g,.bool b,.bool h,I i],I o])/\aI w' [I 0,int .u64 0,I 0,.bool ae,.bool ae,I 0] 250 λp w'=>Wr w' p [I n,int .u64 f,I g,.bool b,.bool h,I i] λw'=>Sm w' λc=>∃n,c.cell? (p.add 1)=aa (int .u64 n)/\∃a,x=aa a/\∃j,c.cell? (a.add 17)=aa (int .u64 j)/\Call prog 233 [int .u64 n,int .u64 j,I x2] c λe w'=>∃n b q,e=Z (aw #[I n,.bool b,I q])/\∃a,x=aa a/\Lp w' (add (a.add 0) 0) λk=>Ci 234 [ab k,I x1,I n,.bool b] w' λr w'=>Sm w' λd=>∃a,x=aa a/\∃l,d.cell? (add (a.add 0) 1)=aa (ab l)/\∃m,d.cell? (p.add 0)=aa (I m)/\Call prog 235 [ab l,I n,I m,I x1] d λe w'=>∃n,e=Z (I n)/\R (Z (aw #[])) w'):=uj_ {N:=52,keep:=kp 0 [[0,1,2,6],[0,1,6,8,9],[0,1,6,8],[]],bQ:=[(1,(.range 15)),(3,(.range 10))]} func126 (by kernel_rfl)
def yz:Mt:={N:=27,keep:=kp 0 [[0,1,5],[0,1,5,8],[0,1],[0,1],[6]],bD:=[(4,[0,1])]}
def T6:=bc f128
def BM:=T6.sr.sr
def Cm (x:Option Addr) (x1:Int):Env:=[vP 0 x,vI 1 x1]
def C2 (R:RT):=Rt f128 R
theorem afa {x x1 x2 x3 x4 x5 x6 c w R}:Uj (Calls prog 128 #[ab x,I x1,agg #[I x2,(int .u64 x3),I x4,(.bool x5),(.bool x6),I c]] w R) (aI w [I x2,int .u64 x3,I x4,.bool x5,.bool x6,I c] 250 λp w'=>Lj w' (p.add 4) λb=>Fo b (Li w' (p.add 5) λn=>Cn 133 [ab x,I n] w' λw'=>aP prog yz BM (Cm x x1) w' (C2 R)) (∃a,x=aa a/\Lp w' (add (a.add 0) 1) λp=>Ci 237 [ab p,I x1] w' λn w'=>aP prog yz BM (Cm x x1) w' (C2 R))):=uj_ yz func128 (by kernel_rfl)
theorem acG (x x1 w R):den prog yz BM (Cm x x1) w (C2 R)=
(∃a,x=aa a/\Lp w (add (a.add 0) 0) λp=>Ci 238 [ab p,I x1] w λn w'=>R (Z (I n)) w'):=by kernel_rfl
theorem afc {x x1 w R}:Uj (Calls prog 130 #[ab x,I x1] w R) (∃a,x=aa a/\Lp w (add (a.add 0) 0) λp=>Call prog 127 [ab p,I x1] w λe w'=>∃n d f b g h l,e=Z (aw #[agg #[I n,int .u64 d,I f,.bool b,.bool g,I h],I l])/\aI w' [I 0,int .u64 0,I 0,.bool ae,.bool ae,I 0] 250 λp w'=>Wr w' p [I n,int .u64 d,I f,.bool b,.bool g,I h] λw'=>Sm w' λc=>∃b,c.cell? (p.add 4)=aa (.bool b)/\Fz b (∃a,x=aa a/\∃n,c.cell? (a.add 17)=aa (int .u64 n)/\∃i,c.cell? (p.add 1)=aa (int .u64 i)/\∃j,c.cell? (p.add 2)=aa (I j)/\∃b,c.cell? (p.add 3)=aa (.bool b)/\Call prog 239 [int .u64 n,agg #[I 0,int .u64 i,I j,.bool b]] c λe w'=>∃b,e=Z (.bool b)/\Fo (!b) (R (Z (aw #[])) w') (∃a,x=aa a/\Lp w' (add (a.add 0) 1) λk=>Ci 237 [ab k,I x1] w' λn w'=>Li w' (p.add 2) λn=>Cn 126 [ab x,I x1,I n] w' λw'=>R (Z (aw #[])) w')) (R (Z (aw #[])) c)):=uj_ {N:=45,keep:=kp 0 [[0,1,4],[0,1,4,32],[0,1,4],[]],bQ:=[(1,(.range 17))]} func130 (by kernel_rfl)
def yA:Mt:={N:=79,keep:=kp 0 [[0,1,3,6],[0,1,6,10,11],[0,1,6,10,11,24],[8,9],[0,1,10,12],[0,1,10,12,34],[0,1,10,12],[0,1,11,13],[0,1,11,13,55],[8,9],[0,1,13],[0,1,13],[8,9]],bD:=[(7,[0,1,10,12])]}
def T7:=bc f131
def BN:=T7.sr.sr.sr.sr.sr
def Co (x:Option Addr) (x1 x2 x3:Int):Env:=[vP 0 x,vI 1 x1,vI 10 x2,vI 12 x3]
def C3 (R:RT):=Rt f131 R
theorem afd {x x1 x2 x3 x4 x5 x6 e j w R}:Uj (Calls prog 131 #[ab x,I x1,agg #[I x2,(int .u64 x3),I x4,(.bool x5),(.bool x6),I e],I j] w R) (aI w [I x2,int .u64 x3,I x4,.bool x5,.bool x6,I e] 250 λp w'=>∃a,x=aa a/\Li w' (a.add 18) λn=>Ct 122 [I n,I j] w' λn c w'=>Fo (c !=0) (R (Z (aw #[I 0,I c])) w') (Li w' (p.add 2) λd=>∃a,x=aa a/\Lu w' (a.add 17) λf=>Cj 23 [int .u64 f,I d] w' λb w'=>Fo (!b) (∃a,x=aa a/\Lu w' (a.add 17) λg=>Ct 159 [int .u64 g] w' λh i w'=>aP prog yA BN (Co x x1 n h) w' (C3 R)) (aP prog yA BN (Co x x1 n d) w' (C3 R)))):=uj_ yA func131 (by kernel_rfl)
theorem acI (x x1 x2 x3 w R):den prog yA BN (Co x x1 x2 x3) w (C3 R)=
(∃a,x=aa a/\Lp w (add (a.add 0) 2) λp=>Ct 240 [ab p,I x3,I x2] w λn b w'=>Fo (b !=0) (R (Z (aw #[I 0,I b])) w') (∃a,x=aa a/\∃r,w'.cell? (a.add 20)=aa (map r)/\∃c,aZ prog (gy 78 (map r) (I n) (I x1)) w'=a7 () c/\∃a,x=aa a/\∃p,c.cell? (add (a.add 0) 1)=aa (ab p)/\Call prog 237 [ab p,I x1] c λe w'=>∃f,e=Z (I f)/\∃a,x=aa a/\Lp w' (add (a.add 0) 0) λp=>Ci 241 [ab p,I x1,I n] w' λd w'=>R (Z (aw #[I n,I d])) w')):=by kernel_rfl
theorem aff {x x1 w R}:Uj (Calls prog 133 #[ab x,I x1] w R) (∃a,x=aa a/\Lp w (add (a.add 0) 2) λp=>Ci 244 [ab p,I x1] w λn w'=>∃a,x=aa a/\∃r,w'.cell? (a.add 20)=aa (map r)/\∃b,aZ prog (gW #[78,3] 0 #[map r,I x1]) w'=a7 (aw #[]) b/\R (Z (aw #[])) b):=uj_ {N:=16,keep:=kp 0 [[0,1],[]]} func133 (by kernel_rfl)
theorem afg {x x1 w R}:Uj (Calls prog 134 #[ab x,I x1] w R) (∃a,x=aa a/\Lp w (add (a.add 0) 0) λp=>Ct 245 [ab p,I x1] w λn h w'=>∃a,x=aa a/\Lp w' (add (a.add 0) 0) λp=>Call prog 127 [ab p,I x1] w' λe w'=>∃n c d b f g i,e=Z (aw #[agg #[I n,int .u64 c,I d,.bool b,.bool f,I g],I i])/\aI w' [I 0,int .u64 0,I 0,.bool ae,.bool ae,I 0] 250 λp w'=>Wr w' p [I n,int .u64 c,I d,.bool b,.bool f,I g] λw'=>Li w' (p.add 2) λn=>Cn 126 [ab x,I x1,I n] w' λw'=>R (Z (aw #[])) w'):=uj_ {N:=28,keep:=kp 0 [[0,1],[0,1,4],[]]} func134 (by kernel_rfl)
theorem afh {x x1 x2 x3 w R}:Uj (Calls prog 135 #[I x,(func (aS x1) #[] #[ab (aa x2),ab (aa x3)])] w R) (Fo (x==0) (bif iM prog x1 then Call prog x1 [ab (aa x2),ab (aa x3)] w λe w'=>e=Z (aw #[])/\R (Z (I x)) w' else ∃w',aZ prog (callFunc x1 #[ab (aa x2),ab (aa x3)]) w=a7 (Next.value (aw #[])) w'/\R (Z (I x)) w') (R (Z (I x)) w)):=uj_ {N:=10,keep:=kp 0 [[0,1],[0,1,6],[0],[4]]} func135 (by kernel_rfl)
theorem afj {x x1 w R}:Uj (Calls prog 137 #[ab (aa x),ab (aa x1)] w R) (Sm w λw'=>Lp w' x λp=>Li w' (x1.add 2) λn=>Li w' (x1.add 2) λc=>Lp w' x λd=>∃a,d=aa a/\Li w' (a.add 15) λb=>b≠0/\Cn 138 [ab p,I n,I (eO c b)] w' λw'=>R (Z (aw #[])) w'):=uj_ {N:=13,keep:=kp 0 [[]],bQ:=[(0,(.range 11))]} func137 (by kernel_rfl)
theorem afk {x x1 x2 w R}:Uj (Calls prog 138 #[ab x,I x1,I x2] w R) (∃a,x=aa a/\Lp w (add (a.add 0) 3) λp=>Call prog 248 [ab p,I x1] w λe w'=>∃b d f n h,e=Z (aw #[agg #[.bool b,.bool d,.bool f,int .u64 n],I h])/\aI w' [.bool ae,.bool ae,.bool ae,int .u64 0] 198 λp w'=>Wr w' p [.bool b,.bool d,.bool f,int .u64 n] λw'=>Sm w' λc=>∃n,c.cell? (p.add 3)=aa (int .u64 n)/\∃a,x=aa a/\∃g,c.cell? (a.add 17)=aa (int .u64 g)/\Call prog 233 [int .u64 n,int .u64 g,I x2] c λe w'=>∃n b i,e=Z (aw #[I n,.bool b,I i])/\∃a,x=aa a/\Lp w' (add (a.add 0) 4) λp=>Ci 249 [ab p,I x1,I n] w' λn w'=>R (Z (aw #[])) w'):=uj_ {N:=41,keep:=kp 0 [[0,1,2,6],[0,1,8],[]],bQ:=[(1,(.range 15))]} func138 (by kernel_rfl)
theorem afm {x x1 w R}:Uj (Calls prog 140 #[ab (aa x),ab (aa x1)] w R) (Sm w λw'=>Lp w' x λp=>∃a,p=aa a/\Lp w' (add (a.add 0) 4) λp=>Li w' (x1.add 2) λn=>Ci 141 [ab p,I n] w' λn w'=>R (Z (aw #[])) w'):=uj_ {N:=10,keep:=kp 0 [[]],bQ:=[(0,(.range 8))]} func140 (by kernel_rfl)
theorem afp {x x1 w R}:Uj (Calls prog 143 #[ab (aa x),ab (aa x1)] w R) (Lp w x λp=>Li w (x1.add 2) λn=>Cn 144 [ab p,I n] w λw'=>R (Z (aw #[])) w'):=uj_ {N:=6,keep:=kp 0 [[]]} func143 (by kernel_rfl)
theorem afq {x x1 w R}:Uj (Calls prog 144 #[ab x,I x1] w R) (∃a,x=aa a/\Lp w (add (a.add 0) 3) λp=>Call prog 248 [ab p,I x1] w λe w'=>∃b g h n k,e=Z (aw #[agg #[.bool b,.bool g,.bool h,int .u64 n],I k])/\aI w' [.bool ae,.bool ae,.bool ae,int .u64 0] 198 λp w'=>Wr w' p [.bool b,.bool g,.bool h,int .u64 n] λw'=>∃a,x=aa a/\Lp w' (add (a.add 0) 4) λi=>Call prog 186 [ab i,I x1] w' λe w'=>∃n b,e=Z (aw #[I n,.bool b])/\Sm w' λc=>∃a,x=aa a/\∃d,c.cell? (a.add 17)=aa (int .u64 d)/\∃f,c.cell? (p.add 3)=aa (int .u64 f)/\∃j,c.cell? (p.add 3)=aa (int .u64 j)/\Call prog 23 [int .u64 j,I n] c λe w'=>∃b,e=Z (.bool b)/\w'.cell? (p.add 3)=aa (int .u64 f)/\w'.cell? (a.add 17)=aa (int .u64 d)/\Cj 239 [int .u64 d,agg #[I 0,int .u64 f,I n,.bool !b]] w' λb w'=>Fo b (Cn 138 [ab x,I x1,I n] w' λw'=>R (Z (aw #[])) w') (R (Z (aw #[])) w')):=uj_ {N:=46,keep:=kp 0 [[0,1,4],[0,1,4,6],[0,1,6,41],[]],bQ:=[(2,(.range 14))]} func144 (by kernel_rfl)
theorem afy {x x1 w R}:Uj (Calls prog 152 #[ab x,I x1] w R) (Fz (decide (x1<0)) (∃a,x=aa a/\Li w (a.add 15) λn=>Fo (decide (x1>=n)) (R (Z (I 3)) w) (∃a,x=aa a/\Lu w (a.add 17) λn=>Cj 23 [int .u64 n,I x1] w λb w'=>Fo (!b) (R (Z (I 9)) w') (R (Z (I 0)) w'))) (R (Z (I 3)) w)):=uj_ {N:=24,keep:=kp 0 [[0,1],[0,1,5],[4],[16],[4],[4]],bk:=[(0,[])]} func152 (by kernel_rfl)
theorem afz {x x1 x2 w R}:Uj (Calls prog 153 #[ab x,I x1,I x2] w R) (∃a,x=aa a/\Li w (a.add 18) λn=>Ct 122 [I n,I x2] w λn b w'=>Fo (b !=0) (R (Z (aw #[I 0,I b])) w') (∃a,x=aa a/\Lp w' (add (a.add 0) 2) λp=>Ct 240 [ab p,I x1,I n] w' λn c w'=>R (Z (aw #[I n,I c])) w')):=uj_ {N:=32,keep:=kp 0 [[0,1,2],[0,1,8,9],[0,1,8,9,20],[6,7],[6,7]]} func153 (by kernel_rfl)
theorem afI {x x1 w R}:Uj (Calls prog 162 #[ab x,I x1] w R) (∃a,x=aa a/\Lp w (add (a.add 0) 2) λp=>Call prog 105 [ab p,I x1] w λe w'=>∃n b,e=Z (aw #[I n,.bool b])/\Fo (!b) (R (Z (I 4)) w') (∃a,x=aa a/\∃r,w'.cell? (a.add 20)=aa (map r)/\∃n,aZ prog (dg 78 (map r) (I x1) ae) w'=a7 (I n) w'/\Fo (decide (n>0)) (R (Z (I 6)) w') (∃a,x=aa a/\Lp w' (add (a.add 0) 2) λp=>Ci 244 [ab p,I x1] w' λn w'=>R (Z (I n)) w'))):=uj_ {N:=35,keep:=kp 0 [[0,1],[0,1,6],[0,1,17],[4],[0,1,20],[4],[4]],bk:=[(0,[0,1])]} func162 (by kernel_rfl)
theorem afJ {x x1 w R}:Uj (Calls prog 163 #[ab x,I x1] w R) (Fz (decide (x1<1)) (Fo (decide (x1>32)) (R (Z (aw #[I 0,I 2])) w) (∃a,x=aa a/\Lp w (add (a.add 0) 5) λp=>Cj 263 [ab p,I x1] w λb w'=>Fo b (R (Z (aw #[I 1,I 0])) w') (R (Z (aw #[I 0,I 0])) w'))) (R (Z (aw #[I 0,I 2])) w)):=uj_ {N:=21,keep:=kp 0 [[0,1],[0,1,6],[4,5],[13],[4,5],[4,5]],bk:=[(0,[])]} func163 (by kernel_rfl)
theorem afK {x x1 w R}:Uj (Calls prog 164 #[ab x,I x1] w R) (Fz (decide (x1<0)) (Fo (decide (x1>=10)) (R (Z (I 3)) w) (∃a,x=aa a/\Lp w (add (a.add 0) 11) λp=>Ci 264 [ab p,I x1] w λn w'=>R (Z (I n)) w')) (R (Z (I 3)) w)):=uj_ {N:=18,keep:=kp 0 [[0,1],[0,1,10],[4],[4]]} func164 (by kernel_rfl)
theorem afM {x x1 w R}:Uj (Calls prog 166 #[ab x,I x1] w R) (Fz (decide (x1<0)) (Fo (decide (x1>1073741824)) (R (Z (I 2)) w) (∃a,x=aa a/\Wr w (a.add 19) [I x1] λw'=>R (Z (I 0)) w')) (R (Z (I 2)) w)):=uj_ {N:=15,keep:=kp 0 [[0,1],[0,1,10],[4],[],[4]]} func166 (by kernel_rfl)
def AY:Mt:={N:=26,keep:=kp 0 [[0,1,2],[0,1,2,7],[1,2,7,14,15,16],[1,2,7,14,15,16,17],[1,2,9,14,15,16],[1,2,7,14,15,16],[1,2,7,14,15,16],[6]],bk:=[(0,[7]),(1,[1,2,7,14,15,16])],lk:=[(3,[1,2,7,14,15,16])]}
def Kz:=bc f167
def Uc:=Kz.sr.sr.sr
def KA:=Kz.sr.sr.sl.sr.sl.sl
def Gh (x x1 x2:Int) (x3:Option Addr) (x4 x5:Nat) (x6 a:Int):Env:=[vI 1 x,vI 2 x1,vI 7 x2,vS 14 x3 x4 x5,vI 15 x6,vI 16 a]
def Ow (R:RT):=aW 0 [7] (SQ AY Uc (Rt f167 R) (Rt f167 R))
theorem afN {x x1 x2 w R}:Uj (Calls prog 167 #[ab x,I x1,I x2] w R) (∃a,x=aa a/\Lq w (add (a.add 0) 14) λp n c=>Cut (WP prog 26 (bj KA) (Gh x1 x2 0 p n c (↑n:Int) 0) w (Ow R))):=uj_ AY func167 (by kernel_rfl)
theorem acM (x x1 x2 x3 x4 x5 x6 b w B R):den prog AY KA (Gh x x1 x2 x3 x4 x5 x6 b) w (bd B (Ow R))=
(Fo (decide (b<x6)) ((0<=b/\b<(↑x4:Int))/\∃a,x3=aa a/\Lp w (add a (aG b*1)) λp=>Ci 266 [ab p,I x,I x1] w λn w'=>B [vI 1 x,vI 2 x1,vI 7 n,vS 14 x3 x4 x5,vI 15 x6,(16,SV.v (I (wrap i64 (b+1))))] w') (R (Z (I x2)) w)):=by kernel_rfl
def kv:Mt:={N:=104,keep:=kp 0 [[1,2,8,62],[1,2,3,8,62],[1,2,3,5,8,62],[1,2,3,5,8,52,62],[2],[1,2,5,8,60,62],[],[1,2,5,8,9],[1,2,5,8,9,77],[1,2,5,8,9],[1,2,5,8,9],[2,8],[2],[2]],bQ:=[(1,(.range 15)),(2,(.range 16)),(3,[0,1,2,3,4,5,7,8,9,10,11,12,6,13,14,15]),(10,(.range 8)),(11,(.range 10))],bk:=[(0,[2]),(1,[])],alts:=[(2,(.step 0 (.step 1 (.step 2 (.step 3 (.step 4 (.step 5 (.step 6 (.step 7 (.step 8 (.alt (.step 9 (.step 10 (.step 11 (.step 12 (.step 13 (.step 14 (.step 15 .fin))))))) (.step 13 (.step 9 (.step 10 (.step 11 (.step 12 (.step 14 (.step 15 .fin))))))))))))))))))]}
def nt:=bc f168
def Ud:=nt.sr.sr.sr.sr.sr
def KB:=nt.sr.sr.sr.sr.sl.sr.sl
theorem Tp:f168.body=aa nt:=by kernel_rfl
theorem n168:f168.ntmps=kv.N:=by kernel_rfl
theorem afP {x w R}:Uj (Calls prog 173 #[ab x] w R) (Call prog 72 [ab x] w λe w'=>∃p b d a f g h i j k l m o q r n c,e=Z (agg #[ab p,ab b,ab d,ab a,ab f,ab g,ab h,ab i,ab j,ab k,ab l,ab m,ab o,ab q,aj r n c])/\R (Z (ab a)) w'):=uj_ {N:=6,keep:=kp 0 [[0],[2]]} func173 (by kernel_rfl)
theorem afS {x w R}:Uj (Calls prog 178 #[ab x] w R) (Call prog 72 [ab x] w λe w'=>∃p b d f g h i j k l m o a q r n c,e=Z (agg #[ab p,ab b,ab d,ab f,ab g,ab h,ab i,ab j,ab k,ab l,ab m,ab o,ab a,ab q,aj r n c])/\R (Z (ab a)) w'):=uj_ {N:=6,keep:=kp 0 [[0],[2]]} func178 (by kernel_rfl)
theorem afU {x w R}:Uj (Calls prog 180 #[ab x] w R) (Call prog 72 [ab x] w λe w'=>∃p a b d f g h i j k l m o q r n c,e=Z (agg #[ab p,ab a,ab b,ab d,ab f,ab g,ab h,ab i,ab j,ab k,ab l,ab m,ab o,ab q,aj r n c])/\R (Z (ab p)) w'):=uj_ {N:=6,keep:=kp 0 [[0],[2]]} func180 (by kernel_rfl)
theorem afY {x w R}:Uj (Calls prog 185 #[ab x] w R) (Call prog 72 [ab x] w λe w'=>∃p b d f a g h i j k l m o q r n c,e=Z (agg #[ab p,ab b,ab d,ab f,ab a,ab g,ab h,ab i,ab j,ab k,ab l,ab m,ab o,ab q,aj r n c])/\R (Z (ab a)) w'):=uj_ {N:=6,keep:=kp 0 [[0],[2]]} func185 (by kernel_rfl)
theorem agd {x x1 w R}:Uj (Calls prog 201 #[ab x,I x1] w R) (∃a,x=aa a/\Lp w (add (a.add 0) 4) λp=>Cq 291 [ab p,I x1] w λp n c w'=>∃a,x=aa a/\Lp w' (add (a.add 0) 3) λd=>Ci 270 [aj p n c,func (aS 175) #[ab d] #[]] w' λb w'=>Fo (decide (b<0)) (R (Z (aw #[I 0,.bool ae])) w') ((0<=b/\b<(↑n:Int))/\∃a,p=aa a/\Li w' (add a (aG b*1)) λn=>R (Z (aw #[I n,.bool ah])) w')):=uj_ {N:=29,keep:=kp 0 [[0,1],[0,6],[6,7],[6,7,24],[4,5],[4,5]]} func201 (by kernel_rfl)
theorem agm {x x1 x2 x3 x4 x5 w R}:Uj (Calls prog 209 #[ab x,agg #[I x1,(.bool x2),(.bool x3)],I x4,I x5] w R) (aI w [I x1,.bool x2,.bool x3] 303 λp w'=>∃a,x=aa a/\Lp w' (add (a.add 0) 11) λd=>Cj 100 [ab d] w' λb w'=>Lj w' (p.add 1) λc=>Fo c (Li w' (p.add 0) λn=>Cn 297 [ab x,.bool b,I n,I x4] w' λw'=>R (Z (.bool ah)) w') (Li w' (p.add 0) λn=>Fo (n==0) (∃a,x=aa a/\Lp w' (add (a.add 0) 9) λp=>Ci 298 [ab p] w' λn w'=>R (Z (.bool (n==0))) w') (Fo b (Li w' (p.add 0) λn=>Cn 299 [ab x,I n,I x4] w' λw'=>R (Z (.bool ah)) w') (Li w' (p.add 0) λn=>Cj 300 [ab x,I n,I x4,I x5] w' λb w'=>R (Z (.bool b)) w')))):=uj_ {N:=49,keep:=kp 0 [[0,2,3,5],[0,2,3,5,9],[0,2,3,5,9,16],[],[8],[0,2,3,5,9,25],[8],[0,2,3,5,36],[],[8],[8]],bk:=[(0,[0,2,3,5])]} func209 (by kernel_rfl)
theorem agx {x x1 x2 x3 x4 w R}:Uj (Calls prog 220 #[ab x,I x1,I x2,I x3,I x4] w R) (∃a,x=aa a/\Lp w (add (a.add 0) 8) λp=>Ci 260 [ab p,I x1,I 1] w λn w'=>aI w' [I x2,I x1,I x3,I x4,I 0] 43 λp w'=>R (Z (aj (aa p) 1 1)) w'):=uj_ {N:=24,keep:=kp 0 [[0,1,2,3,4],[1,2,3,4],[10]]} func220 (by kernel_rfl)
def yD:Mt:={N:=39,keep:=kp 0 [[0,1],[0,1,5],[0,1,5,7],[0,1,5,7],[0,1,5,7,30],[0,1,5,7],[4]],bD:=[(6,[0,1,5,7])]}
def Uo:=bc f222
def BS:=Uo.sr.sr.sr.sr.sr
def Cw (x:Option Addr) (x1 x2 x3:Int):Env:=[vP 0 x,vI 1 x1,vI 5 x2,vI 7 x3]
def C8 (R:RT):=Rt f222 R
theorem agz {x x1 w R}:Uj (Calls prog 222 #[ab x,I x1] w R) (∃a,x=aa a/\Lp w (add (a.add 0) 2) λp=>Ct 306 [ab p,I x1] w λn d w'=>∃a,x=aa a/\∃r,w'.cell? (a.add 20)=aa (map r)/\∃b,aZ prog (dg 78 (map r) (I n) ae) w'=a7 (I b) w'/\∃a,x=aa a/\∃r,w'.cell? (a.add 20)=aa (map r)/\∃c,aZ prog (gW #[78,3] 0 #[map r,I n]) w'=a7 (aw #[]) c/\Fo (decide (b>0)) (Call prog 134 [ab x,I b] c λe w'=>e=Z (aw #[])/\aP prog yD BS (Cw x x1 n b) w' (C8 R)) (aP prog yD BS (Cw x x1 n b) c (C8 R))):=uj_ yD func222 (by kernel_rfl)
theorem acZ (x x1 x2 x3 w R):den prog yD BS (Cw x x1 x2 x3) w (C8 R)=
(Cq 220 [ab x,I x1,I 3,I x2,I x3] w λp n c w'=>R (Z (aj p n c)) w'):=by kernel_rfl
def A8:Mt:={N:=19,keep:=kp 0 [[0,1],[0,1,7,8],[0,1,7,8,9],[0,1,5,7,8],[0,1,5,7,8,16],[4],[0,1,7,8],[4]],bk:=[(0,[]),(1,[0,1,7,8])],lk:=[(2,[0,1,7,8])]}
def Ld:=bc f270
def Ut:=Ld.sr.sr
def Le:=Ld.sr.sl.sr.sl.sl
def Na (x:Option Addr) (x1 x2:Nat) (x3:Option Addr) (x4 x5:Int):Env:=[vS 0 x x1 x2,(1,SV.v (func (aS 175) #[(ab x3)] #[])),vI 7 x4,vI 8 x5]
def OL (R:RT):=aW 0 [] (SQ A8 Ut (Rt f270 R) (Rt f270 R))
theorem ahk {x x1 x2 x3 w R}:Uj (Calls prog 270 #[aj x x1 x2,func (aS 175) #[(ab x3)] #[]] w R) (Cut (WP prog 19 (bj Le) [vS 0 x x1 x2,(1,SV.v (func (aS 175) #[ab x3] #[])),(7,SV.v (I (↑x1:Int))),vI 8 0] w (OL R))):=uj_ A8 func270 (by kernel_rfl)
theorem ac7 (x x1 x2 x3 x4 x5 w B R):den prog A8 Le (Na x x1 x2 x3 x4 x5) w (bd B (OL R))=
(Fo (decide (x5<x4)) ((0<=x5/\x5<(↑x1:Int))/\∃a,x=aa a/\Li w (add a (aG x5*1)) λn=>Cj 175 [ab x3,I n] w λb w'=>Fo b (R (Z (I x5)) w') (B [vS 0 x x1 x2,(1,SV.v (func (aS 175) #[ab x3] #[])),vI 7 x4,(8,SV.v (I (wrap i64 (x5+1))))] w')) (R (Z (I (-1:Int))) w)):=by kernel_rfl
theorem ahF {x x1 x2 x3 w R}:Uj (Calls prog 297 #[ab x,.bool x1,I x2,I x3] w R) (Fo x1 (Fo (x2==1) (∃a,x=aa a/\Lp w (add (a.add 0) 12) λp=>Ci 354 [ab p,I x3,.bool ae] w λn w'=>R (Z (aw #[])) w') (Fo (!x1) (Fo (x2==1) (∃a,x=aa a/\Lu w (a.add 17) λn=>aI w [I x3] 3 λp w'=>Cu 179 [int .u64 n,aj (aa p) 1 1] w' λn w'=>∃a,x=aa a/\Wr w' (a.add 17) [int .u64 n] λw'=>R (Z (aw #[])) w') (R (Z (aw #[])) w)) (R (Z (aw #[])) w))) (Fo (!x1) (Fo (x2==1) (∃a,x=aa a/\Lu w (a.add 17) λn=>aI w [I x3] 3 λp w'=>Cu 179 [int .u64 n,aj (aa p) 1 1] w' λn w'=>∃a,x=aa a/\Wr w' (a.add 17) [int .u64 n] λw'=>R (Z (aw #[])) w') (R (Z (aw #[])) w)) (R (Z (aw #[])) w))):=uj_ {N:=38,keep:=kp 0 [[0,1,2,3,8],[],[0,3,21],[]],bk:=[(0,[])]} func297 (by kernel_rfl)
def qw:Mt:={N:=79,keep:=kp 0 [[0,2,10],[0,2,10,11],[],[0,2,20],[],[0],[0,54,55,56],[0,54,55,56,57],[0,7,54,55,56],[0,54,55,56],[0,54,55,56],[0,69,70,71],[0,69,70,71,72],[0,9,69,70,71],[0,69,70,71],[0,69,70,71]],bQ:=[(5,[0,1,2,3,4,5,6,9,10,11,12,13,7,8,14,15,16,17,18,19,20,21])],bk:=[(0,[0,2]),(1,[0]),(2,[0,54,55,56]),(3,[]),(4,[0,69,70,71])],bD:=[(11,[0])],lk:=[(7,[0,54,55,56]),(12,[0,69,70,71])],alts:=[(5,(.step 0 (.step 1 (.step 2 (.step 3 (.step 4 (.step 5 (.step 6 (.step 9 (.step 10 (.step 11 (.step 12 (.step 13 (.alt (.step 7 (.alt (.step 8 (.step 14 (.step 15 (.step 16 (.step 17 (.step 18 (.step 19 (.step 20 (.step 21 .fin))))))))) (.step 14 (.step 8 (.step 15 (.step 16 (.step 17 (.step 18 (.step 19 (.step 20 (.step 21 .fin))))))))))) (.step 14 (.step 7 (.step 8 (.step 15 (.step 16 (.step 17 (.step 18 (.step 19 (.step 20 (.step 21 .fin))))))))))))))))))))))))]}
def FB:=bc f299
def BW:=FB.sr.sr.sr
def yW:=FB.sr.sr.sl.sr.sl.sl
def Lw:=FB.sr.sr.sr.sr.sl.sl
def GA (x:Option Addr):Env:=[vP 0 x]
def wP (x x1:Option Addr) (x2 x3:Nat) (x4 x5:Int):Env:=[vP 0 x,vS 54 x1 x2 x3,vI 55 x4,vI 56 x5]
def GB (x x1:Option Addr) (x2 x3:Nat) (x4 x5:Int):Env:=[vP 0 x,vS 69 x1 x2 x3,vI 70 x4,vI 71 x5]
def HF (R:RT):=Rt f299 R
def zI (R:RT):=aW 1 [0] (SQ qw BW (Rt f299 R) (Rt f299 R))
def OQ (R:RT):=aW 3 [] (Rt f299 R)
theorem ahH {x x1 x2 w R}:Uj (Calls prog 299 #[ab x,I x1,I x2] w R) (Fo (x1==1) (∃a,x=aa a/\Lp w (add (a.add 0) 12) λp=>Ci 354 [ab p,I x2,.bool ah] w λn w'=>R (Z (aw #[])) w') (Fo (x1==2) (∃a,x=aa a/\Lp w (add (a.add 0) 7) λp=>Ct 355 [ab p,I x2] w λn b w'=>R (Z (aw #[])) w') (Sm w λw'=>∃a,x=aa a/\Lu w' (a.add 16) λn=>∃d,x=aa d/\Lu w' (d.add 17) λb=>(aI w' [I x2] 3 λp w'=>w'.cell? (d.add 17)=aa (int .u64 b)/\w'.cell? (a.add 16)=aa (int .u64 n)/\(Cu 179 [int .u64 n,aj (aa p) 1 1] w' λf w'=>w'.cell? (d.add 17)=aa (int .u64 b)/\aI w' [I x2] 3 λp w'=>w'.cell? (d.add 17)=aa (int .u64 b)/\w'.cell? (a.add 16)=aa (int .u64 n)/\Cu 179 [int .u64 b,aj (aa p) 1 1] w' λn w'=>∃a,x=aa a/\Wr w' (a.add 16) [int .u64 f] λw'=>∃a,x=aa a/\Wr w' (a.add 17) [int .u64 n] λw'=>∃a,x=aa a/\Lp w' (add (a.add 0) 0) λp=>Cq 181 [ab p] w' λp n c w'=>Cut (WP prog 79 (bj yW) (wP x p n c (↑n:Int) 0) w' (zI R)))/\aI w' [I x2] 3 λg w'=>w'.cell? (d.add 17)=aa (int .u64 b)/\w'.cell? (a.add 16)=aa (int .u64 n)/\Cu 179 [int .u64 n,aj (aa p) 1 1] w' λn w'=>w'.cell? (d.add 17)=aa (int .u64 b)/\Cu 179 [int .u64 b,aj (aa g) 1 1] w' λf w'=>∃a,x=aa a/\Wr w' (a.add 16) [int .u64 n] λw'=>∃a,x=aa a/\Wr w' (a.add 17) [int .u64 f] λw'=>∃a,x=aa a/\Lp w' (add (a.add 0) 0) λp=>Cq 181 [ab p] w' λp n c w'=>Cut (WP prog 79 (bj yW) (wP x p n c (↑n:Int) 0) w' (zI R)))/\aI w' [I x2] 3 λp w'=>w'.cell? (d.add 17)=aa (int .u64 b)/\w'.cell? (a.add 16)=aa (int .u64 n)/\aI w' [I x2] 3 λg w'=>w'.cell? (d.add 17)=aa (int .u64 b)/\w'.cell? (a.add 16)=aa (int .u64 n)/\Cu 179 [int .u64 n,aj (aa g) 1 1] w' λn w'=>w'.cell? (d.add 17)=aa (int .u64 b)/\Cu 179 [int .u64 b,aj (aa p) 1 1] w' λf w'=>∃a,x=aa a/\Wr w' (a.add 16) [int .u64 n] λw'=>∃a,x=aa a/\Wr w' (a.add 17) [int .u64 f] λw'=>∃a,x=aa a/\Lp w' (add (a.add 0) 0) λp=>Cq 181 [ab p] w' λp n c w'=>Cut (WP prog 79 (bj yW) (wP x p n c (↑n:Int) 0) w' (zI R))))):=uj_ qw func299 (by kernel_rfl)
theorem ade (x w R):den prog qw BW (GA x) w (HF R)=
(∃a,x=aa a/\Lp w (add (a.add 0) 3) λp=>Cq 174 [ab p] w λp n c w'=>Cut (WP prog 79 (bj Lw) (GB x p n c (↑n:Int) 0) w' (OQ R))):=by kernel_rfl
theorem adf (x x1 x2 x3 x4 x5 w B R):den prog qw yW (wP x x1 x2 x3 x4 x5) w (bd B (zI R))=
(Fo (decide (x5<x4)) ((0<=x5/\x5<(↑x2:Int))/\∃a,x1=aa a/\Li w (add a (aG x5*1)) λn=>Cn 130 [ab x,I n] w λw'=>B [vP 0 x,vS 54 x1 x2 x3,vI 55 x4,(56,SV.v (I (wrap i64 (x5+1))))] w') (aP prog qw BW (GA x) w (HF R))):=by kernel_rfl
theorem adg (x x1 x2 x3 x4 x5 w B R):den prog qw Lw (GB x x1 x2 x3 x4 x5) w (bd B (OQ R))=
(Fo (decide (x5<x4)) ((0<=x5/\x5<(↑x2:Int))/\∃a,x1=aa a/\Li w (add a (aG x5*1)) λn=>Cn 144 [ab x,I n] w λw'=>B [vP 0 x,vS 69 x1 x2 x3,vI 70 x4,(71,SV.v (I (wrap i64 (x5+1))))] w') (R (Z (aw #[])) w)):=by kernel_rfl
theorem ahI {x x1 x2 x3 w R}:Uj (Calls prog 300 #[ab x,I x1,I x2,I x3] w R) (Fo (x1==1) (∃a,x=aa a/\Lu w (a.add 17) λn=>Cu 158 [int .u64 n,I x2] w λn w'=>∃a,x=aa a/\Wr w' (a.add 17) [int .u64 n] λw'=>R (Z (.bool ah)) w') (Fo (x1==2) (Cj 356 [ab x,I x2] w λb w'=>R (Z (.bool b)) w') (Fo (x1==3) (∃a,x=aa a/\Lp w (add (a.add 0) 2) λp=>Ct 357 [ab p,I x2,I x3] w λn c w'=>R (Z (.bool (c !=0))) w') (Fo (x1==4) (∃a,x=aa a/\Lp w (add (a.add 0) 5) λp=>Ct 358 [ab p,I x2] w λn c w'=>R (Z (.bool (c !=0))) w') (Fo (x1==5) (∃a,x=aa a/\Lp w (add (a.add 0) 6) λp=>Ct 359 [ab p,I x2,I x3] w λn c w'=>R (Z (.bool (c !=0))) w') (Fo (x1==6) (Cj 360 [ab x,I x2,I x3] w λb w'=>R (Z (.bool b)) w') (Fo (x1==7) (∃a,x=aa a/\Lp w (add (a.add 0) 7) λp=>Ct 355 [ab p,I x2] w λn c w'=>R (Z (.bool ah)) w') (Fo (x1==8) (∃a,x=aa a/\Lp w (add (a.add 0) 8) λp=>Ci 361 [ab p,I x2,I x3] w λn w'=>R (Z (.bool ah)) w') (∃a,x=aa a/\Lu w (a.add 16) λn=>Cu 158 [int .u64 n,I x2] w λn w'=>∃a,x=aa a/\Wr w' (a.add 16) [int .u64 n] λw'=>∃a,x=aa a/\Lp w' (add (a.add 0) 12) λp=>Ci 354 [ab p,I x2,.bool ae] w' λn w'=>R (Z (.bool ah)) w'))))))))):=uj_ {N:=112,keep:=kp 0 [[0,1,2,3],[0,1,2,3],[0,2,3,10],[0,2,3,10,11],[],[8],[0,2,3,10,22],[8],[0,2,3,10,27],[9],[8],[0,2,3,10,42],[9],[8],[0,2,3,10,56],[9],[8],[0,2,3,10,71],[8],[0,2,3,10,77],[],[8],[0,2,3,86],[],[8],[0,2],[],[8]],bk:=[(0,[0,2])]} func300 (by kernel_rfl)
theorem aiv {x x1 w R}:Uj (Calls prog 356 #[ab x,I x1] w R) (∃a,x=aa a/\Lp w (add (a.add 0) 1) λp=>Cq 88 [ab p,I x1] w λp n c w'=>Fo ((↑n:Int)==0) (R (Z (.bool ah)) w') (Sm w' λb=>∃a,x=aa a/\∃d,b.cell? (add (a.add 0) 1)=aa (ab d)/\((0:Int)<=0/\0<(↑n:Int))/\∃a,p=aa a/\∃f,b.cell? (a.add 0)=aa (I f)/\Call prog 237 [ab d,I f] b λe w'=>∃g,e=Z (I g)/\((0:Int)<=0/\0<(↑n:Int))/\∃a,p=aa a/\Li w' (a.add 0) λn=>Cn 126 [ab x,I n,I x1] w' λw'=>R (Z (.bool ae)) w')):=uj_ {N:=31,keep:=kp 0 [[0,1],[0,1,5],[0,1,5,15],[4],[0,1,5],[],[4]],bQ:=[(4,(.range 9))]} func356 (by kernel_rfl)
def vF:Mt:={N:=63,keep:=kp 0 [[0,1,2],[0,1,2,9],[],[6],[0,1,32],[6],[0,1,46,47,48],[0,1,46,47,48,49],[0,1,8,46,47,48],[0,1,46,47,48],[0,1,46,47,48],[],[6]],bQ:=[(2,[0,1,2,3,4,5,6,7,8,9,12,10,11,13,14])],bk:=[(0,[0,1]),(1,[0]),(2,[0,1,46,47,48])],bD:=[(11,[0])],lk:=[(7,[0,1,46,47,48])]}
def LG:=bc f360
def FD:=LG.sr.sr.sr
def LH:=LG.sr.sr.sl.sr.sl.sl
def Nc (x:Option Addr):Env:=[vP 0 x]
def GG (x:Option Addr) (x1:Int) (x2:Option Addr) (x3 x4:Nat) (x5 x6:Int):Env:=[vP 0 x,vI 1 x1,vS 46 x2 x3 x4,vI 47 x5,vI 48 x6]
def OY (R:RT):=Rt f360 R
def OZ (R:RT):=aW 1 [0] (SQ vF FD (Rt f360 R) (Rt f360 R))
theorem aiz {x x1 x2 w R}:Uj (Calls prog 360 #[ab x,I x1,I x2] w R) (∃a,x=aa a/\Lp w (add (a.add 0) 10) λp=>Cj 388 [ab p] w λb w'=>Fo (!b) (Sm w' λd=>∃a,x=aa a/\∃p,d.cell? (add (a.add 0) 10)=aa (ab p)/\∃f,x=aa f/\∃n,d.cell? (f.add 17)=aa (int .u64 n)/\aI d [I x1] 3 λg w'=>w'.cell? (f.add 17)=aa (int .u64 n)/\w'.cell? (add (a.add 0) 10)=aa (ab p)/\Cu 179 [int .u64 n,aj (aa g) 1 1] w' λn w'=>w'.cell? (add (a.add 0) 10)=aa (ab p)/\Cu 158 [int .u64 n,I x2] w' λn w'=>w'.cell? (add (a.add 0) 10)=aa (ab p)/\Ci 389 [ab p,int .u64 n] w' λn w'=>R (Z (.bool ae)) w') (∃a,x=aa a/\Lp w' (add (a.add 0) 10) λp=>Cj 390 [ab p] w' λb w'=>Fo (!b) (R (Z (.bool ae)) w') (∃a,x=aa a/\Lp w' (add (a.add 0) 4) λp=>Cq 291 [ab p,I x1] w' λp n c w'=>Cut (WP prog 63 (bj LH) (GG x x1 p n c (↑n:Int) 0) w' (OZ R))))):=uj_ vF func360 (by kernel_rfl)
theorem adm (x w R):den prog vF FD (Nc x) w (OY R)=
(∃a,x=aa a/\Lp w (add (a.add 0) 10) λp=>Ci 391 [ab p] w λn w'=>R (Z (.bool ah)) w'):=by kernel_rfl
theorem adn (x x1 x2 x3 x4 x5 x6 w B R):den prog vF LH (GG x x1 x2 x3 x4 x5 x6) w (bd B (OZ R))=
(Fo (decide (x6<x5)) ((0<=x6/\x6<(↑x3:Int))/\∃a,x2=aa a/\Li w (add a (aG x6*1)) λn=>Cn 138 [ab x,I n,I x1] w λw'=>B [vP 0 x,vI 1 x1,vS 46 x2 x3 x4,vI 47 x5,(48,SV.v (I (wrap i64 (x6+1))))] w') (aP prog vF FD (Nc x) w (OY R))):=by kernel_rfl
end
end
section
open Value IntKind Ending World Addr Tryz
open Value renaming pointer→ab,slice→aj,tuple→aw,bool→o7
set_option maxRecDepth 100000
noncomputable section
def M6:Mt:={N:=108,keep:=kp 0 [[0,1],[0,1,5,6],[0,1,5,26],[4],[0,1,5,7],[0,1,5,7,31],[0,1,5,7],[0,1,5,7],[0,1,5,7,49],[0,1,5,7,8,9],[0,1,5,7,8,9,10,11],[0,1,5,7,8,69],[4],[0,1,5,7,8,12],[0,1,5,7,8,12,72],[0,1,5,7,8,12],[0,1,5,7,8,12,13],[0,1,5,7,8,12,106],[4],[4]],bk:=[(0,[]),(1,[0,1,5,7]),(2,[0,1,5,7]),(3,[0,1,5,7,8,12])],bD:=[(9,[0,1,5,7]),(17,[0,1,5,7,8,12,13]),(19,[])],lk:=[(5,[0,1,5,7]),(14,[0,1,5,7,8,12])]}
def c6:=bc f6
def cw:=c6.sr.sr.sr.sr
def Mi:=c6.sr.sr.sr.sl.sr.sl.sl
def lF:=c6.sr.sr.sr.sl.sr.sl.sl.sr.sr
def B5:=c6.sr.sr.sr.sl.sr.sl.sl.sr.sl.sl.sr.sr
def Mj:=c6.sr.sr.sr.sl.sr.sl.sl.sr.sl.sl.sr.sr.sr.sr.sr.sr.sl.sl
def FI:=c6.sr.sr.sr.sl.sr.sl.sl.sr.sl.sl.sr.sr.sr.sr.sr.sr.sl.sl.sr.sr
def uF:=c6.sr.sr.sr.sl.sr.sl.sl.sr.sl.sl.sr.sr.sr.sr.sr.sr.sl.sl.sr.sl.sl.sr
def Nk:Env:=[]
def CC (x:Int) (x1:Option Addr) (x2 x3:Nat) (x4:Option Addr) (x5:Int):Env:=[vI 0 x,vS 1 x1 x2 x3,vP 5 x4,vI 7 x5]
def CD (x:Int) (x1:Option Addr) (x2 x3:Nat) (x4:Option Addr) (x5:Int):Env:=[vI 0 x,vS 1 x1 x2 x3,vP 5 x4,vI 7 x5]
def CE (x:Int) (x1:Option Addr) (x2 x3:Nat) (x4:Option Addr) (x5:Int) (x6:Addr) (a:Int):Env:=[vI 0 x,vS 1 x1 x2 x3,vP 5 x4,vI 7 x5,(8,SV.v (ab (aa x6))),vI 12 a]
def GV (x:Int) (x1:Option Addr) (x2 x3:Nat) (x4:Option Addr) (x5:Int) (x6:Addr) (a:Int) (b:Bool):Env:=[vI 0 x,vS 1 x1 x2 x3,vP 5 x4,vI 7 x5,(8,SV.v (ab (aa x6))),vI 12 a,(13,SV.v (.bool b))]
def Pk (R:RT):=Rt f6 R
def Pm (R:RT):=aW 0 [] (SQ M6 cw (Rt f6 R) (Rt f6 R))
def Dd (B6_1:Env->World->Prop) (R:Ending->World->Prop):dL:=aW 1 [0,1,5,7] (cW (λE w=>cU (cV M6.bD (cF lF)) prog M6 lF E w (bd B6_1 (aW 0 [] (cW (λE w=>cU (cV M6.bD (cF cw)) prog M6 cw E w (Rt f6 R) λE=>den prog M6 cw E w (Rt f6 R)) (Rt f6 R)))) λE=>den prog M6 lF E w (bd B6_1 (aW 0 [] (cW (λE w=>cU (cV M6.bD (cF cw)) prog M6 cw E w (Rt f6 R) λE=>den prog M6 cw E w (Rt f6 R)) (Rt f6 R))))) (bd B6_1 (aW 0 [] (cW (λE w=>cU (cV M6.bD (cF cw)) prog M6 cw E w (Rt f6 R) λE=>den prog M6 cw E w (Rt f6 R)) (Rt f6 R)))))
def Pn (B6_1:Env->World->Prop) (R:Ending->World->Prop):dL:=aW 2 [0,1,5,7] (aW 1 [0,1,5,7] (cW (λE w=>cU (cV M6.bD (cF lF)) prog M6 lF E w (bd B6_1 (aW 0 [] (cW (λE w=>cU (cV M6.bD (cF cw)) prog M6 cw E w (Rt f6 R) λE=>den prog M6 cw E w (Rt f6 R)) (Rt f6 R)))) λE=>den prog M6 lF E w (bd B6_1 (aW 0 [] (cW (λE w=>cU (cV M6.bD (cF cw)) prog M6 cw E w (Rt f6 R) λE=>den prog M6 cw E w (Rt f6 R)) (Rt f6 R))))) (bd B6_1 (aW 0 [] (cW (λE w=>cU (cV M6.bD (cF cw)) prog M6 cw E w (Rt f6 R) λE=>den prog M6 cw E w (Rt f6 R)) (Rt f6 R))))))
def vd (B6_1:Env->World->Prop) (B6_4:Env->World->Prop) (R:Ending->World->Prop):dL:=aW 3 [0,1,5,7,8,12] (cW (λE w=>cU (cV M6.bD (cF FI)) prog M6 FI E w (bd B6_4 (aW 2 [0,1,5,7] (aW 1 [0,1,5,7] (cW (λE w=>cU (cV M6.bD (cF lF)) prog M6 lF E w (bd B6_1 (aW 0 [] (cW (λE w=>cU (cV M6.bD (cF cw)) prog M6 cw E w (Rt f6 R) λE=>den prog M6 cw E w (Rt f6 R)) (Rt f6 R)))) λE=>den prog M6 lF E w (bd B6_1 (aW 0 [] (cW (λE w=>cU (cV M6.bD (cF cw)) prog M6 cw E w (Rt f6 R) λE=>den prog M6 cw E w (Rt f6 R)) (Rt f6 R))))) (bd B6_1 (aW 0 [] (cW (λE w=>cU (cV M6.bD (cF cw)) prog M6 cw E w (Rt f6 R) λE=>den prog M6 cw E w (Rt f6 R)) (Rt f6 R)))))))) λE=>den prog M6 FI E w (bd B6_4 (aW 2 [0,1,5,7] (aW 1 [0,1,5,7] (cW (λE w=>cU (cV M6.bD (cF lF)) prog M6 lF E w (bd B6_1 (aW 0 [] (cW (λE w=>cU (cV M6.bD (cF cw)) prog M6 cw E w (Rt f6 R) λE=>den prog M6 cw E w (Rt f6 R)) (Rt f6 R)))) λE=>den prog M6 lF E w (bd B6_1 (aW 0 [] (cW (λE w=>cU (cV M6.bD (cF cw)) prog M6 cw E w (Rt f6 R) λE=>den prog M6 cw E w (Rt f6 R)) (Rt f6 R))))) (bd B6_1 (aW 0 [] (cW (λE w=>cU (cV M6.bD (cF cw)) prog M6 cw E w (Rt f6 R) λE=>den prog M6 cw E w (Rt f6 R)) (Rt f6 R))))))))) (bd B6_4 (aW 2 [0,1,5,7] (aW 1 [0,1,5,7] (cW (λE w=>cU (cV M6.bD (cF lF)) prog M6 lF E w (bd B6_1 (aW 0 [] (cW (λE w=>cU (cV M6.bD (cF cw)) prog M6 cw E w (Rt f6 R) λE=>den prog M6 cw E w (Rt f6 R)) (Rt f6 R)))) λE=>den prog M6 lF E w (bd B6_1 (aW 0 [] (cW (λE w=>cU (cV M6.bD (cF cw)) prog M6 cw E w (Rt f6 R) λE=>den prog M6 cw E w (Rt f6 R)) (Rt f6 R))))) (bd B6_1 (aW 0 [] (cW (λE w=>cU (cV M6.bD (cF cw)) prog M6 cw E w (Rt f6 R) λE=>den prog M6 cw E w (Rt f6 R)) (Rt f6 R)))))))))
theorem b6:f6.body=aa c6:=by kernel_rfl
theorem u6:UT 6 M6 c6 f6:=u_ func6 (by kernel_rfl)
theorem t6 (x x1 x2 x3 w R):den prog M6 c6 (iL 0 [I x,aj x1 x2 x3]) w (Rt f6 R)=
(Call prog 8 [I x] w λe w'=>∃p n,e=Z (aw #[ab p,I n])/\Fz (n !=0) (Cj 9 [I x,aj x1 x2 x3] w' λb w'=>Fo (!b) (Cj 10 [] w' λb w'=>R (Z (.bool b)) w') (Cut (WP prog 108 (bj Mi) (CC x x1 x2 x3 p 0) w' (Pm R)))) (Cj 10 [] w' λb w'=>R (Z (.bool b)) w')):=by kernel_rfl
theorem adL (w R):den prog M6 cw (Nk) w (Pk R)=
(Cj 10 [] w λb w'=>R (Z (.bool b)) w'):=by kernel_rfl
theorem adM (x x1 x2 x3 x4 x5 w B R):den prog M6 Mi (CC x x1 x2 x3 x4 x5) w (bd B (Pm R))=
(Fo (decide (x5<(↑x2:Int))) ((0<=x5/\x5<(↑x2:Int))/\∃a,x1=aa a/\∃n,w.cell? (add (add a (aG x5*5)) 0)=aa (I n)/\∃b,w.cell? (add (add a (aG x5*5)) 1)=aa (I b)/\∃d,w.cell? (add (add a (aG x5*5)) 2)=aa (I d)/\∃f,w.cell? (add (add a (aG x5*5)) 3)=aa (int .u64 f)/\∃g,w.cell? (add (add a (aG x5*5)) 4)=aa (I g)/\Cq 12 [ab x4,agg #[I n,I b,I d,int .u64 f,I g]] w λp n c w'=>(5:Int)≠0/\Fo (eO x5 (5:Int) !=0) (Fo (decide (x5<wrap i64 ((↑x2:Int)-1))) (B [vI 0 x,vS 1 x1 x2 x3,vP 5 x4,(7,SV.v (I (wrap i64 (x5+1))))] w') (aP prog M6 B5 (CD x x1 x2 x3 x4 x5) w' (Dd B R))) (aP prog M6 B5 (CD x x1 x2 x3 x4 x5) w' (Dd B R))) (aP prog M6 cw Nk w (Pk R))):=by kernel_rfl
theorem adN (x x1 x2 x3 x4 x5 w B6_1 R):den prog M6 B5 (CD x x1 x2 x3 x4 x5) w (Dd B6_1 R)=
(Call prog 27 [ab x4] w λe w'=>∃n g h i p j c k l m o q r s t u v y z A B C D E F b G H J d,e=Z (aw #[agg #[I n,int .u64 g,int .u64 h,int .u64 i,aj p j c,aj k l m,aj o q r,aj s t u,aj v y z,aj A B C,aj D E F,.bool b,.bool G,I H,I J],I d])/\aI w' [I 0,int .u64 0,int .u64 0,int .u64 0,N3,N3,N3,N3,N3,N3,N3,.bool ae,.bool ae,I 0,I 0] 65 λa w'=>Wr w' a [I n,int .u64 g,int .u64 h,int .u64 i,aj p j c,aj k l m,aj o q r,aj s t u,aj v y z,aj A B C,aj D E F,.bool b,.bool G,I H,I J] λw'=>Li w' (a.add 0) λn=>Lu w' (a.add 1) λK=>Lu w' (a.add 2) λL=>Lu w' (a.add 3) λM=>Lq w' (a.add 4) λp N c=>Lq w' (a.add 5) λO P Q=>Lq w' (a.add 6) λS T U=>Lq w' (a.add 7) λV W X=>∃Y n' m',w'.cell? (a.add 8)=aa (aj Y n' m')/\∃k' p' q',w'.cell? (a.add 9)=aa (aj k' p' q')/\∃a' b' c',w'.cell? (a.add 10)=aa (aj a' b' c')/\Lj w' (a.add 11) λb=>∃d',w'.cell? (a.add 12)=aa (.bool d')/\∃e',w'.cell? (a.add 13)=aa (I e')/\∃f',w'.cell? (a.add 14)=aa (I f')/\Ct 28 [agg #[I n,int .u64 K,int .u64 L,int .u64 M,aj p N c,aj O P Q,aj S T U,aj V W X,aj Y n' m',aj k' p' q',aj a' b' c',.bool b,.bool d',I e',I f']] w' λn f w'=>Fz (d !=0) (Fz (n !=0) (Fo (f !=0) (R (Z (.bool ae)) w') (Cut (WP prog 108 (bj Mj) (CE x x1 x2 x3 x4 x5 a 0) w' (Pn B6_1 R)))) (R (Z (.bool ae)) w')) (R (Z (.bool ae)) w')):=by kernel_rfl
theorem adO (x x1 x2 x3 x4 x5 x6 a w B C R):den prog M6 Mj (CE x x1 x2 x3 x4 x5 x6 a) w (bd C (Pn B R))=
(Fo (decide (a<x)) (Lj w (x6.add 11) λb=>Fo b (Lj w (x6.add 12) λb=>Fo b (Li w (x6.add 13) λn=>aP prog M6 uF (GV x x1 x2 x3 x4 x5 x6 a (n==a)) w (vd B C R)) (aP prog M6 uF [vI 0 x,vS 1 x1 x2 x3,vP 5 x4,vI 7 x5,(8,SV.v (ab (aa x6))),vI 12 a,(13,SV.b ae)] w (vd B C R))) (aP prog M6 uF [vI 0 x,vS 1 x1 x2 x3,vP 5 x4,vI 7 x5,(8,SV.v (ab (aa x6))),vI 12 a,(13,SV.b ae)] w (vd B C R))) (B [vI 0 x,vS 1 x1 x2 x3,vP 5 x4,(7,SV.v (I (wrap i64 (x5+1))))] w)):=by kernel_rfl
theorem adP (x x1 x2 x3 x4 x5 x6 e H w B6_1 B6_4 R):den prog M6 uF (GV x x1 x2 x3 x4 x5 x6 e H) w (vd B6_1 B6_4 R)=
(Lu w (x6.add 1) λn=>Cj 23 [int .u64 n,I e] w λb w'=>Fo (!b) (Li w' (x6.add 0) λn=>Lu w' (x6.add 1) λa=>Lu w' (x6.add 2) λd=>Lu w' (x6.add 3) λf=>Lq w' (x6.add 4) λp g c=>Lq w' (x6.add 5) λh i j=>Lq w' (x6.add 6) λk l m=>Lq w' (x6.add 7) λo q r=>Lq w' (x6.add 8) λs t u=>Lq w' (x6.add 9) λy z A=>Lq w' (x6.add 10) λB C D=>Lj w' (x6.add 11) λb=>Lj w' (x6.add 12) λE=>Li w' (x6.add 13) λF=>Li w' (x6.add 14) λG=>Cj 29 [agg #[I n,int .u64 a,int .u64 d,int .u64 f,aj p g c,aj h i j,aj k l m,aj o q r,aj s t u,aj y z A,aj B C D,.bool b,.bool E,I F,I G],I e] w' λb w'=>Fz b (Lu w' (x6.add 3) λn=>Cj 23 [int .u64 n,I e] w' λb w'=>Fo b (Fo (!H) (R (Z (.bool ae)) w') (B6_4 [vI 0 x,vS 1 x1 x2 x3,vP 5 x4,vI 7 x5,(8,SV.v (ab (aa x6))),(12,SV.v (I (wrap i64 (e+1))))] w')) (B6_4 [vI 0 x,vS 1 x1 x2 x3,vP 5 x4,vI 7 x5,(8,SV.v (ab (aa x6))),(12,SV.v (I (wrap i64 (e+1))))] w')) (R (Z (.bool ae)) w')) (B6_4 [vI 0 x,vS 1 x1 x2 x3,vP 5 x4,vI 7 x5,(8,SV.v (ab (aa x6))),(12,SV.v (I (wrap i64 (e+1))))] w')):=by kernel_rfl
def c9:=bc f9
theorem u9 {x x1 x2 x3 w R}:Uj (Calls prog 9 #[I x,aj x1 x2 x3] w R) (Fo (decide (x>=1)) (Fo (decide (x<=9)) (R (Z (.bool (decide ((↑x2:Int)<=300)))) w) (R (Z (.bool ae)) w)) (R (Z (.bool ae)) w)):=uj_ {N:=16,keep:=kp 0 [[0,1],[4]]} func9 (by kernel_rfl)
def vB:Mt:={N:=56,keep:=kp 0 [[],[1,2],[1,16],[0],[1,3],[1,3,4],[1,3,4,5],[1,3,4,5,6],[1,3,4,5,6,27],[1,3,4,5,6],[1,3,4,5,6],[0]],bk:=[(0,[1,3,4,5]),(1,[1,3,4,5,6])],bD:=[(11,[1,3,4,5])],lk:=[(8,[1,3,4,5,6])]}
def BL:=bc f10
def Fv:=BL.sr.sr.sr.sr.sr.sr.sr
def Kp:=BL.sr.sr.sr.sr.sr.sr.sl.sr.sl.sl
def M3 (x x1:Option Addr) (x2 x3:Nat) (x4:Option Addr) (x5 x6:Nat) (a:Option Addr) (b c:Nat):Env:=[vP 1 x,vS 3 x1 x2 x3,vS 4 x4 x5 x6,vS 5 a b c]
def Ge (x x1:Option Addr) (x2 x3:Nat) (x4:Option Addr) (x5 x6:Nat) (b:Option Addr) (c d:Nat) (a:Int):Env:=[vP 1 x,vS 3 x1 x2 x3,vS 4 x4 x5 x6,vS 5 b c d,vI 6 a]
def Oo (R:RT):=Rt f10 R
def Oq (R:RT):=aW 0 [1,3,4,5] (SQ vB Fv (Rt f10 R) (Rt f10 R))
theorem u10 {w R}:Uj (Calls prog 10 #[] w R) (Call prog 8 [I 2] w λe w'=>∃p n,e=Z (aw #[ab p,I n])/\Fz (n !=0) (Fo p.isNone (R (Z (.bool ae)) w') (Cq 12 [ab p,agg #[I 3,I 0,I 2,int .u64 3,I 0]] w' λa n c w'=>Cq 12 [ab p,agg #[I 1,I 1,I 0,int .u64 0,I 0]] w' λb d f w'=>Cq 12 [ab p,agg #[I 24,I 1,I 0,int .u64 0,I 0]] w' λg h i w'=>Cut (WP prog 56 (bj Kp) (Ge p a n c b d f g h i 0) w' (Oq R)))) (R (Z (.bool ae)) w')):=uj_ vB func10 (by kernel_rfl)
theorem acC (x x1 x2 x3 x4 x5 x6 a c d w R):den prog vB Fv (M3 x x1 x2 x3 x4 x5 x6 a c d) w (Oo R)=
(aI w [I 1,I 0,I 1,I 0,I 0] 43 λp w'=>Cj 59 [aj x1 x2 x3,aj (aa p) 1 1] w' λb w'=>Fo b (aI w' [I 2,I 1,I 1,I 0,I 0] 43 λp w'=>Cj 59 [aj x4 x5 x6,aj (aa p) 1 1] w' λb w'=>Fo b (aI w' [I 1,I 0,I 0,I 0,I 0] 43 λp w'=>Cj 59 [aj a c d,aj (aa p) 1 1] w' λb w'=>Fo b (Cu 22 [ab x] w' λn w'=>R (Z (.bool (n==1))) w') (R (Z (.bool ae)) w')) (R (Z (.bool ae)) w')) (R (Z (.bool ae)) w')):=by kernel_rfl
theorem acD (x x1 x2 x3 x4 x5 x6 b d e a w B R):den prog vB Kp (Ge x x1 x2 x3 x4 x5 x6 b d e a) w (bd B (Oq R))=
(Fo (decide (a<40)) ((2:Int)≠0/\Cq 12 [ab x,agg #[I 1,I (eO a 2),I 0,int .u64 0,I 0]] w λp n c w'=>B [vP 1 x,vS 3 x1 x2 x3,vS 4 x4 x5 x6,vS 5 b d e,(6,SV.v (I (wrap i64 (a+1))))] w') (aP prog vB Fv (M3 x x1 x2 x3 x4 x5 x6 b d e) w (Oo R))):=by kernel_rfl
theorem u27 {x w R}:Uj (Calls prog 27 #[ab x] w R) (aI w [I 0,int .u64 0,int .u64 0,int .u64 0,N3,N3,N3,N3,N3,N3,N3,.bool ae,.bool ae,I 0,I 0] 65 λp w'=>Fo x.isNone (Wr w' p [I 0,int .u64 0,int .u64 0,int .u64 0,N3,N3,N3,N3,N3,N3,N3,.bool ae,.bool ae,I 0,I 0] λw'=>Li w' (p.add 0) λn=>Lu w' (p.add 1) λa=>Lu w' (p.add 2) λd=>Lu w' (p.add 3) λf=>Lq w' (p.add 4) λg h c=>Lq w' (p.add 5) λi j k=>Lq w' (p.add 6) λl m o=>Lq w' (p.add 7) λq r s=>Lq w' (p.add 8) λt u v=>Lq w' (p.add 9) λy z A=>Lq w' (p.add 10) λB C D=>Lj w' (p.add 11) λb=>Lj w' (p.add 12) λE=>Li w' (p.add 13) λF=>Li w' (p.add 14) λG=>R (Z (aw #[agg #[I n,int .u64 a,int .u64 d,int .u64 f,aj g h c,aj i j k,aj l m o,aj q r s,aj t u v,aj y z A,aj B C D,.bool b,.bool E,I F,I G],I 1])) w') (Ci 83 [ab x] w' λn w'=>Cu 22 [ab x] w' λa w'=>Cu 16 [ab x] w' λd w'=>Cu 85 [ab x] w' λf w'=>Cq 86 [ab x] w' λg h c w'=>Cp 13 [ab x] w' λi w'=>Cq 87 [I 0,I n,func (aS 88) #[ab i] #[],func (aS 84) #[] #[]] w' λl j k w'=>Cp 30 [ab x] w' λq w'=>Cq 87 [I 0,I n,func (aS 89) #[ab q] #[],func (aS 90) #[ab x] #[]] w' λt m o w'=>Cq 91 [ab x] w' λy r s w'=>Cp 92 [ab x] w' λB w'=>Cq 87 [I (-1:Int),I n,func (aS 93) #[ab B] #[],func (aS 84) #[] #[]] w' λH u v w'=>Cp 94 [ab x] w' λJ w'=>Cq 87 [I 0,I n,func (aS 95) #[ab J] #[],func (aS 84) #[] #[]] w' λK z A w'=>Cp 96 [ab x] w' λL w'=>Cq 87 [I 0,I n,func (aS 97) #[ab L] #[],func (aS 84) #[] #[]] w' λM C D w'=>Cp 98 [ab x] w' λN w'=>Cj 99 [ab N] w' λb w'=>Cp 98 [ab x] w' λO w'=>Cj 100 [ab O] w' λE w'=>Cp 98 [ab x] w' λP w'=>Ci 101 [ab P] w' λF w'=>Cp 98 [ab x] w' λQ w'=>Ci 102 [ab Q] w' λG w'=>Wr w' p [I n,int .u64 a,int .u64 d,int .u64 f,aj g h c,aj l j k,aj t m o,aj y r s,aj H u v,aj K z A,aj M C D,.bool b,.bool E,I F,I G] λw'=>Li w' (p.add 0) λn=>Lu w' (p.add 1) λS=>Lu w' (p.add 2) λT=>Lu w' (p.add 3) λU=>Lq w' (p.add 4) λV W c=>∃X Y e,w'.cell? (p.add 5)=aa (aj X Y e)/\∃m' k' p',w'.cell? (p.add 6)=aa (aj m' k' p')/\∃q' a' b',w'.cell? (p.add 7)=aa (aj q' a' b')/\∃c' d' e',w'.cell? (p.add 8)=aa (aj c' d' e')/\∃f' g' h',w'.cell? (p.add 9)=aa (aj f' g' h')/\Lq w' (p.add 10) λp_23 n_22 c_12=>Lj w' (p.add 11) λb=>Lj w' (p.add 12) λb_2=>Li w' (p.add 13) λn_23=>Li w' (p.add 14) λn_24=>R (Z (aw #[agg #[I n,int .u64 S,int .u64 T,int .u64 U,aj V W c,aj X Y e,aj m' k' p',aj q' a' b',aj c' d' e',aj f' g' h',aj p_23 n_22 c_12,.bool b,.bool b_2,I n_23,I n_24],I 0])) w')):=uj_ {N:=66,keep:=kp 0 [[0,2],[0,2,7],[2,3],[0,2,4],[0,2,4,5],[2,3]]} func27 (by kernel_rfl)
def Ba:Mt:={N:=16,keep:=kp 0 [[1],[1,5],[1,5,6],[1,4,5],[1,4,5,12],[2,3],[1,5],[2,3]],bk:=[(0,[]),(1,[1,5])],lk:=[(2,[1,5])]}
def Lk:=bc f28
def Uw:=Lk.sr.sr
def Lo:=Lk.sr.sl.sr.sl.sl
def Gy (x:Addr) (x1:Int):Env:=[(1,SV.v (ab (aa x))),vI 5 x1]
def OO (R:RT):=aW 0 [] (SQ Ba Uw (Rt f28 R) (Rt f28 R))
theorem u28 {x x1 x2 x3 x4 x5 x6 u y z a b c d e f g h i j k l m n o q r s t w R}:Uj (Calls prog 28 #[agg #[I x,(int .u64 x1),(int .u64 x2),(int .u64 x3),(aj x4 x5 x6),(aj u y z),(aj a b c),(aj d e f),(aj g h i),(aj j k l),(aj m n o),(.bool q),(.bool r),I s,I t]] w R) (aI w [I x,int .u64 x1,int .u64 x2,int .u64 x3,aj x4 x5 x6,aj u y z,aj a b c,aj d e f,aj g h i,aj j k l,aj m n o,.bool q,.bool r,I s,I t] 65 λp w'=>Cut (WP prog 16 (bj Lo) (Gy p 0) w' (OO R))):=uj_ Ba func28 (by kernel_rfl)
theorem ada (x x1 w B28_1 R):den prog Ba Lo (Gy x x1) w (bd B28_1 (OO R))=
(Fo (decide (x1<7)) (Li w (x.add 0) λn=>Lu w (x.add 1) λa=>Lu w (x.add 2) λd=>Lu w (x.add 3) λf=>Lq w (x.add 4) λp g c=>Lq w (x.add 5) λh i j=>Lq w (x.add 6) λk l m=>Lq w (x.add 7) λo q r=>Lq w (x.add 8) λs t u=>Lq w (x.add 9) λy z A=>Lq w (x.add 10) λB C D=>Lj w (x.add 11) λb=>Lj w (x.add 12) λE=>Li w (x.add 13) λF=>Li w (x.add 14) λG=>Cj 103 [agg #[I n,int .u64 a,int .u64 d,int .u64 f,aj p g c,aj h i j,aj k l m,aj o q r,aj s t u,aj y z A,aj B C D,.bool b,.bool E,I F,I G],I (wrap i64 (x1+1))] w λb w'=>Fo (!b) (R (Z (aw #[I (wrap i64 (x1+1)),I 6])) w') (B28_1 [(1,SV.v (ab (aa x))),(5,SV.v (I (wrap i64 (x1+1))))] w')) (R (Z (aw #[I 0,I 0])) w)):=by kernel_rfl
theorem u29 {x x1 x2 x3 x4 x5 x6 H J K j k l m o q r s t u y z A B C D E F G e w R}:Uj (Calls prog 29 #[agg #[I x,(int .u64 x1),(int .u64 x2),(int .u64 x3),(aj x4 x5 x6),(aj H J K),(aj j k l),(aj m o q),(aj r s t),(aj u y z),(aj A B C),(.bool D),(.bool E),I F,I G],I e] w R) (aI w [I x,int .u64 x1,int .u64 x2,int .u64 x3,aj x4 x5 x6,aj H J K,aj j k l,aj m o q,aj r s t,aj u y z,aj A B C,.bool D,.bool E,I F,I G] 65 λp w'=>Lq w' (p.add 5) λa n c=>Cj 104 [aj a n c,I e] w' λb w'=>Fz b (Lq w' (p.add 6) λd n c=>Cj 104 [aj d n c,I e] w' λb w'=>Fz b (Lq w' (p.add 7) λf n c=>Cj 104 [aj f n c,I e] w' λb w'=>Fz b (Lq w' (p.add 8) λg n c=>Cj 104 [aj g n c,I e] w' λb w'=>Fz b (Lq w' (p.add 9) λh n c=>Cj 104 [aj h n c,I e] w' λb w'=>Fz b (Lq w' (p.add 10) λi n c=>Cj 104 [aj i n c,I e] w' λb w'=>R (Z (.bool b)) w') (R (Z (.bool ah)) w')) (R (Z (.bool ah)) w')) (R (Z (.bool ah)) w')) (R (Z (.bool ah)) w')) (R (Z (.bool ah)) w')):=uj_ {N:=39,keep:=kp 0 [[1,2],[4]]} func29 (by kernel_rfl)
def Bs:Mt:={N:=26,keep:=kp 0 [[0,1],[0,1,10],[4],[0,1,5],[0,1,5,14],[0,1,5],[0,1,5,25],[4],[4]],bQ:=[(6,(.range 9))],bk:=[(0,[]),(1,[0,1,5])],lk:=[(4,[0,1,5])]}
def Mc:=bc f59
def UP:=Mc.sr.sr.sr
def Md:=Mc.sr.sr.sl.sr.sl.sl
def GS (x:Option Addr) (x1 x2:Nat) (x3:Option Addr) (x4 x5:Nat) (x6:Int):Env:=[vS 0 x x1 x2,vS 1 x3 x4 x5,vI 5 x6]
def Pg (R:RT):=aW 0 [] (SQ Bs UP (Rt f59 R) (Rt f59 R))
theorem u59 {x x1 x2 x3 x4 x5 w R}:Uj (Calls prog 59 #[aj x x1 x2,aj x3 x4 x5] w R) (Fo ((↑x1:Int) !=(↑x4:Int)) (R (Z (.bool ae)) w) (Cut (WP prog 26 (bj Md) (GS x x1 x2 x3 x4 x5 0) w (Pg R)))):=uj_ Bs func59 (by kernel_rfl)
theorem adG (x x1 x2 x3 x4 x5 x6 w B R):den prog Bs Md (GS x x1 x2 x3 x4 x5 x6) w (bd B (Pg R))=
(Fo (decide (x6<(↑x1:Int))) (Sm w λw'=>(0<=x6/\x6<(↑x1:Int))/\∃a,x=aa a/\∃n,w'.cell? (add (add a (aG x6*5)) 0)=aa (I n)/\∃c,w'.cell? (add (add a (aG x6*5)) 1)=aa (I c)/\∃d,w'.cell? (add (add a (aG x6*5)) 2)=aa (I d)/\∃e,w'.cell? (add (add a (aG x6*5)) 3)=aa (I e)/\∃f,w'.cell? (add (add a (aG x6*5)) 4)=aa (I f)/\(0<=x6/\x6<(↑x4:Int))/\∃a,x3=aa a/\∃g,w'.cell? (add (add a (aG x6*5)) 0)=aa (I g)/\∃h,w'.cell? (add (add a (aG x6*5)) 1)=aa (I h)/\∃i,w'.cell? (add (add a (aG x6*5)) 2)=aa (I i)/\∃j,w'.cell? (add (add a (aG x6*5)) 3)=aa (I j)/\∃k,w'.cell? (add (add a (aG x6*5)) 4)=aa (I k)/\∃b,aZ prog (Op.equal 43 (agg #[I n,I c,I d,I e,I f]) (agg #[I g,I h,I i,I j,I k])) w'=a7 b w'/\ae=ae/\Fo (!b) (R (Z (.bool ae)) w') (B [vS 0 x x1 x2,vS 1 x3 x4 x5,(5,SV.v (I (wrap i64 (x6+1))))] w')) (R (Z (.bool ah)) w)):=by kernel_rfl
theorem u84 {x w R}:Uj (Calls prog 84 #[I x] w R) (R (Z (I 0)) w):=uj_ {N:=3,keep:=kp 0 [[],[2]]} func84 (by kernel_rfl)
def Bt:Mt:={N:=27,keep:=kp 0 [[0],[0,3],[0,3,8,9],[0,3,8,9,10],[0,3,4,8,9],[0,3,4,5,8,9],[0,3,4,8,9,20],[0,3,8,9],[0,3,8,9],[2]],bk:=[(0,[3]),(1,[0,3,8,9])],lk:=[(3,[0,3,8,9])]}
def Mn:=bc f85
def UU:=Mn.sr.sr.sr
def Mo:=Mn.sr.sr.sl.sr.sl.sl
def GX (x:Option Addr) (x1 x2 x3:Int):Env:=[vP 0 x,(3,SV.v (int .u64 x1)),vI 8 x2,vI 9 x3]
def Pq (R:RT):=aW 0 [3] (SQ Bt UU (Rt f85 R) (Rt f85 R))
theorem u85 {x w R}:Uj (Calls prog 85 #[ab x] w R) (Ci 83 [ab x] w λn w'=>Cut (WP prog 27 (bj Mo) (GX x 0 n 0) w' (Pq R))):=uj_ Bt func85 (by kernel_rfl)
theorem adT (x x1 x2 x3 w B R):den prog Bt Mo (GX x x1 x2 x3) w (bd B (Pq R))=
(Fo (decide (x3<x2)) (Cp 178 [ab x] w λp w'=>Call prog 113 [ab p,I x3] w' λe w'=>∃b a n c d f g,e=Z (aw #[agg #[.bool b,.bool a,I n,I c,I d,I f],I g])/\aI w' [.bool ae,.bool ae,I 0,I 0,I 0,I 0] 226 λp w'=>Wr w' p [.bool b,.bool a,I n,I c,I d,I f] λw'=>Lj w' (p.add 0) λb=>Fo b (aI w' [I x3] 3 λp w'=>Cu 179 [int .u64 x1,aj (aa p) 1 1] w' λn w'=>B [vP 0 x,(3,SV.v (int .u64 n)),vI 8 x2,(9,SV.v (I (wrap i64 (x3+1))))] w') (B [vP 0 x,(3,SV.v (int .u64 x1)),vI 8 x2,(9,SV.v (I (wrap i64 (x3+1))))] w')) (R (Z (int .u64 x1)) w)):=by kernel_rfl
def Bu:Mt:={N:=34,keep:=kp 0 [[0],[0,3],[0,3,10,11,12],[0,3,10,11,12,13],[0,3,5,10,11,12],[0,3,5,6,10,11,12],[0,3,10,11,12],[0,3,10,11,12],[2]],bk:=[(0,[3]),(1,[0,3,10,11,12])],lk:=[(3,[0,3,10,11,12])]}
def Mp:=bc f86
def UW:=Mp.sr.sr.sr
def Mq:=Mp.sr.sr.sl.sr.sl.sl
def GY (x x1:Option Addr) (x2 x3:Nat) (x4:Option Addr) (x5 x6:Nat) (a b:Int):Env:=[vP 0 x,vS 3 x1 x2 x3,vS 10 x4 x5 x6,vI 11 a,vI 12 b]
def Pr (R:RT):=aW 0 [3] (SQ Bu UW (Rt f86 R) (Rt f86 R))
theorem u86 {x w R}:Uj (Calls prog 86 #[ab x] w R) (Cp 180 [ab x] w λp w'=>Cq 181 [ab p] w' λp n c w'=>Cut (WP prog 34 (bj Mq) (GY x ag 0 0 p n c (↑n:Int) 0) w' (Pr R))):=uj_ Bu func86 (by kernel_rfl)
theorem adU (x x1 x2 x3 x4 x5 x6 r q w B R):den prog Bu Mq (GY x x1 x2 x3 x4 x5 x6 r q) w (bd B (Pr R))=
(Fo (decide (q<r)) ((0<=q/\q<(↑x5:Int))/\∃a,x4=aa a/\Li w (add a (aG q*1)) λn=>Cp 180 [ab x] w λp w'=>Call prog 127 [ab p,I n] w' λe w'=>∃d f g b h i o,e=Z (aw #[agg #[I d,int .u64 f,I g,.bool b,.bool h,I i],I o])/\aI w' [I 0,int .u64 0,I 0,.bool ae,.bool ae,I 0] 250 λp w'=>Wr w' p [I d,int .u64 f,I g,.bool b,.bool h,I i] λw'=>Li w' (p.add 2) λj=>Li w' (p.add 5) λk=>aI w' [I n,I j,I k] 278 λp w'=>∃l n c m,aZ prog (bM #[62,62] 62 #[aj x1 x2 x3,aj (aa p) 1 1]) w'=a7 (aj l n c) m/\B [vP 0 x,vS 3 l n c,vS 10 x4 x5 x6,vI 11 r,(12,SV.v (I (wrap i64 (q+1))))] m) (R (Z (aj x1 x2 x3)) w)):=by kernel_rfl
def dq:Mt:={N:=38,keep:=kp 0 [[0,1,2,3],[0,1,2,3,9],[1,2,3,9,10],[1,2,3,9,10,16],[1,2,3,9,10],[1,2,3,9,10,21,22,23],[1,2,3,9,10,21,22,23,24],[1,2,3,9,10,12,21,22,23],[1,2,3,9,10,21,22,23],[1,2,3,9,10,21,22,23],[8]],bk:=[(0,[9]),(1,[1,2,3,9,10]),(2,[1,2,3,9,10]),(3,[1,2,3,9,10,21,22,23])],lk:=[(3,[1,2,3,9,10]),(6,[1,2,3,9,10,21,22,23])]}
def r6:=bc f87
def iq:=r6.sr.sr.sr
def y9:=r6.sr.sr.sl.sr.sl.sl
def uG:=r6.sr.sr.sl.sr.sl.sl.sr.sr
def uH:=r6.sr.sr.sl.sr.sl.sl.sr.sl.sl.sr.sl.sl
def zt (x:Int) (x1:Nat) (x2 x3:Option Addr) (x4 x5:Nat) (x6:Int):Env:=[vI 1 x,(2,SV.v (func (aS x1) #[(ab x2)] #[])),(3,SV.v (func (aS 84) #[] #[])),vS 9 x3 x4 x5,vI 10 x6]
def zu (x:Int) (x1:Nat) (x2 x3:Option Addr) (x4 x5:Nat) (x6:Int) (c:Option Addr) (d e:Nat) (a b:Int):Env:=[vI 1 x,(2,SV.v (func (aS x1) #[(ab x2)] #[])),(3,SV.v (func (aS 84) #[] #[])),vS 9 x3 x4 x5,vI 10 x6,vS 21 c d e,vI 22 a,vI 23 b]
def zM (R:RT):=aW 0 [9] (SQ dq iq (Rt f87 R) (Rt f87 R))
def ve (B87_1:Env->World->Prop) (R:Ending->World->Prop):dL:=aW 2 [1,2,3,9,10] (aW 1 [1,2,3,9,10] (cW (λE w=>cU (cV dq.bD (cF uG)) prog dq uG E w (bd B87_1 (aW 0 [9] (cW (λE w=>cU (cV dq.bD (cF iq)) prog dq iq E w (Rt f87 R) λE=>den prog dq iq E w (Rt f87 R)) (Rt f87 R)))) λE=>den prog dq uG E w (bd B87_1 (aW 0 [9] (cW (λE w=>cU (cV dq.bD (cF iq)) prog dq iq E w (Rt f87 R) λE=>den prog dq iq E w (Rt f87 R)) (Rt f87 R))))) (bd B87_1 (aW 0 [9] (cW (λE w=>cU (cV dq.bD (cF iq)) prog dq iq E w (Rt f87 R) λE=>den prog dq iq E w (Rt f87 R)) (Rt f87 R))))))
theorem Jn {x x1 x2 x3 w R}:Uj (Calls prog 87 #[I x,I x1,func (aS x2) #[(ab x3)] #[],func (aS 84) #[] #[]] w R) (Cut (WP prog 38 (bj y9) [vI 1 x1,(2,SV.v (func (aS x2) #[ab x3] #[])),(3,SV.v (func (aS 84) #[] #[])),(9,SV.v (N3)),vI 10 x] w (zM R))):=uj_ dq func87 (by kernel_rfl)
theorem I4 (x x1 x2 x3 x4 x5 x6 w B R):den prog dq y9 (zt x x1 x2 x3 x4 x5 x6) w (bd B (zM R))=
(Fo (decide (x6<x)) (bif iM prog x1 then Call prog x1 [ab x2,I x6] w λe w'=>∃p n c,e=Z (aj p n c)/\Cut (WP prog 38 (bj uH) [vI 1 x,(2,SV.v (func (aS x1) #[ab x2] #[])),(3,SV.v (func (aS 84) #[] #[])),vS 9 x3 x4 x5,vI 10 x6,vS 21 p n c,(22,SV.v (I (↑n:Int))),vI 23 0] w' (ve B R))else ∃p n c w',aZ prog (callFunc x1 #[ab x2,I x6]) w=a7 (Next.value (aj p n c)) w'/\Cut (WP prog 38 (bj uH) [vI 1 x,(2,SV.v (func (aS x1) #[ab x2] #[])),(3,SV.v (func (aS 84) #[] #[])),vS 9 x3 x4 x5,vI 10 x6,vS 21 p n c,(22,SV.v (I (↑n:Int))),vI 23 0] w' (ve B R))) (R (Z (aj x3 x4 x5)) w)):=by kernel_rfl
theorem I5 (x x1 x2 x3 x4 x5 x6 h i j g e w B C R):den prog dq uH (zu x x1 x2 x3 x4 x5 x6 h i j g e) w (bd C (ve B R))=
(Fo (decide (e<g)) ((0<=e/\e<(↑i:Int))/\∃a,h=aa a/\Li w (add a (aG e*1)) λn=>Ci 84 [I n] w λb w'=>aI w' [I n,I x6,I b] 75 λp w'=>∃d n c f,aZ prog (bM #[63,63] 63 #[aj x3 x4 x5,aj (aa p) 1 1]) w'=a7 (aj d n c) f/\C [vI 1 x,(2,SV.v (func (aS x1) #[ab x2] #[])),(3,SV.v (func (aS 84) #[] #[])),vS 9 d n c,vI 10 x6,vS 21 h i j,vI 22 g,(23,SV.v (I (wrap i64 (e+1))))] f) (B [vI 1 x,(2,SV.v (func (aS x1) #[ab x2] #[])),(3,SV.v (func (aS 84) #[] #[])),vS 9 x3 x4 x5,(10,SV.v (I (wrap i64 (x6+1))))] w)):=by kernel_rfl
def Bv:Mt:={N:=33,keep:=kp 0 [[0],[0,3],[0,3,10,11,12],[0,3,10,11,12,13],[0,3,5,10,11,12],[0,3,5,6,7,10,11,12],[0,3,5,6,10,11,12,24],[0,3,5,6,10,11,12],[0,3,10,11,12],[0,3,10,11,12],[2]],bk:=[(0,[3]),(1,[0,3,10,11,12])],lk:=[(3,[0,3,10,11,12])]}
def Ms:=bc f91
def UY:=Ms.sr.sr.sr
def Mu:=Ms.sr.sr.sl.sr.sl.sl
def G0 (x x1:Option Addr) (x2 x3:Nat) (x4:Option Addr) (x5 x6:Nat) (a b:Int):Env:=[vP 0 x,vS 3 x1 x2 x3,vS 10 x4 x5 x6,vI 11 a,vI 12 b]
def Pt (R:RT):=aW 0 [3] (SQ Bv UY (Rt f91 R) (Rt f91 R))
theorem u91 {x w R}:Uj (Calls prog 91 #[ab x] w R) (Cp 173 [ab x] w λp w'=>Cq 174 [ab p] w' λp n c w'=>Cut (WP prog 33 (bj Mu) (G0 x ag 0 0 p n c (↑n:Int) 0) w' (Pt R))):=uj_ Bv func91 (by kernel_rfl)
theorem adW (x x1 x2 x3 x4 x5 x6 i h w B R):den prog Bv Mu (G0 x x1 x2 x3 x4 x5 x6 i h) w (bd B (Pt R))=
(Fo (decide (h<i)) ((0<=h/\h<(↑x5:Int))/\∃a,x4=aa a/\Li w (add a (aG h*1)) λn=>Cp 185 [ab x] w λp w'=>Call prog 186 [ab p,I n] w' λe w'=>∃g b,e=Z (aw #[I g,.bool b])/\Fo (!b) (aI w' [I n,I (-1:Int),I 0] 75 λp w'=>∃d n c f,aZ prog (bM #[63,63] 63 #[aj x1 x2 x3,aj (aa p) 1 1]) w'=a7 (aj d n c) f/\B [vP 0 x,vS 3 d n c,vS 10 x4 x5 x6,vI 11 i,(12,SV.v (I (wrap i64 (h+1))))] f) (aI w' [I n,I g,I 0] 75 λp w'=>∃d n c f,aZ prog (bM #[63,63] 63 #[aj x1 x2 x3,aj (aa p) 1 1]) w'=a7 (aj d n c) f/\B [vP 0 x,vS 3 d n c,vS 10 x4 x5 x6,vI 11 i,(12,SV.v (I (wrap i64 (h+1))))] f)) (R (Z (aj x1 x2 x3)) w)):=by kernel_rfl
theorem aeL {x x1 x2 x3 x4 x5 x6 x7 x8 x9 H J K L M O P Q S T U V W X Y al am ap aq e w R}:Uj (Calls prog 103 #[agg #[I x,(int .u64 x1),(int .u64 x2),(int .u64 x3),(aj x4 x5 x6),(aj x7 x8 x9),(aj H J K),(aj L M O),(aj P Q S),(aj T U V),(aj W X Y),(.bool al),(.bool am),I ap,I aq],I e] w R) (aI w [I x,int .u64 x1,int .u64 x2,int .u64 x3,aj x4 x5 x6,aj x7 x8 x9,aj H J K,aj L M O,aj P Q S,aj T U V,aj W X Y,.bool al,.bool am,I ap,I aq] 65 λp w'=>Fo (e==1) (Li w' (p.add 0) λn=>Lu w' (p.add 1) λa=>Lu w' (p.add 2) λd=>Lu w' (p.add 3) λf=>Lq w' (p.add 4) λg h c=>Lq w' (p.add 5) λi j k=>Lq w' (p.add 6) λl m o=>Lq w' (p.add 7) λq r s=>Lq w' (p.add 8) λt u v=>Lq w' (p.add 9) λy z A=>Lq w' (p.add 10) λB C D=>Lj w' (p.add 11) λb=>Lj w' (p.add 12) λE=>Li w' (p.add 13) λF=>Li w' (p.add 14) λG=>Cj 191 [agg #[I n,int .u64 a,int .u64 d,int .u64 f,aj g h c,aj i j k,aj l m o,aj q r s,aj t u v,aj y z A,aj B C D,.bool b,.bool E,I F,I G]] w' λb w'=>R (Z (.bool b)) w') (Fo (e==2) (Li w' (p.add 0) λn=>Lu w' (p.add 1) λa=>Lu w' (p.add 2) λd=>Lu w' (p.add 3) λf=>Lq w' (p.add 4) λg h c=>Lq w' (p.add 5) λi j k=>Lq w' (p.add 6) λl m o=>Lq w' (p.add 7) λq r s=>Lq w' (p.add 8) λt u v=>Lq w' (p.add 9) λy z A=>Lq w' (p.add 10) λB C D=>Lj w' (p.add 11) λb=>Lj w' (p.add 12) λE=>Li w' (p.add 13) λF=>Li w' (p.add 14) λG=>Cj 192 [agg #[I n,int .u64 a,int .u64 d,int .u64 f,aj g h c,aj i j k,aj l m o,aj q r s,aj t u v,aj y z A,aj B C D,.bool b,.bool E,I F,I G]] w' λb w'=>R (Z (.bool b)) w') (Fo (e==3) (Li w' (p.add 0) λn=>Lu w' (p.add 1) λa=>Lu w' (p.add 2) λd=>Lu w' (p.add 3) λf=>Lq w' (p.add 4) λg h c=>Lq w' (p.add 5) λi j k=>Lq w' (p.add 6) λl m o=>Lq w' (p.add 7) λq r s=>Lq w' (p.add 8) λt u v=>Lq w' (p.add 9) λy z A=>Lq w' (p.add 10) λB C D=>Lj w' (p.add 11) λb=>Lj w' (p.add 12) λE=>Li w' (p.add 13) λF=>Li w' (p.add 14) λG=>Cj 193 [agg #[I n,int .u64 a,int .u64 d,int .u64 f,aj g h c,aj i j k,aj l m o,aj q r s,aj t u v,aj y z A,aj B C D,.bool b,.bool E,I F,I G]] w' λb w'=>R (Z (.bool b)) w') (Fo (e==4) (Li w' (p.add 0) λn=>Lu w' (p.add 1) λa=>Lu w' (p.add 2) λd=>Lu w' (p.add 3) λf=>Lq w' (p.add 4) λg h c=>Lq w' (p.add 5) λi j k=>Lq w' (p.add 6) λl m o=>Lq w' (p.add 7) λq r s=>Lq w' (p.add 8) λt u v=>Lq w' (p.add 9) λy z A=>Lq w' (p.add 10) λB C D=>Lj w' (p.add 11) λb=>Lj w' (p.add 12) λE=>Li w' (p.add 13) λF=>Li w' (p.add 14) λG=>Cj 194 [agg #[I n,int .u64 a,int .u64 d,int .u64 f,aj g h c,aj i j k,aj l m o,aj q r s,aj t u v,aj y z A,aj B C D,.bool b,.bool E,I F,I G]] w' λb w'=>R (Z (.bool b)) w') (Fo (e==5) (Li w' (p.add 0) λn=>Lu w' (p.add 1) λa=>Lu w' (p.add 2) λd=>Lu w' (p.add 3) λf=>Lq w' (p.add 4) λg h c=>Lq w' (p.add 5) λi j k=>Lq w' (p.add 6) λl m o=>Lq w' (p.add 7) λq r s=>Lq w' (p.add 8) λt u v=>Lq w' (p.add 9) λy z A=>Lq w' (p.add 10) λB C D=>Lj w' (p.add 11) λb=>Lj w' (p.add 12) λE=>Li w' (p.add 13) λF=>Li w' (p.add 14) λG=>Cj 195 [agg #[I n,int .u64 a,int .u64 d,int .u64 f,aj g h c,aj i j k,aj l m o,aj q r s,aj t u v,aj y z A,aj B C D,.bool b,.bool E,I F,I G]] w' λb w'=>R (Z (.bool b)) w') (Fo (e==6) (Li w' (p.add 0) λn=>Lu w' (p.add 1) λa=>Lu w' (p.add 2) λd=>Lu w' (p.add 3) λf=>Lq w' (p.add 4) λg h c=>Lq w' (p.add 5) λi j k=>Lq w' (p.add 6) λl m o=>Lq w' (p.add 7) λq r s=>Lq w' (p.add 8) λt u v=>Lq w' (p.add 9) λy z A=>Lq w' (p.add 10) λB C D=>Lj w' (p.add 11) λb=>Lj w' (p.add 12) λE=>Li w' (p.add 13) λF=>Li w' (p.add 14) λG=>Cj 196 [agg #[I n,int .u64 a,int .u64 d,int .u64 f,aj g h c,aj i j k,aj l m o,aj q r s,aj t u v,aj y z A,aj B C D,.bool b,.bool E,I F,I G]] w' λb w'=>R (Z (.bool b)) w') (Fo (e==7) (Li w' (p.add 0) λn=>Lu w' (p.add 1) λa=>Lu w' (p.add 2) λd=>Lu w' (p.add 3) λf=>Lq w' (p.add 4) λg h c=>Lq w' (p.add 5) λi j k=>Lq w' (p.add 6) λl m o=>Lq w' (p.add 7) λq r s=>Lq w' (p.add 8) λt u v=>Lq w' (p.add 9) λy z A=>Lq w' (p.add 10) λB C D=>Lj w' (p.add 11) λb=>Lj w' (p.add 12) λE=>Li w' (p.add 13) λF=>Li w' (p.add 14) λG=>Cj 197 [agg #[I n,int .u64 a,int .u64 d,int .u64 f,aj g h c,aj i j k,aj l m o,aj q r s,aj t u v,aj y z A,aj B C D,.bool b,.bool E,I F,I G]] w' λb w'=>R (Z (.bool b)) w') (R (Z (.bool ae)) w')))))))):=uj_ {N:=34,keep:=kp 0 [[1,2],[2,5],[2,5,6],[4],[2,5,10],[4],[2,5,14],[4],[2,5,18],[4],[2,5,22],[4],[2,5,26],[4],[2,30],[4],[4]],bk:=[(0,[])]} func103 (by kernel_rfl)
def AV:Mt:={N:=19,keep:=kp 0 [[0,1],[0,1,5],[0,1,5,9],[0,1,5],[0,1,5,18],[4],[4]],bk:=[(0,[]),(1,[0,1,5])],lk:=[(2,[0,1,5])]}
def Kl:=bc f104
def TZ:=Kl.sr.sr
def Km:=Kl.sr.sl.sr.sl.sl
def Gd (x:Option Addr) (x1 x2:Nat) (x3 x4:Int):Env:=[vS 0 x x1 x2,vI 1 x3,vI 5 x4]
def Om (R:RT):=aW 0 [] (SQ AV TZ (Rt f104 R) (Rt f104 R))
theorem aeM {x x1 x2 x3 w R}:Uj (Calls prog 104 #[aj x x1 x2,I x3] w R) (Cut (WP prog 19 (bj Km) (Gd x x1 x2 x3 0) w (Om R))):=uj_ AV func104 (by kernel_rfl)
theorem acB (x x1 x2 x3 x4 w B R):den prog AV Km (Gd x x1 x2 x3 x4) w (bd B (Om R))=
(Fo (decide (x4<(↑x1:Int))) ((0<=x4/\x4<(↑x1:Int))/\∃a,x=aa a/\∃n,w.cell? (add (add a (aG x4*3)) 1)=aa (I n)/\Fo (n==x3) (R (Z (.bool ah)) w) (B [vS 0 x x1 x2,vI 1 x3,(5,SV.v (I (wrap i64 (x4+1))))] w)) (R (Z (.bool ae)) w)):=by kernel_rfl
theorem af4 {x x1 x2 x3 x4 x5 x6 F G H h i j k l m o q r s t u y z A B C D E w R}:Uj (Calls prog 191 #[agg #[I x,(int .u64 x1),(int .u64 x2),(int .u64 x3),(aj x4 x5 x6),(aj F G H),(aj h i j),(aj k l m),(aj o q r),(aj s t u),(aj y z A),(.bool B),(.bool C),I D,I E]] w R) (aI w [I x,int .u64 x1,int .u64 x2,int .u64 x3,aj x4 x5 x6,aj F G H,aj h i j,aj k l m,aj o q r,aj s t u,aj y z A,.bool B,.bool C,I D,I E] 65 λp w'=>Sm w' λa=>∃n,a.cell? (p.add 2)=aa (int .u64 n)/\Fo (n !=0) (∃n,a.cell? (p.add 2)=aa (int .u64 n)/\∃c,a.cell? (p.add 1)=aa (int .u64 c)/\Call prog 277 [int .u64 n,int .u64 c] a λe w'=>∃b,e=Z (.bool b)/\Fo b (Lu w' (p.add 1) λn=>Lu w' (p.add 3) λd=>Cj 277 [int .u64 n,int .u64 d] w' λb w'=>Fo b (Lu w' (p.add 3) λn=>Li w' (p.add 0) λf=>Cu 11 [I f] w' λg w'=>w'.cell? (p.add 3)=aa (int .u64 n)/\Cj 277 [int .u64 n,int .u64 g] w' λb w'=>R (Z (.bool b)) w') (R (Z (.bool ae)) w')) (R (Z (.bool ae)) w')) (R (Z (.bool ae)) a)):=uj_ {N:=28,keep:=kp 0 [[1],[2]],bQ:=[(1,(.range 26))]} func191 (by kernel_rfl)
theorem af5 {x x1 x2 x3 x4 x5 x6 C D E e f g h i j k l m o q r s t u y z A B w R}:Uj (Calls prog 192 #[agg #[I x,(int .u64 x1),(int .u64 x2),(int .u64 x3),(aj x4 x5 x6),(aj C D E),(aj e f g),(aj h i j),(aj k l m),(aj o q r),(aj s t u),(.bool y),(.bool z),I A,I B]] w R) (aI w [I x,int .u64 x1,int .u64 x2,int .u64 x3,aj x4 x5 x6,aj C D E,aj e f g,aj h i j,aj k l m,aj o q r,aj s t u,.bool y,.bool z,I A,I B] 65 λp w'=>Lq w' (p.add 4) λa n c=>Cj 278 [aj a n c,func (aS 279) #[] #[ab (aa p)]] w' λb w'=>Fo b (Lq w' (p.add 5) λd n c=>Cj 281 [aj d n c,func (aS 282) #[] #[ab (aa p)]] w' λb w'=>R (Z (.bool b)) w') (R (Z (.bool ae)) w')):=uj_ {N:=15,keep:=kp 0 [[1],[1,3],[2]]} func192 (by kernel_rfl)
theorem af6 {x x1 x2 x3 x4 x5 x6 C D E e f g h i j k l m o q r s t u y z A B w R}:Uj (Calls prog 193 #[agg #[I x,(int .u64 x1),(int .u64 x2),(int .u64 x3),(aj x4 x5 x6),(aj C D E),(aj e f g),(aj h i j),(aj k l m),(aj o q r),(aj s t u),(.bool y),(.bool z),I A,I B]] w R) (aI w [I x,int .u64 x1,int .u64 x2,int .u64 x3,aj x4 x5 x6,aj C D E,aj e f g,aj h i j,aj k l m,aj o q r,aj s t u,.bool y,.bool z,I A,I B] 65 λp w'=>Lq w' (p.add 4) λa n c=>Cj 278 [aj a n c,func (aS 285) #[] #[ab (aa p)]] w' λb w'=>Fo b (Lq w' (p.add 6) λd n c=>Cj 281 [aj d n c,func (aS 286) #[] #[ab (aa p)]] w' λb w'=>R (Z (.bool b)) w') (R (Z (.bool ae)) w')):=uj_ {N:=15,keep:=kp 0 [[1],[1,3],[2]]} func193 (by kernel_rfl)
def vD:Mt:={N:=31,keep:=kp 0 [[1],[1,15,16,17],[1,15,16,17,18],[1,4,15,16,17],[1,15,16,17,25],[2],[1,15,16,17],[2]],bk:=[(0,[1]),(1,[1,15,16,17])],bD:=[(7,[1])],lk:=[(2,[1,15,16,17])]}
def KN:=bc f194
def Fx:=KN.sr.sr
def KT:=KN.sr.sl.sr.sl.sl
def M5 (x:Addr):Env:=[(1,SV.v (ab (aa x)))]
def Gm (x:Addr) (x1:Option Addr) (x2 x3:Nat) (x4 x5:Int):Env:=[(1,SV.v (ab (aa x))),vS 15 x1 x2 x3,vI 16 x4,vI 17 x5]
def OB (R:RT):=Rt f194 R
def OC (R:RT):=aW 0 [1] (SQ vD Fx (Rt f194 R) (Rt f194 R))
theorem af7 {x x1 x2 x3 x4 x5 x6 O P Q r s t u y z A B C D E F G H J K L M N w R}:Uj (Calls prog 194 #[agg #[I x,(int .u64 x1),(int .u64 x2),(int .u64 x3),(aj x4 x5 x6),(aj O P Q),(aj r s t),(aj u y z),(aj A B C),(aj D E F),(aj G H J),(.bool K),(.bool L),I M,I N]] w R) (aI w [I x,int .u64 x1,int .u64 x2,int .u64 x3,aj x4 x5 x6,aj O P Q,aj r s t,aj u y z,aj A B C,aj D E F,aj G H J,.bool K,.bool L,I M,I N] 65 λp w'=>Lq w' (p.add 5) λa n c=>Lq w' (p.add 6) λb d e=>Lq w' (p.add 7) λf g h=>Lq w' (p.add 9) λi j k=>Lq w' (p.add 10) λl m o=>aI w' [aj a n c,aj b d e,aj f g h,aj i j k,aj l m o] 63 λq w'=>Cut (WP prog 31 (bj KT) (Gm p (aa q) 5 5 (↑5:Int) 0) w' (OC R))):=uj_ vD func194 (by kernel_rfl)
theorem acR (x w R):den prog vD Fx (M5 x) w (OB R)=
(Lq w (x.add 8) λp n c=>Cj 281 [aj p n c,func (aS 289) #[] #[ab (aa x)]] w λb w'=>R (Z (.bool b)) w'):=by kernel_rfl
theorem acS (x x1 x2 x3 x4 x5 w B194_1 R):den prog vD KT (Gm x x1 x2 x3 x4 x5) w (bd B194_1 (OC R))=
(Fo (decide (x5<x4)) ((0<=x5/\x5<(↑x2:Int))/\∃a,x1=aa a/\Lq w (add a (aG x5*1)) λp n c=>Li w (x.add 0) λd=>Lu w (x.add 1) λf=>Lu w (x.add 2) λg=>Lu w (x.add 3) λh=>Lq w (x.add 4) λi j k=>Lq w (x.add 5) λl m o=>Lq w (x.add 6) λq r s=>Lq w (x.add 7) λt u y=>Lq w (x.add 8) λz A B=>Lq w (x.add 9) λC D E=>Lq w (x.add 10) λF G H=>Lj w (x.add 11) λb=>Lj w (x.add 12) λJ=>Li w (x.add 13) λK=>Li w (x.add 14) λL=>Cj 281 [aj p n c,func (aS 288) #[agg #[I d,int .u64 f,int .u64 g,int .u64 h,aj i j k,aj l m o,aj q r s,aj t u y,aj z A B,aj C D E,aj F G H,.bool b,.bool J,I K,I L]] #[]] w λb w'=>Fo (!b) (R (Z (.bool ae)) w') (B194_1 [(1,SV.v (ab (aa x))),vS 15 x1 x2 x3,vI 16 x4,(17,SV.v (I (wrap i64 (x5+1))))] w')) (aP prog vD Fx (M5 x) w (OB R))):=by kernel_rfl
theorem af8 {x x1 x2 x3 x4 x5 x6 F G H e i j k l m o q r s t u y z A B C D E w R}:Uj (Calls prog 195 #[agg #[I x,(int .u64 x1),(int .u64 x2),(int .u64 x3),(aj x4 x5 x6),(aj F G H),(aj e i j),(aj k l m),(aj o q r),(aj s t u),(aj y z A),(.bool B),(.bool C),I D,I E]] w R) (aI w [I x,int .u64 x1,int .u64 x2,int .u64 x3,aj x4 x5 x6,aj F G H,aj e i j,aj k l m,aj o q r,aj s t u,aj y z A,.bool B,.bool C,I D,I E] 65 λp w'=>Sm w' λa=>∃n,a.cell? (p.add 3)=aa (int .u64 n)/\∃c,a.cell? (p.add 1)=aa (int .u64 c)/\Fz (n==c) (∃b,a.cell? (p.add 11)=aa (.bool b)/\Fo b (∃b,a.cell? (p.add 12)=aa (.bool b)/\Fo b (∃n,a.cell? (p.add 3)=aa (int .u64 n)/\∃d,a.cell? (p.add 1)=aa (int .u64 d)/\∃f,a.cell? (p.add 13)=aa (I f)/\aI a [I f] 3 λh w'=>w'.cell? (p.add 1)=aa (int .u64 d)/\w'.cell? (p.add 3)=aa (int .u64 n)/\Cu 179 [int .u64 d,aj (aa h) 1 1] w' λg w'=>w'.cell? (p.add 3)=aa (int .u64 n)/\R (Z (.bool (n==g))) w') (R (Z (.bool ae)) a)) (R (Z (.bool ae)) a)) (R (Z (.bool ah)) a)):=uj_ {N:=27,keep:=kp 0 [[1],[2]],bQ:=[(1,(.range 25))]} func195 (by kernel_rfl)
def A5:Mt:={N:=26,keep:=kp 0 [[1],[15,16,17],[15,16,17,18],[4,15,16,17],[15,16,17,24],[2],[15,16,17],[2]],bk:=[(0,[]),(1,[15,16,17])],lk:=[(2,[15,16,17])]}
def KU:=bc f196
def Ul:=KU.sr.sr
def KV:=KU.sr.sl.sr.sl.sl
def Gn (x:Option Addr) (x1 x2:Nat) (x3 x4:Int):Env:=[vS 15 x x1 x2,vI 16 x3,vI 17 x4]
def OD (R:RT):=aW 0 [] (SQ A5 Ul (Rt f196 R) (Rt f196 R))
theorem af9 {x x1 x2 x3 x4 x5 x6 N O P q r s t u y z A B C D E F G H J K L M w R}:Uj (Calls prog 196 #[agg #[I x,(int .u64 x1),(int .u64 x2),(int .u64 x3),(aj x4 x5 x6),(aj N O P),(aj q r s),(aj t u y),(aj z A B),(aj C D E),(aj F G H),(.bool J),(.bool K),I L,I M]] w R) (aI w [I x,int .u64 x1,int .u64 x2,int .u64 x3,aj x4 x5 x6,aj N O P,aj q r s,aj t u y,aj z A B,aj C D E,aj F G H,.bool J,.bool K,I L,I M] 65 λp w'=>Lq w' (p.add 6) λa n c=>Lq w' (p.add 7) λb d e=>Lq w' (p.add 8) λf g h=>Lq w' (p.add 9) λi j k=>Lq w' (p.add 10) λl m o=>aI w' [aj a n c,aj b d e,aj f g h,aj i j k,aj l m o] 63 λp w'=>Cut (WP prog 26 (bj KV) (Gn (aa p) 5 5 (↑5:Int) 0) w' (OD R))):=uj_ A5 func196 (by kernel_rfl)
theorem acT (x x1 x2 x3 x4 w B R):den prog A5 KV (Gn x x1 x2 x3 x4) w (bd B (OD R))=
(Fo (decide (x4<x3)) ((0<=x4/\x4<(↑x1:Int))/\∃a,x=aa a/\Lq w (add a (aG x4*1)) λp n c=>aI w [N3] 63 λd w'=>Wr w' d [aj p n c] λw'=>Lq w' d λp n c=>Cj 281 [aj p n c,func (aS 290) #[] #[ab (aa d)]] w' λb w'=>Fo (!b) (R (Z (.bool ae)) w') (B [vS 15 x x1 x2,vI 16 x3,(17,SV.v (I (wrap i64 (x4+1))))] w')) (R (Z (.bool ah)) w)):=by kernel_rfl
theorem aga {x x1 x2 x3 x4 x5 x6 G H J i j k l m o q r s t u y z A B C D E F w R}:Uj (Calls prog 197 #[agg #[I x,(int .u64 x1),(int .u64 x2),(int .u64 x3),(aj x4 x5 x6),(aj G H J),(aj i j k),(aj l m o),(aj q r s),(aj t u y),(aj z A B),(.bool C),(.bool D),I E,I F]] w R) (aI w [I x,int .u64 x1,int .u64 x2,int .u64 x3,aj x4 x5 x6,aj G H J,aj i j k,aj l m o,aj q r s,aj t u y,aj z A B,.bool C,.bool D,I E,I F] 65 λp w'=>Lj w' (p.add 11) λb=>Fo (!b) (R (Z (.bool ah)) w') (Sm w' λa=>∃n,a.cell? (p.add 13)=aa (I n)/\∃c,a.cell? (p.add 14)=aa (I c)/\Fo (n !=c) (∃n,a.cell? (p.add 2)=aa (int .u64 n)/\∃f,a.cell? (p.add 14)=aa (I f)/\Call prog 23 [int .u64 n,I f] a λe w'=>∃b,e=Z (.bool b)/\Fo b (Li w' (p.add 0) λn=>Li w' (p.add 13) λd=>Cu 11 [I n] w' λn w'=>w'.cell? (p.add 13)=aa (I d)/\Cj 23 [int .u64 n,I d] w' λb w'=>Fo b (Lu w' (p.add 1) λn=>Li w' (p.add 13) λg=>Lj w' (p.add 12) λb=>Cj 23 [int .u64 n,I g] w' λh w'=>w'.cell? (p.add 12)=aa (.bool b)/\R (Z (.bool (h==!b))) w') (R (Z (.bool ae)) w')) (R (Z (.bool ae)) w')) (R (Z (.bool ae)) a))):=uj_ {N:=37,keep:=kp 0 [[1],[1,5],[2],[2]],bQ:=[(3,[0,1,2,3,4,5,6,7,8,9,10,11,12,13,14,16,17,15,18,19,20,21,22,23,24,26,27,28,25,29,30,31])]} func197 (by kernel_rfl)
def JF:Mt:={N:=9,keep:=kp 0 [[0,3],[4]]}
def Lh:=bc f278
theorem Tr:f278.body=aa Lh:=by kernel_rfl
theorem n278:f278.ntmps=JF.N:=by kernel_rfl
theorem aho {x x1 x2 x3 w R}:Uj (Calls prog 279 #[agg #[I x,I x1,I x2],ab (aa x3)] w R) (aI w [I x,I x1,I x2] 278 λp w'=>Lq w' (x3.add 5) λf n c=>Li w' (p.add 0) λg=>Cq 280 [aj f n c,I g] w' λh n c w'=>Li w' (p.add 2) λd=>Fo (d !=0) (R (Z (.bool ((↑n:Int)==0))) w') (Sm w' λb=>Fo ((↑n:Int)==1) (((0:Int)<=0/\0<(↑n:Int))/\∃a,h=aa a/\∃n,b.cell? (add (a.add 0) 1)=aa (I n)/\∃i,b.cell? (p.add 1)=aa (I i)/\R (Z (.bool (n==i))) b) (R (Z (.bool ae)) b))):=uj_ {N:=28,keep:=kp 0 [[1,2],[2,4],[2,4,12],[3],[3]],bQ:=[(4,(.range 13))]} func279 (by kernel_rfl)
end
end
section
open Value IntKind Ending World Addr Tryz
open Value renaming pointer→ab,slice→aj,tuple→aw,bool→o7
set_option maxRecDepth 100000
noncomputable section
def Bb:Mt:={N:=24,keep:=kp 0 [[0,1],[0,1,5],[1,5,8,9,10],[1,5,8,9,10,11],[1,5,7,8,9,10],[1,5,7,8,9,10,17],[1,5,8,9,10],[1,5,8,9,10],[4]],bk:=[(0,[5]),(1,[1,5,8,9,10])],lk:=[(3,[1,5,8,9,10])]}
def Ll:=bc f280
def Uv:=Ll.sr.sr.sr
def Lm:=Ll.sr.sr.sl.sr.sl.sl
def Gx (x:Int) (x1:Option Addr) (x2 x3:Nat) (x4:Option Addr) (x5 x6:Nat) (a b:Int):Env:=[vI 1 x,vS 5 x1 x2 x3,vS 8 x4 x5 x6,vI 9 a,vI 10 b]
def ON (R:RT):=aW 0 [5] (SQ Bb Uv (Rt f280 R) (Rt f280 R))
theorem ahp {x x1 x2 x3 w R}:Uj (Calls prog 280 #[aj x x1 x2,I x3] w R) (Cut (WP prog 24 (bj Lm) (Gx x3 ag 0 0 x x1 x2 (↑x1:Int) 0) w (ON R))):=uj_ Bb func280 (by kernel_rfl)
theorem ac9 (x x1 x2 x3 x4 x5 x6 j i w B R):den prog Bb Lm (Gx x x1 x2 x3 x4 x5 x6 j i) w (bd B (ON R))=
(Fo (decide (i<j)) ((0<=i/\i<(↑x5:Int))/\∃a,x4=aa a/\∃n,w.cell? (add (add a (aG i*3)) 0)=aa (I n)/\∃b,w.cell? (add (add a (aG i*3)) 1)=aa (I b)/\∃d,w.cell? (add (add a (aG i*3)) 2)=aa (I d)/\aI w [I 0,I 0,I 0] 75 λp w'=>Wr w' p [I n,I b,I d] λw'=>Li w' (p.add 0) λn=>Fo (n==x) (Li w' (p.add 0) λn=>Li w' (p.add 1) λe=>Li w' (p.add 2) λf=>aI w' [I n,I e,I f] 75 λp w'=>∃g n c h,aZ prog (bM #[63,63] 63 #[aj x1 x2 x3,aj (aa p) 1 1]) w'=a7 (aj g n c) h/\B [vI 1 x,vS 5 g n c,vS 8 x4 x5 x6,vI 9 j,(10,SV.v (I (wrap i64 (i+1))))] h) (B [vI 1 x,vS 5 x1 x2 x3,vS 8 x4 x5 x6,vI 9 j,(10,SV.v (I (wrap i64 (i+1))))] w')) (R (Z (aj x1 x2 x3)) w)):=by kernel_rfl
def JG:Mt:={N:=9,keep:=kp 0 [[0,3],[4]]}
def Ln:=bc f281
theorem Ts:f281.body=aa Ln:=by kernel_rfl
theorem n281:f281.ntmps=JG.N:=by kernel_rfl
theorem ahq {x x1 x2 x3 w R}:Uj (Calls prog 282 #[agg #[I x,I x1,I x2],ab (aa x3)] w R) (aI w [I x,I x1,I x2] 75 λp w'=>Lq w' (x3.add 4) λa n c=>Cj 283 [aj a n c,func (aS 284) #[] #[ab (aa p)]] w' λb w'=>R (Z (.bool b)) w'):=uj_ {N:=8,keep:=kp 0 [[1,2],[3]]} func282 (by kernel_rfl)
theorem ahr {x x1 x2 x3 x4 w R}:Uj (Calls prog 283 #[aj x x1 x2,(func (aS x3) #[] #[ab (aa x4)])] w R) (Ci 352 [aj x x1 x2,func (aS x3) #[] #[ab (aa x4)]] w λn w'=>R (Z (.bool (decide (n>=0)))) w'):=uj_ {N:=9,keep:=kp 0 [[0,1],[4]]} func283 (by kernel_rfl)
theorem ahs {x x1 x2 x3 w R}:Uj (Calls prog 284 #[agg #[I x,I x1,I x2],ab (aa x3)] w R) (aI w [I x,I x1,I x2] 278 λp w'=>Li w' (p.add 0) λn=>Li w' (x3.add 0) λa=>R (Z (.bool (n==a))) w'):=uj_ {N:=9,keep:=kp 0 [[1,2],[3]]} func284 (by kernel_rfl)
theorem aht {x x1 x2 x3 w R}:Uj (Calls prog 285 #[agg #[I x,I x1,I x2],ab (aa x3)] w R) (aI w [I x,I x1,I x2] 278 λp w'=>Lq w' (x3.add 6) λf n c=>Li w' (p.add 2) λg=>Cq 280 [aj f n c,I g] w' λh n c w'=>Sm w' λb=>∃d,b.cell? (p.add 2)=aa (I d)/\Fz (d==0) (Fo ((↑n:Int)==1) (((0:Int)<=0/\0<(↑n:Int))/\∃a,h=aa a/\∃n,b.cell? (add (a.add 0) 2)=aa (I n)/\∃i,b.cell? (p.add 0)=aa (I i)/\R (Z (.bool (n==i))) b) (R (Z (.bool ae)) b)) (R (Z (.bool ah)) b)):=uj_ {N:=27,keep:=kp 0 [[1,2],[2,4],[3]],bQ:=[(2,(.range 18))]} func285 (by kernel_rfl)
theorem ahu {x x1 x2 x3 w R}:Uj (Calls prog 286 #[agg #[I x,I x1,I x2],ab (aa x3)] w R) (aI w [I x,I x1,I x2] 75 λp w'=>Li w' (p.add 2) λn=>Fz (decide (n<=0)) (Lq w' (x3.add 4) λa n c=>Cj 283 [aj a n c,func (aS 287) #[] #[ab (aa p)]] w' λb w'=>R (Z (.bool b)) w') (R (Z (.bool ah)) w')):=uj_ {N:=13,keep:=kp 0 [[1,2],[3]]} func286 (by kernel_rfl)
theorem ahv {x x1 x2 x3 w R}:Uj (Calls prog 287 #[agg #[I x,I x1,I x2],ab (aa x3)] w R) (aI w [I x,I x1,I x2] 278 λp w'=>Li w' (p.add 0) λn=>Li w' (x3.add 2) λa=>Fo (n==a) (Li w' (p.add 2) λn=>Li w' (x3.add 0) λb=>R (Z (.bool (n==b))) w') (R (Z (.bool ae)) w')):=uj_ {N:=16,keep:=kp 0 [[1,2],[3]]} func287 (by kernel_rfl)
theorem ahw {x x1 x2 x3 x4 x5 x6 F G H e f g h i j k l m o q r s t u y z A B C D E w R}:Uj (Calls prog 288 #[agg #[I x,(int .u64 x1),(int .u64 x2),(int .u64 x3),(aj x4 x5 x6),(aj F G H),(aj e f g),(aj h i j),(aj k l m),(aj o q r),(aj s t u),(.bool y),(.bool z),I A,I B],agg #[I C,I D,I E]] w R) (aI w [I x,int .u64 x1,int .u64 x2,int .u64 x3,aj x4 x5 x6,aj F G H,aj e f g,aj h i j,aj k l m,aj o q r,aj s t u,.bool y,.bool z,I A,I B] 65 λp w'=>aI w' [I C,I D,I E] 75 λa w'=>Lu w' (p.add 2) λn=>Li w' (a.add 1) λc=>Cj 23 [int .u64 n,I c] w' λb w'=>Fz b (Lj w' (p.add 11) λb=>Fo b (Lj w' (p.add 12) λb=>Fo (!b) (Li w' (p.add 13) λn=>Li w' (a.add 1) λd=>R (Z (.bool (n==d))) w') (R (Z (.bool ae)) w')) (R (Z (.bool ae)) w')) (R (Z (.bool ah)) w')):=uj_ {N:=26,keep:=kp 0 [[2,3],[4]]} func288 (by kernel_rfl)
theorem ahx {x x1 x2 x3 w R}:Uj (Calls prog 289 #[agg #[I x,I x1,I x2],ab (aa x3)] w R) (aI w [I x,I x1,I x2] 75 λp w'=>Li w' (p.add 1) λn=>Fz (n==(-1:Int)) (Li w' (x3.add 0) λn=>Lu w' (x3.add 1) λa=>Lu w' (x3.add 2) λd=>Lu w' (x3.add 3) λf=>Lq w' (x3.add 4) λg h c=>Lq w' (x3.add 5) λi j k=>Lq w' (x3.add 6) λl m o=>Lq w' (x3.add 7) λq r s=>Lq w' (x3.add 8) λt u v=>Lq w' (x3.add 9) λy z A=>Lq w' (x3.add 10) λB C D=>Lj w' (x3.add 11) λb=>Lj w' (x3.add 12) λE=>Li w' (x3.add 13) λF=>Li w' (x3.add 14) λG=>Li w' (p.add 0) λH=>Li w' (p.add 1) λJ=>Li w' (p.add 2) λK=>Cj 288 [agg #[I n,int .u64 a,int .u64 d,int .u64 f,aj g h c,aj i j k,aj l m o,aj q r s,aj t u v,aj y z A,aj B C D,.bool b,.bool E,I F,I G],agg #[I H,I J,I K]] w' λb w'=>R (Z (.bool b)) w') (R (Z (.bool ah)) w')):=uj_ {N:=12,keep:=kp 0 [[1,2],[3]]} func289 (by kernel_rfl)
theorem ahy {x x1 x2 x3 w R}:Uj (Calls prog 290 #[agg #[I x,I x1,I x2],ab (aa x3)] w R) (aI w [I x,I x1,I x2] 75 λp w'=>Lq w' x3 λa n c=>Li w' (p.add 0) λb=>Cq 280 [aj a n c,I b] w' λp n c w'=>R (Z (.bool ((↑n:Int)==1))) w'):=uj_ {N:=10,keep:=kp 0 [[1,2],[3]]} func290 (by kernel_rfl)
theorem aiq {x x1 x2 x3 w R}:Uj (Calls prog 350 #[aj x x1 x2,(func (aS 351) #[] #[ab (aa x3)])] w R) (Ci 387 [aj x x1 x2,func (aS 351) #[] #[ab (aa x3)]] w λn w'=>R (Z (.bool (decide (n>=0)))) w'):=uj_ {N:=9,keep:=kp 0 [[0,1],[4]]} func350 (by kernel_rfl)
def Bf:Mt:={N:=19,keep:=kp 0 [[0,1],[0,1,7,8],[0,1,7,8,9],[0,1,5,7,8],[0,1,5,7,8,16],[4],[0,1,7,8],[4]],bk:=[(0,[]),(1,[0,1,7,8])],lk:=[(2,[0,1,7,8])]}
def LC:=bc f352
def UC:=LC.sr.sr
def LD:=LC.sr.sl.sr.sl.sl
def Nb (x:Option Addr) (x1 x2 x3:Nat) (x4:Addr) (x5 x6:Int):Env:=[vS 0 x x1 x2,(1,SV.v (func (aS x3) #[] #[(ab (aa x4))])),vI 7 x5,vI 8 x6]
def OX (R:RT):=aW 0 [] (SQ Bf UC (Rt f352 R) (Rt f352 R))
theorem air {x x1 x2 x3 x4 w R}:Uj (Calls prog 352 #[aj x x1 x2,(func (aS x3) #[] #[ab (aa x4)])] w R) (Cut (WP prog 19 (bj LD) [vS 0 x x1 x2,(1,SV.v (func (aS x3) #[] #[ab (aa x4)])),(7,SV.v (I (↑x1:Int))),vI 8 0] w (OX R))):=uj_ Bf func352 (by kernel_rfl)
theorem adl (x x1 x2 x3 x4 x5 x6 w B R):den prog Bf LD (Nb x x1 x2 x3 x4 x5 x6) w (bd B (OX R))=
(Fo (decide (x6<x5)) ((0<=x6/\x6<(↑x1:Int))/\∃a,x=aa a/\∃n,w.cell? (add (add a (aG x6*3)) 0)=aa (I n)/\∃c,w.cell? (add (add a (aG x6*3)) 1)=aa (I c)/\∃d,w.cell? (add (add a (aG x6*3)) 2)=aa (I d)/\bif iM prog x3 then Call prog x3 [agg #[I n,I c,I d],ab (aa x4)] w λe w'=>∃b,e=Z (.bool b)/\Fo b (R (Z (I x6)) w') (B [vS 0 x x1 x2,(1,SV.v (func (aS x3) #[] #[ab (aa x4)])),vI 7 x5,(8,SV.v (I (wrap i64 (x6+1))))] w')else ∃b w',aZ prog (callFunc x3 #[agg #[I n,I c,I d],ab (aa x4)]) w=a7 (Next.value (.bool b)) w'/\Fo b (R (Z (I x6)) w') (B [vS 0 x x1 x2,(1,SV.v (func (aS x3) #[] #[ab (aa x4)])),vI 7 x5,(8,SV.v (I (wrap i64 (x6+1))))] w')) (R (Z (I (-1:Int))) w)):=by kernel_rfl
def Bo:Mt:={N:=19,keep:=kp 0 [[0,1],[0,1,7,8],[0,1,7,8,9],[0,1,5,7,8],[0,1,5,7,8,16],[4],[0,1,7,8],[4]],bk:=[(0,[]),(1,[0,1,7,8])],lk:=[(2,[0,1,7,8])]}
def L0:=bc f387
def UI:=L0.sr.sr
def L1:=L0.sr.sl.sr.sl.sl
def Ng (x:Option Addr) (x1 x2:Nat) (x3:Addr) (x4 x5:Int):Env:=[vS 0 x x1 x2,(1,SV.v (func (aS 351) #[] #[(ab (aa x3))])),vI 7 x4,vI 8 x5]
def O9 (R:RT):=aW 0 [] (SQ Bo UI (Rt f387 R) (Rt f387 R))
theorem aiV {x x1 x2 x3 w R}:Uj (Calls prog 387 #[aj x x1 x2,(func (aS 351) #[] #[ab (aa x3)])] w R) (Cut (WP prog 19 (bj L1) [vS 0 x x1 x2,(1,SV.v (func (aS 351) #[] #[ab (aa x3)])),(7,SV.v (I (↑x1:Int))),vI 8 0] w (O9 R))):=uj_ Bo func387 (by kernel_rfl)
theorem adz (x x1 x2 x3 x4 x5 w B R):den prog Bo L1 (Ng x x1 x2 x3 x4 x5) w (bd B (O9 R))=
(Fo (decide (x5<x4)) ((0<=x5/\x5<(↑x1:Int))/\∃a,x=aa a/\∃n,w.cell? (add (add a (aG x5*3)) 0)=aa (I n)/\∃c,w.cell? (add (add a (aG x5*3)) 1)=aa (I c)/\∃d,w.cell? (add (add a (aG x5*3)) 2)=aa (I d)/\Cj 351 [agg #[I n,I c,I d],ab (aa x3)] w λb w'=>Fo b (R (Z (I x5)) w') (B [vS 0 x x1 x2,(1,SV.v (func (aS 351) #[] #[ab (aa x3)])),vI 7 x4,(8,SV.v (I (wrap i64 (x5+1))))] w')) (R (Z (I (-1:Int))) w)):=by kernel_rfl
end
end
section
open Value IntKind Ending World Addr Tryz
open Value renaming pointer→ab,slice→aj,tuple→aw,bool→o7
set_option maxRecDepth 100000
noncomputable section
theorem ai1 {x x1 w R}:Uj (Calls prog 393 #[int .u64 x,int .u64 x1] w R) ((0:Int)<=32/\(0:Int)<=32/\(0:Int)<=32/\(0:Int)<=32/\(0:Int)<=32/\R (Z (aw #[int .u64 (wrap .u64 (wrap .u64 (wrap .u64 (aU .u64 x 32*aU .u64 x1 32)+aU .u64 (wrap .u64 (wrap .u64 (aU .u64 x 32*aH aM .u64 x1 4294967295)+aU .u64 (wrap .u64 (aH aM .u64 x 4294967295*aH aM .u64 x1 4294967295)) 32)) 32)+aU .u64 (wrap .u64 (aH aM .u64 (wrap .u64 (wrap .u64 (aU .u64 x 32*aH aM .u64 x1 4294967295)+aU .u64 (wrap .u64 (aH aM .u64 x 4294967295*aH aM .u64 x1 4294967295)) 32)) 4294967295+wrap .u64 (aH aM .u64 x 4294967295*aU .u64 x1 32))) 32)),int .u64 (wrap .u64 (x*x1))])) w):=uj_ {N:=51,keep:=kp 0 [[0,1],[0,1,6],[0,1,6,7],[0,1,6,7,8],[0,1,6,7,8,9],[0,1,6,7,8,9,10],[0,1,6,7,9,11],[0,1,6,7,9,11,12],[0,1,6,7,9,12,13],[0,1,7,9,12,13],[0,1,4],[4,5]]} func393 (by kernel_rfl)
def jn:Mt:={N:=33,keep:=kp 0 [[0],[0,11],[2],[0,3],[3,19,20],[3,19,20,21],[3,5,19,20],[3,19,20,23,24],[3,19,20,23,24,25],[3,19,20,23,24],[3,19,20,23,24,29],[3,19,20,23,24],[3,19,20],[2]],bk:=[(0,[3]),(1,[3,19,20]),(2,[3,19,20]),(3,[3,19,20,23,24])],lk:=[(5,[3,19,20]),(8,[3,19,20,23,24])]}
def BY:=bc f362
def qQ:=BY.sr.sl.sr.sr.sr.sr
def LI:=BY.sr.sl.sr.sr.sr.sl.sr.sl.sl
def FE:=BY.sr.sl.sr.sr.sr.sl.sr.sl.sl.sr.sr.sr
def LJ:=BY.sr.sl.sr.sr.sr.sl.sr.sl.sl.sr.sr.sl.sl.sr.sr.sl.sl
def GH (x:Option Addr) (x1 x2:Nat) (x3:List Value) (x4:Int):Env:=[vS 3 x x1 x2,(19,SV.v (agg x3.toArray)),vI 20 x4]
def GI (x:Option Addr) (x1 x2:Nat) (x3:List Value) (x4:Int) (x5:Option Addr) (x6 u:Nat) (w:Option Addr) (y a:Nat) (b:Option Addr) (c d:Nat) (e:Option Addr) (f g:Nat) (h:Option Addr) (i j:Nat) (k:Option Addr) (l m:Nat) (n:Option Addr) (o p:Nat) (q:Option Addr) (r s:Nat) (t:Int):Env:=[vS 3 x x1 x2,(19,SV.v (agg x3.toArray)),vI 20 x4,(23,SV.v (agg #[(aj x5 x6 u),(aj w y a),(aj b c d),(aj e f g),(aj h i j),(aj k l m),(aj n o p),(aj q r s)])),vI 24 t]
def O0 (R:RT):=aW 0 [3] (SQ jn qQ (Rt f362 R) (Rt f362 R))
def O1 (B362_1:Env->World->Prop) (R:Ending->World->Prop):dL:=aW 2 [3,19,20] (aW 1 [3,19,20] (cW (λE w=>cU (cV jn.bD (cF FE)) prog jn FE E w (bd B362_1 (aW 0 [3] (cW (λE w=>cU (cV jn.bD (cF qQ)) prog jn qQ E w (Rt f362 R) λE=>den prog jn qQ E w (Rt f362 R)) (Rt f362 R)))) λE=>den prog jn FE E w (bd B362_1 (aW 0 [3] (cW (λE w=>cU (cV jn.bD (cF qQ)) prog jn qQ E w (Rt f362 R) λE=>den prog jn qQ E w (Rt f362 R)) (Rt f362 R))))) (bd B362_1 (aW 0 [3] (cW (λE w=>cU (cV jn.bD (cF qQ)) prog jn qQ E w (Rt f362 R) λE=>den prog jn qQ E w (Rt f362 R)) (Rt f362 R))))))
theorem aiB {x w R}:Uj (Calls prog 362 #[ab x] w R) (∃a,x=aa a/\Lq w (a.add 170) λp n c=>Fo (decide ((↑n:Int)>0)) (∃a,x=aa a/\Lq w (a.add 170) λp n c=>R (Z (aj p n c)) w) (∃a,x=aa a/\∃cs,iX cs=168/\(∀(j:Nat) (v:Value),cs[j]?=aa v->w.cell? (add (a.add 2) j)=aa v)/\Cut (WP prog 33 (bj LI) (GH ag 0 0 cs 0) w (O0 R)))):=uj_ jn func362 (by kernel_rfl)
theorem ado (x x1 x2 x3 x4 w B362_1 R):den prog jn LI (GH x x1 x2 x3 x4) w (bd B362_1 (O0 R))=
(Fo (decide (x4<21)) ((0<=x4/\x4<(↑21:Int))/\∃p n c b d e f g h i j k l m o q r s t u v y z A,qG 8 (qH (aG x4*8) (Array.toList (dB x3)))=[aj p n c,aj b d e,aj f g h,aj i j k,aj l m o,aj q r s,aj t u v,aj y z A]/\aI w [N3,N3,N3,N3,N3,N3,N3,N3] 286 λa w'=>Wr w' a [aj p n c,aj b d e,aj f g h,aj i j k,aj l m o,aj q r s,aj t u v,aj y z A] λw'=>Lq w' (a.add 0) λp n c=>Lq w' (a.add 1) λB C D=>Lq w' (a.add 2) λE F G=>Lq w' (a.add 3) λH I J=>Lq w' (a.add 4) λK L M=>Lq w' (a.add 5) λN O P=>Lq w' (a.add 6) λQ S T=>Lq w' (a.add 7) λU V W=>Cut (WP prog 33 (bj LJ) (GI x x1 x2 x3 x4 p n c B C D E F G H I J K L M N O P Q S T U V W 0) w' (O1 B362_1 R))) (R (Z (aj x x1 x2)) w)):=by kernel_rfl
theorem adp (x x1 x2 x3 x4 x5 x6 A D E b d e f g h i j k l m o q r s t u y z a w B C R):den prog jn LJ (GI x x1 x2 x3 x4 x5 x6 A D E b d e f g h i j k l m o q r s t u y z a) w (bd C (O1 B R))=
(Fo (decide (a<8)) ((0<=a/\a<(↑8:Int))/\∃p n c,[aj x5 x6 A,aj D E b,aj d e f,aj g h i,aj j k l,aj m o q,aj r s t,aj u y z][aG a*1]?=aa (aj p n c)/\Fo (decide ((↑n:Int)>0)) (R (Z (aj p n c)) w) (C [vS 3 p n c,(19,SV.v (agg (dB x3))),vI 20 x4,(23,SV.v (agg #[aj x5 x6 A,aj D E b,aj d e f,aj g h i,aj j k l,aj m o q,aj r s t,aj u y z])),(24,SV.v (I (wrap i64 (a+1))))] w)) (B [vS 3 x x1 x2,(19,SV.v (agg (dB x3))),(20,SV.v (I (wrap i64 (x4+1))))] w)):=by kernel_rfl
def Be:Mt:={N:=18,keep:=kp 0 [[0],[0,3],[3,6,7,8],[3,6,7,8,9],[3,5,6,7,8],[3,5,6,7,8,14],[2],[3,6,7,8],[2]],bk:=[(0,[3]),(1,[3,6,7,8])],lk:=[(3,[3,6,7,8])]}
def LA:=bc f344
def UB:=LA.sr.sr.sr
def LB:=LA.sr.sr.sl.sr.sl.sl
def GF (x:Int) (x1:Option Addr) (x2 x3:Nat) (x4 x5:Int):Env:=[vI 3 x,vS 6 x1 x2 x3,vI 7 x4,vI 8 x5]
def OU (R:RT):=aW 0 [3] (SQ Be UB (Rt f344 R) (Rt f344 R))
theorem ain {x x1 x2 w R}:Uj (Calls prog 344 #[aj x x1 x2] w R) (Cut (WP prog 18 (bj LB) (GF 0 x x1 x2 (↑x1:Int) 0) w (OU R))):=uj_ Be func344 (by kernel_rfl)
theorem adk (x x1 x2 x3 x4 x5 w B R):den prog Be LB (GF x x1 x2 x3 x4 x5) w (bd B (OU R))=
(Fo (decide (x5<x4)) ((0<=x5/\x5<(↑x2:Int))/\∃a,x1=aa a/\Li w (add a (aG x5*1)) λn=>Fo (n !=x) (R (Z (I n)) w) (B [vI 3 x,vS 6 x1 x2 x3,vI 7 x4,(8,SV.v (I (wrap i64 (x5+1))))] w)) (R (Z (I x)) w)):=by kernel_rfl
theorem aio {x x1 w R}:Uj (Calls prog 345 #[I x,I x1] w R) (Cj 385 [I x] w λb w'=>Cj 385 [I x1] w' λa w'=>Fo b (Fo a (R (Z (I 0)) w') (R (Z (I (-1:Int))) w')) (Fo a (R (Z (I 1)) w') (Fo (decide (x<x1)) (R (Z (I (-1:Int))) w') (Fo (decide (x>x1)) (R (Z (I 1)) w') (R (Z (I 0)) w'))))):=uj_ {N:=20,keep:=kp 0 [[0,1],[0,1,5],[0,1,5,6],[0,1,6,11],[12],[4],[4],[0,1,13],[4],[0,1,16],[4],[19],[4],[4]]} func345 (by kernel_rfl)
theorem aip {x x1 w R}:Uj (Calls prog 346 #[I x,I x1] w R) (Cj 386 [I x] w λb w'=>Cj 386 [I x1] w' λa w'=>Fo b (Fo a (R (Z (I 0)) w') (R (Z (I (-1:Int))) w')) (Fo a (R (Z (I 1)) w') (Fo (decide (x<x1)) (R (Z (I (-1:Int))) w') (Fo (decide (x>x1)) (R (Z (I 1)) w') (R (Z (I 0)) w'))))):=uj_ {N:=20,keep:=kp 0 [[0,1],[0,1,5],[0,1,5,6],[0,1,6,11],[12],[4],[4],[0,1,13],[4],[0,1,16],[4],[19],[4],[4]]} func346 (by kernel_rfl)
theorem aiT {x w R}:Uj (Calls prog 385 #[I x] w R) (R (Z (.bool (x !=x))) w):=uj_ {N:=6,keep:=kp 0 [[0],[2]]} func385 (by kernel_rfl)
theorem aiU {x w R}:Uj (Calls prog 386 #[I x] w R) (R (Z (.bool (x !=x))) w):=uj_ {N:=6,keep:=kp 0 [[0],[2]]} func386 (by kernel_rfl)
end
end
section
open Value IntKind Ending World Addr Tryz
open Value renaming pointer→ab,slice→aj,tuple→aw,bool→o7
set_option maxRecDepth 100000
noncomputable section
theorem aim {x x1 x2 w R}:Uj (Calls prog 343 #[I x,I x1,ab (aa x2)] w R) (Sm w λw'=>World.drawn w'=World.drawn w+1->Lp w' x2 λp=>∃a,p=aa a/\∃r,w'.cell? (a.add 1)=aa (map r)/\∃n,aZ prog (dg 285 (map r) (I x) ae) w'=a7 (I n) w'/\Lp w' x2 λp=>∃a,p=aa a/\∃r,w'.cell? (a.add 1)=aa (map r)/\∃b,aZ prog (dg 285 (map r) (I x1) ae) w'=a7 (I b) w'/\Ci 345 [I n,I b] w' λn w'=>Ci 346 [I x,I x1] w' λc w'=>aI w' [I n,I c] 3 λp w'=>Ci 344 [aj (aa p) 2 2] w' λn w'=>R (Z (I n)) w'):=uj_ {N:=24,keep:=kp 0 [[0,1,2],[5]],bQ:=[(1,[0,1,2,3,4,5,6,7,8,9,10,11,13,14,12,15,16,17,18])],ex:=ah} func343 (by kernel_rfl)
end
end
section
open Value IntKind Ending World Addr Tryz
open Value renaming pointer→ab,slice→aj,tuple→aw,bool→o7
set_option maxRecDepth 100000
noncomputable section
namespace ku
def dq:Mt:={N:=38,keep:=kp 0 [[0,1,2,3],[0,1,2,3,9],[1,2,3,9,10],[1,2,3,9,10,16],[1,2,3,9,10],[1,2,3,9,10,21,22,23],[1,2,3,9,10,21,22,23,24],[1,2,3,9,10,12,21,22,23],[1,2,3,9,10,21,22,23],[1,2,3,9,10,21,22,23],[8]],bk:=[(0,[9]),(1,[1,2,3,9,10]),(2,[1,2,3,9,10]),(3,[1,2,3,9,10,21,22,23])],lk:=[(3,[1,2,3,9,10]),(6,[1,2,3,9,10,21,22,23])],ref:=ae}
def r6:=bc f87
def iq:=r6.sr.sr.sr
def y9:=r6.sr.sr.sl.sr.sl.sl
def uG:=r6.sr.sr.sl.sr.sl.sl.sr.sr
def uH:=r6.sr.sr.sl.sr.sl.sl.sr.sl.sl.sr.sl.sl
def zt (x:Int) (x1:Nat) (x2:Option Addr) (x3:Nat) (x4 x5:Option Addr) (x6 a:Nat) (b:Int):Env:=[vI 1 x,(2,SV.v (func (aS x1) #[(ab x2)] #[])),(3,SV.v (func (aS x3) #[(ab x4)] #[])),vS 9 x5 x6 a,vI 10 b]
def zu (x:Int) (x1:Nat) (x2:Option Addr) (x3:Nat) (x4 x5:Option Addr) (x6 e:Nat) (f:Int) (g:Option Addr) (a b:Nat) (c d:Int):Env:=[vI 1 x,(2,SV.v (func (aS x1) #[(ab x2)] #[])),(3,SV.v (func (aS x3) #[(ab x4)] #[])),vS 9 x5 x6 e,vI 10 f,vS 21 g a b,vI 22 c,vI 23 d]
def zM (R:RT):=aW 0 [9] (SQ dq iq (Rt f87 R) (Rt f87 R))
def ve (B87_1:Env->World->Prop) (R:Ending->World->Prop):dL:=aW 2 [1,2,3,9,10] (aW 1 [1,2,3,9,10] (cW (λE w=>cU (cV dq.bD (cF uG)) prog dq uG E w (bd B87_1 (aW 0 [9] (cW (λE w=>cU (cV dq.bD (cF iq)) prog dq iq E w (Rt f87 R) λE=>den prog dq iq E w (Rt f87 R)) (Rt f87 R)))) λE=>den prog dq uG E w (bd B87_1 (aW 0 [9] (cW (λE w=>cU (cV dq.bD (cF iq)) prog dq iq E w (Rt f87 R) λE=>den prog dq iq E w (Rt f87 R)) (Rt f87 R))))) (bd B87_1 (aW 0 [9] (cW (λE w=>cU (cV dq.bD (cF iq)) prog dq iq E w (Rt f87 R) λE=>den prog dq iq E w (Rt f87 R)) (Rt f87 R))))))
theorem Jn {x x1 x2 x3 x4 x5 w R}:Uj (Calls prog 87 #[I x,I x1,func (aS x2) #[(ab x3)] #[],func (aS x4) #[(ab x5)] #[]] w R) (Cut (WP prog 38 (bj y9) [vI 1 x1,(2,SV.v (func (aS x2) #[ab x3] #[])),(3,SV.v (func (aS x4) #[ab x5] #[])),(9,SV.v (N3)),vI 10 x] w (zM R))):=uj_ dq func87 (by kernel_rfl)
theorem I4 (x x1 x2 x3 x4 x5 x6 b a w B R):den prog dq y9 (zt x x1 x2 x3 x4 x5 x6 b a) w (bd B (zM R))=
(Fo (decide (a<x)) (bif iM prog x1 then Call prog x1 [ab x2,I a] w λe w'=>∃p n c,e=Z (aj p n c)/\Cut (WP prog 38 (bj uH) [vI 1 x,(2,SV.v (func (aS x1) #[ab x2] #[])),(3,SV.v (func (aS x3) #[ab x4] #[])),vS 9 x5 x6 b,vI 10 a,vS 21 p n c,(22,SV.v (I (↑n:Int))),vI 23 0] w' (ve B R))else ∃p n c w',aZ prog (callFunc x1 #[ab x2,I a]) w=a7 (Next.value (aj p n c)) w'/\Cut (WP prog 38 (bj uH) [vI 1 x,(2,SV.v (func (aS x1) #[ab x2] #[])),(3,SV.v (func (aS x3) #[ab x4] #[])),vS 9 x5 x6 b,vI 10 a,vS 21 p n c,(22,SV.v (I (↑n:Int))),vI 23 0] w' (ve B R))) (R (Z (aj x5 x6 b)) w)):=by kernel_rfl
theorem I5 (x x1 x2 x3 x4 x5 x6 l k m h j i g w B C R):den prog dq uH (zu x x1 x2 x3 x4 x5 x6 l k m h j i g) w (bd C (ve B R))=
(Fo (decide (g<i)) ((0<=g/\g<(↑h:Int))/\∃a,m=aa a/\Li w (add a (aG g*1)) λn=>bif iM prog x3 then Call prog x3 [ab x4,I n] w λe w'=>∃b,e=Z (I b)/\aI w' [I n,I k,I b] 75 λp w'=>∃d n c f,aZ prog (bM #[63,63] 63 #[aj x5 x6 l,aj (aa p) 1 1]) w'=a7 (aj d n c) f/\C [vI 1 x,(2,SV.v (func (aS x1) #[ab x2] #[])),(3,SV.v (func (aS x3) #[ab x4] #[])),vS 9 d n c,vI 10 k,vS 21 m h j,vI 22 i,(23,SV.v (I (wrap i64 (g+1))))] f else ∃b w',aZ prog (callFunc x3 #[ab x4,I n]) w=a7 (Next.value (I b)) w'/\aI w' [I n,I k,I b] 75 λp w'=>∃d n c f,aZ prog (bM #[63,63] 63 #[aj x5 x6 l,aj (aa p) 1 1]) w'=a7 (aj d n c) f/\C [vI 1 x,(2,SV.v (func (aS x1) #[ab x2] #[])),(3,SV.v (func (aS x3) #[ab x4] #[])),vS 9 d n c,vI 10 k,vS 21 m h j,vI 22 i,(23,SV.v (I (wrap i64 (g+1))))] f) (B [vI 1 x,(2,SV.v (func (aS x1) #[ab x2] #[])),(3,SV.v (func (aS x3) #[ab x4] #[])),vS 9 x5 x6 l,(10,SV.v (I (wrap i64 (k+1))))] w)):=by kernel_rfl
def rL:Mt:={N:=23,keep:=kp 0 [[0,1],[0,1,9,10],[0,1,9,10,11],[0,1,5,9,10],[0,1,5,9,10,20],[4],[0,1,9,10],[4]],bk:=[(0,[]),(1,[0,1,9,10])],lk:=[(2,[0,1,9,10])],ref:=ae}
def yZ:=bc f376
def FG:=yZ.sr.sr
def y7:=yZ.sr.sl.sr.sl.sl
def wQ (x:Option Addr) (x1 x2:Int):Env:=[vP 0 x,(1,SV.v (func (aS 378) #[] #[])),vI 9 x1,vI 10 x2]
def zK (R:RT):=aW 0 [] (SQ rL FG (Rt f376 R) (Rt f376 R))
theorem Jl {x w R}:Uj (Calls prog 376 #[ab x,func (aS 378) #[] #[]] w R) (∃a,x=aa a/\Li w (a.add 12) λn=>Cut (WP prog 23 (bj y7) [vP 0 x,(1,SV.v (func (aS 378) #[] #[])),vI 9 n,vI 10 0] w (zK R))):=uj_ rL func376 (by kernel_rfl)
theorem I3 (x x1 x2 w B R):den prog rL y7 (wQ x x1 x2) w (bd B (zK R))=
(Fo (decide (x2<x1)) (∃a,x=aa a/\(0<=x2/\x2<(↑12:Int))/\∃n,w.cell? (add (a.add 0) (aG x2*1))=aa (int cu n)/\Cj 378 [int cu n] w λb w'=>Fo b (R (Z (I x2)) w') (B [vP 0 x,(1,SV.v (func (aS 378) #[] #[])),vI 9 x1,(10,SV.v (I (wrap i64 (x2+1))))] w')) (R (Z (I (-1:Int))) w)):=by kernel_rfl
def rJ:Mt:={N:=46,keep:=kp 0 [[0,1,2],[0,1,2,13],[6,7],[0,2,8],[0,2,8,25],[6,7],[0,2,8,9],[0,2,9,29,30,31],[0,2,9,29,30,31,32],[0,2,9,11,29,30,31],[0,2,9,11,29,30,31,42],[0,2,9,29,30,31],[0,2,9,29,30,31],[6,7]],bk:=[(0,[9]),(1,[0,2,9,29,30,31])],lk:=[(8,[0,2,9,29,30,31])],ref:=ae}
def yX:=bc f335
def FC:=yX.sr.sr.sr.sr.sr.sr
def yY:=yX.sr.sr.sr.sr.sr.sl.sr.sl.sl
def zq (x:Option Addr) (x1:Int) (x2:Option Addr) (x3 x4:Nat) (x5 x6:Int):Env:=[vP 0 x,(2,SV.v (func (aS 337) #[] #[])),vI 9 x1,vS 29 x2 x3 x4,vI 30 x5,vI 31 x6]
def zJ (R:RT):=aW 0 [9] (SQ rJ FC (Rt f335 R) (Rt f335 R))
theorem Jk {x x1 w R}:Uj (Calls prog 335 #[ab x,int .u64 x1,func (aS 337) #[] #[]] w R) (Fo x.isNone (R (Z (aw #[I 0,I 1])) w) (∃a,x=aa a/\Lq w (a.add 0) λp n c=>Cu 11 [I (↑n:Int)] w λn w'=>Cu 318 [int .u64 x1,int .u64 n] w' λn w'=>Cq 382 [int .u64 n] w' λp n c w'=>Fo ((↑n:Int)==0) (R (Z (aw #[I 0,I 12])) w') (((0:Int)<=0/\0<(↑n:Int))/\∃a,p=aa a/\Li w' (a.add 0) λb=>Cut (WP prog 46 (bj yY) [vP 0 x,(2,SV.v (func (aS 337) #[] #[])),vI 9 b,vS 29 p n c,(30,SV.v (I (↑n:Int))),vI 31 0] w' (zJ R))))):=uj_ rJ func335 (by kernel_rfl)
theorem I2 (x x1 x2 x3 x4 x5 x6 w B R):den prog rJ yY (zq x x1 x2 x3 x4 x5 x6) w (bd B (zJ R))=
(Fo (decide (x6<x5)) ((0<=x6/\x6<(↑x3:Int))/\∃a,x2=aa a/\Li w (add a (aG x6*1)) λn=>Ci 14 [ab x,I n] w λc w'=>Ci 14 [ab x,I x1] w' λd w'=>Cj 337 [I c,I d] w' λb w'=>Fo b (B [vP 0 x,(2,SV.v (func (aS 337) #[] #[])),vI 9 n,vS 29 x2 x3 x4,vI 30 x5,(31,SV.v (I (wrap i64 (x6+1))))] w') (B [vP 0 x,(2,SV.v (func (aS 337) #[] #[])),vI 9 x1,vS 29 x2 x3 x4,vI 30 x5,(31,SV.v (I (wrap i64 (x6+1))))] w')) (R (Z (aw #[I x1,I 0])) w)):=by kernel_rfl
end ku
end
end
structure au (F:Nat->Prop) (w w':World):Prop where
 size:w.heap.size<=w'.heap.size
 os:w'.os=w.os
 tape:w'.tape=w.tape
 output:w'.output=w.output
 ax:∀i,i<w.heap.size->¬F i->w'.heap[i]?=w.heap[i]?
def no:Nat->Prop:=λ_=>False
theorem au.refl (F:Nat->Prop) (w:World):au F w w:=⟨b7 _,rfl,rfl,rfl,λ_ _ _=>rfl⟩
theorem au.trans {F G:Nat->Prop} {w w1 a:World} (h:au F w w1) (k:au G w1 a) (d:∀i,i<w.heap.size->G i->F i):au F w a:=
 ⟨aX h.size k.size,k.os.trans h.os,k.tape.trans h.tape,k.output.trans h.output,
  λi hi b=>(k.ax i (jV hi h.size) (λe=>b (d i hi e))).trans (h.ax i hi b)⟩
theorem au.mono {F G:Nat->Prop} {w w':World} (h:au F w w') (a:∀i,i<w.heap.size->F i->G i):au G w w':=(au.refl G w).trans h a
theorem au.same {w w':World} (F:Nat->Prop) (a:w'.heap=w.heap) (b:w'.os=w.os) (d:w'.tape=w.tape) (e:w'.output=w.output):au F w w':=
 ⟨by rw[a];exact b7 _,b,d,e,λ_ _ _=>by rw[a]⟩
theorem lq.ak {F:Nat->Prop} {w w':World} {b:Nat} {c:List Value} {T:TypeId} (h:lq w w' b c T) (a:F b):au F w w':=
 ⟨bG h.size.symm,h.os,h.tape,h.output,λi _ d=>h.other i (λe=>d (e ▸ a))⟩
theorem dr.ak {w w':World} {o:Obj} (h:dr w w' o) (F:Nat->Prop):au F w w':=
 ⟨by rw[h.size];omega,h.os,h.tape,h.output,λi hi _=>h.mI i hi⟩
theorem sy {w:World} {b:Nat} {o:Obj} (h:w.heap[b]?=aa o):b<w.heap.size:=(we.1 h).1
def aL (w:World) (b:Nat) (c:List Value) (T:TypeId):Prop:=w.heap[b]?=aa (.cells c.toArray T (0,0))
theorem aL.lt {w:World} {b:Nat} {c:List Value} {T:TypeId} (h:aL w b c T):b<w.heap.size:=sy h
theorem aL.ak {w w':World} {b:Nat} {c:List Value} {T:TypeId} {F:Nat->Prop} (h:aL w b c T) (k:au F w w') (a:¬F b):aL w' b c T:=
 (k.ax b h.lt a).trans h
theorem zb {w:World} {b:Nat} {c:List Value} {T:TypeId} (h:aL w b c T) (o:Nat):w.cell? ⟨b,o,ag⟩=c[o]?:=by
 unfold aL at h;simp[bf,h]
theorem add_lit (b o k:Nat):(⟨b,o,ag⟩:Addr).add k=⟨b,o+k,ag⟩:=by
 unfold bh;split
 ·simp_all
 ·rfl
theorem aL.cell {w:World} {b:Nat} {c:List Value} {T:TypeId} (h:aL w b c T) {k:Nat} {v:Value} (a:c[k]?=aa v):w.cell? ((⟨b,0,ag⟩:Addr).add k)=aa v:=by
 rw[add_lit,zb h,fv];exact a
theorem aL.b9 {w:World} {b:Nat} {c:List Value} {T:TypeId} (h:aL w b c T) {v:Value} (a:c[0]?=aa v):w.cell? ⟨b,0,ag⟩=aa v:=by
 rw[zb h];exact a
theorem aL.wr {w:World} {b:Nat} {c:List Value} {T:TypeId} (h:aL w b c T) {k:Nat} {vs:List Value} (a:k+vs.length<=c.length) {K:World->Prop}
  (d:∀w',lq w w' b (ba c k vs) T->K w'):Wr w ((⟨b,0,ag⟩:Addr).add k) vs K:=by
 rw[add_lit,fv];exact⟨⟨c,T,h,rfl,a,d⟩⟩
theorem aL.fQ {w:World} {b:Nat} {c:List Value} {T:TypeId} (h:aL w b c T) {vs:List Value} (a:vs.length<=c.length) {K:World->Prop}
  (d:∀w',lq w w' b (ba c 0 vs) T->K w'):Wr w ⟨b,0,ag⟩ vs K:=
 ⟨⟨c,T,h,rfl,by simpa using a,d⟩⟩
theorem lq.aK {w w':World} {b:Nat} {c:List Value} {T:TypeId} (h:lq w w' b c T):aL w' b c T:=h.ax
theorem lq.keep {w w':World} {b i:Nat} {c c':List Value} {T a:TypeId} (h:lq w w' b c T) (k:aL w i c' a) (hi:i≠b):aL w' i c' a:=(h.other i hi).trans k
theorem dr.aK {w w':World} {c:List Value} {T:TypeId} (h:dr w w' (.cells c.toArray T (0,0))):aL w' w.heap.size c T:=h.ax
theorem dr.keep {w w':World} {o:Obj} {i:Nat} {c':List Value} {a:TypeId} (h:dr w w' o) (k:aL w i c' a):aL w' i c' a:=(h.mI i k.lt).trans k
def Cells (w:World) (p:Option Addr) (cs:List Value):Prop:=∀j v,cs[j]?=aa v->∃a,p=aa a/\w.cell? (a.add j)=aa v
theorem Cells.nil (w:World) (p:Option Addr):Cells w p []:=λj v h=>by simp at h
def Sl (w:World) (T:TypeId) (sz:Nat) (p:Option Addr) (n c:Nat) (cs:List Value):Prop:=
 cs.length=n*sz/\n<=c/\c<=maxLen/\match p with
  | none=>n=0/\c=0
  | some a=>∃cells:List Value,aL w a.block cells T/\a.spot=ag/\a.off+c*sz<=cells.length/\(cells.drop a.off).take (n*sz)=cs
def bg (p:Option Addr):Nat->Prop:=λi=>∃a,p=aa a/\i=a.block
section
variable {w w':World} {T:TypeId} {sz:Nat} {p:Option Addr} {n c:Nat} {cs:List Value}
theorem Sl.lt (h:Sl w T sz p n c cs):∀i,bg p i->i<w.heap.size:=by
 rintro i ⟨a,rfl,rfl⟩;obtain⟨_,_,_,cells,b,_⟩:=h;exact b.lt
theorem Sl.len (h:Sl w T sz p n c cs):cs.length=n*sz:=h.1
theorem Sl.nil (w:World) (T:TypeId) (sz:Nat):Sl w T sz ag 0 0 []:=⟨by simp,b7 _,cZ _,rfl,rfl⟩
theorem Sl.ak {F:Nat->Prop} (h:Sl w T sz p n c cs) (k:au F w w') (d:∀i,bg p i->¬F i):Sl w' T sz p n c cs:=by
 obtain⟨e,f,g,b⟩:=h;refine⟨e,f,g,?_⟩
 cases p with
 | none=>exact b
 | some a=>
  obtain⟨cells,j,r⟩:=b;exact⟨cells,j.ak k (d _ ⟨a,rfl,rfl⟩),r⟩
theorem Sl.cells (h:Sl w T sz p n c cs):Cells w p cs:=by
 intro j v e;obtain⟨k,q,r,f⟩:=h;have d:j<n*sz:=by rw[<-k];exact(dI.1 e).1
 cases p with
 | none=>obtain⟨rfl,_⟩:=f;simp at d
 | some a=>
  obtain⟨cells,g,hs,m,i⟩:=f;obtain⟨b,o,sp⟩:=a;simp only at hs g m i;subst hs;refine⟨_,rfl,?_⟩;rw[add_lit,zb g];rw[<-i,gV,ar d,gD]at e;exact e
theorem Sl.new {cs:List Value} (h:dr w w' (.cells cs.toArray T (0,0))) (a:cs.length=n*sz) (b:n<=maxLen):Sl w' T sz (aa ⟨w.heap.size,0,ag⟩) n n cs:=
 ⟨a,b7 _,b,cs,h.ax,rfl,by simp[a],by simp[<-a]⟩
theorem Sl.M0 (h:Sl w T sz p n c cs) (k:Nat) (m:k<=n):Sl w T sz (fJ p c k sz) (n-k) (c-k) (cs.drop (k*sz)):=by
 obtain⟨f,q,r,g⟩:=h;refine⟨by rw[kz,f,Nat.sub_mul],by omega,by omega,?_⟩;unfold fJ
 cases p with
 | none=>
  obtain⟨rfl,rfl⟩:=g;have:(if 0=k then(ag:Option Addr)else Option.map (λ(x:Addr)=>x.add (k*sz)) ag)=ag:=by split<;>rfl
  rw[this]
  exact⟨by omega,by omega⟩
 | some a=>
  obtain⟨cells,d,hs,i,j⟩:=g;by_cases e:c=k
  ·rw[ar e];have:n=c:=by omega
   subst this;subst e;refine⟨cells,d,hs,?_,?_⟩
   ·simp;have:=i;omega
   ·simp[<-f]
  ·rw[af e];obtain⟨b,o,sp⟩:=a;simp only at hs d i j;subst hs;simp only[fX,add_lit];refine⟨cells,d,trivial,?_,?_⟩
   ·rw[Nat.sub_mul];have:k*sz<=c*sz:=fu _ (by omega);omega
   ·rw[<-j,List.drop_take,List.drop_drop,Nat.sub_mul]
theorem RR (p:Option Addr) (m sz:Nat):fJ p m 0 sz=p:=by
 unfold fJ;split
 ·rfl
 ·cases p with
  | none=>rfl
  | some a=>simp[bh]
theorem Sl.takeN (h:Sl w T sz p n c cs) (k:Nat) (e:k<=n):Sl w T sz p k c (cs.take (k*sz)):=by
 obtain⟨f,o,g,d⟩:=h;have b:k*sz<=n*sz:=fu _ e;refine⟨by rw[eh,f];omega,by omega,g,?_⟩
 cases p with
 | none=>obtain⟨rfl,rfl⟩:=d;simp;omega
 | some a=>
  obtain⟨cells,i,hs,j,m⟩:=d;refine⟨cells,i,hs,j,?_⟩;rw[<-m,List.take_take,nj b]
theorem NH {p:Option Addr} {m l sz:Nat}:∀i,bg (fJ p m l sz) i->bg p i:=by
 rintro i ⟨a,d,rfl⟩;unfold fJ at d;split at d
 ·exact⟨a,d,rfl⟩
 ·cases p with
  | none=>simp at d
  | some b=>
   simp only[fX,Option.some.injEq]at d;subst d;refine⟨b,rfl,?_⟩;unfold bh;split<;>rfl
end
structure dZ (P:Program) (t e:TypeId) (sz bytes:Nat) (z:List Value):Prop where
 under:P.underlying t=aa (.slice e)
 info:(P.info? e).map (λi=>(i.zero.map (·.cells.toList),i.size,i.bytes))=aa (aa z,sz,bytes)
 zs:z.length=sz
 pos:0<sz
theorem ajM (z:Array Value) (n:Nat):(vW z n).size=n*z.size:=by simp[vW]
theorem abB {P:Program} {t e:TypeId} {sz bytes:Nat} {z:List Value} (ht:dZ P t e sz bytes z) {w:World} {p:Option Addr} {n c:Nat} {cs:List Value} (h:Sl w e sz p n c cs)
  {q:Option Addr} {m d:Nat} {news:List Value} (hq:Cells w q news) (x:news.length=m*sz) (h1:∀u∈news,u.oneCell'=ah) (hb:(n+m)*bytes<=140737488355328) (hn:n+m<=140737488355328) (ty:TypeId) :
  ∃p' n' c' w',(bM #[t,t] ty #[.slice p n c,.slice q m d]).run P w=.ok (.slice p' n' c') w'/\n'=n+m/\Sl w' e sz p' (n+m) c' (cs++news)/\au (bg p) w w'/\
   (∀i,bg p' i->bg p i∨w.heap.size<=i):=by
 obtain⟨K,D,X,L⟩:=ht;obtain⟨i,hi,M⟩:=jZ.1 D;simp only[Prod.mk.injEq]at M;obtain⟨hz,Y,Z⟩:=M;obtain⟨zv,N,al⟩:=jZ.1 hz;subst Y;subst Z;have A:n+m<=maxLen:=by unfold maxLen;omega
 obtain⟨J,l2,l3,U⟩:=id h;have f:(cs++news).length=(n+m)*i.size:=by rw[cz,J,x,lz]
 by_cases hm:m=0
 ·
  subst hm;have E:news=[]:=mq (by simpa using x);subst E;refine⟨p,n,c,w,?_,rfl,by simpa using h,au.refl _ _,λi hi=>.inl hi⟩
  have hf:(td i.size 0 (.slice q 0 d)).run P w=.ok #[] w:=by
   cases q with
   | none=>simp[td]
   | some a=>simp[td,loadCells,loadCellsFrom]
  have F:n<=c:=l2
  cases p with
  | none=>
   obtain⟨rfl,rfl⟩:=U
   simp[bM,run_underlying K,sizeOf,typeInfo,hi,rP,hf]
  | some a=>simp[bM,run_underlying K,sizeOf,typeInfo,hi,rP,F,hf,storeCells]
 ·obtain⟨V,rfl⟩:∃a,q=aa a:=by
   have h0:0<news.length:=by rw[x];exact Nat.mul_pos (by omega) L
   obtain⟨a,g,_⟩:=hq 0 news[0] (by simp[h0]);exact⟨a,g⟩
  have G:∀j u,news[j]?=aa u->w.cell? (V.add j)=aa u:=by
   intro j u hj;obtain⟨a,g,hc⟩:=hq j u hj;obtain rfl:=Option.some.inj g;exact hc
  have grown:∀cap,n+m<=cap->cap<=maxLen->Sl (w.drew.alloc (.cells (cs.toArray++news.toArray++vW zv.cells (cap-(n+m))) e)) e i.size (aa ⟨w.heap.size,0,ag⟩) (n+m) cap (cs++news):=by
   intro cap O am;refine⟨f,O,am,cs++news++(vW zv.cells (cap-(n+m))).toList,?_,rfl,?_,?_⟩
   ·have e0:(cs++news++(vW zv.cells (cap-(n+m))).toList).toArray=cs.toArray++news.toArray++vW zv.cells (cap-(n+m)):=by simp
    unfold aL;rw[e0];exact Array.getElem?_push_size
   ·have:zv.cells.size=i.size:=by rw[<-X,<-al];simp
    simp only[cz,Array.length_toList,ajM,this,J,x,fv];rw[<-lz,<-lz];refine bG ?_;congr 1;omega
   ·simp only[List.drop_zero];rw[<-f,List.take_left]
  have B:∀o,au (bg p) w (w.drew.alloc o):=λo=>⟨by simp,rfl,rfl,rfl,λk hk _=>heap_alloc_old w.drew o k hk⟩;by_cases hr:n+m<=c
  ·
   cases p with
   | none=>obtain⟨rfl,rfl⟩:=U;omega
   | some a=>
    obtain⟨cells,H,Q,C,R⟩:=U;obtain⟨b,o,sp⟩:=a;simp only at Q H C R;subst Q;have ap:=run_firstCells_some (P:=P) w i.size m V m d news x G
    have r:o+n*i.size+0+news.length<=cells.toArray.size:=by
     rw[x];simp only[List.size_toArray];have:(n+m)*i.size<=c*i.size:=fu _ hr;rw[lz]at this;omega
    have S:=run_storeCells_at P b (o+n*i.size) e news 0 cells.toArray w H r h1;simp only[n5]at S;have hW:=EL (w:=w) (b:=b) (c:=cells.toArray) (T:=e) H (ba cells (o+n*i.size) news);refine⟨aa ⟨b,o,ag⟩,n+m,c,_,?_,rfl,?_,hW.ak ⟨_,rfl,rfl⟩,λi hi=>.inl hi⟩
    ·simp[bM,run_underlying K,sizeOf,typeInfo,hi,rP,hr,ap,Addr.add_lit,S,ba]
    ·refine⟨f,hr,l3,_,hW.ax,rfl,?_,?_⟩
     ·rw[xW (by simpa using r)];exact C
     ·have bb:o+n*i.size<=cells.length:=by
       have:n*i.size<=c*i.size:=fu _ l2;omega
      unfold ba;rw[iY,List.drop_append,List.drop_take];have e1:o-(cells.take (o+n*i.size)).length=0:=by rw[eh];omega
      rw[e1,List.drop_zero,show o+n*i.size-o=n*i.size by omega,R,List.take_append,J];rw[qB (by rw[J,lz];omega)];congr 1;rw[lz,Nat.add_sub_cancel_left,<-x,List.take_left]
  ·
   have hg:=grownCap_ge w (n+m) c e;have I:=grownCap_le_maxLen w (n+m) c e A
   cases p with
   | none=>
    obtain⟨rfl,rfl⟩:=U;have az:cs=[]:=mq (by simpa using J);subst az;have s:=run_append_nil (P:=P) w t ty e i zv K hi N V m d news x G (by omega) (by omega) (by simp only[fv]at hb;omega);simp only[fv]at hg I A;refine⟨_,_,_,_,s,by simp,?_,B _,λi hi=>?_⟩
    ·have:=grown (grownCap w m 0 e) (by omega) I;simpa using this
    ·obtain⟨a,g,rfl⟩:=hi;simp only[Option.some.injEq]at g;subst g
     exact .inr (b7 _)
   | some a=>
    have y:=h.cells
    have holds:∀j u,cs[j]?=aa u->w.cell? (a.add j)=aa u:=by
     intro j u hj;obtain⟨a',g,hc⟩:=y j u hj;obtain rfl:=Option.some.inj g;exact hc
    have s:=run_append_grow (P:=P) w t ty e i zv K hi N a n c cs J holds V m d news x G (by omega) (by omega) (growslice_fits (by omega) hb);refine⟨_,_,_,_,s,rfl,grown _ hg I,B _,λi hi=>?_⟩;obtain⟨a,g,rfl⟩:=hi;simp only[Option.some.injEq]at g;subst g;exact .inr (b7 _)
theorem xU {P:Program} {t e:TypeId} {sz bytes:Nat} {z:List Value} (b:dZ P t e sz bytes z) {w:World} {p:Option Addr} {n c:Nat} {cs:List Value} (h:Sl w e sz p n c cs)
  {q:Option Addr} {m d:Nat} {news:List Value} (f:Cells w q news) (g:news.length=m*sz) (j:∀u∈news,u.oneCell'=ah) (k:q=ag->d=0) (o:(n+m)*bytes<=140737488355328) (r:n+m<=140737488355328) (ty:TypeId) :
  ∃p' a c' w',(bM #[t,t] ty #[.slice p n c,.slice q m d]).run P w=.ok (.slice p' a c') w'/\a=n+m/\Sl w' e sz p' (n+m) c' (cs++news)/\au (bg p) w w'/\
   (∀i,bg p' i->bg p i∨w.heap.size<=i):=abB b h f g j o r ty
theorem aN {x:Int} (h : -9223372036854775808<=x/\x<=9223372036854775807):aT .i64 x=x:=by
 unfold aT;simp only[kF,ju,fc];split<;>simp_all<;>omega
theorem get_map {α:Type} {f:α->Value} {l:List α} {i:Nat} (h:i<l.length):(l.map f)[i]?=aa (f l[i]):=by simp[h]
theorem Cells.ck {w:World} {p:Option Addr} {α:Type} {f:α->Value} {l:List α} (h:Cells w p (l.map f)) {i:Nat} (hi:i<l.length):∃a,p=aa a/\w.cell? (a.add (i*1))=aa (f l[i]):=by
 rw[ez];exact h i _ (get_map hi)
theorem Cells.ak {w w':World} {p:Option Addr} {cs:List Value} (h:Cells w p cs) (k:∀a,p=aa a->w'.heap[a.block]?=w.heap[a.block]?):Cells w' p cs:=by
 intro j v d;obtain⟨a,b,e⟩:=h j v d;refine⟨a,b,?_⟩;rw[<-e];have f:(a.add j).block=a.block:=by unfold bh;split<;>rfl
 refine tf ?_;rw[f];exact k a b
theorem pz {w:World} {a:Addr} {v:Value} (h:w.cell? a=aa v):a.block<w.heap.size:=by
 unfold bf at h;split at h
 ·exact sy (by assumption)
 ·cases h
theorem ta (a:Addr) (j:Nat):(a.add j).block=a.block:=by unfold bh;split<;>rfl
theorem Cells.mI {F:Nat->Prop} {w w':World} {p:Option Addr} {cs:List Value} (h:Cells w p cs) (k:au F w w') (e:∀i,i<w.heap.size->¬F i):Cells w' p cs:=by
 intro j v f;obtain⟨a,g,b⟩:=h j v f;refine⟨a,g,?_⟩;have d:=pz b;rw[<-b];exact tf (k.ax _ d (e _ d))
theorem Cells.no {w w':World} {p:Option Addr} {cs:List Value} (h:Cells w p cs) (k:au no w w'):Cells w' p cs:=h.mI k (λ_ _=>id)
theorem xb {α:Type} {f:α->List Value} {sz:Nat} (a:∀x,(f x).length=sz):∀{l:List α} {i j:Nat} {v:Value} (hi:i<l.length),(f l[i])[j]?=aa v->(l.flatMap f)[i*sz+j]?=aa v
 | x::l,0,j,v,_,h=>by
  have b:j<(f x).length:=(dI.1 h).1;simp only[n4,Nat.zero_mul,fv];rw[js b]
  exact h
 | x::l,i+1,j,v,hi,h=>by
  simp only[n4];rw[kE (by rw[a,lz,Nat.one_mul];omega),a,lz,Nat.one_mul,show i*sz+sz+j-sz=i*sz+j by omega];exact xb a (by simpa using hi) h
theorem Cells.qN {w:World} {p:Option Addr} {α:Type} {f:α->List Value} {l:List α} {sz:Nat} (h:Cells w p (l.flatMap f)) (b:∀x,(f x).length=sz) (hs:0<sz) {i:Nat} (hi:i<l.length) :
  ∃a,p=aa a/\∀(j:Nat) v,(f l[i])[j]?=aa v->w.cell? ((a.add (i*sz)).add j)=aa v:=by
 obtain⟨e,d⟩:∃v,(f l[i])[0]?=aa v:=⟨(f l[i])[0]'(by rw[b];exact hs),by simp[b,hs]⟩;obtain⟨a,rfl,_⟩:=h _ e (xb b hi d);refine⟨a,rfl,λj v g=>?_⟩;obtain⟨o,k,m⟩:=h _ v (xb b hi g);obtain rfl:=Option.some.inj k;rw[dN];exact m
structure Loc (W w:World) (T:TypeId) (p:Option Addr) (c:Nat) (l:List Int):Prop where
 U:au no W w
 S:Sl w T 1 p l.length c (l.map (ay .i64))
 F:∀i,bg p i->W.heap.size<=i
section
variable {W w w':World} {T:TypeId} {p:Option Addr} {c:Nat} {l:List Int}
theorem Loc.nil (h:au no W w) (T:TypeId):Loc W w T ag 0 []:=⟨h,Sl.nil _ _ _,λi ⟨a,b,_⟩=>by cases b⟩
theorem Loc.ak (h:Loc W w T p c l) (k:au no w w'):Loc W w' T p c l:=⟨h.U.trans k (λ_ _ h=>h),h.S.ak k (λ_ _ h=>h),h.F⟩
theorem J5 {P:Program} {t e:TypeId} {z:List Value} (k:dZ P t e 1 8 z) {w w1:World} {p:Option Addr} {c:Nat} {l:List Int} {x:Int} (h:Sl w e 1 p l.length c (l.map (ay .i64))) (y:l.length<=1048576)
  {T:TypeId} (b:dr w w1 (.cells (dB [ay .i64 x]) T (0,0))) (ty:TypeId) :
  ∃p' f c' a,(bM #[t,t] ty #[.slice p l.length c,.slice (aa ⟨w.heap.size,0,ag⟩) 1 1]).run P w1=.ok (.slice p' f c') a/\f=(l++[x]).length/\
   Sl a e 1 p' (l++[x]).length c' ((l++[x]).map (ay .i64))/\au (bg p) w a/\(∀i,bg p' i->bg p i∨w.heap.size<=i):=by
 have o:Sl w1 e 1 p l.length c (l.map (ay .i64)):=h.ak (b.ak no) (λ_ _ g=>g);have j:Sl w1 T 1 (aa ⟨w.heap.size,0,ag⟩) 1 1 [.int .i64 x]:=Sl.new b (by simp) (by unfold maxLen;omega);obtain⟨p',f,c',a,q,g,r,s,u⟩:=xU k o j.cells (m:=1) (d:=1) (by simp) (by simp[Value.oneCell']) (by simp) (by omega) (by omega) ty;refine⟨p',f,c',a,q,by simp[g],by simpa using r,(b.ak _).trans s (λi _ hi=>hi),λi hi=>(u i hi).imp id (λh=>?_)⟩;rw[b.size]at h;omega
theorem Loc.push {P:Program} {t:TypeId} {z:List Value} (h:Loc W w T p c l) (b:dZ P t T 1 8 z) (d:l.length<=1048576) {x:Int} {w1:World} {e:TypeId} (f:dr w w1 (.cells (dB [ay .i64 x]) e (0,0))) (ty:TypeId) :
  ∃p' c' a,(bM #[t,t] ty #[.slice p l.length c,.slice (aa ⟨w.heap.size,0,ag⟩) 1 1]).run P w1=.ok (.slice p' (l++[x]).length c') a/\Loc W a T p' c' (l++[x]):=by
 obtain⟨p',s,c',a,g,j,m,o,q⟩:=J5 b h.S d f ty;subst j;refine⟨p',c',a,g,h.U.trans o (λi hi r=>absurd (h.F i r) (by omega)),m,λi hi=>?_⟩;rcases q i hi with k|k
 ·exact h.F i k
 ·exact aX h.U.size k
end
abbrev BV:=BitVec 64
def mi (m:BV):Int:=(m.toNat:Int)
def bt (c:Int):BV:=if 0<=c/\c<64 then BitVec.twoPow 64 c.toNat else 0
def hs (m:BV) (c:Int):Bool:=decide (0<=c/\c<64)&&m.getLsbD c.toNat
def wi (m:BV) (c:Int):BV:=m||| bt c
def ls (m:BV) (c:Int):BV:=m&&& ~~~ bt c
theorem Y7 (m:BV):0<=mi m:=by unfold mi;omega
theorem Y6 (m:BV):mi m<18446744073709551616:=by unfold mi;have:=m.isLt;omega
theorem Qk {a b:BV}:mi a=mi b↔a=b:=by
 unfold mi;rw[Int.ofNat_inj];exact BitVec.toNat_inj
theorem Y5 (a b:BV):(mi a==mi b)=(a==b):=by
 rw[gB];simp[Qk]
theorem Y8:mi 0=0:=rfl
theorem kW (a:BV):(mi a==0)=(a==0):=by rw[<-Y8,Y5]
theorem vh (a:BV):(mi a !=0) = !(a==0):=by rw[bne,kW]
theorem of_wf {n:Int} (h:(Lit.int .u64 n).wf=ah):∃m:BV,n=mi m:=by
 have:0<=n/\n<=18446744073709551615:=by simpa [Lit.wf,IntKind.min,oa,ju,kF]using h
 refine⟨gw 64 n,?_⟩;unfold mi;rw[BitVec.toNat_ofInt];omega
theorem AN {x:Int} (h:0<=x/\x<=18446744073709551615):aT .u64 x=x:=by
 have e:(2 ^ ef.bits:Int)=18446744073709551616:=by decide
 unfold aT;simp only[e,ju,iI];simp;omega
theorem SI (x:Int):aT .u64 x=x%18446744073709551616:=by
 have e:(2 ^ ef.bits:Int)=18446744073709551616:=by decide
 unfold aT;simp only[e,ju,iI];simp
theorem tM (m:BV):gw 64 (mi m)=m:=by
 unfold mi;apply wg;rw[BitVec.toNat_ofInt];have:=m.isLt;omega
theorem EG (m:BV):aT .u64 (m.toNat:Int)=mi m:=by
 rw[AN (by have:=m.isLt;omega)];rfl
theorem wy (a b:BV):aH .and .u64 (mi a) (mi b)=mi (a&&& b):=by
 show aT .u64 ((gw 64 (mi a)&&& gw 64 (mi b)).toNat:Int)=_;rw[tM,tM,EG]
theorem Kj (a b:BV):aH .or .u64 (mi a) (mi b)=mi (a||| b):=by
 show aT .u64 ((gw 64 (mi a)||| gw 64 (mi b)).toNat:Int)=_;rw[tM,tM,EG]
theorem yU (a b:BV):aH .andNot .u64 (mi a) (mi b)=mi (a&&& ~~~ b):=by
 show aT .u64 ((gw 64 (mi a)&&& ~~~ gw 64 (mi b)).toNat:Int)=_;rw[tM,tM,EG]
theorem TP (a b:BV):aH .xor .u64 (mi a) (mi b)=mi (a ^^^ b):=by
 show aT .u64 ((gw 64 (mi a) ^^^ gw 64 (mi b)).toNat:Int)=_;rw[tM,tM,EG]
theorem Fj {c:Int} (h:0<=c/\c<64):bt c=BitVec.twoPow 64 c.toNat:=ar h
theorem Fk {c:Int} (h:¬(0<=c/\c<64)):bt c=0:=af h
theorem Qj {c:Int} (h:0<=c/\c<64):mi (bt c)=2 ^ c.toNat:=by
 have a:(2:Nat) ^ c.toNat<2 ^ 64:=Nat.pow_lt_pow_right (by omega) (by omega);rw[Fj h,mi,BitVec.toNat_twoPow,jt a];simp
theorem IM {c:Int} (h:0<=c/\c<64):fg .u64 1 c=mi (bt c):=by
 have a:(2:Nat) ^ c.toNat<2 ^ 64:=Nat.pow_lt_pow_right (by omega) (by omega);rw[Qj h];unfold fg;have:min c.toNat ef.bits=c.toNat:=nj (by show c.toNat<=64;omega);rw[this,Int.one_mul,AN];have e:((2:Int) ^ c.toNat)=((2 ^ c.toNat:Nat):Int):=by simp
 rw[e];generalize 2 ^ c.toNat=x at a;omega
theorem WJ {c:Int} (h:0<=c/\c<64) (i:Nat):(bt c).getLsbD i=decide (i=c.toNat):=by
 rw[Fj h,BitVec.getLsbD_twoPow];by_cases hi:i=c.toNat
 ·subst hi;simp;omega
 ·simp[hi,eq_comm]
theorem qU {a b:BV} (h:∀c:Int,0<=c->c<64->hs a c=hs b c):a=b:=by
 apply BitVec.eq_of_getLsbD_eq;intro i hi;have:=h i (by omega) (by omega);have hd:decide (0<=(i:Int)/\(i:Int)<64)=ah:=decide_eq_true ⟨by omega,by omega⟩;unfold hs at this;rw[hd]at this;simpa using this
theorem lL {m:BV} {c:Int} (h:hs m c=ah):0<=c/\c<64:=by
 unfold hs at h;rw[br,decide_eq_true_iff]at h;exact h.1
theorem lM (c:Int):hs 0 c=ae:=by unfold hs;simp
theorem u5 (a b:BV) (c:Int):hs (a&&& b) c=(hs a c&&hs b c):=by
 unfold hs;rw[BitVec.getLsbD_and];cases decide (0<=c/\c<64)<;>simp
theorem CX (a b:BV) (c:Int):hs (a||| b) c=(hs a c||hs b c):=by
 unfold hs;rw[BitVec.getLsbD_or];cases decide (0<=c/\c<64)<;>simp
theorem zC (a b:BV) (c:Int):hs (a&&& ~~~ b) c=(hs a c&&!hs b c):=by
 unfold hs;rw[BitVec.getLsbD_and,BitVec.getLsbD_not];by_cases h:0<=c/\c<64
 ·have:c.toNat<64:=by omega
  simp[h,this]
 ·simp[h]
theorem u7 (c d:Int):hs (bt c) d=(decide (0<=c/\c<64)&&decide (d=c)):=by
 by_cases h:0<=c/\c<64
 ·unfold hs;rw[WJ h,gB];simp only[br,decide_eq_true_iff];omega
 ·rw[Fk h,lM];simp[h]
theorem qX (m:BV) (c d:Int):hs (wi m c) d=(hs m d||(decide (0<=c/\c<64)&&decide (d=c))):=by rw[wi,CX,u7]
theorem jy (m:BV) (c d:Int):hs (ls m c) d=(hs m d&&!(decide (d=c))):=by
 rw[ls,zC,u7];by_cases hd:d=c
 ·subst hd;by_cases h:0<=d/\d<64
  ·simp[h]
  ·have:hs m d=ae:=by unfold hs;simp[h]
   simp[this]
 ·simp[hd]
theorem G8 {m:BV} (h:∀c,hs m c=ae):m=0:=qU λc _ _=>by rw[h,lM]
theorem J3 (m:BV) (c:Int):(!((m&&& bt c)==0))=hs m c:=by
 cases a:hs m c with
 | true=>
  have:m&&& bt c≠0:=λe=>by
   have b:hs (m&&& bt c) c=ah:=by rw[u5,u7,a];simp[lL a]
   rw[e,lM]at b;cases b
  rw[beq_false_of_ne this]
  rfl
 | false=>
  have:m&&& bt c=0:=G8 λd=>by
   rw[u5,u7];by_cases hd:d=c
   ·subst hd;simp[a]
   ·simp[hd]
  rw[this];rfl
def sE (l:List Int):BV:=l.foldl wi 0
theorem Xk (l:List Int) (m:BV) (c:Int):hs (l.foldl wi m) c=(hs m c||(decide (0<=c/\c<64)&&decide (c∈l))):=by
 induction l generalizing m with
 | nil=>simp
 | cons x l a=>
  rw[nY,a,qX];by_cases h:c=x
  ·subst h;cases hs m c<;>cases decide (0<=c/\c<64)<;>simp
  ·simp[h]
theorem Xl (l:List Int) (c:Int):hs (sE l) c=(decide (0<=c/\c<64)&&decide (c∈l)):=by rw[sE,Xk,lM];simp
def bW (p:Int->Bool) (n:Nat):List Int:=((b8 n).map (λ(i:Nat)=>(i:Int))).filter p
theorem vw (p:Int->Bool) (n:Nat):bW p (n+1)=if p n then bW p n++[(n:Int)]else bW p n:=by
 unfold bW;rw[ob,fj,rU];cases h:p n<;>simp[h]
theorem pV {p:Int->Bool} {n:Nat} {c:Int}:c∈bW p n↔0<=c/\c<n/\p c=ah:=by
 unfold bW;rw[gC,cv];constructor
 ·rintro⟨⟨a,d,rfl⟩,b⟩;rw[dh]at d;exact⟨by omega,by omega,b⟩
 ·rintro⟨h1,e,b⟩;exact⟨⟨c.toNat,dh.2 (by omega),by omega⟩,b⟩
theorem ud (p:Int->Bool) (n:Nat):(bW p n).length<=n:=by
 unfold bW;exact aX (jW ..) (by simp)
theorem Xm {m:BV} {c:Int} (h:¬(0<=c/\c<64)):hs m c=ae:=by unfold hs;simp[h]
def bp (n:Int):BV:=BitVec.ofNat 64 (2 ^ (min n.toNat 64)-1)
theorem tE (n c:Int):hs (bp n) c=(decide (0<=c/\c<64)&&decide (c<n)):=by
 unfold hs bp;rw[BitVec.getLsbD_ofNat,Nat.testBit_two_pow_sub_one];by_cases h:0<=c/\c<64
 ·have:c.toNat<64:=by omega
  simp only[h,this,and_self,decide_true,fc];rw[gB];simp only[decide_eq_true_iff];omega
 ·simp[h]
theorem HZ (n:Int):mi (bp n)=2 ^ (min n.toNat 64)-1:=by
 have a:0<(2:Nat) ^ (min n.toNat 64):=Nat.pow_pos (by omega);have b:(2:Nat) ^ (min n.toNat 64)<=2 ^ 64:=Nat.pow_le_pow_right (by omega) (by omega);have e:((2:Int) ^ (min n.toNat 64))=((2 ^ (min n.toNat 64):Nat):Int):=by simp
 unfold mi bp;rw[nf,e];generalize (2:Nat) ^ (min n.toNat 64)=x at *;rw[jt (by omega)];omega
def lU (n:Int) (m:BV):Bool:=!(m==0)&&((m&&& ~~~ bp n)==0)
def du (x:Int×Int×Int):List Value:=[.int .i64 x.1,.int .i64 x.2.1,.int .i64 x.2.2]
theorem qf (x:Int×Int×Int):(du x).length=3:=rfl
def recIIIUI (x:Int×Int×Int×BV×Int):List Value:=[.int .i64 x.1,.int .i64 x.2.1,.int .i64 x.2.2.1,.int .u64 (mi x.2.2.2.1),.int .i64 x.2.2.2.2]
def okIIIUI (x:Int×Int×Int×BV×Int):Prop:=(Lit.int .i64 x.1).wf=ah/\(Lit.int .i64 x.2.1).wf=ah/\(Lit.int .i64 x.2.2.1).wf=ah/\(Lit.int .i64 x.2.2.2.2).wf=ah
theorem recIIIUI_len (x:Int×Int×Int×BV×Int):(recIIIUI x).length=5:=rfl
theorem G3:dZ Tryz.prog 36 3 1 8 [I 0]:=⟨by kernel_rfl,by kernel_rfl,rfl,by omega⟩
theorem Dr (c:Int) (w:World):Cx 60 #[I c] w λe w'=>e=Z (.int .u64 (mi (bt c)))/\w'=w:=by
 refine u60 ?_;refine⟨λa=>⟨λb=>⟨?_,rfl⟩,λb=>⟨by simpa using a,?_,rfl⟩⟩,λa=>⟨?_,rfl⟩⟩
 ·rw[Fk (by simp at b;omega)];rfl
 ·rw[IM (by simp at a b;omega)]
 ·rw[Fk (by simp at a;omega)];rfl
theorem iN (m:BV) (c:Int) (w:World):Cx 23 #[.int .u64 (mi m),I c] w λe w'=>e=Z (.bool (hs m c))/\w'=w:=by
 refine u23 ?_;refine⟨(Dr c w).mono ?_⟩;rintro e w' ⟨rfl,rfl⟩;exact⟨_,rfl,by rw[wy,vh,J3],rfl⟩
theorem YX (m o:BV) (w:World):Cx 353 #[.int .u64 (mi m),.int .u64 (mi o)] w λe w'=>e=Z (.int .u64 (mi (m&&& ~~~ o)))/\w'=w:=by
 refine ais ?_;rw[yU];exact⟨rfl,rfl⟩
theorem Dp (m o:BV) (w:World):Cx 318 #[.int .u64 (mi m),.int .u64 (mi o)] w λe w'=>e=Z (.int .u64 (mi (m&&& o)))/\w'=w:=by
 refine ah0 ?_;rw[wy];exact⟨rfl,rfl⟩
theorem Dq (m:BV) (c:Int) (w:World):Cx 158 #[.int .u64 (mi m),I c] w λe w'=>e=Z (.int .u64 (mi (ls m c)))/\w'=w:=by
 refine afE ?_;refine⟨(Dr c w).mono ?_⟩;rintro e w' ⟨rfl,rfl⟩;exact⟨_,rfl,by rw[yU,ls],rfl⟩
theorem WB {l:List Int} {i:Nat} (h:i<l.length) (m:BV):(l.take (i+1)).foldl wi m=wi ((l.take i).foldl wi m) l[i]:=by
 rw[ey h,lx];rfl
theorem pT (m:BV) {w:World} {p:Option Addr} {l:List Int} {c:Nat} (h:Cells w p (l.map (ay .i64))) (g:l.length<=140737488355328) :
  Cx 179 #[.int .u64 (mi m),.slice p l.length c] w λe w'=>e=Z (.int .u64 (mi (l.foldl wi m)))/\w'=w:=by
 refine afT ?_;refine⟨bJ bA (M:=A0) (σ:=Nat) (λi=>Gj (mi ((l.take i).foldl wi m)) p l.length c l.length i) (λi w'=>i<=l.length/\w'=w) (λi _=>l.length-i) 0 ⟨rfl,rfl,rfl,rfl,trivial⟩ ⟨by omega,rfl⟩ ?_⟩;rintro i w' ⟨j,rfl⟩;rw[acO];refine⟨λb=>?_,λd=>⟨?_,rfl⟩⟩
 ·have hi:i<l.length:=by simpa using b
  obtain⟨a,rfl,f⟩:=h.ck hi;refine⟨⟨by omega,by omega⟩,a,rfl,l[i],by simpa using f,⟨(Dr _ w').mono ?_⟩⟩;rintro e w' ⟨rfl,rfl⟩;exact⟨_,rfl,i+1,⟨by rw[WB hi,Kj,wi];rfl,rfl,rfl,by rw[aN (by omega)];rfl,trivial⟩,⟨by omega,rfl⟩,by omega⟩
 ·have:i=l.length:=by simp at d;omega
  subst this;rw[dA]
theorem tI (n:Int) (w:World):Cx 11 #[I n] w λe w'=>e=Z (.int .u64 (mi (bp n)))/\w'=w:=by
 refine u11 ?_;refine⟨λa=>⟨?_,rfl⟩,λa=>⟨λb=>⟨?_,rfl⟩,λb=>⟨(Dr n w).mono ?_⟩⟩⟩
 ·have a:n<=0:=by simpa using a
  rw[HZ,show min n.toNat 64=0 by omega];rfl
 ·have b:64<=n:=by simpa using b
  rw[HZ,show min n.toNat 64=64 by omega];rfl
 ·have a:¬n<=0:=by simpa using a
  have b:¬64<=n:=by simpa using b
  rintro e w' ⟨rfl,rfl⟩;refine⟨_,rfl,?_,rfl⟩;have:=Y7 (bp n);have:=Y6 (bp n);have c:mi (bt n)-1=mi (bp n):=by rw[Qj (by omega),HZ,show min n.toNat 64=n.toNat by omega]
  rw[c,AN (by omega)]
theorem zS (m o:BV) (w:World):Cx 277 #[.int .u64 (mi m),.int .u64 (mi o)] w λe w'=>e=Z (.bool ((m&&& ~~~ o)==0))/\w'=w:=by
 refine ahn ?_;rw[yU,kW];exact⟨rfl,rfl⟩
abbrev Fp:=Nat->Prop
abbrev Ob (σ:Type):=World->Fp->σ->Prop
class Frame {σ:Type} (A:Ob σ):Prop where
 ak:∀{w w':World} {F G:Fp} {s:σ},A w F s->au G w w'->(∀i,F i->¬G i)->A w' F s
 lt:∀{w:World} {F:Fp} {s:σ},A w F s->∀i,F i->i<w.heap.size
def ai {σ:Type} (A:Ob σ) (w w':World) (F:Fp) (s':σ):Prop:=∃a,A w' a s'/\au F w w'/\∀i,a i->F i∨w.heap.size<=i
def bY {σ:Type} (W w:World) (A:Ob σ) (s:σ):Prop:=∃F,A w F s/\au no W w/\∀i,F i->W.heap.size<=i
def aF {σ τ:Type} (A:Ob σ) (B:Ob τ):Ob (σ×τ):=λw F x=>∃F1 F2,A w F1 x.1/\B w F2 x.2/\(∀i,F i↔F1 i∨F2 i)/\∀i,F1 i->¬F2 i
instance Frame.star {σ τ:Type} {A:Ob σ} {B:Ob τ} [fa:Frame A] [e:Frame B]:Frame (aF A B) where
 ak:=by
  rintro w w' F G s ⟨F1,F2,c,d,a,f⟩ k g;exact⟨F1,F2,fa.ak c k (λi hi=>g i ((a i).2 (.inl hi))),e.ak d k (λi hi=>g i ((a i).2 (.inr hi))),a,f⟩
 lt:=by
  rintro w F s ⟨F1,F2,c,d,a,f⟩ i hi;rcases(a i).1 hi with hi|hi
  ·exact fa.lt c i hi
  ·exact e.lt d i hi
section
variable {σ τ:Type} {A:Ob σ} {B:Ob τ} {W w w':World} {F:Fp} {s s':σ} {t:τ}
theorem ai.same (h:A w F s):ai A w w F s:=⟨F,h,au.refl _ _,λ_ hi=>.inl hi⟩
theorem ai.quiet [fa:Frame A] (h:A w F s) (k:au no w w'):ai A w w' F s:=⟨F,fa.ak h k (λ_ _ h=>h),k.mono (λ_ _ h=>h.elim),λ_ hi=>.inl hi⟩
theorem aF.left [d:Frame B] {x:σ×τ} (h:aF A B w F x):∃F1,A w F1 x.1/\∀w' s',ai A w w' F1 s'->ai (aF A B) w w' F (s',x.2):=by
 obtain⟨F1,F2,k,e,c,f⟩:=h;refine⟨F1,k,?_⟩;rintro w' s' ⟨g,l,k2,j⟩;refine⟨λi=>g i∨F2 i,⟨g,F2,l,d.ak e k2 (λi hi a=>f i a hi),λ_=>bB,λi hi a=>?_⟩,k2.mono (λi _ hi=>(c i).2 (.inl hi)),λi hi=>?_⟩
 ·rcases j i hi with h|h
  ·exact f i h a
  ·have:=d.lt e i a;omega
 ·rcases hi with hi|hi
  ·exact(j i hi).imp (λh=>(c i).2 (.inl h)) id
  ·exact .inl ((c i).2 (.inr hi))
theorem aF.swap {x:σ×τ} (h:aF A B w F x):aF B A w F (x.2,x.1):=by
 obtain⟨F1,F2,a,c,d,e⟩:=h;exact⟨F2,F1,c,a,λi=>(d i).trans Or.comm,λi hi f=>e i f hi⟩
theorem ai.swap {x:σ×τ} (h:ai (aF A B) w w' F x):ai (aF B A) w w' F (x.2,x.1):=by
 obtain⟨a,c,d⟩:=h;exact⟨a,c.swap,d⟩
theorem aF.right [fa:Frame A] {x:σ×τ} (h:aF A B w F x):∃F2,B w F2 x.2/\∀w' t',ai B w w' F2 t'->ai (aF A B) w w' F (x.1,t'):=by
 obtain⟨F2,a,c⟩:=h.swap.left;exact⟨F2,a,λw' t' k=>(c w' t' k).swap⟩
theorem bY.cP (h:bY W w A s):∃F,A w F s/\∀w' s',ai A w w' F s'->bY W w' A s':=by
 obtain⟨F,d,a,c⟩:=h;refine⟨F,d,?_⟩;rintro w' s' ⟨e,f,k2,g⟩;refine⟨e,f,a.trans k2 (λi hi j=>absurd (c i j) (by omega)),λi hi=>?_⟩;rcases g i hi with h|h
 ·exact c i h
 ·exact aX a.size h
theorem bY.ak [fa:Frame A] (h:bY W w A s) (k:au no w w'):bY W w' A s:=by
 obtain⟨F,a,c⟩:=h.cP;exact c _ _ (ai.quiet a k)
theorem bY.left [e:Frame B] {x:σ×τ} (h:bY W w (aF A B) x):∃F1,A w F1 x.1/\∀w' s',ai A w w' F1 s'->bY W w' (aF A B) (s',x.2):=by
 obtain⟨F,a,c⟩:=h.cP;obtain⟨F1,d,k2⟩:=a.left;exact⟨F1,d,λw' s' k=>c _ _ (k2 w' s' k)⟩
theorem bY.right [fa:Frame A] {x:σ×τ} (h:bY W w (aF A B) x):∃F2,B w F2 x.2/\∀w' t',ai B w w' F2 t'->bY W w' (aF A B) (x.1,t'):=by
 obtain⟨F,a,c⟩:=h.cP;obtain⟨F1,d,k2⟩:=a.right;exact⟨F1,d,λw' s' k=>c _ _ (k2 w' s' k)⟩
section
variable {F0:Fp}
theorem ai.cP (h:ai A W w F0 s):∃F,A w F s/\∀w' s',ai A w w' F s'->ai A W w' F0 s':=by
 obtain⟨F,d,a,c⟩:=h;refine⟨F,d,?_⟩;rintro w' s' ⟨e,f,k2,g⟩;refine⟨e,f,a.trans k2 (λi hi j=>(c i j).elim id (λh=>absurd h (by omega))),λi hi=>?_⟩;rcases g i hi with h|h
 ·exact c i h
 ·exact .inr (aX a.size h)
theorem ai.ak [fa:Frame A] (h:ai A W w F0 s) (k:au no w w'):ai A W w' F0 s:=by
 obtain⟨F,a,c⟩:=h.cP;exact c _ _ (ai.quiet a k)
theorem ai.left [e:Frame B] {x:σ×τ} (h:ai (aF A B) W w F0 x):∃F1,A w F1 x.1/\∀w' s',ai A w w' F1 s'->ai (aF A B) W w' F0 (s',x.2):=by
 obtain⟨F,a,c⟩:=h.cP;obtain⟨F1,d,k2⟩:=a.left;exact⟨F1,d,λw' s' k=>c _ _ (k2 w' s' k)⟩
theorem ai.right [fa:Frame A] {x:σ×τ} (h:ai (aF A B) W w F0 x):∃F2,B w F2 x.2/\∀w' t',ai B w w' F2 t'->ai (aF A B) W w' F0 (x.1,t'):=by
 obtain⟨F,a,c⟩:=h.cP;obtain⟨F1,d,k2⟩:=a.right;exact⟨F1,d,λw' s' k=>c _ _ (k2 w' s' k)⟩
theorem ai.ll {υ:Type} {C:Ob υ} [Frame B] [Frame C] {x:(σ×τ)×υ} (h:ai (aF (aF A B) C) W w F0 x) [Frame A]:∃F1,A w F1 x.1.1/\∀w' s',ai A w w' F1 s'->ai (aF (aF A B) C) W w' F0 ((s',x.1.2),x.2):=by
 obtain⟨F,a,c⟩:=h.left;obtain⟨F1,d,k2⟩:=a.left;exact⟨F1,d,λw' s' k=>c _ _ (k2 w' s' k)⟩
theorem ai.lr {υ:Type} {C:Ob υ} [Frame A] [Frame B] [Frame C] {x:(σ×τ)×υ} (h:ai (aF (aF A B) C) W w F0 x):∃F1,B w F1 x.1.2/\∀w' t',ai B w w' F1 t'->ai (aF (aF A B) C) W w' F0 ((x.1.1,t'),x.2):=by
 obtain⟨F,a,c⟩:=h.left;obtain⟨F1,d,k2⟩:=a.right;exact⟨F1,d,λw' s' k=>c _ _ (k2 w' s' k)⟩
theorem ai.drop {x:σ×τ} (h:ai (aF A B) W w F0 x):ai A W w F0 x.1:=by
 obtain⟨F,⟨F1,F2,a,e,c,f⟩,d,k2⟩:=h;exact⟨F1,a,d,λi hi=>k2 i ((c i).2 (.inl hi))⟩
theorem ai.add [fa:Frame A] (h:ai A W w F0 s) (k:au no w w') {G:Fp} (hB:B w' G t) (a:∀i,G i->w.heap.size<=i):ai (aF A B) W w' F0 (s,t):=by
 obtain⟨F,c,d,e⟩:=h;refine⟨λi=>F i∨G i,⟨F,G,fa.ak c k (λ_ _ h=>h),hB,λ_=>bB,λi hi f=>?_⟩,d.trans k (λ_ _ h=>h.elim),λi hi=>?_⟩
 ·have:=fa.lt c i hi;have:=a i f;omega
 ·rcases hi with hi|hi
  ·exact e i hi
  ·exact .inr (aX d.size (a i hi))
end
theorem bY.new (h:au no W w) (k:au no w w') {G:Fp} (hB:B w' G t) (a:∀i,G i->w.heap.size<=i):bY W w' B t:=
 ⟨G,hB,h.trans k (λ_ _ h=>h),λi hi=>aX h.size (a i hi)⟩
theorem bY.add [fa:Frame A] (h:bY W w A s) (k:au no w w') {G:Fp} (hB:B w' G t) (a:∀i,G i->w.heap.size<=i):bY W w' (aF A B) (s,t):=by
 obtain⟨F,c,d,e⟩:=h;refine⟨λi=>F i∨G i,⟨F,G,fa.ak c k (λ_ _ h=>h),hB,λ_=>bB,λi hi f=>?_⟩,d.trans k (λ_ _ h=>h),λi hi=>?_⟩
 ·have:=fa.lt c i hi;have:=a i f;omega
 ·rcases hi with hi|hi
  ·exact e i hi
  ·exact aX d.size (a i hi)
end
def Rw {σ:Type} (b:Nat) (T:TypeId) (enc:σ->List Value):Ob σ:=λw F s=>(∀i,F i↔i=b)/\aL w b (enc s) T
instance Frame.rw {σ:Type} (b:Nat) (T:TypeId) (enc:σ->List Value):Frame (Rw b T enc) where
 ak:=λ⟨h1,a⟩ k c=>⟨h1,a.ak k (c _ ((h1 _).2 rfl))⟩
 lt:=λ⟨h1,a⟩ i hi=>(h1 i).1 hi ▸ a.lt
section
variable {σ:Type} {b:Nat} {T:TypeId} {enc:σ->List Value} {w w':World} {F:Fp} {s s':σ}
theorem Rw.ax (h:Rw b T enc w F s):aL w b (enc s) T:=h.2
theorem Rw.new {c:List Value} (h:dr w w' (.cells c.toArray T (0,0))) (a:enc s=c):Rw w.heap.size T enc w' (λi=>i=w.heap.size) s:=⟨λ_=>bB,a ▸ h.aK⟩
theorem Rw.fN (h:Rw b T enc w F s) (k:au (λi=>i=b) w w') (a:aL w' b (enc s') T):ai (Rw b T enc) w w' F s':=
 ⟨F,⟨h.1,a⟩,k.mono (λi _ hi=>(h.1 i).2 hi),λ_ hi=>.inl hi⟩
theorem lq.U {w w':World} {b:Nat} {c:List Value} {T:TypeId} (h:lq w w' b c T):au (λi=>i=b) w w':=h.ak rfl
theorem au.and {F:Fp} {w w1 a:World} (h:au F w w1) (k:au F w1 a):au F w a:=h.trans k (λ_ _ h=>h)
end
def Ls (T:TypeId):Ob (Option Addr×Nat×List Int):=λw F x=>(∀i,F i↔bg x.1 i)/\Sl w T 1 x.1 x.2.2.length x.2.1 (x.2.2.map (ay .i64))
instance Frame.ls (T:TypeId):Frame (Ls T) where
 ak:=λ⟨h1,a⟩ k c=>⟨h1,a.ak k (λi hi=>c i ((h1 i).2 hi))⟩
 lt:=λ⟨h1,a⟩ i hi=>a.lt i ((h1 i).1 hi)
theorem Ls.nil (w:World) (T:TypeId):Ls T w (λ_=>False) (ag,0,[]):=⟨λi=>⟨λh=>h.elim,λ⟨a,c,_⟩=>by cases c⟩,Sl.nil _ _ _⟩
theorem Ls.push {P:Program} {t T d:TypeId} {z:List Value} (e:dZ P t T 1 8 z) {w w1:World} {F:Fp} {p:Option Addr} {c:Nat} {l:List Int} {x:Int} (h:Ls T w F (p,c,l)) (f:l.length<=1048576)
  (g:dr w w1 (.cells (dB [ay .i64 x]) d (0,0))) (ty:TypeId) :
  ∃p' c' a,(bM #[t,t] ty #[.slice p l.length c,.slice (aa ⟨w.heap.size,0,ag⟩) 1 1]).run P w1=.ok (.slice p' (l++[x]).length c') a/\ai (Ls T) w a F (p',c',l++[x]):=by
 obtain⟨p',r,c',a,j,m,n,o,q⟩:=J5 e h.2 f g ty;subst m;exact⟨p',c',a,j,bg p',⟨λ_=>bB,n⟩,o.mono (λi _ hi=>(h.1 i).2 hi),λi hi=>(q i hi).imp (λk=>(h.1 i).2 k) id⟩
theorem Sl.wr {w:World} {T:TypeId} {sz n c:Nat} {a:Addr} {cs vs:List Value} {o:Nat} (h:Sl w T sz (aa a) n c cs) (x:o+vs.length<=n*sz) {K:World->Prop}
  (p:∀w',Sl w' T sz (aa a) n c (ba cs o vs)->au (bg (aa a)) w w'->K w'):Wr w (a.add o) vs K:=by
 obtain⟨g,i,q,cells,k,e,d,f⟩:=h;obtain⟨b,off,sp⟩:=a;simp only at e k d f;subst e;have r:n*sz<=c*sz:=fu _ i;rw[add_lit];refine⟨⟨cells,T,k,rfl,by show off+o+vs.length<=cells.length;omega,λw' l=>p w' ?_ (l.ak ⟨_,rfl,rfl⟩)⟩⟩;have u:(ba cells (off+o) vs).length=cells.length:=xW (by omega);refine⟨by rw[xW (by omega),g],i,q,_,l.ax,rfl,by rw[u];exact d,?_⟩;subst f;have m:((cells.drop off).take (n*sz)).length=n*sz:=g;apply cT;intro j;unfold ba;simp only[gV,gD,ng,cz,eh,kz]
 grind
def Hd {σ:Type} (b:Nat) (T E:TypeId) (sz:Nat) (enc:σ->Option Addr->Nat->List Value) (len:σ->Nat) (cont:σ->List Value):Ob (σ×Option Addr×Nat):=λw F x=>
 aL w b (enc x.1 x.2.1 x.2.2) T/\Sl w E sz x.2.1 (len x.1) x.2.2 (cont x.1)/\¬bg x.2.1 b/\∀i,F i↔i=b∨bg x.2.1 i
instance Frame.hd {σ:Type} (b:Nat) (T E:TypeId) (sz:Nat) (enc:σ->Option Addr->Nat->List Value) (len:σ->Nat) (cont:σ->List Value):Frame (Hd b T E sz enc len cont) where
 ak:=λ⟨h1,c,d,a⟩ k e=>⟨h1.ak k (e _ ((a _).2 (.inl rfl))),c.ak k (λi hi=>e i ((a i).2 (.inr hi))),d,a⟩
 lt:=λ⟨h1,c,d,a⟩ i hi=>by
  rcases(a i).1 hi with h|h
  ·exact h ▸ h1.lt
  ·exact c.lt i h
section
variable {σ:Type} {b:Nat} {T E:TypeId} {sz:Nat} {enc:σ->Option Addr->Nat->List Value} {len:σ->Nat} {cont:σ->List Value} {w w1 w':World} {F:Fp} {s s':σ} {y:Option Addr×Nat}
theorem Hd.ax {x:σ×Option Addr×Nat} (h:Hd b T E sz enc len cont w F x):aL w b (enc x.1 x.2.1 x.2.2) T:=h.1
theorem Hd.sl {x:σ×Option Addr×Nat} (h:Hd b T E sz enc len cont w F x):Sl w E sz x.2.1 (len x.1) x.2.2 (cont x.1):=h.2.1
theorem Hd.nil {c:List Value} (h:dr w w' (.cells c.toArray T (0,0))) (e:enc s ag 0=c) (f:len s=0) (g:cont s=[]):Hd w.heap.size T E sz enc len cont w' (λi=>i=w.heap.size) (s,ag,0):=
 ⟨e ▸ h.aK,by rw[f,g];exact Sl.nil _ _ _,λ⟨a,d,_⟩=>(by cases d),λi=>⟨.inl,λh=>h.elim id (λ⟨a,d,_⟩=>by cases d)⟩⟩
theorem Hd.put (h:Hd b T E sz enc len cont w F (s,y)) {p':Option Addr} {c':Nat} (g:Sl w1 E sz p' (len s') c' (cont s')) (j:au (bg y.1) w w1) (f:∀i,bg p' i->bg y.1 i∨w.heap.size<=i)
  (d:lq w1 w' b (enc s' p' c') T):ai (Hd b T E sz enc len cont) w w' F (s',p',c'):=by
 obtain⟨l,n,m,c⟩:=h
 have a:¬bg p' b:=λhi=>by
  rcases f b hi with hi|hi
  ·exact m hi
  ·have:=l.lt;omega
 refine⟨λi=>i=b∨bg p' i,⟨d.aK,g.ak (d.ak (F:=λi=>i=b) rfl) (λi hi e=>a (e ▸ hi)),a,λ_=>bB⟩,?_,?_⟩
 ·exact(j.mono (λi _ hi=>(c i).2 (.inr hi))).trans (d.ak (F:=λi=>i=b) rfl) (λi _ e=>(c i).2 (.inl e))
 ·rintro i (rfl|hi)
  ·exact .inl ((c i).2 (.inl rfl))
  ·exact(f i hi).imp (λk=>(c i).2 (.inr k)) id
theorem Hd.elems (h:Hd b T E sz enc len cont w F (s,y)) (e:Sl w' E sz y.1 (len s') y.2 (cont s')) (a:au (bg y.1) w w') (f:enc s' y.1 y.2=enc s y.1 y.2):ai (Hd b T E sz enc len cont) w w' F (s',y):=by
 obtain⟨g,j,c,d⟩:=h;exact⟨F,⟨by show aL w' b (enc s' y.1 y.2) T;rw[f];exact g.ak a c,e,c,d⟩,a.mono (λi _ hi=>(d i).2 (.inr hi)),λ_ hi=>.inl hi⟩
theorem Hd.BK (h:Hd b T E sz enc len cont w F (s,y)) (a:au (bg y.1) w w1):aL w1 b (enc s y.1 y.2) T:=h.1.ak a h.2.2.1
end
theorem ov:dZ Tryz.prog 36 3 1 8 [I 0]:=⟨by kernel_rfl,by kernel_rfl,rfl,by omega⟩
def idx (l:List Int) (v:Int):Int:=if v∈l then(l.idxOf v:Int)else -1
theorem Xy {l:List Int} {v:Int} {i:Nat} (h:i<l.length) (b:v∉l.take i) (a:l[i]=v):idx l v=i:=by
 have c:v∈l:=a ▸ cx h
 have e:l.idxOf v=i:=by
  have d:l=l.take i++l[i]::l.drop (i+1):=by simp
  rw[d,List.idxOf_append,af b,a];simp;omega
 simp[idx,c,e]
theorem ZV {l:List Int} {v:Int} {i:Nat} (h:i<l.length) (a:v∉l.take i) (b:l[i]≠v):v∉l.take (i+1):=by
 rw[ey h];simp only[dS,fV];exact λh=>h.elim a (λe=>b e.symm)
theorem Oe {w:World} {p:Option Addr} {l:List Int} {c:Nat} (h:Cells w p (l.map (ay .i64))) (k:l.length<=140737488355328) (v:Int) :
  Cx 375 #[.slice p l.length c,I v] w λe w'=>e=Z (I (idx l v))/\w'=w:=by
 refine aiM ?_;refine⟨bJ bA (M:=Bj) (σ:=Nat) (λi=>GM p l.length c v l.length i) (λi w'=>i<=l.length/\v∉l.take i/\w'=w) (λi _=>l.length-i) 0 ⟨rfl,rfl,rfl,rfl,trivial⟩ ⟨by omega,by simp,rfl⟩ ?_⟩;rintro i w' ⟨m,b,rfl⟩;rw[adw];refine⟨λf=>?_,λg=>⟨?_,rfl⟩⟩
 ·have hi:i<l.length:=by simpa using f
  obtain⟨a,rfl,j⟩:=h.ck hi;refine⟨⟨by omega,by omega⟩,a,rfl,l[i],by simpa using j,λd=>⟨?_,rfl⟩,λd=>?_⟩
  ·rw[Xy hi b (by simpa using(eq_comm.1 (by simpa using d)))]
  ·refine⟨i+1,⟨rfl,rfl,rfl,by rw[aN (by omega)];rfl,trivial⟩,⟨by omega,ZV hi b ?_,rfl⟩,by omega⟩;simp at d;exact λe=>d e.symm
 ·have:i=l.length:=by simp at g;omega
  subst this;simp at b;simp[idx,b]
theorem MH {w:World} {p:Option Addr} {l:List Int} {c:Nat} (h:Cells w p (l.map (ay .i64))) (a:l.length<=140737488355328) (v:Int) :
  Cx 325 #[.slice p l.length c,I v] w λe w'=>e=Z (.bool (decide (v∈l)))/\w'=w:=by
 refine ah7 ?_;refine⟨(Oe h a v).mono ?_⟩;rintro e w' ⟨rfl,rfl⟩;refine⟨_,rfl,?_,rfl⟩;unfold idx;split<;>simp_all
theorem FQ {w:World} {p:Option Addr} {l:List Int} {c:Nat} (h:Cells w p (l.map (ay .i64))) (x:l.length<=1048576) (q:p=ag->l=[]/\c=0) :
  Cx 190 #[.slice p l.length c] w λe w'=>∃p' c',e=Z (.slice p' l.length c')/\Loc w w' 3 p' c' l:=by
 refine af3 ?_;refine⟨λg=>?_,λg=>⟨λw1 o=>?_⟩⟩
 ·obtain⟨rfl,_⟩:=q (by simpa using g);exact⟨ag,0,rfl,Loc.nil (au.refl _ _) _⟩
 ·have r:Sl w1 3 1 (aa ⟨w.heap.size,0,ag⟩) 0 0 []:=Sl.new o (by simp) (by omega);have j:=o.ak no;obtain⟨p',y,c',s,t,b,f,k,u⟩:=xU ov r (h.no j) (m:=l.length) (d:=c) (by simp) (by simp[Value.oneCell']) (λe=>by subst e;simp at g) (by omega) (by omega) 36;simp only[fv,List.nil_append]at b f;subst b;refine⟨p',_,c',s,t,p',c',rfl,j.trans k ?_,f,λi hi=>?_⟩
  ·rintro i hi ⟨a,n,rfl⟩;cases n;exact absurd hi (Nat.lt_irrefl _)
  ·rcases u i hi with⟨a,n,rfl⟩|h
   ·cases n;exact b7 _
   ·exact aX j.size h
def cs (m:BV):List Int:=bW (hs m) 64
theorem Sj {p q:Int->Bool} {n:Nat} (h:∀c:Int,0<=c->c<n->p c=q c):bW p n=bW q n:=by
 unfold bW;apply nZ;intro x a;obtain⟨i,hi,rfl⟩:=cv.1 a;rw[dh]at hi;exact h _ (by omega) (by omega)
theorem Jp {p:Int->Bool} {n:Nat} (h:∀c:Int,0<=c->c<n->p c=ae):bW p n=[]:=by
 rw[Sj (q:=λ_=>ae) h];unfold bW;simp
theorem zV {m:BV} {c:Int}:c∈cs m↔hs m c=ah:=by
 unfold cs;rw[pV];exact⟨λh=>h.2.2,λh=>⟨(lL h).1,(lL h).2,h⟩⟩
theorem Cc:cs 0=[]:=Jp λc _ _=>lM c
theorem VA (m:BV):(cs m).length<=64:=ud _ _
theorem ai9 {p:Int->Bool} {k:Nat} (h1:p k=ah) (h2:∀j:Int,0<=j->j<k->p j=ae):∀n,k<n->bW p n=(k:Int)::bW (λc=>p c&&!decide (c=(k:Int))) n:=by
 intro n f
 induction n with
 | zero=>omega
 | succ n b=>
  rw[vw,vw];by_cases hk:k=n
  ·subst hk;rw[ar h1,Jp h2,Jp (p:=λc=>p c&&!decide (c=(k:Int))) (λc d e=>by simp[h2 c d e])];simp
  ·rw[b (by omega)];have:(decide ((n:Int)=(k:Int)))=ae:=by simp;omega
   simp only[this,Bool.not_false,mu];by_cases a:p n=ah
   ·simp[a]
   ·simp[a]
theorem MK {m:BV} {k:Nat} (hk:k<64) (h1:hs m k=ah) (h2:∀j:Int,j<k->hs m j=ae):cs m=(k:Int)::cs (ls m k):=by
 have:=ai9 (p:=hs m) h1 (λj _ a=>h2 j a) 64 hk;unfold cs;rw[this];congr 1;exact Sj λc _ _=>(jy m k c).symm
theorem xt {m:BV} (h:m≠0):∃k:Nat,k<64/\hs m k=ah/\∀j:Int,j<k->hs m j=ae:=by
 have a:∃k:Nat,hs m k=ah:=eu λb=>h (qU λc a _=>by
  rw[lM];have:=not_exists.1 b c.toNat;rw[show((c.toNat:Nat):Int)=c by omega]at this;simpa using this)
 obtain⟨k,h1,h2⟩:=CK a;refine⟨k,by have:=lL h1;omega,h1,λj f=>?_⟩;by_cases d:0<=j
 ·cases e:hs m j with
  | false=>rfl
  | true=>have:=h2 j.toNat (by rw[show((j.toNat:Nat):Int)=j by omega];exact e);omega
 ·exact Xm (by omega)
theorem TW (k:Nat) (h:k<64):bt k=bp k+1:=by
 have h1:(2:Nat) ^ k<2 ^ 64:=Nat.pow_lt_pow_right (by omega) (by omega);have h2:0<(2:Nat) ^ k:=Nat.pow_pos (by omega);apply wg;rw[Fj (by omega),BitVec.toNat_twoPow,BitVec.toNat_add];unfold bp;rw[nf];have e:min (k:Int).toNat 64=k:=by omega
 rw[e,show((k:Int).toNat)=k by omega];have a:(1:BV).toNat=1:=rfl;rw[a];generalize (2:Nat) ^ k=x at *;rw[jt h1,jt (show x-1<2 ^ 64 by omega),jt (by omega)];omega
theorem YO {m:BV} {c:Int} (a:hs m c=ah):ls m c+bt c=m:=by
 have h:=lL a
 have b:ls m c&&& bt c=0:=G8 λd=>by
  rw[u5,jy,u7];by_cases hd:d=c<;>simp[hd]
 rw[BitVec.add_eq_or_of_and_eq_zero _ _ b];apply qU;intro d _ _;rw[CX,jy,u7];by_cases hd:d=c
 ·subst hd;simp[a,h]
 ·simp[hd]
section
variable {m:BV} {k:Nat} (hk:k<64) (h1:hs m k=ah) (h2:∀j:Int,j<k->hs m j=ae)
include hk h1 h2
theorem P6:m-1=ls m k||| bp k:=by
 have e:ls m k&&& bp k=0:=G8 λd=>by
  rw[u5,jy,tE];by_cases hd:d<k
  ·simp[h2 d hd]
  ·simp[hd]
 have h:=YO h1;rw[TW k hk,<-BitVec.add_assoc]at h;rw[<-BitVec.add_eq_or_of_and_eq_zero _ _ e];generalize ls m k+bp k=u at h⊢;rw[<-h];exact BitVec.add_sub_cancel _ _
theorem YM:m&&& (m-1)=ls m k:=by
 rw[P6 hk h1 h2];apply qU;intro d _ _;rw[u5,CX,jy,tE];by_cases hd:d<k
 ·simp[h2 d hd]
 ·simp[hd]
theorem YN:m&&& (-m)=bt k:=by
 have e : -m = ~~~(m-1):=by
  apply wg;rw[BitVec.toNat_neg,BitVec.toNat_not,BitVec.toNat_sub];have:=m.isLt;have c:(1:BV).toNat=1:=rfl;rw[c];generalize m.toNat=x at *;omega
 rw[e,P6 hk h1 h2];apply qU;intro d f b;rw[zC,CX,jy,tE,u7];by_cases hd:d=k
 ·subst hd;simp[h1,f,b]
 ·by_cases a:d<k
  ·simp[h2 d a,hd]
  ·simp[hd,a]
end
theorem ZH (m:BV):aT .u64 (0-mi m)=mi (-m):=by
 rw[SI];unfold mi;rw[BitVec.toNat_neg];have:=m.isLt;omega
theorem acx (m:BV):aT .u64 (mi m-1)=mi (m-1):=by
 rw[SI];unfold mi;rw[BitVec.toNat_sub];have:=m.isLt;have a:(1:BV).toNat=1:=rfl;rw[a];omega
theorem ZU (m:BV):aH .xor .u64 18446744073709551615 (mi m)=mi (~~~ m):=by
 have:(18446744073709551615:Int)=mi (BitVec.allOnes 64):=by decide +kernel
 rw[this,TP,BitVec.allOnes_xor]
def tz (m:BV):Int:=match cs m with|[]=>64|a::_=>a
theorem Sc:tz 0=64:=by rw[tz,Cc]
theorem Ew {m:BV} {k:Nat} (hk:k<64) (h1:hs m k=ah) (h2:∀j:Int,j<k->hs m j=ae):tz m=k:=by rw[tz,MK hk h1 h2]
theorem Cb {m:BV} (h:m≠0):cs m=tz m::cs (m&&& (m-1)):=by
 obtain⟨k,hk,h1,h2⟩:=xt h;rw[YM hk h1 h2,Ew hk h1 h2];exact MK hk h1 h2
theorem Ji {m:BV} (h:m≠0):hs m (tz m)=ah:=by
 obtain⟨k,hk,h1,h2⟩:=xt h;rw[Ew hk h1 h2];exact h1
theorem Sb {m:BV}:tz m<64↔m≠0:=by
 constructor
 ·rintro h rfl;rw[Sc]at h;omega
 ·intro h;exact(lL (Ji h)).2
def Cf (k:Nat):Int:=aU .u64 (aT .u64 (mi (bt k)*285870213051353865)) 58
def wJ:List Nat:=[0,1,56,2,57,49,28,3,61,58,42,50,38,29,17,4,62,47,59,36,45,43,51,22,53,39,33,30,24,18,12,5,63,55,48,27,60,41,37,16,46,35,44,21,52,32,23,11,54,26,40,15,34,20,31,10,25,14,19,9,13,8,7,6]
theorem VH:∀k:Nat,k<64->0<=Cf k/\Cf k<64/\wJ[(Cf k).toNat]?=aa k:=by decide +kernel
def eH (n x:Nat):Nat:=((b8 n).filter (λi=>x.testBit i)).length
theorem aag (a b x:Nat):eH (a+b) x=eH a x+eH b (x/2 ^ a):=by
 unfold eH;rw[List.range_add,rU,cz,uz,bO];congr 2;apply nZ;intro i _;simp[Nat.testBit_div_two_pow,Nat.add_comm]
theorem aah (n x:Nat):eH n x=eH n (x%2 ^ n):=by
 unfold eH;congr 1;apply nZ;intro i hi;rw[dh]at hi;simp[Nat.testBit_mod_two_pow,hi]
theorem VB (m:BV):(cs m).length=eH 64 m.toNat:=by
 unfold cs bW eH;rw[uz,bO];refine congrArg iX (nZ λi hi=>?_);rw[dh]at hi;show hs m (i:Int)=_;unfold hs;have:decide (0<=(i:Int)/\(i:Int)<64)=ah:=decide_eq_true ⟨by omega,by omega⟩;rw[this];simp[BitVec.getLsbD]
def ie:List Nat->Nat
 | []=>0
 | b::l=>b+256*ie l
def r5:Nat->Nat->List Nat
 | 0,_=>[]
 | n+1,x=>x%256::r5 n (x/256)
theorem Sn:∀n x,x<256 ^ n->ie (r5 n x)=x
 | 0,x,h=>by simp at h;subst h;rfl
 | n+1,x,h=>by
  have a:x/256<256 ^ n:=by rw[Nat.pow_succ]at h;omega
  show x%256+256*ie (r5 n (x/256))=x;rw[Sn n _ a];omega
theorem QV:∀n x,eH (8*n) x=((r5 n x).map (eH 8)).sum
 | 0,x=>rfl
 | n+1,x=>by
  have e:8*(n+1)=8+8*n:=by omega
  rw[e,aag,aah 8 x,show(2:Nat) ^ 8=256 from rfl,QV n (x/256)];rfl
theorem Fu:∀n x,∀b∈r5 n x,b<256
 | 0,_,b,h=>by cases h
 | n+1,x,b,h=>by
  rcases eN.1 h with h|h
  ·omega
  ·exact Fu n _ b h
theorem Fq:∀n x,(r5 n x).length=n
 | 0,_=>rfl
 | n+1,x=>by simp[r5,Fq n]
def nM (m:Nat):Nat->Nat
 | 0=>0
 | n+1=>m+256*nM m n
theorem yO {b y m M:Nat} (f:b<256) (g:m<256):(b+256*y)&&& (m+256*M)=(b&&& m)+256*(y&&& M):=by
 have e:∀a c:Nat,a+256*c=2 ^ 8*c+a:=λa c=>by omega
 have d:b&&& m<2 ^ 8:=v8 b (by omega);rw[e,e,e];apply Nat.eq_of_testBit_eq;intro i;rw[vY,Nat.testBit_two_pow_mul_add _ (by omega),Nat.testBit_two_pow_mul_add _ (by omega),Nat.testBit_two_pow_mul_add _ d];split
 ·rw[vY]
 ·rw[vY]
def sA (x M:Nat):Nat:=(x/2&&& M)+(x&&& M)
def sB (x M:Nat):Nat:=(x/4&&& M)+(x&&& M)
def sC (x M:Nat):Nat:=(x/16+x)&&& M
theorem SS:∀b,b<256->∀t,t<2->(b/2+128*t)&&& 85=b/2&&& 85:=by decide +kernel
theorem Tv:∀b,b<256->∀t,t<4->(b/4+64*t)&&& 51=b/4&&& 51:=by decide +kernel
theorem UZ:∀b,b<69->∀t,t<5->(b/16+16*t+b)&&& 15=(b/16+b)&&& 15:=by decide +kernel
theorem SU {b y M:Nat} (a:b<256):sA (b+256*y) (85+256*M)=sA b 85+256*sA y M:=by
 unfold sA;have e:(b+256*y)/2=(b/2+128*(y%2))+256*(y/2):=by omega
 rw[e,yO (by omega) (by omega),yO a (by omega),SS b a _ (by omega)];omega
theorem Tw {b y M:Nat} (a:b<256):sB (b+256*y) (51+256*M)=sB b 51+256*sB y M:=by
 unfold sB;have e:(b+256*y)/4=(b/4+64*(y%4))+256*(y/4):=by omega
 rw[e,yO (by omega) (by omega),yO a (by omega),Tv b a _ (by omega)];omega
theorem U0 {b y M:Nat} (a:b<69) (c:y%16<5):sC (b+256*y) (15+256*M)=sC b 15+256*sC y M:=by
 unfold sC;have e:(b+256*y)/16+(b+256*y)=(b/16+16*(y%16)+b)+256*(y/16+y):=by omega
 rw[e,yO (by omega) (by omega),UZ b a _ c]
theorem JN:∀l:List Nat,(∀b∈l,b<256)->sA (ie l) (nM 85 l.length)=ie (l.map (λb=>sA b 85))
 | [],_=>rfl
 | b::l,h=>by
  show sA (b+256*ie l) (85+256*nM 85 l.length)=sA b 85+256*ie (l.map _);rw[SU (h b (by simp)),JN l (λc a=>h c (by simp[a]))]
theorem Kb:∀l:List Nat,(∀b∈l,b<256)->sB (ie l) (nM 51 l.length)=ie (l.map (λb=>sB b 51))
 | [],_=>rfl
 | b::l,h=>by
  show sB (b+256*ie l) (51+256*nM 51 l.length)=sB b 51+256*ie (l.map _);rw[Tw (h b (by simp)),Kb l (λc a=>h c (by simp[a]))]
theorem Mv:∀l:List Nat,(∀b∈l,b<69/\b%16<5)->sC (ie l) (nM 15 l.length)=ie (l.map (λb=>sC b 15))
 | [],_=>rfl
 | b::l,h=>by
  show sC (b+256*ie l) (15+256*nM 15 l.length)=sC b 15+256*ie (l.map _)
  have a:ie l%16<5:=by
   cases l with
   | nil=>decide
   | cons c l=>
    have:=(h c (by simp)).2;show(c+256*ie l)%16<5;omega
  rw[U0 (h b (by simp)).1 a,Mv l (λc d=>h c (by simp[d]))]
theorem BB:∀b,b<256->sA b 85<256/\(sB (sA b 85) 51<69/\sB (sA b 85) 51%16<5)/\sC (sB (sA b 85) 51) 15=eH 8 b/\eH 8 b<=8:=by decide +kernel
theorem SX (l:List Nat) (h:∀b∈l,b<256):sC (sB (sA (ie l) (nM 85 l.length)) (nM 51 l.length)) (nM 15 l.length)=ie (l.map (eH 8)):=by
 rw[JN l h];have e:=Kb (l.map (λb=>sA b 85)) (λc d=>by obtain⟨b,a,rfl⟩:=cv.1 d;exact(BB b (h b a)).1);rw[bO]at e;rw[e,uA];have f:=Mv (l.map ((λb=>sB b 51)∘λb=>sA b 85)) (λc d=>by obtain⟨b,a,rfl⟩:=cv.1 d;exact(BB b (h b a)).2.1);rw[bO]at f;rw[f,uA];congr 1;apply List.map_congr_left;intro b a;exact(BB b (h b a)).2.2.1
theorem x1 (b r:Nat) (h:b<=100):(b+256*r)/256=r:=by omega
theorem x2 (s1 a r:Nat) (b:s1<=100) (c:a<=100):(s1+256*(a+256*r))/65536=r:=by omega
theorem x3 (s1 a b c r:Nat) (d:s1<=100) (e:a<=100) (f:b<=100) (g:c<=100):(s1+256*(a+256*(b+256*(c+256*r))))/4294967296=r:=by omega
theorem x4 (a r b q:Nat):(a+256*r)+(b+256*q)=(a+b)+256*(r+q):=by omega
theorem x5 {a b c d e f g h:Nat} (i:a<=100) (j:b<=100) (k:c<=100) (hd:d<=100) (l:e<=100) (m:f<=100) (n:g<=100) (o:h<=100):(a+256*(b+256*(c+256*(d+256*(e+256*(f+256*(g+256*h)))))))<18446744073709551616:=by omega
theorem x6 {s q n:Nat} (hs:s=n) (a:n<=100):(s+256*q)%128=n:=by omega
theorem WA (a b c d e f g h:Nat) (u:a<=8) (w:b<=8) (x:c<=8) (hd:d<=8) (z:e<=8) (A:f<=8) (B:g<=8) (C:h<=8) {y l m n:Nat}
  (o:y=ie [a,b,c,d,e,f,g,h]) (p:l=y+y/256) (q:m=l+l/65536) (r:n=m+m/4294967296) :
  l<18446744073709551616/\m<18446744073709551616/\n<18446744073709551616/\n%128=a+b+c+d+e+f+g+h:=by
 simp only[ie,Nat.mul_zero,n5]at o;have d1:y/256=b+256*(c+256*(d+256*(e+256*(f+256*(g+256*h))))):=by rw[o];exact x1 _ _ (by omega)
 rw[d1,o]at p
 have i:l=(a+b)+256*((b+c)+256*((c+d)+256*((d+e)+256*((e+f)+256*((f+g)+256*((g+h)+256*h)))))):=by
  rw[p,x4,x4,x4,x4,x4,x4,Nat.add_right_comm g (256*h) h]
 clear p o d1;have s:l/65536=(c+d)+256*((d+e)+256*((e+f)+256*((f+g)+256*((g+h)+256*h)))):=by rw[i];exact x2 _ _ _ (by omega) (by omega)
 have j:m=(a+b+(c+d))+256*((b+c+(d+e))+256*((c+d+(e+f))+256*((d+e+(f+g))+256*((e+f+(g+h))+256*((f+g+h)+256*((g+h)+256*h)))))):=by
  rw[q,s,i,x4,x4,x4,x4,x4,Nat.add_right_comm (f+g) _ h]
 have t:m/4294967296=(e+f+(g+h))+256*((f+g+h)+256*((g+h)+256*h)):=by rw[j];exact x3 _ _ _ _ _ (by omega) (by omega) (by omega) (by omega)
 have k:n=(a+b+(c+d)+(e+f+(g+h)))+256*((b+c+(d+e)+(f+g+h))+256*((c+d+(e+f)+(g+h))+256*((d+e+(f+g)+h)+256*((e+f+(g+h))+256*((f+g+h)+256*((g+h)+256*h)))))):=by
  rw[r,t,j,x4,x4,x4,Nat.add_right_comm (d+e+(f+g)) _ h]
 clear q s t r;refine⟨?_,?_,?_,?_⟩
 ·rw[i];clear i j k;exact x5 (by omega) (by omega) (by omega) (by omega) (by omega) (by omega) (by omega) (by omega)
 ·rw[j];clear i j k;exact x5 (by omega) (by omega) (by omega) (by omega) (by omega) (by omega) (by omega) (by omega)
 ·rw[k];clear i j k;exact x5 (by omega) (by omega) (by omega) (by omega) (by omega) (by omega) (by omega) (by omega)
 ·rw[k];clear i j k;exact x6 (by omega) (by omega)
theorem wv {x y:Nat} (a:x<2 ^ 64) (b:y<2 ^ 64):aH .and .u64 (x:Int) (y:Int)=((x&&& y:Nat):Int):=by
 have e:∀z:Nat,z<2 ^ 64->(z:Int)=mi (BitVec.ofNat 64 z):=λz c=>by
  unfold mi;rw[nf,jt c]
 rw[e x a,e y b,wy];unfold mi;rw[BitVec.toNat_and,nf,nf,jt a,jt b]
theorem sN (x:Nat) {k d:Nat} (b:k<=64) (hd:2 ^ k=d):aU .u64 (x:Int) (k:Int)=((x/d:Nat):Int):=by
 subst hd;unfold aU;have a:min ((k:Int)).toNat ef.bits=k:=by show min _ 64=k;omega
 rw[a,show((2:Int) ^ k)=((2 ^ k:Nat):Int) by simp,uB _ (Int.natCast_nonneg _),<-Int.natCast_ediv]
theorem vU {x y:Nat} (h:x+y<2 ^ 64):aT .u64 ((x:Int)+(y:Int))=((x+y:Nat):Int):=by
 rw[AN (by omega)];omega
theorem TY {data:Array UInt8} (f:Nat->Nat) (h:(data.toList.map UInt8.toNat==(b8 256).map f)=ah) {x:Nat} (c:x<256):∃u,(ByteArray.mk data)[x]?=aa u/\((UInt8.toNat u:Nat):Int)=(f x:Int):=by
 have h:=eq_of_beq h
 have hs:data.size=256:=by
  have:=congrArg iX h;simpa using this
 have a:x<(ByteArray.mk data).size:=by show x<data.size;omega
 refine⟨data[x]'(by omega),?_,?_⟩
 ·rw[getElem?_pos (ByteArray.mk data) x a];rfl
 ·have b:(data.toList.map UInt8.toNat)[x]?=((b8 256).map f)[x]?:=by rw[h]
  simp[c,hs]at b;exact congrArg Int.ofNat b
def Tab (w:World):Prop:=Cells w (aa ⟨0,0,ag⟩) (wJ.map (λ(z:Nat)=>ay .u8 (z:Int)))
theorem Tab.no {w w':World} (h:Tab w) (k:au no w w'):Tab w':=Cells.no h k
theorem RX:Tryz.prog.globalNamed "math/bits.deBruijn64tab" = aa 0:=by kernel_rfl
theorem ad1:(Tryz.prog.globals[0]?).map (·.type)=aa 380:=by kernel_rfl
theorem ad2:Tryz.prog.underlying 380=aa (.array 64 5):=by kernel_rfl
theorem ad0:Tryz.prog.underlying 5=aa (.int .u8):=by kernel_rfl
def Cg:List Int:=wJ.map (λ(z:Nat)=>(z:Int))
theorem tab_ok {W:World} (h:laidMet Tryz.prog [("math/bits.deBruijn64tab",Lib.tabData .u8 Cg)] W):Tab W:=by
 have c:=Lib.tabIs_of_head RX ad1 ad2 ad0 (by kernel_rfl) (by kernel_rfl) h;intro j v a;refine⟨_,rfl,?_⟩;rw[add_lit,fv];rw[eZ]at a;obtain⟨z,b,rfl⟩:=jZ.1 a;have d:j<wJ.length:=(dI.1 b).1;rw[c.cell RX j (by simpa [Cg]using d)];have e:Cg.getD j 0=(z:Int):=by simp[Cg,aQ,b]
 rw[e]
theorem Jj (m:BV) {w:World} (l:Tab w):Cx 253 #[.int .u64 (mi m)] w λe w'=>e=Z (I (tz m))/\w'=w:=by
 refine ag4 ?_;refine⟨λg=>?_,λg=>⟨by decide,?_⟩⟩
 ·rw[kW]at g;have:m=0:=by simpa using g
  subst this;exact⟨by rw[Sc],rfl⟩
 ·rw[kW]at g;have n:m≠0:=by simpa using g
  obtain⟨k,c,d,f⟩:=xt n;rw[ZH,wy,YN c d f];obtain⟨d1,h,b⟩:=VH k c;unfold Cf at d1 h b;rw[Ew c d f];generalize aU .u64 (aT .u64 (mi (bt k)*285870213051353865)) 58=ix at *;have i:ix.toNat<wJ.length:=(dI.1 b).1;obtain⟨a,o,j⟩:=l.ck i;cases o;have:wJ[ix.toNat]=k:=by rw[cS i]at b;exact Option.some.inj b
  rw[this]at j;exact⟨⟨d1,h⟩,_,j,by rw[aN (by omega)],rfl⟩
def oA (x:Int):Int:=aT .u64 (aH .and .u64 (aU .u64 x 1) 6148914691236517205+aH .and .u64 x 6148914691236517205)
def oB (x:Int):Int:=aT .u64 (aH .and .u64 (aU .u64 x 2) 3689348814741910323+aH .and .u64 x 3689348814741910323)
def oC (x:Int):Int:=aH .and .u64 (aT .u64 (aU .u64 x 4+x)) 1085102592571150095
def oD (x:Int):Int:=aT .u64 (x+aU .u64 x 8)
def oE (x:Int):Int:=aT .u64 (x+aU .u64 x 16)
def oF (x:Int):Int:=aT .u64 (x+aU .u64 x 32)
def oG (x:Int):Int:=aH .and .i64 (aT .i64 x) 127
theorem Tl {x:Nat} (h:x<18446744073709551616):oG (x:Int)=((x%128:Nat):Int):=by
 unfold oG
 have a:gw 64 (aT .i64 (x:Int))=BitVec.ofNat 64 x:=by
  apply wg;rw[BitVec.toNat_ofInt,nf]
  have:aT .i64 (x:Int)=if(x:Int)<9223372036854775808 then(x:Int)else(x:Int)-18446744073709551616:=by
   unfold aT;simp only[kF,ju,fc];split<;>split<;>simp_all<;>omega
  rw[this];split<;>omega
 show aT .i64 ((gw 64 (aT .i64 (x:Int))&&& gw 64 127).toNat:Int)=_;rw[a];have b:gw 64 127=BitVec.ofNat 64 127:=rfl;rw[b,BitVec.toNat_and,nf,nf,jt h];have c:x&&& (127%2 ^ 64)=x%128:=Nat.and_two_pow_sub_one_eq_mod x 7;rw[c,aN (by omega)]
theorem ZY (m:BV):oG (oF (oE (oD (oC (oB (oA (mi m)))))))=((cs m).length:Int):=by
 have f:m.toNat<2 ^ 64:=m.isLt;obtain⟨x,a⟩:∃x,x=m.toNat:=⟨_,rfl⟩;rw[VB,show(mi m)=((x:Nat):Int) by rw[a];rfl,<-a];rw[<-a]at f;clear a;have g:nM 85 8=6148914691236517205:=by decide +kernel
 have i:nM 51 8=3689348814741910323:=by decide +kernel
 have j:nM 15 8=1085102592571150095:=by decide +kernel
 have e:=SX (r5 8 x) (Fu 8 x);rw[Fq,Sn 8 x (by omega),g,i,j]at e;have B:x/2&&& 6148914691236517205<2 ^ 63:=v8 _ (by omega);have C:x&&& 6148914691236517205<2 ^ 63:=v8 _ (by omega)
 have k:oA (x:Int)=((sA x 6148914691236517205:Nat):Int):=by
  unfold oA sA;rw[show(1:Int)=((1:Nat):Int)from rfl,sN (d:=2) x (by omega) rfl,show(6148914691236517205:Int)=((6148914691236517205:Nat):Int)from rfl,wv (by omega) (by omega),wv (by omega) (by omega),vU (by omega)]
 have hA:sA x 6148914691236517205<2 ^ 64:=by unfold sA;omega
 rw[k];generalize sA x 6148914691236517205=y at *;have D:y/4&&& 3689348814741910323<2 ^ 62:=v8 _ (by omega);have b2:y&&& 3689348814741910323<2 ^ 62:=v8 _ (by omega)
 have n:oB (y:Int)=((sB y 3689348814741910323:Nat):Int):=by
  unfold oB sB;rw[show(2:Int)=((2:Nat):Int)from rfl,sN (d:=4) y (by omega) rfl,show(3689348814741910323:Int)=((3689348814741910323:Nat):Int)from rfl,wv (by omega) (by omega),wv (by omega) (by omega),vU (by omega)]
 have hB:sB y 3689348814741910323<2 ^ 63:=by unfold sB;omega
 rw[n];generalize sB y 3689348814741910323=z at *
 have o:oC (z:Int)=((sC z 1085102592571150095:Nat):Int):=by
  unfold oC sC;rw[show(4:Int)=((4:Nat):Int)from rfl,sN (d:=16) z (by omega) rfl,vU (by omega),show(1085102592571150095:Int)=((1085102592571150095:Nat):Int)from rfl,wv (by omega) (by omega)]
 rw[o,e,QV 8 x];have p:=Fq 8 x;have b:=Fu 8 x;generalize r5 8 x=l at *
 match l,p,b with
 | [c0,c1,c2,c3,c4,c5,c6,c7],_,b=>
  have q:∀c∈[c0,c1,c2,c3,c4,c5,c6,c7],eH 8 c<=8:=λc r=>(BB c (b c r)).2.2.2;simp only[pk,List.map_nil,List.sum_cons,List.sum_nil];generalize s:ie [eH 8 c0,eH 8 c1,eH 8 c2,eH 8 c3,eH 8 c4,eH 8 c5,eH 8 c6,eH 8 c7]=v;obtain⟨f1,f2,f3,t⟩:=WA (eH 8 c0) (eH 8 c1) (eH 8 c2) (eH 8 c3) (eH 8 c4) (eH 8 c5) (eH 8 c6) (eH 8 c7) (q _ (by simp)) (q _ (by simp)) (q _ (by simp)) (q _ (by simp)) (q _ (by simp)) (q _ (by simp)) (q _ (by simp)) (q _ (by simp)) s.symm rfl rfl rfl
  have u:oD (v:Int)=((v+v/256:Nat):Int):=by
   unfold oD;rw[show(8:Int)=((8:Nat):Int)from rfl,sN (d:=256) v (by omega) rfl,vU (by omega)]
  have w:∀v:Nat,v+v/65536<18446744073709551616->oE (v:Int)=((v+v/65536:Nat):Int):=λv h=>by
   unfold oE;rw[show(16:Int)=((16:Nat):Int)from rfl,sN (d:=65536) v (by omega) rfl,vU (by omega)]
  have A:∀v:Nat,v+v/4294967296<18446744073709551616->oF (v:Int)=((v+v/4294967296:Nat):Int):=λv h=>by
   unfold oF;rw[show(32:Int)=((32:Nat):Int)from rfl,sN (d:=4294967296) v (by omega) rfl,vU (by omega)]
  rw[u,w _ f2,A _ f3,Tl f3,t];congr 1;omega
theorem ZX (m:BV) (w:World):Cx 80 #[.int .u64 (mi m)] w λe w'=>e=Z (I ((cs m).length:Int))/\w'=w:=by
 refine u80 ?_;refine⟨by decide,by decide,by decide,by decide,by decide,by decide,?_,rfl⟩;show cj (I (oG (oF (oE (oD (oC (oB (oA (mi m)))))))))=_;rw[ZY]
theorem YV (m:BV) (w:World):Cx 24 #[.int .u64 (mi m)] w λe w'=>e=Z (I ((cs m).length:Int))/\w'=w:=by
 refine u24 ?_;refine⟨(ZX m w).mono ?_⟩;rintro e w' ⟨rfl,rfl⟩;exact⟨_,rfl,rfl,rfl⟩
def gd (m:BV):Int×Int:=match cs m with|[]=>(0,12)|a::_=>(a,0)
def lR (m:BV) (c:Int):Int×Int:=match(cs m).find? (λd=>decide (d>c))with|some d=>(d,0)|none=>gd m
theorem Hf {m:BV} (h:m≠0):gd m=(tz m,0):=by unfold gd;rw[Cb h]
theorem Wt:gd 0=(0,12):=by unfold gd;rw[Cc]
theorem xw (m:BV) {w:World} (a:Tab w):Cx 159 #[.int .u64 (mi m)] w λe w'=>e=Z (.tuple #[I (gd m).1,I (gd m).2])/\w'=w:=by
 refine afF ?_;refine⟨λg=>?_,λg=>⟨(Jj m a).mono ?_⟩⟩
 ·rw[kW]at g;have:m=0:=by simpa using g
  subst this;exact⟨by rw[Wt],rfl⟩
 ·rw[kW]at g;rintro e w' ⟨rfl,rfl⟩;exact⟨_,rfl,by rw[Hf (by simpa using g)],rfl⟩
theorem MJ (m:BV) (c:Int):cs (m&&& ~~~ bp (c+1))=(cs m).filter (λd=>decide (d>c)):=by
 unfold cs bW;rw[List.filter_filter];apply nZ;intro d hd;obtain⟨i,hi,rfl⟩:=cv.1 hd;rw[dh]at hi;rw[zC,tE,decide_eq_true (show 0<=(i:Int)/\(i:Int)<64 by omega),fc];by_cases a:(i:Int)>c
 ·simp[a,show ¬((i:Int)<c+1) by omega]
 ·simp[a,show(i:Int)<c+1 by omega]
theorem ZL {m:BV} {c:Int} (h:m&&& ~~~ bp (c+1)≠0):gd (m&&& ~~~ bp (c+1))=lR m c:=by
 unfold lR;rw[Hf h];have e:((cs m).filter (λd=>decide (d>c))).head?=aa (tz (m&&& ~~~ bp (c+1))):=by rw[<-MJ,Cb h];rfl
 rw[List.head?_filter]at e;rw[e]
theorem ZQ {m:BV} {c:Int} (h:m&&& ~~~ bp (c+1)=0):lR m c=gd m:=by
 unfold lR;have e:(cs m).filter (λd=>decide (d>c))=[]:=by rw[<-MJ,h,Cc]
 rw[List.filter_eq_nil_iff]at e;rw[mr.2 e]
theorem ZP {m:BV} {c:Int} (h:c<0):lR m c=gd m:=by
 unfold lR gd
 cases b:cs m with
 | nil=>rfl
 | cons a l=>
  have:hs m a=ah:=zV.1 (by rw[b];simp);have:=lL this;have e:decide (a>c)=ah:=by simp;omega
  simp[e]
theorem ZM {m:BV} {c:Int} (h:63<=c):lR m c=gd m:=by
 unfold lR;rw[mr.2];intro d hd;have:=lL (zV.1 hd);simp;omega
theorem YW (m:BV) (c:Int) {w:World} (a:Tab w):Cx 319 #[.int .u64 (mi m),I c] w λe w'=>e=Z (.tuple #[I (lR m c).1,I (lR m c).2])/\w'=w:=by
 refine ah1 ?_;refine⟨λg=>⟨λb=>⟨(xw m a).mono ?_⟩,λb=>?_⟩,λg=>⟨(xw m a).mono ?_⟩⟩
 ·rintro e w' ⟨rfl,rfl⟩;exact⟨_,_,rfl,by rw[ZM (aO b)],rfl⟩
 ·have f:¬c<0:=aV g;have h:¬c>=63:=aV b;rw[aN (by omega)];refine⟨(tI (c+1) w).mono ?_⟩;rintro e w' ⟨rfl,rfl⟩;refine⟨_,rfl,?_⟩;rw[yU,vh];refine⟨λd=>⟨(xw _ a).mono ?_⟩,λd=>⟨(xw m a).mono ?_⟩⟩
  ·rintro e w' ⟨rfl,rfl⟩;exact⟨_,_,rfl,by rw[ZL (by simpa using d)],rfl⟩
  ·rintro e w' ⟨rfl,rfl⟩;exact⟨_,_,rfl,by rw[ZQ (by simpa using d)],rfl⟩
 ·rintro e w' ⟨rfl,rfl⟩;exact⟨_,_,rfl,by rw[ZP (aO g)],rfl⟩
theorem P9 (m:BV) {w:World} (i:Tab w):Cx 382 #[.int .u64 (mi m)] w λe w'=>∃p c,e=Z (.slice p (cs m).length c)/\Loc w w' 3 p c (cs m):=by
 refine aiR ?_
 refine⟨bJ bA (M:=Bm) (σ:=BV×List Int×Option Addr×Nat) (λs=>GN (mi s.1) s.2.2.1 s.2.1.length s.2.2.2)
  (λs w'=>s.2.1++cs s.1=cs m/\Loc w w' 3 s.2.2.1 s.2.2.2 s.2.1) (λs _=>(cs s.1).length) (m,[],ag,0) ⟨rfl,rfl,trivial⟩ ⟨rfl,Loc.nil (au.refl _ _) _⟩ ?_⟩
 rintro⟨a,l,p,c⟩ w1 ⟨h1,b⟩;simp only at h1 b⊢;rw[ady,vh,acx,wy];refine⟨λg=>⟨(Jj a (i.no b.U)).mono ?_⟩,λg=>?_⟩
 ·have d:a≠0:=by simpa using g
  have h:=Cb d;have o:l.length<=64:=by have:=congrArg iX h1;have:=VA m;simp at *;omega
  rintro e q ⟨rfl,rfl⟩;refine⟨_,rfl,⟨λr j=>?_⟩⟩;obtain⟨p',c',k,n,f⟩:=b.push ov (by omega) j 36;refine⟨p',_,c',k,n,(a&&& (a-1),l++[tz a],p',c'),⟨rfl,rfl,trivial⟩,⟨by rw[<-h1,h];simp,f⟩,by simp only;rw[h];simp⟩
 ·have d:a=0:=by simpa using g
  subst d;rw[Cc,List.append_nil]at h1;subst h1;exact⟨p,c,rfl,b⟩
theorem run_mk {P:Program} {t e:TypeId} {sz bytes:Nat} {z:List Value} (B:dZ P t e sz bytes z) (w:World) {n:Nat} (I:n*bytes<=140737488355328) (J:n<=140737488355328) (s k2:IntKind)
  {α:Type} {f:α->List Value} {x0:α} (u:∀x,(f x).length=sz) (g:f x0=z) :
  ∃w',(lA t (.int s (n:Int)) (.int k2 (n:Int))).run P w=.ok (.slice (aa ⟨w.heap.size,0,ag⟩) n n) w'/\dr w w' (.cells ((aD n x0).flatMap f).toArray e (0,0)):=by
 obtain⟨C,a,k,b⟩:=B;obtain⟨i,hi,c⟩:=jZ.1 a;simp only[Prod.mk.injEq]at c;obtain⟨D,m,o⟩:=c;obtain⟨zv,p,d⟩:=jZ.1 D
 have q:(i.bytes:Int)*(n:Int)<=281474976710656:=by
  have h:((i.bytes*n:Nat):Int)<=281474976710656:=by rw[o,Nat.mul_comm];omega
  rwa [Int.natCast_mul]at h
 have y:=run_make (P:=P) w t e i zv C hi p s k2 n n (by omega) (fW _) q (by omega);simp only[bK]at y;refine⟨_,y,?_⟩;have r:zv.cells.size=sz:=by rw[<-k,<-d];simp
 have E:((aD n x0).flatMap f).toArray=madeCells zv.cells (n*i.size):=by
  rw[m];apply oo;rw[List.toList_toArray];have K:((aD n x0).flatMap f).length=n*sz:=by rw[List.length_flatMap];simp[u,List.sum_replicate_nat]
  apply cT;intro j;by_cases F:j<n*sz
  ·have G:j/sz<n:=Nat.div_lt_of_lt_mul (by rwa [Nat.mul_comm]);have L:j%sz<sz:=Nat.mod_lt _ b
   have H:zv.cells.toList[j%sz]?=aa zv.cells[j%zv.cells.size]!:=by
    have A:j%sz<zv.cells.size:=by omega
    rw[r,getElem!_pos zv.cells (j%sz) A];simp[A]
   have:=xb (l:=aD n x0) (i:=j/sz) (j:=j%sz) (v:=zv.cells[j%zv.cells.size]!) u (by simpa using G) (by rw[List.getElem_replicate,g,<-d];exact H);rw[Nat.div_add_mod']at this;rw[this];simp[madeCells,F]
  ·rw[fB (by omega),fB (by simp[madeCells];omega)]
 rw[E];exact z6 w _
theorem Rj {α:Type} (f:α->Value) (n:Nat) (x:α):(aD n x).flatMap (λx=>[f x])=(aD n x).map f:=by
 induction n with
 | zero=>rfl
 | succ n a=>rw[List.replicate_succ,n4,a];rfl
theorem IH {P:Program} {t e:TypeId} {k:IntKind} {bytes:Nat} (c:dZ P t e 1 bytes [.int k 0]) (w:World) {n:Nat} (d:n*bytes<=140737488355328) (g:n<=140737488355328) (a k2:IntKind) :
  ∃w',(lA t (.int a (n:Int)) (.int k2 (n:Int))).run P w=.ok (.slice (aa ⟨w.heap.size,0,ag⟩) n n) w'/\dr w w' (.cells ((aD n (0:Int)).map (ay k)).toArray e (0,0)):=by
 obtain⟨w',h,b⟩:=run_mk c w d g a k2 (f:=λx:Int=>[ay k x]) (x0:=0) (λ_=>rfl) rfl;rw[Rj]at b;exact⟨w',h,b⟩
theorem abC {P:Program} {t e:TypeId} {sz bytes:Nat} {z:List Value} (W:dZ P t e sz bytes z) {w:World} {p:Option Addr} {g s:Nat} {M:List Value} (h:Sl w e sz p g s M)
  {q:Option Addr} {sn sc:Nat} {f:List Value} (N:Cells w q f) (O:f.length=sn*sz) (X:∀u∈f,u.oneCell'=ah) (ty:TypeId) :
  ∃w',(nX #[t,t] ty #[.slice p g s,.slice q sn sc]).run P w=.ok (.int .i64 ((min sn g:Nat):Int)) w'/\Sl w' e sz p g s (f.take (min sn g*sz)++M.drop (min sn g*sz))/\au (bg p) w w':=by
 obtain⟨H,l,Y,Q⟩:=W;obtain⟨i,hi,A⟩:=jZ.1 l;simp only[Prod.mk.injEq]at A;obtain⟨hz,J,Z⟩:=A;subst J;obtain⟨l1,R,l3,S⟩:=id h;generalize hm:min sn g=m;have B:m<=sn:=by omega
 have K:m<=g:=by omega
 have d:(f.take (m*i.size)).length=m*i.size:=by
  rw[eh,O];exact nj (fu _ B)
 have U:(td i.size m (.slice q sn sc)).run P w=.ok (f.take (m*i.size)).toArray w:=by
  cases q with
  | none=>
   have:f.take (m*i.size)=[]:=by
    apply mq;rw[d];by_cases h0:m*i.size=0
    ·exact h0
    ·have:0<f.length:=by
      rw[O];have:0<m*i.size:=by omega
      exact jV this (fu _ B)
     obtain⟨a,ha,_⟩:=N 0 f[0] (by simp[this]);cases ha
   rw[this]
   simp[td]
  | some a=>
   refine run_firstCells_some (P:=P) w i.size m a sn sc _ d (λj v I=>?_);rw[gV]at I;split at I
   ·obtain⟨b,hb,hc⟩:=N j v I;obtain rfl:=Option.some.inj hb;exact hc
   ·cases I
 have C:∀u∈f.take (m*i.size),u.oneCell'=ah:=λu H=>X u (List.mem_of_mem_take H)
 cases p with
 | none=>
  obtain⟨rfl,rfl⟩:=S;have:m=0:=by omega
  subst this;refine⟨w,?_,by simpa using h,au.refl _ _⟩
  simp[nX,run_underlying H,sizeOf,typeInfo,hi,rP,U,goInt]at hm⊢
 | some a=>
  obtain⟨cells,n,D,k,E⟩:=S;obtain⟨b,o,sp⟩:=a;simp only at D n k E;subst D;have al:m*i.size<=s*i.size:=fu _ (by omega);have r:o+0+(f.take (m*i.size)).length<=cells.toArray.size:=by rw[d];simp only[List.size_toArray];omega
  have F:=run_storeCells_at P b o e (f.take (m*i.size)) 0 cells.toArray w n r C;simp only[n5]at F;have V:=EL (w:=w) (b:=b) (c:=cells.toArray) (T:=e) n (ba cells o (f.take (m*i.size)));refine⟨_,?_,?_,V.ak ⟨_,rfl,rfl⟩⟩
  ·have G:Nat.min sn g=m:=hm;simp[nX,run_underlying H,sizeOf,typeInfo,hi,rP,G,U,F,goInt,ba]
  ·have L:(ba cells o (f.take (m*i.size))).length=cells.length:=xW (by rw[d];omega);have am:m*i.size<=g*i.size:=fu _ K;refine⟨by rw[cz,d,kz,l1];omega,R,l3,_,V.ax,rfl,by rw[L];exact k,?_⟩;subst E;apply cT;intro j;have ap:g*i.size<=s*i.size:=fu _ R;unfold ba;simp only[gV,gD,ng,cz,eh,d];generalize m*i.size=x at *;generalize g*i.size=y at *;generalize s*i.size=u at *;rw[eh]at d
   grind
theorem abD {P:Program} {t e:TypeId} {sz bytes:Nat} {z:List Value} (he:dZ P t e sz bytes z) {w:World} {p:Option Addr} {g n:Nat} {L:List Value} (h:Sl w e sz p g n L)
  {q:Option Addr} {sn sc:Nat} {f:List Value} (S:Cells w q f) (U:f.length=sn*sz) (h1:∀u∈f,u.oneCell'=ah) (ty:TypeId) {k:Nat} (hk:k<=g) :
  ∃w',(nX #[t,t] ty #[.slice (fJ p n k sz) (g-k) (n-k),.slice q sn sc]).run P w=.ok (.int .i64 ((min sn (g-k):Nat):Int)) w'/\
   Sl w' e sz p g n (ba L (k*sz) (f.take (min sn (g-k)*sz)))/\au (bg p) w w':=by
 obtain⟨D,s,al,V⟩:=he;obtain⟨i,hi,E⟩:=jZ.1 s;simp only[Prod.mk.injEq]at E;obtain⟨hz,O,am⟩:=E;subst O;obtain⟨W,X,l3,Y⟩:=id h;generalize hm:min sn (g-k)=m;have F:m<=sn:=by omega
 have ap:m<=g-k:=by omega
 have d:(f.take (m*i.size)).length=m*i.size:=by
  rw[eh,U];exact nj (fu _ F)
 have M:(td i.size m (.slice q sn sc)).run P w=.ok (f.take (m*i.size)).toArray w:=by
  cases q with
  | none=>
   have:f.take (m*i.size)=[]:=by
    apply mq;rw[d];by_cases Q:m*i.size=0
    ·exact Q
    ·have:0<f.length:=by
      rw[U];have:0<m*i.size:=by omega
      exact jV this (fu _ F)
     obtain⟨a,ha,_⟩:=S 0 f[0] (by simp[this]);cases ha
   rw[this]
   simp[td]
  | some a=>
   refine run_firstCells_some (P:=P) w i.size m a sn sc _ d (λj v N=>?_);rw[gV]at N;split at N
   ·obtain⟨b,hb,hc⟩:=S j v N;obtain rfl:=Option.some.inj hb;exact hc
   ·cases N
 have G:∀u∈f.take (m*i.size),u.oneCell'=ah:=λu D=>h1 u (List.mem_of_mem_take D);have l:Nat.min sn (g-k)=m:=hm;have A:∀o,ba L o []=L:=λo=>by simp[ba]
 by_cases Q:m=0
 ·subst Q;simp only[Nat.zero_mul,List.take_zero]at M⊢;refine⟨w,?_,by rw[A];exact h,au.refl _ _⟩
  cases hp:fJ p n k i.size with
  | none=>simp[nX,run_underlying D,sizeOf,typeInfo,hi,rP,l,M,goInt]
  | some a=>simp[nX,run_underlying D,sizeOf,typeInfo,hi,rP,l,M,goInt,storeCells]
 ·cases p with
  | none=>obtain⟨rfl,rfl⟩:=Y;omega
  | some a=>
   obtain⟨cells,B,H,r,I⟩:=Y;obtain⟨b,o,sp⟩:=a;simp only at H B r I;subst H
   have J:fJ (aa (⟨b,o,ag⟩:Addr)) n k i.size=aa ⟨b,o+k*i.size,ag⟩:=by
    unfold fJ;rw[af (by omega),fX,add_lit]
   have aq:k*i.size+m*i.size<=g*i.size:=by rw[<-lz];exact fu _ (by omega)
   have az:g*i.size<=n*i.size:=fu _ X;have C:o+k*i.size+0+(f.take (m*i.size)).length<=cells.toArray.size:=by rw[d];simp only[List.size_toArray];omega
   have K:=run_storeCells_at P b (o+k*i.size) e (f.take (m*i.size)) 0 cells.toArray w B C G;simp only[n5]at K;have Z:=EL (w:=w) (b:=b) (c:=cells.toArray) (T:=e) B (ba cells (o+k*i.size) (f.take (m*i.size)));rw[J];refine⟨_,?_,?_,Z.ak ⟨_,rfl,rfl⟩⟩
   ·simp[nX,run_underlying D,sizeOf,typeInfo,hi,rP,l,M,K,goInt,ba]
   ·have R:(ba cells (o+k*i.size) (f.take (m*i.size))).length=cells.length:=xW (by rw[d];omega);refine⟨by rw[xW (by rw[d,W];omega),W],X,l3,_,Z.ax,rfl,by rw[R];exact r,?_⟩;subst I;apply cT;intro j;unfold ba;simp only[gV,gD,ng,cz,eh,d,kz];generalize m*i.size=x at *;generalize g*i.size=y at *;generalize n*i.size=u at *;generalize k*i.size=v at *;rw[eh]at d
    grind
def Lv {α:Type} (T:TypeId) (f:α->Value):Ob (Option Addr×Nat×List α):=λw F x=>(∀i,F i↔bg x.1 i)/\Sl w T 1 x.1 x.2.2.length x.2.1 (x.2.2.map f)
theorem Rs {P:Program} {t e:TypeId} {bytes:Nat} {α:Type} {f:α->Value} {x0:α} (c:dZ P t e 1 bytes [f x0]) (w:World) {n:Nat} (d:n*bytes<=140737488355328) (h:n<=1048576) (b k2:IntKind) :
  ∃w',(lA t (.int b (n:Int)) (.int k2 (n:Int))).run P w=.ok (.slice (aa ⟨w.heap.size,0,ag⟩) n n) w'/\au no w w'/\
   Lv e f w' (bg (aa ⟨w.heap.size,0,ag⟩)) (aa ⟨w.heap.size,0,ag⟩,n,aD n x0):=by
 obtain⟨w',g,a⟩:=run_mk c w d (by omega) b k2 (f:=λx:α=>[f x]) (x0:=x0) (λ_=>rfl) rfl;rw[Rj]at a;refine⟨w',g,a.ak no,λ_=>bB,?_⟩;simp only[fC];exact Sl.new a (by simp) (by unfold maxLen;omega)
structure Ring where
 r:List Int
 f:Nat
 m:Nat
structure Ring.ok (g:Ring):Prop where
 pos:0<g.r.length
 le:g.r.length<=1024
 f:g.f<g.r.length
 m:g.m<=g.r.length
def pl (c f k:Nat):Nat:=if f+k<c then f+k else f+k-c
theorem aaq {c f k:Nat} (a:f<c) (b:k<=c):(f+k)%c=pl c f k:=by
 unfold pl;split
 ·exact jt (by assumption)
 ·rw[Nat.mod_eq_sub_mod (by omega),jt (by omega)]
theorem Af {c f k:Nat} (a:f<c) (b:k<=c):pl c f k<c:=by unfold pl;split<;>omega
theorem aap {c f k j:Nat} (a:k<c) (b:j<c) (h:pl c f k=pl c f j):k=j:=by unfold pl at h;split at h<;>split at h<;>omega
def view (g:Ring):List Int:=(b8 g.m).map (λk=>g.r.getD (pl g.r.length g.f k) 0)
theorem la (g:Ring):(view g).length=g.m:=by simp[view]
theorem ajb (g:Ring) {k:Nat} (h:k<g.m):(view g)[k]'(by rw[la];exact h)=g.r.getD (pl g.r.length g.f k) 0:=by simp[view]
theorem yp (g:Ring) (k:Nat):(view g)[k]?=if k<g.m then aa (g.r.getD (pl g.r.length g.f k) 0)else ag:=by
 split
 ·rename_i h;rw[cS (by rw[la];exact h),ajb g h]
 ·exact fB (by rw[la];omega)
theorem Sq {g:Ring} (h:g.ok) {i:Nat} (hi:i<g.r.length) (v:Int) {m:Nat} (b:m<=g.r.length) :
  view ⟨g.r.set (pl g.r.length g.f i) v,g.f,m⟩=(view ⟨g.r,g.f,m⟩).set i v:=by
 apply cT;intro k;rw[yp,cB,yp,la];simp only[bZ];by_cases hk:k<m
 ·simp only[hk,if_true];by_cases a:i=k
  ·subst a;simp[hk,aQ,Af h.f (Nat.le_of_lt hi)]
  ·rw[af a];have:pl g.r.length g.f i≠pl g.r.length g.f k:=λe=>a (aap hi (by omega) e);simp[aQ,this]
 ·simp only[hk,if_false];by_cases a:i=k
  ·rw[ar a,af (by omega)]
  ·rw[af a]
theorem ajd (r:List Int) (f m:Nat):view ⟨r,f,m+1⟩=view ⟨r,f,m⟩++[r.getD (pl r.length f m) 0]:=by
 simp[view,ob]
theorem ajf {g:Ring} (h:g.ok) (a:g.m<g.r.length) (v:Int):view ⟨g.r.set (pl g.r.length g.f g.m) v,g.f,g.m+1⟩=view g++[v]:=by
 rw[ajd,bZ,Sq h a v h.m]
 have b:(view ⟨g.r,g.f,g.m⟩).set g.m v=view g:=by
  apply List.set_eq_of_length_le;rw[la];exact b7 _
 rw[b];simp[aQ,Af h.f h.m]
theorem aje {g:Ring} (h:g.ok) (a:0<g.m):view g=g.r.getD g.f 0::view ⟨g.r,pl g.r.length g.f 1,g.m-1⟩:=by
 apply cT;intro k;have b:=h.f;have c:=h.m
 cases k with
 | zero=>
  rw[yp,ar a];have:pl g.r.length g.f 0=g.f:=by unfold pl;split<;>omega
  rw[this]
  rfl
 | succ k=>
  rw[List.getElem?_cons_succ,yp,yp];by_cases hk:k+1<g.m
  ·rw[ar hk,ar (show k<g.m-1 by omega)]
   have:pl g.r.length g.f (k+1)=pl g.r.length (pl g.r.length g.f 1) k:=by
    have d:=h.pos;unfold pl;split<;>split<;>split<;>omega
   rw[this]
  ·rw[af hk,af (show ¬k<g.m-1 by omega)]
theorem aja (n:Nat):view ⟨aD n 0,0,0⟩=[]:=rfl
theorem Sp {g:Ring} (h:g.ok) {x:Int} {l:List Int} (a:view g=x::l):0<g.m/\g.r.getD g.f 0=x/\view ⟨g.r,pl g.r.length g.f 1,g.m-1⟩=l:=by
 have b:0<g.m:=by
  have:=la g;rw[a]at this;simp at this;omega
 rw[aje h b]at a;simp only[List.cons.injEq]at a;exact⟨b,a.1,a.2⟩
theorem ajc (r:List Int) (f:Nat) {m k:Nat} (h:k<=m):view ⟨r,f,k⟩=(view ⟨r,f,m⟩).take k:=by
 unfold view;rw[<-List.map_take,List.take_range,nj h]
theorem aba {g:Ring} (h:g.ok) (f:Int->Value) :
  ba (((g.r.map f).drop g.f).take (min (g.r.length-g.f) g.m)++((aD g.m (0:Int)).map f).drop (min (g.r.length-g.f) g.m)) (min (g.r.length-g.f) g.m)
   ((g.r.map f).take (min g.r.length (g.m-min (g.r.length-g.f) g.m)))=(view g).map f:=by
 have e:=h.f;have i:=h.m;apply cT;intro k;generalize j:min (g.r.length-g.f) g.m=n;have a:min g.r.length (g.m-n)=g.m-n:=by omega
 rw[a,eZ,yp];unfold ba;simp only[ng,gV,gD,eZ,iJ,cz,eh,kz,bO,fC];by_cases hk:k<g.m
 ·rw[ar hk];by_cases b:k<n
  ·have c:pl g.r.length g.f k=g.f+k:=by unfold pl;split<;>omega
   have d:g.f+k<g.r.length:=by omega
   simp[b,c,aQ,d]
   grind
  ·have c:pl g.r.length g.f k=k-n:=by unfold pl;split<;>omega
   have d:k-n<g.r.length:=by omega
   simp[c,aQ,d]
   grind
 ·rw[af hk];simp
  grind
theorem tZ {α:Type} {f:α->Value} {r:List α} {k:Nat} (h:k<r.length) {v:α}:ba (r.map f) k [f v]=(r.set k v).map f:=by
 unfold ba;rw[eY];apply cT;intro j;simp only[ng,gV,gD,cB,cz,eh,bO,im,nm]
 grind
theorem ND {α:Type} {f:α->List Value} {sz:Nat} (a:∀x,(f x).length=sz) (l:List α):(l.flatMap f).length=l.length*sz:=by
 induction l with
 | nil=>simp
 | cons x l b=>rw[n4,cz,a,b,im,lz,Nat.one_mul,Nat.add_comm]
theorem IL {α:Type} {f:α->List Value} {sz:Nat} (a:∀x,(f x).length=sz):∀{l:List α} {k o:Nat} {vs:List Value} {x:α} (hk:k<l.length),o+vs.length<=sz->f x=ba (f l[k]) o vs->
  ba (l.flatMap f) (k*sz+o) vs=(l.set k x).flatMap f
 | y::l,0,o,vs,x,_,d,b=>by
  have c:=a y;simp only[n4,Nat.zero_mul,fv,rV];rw[b];simp only[List.getElem_cons_zero];unfold ba;apply cT;intro j;simp only[ng,gV,gD,cz,eh,kz,c]
  grind
 | y::l,k+1,o,vs,x,hk,d,b=>by
  have c:=a y;simp only[n4,rW];have e:=IL a (l:=l) (k:=k) (o:=o) (vs:=vs) (x:=x) (by simpa using hk) d (by simpa using b);rw[<-e];unfold ba;have g:(k+1)*sz+o=sz+(k*sz+o):=by rw[lz,Nat.one_mul];omega
  rw[g];apply cT;intro j;simp only[ng,gV,gD,cz,eh,c];generalize k*sz+o=u
  grind
theorem Rz {a b vs:List Value} {o:Nat} (h:o+vs.length<=a.length):ba (a++b) o vs=ba a o vs++b:=by
 unfold ba;apply cT;intro j;simp only[ng,gV,gD,cz,eh,kz]
 grind
theorem NF {α:Type} {f:α->List Value} {sz:Nat} (a:∀x,(f x).length=sz) {l:List α} {k:Nat} (d:k<l.length):((l.flatMap f).drop (k*sz)).take sz=f l[k]:=by
 apply cT;intro j;rw[gV,gD];by_cases b:j<sz
 ·rw[ar b];have c:(f l[k])[j]?=aa ((f l[k])[j]'(by rw[a];exact b)):=by simp[a,b]
  rw[c];exact xb a d c
 ·rw[af b,fB (by rw[a];omega)]
theorem J6 {P:Program} {t e:TypeId} {bytes:Nat} {z:List Value} (k:dZ P t e 1 bytes z) {w w1:World} {p:Option Addr} {n c:Nat} {cs:List Value} {v:Value} (l:v.oneCell'=ah) (h:Sl w e 1 p n c cs) (o:(n+1)*bytes<=140737488355328) (y:n<=1048576)
  {T:TypeId} (b:dr w w1 (.cells (dB [v]) T (0,0))) (ty:TypeId) :
  ∃p' c' a,(bM #[t,t] ty #[.slice p n c,.slice (aa ⟨w.heap.size,0,ag⟩) 1 1]).run P w1=.ok (.slice p' (n+1) c') a/\Sl a e 1 p' (n+1) c' (cs++[v])/\au (bg p) w a/\(∀i,bg p' i->bg p i∨w.heap.size<=i):=by
 have q:=h.ak (b.ak no) (λ_ _ g=>g);have j:Sl w1 T 1 (aa ⟨w.heap.size,0,ag⟩) 1 1 [v]:=Sl.new b (by simp) (by unfold maxLen;omega);obtain⟨p',A,c',a,r,g,s,u,x⟩:=xU k q j.cells (m:=1) (d:=1) (by simp) (by simpa using l) (by simp) o (by omega) ty;refine⟨p',c',a,by rw[r,g],s,(b.ak _).trans u (λi _ hi=>hi),λi hi=>(x i hi).imp id (λh=>?_)⟩;rw[b.size]at h;omega
section
variable {α:Type} {f:α->Value}
end
theorem V3:dZ Tryz.prog 290 29 1 8 [.int .u64 0]:=⟨by kernel_rfl,by kernel_rfl,rfl,by omega⟩
structure vR (ws:List BV) (o:List Bool):Prop where
 len:ws.length=(o.length+63)/64
 bits:∀(i:Nat) (hi:i<ws.length) (k:Nat),k<64->ws[i].getLsbD k=o.getD (64*i+k) ae
def Jm (m:BV):Value:=.int .u64 (mi m)
def AA (x:List BV×List Bool) (p:Option Addr) (c:Nat):List Value:=[.slice p x.1.length c,I (x.2.length:Int),I ((x.2.count ah:Nat):Int)]
abbrev By (b:Nat):Ob ((List BV×List Bool)×Option Addr×Nat):=Hd b 292 29 1 AA (λx=>x.1.length) (λx=>x.1.map Jm)
def df (b:Nat):Ob (List Bool):=λw F o=>∃ws y,By b w F ((ws,o),y)/\vR ws o/\1<=o.length/\o.length<=1024
instance Frame.slo (b:Nat):Frame (df b) where
 ak:=λ⟨ws,y,h,r⟩ k a=>⟨ws,y,(Frame.hd ..).ak h k a,r⟩
 lt:=λ⟨_,_,h,_⟩=>(Frame.hd ..).lt h
def cG (o:List Bool) (n:Int):Bool:=if 1<=n then o.getD (n.toNat-1) ae else ae
def dX (o:List Bool):Int×Int:=match o.findIdx? (λx=>!x)with|some i=>((i:Int)+1,0)|none=>(0,5)
def iC (o:List Bool):List Bool:=match o.findIdx? (λx=>!x)with|some i=>o.set i ah|none=>o
def sk (o:List Bool) (n:Int):Int:=if cG o n then 0 else 4
def lK (o:List Bool) (n:Int):List Bool:=if cG o n then o.set (n.toNat-1) ae else o
def nJ (o:List Bool) (k:Nat):List Int:=((b8 k).filter (λi=>o.getD i ae)).map (λ(i:Nat)=>(i:Int)+1)
theorem NL (o:List Bool) (n:Int):(lK o n).length=o.length:=by unfold lK;split<;>simp
theorem aaa (o:List Bool) (k:Nat):nJ o (k+1)=if o.getD k ae then nJ o k++[(k:Int)+1]else nJ o k:=by
 unfold nJ;rw[ob,rU,fj];by_cases h:o.getD k ae=ah
 ·rw[ar h,List.filter_cons_of_pos (p:=λi=>o.getD i ae) h];rfl
 ·rw[af h,List.filter_cons_of_neg (p:=λi=>o.getD i ae) h];simp
theorem DI (o:List Bool) (k:Nat):(nJ o k).length<=k:=by unfold nJ;rw[bO];exact aX (jW ..) (by simp)
theorem Y1 {o:List Bool} {k:Nat} {n:Int}:n∈nJ o k↔1<=n/\n<=k/\cG o n=ah:=by
 unfold nJ cG;rw[cv];constructor
 ·rintro⟨i,hi,rfl⟩;rw[gC,dh]at hi;refine⟨by omega,by omega,?_⟩;rw[ar (by omega),show((i:Int)+1).toNat-1=i by omega];exact hi.2
 ·rintro⟨h1,c,a⟩;rw[ar h1]at a;exact⟨n.toNat-1,gC.2 ⟨dh.2 (by omega),a⟩,by omega⟩
theorem sq {o:List Bool} {n:Int} (h:cG o n=ah):1<=n/\n<=(o.length:Int):=by
 unfold cG at h;split at h
 ·refine⟨by assumption,?_⟩;by_cases a:n.toNat-1<o.length
  ·omega
  ·rw[aQ,fB (by omega)]at h;simp at h
 ·cases h
theorem pM {o:List Bool} {k:Nat}:cG o ((k:Int)+1)=o.getD k ae:=by
 unfold cG;rw[ar (by omega),show((k:Int)+1).toNat-1=k by omega]
theorem count_set {o:List Bool} {k:Nat} (a:k<o.length) (v:Bool):(o.set k v).count ah+(if o[k]then 1 else 0)=o.count ah+(if v then 1 else 0):=by
 induction o generalizing k with
 | nil=>simp at a
 | cons x l c=>
  cases k with
  | zero=>cases x<;>cases v<;>simp
  | succ k=>
   have:=c (k:=k) (by simpa using a);simp only[rW,List.count_cons,uC];omega
theorem FY (o:List Bool):o.count ah<=o.length:=List.count_le_length
theorem FX {o:List Bool}:o.count ah=o.length↔o.findIdx? (λx=>!x)=ag:=by
 rw[rT];constructor
 ·intro h x a;rw[List.count_eq_length]at h;simp[<-h x a]
 ·intro h;rw[List.count_eq_length];intro x a;have:=h x a;simpa using this.symm
theorem vR.set {ws:List BV} {o:List Bool} (h:vR ws o) {i k:Nat} (hi:i<ws.length) (l:k<64) (f:64*i+k<o.length) {v:Bool} {x:BV} (g:∀j,j<64->x.getLsbD j=if j=k then v else ws[i].getLsbD j):vR (ws.set i x) (o.set (64*i+k) v):=by
 refine⟨by simpa using h.len,λd a j c=>?_⟩;rw[bZ]at a;rw[List.getElem_set,aQ,cB];by_cases h1:i=d
 ·subst h1;rw[ar rfl,g j c];by_cases e:j=k
  ·subst e;simp[f]
  ·rw[af e,af (by omega),h.bits i hi j c,aQ]
 ·rw[af h1,af (by omega),h.bits d a j c,aQ]
theorem xe {m:BV} {k:Nat} (a:k<64):hs m (k:Int)=m.getLsbD k:=by
 unfold hs;rw[decide_eq_true (show 0<=(k:Int)/\(k:Int)<64 by omega)];simp
theorem Ki {m:BV} {k:Nat} (a:k<64):(aH .and .u64 (mi m) (mi (bt k))==0) = !m.getLsbD k:=by
 rw[wy,kW,<-xe a,<-J3];simp
theorem ajs {m:BV} {k j:Nat} (c:k<64) (a:j<64):(wi m k).getLsbD j=if j=k then ah else m.getLsbD j:=by
 rw[<-xe a,qX,xe a];by_cases h:j=k
 ·subst h;simp;omega
 ·simp[h];omega
theorem YP {m:BV} {k j:Nat} (a:j<64):(ls m k).getLsbD j=if j=k then ae else m.getLsbD j:=by
 rw[<-xe a,jy,xe a];by_cases h:j=k
 ·subst h;simp
 ·simp[h];omega
section
variable {w:World} {F:Fp} {b:Nat} {o:List Bool}
theorem D9 (n:Int) (w:World):Cx 107 #[I n] w λe w'=>
  (¬(1<=n/\n<=1024)/\e=Z (.tuple #[.pointer ag,I 2])/\w'=w)∨
  ((1<=n/\n<=1024)/\∃b F,e=Z (.tuple #[pt b,I 0])/\df b w' F (aD n.toNat ae)/\au no w w'/\∀i,F i->w.heap.size<=i):=by
 refine aeP ?_;refine⟨λc=>⟨λd=>.inl ⟨?_,rfl,rfl⟩,λd=>⟨by decide,?_⟩⟩,λc=>.inl ⟨?_,rfl,rfl⟩⟩
 ·simp at d;omega
 ·have c:¬n<1:=by simpa using c
  have d:¬1024<n:=by simpa using d
  obtain⟨m,rfl⟩:∃m:Nat,n=m:=⟨n.toNat,by omega⟩
  have r:aT .i64 (iH (aT .i64 (aT .i64 ((m:Int)+64)-1)) 64)=(((m+63)/64:Nat):Int):=by
   rw[aN (x:=(m:Int)+64) (by omega),aN (x:=(m:Int)+64-1) (by omega),wj (by omega),aN (by omega)];omega
  rw[r];obtain⟨w1,s,g,p⟩:=Rs (f:=Jm) (x0:=0) V3 w (n:=(m+63)/64) (by omega) (by omega) .i64 .i64;refine⟨_,_,_,w1,s,⟨λt j=>.inr ⟨by omega,w1.heap.size,λi=>i=w1.heap.size∨bg (aa ⟨w.heap.size,0,ag⟩) i,rfl,⟨aD ((m+63)/64) 0,(aa ⟨w.heap.size,0,ag⟩,(m+63)/64),⟨?_,?_,?_,λ_=>bB⟩,⟨by simp,λi hi k y=>?_⟩,by simp;omega,by simp;omega⟩,g.and (j.ak no),?_⟩⟩⟩
  ·show aL t w1.heap.size (AA (aD ((m+63)/64) 0,aD (aG (m:Int)) ae) _ ((m+63)/64)) _;unfold AA;simp only[fC,bK,List.count_replicate];exact j.aK
  ·have q:=p.2.ak (j.ak no) λ_ _ h=>h;simp only[fC]at q⊢;exact q
  ·rintro⟨a,l,u⟩;cases l;have:=g.size;have:=p.2.lt _ ⟨_,rfl,rfl⟩;simp only at u this;omega
  ·simp[aQ,iJ];split<;>rfl
  ·rintro i (rfl|⟨a,l,rfl⟩)
   ·exact g.size
   ·cases l;exact b7 _
 ·simp at c;omega
theorem ab5 (h:df b w F o):Cx 339 #[pt b] w λe w'=>e=Z (I (o.length:Int))/\w'=w:=by
 obtain⟨ws,y,a,c,d⟩:=h;refine aik ?_;exact⟨λh=>by simp at h,λ_=>⟨_,rfl,_,a.ax.cell rfl,rfl,rfl⟩⟩
theorem RI {o:List Bool} {n:Int} (h:1<=n/\n<=(o.length:Int)):∃i k:Nat,k<64/\64*i+k<o.length/\n=((64*i+k:Nat):Int)+1:=
 ⟨(n.toNat-1)/64,(n.toNat-1)%64,by omega,by omega,by omega⟩
theorem RF {ws:List BV} {y:Option Addr×Nat} (h:By b w F ((ws,o),y)) (j:vR ws o) (x:1<=o.length/\o.length<=1024) {i k:Nat} (z:k<64) (A:64*i+k<o.length) :
  Cx 363 #[pt b,I (((64*i+k:Nat):Int)+1)] w λe w'=>(∃a,y.1=aa a/\e=Z (.tuple #[.pointer (aa (a.add (i*1))),.int .u64 (mi (bt k))]))/\au no w w':=by
 refine Se ?_;refine⟨λ_=>⟨λ_=>⟨_,rfl,_,h.ax.cell rfl,λg=>absurd (aO g) (by simp only;omega),λ_=>?_⟩,λg=>absurd (aO g) (by omega)⟩,λg=>by simp at g⟩;intro w1 m n p q;have d:=au.same no m n p q;have f:=(Frame.hd ..).ak h d λ_ _ h=>h;have r:aT .i64 (((64*i+k:Nat):Int)+1-1)=((64*i+k:Nat):Int):=by rw[aN (by omega)];omega
 have s:iH ((64*i+k:Nat):Int) 64=(i:Int):=by rw[wj (by omega)];omega
 have t:eO ((64*i+k:Nat):Int) 64=(k:Int):=by rw[px (by omega)];omega
 have u:aT .i64 (i:Int)=(i:Int):=aN (by omega);have hi:i<ws.length:=by have:=j.len;omega
 obtain⟨a,c,_⟩:=f.sl.cells.ck (l:=ws) hi;rw[r,s,t,u,IM (by omega)]
 first
  | exact⟨_,rfl,_,_,_,f.ax.cell rfl,by decide,⟨by omega,by simp only;omega⟩,a,c,by decide,by omega,⟨a,c,rfl⟩,d⟩
  | exact⟨_,rfl,_,_,_,f.ax.cell rfl,by decide,by decide,by omega,⟨by omega,by simp only;omega⟩,a,c,⟨a,c,rfl⟩,d⟩
  | exact⟨_,rfl,_,_,_,f.ax.cell rfl,by decide,⟨by omega,by simp only;omega⟩,a,c,by decide,by omega,rfl,d⟩
theorem RG (h:df b w F o) {n:Int} (d:¬(1<=n/\n<=(o.length:Int))):Cx 363 #[pt b,I n] w λe w'=>e=Z (.tuple #[.pointer ag,.int .u64 0])/\w'=w:=by
 obtain⟨ws,y,a,f,i⟩:=h;refine Se ?_;refine⟨λ_=>⟨λg=>⟨_,rfl,_,a.ax.cell rfl,λ_=>⟨rfl,rfl⟩,λc=>?_⟩,λ_=>⟨rfl,rfl⟩⟩,λg=>by simp at g⟩;have:=aV g;have:=aV c;simp only at this;omega
theorem ab6 (h:df b w F o) (n:Int):Cx 340 #[pt b,I n] w λe w'=>e=Z (.bool (cG o n))/\au no w w':=by
 refine ail ?_;by_cases c:1<=n/\n<=(o.length:Int)
 ·obtain⟨ws,y,q,d,s⟩:=h;obtain⟨i,k,f,t,rfl⟩:=RI c;refine⟨(RF q d s f t).mono ?_⟩;rintro e w1 ⟨⟨a,u,rfl⟩,r⟩;have j:=(Frame.hd ..).ak q r λ_ _ h=>h;have hi:i<ws.length:=by have:=d.len;omega
  obtain⟨C,p,x⟩:=j.sl.cells.ck (l:=ws) hi;obtain rfl:=Option.some.inj (u.symm.trans p);have z:=Ki (m:=ws[i]) f;have A:=d.bits i hi k f;refine⟨_,_,rfl,λ_=>⟨_,rfl,_,x,?_,r⟩,λg=>by simp at g⟩;rw[bne,z,A,Bool.not_not,pM]
 ·refine⟨(RG h c).mono ?_⟩;rintro e w1 ⟨rfl,rfl⟩
  have:cG o n=ae:=by
   cases B:cG o n with
   | false=>rfl
   | true=>exact absurd (sq B) c
  rw[this];exact⟨_,_,rfl,λg=>by simp at g,λ_=>⟨rfl,au.refl _ _⟩⟩
theorem RH {ws:List BV} {y:Option Addr×Nat} (h:By b w F ((ws,o),y)) (s:vR ws o) (t:1<=o.length/\o.length<=1024) {w1:World} (n:au no w w1) {i k:Nat} (u:k<64) (z:64*i+k<o.length) (hi:i<ws.length) {v:Bool} {x:BV}
  (A:∀j,j<64->x.getLsbD j=if j=k then v else ws[i].getLsbD j) {K:World->Prop}
  (B:∀c,c.cell? ((⟨b,0,ag⟩:Addr).add 2)=aa (I ((o.count ah:Nat):Int))->Wr c ((⟨b,0,ag⟩:Addr).add 2) [I (((o.set (64*i+k) v).count ah:Nat):Int)] (λp=>ai (df b) w p F (o.set (64*i+k) v))->K c) :
  ∃a,y.1=aa a/\Wr w1 (a.add (i*1)) [.int .u64 (mi x)] K:=by
 have q:=(Frame.hd ..).ak h n λ_ _ h=>h;have m:=q.sl;obtain⟨a,f,_⟩:=m.cells.ck (l:=ws) hi;simp only at f m;rw[f]at m;refine⟨a,f,m.wr (o:=i*1) (by simp;omega) λc d g=>?_⟩;have hB:=q.BK (w1:=c) (by rw[f];exact g);rw[ez]at d;have e:[ay .u64 (mi x)]=[Jm x]:=rfl;rw[e,tZ hi]at d;refine B c (hB.cell rfl) (hB.wr (by simp[AA]) λp C=>?_)
 have D:ai (By b) w1 p F ((ws.set i x,o.set (64*i+k) v),y):=by
  refine q.put (p':=y.1) (c':=y.2) (w1:=c) ?_ (by rw[f];exact g) (λi hi=>.inl hi) ?_
  ·simp only[bZ];rw[f];exact d
  ·have r:=C;simp only[AA,bZ];exact r
 obtain⟨E,t1,t2,G⟩:=D;exact⟨E,⟨_,y,t1,s.set hi u z A,by simpa using t⟩,(n.mono (λ_ _ h=>h.elim)).trans t2 (λ_ _ h=>h),λi hi=>(G i hi).imp id (λh=>aX n.size h)⟩
theorem D8 (h:df b w F o) (n:Int):Cx 305 #[pt b,I n] w λe w'=>e=Z (I (sk o n))/\ai (df b) w w' F (lK o n):=by
 refine ahN ?_;by_cases r:1<=n/\n<=(o.length:Int)
 ·obtain⟨ws,y,s,f,G⟩:=id h;obtain⟨i,k,p,q,rfl⟩:=RI r;refine⟨(RF s f G p q).mono ?_⟩;rintro e w1 ⟨⟨a,H,rfl⟩,t⟩;have u:=(Frame.hd ..).ak s t λ_ _ h=>h;have hi:i<ws.length:=by have:=f.len;omega
  obtain⟨X,z,J⟩:=u.sl.cells.ck (l:=ws) hi;obtain rfl:=Option.some.inj (H.symm.trans z);have A:=Ki (m:=ws[i]) p;have L:=f.bits i hi k p;rw[L]at A;have B:cG o (((64*i+k:Nat):Int)+1)=o.getD (64*i+k) ae:=pM;have M:=FY o;have d:=count_set q ae;have c:o.getD (64*i+k) ae=o[64*i+k]:=by simp[q]
  refine⟨_,_,rfl,λg=>by simp at g,λ_=>⟨λ_=>⟨_,rfl,_,J,λg=>?_,λg=>?_⟩,λg=>by simp at g⟩⟩
  ·have g:o.getD (64*i+k) ae=ae:=by rw[A]at g;simpa using g
   rw[sk,lK,B,g];exact⟨rfl,ai.quiet h t⟩
  ·have g:o.getD (64*i+k) ae=ah:=by rw[A]at g;simpa using g
   rw[c]at g;rw[g]at d;simp only[if_true,gz,if_false]at d;refine⟨_,rfl,_,J,?_⟩;rw[yU]
   obtain⟨Y,C,N⟩:=RH s f G t p q hi (v:=ae) (x:=ls ws[i] k) (λj O=>YP O) (K:=λD=>∃a,aa (⟨b,0,ag⟩:Addr)=aa a/\∃n_1,D.cell? (bh a 2)=aa (ay .i64 n_1)/\∃a,aa (⟨b,0,ag⟩:Addr)=aa a/\Wr D (bh a 2) [ay .i64 (aT .i64 (n_1-1))] λw'=>cj (ay .i64 0)=cj (I (sk o (((64*i+k:Nat):Int)+1)))/\ai (df b) w w' F (lK o (((64*i+k:Nat):Int)+1)))
    (λD c1 c2=>⟨_,rfl,_,c1,_,rfl,by
     rw[aN (by omega),show((o.count ah:Nat):Int)-1=(((o.set (64*i+k) ae).count ah:Nat):Int) by omega];obtain⟨⟨P,T,Q,R,S,U⟩⟩:=c2;refine⟨⟨P,T,Q,R,S,λw' E=>⟨?_,?_⟩⟩⟩
     ·rw[sk,B,c,g];rfl
     ·rw[lK,B,c,g,ar rfl,show(((64*i+k:Nat):Int)+1).toNat-1=64*i+k by omega];exact U w' E⟩)
   obtain rfl:=Option.some.inj (H.symm.trans C);exact⟨_,rfl,N⟩
 ·have V:cG o n=ae:=by
   cases W:cG o n with
   | false=>rfl
   | true=>exact absurd (sq W) r
  refine⟨(RG h r).mono ?_⟩;rintro e w1 ⟨rfl,rfl⟩;rw[sk,lK,V];exact⟨_,_,rfl,λg=>by simp at g,λ_=>⟨λg=>by simp at g,λ_=>⟨rfl,ai.same h⟩⟩⟩
theorem Ea (hT:Tab w) (h:df b w F o):Cx 149 #[pt b] w λe w'=>e=Z (.tuple #[I (dX o).1,I (dX o).2])/\ai (df b) w w' F (iC o):=by
 obtain⟨ws,y,G,H,h3⟩:=id h;have am:=FY o;refine afv ?_;refine⟨λg=>by simp at g,λ_ w1 J L N O=>?_⟩;have d:=au.same no J L N O;have c:=(Frame.hd ..).ak G d λ_ _ h=>h;refine⟨_,rfl,_,c.ax.cell rfl,_,rfl,_,c.ax.cell rfl,λg=>?_,λg=>⟨_,rfl,_,_,_,c.ax.cell rfl,?_⟩⟩
 ·have g:o.count ah=o.length:=by have:=eq_of_beq g;simp only at this;omega
  have hn:=FX.1 g;simp only[dX,iC,hn];exact⟨by trivial,ai.quiet h d⟩
 ·have g:o.count ah≠o.length:=by have:=ne_of_beq_false g;simp only at this;omega
  have al:=H.len;refine⟨bJ bA (M:=AX) (σ:=Nat) (λj=>Gg (aa ⟨b,0,ag⟩) y.1 ws.length y.2 (ws.length:Int) (j:Int)) (λj w'=>j<=ws.length/\(∀i,i<64*j->i<o.length->o.getD i ae=ah)/\au no w w') (λj _=>ws.length-j) 0 ⟨rfl,rfl,rfl,rfl,trivial⟩ ⟨by omega,λi hi=>by omega,d⟩ ?_⟩;clear c d J L N O;rintro j w2 ⟨k1,k2,d⟩;rw[acJ];have c:=(Frame.hd ..).ak G d λ_ _ h=>h;refine⟨λQ=>?_,λQ=>?_⟩
  ·have t:j<ws.length:=by simpa using Q
   obtain⟨a,ha,hc⟩:=c.sl.cells.ck (l:=ws) t;refine⟨⟨by omega,by omega⟩,a,ha,_,hc,?_⟩;show Call Tryz.prog _ [.int .u64 (aH .xor .u64 (oa .u64) (mi ws[j]))] w2 _;rw[show oa .u64=18446744073709551615 by decide +kernel,ZU];refine⟨(Jj _ (hT.no d)).mono ?_⟩;rintro e w3 ⟨rfl,rfl⟩;refine⟨_,rfl,λu=>?_,λu=>?_⟩
   ·have p:=Sb.1 (aO u);obtain⟨k,P,z,A⟩:=xt p;have R:=Ew P z A;rw[R]
    have nb:∀i:Nat,i<64->hs (~~~ ws[j]) (i:Int) = !(o.getD (64*j+i) ae):=λi hi=>by
     rw[xe hi,BitVec.getLsbD_not,H.bits j t i hi];simp[hi]
    have f:o.getD (64*j+k) ae=ae:=by have:=nb k P;rw[z]at this;simpa using this.symm
    have n:∀i,i<64*j+k->i<o.length->o.getD i ae=ah:=λi hi q=>by
     by_cases r:i<64*j
     ·exact k2 i r q
     ·have:=nb (i-64*j) (by omega);rw[A _ (by omega),show 64*j+(i-64*j)=i by omega]at this;simpa using this.symm
    have B:64*j+k<o.length:=Decidable.byContradiction λap=>g (FX.2 (rT.2 λx S=>by
     obtain⟨i,hi,rfl⟩:=List.mem_iff_getElem.1 S;have:=n i (by omega) hi;simp[hi]at this;simp[this]))
    have hf:o.findIdx? (λx=>!x)=aa (64*j+k):=nk.2 ⟨B,by simp[B]at f;simp[f],λi hi=>by
     have:=n i hi (by omega);simp[show i<o.length by omega]at this;simp[this]⟩
    have C:=count_set B ah;have U:o[64*j+k]=ae:=by simp[B]at f;exact f
    rw[U]at C;simp only[if_true,gz,if_false]at C;have D:=FY (o.set (64*j+k) ah);rw[bZ]at D;intro w4 J L N O;have E:=d.and (au.same no J L N O);have h4:=(Frame.hd ..).ak G E λ_ _ h=>h;obtain⟨a4,s,V⟩:=h4.sl.cells.ck (l:=ws) t;refine⟨_,rfl,_,_,_,h4.ax.cell rfl,⟨by omega,by simp only;omega⟩,a4,s,_,V,by omega,⟨by omega,by simp only;omega⟩,a4,s,?_⟩;show Wr w4 _ [.int .u64 (aH .or .u64 (mi ws[j]) (fg .u64 1 (k:Int)))] _;rw[IM (by omega),Kj]
    obtain⟨a2,W,hW⟩:=RH G H h3 E P B t (v:=ah) (x:=wi ws[j] k) (λi hi=>ajs P hi) (K:=λX=>∃a,aa (⟨b,0,ag⟩:Addr)=aa a/\∃n_1,X.cell? (bh a 2)=aa (ay .i64 n_1)/\∃a,aa (⟨b,0,ag⟩:Addr)=aa a/\Wr X (bh a 2) [ay .i64 (aT .i64 (n_1+1))] λw'=>cj (wa #[I (aT .i64 (aT .i64 (aT .i64 ((j:Int)*64)+(k:Int))+1)),I 0])=cj (.tuple #[I (dX o).1,I (dX o).2])/\ai (df b) w w' F (iC o))
     (λX c1 c2=>⟨_,rfl,_,c1,_,rfl,by
      rw[aN (x:=((o.count ah:Nat):Int)+1) (by omega),show((o.count ah:Nat):Int)+1=(((o.set (64*j+k) ah).count ah:Nat):Int) by omega];obtain⟨⟨cc,T,r1,r2,r3,r4⟩⟩:=c2;refine⟨⟨cc,T,r1,r2,r3,λw' Y=>⟨?_,?_⟩⟩⟩
      ·simp only[dX,hf];rw[aN (x:=(j:Int)*64) (by omega),aN (x:=(j:Int)*64+(k:Int)) (by omega),aN (by omega)];have:(j:Int)*64+(k:Int)+1=((64*j+k:Nat):Int)+1:=by omega
       rw[this]
      ·simp only[iC,hf];exact r4 w' Y⟩)
    obtain rfl:=Option.some.inj (s.symm.trans W);exact hW
   ·have u:¬tz (~~~ ws[j])<64:=aV u;have hz : ~~~ ws[j]=0:=Decidable.byContradiction λp=>u (Sb.2 p);refine⟨j+1,⟨rfl,rfl,rfl,by rw[aN (by omega)];rfl,trivial⟩,⟨by omega,λi hi q=>?_,d⟩,by omega⟩;by_cases r:i<64*j
    ·exact k2 i r q
    ·have hb:=H.bits j t (i-64*j) (by omega);rw[show 64*j+(i-64*j)=i by omega]at hb;rw[<-hb];have:=congrArg (λm:BV=>m.getLsbD (i-64*j)) hz;simp only[BitVec.getLsbD_not]at this;simp[show i-64*j<64 by omega]at this;exact this
  ·have:j=ws.length:=by simp at Q;omega
   subst this;refine absurd (FX.2 (rT.2 λx S=>?_)) g;obtain⟨i,hi,rfl⟩:=List.mem_iff_getElem.1 S;have:=k2 i (by omega) hi;simp[hi]at this;simp[this]
theorem ab7 (h:df b w F o):Cx 272 #[pt b] w λe w'=>∃p c,e=Z (.slice p (nJ o o.length).length c)/\Loc w w' 3 p c (nJ o o.length):=by
 have A:o.length<=1024:=by obtain⟨_,_,_,_,l⟩:=h;exact l.2
 refine ahl ?_;refine⟨(ab5 h).mono ?_⟩;rintro e w1 ⟨rfl,rfl⟩
 refine⟨_,rfl,⟨bJ bA (M:=A9) (σ:=Nat×Option Addr×Nat) (λs=>Gw (aa ⟨b,0,ag⟩) s.2.1 (nJ o s.1).length s.2.2 (o.length:Int) (s.1:Int))
  (λs w'=>s.1<=o.length/\Loc w1 w' 3 s.2.1 s.2.2 (nJ o s.1)) (λs _=>o.length-s.1) (0,ag,0) ⟨rfl,rfl,rfl,rfl,trivial⟩ ⟨by omega,Loc.nil (au.refl _ _) _⟩ ?_⟩⟩
 rintro⟨j,p,c⟩ m ⟨n,f⟩;simp only at n f⊢;rw[ac8];have a:=aaa o j;have q:=DI o j;refine⟨λg=>?_,λg=>?_⟩
 ·have B:j<o.length:=by simpa using g
  rw[aN (x:=(j:Int)+1) (by omega)];have r:df b m F o:=(Frame.slo b).ak h f.U λ_ _ h=>h;refine⟨(ab6 r _).mono ?_⟩;rintro e C ⟨rfl,t⟩;have d:=f.ak t;rw[pM];refine⟨_,rfl,λi=>⟨λD u=>?_⟩,λi=>?_⟩
  ·rw[ar i]at a;obtain⟨p',c',y,z,k⟩:=d.push ov (by omega) u 36;exact⟨p',_,c',y,z,(j+1,p',c'),⟨rfl,by rw[a];rfl,rfl,rfl,trivial⟩,⟨by simp only;omega,by rw[a];exact k⟩,by simp only;omega⟩
  ·rw[af (by rw[i];decide)]at a;exact⟨(j+1,p,c),⟨rfl,by rw[a];rfl,rfl,rfl,trivial⟩,⟨by simp only;omega,by rw[a];exact d⟩,by simp only;omega⟩
 ·have:j=o.length:=by simp at g;omega
  subst this;exact⟨p,c,rfl,f⟩
end
theorem Hv {o:List Bool} {k:Nat} (b:k<o.length) (v:Bool) (n:Int):cG (o.set k v) n=if n=(k:Int)+1 then v else cG o n:=by
 unfold cG;by_cases h1:1<=n
 ·rw[ar h1,ar h1];by_cases a:n=(k:Int)+1
  ·subst a;have c:((k:Int)+1).toNat-1=k:=by omega
   rw[ar rfl,c];simp[aQ,b]
  ·rw[af a];have:k≠n.toNat-1:=by omega
   simp[aQ,this]
 ·rw[af h1,af h1,af (by omega)]
theorem NK {o:List Bool} {n:Int} (h:cG o n=ah):sk o n=0/\∀v,cG (lK o n) v=(cG o v&&decide (v≠n)):=by
 obtain⟨b,c⟩:=sq h;refine⟨by rw[sk,ar h],λv=>?_⟩;rw[lK,ar h,Hv (by omega)];by_cases a:v=n
 ·rw[ar (by omega),a];simp
 ·rw[af (by omega),decide_eq_true (show v≠n from a),mu]
theorem aea {o:List Bool} {j:Nat} (b:j<o.length) (d:∀k,k<j->cG o ((k:Int)+1)=ah) (c:cG o ((j:Int)+1)=ae):dX o=((j:Int)+1,0)/\iC o=o.set j ah:=by
 have e:o.findIdx? (λx=>!x)=aa j:=by
  rw[nk];rw[pM]at c;refine⟨b,by simpa [aQ,b]using c,λk f=>?_⟩;have:=d k f;rw[pM]at this;have a:k<o.length:=by omega
  simpa [aQ,a]using this
 unfold dX iC;rw[e];exact⟨rfl,rfl⟩
theorem ad8 {o:List Bool} (b:∀k,k<o.length->cG o ((k:Int)+1)=ah):dX o=(0,5)/\iC o=o:=by
 have c:o.findIdx? (λx=>!x)=ag:=by
  rw[rT];intro v d;obtain⟨k,a,rfl⟩:=tg d;have:=b k a;rw[pM]at this;simpa [aQ,a]using this
 unfold dX iC;rw[c];exact⟨rfl,rfl⟩
theorem Ek (o:List Bool):(∃j:Nat,j<o.length/\dX o=((j:Int)+1,0)/\iC o=o.set j ah/\cG o ((j:Int)+1)=ae)∨(dX o=(0,5)/\iC o=o):=by
 unfold dX iC
 cases b:o.findIdx? (λx=>!x)with
 | none=>exact .inr ⟨rfl,rfl⟩
 | some j=>
  obtain⟨a,c,_⟩:=nk.1 b;refine .inl ⟨j,a,rfl,rfl,?_⟩;rw[pM];simpa [aQ,a]using c
def jm {σ:Type} (A:Ob σ):List σ->World->Fp->Prop
 | [],_,F=>∀i,¬F i
 | s::l,w,F=>∃F1 F2,A w F1 s/\jm A l w F2/\(∀i,F i↔F1 i∨F2 i)/\∀i,F1 i->¬F2 i
def Fam {σ:Type} (A:Ob σ):Ob (List σ):=λw F l=>jm A l w F
section
variable {σ:Type} {A:Ob σ} {w w':World} {F:Fp} {l:List σ} {s:σ}
theorem jm.ak [fa:Frame A]:∀{l:List σ} {F G:Fp},jm A l w F->au G w w'->(∀i,F i->¬G i)->jm A l w' F
 | [],_,_,h,_,_=>h
 | s::l,F,G,⟨F1,F2,h1,e,a,f⟩,k,d=>
  ⟨F1,F2,fa.ak h1 k (λi hi=>d i ((a i).2 (.inl hi))),jm.ak e k (λi hi=>d i ((a i).2 (.inr hi))),a,f⟩
theorem jm.lt [fa:Frame A]:∀{l:List σ} {F:Fp},jm A l w F->∀i,F i->i<w.heap.size
 | [],_,h,i,hi=>absurd hi (h i)
 | s::l,F,⟨F1,F2,h1,a,d,e⟩,i,hi=>((d i).1 hi).elim (fa.lt h1 i) (jm.lt a i)
instance Frame.lJ [Frame A]:Frame (Fam A) where
 ak:=jm.ak
 lt:=jm.lt
theorem Fam.nil (w:World):Fam A w (λ_=>False) []:=λ_ h=>h
theorem Fam.rep {n:Nat} (h:A w (λ_=>False) s):Fam A w (λ_=>False) (aD n s):=by
 induction n with
 | zero=>exact Fam.nil w
 | succ n a=>exact⟨_,_,h,a,λi=>by simp,λ_ h=>h.elim⟩
theorem Fam.at [fa:Frame A]:∀{l:List σ} {F:Fp} (_:Fam A w F l) {i:Nat} (hi:i<l.length),∃F1,A w F1 l[i]/\(∀j,F1 j->F j)/\∀w' e,ai A w w' F1 e->ai (Fam A) w w' F (l.set i e)
 | s::l,F,h,0,_=>by
  obtain⟨F1,f,g⟩:=aF.left (A:=A) (B:=Fam A) (x:=(s,l)) h;obtain⟨F1,F2,f,g,a,m⟩:=h;refine⟨F1,f,λj o=>(a j).2 (.inl o),λw' e k=>?_⟩;obtain⟨n,q,k2,r⟩:=k;refine⟨λi=>n i∨F2 i,⟨n,F2,q,jm.ak g k2 (λi hi d=>m i d hi),λ_=>bB,λi hi d=>?_⟩,k2.mono (λi _ hi=>(a i).2 (.inl hi)),λi hi=>?_⟩
  ·rcases r i hi with h|h
   ·exact m i h d
   ·have:=jm.lt g i d;omega
  ·rcases hi with hi|hi
   ·exact(r i hi).imp (λh=>(a i).2 (.inl h)) id
   ·exact .inl ((a i).2 (.inr hi))
 | s::l,F,⟨G1,G2,f,g,a,m⟩,i+1,hi=>by
  obtain⟨F1,q,y,k2⟩:=Fam.at (l:=l) (F:=G2) g (i:=i) (by simpa using hi);refine⟨F1,q,λj o=>(a j).2 (.inr (y j o)),λw' e k=>?_⟩;obtain⟨n,z,t,u⟩:=k2 w' e k;refine⟨λi=>G1 i∨n i,⟨G1,n,fa.ak f t m,z,λ_=>bB,λi hi d=>?_⟩,t.mono (λi _ hi=>(a i).2 (.inr hi)),λi hi=>?_⟩
  ·rcases u i d with h|h
   ·exact m i hi h
   ·have:=fa.lt f i hi;omega
  ·rcases hi with hi|hi
   ·exact .inl ((a i).2 (.inl hi))
   ·exact(u i hi).imp (λh=>(a i).2 (.inr h)) id
theorem Fam.BG [fa:Frame A]:∀{l:List σ} {F:Fp} (_:Fam A w F l) {i:Nat} (hi:i<l.length),∃F1,(∀j,F1 j->F j)/\∀w1 G,au G w w1->(∀j,F j->¬G j)->A w1 F1 l[i]/\∀w' f,ai A w1 w' F1 f->ai (Fam A) w1 w' F (l.set i f)
 | s::l,F,h,0,_=>by
  obtain⟨F1,F2,t,u,a,g⟩:=h;refine⟨F1,λj m=>(a j).2 (.inl m),λw1 G n o=>?_⟩;have d:=fa.ak t n (λi hi=>o i ((a i).2 (.inl hi)));have q:=jm.ak u n (λi hi=>o i ((a i).2 (.inr hi)));refine⟨d,λw' f k=>?_⟩;obtain⟨r,y,k2,B⟩:=k;refine⟨λi=>r i∨F2 i,⟨r,F2,y,jm.ak q k2 (λi hi e=>g i e hi),λ_=>bB,λi hi e=>?_⟩,k2.mono (λi _ hi=>(a i).2 (.inl hi)),λi hi=>?_⟩
  ·rcases B i hi with h|h
   ·exact g i h e
   ·have:=jm.lt q i e;omega
  ·rcases hi with hi|hi
   ·exact(B i hi).imp (λh=>(a i).2 (.inl h)) id
   ·exact .inl ((a i).2 (.inr hi))
 | s::l,F,⟨G1,G2,t,u,a,g⟩,i+1,hi=>by
  obtain⟨F1,H,y⟩:=Fam.BG (l:=l) (F:=G2) u (i:=i) (by simpa using hi);refine⟨F1,λj m=>(a j).2 (.inr (H j m)),λw1 G n o=>?_⟩;obtain⟨J,z⟩:=y w1 G n (λj m=>o j ((a j).2 (.inr m)));have d:=fa.ak t n (λi hi=>o i ((a i).2 (.inl hi)));refine⟨J,λw' f k=>?_⟩;obtain⟨r,z,C,D⟩:=z w' f k;refine⟨λi=>G1 i∨r i,⟨G1,r,fa.ak d C g,z,λ_=>bB,λi hi e=>?_⟩,C.mono (λi _ hi=>(a i).2 (.inr hi)),λi hi=>?_⟩
  ·rcases D i e with h|h
   ·exact g i hi h
   ·have:=fa.lt d i hi;omega
  ·rcases hi with hi|hi
   ·exact .inl ((a i).2 (.inl hi))
   ·exact(D i hi).imp (λh=>(a i).2 (.inr h)) id
theorem Fam.push [fa:Frame A]:∀{l:List σ} {F:Fp} (_:Fam A w F l) (_:au no w w') {G:Fp} (_:A w' G s) (_:∀i,G i->w.heap.size<=i),ai (Fam A) w w' F (l++[s])
 | [],F,h,k,G,hA,a=>⟨G,⟨G,λ_=>False,hA,λ_ h=>h,λi=>by simp,λ_ _ h=>h⟩,k.mono (λ_ _ h=>h.elim),λi hi=>.inr (a i hi)⟩
 | t::l,F,⟨G1,G2,h1,g,d,j⟩,k,G,hA,a=>by
  obtain⟨e,m,o,f⟩:=Fam.push (l:=l) (F:=G2) g k hA a;refine⟨λi=>G1 i∨e i,⟨G1,e,fa.ak h1 k (λ_ _ h=>h),m,λ_=>bB,λi hi n=>?_⟩,k.mono (λ_ _ h=>h.elim),λi hi=>?_⟩
  ·rcases f i n with h|h
   ·exact j i hi h
   ·have:=fa.lt h1 i hi;omega
  ·rcases hi with hi|hi
   ·exact .inl ((d i).2 (.inl hi))
   ·exact(f i hi).imp (λh=>(d i).2 (.inr h)) id
end
section
variable {T:TypeId} {w w':World} {F:Fp} {p:Option Addr} {c:Nat} {l:List Int}
theorem Ls.cells (h:Ls T w F (p,c,l)):Cells w p (l.map (ay .i64)):=h.2.cells
theorem Ls.zero (h:Ls T w F (p,c,l)) (d:p=ag):l=[]/\c=0:=by
 obtain⟨_,_,_,a⟩:=h.2;subst d;exact⟨mq a.1,a.2⟩
theorem Ls.room (h:Ls T w F (p,c,l)):l.length<=c:=h.2.2.1
theorem Ls.behind (h:Ls T w F (p,c,l)) {k:Nat} (a:k<=l.length):ai (Ls T) w w F (fJ p c k 1,c-k,l.drop k):=by
 refine⟨bg (fJ p c k 1),⟨λ_=>bB,?_⟩,au.refl _ _,λi hi=>.inl ((h.1 i).2 (NH i hi))⟩;have:=h.2.M0 k a;rw[ez,<-List.map_drop]at this;simp only[kz];exact this
theorem Ls.first (h:Ls T w F (p,c,l)) {k:Nat} (e:k<=l.length):ai (Ls T) w w F (fJ p k 0 1,k,l.take k):=by
 obtain⟨f,j,g,m,d⟩:=h;simp only at f j g m d;have n:k<=c:=aX e g;refine⟨bg (fJ p k 0 1),⟨λ_=>bB,?_⟩,au.refl _ _,λi hi=>.inl ((f i).2 (NH i hi))⟩;simp only[RR,eh,nj e];refine⟨by simp;omega,b7 _,by omega,?_⟩
 cases p with
 | none=>obtain⟨r,t⟩:=d;exact⟨by omega,by omega⟩
 | some a=>
  obtain⟨cells,o,hs,u,q⟩:=d;refine⟨cells,o,hs,by omega,?_⟩;rw[List.map_take,<-q,List.take_take];congr 1;omega
theorem Ls.empty (h:Ls T w F (p,c,l)):ai (Ls T) w w F (ag,0,[]):=⟨λ_=>False,⟨λi=>⟨λh=>h.elim,λ⟨a,d,_⟩=>by cases d⟩,Sl.nil _ _ _⟩,au.refl _ _,λ_ h=>h.elim⟩
theorem Ls.more {P:Program} {t:TypeId} {z:List Value} (o:dZ P t T 1 8 z) (h:Ls T w F (p,c,l)) {q:Option Addr} {m:List Int} {d:Nat} (r:Cells w q (m.map (ay .i64))) (e:q=ag->d=0) (y:l.length+m.length<=1048576) (ty:TypeId) :
  ∃p' c' a,(bM #[t,t] ty #[.slice p l.length c,.slice q m.length d]).run P w=.ok (.slice p' (l++m).length c') a/\ai (Ls T) w a F (p',c',l++m):=by
 obtain⟨p',B,c',a,u,f,g,j,n⟩:=xU o h.2 r (m:=m.length) (d:=d) (by simp) (by simp[Value.oneCell']) e (by simp only;omega) (by simp only;omega) ty;simp only at f g j n;subst f;refine⟨p',c',a,by rw[cz];exact u,bg p',⟨λ_=>bB,?_⟩,j.mono (λi _ hi=>(h.1 i).2 hi),λi hi=>(n i hi).imp (λk=>(h.1 i).2 k) id⟩;simp only[cz,fj];exact g
theorem Ls.fresh {p':Option Addr} {c':Nat} {l':List Int} (k:Loc w w' T p' c' l'):ai (Ls T) w w' F (p',c',l'):=
 ⟨bg p',⟨λ_=>bB,k.S⟩,k.U.mono (λ_ _ h=>h.elim),λi hi=>.inr (k.F i hi)⟩
end
section
variable {w w1 w':World} {F:Fp}
abbrev iU:=Option Addr×Nat×List Int
def gG (y:iU):Value:=.slice y.1 y.2.2.length y.2.1
def rws (ys:List iU):List (List Int):=ys.map (·.2.2)
theorem vr (ys:List iU):(rws ys).length=ys.length:=by simp[rws]
theorem Aw (ys:List iU) {i:Nat} (hi:i<ys.length):(rws ys)[i]'(by rw[vr];exact hi)=ys[i].2.2:=by simp[rws]
theorem Rv (ys:List iU) (i:Nat) (p:Option Addr) (c:Nat) (l:List Int):rws (ys.set i (p,c,l))=(rws ys).set i l:=by simp[rws,eY]
def Tb (b:Nat) (T E I:TypeId) (enc:Option Addr->Nat->Nat->List Value):Ob (List (List Int)):=λw F x=>∃y a,
 aF (Hd b T E 1 (λ(a:List iU) p c=>enc p a.length c) (λa=>a.length) (λa=>a.map gG)) (Fam (Ls I)) w F ((a,y),a)/\rws a=x
variable {b:Nat} {T E I:TypeId} {enc:Option Addr->Nat->Nat->List Value} {x:List (List Int)}
instance Frame.tb:Frame (Tb b T E I enc) where
 ak:=λ⟨y,a,h,r⟩ k d=>⟨y,a,Frame.star.ak h k d,r⟩
 lt:=λ⟨_,_,h,_⟩=>Frame.star.lt h
theorem Tb.ax (h:Tb b T E I enc w F x):∃p c,aL w b (enc p x.length c) T:=by
 obtain⟨y,d,h,rfl⟩:=h;obtain⟨F1,a,_⟩:=h.left;rw[vr];exact⟨_,_,a.ax⟩
structure uv (b:Nat) (T E I:TypeId) (enc:Option Addr->Nat->Nat->List Value) (w:World) (F:Fp) (x:List (List Int)) (i:Nat) (l:List Int) (a:Addr) (c0:Nat) (p:Option Addr) (c:Nat) (F1:Fp):Prop where
 ls:Ls I w F1 (p,c,l)
 sub:∀i,F1 i->F i
 ax:∀w',au F1 w w'->aL w' b (enc (aa a) x.length c0) T
 cell:∀w',au F1 w w'->w'.cell? (a.add (i*1))=aa (.slice p l.length c)
 put:∀w1 p' c' l',ai (Ls I) w w1 F1 (p',c',l')->∀K:World->Prop,(∀w',ai (Tb b T E I enc) w w' F (x.set i l')->K w')->Wr w1 (a.add (i*1)) [.slice p' l'.length c'] K
def uw (b:Nat) (T E I:TypeId) (enc:Option Addr->Nat->Nat->List Value) (w:World) (F:Fp) (x:List (List Int)) (i:Nat) (a:Addr) (c0:Nat) (p:Option Addr) (c:Nat):Prop:=∃d,
 aF (Hd b T E 1 (λ(d:List iU) p c=>enc p d.length c) (λd=>d.length) (λd=>d.map gG)) (Fam (Ls I)) w F ((d,(aa a,c0)),d)/\rws d=x/\∃hi:i<d.length,d[i].1=p/\d[i].2.1=c
theorem uw.ak {i:Nat} {a:Addr} {c0:Nat} {p:Option Addr} {c:Nat} {G:Fp} (h:uw b T E I enc w F x i a c0 p c) (k:au G w w') (d:∀i,F i->¬G i):uw b T E I enc w' F x i a c0 p c:=by
 obtain⟨e,h,r⟩:=h;exact⟨e,Frame.star.ak h k d,r⟩
theorem au.nn {F:Fp} (h:au no w w'):au F w w':=h.mono (λ_ _ h=>h.elim)
theorem uv.kL {i:Nat} {l:List Int} {a:Addr} {c0:Nat} {p:Option Addr} {c:Nat} {F1:Fp} (h:uv b T E I enc w F x i l a c0 p c F1):aL w b (enc (aa a) x.length c0) T:=h.ax _ (au.refl _ _)
theorem uv.b9 {i:Nat} {l:List Int} {a:Addr} {c0:Nat} {p:Option Addr} {c:Nat} {F1:Fp} (h:uv b T E I enc w F x i l a c0 p c F1):w.cell? (a.add (i*1))=aa (.slice p l.length c):=h.cell _ (au.refl _ _)
theorem uv.cells {i:Nat} {l:List Int} {a:Addr} {c0:Nat} {p:Option Addr} {c:Nat} {F1:Fp} (h:uv b T E I enc w F x i l a c0 p c F1):Cells w p (l.map (ay .i64)):=h.ls.cells
theorem Tb.raw (h:Tb b T E I enc w F x) {i:Nat} (hi:i<x.length):∃a c0 p c,uw b T E I enc w F x i a c0 p c:=by
 obtain⟨⟨m,j⟩,e,h,rfl⟩:=h;have d:i<e.length:=by simpa [rws]using hi
 obtain⟨F1,k,_⟩:=h.left;obtain⟨a,g,n⟩:=k.sl.cells.ck (f:=gG) (l:=e) d;simp only at g;subst g;exact⟨a,j,_,_,e,h,rfl,d,rfl,rfl⟩
theorem uw.open {i:Nat} {a:Addr} {c0:Nat} {p:Option Addr} {c:Nat} (h:uw b T E I enc w F x i a c0 p c) (hi:i<x.length):∃F1,uv b T E I enc w F x i x[i] a c0 p c F1:=by
 obtain⟨e,h,rfl,g,rfl,rfl⟩:=h;obtain⟨G1,G2,u,H,n,y⟩:=h;simp only at u H;obtain⟨F1,R,J,k2⟩:=Fam.at H g;have L:∀w',au F1 w w'->Hd b T E 1 (λ(e:List iU) p c=>enc p e.length c) (λe=>e.length) (λe=>e.map gG) w' G1 (e,(aa a,c0)):=λw' k=>(Frame.hd ..).ak u k (λj d m=>y j d (J j m));refine⟨F1,?_,λj d=>(n j).2 (.inr (J j d)),λw' k=>?_,λw' k=>?_,λw1 p' c' l' k K S=>?_⟩
 ·rw[Aw _ g];exact R
 ·rw[vr];exact(L w' k).ax
 ·obtain⟨X,z,B⟩:=(L w' k).sl.cells.ck (f:=gG) (l:=e) g;cases z;rw[B,Aw _ g];rfl
 ·obtain⟨M,N,C,D⟩:=k2 _ _ k;have q:=(Frame.hd ..).ak u C y;refine q.sl.wr (o:=i*1) (by simp;omega) λw' G U=>S w' ?_;rw[ez]at G
  have V:ba (e.map gG) i [.slice p' l'.length c']=(e.set i (p',c',l')).map gG:=by
   have:=tZ (f:=gG) (r:=e) g (v:=(p',c',l'));exact this
  rw[V]at G;have W:=q.elems (w':=w') (s':=e.set i (p',c',l')) (by simp only[bZ];exact G) U (by simp only[bZ]);obtain⟨O,t1,t2,P⟩:=W;have t:=(Frame.hd ..).lt u;refine⟨λj=>O j∨M j,⟨(aa a,c0),e.set i (p',c',l'),⟨O,M,t1,Frame.lJ.ak N t2 ?_,λ_=>bB,?_⟩,Rv ..⟩,?_,?_⟩
  ·intro j d m;rcases D j d with h|h
   ·exact y j m h
   ·have:=t j m;omega
  ·intro j d m;rcases P j d with h|h
   ·rcases D j m with Q|Q
    ·exact y j h Q
    ·have:=t j h;omega
   ·have:=Frame.lJ.lt N j m;omega
  ·exact(C.mono (λj _ d=>(n j).2 (.inr d))).trans t2 (λj _ d=>(n j).2 (.inl d))
  ·rintro j (d|d)
   ·rcases P j d with h|h
    ·exact .inl ((n j).2 (.inl h))
    ·exact .inr (aX C.size h)
   ·rcases D j d with h|h
    ·exact .inl ((n j).2 (.inr h))
    ·exact .inr h
theorem Tb.new {n:Nat} {p:Option Addr} {c:Nat} {cs:List Value} (k:au no w w1) (d:Sl w1 E 1 p n c (aD n (ft ag 0 0))) (m:∀i,bg p i->w.heap.size<=i) (e:dr w1 w' (.cells cs.toArray T (0,0))) (f:enc p n c=cs) :
  Tb w1.heap.size T E I enc w' (λi=>i=w1.heap.size∨bg p i) (aD n []):=by
 have g:(aD n ((ag,0,[]):iU)).map gG=aD n (ft ag 0 0):=by simp[gG]
 refine⟨(p,c),aD n (ag,0,[]),⟨λi=>i=w1.heap.size∨bg p i,λ_=>False,⟨?_,?_,?_,λ_=>bB⟩,Fam.rep ⟨λi=>⟨λh=>h.elim,λ⟨a,j,_⟩=>by cases j⟩,Sl.nil _ _ _⟩,λi=>by simp,λ_ _ h=>h⟩,by simp[rws]⟩
 ·simp only[fC];rw[f];exact e.aK
 ·simp only[fC];rw[g];exact d.ak (e.ak no) (λ_ _ h=>h)
 ·intro h;exact absurd (d.lt _ h) (Nat.lt_irrefl _)
end
def At {σ:Type} (A:Nat->Ob σ):Ob (Nat×σ):=λw F x=>A x.1 w F x.2
def gY {σ:Type} (x:Nat×σ):Value:=.pointer (aa ⟨x.1,0,ag⟩)
instance Frame.at {σ:Type} {A:Nat->Ob σ} [fa:∀b,Frame (A b)]:Frame (At A) where
 ak:=λh k a=>(fa _).ak h k a
 lt:=λh=>(fa _).lt h
abbrev BA (σ:Type) (b:Nat) (T E:TypeId) (enc:Option Addr->Nat->Nat->List Value):Ob (List (Nat×σ)×Option Addr×Nat):=Hd b T E 1 (λa p c=>enc p a.length c) (λa=>a.length) (λa=>a.map gY)
def Tq {σ:Type} (A:Nat->Ob σ) (b:Nat) (T E:TypeId) (enc:Option Addr->Nat->Nat->List Value):Ob (List σ):=λw F x=>∃y a,aF (BA σ b T E enc) (Fam (At A)) w F ((a,y),a)/\a.map (·.2)=x
section
variable {σ:Type} {A:Nat->Ob σ} [fa:∀b,Frame (A b)] {b:Nat} {T E:TypeId} {enc:Option Addr->Nat->Nat->List Value} {w w1 w':World} {F:Fp} {x:List σ}
instance Frame.tq:Frame (Tq A b T E enc) where
 ak:=λ⟨y,a,h,r⟩ k c=>⟨y,a,Frame.star.ak h k c,r⟩
 lt:=λ⟨_,_,h,_⟩=>Frame.star.lt h
theorem Tq.ax (h:Tq A b T E enc w F x):∃p c,aL w b (enc p x.length c) T:=by
 obtain⟨y,d,h,rfl⟩:=h;obtain⟨F1,a,_⟩:=h.left;rw[bO];exact⟨_,_,a.ax⟩
theorem Tq.at (h:Tq A b T E enc w F x) {i:Nat} (hi:i<x.length):∃a c bi F1,aL w b (enc (aa a) x.length c) T/\w.cell? (a.add (i*1))=aa (.pointer (aa ⟨bi,0,ag⟩))/\A bi w F1 x[i]/\
  ∀w' g,ai (A bi) w w' F1 g->ai (Tq A b T E enc) w w' F (x.set i g):=by
 obtain⟨⟨p,c⟩,d,h,rfl⟩:=h;have e:i<d.length:=by simpa using hi
 obtain⟨G1,k,_⟩:=h.left;obtain⟨G2,n,k2⟩:=h.right;simp only at k n;obtain⟨a,o,t⟩:=k.sl.cells.ck (f:=gY) (l:=d) e;simp only at o;subst o;obtain⟨F1,u,_,y⟩:=Fam.at n e;refine⟨a,c,d[i].1,F1,by rw[bO];exact k.ax,t,by rw[qI];exact u,λw' g z=>?_⟩;obtain⟨m,t1,t2,B⟩:=z;have C:=k2 _ _ (y w' (d[i].1,g) ⟨m,t1,t2,B⟩);obtain⟨D,⟨H1,H2,q,r,G,H⟩,I,J⟩:=C;simp only at q r
 have K:(d.set i (d[i].1,g)).map (gY (σ:=σ))=d.map gY:=by
  rw[eY];show(d.map gY).set i (gY d[i])=d.map gY;apply cT;intro j;rw[cB];by_cases s:i=j
  ·subst s;simp[e]
  ·simp[s]
 refine⟨D,⟨(aa a,c),d.set i (d[i].1,g),⟨H1,H2,?_,r,G,H⟩,?_⟩,I,J⟩
 ·obtain⟨L,M,N,O⟩:=q;refine⟨?_,?_,N,O⟩
  ·simp only[bZ];exact L
  ·simp only[bZ];rw[K];exact M
 ·rw[eY]
theorem Tq.BG (h:Tq A b T E enc w F x) {i:Nat} (hi:i<x.length):∃a c bi F1,∀w1 G,au G w w1->(∀j,F j->¬G j)->aL w1 b (enc (aa a) x.length c) T/\w1.cell? (a.add (i*1))=aa (.pointer (aa ⟨bi,0,ag⟩))/\A bi w1 F1 x[i]/\
  ∀w' m,ai (A bi) w1 w' F1 m->ai (Tq A b T E enc) w1 w' F (x.set i m):=by
 obtain⟨⟨p,c⟩,e,h,rfl⟩:=h;have k:i<e.length:=by simpa using hi
 obtain⟨G1,G2,s,t,n,u⟩:=h;simp only at s t;obtain⟨a,J,Y⟩:=s.sl.cells.ck (f:=gY) (l:=e) k;simp only at J;subst J;obtain⟨F1,Z,N⟩:=Fam.BG t k;refine⟨a,c,e[i].1,F1,λw1 G y K=>?_⟩;have z:∀j,G1 j->¬G j:=λj d=>K j ((n j).2 (.inl d));have o:∀j,G2 j->¬G j:=λj d=>K j ((n j).2 (.inr d));have g:=(Frame.hd ..).ak s y z;have B:=Frame.lJ.ak t y o;obtain⟨p1,p2⟩:=N w1 G y o;obtain⟨a',C,D⟩:=g.sl.cells.ck (f:=gY) (l:=e) k;cases C;have hS:aF (BA σ b T E enc) (Fam (At A)) w1 F ((e,(aa a,c)),e):=⟨G1,G2,g,B,n,u⟩;refine⟨by rw[bO];exact g.ax,D,by rw[qI];exact p1,λw' m O=>?_⟩;obtain⟨H,t1,t2,P⟩:=O;obtain⟨q,Q,L,M⟩:=p2 w' (e[i].1,m) ⟨H,t1,t2,P⟩
 have R:(e.set i (e[i].1,m)).map (gY (σ:=σ))=e.map gY:=by
  rw[eY];show(e.map gY).set i (gY e[i])=e.map gY;apply cT;intro j;rw[cB];by_cases d:i=j
  ·subst d;simp[k]
  ·simp[d]
 have r:=(Frame.hd ..).ak g L u;have I:=(Frame.hd ..).lt g;refine⟨λj=>G1 j∨q j,⟨(aa a,c),e.set i (e[i].1,m),⟨G1,q,?_,Q,λ_=>bB,λj d S=>?_⟩,?_⟩,L.mono (λj _ d=>(n j).2 (.inr d)),λj d=>?_⟩
 ·obtain⟨U,V,W,X⟩:=r;refine⟨?_,?_,W,X⟩
  ·simp only[bZ];exact U
  ·simp only[bZ];rw[R];exact V
 ·rcases M j S with h|h
  ·exact u j d h
  ·have:=I j d;omega
 ·rw[eY]
 ·rcases d with d|d
  ·exact .inl ((n j).2 (.inl d))
  ·exact(M j d).imp (λh=>(n j).2 (.inr h)) id
theorem Tq.nil {c:List Value} (a:dr w w' (.cells c.toArray T (0,0))) (d:enc ag 0 0=c):Tq A w.heap.size T E enc w' (λi=>i=w.heap.size) []:=
 ⟨(ag,0),[],⟨_,λ_=>False,Hd.nil a (by simpa using d) rfl rfl,Fam.nil _,λi=>by simp,λ_ _ h=>h⟩,rfl⟩
theorem Tq.push {P:Program} {t:TypeId} {z:List Value} (S:dZ P t E 1 8 z) {k:Nat} (f:∀p n c p' J c',ba (enc p n c) k [.slice p' J c']=enc p' J c') (U:∀p n c,k+1<=(enc p n c).length) (h:Tq A b T E enc w F x) (V:x.length<=100000)
  {bq:Nat} {G:Fp} {s:σ} (o:au no w w1) (W:A bq w1 G s) (X:∀i,G i->w.heap.size<=i):∃p c,aL w1 b (enc p x.length c) T/\
  ∀u {L:TypeId} (M:dr w1 u (.cells (dB [.pointer (aa ⟨bq,0,ag⟩)]) L (0,0))) (ty:TypeId),∃p' c' q,(bM #[t,t] ty #[.slice p x.length c,.slice (aa ⟨w1.heap.size,0,ag⟩) 1 1]).run P u=.ok (.slice p' (x.length+1) c') q/\
   ∀K:World->Prop,(∀r,ai (Tq A b T E enc) w r F (x++[s])->K r)->Wr q ((⟨b,0,ag⟩:Addr).add k) [.slice p' (x.length+1) c'] K:=by
 obtain⟨⟨p,c⟩,y,h,rfl⟩:=h;obtain⟨G1,G2,B,N,C,Y⟩:=h;simp only at B N;rw[bO]at V;have a:BA σ b T E enc w1 G1 (y,(p,c)):=(Frame.hd ..).ak B o (λ_ _ h=>h);refine⟨p,c,by rw[bO];exact a.ax,λu L M ty=>?_⟩;obtain⟨p',c',q,Z,O,e,g⟩:=J6 S (v:=.pointer (aa ⟨bq,0,ag⟩)) rfl a.sl (by simp only;omega) (by simp only;omega) M ty;simp only at O e g;refine⟨p',c',q,by rw[bO];exact Z,λK hK=>?_⟩;have D:=a.BK e;rw[bO];refine D.wr (by simpa using U _ _ _) λr Q=>hK r ?_;rw[f]at Q;have H:=a.put (s':=y++[(bq,s)]) (p':=p') (c':=c') (by simp only[cz,qJ,fj];exact O) e g (by simp only[cz,qJ];exact Q);obtain⟨H1,t1,t2,R⟩:=H;have I:=Fam.push N o (show At A w1 G (bq,s)from W) X;obtain⟨H2,f1,f2,f3⟩:=I
 have l:∀j,H2 j->¬G1 j:=λj d m=>by
  rcases f3 j d with h|h
  ·exact Y j m h
  ·have:=(Frame.hd ..).lt B j m;omega
 refine⟨λj=>H1 j∨H2 j,⟨(p',c'),y++[(bq,s)],⟨H1,H2,t1,Frame.lJ.ak f1 t2 l,λ_=>bB,λj d m=>?_⟩,by simp⟩,?_,?_⟩
 ·rcases R j d with h|h
  ·exact l j m h
  ·have:=Frame.lJ.lt f1 j m;omega
 ·exact(o.nn).trans t2 (λj _ d=>(C j).2 (.inl d))
 ·rintro j (d|d)
  ·rcases R j d with h|h
   ·exact .inl ((C j).2 (.inl h))
   ·exact .inr (aX o.size h)
  ·rcases f3 j d with h|h
   ·exact .inl ((C j).2 (.inr h))
   ·exact .inr h
end
theorem ai.next {σ:Type} {A:Ob σ} {w w1 a:World} {F F1:Fp} {s1 c:σ} (h:A w1 F1 s1) (d:au F w w1) (e:∀i,F1 i->F i∨w.heap.size<=i) (k:ai A w1 a F1 c):ai A w a F c:=by
 obtain⟨F2,f,k2,g⟩:=k;refine⟨F2,f,d.trans k2 (λi hi j=>(e i j).elim id (λh=>absurd h (by omega))),λi hi=>?_⟩;rcases g i hi with h|h
 ·exact e i h
 ·exact .inr (aX d.size h)
def ct (L:List (List Int)) (v:Int):Nat:=L.flatten.count v
theorem ou {L:List (List Int)} {i:Nat} (hi:i<L.length) (l':List Int) (v:Int):ct (L.set i l') v+L[i].count v=ct L v+l'.count v:=by
 unfold ct
 induction L generalizing i with
 | nil=>simp at hi
 | cons l L a=>
  cases i with
  | zero=>simp only[rV,List.flatten_cons,ml,List.getElem_cons_zero];omega
  | succ i=>
   have:=a (i:=i) (by simpa using hi);simp only[rW,List.flatten_cons,ml,uC];omega
theorem Ga {L:List (List Int)} {i:Nat} (hi:i<L.length) (v:Int):L[i].count v<=ct L v:=by
 have:=ou hi [] v;simp at this;omega
theorem kN {L:List (List Int)} {i:Nat} (hi:i<L.length) {v:Int} (h:v∈L[i]):0<ct L v:=jV (rS.2 h) (Ga hi v)
theorem uO (n:Nat) (v:Int):ct (aD n []) v=0:=by
 unfold ct;rw[List.count_flatten];simp
theorem Cd {L:List (List Int)} (h:∀v,ct L v<=1) {i:Nat} (hi:i<L.length):L[i].Nodup:=List.nodup_iff_count.2 λv=>aX (Ga hi v) (h v)
theorem sh {l:List Int} {m:Nat} (a:l.Nodup) (h:∀v∈l,1<=v/\v<=m):l.length<=m:=by
 have:=a.length_le_of_subset (l₂:=(b8 m).map (λ(k:Nat)=>(k:Int)+1)) (λv b=>by
  obtain⟨c,d⟩:=h v b;rw[cv];exact⟨v.toNat-1,by simp;omega,by omega⟩)
 simpa using this
theorem yI (b k:Nat):bh (bh ⟨b,0,ag⟩ 0) k=(⟨b,0,ag⟩:Addr).add k:=by rw[add_lit b 0 0]
structure o0 (P:Program) (t k e:TypeId) (z:Value):Prop where
 under:P.underlying t=aa (.map k e)
 key:P.underlying k=aa (.int .i64)
 ok:vj P e=ah
 zero:zv P e=z
section
variable {α:Type} {f:α->Value}
def lj (f:α->Value) (es:List MapEntry) (L:List (Int×α)):Prop:=es.map (λe=>(e.key,e.val))=L.map (λp=>(ay .i64 p.1,f p.2))
theorem lj.len {es:List MapEntry} {L:List (Int×α)} (h:lj f es L):es.length=L.length:=by simpa [lj]using congrArg iX h
theorem lj.at {es:List MapEntry} {L:List (Int×α)} (h:lj f es L) {j:Nat} {e:MapEntry} (c:es[j]?=aa e):∃p,L[j]?=aa p/\e.key=.int .i64 p.1/\e.val=f p.2:=by
 have:=congrArg (λl=>l[j]?) h;simp only[eZ,c,fX]at this
 cases a:L[j]? with
 | none=>rw[a]at this;cases this
 | some p=>
  rw[a]at this;simp only[fX,Option.some.injEq,Prod.mk.injEq]at this;exact⟨p,rfl,this.1,this.2⟩
theorem lj.mem {es:List MapEntry} {L:List (Int×α)} (h:lj f es L) {p:Int×α} (c:p∈L):∃e∈es,e.key=.int .i64 p.1:=by
 have:(ay .i64 p.1,f p.2)∈es.map (λe=>(e.key,e.val)):=by rw[h];exact cv.2 ⟨p,c,rfl⟩
 obtain⟨e,d,a⟩:=cv.1 this;simp only[Prod.mk.injEq]at a;exact⟨e,d,a.1⟩
theorem lj.keys {es:List MapEntry} {L:List (Int×α)} (h:lj f es L):∀x∈es,MapKept.IsKey (.int .i64) x.key:=by
 intro x a;obtain⟨j,c⟩:=pf.1 a;obtain⟨p,_,d,_⟩:=h.at c;rw[d];rfl
def bF (b:Nat) (f:α->Value):Ob ((Int->Option α)×Nat):=λw F x=>(∀i,F i↔i=b)/\∃es clock L,w.heap[b]?=aa (.map es clock)/\lj f es.toList L/\(L.map eX).Nodup/\(∀k v,x.1 k=aa v↔(k,v)∈L)/\x.2=L.length/\MapKept.Stamped es clock
instance Frame.map (b:Nat) (f:α->Value):Frame (bF b f) where
 ak:=by
  rintro w w' F G s ⟨a,es,clock,L,c,r⟩ k d;exact⟨a,es,clock,L,(k.ax b (sy c) (d b ((a b).2 rfl))).trans c,r⟩
 lt:=by
  rintro w F s ⟨a,es,clock,L,c,r⟩ i hi;rw[(a i).1 hi];exact sy c
theorem bF.new {w w':World} (h:dr w w' (.map #[] 0)):bF w.heap.size f w' (λi=>i=w.heap.size) (λ_=>ag,0):=
 ⟨λ_=>bB,#[],0,[],h.ax,rfl,iK,λk v=>by simp,rfl,MapKept.stamped_empty 0⟩
def fe (x:(Int->Option α)×Nat) (k:Int) (v:α):(Int->Option α)×Nat:=(λj=>if j=k then aa v else x.1 j,if(x.1 k).isSome then x.2 else x.2+1)
def gK (x:(Int->Option α)×Nat) (k:Int):(Int->Option α)×Nat:=(λj=>if j=k then ag else x.1 j,if(x.1 k).isSome then x.2-1 else x.2)
variable {P:Program} {t k e:TypeId} {z:Value} {b:Nat} {w:World} {F:Fp} {x:(Int->Option α)×Nat}
theorem Dt {β γ:Type} (g:β->γ):∀(l:List β) (j:Nat),(l.eraseIdx j).map g=(l.map g).eraseIdx j
 | [],_=>rfl
 | _::_,0=>rfl
 | a::l,j+1=>by simp[Dt g l j]
theorem QE {L:List (Int×α)} (h:(L.map eX).Nodup) {i j:Nat} {p q:Int×α} (hi:L[i]?=aa p) (c:L[j]?=aa q) (d:p.1=q.1):i=j:=by
 have a:(L.map eX)[i]?=aa p.1:=by simp[hi]
 have g:(L.map eX)[j]?=aa p.1:=by simp[c,d]
 exact(List.getElem?_inj (dI.1 a).1 h).1 (a.trans g.symm)
theorem find_spec {es:List MapEntry} {L:List (Int×α)} (h:lj f es L) (s:(L.map eX).Nodup) (i:∀k v,x.1 k=aa v↔(k,v)∈L) (n:Int) :
  (x.1 n=ag/\Instr.findNow (.int .i64) (.int .i64 n) es 0=aa ag)∨∃j v e,x.1 n=aa v/\Instr.findNow (.int .i64) (.int .i64 n) es 0=aa (aa (j,f v))/\es[j]?=aa e/\e.key=.int .i64 n/\L[j]?=aa (n,v):=by
 rcases MapKept.findNow_spec (d:=.int .i64) (k:=.int .i64 n) rfl es 0 h.keys with⟨h1,a⟩|⟨j,e,h1,a,l⟩
 ·refine .inl ⟨?_,h1⟩
  cases c:x.1 n with
  | none=>rfl
  | some v=>
   obtain⟨e,r,g⟩:=h.mem ((i n v).1 c);exact absurd g (a e r)
 ·obtain⟨p,m,g,c⟩:=h.at a;obtain⟨o,q⟩:=p;have:o=n:=by rw[l]at g;simpa using g.symm
  subst this;simp only at c;exact .inr ⟨j,q,e,(i o q).2 (pf.2 ⟨j,m⟩),by rw[h1,c];simp,a,l,m⟩
theorem jL (a:o0 P t k e z) (h:bF b f w F x) (n:Int) (ok:Bool) :
  (dg t (.map (aa b)) (.int .i64 n) ok).run P w=.ok (if ok then .tuple #[((x.1 n).map f).getD z,.bool (x.1 n).isSome]else((x.1 n).map f).getD z) w:=by
 obtain⟨q,es,clock,L,d,i,l,m,r,o⟩:=h;have g:MapKept.IsKey (.int .i64) (.int .i64 n):=rfl;rcases find_spec i l m n with⟨c,k2⟩|⟨j,v,s,c,k2,u,y,A⟩
 ·have p:(zeroValue e).run P w=.ok z w:=by rw[vp a.ok,a.zero]
  simp[dg,fy a.under,MapKept.run_getObj_map d,MapKept.run_checkKey a.key g,MapKept.run_findKey a.key k2,c,p,rQ]
 ·simp[dg,fy a.under,MapKept.run_getObj_map d,MapKept.run_checkKey a.key g,MapKept.run_findKey a.key k2,c,rQ]
theorem EK {o a:Obj} (c:w.heap[b]?=aa o):au (λi=>i=b) w {w with heap:=w.heap.setIfInBounds b a}:=
 ⟨by simp,rfl,rfl,rfl,λi _ hi=>by simp[Ne.symm hi]⟩
theorem qk (q:o0 P t k e z) (h:bF b f w F x) (n:Int) (v:α) :
  ∃w',(gy t (.map (aa b)) (.int .i64 n) (f v)).run P w=.ok () w'/\ai (bF b f) w w' F (fe x n v):=by
 obtain⟨C,es,clock,L,l,r,D,s,J,A⟩:=h;have E:MapKept.IsKey (.int .i64) (.int .i64 n):=rfl;rcases find_spec r D s n with⟨u,k2⟩|⟨j,U,Q,u,k2,G,K,m⟩
 ·refine⟨_,by simp[gy,fy q.under,MapKept.run_getObj_map l,MapKept.run_checkKey q.key E,MapKept.run_findKey q.key k2,MapKept.run_setObj_map _ l,rQ];rfl,
   F,⟨C,_,_,L++[(n,v)],(MapKept.heap_set l).1,?_,?_,?_,?_,MapKept.stamped_push A (λy R H=>by
    obtain⟨i,hi⟩:=pf.1 R;obtain⟨p,I,B,_⟩:=r.at hi;rw[H]at B;have S:n=p.1:=by simpa using B
    have:=(s p.1 p.2).2 (pf.2 ⟨i,I⟩);rw[<-S,u]at this;cases this)⟩,(EK l).mono (λi _ hi=>(C i).2 hi),λ_ hi=>.inl hi⟩
  ·unfold lj at r⊢;simp[r]
  ·rw[fj,iW];refine⟨D,by simp,λa g c M=>?_⟩;simp at M;subst M;rintro rfl;obtain⟨p,I,rfl⟩:=cv.1 g;have:=(s p.1 p.2).2 I;rw[u]at this;cases this
  ·intro a c;simp only[fe,dS,fV,Prod.mk.injEq];by_cases g:a=n
   ·subst g;have:(a,c)∉L:=λT=>by have:=(s a c).2 T;rw[u]at this;cases this
    simp[this,eq_comm]
   ·simp[g,s]
  ·simp[fe,u,J]
 ·have N:es[j]?=aa Q:=by simpa using G
  refine⟨_,by simp[gy,fy q.under,MapKept.run_getObj_map l,MapKept.run_checkKey q.key E,MapKept.run_findKey q.key k2,N,K,MapKept.run_keyThatStays E,MapKept.run_setObj_map _ l,rQ];rfl,
   F,⟨C,_,_,L.set j (n,v),(MapKept.heap_set l).1,?_,?_,?_,?_,by
    refine MapKept.stamped_modify A _ _ (λ_ _=>rfl) (λe _ O=>?_);rw[N]at O;cases O;exact K.symm⟩,(EK l).mono (λi _ hi=>(C i).2 hi),λ_ hi=>.inl hi⟩
  ·unfold lj at r⊢;rw[Array.toList_modify,eY,<-r];apply cT;intro i;rw[eZ,List.getElem?_modify,cB,eZ];by_cases d:j=i
   ·subst d;have o:j<es.toList.length:=(dI.1 G).1;simp[G];simpa using o
   ·simp only[d,if_false];cases es.toList[i]?<;>simp
  ·rw[eY]
   have:(L.map eX).set j (n,v).1=L.map eX:=by
    apply cT;intro i;rw[cB];by_cases d:j=i
    ·subst d;have o:j<L.length:=(dI.1 m).1;have:=(dI.1 m).2;simp[o,this]
    ·simp[d]
   rw[this];exact D
  ·intro a c;simp only[fe];rw[pf];by_cases g:a=n
   ·subst g;simp only[if_true,Option.some.injEq];constructor
    ·rintro rfl;exact⟨j,by rw[cB];simp[(dI.1 m).1]⟩
    ·rintro⟨i,hi⟩;rw[cB]at hi;by_cases d:j=i
     ·subst d;simp[(dI.1 m).1]at hi;exact hi
     ·rw[af d]at hi;exact absurd (QE D m hi rfl) d
   ·rw[af g,s,pf];constructor
    ·rintro⟨i,hi⟩;refine⟨i,?_⟩;rw[cB,af (λd=>by subst d;rw[m]at hi;simp at hi;exact g hi.1.symm)];exact hi
    ·rintro⟨i,hi⟩;rw[cB]at hi;by_cases d:j=i
     ·subst d;simp[(dI.1 m).1]at hi;exact absurd hi.1.symm g
     ·rw[af d]at hi;exact⟨i,hi⟩
  ·simp[fe,u,J]
theorem sL (l:o0 P t k e z) (h:bF b f w F x) (n:Int) (k2 ty:TypeId) :
  ∃w',(gW #[t,k2] ty #[.map (aa b),.int .i64 n]).run P w=.ok (.tuple #[]) w'/\ai (bF b f) w w' F (gK x n):=by
 obtain⟨p,es,clock,L,d,q,r,s,A,o⟩:=h;have B:MapKept.IsKey (.int .i64) (.int .i64 n):=rfl;rcases find_spec q r s n with⟨u,k2⟩|⟨j,G,H,u,k2,C,I,y⟩
 ·refine⟨_,by simp[gW,fy l.under,MapKept.run_getObj_map d,MapKept.run_checkKey l.key B,MapKept.run_findKey l.key k2,MapKept.run_setObj_map _ d,rQ]<;>rfl,
   F,⟨p,_,_,L,(MapKept.heap_set d).1,q,r,?_,?_,o⟩,(EK d).mono (λi _ hi=>(p i).2 hi),λ_ hi=>.inl hi⟩
  ·intro a c;simp only[gK];by_cases m:a=n
   ·subst m;have:(a,c)∉L:=λD=>by have:=(s a c).2 D;rw[u]at this;cases this
    simp[this]
   ·simp[m,s]
  ·simp[gK,u,A]
 ·refine⟨_,by simp[gW,fy l.under,MapKept.run_getObj_map d,MapKept.run_checkKey l.key B,MapKept.run_findKey l.key k2,MapKept.run_setObj_map _ d,rQ];rfl,
   F,⟨p,_,_,L.eraseIdx j,(MapKept.heap_set d).1,?_,?_,?_,?_,MapKept.stamped_erase o _⟩,(EK d).mono (λi _ hi=>(p i).2 hi),λ_ hi=>.inl hi⟩
  ·unfold lj at q⊢;rw[Dt,<-q,<-Dt];congr 1;simp[Array.eraseIdxIfInBounds];split
   ·simp
   ·rename_i E;have:=(dI.1 C).1;simp at this;omega
  ·rw[Dt];exact r.eraseIdx _
  ·intro a c;simp only[gK];rw[List.mem_eraseIdx_iff_getElem?];by_cases m:a=n
   ·subst m;simp only[if_true];constructor
    ·intro h;cases h
    ·rintro⟨i,g,hi⟩;exact absurd (QE r hi y rfl) g
   ·rw[af m,s,pf];constructor
    ·rintro⟨i,hi⟩;exact⟨i,λg=>by subst g;rw[y]at hi;simp at hi;exact m hi.1.symm,hi⟩
    ·rintro⟨i,_,hi⟩;exact⟨i,hi⟩
  ·have:=(dI.1 y).1;simp[gK,u,A,List.length_eraseIdx,this]
theorem II (a:o0 P t k e z) (h:bF b f w F x) (ty:TypeId):(jY #[t] ty #[.map (aa b)]).run P w=.ok (.int .i64 (x.2:Int)) w:=by
 obtain⟨j,es,clock,L,c,d,l,m,g,i⟩:=h;have:=d.len;simp at this;simp[jY,fy a.under,MapKept.run_getObj_map c,goInt,rQ,g,this]
end
end Go.Dav
