/- What functions of the program come to, part 2; the texts are made small to keep within a claim. -/
import Derived.ArgAppend
import Derived.DataElems
import Derived.Laws.MathBits
import Derived.Lib.LaidTab
import Derived.Deep.OwnRows
import Derived.MapKept
import Derived.Test.YtobclpijhmkniaaGreatDoorPrtA
set_option linter.unusedVariables false
set_option linter.unusedSimpArgs false
set_option linter.unusedSectionVars false
namespace Go.Dav
open Go.Proofs
open Code renaming loop→bh
open _root_.Option renaming none→ah,some→aa,map_some→gK,map_eq_some_iff→lf
open Sem renaming run→aZ
open Builtin renaming append_→bR,delete_→iJ,zeroCells→xk,firstCells→um,lenOf→sZ,copy_→pA,len_→k9
open Result renaming ok→a7,andThen→s5
open _root_.Bool renaming false→ae,true→ag,true_and→dR,eq_iff_iff→ig,false_and→js,and_eq_true→aY,not_false→tc,and_true→lR,false_eq_true→fD
open _root_.Int renaming tmod→eH,toNat→aG,fdiv_eq_ediv_of_nonneg→vB,le_refl→fU,toNat_natCast→bQ,tdiv→jq,tdiv_eq_ediv_of_nonneg→xw,tmod_eq_emod_of_nonneg→ot
open Fn renaming func→aQ
open Instr renaming lookup→dr,mapUpdate→ic,makeSlice→mE
open BinOp renaming and→aN
open _root_.List renaming length→gu,take→rT,drop→rU,toArray→dK,getElem?_eq_some_iff→dQ,getElem?_take→iI,getElem?_drop→ik,length_drop→lN,length_take→eR,length_append→cG,eq_nil_of_length_eq_zero→lM,append_assoc→jP,take_of_length_le→rO,flatMap_cons→pC,getElem?_append_left→kr,getElem?_append_right→lP,foldl_cons→nm,range→bU,range_succ→nq,map_append→eI,filter_append→td,mem_filter→ij,mem_map→ck,mem_range→cD,length_filter_le→jN,take_succ_eq_append_getElem→eW,foldl_append→mH,take_length→dC,ext_getElem?→de,getElem?_append→od,getElem_mem→cx,mem_append→eG,mem_singleton→gJ,filter_congr→pB,filter_map→vz,length_map→bW,mem_cons→ez,map_map→s8,map_congr_left→uq,getElem?_map→fy,getD_eq_getElem?_getD→aO,getElem?_eq_getElem→cO,map_cons→np,sum_cons→s9,find?_eq_none→kt,replicate→aD,getElem?_eq_none→fV,length_replicate→fW,getElem?_set→cJ,length_set→bN,getElem?_replicate→jt,map_set→fx,length_cons→il,length_nil→oq,set_cons_zero→qD,getElem_cons_zero→vC,set_cons_succ→qE,getElem_cons_succ→te,findIdx?_eq_none_iff→ta,findIdx?_eq_some_iff_getElem→oo,getElem_of_mem→uv,getElem_map→rV,length_singleton→rW,count_append→ni,count_pos_iff→qB,mem_iff_getElem?→qy,nodup_nil→ju,nodup_append→jO
open IntKind renaming u8→cz,wrap→aV,bits→lQ,signed→kl,max→pG,u64→jo
open _root_.Nat renaming le_refl→aX,le_trans→aW,lt_of_lt_of_le→jM,le_of_eq→bF,zero_add→eU,zero_le→cB,mul_le_mul_right→fM,min_eq_left→oi,add_mul→la,add_zero→pF,mul_one→eX,one_mul→s7,mod_eq_of_lt→jr,and_lt_two_pow→xp,testBit_and→xn
open _root_.Array renaming getElem?_eq_some_iff→xu,ext'→pN
open World renaming cell?→bJ,cell?_of_block→uu
open Addr renaming add→bP,add_add→dX
open Value renaming int→aB,tuple→xq,slice→rM
open _root_.BitVec renaming ofInt→ib,eq_of_toNat_eq→xv,toNat_ofNat→oc
open _root_.Iff renaming rfl→bp
open _root_.Classical renaming byContradiction→eV
open Ending renaming returned→cN
open _root_.Prod renaming fst→fv
section
open Value IntKind Ending World Addr Tryz
open Value renaming pointer→ab,slice→ar,tuple→aw,bool→qv
set_option maxRecDepth 100000
noncomputable section
def M8:Mt:={N:=160,keep:=kq 0 [(1,[0]),(1,[0,11]),(1,[2,3]),(1,[0,4]),(8,[0,5]),(1,[5,140,141]),(1,[5,140,141,142]),(2,[5,140,141]),(1,[2,3])],bX:=[(14,(.range 16))],bk:=[(0,[5]),(1,[5,140,141])],lk:=[(13,[5,140,141])]}
def c8:=a8 f8
def W4:=c8.sr.sr.sr.sr.sr.sr.sr.sr.sr.sr.sr.sr
def N2:=c8.sr.sr.sr.sr.sr.sr.sr.sr.sr.sr.sr.sl.sr.sl.sl
def Ib (x:Option Addr) (x1 x2:Int):Env:=[vP 5 x,vI 140 x1,vI 141 x2]
def Rx (R:RT):=bo 0 [5] (SQ M8 W4 (Rt f8 R) (Rt f8 R))
theorem u8:UT 8 M8 c8 f8:=u_ func8 (by kernel_rfl)
theorem t8 (x w R):den prog M8 c8 (jv 0 [I x]) w (Rt f8 R)=
(Fz (decide (x<1)) (Fo (decide (x>64)) (R (Z (aw #[ab ah,I 2])) w) (Cu 11 [I x] w λn w'=>sU w' λr w'=>aJ w' [ab ah,ab ah,ab ah,ab ah,ab ah,ab ah,ab ah,ab ah,ab ah,ab ah,ab ah,ab ah,ab ah,ab ah,N3,I x,int .u64 n,int .u64 n,I 0,I 1073741824,map (aa r)] 94 λp w'=>Call prog 34 [I x] w' λe w'=>∃b n,e=Z (aw #[ab b,I n])/\Cp 33 [ab b,I n] w' λc w'=>Call prog 36 [I x] w' λe w'=>∃d n,e=Z (aw #[ab d,I n])/\Cp 35 [ab d,I n] w' λf w'=>∃a,aa p=aa a/\Wr w' (add (a.add 0) 0) [ab c] λw'=>∃a,aa p=aa a/\Wr w' (add (a.add 0) 1) [ab f] λw'=>Call prog 38 [I x] w' λe w'=>∃g n,e=Z (aw #[ab g,I n])/\Cp 37 [ab g,I n] w' λh w'=>Call prog 40 [I x] w' λe w'=>∃i n,e=Z (aw #[ab i,I n])/\Cp 39 [ab i,I n] w' λj w'=>∃a,aa p=aa a/\Wr w' (add (a.add 0) 2) [ab h] λw'=>∃a,aa p=aa a/\Wr w' (add (a.add 0) 3) [ab j] λw'=>Call prog 42 [I x] w' λe w'=>∃k n,e=Z (aw #[ab k,I n])/\Cp 41 [ab k,I n] w' λl w'=>Call prog 44 [I x] w' λe w'=>∃m n,e=Z (aw #[ab m,I n])/\Cp 43 [ab m,I n] w' λo w'=>∃a,aa p=aa a/\Wr w' (add (a.add 0) 4) [ab l] λw'=>∃a,aa p=aa a/\Wr w' (add (a.add 0) 5) [ab o] λw'=>Call prog 46 [I x] w' λe w'=>∃q n,e=Z (aw #[ab q,I n])/\Cp 45 [ab q,I n] w' λs w'=>Call prog 48 [I x,I 12] w' λe w'=>∃t n,e=Z (aw #[ab t,I n])/\Cp 47 [ab t,I n] w' λu w'=>∃a,aa p=aa a/\Wr w' (add (a.add 0) 6) [ab s] λw'=>∃a,aa p=aa a/\Wr w' (add (a.add 0) 7) [ab u] λw'=>Call prog 50 [I x] w' λe w'=>∃v n,e=Z (aw #[ab v,I n])/\Cp 49 [ab v,I n] w' λy w'=>Call prog 52 [I x] w' λe w'=>∃z n,e=Z (aw #[ab z,I n])/\Cp 51 [ab z,I n] w' λA w'=>∃a,aa p=aa a/\Wr w' (add (a.add 0) 8) [ab y] λw'=>∃a,aa p=aa a/\Wr w' (add (a.add 0) 9) [ab A] λw'=>Call prog 54 [I x] w' λe w'=>∃B n,e=Z (aw #[ab B,I n])/\Cp 53 [ab B,I n] w' λC w'=>Call prog 56 [I x] w' λe w'=>∃D n,e=Z (aw #[ab D,I n])/\Cp 55 [ab D,I n] w' λE w'=>∃a,aa p=aa a/\Wr w' (add (a.add 0) 12) [ab C] λw'=>∃a,aa p=aa a/\Wr w' (add (a.add 0) 13) [ab E] λw'=>aJ w' [int .u64 0,int .u64 0] 132 λF w'=>aJ w' [ab ah,map ah] 136 λG w'=>∃a,aa p=aa a/\Wr w' (add (a.add 0) 10) [ab (aa F)] λw'=>∃a,aa p=aa a/\Wr w' (add (a.add 0) 11) [ab (aa G)] λw'=>Cut (WP prog 160 (bh N2) (Ib (aa p) x 0) w' (Rx R)))) (R (Z (aw #[ab ah,I 2])) w)):=by kernel_rfl
theorem agf (x x1 x2 w B R):den prog M8 N2 (Ib x x1 x2) w (bC B (Rx R))=
(Fo (decide (x2<x1)) (Sm w λw'=>∃a,x=aa a/\Lq w' (add (a.add 0) 14) λp n c=>Call prog 58 [I 100,I 1000] w' λe w'=>∃b d,e=Z (aw #[ab b,I d])/\w'.cell? (add (a.add 0) 14)=aa (ar p n c)/\Cp 57 [ab b,I d] w' λf w'=>w'.cell? (add (a.add 0) 14)=aa (ar p n c)/\aJ w' [ab f] 137 λk w'=>w'.cell? (add (a.add 0) 14)=aa (ar p n c)/\∃g h i j,aZ prog (bR #[90,90] 90 #[ar p n c,ar (aa k) 1 1]) w'=a7 (ar g h i) j/\∃a,x=aa a/\Wr j (add (a.add 0) 14) [ar g h i] λw'=>B [vP 5 x,vI 140 x1,(141,SV.v (I (wrap i64 (x2+1))))] w') (R (Z (aw #[ab x,I 0])) w)):=by kernel_rfl
def Gh:Mt:={N:=107,keep:=kq 0 [(1,[0,3]),(1,[0,3,6]),(1,[4]),(1,[0,3,8]),(1,[0,3,8,9]),(1,[0,3,22]),(2,[4]),(1,[0,3,8,28]),(1,[4]),(1,[0,3,8,35]),(1,[4]),(6,[0,3,8,46]),(1,[4]),(6,[0,3,8,56]),(1,[4]),(1,[0,3,8,67]),(1,[0,3,71]),(2,[4]),(5,[0,3,8,84]),(1,[4]),(1,[0,3,8,93]),(1,[0,3,93]),(2,[4])],bX:=[(5,(.range 12))],bk:=[(0,[0,3])],cE:=[(39,[0,3])]}
def GH:=a8 f12
def Ma:=GH.sr.sr.sr
def OU (x:Option Addr) (x1:Addr):Env:=[vP 0 x,(3,SV.v (ab (aa x1)))]
def Qr (R:RT):=Rt f12 R
theorem u12 {x x1 x2 x3 x4 x5 w R}:Uj (Calls prog 12 #[ab x,agg #[I x1,I x2,I x3,(int .u64 x4),I x5]] w R) (aJ w [I x1,I x2,I x3,int .u64 x4,I x5] 33 λp w'=>Fo x.isNone (R (Z (N3)) w') (Li w' (p.add 0) λn=>Fo (n==1) (Sm w' λh=>∃n,h.cell? (p.add 1)=aa (I n)/\Fz (decide (n<0)) (∃n,h.cell? (p.add 1)=aa (I n)/\∃a,x=aa a/\∃b,h.cell? (a.add 15)=aa (I b)/\Fo (decide (n>=b)) (Call prog 61 [I 3] h λe w'=>∃p n c,e=Z (ar p n c)/\R (Z (ar p n c)) w') (∃n,h.cell? (p.add 1)=aa (I n)/\Call prog 62 [ab x,I n] h λe w'=>∃p n c,e=Z (ar p n c)/\R (Z (ar p n c)) w')) (Call prog 61 [I 3] h λe w'=>∃p n c,e=Z (ar p n c)/\R (Z (ar p n c)) w')) (Fo (n==2) (Li w' (p.add 4) λn=>Ci 63 [ab x,I n] w' λn w'=>Cq 61 [I n] w' λp n c w'=>R (Z (ar p n c)) w') (Fo (n==3) (Li w' (p.add 2) λn=>Lu w' (p.add 3) λb=>Ct 65 [ab x,I n,int .u64 b] w' λn d w'=>Cq 64 [I n,I d] w' λp n c w'=>R (Z (ar p n c)) w') (Fo (n==4) (Li w' (p.add 0) λn=>Li w' (p.add 1) λb=>Li w' (p.add 2) λd=>Lu w' (p.add 3) λf=>Li w' (p.add 4) λg=>Cq 66 [ab x,agg #[I n,I b,I d,int .u64 f,I g]] w' λp n c w'=>R (Z (ar p n c)) w') (Fo (n==5) (Li w' (p.add 0) λn=>Li w' (p.add 1) λb=>Li w' (p.add 2) λd=>Lu w' (p.add 3) λf=>Li w' (p.add 4) λg=>Cq 66 [ab x,agg #[I n,I b,I d,int .u64 f,I g]] w' λp n c w'=>R (Z (ar p n c)) w') (Fo (n==6) (Li w' (p.add 0) λn=>Li w' (p.add 1) λb=>Li w' (p.add 2) λd=>Lu w' (p.add 3) λf=>Li w' (p.add 4) λg=>Cq 66 [ab x,agg #[I n,I b,I d,int .u64 f,I g]] w' λp n c w'=>R (Z (ar p n c)) w') (Fo (n==7) (Li w' (p.add 0) λn=>Li w' (p.add 1) λb=>Li w' (p.add 2) λd=>Lu w' (p.add 3) λf=>Li w' (p.add 4) λg=>Cq 66 [ab x,agg #[I n,I b,I d,int .u64 f,I g]] w' λp n c w'=>R (Z (ar p n c)) w') (Fo (n==8) (Li w' (p.add 0) λn=>Li w' (p.add 1) λb=>Li w' (p.add 2) λd=>Lu w' (p.add 3) λf=>Li w' (p.add 4) λg=>Cq 66 [ab x,agg #[I n,I b,I d,int .u64 f,I g]] w' λp n c w'=>R (Z (ar p n c)) w') (Fo (n==9) (Li w' (p.add 0) λn=>Li w' (p.add 1) λb=>Li w' (p.add 2) λd=>Lu w' (p.add 3) λf=>Li w' (p.add 4) λg=>Cq 66 [ab x,agg #[I n,I b,I d,int .u64 f,I g]] w' λp n c w'=>R (Z (ar p n c)) w') (Fo (n==12) (Li w' (p.add 0) λn=>Li w' (p.add 1) λb=>Li w' (p.add 2) λd=>Lu w' (p.add 3) λf=>Li w' (p.add 4) λg=>Ci 67 [ab x,agg #[I n,I b,I d,int .u64 f,I g]] w' λn w'=>Cq 61 [I n] w' λp n c w'=>R (Z (ar p n c)) w') (Fo (n==13) (Li w' (p.add 0) λn=>Li w' (p.add 1) λb=>Li w' (p.add 2) λd=>Lu w' (p.add 3) λf=>Li w' (p.add 4) λg=>Ci 67 [ab x,agg #[I n,I b,I d,int .u64 f,I g]] w' λn w'=>Cq 61 [I n] w' λp n c w'=>R (Z (ar p n c)) w') (Fo (n==14) (Li w' (p.add 0) λn=>Li w' (p.add 1) λb=>Li w' (p.add 2) λd=>Lu w' (p.add 3) λf=>Li w' (p.add 4) λg=>Ci 67 [ab x,agg #[I n,I b,I d,int .u64 f,I g]] w' λn w'=>Cq 61 [I n] w' λp n c w'=>R (Z (ar p n c)) w') (Fo (n==15) (Li w' (p.add 0) λn=>Li w' (p.add 1) λb=>Li w' (p.add 2) λd=>Lu w' (p.add 3) λf=>Li w' (p.add 4) λg=>Ci 67 [ab x,agg #[I n,I b,I d,int .u64 f,I g]] w' λn w'=>Cq 61 [I n] w' λp n c w'=>R (Z (ar p n c)) w') (Fo (n==16) (Li w' (p.add 0) λn=>Li w' (p.add 1) λb=>Li w' (p.add 2) λd=>Lu w' (p.add 3) λf=>Li w' (p.add 4) λg=>Ci 67 [ab x,agg #[I n,I b,I d,int .u64 f,I g]] w' λn w'=>Cq 61 [I n] w' λp n c w'=>R (Z (ar p n c)) w') (Fo (n==17) (Li w' (p.add 0) λn=>Li w' (p.add 1) λb=>Li w' (p.add 2) λd=>Lu w' (p.add 3) λf=>Li w' (p.add 4) λg=>Ci 67 [ab x,agg #[I n,I b,I d,int .u64 f,I g]] w' λn w'=>Cq 61 [I n] w' λp n c w'=>R (Z (ar p n c)) w') (Fo (n==18) (Li w' (p.add 1) λn=>Fo (n==(-1:Int)) (∃a,x=aa a/\Lp w' (add (a.add 0) 5) λp=>Ct 68 [ab p,I (-1:Int)] w' λn b w'=>Cq 64 [I n,I b] w' λp n c w'=>R (Z (ar p n c)) w') (Li w' (p.add 0) λn=>Li w' (p.add 1) λb=>Li w' (p.add 2) λd=>Lu w' (p.add 3) λf=>Li w' (p.add 4) λg=>Cq 69 [ab x,agg #[I n,I b,I d,int .u64 f,I g]] w' λp n c w'=>R (Z (ar p n c)) w')) (Fo (n==10) (Li w' (p.add 0) λn=>Li w' (p.add 1) λb=>Li w' (p.add 2) λd=>Lu w' (p.add 3) λf=>Li w' (p.add 4) λg=>Cq 69 [ab x,agg #[I n,I b,I d,int .u64 f,I g]] w' λp n c w'=>R (Z (ar p n c)) w') (Fo (n==20) (Li w' (p.add 0) λn=>Li w' (p.add 1) λb=>Li w' (p.add 2) λd=>Lu w' (p.add 3) λf=>Li w' (p.add 4) λg=>Cq 69 [ab x,agg #[I n,I b,I d,int .u64 f,I g]] w' λp n c w'=>R (Z (ar p n c)) w') (Fo (n==21) (Li w' (p.add 0) λn=>Li w' (p.add 1) λb=>Li w' (p.add 2) λd=>Lu w' (p.add 3) λf=>Li w' (p.add 4) λg=>Cq 69 [ab x,agg #[I n,I b,I d,int .u64 f,I g]] w' λp n c w'=>R (Z (ar p n c)) w') (Fo (n==22) (Li w' (p.add 0) λn=>Li w' (p.add 1) λb=>Li w' (p.add 2) λd=>Lu w' (p.add 3) λf=>Li w' (p.add 4) λg=>Cq 69 [ab x,agg #[I n,I b,I d,int .u64 f,I g]] w' λp n c w'=>R (Z (ar p n c)) w') (Fo (n==26) (Li w' (p.add 0) λn=>Li w' (p.add 1) λb=>Li w' (p.add 2) λd=>Lu w' (p.add 3) λf=>Li w' (p.add 4) λg=>Cq 69 [ab x,agg #[I n,I b,I d,int .u64 f,I g]] w' λp n c w'=>R (Z (ar p n c)) w') (Fo (n==23) (Li w' (p.add 0) λn=>Li w' (p.add 1) λb=>Ci 70 [ab x,.bool (n==23),I b] w' λn w'=>Cq 61 [I n] w' λp n c w'=>R (Z (ar p n c)) w') (Fo (n==24) (Li w' (p.add 0) λn=>Li w' (p.add 1) λb=>Ci 70 [ab x,.bool (n==23),I b] w' λn w'=>Cq 61 [I n] w' λp n c w'=>R (Z (ar p n c)) w') (aU prog Gh Ma (OU x p) w' (Qr R)))))))))))))))))))))))))):=uj_ Gh func12 (by kernel_rfl)
theorem aeZ (x x1 w R):den prog Gh Ma (OU x x1) w (Qr R)=
(Li w (x1.add 0) λn=>Li w (x1.add 1) λa=>Li w (x1.add 2) λb=>Lu w (x1.add 3) λd=>Li w (x1.add 4) λf=>Cq 71 [ab x,agg #[I n,I a,I b,int .u64 d,I f]] w λp n c w'=>R (Z (ar p n c)) w'):=by kernel_rfl
def Mb:=a8 f13
theorem u13 {x w R}:Uj (Calls prog 13 #[ab x] w R) (Call prog 72 [ab x] w λe w'=>∃p a b d f g h i j k l m o q r n c,e=Z (agg #[ab p,ab a,ab b,ab d,ab f,ab g,ab h,ab i,ab j,ab k,ab l,ab m,ab o,ab q,ar r n c])/\R (Z (ab a)) w'):=uj_ {N:=6,keep:=kp 0 [[0],[2]]} func13 (by kernel_rfl)
def Mf:=a8 f16
theorem u16 {x w R}:Uj (Calls prog 16 #[ab x] w R) (Fo x.isNone (R (Z (int .u64 0)) w) (∃a,x=aa a/\Lu w (a.add 17) λn=>R (Z (int .u64 n)) w)):=uj_ {N:=9,keep:=kp 0 [[0],[0,4],[2],[2]]} func16 (by kernel_rfl)
theorem u19 {x w R}:Uj (Calls prog 19 #[ab x] w R) (Call prog 72 [ab x] w λe w'=>∃p b d f g h i j k a l m o q r n c,e=Z (agg #[ab p,ab b,ab d,ab f,ab g,ab h,ab i,ab j,ab k,ab a,ab l,ab m,ab o,ab q,ar r n c])/\R (Z (ab a)) w'):=uj_ {N:=6,keep:=kp 0 [[0],[2]]} func19 (by kernel_rfl)
def MG:=a8 f22
theorem u22 {x w R}:Uj (Calls prog 22 #[ab x] w R) (Fo x.isNone (R (Z (int .u64 0)) w) (∃a,x=aa a/\Lu w (a.add 16) λn=>R (Z (int .u64 n)) w)):=uj_ {N:=9,keep:=kp 0 [[0],[0,4],[2],[2]]} func22 (by kernel_rfl)
theorem u30 {x w R}:Uj (Calls prog 30 #[ab x] w R) (Call prog 72 [ab x] w λe w'=>∃p b a d f g h i j k l m o q r n c,e=Z (agg #[ab p,ab b,ab a,ab d,ab f,ab g,ab h,ab i,ab j,ab k,ab l,ab m,ab o,ab q,ar r n c])/\R (Z (ab a)) w'):=uj_ {N:=6,keep:=kp 0 [[0],[2]]} func30 (by kernel_rfl)
theorem u32 {x w R}:Uj (Calls prog 32 #[ab x] w R) (Fo x.isNone (R (Z (I 0)) w) (∃a,x=aa a/\Li w (a.add 18) λn=>R (Z (I n)) w)):=uj_ {N:=9,keep:=kp 0 [[0],[0,4],[2],[2]]} func32 (by kernel_rfl)
theorem u33 {x x1 w R}:Uj (Calls prog 33 #[ab x,I x1] w R) (R (Z (ab x)) w):=uj_ {N:=6,keep:=kp 0 [[0],[4]]} func33 (by kernel_rfl)
theorem u35 {x x1 w R}:Uj (Calls prog 35 #[ab x,I x1] w R) (R (Z (ab x)) w):=uj_ {N:=6,keep:=kp 0 [[0],[4]]} func35 (by kernel_rfl)
theorem u37 {x x1 w R}:Uj (Calls prog 37 #[ab x,I x1] w R) (R (Z (ab x)) w):=uj_ {N:=6,keep:=kp 0 [[0],[4]]} func37 (by kernel_rfl)
theorem u39 {x x1 w R}:Uj (Calls prog 39 #[ab x,I x1] w R) (R (Z (ab x)) w):=uj_ {N:=6,keep:=kp 0 [[0],[4]]} func39 (by kernel_rfl)
theorem u41 {x x1 w R}:Uj (Calls prog 41 #[ab x,I x1] w R) (R (Z (ab x)) w):=uj_ {N:=6,keep:=kp 0 [[0],[4]]} func41 (by kernel_rfl)
theorem u43 {x x1 w R}:Uj (Calls prog 43 #[ab x,I x1] w R) (R (Z (ab x)) w):=uj_ {N:=6,keep:=kp 0 [[0],[4]]} func43 (by kernel_rfl)
theorem u45 {x x1 w R}:Uj (Calls prog 45 #[ab x,I x1] w R) (R (Z (ab x)) w):=uj_ {N:=6,keep:=kp 0 [[0],[4]]} func45 (by kernel_rfl)
theorem u47 {x x1 w R}:Uj (Calls prog 47 #[ab x,I x1] w R) (R (Z (ab x)) w):=uj_ {N:=6,keep:=kp 0 [[0],[4]]} func47 (by kernel_rfl)
theorem u49 {x x1 w R}:Uj (Calls prog 49 #[ab x,I x1] w R) (R (Z (ab x)) w):=uj_ {N:=6,keep:=kp 0 [[0],[4]]} func49 (by kernel_rfl)
theorem u51 {x x1 w R}:Uj (Calls prog 51 #[ab x,I x1] w R) (R (Z (ab x)) w):=uj_ {N:=6,keep:=kp 0 [[0],[4]]} func51 (by kernel_rfl)
theorem u53 {x x1 w R}:Uj (Calls prog 53 #[ab x,I x1] w R) (R (Z (ab x)) w):=uj_ {N:=6,keep:=kp 0 [[0],[4]]} func53 (by kernel_rfl)
theorem u55 {x x1 w R}:Uj (Calls prog 55 #[ab x,I x1] w R) (R (Z (ab x)) w):=uj_ {N:=6,keep:=kp 0 [[0],[4]]} func55 (by kernel_rfl)
theorem u57 {x x1 w R}:Uj (Calls prog 57 #[ab x,I x1] w R) (R (Z (ab x)) w):=uj_ {N:=6,keep:=kp 0 [[0],[4]]} func57 (by kernel_rfl)
theorem u61 {x w R}:Uj (Calls prog 61 #[I x] w R) (Cq 64 [I 0,I x] w λp n c w'=>R (Z (ar p n c)) w'):=uj_ {N:=5,keep:=kp 0 [[0],[2]]} func61 (by kernel_rfl)
def wW:Mt:={N:=77,keep:=kp 0 [[0,1],[0,1,5],[0,1,5,7],[0,1,7,24],[0,1,7],[0,1,7,38],[0,1,7,38,39],[4],[0,1,7,38,41],[],[4],[0,1,7,38,54],[],[4],[0,1,7,38,63],[4],[0,1,7,68],[],[4],[4]],bX:=[(2,(.range 6)),(9,(.range 11))],bk:=[(0,[0,1,7])],cE:=[(5,[0,1,7])]}
def WW:=a8 f62
def Ac:=WW.sr.sr.sr.sr
def Aw (x:Option Addr) (x1 x2:Int):Env:=[vP 0 x,vI 1 x1,vI 7 x2]
def AP (R:RT):=Rt f62 R
theorem u62 {x x1 w R}:Uj (Calls prog 62 #[ab x,I x1] w R) (∃a,x=aa a/\Lp w (add (a.add 0) 12) λp=>Call prog 113 [ab p,I x1] w λe w'=>∃b k n l m o C,e=Z (aw #[agg #[.bool b,.bool k,I n,I l,I m,I o],I C])/\aJ w' [.bool ae,.bool ae,I 0,I 0,I 0,I 0] 226 λp w'=>Wr w' p [.bool b,.bool k,I n,I l,I m,I o] λw'=>Sm w' λc=>∃b,c.cell? (p.add 0)=aa (.bool b)/\∃d,c.cell? (p.add 1)=aa (.bool d)/\∃n,c.cell? (p.add 2)=aa (I n)/\∃f,c.cell? (p.add 3)=aa (I f)/\∃g,c.cell? (p.add 4)=aa (I g)/\∃h,c.cell? (p.add 5)=aa (I h)/\Call prog 115 [ab x,I x1] c λe w'=>∃q r s t u y z A B,e=Z (agg #[.bool q,.bool r,.bool s,.bool t,.bool u,.bool y,.bool z,.bool A,.bool B])/\(∀(j:Nat) (v:Value),[.bool b,.bool d,I n,I f,I g,I h][j]?=aa v->w'.cell? (p.add j)=aa v)/\Ci 114 [agg #[.bool b,.bool d,I n,I f,I g,I h],agg #[.bool q,.bool r,.bool s,.bool t,.bool u,.bool y,.bool z,.bool A,.bool B]] w' λn w'=>Lj w' (p.add 0) λb=>Fo b (∃a,x=aa a/\Lp w' (add (a.add 0) 12) λp=>Fo (n !=0) (Ci 116 [ab p,I x1,.bool (n !=9)] w' λi w'=>aU prog wW Ac (Aw x x1 n) w' (AP R)) (Ci 116 [ab p,I x1,.bool ae] w' λi w'=>aU prog wW Ac (Aw x x1 n) w' (AP R))) (aU prog wW Ac (Aw x x1 n) w' (AP R))):=uj_ wW func62 (by kernel_rfl)
theorem af0 (x x1 x2 w R):den prog wW Ac (Aw x x1 x2) w (AP R)=
(Fo (x2==0) (R (Z (N3)) w) (Fo (x2==1) (Sm w λw'=>∃a,x=aa a/\Lp w' (add (a.add 0) 12) λp=>∃a,x=aa a/\Li w' (a.add 18) λn=>Ct 117 [ab p,I x1,I n] w' λn b w'=>R (Z (N3)) w') (Fo (x2==2) (∃a,x=aa a/\Lp w (add (a.add 0) 10) λp=>Ci 118 [ab p,I x1] w λn w'=>R (Z (N3)) w') (Fo (x2==3) (Cq 119 [ab x,I x1] w λp n c w'=>R (Z (ar p n c)) w') (Fo (x2==9) (Cn 120 [ab x,I x1] w λw'=>R (Z (N3)) w') (Cq 121 [ab x,I x1,I x2] w λp n c w'=>R (Z (ar p n c)) w')))))):=by kernel_rfl
def wX:Mt:={N:=58,keep:=kp 0 [[0,1],[0,1,5,6],[0,1,5,6,20],[4],[0,1,5,25,26],[0,1,5,25,26,27],[0,1,5,7,25,26],[0,1,5,7,8,25,26],[0,1,5,7,8,25,26,40],[0,1,5,25,26],[0,1,5,25,26],[0,5],[4]],bk:=[(0,[0,5]),(1,[0,1,5,25,26])],cE:=[(11,[0,5])],lk:=[(5,[0,1,5,25,26])]}
def NP:=a8 f63
def GS:=NP.sr.sr.sr.sr
def NQ:=NP.sr.sr.sr.sl.sr.sl.sl
def O7 (x:Option Addr) (x1:Int):Env:=[vP 0 x,vI 5 x1]
def H5 (x:Option Addr) (x1 x2 x3 x4:Int):Env:=[vP 0 x,vI 1 x1,vI 5 x2,vI 25 x3,vI 26 x4]
def Rj (R:RT):=Rt f63 R
def Rk (R:RT):=bo 0 [0,5] (SQ wX GS (Rt f63 R) (Rt f63 R))
theorem u63 {x x1 w R}:Uj (Calls prog 63 #[ab x,I x1] w R) (∃a,x=aa a/\Li w (a.add 18) λn=>Ct 122 [I n,I x1] w λn b w'=>Fo (b !=0) (R (Z (I b)) w') (∃a,x=aa a/\Li w' (a.add 15) λc=>Cut (WP prog 58 (bh NQ) (H5 x x1 n c 0) w' (Rk R)))):=uj_ wX func63 (by kernel_rfl)
theorem af1 (x x1 w R):den prog wX GS (O7 x x1) w (Rj R)=
(∃a,x=aa a/\Wr w (a.add 18) [I x1] λw'=>∃a,x=aa a/\Lp w' (add (a.add 0) 2) λp=>Ci 124 [ab p,I x1] w' λn w'=>R (Z (I n)) w'):=by kernel_rfl
theorem af2 (x x1 x2 x3 x4 w B R):den prog wX NQ (H5 x x1 x2 x3 x4) w (bC B (Rk R))=
(Fo (decide (x4<x3)) (∃a,x=aa a/\Lp w (add (a.add 0) 12) λp=>Call prog 113 [ab p,I x4] w λe w'=>∃b c n d f g l,e=Z (aw #[agg #[.bool b,.bool c,I n,I d,I f,I g],I l])/\aJ w' [.bool ae,.bool ae,I 0,I 0,I 0,I 0] 226 λp w'=>Wr w' p [.bool b,.bool c,I n,I d,I f,I g] λw'=>Lj w' (p.add 0) λb=>Fo b (Lj w' (p.add 0) λb=>Lj w' (p.add 1) λh=>Li w' (p.add 2) λn=>Li w' (p.add 3) λi=>Li w' (p.add 4) λj=>Li w' (p.add 5) λk=>Cn 123 [ab x,I x4,agg #[.bool b,.bool h,I n,I i,I j,I k],I x1] w' λw'=>B [vP 0 x,vI 1 x1,vI 5 x2,vI 25 x3,(26,SV.v (I (wrap i64 (x4+1))))] w') (B [vP 0 x,vI 1 x1,vI 5 x2,vI 25 x3,(26,SV.v (I (wrap i64 (x4+1))))] w')) (aU prog wX GS (O7 x x2) w (Rj R))):=by kernel_rfl
def Ll:Mt:={N:=11,keep:=kp 0 [[0,1],[0,1,6],[0,1],[4]]}
def NR:=a8 f64
theorem u64:UT 64 Ll NR f64:=u_ func64 (by kernel_rfl)
theorem t64 (x x1 w R):den prog Ll NR (jv 0 [I x,I x1]) w (Rt f64 R)=
(Fo (x1 !=0) (aJ w [I 1,I 0,I 0,I 0,I x1] 43 λp w'=>R (Z (ar (aa p) 1 1)) w') (aJ w [I 1,I 0,I x,I 0,I x1] 43 λp w'=>R (Z (ar (aa p) 1 1)) w')):=by kernel_rfl
theorem u65 {x x1 x2 w R}:Uj (Calls prog 65 #[ab x,I x1,int .u64 x2] w R) (∃a,x=aa a/\Lp w (add (a.add 0) 0) λp=>Ct 125 [ab p,I x1,int .u64 x2] w λn b w'=>Fo (b==0) (∃a,x=aa a/\Li w' (a.add 15) λc=>c≠0/\Cn 126 [ab x,I n,I (eH n c)] w' λw'=>R (Z (aw #[I n,I b])) w') (R (Z (aw #[I n,I b])) w')):=uj_ {N:=34,keep:=kp 0 [[0,1,2],[0,8,9],[0,8,9,22],[8,9],[6,7]]} func65 (by kernel_rfl)
def ug:Mt:={N:=106,keep:=kp 0 [[0,3],[0,3,5,6],[0,3,5,6,18],[4],[0,3,5,23],[4],[0,3,5,30],[4],[0,3,5,40],[0,3,6],[0,3,6,55],[6],[4],[0,3,5,62],[4],[0,3,5,70],[4],[0,3,5,84],[4],[0,3],[],[4]],bX:=[(1,(.range 14)),(9,(.range 11)),(18,(.range 10))],bk:=[(0,[0,3,5])],cE:=[(12,[6])],alts:=[(1,(.step 0 (.step 1 (.step 2 (.step 3 (.step 4 (.step 5 (.step 6 (.alt (.step 7 (.step 8 (.step 9 (.step 10 (.step 11 (.step 12 (.step 13 .fin))))))) (.step 11 (.step 7 (.step 8 (.step 9 (.step 10 (.step 12 (.step 13 .fin))))))))))))))))]}
def NS:=a8 f66
def WX:=NS.sr.sr.sr
def xK:=NS.sr.sr.sl.sl.sr.sr.sr.sr.sr.sr.sr.sl.sr
def xX (x:Int):Env:=[vI 6 x]
def yr (R:RT):=bo 0 [0,3,5] (SQ ug WX (Rt f66 R) (Rt f66 R))
theorem u66 {x x1 x2 x3 x4 x5 w R}:Uj (Calls prog 66 #[ab x,agg #[I x1,I x2,I x3,(int .u64 x4),I x5]] w R) (aJ w [I x1,I x2,I x3,int .u64 x4,I x5] 33 λp w'=>Sm w' λy=>∃a,x=aa a/\∃q,y.cell? (add (a.add 0) 0)=aa (ab q)/\∃n,y.cell? (p.add 2)=aa (I n)/\(Call prog 127 [ab q,I n] y λe w'=>∃r s t b u o i,e=Z (aw #[agg #[I r,int .u64 s,I t,.bool b,.bool u,I o],I i])/\aJ w' [I 0,int .u64 0,I 0,.bool ae,.bool ae,I 0] 250 λd w'=>w'.cell? (p.add 2)=aa (I n)/\w'.cell? (add (a.add 0) 0)=aa (ab q)/\Wr w' d [I r,int .u64 s,I t,.bool b,.bool u,I o] λw'=>Fo (i !=0) (Cq 61 [I i] w' λp n c w'=>R (Z (ar p n c)) w') (Li w' (p.add 0) λn=>Fo (n==9) (Li w' (d.add 2) λn=>Cq 64 [I n,I 0] w' λp n c w'=>R (Z (ar p n c)) w') (Li w' (p.add 0) λn=>Fo (n==4) (Li w' (p.add 2) λn=>Li w' (d.add 0) λf=>Lu w' (d.add 1) λh=>Li w' (d.add 2) λj=>Lj w' (d.add 3) λb=>Lj w' (d.add 4) λk=>Li w' (d.add 5) λm=>Ci 128 [ab x,I n,agg #[I f,int .u64 h,I j,.bool b,.bool k,I m]] w' λn w'=>Cq 61 [I n] w' λp n c w'=>R (Z (ar p n c)) w') (Li w' (p.add 0) λn=>Fo (n==8) (Sm w' λg=>∃a,x=aa a/\∃l,g.cell? (add (a.add 0) 0)=aa (ab l)/\∃n,g.cell? (p.add 2)=aa (I n)/\∃f,g.cell? (p.add 3)=aa (int .u64 f)/\Call prog 129 [ab l,I n,int .u64 f] g λe w'=>∃n,e=Z (I n)/\Fo (n==0) (Li w' (p.add 2) λh=>Cn 130 [ab x,I h] w' λw'=>aU prog ug xK (xX n) w' (yr R)) (aU prog ug xK (xX n) w' (yr R))) (Lj w' (d.add 4) λb=>Li w' (p.add 0) λn=>Fo (!b==(n==7)) (Cq 61 [I 6] w' λp n c w'=>R (Z (ar p n c)) w') (Li w' (p.add 0) λn=>Fo (n==6) (Li w' (p.add 2) λn=>Li w' (d.add 0) λf=>Lu w' (d.add 1) λh=>Li w' (d.add 2) λj=>Lj w' (d.add 3) λb=>Lj w' (d.add 4) λk=>Li w' (d.add 5) λm=>Li w' (p.add 4) λv=>Ct 131 [ab x,I n,agg #[I f,int .u64 h,I j,.bool b,.bool k,I m],I v] w' λn z w'=>Cq 64 [I n,I z] w' λp n c w'=>R (Z (ar p n c)) w') (Li w' (p.add 0) λn=>Fo (n==5) (Sm w' λg=>∃a,x=aa a/\∃l,g.cell? (add (a.add 0) 1)=aa (ab l)/\∃n,g.cell? (p.add 2)=aa (I n)/\Call prog 132 [ab l,I n] g λe w'=>∃n,e=Z (I n)/\Cq 61 [I n] w' λp n c w'=>R (Z (ar p n c)) w') (Li w' (d.add 5) λn=>Cn 133 [ab x,I n] w' λw'=>Li w' (p.add 2) λn=>Cn 134 [ab x,I n] w' λw'=>Cq 61 [I 0] w' λp n c w'=>R (Z (ar p n c)) w'))))))))/\aJ y [I 0,int .u64 0,I 0,.bool ae,.bool ae,I 0] 250 λd w'=>w'.cell? (p.add 2)=aa (I n)/\w'.cell? (add (a.add 0) 0)=aa (ab q)/\Call prog 127 [ab q,I n] w' λe w'=>∃n r s b u t o,e=Z (aw #[agg #[I n,int .u64 r,I s,.bool b,.bool u,I t],I o])/\Wr w' d [I n,int .u64 r,I s,.bool b,.bool u,I t] λw'=>Fo (o !=0) (Cq 61 [I o] w' λp n c w'=>R (Z (ar p n c)) w') (Li w' (p.add 0) λn=>Fo (n==9) (Li w' (d.add 2) λn=>Cq 64 [I n,I 0] w' λp n c w'=>R (Z (ar p n c)) w') (Li w' (p.add 0) λn=>Fo (n==4) (Li w' (p.add 2) λn=>Li w' (d.add 0) λi=>Lu w' (d.add 1) λf=>Li w' (d.add 2) λh=>Lj w' (d.add 3) λb=>Lj w' (d.add 4) λk=>Li w' (d.add 5) λj=>Ci 128 [ab x,I n,agg #[I i,int .u64 f,I h,.bool b,.bool k,I j]] w' λn w'=>Cq 61 [I n] w' λp n c w'=>R (Z (ar p n c)) w') (Li w' (p.add 0) λn=>Fo (n==8) (Sm w' λg=>∃a,x=aa a/\∃l,g.cell? (add (a.add 0) 0)=aa (ab l)/\∃n,g.cell? (p.add 2)=aa (I n)/\∃i,g.cell? (p.add 3)=aa (int .u64 i)/\Call prog 129 [ab l,I n,int .u64 i] g λe w'=>∃n,e=Z (I n)/\Fo (n==0) (Li w' (p.add 2) λf=>Cn 130 [ab x,I f] w' λw'=>aU prog ug xK (xX n) w' (yr R)) (aU prog ug xK (xX n) w' (yr R))) (Lj w' (d.add 4) λb=>Li w' (p.add 0) λn=>Fo (!b==(n==7)) (Cq 61 [I 6] w' λp n c w'=>R (Z (ar p n c)) w') (Li w' (p.add 0) λn=>Fo (n==6) (Li w' (p.add 2) λn=>Li w' (d.add 0) λi=>Lu w' (d.add 1) λf=>Li w' (d.add 2) λh=>Lj w' (d.add 3) λb=>Lj w' (d.add 4) λk=>Li w' (d.add 5) λj=>Li w' (p.add 4) λm=>Ct 131 [ab x,I n,agg #[I i,int .u64 f,I h,.bool b,.bool k,I j],I m] w' λn v w'=>Cq 64 [I n,I v] w' λp n c w'=>R (Z (ar p n c)) w') (Li w' (p.add 0) λn=>Fo (n==5) (Sm w' λg=>∃a,x=aa a/\∃l,g.cell? (add (a.add 0) 1)=aa (ab l)/\∃n,g.cell? (p.add 2)=aa (I n)/\Call prog 132 [ab l,I n] g λe w'=>∃n,e=Z (I n)/\Cq 61 [I n] w' λp n c w'=>R (Z (ar p n c)) w') (Li w' (d.add 5) λn=>Cn 133 [ab x,I n] w' λw'=>Li w' (p.add 2) λn=>Cn 134 [ab x,I n] w' λw'=>Cq 61 [I 0] w' λp n c w'=>R (Z (ar p n c)) w')))))))):=uj_ ug func66 (by kernel_rfl)
theorem af3 (x w R):den prog ug xK (xX x) w (yr R)=
(Cq 61 [I x] w λp n c w'=>R (Z (ar p n c)) w'):=by kernel_rfl
theorem u67 {x x1 x2 x3 x4 x5 w R}:Uj (Calls prog 67 #[ab x,agg #[I x1,I x2,I x3,(int .u64 x4),I x5]] w R) (aJ w [ab x] 23 λp w'=>aJ w' [I x1,I x2,I x3,int .u64 x4,I x5] 33 λd w'=>Li w' (d.add 0) λn=>Fo (n==12) (Sm w' λb=>∃c,b.cell? p=aa (ab c)/\∃a,c=aa a/\∃f,b.cell? (add (a.add 0) 3)=aa (ab f)/\∃n,b.cell? (d.add 2)=aa (I n)/\∃g,b.cell? (d.add 3)=aa (int .u64 g)/\Call prog 136 [ab f,I n,int .u64 g] b λe w'=>∃n,e=Z (I n)/\Ci 135 [I n,func (aQ 137) #[] #[ab (aa p),ab (aa d)]] w' λn w'=>R (Z (I n)) w') (Fo (n==13) (Sm w' λb=>∃c,b.cell? p=aa (ab c)/\∃a,c=aa a/\∃f,b.cell? (add (a.add 0) 3)=aa (ab f)/\∃n,b.cell? (d.add 2)=aa (I n)/\Call prog 139 [ab f,I n] b λe w'=>∃n,e=Z (I n)/\Ci 135 [I n,func (aQ 140) #[] #[ab (aa p),ab (aa d)]] w' λn w'=>R (Z (I n)) w') (Fo (n==14) (Sm w' λb=>∃c,b.cell? p=aa (ab c)/\∃a,c=aa a/\∃f,b.cell? (add (a.add 0) 3)=aa (ab f)/\∃n,b.cell? (d.add 2)=aa (I n)/\∃g,b.cell? (d.add 3)=aa (int .u64 g)/\Call prog 142 [ab f,I n,int .u64 g] b λe w'=>∃n,e=Z (I n)/\Ci 135 [I n,func (aQ 143) #[] #[ab (aa p),ab (aa d)]] w' λn w'=>R (Z (I n)) w') (Fo (n==15) (Sm w' λb=>∃c,b.cell? p=aa (ab c)/\∃a,c=aa a/\∃p,b.cell? (add (a.add 0) 3)=aa (ab p)/\∃n,b.cell? (d.add 2)=aa (I n)/\Call prog 145 [ab p,I n] b λe w'=>∃n,e=Z (I n)/\R (Z (I n)) w') (Fo (n==16) (Sm w' λb=>∃c,b.cell? p=aa (ab c)/\∃a,c=aa a/\∃p,b.cell? (add (a.add 0) 3)=aa (ab p)/\∃n,b.cell? (d.add 2)=aa (I n)/\Call prog 146 [ab p,I n] b λe w'=>∃n,e=Z (I n)/\R (Z (I n)) w') (Sm w' λb=>∃c,b.cell? p=aa (ab c)/\∃a,c=aa a/\∃p,b.cell? (add (a.add 0) 3)=aa (ab p)/\∃n,b.cell? (d.add 2)=aa (I n)/\Call prog 147 [ab p,I n] b λe w'=>∃n,e=Z (I n)/\R (Z (I n)) w')))))):=uj_ {N:=79,keep:=kp 0 [[2,3],[2,3,5],[2,3,5,7],[2,3,5,7,8],[4],[2,3,5,7,23],[4],[2,3,5,7,36],[4],[2,3,7,51],[4],[2,3,61],[4],[4]],bX:=[(4,[0,1,2,3,4,5,6,7,8,9,11,10,12,13]),(6,[0,1,2,3,4,5,6,7,9,8,10,11]),(8,[0,1,2,3,4,5,6,7,8,9,11,10,12,13]),(10,(.range 9)),(12,(.range 9)),(13,(.range 9))],bk:=[(0,[2,3])]} func67 (by kernel_rfl)
theorem u69 {x x1 x2 x3 x4 x5 w R}:Uj (Calls prog 69 #[ab x,agg #[I x1,I x2,I x3,(int .u64 x4),I x5]] w R) (aJ w [I x1,I x2,I x3,int .u64 x4,I x5] 33 λp w'=>Li w' (p.add 1) λn=>Ci 152 [ab x,I n] w' λn w'=>Fo (n !=0) (Cq 61 [I n] w' λp n c w'=>R (Z (ar p n c)) w') (Li w' (p.add 0) λn=>Fo (n==10) (Li w' (p.add 1) λn=>Li w' (p.add 4) λd=>Ct 153 [ab x,I n,I d] w' λn g w'=>Cq 64 [I n,I g] w' λp n c w'=>R (Z (ar p n c)) w') (Fo (n==18) (Sm w' λb=>∃a,x=aa a/\∃f,b.cell? (add (a.add 0) 5)=aa (ab f)/\∃n,b.cell? (p.add 1)=aa (I n)/\Call prog 68 [ab f,I n] b λe w'=>∃n d,e=Z (aw #[I n,I d])/\Cq 64 [I n,I d] w' λp n c w'=>R (Z (ar p n c)) w') (Fo (n==20) (Sm w' λb=>∃a,x=aa a/\∃f,b.cell? (add (a.add 0) 6)=aa (ab f)/\∃n,b.cell? (p.add 1)=aa (I n)/\Call prog 154 [ab f,I n] b λe w'=>∃n d,e=Z (aw #[I n,I d])/\Cq 64 [I n,I d] w' λp n c w'=>R (Z (ar p n c)) w') (Fo (n==21) (Sm w' λb=>∃a,x=aa a/\∃f,b.cell? (add (a.add 0) 7)=aa (ab f)/\∃n,b.cell? (p.add 1)=aa (I n)/\Call prog 155 [ab f,I n] b λe w'=>∃n d,e=Z (aw #[I n,I d])/\Cq 64 [I n,I d] w' λp n c w'=>R (Z (ar p n c)) w') (Fo (n==22) (Sm w' λb=>∃a,x=aa a/\∃f,b.cell? (add (a.add 0) 7)=aa (ab f)/\∃n,b.cell? (p.add 1)=aa (I n)/\∃d,b.cell? (p.add 2)=aa (I d)/\Call prog 156 [ab f,I n,I d] b λe w'=>∃n,e=Z (I n)/\Cq 61 [I n] w' λp n c w'=>R (Z (ar p n c)) w') (Sm w' λb=>∃a,x=aa a/\∃f,b.cell? (add (a.add 0) 9)=aa (ab f)/\∃n,b.cell? (p.add 1)=aa (I n)/\Call prog 157 [ab f,I n] b λe w'=>∃n,e=Z (I n)/\Cq 61 [I n] w' λp n c w'=>R (Z (ar p n c)) w'))))))):=uj_ {N:=88,keep:=kp 0 [[0,3],[0,3,5],[0,3,5,11],[4],[0,3,15],[0,3,15,16],[4],[0,3,15,27],[4],[0,3,15,40],[4],[0,3,15,53],[4],[0,3,66],[4],[4]],bX:=[(8,(.range 12)),(10,(.range 12)),(12,(.range 12)),(14,(.range 12)),(15,(.range 10))],bk:=[(0,[0,3])]} func69 (by kernel_rfl)
def qp:Mt:={N:=82,keep:=kp 0 [[0,1,2],[0,1,2,7],[0,1,2,7,16],[6],[0,1,2,7,27],[6],[0,1,2,7,34],[6],[0,1,2,39],[6],[0,1,2,46],[6],[0,1,2,8],[0,1,2,8],[6]],bk:=[(0,[0,1,2])],cE:=[(12,[0,1,2])]}
def WY:=a8 f70
def r7:=WY.sr.sr.sr
def r8 (x:Option Addr) (x1:Bool) (x2:Int):Env:=[vP 0 x,(1,SV.v (.bool x1)),vI 2 x2]
def si (R:RT):=Rt f70 R
theorem u70 {x x1 x2 w R}:Uj (Calls prog 70 #[ab x,.bool x1,I x2] w R) (∃a,x=aa a/\Lu w (a.add 16) λn=>Cj 23 [int .u64 n,I x2] w λb w'=>Fz (decide (x2<0)) (∃a,x=aa a/\Li w' (a.add 15) λn=>Fo (decide (x2>=n)) (R (Z (I 3)) w') (∃a,x=aa a/\Lp w' (add (a.add 0) 11) λp=>Cj 99 [ab p] w' λc w'=>Fo c (R (Z (I 7)) w') (Fo x1 (Fo b (R (Z (I 8)) w') (Fo (!x1) (Fo (!b) (R (Z (I 9)) w') (Fo (!x1) (∃a,x=aa a/\Lu w' (a.add 16) λn=>Ci 24 [int .u64 n] w' λn w'=>Fo (n==1) (R (Z (I 10)) w') (aU prog qp r7 (r8 x x1 x2) w' (si R))) (aU prog qp r7 (r8 x x1 x2) w' (si R)))) (Fo (!x1) (∃a,x=aa a/\Lu w' (a.add 16) λn=>Ci 24 [int .u64 n] w' λn w'=>Fo (n==1) (R (Z (I 10)) w') (aU prog qp r7 (r8 x x1 x2) w' (si R))) (aU prog qp r7 (r8 x x1 x2) w' (si R))))) (Fo (!x1) (Fo (!b) (R (Z (I 9)) w') (Fo (!x1) (∃a,x=aa a/\Lu w' (a.add 16) λn=>Ci 24 [int .u64 n] w' λn w'=>Fo (n==1) (R (Z (I 10)) w') (aU prog qp r7 (r8 x x1 x2) w' (si R))) (aU prog qp r7 (r8 x x1 x2) w' (si R)))) (Fo (!x1) (∃a,x=aa a/\Lu w' (a.add 16) λn=>Ci 24 [int .u64 n] w' λn w'=>Fo (n==1) (R (Z (I 10)) w') (aU prog qp r7 (r8 x x1 x2) w' (si R))) (aU prog qp r7 (r8 x x1 x2) w' (si R))))))) (R (Z (I 3)) w')):=uj_ qp func70 (by kernel_rfl)
theorem af4 (x x1 x2 w R):den prog qp r7 (r8 x x1 x2) w (si R)=
(∃a,x=aa a/\Lu w (a.add 17) λn=>Cu 158 [int .u64 n,I x2] w λn w'=>Ct 159 [int .u64 n] w' λn b w'=>∃a,x=aa a/\Lp w' (add (a.add 0) 9) λp=>Ci 160 [ab p] w' λc w'=>∃a,x=aa a/\Lp w' (add (a.add 0) 11) λp=>Ci 161 [ab p,.bool x1,I x2,I n] w' λn w'=>R (Z (I n)) w'):=by kernel_rfl
theorem u71 {x x1 x2 x3 x4 x5 w R}:Uj (Calls prog 71 #[ab x,agg #[I x1,I x2,I x3,(int .u64 x4),I x5]] w R) (aJ w [I x1,I x2,I x3,int .u64 x4,I x5] 33 λp w'=>Li w' (p.add 0) λn=>Fo (n==11) (Li w' (p.add 2) λn=>Ci 162 [ab x,I n] w' λn w'=>Cq 61 [I n] w' λp n c w'=>R (Z (ar p n c)) w') (Fo (n==19) (Li w' (p.add 2) λn=>Ct 163 [ab x,I n] w' λn b w'=>Cq 64 [I n,I b] w' λp n c w'=>R (Z (ar p n c)) w') (Fo (n==25) (Li w' (p.add 4) λn=>Ci 164 [ab x,I n] w' λn w'=>Cq 61 [I n] w' λp n c w'=>R (Z (ar p n c)) w') (Fo (n==27) (Sm w' λd=>∃a,x=aa a/\∃f,d.cell? (add (a.add 0) 9)=aa (ab f)/\∃n,d.cell? (p.add 1)=aa (I n)/\Call prog 165 [ab f,I n] d λe w'=>∃n,e=Z (I n)/\Cq 61 [I n] w' λp n c w'=>R (Z (ar p n c)) w') (Fo (n==28) (Li w' (p.add 4) λn=>Ci 166 [ab x,I n] w' λn w'=>Cq 61 [I n] w' λp n c w'=>R (Z (ar p n c)) w') (Fo (n==29) (Li w' (p.add 2) λn=>Li w' (p.add 4) λb=>Ci 167 [ab x,I n,I b] w' λn w'=>Cq 61 [I n] w' λp n c w'=>R (Z (ar p n c)) w') (Fo (n==30) (Ci 168 [ab x] w' λn w'=>Cq 64 [I n,I 0] w' λp n c w'=>R (Z (ar p n c)) w') (Cq 61 [I 2] w' λp n c w'=>R (Z (ar p n c)) w')))))))):=uj_ {N:=63,keep:=kp 0 [[0,3],[0,3,6],[0,3,6,7],[4],[0,3,6,14],[4],[0,3,6,23],[4],[0,3,6,30],[4],[0,3,6,41],[4],[0,3,6,48],[4],[0,57],[4],[4]],bX:=[(9,(.range 10))],bk:=[(0,[])]} func71 (by kernel_rfl)
theorem u72 {x w R}:Uj (Calls prog 72 #[ab x] w R) (aJ w [ab ah,ab ah,ab ah,ab ah,ab ah,ab ah,ab ah,ab ah,ab ah,ab ah,ab ah,ab ah,ab ah,ab ah,N3] 92 λp w'=>Fo x.isNone (Wr w' p [ab ah,ab ah,ab ah,ab ah,ab ah,ab ah,ab ah,ab ah,ab ah,ab ah,ab ah,ab ah,ab ah,ab ah,N3] λw'=>Lp w' (p.add 0) λb=>Lp w' (p.add 1) λd=>Lp w' (p.add 2) λe=>Lp w' (p.add 3) λf=>Lp w' (p.add 4) λg=>Lp w' (p.add 5) λh=>Lp w' (p.add 6) λi=>Lp w' (p.add 7) λj=>Lp w' (p.add 8) λk=>Lp w' (p.add 9) λl=>Lp w' (p.add 10) λm=>Lp w' (p.add 11) λo=>Lp w' (p.add 12) λq=>Lp w' (p.add 13) λr=>Lq w' (p.add 14) λs n c=>R (Z (agg #[ab b,ab d,ab e,ab f,ab g,ab h,ab i,ab j,ab k,ab l,ab m,ab o,ab q,ab r,ar s n c])) w') (∃a,x=aa a/\Lp w' (add (a.add 0) 0) λb=>Lp w' (add (a.add 0) 1) λd=>Lp w' (add (a.add 0) 2) λe=>Lp w' (add (a.add 0) 3) λf=>Lp w' (add (a.add 0) 4) λg=>Lp w' (add (a.add 0) 5) λh=>Lp w' (add (a.add 0) 6) λi=>Lp w' (add (a.add 0) 7) λj=>Lp w' (add (a.add 0) 8) λk=>Lp w' (add (a.add 0) 9) λl=>Lp w' (add (a.add 0) 10) λm=>Lp w' (add (a.add 0) 11) λo=>Lp w' (add (a.add 0) 12) λq=>Lp w' (add (a.add 0) 13) λr=>Lq w' (add (a.add 0) 14) λs n c=>Wr w' p [ab b,ab d,ab e,ab f,ab g,ab h,ab i,ab j,ab k,ab l,ab m,ab o,ab q,ab r,ar s n c] λw'=>Lp w' (p.add 0) λt=>Lp w' (p.add 1) λu=>Lp w' (p.add 2) λv=>Lp w' (p.add 3) λy=>Lp w' (p.add 4) λz=>Lp w' (p.add 5) λA=>Lp w' (p.add 6) λB=>Lp w' (p.add 7) λC=>Lp w' (p.add 8) λD=>Lp w' (p.add 9) λE=>Lp w' (p.add 10) λF=>Lp w' (p.add 11) λG=>Lp w' (p.add 12) λH=>Lp w' (p.add 13) λI=>Lq w' (p.add 14) λJ n c=>R (Z (agg #[ab t,ab u,ab v,ab y,ab z,ab A,ab B,ab C,ab D,ab E,ab F,ab G,ab H,ab I,ar J n c])) w')):=uj_ {N:=10,keep:=kp 0 [[0,2],[0,2,4],[2],[2]]} func72 (by kernel_rfl)
theorem u83 {x w R}:Uj (Calls prog 83 #[ab x] w R) (Fo x.isNone (R (Z (I 0)) w) (∃a,x=aa a/\Li w (a.add 15) λn=>R (Z (I n)) w)):=uj_ {N:=9,keep:=kp 0 [[0],[0,4],[2],[2]]} func83 (by kernel_rfl)
theorem u90 {x x1 w R}:Uj (Calls prog 90 #[ab x,I x1] w R) (Fo x.isNone (R (Z (I 0)) w) (∃a,x=aa a/\∃r,w.cell? (a.add 20)=aa (map r)/\∃n,aZ prog (dr 78 (map r) (I x1) ae) w=a7 (I n) w/\R (Z (I n)) w)):=uj_ {N:=13,keep:=kp 0 [[0,1],[0,1,6],[4],[4]]} func90 (by kernel_rfl)
theorem u92 {x w R}:Uj (Calls prog 92 #[ab x] w R) (Call prog 72 [ab x] w λe w'=>∃p b d f g a h i j k l m o q r n c,e=Z (agg #[ab p,ab b,ab d,ab f,ab g,ab a,ab h,ab i,ab j,ab k,ab l,ab m,ab o,ab q,ar r n c])/\R (Z (ab a)) w'):=uj_ {N:=6,keep:=kp 0 [[0],[2]]} func92 (by kernel_rfl)
theorem u94 {x w R}:Uj (Calls prog 94 #[ab x] w R) (Call prog 72 [ab x] w λe w'=>∃p b d f g h a i j k l m o q r n c,e=Z (agg #[ab p,ab b,ab d,ab f,ab g,ab h,ab a,ab i,ab j,ab k,ab l,ab m,ab o,ab q,ar r n c])/\R (Z (ab a)) w'):=uj_ {N:=6,keep:=kp 0 [[0],[2]]} func94 (by kernel_rfl)
theorem u96 {x w R}:Uj (Calls prog 96 #[ab x] w R) (Call prog 72 [ab x] w λe w'=>∃p b d f g h i a j k l m o q r n c,e=Z (agg #[ab p,ab b,ab d,ab f,ab g,ab h,ab i,ab a,ab j,ab k,ab l,ab m,ab o,ab q,ar r n c])/\R (Z (ab a)) w'):=uj_ {N:=6,keep:=kp 0 [[0],[2]]} func96 (by kernel_rfl)
theorem u98 {x w R}:Uj (Calls prog 98 #[ab x] w R) (Call prog 72 [ab x] w λe w'=>∃p b d f g h i j k l m a o q r n c,e=Z (agg #[ab p,ab b,ab d,ab f,ab g,ab h,ab i,ab j,ab k,ab l,ab m,ab a,ab o,ab q,ar r n c])/\R (Z (ab a)) w'):=uj_ {N:=6,keep:=kp 0 [[0],[2]]} func98 (by kernel_rfl)
theorem ahk {x x1 w R}:Uj (Calls prog 115 #[ab x,I x1] w R) (aJ w [.bool ae,.bool ae,.bool ae,.bool ae,.bool ae,.bool ae,.bool ae,.bool ae,.bool ae] 240 λp w'=>Call prog 201 [ab x,I x1] w' λe w'=>∃n b,e=Z (aw #[I n,.bool b])/\Sm w' λk=>∃a,x=aa a/\∃N,k.cell? (add (a.add 0) 10)=aa (ab N)/\∃a,x=aa a/\∃J,k.cell? (add (a.add 0) 10)=aa (ab J)/\∃G,x=aa G/\∃H,k.cell? (add (G.add 0) 11)=aa (ab H)/\∃q,x=aa q/\∃n,k.cell? (q.add 17)=aa (int .u64 n)/\∃o,x=aa o/\∃m,k.cell? (add (o.add 0) 6)=aa (ab m)/\∃l,x=aa l/\∃j,k.cell? (add (l.add 0) 2)=aa (ab j)/\∃i,x=aa i/\∃h,k.cell? (add (i.add 0) 5)=aa (ab h)/\∃g,x=aa g/\∃f,k.cell? (add (g.add 0) 5)=aa (ab f)/\∃d,x=aa d/\∃c,k.cell? (add (d.add 0) 1)=aa (ab c)/\Call prog 202 [ab N,I x1] k λe w'=>∃K,e=Z (.bool K)/\w'.cell? (add (d.add 0) 1)=aa (ab c)/\w'.cell? (add (g.add 0) 5)=aa (ab f)/\w'.cell? (add (i.add 0) 5)=aa (ab h)/\w'.cell? (add (l.add 0) 2)=aa (ab j)/\w'.cell? (add (o.add 0) 6)=aa (ab m)/\w'.cell? (q.add 17)=aa (int .u64 n)/\w'.cell? (add (G.add 0) 11)=aa (ab H)/\w'.cell? (add (a.add 0) 10)=aa (ab J)/\Cj 203 [ab J,I x1] w' λL w'=>w'.cell? (add (d.add 0) 1)=aa (ab c)/\w'.cell? (add (g.add 0) 5)=aa (ab f)/\w'.cell? (add (i.add 0) 5)=aa (ab h)/\w'.cell? (add (l.add 0) 2)=aa (ab j)/\w'.cell? (add (o.add 0) 6)=aa (ab m)/\w'.cell? (q.add 17)=aa (int .u64 n)/\w'.cell? (add (G.add 0) 11)=aa (ab H)/\Cj 99 [ab H] w' λM w'=>w'.cell? (add (d.add 0) 1)=aa (ab c)/\w'.cell? (add (g.add 0) 5)=aa (ab f)/\w'.cell? (add (i.add 0) 5)=aa (ab h)/\w'.cell? (add (l.add 0) 2)=aa (ab j)/\w'.cell? (add (o.add 0) 6)=aa (ab m)/\w'.cell? (q.add 17)=aa (int .u64 n)/\Fo M (∃a,x=aa a/\Lp w' (add (a.add 0) 11) λO=>Ci 102 [ab O] w' λr w'=>w'.cell? (add (d.add 0) 1)=aa (ab c)/\w'.cell? (add (g.add 0) 5)=aa (ab f)/\w'.cell? (add (i.add 0) 5)=aa (ab h)/\w'.cell? (add (l.add 0) 2)=aa (ab j)/\w'.cell? (add (o.add 0) 6)=aa (ab m)/\w'.cell? (q.add 17)=aa (int .u64 n)/\Cj 23 [int .u64 n,I x1] w' λs w'=>w'.cell? (add (d.add 0) 1)=aa (ab c)/\w'.cell? (add (g.add 0) 5)=aa (ab f)/\w'.cell? (add (i.add 0) 5)=aa (ab h)/\w'.cell? (add (l.add 0) 2)=aa (ab j)/\w'.cell? (add (o.add 0) 6)=aa (ab m)/\Ci 204 [ab m,I x1] w' λn w'=>w'.cell? (add (d.add 0) 1)=aa (ab c)/\w'.cell? (add (g.add 0) 5)=aa (ab f)/\w'.cell? (add (i.add 0) 5)=aa (ab h)/\w'.cell? (add (l.add 0) 2)=aa (ab j)/\Cj 205 [ab j,I x1] w' λt w'=>w'.cell? (add (d.add 0) 1)=aa (ab c)/\w'.cell? (add (g.add 0) 5)=aa (ab f)/\w'.cell? (add (i.add 0) 5)=aa (ab h)/\Ci 170 [ab h,I x1] w' λu w'=>w'.cell? (add (d.add 0) 1)=aa (ab c)/\w'.cell? (add (g.add 0) 5)=aa (ab f)/\Ci 170 [ab f,I (-1:Int)] w' λv w'=>w'.cell? (add (d.add 0) 1)=aa (ab c)/\Ci 14 [ab c,I x1] w' λP w'=>Wr w' p [.bool K,.bool L,.bool (r==x1),.bool s,.bool (decide (n>0)),.bool b,.bool t,.bool (decide (wrap i64 (u+v)>0)),.bool (decide (P>0))] λw'=>Lj w' (p.add 0) λb=>Lj w' (p.add 1) λy=>Lj w' (p.add 2) λz=>Lj w' (p.add 3) λA=>Lj w' (p.add 4) λB=>Lj w' (p.add 5) λC=>Lj w' (p.add 6) λD=>Lj w' (p.add 7) λE=>Lj w' (p.add 8) λF=>R (Z (agg #[.bool b,.bool y,.bool z,.bool A,.bool B,.bool C,.bool D,.bool E,.bool F])) w') (Cj 23 [int .u64 n,I x1] w' λs w'=>w'.cell? (add (d.add 0) 1)=aa (ab c)/\w'.cell? (add (g.add 0) 5)=aa (ab f)/\w'.cell? (add (i.add 0) 5)=aa (ab h)/\w'.cell? (add (l.add 0) 2)=aa (ab j)/\w'.cell? (add (o.add 0) 6)=aa (ab m)/\Ci 204 [ab m,I x1] w' λn w'=>w'.cell? (add (d.add 0) 1)=aa (ab c)/\w'.cell? (add (g.add 0) 5)=aa (ab f)/\w'.cell? (add (i.add 0) 5)=aa (ab h)/\w'.cell? (add (l.add 0) 2)=aa (ab j)/\Cj 205 [ab j,I x1] w' λt w'=>w'.cell? (add (d.add 0) 1)=aa (ab c)/\w'.cell? (add (g.add 0) 5)=aa (ab f)/\w'.cell? (add (i.add 0) 5)=aa (ab h)/\Ci 170 [ab h,I x1] w' λr w'=>w'.cell? (add (d.add 0) 1)=aa (ab c)/\w'.cell? (add (g.add 0) 5)=aa (ab f)/\Ci 170 [ab f,I (-1:Int)] w' λu w'=>w'.cell? (add (d.add 0) 1)=aa (ab c)/\Ci 14 [ab c,I x1] w' λv w'=>Wr w' p [.bool K,.bool L,.bool ae,.bool s,.bool (decide (n>0)),.bool b,.bool t,.bool (decide (wrap i64 (r+u)>0)),.bool (decide (v>0))] λw'=>Lj w' (p.add 0) λb=>Lj w' (p.add 1) λy=>Lj w' (p.add 2) λz=>Lj w' (p.add 3) λA=>Lj w' (p.add 4) λB=>Lj w' (p.add 5) λC=>Lj w' (p.add 6) λD=>Lj w' (p.add 7) λE=>Lj w' (p.add 8) λF=>R (Z (agg #[.bool b,.bool y,.bool z,.bool A,.bool B,.bool C,.bool D,.bool E,.bool F])) w')):=uj_ {N:=89,keep:=kp 0 [[0,1,4],[0,1,4,6],[4]],bX:=[(2,[0,1,2,3,4,5,7,8,9,10,11,12,14,15,16,17,18,30,31,32,33,34,36,37,38,39,40,41,44,45,46,47,48,49,50,52,53,54,55,56,57,59,60,61,62,63,67,68,69,70,71,72,6,13,19,20,21,22,23,24,25,27,26,28,29,35,42,43,51,58,64,65,66,73,74,75,76])]} func115 (by kernel_rfl)
def wP:Mt:={N:=67,keep:=kp 0 [[0,1],[0,1,5],[0,1,5,6],[0,5,34],[0,5],[0,5,47],[4],[0,5,8],[5,8],[4]],cE:=[(5,[0,5])]}
def V7:=a8 f119
def zY:=V7.sr.sr.sr
def Au (x:Option Addr) (x1:Int):Env:=[vP 0 x,vI 5 x1]
def AL (R:RT):=Rt f119 R
theorem aho {x x1 w R}:Uj (Calls prog 119 #[ab x,I x1] w R) (∃a,x=aa a/\Lp w (add (a.add 0) 11) λp=>Ci 101 [ab p] w λn w'=>∃a,x=aa a/\Lp w' (add (a.add 0) 11) λp=>Call prog 208 [ab p] w' λe w'=>∃c b d h,e=Z (aw #[agg #[I c,.bool b,.bool d],I h])/\aJ w' [I 0,.bool ae,.bool ae] 303 λp w'=>Wr w' p [I c,.bool b,.bool d] λw'=>Lj w' (p.add 2) λb=>Fo (!b) (Li w' (p.add 0) λf=>Lj w' (p.add 1) λb=>Lj w' (p.add 2) λg=>Cj 209 [ab x,agg #[I f,.bool b,.bool g],I n,I x1] w' λb w'=>Fo b (∃a,x=aa a/\Lp w' (add (a.add 0) 11) λp=>Ci 210 [ab p] w' λi w'=>aU prog wP zY (Au x n) w' (AL R)) (aU prog wP zY (Au x n) w' (AL R))) (aU prog wP zY (Au x n) w' (AL R))):=uj_ wP func119 (by kernel_rfl)
theorem aeW (x x1 w R):den prog wP zY (Au x x1) w (AL R)=
(∃a,x=aa a/\Lp w (add (a.add 0) 11) λp=>Cj 211 [ab p] w λb w'=>Fo (!b) (R (Z (N3)) w') (∃a,x=aa a/\Lp w' (add (a.add 0) 11) λp=>Ct 212 [ab p] w' λn c w'=>∃a,x=aa a/\Lp w' (add (a.add 0) 9) λp=>Ci 213 [ab p] w' λd w'=>aJ w' [I 7,I x1,I 0,I 0,I n] 43 λp w'=>R (Z (ar (aa p) 1 1)) w')):=by kernel_rfl
theorem ahp {x x1 w R}:Uj (Calls prog 120 #[ab x,I x1] w R) (∃a,x=aa a/\Lp w (add (a.add 0) 2) λp=>Ct 214 [ab p,I x1] w λn i w'=>∃a,x=aa a/\Li w' (a.add 18) λj=>Ci 215 [I j,I n,.bool (i==0)] w' λn w'=>Sm w' λb=>∃a,x=aa a/\∃p,b.cell? (add (a.add 0) 12)=aa (ab p)/\∃g,x=aa g/\∃h,b.cell? (g.add 19)=aa (I h)/\∃d,x=aa d/\∃f,b.cell? (d.add 18)=aa (I f)/\Call prog 218 [] b λe w'=>∃k l c,e=Z (ar k l c)/\w'.cell? (d.add 18)=aa (I f)/\w'.cell? (g.add 19)=aa (I h)/\w'.cell? (add (a.add 0) 12)=aa (ab p)/\Ci 217 [ar k l c,I n,I h] w' λn w'=>w'.cell? (d.add 18)=aa (I f)/\w'.cell? (add (a.add 0) 12)=aa (ab p)/\Ci 216 [ab p,I x1,I n,I f] w' λn w'=>R (Z (aw #[])) w'):=uj_ {N:=43,keep:=kp 0 [[0,1,4,5],[0,1,6],[]],bX:=[(2,[0,1,2,3,4,5,7,8,9,10,11,13,14,15,16,6,12,17])]} func120 (by kernel_rfl)
theorem ahq {x x1 x2 w R}:Uj (Calls prog 121 #[ab x,I x1,I x2] w R) (Fo (x2==4) (∃a,x=aa a/\Lp w (add (a.add 0) 6) λp=>Ct 219 [ab p,I x1] w λn d w'=>Cq 220 [ab x,I x1,I 6,I n,I 0] w' λp n c w'=>R (Z (ar p n c)) w') (Fo (x2==5) (Call prog 201 [ab x,I x1] w λe w'=>∃n b,e=Z (aw #[I n,.bool b])/\∃a,x=aa a/\Lp w' (add (a.add 0) 3) λp=>Ci 221 [ab p,I n] w' λd w'=>Cq 220 [ab x,I x1,I 4,I n,I 0] w' λp n c w'=>R (Z (ar p n c)) w') (Fo (x2==6) (Cq 222 [ab x,I x1] w λp n c w'=>R (Z (ar p n c)) w') (Fo (x2==7) (∃a,x=aa a/\Lp w (add (a.add 0) 5) λp=>Ct 223 [ab p,I x1] w λn d w'=>Cq 220 [ab x,I x1,I 5,I n,I 0] w' λp n c w'=>R (Z (ar p n c)) w') (∃a,x=aa a/\Lp w (add (a.add 0) 1) λp=>Ct 224 [ab p,I x1] w λn d w'=>Cq 220 [ab x,I x1,I 2,I n,I 0] w' λp n c w'=>R (Z (ar p n c)) w'))))):=uj_ {N:=86,keep:=kp 0 [[0,1,2],[0,1,15],[0,1,15,16],[0,1,7],[6],[0,1,15,32],[0,1,9],[0,1,9],[6],[0,1,15,51],[6],[0,1,56],[0,1,11],[6],[0,1,13],[6]],bk:=[(0,[0,1])]} func121 (by kernel_rfl)
theorem ahs {x x1 x2 x3 x4 x5 x6 u t w R}:Uj (Calls prog 123 #[ab x,I x1,agg #[(.bool x2),(.bool x3),I x4,I x5,I x6,I u],I t] w R) (aJ w [.bool x2,.bool x3,I x4,I x5,I x6,I u] 226 λp w'=>∃a,x=aa a/\Lp w' (add (a.add 0) 12) λh=>Call prog 227 [ab h,I x1] w' λe w'=>∃n i r,e=Z (aw #[I n,I i,I r])/\∃a,x=aa a/\Lq w' (add (a.add 0) 14) λj k c=>(0<=x1/\x1<(↑k:Int))/\∃a,j=aa a/\Lp w' (add a (aG x1*1)) λl=>Ct 228 [ab l,I n,I i] w' λn s w'=>Lj w' (p.add 1) λb=>Fo b (Sm w' λf=>∃a,x=aa a/\∃g,f.cell? (add (a.add 0) 13)=aa (ab g)/\∃n,f.cell? (p.add 2)=aa (I n)/\∃d,f.cell? (p.add 2)=aa (I d)/\Call prog 218 [] f λe w'=>∃m o c,e=Z (ar m o c)/\w'.cell? (p.add 2)=aa (I d)/\w'.cell? (p.add 2)=aa (I n)/\w'.cell? (add (a.add 0) 13)=aa (ab g)/\(0<=d/\d<(↑o:Int))/\∃a,m=aa a/\∃q,w'.cell? (add (add a (aG d*3)) 2)=aa (I q)/\Ci 229 [ab g,I x1,I n,I t,I q] w' λn w'=>R (Z (aw #[])) w') (∃a,x=aa a/\Lp w' (add (a.add 0) 13) λp=>Ci 230 [ab p,I x1,I t,I n] w' λn w'=>R (Z (aw #[])) w')):=uj_ {N:=65,keep:=kp 0 [[0,1,3,6],[0,1,3,6,8,9],[0,1,3,6,11],[0,1,3,6,11,39],[],[]],bX:=[(4,[0,1,2,3,4,5,6,7,8,10,11,9,12,13,14,15])]} func123 (by kernel_rfl)
theorem ahv {x x1 x2 w R}:Uj (Calls prog 126 #[ab x,I x1,I x2] w R) (∃a,x=aa a/\Lp w (add (a.add 0) 0) λp=>Call prog 127 [ab p,I x1] w λe w'=>∃n f g b h i o,e=Z (aw #[agg #[I n,int .u64 f,I g,.bool b,.bool h,I i],I o])/\aJ w' [I 0,int .u64 0,I 0,.bool ae,.bool ae,I 0] 250 λp w'=>Wr w' p [I n,int .u64 f,I g,.bool b,.bool h,I i] λw'=>Sm w' λc=>∃n,c.cell? (p.add 1)=aa (int .u64 n)/\∃a,x=aa a/\∃j,c.cell? (a.add 17)=aa (int .u64 j)/\Call prog 233 [int .u64 n,int .u64 j,I x2] c λe w'=>∃n b q,e=Z (aw #[I n,.bool b,I q])/\∃a,x=aa a/\Lp w' (add (a.add 0) 0) λk=>Ci 234 [ab k,I x1,I n,.bool b] w' λr w'=>Sm w' λd=>∃a,x=aa a/\∃l,d.cell? (add (a.add 0) 1)=aa (ab l)/\∃m,d.cell? (p.add 0)=aa (I m)/\Call prog 235 [ab l,I n,I m,I x1] d λe w'=>∃n,e=Z (I n)/\R (Z (aw #[])) w'):=uj_ {N:=52,keep:=kp 0 [[0,1,2,6],[0,1,6,8,9],[0,1,6,8],[]],bX:=[(1,(.range 15)),(3,(.range 10))]} func126 (by kernel_rfl)
def zC:Mt:={N:=27,keep:=kp 0 [[0,1,5],[0,1,5,8],[0,1],[0,1],[6]],cE:=[(4,[0,1])]}
def V9:=a8 f128
def CV:=V9.sr.sr
def Du (x:Option Addr) (x1:Int):Env:=[vP 0 x,vI 1 x1]
def D1 (R:RT):=Rt f128 R
theorem ahx {x x1 x2 x3 x4 x5 x6 c w R}:Uj (Calls prog 128 #[ab x,I x1,agg #[I x2,(int .u64 x3),I x4,(.bool x5),(.bool x6),I c]] w R) (aJ w [I x2,int .u64 x3,I x4,.bool x5,.bool x6,I c] 250 λp w'=>Lj w' (p.add 4) λb=>Fo b (Li w' (p.add 5) λn=>Cn 133 [ab x,I n] w' λw'=>aU prog zC CV (Du x x1) w' (D1 R)) (∃a,x=aa a/\Lp w' (add (a.add 0) 1) λp=>Ci 237 [ab p,I x1] w' λn w'=>aU prog zC CV (Du x x1) w' (D1 R))):=uj_ zC func128 (by kernel_rfl)
theorem aeY (x x1 w R):den prog zC CV (Du x x1) w (D1 R)=
(∃a,x=aa a/\Lp w (add (a.add 0) 0) λp=>Ci 238 [ab p,I x1] w λn w'=>R (Z (I n)) w'):=by kernel_rfl
theorem ahz {x x1 w R}:Uj (Calls prog 130 #[ab x,I x1] w R) (∃a,x=aa a/\Lp w (add (a.add 0) 0) λp=>Call prog 127 [ab p,I x1] w λe w'=>∃n d f b g h l,e=Z (aw #[agg #[I n,int .u64 d,I f,.bool b,.bool g,I h],I l])/\aJ w' [I 0,int .u64 0,I 0,.bool ae,.bool ae,I 0] 250 λp w'=>Wr w' p [I n,int .u64 d,I f,.bool b,.bool g,I h] λw'=>Sm w' λc=>∃b,c.cell? (p.add 4)=aa (.bool b)/\Fz b (∃a,x=aa a/\∃n,c.cell? (a.add 17)=aa (int .u64 n)/\∃i,c.cell? (p.add 1)=aa (int .u64 i)/\∃j,c.cell? (p.add 2)=aa (I j)/\∃b,c.cell? (p.add 3)=aa (.bool b)/\Call prog 239 [int .u64 n,agg #[I 0,int .u64 i,I j,.bool b]] c λe w'=>∃b,e=Z (.bool b)/\Fo (!b) (R (Z (aw #[])) w') (∃a,x=aa a/\Lp w' (add (a.add 0) 1) λk=>Ci 237 [ab k,I x1] w' λn w'=>Li w' (p.add 2) λn=>Cn 126 [ab x,I x1,I n] w' λw'=>R (Z (aw #[])) w')) (R (Z (aw #[])) c)):=uj_ {N:=45,keep:=kp 0 [[0,1,4],[0,1,4,32],[0,1,4],[]],bX:=[(1,(.range 17))]} func130 (by kernel_rfl)
def zD:Mt:={N:=79,keep:=kp 0 [[0,1,3,6],[0,1,6,10,11],[0,1,6,10,11,24],[8,9],[0,1,10,12],[0,1,10,12,34],[0,1,10,12],[0,1,11,13],[0,1,11,13,55],[8,9],[0,1,13],[0,1,13],[8,9]],cE:=[(7,[0,1,10,12])]}
def Wa:=a8 f131
def CW:=Wa.sr.sr.sr.sr.sr
def Dv (x:Option Addr) (x1 x2 x3:Int):Env:=[vP 0 x,vI 1 x1,vI 10 x2,vI 12 x3]
def D2 (R:RT):=Rt f131 R
theorem ahA {x x1 x2 x3 x4 x5 x6 e j w R}:Uj (Calls prog 131 #[ab x,I x1,agg #[I x2,(int .u64 x3),I x4,(.bool x5),(.bool x6),I e],I j] w R) (aJ w [I x2,int .u64 x3,I x4,.bool x5,.bool x6,I e] 250 λp w'=>∃a,x=aa a/\Li w' (a.add 18) λn=>Ct 122 [I n,I j] w' λn c w'=>Fo (c !=0) (R (Z (aw #[I 0,I c])) w') (Li w' (p.add 2) λd=>∃a,x=aa a/\Lu w' (a.add 17) λf=>Cj 23 [int .u64 f,I d] w' λb w'=>Fo (!b) (∃a,x=aa a/\Lu w' (a.add 17) λg=>Ct 159 [int .u64 g] w' λh i w'=>aU prog zD CW (Dv x x1 n h) w' (D2 R)) (aU prog zD CW (Dv x x1 n d) w' (D2 R)))):=uj_ zD func131 (by kernel_rfl)
theorem ae0 (x x1 x2 x3 w R):den prog zD CW (Dv x x1 x2 x3) w (D2 R)=
(∃a,x=aa a/\Lp w (add (a.add 0) 2) λp=>Ct 240 [ab p,I x3,I x2] w λn b w'=>Fo (b !=0) (R (Z (aw #[I 0,I b])) w') (∃a,x=aa a/\∃r,w'.cell? (a.add 20)=aa (map r)/\∃c,aZ prog (ic 78 (map r) (I n) (I x1)) w'=a7 () c/\∃a,x=aa a/\∃p,c.cell? (add (a.add 0) 1)=aa (ab p)/\Call prog 237 [ab p,I x1] c λe w'=>∃f,e=Z (I f)/\∃a,x=aa a/\Lp w' (add (a.add 0) 0) λp=>Ci 241 [ab p,I x1,I n] w' λd w'=>R (Z (aw #[I n,I d])) w')):=by kernel_rfl
theorem ahC {x x1 w R}:Uj (Calls prog 133 #[ab x,I x1] w R) (∃a,x=aa a/\Lp w (add (a.add 0) 2) λp=>Ci 244 [ab p,I x1] w λn w'=>∃a,x=aa a/\∃r,w'.cell? (a.add 20)=aa (map r)/\∃b,aZ prog (iJ #[78,3] 0 #[map r,I x1]) w'=a7 (aw #[]) b/\R (Z (aw #[])) b):=uj_ {N:=16,keep:=kp 0 [[0,1],[]]} func133 (by kernel_rfl)
theorem ahD {x x1 w R}:Uj (Calls prog 134 #[ab x,I x1] w R) (∃a,x=aa a/\Lp w (add (a.add 0) 0) λp=>Ct 245 [ab p,I x1] w λn h w'=>∃a,x=aa a/\Lp w' (add (a.add 0) 0) λp=>Call prog 127 [ab p,I x1] w' λe w'=>∃n c d b f g i,e=Z (aw #[agg #[I n,int .u64 c,I d,.bool b,.bool f,I g],I i])/\aJ w' [I 0,int .u64 0,I 0,.bool ae,.bool ae,I 0] 250 λp w'=>Wr w' p [I n,int .u64 c,I d,.bool b,.bool f,I g] λw'=>Li w' (p.add 2) λn=>Cn 126 [ab x,I x1,I n] w' λw'=>R (Z (aw #[])) w'):=uj_ {N:=28,keep:=kp 0 [[0,1],[0,1,4],[]]} func134 (by kernel_rfl)
theorem ahE {x x1 x2 x3 w R}:Uj (Calls prog 135 #[I x,(func (aQ x1) #[] #[ab (aa x2),ab (aa x3)])] w R) (Fo (x==0) (bif jx prog x1 then Call prog x1 [ab (aa x2),ab (aa x3)] w λe w'=>e=Z (aw #[])/\R (Z (I x)) w' else ∃w',aZ prog (callFunc x1 #[ab (aa x2),ab (aa x3)]) w=a7 (Next.value (aw #[])) w'/\R (Z (I x)) w') (R (Z (I x)) w)):=uj_ {N:=10,keep:=kp 0 [[0,1],[0,1,6],[0],[4]]} func135 (by kernel_rfl)
theorem ahG {x x1 w R}:Uj (Calls prog 137 #[ab (aa x),ab (aa x1)] w R) (Sm w λw'=>Lp w' x λp=>Li w' (x1.add 2) λn=>Li w' (x1.add 2) λc=>Lp w' x λd=>∃a,d=aa a/\Li w' (a.add 15) λb=>b≠0/\Cn 138 [ab p,I n,I (eH c b)] w' λw'=>R (Z (aw #[])) w'):=uj_ {N:=13,keep:=kp 0 [[]],bX:=[(0,(.range 11))]} func137 (by kernel_rfl)
theorem ahH {x x1 x2 w R}:Uj (Calls prog 138 #[ab x,I x1,I x2] w R) (∃a,x=aa a/\Lp w (add (a.add 0) 3) λp=>Call prog 248 [ab p,I x1] w λe w'=>∃b d f n h,e=Z (aw #[agg #[.bool b,.bool d,.bool f,int .u64 n],I h])/\aJ w' [.bool ae,.bool ae,.bool ae,int .u64 0] 198 λp w'=>Wr w' p [.bool b,.bool d,.bool f,int .u64 n] λw'=>Sm w' λc=>∃n,c.cell? (p.add 3)=aa (int .u64 n)/\∃a,x=aa a/\∃g,c.cell? (a.add 17)=aa (int .u64 g)/\Call prog 233 [int .u64 n,int .u64 g,I x2] c λe w'=>∃n b i,e=Z (aw #[I n,.bool b,I i])/\∃a,x=aa a/\Lp w' (add (a.add 0) 4) λp=>Ci 249 [ab p,I x1,I n] w' λn w'=>R (Z (aw #[])) w'):=uj_ {N:=41,keep:=kp 0 [[0,1,2,6],[0,1,8],[]],bX:=[(1,(.range 15))]} func138 (by kernel_rfl)
theorem ahJ {x x1 w R}:Uj (Calls prog 140 #[ab (aa x),ab (aa x1)] w R) (Sm w λw'=>Lp w' x λp=>∃a,p=aa a/\Lp w' (add (a.add 0) 4) λp=>Li w' (x1.add 2) λn=>Ci 141 [ab p,I n] w' λn w'=>R (Z (aw #[])) w'):=uj_ {N:=10,keep:=kp 0 [[]],bX:=[(0,(.range 8))]} func140 (by kernel_rfl)
theorem ahM {x x1 w R}:Uj (Calls prog 143 #[ab (aa x),ab (aa x1)] w R) (Lp w x λp=>Li w (x1.add 2) λn=>Cn 144 [ab p,I n] w λw'=>R (Z (aw #[])) w'):=uj_ {N:=6,keep:=kp 0 [[]]} func143 (by kernel_rfl)
theorem ahN {x x1 w R}:Uj (Calls prog 144 #[ab x,I x1] w R) (∃a,x=aa a/\Lp w (add (a.add 0) 3) λp=>Call prog 248 [ab p,I x1] w λe w'=>∃b g h n k,e=Z (aw #[agg #[.bool b,.bool g,.bool h,int .u64 n],I k])/\aJ w' [.bool ae,.bool ae,.bool ae,int .u64 0] 198 λp w'=>Wr w' p [.bool b,.bool g,.bool h,int .u64 n] λw'=>∃a,x=aa a/\Lp w' (add (a.add 0) 4) λi=>Call prog 186 [ab i,I x1] w' λe w'=>∃n b,e=Z (aw #[I n,.bool b])/\Sm w' λc=>∃a,x=aa a/\∃d,c.cell? (a.add 17)=aa (int .u64 d)/\∃f,c.cell? (p.add 3)=aa (int .u64 f)/\∃j,c.cell? (p.add 3)=aa (int .u64 j)/\Call prog 23 [int .u64 j,I n] c λe w'=>∃b,e=Z (.bool b)/\w'.cell? (p.add 3)=aa (int .u64 f)/\w'.cell? (a.add 17)=aa (int .u64 d)/\Cj 239 [int .u64 d,agg #[I 0,int .u64 f,I n,.bool !b]] w' λb w'=>Fo b (Cn 138 [ab x,I x1,I n] w' λw'=>R (Z (aw #[])) w') (R (Z (aw #[])) w')):=uj_ {N:=46,keep:=kp 0 [[0,1,4],[0,1,4,6],[0,1,6,41],[]],bX:=[(2,(.range 14))]} func144 (by kernel_rfl)
theorem ahV {x x1 w R}:Uj (Calls prog 152 #[ab x,I x1] w R) (Fz (decide (x1<0)) (∃a,x=aa a/\Li w (a.add 15) λn=>Fo (decide (x1>=n)) (R (Z (I 3)) w) (∃a,x=aa a/\Lu w (a.add 17) λn=>Cj 23 [int .u64 n,I x1] w λb w'=>Fo (!b) (R (Z (I 9)) w') (R (Z (I 0)) w'))) (R (Z (I 3)) w)):=uj_ {N:=24,keep:=kp 0 [[0,1],[0,1,5],[4],[16],[4],[4]],bk:=[(0,[])]} func152 (by kernel_rfl)
theorem ahW {x x1 x2 w R}:Uj (Calls prog 153 #[ab x,I x1,I x2] w R) (∃a,x=aa a/\Li w (a.add 18) λn=>Ct 122 [I n,I x2] w λn b w'=>Fo (b !=0) (R (Z (aw #[I 0,I b])) w') (∃a,x=aa a/\Lp w' (add (a.add 0) 2) λp=>Ct 240 [ab p,I x1,I n] w' λn c w'=>R (Z (aw #[I n,I c])) w')):=uj_ {N:=32,keep:=kp 0 [[0,1,2],[0,1,8,9],[0,1,8,9,20],[6,7],[6,7]]} func153 (by kernel_rfl)
theorem ah5 {x x1 w R}:Uj (Calls prog 162 #[ab x,I x1] w R) (∃a,x=aa a/\Lp w (add (a.add 0) 2) λp=>Call prog 105 [ab p,I x1] w λe w'=>∃n b,e=Z (aw #[I n,.bool b])/\Fo (!b) (R (Z (I 4)) w') (∃a,x=aa a/\∃r,w'.cell? (a.add 20)=aa (map r)/\∃n,aZ prog (dr 78 (map r) (I x1) ae) w'=a7 (I n) w'/\Fo (decide (n>0)) (R (Z (I 6)) w') (∃a,x=aa a/\Lp w' (add (a.add 0) 2) λp=>Ci 244 [ab p,I x1] w' λn w'=>R (Z (I n)) w'))):=uj_ {N:=35,keep:=kp 0 [[0,1],[0,1,6],[0,1,17],[4],[0,1,20],[4],[4]],bk:=[(0,[0,1])]} func162 (by kernel_rfl)
theorem ah6 {x x1 w R}:Uj (Calls prog 163 #[ab x,I x1] w R) (Fz (decide (x1<1)) (Fo (decide (x1>32)) (R (Z (aw #[I 0,I 2])) w) (∃a,x=aa a/\Lp w (add (a.add 0) 5) λp=>Cj 263 [ab p,I x1] w λb w'=>Fo b (R (Z (aw #[I 1,I 0])) w') (R (Z (aw #[I 0,I 0])) w'))) (R (Z (aw #[I 0,I 2])) w)):=uj_ {N:=21,keep:=kp 0 [[0,1],[0,1,6],[4,5],[13],[4,5],[4,5]],bk:=[(0,[])]} func163 (by kernel_rfl)
theorem ah7 {x x1 w R}:Uj (Calls prog 164 #[ab x,I x1] w R) (Fz (decide (x1<0)) (Fo (decide (x1>=10)) (R (Z (I 3)) w) (∃a,x=aa a/\Lp w (add (a.add 0) 11) λp=>Ci 264 [ab p,I x1] w λn w'=>R (Z (I n)) w')) (R (Z (I 3)) w)):=uj_ {N:=18,keep:=kp 0 [[0,1],[0,1,10],[4],[4]]} func164 (by kernel_rfl)
theorem ah9 {x x1 w R}:Uj (Calls prog 166 #[ab x,I x1] w R) (Fz (decide (x1<0)) (Fo (decide (x1>1073741824)) (R (Z (I 2)) w) (∃a,x=aa a/\Wr w (a.add 19) [I x1] λw'=>R (Z (I 0)) w')) (R (Z (I 2)) w)):=uj_ {N:=15,keep:=kp 0 [[0,1],[0,1,10],[4],[],[4]]} func166 (by kernel_rfl)
def BY:Mt:={N:=26,keep:=kp 0 [[0,1,2],[0,1,2,7],[1,2,7,14,15,16],[1,2,7,14,15,16,17],[1,2,9,14,15,16],[1,2,7,14,15,16],[1,2,7,14,15,16],[6]],bk:=[(0,[7]),(1,[1,2,7,14,15,16])],lk:=[(3,[1,2,7,14,15,16])]}
def Mg:=a8 f167
def Wf:=Mg.sr.sr.sr
def Mh:=Mg.sr.sr.sl.sr.sl.sl
def Hr (x x1 x2:Int) (x3:Option Addr) (x4 x5:Nat) (x6 a:Int):Env:=[vI 1 x,vI 2 x1,vI 7 x2,vS 14 x3 x4 x5,vI 15 x6,vI 16 a]
def Qt (R:RT):=bo 0 [7] (SQ BY Wf (Rt f167 R) (Rt f167 R))
theorem aia {x x1 x2 w R}:Uj (Calls prog 167 #[ab x,I x1,I x2] w R) (∃a,x=aa a/\Lq w (add (a.add 0) 14) λp n c=>Cut (WP prog 26 (bh Mh) (Hr x1 x2 0 p n c (↑n:Int) 0) w (Qt R))):=uj_ BY func167 (by kernel_rfl)
theorem ae4 (x x1 x2 x3 x4 x5 x6 b w B R):den prog BY Mh (Hr x x1 x2 x3 x4 x5 x6 b) w (bC B (Qt R))=
(Fo (decide (b<x6)) ((0<=b/\b<(↑x4:Int))/\∃a,x3=aa a/\Lp w (add a (aG b*1)) λp=>Ci 266 [ab p,I x,I x1] w λn w'=>B [vI 1 x,vI 2 x1,vI 7 n,vS 14 x3 x4 x5,vI 15 x6,(16,SV.v (I (wrap i64 (b+1))))] w') (R (Z (I x2)) w)):=by kernel_rfl
def lJ:Mt:={N:=104,keep:=kp 0 [[1,2,8,62],[1,2,3,8,62],[1,2,3,5,8,62],[1,2,3,5,8,52,62],[2],[1,2,5,8,60,62],[],[1,2,5,8,9],[1,2,5,8,9,77],[1,2,5,8,9],[1,2,5,8,9],[2,8],[2],[2]],bX:=[(1,(.range 15)),(2,(.range 16)),(3,[0,1,2,3,4,5,7,8,9,10,11,12,6,13,14,15]),(10,(.range 8)),(11,(.range 10))],bk:=[(0,[2]),(1,[])],alts:=[(2,(.step 0 (.step 1 (.step 2 (.step 3 (.step 4 (.step 5 (.step 6 (.step 7 (.step 8 (.alt (.step 9 (.step 10 (.step 11 (.step 12 (.step 13 (.step 14 (.step 15 .fin))))))) (.step 13 (.step 9 (.step 10 (.step 11 (.step 12 (.step 14 (.step 15 .fin))))))))))))))))))]}
def oH:=a8 f168
def Wg:=oH.sr.sr.sr.sr.sr
def Mi:=oH.sr.sr.sr.sr.sl.sr.sl
theorem VB:f168.body=aa oH:=by kernel_rfl
theorem n168:f168.ntmps=lJ.N:=by kernel_rfl
theorem aid {x x1 x2 x3 w R}:Uj (Calls prog 172 #[ar x x1 x2,func (aQ 175) #[(ab x3)] #[]] w R) (Ci 270 [ar x x1 x2,func (aQ 175) #[ab x3] #[]] w λn w'=>R (Z (.bool (decide (n>=0)))) w'):=uj_ {N:=9,keep:=kp 0 [[0,1],[4]]} func172 (by kernel_rfl)
theorem aie {x w R}:Uj (Calls prog 173 #[ab x] w R) (Call prog 72 [ab x] w λe w'=>∃p b d a f g h i j k l m o q r n c,e=Z (agg #[ab p,ab b,ab d,ab a,ab f,ab g,ab h,ab i,ab j,ab k,ab l,ab m,ab o,ab q,ar r n c])/\R (Z (ab a)) w'):=uj_ {N:=6,keep:=kp 0 [[0],[2]]} func173 (by kernel_rfl)
theorem aii {x w R}:Uj (Calls prog 178 #[ab x] w R) (Call prog 72 [ab x] w λe w'=>∃p b d f g h i j k l m o a q r n c,e=Z (agg #[ab p,ab b,ab d,ab f,ab g,ab h,ab i,ab j,ab k,ab l,ab m,ab o,ab a,ab q,ar r n c])/\R (Z (ab a)) w'):=uj_ {N:=6,keep:=kp 0 [[0],[2]]} func178 (by kernel_rfl)
theorem aik {x w R}:Uj (Calls prog 180 #[ab x] w R) (Call prog 72 [ab x] w λe w'=>∃p a b d f g h i j k l m o q r n c,e=Z (agg #[ab p,ab a,ab b,ab d,ab f,ab g,ab h,ab i,ab j,ab k,ab l,ab m,ab o,ab q,ar r n c])/\R (Z (ab p)) w'):=uj_ {N:=6,keep:=kp 0 [[0],[2]]} func180 (by kernel_rfl)
theorem aio {x w R}:Uj (Calls prog 185 #[ab x] w R) (Call prog 72 [ab x] w λe w'=>∃p b d f a g h i j k l m o q r n c,e=Z (agg #[ab p,ab b,ab d,ab f,ab a,ab g,ab h,ab i,ab j,ab k,ab l,ab m,ab o,ab q,ar r n c])/\R (Z (ab a)) w'):=uj_ {N:=6,keep:=kp 0 [[0],[2]]} func185 (by kernel_rfl)
theorem aiD {x x1 w R}:Uj (Calls prog 201 #[ab x,I x1] w R) (∃a,x=aa a/\Lp w (add (a.add 0) 4) λp=>Cq 291 [ab p,I x1] w λp n c w'=>∃a,x=aa a/\Lp w' (add (a.add 0) 3) λd=>Ci 270 [ar p n c,func (aQ 175) #[ab d] #[]] w' λb w'=>Fo (decide (b<0)) (R (Z (aw #[I 0,.bool ae])) w') ((0<=b/\b<(↑n:Int))/\∃a,p=aa a/\Li w' (add a (aG b*1)) λn=>R (Z (aw #[I n,.bool ag])) w')):=uj_ {N:=29,keep:=kp 0 [[0,1],[0,6],[6,7],[6,7,24],[4,5],[4,5]]} func201 (by kernel_rfl)
theorem aiM {x x1 x2 x3 x4 x5 w R}:Uj (Calls prog 209 #[ab x,agg #[I x1,(.bool x2),(.bool x3)],I x4,I x5] w R) (aJ w [I x1,.bool x2,.bool x3] 303 λp w'=>∃a,x=aa a/\Lp w' (add (a.add 0) 11) λd=>Cj 100 [ab d] w' λb w'=>Lj w' (p.add 1) λc=>Fo c (Li w' (p.add 0) λn=>Cn 297 [ab x,.bool b,I n,I x4] w' λw'=>R (Z (.bool ag)) w') (Li w' (p.add 0) λn=>Fo (n==0) (∃a,x=aa a/\Lp w' (add (a.add 0) 9) λp=>Ci 298 [ab p] w' λn w'=>R (Z (.bool (n==0))) w') (Fo b (Li w' (p.add 0) λn=>Cn 299 [ab x,I n,I x4] w' λw'=>R (Z (.bool ag)) w') (Li w' (p.add 0) λn=>Cj 300 [ab x,I n,I x4,I x5] w' λb w'=>R (Z (.bool b)) w')))):=uj_ {N:=49,keep:=kp 0 [[0,2,3,5],[0,2,3,5,9],[0,2,3,5,9,16],[],[8],[0,2,3,5,9,25],[8],[0,2,3,5,36],[],[8],[8]],bk:=[(0,[0,2,3,5])]} func209 (by kernel_rfl)
theorem aiY {x x1 x2 x3 x4 w R}:Uj (Calls prog 220 #[ab x,I x1,I x2,I x3,I x4] w R) (∃a,x=aa a/\Lp w (add (a.add 0) 8) λp=>Ci 260 [ab p,I x1,I 1] w λn w'=>aJ w' [I x2,I x1,I x3,I x4,I 0] 43 λp w'=>R (Z (ar (aa p) 1 1)) w'):=uj_ {N:=24,keep:=kp 0 [[0,1,2,3,4],[1,2,3,4],[10]]} func220 (by kernel_rfl)
def zG:Mt:={N:=39,keep:=kp 0 [[0,1],[0,1,5],[0,1,5,7],[0,1,5,7],[0,1,5,7,30],[0,1,5,7],[4]],cE:=[(6,[0,1,5,7])]}
def Wo:=a8 f222
def C3:=Wo.sr.sr.sr.sr.sr
def Dz (x:Option Addr) (x1 x2 x3:Int):Env:=[vP 0 x,vI 1 x1,vI 5 x2,vI 7 x3]
def D7 (R:RT):=Rt f222 R
theorem ai0 {x x1 w R}:Uj (Calls prog 222 #[ab x,I x1] w R) (∃a,x=aa a/\Lp w (add (a.add 0) 2) λp=>Ct 306 [ab p,I x1] w λn d w'=>∃a,x=aa a/\∃r,w'.cell? (a.add 20)=aa (map r)/\∃b,aZ prog (dr 78 (map r) (I n) ae) w'=a7 (I b) w'/\∃a,x=aa a/\∃r,w'.cell? (a.add 20)=aa (map r)/\∃c,aZ prog (iJ #[78,3] 0 #[map r,I n]) w'=a7 (aw #[]) c/\Fo (decide (b>0)) (Call prog 134 [ab x,I b] c λe w'=>e=Z (aw #[])/\aU prog zG C3 (Dz x x1 n b) w' (D7 R)) (aU prog zG C3 (Dz x x1 n b) c (D7 R))):=uj_ zG func222 (by kernel_rfl)
theorem afk (x x1 x2 x3 w R):den prog zG C3 (Dz x x1 x2 x3) w (D7 R)=
(Cq 220 [ab x,I x1,I 3,I x2,I x3] w λp n c w'=>R (Z (ar p n c)) w'):=by kernel_rfl
def B8:Mt:={N:=19,keep:=kp 0 [[0,1],[0,1,7,8],[0,1,7,8,9],[0,1,5,7,8],[0,1,5,7,8,16],[4],[0,1,7,8],[4]],bk:=[(0,[]),(1,[0,1,7,8])],lk:=[(2,[0,1,7,8])]}
def MQ:=a8 f270
def Wu:=MQ.sr.sr
def MR:=MQ.sr.sl.sr.sl.sl
def OZ (x:Option Addr) (x1 x2:Nat) (x3:Option Addr) (x4 x5:Int):Env:=[vS 0 x x1 x2,(1,SV.v (func (aQ 175) #[(ab x3)] #[])),vI 7 x4,vI 8 x5]
def QM (R:RT):=bo 0 [] (SQ B8 Wu (Rt f270 R) (Rt f270 R))
theorem ajL {x x1 x2 x3 w R}:Uj (Calls prog 270 #[ar x x1 x2,func (aQ 175) #[(ab x3)] #[]] w R) (Cut (WP prog 19 (bh MR) [vS 0 x x1 x2,(1,SV.v (func (aQ 175) #[ab x3] #[])),(7,SV.v (I (↑x1:Int))),vI 8 0] w (QM R))):=uj_ B8 func270 (by kernel_rfl)
theorem afs (x x1 x2 x3 x4 x5 w B R):den prog B8 MR (OZ x x1 x2 x3 x4 x5) w (bC B (QM R))=
(Fo (decide (x5<x4)) ((0<=x5/\x5<(↑x1:Int))/\∃a,x=aa a/\Li w (add a (aG x5*1)) λn=>Cj 175 [ab x3,I n] w λb w'=>Fo b (R (Z (I x5)) w') (B [vS 0 x x1 x2,(1,SV.v (func (aQ 175) #[ab x3] #[])),vI 7 x4,(8,SV.v (I (wrap i64 (x5+1))))] w')) (R (Z (I (-1:Int))) w)):=by kernel_rfl
theorem aj6 {x x1 x2 x3 w R}:Uj (Calls prog 297 #[ab x,.bool x1,I x2,I x3] w R) (Fo x1 (Fo (x2==1) (∃a,x=aa a/\Lp w (add (a.add 0) 12) λp=>Ci 354 [ab p,I x3,.bool ae] w λn w'=>R (Z (aw #[])) w') (Fo (!x1) (Fo (x2==1) (∃a,x=aa a/\Lu w (a.add 17) λn=>aJ w [I x3] 3 λp w'=>Cu 179 [int .u64 n,ar (aa p) 1 1] w' λn w'=>∃a,x=aa a/\Wr w' (a.add 17) [int .u64 n] λw'=>R (Z (aw #[])) w') (R (Z (aw #[])) w)) (R (Z (aw #[])) w))) (Fo (!x1) (Fo (x2==1) (∃a,x=aa a/\Lu w (a.add 17) λn=>aJ w [I x3] 3 λp w'=>Cu 179 [int .u64 n,ar (aa p) 1 1] w' λn w'=>∃a,x=aa a/\Wr w' (a.add 17) [int .u64 n] λw'=>R (Z (aw #[])) w') (R (Z (aw #[])) w)) (R (Z (aw #[])) w))):=uj_ {N:=38,keep:=kp 0 [[0,1,2,3,8],[],[0,3,21],[]],bk:=[(0,[])]} func297 (by kernel_rfl)
def rI:Mt:={N:=79,keep:=kp 0 [[0,2,10],[0,2,10,11],[],[0,2,20],[],[0],[0,54,55,56],[0,54,55,56,57],[0,7,54,55,56],[0,54,55,56],[0,54,55,56],[0,69,70,71],[0,69,70,71,72],[0,9,69,70,71],[0,69,70,71],[0,69,70,71]],bX:=[(5,[0,1,2,3,4,5,6,9,10,11,12,13,7,8,14,15,16,17,18,19,20,21])],bk:=[(0,[0,2]),(1,[0]),(2,[0,54,55,56]),(3,[]),(4,[0,69,70,71])],cE:=[(11,[0])],lk:=[(7,[0,54,55,56]),(12,[0,69,70,71])],alts:=[(5,(.step 0 (.step 1 (.step 2 (.step 3 (.step 4 (.step 5 (.step 6 (.step 9 (.step 10 (.step 11 (.step 12 (.step 13 (.alt (.step 7 (.alt (.step 8 (.step 14 (.step 15 (.step 16 (.step 17 (.step 18 (.step 19 (.step 20 (.step 21 .fin))))))))) (.step 14 (.step 8 (.step 15 (.step 16 (.step 17 (.step 18 (.step 19 (.step 20 (.step 21 .fin))))))))))) (.step 14 (.step 7 (.step 8 (.step 15 (.step 16 (.step 17 (.step 18 (.step 19 (.step 20 (.step 21 .fin))))))))))))))))))))))))]}
def GM:=a8 f299
def C6:=GM.sr.sr.sr
def zZ:=GM.sr.sr.sl.sr.sl.sl
def M3:=GM.sr.sr.sr.sr.sl.sl
def HL (x:Option Addr):Env:=[vP 0 x]
def xV (x x1:Option Addr) (x2 x3:Nat) (x4 x5:Int):Env:=[vP 0 x,vS 54 x1 x2 x3,vI 55 x4,vI 56 x5]
def HM (x x1:Option Addr) (x2 x3:Nat) (x4 x5:Int):Env:=[vP 0 x,vS 69 x1 x2 x3,vI 70 x4,vI 71 x5]
def IW (R:RT):=Rt f299 R
def AM (R:RT):=bo 1 [0] (SQ rI C6 (Rt f299 R) (Rt f299 R))
def QR (R:RT):=bo 3 [] (Rt f299 R)
theorem aj8 {x x1 x2 w R}:Uj (Calls prog 299 #[ab x,I x1,I x2] w R) (Fo (x1==1) (∃a,x=aa a/\Lp w (add (a.add 0) 12) λp=>Ci 354 [ab p,I x2,.bool ag] w λn w'=>R (Z (aw #[])) w') (Fo (x1==2) (∃a,x=aa a/\Lp w (add (a.add 0) 7) λp=>Ct 355 [ab p,I x2] w λn b w'=>R (Z (aw #[])) w') (Sm w λw'=>∃a,x=aa a/\Lu w' (a.add 16) λn=>∃d,x=aa d/\Lu w' (d.add 17) λb=>(aJ w' [I x2] 3 λp w'=>w'.cell? (d.add 17)=aa (int .u64 b)/\w'.cell? (a.add 16)=aa (int .u64 n)/\(Cu 179 [int .u64 n,ar (aa p) 1 1] w' λf w'=>w'.cell? (d.add 17)=aa (int .u64 b)/\aJ w' [I x2] 3 λp w'=>w'.cell? (d.add 17)=aa (int .u64 b)/\w'.cell? (a.add 16)=aa (int .u64 n)/\Cu 179 [int .u64 b,ar (aa p) 1 1] w' λn w'=>∃a,x=aa a/\Wr w' (a.add 16) [int .u64 f] λw'=>∃a,x=aa a/\Wr w' (a.add 17) [int .u64 n] λw'=>∃a,x=aa a/\Lp w' (add (a.add 0) 0) λp=>Cq 181 [ab p] w' λp n c w'=>Cut (WP prog 79 (bh zZ) (xV x p n c (↑n:Int) 0) w' (AM R)))/\aJ w' [I x2] 3 λg w'=>w'.cell? (d.add 17)=aa (int .u64 b)/\w'.cell? (a.add 16)=aa (int .u64 n)/\Cu 179 [int .u64 n,ar (aa p) 1 1] w' λn w'=>w'.cell? (d.add 17)=aa (int .u64 b)/\Cu 179 [int .u64 b,ar (aa g) 1 1] w' λf w'=>∃a,x=aa a/\Wr w' (a.add 16) [int .u64 n] λw'=>∃a,x=aa a/\Wr w' (a.add 17) [int .u64 f] λw'=>∃a,x=aa a/\Lp w' (add (a.add 0) 0) λp=>Cq 181 [ab p] w' λp n c w'=>Cut (WP prog 79 (bh zZ) (xV x p n c (↑n:Int) 0) w' (AM R)))/\aJ w' [I x2] 3 λp w'=>w'.cell? (d.add 17)=aa (int .u64 b)/\w'.cell? (a.add 16)=aa (int .u64 n)/\aJ w' [I x2] 3 λg w'=>w'.cell? (d.add 17)=aa (int .u64 b)/\w'.cell? (a.add 16)=aa (int .u64 n)/\Cu 179 [int .u64 n,ar (aa g) 1 1] w' λn w'=>w'.cell? (d.add 17)=aa (int .u64 b)/\Cu 179 [int .u64 b,ar (aa p) 1 1] w' λf w'=>∃a,x=aa a/\Wr w' (a.add 16) [int .u64 n] λw'=>∃a,x=aa a/\Wr w' (a.add 17) [int .u64 f] λw'=>∃a,x=aa a/\Lp w' (add (a.add 0) 0) λp=>Cq 181 [ab p] w' λp n c w'=>Cut (WP prog 79 (bh zZ) (xV x p n c (↑n:Int) 0) w' (AM R))))):=uj_ rI func299 (by kernel_rfl)
theorem afx (x w R):den prog rI C6 (HL x) w (IW R)=
(∃a,x=aa a/\Lp w (add (a.add 0) 3) λp=>Cq 174 [ab p] w λp n c w'=>Cut (WP prog 79 (bh M3) (HM x p n c (↑n:Int) 0) w' (QR R))):=by kernel_rfl
theorem afy (x x1 x2 x3 x4 x5 w B R):den prog rI zZ (xV x x1 x2 x3 x4 x5) w (bC B (AM R))=
(Fo (decide (x5<x4)) ((0<=x5/\x5<(↑x2:Int))/\∃a,x1=aa a/\Li w (add a (aG x5*1)) λn=>Cn 130 [ab x,I n] w λw'=>B [vP 0 x,vS 54 x1 x2 x3,vI 55 x4,(56,SV.v (I (wrap i64 (x5+1))))] w') (aU prog rI C6 (HL x) w (IW R))):=by kernel_rfl
theorem afz (x x1 x2 x3 x4 x5 w B R):den prog rI M3 (HM x x1 x2 x3 x4 x5) w (bC B (QR R))=
(Fo (decide (x5<x4)) ((0<=x5/\x5<(↑x2:Int))/\∃a,x1=aa a/\Li w (add a (aG x5*1)) λn=>Cn 144 [ab x,I n] w λw'=>B [vP 0 x,vS 69 x1 x2 x3,vI 70 x4,(71,SV.v (I (wrap i64 (x5+1))))] w') (R (Z (aw #[])) w)):=by kernel_rfl
theorem aj9 {x x1 x2 x3 w R}:Uj (Calls prog 300 #[ab x,I x1,I x2,I x3] w R) (Fo (x1==1) (∃a,x=aa a/\Lu w (a.add 17) λn=>Cu 158 [int .u64 n,I x2] w λn w'=>∃a,x=aa a/\Wr w' (a.add 17) [int .u64 n] λw'=>R (Z (.bool ag)) w') (Fo (x1==2) (Cj 356 [ab x,I x2] w λb w'=>R (Z (.bool b)) w') (Fo (x1==3) (∃a,x=aa a/\Lp w (add (a.add 0) 2) λp=>Ct 357 [ab p,I x2,I x3] w λn c w'=>R (Z (.bool (c !=0))) w') (Fo (x1==4) (∃a,x=aa a/\Lp w (add (a.add 0) 5) λp=>Ct 358 [ab p,I x2] w λn c w'=>R (Z (.bool (c !=0))) w') (Fo (x1==5) (∃a,x=aa a/\Lp w (add (a.add 0) 6) λp=>Ct 359 [ab p,I x2,I x3] w λn c w'=>R (Z (.bool (c !=0))) w') (Fo (x1==6) (Cj 360 [ab x,I x2,I x3] w λb w'=>R (Z (.bool b)) w') (Fo (x1==7) (∃a,x=aa a/\Lp w (add (a.add 0) 7) λp=>Ct 355 [ab p,I x2] w λn c w'=>R (Z (.bool ag)) w') (Fo (x1==8) (∃a,x=aa a/\Lp w (add (a.add 0) 8) λp=>Ci 361 [ab p,I x2,I x3] w λn w'=>R (Z (.bool ag)) w') (∃a,x=aa a/\Lu w (a.add 16) λn=>Cu 158 [int .u64 n,I x2] w λn w'=>∃a,x=aa a/\Wr w' (a.add 16) [int .u64 n] λw'=>∃a,x=aa a/\Lp w' (add (a.add 0) 12) λp=>Ci 354 [ab p,I x2,.bool ae] w' λn w'=>R (Z (.bool ag)) w'))))))))):=uj_ {N:=112,keep:=kp 0 [[0,1,2,3],[0,1,2,3],[0,2,3,10],[0,2,3,10,11],[],[8],[0,2,3,10,22],[8],[0,2,3,10,27],[9],[8],[0,2,3,10,42],[9],[8],[0,2,3,10,56],[9],[8],[0,2,3,10,71],[8],[0,2,3,10,77],[],[8],[0,2,3,86],[],[8],[0,2],[],[8]],bk:=[(0,[0,2])]} func300 (by kernel_rfl)
theorem akV {x x1 w R}:Uj (Calls prog 356 #[ab x,I x1] w R) (∃a,x=aa a/\Lp w (add (a.add 0) 1) λp=>Cq 88 [ab p,I x1] w λp n c w'=>Fo ((↑n:Int)==0) (R (Z (.bool ag)) w') (Sm w' λb=>∃a,x=aa a/\∃d,b.cell? (add (a.add 0) 1)=aa (ab d)/\((0:Int)<=0/\0<(↑n:Int))/\∃a,p=aa a/\∃f,b.cell? (a.add 0)=aa (I f)/\Call prog 237 [ab d,I f] b λe w'=>∃g,e=Z (I g)/\((0:Int)<=0/\0<(↑n:Int))/\∃a,p=aa a/\Li w' (a.add 0) λn=>Cn 126 [ab x,I n,I x1] w' λw'=>R (Z (.bool ae)) w')):=uj_ {N:=31,keep:=kp 0 [[0,1],[0,1,5],[0,1,5,15],[4],[0,1,5],[],[4]],bX:=[(4,(.range 9))]} func356 (by kernel_rfl)
def wT:Mt:={N:=63,keep:=kp 0 [[0,1,2],[0,1,2,9],[],[6],[0,1,32],[6],[0,1,46,47,48],[0,1,46,47,48,49],[0,1,8,46,47,48],[0,1,46,47,48],[0,1,46,47,48],[],[6]],bX:=[(2,[0,1,2,3,4,5,6,7,8,9,12,10,11,13,14])],bk:=[(0,[0,1]),(1,[0]),(2,[0,1,46,47,48])],cE:=[(11,[0])],lk:=[(7,[0,1,46,47,48])]}
def Ng:=a8 f360
def GO:=Ng.sr.sr.sr
def Nh:=Ng.sr.sr.sl.sr.sl.sl
def O1 (x:Option Addr):Env:=[vP 0 x]
def HQ (x:Option Addr) (x1:Int) (x2:Option Addr) (x3 x4:Nat) (x5 x6:Int):Env:=[vP 0 x,vI 1 x1,vS 46 x2 x3 x4,vI 47 x5,vI 48 x6]
def QY (R:RT):=Rt f360 R
def QZ (R:RT):=bo 1 [0] (SQ wT GO (Rt f360 R) (Rt f360 R))
theorem akZ {x x1 x2 w R}:Uj (Calls prog 360 #[ab x,I x1,I x2] w R) (∃a,x=aa a/\Lp w (add (a.add 0) 10) λp=>Cj 388 [ab p] w λb w'=>Fo (!b) (Sm w' λd=>∃a,x=aa a/\∃p,d.cell? (add (a.add 0) 10)=aa (ab p)/\∃f,x=aa f/\∃n,d.cell? (f.add 17)=aa (int .u64 n)/\aJ d [I x1] 3 λg w'=>w'.cell? (f.add 17)=aa (int .u64 n)/\w'.cell? (add (a.add 0) 10)=aa (ab p)/\Cu 179 [int .u64 n,ar (aa g) 1 1] w' λn w'=>w'.cell? (add (a.add 0) 10)=aa (ab p)/\Cu 158 [int .u64 n,I x2] w' λn w'=>w'.cell? (add (a.add 0) 10)=aa (ab p)/\Ci 389 [ab p,int .u64 n] w' λn w'=>R (Z (.bool ae)) w') (∃a,x=aa a/\Lp w' (add (a.add 0) 10) λp=>Cj 390 [ab p] w' λb w'=>Fo (!b) (R (Z (.bool ae)) w') (∃a,x=aa a/\Lp w' (add (a.add 0) 4) λp=>Cq 291 [ab p,I x1] w' λp n c w'=>Cut (WP prog 63 (bh Nh) (HQ x x1 p n c (↑n:Int) 0) w' (QZ R))))):=uj_ wT func360 (by kernel_rfl)
theorem afF (x w R):den prog wT GO (O1 x) w (QY R)=
(∃a,x=aa a/\Lp w (add (a.add 0) 10) λp=>Ci 391 [ab p] w λn w'=>R (Z (.bool ag)) w'):=by kernel_rfl
theorem afG (x x1 x2 x3 x4 x5 x6 w B R):den prog wT Nh (HQ x x1 x2 x3 x4 x5 x6) w (bC B (QZ R))=
(Fo (decide (x6<x5)) ((0<=x6/\x6<(↑x3:Int))/\∃a,x2=aa a/\Li w (add a (aG x6*1)) λn=>Cn 138 [ab x,I n,I x1] w λw'=>B [vP 0 x,vI 1 x1,vS 46 x2 x3 x4,vI 47 x5,(48,SV.v (I (wrap i64 (x6+1))))] w') (aU prog wT GO (O1 x) w (QY R))):=by kernel_rfl
end
end
section
open Value IntKind Ending World Addr Tryz
open Value renaming pointer→ab,slice→ar,tuple→aw,bool→qv
set_option maxRecDepth 100000
noncomputable section
def M7:Mt:={N:=140,keep:=kp 0 [[0,1,2],[0,1,2,7,8],[0,1,2,7,32],[6],[0,1,2,7,9],[0,1,2,7,9,37],[0,1,2,7,9],[0,1,2,7,9],[0,7],[0,7,53],[6],[7,10],[7,10,11,12],[7,10,11,12,13,14],[7,10,11,12,13,14,15,16],[7,13,111],[6],[7,13,17],[7,13,17,116],[7,13,17],[7,13,17,18,19],[7,13,17,138],[6],[6]],bX:=[(20,[0,2,3,4,5,6,7,1,8,9,10,11,12,13])],bk:=[(0,[0,2,7]),(1,[0,1,2,7,9]),(2,[]),(3,[7,13,17])],cE:=[(8,[0,2,7]),(23,[])],lk:=[(5,[0,1,2,7,9]),(18,[7,13,17])]}
def c7:=a8 f7
def GW:=c7.sr.sr.sr.sr
def NX:=c7.sr.sr.sr.sl.sr.sl.sl
def GX:=c7.sr.sr.sr.sr.sr.sr.sr.sr.sr.sr.sr.sr
def GY:=c7.sr.sr.sr.sr.sr.sr.sr.sr.sr.sr.sr.sl.sr.sl.sl
def Pa (x x1:Int) (x2:Option Addr):Env:=[vI 0 x,vI 2 x1,vP 7 x2]
def H8 (x:Int) (x1:Option Addr) (x2 x3:Nat) (x4:Int) (x5:Option Addr) (x6:Int):Env:=[vI 0 x,vS 1 x1 x2 x3,vI 2 x4,vP 7 x5,vI 9 x6]
def Pb:Env:=[]
def DE (x:Option Addr) (x1:Addr) (x2:Int):Env:=[vP 7 x,(13,SV.v (ab (aa x1))),vI 17 x2]
def Rq (R:RT):=Rt f7 R
def Rr (R:RT):=bo 0 [0,2,7] (SQ M7 GW (Rt f7 R) (Rt f7 R))
def Rs (R:RT):=Rt f7 R
def IX (R:RT):=bo 2 [] (SQ M7 GX (Rt f7 R) (Rt f7 R))
theorem u7:UT 7 M7 c7 f7:=u_ func7 (by kernel_rfl)
theorem t7 (x x1 x2 x3 x4 w R):den prog M7 c7 (jv 0 [I x,ar x1 x2 x3,I x4]) w (Rt f7 R)=
(Call prog 8 [I x] w λe w'=>∃p n,e=Z (aw #[ab p,I n])/\Fz (n !=0) (Cj 9 [I x,ar x1 x2 x3] w' λb w'=>Fo (!b) (Cj 10 [] w' λb w'=>R (Z (.bool b)) w') (Cut (WP prog 140 (bh NX) (H8 x x1 x2 x3 x4 p 0) w' (Rr R)))) (Cj 10 [] w' λb w'=>R (Z (.bool b)) w')):=by kernel_rfl
theorem af9 (x x1 x2 w R):den prog M7 GW (Pa x x1 x2) w (Rq R)=
(Cq 12 [ab x2,agg #[I 2,I 0,I 0,int .u64 0,I x1]] w λp n c w'=>Cp 19 [ab x2] w' λp w'=>Ci 20 [ab p] w' λn w'=>Fo (decide (n>0)) (Cj 10 [] w' λb w'=>R (Z (.bool b)) w') (Ci 18 [I x] w' λn w'=>Cq 17 [I x,I n] w' λp n c w'=>Ct 21 [ab x2,ar p n c] w' λd f w'=>Call prog 27 [ab x2] w' λe w'=>∃l m o q p r c s t u v y z A B C D E F G H J K L M b N O P g,e=Z (aw #[agg #[I l,int .u64 m,int .u64 o,int .u64 q,ar p r c,ar s t u,ar v y z,ar A B C,ar D E F,ar G H J,ar K L M,.bool b,.bool N,I O,I P],I g])/\aJ w' [I 0,int .u64 0,int .u64 0,int .u64 0,N3,N3,N3,N3,N3,N3,N3,.bool ae,.bool ae,I 0,I 0] 65 λa w'=>Wr w' a [I l,int .u64 m,int .u64 o,int .u64 q,ar p r c,ar s t u,ar v y z,ar A B C,ar D E F,ar G H J,ar K L M,.bool b,.bool N,I O,I P] λw'=>Li w' (a.add 0) λQ=>Lu w' (a.add 1) λS=>Lu w' (a.add 2) λT=>Lu w' (a.add 3) λU=>Lq w' (a.add 4) λp V c=>Lq w' (a.add 5) λW X Y=>∃n' m' k',w'.cell? (a.add 6)=aa (ar n' m' k')/\∃p' q' a',w'.cell? (a.add 7)=aa (ar p' q' a')/\∃b' c' d',w'.cell? (a.add 8)=aa (ar b' c' d')/\∃e' f' g',w'.cell? (a.add 9)=aa (ar e' f' g')/\∃h' n_27 c_12,w'.cell? (a.add 10)=aa (ar h' n_27 c_12)/\Lj w' (a.add 11) λb=>Lj w' (a.add 12) λb_2=>Li w' (a.add 13) λn_28=>Li w' (a.add 14) λn_29=>Ct 28 [agg #[I Q,int .u64 S,int .u64 T,int .u64 U,ar p V c,ar W X Y,ar n' m' k',ar p' q' a',ar b' c' d',ar e' f' g',ar h' n_27 c_12,.bool b,.bool b_2,I n_28,I n_29]] w' λh i w'=>Fz (f !=0) (Fz (decide (d>(↑n:Int))) (Fz (g !=0) (Fz (h !=0) (Fz (i !=0) (Cu 16 [ab x2] w' λn w'=>Cu 22 [ab x2] w' λj w'=>Fz (n !=j) (Lq w' (a.add 8) λp n c=>Lq w' (a.add 9) λp k c=>Fo (wrap i64 ((↑n:Int)+(↑k:Int)) !=0) (R (Z (.bool ae)) w') (Cut (WP prog 140 (bh GY) (DE x2 a 0) w' (IX R)))) (R (Z (.bool ae)) w')) (R (Z (.bool ae)) w')) (R (Z (.bool ae)) w')) (R (Z (.bool ae)) w')) (R (Z (.bool ae)) w')) (R (Z (.bool ae)) w'))):=by kernel_rfl
theorem aga (x x1 x2 x3 x4 x5 x6 w B R):den prog M7 NX (H8 x x1 x2 x3 x4 x5 x6) w (bC B (Rr R))=
(Fo (decide (x6<(↑x2:Int))) ((0<=x6/\x6<(↑x2:Int))/\∃a,x1=aa a/\∃n,w.cell? (add (add a (aG x6*5)) 0)=aa (I n)/\∃b,w.cell? (add (add a (aG x6*5)) 1)=aa (I b)/\∃d,w.cell? (add (add a (aG x6*5)) 2)=aa (I d)/\∃f,w.cell? (add (add a (aG x6*5)) 3)=aa (int .u64 f)/\∃g,w.cell? (add (add a (aG x6*5)) 4)=aa (I g)/\Cq 12 [ab x5,agg #[I n,I b,I d,int .u64 f,I g]] w λp n c w'=>B [vI 0 x,vS 1 x1 x2 x3,vI 2 x4,vP 7 x5,(9,SV.v (I (wrap i64 (x6+1))))] w') (aU prog M7 GW (Pa x x4 x5) w (Rq R))):=by kernel_rfl
theorem agb (w R):den prog M7 GX (Pb) w (Rs R)=
(Cj 10 [] w λb w'=>R (Z (.bool b)) w'):=by kernel_rfl
theorem agc (x x1 x2 w B R):den prog M7 GY (DE x x1 x2) w (bC B (IX R))=
(Lq w (x1.add 6) λp n c=>Fo (decide (x2<(↑n:Int))) (Sm w λw'=>Lq w' (x1.add 6) λp n c=>(0<=x2/\x2<(↑n:Int))/\∃a,p=aa a/\∃d,w'.cell? (add (add a (aG x2*3)) 0)=aa (I d)/\Cp 30 [ab x] w' λg w'=>w'.cell? (add (add a (aG x2*3)) 0)=aa (I d)/\w'.cell? (x1.add 6)=aa (ar p n c)/\Call prog 31 [ab g,I d] w' λe w'=>∃n b,e=Z (aw #[I n,.bool b])/\Fz (!b) (Ci 32 [ab x] w' λf w'=>Fo (decide (n<=f)) (R (Z (.bool ae)) w') (B [vP 7 x,(13,SV.v (ab (aa x1))),(17,SV.v (I (wrap i64 (x2+1))))] w')) (R (Z (.bool ae)) w')) (aU prog M7 GX Pb w (Rs R))):=by kernel_rfl
def M9:Mt:={N:=16,keep:=kp 0 [[0,1],[4]]}
def c9:=a8 f9
theorem n9:f9.ntmps=M9.N:=by kernel_rfl
theorem u9 {x x1 x2 x3 w R}:Uj (Calls prog 9 #[I x,ar x1 x2 x3] w R) (Fo (decide (x>=1)) (Fo (decide (x<=9)) (R (Z (.bool (decide ((↑x2:Int)<=300)))) w) (R (Z (.bool ae)) w)) (R (Z (.bool ae)) w)):=uj_ M9 func9 (by kernel_rfl)
def wO:Mt:={N:=56,keep:=kp 0 [[],[1,2],[1,16],[0],[1,3],[1,3,4],[1,3,4,5],[1,3,4,5,6],[1,3,4,5,6,27],[1,3,4,5,6],[1,3,4,5,6],[0]],bk:=[(0,[1,3,4,5]),(1,[1,3,4,5,6])],cE:=[(11,[1,3,4,5])],lk:=[(8,[1,3,4,5,6])]}
def CU:=a8 f10
def GG:=CU.sr.sr.sr.sr.sr.sr.sr
def L6:=CU.sr.sr.sr.sr.sr.sr.sl.sr.sl.sl
def OS (x x1:Option Addr) (x2 x3:Nat) (x4:Option Addr) (x5 x6:Nat) (a:Option Addr) (b c:Nat):Env:=[vP 1 x,vS 3 x1 x2 x3,vS 4 x4 x5 x6,vS 5 a b c]
def Ho (x x1:Option Addr) (x2 x3:Nat) (x4:Option Addr) (x5 x6:Nat) (b:Option Addr) (c d:Nat) (a:Int):Env:=[vP 1 x,vS 3 x1 x2 x3,vS 4 x4 x5 x6,vS 5 b c d,vI 6 a]
def Qo (R:RT):=Rt f10 R
def Qp (R:RT):=bo 0 [1,3,4,5] (SQ wO GG (Rt f10 R) (Rt f10 R))
theorem u10 {w R}:Uj (Calls prog 10 #[] w R) (Call prog 8 [I 2] w λe w'=>∃p n,e=Z (aw #[ab p,I n])/\Fz (n !=0) (Fo p.isNone (R (Z (.bool ae)) w') (Cq 12 [ab p,agg #[I 3,I 0,I 2,int .u64 3,I 0]] w' λa n c w'=>Cq 12 [ab p,agg #[I 1,I 1,I 0,int .u64 0,I 0]] w' λb d f w'=>Cq 12 [ab p,agg #[I 24,I 1,I 0,int .u64 0,I 0]] w' λg h i w'=>Cut (WP prog 56 (bh L6) (Ho p a n c b d f g h i 0) w' (Qp R)))) (R (Z (.bool ae)) w')):=uj_ wO func10 (by kernel_rfl)
theorem aeU (x x1 x2 x3 x4 x5 x6 a c d w R):den prog wO GG (OS x x1 x2 x3 x4 x5 x6 a c d) w (Qo R)=
(aJ w [I 1,I 0,I 1,I 0,I 0] 43 λp w'=>Cj 59 [ar x1 x2 x3,ar (aa p) 1 1] w' λb w'=>Fo b (aJ w' [I 2,I 1,I 1,I 0,I 0] 43 λp w'=>Cj 59 [ar x4 x5 x6,ar (aa p) 1 1] w' λb w'=>Fo b (aJ w' [I 1,I 0,I 0,I 0,I 0] 43 λp w'=>Cj 59 [ar a c d,ar (aa p) 1 1] w' λb w'=>Fo b (Cu 22 [ab x] w' λn w'=>R (Z (.bool (n==1))) w') (R (Z (.bool ae)) w')) (R (Z (.bool ae)) w')) (R (Z (.bool ae)) w')):=by kernel_rfl
theorem aeV (x x1 x2 x3 x4 x5 x6 b d e a w B R):den prog wO L6 (Ho x x1 x2 x3 x4 x5 x6 b d e a) w (bC B (Qp R))=
(Fo (decide (a<40)) ((2:Int)≠0/\Cq 12 [ab x,agg #[I 1,I (eH a 2),I 0,int .u64 0,I 0]] w λp n c w'=>B [vP 1 x,vS 3 x1 x2 x3,vS 4 x4 x5 x6,vS 5 b d e,(6,SV.v (I (wrap i64 (a+1))))] w') (aU prog wO GG (OS x x1 x2 x3 x4 x5 x6 b d e) w (Qo R))):=by kernel_rfl
def BZ:Mt:={N:=19,keep:=kp 0 [[0,1],[0,1,5],[0,1,5,6],[0,1,5,6,9],[0,1,5,6],[0,1,5,6],[4]],bk:=[(0,[5]),(1,[0,1,5,6])],lk:=[(3,[0,1,5,6])]}
def CZ:=a8 f17
def Wj:=CZ.sr.sr.sr
def Mo:=CZ.sr.sr.sl.sr.sl.sl
def Hu (x x1:Int) (x2:Option Addr) (x3 x4:Nat) (x5:Int):Env:=[vI 0 x,vI 1 x1,vS 5 x2 x3 x4,vI 6 x5]
def Qw (R:RT):=bo 0 [5] (SQ BZ Wj (Rt f17 R) (Rt f17 R))
theorem u17 {x x1 w R}:Uj (Calls prog 17 #[I x,I x1] w R) (Cut (WP prog 19 (bh Mo) (Hu x x1 ah 0 0 0) w (Qw R))):=uj_ BZ func17 (by kernel_rfl)
theorem ae7 (x x1 x2 x3 x4 x5 w B R):den prog BZ Mo (Hu x x1 x2 x3 x4 x5) w (bC B (Qw R))=
(Fo (decide (x5<x1)) (x≠0/\aJ w [I (eH x5 x)] 3 λp w'=>∃a n c b,aZ prog (bR #[36,36] 36 #[ar x2 x3 x4,ar (aa p) 1 1]) w'=a7 (ar a n c) b/\B [vI 0 x,vI 1 x1,vS 5 a n c,(6,SV.v (I (wrap i64 (x5+1))))] b) (R (Z (ar x2 x3 x4)) w)):=by kernel_rfl
def Mp:=a8 f18
theorem u18 {x w R}:Uj (Calls prog 18 #[I x] w R) (Fz (decide (x<1)) (Fo (decide (x>10000)) (R (Z (I 0)) w) (R (Z (I (wrap i64 (x*500)))) w)) (R (Z (I 0)) w)):=uj_ {N:=11,keep:=kp 0 [[0],[0,8],[2],[2]]} func18 (by kernel_rfl)
def wR:Mt:={N:=31,keep:=kp 0 [[0,1],[0,1,9],[4,5],[0,1,10,11,12],[0,1,10,11,12,13],[0,1,6,7,10,11,12],[0,1,6,7,10,11,12,18],[4,5],[0,1,10,11,12],[0,1,10,11,12],[1,26],[4,5],[4,5]],bk:=[(0,[0,1]),(1,[0,1,10,11,12])],cE:=[(10,[0,1])],lk:=[(4,[0,1,10,11,12])]}
def C2:=a8 f21
def GK:=C2.sr.sr.sr
def MF:=C2.sr.sr.sl.sr.sl.sl
def OX (x x1:Option Addr) (x2 x3:Nat):Env:=[vP 0 x,vS 1 x1 x2 x3]
def HB (x x1:Option Addr) (x2 x3:Nat) (x4:Option Addr) (x5 x6:Nat) (a b:Int):Env:=[vP 0 x,vS 1 x1 x2 x3,vS 10 x4 x5 x6,vI 11 a,vI 12 b]
def QE (R:RT):=Rt f21 R
def QF (R:RT):=bo 0 [0,1] (SQ wR GK (Rt f21 R) (Rt f21 R))
theorem u21 {x x1 x2 x3 w R}:Uj (Calls prog 21 #[ab x,ar x1 x2 x3] w R) (Fo x.isNone (R (Z (aw #[I 0,I 1])) w) (Cut (WP prog 31 (bh MF) (HB x x1 x2 x3 x1 x2 x3 (↑x2:Int) 0) w (QF R)))):=uj_ wR func21 (by kernel_rfl)
theorem afi (x x1 x2 x3 w R):den prog wR GK (OX x x1 x2 x3) w (QE R)=
(Cj 79 [ab x] w λb w'=>Fo b (R (Z (aw #[I (↑x2:Int),I 0])) w') (R (Z (aw #[I (↑x2:Int),I 7])) w')):=by kernel_rfl
theorem afj (x x1 x2 x3 x4 x5 x6 e d w B R):den prog wR MF (HB x x1 x2 x3 x4 x5 x6 e d) w (bC B (QF R))=
(Fo (decide (d<e)) ((0<=d/\d<(↑x5:Int))/\∃a,x4=aa a/\Li w (add a (aG d*1)) λn=>Cj 79 [ab x] w λb w'=>Fo b (R (Z (aw #[I d,I 0])) w') (Cq 12 [ab x,agg #[I 1,I n,I 0,int .u64 0,I 0]] w' λp n c w'=>B [vP 0 x,vS 1 x1 x2 x3,vS 10 x4 x5 x6,vI 11 e,(12,SV.v (I (wrap i64 (d+1))))] w')) (aU prog wR GK (OX x x1 x2 x3) w (QE R))):=by kernel_rfl
theorem u27 {x w R}:Uj (Calls prog 27 #[ab x] w R) (aJ w [I 0,int .u64 0,int .u64 0,int .u64 0,N3,N3,N3,N3,N3,N3,N3,.bool ae,.bool ae,I 0,I 0] 65 λp w'=>Fo x.isNone (Wr w' p [I 0,int .u64 0,int .u64 0,int .u64 0,N3,N3,N3,N3,N3,N3,N3,.bool ae,.bool ae,I 0,I 0] λw'=>Li w' (p.add 0) λn=>Lu w' (p.add 1) λa=>Lu w' (p.add 2) λd=>Lu w' (p.add 3) λf=>Lq w' (p.add 4) λg h c=>Lq w' (p.add 5) λi j k=>Lq w' (p.add 6) λl m o=>Lq w' (p.add 7) λq r s=>Lq w' (p.add 8) λt u v=>Lq w' (p.add 9) λy z A=>Lq w' (p.add 10) λB C D=>Lj w' (p.add 11) λb=>Lj w' (p.add 12) λE=>Li w' (p.add 13) λF=>Li w' (p.add 14) λG=>R (Z (aw #[agg #[I n,int .u64 a,int .u64 d,int .u64 f,ar g h c,ar i j k,ar l m o,ar q r s,ar t u v,ar y z A,ar B C D,.bool b,.bool E,I F,I G],I 1])) w') (Ci 83 [ab x] w' λn w'=>Cu 22 [ab x] w' λa w'=>Cu 16 [ab x] w' λd w'=>Cu 85 [ab x] w' λf w'=>Cq 86 [ab x] w' λg h c w'=>Cp 13 [ab x] w' λi w'=>Cq 87 [I 0,I n,func (aQ 88) #[ab i] #[],func (aQ 84) #[] #[]] w' λl j k w'=>Cp 30 [ab x] w' λq w'=>Cq 87 [I 0,I n,func (aQ 89) #[ab q] #[],func (aQ 90) #[ab x] #[]] w' λt m o w'=>Cq 91 [ab x] w' λy r s w'=>Cp 92 [ab x] w' λB w'=>Cq 87 [I (-1:Int),I n,func (aQ 93) #[ab B] #[],func (aQ 84) #[] #[]] w' λH u v w'=>Cp 94 [ab x] w' λJ w'=>Cq 87 [I 0,I n,func (aQ 95) #[ab J] #[],func (aQ 84) #[] #[]] w' λK z A w'=>Cp 96 [ab x] w' λL w'=>Cq 87 [I 0,I n,func (aQ 97) #[ab L] #[],func (aQ 84) #[] #[]] w' λM C D w'=>Cp 98 [ab x] w' λN w'=>Cj 99 [ab N] w' λb w'=>Cp 98 [ab x] w' λO w'=>Cj 100 [ab O] w' λE w'=>Cp 98 [ab x] w' λP w'=>Ci 101 [ab P] w' λF w'=>Cp 98 [ab x] w' λQ w'=>Ci 102 [ab Q] w' λG w'=>Wr w' p [I n,int .u64 a,int .u64 d,int .u64 f,ar g h c,ar l j k,ar t m o,ar y r s,ar H u v,ar K z A,ar M C D,.bool b,.bool E,I F,I G] λw'=>Li w' (p.add 0) λn=>Lu w' (p.add 1) λS=>Lu w' (p.add 2) λT=>Lu w' (p.add 3) λU=>Lq w' (p.add 4) λV W c=>∃X Y e,w'.cell? (p.add 5)=aa (ar X Y e)/\∃m' k' p',w'.cell? (p.add 6)=aa (ar m' k' p')/\∃q' a' b',w'.cell? (p.add 7)=aa (ar q' a' b')/\∃c' d' e',w'.cell? (p.add 8)=aa (ar c' d' e')/\∃f' g' h',w'.cell? (p.add 9)=aa (ar f' g' h')/\Lq w' (p.add 10) λp_23 n_22 c_12=>Lj w' (p.add 11) λb=>Lj w' (p.add 12) λb_2=>Li w' (p.add 13) λn_23=>Li w' (p.add 14) λn_24=>R (Z (aw #[agg #[I n,int .u64 S,int .u64 T,int .u64 U,ar V W c,ar X Y e,ar m' k' p',ar q' a' b',ar c' d' e',ar f' g' h',ar p_23 n_22 c_12,.bool b,.bool b_2,I n_23,I n_24],I 0])) w')):=uj_ {N:=66,keep:=kp 0 [[0,2],[0,2,7],[2,3],[0,2,4],[0,2,4,5],[2,3]]} func27 (by kernel_rfl)
def Ca:Mt:={N:=16,keep:=kp 0 [[1],[1,5],[1,5,6],[1,4,5],[1,4,5,12],[2,3],[1,5],[2,3]],bk:=[(0,[]),(1,[1,5])],lk:=[(2,[1,5])]}
def MV:=a8 f28
def Wy:=MV.sr.sr
def MZ:=MV.sr.sl.sr.sl.sl
def HJ (x:Addr) (x1:Int):Env:=[(1,SV.v (ab (aa x))),vI 5 x1]
def QP (R:RT):=bo 0 [] (SQ Ca Wy (Rt f28 R) (Rt f28 R))
theorem u28 {x x1 x2 x3 x4 x5 x6 u y z a b c d e f g h i j k l m n o q r s t w R}:Uj (Calls prog 28 #[agg #[I x,(int .u64 x1),(int .u64 x2),(int .u64 x3),(ar x4 x5 x6),(ar u y z),(ar a b c),(ar d e f),(ar g h i),(ar j k l),(ar m n o),(.bool q),(.bool r),I s,I t]] w R) (aJ w [I x,int .u64 x1,int .u64 x2,int .u64 x3,ar x4 x5 x6,ar u y z,ar a b c,ar d e f,ar g h i,ar j k l,ar m n o,.bool q,.bool r,I s,I t] 65 λp w'=>Cut (WP prog 16 (bh MZ) (HJ p 0) w' (QP R))):=uj_ Ca func28 (by kernel_rfl)
theorem afv (x x1 w B28_1 R):den prog Ca MZ (HJ x x1) w (bC B28_1 (QP R))=
(Fo (decide (x1<7)) (Li w (x.add 0) λn=>Lu w (x.add 1) λa=>Lu w (x.add 2) λd=>Lu w (x.add 3) λf=>Lq w (x.add 4) λp g c=>Lq w (x.add 5) λh i j=>Lq w (x.add 6) λk l m=>Lq w (x.add 7) λo q r=>Lq w (x.add 8) λs t u=>Lq w (x.add 9) λy z A=>Lq w (x.add 10) λB C D=>Lj w (x.add 11) λb=>Lj w (x.add 12) λE=>Li w (x.add 13) λF=>Li w (x.add 14) λG=>Cj 103 [agg #[I n,int .u64 a,int .u64 d,int .u64 f,ar p g c,ar h i j,ar k l m,ar o q r,ar s t u,ar y z A,ar B C D,.bool b,.bool E,I F,I G],I (wrap i64 (x1+1))] w λb w'=>Fo (!b) (R (Z (aw #[I (wrap i64 (x1+1)),I 6])) w') (B28_1 [(1,SV.v (ab (aa x))),(5,SV.v (I (wrap i64 (x1+1))))] w')) (R (Z (aw #[I 0,I 0])) w)):=by kernel_rfl
def Cy:Mt:={N:=26,keep:=kp 0 [[0,1],[0,1,10],[4],[0,1,5],[0,1,5,14],[0,1,5],[0,1,5,25],[4],[4]],bX:=[(6,(.range 9))],bk:=[(0,[]),(1,[0,1,5])],lk:=[(4,[0,1,5])]}
def NN:=a8 f59
def WV:=NN.sr.sr.sr
def NO:=NN.sr.sr.sl.sr.sl.sl
def H4 (x:Option Addr) (x1 x2:Nat) (x3:Option Addr) (x4 x5:Nat) (x6:Int):Env:=[vS 0 x x1 x2,vS 1 x3 x4 x5,vI 5 x6]
def Ri (R:RT):=bo 0 [] (SQ Cy WV (Rt f59 R) (Rt f59 R))
theorem u59 {x x1 x2 x3 x4 x5 w R}:Uj (Calls prog 59 #[ar x x1 x2,ar x3 x4 x5] w R) (Fo ((↑x1:Int) !=(↑x4:Int)) (R (Z (.bool ae)) w) (Cut (WP prog 26 (bh NO) (H4 x x1 x2 x3 x4 x5 0) w (Ri R)))):=uj_ Cy func59 (by kernel_rfl)
theorem afZ (x x1 x2 x3 x4 x5 x6 w B R):den prog Cy NO (H4 x x1 x2 x3 x4 x5 x6) w (bC B (Ri R))=
(Fo (decide (x6<(↑x1:Int))) (Sm w λw'=>(0<=x6/\x6<(↑x1:Int))/\∃a,x=aa a/\∃n,w'.cell? (add (add a (aG x6*5)) 0)=aa (I n)/\∃c,w'.cell? (add (add a (aG x6*5)) 1)=aa (I c)/\∃d,w'.cell? (add (add a (aG x6*5)) 2)=aa (I d)/\∃e,w'.cell? (add (add a (aG x6*5)) 3)=aa (I e)/\∃f,w'.cell? (add (add a (aG x6*5)) 4)=aa (I f)/\(0<=x6/\x6<(↑x4:Int))/\∃a,x3=aa a/\∃g,w'.cell? (add (add a (aG x6*5)) 0)=aa (I g)/\∃h,w'.cell? (add (add a (aG x6*5)) 1)=aa (I h)/\∃i,w'.cell? (add (add a (aG x6*5)) 2)=aa (I i)/\∃j,w'.cell? (add (add a (aG x6*5)) 3)=aa (I j)/\∃k,w'.cell? (add (add a (aG x6*5)) 4)=aa (I k)/\∃b,aZ prog (Op.equal 43 (agg #[I n,I c,I d,I e,I f]) (agg #[I g,I h,I i,I j,I k])) w'=a7 b w'/\ae=ae/\Fo (!b) (R (Z (.bool ae)) w') (B [vS 0 x x1 x2,vS 1 x3 x4 x5,(5,SV.v (I (wrap i64 (x6+1))))] w')) (R (Z (.bool ag)) w)):=by kernel_rfl
def wZ:Mt:={N:=35,keep:=kp 0 [[0],[0,16],[2],[0,18,19],[0,18,19,20],[0,3,18,19],[0,18,19,25],[2],[0,18,19],[2]],bk:=[(0,[0]),(1,[0,18,19])],cE:=[(9,[0])],lk:=[(4,[0,18,19])]}
def NV:=a8 f79
def GV:=NV.sr.sr.sr
def NW:=NV.sr.sr.sl.sr.sl.sl
def O9 (x:Option Addr):Env:=[vP 0 x]
def H7 (x:Option Addr) (x1 x2:Int):Env:=[vP 0 x,vI 18 x1,vI 19 x2]
def Rn (R:RT):=Rt f79 R
def Ro (R:RT):=bo 0 [0] (SQ wZ GV (Rt f79 R) (Rt f79 R))
theorem u79 {x w R}:Uj (Calls prog 79 #[ab x] w R) (Fz x.isNone (Cp 98 [ab x] w λp w'=>Cj 99 [ab p] w' λb w'=>Fz b (Cp 92 [ab x] w' λp w'=>Ci 170 [ab p,I (-1:Int)] w' λn w'=>Fo (decide (n>0)) (R (Z (.bool ae)) w') (Ci 83 [ab x] w' λn w'=>Cut (WP prog 35 (bh NW) (H7 x n 0) w' (Ro R)))) (R (Z (.bool ae)) w')) (R (Z (.bool ae)) w)):=uj_ wZ func79 (by kernel_rfl)
theorem af7 (x w R):den prog wZ GV (O9 x) w (Rn R)=
(Cp 173 [ab x] w λp w'=>Cq 174 [ab p] w' λp n c w'=>Cp 173 [ab x] w' λa w'=>Cj 172 [ar p n c,func (aQ 175) #[ab a] #[]] w' λb w'=>R (Z (.bool !b)) w'):=by kernel_rfl
theorem af8 (x x1 x2 w B R):den prog wZ NW (H7 x x1 x2) w (bC B (Ro R))=
(Fo (decide (x2<x1)) (Cj 171 [ab x,I x2] w λb w'=>Fo (!b) (R (Z (.bool ae)) w') (B [vP 0 x,vI 18 x1,(19,SV.v (I (wrap i64 (x2+1))))] w')) (aU prog wZ GV (O9 x) w (Rn R))):=by kernel_rfl
theorem u84 {x w R}:Uj (Calls prog 84 #[I x] w R) (R (Z (I 0)) w):=uj_ {N:=3,keep:=kp 0 [[],[2]]} func84 (by kernel_rfl)
def Cz:Mt:={N:=27,keep:=kp 0 [[0],[0,3],[0,3,8,9],[0,3,8,9,10],[0,3,4,8,9],[0,3,4,5,8,9],[0,3,4,8,9,20],[0,3,8,9],[0,3,8,9],[2]],bk:=[(0,[3]),(1,[0,3,8,9])],lk:=[(3,[0,3,8,9])]}
def NY:=a8 f85
def WZ:=NY.sr.sr.sr
def NZ:=NY.sr.sr.sl.sr.sl.sl
def H9 (x:Option Addr) (x1 x2 x3:Int):Env:=[vP 0 x,(3,SV.v (int .u64 x1)),vI 8 x2,vI 9 x3]
def Ru (R:RT):=bo 0 [3] (SQ Cz WZ (Rt f85 R) (Rt f85 R))
theorem u85 {x w R}:Uj (Calls prog 85 #[ab x] w R) (Ci 83 [ab x] w λn w'=>Cut (WP prog 27 (bh NZ) (H9 x 0 n 0) w' (Ru R))):=uj_ Cz func85 (by kernel_rfl)
theorem agd (x x1 x2 x3 w B R):den prog Cz NZ (H9 x x1 x2 x3) w (bC B (Ru R))=
(Fo (decide (x3<x2)) (Cp 178 [ab x] w λp w'=>Call prog 113 [ab p,I x3] w' λe w'=>∃b a n c d f g,e=Z (aw #[agg #[.bool b,.bool a,I n,I c,I d,I f],I g])/\aJ w' [.bool ae,.bool ae,I 0,I 0,I 0,I 0] 226 λp w'=>Wr w' p [.bool b,.bool a,I n,I c,I d,I f] λw'=>Lj w' (p.add 0) λb=>Fo b (aJ w' [I x3] 3 λp w'=>Cu 179 [int .u64 x1,ar (aa p) 1 1] w' λn w'=>B [vP 0 x,(3,SV.v (int .u64 n)),vI 8 x2,(9,SV.v (I (wrap i64 (x3+1))))] w') (B [vP 0 x,(3,SV.v (int .u64 x1)),vI 8 x2,(9,SV.v (I (wrap i64 (x3+1))))] w')) (R (Z (int .u64 x1)) w)):=by kernel_rfl
def CA:Mt:={N:=34,keep:=kp 0 [[0],[0,3],[0,3,10,11,12],[0,3,10,11,12,13],[0,3,5,10,11,12],[0,3,5,6,10,11,12],[0,3,10,11,12],[0,3,10,11,12],[2]],bk:=[(0,[3]),(1,[0,3,10,11,12])],lk:=[(3,[0,3,10,11,12])]}
def N0:=a8 f86
def W0:=N0.sr.sr.sr
def N1:=N0.sr.sr.sl.sr.sl.sl
def Ia (x x1:Option Addr) (x2 x3:Nat) (x4:Option Addr) (x5 x6:Nat) (a b:Int):Env:=[vP 0 x,vS 3 x1 x2 x3,vS 10 x4 x5 x6,vI 11 a,vI 12 b]
def Rv (R:RT):=bo 0 [3] (SQ CA W0 (Rt f86 R) (Rt f86 R))
theorem u86 {x w R}:Uj (Calls prog 86 #[ab x] w R) (Cp 180 [ab x] w λp w'=>Cq 181 [ab p] w' λp n c w'=>Cut (WP prog 34 (bh N1) (Ia x ah 0 0 p n c (↑n:Int) 0) w' (Rv R))):=uj_ CA func86 (by kernel_rfl)
theorem age (x x1 x2 x3 x4 x5 x6 r q w B R):den prog CA N1 (Ia x x1 x2 x3 x4 x5 x6 r q) w (bC B (Rv R))=
(Fo (decide (q<r)) ((0<=q/\q<(↑x5:Int))/\∃a,x4=aa a/\Li w (add a (aG q*1)) λn=>Cp 180 [ab x] w λp w'=>Call prog 127 [ab p,I n] w' λe w'=>∃d f g b h i o,e=Z (aw #[agg #[I d,int .u64 f,I g,.bool b,.bool h,I i],I o])/\aJ w' [I 0,int .u64 0,I 0,.bool ae,.bool ae,I 0] 250 λp w'=>Wr w' p [I d,int .u64 f,I g,.bool b,.bool h,I i] λw'=>Li w' (p.add 2) λj=>Li w' (p.add 5) λk=>aJ w' [I n,I j,I k] 278 λp w'=>∃l n c m,aZ prog (bR #[62,62] 62 #[ar x1 x2 x3,ar (aa p) 1 1]) w'=a7 (ar l n c) m/\B [vP 0 x,vS 3 l n c,vS 10 x4 x5 x6,vI 11 r,(12,SV.v (I (wrap i64 (q+1))))] m) (R (Z (ar x1 x2 x3)) w)):=by kernel_rfl
def dw:Mt:={N:=38,keep:=kp 0 [[0,1,2,3],[0,1,2,3,9],[1,2,3,9,10],[1,2,3,9,10,16],[1,2,3,9,10],[1,2,3,9,10,21,22,23],[1,2,3,9,10,21,22,23,24],[1,2,3,9,10,12,21,22,23],[1,2,3,9,10,21,22,23],[1,2,3,9,10,21,22,23],[8]],bk:=[(0,[9]),(1,[1,2,3,9,10]),(2,[1,2,3,9,10]),(3,[1,2,3,9,10,21,22,23])],lk:=[(3,[1,2,3,9,10]),(6,[1,2,3,9,10,21,22,23])]}
def tt:=a8 f87
def jb:=tt.sr.sr.sr
def Ad:=tt.sr.sr.sl.sr.sl.sl
def vF:=tt.sr.sr.sl.sr.sl.sl.sr.sr
def vG:=tt.sr.sr.sl.sr.sl.sl.sr.sl.sl.sr.sl.sl
def Ax (x:Int) (x1:Nat) (x2 x3:Option Addr) (x4 x5:Nat) (x6:Int):Env:=[vI 1 x,(2,SV.v (func (aQ x1) #[(ab x2)] #[])),(3,SV.v (func (aQ 84) #[] #[])),vS 9 x3 x4 x5,vI 10 x6]
def Ay (x:Int) (x1:Nat) (x2 x3:Option Addr) (x4 x5:Nat) (x6:Int) (c:Option Addr) (d e:Nat) (a b:Int):Env:=[vI 1 x,(2,SV.v (func (aQ x1) #[(ab x2)] #[])),(3,SV.v (func (aQ 84) #[] #[])),vS 9 x3 x4 x5,vI 10 x6,vS 21 c d e,vI 22 a,vI 23 b]
def AQ (R:RT):=bo 0 [9] (SQ dw jb (Rt f87 R) (Rt f87 R))
def wj (B87_1:Env->World->Prop) (R:Ending->World->Prop):fe:=bo 2 [1,2,3,9,10] (bo 1 [1,2,3,9,10] (j6 (λE w=>jQ (jU dw.cE (iu vF)) prog dw vF E w (bC B87_1 (bo 0 [9] (j6 (λE w=>jQ (jU dw.cE (iu jb)) prog dw jb E w (Rt f87 R) λE=>den prog dw jb E w (Rt f87 R)) (Rt f87 R)))) λE=>den prog dw vF E w (bC B87_1 (bo 0 [9] (j6 (λE w=>jQ (jU dw.cE (iu jb)) prog dw jb E w (Rt f87 R) λE=>den prog dw jb E w (Rt f87 R)) (Rt f87 R))))) (bC B87_1 (bo 0 [9] (j6 (λE w=>jQ (jU dw.cE (iu jb)) prog dw jb E w (Rt f87 R) λE=>den prog dw jb E w (Rt f87 R)) (Rt f87 R))))))
theorem KU {x x1 x2 x3 w R}:Uj (Calls prog 87 #[I x,I x1,func (aQ x2) #[(ab x3)] #[],func (aQ 84) #[] #[]] w R) (Cut (WP prog 38 (bh Ad) [vI 1 x1,(2,SV.v (func (aQ x2) #[ab x3] #[])),(3,SV.v (func (aQ 84) #[] #[])),(9,SV.v (N3)),vI 10 x] w (AQ R))):=uj_ dw func87 (by kernel_rfl)
theorem Kr (x x1 x2 x3 x4 x5 x6 w B R):den prog dw Ad (Ax x x1 x2 x3 x4 x5 x6) w (bC B (AQ R))=
(Fo (decide (x6<x)) (bif jx prog x1 then Call prog x1 [ab x2,I x6] w λe w'=>∃p n c,e=Z (ar p n c)/\Cut (WP prog 38 (bh vG) [vI 1 x,(2,SV.v (func (aQ x1) #[ab x2] #[])),(3,SV.v (func (aQ 84) #[] #[])),vS 9 x3 x4 x5,vI 10 x6,vS 21 p n c,(22,SV.v (I (↑n:Int))),vI 23 0] w' (wj B R))else ∃p n c w',aZ prog (callFunc x1 #[ab x2,I x6]) w=a7 (Next.value (ar p n c)) w'/\Cut (WP prog 38 (bh vG) [vI 1 x,(2,SV.v (func (aQ x1) #[ab x2] #[])),(3,SV.v (func (aQ 84) #[] #[])),vS 9 x3 x4 x5,vI 10 x6,vS 21 p n c,(22,SV.v (I (↑n:Int))),vI 23 0] w' (wj B R))) (R (Z (ar x3 x4 x5)) w)):=by kernel_rfl
theorem Ks (x x1 x2 x3 x4 x5 x6 h i j g e w B C R):den prog dw vG (Ay x x1 x2 x3 x4 x5 x6 h i j g e) w (bC C (wj B R))=
(Fo (decide (e<g)) ((0<=e/\e<(↑i:Int))/\∃a,h=aa a/\Li w (add a (aG e*1)) λn=>Ci 84 [I n] w λb w'=>aJ w' [I n,I x6,I b] 75 λp w'=>∃d n c f,aZ prog (bR #[63,63] 63 #[ar x3 x4 x5,ar (aa p) 1 1]) w'=a7 (ar d n c) f/\C [vI 1 x,(2,SV.v (func (aQ x1) #[ab x2] #[])),(3,SV.v (func (aQ 84) #[] #[])),vS 9 d n c,vI 10 x6,vS 21 h i j,vI 22 g,(23,SV.v (I (wrap i64 (e+1))))] f) (B [vI 1 x,(2,SV.v (func (aQ x1) #[ab x2] #[])),(3,SV.v (func (aQ 84) #[] #[])),vS 9 x3 x4 x5,(10,SV.v (I (wrap i64 (x6+1))))] w)):=by kernel_rfl
def CB:Mt:={N:=33,keep:=kp 0 [[0],[0,3],[0,3,10,11,12],[0,3,10,11,12,13],[0,3,5,10,11,12],[0,3,5,6,7,10,11,12],[0,3,5,6,10,11,12,24],[0,3,5,6,10,11,12],[0,3,10,11,12],[0,3,10,11,12],[2]],bk:=[(0,[3]),(1,[0,3,10,11,12])],lk:=[(3,[0,3,10,11,12])]}
def N4:=a8 f91
def W5:=N4.sr.sr.sr
def N5:=N4.sr.sr.sl.sr.sl.sl
def Ic (x x1:Option Addr) (x2 x3:Nat) (x4:Option Addr) (x5 x6:Nat) (a b:Int):Env:=[vP 0 x,vS 3 x1 x2 x3,vS 10 x4 x5 x6,vI 11 a,vI 12 b]
def Ry (R:RT):=bo 0 [3] (SQ CB W5 (Rt f91 R) (Rt f91 R))
theorem u91 {x w R}:Uj (Calls prog 91 #[ab x] w R) (Cp 173 [ab x] w λp w'=>Cq 174 [ab p] w' λp n c w'=>Cut (WP prog 33 (bh N5) (Ic x ah 0 0 p n c (↑n:Int) 0) w' (Ry R))):=uj_ CB func91 (by kernel_rfl)
theorem agh (x x1 x2 x3 x4 x5 x6 i h w B R):den prog CB N5 (Ic x x1 x2 x3 x4 x5 x6 i h) w (bC B (Ry R))=
(Fo (decide (h<i)) ((0<=h/\h<(↑x5:Int))/\∃a,x4=aa a/\Li w (add a (aG h*1)) λn=>Cp 185 [ab x] w λp w'=>Call prog 186 [ab p,I n] w' λe w'=>∃g b,e=Z (aw #[I g,.bool b])/\Fo (!b) (aJ w' [I n,I (-1:Int),I 0] 75 λp w'=>∃d n c f,aZ prog (bR #[63,63] 63 #[ar x1 x2 x3,ar (aa p) 1 1]) w'=a7 (ar d n c) f/\B [vP 0 x,vS 3 d n c,vS 10 x4 x5 x6,vI 11 i,(12,SV.v (I (wrap i64 (h+1))))] f) (aJ w' [I n,I g,I 0] 75 λp w'=>∃d n c f,aZ prog (bR #[63,63] 63 #[ar x1 x2 x3,ar (aa p) 1 1]) w'=a7 (ar d n c) f/\B [vP 0 x,vS 3 d n c,vS 10 x4 x5 x6,vI 11 i,(12,SV.v (I (wrap i64 (h+1))))] f)) (R (Z (ar x1 x2 x3)) w)):=by kernel_rfl
theorem ag9 {x x1 x2 x3 x4 x5 x6 x7 x8 x9 H J K L M O P Q S T U V W X Y al am ap aq e w R}:Uj (Calls prog 103 #[agg #[I x,(int .u64 x1),(int .u64 x2),(int .u64 x3),(ar x4 x5 x6),(ar x7 x8 x9),(ar H J K),(ar L M O),(ar P Q S),(ar T U V),(ar W X Y),(.bool al),(.bool am),I ap,I aq],I e] w R) (aJ w [I x,int .u64 x1,int .u64 x2,int .u64 x3,ar x4 x5 x6,ar x7 x8 x9,ar H J K,ar L M O,ar P Q S,ar T U V,ar W X Y,.bool al,.bool am,I ap,I aq] 65 λp w'=>Fo (e==1) (Li w' (p.add 0) λn=>Lu w' (p.add 1) λa=>Lu w' (p.add 2) λd=>Lu w' (p.add 3) λf=>Lq w' (p.add 4) λg h c=>Lq w' (p.add 5) λi j k=>Lq w' (p.add 6) λl m o=>Lq w' (p.add 7) λq r s=>Lq w' (p.add 8) λt u v=>Lq w' (p.add 9) λy z A=>Lq w' (p.add 10) λB C D=>Lj w' (p.add 11) λb=>Lj w' (p.add 12) λE=>Li w' (p.add 13) λF=>Li w' (p.add 14) λG=>Cj 191 [agg #[I n,int .u64 a,int .u64 d,int .u64 f,ar g h c,ar i j k,ar l m o,ar q r s,ar t u v,ar y z A,ar B C D,.bool b,.bool E,I F,I G]] w' λb w'=>R (Z (.bool b)) w') (Fo (e==2) (Li w' (p.add 0) λn=>Lu w' (p.add 1) λa=>Lu w' (p.add 2) λd=>Lu w' (p.add 3) λf=>Lq w' (p.add 4) λg h c=>Lq w' (p.add 5) λi j k=>Lq w' (p.add 6) λl m o=>Lq w' (p.add 7) λq r s=>Lq w' (p.add 8) λt u v=>Lq w' (p.add 9) λy z A=>Lq w' (p.add 10) λB C D=>Lj w' (p.add 11) λb=>Lj w' (p.add 12) λE=>Li w' (p.add 13) λF=>Li w' (p.add 14) λG=>Cj 192 [agg #[I n,int .u64 a,int .u64 d,int .u64 f,ar g h c,ar i j k,ar l m o,ar q r s,ar t u v,ar y z A,ar B C D,.bool b,.bool E,I F,I G]] w' λb w'=>R (Z (.bool b)) w') (Fo (e==3) (Li w' (p.add 0) λn=>Lu w' (p.add 1) λa=>Lu w' (p.add 2) λd=>Lu w' (p.add 3) λf=>Lq w' (p.add 4) λg h c=>Lq w' (p.add 5) λi j k=>Lq w' (p.add 6) λl m o=>Lq w' (p.add 7) λq r s=>Lq w' (p.add 8) λt u v=>Lq w' (p.add 9) λy z A=>Lq w' (p.add 10) λB C D=>Lj w' (p.add 11) λb=>Lj w' (p.add 12) λE=>Li w' (p.add 13) λF=>Li w' (p.add 14) λG=>Cj 193 [agg #[I n,int .u64 a,int .u64 d,int .u64 f,ar g h c,ar i j k,ar l m o,ar q r s,ar t u v,ar y z A,ar B C D,.bool b,.bool E,I F,I G]] w' λb w'=>R (Z (.bool b)) w') (Fo (e==4) (Li w' (p.add 0) λn=>Lu w' (p.add 1) λa=>Lu w' (p.add 2) λd=>Lu w' (p.add 3) λf=>Lq w' (p.add 4) λg h c=>Lq w' (p.add 5) λi j k=>Lq w' (p.add 6) λl m o=>Lq w' (p.add 7) λq r s=>Lq w' (p.add 8) λt u v=>Lq w' (p.add 9) λy z A=>Lq w' (p.add 10) λB C D=>Lj w' (p.add 11) λb=>Lj w' (p.add 12) λE=>Li w' (p.add 13) λF=>Li w' (p.add 14) λG=>Cj 194 [agg #[I n,int .u64 a,int .u64 d,int .u64 f,ar g h c,ar i j k,ar l m o,ar q r s,ar t u v,ar y z A,ar B C D,.bool b,.bool E,I F,I G]] w' λb w'=>R (Z (.bool b)) w') (Fo (e==5) (Li w' (p.add 0) λn=>Lu w' (p.add 1) λa=>Lu w' (p.add 2) λd=>Lu w' (p.add 3) λf=>Lq w' (p.add 4) λg h c=>Lq w' (p.add 5) λi j k=>Lq w' (p.add 6) λl m o=>Lq w' (p.add 7) λq r s=>Lq w' (p.add 8) λt u v=>Lq w' (p.add 9) λy z A=>Lq w' (p.add 10) λB C D=>Lj w' (p.add 11) λb=>Lj w' (p.add 12) λE=>Li w' (p.add 13) λF=>Li w' (p.add 14) λG=>Cj 195 [agg #[I n,int .u64 a,int .u64 d,int .u64 f,ar g h c,ar i j k,ar l m o,ar q r s,ar t u v,ar y z A,ar B C D,.bool b,.bool E,I F,I G]] w' λb w'=>R (Z (.bool b)) w') (Fo (e==6) (Li w' (p.add 0) λn=>Lu w' (p.add 1) λa=>Lu w' (p.add 2) λd=>Lu w' (p.add 3) λf=>Lq w' (p.add 4) λg h c=>Lq w' (p.add 5) λi j k=>Lq w' (p.add 6) λl m o=>Lq w' (p.add 7) λq r s=>Lq w' (p.add 8) λt u v=>Lq w' (p.add 9) λy z A=>Lq w' (p.add 10) λB C D=>Lj w' (p.add 11) λb=>Lj w' (p.add 12) λE=>Li w' (p.add 13) λF=>Li w' (p.add 14) λG=>Cj 196 [agg #[I n,int .u64 a,int .u64 d,int .u64 f,ar g h c,ar i j k,ar l m o,ar q r s,ar t u v,ar y z A,ar B C D,.bool b,.bool E,I F,I G]] w' λb w'=>R (Z (.bool b)) w') (Fo (e==7) (Li w' (p.add 0) λn=>Lu w' (p.add 1) λa=>Lu w' (p.add 2) λd=>Lu w' (p.add 3) λf=>Lq w' (p.add 4) λg h c=>Lq w' (p.add 5) λi j k=>Lq w' (p.add 6) λl m o=>Lq w' (p.add 7) λq r s=>Lq w' (p.add 8) λt u v=>Lq w' (p.add 9) λy z A=>Lq w' (p.add 10) λB C D=>Lj w' (p.add 11) λb=>Lj w' (p.add 12) λE=>Li w' (p.add 13) λF=>Li w' (p.add 14) λG=>Cj 197 [agg #[I n,int .u64 a,int .u64 d,int .u64 f,ar g h c,ar i j k,ar l m o,ar q r s,ar t u v,ar y z A,ar B C D,.bool b,.bool E,I F,I G]] w' λb w'=>R (Z (.bool b)) w') (R (Z (.bool ae)) w')))))))):=uj_ {N:=34,keep:=kp 0 [[1,2],[2,5],[2,5,6],[4],[2,5,10],[4],[2,5,14],[4],[2,5,18],[4],[2,5,22],[4],[2,5,26],[4],[2,30],[4],[4]],bk:=[(0,[])]} func103 (by kernel_rfl)
theorem aic {x x1 w R}:Uj (Calls prog 171 #[ab x,I x1] w R) (Cp 92 [ab x] w λp w'=>Ci 170 [ab p,I x1] w' λn w'=>Fo (n==0) (Cp 94 [ab x] w' λp w'=>Ci 204 [ab p,I x1] w' λn w'=>Fo (n==0) (Cp 30 [ab x] w' λp w'=>Cj 205 [ab p,I x1] w' λb w'=>R (Z (.bool !b)) w') (R (Z (.bool ae)) w')) (R (Z (.bool ae)) w')):=uj_ {N:=24,keep:=kp 0 [[0,1],[4]]} func171 (by kernel_rfl)
theorem aiu {x x1 x2 x3 x4 x5 x6 F G H h i j k l m o q r s t u y z A B C D E w R}:Uj (Calls prog 191 #[agg #[I x,(int .u64 x1),(int .u64 x2),(int .u64 x3),(ar x4 x5 x6),(ar F G H),(ar h i j),(ar k l m),(ar o q r),(ar s t u),(ar y z A),(.bool B),(.bool C),I D,I E]] w R) (aJ w [I x,int .u64 x1,int .u64 x2,int .u64 x3,ar x4 x5 x6,ar F G H,ar h i j,ar k l m,ar o q r,ar s t u,ar y z A,.bool B,.bool C,I D,I E] 65 λp w'=>Sm w' λa=>∃n,a.cell? (p.add 2)=aa (int .u64 n)/\Fo (n !=0) (∃n,a.cell? (p.add 2)=aa (int .u64 n)/\∃c,a.cell? (p.add 1)=aa (int .u64 c)/\Call prog 277 [int .u64 n,int .u64 c] a λe w'=>∃b,e=Z (.bool b)/\Fo b (Lu w' (p.add 1) λn=>Lu w' (p.add 3) λd=>Cj 277 [int .u64 n,int .u64 d] w' λb w'=>Fo b (Lu w' (p.add 3) λn=>Li w' (p.add 0) λf=>Cu 11 [I f] w' λg w'=>w'.cell? (p.add 3)=aa (int .u64 n)/\Cj 277 [int .u64 n,int .u64 g] w' λb w'=>R (Z (.bool b)) w') (R (Z (.bool ae)) w')) (R (Z (.bool ae)) w')) (R (Z (.bool ae)) a)):=uj_ {N:=28,keep:=kp 0 [[1],[2]],bX:=[(1,(.range 26))]} func191 (by kernel_rfl)
theorem aiv {x x1 x2 x3 x4 x5 x6 C D E e f g h i j k l m o q r s t u y z A B w R}:Uj (Calls prog 192 #[agg #[I x,(int .u64 x1),(int .u64 x2),(int .u64 x3),(ar x4 x5 x6),(ar C D E),(ar e f g),(ar h i j),(ar k l m),(ar o q r),(ar s t u),(.bool y),(.bool z),I A,I B]] w R) (aJ w [I x,int .u64 x1,int .u64 x2,int .u64 x3,ar x4 x5 x6,ar C D E,ar e f g,ar h i j,ar k l m,ar o q r,ar s t u,.bool y,.bool z,I A,I B] 65 λp w'=>Lq w' (p.add 4) λa n c=>Cj 278 [ar a n c,func (aQ 279) #[] #[ab (aa p)]] w' λb w'=>Fo b (Lq w' (p.add 5) λd n c=>Cj 281 [ar d n c,func (aQ 282) #[] #[ab (aa p)]] w' λb w'=>R (Z (.bool b)) w') (R (Z (.bool ae)) w')):=uj_ {N:=15,keep:=kp 0 [[1],[1,3],[2]]} func192 (by kernel_rfl)
theorem aiw {x x1 x2 x3 x4 x5 x6 C D E e f g h i j k l m o q r s t u y z A B w R}:Uj (Calls prog 193 #[agg #[I x,(int .u64 x1),(int .u64 x2),(int .u64 x3),(ar x4 x5 x6),(ar C D E),(ar e f g),(ar h i j),(ar k l m),(ar o q r),(ar s t u),(.bool y),(.bool z),I A,I B]] w R) (aJ w [I x,int .u64 x1,int .u64 x2,int .u64 x3,ar x4 x5 x6,ar C D E,ar e f g,ar h i j,ar k l m,ar o q r,ar s t u,.bool y,.bool z,I A,I B] 65 λp w'=>Lq w' (p.add 4) λa n c=>Cj 278 [ar a n c,func (aQ 285) #[] #[ab (aa p)]] w' λb w'=>Fo b (Lq w' (p.add 6) λd n c=>Cj 281 [ar d n c,func (aQ 286) #[] #[ab (aa p)]] w' λb w'=>R (Z (.bool b)) w') (R (Z (.bool ae)) w')):=uj_ {N:=15,keep:=kp 0 [[1],[1,3],[2]]} func193 (by kernel_rfl)
def wQ:Mt:={N:=31,keep:=kp 0 [[1],[1,15,16,17],[1,15,16,17,18],[1,4,15,16,17],[1,15,16,17,25],[2],[1,15,16,17],[2]],bk:=[(0,[1]),(1,[1,15,16,17])],cE:=[(7,[1])],lk:=[(2,[1,15,16,17])]}
def Mv:=a8 f194
def GI:=Mv.sr.sr
def Mw:=Mv.sr.sl.sr.sl.sl
def OV (x:Addr):Env:=[(1,SV.v (ab (aa x)))]
def Hx (x:Addr) (x1:Option Addr) (x2 x3:Nat) (x4 x5:Int):Env:=[(1,SV.v (ab (aa x))),vS 15 x1 x2 x3,vI 16 x4,vI 17 x5]
def Qz (R:RT):=Rt f194 R
def QA (R:RT):=bo 0 [1] (SQ wQ GI (Rt f194 R) (Rt f194 R))
theorem aix {x x1 x2 x3 x4 x5 x6 O P Q r s t u y z A B C D E F G H J K L M N w R}:Uj (Calls prog 194 #[agg #[I x,(int .u64 x1),(int .u64 x2),(int .u64 x3),(ar x4 x5 x6),(ar O P Q),(ar r s t),(ar u y z),(ar A B C),(ar D E F),(ar G H J),(.bool K),(.bool L),I M,I N]] w R) (aJ w [I x,int .u64 x1,int .u64 x2,int .u64 x3,ar x4 x5 x6,ar O P Q,ar r s t,ar u y z,ar A B C,ar D E F,ar G H J,.bool K,.bool L,I M,I N] 65 λp w'=>Lq w' (p.add 5) λa n c=>Lq w' (p.add 6) λb d e=>Lq w' (p.add 7) λf g h=>Lq w' (p.add 9) λi j k=>Lq w' (p.add 10) λl m o=>aJ w' [ar a n c,ar b d e,ar f g h,ar i j k,ar l m o] 63 λq w'=>Cut (WP prog 31 (bh Mw) (Hx p (aa q) 5 5 (↑5:Int) 0) w' (QA R))):=uj_ wQ func194 (by kernel_rfl)
theorem afa (x w R):den prog wQ GI (OV x) w (Qz R)=
(Lq w (x.add 8) λp n c=>Cj 281 [ar p n c,func (aQ 289) #[] #[ab (aa x)]] w λb w'=>R (Z (.bool b)) w'):=by kernel_rfl
theorem afb (x x1 x2 x3 x4 x5 w B194_1 R):den prog wQ Mw (Hx x x1 x2 x3 x4 x5) w (bC B194_1 (QA R))=
(Fo (decide (x5<x4)) ((0<=x5/\x5<(↑x2:Int))/\∃a,x1=aa a/\Lq w (add a (aG x5*1)) λp n c=>Li w (x.add 0) λd=>Lu w (x.add 1) λf=>Lu w (x.add 2) λg=>Lu w (x.add 3) λh=>Lq w (x.add 4) λi j k=>Lq w (x.add 5) λl m o=>Lq w (x.add 6) λq r s=>Lq w (x.add 7) λt u y=>Lq w (x.add 8) λz A B=>Lq w (x.add 9) λC D E=>Lq w (x.add 10) λF G H=>Lj w (x.add 11) λb=>Lj w (x.add 12) λJ=>Li w (x.add 13) λK=>Li w (x.add 14) λL=>Cj 281 [ar p n c,func (aQ 288) #[agg #[I d,int .u64 f,int .u64 g,int .u64 h,ar i j k,ar l m o,ar q r s,ar t u y,ar z A B,ar C D E,ar F G H,.bool b,.bool J,I K,I L]] #[]] w λb w'=>Fo (!b) (R (Z (.bool ae)) w') (B194_1 [(1,SV.v (ab (aa x))),vS 15 x1 x2 x3,vI 16 x4,(17,SV.v (I (wrap i64 (x5+1))))] w')) (aU prog wQ GI (OV x) w (Qz R))):=by kernel_rfl
theorem aiy {x x1 x2 x3 x4 x5 x6 F G H e i j k l m o q r s t u y z A B C D E w R}:Uj (Calls prog 195 #[agg #[I x,(int .u64 x1),(int .u64 x2),(int .u64 x3),(ar x4 x5 x6),(ar F G H),(ar e i j),(ar k l m),(ar o q r),(ar s t u),(ar y z A),(.bool B),(.bool C),I D,I E]] w R) (aJ w [I x,int .u64 x1,int .u64 x2,int .u64 x3,ar x4 x5 x6,ar F G H,ar e i j,ar k l m,ar o q r,ar s t u,ar y z A,.bool B,.bool C,I D,I E] 65 λp w'=>Sm w' λa=>∃n,a.cell? (p.add 3)=aa (int .u64 n)/\∃c,a.cell? (p.add 1)=aa (int .u64 c)/\Fz (n==c) (∃b,a.cell? (p.add 11)=aa (.bool b)/\Fo b (∃b,a.cell? (p.add 12)=aa (.bool b)/\Fo b (∃n,a.cell? (p.add 3)=aa (int .u64 n)/\∃d,a.cell? (p.add 1)=aa (int .u64 d)/\∃f,a.cell? (p.add 13)=aa (I f)/\aJ a [I f] 3 λh w'=>w'.cell? (p.add 1)=aa (int .u64 d)/\w'.cell? (p.add 3)=aa (int .u64 n)/\Cu 179 [int .u64 d,ar (aa h) 1 1] w' λg w'=>w'.cell? (p.add 3)=aa (int .u64 n)/\R (Z (.bool (n==g))) w') (R (Z (.bool ae)) a)) (R (Z (.bool ae)) a)) (R (Z (.bool ag)) a)):=uj_ {N:=27,keep:=kp 0 [[1],[2]],bX:=[(1,(.range 25))]} func195 (by kernel_rfl)
def B5:Mt:={N:=26,keep:=kp 0 [[1],[15,16,17],[15,16,17,18],[4,15,16,17],[15,16,17,24],[2],[15,16,17],[2]],bk:=[(0,[]),(1,[15,16,17])],lk:=[(2,[15,16,17])]}
def Mx:=a8 f196
def Wm:=Mx.sr.sr
def My:=Mx.sr.sl.sr.sl.sl
def Hy (x:Option Addr) (x1 x2:Nat) (x3 x4:Int):Env:=[vS 15 x x1 x2,vI 16 x3,vI 17 x4]
def QB (R:RT):=bo 0 [] (SQ B5 Wm (Rt f196 R) (Rt f196 R))
theorem aiz {x x1 x2 x3 x4 x5 x6 N O P q r s t u y z A B C D E F G H J K L M w R}:Uj (Calls prog 196 #[agg #[I x,(int .u64 x1),(int .u64 x2),(int .u64 x3),(ar x4 x5 x6),(ar N O P),(ar q r s),(ar t u y),(ar z A B),(ar C D E),(ar F G H),(.bool J),(.bool K),I L,I M]] w R) (aJ w [I x,int .u64 x1,int .u64 x2,int .u64 x3,ar x4 x5 x6,ar N O P,ar q r s,ar t u y,ar z A B,ar C D E,ar F G H,.bool J,.bool K,I L,I M] 65 λp w'=>Lq w' (p.add 6) λa n c=>Lq w' (p.add 7) λb d e=>Lq w' (p.add 8) λf g h=>Lq w' (p.add 9) λi j k=>Lq w' (p.add 10) λl m o=>aJ w' [ar a n c,ar b d e,ar f g h,ar i j k,ar l m o] 63 λp w'=>Cut (WP prog 26 (bh My) (Hy (aa p) 5 5 (↑5:Int) 0) w' (QB R))):=uj_ B5 func196 (by kernel_rfl)
theorem afc (x x1 x2 x3 x4 w B R):den prog B5 My (Hy x x1 x2 x3 x4) w (bC B (QB R))=
(Fo (decide (x4<x3)) ((0<=x4/\x4<(↑x1:Int))/\∃a,x=aa a/\Lq w (add a (aG x4*1)) λp n c=>aJ w [N3] 63 λd w'=>Wr w' d [ar p n c] λw'=>Lq w' d λp n c=>Cj 281 [ar p n c,func (aQ 290) #[] #[ab (aa d)]] w' λb w'=>Fo (!b) (R (Z (.bool ae)) w') (B [vS 15 x x1 x2,vI 16 x3,(17,SV.v (I (wrap i64 (x4+1))))] w')) (R (Z (.bool ag)) w)):=by kernel_rfl
theorem aiA {x x1 x2 x3 x4 x5 x6 G H J i j k l m o q r s t u y z A B C D E F w R}:Uj (Calls prog 197 #[agg #[I x,(int .u64 x1),(int .u64 x2),(int .u64 x3),(ar x4 x5 x6),(ar G H J),(ar i j k),(ar l m o),(ar q r s),(ar t u y),(ar z A B),(.bool C),(.bool D),I E,I F]] w R) (aJ w [I x,int .u64 x1,int .u64 x2,int .u64 x3,ar x4 x5 x6,ar G H J,ar i j k,ar l m o,ar q r s,ar t u y,ar z A B,.bool C,.bool D,I E,I F] 65 λp w'=>Lj w' (p.add 11) λb=>Fo (!b) (R (Z (.bool ag)) w') (Sm w' λa=>∃n,a.cell? (p.add 13)=aa (I n)/\∃c,a.cell? (p.add 14)=aa (I c)/\Fo (n !=c) (∃n,a.cell? (p.add 2)=aa (int .u64 n)/\∃f,a.cell? (p.add 14)=aa (I f)/\Call prog 23 [int .u64 n,I f] a λe w'=>∃b,e=Z (.bool b)/\Fo b (Li w' (p.add 0) λn=>Li w' (p.add 13) λd=>Cu 11 [I n] w' λn w'=>w'.cell? (p.add 13)=aa (I d)/\Cj 23 [int .u64 n,I d] w' λb w'=>Fo b (Lu w' (p.add 1) λn=>Li w' (p.add 13) λg=>Lj w' (p.add 12) λb=>Cj 23 [int .u64 n,I g] w' λh w'=>w'.cell? (p.add 12)=aa (.bool b)/\R (Z (.bool (h==!b))) w') (R (Z (.bool ae)) w')) (R (Z (.bool ae)) w')) (R (Z (.bool ae)) a))):=uj_ {N:=37,keep:=kp 0 [[1],[1,5],[2],[2]],bX:=[(3,[0,1,2,3,4,5,6,7,8,9,10,11,12,13,14,16,17,15,18,19,20,21,22,23,24,26,27,28,25,29,30,31])]} func197 (by kernel_rfl)
def Lf:Mt:={N:=9,keep:=kp 0 [[0,3],[4]]}
def MU:=a8 f278
theorem VC:f278.body=aa MU:=by kernel_rfl
theorem n278:f278.ntmps=Lf.N:=by kernel_rfl
theorem ajP {x x1 x2 x3 w R}:Uj (Calls prog 279 #[agg #[I x,I x1,I x2],ab (aa x3)] w R) (aJ w [I x,I x1,I x2] 278 λp w'=>Lq w' (x3.add 5) λf n c=>Li w' (p.add 0) λg=>Cq 280 [ar f n c,I g] w' λh n c w'=>Li w' (p.add 2) λd=>Fo (d !=0) (R (Z (.bool ((↑n:Int)==0))) w') (Sm w' λb=>Fo ((↑n:Int)==1) (((0:Int)<=0/\0<(↑n:Int))/\∃a,h=aa a/\∃n,b.cell? (add (a.add 0) 1)=aa (I n)/\∃i,b.cell? (p.add 1)=aa (I i)/\R (Z (.bool (n==i))) b) (R (Z (.bool ae)) b))):=uj_ {N:=28,keep:=kp 0 [[1,2],[2,4],[2,4,12],[3],[3]],bX:=[(4,(.range 13))]} func279 (by kernel_rfl)
end
end
section
open Value IntKind Ending World Addr Tryz
open Value renaming pointer→ab,slice→ar,tuple→aw,bool→qv
set_option maxRecDepth 100000
noncomputable section
def Cb:Mt:={N:=24,keep:=kp 0 [[0,1],[0,1,5],[1,5,8,9,10],[1,5,8,9,10,11],[1,5,7,8,9,10],[1,5,7,8,9,10,17],[1,5,8,9,10],[1,5,8,9,10],[4]],bk:=[(0,[5]),(1,[1,5,8,9,10])],lk:=[(3,[1,5,8,9,10])]}
def MW:=a8 f280
def Wx:=MW.sr.sr.sr
def MX:=MW.sr.sr.sl.sr.sl.sl
def HI (x:Int) (x1:Option Addr) (x2 x3:Nat) (x4:Option Addr) (x5 x6:Nat) (a b:Int):Env:=[vI 1 x,vS 5 x1 x2 x3,vS 8 x4 x5 x6,vI 9 a,vI 10 b]
def QO (R:RT):=bo 0 [5] (SQ Cb Wx (Rt f280 R) (Rt f280 R))
theorem ajQ {x x1 x2 x3 w R}:Uj (Calls prog 280 #[ar x x1 x2,I x3] w R) (Cut (WP prog 24 (bh MX) (HI x3 ah 0 0 x x1 x2 (↑x1:Int) 0) w (QO R))):=uj_ Cb func280 (by kernel_rfl)
theorem afu (x x1 x2 x3 x4 x5 x6 j i w B R):den prog Cb MX (HI x x1 x2 x3 x4 x5 x6 j i) w (bC B (QO R))=
(Fo (decide (i<j)) ((0<=i/\i<(↑x5:Int))/\∃a,x4=aa a/\∃n,w.cell? (add (add a (aG i*3)) 0)=aa (I n)/\∃b,w.cell? (add (add a (aG i*3)) 1)=aa (I b)/\∃d,w.cell? (add (add a (aG i*3)) 2)=aa (I d)/\aJ w [I 0,I 0,I 0] 75 λp w'=>Wr w' p [I n,I b,I d] λw'=>Li w' (p.add 0) λn=>Fo (n==x) (Li w' (p.add 0) λn=>Li w' (p.add 1) λe=>Li w' (p.add 2) λf=>aJ w' [I n,I e,I f] 75 λp w'=>∃g n c h,aZ prog (bR #[63,63] 63 #[ar x1 x2 x3,ar (aa p) 1 1]) w'=a7 (ar g n c) h/\B [vI 1 x,vS 5 g n c,vS 8 x4 x5 x6,vI 9 j,(10,SV.v (I (wrap i64 (i+1))))] h) (B [vI 1 x,vS 5 x1 x2 x3,vS 8 x4 x5 x6,vI 9 j,(10,SV.v (I (wrap i64 (i+1))))] w')) (R (Z (ar x1 x2 x3)) w)):=by kernel_rfl
def Lg:Mt:={N:=9,keep:=kp 0 [[0,3],[4]]}
def MY:=a8 f281
theorem VD:f281.body=aa MY:=by kernel_rfl
theorem n281:f281.ntmps=Lg.N:=by kernel_rfl
theorem ajR {x x1 x2 x3 w R}:Uj (Calls prog 282 #[agg #[I x,I x1,I x2],ab (aa x3)] w R) (aJ w [I x,I x1,I x2] 75 λp w'=>Lq w' (x3.add 4) λa n c=>Cj 283 [ar a n c,func (aQ 284) #[] #[ab (aa p)]] w' λb w'=>R (Z (.bool b)) w'):=uj_ {N:=8,keep:=kp 0 [[1,2],[3]]} func282 (by kernel_rfl)
theorem ajS {x x1 x2 x3 x4 w R}:Uj (Calls prog 283 #[ar x x1 x2,(func (aQ x3) #[] #[ab (aa x4)])] w R) (Ci 352 [ar x x1 x2,func (aQ x3) #[] #[ab (aa x4)]] w λn w'=>R (Z (.bool (decide (n>=0)))) w'):=uj_ {N:=9,keep:=kp 0 [[0,1],[4]]} func283 (by kernel_rfl)
theorem ajT {x x1 x2 x3 w R}:Uj (Calls prog 284 #[agg #[I x,I x1,I x2],ab (aa x3)] w R) (aJ w [I x,I x1,I x2] 278 λp w'=>Li w' (p.add 0) λn=>Li w' (x3.add 0) λa=>R (Z (.bool (n==a))) w'):=uj_ {N:=9,keep:=kp 0 [[1,2],[3]]} func284 (by kernel_rfl)
theorem ajU {x x1 x2 x3 w R}:Uj (Calls prog 285 #[agg #[I x,I x1,I x2],ab (aa x3)] w R) (aJ w [I x,I x1,I x2] 278 λp w'=>Lq w' (x3.add 6) λf n c=>Li w' (p.add 2) λg=>Cq 280 [ar f n c,I g] w' λh n c w'=>Sm w' λb=>∃d,b.cell? (p.add 2)=aa (I d)/\Fz (d==0) (Fo ((↑n:Int)==1) (((0:Int)<=0/\0<(↑n:Int))/\∃a,h=aa a/\∃n,b.cell? (add (a.add 0) 2)=aa (I n)/\∃i,b.cell? (p.add 0)=aa (I i)/\R (Z (.bool (n==i))) b) (R (Z (.bool ae)) b)) (R (Z (.bool ag)) b)):=uj_ {N:=27,keep:=kp 0 [[1,2],[2,4],[3]],bX:=[(2,(.range 18))]} func285 (by kernel_rfl)
theorem ajV {x x1 x2 x3 w R}:Uj (Calls prog 286 #[agg #[I x,I x1,I x2],ab (aa x3)] w R) (aJ w [I x,I x1,I x2] 75 λp w'=>Li w' (p.add 2) λn=>Fz (decide (n<=0)) (Lq w' (x3.add 4) λa n c=>Cj 283 [ar a n c,func (aQ 287) #[] #[ab (aa p)]] w' λb w'=>R (Z (.bool b)) w') (R (Z (.bool ag)) w')):=uj_ {N:=13,keep:=kp 0 [[1,2],[3]]} func286 (by kernel_rfl)
theorem ajW {x x1 x2 x3 w R}:Uj (Calls prog 287 #[agg #[I x,I x1,I x2],ab (aa x3)] w R) (aJ w [I x,I x1,I x2] 278 λp w'=>Li w' (p.add 0) λn=>Li w' (x3.add 2) λa=>Fo (n==a) (Li w' (p.add 2) λn=>Li w' (x3.add 0) λb=>R (Z (.bool (n==b))) w') (R (Z (.bool ae)) w')):=uj_ {N:=16,keep:=kp 0 [[1,2],[3]]} func287 (by kernel_rfl)
theorem ajX {x x1 x2 x3 x4 x5 x6 F G H e f g h i j k l m o q r s t u y z A B C D E w R}:Uj (Calls prog 288 #[agg #[I x,(int .u64 x1),(int .u64 x2),(int .u64 x3),(ar x4 x5 x6),(ar F G H),(ar e f g),(ar h i j),(ar k l m),(ar o q r),(ar s t u),(.bool y),(.bool z),I A,I B],agg #[I C,I D,I E]] w R) (aJ w [I x,int .u64 x1,int .u64 x2,int .u64 x3,ar x4 x5 x6,ar F G H,ar e f g,ar h i j,ar k l m,ar o q r,ar s t u,.bool y,.bool z,I A,I B] 65 λp w'=>aJ w' [I C,I D,I E] 75 λa w'=>Lu w' (p.add 2) λn=>Li w' (a.add 1) λc=>Cj 23 [int .u64 n,I c] w' λb w'=>Fz b (Lj w' (p.add 11) λb=>Fo b (Lj w' (p.add 12) λb=>Fo (!b) (Li w' (p.add 13) λn=>Li w' (a.add 1) λd=>R (Z (.bool (n==d))) w') (R (Z (.bool ae)) w')) (R (Z (.bool ae)) w')) (R (Z (.bool ag)) w')):=uj_ {N:=26,keep:=kp 0 [[2,3],[4]]} func288 (by kernel_rfl)
theorem ajY {x x1 x2 x3 w R}:Uj (Calls prog 289 #[agg #[I x,I x1,I x2],ab (aa x3)] w R) (aJ w [I x,I x1,I x2] 75 λp w'=>Li w' (p.add 1) λn=>Fz (n==(-1:Int)) (Li w' (x3.add 0) λn=>Lu w' (x3.add 1) λa=>Lu w' (x3.add 2) λd=>Lu w' (x3.add 3) λf=>Lq w' (x3.add 4) λg h c=>Lq w' (x3.add 5) λi j k=>Lq w' (x3.add 6) λl m o=>Lq w' (x3.add 7) λq r s=>Lq w' (x3.add 8) λt u v=>Lq w' (x3.add 9) λy z A=>Lq w' (x3.add 10) λB C D=>Lj w' (x3.add 11) λb=>Lj w' (x3.add 12) λE=>Li w' (x3.add 13) λF=>Li w' (x3.add 14) λG=>Li w' (p.add 0) λH=>Li w' (p.add 1) λJ=>Li w' (p.add 2) λK=>Cj 288 [agg #[I n,int .u64 a,int .u64 d,int .u64 f,ar g h c,ar i j k,ar l m o,ar q r s,ar t u v,ar y z A,ar B C D,.bool b,.bool E,I F,I G],agg #[I H,I J,I K]] w' λb w'=>R (Z (.bool b)) w') (R (Z (.bool ag)) w')):=uj_ {N:=12,keep:=kp 0 [[1,2],[3]]} func289 (by kernel_rfl)
theorem ajZ {x x1 x2 x3 w R}:Uj (Calls prog 290 #[agg #[I x,I x1,I x2],ab (aa x3)] w R) (aJ w [I x,I x1,I x2] 75 λp w'=>Lq w' x3 λa n c=>Li w' (p.add 0) λb=>Cq 280 [ar a n c,I b] w' λp n c w'=>R (Z (.bool ((↑n:Int)==1))) w'):=uj_ {N:=10,keep:=kp 0 [[1,2],[3]]} func290 (by kernel_rfl)
theorem akQ {x x1 x2 x3 w R}:Uj (Calls prog 350 #[ar x x1 x2,(func (aQ 351) #[] #[ab (aa x3)])] w R) (Ci 387 [ar x x1 x2,func (aQ 351) #[] #[ab (aa x3)]] w λn w'=>R (Z (.bool (decide (n>=0)))) w'):=uj_ {N:=9,keep:=kp 0 [[0,1],[4]]} func350 (by kernel_rfl)
def Cf:Mt:={N:=19,keep:=kp 0 [[0,1],[0,1,7,8],[0,1,7,8,9],[0,1,5,7,8],[0,1,5,7,8,16],[4],[0,1,7,8],[4]],bk:=[(0,[]),(1,[0,1,7,8])],lk:=[(2,[0,1,7,8])]}
def Nc:=a8 f352
def WE:=Nc.sr.sr
def Nd:=Nc.sr.sl.sr.sl.sl
def O0 (x:Option Addr) (x1 x2 x3:Nat) (x4:Addr) (x5 x6:Int):Env:=[vS 0 x x1 x2,(1,SV.v (func (aQ x3) #[] #[(ab (aa x4))])),vI 7 x5,vI 8 x6]
def QX (R:RT):=bo 0 [] (SQ Cf WE (Rt f352 R) (Rt f352 R))
theorem akR {x x1 x2 x3 x4 w R}:Uj (Calls prog 352 #[ar x x1 x2,(func (aQ x3) #[] #[ab (aa x4)])] w R) (Cut (WP prog 19 (bh Nd) [vS 0 x x1 x2,(1,SV.v (func (aQ x3) #[] #[ab (aa x4)])),(7,SV.v (I (↑x1:Int))),vI 8 0] w (QX R))):=uj_ Cf func352 (by kernel_rfl)
theorem afE (x x1 x2 x3 x4 x5 x6 w B R):den prog Cf Nd (O0 x x1 x2 x3 x4 x5 x6) w (bC B (QX R))=
(Fo (decide (x6<x5)) ((0<=x6/\x6<(↑x1:Int))/\∃a,x=aa a/\∃n,w.cell? (add (add a (aG x6*3)) 0)=aa (I n)/\∃c,w.cell? (add (add a (aG x6*3)) 1)=aa (I c)/\∃d,w.cell? (add (add a (aG x6*3)) 2)=aa (I d)/\bif jx prog x3 then Call prog x3 [agg #[I n,I c,I d],ab (aa x4)] w λe w'=>∃b,e=Z (.bool b)/\Fo b (R (Z (I x6)) w') (B [vS 0 x x1 x2,(1,SV.v (func (aQ x3) #[] #[ab (aa x4)])),vI 7 x5,(8,SV.v (I (wrap i64 (x6+1))))] w')else ∃b w',aZ prog (callFunc x3 #[agg #[I n,I c,I d],ab (aa x4)]) w=a7 (Next.value (.bool b)) w'/\Fo b (R (Z (I x6)) w') (B [vS 0 x x1 x2,(1,SV.v (func (aQ x3) #[] #[ab (aa x4)])),vI 7 x5,(8,SV.v (I (wrap i64 (x6+1))))] w')) (R (Z (I (-1:Int))) w)):=by kernel_rfl
def Cr:Mt:={N:=19,keep:=kp 0 [[0,1],[0,1,7,8],[0,1,7,8,9],[0,1,5,7,8],[0,1,5,7,8,16],[4],[0,1,7,8],[4]],bk:=[(0,[]),(1,[0,1,7,8])],lk:=[(2,[0,1,7,8])]}
def NB:=a8 f387
def WM:=NB.sr.sr
def NC:=NB.sr.sl.sr.sl.sl
def O4 (x:Option Addr) (x1 x2:Nat) (x3:Addr) (x4 x5:Int):Env:=[vS 0 x x1 x2,(1,SV.v (func (aQ 351) #[] #[(ab (aa x3))])),vI 7 x4,vI 8 x5]
def Q9 (R:RT):=bo 0 [] (SQ Cr WM (Rt f387 R) (Rt f387 R))
theorem alj {x x1 x2 x3 w R}:Uj (Calls prog 387 #[ar x x1 x2,(func (aQ 351) #[] #[ab (aa x3)])] w R) (Cut (WP prog 19 (bh NC) [vS 0 x x1 x2,(1,SV.v (func (aQ 351) #[] #[ab (aa x3)])),(7,SV.v (I (↑x1:Int))),vI 8 0] w (Q9 R))):=uj_ Cr func387 (by kernel_rfl)
theorem afS (x x1 x2 x3 x4 x5 w B R):den prog Cr NC (O4 x x1 x2 x3 x4 x5) w (bC B (Q9 R))=
(Fo (decide (x5<x4)) ((0<=x5/\x5<(↑x1:Int))/\∃a,x=aa a/\∃n,w.cell? (add (add a (aG x5*3)) 0)=aa (I n)/\∃c,w.cell? (add (add a (aG x5*3)) 1)=aa (I c)/\∃d,w.cell? (add (add a (aG x5*3)) 2)=aa (I d)/\Cj 351 [agg #[I n,I c,I d],ab (aa x3)] w λb w'=>Fo b (R (Z (I x5)) w') (B [vS 0 x x1 x2,(1,SV.v (func (aQ 351) #[] #[ab (aa x3)])),vI 7 x4,(8,SV.v (I (wrap i64 (x5+1))))] w')) (R (Z (I (-1:Int))) w)):=by kernel_rfl
end
end
section
open Value IntKind Ending World Addr Tryz
open Value renaming pointer→ab,slice→ar,tuple→aw,bool→qv
set_option maxRecDepth 100000
noncomputable section
theorem alq {x x1 w R}:Uj (Calls prog 393 #[int .u64 x,int .u64 x1] w R) ((0:Int)<=32/\(0:Int)<=32/\(0:Int)<=32/\(0:Int)<=32/\(0:Int)<=32/\R (Z (aw #[int .u64 (wrap .u64 (wrap .u64 (wrap .u64 (aS .u64 x 32*aS .u64 x1 32)+aS .u64 (wrap .u64 (wrap .u64 (aS .u64 x 32*aH aN .u64 x1 4294967295)+aS .u64 (wrap .u64 (aH aN .u64 x 4294967295*aH aN .u64 x1 4294967295)) 32)) 32)+aS .u64 (wrap .u64 (aH aN .u64 (wrap .u64 (wrap .u64 (aS .u64 x 32*aH aN .u64 x1 4294967295)+aS .u64 (wrap .u64 (aH aN .u64 x 4294967295*aH aN .u64 x1 4294967295)) 32)) 4294967295+wrap .u64 (aH aN .u64 x 4294967295*aS .u64 x1 32))) 32)),int .u64 (wrap .u64 (x*x1))])) w):=uj_ {N:=51,keep:=kp 0 [[0,1],[0,1,6],[0,1,6,7],[0,1,6,7,8],[0,1,6,7,8,9],[0,1,6,7,8,9,10],[0,1,6,7,9,11],[0,1,6,7,9,11,12],[0,1,6,7,9,12,13],[0,1,7,9,12,13],[0,1,4],[4,5]]} func393 (by kernel_rfl)
def ke:Mt:={N:=33,keep:=kp 0 [[0],[0,11],[2],[0,3],[3,19,20],[3,19,20,21],[3,5,19,20],[3,19,20,23,24],[3,19,20,23,24,25],[3,19,20,23,24],[3,19,20,23,24,29],[3,19,20,23,24],[3,19,20],[2]],bk:=[(0,[3]),(1,[3,19,20]),(2,[3,19,20]),(3,[3,19,20,23,24])],lk:=[(5,[3,19,20]),(8,[3,19,20,23,24])]}
def C8:=a8 f362
def r6:=C8.sr.sl.sr.sr.sr.sr
def Ni:=C8.sr.sl.sr.sr.sr.sl.sr.sl.sl
def GP:=C8.sr.sl.sr.sr.sr.sl.sr.sl.sl.sr.sr.sr
def Nj:=C8.sr.sl.sr.sr.sr.sl.sr.sl.sl.sr.sr.sl.sl.sr.sr.sl.sl
def HR (x:Option Addr) (x1 x2:Nat) (x3:List Value) (x4:Int):Env:=[vS 3 x x1 x2,(19,SV.v (agg x3.toArray)),vI 20 x4]
def HS (x:Option Addr) (x1 x2:Nat) (x3:List Value) (x4:Int) (x5:Option Addr) (x6 u:Nat) (w:Option Addr) (y a:Nat) (b:Option Addr) (c d:Nat) (e:Option Addr) (f g:Nat) (h:Option Addr) (i j:Nat) (k:Option Addr) (l m:Nat) (n:Option Addr) (o p:Nat) (q:Option Addr) (r s:Nat) (t:Int):Env:=[vS 3 x x1 x2,(19,SV.v (agg x3.toArray)),vI 20 x4,(23,SV.v (agg #[(ar x5 x6 u),(ar w y a),(ar b c d),(ar e f g),(ar h i j),(ar k l m),(ar n o p),(ar q r s)])),vI 24 t]
def Q0 (R:RT):=bo 0 [3] (SQ ke r6 (Rt f362 R) (Rt f362 R))
def Q1 (B362_1:Env->World->Prop) (R:Ending->World->Prop):fe:=bo 2 [3,19,20] (bo 1 [3,19,20] (j6 (λE w=>jQ (jU ke.cE (iu GP)) prog ke GP E w (bC B362_1 (bo 0 [3] (j6 (λE w=>jQ (jU ke.cE (iu r6)) prog ke r6 E w (Rt f362 R) λE=>den prog ke r6 E w (Rt f362 R)) (Rt f362 R)))) λE=>den prog ke GP E w (bC B362_1 (bo 0 [3] (j6 (λE w=>jQ (jU ke.cE (iu r6)) prog ke r6 E w (Rt f362 R) λE=>den prog ke r6 E w (Rt f362 R)) (Rt f362 R))))) (bC B362_1 (bo 0 [3] (j6 (λE w=>jQ (jU ke.cE (iu r6)) prog ke r6 E w (Rt f362 R) λE=>den prog ke r6 E w (Rt f362 R)) (Rt f362 R))))))
theorem ak1 {x w R}:Uj (Calls prog 362 #[ab x] w R) (∃a,x=aa a/\Lq w (a.add 170) λp n c=>Fo (decide ((↑n:Int)>0)) (∃a,x=aa a/\Lq w (a.add 170) λp n c=>R (Z (ar p n c)) w) (∃a,x=aa a/\∃cs,gu cs=168/\(∀(j:Nat) (v:Value),cs[j]?=aa v->w.cell? (add (a.add 2) j)=aa v)/\Cut (WP prog 33 (bh Ni) (HR ah 0 0 cs 0) w (Q0 R)))):=uj_ ke func362 (by kernel_rfl)
theorem afH (x x1 x2 x3 x4 w B362_1 R):den prog ke Ni (HR x x1 x2 x3 x4) w (bC B362_1 (Q0 R))=
(Fo (decide (x4<21)) ((0<=x4/\x4<(↑21:Int))/\∃p n c b d e f g h i j k l m o q r s t u v y z A,rT 8 (rU (aG x4*8) (Array.toList (dK x3)))=[ar p n c,ar b d e,ar f g h,ar i j k,ar l m o,ar q r s,ar t u v,ar y z A]/\aJ w [N3,N3,N3,N3,N3,N3,N3,N3] 286 λa w'=>Wr w' a [ar p n c,ar b d e,ar f g h,ar i j k,ar l m o,ar q r s,ar t u v,ar y z A] λw'=>Lq w' (a.add 0) λp n c=>Lq w' (a.add 1) λB C D=>Lq w' (a.add 2) λE F G=>Lq w' (a.add 3) λH I J=>Lq w' (a.add 4) λK L M=>Lq w' (a.add 5) λN O P=>Lq w' (a.add 6) λQ S T=>Lq w' (a.add 7) λU V W=>Cut (WP prog 33 (bh Nj) (HS x x1 x2 x3 x4 p n c B C D E F G H I J K L M N O P Q S T U V W 0) w' (Q1 B362_1 R))) (R (Z (ar x x1 x2)) w)):=by kernel_rfl
theorem afI (x x1 x2 x3 x4 x5 x6 A D E b d e f g h i j k l m o q r s t u y z a w B C R):den prog ke Nj (HS x x1 x2 x3 x4 x5 x6 A D E b d e f g h i j k l m o q r s t u y z a) w (bC C (Q1 B R))=
(Fo (decide (a<8)) ((0<=a/\a<(↑8:Int))/\∃p n c,[ar x5 x6 A,ar D E b,ar d e f,ar g h i,ar j k l,ar m o q,ar r s t,ar u y z][aG a*1]?=aa (ar p n c)/\Fo (decide ((↑n:Int)>0)) (R (Z (ar p n c)) w) (C [vS 3 p n c,(19,SV.v (agg (dK x3))),vI 20 x4,(23,SV.v (agg #[ar x5 x6 A,ar D E b,ar d e f,ar g h i,ar j k l,ar m o q,ar r s t,ar u y z])),(24,SV.v (I (wrap i64 (a+1))))] w)) (B [vS 3 x x1 x2,(19,SV.v (agg (dK x3))),(20,SV.v (I (wrap i64 (x4+1))))] w)):=by kernel_rfl
def Ce:Mt:={N:=18,keep:=kp 0 [[0],[0,3],[3,6,7,8],[3,6,7,8,9],[3,5,6,7,8],[3,5,6,7,8,14],[2],[3,6,7,8],[2]],bk:=[(0,[3]),(1,[3,6,7,8])],lk:=[(3,[3,6,7,8])]}
def Na:=a8 f344
def WD:=Na.sr.sr.sr
def Nb:=Na.sr.sr.sl.sr.sl.sl
def HP (x:Int) (x1:Option Addr) (x2 x3:Nat) (x4 x5:Int):Env:=[vI 3 x,vS 6 x1 x2 x3,vI 7 x4,vI 8 x5]
def QU (R:RT):=bo 0 [3] (SQ Ce WD (Rt f344 R) (Rt f344 R))
theorem akN {x x1 x2 w R}:Uj (Calls prog 344 #[ar x x1 x2] w R) (Cut (WP prog 18 (bh Nb) (HP 0 x x1 x2 (↑x1:Int) 0) w (QU R))):=uj_ Ce func344 (by kernel_rfl)
theorem afD (x x1 x2 x3 x4 x5 w B R):den prog Ce Nb (HP x x1 x2 x3 x4 x5) w (bC B (QU R))=
(Fo (decide (x5<x4)) ((0<=x5/\x5<(↑x2:Int))/\∃a,x1=aa a/\Li w (add a (aG x5*1)) λn=>Fo (n !=x) (R (Z (I n)) w) (B [vI 3 x,vS 6 x1 x2 x3,vI 7 x4,(8,SV.v (I (wrap i64 (x5+1))))] w)) (R (Z (I x)) w)):=by kernel_rfl
theorem akO {x x1 w R}:Uj (Calls prog 345 #[I x,I x1] w R) (Cj 385 [I x] w λb w'=>Cj 385 [I x1] w' λa w'=>Fo b (Fo a (R (Z (I 0)) w') (R (Z (I (-1:Int))) w')) (Fo a (R (Z (I 1)) w') (Fo (decide (x<x1)) (R (Z (I (-1:Int))) w') (Fo (decide (x>x1)) (R (Z (I 1)) w') (R (Z (I 0)) w'))))):=uj_ {N:=20,keep:=kp 0 [[0,1],[0,1,5],[0,1,5,6],[0,1,6,11],[12],[4],[4],[0,1,13],[4],[0,1,16],[4],[19],[4],[4]]} func345 (by kernel_rfl)
theorem akP {x x1 w R}:Uj (Calls prog 346 #[I x,I x1] w R) (Cj 386 [I x] w λb w'=>Cj 386 [I x1] w' λa w'=>Fo b (Fo a (R (Z (I 0)) w') (R (Z (I (-1:Int))) w')) (Fo a (R (Z (I 1)) w') (Fo (decide (x<x1)) (R (Z (I (-1:Int))) w') (Fo (decide (x>x1)) (R (Z (I 1)) w') (R (Z (I 0)) w'))))):=uj_ {N:=20,keep:=kp 0 [[0,1],[0,1,5],[0,1,5,6],[0,1,6,11],[12],[4],[4],[0,1,13],[4],[0,1,16],[4],[19],[4],[4]]} func346 (by kernel_rfl)
theorem alh {x w R}:Uj (Calls prog 385 #[I x] w R) (R (Z (.bool (x !=x))) w):=uj_ {N:=6,keep:=kp 0 [[0],[2]]} func385 (by kernel_rfl)
theorem ali {x w R}:Uj (Calls prog 386 #[I x] w R) (R (Z (.bool (x !=x))) w):=uj_ {N:=6,keep:=kp 0 [[0],[2]]} func386 (by kernel_rfl)
end
end
section
open Value IntKind Ending World Addr Tryz
open Value renaming pointer→ab,slice→ar,tuple→aw,bool→qv
set_option maxRecDepth 100000
noncomputable section
theorem akM {x x1 x2 w R}:Uj (Calls prog 343 #[I x,I x1,ab (aa x2)] w R) (Sm w λw'=>World.drawn w'=World.drawn w+1->Lp w' x2 λp=>∃a,p=aa a/\∃r,w'.cell? (a.add 1)=aa (map r)/\∃n,aZ prog (dr 285 (map r) (I x) ae) w'=a7 (I n) w'/\Lp w' x2 λp=>∃a,p=aa a/\∃r,w'.cell? (a.add 1)=aa (map r)/\∃b,aZ prog (dr 285 (map r) (I x1) ae) w'=a7 (I b) w'/\Ci 345 [I n,I b] w' λn w'=>Ci 346 [I x,I x1] w' λc w'=>aJ w' [I n,I c] 3 λp w'=>Ci 344 [ar (aa p) 2 2] w' λn w'=>R (Z (I n)) w'):=uj_ {N:=24,keep:=kp 0 [[0,1,2],[5]],bX:=[(1,[0,1,2,3,4,5,6,7,8,9,10,11,13,14,12,15,16,17,18])],ex:=ag} func343 (by kernel_rfl)
end
end
section
open Value IntKind Ending World Addr Tryz
open Value renaming pointer→ab,slice→ar,tuple→aw,bool→qv
set_option maxRecDepth 100000
noncomputable section
namespace lI
def dw:Mt:={N:=38,keep:=kp 0 [[0,1,2,3],[0,1,2,3,9],[1,2,3,9,10],[1,2,3,9,10,16],[1,2,3,9,10],[1,2,3,9,10,21,22,23],[1,2,3,9,10,21,22,23,24],[1,2,3,9,10,12,21,22,23],[1,2,3,9,10,21,22,23],[1,2,3,9,10,21,22,23],[8]],bk:=[(0,[9]),(1,[1,2,3,9,10]),(2,[1,2,3,9,10]),(3,[1,2,3,9,10,21,22,23])],lk:=[(3,[1,2,3,9,10]),(6,[1,2,3,9,10,21,22,23])],ref:=ae}
def tt:=a8 f87
def jb:=tt.sr.sr.sr
def Ad:=tt.sr.sr.sl.sr.sl.sl
def vF:=tt.sr.sr.sl.sr.sl.sl.sr.sr
def vG:=tt.sr.sr.sl.sr.sl.sl.sr.sl.sl.sr.sl.sl
def Ax (x:Int) (x1:Nat) (x2:Option Addr) (x3:Nat) (x4 x5:Option Addr) (x6 a:Nat) (b:Int):Env:=[vI 1 x,(2,SV.v (func (aQ x1) #[(ab x2)] #[])),(3,SV.v (func (aQ x3) #[(ab x4)] #[])),vS 9 x5 x6 a,vI 10 b]
def Ay (x:Int) (x1:Nat) (x2:Option Addr) (x3:Nat) (x4 x5:Option Addr) (x6 e:Nat) (f:Int) (g:Option Addr) (a b:Nat) (c d:Int):Env:=[vI 1 x,(2,SV.v (func (aQ x1) #[(ab x2)] #[])),(3,SV.v (func (aQ x3) #[(ab x4)] #[])),vS 9 x5 x6 e,vI 10 f,vS 21 g a b,vI 22 c,vI 23 d]
def AQ (R:RT):=bo 0 [9] (SQ dw jb (Rt f87 R) (Rt f87 R))
def wj (B87_1:Env->World->Prop) (R:Ending->World->Prop):fe:=bo 2 [1,2,3,9,10] (bo 1 [1,2,3,9,10] (j6 (λE w=>jQ (jU dw.cE (iu vF)) prog dw vF E w (bC B87_1 (bo 0 [9] (j6 (λE w=>jQ (jU dw.cE (iu jb)) prog dw jb E w (Rt f87 R) λE=>den prog dw jb E w (Rt f87 R)) (Rt f87 R)))) λE=>den prog dw vF E w (bC B87_1 (bo 0 [9] (j6 (λE w=>jQ (jU dw.cE (iu jb)) prog dw jb E w (Rt f87 R) λE=>den prog dw jb E w (Rt f87 R)) (Rt f87 R))))) (bC B87_1 (bo 0 [9] (j6 (λE w=>jQ (jU dw.cE (iu jb)) prog dw jb E w (Rt f87 R) λE=>den prog dw jb E w (Rt f87 R)) (Rt f87 R))))))
theorem KU {x x1 x2 x3 x4 x5 w R}:Uj (Calls prog 87 #[I x,I x1,func (aQ x2) #[(ab x3)] #[],func (aQ x4) #[(ab x5)] #[]] w R) (Cut (WP prog 38 (bh Ad) [vI 1 x1,(2,SV.v (func (aQ x2) #[ab x3] #[])),(3,SV.v (func (aQ x4) #[ab x5] #[])),(9,SV.v (N3)),vI 10 x] w (AQ R))):=uj_ dw func87 (by kernel_rfl)
theorem Kr (x x1 x2 x3 x4 x5 x6 b a w B R):den prog dw Ad (Ax x x1 x2 x3 x4 x5 x6 b a) w (bC B (AQ R))=
(Fo (decide (a<x)) (bif jx prog x1 then Call prog x1 [ab x2,I a] w λe w'=>∃p n c,e=Z (ar p n c)/\Cut (WP prog 38 (bh vG) [vI 1 x,(2,SV.v (func (aQ x1) #[ab x2] #[])),(3,SV.v (func (aQ x3) #[ab x4] #[])),vS 9 x5 x6 b,vI 10 a,vS 21 p n c,(22,SV.v (I (↑n:Int))),vI 23 0] w' (wj B R))else ∃p n c w',aZ prog (callFunc x1 #[ab x2,I a]) w=a7 (Next.value (ar p n c)) w'/\Cut (WP prog 38 (bh vG) [vI 1 x,(2,SV.v (func (aQ x1) #[ab x2] #[])),(3,SV.v (func (aQ x3) #[ab x4] #[])),vS 9 x5 x6 b,vI 10 a,vS 21 p n c,(22,SV.v (I (↑n:Int))),vI 23 0] w' (wj B R))) (R (Z (ar x5 x6 b)) w)):=by kernel_rfl
theorem Ks (x x1 x2 x3 x4 x5 x6 l k m h j i g w B C R):den prog dw vG (Ay x x1 x2 x3 x4 x5 x6 l k m h j i g) w (bC C (wj B R))=
(Fo (decide (g<i)) ((0<=g/\g<(↑h:Int))/\∃a,m=aa a/\Li w (add a (aG g*1)) λn=>bif jx prog x3 then Call prog x3 [ab x4,I n] w λe w'=>∃b,e=Z (I b)/\aJ w' [I n,I k,I b] 75 λp w'=>∃d n c f,aZ prog (bR #[63,63] 63 #[ar x5 x6 l,ar (aa p) 1 1]) w'=a7 (ar d n c) f/\C [vI 1 x,(2,SV.v (func (aQ x1) #[ab x2] #[])),(3,SV.v (func (aQ x3) #[ab x4] #[])),vS 9 d n c,vI 10 k,vS 21 m h j,vI 22 i,(23,SV.v (I (wrap i64 (g+1))))] f else ∃b w',aZ prog (callFunc x3 #[ab x4,I n]) w=a7 (Next.value (I b)) w'/\aJ w' [I n,I k,I b] 75 λp w'=>∃d n c f,aZ prog (bR #[63,63] 63 #[ar x5 x6 l,ar (aa p) 1 1]) w'=a7 (ar d n c) f/\C [vI 1 x,(2,SV.v (func (aQ x1) #[ab x2] #[])),(3,SV.v (func (aQ x3) #[ab x4] #[])),vS 9 d n c,vI 10 k,vS 21 m h j,vI 22 i,(23,SV.v (I (wrap i64 (g+1))))] f) (B [vI 1 x,(2,SV.v (func (aQ x1) #[ab x2] #[])),(3,SV.v (func (aQ x3) #[ab x4] #[])),vS 9 x5 x6 l,(10,SV.v (I (wrap i64 (k+1))))] w)):=by kernel_rfl
def sT:Mt:={N:=23,keep:=kp 0 [[0,1],[0,1,9,10],[0,1,9,10,11],[0,1,5,9,10],[0,1,5,9,10,20],[4],[0,1,9,10],[4]],bk:=[(0,[]),(1,[0,1,9,10])],lk:=[(2,[0,1,9,10])],ref:=ae}
def Aa:=a8 f376
def GR:=Aa.sr.sr
def Ab:=Aa.sr.sl.sr.sl.sl
def xW (x:Option Addr) (x1 x2:Int):Env:=[vP 0 x,(1,SV.v (func (aQ 378) #[] #[])),vI 9 x1,vI 10 x2]
def AO (R:RT):=bo 0 [] (SQ sT GR (Rt f376 R) (Rt f376 R))
theorem KN {x w R}:Uj (Calls prog 376 #[ab x,func (aQ 378) #[] #[]] w R) (∃a,x=aa a/\Li w (a.add 12) λn=>Cut (WP prog 23 (bh Ab) [vP 0 x,(1,SV.v (func (aQ 378) #[] #[])),vI 9 n,vI 10 0] w (AO R))):=uj_ sT func376 (by kernel_rfl)
theorem Kp (x x1 x2 w B R):den prog sT Ab (xW x x1 x2) w (bC B (AO R))=
(Fo (decide (x2<x1)) (∃a,x=aa a/\(0<=x2/\x2<(↑12:Int))/\∃n,w.cell? (add (a.add 0) (aG x2*1))=aa (int cz n)/\Cj 378 [int cz n] w λb w'=>Fo b (R (Z (I x2)) w') (B [vP 0 x,(1,SV.v (func (aQ 378) #[] #[])),vI 9 x1,(10,SV.v (I (wrap i64 (x2+1))))] w')) (R (Z (I (-1:Int))) w)):=by kernel_rfl
def sR:Mt:={N:=46,keep:=kp 0 [[0,1,2],[0,1,2,13],[6,7],[0,2,8],[0,2,8,25],[6,7],[0,2,8,9],[0,2,9,29,30,31],[0,2,9,29,30,31,32],[0,2,9,11,29,30,31],[0,2,9,11,29,30,31,42],[0,2,9,29,30,31],[0,2,9,29,30,31],[6,7]],bk:=[(0,[9]),(1,[0,2,9,29,30,31])],lk:=[(8,[0,2,9,29,30,31])],ref:=ae}
def z6:=a8 f335
def GN:=z6.sr.sr.sr.sr.sr.sr
def z7:=z6.sr.sr.sr.sr.sr.sl.sr.sl.sl
def Av (x:Option Addr) (x1:Int) (x2:Option Addr) (x3 x4:Nat) (x5 x6:Int):Env:=[vP 0 x,(2,SV.v (func (aQ 337) #[] #[])),vI 9 x1,vS 29 x2 x3 x4,vI 30 x5,vI 31 x6]
def AN (R:RT):=bo 0 [9] (SQ sR GN (Rt f335 R) (Rt f335 R))
theorem KM {x x1 w R}:Uj (Calls prog 335 #[ab x,int .u64 x1,func (aQ 337) #[] #[]] w R) (Fo x.isNone (R (Z (aw #[I 0,I 1])) w) (∃a,x=aa a/\Lq w (a.add 0) λp n c=>Cu 11 [I (↑n:Int)] w λn w'=>Cu 318 [int .u64 x1,int .u64 n] w' λn w'=>Cq 382 [int .u64 n] w' λp n c w'=>Fo ((↑n:Int)==0) (R (Z (aw #[I 0,I 12])) w') (((0:Int)<=0/\0<(↑n:Int))/\∃a,p=aa a/\Li w' (a.add 0) λb=>Cut (WP prog 46 (bh z7) [vP 0 x,(2,SV.v (func (aQ 337) #[] #[])),vI 9 b,vS 29 p n c,(30,SV.v (I (↑n:Int))),vI 31 0] w' (AN R))))):=uj_ sR func335 (by kernel_rfl)
theorem Ko (x x1 x2 x3 x4 x5 x6 w B R):den prog sR z7 (Av x x1 x2 x3 x4 x5 x6) w (bC B (AN R))=
(Fo (decide (x6<x5)) ((0<=x6/\x6<(↑x3:Int))/\∃a,x2=aa a/\Li w (add a (aG x6*1)) λn=>Ci 14 [ab x,I n] w λc w'=>Ci 14 [ab x,I x1] w' λd w'=>Cj 337 [I c,I d] w' λb w'=>Fo b (B [vP 0 x,(2,SV.v (func (aQ 337) #[] #[])),vI 9 n,vS 29 x2 x3 x4,vI 30 x5,(31,SV.v (I (wrap i64 (x6+1))))] w') (B [vP 0 x,(2,SV.v (func (aQ 337) #[] #[])),vI 9 x1,vS 29 x2 x3 x4,vI 30 x5,(31,SV.v (I (wrap i64 (x6+1))))] w')) (R (Z (aw #[I x1,I 0])) w)):=by kernel_rfl
end lI
end
end
structure av (F:Nat->Prop) (w w':World):Prop where
 size:w.heap.size<=w'.heap.size
 os:w'.os=w.os
 tape:w'.tape=w.tape
 output:w'.output=w.output
 ay:∀i,i<w.heap.size->¬F i->w'.heap[i]?=w.heap[i]?
def no:Nat->Prop:=λ_=>False
theorem av.refl (F:Nat->Prop) (w:World):av F w w:=⟨aX _,rfl,rfl,rfl,λ_ _ _=>rfl⟩
theorem av.trans {F G:Nat->Prop} {w w1 a:World} (h:av F w w1) (k:av G w1 a) (d:∀i,i<w.heap.size->G i->F i):av F w a:=
 ⟨aW h.size k.size,k.os.trans h.os,k.tape.trans h.tape,k.output.trans h.output,
  λi hi b=>(k.ay i (jM hi h.size) (λe=>b (d i hi e))).trans (h.ay i hi b)⟩
theorem av.mono {F G:Nat->Prop} {w w':World} (h:av F w w') (a:∀i,i<w.heap.size->F i->G i):av G w w':=(av.refl G w).trans h a
theorem av.same {w w':World} (F:Nat->Prop) (a:w'.heap=w.heap) (b:w'.os=w.os) (d:w'.tape=w.tape) (e:w'.output=w.output):av F w w':=
 ⟨by rw[a];exact aX _,b,d,e,λ_ _ _=>by rw[a]⟩
theorem mC.ak {F:Nat->Prop} {w w':World} {b:Nat} {c:List Value} {T:TypeId} (h:mC w w' b c T) (a:F b):av F w w':=
 ⟨bF h.size.symm,h.os,h.tape,h.output,λi _ d=>h.other i (λe=>d (e ▸ a))⟩
theorem dy.ak {w w':World} {o:Obj} (h:dy w w' o) (F:Nat->Prop):av F w w':=
 ⟨by rw[h.size];omega,h.os,h.tape,h.output,λi hi _=>h.nM i hi⟩
theorem tM {w:World} {b:Nat} {o:Obj} (h:w.heap[b]?=aa o):b<w.heap.size:=(xu.1 h).1
def aM (w:World) (b:Nat) (c:List Value) (T:TypeId):Prop:=w.heap[b]?=aa (.cells c.toArray T (0,0))
theorem aM.lt {w:World} {b:Nat} {c:List Value} {T:TypeId} (h:aM w b c T):b<w.heap.size:=tM h
theorem aM.ak {w w':World} {b:Nat} {c:List Value} {T:TypeId} {F:Nat->Prop} (h:aM w b c T) (k:av F w w') (a:¬F b):aM w' b c T:=
 (k.ay b h.lt a).trans h
theorem Af {w:World} {b:Nat} {c:List Value} {T:TypeId} (h:aM w b c T) (o:Nat):w.cell? ⟨b,o,ah⟩=c[o]?:=by
 unfold aM at h;simp[bJ,h]
theorem add_lit (b o k:Nat):(⟨b,o,ah⟩:Addr).add k=⟨b,o+k,ah⟩:=by
 unfold bP;split
 ·simp_all
 ·rfl
theorem aM.cell {w:World} {b:Nat} {c:List Value} {T:TypeId} (h:aM w b c T) {k:Nat} {v:Value} (a:c[k]?=aa v):w.cell? ((⟨b,0,ah⟩:Addr).add k)=aa v:=by
 rw[add_lit,Af h,eU];exact a
theorem aM.cm {w:World} {b:Nat} {c:List Value} {T:TypeId} (h:aM w b c T) {v:Value} (a:c[0]?=aa v):w.cell? ⟨b,0,ah⟩=aa v:=by
 rw[Af h];exact a
theorem aM.wr {w:World} {b:Nat} {c:List Value} {T:TypeId} (h:aM w b c T) {k:Nat} {vs:List Value} (a:k+vs.length<=c.length) {K:World->Prop}
  (d:∀w',mC w w' b (bc c k vs) T->K w'):Wr w ((⟨b,0,ah⟩:Addr).add k) vs K:=by
 rw[add_lit,eU];exact⟨⟨c,T,h,rfl,a,d⟩⟩
theorem aM.gF {w:World} {b:Nat} {c:List Value} {T:TypeId} (h:aM w b c T) {vs:List Value} (a:vs.length<=c.length) {K:World->Prop}
  (d:∀w',mC w w' b (bc c 0 vs) T->K w'):Wr w ⟨b,0,ah⟩ vs K:=
 ⟨⟨c,T,h,rfl,by simpa using a,d⟩⟩
theorem mC.aK {w w':World} {b:Nat} {c:List Value} {T:TypeId} (h:mC w w' b c T):aM w' b c T:=h.ay
theorem mC.keep {w w':World} {b i:Nat} {c c':List Value} {T a:TypeId} (h:mC w w' b c T) (k:aM w i c' a) (hi:i≠b):aM w' i c' a:=(h.other i hi).trans k
theorem dy.aK {w w':World} {c:List Value} {T:TypeId} (h:dy w w' (.cells c.toArray T (0,0))):aM w' w.heap.size c T:=h.ay
theorem dy.keep {w w':World} {o:Obj} {i:Nat} {c':List Value} {a:TypeId} (h:dy w w' o) (k:aM w i c' a):aM w' i c' a:=(h.nM i k.lt).trans k
def Cells (w:World) (p:Option Addr) (cs:List Value):Prop:=∀j v,cs[j]?=aa v->∃a,p=aa a/\w.cell? (a.add j)=aa v
theorem Cells.nil (w:World) (p:Option Addr):Cells w p []:=λj v h=>by simp at h
def Sl (w:World) (T:TypeId) (sz:Nat) (p:Option Addr) (n c:Nat) (cs:List Value):Prop:=
 cs.length=n*sz/\n<=c/\c<=maxLen/\match p with
  | none=>n=0/\c=0
  | some a=>∃cells:List Value,aM w a.block cells T/\a.spot=ah/\a.off+c*sz<=cells.length/\(cells.drop a.off).take (n*sz)=cs
def bf (p:Option Addr):Nat->Prop:=λi=>∃a,p=aa a/\i=a.block
section
variable {w w':World} {T:TypeId} {sz:Nat} {p:Option Addr} {n c:Nat} {cs:List Value}
theorem Sl.lt (h:Sl w T sz p n c cs):∀i,bf p i->i<w.heap.size:=by
 rintro i ⟨a,rfl,rfl⟩;obtain⟨_,_,_,cells,b,_⟩:=h;exact b.lt
theorem Sl.len (h:Sl w T sz p n c cs):cs.length=n*sz:=h.1
theorem Sl.nil (w:World) (T:TypeId) (sz:Nat):Sl w T sz ah 0 0 []:=⟨by simp,aX _,cB _,rfl,rfl⟩
theorem Sl.ak {F:Nat->Prop} (h:Sl w T sz p n c cs) (k:av F w w') (d:∀i,bf p i->¬F i):Sl w' T sz p n c cs:=by
 obtain⟨e,f,g,b⟩:=h;refine⟨e,f,g,?_⟩
 cases p with
 | none=>exact b
 | some a=>
  obtain⟨cells,j,r⟩:=b;exact⟨cells,j.ak k (d _ ⟨a,rfl,rfl⟩),r⟩
theorem Sl.cells (h:Sl w T sz p n c cs):Cells w p cs:=by
 intro j v e;obtain⟨k,q,r,f⟩:=h;have d:j<n*sz:=by rw[<-k];exact(dQ.1 e).1
 cases p with
 | none=>obtain⟨rfl,_⟩:=f;simp at d
 | some a=>
  obtain⟨cells,g,hs,m,i⟩:=f;obtain⟨b,o,sp⟩:=a;simp only at hs g m i;subst hs;refine⟨_,rfl,?_⟩;rw[add_lit,Af g];rw[<-i,iI,aj d,ik]at e;exact e
theorem Sl.new {cs:List Value} (h:dy w w' (.cells cs.toArray T (0,0))) (a:cs.length=n*sz) (b:n<=maxLen):Sl w' T sz (aa ⟨w.heap.size,0,ah⟩) n n cs:=
 ⟨a,aX _,b,cs,h.ay,rfl,by simp[a],by simp[<-a]⟩
theorem Sl.OM (h:Sl w T sz p n c cs) (k:Nat) (m:k<=n):Sl w T sz (gl p c k sz) (n-k) (c-k) (cs.drop (k*sz)):=by
 obtain⟨f,q,r,g⟩:=h;refine⟨by rw[lN,f,Nat.sub_mul],by omega,by omega,?_⟩;unfold gl
 cases p with
 | none=>
  obtain⟨rfl,rfl⟩:=g;have:(if 0=k then(ah:Option Addr)else Option.map (λ(x:Addr)=>x.add (k*sz)) ah)=ah:=by split<;>rfl
  rw[this]
  exact⟨by omega,by omega⟩
 | some a=>
  obtain⟨cells,d,hs,i,j⟩:=g;by_cases e:c=k
  ·rw[aj e];have:n=c:=by omega
   subst this;subst e;refine⟨cells,d,hs,?_,?_⟩
   ·simp;have:=i;omega
   ·simp[<-f]
  ·rw[af e];obtain⟨b,o,sp⟩:=a;simp only at hs d i j;subst hs;simp only[gK,add_lit];refine⟨cells,d,trivial,?_,?_⟩
   ·rw[Nat.sub_mul];have:k*sz<=c*sz:=fM _ (by omega);omega
   ·rw[<-j,List.drop_take,List.drop_drop,Nat.sub_mul]
theorem Uc (p:Option Addr) (m sz:Nat):gl p m 0 sz=p:=by
 unfold gl;split
 ·rfl
 ·cases p with
  | none=>rfl
  | some a=>simp[bP]
theorem Sl.takeN (h:Sl w T sz p n c cs) (k:Nat) (e:k<=n):Sl w T sz p k c (cs.take (k*sz)):=by
 obtain⟨f,o,g,d⟩:=h;have b:k*sz<=n*sz:=fM _ e;refine⟨by rw[eR,f];omega,by omega,g,?_⟩
 cases p with
 | none=>obtain⟨rfl,rfl⟩:=d;simp;omega
 | some a=>
  obtain⟨cells,i,hs,j,m⟩:=d;refine⟨cells,i,hs,j,?_⟩;rw[<-m,List.take_take,oi b]
theorem Pw {p:Option Addr} {m l sz:Nat}:∀i,bf (gl p m l sz) i->bf p i:=by
 rintro i ⟨a,d,rfl⟩;unfold gl at d;split at d
 ·exact⟨a,d,rfl⟩
 ·cases p with
  | none=>simp at d
  | some b=>
   simp only[gK,Option.some.injEq]at d;subst d;refine⟨b,rfl,?_⟩;unfold bP;split<;>rfl
end
structure eO (P:Program) (t e:TypeId) (sz bytes:Nat) (z:List Value):Prop where
 under:P.underlying t=aa (.slice e)
 info:(P.info? e).map (λi=>(i.zero.map (·.cells.toList),i.size,i.bytes))=aa (aa z,sz,bytes)
 zs:z.length=sz
 pos:0<sz
theorem amo (z:Array Value) (n:Nat):(xk z n).size=n*z.size:=by simp[xk]
theorem adR {P:Program} {t e:TypeId} {sz bytes:Nat} {z:List Value} (ht:eO P t e sz bytes z) {w:World} {p:Option Addr} {n c:Nat} {cs:List Value} (h:Sl w e sz p n c cs)
  {q:Option Addr} {m d:Nat} {news:List Value} (hq:Cells w q news) (x:news.length=m*sz) (h1:∀u∈news,u.oneCell'=ag) (hb:(n+m)*bytes<=140737488355328) (hn:n+m<=140737488355328) (ty:TypeId) :
  ∃p' n' c' w',(bR #[t,t] ty #[.slice p n c,.slice q m d]).run P w=.ok (.slice p' n' c') w'/\n'=n+m/\Sl w' e sz p' (n+m) c' (cs++news)/\av (bf p) w w'/\
   (∀i,bf p' i->bf p i∨w.heap.size<=i):=by
 obtain⟨K,D,X,L⟩:=ht;obtain⟨i,hi,M⟩:=lf.1 D;simp only[Prod.mk.injEq]at M;obtain⟨hz,Y,Z⟩:=M;obtain⟨zv,N,al⟩:=lf.1 hz;subst Y;subst Z;have A:n+m<=maxLen:=by unfold maxLen;omega
 obtain⟨J,l2,l3,U⟩:=id h;have f:(cs++news).length=(n+m)*i.size:=by rw[cG,J,x,la]
 by_cases hm:m=0
 ·
  subst hm;have E:news=[]:=lM (by simpa using x);subst E;refine⟨p,n,c,w,?_,rfl,by simpa using h,av.refl _ _,λi hi=>.inl hi⟩
  have hf:(um i.size 0 (.slice q 0 d)).run P w=.ok #[] w:=by
   cases q with
   | none=>simp[um]
   | some a=>simp[um,loadCells,loadCellsFrom]
  have F:n<=c:=l2
  cases p with
  | none=>
   obtain⟨rfl,rfl⟩:=U
   simp[bR,run_underlying K,sizeOf,typeInfo,hi,sZ,hf]
  | some a=>simp[bR,run_underlying K,sizeOf,typeInfo,hi,sZ,F,hf,storeCells]
 ·obtain⟨V,rfl⟩:∃a,q=aa a:=by
   have h0:0<news.length:=by rw[x];exact Nat.mul_pos (by omega) L
   obtain⟨a,g,_⟩:=hq 0 news[0] (by simp[h0]);exact⟨a,g⟩
  have G:∀j u,news[j]?=aa u->w.cell? (V.add j)=aa u:=by
   intro j u hj;obtain⟨a,g,hc⟩:=hq j u hj;obtain rfl:=Option.some.inj g;exact hc
  have grown:∀cap,n+m<=cap->cap<=maxLen->Sl (w.drew.alloc (.cells (cs.toArray++news.toArray++xk zv.cells (cap-(n+m))) e)) e i.size (aa ⟨w.heap.size,0,ah⟩) (n+m) cap (cs++news):=by
   intro cap O am;refine⟨f,O,am,cs++news++(xk zv.cells (cap-(n+m))).toList,?_,rfl,?_,?_⟩
   ·have e0:(cs++news++(xk zv.cells (cap-(n+m))).toList).toArray=cs.toArray++news.toArray++xk zv.cells (cap-(n+m)):=by simp
    unfold aM;rw[e0];exact Array.getElem?_push_size
   ·have:zv.cells.size=i.size:=by rw[<-X,<-al];simp
    simp only[cG,Array.length_toList,amo,this,J,x,eU];rw[<-la,<-la];refine bF ?_;congr 1;omega
   ·simp only[List.drop_zero];rw[<-f,List.take_left]
  have B:∀o,av (bf p) w (w.drew.alloc o):=λo=>⟨by simp,rfl,rfl,rfl,λk hk _=>heap_alloc_old w.drew o k hk⟩;by_cases hr:n+m<=c
  ·
   cases p with
   | none=>obtain⟨rfl,rfl⟩:=U;omega
   | some a=>
    obtain⟨cells,H,Q,C,R⟩:=U;obtain⟨b,o,sp⟩:=a;simp only at Q H C R;subst Q;have ap:=run_firstCells_some (P:=P) w i.size m V m d news x G
    have r:o+n*i.size+0+news.length<=cells.toArray.size:=by
     rw[x];simp only[List.size_toArray];have:(n+m)*i.size<=c*i.size:=fM _ hr;rw[la]at this;omega
    have S:=run_storeCells_at P b (o+n*i.size) e news 0 cells.toArray w H r h1;simp only[pF]at S;have hW:=Gd (w:=w) (b:=b) (c:=cells.toArray) (T:=e) H (bc cells (o+n*i.size) news);refine⟨aa ⟨b,o,ah⟩,n+m,c,_,?_,rfl,?_,hW.ak ⟨_,rfl,rfl⟩,λi hi=>.inl hi⟩
    ·simp[bR,run_underlying K,sizeOf,typeInfo,hi,sZ,hr,ap,Addr.add_lit,S,bc]
    ·refine⟨f,hr,l3,_,hW.ay,rfl,?_,?_⟩
     ·rw[za (by simpa using r)];exact C
     ·have bb:o+n*i.size<=cells.length:=by
       have:n*i.size<=c*i.size:=fM _ l2;omega
      unfold bc;rw[jP,List.drop_append,List.drop_take];have e1:o-(cells.take (o+n*i.size)).length=0:=by rw[eR];omega
      rw[e1,List.drop_zero,show o+n*i.size-o=n*i.size by omega,R,List.take_append,J];rw[rO (by rw[J,la];omega)];congr 1;rw[la,Nat.add_sub_cancel_left,<-x,List.take_left]
  ·
   have hg:=grownCap_ge w (n+m) c e;have I:=grownCap_le_maxLen w (n+m) c e A
   cases p with
   | none=>
    obtain⟨rfl,rfl⟩:=U;have az:cs=[]:=lM (by simpa using J);subst az;have s:=run_append_nil (P:=P) w t ty e i zv K hi N V m d news x G (by omega) (by omega) (by simp only[eU]at hb;omega);simp only[eU]at hg I A;refine⟨_,_,_,_,s,by simp,?_,B _,λi hi=>?_⟩
    ·have:=grown (grownCap w m 0 e) (by omega) I;simpa using this
    ·obtain⟨a,g,rfl⟩:=hi;simp only[Option.some.injEq]at g;subst g
     exact .inr (aX _)
   | some a=>
    have y:=h.cells
    have holds:∀j u,cs[j]?=aa u->w.cell? (a.add j)=aa u:=by
     intro j u hj;obtain⟨a',g,hc⟩:=y j u hj;obtain rfl:=Option.some.inj g;exact hc
    have s:=run_append_grow (P:=P) w t ty e i zv K hi N a n c cs J holds V m d news x G (by omega) (by omega) (growslice_fits (by omega) hb);refine⟨_,_,_,_,s,rfl,grown _ hg I,B _,λi hi=>?_⟩;obtain⟨a,g,rfl⟩:=hi;simp only[Option.some.injEq]at g;subst g;exact .inr (aX _)
theorem y8 {P:Program} {t e:TypeId} {sz bytes:Nat} {z:List Value} (b:eO P t e sz bytes z) {w:World} {p:Option Addr} {n c:Nat} {cs:List Value} (h:Sl w e sz p n c cs)
  {q:Option Addr} {m d:Nat} {news:List Value} (f:Cells w q news) (g:news.length=m*sz) (j:∀u∈news,u.oneCell'=ag) (k:q=ah->d=0) (o:(n+m)*bytes<=140737488355328) (r:n+m<=140737488355328) (ty:TypeId) :
  ∃p' a c' w',(bR #[t,t] ty #[.slice p n c,.slice q m d]).run P w=.ok (.slice p' a c') w'/\a=n+m/\Sl w' e sz p' (n+m) c' (cs++news)/\av (bf p) w w'/\
   (∀i,bf p' i->bf p i∨w.heap.size<=i):=adR b h f g j o r ty
theorem aP {x:Int} (h : -9223372036854775808<=x/\x<=9223372036854775807):aV .i64 x=x:=by
 unfold aV;simp only[lQ,kl,dR];split<;>simp_all<;>omega
theorem get_map {α:Type} {f:α->Value} {l:List α} {i:Nat} (h:i<l.length):(l.map f)[i]?=aa (f l[i]):=by simp[h]
theorem Cells.cv {w:World} {p:Option Addr} {α:Type} {f:α->Value} {l:List α} (h:Cells w p (l.map f)) {i:Nat} (hi:i<l.length):∃a,p=aa a/\w.cell? (a.add (i*1))=aa (f l[i]):=by
 rw[eX];exact h i _ (get_map hi)
theorem Cells.ak {w w':World} {p:Option Addr} {cs:List Value} (h:Cells w p cs) (k:∀a,p=aa a->w'.heap[a.block]?=w.heap[a.block]?):Cells w' p cs:=by
 intro j v d;obtain⟨a,b,e⟩:=h j v d;refine⟨a,b,?_⟩;rw[<-e];have f:(a.add j).block=a.block:=by unfold bP;split<;>rfl
 refine uu ?_;rw[f];exact k a b
theorem qH {w:World} {a:Addr} {v:Value} (h:w.cell? a=aa v):a.block<w.heap.size:=by
 unfold bJ at h;split at h
 ·exact tM (by assumption)
 ·cases h
theorem uj (a:Addr) (j:Nat):(a.add j).block=a.block:=by unfold bP;split<;>rfl
theorem Cells.nM {F:Nat->Prop} {w w':World} {p:Option Addr} {cs:List Value} (h:Cells w p cs) (k:av F w w') (e:∀i,i<w.heap.size->¬F i):Cells w' p cs:=by
 intro j v f;obtain⟨a,g,b⟩:=h j v f;refine⟨a,g,?_⟩;have d:=qH b;rw[<-b];exact uu (k.ay _ d (e _ d))
theorem Cells.no {w w':World} {p:Option Addr} {cs:List Value} (h:Cells w p cs) (k:av no w w'):Cells w' p cs:=h.nM k (λ_ _=>id)
theorem yi {α:Type} {f:α->List Value} {sz:Nat} (a:∀x,(f x).length=sz):∀{l:List α} {i j:Nat} {v:Value} (hi:i<l.length),(f l[i])[j]?=aa v->(l.flatMap f)[i*sz+j]?=aa v
 | x::l,0,j,v,_,h=>by
  have b:j<(f x).length:=(dQ.1 h).1;simp only[pC,Nat.zero_mul,eU];rw[kr b]
  exact h
 | x::l,i+1,j,v,hi,h=>by
  simp only[pC];rw[lP (by rw[a,la,s7];omega),a,la,s7,show i*sz+sz+j-sz=i*sz+j by omega];exact yi a (by simpa using hi) h
theorem Cells.qG {w:World} {p:Option Addr} {α:Type} {f:α->List Value} {l:List α} {sz:Nat} (h:Cells w p (l.flatMap f)) (b:∀x,(f x).length=sz) (hs:0<sz) {i:Nat} (hi:i<l.length) :
  ∃a,p=aa a/\∀(j:Nat) v,(f l[i])[j]?=aa v->w.cell? ((a.add (i*sz)).add j)=aa v:=by
 obtain⟨e,d⟩:∃v,(f l[i])[0]?=aa v:=⟨(f l[i])[0]'(by rw[b];exact hs),by simp[b,hs]⟩;obtain⟨a,rfl,_⟩:=h _ e (yi b hi d);refine⟨a,rfl,λj v g=>?_⟩;obtain⟨o,k,m⟩:=h _ v (yi b hi g);obtain rfl:=Option.some.inj k;rw[dX];exact m
structure Loc (W w:World) (T:TypeId) (p:Option Addr) (c:Nat) (l:List Int):Prop where
 U:av no W w
 S:Sl w T 1 p l.length c (l.map (aB .i64))
 F:∀i,bf p i->W.heap.size<=i
section
variable {W w w':World} {T:TypeId} {p:Option Addr} {c:Nat} {l:List Int}
theorem Loc.nil (h:av no W w) (T:TypeId):Loc W w T ah 0 []:=⟨h,Sl.nil _ _ _,λi ⟨a,b,_⟩=>by cases b⟩
theorem Loc.ak (h:Loc W w T p c l) (k:av no w w'):Loc W w' T p c l:=⟨h.U.trans k (λ_ _ h=>h),h.S.ak k (λ_ _ h=>h),h.F⟩
theorem LN {P:Program} {t e:TypeId} {z:List Value} (k:eO P t e 1 8 z) {w w1:World} {p:Option Addr} {c:Nat} {l:List Int} {x:Int} (h:Sl w e 1 p l.length c (l.map (aB .i64))) (y:l.length<=1048576)
  {T:TypeId} (b:dy w w1 (.cells (dK [aB .i64 x]) T (0,0))) (ty:TypeId) :
  ∃p' f c' a,(bR #[t,t] ty #[.slice p l.length c,.slice (aa ⟨w.heap.size,0,ah⟩) 1 1]).run P w1=.ok (.slice p' f c') a/\f=(l++[x]).length/\
   Sl a e 1 p' (l++[x]).length c' ((l++[x]).map (aB .i64))/\av (bf p) w a/\(∀i,bf p' i->bf p i∨w.heap.size<=i):=by
 have o:Sl w1 e 1 p l.length c (l.map (aB .i64)):=h.ak (b.ak no) (λ_ _ g=>g);have j:Sl w1 T 1 (aa ⟨w.heap.size,0,ah⟩) 1 1 [.int .i64 x]:=Sl.new b (by simp) (by unfold maxLen;omega);obtain⟨p',f,c',a,q,g,r,s,u⟩:=y8 k o j.cells (m:=1) (d:=1) (by simp) (by simp[Value.oneCell']) (by simp) (by omega) (by omega) ty;refine⟨p',f,c',a,q,by simp[g],by simpa using r,(b.ak _).trans s (λi _ hi=>hi),λi hi=>(u i hi).imp id (λh=>?_)⟩;rw[b.size]at h;omega
theorem Loc.push {P:Program} {t:TypeId} {z:List Value} (h:Loc W w T p c l) (b:eO P t T 1 8 z) (d:l.length<=1048576) {x:Int} {w1:World} {e:TypeId} (f:dy w w1 (.cells (dK [aB .i64 x]) e (0,0))) (ty:TypeId) :
  ∃p' c' a,(bR #[t,t] ty #[.slice p l.length c,.slice (aa ⟨w.heap.size,0,ah⟩) 1 1]).run P w1=.ok (.slice p' (l++[x]).length c') a/\Loc W a T p' c' (l++[x]):=by
 obtain⟨p',s,c',a,g,j,m,o,q⟩:=LN b h.S d f ty;subst j;refine⟨p',c',a,g,h.U.trans o (λi hi r=>absurd (h.F i r) (by omega)),m,λi hi=>?_⟩;rcases q i hi with k|k
 ·exact h.F i k
 ·exact aW h.U.size k
end
abbrev BV:=BitVec 64
def mi (m:BV):Int:=(m.toNat:Int)
def bt (c:Int):BV:=if 0<=c/\c<64 then BitVec.twoPow 64 c.toNat else 0
def hs (m:BV) (c:Int):Bool:=decide (0<=c/\c<64)&&m.getLsbD c.toNat
def wi (m:BV) (c:Int):BV:=m||| bt c
def ls (m:BV) (c:Int):BV:=m&&& ~~~ bt c
theorem abi (m:BV):0<=mi m:=by unfold mi;omega
theorem abh (m:BV):mi m<18446744073709551616:=by unfold mi;have:=m.isLt;omega
theorem Sh {a b:BV}:mi a=mi b↔a=b:=by
 unfold mi;rw[Int.ofNat_inj];exact BitVec.toNat_inj
theorem abg (a b:BV):(mi a==mi b)=(a==b):=by
 rw[ig];simp[Sh]
theorem abj:mi 0=0:=rfl
theorem l9 (a:BV):(mi a==0)=(a==0):=by rw[<-abj,abg]
theorem wv (a:BV):(mi a !=0) = !(a==0):=by rw[bne,l9]
theorem of_wf {n:Int} (h:(Lit.int .u64 n).wf=ag):∃m:BV,n=mi m:=by
 have:0<=n/\n<=18446744073709551615:=by simpa [Lit.wf,IntKind.min,pG,kl,lQ]using h
 refine⟨ib 64 n,?_⟩;unfold mi;rw[BitVec.toNat_ofInt];omega
theorem BO {x:Int} (h:0<=x/\x<=18446744073709551615):aV .u64 x=x:=by
 have e:(2 ^ jo.bits:Int)=18446744073709551616:=by decide
 unfold aV;simp only[e,kl,js];simp;omega
theorem U4 (x:Int):aV .u64 x=x%18446744073709551616:=by
 have e:(2 ^ jo.bits:Int)=18446744073709551616:=by decide
 unfold aV;simp only[e,kl,js];simp
theorem uU (m:BV):ib 64 (mi m)=m:=by
 unfold mi;apply xv;rw[BitVec.toNat_ofInt];have:=m.isLt;omega
theorem FY (m:BV):aV .u64 (m.toNat:Int)=mi m:=by
 rw[BO (by have:=m.isLt;omega)];rfl
theorem xE (a b:BV):aH .and .u64 (mi a) (mi b)=mi (a&&& b):=by
 show aV .u64 ((ib 64 (mi a)&&& ib 64 (mi b)).toNat:Int)=_;rw[uU,uU,FY]
theorem L2 (a b:BV):aH .or .u64 (mi a) (mi b)=mi (a||| b):=by
 show aV .u64 ((ib 64 (mi a)||| ib 64 (mi b)).toNat:Int)=_;rw[uU,uU,FY]
theorem zX (a b:BV):aH .andNot .u64 (mi a) (mi b)=mi (a&&& ~~~ b):=by
 show aV .u64 ((ib 64 (mi a)&&& ~~~ ib 64 (mi b)).toNat:Int)=_;rw[uU,uU,FY]
theorem VY (a b:BV):aH .xor .u64 (mi a) (mi b)=mi (a ^^^ b):=by
 show aV .u64 ((ib 64 (mi a) ^^^ ib 64 (mi b)).toNat:Int)=_;rw[uU,uU,FY]
theorem GB {c:Int} (h:0<=c/\c<64):bt c=BitVec.twoPow 64 c.toNat:=aj h
theorem GC {c:Int} (h:¬(0<=c/\c<64)):bt c=0:=af h
theorem Sg {c:Int} (h:0<=c/\c<64):mi (bt c)=2 ^ c.toNat:=by
 have a:(2:Nat) ^ c.toNat<2 ^ 64:=Nat.pow_lt_pow_right (by omega) (by omega);rw[GB h,mi,BitVec.toNat_twoPow,jr a];simp
theorem Kc {c:Int} (h:0<=c/\c<64):fB .u64 1 c=mi (bt c):=by
 have a:(2:Nat) ^ c.toNat<2 ^ 64:=Nat.pow_lt_pow_right (by omega) (by omega);rw[Sg h];unfold fB;have:min c.toNat jo.bits=c.toNat:=oi (by show c.toNat<=64;omega);rw[this,Int.one_mul,BO];have e:((2:Int) ^ c.toNat)=((2 ^ c.toNat:Nat):Int):=by simp
 rw[e];generalize 2 ^ c.toNat=x at a;omega
theorem Y4 {c:Int} (h:0<=c/\c<64) (i:Nat):(bt c).getLsbD i=decide (i=c.toNat):=by
 rw[GB h,BitVec.getLsbD_twoPow];by_cases hi:i=c.toNat
 ·subst hi;simp;omega
 ·simp[hi,eq_comm]
theorem sa {a b:BV} (h:∀c:Int,0<=c->c<64->hs a c=hs b c):a=b:=by
 apply BitVec.eq_of_getLsbD_eq;intro i hi;have:=h i (by omega) (by omega);have hd:decide (0<=(i:Int)/\(i:Int)<64)=ag:=decide_eq_true ⟨by omega,by omega⟩;unfold hs at this;rw[hd]at this;simpa using this
theorem jV {m:BV} {c:Int} (h:hs m c=ag):0<=c/\c<64:=by
 unfold hs at h;rw[aY,decide_eq_true_iff]at h;exact h.1
theorem je (c:Int):hs 0 c=ae:=by unfold hs;simp
theorem v8 (a b:BV) (c:Int):hs (a&&& b) c=(hs a c&&hs b c):=by
 unfold hs;rw[BitVec.getLsbD_and];cases decide (0<=c/\c<64)<;>simp
theorem DW (a b:BV) (c:Int):hs (a||| b) c=(hs a c||hs b c):=by
 unfold hs;rw[BitVec.getLsbD_or];cases decide (0<=c/\c<64)<;>simp
theorem oS (a b:BV) (c:Int):hs (a&&& ~~~ b) c=(hs a c&&!hs b c):=by
 unfold hs;rw[BitVec.getLsbD_and,BitVec.getLsbD_not];by_cases h:0<=c/\c<64
 ·have:c.toNat<64:=by omega
  simp[h,this]
 ·simp[h]
theorem wa (c d:Int):hs (bt c) d=(decide (0<=c/\c<64)&&decide (d=c)):=by
 by_cases h:0<=c/\c<64
 ·unfold hs;rw[Y4 h,ig];simp only[aY,decide_eq_true_iff];omega
 ·rw[GC h,je];simp[h]
theorem oT (m:BV) (c d:Int):hs (wi m c) d=(hs m d||(decide (0<=c/\c<64)&&decide (d=c))):=by rw[wi,DW,wa]
theorem iM (m:BV) (c d:Int):hs (ls m c) d=(hs m d&&!(decide (d=c))):=by
 rw[ls,oS,wa];by_cases hd:d=c
 ·subst hd;by_cases h:0<=d/\d<64
  ·simp[h]
  ·have:hs m d=ae:=by unfold hs;simp[h]
   simp[this]
 ·simp[hd]
theorem Ij {m:BV} (h:∀c,hs m c=ae):m=0:=sa λc _ _=>by rw[h,je]
theorem LL (m:BV) (c:Int):(!((m&&& bt c)==0))=hs m c:=by
 cases a:hs m c with
 | true=>
  have:m&&& bt c≠0:=λe=>by
   have b:hs (m&&& bt c) c=ag:=by rw[v8,wa,a];simp[jV a]
   rw[e,je]at b;cases b
  rw[beq_false_of_ne this]
  rfl
 | false=>
  have:m&&& bt c=0:=Ij λd=>by
   rw[v8,wa];by_cases hd:d=c
   ·subst hd;simp[a]
   ·simp[hd]
  rw[this];rfl
def tO (l:List Int):BV:=l.foldl wi 0
theorem ZA (l:List Int) (m:BV) (c:Int):hs (l.foldl wi m) c=(hs m c||(decide (0<=c/\c<64)&&decide (c∈l))):=by
 induction l generalizing m with
 | nil=>simp
 | cons x l a=>
  rw[nm,a,oT];by_cases h:c=x
  ·subst h;cases hs m c<;>cases decide (0<=c/\c<64)<;>simp
  ·simp[h]
theorem ZB (l:List Int) (c:Int):hs (tO l) c=(decide (0<=c/\c<64)&&decide (c∈l)):=by rw[tO,ZA,je];simp
def bI (p:Int->Bool) (n:Nat):List Int:=((bU n).map (λ(i:Nat)=>(i:Int))).filter p
theorem wK (p:Int->Bool) (n:Nat):bI p (n+1)=if p n then bI p n++[(n:Int)]else bI p n:=by
 unfold bI;rw[nq,eI,td];cases h:p n<;>simp[h]
theorem fF {p:Int->Bool} {n:Nat} {c:Int}:c∈bI p n↔0<=c/\c<n/\p c=ag:=by
 unfold bI;rw[ij,ck];constructor
 ·rintro⟨⟨a,d,rfl⟩,b⟩;rw[cD]at d;exact⟨by omega,by omega,b⟩
 ·rintro⟨h1,e,b⟩;exact⟨⟨c.toNat,cD.2 (by omega),by omega⟩,b⟩
theorem vg (p:Int->Bool) (n:Nat):(bI p n).length<=n:=by
 unfold bI;exact aW (jN ..) (by simp)
theorem ZC {m:BV} {c:Int} (h:¬(0<=c/\c<64)):hs m c=ae:=by unfold hs;simp[h]
def br (n:Int):BV:=BitVec.ofNat 64 (2 ^ (min n.toNat 64)-1)
theorem uL (n c:Int):hs (br n) c=(decide (0<=c/\c<64)&&decide (c<n)):=by
 unfold hs br;rw[BitVec.getLsbD_ofNat,Nat.testBit_two_pow_sub_one];by_cases h:0<=c/\c<64
 ·have:c.toNat<64:=by omega
  simp only[h,this,and_self,decide_true,dR];rw[ig];simp only[decide_eq_true_iff];omega
 ·simp[h]
theorem Jr (n:Int):mi (br n)=2 ^ (min n.toNat 64)-1:=by
 have a:0<(2:Nat) ^ (min n.toNat 64):=Nat.pow_pos (by omega);have b:(2:Nat) ^ (min n.toNat 64)<=2 ^ 64:=Nat.pow_le_pow_right (by omega) (by omega);have e:((2:Int) ^ (min n.toNat 64))=((2 ^ (min n.toNat 64):Nat):Int):=by simp
 unfold mi br;rw[oc,e];generalize (2:Nat) ^ (min n.toNat 64)=x at *;rw[jr (by omega)];omega
def mW (n:Int) (m:BV):Bool:=!(m==0)&&((m&&& ~~~ br n)==0)
def dH (x:Int×Int×Int):List Value:=[.int .i64 x.1,.int .i64 x.2.1,.int .i64 x.2.2]
theorem qb (x:Int×Int×Int):(dH x).length=3:=rfl
def recIIIUI (x:Int×Int×Int×BV×Int):List Value:=[.int .i64 x.1,.int .i64 x.2.1,.int .i64 x.2.2.1,.int .u64 (mi x.2.2.2.1),.int .i64 x.2.2.2.2]
def okIIIUI (x:Int×Int×Int×BV×Int):Prop:=(Lit.int .i64 x.1).wf=ag/\(Lit.int .i64 x.2.1).wf=ag/\(Lit.int .i64 x.2.2.1).wf=ag/\(Lit.int .i64 x.2.2.2.2).wf=ag
theorem recIIIUI_len (x:Int×Int×Int×BV×Int):(recIIIUI x).length=5:=rfl
theorem Ie:eO Tryz.prog 36 3 1 8 [I 0]:=⟨by kernel_rfl,by kernel_rfl,rfl,by omega⟩
theorem En (c:Int) (w:World):Cx 60 #[I c] w λe w'=>e=Z (.int .u64 (mi (bt c)))/\w'=w:=by
 refine u60 ?_;refine⟨λa=>⟨λb=>⟨?_,rfl⟩,λb=>⟨by simpa using a,?_,rfl⟩⟩,λa=>⟨?_,rfl⟩⟩
 ·rw[GC (by simp at b;omega)];rfl
 ·rw[Kc (by simp at a b;omega)]
 ·rw[GC (by simp at a;omega)];rfl
theorem l7 (m:BV) (c:Int) (w:World):Cx 23 #[.int .u64 (mi m),I c] w λe w'=>e=Z (.bool (hs m c))/\w'=w:=by
 refine u23 ?_;refine⟨(En c w).mono ?_⟩;rintro e w' ⟨rfl,rfl⟩;exact⟨_,rfl,by rw[xE,wv,LL],rfl⟩
theorem aa8 (m o:BV) (w:World):Cx 353 #[.int .u64 (mi m),.int .u64 (mi o)] w λe w'=>e=Z (.int .u64 (mi (m&&& ~~~ o)))/\w'=w:=by
 refine akS ?_;rw[zX];exact⟨rfl,rfl⟩
theorem El (m o:BV) (w:World):Cx 318 #[.int .u64 (mi m),.int .u64 (mi o)] w λe w'=>e=Z (.int .u64 (mi (m&&& o)))/\w'=w:=by
 refine akr ?_;rw[xE];exact⟨rfl,rfl⟩
theorem Em (m:BV) (c:Int) (w:World):Cx 158 #[.int .u64 (mi m),I c] w λe w'=>e=Z (.int .u64 (mi (ls m c)))/\w'=w:=by
 refine ah1 ?_;refine⟨(En c w).mono ?_⟩;rintro e w' ⟨rfl,rfl⟩;exact⟨_,rfl,by rw[zX,ls],rfl⟩
theorem YT {l:List Int} {i:Nat} (h:i<l.length) (m:BV):(l.take (i+1)).foldl wi m=wi ((l.take i).foldl wi m) l[i]:=by
 rw[eW h,mH];rfl
theorem qW (m:BV) {w:World} {p:Option Addr} {l:List Int} {c:Nat} (h:Cells w p (l.map (aB .i64))) (g:l.length<=140737488355328) :
  Cx 179 #[.int .u64 (mi m),.slice p l.length c] w λe w'=>e=Z (.int .u64 (mi (l.foldl wi m)))/\w'=w:=by
 refine aij ?_;refine⟨bO bu (M:=B2) (σ:=Nat) (λi=>Ht (mi ((l.take i).foldl wi m)) p l.length c l.length i) (λi w'=>i<=l.length/\w'=w) (λi _=>l.length-i) 0 ⟨rfl,rfl,rfl,rfl,trivial⟩ ⟨by omega,rfl⟩ ?_⟩;rintro i w' ⟨j,rfl⟩;rw[ae6];refine⟨λb=>?_,λd=>⟨?_,rfl⟩⟩
 ·have hi:i<l.length:=by simpa using b
  obtain⟨a,rfl,f⟩:=h.cv hi;refine⟨⟨by omega,by omega⟩,a,rfl,l[i],by simpa using f,⟨(En _ w').mono ?_⟩⟩;rintro e w' ⟨rfl,rfl⟩;exact⟨_,rfl,i+1,⟨by rw[YT hi,L2,wi];rfl,rfl,rfl,by rw[aP (by omega)];rfl,trivial⟩,⟨by omega,rfl⟩,by omega⟩
 ·have:i=l.length:=by simp at d;omega
  subst this;rw[dC]
theorem uP (n:Int) (w:World):Cx 11 #[I n] w λe w'=>e=Z (.int .u64 (mi (br n)))/\w'=w:=by
 refine u11 ?_;refine⟨λa=>⟨?_,rfl⟩,λa=>⟨λb=>⟨?_,rfl⟩,λb=>⟨(En n w).mono ?_⟩⟩⟩
 ·have a:n<=0:=by simpa using a
  rw[Jr,show min n.toNat 64=0 by omega];rfl
 ·have b:64<=n:=by simpa using b
  rw[Jr,show min n.toNat 64=64 by omega];rfl
 ·have a:¬n<=0:=by simpa using a
  have b:¬64<=n:=by simpa using b
  rintro e w' ⟨rfl,rfl⟩;refine⟨_,rfl,?_,rfl⟩;have:=abi (br n);have:=abh (br n);have c:mi (bt n)-1=mi (br n):=by rw[Sg (by omega),Jr,show min n.toNat 64=n.toNat by omega]
  rw[c,BO (by omega)]
theorem AX (m o:BV) (w:World):Cx 277 #[.int .u64 (mi m),.int .u64 (mi o)] w λe w'=>e=Z (.bool ((m&&& ~~~ o)==0))/\w'=w:=by
 refine ajO ?_;rw[zX,l9];exact⟨rfl,rfl⟩
abbrev Fp:=Nat->Prop
abbrev Ob (σ:Type):=World->Fp->σ->Prop
class Frame {σ:Type} (A:Ob σ):Prop where
 ak:∀{w w':World} {F G:Fp} {s:σ},A w F s->av G w w'->(∀i,F i->¬G i)->A w' F s
 lt:∀{w:World} {F:Fp} {s:σ},A w F s->∀i,F i->i<w.heap.size
def ai {σ:Type} (A:Ob σ) (w w':World) (F:Fp) (s':σ):Prop:=∃a,A w' a s'/\av F w w'/\∀i,a i->F i∨w.heap.size<=i
def cj {σ:Type} (W w:World) (A:Ob σ) (s:σ):Prop:=∃F,A w F s/\av no W w/\∀i,F i->W.heap.size<=i
def aF {σ τ:Type} (A:Ob σ) (B:Ob τ):Ob (σ×τ):=λw F x=>∃F1 F2,A w F1 x.1/\B w F2 x.2/\(∀i,F i↔F1 i∨F2 i)/\∀i,F1 i->¬F2 i
instance Frame.star {σ τ:Type} {A:Ob σ} {B:Ob τ} [fa:Frame A] [e:Frame B]:Frame (aF A B) where
 ak:=by
  rintro w w' F G s ⟨F1,F2,c,d,a,f⟩ k g;exact⟨F1,F2,fa.ak c k (λi hi=>g i ((a i).2 (.inl hi))),e.ak d k (λi hi=>g i ((a i).2 (.inr hi))),a,f⟩
 lt:=by
  rintro w F s ⟨F1,F2,c,d,a,f⟩ i hi;rcases(a i).1 hi with hi|hi
  ·exact fa.lt c i hi
  ·exact e.lt d i hi
section
variable {σ τ:Type} {A:Ob σ} {B:Ob τ} {W w w':World} {F:Fp} {s s':σ} {t:τ}
theorem ai.same (h:A w F s):ai A w w F s:=⟨F,h,av.refl _ _,λ_ hi=>.inl hi⟩
theorem ai.quiet [fa:Frame A] (h:A w F s) (k:av no w w'):ai A w w' F s:=⟨F,fa.ak h k (λ_ _ h=>h),k.mono (λ_ _ h=>h.elim),λ_ hi=>.inl hi⟩
theorem aF.left [d:Frame B] {x:σ×τ} (h:aF A B w F x):∃F1,A w F1 x.1/\∀w' s',ai A w w' F1 s'->ai (aF A B) w w' F (s',x.2):=by
 obtain⟨F1,F2,k,e,c,f⟩:=h;refine⟨F1,k,?_⟩;rintro w' s' ⟨g,l,k2,j⟩;refine⟨λi=>g i∨F2 i,⟨g,F2,l,d.ak e k2 (λi hi a=>f i a hi),λ_=>bp,λi hi a=>?_⟩,k2.mono (λi _ hi=>(c i).2 (.inl hi)),λi hi=>?_⟩
 ·rcases j i hi with h|h
  ·exact f i h a
  ·have:=d.lt e i a;omega
 ·rcases hi with hi|hi
  ·exact(j i hi).imp (λh=>(c i).2 (.inl h)) id
  ·exact .inl ((c i).2 (.inr hi))
theorem aF.swap {x:σ×τ} (h:aF A B w F x):aF B A w F (x.2,x.1):=by
 obtain⟨F1,F2,a,c,d,e⟩:=h;exact⟨F2,F1,c,a,λi=>(d i).trans Or.comm,λi hi f=>e i f hi⟩
theorem ai.swap {x:σ×τ} (h:ai (aF A B) w w' F x):ai (aF B A) w w' F (x.2,x.1):=by
 obtain⟨a,c,d⟩:=h;exact⟨a,c.swap,d⟩
theorem aF.right [fa:Frame A] {x:σ×τ} (h:aF A B w F x):∃F2,B w F2 x.2/\∀w' t',ai B w w' F2 t'->ai (aF A B) w w' F (x.1,t'):=by
 obtain⟨F2,a,c⟩:=h.swap.left;exact⟨F2,a,λw' t' k=>(c w' t' k).swap⟩
theorem cj.db (h:cj W w A s):∃F,A w F s/\∀w' s',ai A w w' F s'->cj W w' A s':=by
 obtain⟨F,d,a,c⟩:=h;refine⟨F,d,?_⟩;rintro w' s' ⟨e,f,k2,g⟩;refine⟨e,f,a.trans k2 (λi hi j=>absurd (c i j) (by omega)),λi hi=>?_⟩;rcases g i hi with h|h
 ·exact c i h
 ·exact aW a.size h
theorem cj.ak [fa:Frame A] (h:cj W w A s) (k:av no w w'):cj W w' A s:=by
 obtain⟨F,a,c⟩:=h.db;exact c _ _ (ai.quiet a k)
theorem cj.left [e:Frame B] {x:σ×τ} (h:cj W w (aF A B) x):∃F1,A w F1 x.1/\∀w' s',ai A w w' F1 s'->cj W w' (aF A B) (s',x.2):=by
 obtain⟨F,a,c⟩:=h.db;obtain⟨F1,d,k2⟩:=a.left;exact⟨F1,d,λw' s' k=>c _ _ (k2 w' s' k)⟩
theorem cj.right [fa:Frame A] {x:σ×τ} (h:cj W w (aF A B) x):∃F2,B w F2 x.2/\∀w' t',ai B w w' F2 t'->cj W w' (aF A B) (x.1,t'):=by
 obtain⟨F,a,c⟩:=h.db;obtain⟨F1,d,k2⟩:=a.right;exact⟨F1,d,λw' s' k=>c _ _ (k2 w' s' k)⟩
section
variable {F0:Fp}
theorem ai.db (h:ai A W w F0 s):∃F,A w F s/\∀w' s',ai A w w' F s'->ai A W w' F0 s':=by
 obtain⟨F,d,a,c⟩:=h;refine⟨F,d,?_⟩;rintro w' s' ⟨e,f,k2,g⟩;refine⟨e,f,a.trans k2 (λi hi j=>(c i j).elim id (λh=>absurd h (by omega))),λi hi=>?_⟩;rcases g i hi with h|h
 ·exact c i h
 ·exact .inr (aW a.size h)
theorem ai.ak [fa:Frame A] (h:ai A W w F0 s) (k:av no w w'):ai A W w' F0 s:=by
 obtain⟨F,a,c⟩:=h.db;exact c _ _ (ai.quiet a k)
theorem ai.left [e:Frame B] {x:σ×τ} (h:ai (aF A B) W w F0 x):∃F1,A w F1 x.1/\∀w' s',ai A w w' F1 s'->ai (aF A B) W w' F0 (s',x.2):=by
 obtain⟨F,a,c⟩:=h.db;obtain⟨F1,d,k2⟩:=a.left;exact⟨F1,d,λw' s' k=>c _ _ (k2 w' s' k)⟩
theorem ai.right [fa:Frame A] {x:σ×τ} (h:ai (aF A B) W w F0 x):∃F2,B w F2 x.2/\∀w' t',ai B w w' F2 t'->ai (aF A B) W w' F0 (x.1,t'):=by
 obtain⟨F,a,c⟩:=h.db;obtain⟨F1,d,k2⟩:=a.right;exact⟨F1,d,λw' s' k=>c _ _ (k2 w' s' k)⟩
theorem ai.ll {υ:Type} {C:Ob υ} [Frame B] [Frame C] {x:(σ×τ)×υ} (h:ai (aF (aF A B) C) W w F0 x) [Frame A]:∃F1,A w F1 x.1.1/\∀w' s',ai A w w' F1 s'->ai (aF (aF A B) C) W w' F0 ((s',x.1.2),x.2):=by
 obtain⟨F,a,c⟩:=h.left;obtain⟨F1,d,k2⟩:=a.left;exact⟨F1,d,λw' s' k=>c _ _ (k2 w' s' k)⟩
theorem ai.lr {υ:Type} {C:Ob υ} [Frame A] [Frame B] [Frame C] {x:(σ×τ)×υ} (h:ai (aF (aF A B) C) W w F0 x):∃F1,B w F1 x.1.2/\∀w' t',ai B w w' F1 t'->ai (aF (aF A B) C) W w' F0 ((x.1.1,t'),x.2):=by
 obtain⟨F,a,c⟩:=h.left;obtain⟨F1,d,k2⟩:=a.right;exact⟨F1,d,λw' s' k=>c _ _ (k2 w' s' k)⟩
theorem ai.drop {x:σ×τ} (h:ai (aF A B) W w F0 x):ai A W w F0 x.1:=by
 obtain⟨F,⟨F1,F2,a,e,c,f⟩,d,k2⟩:=h;exact⟨F1,a,d,λi hi=>k2 i ((c i).2 (.inl hi))⟩
theorem ai.add [fa:Frame A] (h:ai A W w F0 s) (k:av no w w') {G:Fp} (hB:B w' G t) (a:∀i,G i->w.heap.size<=i):ai (aF A B) W w' F0 (s,t):=by
 obtain⟨F,c,d,e⟩:=h;refine⟨λi=>F i∨G i,⟨F,G,fa.ak c k (λ_ _ h=>h),hB,λ_=>bp,λi hi f=>?_⟩,d.trans k (λ_ _ h=>h.elim),λi hi=>?_⟩
 ·have:=fa.lt c i hi;have:=a i f;omega
 ·rcases hi with hi|hi
  ·exact e i hi
  ·exact .inr (aW d.size (a i hi))
end
theorem cj.new (h:av no W w) (k:av no w w') {G:Fp} (hB:B w' G t) (a:∀i,G i->w.heap.size<=i):cj W w' B t:=
 ⟨G,hB,h.trans k (λ_ _ h=>h),λi hi=>aW h.size (a i hi)⟩
theorem cj.add [fa:Frame A] (h:cj W w A s) (k:av no w w') {G:Fp} (hB:B w' G t) (a:∀i,G i->w.heap.size<=i):cj W w' (aF A B) (s,t):=by
 obtain⟨F,c,d,e⟩:=h;refine⟨λi=>F i∨G i,⟨F,G,fa.ak c k (λ_ _ h=>h),hB,λ_=>bp,λi hi f=>?_⟩,d.trans k (λ_ _ h=>h),λi hi=>?_⟩
 ·have:=fa.lt c i hi;have:=a i f;omega
 ·rcases hi with hi|hi
  ·exact e i hi
  ·exact aW d.size (a i hi)
end
def Rw {σ:Type} (b:Nat) (T:TypeId) (enc:σ->List Value):Ob σ:=λw F s=>(∀i,F i↔i=b)/\aM w b (enc s) T
instance Frame.rw {σ:Type} (b:Nat) (T:TypeId) (enc:σ->List Value):Frame (Rw b T enc) where
 ak:=λ⟨h1,a⟩ k c=>⟨h1,a.ak k (c _ ((h1 _).2 rfl))⟩
 lt:=λ⟨h1,a⟩ i hi=>(h1 i).1 hi ▸ a.lt
section
variable {σ:Type} {b:Nat} {T:TypeId} {enc:σ->List Value} {w w':World} {F:Fp} {s s':σ}
theorem Rw.ay (h:Rw b T enc w F s):aM w b (enc s) T:=h.2
theorem Rw.new {c:List Value} (h:dy w w' (.cells c.toArray T (0,0))) (a:enc s=c):Rw w.heap.size T enc w' (λi=>i=w.heap.size) s:=⟨λ_=>bp,a ▸ h.aK⟩
theorem Rw.gD (h:Rw b T enc w F s) (k:av (λi=>i=b) w w') (a:aM w' b (enc s') T):ai (Rw b T enc) w w' F s':=
 ⟨F,⟨h.1,a⟩,k.mono (λi _ hi=>(h.1 i).2 hi),λ_ hi=>.inl hi⟩
theorem mC.U {w w':World} {b:Nat} {c:List Value} {T:TypeId} (h:mC w w' b c T):av (λi=>i=b) w w':=h.ak rfl
theorem av.and {F:Fp} {w w1 a:World} (h:av F w w1) (k:av F w1 a):av F w a:=h.trans k (λ_ _ h=>h)
end
def Ls (T:TypeId):Ob (Option Addr×Nat×List Int):=λw F x=>(∀i,F i↔bf x.1 i)/\Sl w T 1 x.1 x.2.2.length x.2.1 (x.2.2.map (aB .i64))
instance Frame.ls (T:TypeId):Frame (Ls T) where
 ak:=λ⟨h1,a⟩ k c=>⟨h1,a.ak k (λi hi=>c i ((h1 i).2 hi))⟩
 lt:=λ⟨h1,a⟩ i hi=>a.lt i ((h1 i).1 hi)
theorem Ls.nil (w:World) (T:TypeId):Ls T w (λ_=>False) (ah,0,[]):=⟨λi=>⟨λh=>h.elim,λ⟨a,c,_⟩=>by cases c⟩,Sl.nil _ _ _⟩
theorem Ls.push {P:Program} {t T d:TypeId} {z:List Value} (e:eO P t T 1 8 z) {w w1:World} {F:Fp} {p:Option Addr} {c:Nat} {l:List Int} {x:Int} (h:Ls T w F (p,c,l)) (f:l.length<=1048576)
  (g:dy w w1 (.cells (dK [aB .i64 x]) d (0,0))) (ty:TypeId) :
  ∃p' c' a,(bR #[t,t] ty #[.slice p l.length c,.slice (aa ⟨w.heap.size,0,ah⟩) 1 1]).run P w1=.ok (.slice p' (l++[x]).length c') a/\ai (Ls T) w a F (p',c',l++[x]):=by
 obtain⟨p',r,c',a,j,m,n,o,q⟩:=LN e h.2 f g ty;subst m;exact⟨p',c',a,j,bf p',⟨λ_=>bp,n⟩,o.mono (λi _ hi=>(h.1 i).2 hi),λi hi=>(q i hi).imp (λk=>(h.1 i).2 k) id⟩
theorem Sl.wr {w:World} {T:TypeId} {sz n c:Nat} {a:Addr} {cs vs:List Value} {o:Nat} (h:Sl w T sz (aa a) n c cs) (x:o+vs.length<=n*sz) {K:World->Prop}
  (p:∀w',Sl w' T sz (aa a) n c (bc cs o vs)->av (bf (aa a)) w w'->K w'):Wr w (a.add o) vs K:=by
 obtain⟨g,i,q,cells,k,e,d,f⟩:=h;obtain⟨b,off,sp⟩:=a;simp only at e k d f;subst e;have r:n*sz<=c*sz:=fM _ i;rw[add_lit];refine⟨⟨cells,T,k,rfl,by show off+o+vs.length<=cells.length;omega,λw' l=>p w' ?_ (l.ak ⟨_,rfl,rfl⟩)⟩⟩;have u:(bc cells (off+o) vs).length=cells.length:=za (by omega);refine⟨by rw[za (by omega),g],i,q,_,l.ay,rfl,by rw[u];exact d,?_⟩;subst f;have m:((cells.drop off).take (n*sz)).length=n*sz:=g;apply de;intro j;unfold bc;simp only[iI,ik,od,cG,eR,lN]
 grind
def Hd {σ:Type} (b:Nat) (T E:TypeId) (sz:Nat) (enc:σ->Option Addr->Nat->List Value) (len:σ->Nat) (cont:σ->List Value):Ob (σ×Option Addr×Nat):=λw F x=>
 aM w b (enc x.1 x.2.1 x.2.2) T/\Sl w E sz x.2.1 (len x.1) x.2.2 (cont x.1)/\¬bf x.2.1 b/\∀i,F i↔i=b∨bf x.2.1 i
instance Frame.hd {σ:Type} (b:Nat) (T E:TypeId) (sz:Nat) (enc:σ->Option Addr->Nat->List Value) (len:σ->Nat) (cont:σ->List Value):Frame (Hd b T E sz enc len cont) where
 ak:=λ⟨h1,c,d,a⟩ k e=>⟨h1.ak k (e _ ((a _).2 (.inl rfl))),c.ak k (λi hi=>e i ((a i).2 (.inr hi))),d,a⟩
 lt:=λ⟨h1,c,d,a⟩ i hi=>by
  rcases(a i).1 hi with h|h
  ·exact h ▸ h1.lt
  ·exact c.lt i h
section
variable {σ:Type} {b:Nat} {T E:TypeId} {sz:Nat} {enc:σ->Option Addr->Nat->List Value} {len:σ->Nat} {cont:σ->List Value} {w w1 w':World} {F:Fp} {s s':σ} {y:Option Addr×Nat}
theorem Hd.ay {x:σ×Option Addr×Nat} (h:Hd b T E sz enc len cont w F x):aM w b (enc x.1 x.2.1 x.2.2) T:=h.1
theorem Hd.sl {x:σ×Option Addr×Nat} (h:Hd b T E sz enc len cont w F x):Sl w E sz x.2.1 (len x.1) x.2.2 (cont x.1):=h.2.1
theorem Hd.nil {c:List Value} (h:dy w w' (.cells c.toArray T (0,0))) (e:enc s ah 0=c) (f:len s=0) (g:cont s=[]):Hd w.heap.size T E sz enc len cont w' (λi=>i=w.heap.size) (s,ah,0):=
 ⟨e ▸ h.aK,by rw[f,g];exact Sl.nil _ _ _,λ⟨a,d,_⟩=>(by cases d),λi=>⟨.inl,λh=>h.elim id (λ⟨a,d,_⟩=>by cases d)⟩⟩
theorem Hd.put (h:Hd b T E sz enc len cont w F (s,y)) {p':Option Addr} {c':Nat} (g:Sl w1 E sz p' (len s') c' (cont s')) (j:av (bf y.1) w w1) (f:∀i,bf p' i->bf y.1 i∨w.heap.size<=i)
  (d:mC w1 w' b (enc s' p' c') T):ai (Hd b T E sz enc len cont) w w' F (s',p',c'):=by
 obtain⟨l,n,m,c⟩:=h
 have a:¬bf p' b:=λhi=>by
  rcases f b hi with hi|hi
  ·exact m hi
  ·have:=l.lt;omega
 refine⟨λi=>i=b∨bf p' i,⟨d.aK,g.ak (d.ak (F:=λi=>i=b) rfl) (λi hi e=>a (e ▸ hi)),a,λ_=>bp⟩,?_,?_⟩
 ·exact(j.mono (λi _ hi=>(c i).2 (.inr hi))).trans (d.ak (F:=λi=>i=b) rfl) (λi _ e=>(c i).2 (.inl e))
 ·rintro i (rfl|hi)
  ·exact .inl ((c i).2 (.inl rfl))
  ·exact(f i hi).imp (λk=>(c i).2 (.inr k)) id
theorem Hd.elems (h:Hd b T E sz enc len cont w F (s,y)) (e:Sl w' E sz y.1 (len s') y.2 (cont s')) (a:av (bf y.1) w w') (f:enc s' y.1 y.2=enc s y.1 y.2):ai (Hd b T E sz enc len cont) w w' F (s',y):=by
 obtain⟨g,j,c,d⟩:=h;exact⟨F,⟨by show aM w' b (enc s' y.1 y.2) T;rw[f];exact g.ak a c,e,c,d⟩,a.mono (λi _ hi=>(d i).2 (.inr hi)),λ_ hi=>.inl hi⟩
theorem Hd.CT (h:Hd b T E sz enc len cont w F (s,y)) (a:av (bf y.1) w w1):aM w1 b (enc s y.1 y.2) T:=h.1.ak a h.2.2.1
end
theorem oJ:eO Tryz.prog 36 3 1 8 [I 0]:=⟨by kernel_rfl,by kernel_rfl,rfl,by omega⟩
def idx (l:List Int) (v:Int):Int:=if v∈l then(l.idxOf v:Int)else -1
theorem ZL {l:List Int} {v:Int} {i:Nat} (h:i<l.length) (b:v∉l.take i) (a:l[i]=v):idx l v=i:=by
 have c:v∈l:=a ▸ cx h
 have e:l.idxOf v=i:=by
  have d:l=l.take i++l[i]::l.drop (i+1):=by simp
  rw[d,List.idxOf_append,af b,a];simp;omega
 simp[idx,c,e]
theorem ab5 {l:List Int} {v:Int} {i:Nat} (h:i<l.length) (a:v∉l.take i) (b:l[i]≠v):v∉l.take (i+1):=by
 rw[eW h];simp only[eG,gJ];exact λh=>h.elim a (λe=>b e.symm)
theorem Qg {w:World} {p:Option Addr} {l:List Int} {c:Nat} (h:Cells w p (l.map (aB .i64))) (k:l.length<=140737488355328) (v:Int) :
  Cx 375 #[.slice p l.length c,I v] w λe w'=>e=Z (I (idx l v))/\w'=w:=by
 refine alb ?_;refine⟨bO bu (M:=Ck) (σ:=Nat) (λi=>HW p l.length c v l.length i) (λi w'=>i<=l.length/\v∉l.take i/\w'=w) (λi _=>l.length-i) 0 ⟨rfl,rfl,rfl,rfl,trivial⟩ ⟨by omega,by simp,rfl⟩ ?_⟩;rintro i w' ⟨m,b,rfl⟩;rw[afP];refine⟨λf=>?_,λg=>⟨?_,rfl⟩⟩
 ·have hi:i<l.length:=by simpa using f
  obtain⟨a,rfl,j⟩:=h.cv hi;refine⟨⟨by omega,by omega⟩,a,rfl,l[i],by simpa using j,λd=>⟨?_,rfl⟩,λd=>?_⟩
  ·rw[ZL hi b (by simpa using(eq_comm.1 (by simpa using d)))]
  ·refine⟨i+1,⟨rfl,rfl,rfl,by rw[aP (by omega)];rfl,trivial⟩,⟨by omega,ab5 hi b ?_,rfl⟩,by omega⟩;simp at d;exact λe=>d e.symm
 ·have:i=l.length:=by simp at g;omega
  subst this;simp at b;simp[idx,b]
theorem Oj {w:World} {p:Option Addr} {l:List Int} {c:Nat} (h:Cells w p (l.map (aB .i64))) (a:l.length<=140737488355328) (v:Int) :
  Cx 325 #[.slice p l.length c,I v] w λe w'=>e=Z (.bool (decide (v∈l)))/\w'=w:=by
 refine aky ?_;refine⟨(Qg h a v).mono ?_⟩;rintro e w' ⟨rfl,rfl⟩;refine⟨_,rfl,?_,rfl⟩;unfold idx;split<;>simp_all
theorem G8 {w:World} {p:Option Addr} {l:List Int} {c:Nat} (h:Cells w p (l.map (aB .i64))) (x:l.length<=1048576) (q:p=ah->l=[]/\c=0) :
  Cx 190 #[.slice p l.length c] w λe w'=>∃p' c',e=Z (.slice p' l.length c')/\Loc w w' 3 p' c' l:=by
 refine ait ?_;refine⟨λg=>?_,λg=>⟨λw1 o=>?_⟩⟩
 ·obtain⟨rfl,_⟩:=q (by simpa using g);exact⟨ah,0,rfl,Loc.nil (av.refl _ _) _⟩
 ·have r:Sl w1 3 1 (aa ⟨w.heap.size,0,ah⟩) 0 0 []:=Sl.new o (by simp) (by omega);have j:=o.ak no;obtain⟨p',y,c',s,t,b,f,k,u⟩:=y8 oJ r (h.no j) (m:=l.length) (d:=c) (by simp) (by simp[Value.oneCell']) (λe=>by subst e;simp at g) (by omega) (by omega) 36;simp only[eU,List.nil_append]at b f;subst b;refine⟨p',_,c',s,t,p',c',rfl,j.trans k ?_,f,λi hi=>?_⟩
  ·rintro i hi ⟨a,n,rfl⟩;cases n;exact absurd hi (Nat.lt_irrefl _)
  ·rcases u i hi with⟨a,n,rfl⟩|h
   ·cases n;exact aX _
   ·exact aW j.size h
def cs (m:BV):List Int:=bI (hs m) 64
theorem UJ {p q:Int->Bool} {n:Nat} (h:∀c:Int,0<=c->c<n->p c=q c):bI p n=bI q n:=by
 unfold bI;apply pB;intro x a;obtain⟨i,hi,rfl⟩:=ck.1 a;rw[cD]at hi;exact h _ (by omega) (by omega)
theorem KW {p:Int->Bool} {n:Nat} (h:∀c:Int,0<=c->c<n->p c=ae):bI p n=[]:=by
 rw[UJ (q:=λ_=>ae) h];unfold bI;simp
theorem AZ {m:BV} {c:Int}:c∈cs m↔hs m c=ag:=by
 unfold cs;rw[fF];exact⟨λh=>h.2.2,λh=>⟨(jV h).1,(jV h).2,h⟩⟩
theorem Di:cs 0=[]:=KW λc _ _=>je c
theorem XJ (m:BV):(cs m).length<=64:=vg _ _
theorem alA {p:Int->Bool} {k:Nat} (h1:p k=ag) (h2:∀j:Int,0<=j->j<k->p j=ae):∀n,k<n->bI p n=(k:Int)::bI (λc=>p c&&!decide (c=(k:Int))) n:=by
 intro n f
 induction n with
 | zero=>omega
 | succ n b=>
  rw[wK,wK];by_cases hk:k=n
  ·subst hk;rw[aj h1,KW h2,KW (p:=λc=>p c&&!decide (c=(k:Int))) (λc d e=>by simp[h2 c d e])];simp
  ·rw[b (by omega)];have:(decide ((n:Int)=(k:Int)))=ae:=by simp;omega
   simp only[this,tc,lR];by_cases a:p n=ag
   ·simp[a]
   ·simp[a]
theorem On {m:BV} {k:Nat} (hk:k<64) (h1:hs m k=ag) (h2:∀j:Int,j<k->hs m j=ae):cs m=(k:Int)::cs (ls m k):=by
 have:=alA (p:=hs m) h1 (λj _ a=>h2 j a) 64 hk;unfold cs;rw[this];congr 1;exact UJ λc _ _=>(iM m k c).symm
theorem yx {m:BV} (h:m≠0):∃k:Nat,k<64/\hs m k=ag/\∀j:Int,j<k->hs m j=ae:=by
 have a:∃k:Nat,hs m k=ag:=eV λb=>h (sa λc a _=>by
  rw[je];have:=not_exists.1 b c.toNat;rw[show((c.toNat:Nat):Int)=c by omega]at this;simpa using this)
 obtain⟨k,h1,h2⟩:=DJ a;refine⟨k,by have:=jV h1;omega,h1,λj f=>?_⟩;by_cases d:0<=j
 ·cases e:hs m j with
  | false=>rfl
  | true=>have:=h2 j.toNat (by rw[show((j.toNat:Nat):Int)=j by omega];exact e);omega
 ·exact ZC (by omega)
theorem V3 (k:Nat) (h:k<64):bt k=br k+1:=by
 have h1:(2:Nat) ^ k<2 ^ 64:=Nat.pow_lt_pow_right (by omega) (by omega);have h2:0<(2:Nat) ^ k:=Nat.pow_pos (by omega);apply xv;rw[GB (by omega),BitVec.toNat_twoPow,BitVec.toNat_add];unfold br;rw[oc];have e:min (k:Int).toNat 64=k:=by omega
 rw[e,show((k:Int).toNat)=k by omega];have a:(1:BV).toNat=1:=rfl;rw[a];generalize (2:Nat) ^ k=x at *;rw[jr h1,jr (show x-1<2 ^ 64 by omega),jr (by omega)];omega
theorem aaZ {m:BV} {c:Int} (a:hs m c=ag):ls m c+bt c=m:=by
 have h:=jV a
 have b:ls m c&&& bt c=0:=Ij λd=>by
  rw[v8,iM,wa];by_cases hd:d=c<;>simp[hd]
 rw[BitVec.add_eq_or_of_and_eq_zero _ _ b];apply sa;intro d _ _;rw[DW,iM,wa];by_cases hd:d=c
 ·subst hd;simp[a,h]
 ·simp[hd]
section
variable {m:BV} {k:Nat} (hk:k<64) (h1:hs m k=ag) (h2:∀j:Int,j<k->hs m j=ae)
include hk h1 h2
theorem R4:m-1=ls m k||| br k:=by
 have e:ls m k&&& br k=0:=Ij λd=>by
  rw[v8,iM,uL];by_cases hd:d<k
  ·simp[h2 d hd]
  ·simp[hd]
 have h:=aaZ h1;rw[V3 k hk,<-BitVec.add_assoc]at h;rw[<-BitVec.add_eq_or_of_and_eq_zero _ _ e];generalize ls m k+br k=u at h⊢;rw[<-h];exact BitVec.add_sub_cancel _ _
theorem aaX:m&&& (m-1)=ls m k:=by
 rw[R4 hk h1 h2];apply sa;intro d _ _;rw[v8,DW,iM,uL];by_cases hd:d<k
 ·simp[h2 d hd]
 ·simp[hd]
theorem aaY:m&&& (-m)=bt k:=by
 have e : -m = ~~~(m-1):=by
  apply xv;rw[BitVec.toNat_neg,BitVec.toNat_not,BitVec.toNat_sub];have:=m.isLt;have c:(1:BV).toNat=1:=rfl;rw[c];generalize m.toNat=x at *;omega
 rw[e,R4 hk h1 h2];apply sa;intro d f b;rw[oS,DW,iM,uL,wa];by_cases hd:d=k
 ·subst hd;simp[h1,f,b]
 ·by_cases a:d<k
  ·simp[h2 d a,hd]
  ·simp[hd,a]
end
theorem abR (m:BV):aV .u64 (0-mi m)=mi (-m):=by
 rw[U4];unfold mi;rw[BitVec.toNat_neg];have:=m.isLt;omega
theorem aeQ (m:BV):aV .u64 (mi m-1)=mi (m-1):=by
 rw[U4];unfold mi;rw[BitVec.toNat_sub];have:=m.isLt;have a:(1:BV).toNat=1:=rfl;rw[a];omega
theorem ab4 (m:BV):aH .xor .u64 18446744073709551615 (mi m)=mi (~~~ m):=by
 have:(18446744073709551615:Int)=mi (BitVec.allOnes 64):=by decide +kernel
 rw[this,VY,BitVec.allOnes_xor]
def tz (m:BV):Int:=match cs m with|[]=>64|a::_=>a
theorem UC:tz 0=64:=by rw[tz,Di]
theorem FN {m:BV} {k:Nat} (hk:k<64) (h1:hs m k=ag) (h2:∀j:Int,j<k->hs m j=ae):tz m=k:=by rw[tz,On hk h1 h2]
theorem Dh {m:BV} (h:m≠0):cs m=tz m::cs (m&&& (m-1)):=by
 obtain⟨k,hk,h1,h2⟩:=yx h;rw[aaX hk h1 h2,FN hk h1 h2];exact On hk h1 h2
theorem KJ {m:BV} (h:m≠0):hs m (tz m)=ag:=by
 obtain⟨k,hk,h1,h2⟩:=yx h;rw[FN hk h1 h2];exact h1
theorem UB {m:BV}:tz m<64↔m≠0:=by
 constructor
 ·rintro h rfl;rw[UC]at h;omega
 ·intro h;exact(jV (KJ h)).2
def Dp (k:Nat):Int:=aS .u64 (aV .u64 (mi (bt k)*285870213051353865)) 58
def xP:List Nat:=[0,1,56,2,57,49,28,3,61,58,42,50,38,29,17,4,62,47,59,36,45,43,51,22,53,39,33,30,24,18,12,5,63,55,48,27,60,41,37,16,46,35,44,21,52,32,23,11,54,26,40,15,34,20,31,10,25,14,19,9,13,8,7,6]
theorem XS:∀k:Nat,k<64->0<=Dp k/\Dp k<64/\xP[(Dp k).toNat]?=aa k:=by decide +kernel
def fc (n x:Nat):Nat:=((bU n).filter (λi=>x.testBit i)).length
theorem acu (a b x:Nat):fc (a+b) x=fc a x+fc b (x/2 ^ a):=by
 unfold fc;rw[List.range_add,td,cG,vz,bW];congr 2;apply pB;intro i _;simp[Nat.testBit_div_two_pow,Nat.add_comm]
theorem acv (n x:Nat):fc n x=fc n (x%2 ^ n):=by
 unfold fc;congr 1;apply pB;intro i hi;rw[cD]at hi;simp[Nat.testBit_mod_two_pow,hi]
theorem XK (m:BV):(cs m).length=fc 64 m.toNat:=by
 unfold cs bI fc;rw[vz,bW];refine congrArg gu (pB λi hi=>?_);rw[cD]at hi;show hs m (i:Int)=_;unfold hs;have:decide (0<=(i:Int)/\(i:Int)<64)=ag:=decide_eq_true ⟨by omega,by omega⟩;rw[this];simp[BitVec.getLsbD]
def iX:List Nat->Nat
 | []=>0
 | b::l=>b+256*iX l
def tr:Nat->Nat->List Nat
 | 0,_=>[]
 | n+1,x=>x%256::tr n (x/256)
theorem UK:∀n x,x<256 ^ n->iX (tr n x)=x
 | 0,x,h=>by simp at h;subst h;rfl
 | n+1,x,h=>by
  have a:x/256<256 ^ n:=by rw[Nat.pow_succ]at h;omega
  show x%256+256*iX (tr n (x/256))=x;rw[UK n _ a];omega
theorem S6:∀n x,fc (8*n) x=((tr n x).map (fc 8)).sum
 | 0,x=>rfl
 | n+1,x=>by
  have e:8*(n+1)=8+8*n:=by omega
  rw[e,acu,acv 8 x,show(2:Nat) ^ 8=256 from rfl,S6 n (x/256)];rfl
theorem GF:∀n x,∀b∈tr n x,b<256
 | 0,_,b,h=>by cases h
 | n+1,x,b,h=>by
  rcases ez.1 h with h|h
  ·omega
  ·exact GF n _ b h
theorem GD:∀n x,(tr n x).length=n
 | 0,_=>rfl
 | n+1,x=>by simp[tr,GD n]
def oZ (m:Nat):Nat->Nat
 | 0=>0
 | n+1=>m+256*oZ m n
theorem zR {b y m M:Nat} (f:b<256) (g:m<256):(b+256*y)&&& (m+256*M)=(b&&& m)+256*(y&&& M):=by
 have e:∀a c:Nat,a+256*c=2 ^ 8*c+a:=λa c=>by omega
 have d:b&&& m<2 ^ 8:=xp b (by omega);rw[e,e,e];apply Nat.eq_of_testBit_eq;intro i;rw[xn,Nat.testBit_two_pow_mul_add _ (by omega),Nat.testBit_two_pow_mul_add _ (by omega),Nat.testBit_two_pow_mul_add _ d];split
 ·rw[xn]
 ·rw[xn]
def sA (x M:Nat):Nat:=(x/2&&& M)+(x&&& M)
def sB (x M:Nat):Nat:=(x/4&&& M)+(x&&& M)
def sC (x M:Nat):Nat:=(x/16+x)&&& M
theorem Vd:∀b,b<256->∀t,t<2->(b/2+128*t)&&& 85=b/2&&& 85:=by decide +kernel
theorem VG:∀b,b<256->∀t,t<4->(b/4+64*t)&&& 51=b/4&&& 51:=by decide +kernel
theorem W6:∀b,b<69->∀t,t<5->(b/16+16*t+b)&&& 15=(b/16+b)&&& 15:=by decide +kernel
theorem Ve {b y M:Nat} (a:b<256):sA (b+256*y) (85+256*M)=sA b 85+256*sA y M:=by
 unfold sA;have e:(b+256*y)/2=(b/2+128*(y%2))+256*(y/2):=by omega
 rw[e,zR (by omega) (by omega),zR a (by omega),Vd b a _ (by omega)];omega
theorem VH {b y M:Nat} (a:b<256):sB (b+256*y) (51+256*M)=sB b 51+256*sB y M:=by
 unfold sB;have e:(b+256*y)/4=(b/4+64*(y%4))+256*(y/4):=by omega
 rw[e,zR (by omega) (by omega),zR a (by omega),VG b a _ (by omega)];omega
theorem W7 {b y M:Nat} (a:b<69) (c:y%16<5):sC (b+256*y) (15+256*M)=sC b 15+256*sC y M:=by
 unfold sC;have e:(b+256*y)/16+(b+256*y)=(b/16+16*(y%16)+b)+256*(y/16+y):=by omega
 rw[e,zR (by omega) (by omega),W6 b a _ c]
theorem Lr:∀l:List Nat,(∀b∈l,b<256)->sA (iX l) (oZ 85 l.length)=iX (l.map (λb=>sA b 85))
 | [],_=>rfl
 | b::l,h=>by
  show sA (b+256*iX l) (85+256*oZ 85 l.length)=sA b 85+256*iX (l.map _);rw[Ve (h b (by simp)),Lr l (λc a=>h c (by simp[a]))]
theorem LU:∀l:List Nat,(∀b∈l,b<256)->sB (iX l) (oZ 51 l.length)=iX (l.map (λb=>sB b 51))
 | [],_=>rfl
 | b::l,h=>by
  show sB (b+256*iX l) (51+256*oZ 51 l.length)=sB b 51+256*iX (l.map _);rw[VH (h b (by simp)),LU l (λc a=>h c (by simp[a]))]
theorem N6:∀l:List Nat,(∀b∈l,b<69/\b%16<5)->sC (iX l) (oZ 15 l.length)=iX (l.map (λb=>sC b 15))
 | [],_=>rfl
 | b::l,h=>by
  show sC (b+256*iX l) (15+256*oZ 15 l.length)=sC b 15+256*iX (l.map _)
  have a:iX l%16<5:=by
   cases l with
   | nil=>decide
   | cons c l=>
    have:=(h c (by simp)).2;show(c+256*iX l)%16<5;omega
  rw[W7 (h b (by simp)).1 a,N6 l (λc d=>h c (by simp[d]))]
theorem CG:∀b,b<256->sA b 85<256/\(sB (sA b 85) 51<69/\sB (sA b 85) 51%16<5)/\sC (sB (sA b 85) 51) 15=fc 8 b/\fc 8 b<=8:=by decide +kernel
theorem Vf (l:List Nat) (h:∀b∈l,b<256):sC (sB (sA (iX l) (oZ 85 l.length)) (oZ 51 l.length)) (oZ 15 l.length)=iX (l.map (fc 8)):=by
 rw[Lr l h];have e:=LU (l.map (λb=>sA b 85)) (λc d=>by obtain⟨b,a,rfl⟩:=ck.1 d;exact(CG b (h b a)).1);rw[bW]at e;rw[e,s8];have f:=N6 (l.map ((λb=>sB b 51)∘λb=>sA b 85)) (λc d=>by obtain⟨b,a,rfl⟩:=ck.1 d;exact(CG b (h b a)).2.1);rw[bW]at f;rw[f,s8];congr 1;apply uq;intro b a;exact(CG b (h b a)).2.2.1
theorem x1 (b r:Nat) (h:b<=100):(b+256*r)/256=r:=by omega
theorem x2 (s1 a r:Nat) (b:s1<=100) (c:a<=100):(s1+256*(a+256*r))/65536=r:=by omega
theorem x3 (s1 a b c r:Nat) (d:s1<=100) (e:a<=100) (f:b<=100) (g:c<=100):(s1+256*(a+256*(b+256*(c+256*r))))/4294967296=r:=by omega
theorem x4 (a r b q:Nat):(a+256*r)+(b+256*q)=(a+b)+256*(r+q):=by omega
theorem x5 {a b c d e f g h:Nat} (i:a<=100) (j:b<=100) (k:c<=100) (hd:d<=100) (l:e<=100) (m:f<=100) (n:g<=100) (o:h<=100):(a+256*(b+256*(c+256*(d+256*(e+256*(f+256*(g+256*h)))))))<18446744073709551616:=by omega
theorem x6 {s q n:Nat} (hs:s=n) (a:n<=100):(s+256*q)%128=n:=by omega
theorem YS (a b c d e f g h:Nat) (u:a<=8) (w:b<=8) (x:c<=8) (hd:d<=8) (z:e<=8) (A:f<=8) (B:g<=8) (C:h<=8) {y l m n:Nat}
  (o:y=iX [a,b,c,d,e,f,g,h]) (p:l=y+y/256) (q:m=l+l/65536) (r:n=m+m/4294967296) :
  l<18446744073709551616/\m<18446744073709551616/\n<18446744073709551616/\n%128=a+b+c+d+e+f+g+h:=by
 simp only[iX,Nat.mul_zero,pF]at o;have d1:y/256=b+256*(c+256*(d+256*(e+256*(f+256*(g+256*h))))):=by rw[o];exact x1 _ _ (by omega)
 rw[d1,o]at p
 have i:l=(a+b)+256*((b+c)+256*((c+d)+256*((d+e)+256*((e+f)+256*((f+g)+256*((g+h)+256*h)))))):=by
  rw[p,x4,x4,x4,x4,x4,x4,Nat.add_right_comm g (256*h) h]
 clear p o d1;have s:l/65536=(c+d)+256*((d+e)+256*((e+f)+256*((f+g)+256*((g+h)+256*h)))):=by rw[i];exact x2 _ _ _ (by omega) (by omega)
 have j:m=(a+b+(c+d))+256*((b+c+(d+e))+256*((c+d+(e+f))+256*((d+e+(f+g))+256*((e+f+(g+h))+256*((f+g+h)+256*((g+h)+256*h)))))):=by
  rw[q,s,i,x4,x4,x4,x4,x4,Nat.add_right_comm (f+g) _ h]
 have t:m/4294967296=(e+f+(g+h))+256*((f+g+h)+256*((g+h)+256*h)):=by rw[j];exact x3 _ _ _ _ _ (by omega) (by omega) (by omega) (by omega)
 have k:n=(a+b+(c+d)+(e+f+(g+h)))+256*((b+c+(d+e)+(f+g+h))+256*((c+d+(e+f)+(g+h))+256*((d+e+(f+g)+h)+256*((e+f+(g+h))+256*((f+g+h)+256*((g+h)+256*h)))))):=by
  rw[r,t,j,x4,x4,x4,Nat.add_right_comm (d+e+(f+g)) _ h]
 clear q s t r;refine⟨?_,?_,?_,?_⟩
 ·rw[i];clear i j k;exact x5 (by omega) (by omega) (by omega) (by omega) (by omega) (by omega) (by omega) (by omega)
 ·rw[j];clear i j k;exact x5 (by omega) (by omega) (by omega) (by omega) (by omega) (by omega) (by omega) (by omega)
 ·rw[k];clear i j k;exact x5 (by omega) (by omega) (by omega) (by omega) (by omega) (by omega) (by omega) (by omega)
 ·rw[k];clear i j k;exact x6 (by omega) (by omega)
theorem xC {x y:Nat} (a:x<2 ^ 64) (b:y<2 ^ 64):aH .and .u64 (x:Int) (y:Int)=((x&&& y:Nat):Int):=by
 have e:∀z:Nat,z<2 ^ 64->(z:Int)=mi (BitVec.ofNat 64 z):=λz c=>by
  unfold mi;rw[oc,jr c]
 rw[e x a,e y b,xE];unfold mi;rw[BitVec.toNat_and,oc,oc,jr a,jr b]
theorem tV (x:Nat) {k d:Nat} (b:k<=64) (hd:2 ^ k=d):aS .u64 (x:Int) (k:Int)=((x/d:Nat):Int):=by
 subst hd;unfold aS;have a:min ((k:Int)).toNat jo.bits=k:=by show min _ 64=k;omega
 rw[a,show((2:Int) ^ k)=((2 ^ k:Nat):Int) by simp,vB _ (Int.natCast_nonneg _),<-Int.natCast_ediv]
theorem xi {x y:Nat} (h:x+y<2 ^ 64):aV .u64 ((x:Int)+(y:Int))=((x+y:Nat):Int):=by
 rw[BO (by omega)];omega
theorem V5 {data:Array UInt8} (f:Nat->Nat) (h:(data.toList.map UInt8.toNat==(bU 256).map f)=ag) {x:Nat} (c:x<256):∃u,(ByteArray.mk data)[x]?=aa u/\((UInt8.toNat u:Nat):Int)=(f x:Int):=by
 have h:=eq_of_beq h
 have hs:data.size=256:=by
  have:=congrArg gu h;simpa using this
 have a:x<(ByteArray.mk data).size:=by show x<data.size;omega
 refine⟨data[x]'(by omega),?_,?_⟩
 ·rw[getElem?_pos (ByteArray.mk data) x a];rfl
 ·have b:(data.toList.map UInt8.toNat)[x]?=((bU 256).map f)[x]?:=by rw[h]
  simp[c,hs]at b;exact congrArg Int.ofNat b
def Tab (w:World):Prop:=Cells w (aa ⟨0,0,ah⟩) (xP.map (λ(z:Nat)=>aB .u8 (z:Int)))
theorem Tab.no {w w':World} (h:Tab w) (k:av no w w'):Tab w':=Cells.no h k
theorem Ug:Tryz.prog.globalNamed "math/bits.deBruijn64tab" = aa 0:=by kernel_rfl
theorem agm:(Tryz.prog.globals[0]?).map (·.type)=aa 380:=by kernel_rfl
theorem agn:Tryz.prog.underlying 380=aa (.array 64 5):=by kernel_rfl
theorem agl:Tryz.prog.underlying 5=aa (.int .u8):=by kernel_rfl
def Dq:List Int:=xP.map (λ(z:Nat)=>(z:Int))
theorem tab_ok {W:World} (h:laidMet Tryz.prog [("math/bits.deBruijn64tab",Lib.tabData .u8 Dq)] W):Tab W:=by
 have c:=Lib.tabIs_of_head Ug agm agn agl (by kernel_rfl) (by kernel_rfl) h;intro j v a;refine⟨_,rfl,?_⟩;rw[add_lit,eU];rw[fy]at a;obtain⟨z,b,rfl⟩:=lf.1 a;have d:j<xP.length:=(dQ.1 b).1;rw[c.cell Ug j (by simpa [Dq]using d)];have e:Dq.getD j 0=(z:Int):=by simp[Dq,aO,b]
 rw[e]
theorem KK (m:BV) {w:World} (l:Tab w):Cx 253 #[.int .u64 (mi m)] w λe w'=>e=Z (I (tz m))/\w'=w:=by
 refine ajv ?_;refine⟨λg=>?_,λg=>⟨by decide,?_⟩⟩
 ·rw[l9]at g;have:m=0:=by simpa using g
  subst this;exact⟨by rw[UC],rfl⟩
 ·rw[l9]at g;have n:m≠0:=by simpa using g
  obtain⟨k,c,d,f⟩:=yx n;rw[abR,xE,aaY c d f];obtain⟨d1,h,b⟩:=XS k c;unfold Dp at d1 h b;rw[FN c d f];generalize aS .u64 (aV .u64 (mi (bt k)*285870213051353865)) 58=ix at *;have i:ix.toNat<xP.length:=(dQ.1 b).1;obtain⟨a,o,j⟩:=l.cv i;cases o;have:xP[ix.toNat]=k:=by rw[cO i]at b;exact Option.some.inj b
  rw[this]at j;exact⟨⟨d1,h⟩,_,j,by rw[aP (by omega)],rfl⟩
def oA (x:Int):Int:=aV .u64 (aH .and .u64 (aS .u64 x 1) 6148914691236517205+aH .and .u64 x 6148914691236517205)
def oB (x:Int):Int:=aV .u64 (aH .and .u64 (aS .u64 x 2) 3689348814741910323+aH .and .u64 x 3689348814741910323)
def oC (x:Int):Int:=aH .and .u64 (aV .u64 (aS .u64 x 4+x)) 1085102592571150095
def oD (x:Int):Int:=aV .u64 (x+aS .u64 x 8)
def oE (x:Int):Int:=aV .u64 (x+aS .u64 x 16)
def oF (x:Int):Int:=aV .u64 (x+aS .u64 x 32)
def oG (x:Int):Int:=aH .and .i64 (aV .i64 x) 127
theorem Vx {x:Nat} (h:x<18446744073709551616):oG (x:Int)=((x%128:Nat):Int):=by
 unfold oG
 have a:ib 64 (aV .i64 (x:Int))=BitVec.ofNat 64 x:=by
  apply xv;rw[BitVec.toNat_ofInt,oc]
  have:aV .i64 (x:Int)=if(x:Int)<9223372036854775808 then(x:Int)else(x:Int)-18446744073709551616:=by
   unfold aV;simp only[lQ,kl,dR];split<;>split<;>simp_all<;>omega
  rw[this];split<;>omega
 show aV .i64 ((ib 64 (aV .i64 (x:Int))&&& ib 64 127).toNat:Int)=_;rw[a];have b:ib 64 127=BitVec.ofNat 64 127:=rfl;rw[b,BitVec.toNat_and,oc,oc,jr h];have c:x&&& (127%2 ^ 64)=x%128:=Nat.and_two_pow_sub_one_eq_mod x 7;rw[c,aP (by omega)]
theorem ab8 (m:BV):oG (oF (oE (oD (oC (oB (oA (mi m)))))))=((cs m).length:Int):=by
 have f:m.toNat<2 ^ 64:=m.isLt;obtain⟨x,a⟩:∃x,x=m.toNat:=⟨_,rfl⟩;rw[XK,show(mi m)=((x:Nat):Int) by rw[a];rfl,<-a];rw[<-a]at f;clear a;have g:oZ 85 8=6148914691236517205:=by decide +kernel
 have i:oZ 51 8=3689348814741910323:=by decide +kernel
 have j:oZ 15 8=1085102592571150095:=by decide +kernel
 have e:=Vf (tr 8 x) (GF 8 x);rw[GD,UK 8 x (by omega),g,i,j]at e;have B:x/2&&& 6148914691236517205<2 ^ 63:=xp _ (by omega);have C:x&&& 6148914691236517205<2 ^ 63:=xp _ (by omega)
 have k:oA (x:Int)=((sA x 6148914691236517205:Nat):Int):=by
  unfold oA sA;rw[show(1:Int)=((1:Nat):Int)from rfl,tV (d:=2) x (by omega) rfl,show(6148914691236517205:Int)=((6148914691236517205:Nat):Int)from rfl,xC (by omega) (by omega),xC (by omega) (by omega),xi (by omega)]
 have hA:sA x 6148914691236517205<2 ^ 64:=by unfold sA;omega
 rw[k];generalize sA x 6148914691236517205=y at *;have D:y/4&&& 3689348814741910323<2 ^ 62:=xp _ (by omega);have b2:y&&& 3689348814741910323<2 ^ 62:=xp _ (by omega)
 have n:oB (y:Int)=((sB y 3689348814741910323:Nat):Int):=by
  unfold oB sB;rw[show(2:Int)=((2:Nat):Int)from rfl,tV (d:=4) y (by omega) rfl,show(3689348814741910323:Int)=((3689348814741910323:Nat):Int)from rfl,xC (by omega) (by omega),xC (by omega) (by omega),xi (by omega)]
 have hB:sB y 3689348814741910323<2 ^ 63:=by unfold sB;omega
 rw[n];generalize sB y 3689348814741910323=z at *
 have o:oC (z:Int)=((sC z 1085102592571150095:Nat):Int):=by
  unfold oC sC;rw[show(4:Int)=((4:Nat):Int)from rfl,tV (d:=16) z (by omega) rfl,xi (by omega),show(1085102592571150095:Int)=((1085102592571150095:Nat):Int)from rfl,xC (by omega) (by omega)]
 rw[o,e,S6 8 x];have p:=GD 8 x;have b:=GF 8 x;generalize tr 8 x=l at *
 match l,p,b with
 | [c0,c1,c2,c3,c4,c5,c6,c7],_,b=>
  have q:∀c∈[c0,c1,c2,c3,c4,c5,c6,c7],fc 8 c<=8:=λc r=>(CG c (b c r)).2.2.2;simp only[np,List.map_nil,s9,List.sum_nil];generalize s:iX [fc 8 c0,fc 8 c1,fc 8 c2,fc 8 c3,fc 8 c4,fc 8 c5,fc 8 c6,fc 8 c7]=v;obtain⟨f1,f2,f3,t⟩:=YS (fc 8 c0) (fc 8 c1) (fc 8 c2) (fc 8 c3) (fc 8 c4) (fc 8 c5) (fc 8 c6) (fc 8 c7) (q _ (by simp)) (q _ (by simp)) (q _ (by simp)) (q _ (by simp)) (q _ (by simp)) (q _ (by simp)) (q _ (by simp)) (q _ (by simp)) s.symm rfl rfl rfl
  have u:oD (v:Int)=((v+v/256:Nat):Int):=by
   unfold oD;rw[show(8:Int)=((8:Nat):Int)from rfl,tV (d:=256) v (by omega) rfl,xi (by omega)]
  have w:∀v:Nat,v+v/65536<18446744073709551616->oE (v:Int)=((v+v/65536:Nat):Int):=λv h=>by
   unfold oE;rw[show(16:Int)=((16:Nat):Int)from rfl,tV (d:=65536) v (by omega) rfl,xi (by omega)]
  have A:∀v:Nat,v+v/4294967296<18446744073709551616->oF (v:Int)=((v+v/4294967296:Nat):Int):=λv h=>by
   unfold oF;rw[show(32:Int)=((32:Nat):Int)from rfl,tV (d:=4294967296) v (by omega) rfl,xi (by omega)]
  rw[u,w _ f2,A _ f3,Vx f3,t];congr 1;omega
theorem ab7 (m:BV) (w:World):Cx 80 #[.int .u64 (mi m)] w λe w'=>e=Z (I ((cs m).length:Int))/\w'=w:=by
 refine u80 ?_;refine⟨by decide,by decide,by decide,by decide,by decide,by decide,?_,rfl⟩;show cN (I (oG (oF (oE (oD (oC (oB (oA (mi m)))))))))=_;rw[ab8]
theorem aa6 (m:BV) (w:World):Cx 24 #[.int .u64 (mi m)] w λe w'=>e=Z (I ((cs m).length:Int))/\w'=w:=by
 refine u24 ?_;refine⟨(ab7 m w).mono ?_⟩;rintro e w' ⟨rfl,rfl⟩;exact⟨_,rfl,rfl,rfl⟩
def fY (m:BV):Int×Int:=match cs m with|[]=>(0,12)|a::_=>(a,0)
def mU (m:BV) (c:Int):Int×Int:=match(cs m).find? (λd=>decide (d>c))with|some d=>(d,0)|none=>fY m
theorem Ir {m:BV} (h:m≠0):fY m=(tz m,0):=by unfold fY;rw[Dh h]
theorem YM:fY 0=(0,12):=by unfold fY;rw[Di]
theorem yA (m:BV) {w:World} (a:Tab w):Cx 159 #[.int .u64 (mi m)] w λe w'=>e=Z (.tuple #[I (fY m).1,I (fY m).2])/\w'=w:=by
 refine ah2 ?_;refine⟨λg=>?_,λg=>⟨(KK m a).mono ?_⟩⟩
 ·rw[l9]at g;have:m=0:=by simpa using g
  subst this;exact⟨by rw[YM],rfl⟩
 ·rw[l9]at g;rintro e w' ⟨rfl,rfl⟩;exact⟨_,rfl,by rw[Ir (by simpa using g)],rfl⟩
theorem Om (m:BV) (c:Int):cs (m&&& ~~~ br (c+1))=(cs m).filter (λd=>decide (d>c)):=by
 unfold cs bI;rw[List.filter_filter];apply pB;intro d hd;obtain⟨i,hi,rfl⟩:=ck.1 hd;rw[cD]at hi;rw[oS,uL,decide_eq_true (show 0<=(i:Int)/\(i:Int)<64 by omega),dR];by_cases a:(i:Int)>c
 ·simp[a,show ¬((i:Int)<c+1) by omega]
 ·simp[a,show(i:Int)<c+1 by omega]
theorem abV {m:BV} {c:Int} (h:m&&& ~~~ br (c+1)≠0):fY (m&&& ~~~ br (c+1))=mU m c:=by
 unfold mU;rw[Ir h];have e:((cs m).filter (λd=>decide (d>c))).head?=aa (tz (m&&& ~~~ br (c+1))):=by rw[<-Om,Dh h];rfl
 rw[List.head?_filter]at e;rw[e]
theorem ab0 {m:BV} {c:Int} (h:m&&& ~~~ br (c+1)=0):mU m c=fY m:=by
 unfold mU;have e:(cs m).filter (λd=>decide (d>c))=[]:=by rw[<-Om,h,Di]
 rw[List.filter_eq_nil_iff]at e;rw[kt.2 e]
theorem abZ {m:BV} {c:Int} (h:c<0):mU m c=fY m:=by
 unfold mU fY
 cases b:cs m with
 | nil=>rfl
 | cons a l=>
  have:hs m a=ag:=AZ.1 (by rw[b];simp);have:=jV this;have e:decide (a>c)=ag:=by simp;omega
  simp[e]
theorem abW {m:BV} {c:Int} (h:63<=c):mU m c=fY m:=by
 unfold mU;rw[kt.2];intro d hd;have:=jV (AZ.1 hd);simp;omega
theorem aa7 (m:BV) (c:Int) {w:World} (a:Tab w):Cx 319 #[.int .u64 (mi m),I c] w λe w'=>e=Z (.tuple #[I (mU m c).1,I (mU m c).2])/\w'=w:=by
 refine aks ?_;refine⟨λg=>⟨λb=>⟨(yA m a).mono ?_⟩,λb=>?_⟩,λg=>⟨(yA m a).mono ?_⟩⟩
 ·rintro e w' ⟨rfl,rfl⟩;exact⟨_,_,rfl,by rw[abW (aL b)],rfl⟩
 ·have f:¬c<0:=aT g;have h:¬c>=63:=aT b;rw[aP (by omega)];refine⟨(uP (c+1) w).mono ?_⟩;rintro e w' ⟨rfl,rfl⟩;refine⟨_,rfl,?_⟩;rw[zX,wv];refine⟨λd=>⟨(yA _ a).mono ?_⟩,λd=>⟨(yA m a).mono ?_⟩⟩
  ·rintro e w' ⟨rfl,rfl⟩;exact⟨_,_,rfl,by rw[abV (by simpa using d)],rfl⟩
  ·rintro e w' ⟨rfl,rfl⟩;exact⟨_,_,rfl,by rw[ab0 (by simpa using d)],rfl⟩
 ·rintro e w' ⟨rfl,rfl⟩;exact⟨_,_,rfl,by rw[abZ (aL g)],rfl⟩
theorem R7 (m:BV) {w:World} (i:Tab w):Cx 382 #[.int .u64 (mi m)] w λe w'=>∃p c,e=Z (.slice p (cs m).length c)/\Loc w w' 3 p c (cs m):=by
 refine alg ?_
 refine⟨bO bu (M:=Co) (σ:=BV×List Int×Option Addr×Nat) (λs=>HX (mi s.1) s.2.2.1 s.2.1.length s.2.2.2)
  (λs w'=>s.2.1++cs s.1=cs m/\Loc w w' 3 s.2.2.1 s.2.2.2 s.2.1) (λs _=>(cs s.1).length) (m,[],ah,0) ⟨rfl,rfl,trivial⟩ ⟨rfl,Loc.nil (av.refl _ _) _⟩ ?_⟩
 rintro⟨a,l,p,c⟩ w1 ⟨h1,b⟩;simp only at h1 b⊢;rw[afR,wv,aeQ,xE];refine⟨λg=>⟨(KK a (i.no b.U)).mono ?_⟩,λg=>?_⟩
 ·have d:a≠0:=by simpa using g
  have h:=Dh d;have o:l.length<=64:=by have:=congrArg gu h1;have:=XJ m;simp at *;omega
  rintro e q ⟨rfl,rfl⟩;refine⟨_,rfl,⟨λr j=>?_⟩⟩;obtain⟨p',c',k,n,f⟩:=b.push oJ (by omega) j 36;refine⟨p',_,c',k,n,(a&&& (a-1),l++[tz a],p',c'),⟨rfl,rfl,trivial⟩,⟨by rw[<-h1,h];simp,f⟩,by simp only;rw[h];simp⟩
 ·have d:a=0:=by simpa using g
  subst d;rw[Di,List.append_nil]at h1;subst h1;exact⟨p,c,rfl,b⟩
theorem run_mk {P:Program} {t e:TypeId} {sz bytes:Nat} {z:List Value} (B:eO P t e sz bytes z) (w:World) {n:Nat} (I:n*bytes<=140737488355328) (J:n<=140737488355328) (s k2:IntKind)
  {α:Type} {f:α->List Value} {x0:α} (u:∀x,(f x).length=sz) (g:f x0=z) :
  ∃w',(mE t (.int s (n:Int)) (.int k2 (n:Int))).run P w=.ok (.slice (aa ⟨w.heap.size,0,ah⟩) n n) w'/\dy w w' (.cells ((aD n x0).flatMap f).toArray e (0,0)):=by
 obtain⟨C,a,k,b⟩:=B;obtain⟨i,hi,c⟩:=lf.1 a;simp only[Prod.mk.injEq]at c;obtain⟨D,m,o⟩:=c;obtain⟨zv,p,d⟩:=lf.1 D
 have q:(i.bytes:Int)*(n:Int)<=281474976710656:=by
  have h:((i.bytes*n:Nat):Int)<=281474976710656:=by rw[o,Nat.mul_comm];omega
  rwa [Int.natCast_mul]at h
 have y:=run_make (P:=P) w t e i zv C hi p s k2 n n (by omega) (fU _) q (by omega);simp only[bQ]at y;refine⟨_,y,?_⟩;have r:zv.cells.size=sz:=by rw[<-k,<-d];simp
 have E:((aD n x0).flatMap f).toArray=madeCells zv.cells (n*i.size):=by
  rw[m];apply pN;rw[List.toList_toArray];have K:((aD n x0).flatMap f).length=n*sz:=by rw[List.length_flatMap];simp[u,List.sum_replicate_nat]
  apply de;intro j;by_cases F:j<n*sz
  ·have G:j/sz<n:=Nat.div_lt_of_lt_mul (by rwa [Nat.mul_comm]);have L:j%sz<sz:=Nat.mod_lt _ b
   have H:zv.cells.toList[j%sz]?=aa zv.cells[j%zv.cells.size]!:=by
    have A:j%sz<zv.cells.size:=by omega
    rw[r,getElem!_pos zv.cells (j%sz) A];simp[A]
   have:=yi (l:=aD n x0) (i:=j/sz) (j:=j%sz) (v:=zv.cells[j%zv.cells.size]!) u (by simpa using G) (by rw[List.getElem_replicate,g,<-d];exact H);rw[Nat.div_add_mod']at this;rw[this];simp[madeCells,F]
  ·rw[fV (by omega),fV (by simp[madeCells];omega)]
 rw[E];exact A6 w _
theorem Tu {α:Type} (f:α->Value) (n:Nat) (x:α):(aD n x).flatMap (λx=>[f x])=(aD n x).map f:=by
 induction n with
 | zero=>rfl
 | succ n a=>rw[List.replicate_succ,pC,a];rfl
theorem J5 {P:Program} {t e:TypeId} {k:IntKind} {bytes:Nat} (c:eO P t e 1 bytes [.int k 0]) (w:World) {n:Nat} (d:n*bytes<=140737488355328) (g:n<=140737488355328) (a k2:IntKind) :
  ∃w',(mE t (.int a (n:Int)) (.int k2 (n:Int))).run P w=.ok (.slice (aa ⟨w.heap.size,0,ah⟩) n n) w'/\dy w w' (.cells ((aD n (0:Int)).map (aB k)).toArray e (0,0)):=by
 obtain⟨w',h,b⟩:=run_mk c w d g a k2 (f:=λx:Int=>[aB k x]) (x0:=0) (λ_=>rfl) rfl;rw[Tu]at b;exact⟨w',h,b⟩
theorem adS {P:Program} {t e:TypeId} {sz bytes:Nat} {z:List Value} (W:eO P t e sz bytes z) {w:World} {p:Option Addr} {g s:Nat} {M:List Value} (h:Sl w e sz p g s M)
  {q:Option Addr} {sn sc:Nat} {f:List Value} (N:Cells w q f) (O:f.length=sn*sz) (X:∀u∈f,u.oneCell'=ag) (ty:TypeId) :
  ∃w',(pA #[t,t] ty #[.slice p g s,.slice q sn sc]).run P w=.ok (.int .i64 ((min sn g:Nat):Int)) w'/\Sl w' e sz p g s (f.take (min sn g*sz)++M.drop (min sn g*sz))/\av (bf p) w w':=by
 obtain⟨H,l,Y,Q⟩:=W;obtain⟨i,hi,A⟩:=lf.1 l;simp only[Prod.mk.injEq]at A;obtain⟨hz,J,Z⟩:=A;subst J;obtain⟨l1,R,l3,S⟩:=id h;generalize hm:min sn g=m;have B:m<=sn:=by omega
 have K:m<=g:=by omega
 have d:(f.take (m*i.size)).length=m*i.size:=by
  rw[eR,O];exact oi (fM _ B)
 have U:(um i.size m (.slice q sn sc)).run P w=.ok (f.take (m*i.size)).toArray w:=by
  cases q with
  | none=>
   have:f.take (m*i.size)=[]:=by
    apply lM;rw[d];by_cases h0:m*i.size=0
    ·exact h0
    ·have:0<f.length:=by
      rw[O];have:0<m*i.size:=by omega
      exact jM this (fM _ B)
     obtain⟨a,ha,_⟩:=N 0 f[0] (by simp[this]);cases ha
   rw[this]
   simp[um]
  | some a=>
   refine run_firstCells_some (P:=P) w i.size m a sn sc _ d (λj v I=>?_);rw[iI]at I;split at I
   ·obtain⟨b,hb,hc⟩:=N j v I;obtain rfl:=Option.some.inj hb;exact hc
   ·cases I
 have C:∀u∈f.take (m*i.size),u.oneCell'=ag:=λu H=>X u (List.mem_of_mem_take H)
 cases p with
 | none=>
  obtain⟨rfl,rfl⟩:=S;have:m=0:=by omega
  subst this;refine⟨w,?_,by simpa using h,av.refl _ _⟩
  simp[pA,run_underlying H,sizeOf,typeInfo,hi,sZ,U,goInt]at hm⊢
 | some a=>
  obtain⟨cells,n,D,k,E⟩:=S;obtain⟨b,o,sp⟩:=a;simp only at D n k E;subst D;have al:m*i.size<=s*i.size:=fM _ (by omega);have r:o+0+(f.take (m*i.size)).length<=cells.toArray.size:=by rw[d];simp only[List.size_toArray];omega
  have F:=run_storeCells_at P b o e (f.take (m*i.size)) 0 cells.toArray w n r C;simp only[pF]at F;have V:=Gd (w:=w) (b:=b) (c:=cells.toArray) (T:=e) n (bc cells o (f.take (m*i.size)));refine⟨_,?_,?_,V.ak ⟨_,rfl,rfl⟩⟩
  ·have G:Nat.min sn g=m:=hm;simp[pA,run_underlying H,sizeOf,typeInfo,hi,sZ,G,U,F,goInt,bc]
  ·have L:(bc cells o (f.take (m*i.size))).length=cells.length:=za (by rw[d];omega);have am:m*i.size<=g*i.size:=fM _ K;refine⟨by rw[cG,d,lN,l1];omega,R,l3,_,V.ay,rfl,by rw[L];exact k,?_⟩;subst E;apply de;intro j;have ap:g*i.size<=s*i.size:=fM _ R;unfold bc;simp only[iI,ik,od,cG,eR,d];generalize m*i.size=x at *;generalize g*i.size=y at *;generalize s*i.size=u at *;rw[eR]at d
   grind
theorem adT {P:Program} {t e:TypeId} {sz bytes:Nat} {z:List Value} (he:eO P t e sz bytes z) {w:World} {p:Option Addr} {g n:Nat} {L:List Value} (h:Sl w e sz p g n L)
  {q:Option Addr} {sn sc:Nat} {f:List Value} (S:Cells w q f) (U:f.length=sn*sz) (h1:∀u∈f,u.oneCell'=ag) (ty:TypeId) {k:Nat} (hk:k<=g) :
  ∃w',(pA #[t,t] ty #[.slice (gl p n k sz) (g-k) (n-k),.slice q sn sc]).run P w=.ok (.int .i64 ((min sn (g-k):Nat):Int)) w'/\
   Sl w' e sz p g n (bc L (k*sz) (f.take (min sn (g-k)*sz)))/\av (bf p) w w':=by
 obtain⟨D,s,al,V⟩:=he;obtain⟨i,hi,E⟩:=lf.1 s;simp only[Prod.mk.injEq]at E;obtain⟨hz,O,am⟩:=E;subst O;obtain⟨W,X,l3,Y⟩:=id h;generalize hm:min sn (g-k)=m;have F:m<=sn:=by omega
 have ap:m<=g-k:=by omega
 have d:(f.take (m*i.size)).length=m*i.size:=by
  rw[eR,U];exact oi (fM _ F)
 have M:(um i.size m (.slice q sn sc)).run P w=.ok (f.take (m*i.size)).toArray w:=by
  cases q with
  | none=>
   have:f.take (m*i.size)=[]:=by
    apply lM;rw[d];by_cases Q:m*i.size=0
    ·exact Q
    ·have:0<f.length:=by
      rw[U];have:0<m*i.size:=by omega
      exact jM this (fM _ F)
     obtain⟨a,ha,_⟩:=S 0 f[0] (by simp[this]);cases ha
   rw[this]
   simp[um]
  | some a=>
   refine run_firstCells_some (P:=P) w i.size m a sn sc _ d (λj v N=>?_);rw[iI]at N;split at N
   ·obtain⟨b,hb,hc⟩:=S j v N;obtain rfl:=Option.some.inj hb;exact hc
   ·cases N
 have G:∀u∈f.take (m*i.size),u.oneCell'=ag:=λu D=>h1 u (List.mem_of_mem_take D);have l:Nat.min sn (g-k)=m:=hm;have A:∀o,bc L o []=L:=λo=>by simp[bc]
 by_cases Q:m=0
 ·subst Q;simp only[Nat.zero_mul,List.take_zero]at M⊢;refine⟨w,?_,by rw[A];exact h,av.refl _ _⟩
  cases hp:gl p n k i.size with
  | none=>simp[pA,run_underlying D,sizeOf,typeInfo,hi,sZ,l,M,goInt]
  | some a=>simp[pA,run_underlying D,sizeOf,typeInfo,hi,sZ,l,M,goInt,storeCells]
 ·cases p with
  | none=>obtain⟨rfl,rfl⟩:=Y;omega
  | some a=>
   obtain⟨cells,B,H,r,I⟩:=Y;obtain⟨b,o,sp⟩:=a;simp only at H B r I;subst H
   have J:gl (aa (⟨b,o,ah⟩:Addr)) n k i.size=aa ⟨b,o+k*i.size,ah⟩:=by
    unfold gl;rw[af (by omega),gK,add_lit]
   have aq:k*i.size+m*i.size<=g*i.size:=by rw[<-la];exact fM _ (by omega)
   have az:g*i.size<=n*i.size:=fM _ X;have C:o+k*i.size+0+(f.take (m*i.size)).length<=cells.toArray.size:=by rw[d];simp only[List.size_toArray];omega
   have K:=run_storeCells_at P b (o+k*i.size) e (f.take (m*i.size)) 0 cells.toArray w B C G;simp only[pF]at K;have Z:=Gd (w:=w) (b:=b) (c:=cells.toArray) (T:=e) B (bc cells (o+k*i.size) (f.take (m*i.size)));rw[J];refine⟨_,?_,?_,Z.ak ⟨_,rfl,rfl⟩⟩
   ·simp[pA,run_underlying D,sizeOf,typeInfo,hi,sZ,l,M,K,goInt,bc]
   ·have R:(bc cells (o+k*i.size) (f.take (m*i.size))).length=cells.length:=za (by rw[d];omega);refine⟨by rw[za (by rw[d,W];omega),W],X,l3,_,Z.ay,rfl,by rw[R];exact r,?_⟩;subst I;apply de;intro j;unfold bc;simp only[iI,ik,od,cG,eR,d,lN];generalize m*i.size=x at *;generalize g*i.size=y at *;generalize n*i.size=u at *;generalize k*i.size=v at *;rw[eR]at d
    grind
def Lv {α:Type} (T:TypeId) (f:α->Value):Ob (Option Addr×Nat×List α):=λw F x=>(∀i,F i↔bf x.1 i)/\Sl w T 1 x.1 x.2.2.length x.2.1 (x.2.2.map f)
theorem TG {P:Program} {t e:TypeId} {bytes:Nat} {α:Type} {f:α->Value} {x0:α} (c:eO P t e 1 bytes [f x0]) (w:World) {n:Nat} (d:n*bytes<=140737488355328) (h:n<=1048576) (b k2:IntKind) :
  ∃w',(mE t (.int b (n:Int)) (.int k2 (n:Int))).run P w=.ok (.slice (aa ⟨w.heap.size,0,ah⟩) n n) w'/\av no w w'/\
   Lv e f w' (bf (aa ⟨w.heap.size,0,ah⟩)) (aa ⟨w.heap.size,0,ah⟩,n,aD n x0):=by
 obtain⟨w',g,a⟩:=run_mk c w d (by omega) b k2 (f:=λx:α=>[f x]) (x0:=x0) (λ_=>rfl) rfl;rw[Tu]at a;refine⟨w',g,a.ak no,λ_=>bp,?_⟩;simp only[fW];exact Sl.new a (by simp) (by unfold maxLen;omega)
structure Ring where
 r:List Int
 f:Nat
 m:Nat
structure Ring.ok (g:Ring):Prop where
 pos:0<g.r.length
 le:g.r.length<=1024
 f:g.f<g.r.length
 m:g.m<=g.r.length
def pl (c f k:Nat):Nat:=if f+k<c then f+k else f+k-c
theorem acF {c f k:Nat} (a:f<c) (b:k<=c):(f+k)%c=pl c f k:=by
 unfold pl;split
 ·exact jr (by assumption)
 ·rw[Nat.mod_eq_sub_mod (by omega),jr (by omega)]
theorem Bd {c f k:Nat} (a:f<c) (b:k<=c):pl c f k<c:=by unfold pl;split<;>omega
theorem acE {c f k j:Nat} (a:k<c) (b:j<c) (h:pl c f k=pl c f j):k=j:=by unfold pl at h;split at h<;>split at h<;>omega
def view (g:Ring):List Int:=(bU g.m).map (λk=>g.r.getD (pl g.r.length g.f k) 0)
theorem mu (g:Ring):(view g).length=g.m:=by simp[view]
theorem alC (g:Ring) {k:Nat} (h:k<g.m):(view g)[k]'(by rw[mu];exact h)=g.r.getD (pl g.r.length g.f k) 0:=by simp[view]
theorem zu (g:Ring) (k:Nat):(view g)[k]?=if k<g.m then aa (g.r.getD (pl g.r.length g.f k) 0)else ah:=by
 split
 ·rename_i h;rw[cO (by rw[mu];exact h),alC g h]
 ·exact fV (by rw[mu];omega)
theorem UM {g:Ring} (h:g.ok) {i:Nat} (hi:i<g.r.length) (v:Int) {m:Nat} (b:m<=g.r.length) :
  view ⟨g.r.set (pl g.r.length g.f i) v,g.f,m⟩=(view ⟨g.r,g.f,m⟩).set i v:=by
 apply de;intro k;rw[zu,cJ,zu,mu];simp only[bN];by_cases hk:k<m
 ·simp only[hk,if_true];by_cases a:i=k
  ·subst a;simp[hk,aO,Bd h.f (Nat.le_of_lt hi)]
  ·rw[af a];have:pl g.r.length g.f i≠pl g.r.length g.f k:=λe=>a (acE hi (by omega) e);simp[aO,this]
 ·simp only[hk,if_false];by_cases a:i=k
  ·rw[aj a,af (by omega)]
  ·rw[af a]
theorem alE (r:List Int) (f m:Nat):view ⟨r,f,m+1⟩=view ⟨r,f,m⟩++[r.getD (pl r.length f m) 0]:=by
 simp[view,nq]
theorem alG {g:Ring} (h:g.ok) (a:g.m<g.r.length) (v:Int):view ⟨g.r.set (pl g.r.length g.f g.m) v,g.f,g.m+1⟩=view g++[v]:=by
 rw[alE,bN,UM h a v h.m]
 have b:(view ⟨g.r,g.f,g.m⟩).set g.m v=view g:=by
  apply List.set_eq_of_length_le;rw[mu];exact aX _
 rw[b];simp[aO,Bd h.f h.m]
theorem alF {g:Ring} (h:g.ok) (a:0<g.m):view g=g.r.getD g.f 0::view ⟨g.r,pl g.r.length g.f 1,g.m-1⟩:=by
 apply de;intro k;have b:=h.f;have c:=h.m
 cases k with
 | zero=>
  rw[zu,aj a];have:pl g.r.length g.f 0=g.f:=by unfold pl;split<;>omega
  rw[this]
  rfl
 | succ k=>
  rw[List.getElem?_cons_succ,zu,zu];by_cases hk:k+1<g.m
  ·rw[aj hk,aj (show k<g.m-1 by omega)]
   have:pl g.r.length g.f (k+1)=pl g.r.length (pl g.r.length g.f 1) k:=by
    have d:=h.pos;unfold pl;split<;>split<;>split<;>omega
   rw[this]
  ·rw[af hk,af (show ¬k<g.m-1 by omega)]
theorem alB (n:Nat):view ⟨aD n 0,0,0⟩=[]:=rfl
theorem UL {g:Ring} (h:g.ok) {x:Int} {l:List Int} (a:view g=x::l):0<g.m/\g.r.getD g.f 0=x/\view ⟨g.r,pl g.r.length g.f 1,g.m-1⟩=l:=by
 have b:0<g.m:=by
  have:=mu g;rw[a]at this;simp at this;omega
 rw[alF h b]at a;simp only[List.cons.injEq]at a;exact⟨b,a.1,a.2⟩
theorem alD (r:List Int) (f:Nat) {m k:Nat} (h:k<=m):view ⟨r,f,k⟩=(view ⟨r,f,m⟩).take k:=by
 unfold view;rw[<-List.map_take,List.take_range,oi h]
theorem adt {g:Ring} (h:g.ok) (f:Int->Value) :
  bc (((g.r.map f).drop g.f).take (min (g.r.length-g.f) g.m)++((aD g.m (0:Int)).map f).drop (min (g.r.length-g.f) g.m)) (min (g.r.length-g.f) g.m)
   ((g.r.map f).take (min g.r.length (g.m-min (g.r.length-g.f) g.m)))=(view g).map f:=by
 have e:=h.f;have i:=h.m;apply de;intro k;generalize j:min (g.r.length-g.f) g.m=n;have a:min g.r.length (g.m-n)=g.m-n:=by omega
 rw[a,fy,zu];unfold bc;simp only[od,iI,ik,fy,jt,cG,eR,lN,bW,fW];by_cases hk:k<g.m
 ·rw[aj hk];by_cases b:k<n
  ·have c:pl g.r.length g.f k=g.f+k:=by unfold pl;split<;>omega
   have d:g.f+k<g.r.length:=by omega
   simp[b,c,aO,d]
   grind
  ·have c:pl g.r.length g.f k=k-n:=by unfold pl;split<;>omega
   have d:k-n<g.r.length:=by omega
   simp[c,aO,d]
   grind
 ·rw[af hk];simp
  grind
theorem vd {α:Type} {f:α->Value} {r:List α} {k:Nat} (h:k<r.length) {v:α}:bc (r.map f) k [f v]=(r.set k v).map f:=by
 unfold bc;rw[fx];apply de;intro j;simp only[od,iI,ik,cJ,cG,eR,bW,il,oq]
 grind
theorem Pt {α:Type} {f:α->List Value} {sz:Nat} (a:∀x,(f x).length=sz) (l:List α):(l.flatMap f).length=l.length*sz:=by
 induction l with
 | nil=>simp
 | cons x l b=>rw[pC,cG,a,b,il,la,s7,Nat.add_comm]
theorem Kb {α:Type} {f:α->List Value} {sz:Nat} (a:∀x,(f x).length=sz):∀{l:List α} {k o:Nat} {vs:List Value} {x:α} (hk:k<l.length),o+vs.length<=sz->f x=bc (f l[k]) o vs->
  bc (l.flatMap f) (k*sz+o) vs=(l.set k x).flatMap f
 | y::l,0,o,vs,x,_,d,b=>by
  have c:=a y;simp only[pC,Nat.zero_mul,eU,qD];rw[b];simp only[vC];unfold bc;apply de;intro j;simp only[od,iI,ik,cG,eR,lN,c]
  grind
 | y::l,k+1,o,vs,x,hk,d,b=>by
  have c:=a y;simp only[pC,qE];have e:=Kb a (l:=l) (k:=k) (o:=o) (vs:=vs) (x:=x) (by simpa using hk) d (by simpa using b);rw[<-e];unfold bc;have g:(k+1)*sz+o=sz+(k*sz+o):=by rw[la,s7];omega
  rw[g];apply de;intro j;simp only[od,iI,ik,cG,eR,c];generalize k*sz+o=u
  grind
theorem TN {a b vs:List Value} {o:Nat} (h:o+vs.length<=a.length):bc (a++b) o vs=bc a o vs++b:=by
 unfold bc;apply de;intro j;simp only[od,iI,ik,cG,eR,lN]
 grind
theorem Pu {α:Type} {f:α->List Value} {sz:Nat} (a:∀x,(f x).length=sz) {l:List α} {k:Nat} (d:k<l.length):((l.flatMap f).drop (k*sz)).take sz=f l[k]:=by
 apply de;intro j;rw[iI,ik];by_cases b:j<sz
 ·rw[aj b];have c:(f l[k])[j]?=aa ((f l[k])[j]'(by rw[a];exact b)):=by simp[a,b]
  rw[c];exact yi a d c
 ·rw[af b,fV (by rw[a];omega)]
theorem LO {P:Program} {t e:TypeId} {bytes:Nat} {z:List Value} (k:eO P t e 1 bytes z) {w w1:World} {p:Option Addr} {n c:Nat} {cs:List Value} {v:Value} (l:v.oneCell'=ag) (h:Sl w e 1 p n c cs) (o:(n+1)*bytes<=140737488355328) (y:n<=1048576)
  {T:TypeId} (b:dy w w1 (.cells (dK [v]) T (0,0))) (ty:TypeId) :
  ∃p' c' a,(bR #[t,t] ty #[.slice p n c,.slice (aa ⟨w.heap.size,0,ah⟩) 1 1]).run P w1=.ok (.slice p' (n+1) c') a/\Sl a e 1 p' (n+1) c' (cs++[v])/\av (bf p) w a/\(∀i,bf p' i->bf p i∨w.heap.size<=i):=by
 have q:=h.ak (b.ak no) (λ_ _ g=>g);have j:Sl w1 T 1 (aa ⟨w.heap.size,0,ah⟩) 1 1 [v]:=Sl.new b (by simp) (by unfold maxLen;omega);obtain⟨p',A,c',a,r,g,s,u,x⟩:=y8 k q j.cells (m:=1) (d:=1) (by simp) (by simpa using l) (by simp) o (by omega) ty;refine⟨p',c',a,by rw[r,g],s,(b.ak _).trans u (λi _ hi=>hi),λi hi=>(x i hi).imp id (λh=>?_)⟩;rw[b.size]at h;omega
section
variable {α:Type} {f:α->Value}
end
theorem Yg:eO Tryz.prog 290 29 1 8 [.int .u64 0]:=⟨by kernel_rfl,by kernel_rfl,rfl,by omega⟩
structure xf (ws:List BV) (o:List Bool):Prop where
 len:ws.length=(o.length+63)/64
 bits:∀(i:Nat) (hi:i<ws.length) (k:Nat),k<64->ws[i].getLsbD k=o.getD (64*i+k) ae
def KT (m:BV):Value:=.int .u64 (mi m)
def BC (x:List BV×List Bool) (p:Option Addr) (c:Nat):List Value:=[.slice p x.1.length c,I (x.2.length:Int),I ((x.2.count ag:Nat):Int)]
abbrev CD (b:Nat):Ob ((List BV×List Bool)×Option Addr×Nat):=Hd b 292 29 1 BC (λx=>x.1.length) (λx=>x.1.map KT)
def dq (b:Nat):Ob (List Bool):=λw F o=>∃ws y,CD b w F ((ws,o),y)/\xf ws o/\1<=o.length/\o.length<=1024
instance Frame.slo (b:Nat):Frame (dq b) where
 ak:=λ⟨ws,y,h,r⟩ k a=>⟨ws,y,(Frame.hd ..).ak h k a,r⟩
 lt:=λ⟨_,_,h,_⟩=>(Frame.hd ..).lt h
def cQ (o:List Bool) (n:Int):Bool:=if 1<=n then o.getD (n.toNat-1) ae else ae
def eL (o:List Bool):Int×Int:=match o.findIdx? (λx=>!x)with|some i=>((i:Int)+1,0)|none=>(0,5)
def jk (o:List Bool):List Bool:=match o.findIdx? (λx=>!x)with|some i=>o.set i ag|none=>o
def tF (o:List Bool) (n:Int):Int:=if cQ o n then 0 else 4
def mR (o:List Bool) (n:Int):List Bool:=if cQ o n then o.set (n.toNat-1) ae else o
def oX (o:List Bool) (k:Nat):List Int:=((bU k).filter (λi=>o.getD i ae)).map (λ(i:Nat)=>(i:Int)+1)
theorem PL (o:List Bool) (n:Int):(mR o n).length=o.length:=by unfold mR;split<;>simp
theorem acn (o:List Bool) (k:Nat):oX o (k+1)=if o.getD k ae then oX o k++[(k:Int)+1]else oX o k:=by
 unfold oX;rw[nq,td,eI];by_cases h:o.getD k ae=ag
 ·rw[aj h,List.filter_cons_of_pos (p:=λi=>o.getD i ae) h];rfl
 ·rw[af h,List.filter_cons_of_neg (p:=λi=>o.getD i ae) h];simp
theorem EE (o:List Bool) (k:Nat):(oX o k).length<=k:=by unfold oX;rw[bW];exact aW (jN ..) (by simp)
theorem abc {o:List Bool} {k:Nat} {n:Int}:n∈oX o k↔1<=n/\n<=k/\cQ o n=ag:=by
 unfold oX cQ;rw[ck];constructor
 ·rintro⟨i,hi,rfl⟩;rw[ij,cD]at hi;refine⟨by omega,by omega,?_⟩;rw[aj (by omega),show((i:Int)+1).toNat-1=i by omega];exact hi.2
 ·rintro⟨h1,c,a⟩;rw[aj h1]at a;exact⟨n.toNat-1,ij.2 ⟨cD.2 (by omega),a⟩,by omega⟩
theorem sf {o:List Bool} {n:Int} (h:cQ o n=ag):1<=n/\n<=(o.length:Int):=by
 unfold cQ at h;split at h
 ·refine⟨by assumption,?_⟩;by_cases a:n.toNat-1<o.length
  ·omega
  ·rw[aO,fV (by omega)]at h;simp at h
 ·cases h
theorem qO {o:List Bool} {k:Nat}:cQ o ((k:Int)+1)=o.getD k ae:=by
 unfold cQ;rw[aj (by omega),show((k:Int)+1).toNat-1=k by omega]
theorem count_set {o:List Bool} {k:Nat} (a:k<o.length) (v:Bool):(o.set k v).count ag+(if o[k]then 1 else 0)=o.count ag+(if v then 1 else 0):=by
 induction o generalizing k with
 | nil=>simp at a
 | cons x l c=>
  cases k with
  | zero=>cases x<;>cases v<;>simp
  | succ k=>
   have:=c (k:=k) (by simpa using a);simp only[qE,List.count_cons,te];omega
theorem Hg (o:List Bool):o.count ag<=o.length:=List.count_le_length
theorem Hf {o:List Bool}:o.count ag=o.length↔o.findIdx? (λx=>!x)=ah:=by
 rw[ta];constructor
 ·intro h x a;rw[List.count_eq_length]at h;simp[<-h x a]
 ·intro h;rw[List.count_eq_length];intro x a;have:=h x a;simpa using this.symm
theorem xf.set {ws:List BV} {o:List Bool} (h:xf ws o) {i k:Nat} (hi:i<ws.length) (l:k<64) (f:64*i+k<o.length) {v:Bool} {x:BV} (g:∀j,j<64->x.getLsbD j=if j=k then v else ws[i].getLsbD j):xf (ws.set i x) (o.set (64*i+k) v):=by
 refine⟨by simpa using h.len,λd a j c=>?_⟩;rw[bN]at a;rw[List.getElem_set,aO,cJ];by_cases h1:i=d
 ·subst h1;rw[aj rfl,g j c];by_cases e:j=k
  ·subst e;simp[f]
  ·rw[af e,af (by omega),h.bits i hi j c,aO]
 ·rw[af h1,af (by omega),h.bits d a j c,aO]
theorem yk {m:BV} {k:Nat} (a:k<64):hs m (k:Int)=m.getLsbD k:=by
 unfold hs;rw[decide_eq_true (show 0<=(k:Int)/\(k:Int)<64 by omega)];simp
theorem L1 {m:BV} {k:Nat} (a:k<64):(aH .and .u64 (mi m) (mi (bt k))==0) = !m.getLsbD k:=by
 rw[xE,l9,<-yk a,<-LL];simp
theorem al3 {m:BV} {k j:Nat} (c:k<64) (a:j<64):(wi m k).getLsbD j=if j=k then ag else m.getLsbD j:=by
 rw[<-yk a,oT,yk a];by_cases h:j=k
 ·subst h;simp;omega
 ·simp[h];omega
theorem aa0 {m:BV} {k j:Nat} (a:j<64):(ls m k).getLsbD j=if j=k then ae else m.getLsbD j:=by
 rw[<-yk a,iM,yk a];by_cases h:j=k
 ·subst h;simp
 ·simp[h];omega
section
variable {w:World} {F:Fp} {b:Nat} {o:List Bool}
theorem Fh (n:Int) (w:World):Cx 107 #[I n] w λe w'=>
  (¬(1<=n/\n<=1024)/\e=Z (.tuple #[.pointer ah,I 2])/\w'=w)∨
  ((1<=n/\n<=1024)/\∃b F,e=Z (.tuple #[pt b,I 0])/\dq b w' F (aD n.toNat ae)/\av no w w'/\∀i,F i->w.heap.size<=i):=by
 refine ahc ?_;refine⟨λc=>⟨λd=>.inl ⟨?_,rfl,rfl⟩,λd=>⟨by decide,?_⟩⟩,λc=>.inl ⟨?_,rfl,rfl⟩⟩
 ·simp at d;omega
 ·have c:¬n<1:=by simpa using c
  have d:¬1024<n:=by simpa using d
  obtain⟨m,rfl⟩:∃m:Nat,n=m:=⟨n.toNat,by omega⟩
  have r:aV .i64 (jq (aV .i64 (aV .i64 ((m:Int)+64)-1)) 64)=(((m+63)/64:Nat):Int):=by
   rw[aP (x:=(m:Int)+64) (by omega),aP (x:=(m:Int)+64-1) (by omega),xw (by omega),aP (by omega)];omega
  rw[r];obtain⟨w1,s,g,p⟩:=TG (f:=KT) (x0:=0) Yg w (n:=(m+63)/64) (by omega) (by omega) .i64 .i64;refine⟨_,_,_,w1,s,⟨λt j=>.inr ⟨by omega,w1.heap.size,λi=>i=w1.heap.size∨bf (aa ⟨w.heap.size,0,ah⟩) i,rfl,⟨aD ((m+63)/64) 0,(aa ⟨w.heap.size,0,ah⟩,(m+63)/64),⟨?_,?_,?_,λ_=>bp⟩,⟨by simp,λi hi k y=>?_⟩,by simp;omega,by simp;omega⟩,g.and (j.ak no),?_⟩⟩⟩
  ·show aM t w1.heap.size (BC (aD ((m+63)/64) 0,aD (aG (m:Int)) ae) _ ((m+63)/64)) _;unfold BC;simp only[fW,bQ,List.count_replicate];exact j.aK
  ·have q:=p.2.ak (j.ak no) λ_ _ h=>h;simp only[fW]at q⊢;exact q
  ·rintro⟨a,l,u⟩;cases l;have:=g.size;have:=p.2.lt _ ⟨_,rfl,rfl⟩;simp only at u this;omega
  ·simp[aO,jt];split<;>rfl
  ·rintro i (rfl|⟨a,l,rfl⟩)
   ·exact g.size
   ·cases l;exact aX _
 ·simp at c;omega
theorem aeo (h:dq b w F o):Cx 339 #[pt b] w λe w'=>e=Z (I (o.length:Int))/\w'=w:=by
 obtain⟨ws,y,a,c,d⟩:=h;refine akK ?_;exact⟨λh=>by simp at h,λ_=>⟨_,rfl,_,a.ay.cell rfl,rfl,rfl⟩⟩
theorem TZ {o:List Bool} {n:Int} (h:1<=n/\n<=(o.length:Int)):∃i k:Nat,k<64/\64*i+k<o.length/\n=((64*i+k:Nat):Int)+1:=
 ⟨(n.toNat-1)/64,(n.toNat-1)%64,by omega,by omega,by omega⟩
theorem TV {ws:List BV} {y:Option Addr×Nat} (h:CD b w F ((ws,o),y)) (j:xf ws o) (x:1<=o.length/\o.length<=1024) {i k:Nat} (z:k<64) (A:64*i+k<o.length) :
  Cx 363 #[pt b,I (((64*i+k:Nat):Int)+1)] w λe w'=>(∃a,y.1=aa a/\e=Z (.tuple #[.pointer (aa (a.add (i*1))),.int .u64 (mi (bt k))]))/\av no w w':=by
 refine UE ?_;refine⟨λ_=>⟨λ_=>⟨_,rfl,_,h.ay.cell rfl,λg=>absurd (aL g) (by simp only;omega),λ_=>?_⟩,λg=>absurd (aL g) (by omega)⟩,λg=>by simp at g⟩;intro w1 m n p q;have d:=av.same no m n p q;have f:=(Frame.hd ..).ak h d λ_ _ h=>h;have r:aV .i64 (((64*i+k:Nat):Int)+1-1)=((64*i+k:Nat):Int):=by rw[aP (by omega)];omega
 have s:jq ((64*i+k:Nat):Int) 64=(i:Int):=by rw[xw (by omega)];omega
 have t:eH ((64*i+k:Nat):Int) 64=(k:Int):=by rw[ot (by omega)];omega
 have u:aV .i64 (i:Int)=(i:Int):=aP (by omega);have hi:i<ws.length:=by have:=j.len;omega
 obtain⟨a,c,_⟩:=f.sl.cells.cv (l:=ws) hi;rw[r,s,t,u,Kc (by omega)]
 first
  | exact⟨_,rfl,_,_,_,f.ay.cell rfl,by decide,⟨by omega,by simp only;omega⟩,a,c,by decide,by omega,⟨a,c,rfl⟩,d⟩
  | exact⟨_,rfl,_,_,_,f.ay.cell rfl,by decide,by decide,by omega,⟨by omega,by simp only;omega⟩,a,c,⟨a,c,rfl⟩,d⟩
  | exact⟨_,rfl,_,_,_,f.ay.cell rfl,by decide,⟨by omega,by simp only;omega⟩,a,c,by decide,by omega,rfl,d⟩
theorem TW (h:dq b w F o) {n:Int} (d:¬(1<=n/\n<=(o.length:Int))):Cx 363 #[pt b,I n] w λe w'=>e=Z (.tuple #[.pointer ah,.int .u64 0])/\w'=w:=by
 obtain⟨ws,y,a,f,i⟩:=h;refine UE ?_;refine⟨λ_=>⟨λg=>⟨_,rfl,_,a.ay.cell rfl,λ_=>⟨rfl,rfl⟩,λc=>?_⟩,λ_=>⟨rfl,rfl⟩⟩,λg=>by simp at g⟩;have:=aT g;have:=aT c;simp only at this;omega
theorem aep (h:dq b w F o) (n:Int):Cx 340 #[pt b,I n] w λe w'=>e=Z (.bool (cQ o n))/\av no w w':=by
 refine akL ?_;by_cases c:1<=n/\n<=(o.length:Int)
 ·obtain⟨ws,y,q,d,s⟩:=h;obtain⟨i,k,f,t,rfl⟩:=TZ c;refine⟨(TV q d s f t).mono ?_⟩;rintro e w1 ⟨⟨a,u,rfl⟩,r⟩;have j:=(Frame.hd ..).ak q r λ_ _ h=>h;have hi:i<ws.length:=by have:=d.len;omega
  obtain⟨C,p,x⟩:=j.sl.cells.cv (l:=ws) hi;obtain rfl:=Option.some.inj (u.symm.trans p);have z:=L1 (m:=ws[i]) f;have A:=d.bits i hi k f;refine⟨_,_,rfl,λ_=>⟨_,rfl,_,x,?_,r⟩,λg=>by simp at g⟩;rw[bne,z,A,Bool.not_not,qO]
 ·refine⟨(TW h c).mono ?_⟩;rintro e w1 ⟨rfl,rfl⟩
  have:cQ o n=ae:=by
   cases B:cQ o n with
   | false=>rfl
   | true=>exact absurd (sf B) c
  rw[this];exact⟨_,_,rfl,λg=>by simp at g,λ_=>⟨rfl,av.refl _ _⟩⟩
theorem TY {ws:List BV} {y:Option Addr×Nat} (h:CD b w F ((ws,o),y)) (s:xf ws o) (t:1<=o.length/\o.length<=1024) {w1:World} (n:av no w w1) {i k:Nat} (u:k<64) (z:64*i+k<o.length) (hi:i<ws.length) {v:Bool} {x:BV}
  (A:∀j,j<64->x.getLsbD j=if j=k then v else ws[i].getLsbD j) {K:World->Prop}
  (B:∀c,c.cell? ((⟨b,0,ah⟩:Addr).add 2)=aa (I ((o.count ag:Nat):Int))->Wr c ((⟨b,0,ah⟩:Addr).add 2) [I (((o.set (64*i+k) v).count ag:Nat):Int)] (λp=>ai (dq b) w p F (o.set (64*i+k) v))->K c) :
  ∃a,y.1=aa a/\Wr w1 (a.add (i*1)) [.int .u64 (mi x)] K:=by
 have q:=(Frame.hd ..).ak h n λ_ _ h=>h;have m:=q.sl;obtain⟨a,f,_⟩:=m.cells.cv (l:=ws) hi;simp only at f m;rw[f]at m;refine⟨a,f,m.wr (o:=i*1) (by simp;omega) λc d g=>?_⟩;have hB:=q.CT (w1:=c) (by rw[f];exact g);rw[eX]at d;have e:[aB .u64 (mi x)]=[KT x]:=rfl;rw[e,vd hi]at d;refine B c (hB.cell rfl) (hB.wr (by simp[BC]) λp C=>?_)
 have D:ai (CD b) w1 p F ((ws.set i x,o.set (64*i+k) v),y):=by
  refine q.put (p':=y.1) (c':=y.2) (w1:=c) ?_ (by rw[f];exact g) (λi hi=>.inl hi) ?_
  ·simp only[bN];rw[f];exact d
  ·have r:=C;simp only[BC,bN];exact r
 obtain⟨E,t1,t2,G⟩:=D;exact⟨E,⟨_,y,t1,s.set hi u z A,by simpa using t⟩,(n.mono (λ_ _ h=>h.elim)).trans t2 (λ_ _ h=>h),λi hi=>(G i hi).imp id (λh=>aW n.size h)⟩
theorem Fg (h:dq b w F o) (n:Int):Cx 305 #[pt b,I n] w λe w'=>e=Z (I (tF o n))/\ai (dq b) w w' F (mR o n):=by
 refine ake ?_;by_cases r:1<=n/\n<=(o.length:Int)
 ·obtain⟨ws,y,s,f,G⟩:=id h;obtain⟨i,k,p,q,rfl⟩:=TZ r;refine⟨(TV s f G p q).mono ?_⟩;rintro e w1 ⟨⟨a,H,rfl⟩,t⟩;have u:=(Frame.hd ..).ak s t λ_ _ h=>h;have hi:i<ws.length:=by have:=f.len;omega
  obtain⟨X,z,J⟩:=u.sl.cells.cv (l:=ws) hi;obtain rfl:=Option.some.inj (H.symm.trans z);have A:=L1 (m:=ws[i]) p;have L:=f.bits i hi k p;rw[L]at A;have B:cQ o (((64*i+k:Nat):Int)+1)=o.getD (64*i+k) ae:=qO;have M:=Hg o;have d:=count_set q ae;have c:o.getD (64*i+k) ae=o[64*i+k]:=by simp[q]
  refine⟨_,_,rfl,λg=>by simp at g,λ_=>⟨λ_=>⟨_,rfl,_,J,λg=>?_,λg=>?_⟩,λg=>by simp at g⟩⟩
  ·have g:o.getD (64*i+k) ae=ae:=by rw[A]at g;simpa using g
   rw[tF,mR,B,g];exact⟨rfl,ai.quiet h t⟩
  ·have g:o.getD (64*i+k) ae=ag:=by rw[A]at g;simpa using g
   rw[c]at g;rw[g]at d;simp only[if_true,fD,if_false]at d;refine⟨_,rfl,_,J,?_⟩;rw[zX]
   obtain⟨Y,C,N⟩:=TY s f G t p q hi (v:=ae) (x:=ls ws[i] k) (λj O=>aa0 O) (K:=λD=>∃a,aa (⟨b,0,ah⟩:Addr)=aa a/\∃n_1,D.cell? (bP a 2)=aa (aB .i64 n_1)/\∃a,aa (⟨b,0,ah⟩:Addr)=aa a/\Wr D (bP a 2) [aB .i64 (aV .i64 (n_1-1))] λw'=>cN (aB .i64 0)=cN (I (tF o (((64*i+k:Nat):Int)+1)))/\ai (dq b) w w' F (mR o (((64*i+k:Nat):Int)+1)))
    (λD c1 c2=>⟨_,rfl,_,c1,_,rfl,by
     rw[aP (by omega),show((o.count ag:Nat):Int)-1=(((o.set (64*i+k) ae).count ag:Nat):Int) by omega];obtain⟨⟨P,T,Q,R,S,U⟩⟩:=c2;refine⟨⟨P,T,Q,R,S,λw' E=>⟨?_,?_⟩⟩⟩
     ·rw[tF,B,c,g];rfl
     ·rw[mR,B,c,g,aj rfl,show(((64*i+k:Nat):Int)+1).toNat-1=64*i+k by omega];exact U w' E⟩)
   obtain rfl:=Option.some.inj (H.symm.trans C);exact⟨_,rfl,N⟩
 ·have V:cQ o n=ae:=by
   cases W:cQ o n with
   | false=>rfl
   | true=>exact absurd (sf W) r
  refine⟨(TW h r).mono ?_⟩;rintro e w1 ⟨rfl,rfl⟩;rw[tF,mR,V];exact⟨_,_,rfl,λg=>by simp at g,λ_=>⟨λg=>by simp at g,λ_=>⟨rfl,ai.same h⟩⟩⟩
theorem Fj (hT:Tab w) (h:dq b w F o):Cx 149 #[pt b] w λe w'=>e=Z (.tuple #[I (eL o).1,I (eL o).2])/\ai (dq b) w w' F (jk o):=by
 obtain⟨ws,y,G,H,h3⟩:=id h;have am:=Hg o;refine ahS ?_;refine⟨λg=>by simp at g,λ_ w1 J L N O=>?_⟩;have d:=av.same no J L N O;have c:=(Frame.hd ..).ak G d λ_ _ h=>h;refine⟨_,rfl,_,c.ay.cell rfl,_,rfl,_,c.ay.cell rfl,λg=>?_,λg=>⟨_,rfl,_,_,_,c.ay.cell rfl,?_⟩⟩
 ·have g:o.count ag=o.length:=by have:=eq_of_beq g;simp only at this;omega
  have hn:=Hf.1 g;simp only[eL,jk,hn];exact⟨by trivial,ai.quiet h d⟩
 ·have g:o.count ag≠o.length:=by have:=ne_of_beq_false g;simp only at this;omega
  have al:=H.len;refine⟨bO bu (M:=BX) (σ:=Nat) (λj=>Hq (aa ⟨b,0,ah⟩) y.1 ws.length y.2 (ws.length:Int) (j:Int)) (λj w'=>j<=ws.length/\(∀i,i<64*j->i<o.length->o.getD i ae=ag)/\av no w w') (λj _=>ws.length-j) 0 ⟨rfl,rfl,rfl,rfl,trivial⟩ ⟨by omega,λi hi=>by omega,d⟩ ?_⟩;clear c d J L N O;rintro j w2 ⟨k1,k2,d⟩;rw[ae1];have c:=(Frame.hd ..).ak G d λ_ _ h=>h;refine⟨λQ=>?_,λQ=>?_⟩
  ·have t:j<ws.length:=by simpa using Q
   obtain⟨a,ha,hc⟩:=c.sl.cells.cv (l:=ws) t;refine⟨⟨by omega,by omega⟩,a,ha,_,hc,?_⟩;show Call Tryz.prog _ [.int .u64 (aH .xor .u64 (pG .u64) (mi ws[j]))] w2 _;rw[show pG .u64=18446744073709551615 by decide +kernel,ab4];refine⟨(KK _ (hT.no d)).mono ?_⟩;rintro e w3 ⟨rfl,rfl⟩;refine⟨_,rfl,λu=>?_,λu=>?_⟩
   ·have p:=UB.1 (aL u);obtain⟨k,P,z,A⟩:=yx p;have R:=FN P z A;rw[R]
    have nb:∀i:Nat,i<64->hs (~~~ ws[j]) (i:Int) = !(o.getD (64*j+i) ae):=λi hi=>by
     rw[yk hi,BitVec.getLsbD_not,H.bits j t i hi];simp[hi]
    have f:o.getD (64*j+k) ae=ae:=by have:=nb k P;rw[z]at this;simpa using this.symm
    have n:∀i,i<64*j+k->i<o.length->o.getD i ae=ag:=λi hi q=>by
     by_cases r:i<64*j
     ·exact k2 i r q
     ·have:=nb (i-64*j) (by omega);rw[A _ (by omega),show 64*j+(i-64*j)=i by omega]at this;simpa using this.symm
    have B:64*j+k<o.length:=Decidable.byContradiction λap=>g (Hf.2 (ta.2 λx S=>by
     obtain⟨i,hi,rfl⟩:=List.mem_iff_getElem.1 S;have:=n i (by omega) hi;simp[hi]at this;simp[this]))
    have hf:o.findIdx? (λx=>!x)=aa (64*j+k):=oo.2 ⟨B,by simp[B]at f;simp[f],λi hi=>by
     have:=n i hi (by omega);simp[show i<o.length by omega]at this;simp[this]⟩
    have C:=count_set B ag;have U:o[64*j+k]=ae:=by simp[B]at f;exact f
    rw[U]at C;simp only[if_true,fD,if_false]at C;have D:=Hg (o.set (64*j+k) ag);rw[bN]at D;intro w4 J L N O;have E:=d.and (av.same no J L N O);have h4:=(Frame.hd ..).ak G E λ_ _ h=>h;obtain⟨a4,s,V⟩:=h4.sl.cells.cv (l:=ws) t;refine⟨_,rfl,_,_,_,h4.ay.cell rfl,⟨by omega,by simp only;omega⟩,a4,s,_,V,by omega,⟨by omega,by simp only;omega⟩,a4,s,?_⟩;show Wr w4 _ [.int .u64 (aH .or .u64 (mi ws[j]) (fB .u64 1 (k:Int)))] _;rw[Kc (by omega),L2]
    obtain⟨a2,W,hW⟩:=TY G H h3 E P B t (v:=ag) (x:=wi ws[j] k) (λi hi=>al3 P hi) (K:=λX=>∃a,aa (⟨b,0,ah⟩:Addr)=aa a/\∃n_1,X.cell? (bP a 2)=aa (aB .i64 n_1)/\∃a,aa (⟨b,0,ah⟩:Addr)=aa a/\Wr X (bP a 2) [aB .i64 (aV .i64 (n_1+1))] λw'=>cN (xq #[I (aV .i64 (aV .i64 (aV .i64 ((j:Int)*64)+(k:Int))+1)),I 0])=cN (.tuple #[I (eL o).1,I (eL o).2])/\ai (dq b) w w' F (jk o))
     (λX c1 c2=>⟨_,rfl,_,c1,_,rfl,by
      rw[aP (x:=((o.count ag:Nat):Int)+1) (by omega),show((o.count ag:Nat):Int)+1=(((o.set (64*j+k) ag).count ag:Nat):Int) by omega];obtain⟨⟨cc,T,r1,r2,r3,r4⟩⟩:=c2;refine⟨⟨cc,T,r1,r2,r3,λw' Y=>⟨?_,?_⟩⟩⟩
      ·simp only[eL,hf];rw[aP (x:=(j:Int)*64) (by omega),aP (x:=(j:Int)*64+(k:Int)) (by omega),aP (by omega)];have:(j:Int)*64+(k:Int)+1=((64*j+k:Nat):Int)+1:=by omega
       rw[this]
      ·simp only[jk,hf];exact r4 w' Y⟩)
    obtain rfl:=Option.some.inj (s.symm.trans W);exact hW
   ·have u:¬tz (~~~ ws[j])<64:=aT u;have hz : ~~~ ws[j]=0:=Decidable.byContradiction λp=>u (UB.2 p);refine⟨j+1,⟨rfl,rfl,rfl,by rw[aP (by omega)];rfl,trivial⟩,⟨by omega,λi hi q=>?_,d⟩,by omega⟩;by_cases r:i<64*j
    ·exact k2 i r q
    ·have hb:=H.bits j t (i-64*j) (by omega);rw[show 64*j+(i-64*j)=i by omega]at hb;rw[<-hb];have:=congrArg (λm:BV=>m.getLsbD (i-64*j)) hz;simp only[BitVec.getLsbD_not]at this;simp[show i-64*j<64 by omega]at this;exact this
  ·have:j=ws.length:=by simp at Q;omega
   subst this;refine absurd (Hf.2 (ta.2 λx S=>?_)) g;obtain⟨i,hi,rfl⟩:=List.mem_iff_getElem.1 S;have:=k2 i (by omega) hi;simp[hi]at this;simp[this]
theorem aeq (h:dq b w F o):Cx 272 #[pt b] w λe w'=>∃p c,e=Z (.slice p (oX o o.length).length c)/\Loc w w' 3 p c (oX o o.length):=by
 have A:o.length<=1024:=by obtain⟨_,_,_,_,l⟩:=h;exact l.2
 refine ajM ?_;refine⟨(aeo h).mono ?_⟩;rintro e w1 ⟨rfl,rfl⟩
 refine⟨_,rfl,⟨bO bu (M:=B9) (σ:=Nat×Option Addr×Nat) (λs=>HH (aa ⟨b,0,ah⟩) s.2.1 (oX o s.1).length s.2.2 (o.length:Int) (s.1:Int))
  (λs w'=>s.1<=o.length/\Loc w1 w' 3 s.2.1 s.2.2 (oX o s.1)) (λs _=>o.length-s.1) (0,ah,0) ⟨rfl,rfl,rfl,rfl,trivial⟩ ⟨by omega,Loc.nil (av.refl _ _) _⟩ ?_⟩⟩
 rintro⟨j,p,c⟩ m ⟨n,f⟩;simp only at n f⊢;rw[aft];have a:=acn o j;have q:=EE o j;refine⟨λg=>?_,λg=>?_⟩
 ·have B:j<o.length:=by simpa using g
  rw[aP (x:=(j:Int)+1) (by omega)];have r:dq b m F o:=(Frame.slo b).ak h f.U λ_ _ h=>h;refine⟨(aep r _).mono ?_⟩;rintro e C ⟨rfl,t⟩;have d:=f.ak t;rw[qO];refine⟨_,rfl,λi=>⟨λD u=>?_⟩,λi=>?_⟩
  ·rw[aj i]at a;obtain⟨p',c',y,z,k⟩:=d.push oJ (by omega) u 36;exact⟨p',_,c',y,z,(j+1,p',c'),⟨rfl,by rw[a];rfl,rfl,rfl,trivial⟩,⟨by simp only;omega,by rw[a];exact k⟩,by simp only;omega⟩
  ·rw[af (by rw[i];decide)]at a;exact⟨(j+1,p,c),⟨rfl,by rw[a];rfl,rfl,rfl,trivial⟩,⟨by simp only;omega,by rw[a];exact d⟩,by simp only;omega⟩
 ·have:j=o.length:=by simp at g;omega
  subst this;exact⟨p,c,rfl,f⟩
end
theorem IG {o:List Bool} {k:Nat} (b:k<o.length) (v:Bool) (n:Int):cQ (o.set k v) n=if n=(k:Int)+1 then v else cQ o n:=by
 unfold cQ;by_cases h1:1<=n
 ·rw[aj h1,aj h1];by_cases a:n=(k:Int)+1
  ·subst a;have c:((k:Int)+1).toNat-1=k:=by omega
   rw[aj rfl,c];simp[aO,b]
  ·rw[af a];have:k≠n.toNat-1:=by omega
   simp[aO,this]
 ·rw[af h1,af h1,af (by omega)]
theorem PK {o:List Bool} {n:Int} (h:cQ o n=ag):tF o n=0/\∀v,cQ (mR o n) v=(cQ o v&&decide (v≠n)):=by
 obtain⟨b,c⟩:=sf h;refine⟨by rw[tF,aj h],λv=>?_⟩;rw[mR,aj h,IG (by omega)];by_cases a:v=n
 ·rw[aj (by omega),a];simp
 ·rw[af (by omega),decide_eq_true (show v≠n from a),lR]
theorem agu {o:List Bool} {j:Nat} (b:j<o.length) (d:∀k,k<j->cQ o ((k:Int)+1)=ag) (c:cQ o ((j:Int)+1)=ae):eL o=((j:Int)+1,0)/\jk o=o.set j ag:=by
 have e:o.findIdx? (λx=>!x)=aa j:=by
  rw[oo];rw[qO]at c;refine⟨b,by simpa [aO,b]using c,λk f=>?_⟩;have:=d k f;rw[qO]at this;have a:k<o.length:=by omega
  simpa [aO,a]using this
 unfold eL jk;rw[e];exact⟨rfl,rfl⟩
theorem ags {o:List Bool} (b:∀k,k<o.length->cQ o ((k:Int)+1)=ag):eL o=(0,5)/\jk o=o:=by
 have c:o.findIdx? (λx=>!x)=ah:=by
  rw[ta];intro v d;obtain⟨k,a,rfl⟩:=uv d;have:=b k a;rw[qO]at this;simpa [aO,a]using this
 unfold eL jk;rw[c];exact⟨rfl,rfl⟩
theorem FB (o:List Bool):(∃j:Nat,j<o.length/\eL o=((j:Int)+1,0)/\jk o=o.set j ag/\cQ o ((j:Int)+1)=ae)∨(eL o=(0,5)/\jk o=o):=by
 unfold eL jk
 cases b:o.findIdx? (λx=>!x)with
 | none=>exact .inr ⟨rfl,rfl⟩
 | some j=>
  obtain⟨a,c,_⟩:=oo.1 b;refine .inl ⟨j,a,rfl,rfl,?_⟩;rw[qO];simpa [aO,a]using c
def kd {σ:Type} (A:Ob σ):List σ->World->Fp->Prop
 | [],_,F=>∀i,¬F i
 | s::l,w,F=>∃F1 F2,A w F1 s/\kd A l w F2/\(∀i,F i↔F1 i∨F2 i)/\∀i,F1 i->¬F2 i
def Fam {σ:Type} (A:Ob σ):Ob (List σ):=λw F l=>kd A l w F
section
variable {σ:Type} {A:Ob σ} {w w':World} {F:Fp} {l:List σ} {s:σ}
theorem kd.ak [fa:Frame A]:∀{l:List σ} {F G:Fp},kd A l w F->av G w w'->(∀i,F i->¬G i)->kd A l w' F
 | [],_,_,h,_,_=>h
 | s::l,F,G,⟨F1,F2,h1,e,a,f⟩,k,d=>
  ⟨F1,F2,fa.ak h1 k (λi hi=>d i ((a i).2 (.inl hi))),kd.ak e k (λi hi=>d i ((a i).2 (.inr hi))),a,f⟩
theorem kd.lt [fa:Frame A]:∀{l:List σ} {F:Fp},kd A l w F->∀i,F i->i<w.heap.size
 | [],_,h,i,hi=>absurd hi (h i)
 | s::l,F,⟨F1,F2,h1,a,d,e⟩,i,hi=>((d i).1 hi).elim (fa.lt h1 i) (kd.lt a i)
instance Frame.mQ [Frame A]:Frame (Fam A) where
 ak:=kd.ak
 lt:=kd.lt
theorem Fam.nil (w:World):Fam A w (λ_=>False) []:=λ_ h=>h
theorem Fam.rep {n:Nat} (h:A w (λ_=>False) s):Fam A w (λ_=>False) (aD n s):=by
 induction n with
 | zero=>exact Fam.nil w
 | succ n a=>exact⟨_,_,h,a,λi=>by simp,λ_ h=>h.elim⟩
theorem Fam.at [fa:Frame A]:∀{l:List σ} {F:Fp} (_:Fam A w F l) {i:Nat} (hi:i<l.length),∃F1,A w F1 l[i]/\(∀j,F1 j->F j)/\∀w' e,ai A w w' F1 e->ai (Fam A) w w' F (l.set i e)
 | s::l,F,h,0,_=>by
  obtain⟨F1,f,g⟩:=aF.left (A:=A) (B:=Fam A) (x:=(s,l)) h;obtain⟨F1,F2,f,g,a,m⟩:=h;refine⟨F1,f,λj o=>(a j).2 (.inl o),λw' e k=>?_⟩;obtain⟨n,q,k2,r⟩:=k;refine⟨λi=>n i∨F2 i,⟨n,F2,q,kd.ak g k2 (λi hi d=>m i d hi),λ_=>bp,λi hi d=>?_⟩,k2.mono (λi _ hi=>(a i).2 (.inl hi)),λi hi=>?_⟩
  ·rcases r i hi with h|h
   ·exact m i h d
   ·have:=kd.lt g i d;omega
  ·rcases hi with hi|hi
   ·exact(r i hi).imp (λh=>(a i).2 (.inl h)) id
   ·exact .inl ((a i).2 (.inr hi))
 | s::l,F,⟨G1,G2,f,g,a,m⟩,i+1,hi=>by
  obtain⟨F1,q,y,k2⟩:=Fam.at (l:=l) (F:=G2) g (i:=i) (by simpa using hi);refine⟨F1,q,λj o=>(a j).2 (.inr (y j o)),λw' e k=>?_⟩;obtain⟨n,z,t,u⟩:=k2 w' e k;refine⟨λi=>G1 i∨n i,⟨G1,n,fa.ak f t m,z,λ_=>bp,λi hi d=>?_⟩,t.mono (λi _ hi=>(a i).2 (.inr hi)),λi hi=>?_⟩
  ·rcases u i d with h|h
   ·exact m i hi h
   ·have:=fa.lt f i hi;omega
  ·rcases hi with hi|hi
   ·exact .inl ((a i).2 (.inl hi))
   ·exact(u i hi).imp (λh=>(a i).2 (.inr h)) id
theorem Fam.CO [fa:Frame A]:∀{l:List σ} {F:Fp} (_:Fam A w F l) {i:Nat} (hi:i<l.length),∃F1,(∀j,F1 j->F j)/\∀w1 G,av G w w1->(∀j,F j->¬G j)->A w1 F1 l[i]/\∀w' f,ai A w1 w' F1 f->ai (Fam A) w1 w' F (l.set i f)
 | s::l,F,h,0,_=>by
  obtain⟨F1,F2,t,u,a,g⟩:=h;refine⟨F1,λj m=>(a j).2 (.inl m),λw1 G n o=>?_⟩;have d:=fa.ak t n (λi hi=>o i ((a i).2 (.inl hi)));have q:=kd.ak u n (λi hi=>o i ((a i).2 (.inr hi)));refine⟨d,λw' f k=>?_⟩;obtain⟨r,y,k2,B⟩:=k;refine⟨λi=>r i∨F2 i,⟨r,F2,y,kd.ak q k2 (λi hi e=>g i e hi),λ_=>bp,λi hi e=>?_⟩,k2.mono (λi _ hi=>(a i).2 (.inl hi)),λi hi=>?_⟩
  ·rcases B i hi with h|h
   ·exact g i h e
   ·have:=kd.lt q i e;omega
  ·rcases hi with hi|hi
   ·exact(B i hi).imp (λh=>(a i).2 (.inl h)) id
   ·exact .inl ((a i).2 (.inr hi))
 | s::l,F,⟨G1,G2,t,u,a,g⟩,i+1,hi=>by
  obtain⟨F1,H,y⟩:=Fam.CO (l:=l) (F:=G2) u (i:=i) (by simpa using hi);refine⟨F1,λj m=>(a j).2 (.inr (H j m)),λw1 G n o=>?_⟩;obtain⟨J,z⟩:=y w1 G n (λj m=>o j ((a j).2 (.inr m)));have d:=fa.ak t n (λi hi=>o i ((a i).2 (.inl hi)));refine⟨J,λw' f k=>?_⟩;obtain⟨r,z,C,D⟩:=z w' f k;refine⟨λi=>G1 i∨r i,⟨G1,r,fa.ak d C g,z,λ_=>bp,λi hi e=>?_⟩,C.mono (λi _ hi=>(a i).2 (.inr hi)),λi hi=>?_⟩
  ·rcases D i e with h|h
   ·exact g i hi h
   ·have:=fa.lt d i hi;omega
  ·rcases hi with hi|hi
   ·exact .inl ((a i).2 (.inl hi))
   ·exact(D i hi).imp (λh=>(a i).2 (.inr h)) id
theorem Fam.push [fa:Frame A]:∀{l:List σ} {F:Fp} (_:Fam A w F l) (_:av no w w') {G:Fp} (_:A w' G s) (_:∀i,G i->w.heap.size<=i),ai (Fam A) w w' F (l++[s])
 | [],F,h,k,G,hA,a=>⟨G,⟨G,λ_=>False,hA,λ_ h=>h,λi=>by simp,λ_ _ h=>h⟩,k.mono (λ_ _ h=>h.elim),λi hi=>.inr (a i hi)⟩
 | t::l,F,⟨G1,G2,h1,g,d,j⟩,k,G,hA,a=>by
  obtain⟨e,m,o,f⟩:=Fam.push (l:=l) (F:=G2) g k hA a;refine⟨λi=>G1 i∨e i,⟨G1,e,fa.ak h1 k (λ_ _ h=>h),m,λ_=>bp,λi hi n=>?_⟩,k.mono (λ_ _ h=>h.elim),λi hi=>?_⟩
  ·rcases f i n with h|h
   ·exact j i hi h
   ·have:=fa.lt h1 i hi;omega
  ·rcases hi with hi|hi
   ·exact .inl ((d i).2 (.inl hi))
   ·exact(f i hi).imp (λh=>(d i).2 (.inr h)) id
end
section
variable {T:TypeId} {w w':World} {F:Fp} {p:Option Addr} {c:Nat} {l:List Int}
theorem Ls.cells (h:Ls T w F (p,c,l)):Cells w p (l.map (aB .i64)):=h.2.cells
theorem Ls.zero (h:Ls T w F (p,c,l)) (d:p=ah):l=[]/\c=0:=by
 obtain⟨_,_,_,a⟩:=h.2;subst d;exact⟨lM a.1,a.2⟩
theorem Ls.room (h:Ls T w F (p,c,l)):l.length<=c:=h.2.2.1
theorem Ls.behind (h:Ls T w F (p,c,l)) {k:Nat} (a:k<=l.length):ai (Ls T) w w F (gl p c k 1,c-k,l.drop k):=by
 refine⟨bf (gl p c k 1),⟨λ_=>bp,?_⟩,av.refl _ _,λi hi=>.inl ((h.1 i).2 (Pw i hi))⟩;have:=h.2.OM k a;rw[eX,<-List.map_drop]at this;simp only[lN];exact this
theorem Ls.first (h:Ls T w F (p,c,l)) {k:Nat} (e:k<=l.length):ai (Ls T) w w F (gl p k 0 1,k,l.take k):=by
 obtain⟨f,j,g,m,d⟩:=h;simp only at f j g m d;have n:k<=c:=aW e g;refine⟨bf (gl p k 0 1),⟨λ_=>bp,?_⟩,av.refl _ _,λi hi=>.inl ((f i).2 (Pw i hi))⟩;simp only[Uc,eR,oi e];refine⟨by simp;omega,aX _,by omega,?_⟩
 cases p with
 | none=>obtain⟨r,t⟩:=d;exact⟨by omega,by omega⟩
 | some a=>
  obtain⟨cells,o,hs,u,q⟩:=d;refine⟨cells,o,hs,by omega,?_⟩;rw[List.map_take,<-q,List.take_take];congr 1;omega
theorem Ls.empty (h:Ls T w F (p,c,l)):ai (Ls T) w w F (ah,0,[]):=⟨λ_=>False,⟨λi=>⟨λh=>h.elim,λ⟨a,d,_⟩=>by cases d⟩,Sl.nil _ _ _⟩,av.refl _ _,λ_ h=>h.elim⟩
theorem Ls.more {P:Program} {t:TypeId} {z:List Value} (o:eO P t T 1 8 z) (h:Ls T w F (p,c,l)) {q:Option Addr} {m:List Int} {d:Nat} (r:Cells w q (m.map (aB .i64))) (e:q=ah->d=0) (y:l.length+m.length<=1048576) (ty:TypeId) :
  ∃p' c' a,(bR #[t,t] ty #[.slice p l.length c,.slice q m.length d]).run P w=.ok (.slice p' (l++m).length c') a/\ai (Ls T) w a F (p',c',l++m):=by
 obtain⟨p',B,c',a,u,f,g,j,n⟩:=y8 o h.2 r (m:=m.length) (d:=d) (by simp) (by simp[Value.oneCell']) e (by simp only;omega) (by simp only;omega) ty;simp only at f g j n;subst f;refine⟨p',c',a,by rw[cG];exact u,bf p',⟨λ_=>bp,?_⟩,j.mono (λi _ hi=>(h.1 i).2 hi),λi hi=>(n i hi).imp (λk=>(h.1 i).2 k) id⟩;simp only[cG,eI];exact g
theorem Ls.fresh {p':Option Addr} {c':Nat} {l':List Int} (k:Loc w w' T p' c' l'):ai (Ls T) w w' F (p',c',l'):=
 ⟨bf p',⟨λ_=>bp,k.S⟩,k.U.mono (λ_ _ h=>h.elim),λi hi=>.inr (k.F i hi)⟩
end
section
variable {w w1 w':World} {F:Fp}
abbrev jJ:=Option Addr×Nat×List Int
def iq (y:jJ):Value:=.slice y.1 y.2.2.length y.2.1
def rws (ys:List jJ):List (List Int):=ys.map (·.2.2)
theorem wH (ys:List jJ):(rws ys).length=ys.length:=by simp[rws]
theorem By (ys:List jJ) {i:Nat} (hi:i<ys.length):(rws ys)[i]'(by rw[wH];exact hi)=ys[i].2.2:=by simp[rws]
theorem TI (ys:List jJ) (i:Nat) (p:Option Addr) (c:Nat) (l:List Int):rws (ys.set i (p,c,l))=(rws ys).set i l:=by simp[rws,fx]
def Tb (b:Nat) (T E I:TypeId) (enc:Option Addr->Nat->Nat->List Value):Ob (List (List Int)):=λw F x=>∃y a,
 aF (Hd b T E 1 (λ(a:List jJ) p c=>enc p a.length c) (λa=>a.length) (λa=>a.map iq)) (Fam (Ls I)) w F ((a,y),a)/\rws a=x
variable {b:Nat} {T E I:TypeId} {enc:Option Addr->Nat->Nat->List Value} {x:List (List Int)}
instance Frame.tb:Frame (Tb b T E I enc) where
 ak:=λ⟨y,a,h,r⟩ k d=>⟨y,a,Frame.star.ak h k d,r⟩
 lt:=λ⟨_,_,h,_⟩=>Frame.star.lt h
theorem Tb.ay (h:Tb b T E I enc w F x):∃p c,aM w b (enc p x.length c) T:=by
 obtain⟨y,d,h,rfl⟩:=h;obtain⟨F1,a,_⟩:=h.left;rw[wH];exact⟨_,_,a.ay⟩
structure vv (b:Nat) (T E I:TypeId) (enc:Option Addr->Nat->Nat->List Value) (w:World) (F:Fp) (x:List (List Int)) (i:Nat) (l:List Int) (a:Addr) (c0:Nat) (p:Option Addr) (c:Nat) (F1:Fp):Prop where
 ls:Ls I w F1 (p,c,l)
 sub:∀i,F1 i->F i
 ay:∀w',av F1 w w'->aM w' b (enc (aa a) x.length c0) T
 cell:∀w',av F1 w w'->w'.cell? (a.add (i*1))=aa (.slice p l.length c)
 put:∀w1 p' c' l',ai (Ls I) w w1 F1 (p',c',l')->∀K:World->Prop,(∀w',ai (Tb b T E I enc) w w' F (x.set i l')->K w')->Wr w1 (a.add (i*1)) [.slice p' l'.length c'] K
def vw (b:Nat) (T E I:TypeId) (enc:Option Addr->Nat->Nat->List Value) (w:World) (F:Fp) (x:List (List Int)) (i:Nat) (a:Addr) (c0:Nat) (p:Option Addr) (c:Nat):Prop:=∃d,
 aF (Hd b T E 1 (λ(d:List jJ) p c=>enc p d.length c) (λd=>d.length) (λd=>d.map iq)) (Fam (Ls I)) w F ((d,(aa a,c0)),d)/\rws d=x/\∃hi:i<d.length,d[i].1=p/\d[i].2.1=c
theorem vw.ak {i:Nat} {a:Addr} {c0:Nat} {p:Option Addr} {c:Nat} {G:Fp} (h:vw b T E I enc w F x i a c0 p c) (k:av G w w') (d:∀i,F i->¬G i):vw b T E I enc w' F x i a c0 p c:=by
 obtain⟨e,h,r⟩:=h;exact⟨e,Frame.star.ak h k d,r⟩
theorem av.nn {F:Fp} (h:av no w w'):av F w w':=h.mono (λ_ _ h=>h.elim)
theorem vv.lV {i:Nat} {l:List Int} {a:Addr} {c0:Nat} {p:Option Addr} {c:Nat} {F1:Fp} (h:vv b T E I enc w F x i l a c0 p c F1):aM w b (enc (aa a) x.length c0) T:=h.ay _ (av.refl _ _)
theorem vv.cm {i:Nat} {l:List Int} {a:Addr} {c0:Nat} {p:Option Addr} {c:Nat} {F1:Fp} (h:vv b T E I enc w F x i l a c0 p c F1):w.cell? (a.add (i*1))=aa (.slice p l.length c):=h.cell _ (av.refl _ _)
theorem vv.cells {i:Nat} {l:List Int} {a:Addr} {c0:Nat} {p:Option Addr} {c:Nat} {F1:Fp} (h:vv b T E I enc w F x i l a c0 p c F1):Cells w p (l.map (aB .i64)):=h.ls.cells
theorem Tb.raw (h:Tb b T E I enc w F x) {i:Nat} (hi:i<x.length):∃a c0 p c,vw b T E I enc w F x i a c0 p c:=by
 obtain⟨⟨m,j⟩,e,h,rfl⟩:=h;have d:i<e.length:=by simpa [rws]using hi
 obtain⟨F1,k,_⟩:=h.left;obtain⟨a,g,n⟩:=k.sl.cells.cv (f:=iq) (l:=e) d;simp only at g;subst g;exact⟨a,j,_,_,e,h,rfl,d,rfl,rfl⟩
theorem vw.open {i:Nat} {a:Addr} {c0:Nat} {p:Option Addr} {c:Nat} (h:vw b T E I enc w F x i a c0 p c) (hi:i<x.length):∃F1,vv b T E I enc w F x i x[i] a c0 p c F1:=by
 obtain⟨e,h,rfl,g,rfl,rfl⟩:=h;obtain⟨G1,G2,u,H,n,y⟩:=h;simp only at u H;obtain⟨F1,R,J,k2⟩:=Fam.at H g;have L:∀w',av F1 w w'->Hd b T E 1 (λ(e:List jJ) p c=>enc p e.length c) (λe=>e.length) (λe=>e.map iq) w' G1 (e,(aa a,c0)):=λw' k=>(Frame.hd ..).ak u k (λj d m=>y j d (J j m));refine⟨F1,?_,λj d=>(n j).2 (.inr (J j d)),λw' k=>?_,λw' k=>?_,λw1 p' c' l' k K S=>?_⟩
 ·rw[By _ g];exact R
 ·rw[wH];exact(L w' k).ay
 ·obtain⟨X,z,B⟩:=(L w' k).sl.cells.cv (f:=iq) (l:=e) g;cases z;rw[B,By _ g];rfl
 ·obtain⟨M,N,C,D⟩:=k2 _ _ k;have q:=(Frame.hd ..).ak u C y;refine q.sl.wr (o:=i*1) (by simp;omega) λw' G U=>S w' ?_;rw[eX]at G
  have V:bc (e.map iq) i [.slice p' l'.length c']=(e.set i (p',c',l')).map iq:=by
   have:=vd (f:=iq) (r:=e) g (v:=(p',c',l'));exact this
  rw[V]at G;have W:=q.elems (w':=w') (s':=e.set i (p',c',l')) (by simp only[bN];exact G) U (by simp only[bN]);obtain⟨O,t1,t2,P⟩:=W;have t:=(Frame.hd ..).lt u;refine⟨λj=>O j∨M j,⟨(aa a,c0),e.set i (p',c',l'),⟨O,M,t1,Frame.mQ.ak N t2 ?_,λ_=>bp,?_⟩,TI ..⟩,?_,?_⟩
  ·intro j d m;rcases D j d with h|h
   ·exact y j m h
   ·have:=t j m;omega
  ·intro j d m;rcases P j d with h|h
   ·rcases D j m with Q|Q
    ·exact y j h Q
    ·have:=t j h;omega
   ·have:=Frame.mQ.lt N j m;omega
  ·exact(C.mono (λj _ d=>(n j).2 (.inr d))).trans t2 (λj _ d=>(n j).2 (.inl d))
  ·rintro j (d|d)
   ·rcases P j d with h|h
    ·exact .inl ((n j).2 (.inl h))
    ·exact .inr (aW C.size h)
   ·rcases D j d with h|h
    ·exact .inl ((n j).2 (.inr h))
    ·exact .inr h
theorem Tb.new {n:Nat} {p:Option Addr} {c:Nat} {cs:List Value} (k:av no w w1) (d:Sl w1 E 1 p n c (aD n (rM ah 0 0))) (m:∀i,bf p i->w.heap.size<=i) (e:dy w1 w' (.cells cs.toArray T (0,0))) (f:enc p n c=cs) :
  Tb w1.heap.size T E I enc w' (λi=>i=w1.heap.size∨bf p i) (aD n []):=by
 have g:(aD n ((ah,0,[]):jJ)).map iq=aD n (rM ah 0 0):=by simp[iq]
 refine⟨(p,c),aD n (ah,0,[]),⟨λi=>i=w1.heap.size∨bf p i,λ_=>False,⟨?_,?_,?_,λ_=>bp⟩,Fam.rep ⟨λi=>⟨λh=>h.elim,λ⟨a,j,_⟩=>by cases j⟩,Sl.nil _ _ _⟩,λi=>by simp,λ_ _ h=>h⟩,by simp[rws]⟩
 ·simp only[fW];rw[f];exact e.aK
 ·simp only[fW];rw[g];exact d.ak (e.ak no) (λ_ _ h=>h)
 ·intro h;exact absurd (d.lt _ h) (Nat.lt_irrefl _)
end
def At {σ:Type} (A:Nat->Ob σ):Ob (Nat×σ):=λw F x=>A x.1 w F x.2
def iS {σ:Type} (x:Nat×σ):Value:=.pointer (aa ⟨x.1,0,ah⟩)
instance Frame.at {σ:Type} {A:Nat->Ob σ} [fa:∀b,Frame (A b)]:Frame (At A) where
 ak:=λh k a=>(fa _).ak h k a
 lt:=λh=>(fa _).lt h
abbrev CF (σ:Type) (b:Nat) (T E:TypeId) (enc:Option Addr->Nat->Nat->List Value):Ob (List (Nat×σ)×Option Addr×Nat):=Hd b T E 1 (λa p c=>enc p a.length c) (λa=>a.length) (λa=>a.map iS)
def Tq {σ:Type} (A:Nat->Ob σ) (b:Nat) (T E:TypeId) (enc:Option Addr->Nat->Nat->List Value):Ob (List σ):=λw F x=>∃y a,aF (CF σ b T E enc) (Fam (At A)) w F ((a,y),a)/\a.map (·.2)=x
section
variable {σ:Type} {A:Nat->Ob σ} [fa:∀b,Frame (A b)] {b:Nat} {T E:TypeId} {enc:Option Addr->Nat->Nat->List Value} {w w1 w':World} {F:Fp} {x:List σ}
instance Frame.tq:Frame (Tq A b T E enc) where
 ak:=λ⟨y,a,h,r⟩ k c=>⟨y,a,Frame.star.ak h k c,r⟩
 lt:=λ⟨_,_,h,_⟩=>Frame.star.lt h
theorem Tq.ay (h:Tq A b T E enc w F x):∃p c,aM w b (enc p x.length c) T:=by
 obtain⟨y,d,h,rfl⟩:=h;obtain⟨F1,a,_⟩:=h.left;rw[bW];exact⟨_,_,a.ay⟩
theorem Tq.at (h:Tq A b T E enc w F x) {i:Nat} (hi:i<x.length):∃a c bi F1,aM w b (enc (aa a) x.length c) T/\w.cell? (a.add (i*1))=aa (.pointer (aa ⟨bi,0,ah⟩))/\A bi w F1 x[i]/\
  ∀w' g,ai (A bi) w w' F1 g->ai (Tq A b T E enc) w w' F (x.set i g):=by
 obtain⟨⟨p,c⟩,d,h,rfl⟩:=h;have e:i<d.length:=by simpa using hi
 obtain⟨G1,k,_⟩:=h.left;obtain⟨G2,n,k2⟩:=h.right;simp only at k n;obtain⟨a,o,t⟩:=k.sl.cells.cv (f:=iS) (l:=d) e;simp only at o;subst o;obtain⟨F1,u,_,y⟩:=Fam.at n e;refine⟨a,c,d[i].1,F1,by rw[bW];exact k.ay,t,by rw[rV];exact u,λw' g z=>?_⟩;obtain⟨m,t1,t2,B⟩:=z;have C:=k2 _ _ (y w' (d[i].1,g) ⟨m,t1,t2,B⟩);obtain⟨D,⟨H1,H2,q,r,G,H⟩,I,J⟩:=C;simp only at q r
 have K:(d.set i (d[i].1,g)).map (iS (σ:=σ))=d.map iS:=by
  rw[fx];show(d.map iS).set i (iS d[i])=d.map iS;apply de;intro j;rw[cJ];by_cases s:i=j
  ·subst s;simp[e]
  ·simp[s]
 refine⟨D,⟨(aa a,c),d.set i (d[i].1,g),⟨H1,H2,?_,r,G,H⟩,?_⟩,I,J⟩
 ·obtain⟨L,M,N,O⟩:=q;refine⟨?_,?_,N,O⟩
  ·simp only[bN];exact L
  ·simp only[bN];rw[K];exact M
 ·rw[fx]
theorem Tq.CO (h:Tq A b T E enc w F x) {i:Nat} (hi:i<x.length):∃a c bi F1,∀w1 G,av G w w1->(∀j,F j->¬G j)->aM w1 b (enc (aa a) x.length c) T/\w1.cell? (a.add (i*1))=aa (.pointer (aa ⟨bi,0,ah⟩))/\A bi w1 F1 x[i]/\
  ∀w' m,ai (A bi) w1 w' F1 m->ai (Tq A b T E enc) w1 w' F (x.set i m):=by
 obtain⟨⟨p,c⟩,e,h,rfl⟩:=h;have k:i<e.length:=by simpa using hi
 obtain⟨G1,G2,s,t,n,u⟩:=h;simp only at s t;obtain⟨a,J,Y⟩:=s.sl.cells.cv (f:=iS) (l:=e) k;simp only at J;subst J;obtain⟨F1,Z,N⟩:=Fam.CO t k;refine⟨a,c,e[i].1,F1,λw1 G y K=>?_⟩;have z:∀j,G1 j->¬G j:=λj d=>K j ((n j).2 (.inl d));have o:∀j,G2 j->¬G j:=λj d=>K j ((n j).2 (.inr d));have g:=(Frame.hd ..).ak s y z;have B:=Frame.mQ.ak t y o;obtain⟨p1,p2⟩:=N w1 G y o;obtain⟨a',C,D⟩:=g.sl.cells.cv (f:=iS) (l:=e) k;cases C;have hS:aF (CF σ b T E enc) (Fam (At A)) w1 F ((e,(aa a,c)),e):=⟨G1,G2,g,B,n,u⟩;refine⟨by rw[bW];exact g.ay,D,by rw[rV];exact p1,λw' m O=>?_⟩;obtain⟨H,t1,t2,P⟩:=O;obtain⟨q,Q,L,M⟩:=p2 w' (e[i].1,m) ⟨H,t1,t2,P⟩
 have R:(e.set i (e[i].1,m)).map (iS (σ:=σ))=e.map iS:=by
  rw[fx];show(e.map iS).set i (iS e[i])=e.map iS;apply de;intro j;rw[cJ];by_cases d:i=j
  ·subst d;simp[k]
  ·simp[d]
 have r:=(Frame.hd ..).ak g L u;have I:=(Frame.hd ..).lt g;refine⟨λj=>G1 j∨q j,⟨(aa a,c),e.set i (e[i].1,m),⟨G1,q,?_,Q,λ_=>bp,λj d S=>?_⟩,?_⟩,L.mono (λj _ d=>(n j).2 (.inr d)),λj d=>?_⟩
 ·obtain⟨U,V,W,X⟩:=r;refine⟨?_,?_,W,X⟩
  ·simp only[bN];exact U
  ·simp only[bN];rw[R];exact V
 ·rcases M j S with h|h
  ·exact u j d h
  ·have:=I j d;omega
 ·rw[fx]
 ·rcases d with d|d
  ·exact .inl ((n j).2 (.inl d))
  ·exact(M j d).imp (λh=>(n j).2 (.inr h)) id
theorem Tq.nil {c:List Value} (a:dy w w' (.cells c.toArray T (0,0))) (d:enc ah 0 0=c):Tq A w.heap.size T E enc w' (λi=>i=w.heap.size) []:=
 ⟨(ah,0),[],⟨_,λ_=>False,Hd.nil a (by simpa using d) rfl rfl,Fam.nil _,λi=>by simp,λ_ _ h=>h⟩,rfl⟩
theorem Tq.push {P:Program} {t:TypeId} {z:List Value} (S:eO P t E 1 8 z) {k:Nat} (f:∀p n c p' J c',bc (enc p n c) k [.slice p' J c']=enc p' J c') (U:∀p n c,k+1<=(enc p n c).length) (h:Tq A b T E enc w F x) (V:x.length<=100000)
  {bq:Nat} {G:Fp} {s:σ} (o:av no w w1) (W:A bq w1 G s) (X:∀i,G i->w.heap.size<=i):∃p c,aM w1 b (enc p x.length c) T/\
  ∀u {L:TypeId} (M:dy w1 u (.cells (dK [.pointer (aa ⟨bq,0,ah⟩)]) L (0,0))) (ty:TypeId),∃p' c' q,(bR #[t,t] ty #[.slice p x.length c,.slice (aa ⟨w1.heap.size,0,ah⟩) 1 1]).run P u=.ok (.slice p' (x.length+1) c') q/\
   ∀K:World->Prop,(∀r,ai (Tq A b T E enc) w r F (x++[s])->K r)->Wr q ((⟨b,0,ah⟩:Addr).add k) [.slice p' (x.length+1) c'] K:=by
 obtain⟨⟨p,c⟩,y,h,rfl⟩:=h;obtain⟨G1,G2,B,N,C,Y⟩:=h;simp only at B N;rw[bW]at V;have a:CF σ b T E enc w1 G1 (y,(p,c)):=(Frame.hd ..).ak B o (λ_ _ h=>h);refine⟨p,c,by rw[bW];exact a.ay,λu L M ty=>?_⟩;obtain⟨p',c',q,Z,O,e,g⟩:=LO S (v:=.pointer (aa ⟨bq,0,ah⟩)) rfl a.sl (by simp only;omega) (by simp only;omega) M ty;simp only at O e g;refine⟨p',c',q,by rw[bW];exact Z,λK hK=>?_⟩;have D:=a.CT e;rw[bW];refine D.wr (by simpa using U _ _ _) λr Q=>hK r ?_;rw[f]at Q;have H:=a.put (s':=y++[(bq,s)]) (p':=p') (c':=c') (by simp only[cG,rW,eI];exact O) e g (by simp only[cG,rW];exact Q);obtain⟨H1,t1,t2,R⟩:=H;have I:=Fam.push N o (show At A w1 G (bq,s)from W) X;obtain⟨H2,f1,f2,f3⟩:=I
 have l:∀j,H2 j->¬G1 j:=λj d m=>by
  rcases f3 j d with h|h
  ·exact Y j m h
  ·have:=(Frame.hd ..).lt B j m;omega
 refine⟨λj=>H1 j∨H2 j,⟨(p',c'),y++[(bq,s)],⟨H1,H2,t1,Frame.mQ.ak f1 t2 l,λ_=>bp,λj d m=>?_⟩,by simp⟩,?_,?_⟩
 ·rcases R j d with h|h
  ·exact l j m h
  ·have:=Frame.mQ.lt f1 j m;omega
 ·exact(o.nn).trans t2 (λj _ d=>(C j).2 (.inl d))
 ·rintro j (d|d)
  ·rcases R j d with h|h
   ·exact .inl ((C j).2 (.inl h))
   ·exact .inr (aW o.size h)
  ·rcases f3 j d with h|h
   ·exact .inl ((C j).2 (.inr h))
   ·exact .inr h
end
theorem ai.next {σ:Type} {A:Ob σ} {w w1 a:World} {F F1:Fp} {s1 c:σ} (h:A w1 F1 s1) (d:av F w w1) (e:∀i,F1 i->F i∨w.heap.size<=i) (k:ai A w1 a F1 c):ai A w a F c:=by
 obtain⟨F2,f,k2,g⟩:=k;refine⟨F2,f,d.trans k2 (λi hi j=>(e i j).elim id (λh=>absurd h (by omega))),λi hi=>?_⟩;rcases g i hi with h|h
 ·exact e i h
 ·exact .inr (aW d.size h)
def ct (L:List (List Int)) (v:Int):Nat:=L.flatten.count v
theorem pP {L:List (List Int)} {i:Nat} (hi:i<L.length) (l':List Int) (v:Int):ct (L.set i l') v+L[i].count v=ct L v+l'.count v:=by
 unfold ct
 induction L generalizing i with
 | nil=>simp at hi
 | cons l L a=>
  cases i with
  | zero=>simp only[qD,List.flatten_cons,ni,vC];omega
  | succ i=>
   have:=a (i:=i) (by simpa using hi);simp only[qE,List.flatten_cons,ni,te];omega
theorem Hi {L:List (List Int)} {i:Nat} (hi:i<L.length) (v:Int):L[i].count v<=ct L v:=by
 have:=pP hi [] v;simp at this;omega
theorem lW {L:List (List Int)} {i:Nat} (hi:i<L.length) {v:Int} (h:v∈L[i]):0<ct L v:=jM (qB.2 h) (Hi hi v)
theorem vO (n:Nat) (v:Int):ct (aD n []) v=0:=by
 unfold ct;rw[List.count_flatten];simp
theorem Dj {L:List (List Int)} (h:∀v,ct L v<=1) {i:Nat} (hi:i<L.length):L[i].Nodup:=List.nodup_iff_count.2 λv=>aW (Hi hi v) (h v)
theorem sb {l:List Int} {m:Nat} (a:l.Nodup) (h:∀v∈l,1<=v/\v<=m):l.length<=m:=by
 have:=a.length_le_of_subset (l₂:=(bU m).map (λ(k:Nat)=>(k:Int)+1)) (λv b=>by
  obtain⟨c,d⟩:=h v b;rw[ck];exact⟨v.toNat-1,by simp;omega,by omega⟩)
 simpa using this
theorem zM (b k:Nat):bP (bP ⟨b,0,ah⟩ 0) k=(⟨b,0,ah⟩:Addr).add k:=by rw[add_lit b 0 0]
structure qq (P:Program) (t k e:TypeId) (z:Value):Prop where
 under:P.underlying t=aa (.map k e)
 key:P.underlying k=aa (.int .i64)
 ok:wz P e=ag
 zero:zv P e=z
section
variable {α:Type} {f:α->Value}
def mz (f:α->Value) (es:List MapEntry) (L:List (Int×α)):Prop:=es.map (λe=>(e.key,e.val))=L.map (λp=>(aB .i64 p.1,f p.2))
theorem mz.len {es:List MapEntry} {L:List (Int×α)} (h:mz f es L):es.length=L.length:=by simpa [mz]using congrArg gu h
theorem mz.at {es:List MapEntry} {L:List (Int×α)} (h:mz f es L) {j:Nat} {e:MapEntry} (c:es[j]?=aa e):∃p,L[j]?=aa p/\e.key=.int .i64 p.1/\e.val=f p.2:=by
 have:=congrArg (λl=>l[j]?) h;simp only[fy,c,gK]at this
 cases a:L[j]? with
 | none=>rw[a]at this;cases this
 | some p=>
  rw[a]at this;simp only[gK,Option.some.injEq,Prod.mk.injEq]at this;exact⟨p,rfl,this.1,this.2⟩
theorem mz.mem {es:List MapEntry} {L:List (Int×α)} (h:mz f es L) {p:Int×α} (c:p∈L):∃e∈es,e.key=.int .i64 p.1:=by
 have:(aB .i64 p.1,f p.2)∈es.map (λe=>(e.key,e.val)):=by rw[h];exact ck.2 ⟨p,c,rfl⟩
 obtain⟨e,d,a⟩:=ck.1 this;simp only[Prod.mk.injEq]at a;exact⟨e,d,a.1⟩
theorem mz.keys {es:List MapEntry} {L:List (Int×α)} (h:mz f es L):∀x∈es,MapKept.IsKey (.int .i64) x.key:=by
 intro x a;obtain⟨j,c⟩:=qy.1 a;obtain⟨p,_,d,_⟩:=h.at c;rw[d];rfl
def bM (b:Nat) (f:α->Value):Ob ((Int->Option α)×Nat):=λw F x=>(∀i,F i↔i=b)/\∃es clock L,w.heap[b]?=aa (.map es clock)/\mz f es.toList L/\(L.map fv).Nodup/\(∀k v,x.1 k=aa v↔(k,v)∈L)/\x.2=L.length/\MapKept.Stamped es clock
instance Frame.map (b:Nat) (f:α->Value):Frame (bM b f) where
 ak:=by
  rintro w w' F G s ⟨a,es,clock,L,c,r⟩ k d;exact⟨a,es,clock,L,(k.ay b (tM c) (d b ((a b).2 rfl))).trans c,r⟩
 lt:=by
  rintro w F s ⟨a,es,clock,L,c,r⟩ i hi;rw[(a i).1 hi];exact tM c
theorem bM.new {w w':World} (h:dy w w' (.map #[] 0)):bM w.heap.size f w' (λi=>i=w.heap.size) (λ_=>ah,0):=
 ⟨λ_=>bp,#[],0,[],h.ay,rfl,ju,λk v=>by simp,rfl,MapKept.stamped_empty 0⟩
def fz (x:(Int->Option α)×Nat) (k:Int) (v:α):(Int->Option α)×Nat:=(λj=>if j=k then aa v else x.1 j,if(x.1 k).isSome then x.2 else x.2+1)
def iy (x:(Int->Option α)×Nat) (k:Int):(Int->Option α)×Nat:=(λj=>if j=k then ah else x.1 j,if(x.1 k).isSome then x.2-1 else x.2)
variable {P:Program} {t k e:TypeId} {z:Value} {b:Nat} {w:World} {F:Fp} {x:(Int->Option α)×Nat}
theorem Ep {β γ:Type} (g:β->γ):∀(l:List β) (j:Nat),(l.eraseIdx j).map g=(l.map g).eraseIdx j
 | [],_=>rfl
 | _::_,0=>rfl
 | a::l,j+1=>by simp[Ep g l j]
theorem SJ {L:List (Int×α)} (h:(L.map fv).Nodup) {i j:Nat} {p q:Int×α} (hi:L[i]?=aa p) (c:L[j]?=aa q) (d:p.1=q.1):i=j:=by
 have a:(L.map fv)[i]?=aa p.1:=by simp[hi]
 have g:(L.map fv)[j]?=aa p.1:=by simp[c,d]
 exact(List.getElem?_inj (dQ.1 a).1 h).1 (a.trans g.symm)
theorem find_spec {es:List MapEntry} {L:List (Int×α)} (h:mz f es L) (s:(L.map fv).Nodup) (i:∀k v,x.1 k=aa v↔(k,v)∈L) (n:Int) :
  (x.1 n=ah/\Instr.findNow (.int .i64) (.int .i64 n) es 0=aa ah)∨∃j v e,x.1 n=aa v/\Instr.findNow (.int .i64) (.int .i64 n) es 0=aa (aa (j,f v))/\es[j]?=aa e/\e.key=.int .i64 n/\L[j]?=aa (n,v):=by
 rcases MapKept.findNow_spec (d:=.int .i64) (k:=.int .i64 n) rfl es 0 h.keys with⟨h1,a⟩|⟨j,e,h1,a,l⟩
 ·refine .inl ⟨?_,h1⟩
  cases c:x.1 n with
  | none=>rfl
  | some v=>
   obtain⟨e,r,g⟩:=h.mem ((i n v).1 c);exact absurd g (a e r)
 ·obtain⟨p,m,g,c⟩:=h.at a;obtain⟨o,q⟩:=p;have:o=n:=by rw[l]at g;simpa using g.symm
  subst this;simp only at c;exact .inr ⟨j,q,e,(i o q).2 (qy.2 ⟨j,m⟩),by rw[h1,c];simp,a,l,m⟩
theorem kP (a:qq P t k e z) (h:bM b f w F x) (n:Int) (ok:Bool) :
  (dr t (.map (aa b)) (.int .i64 n) ok).run P w=.ok (if ok then .tuple #[((x.1 n).map f).getD z,.bool (x.1 n).isSome]else((x.1 n).map f).getD z) w:=by
 obtain⟨q,es,clock,L,d,i,l,m,r,o⟩:=h;have g:MapKept.IsKey (.int .i64) (.int .i64 n):=rfl;rcases find_spec i l m n with⟨c,k2⟩|⟨j,v,s,c,k2,u,y,A⟩
 ·have p:(zeroValue e).run P w=.ok z w:=by rw[wF a.ok,a.zero]
  simp[dr,fR a.under,MapKept.run_getObj_map d,MapKept.run_checkKey a.key g,MapKept.run_findKey a.key k2,c,p,s5]
 ·simp[dr,fR a.under,MapKept.run_getObj_map d,MapKept.run_checkKey a.key g,MapKept.run_findKey a.key k2,c,s5]
theorem Gc {o a:Obj} (c:w.heap[b]?=aa o):av (λi=>i=b) w {w with heap:=w.heap.setIfInBounds b a}:=
 ⟨by simp,rfl,rfl,rfl,λi _ hi=>by simp[Ne.symm hi]⟩
theorem ru (q:qq P t k e z) (h:bM b f w F x) (n:Int) (v:α) :
  ∃w',(ic t (.map (aa b)) (.int .i64 n) (f v)).run P w=.ok () w'/\ai (bM b f) w w' F (fz x n v):=by
 obtain⟨C,es,clock,L,l,r,D,s,J,A⟩:=h;have E:MapKept.IsKey (.int .i64) (.int .i64 n):=rfl;rcases find_spec r D s n with⟨u,k2⟩|⟨j,U,Q,u,k2,G,K,m⟩
 ·refine⟨_,by simp[ic,fR q.under,MapKept.run_getObj_map l,MapKept.run_checkKey q.key E,MapKept.run_findKey q.key k2,MapKept.run_setObj_map _ l,s5];rfl,
   F,⟨C,_,_,L++[(n,v)],(MapKept.heap_set l).1,?_,?_,?_,?_,MapKept.stamped_push A (λy R H=>by
    obtain⟨i,hi⟩:=qy.1 R;obtain⟨p,I,B,_⟩:=r.at hi;rw[H]at B;have S:n=p.1:=by simpa using B
    have:=(s p.1 p.2).2 (qy.2 ⟨i,I⟩);rw[<-S,u]at this;cases this)⟩,(Gc l).mono (λi _ hi=>(C i).2 hi),λ_ hi=>.inl hi⟩
  ·unfold mz at r⊢;simp[r]
  ·rw[eI,jO];refine⟨D,by simp,λa g c M=>?_⟩;simp at M;subst M;rintro rfl;obtain⟨p,I,rfl⟩:=ck.1 g;have:=(s p.1 p.2).2 I;rw[u]at this;cases this
  ·intro a c;simp only[fz,eG,gJ,Prod.mk.injEq];by_cases g:a=n
   ·subst g;have:(a,c)∉L:=λT=>by have:=(s a c).2 T;rw[u]at this;cases this
    simp[this,eq_comm]
   ·simp[g,s]
  ·simp[fz,u,J]
 ·have N:es[j]?=aa Q:=by simpa using G
  refine⟨_,by simp[ic,fR q.under,MapKept.run_getObj_map l,MapKept.run_checkKey q.key E,MapKept.run_findKey q.key k2,N,K,MapKept.run_keyThatStays E,MapKept.run_setObj_map _ l,s5];rfl,
   F,⟨C,_,_,L.set j (n,v),(MapKept.heap_set l).1,?_,?_,?_,?_,by
    refine MapKept.stamped_modify A _ _ (λ_ _=>rfl) (λe _ O=>?_);rw[N]at O;cases O;exact K.symm⟩,(Gc l).mono (λi _ hi=>(C i).2 hi),λ_ hi=>.inl hi⟩
  ·unfold mz at r⊢;rw[Array.toList_modify,fx,<-r];apply de;intro i;rw[fy,List.getElem?_modify,cJ,fy];by_cases d:j=i
   ·subst d;have o:j<es.toList.length:=(dQ.1 G).1;simp[G];simpa using o
   ·simp only[d,if_false];cases es.toList[i]?<;>simp
  ·rw[fx]
   have:(L.map fv).set j (n,v).1=L.map fv:=by
    apply de;intro i;rw[cJ];by_cases d:j=i
    ·subst d;have o:j<L.length:=(dQ.1 m).1;have:=(dQ.1 m).2;simp[o,this]
    ·simp[d]
   rw[this];exact D
  ·intro a c;simp only[fz];rw[qy];by_cases g:a=n
   ·subst g;simp only[if_true,Option.some.injEq];constructor
    ·rintro rfl;exact⟨j,by rw[cJ];simp[(dQ.1 m).1]⟩
    ·rintro⟨i,hi⟩;rw[cJ]at hi;by_cases d:j=i
     ·subst d;simp[(dQ.1 m).1]at hi;exact hi
     ·rw[af d]at hi;exact absurd (SJ D m hi rfl) d
   ·rw[af g,s,qy];constructor
    ·rintro⟨i,hi⟩;refine⟨i,?_⟩;rw[cJ,af (λd=>by subst d;rw[m]at hi;simp at hi;exact g hi.1.symm)];exact hi
    ·rintro⟨i,hi⟩;rw[cJ]at hi;by_cases d:j=i
     ·subst d;simp[(dQ.1 m).1]at hi;exact absurd hi.1.symm g
     ·rw[af d]at hi;exact⟨i,hi⟩
  ·simp[fz,u,J]
theorem tT (l:qq P t k e z) (h:bM b f w F x) (n:Int) (k2 ty:TypeId) :
  ∃w',(iJ #[t,k2] ty #[.map (aa b),.int .i64 n]).run P w=.ok (.tuple #[]) w'/\ai (bM b f) w w' F (iy x n):=by
 obtain⟨p,es,clock,L,d,q,r,s,A,o⟩:=h;have B:MapKept.IsKey (.int .i64) (.int .i64 n):=rfl;rcases find_spec q r s n with⟨u,k2⟩|⟨j,G,H,u,k2,C,I,y⟩
 ·refine⟨_,by simp[iJ,fR l.under,MapKept.run_getObj_map d,MapKept.run_checkKey l.key B,MapKept.run_findKey l.key k2,MapKept.run_setObj_map _ d,s5]<;>rfl,
   F,⟨p,_,_,L,(MapKept.heap_set d).1,q,r,?_,?_,o⟩,(Gc d).mono (λi _ hi=>(p i).2 hi),λ_ hi=>.inl hi⟩
  ·intro a c;simp only[iy];by_cases m:a=n
   ·subst m;have:(a,c)∉L:=λD=>by have:=(s a c).2 D;rw[u]at this;cases this
    simp[this]
   ·simp[m,s]
  ·simp[iy,u,A]
 ·refine⟨_,by simp[iJ,fR l.under,MapKept.run_getObj_map d,MapKept.run_checkKey l.key B,MapKept.run_findKey l.key k2,MapKept.run_setObj_map _ d,s5];rfl,
   F,⟨p,_,_,L.eraseIdx j,(MapKept.heap_set d).1,?_,?_,?_,?_,MapKept.stamped_erase o _⟩,(Gc d).mono (λi _ hi=>(p i).2 hi),λ_ hi=>.inl hi⟩
  ·unfold mz at q⊢;rw[Ep,<-q,<-Ep];congr 1;simp[Array.eraseIdxIfInBounds];split
   ·simp
   ·rename_i E;have:=(dQ.1 C).1;simp at this;omega
  ·rw[Ep];exact r.eraseIdx _
  ·intro a c;simp only[iy];rw[List.mem_eraseIdx_iff_getElem?];by_cases m:a=n
   ·subst m;simp only[if_true];constructor
    ·intro h;cases h
    ·rintro⟨i,g,hi⟩;exact absurd (SJ r hi y rfl) g
   ·rw[af m,s,qy];constructor
    ·rintro⟨i,hi⟩;exact⟨i,λg=>by subst g;rw[y]at hi;simp at hi;exact m hi.1.symm,hi⟩
    ·rintro⟨i,_,hi⟩;exact⟨i,hi⟩
  ·have:=(dQ.1 y).1;simp[iy,u,A,List.length_eraseIdx,this]
theorem J6 (a:qq P t k e z) (h:bM b f w F x) (ty:TypeId):(k9 #[t] ty #[.map (aa b)]).run P w=.ok (.int .i64 (x.2:Int)) w:=by
 obtain⟨j,es,clock,L,c,d,l,m,g,i⟩:=h;have:=d.len;simp at this;simp[k9,fR a.under,MapKept.run_getObj_map c,goInt,s5,g,this]
end
end Go.Dav
