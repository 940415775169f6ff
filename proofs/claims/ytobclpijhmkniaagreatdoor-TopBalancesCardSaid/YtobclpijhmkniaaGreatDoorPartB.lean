/- What functions of the program come to, part 2; the texts are made small to keep within a claim. -/
import Derived.ArgAppend
import Derived.DataElems
import Derived.Test.YtobclpijhmkniaaGreatDoorPartA
set_option linter.unusedVariables false
set_option linter.unusedSimpArgs false
set_option linter.unusedSectionVars false
namespace Go.Dav
open Go.Proofs
open Value IntKind Ending World Addr Tryz
set_option maxRecDepth 100000
def M122:Mt:={N:=24,keep:=kp 0 [[0,1],[0,1,13],[4,5],[4,5]]}
noncomputable def c122:Code:=bodyOf f122
theorem u122:UT 122 M122 c122 f122:=fun h i=>u_ func122 (by kernel_rfl) h i
theorem t122 (x x1 w R):den prog M122 c122 (argE 0 [(int i64 x),(int i64 x1)]) w (Rt f122 R)=
(Call prog 225 [I x,I 1152921504606846976] w fun e w'=>∃b,e=Z (.bool b)/\((!b)=false->Call prog 225 [I x1,I 1073741824] w' fun e w'=>∃b,e=Z (.bool b)/\((!b)->R (Z (tuple #[I 0,I 2])) w')/\((!b)=false->Call prog 226 [I (wrap i64 (x+x1)),.bool (decide (x<=wrap i64 (1152921504606846976-x1)))] w' fun e w'=>∃n n_1,e=Z (tuple #[I n,I n_1])/\R (Z (tuple #[I n,I n_1])) w'))/\((!b)->R (Z (tuple #[I 0,I 2])) w')):=by kernel_rfl
def M225:Mt:={N:=12,keep:=kp 0 [[0,1],[4]]}
noncomputable def c225:Code:=bodyOf f225
theorem u225:UT 225 M225 c225 f225:=fun h i=>u_ func225 (by kernel_rfl) h i
theorem t225 (x x1 w R):den prog M225 c225 (argE 0 [(int i64 x),(int i64 x1)]) w (Rt f225 R)=
((decide (x>=0)->R (Z (.bool (decide (x<=x1)))) w)/\(decide (x>=0)=false->R (Z (.bool false)) w)):=by kernel_rfl
def M226:Mt:={N:=9,keep:=kp 0 [[0,1],[0,7],[4,5],[4,5]]}
noncomputable def c226:Code:=bodyOf f226
theorem u226:UT 226 M226 c226 f226:=fun h i=>u_ func226 (by kernel_rfl) h i
theorem t226 (x x1 w R):den prog M226 c226 (argE 0 [(int i64 x),(.bool x1)]) w (Rt f226 R)=
(((!x1)->R (Z (tuple #[I 0,I 16])) w)/\((!x1)=false->R (Z (tuple #[I x,I 0])) w)):=by kernel_rfl
def M333:Mt:={N:=20,keep:=kp 0 [[0,1],[0,1,6],[4,5]]}
noncomputable def c333:Code:=bodyOf f333
theorem u333:UT 333 M333 c333 f333:=fun h i=>u_ func333 (by kernel_rfl) h i
theorem t333 (x x1 w R):den prog M333 c333 (argE 0 [(int i64 x),(int i64 x1)]) w (Rt f333 R)=
(Call prog 226 [I (wrap i64 (x+x1)),.bool (decide (wrap i64 (x+x1)<x)==decide (x1<0))] w fun e w'=>∃n n_1,e=Z (tuple #[I n,I n_1])/\R (Z (tuple #[I n,I n_1])) w'):=by kernel_rfl
def M368:Mt:={N:=46,keep:=kp 0 [[0,1,2],[0,1,2,11],[6],[0,1,2,20],[6],[0,7,8],[0,9],[6]],bk:=[(0,[0,1,2])]}
noncomputable def c368:Code:=bodyOf f368
theorem u368:UT 368 M368 c368 f368:=fun h i=>u_ func368 (by kernel_rfl) h i
theorem t368 (x x1 x2 w R):den prog M368 c368 (argE 0 [(int i64 x),(int i64 x1),(int i64 x2)]) w (Rt f368 R)=
((decide (x>x1)=false->(decide (x2<1)->R (Z (I x)) w)/\(decide (x2<1)=false->(decide (x2>=100)->R (Z (I x1)) w)/\(decide (x2>=100)=false->Call prog 393 [int .u64 (wrap .u64 (wrap .u64 x1-wrap .u64 x)),int .u64 (wrap .u64 x2)] w fun e w'=>∃n n_1,e=Z (tuple #[int .u64 n,int .u64 n_1])/\Call prog 394 [int .u64 n,int .u64 n_1,int .u64 100] w' fun e w'=>∃n n_2,e=Z (tuple #[int .u64 n,int .u64 n_2])/\R (Z (I (wrap i64 (wrap .u64 (wrap .u64 x+n))))) w')))/\(decide (x>x1)->R (Z (I x)) w)):=by kernel_rfl
def M395:Mt:={N:=36,keep:=kp 0 [[0,1],[0,1,9],[4],[0,1,16],[4],[1,5,6],[7],[4]],bk:=[(0,[0,1])]}
noncomputable def c395:Code:=bodyOf f395
theorem u395:UT 395 M395 c395 f395:=fun h i=>u_ func395 (by kernel_rfl) h i
theorem t395 (x x1 w R):den prog M395 c395 (argE 0 [(int i64 x),(int i64 x1)]) w (Rt f395 R)=
((decide (x<1)=false->(decide (x1<1)->R (Z (I 0)) w)/\(decide (x1<1)=false->(decide (x>=x1)->R (Z (I 100)) w)/\(decide (x>=x1)=false->Call prog 393 [int .u64 (wrap .u64 x),int .u64 100] w fun e w'=>∃n n_1,e=Z (tuple #[int .u64 n,int .u64 n_1])/\Call prog 394 [int .u64 n,int .u64 n_1,int .u64 (wrap .u64 x1)] w' fun e w'=>∃n n_2,e=Z (tuple #[int .u64 n,int .u64 n_2])/\R (Z (I (wrap i64 n))) w')))/\(decide (x<1)->R (Z (I 0)) w)):=by kernel_rfl
def M50:Mt:={N:=14,keep:=kp 0 [[0],[0,9],[2,3],[2,3]]}
noncomputable def c50:Code:=bodyOf f50
theorem u50:UT 50 M50 c50 f50:=fun h i=>u_ func50 (by kernel_rfl) h i
theorem t50 (x w R):den prog M50 c50 (argE 0 [(int i64 x)]) w (Rt f50 R)=
((decide (x<1)=false->(decide (x>64)->R (Z (tuple #[pointer none,I 2])) w)/\(decide (x>64)=false->∃p n c w',Sem.run prog (Instr.makeSlice 53 (I x) (I x)) w=Result.ok (slice p n c) w'/\New w' [slice p n c] 221 fun p w'=>R (Z (tuple #[pointer (some p),I 0])) w'))/\(decide (x<1)->R (Z (tuple #[pointer none,I 2])) w)):=by kernel_rfl
def M78:Mt:={N:=43,keep:=kp 0 [[0],[0,11],[2,3],[0,4],[0,4,5],[4,5,15,16,17],[4,5,15,16,17,18],[4,5,8,15,16,17],[4,5,6,8,15,16,17],[4,5,15,16,17],[4,5,15,16,17],[4,9],[9,41],[2,3],[2,3]],bk:=[(0,[4,5]),(1,[4,5,15,16,17])],cuts:=[(11,[4,5])],lk:=[(6,[4,5,15,16,17])]}
noncomputable def c78:Code:=bodyOf f78
noncomputable def c78_0:Code:=c78.sr.sr.sr.sr.sr
noncomputable def c78_1:Code:=c78.sr.sr.sr.sr.sl.sr.sl.sl
def e78_0 (x x1:Int):Env:=[(4,SV.v (int i64 x)),(5,SV.v (int .u64 x1))]
def e78_1 (x x1:Int) (x2:Option Addr) (x3 x4:Nat) (x5 x6:Int):Env:=[(4,SV.v (int i64 x)),(5,SV.v (int .u64 x1)),(15,SV.v (slice x2 x3 x4)),(16,SV.v (int i64 x5)),(17,SV.v (int i64 x6))]
def k78_0 (R:RT):=Rt f78 R
def k78_1 (R:RT):=blockK 0 [4,5] (SQ M78 c78_0 (Rt f78 R) (Rt f78 R))
theorem u78:UT 78 M78 c78 f78:=fun h i=>u_ func78 (by kernel_rfl) h i
theorem t78 (x w R):den prog M78 c78 (argE 0 [(pointer x)]) w (Rt f78 R)=
((x.isNone->R (Z (tuple #[I 0,I 1])) w)/\(x.isNone=false->∃a,x=some a/\∃p n c,w.cell? (a.add 0)=some (slice p n c)/\Cut (WP prog 43 (Code.loop c78_1) (e78_1 0 0 p n c (↑n:Int) 0) w (k78_1 R)))):=by kernel_rfl
theorem t78_0 (x x1 w R):den prog M78 c78_0 (e78_0 x x1) w (k78_0 R)=
((0:Int)<=63/\((x==shrOp i64 (wrap i64 x1) 63)->R (Z (tuple #[I (wrap i64 x1),I 0])) w)/\((x==shrOp i64 (wrap i64 x1) 63)=false->R (Z (tuple #[I 0,I 16])) w)):=by kernel_rfl
theorem t78_1 (x x1 x2 x3 x4 x5 x6 w B78_1 R):den prog M78 c78_1 (e78_1 x x1 x2 x3 x4 x5 x6) w (loopK B78_1 (k78_1 R))=
((decide (x6<x5)->(0<=x6/\x6<(↑x3:Int))/\∃a,x2=some a/\∃n,w.cell? (add a (Int.toNat x6*1))=some (I n)/\∃n_1 n_2 w',Sem.run prog (callFunc 169 #[int .u64 x1,int .u64 (wrap .u64 n),int .u64 0]) w=Result.ok (Next.value (tuple #[int .u64 n_1,int .u64 n_2])) w'/\(0:Int)<=63/\B78_1 [(4,SV.v (I (wrap i64 (x+wrap i64 (shrOp i64 n 63+wrap i64 n_2))))),(5,SV.v (int .u64 n_1)),(15,SV.v (slice x2 x3 x4)),(16,SV.v (I x5)),(17,SV.v (I (wrap i64 (x6+1))))] w')/\(decide (x6<x5)=false->CutD prog M78 c78_0 (e78_0 x x1) w (k78_0 R))):=by kernel_rfl
def M260:Mt:={N:=38,keep:=kp 0 [[0,1,2],[0,1,2,7],[0,1,2,7,14],[6],[0,1,8,9],[0,1,8,9,29],[6],[],[6]]}
noncomputable def c260:Code:=bodyOf f260
theorem u260:UT 260 M260 c260 f260:=fun h i=>u_ func260 (by kernel_rfl) h i
theorem t260 (x x1 x2 w R):den prog M260 c260 (argE 0 [(pointer x),(int i64 x1),(int i64 x2)]) w (Rt f260 R)=
(Call prog 332 [pointer x,I x1] w fun e w'=>∃n,e=Z (I n)/\((n !=0)->R (Z (I n)) w')/\((n !=0)=false->∃a,x=some a/\∃p n c,w'.cell? (a.add 0)=some (slice p n c)/\(0<=x1/\x1<(↑n:Int))/\∃a,p=some a/\∃n,w'.cell? (add a (Int.toNat x1*1))=some (I n)/\Call prog 333 [I n,I x2] w' fun e w'=>∃n n_1,e=Z (tuple #[I n,I n_1])/\((n_1 !=0)->R (Z (I n_1)) w')/\((n_1 !=0)=false->∃a,x=some a/\∃p n_2 c,w'.cell? (a.add 0)=some (slice p n_2 c)/\(0<=x1/\x1<(↑n_2:Int))/\∃a,p=some a/\Wr w' (add a (Int.toNat x1*1)) [I n] fun w'=>R (Z (I 0)) w'))):=by kernel_rfl
def M331:Mt:={N:=20,keep:=kp 0 [[0,1],[0,1,6],[0,1,6,11],[4,5],[4,5]]}
noncomputable def c331:Code:=bodyOf f331
theorem u331:UT 331 M331 c331 f331:=fun h i=>u_ func331 (by kernel_rfl) h i
theorem t331 (x x1 w R):den prog M331 c331 (argE 0 [(pointer x),(int i64 x1)]) w (Rt f331 R)=
(Call prog 332 [pointer x,I x1] w fun e w'=>∃n,e=Z (I n)/\((n !=0)->R (Z (tuple #[I 0,I n])) w')/\((n !=0)=false->∃a,x=some a/\∃p n c,w'.cell? (a.add 0)=some (slice p n c)/\(0<=x1/\x1<(↑n:Int))/\∃a,p=some a/\∃n,w'.cell? (add a (Int.toNat x1*1))=some (I n)/\R (Z (tuple #[I n,I 0])) w')):=by kernel_rfl
def M332:Mt:={N:=20,keep:=kp 0 [[0,1],[0,1,5],[4],[8],[4],[4]],bk:=[(0,[])]}
noncomputable def c332:Code:=bodyOf f332
theorem u332:UT 332 M332 c332 f332:=fun h i=>u_ func332 (by kernel_rfl) h i
theorem t332 (x x1 w R):den prog M332 c332 (argE 0 [(pointer x),(int i64 x1)]) w (Rt f332 R)=
((x.isNone->R (Z (I 1)) w)/\(x.isNone=false->(decide (x1<0)=false->∃a,x=some a/\∃p n c,w.cell? (a.add 0)=some (slice p n c)/\(decide (x1>=(↑n:Int))->R (Z (I 3)) w)/\(decide (x1>=(↑n:Int))=false->R (Z (I 0)) w))/\(decide (x1<0)->R (Z (I 3)) w))):=by kernel_rfl
def M361:Mt:={N:=44,keep:=kp 0 [[0,1,2],[0,1,2,7],[0,1,2,7,14],[6],[0,1,2,8],[0,1,2,8,20],[6],[0,1,2,24],[6],[0,1,9],[0,1,9,36],[9],[6]]}
noncomputable def c361:Code:=bodyOf f361
theorem u361:UT 361 M361 c361 f361:=fun h i=>u_ func361 (by kernel_rfl) h i
theorem t361 (x x1 x2 w R):den prog M361 c361 (argE 0 [(pointer x),(int i64 x1),(int i64 x2)]) w (Rt f361 R)=
(Call prog 332 [pointer x,I x1] w fun e w'=>∃n,e=Z (I n)/\((n !=0)->R (Z (I n)) w')/\((n !=0)=false->Call prog 332 [pointer x,I x2] w' fun e w'=>∃n,e=Z (I n)/\((n !=0)->R (Z (I n)) w')/\((n !=0)=false->((x1==x2)->R (Z (I 2)) w')/\((x1==x2)=false->∃a,x=some a/\∃p n c,w'.cell? (a.add 0)=some (slice p n c)/\(0<=x1/\x1<(↑n:Int))/\∃a,p=some a/\∃n,w'.cell? (add a (Int.toNat x1*1))=some (I n)/\Call prog 260 [pointer x,I x2,I n] w' fun e w'=>∃n,e=Z (I n)/\((n==0)->∃a,x=some a/\∃p n_1 c,w'.cell? (a.add 0)=some (slice p n_1 c)/\(0<=x1/\x1<(↑n_1:Int))/\∃a,p=some a/\Wr w' (add a (Int.toNat x1*1)) [I 0] fun w'=>R (Z (I n)) w')/\((n==0)=false->R (Z (I n)) w'))))):=by kernel_rfl
def M52:Mt:={N:=17,keep:=kp 0 [[0],[4,5],[4,5,12],[2,3],[2,3]]}
noncomputable def c52:Code:=bodyOf f52
theorem u52:UT 52 M52 c52 f52:=fun h i=>u_ func52 (by kernel_rfl) h i
theorem t52 (x w R):den prog M52 c52 (argE 0 [(int i64 x)]) w (Rt f52 R)=
(Call prog 50 [I x] w fun e w'=>∃p n,e=Z (tuple #[pointer p,I n])/\((n !=0)->R (Z (tuple #[pointer none,I n])) w')/\((n !=0)=false->New w' [pointer p,I 0] 160 fun p w'=>R (Z (tuple #[pointer (some p),I 0])) w')):=by kernel_rfl
def M20:Mt:={N:=16,keep:=kp 0 [[0],[0,6],[2],[3],[2]]}
noncomputable def c20:Code:=bodyOf f20
theorem u20:UT 20 M20 c20 f20:=fun h i=>u_ func20 (by kernel_rfl) h i
theorem t20 (x w R):den prog M20 c20 (argE 0 [(pointer x)]) w (Rt f20 R)=
((x.isNone->R (Z (I 0)) w)/\(x.isNone=false->∃a,x=some a/\∃p,w.cell? (a.add 0)=some (pointer p)/\Call prog 78 [pointer p] w fun e w'=>∃n n_1,e=Z (tuple #[I n,I n_1])/\R (Z (I n)) w')):=by kernel_rfl
def M157:Mt:={N:=29,keep:=kp 0 [[0,1],[0,1,5],[0,1,5,9],[4],[0,1,13],[4],[0,1,19],[4],[4]],bk:=[(0,[0,1])]}
noncomputable def c157:Code:=bodyOf f157
theorem u157:UT 157 M157 c157 f157:=fun h i=>u_ func157 (by kernel_rfl) h i
theorem t157 (x x1 w R):den prog M157 c157 (argE 0 [(pointer x),(int i64 x1)]) w (Rt f157 R)=
(Call prog 259 [pointer x,I x1] w fun e w'=>∃n,e=Z (I n)/\((n !=0)->R (Z (I n)) w')/\((n !=0)=false->∃a,x=some a/\∃n,w'.cell? (a.add 1)=some (I n)/\((n !=0)->R (Z (I 7)) w')/\((n !=0)=false->Call prog 20 [pointer x] w' fun e w'=>∃n,e=Z (I n)/\(decide (n>=1000)->R (Z (I 5)) w')/\(decide (n>=1000)=false->∃a,x=some a/\∃p,w'.cell? (a.add 0)=some (pointer p)/\Call prog 260 [pointer p,I x1,I 1] w' fun e w'=>∃n,e=Z (I n)/\R (Z (I n)) w')))):=by kernel_rfl
def M160:Mt:={N:=15,keep:=kp 0 [[0],[0,3],[2],[0,6],[2],[],[2]],bk:=[(0,[0])]}
noncomputable def c160:Code:=bodyOf f160
theorem u160:UT 160 M160 c160 f160:=fun h i=>u_ func160 (by kernel_rfl) h i
theorem t160 (x w R):den prog M160 c160 (argE 0 [(pointer x)]) w (Rt f160 R)=
((x.isNone->R (Z (I 1)) w)/\(x.isNone=false->∃a,x=some a/\∃n,w.cell? (a.add 1)=some (I n)/\((n !=0)->R (Z (I 7)) w)/\((n !=0)=false->∃a,x=some a/\Wr w (a.add 1) [I 1] fun w'=>R (Z (I 0)) w'))):=by kernel_rfl
def M165:Mt:={N:=24,keep:=kp 0 [[0,1],[0,1,5],[0,1,5,9],[4],[0,1,13],[4],[4]],bk:=[(0,[0,1])]}
noncomputable def c165:Code:=bodyOf f165
theorem u165:UT 165 M165 c165 f165:=fun h i=>u_ func165 (by kernel_rfl) h i
theorem t165 (x x1 w R):den prog M165 c165 (argE 0 [(pointer x),(int i64 x1)]) w (Rt f165 R)=
(Call prog 259 [pointer x,I x1] w fun e w'=>∃n,e=Z (I n)/\((n !=0)->R (Z (I n)) w')/\((n !=0)=false->Call prog 265 [pointer x,I x1] w' fun e w'=>∃n,e=Z (I n)/\((n==0)->R (Z (I 12)) w')/\((n==0)=false->∃a,x=some a/\∃p,w'.cell? (a.add 0)=some (pointer p)/\Call prog 260 [pointer p,I x1,I (-1:Int)] w' fun e w'=>∃n,e=Z (I n)/\R (Z (I n)) w'))):=by kernel_rfl
def M213:Mt:={N:=15,keep:=kp 0 [[0],[0,3],[2],[0,6],[2],[],[2]],bk:=[(0,[0])]}
noncomputable def c213:Code:=bodyOf f213
theorem u213:UT 213 M213 c213 f213:=fun h i=>u_ func213 (by kernel_rfl) h i
theorem t213 (x w R):den prog M213 c213 (argE 0 [(pointer x)]) w (Rt f213 R)=
((x.isNone->R (Z (I 1)) w)/\(x.isNone=false->∃a,x=some a/\∃n,w.cell? (a.add 1)=some (I n)/\((n==0)->R (Z (I 6)) w)/\((n==0)=false->∃a,x=some a/\Wr w (a.add 1) [I 0] fun w'=>R (Z (I 0)) w'))):=by kernel_rfl
def M259:Mt:={N:=19,keep:=kp 0 [[0,1],[0,1,8],[4],[6],[4]]}
noncomputable def c259:Code:=bodyOf f259
theorem u259:UT 259 M259 c259 f259:=fun h i=>u_ func259 (by kernel_rfl) h i
theorem t259 (x x1 w R):den prog M259 c259 (argE 0 [(pointer x),(int i64 x1)]) w (Rt f259 R)=
((x.isNone->R (Z (I 1)) w)/\(x.isNone=false->∃a,x=some a/\∃p,w.cell? (a.add 0)=some (pointer p)/\Call prog 331 [pointer p,I x1] w fun e w'=>∃n n_1,e=Z (tuple #[I n,I n_1])/\R (Z (I n_1)) w')):=by kernel_rfl
def M265:Mt:={N:=19,keep:=kp 0 [[0,1],[0,1,8],[4],[5],[4]]}
noncomputable def c265:Code:=bodyOf f265
theorem u265:UT 265 M265 c265 f265:=fun h i=>u_ func265 (by kernel_rfl) h i
theorem t265 (x x1 w R):den prog M265 c265 (argE 0 [(pointer x),(int i64 x1)]) w (Rt f265 R)=
((x.isNone->R (Z (I 0)) w)/\(x.isNone=false->∃a,x=some a/\∃p,w.cell? (a.add 0)=some (pointer p)/\Call prog 331 [pointer p,I x1] w fun e w'=>∃n n_1,e=Z (tuple #[I n,I n_1])/\R (Z (I n)) w')):=by kernel_rfl
def M298:Mt:={N:=19,keep:=kp 0 [[0],[0,3],[2],[0,6],[2],[0,12],[2],[],[2]],bk:=[(0,[0])]}
noncomputable def c298:Code:=bodyOf f298
theorem u298:UT 298 M298 c298 f298:=fun h i=>u_ func298 (by kernel_rfl) h i
theorem t298 (x w R):den prog M298 c298 (argE 0 [(pointer x)]) w (Rt f298 R)=
((x.isNone->R (Z (I 1)) w)/\(x.isNone=false->∃a,x=some a/\∃n,w.cell? (a.add 1)=some (I n)/\((n !=1)->R (Z (I 6)) w)/\((n !=1)=false->Call prog 20 [pointer x] w fun e w'=>∃n,e=Z (I n)/\(decide (n>0)->R (Z (I 7)) w')/\(decide (n>0)=false->∃a,x=some a/\Wr w' (a.add 1) [I 2] fun w'=>R (Z (I 0)) w')))):=by kernel_rfl
def M262:Mt:={N:=13,keep:=kp 0 [[0],[0,9],[2,3],[2,3]]}
noncomputable def c262:Code:=bodyOf f262
theorem u262:UT 262 M262 c262 f262:=fun h i=>u_ func262 (by kernel_rfl) h i
theorem t262 (x w R):den prog M262 c262 (argE 0 [(int i64 x)]) w (Rt f262 R)=
((decide (x<1)=false->(decide (x>64)->R (Z (tuple #[pointer none,I 2])) w)/\(decide (x>64)=false->New w [I x,I 0,.bool false] 385 fun p w'=>R (Z (tuple #[pointer (some p),I 0])) w'))/\(decide (x<1)->R (Z (tuple #[pointer none,I 2])) w)):=by kernel_rfl
def M295:Mt:={N:=56,keep:=kp 0 [[0],[0,5],[2,3,4],[0,8],[2,3,4],[0,42],[2,3,4],[2,3,4]],ords:=[(3,[0,1,2,3,4,5,6,7,8,9,10,11,12,13,14,15,16,17,18,19,20,21,22,23,24,25,26,27,28,29]),(4,[0,1,2,3,4,5,6])],bk:=[(0,[0])]}
noncomputable def c295:Code:=bodyOf f295
theorem u295:UT 295 M295 c295 f295:=fun h i=>u_ func295 (by kernel_rfl) h i
theorem t295 (x w R):den prog M295 c295 (argE 0 [(pointer x)]) w (Rt f295 R)=
((x.isNone->R (Z (tuple #[I 0,.bool false,.bool true])) w)/\(x.isNone=false->Sm w fun w'=>∃a,x=some a/\∃b,w'.cell? (a.add 2)=some (.bool b)/\(b->∃a,x=some a/\∃n,w'.cell? (a.add 1)=some (I n)/\((n==0)=false->∃a,x=some a/\∃b,w'.cell? (a.add 2)=some (.bool b)/\((!b)->∃a,x=some a/\∃n,w'.cell? (a.add 1)=some (I n)/\∃a,x=some a/\∃n_1,w'.cell? (a.add 0)=some (I n_1)/\((n==n_1)->Sm w' fun w'_1=>∃a,x=some a/\∃b,w'_1.cell? (a.add 2)=some (.bool b)/\R (Z (tuple #[I 0,.bool b,.bool true])) w'_1)/\((n==n_1)=false->∃a,x=some a/\∃b,w'.cell? (a.add 2)=some (.bool b)/\(b->∃a,x=some a/\∃n,w'.cell? (a.add 1)=some (I n)/\R (Z (tuple #[I (wrap i64 (n-1)),.bool true,.bool false])) w')/\(b=false->∃a,x=some a/\∃n,w'.cell? (a.add 1)=some (I n)/\R (Z (tuple #[I n,.bool false,.bool false])) w')))/\((!b)=false->∃a,x=some a/\∃b,w'.cell? (a.add 2)=some (.bool b)/\(b->∃a,x=some a/\∃n,w'.cell? (a.add 1)=some (I n)/\R (Z (tuple #[I (wrap i64 (n-1)),.bool true,.bool false])) w')/\(b=false->∃a,x=some a/\∃n,w'.cell? (a.add 1)=some (I n)/\R (Z (tuple #[I n,.bool false,.bool false])) w')))/\((n==0)->Sm w' fun w'_1=>∃a,x=some a/\∃b,w'_1.cell? (a.add 2)=some (.bool b)/\R (Z (tuple #[I 0,.bool b,.bool true])) w'_1))/\(b=false->∃a,x=some a/\∃b,w'.cell? (a.add 2)=some (.bool b)/\((!b)->∃a,x=some a/\∃n,w'.cell? (a.add 1)=some (I n)/\∃a,x=some a/\∃n_1,w'.cell? (a.add 0)=some (I n_1)/\((n==n_1)->Sm w' fun w'_1=>∃a,x=some a/\∃b,w'_1.cell? (a.add 2)=some (.bool b)/\R (Z (tuple #[I 0,.bool b,.bool true])) w'_1)/\((n==n_1)=false->∃a,x=some a/\∃b,w'.cell? (a.add 2)=some (.bool b)/\(b->∃a,x=some a/\∃n,w'.cell? (a.add 1)=some (I n)/\R (Z (tuple #[I (wrap i64 (n-1)),.bool true,.bool false])) w')/\(b=false->∃a,x=some a/\∃n,w'.cell? (a.add 1)=some (I n)/\R (Z (tuple #[I n,.bool false,.bool false])) w')))/\((!b)=false->∃a,x=some a/\∃b,w'.cell? (a.add 2)=some (.bool b)/\(b->∃a,x=some a/\∃n,w'.cell? (a.add 1)=some (I n)/\R (Z (tuple #[I (wrap i64 (n-1)),.bool true,.bool false])) w')/\(b=false->∃a,x=some a/\∃n,w'.cell? (a.add 1)=some (I n)/\R (Z (tuple #[I n,.bool false,.bool false])) w'))))):=by kernel_rfl
def M296:Mt:={N:=23,keep:=kp 0 [[0],[0,4,5],[0,4,5,12],[2],[0,15],[2],[],[2]],bk:=[(0,[0])]}
noncomputable def c296:Code:=bodyOf f296
theorem u296:UT 296 M296 c296 f296:=fun h i=>u_ func296 (by kernel_rfl) h i
theorem t296 (x w R):den prog M296 c296 (argE 0 [(pointer x)]) w (Rt f296 R)=
(Call prog 295 [pointer x] w fun e w'=>∃n b b_1,e=Z (tuple #[I n,.bool b,.bool b_1])/\(x.isNone->R (Z (I 1)) w')/\(x.isNone=false->(b=false->(b_1->R (Z (I 6)) w')/\(b_1=false->∃a,x=some a/\Wr w' (a.add 2) [.bool true] fun w'=>R (Z (I 0)) w'))/\(b->R (Z (I 6)) w'))):=by kernel_rfl
def M301:Mt:={N:=33,keep:=kp 0 [[0],[0,4,5],[],[0,4,5,19],[2],[0,4,22],[2],[0,24],[],[2]],bk:=[(0,[])]}
noncomputable def c301:Code:=bodyOf f301
theorem u301:UT 301 M301 c301 f301:=fun h i=>u_ func301 (by kernel_rfl) h i
theorem t301 (x w R):den prog M301 c301 (argE 0 [(pointer x)]) w (Rt f301 R)=
(Call prog 295 [pointer x] w fun e w'=>∃n b b_1,e=Z (tuple #[I n,.bool b,.bool b_1])/\(x.isNone->R (Z (I 1)) w')/\(x.isNone=false->(b_1->R (Z (I 6)) w')/\(b_1=false->(b->∃a,x=some a/\∃n,w'.cell? (a.add 1)=some (I n)/\∃a,x=some a/\Wr w' (a.add 1) [I (wrap i64 (n-1))] fun w'=>R (Z (I 0)) w')/\(b=false->∃a,x=some a/\∃n,w'.cell? (a.add 1)=some (I n)/\∃a,x=some a/\Wr w' (a.add 1) [I (wrap i64 (n+1))] fun w'=>R (Z (I 0)) w')))):=by kernel_rfl
def M302:Mt:={N:=20,keep:=kp 0 [[0],[0,4,5],[4,5,12],[2],[4,15],[2],[18],[2],[2]],bk:=[(0,[])]}
noncomputable def c302:Code:=bodyOf f302
theorem u302:UT 302 M302 c302 f302:=fun h i=>u_ func302 (by kernel_rfl) h i
theorem t302 (x w R):den prog M302 c302 (argE 0 [(pointer x)]) w (Rt f302 R)=
(Call prog 295 [pointer x] w fun e w'=>∃n b b_1,e=Z (tuple #[I n,.bool b,.bool b_1])/\(x.isNone->R (Z (I 1)) w')/\(x.isNone=false->((!b_1)->R (Z (I 7)) w')/\((!b_1)=false->(b->R (Z (I 11)) w')/\(b=false->R (Z (I 0)) w')))):=by kernel_rfl
def M99:Mt:={N:=12,keep:=kp 0 [[0],[2]]}
noncomputable def c99:Code:=bodyOf f99
theorem u99:UT 99 M99 c99 f99:=fun h i=>u_ func99 (by kernel_rfl) h i
theorem t99 (x w R):den prog M99 c99 (argE 0 [(pointer x)]) w (Rt f99 R)=
(((!x.isNone)->∃a,x=some a/\∃p,w.cell? (a.add 0)=some (pointer p)/\R (Z (.bool !p.isNone)) w)/\((!x.isNone)=false->R (Z (.bool false)) w)):=by kernel_rfl
def M100:Mt:={N:=14,keep:=kp 0 [[0],[2]]}
noncomputable def c100:Code:=bodyOf f100
theorem u100:UT 100 M100 c100 f100:=fun h i=>u_ func100 (by kernel_rfl) h i
theorem t100 (x w R):den prog M100 c100 (argE 0 [(pointer x)]) w (Rt f100 R)=
(Call prog 99 [pointer x] w fun e w'=>∃b,e=Z (.bool b)/\(b->∃a,x=some a/\∃p,w'.cell? (a.add 0)=some (pointer p)/\∃a,p=some a/\∃b,w'.cell? (a.add 1)=some (.bool b)/\R (Z (.bool b)) w')/\(b=false->R (Z (.bool false)) w')):=by kernel_rfl
def M101:Mt:={N:=13,keep:=kp 0 [[0],[0,5],[2],[2]]}
noncomputable def c101:Code:=bodyOf f101
theorem u101:UT 101 M101 c101 f101:=fun h i=>u_ func101 (by kernel_rfl) h i
theorem t101 (x w R):den prog M101 c101 (argE 0 [(pointer x)]) w (Rt f101 R)=
(Call prog 99 [pointer x] w fun e w'=>∃b,e=Z (.bool b)/\((!b)->R (Z (I 0)) w')/\((!b)=false->∃a,x=some a/\∃p,w'.cell? (a.add 0)=some (pointer p)/\∃a,p=some a/\∃n,w'.cell? (a.add 2)=some (I n)/\R (Z (I n)) w')):=by kernel_rfl
def M102:Mt:={N:=13,keep:=kp 0 [[0],[0,5],[2],[2]]}
noncomputable def c102:Code:=bodyOf f102
theorem u102:UT 102 M102 c102 f102:=fun h i=>u_ func102 (by kernel_rfl) h i
theorem t102 (x w R):den prog M102 c102 (argE 0 [(pointer x)]) w (Rt f102 R)=
(Call prog 99 [pointer x] w fun e w'=>∃b,e=Z (.bool b)/\((!b)->R (Z (I 0)) w')/\((!b)=false->∃a,x=some a/\∃p,w'.cell? (a.add 0)=some (pointer p)/\∃a,p=some a/\∃n,w'.cell? (a.add 3)=some (I n)/\R (Z (I n)) w')):=by kernel_rfl
def M161:Mt:={N:=52,keep:=kp 0 [[0,1,2,3],[0,1,2,3,12],[8],[0,1,2,3,15],[8],[0,1,2,3,21],[8],[0,1,2,3,30],[8],[0,1,2,3,9],[0,1,2,3,9,34],[0,1,2,3,9],[0,1,2,3,10,11],[0,1,2,3,10,11,41],[8],[],[8]],bk:=[(0,[0,1,2,3])],cuts:=[(12,[0,1,2,3,9])]}
noncomputable def c161:Code:=bodyOf f161
noncomputable def c161_0:Code:=c161.sr.sr.sr.sr
def e161_0 (x:Option Addr) (x1:Bool) (x2 x3 x4:Int):Env:=[(0,SV.v (pointer x)),(1,SV.v (.bool x1)),(2,SV.v (int i64 x2)),(3,SV.v (int i64 x3)),(9,SV.v (int i64 x4))]
def k161_0 (R:RT):=Rt f161 R
theorem u161:UT 161 M161 c161 f161:=fun h i=>u_ func161 (by kernel_rfl) h i
theorem t161 (x x1 x2 x3 w R):den prog M161 c161 (argE 0 [(pointer x),(.bool x1),(int i64 x2),(int i64 x3)]) w (Rt f161 R)=
((x.isNone->R (Z (I 1)) w)/\(x.isNone=false->∃a,x=some a/\∃p,w.cell? (a.add 0)=some (pointer p)/\((!p.isNone)->R (Z (I 7)) w)/\((!p.isNone)=false->Call prog 261 [I x2] w fun e w'=>∃b,e=Z (.bool b)/\((!b)=false->Call prog 261 [I x3] w' fun e w'=>∃b,e=Z (.bool b)/\((!b)->R (Z (I 3)) w')/\((!b)=false->((x2==x3)->R (Z (I 2)) w')/\((x2==x3)=false->(x1->CutD prog M161 c161_0 (e161_0 x x1 x2 x3 4) w' (k161_0 R))/\(x1=false->CutD prog M161 c161_0 (e161_0 x x1 x2 x3 10) w' (k161_0 R)))))/\((!b)->R (Z (I 3)) w')))):=by kernel_rfl
theorem t161_0 (x x1 x2 x3 x4 w R):den prog M161 c161_0 (e161_0 x x1 x2 x3 x4) w (k161_0 R)=
(Call prog 262 [I x4] w fun e w'=>∃p n,e=Z (tuple #[pointer p,I n])/\((n !=0)->R (Z (I n)) w')/\((n !=0)=false->New w' [pointer p,.bool x1,I x2,I x3,.bool false] 284 fun p w'=>∃a,x=some a/\Wr w' (a.add 0) [pointer (some p)] fun w'=>R (Z (I 0)) w')):=by kernel_rfl
def M208:Mt:={N:=72,keep:=kp 0 [[0,2],[0,2,4],[0,2,4,12],[2,3],[0,2,5,6],[0,2,5,8],[0,2,5,8,51],[0,2,8],[0,2,8],[2,8],[2,3]],cuts:=[(6,[0,2,5,8]),(9,[0,2,8])]}
noncomputable def c208:Code:=bodyOf f208
noncomputable def c208_0:Code:=c208.sr.sr.sr.sr
noncomputable def c208_1:Code:=c208.sr.sr.sr.sr.sr
def e208_0 (x:Option Addr) (x1:Addr) (x2:Int) (x3:Addr):Env:=[(0,SV.v (pointer x)),(2,SV.v (pointer (some x1))),(5,SV.v (int i64 x2)),(8,SV.v (pointer (some x3)))]
def e208_1 (x:Option Addr) (x1 x2:Addr):Env:=[(0,SV.v (pointer x)),(2,SV.v (pointer (some x1))),(8,SV.v (pointer (some x2)))]
def k208_0 (R:RT):=Rt f208 R
def k208_1 (R:RT):=Rt f208 R
theorem u208:UT 208 M208 c208 f208:=fun h i=>u_ func208 (by kernel_rfl) h i
theorem t208 (x w R):den prog M208 c208 (argE 0 [(pointer x)]) w (Rt f208 R)=
(New w [I 0,.bool false,.bool false] 303 fun p w'=>Call prog 294 [pointer x] w' fun e w'=>∃n,e=Z (I n)/\((n !=0)->Wr w' p [I 0,.bool false,.bool false] fun w'=>∃n_1,w'.cell? (p.add 0)=some (I n_1)/\∃b,w'.cell? (p.add 1)=some (.bool b)/\∃b_1,w'.cell? (p.add 2)=some (.bool b_1)/\R (Z (tuple #[agg #[I n_1,.bool b,.bool b_1],I n])) w')/\((n !=0)=false->∃a,x=some a/\∃p_1,w'.cell? (a.add 0)=some (pointer p_1)/\∃a,p_1=some a/\∃p_2,w'.cell? (a.add 0)=some (pointer p_2)/\Call prog 295 [pointer p_2] w' fun e w'=>∃n b b_1,e=Z (tuple #[I n,.bool b,.bool b_1])/\((!b)->∃a,x=some a/\∃p_3,w'.cell? (a.add 0)=some (pointer p_3)/\∃a,p_3=some a/\∃b_2,w'.cell? (a.add 4)=some (.bool b_2)/\((!b_2)->∃a,x=some a/\∃r,w'.cell? (a.add 1)=some (map r)/\∃b_3,Sem.run prog (Instr.lookup 134 (map r) (I n) false) w'=Result.ok (.bool b_3) w'/\New w' [I 0,.bool false,.bool false] 303 fun p_4 w'=>Wr w' p_4 [I n,.bool b,.bool b_3] fun w'=>CutD prog M208 c208_0 (e208_0 x p n p_4) w' (k208_0 R))/\((!b_2)=false->New w' [I 0,.bool false,.bool false] 303 fun p_4 w'=>Wr w' p_4 [I n,.bool b,.bool false] fun w'=>CutD prog M208 c208_0 (e208_0 x p n p_4) w' (k208_0 R)))/\((!b)=false->New w' [I 0,.bool false,.bool false] 303 fun p_3 w'=>Wr w' p_3 [I n,.bool b,.bool false] fun w'=>CutD prog M208 c208_0 (e208_0 x p n p_3) w' (k208_0 R)))):=by kernel_rfl
theorem t208_0 (x x1 x2 x3 w R):den prog M208 c208_0 (e208_0 x x1 x2 x3) w (k208_0 R)=
(∃b,w.cell? (x3.add 2)=some (.bool b)/\(b->∃a,x=some a/\∃r,w.cell? (a.add 1)=some (map r)/\∃w',Sem.run prog (Builtin.delete_ #[134,3] 0 #[map r,I x2]) w=Result.ok (tuple #[]) w'/\∃a,x=some a/\∃p,w'.cell? (a.add 0)=some (pointer p)/\∃a,p=some a/\∃p,w'.cell? (a.add 0)=some (pointer p)/\Call prog 296 [pointer p] w' fun e w'=>∃n,e=Z (I n)/\CutD prog M208 c208_1 (e208_1 x x1 x3) w' (k208_1 R))/\(b=false->CutD prog M208 c208_1 (e208_1 x x1 x3) w (k208_1 R))):=by kernel_rfl
theorem t208_1 (x x1 x2 w R):den prog M208 c208_1 (e208_1 x x1 x2) w (k208_1 R)=
(∃a,x=some a/\∃p,w.cell? (a.add 0)=some (pointer p)/\∃a,p=some a/\Wr w (a.add 4) [.bool true] fun w'=>∃n,w'.cell? (x2.add 0)=some (I n)/\∃b,w'.cell? (x2.add 1)=some (.bool b)/\∃b_1,w'.cell? (x2.add 2)=some (.bool b_1)/\Wr w' x1 [I n,.bool b,.bool b_1] fun w'=>∃n,w'.cell? (x1.add 0)=some (I n)/\∃b,w'.cell? (x1.add 1)=some (.bool b)/\∃b_2,w'.cell? (x1.add 2)=some (.bool b_2)/\R (Z (tuple #[agg #[I n,.bool b,.bool b_2],I 0])) w'):=by kernel_rfl
def M210:Mt:={N:=23,keep:=kp 0 [[0],[0,3],[0,3,7],[2],[0],[2]]}
noncomputable def c210:Code:=bodyOf f210
theorem u210:UT 210 M210 c210 f210:=fun h i=>u_ func210 (by kernel_rfl) h i
theorem t210 (x w R):den prog M210 c210 (argE 0 [(pointer x)]) w (Rt f210 R)=
(Call prog 294 [pointer x] w fun e w'=>∃n,e=Z (I n)/\((n !=0)->R (Z (I n)) w')/\((n !=0)=false->∃a,x=some a/\∃p,w'.cell? (a.add 0)=some (pointer p)/\∃a,p=some a/\Wr w' (a.add 4) [.bool false] fun w'=>∃a,x=some a/\∃p,w'.cell? (a.add 0)=some (pointer p)/\∃a,p=some a/\∃p,w'.cell? (a.add 0)=some (pointer p)/\Call prog 301 [pointer p] w' fun e w'=>∃n,e=Z (I n)/\R (Z (I n)) w')):=by kernel_rfl
def M211:Mt:={N:=22,keep:=kp 0 [[0],[0,8],[2],[5],[2]]}
noncomputable def c211:Code:=bodyOf f211
theorem u211:UT 211 M211 c211 f211:=fun h i=>u_ func211 (by kernel_rfl) h i
theorem t211 (x w R):den prog M211 c211 (argE 0 [(pointer x)]) w (Rt f211 R)=
(Call prog 99 [pointer x] w fun e w'=>∃b,e=Z (.bool b)/\((!b)->R (Z (.bool false)) w')/\((!b)=false->∃a,x=some a/\∃p,w'.cell? (a.add 0)=some (pointer p)/\∃a,p=some a/\∃p,w'.cell? (a.add 0)=some (pointer p)/\Call prog 295 [pointer p] w' fun e w'=>∃n b b_1,e=Z (tuple #[I n,.bool b,.bool b_1])/\R (Z (.bool b_1)) w')):=by kernel_rfl
def M212:Mt:={N:=30,keep:=kp 0 [[0],[0,5],[2,3],[0,8],[2,3],[0,14],[2,3],[0,4],[4],[2,3]],bk:=[(0,[0])]}
noncomputable def c212:Code:=bodyOf f212
theorem u212:UT 212 M212 c212 f212:=fun h i=>u_ func212 (by kernel_rfl) h i
theorem t212 (x w R):den prog M212 c212 (argE 0 [(pointer x)]) w (Rt f212 R)=
((x.isNone->R (Z (tuple #[I 0,I 1])) w)/\(x.isNone=false->∃a,x=some a/\∃p,w.cell? (a.add 0)=some (pointer p)/\(p.isNone->R (Z (tuple #[I 0,I 12])) w)/\(p.isNone=false->Call prog 211 [pointer x] w fun e w'=>∃b,e=Z (.bool b)/\((!b)->R (Z (tuple #[I 0,I 6])) w')/\((!b)=false->∃a,x=some a/\∃p,w'.cell? (a.add 0)=some (pointer p)/\∃a,p=some a/\∃p,w'.cell? (a.add 0)=some (pointer p)/\Call prog 302 [pointer p] w' fun e w'=>∃n,e=Z (I n)/\∃a,x=some a/\Wr w' (a.add 0) [pointer none] fun w'=>R (Z (tuple #[I n,I 0])) w')))):=by kernel_rfl
def M261:Mt:={N:=9,keep:=kp 0 [[0],[2]]}
noncomputable def c261:Code:=bodyOf f261
theorem u261:UT 261 M261 c261 f261:=fun h i=>u_ func261 (by kernel_rfl) h i
theorem t261 (x w R):den prog M261 c261 (argE 0 [(int i64 x)]) w (Rt f261 R)=
((decide (x>=0)->R (Z (.bool (decide (x<64)))) w)/\(decide (x>=0)=false->R (Z (.bool false)) w)):=by kernel_rfl
def M264:Mt:={N:=29,keep:=kp 0 [[0,1],[0,1,5],[4],[0,1,8],[4],[0,1,19],[0,1],[],[4]],bk:=[(0,[0,1])]}
noncomputable def c264:Code:=bodyOf f264
theorem u264:UT 264 M264 c264 f264:=fun h i=>u_ func264 (by kernel_rfl) h i
theorem t264 (x x1 w R):den prog M264 c264 (argE 0 [(pointer x),(int i64 x1)]) w (Rt f264 R)=
((x.isNone->R (Z (I 1)) w)/\(x.isNone=false->(decide (x1<0)=false->(decide (x1>=10)->R (Z (I 3)) w)/\(decide (x1>=10)=false->∃a,x=some a/\∃r,w.cell? (a.add 1)=some (map r)/\(r.isNone->NewMap w fun r w'=>∃a,x=some a/\Wr w' (a.add 1) [map (some r)] fun w'=>∃a,x=some a/\∃r,w'.cell? (a.add 1)=some (map r)/\∃w'_1,Sem.run prog (Instr.mapUpdate 134 (map r) (I x1) (.bool true)) w'=Result.ok () w'_1/\R (Z (I 0)) w'_1)/\(r.isNone=false->∃a,x=some a/\∃r,w.cell? (a.add 1)=some (map r)/\∃w',Sem.run prog (Instr.mapUpdate 134 (map r) (I x1) (.bool true)) w=Result.ok () w'/\R (Z (I 0)) w')))/\(decide (x1<0)->R (Z (I 3)) w))):=by kernel_rfl
def M294:Mt:={N:=15,keep:=kp 0 [[0],[0,3],[2],[0,6],[2],[12],[2],[2]],bk:=[(0,[])]}
noncomputable def c294:Code:=bodyOf f294
theorem u294:UT 294 M294 c294 f294:=fun h i=>u_ func294 (by kernel_rfl) h i
theorem t294 (x w R):den prog M294 c294 (argE 0 [(pointer x)]) w (Rt f294 R)=
((x.isNone->R (Z (I 1)) w)/\(x.isNone=false->∃a,x=some a/\∃p,w.cell? (a.add 0)=some (pointer p)/\(p.isNone->R (Z (I 12)) w)/\(p.isNone=false->Call prog 211 [pointer x] w fun e w'=>∃b,e=Z (.bool b)/\(b->R (Z (I 6)) w')/\(b=false->R (Z (I 0)) w')))):=by kernel_rfl
def M54:Mt:={N:=33,keep:=kp 0 [[0],[0,11],[2,3],[4],[4,20,21],[4,20,21,22],[4,5,20,21],[4,20,21],[4,20,21],[2,3]],bk:=[(0,[4]),(1,[4,20,21])],lk:=[(5,[4,20,21])]}
noncomputable def c54:Code:=bodyOf f54
noncomputable def c54_0:Code:=c54.sr.sr.sr.sr
noncomputable def c54_1:Code:=c54.sr.sr.sr.sl.sr.sl.sl
def e54_1 (x:Option Addr) (x1 x2:Int):Env:=[(4,SV.v (pointer x)),(20,SV.v (int i64 x1)),(21,SV.v (int i64 x2))]
def k54_1 (R:RT):=blockK 0 [4] (SQ M54 c54_0 (Rt f54 R) (Rt f54 R))
theorem u54:UT 54 M54 c54 f54:=fun h i=>u_ func54 (by kernel_rfl) h i
theorem t54 (x w R):den prog M54 c54 (argE 0 [(int i64 x)]) w (Rt f54 R)=
((decide (x<1)=false->(decide (x>64)->R (Z (tuple #[pointer none,I 2])) w)/\(decide (x>64)=false->∃p n c w',Sem.run prog (Instr.makeSlice 222 (I x) (I x)) w=Result.ok (slice p n c) w'/\New w' [slice p n c] 224 fun p w'=>∃a,some p=some a/\∃p_1 n c,w'.cell? (a.add 0)=some (slice p_1 n c)/\Cut (WP prog 33 (Code.loop c54_1) (e54_1 (some p) (↑n:Int) 0) w' (k54_1 R))))/\(decide (x<1)->R (Z (tuple #[pointer none,I 2])) w)):=by kernel_rfl
theorem t54_1 (x x1 x2 w B54_1 R):den prog M54 c54_1 (e54_1 x x1 x2) w (loopK B54_1 (k54_1 R))=
((decide (x2<x1)->∃a,x=some a/\∃p n c,w.cell? (a.add 0)=some (slice p n c)/\(0<=x2/\x2<(↑n:Int))/\∃a,p=some a/\Wr w (add (add a (Int.toNat x2*6)) 0) [.bool true] fun w'=>B54_1 [(4,SV.v (pointer x)),(20,SV.v (I x1)),(21,SV.v (I (wrap i64 (x2+1))))] w')/\(decide (x2<x1)=false->R (Z (tuple #[pointer x,I 0])) w)):=by kernel_rfl
def M113:Mt:={N:=21,keep:=kp 0 [[0,1,4],[4,6,7],[4,6,7,15],[4,5],[4,5]]}
noncomputable def c113:Code:=bodyOf f113
theorem u113:UT 113 M113 c113 f113:=fun h i=>u_ func113 (by kernel_rfl) h i
theorem t113 (x x1 w R):den prog M113 c113 (argE 0 [(pointer x),(int i64 x1)]) w (Rt f113 R)=
(New w [.bool false,.bool false,I 0,I 0,I 0,I 0] 226 fun p w'=>Call prog 199 [pointer x,I x1] w' fun e w'=>∃p_1 n,e=Z (tuple #[pointer p_1,I n])/\((n !=0)->Wr w' p [.bool false,.bool false,I 0,I 0,I 0,I 0] fun w'=>∃b,w'.cell? (p.add 0)=some (.bool b)/\∃b_1,w'.cell? (p.add 1)=some (.bool b_1)/\∃n_1,w'.cell? (p.add 2)=some (I n_1)/\∃n_2,w'.cell? (p.add 3)=some (I n_2)/\∃n_3,w'.cell? (p.add 4)=some (I n_3)/\∃n_4,w'.cell? (p.add 5)=some (I n_4)/\R (Z (tuple #[agg #[.bool b,.bool b_1,I n_1,I n_2,I n_3,I n_4],I n])) w')/\((n !=0)=false->∃a,p_1=some a/\∃b,w'.cell? (a.add 0)=some (.bool b)/\∃b_1,w'.cell? (a.add 1)=some (.bool b_1)/\∃n,w'.cell? (a.add 2)=some (I n)/\∃n_1,w'.cell? (a.add 3)=some (I n_1)/\∃n_2,w'.cell? (a.add 4)=some (I n_2)/\∃n_3,w'.cell? (a.add 5)=some (I n_3)/\Wr w' p [.bool b,.bool b_1,I n,I n_1,I n_2,I n_3] fun w'=>∃b,w'.cell? (p.add 0)=some (.bool b)/\∃b_2,w'.cell? (p.add 1)=some (.bool b_2)/\∃n,w'.cell? (p.add 2)=some (I n)/\∃n_4,w'.cell? (p.add 3)=some (I n_4)/\∃n_5,w'.cell? (p.add 4)=some (I n_5)/\∃n_6,w'.cell? (p.add 5)=some (I n_6)/\R (Z (tuple #[agg #[.bool b,.bool b_2,I n,I n_4,I n_5,I n_6],I 0])) w')):=by kernel_rfl
def M114:Mt:={N:=24,keep:=kp 0 [[2,3],[2,5],[2,5,8],[4],[5,12],[4],[17],[4],[4]],bk:=[(0,[])]}
noncomputable def c114:Code:=bodyOf f114
theorem u114 {a b c d e f g i j k l m n o p w R}(h:den prog M114 c114 (argE 0 [agg #[a,b,c,d,e,f],agg #[g,i,j,k,l,m,n,o,p]]) w (Rt f114 R)):Calls prog 114 #[agg #[a,b,c,d,e,f],agg #[g,i,j,k,l,m,n,o,p]] w R:=u_ func114 (by kernel_rfl) h
theorem t114 (x x1 x2 x3 x4 x5 x6 x7 x8 x9 x10 x11 x12 x13 x14 w R):den prog M114 c114 (argE 0 [(agg #[(.bool x),(.bool x1),(int i64 x2),(int i64 x3),(int i64 x4),(int i64 x5)]),(agg #[(.bool x6),(.bool x7),(.bool x8),(.bool x9),(.bool x10),(.bool x11),(.bool x12),(.bool x13),(.bool x14)])]) w (Rt f114 R)=
(New w [.bool x,.bool x1,I x2,I x3,I x4,I x5] 226 fun p w'=>New w' [.bool x6,.bool x7,.bool x8,.bool x9,.bool x10,.bool x11,.bool x12,.bool x13,.bool x14] 240 fun p_1 w'=>∃b,w'.cell? (p_1.add 0)=some (.bool b)/\∃b_1,w'.cell? (p_1.add 1)=some (.bool b_1)/\∃b_2,w'.cell? (p_1.add 2)=some (.bool b_2)/\∃b_3,w'.cell? (p_1.add 3)=some (.bool b_3)/\∃b_4,w'.cell? (p_1.add 4)=some (.bool b_4)/\∃b_5,w'.cell? (p_1.add 5)=some (.bool b_5)/\∃b_6,w'.cell? (p_1.add 6)=some (.bool b_6)/\∃b_7,w'.cell? (p_1.add 7)=some (.bool b_7)/\∃b_8,w'.cell? (p_1.add 8)=some (.bool b_8)/\Call prog 200 [agg #[.bool b,.bool b_1,.bool b_2,.bool b_3,.bool b_4,.bool b_5,.bool b_6,.bool b_7,.bool b_8]] w' fun e w'=>∃n,e=Z (I n)/\∃b,w'.cell? (p.add 0)=some (.bool b)/\((!b)->R (Z (I 0)) w')/\((!b)=false->∃b,w'.cell? (p.add 1)=some (.bool b)/\((!b)->R (Z (I n)) w')/\((!b)=false->((n==0)=false->((n==9)->R (Z (I 0)) w')/\((n==9)=false->R (Z (I 1)) w'))/\((n==0)->R (Z (I 0)) w')))):=by kernel_rfl
def M116:Mt:={N:=33,keep:=kp 0 [[0,1,2],[2,7,8],[2,7,8,16],[6],[2,7],[7,25],[],[6]]}
noncomputable def c116:Code:=bodyOf f116
theorem u116:UT 116 M116 c116 f116:=fun h i=>u_ func116 (by kernel_rfl) h i
theorem t116 (x x1 x2 w R):den prog M116 c116 (argE 0 [(pointer x),(int i64 x1),(.bool x2)]) w (Rt f116 R)=
(Call prog 199 [pointer x,I x1] w fun e w'=>∃p n,e=Z (tuple #[pointer p,I n])/\((n !=0)->R (Z (I n)) w')/\((n !=0)=false->∃a,p=some a/\∃n,w'.cell? (a.add 4)=some (I n)/\∃a,p=some a/\Wr w' (a.add 4) [I (wrap i64 (n+1))] fun w'=>(x2->∃a,p=some a/\∃n,w'.cell? (a.add 5)=some (I n)/\∃a,p=some a/\Wr w' (a.add 5) [I (wrap i64 (n+1))] fun w'=>R (Z (I 0)) w')/\(x2=false->R (Z (I 0)) w'))):=by kernel_rfl
def M117:Mt:={N:=41,keep:=kp 0 [[0,1,2],[2,8,9],[2,8,9,17],[6,7],[2,8,21],[6,7],[2,8,25],[6,7],[2,8,10],[2,10],[6,7]],bk:=[(0,[2,8])]}
noncomputable def c117:Code:=bodyOf f117
theorem u117:UT 117 M117 c117 f117:=fun h i=>u_ func117 (by kernel_rfl) h i
theorem t117 (x x1 x2 w R):den prog M117 c117 (argE 0 [(pointer x),(int i64 x1),(int i64 x2)]) w (Rt f117 R)=
(Call prog 199 [pointer x,I x1] w fun e w'=>∃p n,e=Z (tuple #[pointer p,I n])/\((n !=0)->R (Z (tuple #[I 0,I n])) w')/\((n !=0)=false->Call prog 206 [I x2] w' fun e w'=>∃b,e=Z (.bool b)/\((!b)->R (Z (tuple #[I 0,I 2])) w')/\((!b)=false->∃a,p=some a/\∃b,w'.cell? (a.add 1)=some (.bool b)/\((!b)->R (Z (tuple #[I 0,I 6])) w')/\((!b)=false->∃a,p=some a/\∃n,w'.cell? (a.add 3)=some (I n)/\Call prog 207 [pointer p] w' fun e w'=>e=Z (tuple #[])/\∃n_1 w'_1,Sem.run prog (Builtin.max_ #[2,2] 2 #[I 0,I (wrap i64 (x2-n))]) w'=Result.ok (I n_1) w'_1/\R (Z (tuple #[I n_1,I 0])) w'_1)))):=by kernel_rfl
def M199:Mt:={N:=27,keep:=kp 0 [[0,1],[0,1,6],[4,5],[0,1,9],[4,5],[4,5]],bk:=[(0,[0,1])]}
noncomputable def c199:Code:=bodyOf f199
theorem u199:UT 199 M199 c199 f199:=fun h i=>u_ func199 (by kernel_rfl) h i
theorem t199 (x x1 w R):den prog M199 c199 (argE 0 [(pointer x),(int i64 x1)]) w (Rt f199 R)=
((x.isNone->R (Z (tuple #[pointer none,I 1])) w)/\(x.isNone=false->(decide (x1<0)=false->∃a,x=some a/\∃p n c,w.cell? (a.add 0)=some (slice p n c)/\(decide (x1>=(↑n:Int))->R (Z (tuple #[pointer none,I 3])) w)/\(decide (x1>=(↑n:Int))=false->∃a,x=some a/\∃p n c,w.cell? (a.add 0)=some (slice p n c)/\(0<=x1/\x1<(↑n:Int))/\∃a,p=some a/\R (Z (tuple #[pointer (some (add a (Int.toNat x1*6))),I 0])) w))/\(decide (x1<0)->R (Z (tuple #[pointer none,I 3])) w))):=by kernel_rfl
def M200:Mt:={N:=43,keep:=kp 0 [[1],[34,35],[34,35,36],[4,34,35],[4,34,35,39],[2],[34,35],[2]],bk:=[(0,[]),(1,[34,35])],cuts:=[(2,[34,35])],lk:=[(2,[34,35])]}
noncomputable def c200:Code:=bodyOf f200
noncomputable def c200_0:Code:=c200.sr.sr
noncomputable def c200_1:Code:=c200.sr.sl.sr
noncomputable def c200_2:Code:=c200.sr.sl.sr.sl.sl
def e200_1 (x:List Value) (x1:Int):Env:=[(34,SV.v (agg x.toArray)),(35,SV.v (int i64 x1))]
def e200_2 (x:List Value) (x1:Int):Env:=[(34,SV.v (agg x.toArray)),(35,SV.v (int i64 x1))]
def k200_1 (R:RT):=SQ M200 c200_0 (Rt f200 R) (Rt f200 R)
def k200_2 (R:RT):=blockK 0 [] (SQ M200 c200_0 (Rt f200 R) (Rt f200 R))
theorem u200 {a b c d e f g i j w R}(h:den prog M200 c200 (argE 0 [agg #[a,b,c,d,e,f,g,i,j]]) w (Rt f200 R)):Calls prog 200 #[agg #[a,b,c,d,e,f,g,i,j]] w R:=u_ func200 (by kernel_rfl) h
theorem t200 (x x1 x2 x3 x4 x5 x6 x7 x8 w R):den prog M200 c200 (argE 0 [(agg #[(.bool x),(.bool x1),(.bool x2),(.bool x3),(.bool x4),(.bool x5),(.bool x6),(.bool x7),(.bool x8)])]) w (Rt f200 R)=
(New w [.bool x,.bool x1,.bool x2,.bool x3,.bool x4,.bool x5,.bool x6,.bool x7,.bool x8] 240 fun p w'=>∃b,w'.cell? (p.add 0)=some (.bool b)/\∃b_1,w'.cell? (p.add 2)=some (.bool b_1)/\∃b_2,w'.cell? (p.add 1)=some (.bool b_2)/\(b_2=false->∃b_3,w'.cell? (p.add 3)=some (.bool b_3)/\∃b_4,w'.cell? (p.add 4)=some (.bool b_4)/\∃b_5,w'.cell? (p.add 5)=some (.bool b_5)/\∃b_6,w'.cell? (p.add 6)=some (.bool b_6)/\∃b_7,w'.cell? (p.add 7)=some (.bool b_7)/\∃b_8,w'.cell? (p.add 8)=some (.bool b_8)/\CutD prog M200 c200_1 [(34,SV.v (agg #[.bool b,I 2,.bool b_1,I 3,.bool !b_3,I 0,.bool b_4,I 4,.bool b_5,I 5,.bool b_6,I 6,.bool b_7,I 7,.bool b_8,I 8])),(35,SV.v (I 0))] w' (k200_1 R))/\(b_2->∃b_3,w'.cell? (p.add 4)=some (.bool b_3)/\∃b_4,w'.cell? (p.add 5)=some (.bool b_4)/\∃b_5,w'.cell? (p.add 6)=some (.bool b_5)/\∃b_6,w'.cell? (p.add 7)=some (.bool b_6)/\∃b_7,w'.cell? (p.add 8)=some (.bool b_7)/\CutD prog M200 c200_1 [(34,SV.v (agg #[.bool b,I 2,.bool b_1,I 3,.bool true,I 0,.bool b_3,I 4,.bool b_4,I 5,.bool b_5,I 6,.bool b_6,I 7,.bool b_7,I 8])),(35,SV.v (I 0))] w' (k200_1 R))):=by kernel_rfl
theorem t200_1 (x x1 w R):den prog M200 c200_1 (e200_1 x x1) w (k200_1 R)=
(Cut (WP prog 43 (Code.loop c200_2) (e200_2 x x1) w (k200_2 R))):=by kernel_rfl
theorem t200_2 (x x1 w B200_2 R):den prog M200 c200_2 (e200_2 x x1) w (loopK B200_2 (k200_2 R))=
((decide (x1<8)->(0<=x1/\x1<(↑8:Int))/\∃b n,List.take 2 (List.drop (Int.toNat x1*2) (Array.toList (List.toArray x)))=[.bool b,I n]/\New w [.bool false,I 0] 361 fun p w'=>Wr w' p [.bool b,I n] fun w'=>∃b,w'.cell? (p.add 0)=some (.bool b)/\(b->∃n,w'.cell? (p.add 1)=some (I n)/\R (Z (I n)) w')/\(b=false->B200_2 [(34,SV.v (agg (List.toArray x))),(35,SV.v (I (wrap i64 (x1+1))))] w'))/\(decide (x1<8)=false->R (Z (I 9)) w)):=by kernel_rfl
def M206:Mt:={N:=9,keep:=kp 0 [[0],[2]]}
noncomputable def c206:Code:=bodyOf f206
theorem u206:UT 206 M206 c206 f206:=fun h i=>u_ func206 (by kernel_rfl) h i
theorem t206 (x w R):den prog M206 c206 (argE 0 [(int i64 x)]) w (Rt f206 R)=
((decide (x>=0)->R (Z (.bool (decide (x<=1152921504606846976)))) w)/\(decide (x>=0)=false->R (Z (.bool false)) w)):=by kernel_rfl
def M207:Mt:={N:=11,keep:=kp 0 [[]]}
noncomputable def c207:Code:=bodyOf f207
theorem u207:UT 207 M207 c207 f207:=fun h i=>u_ func207 (by kernel_rfl) h i
theorem t207 (x w R):den prog M207 c207 (argE 0 [(pointer x)]) w (Rt f207 R)=
(∃a,x=some a/\Wr w (a.add 1) [.bool false] fun w'=>∃a,x=some a/\Wr w' (a.add 2) [I 0] fun w'=>∃a,x=some a/\Wr w' (a.add 3) [I 0] fun w'=>R (Z (tuple #[])) w'):=by kernel_rfl
def M216:Mt:={N:=56,keep:=kp 0 [[0,1,2,3],[2,3,9,10],[2,3,9,10,17],[8],[2,3,9,21],[8],[2,3,9,33],[8],[],[8]],bk:=[(0,[2,3,9])]}
noncomputable def c216:Code:=bodyOf f216
theorem u216:UT 216 M216 c216 f216:=fun h i=>u_ func216 (by kernel_rfl) h i
theorem t216 (x x1 x2 x3 w R):den prog M216 c216 (argE 0 [(pointer x),(int i64 x1),(int i64 x2),(int i64 x3)]) w (Rt f216 R)=
(Call prog 199 [pointer x,I x1] w fun e w'=>∃p n,e=Z (tuple #[pointer p,I n])/\((n !=0)->R (Z (I n)) w')/\((n !=0)=false->(decide (x2<0)=false->(decide (x2>=8)=false->Call prog 206 [I x3] w' fun e w'=>∃b,e=Z (.bool b)/\((!b)->R (Z (I 2)) w')/\((!b)=false->∃a,p=some a/\∃b,w'.cell? (a.add 0)=some (.bool b)/\((!b)=false->∃a,p=some a/\∃b,w'.cell? (a.add 1)=some (.bool b)/\(b->R (Z (I 6)) w')/\(b=false->∃a,p=some a/\Wr w' (a.add 1) [.bool true] fun w'=>∃a,p=some a/\Wr w' (a.add 2) [I x2] fun w'=>∃a,p=some a/\Wr w' (a.add 3) [I x3] fun w'=>R (Z (I 0)) w'))/\((!b)->R (Z (I 6)) w')))/\(decide (x2>=8)->R (Z (I 2)) w'))/\(decide (x2<0)->R (Z (I 2)) w'))):=by kernel_rfl
def M227:Mt:={N:=36,keep:=kp 0 [[0,1],[7,8],[7,8,18],[4,5,6],[7,9,10],[9,10],[4,5,6]],ords:=[(4,[0,1,2,3,4,5,6,7,8,9])]}
noncomputable def c227:Code:=bodyOf f227
theorem u227:UT 227 M227 c227 f227:=fun h i=>u_ func227 (by kernel_rfl) h i
theorem t227 (x x1 w R):den prog M227 c227 (argE 0 [(pointer x),(int i64 x1)]) w (Rt f227 R)=
(Call prog 199 [pointer x,I x1] w fun e w'=>∃p n,e=Z (tuple #[pointer p,I n])/\((n !=0)->R (Z (tuple #[I 0,I 0,I n])) w')/\((n !=0)=false->Sm w' fun w'_1=>∃a,p=some a/\∃n,w'_1.cell? (a.add 5)=some (I n)/\∃a,p=some a/\∃n_1,w'_1.cell? (a.add 4)=some (I n_1)/\∃a,p=some a/\Wr w'_1 (a.add 5) [I 0] fun w'=>∃a,p=some a/\Wr w' (a.add 4) [I 0] fun w'=>R (Z (tuple #[I n,I n_1,I 0])) w')):=by kernel_rfl
def M354:Mt:={N:=32,keep:=kp 0 [[0,1,2],[2,7,8],[2,7,8,15],[6],[2,7,19],[6],[7],[],[6]],bk:=[(0,[2,7])]}
noncomputable def c354:Code:=bodyOf f354
theorem u354:UT 354 M354 c354 f354:=fun h i=>u_ func354 (by kernel_rfl) h i
theorem t354 (x x1 x2 w R):den prog M354 c354 (argE 0 [(pointer x),(int i64 x1),(.bool x2)]) w (Rt f354 R)=
(Call prog 199 [pointer x,I x1] w fun e w'=>∃p n,e=Z (tuple #[pointer p,I n])/\((n !=0)->R (Z (I n)) w')/\((n !=0)=false->∃a,p=some a/\∃b,w'.cell? (a.add 0)=some (.bool b)/\((b==x2)->R (Z (I 6)) w')/\((b==x2)=false->∃a,p=some a/\Wr w' (a.add 0) [.bool x2] fun w'=>Call prog 207 [pointer p] w' fun e w'=>e=Z (tuple #[])/\R (Z (I 0)) w'))):=by kernel_rfl
def M215:Mt:={N:=22,keep:=kp 0 [[0,1,2],[0,1,7],[6],[0,1,10],[6],[6]],bk:=[(0,[0,1])]}
noncomputable def c215:Code:=bodyOf f215
theorem u215:UT 215 M215 c215 f215:=fun h i=>u_ func215 (by kernel_rfl) h i
theorem t215 (x x1 x2 w R):den prog M215 c215 (argE 0 [(int i64 x),(int i64 x1),(.bool x2)]) w (Rt f215 R)=
(((!x2)->R (Z (I 1073741824)) w)/\((!x2)=false->(decide (x<0)=false->(decide (x1<=x)->R (Z (I 0)) w)/\(decide (x1<=x)=false->∃n w',Sem.run prog (Builtin.min_ #[2,2] 2 #[I (wrap i64 (x1-x)),I 1073741824]) w=Result.ok (I n) w'/\R (Z (I n)) w'))/\(decide (x<0)->R (Z (I 0)) w))):=by kernel_rfl
def M217:Mt:={N:=32,keep:=kp 0 [[0,1,2],[0,1,2,7],[0,1,2,7,12],[0,1,2,7],[0,1,2,7,30],[6],[6]],bk:=[(0,[]),(1,[0,1,2,7])],lk:=[(2,[0,1,2,7])]}
noncomputable def c217:Code:=bodyOf f217
noncomputable def c217_0:Code:=c217.sr.sr
noncomputable def c217_1:Code:=c217.sr.sl.sr.sl.sl
def e217_1 (x:Option Addr) (x1 x2:Nat) (x3 x4 x5:Int):Env:=[(0,SV.v (slice x x1 x2)),(1,SV.v (int i64 x3)),(2,SV.v (int i64 x4)),(7,SV.v (int i64 x5))]
def k217_1 (R:RT):=blockK 0 [] (SQ M217 c217_0 (Rt f217 R) (Rt f217 R))
theorem u217:UT 217 M217 c217 f217:=fun h i=>u_ func217 (by kernel_rfl) h i
theorem t217 (x x1 x2 x3 x4 w R):den prog M217 c217 (argE 0 [(slice x x1 x2),(int i64 x3),(int i64 x4)]) w (Rt f217 R)=
(Cut (WP prog 32 (Code.loop c217_1) (e217_1 x x1 x2 x3 x4 (wrap i64 ((↑x1:Int)-1))) w (k217_1 R))):=by kernel_rfl
theorem t217_1 (x x1 x2 x3 x4 x5 w B217_1 R):den prog M217 c217_1 (e217_1 x x1 x2 x3 x4 x5) w (loopK B217_1 (k217_1 R))=
((decide (x5>0)->(0<=x5/\x5<(↑x1:Int))/\∃a,x=some a/\∃n,w.cell? (add (add a (Int.toNat x5*3)) 0)=some (I n)/\(decide (n<=x4)->(0<=x5/\x5<(↑x1:Int))/\∃a,x=some a/\∃n,w.cell? (add (add a (Int.toNat x5*3)) 1)=some (I n)/\(decide (n<=x3)->R (Z (I x5)) w)/\(decide (n<=x3)=false->B217_1 [(0,SV.v (slice x x1 x2)),(1,SV.v (I x3)),(2,SV.v (I x4)),(7,SV.v (I (wrap i64 (x5-1))))] w))/\(decide (n<=x4)=false->B217_1 [(0,SV.v (slice x x1 x2)),(1,SV.v (I x3)),(2,SV.v (I x4)),(7,SV.v (I (wrap i64 (x5-1))))] w))/\(decide (x5>0)=false->R (Z (I 0)) w)):=by kernel_rfl
def M218:Mt:={N:=6,keep:=kp 0 [[],[0]]}
noncomputable def c218:Code:=bodyOf f218
theorem u218:UT 218 M218 c218 f218:=fun h i=>u_ func218 (by kernel_rfl) h i
theorem t218 (w R):den prog M218 c218 (argE 0 []) w (Rt f218 R)=
(New w [I 0,I 0,I 100,I 2,I 10,I 60,I 10,I 50,I 25,I 50,I 400,I 5] 321 fun p w'=>R (Z (slice (some p) 4 4)) w'):=by kernel_rfl
def M58:Mt:={N:=14,keep:=kp 0 [[0,1],[0,1,9],[4,5],[4,5]]}
noncomputable def c58:Code:=bodyOf f58
theorem u58:UT 58 M58 c58 f58:=fun h i=>u_ func58 (by kernel_rfl) h i
theorem t58 (x x1 w R):den prog M58 c58 (argE 0 [(int i64 x),(int i64 x1)]) w (Rt f58 R)=
(Call prog 112 [I x,I x1] w fun e w'=>∃b,e=Z (.bool b)/\((!b)->R (Z (tuple #[pointer none,I 2])) w')/\((!b)=false->New w' [I x,I x1,I 0,I 0,I 0,I 0,I 0,I 0,I 0,I 0,I 0] 235 fun p w'=>R (Z (tuple #[pointer (some p),I 0])) w')):=by kernel_rfl
def M112:Mt:={N:=16,keep:=kp 0 [[0,1],[4]]}
noncomputable def c112:Code:=bodyOf f112
theorem u112:UT 112 M112 c112 f112:=fun h i=>u_ func112 (by kernel_rfl) h i
theorem t112 (x x1 w R):den prog M112 c112 (argE 0 [(int i64 x),(int i64 x1)]) w (Rt f112 R)=
((decide (x>=1)->(decide (x1<=100000)->R (Z (.bool (decide (x<=x1)))) w)/\(decide (x1<=100000)=false->R (Z (.bool false)) w))/\(decide (x>=1)=false->R (Z (.bool false)) w)):=by kernel_rfl
def M228:Mt:={N:=45,keep:=kp 0 [[0,1,2],[0,1,2,8],[6,7],[0,1,2,11],[6,7],[0],[0],[6,7]],ords:=[(5,[0,1,2,3,4,5,6,7,8,9,10,11])],bk:=[(0,[0,1,2])]}
noncomputable def c228:Code:=bodyOf f228
theorem u228:UT 228 M228 c228 f228:=fun h i=>u_ func228 (by kernel_rfl) h i
theorem t228 (x x1 x2 w R):den prog M228 c228 (argE 0 [(pointer x),(int i64 x1),(int i64 x2)]) w (Rt f228 R)=
((x.isNone->R (Z (tuple #[I 0,I 1])) w)/\(x.isNone=false->(decide (x1<0)=false->(decide (x1>x2)=false->(decide (x2>1099511627776)->R (Z (tuple #[I 0,I 2])) w)/\(decide (x2>1099511627776)=false->Sm w fun w'=>∃a,x=some a/\∃n,w'.cell? (a.add 10)=some (I n)/\∃a,x=some a/\(0<=n/\n<(↑4:Int))/\Wr w' (add (a.add 2) (Int.toNat n*2)) [I x1,I x2] fun w'=>∃a,x=some a/\∃n,w'.cell? (a.add 10)=some (I n)/\(4:Int)≠0/\∃a,x=some a/\Wr w' (a.add 10) [I (Int.tmod (wrap i64 (n+1)) 4)] fun w'=>Call prog 311 [pointer x] w' fun e w'=>∃n,e=Z (I n)/\R (Z (tuple #[I n,I 0])) w'))/\(decide (x1>x2)->R (Z (tuple #[I 0,I 2])) w))/\(decide (x1<0)->R (Z (tuple #[I 0,I 2])) w))):=by kernel_rfl
def M266:Mt:={N:=23,keep:=kp 0 [[0,1,2],[0,1,2,7],[6],[0,1,2,10],[6],[],[6]],bk:=[(0,[0,1,2])]}
noncomputable def c266:Code:=bodyOf f266
theorem u266:UT 266 M266 c266 f266:=fun h i=>u_ func266 (by kernel_rfl) h i
theorem t266 (x x1 x2 w R):den prog M266 c266 (argE 0 [(pointer x),(int i64 x1),(int i64 x2)]) w (Rt f266 R)=
((x.isNone->R (Z (I 1)) w)/\(x.isNone=false->Call prog 112 [I x1,I x2] w fun e w'=>∃b,e=Z (.bool b)/\((!b)->R (Z (I 2)) w')/\((!b)=false->∃a,x=some a/\Wr w' (a.add 0) [I x1] fun w'=>∃a,x=some a/\Wr w' (a.add 1) [I x2] fun w'=>R (Z (I 0)) w'))):=by kernel_rfl
def M311:Mt:={N:=15,keep:=kp 0 [[0],[0,3,4],[2]]}
noncomputable def c311:Code:=bodyOf f311
theorem u311:UT 311 M311 c311 f311:=fun h i=>u_ func311 (by kernel_rfl) h i
theorem t311 (x w R):den prog M311 c311 (argE 0 [(pointer x)]) w (Rt f311 R)=
(Call prog 367 [pointer x] w fun e w'=>∃n n_1,e=Z (tuple #[I n,I n_1])/\Call prog 369 [pointer x] w' fun e w'=>∃n_2,e=Z (I n_2)/\Call prog 368 [I n,I n_1,I n_2] w' fun e w'=>∃n,e=Z (I n)/\R (Z (I n)) w'):=by kernel_rfl
def M367:Mt:={N:=14,keep:=kp 0 [[0],[0,5],[2,3],[2,3]],ords:=[(3,[0,1,2,3,4,5,6,7,8,9])]}
noncomputable def c367:Code:=bodyOf f367
theorem u367:UT 367 M367 c367 f367:=fun h i=>u_ func367 (by kernel_rfl) h i
theorem t367 (x w R):den prog M367 c367 (argE 0 [(pointer x)]) w (Rt f367 R)=
((x.isNone->R (Z (tuple #[I 0,I 0])) w)/\(x.isNone=false->Sm w fun w'=>∃a,x=some a/\∃n,w'.cell? (a.add 0)=some (I n)/\∃a,x=some a/\∃n_1,w'.cell? (a.add 1)=some (I n_1)/\R (Z (tuple #[I n,I n_1])) w')):=by kernel_rfl
def M369:Mt:={N:=33,keep:=kp 0 [[0],[0,7],[2],[0,3],[3,11,12],[3,11,12,13],[3,5,11,12],[3,5,11,12],[3,11,12],[3,11,12],[2]],bk:=[(0,[3]),(1,[3,11,12])],cuts:=[(10,[3])],lk:=[(5,[3,11,12])]}
noncomputable def c369:Code:=bodyOf f369
noncomputable def c369_0:Code:=c369.sr.sr.sr.sr
noncomputable def c369_1:Code:=c369.sr.sr.sr.sl.sr.sl.sl
def e369_0 (x:Addr):Env:=[(3,SV.v (pointer (some x)))]
def e369_1 (x:Addr) (x1 x2 x3 x4 x5 x6 x7 x8 x9:Int):Env:=[(3,SV.v (pointer (some x))),(11,SV.v (agg #[(int i64 x1),(int i64 x2),(int i64 x3),(int i64 x4),(int i64 x5),(int i64 x6),(int i64 x7),(int i64 x8)])),(12,SV.v (int i64 x9))]
def k369_0 (R:RT):=Rt f369 R
def k369_1 (R:RT):=blockK 0 [3] (SQ M369 c369_0 (Rt f369 R) (Rt f369 R))
theorem u369:UT 369 M369 c369 f369:=fun h i=>u_ func369 (by kernel_rfl) h i
theorem t369 (x w R):den prog M369 c369 (argE 0 [(pointer x)]) w (Rt f369 R)=
((x.isNone->R (Z (I 0)) w)/\(x.isNone=false->New w [I 0,I 0] 232 fun p w'=>∃a,x=some a/\∃n,w'.cell? (add (a.add 2) 0)=some (I n)/\∃n_1,w'.cell? (add (a.add 2) 1)=some (I n_1)/\∃n_2,w'.cell? (add (a.add 2) 2)=some (I n_2)/\∃n_3,w'.cell? (add (a.add 2) 3)=some (I n_3)/\∃n_4,w'.cell? (add (a.add 2) 4)=some (I n_4)/\∃n_5,w'.cell? (add (a.add 2) 5)=some (I n_5)/\∃n_6,w'.cell? (add (a.add 2) 6)=some (I n_6)/\∃n_7,w'.cell? (add (a.add 2) 7)=some (I n_7)/\Cut (WP prog 33 (Code.loop c369_1) (e369_1 p n n_1 n_2 n_3 n_4 n_5 n_6 n_7 0) w' (k369_1 R)))):=by kernel_rfl
theorem t369_0 (x w R):den prog M369 c369_0 (e369_0 x) w (k369_0 R)=
(∃n,w.cell? (x.add 0)=some (I n)/\∃n_1,w.cell? (x.add 1)=some (I n_1)/\Call prog 395 [I n,I n_1] w fun e w'=>∃n,e=Z (I n)/\R (Z (I n)) w'):=by kernel_rfl
theorem t369_1 (x x1 x2 x3 x4 x5 x6 x7 x8 x9 w B369_1 R):den prog M369 c369_1 (e369_1 x x1 x2 x3 x4 x5 x6 x7 x8 x9) w (loopK B369_1 (k369_1 R))=
((decide (x9<4)->(0<=x9/\x9<(↑4:Int))/\∃n n_1,List.take 2 (List.drop (Int.toNat x9*2) [I x1,I x2,I x3,I x4,I x5,I x6,I x7,I x8])=[I n,I n_1]/\New w [I 0,I 0] 232 fun p w'=>Wr w' p [I n,I n_1] fun w'=>∃n,w'.cell? (x.add 0)=some (I n)/\∃n_2,w'.cell? (p.add 0)=some (I n_2)/\Wr w' (x.add 0) [I (wrap i64 (n+n_2))] fun w'=>∃n,w'.cell? (x.add 1)=some (I n)/\∃n_3,w'.cell? (p.add 1)=some (I n_3)/\Wr w' (x.add 1) [I (wrap i64 (n+n_3))] fun w'=>B369_1 [(3,SV.v (pointer (some x))),(11,SV.v (agg #[I x1,I x2,I x3,I x4,I x5,I x6,I x7,I x8])),(12,SV.v (I (wrap i64 (x9+1))))] w')/\(decide (x9<4)=false->CutD prog M369 c369_0 (e369_0 x) w (k369_0 R))):=by kernel_rfl
def M56:Mt:={N:=14,keep:=kp 0 [[0],[0,9],[2,3],[2,3]]}
noncomputable def c56:Code:=bodyOf f56
theorem u56:UT 56 M56 c56 f56:=fun h i=>u_ func56 (by kernel_rfl) h i
theorem t56 (x w R):den prog M56 c56 (argE 0 [(int i64 x)]) w (Rt f56 R)=
((decide (x<1)=false->(decide (x>64)->R (Z (tuple #[pointer none,I 2])) w)/\(decide (x>64)=false->∃p n c w',Sem.run prog (Instr.makeSlice 227 (I x) (I x)) w=Result.ok (slice p n c) w'/\New w' [slice p n c] 229 fun p w'=>R (Z (tuple #[pointer (some p),I 0])) w'))/\(decide (x<1)->R (Z (tuple #[pointer none,I 2])) w)):=by kernel_rfl
def M229:Mt:={N:=39,keep:=kp 0 [[0,1,2,3,4],[2,3,4,11,12],[2,3,4,11,12,19],[10],[2,3,4,11,23],[10],[10]],bk:=[(0,[2,3,4,11])]}
noncomputable def c229:Code:=bodyOf f229
theorem u229:UT 229 M229 c229 f229:=fun h i=>u_ func229 (by kernel_rfl) h i
theorem t229 (x x1 x2 x3 x4 w R):den prog M229 c229 (argE 0 [(pointer x),(int i64 x1),(int i64 x2),(int i64 x3),(int i64 x4)]) w (Rt f229 R)=
(Call prog 312 [pointer x,I x1] w fun e w'=>∃p n,e=Z (tuple #[pointer p,I n])/\((n !=0)->R (Z (I n)) w')/\((n !=0)=false->(decide (x2<0)=false->(decide (x2>=8)->R (Z (I 3)) w')/\(decide (x2>=8)=false->∃a,p=some a/\(0<=x2/\x2<(↑8:Int))/\Call prog 313 [pointer p,pointer (some (add (a.add 1) (Int.toNat x2*1))),I x3,I x4] w' fun e w'=>∃n,e=Z (I n)/\R (Z (I n)) w'))/\(decide (x2<0)->R (Z (I 3)) w'))):=by kernel_rfl
def M230:Mt:={N:=27,keep:=kp 0 [[0,1,2,3],[2,3,9,10],[2,3,9,10,18],[8],[8]]}
noncomputable def c230:Code:=bodyOf f230
theorem u230:UT 230 M230 c230 f230:=fun h i=>u_ func230 (by kernel_rfl) h i
theorem t230 (x x1 x2 x3 w R):den prog M230 c230 (argE 0 [(pointer x),(int i64 x1),(int i64 x2),(int i64 x3)]) w (Rt f230 R)=
(Call prog 312 [pointer x,I x1] w fun e w'=>∃p n,e=Z (tuple #[pointer p,I n])/\((n !=0)->R (Z (I n)) w')/\((n !=0)=false->∃a,p=some a/\Call prog 313 [pointer p,pointer (some (a.add 0)),I x2,I x3] w' fun e w'=>∃n,e=Z (I n)/\R (Z (I n)) w')):=by kernel_rfl
def M312:Mt:={N:=27,keep:=kp 0 [[0,1],[0,1,6],[4,5],[0,1,9],[4,5],[4,5]],bk:=[(0,[0,1])]}
noncomputable def c312:Code:=bodyOf f312
theorem u312:UT 312 M312 c312 f312:=fun h i=>u_ func312 (by kernel_rfl) h i
theorem t312 (x x1 w R):den prog M312 c312 (argE 0 [(pointer x),(int i64 x1)]) w (Rt f312 R)=
((x.isNone->R (Z (tuple #[pointer none,I 1])) w)/\(x.isNone=false->(decide (x1<0)=false->∃a,x=some a/\∃p n c,w.cell? (a.add 0)=some (slice p n c)/\(decide (x1>=(↑n:Int))->R (Z (tuple #[pointer none,I 3])) w)/\(decide (x1>=(↑n:Int))=false->∃a,x=some a/\∃p n c,w.cell? (a.add 0)=some (slice p n c)/\(0<=x1/\x1<(↑n:Int))/\∃a,p=some a/\R (Z (tuple #[pointer (some (add a (Int.toNat x1*10))),I 0])) w))/\(decide (x1<0)->R (Z (tuple #[pointer none,I 3])) w))):=by kernel_rfl
def M313:Mt:={N:=46,keep:=kp 0 [[0,1,2,3],[0,1,2,3,18],[8],[0,1,2,9,10],[0,1,2,9,35],[8],[1,2],[],[8]]}
noncomputable def c313:Code:=bodyOf f313
theorem u313:UT 313 M313 c313 f313:=fun h i=>u_ func313 (by kernel_rfl) h i
theorem t313 (x x1 x2 x3 w R):den prog M313 c313 (argE 0 [(pointer x),(pointer x1),(int i64 x2),(int i64 x3)]) w (Rt f313 R)=
(Call prog 370 [I x2] w fun e w'=>∃b,e=Z (.bool b)/\((!b)=false->Call prog 370 [I x3] w' fun e w'=>∃b,e=Z (.bool b)/\((!b)->R (Z (I 2)) w')/\((!b)=false->∃a,x=some a/\∃n,w'.cell? (a.add 9)=some (I n)/\Call prog 333 [I n,I (wrap i64 (x2*x3))] w' fun e w'=>∃n n_1,e=Z (tuple #[I n,I n_1])/\((n_1 !=0)=false->(decide (n>4611686018427387904)->R (Z (I 16)) w')/\(decide (n>4611686018427387904)=false->∃a,x=some a/\Wr w' (a.add 9) [I n] fun w'=>∃a,x1=some a/\∃n,w'.cell? a=some (I n)/\∃a,x1=some a/\Wr w' a [I (wrap i64 (n+x2))] fun w'=>R (Z (I 0)) w'))/\((n_1 !=0)->R (Z (I 16)) w')))/\((!b)->R (Z (I 2)) w')):=by kernel_rfl
def M370:Mt:={N:=9,keep:=kp 0 [[0],[2]]}
noncomputable def c370:Code:=bodyOf f370
theorem u370:UT 370 M370 c370 f370:=fun h i=>u_ func370 (by kernel_rfl) h i
theorem t370 (x w R):den prog M370 c370 (argE 0 [(int i64 x)]) w (Rt f370 R)=
((decide (x>=0)->R (Z (.bool (decide (x<=2147483648)))) w)/\(decide (x>=0)=false->R (Z (.bool false)) w)):=by kernel_rfl
def M394:Mt:={N:=135,keep:=kp 0 [[0,1,2],[0,1,2,20],[0,1,2],[0,1,2,24],[0,1,2],[0,1,2,27],[6,7],[0,1,2,8],[0,1,2,8],[0,1,2,8,9],[0,1,2,8,9,10],[1,2,8,9,10,11],[2,8,9,10,11,12],[2,8,9,10,11,12,13],[2,8,9,10,11,13,14],[2,8,9,10,11,13,14,15],[2,8,9,10,11,13,14,15,16],[2,8,9,10,11,13,14,15,16,78],[2,8,9,10,11,13,14,15,16],[2,8,9,10,11,13,14,15,16],[2,8,9,10,11,13,14,15,16,85],[2,8,9,10,14,15,17],[2,8,9,10,14,15,17,18],[2,8,9,10,14,15,16,17,18],[2,8,9,10,14,15,16,17,18,113],[2,8,9,10,14,15,16,17,18],[2,8,9,10,14,15,16,17,18],[2,8,9,10,14,15,16,17,18,120],[6,7]],ords:=[(6,[0,1,2,3,4,5,6,7])],bk:=[(0,[2,8,9,10,11,13,14,15]),(1,[2,8,9,10,11,13,14,15,16]),(2,[2,8,14,15,17,18]),(3,[2,8,9,10,14,15,16,17,18])],cuts:=[(3,[0,1,2]),(5,[0,1,2]),(21,[2,8,9,10,11,13,14,15]),(28,[2,8,14,15,17,18])],lk:=[(17,[2,8,9,10,11,13,14,15,16]),(24,[2,8,9,10,14,15,16,17,18])]}
noncomputable def c394:Code:=bodyOf f394
noncomputable def c394_0:Code:=c394.sr.sr
noncomputable def c394_1:Code:=c394.sr.sr.sr
noncomputable def c394_2:Code:=c394.sr.sr.sr.sr.sr.sr.sr.sr.sr.sr.sr.sr.sr.sr.sr
noncomputable def c394_3:Code:=c394.sr.sr.sr.sr.sr.sr.sr.sr.sr.sr.sr.sr.sr.sr.sl.sl.sl
def e394_0 (x x1 x2:Int):Env:=[(0,SV.v (int .u64 x)),(1,SV.v (int .u64 x1)),(2,SV.v (int .u64 x2))]
def e394_1 (x x1 x2:Int):Env:=[(0,SV.v (int .u64 x)),(1,SV.v (int .u64 x1)),(2,SV.v (int .u64 x2))]
def e394_3 (x x1 x2 x3 x4 x5 x6 x7 x8:Int):Env:=[(2,SV.v (int .u64 x)),(8,SV.v (int .u64 x1)),(9,SV.v (int .u64 x2)),(10,SV.v (int .u64 x3)),(11,SV.v (int .u64 x4)),(13,SV.v (int .u64 x5)),(14,SV.v (int .u64 x6)),(15,SV.v (int .u64 x7)),(16,SV.v (int .u64 x8))]
def k394_0 (R:RT):=Rt f394 R
def k394_1 (R:RT):=Rt f394 R
def k394_3 (R:RT):=blockK 0 [2,8,9,10,11,13,14,15] (SQ M394 c394_2 (Rt f394 R) (Rt f394 R))
theorem u394:UT 394 M394 c394 f394:=fun h i=>u_ func394 (by kernel_rfl) h i
theorem t394 (x x1 x2 w R):den prog M394 c394 (argE 0 [(int .u64 x),(int .u64 x1),(int .u64 x2)]) w (Rt f394 R)=
(((x2==0)->∃v,w.cell? {block:=1,off:=0}=some v/\False)/\((x2==0)=false->CutD prog M394 c394_0 (e394_0 x x1 x2) w (k394_0 R))):=by kernel_rfl
theorem t394_0 (x x1 x2 w R):den prog M394 c394_0 (e394_0 x x1 x2) w (k394_0 R)=
((decide (x2<=x)->∃v,w.cell? {block:=2,off:=0}=some v/\False)/\(decide (x2<=x)=false->CutD prog M394 c394_1 (e394_1 x x1 x2) w (k394_1 R))):=by kernel_rfl
theorem t394_1 (x x1 x2 w R):den prog M394 c394_1 (e394_1 x x1 x2) w (k394_1 R)=
(((x==0)->Sm w fun w'=>x2≠0/\x2≠0/\R (Z (tuple #[int .u64 (wrap .u64 (Int.tdiv x1 x2)),int .u64 (Int.tmod x1 x2)])) w')/\((x==0)=false->Call prog 405 [int .u64 x2] w fun e w'=>∃n,e=Z (I n)/\0<=wrap .u64 n/\(0:Int)<=32/\0<=wrap .u64 n/\0<=wrap .u64 (64-wrap .u64 n)/\0<=wrap .u64 n/\(0:Int)<=32/\shrOp .u64 (shlOp .u64 x2 (wrap .u64 n)) (32:Int)≠0/\Cut (WP prog 135 (Code.loop c394_3) (e394_3 (shlOp .u64 x2 (wrap .u64 n)) (wrap .u64 n) (shrOp .u64 (shlOp .u64 x2 (wrap .u64 n)) 32) (bitsOp BinOp.and .u64 (shlOp .u64 x2 (wrap .u64 n)) 4294967295) (bitsOp BinOp.or .u64 (shlOp .u64 x (wrap .u64 n)) (shrOp .u64 x1 (wrap .u64 (64-wrap .u64 n)))) (shrOp .u64 (shlOp .u64 x1 (wrap .u64 n)) 32) (bitsOp BinOp.and .u64 (shlOp .u64 x1 (wrap .u64 n)) 4294967295) (wrap .u64 (Int.tdiv (bitsOp BinOp.or .u64 (shlOp .u64 x (wrap .u64 n)) (shrOp .u64 x1 (wrap .u64 (64-wrap .u64 n)))) (shrOp .u64 (shlOp .u64 x2 (wrap .u64 n)) 32))) (wrap .u64 (bitsOp BinOp.or .u64 (shlOp .u64 x (wrap .u64 n)) (shrOp .u64 x1 (wrap .u64 (64-wrap .u64 n)))-wrap .u64 (wrap .u64 (Int.tdiv (bitsOp BinOp.or .u64 (shlOp .u64 x (wrap .u64 n)) (shrOp .u64 x1 (wrap .u64 (64-wrap .u64 n)))) (shrOp .u64 (shlOp .u64 x2 (wrap .u64 n)) 32))*shrOp .u64 (shlOp .u64 x2 (wrap .u64 n)) 32)))) w' (k394_3 R)))):=by kernel_rfl
end Go.Dav
namespace Go.Dav
open Go.Proofs
open Value IntKind Ending World Addr Tryz
set_option maxRecDepth 100000
def M109:Mt:={N:=11,keep:=kp 0 [[0],[0,6],[2,3],[2,3]]}
noncomputable def c109:Code:=bodyOf f109
theorem u109:UT 109 M109 c109 f109:=fun h i=>u_ func109 (by kernel_rfl) h i
theorem t109 (x w R):den prog M109 c109 (argE 0 [(int i64 x)]) w (Rt f109 R)=
(Call prog 198 [I x] w fun e w'=>∃b,e=Z (.bool b)/\((!b)->R (Z (tuple #[pointer none,I 2])) w')/\((!b)=false->NewMap w' fun r w'=>New w' [I x,map (some r),N3,N3,N3,N3,N3,N3,N3,N3,N3,N3,N3,N3,N3,N3,N3,N3,N3,N3,N3,N3,N3,N3,N3,N3,N3,N3,N3,N3,N3,N3,N3,N3,N3,N3,N3,N3,N3,N3,N3,N3,N3,N3,N3,N3,N3,N3,N3,N3,N3,N3,N3,N3,N3,N3,N3,N3,N3,N3,N3,N3,N3,N3,N3,N3,N3,N3,N3,N3,N3,N3,N3,N3,N3,N3,N3,N3,N3,N3,N3,N3,N3,N3,N3,N3,N3,N3,N3,N3,N3,N3,N3,N3,N3,N3,N3,N3,N3,N3,N3,N3,N3,N3,N3,N3,N3,N3,N3,N3,N3,N3,N3,N3,N3,N3,N3,N3,N3,N3,N3,N3,N3,N3,N3,N3,N3,N3,N3,N3,N3,N3,N3,N3,N3,N3,N3,N3,N3,N3,N3,N3,N3,N3,N3,N3,N3,N3,N3,N3,N3,N3,N3,N3,N3,N3,N3,N3,N3,N3,N3,N3,N3,N3,N3,N3,N3,N3,N3,N3,N3] 289 fun p w'=>R (Z (tuple #[pointer (some p),I 0])) w')):=by kernel_rfl
def M198:Mt:={N:=9,keep:=kp 0 [[0],[2]]}
noncomputable def c198:Code:=bodyOf f198
theorem u198:UT 198 M198 c198 f198:=fun h i=>u_ func198 (by kernel_rfl) h i
theorem t198 (x w R):den prog M198 c198 (argE 0 [(int i64 x)]) w (Rt f198 R)=
((decide (x>=0)->R (Z (.bool (decide (x<=1152921504606846976)))) w)/\(decide (x>=0)=false->R (Z (.bool false)) w)):=by kernel_rfl
def M231:Mt:={N:=62,keep:=kp 0 [[0,1],[0,1,8],[4],[0,1,11],[4],[0,1,23],[4],[0,1,5],[0,1,5,6],[0,1,5,6,36,37],[0,1,5,6,36,37,38],[0,1,5,6,7,36,37],[0,1,5,6,36,37],[0,1,5,6,36,37],[0,1,6],[0,6],[],[4]],bk:=[(0,[0,1]),(1,[0,1,5,6]),(2,[0,1,5,6,36,37])],cuts:=[(14,[0,1,5,6])],lk:=[(10,[0,1,5,6,36,37])]}
noncomputable def c231:Code:=bodyOf f231
noncomputable def c231_0:Code:=c231.sr.sr.sr.sr.sr
noncomputable def c231_1:Code:=c231.sr.sr.sr.sr.sl.sr.sl.sl
def e231_0 (x:Option Addr) (x1 x2:Int) (x3:Option Addr) (x4 x5:Nat):Env:=[(0,SV.v (pointer x)),(1,SV.v (int i64 x1)),(5,SV.v (int i64 x2)),(6,SV.v (slice x3 x4 x5))]
def e231_1 (x:Option Addr) (x1 x2:Int) (x3:Option Addr) (x4 x5:Nat) (x6 x7:Int):Env:=[(0,SV.v (pointer x)),(1,SV.v (int i64 x1)),(5,SV.v (int i64 x2)),(6,SV.v (slice x3 x4 x5)),(36,SV.v (int i64 x6)),(37,SV.v (int i64 x7))]
def k231_0 (R:RT):=Rt f231 R
def k231_1 (R:RT):=blockK 1 [0,1,5,6] (SQ M231 c231_0 (Rt f231 R) (Rt f231 R))
theorem u231:UT 231 M231 c231 f231:=fun h i=>u_ func231 (by kernel_rfl) h i
theorem t231 (x x1 w R):den prog M231 c231 (argE 0 [(pointer x),(int i64 x1)]) w (Rt f231 R)=
((x.isNone->R (Z (I 1)) w)/\(x.isNone=false->∃a,x=some a/\∃n,w.cell? (a.add 0)=some (I n)/\(decide (x1<n)=false->Call prog 198 [I x1] w fun e w'=>∃b,e=Z (.bool b)/\((!b)->R (Z (I 2)) w')/\((!b)=false->∃a,x=some a/\∃n,w'.cell? (a.add 0)=some (I n)/\((x1==n)->R (Z (I 0)) w')/\((x1==n)=false->∃a,x=some a/\∃n,w'.cell? (a.add 0)=some (I n)/\Call prog 314 [I x1,I n] w' fun e w'=>∃n,e=Z (I n)/\Cut (WP prog 62 (Code.loop c231_1) (e231_1 x x1 n none 0 0 n 0) w' (k231_1 R)))))/\(decide (x1<n)->R (Z (I 2)) w))):=by kernel_rfl
theorem t231_0 (x x1 x2 x3 x4 x5 w R):den prog M231 c231_0 (e231_0 x x1 x2 x3 x4 x5) w (k231_0 R)=
(Call prog 316 [I x1,I x2] w fun e w'=>∃n,e=Z (I n)/\Call prog 315 [pointer x,I x2,I (wrap i64 (n+1))] w' fun e w'=>∃p n c,e=Z (slice p n c)/\∃p_1 n_1 c_1 w'_1,Sem.run prog (Builtin.append_ #[36,36] 36 #[slice x3 x4 x5,slice p n c]) w'=Result.ok (slice p_1 n_1 c_1) w'_1/\∃a,x=some a/\Wr w'_1 (a.add 0) [I x1] fun w'=>Call prog 317 [pointer x,slice p_1 n_1 c_1] w' fun e w'=>e=Z (tuple #[])/\R (Z (I 0)) w'):=by kernel_rfl
theorem t231_1 (x x1 x2 x3 x4 x5 x6 x7 w B231_1 R):den prog M231 c231_1 (e231_1 x x1 x2 x3 x4 x5 x6 x7) w (loopK B231_1 (k231_1 R))=
((decide (x7<x6)->Call prog 315 [pointer x,I x7,I 8] w fun e w'=>∃p n c,e=Z (slice p n c)/\∃p_1 n_1 c_1 w'_1,Sem.run prog (Builtin.append_ #[36,36] 36 #[slice x3 x4 x5,slice p n c]) w'=Result.ok (slice p_1 n_1 c_1) w'_1/\B231_1 [(0,SV.v (pointer x)),(1,SV.v (I x1)),(5,SV.v (I x2)),(6,SV.v (slice p_1 n_1 c_1)),(36,SV.v (I x6)),(37,SV.v (I (wrap i64 (x7+1))))] w'_1)/\(decide (x7<x6)=false->CutD prog M231 c231_0 (e231_0 x x1 x2 x3 x4 x5) w (k231_0 R))):=by kernel_rfl
def M106:Mt:={N:=21,keep:=kp 0 [[0,1],[0,1,9],[4,5],[6,7],[4,5]]}
noncomputable def c106:Code:=bodyOf f106
theorem u106:UT 106 M106 c106 f106:=fun h i=>u_ func106 (by kernel_rfl) h i
theorem t106 (x x1 w R):den prog M106 c106 (argE 0 [(pointer x),(int i64 x1)]) w (Rt f106 R)=
((x.isNone->R (Z (tuple #[I 0,.bool false])) w)/\(x.isNone=false->∃a,x=some a/\∃r,w.cell? (a.add 1)=some (map r)/\∃n b,Sem.run prog (Instr.lookup 285 (map r) (I x1) true) w=Result.ok (tuple #[I n,.bool b]) w/\R (Z (tuple #[I n,.bool b])) w)):=by kernel_rfl
def M184:Mt:={N:=13,keep:=kp 0 [[0],[0,4],[2],[2]]}
noncomputable def c184:Code:=bodyOf f184
theorem u184:UT 184 M184 c184 f184:=fun h i=>u_ func184 (by kernel_rfl) h i
theorem t184 (x w R):den prog M184 c184 (argE 0 [(pointer x)]) w (Rt f184 R)=
((x.isNone->R (Z (N3)) w)/\(x.isNone=false->∃a,x=some a/\∃r,w.cell? (a.add 1)=some (map r)/\Call prog 276 [map r] w fun e w'=>∃v,e=Z v/\Call prog 275 [v] w' fun e w'=>∃p n c,e=Z (slice p n c)/\Call prog 274 [pointer x,slice p n c] w' fun e w'=>∃p n c,e=Z (slice p n c)/\R (Z (slice p n c)) w')):=by kernel_rfl
def M274:Mt:={N:=12,keep:=kp 0 [[1,2],[2,5],[5],[4]]}
noncomputable def c274:Code:=bodyOf f274
theorem u274:UT 274 M274 c274 f274:=fun h i=>u_ func274 (by kernel_rfl) h i
theorem t274 (x x1 x2 x3 w R):den prog M274 c274 (argE 0 [(pointer x),(slice x1 x2 x3)]) w (Rt f274 R)=
(New w [pointer x] 181 fun p w'=>Call prog 190 [slice x1 x2 x3] w' fun e w'=>∃p_1 n c,e=Z (slice p_1 n c)/\Call prog 342 [slice p_1 n c,func (Fn.func 343) #[] #[pointer (some p)]] w' fun e w'=>e=Z (tuple #[])/\R (Z (slice p_1 n c)) w'):=by kernel_rfl
def M293:Mt:={N:=11,keep:=kp 0 [[0],[0,4],[2],[2]]}
noncomputable def c293:Code:=bodyOf f293
theorem u293:UT 293 M293 c293 f293:=fun h i=>u_ func293 (by kernel_rfl) h i
theorem t293 (x w R):den prog M293 c293 (argE 0 [(pointer x)]) w (Rt f293 R)=
((x.isNone->R (Z (N3)) w)/\(x.isNone=false->∃a,x=some a/\∃p n c,w.cell? (a.add 170)=some (slice p n c)/\Call prog 274 [pointer x,slice p n c] w fun e w'=>∃p n c,e=Z (slice p n c)/\R (Z (slice p n c)) w')):=by kernel_rfl
def M303:Mt:={N:=25,keep:=kp 0 [[0],[0,4],[2,3],[0,7],[2,3],[2,3]],ords:=[(5,[0,1,2,3,4,5,6,7,8,9,10,11,12])],bk:=[(0,[0])]}
noncomputable def c303:Code:=bodyOf f303
theorem u303:UT 303 M303 c303 f303:=fun h i=>u_ func303 (by kernel_rfl) h i
theorem t303 (x w R):den prog M303 c303 (argE 0 [(pointer x)]) w (Rt f303 R)=
((x.isNone->R (Z (tuple #[I 0,I 1])) w)/\(x.isNone=false->∃a,x=some a/\∃r,w.cell? (a.add 1)=some (map r)/\∃(n:Nat),(∀(ty:TypeId),Sem.run prog (Builtin.len_ #[285] ty #[map r]) w=Result.ok (I (↑n:Int)) w)/\(((↑n:Int)==0)->R (Z (tuple #[I 0,I 12])) w)/\(((↑n:Int)==0)=false->Sm w fun w'=>∃a,x=some a/\∃r,w'.cell? (a.add 1)=some (map r)/\Call prog 362 [pointer x] w' fun e w'=>∃p n c,e=Z (slice p n c)/\w'.cell? (a.add 1)=some (map r)/\Call prog 274 [pointer x,slice p n c] w' fun e w'=>∃p n c,e=Z (slice p n c)/\w'.cell? (a.add 1)=some (map r)/\((0:Int)<=0/\0<(↑n:Int))/\∃a,p=some a/\∃n,w'.cell? (a.add 0)=some (I n)/\∃n_1,Sem.run prog (Instr.lookup 285 (map r) (I n) false) w'=Result.ok (I n_1) w'/\R (Z (tuple #[I n_1,I 0])) w'))):=by kernel_rfl
def M314:Mt:={N:=12,keep:=kp 0 [[0,1],[4]]}
noncomputable def c314:Code:=bodyOf f314
theorem u314:UT 314 M314 c314 f314:=fun h i=>u_ func314 (by kernel_rfl) h i
theorem t314 (x x1 w R):den prog M314 c314 (argE 0 [(int i64 x),(int i64 x1)]) w (Rt f314 R)=
(Call prog 371 [int .u64 (wrap .u64 (bitsOp BinOp.xor i64 x x1))] w fun e w'=>∃n,e=Z (I n)/\(3:Int)≠0/\R (Z (I (wrap i64 (Int.tdiv (wrap i64 (n-1)) 3)))) w'):=by kernel_rfl
def M315:Mt:={N:=33,keep:=kp 0 [[0,1,2],[0,1,2,7],[0,1,7,10,11],[0,1,7,10,11,12],[0,1,7,8,10,11],[0,1,7,8,10,11],[0,1,7,10,11],[0,1,7,10,11],[6]],bk:=[(0,[7]),(1,[0,1,7,10,11])],lk:=[(3,[0,1,7,10,11])]}
noncomputable def c315:Code:=bodyOf f315
noncomputable def c315_0:Code:=c315.sr.sr.sr
noncomputable def c315_1:Code:=c315.sr.sr.sl.sr.sl.sl
def e315_1 (x:Option Addr) (x1:Int) (x2:Option Addr) (x3 x4:Nat) (x5 x6:Int):Env:=[(0,SV.v (pointer x)),(1,SV.v (int i64 x1)),(7,SV.v (slice x2 x3 x4)),(10,SV.v (int i64 x5)),(11,SV.v (int i64 x6))]
def k315_1 (R:RT):=blockK 0 [7] (SQ M315 c315_0 (Rt f315 R) (Rt f315 R))
theorem u315:UT 315 M315 c315 f315:=fun h i=>u_ func315 (by kernel_rfl) h i
theorem t315 (x x1 x2 w R):den prog M315 c315 (argE 0 [(pointer x),(int i64 x1),(int i64 x2)]) w (Rt f315 R)=
(∃n w',Sem.run prog (Builtin.min_ #[3,3] 3 #[I x2,I 8]) w=Result.ok (I n) w'/\Cut (WP prog 33 (Code.loop c315_1) (e315_1 x x1 none 0 0 n 0) w' (k315_1 R))):=by kernel_rfl
theorem t315_1 (x x1 x2 x3 x4 x5 x6 w B315_1 R):den prog M315 c315_1 (e315_1 x x1 x2 x3 x4 x5 x6) w (loopK B315_1 (k315_1 R))=
((decide (x6<x5)->∃a,x=some a/\(0<=x1/\x1<(↑21:Int))/\(0<=x6/\x6<(↑8:Int))/\∃p n c,w.cell? (add (add (a.add 2) (Int.toNat x1*8)) (Int.toNat x6*1))=some (slice p n c)/\∃p_1 n_1 c_1 w',Sem.run prog (Builtin.append_ #[36,36] 36 #[slice x2 x3 x4,slice p n c]) w=Result.ok (slice p_1 n_1 c_1) w'/\∃a,x=some a/\(0<=x1/\x1<(↑21:Int))/\(0<=x6/\x6<(↑8:Int))/\Wr w' (add (add (a.add 2) (Int.toNat x1*8)) (Int.toNat x6*1)) [N3] fun w'=>B315_1 [(0,SV.v (pointer x)),(1,SV.v (I x1)),(7,SV.v (slice p_1 n_1 c_1)),(10,SV.v (I x5)),(11,SV.v (I (wrap i64 (x6+1))))] w')/\(decide (x6<x5)=false->R (Z (slice x2 x3 x4)) w)):=by kernel_rfl
def M316:Mt:={N:=10,keep:=kp 0 [[0,1],[4]]}
noncomputable def c316:Code:=bodyOf f316
theorem u316:UT 316 M316 c316 f316:=fun h i=>u_ func316 (by kernel_rfl) h i
theorem t316 (x x1 w R):den prog M316 c316 (argE 0 [(int i64 x),(int i64 x1)]) w (Rt f316 R)=
(0<=wrap i64 (3*x1)/\(8:Int)≠0/\R (Z (I (Int.tmod (shrOp i64 x (wrap i64 (3*x1))) 8))) w):=by kernel_rfl
def M317:Mt:={N:=30,keep:=kp 0 [[0,7,8,9],[0,7,8,9,10],[0,5,7,8,9],[0,5,6,7,8,9],[0,7,8,9],[0,7,8,9]],bk:=[(0,[]),(1,[0,7,8,9])],lk:=[(1,[0,7,8,9])]}
noncomputable def c317:Code:=bodyOf f317
noncomputable def c317_0:Code:=c317.sr.sl.sl
def e317_0 (x x1:Option Addr) (x2 x3:Nat) (x4 x5:Int):Env:=[(0,SV.v (pointer x)),(7,SV.v (slice x1 x2 x3)),(8,SV.v (int i64 x4)),(9,SV.v (int i64 x5))]
def k317_0 (R:RT):=blockK 0 [] (Rt f317 R)
theorem u317:UT 317 M317 c317 f317:=fun h i=>u_ func317 (by kernel_rfl) h i
theorem t317 (x x1 x2 x3 w R):den prog M317 c317 (argE 0 [(pointer x),(slice x1 x2 x3)]) w (Rt f317 R)=
(Cut (WP prog 30 (Code.loop c317_0) (e317_0 x x1 x2 x3 (↑x2:Int) 0) w (k317_0 R))):=by kernel_rfl
theorem t317_0 (x x1 x2 x3 x4 x5 w B317_0 R):den prog M317 c317_0 (e317_0 x x1 x2 x3 x4 x5) w (loopK B317_0 (k317_0 R))=
((decide (x5<x4)->(0<=x5/\x5<(↑x2:Int))/\∃a,x1=some a/\∃n,w.cell? (add a (Int.toNat x5*1))=some (I n)/\∃a,x=some a/\∃r,w.cell? (a.add 1)=some (map r)/\∃n_1,Sem.run prog (Instr.lookup 285 (map r) (I n) false) w=Result.ok (I n_1) w/\Call prog 372 [pointer x,I n_1] w fun e w'=>∃p,e=Z (pointer p)/\∃a,p=some a/\∃p_1 n_2 c,w'.cell? a=some (slice p_1 n_2 c)/\New w' [I n] 3 fun p_2 w'=>∃p_3 n c_1 w'_1,Sem.run prog (Builtin.append_ #[36,36] 36 #[slice p_1 n_2 c,slice (some p_2) 1 1]) w'=Result.ok (slice p_3 n c_1) w'_1/\∃a,p=some a/\Wr w'_1 a [slice p_3 n c_1] fun w'=>B317_0 [(0,SV.v (pointer x)),(7,SV.v (slice x1 x2 x3)),(8,SV.v (I x4)),(9,SV.v (I (wrap i64 (x5+1))))] w')/\(decide (x5<x4)=false->R (Z (tuple #[])) w)):=by kernel_rfl
def M322:Mt:={N:=36,keep:=kp 0 [[0,1,2],[0,1,2,10],[6],[0,1,2,8],[0,1,2,8,20],[6],[0,1,2,24],[6],[0,1],[],[6]],bk:=[(0,[0,1,2])]}
noncomputable def c322:Code:=bodyOf f322
theorem u322:UT 322 M322 c322 f322:=fun h i=>u_ func322 (by kernel_rfl) h i
theorem t322 (x x1 x2 w R):den prog M322 c322 (argE 0 [(pointer x),(int i64 x1),(int i64 x2)]) w (Rt f322 R)=
((x.isNone->R (Z (I 1)) w)/\(x.isNone=false->∃a,x=some a/\∃r,w.cell? (a.add 1)=some (map r)/\∃n b,Sem.run prog (Instr.lookup 285 (map r) (I x1) true) w=Result.ok (tuple #[I n,.bool b]) w/\Call prog 198 [I x2] w fun e w'=>∃b_1,e=Z (.bool b_1)/\((!b_1)->R (Z (I 2)) w')/\((!b_1)=false->(b->R (Z (I 6)) w')/\(b=false->∃a,x=some a/\∃r,w'.cell? (a.add 1)=some (map r)/\∃w'_1,Sem.run prog (Instr.mapUpdate 285 (map r) (I x1) (I x2)) w'=Result.ok () w'_1/\New w'_1 [I x1] 3 fun p w'=>Call prog 317 [pointer x,slice (some p) 1 1] w' fun e w'=>e=Z (tuple #[])/\R (Z (I 0)) w')))):=by kernel_rfl
def M324:Mt:={N:=36,keep:=kp 0 [[0,3],[0,3,9],[4],[0,3,5,6],[0,3,5,20],[4],[0,3,7],[0,3],[],[4]],ords:=[(3,[0,1,2,3,4,5,6,7,8,9,10]),(8,[0,1,2,3,4,5])]}
noncomputable def c324:Code:=bodyOf f324
theorem u324:UT 324 M324 c324 f324:=fun h i=>u_ func324 (by kernel_rfl) h i
theorem t324 (x x1 w R):den prog M324 c324 (argE 0 [(pointer x),(int i64 x1)]) w (Rt f324 R)=
(New w [I x1] 3 fun p w'=>(x.isNone->R (Z (I 1)) w')/\(x.isNone=false->Sm w' fun w'_1=>∃a,x=some a/\∃r,w'_1.cell? (a.add 1)=some (map r)/\∃n,w'_1.cell? p=some (I n)/\∃n_1 b,Sem.run prog (Instr.lookup 285 (map r) (I n) true) w'_1=Result.ok (tuple #[I n_1,.bool b]) w'_1/\((!b)->R (Z (I 4)) w'_1)/\((!b)=false->Call prog 372 [pointer x,I n_1] w'_1 fun e w'=>∃p_1,e=Z (pointer p_1)/\∃a,p_1=some a/\∃p_2 n c,w'.cell? a=some (slice p_2 n c)/\Call prog 373 [slice p_2 n c,func (Fn.func 374) #[] #[pointer (some p)]] w' fun e w'=>∃p_3 n c,e=Z (slice p_3 n c)/\∃a,p_1=some a/\Wr w' a [slice p_3 n c] fun w'=>Sm w' fun w'_2=>∃a,x=some a/\∃r,w'_2.cell? (a.add 1)=some (map r)/\∃n,w'_2.cell? p=some (I n)/\∃w',Sem.run prog (Builtin.delete_ #[285,3] 0 #[map r,I n]) w'_2=Result.ok (tuple #[]) w'/\R (Z (I 0)) w'))):=by kernel_rfl
def M372:Mt:={N:=30,keep:=kp 0 [[0,1],[0,1,11],[4],[0,1,5],[4]],ords:=[(4,[0,1,2,3,5,6,7,4,8,9])]}
noncomputable def c372:Code:=bodyOf f372
theorem u372:UT 372 M372 c372 f372:=fun h i=>u_ func372 (by kernel_rfl) h i
theorem t372 (x x1 w R):den prog M372 c372 (argE 0 [(pointer x),(int i64 x1)]) w (Rt f372 R)=
(∃a,x=some a/\∃n,w.cell? (a.add 0)=some (I n)/\(decide (x1<=n)->∃a,x=some a/\R (Z (pointer (some (a.add 170)))) w)/\(decide (x1<=n)=false->∃a,x=some a/\∃n,w.cell? (a.add 0)=some (I n)/\Call prog 314 [I x1,I n] w fun e w'=>∃n,e=Z (I n)/\Sm w' fun w'_1=>∃a,x=some a/\(0<=n/\n<(↑21:Int))/\Call prog 316 [I x1,I n] w'_1 fun e w'=>∃n_1,e=Z (I n_1)/\(0<=n_1/\n_1<(↑8:Int))/\R (Z (pointer (some (add (add (a.add 2) (Int.toNat n*8)) (Int.toNat n_1*1))))) w')):=by kernel_rfl
def M374:Mt:={N:=7,keep:=kp 0 [[0,1],[3]]}
noncomputable def c374:Code:=bodyOf f374
theorem u374:UT 374 M374 c374 f374:=fun h i=>u_ func374 (by kernel_rfl) h i
theorem t374 (x x1 w R):den prog M374 c374 (argE 0 [(int i64 x),(pointer (some x1))]) w (Rt f374 R)=
(∃n,w.cell? x1=some (I n)/\R (Z (.bool (x==n))) w):=by kernel_rfl
def M38:Mt:={N:=48,keep:=kp 0 [[0],[0,14],[2,3],[0,4,5],[0,4,5,20],[2,3],[0,6],[6,26,27],[6,26,27,28],[6,7,8,26,27],[6,7,8,26,27,34],[2,3],[6,26,27],[6,26,27],[2,3]],bk:=[(0,[6]),(1,[6,26,27])],lk:=[(8,[6,26,27])]}
noncomputable def c38:Code:=bodyOf f38
noncomputable def c38_0:Code:=c38.sr.sr.sr.sr.sr.sr
noncomputable def c38_1:Code:=c38.sr.sr.sr.sr.sr.sl.sr.sl.sl
def e38_1 (x:Option Addr) (x1 x2:Int):Env:=[(6,SV.v (pointer x)),(26,SV.v (int i64 x1)),(27,SV.v (int i64 x2))]
def k38_1 (R:RT):=blockK 0 [6] (SQ M38 c38_0 (Rt f38 R) (Rt f38 R))
theorem u38:UT 38 M38 c38 f38:=fun h i=>u_ func38 (by kernel_rfl) h i
theorem t38 (x w R):den prog M38 c38 (argE 0 [(int i64 x)]) w (Rt f38 R)=
((decide (x<1)=false->(decide (x>64)->R (Z (tuple #[pointer none,I 2])) w)/\(decide (x>64)=false->Call prog 107 [I 48] w fun e w'=>∃p n,e=Z (tuple #[pointer p,I n])/\((n !=0)->R (Z (tuple #[pointer none,I n])) w')/\((n !=0)=false->NewMap w' fun r w'=>New w' [pointer p,N3,map (some r)] 185 fun p w'=>Cut (WP prog 48 (Code.loop c38_1) (e38_1 (some p) x 0) w' (k38_1 R)))))/\(decide (x<1)->R (Z (tuple #[pointer none,I 2])) w)):=by kernel_rfl
theorem t38_1 (x x1 x2 w B38_1 R):den prog M38 c38_1 (e38_1 x x1 x2) w (loopK B38_1 (k38_1 R))=
((decide (x2<x1)->Call prog 109 [I 0] w fun e w'=>∃p n,e=Z (tuple #[pointer p,I n])/\((n !=0)->R (Z (tuple #[pointer none,I n])) w')/\((n !=0)=false->∃a,x=some a/\∃p_1 n c,w'.cell? (a.add 1)=some (slice p_1 n c)/\New w' [pointer p] 181 fun p w'=>∃p_2 n_1 c_1 w'_1,Sem.run prog (Builtin.append_ #[183,183] 183 #[slice p_1 n c,slice (some p) 1 1]) w'=Result.ok (slice p_2 n_1 c_1) w'_1/\∃a,x=some a/\Wr w'_1 (a.add 1) [slice p_2 n_1 c_1] fun w'=>B38_1 [(6,SV.v (pointer x)),(26,SV.v (I x1)),(27,SV.v (I (wrap i64 (x2+1))))] w'))/\(decide (x2<x1)=false->R (Z (tuple #[pointer x,I 0])) w)):=by kernel_rfl
def M31:Mt:={N:=27,keep:=kp 0 [[0,1],[0,1,6,7],[0,1,6,15],[4,5],[4,5]]}
noncomputable def c31:Code:=bodyOf f31
theorem u31:UT 31 M31 c31 f31:=fun h i=>u_ func31 (by kernel_rfl) h i
theorem t31 (x x1 w R):den prog M31 c31 (argE 0 [(pointer x),(int i64 x1)]) w (Rt f31 R)=
(Call prog 105 [pointer x,I x1] w fun e w'=>∃n b,e=Z (tuple #[I n,.bool b])/\((!b)->R (Z (tuple #[I 0,.bool false])) w')/\((!b)=false->∃a,x=some a/\∃p n_1 c,w'.cell? (a.add 1)=some (slice p n_1 c)/\(0<=n/\n<(↑n_1:Int))/\∃a,p=some a/\∃p,w'.cell? (add a (Int.toNat n*1))=some (pointer p)/\Call prog 106 [pointer p,I x1] w' fun e w'=>∃n b,e=Z (tuple #[I n,.bool b])/\R (Z (tuple #[I n,.bool b])) w')):=by kernel_rfl
def M89:Mt:={N:=18,keep:=kp 0 [[0,1],[0,1,9],[4],[4]]}
noncomputable def c89:Code:=bodyOf f89
theorem u89:UT 89 M89 c89 f89:=fun h i=>u_ func89 (by kernel_rfl) h i
theorem t89 (x x1 w R):den prog M89 c89 (argE 0 [(pointer x),(int i64 x1)]) w (Rt f89 R)=
(New w [I x1] 3 fun p w'=>Call prog 183 [pointer x,slice (some p) 1 1] w' fun e w'=>∃n,e=Z (I n)/\((n !=0)->R (Z (N3)) w')/\((n !=0)=false->∃a,x=some a/\∃p n c,w'.cell? (a.add 1)=some (slice p n c)/\(0<=x1/\x1<(↑n:Int))/\∃a,p=some a/\∃p,w'.cell? (add a (Int.toNat x1*1))=some (pointer p)/\Call prog 184 [pointer p] w' fun e w'=>∃p n c,e=Z (slice p n c)/\R (Z (slice p n c)) w')):=by kernel_rfl
def M105:Mt:={N:=21,keep:=kp 0 [[0,1],[0,1,9],[4,5],[6,7],[4,5]]}
noncomputable def c105:Code:=bodyOf f105
theorem u105:UT 105 M105 c105 f105:=fun h i=>u_ func105 (by kernel_rfl) h i
theorem t105 (x x1 w R):den prog M105 c105 (argE 0 [(pointer x),(int i64 x1)]) w (Rt f105 R)=
((x.isNone->R (Z (tuple #[I 0,.bool false])) w)/\(x.isNone=false->∃a,x=some a/\∃r,w.cell? (a.add 2)=some (map r)/\∃n b,Sem.run prog (Instr.lookup 78 (map r) (I x1) true) w=Result.ok (tuple #[I n,.bool b]) w/\R (Z (tuple #[I n,.bool b])) w)):=by kernel_rfl
def M124:Mt:={N:=28,keep:=kp 0 [[0,1],[0,1,5],[0,1,5,12],[4],[0,1,6],[1,6,17,18,19],[1,6,17,18,19,20],[1,8,17,18,19],[1,6,17,18,19],[1,6,17,18,19],[4]],bk:=[(0,[6]),(1,[1,6,17,18,19])],lk:=[(6,[1,6,17,18,19])]}
noncomputable def c124:Code:=bodyOf f124
noncomputable def c124_0:Code:=c124.sr.sr.sr.sr
noncomputable def c124_1:Code:=c124.sr.sr.sr.sl.sr.sl.sl
def e124_1 (x x1:Int) (x2:Option Addr) (x3 x4:Nat) (x5 x6:Int):Env:=[(1,SV.v (int i64 x)),(6,SV.v (int i64 x1)),(17,SV.v (slice x2 x3 x4)),(18,SV.v (int i64 x5)),(19,SV.v (int i64 x6))]
def k124_1 (R:RT):=blockK 0 [6] (SQ M124 c124_0 (Rt f124 R) (Rt f124 R))
theorem u124:UT 124 M124 c124 f124:=fun h i=>u_ func124 (by kernel_rfl) h i
theorem t124 (x x1 w R):den prog M124 c124 (argE 0 [(pointer x),(int i64 x1)]) w (Rt f124 R)=
(Call prog 183 [pointer x,N3] w fun e w'=>∃n,e=Z (I n)/\((n !=0)->R (Z (I n)) w')/\((n !=0)=false->∃a,x=some a/\∃p n c,w'.cell? (a.add 1)=some (slice p n c)/\Cut (WP prog 28 (Code.loop c124_1) (e124_1 x1 0 p n c (↑n:Int) 0) w' (k124_1 R)))):=by kernel_rfl
theorem t124_1 (x x1 x2 x3 x4 x5 x6 w B124_1 R):den prog M124 c124_1 (e124_1 x x1 x2 x3 x4 x5 x6) w (loopK B124_1 (k124_1 R))=
((decide (x6<x5)->(0<=x6/\x6<(↑x3:Int))/\∃a,x2=some a/\∃p,w.cell? (add a (Int.toNat x6*1))=some (pointer p)/\Call prog 231 [pointer p,I x] w fun e w'=>∃n,e=Z (I n)/\B124_1 [(1,SV.v (I x)),(6,SV.v (I n)),(17,SV.v (slice x2 x3 x4)),(18,SV.v (I x5)),(19,SV.v (I (wrap i64 (x6+1))))] w')/\(decide (x6<x5)=false->R (Z (I x1)) w)):=by kernel_rfl
def M183:Mt:={N:=27,keep:=kp 0 [[0,1],[0,1,8],[4],[0,9,10,11],[0,9,10,11,12],[0,6,9,10,11],[0,9,10,11,25],[4],[0,9,10,11],[4]],bk:=[(0,[]),(1,[0,9,10,11])],lk:=[(4,[0,9,10,11])]}
noncomputable def c183:Code:=bodyOf f183
noncomputable def c183_0:Code:=c183.sr.sr.sr
noncomputable def c183_1:Code:=c183.sr.sr.sl.sr.sl.sl
def e183_1 (x x1:Option Addr) (x2 x3:Nat) (x4 x5:Int):Env:=[(0,SV.v (pointer x)),(9,SV.v (slice x1 x2 x3)),(10,SV.v (int i64 x4)),(11,SV.v (int i64 x5))]
def k183_1 (R:RT):=blockK 0 [] (SQ M183 c183_0 (Rt f183 R) (Rt f183 R))
theorem u183:UT 183 M183 c183 f183:=fun h i=>u_ func183 (by kernel_rfl) h i
theorem t183 (x x1 x2 x3 w R):den prog M183 c183 (argE 0 [(pointer x),(slice x1 x2 x3)]) w (Rt f183 R)=
((x.isNone->R (Z (I 1)) w)/\(x.isNone=false->Cut (WP prog 27 (Code.loop c183_1) (e183_1 x x1 x2 x3 (↑x2:Int) 0) w (k183_1 R)))):=by kernel_rfl
theorem t183_1 (x x1 x2 x3 x4 x5 w B183_1 R):den prog M183 c183_1 (e183_1 x x1 x2 x3 x4 x5) w (loopK B183_1 (k183_1 R))=
((decide (x5<x4)->(0<=x5/\x5<(↑x2:Int))/\∃a,x1=some a/\∃n,w.cell? (add a (Int.toNat x5*1))=some (I n)/\(decide (n<0)=false->∃a,x=some a/\∃p n_1 c,w.cell? (a.add 1)=some (slice p n_1 c)/\(decide (n>=(↑n_1:Int))->R (Z (I 3)) w)/\(decide (n>=(↑n_1:Int))=false->B183_1 [(0,SV.v (pointer x)),(9,SV.v (slice x1 x2 x3)),(10,SV.v (I x4)),(11,SV.v (I (wrap i64 (x5+1))))] w))/\(decide (n<0)->R (Z (I 3)) w))/\(decide (x5<x4)=false->R (Z (I 0)) w)):=by kernel_rfl
def M205:Mt:={N:=22,keep:=kp 0 [[0,1],[4]]}
noncomputable def c205:Code:=bodyOf f205
theorem u205:UT 205 M205 c205 f205:=fun h i=>u_ func205 (by kernel_rfl) h i
theorem t205 (x x1 w R):den prog M205 c205 (argE 0 [(pointer x),(int i64 x1)]) w (Rt f205 R)=
(New w [I x1] 3 fun p w'=>Call prog 183 [pointer x,slice (some p) 1 1] w' fun e w'=>∃n,e=Z (I n)/\((n==0)->∃a,x=some a/\∃p n c,w'.cell? (a.add 1)=some (slice p n c)/\(0<=x1/\x1<(↑n:Int))/\∃a,p=some a/\∃p,w'.cell? (add a (Int.toNat x1*1))=some (pointer p)/\Call prog 293 [pointer p] w' fun e w'=>∃p n c,e=Z (slice p n c)/\R (Z (.bool (decide ((↑n:Int)>0)))) w')/\((n==0)=false->R (Z (.bool false)) w')):=by kernel_rfl
def M214:Mt:={N:=24,keep:=kp 0 [[0,1],[0,1,6],[0,1,6,12],[4,5],[4,5]]}
noncomputable def c214:Code:=bodyOf f214
theorem u214:UT 214 M214 c214 f214:=fun h i=>u_ func214 (by kernel_rfl) h i
theorem t214 (x x1 w R):den prog M214 c214 (argE 0 [(pointer x),(int i64 x1)]) w (Rt f214 R)=
(New w [I x1] 3 fun p w'=>Call prog 183 [pointer x,slice (some p) 1 1] w' fun e w'=>∃n,e=Z (I n)/\((n !=0)->R (Z (tuple #[I 0,I n])) w')/\((n !=0)=false->∃a,x=some a/\∃p n c,w'.cell? (a.add 1)=some (slice p n c)/\(0<=x1/\x1<(↑n:Int))/\∃a,p=some a/\∃p,w'.cell? (add a (Int.toNat x1*1))=some (pointer p)/\Call prog 303 [pointer p] w' fun e w'=>∃n n_1,e=Z (tuple #[I n,I n_1])/\R (Z (tuple #[I n,I n_1])) w')):=by kernel_rfl
def M240:Mt:={N:=52,keep:=kp 0 [[0,1,2],[0,1,2,8],[0,1,2,8,16],[6,7],[0,1,2,23],[6,7],[0,1,2,9,10],[0,1,2,9,10,33],[6,7],[0,1,2,9],[6,7]]}
noncomputable def c240:Code:=bodyOf f240
theorem u240:UT 240 M240 c240 f240:=fun h i=>u_ func240 (by kernel_rfl) h i
theorem t240 (x x1 x2 w R):den prog M240 c240 (argE 0 [(pointer x),(int i64 x1),(int i64 x2)]) w (Rt f240 R)=
(New w [I x1] 3 fun p w'=>Call prog 183 [pointer x,slice (some p) 1 1] w' fun e w'=>∃n,e=Z (I n)/\((n !=0)->R (Z (tuple #[I 0,I n])) w')/\((n !=0)=false->(decide (x2<0)=false->(decide (x2>1152921504606846976)->R (Z (tuple #[I 0,I 2])) w')/\(decide (x2>1152921504606846976)=false->∃a,x=some a/\∃p,w'.cell? (a.add 0)=some (pointer p)/\Call prog 149 [pointer p] w' fun e w'=>∃n n_1,e=Z (tuple #[I n,I n_1])/\((n_1 !=0)->R (Z (tuple #[I 0,I n_1])) w')/\((n_1 !=0)=false->∃a,x=some a/\∃r,w'.cell? (a.add 2)=some (map r)/\∃w'_1,Sem.run prog (Instr.mapUpdate 78 (map r) (I n) (I x1)) w'=Result.ok () w'_1/\∃a,x=some a/\∃p n_2 c,w'_1.cell? (a.add 1)=some (slice p n_2 c)/\(0<=x1/\x1<(↑n_2:Int))/\∃a,p=some a/\∃p,w'_1.cell? (add a (Int.toNat x1*1))=some (pointer p)/\Call prog 322 [pointer p,I n,I x2] w'_1 fun e w'=>∃n_3,e=Z (I n_3)/\R (Z (tuple #[I n,I n_3])) w')))/\(decide (x2<0)->R (Z (tuple #[I 0,I 2])) w'))):=by kernel_rfl
def M244:Mt:={N:=39,keep:=kp 0 [[0,1],[0,1,5,6],[0,1,5,6,13],[4],[0,1,5,16],[4],[0,1,5],[0,1,5],[4]],bk:=[(0,[0,1,5])]}
noncomputable def c244:Code:=bodyOf f244
theorem u244:UT 244 M244 c244 f244:=fun h i=>u_ func244 (by kernel_rfl) h i
theorem t244 (x x1 w R):den prog M244 c244 (argE 0 [(pointer x),(int i64 x1)]) w (Rt f244 R)=
(Call prog 105 [pointer x,I x1] w fun e w'=>∃n b,e=Z (tuple #[I n,.bool b])/\(x.isNone->R (Z (I 1)) w')/\(x.isNone=false->((!b)->R (Z (I 4)) w')/\((!b)=false->∃a,x=some a/\∃r,w'.cell? (a.add 2)=some (map r)/\∃w'_1,Sem.run prog (Builtin.delete_ #[78,3] 0 #[map r,I x1]) w'=Result.ok (tuple #[]) w'_1/\∃a,x=some a/\∃p,w'_1.cell? (a.add 0)=some (pointer p)/\Call prog 305 [pointer p,I x1] w'_1 fun e w'=>∃n_1,e=Z (I n_1)/\∃a,x=some a/\∃p n_2 c,w'.cell? (a.add 1)=some (slice p n_2 c)/\(0<=n/\n<(↑n_2:Int))/\∃a,p=some a/\∃p,w'.cell? (add a (Int.toNat n*1))=some (pointer p)/\Call prog 324 [pointer p,I x1] w' fun e w'=>∃n,e=Z (I n)/\R (Z (I n)) w'))):=by kernel_rfl
def M306:Mt:={N:=34,keep:=kp 0 [[0,1],[0,1,6],[0,1,6,13],[4,5],[0,7],[0,7,25],[4,5],[4,5]],ords:=[(7,[0,1,2,3,4,5,6,7,8,9])]}
noncomputable def c306:Code:=bodyOf f306
theorem u306:UT 306 M306 c306 f306:=fun h i=>u_ func306 (by kernel_rfl) h i
theorem t306 (x x1 w R):den prog M306 c306 (argE 0 [(pointer x),(int i64 x1)]) w (Rt f306 R)=
(New w [I x1] 3 fun p w'=>Call prog 183 [pointer x,slice (some p) 1 1] w' fun e w'=>∃n,e=Z (I n)/\((n !=0)->R (Z (tuple #[I 0,I n])) w')/\((n !=0)=false->∃a,x=some a/\∃p n c,w'.cell? (a.add 1)=some (slice p n c)/\(0<=x1/\x1<(↑n:Int))/\∃a,p=some a/\∃p,w'.cell? (add a (Int.toNat x1*1))=some (pointer p)/\Call prog 293 [pointer p] w' fun e w'=>∃p n c,e=Z (slice p n c)/\(((↑n:Int)==0)->R (Z (tuple #[I 0,I 12])) w')/\(((↑n:Int)==0)=false->Sm w' fun w'_1=>((0:Int)<=0/\0<(↑n:Int))/\∃a,p=some a/\∃n_1,w'_1.cell? (a.add 0)=some (I n_1)/\((0:Int)<=0/\0<(↑n:Int))/\∃a_1,p=some a_1/\∃n,w'_1.cell? (a_1.add 0)=some (I n)/\Call prog 244 [pointer x,I n] w'_1 fun e w'=>∃n,e=Z (I n)/\w'.cell? (a.add 0)=some (I n_1)/\R (Z (tuple #[I n_1,I n])) w'))):=by kernel_rfl
def M357:Mt:={N:=67,keep:=kp 0 [[0,1,2],[0,1,2,8],[0,1,2,8,19],[6,7],[0,1,2,9],[0,1,2,9,24],[6,7],[0,1,2,9,28],[6,7],[0,1,2,10],[0,1,2,10,11],[0,2,10,11],[0,2,10,11],[6,7]],bk:=[(0,[0,1,2,9])]}
noncomputable def c357:Code:=bodyOf f357
theorem u357:UT 357 M357 c357 f357:=fun h i=>u_ func357 (by kernel_rfl) h i
theorem t357 (x x1 x2 w R):den prog M357 c357 (argE 0 [(pointer x),(int i64 x1),(int i64 x2)]) w (Rt f357 R)=
(New w [I x1,I x2] 3 fun p w'=>Call prog 183 [pointer x,slice (some p) 2 2] w' fun e w'=>∃n,e=Z (I n)/\((n !=0)->R (Z (tuple #[I 0,I n])) w')/\((n !=0)=false->Call prog 89 [pointer x,I x1] w' fun e w'=>∃p n c,e=Z (slice p n c)/\((x1==x2)->R (Z (tuple #[I 0,I 2])) w')/\((x1==x2)=false->(((↑n:Int)==0)->R (Z (tuple #[I 0,I 12])) w')/\(((↑n:Int)==0)=false->((0:Int)<=0/\0<(↑n:Int))/\∃a,p=some a/\∃n,w'.cell? (a.add 0)=some (I n)/\Call prog 31 [pointer x,I n] w' fun e w'=>∃n_1 b,e=Z (tuple #[I n_1,.bool b])/\∃a,x=some a/\∃p n_2 c,w'.cell? (a.add 1)=some (slice p n_2 c)/\(0<=x1/\x1<(↑n_2:Int))/\∃a,p=some a/\∃p,w'.cell? (add a (Int.toNat x1*1))=some (pointer p)/\Call prog 324 [pointer p,I n] w' fun e w'=>∃n_3,e=Z (I n_3)/\∃a,x=some a/\∃r,w'.cell? (a.add 2)=some (map r)/\∃w'_1,Sem.run prog (Instr.mapUpdate 78 (map r) (I n) (I x2)) w'=Result.ok () w'_1/\∃a,x=some a/\∃p n_4 c,w'_1.cell? (a.add 1)=some (slice p n_4 c)/\(0<=x2/\x2<(↑n_4:Int))/\∃a,p=some a/\∃p,w'_1.cell? (add a (Int.toNat x2*1))=some (pointer p)/\Call prog 322 [pointer p,I n,I n_1] w'_1 fun e w'=>∃n_5,e=Z (I n_5)/\R (Z (tuple #[I n,I n_5])) w')))):=by kernel_rfl
def M371:Mt:={N:=25,keep:=kp 0 [[0,2],[0,2,4],[0],[0,2],[0,2,8],[0,2],[0,2],[0,2,14],[0,2],[0,2],[2]],cuts:=[(4,[0,2]),(7,[0,2])]}
noncomputable def c371:Code:=bodyOf f371
noncomputable def c371_0:Code:=c371.sr.sr
noncomputable def c371_1:Code:=c371.sr.sr.sr
def e371_0 (x x1:Int):Env:=[(0,SV.v (int .u64 x)),(2,SV.v (int i64 x1))]
def e371_1 (x x1:Int):Env:=[(0,SV.v (int .u64 x)),(2,SV.v (int i64 x1))]
def k371_0 (R:RT):=Rt f371 R
def k371_1 (R:RT):=Rt f371 R
theorem u371:UT 371 M371 c371 f371:=fun h i=>u_ func371 (by kernel_rfl) h i
theorem t371 (x w R):den prog M371 c371 (argE 0 [(int .u64 x)]) w (Rt f371 R)=
((decide (x>=4294967296)->(0:Int)<=32/\CutD prog M371 c371_0 (e371_0 (shrOp .u64 x 32) 32) w (k371_0 R))/\(decide (x>=4294967296)=false->CutD prog M371 c371_0 (e371_0 x 0) w (k371_0 R))):=by kernel_rfl
theorem t371_0 (x x1 w R):den prog M371 c371_0 (e371_0 x x1) w (k371_0 R)=
((decide (x>=65536)->(0:Int)<=16/\CutD prog M371 c371_1 (e371_1 (shrOp .u64 x 16) (wrap i64 (x1+16))) w (k371_1 R))/\(decide (x>=65536)=false->CutD prog M371 c371_1 (e371_1 x x1) w (k371_1 R))):=by kernel_rfl
theorem t371_1 (x x1 w R):den prog M371 c371_1 (e371_1 x x1) w (k371_1 R)=
((decide (x>=256)->(0:Int)<=8/\(0<=wrap IntKind.u8 (shrOp .u64 x 8)/\wrap IntKind.u8 (shrOp .u64 x 8)<(↑256:Int))/\∃c,(∃u,(ByteArray.mk #[0,1,2,2,3,3,3,3,4,4,4,4,4,4,4,4,5,5,5,5,5,5,5,5,5,5,5,5,5,5,5,5,6,6,6,6,6,6,6,6,6,6,6,6,6,6,6,6,6,6,6,6,6,6,6,6,6,6,6,6,6,6,6,6,7,7,7,7,7,7,7,7,7,7,7,7,7,7,7,7,7,7,7,7,7,7,7,7,7,7,7,7,7,7,7,7,7,7,7,7,7,7,7,7,7,7,7,7,7,7,7,7,7,7,7,7,7,7,7,7,7,7,7,7,7,7,7,7,8,8,8,8,8,8,8,8,8,8,8,8,8,8,8,8,8,8,8,8,8,8,8,8,8,8,8,8,8,8,8,8,8,8,8,8,8,8,8,8,8,8,8,8,8,8,8,8,8,8,8,8,8,8,8,8,8,8,8,8,8,8,8,8,8,8,8,8,8,8,8,8,8,8,8,8,8,8,8,8,8,8,8,8,8,8,8,8,8,8,8,8,8,8,8,8,8,8,8,8,8,8,8,8,8,8,8,8,8,8,8,8,8,8,8,8,8,8,8,8,8,8,8,8,8,8,8,8])[Int.toNat (wrap IntKind.u8 (shrOp .u64 x 8))]?=some u/\(↑(UInt8.toNat u):Int)=c)/\R (Z (I (wrap i64 (wrap i64 (x1+8)+wrap i64 c)))) w)/\(decide (x>=256)=false->(0<=wrap IntKind.u8 x/\wrap IntKind.u8 x<(↑256:Int))/\∃c,(∃u,(ByteArray.mk #[0,1,2,2,3,3,3,3,4,4,4,4,4,4,4,4,5,5,5,5,5,5,5,5,5,5,5,5,5,5,5,5,6,6,6,6,6,6,6,6,6,6,6,6,6,6,6,6,6,6,6,6,6,6,6,6,6,6,6,6,6,6,6,6,7,7,7,7,7,7,7,7,7,7,7,7,7,7,7,7,7,7,7,7,7,7,7,7,7,7,7,7,7,7,7,7,7,7,7,7,7,7,7,7,7,7,7,7,7,7,7,7,7,7,7,7,7,7,7,7,7,7,7,7,7,7,7,7,8,8,8,8,8,8,8,8,8,8,8,8,8,8,8,8,8,8,8,8,8,8,8,8,8,8,8,8,8,8,8,8,8,8,8,8,8,8,8,8,8,8,8,8,8,8,8,8,8,8,8,8,8,8,8,8,8,8,8,8,8,8,8,8,8,8,8,8,8,8,8,8,8,8,8,8,8,8,8,8,8,8,8,8,8,8,8,8,8,8,8,8,8,8,8,8,8,8,8,8,8,8,8,8,8,8,8,8,8,8,8,8,8,8,8,8,8,8,8,8,8,8,8,8,8,8,8,8])[Int.toNat (wrap IntKind.u8 x)]?=some u/\(↑(UInt8.toNat u):Int)=c)/\R (Z (I (wrap i64 (x1+wrap i64 c)))) w)):=by kernel_rfl
end Go.Dav
namespace Go.Dav
open Go.Proofs
open Value IntKind Ending World Addr Tryz
set_option maxRecDepth 100000
def M8:Mt:={N:=160,keep:=kp 0 [[0],[0,11],[2,3],[0,4],[0,5],[0,5],[0,5],[0,5],[0,5],[0,5],[0,5],[0,5],[5,140,141],[5,140,141,142],[5,140,141],[5,140,141],[2,3]],ords:=[(14,[0,1,2,3,4,5,6,7,8,9,10,11,12,13,14,15])],bk:=[(0,[5]),(1,[5,140,141])],lk:=[(13,[5,140,141])]}
noncomputable def c8:Code:=bodyOf f8
noncomputable def c8_0:Code:=c8.sr.sr.sr.sr.sr.sr.sr.sr.sr.sr.sr.sr
noncomputable def c8_1:Code:=c8.sr.sr.sr.sr.sr.sr.sr.sr.sr.sr.sr.sl.sr.sl.sl
def e8_1 (x:Option Addr) (x1 x2:Int):Env:=[(5,SV.v (pointer x)),(140,SV.v (int i64 x1)),(141,SV.v (int i64 x2))]
def k8_1 (R:RT):=blockK 0 [5] (SQ M8 c8_0 (Rt f8 R) (Rt f8 R))
theorem u8:UT 8 M8 c8 f8:=fun h i=>u_ func8 (by kernel_rfl) h i
theorem t8 (x w R):den prog M8 c8 (argE 0 [(int i64 x)]) w (Rt f8 R)=
((decide (x<1)=false->(decide (x>64)->R (Z (tuple #[pointer none,I 2])) w)/\(decide (x>64)=false->Call prog 11 [I x] w fun e w'=>∃n,e=Z (int .u64 n)/\NewMap w' fun r w'=>New w' [pointer none,pointer none,pointer none,pointer none,pointer none,pointer none,pointer none,pointer none,pointer none,pointer none,pointer none,pointer none,pointer none,pointer none,N3,I x,int .u64 n,int .u64 n,I 0,I 1073741824,map (some r)] 94 fun p w'=>Call prog 34 [I x] w' fun e w'=>∃p_1 n,e=Z (tuple #[pointer p_1,I n])/\Call prog 33 [pointer p_1,I n] w' fun e w'=>∃p_2,e=Z (pointer p_2)/\Call prog 36 [I x] w' fun e w'=>∃p_3 n,e=Z (tuple #[pointer p_3,I n])/\Call prog 35 [pointer p_3,I n] w' fun e w'=>∃p_4,e=Z (pointer p_4)/\∃a,some p=some a/\Wr w' (add (a.add 0) 0) [pointer p_2] fun w'=>∃a,some p=some a/\Wr w' (add (a.add 0) 1) [pointer p_4] fun w'=>Call prog 38 [I x] w' fun e w'=>∃p_5 n,e=Z (tuple #[pointer p_5,I n])/\Call prog 37 [pointer p_5,I n] w' fun e w'=>∃p_6,e=Z (pointer p_6)/\Call prog 40 [I x] w' fun e w'=>∃p_7 n,e=Z (tuple #[pointer p_7,I n])/\Call prog 39 [pointer p_7,I n] w' fun e w'=>∃p_8,e=Z (pointer p_8)/\∃a,some p=some a/\Wr w' (add (a.add 0) 2) [pointer p_6] fun w'=>∃a,some p=some a/\Wr w' (add (a.add 0) 3) [pointer p_8] fun w'=>Call prog 42 [I x] w' fun e w'=>∃p_9 n,e=Z (tuple #[pointer p_9,I n])/\Call prog 41 [pointer p_9,I n] w' fun e w'=>∃p_10,e=Z (pointer p_10)/\Call prog 44 [I x] w' fun e w'=>∃p_11 n,e=Z (tuple #[pointer p_11,I n])/\Call prog 43 [pointer p_11,I n] w' fun e w'=>∃p_12,e=Z (pointer p_12)/\∃a,some p=some a/\Wr w' (add (a.add 0) 4) [pointer p_10] fun w'=>∃a,some p=some a/\Wr w' (add (a.add 0) 5) [pointer p_12] fun w'=>Call prog 46 [I x] w' fun e w'=>∃p_13 n,e=Z (tuple #[pointer p_13,I n])/\Call prog 45 [pointer p_13,I n] w' fun e w'=>∃p_14,e=Z (pointer p_14)/\Call prog 48 [I x,I 12] w' fun e w'=>∃p_15 n,e=Z (tuple #[pointer p_15,I n])/\Call prog 47 [pointer p_15,I n] w' fun e w'=>∃p_16,e=Z (pointer p_16)/\∃a,some p=some a/\Wr w' (add (a.add 0) 6) [pointer p_14] fun w'=>∃a,some p=some a/\Wr w' (add (a.add 0) 7) [pointer p_16] fun w'=>Call prog 50 [I x] w' fun e w'=>∃p_17 n,e=Z (tuple #[pointer p_17,I n])/\Call prog 49 [pointer p_17,I n] w' fun e w'=>∃p_18,e=Z (pointer p_18)/\Call prog 52 [I x] w' fun e w'=>∃p_19 n,e=Z (tuple #[pointer p_19,I n])/\Call prog 51 [pointer p_19,I n] w' fun e w'=>∃p_20,e=Z (pointer p_20)/\∃a,some p=some a/\Wr w' (add (a.add 0) 8) [pointer p_18] fun w'=>∃a,some p=some a/\Wr w' (add (a.add 0) 9) [pointer p_20] fun w'=>Call prog 54 [I x] w' fun e w'=>∃p_21 n,e=Z (tuple #[pointer p_21,I n])/\Call prog 53 [pointer p_21,I n] w' fun e w'=>∃p_22,e=Z (pointer p_22)/\Call prog 56 [I x] w' fun e w'=>∃p_23 n,e=Z (tuple #[pointer p_23,I n])/\Call prog 55 [pointer p_23,I n] w' fun e w'=>∃p_24,e=Z (pointer p_24)/\∃a,some p=some a/\Wr w' (add (a.add 0) 12) [pointer p_22] fun w'=>∃a,some p=some a/\Wr w' (add (a.add 0) 13) [pointer p_24] fun w'=>New w' [int .u64 0,int .u64 0] 132 fun p_25 w'=>New w' [pointer none,map none] 136 fun p_26 w'=>∃a,some p=some a/\Wr w' (add (a.add 0) 10) [pointer (some p_25)] fun w'=>∃a,some p=some a/\Wr w' (add (a.add 0) 11) [pointer (some p_26)] fun w'=>Cut (WP prog 160 (Code.loop c8_1) (e8_1 (some p) x 0) w' (k8_1 R))))/\(decide (x<1)->R (Z (tuple #[pointer none,I 2])) w)):=by kernel_rfl
theorem t8_1 (x x1 x2 w B8_1 R):den prog M8 c8_1 (e8_1 x x1 x2) w (loopK B8_1 (k8_1 R))=
((decide (x2<x1)->Sm w fun w'=>∃a,x=some a/\∃p n c,w'.cell? (add (a.add 0) 14)=some (slice p n c)/\Call prog 58 [I 100,I 1000] w' fun e w'=>∃p_1 n_1,e=Z (tuple #[pointer p_1,I n_1])/\w'.cell? (add (a.add 0) 14)=some (slice p n c)/\Call prog 57 [pointer p_1,I n_1] w' fun e w'=>∃p_2,e=Z (pointer p_2)/\w'.cell? (add (a.add 0) 14)=some (slice p n c)/\New w' [pointer p_2] 137 fun p_3 w'=>w'.cell? (add (a.add 0) 14)=some (slice p n c)/\∃p_4 n_2 c_1 w'_1,Sem.run prog (Builtin.append_ #[90,90] 90 #[slice p n c,slice (some p_3) 1 1]) w'=Result.ok (slice p_4 n_2 c_1) w'_1/\∃a,x=some a/\Wr w'_1 (add (a.add 0) 14) [slice p_4 n_2 c_1] fun w'=>B8_1 [(5,SV.v (pointer x)),(140,SV.v (I x1)),(141,SV.v (I (wrap i64 (x2+1))))] w')/\(decide (x2<x1)=false->R (Z (tuple #[pointer x,I 0])) w)):=by kernel_rfl
def M12:Mt:={N:=107,keep:=kp 0 [[0,3],[0,3,6],[4],[0,3,8],[0,3,8,9],[0,3,22],[4],[4],[0,3,8,28],[4],[0,3,8,35],[4],[0,3,8,46],[0,3,8,46],[0,3,8,46],[0,3,8,46],[0,3,8,46],[0,3,8,46],[4],[0,3,8,56],[0,3,8,56],[0,3,8,56],[0,3,8,56],[0,3,8,56],[0,3,8,56],[4],[0,3,8,67],[0,3,71],[4],[4],[0,3,8,84],[0,3,8,84],[0,3,8,84],[0,3,8,84],[0,3,8,84],[4],[0,3,8,93],[0,3,93],[4],[4]],ords:=[(5,[0,1,2,3,4,5,6,7,8,9,10,11])],bk:=[(0,[0,3])],cuts:=[(39,[0,3])]}
noncomputable def c12:Code:=bodyOf f12
noncomputable def c12_0:Code:=c12.sr.sr.sr
def e12_0 (x:Option Addr) (x1:Addr):Env:=[(0,SV.v (pointer x)),(3,SV.v (pointer (some x1)))]
def k12_0 (R:RT):=Rt f12 R
theorem u12 {a b c d e f w R}(h:den prog M12 c12 (argE 0 [a,agg #[b,c,d,e,f]]) w (Rt f12 R)):Calls prog 12 #[a,agg #[b,c,d,e,f]] w R:=u_ func12 (by kernel_rfl) h
theorem t12 (x x1 x2 x3 x4 x5 w R):den prog M12 c12 (argE 0 [(pointer x),(agg #[(int i64 x1),(int i64 x2),(int i64 x3),(int .u64 x4),(int i64 x5)])]) w (Rt f12 R)=
(New w [I x1,I x2,I x3,int .u64 x4,I x5] 33 fun p w'=>(x.isNone->R (Z (N3)) w')/\(x.isNone=false->∃n,w'.cell? (p.add 0)=some (I n)/\((n==1)->Sm w' fun w'_1=>∃n,w'_1.cell? (p.add 1)=some (I n)/\(decide (n<0)=false->∃n,w'_1.cell? (p.add 1)=some (I n)/\∃a,x=some a/\∃n_1,w'_1.cell? (a.add 15)=some (I n_1)/\(decide (n>=n_1)->Call prog 61 [I 3] w'_1 fun e w'=>∃p n c,e=Z (slice p n c)/\R (Z (slice p n c)) w')/\(decide (n>=n_1)=false->∃n,w'_1.cell? (p.add 1)=some (I n)/\Call prog 62 [pointer x,I n] w'_1 fun e w'=>∃p n c,e=Z (slice p n c)/\R (Z (slice p n c)) w'))/\(decide (n<0)->Call prog 61 [I 3] w'_1 fun e w'=>∃p n c,e=Z (slice p n c)/\R (Z (slice p n c)) w'))/\((n==1)=false->((n==2)->∃n,w'.cell? (p.add 4)=some (I n)/\Call prog 63 [pointer x,I n] w' fun e w'=>∃n,e=Z (I n)/\Call prog 61 [I n] w' fun e w'=>∃p n c,e=Z (slice p n c)/\R (Z (slice p n c)) w')/\((n==2)=false->((n==3)->∃n,w'.cell? (p.add 2)=some (I n)/\∃n_1,w'.cell? (p.add 3)=some (int .u64 n_1)/\Call prog 65 [pointer x,I n,int .u64 n_1] w' fun e w'=>∃n n_2,e=Z (tuple #[I n,I n_2])/\Call prog 64 [I n,I n_2] w' fun e w'=>∃p n c,e=Z (slice p n c)/\R (Z (slice p n c)) w')/\((n==3)=false->((n==4)->∃n,w'.cell? (p.add 0)=some (I n)/\∃n_1,w'.cell? (p.add 1)=some (I n_1)/\∃n_2,w'.cell? (p.add 2)=some (I n_2)/\∃n_3,w'.cell? (p.add 3)=some (int .u64 n_3)/\∃n_4,w'.cell? (p.add 4)=some (I n_4)/\Call prog 66 [pointer x,agg #[I n,I n_1,I n_2,int .u64 n_3,I n_4]] w' fun e w'=>∃p n c,e=Z (slice p n c)/\R (Z (slice p n c)) w')/\((n==4)=false->((n==5)->∃n,w'.cell? (p.add 0)=some (I n)/\∃n_1,w'.cell? (p.add 1)=some (I n_1)/\∃n_2,w'.cell? (p.add 2)=some (I n_2)/\∃n_3,w'.cell? (p.add 3)=some (int .u64 n_3)/\∃n_4,w'.cell? (p.add 4)=some (I n_4)/\Call prog 66 [pointer x,agg #[I n,I n_1,I n_2,int .u64 n_3,I n_4]] w' fun e w'=>∃p n c,e=Z (slice p n c)/\R (Z (slice p n c)) w')/\((n==5)=false->((n==6)->∃n,w'.cell? (p.add 0)=some (I n)/\∃n_1,w'.cell? (p.add 1)=some (I n_1)/\∃n_2,w'.cell? (p.add 2)=some (I n_2)/\∃n_3,w'.cell? (p.add 3)=some (int .u64 n_3)/\∃n_4,w'.cell? (p.add 4)=some (I n_4)/\Call prog 66 [pointer x,agg #[I n,I n_1,I n_2,int .u64 n_3,I n_4]] w' fun e w'=>∃p n c,e=Z (slice p n c)/\R (Z (slice p n c)) w')/\((n==6)=false->((n==7)->∃n,w'.cell? (p.add 0)=some (I n)/\∃n_1,w'.cell? (p.add 1)=some (I n_1)/\∃n_2,w'.cell? (p.add 2)=some (I n_2)/\∃n_3,w'.cell? (p.add 3)=some (int .u64 n_3)/\∃n_4,w'.cell? (p.add 4)=some (I n_4)/\Call prog 66 [pointer x,agg #[I n,I n_1,I n_2,int .u64 n_3,I n_4]] w' fun e w'=>∃p n c,e=Z (slice p n c)/\R (Z (slice p n c)) w')/\((n==7)=false->((n==8)->∃n,w'.cell? (p.add 0)=some (I n)/\∃n_1,w'.cell? (p.add 1)=some (I n_1)/\∃n_2,w'.cell? (p.add 2)=some (I n_2)/\∃n_3,w'.cell? (p.add 3)=some (int .u64 n_3)/\∃n_4,w'.cell? (p.add 4)=some (I n_4)/\Call prog 66 [pointer x,agg #[I n,I n_1,I n_2,int .u64 n_3,I n_4]] w' fun e w'=>∃p n c,e=Z (slice p n c)/\R (Z (slice p n c)) w')/\((n==8)=false->((n==9)->∃n,w'.cell? (p.add 0)=some (I n)/\∃n_1,w'.cell? (p.add 1)=some (I n_1)/\∃n_2,w'.cell? (p.add 2)=some (I n_2)/\∃n_3,w'.cell? (p.add 3)=some (int .u64 n_3)/\∃n_4,w'.cell? (p.add 4)=some (I n_4)/\Call prog 66 [pointer x,agg #[I n,I n_1,I n_2,int .u64 n_3,I n_4]] w' fun e w'=>∃p n c,e=Z (slice p n c)/\R (Z (slice p n c)) w')/\((n==9)=false->((n==12)->∃n,w'.cell? (p.add 0)=some (I n)/\∃n_1,w'.cell? (p.add 1)=some (I n_1)/\∃n_2,w'.cell? (p.add 2)=some (I n_2)/\∃n_3,w'.cell? (p.add 3)=some (int .u64 n_3)/\∃n_4,w'.cell? (p.add 4)=some (I n_4)/\Call prog 67 [pointer x,agg #[I n,I n_1,I n_2,int .u64 n_3,I n_4]] w' fun e w'=>∃n,e=Z (I n)/\Call prog 61 [I n] w' fun e w'=>∃p n c,e=Z (slice p n c)/\R (Z (slice p n c)) w')/\((n==12)=false->((n==13)->∃n,w'.cell? (p.add 0)=some (I n)/\∃n_1,w'.cell? (p.add 1)=some (I n_1)/\∃n_2,w'.cell? (p.add 2)=some (I n_2)/\∃n_3,w'.cell? (p.add 3)=some (int .u64 n_3)/\∃n_4,w'.cell? (p.add 4)=some (I n_4)/\Call prog 67 [pointer x,agg #[I n,I n_1,I n_2,int .u64 n_3,I n_4]] w' fun e w'=>∃n,e=Z (I n)/\Call prog 61 [I n] w' fun e w'=>∃p n c,e=Z (slice p n c)/\R (Z (slice p n c)) w')/\((n==13)=false->((n==14)->∃n,w'.cell? (p.add 0)=some (I n)/\∃n_1,w'.cell? (p.add 1)=some (I n_1)/\∃n_2,w'.cell? (p.add 2)=some (I n_2)/\∃n_3,w'.cell? (p.add 3)=some (int .u64 n_3)/\∃n_4,w'.cell? (p.add 4)=some (I n_4)/\Call prog 67 [pointer x,agg #[I n,I n_1,I n_2,int .u64 n_3,I n_4]] w' fun e w'=>∃n,e=Z (I n)/\Call prog 61 [I n] w' fun e w'=>∃p n c,e=Z (slice p n c)/\R (Z (slice p n c)) w')/\((n==14)=false->((n==15)->∃n,w'.cell? (p.add 0)=some (I n)/\∃n_1,w'.cell? (p.add 1)=some (I n_1)/\∃n_2,w'.cell? (p.add 2)=some (I n_2)/\∃n_3,w'.cell? (p.add 3)=some (int .u64 n_3)/\∃n_4,w'.cell? (p.add 4)=some (I n_4)/\Call prog 67 [pointer x,agg #[I n,I n_1,I n_2,int .u64 n_3,I n_4]] w' fun e w'=>∃n,e=Z (I n)/\Call prog 61 [I n] w' fun e w'=>∃p n c,e=Z (slice p n c)/\R (Z (slice p n c)) w')/\((n==15)=false->((n==16)->∃n,w'.cell? (p.add 0)=some (I n)/\∃n_1,w'.cell? (p.add 1)=some (I n_1)/\∃n_2,w'.cell? (p.add 2)=some (I n_2)/\∃n_3,w'.cell? (p.add 3)=some (int .u64 n_3)/\∃n_4,w'.cell? (p.add 4)=some (I n_4)/\Call prog 67 [pointer x,agg #[I n,I n_1,I n_2,int .u64 n_3,I n_4]] w' fun e w'=>∃n,e=Z (I n)/\Call prog 61 [I n] w' fun e w'=>∃p n c,e=Z (slice p n c)/\R (Z (slice p n c)) w')/\((n==16)=false->((n==17)->∃n,w'.cell? (p.add 0)=some (I n)/\∃n_1,w'.cell? (p.add 1)=some (I n_1)/\∃n_2,w'.cell? (p.add 2)=some (I n_2)/\∃n_3,w'.cell? (p.add 3)=some (int .u64 n_3)/\∃n_4,w'.cell? (p.add 4)=some (I n_4)/\Call prog 67 [pointer x,agg #[I n,I n_1,I n_2,int .u64 n_3,I n_4]] w' fun e w'=>∃n,e=Z (I n)/\Call prog 61 [I n] w' fun e w'=>∃p n c,e=Z (slice p n c)/\R (Z (slice p n c)) w')/\((n==17)=false->((n==18)->∃n,w'.cell? (p.add 1)=some (I n)/\((n==(-1:Int))->∃a,x=some a/\∃p,w'.cell? (add (a.add 0) 5)=some (pointer p)/\Call prog 68 [pointer p,I (-1:Int)] w' fun e w'=>∃n n_1,e=Z (tuple #[I n,I n_1])/\Call prog 64 [I n,I n_1] w' fun e w'=>∃p n c,e=Z (slice p n c)/\R (Z (slice p n c)) w')/\((n==(-1:Int))=false->∃n,w'.cell? (p.add 0)=some (I n)/\∃n_1,w'.cell? (p.add 1)=some (I n_1)/\∃n_2,w'.cell? (p.add 2)=some (I n_2)/\∃n_3,w'.cell? (p.add 3)=some (int .u64 n_3)/\∃n_4,w'.cell? (p.add 4)=some (I n_4)/\Call prog 69 [pointer x,agg #[I n,I n_1,I n_2,int .u64 n_3,I n_4]] w' fun e w'=>∃p n c,e=Z (slice p n c)/\R (Z (slice p n c)) w'))/\((n==18)=false->((n==10)->∃n,w'.cell? (p.add 0)=some (I n)/\∃n_1,w'.cell? (p.add 1)=some (I n_1)/\∃n_2,w'.cell? (p.add 2)=some (I n_2)/\∃n_3,w'.cell? (p.add 3)=some (int .u64 n_3)/\∃n_4,w'.cell? (p.add 4)=some (I n_4)/\Call prog 69 [pointer x,agg #[I n,I n_1,I n_2,int .u64 n_3,I n_4]] w' fun e w'=>∃p n c,e=Z (slice p n c)/\R (Z (slice p n c)) w')/\((n==10)=false->((n==20)->∃n,w'.cell? (p.add 0)=some (I n)/\∃n_1,w'.cell? (p.add 1)=some (I n_1)/\∃n_2,w'.cell? (p.add 2)=some (I n_2)/\∃n_3,w'.cell? (p.add 3)=some (int .u64 n_3)/\∃n_4,w'.cell? (p.add 4)=some (I n_4)/\Call prog 69 [pointer x,agg #[I n,I n_1,I n_2,int .u64 n_3,I n_4]] w' fun e w'=>∃p n c,e=Z (slice p n c)/\R (Z (slice p n c)) w')/\((n==20)=false->((n==21)->∃n,w'.cell? (p.add 0)=some (I n)/\∃n_1,w'.cell? (p.add 1)=some (I n_1)/\∃n_2,w'.cell? (p.add 2)=some (I n_2)/\∃n_3,w'.cell? (p.add 3)=some (int .u64 n_3)/\∃n_4,w'.cell? (p.add 4)=some (I n_4)/\Call prog 69 [pointer x,agg #[I n,I n_1,I n_2,int .u64 n_3,I n_4]] w' fun e w'=>∃p n c,e=Z (slice p n c)/\R (Z (slice p n c)) w')/\((n==21)=false->((n==22)->∃n,w'.cell? (p.add 0)=some (I n)/\∃n_1,w'.cell? (p.add 1)=some (I n_1)/\∃n_2,w'.cell? (p.add 2)=some (I n_2)/\∃n_3,w'.cell? (p.add 3)=some (int .u64 n_3)/\∃n_4,w'.cell? (p.add 4)=some (I n_4)/\Call prog 69 [pointer x,agg #[I n,I n_1,I n_2,int .u64 n_3,I n_4]] w' fun e w'=>∃p n c,e=Z (slice p n c)/\R (Z (slice p n c)) w')/\((n==22)=false->((n==26)->∃n,w'.cell? (p.add 0)=some (I n)/\∃n_1,w'.cell? (p.add 1)=some (I n_1)/\∃n_2,w'.cell? (p.add 2)=some (I n_2)/\∃n_3,w'.cell? (p.add 3)=some (int .u64 n_3)/\∃n_4,w'.cell? (p.add 4)=some (I n_4)/\Call prog 69 [pointer x,agg #[I n,I n_1,I n_2,int .u64 n_3,I n_4]] w' fun e w'=>∃p n c,e=Z (slice p n c)/\R (Z (slice p n c)) w')/\((n==26)=false->((n==23)->∃n,w'.cell? (p.add 0)=some (I n)/\∃n_1,w'.cell? (p.add 1)=some (I n_1)/\Call prog 70 [pointer x,.bool (n==23),I n_1] w' fun e w'=>∃n,e=Z (I n)/\Call prog 61 [I n] w' fun e w'=>∃p n c,e=Z (slice p n c)/\R (Z (slice p n c)) w')/\((n==23)=false->((n==24)->∃n,w'.cell? (p.add 0)=some (I n)/\∃n_1,w'.cell? (p.add 1)=some (I n_1)/\Call prog 70 [pointer x,.bool (n==23),I n_1] w' fun e w'=>∃n,e=Z (I n)/\Call prog 61 [I n] w' fun e w'=>∃p n c,e=Z (slice p n c)/\R (Z (slice p n c)) w')/\((n==24)=false->CutD prog M12 c12_0 (e12_0 x p) w' (k12_0 R)))))))))))))))))))))))))):=by kernel_rfl
theorem t12_0 (x x1 w R):den prog M12 c12_0 (e12_0 x x1) w (k12_0 R)=
(∃n,w.cell? (x1.add 0)=some (I n)/\∃n_1,w.cell? (x1.add 1)=some (I n_1)/\∃n_2,w.cell? (x1.add 2)=some (I n_2)/\∃n_3,w.cell? (x1.add 3)=some (int .u64 n_3)/\∃n_4,w.cell? (x1.add 4)=some (I n_4)/\Call prog 71 [pointer x,agg #[I n,I n_1,I n_2,int .u64 n_3,I n_4]] w fun e w'=>∃p n c,e=Z (slice p n c)/\R (Z (slice p n c)) w'):=by kernel_rfl
def M13:Mt:={N:=6,keep:=kp 0 [[0],[2]]}
noncomputable def c13:Code:=bodyOf f13
theorem u13:UT 13 M13 c13 f13:=fun h i=>u_ func13 (by kernel_rfl) h i
theorem t13 (x w R):den prog M13 c13 (argE 0 [(pointer x)]) w (Rt f13 R)=
(Call prog 72 [pointer x] w fun e w'=>∃p p_1 p_2 p_3 p_4 p_5 p_6 p_7 p_8 p_9 p_10 p_11 p_12 p_13 p_14 n c,e=Z (agg #[pointer p,pointer p_1,pointer p_2,pointer p_3,pointer p_4,pointer p_5,pointer p_6,pointer p_7,pointer p_8,pointer p_9,pointer p_10,pointer p_11,pointer p_12,pointer p_13,slice p_14 n c])/\R (Z (pointer p_1)) w'):=by kernel_rfl
def M16:Mt:={N:=9,keep:=kp 0 [[0],[0,4],[2],[2]]}
noncomputable def c16:Code:=bodyOf f16
theorem u16:UT 16 M16 c16 f16:=fun h i=>u_ func16 (by kernel_rfl) h i
theorem t16 (x w R):den prog M16 c16 (argE 0 [(pointer x)]) w (Rt f16 R)=
((x.isNone->R (Z (int .u64 0)) w)/\(x.isNone=false->∃a,x=some a/\∃n,w.cell? (a.add 17)=some (int .u64 n)/\R (Z (int .u64 n)) w)):=by kernel_rfl
def M22:Mt:={N:=9,keep:=kp 0 [[0],[0,4],[2],[2]]}
noncomputable def c22:Code:=bodyOf f22
theorem u22:UT 22 M22 c22 f22:=fun h i=>u_ func22 (by kernel_rfl) h i
theorem t22 (x w R):den prog M22 c22 (argE 0 [(pointer x)]) w (Rt f22 R)=
((x.isNone->R (Z (int .u64 0)) w)/\(x.isNone=false->∃a,x=some a/\∃n,w.cell? (a.add 16)=some (int .u64 n)/\R (Z (int .u64 n)) w)):=by kernel_rfl
def M33:Mt:={N:=6,keep:=kp 0 [[0],[4]]}
noncomputable def c33:Code:=bodyOf f33
theorem u33:UT 33 M33 c33 f33:=fun h i=>u_ func33 (by kernel_rfl) h i
theorem t33 (x x1 w R):den prog M33 c33 (argE 0 [(pointer x),(int i64 x1)]) w (Rt f33 R)=
(R (Z (pointer x)) w):=by kernel_rfl
def M35:Mt:={N:=6,keep:=kp 0 [[0],[4]]}
noncomputable def c35:Code:=bodyOf f35
theorem u35:UT 35 M35 c35 f35:=fun h i=>u_ func35 (by kernel_rfl) h i
theorem t35 (x x1 w R):den prog M35 c35 (argE 0 [(pointer x),(int i64 x1)]) w (Rt f35 R)=
(R (Z (pointer x)) w):=by kernel_rfl
def M37:Mt:={N:=6,keep:=kp 0 [[0],[4]]}
noncomputable def c37:Code:=bodyOf f37
theorem u37:UT 37 M37 c37 f37:=fun h i=>u_ func37 (by kernel_rfl) h i
theorem t37 (x x1 w R):den prog M37 c37 (argE 0 [(pointer x),(int i64 x1)]) w (Rt f37 R)=
(R (Z (pointer x)) w):=by kernel_rfl
def M39:Mt:={N:=6,keep:=kp 0 [[0],[4]]}
noncomputable def c39:Code:=bodyOf f39
theorem u39:UT 39 M39 c39 f39:=fun h i=>u_ func39 (by kernel_rfl) h i
theorem t39 (x x1 w R):den prog M39 c39 (argE 0 [(pointer x),(int i64 x1)]) w (Rt f39 R)=
(R (Z (pointer x)) w):=by kernel_rfl
def M41:Mt:={N:=6,keep:=kp 0 [[0],[4]]}
noncomputable def c41:Code:=bodyOf f41
theorem u41:UT 41 M41 c41 f41:=fun h i=>u_ func41 (by kernel_rfl) h i
theorem t41 (x x1 w R):den prog M41 c41 (argE 0 [(pointer x),(int i64 x1)]) w (Rt f41 R)=
(R (Z (pointer x)) w):=by kernel_rfl
def M43:Mt:={N:=6,keep:=kp 0 [[0],[4]]}
noncomputable def c43:Code:=bodyOf f43
theorem u43:UT 43 M43 c43 f43:=fun h i=>u_ func43 (by kernel_rfl) h i
theorem t43 (x x1 w R):den prog M43 c43 (argE 0 [(pointer x),(int i64 x1)]) w (Rt f43 R)=
(R (Z (pointer x)) w):=by kernel_rfl
def M45:Mt:={N:=6,keep:=kp 0 [[0],[4]]}
noncomputable def c45:Code:=bodyOf f45
theorem u45:UT 45 M45 c45 f45:=fun h i=>u_ func45 (by kernel_rfl) h i
theorem t45 (x x1 w R):den prog M45 c45 (argE 0 [(pointer x),(int i64 x1)]) w (Rt f45 R)=
(R (Z (pointer x)) w):=by kernel_rfl
def M47:Mt:={N:=6,keep:=kp 0 [[0],[4]]}
noncomputable def c47:Code:=bodyOf f47
theorem u47:UT 47 M47 c47 f47:=fun h i=>u_ func47 (by kernel_rfl) h i
theorem t47 (x x1 w R):den prog M47 c47 (argE 0 [(pointer x),(int i64 x1)]) w (Rt f47 R)=
(R (Z (pointer x)) w):=by kernel_rfl
def M49:Mt:={N:=6,keep:=kp 0 [[0],[4]]}
noncomputable def c49:Code:=bodyOf f49
theorem u49:UT 49 M49 c49 f49:=fun h i=>u_ func49 (by kernel_rfl) h i
theorem t49 (x x1 w R):den prog M49 c49 (argE 0 [(pointer x),(int i64 x1)]) w (Rt f49 R)=
(R (Z (pointer x)) w):=by kernel_rfl
def M51:Mt:={N:=6,keep:=kp 0 [[0],[4]]}
noncomputable def c51:Code:=bodyOf f51
theorem u51:UT 51 M51 c51 f51:=fun h i=>u_ func51 (by kernel_rfl) h i
theorem t51 (x x1 w R):den prog M51 c51 (argE 0 [(pointer x),(int i64 x1)]) w (Rt f51 R)=
(R (Z (pointer x)) w):=by kernel_rfl
def M53:Mt:={N:=6,keep:=kp 0 [[0],[4]]}
noncomputable def c53:Code:=bodyOf f53
theorem u53:UT 53 M53 c53 f53:=fun h i=>u_ func53 (by kernel_rfl) h i
theorem t53 (x x1 w R):den prog M53 c53 (argE 0 [(pointer x),(int i64 x1)]) w (Rt f53 R)=
(R (Z (pointer x)) w):=by kernel_rfl
def M55:Mt:={N:=6,keep:=kp 0 [[0],[4]]}
noncomputable def c55:Code:=bodyOf f55
theorem u55:UT 55 M55 c55 f55:=fun h i=>u_ func55 (by kernel_rfl) h i
theorem t55 (x x1 w R):den prog M55 c55 (argE 0 [(pointer x),(int i64 x1)]) w (Rt f55 R)=
(R (Z (pointer x)) w):=by kernel_rfl
def M57:Mt:={N:=6,keep:=kp 0 [[0],[4]]}
noncomputable def c57:Code:=bodyOf f57
theorem u57:UT 57 M57 c57 f57:=fun h i=>u_ func57 (by kernel_rfl) h i
theorem t57 (x x1 w R):den prog M57 c57 (argE 0 [(pointer x),(int i64 x1)]) w (Rt f57 R)=
(R (Z (pointer x)) w):=by kernel_rfl
def M61:Mt:={N:=5,keep:=kp 0 [[0],[2]]}
noncomputable def c61:Code:=bodyOf f61
theorem u61:UT 61 M61 c61 f61:=fun h i=>u_ func61 (by kernel_rfl) h i
theorem t61 (x w R):den prog M61 c61 (argE 0 [(int i64 x)]) w (Rt f61 R)=
(Call prog 64 [I 0,I x] w fun e w'=>∃p n c,e=Z (slice p n c)/\R (Z (slice p n c)) w'):=by kernel_rfl
def M62:Mt:={N:=77,keep:=kp 0 [[0,1],[0,1,5],[0,1,5,7],[0,1,7,24],[0,1,7],[0,1,7,38],[0,1,7,38,39],[4],[0,1,7,38,41],[],[4],[0,1,7,38,54],[],[4],[0,1,7,38,63],[4],[0,1,7,68],[],[4],[4]],ords:=[(2,[0,1,2,3,4,5]),(9,[0,1,2,3,4,5,6,7,8,9,10])],bk:=[(0,[0,1,7])],cuts:=[(5,[0,1,7])]}
noncomputable def c62:Code:=bodyOf f62
noncomputable def c62_0:Code:=c62.sr.sr.sr.sr
def e62_0 (x:Option Addr) (x1 x2:Int):Env:=[(0,SV.v (pointer x)),(1,SV.v (int i64 x1)),(7,SV.v (int i64 x2))]
def k62_0 (R:RT):=Rt f62 R
theorem u62:UT 62 M62 c62 f62:=fun h i=>u_ func62 (by kernel_rfl) h i
theorem t62 (x x1 w R):den prog M62 c62 (argE 0 [(pointer x),(int i64 x1)]) w (Rt f62 R)=
(∃a,x=some a/\∃p,w.cell? (add (a.add 0) 12)=some (pointer p)/\Call prog 113 [pointer p,I x1] w fun e w'=>∃b b_1 n n_1 n_2 n_3 n_4,e=Z (tuple #[agg #[.bool b,.bool b_1,I n,I n_1,I n_2,I n_3],I n_4])/\New w' [.bool false,.bool false,I 0,I 0,I 0,I 0] 226 fun p w'=>Wr w' p [.bool b,.bool b_1,I n,I n_1,I n_2,I n_3] fun w'=>Sm w' fun w'_1=>∃b,w'_1.cell? (p.add 0)=some (.bool b)/\∃b_2,w'_1.cell? (p.add 1)=some (.bool b_2)/\∃n,w'_1.cell? (p.add 2)=some (I n)/\∃n_5,w'_1.cell? (p.add 3)=some (I n_5)/\∃n_6,w'_1.cell? (p.add 4)=some (I n_6)/\∃n_7,w'_1.cell? (p.add 5)=some (I n_7)/\Call prog 115 [pointer x,I x1] w'_1 fun e w'=>∃b_3 b_4 b_5 b_6 b_7 b_8 b_9 b_10 b_11,e=Z (agg #[.bool b_3,.bool b_4,.bool b_5,.bool b_6,.bool b_7,.bool b_8,.bool b_9,.bool b_10,.bool b_11])/\(∀(j:Nat) (v:Value),[.bool b,.bool b_2,I n,I n_5,I n_6,I n_7][j]?=some v->w'.cell? (p.add j)=some v)/\Call prog 114 [agg #[.bool b,.bool b_2,I n,I n_5,I n_6,I n_7],agg #[.bool b_3,.bool b_4,.bool b_5,.bool b_6,.bool b_7,.bool b_8,.bool b_9,.bool b_10,.bool b_11]] w' fun e w'=>∃n,e=Z (I n)/\∃b,w'.cell? (p.add 0)=some (.bool b)/\(b->∃a,x=some a/\∃p,w'.cell? (add (a.add 0) 12)=some (pointer p)/\((n !=0)->Call prog 116 [pointer p,I x1,.bool (n !=9)] w' fun e w'=>∃n_8,e=Z (I n_8)/\CutD prog M62 c62_0 (e62_0 x x1 n) w' (k62_0 R))/\((n !=0)=false->Call prog 116 [pointer p,I x1,.bool false] w' fun e w'=>∃n_8,e=Z (I n_8)/\CutD prog M62 c62_0 (e62_0 x x1 n) w' (k62_0 R)))/\(b=false->CutD prog M62 c62_0 (e62_0 x x1 n) w' (k62_0 R))):=by kernel_rfl
theorem t62_0 (x x1 x2 w R):den prog M62 c62_0 (e62_0 x x1 x2) w (k62_0 R)=
(((x2==0)->R (Z (N3)) w)/\((x2==0)=false->((x2==1)->Sm w fun w'=>∃a,x=some a/\∃p,w'.cell? (add (a.add 0) 12)=some (pointer p)/\∃a,x=some a/\∃n,w'.cell? (a.add 18)=some (I n)/\Call prog 117 [pointer p,I x1,I n] w' fun e w'=>∃n n_1,e=Z (tuple #[I n,I n_1])/\R (Z (N3)) w')/\((x2==1)=false->((x2==2)->∃a,x=some a/\∃p,w.cell? (add (a.add 0) 10)=some (pointer p)/\Call prog 118 [pointer p,I x1] w fun e w'=>∃n,e=Z (I n)/\R (Z (N3)) w')/\((x2==2)=false->((x2==3)->Call prog 119 [pointer x,I x1] w fun e w'=>∃p n c,e=Z (slice p n c)/\R (Z (slice p n c)) w')/\((x2==3)=false->((x2==9)->Call prog 120 [pointer x,I x1] w fun e w'=>e=Z (tuple #[])/\R (Z (N3)) w')/\((x2==9)=false->Call prog 121 [pointer x,I x1,I x2] w fun e w'=>∃p n c,e=Z (slice p n c)/\R (Z (slice p n c)) w')))))):=by kernel_rfl
def M63:Mt:={N:=58,keep:=kp 0 [[0,1],[0,1,5,6],[0,1,5,6,20],[4],[0,1,5,25,26],[0,1,5,25,26,27],[0,1,5,7,25,26],[0,1,5,7,8,25,26],[0,1,5,7,8,25,26,40],[0,1,5,25,26],[0,1,5,25,26],[0,5],[4]],bk:=[(0,[0,5]),(1,[0,1,5,25,26])],cuts:=[(11,[0,5])],lk:=[(5,[0,1,5,25,26])]}
noncomputable def c63:Code:=bodyOf f63
noncomputable def c63_0:Code:=c63.sr.sr.sr.sr
noncomputable def c63_1:Code:=c63.sr.sr.sr.sl.sr.sl.sl
def e63_0 (x:Option Addr) (x1:Int):Env:=[(0,SV.v (pointer x)),(5,SV.v (int i64 x1))]
def e63_1 (x:Option Addr) (x1 x2 x3 x4:Int):Env:=[(0,SV.v (pointer x)),(1,SV.v (int i64 x1)),(5,SV.v (int i64 x2)),(25,SV.v (int i64 x3)),(26,SV.v (int i64 x4))]
def k63_0 (R:RT):=Rt f63 R
def k63_1 (R:RT):=blockK 0 [0,5] (SQ M63 c63_0 (Rt f63 R) (Rt f63 R))
theorem u63:UT 63 M63 c63 f63:=fun h i=>u_ func63 (by kernel_rfl) h i
theorem t63 (x x1 w R):den prog M63 c63 (argE 0 [(pointer x),(int i64 x1)]) w (Rt f63 R)=
(∃a,x=some a/\∃n,w.cell? (a.add 18)=some (I n)/\Call prog 122 [I n,I x1] w fun e w'=>∃n n_1,e=Z (tuple #[I n,I n_1])/\((n_1 !=0)->R (Z (I n_1)) w')/\((n_1 !=0)=false->∃a,x=some a/\∃n_2,w'.cell? (a.add 15)=some (I n_2)/\Cut (WP prog 58 (Code.loop c63_1) (e63_1 x x1 n n_2 0) w' (k63_1 R)))):=by kernel_rfl
theorem t63_0 (x x1 w R):den prog M63 c63_0 (e63_0 x x1) w (k63_0 R)=
(∃a,x=some a/\Wr w (a.add 18) [I x1] fun w'=>∃a,x=some a/\∃p,w'.cell? (add (a.add 0) 2)=some (pointer p)/\Call prog 124 [pointer p,I x1] w' fun e w'=>∃n,e=Z (I n)/\R (Z (I n)) w'):=by kernel_rfl
theorem t63_1 (x x1 x2 x3 x4 w B63_1 R):den prog M63 c63_1 (e63_1 x x1 x2 x3 x4) w (loopK B63_1 (k63_1 R))=
((decide (x4<x3)->∃a,x=some a/\∃p,w.cell? (add (a.add 0) 12)=some (pointer p)/\Call prog 113 [pointer p,I x4] w fun e w'=>∃b b_1 n n_1 n_2 n_3 n_4,e=Z (tuple #[agg #[.bool b,.bool b_1,I n,I n_1,I n_2,I n_3],I n_4])/\New w' [.bool false,.bool false,I 0,I 0,I 0,I 0] 226 fun p w'=>Wr w' p [.bool b,.bool b_1,I n,I n_1,I n_2,I n_3] fun w'=>∃b,w'.cell? (p.add 0)=some (.bool b)/\(b->∃b,w'.cell? (p.add 0)=some (.bool b)/\∃b_2,w'.cell? (p.add 1)=some (.bool b_2)/\∃n,w'.cell? (p.add 2)=some (I n)/\∃n_5,w'.cell? (p.add 3)=some (I n_5)/\∃n_6,w'.cell? (p.add 4)=some (I n_6)/\∃n_7,w'.cell? (p.add 5)=some (I n_7)/\Call prog 123 [pointer x,I x4,agg #[.bool b,.bool b_2,I n,I n_5,I n_6,I n_7],I x1] w' fun e w'=>e=Z (tuple #[])/\B63_1 [(0,SV.v (pointer x)),(1,SV.v (I x1)),(5,SV.v (I x2)),(25,SV.v (I x3)),(26,SV.v (I (wrap i64 (x4+1))))] w')/\(b=false->B63_1 [(0,SV.v (pointer x)),(1,SV.v (I x1)),(5,SV.v (I x2)),(25,SV.v (I x3)),(26,SV.v (I (wrap i64 (x4+1))))] w'))/\(decide (x4<x3)=false->CutD prog M63 c63_0 (e63_0 x x2) w (k63_0 R))):=by kernel_rfl
def M64:Mt:={N:=11,keep:=kp 0 [[0,1],[0,1,6],[0,1],[4]]}
noncomputable def c64:Code:=bodyOf f64
theorem u64:UT 64 M64 c64 f64:=fun h i=>u_ func64 (by kernel_rfl) h i
theorem t64 (x x1 w R):den prog M64 c64 (argE 0 [(int i64 x),(int i64 x1)]) w (Rt f64 R)=
(((x1 !=0)->New w [I 1,I 0,I 0,I 0,I x1] 43 fun p w'=>R (Z (slice (some p) 1 1)) w')/\((x1 !=0)=false->New w [I 1,I 0,I x,I 0,I x1] 43 fun p w'=>R (Z (slice (some p) 1 1)) w')):=by kernel_rfl
def M65:Mt:={N:=34,keep:=kp 0 [[0,1,2],[0,8,9],[0,8,9,22],[8,9],[6,7]]}
noncomputable def c65:Code:=bodyOf f65
theorem u65:UT 65 M65 c65 f65:=fun h i=>u_ func65 (by kernel_rfl) h i
theorem t65 (x x1 x2 w R):den prog M65 c65 (argE 0 [(pointer x),(int i64 x1),(int .u64 x2)]) w (Rt f65 R)=
(∃a,x=some a/\∃p,w.cell? (add (a.add 0) 0)=some (pointer p)/\Call prog 125 [pointer p,I x1,int .u64 x2] w fun e w'=>∃n n_1,e=Z (tuple #[I n,I n_1])/\((n_1==0)->∃a,x=some a/\∃n_2,w'.cell? (a.add 15)=some (I n_2)/\n_2≠0/\Call prog 126 [pointer x,I n,I (Int.tmod n n_2)] w' fun e w'=>e=Z (tuple #[])/\R (Z (tuple #[I n,I n_1])) w')/\((n_1==0)=false->R (Z (tuple #[I n,I n_1])) w')):=by kernel_rfl
def M66:Mt:={N:=106,keep:=kp 0 [[0,3],[0,3,5,6],[0,3,5,6,18],[4],[0,3,5,23],[4],[0,3,5,30],[4],[0,3,5,40],[0,3,6],[0,3,6,55],[6],[4],[0,3,5,62],[4],[0,3,5,70],[4],[0,3,5,84],[4],[0,3],[],[4]],ords:=[(1,[0,1,2,3,4,5,6,7,8,9,10,11,12,13]),(9,[0,1,2,3,4,5,6,7,8,9,10]),(18,[0,1,2,3,4,5,6,7,8,9])],bk:=[(0,[0,3,5])],cuts:=[(12,[6])],alts:=[(1,(.step 0 (.step 1 (.step 2 (.step 3 (.step 4 (.step 5 (.step 6 (.alt (.step 7 (.step 8 (.step 9 (.step 10 (.step 11 (.step 12 (.step 13 .fin))))))) (.step 11 (.step 7 (.step 8 (.step 9 (.step 10 (.step 12 (.step 13 .fin))))))))))))))))]}
noncomputable def c66:Code:=bodyOf f66
noncomputable def c66_0:Code:=c66.sr.sr.sr
noncomputable def c66_1:Code:=c66.sr.sr.sl.sl.sr.sr.sr.sr.sr.sr.sr.sl.sr
def e66_1 (x:Int):Env:=[(6,SV.v (int i64 x))]
def k66_1 (R:RT):=blockK 0 [0,3,5] (SQ M66 c66_0 (Rt f66 R) (Rt f66 R))
theorem u66 {a b c d e f w R}(h:den prog M66 c66 (argE 0 [a,agg #[b,c,d,e,f]]) w (Rt f66 R)):Calls prog 66 #[a,agg #[b,c,d,e,f]] w R:=u_ func66 (by kernel_rfl) h
theorem t66 (x x1 x2 x3 x4 x5 w R):den prog M66 c66 (argE 0 [(pointer x),(agg #[(int i64 x1),(int i64 x2),(int i64 x3),(int .u64 x4),(int i64 x5)])]) w (Rt f66 R)=
(New w [I x1,I x2,I x3,int .u64 x4,I x5] 33 fun p w'=>Sm w' fun w'_1=>∃a,x=some a/\∃p_1,w'_1.cell? (add (a.add 0) 0)=some (pointer p_1)/\∃n,w'_1.cell? (p.add 2)=some (I n)/\(Call prog 127 [pointer p_1,I n] w'_1 fun e w'=>∃n_1 n_2 n_3 b b_1 n_4 n_5,e=Z (tuple #[agg #[I n_1,int .u64 n_2,I n_3,.bool b,.bool b_1,I n_4],I n_5])/\New w' [I 0,int .u64 0,I 0,.bool false,.bool false,I 0] 250 fun p_2 w'=>w'.cell? (p.add 2)=some (I n)/\w'.cell? (add (a.add 0) 0)=some (pointer p_1)/\Wr w' p_2 [I n_1,int .u64 n_2,I n_3,.bool b,.bool b_1,I n_4] fun w'=>((n_5 !=0)->Call prog 61 [I n_5] w' fun e w'=>∃p n c,e=Z (slice p n c)/\R (Z (slice p n c)) w')/\((n_5 !=0)=false->∃n,w'.cell? (p.add 0)=some (I n)/\((n==9)->∃n,w'.cell? (p_2.add 2)=some (I n)/\Call prog 64 [I n,I 0] w' fun e w'=>∃p n c,e=Z (slice p n c)/\R (Z (slice p n c)) w')/\((n==9)=false->∃n,w'.cell? (p.add 0)=some (I n)/\((n==4)->∃n,w'.cell? (p.add 2)=some (I n)/\∃n_6,w'.cell? (p_2.add 0)=some (I n_6)/\∃n_7,w'.cell? (p_2.add 1)=some (int .u64 n_7)/\∃n_8,w'.cell? (p_2.add 2)=some (I n_8)/\∃b,w'.cell? (p_2.add 3)=some (.bool b)/\∃b_2,w'.cell? (p_2.add 4)=some (.bool b_2)/\∃n_9,w'.cell? (p_2.add 5)=some (I n_9)/\Call prog 128 [pointer x,I n,agg #[I n_6,int .u64 n_7,I n_8,.bool b,.bool b_2,I n_9]] w' fun e w'=>∃n,e=Z (I n)/\Call prog 61 [I n] w' fun e w'=>∃p n c,e=Z (slice p n c)/\R (Z (slice p n c)) w')/\((n==4)=false->∃n,w'.cell? (p.add 0)=some (I n)/\((n==8)->Sm w' fun w'_2=>∃a,x=some a/\∃p_3,w'_2.cell? (add (a.add 0) 0)=some (pointer p_3)/\∃n,w'_2.cell? (p.add 2)=some (I n)/\∃n_6,w'_2.cell? (p.add 3)=some (int .u64 n_6)/\Call prog 129 [pointer p_3,I n,int .u64 n_6] w'_2 fun e w'=>∃n,e=Z (I n)/\((n==0)->∃n_7,w'.cell? (p.add 2)=some (I n_7)/\Call prog 130 [pointer x,I n_7] w' fun e w'=>e=Z (tuple #[])/\CutD prog M66 c66_1 (e66_1 n) w' (k66_1 R))/\((n==0)=false->CutD prog M66 c66_1 (e66_1 n) w' (k66_1 R)))/\((n==8)=false->∃b,w'.cell? (p_2.add 4)=some (.bool b)/\∃n,w'.cell? (p.add 0)=some (I n)/\((!b==(n==7))->Call prog 61 [I 6] w' fun e w'=>∃p n c,e=Z (slice p n c)/\R (Z (slice p n c)) w')/\((!b==(n==7))=false->∃n,w'.cell? (p.add 0)=some (I n)/\((n==6)->∃n,w'.cell? (p.add 2)=some (I n)/\∃n_6,w'.cell? (p_2.add 0)=some (I n_6)/\∃n_7,w'.cell? (p_2.add 1)=some (int .u64 n_7)/\∃n_8,w'.cell? (p_2.add 2)=some (I n_8)/\∃b,w'.cell? (p_2.add 3)=some (.bool b)/\∃b_2,w'.cell? (p_2.add 4)=some (.bool b_2)/\∃n_9,w'.cell? (p_2.add 5)=some (I n_9)/\∃n_10,w'.cell? (p.add 4)=some (I n_10)/\Call prog 131 [pointer x,I n,agg #[I n_6,int .u64 n_7,I n_8,.bool b,.bool b_2,I n_9],I n_10] w' fun e w'=>∃n n_11,e=Z (tuple #[I n,I n_11])/\Call prog 64 [I n,I n_11] w' fun e w'=>∃p n c,e=Z (slice p n c)/\R (Z (slice p n c)) w')/\((n==6)=false->∃n,w'.cell? (p.add 0)=some (I n)/\((n==5)->Sm w' fun w'_2=>∃a,x=some a/\∃p_3,w'_2.cell? (add (a.add 0) 1)=some (pointer p_3)/\∃n,w'_2.cell? (p.add 2)=some (I n)/\Call prog 132 [pointer p_3,I n] w'_2 fun e w'=>∃n,e=Z (I n)/\Call prog 61 [I n] w' fun e w'=>∃p n c,e=Z (slice p n c)/\R (Z (slice p n c)) w')/\((n==5)=false->∃n,w'.cell? (p_2.add 5)=some (I n)/\Call prog 133 [pointer x,I n] w' fun e w'=>e=Z (tuple #[])/\∃n,w'.cell? (p.add 2)=some (I n)/\Call prog 134 [pointer x,I n] w' fun e w'=>e=Z (tuple #[])/\Call prog 61 [I 0] w' fun e w'=>∃p n c,e=Z (slice p n c)/\R (Z (slice p n c)) w'))))))))/\New w'_1 [I 0,int .u64 0,I 0,.bool false,.bool false,I 0] 250 fun p_2 w'=>w'.cell? (p.add 2)=some (I n)/\w'.cell? (add (a.add 0) 0)=some (pointer p_1)/\Call prog 127 [pointer p_1,I n] w' fun e w'=>∃n n_1 n_2 b b_1 n_3 n_4,e=Z (tuple #[agg #[I n,int .u64 n_1,I n_2,.bool b,.bool b_1,I n_3],I n_4])/\Wr w' p_2 [I n,int .u64 n_1,I n_2,.bool b,.bool b_1,I n_3] fun w'=>((n_4 !=0)->Call prog 61 [I n_4] w' fun e w'=>∃p n c,e=Z (slice p n c)/\R (Z (slice p n c)) w')/\((n_4 !=0)=false->∃n,w'.cell? (p.add 0)=some (I n)/\((n==9)->∃n,w'.cell? (p_2.add 2)=some (I n)/\Call prog 64 [I n,I 0] w' fun e w'=>∃p n c,e=Z (slice p n c)/\R (Z (slice p n c)) w')/\((n==9)=false->∃n,w'.cell? (p.add 0)=some (I n)/\((n==4)->∃n,w'.cell? (p.add 2)=some (I n)/\∃n_5,w'.cell? (p_2.add 0)=some (I n_5)/\∃n_6,w'.cell? (p_2.add 1)=some (int .u64 n_6)/\∃n_7,w'.cell? (p_2.add 2)=some (I n_7)/\∃b,w'.cell? (p_2.add 3)=some (.bool b)/\∃b_2,w'.cell? (p_2.add 4)=some (.bool b_2)/\∃n_8,w'.cell? (p_2.add 5)=some (I n_8)/\Call prog 128 [pointer x,I n,agg #[I n_5,int .u64 n_6,I n_7,.bool b,.bool b_2,I n_8]] w' fun e w'=>∃n,e=Z (I n)/\Call prog 61 [I n] w' fun e w'=>∃p n c,e=Z (slice p n c)/\R (Z (slice p n c)) w')/\((n==4)=false->∃n,w'.cell? (p.add 0)=some (I n)/\((n==8)->Sm w' fun w'_2=>∃a,x=some a/\∃p_3,w'_2.cell? (add (a.add 0) 0)=some (pointer p_3)/\∃n,w'_2.cell? (p.add 2)=some (I n)/\∃n_5,w'_2.cell? (p.add 3)=some (int .u64 n_5)/\Call prog 129 [pointer p_3,I n,int .u64 n_5] w'_2 fun e w'=>∃n,e=Z (I n)/\((n==0)->∃n_6,w'.cell? (p.add 2)=some (I n_6)/\Call prog 130 [pointer x,I n_6] w' fun e w'=>e=Z (tuple #[])/\CutD prog M66 c66_1 (e66_1 n) w' (k66_1 R))/\((n==0)=false->CutD prog M66 c66_1 (e66_1 n) w' (k66_1 R)))/\((n==8)=false->∃b,w'.cell? (p_2.add 4)=some (.bool b)/\∃n,w'.cell? (p.add 0)=some (I n)/\((!b==(n==7))->Call prog 61 [I 6] w' fun e w'=>∃p n c,e=Z (slice p n c)/\R (Z (slice p n c)) w')/\((!b==(n==7))=false->∃n,w'.cell? (p.add 0)=some (I n)/\((n==6)->∃n,w'.cell? (p.add 2)=some (I n)/\∃n_5,w'.cell? (p_2.add 0)=some (I n_5)/\∃n_6,w'.cell? (p_2.add 1)=some (int .u64 n_6)/\∃n_7,w'.cell? (p_2.add 2)=some (I n_7)/\∃b,w'.cell? (p_2.add 3)=some (.bool b)/\∃b_2,w'.cell? (p_2.add 4)=some (.bool b_2)/\∃n_8,w'.cell? (p_2.add 5)=some (I n_8)/\∃n_9,w'.cell? (p.add 4)=some (I n_9)/\Call prog 131 [pointer x,I n,agg #[I n_5,int .u64 n_6,I n_7,.bool b,.bool b_2,I n_8],I n_9] w' fun e w'=>∃n n_10,e=Z (tuple #[I n,I n_10])/\Call prog 64 [I n,I n_10] w' fun e w'=>∃p n c,e=Z (slice p n c)/\R (Z (slice p n c)) w')/\((n==6)=false->∃n,w'.cell? (p.add 0)=some (I n)/\((n==5)->Sm w' fun w'_2=>∃a,x=some a/\∃p_3,w'_2.cell? (add (a.add 0) 1)=some (pointer p_3)/\∃n,w'_2.cell? (p.add 2)=some (I n)/\Call prog 132 [pointer p_3,I n] w'_2 fun e w'=>∃n,e=Z (I n)/\Call prog 61 [I n] w' fun e w'=>∃p n c,e=Z (slice p n c)/\R (Z (slice p n c)) w')/\((n==5)=false->∃n,w'.cell? (p_2.add 5)=some (I n)/\Call prog 133 [pointer x,I n] w' fun e w'=>e=Z (tuple #[])/\∃n,w'.cell? (p.add 2)=some (I n)/\Call prog 134 [pointer x,I n] w' fun e w'=>e=Z (tuple #[])/\Call prog 61 [I 0] w' fun e w'=>∃p n c,e=Z (slice p n c)/\R (Z (slice p n c)) w')))))))):=by kernel_rfl
theorem t66_1 (x w R):den prog M66 c66_1 (e66_1 x) w (k66_1 R)=
(Call prog 61 [I x] w fun e w'=>∃p n c,e=Z (slice p n c)/\R (Z (slice p n c)) w'):=by kernel_rfl
def M67:Mt:={N:=79,keep:=kp 0 [[2,3],[2,3,5],[2,3,5,7],[2,3,5,7,8],[4],[2,3,5,7,23],[4],[2,3,5,7,36],[4],[2,3,7,51],[4],[2,3,61],[4],[4]],ords:=[(4,[0,1,2,3,4,5,6,7,8,9,11,10,12,13]),(6,[0,1,2,3,4,5,6,7,9,8,10,11]),(8,[0,1,2,3,4,5,6,7,8,9,11,10,12,13]),(10,[0,1,2,3,4,5,6,7,8]),(12,[0,1,2,3,4,5,6,7,8]),(13,[0,1,2,3,4,5,6,7,8])],bk:=[(0,[2,3])]}
noncomputable def c67:Code:=bodyOf f67
theorem u67 {a b c d e f w R}(h:den prog M67 c67 (argE 0 [a,agg #[b,c,d,e,f]]) w (Rt f67 R)):Calls prog 67 #[a,agg #[b,c,d,e,f]] w R:=u_ func67 (by kernel_rfl) h
theorem t67 (x x1 x2 x3 x4 x5 w R):den prog M67 c67 (argE 0 [(pointer x),(agg #[(int i64 x1),(int i64 x2),(int i64 x3),(int .u64 x4),(int i64 x5)])]) w (Rt f67 R)=
(New w [pointer x] 23 fun p w'=>New w' [I x1,I x2,I x3,int .u64 x4,I x5] 33 fun p_1 w'=>∃n,w'.cell? (p_1.add 0)=some (I n)/\((n==12)->Sm w' fun w'_1=>∃p_2,w'_1.cell? p=some (pointer p_2)/\∃a,p_2=some a/\∃p_3,w'_1.cell? (add (a.add 0) 3)=some (pointer p_3)/\∃n,w'_1.cell? (p_1.add 2)=some (I n)/\∃n_1,w'_1.cell? (p_1.add 3)=some (int .u64 n_1)/\Call prog 136 [pointer p_3,I n,int .u64 n_1] w'_1 fun e w'=>∃n,e=Z (I n)/\Call prog 135 [I n,func (Fn.func 137) #[] #[pointer (some p),pointer (some p_1)]] w' fun e w'=>∃n,e=Z (I n)/\R (Z (I n)) w')/\((n==12)=false->((n==13)->Sm w' fun w'_1=>∃p_2,w'_1.cell? p=some (pointer p_2)/\∃a,p_2=some a/\∃p_3,w'_1.cell? (add (a.add 0) 3)=some (pointer p_3)/\∃n,w'_1.cell? (p_1.add 2)=some (I n)/\Call prog 139 [pointer p_3,I n] w'_1 fun e w'=>∃n,e=Z (I n)/\Call prog 135 [I n,func (Fn.func 140) #[] #[pointer (some p),pointer (some p_1)]] w' fun e w'=>∃n,e=Z (I n)/\R (Z (I n)) w')/\((n==13)=false->((n==14)->Sm w' fun w'_1=>∃p_2,w'_1.cell? p=some (pointer p_2)/\∃a,p_2=some a/\∃p_3,w'_1.cell? (add (a.add 0) 3)=some (pointer p_3)/\∃n,w'_1.cell? (p_1.add 2)=some (I n)/\∃n_1,w'_1.cell? (p_1.add 3)=some (int .u64 n_1)/\Call prog 142 [pointer p_3,I n,int .u64 n_1] w'_1 fun e w'=>∃n,e=Z (I n)/\Call prog 135 [I n,func (Fn.func 143) #[] #[pointer (some p),pointer (some p_1)]] w' fun e w'=>∃n,e=Z (I n)/\R (Z (I n)) w')/\((n==14)=false->((n==15)->Sm w' fun w'_1=>∃p_2,w'_1.cell? p=some (pointer p_2)/\∃a,p_2=some a/\∃p,w'_1.cell? (add (a.add 0) 3)=some (pointer p)/\∃n,w'_1.cell? (p_1.add 2)=some (I n)/\Call prog 145 [pointer p,I n] w'_1 fun e w'=>∃n,e=Z (I n)/\R (Z (I n)) w')/\((n==15)=false->((n==16)->Sm w' fun w'_1=>∃p_2,w'_1.cell? p=some (pointer p_2)/\∃a,p_2=some a/\∃p,w'_1.cell? (add (a.add 0) 3)=some (pointer p)/\∃n,w'_1.cell? (p_1.add 2)=some (I n)/\Call prog 146 [pointer p,I n] w'_1 fun e w'=>∃n,e=Z (I n)/\R (Z (I n)) w')/\((n==16)=false->Sm w' fun w'_1=>∃p_2,w'_1.cell? p=some (pointer p_2)/\∃a,p_2=some a/\∃p,w'_1.cell? (add (a.add 0) 3)=some (pointer p)/\∃n,w'_1.cell? (p_1.add 2)=some (I n)/\Call prog 147 [pointer p,I n] w'_1 fun e w'=>∃n,e=Z (I n)/\R (Z (I n)) w')))))):=by kernel_rfl
def M69:Mt:={N:=88,keep:=kp 0 [[0,3],[0,3,5],[0,3,5,11],[4],[0,3,15],[0,3,15,16],[4],[0,3,15,27],[4],[0,3,15,40],[4],[0,3,15,53],[4],[0,3,66],[4],[4]],ords:=[(8,[0,1,2,3,4,5,6,7,8,9,10,11]),(10,[0,1,2,3,4,5,6,7,8,9,10,11]),(12,[0,1,2,3,4,5,6,7,8,9,10,11]),(14,[0,1,2,3,4,5,6,7,8,9,10,11]),(15,[0,1,2,3,4,5,6,7,8,9])],bk:=[(0,[0,3])]}
noncomputable def c69:Code:=bodyOf f69
theorem u69 {a b c d e f w R}(h:den prog M69 c69 (argE 0 [a,agg #[b,c,d,e,f]]) w (Rt f69 R)):Calls prog 69 #[a,agg #[b,c,d,e,f]] w R:=u_ func69 (by kernel_rfl) h
theorem t69 (x x1 x2 x3 x4 x5 w R):den prog M69 c69 (argE 0 [(pointer x),(agg #[(int i64 x1),(int i64 x2),(int i64 x3),(int .u64 x4),(int i64 x5)])]) w (Rt f69 R)=
(New w [I x1,I x2,I x3,int .u64 x4,I x5] 33 fun p w'=>∃n,w'.cell? (p.add 1)=some (I n)/\Call prog 152 [pointer x,I n] w' fun e w'=>∃n,e=Z (I n)/\((n !=0)->Call prog 61 [I n] w' fun e w'=>∃p n c,e=Z (slice p n c)/\R (Z (slice p n c)) w')/\((n !=0)=false->∃n,w'.cell? (p.add 0)=some (I n)/\((n==10)->∃n,w'.cell? (p.add 1)=some (I n)/\∃n_1,w'.cell? (p.add 4)=some (I n_1)/\Call prog 153 [pointer x,I n,I n_1] w' fun e w'=>∃n n_2,e=Z (tuple #[I n,I n_2])/\Call prog 64 [I n,I n_2] w' fun e w'=>∃p n c,e=Z (slice p n c)/\R (Z (slice p n c)) w')/\((n==10)=false->((n==18)->Sm w' fun w'_1=>∃a,x=some a/\∃p_1,w'_1.cell? (add (a.add 0) 5)=some (pointer p_1)/\∃n,w'_1.cell? (p.add 1)=some (I n)/\Call prog 68 [pointer p_1,I n] w'_1 fun e w'=>∃n n_1,e=Z (tuple #[I n,I n_1])/\Call prog 64 [I n,I n_1] w' fun e w'=>∃p n c,e=Z (slice p n c)/\R (Z (slice p n c)) w')/\((n==18)=false->((n==20)->Sm w' fun w'_1=>∃a,x=some a/\∃p_1,w'_1.cell? (add (a.add 0) 6)=some (pointer p_1)/\∃n,w'_1.cell? (p.add 1)=some (I n)/\Call prog 154 [pointer p_1,I n] w'_1 fun e w'=>∃n n_1,e=Z (tuple #[I n,I n_1])/\Call prog 64 [I n,I n_1] w' fun e w'=>∃p n c,e=Z (slice p n c)/\R (Z (slice p n c)) w')/\((n==20)=false->((n==21)->Sm w' fun w'_1=>∃a,x=some a/\∃p_1,w'_1.cell? (add (a.add 0) 7)=some (pointer p_1)/\∃n,w'_1.cell? (p.add 1)=some (I n)/\Call prog 155 [pointer p_1,I n] w'_1 fun e w'=>∃n n_1,e=Z (tuple #[I n,I n_1])/\Call prog 64 [I n,I n_1] w' fun e w'=>∃p n c,e=Z (slice p n c)/\R (Z (slice p n c)) w')/\((n==21)=false->((n==22)->Sm w' fun w'_1=>∃a,x=some a/\∃p_1,w'_1.cell? (add (a.add 0) 7)=some (pointer p_1)/\∃n,w'_1.cell? (p.add 1)=some (I n)/\∃n_1,w'_1.cell? (p.add 2)=some (I n_1)/\Call prog 156 [pointer p_1,I n,I n_1] w'_1 fun e w'=>∃n,e=Z (I n)/\Call prog 61 [I n] w' fun e w'=>∃p n c,e=Z (slice p n c)/\R (Z (slice p n c)) w')/\((n==22)=false->Sm w' fun w'_1=>∃a,x=some a/\∃p_1,w'_1.cell? (add (a.add 0) 9)=some (pointer p_1)/\∃n,w'_1.cell? (p.add 1)=some (I n)/\Call prog 157 [pointer p_1,I n] w'_1 fun e w'=>∃n,e=Z (I n)/\Call prog 61 [I n] w' fun e w'=>∃p n c,e=Z (slice p n c)/\R (Z (slice p n c)) w'))))))):=by kernel_rfl
def M70:Mt:={N:=82,keep:=kp 0 [[0,1,2],[0,1,2,7],[0,1,2,7,16],[6],[0,1,2,7,27],[6],[0,1,2,7,34],[6],[0,1,2,39],[6],[0,1,2,46],[6],[0,1,2,8],[0,1,2,8],[6]],bk:=[(0,[0,1,2])],cuts:=[(12,[0,1,2])]}
noncomputable def c70:Code:=bodyOf f70
noncomputable def c70_0:Code:=c70.sr.sr.sr
def e70_0 (x:Option Addr) (x1:Bool) (x2:Int):Env:=[(0,SV.v (pointer x)),(1,SV.v (.bool x1)),(2,SV.v (int i64 x2))]
def k70_0 (R:RT):=Rt f70 R
theorem u70:UT 70 M70 c70 f70:=fun h i=>u_ func70 (by kernel_rfl) h i
theorem t70 (x x1 x2 w R):den prog M70 c70 (argE 0 [(pointer x),(.bool x1),(int i64 x2)]) w (Rt f70 R)=
(∃a,x=some a/\∃n,w.cell? (a.add 16)=some (int .u64 n)/\Call prog 23 [int .u64 n,I x2] w fun e w'=>∃b,e=Z (.bool b)/\(decide (x2<0)=false->∃a,x=some a/\∃n,w'.cell? (a.add 15)=some (I n)/\(decide (x2>=n)->R (Z (I 3)) w')/\(decide (x2>=n)=false->∃a,x=some a/\∃p,w'.cell? (add (a.add 0) 11)=some (pointer p)/\Call prog 99 [pointer p] w' fun e w'=>∃b_1,e=Z (.bool b_1)/\(b_1->R (Z (I 7)) w')/\(b_1=false->(x1->(b->R (Z (I 8)) w')/\(b=false->((!x1)->((!b)->R (Z (I 9)) w')/\((!b)=false->((!x1)->∃a,x=some a/\∃n,w'.cell? (a.add 16)=some (int .u64 n)/\Call prog 24 [int .u64 n] w' fun e w'=>∃n,e=Z (I n)/\((n==1)->R (Z (I 10)) w')/\((n==1)=false->CutD prog M70 c70_0 (e70_0 x x1 x2) w' (k70_0 R)))/\((!x1)=false->CutD prog M70 c70_0 (e70_0 x x1 x2) w' (k70_0 R))))/\((!x1)=false->((!x1)->∃a,x=some a/\∃n,w'.cell? (a.add 16)=some (int .u64 n)/\Call prog 24 [int .u64 n] w' fun e w'=>∃n,e=Z (I n)/\((n==1)->R (Z (I 10)) w')/\((n==1)=false->CutD prog M70 c70_0 (e70_0 x x1 x2) w' (k70_0 R)))/\((!x1)=false->CutD prog M70 c70_0 (e70_0 x x1 x2) w' (k70_0 R)))))/\(x1=false->((!x1)->((!b)->R (Z (I 9)) w')/\((!b)=false->((!x1)->∃a,x=some a/\∃n,w'.cell? (a.add 16)=some (int .u64 n)/\Call prog 24 [int .u64 n] w' fun e w'=>∃n,e=Z (I n)/\((n==1)->R (Z (I 10)) w')/\((n==1)=false->CutD prog M70 c70_0 (e70_0 x x1 x2) w' (k70_0 R)))/\((!x1)=false->CutD prog M70 c70_0 (e70_0 x x1 x2) w' (k70_0 R))))/\((!x1)=false->((!x1)->∃a,x=some a/\∃n,w'.cell? (a.add 16)=some (int .u64 n)/\Call prog 24 [int .u64 n] w' fun e w'=>∃n,e=Z (I n)/\((n==1)->R (Z (I 10)) w')/\((n==1)=false->CutD prog M70 c70_0 (e70_0 x x1 x2) w' (k70_0 R)))/\((!x1)=false->CutD prog M70 c70_0 (e70_0 x x1 x2) w' (k70_0 R)))))))/\(decide (x2<0)->R (Z (I 3)) w')):=by kernel_rfl
theorem t70_0 (x x1 x2 w R):den prog M70 c70_0 (e70_0 x x1 x2) w (k70_0 R)=
(∃a,x=some a/\∃n,w.cell? (a.add 17)=some (int .u64 n)/\Call prog 158 [int .u64 n,I x2] w fun e w'=>∃n,e=Z (int .u64 n)/\Call prog 159 [int .u64 n] w' fun e w'=>∃n n_1,e=Z (tuple #[I n,I n_1])/\∃a,x=some a/\∃p,w'.cell? (add (a.add 0) 9)=some (pointer p)/\Call prog 160 [pointer p] w' fun e w'=>∃n_2,e=Z (I n_2)/\∃a,x=some a/\∃p,w'.cell? (add (a.add 0) 11)=some (pointer p)/\Call prog 161 [pointer p,.bool x1,I x2,I n] w' fun e w'=>∃n,e=Z (I n)/\R (Z (I n)) w'):=by kernel_rfl
def M71:Mt:={N:=63,keep:=kp 0 [[0,3],[0,3,6],[0,3,6,7],[4],[0,3,6,14],[4],[0,3,6,23],[4],[0,3,6,30],[4],[0,3,6,41],[4],[0,3,6,48],[4],[0,57],[4],[4]],ords:=[(9,[0,1,2,3,4,5,6,7,8,9])],bk:=[(0,[])]}
noncomputable def c71:Code:=bodyOf f71
theorem u71 {a b c d e f w R}(h:den prog M71 c71 (argE 0 [a,agg #[b,c,d,e,f]]) w (Rt f71 R)):Calls prog 71 #[a,agg #[b,c,d,e,f]] w R:=u_ func71 (by kernel_rfl) h
theorem t71 (x x1 x2 x3 x4 x5 w R):den prog M71 c71 (argE 0 [(pointer x),(agg #[(int i64 x1),(int i64 x2),(int i64 x3),(int .u64 x4),(int i64 x5)])]) w (Rt f71 R)=
(New w [I x1,I x2,I x3,int .u64 x4,I x5] 33 fun p w'=>∃n,w'.cell? (p.add 0)=some (I n)/\((n==11)->∃n,w'.cell? (p.add 2)=some (I n)/\Call prog 162 [pointer x,I n] w' fun e w'=>∃n,e=Z (I n)/\Call prog 61 [I n] w' fun e w'=>∃p n c,e=Z (slice p n c)/\R (Z (slice p n c)) w')/\((n==11)=false->((n==19)->∃n,w'.cell? (p.add 2)=some (I n)/\Call prog 163 [pointer x,I n] w' fun e w'=>∃n n_1,e=Z (tuple #[I n,I n_1])/\Call prog 64 [I n,I n_1] w' fun e w'=>∃p n c,e=Z (slice p n c)/\R (Z (slice p n c)) w')/\((n==19)=false->((n==25)->∃n,w'.cell? (p.add 4)=some (I n)/\Call prog 164 [pointer x,I n] w' fun e w'=>∃n,e=Z (I n)/\Call prog 61 [I n] w' fun e w'=>∃p n c,e=Z (slice p n c)/\R (Z (slice p n c)) w')/\((n==25)=false->((n==27)->Sm w' fun w'_1=>∃a,x=some a/\∃p_1,w'_1.cell? (add (a.add 0) 9)=some (pointer p_1)/\∃n,w'_1.cell? (p.add 1)=some (I n)/\Call prog 165 [pointer p_1,I n] w'_1 fun e w'=>∃n,e=Z (I n)/\Call prog 61 [I n] w' fun e w'=>∃p n c,e=Z (slice p n c)/\R (Z (slice p n c)) w')/\((n==27)=false->((n==28)->∃n,w'.cell? (p.add 4)=some (I n)/\Call prog 166 [pointer x,I n] w' fun e w'=>∃n,e=Z (I n)/\Call prog 61 [I n] w' fun e w'=>∃p n c,e=Z (slice p n c)/\R (Z (slice p n c)) w')/\((n==28)=false->((n==29)->∃n,w'.cell? (p.add 2)=some (I n)/\∃n_1,w'.cell? (p.add 4)=some (I n_1)/\Call prog 167 [pointer x,I n,I n_1] w' fun e w'=>∃n,e=Z (I n)/\Call prog 61 [I n] w' fun e w'=>∃p n c,e=Z (slice p n c)/\R (Z (slice p n c)) w')/\((n==29)=false->((n==30)->Call prog 168 [pointer x] w' fun e w'=>∃n,e=Z (I n)/\Call prog 64 [I n,I 0] w' fun e w'=>∃p n c,e=Z (slice p n c)/\R (Z (slice p n c)) w')/\((n==30)=false->Call prog 61 [I 2] w' fun e w'=>∃p n c,e=Z (slice p n c)/\R (Z (slice p n c)) w')))))))):=by kernel_rfl
def M72:Mt:={N:=10,keep:=kp 0 [[0,2],[0,2,4],[2],[2]]}
noncomputable def c72:Code:=bodyOf f72
theorem u72:UT 72 M72 c72 f72:=fun h i=>u_ func72 (by kernel_rfl) h i
theorem t72 (x w R):den prog M72 c72 (argE 0 [(pointer x)]) w (Rt f72 R)=
(New w [pointer none,pointer none,pointer none,pointer none,pointer none,pointer none,pointer none,pointer none,pointer none,pointer none,pointer none,pointer none,pointer none,pointer none,N3] 92 fun p w'=>(x.isNone->Wr w' p [pointer none,pointer none,pointer none,pointer none,pointer none,pointer none,pointer none,pointer none,pointer none,pointer none,pointer none,pointer none,pointer none,pointer none,N3] fun w'=>∃p_1,w'.cell? (p.add 0)=some (pointer p_1)/\∃p_2,w'.cell? (p.add 1)=some (pointer p_2)/\∃p_3,w'.cell? (p.add 2)=some (pointer p_3)/\∃p_4,w'.cell? (p.add 3)=some (pointer p_4)/\∃p_5,w'.cell? (p.add 4)=some (pointer p_5)/\∃p_6,w'.cell? (p.add 5)=some (pointer p_6)/\∃p_7,w'.cell? (p.add 6)=some (pointer p_7)/\∃p_8,w'.cell? (p.add 7)=some (pointer p_8)/\∃p_9,w'.cell? (p.add 8)=some (pointer p_9)/\∃p_10,w'.cell? (p.add 9)=some (pointer p_10)/\∃p_11,w'.cell? (p.add 10)=some (pointer p_11)/\∃p_12,w'.cell? (p.add 11)=some (pointer p_12)/\∃p_13,w'.cell? (p.add 12)=some (pointer p_13)/\∃p_14,w'.cell? (p.add 13)=some (pointer p_14)/\∃p_15 n c,w'.cell? (p.add 14)=some (slice p_15 n c)/\R (Z (agg #[pointer p_1,pointer p_2,pointer p_3,pointer p_4,pointer p_5,pointer p_6,pointer p_7,pointer p_8,pointer p_9,pointer p_10,pointer p_11,pointer p_12,pointer p_13,pointer p_14,slice p_15 n c])) w')/\(x.isNone=false->∃a,x=some a/\∃p_1,w'.cell? (add (a.add 0) 0)=some (pointer p_1)/\∃p_2,w'.cell? (add (a.add 0) 1)=some (pointer p_2)/\∃p_3,w'.cell? (add (a.add 0) 2)=some (pointer p_3)/\∃p_4,w'.cell? (add (a.add 0) 3)=some (pointer p_4)/\∃p_5,w'.cell? (add (a.add 0) 4)=some (pointer p_5)/\∃p_6,w'.cell? (add (a.add 0) 5)=some (pointer p_6)/\∃p_7,w'.cell? (add (a.add 0) 6)=some (pointer p_7)/\∃p_8,w'.cell? (add (a.add 0) 7)=some (pointer p_8)/\∃p_9,w'.cell? (add (a.add 0) 8)=some (pointer p_9)/\∃p_10,w'.cell? (add (a.add 0) 9)=some (pointer p_10)/\∃p_11,w'.cell? (add (a.add 0) 10)=some (pointer p_11)/\∃p_12,w'.cell? (add (a.add 0) 11)=some (pointer p_12)/\∃p_13,w'.cell? (add (a.add 0) 12)=some (pointer p_13)/\∃p_14,w'.cell? (add (a.add 0) 13)=some (pointer p_14)/\∃p_15 n c,w'.cell? (add (a.add 0) 14)=some (slice p_15 n c)/\Wr w' p [pointer p_1,pointer p_2,pointer p_3,pointer p_4,pointer p_5,pointer p_6,pointer p_7,pointer p_8,pointer p_9,pointer p_10,pointer p_11,pointer p_12,pointer p_13,pointer p_14,slice p_15 n c] fun w'=>∃p_16,w'.cell? (p.add 0)=some (pointer p_16)/\∃p_17,w'.cell? (p.add 1)=some (pointer p_17)/\∃p_18,w'.cell? (p.add 2)=some (pointer p_18)/\∃p_19,w'.cell? (p.add 3)=some (pointer p_19)/\∃p_20,w'.cell? (p.add 4)=some (pointer p_20)/\∃p_21,w'.cell? (p.add 5)=some (pointer p_21)/\∃p_22,w'.cell? (p.add 6)=some (pointer p_22)/\∃p_23,w'.cell? (p.add 7)=some (pointer p_23)/\∃p_24,w'.cell? (p.add 8)=some (pointer p_24)/\∃p_25,w'.cell? (p.add 9)=some (pointer p_25)/\∃p_26,w'.cell? (p.add 10)=some (pointer p_26)/\∃p_27,w'.cell? (p.add 11)=some (pointer p_27)/\∃p_28,w'.cell? (p.add 12)=some (pointer p_28)/\∃p_29,w'.cell? (p.add 13)=some (pointer p_29)/\∃p_30 n c,w'.cell? (p.add 14)=some (slice p_30 n c)/\R (Z (agg #[pointer p_16,pointer p_17,pointer p_18,pointer p_19,pointer p_20,pointer p_21,pointer p_22,pointer p_23,pointer p_24,pointer p_25,pointer p_26,pointer p_27,pointer p_28,pointer p_29,slice p_30 n c])) w')):=by kernel_rfl
def M115:Mt:={N:=89,keep:=kp 0 [[0,1,4],[0,1,4,6],[4]],ords:=[(2,[0,1,2,3,4,5,7,8,9,10,11,12,14,15,16,17,18,30,31,32,33,34,36,37,38,39,40,41,44,45,46,47,48,49,50,52,53,54,55,56,57,59,60,61,62,63,67,68,69,70,71,72,6,13,19,20,21,22,23,24,25,27,26,28,29,35,42,43,51,58,64,65,66,73,74,75,76])]}
noncomputable def c115:Code:=bodyOf f115
theorem u115:UT 115 M115 c115 f115:=fun h i=>u_ func115 (by kernel_rfl) h i
theorem t115 (x x1 w R):den prog M115 c115 (argE 0 [(pointer x),(int i64 x1)]) w (Rt f115 R)=
(New w [.bool false,.bool false,.bool false,.bool false,.bool false,.bool false,.bool false,.bool false,.bool false] 240 fun p w'=>Call prog 201 [pointer x,I x1] w' fun e w'=>∃n b,e=Z (tuple #[I n,.bool b])/\Sm w' fun w'_1=>∃a,x=some a/\∃p_1,w'_1.cell? (add (a.add 0) 10)=some (pointer p_1)/\∃a,x=some a/\∃p_2,w'_1.cell? (add (a.add 0) 10)=some (pointer p_2)/\∃a_1,x=some a_1/\∃p_3,w'_1.cell? (add (a_1.add 0) 11)=some (pointer p_3)/\∃a_2,x=some a_2/\∃n,w'_1.cell? (a_2.add 17)=some (int .u64 n)/\∃a_3,x=some a_3/\∃p_4,w'_1.cell? (add (a_3.add 0) 6)=some (pointer p_4)/\∃a_4,x=some a_4/\∃p_5,w'_1.cell? (add (a_4.add 0) 2)=some (pointer p_5)/\∃a_5,x=some a_5/\∃p_6,w'_1.cell? (add (a_5.add 0) 5)=some (pointer p_6)/\∃a_6,x=some a_6/\∃p_7,w'_1.cell? (add (a_6.add 0) 5)=some (pointer p_7)/\∃a_7,x=some a_7/\∃p_8,w'_1.cell? (add (a_7.add 0) 1)=some (pointer p_8)/\Call prog 202 [pointer p_1,I x1] w'_1 fun e w'=>∃b_1,e=Z (.bool b_1)/\w'.cell? (add (a_7.add 0) 1)=some (pointer p_8)/\w'.cell? (add (a_6.add 0) 5)=some (pointer p_7)/\w'.cell? (add (a_5.add 0) 5)=some (pointer p_6)/\w'.cell? (add (a_4.add 0) 2)=some (pointer p_5)/\w'.cell? (add (a_3.add 0) 6)=some (pointer p_4)/\w'.cell? (a_2.add 17)=some (int .u64 n)/\w'.cell? (add (a_1.add 0) 11)=some (pointer p_3)/\w'.cell? (add (a.add 0) 10)=some (pointer p_2)/\Call prog 203 [pointer p_2,I x1] w' fun e w'=>∃b_2,e=Z (.bool b_2)/\w'.cell? (add (a_7.add 0) 1)=some (pointer p_8)/\w'.cell? (add (a_6.add 0) 5)=some (pointer p_7)/\w'.cell? (add (a_5.add 0) 5)=some (pointer p_6)/\w'.cell? (add (a_4.add 0) 2)=some (pointer p_5)/\w'.cell? (add (a_3.add 0) 6)=some (pointer p_4)/\w'.cell? (a_2.add 17)=some (int .u64 n)/\w'.cell? (add (a_1.add 0) 11)=some (pointer p_3)/\Call prog 99 [pointer p_3] w' fun e w'=>∃b_3,e=Z (.bool b_3)/\w'.cell? (add (a_7.add 0) 1)=some (pointer p_8)/\w'.cell? (add (a_6.add 0) 5)=some (pointer p_7)/\w'.cell? (add (a_5.add 0) 5)=some (pointer p_6)/\w'.cell? (add (a_4.add 0) 2)=some (pointer p_5)/\w'.cell? (add (a_3.add 0) 6)=some (pointer p_4)/\w'.cell? (a_2.add 17)=some (int .u64 n)/\(b_3->∃a,x=some a/\∃p_9,w'.cell? (add (a.add 0) 11)=some (pointer p_9)/\Call prog 102 [pointer p_9] w' fun e w'=>∃n_1,e=Z (I n_1)/\w'.cell? (add (a_7.add 0) 1)=some (pointer p_8)/\w'.cell? (add (a_6.add 0) 5)=some (pointer p_7)/\w'.cell? (add (a_5.add 0) 5)=some (pointer p_6)/\w'.cell? (add (a_4.add 0) 2)=some (pointer p_5)/\w'.cell? (add (a_3.add 0) 6)=some (pointer p_4)/\w'.cell? (a_2.add 17)=some (int .u64 n)/\Call prog 23 [int .u64 n,I x1] w' fun e w'=>∃b_4,e=Z (.bool b_4)/\w'.cell? (add (a_7.add 0) 1)=some (pointer p_8)/\w'.cell? (add (a_6.add 0) 5)=some (pointer p_7)/\w'.cell? (add (a_5.add 0) 5)=some (pointer p_6)/\w'.cell? (add (a_4.add 0) 2)=some (pointer p_5)/\w'.cell? (add (a_3.add 0) 6)=some (pointer p_4)/\Call prog 204 [pointer p_4,I x1] w' fun e w'=>∃n,e=Z (I n)/\w'.cell? (add (a_7.add 0) 1)=some (pointer p_8)/\w'.cell? (add (a_6.add 0) 5)=some (pointer p_7)/\w'.cell? (add (a_5.add 0) 5)=some (pointer p_6)/\w'.cell? (add (a_4.add 0) 2)=some (pointer p_5)/\Call prog 205 [pointer p_5,I x1] w' fun e w'=>∃b_5,e=Z (.bool b_5)/\w'.cell? (add (a_7.add 0) 1)=some (pointer p_8)/\w'.cell? (add (a_6.add 0) 5)=some (pointer p_7)/\w'.cell? (add (a_5.add 0) 5)=some (pointer p_6)/\Call prog 170 [pointer p_6,I x1] w' fun e w'=>∃n_2,e=Z (I n_2)/\w'.cell? (add (a_7.add 0) 1)=some (pointer p_8)/\w'.cell? (add (a_6.add 0) 5)=some (pointer p_7)/\Call prog 170 [pointer p_7,I (-1:Int)] w' fun e w'=>∃n_3,e=Z (I n_3)/\w'.cell? (add (a_7.add 0) 1)=some (pointer p_8)/\Call prog 14 [pointer p_8,I x1] w' fun e w'=>∃n_4,e=Z (I n_4)/\Wr w' p [.bool b_1,.bool b_2,.bool (n_1==x1),.bool b_4,.bool (decide (n>0)),.bool b,.bool b_5,.bool (decide (wrap i64 (n_2+n_3)>0)),.bool (decide (n_4>0))] fun w'=>∃b,w'.cell? (p.add 0)=some (.bool b)/\∃b_6,w'.cell? (p.add 1)=some (.bool b_6)/\∃b_7,w'.cell? (p.add 2)=some (.bool b_7)/\∃b_8,w'.cell? (p.add 3)=some (.bool b_8)/\∃b_9,w'.cell? (p.add 4)=some (.bool b_9)/\∃b_10,w'.cell? (p.add 5)=some (.bool b_10)/\∃b_11,w'.cell? (p.add 6)=some (.bool b_11)/\∃b_12,w'.cell? (p.add 7)=some (.bool b_12)/\∃b_13,w'.cell? (p.add 8)=some (.bool b_13)/\R (Z (agg #[.bool b,.bool b_6,.bool b_7,.bool b_8,.bool b_9,.bool b_10,.bool b_11,.bool b_12,.bool b_13])) w')/\(b_3=false->Call prog 23 [int .u64 n,I x1] w' fun e w'=>∃b_4,e=Z (.bool b_4)/\w'.cell? (add (a_7.add 0) 1)=some (pointer p_8)/\w'.cell? (add (a_6.add 0) 5)=some (pointer p_7)/\w'.cell? (add (a_5.add 0) 5)=some (pointer p_6)/\w'.cell? (add (a_4.add 0) 2)=some (pointer p_5)/\w'.cell? (add (a_3.add 0) 6)=some (pointer p_4)/\Call prog 204 [pointer p_4,I x1] w' fun e w'=>∃n,e=Z (I n)/\w'.cell? (add (a_7.add 0) 1)=some (pointer p_8)/\w'.cell? (add (a_6.add 0) 5)=some (pointer p_7)/\w'.cell? (add (a_5.add 0) 5)=some (pointer p_6)/\w'.cell? (add (a_4.add 0) 2)=some (pointer p_5)/\Call prog 205 [pointer p_5,I x1] w' fun e w'=>∃b_5,e=Z (.bool b_5)/\w'.cell? (add (a_7.add 0) 1)=some (pointer p_8)/\w'.cell? (add (a_6.add 0) 5)=some (pointer p_7)/\w'.cell? (add (a_5.add 0) 5)=some (pointer p_6)/\Call prog 170 [pointer p_6,I x1] w' fun e w'=>∃n_1,e=Z (I n_1)/\w'.cell? (add (a_7.add 0) 1)=some (pointer p_8)/\w'.cell? (add (a_6.add 0) 5)=some (pointer p_7)/\Call prog 170 [pointer p_7,I (-1:Int)] w' fun e w'=>∃n_2,e=Z (I n_2)/\w'.cell? (add (a_7.add 0) 1)=some (pointer p_8)/\Call prog 14 [pointer p_8,I x1] w' fun e w'=>∃n_3,e=Z (I n_3)/\Wr w' p [.bool b_1,.bool b_2,.bool false,.bool b_4,.bool (decide (n>0)),.bool b,.bool b_5,.bool (decide (wrap i64 (n_1+n_2)>0)),.bool (decide (n_3>0))] fun w'=>∃b,w'.cell? (p.add 0)=some (.bool b)/\∃b_6,w'.cell? (p.add 1)=some (.bool b_6)/\∃b_7,w'.cell? (p.add 2)=some (.bool b_7)/\∃b_8,w'.cell? (p.add 3)=some (.bool b_8)/\∃b_9,w'.cell? (p.add 4)=some (.bool b_9)/\∃b_10,w'.cell? (p.add 5)=some (.bool b_10)/\∃b_11,w'.cell? (p.add 6)=some (.bool b_11)/\∃b_12,w'.cell? (p.add 7)=some (.bool b_12)/\∃b_13,w'.cell? (p.add 8)=some (.bool b_13)/\R (Z (agg #[.bool b,.bool b_6,.bool b_7,.bool b_8,.bool b_9,.bool b_10,.bool b_11,.bool b_12,.bool b_13])) w')):=by kernel_rfl
def M119:Mt:={N:=67,keep:=kp 0 [[0,1],[0,1,5],[0,1,5,6],[0,5,34],[0,5],[0,5,47],[4],[0,5,8],[5,8],[4]],cuts:=[(5,[0,5])]}
noncomputable def c119:Code:=bodyOf f119
noncomputable def c119_0:Code:=c119.sr.sr.sr
def e119_0 (x:Option Addr) (x1:Int):Env:=[(0,SV.v (pointer x)),(5,SV.v (int i64 x1))]
def k119_0 (R:RT):=Rt f119 R
theorem u119:UT 119 M119 c119 f119:=fun h i=>u_ func119 (by kernel_rfl) h i
theorem t119 (x x1 w R):den prog M119 c119 (argE 0 [(pointer x),(int i64 x1)]) w (Rt f119 R)=
(∃a,x=some a/\∃p,w.cell? (add (a.add 0) 11)=some (pointer p)/\Call prog 101 [pointer p] w fun e w'=>∃n,e=Z (I n)/\∃a,x=some a/\∃p,w'.cell? (add (a.add 0) 11)=some (pointer p)/\Call prog 208 [pointer p] w' fun e w'=>∃n_1 b b_1 n_2,e=Z (tuple #[agg #[I n_1,.bool b,.bool b_1],I n_2])/\New w' [I 0,.bool false,.bool false] 303 fun p w'=>Wr w' p [I n_1,.bool b,.bool b_1] fun w'=>∃b,w'.cell? (p.add 2)=some (.bool b)/\((!b)->∃n_3,w'.cell? (p.add 0)=some (I n_3)/\∃b,w'.cell? (p.add 1)=some (.bool b)/\∃b_2,w'.cell? (p.add 2)=some (.bool b_2)/\Call prog 209 [pointer x,agg #[I n_3,.bool b,.bool b_2],I n,I x1] w' fun e w'=>∃b,e=Z (.bool b)/\(b->∃a,x=some a/\∃p,w'.cell? (add (a.add 0) 11)=some (pointer p)/\Call prog 210 [pointer p] w' fun e w'=>∃n_4,e=Z (I n_4)/\CutD prog M119 c119_0 (e119_0 x n) w' (k119_0 R))/\(b=false->CutD prog M119 c119_0 (e119_0 x n) w' (k119_0 R)))/\((!b)=false->CutD prog M119 c119_0 (e119_0 x n) w' (k119_0 R))):=by kernel_rfl
theorem t119_0 (x x1 w R):den prog M119 c119_0 (e119_0 x x1) w (k119_0 R)=
(∃a,x=some a/\∃p,w.cell? (add (a.add 0) 11)=some (pointer p)/\Call prog 211 [pointer p] w fun e w'=>∃b,e=Z (.bool b)/\((!b)->R (Z (N3)) w')/\((!b)=false->∃a,x=some a/\∃p,w'.cell? (add (a.add 0) 11)=some (pointer p)/\Call prog 212 [pointer p] w' fun e w'=>∃n n_1,e=Z (tuple #[I n,I n_1])/\∃a,x=some a/\∃p,w'.cell? (add (a.add 0) 9)=some (pointer p)/\Call prog 213 [pointer p] w' fun e w'=>∃n_2,e=Z (I n_2)/\New w' [I 7,I x1,I 0,I 0,I n] 43 fun p w'=>R (Z (slice (some p) 1 1)) w')):=by kernel_rfl
def M120:Mt:={N:=43,keep:=kp 0 [[0,1,4,5],[0,1,6],[]],ords:=[(2,[0,1,2,3,4,5,7,8,9,10,11,13,14,15,16,6,12,17])]}
noncomputable def c120:Code:=bodyOf f120
theorem u120:UT 120 M120 c120 f120:=fun h i=>u_ func120 (by kernel_rfl) h i
theorem t120 (x x1 w R):den prog M120 c120 (argE 0 [(pointer x),(int i64 x1)]) w (Rt f120 R)=
(∃a,x=some a/\∃p,w.cell? (add (a.add 0) 2)=some (pointer p)/\Call prog 214 [pointer p,I x1] w fun e w'=>∃n n_1,e=Z (tuple #[I n,I n_1])/\∃a,x=some a/\∃n_2,w'.cell? (a.add 18)=some (I n_2)/\Call prog 215 [I n_2,I n,.bool (n_1==0)] w' fun e w'=>∃n,e=Z (I n)/\Sm w' fun w'_1=>∃a,x=some a/\∃p,w'_1.cell? (add (a.add 0) 12)=some (pointer p)/\∃a_1,x=some a_1/\∃n_3,w'_1.cell? (a_1.add 19)=some (I n_3)/\∃a_2,x=some a_2/\∃n_4,w'_1.cell? (a_2.add 18)=some (I n_4)/\Call prog 218 [] w'_1 fun e w'=>∃p_1 n_5 c,e=Z (slice p_1 n_5 c)/\w'.cell? (a_2.add 18)=some (I n_4)/\w'.cell? (a_1.add 19)=some (I n_3)/\w'.cell? (add (a.add 0) 12)=some (pointer p)/\Call prog 217 [slice p_1 n_5 c,I n,I n_3] w' fun e w'=>∃n,e=Z (I n)/\w'.cell? (a_2.add 18)=some (I n_4)/\w'.cell? (add (a.add 0) 12)=some (pointer p)/\Call prog 216 [pointer p,I x1,I n,I n_4] w' fun e w'=>∃n,e=Z (I n)/\R (Z (tuple #[])) w'):=by kernel_rfl
def M121:Mt:={N:=86,keep:=kp 0 [[0,1,2],[0,1,15],[0,1,15,16],[0,1,7],[6],[0,1,15,32],[0,1,9],[0,1,9],[6],[0,1,15,51],[6],[0,1,56],[0,1,11],[6],[0,1,13],[6]],bk:=[(0,[0,1])]}
noncomputable def c121:Code:=bodyOf f121
theorem u121:UT 121 M121 c121 f121:=fun h i=>u_ func121 (by kernel_rfl) h i
theorem t121 (x x1 x2 w R):den prog M121 c121 (argE 0 [(pointer x),(int i64 x1),(int i64 x2)]) w (Rt f121 R)=
(((x2==4)->∃a,x=some a/\∃p,w.cell? (add (a.add 0) 6)=some (pointer p)/\Call prog 219 [pointer p,I x1] w fun e w'=>∃n n_1,e=Z (tuple #[I n,I n_1])/\Call prog 220 [pointer x,I x1,I 6,I n,I 0] w' fun e w'=>∃p n c,e=Z (slice p n c)/\R (Z (slice p n c)) w')/\((x2==4)=false->((x2==5)->Call prog 201 [pointer x,I x1] w fun e w'=>∃n b,e=Z (tuple #[I n,.bool b])/\∃a,x=some a/\∃p,w'.cell? (add (a.add 0) 3)=some (pointer p)/\Call prog 221 [pointer p,I n] w' fun e w'=>∃n_1,e=Z (I n_1)/\Call prog 220 [pointer x,I x1,I 4,I n,I 0] w' fun e w'=>∃p n c,e=Z (slice p n c)/\R (Z (slice p n c)) w')/\((x2==5)=false->((x2==6)->Call prog 222 [pointer x,I x1] w fun e w'=>∃p n c,e=Z (slice p n c)/\R (Z (slice p n c)) w')/\((x2==6)=false->((x2==7)->∃a,x=some a/\∃p,w.cell? (add (a.add 0) 5)=some (pointer p)/\Call prog 223 [pointer p,I x1] w fun e w'=>∃n n_1,e=Z (tuple #[I n,I n_1])/\Call prog 220 [pointer x,I x1,I 5,I n,I 0] w' fun e w'=>∃p n c,e=Z (slice p n c)/\R (Z (slice p n c)) w')/\((x2==7)=false->∃a,x=some a/\∃p,w.cell? (add (a.add 0) 1)=some (pointer p)/\Call prog 224 [pointer p,I x1] w fun e w'=>∃n n_1,e=Z (tuple #[I n,I n_1])/\Call prog 220 [pointer x,I x1,I 2,I n,I 0] w' fun e w'=>∃p n c,e=Z (slice p n c)/\R (Z (slice p n c)) w'))))):=by kernel_rfl
def M123:Mt:={N:=65,keep:=kp 0 [[0,1,3,6],[0,1,3,6,8,9],[0,1,3,6,11],[0,1,3,6,11,39],[],[]],ords:=[(4,[0,1,2,3,4,5,6,7,8,10,11,9,12,13,14,15])]}
noncomputable def c123:Code:=bodyOf f123
theorem u123 {a b c d e f g i j w R}(h:den prog M123 c123 (argE 0 [a,b,agg #[c,d,e,f,g,i],j]) w (Rt f123 R)):Calls prog 123 #[a,b,agg #[c,d,e,f,g,i],j] w R:=u_ func123 (by kernel_rfl) h
theorem t123 (x x1 x2 x3 x4 x5 x6 x7 x8 w R):den prog M123 c123 (argE 0 [(pointer x),(int i64 x1),(agg #[(.bool x2),(.bool x3),(int i64 x4),(int i64 x5),(int i64 x6),(int i64 x7)]),(int i64 x8)]) w (Rt f123 R)=
(New w [.bool x2,.bool x3,I x4,I x5,I x6,I x7] 226 fun p w'=>∃a,x=some a/\∃p_1,w'.cell? (add (a.add 0) 12)=some (pointer p_1)/\Call prog 227 [pointer p_1,I x1] w' fun e w'=>∃n n_1 n_2,e=Z (tuple #[I n,I n_1,I n_2])/\∃a,x=some a/\∃p_2 n_3 c,w'.cell? (add (a.add 0) 14)=some (slice p_2 n_3 c)/\(0<=x1/\x1<(↑n_3:Int))/\∃a,p_2=some a/\∃p_3,w'.cell? (add a (Int.toNat x1*1))=some (pointer p_3)/\Call prog 228 [pointer p_3,I n,I n_1] w' fun e w'=>∃n n_4,e=Z (tuple #[I n,I n_4])/\∃b,w'.cell? (p.add 1)=some (.bool b)/\(b->Sm w' fun w'_1=>∃a,x=some a/\∃p_4,w'_1.cell? (add (a.add 0) 13)=some (pointer p_4)/\∃n,w'_1.cell? (p.add 2)=some (I n)/\∃n_5,w'_1.cell? (p.add 2)=some (I n_5)/\Call prog 218 [] w'_1 fun e w'=>∃p_5 n_6 c,e=Z (slice p_5 n_6 c)/\w'.cell? (p.add 2)=some (I n_5)/\w'.cell? (p.add 2)=some (I n)/\w'.cell? (add (a.add 0) 13)=some (pointer p_4)/\(0<=n_5/\n_5<(↑n_6:Int))/\∃a,p_5=some a/\∃n_7,w'.cell? (add (add a (Int.toNat n_5*3)) 2)=some (I n_7)/\Call prog 229 [pointer p_4,I x1,I n,I x8,I n_7] w' fun e w'=>∃n,e=Z (I n)/\R (Z (tuple #[])) w')/\(b=false->∃a,x=some a/\∃p,w'.cell? (add (a.add 0) 13)=some (pointer p)/\Call prog 230 [pointer p,I x1,I x8,I n] w' fun e w'=>∃n,e=Z (I n)/\R (Z (tuple #[])) w')):=by kernel_rfl
def M126:Mt:={N:=52,keep:=kp 0 [[0,1,2,6],[0,1,6,8,9],[0,1,6,8],[]],ords:=[(1,[0,1,2,3,4,5,6,7,8,9,10,11,12,13,14]),(3,[0,1,2,3,4,5,6,7,8,9])]}
noncomputable def c126:Code:=bodyOf f126
theorem u126:UT 126 M126 c126 f126:=fun h i=>u_ func126 (by kernel_rfl) h i
theorem t126 (x x1 x2 w R):den prog M126 c126 (argE 0 [(pointer x),(int i64 x1),(int i64 x2)]) w (Rt f126 R)=
(∃a,x=some a/\∃p,w.cell? (add (a.add 0) 0)=some (pointer p)/\Call prog 127 [pointer p,I x1] w fun e w'=>∃n n_1 n_2 b b_1 n_3 n_4,e=Z (tuple #[agg #[I n,int .u64 n_1,I n_2,.bool b,.bool b_1,I n_3],I n_4])/\New w' [I 0,int .u64 0,I 0,.bool false,.bool false,I 0] 250 fun p w'=>Wr w' p [I n,int .u64 n_1,I n_2,.bool b,.bool b_1,I n_3] fun w'=>Sm w' fun w'_1=>∃n,w'_1.cell? (p.add 1)=some (int .u64 n)/\∃a,x=some a/\∃n_5,w'_1.cell? (a.add 17)=some (int .u64 n_5)/\Call prog 233 [int .u64 n,int .u64 n_5,I x2] w'_1 fun e w'=>∃n b n_6,e=Z (tuple #[I n,.bool b,I n_6])/\∃a,x=some a/\∃p_1,w'.cell? (add (a.add 0) 0)=some (pointer p_1)/\Call prog 234 [pointer p_1,I x1,I n,.bool b] w' fun e w'=>∃n_7,e=Z (I n_7)/\Sm w' fun w'_2=>∃a,x=some a/\∃p_2,w'_2.cell? (add (a.add 0) 1)=some (pointer p_2)/\∃n_8,w'_2.cell? (p.add 0)=some (I n_8)/\Call prog 235 [pointer p_2,I n,I n_8,I x1] w'_2 fun e w'=>∃n,e=Z (I n)/\R (Z (tuple #[])) w'):=by kernel_rfl
def M128:Mt:={N:=27,keep:=kp 0 [[0,1,5],[0,1,5,8],[0,1],[0,1],[6]],cuts:=[(4,[0,1])]}
noncomputable def c128:Code:=bodyOf f128
noncomputable def c128_0:Code:=c128.sr.sr
def e128_0 (x:Option Addr) (x1:Int):Env:=[(0,SV.v (pointer x)),(1,SV.v (int i64 x1))]
def k128_0 (R:RT):=Rt f128 R
theorem u128 {a b c d e f g i w R}(h:den prog M128 c128 (argE 0 [a,b,agg #[c,d,e,f,g,i]]) w (Rt f128 R)):Calls prog 128 #[a,b,agg #[c,d,e,f,g,i]] w R:=u_ func128 (by kernel_rfl) h
theorem t128 (x x1 x2 x3 x4 x5 x6 x7 w R):den prog M128 c128 (argE 0 [(pointer x),(int i64 x1),(agg #[(int i64 x2),(int .u64 x3),(int i64 x4),(.bool x5),(.bool x6),(int i64 x7)])]) w (Rt f128 R)=
(New w [I x2,int .u64 x3,I x4,.bool x5,.bool x6,I x7] 250 fun p w'=>∃b,w'.cell? (p.add 4)=some (.bool b)/\(b->∃n,w'.cell? (p.add 5)=some (I n)/\Call prog 133 [pointer x,I n] w' fun e w'=>e=Z (tuple #[])/\CutD prog M128 c128_0 (e128_0 x x1) w' (k128_0 R))/\(b=false->∃a,x=some a/\∃p,w'.cell? (add (a.add 0) 1)=some (pointer p)/\Call prog 237 [pointer p,I x1] w' fun e w'=>∃n,e=Z (I n)/\CutD prog M128 c128_0 (e128_0 x x1) w' (k128_0 R))):=by kernel_rfl
theorem t128_0 (x x1 w R):den prog M128 c128_0 (e128_0 x x1) w (k128_0 R)=
(∃a,x=some a/\∃p,w.cell? (add (a.add 0) 0)=some (pointer p)/\Call prog 238 [pointer p,I x1] w fun e w'=>∃n,e=Z (I n)/\R (Z (I n)) w'):=by kernel_rfl
def M130:Mt:={N:=45,keep:=kp 0 [[0,1,4],[0,1,4,32],[0,1,4],[]],ords:=[(1,[0,1,2,3,4,5,6,7,8,9,10,11,12,13,14,15,16])]}
noncomputable def c130:Code:=bodyOf f130
theorem u130:UT 130 M130 c130 f130:=fun h i=>u_ func130 (by kernel_rfl) h i
theorem t130 (x x1 w R):den prog M130 c130 (argE 0 [(pointer x),(int i64 x1)]) w (Rt f130 R)=
(∃a,x=some a/\∃p,w.cell? (add (a.add 0) 0)=some (pointer p)/\Call prog 127 [pointer p,I x1] w fun e w'=>∃n n_1 n_2 b b_1 n_3 n_4,e=Z (tuple #[agg #[I n,int .u64 n_1,I n_2,.bool b,.bool b_1,I n_3],I n_4])/\New w' [I 0,int .u64 0,I 0,.bool false,.bool false,I 0] 250 fun p w'=>Wr w' p [I n,int .u64 n_1,I n_2,.bool b,.bool b_1,I n_3] fun w'=>Sm w' fun w'_1=>∃b,w'_1.cell? (p.add 4)=some (.bool b)/\(b=false->∃a,x=some a/\∃n,w'_1.cell? (a.add 17)=some (int .u64 n)/\∃n_5,w'_1.cell? (p.add 1)=some (int .u64 n_5)/\∃n_6,w'_1.cell? (p.add 2)=some (I n_6)/\∃b,w'_1.cell? (p.add 3)=some (.bool b)/\Call prog 239 [int .u64 n,agg #[I 0,int .u64 n_5,I n_6,.bool b]] w'_1 fun e w'=>∃b,e=Z (.bool b)/\((!b)->R (Z (tuple #[])) w')/\((!b)=false->∃a,x=some a/\∃p_1,w'.cell? (add (a.add 0) 1)=some (pointer p_1)/\Call prog 237 [pointer p_1,I x1] w' fun e w'=>∃n,e=Z (I n)/\∃n,w'.cell? (p.add 2)=some (I n)/\Call prog 126 [pointer x,I x1,I n] w' fun e w'=>e=Z (tuple #[])/\R (Z (tuple #[])) w'))/\(b->R (Z (tuple #[])) w'_1)):=by kernel_rfl
def M131:Mt:={N:=79,keep:=kp 0 [[0,1,3,6],[0,1,6,10,11],[0,1,6,10,11,24],[8,9],[0,1,10,12],[0,1,10,12,34],[0,1,10,12],[0,1,11,13],[0,1,11,13,55],[8,9],[0,1,13],[0,1,13],[8,9]],cuts:=[(7,[0,1,10,12])]}
noncomputable def c131:Code:=bodyOf f131
noncomputable def c131_0:Code:=c131.sr.sr.sr.sr.sr
def e131_0 (x:Option Addr) (x1 x2 x3:Int):Env:=[(0,SV.v (pointer x)),(1,SV.v (int i64 x1)),(10,SV.v (int i64 x2)),(12,SV.v (int i64 x3))]
def k131_0 (R:RT):=Rt f131 R
theorem u131 {a b c d e f g i j w R}(h:den prog M131 c131 (argE 0 [a,b,agg #[c,d,e,f,g,i],j]) w (Rt f131 R)):Calls prog 131 #[a,b,agg #[c,d,e,f,g,i],j] w R:=u_ func131 (by kernel_rfl) h
theorem t131 (x x1 x2 x3 x4 x5 x6 x7 x8 w R):den prog M131 c131 (argE 0 [(pointer x),(int i64 x1),(agg #[(int i64 x2),(int .u64 x3),(int i64 x4),(.bool x5),(.bool x6),(int i64 x7)]),(int i64 x8)]) w (Rt f131 R)=
(New w [I x2,int .u64 x3,I x4,.bool x5,.bool x6,I x7] 250 fun p w'=>∃a,x=some a/\∃n,w'.cell? (a.add 18)=some (I n)/\Call prog 122 [I n,I x8] w' fun e w'=>∃n n_1,e=Z (tuple #[I n,I n_1])/\((n_1 !=0)->R (Z (tuple #[I 0,I n_1])) w')/\((n_1 !=0)=false->∃n_2,w'.cell? (p.add 2)=some (I n_2)/\∃a,x=some a/\∃n_3,w'.cell? (a.add 17)=some (int .u64 n_3)/\Call prog 23 [int .u64 n_3,I n_2] w' fun e w'=>∃b,e=Z (.bool b)/\((!b)->∃a,x=some a/\∃n_4,w'.cell? (a.add 17)=some (int .u64 n_4)/\Call prog 159 [int .u64 n_4] w' fun e w'=>∃n_5 n_6,e=Z (tuple #[I n_5,I n_6])/\CutD prog M131 c131_0 (e131_0 x x1 n n_5) w' (k131_0 R))/\((!b)=false->CutD prog M131 c131_0 (e131_0 x x1 n n_2) w' (k131_0 R)))):=by kernel_rfl
theorem t131_0 (x x1 x2 x3 w R):den prog M131 c131_0 (e131_0 x x1 x2 x3) w (k131_0 R)=
(∃a,x=some a/\∃p,w.cell? (add (a.add 0) 2)=some (pointer p)/\Call prog 240 [pointer p,I x3,I x2] w fun e w'=>∃n n_1,e=Z (tuple #[I n,I n_1])/\((n_1 !=0)->R (Z (tuple #[I 0,I n_1])) w')/\((n_1 !=0)=false->∃a,x=some a/\∃r,w'.cell? (a.add 20)=some (map r)/\∃w'_1,Sem.run prog (Instr.mapUpdate 78 (map r) (I n) (I x1)) w'=Result.ok () w'_1/\∃a,x=some a/\∃p,w'_1.cell? (add (a.add 0) 1)=some (pointer p)/\Call prog 237 [pointer p,I x1] w'_1 fun e w'=>∃n_2,e=Z (I n_2)/\∃a,x=some a/\∃p,w'.cell? (add (a.add 0) 0)=some (pointer p)/\Call prog 241 [pointer p,I x1,I n] w' fun e w'=>∃n_3,e=Z (I n_3)/\R (Z (tuple #[I n,I n_3])) w')):=by kernel_rfl
def M133:Mt:={N:=16,keep:=kp 0 [[0,1],[]]}
noncomputable def c133:Code:=bodyOf f133
theorem u133:UT 133 M133 c133 f133:=fun h i=>u_ func133 (by kernel_rfl) h i
theorem t133 (x x1 w R):den prog M133 c133 (argE 0 [(pointer x),(int i64 x1)]) w (Rt f133 R)=
(∃a,x=some a/\∃p,w.cell? (add (a.add 0) 2)=some (pointer p)/\Call prog 244 [pointer p,I x1] w fun e w'=>∃n,e=Z (I n)/\∃a,x=some a/\∃r,w'.cell? (a.add 20)=some (map r)/\∃w'_1,Sem.run prog (Builtin.delete_ #[78,3] 0 #[map r,I x1]) w'=Result.ok (tuple #[]) w'_1/\R (Z (tuple #[])) w'_1):=by kernel_rfl
def M134:Mt:={N:=28,keep:=kp 0 [[0,1],[0,1,4],[]]}
noncomputable def c134:Code:=bodyOf f134
theorem u134:UT 134 M134 c134 f134:=fun h i=>u_ func134 (by kernel_rfl) h i
theorem t134 (x x1 w R):den prog M134 c134 (argE 0 [(pointer x),(int i64 x1)]) w (Rt f134 R)=
(∃a,x=some a/\∃p,w.cell? (add (a.add 0) 0)=some (pointer p)/\Call prog 245 [pointer p,I x1] w fun e w'=>∃n n_1,e=Z (tuple #[I n,I n_1])/\∃a,x=some a/\∃p,w'.cell? (add (a.add 0) 0)=some (pointer p)/\Call prog 127 [pointer p,I x1] w' fun e w'=>∃n n_2 n_3 b b_1 n_4 n_5,e=Z (tuple #[agg #[I n,int .u64 n_2,I n_3,.bool b,.bool b_1,I n_4],I n_5])/\New w' [I 0,int .u64 0,I 0,.bool false,.bool false,I 0] 250 fun p w'=>Wr w' p [I n,int .u64 n_2,I n_3,.bool b,.bool b_1,I n_4] fun w'=>∃n,w'.cell? (p.add 2)=some (I n)/\Call prog 126 [pointer x,I x1,I n] w' fun e w'=>e=Z (tuple #[])/\R (Z (tuple #[])) w'):=by kernel_rfl
def M135:Mt:={N:=10,keep:=kp 0 [[0,1],[0,1,6],[0],[4]]}
noncomputable def c135:Code:=bodyOf f135
theorem u135:UT 135 M135 c135 f135:=fun h i=>u_ func135 (by kernel_rfl) h i
theorem t135 (x x1 x2 x3 w R):den prog M135 c135 (argE 0 [(int i64 x),(func (Fn.func x1) #[] #[(pointer (some x2)),(pointer (some x3))])]) w (Rt f135 R)=
(((x==0)->bif hasBody prog x1 then Call prog x1 [pointer (some x2),pointer (some x3)] w fun e w'=>e=Z (tuple #[])/\R (Z (I x)) w' else ∃w',Sem.run prog (callFunc x1 #[pointer (some x2),pointer (some x3)]) w=Result.ok (Next.value (tuple #[])) w'/\R (Z (I x)) w')/\((x==0)=false->R (Z (I x)) w)):=by kernel_rfl
def M137:Mt:={N:=13,keep:=kp 0 [[]],ords:=[(0,[0,1,2,3,4,5,6,7,8,9,10])]}
noncomputable def c137:Code:=bodyOf f137
theorem u137:UT 137 M137 c137 f137:=fun h i=>u_ func137 (by kernel_rfl) h i
theorem t137 (x x1 w R):den prog M137 c137 (argE 0 [(pointer (some x)),(pointer (some x1))]) w (Rt f137 R)=
(Sm w fun w'=>∃p,w'.cell? x=some (pointer p)/\∃n,w'.cell? (x1.add 2)=some (I n)/\∃n_1,w'.cell? (x1.add 2)=some (I n_1)/\∃p_1,w'.cell? x=some (pointer p_1)/\∃a,p_1=some a/\∃n_2,w'.cell? (a.add 15)=some (I n_2)/\n_2≠0/\Call prog 138 [pointer p,I n,I (Int.tmod n_1 n_2)] w' fun e w'=>e=Z (tuple #[])/\R (Z (tuple #[])) w'):=by kernel_rfl
def M138:Mt:={N:=41,keep:=kp 0 [[0,1,2,6],[0,1,8],[]],ords:=[(1,[0,1,2,3,4,5,6,7,8,9,10,11,12,13,14])]}
noncomputable def c138:Code:=bodyOf f138
theorem u138:UT 138 M138 c138 f138:=fun h i=>u_ func138 (by kernel_rfl) h i
theorem t138 (x x1 x2 w R):den prog M138 c138 (argE 0 [(pointer x),(int i64 x1),(int i64 x2)]) w (Rt f138 R)=
(∃a,x=some a/\∃p,w.cell? (add (a.add 0) 3)=some (pointer p)/\Call prog 248 [pointer p,I x1] w fun e w'=>∃b b_1 b_2 n n_1,e=Z (tuple #[agg #[.bool b,.bool b_1,.bool b_2,int .u64 n],I n_1])/\New w' [.bool false,.bool false,.bool false,int .u64 0] 198 fun p w'=>Wr w' p [.bool b,.bool b_1,.bool b_2,int .u64 n] fun w'=>Sm w' fun w'_1=>∃n,w'_1.cell? (p.add 3)=some (int .u64 n)/\∃a,x=some a/\∃n_2,w'_1.cell? (a.add 17)=some (int .u64 n_2)/\Call prog 233 [int .u64 n,int .u64 n_2,I x2] w'_1 fun e w'=>∃n b n_3,e=Z (tuple #[I n,.bool b,I n_3])/\∃a,x=some a/\∃p,w'.cell? (add (a.add 0) 4)=some (pointer p)/\Call prog 249 [pointer p,I x1,I n] w' fun e w'=>∃n,e=Z (I n)/\R (Z (tuple #[])) w'):=by kernel_rfl
def M140:Mt:={N:=10,keep:=kp 0 [[]],ords:=[(0,[0,1,2,3,4,5,6,7])]}
noncomputable def c140:Code:=bodyOf f140
theorem u140:UT 140 M140 c140 f140:=fun h i=>u_ func140 (by kernel_rfl) h i
theorem t140 (x x1 w R):den prog M140 c140 (argE 0 [(pointer (some x)),(pointer (some x1))]) w (Rt f140 R)=
(Sm w fun w'=>∃p,w'.cell? x=some (pointer p)/\∃a,p=some a/\∃p,w'.cell? (add (a.add 0) 4)=some (pointer p)/\∃n,w'.cell? (x1.add 2)=some (I n)/\Call prog 141 [pointer p,I n] w' fun e w'=>∃n,e=Z (I n)/\R (Z (tuple #[])) w'):=by kernel_rfl
def M143:Mt:={N:=6,keep:=kp 0 [[]]}
noncomputable def c143:Code:=bodyOf f143
theorem u143:UT 143 M143 c143 f143:=fun h i=>u_ func143 (by kernel_rfl) h i
theorem t143 (x x1 w R):den prog M143 c143 (argE 0 [(pointer (some x)),(pointer (some x1))]) w (Rt f143 R)=
(∃p,w.cell? x=some (pointer p)/\∃n,w.cell? (x1.add 2)=some (I n)/\Call prog 144 [pointer p,I n] w fun e w'=>e=Z (tuple #[])/\R (Z (tuple #[])) w'):=by kernel_rfl
def M144:Mt:={N:=46,keep:=kp 0 [[0,1,4],[0,1,4,6],[0,1,6,41],[]],ords:=[(2,[0,1,2,3,4,5,6,7,8,9,10,11,12,13])]}
noncomputable def c144:Code:=bodyOf f144
theorem u144:UT 144 M144 c144 f144:=fun h i=>u_ func144 (by kernel_rfl) h i
theorem t144 (x x1 w R):den prog M144 c144 (argE 0 [(pointer x),(int i64 x1)]) w (Rt f144 R)=
(∃a,x=some a/\∃p,w.cell? (add (a.add 0) 3)=some (pointer p)/\Call prog 248 [pointer p,I x1] w fun e w'=>∃b b_1 b_2 n n_1,e=Z (tuple #[agg #[.bool b,.bool b_1,.bool b_2,int .u64 n],I n_1])/\New w' [.bool false,.bool false,.bool false,int .u64 0] 198 fun p w'=>Wr w' p [.bool b,.bool b_1,.bool b_2,int .u64 n] fun w'=>∃a,x=some a/\∃p_1,w'.cell? (add (a.add 0) 4)=some (pointer p_1)/\Call prog 186 [pointer p_1,I x1] w' fun e w'=>∃n b,e=Z (tuple #[I n,.bool b])/\Sm w' fun w'_1=>∃a,x=some a/\∃n_2,w'_1.cell? (a.add 17)=some (int .u64 n_2)/\∃n_3,w'_1.cell? (p.add 3)=some (int .u64 n_3)/\∃n_4,w'_1.cell? (p.add 3)=some (int .u64 n_4)/\Call prog 23 [int .u64 n_4,I n] w'_1 fun e w'=>∃b,e=Z (.bool b)/\w'.cell? (p.add 3)=some (int .u64 n_3)/\w'.cell? (a.add 17)=some (int .u64 n_2)/\Call prog 239 [int .u64 n_2,agg #[I 0,int .u64 n_3,I n,.bool !b]] w' fun e w'=>∃b,e=Z (.bool b)/\(b->Call prog 138 [pointer x,I x1,I n] w' fun e w'=>e=Z (tuple #[])/\R (Z (tuple #[])) w')/\(b=false->R (Z (tuple #[])) w')):=by kernel_rfl
def M152:Mt:={N:=24,keep:=kp 0 [[0,1],[0,1,5],[4],[16],[4],[4]],bk:=[(0,[])]}
noncomputable def c152:Code:=bodyOf f152
theorem u152:UT 152 M152 c152 f152:=fun h i=>u_ func152 (by kernel_rfl) h i
theorem t152 (x x1 w R):den prog M152 c152 (argE 0 [(pointer x),(int i64 x1)]) w (Rt f152 R)=
((decide (x1<0)=false->∃a,x=some a/\∃n,w.cell? (a.add 15)=some (I n)/\(decide (x1>=n)->R (Z (I 3)) w)/\(decide (x1>=n)=false->∃a,x=some a/\∃n,w.cell? (a.add 17)=some (int .u64 n)/\Call prog 23 [int .u64 n,I x1] w fun e w'=>∃b,e=Z (.bool b)/\((!b)->R (Z (I 9)) w')/\((!b)=false->R (Z (I 0)) w')))/\(decide (x1<0)->R (Z (I 3)) w)):=by kernel_rfl
def M153:Mt:={N:=32,keep:=kp 0 [[0,1,2],[0,1,8,9],[0,1,8,9,20],[6,7],[6,7]]}
noncomputable def c153:Code:=bodyOf f153
theorem u153:UT 153 M153 c153 f153:=fun h i=>u_ func153 (by kernel_rfl) h i
theorem t153 (x x1 x2 w R):den prog M153 c153 (argE 0 [(pointer x),(int i64 x1),(int i64 x2)]) w (Rt f153 R)=
(∃a,x=some a/\∃n,w.cell? (a.add 18)=some (I n)/\Call prog 122 [I n,I x2] w fun e w'=>∃n n_1,e=Z (tuple #[I n,I n_1])/\((n_1 !=0)->R (Z (tuple #[I 0,I n_1])) w')/\((n_1 !=0)=false->∃a,x=some a/\∃p,w'.cell? (add (a.add 0) 2)=some (pointer p)/\Call prog 240 [pointer p,I x1,I n] w' fun e w'=>∃n n_2,e=Z (tuple #[I n,I n_2])/\R (Z (tuple #[I n,I n_2])) w')):=by kernel_rfl
def M162:Mt:={N:=35,keep:=kp 0 [[0,1],[0,1,6],[0,1,17],[4],[0,1,20],[4],[4]],bk:=[(0,[0,1])]}
noncomputable def c162:Code:=bodyOf f162
theorem u162:UT 162 M162 c162 f162:=fun h i=>u_ func162 (by kernel_rfl) h i
theorem t162 (x x1 w R):den prog M162 c162 (argE 0 [(pointer x),(int i64 x1)]) w (Rt f162 R)=
(∃a,x=some a/\∃p,w.cell? (add (a.add 0) 2)=some (pointer p)/\Call prog 105 [pointer p,I x1] w fun e w'=>∃n b,e=Z (tuple #[I n,.bool b])/\((!b)->R (Z (I 4)) w')/\((!b)=false->∃a,x=some a/\∃r,w'.cell? (a.add 20)=some (map r)/\∃n,Sem.run prog (Instr.lookup 78 (map r) (I x1) false) w'=Result.ok (I n) w'/\(decide (n>0)->R (Z (I 6)) w')/\(decide (n>0)=false->∃a,x=some a/\∃p,w'.cell? (add (a.add 0) 2)=some (pointer p)/\Call prog 244 [pointer p,I x1] w' fun e w'=>∃n,e=Z (I n)/\R (Z (I n)) w'))):=by kernel_rfl
def M163:Mt:={N:=21,keep:=kp 0 [[0,1],[0,1,6],[4,5],[13],[4,5],[4,5]],bk:=[(0,[])]}
noncomputable def c163:Code:=bodyOf f163
theorem u163:UT 163 M163 c163 f163:=fun h i=>u_ func163 (by kernel_rfl) h i
theorem t163 (x x1 w R):den prog M163 c163 (argE 0 [(pointer x),(int i64 x1)]) w (Rt f163 R)=
((decide (x1<1)=false->(decide (x1>32)->R (Z (tuple #[I 0,I 2])) w)/\(decide (x1>32)=false->∃a,x=some a/\∃p,w.cell? (add (a.add 0) 5)=some (pointer p)/\Call prog 263 [pointer p,I x1] w fun e w'=>∃b,e=Z (.bool b)/\(b->R (Z (tuple #[I 1,I 0])) w')/\(b=false->R (Z (tuple #[I 0,I 0])) w')))/\(decide (x1<1)->R (Z (tuple #[I 0,I 2])) w)):=by kernel_rfl
def M164:Mt:={N:=18,keep:=kp 0 [[0,1],[0,1,10],[4],[4]]}
noncomputable def c164:Code:=bodyOf f164
theorem u164:UT 164 M164 c164 f164:=fun h i=>u_ func164 (by kernel_rfl) h i
theorem t164 (x x1 w R):den prog M164 c164 (argE 0 [(pointer x),(int i64 x1)]) w (Rt f164 R)=
((decide (x1<0)=false->(decide (x1>=10)->R (Z (I 3)) w)/\(decide (x1>=10)=false->∃a,x=some a/\∃p,w.cell? (add (a.add 0) 11)=some (pointer p)/\Call prog 264 [pointer p,I x1] w fun e w'=>∃n,e=Z (I n)/\R (Z (I n)) w'))/\(decide (x1<0)->R (Z (I 3)) w)):=by kernel_rfl
def M166:Mt:={N:=15,keep:=kp 0 [[0,1],[0,1,10],[4],[],[4]]}
noncomputable def c166:Code:=bodyOf f166
theorem u166:UT 166 M166 c166 f166:=fun h i=>u_ func166 (by kernel_rfl) h i
theorem t166 (x x1 w R):den prog M166 c166 (argE 0 [(pointer x),(int i64 x1)]) w (Rt f166 R)=
((decide (x1<0)=false->(decide (x1>1073741824)->R (Z (I 2)) w)/\(decide (x1>1073741824)=false->∃a,x=some a/\Wr w (a.add 19) [I x1] fun w'=>R (Z (I 0)) w'))/\(decide (x1<0)->R (Z (I 2)) w)):=by kernel_rfl
def M167:Mt:={N:=26,keep:=kp 0 [[0,1,2],[0,1,2,7],[1,2,7,14,15,16],[1,2,7,14,15,16,17],[1,2,9,14,15,16],[1,2,7,14,15,16],[1,2,7,14,15,16],[6]],bk:=[(0,[7]),(1,[1,2,7,14,15,16])],lk:=[(3,[1,2,7,14,15,16])]}
noncomputable def c167:Code:=bodyOf f167
noncomputable def c167_0:Code:=c167.sr.sr.sr
noncomputable def c167_1:Code:=c167.sr.sr.sl.sr.sl.sl
def e167_1 (x x1 x2:Int) (x3:Option Addr) (x4 x5:Nat) (x6 x7:Int):Env:=[(1,SV.v (int i64 x)),(2,SV.v (int i64 x1)),(7,SV.v (int i64 x2)),(14,SV.v (slice x3 x4 x5)),(15,SV.v (int i64 x6)),(16,SV.v (int i64 x7))]
def k167_1 (R:RT):=blockK 0 [7] (SQ M167 c167_0 (Rt f167 R) (Rt f167 R))
theorem u167:UT 167 M167 c167 f167:=fun h i=>u_ func167 (by kernel_rfl) h i
theorem t167 (x x1 x2 w R):den prog M167 c167 (argE 0 [(pointer x),(int i64 x1),(int i64 x2)]) w (Rt f167 R)=
(∃a,x=some a/\∃p n c,w.cell? (add (a.add 0) 14)=some (slice p n c)/\Cut (WP prog 26 (Code.loop c167_1) (e167_1 x1 x2 0 p n c (↑n:Int) 0) w (k167_1 R))):=by kernel_rfl
theorem t167_1 (x x1 x2 x3 x4 x5 x6 x7 w B167_1 R):den prog M167 c167_1 (e167_1 x x1 x2 x3 x4 x5 x6 x7) w (loopK B167_1 (k167_1 R))=
((decide (x7<x6)->(0<=x7/\x7<(↑x4:Int))/\∃a,x3=some a/\∃p,w.cell? (add a (Int.toNat x7*1))=some (pointer p)/\Call prog 266 [pointer p,I x,I x1] w fun e w'=>∃n,e=Z (I n)/\B167_1 [(1,SV.v (I x)),(2,SV.v (I x1)),(7,SV.v (I n)),(14,SV.v (slice x3 x4 x5)),(15,SV.v (I x6)),(16,SV.v (I (wrap i64 (x7+1))))] w')/\(decide (x7<x6)=false->R (Z (I x2)) w)):=by kernel_rfl
def M168:Mt:={N:=104,keep:=kp 0 [[1,2,8,62],[1,2,3,8,62],[1,2,3,5,8,62],[1,2,3,5,8,52,62],[2],[1,2,5,8,60,62],[],[1,2,5,8,9],[1,2,5,8,9,77],[1,2,5,8,9],[1,2,5,8,9],[2,8],[2],[2]],ords:=[(1,[0,1,2,3,4,5,6,7,8,9,10,11,12,13,14]),(2,[0,1,2,3,4,5,6,7,8,9,10,11,12,13,14,15]),(3,[0,1,2,3,4,5,7,8,9,10,11,12,6,13,14,15]),(10,[0,1,2,3,4,5,6,7]),(11,[0,1,2,3,4,5,6,7,8,9])],bk:=[(0,[2]),(1,[])],alts:=[(2,(.step 0 (.step 1 (.step 2 (.step 3 (.step 4 (.step 5 (.step 6 (.step 7 (.step 8 (.alt (.step 9 (.step 10 (.step 11 (.step 12 (.step 13 (.step 14 (.step 15 .fin))))))) (.step 13 (.step 9 (.step 10 (.step 11 (.step 12 (.step 14 (.step 15 .fin))))))))))))))))))]}
noncomputable def c168:Code:=bodyOf f168
noncomputable def c168_0:Code:=c168.sr.sr.sr.sr.sr
noncomputable def c168_1:Code:=c168.sr.sr.sr.sr.sl.sr.sl
theorem b168:f168.body=some c168:=by kernel_rfl
theorem n168:f168.ntmps=M168.N:=by kernel_rfl
def M201:Mt:={N:=29,keep:=kp 0 [[0,1],[0,6],[6,7],[6,7,24],[4,5],[4,5]]}
noncomputable def c201:Code:=bodyOf f201
theorem u201:UT 201 M201 c201 f201:=fun h i=>u_ func201 (by kernel_rfl) h i
theorem t201 (x x1 w R):den prog M201 c201 (argE 0 [(pointer x),(int i64 x1)]) w (Rt f201 R)=
(∃a,x=some a/\∃p,w.cell? (add (a.add 0) 4)=some (pointer p)/\Call prog 291 [pointer p,I x1] w fun e w'=>∃p n c,e=Z (slice p n c)/\∃a,x=some a/\∃p_1,w'.cell? (add (a.add 0) 3)=some (pointer p_1)/\Call prog 270 [slice p n c,func (Fn.func 175) #[pointer p_1] #[]] w' fun e w'=>∃n_1,e=Z (I n_1)/\(decide (n_1<0)->R (Z (tuple #[I 0,.bool false])) w')/\(decide (n_1<0)=false->(0<=n_1/\n_1<(↑n:Int))/\∃a,p=some a/\∃n,w'.cell? (add a (Int.toNat n_1*1))=some (I n)/\R (Z (tuple #[I n,.bool true])) w')):=by kernel_rfl
def M209:Mt:={N:=49,keep:=kp 0 [[0,2,3,5],[0,2,3,5,9],[0,2,3,5,9,16],[],[8],[0,2,3,5,9,25],[8],[0,2,3,5,36],[],[8],[8]],bk:=[(0,[0,2,3,5])]}
noncomputable def c209:Code:=bodyOf f209
theorem u209 {a b c d e f w R}(h:den prog M209 c209 (argE 0 [a,agg #[b,c,d],e,f]) w (Rt f209 R)):Calls prog 209 #[a,agg #[b,c,d],e,f] w R:=u_ func209 (by kernel_rfl) h
theorem t209 (x x1 x2 x3 x4 x5 w R):den prog M209 c209 (argE 0 [(pointer x),(agg #[(int i64 x1),(.bool x2),(.bool x3)]),(int i64 x4),(int i64 x5)]) w (Rt f209 R)=
(New w [I x1,.bool x2,.bool x3] 303 fun p w'=>∃a,x=some a/\∃p_1,w'.cell? (add (a.add 0) 11)=some (pointer p_1)/\Call prog 100 [pointer p_1] w' fun e w'=>∃b,e=Z (.bool b)/\∃b_1,w'.cell? (p.add 1)=some (.bool b_1)/\(b_1->∃n,w'.cell? (p.add 0)=some (I n)/\Call prog 297 [pointer x,.bool b,I n,I x4] w' fun e w'=>e=Z (tuple #[])/\R (Z (.bool true)) w')/\(b_1=false->∃n,w'.cell? (p.add 0)=some (I n)/\((n==0)->∃a,x=some a/\∃p,w'.cell? (add (a.add 0) 9)=some (pointer p)/\Call prog 298 [pointer p] w' fun e w'=>∃n,e=Z (I n)/\R (Z (.bool (n==0))) w')/\((n==0)=false->(b->∃n,w'.cell? (p.add 0)=some (I n)/\Call prog 299 [pointer x,I n,I x4] w' fun e w'=>e=Z (tuple #[])/\R (Z (.bool true)) w')/\(b=false->∃n,w'.cell? (p.add 0)=some (I n)/\Call prog 300 [pointer x,I n,I x4,I x5] w' fun e w'=>∃b,e=Z (.bool b)/\R (Z (.bool b)) w')))):=by kernel_rfl
def M220:Mt:={N:=24,keep:=kp 0 [[0,1,2,3,4],[1,2,3,4],[10]]}
noncomputable def c220:Code:=bodyOf f220
theorem u220:UT 220 M220 c220 f220:=fun h i=>u_ func220 (by kernel_rfl) h i
theorem t220 (x x1 x2 x3 x4 w R):den prog M220 c220 (argE 0 [(pointer x),(int i64 x1),(int i64 x2),(int i64 x3),(int i64 x4)]) w (Rt f220 R)=
(∃a,x=some a/\∃p,w.cell? (add (a.add 0) 8)=some (pointer p)/\Call prog 260 [pointer p,I x1,I 1] w fun e w'=>∃n,e=Z (I n)/\New w' [I x2,I x1,I x3,I x4,I 0] 43 fun p w'=>R (Z (slice (some p) 1 1)) w'):=by kernel_rfl
def M222:Mt:={N:=39,keep:=kp 0 [[0,1],[0,1,5],[0,1,5,7],[0,1,5,7],[0,1,5,7,30],[0,1,5,7],[4]],cuts:=[(6,[0,1,5,7])]}
noncomputable def c222:Code:=bodyOf f222
noncomputable def c222_0:Code:=c222.sr.sr.sr.sr.sr
def e222_0 (x:Option Addr) (x1 x2 x3:Int):Env:=[(0,SV.v (pointer x)),(1,SV.v (int i64 x1)),(5,SV.v (int i64 x2)),(7,SV.v (int i64 x3))]
def k222_0 (R:RT):=Rt f222 R
theorem u222:UT 222 M222 c222 f222:=fun h i=>u_ func222 (by kernel_rfl) h i
theorem t222 (x x1 w R):den prog M222 c222 (argE 0 [(pointer x),(int i64 x1)]) w (Rt f222 R)=
(∃a,x=some a/\∃p,w.cell? (add (a.add 0) 2)=some (pointer p)/\Call prog 306 [pointer p,I x1] w fun e w'=>∃n n_1,e=Z (tuple #[I n,I n_1])/\∃a,x=some a/\∃r,w'.cell? (a.add 20)=some (map r)/\∃n_2,Sem.run prog (Instr.lookup 78 (map r) (I n) false) w'=Result.ok (I n_2) w'/\∃a,x=some a/\∃r,w'.cell? (a.add 20)=some (map r)/\∃w'_1,Sem.run prog (Builtin.delete_ #[78,3] 0 #[map r,I n]) w'=Result.ok (tuple #[]) w'_1/\(decide (n_2>0)->Call prog 134 [pointer x,I n_2] w'_1 fun e w'=>e=Z (tuple #[])/\CutD prog M222 c222_0 (e222_0 x x1 n n_2) w' (k222_0 R))/\(decide (n_2>0)=false->CutD prog M222 c222_0 (e222_0 x x1 n n_2) w'_1 (k222_0 R))):=by kernel_rfl
theorem t222_0 (x x1 x2 x3 w R):den prog M222 c222_0 (e222_0 x x1 x2 x3) w (k222_0 R)=
(Call prog 220 [pointer x,I x1,I 3,I x2,I x3] w fun e w'=>∃p n c,e=Z (slice p n c)/\R (Z (slice p n c)) w'):=by kernel_rfl
def M270:Mt:={N:=19,keep:=kp 0 [[0,1],[0,1,7,8],[0,1,7,8,9],[0,1,5,7,8],[0,1,5,7,8,16],[4],[0,1,7,8],[4]],bk:=[(0,[]),(1,[0,1,7,8])],lk:=[(2,[0,1,7,8])]}
noncomputable def c270:Code:=bodyOf f270
noncomputable def c270_0:Code:=c270.sr.sr
noncomputable def c270_1:Code:=c270.sr.sl.sr.sl.sl
def e270_1 (x:Option Addr) (x1 x2:Nat) (x3:Option Addr) (x4 x5:Int):Env:=[(0,SV.v (slice x x1 x2)),(1,SV.v (func (Fn.func 175) #[(pointer x3)] #[])),(7,SV.v (int i64 x4)),(8,SV.v (int i64 x5))]
def k270_1 (R:RT):=blockK 0 [] (SQ M270 c270_0 (Rt f270 R) (Rt f270 R))
theorem u270:UT 270 M270 c270 f270:=fun h i=>u_ func270 (by kernel_rfl) h i
theorem t270 (x x1 x2 x3 w R):den prog M270 c270 (argE 0 [(slice x x1 x2),(func (Fn.func 175) #[(pointer x3)] #[])]) w (Rt f270 R)=
(Cut (WP prog 19 (Code.loop c270_1) [(0,SV.v (slice x x1 x2)),(1,SV.v (func (Fn.func 175) #[pointer x3] #[])),(7,SV.v (I (↑x1:Int))),(8,SV.v (I 0))] w (k270_1 R))):=by kernel_rfl
theorem t270_1 (x x1 x2 x3 x4 x5 w B270_1 R):den prog M270 c270_1 (e270_1 x x1 x2 x3 x4 x5) w (loopK B270_1 (k270_1 R))=
((decide (x5<x4)->(0<=x5/\x5<(↑x1:Int))/\∃a,x=some a/\∃n,w.cell? (add a (Int.toNat x5*1))=some (I n)/\Call prog 175 [pointer x3,I n] w fun e w'=>∃b,e=Z (.bool b)/\(b->R (Z (I x5)) w')/\(b=false->B270_1 [(0,SV.v (slice x x1 x2)),(1,SV.v (func (Fn.func 175) #[pointer x3] #[])),(7,SV.v (I x4)),(8,SV.v (I (wrap i64 (x5+1))))] w'))/\(decide (x5<x4)=false->R (Z (I (-1:Int))) w)):=by kernel_rfl
def M297:Mt:={N:=38,keep:=kp 0 [[0,1,2,3,8],[],[0,3,21],[]],bk:=[(0,[])]}
noncomputable def c297:Code:=bodyOf f297
theorem u297:UT 297 M297 c297 f297:=fun h i=>u_ func297 (by kernel_rfl) h i
theorem t297 (x x1 x2 x3 w R):den prog M297 c297 (argE 0 [(pointer x),(.bool x1),(int i64 x2),(int i64 x3)]) w (Rt f297 R)=
((x1->((x2==1)->∃a,x=some a/\∃p,w.cell? (add (a.add 0) 12)=some (pointer p)/\Call prog 354 [pointer p,I x3,.bool false] w fun e w'=>∃n,e=Z (I n)/\R (Z (tuple #[])) w')/\((x2==1)=false->((!x1)->((x2==1)->∃a,x=some a/\∃n,w.cell? (a.add 17)=some (int .u64 n)/\New w [I x3] 3 fun p w'=>Call prog 179 [int .u64 n,slice (some p) 1 1] w' fun e w'=>∃n,e=Z (int .u64 n)/\∃a,x=some a/\Wr w' (a.add 17) [int .u64 n] fun w'=>R (Z (tuple #[])) w')/\((x2==1)=false->R (Z (tuple #[])) w))/\((!x1)=false->R (Z (tuple #[])) w)))/\(x1=false->((!x1)->((x2==1)->∃a,x=some a/\∃n,w.cell? (a.add 17)=some (int .u64 n)/\New w [I x3] 3 fun p w'=>Call prog 179 [int .u64 n,slice (some p) 1 1] w' fun e w'=>∃n,e=Z (int .u64 n)/\∃a,x=some a/\Wr w' (a.add 17) [int .u64 n] fun w'=>R (Z (tuple #[])) w')/\((x2==1)=false->R (Z (tuple #[])) w))/\((!x1)=false->R (Z (tuple #[])) w))):=by kernel_rfl
def M299:Mt:={N:=79,keep:=kp 0 [[0,2,10],[0,2,10,11],[],[0,2,20],[],[0],[0,54,55,56],[0,54,55,56,57],[0,7,54,55,56],[0,54,55,56],[0,54,55,56],[0,69,70,71],[0,69,70,71,72],[0,9,69,70,71],[0,69,70,71],[0,69,70,71]],ords:=[(5,[0,1,2,3,4,5,6,9,10,11,12,13,7,8,14,15,16,17,18,19,20,21])],bk:=[(0,[0,2]),(1,[0]),(2,[0,54,55,56]),(3,[]),(4,[0,69,70,71])],cuts:=[(11,[0])],lk:=[(7,[0,54,55,56]),(12,[0,69,70,71])],alts:=[(5,(.step 0 (.step 1 (.step 2 (.step 3 (.step 4 (.step 5 (.step 6 (.step 9 (.step 10 (.step 11 (.step 12 (.step 13 (.alt (.step 7 (.alt (.step 8 (.step 14 (.step 15 (.step 16 (.step 17 (.step 18 (.step 19 (.step 20 (.step 21 .fin))))))))) (.step 14 (.step 8 (.step 15 (.step 16 (.step 17 (.step 18 (.step 19 (.step 20 (.step 21 .fin))))))))))) (.step 14 (.step 7 (.step 8 (.step 15 (.step 16 (.step 17 (.step 18 (.step 19 (.step 20 (.step 21 .fin))))))))))))))))))))))))]}
noncomputable def c299:Code:=bodyOf f299
noncomputable def c299_0:Code:=c299.sr.sr.sr
noncomputable def c299_1:Code:=c299.sr.sr.sl.sr.sl.sl
noncomputable def c299_2:Code:=c299.sr.sr.sr.sr.sl.sl
def e299_0 (x:Option Addr):Env:=[(0,SV.v (pointer x))]
def e299_1 (x x1:Option Addr) (x2 x3:Nat) (x4 x5:Int):Env:=[(0,SV.v (pointer x)),(54,SV.v (slice x1 x2 x3)),(55,SV.v (int i64 x4)),(56,SV.v (int i64 x5))]
def e299_2 (x x1:Option Addr) (x2 x3:Nat) (x4 x5:Int):Env:=[(0,SV.v (pointer x)),(69,SV.v (slice x1 x2 x3)),(70,SV.v (int i64 x4)),(71,SV.v (int i64 x5))]
def k299_0 (R:RT):=Rt f299 R
def k299_1 (R:RT):=blockK 1 [0] (SQ M299 c299_0 (Rt f299 R) (Rt f299 R))
def k299_2 (R:RT):=blockK 3 [] (Rt f299 R)
theorem u299:UT 299 M299 c299 f299:=fun h i=>u_ func299 (by kernel_rfl) h i
theorem t299 (x x1 x2 w R):den prog M299 c299 (argE 0 [(pointer x),(int i64 x1),(int i64 x2)]) w (Rt f299 R)=
(((x1==1)->∃a,x=some a/\∃p,w.cell? (add (a.add 0) 12)=some (pointer p)/\Call prog 354 [pointer p,I x2,.bool true] w fun e w'=>∃n,e=Z (I n)/\R (Z (tuple #[])) w')/\((x1==1)=false->((x1==2)->∃a,x=some a/\∃p,w.cell? (add (a.add 0) 7)=some (pointer p)/\Call prog 355 [pointer p,I x2] w fun e w'=>∃n n_1,e=Z (tuple #[I n,I n_1])/\R (Z (tuple #[])) w')/\((x1==2)=false->Sm w fun w'=>∃a,x=some a/\∃n,w'.cell? (a.add 16)=some (int .u64 n)/\∃a_1,x=some a_1/\∃n_1,w'.cell? (a_1.add 17)=some (int .u64 n_1)/\(New w' [I x2] 3 fun p w'=>w'.cell? (a_1.add 17)=some (int .u64 n_1)/\w'.cell? (a.add 16)=some (int .u64 n)/\(Call prog 179 [int .u64 n,slice (some p) 1 1] w' fun e w'=>∃n_2,e=Z (int .u64 n_2)/\w'.cell? (a_1.add 17)=some (int .u64 n_1)/\New w' [I x2] 3 fun p w'=>w'.cell? (a_1.add 17)=some (int .u64 n_1)/\w'.cell? (a.add 16)=some (int .u64 n)/\Call prog 179 [int .u64 n_1,slice (some p) 1 1] w' fun e w'=>∃n,e=Z (int .u64 n)/\∃a,x=some a/\Wr w' (a.add 16) [int .u64 n_2] fun w'=>∃a,x=some a/\Wr w' (a.add 17) [int .u64 n] fun w'=>∃a,x=some a/\∃p,w'.cell? (add (a.add 0) 0)=some (pointer p)/\Call prog 181 [pointer p] w' fun e w'=>∃p n c,e=Z (slice p n c)/\Cut (WP prog 79 (Code.loop c299_1) (e299_1 x p n c (↑n:Int) 0) w' (k299_1 R)))/\New w' [I x2] 3 fun p_1 w'=>w'.cell? (a_1.add 17)=some (int .u64 n_1)/\w'.cell? (a.add 16)=some (int .u64 n)/\Call prog 179 [int .u64 n,slice (some p) 1 1] w' fun e w'=>∃n,e=Z (int .u64 n)/\w'.cell? (a_1.add 17)=some (int .u64 n_1)/\Call prog 179 [int .u64 n_1,slice (some p_1) 1 1] w' fun e w'=>∃n_2,e=Z (int .u64 n_2)/\∃a,x=some a/\Wr w' (a.add 16) [int .u64 n] fun w'=>∃a,x=some a/\Wr w' (a.add 17) [int .u64 n_2] fun w'=>∃a,x=some a/\∃p,w'.cell? (add (a.add 0) 0)=some (pointer p)/\Call prog 181 [pointer p] w' fun e w'=>∃p n c,e=Z (slice p n c)/\Cut (WP prog 79 (Code.loop c299_1) (e299_1 x p n c (↑n:Int) 0) w' (k299_1 R)))/\New w' [I x2] 3 fun p w'=>w'.cell? (a_1.add 17)=some (int .u64 n_1)/\w'.cell? (a.add 16)=some (int .u64 n)/\New w' [I x2] 3 fun p_1 w'=>w'.cell? (a_1.add 17)=some (int .u64 n_1)/\w'.cell? (a.add 16)=some (int .u64 n)/\Call prog 179 [int .u64 n,slice (some p_1) 1 1] w' fun e w'=>∃n,e=Z (int .u64 n)/\w'.cell? (a_1.add 17)=some (int .u64 n_1)/\Call prog 179 [int .u64 n_1,slice (some p) 1 1] w' fun e w'=>∃n_2,e=Z (int .u64 n_2)/\∃a,x=some a/\Wr w' (a.add 16) [int .u64 n] fun w'=>∃a,x=some a/\Wr w' (a.add 17) [int .u64 n_2] fun w'=>∃a,x=some a/\∃p,w'.cell? (add (a.add 0) 0)=some (pointer p)/\Call prog 181 [pointer p] w' fun e w'=>∃p n c,e=Z (slice p n c)/\Cut (WP prog 79 (Code.loop c299_1) (e299_1 x p n c (↑n:Int) 0) w' (k299_1 R))))):=by kernel_rfl
theorem t299_0 (x w R):den prog M299 c299_0 (e299_0 x) w (k299_0 R)=
(∃a,x=some a/\∃p,w.cell? (add (a.add 0) 3)=some (pointer p)/\Call prog 174 [pointer p] w fun e w'=>∃p n c,e=Z (slice p n c)/\Cut (WP prog 79 (Code.loop c299_2) (e299_2 x p n c (↑n:Int) 0) w' (k299_2 R))):=by kernel_rfl
theorem t299_1 (x x1 x2 x3 x4 x5 w B299_1 R):den prog M299 c299_1 (e299_1 x x1 x2 x3 x4 x5) w (loopK B299_1 (k299_1 R))=
((decide (x5<x4)->(0<=x5/\x5<(↑x2:Int))/\∃a,x1=some a/\∃n,w.cell? (add a (Int.toNat x5*1))=some (I n)/\Call prog 130 [pointer x,I n] w fun e w'=>e=Z (tuple #[])/\B299_1 [(0,SV.v (pointer x)),(54,SV.v (slice x1 x2 x3)),(55,SV.v (I x4)),(56,SV.v (I (wrap i64 (x5+1))))] w')/\(decide (x5<x4)=false->CutD prog M299 c299_0 (e299_0 x) w (k299_0 R))):=by kernel_rfl
theorem t299_2 (x x1 x2 x3 x4 x5 w B299_2 R):den prog M299 c299_2 (e299_2 x x1 x2 x3 x4 x5) w (loopK B299_2 (k299_2 R))=
((decide (x5<x4)->(0<=x5/\x5<(↑x2:Int))/\∃a,x1=some a/\∃n,w.cell? (add a (Int.toNat x5*1))=some (I n)/\Call prog 144 [pointer x,I n] w fun e w'=>e=Z (tuple #[])/\B299_2 [(0,SV.v (pointer x)),(69,SV.v (slice x1 x2 x3)),(70,SV.v (I x4)),(71,SV.v (I (wrap i64 (x5+1))))] w')/\(decide (x5<x4)=false->R (Z (tuple #[])) w)):=by kernel_rfl
def M300:Mt:={N:=112,keep:=kp 0 [[0,1,2,3],[0,1,2,3],[0,2,3,10],[0,2,3,10,11],[],[8],[0,2,3,10,22],[8],[0,2,3,10,27],[9],[8],[0,2,3,10,42],[9],[8],[0,2,3,10,56],[9],[8],[0,2,3,10,71],[8],[0,2,3,10,77],[],[8],[0,2,3,86],[],[8],[0,2],[],[8]],bk:=[(0,[0,2])]}
noncomputable def c300:Code:=bodyOf f300
theorem u300:UT 300 M300 c300 f300:=fun h i=>u_ func300 (by kernel_rfl) h i
theorem t300 (x x1 x2 x3 w R):den prog M300 c300 (argE 0 [(pointer x),(int i64 x1),(int i64 x2),(int i64 x3)]) w (Rt f300 R)=
(((x1==1)->∃a,x=some a/\∃n,w.cell? (a.add 17)=some (int .u64 n)/\Call prog 158 [int .u64 n,I x2] w fun e w'=>∃n,e=Z (int .u64 n)/\∃a,x=some a/\Wr w' (a.add 17) [int .u64 n] fun w'=>R (Z (.bool true)) w')/\((x1==1)=false->((x1==2)->Call prog 356 [pointer x,I x2] w fun e w'=>∃b,e=Z (.bool b)/\R (Z (.bool b)) w')/\((x1==2)=false->((x1==3)->∃a,x=some a/\∃p,w.cell? (add (a.add 0) 2)=some (pointer p)/\Call prog 357 [pointer p,I x2,I x3] w fun e w'=>∃n n_1,e=Z (tuple #[I n,I n_1])/\R (Z (.bool (n_1 !=0))) w')/\((x1==3)=false->((x1==4)->∃a,x=some a/\∃p,w.cell? (add (a.add 0) 5)=some (pointer p)/\Call prog 358 [pointer p,I x2] w fun e w'=>∃n n_1,e=Z (tuple #[I n,I n_1])/\R (Z (.bool (n_1 !=0))) w')/\((x1==4)=false->((x1==5)->∃a,x=some a/\∃p,w.cell? (add (a.add 0) 6)=some (pointer p)/\Call prog 359 [pointer p,I x2,I x3] w fun e w'=>∃n n_1,e=Z (tuple #[I n,I n_1])/\R (Z (.bool (n_1 !=0))) w')/\((x1==5)=false->((x1==6)->Call prog 360 [pointer x,I x2,I x3] w fun e w'=>∃b,e=Z (.bool b)/\R (Z (.bool b)) w')/\((x1==6)=false->((x1==7)->∃a,x=some a/\∃p,w.cell? (add (a.add 0) 7)=some (pointer p)/\Call prog 355 [pointer p,I x2] w fun e w'=>∃n n_1,e=Z (tuple #[I n,I n_1])/\R (Z (.bool true)) w')/\((x1==7)=false->((x1==8)->∃a,x=some a/\∃p,w.cell? (add (a.add 0) 8)=some (pointer p)/\Call prog 361 [pointer p,I x2,I x3] w fun e w'=>∃n,e=Z (I n)/\R (Z (.bool true)) w')/\((x1==8)=false->∃a,x=some a/\∃n,w.cell? (a.add 16)=some (int .u64 n)/\Call prog 158 [int .u64 n,I x2] w fun e w'=>∃n,e=Z (int .u64 n)/\∃a,x=some a/\Wr w' (a.add 16) [int .u64 n] fun w'=>∃a,x=some a/\∃p,w'.cell? (add (a.add 0) 12)=some (pointer p)/\Call prog 354 [pointer p,I x2,.bool false] w' fun e w'=>∃n,e=Z (I n)/\R (Z (.bool true)) w'))))))))):=by kernel_rfl
def M356:Mt:={N:=31,keep:=kp 0 [[0,1],[0,1,5],[0,1,5,15],[4],[0,1,5],[],[4]],ords:=[(4,[0,1,2,3,4,5,6,7,8])]}
noncomputable def c356:Code:=bodyOf f356
theorem u356:UT 356 M356 c356 f356:=fun h i=>u_ func356 (by kernel_rfl) h i
theorem t356 (x x1 w R):den prog M356 c356 (argE 0 [(pointer x),(int i64 x1)]) w (Rt f356 R)=
(∃a,x=some a/\∃p,w.cell? (add (a.add 0) 1)=some (pointer p)/\Call prog 88 [pointer p,I x1] w fun e w'=>∃p n c,e=Z (slice p n c)/\(((↑n:Int)==0)->R (Z (.bool true)) w')/\(((↑n:Int)==0)=false->Sm w' fun w'_1=>∃a,x=some a/\∃p_1,w'_1.cell? (add (a.add 0) 1)=some (pointer p_1)/\((0:Int)<=0/\0<(↑n:Int))/\∃a,p=some a/\∃n_1,w'_1.cell? (a.add 0)=some (I n_1)/\Call prog 237 [pointer p_1,I n_1] w'_1 fun e w'=>∃n_2,e=Z (I n_2)/\((0:Int)<=0/\0<(↑n:Int))/\∃a,p=some a/\∃n,w'.cell? (a.add 0)=some (I n)/\Call prog 126 [pointer x,I n,I x1] w' fun e w'=>e=Z (tuple #[])/\R (Z (.bool false)) w')):=by kernel_rfl
def M360:Mt:={N:=63,keep:=kp 0 [[0,1,2],[0,1,2,9],[],[6],[0,1,32],[6],[0,1,46,47,48],[0,1,46,47,48,49],[0,1,8,46,47,48],[0,1,46,47,48],[0,1,46,47,48],[],[6]],ords:=[(2,[0,1,2,3,4,5,6,7,8,9,12,10,11,13,14])],bk:=[(0,[0,1]),(1,[0]),(2,[0,1,46,47,48])],cuts:=[(11,[0])],lk:=[(7,[0,1,46,47,48])]}
noncomputable def c360:Code:=bodyOf f360
noncomputable def c360_0:Code:=c360.sr.sr.sr
noncomputable def c360_1:Code:=c360.sr.sr.sl.sr.sl.sl
def e360_0 (x:Option Addr):Env:=[(0,SV.v (pointer x))]
def e360_1 (x:Option Addr) (x1:Int) (x2:Option Addr) (x3 x4:Nat) (x5 x6:Int):Env:=[(0,SV.v (pointer x)),(1,SV.v (int i64 x1)),(46,SV.v (slice x2 x3 x4)),(47,SV.v (int i64 x5)),(48,SV.v (int i64 x6))]
def k360_0 (R:RT):=Rt f360 R
def k360_1 (R:RT):=blockK 1 [0] (SQ M360 c360_0 (Rt f360 R) (Rt f360 R))
theorem u360:UT 360 M360 c360 f360:=fun h i=>u_ func360 (by kernel_rfl) h i
theorem t360 (x x1 x2 w R):den prog M360 c360 (argE 0 [(pointer x),(int i64 x1),(int i64 x2)]) w (Rt f360 R)=
(∃a,x=some a/\∃p,w.cell? (add (a.add 0) 10)=some (pointer p)/\Call prog 388 [pointer p] w fun e w'=>∃b,e=Z (.bool b)/\((!b)->Sm w' fun w'_1=>∃a,x=some a/\∃p,w'_1.cell? (add (a.add 0) 10)=some (pointer p)/\∃a_1,x=some a_1/\∃n,w'_1.cell? (a_1.add 17)=some (int .u64 n)/\New w'_1 [I x1] 3 fun p_1 w'=>w'.cell? (a_1.add 17)=some (int .u64 n)/\w'.cell? (add (a.add 0) 10)=some (pointer p)/\Call prog 179 [int .u64 n,slice (some p_1) 1 1] w' fun e w'=>∃n,e=Z (int .u64 n)/\w'.cell? (add (a.add 0) 10)=some (pointer p)/\Call prog 158 [int .u64 n,I x2] w' fun e w'=>∃n,e=Z (int .u64 n)/\w'.cell? (add (a.add 0) 10)=some (pointer p)/\Call prog 389 [pointer p,int .u64 n] w' fun e w'=>∃n,e=Z (I n)/\R (Z (.bool false)) w')/\((!b)=false->∃a,x=some a/\∃p,w'.cell? (add (a.add 0) 10)=some (pointer p)/\Call prog 390 [pointer p] w' fun e w'=>∃b,e=Z (.bool b)/\((!b)->R (Z (.bool false)) w')/\((!b)=false->∃a,x=some a/\∃p,w'.cell? (add (a.add 0) 4)=some (pointer p)/\Call prog 291 [pointer p,I x1] w' fun e w'=>∃p n c,e=Z (slice p n c)/\Cut (WP prog 63 (Code.loop c360_1) (e360_1 x x1 p n c (↑n:Int) 0) w' (k360_1 R))))):=by kernel_rfl
theorem t360_0 (x w R):den prog M360 c360_0 (e360_0 x) w (k360_0 R)=
(∃a,x=some a/\∃p,w.cell? (add (a.add 0) 10)=some (pointer p)/\Call prog 391 [pointer p] w fun e w'=>∃n,e=Z (I n)/\R (Z (.bool true)) w'):=by kernel_rfl
theorem t360_1 (x x1 x2 x3 x4 x5 x6 w B360_1 R):den prog M360 c360_1 (e360_1 x x1 x2 x3 x4 x5 x6) w (loopK B360_1 (k360_1 R))=
((decide (x6<x5)->(0<=x6/\x6<(↑x3:Int))/\∃a,x2=some a/\∃n,w.cell? (add a (Int.toNat x6*1))=some (I n)/\Call prog 138 [pointer x,I n,I x1] w fun e w'=>e=Z (tuple #[])/\B360_1 [(0,SV.v (pointer x)),(1,SV.v (I x1)),(46,SV.v (slice x2 x3 x4)),(47,SV.v (I x5)),(48,SV.v (I (wrap i64 (x6+1))))] w')/\(decide (x6<x5)=false->CutD prog M360 c360_0 (e360_0 x) w (k360_0 R))):=by kernel_rfl
end Go.Dav
namespace Go.Dav
open Go.Proofs
open Value IntKind Ending World Addr Tryz
set_option maxRecDepth 100000
def M3:Mt:={N:=98,keep:=kp 0 [[0,1],[0,1,5,6],[0,1,5,26],[4],[0,1,5,7],[0,1,5,7,8],[0,1,5,7,8,33],[0,1,5,7,8],[0,1,5,7,8,9],[0,1,5,7,8,9,47],[0,1,5,7,8,9],[0,1,5,7,8,9,52],[0,1,5,7,8],[0,5,10],[0,5,10,57],[0,5,10],[0,5,10],[0,5,11],[0,5,11,12],[0,5,11,12,65],[0,5,11,12],[0,5,11,12],[5,11,13],[4]],bk:=[(0,[0,5]),(1,[0,1,5,7,8]),(2,[0,5]),(3,[0,5,10]),(4,[5,11]),(5,[0,5,11,12])],cuts:=[(11,[0,1,5,7,8,9]),(13,[0,5]),(17,[0,5]),(22,[5,11])],lk:=[(6,[0,1,5,7,8]),(14,[0,5,10]),(19,[0,5,11,12])]}
noncomputable def c3:Code:=bodyOf f3
noncomputable def c3_0:Code:=c3.sr.sr.sr.sr.sr
noncomputable def c3_1:Code:=c3.sr.sr.sr.sr.sr.sr
noncomputable def c3_2:Code:=c3.sr.sr.sr.sr.sl.sr.sl.sl
noncomputable def c3_3:Code:=c3.sr.sr.sr.sr.sr.sr.sr.sr
noncomputable def c3_4:Code:=c3.sr.sr.sr.sr.sr.sl.sr.sl.sl
noncomputable def c3_5:Code:=c3.sr.sr.sr.sr.sl.sr.sl.sl.sr.sr
noncomputable def c3_6:Code:=c3.sr.sr.sr.sr.sr.sr.sr.sl.sr.sl.sl
noncomputable def c3_7:Code:=c3.sr.sr.sr.sr.sl.sr.sl.sl.sr.sl.sl.sr.sr
def e3_0 (x:Int) (x1:Option Addr):Env:=[(0,SV.v (int i64 x)),(5,SV.v (pointer x1))]
def e3_2 (x:Int) (x1:Option Addr) (x2 x3:Nat) (x4:Option Addr) (x5 x6:Int):Env:=[(0,SV.v (int i64 x)),(1,SV.v (slice x1 x2 x3)),(5,SV.v (pointer x4)),(7,SV.v (int .u64 x5)),(8,SV.v (int i64 x6))]
def e3_7 (x:Int) (x1:Option Addr) (x2 x3:Nat) (x4:Option Addr) (x5 x6:Int) (x7:Addr):Env:=[(0,SV.v (int i64 x)),(1,SV.v (slice x1 x2 x3)),(5,SV.v (pointer x4)),(7,SV.v (int .u64 x5)),(8,SV.v (int i64 x6)),(9,SV.v (pointer (some x7)))]
def e3_1 (x:Int) (x1:Option Addr):Env:=[(0,SV.v (int i64 x)),(5,SV.v (pointer x1))]
def e3_4 (x:Int) (x1:Option Addr) (x2:Int):Env:=[(0,SV.v (int i64 x)),(5,SV.v (pointer x1)),(10,SV.v (int i64 x2))]
def e3_3 (x x1:Option Addr) (x2 x3:Nat):Env:=[(5,SV.v (pointer x)),(11,SV.v (slice x1 x2 x3))]
def e3_6 (x:Int) (x1 x2:Option Addr) (x3 x4:Nat) (x5:Int):Env:=[(0,SV.v (int i64 x)),(5,SV.v (pointer x1)),(11,SV.v (slice x2 x3 x4)),(12,SV.v (int i64 x5))]
def k3_0 (R:RT):=Rt f3 R
def k3_2 (R:RT):=blockK 0 [0,5] (SQ M3 c3_0 (Rt f3 R) (Rt f3 R))
def k3_7 (B3_2:Env->World->Prop) (R:Ending->World->Prop):Cont:=blockK 1 [0,1,5,7,8] (seqK (fun E w=>cutB (findL M3.cuts (headReg c3_5)) prog M3 c3_5 E w (loopK B3_2 (blockK 0 [0,5] (seqK (fun E w=>cutB (findL M3.cuts (headReg c3_0)) prog M3 c3_0 E w (Rt f3 R) fun E=>den prog M3 c3_0 E w (Rt f3 R)) (Rt f3 R)))) fun E=>den prog M3 c3_5 E w (loopK B3_2 (blockK 0 [0,5] (seqK (fun E w=>cutB (findL M3.cuts (headReg c3_0)) prog M3 c3_0 E w (Rt f3 R) fun E=>den prog M3 c3_0 E w (Rt f3 R)) (Rt f3 R))))) (loopK B3_2 (blockK 0 [0,5] (seqK (fun E w=>cutB (findL M3.cuts (headReg c3_0)) prog M3 c3_0 E w (Rt f3 R) fun E=>den prog M3 c3_0 E w (Rt f3 R)) (Rt f3 R)))))
def k3_1 (R:RT):=Rt f3 R
def k3_4 (R:RT):=blockK 2 [0,5] (SQ M3 c3_1 (Rt f3 R) (Rt f3 R))
def k3_3 (R:RT):=Rt f3 R
def k3_6 (R:RT):=blockK 4 [5,11] (SQ M3 c3_3 (Rt f3 R) (Rt f3 R))
theorem b3:f3.body=some c3:=by kernel_rfl
theorem n3:f3.ntmps=M3.N:=by kernel_rfl
theorem u3:UT 3 M3 c3 f3:=fun h i=>u_ func3 (by kernel_rfl) h i
theorem t3 (x x1 x2 x3 w R):den prog M3 c3 (argE 0 [(int i64 x),(slice x1 x2 x3)]) w (Rt f3 R)=
(Call prog 8 [I x] w fun e w'=>∃p n,e=Z (tuple #[pointer p,I n])/\((n !=0)=false->Call prog 9 [I x,slice x1 x2 x3] w' fun e w'=>∃b,e=Z (.bool b)/\((!b)->Call prog 10 [] w' fun e w'=>∃b,e=Z (.bool b)/\R (Z (.bool b)) w')/\((!b)=false->Call prog 11 [I x] w' fun e w'=>∃n,e=Z (int .u64 n)/\Cut (WP prog 98 (Code.loop c3_2) (e3_2 x x1 x2 x3 p n 0) w' (k3_2 R))))/\((n !=0)->Call prog 10 [] w' fun e w'=>∃b,e=Z (.bool b)/\R (Z (.bool b)) w')):=by kernel_rfl
theorem t3_0 (x x1 w R):den prog M3 c3_0 (e3_0 x x1) w (k3_0 R)=
(Cut (WP prog 98 (Code.loop c3_4) (e3_4 x x1 0) w (k3_4 R))):=by kernel_rfl
theorem t3_2 (x x1 x2 x3 x4 x5 x6 w B3_2 R):den prog M3 c3_2 (e3_2 x x1 x2 x3 x4 x5 x6) w (loopK B3_2 (k3_2 R))=
((decide (x6<(↑x2:Int))->(0<=x6/\x6<(↑x2:Int))/\∃a,x1=some a/\∃n,w.cell? (add (add a (Int.toNat x6*5)) 0)=some (I n)/\∃n_1,w.cell? (add (add a (Int.toNat x6*5)) 1)=some (I n_1)/\∃n_2,w.cell? (add (add a (Int.toNat x6*5)) 2)=some (I n_2)/\∃n_3,w.cell? (add (add a (Int.toNat x6*5)) 3)=some (int .u64 n_3)/\∃n_4,w.cell? (add (add a (Int.toNat x6*5)) 4)=some (I n_4)/\New w [I 0,I 0,I 0,int .u64 0,I 0] 33 fun p w'=>Wr w' p [I n,I n_1,I n_2,int .u64 n_3,I n_4] fun w'=>∃n,w'.cell? (p.add 0)=some (I n)/\((n==3)=false->∃n,w'.cell? (p.add 0)=some (I n)/\((n==8)->Wr w' (p.add 3) [int .u64 x5] fun w'=>CutD prog M3 c3_7 (e3_7 x x1 x2 x3 x4 x5 x6 p) w' (k3_7 B3_2 R))/\((n==8)=false->CutD prog M3 c3_7 (e3_7 x x1 x2 x3 x4 x5 x6 p) w' (k3_7 B3_2 R)))/\((n==3)->Wr w' (p.add 3) [int .u64 x5] fun w'=>CutD prog M3 c3_7 (e3_7 x x1 x2 x3 x4 x5 x6 p) w' (k3_7 B3_2 R)))/\(decide (x6<(↑x2:Int))=false->CutD prog M3 c3_0 (e3_0 x x4) w (k3_0 R))):=by kernel_rfl
theorem t3_7 (x x1 x2 x3 x4 x5 x6 x7 w B3_2 R):den prog M3 c3_7 (e3_7 x x1 x2 x3 x4 x5 x6 x7) w (k3_7 B3_2 R)=
(∃n,w.cell? (x7.add 0)=some (I n)/\((n !=24)->∃n,w.cell? (x7.add 0)=some (I n)/\∃n_1,w.cell? (x7.add 1)=some (I n_1)/\∃n_2,w.cell? (x7.add 2)=some (I n_2)/\∃n_3,w.cell? (x7.add 3)=some (int .u64 n_3)/\∃n_4,w.cell? (x7.add 4)=some (I n_4)/\Call prog 12 [pointer x4,agg #[I n,I n_1,I n_2,int .u64 n_3,I n_4]] w fun e w'=>∃p n c,e=Z (slice p n c)/\B3_2 [(0,SV.v (I x)),(1,SV.v (slice x1 x2 x3)),(5,SV.v (pointer x4)),(7,SV.v (int .u64 x5)),(8,SV.v (I (wrap i64 (x6+1))))] w')/\((n !=24)=false->B3_2 [(0,SV.v (I x)),(1,SV.v (slice x1 x2 x3)),(5,SV.v (pointer x4)),(7,SV.v (int .u64 x5)),(8,SV.v (I (wrap i64 (x6+1))))] w)):=by kernel_rfl
theorem t3_1 (x x1 w R):den prog M3 c3_1 (e3_1 x x1) w (k3_1 R)=
(Cut (WP prog 98 (Code.loop c3_6) (e3_6 x x1 none 0 0 0) w (k3_6 R))):=by kernel_rfl
theorem t3_4 (x x1 x2 w B3_4 R):den prog M3 c3_4 (e3_4 x x1 x2) w (loopK B3_4 (k3_4 R))=
((decide (x2<40)->Call prog 12 [pointer x1,agg #[I 30,I 0,I 0,int .u64 0,I 0]] w fun e w'=>∃p n c,e=Z (slice p n c)/\B3_4 [(0,SV.v (I x)),(5,SV.v (pointer x1)),(10,SV.v (I (wrap i64 (x2+1))))] w')/\(decide (x2<40)=false->CutD prog M3 c3_1 (e3_1 x x1) w (k3_1 R))):=by kernel_rfl
theorem t3_3 (x x1 x2 x3 w R):den prog M3 c3_3 (e3_3 x x1 x2 x3) w (k3_3 R)=
(Call prog 12 [pointer x,agg #[I 30,I 0,I 0,int .u64 0,I 0]] w fun e w'=>∃p n c,e=Z (slice p n c)/\Call prog 16 [pointer x] w' fun e w'=>∃n_1,e=Z (int .u64 n_1)/\Call prog 15 [slice x1 x2 x3,int .u64 n_1] w' fun e w'=>∃n_2,e=Z (I n_2)/\(decide (n_2<2)->(((↑n:Int)==1)->((0:Int)<=0/\0<(↑n:Int))/\∃a,p=some a/\∃n,w'.cell? (add (a.add 0) 2)=some (I n)/\((n==0)->Call prog 10 [] w' fun e w'=>∃b,e=Z (.bool b)/\R (Z (.bool b)) w')/\((n==0)=false->R (Z (.bool false)) w'))/\(((↑n:Int)==1)=false->R (Z (.bool false)) w'))/\(decide (n_2<2)=false->R (Z (.bool false)) w')):=by kernel_rfl
theorem t3_6 (x x1 x2 x3 x4 x5 w B3_6 R):den prog M3 c3_6 (e3_6 x x1 x2 x3 x4 x5) w (loopK B3_6 (k3_6 R))=
((decide (x5<x)->Call prog 13 [pointer x1] w fun e w'=>∃p,e=Z (pointer p)/\Call prog 14 [pointer p,I x5] w' fun e w'=>∃n,e=Z (I n)/\New w' [I n] 3 fun p w'=>∃p_1 n c w'_1,Sem.run prog (Builtin.append_ #[36,36] 36 #[slice x2 x3 x4,slice (some p) 1 1]) w'=Result.ok (slice p_1 n c) w'_1/\B3_6 [(0,SV.v (I x)),(5,SV.v (pointer x1)),(11,SV.v (slice p_1 n c)),(12,SV.v (I (wrap i64 (x5+1))))] w'_1)/\(decide (x5<x)=false->CutD prog M3 c3_3 (e3_3 x1 x2 x3 x4) w (k3_3 R))):=by kernel_rfl
def M9:Mt:={N:=16,keep:=kp 0 [[0,1],[4]]}
noncomputable def c9:Code:=bodyOf f9
theorem u9:UT 9 M9 c9 f9:=fun h i=>u_ func9 (by kernel_rfl) h i
theorem t9 (x x1 x2 x3 w R):den prog M9 c9 (argE 0 [(int i64 x),(slice x1 x2 x3)]) w (Rt f9 R)=
((decide (x>=1)->(decide (x<=9)->R (Z (.bool (decide ((↑x2:Int)<=300)))) w)/\(decide (x<=9)=false->R (Z (.bool false)) w))/\(decide (x>=1)=false->R (Z (.bool false)) w)):=by kernel_rfl
def M10:Mt:={N:=56,keep:=kp 0 [[],[1,2],[1,16],[0],[1,3],[1,3,4],[1,3,4,5],[1,3,4,5,6],[1,3,4,5,6,27],[1,3,4,5,6],[1,3,4,5,6],[0]],bk:=[(0,[1,3,4,5]),(1,[1,3,4,5,6])],cuts:=[(11,[1,3,4,5])],lk:=[(8,[1,3,4,5,6])]}
noncomputable def c10:Code:=bodyOf f10
noncomputable def c10_0:Code:=c10.sr.sr.sr.sr.sr.sr.sr
noncomputable def c10_1:Code:=c10.sr.sr.sr.sr.sr.sr.sl.sr.sl.sl
def e10_0 (x x1:Option Addr) (x2 x3:Nat) (x4:Option Addr) (x5 x6:Nat) (x7:Option Addr) (x8 x9:Nat):Env:=[(1,SV.v (pointer x)),(3,SV.v (slice x1 x2 x3)),(4,SV.v (slice x4 x5 x6)),(5,SV.v (slice x7 x8 x9))]
def e10_1 (x x1:Option Addr) (x2 x3:Nat) (x4:Option Addr) (x5 x6:Nat) (x7:Option Addr) (x8 x9:Nat) (x10:Int):Env:=[(1,SV.v (pointer x)),(3,SV.v (slice x1 x2 x3)),(4,SV.v (slice x4 x5 x6)),(5,SV.v (slice x7 x8 x9)),(6,SV.v (int i64 x10))]
def k10_0 (R:RT):=Rt f10 R
def k10_1 (R:RT):=blockK 0 [1,3,4,5] (SQ M10 c10_0 (Rt f10 R) (Rt f10 R))
theorem u10:UT 10 M10 c10 f10:=fun h i=>u_ func10 (by kernel_rfl) h i
theorem t10 (w R):den prog M10 c10 (argE 0 []) w (Rt f10 R)=
(Call prog 8 [I 2] w fun e w'=>∃p n,e=Z (tuple #[pointer p,I n])/\((n !=0)=false->(p.isNone->R (Z (.bool false)) w')/\(p.isNone=false->Call prog 12 [pointer p,agg #[I 3,I 0,I 2,int .u64 3,I 0]] w' fun e w'=>∃p_1 n c,e=Z (slice p_1 n c)/\Call prog 12 [pointer p,agg #[I 1,I 1,I 0,int .u64 0,I 0]] w' fun e w'=>∃p_2 n_1 c_1,e=Z (slice p_2 n_1 c_1)/\Call prog 12 [pointer p,agg #[I 24,I 1,I 0,int .u64 0,I 0]] w' fun e w'=>∃p_3 n_2 c_2,e=Z (slice p_3 n_2 c_2)/\Cut (WP prog 56 (Code.loop c10_1) (e10_1 p p_1 n c p_2 n_1 c_1 p_3 n_2 c_2 0) w' (k10_1 R))))/\((n !=0)->R (Z (.bool false)) w')):=by kernel_rfl
theorem t10_0 (x x1 x2 x3 x4 x5 x6 x7 x8 x9 w R):den prog M10 c10_0 (e10_0 x x1 x2 x3 x4 x5 x6 x7 x8 x9) w (k10_0 R)=
(New w [I 1,I 0,I 1,I 0,I 0] 43 fun p w'=>Call prog 59 [slice x1 x2 x3,slice (some p) 1 1] w' fun e w'=>∃b,e=Z (.bool b)/\(b->New w' [I 2,I 1,I 1,I 0,I 0] 43 fun p w'=>Call prog 59 [slice x4 x5 x6,slice (some p) 1 1] w' fun e w'=>∃b,e=Z (.bool b)/\(b->New w' [I 1,I 0,I 0,I 0,I 0] 43 fun p w'=>Call prog 59 [slice x7 x8 x9,slice (some p) 1 1] w' fun e w'=>∃b,e=Z (.bool b)/\(b->Call prog 22 [pointer x] w' fun e w'=>∃n,e=Z (int .u64 n)/\R (Z (.bool (n==1))) w')/\(b=false->R (Z (.bool false)) w'))/\(b=false->R (Z (.bool false)) w'))/\(b=false->R (Z (.bool false)) w')):=by kernel_rfl
theorem t10_1 (x x1 x2 x3 x4 x5 x6 x7 x8 x9 x10 w B10_1 R):den prog M10 c10_1 (e10_1 x x1 x2 x3 x4 x5 x6 x7 x8 x9 x10) w (loopK B10_1 (k10_1 R))=
((decide (x10<40)->(2:Int)≠0/\Call prog 12 [pointer x,agg #[I 1,I (Int.tmod x10 2),I 0,int .u64 0,I 0]] w fun e w'=>∃p n c,e=Z (slice p n c)/\B10_1 [(1,SV.v (pointer x)),(3,SV.v (slice x1 x2 x3)),(4,SV.v (slice x4 x5 x6)),(5,SV.v (slice x7 x8 x9)),(6,SV.v (I (wrap i64 (x10+1))))] w')/\(decide (x10<40)=false->CutD prog M10 c10_0 (e10_0 x x1 x2 x3 x4 x5 x6 x7 x8 x9) w (k10_0 R))):=by kernel_rfl
def M15:Mt:={N:=17,keep:=kp 0 [[0,1],[5],[5,11],[4],[4]]}
noncomputable def c15:Code:=bodyOf f15
theorem u15:UT 15 M15 c15 f15:=fun h i=>u_ func15 (by kernel_rfl) h i
theorem t15 (x x1 x2 x3 w R):den prog M15 c15 (argE 0 [(slice x x1 x2),(int .u64 x3)]) w (Rt f15 R)=
(Call prog 75 [slice x x1 x2,int .u64 x3] w fun e w'=>∃p n c,e=Z (slice p n c)/\(((↑n:Int)==0)->R (Z (I 0)) w')/\(((↑n:Int)==0)=false->Call prog 76 [slice p n c] w' fun e w'=>∃n_1,e=Z (I n_1)/\Call prog 77 [slice p n c] w' fun e w'=>∃n,e=Z (I n)/\R (Z (I (wrap i64 (n_1-n)))) w')):=by kernel_rfl
def M59:Mt:={N:=26,keep:=kp 0 [[0,1],[0,1,10],[4],[0,1,5],[0,1,5,14],[0,1,5],[0,1,5,25],[4],[4]],ords:=[(6,[0,1,2,3,4,5,6,7,8])],bk:=[(0,[]),(1,[0,1,5])],lk:=[(4,[0,1,5])]}
noncomputable def c59:Code:=bodyOf f59
noncomputable def c59_0:Code:=c59.sr.sr.sr
noncomputable def c59_1:Code:=c59.sr.sr.sl.sr.sl.sl
def e59_1 (x:Option Addr) (x1 x2:Nat) (x3:Option Addr) (x4 x5:Nat) (x6:Int):Env:=[(0,SV.v (slice x x1 x2)),(1,SV.v (slice x3 x4 x5)),(5,SV.v (int i64 x6))]
def k59_1 (R:RT):=blockK 0 [] (SQ M59 c59_0 (Rt f59 R) (Rt f59 R))
theorem u59:UT 59 M59 c59 f59:=fun h i=>u_ func59 (by kernel_rfl) h i
theorem t59 (x x1 x2 x3 x4 x5 w R):den prog M59 c59 (argE 0 [(slice x x1 x2),(slice x3 x4 x5)]) w (Rt f59 R)=
((((↑x1:Int) !=(↑x4:Int))->R (Z (.bool false)) w)/\(((↑x1:Int) !=(↑x4:Int))=false->Cut (WP prog 26 (Code.loop c59_1) (e59_1 x x1 x2 x3 x4 x5 0) w (k59_1 R)))):=by kernel_rfl
theorem t59_1 (x x1 x2 x3 x4 x5 x6 w B59_1 R):den prog M59 c59_1 (e59_1 x x1 x2 x3 x4 x5 x6) w (loopK B59_1 (k59_1 R))=
((decide (x6<(↑x1:Int))->Sm w fun w'=>(0<=x6/\x6<(↑x1:Int))/\∃a,x=some a/\∃n,w'.cell? (add (add a (Int.toNat x6*5)) 0)=some (I n)/\∃n_1,w'.cell? (add (add a (Int.toNat x6*5)) 1)=some (I n_1)/\∃n_2,w'.cell? (add (add a (Int.toNat x6*5)) 2)=some (I n_2)/\∃n_3,w'.cell? (add (add a (Int.toNat x6*5)) 3)=some (I n_3)/\∃n_4,w'.cell? (add (add a (Int.toNat x6*5)) 4)=some (I n_4)/\(0<=x6/\x6<(↑x4:Int))/\∃a,x3=some a/\∃n_5,w'.cell? (add (add a (Int.toNat x6*5)) 0)=some (I n_5)/\∃n_6,w'.cell? (add (add a (Int.toNat x6*5)) 1)=some (I n_6)/\∃n_7,w'.cell? (add (add a (Int.toNat x6*5)) 2)=some (I n_7)/\∃n_8,w'.cell? (add (add a (Int.toNat x6*5)) 3)=some (I n_8)/\∃n_9,w'.cell? (add (add a (Int.toNat x6*5)) 4)=some (I n_9)/\∃b,Sem.run prog (Op.equal 43 (agg #[I n,I n_1,I n_2,I n_3,I n_4]) (agg #[I n_5,I n_6,I n_7,I n_8,I n_9])) w'=Result.ok b w'/\false=false/\((!b)->R (Z (.bool false)) w')/\((!b)=false->B59_1 [(0,SV.v (slice x x1 x2)),(1,SV.v (slice x3 x4 x5)),(5,SV.v (I (wrap i64 (x6+1))))] w'))/\(decide (x6<(↑x1:Int))=false->R (Z (.bool true)) w)):=by kernel_rfl
def M75:Mt:={N:=24,keep:=kp 0 [[0,1],[0,1,5],[1,5,8,9,10],[1,5,8,9,10,11],[1,5,6,7,8,9,10],[1,5,7,8,9,10,17],[1,5,8,9,10],[1,5,8,9,10],[4]],bk:=[(0,[5]),(1,[1,5,8,9,10])],lk:=[(3,[1,5,8,9,10])]}
noncomputable def c75:Code:=bodyOf f75
noncomputable def c75_0:Code:=c75.sr.sr.sr
noncomputable def c75_1:Code:=c75.sr.sr.sl.sr.sl.sl
def e75_1 (x:Int) (x1:Option Addr) (x2 x3:Nat) (x4:Option Addr) (x5 x6:Nat) (x7 x8:Int):Env:=[(1,SV.v (int .u64 x)),(5,SV.v (slice x1 x2 x3)),(8,SV.v (slice x4 x5 x6)),(9,SV.v (int i64 x7)),(10,SV.v (int i64 x8))]
def k75_1 (R:RT):=blockK 0 [5] (SQ M75 c75_0 (Rt f75 R) (Rt f75 R))
theorem u75:UT 75 M75 c75 f75:=fun h i=>u_ func75 (by kernel_rfl) h i
theorem t75 (x x1 x2 x3 w R):den prog M75 c75 (argE 0 [(slice x x1 x2),(int .u64 x3)]) w (Rt f75 R)=
(Cut (WP prog 24 (Code.loop c75_1) (e75_1 x3 none 0 0 x x1 x2 (↑x1:Int) 0) w (k75_1 R))):=by kernel_rfl
theorem t75_1 (x x1 x2 x3 x4 x5 x6 x7 x8 w B75_1 R):den prog M75 c75_1 (e75_1 x x1 x2 x3 x4 x5 x6 x7 x8) w (loopK B75_1 (k75_1 R))=
((decide (x8<x7)->(0<=x8/\x8<(↑x5:Int))/\∃a,x4=some a/\∃n,w.cell? (add a (Int.toNat x8*1))=some (I n)/\Call prog 23 [int .u64 x,I x8] w fun e w'=>∃b,e=Z (.bool b)/\(b->New w' [I n] 3 fun p w'=>∃p_1 n c w'_1,Sem.run prog (Builtin.append_ #[36,36] 36 #[slice x1 x2 x3,slice (some p) 1 1]) w'=Result.ok (slice p_1 n c) w'_1/\B75_1 [(1,SV.v (int .u64 x)),(5,SV.v (slice p_1 n c)),(8,SV.v (slice x4 x5 x6)),(9,SV.v (I x7)),(10,SV.v (I (wrap i64 (x8+1))))] w'_1)/\(b=false->B75_1 [(1,SV.v (int .u64 x)),(5,SV.v (slice x1 x2 x3)),(8,SV.v (slice x4 x5 x6)),(9,SV.v (I x7)),(10,SV.v (I (wrap i64 (x8+1))))] w'))/\(decide (x8<x7)=false->R (Z (slice x1 x2 x3)) w)):=by kernel_rfl
def M76:Mt:={N:=25,keep:=kp 0 [[0],[0,7],[0],[0,3],[0,3,4],[0,3,4,15],[0,3,4],[0,3,4],[2]],bk:=[(0,[3]),(1,[0,3,4])],cuts:=[(3,[0])],lk:=[(5,[0,3,4])]}
noncomputable def c76:Code:=bodyOf f76
noncomputable def c76_0:Code:=c76.sr.sr
noncomputable def c76_1:Code:=c76.sr.sr.sr.sr
noncomputable def c76_2:Code:=c76.sr.sr.sr.sl.sr.sl.sl
def e76_0 (x:Option Addr) (x1 x2:Nat):Env:=[(0,SV.v (slice x x1 x2))]
def e76_2 (x:Option Addr) (x1 x2:Nat) (x3 x4:Int):Env:=[(0,SV.v (slice x x1 x2)),(3,SV.v (int i64 x3)),(4,SV.v (int i64 x4))]
def k76_0 (R:RT):=Rt f76 R
def k76_2 (R:RT):=blockK 0 [3] (SQ M76 c76_1 (Rt f76 R) (Rt f76 R))
theorem u76:UT 76 M76 c76 f76:=fun h i=>u_ func76 (by kernel_rfl) h i
theorem t76 (x x1 x2 w R):den prog M76 c76 (argE 0 [(slice x x1 x2)]) w (Rt f76 R)=
((decide ((↑x1:Int)<1)->False)/\(decide ((↑x1:Int)<1)=false->CutD prog M76 c76_0 (e76_0 x x1 x2) w (k76_0 R))):=by kernel_rfl
theorem t76_0 (x x1 x2 w R):den prog M76 c76_0 (e76_0 x x1 x2) w (k76_0 R)=
(((0:Int)<=0/\0<(↑x1:Int))/\∃a,x=some a/\∃n,w.cell? (a.add 0)=some (I n)/\Cut (WP prog 25 (Code.loop c76_2) (e76_2 x x1 x2 n 1) w (k76_2 R))):=by kernel_rfl
theorem t76_2 (x x1 x2 x3 x4 w B76_2 R):den prog M76 c76_2 (e76_2 x x1 x2 x3 x4) w (loopK B76_2 (k76_2 R))=
((decide (x4<(↑x1:Int))->(0<=x4/\x4<(↑x1:Int))/\∃a,x=some a/\∃n,w.cell? (add a (Int.toNat x4*1))=some (I n)/\∃n_1 w',Sem.run prog (Builtin.max_ #[3,3] 3 #[I x3,I n]) w=Result.ok (I n_1) w'/\B76_2 [(0,SV.v (slice x x1 x2)),(3,SV.v (I n_1)),(4,SV.v (I (wrap i64 (x4+1))))] w')/\(decide (x4<(↑x1:Int))=false->R (Z (I x3)) w)):=by kernel_rfl
def M77:Mt:={N:=25,keep:=kp 0 [[0],[0,7],[0],[0,3],[0,3,4],[0,3,4,15],[0,3,4],[0,3,4],[2]],bk:=[(0,[3]),(1,[0,3,4])],cuts:=[(3,[0])],lk:=[(5,[0,3,4])]}
noncomputable def c77:Code:=bodyOf f77
noncomputable def c77_0:Code:=c77.sr.sr
noncomputable def c77_1:Code:=c77.sr.sr.sr.sr
noncomputable def c77_2:Code:=c77.sr.sr.sr.sl.sr.sl.sl
def e77_0 (x:Option Addr) (x1 x2:Nat):Env:=[(0,SV.v (slice x x1 x2))]
def e77_2 (x:Option Addr) (x1 x2:Nat) (x3 x4:Int):Env:=[(0,SV.v (slice x x1 x2)),(3,SV.v (int i64 x3)),(4,SV.v (int i64 x4))]
def k77_0 (R:RT):=Rt f77 R
def k77_2 (R:RT):=blockK 0 [3] (SQ M77 c77_1 (Rt f77 R) (Rt f77 R))
theorem u77:UT 77 M77 c77 f77:=fun h i=>u_ func77 (by kernel_rfl) h i
theorem t77 (x x1 x2 w R):den prog M77 c77 (argE 0 [(slice x x1 x2)]) w (Rt f77 R)=
((decide ((↑x1:Int)<1)->False)/\(decide ((↑x1:Int)<1)=false->CutD prog M77 c77_0 (e77_0 x x1 x2) w (k77_0 R))):=by kernel_rfl
theorem t77_0 (x x1 x2 w R):den prog M77 c77_0 (e77_0 x x1 x2) w (k77_0 R)=
(((0:Int)<=0/\0<(↑x1:Int))/\∃a,x=some a/\∃n,w.cell? (a.add 0)=some (I n)/\Cut (WP prog 25 (Code.loop c77_2) (e77_2 x x1 x2 n 1) w (k77_2 R))):=by kernel_rfl
theorem t77_2 (x x1 x2 x3 x4 w B77_2 R):den prog M77 c77_2 (e77_2 x x1 x2 x3 x4) w (loopK B77_2 (k77_2 R))=
((decide (x4<(↑x1:Int))->(0<=x4/\x4<(↑x1:Int))/\∃a,x=some a/\∃n,w.cell? (add a (Int.toNat x4*1))=some (I n)/\∃n_1 w',Sem.run prog (Builtin.min_ #[3,3] 3 #[I x3,I n]) w=Result.ok (I n_1) w'/\B77_2 [(0,SV.v (slice x x1 x2)),(3,SV.v (I n_1)),(4,SV.v (I (wrap i64 (x4+1))))] w')/\(decide (x4<(↑x1:Int))=false->R (Z (I x3)) w)):=by kernel_rfl
end Go.Dav
namespace Go.Dav
open Go.Proofs
open Value IntKind Ending World Addr Tryz
set_option maxRecDepth 100000
def M393:Mt:={N:=51,keep:=kp 0 [[0,1],[0,1,6],[0,1,6,7],[0,1,6,7,8],[0,1,6,7,8,9],[0,1,6,7,8,9,10],[0,1,6,7,9,11],[0,1,6,7,9,11,12],[0,1,6,7,9,12,13],[0,1,7,9,12,13],[0,1,4],[4,5]]}
noncomputable def c393:Code:=bodyOf f393
theorem u393:UT 393 M393 c393 f393:=fun h i=>u_ func393 (by kernel_rfl) h i
theorem t393 (x x1 w R):den prog M393 c393 (argE 0 [(int .u64 x),(int .u64 x1)]) w (Rt f393 R)=
((0:Int)<=32/\(0:Int)<=32/\(0:Int)<=32/\(0:Int)<=32/\(0:Int)<=32/\R (Z (tuple #[int .u64 (wrap .u64 (wrap .u64 (wrap .u64 (shrOp .u64 x 32*shrOp .u64 x1 32)+shrOp .u64 (wrap .u64 (wrap .u64 (shrOp .u64 x 32*bitsOp BinOp.and .u64 x1 4294967295)+shrOp .u64 (wrap .u64 (bitsOp BinOp.and .u64 x 4294967295*bitsOp BinOp.and .u64 x1 4294967295)) 32)) 32)+shrOp .u64 (wrap .u64 (bitsOp BinOp.and .u64 (wrap .u64 (wrap .u64 (shrOp .u64 x 32*bitsOp BinOp.and .u64 x1 4294967295)+shrOp .u64 (wrap .u64 (bitsOp BinOp.and .u64 x 4294967295*bitsOp BinOp.and .u64 x1 4294967295)) 32)) 4294967295+wrap .u64 (bitsOp BinOp.and .u64 x 4294967295*shrOp .u64 x1 32))) 32)),int .u64 (wrap .u64 (x*x1))])) w):=by kernel_rfl
def M362:Mt:={N:=33,keep:=kp 0 [[0],[0,11],[2],[0,3],[3,19,20],[3,19,20,21],[3,5,19,20],[3,19,20,23,24],[3,19,20,23,24,25],[3,19,20,23,24],[3,19,20,23,24,29],[3,19,20,23,24],[3,19,20],[2]],bk:=[(0,[3]),(1,[3,19,20]),(2,[3,19,20]),(3,[3,19,20,23,24])],lk:=[(5,[3,19,20]),(8,[3,19,20,23,24])]}
noncomputable def c362:Code:=bodyOf f362
noncomputable def c362_0:Code:=c362.sr.sl.sr.sr.sr.sr
noncomputable def c362_1:Code:=c362.sr.sl.sr.sr.sr.sl.sr.sl.sl
noncomputable def c362_2:Code:=c362.sr.sl.sr.sr.sr.sl.sr.sl.sl.sr.sr.sr
noncomputable def c362_3:Code:=c362.sr.sl.sr.sr.sr.sl.sr.sl.sl.sr.sr.sl.sl.sr.sr.sl.sl
def e362_1 (x:Option Addr) (x1 x2:Nat) (x3:List Value) (x4:Int):Env:=[(3,SV.v (slice x x1 x2)),(19,SV.v (agg x3.toArray)),(20,SV.v (int i64 x4))]
def e362_3 (x:Option Addr) (x1 x2:Nat) (x3:List Value) (x4:Int) (x5:Option Addr) (x6 x7:Nat) (x8:Option Addr) (x9 x10:Nat) (x11:Option Addr) (x12 x13:Nat) (x14:Option Addr) (x15 x16:Nat) (x17:Option Addr) (x18 x19:Nat) (x20:Option Addr) (x21 x22:Nat) (x23:Option Addr) (x24 x25:Nat) (x26:Option Addr) (x27 x28:Nat) (x29:Int):Env:=[(3,SV.v (slice x x1 x2)),(19,SV.v (agg x3.toArray)),(20,SV.v (int i64 x4)),(23,SV.v (agg #[(slice x5 x6 x7),(slice x8 x9 x10),(slice x11 x12 x13),(slice x14 x15 x16),(slice x17 x18 x19),(slice x20 x21 x22),(slice x23 x24 x25),(slice x26 x27 x28)])),(24,SV.v (int i64 x29))]
def k362_1 (R:RT):=blockK 0 [3] (SQ M362 c362_0 (Rt f362 R) (Rt f362 R))
def k362_3 (B362_1:Env->World->Prop) (R:Ending->World->Prop):Cont:=blockK 2 [3,19,20] (blockK 1 [3,19,20] (seqK (fun E w=>cutB (findL M362.cuts (headReg c362_2)) prog M362 c362_2 E w (loopK B362_1 (blockK 0 [3] (seqK (fun E w=>cutB (findL M362.cuts (headReg c362_0)) prog M362 c362_0 E w (Rt f362 R) fun E=>den prog M362 c362_0 E w (Rt f362 R)) (Rt f362 R)))) fun E=>den prog M362 c362_2 E w (loopK B362_1 (blockK 0 [3] (seqK (fun E w=>cutB (findL M362.cuts (headReg c362_0)) prog M362 c362_0 E w (Rt f362 R) fun E=>den prog M362 c362_0 E w (Rt f362 R)) (Rt f362 R))))) (loopK B362_1 (blockK 0 [3] (seqK (fun E w=>cutB (findL M362.cuts (headReg c362_0)) prog M362 c362_0 E w (Rt f362 R) fun E=>den prog M362 c362_0 E w (Rt f362 R)) (Rt f362 R))))))
theorem u362:UT 362 M362 c362 f362:=fun h i=>u_ func362 (by kernel_rfl) h i
theorem t362 (x w R):den prog M362 c362 (argE 0 [(pointer x)]) w (Rt f362 R)=
(∃a,x=some a/\∃p n c,w.cell? (a.add 170)=some (slice p n c)/\(decide ((↑n:Int)>0)->∃a,x=some a/\∃p n c,w.cell? (a.add 170)=some (slice p n c)/\R (Z (slice p n c)) w)/\(decide ((↑n:Int)>0)=false->∃a,x=some a/\∃cs,List.length cs=168/\(∀(j:Nat) (v:Value),cs[j]?=some v->w.cell? (add (a.add 2) j)=some v)/\Cut (WP prog 33 (Code.loop c362_1) (e362_1 none 0 0 cs 0) w (k362_1 R)))):=by kernel_rfl
theorem t362_1 (x x1 x2 x3 x4 w B362_1 R):den prog M362 c362_1 (e362_1 x x1 x2 x3 x4) w (loopK B362_1 (k362_1 R))=
((decide (x4<21)->(0<=x4/\x4<(↑21:Int))/\∃p n c p_1 n_1 c_1 p_2 n_2 c_2 p_3 n_3 c_3 p_4 n_4 c_4 p_5 n_5 c_5 p_6 n_6 c_6 p_7 n_7 c_7,List.take 8 (List.drop (Int.toNat x4*8) (Array.toList (List.toArray x3)))=[slice p n c,slice p_1 n_1 c_1,slice p_2 n_2 c_2,slice p_3 n_3 c_3,slice p_4 n_4 c_4,slice p_5 n_5 c_5,slice p_6 n_6 c_6,slice p_7 n_7 c_7]/\New w [N3,N3,N3,N3,N3,N3,N3,N3] 286 fun p_8 w'=>Wr w' p_8 [slice p n c,slice p_1 n_1 c_1,slice p_2 n_2 c_2,slice p_3 n_3 c_3,slice p_4 n_4 c_4,slice p_5 n_5 c_5,slice p_6 n_6 c_6,slice p_7 n_7 c_7] fun w'=>∃p n c,w'.cell? (p_8.add 0)=some (slice p n c)/\∃p_9 n_8 c_8,w'.cell? (p_8.add 1)=some (slice p_9 n_8 c_8)/\∃p_10 n_9 c_9,w'.cell? (p_8.add 2)=some (slice p_10 n_9 c_9)/\∃p_11 n_10 c_10,w'.cell? (p_8.add 3)=some (slice p_11 n_10 c_10)/\∃p_12 n_11 c_11,w'.cell? (p_8.add 4)=some (slice p_12 n_11 c_11)/\∃p_13 n_12 c_12,w'.cell? (p_8.add 5)=some (slice p_13 n_12 c_12)/\∃p_14 n_13 c_13,w'.cell? (p_8.add 6)=some (slice p_14 n_13 c_13)/\∃p_15 n_14 c_14,w'.cell? (p_8.add 7)=some (slice p_15 n_14 c_14)/\Cut (WP prog 33 (Code.loop c362_3) (e362_3 x x1 x2 x3 x4 p n c p_9 n_8 c_8 p_10 n_9 c_9 p_11 n_10 c_10 p_12 n_11 c_11 p_13 n_12 c_12 p_14 n_13 c_13 p_15 n_14 c_14 0) w' (k362_3 B362_1 R)))/\(decide (x4<21)=false->R (Z (slice x x1 x2)) w)):=by kernel_rfl
theorem t362_3 (x x1 x2 x3 x4 x5 x6 x7 x8 x9 x10 x11 x12 x13 x14 x15 x16 x17 x18 x19 x20 x21 x22 x23 x24 x25 x26 x27 x28 x29 w B362_1 B362_3 R):den prog M362 c362_3 (e362_3 x x1 x2 x3 x4 x5 x6 x7 x8 x9 x10 x11 x12 x13 x14 x15 x16 x17 x18 x19 x20 x21 x22 x23 x24 x25 x26 x27 x28 x29) w (loopK B362_3 (k362_3 B362_1 R))=
((decide (x29<8)->(0<=x29/\x29<(↑8:Int))/\∃p n c,[slice x5 x6 x7,slice x8 x9 x10,slice x11 x12 x13,slice x14 x15 x16,slice x17 x18 x19,slice x20 x21 x22,slice x23 x24 x25,slice x26 x27 x28][Int.toNat x29*1]?=some (slice p n c)/\(decide ((↑n:Int)>0)->R (Z (slice p n c)) w)/\(decide ((↑n:Int)>0)=false->B362_3 [(3,SV.v (slice p n c)),(19,SV.v (agg (List.toArray x3))),(20,SV.v (I x4)),(23,SV.v (agg #[slice x5 x6 x7,slice x8 x9 x10,slice x11 x12 x13,slice x14 x15 x16,slice x17 x18 x19,slice x20 x21 x22,slice x23 x24 x25,slice x26 x27 x28])),(24,SV.v (I (wrap i64 (x29+1))))] w))/\(decide (x29<8)=false->B362_1 [(3,SV.v (slice x x1 x2)),(19,SV.v (agg (List.toArray x3))),(20,SV.v (I (wrap i64 (x4+1))))] w)):=by kernel_rfl
def M344:Mt:={N:=18,keep:=kp 0 [[0],[0,3],[3,6,7,8],[3,6,7,8,9],[3,5,6,7,8],[3,5,6,7,8,14],[2],[3,6,7,8],[2]],bk:=[(0,[3]),(1,[3,6,7,8])],lk:=[(3,[3,6,7,8])]}
noncomputable def c344:Code:=bodyOf f344
noncomputable def c344_0:Code:=c344.sr.sr.sr
noncomputable def c344_1:Code:=c344.sr.sr.sl.sr.sl.sl
def e344_1 (x:Int) (x1:Option Addr) (x2 x3:Nat) (x4 x5:Int):Env:=[(3,SV.v (int i64 x)),(6,SV.v (slice x1 x2 x3)),(7,SV.v (int i64 x4)),(8,SV.v (int i64 x5))]
def k344_1 (R:RT):=blockK 0 [3] (SQ M344 c344_0 (Rt f344 R) (Rt f344 R))
theorem u344:UT 344 M344 c344 f344:=fun h i=>u_ func344 (by kernel_rfl) h i
theorem t344 (x x1 x2 w R):den prog M344 c344 (argE 0 [(slice x x1 x2)]) w (Rt f344 R)=
(Cut (WP prog 18 (Code.loop c344_1) (e344_1 0 x x1 x2 (↑x1:Int) 0) w (k344_1 R))):=by kernel_rfl
theorem t344_1 (x x1 x2 x3 x4 x5 w B344_1 R):den prog M344 c344_1 (e344_1 x x1 x2 x3 x4 x5) w (loopK B344_1 (k344_1 R))=
((decide (x5<x4)->(0<=x5/\x5<(↑x2:Int))/\∃a,x1=some a/\∃n,w.cell? (add a (Int.toNat x5*1))=some (I n)/\((n !=x)->R (Z (I n)) w)/\((n !=x)=false->B344_1 [(3,SV.v (I x)),(6,SV.v (slice x1 x2 x3)),(7,SV.v (I x4)),(8,SV.v (I (wrap i64 (x5+1))))] w))/\(decide (x5<x4)=false->R (Z (I x)) w)):=by kernel_rfl
def M345:Mt:={N:=20,keep:=kp 0 [[0,1],[0,1,5],[0,1,5,6],[0,1,6,11],[12],[4],[4],[0,1,13],[4],[0,1,16],[4],[19],[4],[4]]}
noncomputable def c345:Code:=bodyOf f345
theorem u345:UT 345 M345 c345 f345:=fun h i=>u_ func345 (by kernel_rfl) h i
theorem t345 (x x1 w R):den prog M345 c345 (argE 0 [(int i64 x),(int i64 x1)]) w (Rt f345 R)=
(Call prog 385 [I x] w fun e w'=>∃b,e=Z (.bool b)/\Call prog 385 [I x1] w' fun e w'=>∃b_1,e=Z (.bool b_1)/\(b->(b_1->R (Z (I 0)) w')/\(b_1=false->R (Z (I (-1:Int))) w'))/\(b=false->(b_1->R (Z (I 1)) w')/\(b_1=false->(decide (x<x1)->R (Z (I (-1:Int))) w')/\(decide (x<x1)=false->(decide (x>x1)->R (Z (I 1)) w')/\(decide (x>x1)=false->R (Z (I 0)) w'))))):=by kernel_rfl
def M346:Mt:={N:=20,keep:=kp 0 [[0,1],[0,1,5],[0,1,5,6],[0,1,6,11],[12],[4],[4],[0,1,13],[4],[0,1,16],[4],[19],[4],[4]]}
noncomputable def c346:Code:=bodyOf f346
theorem u346:UT 346 M346 c346 f346:=fun h i=>u_ func346 (by kernel_rfl) h i
theorem t346 (x x1 w R):den prog M346 c346 (argE 0 [(int i64 x),(int i64 x1)]) w (Rt f346 R)=
(Call prog 386 [I x] w fun e w'=>∃b,e=Z (.bool b)/\Call prog 386 [I x1] w' fun e w'=>∃b_1,e=Z (.bool b_1)/\(b->(b_1->R (Z (I 0)) w')/\(b_1=false->R (Z (I (-1:Int))) w'))/\(b=false->(b_1->R (Z (I 1)) w')/\(b_1=false->(decide (x<x1)->R (Z (I (-1:Int))) w')/\(decide (x<x1)=false->(decide (x>x1)->R (Z (I 1)) w')/\(decide (x>x1)=false->R (Z (I 0)) w'))))):=by kernel_rfl
def M385:Mt:={N:=6,keep:=kp 0 [[0],[2]]}
noncomputable def c385:Code:=bodyOf f385
theorem u385:UT 385 M385 c385 f385:=fun h i=>u_ func385 (by kernel_rfl) h i
theorem t385 (x w R):den prog M385 c385 (argE 0 [(int i64 x)]) w (Rt f385 R)=
(R (Z (.bool (x !=x))) w):=by kernel_rfl
def M386:Mt:={N:=6,keep:=kp 0 [[0],[2]]}
noncomputable def c386:Code:=bodyOf f386
theorem u386:UT 386 M386 c386 f386:=fun h i=>u_ func386 (by kernel_rfl) h i
theorem t386 (x w R):den prog M386 c386 (argE 0 [(int i64 x)]) w (Rt f386 R)=
(R (Z (.bool (x !=x))) w):=by kernel_rfl
end Go.Dav
namespace Go.Dav
open Go.Proofs
open Value IntKind Ending World Addr Tryz
set_option maxRecDepth 100000
def M343:Mt:={N:=24,keep:=kp 0 [[0,1,2],[5]],ords:=[(1,[0,1,2,3,4,5,6,7,8,9,10,11,13,14,12,15,16,17,18])],ex:=true}
noncomputable def c343:Code:=bodyOf f343
theorem u343:UT 343 M343 c343 f343:=fun h i=>u_ func343 (by kernel_rfl) h i
theorem t343 (x x1 x2 w R):den prog M343 c343 (argE 0 [(int i64 x),(int i64 x1),(pointer (some x2))]) w (Rt f343 R)=
(Sm w fun w'=>World.drawn w'=World.drawn w+1->∃p,w'.cell? x2=some (pointer p)/\∃a,p=some a/\∃r,w'.cell? (a.add 1)=some (map r)/\∃n,Sem.run prog (Instr.lookup 285 (map r) (I x) false) w'=Result.ok (I n) w'/\∃p,w'.cell? x2=some (pointer p)/\∃a,p=some a/\∃r,w'.cell? (a.add 1)=some (map r)/\∃n_1,Sem.run prog (Instr.lookup 285 (map r) (I x1) false) w'=Result.ok (I n_1) w'/\Call prog 345 [I n,I n_1] w' fun e w'=>∃n,e=Z (I n)/\Call prog 346 [I x,I x1] w' fun e w'=>∃n_2,e=Z (I n_2)/\New w' [I n,I n_2] 3 fun p w'=>Call prog 344 [slice (some p) 2 2] w' fun e w'=>∃n,e=Z (I n)/\R (Z (I n)) w'):=by kernel_rfl
end Go.Dav
namespace Go.Dav
open Go.Proofs
open Value IntKind Ending World Addr Tryz
set_option maxRecDepth 100000
namespace Fn2
def M376:Mt:={N:=23,keep:=kp 0 [[0,1],[0,1,9,10],[0,1,9,10,11],[0,1,5,9,10],[0,1,5,9,10,20],[4],[0,1,9,10],[4]],bk:=[(0,[]),(1,[0,1,9,10])],lk:=[(2,[0,1,9,10])],ref:=false}
noncomputable def c376:Code:=bodyOf f376
noncomputable def c376_0:Code:=c376.sr.sr
noncomputable def c376_1:Code:=c376.sr.sl.sr.sl.sl
def e376_1 (x:Option Addr) (x1 x2:Int):Env:=[(0,SV.v (pointer x)),(1,SV.v (func (Fn.func 378) #[] #[])),(9,SV.v (int i64 x1)),(10,SV.v (int i64 x2))]
def k376_1 (R:RT):=blockK 0 [] (SQ M376 c376_0 (Rt f376 R) (Rt f376 R))
theorem u376:UT 376 M376 c376 f376:=fun h i=>u_ func376 (by kernel_rfl) h i
theorem t376 (x w R):den prog M376 c376 (argE 0 [(pointer x),(func (Fn.func 378) #[] #[])]) w (Rt f376 R)=
(∃a,x=some a/\∃n,w.cell? (a.add 12)=some (I n)/\Cut (WP prog 23 (Code.loop c376_1) [(0,SV.v (pointer x)),(1,SV.v (func (Fn.func 378) #[] #[])),(9,SV.v (I n)),(10,SV.v (I 0))] w (k376_1 R))):=by kernel_rfl
theorem t376_1 (x x1 x2 w B376_1 R):den prog M376 c376_1 (e376_1 x x1 x2) w (loopK B376_1 (k376_1 R))=
((decide (x2<x1)->∃a,x=some a/\(0<=x2/\x2<(↑12:Int))/\∃n,w.cell? (add (a.add 0) (Int.toNat x2*1))=some (int IntKind.u8 n)/\Call prog 378 [int IntKind.u8 n] w fun e w'=>∃b,e=Z (.bool b)/\(b->R (Z (I x2)) w')/\(b=false->B376_1 [(0,SV.v (pointer x)),(1,SV.v (func (Fn.func 378) #[] #[])),(9,SV.v (I x1)),(10,SV.v (I (wrap i64 (x2+1))))] w'))/\(decide (x2<x1)=false->R (Z (I (-1:Int))) w)):=by kernel_rfl
def M335:Mt:={N:=46,keep:=kp 0 [[0,1,2],[0,1,2,13],[6,7],[0,2,8],[0,2,8,25],[6,7],[0,2,8,9],[0,2,9,29,30,31],[0,2,9,29,30,31,32],[0,2,9,11,29,30,31],[0,2,9,11,29,30,31,42],[0,2,9,29,30,31],[0,2,9,29,30,31],[6,7]],bk:=[(0,[9]),(1,[0,2,9,29,30,31])],lk:=[(8,[0,2,9,29,30,31])],ref:=false}
noncomputable def c335:Code:=bodyOf f335
noncomputable def c335_0:Code:=c335.sr.sr.sr.sr.sr.sr
noncomputable def c335_1:Code:=c335.sr.sr.sr.sr.sr.sl.sr.sl.sl
def e335_1 (x:Option Addr) (x1:Int) (x2:Option Addr) (x3 x4:Nat) (x5 x6:Int):Env:=[(0,SV.v (pointer x)),(2,SV.v (func (Fn.func 337) #[] #[])),(9,SV.v (int i64 x1)),(29,SV.v (slice x2 x3 x4)),(30,SV.v (int i64 x5)),(31,SV.v (int i64 x6))]
def k335_1 (R:RT):=blockK 0 [9] (SQ M335 c335_0 (Rt f335 R) (Rt f335 R))
theorem u335:UT 335 M335 c335 f335:=fun h i=>u_ func335 (by kernel_rfl) h i
theorem t335 (x x1 w R):den prog M335 c335 (argE 0 [(pointer x),(int .u64 x1),(func (Fn.func 337) #[] #[])]) w (Rt f335 R)=
((x.isNone->R (Z (tuple #[I 0,I 1])) w)/\(x.isNone=false->∃a,x=some a/\∃p n c,w.cell? (a.add 0)=some (slice p n c)/\Call prog 11 [I (↑n:Int)] w fun e w'=>∃n,e=Z (int .u64 n)/\Call prog 318 [int .u64 x1,int .u64 n] w' fun e w'=>∃n,e=Z (int .u64 n)/\Call prog 382 [int .u64 n] w' fun e w'=>∃p n c,e=Z (slice p n c)/\(((↑n:Int)==0)->R (Z (tuple #[I 0,I 12])) w')/\(((↑n:Int)==0)=false->((0:Int)<=0/\0<(↑n:Int))/\∃a,p=some a/\∃n_1,w'.cell? (a.add 0)=some (I n_1)/\Cut (WP prog 46 (Code.loop c335_1) [(0,SV.v (pointer x)),(2,SV.v (func (Fn.func 337) #[] #[])),(9,SV.v (I n_1)),(29,SV.v (slice p n c)),(30,SV.v (I (↑n:Int))),(31,SV.v (I 0))] w' (k335_1 R))))):=by kernel_rfl
theorem t335_1 (x x1 x2 x3 x4 x5 x6 w B335_1 R):den prog M335 c335_1 (e335_1 x x1 x2 x3 x4 x5 x6) w (loopK B335_1 (k335_1 R))=
((decide (x6<x5)->(0<=x6/\x6<(↑x3:Int))/\∃a,x2=some a/\∃n,w.cell? (add a (Int.toNat x6*1))=some (I n)/\Call prog 14 [pointer x,I n] w fun e w'=>∃n_1,e=Z (I n_1)/\Call prog 14 [pointer x,I x1] w' fun e w'=>∃n_2,e=Z (I n_2)/\Call prog 337 [I n_1,I n_2] w' fun e w'=>∃b,e=Z (.bool b)/\(b->B335_1 [(0,SV.v (pointer x)),(2,SV.v (func (Fn.func 337) #[] #[])),(9,SV.v (I n)),(29,SV.v (slice x2 x3 x4)),(30,SV.v (I x5)),(31,SV.v (I (wrap i64 (x6+1))))] w')/\(b=false->B335_1 [(0,SV.v (pointer x)),(2,SV.v (func (Fn.func 337) #[] #[])),(9,SV.v (I x1)),(29,SV.v (slice x2 x3 x4)),(30,SV.v (I x5)),(31,SV.v (I (wrap i64 (x6+1))))] w'))/\(decide (x6<x5)=false->R (Z (tuple #[I x1,I 0])) w)):=by kernel_rfl
end Fn2
end Go.Dav
namespace Go.Dav
structure Upd (F:Nat->Prop) (w w':World):Prop where
 size:w.heap.size<=w'.heap.size
 os:w'.os=w.os
 tape:w'.tape=w.tape
 output:w'.output=w.output
 blk:∀i,i<w.heap.size->¬F i->w'.heap[i]?=w.heap[i]?
def no:Nat->Prop:=fun _=>False
theorem Upd.refl (F:Nat->Prop) (w:World):Upd F w w:=⟨Nat.le_refl _,rfl,rfl,rfl,fun _ _ _=>rfl⟩
theorem Upd.trans {F G:Nat->Prop} {w w1 w2:World} (h:Upd F w w1) (k:Upd G w1 w2) (hG:∀i,i<w.heap.size->G i->F i):Upd F w w2:=
 ⟨Nat.le_trans h.size k.size,k.os.trans h.os,k.tape.trans h.tape,k.output.trans h.output,
  fun i hi hF=>(k.blk i (Nat.lt_of_lt_of_le hi h.size) (fun hg=>hF (hG i hi hg))).trans (h.blk i hi hF)⟩
theorem Upd.mono {F G:Nat->Prop} {w w':World} (h:Upd F w w') (hG:∀i,i<w.heap.size->F i->G i):Upd G w w':=(Upd.refl G w).trans h hG
theorem Upd.same {w w':World} (F:Nat->Prop) (h1:w'.heap=w.heap) (h2:w'.os=w.os) (h3:w'.tape=w.tape) (h4:w'.output=w.output):Upd F w w':=
 ⟨by rw[h1];exact Nat.le_refl _,h2,h3,h4,fun _ _ _=>by rw[h1]⟩
theorem Wrote.upd {F:Nat->Prop} {w w':World} {b:Nat} {c:List Value} {T:TypeId} (h:Wrote w w' b c T) (hb:F b):Upd F w w':=
 ⟨Nat.le_of_eq h.size.symm,h.os,h.tape,h.output,fun i _ hF=>h.other i (fun e=>hF (e ▸ hb))⟩
theorem Newed.upd {w w':World} {o:Obj} (h:Newed w w' o) (F:Nat->Prop):Upd F w w':=
 ⟨by rw[h.size];omega,h.os,h.tape,h.output,fun i hi _=>h.old i hi⟩
theorem lt_of_blk {w:World} {b:Nat} {o:Obj} (h:w.heap[b]?=some o):b<w.heap.size:=(Array.getElem?_eq_some_iff.1 h).1
def Blk (w:World) (b:Nat) (c:List Value) (T:TypeId):Prop:=w.heap[b]?=some (.cells c.toArray T (0,0))
theorem Blk.lt {w:World} {b:Nat} {c:List Value} {T:TypeId} (h:Blk w b c T):b<w.heap.size:=lt_of_blk h
theorem Blk.upd {w w':World} {b:Nat} {c:List Value} {T:TypeId} {F:Nat->Prop} (h:Blk w b c T) (k:Upd F w w') (hF:¬F b):Blk w' b c T:=
 (k.blk b h.lt hF).trans h
theorem cell_blk {w:World} {b:Nat} {c:List Value} {T:TypeId} (h:Blk w b c T) (o:Nat):w.cell? ⟨b,o,none⟩=c[o]?:=by
 unfold Blk at h
 simp[World.cell?,h]
theorem add_lit (b o k:Nat):(⟨b,o,none⟩:Addr).add k=⟨b,o+k,none⟩:=by
 unfold Addr.add
 split
 ·simp_all
 ·rfl
theorem Blk.cell {w:World} {b:Nat} {c:List Value} {T:TypeId} (h:Blk w b c T) {k:Nat} {v:Value} (hv:c[k]?=some v):w.cell? ((⟨b,0,none⟩:Addr).add k)=some v:=by
 rw[add_lit,cell_blk h,Nat.zero_add]
 exact hv
theorem Blk.cell0 {w:World} {b:Nat} {c:List Value} {T:TypeId} (h:Blk w b c T) {v:Value} (hv:c[0]?=some v):w.cell? ⟨b,0,none⟩=some v:=by
 rw[cell_blk h]
 exact hv
theorem Blk.wr {w:World} {b:Nat} {c:List Value} {T:TypeId} (h:Blk w b c T) {k:Nat} {vs:List Value} (hk:k+vs.length<=c.length) {K:World->Prop}
  (hK:∀w',Wrote w w' b (setL c k vs) T->K w'):Wr w ((⟨b,0,none⟩:Addr).add k) vs K:=by
 rw[add_lit,Nat.zero_add]
 exact⟨⟨c,T,h,rfl,hk,hK⟩⟩
theorem Blk.wr0 {w:World} {b:Nat} {c:List Value} {T:TypeId} (h:Blk w b c T) {vs:List Value} (hk:vs.length<=c.length) {K:World->Prop}
  (hK:∀w',Wrote w w' b (setL c 0 vs) T->K w'):Wr w ⟨b,0,none⟩ vs K:=
 ⟨⟨c,T,h,rfl,by simpa using hk,hK⟩⟩
theorem Wrote.blk' {w w':World} {b:Nat} {c:List Value} {T:TypeId} (h:Wrote w w' b c T):Blk w' b c T:=h.blk
theorem Wrote.keep {w w':World} {b i:Nat} {c c':List Value} {T T':TypeId} (h:Wrote w w' b c T) (k:Blk w i c' T') (hi:i≠b):Blk w' i c' T':=(h.other i hi).trans k
theorem Newed.blk' {w w':World} {c:List Value} {T:TypeId} (h:Newed w w' (.cells c.toArray T (0,0))):Blk w' w.heap.size c T:=h.blk
theorem Newed.keep {w w':World} {o:Obj} {i:Nat} {c':List Value} {T':TypeId} (h:Newed w w' o) (k:Blk w i c' T'):Blk w' i c' T':=(h.old i k.lt).trans k
def Cells (w:World) (p:Option Addr) (cs:List Value):Prop:=∀j v,cs[j]?=some v->∃a,p=some a/\w.cell? (a.add j)=some v
theorem Cells.nil (w:World) (p:Option Addr):Cells w p []:=fun j v h=>by simp at h
def Sl (w:World) (T:TypeId) (sz:Nat) (p:Option Addr) (n c:Nat) (cs:List Value):Prop:=
 cs.length=n*sz/\n<=c/\c<=maxLen/\match p with
  | none=>n=0/\c=0
  | some a=>∃cells:List Value,Blk w a.block cells T/\a.spot=none/\a.off+c*sz<=cells.length/\(cells.drop a.off).take (n*sz)=cs
def fpS (p:Option Addr):Nat->Prop:=fun i=>∃a,p=some a/\i=a.block
section
variable {w w':World} {T:TypeId} {sz:Nat} {p:Option Addr} {n c:Nat} {cs:List Value}
theorem Sl.lt (h:Sl w T sz p n c cs):∀i,fpS p i->i<w.heap.size:=by
 rintro i ⟨a,rfl,rfl⟩
 obtain⟨_,_,_,cells,hb,_⟩:=h
 exact hb.lt
theorem Sl.len (h:Sl w T sz p n c cs):cs.length=n*sz:=h.1
theorem Sl.nil (w:World) (T:TypeId) (sz:Nat):Sl w T sz none 0 0 []:=⟨by simp,Nat.le_refl _,Nat.zero_le _,rfl,rfl⟩
theorem Sl.upd {F:Nat->Prop} (h:Sl w T sz p n c cs) (k:Upd F w w') (hF:∀i,fpS p i->¬F i):Sl w' T sz p n c cs:=by
 obtain⟨h1,h2,h3,h4⟩:=h
 refine⟨h1,h2,h3,?_⟩
 cases p with
 | none=>exact h4
 | some a=>
  obtain⟨cells,hb,r⟩:=h4
  exact⟨cells,hb.upd k (hF _ ⟨a,rfl,rfl⟩),r⟩
theorem Sl.cells (h:Sl w T sz p n c cs):Cells w p cs:=by
 intro j v hj
 obtain⟨h1,h2,h3,h4⟩:=h
 have hlt:j<n*sz:=by rw[<-h1];exact(List.getElem?_eq_some_iff.1 hj).1
 cases p with
 | none=>obtain⟨rfl,_⟩:=h4;simp at hlt
 | some a=>
  obtain⟨cells,hb,hs,hl,ht⟩:=h4
  obtain⟨b,o,sp⟩:=a
  simp only at hs hb hl ht
  subst hs
  refine⟨_,rfl,?_⟩
  rw[add_lit,cell_blk hb]
  rw[<-ht,List.getElem?_take,if_pos hlt,List.getElem?_drop]at hj
  exact hj
theorem Sl.new {cs:List Value} (h:Newed w w' (.cells cs.toArray T (0,0))) (hl:cs.length=n*sz) (hm:n<=maxLen):Sl w' T sz (some ⟨w.heap.size,0,none⟩) n n cs:=
 ⟨hl,Nat.le_refl _,hm,cs,h.blk,rfl,by simp[hl],by simp[<-hl]⟩
theorem Sl.dropN (h:Sl w T sz p n c cs) (k:Nat) (hk:k<=n):Sl w T sz (subA p c k sz) (n-k) (c-k) (cs.drop (k*sz)):=by
 obtain⟨h1,h2,h3,h4⟩:=h
 refine⟨by rw[List.length_drop,h1,Nat.sub_mul],by omega,by omega,?_⟩
 unfold subA
 cases p with
 | none=>
  obtain⟨rfl,rfl⟩:=h4
  have:(if 0=k then(none:Option Addr)else Option.map (fun(x:Addr)=>x.add (k*sz)) none)=none:=by split<;>rfl
  rw[this]
  exact⟨by omega,by omega⟩
 | some a=>
  obtain⟨cells,hb,hs,hl,ht⟩:=h4
  by_cases hc:c=k
  ·rw[if_pos hc]
   have:n=c:=by omega
   subst this
   subst hc
   refine⟨cells,hb,hs,?_,?_⟩
   ·simp;have:=hl;omega
   ·simp[<-h1]
  ·rw[if_neg hc]
   obtain⟨b,o,sp⟩:=a
   simp only at hs hb hl ht
   subst hs
   simp only[Option.map_some,add_lit]
   refine⟨cells,hb,trivial,?_,?_⟩
   ·rw[Nat.sub_mul]
    have:k*sz<=c*sz:=Nat.mul_le_mul_right _ (by omega)
    omega
   ·rw[<-ht,List.drop_take,List.drop_drop,Nat.sub_mul]
theorem subA_zero (p:Option Addr) (m sz:Nat):subA p m 0 sz=p:=by
 unfold subA
 split
 ·rfl
 ·cases p with
  | none=>rfl
  | some a=>simp[Addr.add]
theorem Sl.takeN (h:Sl w T sz p n c cs) (k:Nat) (hk:k<=n):Sl w T sz p k c (cs.take (k*sz)):=by
 obtain⟨h1,h2,h3,h4⟩:=h
 have hkn:k*sz<=n*sz:=Nat.mul_le_mul_right _ hk
 refine⟨by rw[List.length_take,h1];omega,by omega,h3,?_⟩
 cases p with
 | none=>obtain⟨rfl,rfl⟩:=h4;simp;omega
 | some a=>
  obtain⟨cells,hb,hs,hl,ht⟩:=h4
  refine⟨cells,hb,hs,hl,?_⟩
  rw[<-ht,List.take_take,Nat.min_eq_left hkn]
theorem fpS_sub {p:Option Addr} {m l sz:Nat}:∀i,fpS (subA p m l sz) i->fpS p i:=by
 rintro i ⟨a,ha,rfl⟩
 unfold subA at ha
 split at ha
 ·exact⟨a,ha,rfl⟩
 ·cases p with
  | none=>simp at ha
  | some b=>
   simp only[Option.map_some,Option.some.injEq]at ha
   subst ha
   refine⟨b,rfl,?_⟩
   unfold Addr.add
   split<;>rfl
end
structure ElemT (P:Program) (t e:TypeId) (sz bytes:Nat) (z:List Value):Prop where
 under:P.underlying t=some (.slice e)
 info:(P.info? e).map (fun i=>(i.zero.map (·.cells.toList),i.size,i.bytes))=some (some z,sz,bytes)
 zs:z.length=sz
 pos:0<sz
theorem zeroCells_len (z:Array Value) (n:Nat):(Builtin.zeroCells z n).size=n*z.size:=by simp[Builtin.zeroCells]
theorem run_appendQ {P:Program} {t e:TypeId} {sz bytes:Nat} {z:List Value} (ht:ElemT P t e sz bytes z) {w:World} {p:Option Addr} {n c:Nat} {cs:List Value} (h:Sl w e sz p n c cs)
  {q:Option Addr} {m d:Nat} {news:List Value} (hq:Cells w q news) (hl:news.length=m*sz) (h1:∀u∈news,u.oneCell'=true) (hb:(n+m)*bytes<=140737488355328) (hn:n+m<=140737488355328) (ty:TypeId) :
  ∃p' n' c' w',(Builtin.append_ #[t,t] ty #[.slice p n c,.slice q m d]).run P w=.ok (.slice p' n' c') w'/\n'=n+m/\Sl w' e sz p' (n+m) c' (cs++news)/\Upd (fpS p) w w'/\
   (∀i,fpS p' i->fpS p i∨w.heap.size<=i):=by
 obtain⟨hu,hinfo,hzs,hpos⟩:=ht
 obtain⟨i,hi,hii⟩:=Option.map_eq_some_iff.1 hinfo
 simp only[Prod.mk.injEq]at hii
 obtain⟨hz,hs1,hb1⟩:=hii
 obtain⟨zv,hzv,hzc⟩:=Option.map_eq_some_iff.1 hz
 subst hs1
 subst hb1
 have hmax:n+m<=maxLen:=by unfold maxLen;omega
 obtain⟨l1,l2,l3,l4⟩:=id h
 have hlen:(cs++news).length=(n+m)*i.size:=by rw[List.length_append,l1,hl,Nat.add_mul]
 by_cases hm:m=0
 ·
  subst hm
  have hnews:news=[]:=List.eq_nil_of_length_eq_zero (by simpa using hl)
  subst hnews
  refine⟨p,n,c,w,?_,rfl,by simpa using h,Upd.refl _ _,fun i hi=>.inl hi⟩
  have hf:(Builtin.firstCells i.size 0 (.slice q 0 d)).run P w=.ok #[] w:=by
   cases q with
   | none=>simp[Builtin.firstCells]
   | some a=>simp[Builtin.firstCells,loadCells,loadCellsFrom]
  have hroom:n<=c:=l2
  cases p with
  | none=>
   obtain⟨rfl,rfl⟩:=l4
   simp[Builtin.append_,run_underlying hu,sizeOf,typeInfo,hi,Builtin.lenOf,hf]
  | some a=>simp[Builtin.append_,run_underlying hu,sizeOf,typeInfo,hi,Builtin.lenOf,hroom,hf,storeCells]
 ·obtain⟨aq,rfl⟩:∃a,q=some a:=by
   have h0:0<news.length:=by rw[hl];exact Nat.mul_pos (by omega) hpos
   obtain⟨a,ha,_⟩:=hq 0 news[0] (by simp[h0])
   exact⟨a,ha⟩
  have hc':∀j u,news[j]?=some u->w.cell? (aq.add j)=some u:=by
   intro j u hj
   obtain⟨a,ha,hc⟩:=hq j u hj
   obtain rfl:=Option.some.inj ha
   exact hc
  have grown:∀cap,n+m<=cap->cap<=maxLen->Sl (w.drew.alloc (.cells (cs.toArray++news.toArray++Builtin.zeroCells zv.cells (cap-(n+m))) e)) e i.size (some ⟨w.heap.size,0,none⟩) (n+m) cap (cs++news):=by
   intro cap hcap hcm
   refine⟨hlen,hcap,hcm,cs++news++(Builtin.zeroCells zv.cells (cap-(n+m))).toList,?_,rfl,?_,?_⟩
   ·have e0:(cs++news++(Builtin.zeroCells zv.cells (cap-(n+m))).toList).toArray=cs.toArray++news.toArray++Builtin.zeroCells zv.cells (cap-(n+m)):=by simp
    unfold Blk
    rw[e0]
    exact Array.getElem?_push_size
   ·have:zv.cells.size=i.size:=by rw[<-hzs,<-hzc];simp
    simp only[List.length_append,Array.length_toList,zeroCells_len,this,l1,hl,Nat.zero_add]
    rw[<-Nat.add_mul,<-Nat.add_mul]
    refine Nat.le_of_eq ?_
    congr 1
    omega
   ·simp only[List.drop_zero]
    rw[<-hlen,List.take_left]
  have updn:∀o,Upd (fpS p) w (w.drew.alloc o):=fun o=>⟨by simp,rfl,rfl,rfl,fun k hk _=>heap_alloc_old w.drew o k hk⟩
  by_cases hr:n+m<=c
  ·
   cases p with
   | none=>obtain⟨rfl,rfl⟩:=l4;omega
   | some a=>
    obtain⟨cells,hbk,hsp,hfit,htk⟩:=l4
    obtain⟨b,o,sp⟩:=a
    simp only at hsp hbk hfit htk
    subst hsp
    have hfc:=run_firstCells_some (P:=P) w i.size m aq m d news hl hc'
    have hfit':o+n*i.size+0+news.length<=cells.toArray.size:=by
     rw[hl];simp only[List.size_toArray]
     have:(n+m)*i.size<=c*i.size:=Nat.mul_le_mul_right _ hr
     rw[Nat.add_mul]at this
     omega
    have hst:=run_storeCells_at P b (o+n*i.size) e news 0 cells.toArray w hbk hfit' h1
    simp only[Nat.add_zero]at hst
    have hW:=wrote_setRow (w:=w) (b:=b) (c:=cells.toArray) (T:=e) hbk (setL cells (o+n*i.size) news)
    refine⟨some ⟨b,o,none⟩,n+m,c,_,?_,rfl,?_,hW.upd ⟨_,rfl,rfl⟩,fun i hi=>.inl hi⟩
    ·simp[Builtin.append_,run_underlying hu,sizeOf,typeInfo,hi,Builtin.lenOf,hr,hfc,Addr.add_lit,hst,setL]
    ·refine⟨hlen,hr,l3,_,hW.blk,rfl,?_,?_⟩
     ·rw[setL_length (by simpa using hfit')];exact hfit
     ·have hol:o+n*i.size<=cells.length:=by
       have:n*i.size<=c*i.size:=Nat.mul_le_mul_right _ l2
       omega
      unfold setL
      rw[List.append_assoc,List.drop_append,List.drop_take]
      have e1:o-(cells.take (o+n*i.size)).length=0:=by rw[List.length_take];omega
      rw[e1,List.drop_zero,show o+n*i.size-o=n*i.size by omega,htk,List.take_append,l1]
      rw[List.take_of_length_le (by rw[l1,Nat.add_mul];omega)]
      congr 1
      rw[Nat.add_mul,Nat.add_sub_cancel_left,<-hl,List.take_left]
  ·
   have hg:=grownCap_ge w (n+m) c e
   have hgm:=grownCap_le_maxLen w (n+m) c e hmax
   cases p with
   | none=>
    obtain⟨rfl,rfl⟩:=l4
    have hcs:cs=[]:=List.eq_nil_of_length_eq_zero (by simpa using l1)
    subst hcs
    have hrun:=run_append_nil (P:=P) w t ty e i zv hu hi hzv aq m d news hl hc' (by omega) (by omega) (by simp only[Nat.zero_add]at hb;omega)
    simp only[Nat.zero_add]at hg hgm hmax
    refine⟨_,_,_,_,hrun,by simp,?_,updn _,fun i hi=>?_⟩
    ·have:=grown (grownCap w m 0 e) (by omega) hgm
     simpa using this
    ·obtain⟨a,ha,rfl⟩:=hi
     simp only[Option.some.injEq]at ha
     subst ha
     exact .inr (Nat.le_refl _)
   | some a=>
    have hcells:=h.cells
    have holds:∀j u,cs[j]?=some u->w.cell? (a.add j)=some u:=by
     intro j u hj
     obtain⟨a',ha,hc⟩:=hcells j u hj
     obtain rfl:=Option.some.inj ha
     exact hc
    have hrun:=run_append_grow (P:=P) w t ty e i zv hu hi hzv a n c cs l1 holds aq m d news hl hc' (by omega) (by omega) (growslice_fits (by omega) hb)
    refine⟨_,_,_,_,hrun,rfl,grown _ hg hgm,updn _,fun i hi=>?_⟩
    obtain⟨a,ha,rfl⟩:=hi
    simp only[Option.some.injEq]at ha
    subst ha
    exact .inr (Nat.le_refl _)
theorem run_append {P:Program} {t e:TypeId} {sz bytes:Nat} {z:List Value} (ht:ElemT P t e sz bytes z) {w:World} {p:Option Addr} {n c:Nat} {cs:List Value} (h:Sl w e sz p n c cs)
  {q:Option Addr} {m d:Nat} {news:List Value} (hq:Cells w q news) (hl:news.length=m*sz) (h1:∀u∈news,u.oneCell'=true) (hqn:q=none->d=0) (hb:(n+m)*bytes<=140737488355328) (hn:n+m<=140737488355328) (ty:TypeId) :
  ∃p' n' c' w',(Builtin.append_ #[t,t] ty #[.slice p n c,.slice q m d]).run P w=.ok (.slice p' n' c') w'/\n'=n+m/\Sl w' e sz p' (n+m) c' (cs++news)/\Upd (fpS p) w w'/\
   (∀i,fpS p' i->fpS p i∨w.heap.size<=i):=run_appendQ ht h hq hl h1 hb hn ty
theorem w64 {x:Int} (h : -9223372036854775808<=x/\x<=9223372036854775807):IntKind.wrap .i64 x=x:=by
 unfold IntKind.wrap
 simp only[IntKind.bits,IntKind.signed,Bool.true_and]
 split<;>simp_all<;>omega
theorem get_map {α:Type} {f:α->Value} {l:List α} {i:Nat} (h:i<l.length):(l.map f)[i]?=some (f l[i]):=by simp[h]
theorem Cells.at1 {w:World} {p:Option Addr} {α:Type} {f:α->Value} {l:List α} (h:Cells w p (l.map f)) {i:Nat} (hi:i<l.length):∃a,p=some a/\w.cell? (a.add (i*1))=some (f l[i]):=by
 rw[Nat.mul_one]
 exact h i _ (get_map hi)
theorem Cells.upd {w w':World} {p:Option Addr} {cs:List Value} (h:Cells w p cs) (k:∀a,p=some a->w'.heap[a.block]?=w.heap[a.block]?):Cells w' p cs:=by
 intro j v hj
 obtain⟨a,ha,hc⟩:=h j v hj
 refine⟨a,ha,?_⟩
 rw[<-hc]
 have hb:(a.add j).block=a.block:=by unfold Addr.add;split<;>rfl
 refine World.cell?_of_block ?_
 rw[hb]
 exact k a ha
theorem cell_lt {w:World} {a:Addr} {v:Value} (h:w.cell? a=some v):a.block<w.heap.size:=by
 unfold World.cell? at h
 split at h
 ·exact lt_of_blk (by assumption)
 ·cases h
theorem add_block (a:Addr) (j:Nat):(a.add j).block=a.block:=by unfold Addr.add;split<;>rfl
theorem Cells.old {F:Nat->Prop} {w w':World} {p:Option Addr} {cs:List Value} (h:Cells w p cs) (k:Upd F w w') (hF:∀i,i<w.heap.size->¬F i):Cells w' p cs:=by
 intro j v hj
 obtain⟨a,ha,hc⟩:=h j v hj
 refine⟨a,ha,?_⟩
 have hl:=cell_lt hc
 rw[<-hc]
 exact World.cell?_of_block (k.blk _ hl (hF _ hl))
theorem Cells.no {w w':World} {p:Option Addr} {cs:List Value} (h:Cells w p cs) (k:Upd no w w'):Cells w' p cs:=h.old k (fun _ _=>id)
theorem flat_at {α:Type} {f:α->List Value} {sz:Nat} (hf:∀x,(f x).length=sz):∀{l:List α} {i j:Nat} {v:Value} (hi:i<l.length),(f l[i])[j]?=some v->(l.flatMap f)[i*sz+j]?=some v
 | x::l,0,j,v,_,h=>by
  have hj:j<(f x).length:=(List.getElem?_eq_some_iff.1 h).1
  simp only[List.flatMap_cons,Nat.zero_mul,Nat.zero_add]
  rw[List.getElem?_append_left hj]
  exact h
 | x::l,i+1,j,v,hi,h=>by
  simp only[List.flatMap_cons]
  rw[List.getElem?_append_right (by rw[hf,Nat.add_mul,Nat.one_mul];omega),hf,Nat.add_mul,Nat.one_mul,show i*sz+sz+j-sz=i*sz+j by omega]
  exact flat_at hf (by simpa using hi) h
theorem Cells.atk {w:World} {p:Option Addr} {α:Type} {f:α->List Value} {l:List α} {sz:Nat} (h:Cells w p (l.flatMap f)) (hf:∀x,(f x).length=sz) (hs:0<sz) {i:Nat} (hi:i<l.length) :
  ∃a,p=some a/\∀(j:Nat) v,(f l[i])[j]?=some v->w.cell? ((a.add (i*sz)).add j)=some v:=by
 obtain⟨v0,hv0⟩:∃v,(f l[i])[0]?=some v:=⟨(f l[i])[0]'(by rw[hf];exact hs),by simp[hf,hs]⟩
 obtain⟨a,rfl,_⟩:=h _ v0 (flat_at hf hi hv0)
 refine⟨a,rfl,fun j v hj=>?_⟩
 obtain⟨a',ha,hc⟩:=h _ v (flat_at hf hi hj)
 obtain rfl:=Option.some.inj ha
 rw[Addr.add_add]
 exact hc
structure Loc (W w:World) (T:TypeId) (p:Option Addr) (c:Nat) (l:List Int):Prop where
 U:Upd no W w
 S:Sl w T 1 p l.length c (l.map (Value.int .i64))
 F:∀i,fpS p i->W.heap.size<=i
section
variable {W w w':World} {T:TypeId} {p:Option Addr} {c:Nat} {l:List Int}
theorem Loc.nil (h:Upd no W w) (T:TypeId):Loc W w T none 0 []:=⟨h,Sl.nil _ _ _,fun i ⟨a,ha,_⟩=>by cases ha⟩
theorem Loc.upd (h:Loc W w T p c l) (k:Upd no w w'):Loc W w' T p c l:=⟨h.U.trans k (fun _ _ h=>h),h.S.upd k (fun _ _ h=>h),h.F⟩
theorem append1 {P:Program} {t e:TypeId} {z:List Value} (he:ElemT P t e 1 8 z) {w w1:World} {p:Option Addr} {c:Nat} {l:List Int} {x:Int} (h:Sl w e 1 p l.length c (l.map (Value.int .i64))) (hb:l.length<=1048576)
  {T:TypeId} (hN:Newed w w1 (.cells (List.toArray [Value.int .i64 x]) T (0,0))) (ty:TypeId) :
  ∃p' n' c' w2,(Builtin.append_ #[t,t] ty #[.slice p l.length c,.slice (some ⟨w.heap.size,0,none⟩) 1 1]).run P w1=.ok (.slice p' n' c') w2/\n'=(l++[x]).length/\
   Sl w2 e 1 p' (l++[x]).length c' ((l++[x]).map (Value.int .i64))/\Upd (fpS p) w w2/\(∀i,fpS p' i->fpS p i∨w.heap.size<=i):=by
 have h1:Sl w1 e 1 p l.length c (l.map (Value.int .i64)):=h.upd (hN.upd no) (fun _ _ hn=>hn)
 have hN':Sl w1 T 1 (some ⟨w.heap.size,0,none⟩) 1 1 [.int .i64 x]:=Sl.new hN (by simp) (by unfold maxLen;omega)
 obtain⟨p',n',c',w2,hr,hn,hS,hU,hF⟩:=run_append he h1 hN'.cells (m:=1) (d:=1) (by simp) (by simp[Value.oneCell']) (by simp) (by omega) (by omega) ty
 refine⟨p',n',c',w2,hr,by simp[hn],by simpa using hS,(hN.upd _).trans hU (fun i _ hi=>hi),fun i hi=>(hF i hi).imp id (fun h=>?_)⟩
 rw[hN.size]at h;omega
theorem Loc.push {P:Program} {t:TypeId} {z:List Value} (h:Loc W w T p c l) (he:ElemT P t T 1 8 z) (hb:l.length<=1048576) {x:Int} {w1:World} {T':TypeId} (hN:Newed w w1 (.cells (List.toArray [Value.int .i64 x]) T' (0,0))) (ty:TypeId) :
  ∃p' c' w2,(Builtin.append_ #[t,t] ty #[.slice p l.length c,.slice (some ⟨w.heap.size,0,none⟩) 1 1]).run P w1=.ok (.slice p' (l++[x]).length c') w2/\Loc W w2 T p' c' (l++[x]):=by
 obtain⟨p',n',c',w2,hr,hn,hS,hU,hF⟩:=append1 he h.S hb hN ty
 subst hn
 refine⟨p',c',w2,hr,h.U.trans hU (fun i hi hf=>absurd (h.F i hf) (by omega)),hS,fun i hi=>?_⟩
 rcases hF i hi with k|k
 ·exact h.F i k
 ·exact Nat.le_trans h.U.size k
end
end Go.Dav
namespace Go.Dav
abbrev BV:=BitVec 64
def mi (m:BV):Int:=(m.toNat:Int)
def bt (c:Int):BV:=if 0<=c/\c<64 then BitVec.twoPow 64 c.toNat else 0
def hs (m:BV) (c:Int):Bool:=decide (0<=c/\c<64)&&m.getLsbD c.toNat
def wi (m:BV) (c:Int):BV:=m||| bt c
def ls (m:BV) (c:Int):BV:=m&&& ~~~ bt c
theorem mi_nonneg (m:BV):0<=mi m:=by unfold mi;omega
theorem mi_lt (m:BV):mi m<18446744073709551616:=by unfold mi;have:=m.isLt;omega
theorem mi_inj {a b:BV}:mi a=mi b↔a=b:=by
 unfold mi
 rw[Int.ofNat_inj]
 exact BitVec.toNat_inj
theorem mi_beq (a b:BV):(mi a==mi b)=(a==b):=by
 rw[Bool.eq_iff_iff]
 simp[mi_inj]
theorem mi_zero:mi 0=0:=rfl
theorem mi_beq0 (a:BV):(mi a==0)=(a==0):=by rw[<-mi_zero,mi_beq]
theorem mi_bne0 (a:BV):(mi a !=0) = !(a==0):=by rw[bne,mi_beq0]
theorem of_wf {n:Int} (h:(Lit.int .u64 n).wf=true):∃m:BV,n=mi m:=by
 have:0<=n/\n<=18446744073709551615:=by simpa [Lit.wf,IntKind.min,IntKind.max,IntKind.signed,IntKind.bits]using h
 refine⟨BitVec.ofInt 64 n,?_⟩
 unfold mi
 rw[BitVec.toNat_ofInt]
 omega
theorem wrapu {x:Int} (h:0<=x/\x<=18446744073709551615):IntKind.wrap .u64 x=x:=by
 have e:(2 ^ IntKind.u64.bits:Int)=18446744073709551616:=by decide
 unfold IntKind.wrap
 simp only[e,IntKind.signed,Bool.false_and]
 simp
 omega
theorem wrapu_mod (x:Int):IntKind.wrap .u64 x=x%18446744073709551616:=by
 have e:(2 ^ IntKind.u64.bits:Int)=18446744073709551616:=by decide
 unfold IntKind.wrap
 simp only[e,IntKind.signed,Bool.false_and]
 simp
theorem ofInt_mi (m:BV):BitVec.ofInt 64 (mi m)=m:=by
 unfold mi
 apply BitVec.eq_of_toNat_eq
 rw[BitVec.toNat_ofInt]
 have:=m.isLt
 omega
theorem wrap_nat (m:BV):IntKind.wrap .u64 (m.toNat:Int)=mi m:=by
 rw[wrapu (by have:=m.isLt;omega)]
 rfl
theorem bits_and (a b:BV):bitsOp .and .u64 (mi a) (mi b)=mi (a&&& b):=by
 show IntKind.wrap .u64 ((BitVec.ofInt 64 (mi a)&&& BitVec.ofInt 64 (mi b)).toNat:Int)=_
 rw[ofInt_mi,ofInt_mi,wrap_nat]
theorem bits_or (a b:BV):bitsOp .or .u64 (mi a) (mi b)=mi (a||| b):=by
 show IntKind.wrap .u64 ((BitVec.ofInt 64 (mi a)||| BitVec.ofInt 64 (mi b)).toNat:Int)=_
 rw[ofInt_mi,ofInt_mi,wrap_nat]
theorem bits_not (a b:BV):bitsOp .andNot .u64 (mi a) (mi b)=mi (a&&& ~~~ b):=by
 show IntKind.wrap .u64 ((BitVec.ofInt 64 (mi a)&&& ~~~ BitVec.ofInt 64 (mi b)).toNat:Int)=_
 rw[ofInt_mi,ofInt_mi,wrap_nat]
theorem bits_xor (a b:BV):bitsOp .xor .u64 (mi a) (mi b)=mi (a ^^^ b):=by
 show IntKind.wrap .u64 ((BitVec.ofInt 64 (mi a) ^^^ BitVec.ofInt 64 (mi b)).toNat:Int)=_
 rw[ofInt_mi,ofInt_mi,wrap_nat]
theorem bt_in {c:Int} (h:0<=c/\c<64):bt c=BitVec.twoPow 64 c.toNat:=if_pos h
theorem bt_out {c:Int} (h:¬(0<=c/\c<64)):bt c=0:=if_neg h
theorem mi_bt {c:Int} (h:0<=c/\c<64):mi (bt c)=2 ^ c.toNat:=by
 have h2:(2:Nat) ^ c.toNat<2 ^ 64:=Nat.pow_lt_pow_right (by omega) (by omega)
 rw[bt_in h,mi,BitVec.toNat_twoPow,Nat.mod_eq_of_lt h2]
 simp
theorem shl_one {c:Int} (h:0<=c/\c<64):shlOp .u64 1 c=mi (bt c):=by
 have h2:(2:Nat) ^ c.toNat<2 ^ 64:=Nat.pow_lt_pow_right (by omega) (by omega)
 rw[mi_bt h]
 unfold shlOp
 have:min c.toNat IntKind.u64.bits=c.toNat:=Nat.min_eq_left (by show c.toNat<=64;omega)
 rw[this,Int.one_mul,wrapu]
 have e:((2:Int) ^ c.toNat)=((2 ^ c.toNat:Nat):Int):=by simp
 rw[e]
 generalize 2 ^ c.toNat=x at h2
 omega
theorem getLsbD_bt {c:Int} (h:0<=c/\c<64) (i:Nat):(bt c).getLsbD i=decide (i=c.toNat):=by
 rw[bt_in h,BitVec.getLsbD_twoPow]
 by_cases hi:i=c.toNat
 ·subst hi;simp;omega
 ·simp[hi,eq_comm]
theorem ext_hs {a b:BV} (h:∀c:Int,0<=c->c<64->hs a c=hs b c):a=b:=by
 apply BitVec.eq_of_getLsbD_eq
 intro i hi
 have:=h i (by omega) (by omega)
 have hd:decide (0<=(i:Int)/\(i:Int)<64)=true:=decide_eq_true ⟨by omega,by omega⟩
 unfold hs at this
 rw[hd]at this
 simpa using this
theorem hs_in {m:BV} {c:Int} (h:hs m c=true):0<=c/\c<64:=by
 unfold hs at h
 rw[Bool.and_eq_true,decide_eq_true_iff]at h
 exact h.1
theorem hs_zero (c:Int):hs 0 c=false:=by unfold hs;simp
theorem hs_and (a b:BV) (c:Int):hs (a&&& b) c=(hs a c&&hs b c):=by
 unfold hs
 rw[BitVec.getLsbD_and]
 cases decide (0<=c/\c<64)<;>simp
theorem hs_or (a b:BV) (c:Int):hs (a||| b) c=(hs a c||hs b c):=by
 unfold hs
 rw[BitVec.getLsbD_or]
 cases decide (0<=c/\c<64)<;>simp
theorem hs_not (a b:BV) (c:Int):hs (a&&& ~~~ b) c=(hs a c&&!hs b c):=by
 unfold hs
 rw[BitVec.getLsbD_and,BitVec.getLsbD_not]
 by_cases h:0<=c/\c<64
 ·have:c.toNat<64:=by omega
  simp[h,this]
 ·simp[h]
theorem hs_bt (c d:Int):hs (bt c) d=(decide (0<=c/\c<64)&&decide (d=c)):=by
 by_cases h:0<=c/\c<64
 ·unfold hs
  rw[getLsbD_bt h,Bool.eq_iff_iff]
  simp only[Bool.and_eq_true,decide_eq_true_iff]
  omega
 ·rw[bt_out h,hs_zero];simp[h]
theorem hs_wi (m:BV) (c d:Int):hs (wi m c) d=(hs m d||(decide (0<=c/\c<64)&&decide (d=c))):=by rw[wi,hs_or,hs_bt]
theorem hs_ls (m:BV) (c d:Int):hs (ls m c) d=(hs m d&&!(decide (d=c))):=by
 rw[ls,hs_not,hs_bt]
 by_cases hd:d=c
 ·subst hd
  by_cases h:0<=d/\d<64
  ·simp[h]
  ·have:hs m d=false:=by unfold hs;simp[h]
   simp[this]
 ·simp[hd]
theorem eq_zero_of {m:BV} (h:∀c,hs m c=false):m=0:=ext_hs fun c _ _=>by rw[h,hs_zero]
theorem and_bt (m:BV) (c:Int):(!((m&&& bt c)==0))=hs m c:=by
 cases hh:hs m c with
 | true=>
  have:m&&& bt c≠0:=fun e=>by
   have h1:hs (m&&& bt c) c=true:=by rw[hs_and,hs_bt,hh];simp[hs_in hh]
   rw[e,hs_zero]at h1;cases h1
  rw[beq_false_of_ne this]
  rfl
 | false=>
  have:m&&& bt c=0:=eq_zero_of fun d=>by
   rw[hs_and,hs_bt]
   by_cases hd:d=c
   ·subst hd;simp[hh]
   ·simp[hd]
  rw[this]
  rfl
def upto (p:Int->Bool) (n:Nat):List Int:=((List.range n).map (fun(i:Nat)=>(i:Int))).filter p
theorem upto_succ (p:Int->Bool) (n:Nat):upto p (n+1)=if p n then upto p n++[(n:Int)]else upto p n:=by
 unfold upto
 rw[List.range_succ,List.map_append,List.filter_append]
 cases h:p n<;>simp[h]
theorem mem_upto {p:Int->Bool} {n:Nat} {c:Int}:c∈upto p n↔0<=c/\c<n/\p c=true:=by
 unfold upto
 rw[List.mem_filter,List.mem_map]
 constructor
 ·rintro⟨⟨a,ha,rfl⟩,hp⟩
  rw[List.mem_range]at ha
  exact⟨by omega,by omega,hp⟩
 ·rintro⟨h1,h2,hp⟩
  exact⟨⟨c.toNat,List.mem_range.2 (by omega),by omega⟩,hp⟩
theorem upto_length (p:Int->Bool) (n:Nat):(upto p n).length<=n:=by
 unfold upto
 exact Nat.le_trans (List.length_filter_le ..) (by simp)
theorem hs_range {m:BV} {c:Int} (h:¬(0<=c/\c<64)):hs m c=false:=by unfold hs;simp[h]
def upM (n:Int):BV:=BitVec.ofNat 64 (2 ^ (min n.toNat 64)-1)
theorem hs_upM (n c:Int):hs (upM n) c=(decide (0<=c/\c<64)&&decide (c<n)):=by
 unfold hs upM
 rw[BitVec.getLsbD_ofNat,Nat.testBit_two_pow_sub_one]
 by_cases h:0<=c/\c<64
 ·have:c.toNat<64:=by omega
  simp only[h,this,and_self,decide_true,Bool.true_and]
  rw[Bool.eq_iff_iff]
  simp only[decide_eq_true_iff]
  omega
 ·simp[h]
theorem mi_upM (n:Int):mi (upM n)=2 ^ (min n.toNat 64)-1:=by
 have h2:0<(2:Nat) ^ (min n.toNat 64):=Nat.pow_pos (by omega)
 have h3:(2:Nat) ^ (min n.toNat 64)<=2 ^ 64:=Nat.pow_le_pow_right (by omega) (by omega)
 have e:((2:Int) ^ (min n.toNat 64))=((2 ^ (min n.toNat 64):Nat):Int):=by simp
 unfold mi upM
 rw[BitVec.toNat_ofNat,e]
 generalize (2:Nat) ^ (min n.toNat 64)=x at *
 rw[Nat.mod_eq_of_lt (by omega)]
 omega
def rightR (n:Int) (m:BV):Bool:=!(m==0)&&((m&&& ~~~ upM n)==0)
def recIIIUI (x:Int×Int×Int×BV×Int):List Value:=[.int .i64 x.1,.int .i64 x.2.1,.int .i64 x.2.2.1,.int .u64 (mi x.2.2.2.1),.int .i64 x.2.2.2.2]
def okIIIUI (x:Int×Int×Int×BV×Int):Prop:=(Lit.int .i64 x.1).wf=true/\(Lit.int .i64 x.2.1).wf=true/\(Lit.int .i64 x.2.2.1).wf=true/\(Lit.int .i64 x.2.2.2.2).wf=true
theorem recIIIUI_len (x:Int×Int×Int×BV×Int):(recIIIUI x).length=5:=rfl
end Go.Dav
namespace Go.Dav
open Go.Proofs
theorem elI_Msk:ElemT Tryz.prog 36 3 1 8 [.int .i64 0]:=⟨by kernel_rfl,by kernel_rfl,rfl,by omega⟩
theorem mOne_ok (c:Int) (w:World):Calls Tryz.prog 60 #[.int .i64 c] w fun e w'=>e=.returned (.int .u64 (mi (bt c)))/\w'=w:=by
 refine u60 ?_
 rw[t60]
 refine⟨fun h0=>⟨fun h1=>⟨?_,rfl⟩,fun h1=>⟨by simpa using h0,?_,rfl⟩⟩,fun h0=>⟨?_,rfl⟩⟩
 ·rw[bt_out (by simp at h1;omega)];rfl
 ·rw[shl_one (by simp at h0 h1;omega)]
 ·rw[bt_out (by simp at h0;omega)];rfl
theorem mHas_ok (m:BV) (c:Int) (w:World):Calls Tryz.prog 23 #[.int .u64 (mi m),.int .i64 c] w fun e w'=>e=.returned (.bool (hs m c))/\w'=w:=by
 refine u23 ?_
 rw[t23]
 refine⟨(mOne_ok c w).mono ?_⟩
 rintro e w' ⟨rfl,rfl⟩
 exact⟨_,rfl,by rw[bits_and,mi_bne0,and_bt],rfl⟩
theorem mNot_ok (m o:BV) (w:World):Calls Tryz.prog 353 #[.int .u64 (mi m),.int .u64 (mi o)] w fun e w'=>e=.returned (.int .u64 (mi (m&&& ~~~ o)))/\w'=w:=by
 refine u353 ?_
 rw[t353,bits_not]
 exact⟨rfl,rfl⟩
theorem mAnd_ok (m o:BV) (w:World):Calls Tryz.prog 318 #[.int .u64 (mi m),.int .u64 (mi o)] w fun e w'=>e=.returned (.int .u64 (mi (m&&& o)))/\w'=w:=by
 refine u318 ?_
 rw[t318,bits_and]
 exact⟨rfl,rfl⟩
theorem mLess_ok (m:BV) (c:Int) (w:World):Calls Tryz.prog 158 #[.int .u64 (mi m),.int .i64 c] w fun e w'=>e=.returned (.int .u64 (mi (ls m c)))/\w'=w:=by
 refine u158 ?_
 rw[t158]
 refine⟨(mOne_ok c w).mono ?_⟩
 rintro e w' ⟨rfl,rfl⟩
 exact⟨_,rfl,by rw[bits_not,ls],rfl⟩
theorem foldl_take {l:List Int} {i:Nat} (h:i<l.length) (m:BV):(l.take (i+1)).foldl wi m=wi ((l.take i).foldl wi m) l[i]:=by
 rw[List.take_succ_eq_append_getElem h,List.foldl_append]
 rfl
theorem mWith_ok (m:BV) {w:World} {p:Option Addr} {l:List Int} {c:Nat} (h:Cells w p (l.map (Value.int .i64))) (hb:l.length<=140737488355328) :
  Calls Tryz.prog 179 #[.int .u64 (mi m),.slice p l.length c] w fun e w'=>e=.returned (.int .u64 (mi (l.foldl wi m)))/\w'=w:=by
 refine u179 ?_
 rw[t179]
 refine⟨WP_loop okProg (M:=M179) (σ:=Nat) (fun i=>e179_1 (mi ((l.take i).foldl wi m)) p l.length c l.length i) (fun i w'=>i<=l.length/\w'=w) (fun i _=>l.length-i) 0 ⟨rfl,rfl,rfl,rfl,trivial⟩ ⟨by omega,rfl⟩ ?_⟩
 rintro i w' ⟨h1,rfl⟩
 rw[t179_1]
 refine⟨fun hlt=>?_,fun hge=>⟨?_,rfl⟩⟩
 ·have hi:i<l.length:=by simpa using hlt
  obtain⟨a,rfl,hc⟩:=h.at1 hi
  refine⟨⟨by omega,by omega⟩,a,rfl,l[i],by simpa using hc,⟨(mOne_ok _ w').mono ?_⟩⟩
  rintro e w' ⟨rfl,rfl⟩
  exact⟨_,rfl,i+1,⟨by rw[foldl_take hi,bits_or,wi];rfl,rfl,rfl,by rw[w64 (by omega)];rfl,trivial⟩,⟨by omega,rfl⟩,by omega⟩
 ·have:i=l.length:=by simp at hge;omega
  subst this
  rw[List.take_length]
theorem mUpto_ok (n:Int) (w:World):Calls Tryz.prog 11 #[.int .i64 n] w fun e w'=>e=.returned (.int .u64 (mi (upM n)))/\w'=w:=by
 refine u11 ?_
 rw[t11]
 refine⟨fun h0=>⟨?_,rfl⟩,fun h0=>⟨fun h1=>⟨?_,rfl⟩,fun h1=>⟨(mOne_ok n w).mono ?_⟩⟩⟩
 ·have h0:n<=0:=by simpa using h0
  rw[mi_upM,show min n.toNat 64=0 by omega];rfl
 ·have h1:64<=n:=by simpa using h1
  rw[mi_upM,show min n.toNat 64=64 by omega];rfl
 ·have h0:¬n<=0:=by simpa using h0
  have h1:¬64<=n:=by simpa using h1
  rintro e w' ⟨rfl,rfl⟩
  refine⟨_,rfl,?_,rfl⟩
  have:=mi_nonneg (upM n)
  have:=mi_lt (upM n)
  have e1:mi (bt n)-1=mi (upM n):=by rw[mi_bt (by omega),mi_upM,show min n.toNat 64=n.toNat by omega]
  rw[e1,wrapu (by omega)]
theorem mWithin_ok (m o:BV) (w:World):Calls Tryz.prog 277 #[.int .u64 (mi m),.int .u64 (mi o)] w fun e w'=>e=.returned (.bool ((m&&& ~~~ o)==0))/\w'=w:=by
 refine u277 ?_
 rw[t277,bits_not,mi_beq0]
 exact⟨rfl,rfl⟩
end Go.Dav
namespace Go.Dav
abbrev Fp:=Nat->Prop
abbrev Ob (σ:Type):=World->Fp->σ->Prop
class Frame {σ:Type} (A:Ob σ):Prop where
 upd:∀{w w':World} {F G:Fp} {s:σ},A w F s->Upd G w w'->(∀i,F i->¬G i)->A w' F s
 lt:∀{w:World} {F:Fp} {s:σ},A w F s->∀i,F i->i<w.heap.size
def Turn {σ:Type} (A:Ob σ) (w w':World) (F:Fp) (s':σ):Prop:=∃F',A w' F' s'/\Upd F w w'/\∀i,F' i->F i∨w.heap.size<=i
def Mine {σ:Type} (W w:World) (A:Ob σ) (s:σ):Prop:=∃F,A w F s/\Upd no W w/\∀i,F i->W.heap.size<=i
def Star {σ τ:Type} (A:Ob σ) (B:Ob τ):Ob (σ×τ):=fun w F x=>∃F1 F2,A w F1 x.1/\B w F2 x.2/\(∀i,F i↔F1 i∨F2 i)/\∀i,F1 i->¬F2 i
instance Frame.star {σ τ:Type} {A:Ob σ} {B:Ob τ} [fa:Frame A] [fb:Frame B]:Frame (Star A B) where
 upd:=by
  rintro w w' F G s ⟨F1,F2,h1,h2,h3,h4⟩ k hG
  exact⟨F1,F2,fa.upd h1 k (fun i hi=>hG i ((h3 i).2 (.inl hi))),fb.upd h2 k (fun i hi=>hG i ((h3 i).2 (.inr hi))),h3,h4⟩
 lt:=by
  rintro w F s ⟨F1,F2,h1,h2,h3,h4⟩ i hi
  rcases(h3 i).1 hi with hi|hi
  ·exact fa.lt h1 i hi
  ·exact fb.lt h2 i hi
section
variable {σ τ:Type} {A:Ob σ} {B:Ob τ} {W w w':World} {F:Fp} {s s':σ} {t:τ}
theorem Turn.same (h:A w F s):Turn A w w F s:=⟨F,h,Upd.refl _ _,fun _ hi=>.inl hi⟩
theorem Turn.quiet [fa:Frame A] (h:A w F s) (k:Upd no w w'):Turn A w w' F s:=⟨F,fa.upd h k (fun _ _ h=>h),k.mono (fun _ _ h=>h.elim),fun _ hi=>.inl hi⟩
theorem Star.left [fb:Frame B] {x:σ×τ} (h:Star A B w F x):∃F1,A w F1 x.1/\∀w' s',Turn A w w' F1 s'->Turn (Star A B) w w' F (s',x.2):=by
 obtain⟨F1,F2,h1,h2,h3,h4⟩:=h
 refine⟨F1,h1,?_⟩
 rintro w' s' ⟨F',k1,k2,k3⟩
 refine⟨fun i=>F' i∨F2 i,⟨F',F2,k1,fb.upd h2 k2 (fun i hi hf=>h4 i hf hi),fun _=>Iff.rfl,fun i hi hf=>?_⟩,k2.mono (fun i _ hi=>(h3 i).2 (.inl hi)),fun i hi=>?_⟩
 ·rcases k3 i hi with h|h
  ·exact h4 i h hf
  ·have:=fb.lt h2 i hf;omega
 ·rcases hi with hi|hi
  ·exact(k3 i hi).imp (fun h=>(h3 i).2 (.inl h)) id
  ·exact .inl ((h3 i).2 (.inr hi))
theorem Star.swap {x:σ×τ} (h:Star A B w F x):Star B A w F (x.2,x.1):=by
 obtain⟨F1,F2,h1,h2,h3,h4⟩:=h
 exact⟨F2,F1,h2,h1,fun i=>(h3 i).trans Or.comm,fun i hi hf=>h4 i hf hi⟩
theorem Turn.swap {x:σ×τ} (h:Turn (Star A B) w w' F x):Turn (Star B A) w w' F (x.2,x.1):=by
 obtain⟨F',h1,h2⟩:=h
 exact⟨F',h1.swap,h2⟩
theorem Star.right [fa:Frame A] {x:σ×τ} (h:Star A B w F x):∃F2,B w F2 x.2/\∀w' t',Turn B w w' F2 t'->Turn (Star A B) w w' F (x.1,t'):=by
 obtain⟨F2,h1,h2⟩:=h.swap.left
 exact⟨F2,h1,fun w' t' k=>(h2 w' t' k).swap⟩
theorem Mine.turn (h:Mine W w A s):∃F,A w F s/\∀w' s',Turn A w w' F s'->Mine W w' A s':=by
 obtain⟨F,h1,h2,h3⟩:=h
 refine⟨F,h1,?_⟩
 rintro w' s' ⟨F',k1,k2,k3⟩
 refine⟨F',k1,h2.trans k2 (fun i hi hf=>absurd (h3 i hf) (by omega)),fun i hi=>?_⟩
 rcases k3 i hi with h|h
 ·exact h3 i h
 ·exact Nat.le_trans h2.size h
theorem Mine.upd [fa:Frame A] (h:Mine W w A s) (k:Upd no w w'):Mine W w' A s:=by
 obtain⟨F,h1,h2⟩:=h.turn
 exact h2 _ _ (Turn.quiet h1 k)
theorem Mine.left [fb:Frame B] {x:σ×τ} (h:Mine W w (Star A B) x):∃F1,A w F1 x.1/\∀w' s',Turn A w w' F1 s'->Mine W w' (Star A B) (s',x.2):=by
 obtain⟨F,h1,h2⟩:=h.turn
 obtain⟨F1,k1,k2⟩:=h1.left
 exact⟨F1,k1,fun w' s' k=>h2 _ _ (k2 w' s' k)⟩
theorem Mine.right [fa:Frame A] {x:σ×τ} (h:Mine W w (Star A B) x):∃F2,B w F2 x.2/\∀w' t',Turn B w w' F2 t'->Mine W w' (Star A B) (x.1,t'):=by
 obtain⟨F,h1,h2⟩:=h.turn
 obtain⟨F1,k1,k2⟩:=h1.right
 exact⟨F1,k1,fun w' s' k=>h2 _ _ (k2 w' s' k)⟩
section
variable {F0:Fp}
theorem Turn.turn (h:Turn A W w F0 s):∃F,A w F s/\∀w' s',Turn A w w' F s'->Turn A W w' F0 s':=by
 obtain⟨F,h1,h2,h3⟩:=h
 refine⟨F,h1,?_⟩
 rintro w' s' ⟨F',k1,k2,k3⟩
 refine⟨F',k1,h2.trans k2 (fun i hi hf=>(h3 i hf).elim id (fun h=>absurd h (by omega))),fun i hi=>?_⟩
 rcases k3 i hi with h|h
 ·exact h3 i h
 ·exact .inr (Nat.le_trans h2.size h)
theorem Turn.upd [fa:Frame A] (h:Turn A W w F0 s) (k:Upd no w w'):Turn A W w' F0 s:=by
 obtain⟨F,h1,h2⟩:=h.turn
 exact h2 _ _ (Turn.quiet h1 k)
theorem Turn.left [fb:Frame B] {x:σ×τ} (h:Turn (Star A B) W w F0 x):∃F1,A w F1 x.1/\∀w' s',Turn A w w' F1 s'->Turn (Star A B) W w' F0 (s',x.2):=by
 obtain⟨F,h1,h2⟩:=h.turn
 obtain⟨F1,k1,k2⟩:=h1.left
 exact⟨F1,k1,fun w' s' k=>h2 _ _ (k2 w' s' k)⟩
theorem Turn.right [fa:Frame A] {x:σ×τ} (h:Turn (Star A B) W w F0 x):∃F2,B w F2 x.2/\∀w' t',Turn B w w' F2 t'->Turn (Star A B) W w' F0 (x.1,t'):=by
 obtain⟨F,h1,h2⟩:=h.turn
 obtain⟨F1,k1,k2⟩:=h1.right
 exact⟨F1,k1,fun w' s' k=>h2 _ _ (k2 w' s' k)⟩
theorem Turn.ll {υ:Type} {C:Ob υ} [Frame B] [Frame C] {x:(σ×τ)×υ} (h:Turn (Star (Star A B) C) W w F0 x) [Frame A]:∃F1,A w F1 x.1.1/\∀w' s',Turn A w w' F1 s'->Turn (Star (Star A B) C) W w' F0 ((s',x.1.2),x.2):=by
 obtain⟨F,h1,h2⟩:=h.left
 obtain⟨F1,k1,k2⟩:=h1.left
 exact⟨F1,k1,fun w' s' k=>h2 _ _ (k2 w' s' k)⟩
theorem Turn.lr {υ:Type} {C:Ob υ} [Frame A] [Frame B] [Frame C] {x:(σ×τ)×υ} (h:Turn (Star (Star A B) C) W w F0 x):∃F1,B w F1 x.1.2/\∀w' t',Turn B w w' F1 t'->Turn (Star (Star A B) C) W w' F0 ((x.1.1,t'),x.2):=by
 obtain⟨F,h1,h2⟩:=h.left
 obtain⟨F1,k1,k2⟩:=h1.right
 exact⟨F1,k1,fun w' s' k=>h2 _ _ (k2 w' s' k)⟩
theorem Turn.drop {x:σ×τ} (h:Turn (Star A B) W w F0 x):Turn A W w F0 x.1:=by
 obtain⟨F,⟨F1,F2,h1,h2,h3,h4⟩,k1,k2⟩:=h
 exact⟨F1,h1,k1,fun i hi=>k2 i ((h3 i).2 (.inl hi))⟩
theorem Turn.add [fa:Frame A] (h:Turn A W w F0 s) (k:Upd no w w') {G:Fp} (hB:B w' G t) (hG:∀i,G i->w.heap.size<=i):Turn (Star A B) W w' F0 (s,t):=by
 obtain⟨F,h1,h2,h3⟩:=h
 refine⟨fun i=>F i∨G i,⟨F,G,fa.upd h1 k (fun _ _ h=>h),hB,fun _=>Iff.rfl,fun i hi hf=>?_⟩,h2.trans k (fun _ _ h=>h.elim),fun i hi=>?_⟩
 ·have:=fa.lt h1 i hi;have:=hG i hf;omega
 ·rcases hi with hi|hi
  ·exact h3 i hi
  ·exact .inr (Nat.le_trans h2.size (hG i hi))
end
theorem Mine.new (h:Upd no W w) (k:Upd no w w') {G:Fp} (hB:B w' G t) (hG:∀i,G i->w.heap.size<=i):Mine W w' B t:=
 ⟨G,hB,h.trans k (fun _ _ h=>h),fun i hi=>Nat.le_trans h.size (hG i hi)⟩
theorem Mine.add [fa:Frame A] (h:Mine W w A s) (k:Upd no w w') {G:Fp} (hB:B w' G t) (hG:∀i,G i->w.heap.size<=i):Mine W w' (Star A B) (s,t):=by
 obtain⟨F,h1,h2,h3⟩:=h
 refine⟨fun i=>F i∨G i,⟨F,G,fa.upd h1 k (fun _ _ h=>h),hB,fun _=>Iff.rfl,fun i hi hf=>?_⟩,h2.trans k (fun _ _ h=>h),fun i hi=>?_⟩
 ·have:=fa.lt h1 i hi;have:=hG i hf;omega
 ·rcases hi with hi|hi
  ·exact h3 i hi
  ·exact Nat.le_trans h2.size (hG i hi)
end
def Rw {σ:Type} (b:Nat) (T:TypeId) (enc:σ->List Value):Ob σ:=fun w F s=>(∀i,F i↔i=b)/\Blk w b (enc s) T
instance Frame.rw {σ:Type} (b:Nat) (T:TypeId) (enc:σ->List Value):Frame (Rw b T enc) where
 upd:=fun⟨h1,h2⟩ k hG=>⟨h1,h2.upd k (hG _ ((h1 _).2 rfl))⟩
 lt:=fun⟨h1,h2⟩ i hi=>(h1 i).1 hi ▸ h2.lt
section
variable {σ:Type} {b:Nat} {T:TypeId} {enc:σ->List Value} {w w':World} {F:Fp} {s s':σ}
theorem Rw.blk (h:Rw b T enc w F s):Blk w b (enc s) T:=h.2
theorem Rw.new {c:List Value} (h:Newed w w' (.cells c.toArray T (0,0))) (he:enc s=c):Rw w.heap.size T enc w' (fun i=>i=w.heap.size) s:=⟨fun _=>Iff.rfl,he ▸ h.blk'⟩
theorem Rw.turned (h:Rw b T enc w F s) (k:Upd (fun i=>i=b) w w') (hb:Blk w' b (enc s') T):Turn (Rw b T enc) w w' F s':=
 ⟨F,⟨h.1,hb⟩,k.mono (fun i _ hi=>(h.1 i).2 hi),fun _ hi=>.inl hi⟩
theorem Wrote.U {w w':World} {b:Nat} {c:List Value} {T:TypeId} (h:Wrote w w' b c T):Upd (fun i=>i=b) w w':=h.upd rfl
theorem Upd.and {F:Fp} {w w1 w2:World} (h:Upd F w w1) (k:Upd F w1 w2):Upd F w w2:=h.trans k (fun _ _ h=>h)
end
def Ls (T:TypeId):Ob (Option Addr×Nat×List Int):=fun w F x=>(∀i,F i↔fpS x.1 i)/\Sl w T 1 x.1 x.2.2.length x.2.1 (x.2.2.map (Value.int .i64))
instance Frame.ls (T:TypeId):Frame (Ls T) where
 upd:=fun⟨h1,h2⟩ k hG=>⟨h1,h2.upd k (fun i hi=>hG i ((h1 i).2 hi))⟩
 lt:=fun⟨h1,h2⟩ i hi=>h2.lt i ((h1 i).1 hi)
theorem Ls.nil (w:World) (T:TypeId):Ls T w (fun _=>False) (none,0,[]):=⟨fun i=>⟨fun h=>h.elim,fun⟨a,ha,_⟩=>by cases ha⟩,Sl.nil _ _ _⟩
theorem Ls.push {P:Program} {t T T':TypeId} {z:List Value} (he:ElemT P t T 1 8 z) {w w1:World} {F:Fp} {p:Option Addr} {c:Nat} {l:List Int} {x:Int} (h:Ls T w F (p,c,l)) (hb:l.length<=1048576)
  (hN:Newed w w1 (.cells (List.toArray [Value.int .i64 x]) T' (0,0))) (ty:TypeId) :
  ∃p' c' w2,(Builtin.append_ #[t,t] ty #[.slice p l.length c,.slice (some ⟨w.heap.size,0,none⟩) 1 1]).run P w1=.ok (.slice p' (l++[x]).length c') w2/\Turn (Ls T) w w2 F (p',c',l++[x]):=by
 obtain⟨p',n',c',w2,hr,hn,hS,hU,hF⟩:=append1 he h.2 hb hN ty
 subst hn
 exact⟨p',c',w2,hr,fpS p',⟨fun _=>Iff.rfl,hS⟩,hU.mono (fun i _ hi=>(h.1 i).2 hi),fun i hi=>(hF i hi).imp (fun k=>(h.1 i).2 k) id⟩
theorem Sl.wr {w:World} {T:TypeId} {sz n c:Nat} {a:Addr} {cs vs:List Value} {o:Nat} (h:Sl w T sz (some a) n c cs) (ho:o+vs.length<=n*sz) {K:World->Prop}
  (hK:∀w',Sl w' T sz (some a) n c (setL cs o vs)->Upd (fpS (some a)) w w'->K w'):Wr w (a.add o) vs K:=by
 obtain⟨h1,h2,h3,cells,hb,hsp,hfit,htk⟩:=h
 obtain⟨b,off,sp⟩:=a
 simp only at hsp hb hfit htk
 subst hsp
 have hle:n*sz<=c*sz:=Nat.mul_le_mul_right _ h2
 rw[add_lit]
 refine⟨⟨cells,T,hb,rfl,by show off+o+vs.length<=cells.length;omega,fun w' hW=>hK w' ?_ (hW.upd ⟨_,rfl,rfl⟩)⟩⟩
 have hl:(setL cells (off+o) vs).length=cells.length:=setL_length (by omega)
 refine⟨by rw[setL_length (by omega),h1],h2,h3,_,hW.blk,rfl,by rw[hl];exact hfit,?_⟩
 subst htk
 have hlen:((cells.drop off).take (n*sz)).length=n*sz:=h1
 apply List.ext_getElem?
 intro j
 unfold setL
 simp only[List.getElem?_take,List.getElem?_drop,List.getElem?_append,List.length_append,List.length_take,List.length_drop]
 grind
def Hd {σ:Type} (b:Nat) (T E:TypeId) (sz:Nat) (enc:σ->Option Addr->Nat->List Value) (len:σ->Nat) (cont:σ->List Value):Ob (σ×Option Addr×Nat):=fun w F x=>
 Blk w b (enc x.1 x.2.1 x.2.2) T/\Sl w E sz x.2.1 (len x.1) x.2.2 (cont x.1)/\¬fpS x.2.1 b/\∀i,F i↔i=b∨fpS x.2.1 i
instance Frame.hd {σ:Type} (b:Nat) (T E:TypeId) (sz:Nat) (enc:σ->Option Addr->Nat->List Value) (len:σ->Nat) (cont:σ->List Value):Frame (Hd b T E sz enc len cont) where
 upd:=fun⟨h1,h2,h3,h4⟩ k hG=>⟨h1.upd k (hG _ ((h4 _).2 (.inl rfl))),h2.upd k (fun i hi=>hG i ((h4 i).2 (.inr hi))),h3,h4⟩
 lt:=fun⟨h1,h2,h3,h4⟩ i hi=>by
  rcases(h4 i).1 hi with h|h
  ·exact h ▸ h1.lt
  ·exact h2.lt i h
section
variable {σ:Type} {b:Nat} {T E:TypeId} {sz:Nat} {enc:σ->Option Addr->Nat->List Value} {len:σ->Nat} {cont:σ->List Value} {w w1 w':World} {F:Fp} {s s':σ} {y:Option Addr×Nat}
theorem Hd.blk {x:σ×Option Addr×Nat} (h:Hd b T E sz enc len cont w F x):Blk w b (enc x.1 x.2.1 x.2.2) T:=h.1
theorem Hd.sl {x:σ×Option Addr×Nat} (h:Hd b T E sz enc len cont w F x):Sl w E sz x.2.1 (len x.1) x.2.2 (cont x.1):=h.2.1
theorem Hd.nil {c:List Value} (h:Newed w w' (.cells c.toArray T (0,0))) (he:enc s none 0=c) (hl:len s=0) (hc:cont s=[]):Hd w.heap.size T E sz enc len cont w' (fun i=>i=w.heap.size) (s,none,0):=
 ⟨he ▸ h.blk',by rw[hl,hc];exact Sl.nil _ _ _,fun⟨a,ha,_⟩=>(by cases ha),fun i=>⟨.inl,fun h=>h.elim id (fun⟨a,ha,_⟩=>by cases ha)⟩⟩
theorem Hd.put (h:Hd b T E sz enc len cont w F (s,y)) {p':Option Addr} {c':Nat} (hS:Sl w1 E sz p' (len s') c' (cont s')) (hU:Upd (fpS y.1) w w1) (hp:∀i,fpS p' i->fpS y.1 i∨w.heap.size<=i)
  (hW:Wrote w1 w' b (enc s' p' c') T):Turn (Hd b T E sz enc len cont) w w' F (s',p',c'):=by
 obtain⟨h1,h2,h3,h4⟩:=h
 have hb':¬fpS p' b:=fun hi=>by
  rcases hp b hi with hi|hi
  ·exact h3 hi
  ·have:=h1.lt;omega
 refine⟨fun i=>i=b∨fpS p' i,⟨hW.blk',hS.upd (hW.upd (F:=fun i=>i=b) rfl) (fun i hi e=>hb' (e ▸ hi)),hb',fun _=>Iff.rfl⟩,?_,?_⟩
 ·exact(hU.mono (fun i _ hi=>(h4 i).2 (.inr hi))).trans (hW.upd (F:=fun i=>i=b) rfl) (fun i _ e=>(h4 i).2 (.inl e))
 ·rintro i (rfl|hi)
  ·exact .inl ((h4 i).2 (.inl rfl))
  ·exact(hp i hi).imp (fun k=>(h4 i).2 (.inr k)) id
theorem Hd.elems (h:Hd b T E sz enc len cont w F (s,y)) (hS:Sl w' E sz y.1 (len s') y.2 (cont s')) (hU:Upd (fpS y.1) w w') (he:enc s' y.1 y.2=enc s y.1 y.2):Turn (Hd b T E sz enc len cont) w w' F (s',y):=by
 obtain⟨h1,h2,h3,h4⟩:=h
 exact⟨F,⟨by show Blk w' b (enc s' y.1 y.2) T;rw[he];exact h1.upd hU h3,hS,h3,h4⟩,hU.mono (fun i _ hi=>(h4 i).2 (.inr hi)),fun _ hi=>.inl hi⟩
theorem Hd.blkU (h:Hd b T E sz enc len cont w F (s,y)) (hU:Upd (fpS y.1) w w1):Blk w1 b (enc s y.1 y.2) T:=h.1.upd hU h.2.2.1
end
end Go.Dav
namespace Go.Dav
open Go.Proofs
theorem elI_Lst:ElemT Tryz.prog 36 3 1 8 [.int .i64 0]:=⟨by kernel_rfl,by kernel_rfl,rfl,by omega⟩
def idx (l:List Int) (v:Int):Int:=if v∈l then(l.idxOf v:Int)else -1
theorem idx_found {l:List Int} {v:Int} {i:Nat} (h:i<l.length) (h1:v∉l.take i) (h2:l[i]=v):idx l v=i:=by
 have hm:v∈l:=h2 ▸ List.getElem_mem h
 have e:l.idxOf v=i:=by
  have hl:l=l.take i++l[i]::l.drop (i+1):=by simp
  rw[hl,List.idxOf_append,if_neg h1,h2]
  simp;omega
 simp[idx,hm,e]
theorem not_take_succ {l:List Int} {v:Int} {i:Nat} (h:i<l.length) (h1:v∉l.take i) (h2:l[i]≠v):v∉l.take (i+1):=by
 rw[List.take_succ_eq_append_getElem h]
 simp only[List.mem_append,List.mem_singleton]
 exact fun h=>h.elim h1 (fun e=>h2 e.symm)
theorem index_ok {w:World} {p:Option Addr} {l:List Int} {c:Nat} (h:Cells w p (l.map (Value.int .i64))) (hb:l.length<=140737488355328) (v:Int) :
  Calls Tryz.prog 375 #[.slice p l.length c,.int .i64 v] w fun e w'=>e=.returned (.int .i64 (idx l v))/\w'=w:=by
 refine u375 ?_
 rw[t375]
 refine⟨WP_loop okProg (M:=M375) (σ:=Nat) (fun i=>e375_1 p l.length c v l.length i) (fun i w'=>i<=l.length/\v∉l.take i/\w'=w) (fun i _=>l.length-i) 0 ⟨rfl,rfl,rfl,rfl,trivial⟩ ⟨by omega,by simp,rfl⟩ ?_⟩
 rintro i w' ⟨h1,h2,rfl⟩
 rw[t375_1]
 refine⟨fun hlt=>?_,fun hge=>⟨?_,rfl⟩⟩
 ·have hi:i<l.length:=by simpa using hlt
  obtain⟨a,rfl,hc⟩:=h.at1 hi
  refine⟨⟨by omega,by omega⟩,a,rfl,l[i],by simpa using hc,fun he=>⟨?_,rfl⟩,fun he=>?_⟩
  ·rw[idx_found hi h2 (by simpa using(eq_comm.1 (by simpa using he)))]
  ·refine⟨i+1,⟨rfl,rfl,rfl,by rw[w64 (by omega)];rfl,trivial⟩,⟨by omega,not_take_succ hi h2 ?_,rfl⟩,by omega⟩
   simp at he
   exact fun e=>he e.symm
 ·have:i=l.length:=by simp at hge;omega
  subst this
  simp at h2
  simp[idx,h2]
theorem contains_ok {w:World} {p:Option Addr} {l:List Int} {c:Nat} (h:Cells w p (l.map (Value.int .i64))) (hb:l.length<=140737488355328) (v:Int) :
  Calls Tryz.prog 325 #[.slice p l.length c,.int .i64 v] w fun e w'=>e=.returned (.bool (decide (v∈l)))/\w'=w:=by
 refine u325 ?_
 rw[t325]
 refine⟨(index_ok h hb v).mono ?_⟩
 rintro e w' ⟨rfl,rfl⟩
 refine⟨_,rfl,?_,rfl⟩
 unfold idx
 split<;>simp_all
theorem cloneL_ok {w:World} {p:Option Addr} {l:List Int} {c:Nat} (h:Cells w p (l.map (Value.int .i64))) (hb:l.length<=1048576) (hn:p=none->l=[]/\c=0) :
  Calls Tryz.prog 190 #[.slice p l.length c] w fun e w'=>∃p' c',e=.returned (.slice p' l.length c')/\Loc w w' 3 p' c' l:=by
 refine u190 ?_
 rw[t190]
 refine⟨fun hp=>?_,fun hp=>⟨fun w1 hN=>?_⟩⟩
 ·obtain⟨rfl,_⟩:=hn (by simpa using hp)
  exact⟨none,0,rfl,Loc.nil (Upd.refl _ _) _⟩
 ·have hS:Sl w1 3 1 (some ⟨w.heap.size,0,none⟩) 0 0 []:=Sl.new hN (by simp) (by omega)
  have hU:=hN.upd no
  obtain⟨p',n',c',w2,hr,hn',hS2,hU2,hF⟩:=run_append elI_Lst hS (h.no hU) (m:=l.length) (d:=c) (by simp) (by simp[Value.oneCell']) (fun e=>by subst e;simp at hp) (by omega) (by omega) 36
  simp only[Nat.zero_add,List.nil_append]at hn' hS2
  subst hn'
  refine⟨p',_,c',w2,hr,p',c',rfl,hU.trans hU2 ?_,hS2,fun i hi=>?_⟩
  ·rintro i hi ⟨a,ha,rfl⟩
   cases ha
   exact absurd hi (Nat.lt_irrefl _)
  ·rcases hF i hi with⟨a,ha,rfl⟩|h
   ·cases ha;exact Nat.le_refl _
   ·exact Nat.le_trans hU.size h
end Go.Dav
namespace Go.Dav
def cs (m:BV):List Int:=upto (hs m) 64
theorem upto_congr {p q:Int->Bool} {n:Nat} (h:∀c:Int,0<=c->c<n->p c=q c):upto p n=upto q n:=by
 unfold upto
 apply List.filter_congr
 intro x hx
 obtain⟨i,hi,rfl⟩:=List.mem_map.1 hx
 rw[List.mem_range]at hi
 exact h _ (by omega) (by omega)
theorem upto_nil {p:Int->Bool} {n:Nat} (h:∀c:Int,0<=c->c<n->p c=false):upto p n=[]:=by
 rw[upto_congr (q:=fun _=>false) h]
 unfold upto
 simp
theorem mem_cs {m:BV} {c:Int}:c∈cs m↔hs m c=true:=by
 unfold cs
 rw[mem_upto]
 exact⟨fun h=>h.2.2,fun h=>⟨(hs_in h).1,(hs_in h).2,h⟩⟩
theorem cs_zero:cs 0=[]:=upto_nil fun c _ _=>hs_zero c
theorem cs_len (m:BV):(cs m).length<=64:=upto_length _ _
theorem upto_low {p:Int->Bool} {k:Nat} (h1:p k=true) (h2:∀j:Int,0<=j->j<k->p j=false):∀n,k<n->upto p n=(k:Int)::upto (fun c=>p c&&!decide (c=(k:Int))) n:=by
 intro n hn
 induction n with
 | zero=>omega
 | succ n ih=>
  rw[upto_succ,upto_succ]
  by_cases hk:k=n
  ·subst hk
   rw[if_pos h1,upto_nil h2,upto_nil (p:=fun c=>p c&&!decide (c=(k:Int))) (fun c h0 hc=>by simp[h2 c h0 hc])]
   simp
  ·rw[ih (by omega)]
   have:(decide ((n:Int)=(k:Int)))=false:=by simp;omega
   simp only[this,Bool.not_false,Bool.and_true]
   by_cases hp:p n=true
   ·simp[hp]
   ·simp[hp]
theorem cs_low {m:BV} {k:Nat} (hk:k<64) (h1:hs m k=true) (h2:∀j:Int,j<k->hs m j=false):cs m=(k:Int)::cs (ls m k):=by
 have:=upto_low (p:=hs m) h1 (fun j _ hj=>h2 j hj) 64 hk
 unfold cs
 rw[this]
 congr 1
 exact upto_congr fun c _ _=>(hs_ls m k c).symm
theorem low_ex {m:BV} (h:m≠0):∃k:Nat,k<64/\hs m k=true/\∀j:Int,j<k->hs m j=false:=by
 have h0:∃k:Nat,hs m k=true:=Classical.byContradiction fun hn=>h (ext_hs fun c h0 _=>by
  rw[hs_zero]
  have:=not_exists.1 hn c.toNat
  rw[show((c.toNat:Nat):Int)=c by omega]at this
  simpa using this)
 obtain⟨k,h1,h2⟩:=exists_min h0
 refine⟨k,by have:=hs_in h1;omega,h1,fun j hj=>?_⟩
 by_cases hj0:0<=j
 ·cases hh:hs m j with
  | false=>rfl
  | true=>have:=h2 j.toNat (by rw[show((j.toNat:Nat):Int)=j by omega];exact hh);omega
 ·exact hs_range (by omega)
theorem bt_up (k:Nat) (h:k<64):bt k=upM k+1:=by
 have h1:(2:Nat) ^ k<2 ^ 64:=Nat.pow_lt_pow_right (by omega) (by omega)
 have h2:0<(2:Nat) ^ k:=Nat.pow_pos (by omega)
 apply BitVec.eq_of_toNat_eq
 rw[bt_in (by omega),BitVec.toNat_twoPow,BitVec.toNat_add]
 unfold upM
 rw[BitVec.toNat_ofNat]
 have e:min (k:Int).toNat 64=k:=by omega
 rw[e,show((k:Int).toNat)=k by omega]
 have e1:(1:BV).toNat=1:=rfl
 rw[e1]
 generalize (2:Nat) ^ k=x at *
 rw[Nat.mod_eq_of_lt h1,Nat.mod_eq_of_lt (show x-1<2 ^ 64 by omega),Nat.mod_eq_of_lt (by omega)]
 omega
theorem ls_add {m:BV} {c:Int} (hm:hs m c=true):ls m c+bt c=m:=by
 have h:=hs_in hm
 have e0:ls m c&&& bt c=0:=eq_zero_of fun d=>by
  rw[hs_and,hs_ls,hs_bt];by_cases hd:d=c<;>simp[hd]
 rw[BitVec.add_eq_or_of_and_eq_zero _ _ e0]
 apply ext_hs
 intro d _ _
 rw[hs_or,hs_ls,hs_bt]
 by_cases hd:d=c
 ·subst hd;simp[hm,h]
 ·simp[hd]
section
variable {m:BV} {k:Nat} (hk:k<64) (h1:hs m k=true) (h2:∀j:Int,j<k->hs m j=false)
include hk h1 h2
theorem low_sub:m-1=ls m k||| upM k:=by
 have e:ls m k&&& upM k=0:=eq_zero_of fun d=>by
  rw[hs_and,hs_ls,hs_upM]
  by_cases hd:d<k
  ·simp[h2 d hd]
  ·simp[hd]
 have h:=ls_add h1
 rw[bt_up k hk,<-BitVec.add_assoc]at h
 rw[<-BitVec.add_eq_or_of_and_eq_zero _ _ e]
 generalize ls m k+upM k=u at h⊢
 rw[<-h]
 exact BitVec.add_sub_cancel _ _
theorem low_and:m&&& (m-1)=ls m k:=by
 rw[low_sub hk h1 h2]
 apply ext_hs
 intro d _ _
 rw[hs_and,hs_or,hs_ls,hs_upM]
 by_cases hd:d<k
 ·simp[h2 d hd]
 ·simp[hd]
theorem low_neg:m&&& (-m)=bt k:=by
 have e : -m = ~~~(m-1):=by
  apply BitVec.eq_of_toNat_eq
  rw[BitVec.toNat_neg,BitVec.toNat_not,BitVec.toNat_sub]
  have:=m.isLt
  have e1:(1:BV).toNat=1:=rfl
  rw[e1]
  generalize m.toNat=x at *
  omega
 rw[e,low_sub hk h1 h2]
 apply ext_hs
 intro d h0 h64
 rw[hs_not,hs_or,hs_ls,hs_upM,hs_bt]
 by_cases hd:d=k
 ·subst hd;simp[h1,h0,h64]
 ·by_cases hd2:d<k
  ·simp[h2 d hd2,hd]
  ·simp[hd,hd2]
end
theorem neg_wrap (m:BV):IntKind.wrap .u64 (0-mi m)=mi (-m):=by
 rw[wrapu_mod]
 unfold mi
 rw[BitVec.toNat_neg]
 have:=m.isLt
 omega
theorem sub1_wrap (m:BV):IntKind.wrap .u64 (mi m-1)=mi (m-1):=by
 rw[wrapu_mod]
 unfold mi
 rw[BitVec.toNat_sub]
 have:=m.isLt
 have e1:(1:BV).toNat=1:=rfl
 rw[e1]
 omega
theorem not_bits (m:BV):bitsOp .xor .u64 18446744073709551615 (mi m)=mi (~~~ m):=by
 have:(18446744073709551615:Int)=mi (BitVec.allOnes 64):=by decide +kernel
 rw[this,bits_xor,BitVec.allOnes_xor]
def tz (m:BV):Int:=match cs m with|[]=>64|a::_=>a
theorem tz_zero:tz 0=64:=by rw[tz,cs_zero]
theorem tz_low {m:BV} {k:Nat} (hk:k<64) (h1:hs m k=true) (h2:∀j:Int,j<k->hs m j=false):tz m=k:=by rw[tz,cs_low hk h1 h2]
theorem cs_cons {m:BV} (h:m≠0):cs m=tz m::cs (m&&& (m-1)):=by
 obtain⟨k,hk,h1,h2⟩:=low_ex h
 rw[low_and hk h1 h2,tz_low hk h1 h2]
 exact cs_low hk h1 h2
theorem tz_in {m:BV} (h:m≠0):hs m (tz m)=true:=by
 obtain⟨k,hk,h1,h2⟩:=low_ex h
 rw[tz_low hk h1 h2];exact h1
theorem tz_lt {m:BV}:tz m<64↔m≠0:=by
 constructor
 ·rintro h rfl;rw[tz_zero]at h;omega
 ·intro h;exact(hs_in (tz_in h)).2
def dbp (k:Nat):Int:=shrOp .u64 (IntKind.wrap .u64 (mi (bt k)*285870213051353865)) 58
def dbt:List Nat:=[0,1,56,2,57,49,28,3,61,58,42,50,38,29,17,4,62,47,59,36,45,43,51,22,53,39,33,30,24,18,12,5,63,55,48,27,60,41,37,16,46,35,44,21,52,32,23,11,54,26,40,15,34,20,31,10,25,14,19,9,13,8,7,6]
theorem dbp_ok:∀k:Nat,k<64->0<=dbp k/\dbp k<64/\dbt[(dbp k).toNat]?=some k:=by decide +kernel
end Go.Dav
namespace Go.Dav
def pcN (n x:Nat):Nat:=((List.range n).filter (fun i=>x.testBit i)).length
theorem pcN_add (a b x:Nat):pcN (a+b) x=pcN a x+pcN b (x/2 ^ a):=by
 unfold pcN
 rw[List.range_add,List.filter_append,List.length_append,List.filter_map,List.length_map]
 congr 2
 apply List.filter_congr
 intro i _
 simp[Nat.testBit_div_two_pow,Nat.add_comm]
theorem pcN_mod (n x:Nat):pcN n x=pcN n (x%2 ^ n):=by
 unfold pcN
 congr 1
 apply List.filter_congr
 intro i hi
 rw[List.mem_range]at hi
 simp[Nat.testBit_mod_two_pow,hi]
theorem cs_pc (m:BV):(cs m).length=pcN 64 m.toNat:=by
 unfold cs upto pcN
 rw[List.filter_map,List.length_map]
 refine congrArg List.length (List.filter_congr fun i hi=>?_)
 rw[List.mem_range]at hi
 show hs m (i:Int)=_
 unfold hs
 have:decide (0<=(i:Int)/\(i:Int)<64)=true:=decide_eq_true ⟨by omega,by omega⟩
 rw[this]
 simp[BitVec.getLsbD]
def val8:List Nat->Nat
 | []=>0
 | b::l=>b+256*val8 l
def bytes8:Nat->Nat->List Nat
 | 0,_=>[]
 | n+1,x=>x%256::bytes8 n (x/256)
theorem val_bytes:∀n x,x<256 ^ n->val8 (bytes8 n x)=x
 | 0,x,h=>by simp at h;subst h;rfl
 | n+1,x,h=>by
  have hx:x/256<256 ^ n:=by rw[Nat.pow_succ]at h;omega
  show x%256+256*val8 (bytes8 n (x/256))=x
  rw[val_bytes n _ hx]
  omega
theorem pc_bytes:∀n x,pcN (8*n) x=((bytes8 n x).map (pcN 8)).sum
 | 0,x=>rfl
 | n+1,x=>by
  have e:8*(n+1)=8+8*n:=by omega
  rw[e,pcN_add,pcN_mod 8 x,show(2:Nat) ^ 8=256 from rfl,pc_bytes n (x/256)]
  rfl
theorem bytes_lt:∀n x,∀b∈bytes8 n x,b<256
 | 0,_,b,h=>by cases h
 | n+1,x,b,h=>by
  rcases List.mem_cons.1 h with h|h
  ·omega
  ·exact bytes_lt n _ b h
theorem bytes_len:∀n x,(bytes8 n x).length=n
 | 0,_=>rfl
 | n+1,x=>by simp[bytes8,bytes_len n]
def rep8 (m:Nat):Nat->Nat
 | 0=>0
 | n+1=>m+256*rep8 m n
theorem and_lane {b y m M:Nat} (hb:b<256) (hm:m<256):(b+256*y)&&& (m+256*M)=(b&&& m)+256*(y&&& M):=by
 have e:∀a c:Nat,a+256*c=2 ^ 8*c+a:=fun a c=>by omega
 have hbm:b&&& m<2 ^ 8:=Nat.and_lt_two_pow b (by omega)
 rw[e,e,e]
 apply Nat.eq_of_testBit_eq
 intro i
 rw[Nat.testBit_and,Nat.testBit_two_pow_mul_add _ (by omega),Nat.testBit_two_pow_mul_add _ (by omega),Nat.testBit_two_pow_mul_add _ hbm]
 split
 ·rw[Nat.testBit_and]
 ·rw[Nat.testBit_and]
def sA (x M:Nat):Nat:=(x/2&&& M)+(x&&& M)
def sB (x M:Nat):Nat:=(x/4&&& M)+(x&&& M)
def sC (x M:Nat):Nat:=(x/16+x)&&& M
theorem a_byte:∀b,b<256->∀t,t<2->(b/2+128*t)&&& 85=b/2&&& 85:=by decide +kernel
theorem b_byte:∀b,b<256->∀t,t<4->(b/4+64*t)&&& 51=b/4&&& 51:=by decide +kernel
theorem c_byte:∀b,b<69->∀t,t<5->(b/16+16*t+b)&&& 15=(b/16+b)&&& 15:=by decide +kernel
theorem a_lane {b y M:Nat} (hb:b<256):sA (b+256*y) (85+256*M)=sA b 85+256*sA y M:=by
 unfold sA
 have e:(b+256*y)/2=(b/2+128*(y%2))+256*(y/2):=by omega
 rw[e,and_lane (by omega) (by omega),and_lane hb (by omega),a_byte b hb _ (by omega)]
 omega
theorem b_lane {b y M:Nat} (hb:b<256):sB (b+256*y) (51+256*M)=sB b 51+256*sB y M:=by
 unfold sB
 have e:(b+256*y)/4=(b/4+64*(y%4))+256*(y/4):=by omega
 rw[e,and_lane (by omega) (by omega),and_lane hb (by omega),b_byte b hb _ (by omega)]
 omega
theorem c_lane {b y M:Nat} (hb:b<69) (hy:y%16<5):sC (b+256*y) (15+256*M)=sC b 15+256*sC y M:=by
 unfold sC
 have e:(b+256*y)/16+(b+256*y)=(b/16+16*(y%16)+b)+256*(y/16+y):=by omega
 rw[e,and_lane (by omega) (by omega),c_byte b hb _ hy]
theorem a_val:∀l:List Nat,(∀b∈l,b<256)->sA (val8 l) (rep8 85 l.length)=val8 (l.map (fun b=>sA b 85))
 | [],_=>rfl
 | b::l,h=>by
  show sA (b+256*val8 l) (85+256*rep8 85 l.length)=sA b 85+256*val8 (l.map _)
  rw[a_lane (h b (by simp)),a_val l (fun c hc=>h c (by simp[hc]))]
theorem b_val:∀l:List Nat,(∀b∈l,b<256)->sB (val8 l) (rep8 51 l.length)=val8 (l.map (fun b=>sB b 51))
 | [],_=>rfl
 | b::l,h=>by
  show sB (b+256*val8 l) (51+256*rep8 51 l.length)=sB b 51+256*val8 (l.map _)
  rw[b_lane (h b (by simp)),b_val l (fun c hc=>h c (by simp[hc]))]
theorem c_val:∀l:List Nat,(∀b∈l,b<69/\b%16<5)->sC (val8 l) (rep8 15 l.length)=val8 (l.map (fun b=>sC b 15))
 | [],_=>rfl
 | b::l,h=>by
  show sC (b+256*val8 l) (15+256*rep8 15 l.length)=sC b 15+256*val8 (l.map _)
  have hy:val8 l%16<5:=by
   cases l with
   | nil=>decide
   | cons c l=>
    have:=(h c (by simp)).2
    show(c+256*val8 l)%16<5
    omega
  rw[c_lane (h b (by simp)).1 hy,c_val l (fun c hc=>h c (by simp[hc]))]
theorem abc_byte:∀b,b<256->sA b 85<256/\(sB (sA b 85) 51<69/\sB (sA b 85) 51%16<5)/\sC (sB (sA b 85) 51) 15=pcN 8 b/\pcN 8 b<=8:=by decide +kernel
theorem abc_val (l:List Nat) (h:∀b∈l,b<256):sC (sB (sA (val8 l) (rep8 85 l.length)) (rep8 51 l.length)) (rep8 15 l.length)=val8 (l.map (pcN 8)):=by
 rw[a_val l h]
 have e1:=b_val (l.map (fun b=>sA b 85)) (fun c hc=>by obtain⟨b,hb,rfl⟩:=List.mem_map.1 hc;exact(abc_byte b (h b hb)).1)
 rw[List.length_map]at e1
 rw[e1,List.map_map]
 have e2:=c_val (l.map ((fun b=>sB b 51)∘fun b=>sA b 85)) (fun c hc=>by obtain⟨b,hb,rfl⟩:=List.mem_map.1 hc;exact(abc_byte b (h b hb)).2.1)
 rw[List.length_map]at e2
 rw[e2,List.map_map]
 congr 1
 apply List.map_congr_left
 intro b hb
 exact(abc_byte b (h b hb)).2.2.1
theorem x1 (b r:Nat) (h:b<=100):(b+256*r)/256=r:=by omega
theorem x2 (s1 s2 r:Nat) (h1:s1<=100) (h2:s2<=100):(s1+256*(s2+256*r))/65536=r:=by omega
theorem x3 (s1 s2 s3 s4 r:Nat) (h1:s1<=100) (h2:s2<=100) (h3:s3<=100) (h4:s4<=100):(s1+256*(s2+256*(s3+256*(s4+256*r))))/4294967296=r:=by omega
theorem x4 (a r b q:Nat):(a+256*r)+(b+256*q)=(a+b)+256*(r+q):=by omega
theorem x5 {a b c d e f g h:Nat} (ha:a<=100) (hb:b<=100) (hc:c<=100) (hd:d<=100) (he:e<=100) (hf:f<=100) (hg:g<=100) (hh:h<=100):(a+256*(b+256*(c+256*(d+256*(e+256*(f+256*(g+256*h)))))))<18446744073709551616:=by omega
theorem x6 {s q n:Nat} (hs:s=n) (hn:n<=100):(s+256*q)%128=n:=by omega
theorem fold8 (a b c d e f g h:Nat) (ha:a<=8) (hb:b<=8) (hc:c<=8) (hd:d<=8) (he:e<=8) (hf:f<=8) (hg:g<=8) (hh:h<=8) {y y4 y5 y6:Nat}
  (e0:y=val8 [a,b,c,d,e,f,g,h]) (e4:y4=y+y/256) (e5:y5=y4+y4/65536) (e6:y6=y5+y5/4294967296) :
  y4<18446744073709551616/\y5<18446744073709551616/\y6<18446744073709551616/\y6%128=a+b+c+d+e+f+g+h:=by
 simp only[val8,Nat.mul_zero,Nat.add_zero]at e0
 have d1:y/256=b+256*(c+256*(d+256*(e+256*(f+256*(g+256*h))))):=by rw[e0];exact x1 _ _ (by omega)
 rw[d1,e0]at e4
 have e4':y4=(a+b)+256*((b+c)+256*((c+d)+256*((d+e)+256*((e+f)+256*((f+g)+256*((g+h)+256*h)))))):=by
  rw[e4,x4,x4,x4,x4,x4,x4,Nat.add_right_comm g (256*h) h]
 clear e4 e0 d1
 have d2:y4/65536=(c+d)+256*((d+e)+256*((e+f)+256*((f+g)+256*((g+h)+256*h)))):=by rw[e4'];exact x2 _ _ _ (by omega) (by omega)
 have e5':y5=(a+b+(c+d))+256*((b+c+(d+e))+256*((c+d+(e+f))+256*((d+e+(f+g))+256*((e+f+(g+h))+256*((f+g+h)+256*((g+h)+256*h)))))):=by
  rw[e5,d2,e4',x4,x4,x4,x4,x4,Nat.add_right_comm (f+g) _ h]
 have d3:y5/4294967296=(e+f+(g+h))+256*((f+g+h)+256*((g+h)+256*h)):=by rw[e5'];exact x3 _ _ _ _ _ (by omega) (by omega) (by omega) (by omega)
 have e6':y6=(a+b+(c+d)+(e+f+(g+h)))+256*((b+c+(d+e)+(f+g+h))+256*((c+d+(e+f)+(g+h))+256*((d+e+(f+g)+h)+256*((e+f+(g+h))+256*((f+g+h)+256*((g+h)+256*h)))))):=by
  rw[e6,d3,e5',x4,x4,x4,Nat.add_right_comm (d+e+(f+g)) _ h]
 clear e5 d2 d3 e6
 refine⟨?_,?_,?_,?_⟩
 ·rw[e4'];clear e4' e5' e6';exact x5 (by omega) (by omega) (by omega) (by omega) (by omega) (by omega) (by omega) (by omega)
 ·rw[e5'];clear e4' e5' e6';exact x5 (by omega) (by omega) (by omega) (by omega) (by omega) (by omega) (by omega) (by omega)
 ·rw[e6'];clear e4' e5' e6';exact x5 (by omega) (by omega) (by omega) (by omega) (by omega) (by omega) (by omega) (by omega)
 ·rw[e6'];clear e4' e5' e6';exact x6 (by omega) (by omega)
theorem andN {x y:Nat} (hx:x<2 ^ 64) (hy:y<2 ^ 64):bitsOp .and .u64 (x:Int) (y:Int)=((x&&& y:Nat):Int):=by
 have e:∀z:Nat,z<2 ^ 64->(z:Int)=mi (BitVec.ofNat 64 z):=fun z hz=>by
  unfold mi
  rw[BitVec.toNat_ofNat,Nat.mod_eq_of_lt hz]
 rw[e x hx,e y hy,bits_and]
 unfold mi
 rw[BitVec.toNat_and,BitVec.toNat_ofNat,BitVec.toNat_ofNat,Nat.mod_eq_of_lt hx,Nat.mod_eq_of_lt hy]
theorem shrN (x:Nat) {k d:Nat} (hk:k<=64) (hd:2 ^ k=d):shrOp .u64 (x:Int) (k:Int)=((x/d:Nat):Int):=by
 subst hd
 unfold shrOp
 have e1:min ((k:Int)).toNat IntKind.u64.bits=k:=by show min _ 64=k;omega
 rw[e1,show((2:Int) ^ k)=((2 ^ k:Nat):Int) by simp,Int.fdiv_eq_ediv_of_nonneg _ (Int.natCast_nonneg _),<-Int.natCast_ediv]
theorem addN {x y:Nat} (h:x+y<2 ^ 64):IntKind.wrap .u64 ((x:Int)+(y:Int))=((x+y:Nat):Int):=by
 rw[wrapu (by omega)]
 omega
end Go.Dav
