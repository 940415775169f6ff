/- What functions of the program come to, part 2; the texts are made small to keep within a claim. -/
import Derived.ArgAppend
import Derived.DataElems
import Derived.Laws.MathBits
import Derived.Lib.LaidTab
import Derived.Deep.OwnRows
import Derived.MapKept
import Derived.Test.YtobclpijhmkniaaGreatDoorPartA
set_option linter.unusedVariables false
set_option linter.unusedSimpArgs false
set_option linter.unusedSectionVars false
namespace Go.Dav
open Go.Proofs
open Value IntKind Ending World Addr Tryz
set_option maxRecDepth 100000
noncomputable section
def GF:Mt:={N:=11,keep:=kp 0 [[0],[0,6],[2,3],[2,3]]}
def L4:=ak f109
theorem air:UT 109 GF L4 f109:=u_ func109 (by kernel_rfl)
theorem t109 (x w R):den prog GF L4 (aj 0 [I x]) w (Rt f109 R)=
(Cj 198 [I x] w fun b w'=>Fo (!b) (R (Z (tuple #[pointer none,I 2])) w') (ob w' fun r w'=>ay w' [I x,map (some r),N3,N3,N3,N3,N3,N3,N3,N3,N3,N3,N3,N3,N3,N3,N3,N3,N3,N3,N3,N3,N3,N3,N3,N3,N3,N3,N3,N3,N3,N3,N3,N3,N3,N3,N3,N3,N3,N3,N3,N3,N3,N3,N3,N3,N3,N3,N3,N3,N3,N3,N3,N3,N3,N3,N3,N3,N3,N3,N3,N3,N3,N3,N3,N3,N3,N3,N3,N3,N3,N3,N3,N3,N3,N3,N3,N3,N3,N3,N3,N3,N3,N3,N3,N3,N3,N3,N3,N3,N3,N3,N3,N3,N3,N3,N3,N3,N3,N3,N3,N3,N3,N3,N3,N3,N3,N3,N3,N3,N3,N3,N3,N3,N3,N3,N3,N3,N3,N3,N3,N3,N3,N3,N3,N3,N3,N3,N3,N3,N3,N3,N3,N3,N3,N3,N3,N3,N3,N3,N3,N3,N3,N3,N3,N3,N3,N3,N3,N3,N3,N3,N3,N3,N3,N3,N3,N3,N3,N3,N3,N3,N3,N3,N3,N3,N3,N3,N3,N3,N3] 289 fun p w'=>R (Z (tuple #[pointer (some p),I 0])) w')):=by kernel_rfl
def HT:Mt:={N:=9,keep:=kp 0 [[0],[2]]}
def Nr:=ak f198
theorem ajF:UT 198 HT Nr f198:=u_ func198 (by kernel_rfl)
theorem t198 (x w R):den prog HT Nr (aj 0 [I x]) w (Rt f198 R)=
(Fo (decide (x>=0)) (R (Z (.bool (decide (x<=1152921504606846976)))) w) (R (Z (.bool false)) w)):=by kernel_rfl
def qM:Mt:={N:=62,keep:=kp 0 [[0,1],[0,1,8],[4],[0,1,11],[4],[0,1,23],[4],[0,1,5],[0,1,5,6],[0,1,5,6,36,37],[0,1,5,6,36,37,38],[0,1,5,6,7,36,37],[0,1,5,6,36,37],[0,1,5,6,36,37],[0,1,6],[0,6],[],[4]],bk:=[(0,[0,1]),(1,[0,1,5,6]),(2,[0,1,5,6,36,37])],cB:=[(14,[0,1,5,6])],lk:=[(10,[0,1,5,6,36,37])]}
def yj:=ak f231
def B8:=yj.sr.sr.sr.sr.sr
def NZ:=yj.sr.sr.sr.sr.sl.sr.sl.sl
def Se (x:Option Addr) (x1 x2:Int) (x3:Option Addr) (x4 x5:Nat):Env:=[vP 0 x,vI 1 x1,vI 5 x2,vS 6 x3 x4 x5]
def C4 (x:Option Addr) (x1 x2:Int) (x3:Option Addr) (x4 x5:Nat) (x6 x7:Int):Env:=[vP 0 x,vI 1 x1,vI 5 x2,vS 6 x3 x4 x5,vI 36 x6,vI 37 x7]
def TZ (R:RT):=Rt f231 R
def T0 (R:RT):=a7 1 [0,1,5,6] (SQ qM B8 (Rt f231 R) (Rt f231 R))
theorem akb:UT 231 qM yj f231:=u_ func231 (by kernel_rfl)
theorem t231 (x x1 w R):den prog qM yj (aj 0 [pointer x,I x1]) w (Rt f231 R)=
(Fo x.isNone (R (Z (I 1)) w) (∃a,x=some a/\∃n,w.cell? (a.add 0)=some (I n)/\Fz (decide (x1<n)) (Call prog 198 [I x1] w fun e w'=>∃b,e=Z (.bool b)/\Fo (!b) (R (Z (I 2)) w') (∃a,x=some a/\∃n,w'.cell? (a.add 0)=some (I n)/\Fo (x1==n) (R (Z (I 0)) w') (∃a,x=some a/\∃n,w'.cell? (a.add 0)=some (I n)/\Call prog 314 [I x1,I n] w' fun e w'=>∃n,e=Z (I n)/\Cut (WP prog 62 (Code.loop NZ) (C4 x x1 n none 0 0 n 0) w' (T0 R))))) (R (Z (I 2)) w))):=by kernel_rfl
theorem agL (x x1 x2 x3 x4 x5 w R):den prog qM B8 (Se x x1 x2 x3 x4 x5) w (TZ R)=
(Call prog 316 [I x1,I x2] w fun e w'=>∃n,e=Z (I n)/\Call prog 315 [pointer x,I x2,I (wrap i64 (n+1))] w' fun e w'=>∃p n c,e=Z (slice p n c)/\∃b d f g,Sem.run prog (Builtin.append_ #[36,36] 36 #[slice x3 x4 x5,slice p n c]) w'=Result.ok (slice b d f) g/\∃a,x=some a/\Wr g (a.add 0) [I x1] fun w'=>Call prog 317 [pointer x,slice b d f] w' fun e w'=>e=Z (tuple #[])/\R (Z (I 0)) w'):=by kernel_rfl
theorem agM (x x1 x2 x3 x4 x5 x6 x7 w B R):den prog qM NZ (C4 x x1 x2 x3 x4 x5 x6 x7) w (bo B (T0 R))=
(Fo (decide (x7<x6)) (Call prog 315 [pointer x,I x7,I 8] w fun e w'=>∃p n c,e=Z (slice p n c)/\∃a b d f,Sem.run prog (Builtin.append_ #[36,36] 36 #[slice x3 x4 x5,slice p n c]) w'=Result.ok (slice a b d) f/\B [vP 0 x,vI 1 x1,vI 5 x2,vS 6 a b d,vI 36 x6,(37,SV.v (I (wrap i64 (x7+1))))] f) (aA prog qM B8 (Se x x1 x2 x3 x4 x5) w (TZ R))):=by kernel_rfl
def GC:Mt:={N:=21,keep:=kp 0 [[0,1],[0,1,9],[4,5],[6,7],[4,5]]}
def L1:=ak f106
theorem aio:UT 106 GC L1 f106:=u_ func106 (by kernel_rfl)
theorem t106 (x x1 w R):den prog GC L1 (aj 0 [pointer x,I x1]) w (Rt f106 R)=
(Fo x.isNone (R (Z (tuple #[I 0,.bool false])) w) (∃a,x=some a/\∃r,w.cell? (a.add 1)=some (map r)/\∃n b,Sem.run prog (Instr.lookup 285 (map r) (I x1) true) w=Result.ok (tuple #[I n,.bool b]) w/\R (Z (tuple #[I n,.bool b])) w)):=by kernel_rfl
def HN:Mt:={N:=13,keep:=kp 0 [[0],[0,4],[2],[2]]}
def Ni:=ak f184
theorem ajz:UT 184 HN Ni f184:=u_ func184 (by kernel_rfl)
theorem t184 (x w R):den prog HN Ni (aj 0 [pointer x]) w (Rt f184 R)=
(Fo x.isNone (R (Z (N3)) w) (∃a,x=some a/\∃r,w.cell? (a.add 1)=some (map r)/\Call prog 276 [map r] w fun e w'=>∃v,e=Z v/\Cq 275 [v] w' fun p n c w'=>Cq 274 [pointer x,slice p n c] w' fun p n c w'=>R (Z (slice p n c)) w')):=by kernel_rfl
def I8:Mt:={N:=12,keep:=kp 0 [[1,2],[2,5],[5],[4]]}
def OI:=ak f274
theorem akP:UT 274 I8 OI f274:=u_ func274 (by kernel_rfl)
theorem t274 (x x1 x2 x3 w R):den prog I8 OI (aj 0 [pointer x,slice x1 x2 x3]) w (Rt f274 R)=
(ay w [pointer x] 181 fun p w'=>Cq 190 [slice x1 x2 x3] w' fun a n c w'=>Cn 342 [slice a n c,func (Fn.func 343) #[] #[pointer (some p)]] w' fun w'=>R (Z (slice a n c)) w'):=by kernel_rfl
def Jb:Mt:={N:=11,keep:=kp 0 [[0],[0,4],[2],[2]]}
def OM:=ak f293
theorem akT:UT 293 Jb OM f293:=u_ func293 (by kernel_rfl)
theorem t293 (x w R):den prog Jb OM (aj 0 [pointer x]) w (Rt f293 R)=
(Fo x.isNone (R (Z (N3)) w) (∃a,x=some a/\Lq w (a.add 170) fun p n c=>Cq 274 [pointer x,slice p n c] w fun p n c w'=>R (Z (slice p n c)) w')):=by kernel_rfl
def Jl:Mt:={N:=25,keep:=kp 0 [[0],[0,4],[2,3],[0,7],[2,3],[2,3]],bu:=[(5,(.range 13))],bk:=[(0,[0])]}
def OY:=ak f303
theorem ak3:UT 303 Jl OY f303:=u_ func303 (by kernel_rfl)
theorem t303 (x w R):den prog Jl OY (aj 0 [pointer x]) w (Rt f303 R)=
(Fo x.isNone (R (Z (tuple #[I 0,I 1])) w) (∃a,x=some a/\∃r,w.cell? (a.add 1)=some (map r)/\∃(n:Nat),(∀(ty:TypeId),Sem.run prog (Builtin.len_ #[285] ty #[map r]) w=Result.ok (I (↑n:Int)) w)/\Fo ((↑n:Int)==0) (R (Z (tuple #[I 0,I 12])) w) (Sm w fun w'=>∃a,x=some a/\∃r,w'.cell? (a.add 1)=some (map r)/\Cq 362 [pointer x] w' fun p n c w'=>w'.cell? (a.add 1)=some (map r)/\Cq 274 [pointer x,slice p n c] w' fun p n c w'=>w'.cell? (a.add 1)=some (map r)/\((0:Int)<=0/\0<(↑n:Int))/\∃a,p=some a/\Li w' (a.add 0) fun n=>∃b,Sem.run prog (Instr.lookup 285 (map r) (I n) false) w'=Result.ok (I b) w'/\R (Z (tuple #[I b,I 0])) w'))):=by kernel_rfl
def Jy:Mt:={N:=12,keep:=kp 0 [[0,1],[4]]}
def Pa:=ak f314
theorem ale:UT 314 Jy Pa f314:=u_ func314 (by kernel_rfl)
theorem t314 (x x1 w R):den prog Jy Pa (aj 0 [I x,I x1]) w (Rt f314 R)=
(Ci 371 [int .u64 (wrap .u64 (aw BinOp.xor i64 x x1))] w fun n w'=>(3:Int)≠0/\R (Z (I (wrap i64 (Int.tdiv (wrap i64 (n-1)) 3)))) w'):=by kernel_rfl
def uU:Mt:={N:=33,keep:=kq 0 [(1,[0,1,2]),(1,[0,1,2,7]),(1,[0,1,7,10,11]),(1,[0,1,7,10,11,12]),(2,[0,1,7,8,10,11]),(2,[0,1,7,10,11]),(1,[6])],bk:=[(0,[7]),(1,[0,1,7,10,11])],lk:=[(3,[0,1,7,10,11])]}
def yu:=ak f315
def Y6:=yu.sr.sr.sr
def Pb:=yu.sr.sr.sl.sr.sl.sl
def Dc (x:Option Addr) (x1:Int) (x2:Option Addr) (x3 x4:Nat) (x5 x6:Int):Env:=[vP 0 x,vI 1 x1,vS 7 x2 x3 x4,vI 10 x5,vI 11 x6]
def Ua (R:RT):=a7 0 [7] (SQ uU Y6 (Rt f315 R) (Rt f315 R))
theorem alf:UT 315 uU yu f315:=u_ func315 (by kernel_rfl)
theorem t315 (x x1 x2 w R):den prog uU yu (aj 0 [pointer x,I x1,I x2]) w (Rt f315 R)=
(∃n w',Sem.run prog (Builtin.min_ #[3,3] 3 #[I x2,I 8]) w=Result.ok (I n) w'/\Cut (WP prog 33 (Code.loop Pb) (Dc x x1 none 0 0 n 0) w' (Ua R))):=by kernel_rfl
theorem agX (x x1 x2 x3 x4 x5 x6 w B R):den prog uU Pb (Dc x x1 x2 x3 x4 x5 x6) w (bo B (Ua R))=
(Fo (decide (x6<x5)) (∃a,x=some a/\(0<=x1/\x1<(↑21:Int))/\(0<=x6/\x6<(↑8:Int))/\∃p n c,w.cell? (add (add (a.add 2) (Int.toNat x1*8)) (Int.toNat x6*1))=some (slice p n c)/\∃b d e w',Sem.run prog (Builtin.append_ #[36,36] 36 #[slice x2 x3 x4,slice p n c]) w=Result.ok (slice b d e) w'/\∃a,x=some a/\(0<=x1/\x1<(↑21:Int))/\(0<=x6/\x6<(↑8:Int))/\Wr w' (add (add (a.add 2) (Int.toNat x1*8)) (Int.toNat x6*1)) [N3] fun w'=>B [vP 0 x,vI 1 x1,vS 7 b d e,vI 10 x5,(11,SV.v (I (wrap i64 (x6+1))))] w') (R (Z (slice x2 x3 x4)) w)):=by kernel_rfl
def Jz:Mt:={N:=10,keep:=kp 0 [[0,1],[4]]}
def Pc:=ak f316
theorem alg:UT 316 Jz Pc f316:=u_ func316 (by kernel_rfl)
theorem t316 (x x1 w R):den prog Jz Pc (aj 0 [I x,I x1]) w (Rt f316 R)=
(0<=wrap i64 (3*x1)/\(8:Int)≠0/\R (Z (I (Int.tmod (aC i64 x (wrap i64 (3*x1))) 8))) w):=by kernel_rfl
def xx:Mt:={N:=30,keep:=kp 0 [[0,7,8,9],[0,7,8,9,10],[0,5,7,8,9],[0,5,6,7,8,9],[0,7,8,9],[0,7,8,9]],bk:=[(0,[]),(1,[0,7,8,9])],lk:=[(1,[0,7,8,9])]}
def Cb:=ak f317
def Pd:=Cb.sr.sl.sl
def Dd (x x1:Option Addr) (x2 x3:Nat) (x4 x5:Int):Env:=[vP 0 x,vS 7 x1 x2 x3,vI 8 x4,vI 9 x5]
def Ub (R:RT):=a7 0 [] (Rt f317 R)
theorem alh:UT 317 xx Cb f317:=u_ func317 (by kernel_rfl)
theorem t317 (x x1 x2 x3 w R):den prog xx Cb (aj 0 [pointer x,slice x1 x2 x3]) w (Rt f317 R)=
(Cut (WP prog 30 (Code.loop Pd) (Dd x x1 x2 x3 (↑x2:Int) 0) w (Ub R))):=by kernel_rfl
theorem agY (x x1 x2 x3 x4 x5 w B R):den prog xx Pd (Dd x x1 x2 x3 x4 x5) w (bo B (Ub R))=
(Fo (decide (x5<x4)) ((0<=x5/\x5<(↑x2:Int))/\∃a,x1=some a/\Li w (add a (Int.toNat x5*1)) fun n=>∃a,x=some a/\∃r,w.cell? (a.add 1)=some (map r)/\∃b,Sem.run prog (Instr.lookup 285 (map r) (I n) false) w=Result.ok (I b) w/\Cp 372 [pointer x,I b] w fun p w'=>∃a,p=some a/\Lq w' a fun d f c=>ay w' [I n] 3 fun j w'=>∃g n h i,Sem.run prog (Builtin.append_ #[36,36] 36 #[slice d f c,slice (some j) 1 1]) w'=Result.ok (slice g n h) i/\∃a,p=some a/\Wr i a [slice g n h] fun w'=>B [vP 0 x,vS 7 x1 x2 x3,vI 8 x4,(9,SV.v (I (wrap i64 (x5+1))))] w') (R (Z (tuple #[])) w)):=by kernel_rfl
def JE:Mt:={N:=36,keep:=kp 0 [[0,1,2],[0,1,2,10],[6],[0,1,2,8],[0,1,2,8,20],[6],[0,1,2,24],[6],[0,1],[],[6]],bk:=[(0,[0,1,2])]}
def Pj:=ak f322
theorem aln:UT 322 JE Pj f322:=u_ func322 (by kernel_rfl)
theorem t322 (x x1 x2 w R):den prog JE Pj (aj 0 [pointer x,I x1,I x2]) w (Rt f322 R)=
(Fo x.isNone (R (Z (I 1)) w) (∃a,x=some a/\∃r,w.cell? (a.add 1)=some (map r)/\∃n b,Sem.run prog (Instr.lookup 285 (map r) (I x1) true) w=Result.ok (tuple #[I n,.bool b]) w/\Cj 198 [I x2] w fun c w'=>Fo (!c) (R (Z (I 2)) w') (Fo b (R (Z (I 6)) w') (∃a,x=some a/\∃r,w'.cell? (a.add 1)=some (map r)/\∃d,Sem.run prog (Instr.mapUpdate 285 (map r) (I x1) (I x2)) w'=Result.ok () d/\ay d [I x1] 3 fun p w'=>Cn 317 [pointer x,slice (some p) 1 1] w' fun w'=>R (Z (I 0)) w')))):=by kernel_rfl
def JG:Mt:={N:=36,keep:=kp 0 [[0,3],[0,3,9],[4],[0,3,5,6],[0,3,5,20],[4],[0,3,7],[0,3],[],[4]],bu:=[(3,(.range 11)),(8,(.range 6))]}
def Pm:=ak f324
theorem alp:UT 324 JG Pm f324:=u_ func324 (by kernel_rfl)
theorem t324 (x x1 w R):den prog JG Pm (aj 0 [pointer x,I x1]) w (Rt f324 R)=
(ay w [I x1] 3 fun p w'=>Fo x.isNone (R (Z (I 1)) w') (Sm w' fun d=>∃a,x=some a/\∃r,d.cell? (a.add 1)=some (map r)/\∃n,d.cell? p=some (I n)/\∃h b,Sem.run prog (Instr.lookup 285 (map r) (I n) true) d=Result.ok (tuple #[I h,.bool b]) d/\Fo (!b) (R (Z (I 4)) d) (Call prog 372 [pointer x,I h] d fun e w'=>∃f,e=Z (pointer f)/\∃a,f=some a/\Lq w' a fun i n c=>Cq 373 [slice i n c,func (Fn.func 374) #[] #[pointer (some p)]] w' fun j n c w'=>∃a,f=some a/\Wr w' a [slice j n c] fun w'=>Sm w' fun g=>∃a,x=some a/\∃r,g.cell? (a.add 1)=some (map r)/\∃n,g.cell? p=some (I n)/\∃w',Sem.run prog (Builtin.delete_ #[285,3] 0 #[map r,I n]) g=Result.ok (tuple #[]) w'/\R (Z (I 0)) w'))):=by kernel_rfl
def Ke:Mt:={N:=30,keep:=kp 0 [[0,1],[0,1,11],[4],[0,1,5],[4]],bu:=[(4,[0,1,2,3,5,6,7,4,8,9])]}
def P8:=ak f372
theorem al0:UT 372 Ke P8 f372:=u_ func372 (by kernel_rfl)
theorem t372 (x x1 w R):den prog Ke P8 (aj 0 [pointer x,I x1]) w (Rt f372 R)=
(∃a,x=some a/\Li w (a.add 0) fun n=>Fo (decide (x1<=n)) (∃a,x=some a/\R (Z (pointer (some (a.add 170)))) w) (∃a,x=some a/\Li w (a.add 0) fun n=>Ci 314 [I x1,I n] w fun n w'=>Sm w' fun c=>∃a,x=some a/\(0<=n/\n<(↑21:Int))/\Call prog 316 [I x1,I n] c fun e w'=>∃b,e=Z (I b)/\(0<=b/\b<(↑8:Int))/\R (Z (pointer (some (add (add (a.add 2) (Int.toNat n*8)) (Int.toNat b*1))))) w')):=by kernel_rfl
def Kf:Mt:={N:=7,keep:=kp 0 [[0,1],[3]]}
def P9:=ak f374
theorem al1:UT 374 Kf P9 f374:=u_ func374 (by kernel_rfl)
theorem t374 (x x1 w R):den prog Kf P9 (aj 0 [I x,pointer (some x1)]) w (Rt f374 R)=
(Li w x1 fun n=>R (Z (.bool (x==n))) w):=by kernel_rfl
def uZ:Mt:={N:=48,keep:=kp 0 [[0],[0,14],[2,3],[0,4,5],[0,4,5,20],[2,3],[0,6],[6,26,27],[6,26,27,28],[6,7,8,26,27],[6,7,8,26,27,34],[2,3],[6,26,27],[6,26,27],[2,3]],bk:=[(0,[6]),(1,[6,26,27])],lk:=[(8,[6,26,27])]}
def yF:=ak f38
def Zd:=yF.sr.sr.sr.sr.sr.sr
def Ql:=yF.sr.sr.sr.sr.sr.sl.sr.sl.sl
def Dn (x:Option Addr) (x1 x2:Int):Env:=[vP 6 x,vI 26 x1,vI 27 x2]
def Uo (R:RT):=a7 0 [6] (SQ uZ Zd (Rt f38 R) (Rt f38 R))
theorem u38:UT 38 uZ yF f38:=u_ func38 (by kernel_rfl)
theorem t38 (x w R):den prog uZ yF (aj 0 [I x]) w (Rt f38 R)=
(Fz (decide (x<1)) (Fo (decide (x>64)) (R (Z (tuple #[pointer none,I 2])) w) (Call prog 107 [I 48] w fun e w'=>∃p n,e=Z (tuple #[pointer p,I n])/\Fo (n !=0) (R (Z (tuple #[pointer none,I n])) w') (ob w' fun r w'=>ay w' [pointer p,N3,map (some r)] 185 fun p w'=>Cut (WP prog 48 (Code.loop Ql) (Dn (some p) x 0) w' (Uo R))))) (R (Z (tuple #[pointer none,I 2])) w)):=by kernel_rfl
theorem ahe (x x1 x2 w B R):den prog uZ Ql (Dn x x1 x2) w (bo B (Uo R))=
(Fo (decide (x2<x1)) (Call prog 109 [I 0] w fun e w'=>∃p n,e=Z (tuple #[pointer p,I n])/\Fo (n !=0) (R (Z (tuple #[pointer none,I n])) w') (∃a,x=some a/\Lq w' (a.add 1) fun b n c=>ay w' [pointer p] 181 fun p w'=>∃d f g h,Sem.run prog (Builtin.append_ #[183,183] 183 #[slice b n c,slice (some p) 1 1]) w'=Result.ok (slice d f g) h/\∃a,x=some a/\Wr h (a.add 1) [slice d f g] fun w'=>B [vP 6 x,vI 26 x1,(27,SV.v (I (wrap i64 (x2+1))))] w')) (R (Z (tuple #[pointer x,I 0])) w)):=by kernel_rfl
def Js:Mt:={N:=27,keep:=kp 0 [[0,1],[0,1,6,7],[0,1,6,15],[4,5],[4,5]]}
def O5:=ak f31
theorem u31:UT 31 Js O5 f31:=u_ func31 (by kernel_rfl)
theorem t31 (x x1 w R):den prog Js O5 (aj 0 [pointer x,I x1]) w (Rt f31 R)=
(Call prog 105 [pointer x,I x1] w fun e w'=>∃n b,e=Z (tuple #[I n,.bool b])/\Fo (!b) (R (Z (tuple #[I 0,.bool false])) w') (∃a,x=some a/\Lq w' (a.add 1) fun p d c=>(0<=n/\n<(↑d:Int))/\∃a,p=some a/\Lp w' (add a (Int.toNat n*1)) fun p=>Call prog 106 [pointer p,I x1] w' fun e w'=>∃n b,e=Z (tuple #[I n,.bool b])/\R (Z (tuple #[I n,.bool b])) w')):=by kernel_rfl
def K7:Mt:={N:=18,keep:=kp 0 [[0,1],[0,1,9],[4],[4]]}
def Q7:=ak f89
theorem u89:UT 89 K7 Q7 f89:=u_ func89 (by kernel_rfl)
theorem t89 (x x1 w R):den prog K7 Q7 (aj 0 [pointer x,I x1]) w (Rt f89 R)=
(ay w [I x1] 3 fun p w'=>Ci 183 [pointer x,slice (some p) 1 1] w' fun n w'=>Fo (n !=0) (R (Z (N3)) w') (∃a,x=some a/\Lq w' (a.add 1) fun p n c=>(0<=x1/\x1<(↑n:Int))/\∃a,p=some a/\Lp w' (add a (Int.toNat x1*1)) fun p=>Cq 184 [pointer p] w' fun p n c w'=>R (Z (slice p n c)) w')):=by kernel_rfl
def GB:Mt:={N:=21,keep:=kp 0 [[0,1],[0,1,9],[4,5],[6,7],[4,5]]}
def L0:=ak f105
theorem ain:UT 105 GB L0 f105:=u_ func105 (by kernel_rfl)
theorem t105 (x x1 w R):den prog GB L0 (aj 0 [pointer x,I x1]) w (Rt f105 R)=
(Fo x.isNone (R (Z (tuple #[I 0,.bool false])) w) (∃a,x=some a/\∃r,w.cell? (a.add 2)=some (map r)/\∃n b,Sem.run prog (Instr.lookup 78 (map r) (I x1) true) w=Result.ok (tuple #[I n,.bool b]) w/\R (Z (tuple #[I n,.bool b])) w)):=by kernel_rfl
def uH:Mt:={N:=28,keep:=kp 0 [[0,1],[0,1,5],[0,1,5,12],[4],[0,1,6],[1,6,17,18,19],[1,6,17,18,19,20],[1,8,17,18,19],[1,6,17,18,19],[1,6,17,18,19],[4]],bk:=[(0,[6]),(1,[1,6,17,18,19])],lk:=[(6,[1,6,17,18,19])]}
def xM:=ak f124
def YP:=xM.sr.sr.sr.sr
def Mm:=xM.sr.sr.sr.sl.sr.sl.sl
def CR (x x1:Int) (x2:Option Addr) (x3 x4:Nat) (x5 x6:Int):Env:=[vI 1 x,vI 6 x1,vS 17 x2 x3 x4,vI 18 x5,vI 19 x6]
def TH (R:RT):=a7 0 [6] (SQ uH YP (Rt f124 R) (Rt f124 R))
theorem aiH:UT 124 uH xM f124:=u_ func124 (by kernel_rfl)
theorem t124 (x x1 w R):den prog uH xM (aj 0 [pointer x,I x1]) w (Rt f124 R)=
(Ci 183 [pointer x,N3] w fun n w'=>Fo (n !=0) (R (Z (I n)) w') (∃a,x=some a/\Lq w' (a.add 1) fun p n c=>Cut (WP prog 28 (Code.loop Mm) (CR x1 0 p n c (↑n:Int) 0) w' (TH R)))):=by kernel_rfl
theorem agp (x x1 x2 x3 x4 x5 x6 w B R):den prog uH Mm (CR x x1 x2 x3 x4 x5 x6) w (bo B (TH R))=
(Fo (decide (x6<x5)) ((0<=x6/\x6<(↑x3:Int))/\∃a,x2=some a/\Lp w (add a (Int.toNat x6*1)) fun p=>Ci 231 [pointer p,I x] w fun n w'=>B [vI 1 x,vI 6 n,vS 17 x2 x3 x4,vI 18 x5,(19,SV.v (I (wrap i64 (x6+1))))] w') (R (Z (I x1)) w)):=by kernel_rfl
def uN:Mt:={N:=27,keep:=kp 0 [[0,1],[0,1,8],[4],[0,9,10,11],[0,9,10,11,12],[0,6,9,10,11],[0,9,10,11,25],[4],[0,9,10,11],[4]],bk:=[(0,[]),(1,[0,9,10,11])],lk:=[(4,[0,9,10,11])]}
def xY:=ak f183
def YY:=xY.sr.sr.sr
def Nh:=xY.sr.sr.sl.sr.sl.sl
def CY (x x1:Option Addr) (x2 x3:Nat) (x4 x5:Int):Env:=[vP 0 x,vS 9 x1 x2 x3,vI 10 x4,vI 11 x5]
def TP (R:RT):=a7 0 [] (SQ uN YY (Rt f183 R) (Rt f183 R))
theorem ajy:UT 183 uN xY f183:=u_ func183 (by kernel_rfl)
theorem t183 (x x1 x2 x3 w R):den prog uN xY (aj 0 [pointer x,slice x1 x2 x3]) w (Rt f183 R)=
(Fo x.isNone (R (Z (I 1)) w) (Cut (WP prog 27 (Code.loop Nh) (CY x x1 x2 x3 (↑x2:Int) 0) w (TP R)))):=by kernel_rfl
theorem agA (x x1 x2 x3 x4 x5 w B R):den prog uN Nh (CY x x1 x2 x3 x4 x5) w (bo B (TP R))=
(Fo (decide (x5<x4)) ((0<=x5/\x5<(↑x2:Int))/\∃a,x1=some a/\Li w (add a (Int.toNat x5*1)) fun n=>Fz (decide (n<0)) (∃a,x=some a/\Lq w (a.add 1) fun p b c=>Fo (decide (n>=(↑b:Int))) (R (Z (I 3)) w) (B [vP 0 x,vS 9 x1 x2 x3,vI 10 x4,(11,SV.v (I (wrap i64 (x5+1))))] w)) (R (Z (I 3)) w)) (R (Z (I 0)) w)):=by kernel_rfl
def H0:Mt:={N:=22,keep:=kp 0 [[0,1],[4]]}
def Nz:=ak f205
theorem ajL:UT 205 H0 Nz f205:=u_ func205 (by kernel_rfl)
theorem t205 (x x1 w R):den prog H0 Nz (aj 0 [pointer x,I x1]) w (Rt f205 R)=
(ay w [I x1] 3 fun p w'=>Ci 183 [pointer x,slice (some p) 1 1] w' fun n w'=>Fo (n==0) (∃a,x=some a/\Lq w' (a.add 1) fun p n c=>(0<=x1/\x1<(↑n:Int))/\∃a,p=some a/\Lp w' (add a (Int.toNat x1*1)) fun p=>Cq 293 [pointer p] w' fun p n c w'=>R (Z (.bool (decide ((↑n:Int)>0)))) w') (R (Z (.bool false)) w')):=by kernel_rfl
def Ia:Mt:={N:=24,keep:=kp 0 [[0,1],[0,1,6],[0,1,6,12],[4,5],[4,5]]}
def NI:=ak f214
theorem ajU:UT 214 Ia NI f214:=u_ func214 (by kernel_rfl)
theorem t214 (x x1 w R):den prog Ia NI (aj 0 [pointer x,I x1]) w (Rt f214 R)=
(ay w [I x1] 3 fun p w'=>Ci 183 [pointer x,slice (some p) 1 1] w' fun n w'=>Fo (n !=0) (R (Z (tuple #[I 0,I n])) w') (∃a,x=some a/\Lq w' (a.add 1) fun p n c=>(0<=x1/\x1<(↑n:Int))/\∃a,p=some a/\Lp w' (add a (Int.toNat x1*1)) fun p=>Ct 303 [pointer p] w' fun n b w'=>R (Z (tuple #[I n,I b])) w')):=by kernel_rfl
def ID:Mt:={N:=52,keep:=kp 0 [[0,1,2],[0,1,2,8],[0,1,2,8,16],[6,7],[0,1,2,23],[6,7],[0,1,2,9,10],[0,1,2,9,10,33],[6,7],[0,1,2,9],[6,7]]}
def N8:=ak f240
theorem akk:UT 240 ID N8 f240:=u_ func240 (by kernel_rfl)
theorem t240 (x x1 x2 w R):den prog ID N8 (aj 0 [pointer x,I x1,I x2]) w (Rt f240 R)=
(ay w [I x1] 3 fun p w'=>Ci 183 [pointer x,slice (some p) 1 1] w' fun n w'=>Fo (n !=0) (R (Z (tuple #[I 0,I n])) w') (Fz (decide (x2<0)) (Fo (decide (x2>1152921504606846976)) (R (Z (tuple #[I 0,I 2])) w') (∃a,x=some a/\Lp w' (a.add 0) fun p=>Ct 149 [pointer p] w' fun n b w'=>Fo (b !=0) (R (Z (tuple #[I 0,I b])) w') (∃a,x=some a/\∃r,w'.cell? (a.add 2)=some (map r)/\∃d,Sem.run prog (Instr.mapUpdate 78 (map r) (I n) (I x1)) w'=Result.ok () d/\∃a,x=some a/\∃p f c,d.cell? (a.add 1)=some (slice p f c)/\(0<=x1/\x1<(↑f:Int))/\∃a,p=some a/\∃p,d.cell? (add a (Int.toNat x1*1))=some (pointer p)/\Call prog 322 [pointer p,I n,I x2] d fun e w'=>∃g,e=Z (I g)/\R (Z (tuple #[I n,I g])) w'))) (R (Z (tuple #[I 0,I 2])) w'))):=by kernel_rfl
def IH:Mt:={N:=39,keep:=kp 0 [[0,1],[0,1,5,6],[0,1,5,6,13],[4],[0,1,5,16],[4],[0,1,5],[0,1,5],[4]],bk:=[(0,[0,1,5])]}
def Od:=ak f244
theorem ako:UT 244 IH Od f244:=u_ func244 (by kernel_rfl)
theorem t244 (x x1 w R):den prog IH Od (aj 0 [pointer x,I x1]) w (Rt f244 R)=
(Call prog 105 [pointer x,I x1] w fun e w'=>∃n b,e=Z (tuple #[I n,.bool b])/\Fo x.isNone (R (Z (I 1)) w') (Fo (!b) (R (Z (I 4)) w') (∃a,x=some a/\∃r,w'.cell? (a.add 2)=some (map r)/\∃d,Sem.run prog (Builtin.delete_ #[78,3] 0 #[map r,I x1]) w'=Result.ok (tuple #[]) d/\∃a,x=some a/\∃p,d.cell? (a.add 0)=some (pointer p)/\Call prog 305 [pointer p,I x1] d fun e w'=>∃g,e=Z (I g)/\∃a,x=some a/\Lq w' (a.add 1) fun p f c=>(0<=n/\n<(↑f:Int))/\∃a,p=some a/\Lp w' (add a (Int.toNat n*1)) fun p=>Ci 324 [pointer p,I x1] w' fun n w'=>R (Z (I n)) w'))):=by kernel_rfl
def Jo:Mt:={N:=34,keep:=kp 0 [[0,1],[0,1,6],[0,1,6,13],[4,5],[0,7],[0,7,25],[4,5],[4,5]],bu:=[(7,(.range 10))]}
def O1:=ak f306
theorem ak6:UT 306 Jo O1 f306:=u_ func306 (by kernel_rfl)
theorem t306 (x x1 w R):den prog Jo O1 (aj 0 [pointer x,I x1]) w (Rt f306 R)=
(ay w [I x1] 3 fun p w'=>Ci 183 [pointer x,slice (some p) 1 1] w' fun n w'=>Fo (n !=0) (R (Z (tuple #[I 0,I n])) w') (∃a,x=some a/\Lq w' (a.add 1) fun p n c=>(0<=x1/\x1<(↑n:Int))/\∃a,p=some a/\Lp w' (add a (Int.toNat x1*1)) fun p=>Cq 293 [pointer p] w' fun p n c w'=>Fo ((↑n:Int)==0) (R (Z (tuple #[I 0,I 12])) w') (Sm w' fun b=>((0:Int)<=0/\0<(↑n:Int))/\∃a,p=some a/\∃d,b.cell? (a.add 0)=some (I d)/\((0:Int)<=0/\0<(↑n:Int))/\∃f,p=some f/\∃n,b.cell? (f.add 0)=some (I n)/\Call prog 244 [pointer x,I n] b fun e w'=>∃n,e=Z (I n)/\w'.cell? (a.add 0)=some (I d)/\R (Z (tuple #[I d,I n])) w'))):=by kernel_rfl
def J4:Mt:={N:=67,keep:=kp 0 [[0,1,2],[0,1,2,8],[0,1,2,8,19],[6,7],[0,1,2,9],[0,1,2,9,24],[6,7],[0,1,2,9,28],[6,7],[0,1,2,10],[0,1,2,10,11],[0,2,10,11],[0,2,10,11],[6,7]],bk:=[(0,[0,1,2,9])]}
def PN:=ak f357
theorem alN:UT 357 J4 PN f357:=u_ func357 (by kernel_rfl)
theorem t357 (x x1 x2 w R):den prog J4 PN (aj 0 [pointer x,I x1,I x2]) w (Rt f357 R)=
(ay w [I x1,I x2] 3 fun p w'=>Ci 183 [pointer x,slice (some p) 2 2] w' fun n w'=>Fo (n !=0) (R (Z (tuple #[I 0,I n])) w') (Cq 89 [pointer x,I x1] w' fun p n c w'=>Fo (x1==x2) (R (Z (tuple #[I 0,I 2])) w') (Fo ((↑n:Int)==0) (R (Z (tuple #[I 0,I 12])) w') (((0:Int)<=0/\0<(↑n:Int))/\∃a,p=some a/\Li w' (a.add 0) fun n=>Call prog 31 [pointer x,I n] w' fun e w'=>∃f b,e=Z (tuple #[I f,.bool b])/\∃a,x=some a/\Lq w' (a.add 1) fun p g c=>(0<=x1/\x1<(↑g:Int))/\∃a,p=some a/\Lp w' (add a (Int.toNat x1*1)) fun p=>Ci 324 [pointer p,I n] w' fun j w'=>∃a,x=some a/\∃r,w'.cell? (a.add 2)=some (map r)/\∃d,Sem.run prog (Instr.mapUpdate 78 (map r) (I n) (I x2)) w'=Result.ok () d/\∃a,x=some a/\∃p h c,d.cell? (a.add 1)=some (slice p h c)/\(0<=x2/\x2<(↑h:Int))/\∃a,p=some a/\∃p,d.cell? (add a (Int.toNat x2*1))=some (pointer p)/\Call prog 322 [pointer p,I n,I f] d fun e w'=>∃i,e=Z (I i)/\R (Z (tuple #[I n,I i])) w')))):=by kernel_rfl
def nc:Mt:={N:=25,keep:=kp 0 [[0,2],[0,2,4],[0],[0,2],[0,2,8],[0,2],[0,2],[0,2,14],[0,2],[0,2],[2]],cB:=[(4,[0,2]),(7,[0,2])]}
def yB:=ak f371
def yC:=yB.sr.sr
def yD:=yB.sr.sr.sr
def zq (x x1:Int):Env:=[(0,SV.v (int .u64 x)),vI 2 x1]
def zr (x x1:Int):Env:=[(0,SV.v (int .u64 x)),vI 2 x1]
def z6 (R:RT):=Rt f371 R
def z7 (R:RT):=Rt f371 R
theorem alZ:UT 371 nc yB f371:=u_ func371 (by kernel_rfl)
theorem t371 (x w R):den prog nc yB (aj 0 [int .u64 x]) w (Rt f371 R)=
(Fo (decide (x>=4294967296)) ((0:Int)<=32/\aA prog nc yC (zq (aC .u64 x 32) 32) w (z6 R)) (aA prog nc yC (zq x 0) w (z6 R))):=by kernel_rfl
theorem ag9 (x x1 w R):den prog nc yC (zq x x1) w (z6 R)=
(Fo (decide (x>=65536)) ((0:Int)<=16/\aA prog nc yD (zr (aC .u64 x 16) (wrap i64 (x1+16))) w (z7 R)) (aA prog nc yD (zr x x1) w (z7 R))):=by kernel_rfl
theorem aha (x x1 w R):den prog nc yD (zr x x1) w (z7 R)=
(Fo (decide (x>=256)) ((0:Int)<=8/\(0<=wrap IntKind.u8 (aC .u64 x 8)/\wrap IntKind.u8 (aC .u64 x 8)<(↑256:Int))/\∃c,(∃u,(ByteArray.mk #[0,1,2,2,3,3,3,3,4,4,4,4,4,4,4,4,5,5,5,5,5,5,5,5,5,5,5,5,5,5,5,5,6,6,6,6,6,6,6,6,6,6,6,6,6,6,6,6,6,6,6,6,6,6,6,6,6,6,6,6,6,6,6,6,7,7,7,7,7,7,7,7,7,7,7,7,7,7,7,7,7,7,7,7,7,7,7,7,7,7,7,7,7,7,7,7,7,7,7,7,7,7,7,7,7,7,7,7,7,7,7,7,7,7,7,7,7,7,7,7,7,7,7,7,7,7,7,7,8,8,8,8,8,8,8,8,8,8,8,8,8,8,8,8,8,8,8,8,8,8,8,8,8,8,8,8,8,8,8,8,8,8,8,8,8,8,8,8,8,8,8,8,8,8,8,8,8,8,8,8,8,8,8,8,8,8,8,8,8,8,8,8,8,8,8,8,8,8,8,8,8,8,8,8,8,8,8,8,8,8,8,8,8,8,8,8,8,8,8,8,8,8,8,8,8,8,8,8,8,8,8,8,8,8,8,8,8,8,8,8,8,8,8,8,8,8,8,8,8,8,8,8,8,8,8,8])[Int.toNat (wrap IntKind.u8 (aC .u64 x 8))]?=some u/\(↑(UInt8.toNat u):Int)=c)/\R (Z (I (wrap i64 (wrap i64 (x1+8)+wrap i64 c)))) w) ((0<=wrap IntKind.u8 x/\wrap IntKind.u8 x<(↑256:Int))/\∃c,(∃u,(ByteArray.mk #[0,1,2,2,3,3,3,3,4,4,4,4,4,4,4,4,5,5,5,5,5,5,5,5,5,5,5,5,5,5,5,5,6,6,6,6,6,6,6,6,6,6,6,6,6,6,6,6,6,6,6,6,6,6,6,6,6,6,6,6,6,6,6,6,7,7,7,7,7,7,7,7,7,7,7,7,7,7,7,7,7,7,7,7,7,7,7,7,7,7,7,7,7,7,7,7,7,7,7,7,7,7,7,7,7,7,7,7,7,7,7,7,7,7,7,7,7,7,7,7,7,7,7,7,7,7,7,7,8,8,8,8,8,8,8,8,8,8,8,8,8,8,8,8,8,8,8,8,8,8,8,8,8,8,8,8,8,8,8,8,8,8,8,8,8,8,8,8,8,8,8,8,8,8,8,8,8,8,8,8,8,8,8,8,8,8,8,8,8,8,8,8,8,8,8,8,8,8,8,8,8,8,8,8,8,8,8,8,8,8,8,8,8,8,8,8,8,8,8,8,8,8,8,8,8,8,8,8,8,8,8,8,8,8,8,8,8,8,8,8,8,8,8,8,8,8,8,8,8,8,8,8,8,8,8,8])[Int.toNat (wrap IntKind.u8 x)]?=some u/\(↑(UInt8.toNat u):Int)=c)/\R (Z (I (wrap i64 (x1+wrap i64 c)))) w)):=by kernel_rfl
end
end Go.Dav
namespace Go.Dav
open Go.Proofs
open Value IntKind Ending World Addr Tryz
set_option maxRecDepth 100000
noncomputable section
def M8:Mt:={N:=160,keep:=kq 0 [(1,[0]),(1,[0,11]),(1,[2,3]),(1,[0,4]),(8,[0,5]),(1,[5,140,141]),(1,[5,140,141,142]),(2,[5,140,141]),(1,[2,3])],bu:=[(14,(.range 16))],bk:=[(0,[5]),(1,[5,140,141])],lk:=[(13,[5,140,141])]}
def c8:=ak f8
def Zl:=c8.sr.sr.sr.sr.sr.sr.sr.sr.sr.sr.sr.sr
def Q8:=c8.sr.sr.sr.sr.sr.sr.sr.sr.sr.sr.sr.sl.sr.sl.sl
def Dx (x:Option Addr) (x1 x2:Int):Env:=[vP 5 x,vI 140 x1,vI 141 x2]
def UD (R:RT):=a7 0 [5] (SQ M8 Zl (Rt f8 R) (Rt f8 R))
theorem u8:UT 8 M8 c8 f8:=u_ func8 (by kernel_rfl)
theorem t8 (x w R):den prog M8 c8 (aj 0 [I x]) w (Rt f8 R)=
(Fz (decide (x<1)) (Fo (decide (x>64)) (R (Z (tuple #[pointer none,I 2])) w) (Cu 11 [I x] w fun n w'=>ob w' fun r w'=>ay w' [pointer none,pointer none,pointer none,pointer none,pointer none,pointer none,pointer none,pointer none,pointer none,pointer none,pointer none,pointer none,pointer none,pointer none,N3,I x,int .u64 n,int .u64 n,I 0,I 1073741824,map (some r)] 94 fun p w'=>Call prog 34 [I x] w' fun e w'=>∃b n,e=Z (tuple #[pointer b,I n])/\Cp 33 [pointer b,I n] w' fun c w'=>Call prog 36 [I x] w' fun e w'=>∃d n,e=Z (tuple #[pointer d,I n])/\Cp 35 [pointer d,I n] w' fun f w'=>∃a,some p=some a/\Wr w' (add (a.add 0) 0) [pointer c] fun w'=>∃a,some p=some a/\Wr w' (add (a.add 0) 1) [pointer f] fun w'=>Call prog 38 [I x] w' fun e w'=>∃g n,e=Z (tuple #[pointer g,I n])/\Cp 37 [pointer g,I n] w' fun h w'=>Call prog 40 [I x] w' fun e w'=>∃i n,e=Z (tuple #[pointer i,I n])/\Cp 39 [pointer i,I n] w' fun j w'=>∃a,some p=some a/\Wr w' (add (a.add 0) 2) [pointer h] fun w'=>∃a,some p=some a/\Wr w' (add (a.add 0) 3) [pointer j] fun w'=>Call prog 42 [I x] w' fun e w'=>∃k n,e=Z (tuple #[pointer k,I n])/\Cp 41 [pointer k,I n] w' fun l w'=>Call prog 44 [I x] w' fun e w'=>∃m n,e=Z (tuple #[pointer m,I n])/\Cp 43 [pointer m,I n] w' fun o w'=>∃a,some p=some a/\Wr w' (add (a.add 0) 4) [pointer l] fun w'=>∃a,some p=some a/\Wr w' (add (a.add 0) 5) [pointer o] fun w'=>Call prog 46 [I x] w' fun e w'=>∃q n,e=Z (tuple #[pointer q,I n])/\Cp 45 [pointer q,I n] w' fun s w'=>Call prog 48 [I x,I 12] w' fun e w'=>∃t n,e=Z (tuple #[pointer t,I n])/\Cp 47 [pointer t,I n] w' fun u w'=>∃a,some p=some a/\Wr w' (add (a.add 0) 6) [pointer s] fun w'=>∃a,some p=some a/\Wr w' (add (a.add 0) 7) [pointer u] fun w'=>Call prog 50 [I x] w' fun e w'=>∃v n,e=Z (tuple #[pointer v,I n])/\Cp 49 [pointer v,I n] w' fun y w'=>Call prog 52 [I x] w' fun e w'=>∃z n,e=Z (tuple #[pointer z,I n])/\Cp 51 [pointer z,I n] w' fun A w'=>∃a,some p=some a/\Wr w' (add (a.add 0) 8) [pointer y] fun w'=>∃a,some p=some a/\Wr w' (add (a.add 0) 9) [pointer A] fun w'=>Call prog 54 [I x] w' fun e w'=>∃B n,e=Z (tuple #[pointer B,I n])/\Cp 53 [pointer B,I n] w' fun C w'=>Call prog 56 [I x] w' fun e w'=>∃D n,e=Z (tuple #[pointer D,I n])/\Cp 55 [pointer D,I n] w' fun E w'=>∃a,some p=some a/\Wr w' (add (a.add 0) 12) [pointer C] fun w'=>∃a,some p=some a/\Wr w' (add (a.add 0) 13) [pointer E] fun w'=>ay w' [int .u64 0,int .u64 0] 132 fun F w'=>ay w' [pointer none,map none] 136 fun G w'=>∃a,some p=some a/\Wr w' (add (a.add 0) 10) [pointer (some F)] fun w'=>∃a,some p=some a/\Wr w' (add (a.add 0) 11) [pointer (some G)] fun w'=>Cut (WP prog 160 (Code.loop Q8) (Dx (some p) x 0) w' (UD R)))) (R (Z (tuple #[pointer none,I 2])) w)):=by kernel_rfl
theorem ahy (x x1 x2 w B R):den prog M8 Q8 (Dx x x1 x2) w (bo B (UD R))=
(Fo (decide (x2<x1)) (Sm w fun w'=>∃a,x=some a/\Lq w' (add (a.add 0) 14) fun p n c=>Call prog 58 [I 100,I 1000] w' fun e w'=>∃b d,e=Z (tuple #[pointer b,I d])/\w'.cell? (add (a.add 0) 14)=some (slice p n c)/\Cp 57 [pointer b,I d] w' fun f w'=>w'.cell? (add (a.add 0) 14)=some (slice p n c)/\ay w' [pointer f] 137 fun k w'=>w'.cell? (add (a.add 0) 14)=some (slice p n c)/\∃g h i j,Sem.run prog (Builtin.append_ #[90,90] 90 #[slice p n c,slice (some k) 1 1]) w'=Result.ok (slice g h i) j/\∃a,x=some a/\Wr j (add (a.add 0) 14) [slice g h i] fun w'=>B [vP 5 x,vI 140 x1,(141,SV.v (I (wrap i64 (x2+1))))] w') (R (Z (tuple #[pointer x,I 0])) w)):=by kernel_rfl
def xv:Mt:={N:=107,keep:=kq 0 [(1,[0,3]),(1,[0,3,6]),(1,[4]),(1,[0,3,8]),(1,[0,3,8,9]),(1,[0,3,22]),(2,[4]),(1,[0,3,8,28]),(1,[4]),(1,[0,3,8,35]),(1,[4]),(6,[0,3,8,46]),(1,[4]),(6,[0,3,8,56]),(1,[4]),(1,[0,3,8,67]),(1,[0,3,71]),(2,[4]),(5,[0,3,8,84]),(1,[4]),(1,[0,3,8,93]),(1,[0,3,93]),(2,[4])],bu:=[(5,(.range 12))],bk:=[(0,[0,3])],cB:=[(39,[0,3])]}
def vt:=ak f12
def Mr:=vt.sr.sr.sr
def Sb (x:Option Addr) (x1:Addr):Env:=[vP 0 x,(3,SV.v (pointer (some x1)))]
def TI (R:RT):=Rt f12 R
theorem u12 {a b c d e f w R}(h:den prog xv vt (aj 0 [a,agg #[b,c,d,e,f]]) w (Rt f12 R)):Calls prog 12 #[a,agg #[b,c,d,e,f]] w R:=u_ func12 (by kernel_rfl) h
theorem t12 (x x1 x2 x3 x4 x5 w R):den prog xv vt (aj 0 [pointer x,agg #[I x1,I x2,I x3,(int .u64 x4),I x5]]) w (Rt f12 R)=
(ay w [I x1,I x2,I x3,int .u64 x4,I x5] 33 fun p w'=>Fo x.isNone (R (Z (N3)) w') (Li w' (p.add 0) fun n=>Fo (n==1) (Sm w' fun h=>∃n,h.cell? (p.add 1)=some (I n)/\Fz (decide (n<0)) (∃n,h.cell? (p.add 1)=some (I n)/\∃a,x=some a/\∃b,h.cell? (a.add 15)=some (I b)/\Fo (decide (n>=b)) (Call prog 61 [I 3] h fun e w'=>∃p n c,e=Z (slice p n c)/\R (Z (slice p n c)) w') (∃n,h.cell? (p.add 1)=some (I n)/\Call prog 62 [pointer x,I n] h fun e w'=>∃p n c,e=Z (slice p n c)/\R (Z (slice p n c)) w')) (Call prog 61 [I 3] h fun e w'=>∃p n c,e=Z (slice p n c)/\R (Z (slice p n c)) w')) (Fo (n==2) (Li w' (p.add 4) fun n=>Ci 63 [pointer x,I n] w' fun n w'=>Cq 61 [I n] w' fun p n c w'=>R (Z (slice p n c)) w') (Fo (n==3) (Li w' (p.add 2) fun n=>Lu w' (p.add 3) fun b=>Ct 65 [pointer x,I n,int .u64 b] w' fun n d w'=>Cq 64 [I n,I d] w' fun p n c w'=>R (Z (slice p n c)) w') (Fo (n==4) (Li w' (p.add 0) fun n=>Li w' (p.add 1) fun b=>Li w' (p.add 2) fun d=>Lu w' (p.add 3) fun f=>Li w' (p.add 4) fun g=>Cq 66 [pointer x,agg #[I n,I b,I d,int .u64 f,I g]] w' fun p n c w'=>R (Z (slice p n c)) w') (Fo (n==5) (Li w' (p.add 0) fun n=>Li w' (p.add 1) fun b=>Li w' (p.add 2) fun d=>Lu w' (p.add 3) fun f=>Li w' (p.add 4) fun g=>Cq 66 [pointer x,agg #[I n,I b,I d,int .u64 f,I g]] w' fun p n c w'=>R (Z (slice p n c)) w') (Fo (n==6) (Li w' (p.add 0) fun n=>Li w' (p.add 1) fun b=>Li w' (p.add 2) fun d=>Lu w' (p.add 3) fun f=>Li w' (p.add 4) fun g=>Cq 66 [pointer x,agg #[I n,I b,I d,int .u64 f,I g]] w' fun p n c w'=>R (Z (slice p n c)) w') (Fo (n==7) (Li w' (p.add 0) fun n=>Li w' (p.add 1) fun b=>Li w' (p.add 2) fun d=>Lu w' (p.add 3) fun f=>Li w' (p.add 4) fun g=>Cq 66 [pointer x,agg #[I n,I b,I d,int .u64 f,I g]] w' fun p n c w'=>R (Z (slice p n c)) w') (Fo (n==8) (Li w' (p.add 0) fun n=>Li w' (p.add 1) fun b=>Li w' (p.add 2) fun d=>Lu w' (p.add 3) fun f=>Li w' (p.add 4) fun g=>Cq 66 [pointer x,agg #[I n,I b,I d,int .u64 f,I g]] w' fun p n c w'=>R (Z (slice p n c)) w') (Fo (n==9) (Li w' (p.add 0) fun n=>Li w' (p.add 1) fun b=>Li w' (p.add 2) fun d=>Lu w' (p.add 3) fun f=>Li w' (p.add 4) fun g=>Cq 66 [pointer x,agg #[I n,I b,I d,int .u64 f,I g]] w' fun p n c w'=>R (Z (slice p n c)) w') (Fo (n==12) (Li w' (p.add 0) fun n=>Li w' (p.add 1) fun b=>Li w' (p.add 2) fun d=>Lu w' (p.add 3) fun f=>Li w' (p.add 4) fun g=>Ci 67 [pointer x,agg #[I n,I b,I d,int .u64 f,I g]] w' fun n w'=>Cq 61 [I n] w' fun p n c w'=>R (Z (slice p n c)) w') (Fo (n==13) (Li w' (p.add 0) fun n=>Li w' (p.add 1) fun b=>Li w' (p.add 2) fun d=>Lu w' (p.add 3) fun f=>Li w' (p.add 4) fun g=>Ci 67 [pointer x,agg #[I n,I b,I d,int .u64 f,I g]] w' fun n w'=>Cq 61 [I n] w' fun p n c w'=>R (Z (slice p n c)) w') (Fo (n==14) (Li w' (p.add 0) fun n=>Li w' (p.add 1) fun b=>Li w' (p.add 2) fun d=>Lu w' (p.add 3) fun f=>Li w' (p.add 4) fun g=>Ci 67 [pointer x,agg #[I n,I b,I d,int .u64 f,I g]] w' fun n w'=>Cq 61 [I n] w' fun p n c w'=>R (Z (slice p n c)) w') (Fo (n==15) (Li w' (p.add 0) fun n=>Li w' (p.add 1) fun b=>Li w' (p.add 2) fun d=>Lu w' (p.add 3) fun f=>Li w' (p.add 4) fun g=>Ci 67 [pointer x,agg #[I n,I b,I d,int .u64 f,I g]] w' fun n w'=>Cq 61 [I n] w' fun p n c w'=>R (Z (slice p n c)) w') (Fo (n==16) (Li w' (p.add 0) fun n=>Li w' (p.add 1) fun b=>Li w' (p.add 2) fun d=>Lu w' (p.add 3) fun f=>Li w' (p.add 4) fun g=>Ci 67 [pointer x,agg #[I n,I b,I d,int .u64 f,I g]] w' fun n w'=>Cq 61 [I n] w' fun p n c w'=>R (Z (slice p n c)) w') (Fo (n==17) (Li w' (p.add 0) fun n=>Li w' (p.add 1) fun b=>Li w' (p.add 2) fun d=>Lu w' (p.add 3) fun f=>Li w' (p.add 4) fun g=>Ci 67 [pointer x,agg #[I n,I b,I d,int .u64 f,I g]] w' fun n w'=>Cq 61 [I n] w' fun p n c w'=>R (Z (slice p n c)) w') (Fo (n==18) (Li w' (p.add 1) fun n=>Fo (n==(-1:Int)) (∃a,x=some a/\Lp w' (add (a.add 0) 5) fun p=>Ct 68 [pointer p,I (-1:Int)] w' fun n b w'=>Cq 64 [I n,I b] w' fun p n c w'=>R (Z (slice p n c)) w') (Li w' (p.add 0) fun n=>Li w' (p.add 1) fun b=>Li w' (p.add 2) fun d=>Lu w' (p.add 3) fun f=>Li w' (p.add 4) fun g=>Cq 69 [pointer x,agg #[I n,I b,I d,int .u64 f,I g]] w' fun p n c w'=>R (Z (slice p n c)) w')) (Fo (n==10) (Li w' (p.add 0) fun n=>Li w' (p.add 1) fun b=>Li w' (p.add 2) fun d=>Lu w' (p.add 3) fun f=>Li w' (p.add 4) fun g=>Cq 69 [pointer x,agg #[I n,I b,I d,int .u64 f,I g]] w' fun p n c w'=>R (Z (slice p n c)) w') (Fo (n==20) (Li w' (p.add 0) fun n=>Li w' (p.add 1) fun b=>Li w' (p.add 2) fun d=>Lu w' (p.add 3) fun f=>Li w' (p.add 4) fun g=>Cq 69 [pointer x,agg #[I n,I b,I d,int .u64 f,I g]] w' fun p n c w'=>R (Z (slice p n c)) w') (Fo (n==21) (Li w' (p.add 0) fun n=>Li w' (p.add 1) fun b=>Li w' (p.add 2) fun d=>Lu w' (p.add 3) fun f=>Li w' (p.add 4) fun g=>Cq 69 [pointer x,agg #[I n,I b,I d,int .u64 f,I g]] w' fun p n c w'=>R (Z (slice p n c)) w') (Fo (n==22) (Li w' (p.add 0) fun n=>Li w' (p.add 1) fun b=>Li w' (p.add 2) fun d=>Lu w' (p.add 3) fun f=>Li w' (p.add 4) fun g=>Cq 69 [pointer x,agg #[I n,I b,I d,int .u64 f,I g]] w' fun p n c w'=>R (Z (slice p n c)) w') (Fo (n==26) (Li w' (p.add 0) fun n=>Li w' (p.add 1) fun b=>Li w' (p.add 2) fun d=>Lu w' (p.add 3) fun f=>Li w' (p.add 4) fun g=>Cq 69 [pointer x,agg #[I n,I b,I d,int .u64 f,I g]] w' fun p n c w'=>R (Z (slice p n c)) w') (Fo (n==23) (Li w' (p.add 0) fun n=>Li w' (p.add 1) fun b=>Ci 70 [pointer x,.bool (n==23),I b] w' fun n w'=>Cq 61 [I n] w' fun p n c w'=>R (Z (slice p n c)) w') (Fo (n==24) (Li w' (p.add 0) fun n=>Li w' (p.add 1) fun b=>Ci 70 [pointer x,.bool (n==23),I b] w' fun n w'=>Cq 61 [I n] w' fun p n c w'=>R (Z (slice p n c)) w') (aA prog xv Mr (Sb x p) w' (TI R)))))))))))))))))))))))))):=by kernel_rfl
theorem agr (x x1 w R):den prog xv Mr (Sb x x1) w (TI R)=
(Li w (x1.add 0) fun n=>Li w (x1.add 1) fun a=>Li w (x1.add 2) fun b=>Lu w (x1.add 3) fun d=>Li w (x1.add 4) fun f=>Cq 71 [pointer x,agg #[I n,I a,I b,int .u64 d,I f]] w fun p n c w'=>R (Z (slice p n c)) w'):=by kernel_rfl
def Hz:Mt:={N:=9,keep:=kp 0 [[0],[0,4],[2],[2]]}
def xS:=ak f16
theorem u16:UT 16 Hz xS f16:=u_ func16 (by kernel_rfl)
theorem t16 (x w R):den prog Hz xS (aj 0 [pointer x]) w (Rt f16 R)=
(Fo x.isNone (R (Z (int .u64 0)) w) (∃a,x=some a/\Lu w (a.add 17) fun n=>R (Z (int .u64 n)) w)):=by kernel_rfl
def HR:Mt:={N:=6,keep:=kp 0 [[0],[2]]}
def Np:=ak f19
theorem u19:UT 19 HR Np f19:=u_ func19 (by kernel_rfl)
theorem t19 (x w R):den prog HR Np (aj 0 [pointer x]) w (Rt f19 R)=
(Call prog 72 [pointer x] w fun e w'=>∃p b d f g h i j k a l m o q r n c,e=Z (agg #[pointer p,pointer b,pointer d,pointer f,pointer g,pointer h,pointer i,pointer j,pointer k,pointer a,pointer l,pointer m,pointer o,pointer q,slice r n c])/\R (Z (pointer a)) w'):=by kernel_rfl
def Ih:Mt:={N:=9,keep:=kp 0 [[0],[0,4],[2],[2]]}
def yf:=ak f22
theorem u22:UT 22 Ih yf f22:=u_ func22 (by kernel_rfl)
theorem t22 (x w R):den prog Ih yf (aj 0 [pointer x]) w (Rt f22 R)=
(Fo x.isNone (R (Z (int .u64 0)) w) (∃a,x=some a/\Lu w (a.add 16) fun n=>R (Z (int .u64 n)) w)):=by kernel_rfl
def Jh:Mt:={N:=6,keep:=kp 0 [[0],[2]]}
def OU:=ak f30
theorem u30:UT 30 Jh OU f30:=u_ func30 (by kernel_rfl)
theorem t30 (x w R):den prog Jh OU (aj 0 [pointer x]) w (Rt f30 R)=
(Call prog 72 [pointer x] w fun e w'=>∃p b a d f g h i j k l m o q r n c,e=Z (agg #[pointer p,pointer b,pointer a,pointer d,pointer f,pointer g,pointer h,pointer i,pointer j,pointer k,pointer l,pointer m,pointer o,pointer q,slice r n c])/\R (Z (pointer a)) w'):=by kernel_rfl
def JL:Mt:={N:=6,keep:=kp 0 [[0],[4]]}
def Pr:=ak f33
theorem u33:UT 33 JL Pr f33:=u_ func33 (by kernel_rfl)
theorem t33 (x x1 w R):den prog JL Pr (aj 0 [pointer x,I x1]) w (Rt f33 R)=
(R (Z (pointer x)) w):=by kernel_rfl
def JZ:Mt:={N:=6,keep:=kp 0 [[0],[4]]}
def PH:=ak f35
theorem u35:UT 35 JZ PH f35:=u_ func35 (by kernel_rfl)
theorem t35 (x x1 w R):den prog JZ PH (aj 0 [pointer x,I x1]) w (Rt f35 R)=
(R (Z (pointer x)) w):=by kernel_rfl
def Kc:Mt:={N:=6,keep:=kp 0 [[0],[4]]}
def P6:=ak f37
theorem u37:UT 37 Kc P6 f37:=u_ func37 (by kernel_rfl)
theorem t37 (x x1 w R):den prog Kc P6 (aj 0 [pointer x,I x1]) w (Rt f37 R)=
(R (Z (pointer x)) w):=by kernel_rfl
def Ko:Mt:={N:=6,keep:=kp 0 [[0],[4]]}
def Qm:=ak f39
theorem u39:UT 39 Ko Qm f39:=u_ func39 (by kernel_rfl)
theorem t39 (x x1 w R):den prog Ko Qm (aj 0 [pointer x,I x1]) w (Rt f39 R)=
(R (Z (pointer x)) w):=by kernel_rfl
def Kw:Mt:={N:=6,keep:=kp 0 [[0],[4]]}
def Qv:=ak f41
theorem u41:UT 41 Kw Qv f41:=u_ func41 (by kernel_rfl)
theorem t41 (x x1 w R):den prog Kw Qv (aj 0 [pointer x,I x1]) w (Rt f41 R)=
(R (Z (pointer x)) w):=by kernel_rfl
def Ky:Mt:={N:=6,keep:=kp 0 [[0],[4]]}
def Qx:=ak f43
theorem u43:UT 43 Ky Qx f43:=u_ func43 (by kernel_rfl)
theorem t43 (x x1 w R):den prog Ky Qx (aj 0 [pointer x,I x1]) w (Rt f43 R)=
(R (Z (pointer x)) w):=by kernel_rfl
def Kz:Mt:={N:=6,keep:=kp 0 [[0],[4]]}
def Qz:=ak f45
theorem u45:UT 45 Kz Qz f45:=u_ func45 (by kernel_rfl)
theorem t45 (x x1 w R):den prog Kz Qz (aj 0 [pointer x,I x1]) w (Rt f45 R)=
(R (Z (pointer x)) w):=by kernel_rfl
def KA:Mt:={N:=6,keep:=kp 0 [[0],[4]]}
def QB:=ak f47
theorem u47:UT 47 KA QB f47:=u_ func47 (by kernel_rfl)
theorem t47 (x x1 w R):den prog KA QB (aj 0 [pointer x,I x1]) w (Rt f47 R)=
(R (Z (pointer x)) w):=by kernel_rfl
def KC:Mt:={N:=6,keep:=kp 0 [[0],[4]]}
def QD:=ak f49
theorem u49:UT 49 KC QD f49:=u_ func49 (by kernel_rfl)
theorem t49 (x x1 w R):den prog KC QD (aj 0 [pointer x,I x1]) w (Rt f49 R)=
(R (Z (pointer x)) w):=by kernel_rfl
def KE:Mt:={N:=6,keep:=kp 0 [[0],[4]]}
def QG:=ak f51
theorem u51:UT 51 KE QG f51:=u_ func51 (by kernel_rfl)
theorem t51 (x x1 w R):den prog KE QG (aj 0 [pointer x,I x1]) w (Rt f51 R)=
(R (Z (pointer x)) w):=by kernel_rfl
def KH:Mt:={N:=6,keep:=kp 0 [[0],[4]]}
def QI:=ak f53
theorem u53:UT 53 KH QI f53:=u_ func53 (by kernel_rfl)
theorem t53 (x x1 w R):den prog KH QI (aj 0 [pointer x,I x1]) w (Rt f53 R)=
(R (Z (pointer x)) w):=by kernel_rfl
def KJ:Mt:={N:=6,keep:=kp 0 [[0],[4]]}
def QK:=ak f55
theorem u55:UT 55 KJ QK f55:=u_ func55 (by kernel_rfl)
theorem t55 (x x1 w R):den prog KJ QK (aj 0 [pointer x,I x1]) w (Rt f55 R)=
(R (Z (pointer x)) w):=by kernel_rfl
def KM:Mt:={N:=6,keep:=kp 0 [[0],[4]]}
def QN:=ak f57
theorem u57:UT 57 KM QN f57:=u_ func57 (by kernel_rfl)
theorem t57 (x x1 w R):den prog KM QN (aj 0 [pointer x,I x1]) w (Rt f57 R)=
(R (Z (pointer x)) w):=by kernel_rfl
def KU:Mt:={N:=5,keep:=kp 0 [[0],[2]]}
def QR:=ak f61
theorem u61:UT 61 KU QR f61:=u_ func61 (by kernel_rfl)
theorem t61 (x w R):den prog KU QR (aj 0 [I x]) w (Rt f61 R)=
(Cq 64 [I 0,I x] w fun p n c w'=>R (Z (slice p n c)) w'):=by kernel_rfl
def qQ:Mt:={N:=77,keep:=kp 0 [[0,1],[0,1,5],[0,1,5,7],[0,1,7,24],[0,1,7],[0,1,7,38],[0,1,7,38,39],[4],[0,1,7,38,41],[],[4],[0,1,7,38,54],[],[4],[0,1,7,38,63],[4],[0,1,7,68],[],[4],[4]],bu:=[(2,(.range 6)),(9,(.range 11))],bk:=[(0,[0,1,7])],cB:=[(5,[0,1,7])]}
def Cl:=ak f62
def vz:=Cl.sr.sr.sr.sr
def vQ (x:Option Addr) (x1 x2:Int):Env:=[vP 0 x,vI 1 x1,vI 7 x2]
def wq (R:RT):=Rt f62 R
theorem u62:UT 62 qQ Cl f62:=u_ func62 (by kernel_rfl)
theorem t62 (x x1 w R):den prog qQ Cl (aj 0 [pointer x,I x1]) w (Rt f62 R)=
(∃a,x=some a/\Lp w (add (a.add 0) 12) fun p=>Call prog 113 [pointer p,I x1] w fun e w'=>∃b k n l m o C,e=Z (tuple #[agg #[.bool b,.bool k,I n,I l,I m,I o],I C])/\ay w' [.bool false,.bool false,I 0,I 0,I 0,I 0] 226 fun p w'=>Wr w' p [.bool b,.bool k,I n,I l,I m,I o] fun w'=>Sm w' fun c=>∃b,c.cell? (p.add 0)=some (.bool b)/\∃d,c.cell? (p.add 1)=some (.bool d)/\∃n,c.cell? (p.add 2)=some (I n)/\∃f,c.cell? (p.add 3)=some (I f)/\∃g,c.cell? (p.add 4)=some (I g)/\∃h,c.cell? (p.add 5)=some (I h)/\Call prog 115 [pointer x,I x1] c fun e w'=>∃q r s t u y z A B,e=Z (agg #[.bool q,.bool r,.bool s,.bool t,.bool u,.bool y,.bool z,.bool A,.bool B])/\(∀(j:Nat) (v:Value),[.bool b,.bool d,I n,I f,I g,I h][j]?=some v->w'.cell? (p.add j)=some v)/\Ci 114 [agg #[.bool b,.bool d,I n,I f,I g,I h],agg #[.bool q,.bool r,.bool s,.bool t,.bool u,.bool y,.bool z,.bool A,.bool B]] w' fun n w'=>Lj w' (p.add 0) fun b=>Fo b (∃a,x=some a/\Lp w' (add (a.add 0) 12) fun p=>Fo (n !=0) (Ci 116 [pointer p,I x1,.bool (n !=9)] w' fun i w'=>aA prog qQ vz (vQ x x1 n) w' (wq R)) (Ci 116 [pointer p,I x1,.bool false] w' fun i w'=>aA prog qQ vz (vQ x x1 n) w' (wq R))) (aA prog qQ vz (vQ x x1 n) w' (wq R))):=by kernel_rfl
theorem ahp (x x1 x2 w R):den prog qQ vz (vQ x x1 x2) w (wq R)=
(Fo (x2==0) (R (Z (N3)) w) (Fo (x2==1) (Sm w fun w'=>∃a,x=some a/\Lp w' (add (a.add 0) 12) fun p=>∃a,x=some a/\Li w' (a.add 18) fun n=>Ct 117 [pointer p,I x1,I n] w' fun n b w'=>R (Z (N3)) w') (Fo (x2==2) (∃a,x=some a/\Lp w (add (a.add 0) 10) fun p=>Ci 118 [pointer p,I x1] w fun n w'=>R (Z (N3)) w') (Fo (x2==3) (Cq 119 [pointer x,I x1] w fun p n c w'=>R (Z (slice p n c)) w') (Fo (x2==9) (Cn 120 [pointer x,I x1] w fun w'=>R (Z (N3)) w') (Cq 121 [pointer x,I x1,I x2] w fun p n c w'=>R (Z (slice p n c)) w')))))):=by kernel_rfl
def qR:Mt:={N:=58,keep:=kp 0 [[0,1],[0,1,5,6],[0,1,5,6,20],[4],[0,1,5,25,26],[0,1,5,25,26,27],[0,1,5,7,25,26],[0,1,5,7,8,25,26],[0,1,5,7,8,25,26,40],[0,1,5,25,26],[0,1,5,25,26],[0,5],[4]],bk:=[(0,[0,5]),(1,[0,1,5,25,26])],cB:=[(11,[0,5])],lk:=[(5,[0,1,5,25,26])]}
def yO:=ak f63
def Cm:=yO.sr.sr.sr.sr
def QS:=yO.sr.sr.sr.sl.sr.sl.sl
def Sp (x:Option Addr) (x1:Int):Env:=[vP 0 x,vI 5 x1]
def Du (x:Option Addr) (x1 x2 x3 x4:Int):Env:=[vP 0 x,vI 1 x1,vI 5 x2,vI 25 x3,vI 26 x4]
def Ux (R:RT):=Rt f63 R
def Uy (R:RT):=a7 0 [0,5] (SQ qR Cm (Rt f63 R) (Rt f63 R))
theorem u63:UT 63 qR yO f63:=u_ func63 (by kernel_rfl)
theorem t63 (x x1 w R):den prog qR yO (aj 0 [pointer x,I x1]) w (Rt f63 R)=
(∃a,x=some a/\Li w (a.add 18) fun n=>Ct 122 [I n,I x1] w fun n b w'=>Fo (b !=0) (R (Z (I b)) w') (∃a,x=some a/\Li w' (a.add 15) fun c=>Cut (WP prog 58 (Code.loop QS) (Du x x1 n c 0) w' (Uy R)))):=by kernel_rfl
theorem ahq (x x1 w R):den prog qR Cm (Sp x x1) w (Ux R)=
(∃a,x=some a/\Wr w (a.add 18) [I x1] fun w'=>∃a,x=some a/\Lp w' (add (a.add 0) 2) fun p=>Ci 124 [pointer p,I x1] w' fun n w'=>R (Z (I n)) w'):=by kernel_rfl
theorem ahr (x x1 x2 x3 x4 w B R):den prog qR QS (Du x x1 x2 x3 x4) w (bo B (Uy R))=
(Fo (decide (x4<x3)) (∃a,x=some a/\Lp w (add (a.add 0) 12) fun p=>Call prog 113 [pointer p,I x4] w fun e w'=>∃b c n d f g l,e=Z (tuple #[agg #[.bool b,.bool c,I n,I d,I f,I g],I l])/\ay w' [.bool false,.bool false,I 0,I 0,I 0,I 0] 226 fun p w'=>Wr w' p [.bool b,.bool c,I n,I d,I f,I g] fun w'=>Lj w' (p.add 0) fun b=>Fo b (Lj w' (p.add 0) fun b=>Lj w' (p.add 1) fun h=>Li w' (p.add 2) fun n=>Li w' (p.add 3) fun i=>Li w' (p.add 4) fun j=>Li w' (p.add 5) fun k=>Cn 123 [pointer x,I x4,agg #[.bool b,.bool h,I n,I i,I j,I k],I x1] w' fun w'=>B [vP 0 x,vI 1 x1,vI 5 x2,vI 25 x3,(26,SV.v (I (wrap i64 (x4+1))))] w') (B [vP 0 x,vI 1 x1,vI 5 x2,vI 25 x3,(26,SV.v (I (wrap i64 (x4+1))))] w')) (aA prog qR Cm (Sp x x2) w (Ux R))):=by kernel_rfl
def KV:Mt:={N:=11,keep:=kp 0 [[0,1],[0,1,6],[0,1],[4]]}
def QT:=ak f64
theorem u64:UT 64 KV QT f64:=u_ func64 (by kernel_rfl)
theorem t64 (x x1 w R):den prog KV QT (aj 0 [I x,I x1]) w (Rt f64 R)=
(Fo (x1 !=0) (ay w [I 1,I 0,I 0,I 0,I x1] 43 fun p w'=>R (Z (slice (some p) 1 1)) w') (ay w [I 1,I 0,I x,I 0,I x1] 43 fun p w'=>R (Z (slice (some p) 1 1)) w')):=by kernel_rfl
def KW:Mt:={N:=34,keep:=kp 0 [[0,1,2],[0,8,9],[0,8,9,22],[8,9],[6,7]]}
def QU:=ak f65
theorem u65:UT 65 KW QU f65:=u_ func65 (by kernel_rfl)
theorem t65 (x x1 x2 w R):den prog KW QU (aj 0 [pointer x,I x1,int .u64 x2]) w (Rt f65 R)=
(∃a,x=some a/\Lp w (add (a.add 0) 0) fun p=>Ct 125 [pointer p,I x1,int .u64 x2] w fun n b w'=>Fo (b==0) (∃a,x=some a/\Li w' (a.add 15) fun c=>c≠0/\Cn 126 [pointer x,I n,I (Int.tmod n c)] w' fun w'=>R (Z (tuple #[I n,I b])) w') (R (Z (tuple #[I n,I b])) w')):=by kernel_rfl
def oa:Mt:={N:=106,keep:=kp 0 [[0,3],[0,3,5,6],[0,3,5,6,18],[4],[0,3,5,23],[4],[0,3,5,30],[4],[0,3,5,40],[0,3,6],[0,3,6,55],[6],[4],[0,3,5,62],[4],[0,3,5,70],[4],[0,3,5,84],[4],[0,3],[],[4]],bu:=[(1,(.range 14)),(9,(.range 11)),(18,(.range 10))],bk:=[(0,[0,3,5])],cB:=[(12,[6])],alts:=[(1,(.step 0 (.step 1 (.step 2 (.step 3 (.step 4 (.step 5 (.step 6 (.alt (.step 7 (.step 8 (.step 9 (.step 10 (.step 11 (.step 12 (.step 13 .fin))))))) (.step 11 (.step 7 (.step 8 (.step 9 (.step 10 (.step 12 (.step 13 .fin))))))))))))))))]}
def yP:=ak f66
def Zk:=yP.sr.sr.sr
def sJ:=yP.sr.sr.sl.sl.sr.sr.sr.sr.sr.sr.sr.sl.sr
def sV (x:Int):Env:=[vI 6 x]
def tw (R:RT):=a7 0 [0,3,5] (SQ oa Zk (Rt f66 R) (Rt f66 R))
theorem u66 {a b c d e f w R}(h:den prog oa yP (aj 0 [a,agg #[b,c,d,e,f]]) w (Rt f66 R)):Calls prog 66 #[a,agg #[b,c,d,e,f]] w R:=u_ func66 (by kernel_rfl) h
theorem t66 (x x1 x2 x3 x4 x5 w R):den prog oa yP (aj 0 [pointer x,agg #[I x1,I x2,I x3,(int .u64 x4),I x5]]) w (Rt f66 R)=
(ay w [I x1,I x2,I x3,int .u64 x4,I x5] 33 fun p w'=>Sm w' fun y=>∃a,x=some a/\∃q,y.cell? (add (a.add 0) 0)=some (pointer q)/\∃n,y.cell? (p.add 2)=some (I n)/\(Call prog 127 [pointer q,I n] y fun e w'=>∃r s t b u o i,e=Z (tuple #[agg #[I r,int .u64 s,I t,.bool b,.bool u,I o],I i])/\ay w' [I 0,int .u64 0,I 0,.bool false,.bool false,I 0] 250 fun d w'=>w'.cell? (p.add 2)=some (I n)/\w'.cell? (add (a.add 0) 0)=some (pointer q)/\Wr w' d [I r,int .u64 s,I t,.bool b,.bool u,I o] fun w'=>Fo (i !=0) (Cq 61 [I i] w' fun p n c w'=>R (Z (slice p n c)) w') (Li w' (p.add 0) fun n=>Fo (n==9) (Li w' (d.add 2) fun n=>Cq 64 [I n,I 0] w' fun p n c w'=>R (Z (slice p n c)) w') (Li w' (p.add 0) fun n=>Fo (n==4) (Li w' (p.add 2) fun n=>Li w' (d.add 0) fun f=>Lu w' (d.add 1) fun h=>Li w' (d.add 2) fun j=>Lj w' (d.add 3) fun b=>Lj w' (d.add 4) fun k=>Li w' (d.add 5) fun m=>Ci 128 [pointer x,I n,agg #[I f,int .u64 h,I j,.bool b,.bool k,I m]] w' fun n w'=>Cq 61 [I n] w' fun p n c w'=>R (Z (slice p n c)) w') (Li w' (p.add 0) fun n=>Fo (n==8) (Sm w' fun g=>∃a,x=some a/\∃l,g.cell? (add (a.add 0) 0)=some (pointer l)/\∃n,g.cell? (p.add 2)=some (I n)/\∃f,g.cell? (p.add 3)=some (int .u64 f)/\Call prog 129 [pointer l,I n,int .u64 f] g fun e w'=>∃n,e=Z (I n)/\Fo (n==0) (Li w' (p.add 2) fun h=>Cn 130 [pointer x,I h] w' fun w'=>aA prog oa sJ (sV n) w' (tw R)) (aA prog oa sJ (sV n) w' (tw R))) (Lj w' (d.add 4) fun b=>Li w' (p.add 0) fun n=>Fo (!b==(n==7)) (Cq 61 [I 6] w' fun p n c w'=>R (Z (slice p n c)) w') (Li w' (p.add 0) fun n=>Fo (n==6) (Li w' (p.add 2) fun n=>Li w' (d.add 0) fun f=>Lu w' (d.add 1) fun h=>Li w' (d.add 2) fun j=>Lj w' (d.add 3) fun b=>Lj w' (d.add 4) fun k=>Li w' (d.add 5) fun m=>Li w' (p.add 4) fun v=>Ct 131 [pointer x,I n,agg #[I f,int .u64 h,I j,.bool b,.bool k,I m],I v] w' fun n z w'=>Cq 64 [I n,I z] w' fun p n c w'=>R (Z (slice p n c)) w') (Li w' (p.add 0) fun n=>Fo (n==5) (Sm w' fun g=>∃a,x=some a/\∃l,g.cell? (add (a.add 0) 1)=some (pointer l)/\∃n,g.cell? (p.add 2)=some (I n)/\Call prog 132 [pointer l,I n] g fun e w'=>∃n,e=Z (I n)/\Cq 61 [I n] w' fun p n c w'=>R (Z (slice p n c)) w') (Li w' (d.add 5) fun n=>Cn 133 [pointer x,I n] w' fun w'=>Li w' (p.add 2) fun n=>Cn 134 [pointer x,I n] w' fun w'=>Cq 61 [I 0] w' fun p n c w'=>R (Z (slice p n c)) w'))))))))/\ay y [I 0,int .u64 0,I 0,.bool false,.bool false,I 0] 250 fun d w'=>w'.cell? (p.add 2)=some (I n)/\w'.cell? (add (a.add 0) 0)=some (pointer q)/\Call prog 127 [pointer q,I n] w' fun e w'=>∃n r s b u t o,e=Z (tuple #[agg #[I n,int .u64 r,I s,.bool b,.bool u,I t],I o])/\Wr w' d [I n,int .u64 r,I s,.bool b,.bool u,I t] fun w'=>Fo (o !=0) (Cq 61 [I o] w' fun p n c w'=>R (Z (slice p n c)) w') (Li w' (p.add 0) fun n=>Fo (n==9) (Li w' (d.add 2) fun n=>Cq 64 [I n,I 0] w' fun p n c w'=>R (Z (slice p n c)) w') (Li w' (p.add 0) fun n=>Fo (n==4) (Li w' (p.add 2) fun n=>Li w' (d.add 0) fun i=>Lu w' (d.add 1) fun f=>Li w' (d.add 2) fun h=>Lj w' (d.add 3) fun b=>Lj w' (d.add 4) fun k=>Li w' (d.add 5) fun j=>Ci 128 [pointer x,I n,agg #[I i,int .u64 f,I h,.bool b,.bool k,I j]] w' fun n w'=>Cq 61 [I n] w' fun p n c w'=>R (Z (slice p n c)) w') (Li w' (p.add 0) fun n=>Fo (n==8) (Sm w' fun g=>∃a,x=some a/\∃l,g.cell? (add (a.add 0) 0)=some (pointer l)/\∃n,g.cell? (p.add 2)=some (I n)/\∃i,g.cell? (p.add 3)=some (int .u64 i)/\Call prog 129 [pointer l,I n,int .u64 i] g fun e w'=>∃n,e=Z (I n)/\Fo (n==0) (Li w' (p.add 2) fun f=>Cn 130 [pointer x,I f] w' fun w'=>aA prog oa sJ (sV n) w' (tw R)) (aA prog oa sJ (sV n) w' (tw R))) (Lj w' (d.add 4) fun b=>Li w' (p.add 0) fun n=>Fo (!b==(n==7)) (Cq 61 [I 6] w' fun p n c w'=>R (Z (slice p n c)) w') (Li w' (p.add 0) fun n=>Fo (n==6) (Li w' (p.add 2) fun n=>Li w' (d.add 0) fun i=>Lu w' (d.add 1) fun f=>Li w' (d.add 2) fun h=>Lj w' (d.add 3) fun b=>Lj w' (d.add 4) fun k=>Li w' (d.add 5) fun j=>Li w' (p.add 4) fun m=>Ct 131 [pointer x,I n,agg #[I i,int .u64 f,I h,.bool b,.bool k,I j],I m] w' fun n v w'=>Cq 64 [I n,I v] w' fun p n c w'=>R (Z (slice p n c)) w') (Li w' (p.add 0) fun n=>Fo (n==5) (Sm w' fun g=>∃a,x=some a/\∃l,g.cell? (add (a.add 0) 1)=some (pointer l)/\∃n,g.cell? (p.add 2)=some (I n)/\Call prog 132 [pointer l,I n] g fun e w'=>∃n,e=Z (I n)/\Cq 61 [I n] w' fun p n c w'=>R (Z (slice p n c)) w') (Li w' (d.add 5) fun n=>Cn 133 [pointer x,I n] w' fun w'=>Li w' (p.add 2) fun n=>Cn 134 [pointer x,I n] w' fun w'=>Cq 61 [I 0] w' fun p n c w'=>R (Z (slice p n c)) w')))))))):=by kernel_rfl
theorem ahs (x w R):den prog oa sJ (sV x) w (tw R)=
(Cq 61 [I x] w fun p n c w'=>R (Z (slice p n c)) w'):=by kernel_rfl
def KX:Mt:={N:=79,keep:=kp 0 [[2,3],[2,3,5],[2,3,5,7],[2,3,5,7,8],[4],[2,3,5,7,23],[4],[2,3,5,7,36],[4],[2,3,7,51],[4],[2,3,61],[4],[4]],bu:=[(4,[0,1,2,3,4,5,6,7,8,9,11,10,12,13]),(6,[0,1,2,3,4,5,6,7,9,8,10,11]),(8,[0,1,2,3,4,5,6,7,8,9,11,10,12,13]),(10,(.range 9)),(12,(.range 9)),(13,(.range 9))],bk:=[(0,[2,3])]}
def QV:=ak f67
theorem u67 {a b c d e f w R}(h:den prog KX QV (aj 0 [a,agg #[b,c,d,e,f]]) w (Rt f67 R)):Calls prog 67 #[a,agg #[b,c,d,e,f]] w R:=u_ func67 (by kernel_rfl) h
theorem t67 (x x1 x2 x3 x4 x5 w R):den prog KX QV (aj 0 [pointer x,agg #[I x1,I x2,I x3,(int .u64 x4),I x5]]) w (Rt f67 R)=
(ay w [pointer x] 23 fun p w'=>ay w' [I x1,I x2,I x3,int .u64 x4,I x5] 33 fun d w'=>Li w' (d.add 0) fun n=>Fo (n==12) (Sm w' fun b=>∃c,b.cell? p=some (pointer c)/\∃a,c=some a/\∃f,b.cell? (add (a.add 0) 3)=some (pointer f)/\∃n,b.cell? (d.add 2)=some (I n)/\∃g,b.cell? (d.add 3)=some (int .u64 g)/\Call prog 136 [pointer f,I n,int .u64 g] b fun e w'=>∃n,e=Z (I n)/\Ci 135 [I n,func (Fn.func 137) #[] #[pointer (some p),pointer (some d)]] w' fun n w'=>R (Z (I n)) w') (Fo (n==13) (Sm w' fun b=>∃c,b.cell? p=some (pointer c)/\∃a,c=some a/\∃f,b.cell? (add (a.add 0) 3)=some (pointer f)/\∃n,b.cell? (d.add 2)=some (I n)/\Call prog 139 [pointer f,I n] b fun e w'=>∃n,e=Z (I n)/\Ci 135 [I n,func (Fn.func 140) #[] #[pointer (some p),pointer (some d)]] w' fun n w'=>R (Z (I n)) w') (Fo (n==14) (Sm w' fun b=>∃c,b.cell? p=some (pointer c)/\∃a,c=some a/\∃f,b.cell? (add (a.add 0) 3)=some (pointer f)/\∃n,b.cell? (d.add 2)=some (I n)/\∃g,b.cell? (d.add 3)=some (int .u64 g)/\Call prog 142 [pointer f,I n,int .u64 g] b fun e w'=>∃n,e=Z (I n)/\Ci 135 [I n,func (Fn.func 143) #[] #[pointer (some p),pointer (some d)]] w' fun n w'=>R (Z (I n)) w') (Fo (n==15) (Sm w' fun b=>∃c,b.cell? p=some (pointer c)/\∃a,c=some a/\∃p,b.cell? (add (a.add 0) 3)=some (pointer p)/\∃n,b.cell? (d.add 2)=some (I n)/\Call prog 145 [pointer p,I n] b fun e w'=>∃n,e=Z (I n)/\R (Z (I n)) w') (Fo (n==16) (Sm w' fun b=>∃c,b.cell? p=some (pointer c)/\∃a,c=some a/\∃p,b.cell? (add (a.add 0) 3)=some (pointer p)/\∃n,b.cell? (d.add 2)=some (I n)/\Call prog 146 [pointer p,I n] b fun e w'=>∃n,e=Z (I n)/\R (Z (I n)) w') (Sm w' fun b=>∃c,b.cell? p=some (pointer c)/\∃a,c=some a/\∃p,b.cell? (add (a.add 0) 3)=some (pointer p)/\∃n,b.cell? (d.add 2)=some (I n)/\Call prog 147 [pointer p,I n] b fun e w'=>∃n,e=Z (I n)/\R (Z (I n)) w')))))):=by kernel_rfl
def KZ:Mt:={N:=88,keep:=kp 0 [[0,3],[0,3,5],[0,3,5,11],[4],[0,3,15],[0,3,15,16],[4],[0,3,15,27],[4],[0,3,15,40],[4],[0,3,15,53],[4],[0,3,66],[4],[4]],bu:=[(8,(.range 12)),(10,(.range 12)),(12,(.range 12)),(14,(.range 12)),(15,(.range 10))],bk:=[(0,[0,3])]}
def QX:=ak f69
theorem u69 {a b c d e f w R}(h:den prog KZ QX (aj 0 [a,agg #[b,c,d,e,f]]) w (Rt f69 R)):Calls prog 69 #[a,agg #[b,c,d,e,f]] w R:=u_ func69 (by kernel_rfl) h
theorem t69 (x x1 x2 x3 x4 x5 w R):den prog KZ QX (aj 0 [pointer x,agg #[I x1,I x2,I x3,(int .u64 x4),I x5]]) w (Rt f69 R)=
(ay w [I x1,I x2,I x3,int .u64 x4,I x5] 33 fun p w'=>Li w' (p.add 1) fun n=>Ci 152 [pointer x,I n] w' fun n w'=>Fo (n !=0) (Cq 61 [I n] w' fun p n c w'=>R (Z (slice p n c)) w') (Li w' (p.add 0) fun n=>Fo (n==10) (Li w' (p.add 1) fun n=>Li w' (p.add 4) fun d=>Ct 153 [pointer x,I n,I d] w' fun n g w'=>Cq 64 [I n,I g] w' fun p n c w'=>R (Z (slice p n c)) w') (Fo (n==18) (Sm w' fun b=>∃a,x=some a/\∃f,b.cell? (add (a.add 0) 5)=some (pointer f)/\∃n,b.cell? (p.add 1)=some (I n)/\Call prog 68 [pointer f,I n] b fun e w'=>∃n d,e=Z (tuple #[I n,I d])/\Cq 64 [I n,I d] w' fun p n c w'=>R (Z (slice p n c)) w') (Fo (n==20) (Sm w' fun b=>∃a,x=some a/\∃f,b.cell? (add (a.add 0) 6)=some (pointer f)/\∃n,b.cell? (p.add 1)=some (I n)/\Call prog 154 [pointer f,I n] b fun e w'=>∃n d,e=Z (tuple #[I n,I d])/\Cq 64 [I n,I d] w' fun p n c w'=>R (Z (slice p n c)) w') (Fo (n==21) (Sm w' fun b=>∃a,x=some a/\∃f,b.cell? (add (a.add 0) 7)=some (pointer f)/\∃n,b.cell? (p.add 1)=some (I n)/\Call prog 155 [pointer f,I n] b fun e w'=>∃n d,e=Z (tuple #[I n,I d])/\Cq 64 [I n,I d] w' fun p n c w'=>R (Z (slice p n c)) w') (Fo (n==22) (Sm w' fun b=>∃a,x=some a/\∃f,b.cell? (add (a.add 0) 7)=some (pointer f)/\∃n,b.cell? (p.add 1)=some (I n)/\∃d,b.cell? (p.add 2)=some (I d)/\Call prog 156 [pointer f,I n,I d] b fun e w'=>∃n,e=Z (I n)/\Cq 61 [I n] w' fun p n c w'=>R (Z (slice p n c)) w') (Sm w' fun b=>∃a,x=some a/\∃f,b.cell? (add (a.add 0) 9)=some (pointer f)/\∃n,b.cell? (p.add 1)=some (I n)/\Call prog 157 [pointer f,I n] b fun e w'=>∃n,e=Z (I n)/\Cq 61 [I n] w' fun p n c w'=>R (Z (slice p n c)) w'))))))):=by kernel_rfl
def lD:Mt:={N:=82,keep:=kp 0 [[0,1,2],[0,1,2,7],[0,1,2,7,16],[6],[0,1,2,7,27],[6],[0,1,2,7,34],[6],[0,1,2,39],[6],[0,1,2,46],[6],[0,1,2,8],[0,1,2,8],[6]],bk:=[(0,[0,1,2])],cB:=[(12,[0,1,2])]}
def Co:=ak f70
def nu:=Co.sr.sr.sr
def nx (x:Option Addr) (x1:Bool) (x2:Int):Env:=[vP 0 x,(1,SV.v (.bool x1)),vI 2 x2]
def nG (R:RT):=Rt f70 R
theorem u70:UT 70 lD Co f70:=u_ func70 (by kernel_rfl)
theorem t70 (x x1 x2 w R):den prog lD Co (aj 0 [pointer x,.bool x1,I x2]) w (Rt f70 R)=
(∃a,x=some a/\Lu w (a.add 16) fun n=>Cj 23 [int .u64 n,I x2] w fun b w'=>Fz (decide (x2<0)) (∃a,x=some a/\Li w' (a.add 15) fun n=>Fo (decide (x2>=n)) (R (Z (I 3)) w') (∃a,x=some a/\Lp w' (add (a.add 0) 11) fun p=>Cj 99 [pointer p] w' fun c w'=>Fo c (R (Z (I 7)) w') (Fo x1 (Fo b (R (Z (I 8)) w') (Fo (!x1) (Fo (!b) (R (Z (I 9)) w') (Fo (!x1) (∃a,x=some a/\Lu w' (a.add 16) fun n=>Ci 24 [int .u64 n] w' fun n w'=>Fo (n==1) (R (Z (I 10)) w') (aA prog lD nu (nx x x1 x2) w' (nG R))) (aA prog lD nu (nx x x1 x2) w' (nG R)))) (Fo (!x1) (∃a,x=some a/\Lu w' (a.add 16) fun n=>Ci 24 [int .u64 n] w' fun n w'=>Fo (n==1) (R (Z (I 10)) w') (aA prog lD nu (nx x x1 x2) w' (nG R))) (aA prog lD nu (nx x x1 x2) w' (nG R))))) (Fo (!x1) (Fo (!b) (R (Z (I 9)) w') (Fo (!x1) (∃a,x=some a/\Lu w' (a.add 16) fun n=>Ci 24 [int .u64 n] w' fun n w'=>Fo (n==1) (R (Z (I 10)) w') (aA prog lD nu (nx x x1 x2) w' (nG R))) (aA prog lD nu (nx x x1 x2) w' (nG R)))) (Fo (!x1) (∃a,x=some a/\Lu w' (a.add 16) fun n=>Ci 24 [int .u64 n] w' fun n w'=>Fo (n==1) (R (Z (I 10)) w') (aA prog lD nu (nx x x1 x2) w' (nG R))) (aA prog lD nu (nx x x1 x2) w' (nG R))))))) (R (Z (I 3)) w')):=by kernel_rfl
theorem aht (x x1 x2 w R):den prog lD nu (nx x x1 x2) w (nG R)=
(∃a,x=some a/\Lu w (a.add 17) fun n=>Cu 158 [int .u64 n,I x2] w fun n w'=>Ct 159 [int .u64 n] w' fun n b w'=>∃a,x=some a/\Lp w' (add (a.add 0) 9) fun p=>Ci 160 [pointer p] w' fun c w'=>∃a,x=some a/\Lp w' (add (a.add 0) 11) fun p=>Ci 161 [pointer p,.bool x1,I x2,I n] w' fun n w'=>R (Z (I n)) w'):=by kernel_rfl
def K0:Mt:={N:=63,keep:=kp 0 [[0,3],[0,3,6],[0,3,6,7],[4],[0,3,6,14],[4],[0,3,6,23],[4],[0,3,6,30],[4],[0,3,6,41],[4],[0,3,6,48],[4],[0,57],[4],[4]],bu:=[(9,(.range 10))],bk:=[(0,[])]}
def QY:=ak f71
theorem u71 {a b c d e f w R}(h:den prog K0 QY (aj 0 [a,agg #[b,c,d,e,f]]) w (Rt f71 R)):Calls prog 71 #[a,agg #[b,c,d,e,f]] w R:=u_ func71 (by kernel_rfl) h
theorem t71 (x x1 x2 x3 x4 x5 w R):den prog K0 QY (aj 0 [pointer x,agg #[I x1,I x2,I x3,(int .u64 x4),I x5]]) w (Rt f71 R)=
(ay w [I x1,I x2,I x3,int .u64 x4,I x5] 33 fun p w'=>Li w' (p.add 0) fun n=>Fo (n==11) (Li w' (p.add 2) fun n=>Ci 162 [pointer x,I n] w' fun n w'=>Cq 61 [I n] w' fun p n c w'=>R (Z (slice p n c)) w') (Fo (n==19) (Li w' (p.add 2) fun n=>Ct 163 [pointer x,I n] w' fun n b w'=>Cq 64 [I n,I b] w' fun p n c w'=>R (Z (slice p n c)) w') (Fo (n==25) (Li w' (p.add 4) fun n=>Ci 164 [pointer x,I n] w' fun n w'=>Cq 61 [I n] w' fun p n c w'=>R (Z (slice p n c)) w') (Fo (n==27) (Sm w' fun d=>∃a,x=some a/\∃f,d.cell? (add (a.add 0) 9)=some (pointer f)/\∃n,d.cell? (p.add 1)=some (I n)/\Call prog 165 [pointer f,I n] d fun e w'=>∃n,e=Z (I n)/\Cq 61 [I n] w' fun p n c w'=>R (Z (slice p n c)) w') (Fo (n==28) (Li w' (p.add 4) fun n=>Ci 166 [pointer x,I n] w' fun n w'=>Cq 61 [I n] w' fun p n c w'=>R (Z (slice p n c)) w') (Fo (n==29) (Li w' (p.add 2) fun n=>Li w' (p.add 4) fun b=>Ci 167 [pointer x,I n,I b] w' fun n w'=>Cq 61 [I n] w' fun p n c w'=>R (Z (slice p n c)) w') (Fo (n==30) (Ci 168 [pointer x] w' fun n w'=>Cq 64 [I n,I 0] w' fun p n c w'=>R (Z (slice p n c)) w') (Cq 61 [I 2] w' fun p n c w'=>R (Z (slice p n c)) w')))))))):=by kernel_rfl
def K1:Mt:={N:=10,keep:=kp 0 [[0,2],[0,2,4],[2],[2]]}
def QZ:=ak f72
theorem u72:UT 72 K1 QZ f72:=u_ func72 (by kernel_rfl)
theorem t72 (x w R):den prog K1 QZ (aj 0 [pointer x]) w (Rt f72 R)=
(ay w [pointer none,pointer none,pointer none,pointer none,pointer none,pointer none,pointer none,pointer none,pointer none,pointer none,pointer none,pointer none,pointer none,pointer none,N3] 92 fun p w'=>Fo x.isNone (Wr w' p [pointer none,pointer none,pointer none,pointer none,pointer none,pointer none,pointer none,pointer none,pointer none,pointer none,pointer none,pointer none,pointer none,pointer none,N3] fun w'=>Lp w' (p.add 0) fun b=>Lp w' (p.add 1) fun d=>Lp w' (p.add 2) fun e=>Lp w' (p.add 3) fun f=>Lp w' (p.add 4) fun g=>Lp w' (p.add 5) fun h=>Lp w' (p.add 6) fun i=>Lp w' (p.add 7) fun j=>Lp w' (p.add 8) fun k=>Lp w' (p.add 9) fun l=>Lp w' (p.add 10) fun m=>Lp w' (p.add 11) fun o=>Lp w' (p.add 12) fun q=>Lp w' (p.add 13) fun r=>Lq w' (p.add 14) fun s n c=>R (Z (agg #[pointer b,pointer d,pointer e,pointer f,pointer g,pointer h,pointer i,pointer j,pointer k,pointer l,pointer m,pointer o,pointer q,pointer r,slice s n c])) w') (∃a,x=some a/\Lp w' (add (a.add 0) 0) fun b=>Lp w' (add (a.add 0) 1) fun d=>Lp w' (add (a.add 0) 2) fun e=>Lp w' (add (a.add 0) 3) fun f=>Lp w' (add (a.add 0) 4) fun g=>Lp w' (add (a.add 0) 5) fun h=>Lp w' (add (a.add 0) 6) fun i=>Lp w' (add (a.add 0) 7) fun j=>Lp w' (add (a.add 0) 8) fun k=>Lp w' (add (a.add 0) 9) fun l=>Lp w' (add (a.add 0) 10) fun m=>Lp w' (add (a.add 0) 11) fun o=>Lp w' (add (a.add 0) 12) fun q=>Lp w' (add (a.add 0) 13) fun r=>Lq w' (add (a.add 0) 14) fun s n c=>Wr w' p [pointer b,pointer d,pointer e,pointer f,pointer g,pointer h,pointer i,pointer j,pointer k,pointer l,pointer m,pointer o,pointer q,pointer r,slice s n c] fun w'=>Lp w' (p.add 0) fun t=>Lp w' (p.add 1) fun u=>Lp w' (p.add 2) fun v=>Lp w' (p.add 3) fun y=>Lp w' (p.add 4) fun z=>Lp w' (p.add 5) fun A=>Lp w' (p.add 6) fun B=>Lp w' (p.add 7) fun C=>Lp w' (p.add 8) fun D=>Lp w' (p.add 9) fun E=>Lp w' (p.add 10) fun F=>Lp w' (p.add 11) fun G=>Lp w' (p.add 12) fun H=>Lp w' (p.add 13) fun I=>Lq w' (p.add 14) fun J n c=>R (Z (agg #[pointer t,pointer u,pointer v,pointer y,pointer z,pointer A,pointer B,pointer C,pointer D,pointer E,pointer F,pointer G,pointer H,pointer I,slice J n c])) w')):=by kernel_rfl
def K5:Mt:={N:=9,keep:=kp 0 [[0],[0,4],[2],[2]]}
def Q5:=ak f83
theorem u83:UT 83 K5 Q5 f83:=u_ func83 (by kernel_rfl)
theorem t83 (x w R):den prog K5 Q5 (aj 0 [pointer x]) w (Rt f83 R)=
(Fo x.isNone (R (Z (I 0)) w) (∃a,x=some a/\Li w (a.add 15) fun n=>R (Z (I n)) w)):=by kernel_rfl
def K8:Mt:={N:=6,keep:=kp 0 [[0],[2]]}
def Q9:=ak f92
theorem u92:UT 92 K8 Q9 f92:=u_ func92 (by kernel_rfl)
theorem t92 (x w R):den prog K8 Q9 (aj 0 [pointer x]) w (Rt f92 R)=
(Call prog 72 [pointer x] w fun e w'=>∃p b d f g a h i j k l m o q r n c,e=Z (agg #[pointer p,pointer b,pointer d,pointer f,pointer g,pointer a,pointer h,pointer i,pointer j,pointer k,pointer l,pointer m,pointer o,pointer q,slice r n c])/\R (Z (pointer a)) w'):=by kernel_rfl
def La:Mt:={N:=6,keep:=kp 0 [[0],[2]]}
def Rb:=ak f94
theorem u94:UT 94 La Rb f94:=u_ func94 (by kernel_rfl)
theorem t94 (x w R):den prog La Rb (aj 0 [pointer x]) w (Rt f94 R)=
(Call prog 72 [pointer x] w fun e w'=>∃p b d f g h a i j k l m o q r n c,e=Z (agg #[pointer p,pointer b,pointer d,pointer f,pointer g,pointer h,pointer a,pointer i,pointer j,pointer k,pointer l,pointer m,pointer o,pointer q,slice r n c])/\R (Z (pointer a)) w'):=by kernel_rfl
def Ld:Mt:={N:=6,keep:=kp 0 [[0],[2]]}
def Rf:=ak f98
theorem u98:UT 98 Ld Rf f98:=u_ func98 (by kernel_rfl)
theorem t98 (x w R):den prog Ld Rf (aj 0 [pointer x]) w (Rt f98 R)=
(Call prog 72 [pointer x] w fun e w'=>∃p b d f g h i j k l m a o q r n c,e=Z (agg #[pointer p,pointer b,pointer d,pointer f,pointer g,pointer h,pointer i,pointer j,pointer k,pointer l,pointer m,pointer a,pointer o,pointer q,slice r n c])/\R (Z (pointer a)) w'):=by kernel_rfl
def GM:Mt:={N:=89,keep:=kp 0 [[0,1,4],[0,1,4,6],[4]],bu:=[(2,[0,1,2,3,4,5,7,8,9,10,11,12,14,15,16,17,18,30,31,32,33,34,36,37,38,39,40,41,44,45,46,47,48,49,50,52,53,54,55,56,57,59,60,61,62,63,67,68,69,70,71,72,6,13,19,20,21,22,23,24,25,27,26,28,29,35,42,43,51,58,64,65,66,73,74,75,76])]}
def Md:=ak f115
theorem aix:UT 115 GM Md f115:=u_ func115 (by kernel_rfl)
theorem t115 (x x1 w R):den prog GM Md (aj 0 [pointer x,I x1]) w (Rt f115 R)=
(ay w [.bool false,.bool false,.bool false,.bool false,.bool false,.bool false,.bool false,.bool false,.bool false] 240 fun p w'=>Call prog 201 [pointer x,I x1] w' fun e w'=>∃n b,e=Z (tuple #[I n,.bool b])/\Sm w' fun k=>∃a,x=some a/\∃N,k.cell? (add (a.add 0) 10)=some (pointer N)/\∃a,x=some a/\∃J,k.cell? (add (a.add 0) 10)=some (pointer J)/\∃G,x=some G/\∃H,k.cell? (add (G.add 0) 11)=some (pointer H)/\∃q,x=some q/\∃n,k.cell? (q.add 17)=some (int .u64 n)/\∃o,x=some o/\∃m,k.cell? (add (o.add 0) 6)=some (pointer m)/\∃l,x=some l/\∃j,k.cell? (add (l.add 0) 2)=some (pointer j)/\∃i,x=some i/\∃h,k.cell? (add (i.add 0) 5)=some (pointer h)/\∃g,x=some g/\∃f,k.cell? (add (g.add 0) 5)=some (pointer f)/\∃d,x=some d/\∃c,k.cell? (add (d.add 0) 1)=some (pointer c)/\Call prog 202 [pointer N,I x1] k fun e w'=>∃K,e=Z (.bool K)/\w'.cell? (add (d.add 0) 1)=some (pointer c)/\w'.cell? (add (g.add 0) 5)=some (pointer f)/\w'.cell? (add (i.add 0) 5)=some (pointer h)/\w'.cell? (add (l.add 0) 2)=some (pointer j)/\w'.cell? (add (o.add 0) 6)=some (pointer m)/\w'.cell? (q.add 17)=some (int .u64 n)/\w'.cell? (add (G.add 0) 11)=some (pointer H)/\w'.cell? (add (a.add 0) 10)=some (pointer J)/\Cj 203 [pointer J,I x1] w' fun L w'=>w'.cell? (add (d.add 0) 1)=some (pointer c)/\w'.cell? (add (g.add 0) 5)=some (pointer f)/\w'.cell? (add (i.add 0) 5)=some (pointer h)/\w'.cell? (add (l.add 0) 2)=some (pointer j)/\w'.cell? (add (o.add 0) 6)=some (pointer m)/\w'.cell? (q.add 17)=some (int .u64 n)/\w'.cell? (add (G.add 0) 11)=some (pointer H)/\Cj 99 [pointer H] w' fun M w'=>w'.cell? (add (d.add 0) 1)=some (pointer c)/\w'.cell? (add (g.add 0) 5)=some (pointer f)/\w'.cell? (add (i.add 0) 5)=some (pointer h)/\w'.cell? (add (l.add 0) 2)=some (pointer j)/\w'.cell? (add (o.add 0) 6)=some (pointer m)/\w'.cell? (q.add 17)=some (int .u64 n)/\Fo M (∃a,x=some a/\Lp w' (add (a.add 0) 11) fun O=>Ci 102 [pointer O] w' fun r w'=>w'.cell? (add (d.add 0) 1)=some (pointer c)/\w'.cell? (add (g.add 0) 5)=some (pointer f)/\w'.cell? (add (i.add 0) 5)=some (pointer h)/\w'.cell? (add (l.add 0) 2)=some (pointer j)/\w'.cell? (add (o.add 0) 6)=some (pointer m)/\w'.cell? (q.add 17)=some (int .u64 n)/\Cj 23 [int .u64 n,I x1] w' fun s w'=>w'.cell? (add (d.add 0) 1)=some (pointer c)/\w'.cell? (add (g.add 0) 5)=some (pointer f)/\w'.cell? (add (i.add 0) 5)=some (pointer h)/\w'.cell? (add (l.add 0) 2)=some (pointer j)/\w'.cell? (add (o.add 0) 6)=some (pointer m)/\Ci 204 [pointer m,I x1] w' fun n w'=>w'.cell? (add (d.add 0) 1)=some (pointer c)/\w'.cell? (add (g.add 0) 5)=some (pointer f)/\w'.cell? (add (i.add 0) 5)=some (pointer h)/\w'.cell? (add (l.add 0) 2)=some (pointer j)/\Cj 205 [pointer j,I x1] w' fun t w'=>w'.cell? (add (d.add 0) 1)=some (pointer c)/\w'.cell? (add (g.add 0) 5)=some (pointer f)/\w'.cell? (add (i.add 0) 5)=some (pointer h)/\Ci 170 [pointer h,I x1] w' fun u w'=>w'.cell? (add (d.add 0) 1)=some (pointer c)/\w'.cell? (add (g.add 0) 5)=some (pointer f)/\Ci 170 [pointer f,I (-1:Int)] w' fun v w'=>w'.cell? (add (d.add 0) 1)=some (pointer c)/\Ci 14 [pointer c,I x1] w' fun P w'=>Wr w' p [.bool K,.bool L,.bool (r==x1),.bool s,.bool (decide (n>0)),.bool b,.bool t,.bool (decide (wrap i64 (u+v)>0)),.bool (decide (P>0))] fun w'=>Lj w' (p.add 0) fun b=>Lj w' (p.add 1) fun y=>Lj w' (p.add 2) fun z=>Lj w' (p.add 3) fun A=>Lj w' (p.add 4) fun B=>Lj w' (p.add 5) fun C=>Lj w' (p.add 6) fun D=>Lj w' (p.add 7) fun E=>Lj w' (p.add 8) fun F=>R (Z (agg #[.bool b,.bool y,.bool z,.bool A,.bool B,.bool C,.bool D,.bool E,.bool F])) w') (Cj 23 [int .u64 n,I x1] w' fun s w'=>w'.cell? (add (d.add 0) 1)=some (pointer c)/\w'.cell? (add (g.add 0) 5)=some (pointer f)/\w'.cell? (add (i.add 0) 5)=some (pointer h)/\w'.cell? (add (l.add 0) 2)=some (pointer j)/\w'.cell? (add (o.add 0) 6)=some (pointer m)/\Ci 204 [pointer m,I x1] w' fun n w'=>w'.cell? (add (d.add 0) 1)=some (pointer c)/\w'.cell? (add (g.add 0) 5)=some (pointer f)/\w'.cell? (add (i.add 0) 5)=some (pointer h)/\w'.cell? (add (l.add 0) 2)=some (pointer j)/\Cj 205 [pointer j,I x1] w' fun t w'=>w'.cell? (add (d.add 0) 1)=some (pointer c)/\w'.cell? (add (g.add 0) 5)=some (pointer f)/\w'.cell? (add (i.add 0) 5)=some (pointer h)/\Ci 170 [pointer h,I x1] w' fun r w'=>w'.cell? (add (d.add 0) 1)=some (pointer c)/\w'.cell? (add (g.add 0) 5)=some (pointer f)/\Ci 170 [pointer f,I (-1:Int)] w' fun u w'=>w'.cell? (add (d.add 0) 1)=some (pointer c)/\Ci 14 [pointer c,I x1] w' fun v w'=>Wr w' p [.bool K,.bool L,.bool false,.bool s,.bool (decide (n>0)),.bool b,.bool t,.bool (decide (wrap i64 (r+u)>0)),.bool (decide (v>0))] fun w'=>Lj w' (p.add 0) fun b=>Lj w' (p.add 1) fun y=>Lj w' (p.add 2) fun z=>Lj w' (p.add 3) fun A=>Lj w' (p.add 4) fun B=>Lj w' (p.add 5) fun C=>Lj w' (p.add 6) fun D=>Lj w' (p.add 7) fun E=>Lj w' (p.add 8) fun F=>R (Z (agg #[.bool b,.bool y,.bool z,.bool A,.bool B,.bool C,.bool D,.bool E,.bool F])) w')):=by kernel_rfl
def qK:Mt:={N:=67,keep:=kp 0 [[0,1],[0,1,5],[0,1,5,6],[0,5,34],[0,5],[0,5,47],[4],[0,5,8],[5,8],[4]],cB:=[(5,[0,5])]}
def B1:=ak f119
def vr:=B1.sr.sr.sr
def vN (x:Option Addr) (x1:Int):Env:=[vP 0 x,vI 5 x1]
def we (R:RT):=Rt f119 R
theorem aiB:UT 119 qK B1 f119:=u_ func119 (by kernel_rfl)
theorem t119 (x x1 w R):den prog qK B1 (aj 0 [pointer x,I x1]) w (Rt f119 R)=
(∃a,x=some a/\Lp w (add (a.add 0) 11) fun p=>Ci 101 [pointer p] w fun n w'=>∃a,x=some a/\Lp w' (add (a.add 0) 11) fun p=>Call prog 208 [pointer p] w' fun e w'=>∃c b d h,e=Z (tuple #[agg #[I c,.bool b,.bool d],I h])/\ay w' [I 0,.bool false,.bool false] 303 fun p w'=>Wr w' p [I c,.bool b,.bool d] fun w'=>Lj w' (p.add 2) fun b=>Fo (!b) (Li w' (p.add 0) fun f=>Lj w' (p.add 1) fun b=>Lj w' (p.add 2) fun g=>Cj 209 [pointer x,agg #[I f,.bool b,.bool g],I n,I x1] w' fun b w'=>Fo b (∃a,x=some a/\Lp w' (add (a.add 0) 11) fun p=>Ci 210 [pointer p] w' fun i w'=>aA prog qK vr (vN x n) w' (we R)) (aA prog qK vr (vN x n) w' (we R))) (aA prog qK vr (vN x n) w' (we R))):=by kernel_rfl
theorem ago (x x1 w R):den prog qK vr (vN x x1) w (we R)=
(∃a,x=some a/\Lp w (add (a.add 0) 11) fun p=>Cj 211 [pointer p] w fun b w'=>Fo (!b) (R (Z (N3)) w') (∃a,x=some a/\Lp w' (add (a.add 0) 11) fun p=>Ct 212 [pointer p] w' fun n c w'=>∃a,x=some a/\Lp w' (add (a.add 0) 9) fun p=>Ci 213 [pointer p] w' fun d w'=>ay w' [I 7,I x1,I 0,I 0,I n] 43 fun p w'=>R (Z (slice (some p) 1 1)) w')):=by kernel_rfl
def GQ:Mt:={N:=43,keep:=kp 0 [[0,1,4,5],[0,1,6],[]],bu:=[(2,[0,1,2,3,4,5,7,8,9,10,11,13,14,15,16,6,12,17])]}
def Mh:=ak f120
theorem aiC:UT 120 GQ Mh f120:=u_ func120 (by kernel_rfl)
theorem t120 (x x1 w R):den prog GQ Mh (aj 0 [pointer x,I x1]) w (Rt f120 R)=
(∃a,x=some a/\Lp w (add (a.add 0) 2) fun p=>Ct 214 [pointer p,I x1] w fun n i w'=>∃a,x=some a/\Li w' (a.add 18) fun j=>Ci 215 [I j,I n,.bool (i==0)] w' fun n w'=>Sm w' fun b=>∃a,x=some a/\∃p,b.cell? (add (a.add 0) 12)=some (pointer p)/\∃g,x=some g/\∃h,b.cell? (g.add 19)=some (I h)/\∃d,x=some d/\∃f,b.cell? (d.add 18)=some (I f)/\Call prog 218 [] b fun e w'=>∃k l c,e=Z (slice k l c)/\w'.cell? (d.add 18)=some (I f)/\w'.cell? (g.add 19)=some (I h)/\w'.cell? (add (a.add 0) 12)=some (pointer p)/\Ci 217 [slice k l c,I n,I h] w' fun n w'=>w'.cell? (d.add 18)=some (I f)/\w'.cell? (add (a.add 0) 12)=some (pointer p)/\Ci 216 [pointer p,I x1,I n,I f] w' fun n w'=>R (Z (tuple #[])) w'):=by kernel_rfl
def GR:Mt:={N:=86,keep:=kp 0 [[0,1,2],[0,1,15],[0,1,15,16],[0,1,7],[6],[0,1,15,32],[0,1,9],[0,1,9],[6],[0,1,15,51],[6],[0,1,56],[0,1,11],[6],[0,1,13],[6]],bk:=[(0,[0,1])]}
def Mi:=ak f121
theorem aiD:UT 121 GR Mi f121:=u_ func121 (by kernel_rfl)
theorem t121 (x x1 x2 w R):den prog GR Mi (aj 0 [pointer x,I x1,I x2]) w (Rt f121 R)=
(Fo (x2==4) (∃a,x=some a/\Lp w (add (a.add 0) 6) fun p=>Ct 219 [pointer p,I x1] w fun n d w'=>Cq 220 [pointer x,I x1,I 6,I n,I 0] w' fun p n c w'=>R (Z (slice p n c)) w') (Fo (x2==5) (Call prog 201 [pointer x,I x1] w fun e w'=>∃n b,e=Z (tuple #[I n,.bool b])/\∃a,x=some a/\Lp w' (add (a.add 0) 3) fun p=>Ci 221 [pointer p,I n] w' fun d w'=>Cq 220 [pointer x,I x1,I 4,I n,I 0] w' fun p n c w'=>R (Z (slice p n c)) w') (Fo (x2==6) (Cq 222 [pointer x,I x1] w fun p n c w'=>R (Z (slice p n c)) w') (Fo (x2==7) (∃a,x=some a/\Lp w (add (a.add 0) 5) fun p=>Ct 223 [pointer p,I x1] w fun n d w'=>Cq 220 [pointer x,I x1,I 5,I n,I 0] w' fun p n c w'=>R (Z (slice p n c)) w') (∃a,x=some a/\Lp w (add (a.add 0) 1) fun p=>Ct 224 [pointer p,I x1] w fun n d w'=>Cq 220 [pointer x,I x1,I 2,I n,I 0] w' fun p n c w'=>R (Z (slice p n c)) w'))))):=by kernel_rfl
def GU:Mt:={N:=65,keep:=kp 0 [[0,1,3,6],[0,1,3,6,8,9],[0,1,3,6,11],[0,1,3,6,11,39],[],[]],bu:=[(4,[0,1,2,3,4,5,6,7,8,10,11,9,12,13,14,15])]}
def Ml:=ak f123
theorem aiG {a b c d e f g i j w R}(h:den prog GU Ml (aj 0 [a,b,agg #[c,d,e,f,g,i],j]) w (Rt f123 R)):Calls prog 123 #[a,b,agg #[c,d,e,f,g,i],j] w R:=u_ func123 (by kernel_rfl) h
theorem t123 (x x1 x2 x3 x4 x5 x6 x7 x8 w R):den prog GU Ml (aj 0 [pointer x,I x1,agg #[(.bool x2),(.bool x3),I x4,I x5,I x6,I x7],I x8]) w (Rt f123 R)=
(ay w [.bool x2,.bool x3,I x4,I x5,I x6,I x7] 226 fun p w'=>∃a,x=some a/\Lp w' (add (a.add 0) 12) fun h=>Call prog 227 [pointer h,I x1] w' fun e w'=>∃n i r,e=Z (tuple #[I n,I i,I r])/\∃a,x=some a/\Lq w' (add (a.add 0) 14) fun j k c=>(0<=x1/\x1<(↑k:Int))/\∃a,j=some a/\Lp w' (add a (Int.toNat x1*1)) fun l=>Ct 228 [pointer l,I n,I i] w' fun n s w'=>Lj w' (p.add 1) fun b=>Fo b (Sm w' fun f=>∃a,x=some a/\∃g,f.cell? (add (a.add 0) 13)=some (pointer g)/\∃n,f.cell? (p.add 2)=some (I n)/\∃d,f.cell? (p.add 2)=some (I d)/\Call prog 218 [] f fun e w'=>∃m o c,e=Z (slice m o c)/\w'.cell? (p.add 2)=some (I d)/\w'.cell? (p.add 2)=some (I n)/\w'.cell? (add (a.add 0) 13)=some (pointer g)/\(0<=d/\d<(↑o:Int))/\∃a,m=some a/\∃q,w'.cell? (add (add a (Int.toNat d*3)) 2)=some (I q)/\Ci 229 [pointer g,I x1,I n,I x8,I q] w' fun n w'=>R (Z (tuple #[])) w') (∃a,x=some a/\Lp w' (add (a.add 0) 13) fun p=>Ci 230 [pointer p,I x1,I x8,I n] w' fun n w'=>R (Z (tuple #[])) w')):=by kernel_rfl
def GW:Mt:={N:=52,keep:=kp 0 [[0,1,2,6],[0,1,6,8,9],[0,1,6,8],[]],bu:=[(1,(.range 15)),(3,(.range 10))]}
def Mo:=ak f126
theorem aiJ:UT 126 GW Mo f126:=u_ func126 (by kernel_rfl)
theorem t126 (x x1 x2 w R):den prog GW Mo (aj 0 [pointer x,I x1,I x2]) w (Rt f126 R)=
(∃a,x=some a/\Lp w (add (a.add 0) 0) fun p=>Call prog 127 [pointer p,I x1] w fun e w'=>∃n f g b h i o,e=Z (tuple #[agg #[I n,int .u64 f,I g,.bool b,.bool h,I i],I o])/\ay w' [I 0,int .u64 0,I 0,.bool false,.bool false,I 0] 250 fun p w'=>Wr w' p [I n,int .u64 f,I g,.bool b,.bool h,I i] fun w'=>Sm w' fun c=>∃n,c.cell? (p.add 1)=some (int .u64 n)/\∃a,x=some a/\∃j,c.cell? (a.add 17)=some (int .u64 j)/\Call prog 233 [int .u64 n,int .u64 j,I x2] c fun e w'=>∃n b q,e=Z (tuple #[I n,.bool b,I q])/\∃a,x=some a/\Lp w' (add (a.add 0) 0) fun k=>Ci 234 [pointer k,I x1,I n,.bool b] w' fun r w'=>Sm w' fun d=>∃a,x=some a/\∃l,d.cell? (add (a.add 0) 1)=some (pointer l)/\∃m,d.cell? (p.add 0)=some (I m)/\Call prog 235 [pointer l,I n,I m,I x1] d fun e w'=>∃n,e=Z (I n)/\R (Z (tuple #[])) w'):=by kernel_rfl
def rU:Mt:={N:=27,keep:=kp 0 [[0,1,5],[0,1,5,8],[0,1],[0,1],[6]],cB:=[(4,[0,1])]}
def B2:=ak f128
def xN:=B2.sr.sr
def zi (x:Option Addr) (x1:Int):Env:=[vP 0 x,vI 1 x1]
def zR (R:RT):=Rt f128 R
theorem aiL {a b c d e f g i w R}(h:den prog rU B2 (aj 0 [a,b,agg #[c,d,e,f,g,i]]) w (Rt f128 R)):Calls prog 128 #[a,b,agg #[c,d,e,f,g,i]] w R:=u_ func128 (by kernel_rfl) h
theorem t128 (x x1 x2 x3 x4 x5 x6 x7 w R):den prog rU B2 (aj 0 [pointer x,I x1,agg #[I x2,(int .u64 x3),I x4,(.bool x5),(.bool x6),I x7]]) w (Rt f128 R)=
(ay w [I x2,int .u64 x3,I x4,.bool x5,.bool x6,I x7] 250 fun p w'=>Lj w' (p.add 4) fun b=>Fo b (Li w' (p.add 5) fun n=>Cn 133 [pointer x,I n] w' fun w'=>aA prog rU xN (zi x x1) w' (zR R)) (∃a,x=some a/\Lp w' (add (a.add 0) 1) fun p=>Ci 237 [pointer p,I x1] w' fun n w'=>aA prog rU xN (zi x x1) w' (zR R))):=by kernel_rfl
theorem agq (x x1 w R):den prog rU xN (zi x x1) w (zR R)=
(∃a,x=some a/\Lp w (add (a.add 0) 0) fun p=>Ci 238 [pointer p,I x1] w fun n w'=>R (Z (I n)) w'):=by kernel_rfl
def GZ:Mt:={N:=45,keep:=kp 0 [[0,1,4],[0,1,4,32],[0,1,4],[]],bu:=[(1,(.range 17))]}
def Ms:=ak f130
theorem aiN:UT 130 GZ Ms f130:=u_ func130 (by kernel_rfl)
theorem t130 (x x1 w R):den prog GZ Ms (aj 0 [pointer x,I x1]) w (Rt f130 R)=
(∃a,x=some a/\Lp w (add (a.add 0) 0) fun p=>Call prog 127 [pointer p,I x1] w fun e w'=>∃n d f b g h l,e=Z (tuple #[agg #[I n,int .u64 d,I f,.bool b,.bool g,I h],I l])/\ay w' [I 0,int .u64 0,I 0,.bool false,.bool false,I 0] 250 fun p w'=>Wr w' p [I n,int .u64 d,I f,.bool b,.bool g,I h] fun w'=>Sm w' fun c=>∃b,c.cell? (p.add 4)=some (.bool b)/\Fz b (∃a,x=some a/\∃n,c.cell? (a.add 17)=some (int .u64 n)/\∃i,c.cell? (p.add 1)=some (int .u64 i)/\∃j,c.cell? (p.add 2)=some (I j)/\∃b,c.cell? (p.add 3)=some (.bool b)/\Call prog 239 [int .u64 n,agg #[I 0,int .u64 i,I j,.bool b]] c fun e w'=>∃b,e=Z (.bool b)/\Fo (!b) (R (Z (tuple #[])) w') (∃a,x=some a/\Lp w' (add (a.add 0) 1) fun k=>Ci 237 [pointer k,I x1] w' fun n w'=>Li w' (p.add 2) fun n=>Cn 126 [pointer x,I x1,I n] w' fun w'=>R (Z (tuple #[])) w')) (R (Z (tuple #[])) c)):=by kernel_rfl
def rV:Mt:={N:=79,keep:=kp 0 [[0,1,3,6],[0,1,6,10,11],[0,1,6,10,11,24],[8,9],[0,1,10,12],[0,1,10,12,34],[0,1,10,12],[0,1,11,13],[0,1,11,13,55],[8,9],[0,1,13],[0,1,13],[8,9]],cB:=[(7,[0,1,10,12])]}
def B3:=ak f131
def xO:=B3.sr.sr.sr.sr.sr
def zj (x:Option Addr) (x1 x2 x3:Int):Env:=[vP 0 x,vI 1 x1,vI 10 x2,vI 12 x3]
def zS (R:RT):=Rt f131 R
theorem aiO {a b c d e f g i j w R}(h:den prog rV B3 (aj 0 [a,b,agg #[c,d,e,f,g,i],j]) w (Rt f131 R)):Calls prog 131 #[a,b,agg #[c,d,e,f,g,i],j] w R:=u_ func131 (by kernel_rfl) h
theorem t131 (x x1 x2 x3 x4 x5 x6 x7 x8 w R):den prog rV B3 (aj 0 [pointer x,I x1,agg #[I x2,(int .u64 x3),I x4,(.bool x5),(.bool x6),I x7],I x8]) w (Rt f131 R)=
(ay w [I x2,int .u64 x3,I x4,.bool x5,.bool x6,I x7] 250 fun p w'=>∃a,x=some a/\Li w' (a.add 18) fun n=>Ct 122 [I n,I x8] w' fun n c w'=>Fo (c !=0) (R (Z (tuple #[I 0,I c])) w') (Li w' (p.add 2) fun d=>∃a,x=some a/\Lu w' (a.add 17) fun f=>Cj 23 [int .u64 f,I d] w' fun b w'=>Fo (!b) (∃a,x=some a/\Lu w' (a.add 17) fun g=>Ct 159 [int .u64 g] w' fun h i w'=>aA prog rV xO (zj x x1 n h) w' (zS R)) (aA prog rV xO (zj x x1 n d) w' (zS R)))):=by kernel_rfl
theorem ags (x x1 x2 x3 w R):den prog rV xO (zj x x1 x2 x3) w (zS R)=
(∃a,x=some a/\Lp w (add (a.add 0) 2) fun p=>Ct 240 [pointer p,I x3,I x2] w fun n b w'=>Fo (b !=0) (R (Z (tuple #[I 0,I b])) w') (∃a,x=some a/\∃r,w'.cell? (a.add 20)=some (map r)/\∃c,Sem.run prog (Instr.mapUpdate 78 (map r) (I n) (I x1)) w'=Result.ok () c/\∃a,x=some a/\∃p,c.cell? (add (a.add 0) 1)=some (pointer p)/\Call prog 237 [pointer p,I x1] c fun e w'=>∃f,e=Z (I f)/\∃a,x=some a/\Lp w' (add (a.add 0) 0) fun p=>Ci 241 [pointer p,I x1,I n] w' fun d w'=>R (Z (tuple #[I n,I d])) w')):=by kernel_rfl
def G8:Mt:={N:=16,keep:=kp 0 [[0,1],[]]}
def Mv:=ak f133
theorem aiQ:UT 133 G8 Mv f133:=u_ func133 (by kernel_rfl)
theorem t133 (x x1 w R):den prog G8 Mv (aj 0 [pointer x,I x1]) w (Rt f133 R)=
(∃a,x=some a/\Lp w (add (a.add 0) 2) fun p=>Ci 244 [pointer p,I x1] w fun n w'=>∃a,x=some a/\∃r,w'.cell? (a.add 20)=some (map r)/\∃b,Sem.run prog (Builtin.delete_ #[78,3] 0 #[map r,I x1]) w'=Result.ok (tuple #[]) b/\R (Z (tuple #[])) b):=by kernel_rfl
def G9:Mt:={N:=28,keep:=kp 0 [[0,1],[0,1,4],[]]}
def Mw:=ak f134
theorem aiR:UT 134 G9 Mw f134:=u_ func134 (by kernel_rfl)
theorem t134 (x x1 w R):den prog G9 Mw (aj 0 [pointer x,I x1]) w (Rt f134 R)=
(∃a,x=some a/\Lp w (add (a.add 0) 0) fun p=>Ct 245 [pointer p,I x1] w fun n h w'=>∃a,x=some a/\Lp w' (add (a.add 0) 0) fun p=>Call prog 127 [pointer p,I x1] w' fun e w'=>∃n c d b f g i,e=Z (tuple #[agg #[I n,int .u64 c,I d,.bool b,.bool f,I g],I i])/\ay w' [I 0,int .u64 0,I 0,.bool false,.bool false,I 0] 250 fun p w'=>Wr w' p [I n,int .u64 c,I d,.bool b,.bool f,I g] fun w'=>Li w' (p.add 2) fun n=>Cn 126 [pointer x,I x1,I n] w' fun w'=>R (Z (tuple #[])) w'):=by kernel_rfl
def Ha:Mt:={N:=10,keep:=kp 0 [[0,1],[0,1,6],[0],[4]]}
def Mx:=ak f135
theorem aiT:UT 135 Ha Mx f135:=u_ func135 (by kernel_rfl)
theorem t135 (x x1 x2 x3 w R):den prog Ha Mx (aj 0 [I x,(func (Fn.func x1) #[] #[pointer (some x2),pointer (some x3)])]) w (Rt f135 R)=
(Fo (x==0) (bif vZ prog x1 then Call prog x1 [pointer (some x2),pointer (some x3)] w fun e w'=>e=Z (tuple #[])/\R (Z (I x)) w' else ∃w',Sem.run prog (callFunc x1 #[pointer (some x2),pointer (some x3)]) w=Result.ok (Next.value (tuple #[])) w'/\R (Z (I x)) w') (R (Z (I x)) w)):=by kernel_rfl
def Hc:Mt:={N:=13,keep:=kp 0 [[]],bu:=[(0,(.range 11))]}
def Mz:=ak f137
theorem aiV:UT 137 Hc Mz f137:=u_ func137 (by kernel_rfl)
theorem t137 (x x1 w R):den prog Hc Mz (aj 0 [pointer (some x),pointer (some x1)]) w (Rt f137 R)=
(Sm w fun w'=>Lp w' x fun p=>Li w' (x1.add 2) fun n=>Li w' (x1.add 2) fun c=>Lp w' x fun d=>∃a,d=some a/\Li w' (a.add 15) fun b=>b≠0/\Cn 138 [pointer p,I n,I (Int.tmod c b)] w' fun w'=>R (Z (tuple #[])) w'):=by kernel_rfl
def He:Mt:={N:=41,keep:=kp 0 [[0,1,2,6],[0,1,8],[]],bu:=[(1,(.range 15))]}
def MA:=ak f138
theorem aiW:UT 138 He MA f138:=u_ func138 (by kernel_rfl)
theorem t138 (x x1 x2 w R):den prog He MA (aj 0 [pointer x,I x1,I x2]) w (Rt f138 R)=
(∃a,x=some a/\Lp w (add (a.add 0) 3) fun p=>Call prog 248 [pointer p,I x1] w fun e w'=>∃b d f n h,e=Z (tuple #[agg #[.bool b,.bool d,.bool f,int .u64 n],I h])/\ay w' [.bool false,.bool false,.bool false,int .u64 0] 198 fun p w'=>Wr w' p [.bool b,.bool d,.bool f,int .u64 n] fun w'=>Sm w' fun c=>∃n,c.cell? (p.add 3)=some (int .u64 n)/\∃a,x=some a/\∃g,c.cell? (a.add 17)=some (int .u64 g)/\Call prog 233 [int .u64 n,int .u64 g,I x2] c fun e w'=>∃n b i,e=Z (tuple #[I n,.bool b,I i])/\∃a,x=some a/\Lp w' (add (a.add 0) 4) fun p=>Ci 249 [pointer p,I x1,I n] w' fun n w'=>R (Z (tuple #[])) w'):=by kernel_rfl
def Hh:Mt:={N:=10,keep:=kp 0 [[]],bu:=[(0,(.range 8))]}
def MC:=ak f140
theorem aiY:UT 140 Hh MC f140:=u_ func140 (by kernel_rfl)
theorem t140 (x x1 w R):den prog Hh MC (aj 0 [pointer (some x),pointer (some x1)]) w (Rt f140 R)=
(Sm w fun w'=>Lp w' x fun p=>∃a,p=some a/\Lp w' (add (a.add 0) 4) fun p=>Li w' (x1.add 2) fun n=>Ci 141 [pointer p,I n] w' fun n w'=>R (Z (tuple #[])) w'):=by kernel_rfl
def Hk:Mt:={N:=6,keep:=kp 0 [[]]}
def MF:=ak f143
theorem ai1:UT 143 Hk MF f143:=u_ func143 (by kernel_rfl)
theorem t143 (x x1 w R):den prog Hk MF (aj 0 [pointer (some x),pointer (some x1)]) w (Rt f143 R)=
(Lp w x fun p=>Li w (x1.add 2) fun n=>Cn 144 [pointer p,I n] w fun w'=>R (Z (tuple #[])) w'):=by kernel_rfl
def Hl:Mt:={N:=46,keep:=kp 0 [[0,1,4],[0,1,4,6],[0,1,6,41],[]],bu:=[(2,(.range 14))]}
def MG:=ak f144
theorem ai2:UT 144 Hl MG f144:=u_ func144 (by kernel_rfl)
theorem t144 (x x1 w R):den prog Hl MG (aj 0 [pointer x,I x1]) w (Rt f144 R)=
(∃a,x=some a/\Lp w (add (a.add 0) 3) fun p=>Call prog 248 [pointer p,I x1] w fun e w'=>∃b g h n k,e=Z (tuple #[agg #[.bool b,.bool g,.bool h,int .u64 n],I k])/\ay w' [.bool false,.bool false,.bool false,int .u64 0] 198 fun p w'=>Wr w' p [.bool b,.bool g,.bool h,int .u64 n] fun w'=>∃a,x=some a/\Lp w' (add (a.add 0) 4) fun i=>Call prog 186 [pointer i,I x1] w' fun e w'=>∃n b,e=Z (tuple #[I n,.bool b])/\Sm w' fun c=>∃a,x=some a/\∃d,c.cell? (a.add 17)=some (int .u64 d)/\∃f,c.cell? (p.add 3)=some (int .u64 f)/\∃j,c.cell? (p.add 3)=some (int .u64 j)/\Call prog 23 [int .u64 j,I n] c fun e w'=>∃b,e=Z (.bool b)/\w'.cell? (p.add 3)=some (int .u64 f)/\w'.cell? (a.add 17)=some (int .u64 d)/\Cj 239 [int .u64 d,agg #[I 0,int .u64 f,I n,.bool !b]] w' fun b w'=>Fo b (Cn 138 [pointer x,I x1,I n] w' fun w'=>R (Z (tuple #[])) w') (R (Z (tuple #[])) w')):=by kernel_rfl
def Hs:Mt:={N:=24,keep:=kp 0 [[0,1],[0,1,5],[4],[16],[4],[4]],bk:=[(0,[])]}
def MO:=ak f152
theorem aja:UT 152 Hs MO f152:=u_ func152 (by kernel_rfl)
theorem t152 (x x1 w R):den prog Hs MO (aj 0 [pointer x,I x1]) w (Rt f152 R)=
(Fz (decide (x1<0)) (∃a,x=some a/\Li w (a.add 15) fun n=>Fo (decide (x1>=n)) (R (Z (I 3)) w) (∃a,x=some a/\Lu w (a.add 17) fun n=>Cj 23 [int .u64 n,I x1] w fun b w'=>Fo (!b) (R (Z (I 9)) w') (R (Z (I 0)) w'))) (R (Z (I 3)) w)):=by kernel_rfl
def Ht:Mt:={N:=32,keep:=kp 0 [[0,1,2],[0,1,8,9],[0,1,8,9,20],[6,7],[6,7]]}
def MP:=ak f153
theorem ajb:UT 153 Ht MP f153:=u_ func153 (by kernel_rfl)
theorem t153 (x x1 x2 w R):den prog Ht MP (aj 0 [pointer x,I x1,I x2]) w (Rt f153 R)=
(∃a,x=some a/\Li w (a.add 18) fun n=>Ct 122 [I n,I x2] w fun n b w'=>Fo (b !=0) (R (Z (tuple #[I 0,I b])) w') (∃a,x=some a/\Lp w' (add (a.add 0) 2) fun p=>Ct 240 [pointer p,I x1,I n] w' fun n c w'=>R (Z (tuple #[I n,I c])) w')):=by kernel_rfl
def HB:Mt:={N:=35,keep:=kp 0 [[0,1],[0,1,6],[0,1,17],[4],[0,1,20],[4],[4]],bk:=[(0,[0,1])]}
def MW:=ak f162
theorem ajk:UT 162 HB MW f162:=u_ func162 (by kernel_rfl)
theorem t162 (x x1 w R):den prog HB MW (aj 0 [pointer x,I x1]) w (Rt f162 R)=
(∃a,x=some a/\Lp w (add (a.add 0) 2) fun p=>Call prog 105 [pointer p,I x1] w fun e w'=>∃n b,e=Z (tuple #[I n,.bool b])/\Fo (!b) (R (Z (I 4)) w') (∃a,x=some a/\∃r,w'.cell? (a.add 20)=some (map r)/\∃n,Sem.run prog (Instr.lookup 78 (map r) (I x1) false) w'=Result.ok (I n) w'/\Fo (decide (n>0)) (R (Z (I 6)) w') (∃a,x=some a/\Lp w' (add (a.add 0) 2) fun p=>Ci 244 [pointer p,I x1] w' fun n w'=>R (Z (I n)) w'))):=by kernel_rfl
def HC:Mt:={N:=21,keep:=kp 0 [[0,1],[0,1,6],[4,5],[13],[4,5],[4,5]],bk:=[(0,[])]}
def MX:=ak f163
theorem ajl:UT 163 HC MX f163:=u_ func163 (by kernel_rfl)
theorem t163 (x x1 w R):den prog HC MX (aj 0 [pointer x,I x1]) w (Rt f163 R)=
(Fz (decide (x1<1)) (Fo (decide (x1>32)) (R (Z (tuple #[I 0,I 2])) w) (∃a,x=some a/\Lp w (add (a.add 0) 5) fun p=>Cj 263 [pointer p,I x1] w fun b w'=>Fo b (R (Z (tuple #[I 1,I 0])) w') (R (Z (tuple #[I 0,I 0])) w'))) (R (Z (tuple #[I 0,I 2])) w)):=by kernel_rfl
def HD:Mt:={N:=18,keep:=kp 0 [[0,1],[0,1,10],[4],[4]]}
def MY:=ak f164
theorem ajm:UT 164 HD MY f164:=u_ func164 (by kernel_rfl)
theorem t164 (x x1 w R):den prog HD MY (aj 0 [pointer x,I x1]) w (Rt f164 R)=
(Fz (decide (x1<0)) (Fo (decide (x1>=10)) (R (Z (I 3)) w) (∃a,x=some a/\Lp w (add (a.add 0) 11) fun p=>Ci 264 [pointer p,I x1] w fun n w'=>R (Z (I n)) w')) (R (Z (I 3)) w)):=by kernel_rfl
def HF:Mt:={N:=15,keep:=kp 0 [[0,1],[0,1,10],[4],[],[4]]}
def M0:=ak f166
theorem ajo:UT 166 HF M0 f166:=u_ func166 (by kernel_rfl)
theorem t166 (x x1 w R):den prog HF M0 (aj 0 [pointer x,I x1]) w (Rt f166 R)=
(Fz (decide (x1<0)) (Fo (decide (x1>1073741824)) (R (Z (I 2)) w) (∃a,x=some a/\Wr w (a.add 19) [I x1] fun w'=>R (Z (I 0)) w')) (R (Z (I 2)) w)):=by kernel_rfl
def uJ:Mt:={N:=26,keep:=kp 0 [[0,1,2],[0,1,2,7],[1,2,7,14,15,16],[1,2,7,14,15,16,17],[1,2,9,14,15,16],[1,2,7,14,15,16],[1,2,7,14,15,16],[6]],bk:=[(0,[7]),(1,[1,2,7,14,15,16])],lk:=[(3,[1,2,7,14,15,16])]}
def xU:=ak f167
def YT:=xU.sr.sr.sr
def M1:=xU.sr.sr.sl.sr.sl.sl
def CU (x x1 x2:Int) (x3:Option Addr) (x4 x5:Nat) (x6 x7:Int):Env:=[vI 1 x,vI 2 x1,vI 7 x2,vS 14 x3 x4 x5,vI 15 x6,vI 16 x7]
def TK (R:RT):=a7 0 [7] (SQ uJ YT (Rt f167 R) (Rt f167 R))
theorem ajp:UT 167 uJ xU f167:=u_ func167 (by kernel_rfl)
theorem t167 (x x1 x2 w R):den prog uJ xU (aj 0 [pointer x,I x1,I x2]) w (Rt f167 R)=
(∃a,x=some a/\Lq w (add (a.add 0) 14) fun p n c=>Cut (WP prog 26 (Code.loop M1) (CU x1 x2 0 p n c (↑n:Int) 0) w (TK R))):=by kernel_rfl
theorem agw (x x1 x2 x3 x4 x5 x6 x7 w B R):den prog uJ M1 (CU x x1 x2 x3 x4 x5 x6 x7) w (bo B (TK R))=
(Fo (decide (x7<x6)) ((0<=x7/\x7<(↑x4:Int))/\∃a,x3=some a/\Lp w (add a (Int.toNat x7*1)) fun p=>Ci 266 [pointer p,I x,I x1] w fun n w'=>B [vI 1 x,vI 2 x1,vI 7 n,vS 14 x3 x4 x5,vI 15 x6,(16,SV.v (I (wrap i64 (x7+1))))] w') (R (Z (I x2)) w)):=by kernel_rfl
def iG:Mt:={N:=104,keep:=kp 0 [[1,2,8,62],[1,2,3,8,62],[1,2,3,5,8,62],[1,2,3,5,8,52,62],[2],[1,2,5,8,60,62],[],[1,2,5,8,9],[1,2,5,8,9,77],[1,2,5,8,9],[1,2,5,8,9],[2,8],[2],[2]],bu:=[(1,(.range 15)),(2,(.range 16)),(3,[0,1,2,3,4,5,7,8,9,10,11,12,6,13,14,15]),(10,(.range 8)),(11,(.range 10))],bk:=[(0,[2]),(1,[])],alts:=[(2,(.step 0 (.step 1 (.step 2 (.step 3 (.step 4 (.step 5 (.step 6 (.step 7 (.step 8 (.alt (.step 9 (.step 10 (.step 11 (.step 12 (.step 13 (.step 14 (.step 15 .fin))))))) (.step 13 (.step 9 (.step 10 (.step 11 (.step 12 (.step 14 (.step 15 .fin))))))))))))))))))]}
def kx:=ak f168
def YU:=kx.sr.sr.sr.sr.sr
def M3:=kx.sr.sr.sr.sr.sl.sr.sl
theorem Yn:f168.body=some kx:=by kernel_rfl
theorem n168:f168.ntmps=iG.N:=by kernel_rfl
def HI:Mt:={N:=9,keep:=kp 0 [[0,1],[4]]}
def M7:=ak f172
theorem ajs:UT 172 HI M7 f172:=u_ func172 (by kernel_rfl)
theorem t172 (x x1 x2 x3 w R):den prog HI M7 (aj 0 [slice x x1 x2,func (Fn.func 175) #[(pointer x3)] #[]]) w (Rt f172 R)=
(Ci 270 [slice x x1 x2,func (Fn.func 175) #[pointer x3] #[]] w fun n w'=>R (Z (.bool (decide (n>=0)))) w'):=by kernel_rfl
def HJ:Mt:={N:=6,keep:=kp 0 [[0],[2]]}
def Na:=ak f173
theorem ajt:UT 173 HJ Na f173:=u_ func173 (by kernel_rfl)
theorem t173 (x w R):den prog HJ Na (aj 0 [pointer x]) w (Rt f173 R)=
(Call prog 72 [pointer x] w fun e w'=>∃p b d a f g h i j k l m o q r n c,e=Z (agg #[pointer p,pointer b,pointer d,pointer a,pointer f,pointer g,pointer h,pointer i,pointer j,pointer k,pointer l,pointer m,pointer o,pointer q,slice r n c])/\R (Z (pointer a)) w'):=by kernel_rfl
def HW:Mt:={N:=29,keep:=kp 0 [[0,1],[0,6],[6,7],[6,7,24],[4,5],[4,5]]}
def Nv:=ak f201
theorem ajH:UT 201 HW Nv f201:=u_ func201 (by kernel_rfl)
theorem t201 (x x1 w R):den prog HW Nv (aj 0 [pointer x,I x1]) w (Rt f201 R)=
(∃a,x=some a/\Lp w (add (a.add 0) 4) fun p=>Cq 291 [pointer p,I x1] w fun p n c w'=>∃a,x=some a/\Lp w' (add (a.add 0) 3) fun d=>Ci 270 [slice p n c,func (Fn.func 175) #[pointer d] #[]] w' fun b w'=>Fo (decide (b<0)) (R (Z (tuple #[I 0,.bool false])) w') ((0<=b/\b<(↑n:Int))/\∃a,p=some a/\Li w' (add a (Int.toNat b*1)) fun n=>R (Z (tuple #[I n,.bool true])) w')):=by kernel_rfl
def H5:Mt:={N:=49,keep:=kp 0 [[0,2,3,5],[0,2,3,5,9],[0,2,3,5,9,16],[],[8],[0,2,3,5,9,25],[8],[0,2,3,5,36],[],[8],[8]],bk:=[(0,[0,2,3,5])]}
def NC:=ak f209
theorem ajP {a b c d e f w R}(h:den prog H5 NC (aj 0 [a,agg #[b,c,d],e,f]) w (Rt f209 R)):Calls prog 209 #[a,agg #[b,c,d],e,f] w R:=u_ func209 (by kernel_rfl) h
theorem t209 (x x1 x2 x3 x4 x5 w R):den prog H5 NC (aj 0 [pointer x,agg #[I x1,(.bool x2),(.bool x3)],I x4,I x5]) w (Rt f209 R)=
(ay w [I x1,.bool x2,.bool x3] 303 fun p w'=>∃a,x=some a/\Lp w' (add (a.add 0) 11) fun d=>Cj 100 [pointer d] w' fun b w'=>Lj w' (p.add 1) fun c=>Fo c (Li w' (p.add 0) fun n=>Cn 297 [pointer x,.bool b,I n,I x4] w' fun w'=>R (Z (.bool true)) w') (Li w' (p.add 0) fun n=>Fo (n==0) (∃a,x=some a/\Lp w' (add (a.add 0) 9) fun p=>Ci 298 [pointer p] w' fun n w'=>R (Z (.bool (n==0))) w') (Fo b (Li w' (p.add 0) fun n=>Cn 299 [pointer x,I n,I x4] w' fun w'=>R (Z (.bool true)) w') (Li w' (p.add 0) fun n=>Cj 300 [pointer x,I n,I x4,I x5] w' fun b w'=>R (Z (.bool b)) w')))):=by kernel_rfl
def Ii:Mt:={N:=24,keep:=kp 0 [[0,1,2,3,4],[1,2,3,4],[10]]}
def NP:=ak f220
theorem aj0:UT 220 Ii NP f220:=u_ func220 (by kernel_rfl)
theorem t220 (x x1 x2 x3 x4 w R):den prog Ii NP (aj 0 [pointer x,I x1,I x2,I x3,I x4]) w (Rt f220 R)=
(∃a,x=some a/\Lp w (add (a.add 0) 8) fun p=>Ci 260 [pointer p,I x1,I 1] w fun n w'=>ay w' [I x2,I x1,I x3,I x4,I 0] 43 fun p w'=>R (Z (slice (some p) 1 1)) w'):=by kernel_rfl
def rY:Mt:={N:=39,keep:=kp 0 [[0,1],[0,1,5],[0,1,5,7],[0,1,5,7],[0,1,5,7,30],[0,1,5,7],[4]],cB:=[(6,[0,1,5,7])]}
def B7:=ak f222
def yg:=B7.sr.sr.sr.sr.sr
def zn (x:Option Addr) (x1 x2 x3:Int):Env:=[vP 0 x,vI 1 x1,vI 5 x2,vI 7 x3]
def zX (R:RT):=Rt f222 R
theorem aj2:UT 222 rY B7 f222:=u_ func222 (by kernel_rfl)
theorem t222 (x x1 w R):den prog rY B7 (aj 0 [pointer x,I x1]) w (Rt f222 R)=
(∃a,x=some a/\Lp w (add (a.add 0) 2) fun p=>Ct 306 [pointer p,I x1] w fun n d w'=>∃a,x=some a/\∃r,w'.cell? (a.add 20)=some (map r)/\∃b,Sem.run prog (Instr.lookup 78 (map r) (I n) false) w'=Result.ok (I b) w'/\∃a,x=some a/\∃r,w'.cell? (a.add 20)=some (map r)/\∃c,Sem.run prog (Builtin.delete_ #[78,3] 0 #[map r,I n]) w'=Result.ok (tuple #[]) c/\Fo (decide (b>0)) (Call prog 134 [pointer x,I b] c fun e w'=>e=Z (tuple #[])/\aA prog rY yg (zn x x1 n b) w' (zX R)) (aA prog rY yg (zn x x1 n b) c (zX R))):=by kernel_rfl
theorem agJ (x x1 x2 x3 w R):den prog rY yg (zn x x1 x2 x3) w (zX R)=
(Cq 220 [pointer x,I x1,I 3,I x2,I x3] w fun p n c w'=>R (Z (slice p n c)) w'):=by kernel_rfl
def uR:Mt:={N:=19,keep:=kp 0 [[0,1],[0,1,7,8],[0,1,7,8,9],[0,1,5,7,8],[0,1,5,7,8,16],[4],[0,1,7,8],[4]],bk:=[(0,[]),(1,[0,1,7,8])],lk:=[(2,[0,1,7,8])]}
def yo:=ak f270
def Y3:=yo.sr.sr
def OG:=yo.sr.sl.sr.sl.sl
def Sf (x:Option Addr) (x1 x2:Nat) (x3:Option Addr) (x4 x5:Int):Env:=[vS 0 x x1 x2,(1,SV.v (func (Fn.func 175) #[(pointer x3)] #[])),vI 7 x4,vI 8 x5]
def T6 (R:RT):=a7 0 [] (SQ uR Y3 (Rt f270 R) (Rt f270 R))
theorem akN:UT 270 uR yo f270:=u_ func270 (by kernel_rfl)
theorem t270 (x x1 x2 x3 w R):den prog uR yo (aj 0 [slice x x1 x2,func (Fn.func 175) #[(pointer x3)] #[]]) w (Rt f270 R)=
(Cut (WP prog 19 (Code.loop OG) [vS 0 x x1 x2,(1,SV.v (func (Fn.func 175) #[pointer x3] #[])),(7,SV.v (I (↑x1:Int))),vI 8 0] w (T6 R))):=by kernel_rfl
theorem agR (x x1 x2 x3 x4 x5 w B R):den prog uR OG (Sf x x1 x2 x3 x4 x5) w (bo B (T6 R))=
(Fo (decide (x5<x4)) ((0<=x5/\x5<(↑x1:Int))/\∃a,x=some a/\Li w (add a (Int.toNat x5*1)) fun n=>Cj 175 [pointer x3,I n] w fun b w'=>Fo b (R (Z (I x5)) w') (B [vS 0 x x1 x2,(1,SV.v (func (Fn.func 175) #[pointer x3] #[])),vI 7 x4,(8,SV.v (I (wrap i64 (x5+1))))] w')) (R (Z (I (-1:Int))) w)):=by kernel_rfl
def Jf:Mt:={N:=38,keep:=kp 0 [[0,1,2,3,8],[],[0,3,21],[]],bk:=[(0,[])]}
def OQ:=ak f297
theorem akX:UT 297 Jf OQ f297:=u_ func297 (by kernel_rfl)
theorem t297 (x x1 x2 x3 w R):den prog Jf OQ (aj 0 [pointer x,.bool x1,I x2,I x3]) w (Rt f297 R)=
(Fo x1 (Fo (x2==1) (∃a,x=some a/\Lp w (add (a.add 0) 12) fun p=>Ci 354 [pointer p,I x3,.bool false] w fun n w'=>R (Z (tuple #[])) w') (Fo (!x1) (Fo (x2==1) (∃a,x=some a/\Lu w (a.add 17) fun n=>ay w [I x3] 3 fun p w'=>Cu 179 [int .u64 n,slice (some p) 1 1] w' fun n w'=>∃a,x=some a/\Wr w' (a.add 17) [int .u64 n] fun w'=>R (Z (tuple #[])) w') (R (Z (tuple #[])) w)) (R (Z (tuple #[])) w))) (Fo (!x1) (Fo (x2==1) (∃a,x=some a/\Lu w (a.add 17) fun n=>ay w [I x3] 3 fun p w'=>Cu 179 [int .u64 n,slice (some p) 1 1] w' fun n w'=>∃a,x=some a/\Wr w' (a.add 17) [int .u64 n] fun w'=>R (Z (tuple #[])) w') (R (Z (tuple #[])) w)) (R (Z (tuple #[])) w))):=by kernel_rfl
def ma:Mt:={N:=79,keep:=kp 0 [[0,2,10],[0,2,10,11],[],[0,2,20],[],[0],[0,54,55,56],[0,54,55,56,57],[0,7,54,55,56],[0,54,55,56],[0,54,55,56],[0,69,70,71],[0,69,70,71,72],[0,9,69,70,71],[0,69,70,71],[0,69,70,71]],bu:=[(5,[0,1,2,3,4,5,6,9,10,11,12,13,7,8,14,15,16,17,18,19,20,21])],bk:=[(0,[0,2]),(1,[0]),(2,[0,54,55,56]),(3,[]),(4,[0,69,70,71])],cB:=[(11,[0])],lk:=[(7,[0,54,55,56]),(12,[0,69,70,71])],alts:=[(5,(.step 0 (.step 1 (.step 2 (.step 3 (.step 4 (.step 5 (.step 6 (.step 9 (.step 10 (.step 11 (.step 12 (.step 13 (.alt (.step 7 (.alt (.step 8 (.step 14 (.step 15 (.step 16 (.step 17 (.step 18 (.step 19 (.step 20 (.step 21 .fin))))))))) (.step 14 (.step 8 (.step 15 (.step 16 (.step 17 (.step 18 (.step 19 (.step 20 (.step 21 .fin))))))))))) (.step 14 (.step 7 (.step 8 (.step 15 (.step 16 (.step 17 (.step 18 (.step 19 (.step 20 (.step 21 .fin))))))))))))))))))))))))]}
def vv:=ak f299
def yr:=vv.sr.sr.sr
def vw:=vv.sr.sr.sl.sr.sl.sl
def OS:=vv.sr.sr.sr.sr.sl.sl
def Da (x:Option Addr):Env:=[vP 0 x]
def sT (x x1:Option Addr) (x2 x3:Nat) (x4 x5:Int):Env:=[vP 0 x,vS 54 x1 x2 x3,vI 55 x4,vI 56 x5]
def Db (x x1:Option Addr) (x2 x3:Nat) (x4 x5:Int):Env:=[vP 0 x,vS 69 x1 x2 x3,vI 70 x4,vI 71 x5]
def D5 (R:RT):=Rt f299 R
def wj (R:RT):=a7 1 [0] (SQ ma yr (Rt f299 R) (Rt f299 R))
def T9 (R:RT):=a7 3 [] (Rt f299 R)
theorem akZ:UT 299 ma vv f299:=u_ func299 (by kernel_rfl)
theorem t299 (x x1 x2 w R):den prog ma vv (aj 0 [pointer x,I x1,I x2]) w (Rt f299 R)=
(Fo (x1==1) (∃a,x=some a/\Lp w (add (a.add 0) 12) fun p=>Ci 354 [pointer p,I x2,.bool true] w fun n w'=>R (Z (tuple #[])) w') (Fo (x1==2) (∃a,x=some a/\Lp w (add (a.add 0) 7) fun p=>Ct 355 [pointer p,I x2] w fun n b w'=>R (Z (tuple #[])) w') (Sm w fun w'=>∃a,x=some a/\Lu w' (a.add 16) fun n=>∃d,x=some d/\Lu w' (d.add 17) fun b=>(ay w' [I x2] 3 fun p w'=>w'.cell? (d.add 17)=some (int .u64 b)/\w'.cell? (a.add 16)=some (int .u64 n)/\(Cu 179 [int .u64 n,slice (some p) 1 1] w' fun f w'=>w'.cell? (d.add 17)=some (int .u64 b)/\ay w' [I x2] 3 fun p w'=>w'.cell? (d.add 17)=some (int .u64 b)/\w'.cell? (a.add 16)=some (int .u64 n)/\Cu 179 [int .u64 b,slice (some p) 1 1] w' fun n w'=>∃a,x=some a/\Wr w' (a.add 16) [int .u64 f] fun w'=>∃a,x=some a/\Wr w' (a.add 17) [int .u64 n] fun w'=>∃a,x=some a/\Lp w' (add (a.add 0) 0) fun p=>Cq 181 [pointer p] w' fun p n c w'=>Cut (WP prog 79 (Code.loop vw) (sT x p n c (↑n:Int) 0) w' (wj R)))/\ay w' [I x2] 3 fun g w'=>w'.cell? (d.add 17)=some (int .u64 b)/\w'.cell? (a.add 16)=some (int .u64 n)/\Cu 179 [int .u64 n,slice (some p) 1 1] w' fun n w'=>w'.cell? (d.add 17)=some (int .u64 b)/\Cu 179 [int .u64 b,slice (some g) 1 1] w' fun f w'=>∃a,x=some a/\Wr w' (a.add 16) [int .u64 n] fun w'=>∃a,x=some a/\Wr w' (a.add 17) [int .u64 f] fun w'=>∃a,x=some a/\Lp w' (add (a.add 0) 0) fun p=>Cq 181 [pointer p] w' fun p n c w'=>Cut (WP prog 79 (Code.loop vw) (sT x p n c (↑n:Int) 0) w' (wj R)))/\ay w' [I x2] 3 fun p w'=>w'.cell? (d.add 17)=some (int .u64 b)/\w'.cell? (a.add 16)=some (int .u64 n)/\ay w' [I x2] 3 fun g w'=>w'.cell? (d.add 17)=some (int .u64 b)/\w'.cell? (a.add 16)=some (int .u64 n)/\Cu 179 [int .u64 n,slice (some g) 1 1] w' fun n w'=>w'.cell? (d.add 17)=some (int .u64 b)/\Cu 179 [int .u64 b,slice (some p) 1 1] w' fun f w'=>∃a,x=some a/\Wr w' (a.add 16) [int .u64 n] fun w'=>∃a,x=some a/\Wr w' (a.add 17) [int .u64 f] fun w'=>∃a,x=some a/\Lp w' (add (a.add 0) 0) fun p=>Cq 181 [pointer p] w' fun p n c w'=>Cut (WP prog 79 (Code.loop vw) (sT x p n c (↑n:Int) 0) w' (wj R))))):=by kernel_rfl
theorem agU (x w R):den prog ma yr (Da x) w (D5 R)=
(∃a,x=some a/\Lp w (add (a.add 0) 3) fun p=>Cq 174 [pointer p] w fun p n c w'=>Cut (WP prog 79 (Code.loop OS) (Db x p n c (↑n:Int) 0) w' (T9 R))):=by kernel_rfl
theorem agV (x x1 x2 x3 x4 x5 w B R):den prog ma vw (sT x x1 x2 x3 x4 x5) w (bo B (wj R))=
(Fo (decide (x5<x4)) ((0<=x5/\x5<(↑x2:Int))/\∃a,x1=some a/\Li w (add a (Int.toNat x5*1)) fun n=>Cn 130 [pointer x,I n] w fun w'=>B [vP 0 x,vS 54 x1 x2 x3,vI 55 x4,(56,SV.v (I (wrap i64 (x5+1))))] w') (aA prog ma yr (Da x) w (D5 R))):=by kernel_rfl
theorem agW (x x1 x2 x3 x4 x5 w B R):den prog ma OS (Db x x1 x2 x3 x4 x5) w (bo B (T9 R))=
(Fo (decide (x5<x4)) ((0<=x5/\x5<(↑x2:Int))/\∃a,x1=some a/\Li w (add a (Int.toNat x5*1)) fun n=>Cn 144 [pointer x,I n] w fun w'=>B [vP 0 x,vS 69 x1 x2 x3,vI 70 x4,(71,SV.v (I (wrap i64 (x5+1))))] w') (R (Z (tuple #[])) w)):=by kernel_rfl
def Ji:Mt:={N:=112,keep:=kp 0 [[0,1,2,3],[0,1,2,3],[0,2,3,10],[0,2,3,10,11],[],[8],[0,2,3,10,22],[8],[0,2,3,10,27],[9],[8],[0,2,3,10,42],[9],[8],[0,2,3,10,56],[9],[8],[0,2,3,10,71],[8],[0,2,3,10,77],[],[8],[0,2,3,86],[],[8],[0,2],[],[8]],bk:=[(0,[0,2])]}
def OV:=ak f300
theorem ak0:UT 300 Ji OV f300:=u_ func300 (by kernel_rfl)
theorem t300 (x x1 x2 x3 w R):den prog Ji OV (aj 0 [pointer x,I x1,I x2,I x3]) w (Rt f300 R)=
(Fo (x1==1) (∃a,x=some a/\Lu w (a.add 17) fun n=>Cu 158 [int .u64 n,I x2] w fun n w'=>∃a,x=some a/\Wr w' (a.add 17) [int .u64 n] fun w'=>R (Z (.bool true)) w') (Fo (x1==2) (Cj 356 [pointer x,I x2] w fun b w'=>R (Z (.bool b)) w') (Fo (x1==3) (∃a,x=some a/\Lp w (add (a.add 0) 2) fun p=>Ct 357 [pointer p,I x2,I x3] w fun n c w'=>R (Z (.bool (c !=0))) w') (Fo (x1==4) (∃a,x=some a/\Lp w (add (a.add 0) 5) fun p=>Ct 358 [pointer p,I x2] w fun n c w'=>R (Z (.bool (c !=0))) w') (Fo (x1==5) (∃a,x=some a/\Lp w (add (a.add 0) 6) fun p=>Ct 359 [pointer p,I x2,I x3] w fun n c w'=>R (Z (.bool (c !=0))) w') (Fo (x1==6) (Cj 360 [pointer x,I x2,I x3] w fun b w'=>R (Z (.bool b)) w') (Fo (x1==7) (∃a,x=some a/\Lp w (add (a.add 0) 7) fun p=>Ct 355 [pointer p,I x2] w fun n c w'=>R (Z (.bool true)) w') (Fo (x1==8) (∃a,x=some a/\Lp w (add (a.add 0) 8) fun p=>Ci 361 [pointer p,I x2,I x3] w fun n w'=>R (Z (.bool true)) w') (∃a,x=some a/\Lu w (a.add 16) fun n=>Cu 158 [int .u64 n,I x2] w fun n w'=>∃a,x=some a/\Wr w' (a.add 16) [int .u64 n] fun w'=>∃a,x=some a/\Lp w' (add (a.add 0) 12) fun p=>Ci 354 [pointer p,I x2,.bool false] w' fun n w'=>R (Z (.bool true)) w'))))))))):=by kernel_rfl
def J3:Mt:={N:=31,keep:=kp 0 [[0,1],[0,1,5],[0,1,5,15],[4],[0,1,5],[],[4]],bu:=[(4,(.range 9))]}
def PM:=ak f356
theorem alM:UT 356 J3 PM f356:=u_ func356 (by kernel_rfl)
theorem t356 (x x1 w R):den prog J3 PM (aj 0 [pointer x,I x1]) w (Rt f356 R)=
(∃a,x=some a/\Lp w (add (a.add 0) 1) fun p=>Cq 88 [pointer p,I x1] w fun p n c w'=>Fo ((↑n:Int)==0) (R (Z (.bool true)) w') (Sm w' fun b=>∃a,x=some a/\∃d,b.cell? (add (a.add 0) 1)=some (pointer d)/\((0:Int)<=0/\0<(↑n:Int))/\∃a,p=some a/\∃f,b.cell? (a.add 0)=some (I f)/\Call prog 237 [pointer d,I f] b fun e w'=>∃g,e=Z (I g)/\((0:Int)<=0/\0<(↑n:Int))/\∃a,p=some a/\Li w' (a.add 0) fun n=>Cn 126 [pointer x,I n,I x1] w' fun w'=>R (Z (.bool false)) w')):=by kernel_rfl
def qN:Mt:={N:=63,keep:=kp 0 [[0,1,2],[0,1,2,9],[],[6],[0,1,32],[6],[0,1,46,47,48],[0,1,46,47,48,49],[0,1,8,46,47,48],[0,1,46,47,48],[0,1,46,47,48],[],[6]],bu:=[(2,[0,1,2,3,4,5,6,7,8,9,12,10,11,13,14])],bk:=[(0,[0,1]),(1,[0]),(2,[0,1,46,47,48])],cB:=[(11,[0])],lk:=[(7,[0,1,46,47,48])]}
def yy:=ak f360
def Ce:=yy.sr.sr.sr
def PU:=yy.sr.sr.sl.sr.sl.sl
def Sg (x:Option Addr):Env:=[vP 0 x]
def Df (x:Option Addr) (x1:Int) (x2:Option Addr) (x3 x4:Nat) (x5 x6:Int):Env:=[vP 0 x,vI 1 x1,vS 46 x2 x3 x4,vI 47 x5,vI 48 x6]
def Ud (R:RT):=Rt f360 R
def Ue (R:RT):=a7 1 [0] (SQ qN Ce (Rt f360 R) (Rt f360 R))
theorem alQ:UT 360 qN yy f360:=u_ func360 (by kernel_rfl)
theorem t360 (x x1 x2 w R):den prog qN yy (aj 0 [pointer x,I x1,I x2]) w (Rt f360 R)=
(∃a,x=some a/\Lp w (add (a.add 0) 10) fun p=>Cj 388 [pointer p] w fun b w'=>Fo (!b) (Sm w' fun d=>∃a,x=some a/\∃p,d.cell? (add (a.add 0) 10)=some (pointer p)/\∃f,x=some f/\∃n,d.cell? (f.add 17)=some (int .u64 n)/\ay d [I x1] 3 fun g w'=>w'.cell? (f.add 17)=some (int .u64 n)/\w'.cell? (add (a.add 0) 10)=some (pointer p)/\Cu 179 [int .u64 n,slice (some g) 1 1] w' fun n w'=>w'.cell? (add (a.add 0) 10)=some (pointer p)/\Cu 158 [int .u64 n,I x2] w' fun n w'=>w'.cell? (add (a.add 0) 10)=some (pointer p)/\Ci 389 [pointer p,int .u64 n] w' fun n w'=>R (Z (.bool false)) w') (∃a,x=some a/\Lp w' (add (a.add 0) 10) fun p=>Cj 390 [pointer p] w' fun b w'=>Fo (!b) (R (Z (.bool false)) w') (∃a,x=some a/\Lp w' (add (a.add 0) 4) fun p=>Cq 291 [pointer p,I x1] w' fun p n c w'=>Cut (WP prog 63 (Code.loop PU) (Df x x1 p n c (↑n:Int) 0) w' (Ue R))))):=by kernel_rfl
theorem ag1 (x w R):den prog qN Ce (Sg x) w (Ud R)=
(∃a,x=some a/\Lp w (add (a.add 0) 10) fun p=>Ci 391 [pointer p] w fun n w'=>R (Z (.bool true)) w'):=by kernel_rfl
theorem ag2 (x x1 x2 x3 x4 x5 x6 w B R):den prog qN PU (Df x x1 x2 x3 x4 x5 x6) w (bo B (Ue R))=
(Fo (decide (x6<x5)) ((0<=x6/\x6<(↑x3:Int))/\∃a,x2=some a/\Li w (add a (Int.toNat x6*1)) fun n=>Cn 138 [pointer x,I n,I x1] w fun w'=>B [vP 0 x,vI 1 x1,vS 46 x2 x3 x4,vI 47 x5,(48,SV.v (I (wrap i64 (x6+1))))] w') (aA prog qN Ce (Sg x) w (Ud R))):=by kernel_rfl
end
end Go.Dav
namespace Go.Dav
open Go.Proofs
open Value IntKind Ending World Addr Tryz
set_option maxRecDepth 100000
noncomputable section
def M4:Mt:={N:=183,keep:=kp 0 [[0,1,2,3],[0,1,2,3,9,10],[0,1,2,3,9,33],[8],[0,1,2,3,9,11],[0,1,2,3,9,11,38],[0,1,2,3,9,11],[0,1,2,3,9,11,46],[0,1,2,3,9,11],[0,2,3,9,12],[2,3,9,12,69],[8],[2,3,9,12,14],[2,3,9,12,78],[8],[2,3,9,12,15],[2,3,9,12,15,16],[2,3,9,12,15,16,17],[2,3,9,12,15,16,17,86],[2,3,9,12,15,16],[2,3,9,12,15,16,17],[2,3,9,12,15,16,105],[8],[2,9,12,15,16],[2,9,12,15,16],[2,9,12,14,15,16],[2,9,12,15,16,133],[8],[2,9,12,15,18],[2,9,15,18,20],[8]],bk:=[(0,[0,2,3,9]),(1,[0,1,2,3,9,11])],cB:=[(9,[0,2,3,9]),(21,[2,3,9,12,15,16,17]),(23,[2,3,9,12,15,16])],lk:=[(5,[0,1,2,3,9,11])]}
def c4:=ak f4
def Ck:=c4.sr.sr.sr.sr
def QE:=c4.sr.sr.sr.sl.sr.sl.sl
def yK:=c4.sr.sr.sr.sr.sr.sr.sr.sr.sr.sr.sr.sr
def yL:=c4.sr.sr.sr.sr.sr.sr.sr.sr.sr.sr.sr.sr.sr
def Sn (x x1 x2:Int) (x3:Option Addr):Env:=[vI 0 x,vI 2 x1,vI 3 x2,vP 9 x3]
def Dr (x:Int) (x1:Option Addr) (x2 x3:Nat) (x4 x5:Int) (x6:Option Addr) (x7:Int):Env:=[vI 0 x,vS 1 x1 x2 x3,vI 2 x4,vI 3 x5,vP 9 x6,vI 11 x7]
def zt (x x1:Int) (x2 x3:Option Addr) (x4 x5:Nat) (x6:Int) (x7:Addr) (x8:Int):Env:=[vI 2 x,vI 3 x1,vP 9 x2,vS 12 x3 x4 x5,(15,SV.v (int .u64 x6)),(16,SV.v (pointer (some x7))),vI 17 x8]
def zu (x x1:Int) (x2 x3:Option Addr) (x4 x5:Nat) (x6:Int) (x7:Addr):Env:=[vI 2 x,vI 3 x1,vP 9 x2,vS 12 x3 x4 x5,(15,SV.v (int .u64 x6)),(16,SV.v (pointer (some x7)))]
def Ut (R:RT):=Rt f4 R
def Uu (R:RT):=a7 0 [0,2,3,9] (SQ M4 Ck (Rt f4 R) (Rt f4 R))
def Aa (R:RT):=Rt f4 R
def Ab (R:RT):=Rt f4 R
theorem b4:f4.body=some c4:=by kernel_rfl
theorem n4:f4.ntmps=M4.N:=by kernel_rfl
theorem u4:UT 4 M4 c4 f4:=u_ func4 (by kernel_rfl)
theorem t4 (x x1 x2 x3 x4 x5 w R):den prog M4 c4 (aj 0 [I x,slice x1 x2 x3,I x4,I x5]) w (Rt f4 R)=
(Call prog 8 [I x] w fun e w'=>∃p n,e=Z (tuple #[pointer p,I n])/\Fz (n !=0) (Cj 9 [I x,slice x1 x2 x3] w' fun b w'=>Fo (!b) (Cj 10 [] w' fun b w'=>R (Z (.bool b)) w') (Cut (WP prog 183 (Code.loop QE) (Dr x x1 x2 x3 x4 x5 p 0) w' (Uu R)))) (Cj 10 [] w' fun b w'=>R (Z (.bool b)) w')):=by kernel_rfl
theorem ahj (x x1 x2 x3 w R):den prog M4 Ck (Sn x x1 x2 x3) w (Ut R)=
(Ci 18 [I x] w fun n w'=>Cq 17 [I x,I n] w' fun p n c w'=>Cp 19 [pointer x3] w' fun h w'=>Ci 20 [pointer h] w' fun f w'=>Fz (decide (f>0)) (Fz (decide (x1<0)) (Fo (decide (x1>=x)) (Cj 10 [] w' fun b w'=>R (Z (.bool b)) w') (Ct 21 [pointer x3,slice p n c] w' fun i g w'=>Fo (g !=0) (R (Z (.bool false)) w') (Cu 22 [pointer x3] w' fun a w'=>ay w' [I 0,I 0,I 0,int .u64 0,I 0] 33 fun d w'=>Wr w' d [I 24,I x1,I 0,int .u64 0,I 0] fun w'=>Cj 23 [int .u64 a,I x1] w' fun b w'=>Fo (!b) (Wr w' d [I 23,I x1,I 0,int .u64 0,I 0] fun w'=>aA prog M4 yK (zt x1 x2 x3 p n c a d 4) w' (Aa R)) (aA prog M4 yK (zt x1 x2 x3 p n c a d 10) w' (Aa R))))) (Cj 10 [] w' fun b w'=>R (Z (.bool b)) w')) (Cj 10 [] w' fun b w'=>R (Z (.bool b)) w')):=by kernel_rfl
theorem ahk (x x1 x2 x3 x4 x5 x6 x7 w B R):den prog M4 QE (Dr x x1 x2 x3 x4 x5 x6 x7) w (bo B (Uu R))=
(Fo (decide (x7<(↑x2:Int))) ((0<=x7/\x7<(↑x2:Int))/\∃a,x1=some a/\∃n,w.cell? (add (add a (Int.toNat x7*5)) 0)=some (I n)/\Fo (n !=25) ((0<=x7/\x7<(↑x2:Int))/\∃a,x1=some a/\∃n,w.cell? (add (add a (Int.toNat x7*5)) 0)=some (I n)/\∃b,w.cell? (add (add a (Int.toNat x7*5)) 1)=some (I b)/\∃d,w.cell? (add (add a (Int.toNat x7*5)) 2)=some (I d)/\∃f,w.cell? (add (add a (Int.toNat x7*5)) 3)=some (int .u64 f)/\∃g,w.cell? (add (add a (Int.toNat x7*5)) 4)=some (I g)/\Cq 12 [pointer x6,agg #[I n,I b,I d,int .u64 f,I g]] w fun p n c w'=>B [vI 0 x,vS 1 x1 x2 x3,vI 2 x4,vI 3 x5,vP 9 x6,(11,SV.v (I (wrap i64 (x7+1))))] w') (B [vI 0 x,vS 1 x1 x2 x3,vI 2 x4,vI 3 x5,vP 9 x6,(11,SV.v (I (wrap i64 (x7+1))))] w)) (aA prog M4 Ck (Sn x x4 x5 x6) w (Ut R))):=by kernel_rfl
theorem ahl (x x1 x2 x3 x4 x5 x6 x7 x8 w R):den prog M4 yK (zt x x1 x2 x3 x4 x5 x6 x7 x8) w (Aa R)=
(Cj 23 [int .u64 x6,I x] w fun b w'=>Fo b (Ci 24 [int .u64 x6] w' fun n w'=>Fz (n==1) (Fz (decide (x1<0)) (Fo (decide (x1>=x8)) (Cj 10 [] w' fun b w'=>R (Z (.bool b)) w') (aA prog M4 yL (zu x x1 x2 x3 x4 x5 x6 x7) w' (Ab R))) (Cj 10 [] w' fun b w'=>R (Z (.bool b)) w')) (Cj 10 [] w' fun b w'=>R (Z (.bool b)) w')) (Fz (decide (x1<0)) (Fo (decide (x1>=x8)) (Cj 10 [] w' fun b w'=>R (Z (.bool b)) w') (aA prog M4 yL (zu x x1 x2 x3 x4 x5 x6 x7) w' (Ab R))) (Cj 10 [] w' fun b w'=>R (Z (.bool b)) w'))):=by kernel_rfl
theorem ahm (x x1 x2 x3 x4 x5 x6 x7 w R):den prog M4 yL (zu x x1 x2 x3 x4 x5 x6 x7) w (Ab R)=
(Cq 12 [pointer x2,agg #[I 25,I 0,I 0,int .u64 0,I x1]] w fun p n c w'=>Li w' (x7.add 0) fun n=>Li w' (x7.add 1) fun i=>Li w' (x7.add 2) fun j=>Lu w' (x7.add 3) fun k=>Li w' (x7.add 4) fun l=>Cq 12 [pointer x2,agg #[I n,I i,I j,int .u64 k,I l]] w' fun p n c w'=>Ct 21 [pointer x2,slice x3 x4 x5] w' fun n d w'=>Fz (d !=0) (Cu 22 [pointer x2] w' fun n w'=>Fz (n !=x6) (Cu 16 [pointer x2] w' fun n w'=>Fo (n !=x6) (R (Z (.bool false)) w') (Li w' (x7.add 0) fun n=>Li w' (x7.add 1) fun m=>Li w' (x7.add 2) fun o=>Lu w' (x7.add 3) fun q=>Li w' (x7.add 4) fun r=>Cq 12 [pointer x2,agg #[I n,I m,I o,int .u64 q,I r]] w' fun p n c w'=>Ct 21 [pointer x2,slice x3 x4 x5] w' fun s f w'=>Fo ((↑n:Int)==1) (((0:Int)<=0/\0<(↑n:Int))/\∃a,p=some a/\Li w' (add (a.add 0) 4) fun n=>Fo (n==0) (Fo (f==0) (Cu 22 [pointer x2] w' fun n w'=>Fo (n !=x6) (Cu 22 [pointer x2] w' fun n w'=>Cj 23 [int .u64 n,I x] w' fun b w'=>Cj 23 [int .u64 x6,I x] w' fun g w'=>Fo (!b==g) (Cu 16 [pointer x2] w' fun n w'=>Cu 22 [pointer x2] w' fun h w'=>Fo (n==h) (Cj 10 [] w' fun b w'=>R (Z (.bool b)) w') (R (Z (.bool false)) w')) (R (Z (.bool false)) w')) (R (Z (.bool false)) w')) (R (Z (.bool false)) w')) (R (Z (.bool false)) w')) (R (Z (.bool false)) w'))) (R (Z (.bool false)) w')) (R (Z (.bool false)) w')):=by kernel_rfl
def M9:Mt:={N:=16,keep:=kp 0 [[0,1],[4]]}
def c9:=ak f9
theorem n9:f9.ntmps=M9.N:=by kernel_rfl
theorem u9:UT 9 M9 c9 f9:=u_ func9 (by kernel_rfl)
theorem t9 (x x1 x2 x3 w R):den prog M9 c9 (aj 0 [I x,slice x1 x2 x3]) w (Rt f9 R)=
(Fo (decide (x>=1)) (Fo (decide (x<=9)) (R (Z (.bool (decide ((↑x2:Int)<=300)))) w) (R (Z (.bool false)) w)) (R (Z (.bool false)) w)):=by kernel_rfl
def qJ:Mt:={N:=56,keep:=kp 0 [[],[1,2],[1,16],[0],[1,3],[1,3,4],[1,3,4,5],[1,3,4,5,6],[1,3,4,5,6,27],[1,3,4,5,6],[1,3,4,5,6],[0]],bk:=[(0,[1,3,4,5]),(1,[1,3,4,5,6])],cB:=[(11,[1,3,4,5])],lk:=[(8,[1,3,4,5,6])]}
def sD:=ak f10
def B0:=sD.sr.sr.sr.sr.sr.sr.sr
def L5:=sD.sr.sr.sr.sr.sr.sr.sl.sr.sl.sl
def Sa (x x1:Option Addr) (x2 x3:Nat) (x4:Option Addr) (x5 x6:Nat) (x7:Option Addr) (x8 x9:Nat):Env:=[vP 1 x,vS 3 x1 x2 x3,vS 4 x4 x5 x6,vS 5 x7 x8 x9]
def CQ (x x1:Option Addr) (x2 x3:Nat) (x4:Option Addr) (x5 x6:Nat) (x7:Option Addr) (x8 x9:Nat) (x10:Int):Env:=[vP 1 x,vS 3 x1 x2 x3,vS 4 x4 x5 x6,vS 5 x7 x8 x9,vI 6 x10]
def TF (R:RT):=Rt f10 R
def TG (R:RT):=a7 0 [1,3,4,5] (SQ qJ B0 (Rt f10 R) (Rt f10 R))
theorem u10:UT 10 qJ sD f10:=u_ func10 (by kernel_rfl)
theorem t10 (w R):den prog qJ sD (aj 0 []) w (Rt f10 R)=
(Call prog 8 [I 2] w fun e w'=>∃p n,e=Z (tuple #[pointer p,I n])/\Fz (n !=0) (Fo p.isNone (R (Z (.bool false)) w') (Cq 12 [pointer p,agg #[I 3,I 0,I 2,int .u64 3,I 0]] w' fun a n c w'=>Cq 12 [pointer p,agg #[I 1,I 1,I 0,int .u64 0,I 0]] w' fun b d f w'=>Cq 12 [pointer p,agg #[I 24,I 1,I 0,int .u64 0,I 0]] w' fun g h i w'=>Cut (WP prog 56 (Code.loop L5) (CQ p a n c b d f g h i 0) w' (TG R)))) (R (Z (.bool false)) w')):=by kernel_rfl
theorem agm (x x1 x2 x3 x4 x5 x6 x7 x8 x9 w R):den prog qJ B0 (Sa x x1 x2 x3 x4 x5 x6 x7 x8 x9) w (TF R)=
(ay w [I 1,I 0,I 1,I 0,I 0] 43 fun p w'=>Cj 59 [slice x1 x2 x3,slice (some p) 1 1] w' fun b w'=>Fo b (ay w' [I 2,I 1,I 1,I 0,I 0] 43 fun p w'=>Cj 59 [slice x4 x5 x6,slice (some p) 1 1] w' fun b w'=>Fo b (ay w' [I 1,I 0,I 0,I 0,I 0] 43 fun p w'=>Cj 59 [slice x7 x8 x9,slice (some p) 1 1] w' fun b w'=>Fo b (Cu 22 [pointer x] w' fun n w'=>R (Z (.bool (n==1))) w') (R (Z (.bool false)) w')) (R (Z (.bool false)) w')) (R (Z (.bool false)) w')):=by kernel_rfl
theorem agn (x x1 x2 x3 x4 x5 x6 x7 x8 x9 x10 w B R):den prog qJ L5 (CQ x x1 x2 x3 x4 x5 x6 x7 x8 x9 x10) w (bo B (TG R))=
(Fo (decide (x10<40)) ((2:Int)≠0/\Cq 12 [pointer x,agg #[I 1,I (Int.tmod x10 2),I 0,int .u64 0,I 0]] w fun p n c w'=>B [vP 1 x,vS 3 x1 x2 x3,vS 4 x4 x5 x6,vS 5 x7 x8 x9,(6,SV.v (I (wrap i64 (x10+1))))] w') (aA prog qJ B0 (Sa x x1 x2 x3 x4 x5 x6 x7 x8 x9) w (TF R))):=by kernel_rfl
def uK:Mt:={N:=19,keep:=kp 0 [[0,1],[0,1,5],[0,1,5,6],[0,1,5,6,9],[0,1,5,6],[0,1,5,6],[4]],bk:=[(0,[5]),(1,[0,1,5,6])],lk:=[(3,[0,1,5,6])]}
def sE:=ak f17
def YX:=sE.sr.sr.sr
def Nf:=sE.sr.sr.sl.sr.sl.sl
def CX (x x1:Int) (x2:Option Addr) (x3 x4:Nat) (x5:Int):Env:=[vI 0 x,vI 1 x1,vS 5 x2 x3 x4,vI 6 x5]
def TO (R:RT):=a7 0 [5] (SQ uK YX (Rt f17 R) (Rt f17 R))
theorem u17:UT 17 uK sE f17:=u_ func17 (by kernel_rfl)
theorem t17 (x x1 w R):den prog uK sE (aj 0 [I x,I x1]) w (Rt f17 R)=
(Cut (WP prog 19 (Code.loop Nf) (CX x x1 none 0 0 0) w (TO R))):=by kernel_rfl
theorem agz (x x1 x2 x3 x4 x5 w B R):den prog uK Nf (CX x x1 x2 x3 x4 x5) w (bo B (TO R))=
(Fo (decide (x5<x1)) (x≠0/\ay w [I (Int.tmod x5 x)] 3 fun p w'=>∃a n c b,Sem.run prog (Builtin.append_ #[36,36] 36 #[slice x2 x3 x4,slice (some p) 1 1]) w'=Result.ok (slice a n c) b/\B [vI 0 x,vI 1 x1,vS 5 a n c,(6,SV.v (I (wrap i64 (x5+1))))] b) (R (Z (slice x2 x3 x4)) w)):=by kernel_rfl
def HL:Mt:={N:=11,keep:=kp 0 [[0],[0,8],[2],[2]]}
def xX:=ak f18
theorem u18:UT 18 HL xX f18:=u_ func18 (by kernel_rfl)
theorem t18 (x w R):den prog HL xX (aj 0 [I x]) w (Rt f18 R)=
(Fz (decide (x<1)) (Fo (decide (x>10000)) (R (Z (I 0)) w) (R (Z (I (wrap i64 (x*500)))) w)) (R (Z (I 0)) w)):=by kernel_rfl
def qL:Mt:={N:=31,keep:=kp 0 [[0,1],[0,1,9],[4,5],[0,1,10,11,12],[0,1,10,11,12,13],[0,1,6,7,10,11,12],[0,1,6,7,10,11,12,18],[4,5],[0,1,10,11,12],[0,1,10,11,12],[1,26],[4,5],[4,5]],bk:=[(0,[0,1]),(1,[0,1,10,11,12])],cB:=[(10,[0,1])],lk:=[(4,[0,1,10,11,12])]}
def sG:=ak f21
def B6:=sG.sr.sr.sr
def NO:=sG.sr.sr.sl.sr.sl.sl
def Sd (x x1:Option Addr) (x2 x3:Nat):Env:=[vP 0 x,vS 1 x1 x2 x3]
def C2 (x x1:Option Addr) (x2 x3:Nat) (x4:Option Addr) (x5 x6:Nat) (x7 x8:Int):Env:=[vP 0 x,vS 1 x1 x2 x3,vS 10 x4 x5 x6,vI 11 x7,vI 12 x8]
def TV (R:RT):=Rt f21 R
def TW (R:RT):=a7 0 [0,1] (SQ qL B6 (Rt f21 R) (Rt f21 R))
theorem u21:UT 21 qL sG f21:=u_ func21 (by kernel_rfl)
theorem t21 (x x1 x2 x3 w R):den prog qL sG (aj 0 [pointer x,slice x1 x2 x3]) w (Rt f21 R)=
(Fo x.isNone (R (Z (tuple #[I 0,I 1])) w) (Cut (WP prog 31 (Code.loop NO) (C2 x x1 x2 x3 x1 x2 x3 (↑x2:Int) 0) w (TW R)))):=by kernel_rfl
theorem agH (x x1 x2 x3 w R):den prog qL B6 (Sd x x1 x2 x3) w (TV R)=
(Cj 79 [pointer x] w fun b w'=>Fo b (R (Z (tuple #[I (↑x2:Int),I 0])) w') (R (Z (tuple #[I (↑x2:Int),I 7])) w')):=by kernel_rfl
theorem agI (x x1 x2 x3 x4 x5 x6 x7 x8 w B R):den prog qL NO (C2 x x1 x2 x3 x4 x5 x6 x7 x8) w (bo B (TW R))=
(Fo (decide (x8<x7)) ((0<=x8/\x8<(↑x5:Int))/\∃a,x4=some a/\Li w (add a (Int.toNat x8*1)) fun n=>Cj 79 [pointer x] w fun b w'=>Fo b (R (Z (tuple #[I x8,I 0])) w') (Cq 12 [pointer x,agg #[I 1,I n,I 0,int .u64 0,I 0]] w' fun p n c w'=>B [vP 0 x,vS 1 x1 x2 x3,vS 10 x4 x5 x6,vI 11 x7,(12,SV.v (I (wrap i64 (x8+1))))] w')) (aA prog qL B6 (Sd x x1 x2 x3) w (TV R))):=by kernel_rfl
def vb:Mt:={N:=26,keep:=kp 0 [[0,1],[0,1,10],[4],[0,1,5],[0,1,5,14],[0,1,5],[0,1,5,25],[4],[4]],bu:=[(6,(.range 9))],bk:=[(0,[]),(1,[0,1,5])],lk:=[(4,[0,1,5])]}
def yN:=ak f59
def Zj:=yN.sr.sr.sr
def QP:=yN.sr.sr.sl.sr.sl.sl
def Dt (x:Option Addr) (x1 x2:Nat) (x3:Option Addr) (x4 x5:Nat) (x6:Int):Env:=[vS 0 x x1 x2,vS 1 x3 x4 x5,vI 5 x6]
def Uw (R:RT):=a7 0 [] (SQ vb Zj (Rt f59 R) (Rt f59 R))
theorem u59:UT 59 vb yN f59:=u_ func59 (by kernel_rfl)
theorem t59 (x x1 x2 x3 x4 x5 w R):den prog vb yN (aj 0 [slice x x1 x2,slice x3 x4 x5]) w (Rt f59 R)=
(Fo ((↑x1:Int) !=(↑x4:Int)) (R (Z (.bool false)) w) (Cut (WP prog 26 (Code.loop QP) (Dt x x1 x2 x3 x4 x5 0) w (Uw R)))):=by kernel_rfl
theorem aho (x x1 x2 x3 x4 x5 x6 w B R):den prog vb QP (Dt x x1 x2 x3 x4 x5 x6) w (bo B (Uw R))=
(Fo (decide (x6<(↑x1:Int))) (Sm w fun w'=>(0<=x6/\x6<(↑x1:Int))/\∃a,x=some a/\∃n,w'.cell? (add (add a (Int.toNat x6*5)) 0)=some (I n)/\∃c,w'.cell? (add (add a (Int.toNat x6*5)) 1)=some (I c)/\∃d,w'.cell? (add (add a (Int.toNat x6*5)) 2)=some (I d)/\∃e,w'.cell? (add (add a (Int.toNat x6*5)) 3)=some (I e)/\∃f,w'.cell? (add (add a (Int.toNat x6*5)) 4)=some (I f)/\(0<=x6/\x6<(↑x4:Int))/\∃a,x3=some a/\∃g,w'.cell? (add (add a (Int.toNat x6*5)) 0)=some (I g)/\∃h,w'.cell? (add (add a (Int.toNat x6*5)) 1)=some (I h)/\∃i,w'.cell? (add (add a (Int.toNat x6*5)) 2)=some (I i)/\∃j,w'.cell? (add (add a (Int.toNat x6*5)) 3)=some (I j)/\∃k,w'.cell? (add (add a (Int.toNat x6*5)) 4)=some (I k)/\∃b,Sem.run prog (Op.equal 43 (agg #[I n,I c,I d,I e,I f]) (agg #[I g,I h,I i,I j,I k])) w'=Result.ok b w'/\false=false/\Fo (!b) (R (Z (.bool false)) w') (B [vS 0 x x1 x2,vS 1 x3 x4 x5,(5,SV.v (I (wrap i64 (x6+1))))] w')) (R (Z (.bool true)) w)):=by kernel_rfl
def qT:Mt:={N:=35,keep:=kp 0 [[0],[0,16],[2],[0,18,19],[0,18,19,20],[0,3,18,19],[0,18,19,25],[2],[0,18,19],[2]],bk:=[(0,[0]),(1,[0,18,19])],cB:=[(9,[0])],lk:=[(4,[0,18,19])]}
def yR:=ak f79
def Cs:=yR.sr.sr.sr
def Q3:=yR.sr.sr.sl.sr.sl.sl
def Sr (x:Option Addr):Env:=[vP 0 x]
def Dw (x:Option Addr) (x1 x2:Int):Env:=[vP 0 x,vI 18 x1,vI 19 x2]
def UB (R:RT):=Rt f79 R
def UC (R:RT):=a7 0 [0] (SQ qT Cs (Rt f79 R) (Rt f79 R))
theorem u79:UT 79 qT yR f79:=u_ func79 (by kernel_rfl)
theorem t79 (x w R):den prog qT yR (aj 0 [pointer x]) w (Rt f79 R)=
(Fz x.isNone (Cp 98 [pointer x] w fun p w'=>Cj 99 [pointer p] w' fun b w'=>Fz b (Cp 92 [pointer x] w' fun p w'=>Ci 170 [pointer p,I (-1:Int)] w' fun n w'=>Fo (decide (n>0)) (R (Z (.bool false)) w') (Ci 83 [pointer x] w' fun n w'=>Cut (WP prog 35 (Code.loop Q3) (Dw x n 0) w' (UC R)))) (R (Z (.bool false)) w')) (R (Z (.bool false)) w)):=by kernel_rfl
theorem ahw (x w R):den prog qT Cs (Sr x) w (UB R)=
(Cp 173 [pointer x] w fun p w'=>Cq 174 [pointer p] w' fun p n c w'=>Cp 173 [pointer x] w' fun a w'=>Cj 172 [slice p n c,func (Fn.func 175) #[pointer a] #[]] w' fun b w'=>R (Z (.bool !b)) w'):=by kernel_rfl
theorem ahx (x x1 x2 w B R):den prog qT Q3 (Dw x x1 x2) w (bo B (UC R))=
(Fo (decide (x2<x1)) (Cj 171 [pointer x,I x2] w fun b w'=>Fo (!b) (R (Z (.bool false)) w') (B [vP 0 x,vI 18 x1,(19,SV.v (I (wrap i64 (x2+1))))] w')) (aA prog qT Cs (Sr x) w (UB R))):=by kernel_rfl
def HH:Mt:={N:=24,keep:=kp 0 [[0,1],[4]]}
def M6:=ak f171
theorem ajr:UT 171 HH M6 f171:=u_ func171 (by kernel_rfl)
theorem t171 (x x1 w R):den prog HH M6 (aj 0 [pointer x,I x1]) w (Rt f171 R)=
(Cp 92 [pointer x] w fun p w'=>Ci 170 [pointer p,I x1] w' fun n w'=>Fo (n==0) (Cp 94 [pointer x] w' fun p w'=>Ci 204 [pointer p,I x1] w' fun n w'=>Fo (n==0) (Cp 30 [pointer x] w' fun p w'=>Cj 205 [pointer p,I x1] w' fun b w'=>R (Z (.bool !b)) w') (R (Z (.bool false)) w')) (R (Z (.bool false)) w')):=by kernel_rfl
end
end Go.Dav
namespace Go.Dav
open Go.Proofs
open Value IntKind Ending World Addr Tryz
set_option maxRecDepth 100000
noncomputable section
end
end Go.Dav
namespace Go.Dav
open Go.Proofs
open Value IntKind Ending World Addr Tryz
set_option maxRecDepth 100000
noncomputable section
def Kt:Mt:={N:=51,keep:=kp 0 [[0,1],[0,1,6],[0,1,6,7],[0,1,6,7,8],[0,1,6,7,8,9],[0,1,6,7,8,9,10],[0,1,6,7,9,11],[0,1,6,7,9,11,12],[0,1,6,7,9,12,13],[0,1,7,9,12,13],[0,1,4],[4,5]]}
def Qq:=ak f393
theorem amf:UT 393 Kt Qq f393:=u_ func393 (by kernel_rfl)
theorem t393 (x x1 w R):den prog Kt Qq (aj 0 [int .u64 x,int .u64 x1]) w (Rt f393 R)=
((0:Int)<=32/\(0:Int)<=32/\(0:Int)<=32/\(0:Int)<=32/\(0:Int)<=32/\R (Z (tuple #[int .u64 (wrap .u64 (wrap .u64 (wrap .u64 (aC .u64 x 32*aC .u64 x1 32)+aC .u64 (wrap .u64 (wrap .u64 (aC .u64 x 32*aw BinOp.and .u64 x1 4294967295)+aC .u64 (wrap .u64 (aw BinOp.and .u64 x 4294967295*aw BinOp.and .u64 x1 4294967295)) 32)) 32)+aC .u64 (wrap .u64 (aw BinOp.and .u64 (wrap .u64 (wrap .u64 (aC .u64 x 32*aw BinOp.and .u64 x1 4294967295)+aC .u64 (wrap .u64 (aw BinOp.and .u64 x 4294967295*aw BinOp.and .u64 x1 4294967295)) 32)) 4294967295+wrap .u64 (aw BinOp.and .u64 x 4294967295*aC .u64 x1 32))) 32)),int .u64 (wrap .u64 (x*x1))])) w):=by kernel_rfl
def gk:Mt:={N:=33,keep:=kp 0 [[0],[0,11],[2],[0,3],[3,19,20],[3,19,20,21],[3,5,19,20],[3,19,20,23,24],[3,19,20,23,24,25],[3,19,20,23,24],[3,19,20,23,24,29],[3,19,20,23,24],[3,19,20],[2]],bk:=[(0,[3]),(1,[3,19,20]),(2,[3,19,20]),(3,[3,19,20,23,24])],lk:=[(5,[3,19,20]),(8,[3,19,20,23,24])]}
def sH:=ak f362
def nt:=sH.sr.sl.sr.sr.sr.sr
def PX:=sH.sr.sl.sr.sr.sr.sl.sr.sl.sl
def Cf:=sH.sr.sl.sr.sr.sr.sl.sr.sl.sl.sr.sr.sr
def PY:=sH.sr.sl.sr.sr.sr.sl.sr.sl.sl.sr.sr.sl.sl.sr.sr.sl.sl
def Dg (x:Option Addr) (x1 x2:Nat) (x3:List Value) (x4:Int):Env:=[vS 3 x x1 x2,(19,SV.v (agg x3.toArray)),vI 20 x4]
def Dh (x:Option Addr) (x1 x2:Nat) (x3:List Value) (x4:Int) (x5:Option Addr) (x6 x7:Nat) (x8:Option Addr) (x9 x10:Nat) (x11:Option Addr) (x12 x13:Nat) (x14:Option Addr) (x15 x16:Nat) (x17:Option Addr) (x18 x19:Nat) (x20:Option Addr) (x21 x22:Nat) (x23:Option Addr) (x24 x25:Nat) (x26:Option Addr) (x27 x28:Nat) (x29:Int):Env:=[vS 3 x x1 x2,(19,SV.v (agg x3.toArray)),vI 20 x4,(23,SV.v (agg #[(slice x5 x6 x7),(slice x8 x9 x10),(slice x11 x12 x13),(slice x14 x15 x16),(slice x17 x18 x19),(slice x20 x21 x22),(slice x23 x24 x25),(slice x26 x27 x28)])),vI 24 x29]
def Uf (R:RT):=a7 0 [3] (SQ gk nt (Rt f362 R) (Rt f362 R))
def Ug (B362_1:Env->World->Prop) (R:Ending->World->Prop):dG:=a7 2 [3,19,20] (a7 1 [3,19,20] (pk (fun E w=>oH (oP gk.cB (kQ Cf)) prog gk Cf E w (bo B362_1 (a7 0 [3] (pk (fun E w=>oH (oP gk.cB (kQ nt)) prog gk nt E w (Rt f362 R) fun E=>den prog gk nt E w (Rt f362 R)) (Rt f362 R)))) fun E=>den prog gk Cf E w (bo B362_1 (a7 0 [3] (pk (fun E w=>oH (oP gk.cB (kQ nt)) prog gk nt E w (Rt f362 R) fun E=>den prog gk nt E w (Rt f362 R)) (Rt f362 R))))) (bo B362_1 (a7 0 [3] (pk (fun E w=>oH (oP gk.cB (kQ nt)) prog gk nt E w (Rt f362 R) fun E=>den prog gk nt E w (Rt f362 R)) (Rt f362 R))))))
theorem alS:UT 362 gk sH f362:=u_ func362 (by kernel_rfl)
theorem t362 (x w R):den prog gk sH (aj 0 [pointer x]) w (Rt f362 R)=
(∃a,x=some a/\Lq w (a.add 170) fun p n c=>Fo (decide ((↑n:Int)>0)) (∃a,x=some a/\Lq w (a.add 170) fun p n c=>R (Z (slice p n c)) w) (∃a,x=some a/\∃cs,List.length cs=168/\(∀(j:Nat) (v:Value),cs[j]?=some v->w.cell? (add (a.add 2) j)=some v)/\Cut (WP prog 33 (Code.loop PX) (Dg none 0 0 cs 0) w (Uf R)))):=by kernel_rfl
theorem ag3 (x x1 x2 x3 x4 w B362_1 R):den prog gk PX (Dg x x1 x2 x3 x4) w (bo B362_1 (Uf R))=
(Fo (decide (x4<21)) ((0<=x4/\x4<(↑21:Int))/\∃p n c b d e f g h i j k l m o q r s t u v y z A,List.take 8 (List.drop (Int.toNat x4*8) (Array.toList (List.toArray x3)))=[slice p n c,slice b d e,slice f g h,slice i j k,slice l m o,slice q r s,slice t u v,slice y z A]/\ay w [N3,N3,N3,N3,N3,N3,N3,N3] 286 fun a w'=>Wr w' a [slice p n c,slice b d e,slice f g h,slice i j k,slice l m o,slice q r s,slice t u v,slice y z A] fun w'=>Lq w' (a.add 0) fun p n c=>Lq w' (a.add 1) fun B C D=>Lq w' (a.add 2) fun E F G=>Lq w' (a.add 3) fun H I J=>Lq w' (a.add 4) fun K L M=>Lq w' (a.add 5) fun N O P=>Lq w' (a.add 6) fun Q S T=>Lq w' (a.add 7) fun U V W=>Cut (WP prog 33 (Code.loop PY) (Dh x x1 x2 x3 x4 p n c B C D E F G H I J K L M N O P Q S T U V W 0) w' (Ug B362_1 R))) (R (Z (slice x x1 x2)) w)):=by kernel_rfl
theorem ag4 (x x1 x2 x3 x4 x5 x6 x7 x8 x9 x10 x11 x12 x13 x14 x15 x16 x17 x18 x19 x20 x21 x22 x23 x24 x25 x26 x27 x28 x29 w B C R):den prog gk PY (Dh x x1 x2 x3 x4 x5 x6 x7 x8 x9 x10 x11 x12 x13 x14 x15 x16 x17 x18 x19 x20 x21 x22 x23 x24 x25 x26 x27 x28 x29) w (bo C (Ug B R))=
(Fo (decide (x29<8)) ((0<=x29/\x29<(↑8:Int))/\∃p n c,[slice x5 x6 x7,slice x8 x9 x10,slice x11 x12 x13,slice x14 x15 x16,slice x17 x18 x19,slice x20 x21 x22,slice x23 x24 x25,slice x26 x27 x28][Int.toNat x29*1]?=some (slice p n c)/\Fo (decide ((↑n:Int)>0)) (R (Z (slice p n c)) w) (C [vS 3 p n c,(19,SV.v (agg (List.toArray x3))),vI 20 x4,(23,SV.v (agg #[slice x5 x6 x7,slice x8 x9 x10,slice x11 x12 x13,slice x14 x15 x16,slice x17 x18 x19,slice x20 x21 x22,slice x23 x24 x25,slice x26 x27 x28])),(24,SV.v (I (wrap i64 (x29+1))))] w)) (B [vS 3 x x1 x2,(19,SV.v (agg (List.toArray x3))),(20,SV.v (I (wrap i64 (x4+1))))] w)):=by kernel_rfl
def uV:Mt:={N:=18,keep:=kp 0 [[0],[0,3],[3,6,7,8],[3,6,7,8,9],[3,5,6,7,8],[3,5,6,7,8,14],[2],[3,6,7,8],[2]],bk:=[(0,[3]),(1,[3,6,7,8])],lk:=[(3,[3,6,7,8])]}
def yw:=ak f344
def Y7:=yw.sr.sr.sr
def PE:=yw.sr.sr.sl.sr.sl.sl
def De (x:Int) (x1:Option Addr) (x2 x3:Nat) (x4 x5:Int):Env:=[vI 3 x,vS 6 x1 x2 x3,vI 7 x4,vI 8 x5]
def Uc (R:RT):=a7 0 [3] (SQ uV Y7 (Rt f344 R) (Rt f344 R))
theorem alG:UT 344 uV yw f344:=u_ func344 (by kernel_rfl)
theorem t344 (x x1 x2 w R):den prog uV yw (aj 0 [slice x x1 x2]) w (Rt f344 R)=
(Cut (WP prog 18 (Code.loop PE) (De 0 x x1 x2 (↑x1:Int) 0) w (Uc R))):=by kernel_rfl
theorem ag0 (x x1 x2 x3 x4 x5 w B R):den prog uV PE (De x x1 x2 x3 x4 x5) w (bo B (Uc R))=
(Fo (decide (x5<x4)) ((0<=x5/\x5<(↑x2:Int))/\∃a,x1=some a/\Li w (add a (Int.toNat x5*1)) fun n=>Fo (n !=x) (R (Z (I n)) w) (B [vI 3 x,vS 6 x1 x2 x3,vI 7 x4,(8,SV.v (I (wrap i64 (x5+1))))] w)) (R (Z (I x)) w)):=by kernel_rfl
def JX:Mt:={N:=20,keep:=kp 0 [[0,1],[0,1,5],[0,1,5,6],[0,1,6,11],[12],[4],[4],[0,1,13],[4],[0,1,16],[4],[19],[4],[4]]}
def PF:=ak f345
theorem alH:UT 345 JX PF f345:=u_ func345 (by kernel_rfl)
theorem t345 (x x1 w R):den prog JX PF (aj 0 [I x,I x1]) w (Rt f345 R)=
(Cj 385 [I x] w fun b w'=>Cj 385 [I x1] w' fun a w'=>Fo b (Fo a (R (Z (I 0)) w') (R (Z (I (-1:Int))) w')) (Fo a (R (Z (I 1)) w') (Fo (decide (x<x1)) (R (Z (I (-1:Int))) w') (Fo (decide (x>x1)) (R (Z (I 1)) w') (R (Z (I 0)) w'))))):=by kernel_rfl
def JY:Mt:={N:=20,keep:=kp 0 [[0,1],[0,1,5],[0,1,5,6],[0,1,6,11],[12],[4],[4],[0,1,13],[4],[0,1,16],[4],[19],[4],[4]]}
def PG:=ak f346
theorem alI:UT 346 JY PG f346:=u_ func346 (by kernel_rfl)
theorem t346 (x x1 w R):den prog JY PG (aj 0 [I x,I x1]) w (Rt f346 R)=
(Cj 386 [I x] w fun b w'=>Cj 386 [I x1] w' fun a w'=>Fo b (Fo a (R (Z (I 0)) w') (R (Z (I (-1:Int))) w')) (Fo a (R (Z (I 1)) w') (Fo (decide (x<x1)) (R (Z (I (-1:Int))) w') (Fo (decide (x>x1)) (R (Z (I 1)) w') (R (Z (I 0)) w'))))):=by kernel_rfl
def Kk:Mt:={N:=6,keep:=kp 0 [[0],[2]]}
def Qh:=ak f385
theorem al8:UT 385 Kk Qh f385:=u_ func385 (by kernel_rfl)
theorem t385 (x w R):den prog Kk Qh (aj 0 [I x]) w (Rt f385 R)=
(R (Z (.bool (x !=x))) w):=by kernel_rfl
def Kl:Mt:={N:=6,keep:=kp 0 [[0],[2]]}
def Qi:=ak f386
theorem al9:UT 386 Kl Qi f386:=u_ func386 (by kernel_rfl)
theorem t386 (x w R):den prog Kl Qi (aj 0 [I x]) w (Rt f386 R)=
(R (Z (.bool (x !=x))) w):=by kernel_rfl
end
end Go.Dav
namespace Go.Dav
open Go.Proofs
open Value IntKind Ending World Addr Tryz
set_option maxRecDepth 100000
noncomputable section
def JW:Mt:={N:=24,keep:=kp 0 [[0,1,2],[5]],bu:=[(1,[0,1,2,3,4,5,6,7,8,9,10,11,13,14,12,15,16,17,18])],ex:=true}
def PD:=ak f343
theorem alF:UT 343 JW PD f343:=u_ func343 (by kernel_rfl)
theorem t343 (x x1 x2 w R):den prog JW PD (aj 0 [I x,I x1,pointer (some x2)]) w (Rt f343 R)=
(Sm w fun w'=>World.drawn w'=World.drawn w+1->Lp w' x2 fun p=>∃a,p=some a/\∃r,w'.cell? (a.add 1)=some (map r)/\∃n,Sem.run prog (Instr.lookup 285 (map r) (I x) false) w'=Result.ok (I n) w'/\Lp w' x2 fun p=>∃a,p=some a/\∃r,w'.cell? (a.add 1)=some (map r)/\∃b,Sem.run prog (Instr.lookup 285 (map r) (I x1) false) w'=Result.ok (I b) w'/\Ci 345 [I n,I b] w' fun n w'=>Ci 346 [I x,I x1] w' fun c w'=>ay w' [I n,I c] 3 fun p w'=>Ci 344 [slice (some p) 2 2] w' fun n w'=>R (Z (I n)) w'):=by kernel_rfl
end
end Go.Dav
namespace Go.Dav
open Go.Proofs
open Value IntKind Ending World Addr Tryz
set_option maxRecDepth 100000
noncomputable section
namespace l9
def mc:Mt:={N:=23,keep:=kp 0 [[0,1],[0,1,9,10],[0,1,9,10,11],[0,1,5,9,10],[0,1,5,9,10,20],[4],[0,1,9,10],[4]],bk:=[(0,[]),(1,[0,1,9,10])],lk:=[(2,[0,1,9,10])],ref:=false}
def ot:=ak f376
def Ch:=ot.sr.sr
def vy:=ot.sr.sl.sr.sl.sl
def sU (x:Option Addr) (x1 x2:Int):Env:=[vP 0 x,(1,SV.v (func (Fn.func 378) #[] #[])),vI 9 x1,vI 10 x2]
def wo (R:RT):=a7 0 [] (SQ mc Ch (Rt f376 R) (Rt f376 R))
theorem Gf:UT 376 mc ot f376:=u_ func376 (by kernel_rfl)
theorem t376 (x w R):den prog mc ot (aj 0 [pointer x,func (Fn.func 378) #[] #[]]) w (Rt f376 R)=
(∃a,x=some a/\Li w (a.add 12) fun n=>Cut (WP prog 23 (Code.loop vy) [vP 0 x,(1,SV.v (func (Fn.func 378) #[] #[])),vI 9 n,vI 10 0] w (wo R))):=by kernel_rfl
theorem FL (x x1 x2 w B R):den prog mc vy (sU x x1 x2) w (bo B (wo R))=
(Fo (decide (x2<x1)) (∃a,x=some a/\(0<=x2/\x2<(↑12:Int))/\∃n,w.cell? (add (a.add 0) (Int.toNat x2*1))=some (int IntKind.u8 n)/\Cj 378 [int IntKind.u8 n] w fun b w'=>Fo b (R (Z (I x2)) w') (B [vP 0 x,(1,SV.v (func (Fn.func 378) #[] #[])),vI 9 x1,(10,SV.v (I (wrap i64 (x2+1))))] w')) (R (Z (I (-1:Int))) w)):=by kernel_rfl
def mb:Mt:={N:=46,keep:=kp 0 [[0,1,2],[0,1,2,13],[6,7],[0,2,8],[0,2,8,25],[6,7],[0,2,8,9],[0,2,9,29,30,31],[0,2,9,29,30,31,32],[0,2,9,11,29,30,31],[0,2,9,11,29,30,31,42],[0,2,9,29,30,31],[0,2,9,29,30,31],[6,7]],bk:=[(0,[9]),(1,[0,2,9,29,30,31])],lk:=[(8,[0,2,9,29,30,31])],ref:=false}
def oq:=ak f335
def Cd:=oq.sr.sr.sr.sr.sr.sr
def vx:=oq.sr.sr.sr.sr.sr.sl.sr.sl.sl
def vO (x:Option Addr) (x1:Int) (x2:Option Addr) (x3 x4:Nat) (x5 x6:Int):Env:=[vP 0 x,(2,SV.v (func (Fn.func 337) #[] #[])),vI 9 x1,vS 29 x2 x3 x4,vI 30 x5,vI 31 x6]
def wm (R:RT):=a7 0 [9] (SQ mb Cd (Rt f335 R) (Rt f335 R))
theorem Ge:UT 335 mb oq f335:=u_ func335 (by kernel_rfl)
theorem t335 (x x1 w R):den prog mb oq (aj 0 [pointer x,int .u64 x1,func (Fn.func 337) #[] #[]]) w (Rt f335 R)=
(Fo x.isNone (R (Z (tuple #[I 0,I 1])) w) (∃a,x=some a/\Lq w (a.add 0) fun p n c=>Cu 11 [I (↑n:Int)] w fun n w'=>Cu 318 [int .u64 x1,int .u64 n] w' fun n w'=>Cq 382 [int .u64 n] w' fun p n c w'=>Fo ((↑n:Int)==0) (R (Z (tuple #[I 0,I 12])) w') (((0:Int)<=0/\0<(↑n:Int))/\∃a,p=some a/\Li w' (a.add 0) fun b=>Cut (WP prog 46 (Code.loop vx) [vP 0 x,(2,SV.v (func (Fn.func 337) #[] #[])),vI 9 b,vS 29 p n c,(30,SV.v (I (↑n:Int))),vI 31 0] w' (wm R))))):=by kernel_rfl
theorem FJ (x x1 x2 x3 x4 x5 x6 w B R):den prog mb vx (vO x x1 x2 x3 x4 x5 x6) w (bo B (wm R))=
(Fo (decide (x6<x5)) ((0<=x6/\x6<(↑x3:Int))/\∃a,x2=some a/\Li w (add a (Int.toNat x6*1)) fun n=>Ci 14 [pointer x,I n] w fun c w'=>Ci 14 [pointer x,I x1] w' fun d w'=>Cj 337 [I c,I d] w' fun b w'=>Fo b (B [vP 0 x,(2,SV.v (func (Fn.func 337) #[] #[])),vI 9 n,vS 29 x2 x3 x4,vI 30 x5,(31,SV.v (I (wrap i64 (x6+1))))] w') (B [vP 0 x,(2,SV.v (func (Fn.func 337) #[] #[])),vI 9 x1,vS 29 x2 x3 x4,vI 30 x5,(31,SV.v (I (wrap i64 (x6+1))))] w')) (R (Z (tuple #[I x1,I 0])) w)):=by kernel_rfl
end l9
end
end Go.Dav
namespace Go.Dav
structure af (F:Nat->Prop) (w w':World):Prop where
 size:w.heap.size<=w'.heap.size
 os:w'.os=w.os
 tape:w'.tape=w.tape
 output:w'.output=w.output
 ai:∀i,i<w.heap.size->¬F i->w'.heap[i]?=w.heap[i]?
def no:Nat->Prop:=fun _=>False
theorem af.refl (F:Nat->Prop) (w:World):af F w w:=⟨Nat.le_refl _,rfl,rfl,rfl,fun _ _ _=>rfl⟩
theorem af.trans {F G:Nat->Prop} {w w1 w2:World} (h:af F w w1) (k:af G w1 w2) (hG:∀i,i<w.heap.size->G i->F i):af F w w2:=
 ⟨Nat.le_trans h.size k.size,k.os.trans h.os,k.tape.trans h.tape,k.output.trans h.output,
  fun i hi hF=>(k.ai i (Nat.lt_of_lt_of_le hi h.size) (fun hg=>hF (hG i hi hg))).trans (h.ai i hi hF)⟩
theorem af.mono {F G:Nat->Prop} {w w':World} (h:af F w w') (hG:∀i,i<w.heap.size->F i->G i):af G w w':=(af.refl G w).trans h hG
theorem af.same {w w':World} (F:Nat->Prop) (h1:w'.heap=w.heap) (h2:w'.os=w.os) (h3:w'.tape=w.tape) (h4:w'.output=w.output):af F w w':=
 ⟨by rw[h1];exact Nat.le_refl _,h2,h3,h4,fun _ _ _=>by rw[h1]⟩
theorem jk.ae {F:Nat->Prop} {w w':World} {b:Nat} {c:List Value} {T:TypeId} (h:jk w w' b c T) (hb:F b):af F w w':=
 ⟨Nat.le_of_eq h.size.symm,h.os,h.tape,h.output,fun i _ hF=>h.other i (fun e=>hF (e ▸ hb))⟩
theorem cH.ae {w w':World} {o:Obj} (h:cH w w' o) (F:Nat->Prop):af F w w':=
 ⟨by rw[h.size];omega,h.os,h.tape,h.output,fun i hi _=>h.j6 i hi⟩
theorem oX {w:World} {b:Nat} {o:Obj} (h:w.heap[b]?=some o):b<w.heap.size:=(Array.getElem?_eq_some_iff.1 h).1
def aE (w:World) (b:Nat) (c:List Value) (T:TypeId):Prop:=w.heap[b]?=some (.cells c.toArray T (0,0))
theorem aE.lt {w:World} {b:Nat} {c:List Value} {T:TypeId} (h:aE w b c T):b<w.heap.size:=oX h
theorem aE.ae {w w':World} {b:Nat} {c:List Value} {T:TypeId} {F:Nat->Prop} (h:aE w b c T) (k:af F w w') (hF:¬F b):aE w' b c T:=
 (k.ai b h.lt hF).trans h
theorem vB {w:World} {b:Nat} {c:List Value} {T:TypeId} (h:aE w b c T) (o:Nat):w.cell? ⟨b,o,none⟩=c[o]?:=by
 unfold aE at h;simp[World.cell?,h]
theorem add_lit (b o k:Nat):(⟨b,o,none⟩:Addr).add k=⟨b,o+k,none⟩:=by
 unfold Addr.add;split
 ·simp_all
 ·rfl
theorem aE.cell {w:World} {b:Nat} {c:List Value} {T:TypeId} (h:aE w b c T) {k:Nat} {v:Value} (hv:c[k]?=some v):w.cell? ((⟨b,0,none⟩:Addr).add k)=some v:=by
 rw[add_lit,vB h,Nat.zero_add];exact hv
theorem aE.bD {w:World} {b:Nat} {c:List Value} {T:TypeId} (h:aE w b c T) {v:Value} (hv:c[0]?=some v):w.cell? ⟨b,0,none⟩=some v:=by
 rw[vB h];exact hv
theorem aE.wr {w:World} {b:Nat} {c:List Value} {T:TypeId} (h:aE w b c T) {k:Nat} {vs:List Value} (hk:k+vs.length<=c.length) {K:World->Prop}
  (hK:∀w',jk w w' b (aI c k vs) T->K w'):Wr w ((⟨b,0,none⟩:Addr).add k) vs K:=by
 rw[add_lit,Nat.zero_add];exact⟨⟨c,T,h,rfl,hk,hK⟩⟩
theorem aE.gF {w:World} {b:Nat} {c:List Value} {T:TypeId} (h:aE w b c T) {vs:List Value} (hk:vs.length<=c.length) {K:World->Prop}
  (hK:∀w',jk w w' b (aI c 0 vs) T->K w'):Wr w ⟨b,0,none⟩ vs K:=
 ⟨⟨c,T,h,rfl,by simpa using hk,hK⟩⟩
theorem jk.aF {w w':World} {b:Nat} {c:List Value} {T:TypeId} (h:jk w w' b c T):aE w' b c T:=h.ai
theorem jk.keep {w w':World} {b i:Nat} {c c':List Value} {T T':TypeId} (h:jk w w' b c T) (k:aE w i c' T') (hi:i≠b):aE w' i c' T':=(h.other i hi).trans k
theorem cH.aF {w w':World} {c:List Value} {T:TypeId} (h:cH w w' (.cells c.toArray T (0,0))):aE w' w.heap.size c T:=h.ai
theorem cH.keep {w w':World} {o:Obj} {i:Nat} {c':List Value} {T':TypeId} (h:cH w w' o) (k:aE w i c' T'):aE w' i c' T':=(h.j6 i k.lt).trans k
def Cells (w:World) (p:Option Addr) (cs:List Value):Prop:=∀j v,cs[j]?=some v->∃a,p=some a/\w.cell? (a.add j)=some v
theorem Cells.nil (w:World) (p:Option Addr):Cells w p []:=fun j v h=>by simp at h
def Sl (w:World) (T:TypeId) (sz:Nat) (p:Option Addr) (n c:Nat) (cs:List Value):Prop:=
 cs.length=n*sz/\n<=c/\c<=maxLen/\match p with
  | none=>n=0/\c=0
  | some a=>∃cells:List Value,aE w a.block cells T/\a.spot=none/\a.off+c*sz<=cells.length/\(cells.drop a.off).take (n*sz)=cs
def aL (p:Option Addr):Nat->Prop:=fun i=>∃a,p=some a/\i=a.block
section
variable {w w':World} {T:TypeId} {sz:Nat} {p:Option Addr} {n c:Nat} {cs:List Value}
theorem Sl.lt (h:Sl w T sz p n c cs):∀i,aL p i->i<w.heap.size:=by
 rintro i ⟨a,rfl,rfl⟩;obtain⟨_,_,_,cells,hb,_⟩:=h;exact hb.lt
theorem Sl.len (h:Sl w T sz p n c cs):cs.length=n*sz:=h.1
theorem Sl.nil (w:World) (T:TypeId) (sz:Nat):Sl w T sz none 0 0 []:=⟨by simp,Nat.le_refl _,Nat.zero_le _,rfl,rfl⟩
theorem Sl.ae {F:Nat->Prop} (h:Sl w T sz p n c cs) (k:af F w w') (hF:∀i,aL p i->¬F i):Sl w' T sz p n c cs:=by
 obtain⟨h1,h2,h3,h4⟩:=h;refine⟨h1,h2,h3,?_⟩
 cases p with
 | none=>exact h4
 | some a=>
  obtain⟨cells,hb,r⟩:=h4;exact⟨cells,hb.ae k (hF _ ⟨a,rfl,rfl⟩),r⟩
theorem Sl.cells (h:Sl w T sz p n c cs):Cells w p cs:=by
 intro j v hj;obtain⟨h1,h2,h3,h4⟩:=h;have hlt:j<n*sz:=by rw[<-h1];exact(List.getElem?_eq_some_iff.1 hj).1
 cases p with
 | none=>obtain⟨rfl,_⟩:=h4;simp at hlt
 | some a=>
  obtain⟨cells,hb,hs,hl,ht⟩:=h4;obtain⟨b,o,sp⟩:=a;simp only at hs hb hl ht;subst hs;refine⟨_,rfl,?_⟩;rw[add_lit,vB hb];rw[<-ht,List.getElem?_take,if_pos hlt,List.getElem?_drop]at hj;exact hj
theorem Sl.new {cs:List Value} (h:cH w w' (.cells cs.toArray T (0,0))) (hl:cs.length=n*sz) (hm:n<=maxLen):Sl w' T sz (some ⟨w.heap.size,0,none⟩) n n cs:=
 ⟨hl,Nat.le_refl _,hm,cs,h.ai,rfl,by simp[hl],by simp[<-hl]⟩
theorem Sl.R4 (h:Sl w T sz p n c cs) (k:Nat) (hk:k<=n):Sl w T sz (dO p c k sz) (n-k) (c-k) (cs.drop (k*sz)):=by
 obtain⟨h1,h2,h3,h4⟩:=h;refine⟨by rw[List.length_drop,h1,Nat.sub_mul],by omega,by omega,?_⟩;unfold dO
 cases p with
 | none=>
  obtain⟨rfl,rfl⟩:=h4;have:(if 0=k then(none:Option Addr)else Option.map (fun(x:Addr)=>x.add (k*sz)) none)=none:=by split<;>rfl
  rw[this]
  exact⟨by omega,by omega⟩
 | some a=>
  obtain⟨cells,hb,hs,hl,ht⟩:=h4;by_cases hc:c=k
  ·rw[if_pos hc];have:n=c:=by omega
   subst this;subst hc;refine⟨cells,hb,hs,?_,?_⟩
   ·simp;have:=hl;omega
   ·simp[<-h1]
  ·rw[if_neg hc];obtain⟨b,o,sp⟩:=a;simp only at hs hb hl ht;subst hs;simp only[Option.map_some,add_lit];refine⟨cells,hb,trivial,?_,?_⟩
   ·rw[Nat.sub_mul];have:k*sz<=c*sz:=Nat.mul_le_mul_right _ (by omega);omega
   ·rw[<-ht,List.drop_take,List.drop_drop,Nat.sub_mul]
theorem Xf (p:Option Addr) (m sz:Nat):dO p m 0 sz=p:=by
 unfold dO;split
 ·rfl
 ·cases p with
  | none=>rfl
  | some a=>simp[Addr.add]
theorem Sl.takeN (h:Sl w T sz p n c cs) (k:Nat) (hk:k<=n):Sl w T sz p k c (cs.take (k*sz)):=by
 obtain⟨h1,h2,h3,h4⟩:=h;have hkn:k*sz<=n*sz:=Nat.mul_le_mul_right _ hk;refine⟨by rw[List.length_take,h1];omega,by omega,h3,?_⟩
 cases p with
 | none=>obtain⟨rfl,rfl⟩:=h4;simp;omega
 | some a=>
  obtain⟨cells,hb,hs,hl,ht⟩:=h4;refine⟨cells,hb,hs,hl,?_⟩;rw[<-ht,List.take_take,Nat.min_eq_left hkn]
theorem SN {p:Option Addr} {m l sz:Nat}:∀i,aL (dO p m l sz) i->aL p i:=by
 rintro i ⟨a,ha,rfl⟩;unfold dO at ha;split at ha
 ·exact⟨a,ha,rfl⟩
 ·cases p with
  | none=>simp at ha
  | some b=>
   simp only[Option.map_some,Option.some.injEq]at ha;subst ha;refine⟨b,rfl,?_⟩;unfold Addr.add;split<;>rfl
end
structure dH (P:Program) (t e:TypeId) (sz bytes:Nat) (z:List Value):Prop where
 under:P.underlying t=some (.slice e)
 info:(P.info? e).map (fun i=>(i.zero.map (·.cells.toList),i.size,i.bytes))=some (some z,sz,bytes)
 zs:z.length=sz
 pos:0<sz
theorem am7 (z:Array Value) (n:Nat):(Builtin.zeroCells z n).size=n*z.size:=by simp[Builtin.zeroCells]
theorem afq {P:Program} {t e:TypeId} {sz bytes:Nat} {z:List Value} (ht:dH P t e sz bytes z) {w:World} {p:Option Addr} {n c:Nat} {cs:List Value} (h:Sl w e sz p n c cs)
  {q:Option Addr} {m d:Nat} {news:List Value} (hq:Cells w q news) (hl:news.length=m*sz) (h1:∀u∈news,u.oneCell'=true) (hb:(n+m)*bytes<=140737488355328) (hn:n+m<=140737488355328) (ty:TypeId) :
  ∃p' n' c' w',(Builtin.append_ #[t,t] ty #[.slice p n c,.slice q m d]).run P w=.ok (.slice p' n' c') w'/\n'=n+m/\Sl w' e sz p' (n+m) c' (cs++news)/\af (aL p) w w'/\
   (∀i,aL p' i->aL p i∨w.heap.size<=i):=by
 obtain⟨hu,hinfo,hzs,hpos⟩:=ht;obtain⟨i,hi,hii⟩:=Option.map_eq_some_iff.1 hinfo;simp only[Prod.mk.injEq]at hii;obtain⟨hz,hs1,hb1⟩:=hii;obtain⟨zv,hzv,hzc⟩:=Option.map_eq_some_iff.1 hz;subst hs1;subst hb1;have hmax:n+m<=maxLen:=by unfold maxLen;omega
 obtain⟨l1,l2,l3,l4⟩:=id h;have hlen:(cs++news).length=(n+m)*i.size:=by rw[List.length_append,l1,hl,Nat.add_mul]
 by_cases hm:m=0
 ·
  subst hm;have hnews:news=[]:=List.eq_nil_of_length_eq_zero (by simpa using hl);subst hnews;refine⟨p,n,c,w,?_,rfl,by simpa using h,af.refl _ _,fun i hi=>.inl hi⟩
  have hf:(Builtin.firstCells i.size 0 (.slice q 0 d)).run P w=.ok #[] w:=by
   cases q with
   | none=>simp[Builtin.firstCells]
   | some a=>simp[Builtin.firstCells,loadCells,loadCellsFrom]
  have hroom:n<=c:=l2
  cases p with
  | none=>
   obtain⟨rfl,rfl⟩:=l4
   simp[Builtin.append_,run_underlying hu,sizeOf,typeInfo,hi,Builtin.lenOf,hf]
  | some a=>simp[Builtin.append_,run_underlying hu,sizeOf,typeInfo,hi,Builtin.lenOf,hroom,hf,storeCells]
 ·obtain⟨aq,rfl⟩:∃a,q=some a:=by
   have h0:0<news.length:=by rw[hl];exact Nat.mul_pos (by omega) hpos
   obtain⟨a,ha,_⟩:=hq 0 news[0] (by simp[h0]);exact⟨a,ha⟩
  have hc':∀j u,news[j]?=some u->w.cell? (aq.add j)=some u:=by
   intro j u hj;obtain⟨a,ha,hc⟩:=hq j u hj;obtain rfl:=Option.some.inj ha;exact hc
  have grown:∀cap,n+m<=cap->cap<=maxLen->Sl (w.drew.alloc (.cells (cs.toArray++news.toArray++Builtin.zeroCells zv.cells (cap-(n+m))) e)) e i.size (some ⟨w.heap.size,0,none⟩) (n+m) cap (cs++news):=by
   intro cap hcap hcm;refine⟨hlen,hcap,hcm,cs++news++(Builtin.zeroCells zv.cells (cap-(n+m))).toList,?_,rfl,?_,?_⟩
   ·have e0:(cs++news++(Builtin.zeroCells zv.cells (cap-(n+m))).toList).toArray=cs.toArray++news.toArray++Builtin.zeroCells zv.cells (cap-(n+m)):=by simp
    unfold aE;rw[e0];exact Array.getElem?_push_size
   ·have:zv.cells.size=i.size:=by rw[<-hzs,<-hzc];simp
    simp only[List.length_append,Array.length_toList,am7,this,l1,hl,Nat.zero_add];rw[<-Nat.add_mul,<-Nat.add_mul];refine Nat.le_of_eq ?_;congr 1;omega
   ·simp only[List.drop_zero];rw[<-hlen,List.take_left]
  have updn:∀o,af (aL p) w (w.drew.alloc o):=fun o=>⟨by simp,rfl,rfl,rfl,fun k hk _=>heap_alloc_old w.drew o k hk⟩;by_cases hr:n+m<=c
  ·
   cases p with
   | none=>obtain⟨rfl,rfl⟩:=l4;omega
   | some a=>
    obtain⟨cells,hbk,hsp,hfit,htk⟩:=l4;obtain⟨b,o,sp⟩:=a;simp only at hsp hbk hfit htk;subst hsp;have hfc:=run_firstCells_some (P:=P) w i.size m aq m d news hl hc'
    have hfit':o+n*i.size+0+news.length<=cells.toArray.size:=by
     rw[hl];simp only[List.size_toArray];have:(n+m)*i.size<=c*i.size:=Nat.mul_le_mul_right _ hr;rw[Nat.add_mul]at this;omega
    have hst:=run_storeCells_at P b (o+n*i.size) e news 0 cells.toArray w hbk hfit' h1;simp only[Nat.add_zero]at hst;have hW:=BB (w:=w) (b:=b) (c:=cells.toArray) (T:=e) hbk (aI cells (o+n*i.size) news);refine⟨some ⟨b,o,none⟩,n+m,c,_,?_,rfl,?_,hW.ae ⟨_,rfl,rfl⟩,fun i hi=>.inl hi⟩
    ·simp[Builtin.append_,run_underlying hu,sizeOf,typeInfo,hi,Builtin.lenOf,hr,hfc,Addr.add_lit,hst,aI]
    ·refine⟨hlen,hr,l3,_,hW.ai,rfl,?_,?_⟩
     ·rw[ue (by simpa using hfit')];exact hfit
     ·have hol:o+n*i.size<=cells.length:=by
       have:n*i.size<=c*i.size:=Nat.mul_le_mul_right _ l2;omega
      unfold aI;rw[List.append_assoc,List.drop_append,List.drop_take];have e1:o-(cells.take (o+n*i.size)).length=0:=by rw[List.length_take];omega
      rw[e1,List.drop_zero,show o+n*i.size-o=n*i.size by omega,htk,List.take_append,l1];rw[List.take_of_length_le (by rw[l1,Nat.add_mul];omega)];congr 1;rw[Nat.add_mul,Nat.add_sub_cancel_left,<-hl,List.take_left]
  ·
   have hg:=grownCap_ge w (n+m) c e;have hgm:=grownCap_le_maxLen w (n+m) c e hmax
   cases p with
   | none=>
    obtain⟨rfl,rfl⟩:=l4;have hcs:cs=[]:=List.eq_nil_of_length_eq_zero (by simpa using l1);subst hcs;have hrun:=run_append_nil (P:=P) w t ty e i zv hu hi hzv aq m d news hl hc' (by omega) (by omega) (by simp only[Nat.zero_add]at hb;omega);simp only[Nat.zero_add]at hg hgm hmax;refine⟨_,_,_,_,hrun,by simp,?_,updn _,fun i hi=>?_⟩
    ·have:=grown (grownCap w m 0 e) (by omega) hgm;simpa using this
    ·obtain⟨a,ha,rfl⟩:=hi;simp only[Option.some.injEq]at ha;subst ha
     exact .inr (Nat.le_refl _)
   | some a=>
    have hcells:=h.cells
    have holds:∀j u,cs[j]?=some u->w.cell? (a.add j)=some u:=by
     intro j u hj;obtain⟨a',ha,hc⟩:=hcells j u hj;obtain rfl:=Option.some.inj ha;exact hc
    have hrun:=run_append_grow (P:=P) w t ty e i zv hu hi hzv a n c cs l1 holds aq m d news hl hc' (by omega) (by omega) (growslice_fits (by omega) hb);refine⟨_,_,_,_,hrun,rfl,grown _ hg hgm,updn _,fun i hi=>?_⟩;obtain⟨a,ha,rfl⟩:=hi;simp only[Option.some.injEq]at ha;subst ha;exact .inr (Nat.le_refl _)
theorem wT {P:Program} {t e:TypeId} {sz bytes:Nat} {z:List Value} (ht:dH P t e sz bytes z) {w:World} {p:Option Addr} {n c:Nat} {cs:List Value} (h:Sl w e sz p n c cs)
  {q:Option Addr} {m d:Nat} {news:List Value} (hq:Cells w q news) (hl:news.length=m*sz) (h1:∀u∈news,u.oneCell'=true) (hqn:q=none->d=0) (hb:(n+m)*bytes<=140737488355328) (hn:n+m<=140737488355328) (ty:TypeId) :
  ∃p' n' c' w',(Builtin.append_ #[t,t] ty #[.slice p n c,.slice q m d]).run P w=.ok (.slice p' n' c') w'/\n'=n+m/\Sl w' e sz p' (n+m) c' (cs++news)/\af (aL p) w w'/\
   (∀i,aL p' i->aL p i∨w.heap.size<=i):=afq ht h hq hl h1 hb hn ty
theorem aD {x:Int} (h : -9223372036854775808<=x/\x<=9223372036854775807):IntKind.wrap .i64 x=x:=by
 unfold IntKind.wrap;simp only[IntKind.bits,IntKind.signed,Bool.true_and];split<;>simp_all<;>omega
theorem get_map {α:Type} {f:α->Value} {l:List α} {i:Nat} (h:i<l.length):(l.map f)[i]?=some (f l[i]):=by simp[h]
theorem Cells.bC {w:World} {p:Option Addr} {α:Type} {f:α->Value} {l:List α} (h:Cells w p (l.map f)) {i:Nat} (hi:i<l.length):∃a,p=some a/\w.cell? (a.add (i*1))=some (f l[i]):=by
 rw[Nat.mul_one];exact h i _ (get_map hi)
theorem Cells.ae {w w':World} {p:Option Addr} {cs:List Value} (h:Cells w p cs) (k:∀a,p=some a->w'.heap[a.block]?=w.heap[a.block]?):Cells w' p cs:=by
 intro j v hj;obtain⟨a,ha,hc⟩:=h j v hj;refine⟨a,ha,?_⟩;rw[<-hc];have hb:(a.add j).block=a.block:=by unfold Addr.add;split<;>rfl
 refine World.cell?_of_block ?_;rw[hb];exact k a ha
theorem ou {w:World} {a:Addr} {v:Value} (h:w.cell? a=some v):a.block<w.heap.size:=by
 unfold World.cell? at h;split at h
 ·exact oX (by assumption)
 ·cases h
theorem vg (a:Addr) (j:Nat):(a.add j).block=a.block:=by unfold Addr.add;split<;>rfl
theorem Cells.j6 {F:Nat->Prop} {w w':World} {p:Option Addr} {cs:List Value} (h:Cells w p cs) (k:af F w w') (hF:∀i,i<w.heap.size->¬F i):Cells w' p cs:=by
 intro j v hj;obtain⟨a,ha,hc⟩:=h j v hj;refine⟨a,ha,?_⟩;have hl:=ou hc;rw[<-hc];exact World.cell?_of_block (k.ai _ hl (hF _ hl))
theorem Cells.no {w w':World} {p:Option Addr} {cs:List Value} (h:Cells w p cs) (k:af no w w'):Cells w' p cs:=h.j6 k (fun _ _=>id)
theorem td {α:Type} {f:α->List Value} {sz:Nat} (hf:∀x,(f x).length=sz):∀{l:List α} {i j:Nat} {v:Value} (hi:i<l.length),(f l[i])[j]?=some v->(l.flatMap f)[i*sz+j]?=some v
 | x::l,0,j,v,_,h=>by
  have hj:j<(f x).length:=(List.getElem?_eq_some_iff.1 h).1;simp only[List.flatMap_cons,Nat.zero_mul,Nat.zero_add];rw[List.getElem?_append_left hj]
  exact h
 | x::l,i+1,j,v,hi,h=>by
  simp only[List.flatMap_cons];rw[List.getElem?_append_right (by rw[hf,Nat.add_mul,Nat.one_mul];omega),hf,Nat.add_mul,Nat.one_mul,show i*sz+sz+j-sz=i*sz+j by omega];exact td hf (by simpa using hi) h
theorem Cells.vm {w:World} {p:Option Addr} {α:Type} {f:α->List Value} {l:List α} {sz:Nat} (h:Cells w p (l.flatMap f)) (hf:∀x,(f x).length=sz) (hs:0<sz) {i:Nat} (hi:i<l.length) :
  ∃a,p=some a/\∀(j:Nat) v,(f l[i])[j]?=some v->w.cell? ((a.add (i*sz)).add j)=some v:=by
 obtain⟨v0,hv0⟩:∃v,(f l[i])[0]?=some v:=⟨(f l[i])[0]'(by rw[hf];exact hs),by simp[hf,hs]⟩;obtain⟨a,rfl,_⟩:=h _ v0 (td hf hi hv0);refine⟨a,rfl,fun j v hj=>?_⟩;obtain⟨a',ha,hc⟩:=h _ v (td hf hi hj);obtain rfl:=Option.some.inj ha;rw[Addr.add_add];exact hc
structure Loc (W w:World) (T:TypeId) (p:Option Addr) (c:Nat) (l:List Int):Prop where
 U:af no W w
 S:Sl w T 1 p l.length c (l.map (Value.int .i64))
 F:∀i,aL p i->W.heap.size<=i
section
variable {W w w':World} {T:TypeId} {p:Option Addr} {c:Nat} {l:List Int}
theorem Loc.nil (h:af no W w) (T:TypeId):Loc W w T none 0 []:=⟨h,Sl.nil _ _ _,fun i ⟨a,ha,_⟩=>by cases ha⟩
theorem Loc.ae (h:Loc W w T p c l) (k:af no w w'):Loc W w' T p c l:=⟨h.U.trans k (fun _ _ h=>h),h.S.ae k (fun _ _ h=>h),h.F⟩
theorem LI {P:Program} {t e:TypeId} {z:List Value} (he:dH P t e 1 8 z) {w w1:World} {p:Option Addr} {c:Nat} {l:List Int} {x:Int} (h:Sl w e 1 p l.length c (l.map (Value.int .i64))) (hb:l.length<=1048576)
  {T:TypeId} (hN:cH w w1 (.cells (List.toArray [Value.int .i64 x]) T (0,0))) (ty:TypeId) :
  ∃p' n' c' w2,(Builtin.append_ #[t,t] ty #[.slice p l.length c,.slice (some ⟨w.heap.size,0,none⟩) 1 1]).run P w1=.ok (.slice p' n' c') w2/\n'=(l++[x]).length/\
   Sl w2 e 1 p' (l++[x]).length c' ((l++[x]).map (Value.int .i64))/\af (aL p) w w2/\(∀i,aL p' i->aL p i∨w.heap.size<=i):=by
 have h1:Sl w1 e 1 p l.length c (l.map (Value.int .i64)):=h.ae (hN.ae no) (fun _ _ hn=>hn);have hN':Sl w1 T 1 (some ⟨w.heap.size,0,none⟩) 1 1 [.int .i64 x]:=Sl.new hN (by simp) (by unfold maxLen;omega);obtain⟨p',n',c',w2,hr,hn,hS,hU,hF⟩:=wT he h1 hN'.cells (m:=1) (d:=1) (by simp) (by simp[Value.oneCell']) (by simp) (by omega) (by omega) ty;refine⟨p',n',c',w2,hr,by simp[hn],by simpa using hS,(hN.ae _).trans hU (fun i _ hi=>hi),fun i hi=>(hF i hi).imp id (fun h=>?_)⟩;rw[hN.size]at h;omega
theorem Loc.push {P:Program} {t:TypeId} {z:List Value} (h:Loc W w T p c l) (he:dH P t T 1 8 z) (hb:l.length<=1048576) {x:Int} {w1:World} {T':TypeId} (hN:cH w w1 (.cells (List.toArray [Value.int .i64 x]) T' (0,0))) (ty:TypeId) :
  ∃p' c' w2,(Builtin.append_ #[t,t] ty #[.slice p l.length c,.slice (some ⟨w.heap.size,0,none⟩) 1 1]).run P w1=.ok (.slice p' (l++[x]).length c') w2/\Loc W w2 T p' c' (l++[x]):=by
 obtain⟨p',n',c',w2,hr,hn,hS,hU,hF⟩:=LI he h.S hb hN ty;subst hn;refine⟨p',c',w2,hr,h.U.trans hU (fun i hi hf=>absurd (h.F i hf) (by omega)),hS,fun i hi=>?_⟩;rcases hF i hi with k|k
 ·exact h.F i k
 ·exact Nat.le_trans h.U.size k
end
end Go.Dav
namespace Go.Dav
abbrev BV:=BitVec 64
def mi (m:BV):Int:=(m.toNat:Int)
def bt (c:Int):BV:=if 0<=c/\c<64 then BitVec.twoPow 64 c.toNat else 0
def hs (m:BV) (c:Int):Bool:=decide (0<=c/\c<64)&&m.getLsbD c.toNat
def wi (m:BV) (c:Int):BV:=m||| bt c
def ls (m:BV) (c:Int):BV:=m&&& ~~~ bt c
theorem adv (m:BV):0<=mi m:=by unfold mi;omega
theorem adu (m:BV):mi m<18446744073709551616:=by unfold mi;have:=m.isLt;omega
theorem Vp {a b:BV}:mi a=mi b↔a=b:=by
 unfold mi;rw[Int.ofNat_inj];exact BitVec.toNat_inj
theorem adt (a b:BV):(mi a==mi b)=(a==b):=by
 rw[Bool.eq_iff_iff];simp[Vp]
theorem adw:mi 0=0:=rfl
theorem jA (a:BV):(mi a==0)=(a==0):=by rw[<-adw,adt]
theorem rD (a:BV):(mi a !=0) = !(a==0):=by rw[bne,jA]
theorem of_wf {n:Int} (h:(Lit.int .u64 n).wf=true):∃m:BV,n=mi m:=by
 have:0<=n/\n<=18446744073709551615:=by simpa [Lit.wf,IntKind.min,IntKind.max,IntKind.signed,IntKind.bits]using h
 refine⟨BitVec.ofInt 64 n,?_⟩;unfold mi;rw[BitVec.toNat_ofInt];omega
theorem xn {x:Int} (h:0<=x/\x<=18446744073709551615):IntKind.wrap .u64 x=x:=by
 have e:(2 ^ IntKind.u64.bits:Int)=18446744073709551616:=by decide
 unfold IntKind.wrap;simp only[e,IntKind.signed,Bool.false_and];simp;omega
theorem XU (x:Int):IntKind.wrap .u64 x=x%18446744073709551616:=by
 have e:(2 ^ IntKind.u64.bits:Int)=18446744073709551616:=by decide
 unfold IntKind.wrap;simp only[e,IntKind.signed,Bool.false_and];simp
theorem qi (m:BV):BitVec.ofInt 64 (mi m)=m:=by
 unfold mi;apply BitVec.eq_of_toNat_eq;rw[BitVec.toNat_ofInt];have:=m.isLt;omega
theorem Bw (m:BV):IntKind.wrap .u64 (m.toNat:Int)=mi m:=by
 rw[xn (by have:=m.isLt;omega)];rfl
theorem sv (a b:BV):aw .and .u64 (mi a) (mi b)=mi (a&&& b):=by
 show IntKind.wrap .u64 ((BitVec.ofInt 64 (mi a)&&& BitVec.ofInt 64 (mi b)).toNat:Int)=_;rw[qi,qi,Bw]
theorem LV (a b:BV):aw .or .u64 (mi a) (mi b)=mi (a||| b):=by
 show IntKind.wrap .u64 ((BitVec.ofInt 64 (mi a)||| BitVec.ofInt 64 (mi b)).toNat:Int)=_;rw[qi,qi,Bw]
theorem vq (a b:BV):aw .andNot .u64 (mi a) (mi b)=mi (a&&& ~~~ b):=by
 show IntKind.wrap .u64 ((BitVec.ofInt 64 (mi a)&&& ~~~ BitVec.ofInt 64 (mi b)).toNat:Int)=_;rw[qi,qi,Bw]
theorem YG (a b:BV):aw .xor .u64 (mi a) (mi b)=mi (a ^^^ b):=by
 show IntKind.wrap .u64 ((BitVec.ofInt 64 (mi a) ^^^ BitVec.ofInt 64 (mi b)).toNat:Int)=_;rw[qi,qi,Bw]
theorem BW {c:Int} (h:0<=c/\c<64):bt c=BitVec.twoPow 64 c.toNat:=if_pos h
theorem BX {c:Int} (h:¬(0<=c/\c<64)):bt c=0:=if_neg h
theorem Vo {c:Int} (h:0<=c/\c<64):mi (bt c)=2 ^ c.toNat:=by
 have h2:(2:Nat) ^ c.toNat<2 ^ 64:=Nat.pow_lt_pow_right (by omega) (by omega);rw[BW h,mi,BitVec.toNat_twoPow,Nat.mod_eq_of_lt h2];simp
theorem Fu {c:Int} (h:0<=c/\c<64):dq .u64 1 c=mi (bt c):=by
 have h2:(2:Nat) ^ c.toNat<2 ^ 64:=Nat.pow_lt_pow_right (by omega) (by omega);rw[Vo h];unfold dq;have:min c.toNat IntKind.u64.bits=c.toNat:=Nat.min_eq_left (by show c.toNat<=64;omega);rw[this,Int.one_mul,xn];have e:((2:Int) ^ c.toNat)=((2 ^ c.toNat:Nat):Int):=by simp
 rw[e];generalize 2 ^ c.toNat=x at h2;omega
theorem abm {c:Int} (h:0<=c/\c<64) (i:Nat):(bt c).getLsbD i=decide (i=c.toNat):=by
 rw[BW h,BitVec.getLsbD_twoPow];by_cases hi:i=c.toNat
 ·subst hi;simp;omega
 ·simp[hi,eq_comm]
theorem s9 {a b:BV} (h:∀c:Int,0<=c->c<64->hs a c=hs b c):a=b:=by
 apply BitVec.eq_of_getLsbD_eq;intro i hi;have:=h i (by omega) (by omega);have hd:decide (0<=(i:Int)/\(i:Int)<64)=true:=decide_eq_true ⟨by omega,by omega⟩;unfold hs at this;rw[hd]at this;simpa using this
theorem gP {m:BV} {c:Int} (h:hs m c=true):0<=c/\c<64:=by
 unfold hs at h;rw[Bool.and_eq_true,decide_eq_true_iff]at h;exact h.1
theorem gu (c:Int):hs 0 c=false:=by unfold hs;simp
theorem ru (a b:BV) (c:Int):hs (a&&& b) c=(hs a c&&hs b c):=by
 unfold hs;rw[BitVec.getLsbD_and];cases decide (0<=c/\c<64)<;>simp
theorem zM (a b:BV) (c:Int):hs (a||| b) c=(hs a c||hs b c):=by
 unfold hs;rw[BitVec.getLsbD_or];cases decide (0<=c/\c<64)<;>simp
theorem lL (a b:BV) (c:Int):hs (a&&& ~~~ b) c=(hs a c&&!hs b c):=by
 unfold hs;rw[BitVec.getLsbD_and,BitVec.getLsbD_not];by_cases h:0<=c/\c<64
 ·have:c.toNat<64:=by omega
  simp[h,this]
 ·simp[h]
theorem rv (c d:Int):hs (bt c) d=(decide (0<=c/\c<64)&&decide (d=c)):=by
 by_cases h:0<=c/\c<64
 ·unfold hs;rw[abm h,Bool.eq_iff_iff];simp only[Bool.and_eq_true,decide_eq_true_iff];omega
 ·rw[BX h,gu];simp[h]
theorem kT (m:BV) (c d:Int):hs (wi m c) d=(hs m d||(decide (0<=c/\c<64)&&decide (d=c))):=by rw[wi,zM,rv]
theorem eu (m:BV) (c d:Int):hs (ls m c) d=(hs m d&&!(decide (d=c))):=by
 rw[ls,lL,rv];by_cases hd:d=c
 ·subst hd;by_cases h:0<=d/\d<64
  ·simp[h]
  ·have:hs m d=false:=by unfold hs;simp[h]
   simp[this]
 ·simp[hd]
theorem DC {m:BV} (h:∀c,hs m c=false):m=0:=s9 fun c _ _=>by rw[h,gu]
theorem LG (m:BV) (c:Int):(!((m&&& bt c)==0))=hs m c:=by
 cases hh:hs m c with
 | true=>
  have:m&&& bt c≠0:=fun e=>by
   have h1:hs (m&&& bt c) c=true:=by rw[ru,rv,hh];simp[gP hh]
   rw[e,gu]at h1;cases h1
  rw[beq_false_of_ne this]
  rfl
 | false=>
  have:m&&& bt c=0:=DC fun d=>by
   rw[ru,rv];by_cases hd:d=c
   ·subst hd;simp[hh]
   ·simp[hd]
  rw[this];rfl
def aV (p:Int->Bool) (n:Nat):List Int:=((List.range n).map (fun(i:Nat)=>(i:Int))).filter p
theorem uz (p:Int->Bool) (n:Nat):aV p (n+1)=if p n then aV p n++[(n:Int)]else aV p n:=by
 unfold aV;rw[List.range_succ,List.map_append,List.filter_append];cases h:p n<;>simp[h]
theorem dT {p:Int->Bool} {n:Nat} {c:Int}:c∈aV p n↔0<=c/\c<n/\p c=true:=by
 unfold aV;rw[List.mem_filter,List.mem_map];constructor
 ·rintro⟨⟨a,ha,rfl⟩,hp⟩;rw[List.mem_range]at ha;exact⟨by omega,by omega,hp⟩
 ·rintro⟨h1,h2,hp⟩;exact⟨⟨c.toNat,List.mem_range.2 (by omega),by omega⟩,hp⟩
theorem qz (p:Int->Bool) (n:Nat):(aV p n).length<=n:=by
 unfold aV;exact Nat.le_trans (List.length_filter_le ..) (by simp)
theorem abV {m:BV} {c:Int} (h:¬(0<=c/\c<64)):hs m c=false:=by unfold hs;simp[h]
def aQ (n:Int):BV:=BitVec.ofNat 64 (2 ^ (min n.toNat 64)-1)
theorem tj (n c:Int):hs (aQ n) c=(decide (0<=c/\c<64)&&decide (c<n)):=by
 unfold hs aQ;rw[BitVec.getLsbD_ofNat,Nat.testBit_two_pow_sub_one];by_cases h:0<=c/\c<64
 ·have:c.toNat<64:=by omega
  simp only[h,this,and_self,decide_true,Bool.true_and];rw[Bool.eq_iff_iff];simp only[decide_eq_true_iff];omega
 ·simp[h]
theorem Et (n:Int):mi (aQ n)=2 ^ (min n.toNat 64)-1:=by
 have h2:0<(2:Nat) ^ (min n.toNat 64):=Nat.pow_pos (by omega);have h3:(2:Nat) ^ (min n.toNat 64)<=2 ^ 64:=Nat.pow_le_pow_right (by omega) (by omega);have e:((2:Int) ^ (min n.toNat 64))=((2 ^ (min n.toNat 64):Nat):Int):=by simp
 unfold mi aQ;rw[BitVec.toNat_ofNat,e];generalize (2:Nat) ^ (min n.toNat 64)=x at *;rw[Nat.mod_eq_of_lt (by omega)];omega
def jF (n:Int) (m:BV):Bool:=!(m==0)&&((m&&& ~~~ aQ n)==0)
def recIIIUI (x:Int×Int×Int×BV×Int):List Value:=[.int .i64 x.1,.int .i64 x.2.1,.int .i64 x.2.2.1,.int .u64 (mi x.2.2.2.1),.int .i64 x.2.2.2.2]
def okIIIUI (x:Int×Int×Int×BV×Int):Prop:=(Lit.int .i64 x.1).wf=true/\(Lit.int .i64 x.2.1).wf=true/\(Lit.int .i64 x.2.2.1).wf=true/\(Lit.int .i64 x.2.2.2.2).wf=true
theorem recIIIUI_len (x:Int×Int×Int×BV×Int):(recIIIUI x).length=5:=rfl
end Go.Dav
namespace Go.Dav
open Go.Proofs
theorem Dy:dH Tryz.prog 36 3 1 8 [I 0]:=⟨by kernel_rfl,by kernel_rfl,rfl,by omega⟩
theorem Al (c:Int) (w:World):Cx 60 #[I c] w fun e w'=>e=Z (.int .u64 (mi (bt c)))/\w'=w:=by
 refine u60 ?_;rw[t60];refine⟨fun h0=>⟨fun h1=>⟨?_,rfl⟩,fun h1=>⟨by simpa using h0,?_,rfl⟩⟩,fun h0=>⟨?_,rfl⟩⟩
 ·rw[BX (by simp at h1;omega)];rfl
 ·rw[Fu (by simp at h0 h1;omega)]
 ·rw[BX (by simp at h0;omega)];rfl
theorem iR (m:BV) (c:Int) (w:World):Cx 23 #[.int .u64 (mi m),I c] w fun e w'=>e=Z (.bool (hs m c))/\w'=w:=by
 refine u23 ?_;rw[t23];refine⟨(Al c w).mono ?_⟩;rintro e w' ⟨rfl,rfl⟩;exact⟨_,rfl,by rw[sv,rD,LG],rfl⟩
theorem adm (m o:BV) (w:World):Cx 353 #[.int .u64 (mi m),.int .u64 (mi o)] w fun e w'=>e=Z (.int .u64 (mi (m&&& ~~~ o)))/\w'=w:=by
 refine alJ ?_;rw[t353,vq];exact⟨rfl,rfl⟩
theorem Aj (m o:BV) (w:World):Cx 318 #[.int .u64 (mi m),.int .u64 (mi o)] w fun e w'=>e=Z (.int .u64 (mi (m&&& o)))/\w'=w:=by
 refine ali ?_;rw[t318,sv];exact⟨rfl,rfl⟩
theorem Ak (m:BV) (c:Int) (w:World):Cx 158 #[.int .u64 (mi m),I c] w fun e w'=>e=Z (.int .u64 (mi (ls m c)))/\w'=w:=by
 refine ajg ?_;rw[t158];refine⟨(Al c w).mono ?_⟩;rintro e w' ⟨rfl,rfl⟩;exact⟨_,rfl,by rw[vq,ls],rfl⟩
theorem abb {l:List Int} {i:Nat} (h:i<l.length) (m:BV):(l.take (i+1)).foldl wi m=wi ((l.take i).foldl wi m) l[i]:=by
 rw[List.take_succ_eq_append_getElem h,List.foldl_append];rfl
theorem oZ (m:BV) {w:World} {p:Option Addr} {l:List Int} {c:Nat} (h:Cells w p (l.map (Value.int .i64))) (hb:l.length<=140737488355328) :
  Cx 179 #[.int .u64 (mi m),.slice p l.length c] w fun e w'=>e=Z (.int .u64 (mi (l.foldl wi m)))/\w'=w:=by
 refine ajw ?_;rw[t179];refine⟨bA bf (M:=uM) (σ:=Nat) (fun i=>CW (mi ((l.take i).foldl wi m)) p l.length c l.length i) (fun i w'=>i<=l.length/\w'=w) (fun i _=>l.length-i) 0 ⟨rfl,rfl,rfl,rfl,trivial⟩ ⟨by omega,rfl⟩ ?_⟩;rintro i w' ⟨h1,rfl⟩;rw[agy];refine⟨fun hlt=>?_,fun hge=>⟨?_,rfl⟩⟩
 ·have hi:i<l.length:=by simpa using hlt
  obtain⟨a,rfl,hc⟩:=h.bC hi;refine⟨⟨by omega,by omega⟩,a,rfl,l[i],by simpa using hc,⟨(Al _ w').mono ?_⟩⟩;rintro e w' ⟨rfl,rfl⟩;exact⟨_,rfl,i+1,⟨by rw[abb hi,LV,wi];rfl,rfl,rfl,by rw[aD (by omega)];rfl,trivial⟩,⟨by omega,rfl⟩,by omega⟩
 ·have:i=l.length:=by simp at hge;omega
  subst this;rw[List.take_length]
theorem tI (n:Int) (w:World):Cx 11 #[I n] w fun e w'=>e=Z (.int .u64 (mi (aQ n)))/\w'=w:=by
 refine u11 ?_;rw[t11];refine⟨fun h0=>⟨?_,rfl⟩,fun h0=>⟨fun h1=>⟨?_,rfl⟩,fun h1=>⟨(Al n w).mono ?_⟩⟩⟩
 ·have h0:n<=0:=by simpa using h0
  rw[Et,show min n.toNat 64=0 by omega];rfl
 ·have h1:64<=n:=by simpa using h1
  rw[Et,show min n.toNat 64=64 by omega];rfl
 ·have h0:¬n<=0:=by simpa using h0
  have h1:¬64<=n:=by simpa using h1
  rintro e w' ⟨rfl,rfl⟩;refine⟨_,rfl,?_,rfl⟩;have:=adv (aQ n);have:=adu (aQ n);have e1:mi (bt n)-1=mi (aQ n):=by rw[Vo (by omega),Et,show min n.toNat 64=n.toNat by omega]
  rw[e1,xn (by omega)]
theorem Vf (m o:BV) (w:World):Cx 277 #[.int .u64 (mi m),.int .u64 (mi o)] w fun e w'=>e=Z (.bool ((m&&& ~~~ o)==0))/\w'=w:=by
 refine akQ ?_;rw[t277,vq,jA];exact⟨rfl,rfl⟩
end Go.Dav
namespace Go.Dav
abbrev Fp:=Nat->Prop
abbrev Ob (σ:Type):=World->Fp->σ->Prop
class Frame {σ:Type} (A:Ob σ):Prop where
 ae:∀{w w':World} {F G:Fp} {s:σ},A w F s->af G w w'->(∀i,F i->¬G i)->A w' F s
 lt:∀{w:World} {F:Fp} {s:σ},A w F s->∀i,F i->i<w.heap.size
def aa {σ:Type} (A:Ob σ) (w w':World) (F:Fp) (s':σ):Prop:=∃F',A w' F' s'/\af F w w'/\∀i,F' i->F i∨w.heap.size<=i
def bh {σ:Type} (W w:World) (A:Ob σ) (s:σ):Prop:=∃F,A w F s/\af no W w/\∀i,F i->W.heap.size<=i
def au {σ τ:Type} (A:Ob σ) (B:Ob τ):Ob (σ×τ):=fun w F x=>∃F1 F2,A w F1 x.1/\B w F2 x.2/\(∀i,F i↔F1 i∨F2 i)/\∀i,F1 i->¬F2 i
instance Frame.star {σ τ:Type} {A:Ob σ} {B:Ob τ} [fa:Frame A] [fb:Frame B]:Frame (au A B) where
 ae:=by
  rintro w w' F G s ⟨F1,F2,h1,h2,h3,h4⟩ k hG;exact⟨F1,F2,fa.ae h1 k (fun i hi=>hG i ((h3 i).2 (.inl hi))),fb.ae h2 k (fun i hi=>hG i ((h3 i).2 (.inr hi))),h3,h4⟩
 lt:=by
  rintro w F s ⟨F1,F2,h1,h2,h3,h4⟩ i hi;rcases(h3 i).1 hi with hi|hi
  ·exact fa.lt h1 i hi
  ·exact fb.lt h2 i hi
section
variable {σ τ:Type} {A:Ob σ} {B:Ob τ} {W w w':World} {F:Fp} {s s':σ} {t:τ}
theorem aa.same (h:A w F s):aa A w w F s:=⟨F,h,af.refl _ _,fun _ hi=>.inl hi⟩
theorem aa.quiet [fa:Frame A] (h:A w F s) (k:af no w w'):aa A w w' F s:=⟨F,fa.ae h k (fun _ _ h=>h),k.mono (fun _ _ h=>h.elim),fun _ hi=>.inl hi⟩
theorem au.left [fb:Frame B] {x:σ×τ} (h:au A B w F x):∃F1,A w F1 x.1/\∀w' s',aa A w w' F1 s'->aa (au A B) w w' F (s',x.2):=by
 obtain⟨F1,F2,h1,h2,h3,h4⟩:=h;refine⟨F1,h1,?_⟩;rintro w' s' ⟨F',k1,k2,k3⟩;refine⟨fun i=>F' i∨F2 i,⟨F',F2,k1,fb.ae h2 k2 (fun i hi hf=>h4 i hf hi),fun _=>Iff.rfl,fun i hi hf=>?_⟩,k2.mono (fun i _ hi=>(h3 i).2 (.inl hi)),fun i hi=>?_⟩
 ·rcases k3 i hi with h|h
  ·exact h4 i h hf
  ·have:=fb.lt h2 i hf;omega
 ·rcases hi with hi|hi
  ·exact(k3 i hi).imp (fun h=>(h3 i).2 (.inl h)) id
  ·exact .inl ((h3 i).2 (.inr hi))
theorem au.swap {x:σ×τ} (h:au A B w F x):au B A w F (x.2,x.1):=by
 obtain⟨F1,F2,h1,h2,h3,h4⟩:=h;exact⟨F2,F1,h2,h1,fun i=>(h3 i).trans Or.comm,fun i hi hf=>h4 i hf hi⟩
theorem aa.swap {x:σ×τ} (h:aa (au A B) w w' F x):aa (au B A) w w' F (x.2,x.1):=by
 obtain⟨F',h1,h2⟩:=h;exact⟨F',h1.swap,h2⟩
theorem au.right [fa:Frame A] {x:σ×τ} (h:au A B w F x):∃F2,B w F2 x.2/\∀w' t',aa B w w' F2 t'->aa (au A B) w w' F (x.1,t'):=by
 obtain⟨F2,h1,h2⟩:=h.swap.left;exact⟨F2,h1,fun w' t' k=>(h2 w' t' k).swap⟩
theorem bh.bI (h:bh W w A s):∃F,A w F s/\∀w' s',aa A w w' F s'->bh W w' A s':=by
 obtain⟨F,h1,h2,h3⟩:=h;refine⟨F,h1,?_⟩;rintro w' s' ⟨F',k1,k2,k3⟩;refine⟨F',k1,h2.trans k2 (fun i hi hf=>absurd (h3 i hf) (by omega)),fun i hi=>?_⟩;rcases k3 i hi with h|h
 ·exact h3 i h
 ·exact Nat.le_trans h2.size h
theorem bh.ae [fa:Frame A] (h:bh W w A s) (k:af no w w'):bh W w' A s:=by
 obtain⟨F,h1,h2⟩:=h.bI;exact h2 _ _ (aa.quiet h1 k)
theorem bh.left [fb:Frame B] {x:σ×τ} (h:bh W w (au A B) x):∃F1,A w F1 x.1/\∀w' s',aa A w w' F1 s'->bh W w' (au A B) (s',x.2):=by
 obtain⟨F,h1,h2⟩:=h.bI;obtain⟨F1,k1,k2⟩:=h1.left;exact⟨F1,k1,fun w' s' k=>h2 _ _ (k2 w' s' k)⟩
theorem bh.right [fa:Frame A] {x:σ×τ} (h:bh W w (au A B) x):∃F2,B w F2 x.2/\∀w' t',aa B w w' F2 t'->bh W w' (au A B) (x.1,t'):=by
 obtain⟨F,h1,h2⟩:=h.bI;obtain⟨F1,k1,k2⟩:=h1.right;exact⟨F1,k1,fun w' s' k=>h2 _ _ (k2 w' s' k)⟩
section
variable {F0:Fp}
theorem aa.bI (h:aa A W w F0 s):∃F,A w F s/\∀w' s',aa A w w' F s'->aa A W w' F0 s':=by
 obtain⟨F,h1,h2,h3⟩:=h;refine⟨F,h1,?_⟩;rintro w' s' ⟨F',k1,k2,k3⟩;refine⟨F',k1,h2.trans k2 (fun i hi hf=>(h3 i hf).elim id (fun h=>absurd h (by omega))),fun i hi=>?_⟩;rcases k3 i hi with h|h
 ·exact h3 i h
 ·exact .inr (Nat.le_trans h2.size h)
theorem aa.ae [fa:Frame A] (h:aa A W w F0 s) (k:af no w w'):aa A W w' F0 s:=by
 obtain⟨F,h1,h2⟩:=h.bI;exact h2 _ _ (aa.quiet h1 k)
theorem aa.left [fb:Frame B] {x:σ×τ} (h:aa (au A B) W w F0 x):∃F1,A w F1 x.1/\∀w' s',aa A w w' F1 s'->aa (au A B) W w' F0 (s',x.2):=by
 obtain⟨F,h1,h2⟩:=h.bI;obtain⟨F1,k1,k2⟩:=h1.left;exact⟨F1,k1,fun w' s' k=>h2 _ _ (k2 w' s' k)⟩
theorem aa.right [fa:Frame A] {x:σ×τ} (h:aa (au A B) W w F0 x):∃F2,B w F2 x.2/\∀w' t',aa B w w' F2 t'->aa (au A B) W w' F0 (x.1,t'):=by
 obtain⟨F,h1,h2⟩:=h.bI;obtain⟨F1,k1,k2⟩:=h1.right;exact⟨F1,k1,fun w' s' k=>h2 _ _ (k2 w' s' k)⟩
theorem aa.ll {υ:Type} {C:Ob υ} [Frame B] [Frame C] {x:(σ×τ)×υ} (h:aa (au (au A B) C) W w F0 x) [Frame A]:∃F1,A w F1 x.1.1/\∀w' s',aa A w w' F1 s'->aa (au (au A B) C) W w' F0 ((s',x.1.2),x.2):=by
 obtain⟨F,h1,h2⟩:=h.left;obtain⟨F1,k1,k2⟩:=h1.left;exact⟨F1,k1,fun w' s' k=>h2 _ _ (k2 w' s' k)⟩
theorem aa.lr {υ:Type} {C:Ob υ} [Frame A] [Frame B] [Frame C] {x:(σ×τ)×υ} (h:aa (au (au A B) C) W w F0 x):∃F1,B w F1 x.1.2/\∀w' t',aa B w w' F1 t'->aa (au (au A B) C) W w' F0 ((x.1.1,t'),x.2):=by
 obtain⟨F,h1,h2⟩:=h.left;obtain⟨F1,k1,k2⟩:=h1.right;exact⟨F1,k1,fun w' s' k=>h2 _ _ (k2 w' s' k)⟩
theorem aa.drop {x:σ×τ} (h:aa (au A B) W w F0 x):aa A W w F0 x.1:=by
 obtain⟨F,⟨F1,F2,h1,h2,h3,h4⟩,k1,k2⟩:=h;exact⟨F1,h1,k1,fun i hi=>k2 i ((h3 i).2 (.inl hi))⟩
theorem aa.add [fa:Frame A] (h:aa A W w F0 s) (k:af no w w') {G:Fp} (hB:B w' G t) (hG:∀i,G i->w.heap.size<=i):aa (au A B) W w' F0 (s,t):=by
 obtain⟨F,h1,h2,h3⟩:=h;refine⟨fun i=>F i∨G i,⟨F,G,fa.ae h1 k (fun _ _ h=>h),hB,fun _=>Iff.rfl,fun i hi hf=>?_⟩,h2.trans k (fun _ _ h=>h.elim),fun i hi=>?_⟩
 ·have:=fa.lt h1 i hi;have:=hG i hf;omega
 ·rcases hi with hi|hi
  ·exact h3 i hi
  ·exact .inr (Nat.le_trans h2.size (hG i hi))
end
theorem bh.new (h:af no W w) (k:af no w w') {G:Fp} (hB:B w' G t) (hG:∀i,G i->w.heap.size<=i):bh W w' B t:=
 ⟨G,hB,h.trans k (fun _ _ h=>h),fun i hi=>Nat.le_trans h.size (hG i hi)⟩
theorem bh.add [fa:Frame A] (h:bh W w A s) (k:af no w w') {G:Fp} (hB:B w' G t) (hG:∀i,G i->w.heap.size<=i):bh W w' (au A B) (s,t):=by
 obtain⟨F,h1,h2,h3⟩:=h;refine⟨fun i=>F i∨G i,⟨F,G,fa.ae h1 k (fun _ _ h=>h),hB,fun _=>Iff.rfl,fun i hi hf=>?_⟩,h2.trans k (fun _ _ h=>h),fun i hi=>?_⟩
 ·have:=fa.lt h1 i hi;have:=hG i hf;omega
 ·rcases hi with hi|hi
  ·exact h3 i hi
  ·exact Nat.le_trans h2.size (hG i hi)
end
def Rw {σ:Type} (b:Nat) (T:TypeId) (enc:σ->List Value):Ob σ:=fun w F s=>(∀i,F i↔i=b)/\aE w b (enc s) T
instance Frame.rw {σ:Type} (b:Nat) (T:TypeId) (enc:σ->List Value):Frame (Rw b T enc) where
 ae:=fun⟨h1,h2⟩ k hG=>⟨h1,h2.ae k (hG _ ((h1 _).2 rfl))⟩
 lt:=fun⟨h1,h2⟩ i hi=>(h1 i).1 hi ▸ h2.lt
section
variable {σ:Type} {b:Nat} {T:TypeId} {enc:σ->List Value} {w w':World} {F:Fp} {s s':σ}
theorem Rw.ai (h:Rw b T enc w F s):aE w b (enc s) T:=h.2
theorem Rw.new {c:List Value} (h:cH w w' (.cells c.toArray T (0,0))) (he:enc s=c):Rw w.heap.size T enc w' (fun i=>i=w.heap.size) s:=⟨fun _=>Iff.rfl,he ▸ h.aF⟩
theorem Rw.dZ (h:Rw b T enc w F s) (k:af (fun i=>i=b) w w') (hb:aE w' b (enc s') T):aa (Rw b T enc) w w' F s':=
 ⟨F,⟨h.1,hb⟩,k.mono (fun i _ hi=>(h.1 i).2 hi),fun _ hi=>.inl hi⟩
theorem jk.U {w w':World} {b:Nat} {c:List Value} {T:TypeId} (h:jk w w' b c T):af (fun i=>i=b) w w':=h.ae rfl
theorem af.and {F:Fp} {w w1 w2:World} (h:af F w w1) (k:af F w1 w2):af F w w2:=h.trans k (fun _ _ h=>h)
end
def Ls (T:TypeId):Ob (Option Addr×Nat×List Int):=fun w F x=>(∀i,F i↔aL x.1 i)/\Sl w T 1 x.1 x.2.2.length x.2.1 (x.2.2.map (Value.int .i64))
instance Frame.ls (T:TypeId):Frame (Ls T) where
 ae:=fun⟨h1,h2⟩ k hG=>⟨h1,h2.ae k (fun i hi=>hG i ((h1 i).2 hi))⟩
 lt:=fun⟨h1,h2⟩ i hi=>h2.lt i ((h1 i).1 hi)
theorem Ls.nil (w:World) (T:TypeId):Ls T w (fun _=>False) (none,0,[]):=⟨fun i=>⟨fun h=>h.elim,fun⟨a,ha,_⟩=>by cases ha⟩,Sl.nil _ _ _⟩
theorem Ls.push {P:Program} {t T T':TypeId} {z:List Value} (he:dH P t T 1 8 z) {w w1:World} {F:Fp} {p:Option Addr} {c:Nat} {l:List Int} {x:Int} (h:Ls T w F (p,c,l)) (hb:l.length<=1048576)
  (hN:cH w w1 (.cells (List.toArray [Value.int .i64 x]) T' (0,0))) (ty:TypeId) :
  ∃p' c' w2,(Builtin.append_ #[t,t] ty #[.slice p l.length c,.slice (some ⟨w.heap.size,0,none⟩) 1 1]).run P w1=.ok (.slice p' (l++[x]).length c') w2/\aa (Ls T) w w2 F (p',c',l++[x]):=by
 obtain⟨p',n',c',w2,hr,hn,hS,hU,hF⟩:=LI he h.2 hb hN ty;subst hn;exact⟨p',c',w2,hr,aL p',⟨fun _=>Iff.rfl,hS⟩,hU.mono (fun i _ hi=>(h.1 i).2 hi),fun i hi=>(hF i hi).imp (fun k=>(h.1 i).2 k) id⟩
theorem Sl.wr {w:World} {T:TypeId} {sz n c:Nat} {a:Addr} {cs vs:List Value} {o:Nat} (h:Sl w T sz (some a) n c cs) (ho:o+vs.length<=n*sz) {K:World->Prop}
  (hK:∀w',Sl w' T sz (some a) n c (aI cs o vs)->af (aL (some a)) w w'->K w'):Wr w (a.add o) vs K:=by
 obtain⟨h1,h2,h3,cells,hb,hsp,hfit,htk⟩:=h;obtain⟨b,off,sp⟩:=a;simp only at hsp hb hfit htk;subst hsp;have hle:n*sz<=c*sz:=Nat.mul_le_mul_right _ h2;rw[add_lit];refine⟨⟨cells,T,hb,rfl,by show off+o+vs.length<=cells.length;omega,fun w' hW=>hK w' ?_ (hW.ae ⟨_,rfl,rfl⟩)⟩⟩;have hl:(aI cells (off+o) vs).length=cells.length:=ue (by omega);refine⟨by rw[ue (by omega),h1],h2,h3,_,hW.ai,rfl,by rw[hl];exact hfit,?_⟩;subst htk;have hlen:((cells.drop off).take (n*sz)).length=n*sz:=h1;apply List.ext_getElem?;intro j;unfold aI;simp only[List.getElem?_take,List.getElem?_drop,List.getElem?_append,List.length_append,List.length_take,List.length_drop]
 grind
def Hd {σ:Type} (b:Nat) (T E:TypeId) (sz:Nat) (enc:σ->Option Addr->Nat->List Value) (len:σ->Nat) (cont:σ->List Value):Ob (σ×Option Addr×Nat):=fun w F x=>
 aE w b (enc x.1 x.2.1 x.2.2) T/\Sl w E sz x.2.1 (len x.1) x.2.2 (cont x.1)/\¬aL x.2.1 b/\∀i,F i↔i=b∨aL x.2.1 i
instance Frame.hd {σ:Type} (b:Nat) (T E:TypeId) (sz:Nat) (enc:σ->Option Addr->Nat->List Value) (len:σ->Nat) (cont:σ->List Value):Frame (Hd b T E sz enc len cont) where
 ae:=fun⟨h1,h2,h3,h4⟩ k hG=>⟨h1.ae k (hG _ ((h4 _).2 (.inl rfl))),h2.ae k (fun i hi=>hG i ((h4 i).2 (.inr hi))),h3,h4⟩
 lt:=fun⟨h1,h2,h3,h4⟩ i hi=>by
  rcases(h4 i).1 hi with h|h
  ·exact h ▸ h1.lt
  ·exact h2.lt i h
section
variable {σ:Type} {b:Nat} {T E:TypeId} {sz:Nat} {enc:σ->Option Addr->Nat->List Value} {len:σ->Nat} {cont:σ->List Value} {w w1 w':World} {F:Fp} {s s':σ} {y:Option Addr×Nat}
theorem Hd.ai {x:σ×Option Addr×Nat} (h:Hd b T E sz enc len cont w F x):aE w b (enc x.1 x.2.1 x.2.2) T:=h.1
theorem Hd.sl {x:σ×Option Addr×Nat} (h:Hd b T E sz enc len cont w F x):Sl w E sz x.2.1 (len x.1) x.2.2 (cont x.1):=h.2.1
theorem Hd.nil {c:List Value} (h:cH w w' (.cells c.toArray T (0,0))) (he:enc s none 0=c) (hl:len s=0) (hc:cont s=[]):Hd w.heap.size T E sz enc len cont w' (fun i=>i=w.heap.size) (s,none,0):=
 ⟨he ▸ h.aF,by rw[hl,hc];exact Sl.nil _ _ _,fun⟨a,ha,_⟩=>(by cases ha),fun i=>⟨.inl,fun h=>h.elim id (fun⟨a,ha,_⟩=>by cases ha)⟩⟩
theorem Hd.put (h:Hd b T E sz enc len cont w F (s,y)) {p':Option Addr} {c':Nat} (hS:Sl w1 E sz p' (len s') c' (cont s')) (hU:af (aL y.1) w w1) (hp:∀i,aL p' i->aL y.1 i∨w.heap.size<=i)
  (hW:jk w1 w' b (enc s' p' c') T):aa (Hd b T E sz enc len cont) w w' F (s',p',c'):=by
 obtain⟨h1,h2,h3,h4⟩:=h
 have hb':¬aL p' b:=fun hi=>by
  rcases hp b hi with hi|hi
  ·exact h3 hi
  ·have:=h1.lt;omega
 refine⟨fun i=>i=b∨aL p' i,⟨hW.aF,hS.ae (hW.ae (F:=fun i=>i=b) rfl) (fun i hi e=>hb' (e ▸ hi)),hb',fun _=>Iff.rfl⟩,?_,?_⟩
 ·exact(hU.mono (fun i _ hi=>(h4 i).2 (.inr hi))).trans (hW.ae (F:=fun i=>i=b) rfl) (fun i _ e=>(h4 i).2 (.inl e))
 ·rintro i (rfl|hi)
  ·exact .inl ((h4 i).2 (.inl rfl))
  ·exact(hp i hi).imp (fun k=>(h4 i).2 (.inr k)) id
theorem Hd.elems (h:Hd b T E sz enc len cont w F (s,y)) (hS:Sl w' E sz y.1 (len s') y.2 (cont s')) (hU:af (aL y.1) w w') (he:enc s' y.1 y.2=enc s y.1 y.2):aa (Hd b T E sz enc len cont) w w' F (s',y):=by
 obtain⟨h1,h2,h3,h4⟩:=h;exact⟨F,⟨by show aE w' b (enc s' y.1 y.2) T;rw[he];exact h1.ae hU h3,hS,h3,h4⟩,hU.mono (fun i _ hi=>(h4 i).2 (.inr hi)),fun _ hi=>.inl hi⟩
theorem Hd.xK (h:Hd b T E sz enc len cont w F (s,y)) (hU:af (aL y.1) w w1):aE w1 b (enc s y.1 y.2) T:=h.1.ae hU h.2.2.1
end
end Go.Dav
namespace Go.Dav
open Go.Proofs
theorem kz:dH Tryz.prog 36 3 1 8 [I 0]:=⟨by kernel_rfl,by kernel_rfl,rfl,by omega⟩
def idx (l:List Int) (v:Int):Int:=if v∈l then(l.idxOf v:Int)else -1
theorem ab3 {l:List Int} {v:Int} {i:Nat} (h:i<l.length) (h1:v∉l.take i) (h2:l[i]=v):idx l v=i:=by
 have hm:v∈l:=h2 ▸ List.getElem_mem h
 have e:l.idxOf v=i:=by
  have hl:l=l.take i++l[i]::l.drop (i+1):=by simp
  rw[hl,List.idxOf_append,if_neg h1,h2];simp;omega
 simp[idx,hm,e]
theorem aed {l:List Int} {v:Int} {i:Nat} (h:i<l.length) (h1:v∉l.take i) (h2:l[i]≠v):v∉l.take (i+1):=by
 rw[List.take_succ_eq_append_getElem h];simp only[List.mem_append,List.mem_singleton];exact fun h=>h.elim h1 (fun e=>h2 e.symm)
theorem Tw {w:World} {p:Option Addr} {l:List Int} {c:Nat} (h:Cells w p (l.map (Value.int .i64))) (hb:l.length<=140737488355328) (v:Int) :
  Cx 375 #[.slice p l.length c,I v] w fun e w'=>e=Z (I (idx l v))/\w'=w:=by
 refine al2 ?_;rw[t375];refine⟨bA bf (M:=uY) (σ:=Nat) (fun i=>Dl p l.length c v l.length i) (fun i w'=>i<=l.length/\v∉l.take i/\w'=w) (fun i _=>l.length-i) 0 ⟨rfl,rfl,rfl,rfl,trivial⟩ ⟨by omega,by simp,rfl⟩ ?_⟩;rintro i w' ⟨h1,h2,rfl⟩;rw[ahb];refine⟨fun hlt=>?_,fun hge=>⟨?_,rfl⟩⟩
 ·have hi:i<l.length:=by simpa using hlt
  obtain⟨a,rfl,hc⟩:=h.bC hi;refine⟨⟨by omega,by omega⟩,a,rfl,l[i],by simpa using hc,fun he=>⟨?_,rfl⟩,fun he=>?_⟩
  ·rw[ab3 hi h2 (by simpa using(eq_comm.1 (by simpa using he)))]
  ·refine⟨i+1,⟨rfl,rfl,rfl,by rw[aD (by omega)];rfl,trivial⟩,⟨by omega,aed hi h2 ?_,rfl⟩,by omega⟩;simp at he;exact fun e=>he e.symm
 ·have:i=l.length:=by simp at hge;omega
  subst this;simp at h2;simp[idx,h2]
theorem Rz {w:World} {p:Option Addr} {l:List Int} {c:Nat} (h:Cells w p (l.map (Value.int .i64))) (hb:l.length<=140737488355328) (v:Int) :
  Cx 325 #[.slice p l.length c,I v] w fun e w'=>e=Z (.bool (decide (v∈l)))/\w'=w:=by
 refine alq ?_;rw[t325];refine⟨(Tw h hb v).mono ?_⟩;rintro e w' ⟨rfl,rfl⟩;refine⟨_,rfl,?_,rfl⟩;unfold idx;split<;>simp_all
theorem Ru {w:World} {p:Option Addr} {l:List Int} {c:Nat} (h:Cells w p (l.map (Value.int .i64))) (hb:l.length<=1048576) (hn:p=none->l=[]/\c=0) :
  Cx 190 #[.slice p l.length c] w fun e w'=>∃p' c',e=Z (.slice p' l.length c')/\Loc w w' 3 p' c' l:=by
 refine ajE ?_;rw[t190];refine⟨fun hp=>?_,fun hp=>⟨fun w1 hN=>?_⟩⟩
 ·obtain⟨rfl,_⟩:=hn (by simpa using hp);exact⟨none,0,rfl,Loc.nil (af.refl _ _) _⟩
 ·have hS:Sl w1 3 1 (some ⟨w.heap.size,0,none⟩) 0 0 []:=Sl.new hN (by simp) (by omega);have hU:=hN.ae no;obtain⟨p',n',c',w2,hr,hn',hS2,hU2,hF⟩:=wT kz hS (h.no hU) (m:=l.length) (d:=c) (by simp) (by simp[Value.oneCell']) (fun e=>by subst e;simp at hp) (by omega) (by omega) 36;simp only[Nat.zero_add,List.nil_append]at hn' hS2;subst hn';refine⟨p',_,c',w2,hr,p',c',rfl,hU.trans hU2 ?_,hS2,fun i hi=>?_⟩
  ·rintro i hi ⟨a,ha,rfl⟩;cases ha;exact absurd hi (Nat.lt_irrefl _)
  ·rcases hF i hi with⟨a,ha,rfl⟩|h
   ·cases ha;exact Nat.le_refl _
   ·exact Nat.le_trans hU.size h
end Go.Dav
namespace Go.Dav
def cs (m:BV):List Int:=aV (hs m) 64
theorem XA {p q:Int->Bool} {n:Nat} (h:∀c:Int,0<=c->c<n->p c=q c):aV p n=aV q n:=by
 unfold aV;apply List.filter_congr;intro x hx;obtain⟨i,hi,rfl⟩:=List.mem_map.1 hx;rw[List.mem_range]at hi;exact h _ (by omega) (by omega)
theorem Gi {p:Int->Bool} {n:Nat} (h:∀c:Int,0<=c->c<n->p c=false):aV p n=[]:=by
 rw[XA (q:=fun _=>false) h];unfold aV;simp
theorem wz {m:BV} {c:Int}:c∈cs m↔hs m c=true:=by
 unfold cs;rw[dT];exact⟨fun h=>h.2.2,fun h=>⟨(gP h).1,(gP h).2,h⟩⟩
theorem yY:cs 0=[]:=Gi fun c _ _=>gu c
theorem ZV (m:BV):(cs m).length<=64:=qz _ _
theorem amo {p:Int->Bool} {k:Nat} (h1:p k=true) (h2:∀j:Int,0<=j->j<k->p j=false):∀n,k<n->aV p n=(k:Int)::aV (fun c=>p c&&!decide (c=(k:Int))) n:=by
 intro n hn
 induction n with
 | zero=>omega
 | succ n ih=>
  rw[uz,uz];by_cases hk:k=n
  ·subst hk;rw[if_pos h1,Gi h2,Gi (p:=fun c=>p c&&!decide (c=(k:Int))) (fun c h0 hc=>by simp[h2 c h0 hc])];simp
  ·rw[ih (by omega)];have:(decide ((n:Int)=(k:Int)))=false:=by simp;omega
   simp only[this,Bool.not_false,Bool.and_true];by_cases hp:p n=true
   ·simp[hp]
   ·simp[hp]
theorem RC {m:BV} {k:Nat} (hk:k<64) (h1:hs m k=true) (h2:∀j:Int,j<k->hs m j=false):cs m=(k:Int)::cs (ls m k):=by
 have:=amo (p:=hs m) h1 (fun j _ hj=>h2 j hj) 64 hk;unfold cs;rw[this];congr 1;exact XA fun c _ _=>(eu m k c).symm
theorem tE {m:BV} (h:m≠0):∃k:Nat,k<64/\hs m k=true/\∀j:Int,j<k->hs m j=false:=by
 have h0:∃k:Nat,hs m k=true:=Classical.byContradiction fun hn=>h (s9 fun c h0 _=>by
  rw[gu];have:=not_exists.1 hn c.toNat;rw[show((c.toNat:Nat):Int)=c by omega]at this;simpa using this)
 obtain⟨k,h1,h2⟩:=zz h0;refine⟨k,by have:=gP h1;omega,h1,fun j hj=>?_⟩;by_cases hj0:0<=j
 ·cases hh:hs m j with
  | false=>rfl
  | true=>have:=h2 j.toNat (by rw[show((j.toNat:Nat):Int)=j by omega];exact hh);omega
 ·exact abV (by omega)
theorem YL (k:Nat) (h:k<64):bt k=aQ k+1:=by
 have h1:(2:Nat) ^ k<2 ^ 64:=Nat.pow_lt_pow_right (by omega) (by omega);have h2:0<(2:Nat) ^ k:=Nat.pow_pos (by omega);apply BitVec.eq_of_toNat_eq;rw[BW (by omega),BitVec.toNat_twoPow,BitVec.toNat_add];unfold aQ;rw[BitVec.toNat_ofNat];have e:min (k:Int).toNat 64=k:=by omega
 rw[e,show((k:Int).toNat)=k by omega];have e1:(1:BV).toNat=1:=rfl;rw[e1];generalize (2:Nat) ^ k=x at *;rw[Nat.mod_eq_of_lt h1,Nat.mod_eq_of_lt (show x-1<2 ^ 64 by omega),Nat.mod_eq_of_lt (by omega)];omega
theorem ade {m:BV} {c:Int} (hm:hs m c=true):ls m c+bt c=m:=by
 have h:=gP hm
 have e0:ls m c&&& bt c=0:=DC fun d=>by
  rw[ru,eu,rv];by_cases hd:d=c<;>simp[hd]
 rw[BitVec.add_eq_or_of_and_eq_zero _ _ e0];apply s9;intro d _ _;rw[zM,eu,rv];by_cases hd:d=c
 ·subst hd;simp[hm,h]
 ·simp[hd]
section
variable {m:BV} {k:Nat} (hk:k<64) (h1:hs m k=true) (h2:∀j:Int,j<k->hs m j=false)
include hk h1 h2
theorem Va:m-1=ls m k||| aQ k:=by
 have e:ls m k&&& aQ k=0:=DC fun d=>by
  rw[ru,eu,tj];by_cases hd:d<k
  ·simp[h2 d hd]
  ·simp[hd]
 have h:=ade h1;rw[YL k hk,<-BitVec.add_assoc]at h;rw[<-BitVec.add_eq_or_of_and_eq_zero _ _ e];generalize ls m k+aQ k=u at h⊢;rw[<-h];exact BitVec.add_sub_cancel _ _
theorem ada:m&&& (m-1)=ls m k:=by
 rw[Va hk h1 h2];apply s9;intro d _ _;rw[ru,zM,eu,tj];by_cases hd:d<k
 ·simp[h2 d hd]
 ·simp[hd]
theorem adb:m&&& (-m)=bt k:=by
 have e : -m = ~~~(m-1):=by
  apply BitVec.eq_of_toNat_eq;rw[BitVec.toNat_neg,BitVec.toNat_not,BitVec.toNat_sub];have:=m.isLt;have e1:(1:BV).toNat=1:=rfl;rw[e1];generalize m.toNat=x at *;omega
 rw[e,Va hk h1 h2];apply s9;intro d h0 h64;rw[lL,zM,eu,tj,rv];by_cases hd:d=k
 ·subst hd;simp[h1,h0,h64]
 ·by_cases hd2:d<k
  ·simp[h2 d hd2,hd]
  ·simp[hd,hd2]
end
theorem ad1 (m:BV):IntKind.wrap .u64 (0-mi m)=mi (-m):=by
 rw[XU];unfold mi;rw[BitVec.toNat_neg];have:=m.isLt;omega
theorem agi (m:BV):IntKind.wrap .u64 (mi m-1)=mi (m-1):=by
 rw[XU];unfold mi;rw[BitVec.toNat_sub];have:=m.isLt;have e1:(1:BV).toNat=1:=rfl;rw[e1];omega
theorem aec (m:BV):aw .xor .u64 18446744073709551615 (mi m)=mi (~~~ m):=by
 have:(18446744073709551615:Int)=mi (BitVec.allOnes 64):=by decide +kernel
 rw[this,YG,BitVec.allOnes_xor]
def tz (m:BV):Int:=match cs m with|[]=>64|a::_=>a
theorem Xv:tz 0=64:=by rw[tz,yY]
theorem Bl {m:BV} {k:Nat} (hk:k<64) (h1:hs m k=true) (h2:∀j:Int,j<k->hs m j=false):tz m=k:=by rw[tz,RC hk h1 h2]
theorem yX {m:BV} (h:m≠0):cs m=tz m::cs (m&&& (m-1)):=by
 obtain⟨k,hk,h1,h2⟩:=tE h;rw[ada hk h1 h2,Bl hk h1 h2];exact RC hk h1 h2
theorem Gc {m:BV} (h:m≠0):hs m (tz m)=true:=by
 obtain⟨k,hk,h1,h2⟩:=tE h;rw[Bl hk h1 h2];exact h1
theorem Xu {m:BV}:tz m<64↔m≠0:=by
 constructor
 ·rintro h rfl;rw[Xv]at h;omega
 ·intro h;exact(gP (Gc h)).2
def za (k:Nat):Int:=aC .u64 (IntKind.wrap .u64 (mi (bt k)*285870213051353865)) 58
def sN:List Nat:=[0,1,56,2,57,49,28,3,61,58,42,50,38,29,17,4,62,47,59,36,45,43,51,22,53,39,33,30,24,18,12,5,63,55,48,27,60,41,37,16,46,35,44,21,52,32,23,11,54,26,40,15,34,20,31,10,25,14,19,9,13,8,7,6]
theorem aab:∀k:Nat,k<64->0<=za k/\za k<64/\sN[(za k).toNat]?=some k:=by decide +kernel
end Go.Dav
namespace Go.Dav
def cW (n x:Nat):Nat:=((List.range n).filter (fun i=>x.testBit i)).length
theorem aew (a b x:Nat):cW (a+b) x=cW a x+cW b (x/2 ^ a):=by
 unfold cW;rw[List.range_add,List.filter_append,List.length_append,List.filter_map,List.length_map];congr 2;apply List.filter_congr;intro i _;simp[Nat.testBit_div_two_pow,Nat.add_comm]
theorem aex (n x:Nat):cW n x=cW n (x%2 ^ n):=by
 unfold cW;congr 1;apply List.filter_congr;intro i hi;rw[List.mem_range]at hi;simp[Nat.testBit_mod_two_pow,hi]
theorem ZW (m:BV):(cs m).length=cW 64 m.toNat:=by
 unfold cs aV cW;rw[List.filter_map,List.length_map];refine congrArg List.length (List.filter_congr fun i hi=>?_);rw[List.mem_range]at hi;show hs m (i:Int)=_;unfold hs;have:decide (0<=(i:Int)/\(i:Int)<64)=true:=decide_eq_true ⟨by omega,by omega⟩;rw[this];simp[BitVec.getLsbD]
def fC:List Nat->Nat
 | []=>0
 | b::l=>b+256*fC l
def oo:Nat->Nat->List Nat
 | 0,_=>[]
 | n+1,x=>x%256::oo n (x/256)
theorem XB:∀n x,x<256 ^ n->fC (oo n x)=x
 | 0,x,h=>by simp at h;subst h;rfl
 | n+1,x,h=>by
  have hx:x/256<256 ^ n:=by rw[Nat.pow_succ]at h;omega
  show x%256+256*fC (oo n (x/256))=x;rw[XB n _ hx];omega
theorem V8:∀n x,cW (8*n) x=((oo n x).map (cW 8)).sum
 | 0,x=>rfl
 | n+1,x=>by
  have e:8*(n+1)=8+8*n:=by omega
  rw[e,aew,aex 8 x,show(2:Nat) ^ 8=256 from rfl,V8 n (x/256)];rfl
theorem BZ:∀n x,∀b∈oo n x,b<256
 | 0,_,b,h=>by cases h
 | n+1,x,b,h=>by
  rcases List.mem_cons.1 h with h|h
  ·omega
  ·exact BZ n _ b h
theorem BY:∀n x,(oo n x).length=n
 | 0,_=>rfl
 | n+1,x=>by simp[oo,BY n]
def k9 (m:Nat):Nat->Nat
 | 0=>0
 | n+1=>m+256*k9 m n
theorem vj {b y m M:Nat} (hb:b<256) (hm:m<256):(b+256*y)&&& (m+256*M)=(b&&& m)+256*(y&&& M):=by
 have e:∀a c:Nat,a+256*c=2 ^ 8*c+a:=fun a c=>by omega
 have hbm:b&&& m<2 ^ 8:=Nat.and_lt_two_pow b (by omega);rw[e,e,e];apply Nat.eq_of_testBit_eq;intro i;rw[Nat.testBit_and,Nat.testBit_two_pow_mul_add _ (by omega),Nat.testBit_two_pow_mul_add _ (by omega),Nat.testBit_two_pow_mul_add _ hbm];split
 ·rw[Nat.testBit_and]
 ·rw[Nat.testBit_and]
def sA (x M:Nat):Nat:=(x/2&&& M)+(x&&& M)
def sB (x M:Nat):Nat:=(x/4&&& M)+(x&&& M)
def sC (x M:Nat):Nat:=(x/16+x)&&& M
theorem X3:∀b,b<256->∀t,t<2->(b/2+128*t)&&& 85=b/2&&& 85:=by decide +kernel
theorem Yo:∀b,b<256->∀t,t<4->(b/4+64*t)&&& 51=b/4&&& 51:=by decide +kernel
theorem Zm:∀b,b<69->∀t,t<5->(b/16+16*t+b)&&& 15=(b/16+b)&&& 15:=by decide +kernel
theorem X4 {b y M:Nat} (hb:b<256):sA (b+256*y) (85+256*M)=sA b 85+256*sA y M:=by
 unfold sA;have e:(b+256*y)/2=(b/2+128*(y%2))+256*(y/2):=by omega
 rw[e,vj (by omega) (by omega),vj hb (by omega),X3 b hb _ (by omega)];omega
theorem Yp {b y M:Nat} (hb:b<256):sB (b+256*y) (51+256*M)=sB b 51+256*sB y M:=by
 unfold sB;have e:(b+256*y)/4=(b/4+64*(y%4))+256*(y/4):=by omega
 rw[e,vj (by omega) (by omega),vj hb (by omega),Yo b hb _ (by omega)];omega
theorem Zn {b y M:Nat} (hb:b<69) (hy:y%16<5):sC (b+256*y) (15+256*M)=sC b 15+256*sC y M:=by
 unfold sC;have e:(b+256*y)/16+(b+256*y)=(b/16+16*(y%16)+b)+256*(y/16+y):=by omega
 rw[e,vj (by omega) (by omega),Zm b hb _ hy]
theorem Lk:∀l:List Nat,(∀b∈l,b<256)->sA (fC l) (k9 85 l.length)=fC (l.map (fun b=>sA b 85))
 | [],_=>rfl
 | b::l,h=>by
  show sA (b+256*fC l) (85+256*k9 85 l.length)=sA b 85+256*fC (l.map _);rw[X4 (h b (by simp)),Lk l (fun c hc=>h c (by simp[hc]))]
theorem LM:∀l:List Nat,(∀b∈l,b<256)->sB (fC l) (k9 51 l.length)=fC (l.map (fun b=>sB b 51))
 | [],_=>rfl
 | b::l,h=>by
  show sB (b+256*fC l) (51+256*k9 51 l.length)=sB b 51+256*fC (l.map _);rw[Yp (h b (by simp)),LM l (fun c hc=>h c (by simp[hc]))]
theorem Rh:∀l:List Nat,(∀b∈l,b<69/\b%16<5)->sC (fC l) (k9 15 l.length)=fC (l.map (fun b=>sC b 15))
 | [],_=>rfl
 | b::l,h=>by
  show sC (b+256*fC l) (15+256*k9 15 l.length)=sC b 15+256*fC (l.map _)
  have hy:fC l%16<5:=by
   cases l with
   | nil=>decide
   | cons c l=>
    have:=(h c (by simp)).2;show(c+256*fC l)%16<5;omega
  rw[Zn (h b (by simp)).1 hy,Rh l (fun c hc=>h c (by simp[hc]))]
theorem xC:∀b,b<256->sA b 85<256/\(sB (sA b 85) 51<69/\sB (sA b 85) 51%16<5)/\sC (sB (sA b 85) 51) 15=cW 8 b/\cW 8 b<=8:=by decide +kernel
theorem X5 (l:List Nat) (h:∀b∈l,b<256):sC (sB (sA (fC l) (k9 85 l.length)) (k9 51 l.length)) (k9 15 l.length)=fC (l.map (cW 8)):=by
 rw[Lk l h];have e1:=LM (l.map (fun b=>sA b 85)) (fun c hc=>by obtain⟨b,hb,rfl⟩:=List.mem_map.1 hc;exact(xC b (h b hb)).1);rw[List.length_map]at e1;rw[e1,List.map_map];have e2:=Rh (l.map ((fun b=>sB b 51)∘fun b=>sA b 85)) (fun c hc=>by obtain⟨b,hb,rfl⟩:=List.mem_map.1 hc;exact(xC b (h b hb)).2.1);rw[List.length_map]at e2;rw[e2,List.map_map];congr 1;apply List.map_congr_left;intro b hb;exact(xC b (h b hb)).2.2.1
theorem x1 (b r:Nat) (h:b<=100):(b+256*r)/256=r:=by omega
theorem x2 (s1 s2 r:Nat) (h1:s1<=100) (h2:s2<=100):(s1+256*(s2+256*r))/65536=r:=by omega
theorem x3 (s1 s2 s3 s4 r:Nat) (h1:s1<=100) (h2:s2<=100) (h3:s3<=100) (h4:s4<=100):(s1+256*(s2+256*(s3+256*(s4+256*r))))/4294967296=r:=by omega
theorem x4 (a r b q:Nat):(a+256*r)+(b+256*q)=(a+b)+256*(r+q):=by omega
theorem x5 {a b c d e f g h:Nat} (ha:a<=100) (hb:b<=100) (hc:c<=100) (hd:d<=100) (he:e<=100) (hf:f<=100) (hg:g<=100) (hh:h<=100):(a+256*(b+256*(c+256*(d+256*(e+256*(f+256*(g+256*h)))))))<18446744073709551616:=by omega
theorem x6 {s q n:Nat} (hs:s=n) (hn:n<=100):(s+256*q)%128=n:=by omega
theorem aba (a b c d e f g h:Nat) (ha:a<=8) (hb:b<=8) (hc:c<=8) (hd:d<=8) (he:e<=8) (hf:f<=8) (hg:g<=8) (hh:h<=8) {y y4 y5 y6:Nat}
  (e0:y=fC [a,b,c,d,e,f,g,h]) (e4:y4=y+y/256) (e5:y5=y4+y4/65536) (e6:y6=y5+y5/4294967296) :
  y4<18446744073709551616/\y5<18446744073709551616/\y6<18446744073709551616/\y6%128=a+b+c+d+e+f+g+h:=by
 simp only[fC,Nat.mul_zero,Nat.add_zero]at e0;have d1:y/256=b+256*(c+256*(d+256*(e+256*(f+256*(g+256*h))))):=by rw[e0];exact x1 _ _ (by omega)
 rw[d1,e0]at e4
 have e4':y4=(a+b)+256*((b+c)+256*((c+d)+256*((d+e)+256*((e+f)+256*((f+g)+256*((g+h)+256*h)))))):=by
  rw[e4,x4,x4,x4,x4,x4,x4,Nat.add_right_comm g (256*h) h]
 clear e4 e0 d1;have d2:y4/65536=(c+d)+256*((d+e)+256*((e+f)+256*((f+g)+256*((g+h)+256*h)))):=by rw[e4'];exact x2 _ _ _ (by omega) (by omega)
 have e5':y5=(a+b+(c+d))+256*((b+c+(d+e))+256*((c+d+(e+f))+256*((d+e+(f+g))+256*((e+f+(g+h))+256*((f+g+h)+256*((g+h)+256*h)))))):=by
  rw[e5,d2,e4',x4,x4,x4,x4,x4,Nat.add_right_comm (f+g) _ h]
 have d3:y5/4294967296=(e+f+(g+h))+256*((f+g+h)+256*((g+h)+256*h)):=by rw[e5'];exact x3 _ _ _ _ _ (by omega) (by omega) (by omega) (by omega)
 have e6':y6=(a+b+(c+d)+(e+f+(g+h)))+256*((b+c+(d+e)+(f+g+h))+256*((c+d+(e+f)+(g+h))+256*((d+e+(f+g)+h)+256*((e+f+(g+h))+256*((f+g+h)+256*((g+h)+256*h)))))):=by
  rw[e6,d3,e5',x4,x4,x4,Nat.add_right_comm (d+e+(f+g)) _ h]
 clear e5 d2 d3 e6;refine⟨?_,?_,?_,?_⟩
 ·rw[e4'];clear e4' e5' e6';exact x5 (by omega) (by omega) (by omega) (by omega) (by omega) (by omega) (by omega) (by omega)
 ·rw[e5'];clear e4' e5' e6';exact x5 (by omega) (by omega) (by omega) (by omega) (by omega) (by omega) (by omega) (by omega)
 ·rw[e6'];clear e4' e5' e6';exact x5 (by omega) (by omega) (by omega) (by omega) (by omega) (by omega) (by omega) (by omega)
 ·rw[e6'];clear e4' e5' e6';exact x6 (by omega) (by omega)
theorem sq {x y:Nat} (hx:x<2 ^ 64) (hy:y<2 ^ 64):aw .and .u64 (x:Int) (y:Int)=((x&&& y:Nat):Int):=by
 have e:∀z:Nat,z<2 ^ 64->(z:Int)=mi (BitVec.ofNat 64 z):=fun z hz=>by
  unfold mi;rw[BitVec.toNat_ofNat,Nat.mod_eq_of_lt hz]
 rw[e x hx,e y hy,sv];unfold mi;rw[BitVec.toNat_and,BitVec.toNat_ofNat,BitVec.toNat_ofNat,Nat.mod_eq_of_lt hx,Nat.mod_eq_of_lt hy]
theorem po (x:Nat) {k d:Nat} (hk:k<=64) (hd:2 ^ k=d):aC .u64 (x:Int) (k:Int)=((x/d:Nat):Int):=by
 subst hd;unfold aC;have e1:min ((k:Int)).toNat IntKind.u64.bits=k:=by show min _ 64=k;omega
 rw[e1,show((2:Int) ^ k)=((2 ^ k:Nat):Int) by simp,Int.fdiv_eq_ediv_of_nonneg _ (Int.natCast_nonneg _),<-Int.natCast_ediv]
theorem se {x y:Nat} (h:x+y<2 ^ 64):IntKind.wrap .u64 ((x:Int)+(y:Int))=((x+y:Nat):Int):=by
 rw[xn (by omega)];omega
end Go.Dav
namespace Go.Dav
theorem YN {data:Array UInt8} (f:Nat->Nat) (h:(data.toList.map UInt8.toNat==(List.range 256).map f)=true) {x:Nat} (hx:x<256):∃u,(ByteArray.mk data)[x]?=some u/\((UInt8.toNat u:Nat):Int)=(f x:Int):=by
 have h:=eq_of_beq h
 have hs:data.size=256:=by
  have:=congrArg List.length h;simpa using this
 have hx':x<(ByteArray.mk data).size:=by show x<data.size;omega
 refine⟨data[x]'(by omega),?_,?_⟩
 ·rw[getElem?_pos (ByteArray.mk data) x hx'];rfl
 ·have h1:(data.toList.map UInt8.toNat)[x]?=((List.range 256).map f)[x]?:=by rw[h]
  simp[hx,hs]at h1;exact congrArg Int.ofNat h1
end Go.Dav
namespace Go.Dav
open Go.Proofs
def Tab (w:World):Prop:=Cells w (some ⟨0,0,none⟩) (sN.map (fun(z:Nat)=>Value.int .u8 (z:Int)))
theorem Tab.no {w w':World} (h:Tab w) (k:af no w w'):Tab w':=Cells.no h k
theorem Xj:Tryz.prog.globalNamed "math/bits.deBruijn64tab" = some 0:=by kernel_rfl
theorem ahB:(Tryz.prog.globals[0]?).map (·.type)=some 380:=by kernel_rfl
theorem ahC:Tryz.prog.underlying 380=some (.array 64 5):=by kernel_rfl
theorem ahA:Tryz.prog.underlying 5=some (.int .u8):=by kernel_rfl
def zb:List Int:=sN.map (fun(z:Nat)=>(z:Int))
theorem tab_ok {W:World} (h:laidMet Tryz.prog [("math/bits.deBruijn64tab",Lib.tabData .u8 zb)] W):Tab W:=by
 have hT:=Lib.tabIs_of_head Xj ahB ahC ahA (by kernel_rfl) (by kernel_rfl) h;intro j v hj;refine⟨_,rfl,?_⟩;rw[add_lit,Nat.zero_add];rw[List.getElem?_map]at hj;obtain⟨z,hz,rfl⟩:=Option.map_eq_some_iff.1 hj;have hl:j<sN.length:=(List.getElem?_eq_some_iff.1 hz).1;rw[hT.cell Xj j (by simpa [zb]using hl)];have e:zb.getD j 0=(z:Int):=by simp[zb,List.getD_eq_getElem?_getD,hz]
 rw[e]
theorem Gd (m:BV) {w:World} (hT:Tab w):Cx 253 #[.int .u64 (mi m)] w fun e w'=>e=Z (I (tz m))/\w'=w:=by
 refine akx ?_;rw[t253];refine⟨fun g=>?_,fun g=>⟨by decide,?_⟩⟩
 ·rw[jA]at g;have:m=0:=by simpa using g
  subst this;exact⟨by rw[Xv],rfl⟩
 ·rw[jA]at g;have hm:m≠0:=by simpa using g
  obtain⟨k,hk,h1,h2⟩:=tE hm;rw[ad1,sv,adb hk h1 h2];obtain⟨d1,d2,d3⟩:=aab k hk;unfold za at d1 d2 d3;rw[Bl hk h1 h2];generalize aC .u64 (IntKind.wrap .u64 (mi (bt k)*285870213051353865)) 58=ix at *;have hl:ix.toNat<sN.length:=(List.getElem?_eq_some_iff.1 d3).1;obtain⟨a,ha,hc⟩:=hT.bC hl;cases ha;have:sN[ix.toNat]=k:=by rw[List.getElem?_eq_getElem hl]at d3;exact Option.some.inj d3
  rw[this]at hc;exact⟨⟨d1,d2⟩,_,hc,by rw[aD (by omega)],rfl⟩
def oA (x:Int):Int:=IntKind.wrap .u64 (aw .and .u64 (aC .u64 x 1) 6148914691236517205+aw .and .u64 x 6148914691236517205)
def oB (x:Int):Int:=IntKind.wrap .u64 (aw .and .u64 (aC .u64 x 2) 3689348814741910323+aw .and .u64 x 3689348814741910323)
def oC (x:Int):Int:=aw .and .u64 (IntKind.wrap .u64 (aC .u64 x 4+x)) 1085102592571150095
def oD (x:Int):Int:=IntKind.wrap .u64 (x+aC .u64 x 8)
def oE (x:Int):Int:=IntKind.wrap .u64 (x+aC .u64 x 16)
def oF (x:Int):Int:=IntKind.wrap .u64 (x+aC .u64 x 32)
def oG (x:Int):Int:=aw .and .i64 (IntKind.wrap .i64 x) 127
theorem Yk {x:Nat} (h:x<18446744073709551616):oG (x:Int)=((x%128:Nat):Int):=by
 unfold oG
 have e1:BitVec.ofInt 64 (IntKind.wrap .i64 (x:Int))=BitVec.ofNat 64 x:=by
  apply BitVec.eq_of_toNat_eq;rw[BitVec.toNat_ofInt,BitVec.toNat_ofNat]
  have:IntKind.wrap .i64 (x:Int)=if(x:Int)<9223372036854775808 then(x:Int)else(x:Int)-18446744073709551616:=by
   unfold IntKind.wrap;simp only[IntKind.bits,IntKind.signed,Bool.true_and];split<;>split<;>simp_all<;>omega
  rw[this];split<;>omega
 show IntKind.wrap .i64 ((BitVec.ofInt 64 (IntKind.wrap .i64 (x:Int))&&& BitVec.ofInt 64 127).toNat:Int)=_;rw[e1];have e2:BitVec.ofInt 64 127=BitVec.ofNat 64 127:=rfl;rw[e2,BitVec.toNat_and,BitVec.toNat_ofNat,BitVec.toNat_ofNat,Nat.mod_eq_of_lt h];have e3:x&&& (127%2 ^ 64)=x%128:=Nat.and_two_pow_sub_one_eq_mod x 7;rw[e3,aD (by omega)]
theorem aef (m:BV):oG (oF (oE (oD (oC (oB (oA (mi m)))))))=((cs m).length:Int):=by
 have hx:m.toNat<2 ^ 64:=m.isLt;obtain⟨x,hxe⟩:∃x,x=m.toNat:=⟨_,rfl⟩;rw[ZW,show(mi m)=((x:Nat):Int) by rw[hxe];rfl,<-hxe];rw[<-hxe]at hx;clear hxe;have r1:k9 85 8=6148914691236517205:=by decide +kernel
 have r2:k9 51 8=3689348814741910323:=by decide +kernel
 have r3:k9 15 8=1085102592571150095:=by decide +kernel
 have hb:=X5 (oo 8 x) (BZ 8 x);rw[BY,XB 8 x (by omega),r1,r2,r3]at hb;have a1:x/2&&& 6148914691236517205<2 ^ 63:=Nat.and_lt_two_pow _ (by omega);have a2:x&&& 6148914691236517205<2 ^ 63:=Nat.and_lt_two_pow _ (by omega)
 have eA:oA (x:Int)=((sA x 6148914691236517205:Nat):Int):=by
  unfold oA sA;rw[show(1:Int)=((1:Nat):Int)from rfl,po (d:=2) x (by omega) rfl,show(6148914691236517205:Int)=((6148914691236517205:Nat):Int)from rfl,sq (by omega) (by omega),sq (by omega) (by omega),se (by omega)]
 have hA:sA x 6148914691236517205<2 ^ 64:=by unfold sA;omega
 rw[eA];generalize sA x 6148914691236517205=y at *;have b1:y/4&&& 3689348814741910323<2 ^ 62:=Nat.and_lt_two_pow _ (by omega);have b2:y&&& 3689348814741910323<2 ^ 62:=Nat.and_lt_two_pow _ (by omega)
 have eB:oB (y:Int)=((sB y 3689348814741910323:Nat):Int):=by
  unfold oB sB;rw[show(2:Int)=((2:Nat):Int)from rfl,po (d:=4) y (by omega) rfl,show(3689348814741910323:Int)=((3689348814741910323:Nat):Int)from rfl,sq (by omega) (by omega),sq (by omega) (by omega),se (by omega)]
 have hB:sB y 3689348814741910323<2 ^ 63:=by unfold sB;omega
 rw[eB];generalize sB y 3689348814741910323=z at *
 have eC:oC (z:Int)=((sC z 1085102592571150095:Nat):Int):=by
  unfold oC sC;rw[show(4:Int)=((4:Nat):Int)from rfl,po (d:=16) z (by omega) rfl,se (by omega),show(1085102592571150095:Int)=((1085102592571150095:Nat):Int)from rfl,sq (by omega) (by omega)]
 rw[eC,hb,V8 8 x];have hl:=BY 8 x;have hlt:=BZ 8 x;generalize oo 8 x=l at *
 match l,hl,hlt with
 | [c0,c1,c2,c3,c4,c5,c6,c7],_,hlt=>
  have q:∀c∈[c0,c1,c2,c3,c4,c5,c6,c7],cW 8 c<=8:=fun c hc=>(xC c (hlt c hc)).2.2.2;simp only[List.map_cons,List.map_nil,List.sum_cons,List.sum_nil];generalize hy:fC [cW 8 c0,cW 8 c1,cW 8 c2,cW 8 c3,cW 8 c4,cW 8 c5,cW 8 c6,cW 8 c7]=v;obtain⟨f1,f2,f3,f4⟩:=aba (cW 8 c0) (cW 8 c1) (cW 8 c2) (cW 8 c3) (cW 8 c4) (cW 8 c5) (cW 8 c6) (cW 8 c7) (q _ (by simp)) (q _ (by simp)) (q _ (by simp)) (q _ (by simp)) (q _ (by simp)) (q _ (by simp)) (q _ (by simp)) (q _ (by simp)) hy.symm rfl rfl rfl
  have eD:oD (v:Int)=((v+v/256:Nat):Int):=by
   unfold oD;rw[show(8:Int)=((8:Nat):Int)from rfl,po (d:=256) v (by omega) rfl,se (by omega)]
  have eE:∀v:Nat,v+v/65536<18446744073709551616->oE (v:Int)=((v+v/65536:Nat):Int):=fun v h=>by
   unfold oE;rw[show(16:Int)=((16:Nat):Int)from rfl,po (d:=65536) v (by omega) rfl,se (by omega)]
  have eF:∀v:Nat,v+v/4294967296<18446744073709551616->oF (v:Int)=((v+v/4294967296:Nat):Int):=fun v h=>by
   unfold oF;rw[show(32:Int)=((32:Nat):Int)from rfl,po (d:=4294967296) v (by omega) rfl,se (by omega)]
  rw[eD,eE _ f2,eF _ f3,Yk f3,f4];congr 1;omega
theorem aee (m:BV) (w:World):Cx 80 #[.int .u64 (mi m)] w fun e w'=>e=Z (I ((cs m).length:Int))/\w'=w:=by
 refine u80 ?_;rw[t80];refine⟨by decide,by decide,by decide,by decide,by decide,by decide,?_,rfl⟩;show Ending.returned (I (oG (oF (oE (oD (oC (oB (oA (mi m)))))))))=_;rw[aef]
theorem Ve (m:BV) (w:World):Cx 24 #[.int .u64 (mi m)] w fun e w'=>e=Z (I ((cs m).length:Int))/\w'=w:=by
 refine u24 ?_;rw[t24];refine⟨(aee m w).mono ?_⟩;rintro e w' ⟨rfl,rfl⟩;exact⟨_,rfl,rfl,rfl⟩
def dK (m:BV):Int×Int:=match cs m with|[]=>(0,12)|a::_=>(a,0)
def jB (m:BV) (c:Int):Int×Int:=match(cs m).find? (fun d=>decide (d>c))with|some d=>(d,0)|none=>dK m
theorem DI {m:BV} (h:m≠0):dK m=(tz m,0):=by unfold dK;rw[yX h]
theorem aa4:dK 0=(0,12):=by unfold dK;rw[yY]
theorem tH (m:BV) {w:World} (hT:Tab w):Cx 159 #[.int .u64 (mi m)] w fun e w'=>e=Z (.tuple #[I (dK m).1,I (dK m).2])/\w'=w:=by
 refine ajh ?_;rw[t159];refine⟨fun g=>?_,fun g=>⟨(Gd m hT).mono ?_⟩⟩
 ·rw[jA]at g;have:m=0:=by simpa using g
  subst this;exact⟨by rw[aa4],rfl⟩
 ·rw[jA]at g;rintro e w' ⟨rfl,rfl⟩;exact⟨_,rfl,by rw[DI (by simpa using g)],rfl⟩
theorem RB (m:BV) (c:Int):cs (m&&& ~~~ aQ (c+1))=(cs m).filter (fun d=>decide (d>c)):=by
 unfold cs aV;rw[List.filter_filter];apply List.filter_congr;intro d hd;obtain⟨i,hi,rfl⟩:=List.mem_map.1 hd;rw[List.mem_range]at hi;rw[lL,tj,decide_eq_true (show 0<=(i:Int)/\(i:Int)<64 by omega),Bool.true_and];by_cases hc:(i:Int)>c
 ·simp[hc,show ¬((i:Int)<c+1) by omega]
 ·simp[hc,show(i:Int)<c+1 by omega]
theorem ad5 {m:BV} {c:Int} (h:m&&& ~~~ aQ (c+1)≠0):dK (m&&& ~~~ aQ (c+1))=jB m c:=by
 unfold jB;rw[DI h];have e:((cs m).filter (fun d=>decide (d>c))).head?=some (tz (m&&& ~~~ aQ (c+1))):=by rw[<-RB,yX h];rfl
 rw[List.head?_filter]at e;rw[e]
theorem ad9 {m:BV} {c:Int} (h:m&&& ~~~ aQ (c+1)=0):jB m c=dK m:=by
 unfold jB;have e:(cs m).filter (fun d=>decide (d>c))=[]:=by rw[<-RB,h,yY]
 rw[List.filter_eq_nil_iff]at e;rw[List.find?_eq_none.2 e]
theorem ad8 {m:BV} {c:Int} (h:c<0):jB m c=dK m:=by
 unfold jB dK
 cases hc:cs m with
 | nil=>rfl
 | cons a l=>
  have:hs m a=true:=wz.1 (by rw[hc];simp);have:=gP this;have e:decide (a>c)=true:=by simp;omega
  simp[e]
theorem ad6 {m:BV} {c:Int} (h:63<=c):jB m c=dK m:=by
 unfold jB;rw[List.find?_eq_none.2];intro d hd;have:=gP (wz.1 hd);simp;omega
theorem adl (m:BV) (c:Int) {w:World} (hT:Tab w):Cx 319 #[.int .u64 (mi m),I c] w fun e w'=>e=Z (.tuple #[I (jB m c).1,I (jB m c).2])/\w'=w:=by
 refine alj ?_;rw[t319];refine⟨fun g=>⟨fun g2=>⟨(tH m hT).mono ?_⟩,fun g2=>?_⟩,fun g=>⟨(tH m hT).mono ?_⟩⟩
 ·rintro e w' ⟨rfl,rfl⟩;exact⟨_,_,rfl,by rw[ad6 (of_decide_eq_true g2)],rfl⟩
 ·have h1:¬c<0:=of_decide_eq_false g;have h2:¬c>=63:=of_decide_eq_false g2;rw[aD (by omega)];refine⟨(tI (c+1) w).mono ?_⟩;rintro e w' ⟨rfl,rfl⟩;refine⟨_,rfl,?_⟩;rw[vq,rD];refine⟨fun g3=>⟨(tH _ hT).mono ?_⟩,fun g3=>⟨(tH m hT).mono ?_⟩⟩
  ·rintro e w' ⟨rfl,rfl⟩;exact⟨_,_,rfl,by rw[ad5 (by simpa using g3)],rfl⟩
  ·rintro e w' ⟨rfl,rfl⟩;exact⟨_,_,rfl,by rw[ad9 (by simpa using g3)],rfl⟩
 ·rintro e w' ⟨rfl,rfl⟩;exact⟨_,_,rfl,by rw[ad8 (of_decide_eq_true g)],rfl⟩
theorem Vd (m:BV) {w:World} (hT:Tab w):Cx 382 #[.int .u64 (mi m)] w fun e w'=>∃p c,e=Z (.slice p (cs m).length c)/\Loc w w' 3 p c (cs m):=by
 refine al7 ?_;rw[t382]
 refine⟨bA bf (M:=u5) (σ:=BV×List Int×Option Addr×Nat) (fun s=>Dm (mi s.1) s.2.2.1 s.2.1.length s.2.2.2)
  (fun s w'=>s.2.1++cs s.1=cs m/\Loc w w' 3 s.2.2.1 s.2.2.2 s.2.1) (fun s _=>(cs s.1).length) (m,[],none,0) ⟨rfl,rfl,trivial⟩ ⟨rfl,Loc.nil (af.refl _ _) _⟩ ?_⟩
 rintro⟨a,l,p,c⟩ w1 ⟨h1,hL⟩;simp only at h1 hL⊢;rw[ahd,rD,agi,sv];refine⟨fun g=>⟨(Gd a (hT.no hL.U)).mono ?_⟩,fun g=>?_⟩
 ·have ha:a≠0:=by simpa using g
  have hc:=yX ha;have hl:l.length<=64:=by have:=congrArg List.length h1;have:=ZV m;simp at *;omega
  rintro e w2 ⟨rfl,rfl⟩;refine⟨_,rfl,⟨fun w3 hN=>?_⟩⟩;obtain⟨p',c',w4,hr,hL'⟩:=hL.push kz (by omega) hN 36;refine⟨p',_,c',w4,hr,(a&&& (a-1),l++[tz a],p',c'),⟨rfl,rfl,trivial⟩,⟨by rw[<-h1,hc];simp,hL'⟩,by simp only;rw[hc];simp⟩
 ·have ha:a=0:=by simpa using g
  subst ha;rw[yY,List.append_nil]at h1;subst h1;exact⟨p,c,rfl,hL⟩
end Go.Dav
namespace Go.Dav
theorem run_mk {P:Program} {t e:TypeId} {sz bytes:Nat} {z:List Value} (he:dH P t e sz bytes z) (w:World) {n:Nat} (hb:n*bytes<=140737488355328) (hn:n<=140737488355328) (k1 k2:IntKind)
  {α:Type} {f:α->List Value} {x0:α} (hf:∀x,(f x).length=sz) (hz0:f x0=z) :
  ∃w',(Instr.makeSlice t (.int k1 (n:Int)) (.int k2 (n:Int))).run P w=.ok (.slice (some ⟨w.heap.size,0,none⟩) n n) w'/\cH w w' (.cells ((List.replicate n x0).flatMap f).toArray e (0,0)):=by
 obtain⟨hu,hinfo,hzs,hpos⟩:=he;obtain⟨i,hi,hii⟩:=Option.map_eq_some_iff.1 hinfo;simp only[Prod.mk.injEq]at hii;obtain⟨hz,hs1,hb1⟩:=hii;obtain⟨zv,hzv,hzc⟩:=Option.map_eq_some_iff.1 hz
 have hb':(i.bytes:Int)*(n:Int)<=281474976710656:=by
  have h:((i.bytes*n:Nat):Int)<=281474976710656:=by rw[hb1,Nat.mul_comm];omega
  rwa [Int.natCast_mul]at h
 have hr:=run_make (P:=P) w t e i zv hu hi hzv k1 k2 n n (by omega) (Int.le_refl _) hb' (by omega);simp only[Int.toNat_natCast]at hr;refine⟨_,hr,?_⟩;have hzl:zv.cells.size=sz:=by rw[<-hzs,<-hzc];simp
 have e1:((List.replicate n x0).flatMap f).toArray=madeCells zv.cells (n*i.size):=by
  rw[hs1];apply Array.ext';rw[List.toList_toArray];have hl:((List.replicate n x0).flatMap f).length=n*sz:=by rw[List.length_flatMap];simp[hf,List.sum_replicate_nat]
  apply List.ext_getElem?;intro j;by_cases hj:j<n*sz
  ·have hq:j/sz<n:=Nat.div_lt_of_lt_mul (by rwa [Nat.mul_comm]);have hm:j%sz<sz:=Nat.mod_lt _ hpos
   have hv:zv.cells.toList[j%sz]?=some zv.cells[j%zv.cells.size]!:=by
    have h1:j%sz<zv.cells.size:=by omega
    rw[hzl,getElem!_pos zv.cells (j%sz) h1];simp[h1]
   have:=td (l:=List.replicate n x0) (i:=j/sz) (j:=j%sz) (v:=zv.cells[j%zv.cells.size]!) hf (by simpa using hq) (by rw[List.getElem_replicate,hz0,<-hzc];exact hv);rw[Nat.div_add_mod']at this;rw[this];simp[madeCells,hj]
  ·rw[List.getElem?_eq_none (by omega),List.getElem?_eq_none (by simp[madeCells];omega)]
 rw[e1];exact wF w _
theorem Ww {α:Type} (f:α->Value) (n:Nat) (x:α):(List.replicate n x).flatMap (fun x=>[f x])=(List.replicate n x).map f:=by
 induction n with
 | zero=>rfl
 | succ n ih=>rw[List.replicate_succ,List.flatMap_cons,ih];rfl
theorem Fe {P:Program} {t e:TypeId} {k:IntKind} {bytes:Nat} (he:dH P t e 1 bytes [.int k 0]) (w:World) {n:Nat} (hb:n*bytes<=140737488355328) (hn:n<=140737488355328) (k1 k2:IntKind) :
  ∃w',(Instr.makeSlice t (.int k1 (n:Int)) (.int k2 (n:Int))).run P w=.ok (.slice (some ⟨w.heap.size,0,none⟩) n n) w'/\cH w w' (.cells ((List.replicate n (0:Int)).map (Value.int k)).toArray e (0,0)):=by
 obtain⟨w',h1,h2⟩:=run_mk he w hb hn k1 k2 (f:=fun x:Int=>[Value.int k x]) (x0:=0) (fun _=>rfl) rfl;rw[Ww]at h2;exact⟨w',h1,h2⟩
theorem afr {P:Program} {t e:TypeId} {sz bytes:Nat} {z:List Value} (he:dH P t e sz bytes z) {w:World} {p:Option Addr} {dn dc:Nat} {ds:List Value} (h:Sl w e sz p dn dc ds)
  {q:Option Addr} {sn sc:Nat} {ss:List Value} (hq:Cells w q ss) (hl:ss.length=sn*sz) (h1:∀u∈ss,u.oneCell'=true) (ty:TypeId) :
  ∃w',(Builtin.copy_ #[t,t] ty #[.slice p dn dc,.slice q sn sc]).run P w=.ok (.int .i64 ((min sn dn:Nat):Int)) w'/\Sl w' e sz p dn dc (ss.take (min sn dn*sz)++ds.drop (min sn dn*sz))/\af (aL p) w w':=by
 obtain⟨hu,hinfo,hzs,hpos⟩:=he;obtain⟨i,hi,hii⟩:=Option.map_eq_some_iff.1 hinfo;simp only[Prod.mk.injEq]at hii;obtain⟨hz,hs1,hb1⟩:=hii;subst hs1;obtain⟨l1,l2,l3,l4⟩:=id h;generalize hm:min sn dn=m;have hms:m<=sn:=by omega
 have hmd:m<=dn:=by omega
 have htl:(ss.take (m*i.size)).length=m*i.size:=by
  rw[List.length_take,hl];exact Nat.min_eq_left (Nat.mul_le_mul_right _ hms)
 have hf:(Builtin.firstCells i.size m (.slice q sn sc)).run P w=.ok (ss.take (m*i.size)).toArray w:=by
  cases q with
  | none=>
   have:ss.take (m*i.size)=[]:=by
    apply List.eq_nil_of_length_eq_zero;rw[htl];by_cases h0:m*i.size=0
    ·exact h0
    ·have:0<ss.length:=by
      rw[hl];have:0<m*i.size:=by omega
      exact Nat.lt_of_lt_of_le this (Nat.mul_le_mul_right _ hms)
     obtain⟨a,ha,_⟩:=hq 0 ss[0] (by simp[this]);cases ha
   rw[this]
   simp[Builtin.firstCells]
  | some a=>
   refine run_firstCells_some (P:=P) w i.size m a sn sc _ htl (fun j v hj=>?_);rw[List.getElem?_take]at hj;split at hj
   ·obtain⟨b,hb,hc⟩:=hq j v hj;obtain rfl:=Option.some.inj hb;exact hc
   ·cases hj
 have hone:∀u∈ss.take (m*i.size),u.oneCell'=true:=fun u hu=>h1 u (List.mem_of_mem_take hu)
 cases p with
 | none=>
  obtain⟨rfl,rfl⟩:=l4;have:m=0:=by omega
  subst this;refine⟨w,?_,by simpa using h,af.refl _ _⟩
  simp[Builtin.copy_,run_underlying hu,sizeOf,typeInfo,hi,Builtin.lenOf,hf,goInt]at hm⊢
 | some a=>
  obtain⟨cells,hbk,hsp,hfit,htk⟩:=l4;obtain⟨b,o,sp⟩:=a;simp only at hsp hbk hfit htk;subst hsp;have hle:m*i.size<=dc*i.size:=Nat.mul_le_mul_right _ (by omega);have hfit':o+0+(ss.take (m*i.size)).length<=cells.toArray.size:=by rw[htl];simp only[List.size_toArray];omega
  have hst:=run_storeCells_at P b o e (ss.take (m*i.size)) 0 cells.toArray w hbk hfit' hone;simp only[Nat.add_zero]at hst;have hW:=BB (w:=w) (b:=b) (c:=cells.toArray) (T:=e) hbk (aI cells o (ss.take (m*i.size)));refine⟨_,?_,?_,hW.ae ⟨_,rfl,rfl⟩⟩
  ·have hmin:Nat.min sn dn=m:=hm;simp[Builtin.copy_,run_underlying hu,sizeOf,typeInfo,hi,Builtin.lenOf,hmin,hf,hst,goInt,aI]
  ·have hlc:(aI cells o (ss.take (m*i.size))).length=cells.length:=ue (by rw[htl];omega);have hdl:m*i.size<=dn*i.size:=Nat.mul_le_mul_right _ hmd;refine⟨by rw[List.length_append,htl,List.length_drop,l1];omega,l2,l3,_,hW.ai,rfl,by rw[hlc];exact hfit,?_⟩;subst htk;apply List.ext_getElem?;intro j;have hcd:dn*i.size<=dc*i.size:=Nat.mul_le_mul_right _ l2;unfold aI;simp only[List.getElem?_take,List.getElem?_drop,List.getElem?_append,List.length_append,List.length_take,htl];generalize m*i.size=x at *;generalize dn*i.size=y at *;generalize dc*i.size=u at *;rw[List.length_take]at htl
   grind
theorem afs {P:Program} {t e:TypeId} {sz bytes:Nat} {z:List Value} (he:dH P t e sz bytes z) {w:World} {p:Option Addr} {dn dc:Nat} {ds:List Value} (h:Sl w e sz p dn dc ds)
  {q:Option Addr} {sn sc:Nat} {ss:List Value} (hq:Cells w q ss) (hl:ss.length=sn*sz) (h1:∀u∈ss,u.oneCell'=true) (ty:TypeId) {k:Nat} (hk:k<=dn) :
  ∃w',(Builtin.copy_ #[t,t] ty #[.slice (dO p dc k sz) (dn-k) (dc-k),.slice q sn sc]).run P w=.ok (.int .i64 ((min sn (dn-k):Nat):Int)) w'/\
   Sl w' e sz p dn dc (aI ds (k*sz) (ss.take (min sn (dn-k)*sz)))/\af (aL p) w w':=by
 obtain⟨hu,hinfo,hzs,hpos⟩:=he;obtain⟨i,hi,hii⟩:=Option.map_eq_some_iff.1 hinfo;simp only[Prod.mk.injEq]at hii;obtain⟨hz,hs1,hb1⟩:=hii;subst hs1;obtain⟨l1,l2,l3,l4⟩:=id h;generalize hm:min sn (dn-k)=m;have hms:m<=sn:=by omega
 have hmd:m<=dn-k:=by omega
 have htl:(ss.take (m*i.size)).length=m*i.size:=by
  rw[List.length_take,hl];exact Nat.min_eq_left (Nat.mul_le_mul_right _ hms)
 have hf:(Builtin.firstCells i.size m (.slice q sn sc)).run P w=.ok (ss.take (m*i.size)).toArray w:=by
  cases q with
  | none=>
   have:ss.take (m*i.size)=[]:=by
    apply List.eq_nil_of_length_eq_zero;rw[htl];by_cases h0:m*i.size=0
    ·exact h0
    ·have:0<ss.length:=by
      rw[hl];have:0<m*i.size:=by omega
      exact Nat.lt_of_lt_of_le this (Nat.mul_le_mul_right _ hms)
     obtain⟨a,ha,_⟩:=hq 0 ss[0] (by simp[this]);cases ha
   rw[this]
   simp[Builtin.firstCells]
  | some a=>
   refine run_firstCells_some (P:=P) w i.size m a sn sc _ htl (fun j v hj=>?_);rw[List.getElem?_take]at hj;split at hj
   ·obtain⟨b,hb,hc⟩:=hq j v hj;obtain rfl:=Option.some.inj hb;exact hc
   ·cases hj
 have hone:∀u∈ss.take (m*i.size),u.oneCell'=true:=fun u hu=>h1 u (List.mem_of_mem_take hu);have hmin:Nat.min sn (dn-k)=m:=hm;have hset0:∀o,aI ds o []=ds:=fun o=>by simp[aI]
 by_cases h0:m=0
 ·subst h0;simp only[Nat.zero_mul,List.take_zero]at hf⊢;refine⟨w,?_,by rw[hset0];exact h,af.refl _ _⟩
  cases hp:dO p dc k i.size with
  | none=>simp[Builtin.copy_,run_underlying hu,sizeOf,typeInfo,hi,Builtin.lenOf,hmin,hf,goInt]
  | some a=>simp[Builtin.copy_,run_underlying hu,sizeOf,typeInfo,hi,Builtin.lenOf,hmin,hf,goInt,storeCells]
 ·cases p with
  | none=>obtain⟨rfl,rfl⟩:=l4;omega
  | some a=>
   obtain⟨cells,hbk,hsp,hfit,htk⟩:=l4;obtain⟨b,o,sp⟩:=a;simp only at hsp hbk hfit htk;subst hsp
   have hsub:dO (some (⟨b,o,none⟩:Addr)) dc k i.size=some ⟨b,o+k*i.size,none⟩:=by
    unfold dO;rw[if_neg (by omega),Option.map_some,add_lit]
   have hle:k*i.size+m*i.size<=dn*i.size:=by rw[<-Nat.add_mul];exact Nat.mul_le_mul_right _ (by omega)
   have hcd:dn*i.size<=dc*i.size:=Nat.mul_le_mul_right _ l2;have hfit':o+k*i.size+0+(ss.take (m*i.size)).length<=cells.toArray.size:=by rw[htl];simp only[List.size_toArray];omega
   have hst:=run_storeCells_at P b (o+k*i.size) e (ss.take (m*i.size)) 0 cells.toArray w hbk hfit' hone;simp only[Nat.add_zero]at hst;have hW:=BB (w:=w) (b:=b) (c:=cells.toArray) (T:=e) hbk (aI cells (o+k*i.size) (ss.take (m*i.size)));rw[hsub];refine⟨_,?_,?_,hW.ae ⟨_,rfl,rfl⟩⟩
   ·simp[Builtin.copy_,run_underlying hu,sizeOf,typeInfo,hi,Builtin.lenOf,hmin,hf,hst,goInt,aI]
   ·have hlc:(aI cells (o+k*i.size) (ss.take (m*i.size))).length=cells.length:=ue (by rw[htl];omega);refine⟨by rw[ue (by rw[htl,l1];omega),l1],l2,l3,_,hW.ai,rfl,by rw[hlc];exact hfit,?_⟩;subst htk;apply List.ext_getElem?;intro j;unfold aI;simp only[List.getElem?_take,List.getElem?_drop,List.getElem?_append,List.length_append,List.length_take,htl,List.length_drop];generalize m*i.size=x at *;generalize dn*i.size=y at *;generalize dc*i.size=u at *;generalize k*i.size=v at *;rw[List.length_take]at htl
    grind
def Lv {α:Type} (T:TypeId) (f:α->Value):Ob (Option Addr×Nat×List α):=fun w F x=>(∀i,F i↔aL x.1 i)/\Sl w T 1 x.1 x.2.2.length x.2.1 (x.2.2.map f)
theorem WM {P:Program} {t e:TypeId} {bytes:Nat} {α:Type} {f:α->Value} {x0:α} (he:dH P t e 1 bytes [f x0]) (w:World) {n:Nat} (hb:n*bytes<=140737488355328) (hn:n<=1048576) (k1 k2:IntKind) :
  ∃w',(Instr.makeSlice t (.int k1 (n:Int)) (.int k2 (n:Int))).run P w=.ok (.slice (some ⟨w.heap.size,0,none⟩) n n) w'/\af no w w'/\
   Lv e f w' (aL (some ⟨w.heap.size,0,none⟩)) (some ⟨w.heap.size,0,none⟩,n,List.replicate n x0):=by
 obtain⟨w',h1,h2⟩:=run_mk he w hb (by omega) k1 k2 (f:=fun x:α=>[f x]) (x0:=x0) (fun _=>rfl) rfl;rw[Ww]at h2;refine⟨w',h1,h2.ae no,fun _=>Iff.rfl,?_⟩;simp only[List.length_replicate];exact Sl.new h2 (by simp) (by unfold maxLen;omega)
end Go.Dav
namespace Go.Dav
structure Ring where
 r:List Int
 f:Nat
 m:Nat
structure Ring.ok (g:Ring):Prop where
 pos:0<g.r.length
 le:g.r.length<=1024
 f:g.f<g.r.length
 m:g.m<=g.r.length
def pl (c f k:Nat):Nat:=if f+k<c then f+k else f+k-c
theorem aeH {c f k:Nat} (hf:f<c) (hk:k<=c):(f+k)%c=pl c f k:=by
 unfold pl;split
 ·exact Nat.mod_eq_of_lt (by assumption)
 ·rw[Nat.mod_eq_sub_mod (by omega),Nat.mod_eq_of_lt (by omega)]
theorem wL {c f k:Nat} (hf:f<c) (hk:k<=c):pl c f k<c:=by unfold pl;split<;>omega
theorem aeG {c f k j:Nat} (hk:k<c) (hj:j<c) (h:pl c f k=pl c f j):k=j:=by unfold pl at h;split at h<;>split at h<;>omega
def view (g:Ring):List Int:=(List.range g.m).map (fun k=>g.r.getD (pl g.r.length g.f k) 0)
theorem je (g:Ring):(view g).length=g.m:=by simp[view]
theorem amq (g:Ring) {k:Nat} (h:k<g.m):(view g)[k]'(by rw[je];exact h)=g.r.getD (pl g.r.length g.f k) 0:=by simp[view]
theorem uA (g:Ring) (k:Nat):(view g)[k]?=if k<g.m then some (g.r.getD (pl g.r.length g.f k) 0)else none:=by
 split
 ·rename_i h;rw[List.getElem?_eq_getElem (by rw[je];exact h),amq g h]
 ·exact List.getElem?_eq_none (by rw[je];omega)
theorem XD {g:Ring} (h:g.ok) {i:Nat} (hi:i<g.r.length) (v:Int) {m:Nat} (hm:m<=g.r.length) :
  view ⟨g.r.set (pl g.r.length g.f i) v,g.f,m⟩=(view ⟨g.r,g.f,m⟩).set i v:=by
 apply List.ext_getElem?;intro k;rw[uA,List.getElem?_set,uA,je];simp only[List.length_set];by_cases hk:k<m
 ·simp only[hk,if_true];by_cases hik:i=k
  ·subst hik;simp[hk,List.getD_eq_getElem?_getD,wL h.f (Nat.le_of_lt hi)]
  ·rw[if_neg hik];have:pl g.r.length g.f i≠pl g.r.length g.f k:=fun e=>hik (aeG hi (by omega) e);simp[List.getD_eq_getElem?_getD,this]
 ·simp only[hk,if_false];by_cases hik:i=k
  ·rw[if_pos hik,if_neg (by omega)]
  ·rw[if_neg hik]
theorem ams (r:List Int) (f m:Nat):view ⟨r,f,m+1⟩=view ⟨r,f,m⟩++[r.getD (pl r.length f m) 0]:=by
 simp[view,List.range_succ]
theorem amu {g:Ring} (h:g.ok) (hm:g.m<g.r.length) (v:Int):view ⟨g.r.set (pl g.r.length g.f g.m) v,g.f,g.m+1⟩=view g++[v]:=by
 rw[ams,List.length_set,XD h hm v h.m]
 have e1:(view ⟨g.r,g.f,g.m⟩).set g.m v=view g:=by
  apply List.set_eq_of_length_le;rw[je];exact Nat.le_refl _
 rw[e1];simp[List.getD_eq_getElem?_getD,wL h.f h.m]
theorem amt {g:Ring} (h:g.ok) (hm:0<g.m):view g=g.r.getD g.f 0::view ⟨g.r,pl g.r.length g.f 1,g.m-1⟩:=by
 apply List.ext_getElem?;intro k;have hf:=h.f;have h2:=h.m
 cases k with
 | zero=>
  rw[uA,if_pos hm];have:pl g.r.length g.f 0=g.f:=by unfold pl;split<;>omega
  rw[this]
  rfl
 | succ k=>
  rw[List.getElem?_cons_succ,uA,uA];by_cases hk:k+1<g.m
  ·rw[if_pos hk,if_pos (show k<g.m-1 by omega)]
   have:pl g.r.length g.f (k+1)=pl g.r.length (pl g.r.length g.f 1) k:=by
    have hp:=h.pos;unfold pl;split<;>split<;>split<;>omega
   rw[this]
  ·rw[if_neg hk,if_neg (show ¬k<g.m-1 by omega)]
theorem amp (n:Nat):view ⟨List.replicate n 0,0,0⟩=[]:=rfl
theorem XC {g:Ring} (h:g.ok) {x:Int} {l:List Int} (hv:view g=x::l):0<g.m/\g.r.getD g.f 0=x/\view ⟨g.r,pl g.r.length g.f 1,g.m-1⟩=l:=by
 have hm:0<g.m:=by
  have:=je g;rw[hv]at this;simp at this;omega
 rw[amt h hm]at hv;simp only[List.cons.injEq]at hv;exact⟨hm,hv.1,hv.2⟩
theorem amr (r:List Int) (f:Nat) {m k:Nat} (h:k<=m):view ⟨r,f,k⟩=(view ⟨r,f,m⟩).take k:=by
 unfold view;rw[<-List.map_take,List.take_range,Nat.min_eq_left h]
theorem afb {g:Ring} (h:g.ok) (f:Int->Value) :
  aI (((g.r.map f).drop g.f).take (min (g.r.length-g.f) g.m)++((List.replicate g.m (0:Int)).map f).drop (min (g.r.length-g.f) g.m)) (min (g.r.length-g.f) g.m)
   ((g.r.map f).take (min g.r.length (g.m-min (g.r.length-g.f) g.m)))=(view g).map f:=by
 have hf:=h.f;have hm:=h.m;apply List.ext_getElem?;intro k;generalize hn:min (g.r.length-g.f) g.m=n;have hn2:min g.r.length (g.m-n)=g.m-n:=by omega
 rw[hn2,List.getElem?_map,uA];unfold aI;simp only[List.getElem?_append,List.getElem?_take,List.getElem?_drop,List.getElem?_map,List.getElem?_replicate,List.length_append,List.length_take,List.length_drop,List.length_map,List.length_replicate];by_cases hk:k<g.m
 ·rw[if_pos hk];by_cases hkn:k<n
  ·have hp:pl g.r.length g.f k=g.f+k:=by unfold pl;split<;>omega
   have h1:g.f+k<g.r.length:=by omega
   simp[hkn,hp,List.getD_eq_getElem?_getD,h1]
   grind
  ·have hp:pl g.r.length g.f k=k-n:=by unfold pl;split<;>omega
   have h1:k-n<g.r.length:=by omega
   simp[hp,List.getD_eq_getElem?_getD,h1]
   grind
 ·rw[if_neg hk];simp
  grind
theorem qw {α:Type} {f:α->Value} {r:List α} {k:Nat} (h:k<r.length) {v:α}:aI (r.map f) k [f v]=(r.set k v).map f:=by
 unfold aI;rw[List.map_set];apply List.ext_getElem?;intro j;simp only[List.getElem?_append,List.getElem?_take,List.getElem?_drop,List.getElem?_set,List.length_append,List.length_take,List.length_map,List.length_cons,List.length_nil]
 grind
end Go.Dav
namespace Go.Dav
theorem SK {α:Type} {f:α->List Value} {sz:Nat} (hf:∀x,(f x).length=sz) (l:List α):(l.flatMap f).length=l.length*sz:=by
 induction l with
 | nil=>simp
 | cons x l ih=>rw[List.flatMap_cons,List.length_append,hf,ih,List.length_cons,Nat.add_mul,Nat.one_mul,Nat.add_comm]
theorem Fq {α:Type} {f:α->List Value} {sz:Nat} (hf:∀x,(f x).length=sz):∀{l:List α} {k o:Nat} {vs:List Value} {x:α} (hk:k<l.length),o+vs.length<=sz->f x=aI (f l[k]) o vs->
  aI (l.flatMap f) (k*sz+o) vs=(l.set k x).flatMap f
 | y::l,0,o,vs,x,_,ho,hx=>by
  have hy:=hf y;simp only[List.flatMap_cons,Nat.zero_mul,Nat.zero_add,List.set_cons_zero];rw[hx];simp only[List.getElem_cons_zero];unfold aI;apply List.ext_getElem?;intro j;simp only[List.getElem?_append,List.getElem?_take,List.getElem?_drop,List.length_append,List.length_take,List.length_drop,hy]
  grind
 | y::l,k+1,o,vs,x,hk,ho,hx=>by
  have hy:=hf y;simp only[List.flatMap_cons,List.set_cons_succ];have ih:=Fq hf (l:=l) (k:=k) (o:=o) (vs:=vs) (x:=x) (by simpa using hk) ho (by simpa using hx);rw[<-ih];unfold aI;have e1:(k+1)*sz+o=sz+(k*sz+o):=by rw[Nat.add_mul,Nat.one_mul];omega
  rw[e1];apply List.ext_getElem?;intro j;simp only[List.getElem?_append,List.getElem?_take,List.getElem?_drop,List.length_append,List.length_take,hy];generalize k*sz+o=u
  grind
theorem WU {a b vs:List Value} {o:Nat} (h:o+vs.length<=a.length):aI (a++b) o vs=aI a o vs++b:=by
 unfold aI;apply List.ext_getElem?;intro j;simp only[List.getElem?_append,List.getElem?_take,List.getElem?_drop,List.length_append,List.length_take,List.length_drop]
 grind
theorem SL {α:Type} {f:α->List Value} {sz:Nat} (hf:∀x,(f x).length=sz) {l:List α} {k:Nat} (hk:k<l.length):((l.flatMap f).drop (k*sz)).take sz=f l[k]:=by
 apply List.ext_getElem?;intro j;rw[List.getElem?_take,List.getElem?_drop];by_cases hj:j<sz
 ·rw[if_pos hj];have hv:(f l[k])[j]?=some ((f l[k])[j]'(by rw[hf];exact hj)):=by simp[hf,hj]
  rw[hv];exact td hf hk hv
 ·rw[if_neg hj,List.getElem?_eq_none (by rw[hf];omega)]
end Go.Dav
namespace Go.Dav
theorem LJ {P:Program} {t e:TypeId} {bytes:Nat} {z:List Value} (he:dH P t e 1 bytes z) {w w1:World} {p:Option Addr} {n c:Nat} {cs:List Value} {v:Value} (hv:v.oneCell'=true) (h:Sl w e 1 p n c cs) (hb:(n+1)*bytes<=140737488355328) (hl:n<=1048576)
  {T:TypeId} (hN:cH w w1 (.cells (List.toArray [v]) T (0,0))) (ty:TypeId) :
  ∃p' c' w2,(Builtin.append_ #[t,t] ty #[.slice p n c,.slice (some ⟨w.heap.size,0,none⟩) 1 1]).run P w1=.ok (.slice p' (n+1) c') w2/\Sl w2 e 1 p' (n+1) c' (cs++[v])/\af (aL p) w w2/\(∀i,aL p' i->aL p i∨w.heap.size<=i):=by
 have h1:=h.ae (hN.ae no) (fun _ _ hn=>hn);have hN':Sl w1 T 1 (some ⟨w.heap.size,0,none⟩) 1 1 [v]:=Sl.new hN (by simp) (by unfold maxLen;omega);obtain⟨p',n',c',w2,hr,hn,hS,hU,hF⟩:=wT he h1 hN'.cells (m:=1) (d:=1) (by simp) (by simpa using hv) (by simp) hb (by omega) ty;refine⟨p',c',w2,by rw[hr,hn],hS,(hN.ae _).trans hU (fun i _ hi=>hi),fun i hi=>(hF i hi).imp id (fun h=>?_)⟩;rw[hN.size]at h;omega
section
variable {α:Type} {f:α->Value}
end
end Go.Dav
namespace Go.Dav
open Go.Proofs
theorem elU:dH Tryz.prog 290 29 1 8 [.int .u64 0]:=⟨by kernel_rfl,by kernel_rfl,rfl,by omega⟩
structure sa (ws:List BV) (o:List Bool):Prop where
 len:ws.length=(o.length+63)/64
 bits:∀(i:Nat) (hi:i<ws.length) (k:Nat),k<64->ws[i].getLsbD k=o.getD (64*i+k) false
def Gg (m:BV):Value:=.int .u64 (mi m)
def wZ (x:List BV×List Bool) (p:Option Addr) (c:Nat):List Value:=[.slice p x.1.length c,I (x.2.length:Int),I ((x.2.count true:Nat):Int)]
abbrev xz (b:Nat):Ob ((List BV×List Bool)×Option Addr×Nat):=Hd b 292 29 1 wZ (fun x=>x.1.length) (fun x=>x.1.map Gg)
def b8 (b:Nat):Ob (List Bool):=fun w F o=>∃ws y,xz b w F ((ws,o),y)/\sa ws o/\1<=o.length/\o.length<=1024
instance Frame.slo (b:Nat):Frame (b8 b) where
 ae:=fun⟨ws,y,h,r⟩ k hG=>⟨ws,y,(Frame.hd ..).ae h k hG,r⟩
 lt:=fun⟨_,_,h,_⟩=>(Frame.hd ..).lt h
def bL (o:List Bool) (n:Int):Bool:=if 1<=n then o.getD (n.toNat-1) false else false
def cQ (o:List Bool):Int×Int:=match o.findIdx? (fun x=>!x)with|some i=>((i:Int)+1,0)|none=>(0,5)
def fK (o:List Bool):List Bool:=match o.findIdx? (fun x=>!x)with|some i=>o.set i true|none=>o
def oR (o:List Bool) (n:Int):Int:=if bL o n then 0 else 4
def jy (o:List Bool) (n:Int):List Bool:=if bL o n then o.set (n.toNat-1) false else o
def kZ (o:List Bool) (k:Nat):List Int:=((List.range k).filter (fun i=>o.getD i false)).map (fun(i:Nat)=>(i:Int)+1)
theorem S7 (o:List Bool) (n:Int):(jy o n).length=o.length:=by unfold jy;split<;>simp
theorem aer (o:List Bool) (k:Nat):kZ o (k+1)=if o.getD k false then kZ o k++[(k:Int)+1]else kZ o k:=by
 unfold kZ;rw[List.range_succ,List.filter_append,List.map_append];by_cases h:o.getD k false=true
 ·rw[if_pos h,List.filter_cons_of_pos (p:=fun i=>o.getD i false) h];rfl
 ·rw[if_neg h,List.filter_cons_of_neg (p:=fun i=>o.getD i false) h];simp
theorem V2 (o:List Bool) (k:Nat):(kZ o k).length<=k:=by unfold kZ;rw[List.length_map];exact Nat.le_trans (List.length_filter_le ..) (by simp)
theorem adp {o:List Bool} {k:Nat} {n:Int}:n∈kZ o k↔1<=n/\n<=k/\bL o n=true:=by
 unfold kZ bL;rw[List.mem_map];constructor
 ·rintro⟨i,hi,rfl⟩;rw[List.mem_filter,List.mem_range]at hi;refine⟨by omega,by omega,?_⟩;rw[if_pos (by omega),show((i:Int)+1).toNat-1=i by omega];exact hi.2
 ·rintro⟨h1,h2,h3⟩;rw[if_pos h1]at h3;exact⟨n.toNat-1,List.mem_filter.2 ⟨List.mem_range.2 (by omega),h3⟩,by omega⟩
theorem nC {o:List Bool} {n:Int} (h:bL o n=true):1<=n/\n<=(o.length:Int):=by
 unfold bL at h;split at h
 ·refine⟨by assumption,?_⟩;by_cases hl:n.toNat-1<o.length
  ·omega
  ·rw[List.getD_eq_getElem?_getD,List.getElem?_eq_none (by omega)]at h;simp at h
 ·cases h
theorem mz {o:List Bool} {k:Nat}:bL o ((k:Int)+1)=o.getD k false:=by
 unfold bL;rw[if_pos (by omega),show((k:Int)+1).toNat-1=k by omega]
theorem count_set {o:List Bool} {k:Nat} (hk:k<o.length) (v:Bool):(o.set k v).count true+(if o[k]then 1 else 0)=o.count true+(if v then 1 else 0):=by
 induction o generalizing k with
 | nil=>simp at hk
 | cons x l ih=>
  cases k with
  | zero=>cases x<;>cases v<;>simp
  | succ k=>
   have:=ih (k:=k) (by simpa using hk);simp only[List.set_cons_succ,List.count_cons,List.getElem_cons_succ];omega
theorem CF (o:List Bool):o.count true<=o.length:=List.count_le_length
theorem CE {o:List Bool}:o.count true=o.length↔o.findIdx? (fun x=>!x)=none:=by
 rw[List.findIdx?_eq_none_iff];constructor
 ·intro h x hx;rw[List.count_eq_length]at h;simp[<-h x hx]
 ·intro h;rw[List.count_eq_length];intro x hx;have:=h x hx;simpa using this.symm
theorem sa.set {ws:List BV} {o:List Bool} (h:sa ws o) {i k:Nat} (hi:i<ws.length) (hk:k<64) (ho:64*i+k<o.length) {v:Bool} {x:BV} (hx:∀j,j<64->x.getLsbD j=if j=k then v else ws[i].getLsbD j):sa (ws.set i x) (o.set (64*i+k) v):=by
 refine⟨by simpa using h.len,fun i' hi' j hj=>?_⟩;rw[List.length_set]at hi';rw[List.getElem_set,List.getD_eq_getElem?_getD,List.getElem?_set];by_cases h1:i=i'
 ·subst h1;rw[if_pos rfl,hx j hj];by_cases h2:j=k
  ·subst h2;simp[ho]
  ·rw[if_neg h2,if_neg (by omega),h.bits i hi j hj,List.getD_eq_getElem?_getD]
 ·rw[if_neg h1,if_neg (by omega),h.bits i' hi' j hj,List.getD_eq_getElem?_getD]
theorem tg {m:BV} {k:Nat} (hk:k<64):hs m (k:Int)=m.getLsbD k:=by
 unfold hs;rw[decide_eq_true (show 0<=(k:Int)/\(k:Int)<64 by omega)];simp
theorem LU {m:BV} {k:Nat} (hk:k<64):(aw .and .u64 (mi m) (mi (bt k))==0) = !m.getLsbD k:=by
 rw[sv,jA,<-tg hk,<-LG];simp
theorem amR {m:BV} {k j:Nat} (hk:k<64) (hj:j<64):(wi m k).getLsbD j=if j=k then true else m.getLsbD j:=by
 rw[<-tg hj,kT,tg hj];by_cases h:j=k
 ·subst h;simp;omega
 ·simp[h];omega
theorem adf {m:BV} {k j:Nat} (hj:j<64):(ls m k).getLsbD j=if j=k then false else m.getLsbD j:=by
 rw[<-tg hj,eu,tg hj];by_cases h:j=k
 ·subst h;simp
 ·simp[h];omega
section
variable {w:World} {F:Fp} {b:Nat} {o:List Bool}
theorem A0 (n:Int) (w:World):Cx 107 #[I n] w fun e w'=>
  (¬(1<=n/\n<=1024)/\e=Z (.tuple #[.pointer none,I 2])/\w'=w)∨
  ((1<=n/\n<=1024)/\∃b F,e=Z (.tuple #[pt b,I 0])/\b8 b w' F (List.replicate n.toNat false)/\af no w w'/\∀i,F i->w.heap.size<=i):=by
 refine aip ?_;rw[t107];refine⟨fun h1=>⟨fun h2=>.inl ⟨?_,rfl,rfl⟩,fun h2=>⟨by decide,?_⟩⟩,fun h1=>.inl ⟨?_,rfl,rfl⟩⟩
 ·simp at h2;omega
 ·have h1:¬n<1:=by simpa using h1
  have h2:¬1024<n:=by simpa using h2
  obtain⟨m,rfl⟩:∃m:Nat,n=m:=⟨n.toNat,by omega⟩
  have e0:IntKind.wrap .i64 (Int.tdiv (IntKind.wrap .i64 (IntKind.wrap .i64 ((m:Int)+64)-1)) 64)=(((m+63)/64:Nat):Int):=by
   rw[aD (x:=(m:Int)+64) (by omega),aD (x:=(m:Int)+64-1) (by omega),Int.tdiv_eq_ediv_of_nonneg (by omega),aD (by omega)];omega
  rw[e0];obtain⟨w1,hr,hU,hL⟩:=WM (f:=Gg) (x0:=0) elU w (n:=(m+63)/64) (by omega) (by omega) .i64 .i64;refine⟨_,_,_,w1,hr,⟨fun w2 hN=>.inr ⟨by omega,w1.heap.size,fun i=>i=w1.heap.size∨aL (some ⟨w.heap.size,0,none⟩) i,rfl,⟨List.replicate ((m+63)/64) 0,(some ⟨w.heap.size,0,none⟩,(m+63)/64),⟨?_,?_,?_,fun _=>Iff.rfl⟩,⟨by simp,fun i hi k hk=>?_⟩,by simp;omega,by simp;omega⟩,hU.and (hN.ae no),?_⟩⟩⟩
  ·show aE w2 w1.heap.size (wZ (List.replicate ((m+63)/64) 0,List.replicate (Int.toNat (m:Int)) false) _ ((m+63)/64)) _;unfold wZ;simp only[List.length_replicate,Int.toNat_natCast,List.count_replicate];exact hN.aF
  ·have hS:=hL.2.ae (hN.ae no) fun _ _ h=>h;simp only[List.length_replicate]at hS⊢;exact hS
  ·rintro⟨a,ha,hb⟩;cases ha;have:=hU.size;have:=hL.2.lt _ ⟨_,rfl,rfl⟩;simp only at hb this;omega
  ·simp[List.getD_eq_getElem?_getD,List.getElem?_replicate];split<;>rfl
  ·rintro i (rfl|⟨a,ha,rfl⟩)
   ·exact hU.size
   ·cases ha;exact Nat.le_refl _
 ·simp at h1;omega
theorem afT (h:b8 b w F o):Cx 339 #[pt b] w fun e w'=>e=Z (I (o.length:Int))/\w'=w:=by
 obtain⟨ws,y,h1,h2,h3⟩:=h;refine alD ?_;rw[t339];exact⟨fun h=>by simp at h,fun _=>⟨_,rfl,_,h1.ai.cell rfl,rfl,rfl⟩⟩
theorem W6 {o:List Bool} {n:Int} (h:1<=n/\n<=(o.length:Int)):∃i k:Nat,k<64/\64*i+k<o.length/\n=((64*i+k:Nat):Int)+1:=
 ⟨(n.toNat-1)/64,(n.toNat-1)%64,by omega,by omega,by omega⟩
theorem W0 {ws:List BV} {y:Option Addr×Nat} (h:xz b w F ((ws,o),y)) (hw:sa ws o) (hl:1<=o.length/\o.length<=1024) {i k:Nat} (hk:k<64) (ho:64*i+k<o.length) :
  Cx 363 #[pt b,I (((64*i+k:Nat):Int)+1)] w fun e w'=>(∃a,y.1=some a/\e=Z (.tuple #[.pointer (some (a.add (i*1))),.int .u64 (mi (bt k))]))/\af no w w':=by
 refine Xx ?_;rw[t363];refine⟨fun _=>⟨fun _=>⟨_,rfl,_,h.ai.cell rfl,fun g=>absurd (of_decide_eq_true g) (by simp only;omega),fun _=>?_⟩,fun g=>absurd (of_decide_eq_true g) (by omega)⟩,fun g=>by simp at g⟩;intro w1 q1 q2 q3 q4;have hU:=af.same no q1 q2 q3 q4;have h1:=(Frame.hd ..).ae h hU fun _ _ h=>h;have e0:IntKind.wrap .i64 (((64*i+k:Nat):Int)+1-1)=((64*i+k:Nat):Int):=by rw[aD (by omega)];omega
 have e1:Int.tdiv ((64*i+k:Nat):Int) 64=(i:Int):=by rw[Int.tdiv_eq_ediv_of_nonneg (by omega)];omega
 have e2:Int.tmod ((64*i+k:Nat):Int) 64=(k:Int):=by rw[Int.tmod_eq_emod_of_nonneg (by omega)];omega
 have e3:IntKind.wrap .i64 (i:Int)=(i:Int):=aD (by omega);have hi:i<ws.length:=by have:=hw.len;omega
 obtain⟨a,ha,_⟩:=h1.sl.cells.bC (l:=ws) hi;rw[e0,e1,e2,e3,Fu (by omega)]
 first
  | exact⟨_,rfl,_,_,_,h1.ai.cell rfl,by decide,⟨by omega,by simp only;omega⟩,a,ha,by decide,by omega,⟨a,ha,rfl⟩,hU⟩
  | exact⟨_,rfl,_,_,_,h1.ai.cell rfl,by decide,by decide,by omega,⟨by omega,by simp only;omega⟩,a,ha,⟨a,ha,rfl⟩,hU⟩
  | exact⟨_,rfl,_,_,_,h1.ai.cell rfl,by decide,⟨by omega,by simp only;omega⟩,a,ha,by decide,by omega,rfl,hU⟩
theorem W4 (h:b8 b w F o) {n:Int} (hn:¬(1<=n/\n<=(o.length:Int))):Cx 363 #[pt b,I n] w fun e w'=>e=Z (.tuple #[.pointer none,.int .u64 0])/\w'=w:=by
 obtain⟨ws,y,h1,h2,h3⟩:=h;refine Xx ?_;rw[t363];refine⟨fun _=>⟨fun g=>⟨_,rfl,_,h1.ai.cell rfl,fun _=>⟨rfl,rfl⟩,fun g2=>?_⟩,fun _=>⟨rfl,rfl⟩⟩,fun g=>by simp at g⟩;have:=of_decide_eq_false g;have:=of_decide_eq_false g2;simp only at this;omega
theorem afU (h:b8 b w F o) (n:Int):Cx 340 #[pt b,I n] w fun e w'=>e=Z (.bool (bL o n))/\af no w w':=by
 refine alE ?_;rw[t340];by_cases hn:1<=n/\n<=(o.length:Int)
 ·obtain⟨ws,y,h1,h2,h3⟩:=h;obtain⟨i,k,hk,ho,rfl⟩:=W6 hn;refine⟨(W0 h1 h2 h3 hk ho).mono ?_⟩;rintro e w1 ⟨⟨a,ha,rfl⟩,hU⟩;have h1':=(Frame.hd ..).ae h1 hU fun _ _ h=>h;have hi:i<ws.length:=by have:=h2.len;omega
  obtain⟨a',ha',hc⟩:=h1'.sl.cells.bC (l:=ws) hi;obtain rfl:=Option.some.inj (ha.symm.trans ha');have hb:=LU (m:=ws[i]) hk;have hx:=h2.bits i hi k hk;refine⟨_,_,rfl,fun _=>⟨_,rfl,_,hc,?_,hU⟩,fun g=>by simp at g⟩;rw[bne,hb,hx,Bool.not_not,mz]
 ·refine⟨(W4 h hn).mono ?_⟩;rintro e w1 ⟨rfl,rfl⟩
  have:bL o n=false:=by
   cases hh:bL o n with
   | false=>rfl
   | true=>exact absurd (nC hh) hn
  rw[this];exact⟨_,_,rfl,fun g=>by simp at g,fun _=>⟨rfl,af.refl _ _⟩⟩
theorem W5 {ws:List BV} {y:Option Addr×Nat} (h:xz b w F ((ws,o),y)) (hw:sa ws o) (hl:1<=o.length/\o.length<=1024) {w1:World} (hU:af no w w1) {i k:Nat} (hk:k<64) (ho:64*i+k<o.length) (hi:i<ws.length) {v:Bool} {x:BV}
  (hx:∀j,j<64->x.getLsbD j=if j=k then v else ws[i].getLsbD j) {K:World->Prop}
  (hK:∀w2,w2.cell? ((⟨b,0,none⟩:Addr).add 2)=some (I ((o.count true:Nat):Int))->Wr w2 ((⟨b,0,none⟩:Addr).add 2) [I (((o.set (64*i+k) v).count true:Nat):Int)] (fun w3=>aa (b8 b) w w3 F (o.set (64*i+k) v))->K w2) :
  ∃a,y.1=some a/\Wr w1 (a.add (i*1)) [.int .u64 (mi x)] K:=by
 have h1:=(Frame.hd ..).ae h hU fun _ _ h=>h;have hS:=h1.sl;obtain⟨a,ha,_⟩:=hS.cells.bC (l:=ws) hi;simp only at ha hS;rw[ha]at hS;refine⟨a,ha,hS.wr (o:=i*1) (by simp;omega) fun w2 hS2 hU2=>?_⟩;have hB:=h1.xK (w1:=w2) (by rw[ha];exact hU2);rw[Nat.mul_one]at hS2;have e:[Value.int .u64 (mi x)]=[Gg x]:=rfl;rw[e,qw hi]at hS2;refine hK w2 (hB.cell rfl) (hB.wr (by simp[wZ]) fun w3 hW=>?_)
 have hT:aa (xz b) w1 w3 F ((ws.set i x,o.set (64*i+k) v),y):=by
  refine h1.put (p':=y.1) (c':=y.2) (w1:=w2) ?_ (by rw[ha];exact hU2) (fun i hi=>.inl hi) ?_
  ·simp only[List.length_set];rw[ha];exact hS2
  ·have hW':=hW;simp only[wZ,List.length_set];exact hW'
 obtain⟨F',t1,t2,t3⟩:=hT;exact⟨F',⟨_,y,t1,hw.set hi hk ho hx,by simpa using hl⟩,(hU.mono (fun _ _ h=>h.elim)).trans t2 (fun _ _ h=>h),fun i hi=>(t3 i hi).imp id (fun h=>Nat.le_trans hU.size h)⟩
theorem AZ (h:b8 b w F o) (n:Int):Cx 305 #[pt b,I n] w fun e w'=>e=Z (I (oR o n))/\aa (b8 b) w w' F (jy o n):=by
 refine ak5 ?_;rw[t305];by_cases hn:1<=n/\n<=(o.length:Int)
 ·obtain⟨ws,y,h1,h2,h3⟩:=id h;obtain⟨i,k,hk,ho,rfl⟩:=W6 hn;refine⟨(W0 h1 h2 h3 hk ho).mono ?_⟩;rintro e w1 ⟨⟨a,ha,rfl⟩,hU⟩;have h1':=(Frame.hd ..).ae h1 hU fun _ _ h=>h;have hi:i<ws.length:=by have:=h2.len;omega
  obtain⟨a',ha',hc⟩:=h1'.sl.cells.bC (l:=ws) hi;obtain rfl:=Option.some.inj (ha.symm.trans ha');have hb:=LU (m:=ws[i]) hk;have hx:=h2.bits i hi k hk;rw[hx]at hb;have hg:bL o (((64*i+k:Nat):Int)+1)=o.getD (64*i+k) false:=mz;have hcl:=CF o;have hcs:=count_set ho false;have hgd:o.getD (64*i+k) false=o[64*i+k]:=by simp[ho]
  refine⟨_,_,rfl,fun g=>by simp at g,fun _=>⟨fun _=>⟨_,rfl,_,hc,fun g=>?_,fun g=>?_⟩,fun g=>by simp at g⟩⟩
  ·have g:o.getD (64*i+k) false=false:=by rw[hb]at g;simpa using g
   rw[oR,jy,hg,g];exact⟨rfl,aa.quiet h hU⟩
  ·have g:o.getD (64*i+k) false=true:=by rw[hb]at g;simpa using g
   rw[hgd]at g;rw[g]at hcs;simp only[if_true,Bool.false_eq_true,if_false]at hcs;refine⟨_,rfl,_,hc,?_⟩;rw[vq]
   obtain⟨a2,ha2,hW⟩:=W5 h1 h2 h3 hU hk ho hi (v:=false) (x:=ls ws[i] k) (fun j hj=>adf hj) (K:=fun w2=>∃a,some (⟨b,0,none⟩:Addr)=some a/\∃n_1,w2.cell? (Addr.add a 2)=some (Value.int .i64 n_1)/\∃a,some (⟨b,0,none⟩:Addr)=some a/\Wr w2 (Addr.add a 2) [Value.int .i64 (IntKind.wrap .i64 (n_1-1))] fun w'=>Ending.returned (Value.int .i64 0)=Ending.returned (I (oR o (((64*i+k:Nat):Int)+1)))/\aa (b8 b) w w' F (jy o (((64*i+k:Nat):Int)+1)))
    (fun w2 c1 c2=>⟨_,rfl,_,c1,_,rfl,by
     rw[aD (by omega),show((o.count true:Nat):Int)-1=(((o.set (64*i+k) false).count true:Nat):Int) by omega];obtain⟨⟨cc,T,r1,r2,r3,r4⟩⟩:=c2;refine⟨⟨cc,T,r1,r2,r3,fun w' hw'=>⟨?_,?_⟩⟩⟩
     ·rw[oR,hg,hgd,g];rfl
     ·rw[jy,hg,hgd,g,if_pos rfl,show(((64*i+k:Nat):Int)+1).toNat-1=64*i+k by omega];exact r4 w' hw'⟩)
   obtain rfl:=Option.some.inj (ha.symm.trans ha2);exact⟨_,rfl,hW⟩
 ·have hf:bL o n=false:=by
   cases hh:bL o n with
   | false=>rfl
   | true=>exact absurd (nC hh) hn
  refine⟨(W4 h hn).mono ?_⟩;rintro e w1 ⟨rfl,rfl⟩;rw[oR,jy,hf];exact⟨_,_,rfl,fun g=>by simp at g,fun _=>⟨fun g=>by simp at g,fun _=>⟨rfl,aa.same h⟩⟩⟩
theorem A3 (hT:Tab w) (h:b8 b w F o):Cx 149 #[pt b] w fun e w'=>e=Z (.tuple #[I (cQ o).1,I (cQ o).2])/\aa (b8 b) w w' F (fK o):=by
 obtain⟨ws,y,h1,h2,h3⟩:=id h;have hcl:=CF o;refine ai7 ?_;rw[t149];refine⟨fun g=>by simp at g,fun _ w1 q1 q2 q3 q4=>?_⟩;have hU:=af.same no q1 q2 q3 q4;have h1':=(Frame.hd ..).ae h1 hU fun _ _ h=>h;refine⟨_,rfl,_,h1'.ai.cell rfl,_,rfl,_,h1'.ai.cell rfl,fun g=>?_,fun g=>⟨_,rfl,_,_,_,h1'.ai.cell rfl,?_⟩⟩
 ·have g:o.count true=o.length:=by have:=eq_of_beq g;simp only at this;omega
  have hn:=CE.1 g;simp only[cQ,fK,hn];exact⟨by trivial,aa.quiet h hU⟩
 ·have g:o.count true≠o.length:=by have:=ne_of_beq_false g;simp only at this;omega
  have hlen:=h2.len;refine⟨bA bf (M:=uI) (σ:=Nat) (fun j=>CT (some ⟨b,0,none⟩) y.1 ws.length y.2 (ws.length:Int) (j:Int)) (fun j w'=>j<=ws.length/\(∀i,i<64*j->i<o.length->o.getD i false=true)/\af no w w') (fun j _=>ws.length-j) 0 ⟨rfl,rfl,rfl,rfl,trivial⟩ ⟨by omega,fun i hi=>by omega,hU⟩ ?_⟩;clear h1' hU q1 q2 q3 q4;rintro j w2 ⟨k1,k2,hU⟩;rw[agt];have h1':=(Frame.hd ..).ae h1 hU fun _ _ h=>h;refine⟨fun gj=>?_,fun gj=>?_⟩
  ·have hj:j<ws.length:=by simpa using gj
   obtain⟨a,ha,hc⟩:=h1'.sl.cells.bC (l:=ws) hj;refine⟨⟨by omega,by omega⟩,a,ha,_,hc,?_⟩;show Call Tryz.prog _ [.int .u64 (aw .xor .u64 (IntKind.max .u64) (mi ws[j]))] w2 _;rw[show IntKind.max .u64=18446744073709551615 by decide +kernel,aec];refine⟨(Gd _ (hT.no hU)).mono ?_⟩;rintro e w3 ⟨rfl,rfl⟩;refine⟨_,rfl,fun g2=>?_,fun g2=>?_⟩
   ·have hne:=Xu.1 (of_decide_eq_true g2);obtain⟨k,hk,hb1,hb2⟩:=tE hne;have htz:=Bl hk hb1 hb2;rw[htz]
    have nb:∀i:Nat,i<64->hs (~~~ ws[j]) (i:Int) = !(o.getD (64*j+i) false):=fun i hi=>by
     rw[tg hi,BitVec.getLsbD_not,h2.bits j hj i hi];simp[hi]
    have hko:o.getD (64*j+k) false=false:=by have:=nb k hk;rw[hb1]at this;simpa using this.symm
    have hlow:∀i,i<64*j+k->i<o.length->o.getD i false=true:=fun i hi hio=>by
     by_cases hij:i<64*j
     ·exact k2 i hij hio
     ·have:=nb (i-64*j) (by omega);rw[hb2 _ (by omega),show 64*j+(i-64*j)=i by omega]at this;simpa using this.symm
    have ho:64*j+k<o.length:=Decidable.byContradiction fun hno=>g (CE.2 (List.findIdx?_eq_none_iff.2 fun x hx=>by
     obtain⟨i,hi,rfl⟩:=List.mem_iff_getElem.1 hx;have:=hlow i (by omega) hi;simp[hi]at this;simp[this]))
    have hf:o.findIdx? (fun x=>!x)=some (64*j+k):=List.findIdx?_eq_some_iff_getElem.2 ⟨ho,by simp[ho]at hko;simp[hko],fun i hi=>by
     have:=hlow i hi (by omega);simp[show i<o.length by omega]at this;simp[this]⟩
    have hcs:=count_set ho true;have hgd:o[64*j+k]=false:=by simp[ho]at hko;exact hko
    rw[hgd]at hcs;simp only[if_true,Bool.false_eq_true,if_false]at hcs;have hcl2:=CF (o.set (64*j+k) true);rw[List.length_set]at hcl2;intro w4 q1 q2 q3 q4;have hU4:=hU.and (af.same no q1 q2 q3 q4);have h4:=(Frame.hd ..).ae h1 hU4 fun _ _ h=>h;obtain⟨a4,ha4,hc4⟩:=h4.sl.cells.bC (l:=ws) hj;refine⟨_,rfl,_,_,_,h4.ai.cell rfl,⟨by omega,by simp only;omega⟩,a4,ha4,_,hc4,by omega,⟨by omega,by simp only;omega⟩,a4,ha4,?_⟩;show Wr w4 _ [.int .u64 (aw .or .u64 (mi ws[j]) (dq .u64 1 (k:Int)))] _;rw[Fu (by omega),LV]
    obtain⟨a2,ha2,hW⟩:=W5 h1 h2 h3 hU4 hk ho hj (v:=true) (x:=wi ws[j] k) (fun i hi=>amR hk hi) (K:=fun w5=>∃a,some (⟨b,0,none⟩:Addr)=some a/\∃n_1,w5.cell? (Addr.add a 2)=some (Value.int .i64 n_1)/\∃a,some (⟨b,0,none⟩:Addr)=some a/\Wr w5 (Addr.add a 2) [Value.int .i64 (IntKind.wrap .i64 (n_1+1))] fun w'=>Ending.returned (Value.tuple #[I (IntKind.wrap .i64 (IntKind.wrap .i64 (IntKind.wrap .i64 ((j:Int)*64)+(k:Int))+1)),I 0])=Ending.returned (.tuple #[I (cQ o).1,I (cQ o).2])/\aa (b8 b) w w' F (fK o))
     (fun w5 c1 c2=>⟨_,rfl,_,c1,_,rfl,by
      rw[aD (x:=((o.count true:Nat):Int)+1) (by omega),show((o.count true:Nat):Int)+1=(((o.set (64*j+k) true).count true:Nat):Int) by omega];obtain⟨⟨cc,T,r1,r2,r3,r4⟩⟩:=c2;refine⟨⟨cc,T,r1,r2,r3,fun w' hw'=>⟨?_,?_⟩⟩⟩
      ·simp only[cQ,hf];rw[aD (x:=(j:Int)*64) (by omega),aD (x:=(j:Int)*64+(k:Int)) (by omega),aD (by omega)];have:(j:Int)*64+(k:Int)+1=((64*j+k:Nat):Int)+1:=by omega
       rw[this]
      ·simp only[fK,hf];exact r4 w' hw'⟩)
    obtain rfl:=Option.some.inj (ha4.symm.trans ha2);exact hW
   ·have g2:¬tz (~~~ ws[j])<64:=of_decide_eq_false g2;have hz : ~~~ ws[j]=0:=Decidable.byContradiction fun hne=>g2 (Xu.2 hne);refine⟨j+1,⟨rfl,rfl,rfl,by rw[aD (by omega)];rfl,trivial⟩,⟨by omega,fun i hi hio=>?_,hU⟩,by omega⟩;by_cases hij:i<64*j
    ·exact k2 i hij hio
    ·have hb:=h2.bits j hj (i-64*j) (by omega);rw[show 64*j+(i-64*j)=i by omega]at hb;rw[<-hb];have:=congrArg (fun m:BV=>m.getLsbD (i-64*j)) hz;simp only[BitVec.getLsbD_not]at this;simp[show i-64*j<64 by omega]at this;exact this
  ·have:j=ws.length:=by simp at gj;omega
   subst this;refine absurd (CE.2 (List.findIdx?_eq_none_iff.2 fun x hx=>?_)) g;obtain⟨i,hi,rfl⟩:=List.mem_iff_getElem.1 hx;have:=k2 i (by omega) hi;simp[hi]at this;simp[this]
theorem afV (h:b8 b w F o):Cx 272 #[pt b] w fun e w'=>∃p c,e=Z (.slice p (kZ o o.length).length c)/\Loc w w' 3 p c (kZ o o.length):=by
 have hl:o.length<=1024:=by obtain⟨_,_,_,_,h3⟩:=h;exact h3.2
 refine akO ?_;rw[t272];refine⟨(afT h).mono ?_⟩;rintro e w1 ⟨rfl,rfl⟩
 refine⟨_,rfl,⟨bA bf (M:=uS) (σ:=Nat×Option Addr×Nat) (fun s=>C8 (some ⟨b,0,none⟩) s.2.1 (kZ o s.1).length s.2.2 (o.length:Int) (s.1:Int))
  (fun s w'=>s.1<=o.length/\Loc w1 w' 3 s.2.1 s.2.2 (kZ o s.1)) (fun s _=>o.length-s.1) (0,none,0) ⟨rfl,rfl,rfl,rfl,trivial⟩ ⟨by omega,Loc.nil (af.refl _ _) _⟩ ?_⟩⟩
 rintro⟨j,p,c⟩ w2 ⟨k1,hL⟩;simp only at k1 hL⊢;rw[agS];have hs1:=aer o j;have hle:=V2 o j;refine⟨fun g=>?_,fun g=>?_⟩
 ·have hj:j<o.length:=by simpa using g
  rw[aD (x:=(j:Int)+1) (by omega)];have h2:b8 b w2 F o:=(Frame.slo b).ae h hL.U fun _ _ h=>h;refine⟨(afU h2 _).mono ?_⟩;rintro e w3 ⟨rfl,hU⟩;have hL3:=hL.ae hU;rw[mz];refine⟨_,rfl,fun g2=>⟨fun w4 hN=>?_⟩,fun g2=>?_⟩
  ·rw[if_pos g2]at hs1;obtain⟨p',c',w5,hr,hL'⟩:=hL3.push kz (by omega) hN 36;exact⟨p',_,c',w5,hr,(j+1,p',c'),⟨rfl,by rw[hs1];rfl,rfl,rfl,trivial⟩,⟨by simp only;omega,by rw[hs1];exact hL'⟩,by simp only;omega⟩
  ·rw[if_neg (by rw[g2];decide)]at hs1;exact⟨(j+1,p,c),⟨rfl,by rw[hs1];rfl,rfl,rfl,trivial⟩,⟨by simp only;omega,by rw[hs1];exact hL3⟩,by simp only;omega⟩
 ·have:j=o.length:=by simp at g;omega
  subst this;exact⟨p,c,rfl,hL⟩
end
end Go.Dav
namespace Go.Dav
theorem DX {o:List Bool} {k:Nat} (hk:k<o.length) (v:Bool) (n:Int):bL (o.set k v) n=if n=(k:Int)+1 then v else bL o n:=by
 unfold bL;by_cases h1:1<=n
 ·rw[if_pos h1,if_pos h1];by_cases hn:n=(k:Int)+1
  ·subst hn;have e1:((k:Int)+1).toNat-1=k:=by omega
   rw[if_pos rfl,e1];simp[List.getD_eq_getElem?_getD,hk]
  ·rw[if_neg hn];have:k≠n.toNat-1:=by omega
   simp[List.getD_eq_getElem?_getD,this]
 ·rw[if_neg h1,if_neg h1,if_neg (by omega)]
theorem S6 {o:List Bool} {n:Int} (h:bL o n=true):oR o n=0/\∀v,bL (jy o n) v=(bL o v&&decide (v≠n)):=by
 obtain⟨h1,h2⟩:=nC h;refine⟨by rw[oR,if_pos h],fun v=>?_⟩;rw[jy,if_pos h,DX (by omega)];by_cases hv:v=n
 ·rw[if_pos (by omega),hv];simp
 ·rw[if_neg (by omega),decide_eq_true (show v≠n from hv),Bool.and_true]
theorem ahJ {o:List Bool} {j:Nat} (hj:j<o.length) (h1:∀k,k<j->bL o ((k:Int)+1)=true) (h2:bL o ((j:Int)+1)=false):cQ o=((j:Int)+1,0)/\fK o=o.set j true:=by
 have hf:o.findIdx? (fun x=>!x)=some j:=by
  rw[List.findIdx?_eq_some_iff_getElem];rw[mz]at h2;refine⟨hj,by simpa [List.getD_eq_getElem?_getD,hj]using h2,fun k hk=>?_⟩;have:=h1 k hk;rw[mz]at this;have hk2:k<o.length:=by omega
  simpa [List.getD_eq_getElem?_getD,hk2]using this
 unfold cQ fK;rw[hf];exact⟨rfl,rfl⟩
theorem ahH {o:List Bool} (h1:∀k,k<o.length->bL o ((k:Int)+1)=true):cQ o=(0,5)/\fK o=o:=by
 have hf:o.findIdx? (fun x=>!x)=none:=by
  rw[List.findIdx?_eq_none_iff];intro v hv;obtain⟨k,hk,rfl⟩:=List.getElem_of_mem hv;have:=h1 k hk;rw[mz]at this;simpa [List.getD_eq_getElem?_getD,hk]using this
 unfold cQ fK;rw[hf];exact⟨rfl,rfl⟩
theorem A9 (o:List Bool):(∃j:Nat,j<o.length/\cQ o=((j:Int)+1,0)/\fK o=o.set j true/\bL o ((j:Int)+1)=false)∨(cQ o=(0,5)/\fK o=o):=by
 unfold cQ fK
 cases hf:o.findIdx? (fun x=>!x)with
 | none=>exact .inr ⟨rfl,rfl⟩
 | some j=>
  obtain⟨hj,h1,_⟩:=List.findIdx?_eq_some_iff_getElem.1 hf;refine .inl ⟨j,hj,rfl,rfl,?_⟩;rw[mz];simpa [List.getD_eq_getElem?_getD,hj]using h1
end Go.Dav
namespace Go.Dav
def gH {σ:Type} (A:Ob σ):List σ->World->Fp->Prop
 | [],_,F=>∀i,¬F i
 | s::l,w,F=>∃F1 F2,A w F1 s/\gH A l w F2/\(∀i,F i↔F1 i∨F2 i)/\∀i,F1 i->¬F2 i
def Fam {σ:Type} (A:Ob σ):Ob (List σ):=fun w F l=>gH A l w F
section
variable {σ:Type} {A:Ob σ} {w w':World} {F:Fp} {l:List σ} {s:σ}
theorem gH.ae [fa:Frame A]:∀{l:List σ} {F G:Fp},gH A l w F->af G w w'->(∀i,F i->¬G i)->gH A l w' F
 | [],_,_,h,_,_=>h
 | s::l,F,G,⟨F1,F2,h1,h2,h3,h4⟩,k,hG=>
  ⟨F1,F2,fa.ae h1 k (fun i hi=>hG i ((h3 i).2 (.inl hi))),gH.ae h2 k (fun i hi=>hG i ((h3 i).2 (.inr hi))),h3,h4⟩
theorem gH.lt [fa:Frame A]:∀{l:List σ} {F:Fp},gH A l w F->∀i,F i->i<w.heap.size
 | [],_,h,i,hi=>absurd hi (h i)
 | s::l,F,⟨F1,F2,h1,h2,h3,h4⟩,i,hi=>((h3 i).1 hi).elim (fa.lt h1 i) (gH.lt h2 i)
instance Frame.jx [Frame A]:Frame (Fam A) where
 ae:=gH.ae
 lt:=gH.lt
theorem Fam.nil (w:World):Fam A w (fun _=>False) []:=fun _ h=>h
theorem Fam.rep {n:Nat} (h:A w (fun _=>False) s):Fam A w (fun _=>False) (List.replicate n s):=by
 induction n with
 | zero=>exact Fam.nil w
 | succ n ih=>exact⟨_,_,h,ih,fun i=>by simp,fun _ h=>h.elim⟩
theorem Fam.at [fa:Frame A]:∀{l:List σ} {F:Fp} (_:Fam A w F l) {i:Nat} (hi:i<l.length),∃F1,A w F1 l[i]/\(∀j,F1 j->F j)/\∀w' s',aa A w w' F1 s'->aa (Fam A) w w' F (l.set i s')
 | s::l,F,h,0,_=>by
  obtain⟨F1,h1,h2⟩:=au.left (A:=A) (B:=Fam A) (x:=(s,l)) h;obtain⟨F1,F2,h1,h2,h3,h4⟩:=h;refine⟨F1,h1,fun j hj=>(h3 j).2 (.inl hj),fun w' s' k=>?_⟩;obtain⟨F',k1,k2,k3⟩:=k;refine⟨fun i=>F' i∨F2 i,⟨F',F2,k1,gH.ae h2 k2 (fun i hi hf=>h4 i hf hi),fun _=>Iff.rfl,fun i hi hf=>?_⟩,k2.mono (fun i _ hi=>(h3 i).2 (.inl hi)),fun i hi=>?_⟩
  ·rcases k3 i hi with h|h
   ·exact h4 i h hf
   ·have:=gH.lt h2 i hf;omega
  ·rcases hi with hi|hi
   ·exact(k3 i hi).imp (fun h=>(h3 i).2 (.inl h)) id
   ·exact .inl ((h3 i).2 (.inr hi))
 | s::l,F,⟨G1,G2,h1,h2,h3,h4⟩,i+1,hi=>by
  obtain⟨F1,k1,k0,k2⟩:=Fam.at (l:=l) (F:=G2) h2 (i:=i) (by simpa using hi);refine⟨F1,k1,fun j hj=>(h3 j).2 (.inr (k0 j hj)),fun w' s' k=>?_⟩;obtain⟨F',q1,q2,q3⟩:=k2 w' s' k;refine⟨fun i=>G1 i∨F' i,⟨G1,F',fa.ae h1 q2 h4,q1,fun _=>Iff.rfl,fun i hi hf=>?_⟩,q2.mono (fun i _ hi=>(h3 i).2 (.inr hi)),fun i hi=>?_⟩
  ·rcases q3 i hf with h|h
   ·exact h4 i hi h
   ·have:=fa.lt h1 i hi;omega
  ·rcases hi with hi|hi
   ·exact .inl ((h3 i).2 (.inl hi))
   ·exact(q3 i hi).imp (fun h=>(h3 i).2 (.inr h)) id
theorem Fam.xG [fa:Frame A]:∀{l:List σ} {F:Fp} (_:Fam A w F l) {i:Nat} (hi:i<l.length),∃F1,(∀j,F1 j->F j)/\∀w1 G,af G w w1->(∀j,F j->¬G j)->A w1 F1 l[i]/\∀w' s',aa A w1 w' F1 s'->aa (Fam A) w1 w' F (l.set i s')
 | s::l,F,h,0,_=>by
  obtain⟨F1,F2,h1,h2,h3,h4⟩:=h;refine⟨F1,fun j hj=>(h3 j).2 (.inl hj),fun w1 G hU hG=>?_⟩;have h1':=fa.ae h1 hU (fun i hi=>hG i ((h3 i).2 (.inl hi)));have h2':=gH.ae h2 hU (fun i hi=>hG i ((h3 i).2 (.inr hi)));refine⟨h1',fun w' s' k=>?_⟩;obtain⟨F',k1,k2,k3⟩:=k;refine⟨fun i=>F' i∨F2 i,⟨F',F2,k1,gH.ae h2' k2 (fun i hi hf=>h4 i hf hi),fun _=>Iff.rfl,fun i hi hf=>?_⟩,k2.mono (fun i _ hi=>(h3 i).2 (.inl hi)),fun i hi=>?_⟩
  ·rcases k3 i hi with h|h
   ·exact h4 i h hf
   ·have:=gH.lt h2' i hf;omega
  ·rcases hi with hi|hi
   ·exact(k3 i hi).imp (fun h=>(h3 i).2 (.inl h)) id
   ·exact .inl ((h3 i).2 (.inr hi))
 | s::l,F,⟨G1,G2,h1,h2,h3,h4⟩,i+1,hi=>by
  obtain⟨F1,k0,k1⟩:=Fam.xG (l:=l) (F:=G2) h2 (i:=i) (by simpa using hi);refine⟨F1,fun j hj=>(h3 j).2 (.inr (k0 j hj)),fun w1 G hU hG=>?_⟩;obtain⟨q0,q1⟩:=k1 w1 G hU (fun j hj=>hG j ((h3 j).2 (.inr hj)));have h1':=fa.ae h1 hU (fun i hi=>hG i ((h3 i).2 (.inl hi)));refine⟨q0,fun w' s' k=>?_⟩;obtain⟨F',q1,q2,q3⟩:=q1 w' s' k;refine⟨fun i=>G1 i∨F' i,⟨G1,F',fa.ae h1' q2 h4,q1,fun _=>Iff.rfl,fun i hi hf=>?_⟩,q2.mono (fun i _ hi=>(h3 i).2 (.inr hi)),fun i hi=>?_⟩
  ·rcases q3 i hf with h|h
   ·exact h4 i hi h
   ·have:=fa.lt h1' i hi;omega
  ·rcases hi with hi|hi
   ·exact .inl ((h3 i).2 (.inl hi))
   ·exact(q3 i hi).imp (fun h=>(h3 i).2 (.inr h)) id
theorem Fam.push [fa:Frame A]:∀{l:List σ} {F:Fp} (_:Fam A w F l) (_:af no w w') {G:Fp} (_:A w' G s) (_:∀i,G i->w.heap.size<=i),aa (Fam A) w w' F (l++[s])
 | [],F,h,k,G,hA,hG=>⟨G,⟨G,fun _=>False,hA,fun _ h=>h,fun i=>by simp,fun _ _ h=>h⟩,k.mono (fun _ _ h=>h.elim),fun i hi=>.inr (hG i hi)⟩
 | t::l,F,⟨G1,G2,h1,h2,h3,h4⟩,k,G,hA,hG=>by
  obtain⟨F',q1,q2,q3⟩:=Fam.push (l:=l) (F:=G2) h2 k hA hG;refine⟨fun i=>G1 i∨F' i,⟨G1,F',fa.ae h1 k (fun _ _ h=>h),q1,fun _=>Iff.rfl,fun i hi hf=>?_⟩,k.mono (fun _ _ h=>h.elim),fun i hi=>?_⟩
  ·rcases q3 i hf with h|h
   ·exact h4 i hi h
   ·have:=fa.lt h1 i hi;omega
  ·rcases hi with hi|hi
   ·exact .inl ((h3 i).2 (.inl hi))
   ·exact(q3 i hi).imp (fun h=>(h3 i).2 (.inr h)) id
end
section
variable {T:TypeId} {w w':World} {F:Fp} {p:Option Addr} {c:Nat} {l:List Int}
theorem Ls.cells (h:Ls T w F (p,c,l)):Cells w p (l.map (Value.int .i64)):=h.2.cells
theorem Ls.zero (h:Ls T w F (p,c,l)) (hp:p=none):l=[]/\c=0:=by
 obtain⟨_,_,_,h4⟩:=h.2;subst hp;exact⟨List.eq_nil_of_length_eq_zero h4.1,h4.2⟩
theorem Ls.room (h:Ls T w F (p,c,l)):l.length<=c:=h.2.2.1
theorem Ls.behind (h:Ls T w F (p,c,l)) {k:Nat} (hk:k<=l.length):aa (Ls T) w w F (dO p c k 1,c-k,l.drop k):=by
 refine⟨aL (dO p c k 1),⟨fun _=>Iff.rfl,?_⟩,af.refl _ _,fun i hi=>.inl ((h.1 i).2 (SN i hi))⟩;have:=h.2.R4 k hk;rw[Nat.mul_one,<-List.map_drop]at this;simp only[List.length_drop];exact this
theorem Ls.first (h:Ls T w F (p,c,l)) {k:Nat} (hk:k<=l.length):aa (Ls T) w w F (dO p k 0 1,k,l.take k):=by
 obtain⟨hF,h1,h2,h3,h4⟩:=h;simp only at hF h1 h2 h3 h4;have hkc:k<=c:=Nat.le_trans hk h2;refine⟨aL (dO p k 0 1),⟨fun _=>Iff.rfl,?_⟩,af.refl _ _,fun i hi=>.inl ((hF i).2 (SN i hi))⟩;simp only[Xf,List.length_take,Nat.min_eq_left hk];refine⟨by simp;omega,Nat.le_refl _,by omega,?_⟩
 cases p with
 | none=>obtain⟨q1,q2⟩:=h4;exact⟨by omega,by omega⟩
 | some a=>
  obtain⟨cells,hb,hs,hl,ht⟩:=h4;refine⟨cells,hb,hs,by omega,?_⟩;rw[List.map_take,<-ht,List.take_take];congr 1;omega
theorem Ls.empty (h:Ls T w F (p,c,l)):aa (Ls T) w w F (none,0,[]):=⟨fun _=>False,⟨fun i=>⟨fun h=>h.elim,fun⟨a,ha,_⟩=>by cases ha⟩,Sl.nil _ _ _⟩,af.refl _ _,fun _ h=>h.elim⟩
theorem Ls.more {P:Program} {t:TypeId} {z:List Value} (he:dH P t T 1 8 z) (h:Ls T w F (p,c,l)) {q:Option Addr} {m:List Int} {d:Nat} (hq:Cells w q (m.map (Value.int .i64))) (hqn:q=none->d=0) (hb:l.length+m.length<=1048576) (ty:TypeId) :
  ∃p' c' w2,(Builtin.append_ #[t,t] ty #[.slice p l.length c,.slice q m.length d]).run P w=.ok (.slice p' (l++m).length c') w2/\aa (Ls T) w w2 F (p',c',l++m):=by
 obtain⟨p',n',c',w2,hr,hn,hS,hU,hF⟩:=wT he h.2 hq (m:=m.length) (d:=d) (by simp) (by simp[Value.oneCell']) hqn (by simp only;omega) (by simp only;omega) ty;simp only at hn hS hU hF;subst hn;refine⟨p',c',w2,by rw[List.length_append];exact hr,aL p',⟨fun _=>Iff.rfl,?_⟩,hU.mono (fun i _ hi=>(h.1 i).2 hi),fun i hi=>(hF i hi).imp (fun k=>(h.1 i).2 k) id⟩;simp only[List.length_append,List.map_append];exact hS
theorem Ls.fresh {p':Option Addr} {c':Nat} {l':List Int} (k:Loc w w' T p' c' l'):aa (Ls T) w w' F (p',c',l'):=
 ⟨aL p',⟨fun _=>Iff.rfl,k.S⟩,k.U.mono (fun _ _ h=>h.elim),fun i hi=>.inr (k.F i hi)⟩
end
section
variable {w w1 w':World} {F:Fp}
abbrev gi:=Option Addr×Nat×List Int
def eT (y:gi):Value:=.slice y.1 y.2.2.length y.2.1
def rws (ys:List gi):List (List Int):=ys.map (·.2.2)
theorem rO (ys:List gi):(rws ys).length=ys.length:=by simp[rws]
theorem wV (ys:List gi) {i:Nat} (hi:i<ys.length):(rws ys)[i]'(by rw[rO];exact hi)=ys[i].2.2:=by simp[rws]
theorem WO (ys:List gi) (i:Nat) (p:Option Addr) (c:Nat) (l:List Int):rws (ys.set i (p,c,l))=(rws ys).set i l:=by simp[rws,List.map_set]
def Tb (b:Nat) (T E I:TypeId) (enc:Option Addr->Nat->Nat->List Value):Ob (List (List Int)):=fun w F x=>∃y ys,
 au (Hd b T E 1 (fun(ys:List gi) p c=>enc p ys.length c) (fun ys=>ys.length) (fun ys=>ys.map eT)) (Fam (Ls I)) w F ((ys,y),ys)/\rws ys=x
variable {b:Nat} {T E I:TypeId} {enc:Option Addr->Nat->Nat->List Value} {x:List (List Int)}
instance Frame.tb:Frame (Tb b T E I enc) where
 ae:=fun⟨y,ys,h,r⟩ k hG=>⟨y,ys,Frame.star.ae h k hG,r⟩
 lt:=fun⟨_,_,h,_⟩=>Frame.star.lt h
theorem Tb.ai (h:Tb b T E I enc w F x):∃p c,aE w b (enc p x.length c) T:=by
 obtain⟨y,ys,h,rfl⟩:=h;obtain⟨F1,h1,_⟩:=h.left;rw[rO];exact⟨_,_,h1.ai⟩
structure qV (b:Nat) (T E I:TypeId) (enc:Option Addr->Nat->Nat->List Value) (w:World) (F:Fp) (x:List (List Int)) (i:Nat) (l:List Int) (a:Addr) (c0:Nat) (p:Option Addr) (c:Nat) (F1:Fp):Prop where
 ls:Ls I w F1 (p,c,l)
 sub:∀i,F1 i->F i
 ai:∀w',af F1 w w'->aE w' b (enc (some a) x.length c0) T
 cell:∀w',af F1 w w'->w'.cell? (a.add (i*1))=some (.slice p l.length c)
 put:∀w1 p' c' l',aa (Ls I) w w1 F1 (p',c',l')->∀K:World->Prop,(∀w',aa (Tb b T E I enc) w w' F (x.set i l')->K w')->Wr w1 (a.add (i*1)) [.slice p' l'.length c'] K
def qW (b:Nat) (T E I:TypeId) (enc:Option Addr->Nat->Nat->List Value) (w:World) (F:Fp) (x:List (List Int)) (i:Nat) (a:Addr) (c0:Nat) (p:Option Addr) (c:Nat):Prop:=∃ys,
 au (Hd b T E 1 (fun(ys:List gi) p c=>enc p ys.length c) (fun ys=>ys.length) (fun ys=>ys.map eT)) (Fam (Ls I)) w F ((ys,(some a,c0)),ys)/\rws ys=x/\∃hi:i<ys.length,ys[i].1=p/\ys[i].2.1=c
theorem qW.ae {i:Nat} {a:Addr} {c0:Nat} {p:Option Addr} {c:Nat} {G:Fp} (h:qW b T E I enc w F x i a c0 p c) (k:af G w w') (hG:∀i,F i->¬G i):qW b T E I enc w' F x i a c0 p c:=by
 obtain⟨ys,h,r⟩:=h;exact⟨ys,Frame.star.ae h k hG,r⟩
theorem af.nn {F:Fp} (h:af no w w'):af F w w':=h.mono (fun _ _ h=>h.elim)
theorem qV.js {i:Nat} {l:List Int} {a:Addr} {c0:Nat} {p:Option Addr} {c:Nat} {F1:Fp} (h:qV b T E I enc w F x i l a c0 p c F1):aE w b (enc (some a) x.length c0) T:=h.ai _ (af.refl _ _)
theorem qV.bD {i:Nat} {l:List Int} {a:Addr} {c0:Nat} {p:Option Addr} {c:Nat} {F1:Fp} (h:qV b T E I enc w F x i l a c0 p c F1):w.cell? (a.add (i*1))=some (.slice p l.length c):=h.cell _ (af.refl _ _)
theorem qV.cells {i:Nat} {l:List Int} {a:Addr} {c0:Nat} {p:Option Addr} {c:Nat} {F1:Fp} (h:qV b T E I enc w F x i l a c0 p c F1):Cells w p (l.map (Value.int .i64)):=h.ls.cells
theorem Tb.raw (h:Tb b T E I enc w F x) {i:Nat} (hi:i<x.length):∃a c0 p c,qW b T E I enc w F x i a c0 p c:=by
 obtain⟨⟨y1,y2⟩,ys,h,rfl⟩:=h;have hi':i<ys.length:=by simpa [rws]using hi
 obtain⟨F1,h1,_⟩:=h.left;obtain⟨a,ha,hc⟩:=h1.sl.cells.bC (f:=eT) (l:=ys) hi';simp only at ha;subst ha;exact⟨a,y2,_,_,ys,h,rfl,hi',rfl,rfl⟩
theorem qW.open {i:Nat} {a:Addr} {c0:Nat} {p:Option Addr} {c:Nat} (h:qW b T E I enc w F x i a c0 p c) (hi:i<x.length):∃F1,qV b T E I enc w F x i x[i] a c0 p c F1:=by
 obtain⟨ys,h,rfl,hi',rfl,rfl⟩:=h;obtain⟨G1,G2,h1,h2,h3,h4⟩:=h;simp only at h1 h2;obtain⟨F1,k1,k0,k2⟩:=Fam.at h2 hi';have hU:∀w',af F1 w w'->Hd b T E 1 (fun(ys:List gi) p c=>enc p ys.length c) (fun ys=>ys.length) (fun ys=>ys.map eT) w' G1 (ys,(some a,c0)):=fun w' k=>(Frame.hd ..).ae h1 k (fun j hj hf=>h4 j hj (k0 j hf));refine⟨F1,?_,fun j hj=>(h3 j).2 (.inr (k0 j hj)),fun w' k=>?_,fun w' k=>?_,fun w1 p' c' l' k K hK=>?_⟩
 ·rw[wV _ hi'];exact k1
 ·rw[rO];exact(hU w' k).ai
 ·obtain⟨a',ha',hc'⟩:=(hU w' k).sl.cells.bC (f:=eT) (l:=ys) hi';cases ha';rw[hc',wV _ hi'];rfl
 ·obtain⟨F',q1,q2,q3⟩:=k2 _ _ k;have h1':=(Frame.hd ..).ae h1 q2 h4;refine h1'.sl.wr (o:=i*1) (by simp;omega) fun w' hS hV=>hK w' ?_;rw[Nat.mul_one]at hS
  have e1:aI (ys.map eT) i [.slice p' l'.length c']=(ys.set i (p',c',l')).map eT:=by
   have:=qw (f:=eT) (r:=ys) hi' (v:=(p',c',l'));exact this
  rw[e1]at hS;have hT:=h1'.elems (w':=w') (s':=ys.set i (p',c',l')) (by simp only[List.length_set];exact hS) hV (by simp only[List.length_set]);obtain⟨H',t1,t2,t3⟩:=hT;have hlt:=(Frame.hd ..).lt h1;refine⟨fun j=>H' j∨F' j,⟨(some a,c0),ys.set i (p',c',l'),⟨H',F',t1,Frame.jx.ae q1 t2 ?_,fun _=>Iff.rfl,?_⟩,WO ..⟩,?_,?_⟩
  ·intro j hj hf;rcases q3 j hj with h|h
   ·exact h4 j hf h
   ·have:=hlt j hf;omega
  ·intro j hj hf;rcases t3 j hj with h|h
   ·rcases q3 j hf with h'|h'
    ·exact h4 j h h'
    ·have:=hlt j h;omega
   ·have:=Frame.jx.lt q1 j hf;omega
  ·exact(q2.mono (fun j _ hj=>(h3 j).2 (.inr hj))).trans t2 (fun j _ hj=>(h3 j).2 (.inl hj))
  ·rintro j (hj|hj)
   ·rcases t3 j hj with h|h
    ·exact .inl ((h3 j).2 (.inl h))
    ·exact .inr (Nat.le_trans q2.size h)
   ·rcases q3 j hj with h|h
    ·exact .inl ((h3 j).2 (.inr h))
    ·exact .inr h
theorem Tb.new {n:Nat} {p:Option Addr} {c:Nat} {cs:List Value} (hU:af no w w1) (hS:Sl w1 E 1 p n c (List.replicate n (Value.slice none 0 0))) (hp:∀i,aL p i->w.heap.size<=i) (hN:cH w1 w' (.cells cs.toArray T (0,0))) (he:enc p n c=cs) :
  Tb w1.heap.size T E I enc w' (fun i=>i=w1.heap.size∨aL p i) (List.replicate n []):=by
 have e0:(List.replicate n ((none,0,[]):gi)).map eT=List.replicate n (Value.slice none 0 0):=by simp[eT]
 refine⟨(p,c),List.replicate n (none,0,[]),⟨fun i=>i=w1.heap.size∨aL p i,fun _=>False,⟨?_,?_,?_,fun _=>Iff.rfl⟩,Fam.rep ⟨fun i=>⟨fun h=>h.elim,fun⟨a,ha,_⟩=>by cases ha⟩,Sl.nil _ _ _⟩,fun i=>by simp,fun _ _ h=>h⟩,by simp[rws]⟩
 ·simp only[List.length_replicate];rw[he];exact hN.aF
 ·simp only[List.length_replicate];rw[e0];exact hS.ae (hN.ae no) (fun _ _ h=>h)
 ·intro h;exact absurd (hS.lt _ h) (Nat.lt_irrefl _)
end
end Go.Dav
namespace Go.Dav
def At {σ:Type} (A:Nat->Ob σ):Ob (Nat×σ):=fun w F x=>A x.1 w F x.2
def fx {σ:Type} (x:Nat×σ):Value:=.pointer (some ⟨x.1,0,none⟩)
instance Frame.at {σ:Type} {A:Nat->Ob σ} [fa:∀b,Frame (A b)]:Frame (At A) where
 ae:=fun h k hG=>(fa _).ae h k hG
 lt:=fun h=>(fa _).lt h
abbrev xB (σ:Type) (b:Nat) (T E:TypeId) (enc:Option Addr->Nat->Nat->List Value):Ob (List (Nat×σ)×Option Addr×Nat):=Hd b T E 1 (fun qs p c=>enc p qs.length c) (fun qs=>qs.length) (fun qs=>qs.map fx)
def Tq {σ:Type} (A:Nat->Ob σ) (b:Nat) (T E:TypeId) (enc:Option Addr->Nat->Nat->List Value):Ob (List σ):=fun w F x=>∃y qs,au (xB σ b T E enc) (Fam (At A)) w F ((qs,y),qs)/\qs.map (·.2)=x
section
variable {σ:Type} {A:Nat->Ob σ} [fa:∀b,Frame (A b)] {b:Nat} {T E:TypeId} {enc:Option Addr->Nat->Nat->List Value} {w w1 w':World} {F:Fp} {x:List σ}
instance Frame.tq:Frame (Tq A b T E enc) where
 ae:=fun⟨y,qs,h,r⟩ k hG=>⟨y,qs,Frame.star.ae h k hG,r⟩
 lt:=fun⟨_,_,h,_⟩=>Frame.star.lt h
theorem Tq.ai (h:Tq A b T E enc w F x):∃p c,aE w b (enc p x.length c) T:=by
 obtain⟨y,qs,h,rfl⟩:=h;obtain⟨F1,h1,_⟩:=h.left;rw[List.length_map];exact⟨_,_,h1.ai⟩
theorem Tq.at (h:Tq A b T E enc w F x) {i:Nat} (hi:i<x.length):∃a c bi F1,aE w b (enc (some a) x.length c) T/\w.cell? (a.add (i*1))=some (.pointer (some ⟨bi,0,none⟩))/\A bi w F1 x[i]/\
  ∀w' s',aa (A bi) w w' F1 s'->aa (Tq A b T E enc) w w' F (x.set i s'):=by
 obtain⟨⟨p,c⟩,qs,h,rfl⟩:=h;have hi':i<qs.length:=by simpa using hi
 obtain⟨G1,h1,_⟩:=h.left;obtain⟨G2,h2,k2⟩:=h.right;simp only at h1 h2;obtain⟨a,ha,hc⟩:=h1.sl.cells.bC (f:=fx) (l:=qs) hi';simp only at ha;subst ha;obtain⟨F1,q1,_,q2⟩:=Fam.at h2 hi';refine⟨a,c,qs[i].1,F1,by rw[List.length_map];exact h1.ai,hc,by rw[List.getElem_map];exact q1,fun w' s' hT=>?_⟩;obtain⟨F1',t1,t2,t3⟩:=hT;have hk:=k2 _ _ (q2 w' (qs[i].1,s') ⟨F1',t1,t2,t3⟩);obtain⟨F',⟨H1,H2,u1,u2,u3,u4⟩,v2,v3⟩:=hk;simp only at u1 u2
 have e1:(qs.set i (qs[i].1,s')).map (fx (σ:=σ))=qs.map fx:=by
  rw[List.map_set];show(qs.map fx).set i (fx qs[i])=qs.map fx;apply List.ext_getElem?;intro j;rw[List.getElem?_set];by_cases hj:i=j
  ·subst hj;simp[hi']
  ·simp[hj]
 refine⟨F',⟨(some a,c),qs.set i (qs[i].1,s'),⟨H1,H2,?_,u2,u3,u4⟩,?_⟩,v2,v3⟩
 ·obtain⟨a1,a2,a3,a4⟩:=u1;refine⟨?_,?_,a3,a4⟩
  ·simp only[List.length_set];exact a1
  ·simp only[List.length_set];rw[e1];exact a2
 ·rw[List.map_set]
theorem Tq.xG (h:Tq A b T E enc w F x) {i:Nat} (hi:i<x.length):∃a c bi F1,∀w1 G,af G w w1->(∀j,F j->¬G j)->aE w1 b (enc (some a) x.length c) T/\w1.cell? (a.add (i*1))=some (.pointer (some ⟨bi,0,none⟩))/\A bi w1 F1 x[i]/\
  ∀w' s',aa (A bi) w1 w' F1 s'->aa (Tq A b T E enc) w1 w' F (x.set i s'):=by
 obtain⟨⟨p,c⟩,qs,h,rfl⟩:=h;have hi':i<qs.length:=by simpa using hi
 obtain⟨G1,G2,h1,h2,h3,h4⟩:=h;simp only at h1 h2;obtain⟨a,ha,hc⟩:=h1.sl.cells.bC (f:=fx) (l:=qs) hi';simp only at ha;subst ha;obtain⟨F1,q0,q2⟩:=Fam.xG h2 hi';refine⟨a,c,qs[i].1,F1,fun w1 G hU hG=>?_⟩;have hG1:∀j,G1 j->¬G j:=fun j hj=>hG j ((h3 j).2 (.inl hj));have hG2:∀j,G2 j->¬G j:=fun j hj=>hG j ((h3 j).2 (.inr hj));have h1':=(Frame.hd ..).ae h1 hU hG1;have h2':=Frame.jx.ae h2 hU hG2;obtain⟨p1,p2⟩:=q2 w1 G hU hG2;obtain⟨a',ha',hc'⟩:=h1'.sl.cells.bC (f:=fx) (l:=qs) hi';cases ha';have hS:au (xB σ b T E enc) (Fam (At A)) w1 F ((qs,(some a,c)),qs):=⟨G1,G2,h1',h2',h3,h4⟩;refine⟨by rw[List.length_map];exact h1'.ai,hc',by rw[List.getElem_map];exact p1,fun w' s' hT=>?_⟩;obtain⟨F1',t1,t2,t3⟩:=hT;obtain⟨F2',u1,u2,u3⟩:=p2 w' (qs[i].1,s') ⟨F1',t1,t2,t3⟩
 have e1:(qs.set i (qs[i].1,s')).map (fx (σ:=σ))=qs.map fx:=by
  rw[List.map_set];show(qs.map fx).set i (fx qs[i])=qs.map fx;apply List.ext_getElem?;intro j;rw[List.getElem?_set];by_cases hj:i=j
  ·subst hj;simp[hi']
  ·simp[hj]
 have h1'':=(Frame.hd ..).ae h1' u2 h4;have hlt:=(Frame.hd ..).lt h1';refine⟨fun j=>G1 j∨F2' j,⟨(some a,c),qs.set i (qs[i].1,s'),⟨G1,F2',?_,u1,fun _=>Iff.rfl,fun j hj hf=>?_⟩,?_⟩,u2.mono (fun j _ hj=>(h3 j).2 (.inr hj)),fun j hj=>?_⟩
 ·obtain⟨a1,a2,a3,a4⟩:=h1'';refine⟨?_,?_,a3,a4⟩
  ·simp only[List.length_set];exact a1
  ·simp only[List.length_set];rw[e1];exact a2
 ·rcases u3 j hf with h|h
  ·exact h4 j hj h
  ·have:=hlt j hj;omega
 ·rw[List.map_set]
 ·rcases hj with hj|hj
  ·exact .inl ((h3 j).2 (.inl hj))
  ·exact(u3 j hj).imp (fun h=>(h3 j).2 (.inr h)) id
theorem Tq.nil {c:List Value} (hN:cH w w' (.cells c.toArray T (0,0))) (he:enc none 0 0=c):Tq A w.heap.size T E enc w' (fun i=>i=w.heap.size) []:=
 ⟨(none,0),[],⟨_,fun _=>False,Hd.nil hN (by simpa using he) rfl rfl,Fam.nil _,fun i=>by simp,fun _ _ h=>h⟩,rfl⟩
theorem Tq.push {P:Program} {t:TypeId} {z:List Value} (he:dH P t E 1 8 z) {k:Nat} (henc:∀p n c p' n' c',aI (enc p n c) k [.slice p' n' c']=enc p' n' c') (hk:∀p n c,k+1<=(enc p n c).length) (h:Tq A b T E enc w F x) (hl:x.length<=100000)
  {bq:Nat} {G:Fp} {s:σ} (hU:af no w w1) (hQ:A bq w1 G s) (hG:∀i,G i->w.heap.size<=i):∃p c,aE w1 b (enc p x.length c) T/\
  ∀w2 {T':TypeId} (hN:cH w1 w2 (.cells (List.toArray [.pointer (some ⟨bq,0,none⟩)]) T' (0,0))) (ty:TypeId),∃p' c' w3,(Builtin.append_ #[t,t] ty #[.slice p x.length c,.slice (some ⟨w1.heap.size,0,none⟩) 1 1]).run P w2=.ok (.slice p' (x.length+1) c') w3/\
   ∀K:World->Prop,(∀w4,aa (Tq A b T E enc) w w4 F (x++[s])->K w4)->Wr w3 ((⟨b,0,none⟩:Addr).add k) [.slice p' (x.length+1) c'] K:=by
 obtain⟨⟨p,c⟩,qs,h,rfl⟩:=h;obtain⟨G1,G2,h1,h2,h3,h4⟩:=h;simp only at h1 h2;rw[List.length_map]at hl;have h1':xB σ b T E enc w1 G1 (qs,(p,c)):=(Frame.hd ..).ae h1 hU (fun _ _ h=>h);refine⟨p,c,by rw[List.length_map];exact h1'.ai,fun w2 T' hN ty=>?_⟩;obtain⟨p',c',w3,hr,hS,hU3,hF3⟩:=LJ he (v:=.pointer (some ⟨bq,0,none⟩)) rfl h1'.sl (by simp only;omega) (by simp only;omega) hN ty;simp only at hS hU3 hF3;refine⟨p',c',w3,by rw[List.length_map];exact hr,fun K hK=>?_⟩;have hB3:=h1'.xK hU3;rw[List.length_map];refine hB3.wr (by simpa using hk _ _ _) fun w4 hW=>hK w4 ?_;rw[henc]at hW;have hTh:=h1'.put (s':=qs++[(bq,s)]) (p':=p') (c':=c') (by simp only[List.length_append,List.length_singleton,List.map_append];exact hS) hU3 hF3 (by simp only[List.length_append,List.length_singleton];exact hW);obtain⟨H1,t1,t2,t3⟩:=hTh;have hTf:=Fam.push h2 hU (show At A w1 G (bq,s)from hQ) hG;obtain⟨H2,f1,f2,f3⟩:=hTf
 have hd1:∀j,H2 j->¬G1 j:=fun j hj hg=>by
  rcases f3 j hj with h|h
  ·exact h4 j hg h
  ·have:=(Frame.hd ..).lt h1 j hg;omega
 refine⟨fun j=>H1 j∨H2 j,⟨(p',c'),qs++[(bq,s)],⟨H1,H2,t1,Frame.jx.ae f1 t2 hd1,fun _=>Iff.rfl,fun j hj hg=>?_⟩,by simp⟩,?_,?_⟩
 ·rcases t3 j hj with h|h
  ·exact hd1 j hg h
  ·have:=Frame.jx.lt f1 j hg;omega
 ·exact(hU.nn).trans t2 (fun j _ hj=>(h3 j).2 (.inl hj))
 ·rintro j (hj|hj)
  ·rcases t3 j hj with h|h
   ·exact .inl ((h3 j).2 (.inl h))
   ·exact .inr (Nat.le_trans hU.size h)
  ·rcases f3 j hj with h|h
   ·exact .inl ((h3 j).2 (.inr h))
   ·exact .inr h
end
theorem aa.next {σ:Type} {A:Ob σ} {w w1 w2:World} {F F1:Fp} {s1 s2:σ} (h:A w1 F1 s1) (hU:af F w w1) (hF:∀i,F1 i->F i∨w.heap.size<=i) (k:aa A w1 w2 F1 s2):aa A w w2 F s2:=by
 obtain⟨F2,k1,k2,k3⟩:=k;refine⟨F2,k1,hU.trans k2 (fun i hi hf=>(hF i hf).elim id (fun h=>absurd h (by omega))),fun i hi=>?_⟩;rcases k3 i hi with h|h
 ·exact hF i h
 ·exact .inr (Nat.le_trans hU.size h)
end Go.Dav
namespace Go.Dav
def ct (L:List (List Int)) (v:Int):Nat:=L.flatten.count v
theorem lJ {L:List (List Int)} {i:Nat} (hi:i<L.length) (l':List Int) (v:Int):ct (L.set i l') v+L[i].count v=ct L v+l'.count v:=by
 unfold ct
 induction L generalizing i with
 | nil=>simp at hi
 | cons l L ih=>
  cases i with
  | zero=>simp only[List.set_cons_zero,List.flatten_cons,List.count_append,List.getElem_cons_zero];omega
  | succ i=>
   have:=ih (i:=i) (by simpa using hi);simp only[List.set_cons_succ,List.flatten_cons,List.count_append,List.getElem_cons_succ];omega
theorem CH {L:List (List Int)} {i:Nat} (hi:i<L.length) (v:Int):L[i].count v<=ct L v:=by
 have:=lJ hi [] v;simp at this;omega
theorem iK {L:List (List Int)} {i:Nat} (hi:i<L.length) {v:Int} (h:v∈L[i]):0<ct L v:=Nat.lt_of_lt_of_le (List.count_pos_iff.2 h) (CH hi v)
theorem re (n:Nat) (v:Int):ct (List.replicate n []) v=0:=by
 unfold ct;rw[List.count_flatten];simp
theorem CJ {L:List (List Int)} (h:∀v,ct L v<=1) {i:Nat} (hi:i<L.length):L[i].Nodup:=List.nodup_iff_count.2 fun v=>Nat.le_trans (CH hi v) (h v)
theorem nz {l:List Int} {m:Nat} (hn:l.Nodup) (h:∀v∈l,1<=v/\v<=m):l.length<=m:=by
 have:=hn.length_le_of_subset (l₂:=(List.range m).map (fun(k:Nat)=>(k:Int)+1)) (fun v hv=>by
  obtain⟨h1,h2⟩:=h v hv;rw[List.mem_map];exact⟨v.toNat-1,by simp;omega,by omega⟩)
 simpa using this
theorem vf (b k:Nat):Addr.add (Addr.add ⟨b,0,none⟩ 0) k=(⟨b,0,none⟩:Addr).add k:=by rw[add_lit b 0 0]
end Go.Dav
namespace Go.Dav
structure mf (P:Program) (t k e:TypeId) (z:Value):Prop where
 under:P.underlying t=some (.map k e)
 key:P.underlying k=some (.int .i64)
 ok:rG P e=true
 zero:zv P e=z
section
variable {α:Type} {f:α->Value}
def ji (f:α->Value) (es:List MapEntry) (L:List (Int×α)):Prop:=es.map (fun e=>(e.key,e.val))=L.map (fun p=>(Value.int .i64 p.1,f p.2))
theorem ji.len {es:List MapEntry} {L:List (Int×α)} (h:ji f es L):es.length=L.length:=by simpa [ji]using congrArg List.length h
theorem ji.at {es:List MapEntry} {L:List (Int×α)} (h:ji f es L) {j:Nat} {e:MapEntry} (he:es[j]?=some e):∃p,L[j]?=some p/\e.key=.int .i64 p.1/\e.val=f p.2:=by
 have:=congrArg (fun l=>l[j]?) h;simp only[List.getElem?_map,he,Option.map_some]at this
 cases hl:L[j]? with
 | none=>rw[hl]at this;cases this
 | some p=>
  rw[hl]at this;simp only[Option.map_some,Option.some.injEq,Prod.mk.injEq]at this;exact⟨p,rfl,this.1,this.2⟩
theorem ji.mem {es:List MapEntry} {L:List (Int×α)} (h:ji f es L) {p:Int×α} (hp:p∈L):∃e∈es,e.key=.int .i64 p.1:=by
 have:(Value.int .i64 p.1,f p.2)∈es.map (fun e=>(e.key,e.val)):=by rw[h];exact List.mem_map.2 ⟨p,hp,rfl⟩
 obtain⟨e,he,hq⟩:=List.mem_map.1 this;simp only[Prod.mk.injEq]at hq;exact⟨e,he,hq.1⟩
theorem ji.keys {es:List MapEntry} {L:List (Int×α)} (h:ji f es L):∀x∈es,MapKept.IsKey (.int .i64) x.key:=by
 intro x hx;obtain⟨j,hj⟩:=List.mem_iff_getElem?.1 hx;obtain⟨p,_,hk,_⟩:=h.at hj;rw[hk];rfl
def aS (b:Nat) (f:α->Value):Ob ((Int->Option α)×Nat):=fun w F x=>(∀i,F i↔i=b)/\∃es clock L,w.heap[b]?=some (.map es clock)/\ji f es.toList L/\(L.map Prod.fst).Nodup/\(∀k v,x.1 k=some v↔(k,v)∈L)/\x.2=L.length/\MapKept.Stamped es clock
instance Frame.map (b:Nat) (f:α->Value):Frame (aS b f) where
 ae:=by
  rintro w w' F G s ⟨h1,es,clock,L,h2,r⟩ k hG;exact⟨h1,es,clock,L,(k.ai b (oX h2) (hG b ((h1 b).2 rfl))).trans h2,r⟩
 lt:=by
  rintro w F s ⟨h1,es,clock,L,h2,r⟩ i hi;rw[(h1 i).1 hi];exact oX h2
theorem aS.new {w w':World} (h:cH w w' (.map #[] 0)):aS w.heap.size f w' (fun i=>i=w.heap.size) (fun _=>none,0):=
 ⟨fun _=>Iff.rfl,#[],0,[],h.ai,rfl,List.nodup_nil,fun k v=>by simp,rfl,MapKept.stamped_empty 0⟩
def dp (x:(Int->Option α)×Nat) (k:Int) (v:α):(Int->Option α)×Nat:=(fun j=>if j=k then some v else x.1 j,if(x.1 k).isSome then x.2 else x.2+1)
def eX (x:(Int->Option α)×Nat) (k:Int):(Int->Option α)×Nat:=(fun j=>if j=k then none else x.1 j,if(x.1 k).isSome then x.2-1 else x.2)
variable {P:Program} {t k e:TypeId} {z:Value} {b:Nat} {w:World} {F:Fp} {x:(Int->Option α)×Nat}
theorem An {β γ:Type} (g:β->γ):∀(l:List β) (j:Nat),(l.eraseIdx j).map g=(l.map g).eraseIdx j
 | [],_=>rfl
 | _::_,0=>rfl
 | a::l,j+1=>by simp[An g l j]
theorem VN {L:List (Int×α)} (h:(L.map Prod.fst).Nodup) {i j:Nat} {p q:Int×α} (hi:L[i]?=some p) (hj:L[j]?=some q) (he:p.1=q.1):i=j:=by
 have h1:(L.map Prod.fst)[i]?=some p.1:=by simp[hi]
 have h2:(L.map Prod.fst)[j]?=some p.1:=by simp[hj,he]
 exact(List.getElem?_inj (List.getElem?_eq_some_iff.1 h1).1 h).1 (h1.trans h2.symm)
theorem find_spec {es:List MapEntry} {L:List (Int×α)} (h:ji f es L) (hn:(L.map Prod.fst).Nodup) (hx:∀k v,x.1 k=some v↔(k,v)∈L) (n:Int) :
  (x.1 n=none/\Instr.findNow (.int .i64) (.int .i64 n) es 0=some none)∨∃j v e,x.1 n=some v/\Instr.findNow (.int .i64) (.int .i64 n) es 0=some (some (j,f v))/\es[j]?=some e/\e.key=.int .i64 n/\L[j]?=some (n,v):=by
 rcases MapKept.findNow_spec (d:=.int .i64) (k:=.int .i64 n) rfl es 0 h.keys with⟨h1,h2⟩|⟨j,e,h1,h2,h3⟩
 ·refine .inl ⟨?_,h1⟩
  cases hv:x.1 n with
  | none=>rfl
  | some v=>
   obtain⟨e,he,hk⟩:=h.mem ((hx n v).1 hv);exact absurd hk (h2 e he)
 ·obtain⟨p,hp,hk,hv⟩:=h.at h2;obtain⟨pn,pv⟩:=p;have:pn=n:=by rw[h3]at hk;simpa using hk.symm
  subst this;simp only at hv;exact .inr ⟨j,pv,e,(hx pn pv).2 (List.mem_iff_getElem?.2 ⟨j,hp⟩),by rw[h1,hv];simp,h2,h3,hp⟩
theorem iz (hT:mf P t k e z) (h:aS b f w F x) (n:Int) (ok:Bool) :
  (Instr.lookup t (.map (some b)) (.int .i64 n) ok).run P w=.ok (if ok then .tuple #[((x.1 n).map f).getD z,.bool (x.1 n).isSome]else((x.1 n).map f).getD z) w:=by
 obtain⟨h1,es,clock,L,hb,hE,hn,hx,hl,hst⟩:=h;have hk:MapKept.IsKey (.int .i64) (.int .i64 n):=rfl;rcases find_spec hE hn hx n with⟨k1,k2⟩|⟨j,v,e',k1,k2,k3,k4,k5⟩
 ·have hz:(zeroValue e).run P w=.ok z w:=by rw[rM hT.ok,hT.zero]
  simp[Instr.lookup,dF hT.under,MapKept.run_getObj_map hb,MapKept.run_checkKey hT.key hk,MapKept.run_findKey hT.key k2,k1,hz,Result.andThen]
 ·simp[Instr.lookup,dF hT.under,MapKept.run_getObj_map hb,MapKept.run_checkKey hT.key hk,MapKept.run_findKey hT.key k2,k1,Result.andThen]
theorem BA {o o':Obj} (hb:w.heap[b]?=some o):af (fun i=>i=b) w {w with heap:=w.heap.setIfInBounds b o'}:=
 ⟨by simp,rfl,rfl,rfl,fun i _ hi=>by simp[Ne.symm hi]⟩
theorem mQ (hT:mf P t k e z) (h:aS b f w F x) (n:Int) (v:α) :
  ∃w',(Instr.mapUpdate t (.map (some b)) (.int .i64 n) (f v)).run P w=.ok () w'/\aa (aS b f) w w' F (dp x n v):=by
 obtain⟨h1,es,clock,L,hb,hE,hn,hx,hl,hst⟩:=h;have hk:MapKept.IsKey (.int .i64) (.int .i64 n):=rfl;rcases find_spec hE hn hx n with⟨k1,k2⟩|⟨j,v0,e',k1,k2,k3,k4,k5⟩
 ·refine⟨_,by simp[Instr.mapUpdate,dF hT.under,MapKept.run_getObj_map hb,MapKept.run_checkKey hT.key hk,MapKept.run_findKey hT.key k2,MapKept.run_setObj_map _ hb,Result.andThen];rfl,
   F,⟨h1,_,_,L++[(n,v)],(MapKept.heap_set hb).1,?_,?_,?_,?_,MapKept.stamped_push hst (fun y hy hk'=>by
    obtain⟨i,hi⟩:=List.mem_iff_getElem?.1 hy;obtain⟨p,hp,hk2,_⟩:=hE.at hi;rw[hk']at hk2;have e1:n=p.1:=by simpa using hk2
    have:=(hx p.1 p.2).2 (List.mem_iff_getElem?.2 ⟨i,hp⟩);rw[<-e1,k1]at this;cases this)⟩,(BA hb).mono (fun i _ hi=>(h1 i).2 hi),fun _ hi=>.inl hi⟩
  ·unfold ji at hE⊢;simp[hE]
  ·rw[List.map_append,List.nodup_append];refine⟨hn,by simp,fun a ha c hc=>?_⟩;simp at hc;subst hc;rintro rfl;obtain⟨p,hp,rfl⟩:=List.mem_map.1 ha;have:=(hx p.1 p.2).2 hp;rw[k1]at this;cases this
  ·intro a c;simp only[dp,List.mem_append,List.mem_singleton,Prod.mk.injEq];by_cases ha:a=n
   ·subst ha;have:(a,c)∉L:=fun hm=>by have:=(hx a c).2 hm;rw[k1]at this;cases this
    simp[this,eq_comm]
   ·simp[ha,hx]
  ·simp[dp,k1,hl]
 ·have hj:es[j]?=some e':=by simpa using k3
  refine⟨_,by simp[Instr.mapUpdate,dF hT.under,MapKept.run_getObj_map hb,MapKept.run_checkKey hT.key hk,MapKept.run_findKey hT.key k2,hj,k4,MapKept.run_keyThatStays hk,MapKept.run_setObj_map _ hb,Result.andThen];rfl,
   F,⟨h1,_,_,L.set j (n,v),(MapKept.heap_set hb).1,?_,?_,?_,?_,by
    refine MapKept.stamped_modify hst _ _ (fun _ _=>rfl) (fun e _ he=>?_);rw[hj]at he;cases he;exact k4.symm⟩,(BA hb).mono (fun i _ hi=>(h1 i).2 hi),fun _ hi=>.inl hi⟩
  ·unfold ji at hE⊢;rw[Array.toList_modify,List.map_set,<-hE];apply List.ext_getElem?;intro i;rw[List.getElem?_map,List.getElem?_modify,List.getElem?_set,List.getElem?_map];by_cases hij:j=i
   ·subst hij;have hlt:j<es.toList.length:=(List.getElem?_eq_some_iff.1 k3).1;simp[k3];simpa using hlt
   ·simp only[hij,if_false];cases es.toList[i]?<;>simp
  ·rw[List.map_set]
   have:(L.map Prod.fst).set j (n,v).1=L.map Prod.fst:=by
    apply List.ext_getElem?;intro i;rw[List.getElem?_set];by_cases hij:j=i
    ·subst hij;have hlt:j<L.length:=(List.getElem?_eq_some_iff.1 k5).1;have:=(List.getElem?_eq_some_iff.1 k5).2;simp[hlt,this]
    ·simp[hij]
   rw[this];exact hn
  ·intro a c;simp only[dp];rw[List.mem_iff_getElem?];by_cases ha:a=n
   ·subst ha;simp only[if_true,Option.some.injEq];constructor
    ·rintro rfl;exact⟨j,by rw[List.getElem?_set];simp[(List.getElem?_eq_some_iff.1 k5).1]⟩
    ·rintro⟨i,hi⟩;rw[List.getElem?_set]at hi;by_cases hij:j=i
     ·subst hij;simp[(List.getElem?_eq_some_iff.1 k5).1]at hi;exact hi
     ·rw[if_neg hij]at hi;exact absurd (VN hn k5 hi rfl) hij
   ·rw[if_neg ha,hx,List.mem_iff_getElem?];constructor
    ·rintro⟨i,hi⟩;refine⟨i,?_⟩;rw[List.getElem?_set,if_neg (fun hij=>by subst hij;rw[k5]at hi;simp at hi;exact ha hi.1.symm)];exact hi
    ·rintro⟨i,hi⟩;rw[List.getElem?_set]at hi;by_cases hij:j=i
     ·subst hij;simp[(List.getElem?_eq_some_iff.1 k5).1]at hi;exact absurd hi.1.symm ha
     ·rw[if_neg hij]at hi;exact⟨i,hi⟩
  ·simp[dp,k1,hl]
theorem ph (hT:mf P t k e z) (h:aS b f w F x) (n:Int) (k2 ty:TypeId) :
  ∃w',(Builtin.delete_ #[t,k2] ty #[.map (some b),.int .i64 n]).run P w=.ok (.tuple #[]) w'/\aa (aS b f) w w' F (eX x n):=by
 obtain⟨h1,es,clock,L,hb,hE,hn,hx,hl,hst⟩:=h;have hk:MapKept.IsKey (.int .i64) (.int .i64 n):=rfl;rcases find_spec hE hn hx n with⟨k1,k2⟩|⟨j,v0,e',k1,k2,k3,k4,k5⟩
 ·refine⟨_,by simp[Builtin.delete_,dF hT.under,MapKept.run_getObj_map hb,MapKept.run_checkKey hT.key hk,MapKept.run_findKey hT.key k2,MapKept.run_setObj_map _ hb,Result.andThen]<;>rfl,
   F,⟨h1,_,_,L,(MapKept.heap_set hb).1,hE,hn,?_,?_,hst⟩,(BA hb).mono (fun i _ hi=>(h1 i).2 hi),fun _ hi=>.inl hi⟩
  ·intro a c;simp only[eX];by_cases ha:a=n
   ·subst ha;have:(a,c)∉L:=fun hm=>by have:=(hx a c).2 hm;rw[k1]at this;cases this
    simp[this]
   ·simp[ha,hx]
  ·simp[eX,k1,hl]
 ·refine⟨_,by simp[Builtin.delete_,dF hT.under,MapKept.run_getObj_map hb,MapKept.run_checkKey hT.key hk,MapKept.run_findKey hT.key k2,MapKept.run_setObj_map _ hb,Result.andThen];rfl,
   F,⟨h1,_,_,L.eraseIdx j,(MapKept.heap_set hb).1,?_,?_,?_,?_,MapKept.stamped_erase hst _⟩,(BA hb).mono (fun i _ hi=>(h1 i).2 hi),fun _ hi=>.inl hi⟩
  ·unfold ji at hE⊢;rw[An,<-hE,<-An];congr 1;simp[Array.eraseIdxIfInBounds];split
   ·simp
   ·rename_i hlt;have:=(List.getElem?_eq_some_iff.1 k3).1;simp at this;omega
  ·rw[An];exact hn.eraseIdx _
  ·intro a c;simp only[eX];rw[List.mem_eraseIdx_iff_getElem?];by_cases ha:a=n
   ·subst ha;simp only[if_true];constructor
    ·intro h;cases h
    ·rintro⟨i,hij,hi⟩;exact absurd (VN hn hi k5 rfl) hij
   ·rw[if_neg ha,hx,List.mem_iff_getElem?];constructor
    ·rintro⟨i,hi⟩;exact⟨i,fun hij=>by subst hij;rw[k5]at hi;simp at hi;exact ha hi.1.symm,hi⟩
    ·rintro⟨i,_,hi⟩;exact⟨i,hi⟩
  ·have:=(List.getElem?_eq_some_iff.1 k5).1;simp[eX,k1,hl,List.length_eraseIdx,this]
theorem Ff (hT:mf P t k e z) (h:aS b f w F x) (ty:TypeId):(Builtin.len_ #[t] ty #[.map (some b)]).run P w=.ok (.int .i64 (x.2:Int)) w:=by
 obtain⟨h1,es,clock,L,hb,hE,hn,hx,hl,hst⟩:=h;have:=hE.len;simp at this;simp[Builtin.len_,dF hT.under,MapKept.run_getObj_map hb,goInt,Result.andThen,hl,this]
end
end Go.Dav
