/- What functions of the program come to, part 5; the texts are made small to keep within a claim. -/
import Derived.Laws.Externs
import Derived.RangeFuncNested
import Derived.RangeFuncLeaves
import Derived.OrdersIn
import Derived.TacticsIn
import Derived.OwnWalkIn
import Derived.Below
import Derived.ChangeArms
import Derived.Deep.Slices
import Derived.Shelf.Abstract
import Derived.WalkKit
import Derived.TacticsInMore
import Derived.LoopNIn
import Derived.LoopIn
import Derived.Test.YtobclpijhmkniaaGreatDoorPartD
set_option linter.unusedVariables false
set_option linter.unusedSimpArgs false
set_option linter.unusedSectionVars false
namespace Go.Dav
open Go.Proofs
open Value renaming int→ay,bool→fA,pointer→bo,tuple→wa,slice→ft,agg→kH
open _root_.List renaming mem_or_eq_of_mem_set→il,length_cons→im,length_nil→nm,getElem_mem→cx,mem_cons_of_mem→qC,take_length→dA,mem_cons_self→ij,take_succ_eq_append_getElem→ey,replicate→aD,eq_of_mem_replicate→jX,set_cons_succ→rW,getElem_cons_succ→uC,length_map→bO,flatMap_cons→n4,map_append→fj,take→qG,drop→qH,getD_eq_getElem?_getD→aQ,getElem?_eq_getElem→cS,toArray→dB,map_set→eY,ext_getElem?→cT,getElem?_set→cB,set_set→qA,drop_eq_getElem_cons→kI,length_replicate→fC,set_cons_zero→rV,replicate_succ'→rX,append_assoc→iY,find?_eq_none→mr,getElem_of_mem→tg,length→iX,foldl_append→lx,take_of_length_le→qB,all_eq_true→gx,getElem?_eq_some_iff→dI,mem_append→dS,getElem?_append_left→js,getElem?_append_right→kE
open _root_.Option renaming some→aa,none→ag
open _root_.Nat renaming mul_one→ez,le_refl→b7,le_of_eq→bG,le_trans→aX,mul_le_mul_right→fu,zero_le→cZ,beq_refl→uy,beq→dz,eq_of_beq_eq_true→iG
open _root_.Int renaming toNat_natCast→bK,fdiv_eq_ediv_of_nonneg→uB,le_refl→fW,tmod→eO,tmod_eq_emod_of_nonneg→px
open IntKind renaming i64→aY,wrap→aT,bits→kF,signed→ju,u64→ef
open _root_.Iff renaming rfl→bB
open Addr renaming add_add→dN,add→bh
open Builtin renaming min_→po,delete_→gW,max_→wb
open _root_.Bool renaming false→ae,true→ah,or_false→lu,and_eq_true→br,not_eq_true'→ly,true_and→fc,false_and→iI
open Instr renaming lookup→dg
open Result renaming andThen→rQ
open _root_.Prod renaming fst→eX
open Code renaming loop→bj
open Fence renaming wide→mw
open _root_.Array renaming getElem?_eq_some_iff→we,replicate→ph,getElem?_append_left→wc
open World renaming putObj_heap_other→yK,heap→oc,os→od,tape→og,output→oi,cell?→bf
open Ending renaming returned→cj
theorem VW:dZ Tryz.prog 53 2 1 8 [I 0]:=⟨by kernel_rfl,by kernel_rfl,rfl,by omega⟩
abbrev SO (b:Nat):Ob (List Int×Option Addr×Nat):=Hd b 221 2 1 (λl p c=>[.slice p l.length c]) (λl=>l.length) (λl=>l.map (ay .i64))
structure Bz (x:List Int):Prop where
 fit:∀v∈x,fE v
 len:1<=x.length/\x.length<=64
def gU (b:Nat):Ob (List Int):=λw F x=>(∃y,SO b w F (x,y))/\Bz x
instance Frame.RN (b:Nat):Frame (gU b) where
 ak:=λ⟨⟨y,h⟩,r⟩ k a=>⟨⟨y,(Frame.hd ..).ak h k a⟩,r⟩
 lt:=λ⟨⟨_,h⟩,_⟩=>(Frame.hd ..).lt h
theorem zD {x:List Int} {c:Int} (h:gH x c):∃i:Nat,i<x.length/\c=(i:Int):=⟨c.toNat,by unfold gH at h;omega,by unfold gH at h;omega⟩
theorem nC {x:List Int} {i:Nat} (hi:i<x.length):nB x (i:Int)=x[i]:=by simp[nB,hi]
theorem Bz.set {x:List Int} (h:Bz x) (i:Nat) {v:Int} (c:fE v):Bz (x.set i v):=⟨λz a=>by
 rcases il a with a|rfl
 ·exact h.fit z a
 ·exact c,by simpa using h.len⟩
section
variable {b:Nat} {w:World} {F:Fp} {x:List Int}
theorem gU.ax (h:gU b w F x):∃p c,aL w b [.slice p x.length c] 221:=by
 obtain⟨⟨y,h⟩,_⟩:=h;exact⟨_,_,h.ax⟩
theorem gU.at (h:gU b w F x) {i:Nat} (hi:i<x.length):∃a c,aL w b [.slice (aa a) x.length c] 221/\w.cell? (a.add (i*1))=aa (I x[i])/\∀(v:Int),fE v->∀K:World->Prop,(∀w',ai (gU b) w w' F (x.set i v)->K w')->Wr w (a.add (i*1)) [I v] K:=by
 obtain⟨⟨y,h⟩,g⟩:=h;obtain⟨a,d,j⟩:=h.sl.cells.ck hi;obtain⟨p,c⟩:=y;simp only at d;subst d;refine⟨a,c,h.ax,j,λv k K l=>?_⟩;rw[ez];refine h.sl.wr (o:=i) (by simp only[im,nm];omega) λw' e m=>l w' ?_;have n:=tZ (f:=ay .i64) (r:=x) hi (v:=v);rw[n]at e;obtain⟨q,s,t⟩:=h.elems (w':=w') (s':=x.set i v) (by simpa using e) m (by simp);exact⟨q,⟨⟨_,s⟩,g.set i k⟩,t⟩
theorem Eb (h:gU b w F x) (c:Int):Cx 332 #[pt b,I c] w λe w'=>e=Z (I (if gH x c then 0 else 3))/\w'=w:=by
 obtain⟨p,c0,hB⟩:=h.ax;refine aie ?_;refine⟨λg=>(by cases g),λ_=>⟨λg1=>⟨_,rfl,_,_,_,hB.cell rfl,λa=>⟨?_,rfl⟩,λa=>⟨?_,rfl⟩⟩,λg1=>⟨?_,rfl⟩⟩⟩
 ·have a:=aO a;rw[af (by unfold gH;omega)]
 ·have g1:=aV g1;have a:=aV a;rw[ar (by unfold gH;omega)]
 ·have g1:=aO g1;rw[af (by unfold gH;omega)]
theorem RB (h:gU b w F x) (c:Int):Cx 331 #[pt b,I c] w λe w'=>e=Z (.tuple #[I (if gH x c then nB x c else 0),I (if gH x c then 0 else 3)])/\w'=w:=by
 refine aid ?_;refine⟨(Eb h c).mono ?_⟩;rintro e w1 ⟨rfl,rfl⟩;by_cases f:gH x c
 ·obtain⟨i,hi,rfl⟩:=zD f;obtain⟨a,c0,hB,d,_⟩:=h.at hi;simp only[ar f];refine⟨_,rfl,λg=>(by cases g),λ_=>⟨_,rfl,_,_,_,hB.cell rfl,⟨by omega,by omega⟩,_,rfl,_,d,?_⟩⟩;rw[nC hi];exact⟨rfl,trivial⟩
 ·simp only[af f];exact⟨_,rfl,λ_=>⟨rfl,trivial⟩,λg=>(by cases g)⟩
theorem D5 (h:gU b w F x) (c:Int) {n:Int} (p:fE n):Cx 260 #[pt b,I c,I n] w λe w'=>e=Z (I (mN x c n))/\ai (gU b) w w' F (kh x c n):=by
 refine ahb ?_;refine⟨(Eb h c).mono ?_⟩;rintro e w1 ⟨rfl,rfl⟩;by_cases j:gH x c
 ·obtain⟨i,hi,rfl⟩:=zD j;obtain⟨a,c0,hB,d,k⟩:=h.at hi;have o:(0:Int)<=(i:Int)/\(i:Int)<(x.length:Int):=⟨by omega,by omega⟩;simp only[ar j];refine⟨_,rfl,λg=>(by cases g),λ_=>⟨_,rfl,_,_,_,hB.cell rfl,o,_,rfl,_,d,⟨(Qy (h.2.fit _ (cx hi)) p w1).mono ?_⟩⟩⟩;rintro e s ⟨rfl,rfl⟩;have f:mN x (i:Int) n=(mY x[i] n).2:=by unfold mN;rw[ar j,nC hi]
  refine⟨_,_,rfl,λg=>?_,λg=>⟨_,rfl,_,_,_,hB.cell rfl,o,_,rfl,?_⟩⟩
  ·have g:¬(mY x[i] n).2=0:=by simpa using g
   have l:kh x (i:Int) n=x:=by unfold kh;rw[f,af g]
   rw[f,l];exact⟨rfl,ai.same h⟩
  ·have g:(mY x[i] n).2=0:=by simpa using g
   have m:fE (x[i]+n):=by
    unfold mY at g;by_cases m:fE (x[i]+n)
    ·exact m
    ·rw[af m]at g;cases g
   have q:(mY x[i] n).1=x[i]+n:=by unfold mY;rw[ar m]
   have l:kh x (i:Int) n=x.set i (x[i]+n):=by unfold kh;rw[f,ar g,nC hi];rfl
   rw[q,bK];refine k _ m _ λt r=>?_;rw[f,l,g];exact⟨rfl,r⟩
 ·simp only[af j];have f:mN x c n=3:=by unfold mN;rw[af j]
  have l:kh x c n=x:=by unfold kh;rw[f,af (by decide)]
  rw[f,l];exact⟨_,rfl,λ_=>⟨rfl,ai.same h⟩,λg=>(by cases g)⟩
theorem abX (h:gU b w F x) (f t:Int):Cx 361 #[pt b,I f,I t] w λe w'=>e=Z (I (qm x f t))/\ai (gU b) w w' F (AD x f t):=by
 refine aiA ?_;have d:∀n,qm x f t=n->n≠0->AD x f t=x:=λn c u=>by unfold AD;rw[c,af u]
 refine⟨(Eb h f).mono ?_⟩;rintro e w1 ⟨rfl,rfl⟩;by_cases k:gH x f
 ·simp only[ar k];refine⟨_,rfl,λg=>(by cases g),λ_=>⟨(Eb h t).mono ?_⟩⟩;rintro e C ⟨rfl,rfl⟩;by_cases o:gH x t
  ·simp only[ar o];refine⟨_,rfl,λg=>(by cases g),λ_=>⟨λg=>?_,λg=>?_⟩⟩
   ·have g:f=t:=by simpa using g
    have c:qm x f t=2:=by unfold qm;rw[ar k,ar o,ar g]
    rw[d _ c (by decide),c];exact⟨rfl,ai.same h⟩
   ·have g:f≠t:=by simpa using g
    obtain⟨i,hi,rfl⟩:=zD k;obtain⟨a,c0,hB,l,_⟩:=h.at hi;have r:(0:Int)<=(i:Int)/\(i:Int)<(x.length:Int):=⟨by omega,by omega⟩;have c:qm x (i:Int) t=mN x t x[i]:=by unfold qm;rw[ar k,ar o,af g,nC hi]
    refine⟨_,rfl,_,_,_,hB.cell rfl,r,_,rfl,_,l,⟨(D5 h t (h.2.fit _ (cx hi))).mono ?_⟩⟩;rintro e D ⟨rfl,q⟩;refine⟨_,rfl,λj=>?_,λj=>?_⟩
    ·have j:mN x t x[i]=0:=by simpa using j
     obtain⟨F1,y,z⟩:=q.cP;have s:(kh x t x[i]).length=x.length:=by unfold kh;split<;>simp
     obtain⟨E,c1,p,_,m⟩:=y.at (i:=i) (by rw[s];exact hi);rw[s]at p;refine⟨_,rfl,_,_,_,p.cell rfl,r,_,rfl,?_⟩;rw[bK];refine m 0 (by decide) _ λG A=>?_;have B:AD x (i:Int) t=(kh x t x[i]).set i 0:=by unfold AD;rw[c,ar j,nC hi];rfl
     rw[c,B];exact⟨rfl,z _ _ A⟩
    ·have j:¬mN x t x[i]=0:=by simpa using j
     rw[d _ c j,c];have:kh x t x[i]=x:=by unfold kh;rw[af j]
     rw[this]at q;exact⟨rfl,q⟩
  ·simp only[af o];have c:qm x f t=3:=by unfold qm;rw[ar k,af o]
   rw[d _ c (by decide),c];exact⟨_,rfl,λ_=>⟨rfl,ai.same h⟩,λg=>(by cases g)⟩
 ·simp only[af k];have c:qm x f t=3:=by unfold qm;rw[af k]
  rw[d _ c (by decide),c];exact⟨_,rfl,λ_=>⟨rfl,ai.same h⟩,λg=>(by cases g)⟩
theorem abA (x y:Int) (a:0<=x) (c:0<=y) (w:World):(callFunc 169 #[.int .u64 x,.int .u64 y,.int .u64 0]).run Tryz.prog w=.ok (.value (.tuple #[.int .u64 ((x+y+0)%18446744073709551616),.int .u64 ((x+y+0)/18446744073709551616)])) w:=by
 rw[run_callFunc_extern Tryz.func169 (by kernel_rfl) (by kernel_rfl) (by kernel_rfl) (e:=add64Entry) (by kernel_rfl),run_add64 x y 0 a c (by omega) (by omega)];rfl
theorem Ei {x:List Int} (a:∀v∈x,0<=v):∀i,0<=(x.take i).sum/\(x.take i).sum<=x.sum:=by
 induction x with
 | nil=>intro i;simp
 | cons v x d=>
  intro i
  cases i with
  | zero=>
   have:=d (λv c=>a v (qC _ c)) x.length;rw[dA]at this;have:=a v (ij);simp
   omega
  | succ i=>
   have:=d (λv c=>a v (qC _ c)) i;have:=a v (ij);simp only[List.take_succ_cons,List.sum_cons];omega
theorem RV {x:List Int} {i:Nat} (hi:i<x.length):(x.take (i+1)).sum=(x.take i).sum+x[i]:=by
 rw[ey hi,List.sum_append];simp
theorem RD {n:Int} (h:0<=n/\n<=1000):aU .i64 n 63=0:=by
 unfold aU;rw[show(2:Int) ^ (min (63:Int).toNat aY.bits)=9223372036854775808 from rfl,uB _ (by decide)];omega
theorem SK {n:Int} (h:0<=n/\n<=1000):aT .u64 n=n:=by
 unfold aT;simp[kF,ju];omega
theorem acr (h:gU b w F x) (j:∀v∈x,0<=v) (hs:x.sum<=1000):Cx 78 #[pt b] w λe w'=>e=Z (.tuple #[I x.sum,I 0])/\w'=w:=by
 refine u78 ?_;obtain⟨p,c0,hB⟩:=h.ax;refine⟨λg=>(by cases g),λ_=>⟨_,rfl,p,x.length,c0,hB.cell rfl,⟨bJ bA (M:=vL) (σ:=Nat) (λi=>GW 0 (x.take i).sum p x.length c0 (x.length:Int) (i:Int)) (λi w'=>i<=x.length/\w'=w) (λi _=>x.length-i) 0 ⟨rfl,rfl,rfl,rfl,rfl,trivial⟩ ⟨by omega,rfl⟩ ?_⟩⟩⟩;rintro i w1 ⟨hi,rfl⟩;have n:=Ei j i;rw[adS];refine⟨λg=>?_,λg=>aP.mk ?_⟩
 ·have g:=aO g;have c:i<x.length:=by omega
  obtain⟨a,c1,l,d,_⟩:=h.at c
  have:p=aa a:=by
   have f:=hB.cell (k:=0) rfl;rw[l.cell (k:=0) rfl]at f;simp at f;exact f.1.symm
  subst this;have o:=j _ (cx c);have m:=Ei j (i+1);rw[RV c]at m;refine⟨⟨by omega,by omega⟩,a,rfl,_,d,_,_,w1,abA _ _ n.1 (by rw[SK (by omega)];exact o) w1,by decide,?_⟩;rw[SK (by omega),RD (by omega)];refine⟨i+1,⟨?_,?_,rfl,rfl,by rw[aN (x:=(i:Int)+1) (by have:=h.2.len;omega)];rfl,trivial⟩,⟨by omega,rfl⟩,by omega⟩
  ·rw[show((x.take i).sum+x[i]+0)/18446744073709551616=0 by omega];rfl
  ·rw[show((x.take i).sum+x[i]+0)%18446744073709551616=(x.take (i+1)).sum by rw[RV c];omega];rfl
 ·have g:=aV g;have:i=x.length:=by omega
  subst this;rw[dA]at n⊢;rw[adR];have f:aT .i64 x.sum=x.sum:=aN (by omega);rw[f,RD (by omega)];exact⟨by decide,λ_=>⟨rfl,rfl⟩,λg=>(by cases g)⟩
end
theorem RM (n:Nat) (j:1<=n/\n<=64) (w:World):Cx 50 #[I (n:Int)] w λe w'=>∃b F,e=Z (.tuple #[pt b,I 0])/\gU b w' F (aD n 0)/\au no w w'/\∀i,F i->w.heap.size<=i:=by
 refine u50 ?_;refine⟨λ_=>⟨λg=>?_,λ_=>?_⟩,λg=>?_⟩
 ·have:=aO g;omega
 ·obtain⟨w1,k,d⟩:=IH VW w (n:=n) (by omega) (by omega) .i64 .i64;refine⟨_,_,_,w1,k,⟨λq c=>?_⟩⟩;have l:=d.size;refine⟨w1.heap.size,λi=>i=w1.heap.size∨bg (aa ⟨w.heap.size,0,ag⟩) i,rfl,⟨⟨(aa ⟨w.heap.size,0,ag⟩,n),?_,?_,?_,λi=>bB⟩,⟨λv m=>?_,by simpa using j⟩⟩,(d.ak no).and (c.ak no),?_⟩
  ·simpa using c.aK
  ·have o:Sl w1 2 1 (aa ⟨w.heap.size,0,ag⟩) n n ((aD n (0:Int)).map (ay .i64)):=Sl.new d (by simp) (by unfold maxLen;omega);simpa using o.ak (c.ak no) (λ_ _ h=>h)
  ·rintro⟨a,f,p⟩;cases f;simp only at p;omega
  ·rw[jX m];decide
  ·rintro i (rfl|⟨a,f,rfl⟩)
   ·omega
   ·cases f;exact b7 _
 ·have:=aO g;omega
def CQ (b2:Nat) (s:Int):List Value:=[pt b2,I s]
def fS (b:Nat):Ob ig:=λw F x=>(∃b2,aF (Rw b 160 (CQ b2)) (gU b2) w F (x.2,x.1))/\uj x
instance Frame.gao (b:Nat):Frame (fS b) where
 ak:=λ⟨⟨b2,h⟩,r⟩ k a=>⟨⟨b2,Frame.star.ak h k a⟩,r⟩
 lt:=λ⟨⟨_,h⟩,_⟩=>Frame.star.lt h
section
variable {b:Nat} {w:World} {F:Fp} {x:ig}
theorem fS.open (h:fS b w F x):∃b2 F2,aL w b (CQ b2 x.2) 160/\gU b2 w F2 x.1/\(∀w' l,ai (gU b2) w w' F2 l->uj (l,x.2)->ai (fS b) w w' F (l,x.2))/\∀(v:Int),(0<=v/\v<=2)->∀K:World->Prop,(∀w',ai (fS b) w w' F (x.1,v)->K w')->Wr w ((⟨b,0,ag⟩:Addr).add 1) [I v] K:=by
 obtain⟨⟨b2,h⟩,a⟩:=h;obtain⟨F1,c,i⟩:=h.left;obtain⟨F2,j,k2⟩:=h.right;refine⟨b2,F2,c.ax,j,λw' l m n=>?_,λv o K p=>c.ax.wr (k:=1) (by simp[CQ]) λw' g=>p w' ?_⟩
 ·obtain⟨d,e,f⟩:=k2 _ _ m;exact⟨d,⟨⟨b2,e⟩,n⟩,f⟩
 ·obtain⟨d,e,f⟩:=i _ _ (c.fN (s':=v) g.U g.aK);exact⟨d,⟨⟨b2,e⟩,⟨a.pos,a.sum,a.len,o⟩⟩,f⟩
theorem NS (h:fS b w F x):Cx 20 #[pt b] w λe w'=>e=Z (I x.1.sum)/\w'=w:=by
 obtain⟨b2,F2,hB,a,_,_⟩:=h.open;refine u20 ?_;refine⟨λg=>(by cases g),λ_=>⟨_,rfl,_,hB.cell rfl,⟨(acr a h.2.pos h.2.sum).mono ?_⟩⟩⟩;rintro e w1 ⟨rfl,rfl⟩;exact⟨_,_,rfl,rfl,rfl⟩
theorem NN (h:fS b w F x) (c:Int):Cx 259 #[pt b,I c] w λe w'=>e=Z (I (if gH x.1 c then 0 else 3))/\w'=w:=by
 obtain⟨b2,F2,hB,a,_,_⟩:=h.open;refine aha ?_;refine⟨λg=>(by cases g),λ_=>⟨_,rfl,_,hB.cell rfl,⟨(RB a c).mono ?_⟩⟩⟩;rintro e w1 ⟨rfl,rfl⟩;exact⟨_,_,rfl,rfl,rfl⟩
theorem WZ (h:fS b w F x) (c:Int):Cx 265 #[pt b,I c] w λe w'=>e=Z (I (if gH x.1 c then nB x.1 c else 0))/\w'=w:=by
 obtain⟨b2,F2,hB,a,_,_⟩:=h.open;refine ahg ?_;refine⟨λg=>(by cases g),λ_=>⟨_,rfl,_,hB.cell rfl,⟨(RB a c).mono ?_⟩⟩⟩;rintro e w1 ⟨rfl,rfl⟩;exact⟨_,_,rfl,rfl,rfl⟩
theorem RU {l:List Int} {i:Nat} (hi:i<l.length) (v:Int):(l.set i v).sum=l.sum-l[i]+v:=by
 induction l generalizing i with
 | nil=>simp at hi
 | cons a l c=>
  cases i with
  | zero=>simp;omega
  | succ i=>
   have:=c (i:=i) (by simpa using hi);simp only[rW,List.sum_cons,uC,this];omega
theorem uj.set (h:uj x) {i:Nat} (hi:i<x.1.length) {v:Int} (c:0<=v) (hs:x.1.sum-x.1[i]+v<=1000):uj (x.1.set i v,x.2):=⟨λz a=>by
 rcases il a with a|rfl
 ·exact h.pos z a
 ·exact c,by rw[RU hi];exact hs,by simpa using h.len,h.st⟩
theorem uj.le (h:uj x) {i:Nat} (hi:i<x.1.length):0<=x.1[i]/\x.1[i]<=1000:=by
 have d:=h.pos _ (cx hi);have e:=RU hi 0
 have f:0<=(x.1.set i 0).sum:=(Ei (x:=x.1.set i 0) (λv a=>by
  rcases il a with c|rfl
  ·exact h.pos v c
  ·exact fW _) 0).1|>λ_=>by
   have:=(Ei (x:=x.1.set i 0) (λv a=>by
    rcases il a with c|rfl
    ·exact h.pos v c
    ·exact fW _) (x.1.set i 0).length).1
   rwa [dA]at this
 have:=h.sum;omega
theorem JR {a n:Int} (h : -1000000<=a+n/\a+n<=1000000):mY a n=(a+n,0):=by
 unfold mY;rw[ar (by unfold fE;omega)]
theorem WH (h:fS b w F x) (c:Int):Cx 157 #[pt b,I c] w λe w'=>e=Z (I (nv x c))/\ai (fS b) w w' F (se x c):=by
 refine afD ?_;have f:∀n,nv x c=n->n≠0->se x c=x:=λn a p=>by unfold se;rw[a,af p]
 obtain⟨b2,F2,hB,q,kS,_⟩:=h.open;refine⟨(NN h c).mono ?_⟩;rintro e w1 ⟨rfl,rfl⟩;by_cases d:gH x.1 c
 ·simp only[ar d];refine⟨_,rfl,λg=>(by cases g),λ_=>⟨_,rfl,_,hB.cell rfl,λg=>?_,λg=>⟨(NS h).mono ?_⟩⟩⟩
  ·have g:x.2≠0:=by simpa using g
   have a:nv x c=7:=by unfold nv;rw[ar d,af g]
   rw[f _ a (by decide),a];exact⟨rfl,ai.same h⟩
  ·have g:x.2=0:=by simpa using g
   rintro e s ⟨rfl,rfl⟩;refine⟨_,rfl,λj=>?_,λj=>⟨_,rfl,_,hB.cell rfl,⟨(D5 q c (n:=1) (by decide)).mono ?_⟩⟩⟩
   ·have j:=aO j;have a:nv x c=5:=by unfold nv;rw[ar d,ar g,ar j]
    rw[f _ a (by decide),a];exact⟨rfl,ai.same h⟩
   ·have j:=aV j;rintro e t ⟨rfl,o⟩;obtain⟨i,hi,rfl⟩:=zD d;have r:=h.2.le hi;have a:nv x (i:Int)=0:=by unfold nv;rw[ar d,ar g,af j]
    have k:mN x.1 (i:Int) 1=0:=by unfold mN;rw[ar d,nC hi,JR (by omega)]
    have l:kh x.1 (i:Int) 1=x.1.set i (x.1[i]+1):=by unfold kh;rw[k,ar rfl,nC hi];rfl
    have m:se x (i:Int)=(x.1.set i (x.1[i]+1),x.2):=by unfold se;rw[a,ar rfl,nC hi];rfl
    rw[l]at o;refine⟨_,rfl,by rw[k,a],?_⟩;rw[m];exact kS _ _ o (h.2.set hi (by omega) (by omega))
 ·simp only[af d];have a:nv x c=3:=by unfold nv;rw[af d]
  rw[f _ a (by decide),a];exact⟨_,rfl,λ_=>⟨rfl,ai.same h⟩,λg=>(by cases g)⟩
theorem WW (h:fS b w F x) (c:Int):Cx 165 #[pt b,I c] w λe w'=>e=Z (I (pQ x c))/\ai (fS b) w w' F (sv x c):=by
 refine afL ?_;have f:∀n,pQ x c=n->n≠0->sv x c=x:=λn a o=>by unfold sv;rw[a,af o]
 obtain⟨b2,F2,hB,p,kS,_⟩:=h.open;refine⟨(NN h c).mono ?_⟩;rintro e w1 ⟨rfl,rfl⟩;by_cases d:gH x.1 c
 ·simp only[ar d];refine⟨_,rfl,λg=>(by cases g),λ_=>⟨(WZ h c).mono ?_⟩⟩;rintro e r ⟨rfl,rfl⟩;rw[ar d];refine⟨_,rfl,λg=>?_,λg=>⟨_,rfl,_,hB.cell rfl,⟨(D5 p c (n:=-1) (by decide)).mono ?_⟩⟩⟩
  ·have g:nB x.1 c=0:=by simpa using g
   have a:pQ x c=12:=by unfold pQ;rw[ar d,ar g]
   rw[f _ a (by decide),a];exact⟨rfl,ai.same h⟩
  ·have g:nB x.1 c≠0:=by simpa using g
   rintro e s ⟨rfl,m⟩;obtain⟨i,hi,rfl⟩:=zD d;have q:=h.2.le hi;rw[nC hi]at g;have a:pQ x (i:Int)=0:=by unfold pQ;rw[ar d,nC hi,af g]
   have j:mN x.1 (i:Int) (-1)=0:=by unfold mN;rw[ar d,nC hi,JR (by omega)]
   have k:kh x.1 (i:Int) (-1)=x.1.set i (x.1[i]-1):=by unfold kh;rw[j,ar rfl,nC hi];rfl
   have l:sv x (i:Int)=(x.1.set i (x.1[i]-1),x.2):=by unfold sv;rw[a,ar rfl,nC hi];rfl
   rw[k]at m;refine⟨_,rfl,by rw[j,a],?_⟩;rw[l];have:=h.2.sum;exact kS _ _ m (h.2.set hi (by omega) (by omega))
 ·simp only[af d];have a:pQ x c=3:=by unfold pQ;rw[af d]
  rw[f _ a (by decide),a];exact⟨_,rfl,λ_=>⟨rfl,ai.same h⟩,λg=>(by cases g)⟩
theorem W8 (h:fS b w F x):Cx 160 #[pt b] w λe w'=>e=Z (I (Jq x))/\ai (fS b) w w' F (sY x):=by
 obtain⟨b2,F2,hB,d,_,a⟩:=h.open;refine afG ?_;refine⟨λg=>(by cases g),λ_=>⟨_,rfl,_,hB.cell rfl,λg=>?_,λg=>⟨_,rfl,a 1 (by decide) _ λf c=>?_⟩⟩⟩
 ·have g:x.2≠0:=by simpa using g
  unfold Jq sY;rw[af g,af g];exact⟨rfl,ai.same h⟩
 ·have g:x.2=0:=by simpa using g
  unfold Jq sY;rw[ar g,ar g];exact⟨rfl,c⟩
theorem W7 (h:fS b w F x):Cx 298 #[pt b] w λe w'=>e=Z (I (pJ x))/\ai (fS b) w w' F (pK x):=by
 obtain⟨b2,F2,hB,l,_,i⟩:=h.open;refine ahG ?_;have d:∀n,pJ x=n->n≠0->pK x=x:=λn a j=>by unfold pK;rw[a,af j]
 refine⟨λg=>(by cases g),λ_=>⟨_,rfl,_,hB.cell rfl,λg=>?_,λg=>⟨(NS h).mono ?_⟩⟩⟩
 ·have g:x.2≠1:=by simpa using g
  have a:pJ x=6:=by unfold pJ;rw[af g]
  rw[d _ a (by decide),a];exact⟨rfl,ai.same h⟩
 ·have g:x.2=1:=by simpa using g
  rintro e m ⟨rfl,rfl⟩;refine⟨_,rfl,λc=>?_,λc=>⟨_,rfl,i 2 (by decide) _ λo k=>?_⟩⟩
  ·have c:=aO c;have a:pJ x=7:=by unfold pJ;rw[ar g,ar c]
   rw[d _ a (by decide),a];exact⟨rfl,ai.same h⟩
  ·have c:=aV c;have a:pJ x=0:=by unfold pJ;rw[ar g,af c]
   have f:pK x=(x.1,2):=by unfold pK;rw[a,ar rfl]
   rw[a,f];exact⟨rfl,k⟩
theorem WL (h:fS b w F x):Cx 213 #[pt b] w λe w'=>e=Z (I (Hm x))/\ai (fS b) w w' F (uX x):=by
 obtain⟨b2,F2,hB,d,_,a⟩:=h.open;refine agq ?_;refine⟨λg=>(by cases g),λ_=>⟨_,rfl,_,hB.cell rfl,λg=>?_,λg=>⟨_,rfl,a 0 (by decide) _ λf c=>?_⟩⟩⟩
 ·have g:x.2=0:=by simpa using g
  unfold Hm uX;rw[ar g,<-g];exact⟨rfl,ai.same h⟩
 ·have g:x.2≠0:=by simpa using g
  unfold Hm uX;rw[af g];exact⟨rfl,c⟩
end
theorem WX (n:Nat) (d:1<=n/\n<=64) (w:World):Cx 52 #[I (n:Int)] w λe w'=>∃b F,e=Z (.tuple #[pt b,I 0])/\fS b w' F (aD n 0,0)/\au no w w'/\∀i,F i->w.heap.size<=i:=by
 refine u52 ?_;refine⟨(RM n d w).mono ?_⟩;rintro e w1 ⟨b2,F2,rfl,f,j,k⟩;refine⟨_,_,rfl,λg=>(by cases g),λ_=>⟨λl a=>?_⟩⟩;have m:Rw w1.heap.size 160 (CQ b2) l (λi=>i=w1.heap.size) 0:=Rw.new a rfl;have c:=(Frame.RN b2).ak f (a.ak no) (λ_ _ h=>h);refine⟨_,λi=>i=w1.heap.size∨F2 i,rfl,⟨⟨b2,_,_,m,c,λi=>bB,?_⟩,⟨λv o=>?_,?_,by simpa using d,⟨fW _,(show(0:Int)<=2 by decide)⟩⟩⟩,j.and (a.ak no),?_⟩
 ·rintro i rfl p;have:=(Frame.RN b2).lt f _ p;omega
 ·rw[jX o];exact fW _
 ·have:(aD n (0:Int)).sum=0:=by simp
  rw[this];decide
 ·rintro i (rfl|hi)
  ·exact j.size
  ·exact k i hi
theorem VY:dZ Tryz.prog 227 374 10 80 ((aD 10 (0:Int)).map (ay .i64)):=⟨by kernel_rfl,by kernel_rfl,rfl,by omega⟩
abbrev JK (b:Nat):Ob ((Nat×List Int)×Option Addr×Nat):=Hd b 229 374 10 (λs p c=>[.slice p s.1 c]) (λs=>s.1) (λs=>s.2.map (ay .i64))
def kx (b:Nat):Ob Nat:=λw F n=>∃l y,JK b w F ((n,l),y)/\∀v∈l,fE v
instance Frame.meo (b:Nat):Frame (kx b) where
 ak:=λ⟨l,y,h,r⟩ k a=>⟨l,y,(Frame.hd ..).ak h k a,r⟩
 lt:=λ⟨_,_,h,_⟩=>(Frame.hd ..).lt h
section
variable {b:Nat} {w:World} {F:Fp} {n:Nat}
def nT (b:Nat) (W w:World) (F:Fp) (n:Nat) (a:Addr) (c:Nat) (l:List Int):Prop:=ai (JK b) W w F ((n,l),(aa a,c))/\(∀v∈l,fE v)/\l.length=n*10
theorem kx.open (h:kx b w F n) (i:0<n):∃a c l,nT b w w F n a c l:=by
 obtain⟨l,y,h,f⟩:=h;have d:=h.sl.len;simp only[bO]at d;have d:l.length=n*10:=d;have g:0<l.length:=by omega
 obtain⟨a,e,_⟩:=h.sl.cells.ck (l:=l) g;obtain⟨p,c⟩:=y;simp only at e;subst e;exact⟨a,c,l,ai.same h,f,d⟩
theorem nT.out {W:World} {a:Addr} {c:Nat} {l:List Int} (h:nT b W w F n a c l):ai (kx b) W w F n:=by
 obtain⟨⟨d,e,f⟩,g,_⟩:=h;exact⟨d,⟨l,_,e,g⟩,f⟩
theorem nT.ax {W:World} {a:Addr} {c:Nat} {l:List Int} (h:nT b W w F n a c l):aL w b [.slice (aa a) n c] 229:=by
 obtain⟨⟨e,d,f⟩,_⟩:=h;exact d.ax
theorem nT.cell {W:World} {a:Addr} {c:Nat} {l:List Int} (h:nT b W w F n a c l) {i:Nat} (hi:i<l.length):w.cell? (a.add i)=aa (I l[i]):=by
 obtain⟨⟨g,e,j⟩,_⟩:=h;obtain⟨k,f,d⟩:=e.sl.cells.ck hi;cases f;rw[ez]at d;exact d
theorem nT.wr {W:World} {a:Addr} {c:Nat} {l:List Int} (h:nT b W w F n a c l) {i:Nat} (hi:i<l.length) {v:Int} (k:fE v) {K:World->Prop} (m:∀w',nT b W w' F n a c (l.set i v)->K w'):Wr w (a.add i) [I v] K:=by
 obtain⟨p,q,s⟩:=h;obtain⟨F1,g,t⟩:=p.cP;refine g.sl.wr (o:=i) (by simp only[im,nm];omega) λw' j u=>m w' ?_;rw[tZ (f:=ay .i64) (r:=l) hi (v:=v)]at j;have d:=g.elems (w':=w') (s':=(n,l.set i v)) (by simpa using j) u (by simp);refine⟨t _ _ d,λz e=>?_,by simpa using s⟩;rcases il e with e|rfl
 ·exact q z e
 ·exact k
theorem Qq (x:Int) (w:World):Cx 370 #[I x] w λe w'=>e=Z (.bool (decide (0<=x/\x<=2147483648)))/\w'=w:=by
 refine aiI ?_;refine⟨λg=>⟨?_,rfl⟩,λg=>⟨?_,rfl⟩⟩
 ·have g:=aO g;congr 2;exact decide_eq_decide.2 (by omega)
 ·have g:=aV g;congr 2;exact(decide_eq_false (by omega)).symm
theorem Qn {W:World} {a:Addr} {c:Nat} {l:List Int} (h:nT b W w F n a c l) {i j:Nat} (hi:i<n) (o:j<9) (x y:Int):Cx 313 #[.pointer (aa (a.add (i*10))),.pointer (aa (a.add (i*10+j))),I x,I y] w λe w'=>(∃m:Int,e=Z (I m))/\ai (kx b) W w' F n:=by
 have p:=h.2.2;refine ahV ?_;refine⟨(Qq x w).mono ?_⟩;rintro e w1 ⟨rfl,rfl⟩;refine⟨_,rfl,λ_=>⟨(Qq y w1).mono ?_⟩,λ_=>⟨⟨_,rfl⟩,h.out⟩⟩;rintro e f ⟨rfl,rfl⟩;refine⟨_,rfl,λ_=>⟨⟨_,rfl⟩,h.out⟩,λ_=>⟨_,rfl,_,by rw[dN];exact h.cell (i:=i*10+9) (by omega),⟨(Qy (h.2.1 _ (cx _)) (SH _) f).mono ?_⟩⟩⟩;rintro e q ⟨rfl,rfl⟩;refine⟨_,_,rfl,λg=>⟨λ_=>⟨⟨_,rfl⟩,h.out⟩,λ_=>⟨_,rfl,?_⟩⟩,λ_=>⟨⟨_,rfl⟩,h.out⟩⟩;rw[dN];refine h.wr (i:=i*10+9) (by omega) ?_ λr d=>⟨_,rfl,_,d.cell (i:=i*10+j) (by rw[d.2.2];omega),_,rfl,d.wr (i:=i*10+j) (by rw[d.2.2];omega) (SH _) λs k=>⟨⟨_,rfl⟩,k.out⟩⟩;unfold mY;split
 ·assumption
 ·decide
theorem Qi (h:kx b w F n) {i:Nat} (hi:i<n) {a:Addr} {c:Nat} {l:List Int} (f:nT b w w F n a c l):Cx 312 #[pt b,I (i:Int)] w λe w'=>e=Z (.tuple #[.pointer (aa (a.add (i*10))),I 0])/\w'=w:=by
 have hB:=f.ax;refine ahU ?_;refine⟨λg=>(by cases g),λ_=>⟨λg1=>⟨_,rfl,_,_,_,hB.cell rfl,λd=>?_,λd=>⟨_,rfl,_,_,_,hB.cell rfl,⟨by omega,by omega⟩,_,rfl,?_,rfl⟩⟩,λg1=>?_⟩⟩
 ·have d:=aO d;omega
 ·simp
 ·have g1:=aO g1;omega
theorem Ze (h:kx b w F n) {i:Nat} (hi:i<n) (x y:Int):Cx 230 #[pt b,I (i:Int),I x,I y] w λe w'=>(∃m:Int,e=Z (I m))/\ai (kx b) w w' F n:=by
 obtain⟨a,c,l,d⟩:=h.open (by omega);refine agH ?_;refine⟨(Qi h hi d).mono ?_⟩;rintro e w1 ⟨rfl,rfl⟩;refine⟨_,_,rfl,λg=>(by cases g),λ_=>⟨_,rfl,?_⟩⟩;rw[dN];refine⟨(Qn d hi (j:=0) (by omega) x y).mono ?_⟩;rintro e k ⟨⟨m,rfl⟩,f⟩;exact⟨_,rfl,⟨_,rfl⟩,f⟩
theorem Zd (h:kx b w F n) {i:Nat} (hi:i<n) (cA x y:Int):Cx 229 #[pt b,I (i:Int),I cA,I x,I y] w λe w'=>(∃m:Int,e=Z (I m))/\ai (kx b) w w' F n:=by
 obtain⟨a,c,l,f⟩:=h.open (by omega);refine agG ?_;refine⟨(Qi h hi f).mono ?_⟩;rintro e w1 ⟨rfl,rfl⟩;refine⟨_,_,rfl,λg=>(by cases g),λ_=>⟨λg1=>⟨λ_=>⟨⟨_,rfl⟩,ai.same h⟩,λd=>⟨_,rfl,?_,?_⟩⟩,λ_=>⟨⟨_,rfl⟩,ai.same h⟩⟩⟩
 ·have g1:=aV g1;have d:=aV d;exact⟨by omega,by omega⟩
 ·have g1:=aV g1;have d:=aV d;rw[dN,dN,ez];refine⟨(Qn f hi (j:=1+cA.toNat) (by omega) x y).mono ?_⟩;rintro e o ⟨⟨m,rfl⟩,k⟩;exact⟨_,rfl,⟨_,rfl⟩,k⟩
end
theorem Wx (n:Nat):((aD n ([]:List Int)).flatMap λx:List Int=>(x++aD (10-x.length) 0|>.take 10).map (ay .i64))=((aD (n*10) (0:Int)).map (ay .i64)):=by
 induction n with
 | zero=>rfl
 | succ n a=>
  rw[List.replicate_succ,n4,a,Nat.succ_mul,Nat.add_comm,<-List.replicate_append_replicate,fj];rfl
theorem Y9 (n:Nat) (r:1<=n/\n<=64) (w:World):Cx 56 #[I (n:Int)] w λe w'=>∃b F,e=Z (.tuple #[pt b,I 0])/\kx b w' F n/\au no w w'/\∀i,F i->w.heap.size<=i:=by
 refine u56 ?_;refine⟨λ_=>⟨λg=>?_,λ_=>?_⟩,λg=>?_⟩
 ·have:=aO g;omega
 ·obtain⟨w1,l,d⟩:=run_mk VY w (n:=n) (by omega) (by omega) .i64 .i64 (f:=λx:List Int=>(x++aD (10-x.length) 0|>.take 10).map (ay .i64)) (x0:=[]) (λx=>by simp;omega) rfl;refine⟨_,_,_,w1,l,⟨λs c=>?_⟩⟩;have m:=d.size;have j:=Wx n;refine⟨w1.heap.size,λi=>i=w1.heap.size∨bg (aa ⟨w.heap.size,0,ag⟩) i,rfl,⟨aD (n*10) 0,(aa ⟨w.heap.size,0,ag⟩,n),⟨?_,?_,?_,λi=>bB⟩,λv o=>?_⟩,(d.ak no).and (c.ak no),?_⟩
  ·simpa using c.aK
  ·rw[j]at d;have p:Sl w1 374 10 (aa ⟨w.heap.size,0,ag⟩) n n ((aD (n*10) (0:Int)).map (ay .i64)):=Sl.new d (by simp) (by unfold maxLen;omega);exact p.ak (c.ak no) (λ_ _ h=>h)
  ·rintro⟨a,k,q⟩;cases k;simp only at q;omega
  ·rw[jX o];decide
  ·rintro i (rfl|⟨a,k,rfl⟩)
   ·omega
   ·cases k;exact b7 _
 ·have:=aO g;omega
theorem Az {x:Int} (h:0<=x):aU .u64 x 32=x/4294967296:=by
 unfold aU;rw[show(2:Int) ^ (min (32:Int).toNat ef.bits)=4294967296 from rfl,uB _ (by decide)]
theorem E8 {x:Int} (h:0<=x/\x<18446744073709551616):aH .and .u64 x 4294967295=x%4294967296:=by
 obtain⟨n,rfl⟩:∃n:Nat,x=(n:Int):=⟨x.toNat,by omega⟩;rw[show(4294967295:Int)=((4294967295:Nat):Int)from rfl,wv (by omega) (by omega),show(4294967295:Nat)=2 ^ 32-1 from rfl,Nat.and_two_pow_sub_one_eq_mod];omega
theorem mT {x:Int} (h:0<=x/\x<18446744073709551616):aT .u64 x=x:=by
 unfold aT;simp[kF,ju];omega
theorem H4 {a b A B:Int} (d:0<=a/\a<=A) (c:0<=b/\b<=B):0<=a*b/\a*b<=A*B:=⟨Int.mul_nonneg d.1 c.1,Int.mul_le_mul d.2 c.2 c.1 (by omega)⟩
theorem Qo {x y:Int} (d:0<=x/\x<=72057594037927935) (c:0<=y/\y<=127) (w:World):Cx 393 #[.int .u64 x,.int .u64 y] w λe w'=>e=Z (.tuple #[.int .u64 0,.int .u64 (x*y)])/\w'=w:=by
 refine ai1 ?_;refine⟨by decide,by decide,by decide,by decide,by decide,?_,rfl⟩;rw[Az d.1,Az c.1,E8 (by omega),E8 (by omega)];have f:y/4294967296=0:=by omega
 have g:y%4294967296=y:=by omega
 rw[f,g,Int.mul_zero,Int.mul_zero];have h:=H4 (a:=x/4294967296) (b:=y) (A:=16777215) (B:=127) (by omega) c;have b2:=H4 (a:=x%4294967296) (b:=y) (A:=4294967295) (B:=127) (by omega) c;have i:=H4 d c;rw[mT (x:=0) (by decide),mT (x:=x%4294967296*y) (by omega),Az b2.1,mT (x:=x/4294967296*y) (by omega),mT (x:=x/4294967296*y+x%4294967296*y/4294967296) (by omega),Az (by omega),E8 (by omega),mT (x:=x*y) (by omega)];generalize x/4294967296*y=A at *;generalize x%4294967296*y=B at *;have c1:0<=(A+B/4294967296)/4294967296/\(A+B/4294967296)/4294967296<1000:=by omega
 have c2:0<=(A+B/4294967296)%4294967296/\(A+B/4294967296)%4294967296<4294967296:=by omega
 rw[mT (x:=0+(A+B/4294967296)/4294967296) (by omega),mT (x:=(A+B/4294967296)%4294967296+0) (by omega),Az (by omega),mT (by omega)];rw[show 0+(A+B/4294967296)/4294967296+((A+B/4294967296)%4294967296+0)/4294967296=0 by omega]
theorem MR {a y:Int} (i:1<=y) (w:World):Cx 394 #[.int .u64 0,.int .u64 a,.int .u64 y] w λe w'=>(∃q r,e=Z (.tuple #[.int .u64 q,.int .u64 r]))/\au no w w':=by
 refine ai2 ?_;refine⟨λg=>?_,λ_=>aP.mk ?_⟩
 ·have:y=0:=by simpa using g
  omega
 ·rw[adB];refine⟨λg=>?_,λ_=>aP.mk ?_⟩
  ·have:=aO g;omega
  ·rw[adC];refine⟨λ_ w1 c d f h=>⟨by omega,by omega,⟨_,_,rfl⟩,au.same no c d f h⟩,λg=>(by cases g)⟩
theorem aai {p q:Int} (f:p<=72057594037927935) (g:q<=72057594037927935) (w:World):Cx 395 #[I p,I q] w λe w'=>(∃n:Int,e=Z (I n))/\au no w w':=by
 refine ai3 ?_;refine⟨λg1=>⟨λa=>⟨_,rfl⟩|>λh=>⟨h,au.refl _ _⟩,λa=>⟨λc=>⟨⟨_,rfl⟩,au.refl _ _⟩,λc=>?_⟩⟩,λg1=>⟨⟨_,rfl⟩,au.refl _ _⟩⟩;have g1:=aV g1;have a:=aV a;rw[mT (x:=p) (by omega),mT (x:=q) (by omega)];refine⟨(Qo (x:=p) (y:=100) (by omega) (by decide) w).mono ?_⟩;rintro e w1 ⟨rfl,rfl⟩;refine⟨_,_,rfl,⟨(MR (y:=q) (by omega) w1).mono ?_⟩⟩;rintro e i ⟨⟨q,r,rfl⟩,d⟩;exact⟨_,_,rfl,⟨_,rfl⟩,d⟩
theorem abQ {a b p:Int} (g:1<=a) (h:b<=100000) (w:World):Cx 368 #[I a,I b,I p] w λe w'=>(∃n:Int,e=Z (I n))/\au no w w':=by
 refine aiG ?_;refine⟨λg1=>⟨λc=>⟨⟨_,rfl⟩,au.refl _ _⟩,λc=>⟨λd=>⟨⟨_,rfl⟩,au.refl _ _⟩,λd=>?_⟩⟩,λg1=>⟨⟨_,rfl⟩,au.refl _ _⟩⟩;have g1:=aV g1;have c:=aV c;have d:=aV d;rw[mT (x:=a) (by omega),mT (x:=b) (by omega),mT (x:=p) (by omega),mT (x:=b-a) (by omega)];refine⟨(Qo (x:=b-a) (y:=p) (by omega) (by omega) w).mono ?_⟩;rintro e w1 ⟨rfl,rfl⟩;refine⟨_,_,rfl,⟨(MR (y:=100) (by decide) w1).mono ?_⟩⟩;rintro e i ⟨⟨q,r,rfl⟩,f⟩;exact⟨_,_,rfl,⟨_,rfl⟩,f⟩
structure gS where
 low:Int
 high:Int
 f0:Int×Int
 f1:Int×Int
 f2:Int×Int
 f3:Int×Int
 at_:Int
def gS.cells (g:gS):List Value:=[I g.low,I g.high,I g.f0.1,I g.f0.2,I g.f1.1,I g.f1.2,I g.f2.1,I g.f2.2,I g.f3.1,I g.f3.2,I g.at_]
def tB (f:Int×Int):Prop:=(0<=f.1/\f.1<=1099511627776)/\(0<=f.2/\f.2<=1099511627776)
theorem CM:tB (0,0):=by unfold tB;decide
structure gS.V (g:gS):Prop where
 lim:1<=g.low/\g.high<=100000
 f0:tB g.f0
 f1:tB g.f1
 f2:tB g.f2
 f3:tB g.f3
 at_:0<=g.at_/\g.at_<4
def nS (b:Nat):Ob Unit:=λw F _=>∃g,Rw b 235 gS.cells w F g/\g.V
instance Frame.gvo (b:Nat):Frame (nS b) where
 ak:=λ⟨g,h,r⟩ k a=>⟨g,(Frame.rw ..).ak h k a,r⟩
 lt:=λ⟨_,h,_⟩=>(Frame.rw ..).lt h
theorem NI (a b:Int) (w:World):Cx 112 #[I a,I b] w λe w'=>e=Z (.bool (decide (1<=a/\b<=100000/\a<=b)))/\w'=w:=by
 refine aeU ?_;refine⟨λg1=>⟨λc=>⟨?_,rfl⟩,λc=>⟨?_,rfl⟩⟩,λg1=>⟨?_,rfl⟩⟩
 ·have g1:=aO g1;have c:=aO c;congr 2;exact decide_eq_decide.2 (by omega)
 ·have c:=aV c;congr 2;exact(decide_eq_false (by omega)).symm
 ·have g1:=aV g1;congr 2;exact(decide_eq_false (by omega)).symm
theorem Wz {a b:Int} (h:1<=a/\b<=100000/\a<=b) (w:World):Cx 58 #[I a,I b] w λe w'=>∃k F,e=Z (.tuple #[pt k,I 0])/\nS k w' F ()/\au no w w'/\∀i,F i->w.heap.size<=i:=by
 refine u58 ?_;refine⟨(NI a b w).mono ?_⟩;rintro e w1 ⟨rfl,rfl⟩;refine⟨_,rfl,λg=>?_,λ_=>⟨λd c=>⟨_,λi=>i=w1.heap.size,rfl,⟨⟨a,b,(0,0),(0,0),(0,0),(0,0),0⟩,Rw.new c rfl,⟨⟨h.1,h.2.1⟩,CM,CM,CM,CM,⟨fW _,(show(0:Int)<4 by decide)⟩⟩⟩,c.ak no,λi hi=>by omega⟩⟩⟩;rw[decide_eq_true h]at g;cases g
section
variable {b:Nat} {w:World} {F:Fp}
theorem WG (h:nS b w F ()) (a hi:Int):Cx 266 #[pt b,I a,I hi] w λe w'=>e=Z (I (if 1<=a/\hi<=100000/\a<=hi then 0 else 2))/\ai (nS b) w w' F ():=by
 refine ahh ?_;refine⟨λg=>(by cases g),λ_=>⟨(NI a hi w).mono ?_⟩⟩;rintro e w1 ⟨rfl,rfl⟩;obtain⟨g,f,c⟩:=id h;refine⟨_,rfl,λg1=>?_,λg1=>⟨_,rfl,f.ax.wr (k:=0) (by simp[gS.cells]) λp i=>⟨_,rfl,i.aK.wr (k:=1) (by simp[gS.cells,ba]) λj d=>?_⟩⟩⟩
 ·have g1:¬(1<=a/\hi<=100000/\a<=hi):=λl=>by rw[decide_eq_true l]at g1;cases g1
  rw[af g1];exact⟨rfl,ai.same h⟩
 ·have g1:1<=a/\hi<=100000/\a<=hi:=by simpa using g1
  rw[ar g1];obtain⟨m,n,o⟩:=f.fN (w':=j) (s':={g with low:=a,high:=hi}) (i.U.and d.U) (by simpa [gS.cells,ba]using d.aK);exact⟨rfl,m,⟨_,n,⟨⟨g1.1,g1.2.1⟩,c.f0,c.f1,c.f2,c.f3,c.at_⟩⟩,o⟩
theorem Wy {g:gS} (c:Rw b 235 gS.cells w F g):Cx 367 #[pt b] w λe w'=>e=Z (.tuple #[I g.low,I g.high])/\au no w w':=by
 refine aiF ?_;refine⟨λg=>(by cases g),λ_ w1 d f h i=>?_⟩;have a:=au.same no d f h i;have hB:=c.ax.ak a id;exact⟨_,rfl,_,hB.cell rfl,_,rfl,_,hB.cell rfl,rfl,a⟩
theorem Wi {g:gS} {i:Nat} (hi:i<4):∃q:Int×Int,tB q/\qG 2 (qH (i*2) [ay .i64 g.f0.1,I g.f0.2,I g.f1.1,I g.f1.2,I g.f2.1,I g.f2.2,I g.f3.1,I g.f3.2])=[I q.1,I q.2]∨¬g.V:=by
 by_cases a:g.V
 ·match i,hi with
  | 0,_=>exact⟨g.f0,.inl ⟨a.f0,rfl⟩⟩
  | 1,_=>exact⟨g.f1,.inl ⟨a.f1,rfl⟩⟩
  | 2,_=>exact⟨g.f2,.inl ⟨a.f2,rfl⟩⟩
  | 3,_=>exact⟨g.f3,.inl ⟨a.f3,rfl⟩⟩
 ·exact⟨(0,0),.inr a⟩
theorem aL.aE {T:TypeId} {c:List Value} {k j:Nat} {v:Value} (h:aL w b c T) (a:c[k+j]?=aa v):w.cell? (((⟨b,0,ag⟩:Addr).add k).add j)=aa v:=by
 rw[dN];exact h.cell a
theorem Wh {g:gS} (z:Rw b 235 gS.cells w F g) (A:g.V):Cx 369 #[pt b] w λe w'=>(∃n:Int,e=Z (I n))/\au no w w':=by
 refine aiH ?_;refine⟨λg=>(by cases g),λ_=>⟨λw1 m=>?_⟩⟩;have hB:=m.keep z.ax;have o:aL w1 w.heap.size [I 0,I 0] _:=m.aK;refine⟨_,rfl,_,hB.aE rfl,_,hB.aE rfl,_,hB.aE rfl,_,hB.aE rfl,_,hB.aE rfl,_,hB.aE rfl,_,hB.aE rfl,_,hB.aE rfl,?_⟩
 refine⟨bJ bA (M:=vG) (σ:=Nat) (λi=>GK ⟨w.heap.size,0,ag⟩ g.f0.1 g.f0.2 g.f1.1 g.f1.2 g.f2.1 g.f2.2 g.f3.1 g.f3.2 (i:Int))
  (λi w'=>i<=4/\au no w w'/\∃x y:Int,aL w' w.heap.size [I x,I y] 232/\(0<=x/\x<=i*1099511627776)/\(0<=y/\y<=i*1099511627776)) (λi _=>4-i) 0 ⟨rfl,rfl,rfl,trivial⟩ ⟨by omega,m.ak no,0,0,o,by omega,by omega⟩ ?_⟩
 rintro i B ⟨hi,p,x,y,c,Q,R⟩;rw[ads];refine⟨λg1=>?_,λg1=>aP.mk ?_⟩
 ·have g1:=aO g1;obtain⟨q,⟨C,hs⟩|D⟩:=Wi (g:=g) (i:=i) (by omega)
  ·refine⟨⟨by omega,by omega⟩,q.1,q.2,by rw[bK];exact hs,⟨λE h=>h.aK.fQ (by simp) λG d=>?_⟩⟩;have H:=c.lt;have l:=d.keep (h.keep c) (by omega);refine⟨_,l.cell rfl,_,d.aK.cell rfl,l.wr (k:=0) (by simp) λS a=>⟨_,a.aK.cell rfl,_,(a.keep d.aK (by omega)).cell rfl,a.aK.wr (k:=1) (by simp[ba]) λJ f=>?_⟩⟩;have K:=p.size;have r:au no w G:=(p.and (h.ak no)).trans d.U (λj s e=>absurd s (by omega));have t:au no w J:=r.trans (a.U.and f.U) (λj s e=>absurd s (by omega));obtain⟨L,N⟩:=C;have O:aT .i64 (x+q.1)=x+q.1:=aN (by omega);have P:aT .i64 (y+q.2)=y+q.2:=aN (by omega);rw[O]at a f;rw[P]at f;refine⟨i+1,⟨rfl,rfl,by rw[aN (by omega)];rfl,trivial⟩,⟨by omega,t,x+q.1,y+q.2,f.aK,by omega,by omega⟩,by omega⟩
  ·exact absurd A D
 ·rw[adr];refine⟨_,c.cell rfl,_,c.cell rfl,⟨(aai (by omega) (by omega) B).mono ?_⟩⟩;rintro e E ⟨⟨n,rfl⟩,u⟩;exact⟨_,rfl,⟨_,rfl⟩,p.and u⟩
theorem Wl {g:gS} (i:Rw b 235 gS.cells w F g) (a:g.V):Cx 311 #[pt b] w λe w'=>(∃n:Int,e=Z (I n))/\au no w w':=by
 refine ahT ?_;refine⟨(Wy i).mono ?_⟩;rintro e w1 ⟨rfl,j⟩;have c:=(Frame.rw ..).ak i j (λ_ _ h=>h);refine⟨_,_,rfl,⟨(Wh c a).mono ?_⟩⟩;rintro e k ⟨⟨n,rfl⟩,d⟩;refine⟨_,rfl,⟨(abQ a.lim.1 a.lim.2 k).mono ?_⟩⟩;rintro e l ⟨⟨n,rfl⟩,f⟩;exact⟨_,rfl,⟨_,rfl⟩,(j.and d).and f⟩
def tC (g:gS) (i:Nat) (q:Int×Int):gS:=match i with
 | 0=>{g with f0:=q,at_:=1}
 | 1=>{g with f1:=q,at_:=2}
 | 2=>{g with f2:=q,at_:=3}
 | _=>{g with f3:=q,at_:=0}
theorem CN (g:gS) (i:Nat) (q:Int×Int):0<=(tC g i q).at_/\(tC g i q).at_<4:=by
 unfold tC;split<;>(simp only;decide)
theorem Wk (h:nS b w F ()) (x y:Int):Cx 228 #[pt b,I x,I y] w λe w'=>(∃n m:Int,e=Z (.tuple #[I n,I m]))/\ai (nS b) w w' F ():=by
 refine agF ?_;refine⟨λg=>(by cases g),λ_=>⟨λg1=>⟨λo=>⟨λp=>⟨⟨_,_,rfl⟩,ai.same h⟩,λp w1 z A B C=>?_⟩,λo=>⟨⟨_,_,rfl⟩,ai.same h⟩⟩,λg1=>⟨⟨_,_,rfl⟩,ai.same h⟩⟩⟩;have g1:=aV g1;have o:=aV o;have p:=aV p;have r:=au.same no z A B C;obtain⟨g,s,a⟩:=id h;have hB:=s.ax.ak r id;obtain⟨i,hi,t⟩:∃i:Nat,i<4/\g.at_=(i:Int):=⟨g.at_.toNat,by have:=a.at_;omega,by have:=a.at_;omega⟩;refine⟨_,rfl,_,hB.cell rfl,_,rfl,a.at_,?_⟩;rw[t,bK,dN];refine hB.wr (k:=2+i*2) (by simp[gS.cells];omega) λL j=>?_
 have D:ba g.cells (2+i*2) [I x,I y]=({tC g i (x,y)with at_:=g.at_}:gS).cells:=by
  match i,hi with
  | 0,_|1,_|2,_|3,_=>rfl
 rw[D]at j;refine⟨_,rfl,_,j.aK.cell rfl,by decide,_,rfl,j.aK.wr (k:=10) (by simp[gS.cells]) λE c=>?_⟩
 have q:ba ({tC g i (x,y)with at_:=g.at_}:gS).cells 10 [I (eO (aT .i64 (g.at_+1)) 4)]=(tC g i (x,y)).cells:=by
  rw[t]
  match i,hi with
  | 0,_|1,_|2,_|3,_=>rfl
 rw[q]at c;have G:=s.fN (w':=E) (s':=tC g i (x,y)) ((r.mono (λ_ _ h=>h.elim)).and (j.U.and c.U)) c.aK
 have d:(tC g i (x,y)).V:=by
  have l:tB (x,y):=⟨⟨by simp only;omega,by simp only;omega⟩,by simp only;omega,by simp only;omega⟩
  match i,hi with
  | 0,_=>exact⟨a.lim,l,a.f1,a.f2,a.f3,CN g _ (x,y)⟩
  | 1,_=>exact⟨a.lim,a.f0,l,a.f2,a.f3,CN g _ (x,y)⟩
  | 2,_=>exact⟨a.lim,a.f0,a.f1,l,a.f3,CN g _ (x,y)⟩
  | 3,_=>exact⟨a.lim,a.f0,a.f1,a.f2,l,CN g _ (x,y)⟩
 obtain⟨H,u,J,K⟩:=G;refine⟨(Wl u d).mono ?_⟩;rintro e M ⟨⟨n,rfl⟩,f⟩;refine⟨_,rfl,⟨_,_,rfl⟩,H,⟨_,(Frame.rw ..).ak u f (λ_ _ h=>h),d⟩,J.trans f (λ_ _ h=>h.elim),K⟩
end
def qt:List (List Int):=[[0,0,100],[2,10,60],[10,50,25],[50,400,5]]
def EA:List Value:=qt.flatMap (λl=>l.map (ay .i64))
theorem Oj (w:World):Cx 218 #[] w λe w'=>(∃p,e=Z (.slice (aa p) 4 4)/\Cells w' (aa p) EA)/\au no w w':=by
 refine agv ?_;refine⟨λw1 a=>⟨⟨_,rfl,?_⟩,a.ak no⟩⟩;have hB:aL w1 w.heap.size EA _:=a.aK;intro j v b;exact⟨_,rfl,hB.cell b⟩
theorem Jr {w:World} {p:Addr} (h:Cells w (aa p) EA) {i:Nat} (hi:i<4) {j:Nat} (b:j<3):w.cell? ((p.add (i*3)).add j)=aa (I ((qt[i]'hi).getD j 0)):=by
 rw[dN]
 obtain⟨a,c,d⟩:=h (i*3+j) (I ((qt[i]'hi).getD j 0)) (by
  match i,hi,j,b with
  | 0,_,0,_|0,_,1,_|0,_,2,_|1,_,0,_|1,_,1,_|1,_,2,_|2,_,0,_|2,_,1,_|2,_,2,_|3,_,0,_|3,_,1,_|3,_,2,_=>rfl)
 cases c;exact d
def uK (rest a:Int):Nat->Int
 | 0=>0
 | i+1=>if(qt.getD (i+1) []).getD 0 0<=a/\(qt.getD (i+1) []).getD 1 0<=rest then((i+1:Nat):Int)else uK rest a i
theorem Ve (rest a:Int):uK rest a 3=uL rest a:=by
 unfold uL;simp[uK,qt]
theorem Xq {w:World} {p:Addr} (h:Cells w (aa p) EA) (rest a:Int):Cx 217 #[.slice (aa p) 4 4,I rest,I a] w λe w'=>e=Z (I (uL rest a))/\w'=w:=by
 refine agu ?_;refine⟨bJ bA (M:=A6) (σ:=Nat) (λi=>Gq (aa p) 4 4 rest a (i:Int)) (λi w'=>i<=3/\uK rest a i=uL rest a/\w'=w) (λi _=>i) 3 ⟨rfl,rfl,rfl,rfl,trivial⟩ ⟨by omega,Ve rest a,rfl⟩ ?_⟩;rintro i w1 ⟨hi,l,rfl⟩;rw[acY];refine⟨λg=>?_,λg=>?_⟩
 ·have g:=aO g;obtain⟨k,rfl⟩:∃k,i=k+1:=⟨i-1,by omega⟩;have d:k+1<4:=by omega
  have m:(0:Int)<=((k+1:Nat):Int)/\((k+1:Nat):Int)<((4:Nat):Int):=⟨by omega,by omega⟩;have b:qt.getD (k+1) []=qt[k+1]'d:=by rw[aQ,cS (show k+1<qt.length from d)];rfl
  have step:∀(f:¬((qt[k+1]'d).getD 0 0<=a/\(qt[k+1]'d).getD 1 0<=rest)),uK rest a k=uL rest a:=λf=>by
   rw[<-l,uK,b,af f]
  refine⟨m,p,rfl,_,Jr h d (j:=0) (by omega),λg1=>⟨m,p,rfl,_,Jr h d (j:=1) (by omega),λc=>?_,λc=>?_⟩,λg1=>?_⟩
  ·have g1:=aO g1;have c:=aO c;rw[<-l,uK,b,ar ⟨g1,c⟩];exact⟨rfl,rfl⟩
  ·have c:=aV c;exact⟨k,⟨rfl,rfl,rfl,by rw[aN (by omega),show((k+1:Nat):Int)-1=(k:Int) by omega];rfl,trivial⟩,⟨by omega,step (λf=>c f.2),rfl⟩,by omega⟩
  ·have g1:=aV g1;exact⟨k,⟨rfl,rfl,rfl,by rw[aN (by omega),show((k+1:Nat):Int)-1=(k:Int) by omega];rfl,trivial⟩,⟨by omega,step (λf=>g1 f.1),rfl⟩,by omega⟩
 ·have g:=aV g;have:i=0:=by omega
  subst this;rw[<-l];exact⟨rfl,rfl⟩
theorem abI (x y:Int) (w:World):(po #[2,2] 2 #[I x,I y]).run Tryz.prog w=.ok (I (if y<x then y else x)) w:=by
 simp[po,Builtin.min2]
theorem XD {now due:Int} (h:now<=1152921504606846976) (hd:due<=1152921504606846976) (a:Bool) (w:World):Cx 215 #[I now,I due,.bool a] w λe w'=>e=Z (I (Io now due a))/\w'=w:=by
 refine ags ?_;unfold Io;refine⟨λg=>?_,λg=>⟨λg1=>⟨λb=>?_,λb=>?_⟩,λg1=>?_⟩⟩
 ·have g:a=ae:=by simpa using g
  subst g;exact⟨rfl,rfl⟩
 ·have g:a=ah:=by simpa using g
  have b:=aO b;subst g;rw[ar rfl,ar (.inr b)];exact⟨rfl,rfl⟩
 ·have g:a=ah:=by simpa using g
  have g1:=aV g1;have b:=aV b;subst g;refine⟨_,w,abI _ _ _,?_,rfl⟩;rw[aN (by omega),ar rfl,af (show ¬(now<0∨due<=now) by omega)];congr 2;split<;>omega
 ·have g:a=ah:=by simpa using g
  have g1:=aO g1;subst g;rw[ar rfl,ar (.inl g1)];exact⟨rfl,rfl⟩
def qi (r:bu):List Value:=[I r.kj,I r.aC,.bool r.back]
abbrev mW (b:Nat):Ob bu:=Rw b 385 qi
theorem acf (n:Int) (w:World) (c:1<=n/\n<=64):Cx 262 #[I n] w λe w'=>e=Z (.tuple #[pt w.heap.size,I 0])/\dr w w' (.cells (dB [I n,I 0,.bool ae]) 385 (0,0)):=by
 refine ahd ?_;refine⟨λ_=>⟨λg=>?_,λ_=>⟨λw1 a=>⟨rfl,a⟩⟩⟩,λg=>?_⟩
 ·have:=aO g;omega
 ·have:=aO g;omega
section
variable {b:Nat} {w:World} {F:Fp} {r:bu}
theorem yQ (h:mW b w F r) (hd:0<=r.aC/\r.aC<=64):Cx 295 #[pt b] w λe w'=>e=Z (.tuple #[I r.now.1,.bool r.now.2.1,.bool r.now.2.2])/\au no w w':=by
 refine ahD ?_;refine⟨λg=>(by cases g),λ_ w1 s t u x=>?_⟩;have k:=au.same no s t u x;have hB:=h.ax.ak k id;have y:aT .i64 (r.aC-1)=r.aC-1:=aN (by omega);refine⟨_,rfl,_,hB.cell rfl,λg1=>⟨_,rfl,_,hB.cell rfl,λc=>⟨_,rfl,_,hB.cell rfl,λj=>?_,λj=>?_⟩,λc=>?_⟩,λg1=>⟨_,rfl,_,hB.cell rfl,λc=>?_,λc=>?_⟩⟩
 ·simp[g1]at j
 ·refine⟨_,rfl,_,hB.cell rfl,λf=>⟨_,rfl,_,hB.cell rfl,?_,k⟩,λf=>?_⟩
  ·rw[y];have:r.aC≠0:=by simpa using c
   unfold bu.now;simp[g1,this]
  ·rw[g1]at f;cases f
 ·intro z l k2 n o;have a:=au.same no l k2 n o;have i:=hB.ak a id;refine⟨_,rfl,_,i.cell rfl,?_,k.and a⟩;have:r.aC=0:=by simpa using c
  unfold bu.now;simp[g1,this]
 ·refine⟨_,rfl,_,hB.cell rfl,_,rfl,_,hB.cell rfl,λj=>?_,λj=>?_⟩
  ·intro z l k2 n o;have a:=au.same no l k2 n o;have i:=hB.ak a id;refine⟨_,rfl,_,i.cell rfl,?_,k.and a⟩;have:r.aC=r.kj:=by simpa using j
   unfold bu.now;simp[g1,this]
  ·have p:¬r.aC=r.kj:=by simpa using j
   refine⟨_,rfl,_,hB.cell rfl,λf=>?_,λf=>⟨_,rfl,_,hB.cell rfl,?_,k⟩⟩
   ·rw[g1]at f;cases f
   ·unfold bu.now;simp[g1,p]
 ·rw[g1]at c;cases c
def tx (r:bu):bu:={r with aC:=if r.back then r.aC-1 else r.aC+1}
theorem abR (h:mW b w F r) (hd:0<=r.aC/\r.aC<=64):Cx 301 #[pt b] w λe w'=>e=Z (I (if r.over then 6 else 0))/\ai (mW b) w w' F (if r.over then r else tx r):=by
 refine ahJ ?_;refine⟨(yQ h hd).mono ?_⟩;rintro e w1 ⟨rfl,c⟩;have hB:=h.ax.ak c id;have k:=(Frame.rw ..).ak h c (λ_ _ h=>h);refine⟨_,_,_,rfl,λg=>(by cases g),λ_=>⟨λg=>?_,λg=>?_⟩⟩
 ·have g:r.over=ah:=g;rw[g];exact⟨rfl,ai.quiet h c⟩
 ·have g:r.over=ae:=g
  have f:r.now.2.1=r.back:=by
   unfold bu.over bu.now at g;unfold bu.now;split
   ·rfl
   ·split<;>simp_all
  rw[g,f];refine⟨λi=>⟨_,rfl,_,hB.cell rfl,_,rfl,hB.wr (by simp[qi]) λj a=>⟨rfl,?_⟩⟩,λi=>⟨_,rfl,_,hB.cell rfl,_,rfl,hB.wr (by simp[qi]) λj a=>⟨rfl,?_⟩⟩⟩
  ·have e:ba (qi r) 1 [ay .i64 (aT .i64 (r.aC-1))]=qi (tx r):=by
    rw[aN (by omega)];simp[qi,ba,tx,i]
   rw[e]at a;exact h.fN ((c.nn).and a.U) a.aK
  ·have e:ba (qi r) 1 [ay .i64 (aT .i64 (r.aC+1))]=qi (tx r):=by
    rw[aN (by omega)];simp[qi,ba,tx,i]
   rw[e]at a;exact h.fN ((c.nn).and a.U) a.aK
theorem abW (h:mW b w F r) (hd:0<=r.aC/\r.aC<=64) (j:r.over=ae) (c:r.back=ae):Cx 296 #[pt b] w λe w'=>e=Z (I 0)/\ai (mW b) w w' F {r with back:=ah}:=by
 refine ahE ?_;refine⟨(yQ h hd).mono ?_⟩;rintro e w1 ⟨rfl,f⟩;have hB:=h.ax.ak f id
 have a:r.now.2.1=ae:=by
  unfold bu.now;split
  ·exact c
  ·rw[c];rfl
 refine⟨_,_,_,rfl,λg=>(by cases g),λ_=>⟨λg=>⟨λg=>?_,λg=>⟨_,rfl,hB.wr (by simp[qi]) λk i=>⟨rfl,?_⟩⟩⟩,λg=>?_⟩⟩
 ·have:r.over=ah:=g;rw[j]at this;cases this
 ·exact h.fN ((f.nn).and i.U) i.aK
 ·rw[a]at g;cases g
theorem acz (h:mW b w F r) (hd:0<=r.aC/\r.aC<=64) (c:r.over=ah):Cx 302 #[pt b] w λe w'=>e=Z (I r.gr)/\au no w w':=by
 refine ahK ?_;refine⟨(yQ h hd).mono ?_⟩;rintro e w1 ⟨rfl,f⟩
 have a:r.now.2.1=r.back:=by
  unfold bu.over bu.now at c;unfold bu.now;split
  ·rfl
  ·rename_i i;rw[af i]at c;split at c<;>cases c
 refine⟨_,_,_,rfl,λg=>(by cases g),λ_=>⟨λg=>?_,λg=>⟨λg=>?_,λg=>?_⟩⟩⟩
 ·have:r.now.2.2=ah:=c;rw[this]at g;cases g
 ·rw[a]at g;unfold bu.gr;rw[ar g];exact⟨rfl,f⟩
 ·rw[a]at g;unfold bu.gr;rw[af (by simp[g])];exact⟨rfl,f⟩
end
theorem zY:o0 Tryz.prog 134 3 4 (.bool ae):=⟨by kernel_rfl,by kernel_rfl,by kernel_rfl,by kernel_rfl⟩
theorem abG {P:Program} {t k e:TypeId} {z:Value} (a:o0 P t k e z) (n:Int) (w:World):(dg t (.map ag) (I n) ae).run P w=.ok z w:=by
 have c:MapKept.IsKey (.int .i64) (I n):=rfl;have f:(zeroValue e).run P w=.ok z w:=by rw[vp a.ok,a.zero]
 have k2:Instr.findNow (.int .i64) (I n) [] 0=aa ag:=rfl;simp[dg,fy a.under,MapKept.run_checkKey a.key c,MapKept.run_findKey a.key k2,f,rQ]
abbrev mX:=Nat×Nat×bu
def qh (x:mX):List Value:=[pt x.2.1,.bool x.2.2.up,I x.2.2.av,I x.2.2.aA,.bool x.2.2.told]
abbrev yG (b b2:Nat):Ob (mX×bu):=aF (Rw b 284 qh) (mW b2)
def vO:Ob (Option mX):=λw F x=>match x with
 | none=>∀i,¬F i
 | some q=>yG q.1 q.2.1 w F (q,q.2.2)
instance Frame.ajO:Frame vO where
 ak:=by
  rintro w w' F G (_|q) h k a
  ·exact h
  ·exact(Frame.star (A:=Rw q.1 284 qh) (B:=mW q.2.1)).ak h k a
 lt:=by
  rintro w F (_|q) h
  ·exact λi hi=>absurd hi (h i)
  ·exact(Frame.star (A:=Rw q.1 284 qh) (B:=mW q.2.1)).lt h
abbrev vN:=Nat×((Int->Option Bool)×Nat)
def vM:Ob (Option vN):=λw F x=>match x with
 | none=>∀i,¬F i
 | some q=>bF q.1 fA w F q.2
instance Frame.ajN:Frame vM where
 ak:=by
  rintro w w' F G (_|q) h k a
  ·exact h
  ·exact(Frame.map q.1 fA).ak h k a
 lt:=by
  rintro w F (_|q) h
  ·exact λi hi=>absurd hi (h i)
  ·exact(Frame.map q.1 fA).lt h
def r9 (p:Option Addr×Option Nat):List Value:=[.pointer p.1,.map p.2]
abbrev fR (b:Nat):Ob (((Option Addr×Option Nat)×Option mX)×Option vN):=aF (aF (Rw b 136 r9) vO) vM
def i6 (q:Option mX) (m:Option vN):Option Addr×Option Nat:=(q.map λq=>⟨q.1,0,ag⟩,m.map (·.1))
def s8 (r:bu):Prop:=0<=r.aC/\r.aC<=r.kj/\r.kj<=64
theorem s8.aC {r:bu} (h:s8 r):0<=r.aC/\r.aC<=64:=⟨h.1,Int.le_trans h.2.1 h.2.2⟩
structure qv (q:Option mX) (m:Option vN) (d:bP):Prop where
 r:q.map (·.2.2)=d.1
 p:∀k,d.2 k=((m.bind λm=>m.2.1 k).getD ae)
 v:∀r,d.1=aa r->s8 r
def de (b:Nat):Ob bP:=λw F d=>∃q m,fR b w F ((i6 q m,q),m)/\qv q m d
instance Frame.Gb (b:Nat):Frame (de b) where
 ak:=λ⟨q,m,h,k⟩ a c=>⟨q,m,Frame.star.ak h a c,k⟩
 lt:=λ⟨_,_,h,_⟩=>Frame.star.lt h
section
variable {b:Nat} {w w':World} {F:Fp} {d:bP} {q:Option mX} {m:Option vN}
theorem fR.ax {p:Option Addr×Option Nat} (h:fR b w F ((p,q),m)):aL w b (r9 p) 136:=by
 obtain⟨F1,a,_⟩:=h.left;obtain⟨F2,c,_⟩:=a.left;exact c.ax
theorem ai.dk {a:Option mX} {c:Option vN} {d':bP} (h:ai (fR b) w w' F ((i6 a c,a),c)) (k:qv a c d'):ai (de b) w w' F d':=by
 obtain⟨e,f,g⟩:=h;exact⟨e,⟨a,c,f,k⟩,g⟩
theorem fR.dK {a:mX} (h:fR b w F ((i6 (aa a) m,aa a),m)):aL w a.1 (qh a) 284/\aL w a.2.1 (qi a.2.2) 385:=by
 obtain⟨F1,e,_⟩:=h.left;obtain⟨F2,c,_⟩:=e.right;have c:yG a.1 a.2.1 w F2 (a,a.2.2):=c;obtain⟨F3,f,_⟩:=c.left;obtain⟨F4,g,_⟩:=c.right;exact⟨f.ax,g.ax⟩
theorem fR.run {a:mX} (h:fR b w F ((i6 (aa a) m,aa a),m)):∃F1,mW a.2.1 w F1 a.2.2/\∀w' (r':bu),r'.up=a.2.2.up->r'.av=a.2.2.av->r'.aA=a.2.2.aA->r'.told=a.2.2.told->ai (mW a.2.1) w w' F1 r'->
  ai (fR b) w w' F ((i6 (aa (a.1,a.2.1,r')) m,aa (a.1,a.2.1,r')),m):=by
 obtain⟨F1,g,i⟩:=h.left;obtain⟨F2,c,k2⟩:=g.right;have c:yG a.1 a.2.1 w F2 (a,a.2.2):=c;obtain⟨F4,j,k⟩:=c.right;refine⟨F4,j,λw' r' l n o p s=>?_⟩
 have f:ai vO w w' F2 (aa (a.1,a.2.1,r')):=by
  obtain⟨t,t1,t2⟩:=k _ _ s;refine⟨t,?_,t2⟩;obtain⟨A1,A2,u,x,y,z⟩:=t1;refine⟨A1,A2,?_,x,y,z⟩;obtain⟨x1,x2⟩:=u;refine⟨x1,?_⟩;have e:qh (a.1,a.2.1,r')=qh a:=by simp only[qh,l,n,o,p]
  show aL w' a.1 (qh (a.1,a.2.1,r')) _;rw[e];exact x2
 exact i _ _ (k2 _ _ f)
theorem fR.Eu {a:mX} (h:fR b w F ((i6 (aa a) m,aa a),m)) (t:Bool) {K:World->Prop} (i:∀w',ai (fR b) w w' F ((i6 (aa (a.1,a.2.1,{a.2.2 with told:=t})) m,aa (a.1,a.2.1,{a.2.2 with told:=t})),m)->K w') :
  Wr w ((⟨a.1,0,ag⟩:Addr).add 4) [.bool t] K:=by
 obtain⟨F1,j,k⟩:=h.left;obtain⟨F2,c,k2⟩:=j.right;have c:yG a.1 a.2.1 w F2 (a,a.2.2):=c;obtain⟨F3,f,l⟩:=c.left;refine f.ax.wr (by simp[qh]) λw' g=>i w' ?_;have n:ai (Rw a.1 284 qh) w w' F3 (a.1,a.2.1,{a.2.2 with told:=t}):=f.fN g.U g.aK
 have e:ai vO w w' F2 (aa (a.1,a.2.1,{a.2.2 with told:=t})):=by
  obtain⟨o,t1,t2⟩:=l _ _ n;exact⟨o,t1,t2⟩
 exact k _ _ (k2 _ _ e)
theorem qv.set {a:mX} {r':bu} (k:qv (aa a) m d) (c:s8 r'):qv (aa (a.1,a.2.1,r')) m (aa r',d.2):=⟨rfl,k.p,λr e=>(by cases e;exact c)⟩
theorem qv.some_ {a:mX} (k:qv (aa a) m d):d.1=aa a.2.2:=k.r.symm
theorem qv.none_ (k:qv ag m d):d.1=ag:=k.r.symm
theorem u0 (h:de b w F d):Cx 99 #[pt b] w λe w'=>e=Z (.bool (dT d))/\w'=w:=by
 obtain⟨q,m,h,k⟩:=h;refine u99 ?_;refine⟨λ_=>⟨_,rfl,_,h.ax.cell rfl,?_,rfl⟩,λg=>(by cases g)⟩;unfold dT;rw[<-k.r];cases q<;>rfl
theorem N5 (h:de b w F d):Cx 100 #[pt b] w λe w'=>e=Z (.bool (gF d))/\w'=w:=by
 refine aeI ?_;refine⟨(u0 h).mono ?_⟩;rintro e w' ⟨rfl,rfl⟩;obtain⟨q,m,h,k⟩:=h;unfold gF dT
 cases q with
 | none=>rw[k.none_];exact⟨_,rfl,λg=>(by cases g),λ_=>⟨rfl,rfl⟩⟩
 | some a=>rw[k.some_];exact⟨_,rfl,λ_=>⟨_,rfl,_,h.ax.cell rfl,_,rfl,_,h.dK.1.cell rfl,rfl,rfl⟩,λg=>(by cases g)⟩
theorem N1 (h:de b w F d):Cx 101 #[pt b] w λe w'=>e=Z (I (fZ d))/\w'=w:=by
 refine aeJ ?_;refine⟨(u0 h).mono ?_⟩;rintro e w' ⟨rfl,rfl⟩;obtain⟨q,m,h,k⟩:=h;unfold fZ dT
 cases q with
 | none=>rw[k.none_];exact⟨_,rfl,λ_=>⟨rfl,rfl⟩,λg=>(by cases g)⟩
 | some a=>rw[k.some_];exact⟨_,rfl,λg=>(by cases g),λ_=>⟨_,rfl,_,h.ax.cell rfl,_,rfl,_,h.dK.1.cell rfl,rfl,rfl⟩⟩
theorem NZ (h:de b w F d):Cx 102 #[pt b] w λe w'=>e=Z (I (nu d))/\w'=w:=by
 refine aeK ?_;refine⟨(u0 h).mono ?_⟩;rintro e w' ⟨rfl,rfl⟩;obtain⟨q,m,h,k⟩:=h;unfold nu dT
 cases q with
 | none=>rw[k.none_];exact⟨_,rfl,λ_=>⟨rfl,rfl⟩,λg=>(by cases g)⟩
 | some a=>rw[k.some_];exact⟨_,rfl,λg=>(by cases g),λ_=>⟨_,rfl,_,h.ax.cell rfl,_,rfl,_,h.dK.1.cell rfl,rfl,rfl⟩⟩
theorem Hw (h:de b w F d):Cx 211 #[pt b] w λe w'=>e=Z (.bool (mB d))/\au no w w':=by
 refine ago ?_;refine⟨(u0 h).mono ?_⟩;rintro e w' ⟨rfl,rfl⟩;obtain⟨q,m,h,k⟩:=h;unfold mB dT
 cases q with
 | none=>rw[k.none_];exact⟨_,rfl,λ_=>⟨rfl,au.refl _ _⟩,λg=>(by cases g)⟩
 | some i=>
  obtain⟨F1,a,_⟩:=h.run;have c:=(k.v _ k.some_).aC;rw[k.some_];refine⟨_,rfl,λg=>(by cases g),λ_=>⟨_,rfl,_,h.ax.cell rfl,_,rfl,_,h.dK.1.cell rfl,⟨(yQ a c).mono ?_⟩⟩⟩;rintro e j ⟨rfl,f⟩;exact⟨_,_,_,rfl,rfl,f⟩
theorem N2 (h:de b w F d):Cx 294 #[pt b] w λe w'=>e=Z (I (sa d))/\au no w w':=by
 have c:=h;obtain⟨q,m,h,k⟩:=h;refine ahC ?_;refine⟨λg=>(by cases g),λ_=>⟨_,rfl,_,h.ax.cell rfl,?_⟩⟩;unfold sa
 cases q with
 | none=>rw[k.none_];exact⟨λ_=>⟨rfl,au.refl _ _⟩,λg=>(by cases g)⟩
 | some f=>
  refine⟨λg=>(by cases g),λ_=>⟨(Hw c).mono ?_⟩⟩;rintro e i ⟨rfl,a⟩;unfold mB;rw[k.some_];refine⟨_,rfl,λg=>?_,λg=>?_⟩
  ·simp only at g⊢;rw[g];exact⟨rfl,a⟩
  ·simp only at g⊢;rw[g];exact⟨rfl,a⟩
theorem N0 (n:Int) (w:World):Cx 261 #[I n] w λe w'=>e=Z (.bool (decide (kO n)))/\w'=w:=by
 refine ahc ?_;unfold kO;refine⟨λg=>⟨?_,rfl⟩,λg=>⟨?_,rfl⟩⟩
 ·have:=aO g;congr 2;exact decide_eq_decide.2 (by omega)
 ·have:=aV g;congr 2;exact(decide_eq_false (λa=>absurd a.1 this)).symm
structure SN (b:Nat) (w:World) (F:Fp) (d:bP) (r:bu) (bq b2:Nat) (mo:Option Nat) (F2:Fp):Prop where
 ax:aL w b (r9 (aa ⟨bq,0,ag⟩,mo)) 136
 dK:aL w bq (qh (bq,b2,r)) 284
 run:mW b2 w F2 r
 aC:s8 r
 runT:∀w' (r':bu),r'.up=r.up->r'.av=r.av->r'.aA=r.aA->r'.told=r.told->s8 r'->ai (mW b2) w w' F2 r'->ai (de b) w w' F (aa r',d.2)
 Eu:∀(t:Bool) (K:World->Prop),(∀w',ai (de b) w w' F (aa {r with told:=t},d.2)->K w')->Wr w ((⟨bq,0,ag⟩:Addr).add 4) [.bool t] K
 look:∀k:Int,(dg 134 (.map mo) (I k) ae).run Tryz.prog w=.ok (.bool (d.2 k)) w
 del:∀(k:Int) (k2 ty:TypeId),d.2 k=ah->∃w',(gW #[134,k2] ty #[.map mo,I k]).run Tryz.prog w=.ok (.tuple #[]) w'/\ai (de b) w w' F (d.1,λj=>if j=k then ae else d.2 j)
theorem de.open (h:de b w F d) {r:bu} (l:d.1=aa r):∃bq b2 mo F2,SN b w F d r bq b2 mo F2:=by
 obtain⟨q,m,h,k⟩:=h
 cases q with
 | none=>rw[k.none_]at l;cases l
 | some u=>
  obtain⟨bq,b2,n⟩:=u;have e:=k.some_;rw[l]at e;cases e;obtain⟨F2,x,k2⟩:=h.run;have c:=k.v _ l;refine⟨bq,b2,(i6 (aa (bq,b2,n)) m).2,F2,h.ax,h.dK.1,x,c,λw' r' y z A B C f=>(k2 w' r' y z A B f).dk (k.set C),λt K D=>h.Eu t λw' f=>D w' (f.dk (k.set (r':={n with told:=t}) c)),λj=>?_,λj E ty s=>?_⟩
  ·rw[k.p]
   cases m with
   | none=>exact abG zY j w
   | some m0=>
    obtain⟨F3,a,_⟩:=h.right;have a:bF m0.1 fA w F3 m0.2:=a;have:=jL zY a j ae;show(dg _ (.map (aa m0.1)) _ _).run _ _=_;rw[this];cases G:m0.2.1 j<;>simp[G]
  ·rw[k.p]at s
   cases m with
   | none=>cases s
   | some m0=>
    obtain⟨F3,a,H⟩:=h.right;have a:bF m0.1 fA w F3 m0.2:=a;obtain⟨w',g,f⟩:=sL zY a j E ty;refine⟨w',g,?_⟩
    have o:ai vM w w' F3 (aa (m0.1,gK m0.2 j)):=by
     obtain⟨I,t1,t2⟩:=f;exact⟨I,t1,t2⟩
    refine(show ai (fR b) w w' F ((i6 (aa (bq,b2,n)) (aa (m0.1,gK m0.2 j)),aa (bq,b2,n)),aa (m0.1,gK m0.2 j))from H _ _ o).dk ⟨k.r,λi=>?_,k.v⟩;simp only[Option.bind_some,gK];rw[k.p];by_cases e:i=j
    ·rw[ar e,ar e];rfl
    ·rw[af e,af e];rfl
theorem fR.Jw {p p':Option Addr×Option Nat} (h:fR b w F ((p,q),m)) {k:Nat} {v:Value} (f:k+1<=2) (e:ba (r9 p) k [v]=r9 p') {K:World->Prop} (g:∀w',ai (fR b) w w' F ((p',q),m)->K w'):Wr w ((⟨b,0,ag⟩:Addr).add k) [v] K:=by
 obtain⟨F0,i,j⟩:=h.left;obtain⟨F1,c,l⟩:=i.left;refine c.ax.wr (by simpa [r9]using f) λw' a=>g w' (j _ _ (l _ _ ?_));rw[e]at a;exact c.fN a.U a.aK
theorem Xi (h:de b w F d) (n:Int):Cx 264 #[pt b,I n] w λe w'=>e=Z (I (mJ n))/\ai (de b) w w' F (nK d n):=by
 have J:=h;obtain⟨q,m,h,k⟩:=h;refine ahf ?_
 have u:∀{x:Int},¬(0<=n/\n<10)->mJ n=3/\nK d n=d:=λN=>by
  have e:mJ n=3:=by unfold mJ;rw[af N]
  exact⟨e,by unfold nK;rw[e];rfl⟩
 refine⟨λg=>(by cases g),λ_=>⟨λg1=>⟨λy=>?_,λy=>?_⟩,λg1=>?_⟩⟩
 ·have y:=aO y;obtain⟨t,z⟩:=u (x:=0) (by omega);rw[t,z];exact⟨rfl,ai.same J⟩
 ·have g1:=aV g1;have y:=aV y;have t:mJ n=0:=by unfold mJ;rw[ar ⟨by omega,by omega⟩]
  have z:nK d n=(d.1,λj=>if j=n then ah else d.2 j):=by unfold nK;rw[t];rfl
  rw[t,z]
  cases m with
  | none=>
   refine⟨_,rfl,_,h.ax.cell rfl,λ_=>⟨λw1 K=>?_⟩,λg=>(by cases g)⟩;obtain⟨F3,R,O⟩:=h.right;have A:ai vM w w1 F3 (aa (w.heap.size,((λ_=>ag,0):(Int->Option Bool)×Nat))):=⟨_,bF.new K,K.ak _,λi hi=>.inr (bG hi.symm)⟩;have B:=O _ _ A;obtain⟨F1,L,P,Q⟩:=B;refine⟨_,rfl,fR.Jw L (p':=i6 q (aa (w.heap.size,((λ_=>ag,0):(Int->Option Bool)×Nat)))) (by omega) (by simp[r9,i6,ba]) λM C=>?_⟩;obtain⟨F2,f,D,E⟩:=ai.next L P Q C;obtain⟨F4,l,G⟩:=f.right;have l:bF w.heap.size fA M F4 (λ_=>ag,0):=l;obtain⟨o,a,s⟩:=qk zY l n ah
   have c:ai vM M o F4 (aa (w.heap.size,fe ((λ_=>ag,0):(Int->Option Bool)×Nat) n ah)):=by
    obtain⟨H,t1,t2⟩:=s;exact⟨H,t1,t2⟩
   refine⟨_,rfl,_,(fR.ax f).cell rfl,o,a,rfl,(show ai (fR b) w o F ((i6 q (aa (w.heap.size,fe ((λ_=>ag,0):(Int->Option Bool)×Nat) n ah)),q),aa (w.heap.size,fe ((λ_=>ag,0):(Int->Option Bool)×Nat) n ah))from ai.next f D E (G _ _ c)).dk ⟨k.r,λi=>?_,k.v⟩⟩;simp only[Option.bind_some,fe];rw[k.p];by_cases e:i=n
   ·rw[ar e,ar e];rfl
   ·rw[af e,af e];rfl
  | some m0=>
   refine⟨_,rfl,_,h.ax.cell rfl,λg=>(by cases g),λ_=>?_⟩;obtain⟨F4,l,G⟩:=h.right;have l:bF m0.1 fA w F4 m0.2:=l;obtain⟨o,a,s⟩:=qk zY l n ah
   have c:ai vM w o F4 (aa (m0.1,fe m0.2 n ah)):=by
    obtain⟨H,t1,t2⟩:=s;exact⟨H,t1,t2⟩
   refine⟨_,rfl,_,h.ax.cell rfl,o,a,rfl,(show ai (fR b) w o F ((i6 q (aa (m0.1,fe m0.2 n ah)),q),aa (m0.1,fe m0.2 n ah))from G _ _ c).dk ⟨k.r,λi=>?_,k.v⟩⟩;simp only[Option.bind_some,fe];rw[k.p];by_cases e:i=n
   ·rw[ar e,ar e];rfl
   ·rw[af e,af e];rfl
 ·have g1:=aO g1;obtain⟨t,z⟩:=u (x:=0) (by omega);rw[t,z];exact⟨rfl,ai.same J⟩
theorem NY (h:fR b w F ((i6 ag m,ag),m)) (k:qv ag m d) {up:Bool} {c aA:Int} {n:Int} (u:1<=n/\n<=64) (e:n=if up then 4 else 10) :
  aP Tryz.prog yC BP (Cs (aa ⟨b,0,ag⟩) up c aA n) w (C5 λe w'=>e=Z (I 0)/\ai (de b) w w' F (aa ⟨n,0,ae,up,c,aA,ae⟩,d.2)):=by
 refine aP.mk ?_;rw[acL];refine⟨(acf n w u).mono ?_⟩;rintro e w1 ⟨rfl,a⟩;refine⟨_,_,rfl,λg=>(by simp at g),λ_=>⟨λj f=>?_⟩⟩
 have y:yG w1.heap.size w.heap.size j (λi=>i=w1.heap.size∨i=w.heap.size) ((w1.heap.size,w.heap.size,⟨n,0,ae,up,c,aA,ae⟩),⟨n,0,ae,up,c,aA,ae⟩):=by
  refine⟨λi=>i=w1.heap.size,λi=>i=w.heap.size,Rw.new f rfl,⟨λ_=>bB,f.keep a.aK⟩,λi=>bB,λi hi G=>?_⟩;have:=a.size;omega
 have z:au no w j:=(a.ak no).and (f.ak no);obtain⟨F0,A,B⟩:=h.left;obtain⟨F1,H,C⟩:=A.right;have D:=a.size;have l:ai vO w j F1 (aa (w1.heap.size,w.heap.size,⟨n,0,ae,up,c,aA,ae⟩)):=⟨_,y,z.nn,λi hi=>.inr (by rcases hi with rfl|rfl<;>omega)⟩;obtain⟨F2,x,o,s⟩:=B _ _ (C _ _ l);refine⟨_,rfl,fR.Jw x (p':=i6 (aa (w1.heap.size,w.heap.size,⟨n,0,ae,up,c,aA,ae⟩)) m) (by omega) (by simp[r9,i6,ba]) λJ t=>⟨rfl,(ai.next x o s t).dk ⟨rfl,k.p,λr E=>?_⟩⟩⟩;cases E;exact⟨fW _,by simp only;omega,u.2⟩
theorem Xb (h:de b w F d) (up:Bool) (c aA:Int):Cx 161 #[pt b,.bool up,I c,I aA] w λe w'=>e=Z (I (my d c aA))/\ai (de b) w w' F (rZ d up c aA):=by
 have o:=h;obtain⟨q,m,h,k⟩:=h;refine afH ?_;have i:∀{x:Int},x≠0->my d c aA=x->my d c aA=x/\rZ d up c aA=d:=λp e=>⟨e,by unfold rZ;rw[e,af p]⟩;refine⟨λg=>(by cases g),λ_=>⟨_,rfl,_,h.ax.cell rfl,λg1=>?_,λg1=>?_⟩⟩
 ·cases q with
  | none=>cases g1
  | some s=>
   obtain⟨a,j⟩:=i (x:=7) (by omega) (by unfold my;rw[k.some_];rfl);rw[a,j];exact⟨rfl,ai.same o⟩
 ·cases q with
  | some s=>cases g1
  | none=>
   have hd:=k.none_;refine⟨(N0 c w).mono ?_⟩;rintro e w1 ⟨rfl,rfl⟩;refine⟨_,rfl,λl=>⟨(N0 aA w1).mono ?_⟩,λl=>?_⟩
   ·have l:kO c:=by simpa using l
    rintro e t ⟨rfl,rfl⟩;refine⟨_,rfl,λf=>?_,λf=>⟨λn=>?_,λn=>?_⟩⟩
    ·have f:¬kO aA:=by simpa using f
     obtain⟨a,j⟩:=i (x:=3) (by omega) (by unfold my;rw[hd];simp[f]);rw[a,j];exact⟨rfl,ai.same o⟩
    ·have f:kO aA:=by simpa using f
     have n:c=aA:=by simpa using n
     obtain⟨a,j⟩:=i (x:=2) (by omega) (by unfold my;rw[hd];subst n;simp[f]);rw[a,j];exact⟨rfl,ai.same o⟩
    ·have f:kO aA:=by simpa using f
     have n:¬c=aA:=by simpa using n
     have a:my d c aA=0:=by unfold my;rw[hd];simp[l,f,n]
     have j:rZ d up c aA=(aa ⟨if up then 4 else 10,0,ae,up,c,aA,ae⟩,d.2):=by unfold rZ;rw[ar a]
     rw[a,j];refine⟨λg=>?_,λg=>?_⟩
     ·subst g;exact NY h k (by omega) rfl
     ·subst g;exact NY h k (by omega) rfl
   ·have l:¬kO c:=by simpa using l
    obtain⟨a,j⟩:=i (x:=3) (by omega) (by unfold my;rw[hd];simp[l]);rw[a,j];exact⟨rfl,ai.same o⟩
theorem Xc (h:de b w F d):Cx 210 #[pt b] w λe w'=>(∃x:Int,e=Z (I x))/\ai (de b) w w' F (wN d):=by
 refine agn ?_;refine⟨(N2 h).mono ?_⟩;rintro e w1 ⟨rfl,f⟩;have s:=(Frame.Gb b).ak h f (λ_ _ h=>h)
 have key:(sa d≠0/\wN d=d)∨(sa d=0/\∃r,d.1=aa r/\r.over=ae/\wN d=(aa {r with told:=ae,aC:=if r.back then r.aC-1 else r.aC+1},d.2)):=by
  unfold sa wN
  cases hd:d.1 with
  | none=>exact .inl ⟨by simp,rfl⟩
  | some r=>
   cases a:r.over with
   | true=>exact .inl ⟨by simp[a],by simp[a]⟩
   | false=>exact .inr ⟨by simp[a],r,rfl,a,by simp[a]⟩
 rcases key with⟨j,k⟩|⟨j,r,hd,a,k⟩
 ·rw[k];exact⟨_,rfl,λ_=>⟨⟨_,rfl⟩,ai.quiet h f⟩,λg=>absurd (by simpa using g) j⟩
 ·rw[j,k];refine⟨_,rfl,λg=>(by simp at g),λ_=>?_⟩;obtain⟨bq,b2,mo,F2,hA⟩:=s.open hd;refine⟨_,rfl,_,hA.ax.cell rfl,_,rfl,hA.Eu ae _ λH l=>?_⟩;obtain⟨F3,t,n,o⟩:=l;obtain⟨z,A,B,F4,hB⟩:=t.open (r:={r with told:=ae}) rfl;refine⟨_,rfl,_,hB.ax.cell rfl,_,rfl,_,hB.dK.cell rfl,⟨(abR hB.run hB.aC.aC).mono ?_⟩⟩;rintro e C ⟨rfl,u⟩;have p:bu.over {r with told:=ae}=ae:=a;rw[p]at u⊢;refine⟨_,rfl,⟨_,rfl⟩,?_⟩
  have c:s8 (tx {r with told:=ae}):=by
   obtain⟨D,E,G⟩:=hB.aC;unfold bu.over bu.now at a;unfold s8 tx;simp only at D E G⊢;cases y:r.back
   ·have:r.aC≠r.kj:=λe=>by simp[y,e]at a
    simp;omega
   ·have:r.aC≠0:=λe=>by simp[y,e]at a
    simp;omega
  have:=hB.runT C (tx {r with told:=ae}) rfl rfl rfl rfl c (by simpa using u);have:=ai.next t n o this;exact ai.next s f.nn (λi hi=>.inl hi) this
theorem Xe (h:de b w F d) (a:mB d=ah):Cx 212 #[pt b] w λe w'=>e=Z (.tuple #[I (zw d).1,I (zw d).2])/\ai (de b) w w' F (uS d):=by
 obtain⟨r,c,a⟩:∃r,d.1=aa r/\r.over=ah:=by
  unfold mB at a
  cases hd:d.1 with
  | none=>rw[hd]at a;cases a
  | some r=>rw[hd]at a;exact⟨r,rfl,a⟩
 have A:zw d=(r.gr,0):=by unfold zw;rw[c];simp[a]
 have B:uS d=(ag,d.2):=by unfold uS;rw[c];simp[a]
 rw[A,B];obtain⟨bq,b2,mo,F2,hA⟩:=h.open c;refine agp ?_;refine⟨λg=>(by cases g),λ_=>⟨_,rfl,_,hA.ax.cell rfl,λg=>(by cases g),λ_=>⟨(Hw h).mono ?_⟩⟩⟩;rintro e w1 ⟨rfl,y⟩;have n:mB d=ah:=by unfold mB;rw[c];exact a
 rw[n];have z:=(Frame.Gb b).ak h y (λ_ _ h=>h);obtain⟨bq,b2,mo,F2,hA⟩:=z.open c;refine⟨_,rfl,λg=>(by simp at g),λ_=>⟨_,rfl,_,hA.ax.cell rfl,_,rfl,_,hA.dK.cell rfl,⟨(acz hA.run hA.aC.aC a).mono ?_⟩⟩⟩;rintro e C ⟨rfl,f⟩;have D:=(Frame.Gb b).ak z f (λ_ _ h=>h);have j:=y.and f;obtain⟨q,m,E,k⟩:=D;refine⟨_,rfl,_,rfl,fR.Jw E (p':=i6 ag m) (by omega) (by simp[r9,i6,ba]) λo G=>⟨rfl,?_⟩⟩;obtain⟨F6,l,s,t⟩:=G;obtain⟨F0,H,J⟩:=aF.left l;obtain⟨F7,O,K⟩:=H.right;have u:ai vO o o F7 ag:=⟨λ_=>False,λ_ h=>h,au.refl _ _,λ_ h=>h.elim⟩;have x:=(show ai (fR b) C o F ((i6 ag m,ag),m)from ai.next l s t (J _ _ (K _ _ u))).dk (d':=(ag,d.2)) ⟨rfl,k.p,λr c=>(by cases c)⟩;obtain⟨F9,L,M,N⟩:=x;exact⟨F9,L,(j.nn).trans M (λi _ hi=>hi),λi hi=>(N i hi).imp id λh=>aX j.size h⟩
def yd (x:Int×Bool×Bool):List Value:=[I x.1,.bool x.2.1,.bool x.2.2]
abbrev s9 (b:Nat):Ob (Int×Bool×Bool):=Rw b 303 yd
theorem N4 {W:World} {F0:Fp} {r:bu} {p1 j:Nat} {x:Int×Bool×Bool} {n:Int} {bk g:Bool} (c:ai (aF (aF (de b) (s9 p1)) (s9 j)) W w F0 ((d,x),(n,bk,g))) (l:d.1=aa r) {k:bu} {f2:Int->Bool} (o:k={r with told:=ah}) (p:f2=d.2) :
  aP Tryz.prog oY BR (Cv (aa ⟨b,0,ag⟩) ⟨p1,0,ag⟩ ⟨j,0,ag⟩) w (C7 λe w'=>e=Z (.tuple #[.agg #[I n,.bool bk,.bool g],I 0])/\ai (de b) W w' F0 (aa k,f2)):=by
 subst o;subst p;refine aP.mk ?_;rw[acX];obtain⟨F1,hA,a⟩:=c.ll;obtain⟨bq,b2,mo,F2,h⟩:=hA.open l;refine⟨_,rfl,_,h.ax.cell rfl,_,rfl,h.Eu ah _ λs f=>?_⟩;replace c:=a _ _ f;clear hA a f h;obtain⟨F1,hA,a⟩:=c.right;refine⟨_,hA.ax.cell rfl,_,hA.ax.cell rfl,_,hA.ax.cell rfl,?_⟩;clear hA a;obtain⟨F1,hA,a⟩:=c.lr;refine hA.ax.fQ (by simp[yd]) λt i=>?_;replace c:=a _ _ (hA.fN (s':=(n,bk,g)) i.U i.aK);clear hA a i;obtain⟨F1,hA,a⟩:=c.lr;exact⟨_,hA.ax.cell rfl,_,hA.ax.cell rfl,_,hA.ax.cell rfl,rfl,c.drop.drop⟩
theorem Xg {W:World} {F0:Fp} {r:bu} {p1 o:Nat} {x:Int×Bool×Bool} {n:Int} {bk h:Bool} (i:ai (aF (aF (de b) (s9 p1)) (s9 o)) W w F0 ((d,x),(n,bk,h))) (l:d.1=aa r) (u:r.over=ae) (y:h=ah->r.back=ae/\d.2 n=ah) {p:bu} {f2:Int->Bool} (s:p={r with told:=ah,back:=r.back||h}) (t:f2=if h then λk=>if k=n then ae else d.2 k else d.2) :
  aP Tryz.prog oY wB (wO (aa ⟨b,0,ag⟩) ⟨p1,0,ag⟩ n ⟨o,0,ag⟩) w (xk λe w'=>e=Z (.tuple #[.agg #[I n,.bool bk,.bool h],I 0])/\
   ai (de b) W w' F0 (aa p,f2)):=by
 refine aP.mk ?_;rw[acW];obtain⟨F1,hA,j⟩:=i.right;refine⟨_,hA.ax.cell rfl,λg=>?_,λg=>?_⟩
 ·have g:h=ah:=g;subst g;clear hA j;obtain⟨z,A⟩:=y rfl;obtain⟨F1,hA,j⟩:=i.ll;obtain⟨bq,b2,mo,F2,a⟩:=hA.open l;obtain⟨B,f,c⟩:=a.del n 3 0 A;refine⟨_,rfl,_,a.ax.cell rfl,B,f,?_⟩;replace i:=j _ _ c;clear hA j c a f;obtain⟨F1,hA,j⟩:=i.ll;obtain⟨bq,b2,mo,F2,a⟩:=hA.open l;refine⟨_,rfl,_,a.ax.cell rfl,_,rfl,_,a.dK.cell rfl,⟨(abW a.run a.aC.aC u z).mono ?_⟩⟩;rintro e C ⟨rfl,c⟩;replace i:=j _ _ (a.runT C {r with back:=ah} rfl rfl rfl rfl a.aC c);clear hA j c a;refine⟨_,rfl,?_⟩;exact N4 (r:={r with back:=ah}) i rfl (by rw[s,Bool.or_true]) (by rw[t,ar rfl])
 ·have g:h=ae:=g;subst g;exact N4 i l (by rw[s,lu]) (by rw[t,af Bool.false_ne_true])
theorem Xh (h:de b w F d):Cx 208 #[pt b] w λe w'=>e=Z (.tuple #[.agg #[I (iP d).1.1,.bool (iP d).1.2.1,.bool (iP d).1.2.2],I (iP d).2])/\ai (de b) w w' F (rh d):=by
 have a:=ai.same h;refine agl ?_;refine⟨λw1 o=>?_⟩;replace a:ai (aF (de b) (s9 w.heap.size)) w w1 F (d,(0,ae,ae)):=a.add (o.ak no) (Rw.new (enc:=yd) o rfl) (λi hi=>bG hi.symm);generalize w.heap.size=p1 at a⊢;obtain⟨F1,hA,c⟩:=a.left;refine⟨(N2 hA).mono ?_⟩;rintro e E ⟨rfl,p⟩;replace a:=a.ak p;clear hA c p
 have key:(sa d≠0/\iP d=((0,ae,ae),sa d)/\rh d=d)∨(sa d=0/\∃r,d.1=aa r/\r.over=ae/\iP d=((r.now.1,r.now.2.1,i7 d r),0)/\rh d=(aa {r with told:=ah,back:=r.back||i7 d r},if i7 d r then λk=>if k=r.now.1 then ae else d.2 k else d.2)):=by
  unfold sa iP rh
  cases hd:d.1 with
  | none=>exact .inl ⟨by simp,rfl,rfl⟩
  | some r=>
   cases f:r.over with
   | true=>exact .inl ⟨by simp[f],by simp[f],by simp[f]⟩
   | false=>exact .inr ⟨by simp[f],r,rfl,f,by simp[f],by simp[f]⟩
 rcases key with⟨x,y,z⟩|⟨x,r,A,f,y,z⟩
 ·rw[y,z];refine⟨_,rfl,λ_=>?_,λg=>absurd (by simpa using g) x⟩;obtain⟨F1,hA,c⟩:=a.right;refine hA.ax.fQ (by simp[yd]) λC n=>?_;replace a:=c _ _ (hA.fN (s':=((0,ae,ae):Int×Bool×Bool)) n.U n.aK);clear hA c n;obtain⟨F1,hA,c⟩:=a.right;exact⟨_,hA.ax.cell rfl,_,hA.ax.cell rfl,_,hA.ax.cell rfl,rfl,a.drop⟩
 ·rw[x,y,z];refine⟨_,rfl,λg=>(by simp at g),λ_=>?_⟩;obtain⟨F1,hA,c⟩:=a.left;obtain⟨bq,b2,mo,F2,j⟩:=hA.open A;refine⟨_,rfl,_,j.ax.cell rfl,_,rfl,_,j.dK.cell rfl,⟨(yQ j.run j.aC.aC).mono ?_⟩⟩;rintro e C ⟨rfl,p⟩;replace a:=a.ak p;clear hA c p j
  have u:r.now.2.1=r.back:=by
   unfold bu.over bu.now at f;unfold bu.now;split
   ·rfl
   ·split<;>simp_all
  rw[u]
  have fin:∀{s:World} {B:Bool},B=i7 d r->ai (aF (de b) (s9 p1)) w s F (d,(0,ae,ae))->aI s [I 0,.bool ae,.bool ae] 303 λp_4 w'=>Wr w' p_4 [I r.now.1,.bool r.back,.bool B] λw'=>
    aP Tryz.prog oY wB (wO (aa ⟨b,0,ag⟩) ⟨p1,0,ag⟩ r.now.1 p_4) w' (xk λe w'=>e=Z (.tuple #[.agg #[I r.now.1,.bool r.back,.bool (i7 d r)],I 0])/\
     ai (de b) w w' F (aa {r with told:=ah,back:=r.back||i7 d r},if i7 d r then λk=>if k=r.now.1 then ae else d.2 k else d.2)):=by
   rintro s B rfl a;refine⟨λD o=>?_⟩;replace a:ai (aF (aF (de b) (s9 p1)) (s9 s.heap.size)) w D F ((d,(0,ae,ae)),(0,ae,ae)):=a.add (o.ak no) (Rw.new (enc:=yd) o rfl) (λi hi=>bG hi.symm);generalize s.heap.size=G at a⊢;obtain⟨F1,hA,c⟩:=a.right;refine hA.ax.fQ (by simp[yd]) λH n=>?_;replace a:=c _ _ (hA.fN (s':=(r.now.1,r.back,i7 d r)) n.U n.aK);refine Xg a A f (λt=>?_) rfl rfl;unfold i7 at t;rw[u]at t;simp only[br,ly]at t;exact⟨t.1.1,t.2⟩
  refine⟨_,_,_,rfl,λg=>?_,λg=>?_⟩
  ·have g:r.back=ae:=by simpa using g
   obtain⟨F1,hA,c⟩:=a.left;obtain⟨bq,b2,mo,F2,j⟩:=hA.open A;refine⟨_,rfl,_,j.ax.cell rfl,_,rfl,_,j.dK.cell rfl,λl=>?_,λl=>?_⟩
   ·have l:r.told=ae:=by simpa using l
    refine⟨_,rfl,_,j.ax.cell rfl,_,j.look _,fin ?_ a⟩;unfold i7;rw[u,g,l];rfl
   ·have l:r.told=ah:=by simpa using l
    refine fin ?_ a;unfold i7;rw[l];simp
  ·have g:r.back=ah:=by simpa using g
   refine fin ?_ a;unfold i7;rw[u,g];rfl
end
theorem VU:dZ Tryz.prog 222 226 6 40 [.bool ae,.bool ae,I 0,I 0,I 0,I 0]:=⟨by kernel_rfl,by kernel_rfl,rfl,by omega⟩
abbrev oW:=eK×Int×Int
def fD (x:oW):List Value:=[.bool x.1.pw,.bool x.1.idle,I x.1.cA,I x.1.since,I x.2.1,I x.2.2]
theorem Ca (x:oW):(fD x).length=6:=rfl
abbrev rG (b:Nat):Ob (List oW×Option Addr×Nat):=Hd b 224 226 6 (λl p c=>[.slice p l.length c]) (λl=>l.length) (λl=>l.flatMap fD)
structure ui (x:List eK):Prop where
 cA:∀q∈x,0<=q.cA/\q.cA<4
 len:1<=x.length/\x.length<=64
def fh (b:Nat):Ob (List eK):=λw F x=>∃l y,rG b w F (l,y)/\l.map eX=x/\ui x
instance Frame.Vw (b:Nat):Frame (fh b) where
 ak:=λ⟨l,y,h,r⟩ k a=>⟨l,y,(Frame.hd ..).ak h k a,r⟩
 lt:=λ⟨_,_,h,_⟩=>(Frame.hd ..).lt h
section
variable {b:Nat} {w w':World} {F:Fp} {x:List eK} {l:List oW} {y:Option Addr×Nat}
theorem rG.wr {a:Addr} {c0:Nat} (h:rG b w F (l,(aa a,c0))) {i:Nat} (hi:i<l.length) {j:Nat} {vs:List Value} {q:oW} (d:j+vs.length<=6) (e:fD q=ba (fD l[i]) j vs) {K:World->Prop} (f:∀w',ai (rG b) w w' F (l.set i q,(aa a,c0))->K w'):Wr w ((a.add (i*6)).add j) vs K:=by
 rw[dN];have g:(i+1)*6<=l.length*6:=fu _ hi;refine h.sl.wr (o:=i*6+j) (by simp only;omega) λw' c k=>f w' (h.elems ?_ k (by simp));rw[IL Ca hi d e]at c;simpa using c
theorem rG.at (h:rG b w F (l,y)) {i:Nat} (hi:i<l.length):∃a c0,y=(aa a,c0)/\∀(j:Nat) v,(fD l[i])[j]?=aa v->w.cell? ((a.add (i*6)).add j)=aa v:=by
 obtain⟨a,c,d⟩:=h.sl.cells.qN Ca (by omega) hi;obtain⟨p,c0⟩:=y;simp only at c;subst c;exact⟨a,c0,rfl,d⟩
theorem NT {i:Nat} (hi:i<x.length):cm x (i:Int)=x[i]:=by
 unfold cm;rw[ar (show eG x (i:Int)from⟨by omega,by omega⟩)];simp[aQ,hi]
theorem va {c:Int} (h:eG x c):∃i:Nat,i<x.length/\c=(i:Int):=⟨c.toNat,by unfold eG at h;omega,by unfold eG at h;omega⟩
def jl (b:Nat) (W w:World) (F:Fp) (l:List oW) (a:Addr) (c0:Nat):Prop:=ai (rG b) W w F (l,(aa a,c0))
theorem jl.cell {W:World} {a:Addr} {c0:Nat} (h:jl b W w F l a c0) {i:Nat} (hi:i<l.length) {j:Nat} {v:Value} (c:(fD l[i])[j]?=aa v):w.cell? ((a.add (i*6)).add j)=aa v:=by
 obtain⟨F1,d,_⟩:=h;obtain⟨g,c',e,f⟩:=d.at hi;cases e;exact f j v c
theorem jl.ax {W:World} {a:Addr} {c0:Nat} (h:jl b W w F l a c0):aL w b [.slice (aa a) l.length c0] 224:=by
 obtain⟨F1,c,_⟩:=h;exact c.ax
theorem jl.wr {W:World} {a:Addr} {c0:Nat} (h:jl b W w F l a c0) {i:Nat} (hi:i<l.length) {j:Nat} {vs:List Value} (q:oW) (c:j+vs.length<=6) (d:fD q=ba (fD l[i]) j vs) {K:World->Prop} (e:∀w',jl b W w' F (l.set i q) a c0->K w'):Wr w ((a.add (i*6)).add j) vs K:=by
 obtain⟨F1,f,g⟩:=ai.cP h;exact rG.wr f hi c d λw' k=>e w' (g _ _ k)
theorem jl.ak {W w1:World} {a:Addr} {c0:Nat} (h:jl b W w F l a c0) (c:au no w w1):jl b W w1 F l a c0:=ai.ak h c
theorem jl.out {W:World} {a:Addr} {c0:Nat} (h:jl b W w F l a c0) (c:l.map eX=x) (d:ui x):ai (fh b) W w F x:=by
 obtain⟨e,f,g⟩:=h;exact⟨e,⟨l,_,f,c,d⟩,g⟩
theorem fh.open (h:fh b w F x) {i:Nat} (hi:i<x.length):∃l a c0,jl b w w F l a c0/\l.map eX=x/\ui x:=by
 obtain⟨l,y,h,rfl,d⟩:=h;have c:i<l.length:=by simpa using hi
 obtain⟨a,c0,rfl,e⟩:=h.at c;exact⟨l,a,c0,ai.same h,rfl,d⟩
theorem ui.set (c:ui x) {i:Nat} {q:eK} (d:0<=q.cA/\q.cA<4):ui (x.set i q):=⟨λz a=>by
 rcases il a with a|rfl
 ·exact c.cA z a
 ·exact d,by simpa using c.len⟩
theorem fh.v (h:fh b w F x):ui x:=by obtain⟨_,_,_,_,a⟩:=h;exact a
theorem fh.cA (h:fh b w F x) (c:Int):0<=(cm x c).cA/\(cm x c).cA<4:=by
 by_cases a:eG x c
 ·obtain⟨i,hi,rfl⟩:=va a;rw[NT hi];exact h.v.cA _ (cx hi)
 ·unfold cm;rw[af a];exact⟨fW _,by decide⟩
theorem fh.ax (h:fh b w F x):∃p c0,aL w b [.slice p x.length c0] 224:=by
 obtain⟨l,y,h,rfl,a⟩:=h;exact⟨_,_,by simpa using h.ax⟩
theorem wH (h:fh b w F x) {c:Int} (d:¬eG x c):Cx 199 #[pt b,I c] w λe w'=>e=Z (.tuple #[.pointer ag,I 3])/\w'=w:=by
 obtain⟨p,c0,hB⟩:=h.ax;refine Sd ?_;refine⟨λg=>(by cases g),λ_=>⟨λg1=>⟨_,rfl,_,_,_,hB.cell rfl,λa=>⟨rfl,rfl⟩,λa=>?_⟩,λg1=>⟨rfl,rfl⟩⟩⟩;have g1:=aV g1;have a:=aV a;exact absurd (show eG x c from⟨by omega,by omega⟩) d
theorem wI {W:World} {i:Nat} {a:Addr} {c0:Nat} (h:jl b W w F l a c0) (hi:i<l.length):Cx 199 #[pt b,I (i:Int)] w λe w'=>e=Z (.tuple #[.pointer (aa (a.add (i*6))),I 0])/\w'=w:=by
 have hB:=h.ax;refine Sd ?_;refine⟨λg=>(by cases g),λ_=>⟨λg1=>⟨_,rfl,_,_,_,hB.cell rfl,λc=>?_,λc=>⟨_,rfl,_,_,_,hB.cell rfl,⟨by omega,by omega⟩,_,rfl,?_,rfl⟩⟩,λg1=>?_⟩⟩
 ·have c:=aO c;omega
 ·simp
 ·have g1:=aO g1;omega
theorem MI (n:Int) (w:World):Cx 206 #[I n] w λe w'=>e=Z (.bool (decide (bI n)))/\w'=w:=by
 refine agj ?_;refine⟨λg=>⟨?_,rfl⟩,λg=>⟨?_,rfl⟩⟩
 ·have:=aO g;congr 2;exact decide_eq_decide.2 (by unfold bI;omega)
 ·have:=aV g;congr 2;exact(decide_eq_false (λa=>absurd a.1 this)).symm
theorem MN {W:World} {i:Nat} {a:Addr} {c0:Nat} (h:jl b W w F l a c0) (hi:i<l.length):Cx 207 #[.pointer (aa (a.add (i*6)))] w λe w'=>e=Z (.tuple #[])/\jl b W w' F (l.set i (⟨l[i].1.pw,ae,0,0⟩,l[i].2)) a c0:=by
 refine agk ?_;refine⟨_,rfl,h.wr hi (⟨l[i].1.pw,ae,l[i].1.cA,l[i].1.since⟩,l[i].2) (by simp) (by simp[fD,ba]) λw1 c=>?_⟩;refine⟨_,rfl,c.wr (i:=i) (by simpa using hi) (⟨l[i].1.pw,ae,0,l[i].1.since⟩,l[i].2) (by simp) (by simp[fD,ba]) λg d=>?_⟩;refine⟨_,rfl,d.wr (i:=i) (by simpa using hi) (⟨l[i].1.pw,ae,0,0⟩,l[i].2) (by simp) (by simp[fD,ba]) λj f=>⟨rfl,?_⟩⟩;simpa using f
theorem CP {i:Nat} (a:l.map eX=x) (hi:i<l.length):cm x (i:Int)=l[i].1:=by
 subst a;rw[NT (by simpa using hi)];simp
theorem FZ (h:fh b w F x) (c:Int) (on:Bool):Cx 354 #[pt b,I c,.bool on] w λe w'=>(∃n:Int,e=Z (I n))/\ai (fh b) w w' F (jw x c on):=by
 refine ait ?_;by_cases j:eG x c
 ·obtain⟨i,hi,rfl⟩:=va j;obtain⟨l,a,c0,k,m,q⟩:=h.open hi;have d:i<l.length:=by rw[<-m]at hi;simpa using hi
  refine⟨(wI k d).mono ?_⟩;rintro e w1 ⟨rfl,rfl⟩;have p:=CP m d;refine⟨_,_,rfl,λg=>(by simp at g),λ_=>⟨_,rfl,_,k.cell d rfl,λg=>?_,λg=>?_⟩⟩
  ·have g:l[i].1.pw=on:=by simpa using g
   have f:jw x (i:Int) on=x:=by unfold jw;rw[af (λo=>o.2 (by rw[p];exact g))]
   rw[f];exact⟨⟨_,rfl⟩,ai.same h⟩
  ·have g:l[i].1.pw≠on:=by simpa using g
   refine⟨_,rfl,k.wr d (⟨on,l[i].1.idle,l[i].1.cA,l[i].1.since⟩,l[i].2) (by simp) (by simp[fD,ba]) λt r=>⟨(MN r (i:=i) (by simpa using d)).mono ?_⟩⟩;rintro e u ⟨rfl,s⟩;refine⟨rfl,⟨_,rfl⟩,?_⟩
   have f:jw x (i:Int) on=x.set i ⟨on,ae,0,0⟩:=by
    unfold jw;rw[ar ⟨j,by rw[p];exact g⟩];rfl
   rw[f];refine s.out ?_ (q.set ⟨fW _,(show(0:Int)<4 by decide)⟩);rw[eY,eY,m];simp
 ·refine⟨(wH h j).mono ?_⟩;rintro e w1 ⟨rfl,rfl⟩;have f:jw x c on=x:=by unfold jw;rw[af (λo=>j o.1)]
  rw[f];exact⟨_,_,rfl,λ_=>⟨⟨_,rfl⟩,ai.same h⟩,λg=>(by simp at g)⟩
theorem Vz (h:fh b w F x) (c cA now:Int) (p:cA<4):Cx 216 #[pt b,I c,I cA,I now] w λe w'=>(∃n:Int,e=Z (I n))/\ai (fh b) w w' F (oq x c cA now):=by
 refine agt ?_;by_cases s:eG x c
 ·obtain⟨i,hi,rfl⟩:=va s;obtain⟨l,a,c0,t,u,A⟩:=h.open hi;have f:i<l.length:=by rw[<-u]at hi;simpa using hi
  refine⟨(wI t f).mono ?_⟩;rintro e w1 ⟨rfl,rfl⟩;have q:=CP u f
  have j:¬((0<=cA/\cA<8)/\bI now/\l[i].1.pw=ah/\l[i].1.idle=ae)->oq x (i:Int) cA now=x:=λB=>by
   unfold oq;rw[af (λd=>B ⟨d.2.1,d.2.2.1,by rw[<-q];exact d.2.2.2.1,by rw[<-q];exact d.2.2.2.2⟩)]
  refine⟨_,_,rfl,λg=>(by simp at g),λ_=>⟨λg1=>⟨λr=>⟨(MI now w1).mono ?_⟩,λr=>?_⟩,λg1=>?_⟩⟩
  ·rintro e G ⟨rfl,rfl⟩;have g1:=aV g1;have r:=aV r;refine⟨_,rfl,λk=>?_,λk=>⟨_,rfl,_,t.cell f rfl,λm=>⟨_,rfl,_,t.cell f rfl,λo=>?_,λo=>?_⟩,λm=>?_⟩⟩
   ·have k:¬bI now:=by simpa using k
    rw[j (λd=>k d.2.1)];exact⟨⟨_,rfl⟩,ai.same h⟩
   ·have o:l[i].1.idle=ah:=o;rw[j (λd=>by rw[o]at d;cases d.2.2.2)];exact⟨⟨_,rfl⟩,ai.same h⟩
   ·have k:bI now:=by simpa using k
    have m:l[i].1.pw=ah:=by simpa using m
    have o:l[i].1.idle=ae:=o;refine⟨_,rfl,t.wr f (⟨l[i].1.pw,ah,l[i].1.cA,l[i].1.since⟩,l[i].2) (by simp) (by simp[fD,ba]) λH C=>?_⟩;refine⟨_,rfl,C.wr (i:=i) (by simpa using f) (⟨l[i].1.pw,ah,cA,l[i].1.since⟩,l[i].2) (by simp) (by simp[fD,ba]) λJ D=>?_⟩;refine⟨_,rfl,D.wr (i:=i) (by simpa using f) (⟨l[i].1.pw,ah,cA,now⟩,l[i].2) (by simp) (by simp[fD,ba]) λK E=>⟨⟨_,rfl⟩,?_⟩⟩
    have z:oq x (i:Int) cA now=x.set i ⟨l[i].1.pw,ah,cA,now⟩:=by
     unfold oq;rw[ar ⟨s,⟨by omega,by omega⟩,k,by rw[q];exact m,by rw[q];exact o⟩,q];rfl
    rw[z];refine E.out ?_ (A.set ⟨by simp only;omega,p⟩);rw[eY,eY,eY,u];simp
   ·have m:l[i].1.pw=ae:=by simpa using m
    rw[j (λd=>by rw[m]at d;cases d.2.2.1)];exact⟨⟨_,rfl⟩,ai.same h⟩
  ·have r:=aO r;rw[j (λd=>absurd d.1.2 (by omega))];exact⟨⟨_,rfl⟩,ai.same h⟩
  ·have g1:=aO g1;rw[j (λd=>absurd d.1.1 (by omega))];exact⟨⟨_,rfl⟩,ai.same h⟩
 ·refine⟨(wH h s).mono ?_⟩;rintro e w1 ⟨rfl,rfl⟩;have z:oq x c cA now=x:=by unfold oq;rw[af (λd=>s d.1)]
  rw[z];exact⟨_,_,rfl,λ_=>⟨⟨_,rfl⟩,ai.same h⟩,λg=>(by simp at g)⟩
theorem abH (x y:Int) (w:World):(wb #[2,2] 2 #[I x,I y]).run Tryz.prog w=.ok (I (if y>x then y else x)) w:=by
 simp[wb,Builtin.max2]
theorem VF (h:fh b w F x) (c now:Int):Cx 117 #[pt b,I c,I now] w λe w'=>(∃n m:Int,e=Z (.tuple #[I n,I m]))/\ai (fh b) w w' F (ot x c now):=by
 refine aeZ ?_;by_cases p:eG x c
 ·obtain⟨i,hi,rfl⟩:=va p;obtain⟨l,a,c0,q,r,u⟩:=h.open hi;have d:i<l.length:=by rw[<-r]at hi;simpa using hi
  refine⟨(wI q d).mono ?_⟩;rintro e w1 ⟨rfl,rfl⟩;have s:=CP r d
  have o:¬(bI now/\l[i].1.idle=ah)->ot x (i:Int) now=x:=λz=>by
   unfold ot;rw[af (λf=>z ⟨f.2.1,by rw[<-s];exact f.2.2⟩)]
  refine⟨_,_,rfl,λg=>(by simp at g),λ_=>⟨(MI now w1).mono ?_⟩⟩;rintro e C ⟨rfl,rfl⟩;refine⟨_,rfl,λj=>?_,λj=>⟨_,rfl,_,q.cell d rfl,λk=>?_,λk=>⟨_,rfl,_,q.cell d rfl,⟨(MN q d).mono ?_⟩⟩⟩⟩
  ·have j:¬bI now:=by simpa using j
   rw[o (λf=>j f.1)];exact⟨⟨_,_,rfl⟩,ai.same h⟩
  ·have k:l[i].1.idle=ae:=by simpa using k
   rw[o (λf=>by rw[k]at f;cases f.2)];exact⟨⟨_,_,rfl⟩,ai.same h⟩
  ·have j:bI now:=by simpa using j
   have k:l[i].1.idle=ah:=by simpa using k
   rintro e A ⟨rfl,B⟩;refine⟨rfl,_,A,abH _ _ _,⟨_,_,rfl⟩,?_⟩
   have t:ot x (i:Int) now=x.set i ⟨l[i].1.pw,ae,0,0⟩:=by
    unfold ot;rw[ar ⟨p,j,by rw[s];exact k⟩,s];rfl
   rw[t];refine B.out ?_ (u.set ⟨fW _,(show(0:Int)<4 by decide)⟩);rw[eY,r]
 ·refine⟨(wH h p).mono ?_⟩;rintro e w1 ⟨rfl,rfl⟩;have t:ot x c now=x:=by unfold ot;rw[af (λf=>p f.1)]
  rw[t];exact⟨_,_,rfl,λ_=>⟨⟨_,_,rfl⟩,ai.same h⟩,λg=>(by simp at g)⟩
theorem IJ {i:Nat} (hi:i<l.length) (a:l.map eX=x) (n:Int×Int):(l.set i (l[i].1,n)).map eX=x:=by
 rw[eY,a];subst a;apply cT;intro j;rw[cB];by_cases e:i=j
 ·subst e;simp[hi]
 ·simp[e]
theorem My (h:fh b w F x) (c:Int) (p:Bool):Cx 116 #[pt b,I c,.bool p] w λe w'=>(∃n:Int,e=Z (I n))/\ai (fh b) w w' F x:=by
 refine aeY ?_;by_cases m:eG x c
 ·obtain⟨i,hi,rfl⟩:=va m;obtain⟨l,a,c0,f,j,o⟩:=h.open hi;have d:i<l.length:=by rw[<-j]at hi;simpa using hi
  refine⟨(wI f d).mono ?_⟩;rintro e w1 ⟨rfl,rfl⟩;refine⟨_,_,rfl,λg=>(by simp at g),λ_=>⟨_,rfl,_,f.cell d rfl,_,rfl,f.wr d (l[i].1,aT .i64 (l[i].2.1+1),l[i].2.2) (by simp) (by simp[fD,ba]) λr k=>⟨λg=>?_,λg=>⟨⟨_,rfl⟩,k.out (IJ d j _) o⟩⟩⟩⟩;refine⟨_,rfl,_,k.cell (i:=i) (by simpa using d) (by simp[fD];rfl),_,rfl,k.wr (i:=i) (by simpa using d) (l[i].1,aT .i64 (l[i].2.1+1),aT .i64 (l[i].2.2+1)) (by simp) (by simp[fD,ba]) λs q=>⟨⟨_,rfl⟩,q.out ?_ o⟩⟩;rw[qA];exact IJ d j _
 ·refine⟨(wH h m).mono ?_⟩;rintro e w1 ⟨rfl,rfl⟩;exact⟨_,_,rfl,λ_=>⟨⟨_,rfl⟩,ai.same h⟩,λg=>(by simp at g)⟩
theorem VE (h:fh b w F x) (c:Int):Cx 227 #[pt b,I c] w λe w'=>(∃n m k:Int,e=Z (.tuple #[I n,I m,I k]))/\ai (fh b) w w' F x:=by
 refine agE ?_;by_cases j:eG x c
 ·obtain⟨i,hi,rfl⟩:=va j;obtain⟨l,a,c0,f,o,p⟩:=h.open hi;have d:i<l.length:=by rw[<-o]at hi;simpa using hi
  refine⟨(wI f d).mono ?_⟩;rintro e w1 ⟨rfl,rfl⟩;refine⟨_,_,rfl,λg=>(by simp at g),λ_ A q r s t=>?_⟩;have f:=f.ak (au.same no q r s t);refine⟨_,rfl,_,f.cell d rfl,_,rfl,_,f.cell d rfl,_,rfl,f.wr d (l[i].1,l[i].2.1,0) (by simp) (by simp[fD,ba]) λB u=>⟨_,rfl,u.wr (i:=i) (by simpa using d) (l[i].1,0,0) (by simp) (by simp[fD,ba]) λC z=>⟨⟨_,_,_,rfl⟩,z.out ?_ p⟩⟩⟩;rw[qA];exact IJ d o _
 ·refine⟨(wH h j).mono ?_⟩;rintro e w1 ⟨rfl,rfl⟩;exact⟨_,_,rfl,λ_=>⟨⟨_,_,_,rfl⟩,ai.same h⟩,λg=>(by simp at g)⟩
theorem FO (h:fh b w F x) (c:Int):Cx 113 #[pt b,I c] w λe w'=>(∃n m:Int,e=Z (.tuple #[.agg #[.bool (cm x c).pw,.bool (cm x c).idle,I (cm x c).cA,I (cm x c).since,I n,I m],I (if eG x c then 0 else 3)]))/\au no w w':=by
 refine aeV ?_;refine⟨λw1 s=>?_⟩;have q:=s.ak no;have t:=(Frame.Vw b).ak h q (λ_ _ h=>h);have hB:aL w1 w.heap.size _ _:=s.aK;by_cases o:eG x c
 ·obtain⟨i,hi,rfl⟩:=va o;obtain⟨l,a,c0,k,u,D⟩:=t.open hi;have f:i<l.length:=by rw[<-u]at hi;simpa using hi
  refine⟨(wI k f).mono ?_⟩;rintro e z ⟨rfl,rfl⟩;have A:=CP u f;rw[A,ar o];refine⟨_,_,rfl,λg=>(by simp at g),λ_=>⟨_,rfl,_,k.cell f rfl,_,k.cell f rfl,_,k.cell f rfl,_,k.cell f rfl,_,k.cell f rfl,_,k.cell f rfl,hB.fQ (by simp) λB p=>?_⟩⟩;have d:=p.aK;exact⟨_,d.cell rfl,_,d.cell rfl,_,d.cell rfl,_,d.cell rfl,_,d.cell rfl,_,d.cell rfl,⟨_,_,rfl⟩,q.trans p.U (λj r e=>absurd r (by omega))⟩
 ·refine⟨(wH t o).mono ?_⟩;rintro e z ⟨rfl,rfl⟩;have C:cm x c=FT:=by unfold cm;rw[af o]
  rw[C,af o];refine⟨_,_,rfl,λ_=>hB.fQ (by simp) λB p=>?_,λg=>(by simp at g)⟩;have d:=p.aK;exact⟨_,d.cell rfl,_,d.cell rfl,_,d.cell rfl,_,d.cell rfl,_,d.cell rfl,_,d.cell rfl,⟨0,0,rfl⟩,q.trans p.U (λj r e=>absurd r (by omega))⟩
end
def s6 (f:Fl):List (Bool×Int):=[(f.1,2),(f.2.2.1,3),(f.2.1||!f.2.2.2.1,0),(f.2.2.2.2.1,4),(f.2.2.2.2.2.1,5),(f.2.2.2.2.2.2.1,6),(f.2.2.2.2.2.2.2.1,7),(f.2.2.2.2.2.2.2.2,8)]
def DW (x:Bool×Int):List Value:=[.bool x.1,I x.2]
theorem aa2 (x:Bool×Int):(DW x).length=2:=rfl
def AP (f:Fl) (i:Nat):Int:=match((s6 f).drop i).find? (·.1)with|some x=>x.2|none=>9
theorem ajF (f:Fl):AP f 0=mR f:=by
 obtain⟨a,b,c,d,e,g,h,i,j⟩:=f;unfold AP mR s6;cases a<;>cases c<;>cases b<;>cases d<;>cases e<;>cases g<;>cases h<;>cases i<;>cases j<;>rfl
theorem MP (f:Fl) (W w:World) (a:au no W w):aP Tryz.prog rI BQ (M7 ((s6 f).flatMap DW) 0) w (C6 λe w'=>e=Z (I (mR f))/\au no W w'):=by
 refine aP.mk ?_;rw[acU];refine⟨bJ bA (M:=rI) (σ:=Nat) (λi=>Gp ((s6 f).flatMap DW) (i:Int)) (λi w'=>i<=8/\AP f i=mR f/\au no W w') (λi _=>8-i) 0 ⟨rfl,rfl,trivial⟩ ⟨by omega,ajF f,a⟩ ?_⟩;rintro i w1 ⟨p,d,a⟩;rw[acV];refine⟨λg=>?_,λg=>?_⟩
 ·have g:=aO g;have hi:i<(s6 f).length:=by simp only[s6,im,nm];omega
  have h:=NF aa2 (l:=s6 f) (k:=i) hi;refine⟨⟨by omega,by omega⟩,(s6 f)[i].1,(s6 f)[i].2,by simpa [DW]using h,⟨λq m=>m.aK.fQ (by simp) λr c=>⟨_,c.aK.cell rfl,λn=>⟨_,c.aK.cell rfl,?_,?_⟩,λn=>?_⟩⟩⟩
  ·congr 2;rw[<-d];unfold AP;rw[kI hi,List.find?_cons_of_pos n]
  ·exact(a.and (m.ak no)).trans c.U (λj o e=>absurd o (by have:=a.size;omega))
  ·refine⟨i+1,⟨rfl,by rw[aN (by omega)];rfl,trivial⟩,⟨by omega,?_,(a.and (m.ak no)).trans c.U (λj o e=>absurd o (by have:=a.size;omega))⟩,by omega⟩;rw[<-d];unfold AP;rw[kI hi,List.find?_cons_of_neg (by rw[n];decide)]
 ·have g:=aV g;have:i=8:=by omega
  subst this;refine⟨?_,a⟩;rw[<-d];rfl
theorem VG (f:Fl) (w:World):Cx 200 #[.agg #[.bool f.1,.bool f.2.1,.bool f.2.2.1,.bool f.2.2.2.1,.bool f.2.2.2.2.1,.bool f.2.2.2.2.2.1,.bool f.2.2.2.2.2.2.1,.bool f.2.2.2.2.2.2.2.1,.bool f.2.2.2.2.2.2.2.2]] w λe w'=>e=Z (I (mR f))/\au no w w':=by
 refine agc ?_;refine⟨λw1 m=>?_⟩;have hB:aL w1 w.heap.size _ _:=m.aK;obtain⟨a,b,c,d,e,g,h,i,j⟩:=f;refine⟨_,hB.cell rfl,_,hB.cell rfl,_,hB.cell rfl,λk=>?_,λk=>?_⟩
 ·have k:b=ae:=k;subst k;exact⟨_,hB.cell rfl,_,hB.cell rfl,_,hB.cell rfl,_,hB.cell rfl,_,hB.cell rfl,_,hB.cell rfl,MP (a,ae,c,d,e,g,h,i,j) w w1 (m.ak no)⟩
 ·have k:b=ah:=k;subst k;exact⟨_,hB.cell rfl,_,hB.cell rfl,_,hB.cell rfl,_,hB.cell rfl,_,hB.cell rfl,MP (a,ah,c,d,e,g,h,i,j) w w1 (m.ak no)⟩
theorem Vq (q:oW) (f:Fl) (w:World):Cx 114 #[.agg #[.bool q.1.pw,.bool q.1.idle,I q.1.cA,I q.1.since,I q.2.1,I q.2.2],.agg #[.bool f.1,.bool f.2.1,.bool f.2.2.1,.bool f.2.2.2.1,.bool f.2.2.2.2.1,.bool f.2.2.2.2.2.1,.bool f.2.2.2.2.2.2.1,.bool f.2.2.2.2.2.2.2.1,.bool f.2.2.2.2.2.2.2.2]] w
  λe w'=>e=Z (I (zj q.1.pw q.1.idle f))/\au no w w':=by
 refine aeW ?_;refine⟨λw1 j=>⟨λn d=>?_⟩⟩;have m:=d.keep j.aK;have a:aL n w1.heap.size _ _:=d.aK;refine⟨_,a.cell rfl,_,a.cell rfl,_,a.cell rfl,_,a.cell rfl,_,a.cell rfl,_,a.cell rfl,_,a.cell rfl,_,a.cell rfl,_,a.cell rfl,⟨(VG f n).mono ?_⟩⟩;rintro e p ⟨rfl,o⟩;have hB:=m.ak o id;have c:=((j.ak no).and (d.ak no)).and o;unfold zj;refine⟨_,rfl,_,hB.cell rfl,λg=>⟨?_,c⟩,λg=>⟨_,hB.cell rfl,λk=>⟨?_,c⟩,λk=>⟨λh=>⟨λi=>⟨?_,c⟩,λi=>⟨?_,c⟩⟩,λh=>⟨?_,c⟩⟩⟩⟩
 ·rw[ar g]
 ·rw[af (by rw[g];decide),ar k]
 ·have i:mR f=9:=by simpa using i
  rw[af (by rw[g];decide),af (by rw[k];decide),ar (.inr i)]
 ·have h:mR f≠0:=by simpa using h
  have i:mR f≠9:=by simpa using i
  rw[af (by rw[g];decide),af (by rw[k];decide),af (by simp[h,i])]
 ·have h:mR f=0:=by simpa using h
  rw[af (by rw[g];decide),af (by rw[k];decide),ar (.inl h)]
def pA:oW:=(⟨ae,ae,0,0⟩,0,0)
def tt:oW:=(⟨ah,ae,0,0⟩,0,0)
theorem Vp (n:Nat) (A:1<=n/\n<=64) (w:World):Cx 54 #[I (n:Int)] w λe w'=>∃b F,e=Z (.tuple #[pt b,I 0])/\fh b w' F (aD n ⟨ah,ae,0,0⟩)/\au no w w'/\∀i,F i->w.heap.size<=i:=by
 refine u54 ?_;refine⟨λ_=>⟨λg=>?_,λ_=>?_⟩,λg=>?_⟩
 ·have:=aO g;omega
 ·obtain⟨w1,B,d⟩:=run_mk VU w (n:=n) (by omega) (by omega) .i64 .i64 (f:=fD) (x0:=pA) Ca rfl;refine⟨_,_,_,w1,B,⟨λo k=>?_⟩⟩
  have u:rG w1.heap.size o (λi=>i=w1.heap.size∨bg (aa ⟨w.heap.size,0,ag⟩) i) (aD n pA,(aa ⟨w.heap.size,0,ag⟩,n)):=by
   refine⟨by simpa using k.aK,?_,?_,λi=>bB⟩
   ·have C:Sl w1 226 6 (aa ⟨w.heap.size,0,ag⟩) n n ((aD n pA).flatMap fD):=Sl.new d (by rw[ND Ca];simp) (by unfold maxLen;omega);have:=C.ak (k.ak no) (λ_ _ h=>h);simpa using this
   ·rintro⟨a,p,D⟩;cases p;have:=d.size;simp only at D;omega
  have z:au no w o:=(d.ak no).and (k.ak no);have s:=d.size;generalize w1.heap.size=b at u s;have m:jl b o o (λi=>i=b∨bg (aa ⟨w.heap.size,0,ag⟩) i) (aD n pA) ⟨w.heap.size,0,ag⟩ n:=ai.same u
  refine⟨_,rfl,_,_,_,m.ax.cell rfl,⟨bJ bA (M:=Br) (σ:=Nat) (λi=>GR (aa ⟨b,0,ag⟩) (n:Int) (i:Int))
   (λi w'=>i<=n/\jl b o w' (λi=>i=b∨bg (aa ⟨w.heap.size,0,ag⟩) i) (aD i tt++aD (n-i) pA) ⟨w.heap.size,0,ag⟩ n) (λi _=>n-i) 0 ⟨rfl,(by show aa (ay aY (((aD n pA).length:Nat):Int))=aa (ay aY (n:Int));rw[fC]),rfl,trivial⟩ ⟨by omega,by simpa using m⟩ ?_⟩⟩
  rintro i P ⟨hi,m⟩;rw[adF];refine⟨λg=>?_,λg=>?_⟩
  ·have g:=aO g;have c:(aD i tt++aD (n-i) pA).length=n:=by simp;omega
   have r:(aD i tt++aD (n-i) pA)[i]'(by rw[c];omega)=pA:=by
    rw[List.getElem_append_right (by simp)];simp
   refine⟨_,rfl,_,_,_,m.ax.cell rfl,⟨by omega,by rw[c];omega⟩,_,rfl,?_⟩;rw[bK];refine m.wr (i:=i) (by rw[c];omega) tt (by simp) (by rw[r];rfl) λQ E=>⟨i+1,⟨rfl,rfl,by rw[aN (by omega)];rfl,trivial⟩,⟨by omega,?_⟩,by omega⟩
   have G:(aD i tt++aD (n-i) pA).set i tt=aD (i+1) tt++aD (n-(i+1)) pA:=by
    rw[List.set_append_right _ _ (by simp),fC,Nat.sub_self,show n-i=(n-(i+1))+1 by omega,List.replicate_succ,rV,rX,iY];rfl
   rw[<-G];exact E
  ·have g:=aV g;have:i=n:=by omega
   subst this;obtain⟨H,J,K,L⟩:=m.out (x:=aD i ⟨ah,ae,0,0⟩) (by simp[tt]) ⟨λq N=>by rw[jX N];decide,by simpa using A⟩;refine⟨b,H,rfl,J,z.trans K (λj t O=>?_),λj t=>?_⟩
   ·rcases O with rfl|⟨a,p,rfl⟩
    ·omega
    ·cases p;simp only at t;omega
   ·rcases L j t with h|h
    ·rcases h with rfl|⟨a,p,rfl⟩
     ·omega
     ·cases p;exact b7 _
    ·exact aX z.size h
 ·have:=aO g;omega
structure KQ where
 th:Nat
 rq:Nat
 tm:Nat
 ir:Nat
 rt:Nat
 wk:Nat
 ca:Nat
 st:Nat
 sc:Nat
 ga:Nat
 so:Nat
 dk:Nat
 co:Nat
 me:Nat
 gp:Option Addr
 gc:Nat
 ow:Nat
def JD (T:TypeId) (p:Option Addr) (c:Nat):Ob (List (Nat×Unit)):=λw F a=>(∀i,F i↔bg p i)/\Sl w T 1 p a.length c (a.map gY)
instance Frame.lpo (T:TypeId) (p:Option Addr) (c:Nat):Frame (JD T p c) where
 ak:=λ⟨h1,a⟩ k d=>⟨h1,a.ak k (λi hi=>d i ((h1 i).2 hi))⟩
 lt:=λ⟨h1,a⟩ i hi=>a.lt i ((h1 i).1 hi)
def mU (p:Option Addr) (c:Nat):Ob Nat:=λw F n=>∃a:List (Nat×Unit),a.length=n/\aF (JD 137 p c) (Fam (At nS)) w F (a,a)
instance Frame.Hu (p:Option Addr) (c:Nat):Frame (mU p c) where
 ak:=λ⟨a,r,h⟩ k d=>⟨a,r,Frame.star.ak h k d⟩
 lt:=λ⟨_,_,h⟩=>Frame.star.lt h
abbrev KR:=Nat×BV×BV×Int×Int
def lN (q:KQ) (r:KR):List Value:=[pt q.th,pt q.rq,pt q.tm,pt q.ir,pt q.rt,pt q.wk,pt q.ca,pt q.st,pt q.sc,pt q.ga,pt q.so,pt q.dk,pt q.co,pt q.me,.slice q.gp r.1 q.gc,I (r.1:Int),.int .u64 (mi r.2.1),.int .u64 (mi r.2.2.1),I r.2.2.2.1,I r.2.2.2.2,.map (aa q.ow)]
inductive KP where
 | row (q:KQ) (r:KR)
 | th (b:Nat) (s:Int×TL)
 | rq (b:Nat) (s:RS)
 | tm (b:Nat) (s:cM)
 | ir (b:Nat) (s:cg)
 | rt (b:Nat) (s:cY)
 | wk (b:Nat) (s:QL)
 | ca (b:Nat) (s:CS)
 | st (b:Nat) (s:KS)
 | sc (b:Nat) (s:List Int)
 | ga (b:Nat) (s:ig)
 | so (b:Nat) (s:BV×BV)
 | dk (b:Nat) (s:bP)
 | co (b:Nat) (s:List eK)
 | me (b:Nat) (s:Nat)
 | gv (p:Option Addr) (c:Nat) (n:Nat)
 | ow (b:Nat) (m:lh)
def vA (b:Nat):Ob KP:=λw F x=>match x with
 | .row q r=>Rw b 94 (lN q) w F r
 | .th b s=>eL b w F s
 | .rq b s=>eU b w F s
 | .tm b s=>eV b w F s
 | .ir b s=>cR b w F s
 | .rt b s=>iD b w F s
 | .wk b s=>eW b w F s
 | .ca b s=>dY b w F s
 | .st b s=>dM b w F s
 | .sc b s=>gU b w F s
 | .ga b s=>fS b w F s
 | .so b s=>ky b w F s
 | .dk b s=>de b w F s
 | .co b s=>fh b w F s
 | .me b s=>kx b w F s
 | .gv p c n=>mU p c w F n
 | .ow b m=>bF b (ay .i64) w F m
instance Frame.kpo (b:Nat):Frame (vA b) where
 ak:=λ{w d F G s} h k a=>by
  cases s with
  | row q r=>exact(Frame.rw ..).ak (A:=Rw b 94 (lN q)) h k a
  | th b s=>exact Frame.ak (A:=eL b) h k a
  | rq b s=>exact Frame.ak (A:=eU b) h k a
  | tm b s=>exact Frame.ak (A:=eV b) h k a
  | ir b s=>exact Frame.ak (A:=cR b) h k a
  | rt b s=>exact Frame.ak (A:=iD b) h k a
  | wk b s=>exact Frame.ak (A:=eW b) h k a
  | ca b s=>exact Frame.ak (A:=dY b) h k a
  | st b s=>exact Frame.ak (A:=dM b) h k a
  | sc b s=>exact Frame.ak (A:=gU b) h k a
  | ga b s=>exact Frame.ak (A:=fS b) h k a
  | so b s=>exact Frame.ak (A:=ky b) h k a
  | dk b s=>exact Frame.ak (A:=de b) h k a
  | co b s=>exact Frame.ak (A:=fh b) h k a
  | me b s=>exact Frame.ak (A:=kx b) h k a
  | gv p c n=>exact Frame.ak (A:=mU p c) h k a
  | ow b m=>exact Frame.ak (A:=bF b (ay .i64)) h k a
 lt:=λ{w F s} h=>by
  cases s with
  | row q r=>exact(Frame.rw b 94 (lN q)).lt h
  | th b s=>exact Frame.lt (A:=eL b) h
  | rq b s=>exact Frame.lt (A:=eU b) h
  | tm b s=>exact Frame.lt (A:=eV b) h
  | ir b s=>exact Frame.lt (A:=cR b) h
  | rt b s=>exact Frame.lt (A:=iD b) h
  | wk b s=>exact Frame.lt (A:=eW b) h
  | ca b s=>exact Frame.lt (A:=dY b) h
  | st b s=>exact Frame.lt (A:=dM b) h
  | sc b s=>exact Frame.lt (A:=gU b) h
  | ga b s=>exact Frame.lt (A:=fS b) h
  | so b s=>exact Frame.lt (A:=ky b) h
  | dk b s=>exact Frame.lt (A:=de b) h
  | co b s=>exact Frame.lt (A:=fh b) h
  | me b s=>exact Frame.lt (A:=kx b) h
  | gv p c n=>exact Frame.lt (A:=mU p c) h
  | ow b m=>exact Frame.lt (A:=bF b (ay .i64)) h
def ja (q:KQ) (k:K) (cC:List Int) (m:lh):List KP:=[.row q (k.n,k.on,k.ac,k.now,k.lim),.th q.th (k.th),.rq q.rq (k.rq),.tm q.tm (k.tm),.ir q.ir (k.ir),.rt q.rt (k.rt),.wk q.wk (k.wk),.ca q.ca (k.ca),.st q.st (k.st),.sc q.sc (cC),.ga q.ga (k.ga),.so q.so (k.sp),.dk q.dk (k.dk),.co q.co (k.co),.me q.me (k.n),.gv q.gp q.gc k.n,.ow q.ow m]
def KF (b:Nat) (q:KQ):Ob K:=λw F k=>∃cC m,Fam (vA b) w F (ja q k cC m)/\m.1=k.own/\(1<=k.n/\k.n<=64)
def KO (b:Nat):Ob K:=λw F k=>∃q,KF b q w F k
instance Frame.kf (b:Nat) (q:KQ):Frame (KF b q) where
 ak:=λ⟨cC,m,h,r⟩ k a=>⟨cC,m,Frame.lJ.ak h k a,r⟩
 lt:=λ⟨_,_,h,_⟩=>Frame.lJ.lt h
instance Frame.ko (b:Nat):Frame (KO b) where
 ak:=λ⟨q,h⟩ k a=>⟨q,(Frame.kf b q).ak h k a⟩
 lt:=λ⟨q,h⟩=>(Frame.kf b q).lt h
theorem KO.fix {b:Nat} {W w:World} {F:Fp} {k:K} (h:ai (KO b) W w F k):∃q,ai (KF b q) W w F k:=by
 obtain⟨a,⟨q,c⟩,d⟩:=h;exact⟨q,a,c,d⟩
theorem KF.loose {b:Nat} {q:KQ} {W w:World} {F:Fp} {k:K} (h:ai (KF b q) W w F k):ai (KO b) W w F k:=by
 obtain⟨a,c,d⟩:=h;exact⟨a,⟨q,c⟩,d⟩
section
variable {b:Nat} {q:KQ} {W w:World} {F:Fp} {k:K}
theorem KF.num (h:ai (KF b q) W w F k):1<=k.n/\k.n<=64:=by
 obtain⟨c,⟨cC,m,_,a⟩,_⟩:=h;exact a.2
theorem KF.ax (h:ai (KF b q) W w F k):aL w b (lN q (k.n,k.on,k.ac,k.now,k.lim)) 94:=by
 obtain⟨d,⟨cC,m,a,_⟩,_⟩:=h;obtain⟨F1,c,_⟩:=Fam.at a (i:=0) (by simp[ja]);exact c.2
theorem KF.row (h:ai (KF b q) W w F k) (r:KR) (c:r.1=k.n) {w':World} (d:lq w w' b (lN q r) 94):ai (KF b q) W w' F {k with on:=r.2.1,ac:=r.2.2.1,now:=r.2.2.2.1,lim:=r.2.2.2.2}:=by
 obtain⟨F0,e,f⟩:=h.cP;obtain⟨cC,m,g,j⟩:=e;obtain⟨F1,l,_,o⟩:=Fam.at g (i:=0) (by simp[ja]);have a:Rw b 94 (lN q) w F1 (k.n,k.on,k.ac,k.now,k.lim):=l;obtain⟨F2,t1,t2⟩:=o w' (.row q r) (a.fN (s':=r) d.U d.aK);refine f _ _ ⟨F2,⟨cC,m,?_,j⟩,t2⟩;obtain⟨n,on,ac,now,lim⟩:=r;simp only at c;subst c;exact t1
theorem KF.th (h:ai (KF b q) W w F k):∃F1,eL q.th w F1 k.th/\∀w' a,ai (eL q.th) w w' F1 a->ai (KF b q) W w' F {k with th:=a}:=by
 obtain⟨F0,c,d⟩:=h.cP;obtain⟨cC,m,e,f⟩:=c;obtain⟨F1,g,_,j⟩:=Fam.at e (i:=1) (by simp[ja]);refine⟨F1,g,λw' a l=>d _ _ ?_⟩;obtain⟨F2,t1,t2⟩:=j w' (.th q.th a) l;exact⟨F2,⟨cC,m,t1,f⟩,t2⟩
theorem KF.rq (h:ai (KF b q) W w F k):∃F1,eU q.rq w F1 k.rq/\∀w' a,ai (eU q.rq) w w' F1 a->ai (KF b q) W w' F {k with rq:=a}:=by
 obtain⟨F0,c,d⟩:=h.cP;obtain⟨cC,m,e,f⟩:=c;obtain⟨F1,g,_,j⟩:=Fam.at e (i:=2) (by simp[ja]);refine⟨F1,g,λw' a l=>d _ _ ?_⟩;obtain⟨F2,t1,t2⟩:=j w' (.rq q.rq a) l;exact⟨F2,⟨cC,m,t1,f⟩,t2⟩
theorem KF.tm (h:ai (KF b q) W w F k):∃F1,eV q.tm w F1 k.tm/\∀w' a,ai (eV q.tm) w w' F1 a->ai (KF b q) W w' F {k with tm:=a}:=by
 obtain⟨F0,c,d⟩:=h.cP;obtain⟨cC,m,e,f⟩:=c;obtain⟨F1,g,_,j⟩:=Fam.at e (i:=3) (by simp[ja]);refine⟨F1,g,λw' a l=>d _ _ ?_⟩;obtain⟨F2,t1,t2⟩:=j w' (.tm q.tm a) l;exact⟨F2,⟨cC,m,t1,f⟩,t2⟩
theorem KF.ir (h:ai (KF b q) W w F k):∃F1,cR q.ir w F1 k.ir/\∀w' a,ai (cR q.ir) w w' F1 a->ai (KF b q) W w' F {k with ir:=a}:=by
 obtain⟨F0,c,d⟩:=h.cP;obtain⟨cC,m,e,f⟩:=c;obtain⟨F1,g,_,j⟩:=Fam.at e (i:=4) (by simp[ja]);refine⟨F1,g,λw' a l=>d _ _ ?_⟩;obtain⟨F2,t1,t2⟩:=j w' (.ir q.ir a) l;exact⟨F2,⟨cC,m,t1,f⟩,t2⟩
theorem KF.rt (h:ai (KF b q) W w F k):∃F1,iD q.rt w F1 k.rt/\∀w' a,ai (iD q.rt) w w' F1 a->ai (KF b q) W w' F {k with rt:=a}:=by
 obtain⟨F0,c,d⟩:=h.cP;obtain⟨cC,m,e,f⟩:=c;obtain⟨F1,g,_,j⟩:=Fam.at e (i:=5) (by simp[ja]);refine⟨F1,g,λw' a l=>d _ _ ?_⟩;obtain⟨F2,t1,t2⟩:=j w' (.rt q.rt a) l;exact⟨F2,⟨cC,m,t1,f⟩,t2⟩
theorem KF.wk (h:ai (KF b q) W w F k):∃F1,eW q.wk w F1 k.wk/\∀w' a,ai (eW q.wk) w w' F1 a->ai (KF b q) W w' F {k with wk:=a}:=by
 obtain⟨F0,c,d⟩:=h.cP;obtain⟨cC,m,e,f⟩:=c;obtain⟨F1,g,_,j⟩:=Fam.at e (i:=6) (by simp[ja]);refine⟨F1,g,λw' a l=>d _ _ ?_⟩;obtain⟨F2,t1,t2⟩:=j w' (.wk q.wk a) l;exact⟨F2,⟨cC,m,t1,f⟩,t2⟩
theorem KF.ca (h:ai (KF b q) W w F k):∃F1,dY q.ca w F1 k.ca/\∀w' a,ai (dY q.ca) w w' F1 a->ai (KF b q) W w' F {k with ca:=a}:=by
 obtain⟨F0,c,d⟩:=h.cP;obtain⟨cC,m,e,f⟩:=c;obtain⟨F1,g,_,j⟩:=Fam.at e (i:=7) (by simp[ja]);refine⟨F1,g,λw' a l=>d _ _ ?_⟩;obtain⟨F2,t1,t2⟩:=j w' (.ca q.ca a) l;exact⟨F2,⟨cC,m,t1,f⟩,t2⟩
theorem KF.st (h:ai (KF b q) W w F k):∃F1,dM q.st w F1 k.st/\∀w' a,ai (dM q.st) w w' F1 a->ai (KF b q) W w' F {k with st:=a}:=by
 obtain⟨F0,c,d⟩:=h.cP;obtain⟨cC,m,e,f⟩:=c;obtain⟨F1,g,_,j⟩:=Fam.at e (i:=8) (by simp[ja]);refine⟨F1,g,λw' a l=>d _ _ ?_⟩;obtain⟨F2,t1,t2⟩:=j w' (.st q.st a) l;exact⟨F2,⟨cC,m,t1,f⟩,t2⟩
theorem KF.sc (h:ai (KF b q) W w F k):∃F1 cC,gU q.sc w F1 cC/\∀w' a,ai (gU q.sc) w w' F1 a->ai (KF b q) W w' F k:=by
 obtain⟨F0,c,d⟩:=h.cP;obtain⟨cC,m,e,f⟩:=c;obtain⟨F1,g,_,j⟩:=Fam.at e (i:=9) (by simp[ja]);refine⟨F1,cC,g,λw' a l=>d _ _ ?_⟩;obtain⟨F2,t1,t2⟩:=j w' (.sc q.sc a) l;exact⟨F2,⟨a,m,t1,f⟩,t2⟩
theorem KF.ga (h:ai (KF b q) W w F k):∃F1,fS q.ga w F1 k.ga/\∀w' a,ai (fS q.ga) w w' F1 a->ai (KF b q) W w' F {k with ga:=a}:=by
 obtain⟨F0,c,d⟩:=h.cP;obtain⟨cC,m,e,f⟩:=c;obtain⟨F1,g,_,j⟩:=Fam.at e (i:=10) (by simp[ja]);refine⟨F1,g,λw' a l=>d _ _ ?_⟩;obtain⟨F2,t1,t2⟩:=j w' (.ga q.ga a) l;exact⟨F2,⟨cC,m,t1,f⟩,t2⟩
theorem KF.so (h:ai (KF b q) W w F k):∃F1,ky q.so w F1 k.sp/\∀w' a,ai (ky q.so) w w' F1 a->ai (KF b q) W w' F {k with sp:=a}:=by
 obtain⟨F0,c,d⟩:=h.cP;obtain⟨cC,m,e,f⟩:=c;obtain⟨F1,g,_,j⟩:=Fam.at e (i:=11) (by simp[ja]);refine⟨F1,g,λw' a l=>d _ _ ?_⟩;obtain⟨F2,t1,t2⟩:=j w' (.so q.so a) l;exact⟨F2,⟨cC,m,t1,f⟩,t2⟩
theorem KF.dk (h:ai (KF b q) W w F k):∃F1,de q.dk w F1 k.dk/\∀w' a,ai (de q.dk) w w' F1 a->ai (KF b q) W w' F {k with dk:=a}:=by
 obtain⟨F0,c,d⟩:=h.cP;obtain⟨cC,m,e,f⟩:=c;obtain⟨F1,g,_,j⟩:=Fam.at e (i:=12) (by simp[ja]);refine⟨F1,g,λw' a l=>d _ _ ?_⟩;obtain⟨F2,t1,t2⟩:=j w' (.dk q.dk a) l;exact⟨F2,⟨cC,m,t1,f⟩,t2⟩
theorem KF.co (h:ai (KF b q) W w F k):∃F1,fh q.co w F1 k.co/\∀w' a,ai (fh q.co) w w' F1 a->ai (KF b q) W w' F {k with co:=a}:=by
 obtain⟨F0,c,d⟩:=h.cP;obtain⟨cC,m,e,f⟩:=c;obtain⟨F1,g,_,j⟩:=Fam.at e (i:=13) (by simp[ja]);refine⟨F1,g,λw' a l=>d _ _ ?_⟩;obtain⟨F2,t1,t2⟩:=j w' (.co q.co a) l;exact⟨F2,⟨cC,m,t1,f⟩,t2⟩
theorem KF.me (h:ai (KF b q) W w F k):∃F1,kx q.me w F1 k.n/\∀w',ai (kx q.me) w w' F1 k.n->ai (KF b q) W w' F k:=by
 obtain⟨F0,a,c⟩:=h.cP;obtain⟨cC,m,d,e⟩:=a;obtain⟨F1,f,_,g⟩:=Fam.at d (i:=14) (by simp[ja]);refine⟨F1,f,λw' j=>c _ _ ?_⟩;obtain⟨F2,t1,t2⟩:=g w' (.me q.me k.n) j;exact⟨F2,⟨cC,m,t1,e⟩,t2⟩
theorem KF.Hu (h:ai (KF b q) W w F k):∃F1,mU q.gp q.gc w F1 k.n/\∀w',ai (mU q.gp q.gc) w w' F1 k.n->ai (KF b q) W w' F k:=by
 obtain⟨F0,a,c⟩:=h.cP;obtain⟨cC,m,d,e⟩:=a;obtain⟨F1,f,_,g⟩:=Fam.at d (i:=15) (by simp[ja]);refine⟨F1,f,λw' j=>c _ _ ?_⟩;obtain⟨F2,t1,t2⟩:=g w' (.gv q.gp q.gc k.n) j;exact⟨F2,⟨cC,m,t1,e⟩,t2⟩
theorem KF.own (h:ai (KF b q) W w F k):∃F1 n,bF q.ow (ay .i64) w F1 (k.own,n)/\∀w' (a:lh),ai (bF q.ow (ay .i64)) w w' F1 a->ai (KF b q) W w' F {k with own:=a.1}:=by
 obtain⟨F0,e,f⟩:=h.cP;obtain⟨cC,m,g,d⟩:=e;obtain⟨F1,j,_,l⟩:=Fam.at g (i:=16) (by simp[ja]);have c:bF q.ow (ay .i64) w F1 (k.own,m.2):=by rw[<-d.1];exact j
 refine⟨F1,m.2,c,λw' a o=>f _ _ ?_⟩;obtain⟨F2,t1,t2⟩:=l w' (.ow q.ow a) o;exact⟨F2,⟨cC,a,t1,rfl,d.2⟩,t2⟩
end
theorem ai.lY {σ:Type} {A:Ob σ} {W w:World} {F:Fp} {s:σ} (h:ai A W w F s) (d:Tab W) (e:¬F 0):Tab w:=by
 obtain⟨j,_,f,_⟩:=h;refine Cells.ak d λa g=>?_;cases g;obtain⟨l,c,i⟩:=d 0 _ (by rfl);cases c;have:=pz i;rw[ta]at this;exact f.ax _ this e
abbrev Lb (p:Nat) (T:TypeId):Ob (List Value):=Rw p T (λs=>s)
theorem cE {σ:Type} {A:Ob σ} [Frame A] {p:Nat} {T:TypeId} {W w:World} {F:Fp} {s:σ} {l:List Value} (h:ai (aF A (Lb p T)) W w F (s,l)):aL w p l T:=by
 obtain⟨F2,a,_⟩:=h.right;exact a.ax
theorem lP {σ:Type} {A:Ob σ} [Frame A] {p:Nat} {T:TypeId} {W w:World} {F:Fp} {s:σ} {l vs:List Value} (h:ai (aF A (Lb p T)) W w F (s,l)) (d:vs.length=l.length) {K:World->Prop} (f:∀w',ai (aF A (Lb p T)) W w' F (s,vs)->K w'):Wr w ⟨p,0,ag⟩ vs K:=by
 obtain⟨F2,a,g⟩:=h.right;refine a.ax.fQ (by simp only;omega) λw' c=>f w' (g w' vs (a.fN c.U ?_));have e:ba l 0 vs=vs:=by simp[ba,d]
 have:=c.aK;simp only at this
 rwa [e]at this
section
variable {b:Nat} {W w:World} {F:Fp} {k:K}
theorem KS.fix {p:Nat} {T:TypeId} {l:List Value} (h:ai (aF (KO b) (Lb p T)) W w F (k,l)):∃q F1,KF b q w F1 k/\ai (KF b q) w w F1 k/\∀w' a,ai (KF b q) w w' F1 a->ai (aF (KO b) (Lb p T)) W w' F (a,l):=by
 obtain⟨F1,⟨q,c⟩,d⟩:=h.left;exact⟨q,F1,c,ai.same c,λw' a e=>d _ _ (KF.loose e)⟩
theorem Yd (h:ai (KO b) W w F k) (c:Int):Cx 152 #[pt b,I c] w λe w'=>e=Z (I (ri k c))/\w'=w:=by
 obtain⟨q,d⟩:=KO.fix h;have hB:=KF.ax d;refine afy ?_;unfold ri;refine⟨λg1=>⟨_,rfl,_,hB.cell rfl,λa=>?_,λa=>⟨_,rfl,_,hB.cell rfl,⟨(iN k.ac c w).mono ?_⟩⟩⟩,λg1=>?_⟩
 ·have a:=aO a;rw[af (by simp only at a;omega)];exact⟨rfl,rfl⟩
 ·have g1:=aV g1;have a:=aV a;rintro e w1 ⟨rfl,rfl⟩;rw[ar ⟨by omega,by simp only at a;omega⟩];refine⟨_,rfl,λg=>?_,λg=>?_⟩
  ·have g:hs k.ac c=ae:=by simpa using g
   rw[g];exact⟨rfl,rfl⟩
  ·have g:hs k.ac c=ah:=by simpa using g
   rw[g];exact⟨rfl,rfl⟩
 ·have g1:=aO g1;rw[af (by omega)];exact⟨rfl,rfl⟩
theorem XP (a:Tab W) (f:¬F 0) (h:ai (KO b) W w F k) (c n:Int):Cx 153 #[pt b,I c,I n] w λe w'=>e=Z (.tuple #[I (yP k c n).1,I (yP k c n).2])/\ai (KO b) W w' F (tl k c n):=by
 obtain⟨q,d⟩:=KO.fix h;have hB:=KF.ax d;refine afz ?_;refine⟨_,rfl,_,hB.cell rfl,⟨(HL k.now n w).mono ?_⟩⟩;rintro e w1 ⟨rfl,rfl⟩;unfold yP tl;refine⟨_,_,rfl,λg=>?_,λg=>?_⟩
 ·have g:(bC k.now n).2≠0:=by simpa using g
  rw[af g,af g];exact⟨rfl,h⟩
 ·have g:(bC k.now n).2=0:=by simpa using g
  rw[ar g,ar g];obtain⟨F1,hA,i⟩:=KF.tm d;refine⟨_,rfl,_,hB.aE rfl,⟨(RZ (h.lY a f) hA c _).mono ?_⟩⟩;rintro e l ⟨rfl,j⟩;exact⟨_,_,rfl,rfl,KF.loose (i _ _ j)⟩
theorem Dg (c:Tab W) (B:¬F 0) (h:ai (KO b) W w F k) (id near:Int):Cx 126 #[pt b,I id,I near] w λe w'=>e=Z (.tuple #[])/\ai (KO b) W w' F (jd k id near):=by
 obtain⟨q,y⟩:=KO.fix h;have hB:=KF.ax y;obtain⟨F1,hA,_⟩:=KF.th y;refine ae8 ?_;refine⟨_,rfl,_,hB.aE rfl,⟨(uW hA id).mono ?_⟩⟩;rintro e w1 ⟨rfl,j⟩;refine⟨_,_,_,_,_,_,_,rfl,⟨λC z=>?_⟩⟩;have a:ai (aF (KO b) (Lb w1.heap.size 250)) W C F (k,[I 0,.int .u64 0,I 0,.bool ae,.bool ae,I 0]):=(h.ak j).add (z.ak no) (Rw.new z rfl) (λi hi=>bG hi.symm);generalize w1.heap.size=p at a⊢;refine lP a (by rfl) λN a=>?_;intro O D E G A;replace a:=a.ak (au.same no D E G A);obtain⟨A,F4,_,d,l⟩:=KS.fix a;have f:=KF.ax d;obtain⟨F5,m,n⟩:=KF.th d;refine⟨_,(cE a).cell rfl,_,rfl,_,f.cell rfl,⟨(MC (a.lY c B) _ _ near).mono ?_⟩⟩;rintro e P ⟨rfl,rfl⟩;refine⟨_,_,_,rfl,_,rfl,_,f.aE rfl,⟨(QX m id _ _).mono ?_⟩⟩;rintro e Q ⟨rfl,o⟩;replace a:=l _ _ (n _ _ o);refine⟨_,rfl,λR H J L M=>?_⟩;replace a:=a.ak (au.same no H J L M);obtain⟨S,F7,_,g,r⟩:=KS.fix a;have s:=KF.ax g;obtain⟨F8,t,u⟩:=KF.rq g;refine⟨_,rfl,_,s.aE rfl,_,(cE a).cell rfl,⟨(Ro t _ _ id).mono ?_⟩⟩;rintro e T ⟨rfl,x⟩;exact⟨_,rfl,rfl,(r _ _ (u _ _ x)).drop⟩
theorem Py (d:Tab W) (C:¬F 0) (h:ai (KO b) W w F k) (id:Int):Cx 130 #[pt b,I id] w λe w'=>e=Z (.tuple #[])/\ai (KO b) W w' F (iO k id):=by
 obtain⟨q,z⟩:=KO.fix h;have hB:=KF.ax z;obtain⟨F1,hA,_⟩:=KF.th z;refine afc ?_;refine⟨_,rfl,_,hB.aE rfl,⟨(uW hA id).mono ?_⟩⟩;rintro e w1 ⟨rfl,l⟩;refine⟨_,_,_,_,_,_,_,rfl,⟨λD A=>?_⟩⟩;have a:ai (aF (KO b) (Lb w1.heap.size 250)) W D F (k,[I 0,.int .u64 0,I 0,.bool ae,.bool ae,I 0]):=(h.ak l).add (A.ak no) (Rw.new A rfl) (λi hi=>bG hi.symm);generalize w1.heap.size=p at a⊢;refine lP a (by rfl) λM a=>?_;intro E G H J B;replace a:=a.ak (au.same no G H J B);obtain⟨B,F4,_,m,L⟩:=KS.fix a;have n:=KF.ax m;have j:=cE a;unfold iO;refine⟨_,j.cell rfl,λg=>⟨_,rfl,_,n.cell rfl,_,j.cell rfl,_,j.cell rfl,_,j.cell rfl,⟨(SJ k.ac (0,(dp k id).2.1,(dp k id).2.2.1,(dp k id).2.2.2.1) E).mono ?_⟩⟩,λg=>?_⟩
 ·have g:(dp k id).2.2.2.2.1=ae:=g;rintro e N ⟨rfl,o⟩;replace a:=a.ak o;refine⟨_,rfl,λc=>?_,λc=>?_⟩
  ·have c:AO k (dp k id)=ae:=by unfold AO;simpa using c
   rw[g,c];exact⟨rfl,a.drop⟩
  ·have c:AO k (dp k id)=ah:=by unfold AO;simpa using c
   rw[g,c];obtain⟨O,F5,_,f,r⟩:=KS.fix a;have s:=KF.ax f;obtain⟨F6,t,u⟩:=KF.rq f;refine⟨_,rfl,_,s.aE rfl,⟨(Al t id).mono ?_⟩⟩;rintro e P ⟨rfl,x⟩;replace a:=r _ _ (u _ _ x);refine⟨_,rfl,_,(cE a).cell rfl,⟨(Dg d C a.drop id _).mono ?_⟩⟩;rintro e Q ⟨rfl,y⟩;exact⟨rfl,rfl,y⟩
 ·have g:(dp k id).2.2.2.2.1=ah:=g;rw[g];exact⟨rfl,a.drop⟩
theorem PD (h:ai (KO b) W w F k) (t:Int):Cx 133 #[pt b,I t] w λe w'=>e=Z (.tuple #[])/\ai (KO b) W w' F (xH k t):=by
 obtain⟨q,d⟩:=KO.fix h;have hB:=KF.ax d;obtain⟨F1,hA,g⟩:=KF.tm d;refine aff ?_;refine⟨_,rfl,_,hB.aE rfl,⟨(I6 hA t).mono ?_⟩⟩;rintro e w1 ⟨rfl,i⟩;have f:=g _ _ i;obtain⟨F2,n,j,l⟩:=KF.own f;obtain⟨m,a,c⟩:=sL rB j t 3 (0:TypeId);exact⟨_,rfl,_,rfl,_,(KF.ax f).cell rfl,m,a,rfl,KF.loose (l _ _ c)⟩
theorem PH (a:Tab W) (o:¬F 0) (h:ai (KO b) W w F k) (id:Int):Cx 134 #[pt b,I id] w λe w'=>e=Z (.tuple #[])/\ai (KO b) W w' F (vx k id):=by
 obtain⟨q,l⟩:=KO.fix h;have hB:=KF.ax l;obtain⟨F1,hA,r⟩:=KF.th l;refine afg ?_;refine⟨_,rfl,_,hB.aE rfl,⟨(aji hA id).mono ?_⟩⟩;rintro e w1 ⟨rfl,s⟩;have d:=r _ _ s;obtain⟨F2,f,_⟩:=KF.th d;refine⟨_,_,rfl,_,rfl,_,(KF.ax d).aE rfl,⟨(uW f id).mono ?_⟩⟩;rintro e m ⟨rfl,g⟩;refine⟨_,_,_,_,_,_,_,rfl,⟨λt n=>?_⟩⟩;have c:ai (aF (KO b) (Lb m.heap.size 250)) W t F (_,[I 0,.int .u64 0,I 0,.bool ae,.bool ae,I 0]):=((KF.loose d).ak g).add (n.ak no) (Rw.new n rfl) (λi hi=>bG hi.symm);generalize m.heap.size=p at c⊢;refine lP c (by rfl) λu c=>?_;refine⟨_,(cE c).cell rfl,⟨(Dg a o c.drop id _).mono ?_⟩⟩;rintro e x ⟨rfl,j⟩;exact⟨rfl,rfl,j⟩
theorem acj (x:TX) (p:Int) (m:BV):0<=(dW x p m).1:=by
 unfold dW;split
 ·unfold dX;split
  ·simp only;omega
  ·exact fW _
 ·exact fW _
theorem Ym (a:Tab W) (f:¬F 0) (s:1<=k.n) (h:ai (KO b) W w F k) (p:Int) (m:BV):Cx 65 #[pt b,I p,.int .u64 (mi m)] w λe w'=>e=Z (.tuple #[I (AE k p m).1,I (AE k p m).2])/\ai (KO b) W w' F (sQ k p m):=by
 obtain⟨q,i⟩:=KO.fix h;have hB:=KF.ax i;obtain⟨F1,hA,j⟩:=KF.th i;refine u65 ?_;refine⟨_,rfl,_,hB.aE rfl,⟨(acp hA (h.lY a f) p m).mono ?_⟩⟩;rintro e w1 ⟨rfl,l⟩;have d:=j _ _ l;unfold AE sQ;refine⟨_,_,rfl,λg=>?_,λg=>?_⟩
 ·have g:(dW k.th p m).2=0:=by simpa using g
  rw[ar g];have o:=acj k.th p m;have r:eO (dW k.th p m).1 ((k.n:Nat):Int)=(dW k.th p m).1%(k.n:Int):=px o;refine⟨_,rfl,_,(KF.ax d).cell rfl,(show((k.n:Nat):Int)≠0 by omega),⟨?_⟩⟩;refine Calls.mono (show Cx 126 #[pt b,I (dW k.th p m).1,I (eO (dW k.th p m).1 ((k.n:Nat):Int))] w1 _ from Dg a f (KF.loose d) (dW k.th p m).1 _) ?_;rintro e t ⟨rfl,c⟩;rw[r]at c;exact⟨rfl,rfl,c⟩
 ·have g:¬(dW k.th p m).2=0:=by simpa using g
  rw[af g];exact⟨rfl,KF.loose d⟩
theorem XV (h:ai (KO b) W w F k) (id:Int):Cx 162 #[pt b,I id] w λe w'=>e=Z (I (B7 k id))/\ai (KO b) W w' F (tr k id):=by
 obtain⟨q,d⟩:=KO.fix h;have hB:=KF.ax d;obtain⟨F1,hA,f⟩:=KF.tm d;obtain⟨F2,n,i,_⟩:=KF.own d;refine afI ?_;refine⟨_,rfl,_,hB.aE rfl,⟨(Jh hA id).mono ?_⟩⟩;rintro e w1 ⟨rfl,rfl⟩;unfold B7 tr;refine⟨_,_,rfl,λg=>?_,λg=>?_⟩
 ·have g:(kr k.tm id).2=ae:=by simpa using g
  rw[g];exact⟨rfl,h⟩
 ·have g:(kr k.tm id).2=ah:=by simpa using g
  rw[ar g,ar g];have c:=jL rB i id ae;have j:((k.own id).map (ay .i64)).getD (I 0)=I ((k.own id).getD 0):=by cases k.own id<;>rfl
  simp only[j]at c;refine⟨_,rfl,_,hB.cell rfl,_,c,λa=>?_,λa=>⟨_,rfl,_,hB.aE rfl,⟨(I6 hA id).mono ?_⟩⟩⟩
  ·have a:0<(k.own id).getD 0:=aO a;rw[ar a,ar a];exact⟨rfl,h⟩
  ·have a:¬0<(k.own id).getD 0:=aV a;rw[af a,af a];rintro e m ⟨rfl,l⟩;exact⟨_,rfl,rfl,KF.loose (f _ _ l)⟩
theorem X4 (h:ai (KO b) W w F k) (id:Int):Cx 163 #[pt b,I id] w λe w'=>e=Z (.tuple #[I (zA k id).1,I (zA k id).2])/\w'=w:=by
 obtain⟨q,c⟩:=KO.fix h;have hB:=KF.ax c;obtain⟨F1,hA,d⟩:=KF.wk c;refine afJ ?_;unfold zA;refine⟨λg1=>⟨λa=>?_,λa=>⟨_,rfl,_,hB.aE rfl,⟨(ajr hA id).mono ?_⟩⟩⟩,λg1=>?_⟩
 ·rw[ar (.inr (aO a))];exact⟨rfl,rfl⟩
 ·have g1:=aV g1;have a:=aV a;rw[af (by omega)];rintro e w1 ⟨rfl,rfl⟩;refine⟨_,rfl,λg=>?_,λg=>?_⟩
  ·rw[ar g];exact⟨rfl,rfl⟩
  ·rw[af (by rw[g];decide)];exact⟨rfl,rfl⟩
 ·rw[ar (.inl (aO g1))];exact⟨rfl,rfl⟩
theorem Yh (h:ai (KO b) W w F k) (n:Int):Cx 164 #[pt b,I n] w λe w'=>e=Z (I (mJ n))/\ai (KO b) W w' F {k with dk:=nK k.dk n}:=by
 obtain⟨q,f⟩:=KO.fix h;have hB:=KF.ax f;obtain⟨F1,hA,g⟩:=KF.dk f;refine afK ?_;refine⟨λg1=>⟨λa=>?_,λa=>⟨_,rfl,_,hB.aE rfl,⟨(Xi hA n).mono ?_⟩⟩⟩,λg1=>?_⟩
 ·have a:=aO a;have c:mJ n=3:=by unfold mJ;rw[af (by omega)]
  have d:nK k.dk n=k.dk:=by unfold nK;rw[af (by omega)]
  rw[c,d];exact⟨rfl,h⟩
 ·rintro e w1 ⟨rfl,i⟩;exact⟨_,rfl,rfl,KF.loose (g _ _ i)⟩
 ·have g1:=aO g1;have c:mJ n=3:=by unfold mJ;rw[af (by omega)]
  have d:nK k.dk n=k.dk:=by unfold nK;rw[af (by omega)]
  rw[c,d];exact⟨rfl,h⟩
theorem X9 (h:ai (KO b) W w F k) (n:Int):Cx 166 #[pt b,I n] w λe w'=>e=Z (I (zO n))/\ai (KO b) W w' F (xr k n):=by
 obtain⟨q,c⟩:=KO.fix h;have hB:=KF.ax c;refine afM ?_;unfold xr zO;refine⟨λg1=>⟨λa=>?_,λa=>⟨_,rfl,hB.wr (k:=19) (by simp[lN]) λw1 d=>?_⟩⟩,λg1=>?_⟩
 ·rw[ar (.inr (aO a)),af (by decide)];exact⟨rfl,h⟩
 ·have g1:=aV g1;have a:=aV a;rw[af (show ¬(n<0∨1073741824<n) by omega),ar rfl];exact⟨rfl,KF.loose (KF.row c (k.n,k.on,k.ac,k.now,n) rfl d)⟩
 ·rw[ar (.inl (aO g1)),af (by decide)];exact⟨rfl,h⟩
def nG (s:cg) (n:Int):Iq:=if jF n then i0 else gq s n
theorem N7 (k:K) (n:Int):(nG k.ir n).2.2.2=pU k n:=by
 unfold nG pU;split<;>rfl
theorem N8 {b:Nat} {w:World} {F:Fp} {s:cg} (h:cR b w F s) (n:Int):Cx 248 #[pt b,I n] w λe w'=>(∃r:Int,e=Z (.tuple #[.agg #[.bool (nG s n).1,.bool (nG s n).2.1,.bool (nG s n).2.2.1,.int .u64 (mi (nG s n).2.2.2)],I r]))/\au no w w':=by
 refine agZ ?_;refine⟨λw1 i=>?_⟩;have l:=i.ak no;have d:=(inferInstance:Frame (cR b)).ak h l (λ_ _ h=>h);refine⟨(He b n w1).mono ?_⟩;rintro e t ⟨⟨m,rfl⟩|⟨m,k,rfl,f,rfl⟩,rfl⟩
 ·have o:nG s n=i0:=by unfold nG;rw[ar m]
  rw[o];refine⟨_,_,rfl,λ_=>i.aK.fQ (by simp) λq c=>?_,λg=>(by simp at g)⟩;have a:=c.aK;exact⟨_,a.cell rfl,_,a.cell rfl,_,a.cell rfl,_,a.cell rfl,⟨_,rfl⟩,l.trans c.U (λj p e=>absurd p (by omega))⟩
 ·have o:nG s (k:Int)=gq s (k:Int):=by unfold nG;rw[af m]
  rw[o];refine⟨_,_,rfl,λg=>(by simp at g),λ_=>⟨_,rfl,_,d.cell f rfl,_,d.cell f rfl,_,d.cell f rfl,_,d.cell f rfl,i.aK.fQ (by simp) λq c=>?_⟩⟩;have a:=c.aK;exact⟨_,a.cell rfl,_,a.cell rfl,_,a.cell rfl,_,a.cell rfl,⟨_,rfl⟩,l.trans c.U (λj p e=>absurd p (by omega))⟩
theorem HK (c:Tab W) (y:¬F 0) (h:ai (KO b) W w F k) (n near:Int):Cx 138 #[pt b,I n,I near] w λe w'=>e=Z (.tuple #[])/\ai (KO b) W w' F (iy k n near):=by
 obtain⟨q,t⟩:=KO.fix h;have hB:=KF.ax t;obtain⟨F1,hA,_⟩:=KF.ir t;refine afk ?_;refine⟨_,rfl,_,hB.aE rfl,⟨(N8 hA n).mono ?_⟩⟩;rintro e w1 ⟨⟨r,rfl⟩,j⟩;refine⟨_,_,_,_,_,rfl,⟨λz u=>?_⟩⟩;have a:ai (aF (KO b) (Lb w1.heap.size 198)) W z F (k,[.bool ae,.bool ae,.bool ae,.int .u64 0]):=(h.ak j).add (u.ak no) (Rw.new u rfl) (λi hi=>bG hi.symm);generalize w1.heap.size=p at a⊢;refine lP a (by rfl) λD a=>?_;intro E A B C x;replace a:=a.ak (au.same no A B C x);obtain⟨x,F4,_,d,l⟩:=KS.fix a;have f:=KF.ax d;obtain⟨F5,m,o⟩:=KF.rt d;refine⟨_,(cE a).cell rfl,_,rfl,_,f.cell rfl,⟨(MC (a.lY c y) _ _ near).mono ?_⟩⟩;rintro e G ⟨rfl,rfl⟩;refine⟨_,_,_,rfl,_,rfl,_,f.aE rfl,⟨(abV m n _).mono ?_⟩⟩;rintro e H ⟨rfl,s⟩;have g:=(l _ _ (o _ _ s)).drop;refine⟨_,rfl,rfl,?_⟩;unfold iy;rw[<-N7];exact g
theorem Pu (c:Tab W) (A:¬F 0) (h:ai (KO b) W w F k) (n:Int):Cx 144 #[pt b,I n] w λe w'=>e=Z (.tuple #[])/\ai (KO b) W w' F (iF k n):=by
 obtain⟨q,y⟩:=KO.fix h;have hB:=KF.ax y;obtain⟨F1,hA,_⟩:=KF.ir y;refine afq ?_;refine⟨_,rfl,_,hB.aE rfl,⟨(N8 hA n).mono ?_⟩⟩;rintro e w1 ⟨⟨r,rfl⟩,j⟩;refine⟨_,_,_,_,_,rfl,⟨λB z=>?_⟩⟩;have a:ai (aF (KO b) (Lb w1.heap.size 198)) W B F (k,[.bool ae,.bool ae,.bool ae,.int .u64 0]):=(h.ak j).add (z.ak no) (Rw.new z rfl) (λi hi=>bG hi.symm);generalize w1.heap.size=p at a⊢;refine lP a (by rfl) λN a=>?_;obtain⟨O,F3,_,d,C⟩:=KS.fix a;have l:=KF.ax d;obtain⟨F5,m,D⟩:=KF.rt d;refine⟨_,rfl,_,l.aE rfl,⟨(H7 m n).mono ?_⟩⟩;rintro e P ⟨rfl,rfl⟩;refine⟨_,_,rfl,?_⟩;intro E G H o J;replace a:=a.ak (au.same no G H o J);obtain⟨Q,F6,_,s,L⟩:=KS.fix a;have f:=KF.ax s;have t:=cE a;refine⟨_,rfl,_,f.cell rfl,_,t.cell rfl,_,t.cell rfl,⟨(iN (nG k.ir n).2.2.2 (cy k.rt n).1 E).mono ?_⟩⟩;rintro e M ⟨rfl,rfl⟩;refine⟨_,rfl,t.cell rfl,f.cell rfl,⟨(SJ k.ac (0,(nG k.ir n).2.2.2,(cy k.rt n).1,!hs (nG k.ir n).2.2.2 (cy k.rt n).1) M).mono ?_⟩⟩;rintro e R ⟨rfl,u⟩;replace a:=a.ak u;rw[N7];unfold iF;refine⟨_,rfl,λg=>⟨(HK c A a.drop n _).mono ?_⟩,λg=>?_⟩
 ·rintro e S ⟨rfl,x⟩;rw[ar g];exact⟨rfl,rfl,x⟩
 ·rw[af (by rw[g];decide)];exact⟨rfl,a.drop⟩
theorem X1 (h:ai (KO b) W w F k) (id:Int) (x:Th):Cx 128 #[pt b,I id,.agg #[I x.1,.int .u64 (mi x.2.1),I x.2.2.1,.bool x.2.2.2.1,.bool x.2.2.2.2.1,I x.2.2.2.2.2]] w λe w'=>e=Z (I (wX k.th id))/\ai (KO b) W w' F (sg k id x):=by
 refine afa ?_;refine⟨λw1 j=>?_⟩;have l:=h.ak (j.ak no);have m:=j.aK
 have last:∀(k2:K) (a:World),ai (KO b) W a F k2->aP Tryz.prog yz BM (Cm (aa ⟨b,0,ag⟩) id) a (C2 λe w'=>e=Z (I (wX k2.th id))/\ai (KO b) W w' F {k2 with th:=kP k2.th id}):=by
  intro k2 a d;refine aP.mk ?_;rw[acG];obtain⟨q,c⟩:=KO.fix d;have hB:=KF.ax c;obtain⟨F1,hA,f⟩:=KF.th c;refine⟨_,rfl,_,hB.aE rfl,⟨(Wd hA id).mono ?_⟩⟩;rintro e n ⟨rfl,i⟩;exact⟨_,rfl,rfl,KF.loose (f _ _ i)⟩
 unfold sg;refine⟨_,m.cell rfl,λg=>⟨_,m.cell rfl,⟨(PD l x.2.2.2.2.2).mono ?_⟩⟩,λg=>?_⟩
 ·rintro e a ⟨rfl,d⟩;rw[ar g];exact⟨rfl,last _ _ d⟩
 ·rw[af (by rw[g];decide)];obtain⟨q,c⟩:=KO.fix l;have hB:=KF.ax c;obtain⟨F1,hA,f⟩:=KF.rq c;refine⟨_,rfl,_,hB.aE rfl,⟨(Al hA id).mono ?_⟩⟩;rintro e a ⟨rfl,i⟩;exact⟨_,rfl,last _ _ (KF.loose (f _ _ i))⟩
theorem Yl (d:Tab W) (A:¬F 0) (h:ai (KO b) W w F k) (id:Int) (x:Th) (n:Int):Cx 131 #[pt b,I id,.agg #[I x.1,.int .u64 (mi x.2.1),I x.2.2.1,.bool x.2.2.2.1,.bool x.2.2.2.2.1,I x.2.2.2.2.2],I n] w λe w'=>e=Z (.tuple #[I (AB k id x n).1,I (AB k id x n).2])/\ai (KO b) W w' F (sO k id x n):=by
 refine afd ?_;refine⟨λw1 B=>?_⟩;have i:=h.ak (B.ak no);have J:=B.aK;obtain⟨q,C⟩:=KO.fix i;have hB:=KF.ax C;unfold AB sO;refine⟨_,rfl,_,hB.cell rfl,⟨(HL k.now n w1).mono ?_⟩⟩;rintro e D ⟨rfl,rfl⟩;refine⟨_,_,rfl,λg=>?_,λg=>?_⟩
 ·have g:(bC k.now n).2≠0:=by simpa using g
  rw[af g,af g];exact⟨rfl,i⟩
 ·have g:(bC k.now n).2=0:=by simpa using g
  rw[ar g,ar g]
  have last:∀a:Int,aP Tryz.prog yA BN (Co (aa ⟨b,0,ag⟩) id (bC k.now n).1 a) D (C3 λe w'=>e=Z (.tuple #[I (if(dC k.tm a (bC k.now n).1).2=0 then((dC k.tm a (bC k.now n).1).1,ya k.th id)else(0,(dC k.tm a (bC k.now n).1).2)).1,I (if(dC k.tm a (bC k.now n).1).2=0 then((dC k.tm a (bC k.now n).1).1,ya k.th id)else(0,(dC k.tm a (bC k.now n).1).2)).2])/\ai (KO b) W w' F (if(dC k.tm a (bC k.now n).1).2=0 then{k with tm:=gE k.tm a (bC k.now n).1,own:=λj=>if j=(dC k.tm a (bC k.now n).1).1 then aa id else k.own j,rq:=gN k.rq id,th:=nO k.th id (dC k.tm a (bC k.now n).1).1}else{k with tm:=gE k.tm a (bC k.now n).1})):=by
   intro a;refine aP.mk ?_;rw[acI];obtain⟨F1,hA,L⟩:=KF.tm C;refine⟨_,rfl,_,hB.aE rfl,⟨(RZ (i.lY d A) hA a _).mono ?_⟩⟩;rintro e M ⟨rfl,l⟩;have m:=L _ _ l;refine⟨_,_,rfl,λc=>?_,λc=>?_⟩
   ·have c:(dC k.tm a (bC k.now n).1).2≠0:=by simpa using c
    rw[af c,af c];exact⟨rfl,KF.loose m⟩
   ·have c:(dC k.tm a (bC k.now n).1).2=0:=by simpa using c
    rw[ar c,ar c];obtain⟨F2,nn,N,O⟩:=KF.own m;obtain⟨E,f,o⟩:=qk rB N (dC k.tm a (bC k.now n).1).1 id;have G:=O _ _ o;obtain⟨F3,p,r⟩:=KF.rq G;refine⟨_,rfl,_,(KF.ax m).cell rfl,E,f,_,rfl,_,(KF.ax G).aE rfl,⟨(Al p id).mono ?_⟩⟩;rintro e P ⟨rfl,s⟩;have H:=r _ _ s;obtain⟨F4,t,u⟩:=KF.th H;refine⟨_,rfl,_,rfl,_,(KF.ax H).aE rfl,⟨(aca t id _).mono ?_⟩⟩;rintro e Q ⟨rfl,y⟩;exact⟨_,rfl,rfl,KF.loose (u _ _ y)⟩
  refine⟨_,J.cell rfl,_,rfl,_,hB.cell rfl,⟨(iN k.ac x.2.2.1 D).mono ?_⟩⟩;rintro e M ⟨rfl,rfl⟩;refine⟨_,rfl,λc=>⟨_,rfl,_,hB.cell rfl,?_⟩,λc=>?_⟩
  ·have c:hs k.ac x.2.2.1=ae:=by simpa using c
   have z:iB k x=(gd k.ac).1:=by unfold iB;rw[af (by rw[c];decide)]
   refine⟨(xw k.ac (i.lY d A)).mono ?_⟩;rintro e E ⟨rfl,rfl⟩;rw[z];exact⟨_,_,rfl,last _⟩
  ·have c:hs k.ac x.2.2.1=ah:=by simpa using c
   have z:iB k x=x.2.2.1:=by unfold iB;rw[ar c]
   rw[z];exact last _
end
def kc (r:Rc):List Value:=[I r.1,I r.2.1,I r.2.2.1,I r.2.2.2.1,I r.2.2.2.2]
def uq (p:Option Addr) (c:Nat):Ob (List Rc):=λw F rs=>(∀i,F i↔bg p i)/\Sl w 43 5 p rs.length c (rs.flatMap kc)
instance Frame.rcl (p:Option Addr) (c:Nat):Frame (uq p c) where
 ak:=λ⟨h1,a⟩ k d=>⟨h1,a.ak k (λi hi=>d i ((h1 i).2 hi))⟩
 lt:=λ⟨h1,a⟩ i hi=>a.lt i ((h1 i).1 hi)
def eM {σ:Type} (A:Ob σ) (W:World) (F:Fp) (s:σ) (rs:List Rc) (e:Ending) (w':World):Prop:=∃p c,e=Z (.slice p rs.length c)/\ai (aF A (uq p c)) W w' F (s,rs)
theorem J4 {σ:Type} {A:Ob σ} [Frame A] {W w:World} {F:Fp} {s:σ} (h:ai A W w F s) (id gr:Int):Cx 64 #[I id,I gr] w (eM A W F s (lB (id,gr))):=by
 refine u64 ?_;rw[t64];unfold lB;refine⟨λg=>⟨λw1 c=>?_⟩,λg=>⟨λw1 c=>?_⟩⟩
 ·have g:gr≠0:=by simpa using g
  rw[af g];refine⟨aa ⟨w.heap.size,0,ag⟩,1,rfl,h.add (c.ak no) (G:=bg (aa ⟨w.heap.size,0,ag⟩)) ⟨λ_=>bB,Sl.new c rfl (show(1:Nat)<=maxLen by unfold maxLen;omega)⟩ (λi ⟨a,d,hi⟩=>?_)⟩;cases d;rw[hi];exact b7 _
 ·have g:gr=0:=by simpa using g
  rw[ar g];refine⟨aa ⟨w.heap.size,0,ag⟩,1,rfl,h.add (c.ak no) (G:=bg (aa ⟨w.heap.size,0,ag⟩)) ⟨λ_=>bB,Sl.new c rfl (show(1:Nat)<=maxLen by unfold maxLen;omega)⟩ (λi ⟨a,d,hi⟩=>?_)⟩;cases d;rw[hi];exact b7 _
theorem aas {σ:Type} {A:Ob σ} [Frame A] {W w:World} {F:Fp} {s:σ} (h:ai A W w F s) (gr:Int):Cx 61 #[I gr] w (eM A W F s (fG gr)):=by
 refine u61 ?_;refine⟨(J4 h 0 gr).mono ?_⟩;rintro e w1 ⟨p,c,rfl,a⟩;have d:lB (0,gr)=fG gr:=by unfold lB fG;simp
 rw[d]at a;exact⟨_,_,_,rfl,p,c,rfl,a⟩
theorem rC {b:Nat} {W w:World} {F:Fp} {k a:K} {rs:List Rc} {x:Int×Int} (h:ai (KO b) W w F a) (d:a=k) (f:rs=lB x):Cx 64 #[I x.1,I x.2] w λe w'=>∃p n c,e=Z (.slice p n c)/\eM (KO b) W F k rs (.returned (.slice p n c)) w':=by
 subst d;subst f;refine(J4 h x.1 x.2).mono ?_;rintro e w1 ⟨p,c,rfl,g⟩;exact⟨_,_,_,rfl,p,c,rfl,g⟩
theorem fK {b:Nat} {W w:World} {F:Fp} {k a:K} {rs:List Rc} {x:Int} (h:ai (KO b) W w F a) (d:a=k) (f:rs=fG x):Cx 61 #[I x] w λe w'=>∃p n c,e=Z (.slice p n c)/\eM (KO b) W F k rs (.returned (.slice p n c)) w':=by
 subst d;subst f;refine(aas h x).mono ?_;rintro e w1 ⟨p,c,rfl,g⟩;exact⟨_,_,_,rfl,p,c,rfl,g⟩
def j0 (e:cJ):List Value:=[I e.1,I e.2.1,I e.2.2.1,.int .u64 (mi e.2.2.2.1),I e.2.2.2.2]
section
variable {b:Nat} {W w:World} {F:Fp} {k:K}
theorem xo (j:Tab W) (C:¬F 0) (h:ai (KO b) W w F k) (e:cJ):Cx 69 #[pt b,.agg (j0 e).toArray] w (eM (KO b) W F (j9 k e) (qa k e)):=by
 refine u69 ?_;refine⟨λw1 D=>?_⟩;have a:ai (aF (KO b) (Lb w.heap.size 33)) W w1 F (k,j0 e):=h.add (D.ak no) (Rw.new D rfl) (λi hi=>bG hi.symm);generalize w.heap.size=p at a⊢;refine⟨_,(cE a).cell rfl,⟨(Yd a.drop e.2.1).mono ?_⟩⟩;rintro z E ⟨rfl,rfl⟩;refine⟨_,rfl,λg=>⟨fK a.drop ?_ ?_⟩,λg=>?_⟩
 ·have g:ri k e.2.1≠0:=by simpa using g
  unfold j9;rw[ar g]
 ·have g:ri k e.2.1≠0:=by simpa using g
  unfold qa;rw[ar g]
 ·have g:¬ri k e.2.1≠0:=by simpa using g
  refine⟨_,(cE a).cell rfl,λg1=>⟨_,(cE a).cell rfl,_,(cE a).cell rfl,⟨(XP j C a.drop e.2.1 e.2.2.2.2).mono ?_⟩⟩,λg1=>?_⟩
  ·have g1:e.1=10:=by simpa using g1
   rintro z A ⟨rfl,l⟩;exact⟨_,_,rfl,⟨rC (x:=yP k e.2.1 e.2.2.2.2) l (by unfold j9;rw[af g,ar g1]) (by unfold qa;rw[af g,ar g1])⟩⟩
  ·have g1:¬e.1=10:=by simpa using g1
   refine⟨λc=>?_,λc=>?_⟩
   ·have c:e.1=18:=by simpa using c
    intro A n o r s;have a:=a.ak (au.same no n o r s);obtain⟨q,F1,_,d,t⟩:=KS.fix a;obtain⟨F2,hA,u⟩:=KF.wk d;refine⟨_,rfl,_,(KF.ax d).aE rfl,_,(cE a).cell rfl,⟨(SG hA (a.lY j C) e.2.1).mono ?_⟩⟩;rintro z B ⟨rfl,l⟩;exact⟨_,_,rfl,⟨rC (x:=tQ k.wk e.2.1) (t _ _ (u _ _ l)).drop (by unfold j9;rw[af g,af g1,ar c]) (by unfold qa;rw[af g,af g1,ar c])⟩⟩
   have c:¬e.1=18:=by simpa using c
   refine⟨λf=>?_,λf=>?_⟩
   ·have f:e.1=20:=by simpa using f
    intro A n o r s;have a:=a.ak (au.same no n o r s);obtain⟨q,F1,_,d,t⟩:=KS.fix a;obtain⟨F2,hA,u⟩:=KF.ca d;refine⟨_,rfl,_,(KF.ax d).aE rfl,_,(cE a).cell rfl,⟨(VC hA (a.lY j C) e.2.1).mono ?_⟩⟩;rintro z B ⟨rfl,l⟩;exact⟨_,_,rfl,⟨rC (x:=tY k.ca e.2.1) (t _ _ (u _ _ l)).drop (by unfold j9;rw[af g,af g1,af c,ar f]) (by unfold qa;rw[af g,af g1,af c,ar f])⟩⟩
   have f:¬e.1=20:=by simpa using f
   refine⟨λm=>?_,λm=>?_⟩
   ·have m:e.1=21:=by simpa using m
    intro A n o r s;have a:=a.ak (au.same no n o r s);obtain⟨q,F1,_,d,t⟩:=KS.fix a;obtain⟨F2,hA,u⟩:=KF.st d;refine⟨_,rfl,_,(KF.ax d).aE rfl,_,(cE a).cell rfl,⟨(abO hA e.2.1).mono ?_⟩⟩;rintro z B ⟨rfl,l⟩;exact⟨_,_,rfl,⟨rC (x:=wo k.st e.2.1) (t _ _ (u _ _ l)).drop (by unfold j9;rw[af g,af g1,af c,af f,ar m]) (by unfold qa;rw[af g,af g1,af c,af f,ar m])⟩⟩
   have m:¬e.1=21:=by simpa using m
   refine⟨λy=>?_,λy=>?_⟩
   ·have y:e.1=22:=by simpa using y
    intro A n o r s;have a:=a.ak (au.same no n o r s);obtain⟨q,F1,_,d,t⟩:=KS.fix a;obtain⟨F2,hA,u⟩:=KF.st d;refine⟨_,rfl,_,(KF.ax d).aE rfl,_,(cE a).cell rfl,_,(cE a).cell rfl,⟨(abY hA e.2.1 e.2.2.1).mono ?_⟩⟩;rintro z B ⟨rfl,l⟩;exact⟨_,rfl,⟨fK (x:=xZ k.st e.2.1 e.2.2.1) (t _ _ (u _ _ l)).drop (by unfold j9;rw[af g,af g1,af c,af f,af m,ar y]) (by unfold qa;rw[af g,af g1,af c,af f,af m,ar y])⟩⟩
   have y:¬e.1=22:=by simpa using y
   intro A n o r s;have a:=a.ak (au.same no n o r s);obtain⟨q,F1,_,d,t⟩:=KS.fix a;obtain⟨F2,hA,u⟩:=KF.ga d;refine⟨_,rfl,_,(KF.ax d).aE rfl,_,(cE a).cell rfl,⟨(WH hA e.2.1).mono ?_⟩⟩;rintro z B ⟨rfl,l⟩;exact⟨_,rfl,⟨fK (x:=nv k.ga e.2.1) (t _ _ (u _ _ l)).drop (by unfold j9;rw[af g,af g1,af c,af f,af m,af y]) (by unfold qa;rw[af g,af g1,af c,af f,af m,af y])⟩⟩
def I7 (x:Th):List Value:=[I x.1,.int .u64 (mi x.2.1),I x.2.2.1,.bool x.2.2.2.1,.bool x.2.2.2.2.1,I x.2.2.2.2.2]
theorem yx.fix {p p2:Nat} {T T2:TypeId} {l c:List Value} (h:ai (aF (aF (KO b) (Lb p T)) (Lb p2 T2)) W w F ((k,l),c)):∃q F1,KF b q w F1 k/\ai (KF b q) w w F1 k/\∀w' a,ai (KF b q) w w' F1 a->ai (aF (aF (KO b) (Lb p T)) (Lb p2 T2)) W w' F ((a,l),c):=by
 obtain⟨F1,⟨q,d⟩,e⟩:=h.ll;exact⟨q,F1,d,ai.same d,λw' a f=>e _ _ (KF.loose f)⟩
theorem jz {p p2:Nat} {T T2:TypeId} {l a:List Value} (h:ai (aF (aF (KO b) (Lb p T)) (Lb p2 T2)) W w F ((k,l),a)):aL w p l T:=cE h.drop
theorem xp (n:Tab W) (L:¬F 0) (h:ai (KO b) W w F k) (e:cJ):Cx 66 #[pt b,.agg (j0 e).toArray] w (eM (KO b) W F (iT k e) (oR k e)):=by
 refine u66 ?_;refine⟨λw1 hN=>?_⟩;have a:ai (aF (KO b) (Lb w.heap.size 33)) W w1 F (k,j0 e):=h.add (hN.ak no) (Rw.new hN rfl) (λi hi=>bG hi.symm);generalize w.heap.size=p at a⊢;intro w2 q1 q2 q3 q4;replace a:=a.ak (au.same no q1 q2 q3 q4);obtain⟨q,F1,_,hK,kK⟩:=KS.fix a;obtain⟨F2,hA,_⟩:=KF.th hK;have hB:=KF.ax hK;have M:=cE a;refine⟨_,rfl,_,hB.aE rfl,_,M.cell rfl,?a1,?a2⟩
 case' a1=>
  refine⟨(uW hA e.2.2.1).mono ?_⟩;rintro y N ⟨rfl,o⟩;refine⟨_,_,_,_,_,_,_,rfl,⟨λO f=>?_⟩⟩;replace a:ai (aF (aF (KO b) (Lb p 33)) (Lb N.heap.size 250)) W O F ((k,j0 e),_):=(a.ak o).add (f.ak no) (Rw.new f rfl) (λi hi=>bG hi.symm);generalize N.heap.size=p2 at a⊢;refine⟨(M.ak (o.and (f.ak no)) (λh=>h)).cell rfl,(hB.ak (o.and (f.ak no)) (λh=>h)).aE rfl,?_⟩;refine lP (vs:=I7 (dp k e.2.2.1)) a (by rfl) λH a=>?_
 case' a2=>
  refine⟨λO f=>?_⟩;have P:=(inferInstance:Frame (eL q.th)).ak hA (f.ak no) (λ_ _ h=>h);have C:ai (aF (aF (KO b) (Lb p 33)) (Lb w2.heap.size 250)) W O F ((k,j0 e),_):=a.add (f.ak no) (Rw.new f rfl) (λi hi=>bG hi.symm);clear a;generalize w2.heap.size=p2 at C⊢;refine⟨(M.ak (f.ak no) (λh=>h)).cell rfl,(hB.ak (f.ak no) (λh=>h)).aE rfl,⟨(uW P e.2.2.1).mono ?_⟩⟩;rintro y N ⟨rfl,o⟩;refine⟨_,_,_,_,_,_,_,rfl,?_⟩;refine lP (vs:=I7 (dp k e.2.2.1)) (C.ak o) (by rfl) λH a=>?_
 all_goals
  have j:=jz a;have c:=cE a;have hd:ai (KO b) W H F k:=a.drop.drop;refine⟨λg=>⟨fK hd ?_ ?_⟩,λg=>?_⟩
  ·have g:(di k.th e.2.2.1).2≠0:=by simpa using g
   unfold iT;dsimp only;rw[ar g]
  ·have g:(di k.th e.2.2.1).2≠0:=by simpa using g
   unfold oR;dsimp only;rw[ar g]
  have g:¬(di k.th e.2.2.1).2≠0:=by simpa using g
  refine⟨_,j.cell rfl,λg1=>⟨_,c.cell rfl,⟨rC (x:=((dp k e.2.2.1).2.2.1,0)) hd ?_ ?_⟩⟩,λg1=>?_⟩
  ·have g1:e.1=9:=by simpa using g1
   unfold iT;dsimp only;rw[af g,ar g1]
  ·have g1:e.1=9:=by simpa using g1
   unfold oR;dsimp only;rw[af g,ar g1]
  have g1:¬e.1=9:=by simpa using g1
  refine⟨_,j.cell rfl,λl=>?_,λl=>?_⟩
  ·have l:e.1=4:=by simpa using l
   refine⟨_,j.cell rfl,_,c.cell rfl,_,c.cell rfl,_,c.cell rfl,_,c.cell rfl,_,c.cell rfl,_,c.cell rfl,⟨(X1 hd e.2.2.1 (dp k e.2.2.1)).mono ?_⟩⟩;rintro y I ⟨rfl,Q⟩;exact⟨_,rfl,⟨fK Q (by unfold iT;dsimp only;rw[af g,af g1,ar l]) (by unfold oR;dsimp only;rw[af g,af g1,ar l])⟩⟩
  have l:¬e.1=4:=by simpa using l
  refine⟨_,j.cell rfl,λm=>?_,λm=>?_⟩
  ·have m:e.1=8:=by simpa using m
   intro I R S T U;replace a:=a.ak (au.same no R S T U);obtain⟨q6,F6,_,r,z⟩:=yx.fix a;obtain⟨F7,A,B⟩:=KF.th r;have D:=jz a;refine⟨_,rfl,_,(KF.ax r).aE rfl,_,D.cell rfl,_,D.cell rfl,⟨(Td A e.2.2.1 e.2.2.2.1).mono ?_⟩⟩;rintro y w7 ⟨rfl,s⟩;replace a:=z _ _ (B _ _ s)
   have last:∀(k2:K) (J:World),ai (KO b) W J F k2->k2=iT k e->aP Tryz.prog s7 wE (wR (mZ k.th e.2.2.1 e.2.2.2.1)) J (xm (eM (KO b) W F (iT k e) (oR k e))):=by
    intro k2 J h8 V;refine aP.mk ?_;rw[adK];exact⟨fK h8 V (by unfold oR;dsimp only;rw[af g,af g1,af l,ar m])⟩
   refine⟨_,rfl,λd=>⟨_,(jz a).cell rfl,⟨(Py n L a.drop.drop e.2.2.1).mono ?_⟩⟩,λd=>last _ _ a.drop.drop ?_⟩
   ·have d:mZ k.th e.2.2.1 e.2.2.2.1=0:=by simpa using d
    rintro y J ⟨rfl,X⟩;exact⟨rfl,last _ _ X (by unfold iT;dsimp only;rw[af g,af g1,af l,ar m,ar d])⟩
   ·have d:¬mZ k.th e.2.2.1 e.2.2.2.1=0:=by simpa using d
    unfold iT;dsimp only;rw[af g,af g1,af l,ar m,af d]
  have m:¬e.1=8:=by simpa using m
  refine⟨_,c.cell rfl,_,j.cell rfl,λd=>⟨fK hd ?_ ?_⟩,λd=>?_⟩
  ·have d:(dp k e.2.2.1).2.2.2.2.1≠decide (e.1=7):=by
    intro E;rw[E]at d;by_cases G:e.1=7<;>simp[G]at d
   unfold iT;dsimp only;rw[af g,af g1,af l,af m,ar d]
  ·have d:(dp k e.2.2.1).2.2.2.2.1≠decide (e.1=7):=by
    intro E;rw[E]at d;by_cases G:e.1=7<;>simp[G]at d
   unfold oR;dsimp only;rw[af g,af g1,af l,af m,ar d]
  have d:¬(dp k e.2.2.1).2.2.2.2.1≠decide (e.1=7):=by
   intro E;apply E;cases h5:(dp k e.2.2.1).2.2.2.2.1<;>rw[h5]at d<;>by_cases G:e.1=7<;>simp[G]at d⊢
  refine⟨_,j.cell rfl,λt=>?_,λt=>?_⟩
  ·have t:e.1=6:=by simpa using t
   refine⟨_,j.cell rfl,_,c.cell rfl,_,c.cell rfl,_,c.cell rfl,_,c.cell rfl,_,c.cell rfl,_,c.cell rfl,_,j.cell rfl,⟨(Yl n L hd e.2.2.1 (dp k e.2.2.1) e.2.2.2.2).mono ?_⟩⟩;rintro y I ⟨rfl,Q⟩;exact⟨_,_,rfl,⟨rC (x:=AB k e.2.2.1 (dp k e.2.2.1) e.2.2.2.2) Q (by unfold iT;dsimp only;rw[af g,af g1,af l,af m,af d,ar t]) (by unfold oR;dsimp only;rw[af g,af g1,af l,af m,af d,ar t])⟩⟩
  have t:¬e.1=6:=by simpa using t
  refine⟨_,j.cell rfl,λu=>?_,λu=>?_⟩
  ·have u:e.1=5:=by simpa using u
   intro I R S T U;replace a:=a.ak (au.same no R S T U);obtain⟨q6,F6,_,r,z⟩:=yx.fix a;obtain⟨F7,A,B⟩:=KF.rq r;refine⟨_,rfl,_,(KF.ax r).aE rfl,_,(jz a).cell rfl,⟨(abe A e.2.2.1).mono ?_⟩⟩;rintro y w7 ⟨rfl,s⟩;exact⟨_,rfl,⟨fK (z _ _ (B _ _ s)).drop.drop (by unfold iT;dsimp only;rw[af g,af g1,af l,af m,af d,af t,ar u]) (by unfold oR;dsimp only;rw[af g,af g1,af l,af m,af d,af t,ar u])⟩⟩
  have u:¬e.1=5:=by simpa using u
  refine⟨_,c.cell rfl,?_⟩;obtain⟨F8,Y,Z⟩:=a.ll;have al:ai (KO b) H H F8 k:=ai.same Y;refine⟨(PD al (dp k e.2.2.1).2.2.2.2.2).mono ?_⟩;rintro y I ⟨rfl,am⟩;replace a:=Z _ _ am;refine⟨rfl,_,(jz a).cell rfl,⟨(PH n L a.drop.drop e.2.2.1).mono ?_⟩⟩;rintro y w7 ⟨rfl,s⟩;exact⟨rfl,⟨fK s (by unfold iT;dsimp only;rw[af g,af g1,af l,af m,af d,af t,af u]) (by unfold oR;dsimp only;rw[af g,af g1,af l,af m,af d,af t,af u])⟩⟩
theorem PE (l:Tab W) (x:¬F 0) (h:ai (KO b) W w F k) (up:Bool) (c:Int):Cx 70 #[pt b,.bool up,I c] w λe w'=>e=Z (I (jI k up c))/\ai (KO b) W w' F (iA k up c):=by
 obtain⟨q,o⟩:=KO.fix h;have hB:=KF.ax o;obtain⟨F1,hA,G⟩:=KF.dk o;refine u70 ?_;refine⟨_,rfl,_,hB.cell rfl,⟨(iN k.on c w).mono ?_⟩⟩;rintro e w1 ⟨rfl,rfl⟩;refine⟨_,rfl,λg1=>⟨_,rfl,_,hB.cell rfl,λj=>?_,λj=>⟨_,rfl,_,hB.aE rfl,⟨(u0 hA).mono ?_⟩⟩⟩,λg1=>?_⟩
 ·have j:=aO j;have d:¬(0<=c/\c<(k.n:Int)):=by simp only at j;omega
  unfold jI iA;rw[ar d,ar d];exact⟨rfl,h⟩
 ·have g1:=aV g1;have j:=aV j;have d:¬¬(0<=c/\c<(k.n:Int)):=by simp only at j;omega
  rintro e p ⟨rfl,rfl⟩;refine⟨_,rfl,λm=>?_,λm=>?_⟩
  ·unfold jI iA;rw[af d,ar m,af d,ar m];exact⟨rfl,h⟩
  ·have a:¬dT k.dk=ah:=by rw[m];decide
   have last:jI k up c=my k.dk c (gd (ls k.ac c)).1->iA k up c={k with ga:=sY k.ga,dk:=rZ k.dk up c (gd (ls k.ac c)).1}->aP Tryz.prog oZ qR (qS (aa ⟨b,0,ag⟩) up c) p (rb λe w'=>e=Z (I (jI k up c))/\ai (KO b) W w' F (iA k up c)):=by
    intro y z;refine aP.mk ?_;rw[adQ,y,z];refine⟨_,rfl,_,hB.cell rfl,⟨(Dq k.ac c p).mono ?_⟩⟩;rintro e A ⟨rfl,rfl⟩;refine⟨_,rfl,⟨(xw (ls k.ac c) (h.lY l x)).mono ?_⟩⟩;rintro e H ⟨rfl,rfl⟩;obtain⟨F2,B,C⟩:=KF.ga o;refine⟨_,_,rfl,_,rfl,_,hB.aE rfl,⟨(W8 B).mono ?_⟩⟩;rintro e J ⟨rfl,r⟩;have u:=C _ _ r;obtain⟨F3,D,E⟩:=KF.dk u;refine⟨_,rfl,_,rfl,_,(KF.ax u).aE rfl,⟨(Xb D up c _).mono ?_⟩⟩;rintro e L ⟨rfl,s⟩;exact⟨_,rfl,rfl,KF.loose (E _ _ s)⟩
   cases up
   ·refine⟨λg=>(by cases g),λ_=>⟨λ_=>⟨λf=>?_,λf=>⟨λ_=>⟨_,rfl,_,hB.cell rfl,⟨(YV k.on p).mono ?_⟩⟩,λg=>(by cases g)⟩⟩,λg=>(by cases g)⟩⟩
    ·unfold jI iA;rw[af d,af a,af (by simp),ar (by simpa using f),af d,af a,af (by simp),ar (by simpa using f)];exact⟨rfl,h⟩
    ·rintro e A ⟨rfl,rfl⟩;have f:¬(!false&&!hs k.on c)=ah:=by simpa using f
     refine⟨_,rfl,λi=>?_,λi=>last ?_ ?_⟩
     ·have i:(cs k.on).length=1:=by
       have:((cs k.on).length:Int)=1:=by simpa using i
       omega
      unfold jI iA;rw[af d,af a,af (by simp),af f,ar (by simp[i]),af d,af a,af (by simp),af f,ar (by simp[i])];exact⟨rfl,h⟩
     ·have i:¬(cs k.on).length=1:=λt=>by rw[t]at i;simp at i
      unfold jI;rw[af d,af a,af (by simp),af f,af (by simp[i])]
     ·have i:¬(cs k.on).length=1:=λt=>by rw[t]at i;simp at i
      unfold iA;rw[af d,af a,af (by simp),af f,af (by simp[i])]
   ·refine⟨λ_=>⟨λf=>?_,λf=>⟨λg=>(by cases g),λ_=>⟨λg=>(by cases g),λ_=>last ?_ ?_⟩⟩⟩,λg=>(by cases g)⟩
    ·unfold jI iA;rw[af d,af a,ar (by simpa using f),af d,af a,ar (by simpa using f)];exact⟨rfl,h⟩
    ·unfold jI;rw[af d,af a,af (by rw[f];decide),af (by simp),af (by simp)]
    ·unfold iA;rw[af d,af a,af (by rw[f];decide),af (by simp),af (by simp)]
 ·have g1:=aO g1;have d:¬(0<=c/\c<(k.n:Int)):=by omega
  unfold jI iA;rw[ar d,ar d];exact⟨rfl,h⟩
end
theorem Xw {b:Nat} {w:World} {F:Fp} {s:cg} (h:cR b w F s) {p:Option Addr} {l:List Int} {c:Nat} (o:Cells w p (l.map (ay .i64))) (y:l.length<=1000) :
  Cx 270 #[.slice p l.length c,.func (.func 175) #[pt b] #[]] w λe w'=>((∃i:Nat,∃hi:i<l.length,l.find? (lS s)=aa l[i]/\e=Z (I (i:Int)))∨(l.find? (lS s)=ag/\e=Z (I (-1))))/\w'=w:=by
 refine ahk ?_;refine⟨bJ bA (M:=A8) (σ:=Nat) (λi=>Na p l.length c (aa ⟨b,0,ag⟩) (l.length:Int) (i:Int)) (λi w'=>i<=l.length/\(∀j (d:j<l.length),j<i->lS s l[j]=ae)/\w'=w) (λi _=>l.length-i) 0 ⟨rfl,rfl,rfl,rfl,trivial⟩ ⟨cZ _,λj _ d=>by omega,rfl⟩ ?_⟩;rintro i w1 ⟨hi,m,rfl⟩;rw[ac7];refine⟨λg=>?_,λg=>?_⟩
 ·have g:=aO g;have f:i<l.length:=by omega
  obtain⟨a,q,r⟩:=o.ck f;refine⟨⟨by omega,by omega⟩,a,q,_,r,⟨(aa0 h l[i]).mono ?_⟩⟩;rintro e z ⟨rfl,rfl⟩;refine⟨_,rfl,λn=>⟨.inl ⟨i,f,?_,rfl⟩,rfl⟩,λn=>⟨i+1,⟨rfl,rfl,rfl,by rw[aN (by omega)];rfl,trivial⟩,⟨by omega,λj d t=>?_,rfl⟩,by omega⟩⟩
  ·refine List.find?_eq_some_iff_getElem.2 ⟨n,i,f,rfl,λj d=>?_⟩;rw[m j (by omega) d];rfl
  ·by_cases e:j=i
   ·subst e;exact n
   ·exact m j d (by omega)
 ·have g:=aV g;refine⟨.inr ⟨mr.2 λx u=>?_,rfl⟩,rfl⟩;obtain⟨j,d,rfl⟩:=tg u;rw[m j d (by omega)];decide
theorem Tab.pos {W:World} (c:Tab W):0<W.heap.size:=by
 obtain⟨e,a,d⟩:=c 0 _ (by rfl);cases a;have:=pz d;rw[ta]at this;exact this
theorem eM.nil {σ:Type} {A:Ob σ} [Frame A] {W w:World} {F:Fp} {s:σ} (h:ai A W w F s):eM A W F s [] (.returned (.slice ag 0 0)) w:=
 ⟨ag,0,rfl,h.add (au.refl _ _) (G:=λ_=>False) ⟨λi=>⟨λh=>h.elim,λ⟨a,c,_⟩=>by cases c⟩,Sl.nil _ _ _⟩ (λi hi=>hi.elim)⟩
theorem eM.one {σ:Type} {A:Ob σ} [Frame A] {W w w':World} {F:Fp} {s:σ} (h:ai A W w F s) {r:Rc} (c:dr w w' (.cells (dB (kc r)) 43 (0,0))):eM A W F s [r] (.returned (.slice (aa ⟨w.heap.size,0,ag⟩) 1 1)) w':=by
 refine⟨aa ⟨w.heap.size,0,ag⟩,1,rfl,h.add (c.ak no) (G:=bg (aa ⟨w.heap.size,0,ag⟩)) ⟨λ_=>bB,?_⟩ (λi ⟨a,d,hi⟩=>?_)⟩
 ·have:=Sl.new c (sz:=5) (n:=1) rfl (show(1:Nat)<=maxLen by unfold maxLen;omega);exact this
 ·cases d;rw[hi];exact b7 _
theorem ai.HP {σ τ:Type} {A:Ob σ} {B:Ob τ} [Frame B] {W w:World} {F:Fp} {x:σ×τ} (a:Tab W) (l:¬F 0) (h:ai (aF A B) W w F x) :
  ∃F1,A w F1 x.1/\Tab w/\¬F1 0/\∀w' f,ai A w w' F1 f->ai (aF A B) W w' F (f,x.2):=by
 have y:=a.pos;have q:=h.lY a l;obtain⟨r,s,m,e⟩:=h;obtain⟨F1,F2,n,g,d,j⟩:=s;have z:aF A B w r x:=⟨F1,F2,n,g,d,j⟩;refine⟨F1,n,q,λt=>?_,?_⟩
 ·rcases e 0 ((d 0).2 (.inl t))with k|k
  ·exact l k
  ·omega
 ·rintro w' f ⟨G1,u,k2,o⟩;have p:Frame B:=inferInstance;refine⟨λi=>G1 i∨F2 i,⟨G1,F2,u,p.ak g k2 (λi hi c=>j i c hi),λ_=>bB,λi hi c=>?_⟩,m.trans k2 (λi hi c=>(e i ((d i).2 (.inl c))).elim id (λh=>absurd h (by omega))),λi hi=>?_⟩
  ·rcases o i hi with h|h
   ·exact j i h c
   ·have:=p.lt g i c;omega
  ·rcases hi with hi|hi
   ·rcases o i hi with h|h
    ·exact e i ((d i).2 (.inl h))
    ·exact .inr (aX m.size h)
   ·exact e i ((d i).2 (.inr hi))
theorem eW.short {b:Nat} {w:World} {F:Fp} {Q:QL} (h:eW b w F Q) (c:Int):(gJ Q c).length<=32:=by
 obtain⟨o,g,_,hI⟩:=h;unfold gJ;split
 ·rename_i a;obtain⟨i,hi,rfl,_⟩:=tG a (by omega);rw[nN hi];exact(hI.row hi).2
 ·simp
section
variable {b:Nat} {W w:World} {F:Fp} {k:K}
theorem PG (h:ai (KO b) W w F k) (c:Int):Cx 201 #[pt b,I c] w λe w'=>e=Z (.tuple #[I (yq k c).1,.bool (yq k c).2])/\ai (KO b) W w' F k:=by
 obtain⟨q,f⟩:=KO.fix h;have hB:=KF.ax f;obtain⟨F1,hA,_⟩:=KF.rt f;refine agd ?_;refine⟨_,rfl,_,hB.aE rfl,⟨(QJ hA c).mono ?_⟩⟩;rintro e w1 ⟨p,d,rfl,l⟩;replace f:=f.ak l.U;obtain⟨F2,hI,_⟩:=KF.ir f;have j:(jc k.rt c).length<=1000:=aX (ud ..) (by omega);refine⟨_,_,_,rfl,_,rfl,_,(KF.ax f).aE rfl,⟨(Xw hI l.S.cells j).mono ?_⟩⟩;unfold yq;rintro e r ⟨⟨i,hi,m,rfl⟩|⟨m,rfl⟩,rfl⟩
 ·rw[m];obtain⟨a,n,o⟩:=l.S.cells.ck hi;exact⟨_,rfl,λg=>by have:=aO g;omega,λg=>⟨⟨by omega,by omega⟩,a,n,_,o,rfl,KF.loose f⟩⟩
 ·rw[m];exact⟨_,rfl,λg=>⟨rfl,KF.loose f⟩,λg=>by simp at g⟩
theorem X3 (h:ai (KO b) W w F k) (c:Int):Cx 115 #[pt b,I c] w λe w'=>e=Z (.agg #[.bool (ny k c).1,.bool (ny k c).2.1,.bool (ny k c).2.2.1,.bool (ny k c).2.2.2.1,.bool (ny k c).2.2.2.2.1,.bool (ny k c).2.2.2.2.2.1,.bool (ny k c).2.2.2.2.2.2.1,.bool (ny k c).2.2.2.2.2.2.2.1,.bool (ny k c).2.2.2.2.2.2.2.2])/\ai (KO b) W w' F k:=by
 refine aeX ?_;refine⟨λw1 J=>?_⟩;have d:ai (aF (KO b) (Lb w.heap.size 240)) W w1 F (k,[.bool ae,.bool ae,.bool ae,.bool ae,.bool ae,.bool ae,.bool ae,.bool ae,.bool ae]):=h.add (J.ak no) (Rw.new J rfl) (λi hi=>bG hi.symm);generalize w.heap.size=p at d⊢;obtain⟨F0,s,t⟩:=d.left;refine⟨(PG (ai.same s) c).mono ?_⟩;rintro e w2 ⟨rfl,u⟩;replace d:=t _ _ u;refine⟨_,_,rfl,?_⟩;intro w3 L M N O;replace d:=d.ak (au.same no L M N O);obtain⟨q,F1,_,a,P⟩:=KS.fix d;have hB:=KF.ax a;obtain⟨F2,x,_⟩:=KF.so a;refine⟨_,rfl,_,hB.aE rfl,_,rfl,_,hB.aE rfl,_,rfl,_,hB.aE rfl,_,rfl,_,hB.cell rfl,_,rfl,_,hB.aE rfl,_,rfl,_,hB.aE rfl,_,rfl,_,hB.aE rfl,_,rfl,_,hB.aE rfl,_,rfl,_,hB.aE rfl,⟨(Qp x c).mono ?_⟩⟩;rintro e w4 ⟨rfl,y⟩;replace a:=a.ak y;replace hB:=KF.ax a;obtain⟨F3,z,_⟩:=KF.so a;refine⟨_,rfl,hB.aE rfl,hB.aE rfl,hB.aE rfl,hB.aE rfl,hB.aE rfl,hB.cell rfl,hB.aE rfl,hB.aE rfl,⟨(Xd z c).mono ?_⟩⟩;rintro e w5 ⟨rfl,rfl⟩;obtain⟨F4,l,_⟩:=KF.dk a;refine⟨_,rfl,hB.aE rfl,hB.aE rfl,hB.aE rfl,hB.aE rfl,hB.aE rfl,hB.cell rfl,hB.aE rfl,⟨(u0 l).mono ?_⟩⟩;rintro e w6 ⟨rfl,rfl⟩;refine⟨_,rfl,hB.aE rfl,hB.aE rfl,hB.aE rfl,hB.aE rfl,hB.aE rfl,hB.cell rfl,λg=>?Q,λg=>?a2⟩
 case' Q=>
  refine⟨_,rfl,_,hB.aE rfl,⟨(NZ l).mono ?_⟩⟩;rintro e w7 ⟨rfl,rfl⟩;have m:(nu k.dk==c)=(dT k.dk&&decide (nu k.dk=c)):=by rw[show dT k.dk=ah from g,fc];rfl
  refine⟨_,rfl,hB.aE rfl,hB.aE rfl,hB.aE rfl,hB.aE rfl,hB.aE rfl,hB.cell rfl,⟨(iN k.ac c _).mono ?_⟩⟩
 case' a2=>
  have m:ae=(dT k.dk&&decide (nu k.dk=c)):=by rw[show dT k.dk=ae from g,iI]
  refine⟨(iN k.ac c _).mono ?_⟩
 all_goals
  rintro e w8 ⟨rfl,rfl⟩;obtain⟨F5,A,_⟩:=KF.ca a;refine⟨_,rfl,hB.aE rfl,hB.aE rfl,hB.aE rfl,hB.aE rfl,hB.aE rfl,⟨(Vj A c).mono ?_⟩⟩;rintro e w9 ⟨rfl,B⟩;replace a:=a.ak B;replace hB:=KF.ax a;obtain⟨F6,C,_⟩:=KF.tm a;refine⟨_,rfl,hB.aE rfl,hB.aE rfl,hB.aE rfl,hB.aE rfl,⟨(aez C c).mono ?_⟩⟩;rintro e R ⟨rfl,n⟩;replace a:=a.ak n;replace hB:=KF.ax a;obtain⟨F7,D,_⟩:=KF.wk a;refine⟨_,rfl,hB.aE rfl,hB.aE rfl,hB.aE rfl,⟨(SD D c).mono ?_⟩⟩;rintro e S ⟨rfl,o⟩;replace a:=a.ak o;replace hB:=KF.ax a;obtain⟨F8,j,_⟩:=KF.wk a;have E:=eW.short j c;have G:=eW.short j (-1);refine⟨_,rfl,hB.aE rfl,hB.aE rfl,⟨(SD j (-1)).mono ?_⟩⟩;rintro e T ⟨rfl,r⟩;replace a:=a.ak r;replace hB:=KF.ax a;obtain⟨F9,H,_⟩:=KF.rq a;refine⟨_,rfl,hB.aE rfl,⟨(vo H c).mono ?_⟩⟩;rintro e U ⟨rfl,rfl⟩;replace d:=P _ _ a;refine⟨_,rfl,lP d (by rfl) λV d=>?_⟩;have f:=cE d;refine⟨_,f.cell rfl,_,f.cell rfl,_,f.cell rfl,_,f.cell rfl,_,f.cell rfl,_,f.cell rfl,_,f.cell rfl,_,f.cell rfl,_,f.cell rfl,?_,d.drop⟩;unfold ny;rw[<-m]
  dsimp only at E G⊢
  rw[aN (by omega)];have X:decide (((jC k.ca c).length:Int)>0)=decide (0<(jC k.ca c).length):=decide_eq_decide.2 (by omega);have Y:decide (((gJ k.wk c).length:Int)+((gJ k.wk (-1)).length:Int)>0)=decide (0<(gJ k.wk c).length+(gJ k.wk (-1)).length):=decide_eq_decide.2 (by omega);rw[X,Y]
theorem Pw (h:ai (KO b) W w F k) (c kind id n:Int):Cx 220 #[pt b,I c,I kind,I id,I n] w (eM (KO b) W F k [(kind,c,id,n,0)]):=by
 obtain⟨q,d⟩:=KO.fix h;have hB:=KF.ax d;obtain⟨F1,cC,hA,g⟩:=KF.sc d;refine agx ?_;refine⟨_,rfl,_,hB.aE rfl,⟨(D5 hA c (n:=1) (by decide)).mono ?_⟩⟩;rintro e w1 ⟨rfl,j⟩;have l:=KF.loose (g _ _ j);refine⟨_,rfl,⟨λo f=>⟨aa ⟨w1.heap.size,0,ag⟩,1,rfl,l.add (f.ak no) (G:=bg (aa ⟨w1.heap.size,0,ag⟩)) ⟨λ_=>bB,Sl.new f rfl (show(1:Nat)<=maxLen by unfold maxLen;omega)⟩ (λi ⟨a,m,hi⟩=>?_)⟩⟩⟩;cases m;rw[hi];exact b7 _
theorem X2 (a:Tab W) (x:¬F 0) (h:ai (KO b) W w F k) (c:Int):Cx 222 #[pt b,I c] w (eM (KO b) W F (nw k c) [(3,c,(dU k.tm c).1,(k.own (dU k.tm c).1).getD 0,0)]):=by
 obtain⟨q,s⟩:=KO.fix h;have hB:=KF.ax s;obtain⟨F1,hA,y⟩:=KF.tm s;refine agz ?_;refine⟨_,rfl,_,hB.aE rfl,⟨(aef hA c).mono ?_⟩⟩;rintro e w1 ⟨rfl,z⟩;have l:=y _ _ z;obtain⟨F2,n,t,A⟩:=KF.own l;have f:=jL rB t (dU k.tm c).1 ae;have B:((k.own (dU k.tm c).1).map (ay .i64)).getD (I 0)=I ((k.own (dU k.tm c).1).getD 0):=by cases k.own (dU k.tm c).1<;>rfl
 simp only[B]at f;obtain⟨C,i,m⟩:=sL rB t (dU k.tm c).1 3 (0:TypeId);have u:=A _ _ m
 have last:∀(k2:K) (j:World),ai (KO b) W j F k2->k2=nw k c->aP Tryz.prog yD BS (Cw (aa ⟨b,0,ag⟩) c (dU k.tm c).1 ((k.own (dU k.tm c).1).getD 0)) j (C8 (eM (KO b) W F (nw k c) [(3,c,(dU k.tm c).1,(k.own (dU k.tm c).1).getD 0,0)])):=by
  rintro k2 j D rfl;refine aP.mk ?_;rw[acZ];refine⟨(Pw D c 3 _ _).mono ?_⟩;rintro e E ⟨p,d,rfl,o⟩;exact⟨_,_,_,rfl,p,d,rfl,o⟩
 refine⟨_,_,rfl,_,rfl,_,(KF.ax l).cell rfl,_,f,_,rfl,_,(KF.ax l).cell rfl,C,i,λg=>?_,λg=>?_⟩
 ·have g:0<(k.own (dU k.tm c).1).getD 0:=aO g;refine⟨(PH a x (KF.loose u) _).mono ?_⟩;rintro e j ⟨rfl,r⟩;exact⟨rfl,last _ _ r (by unfold nw;dsimp only;rw[ar g];rfl)⟩
 ·have g:¬0<(k.own (dU k.tm c).1).getD 0:=aV g;exact last _ _ (KF.loose u) (by unfold nw;dsimp only;rw[af g];rfl)
theorem ZO {x:cM} (h:EV x) (c:Int):(tL x c).1<=1152921504606846976:=by
 unfold tL;split
 ·split
  ·unfold lI;split
   ·rename_i p a;exact(h.at_ _ _ a).2.2
   ·omega
  ·simp only;omega
 ·simp only;omega
theorem X8 (h:ai (KO b) W w F k) (d:k.tm.now=k.now) (c:Int):Cx 120 #[pt b,I c] w λe w'=>e=Z (.tuple #[])/\ai (KO b) W w' F (P0 k c):=by
 obtain⟨q,a⟩:=KO.fix h;have hB:=KF.ax a;obtain⟨F1,hA,_⟩:=KF.tm a;have j:EV k.tm:=by obtain⟨_,_,_,_,_,_,r⟩:=hA;exact r.v
 have f:=j.now;rw[d]at f;refine ae2 ?_;refine⟨_,rfl,_,hB.aE rfl,⟨(aet hA c).mono ?_⟩⟩;rintro e w1 ⟨rfl,g⟩;replace a:=a.ak g;replace hB:=KF.ax a;refine⟨_,_,rfl,_,rfl,_,hB.cell rfl,⟨(XD f.2 (ZO j c) _ w1).mono ?_⟩⟩;rintro e z ⟨rfl,rfl⟩;refine⟨_,rfl,?_⟩;intro l m o p s;replace a:=a.ak (au.same no m o p s);replace hB:=KF.ax a;refine⟨_,rfl,_,hB.aE rfl,_,rfl,_,hB.cell rfl,_,rfl,_,hB.cell rfl,⟨(Oj l).mono ?_⟩⟩;rintro e A ⟨⟨pt,rfl,t⟩,i⟩;replace a:=a.ak i;replace hB:=KF.ax a;refine⟨_,_,_,rfl,hB.cell rfl,hB.cell rfl,hB.aE rfl,⟨(Xq t _ _).mono ?_⟩⟩;rintro e B ⟨rfl,rfl⟩;obtain⟨F2,u,x⟩:=KF.co a;refine⟨_,rfl,hB.cell rfl,hB.aE rfl,⟨(Vz u c _ _ ?_).mono ?_⟩⟩
 ·unfold uL
  repeat' split
  all_goals omega
 rintro e C ⟨⟨n,rfl⟩,y⟩;exact⟨_,rfl,rfl,KF.loose (x _ _ y)⟩
theorem Yq (o:Tab W) (x:¬F 0) (h:ai (KO b) W w F k) (c a:Int):Cx 121 #[pt b,I c,I a] w (eM (KO b) W F (sU k c a) (I9 k c a)):=by
 obtain⟨q,s⟩:=KO.fix h;have hB:=KF.ax s;refine ae3 ?_;unfold sU I9
 have last:∀{k2:K} {t:World} (u:ai (KO b) W t F k2) (kind id:Int),Cx 220 #[pt b,I c,I kind,I id,I 0] t λe w'=>∃p n d,e=Z (.slice p n d)/\eM (KO b) W F k2 [(kind,c,id,0,0)] (.returned (.slice p n d)) w':=λu kind id=>(Pw u c kind id 0).mono (by
  rintro e y ⟨p,d,rfl,j⟩;exact⟨_,_,_,rfl,p,d,rfl,j⟩)
 refine⟨λg=>?_,λg=>⟨λg1=>?_,λg1=>⟨λf=>?_,λf=>⟨λi=>?_,λi=>?_⟩⟩⟩⟩
 ·have g:a=4:=by simpa using g
  rw[ar g,ar g];obtain⟨F1,hA,l⟩:=KF.ca s;refine⟨_,rfl,_,hB.aE rfl,⟨(VD hA c).mono ?_⟩⟩;rintro e w1 ⟨rfl,m⟩;exact⟨_,_,rfl,⟨last (KF.loose (l _ _ m)) 6 _⟩⟩
 ·have g:¬a=4:=by simpa using g
  have g1:a=5:=by simpa using g1
  rw[af g,ar g1,af g,ar g1];refine⟨(PG h c).mono ?_⟩;rintro e w1 ⟨rfl,z⟩;obtain⟨A,r⟩:=KO.fix z;obtain⟨F1,hA,l⟩:=KF.ir r;refine⟨_,_,rfl,_,rfl,_,(KF.ax r).aE rfl,⟨(Vg hA _).mono ?_⟩⟩;rintro e t ⟨rfl,m⟩;exact⟨_,rfl,⟨last (KF.loose (l _ _ m)) 4 _⟩⟩
 ·have g:¬a=4:=by simpa using g
  have g1:¬a=5:=by simpa using g1
  have f:a=6:=by simpa using f
  rw[af g,af g1,ar f,af g,af g1,ar f];refine⟨(X2 o x h c).mono ?_⟩;rintro e y ⟨p,d,rfl,j⟩;exact⟨_,_,_,rfl,p,d,rfl,j⟩
 ·have g:¬a=4:=by simpa using g
  have g1:¬a=5:=by simpa using g1
  have f:¬a=6:=by simpa using f
  have i:a=7:=by simpa using i
  rw[af g,af g1,af f,ar i,af g,af g1,af f,ar i];obtain⟨F1,hA,l⟩:=KF.wk s;refine⟨_,rfl,_,hB.aE rfl,⟨(ajG hA c).mono ?_⟩⟩;rintro e w1 ⟨rfl,m⟩;exact⟨_,_,rfl,⟨last (KF.loose (l _ _ m)) 5 _⟩⟩
 ·have g:¬a=4:=by simpa using g
  have g1:¬a=5:=by simpa using g1
  have f:¬a=6:=by simpa using f
  have i:¬a=7:=by simpa using i
  rw[af g,af g1,af f,af i,af g,af g1,af f,af i];obtain⟨F1,hA,l⟩:=KF.rq s;refine⟨_,rfl,_,hB.aE rfl,⟨(abj hA c).mono ?_⟩⟩;rintro e w1 ⟨rfl,m⟩;exact⟨_,_,rfl,⟨last (KF.loose (l _ _ m)) 2 _⟩⟩
end
section
variable {b:Nat} {W w:World} {F:Fp} {k:K}
theorem Yu (h:ai (KO b) W w F k) (up:Bool) (bS c:Int):Cx 297 #[pt b,.bool up,I bS,I c] w λe w'=>e=Z (.tuple #[])/\ai (KO b) W w' F (oU k up bS c):=by
 obtain⟨q,d⟩:=KO.fix h;have hB:=KF.ax d;refine ahF ?_;unfold oU;cases up
 ·refine⟨λg=>(by cases g),λ_=>⟨λ_=>⟨λg=>?_,λg=>?_⟩,λg=>(by cases g)⟩⟩
  ·have g:bS=1:=by simpa using g
   rw[af (by simp),ar (by simp[g])];refine⟨_,rfl,_,hB.cell rfl,⟨λw1 f=>⟨(pT k.ac (l:=[c]) (p:=aa ⟨w.heap.size,0,ag⟩) (c:=1) (λj v i=>⟨_,rfl,f.aK.cell i⟩) (by simp)).mono ?_⟩⟩⟩;rintro e s ⟨rfl,rfl⟩;have a:=d.ak (f.ak no);refine⟨_,rfl,_,rfl,(KF.ax a).wr (k:=17) (by simp[lN]) λt m=>⟨rfl,KF.loose (KF.row a (k.n,k.on,wi k.ac c,k.now,k.lim) rfl m)⟩⟩
  ·have g:¬bS=1:=by simpa using g
   rw[af (by simp),af (by simp[g])];exact⟨rfl,h⟩
 ·refine⟨λ_=>⟨λg=>?_,λg=>⟨λg=>(by cases g),λ_=>?_⟩⟩,λg=>(by cases g)⟩
  ·have g:bS=1:=by simpa using g
   rw[ar (by simp[g])];obtain⟨F1,hA,o⟩:=KF.co d;refine⟨_,rfl,_,hB.aE rfl,⟨(FZ hA c ae).mono ?_⟩⟩;rintro e w1 ⟨⟨n,rfl⟩,r⟩;exact⟨_,rfl,rfl,KF.loose (o _ _ r)⟩
  ·have g:¬bS=1:=by simpa using g
   rw[af (by simp[g]),af (by simp)];exact⟨rfl,h⟩
theorem KL.fix {T:TypeId} {y:iU} (h:ai (aF (KO b) (Ls T)) W w F (k,y)):∃q F1,KF b q w F1 k/\ai (KF b q) w w F1 k/\∀w' a,ai (KF b q) w w' F1 a->ai (aF (KO b) (Ls T)) W w' F (a,y):=by
 obtain⟨F1,⟨q,c⟩,d⟩:=h.left;exact⟨q,F1,c,ai.same c,λw' a e=>d _ _ (KF.loose e)⟩
theorem zP {T:TypeId} {p:Option Addr} {c:Nat} {l:List Int} (h:ai (aF (KO b) (Ls T)) W w F (k,(p,c,l))):Cells w p (l.map (ay .i64)):=by
 obtain⟨F2,a,_⟩:=h.right;exact a.cells
theorem XY (o:Tab W) (C:¬F 0) (h:ai (KO b) W w F k) (c:Int):Cx 356 #[pt b,I c] w λe w'=>(dd k.rq c=[]/\e=Z (.bool ah)/\ai (KO b) W w' F k)∨∃id l,dd k.rq c=id::l/\e=Z (.bool ae)/\ai (KO b) W w' F (jd {k with rq:=gN k.rq id} id c):=by
 obtain⟨q,y⟩:=KO.fix h;have hB:=KF.ax y;obtain⟨F1,hA,_⟩:=KF.rq y;refine aiv ?_;refine⟨_,rfl,_,hB.aE rfl,⟨(ID hA c).mono ?_⟩⟩;rintro e w1 ⟨p,d,rfl,n⟩
 cases z:dd k.rq c with
 | nil=>
  rw[z]at n
  exact⟨_,_,_,rfl,λ_=>.inl ⟨rfl,rfl,h.ak n.U⟩,λg=>by simp at g⟩
 | cons id l=>
  rw[z]at n;have j:ai (aF (KO b) (Ls 3)) W w1 F (k,(p,d,id::l)):=h.add n.U (G:=bg p) ⟨λ_=>bB,n.S⟩ n.F;refine⟨_,_,_,rfl,λg=>by simp at g;omega,λ_=>?_⟩;intro O D E H J;replace j:=j.ak (au.same no D E H J);obtain⟨P,F5,_,A,L⟩:=KL.fix j;obtain⟨F6,r,s⟩:=KF.rq A;obtain⟨a,M,m⟩:=(zP j).ck (i:=0) (l:=id::l) (by simp);have B:(0:Int)<=0/\(0:Int)<(((id::l).length:Nat):Int):=⟨by omega,by simp⟩;refine⟨_,rfl,_,(KF.ax A).aE rfl,B,a,M,_,by simpa using m,⟨(Al r id).mono ?_⟩⟩;rintro e Q ⟨rfl,t⟩;replace j:=L _ _ (s _ _ t);obtain⟨N,u,f⟩:=(zP j).ck (i:=0) (l:=id::l) (by simp);refine⟨_,rfl,B,N,u,_,by simpa using f,⟨(Dg o C j.drop id c).mono ?_⟩⟩;rintro e R ⟨rfl,x⟩;exact⟨rfl,.inr ⟨id,l,rfl,rfl,x⟩⟩
theorem XZ (a:Tab W) (g:¬F 0) (h:ai (KO b) W w F k) (c:Int):Cx 356 #[pt b,I c] w λe w'=>e=Z (.bool (G4 k c))/\ai (KO b) W w' F (pH k c):=by
 refine(XY a g h c).mono ?_;unfold G4 pH;rintro e w' (⟨d,rfl,f⟩|⟨id,l,d,rfl,f⟩)
 ·rw[d];exact⟨rfl,f⟩
 ·rw[d];exact⟨rfl,f⟩
theorem aeo {b:Nat} {w:World} {F:Fp} {x:TX} (h:eL b w F x):(gl x).length<=32:=by
 obtain⟨b2,c,y,h,d,hI⟩:=h;have a:=hI.len;have hs:=congrArg iX hI.s;rw[bO,a]at hs;unfold gl;rw[<-hs];exact DI _ _
theorem XW (C:Tab W) (h0:¬F 0) (h:ai (KO b) W w F k) (bS c:Int):Cx 299 #[pt b,I bS,I c] w λe w'=>e=Z (.tuple #[])/\ai (KO b) W w' F (pD k bS c):=by
 obtain⟨q,f⟩:=KO.fix h;have hB:=KF.ax f;refine ahH ?_;unfold pD;refine⟨λg=>?_,λg=>⟨λg1=>?_,λg1=>?_⟩⟩
 ·have g:bS=1:=by simpa using g
  rw[ar g];obtain⟨F1,hA,Y⟩:=KF.co f;refine⟨_,rfl,_,hB.aE rfl,⟨(FZ hA c ah).mono ?_⟩⟩;rintro e w1 ⟨⟨n,rfl⟩,hT⟩;exact⟨_,rfl,rfl,KF.loose (Y _ _ hT)⟩
 ·have g:¬bS=1:=by simpa using g
  have g1:bS=2:=by simpa using g1
  rw[af g,ar g1];obtain⟨F1,hA,Y⟩:=KF.st f;refine⟨_,rfl,_,hB.aE rfl,⟨(MX hA c).mono ?_⟩⟩;rintro e w1 ⟨rfl,hT⟩;exact⟨_,_,rfl,rfl,KF.loose (Y _ _ hT)⟩
 have g:¬bS=1:=by simpa using g
 have g1:¬bS=2:=by simpa using g1
 rw[af g,af g1]
 dsimp only
 have second:∀(k2:K) (t:World),ai (KO b) W t F k2->aP Tryz.prog qw BW (GA (aa ⟨b,0,ag⟩)) t (HF λe w'=>e=Z (.tuple #[])/\ai (KO b) W w' F ((gI k2.ir).foldl iF k2)):=by
  intro k2 t h2;refine aP.mk ?_;rw[ade];obtain⟨q2,P⟩:=KO.fix h2;obtain⟨F2,z,_⟩:=KF.ir P;refine⟨_,rfl,_,(KF.ax P).aE rfl,⟨(P4 z).mono ?_⟩⟩;rintro e L ⟨p,d,rfl,D⟩;have hS:ai (aF (KO b) (Ls 3)) W L F (k2,(p,d,gI k2.ir)):=h2.add D.U (G:=bg p) ⟨λ_=>bB,D.S⟩ D.F;have Q:(gI k2.ir).length<=16:=ud ..;refine⟨_,_,_,rfl,⟨bJ bA (M:=qw) (σ:=Nat) (λi=>GB (aa ⟨b,0,ag⟩) p (gI k2.ir).length d ((gI k2.ir).length:Int) (i:Int)) (λi w'=>i<=(gI k2.ir).length/\ai (aF (KO b) (Ls 3)) W w' F (((gI k2.ir).take i).foldl iF k2,(p,d,gI k2.ir))) (λi _=>(gI k2.ir).length-i) 0 ⟨rfl,rfl,rfl,rfl,trivial⟩ ⟨cZ _,hS⟩ ?_⟩⟩;rintro i X ⟨hi,A⟩;rw[adg];refine⟨λg=>?_,λg=>?_⟩
  ·have g:=aO g;have u:i<(gI k2.ir).length:=by omega
   obtain⟨a,ha,m⟩:=(zP A).ck u;obtain⟨F5,E,x,H,J⟩:=ai.HP C h0 A;refine⟨⟨by omega,by omega⟩,a,ha,_,m,⟨(Pu x H (ai.same E) _).mono ?_⟩⟩;rintro e R ⟨rfl,x⟩;have h5:=J _ _ x;refine⟨rfl,i+1,⟨rfl,rfl,rfl,by rw[aN (by omega)];rfl,trivial⟩,⟨by omega,?_⟩,by omega⟩;rw[List.take_add_one,cS u,lx];exact h5
  ·have g:=aV g;rw[qB (by omega)]at A;exact⟨rfl,A.drop⟩
 have tail:∀(t:World),ai (KF b q) W t F k->∃a,(aa ⟨b,0,ag⟩:Option Addr)=aa a/\Wr t (a.add 16) [.int .u64 (mi (wi k.on c))] λw'=>∃a,(aa ⟨b,0,ag⟩:Option Addr)=aa a/\Wr w' (a.add 17) [.int .u64 (mi (wi k.ac c))] λw'=>∃a,(aa ⟨b,0,ag⟩:Option Addr)=aa a/\∃p,w'.cell? ((a.add 0).add 0)=aa (.pointer p)/\Call Tryz.prog 181 [.pointer p] w' λe w'=>∃p n d,e=Z (.slice p n d)/\Cut (WP Tryz.prog (qw).N (bj yW) (wP (aa ⟨b,0,ag⟩) p n d (n:Int) 0) w' (zI λe w'=>e=Z (.tuple #[])/\ai (KO b) W w' F ((gI (((gl k.th).foldl iO {k with on:=wi k.on c,ac:=wi k.ac c}).ir)).foldl iF ((gl k.th).foldl iO {k with on:=wi k.on c,ac:=wi k.ac c})))):=by
  intro t f;refine⟨_,rfl,(KF.ax f).wr (k:=16) (by simp[lN]) λL al=>?_⟩;have h3:=KF.row f (k.n,wi k.on c,k.ac,k.now,k.lim) rfl al;refine⟨_,rfl,(KF.ax h3).wr (k:=17) (by simp[lN]) λX am=>?_⟩;have h4:=KF.row h3 (k.n,wi k.on c,wi k.ac c,k.now,k.lim) rfl am;obtain⟨F2,z,_⟩:=KF.th h4;refine⟨_,rfl,_,(KF.ax h4).aE rfl,⟨(R0 z).mono ?_⟩⟩;rintro e R ⟨p,d,rfl,D⟩;have hS:ai (aF (KO b) (Ls 3)) W R F ({k with on:=wi k.on c,ac:=wi k.ac c},(p,d,gl k.th)):=(KF.loose h4).add D.U (G:=bg p) ⟨λ_=>bB,D.S⟩ D.F;have Q:(gl k.th).length<=32:=aeo z;refine⟨_,_,_,rfl,⟨bJ bA (M:=qw) (σ:=Nat) (λi=>wP (aa ⟨b,0,ag⟩) p (gl k.th).length d ((gl k.th).length:Int) (i:Int)) (λi w'=>i<=(gl k.th).length/\ai (aF (KO b) (Ls 3)) W w' F (((gl k.th).take i).foldl iO {k with on:=wi k.on c,ac:=wi k.ac c},(p,d,gl k.th))) (λi _=>(gl k.th).length-i) 0 ⟨rfl,rfl,rfl,rfl,trivial⟩ ⟨cZ _,hS⟩ ?_⟩⟩;rintro i w6 ⟨hi,B⟩;rw[adf];refine⟨λg=>?_,λg=>?_⟩
  ·have g:=aO g;have u:i<(gl k.th).length:=by omega
   obtain⟨a,ha,m⟩:=(zP B).ck u;obtain⟨F5,E,x,H,J⟩:=ai.HP C h0 B;refine⟨⟨by omega,by omega⟩,a,ha,_,m,⟨(Py x H (ai.same E) _).mono ?_⟩⟩;rintro e w7 ⟨rfl,ap⟩;have h7:=J _ _ ap;refine⟨rfl,i+1,⟨rfl,rfl,rfl,by rw[aN (by omega)];rfl,trivial⟩,⟨by omega,?_⟩,by omega⟩;rw[List.take_add_one,cS u,lx];exact h7
  ·have g:=aV g;rw[qB (by omega)]at B;exact second _ _ B.drop
 intro w1 q1 q2 q3 q4;replace f:=f.ak (au.same no q1 q2 q3 q4);replace hB:=KF.ax f;refine⟨_,rfl,_,hB.cell rfl,_,rfl,_,hB.cell rfl,?_,?_⟩
 ·refine⟨λt O=>?_⟩;replace f:=f.ak (O.ak no);have s:=KF.ax f;refine⟨s.cell rfl,s.cell rfl,?_,?_⟩
  ·refine⟨(pT k.on (l:=[c]) (p:=aa ⟨w1.heap.size,0,ag⟩) (c:=1) (λj v y=>⟨_,rfl,O.aK.cell y⟩) (by simp)).mono ?_⟩;rintro e L ⟨rfl,rfl⟩;refine⟨_,rfl,s.cell rfl,⟨λX T=>?_⟩⟩;replace f:=f.ak (T.ak no);have V:=KF.ax f;refine⟨V.cell rfl,V.cell rfl,⟨(pT k.ac (l:=[c]) (p:=aa ⟨L.heap.size,0,ag⟩) (c:=1) (λj v y=>⟨_,rfl,T.aK.cell y⟩) (by simp)).mono ?_⟩⟩;rintro e R ⟨rfl,rfl⟩;exact⟨_,rfl,tail _ f⟩
  ·refine⟨λL o=>?_⟩;replace f:=f.ak (o.ak no);have r:=KF.ax f;refine⟨r.cell rfl,r.cell rfl,⟨(pT k.on (l:=[c]) (p:=aa ⟨w1.heap.size,0,ag⟩) (c:=1) (λj v y=>⟨_,rfl,(O.aK.ak (o.ak no) (λh=>h)).cell y⟩) (by simp)).mono ?_⟩⟩;rintro e X ⟨rfl,rfl⟩;refine⟨_,rfl,r.cell rfl,⟨(pT k.ac (l:=[c]) (p:=aa ⟨t.heap.size,0,ag⟩) (c:=1) (λj v y=>⟨_,rfl,o.aK.cell y⟩) (by simp)).mono ?_⟩⟩;rintro e R ⟨rfl,rfl⟩;exact⟨_,rfl,tail _ f⟩
 ·refine⟨λt O=>?_⟩;replace f:=f.ak (O.ak no);have s:=KF.ax f;refine⟨s.cell rfl,s.cell rfl,⟨λL o=>?_⟩⟩;replace f:=f.ak (o.ak no);have r:=KF.ax f;refine⟨r.cell rfl,r.cell rfl,⟨(pT k.on (l:=[c]) (p:=aa ⟨t.heap.size,0,ag⟩) (c:=1) (λj v y=>⟨_,rfl,o.aK.cell y⟩) (by simp)).mono ?_⟩⟩;rintro e X ⟨rfl,rfl⟩;refine⟨_,rfl,r.cell rfl,⟨(pT k.ac (l:=[c]) (p:=aa ⟨w1.heap.size,0,ag⟩) (c:=1) (λj v y=>⟨_,rfl,(O.aK.ak (o.ak no) (λh=>h)).cell y⟩) (by simp)).mono ?_⟩⟩;rintro e R ⟨rfl,rfl⟩;exact⟨_,rfl,tail _ f⟩
theorem X5 (t:Tab W) (R:¬F 0) (h:ai (KO b) W w F k) (c aA:Int):Cx 360 #[pt b,I c,I aA] w λe w'=>e=Z (.bool (uZ k))/\ai (KO b) W w' F (pL k c aA):=by
 obtain⟨q,f⟩:=KO.fix h;have hB:=KF.ax f;obtain⟨F1,hA,_⟩:=KF.so f;refine aiz ?_;unfold uZ pL;refine⟨_,rfl,_,hB.aE rfl,⟨(DE hA).mono ?_⟩⟩;rintro e w1 ⟨rfl,rfl⟩;refine⟨_,rfl,λg=>?_,λg=>?_⟩
 ·have g:k.sp.1=0:=by simpa using g
  have T:(!(k.sp.1==0)&&ru k.sp)=ae:=by rw[g];rfl
  rw[ar g,T];intro L V X Y q4;replace f:=f.ak (au.same no V X Y q4);replace hB:=KF.ax f;refine⟨_,rfl,_,hB.aE rfl,_,rfl,_,hB.cell rfl,⟨λN O=>?_⟩⟩;replace f:=f.ak (O.ak no);replace hB:=KF.ax f;refine⟨hB.cell rfl,hB.aE rfl,⟨(pT k.ac (l:=[c]) (p:=aa ⟨L.heap.size,0,ag⟩) (c:=1) (λj v hv=>⟨_,rfl,O.aK.cell hv⟩) (by simp)).mono ?_⟩⟩;rintro e w4 ⟨rfl,rfl⟩;refine⟨_,rfl,hB.aE rfl,⟨(Dq (wi k.ac c) aA _).mono ?_⟩⟩;rintro e w5 ⟨rfl,rfl⟩;obtain⟨F2,x,y⟩:=KF.so f;refine⟨_,rfl,hB.aE rfl,⟨(TK x _).mono ?_⟩⟩;rintro e w6 ⟨rfl,z⟩;exact⟨_,rfl,rfl,KF.loose (y _ _ z)⟩
 ·have g:¬k.sp.1=0:=by
   intro hh;rw[hh]at g;exact absurd g (by decide)
  have e0:(!(k.sp.1==0))=ah:=by simpa using g
  rw[af g,e0,fc];refine⟨_,rfl,_,hB.aE rfl,⟨(aa1 hA).mono ?_⟩⟩;rintro e L ⟨rfl,A⟩;replace f:=f.ak A;replace hB:=KF.ax f;refine⟨_,rfl,λo=>?_,λo=>?_⟩
  ·have o:ru k.sp=ae:=by simpa using o
   rw[o,af (by decide)];exact⟨rfl,KF.loose f⟩
  ·have o:ru k.sp=ah:=by simpa using o
   rw[o,ar rfl]
   dsimp only
   obtain⟨F3,hR,_⟩:=KF.rt f;refine⟨_,rfl,_,hB.aE rfl,⟨(QJ hR c).mono ?_⟩⟩;rintro e N ⟨p,d,rfl,B⟩;have hS:ai (aF (KO b) (Ls 3)) W N F (k,(p,d,jc k.rt c)):=(KF.loose f).add B.U (G:=bg p) ⟨λ_=>bB,B.S⟩ B.F;have P:(jc k.rt c).length<=16:=ud ..;refine⟨_,_,_,rfl,⟨bJ bA (M:=vF) (σ:=Nat) (λi=>GG (aa ⟨b,0,ag⟩) c p (jc k.rt c).length d ((jc k.rt c).length:Int) (i:Int)) (λi w'=>i<=(jc k.rt c).length/\ai (aF (KO b) (Ls 3)) W w' F (((jc k.rt c).take i).foldl (λk n=>iy k n c) k,(p,d,jc k.rt c))) (λi _=>(jc k.rt c).length-i) 0 ⟨rfl,rfl,rfl,rfl,rfl,trivial⟩ ⟨cZ _,hS⟩ ?_⟩⟩;rintro i w4 ⟨hi,m⟩;rw[adn];refine⟨λg=>?_,λg=>aP.mk ?_⟩
   ·have g:=aO g;have u:i<(jc k.rt c).length:=by omega
    obtain⟨a,ha,r⟩:=(zP m).ck u;obtain⟨F5,C,s,D,E⟩:=ai.HP t R m;refine⟨⟨by omega,by omega⟩,a,ha,_,r,⟨(HK s D (ai.same C) _ _).mono ?_⟩⟩;rintro e w5 ⟨rfl,s⟩;have h5:=E _ _ s;refine⟨rfl,i+1,⟨rfl,rfl,rfl,rfl,by rw[aN (by omega)];rfl,trivial⟩,⟨by omega,?_⟩,by omega⟩;rw[List.take_add_one,cS u,lx];exact h5
   ·have g:=aV g;rw[qB (by omega)]at m;rw[adm];obtain⟨q6,Q⟩:=KO.fix m.drop;obtain⟨F6,H,J⟩:=KF.so Q;refine⟨_,rfl,_,(KF.ax Q).aE rfl,⟨(WE H).mono ?_⟩⟩;rintro e w7 ⟨rfl,z⟩;exact⟨_,rfl,rfl,KF.loose (J _ _ z)⟩
theorem X7 (f:Tab W) (t:¬F 0) (h:ai (KO b) W w F k) (bS c aA:Int):Cx 300 #[pt b,I bS,I c,I aA] w λe w'=>e=Z (.bool (nI k bS c aA))/\ai (KO b) W w' F (jA k bS c aA):=by
 obtain⟨q,i⟩:=KO.fix h;have hB:=KF.ax i;refine ahI ?_;have bne:∀x:Int,(x !=0)=decide (x≠0):=λx=>by by_cases y:x=0<;>simp[y]
 refine⟨λg=>?_,λg=>⟨λg1=>?_,λg1=>⟨λj=>?_,λj=>⟨λl=>?_,λl=>⟨λm=>?_,λm=>⟨λo=>?_,λo=>⟨λp=>?_,λp=>⟨λr=>?_,λr=>?_⟩⟩⟩⟩⟩⟩⟩⟩
 ·have g:bS=1:=by simpa using g
  subst g;refine⟨_,rfl,_,hB.cell rfl,⟨(Dq k.ac c w).mono ?_⟩⟩;rintro e w1 ⟨rfl,rfl⟩;exact⟨_,rfl,_,rfl,hB.wr (k:=17) (by simp[lN]) λz s=>⟨rfl,KF.loose (KF.row i (k.n,k.on,ls k.ac c,k.now,k.lim) rfl s)⟩⟩
 ·have g1:bS=2:=by simpa using g1
  subst g1;refine⟨(XZ f t h c).mono ?_⟩;rintro e w1 ⟨rfl,a⟩;exact⟨_,rfl,rfl,a⟩
 ·have j:bS=3:=by simpa using j
  subst j;obtain⟨F1,hA,d⟩:=KF.tm i;refine⟨_,rfl,_,hB.aE rfl,⟨(aeq hA c aA).mono ?_⟩⟩;rintro e w1 ⟨rfl,a⟩;exact⟨_,_,rfl,by rw[bne];rfl,KF.loose (d _ _ a)⟩
 ·have l:bS=4:=by simpa using l
  subst l;obtain⟨F1,hA,d⟩:=KF.wk i;refine⟨_,rfl,_,hB.aE rfl,⟨(ajI hA c).mono ?_⟩⟩;rintro e w1 ⟨rfl,a⟩;exact⟨_,_,rfl,by rw[bne];rfl,KF.loose (d _ _ a)⟩
 ·have m:bS=5:=by simpa using m
  subst m;obtain⟨F1,hA,d⟩:=KF.ca i;refine⟨_,rfl,_,hB.aE rfl,⟨(Vl hA c aA).mono ?_⟩⟩;rintro e w1 ⟨rfl,a⟩;exact⟨_,_,rfl,by rw[bne];rfl,KF.loose (d _ _ a)⟩
 ·have o:bS=6:=by simpa using o
  subst o;refine⟨(X5 f t h c aA).mono ?_⟩;rintro e w1 ⟨rfl,a⟩;exact⟨_,rfl,rfl,a⟩
 ·have p:bS=7:=by simpa using p
  subst p;obtain⟨F1,hA,d⟩:=KF.st i;refine⟨_,rfl,_,hB.aE rfl,⟨(MX hA c).mono ?_⟩⟩;rintro e w1 ⟨rfl,a⟩;exact⟨_,_,rfl,rfl,KF.loose (d _ _ a)⟩
 ·have r:bS=8:=by simpa using r
  subst r;obtain⟨F1,cC,hA,d⟩:=KF.sc i;refine⟨_,rfl,_,hB.aE rfl,⟨(abX hA c aA).mono ?_⟩⟩;rintro e w1 ⟨rfl,a⟩;exact⟨_,rfl,rfl,KF.loose (d _ _ a)⟩
 ·have A:nI k bS c aA=ah:=by
   unfold nI;simp only[beq_eq_false_iff_ne,ne_eq]at g g1 j l m o;rw[af g,af g1,af j,af l,af m,af o]
  have B:jA k bS c aA={k with on:=ls k.on c,co:=jw k.co c ae}:=by
   unfold jA;simp only[beq_eq_false_iff_ne,ne_eq]at g g1 j l m o p r;rw[af g,af g1,af j,af l,af m,af o,af p,af r]
  rw[A,B];refine⟨_,rfl,_,hB.cell rfl,⟨(Dq k.on c w).mono ?_⟩⟩;rintro e w1 ⟨rfl,rfl⟩;refine⟨_,rfl,_,rfl,hB.wr (k:=16) (by simp[lN]) λz s=>?_⟩;have u:=KF.row i (k.n,ls k.on c,k.ac,k.now,k.lim) rfl s;obtain⟨F1,hA,d⟩:=KF.co u;refine⟨_,rfl,_,(KF.ax u).aE rfl,⟨(FZ hA c ae).mono ?_⟩⟩;rintro e C ⟨⟨n,rfl⟩,a⟩;exact⟨_,rfl,rfl,KF.loose (d _ _ a)⟩
theorem Yo (a:Tab W) (n:¬F 0) (h:ai (KO b) W w F k) (s:Int×Bool×Bool) (c aA:Int):Cx 209 #[pt b,.agg #[I s.1,.bool s.2.1,.bool s.2.2],I c,I aA] w λe w'=>e=Z (.bool (sR k s c aA))/\ai (KO b) W w' F (ib k s c aA):=by
 refine agm ?_;refine⟨λw1 o=>?_⟩;have j:=h.ak (o.ak no);have f:=o.aK;obtain⟨q,l⟩:=KO.fix j;have hB:=KF.ax l;obtain⟨F1,hA,_⟩:=KF.dk l;unfold sR ib;refine⟨_,rfl,_,hB.aE rfl,⟨(N5 hA).mono ?_⟩⟩;rintro e t ⟨rfl,rfl⟩;refine⟨_,rfl,_,f.cell rfl,λg=>⟨_,f.cell rfl,⟨(Yu j _ _ c).mono ?_⟩⟩,λg=>⟨_,f.cell rfl,λg1=>?_,λg1=>⟨λi=>⟨_,f.cell rfl,⟨(XW a n j _ c).mono ?_⟩⟩,λi=>⟨_,f.cell rfl,⟨(X7 a n j _ c aA).mono ?_⟩⟩⟩⟩⟩
 ·have g:s.2.1=ah:=g;rw[ar g,ar g];rintro e m ⟨rfl,d⟩;exact⟨rfl,rfl,d⟩
 all_goals have g:¬s.2.1=ah:=by simpa using g
 all_goals rw[af g,af g]
 ·have g1:s.1=0:=by simpa using g1
  rw[ar g1,ar g1];obtain⟨F2,p,r⟩:=KF.ga l;refine⟨_,rfl,_,hB.aE rfl,⟨(W7 p).mono ?_⟩⟩;rintro e m ⟨rfl,d⟩;exact⟨_,rfl,by rfl,KF.loose (r _ _ d)⟩
 all_goals have g1:¬s.1=0:=by simpa using g1
 all_goals rw[af g1,af g1]
 ·rw[ar i,ar i];rintro e m ⟨rfl,d⟩;exact⟨rfl,rfl,d⟩
 ·rw[af (by rw[i];decide),af (by rw[i];decide)];rintro e m ⟨rfl,d⟩;exact⟨_,rfl,rfl,d⟩
theorem Yt (f:Tab W) (G:¬F 0) (h:ai (KO b) W w F k) (aA:Int):Cx 119 #[pt b,I aA] w (eM (KO b) W F (nQ k aA) (Ev k aA)):=by
 obtain⟨q,C⟩:=KO.fix h;have hB:=KF.ax C;obtain⟨F1,hA,H⟩:=KF.dk C;refine ae1 ?_;refine⟨_,rfl,_,hB.aE rfl,⟨(N1 hA).mono ?_⟩⟩;rintro e w1 ⟨rfl,rfl⟩;refine⟨_,rfl,_,rfl,_,hB.aE rfl,⟨(Xh hA).mono ?_⟩⟩;rintro e D ⟨rfl,J⟩;have L:=KF.loose (H _ _ J);refine⟨_,_,_,_,rfl,⟨λM E=>?_⟩⟩;have d:ai (aF (KO b) (Lb D.heap.size 303)) W M F ({k with dk:=rh k.dk},[I 0,.bool ae,.bool ae]):=L.add (E.ak no) (Rw.new E rfl) (λi hi=>bG hi.symm);generalize D.heap.size=p at d⊢;refine lP (vs:=[I (iP k.dk).1.1,.bool (iP k.dk).1.2.1,.bool (iP k.dk).1.2.2]) d (by rfl) λS d=>?_;have m:=cE d
 have last:∀(n:World),ai (KO b) W n F (gR k aA)->aP Tryz.prog vC yV (zp (aa ⟨b,0,ag⟩) (fZ k.dk)) n (zH (eM (KO b) W F (nQ k aA) (Ev k aA))):=by
  intro n N;refine aP.mk ?_;rw[acE];obtain⟨O,a⟩:=KO.fix N;obtain⟨F5,c,_⟩:=KF.dk a;unfold nQ Ev;refine⟨_,rfl,_,(KF.ax a).aE rfl,⟨(Hw c).mono ?_⟩⟩;rintro e P ⟨rfl,o⟩;replace a:=a.ak o;refine⟨_,rfl,λg=>?_,λg=>?_⟩
  ·have g:mB (gR k aA).dk=ae:=by simpa using g
   rw[g];exact eM.nil (KF.loose a)
  ·have g:mB (gR k aA).dk=ah:=by simpa using g
   rw[g];obtain⟨F7,r,s⟩:=KF.dk a;refine⟨_,rfl,_,(KF.ax a).aE rfl,⟨(Xe r g).mono ?_⟩⟩;rintro e T ⟨rfl,t⟩;have j:=s _ _ t;obtain⟨F8,Q,R⟩:=KF.ga j;refine⟨_,_,rfl,_,rfl,_,(KF.ax j).aE rfl,⟨(WL Q).mono ?_⟩⟩;rintro e U ⟨rfl,u⟩;refine⟨_,rfl,⟨λV y=>eM.one (KF.loose (R _ _ u)) y⟩⟩
 refine⟨_,m.cell rfl,λg=>?_,λg=>?_⟩
 ·have g:(iP k.dk).1.2.2=ae:=by simpa using g
  refine⟨_,m.cell rfl,_,m.cell rfl,_,m.cell rfl,⟨(Yo f G d.drop (iP k.dk).1 (fZ k.dk) aA).mono ?_⟩⟩;rintro e n ⟨rfl,l⟩;refine⟨_,rfl,λz=>?_,λz=>?_⟩
  ·obtain⟨O,a⟩:=KO.fix l;obtain⟨F5,c,A⟩:=KF.dk a;refine⟨_,rfl,_,(KF.ax a).aE rfl,⟨(Xc c).mono ?_⟩⟩;rintro e P ⟨⟨x,rfl⟩,B⟩;refine⟨_,rfl,last _ ?_⟩;have:=KF.loose (A _ _ B);unfold gR
   dsimp only
   rw[af (by rw[g];decide),ar z];exact this
  ·refine last _ ?_;unfold gR
   dsimp only
   rw[af (by rw[g];decide),af (by rw[z];decide)];exact l
 ·have g:(iP k.dk).1.2.2=ah:=by simpa using g
  refine last _ ?_;unfold gR
  dsimp only
  rw[ar g];exact d.drop
end
theorem HJ {gr:Int} {g p p1:Nat} {w:World} {R:Ending->World->Prop} (a:iM Tryz.prog g=ah) (c:gr=0->Cx g #[pt p,pt p1] w λe w'=>e=Z (.tuple #[])/\R (.returned (I gr)) w') (d:gr≠0->R (.returned (I gr)) w):Cx 135 #[I gr,.func (.func g) #[] #[pt p,pt p1]] w R:=by
 refine afh ?_;refine⟨λh=>?_,λh=>d (by simpa using h)⟩;rw[a];exact⟨c (by simpa using h)⟩
section
variable {b:Nat} {W w:World} {F:Fp} {k:K} {p p1:Nat} {T T1:TypeId} {e:cJ}
theorem XR (a:Tab W) (g:¬F 0) (s:1<=k.n) (h:ai (aF (aF (KO b) (Lb p T)) (Lb p1 T1)) W w F ((k,[pt b]),j0 e)):Cx 137 #[pt p,pt p1] w λd w'=>d=Z (.tuple #[])/\ai (KO b) W w' F (iy k e.2.2.1 (eO e.2.2.1 k.n)):=by
 refine afj ?_;intro w1 i j l m;replace h:=h.ak (au.same no i j l m);obtain⟨q,F1,_,o,_⟩:=yx.fix h;have f:=jz h;have c:=cE h;refine⟨_,f.b9 rfl,_,c.cell rfl,_,c.cell rfl,_,f.b9 rfl,_,rfl,_,(KF.ax o).cell rfl,(show((k.n:Nat):Int)≠0 by omega),⟨(HK a g h.drop.drop e.2.2.1 _).mono ?_⟩⟩;rintro d t ⟨rfl,r⟩;exact⟨rfl,rfl,r⟩
theorem XS (h:ai (aF (aF (KO b) (Lb p T)) (Lb p1 T1)) W w F ((k,[pt b]),j0 e)):Cx 140 #[pt p,pt p1] w λc w'=>c=Z (.tuple #[])/\ai (KO b) W w' F {k with rt:=pY k.rt e.2.2.1}:=by
 refine afm ?_;intro w1 f g i j;replace h:=h.ak (au.same no f g i j);obtain⟨q,F1,_,d,l⟩:=yx.fix h;obtain⟨F2,hA,m⟩:=KF.rt d;have n:=jz h;have a:=cE h;refine⟨_,n.b9 rfl,_,rfl,_,(KF.ax d).aE rfl,_,a.cell rfl,⟨(Z2 hA e.2.2.1).mono ?_⟩⟩;rintro c r ⟨rfl,o⟩;exact⟨_,rfl,rfl,(l _ _ (m _ _ o)).drop.drop⟩
theorem XT (a:Tab W) (f:¬F 0) (h:ai (aF (aF (KO b) (Lb p T)) (Lb p1 T1)) W w F ((k,[pt b]),j0 e)):Cx 143 #[pt p,pt p1] w λd w'=>d=Z (.tuple #[])/\ai (KO b) W w' F (iF k e.2.2.1):=by
 refine afp ?_;have g:=jz h;have c:=cE h;refine⟨_,g.b9 rfl,_,c.cell rfl,⟨(Pu a f h.drop.drop e.2.2.1).mono ?_⟩⟩;rintro d j ⟨rfl,i⟩;exact⟨rfl,rfl,i⟩
theorem aa5 {s:cg} {n:Int} {m:BV} (h:k8 s n m=0):0<=n:=by
 unfold k8 at h;by_cases a:jF n
 ·rw[ar a]at h;cases h
 ·unfold jF at a;omega
theorem xn (s:Tab W) (A:¬F 0) (E:1<=k.n) (h:ai (KO b) W w F k) (e:cJ):Cx 67 #[pt b,.agg (j0 e).toArray] w λo w'=>o=Z (I (q9 k e))/\ai (KO b) W w' F (ra k e):=by
 refine u67 ?_;refine⟨λw1 B=>⟨λG y=>?_⟩⟩;have a:ai (aF (aF (KO b) (Lb w.heap.size 23)) (Lb w1.heap.size 33)) W G F ((k,[pt b]),j0 e):=(h.add (B.ak no) (Rw.new B rfl) (λi hi=>bG hi.symm)).add (y.ak no) (Rw.new y rfl) (λi hi=>bG hi.symm);generalize w.heap.size=p at a⊢;generalize w1.heap.size=p1 at a⊢;unfold q9 ra;refine⟨_,(cE a).cell rfl,λg=>?_,λg=>⟨λg1=>?_,λg1=>⟨λc=>?_,λc=>⟨λf=>?_,λf=>⟨λr=>?_,λr=>?_⟩⟩⟩⟩⟩
 all_goals
  intro N H J L M;have a:=a.ak (au.same no H J L M);obtain⟨q,F1,_,C,t⟩:=yx.fix a;obtain⟨F2,hA,u⟩:=KF.ir C;have x:=jz a;have d:=cE a;have hB:=KF.ax C
 ·have g:e.1=12:=by simpa using g
  rw[ar g,ar g];refine⟨_,x.b9 rfl,_,rfl,_,hB.aE rfl,_,d.cell rfl,_,d.cell rfl,⟨(aa7 hA e.2.2.1 e.2.2.2.1).mono ?_⟩⟩;rintro o z ⟨rfl,m⟩;have a:=t _ _ (u _ _ m);refine⟨_,rfl,⟨HJ (by kernel_rfl) (λl=>?_) (λl=>?_)⟩⟩
  ·refine(XR (k:={k with ir:=lT k.ir e.2.2.1 e.2.2.2.1}) s A E a).mono ?_;rintro o D ⟨rfl,j⟩;rw[ar l];rw[px (aa5 l)]at j;exact⟨rfl,_,rfl,rfl,j⟩
  ·rw[af l];exact⟨_,rfl,rfl,a.drop.drop⟩
 ·have g:¬e.1=12:=by simpa using g
  have g1:e.1=13:=by simpa using g1
  rw[af g,ar g1,af g,ar g1];refine⟨_,x.b9 rfl,_,rfl,_,hB.aE rfl,_,d.cell rfl,⟨(WD hA e.2.2.1).mono ?_⟩⟩;rintro o z ⟨rfl,m⟩;have a:=t _ _ (u _ _ m);refine⟨_,rfl,⟨HJ (by kernel_rfl) (λl=>?_) (λl=>?_)⟩⟩
  ·refine(XS a).mono ?_;rintro o D ⟨rfl,j⟩;rw[ar l];exact⟨rfl,_,rfl,rfl,j⟩
  ·rw[af l];exact⟨_,rfl,rfl,a.drop.drop⟩
 ·have g:¬e.1=12:=by simpa using g
  have g1:¬e.1=13:=by simpa using g1
  have c:e.1=14:=by simpa using c
  rw[af g,af g1,ar c,af g,af g1,ar c];refine⟨_,x.b9 rfl,_,rfl,_,hB.aE rfl,_,d.cell rfl,_,d.cell rfl,⟨(Tc hA e.2.2.1 e.2.2.2.1).mono ?_⟩⟩;rintro o z ⟨rfl,m⟩;have a:=t _ _ (u _ _ m);refine⟨_,rfl,⟨HJ (by kernel_rfl) (λl=>?_) (λl=>?_)⟩⟩
  ·refine(XT s A a).mono ?_;rintro o D ⟨rfl,j⟩;rw[ar l];exact⟨rfl,_,rfl,rfl,j⟩
  ·rw[af l];exact⟨_,rfl,rfl,a.drop.drop⟩
 ·have g:¬e.1=12:=by simpa using g
  have g1:¬e.1=13:=by simpa using g1
  have c:¬e.1=14:=by simpa using c
  have f:e.1=15:=by simpa using f
  rw[af g,af g1,af c,ar f,af g,af g1,af c,ar f];refine⟨_,x.b9 rfl,_,rfl,_,hB.aE rfl,_,d.cell rfl,⟨(Xn hA e.2.2.1).mono ?_⟩⟩;rintro o z ⟨rfl,m⟩;exact⟨_,rfl,rfl,(t _ _ (u _ _ m)).drop.drop⟩
 ·have g:¬e.1=12:=by simpa using g
  have g1:¬e.1=13:=by simpa using g1
  have c:¬e.1=14:=by simpa using c
  have f:¬e.1=15:=by simpa using f
  have r:e.1=16:=by simpa using r
  rw[af g,af g1,af c,af f,ar r,af g,af g1,af c,af f,ar r];refine⟨_,x.b9 rfl,_,rfl,_,hB.aE rfl,_,d.cell rfl,⟨(ai8 hA e.2.2.1).mono ?_⟩⟩;rintro o z ⟨rfl,m⟩;exact⟨_,rfl,rfl,(t _ _ (u _ _ m)).drop.drop⟩
 ·have g:¬e.1=12:=by simpa using g
  have g1:¬e.1=13:=by simpa using g1
  have c:¬e.1=14:=by simpa using c
  have f:¬e.1=15:=by simpa using f
  have r:¬e.1=16:=by simpa using r
  rw[af g,af g1,af c,af f,af r,af g,af g1,af c,af f,af r];refine⟨_,x.b9 rfl,_,rfl,_,hB.aE rfl,_,d.cell rfl,⟨(aaZ hA e.2.2.1).mono ?_⟩⟩;rintro o z ⟨rfl,m⟩;exact⟨_,rfl,rfl,(t _ _ (u _ _ m)).drop.drop⟩
end
theorem mU.at {p:Option Addr} {c n:Nat} {w:World} {F:Fp} (h:mU p c w F n) {i:Nat} (hi:i<n):∃a bi F1,p=aa a/\w.cell? (a.add (i*1))=aa (pt bi)/\nS bi w F1 ()/\∀w',ai (nS bi) w w' F1 ()->ai (mU p c) w w' F n:=by
 obtain⟨d,r,m⟩:=h;have g:i<d.length:=by omega
 obtain⟨G1,s,_⟩:=aF.left m;obtain⟨G2,t,k2⟩:=aF.right m;obtain⟨a,u,x⟩:=s.2.cells.ck (f:=gY) (l:=d) g;obtain⟨F1,y,_,z⟩:=Fam.at t g;refine⟨a,d[i].1,F1,u,x,y,λw' A=>?_⟩;have o:=k2 _ _ (z w' (d[i].1,()) A)
 have e:d.set i (d[i].1,())=d:=by
  apply cT;intro j;rw[cB];by_cases q:i=j
  ·subst q;simp[g]
  ·simp[q]
 simp only[e]at o;obtain⟨B,C,D⟩:=o;exact⟨B,⟨d,r,C⟩,D⟩
section
variable {b:Nat} {W w:World} {F:Fp} {k:K}
theorem Ya (h:ai (KO b) W w F k) {i:Nat} (hi:i<k.n) (x:oW) (N:0<=x.1.cA/\x.1.cA<4) (t:Int):Cx 123 #[pt b,I (i:Int),.agg (fD x).toArray,I t] w λe w'=>e=Z (.tuple #[])/\ai (KO b) W w' F k:=by
 refine ae5 ?_;refine⟨λw1 L=>?_⟩;have c:ai (aF (KO b) (Lb w.heap.size 226)) W w1 F (k,fD x):=h.add (L.ak no) (Rw.new L rfl) (λi hi=>bG hi.symm);generalize w.heap.size=p at c⊢;obtain⟨q,F1,_,M,O⟩:=KS.fix c;obtain⟨F2,hA,P⟩:=KF.co M;refine⟨_,rfl,_,(KF.ax M).aE rfl,⟨(VE hA (i:Int)).mono ?_⟩⟩;rintro e w2 ⟨⟨Q,R,n3,rfl⟩,S⟩;replace c:=O _ _ (P _ _ S);obtain⟨q2,F3,_,s,z⟩:=KS.fix c;obtain⟨F4,T,U⟩:=KF.Hu s;obtain⟨a,bi,F5,V,X,Y,kV⟩:=T.at hi;refine⟨_,_,_,rfl,_,rfl,_,_,_,(KF.ax s).aE rfl,⟨by omega,(show((i:Nat):Int)<(k.n:Int) by omega)⟩,a,V,_,X,⟨(Wk Y Q R).mono ?_⟩⟩;rintro e w3 ⟨⟨m1,m2,rfl⟩,A⟩;replace c:=z _ _ (U _ (kV _ A));have B:=cE c;refine⟨_,_,rfl,_,B.cell rfl,λg=>?_,λg=>?_⟩
 ·intro w4 q1 C q3 q4;replace c:=c.ak (au.same no q1 C q3 q4);have f:=cE c;obtain⟨q5,F6,_,d,l⟩:=KS.fix c;have u:=KF.ax d;refine⟨_,rfl,_,u.aE rfl,_,f.cell rfl,_,f.cell rfl,⟨(Oj w4).mono ?_⟩⟩;rintro e w5 ⟨⟨pt,rfl,hW⟩,m⟩;have y:=f.ak m (λh=>h);have D:=u.ak m (λh=>h);obtain⟨F7,E,G⟩:=KF.me (d.ak m);obtain⟨wi,H,J⟩:∃wi:Nat,wi<4/\x.1.cA=(wi:Int):=⟨x.1.cA.toNat,by omega,by omega⟩;have o:=Jr hW H (j:=2) (by omega);refine⟨_,_,_,rfl,y.cell rfl,y.cell rfl,D.aE rfl,⟨N.1,(show x.1.cA<((4:Nat):Int) by omega)⟩,pt,rfl,_,by rw[J,bK];exact o,⟨(Zd E hi _ t _).mono ?_⟩⟩;rintro e w6 ⟨⟨mm,rfl⟩,r⟩;exact⟨_,rfl,rfl,(l _ _ (G _ r)).drop⟩
 ·obtain⟨q5,F6,_,d,l⟩:=KS.fix c;obtain⟨F7,E,G⟩:=KF.me d;refine⟨_,rfl,_,(KF.ax d).aE rfl,⟨(Ze E hi t m1).mono ?_⟩⟩;rintro e w6 ⟨⟨mm,rfl⟩,r⟩;exact⟨_,rfl,rfl,(l _ _ (G _ r)).drop⟩
theorem Yr (h:ai (KO b) W w F k) (n:Int):Cx 63 #[pt b,I n] w λe w'=>e=Z (I (Eo k n))/\ai (KO b) W w' F (sV k n):=by
 obtain⟨q,E⟩:=KO.fix h;have hB:=KF.ax E;refine u63 ?_;unfold Eo sV;refine⟨_,rfl,_,hB.cell rfl,⟨(HL k.now n w).mono ?_⟩⟩;rintro e w1 ⟨rfl,rfl⟩;refine⟨_,_,rfl,λg=>?_,λg=>?_⟩
 ·have g:(bC k.now n).2≠0:=by simpa using g
  rw[af g,af g];exact⟨rfl,h⟩
 ·have g:(bC k.now n).2=0:=by simpa using g
  rw[ar g,ar g];refine⟨_,rfl,_,hB.cell rfl,⟨bJ bA (M:=vK) (σ:=Nat) (λi=>GU (aa ⟨b,0,ag⟩) n (bC k.now n).1 (k.n:Int) (i:Int)) (λi w'=>i<=k.n/\ai (KO b) W w' F k) (λi _=>k.n-i) 0 ⟨rfl,rfl,rfl,rfl,rfl,trivial⟩ ⟨cZ _,h⟩ ?_⟩⟩;rintro i H ⟨hi,x⟩;obtain⟨J,a⟩:=KO.fix x;have f:=KF.ax a;rw[adJ];refine⟨λg1=>?_,λg1=>aP.mk ?_⟩
  ·have g1:=aO g1;have l:i<k.n:=by omega
   obtain⟨F2,hA,L⟩:=KF.co a;have j:=hA.cA (i:Int);have y:=(KF.num a).2;refine⟨_,rfl,_,f.aE rfl,⟨(FO hA (i:Int)).mono ?_⟩⟩;rintro e m ⟨⟨z,A,rfl⟩,o⟩;refine⟨_,_,_,_,_,_,_,rfl,⟨λB C=>?_⟩⟩;have d:ai (aF (KO b) (Lb m.heap.size 226)) W B F (k,_):=(x.ak o).add (C.ak no) (Rw.new C rfl) (λi hi=>bG hi.symm);generalize m.heap.size=p at d⊢;refine lP (vs:=fD (cm k.co (i:Int),z,A)) d (by rfl) λN d=>?_;have c:=cE d;refine⟨_,c.cell rfl,λO=>⟨_,c.cell rfl,_,c.cell rfl,_,c.cell rfl,_,c.cell rfl,_,c.cell rfl,_,c.cell rfl,⟨(Ya d.drop l (cm k.co (i:Int),z,A) j n).mono ?_⟩⟩,λ_=>⟨i+1,⟨rfl,rfl,rfl,rfl,by rw[aN (by omega)];rfl,trivial⟩,⟨by omega,d.drop⟩,by omega⟩⟩;rintro e P ⟨rfl,r⟩;exact⟨rfl,i+1,⟨rfl,rfl,rfl,rfl,by rw[aN (by omega)];rfl,trivial⟩,⟨by omega,r⟩,by omega⟩
  ·rw[adI];refine⟨_,rfl,f.wr (k:=18) (by simp[lN]) λm G=>?_⟩;have D:=KF.row a (k.n,k.on,k.ac,(bC k.now n).1,k.lim) rfl G;obtain⟨F3,s,t⟩:=KF.tm D;refine⟨_,rfl,_,(KF.ax D).aE rfl,⟨(aei s _).mono ?_⟩⟩;rintro e B ⟨rfl,u⟩;exact⟨_,rfl,rfl,KF.loose (t _ _ u)⟩
theorem Yn (h:ai (KO b) W w F k) (c hi:Int):Cx 167 #[pt b,I c,I hi] w λe w'=>e=Z (I (Ee c hi))/\ai (KO b) W w' F k:=by
 obtain⟨q,d⟩:=KO.fix h;have hB:=KF.ax d;have l:=KF.num d;refine afN ?_;refine⟨_,rfl,q.gp,k.n,q.gc,hB.aE rfl,⟨bJ bA (M:=AY) (σ:=Nat) (λi=>Gh c hi (if i=0 then 0 else Ee c hi) q.gp k.n q.gc (k.n:Int) (i:Int)) (λi w'=>i<=k.n/\ai (KF b q) W w' F k) (λi _=>k.n-i) 0 ⟨rfl,rfl,rfl,rfl,rfl,rfl,trivial⟩ ⟨cZ _,d⟩ ?_⟩⟩;rintro i w1 ⟨o,m⟩;rw[acM];refine⟨λg=>?_,λg=>?_⟩
 ·have g:=aO g;have f:i<k.n:=by omega
  obtain⟨F1,p,r⟩:=KF.Hu m;obtain⟨a,bi,F5,s,t,u,x⟩:=p.at f;refine⟨⟨by omega,by omega⟩,a,s,_,t,⟨(WG u c hi).mono ?_⟩⟩;rintro e y ⟨rfl,j⟩;exact⟨_,rfl,i+1,⟨rfl,rfl,by rw[af (Nat.succ_ne_zero i)];rfl,rfl,rfl,by rw[aN (by omega)];rfl,trivial⟩,⟨by omega,r _ (x _ j)⟩,by omega⟩
 ·have g:=aV g;rw[af (by omega)];exact⟨rfl,KF.loose m⟩
end
abbrev Rd (l:Nat):Fence:=mw.inRound l
theorem U7 {l n:Nat} {P:Program} {f:FuncId} {args:Array Value} {w:World} {R:Ending->World->Prop} (h:Calls P f args w R):CallsIn (Rd l) n P f args w R:=(callsIn_wide (n:=n)).2 h
def vi (o:Oper):Bool:=match o.op with
 | .defer _=>ae
 | _=>ah
theorem ZR {o:Oper} (h:vi o=ah):∀c,o.op≠.defer c:=by
 intro c e;unfold vi at h;rw[e]at h;cases h
theorem abd {l n:Nat} {P:Program} {row:String} {args:Array Value} {w:World} {R:Value->World->Prop} (h:Rows P row args w R):RowsIn (Rd l) n P row args w R:=λc cs _=>
 let ⟨v,w',r,s⟩:=h c cs
 ⟨v,w',r,stepsIn_wide.2 s⟩
section
variable {l n:Nat} {P:Program}
theorem QQ {o:Oper} {a:Act} {w:World} {next next':Act->World->Prop} {Q:Exit->Act->World->Prop} (hd:vi o=ah) (c:∀a w,next a w->next' a w) (h:o.wp P a w next Q):o.wpIn (Rd l) n P a w next' Q:=by
 refine⟨λ_ _=>trivial,?_⟩;rw[Oper.semAt_plain (Rd l) _ _ (ZR hd)];unfold Oper.wp at h;generalize (execOp a.eval o).run P w=r at h
 cases r with
 | ok x w'=>
  cases x<;>simp only[Oper.upon,Oper.uponIn]at h⊢<;>
   first
    | exact c _ _ h
    | exact⟨λd=>absurd (show ae=ah from d) (by decide),U7 (Calls.mono h λe f b=>by cases e<;>first|exact c _ _ b|exact b)⟩
    | exact⟨λd=>absurd (show ae=ah from d) (by decide),abd (Rows.mono h λv f b=>c _ _ b)⟩
    | exact h.elim
 | halt x w'=>cases x<;>simp only[Oper.upon,Oper.uponIn]at h⊢<;>exact h
theorem HU {ops:Array Oper} {Q:Exit->Act->World->Prop} (b:¬LetsOut Q):∀(os:List Oper) (a:Act) (w:World),os.all vi=ah->wpList P ops Q os a w->wpListIn (Rd l) n P ops Q os a w
 | [],a,w,_,h=>h
 | o::os,a,w,hd,h=>by
  simp only[List.all_cons,br]at hd;unfold wpList at h;unfold wpListIn;split
  ·rename_i hw;rw[ar hw]at h;rcases h with h|h
   ·exact QQ hd.1 (λa w k=>HU b os a w hd.2 k) h
   ·exact absurd h.2 b
  ·rename_i hw;rw[af hw]at h;exact⟨λ_ _=>trivial,HU b os _ _ hd.2 h⟩
theorem BF {ops:Array Oper} {Q:Exit->Act->World->Prop} {md:Region.Mode} (e:¬LetsOut Q) (hd:ops.toList.all vi=ah):∀(fuel:Nat) (b:Array Bool) (a:Act) (w:World),wpAny P md ops Q fuel b a w->wpAnyIn (Rd l) n P md ops Q fuel b a w
 | 0,b,a,w,h=>h
 | fuel+1,b,a,w,h=>by
  refine⟨h.1,λi hi=>?_⟩;have c:=h.2 i hi;unfold wpOp at c;unfold wpOpIn;split
  ·rename_i d;rw[d]at c;exact BF e hd fuel _ _ _ c
  ·rename_i o d;rw[d]at c;simp only at c
   have f:vi o=ah:=gx.1 hd o (by
    rw[<-Array.getElem?_toList]at d;exact List.mem_of_getElem? d)
   split
   ·rename_i hw;rw[ar hw]at c;rcases c with c|c
    ·exact QQ f (λa w k=>BF e hd fuel _ a w k) c
    ·exact absurd c.2 e
   ·rename_i hw;rw[af hw]at c;exact⟨λ_ _=>trivial,BF e hd fuel _ _ _ c⟩
end
theorem PY {N:Nat} {K:dL}:¬LetsOut (HT N K):=λ⟨_,_,h⟩=>h
def nP:Mt->Code->Bool
 | _,.skip=>ah
 | M,.region id ops draw=>ops.toList.all vi&&(!draw||(zQ M.alts id).isNone)&&!M.ex
 | M,.seq a b=>nP M a&&nP M b
 | M,.cond _ a b=>nP M a&&nP M b
 | M,.block _ c=>nP M c
 | _,.exit _=>ah
 | _,.ret=>ah
 | _,_=>ae
theorem tv {P:Program} {M:Mt} (g:iz P=ah) {l n:Nat}:∀(c:Code) (E:Env) (w:World) (K:dL),nP M c=ah->den P M c E w K->∀a,bN M.N E a->c.wpIn (Rd l) n P (HT M.N K) a w
 | .skip,E,w,K,_,h,a,d=>wpIn_skip ⟨E,d,h⟩
 | .region id ops draw,E,w,K,hs,h,a,d=>by
  simp only[nP,br]at hs;obtain⟨⟨hd,A⟩,C⟩:=hs
  cases draw with
  | false=>
   exact wpIn_region_list (HU PY _ _ _ hd (D7 g rfl (K:=λi w'=>K .ff (i.keep (jB M.keep id)) w') (λi p w' k q=>⟨_,k.keep _,q⟩) _ _ _ _ d h))
  | true=>
   have D:P.follows .mixedOrders=ah:=by
    simp only[iz,br]at g;exact g.2
   simp only[den]at h
   have r:zQ M.alts id=ag:=by
    cases F:zQ M.alts id with
    | none=>rfl
    | some t=>rw[F]at A;cases A
   have u:M.ex=ae:=by simpa using C
   rw[r,u]at h
   exact wpIn_region_any D (BF PY hd _ _ _ _ (drawTQ_any g rfl (K:=λi w'=>K .ff (i.keep (jB M.keep id)) w') d (λi p w' k q=>⟨_,k.keep _,q⟩) h))
 | .seq x y,E,w,K,hs,h,a,d=>by
  simp only[nP,br]at hs;refine wpIn_seq (wpIn_mono (tv g x E w _ hs.1 h a d) (λex p w' j=>?_))
  cases ex with
  | normal=>
   obtain⟨i,m,e⟩:=j;simp only[cW,cU]at e;split at e
   ·exact tv g y _ w' K hs.2 e.out p (m.keep _)
   ·exact tv g y i w' K hs.2 e p m
  | exit n=>exact j
  | ret=>exact j
  | _=>exact j.elim
 | .cond c x y,E,w,K,hs,h,a,d=>by
  simp only[nP,br]at hs;obtain⟨b,o,h⟩:=MG h;refine wpIn_cond (d.ev c _ o) ?_
  have B:bN M.N (xJ M E c b) a:=by
   unfold xJ;split
   ·exact d
   ·split
    ·exact d.RA _ b (by simpa [bT]using o)
    ·exact d
  cases b with
  | true=>exact tv g x _ w K hs.1 h a B
  | false=>exact tv g y _ w K hs.2 h a B
 | .block id c,E,w,K,hs,h,a,d=>by
  refine wpIn_block (wpIn_mono (tv g c E w _ hs h a d) (λex p w' j=>?_))
  cases ex with
  | normal=>obtain⟨i,m,e⟩:=j;exact⟨_,m.keep _,e⟩
  | exit n=>
   obtain⟨i,m,e⟩:=j;simp only[Exit.inBlock];simp only[aW]at e;by_cases z:n=id
   ·subst z;rw[ar rfl];rw[uy]at e;exact⟨_,m.keep _,e⟩
   ·rw[af z]
    have o:dz n id=ae:=by
     cases o:dz n id with
     | false=>rfl
     | true=>exact absurd (iG o) z
    rw[o]at e
    exact⟨i,m,e⟩
  | ret=>exact j
  | _=>exact j.elim
 | .exit id,E,w,K,_,h,a,d=>wpIn_exit ⟨E,d,h⟩
 | .ret,E,w,K,_,h,a,d=>wpIn_ret ⟨E,d,h⟩
 | .loop c,E,w,K,hs,h,a,d=>by cases hs
 | .rangeFunc f G x y,E,w,K,hs,h,a,d=>by cases hs
 | .scope c,E,w,K,hs,h,a,d=>by cases hs
 | .label l,E,w,K,hs,h,a,d=>by cases hs
 | .goto l,E,w,K,hs,h,a,d=>by cases hs
 | .refuse s,E,w,K,hs,h,a,d=>by cases hs
def EU (B:Nat) (W a:World):Prop:=W.heap.size<=a.heap.size/\∀i,B<=i->i<W.heap.size->a.heap[i]?=W.heap[i]?
theorem ajD {P:Program} {M:Mt} (hP:iz P=ah) {g:Operand} {p1 p2:Tmp} {assign body:Code} {Q:Exit->Act->World->Prop} {E:Env} {a:Act} (C:bN M.N E a) {w:World} {gf:Nat} {lb:Array Value} {m:Nat}
  (hg:a.eval g=.func (.func gf) #[] lb) (eg:∀args w,(callFunc gf args).run P w=.ok (.enter gf args) w) {α:Type} (enc:α->Value×Value) (I Ix:List α->World->Prop) (Sx:List α->α->Prop) (Fin:List α->Prop) (E1:α->Env)
  (D:p1<M.N) (F:p2<M.N) (G:nP M assign=ah) (H:nP M body=ah)
  (hA:∀x W,den P M assign ((E.put p1 (.v (enc x).1)).put p2 (.v (enc x).2)) W (λex K f=>match ex with|.ff=>f=W/\K=E1 x|_=>False))
  (hB:∀pre x W,I pre W->Sx pre x->w.heap.size+2<=W.heap.size->den P M body (E1 x) W (λex K f=>match ex with|.ff=>I (pre++[x]) f/\EU w.heap.size W f|.ret=>Ix (pre++[x]) f/\EU w.heap.size W f|.exit _=>False))
  (hI:∀pre W o,I pre W->I pre (W.putObj (w.heap.size+1) o)) (hIx:∀pre W o,Ix pre W->Ix pre (W.putObj (w.heap.size+1) o))
  (hI0:∀r,I [] ((w.alloc (.deferred (aa []))).alloc (.loop r)))
  (hseq:∀(J Jx:List α->World->Prop) (W:World),(∀pre W,J pre W->I pre W)->(∀pre x W1,J pre W1->Sx pre x->YieldAt mw m P (w.heap.size+1) #[(enc x).1,(enc x).2] W1 λe f=>(e=.returned (.bool ah)/\J (pre++[x]) f)∨(e=.returned (.bool ae)/\Jx (pre++[x]) f))->J [] W->
   CallsIn mw (m+1) P gf (#[.func (.yield (w.heap.size+1)) #[] #[]]++lb) W λe f=>(∃v,e=.returned v)/\((∃xs,Fin xs/\J xs f)∨∃pre,Jx pre f))
  (hdone:∀xs W,Fin xs->I xs W->W.heap[w.heap.size]?=aa (.deferred (aa []))->Q .normal {a with defers:=[{target:=.collected w.heap.size,args:=#[]}]} W)
  (hstop:∀pre W,Ix pre W->W.heap[w.heap.size]?=aa (.deferred (aa []))->Q .ret {a with defers:=[{target:=.collected w.heap.size,args:=#[]}]} W) :
  (Code.rangeFunc g #[p1,p2] assign body).wpIn mw (m+2) P Q a w:=by
 refine wpIn_rangeFunc λfn L=>?_;obtain⟨rec,b⟩:∃rec:LoopState->Option Code->Loop,rec=λst pe=>{state:=st,pending:=pe,fn,tmps:=a.tmps,params:=#[p1,p2],assign,body,defers:=w.heap.size}:=⟨_,rfl⟩;obtain⟨W1,i⟩:∃W1,(w.alloc (.deferred (aa []))).alloc (.loop (rec .ready ag))=W1:=⟨_,rfl⟩
 have O:W1.heap[w.heap.size+1]?=aa (.loop (rec .ready ag)):=by
  rw[<-i];have:=World.alloc_heap_new (w.alloc (.deferred (aa []))) (.loop (rec .ready ag));rwa [World.size_alloc]at this
 have R:W1.heap[w.heap.size]?=aa (.deferred (aa [])):=by
  rw[<-i];have h2:=World.alloc_heap_new w (.deferred (aa []));have h3:w.heap.size<(w.alloc (.deferred (aa []))).heap.size:=by rw[World.size_alloc];omega
  rw[<-h2];simp only[World.alloc,Array.getElem?_push];rw[af];simp only[World.alloc,Array.size_push]at h3⊢;omega
 have S:I [] W1:=by rw[<-i];exact hI0 _
 refine⟨w.heap.size+1,[{target:=.collected w.heap.size,args:=#[]}],W1,{target:=.fn (.func gf) lb,args:=#[.func (.yield (w.heap.size+1)) #[] #[]]},W1,gf,#[.func (.yield (w.heap.size+1)) #[] #[]]++lb,W1,?_,?_,?_,?_,λhh=>absurd (show ae=ah from hh) (by decide),?_⟩
 ·rw[<-i,b];exact run_enterLoop_outer _ _ _ _ _
 ·simp only[resolve,hg];simp[go_sem]
 ·intro f' al;exact trivial
 ·simp[invoke,go_sem,eg]
 ·refine CallsIn.mono (hseq (λpre W=>I pre W/\W.heap[w.heap.size+1]?=aa (.loop (rec .ready ag))/\W.heap[w.heap.size]?=aa (.deferred (aa [])))
   (λpre W=>Ix pre W/\W.heap[w.heap.size+1]?=aa (.loop (rec .done (aa .ret)))/\W.heap[w.heap.size]?=aa (.deferred (aa []))) W1 (λ_ _ h=>h.1) ?_ ⟨S,O,R⟩) ?_
  ·rintro pre x W ⟨hi,q,y⟩ hx;have T:w.heap.size+1<W.heap.size:=(we.1 q).1;have hy:=run_yield (P:=P) (args:=#[(enc x).1,(enc x).2]) q (by rw[b];rfl);refine⟨_,_,_,_,hy,?_⟩;rw[b]at q⊢;refine roundIn_of_wpIn L ?_
   have U:bN M.N ((E.put p1 (.v (enc x).1)).put p2 (.v (enc x).2)) {tmps:=((#[p1,p2].zip #[(enc x).1,(enc x).2]).foldl (λt (p:Nat×Value)=>t.setIfInBounds p.1 p.2) a.tmps),defers:=[]}:=by
    have h1:=(C.put p1 D (.v (enc x).1)).put p2 F (.v (enc x).2);have h2:=h1.jb
    have e:((a.put (aa p1) (enc x).1).put (aa p2) (enc x).2)={tmps:=((#[p1,p2].zip #[(enc x).1,(enc x).2]).foldl (λt (p:Nat×Value)=>t.setIfInBounds p.1 p.2) a.tmps),defers:=[]}:=by
     have:=C.jb;simp[Act.put,this]
    rw[<-e];exact h1
   refine wpIn_mono (tv hP assign _ W _ G (hA x W) _ U) ?_;rintro ex a1 w1 j
   cases ex with
   | normal=>
    obtain⟨K,V,rfl,rfl⟩:=j;have hb:=run_beginRound (P:=P) q rfl;refine⟨_,hb,?_⟩;have z:(w1.putObj (w.heap.size+1) (.loop {rec .ready ag with state:=.busy})).heap[w.heap.size+1]?=aa (.loop {rec .ready ag with state:=.busy}):=World.putObj_heap_same T;have A:(w1.putObj (w.heap.size+1) (.loop {rec .ready ag with state:=.busy})).heap[w.heap.size]?=aa (.deferred (aa [])):=(yK (by omega)).trans y;rw[b]at z A;have k:(w1.putObj (w.heap.size+1) (.loop {rec .ready ag with state:=.busy})).heap.size=w1.heap.size:=by simp[World.putObj]
    rw[b]at k;refine wpIn_mono (tv hP body _ _ _ H (hB pre x _ (hI _ _ _ hi) hx (by rw[k];omega)) _ V) ?_
    have fin:∀(jump:Option Code) (W3:World),EU w.heap.size (w1.putObj (w.heap.size+1) (.loop {rec .ready ag with state:=.busy})) W3->
      (Instr.endRound (w.heap.size+1) jump).run P W3=.ok (.bool jump.isNone) (W3.putObj (w.heap.size+1) (.loop (rec (if jump.isNone then .ready else .done) jump)))/\
      (W3.putObj (w.heap.size+1) (.loop (rec (if jump.isNone then .ready else .done) jump))).heap[w.heap.size+1]?=aa (.loop (rec (if jump.isNone then .ready else .done) jump))/\
      (W3.putObj (w.heap.size+1) (.loop (rec (if jump.isNone then .ready else .done) jump))).heap[w.heap.size]?=aa (.deferred (aa [])):=λjump W3 c=>by
     rw[b]at c⊢;have d:=(c.2 (w.heap.size+1) (by omega) (by rw[k];omega)).trans z;have X:=(c.2 w.heap.size (b7 _) (by rw[k];omega)).trans A;have:=run_endRound (P:=P) jump d;exact⟨this,World.putObj_heap_same (we.1 d).1,(yK (by omega)).trans X⟩
    rintro ex a3 W3 d
    cases ex with
    | normal=>
     obtain⟨_,_,u,c⟩:=d;obtain⟨Y,Z,e3⟩:=fin ag W3 (by rw[b];exact c)
     exact⟨_,_,Y,.inl ⟨rfl,hI _ _ _ u,by rw[Z,b];rfl,e3⟩⟩
    | ret=>
     obtain⟨_,_,u,c⟩:=d;obtain⟨Y,Z,e3⟩:=fin (aa .ret) W3 (by rw[b];exact c)
     exact⟨_,_,Y,.inr ⟨rfl,hIx _ _ _ u,by rw[Z,b];rfl,e3⟩⟩
    | exit n=>obtain⟨_,_,B⟩:=d;exact B.elim
    | _=>exact d.elim
   | exit n=>obtain⟨_,_,B⟩:=j;exact B.elim
   | ret=>obtain⟨_,_,B⟩:=j;exact B.elim
   | _=>exact j.elim
  ·have s:=C.jb;rintro e W2 ⟨⟨v,rfl⟩,(⟨xs,hS,hi,q,y⟩|⟨pre,hi,q,y⟩)⟩
   ·refine⟨ag,_,by have:=run_endLoop (P:=P) q (by rw[b];simp);rw[b]at this;exact this,?_⟩;have:=hdone xs _ hS (hI _ _ (.loop {rec .ready ag with state:=.exhausted}) hi) ((yK (by omega)).trans y);rw[b]at this;simpa [s]using this
   ·refine⟨aa .ret,_,by have:=run_endLoop (P:=P) q (by rw[b];simp);rw[b]at this;exact this,?_⟩;refine wpIn_ret ?_;have:=hstop pre _ (hIx _ _ (.loop {rec .done (aa .ret)with state:=.exhausted}) hi) ((yK (by omega)).trans y);rw[b]at this;simpa [s]using this
theorem IK {P:Program} {N:Nat} {ops:Array Oper} {l:List Oper} {d:List Deferred} (j:iz P=ah) (k:ops.toList=l) {Q:Exit->Act->World->Prop} {K:Env->World->Prop}
  (m:∀E a w,bN N E a->K E w->Q .normal {a with defers:=d} w):∀(os:List Oper) (E:Env) (a:Act) (w:World),bN N E a->rv P N l os E w K->wpList P ops Q os {a with defers:=d} w
 | [],E,a,w,g,h=>m E a w g h
 | o::os,E,a,w,g,h=>by
  obtain⟨p,hs,h⟩:=CW k h;have e:=g.same hs;have c:∀(dst:Option Tmp) (v:Value),({a with defers:=d}:Act).put dst v={a.put dst v with defers:=d}:=λdst v=>by cases dst<;>rfl
  unfold wpList;rcases h with⟨h,b⟩|⟨h,b⟩
  ·have b:=b a (g.CU l o);unfold wantedAt at b;rw[ar b];refine .inl (QO j h {a with defers:=d} (e.reads o) _ Q (λs w' i=>?_));obtain⟨E2,f,i⟩:=DR i e;rw[c];exact IK j k m os E2 _ w' f i
  ·have b:=b a (g.CU l o);unfold wantedAt at b;rw[af (by rw[b];simp)];obtain⟨E2,f,i⟩:=DR h e;rw[c];exact IK j k m os E2 _ w f i
theorem S7 {N:Nat} {fn:Func} (c:fn.ntmps=N) {args:List Value} (hA:args.length<=N):bN N (iL 0 args) {tmps:=args.toArray++ph (fn.ntmps-args.toArray.size) undef,defers:=[]}:=by
 refine⟨by simp[c];omega,rfl,λt x d=>?_⟩;obtain⟨_,a⟩:=E9 args 0 t x d;simp only[Nat.sub_zero]at a;have b:t<args.length:=(dI.1 a).1;rw[wc (by simpa using b)];simpa using a
theorem au.DQ (W:World) (l:Nat) (o:Obj):au (λi=>i=l) W (W.putObj l o):=
 ⟨by simp[World.putObj],rfl,rfl,rfl,λi hi a=>yK (λe=>a e)⟩
def DM (Z:Env->World->Prop) (K:dL):dL:=λex E w=>match ex with
 | .ff=>Z E w
 | .ret=>K .ret E w
 | .exit n=>K (.exit n) E w
noncomputable def Fe:Code:=nt.sr.sr.sr.sr.sl.sl
noncomputable def Fb:Code:=match KB with|.rangeFunc _ _ a _=>a|c=>c
noncomputable def BH:Code:=match KB with|.rangeFunc _ _ _ b=>b|c=>c
noncomputable def BJ:Code:=Ud
noncomputable def yR:List Oper:=match BJ with|.seq (.region _ ops _) _=>ops.toList|_=>[]
noncomputable def Fc:Code:=.seq nt.sl (.seq nt.sr.sl (.seq nt.sr.sr.sl (.seq nt.sr.sr.sr.sl Fe)))
def wx:Mt:={kv with keep:=kv.keep.map λx=>if x.1=6 then(6,[1,2,5,8])else x}
theorem TF:nt=.seq nt.sl (.seq nt.sr.sl (.seq nt.sr.sr.sl (.seq nt.sr.sr.sr.sl (.seq (.seq Fe (.block 0 (.rangeFunc (.tmp 60) #[61,62] Fb BH))) BJ)))):=by kernel_rfl
theorem TD:BJ=.seq (.region 13 yR.toArray ae) .ret:=by kernel_rfl
theorem Kd:nP wx Fb=ah/\nP wx BH=ah:=⟨by kernel_rfl,by kernel_rfl⟩
theorem tbp (g:Option Addr) (w:World) (Z:Env->World->Prop) (R:Ending->World->Prop):den Tryz.prog kv Fc (iL 0 [(bo g)]) w (DM Z (jf Tryz.prog Tryz.f168.results.toList R)) =
(aI w [bo g] 23 λp w'=>aI w' [ay aY 0] 3 λp_1 w'=>∀(f:World),oc f=oc w'->od f=od w'->og f=og w'->oi f=oi w'->∃p_2,bf f p=aa (bo p_2)/\∃a,p_2=aa a/\∃p_3,bf f (bh (bh a 0) 1)=aa (bo p_3)/\∃p_4,bf f p=aa (bo p_4)/\∃a,p_4=aa a/\∃n,bf f (bh a 17)=aa (ay ef n)/\Call Tryz.prog 267 [bo p_3,ay ef n] f λe w'=>∃n n_1,e=cj (wa #[ay aY n,ay aY n_1])/\∀(d:World),oc d=oc w'->od d=od w'->og d=og w'->oi d=oi w'->∃p_5,bf d p=aa (bo p_5)/\∃a,p_5=aa a/\∃p_6,bf d (bh (bh a 0) 1)=aa (bo p_6)/\∃p_7,bf d p=aa (bo p_7)/\∃a_1,p_7=aa a_1/\∃n_2,bf d (bh a_1 17)=aa (ay ef n_2)/\(Call Tryz.prog 268 [bo p_6,ay ef n_2] d λe w'=>∃n_3 n_4,e=cj (wa #[ay aY n_3,ay aY n_4])/\aI w' [ay aY (0:Int)] 3 λp_8 w'=>bf w' (bh a_1 17)=aa (ay ef n_2)/\bf w' p=aa (bo p_7)/\bf w' (bh (bh a 0) 1)=aa (bo p_6)/\bf w' p=aa (bo p_5)/\Wr w' p_8 [ay aY n_3] λw'=>∀(b:World),oc b=oc w'->od b=od w'->og b=og w'->oi b=oi w'->∃p_9,bf b p=aa (bo p_9)/\∃a,p_9=aa a/\∃p_10,bf b (bh (bh a 0) 1)=aa (bo p_10)/\∃p_11,bf b p=aa (bo p_11)/\∃a,p_11=aa a/\∃p_12,bf b (bh (bh a 0) 1)=aa (bo p_12)/\∃n_5,bf b p_8=aa (ay aY n_5)/\Call Tryz.prog 14 [bo p_10,ay aY n] b λe w'=>∃n_6,e=cj (ay aY n_6)/\bf w' p_8=aa (ay aY n_5)/\bf w' (bh (bh a 0) 1)=aa (bo p_12)/\bf w' p=aa (bo p_11)/\Call Tryz.prog 14 [bo p_12,ay aY n_5] w' λe w'=>∃n_7,e=cj (ay aY n_7)/\(decide (aT aY (n_6-n_7)<(2:Int))=ah->Wr w' p_1 [ay aY (0:Int)] λw'=>∃n,bf w' p_1=aa (ay aY n)/\R (cj (ay aY n)) w')/\(decide (aT aY (n_6-n_7)<(2:Int))=ae->∃p_13,bf w' p=aa (bo p_13)/\∃a,p_13=aa a/\∃p_14,bf w' (bh (bh a 0) 1)=aa (bo p_14)/\Call Tryz.prog 88 [bo p_14,ay aY n] w' λe w'=>∃p_15 n c,e=cj (ft p_15 n c)/\Call Tryz.prog 269 [ft p_15 n c] w' λe w'=>∃v,e=cj v/\Z [(1,SV.v (bo (aa p))),(2,SV.v (bo (aa p_1))),(5,SV.v (bo (aa p_8))),(8,SV.un),(60,SV.v v),(62,SV.un)] w'))/\aI d [ay aY 0] 3 λp_8 w'=>bf w' (bh a_1 17)=aa (ay ef n_2)/\bf w' p=aa (bo p_7)/\bf w' (bh (bh a 0) 1)=aa (bo p_6)/\bf w' p=aa (bo p_5)/\Call Tryz.prog 268 [bo p_6,ay ef n_2] w' λe w'=>∃n_3 n_4,e=cj (wa #[ay aY n_3,ay aY n_4])/\Wr w' p_8 [ay aY n_3] λw'=>∀(b:World),oc b=oc w'->od b=od w'->og b=og w'->oi b=oi w'->∃p_9,bf b p=aa (bo p_9)/\∃a,p_9=aa a/\∃p_10,bf b (bh (bh a 0) 1)=aa (bo p_10)/\∃p_11,bf b p=aa (bo p_11)/\∃a,p_11=aa a/\∃p_12,bf b (bh (bh a 0) 1)=aa (bo p_12)/\∃n_5,bf b p_8=aa (ay aY n_5)/\Call Tryz.prog 14 [bo p_10,ay aY n] b λe w'=>∃n_6,e=cj (ay aY n_6)/\bf w' p_8=aa (ay aY n_5)/\bf w' (bh (bh a 0) 1)=aa (bo p_12)/\bf w' p=aa (bo p_11)/\Call Tryz.prog 14 [bo p_12,ay aY n_5] w' λe w'=>∃n_7,e=cj (ay aY n_7)/\(decide (aT aY (n_6-n_7)<(2:Int))=ah->Wr w' p_1 [ay aY (0:Int)] λw'=>∃n,bf w' p_1=aa (ay aY n)/\R (cj (ay aY n)) w')/\(decide (aT aY (n_6-n_7)<(2:Int))=ae->∃p_13,bf w' p=aa (bo p_13)/\∃a,p_13=aa a/\∃p_14,bf w' (bh (bh a 0) 1)=aa (bo p_14)/\Call Tryz.prog 88 [bo p_14,ay aY n] w' λe w'=>∃p_15 n c,e=cj (ft p_15 n c)/\Call Tryz.prog 269 [ft p_15 n c] w' λe w'=>∃v,e=cj v/\Z [(1,SV.v (bo (aa p))),(2,SV.v (bo (aa p_1))),(5,SV.v (bo (aa p_8))),(8,SV.un),(60,SV.v v),(62,SV.un)] w')):=by kernel_rfl
theorem tba (p1 p2 a:Addr) (v:Value) (i x:Int) (w:World) (K:dL):den Tryz.prog wx Fb ((Env.put ([(1,SV.v (bo (aa p1))),(2,SV.v (bo (aa p2))),(5,SV.v (bo (aa a))),(8,SV.un),(60,SV.v v),(62,SV.un)]:Env) 61 (SV.v (ay aY i))).put 62 (SV.v (ay aY x))) w K =
(K Ex.ff [(1,SV.v (bo (aa p1))),(2,SV.v (bo (aa p2))),(5,SV.v (bo (aa a))),(8,SV.v (ay aY x))] w):=by kernel_rfl
theorem tbr (p2:Addr) (w:World) (R:Ending->World->Prop):jf Tryz.prog Tryz.f168.results.toList R Ex.ret [(2,SV.v (bo (aa p2)))] w =
(∃n,bf w p2=aa (ay aY n)/\R (cj (ay aY n)) w):=by kernel_rfl
theorem tbt (p2:Addr) (w:World) (K:Env->World->Prop):rv Tryz.prog kv.N yR yR [(2,SV.v (bo (aa p2)))] w K =
(Wr w p2 [ay aY 0] λw'=>K [(2,SV.v (bo (aa p2)))] w'):=by kernel_rfl
theorem tbb (p1 p2 f:Addr) (x:Int) (w:World) (K:dL):den Tryz.prog wx BH [(1,SV.v (bo (aa p1))),(2,SV.v (bo (aa p2))),(5,SV.v (bo (aa f))),(8,SV.v (ay aY x))] w K =
(∃p,bf w p1=aa (bo p)/\∃a,p=aa a/\∃p,bf w (bh (bh a 0) 0)=aa (bo p)/\Call Tryz.prog 127 [bo p,ay aY x] w λe w'=>∃n n_1 n_2 b b_1 n_3 n_4,e=cj (wa #[kH #[ay aY n,ay ef n_1,ay aY n_2,fA b,fA b_1,ay aY n_3],ay aY n_4])/\aI w' [ay aY 0,ay ef 0,ay aY 0,fA ae,fA ae,ay aY 0] 250 λp w'=>Wr w' p [ay aY n,ay ef n_1,ay aY n_2,fA b,fA b_1,ay aY n_3] λw'=>∃n,bf w' (bh p 1)=aa (ay ef n)/\∃n_5,bf w' f=aa (ay aY n_5)/\Call Tryz.prog 23 [ay ef n,ay aY n_5] w' λe w'=>∃b,e=cj (fA b)/\((!b)=ah->K Ex.ff [] w')/\((!b)=ae->∃p_1,bf w' p1=aa (bo p_1)/\∃a,p_1=aa a/\∃p_2,bf w' (bh (bh a 0) 1)=aa (bo p_2)/\Call Tryz.prog 237 [bo p_2,ay aY x] w' λe w'=>∃n,e=cj (ay aY n)/\∀(d:World),oc d=oc w'->od d=od w'->og d=og w'->oi d=oi w'->∃p_3,bf d p1=aa (bo p_3)/\∃a,p_3=aa a/\∃p_4,bf d (bh (bh a 0) 0)=aa (bo p_4)/\∃n,bf d f=aa (ay aY n)/\Call Tryz.prog 234 [bo p_4,ay aY x,ay aY n,fA ae] d λe w'=>∃n,e=cj (ay aY n)/\∀(c:World),oc c=oc w'->od c=od w'->og c=og w'->oi c=oi w'->∃p_5,bf c p1=aa (bo p_5)/\∃a,p_5=aa a/\∃p_6,bf c (bh (bh a 0) 1)=aa (bo p_6)/\∃n,bf c f=aa (ay aY n)/\∃n_6,bf c (bh p 0)=aa (ay aY n_6)/\Call Tryz.prog 235 [bo p_6,ay aY n,ay aY n_6,ay aY x] c λe w'=>∃n,e=cj (ay aY n)/\Wr w' p2 [ay aY x] λw'=>K Ex.ret [(2,SV.v (bo (aa p2)))] w')):=by kernel_rfl
inductive FK where
 | int (k:IntKind)
 | bool
def Fits:List FK->List Value->Prop
 | [],[]=>True
 | .int k::a,.int b n::vs=>b=k/\(Lit.int k n).wf=ah/\Fits a vs
 | .bool::a,.bool _::vs=>Fits a vs
 | _,_=>False
def xA (P:Program) (t:TypeId):FK->Bool
 | .int k=>match P.underlying t with
  | some (.int a)=>decide (a=k)
  | _=>ae
 | .bool=>match P.underlying t with
  | some .bool=>ah
  | _=>ae
def xa (P:Program):Nat->List Field->List FK->Bool
 | _,[],[]=>ah
 | i,f::a,k::b=>decide (f.offset=i)&&decide (P.cellsOf f.type=1)&&xA P f.type k&&xa P (i+1) a b
 | _,_,_=>ae
theorem Z4 {P:Program} {t:TypeId} {k:IntKind} (h:xA P t (.int k)=ah):P.underlying t=aa (.int k):=by
 simp only[xA]at h;split at h
 ·rename_i a hu;obtain rfl:a=k:=by simpa using h
  exact hu
 ·cases h
theorem Z3 {P:Program} {t:TypeId} (h:xA P t .bool=ah):P.underlying t=aa .bool:=by
 simp only[xA]at h;split at h
 ·assumption
 ·cases h
section
variable {H:Type} {enc:TypeId×Value->H} {P:Program} {w:World} {base:Nat} {spare:Nat->Bool} {held:Bool}
theorem Z8 {e:TypeId} {k:FK} {n:Nat} {cs:List Value} {y:DataW H×List MemPlace} (a:xA P e k=ah) (h:DataW.trod enc P w base spare held n e cs=aa y):Fits [k] cs:=by
 cases k with
 | int k=>
  obtain⟨m,rfl,_,b⟩:=DataW.trod_int (Z4 a) h
  exact⟨rfl,b,trivial⟩
 | bool=>
  obtain⟨m,rfl,_⟩:=DataW.trod_bool (Z3 a) h;trivial
theorem Fits.cons {k:FK} {ks:List FK} {c:Value} {cs:List Value} (h:Fits [k] [c]) (a:Fits ks cs):Fits (k::ks) (c::cs):=by
 cases k<;>cases c<;>simp_all [Fits]
theorem NC {n:Nat}:∀{c:List Field} {a:List FK} {i:Nat} {cs:List Value},xa P i c a=ah->
  (∀(j:Nat) (f:Field),c[j]?=aa f->∃y,DataW.trod enc P w base spare held n f.type ((cs.drop f.offset).take (P.cellsOf f.type))=aa y)->cs.length=i+a.length->Fits a (cs.drop i)
 | [],[],i,cs,_,_,b=>by rw[List.drop_of_length_le (by simp at b;omega)];trivial
 | [],_::_,_,_,h,_,_=>by simp[xa]at h
 | _::_,[],_,_,h,_,_=>by simp[xa]at h
 | f::c,k::a,i,cs,h,d,b=>by
  simp only[xa,br,decide_eq_true_eq]at h;obtain⟨⟨⟨l,m⟩,o⟩,p⟩:=h;have hi:i<cs.length:=by rw[b];simp
  have q:=NC (i:=i+1) (cs:=cs) p (λj g r=>d (j+1) g r) (by rw[b];simp;omega);obtain⟨y,e⟩:=d 0 f rfl;rw[l,m,kI hi,List.take_succ_cons,List.take_zero]at e;rw[kI hi];exact(Z8 o e).cons q
def Ri (P:Program) (e:TypeId) (ks:List FK):Bool:=match P.underlying e with
 | some (.struct a)=>xa P 0 a.toList ks&&decide (P.cellsOf e=ks.length)
 | _=>ae
theorem rec_fits {e:TypeId} {ks:List FK} {n:Nat} {cs:List Value} {y:DataW H×List MemPlace} (a:Ri P e ks=ah) (h:DataW.trod enc P w base spare held n e cs=aa y):Fits ks cs:=by
 unfold Ri at a;split at a
 ·rename_i d hu;simp only[br,decide_eq_true_eq]at a;obtain⟨xs,m,_,rfl,g,b,i⟩:=DataW.trod_struct hu h
  have:=NC (enc:=enc) (w:=w) (base:=base) (spare:=spare) (held:=held) (n:=m) (cs:=cs) a.1 (λj f c=>by
   have k:j<d.size:=by simpa using(dI.1 c).1
   exact⟨xs[j]'(by omega),by
    have:=i j f (by simpa using c);rw[this];simp⟩) (by rw[g,a.2];simp)
  simpa using this
 ·cases a
theorem open_recs {α:Type} {f:α->List Value} {Q:α->Prop} {sz:Nat} {t e:TypeId} {v:Value} {a:Option Addr} {len cap:Nat} {d:DataW H} {p:List MemPlace}
  (hs:∀x,(f x).length=sz) (L:P.underlying t=aa (.slice e)) (B:P.cellsOf e=sz)
  (hd:∀n cs y,DataW.trod enc P w base spare held n e cs=aa y->∃x,cs=f x/\Q x) (M:v=.slice a len cap) (h:DataW.Trod enc P w base spare held t v d p) :
  ∃l:List α,len=l.length/\(∀x∈l,Q x)/\Cells w a (l.flatMap f)/\len<=cap/\cap<=maxLen:=by
 subst M;obtain⟨fuel,h⟩:=h;rcases Go.Deep.open_slice L h with⟨b,_⟩|⟨x,l,c,m,n,D,Pl,b,X,C,E,N,Y,F⟩
 ·simp[Value.cells]at b;obtain⟨rfl,rfl,rfl⟩:=b;exact⟨[],rfl,by simp,Cells.nil _ _,by omega,by omega⟩
 ·simp[Value.cells]at b;obtain⟨rfl,rfl,rfl⟩:=b;have O:len<=m:=by rw[N];split<;>omega
  have each:∀i,i<len->∃y,Q y/\∀j u,(f y)[j]?=aa u->w.cell? (x.add (i*sz+j))=aa u:=by
   intro i hi;obtain⟨R,K,S⟩:=F i (by omega);obtain⟨y,rfl,s⟩:=hd _ _ _ S;refine⟨y,s,λj u g=>?_⟩;rw[B]at K;obtain⟨_,A,o⟩:=World.cells?_some K;have G:j<sz:=by rw[<-hs y];exact(dI.1 g).1
   rw[<-dN,o j G,g]
  have build:∀k,k<=len->∃l:List α,l.length=k/\(∀y∈l,Q y)/\Cells w (aa x) (l.flatMap f):=by
   intro k
   induction k with
   | zero=>exact λ_=>⟨[],rfl,by simp,Cells.nil _ _⟩
   | succ k T=>
    intro Z;obtain⟨l,A,s,q⟩:=T (by omega);obtain⟨y,U,I⟩:=each k (by omega);refine⟨l++[y],by simp[A],λz r=>?_,?_⟩
    ·rcases dS.1 r with r|r
     ·exact s z r
     ·simp at r;exact r ▸ U
    ·intro j u g;refine⟨x,rfl,?_⟩;have V:(l.flatMap f).length=k*sz:=by rw[List.length_flatMap];simp[hs,A,List.map_const',List.sum_replicate_nat]
     rw[List.flatMap_append,n4,List.flatMap_nil,List.append_nil]at g;by_cases J:j<(l.flatMap f).length
     ·rw[js J]at g;obtain⟨a,W,B⟩:=q j u g;obtain rfl:=Option.some.inj W;exact B
     ·rw[kE (by omega)]at g;have:=I _ u g
      rwa [show k*sz+(j-(l.flatMap f).length)=j by omega]at this
  obtain⟨l,A,s,q⟩:=build len (b7 _);exact⟨l,A.symm,s,q,C,E⟩
end
theorem au.below {w w':World} (h:au no w w'):RowKit.Below w.heap.size w w':=⟨h.os,h.tape,h.output,h.size,λk a=>h.ax k a id⟩
end Go.Dav
namespace Go.Proofs
open Go.RowKit Go.Shelf Go.Dav
attribute [local go_sem] Oper.semAt_some
def H5 (L:List Int) (pre:List (Int×Int)) (x:Int×Int):Prop:=∃k,∃a:k<L.length,x=((k:Int),L[k])/\pre.map (·.2)=(L.drop (k+1)).reverse
theorem Tryz.TU (m l Bn c:Nat) (p:Option Addr) (L:List Int) (hL:L.length<=1048576) (J Jx:List (Int×Int)->World->Prop)
  (hJ:∀pre W,J pre W->W.cell? ⟨Bn,0,none⟩=some (.slice p L.length c)/\∀(i:Nat) (v:Int),L[i]?=some v->∃bq o,p=some ⟨bq,o,none⟩/\W.cell? ⟨bq,o+i,none⟩=some (.int .i64 v))
  (hY:∀pre x W,J pre W->H5 L pre x->YieldAt Fence.wide m Tryz.prog l #[.int .i64 x.1,.int .i64 x.2] W λe W'=>(e=.returned (.bool true)/\J (pre++[x]) W')∨(e=.returned (.bool false)/\Jx (pre++[x]) W'))
  (W:World) (h0:J [] W) :
  CallsIn Fence.wide (m+1) Tryz.prog 338 #[.func (.yield l) #[] #[],.pointer (some ⟨Bn,0,none⟩)] W λe W'=>(∃v,e=.returned v)/\((∃xs,xs.map (·.2)=L.reverse/\J xs W')∨∃pre,Jx pre W'):=by
 have h38:Fence.wide.fn 338:=trivial;refine callsIn_of_wp Tryz.func338 rfl h38 ?_ rfl;simp only[Tryz.ntmps338,List.size_toArray,List.length_cons,List.length_nil,Nat.reduceAdd,Nat.reduceSub,Array.replicate_succ,Array.replicate_zero,List.push_toArray,List.append_toArray,List.nil_append,List.cons_append];have hB0:=(hJ [] W h0).1
 gi_wp2
 gi_loopw [3] (λq wr=>∃(k:Nat) (pre:List (Int×Int)),q=.int .i64 ((k:Int)-1)/\k<=L.length/\pre.map (·.2)=(L.drop k).reverse/\J pre wr)
  (λq wr=>match q with|.int _ i=>(i+1).toNat|_=>0)
 case atStart=>
  exact⟨L.length,[],rfl,Nat.le_refl _,by rw[List.drop_of_length_le (by omega)];rfl,h0⟩
 case round=>
  obtain⟨k,pre,rfl,hk,hpre,hJs⟩:=hrel;obtain⟨hB,hC⟩:=hJ pre wr hJs
  cases k with
  | zero=>
   gi_wp2
   go_end0
   exact⟨⟨_,rfl⟩,.inl ⟨pre,by rw[hpre];rfl,hJs⟩⟩
  | succ k=>
   have hkl:k<L.length:=by omega
   obtain⟨bq,o,rfl,hcell⟩:=hC k _ (List.getElem?_eq_getElem hkl);have hdr:L.drop k=L[k]::L.drop (k+1):=List.drop_eq_getElem_cons hkl;obtain⟨fn,tmps,assign,body,hy,hR⟩:=hY pre ((k:Int),L[k]) wr hJs ⟨k,hkl,rfl,hpre⟩;generalize L[k]=x at *;have hi:((k+1:Nat):Int)-1=(k:Int):=by omega
   rw[hi];replace hy:(Instr.yield l #[.int .i64 (k:Int),.int .i64 x]).run Tryz.prog wr=.ok (.round l fn tmps assign body) wr:=hy
   gi_wp2
   refine hR.mono ?_;rintro e W3 (⟨rfl,hJ3⟩|⟨rfl,hJx3⟩)
   ·gi_wp2
    go_roundw
    case rel=>exact⟨k,pre++[((k:Int),x)],rfl,by omega,by rw[List.map_append,hpre,hdr,List.reverse_cons];rfl,hJ3⟩
    case measure=>show((k:Int)-1+1).toNat<((k:Int)+1).toNat;omega
   ·gi_wp2
    refine bodyPost_ret (results_none rfl _ _ _) rfl ?_;exact⟨⟨_,rfl⟩,.inr ⟨_,hJx3⟩⟩
set_option maxHeartbeats 1000000 in
theorem Tryz.TT (p:Option Addr) (m c:Nat) (w:World):Calls Tryz.prog 269 #[.slice p m c] w λe w'=>e=.returned (.func (.func 338) #[] #[.pointer (some ⟨w.heap.size,0,none⟩)])/\w'=w.alloc (.cells #[.slice p m c] 36):=by
 rw[<-callsIn_wide (n:=5)];have h25:Fence.wide.fn 269:=trivial;refine callsIn_of_wp Tryz.func269 rfl h25 ?_ rfl;simp only[Tryz.ntmps269,List.size_toArray,List.length_cons,List.length_nil,Nat.reduceAdd,Nat.reduceSub,Array.replicate_succ,Array.replicate_zero,List.push_toArray,List.append_toArray,List.nil_append,List.cons_append]
 gi_wp2
 go_ret
 exact⟨rfl,rfl⟩
end Go.Proofs
namespace Go.Dav
open Go.Proofs
open Value renaming int→ay
open _root_.Option renaming some→aa,none→ag
open _root_.List renaming getElem?_map→eZ,mem_append→dS,drop_eq_getElem_cons→kI,find?_eq_none→mr,mem_map→cv,replicate→aD,eq_of_mem_replicate→jX,toArray→dB,length_append→cz,length_singleton→qJ,map_append→fj,append_assoc→iY,take_succ_eq_append_getElem→ey,take_length→dA,nodup_range→qF,getD_eq_getElem?_getD→aQ,getElem?_eq_getElem→cS
open _root_.Nat renaming le_trans→aX,le_of_eq→bG,le_of_ble_eq_true→dH,zero_le→cZ
open World renaming cell?_of_block→tf,cell?→bf
open IntKind renaming wrap→aT
open _root_.Bool renaming false→ae,true→ah,and_true→mu,and_eq_true→br
open _root_.Array renaming replicate→ph,getElem?_eq_some_iff→we
open Fence renaming wide→mw
open _root_.Iff renaming rfl→bB
open Builtin renaming append_→bM
open _root_.Prod renaming ext→na
open _root_.Int renaming tmod→eO,tmod_eq_emod_of_nonneg→px
open _root_.List.Pairwise renaming map→qE,filter→wm
def mV {σ:Type} (b:Nat) (A:Ob σ) (get:σ->K) (put:σ->K->σ):Prop:=∀{W w:World} {F:Fp} {s:σ},ai A W w F s->∃q F1,KF b q w F1 (get s)/\ai (KF b q) w w F1 (get s)/\∀w' a,ai (KF b q) w w' F1 a->ai A W w' F (put s a)
theorem mV.self (b:Nat):mV b (KO b) (λk=>k) (λ_ k=>k):=by
 intro W w F s h;obtain⟨F1,⟨q,a⟩,c⟩:=h.cP;exact⟨q,F1,a,ai.same a,λw' e d=>c _ _ (KF.loose d)⟩
theorem mV.star {σ τ:Type} {b:Nat} {A:Ob σ} {B:Ob τ} [Frame B] {get:σ->K} {put:σ->K->σ} (h:mV b A get put):mV b (aF A B) (λx=>get x.1) (λx k=>(put x.1 k,x.2)):=by
 intro W w F s a;obtain⟨F1,hA,c⟩:=a.left;obtain⟨q,F2,d,e,f⟩:=h (ai.same hA);exact⟨q,F2,d,e,λw' i g=>c _ _ (f _ _ g)⟩
section
variable {b:Nat} {W w:World} {F:Fp} {k:K}
abbrev S1 (b p:Nat):=aF (KO b) (Lb p 23)
abbrev S2 (b p p1:Nat):=aF (S1 b p) (Lb p1 3)
abbrev S3 (b p p1 p8:Nat):=aF (S2 b p p1) (Lb p8 3)
abbrev S4 (b p p1 p8 a:Nat):=aF (S3 b p p1 p8) (Lb a 250)
theorem HG (b p p1:Nat):mV b (S2 b p p1) (λx=>x.1.1) (λx k=>((k,x.1.2),x.2)):=mV.star (B:=Lb p1 3) (mV.star (B:=Lb p 23) (mV.self b))
theorem HH (b p p1 p8:Nat):mV b (S3 b p p1 p8) (λx=>x.1.1.1) (λx k=>(((k,x.1.1.2),x.1.2),x.2)):=mV.star (B:=Lb p8 3) (HG b p p1)
theorem HI (b p p1 p8 a:Nat):mV b (S4 b p p1 p8 a) (λx=>x.1.1.1.1) (λx k=>((((k,x.1.1.1.2),x.1.1.2),x.1.2),x.2)):=mV.star (B:=Lb a 250) (HH b p p1 p8)
theorem Sl.XB {w:World} {T:TypeId} {p:Option Addr} {n c:Nat} {l:List Int} (h:Sl w T 1 p n c (l.map (ay .i64))) {i:Nat} {v:Int} (hi:l[i]?=aa v):∃bq o,p=aa ⟨bq,o,ag⟩/\w.cell? ⟨bq,o+i,ag⟩=aa (.int .i64 v):=by
 obtain⟨a,rfl,d⟩:=h.cells i (.int .i64 v) (by rw[eZ,hi];rfl);obtain⟨_,_,_,cells,_,hs,_⟩:=h;obtain⟨bq,o,sp⟩:=a;simp only at hs;subst hs;rw[add_lit]at d;exact⟨bq,o,rfl,d⟩
structure EN (b:Nat) (W:World) (F:Fp) (k:K) (E:Env) (w:World) (p p1 p8 bn:Nat) (pq:Option Addr) (c:Nat):Prop where
 env:E=[(1,SV.v (.pointer (aa ⟨p,0,ag⟩))),(2,SV.v (.pointer (aa ⟨p1,0,ag⟩))),(5,SV.v (.pointer (aa ⟨p8,0,ag⟩))),(8,SV.un),(60,SV.v (.func (.func 338) #[] #[.pointer (aa ⟨bn,0,ag⟩)])),(62,SV.un)]
 own:ai (S3 b p p1 p8) W w F (((k,[.pointer (aa ⟨b,0,ag⟩)]),[.int .i64 0]),[.int .i64 (fF k)])
 box:w.cell? ⟨bn,0,ag⟩=aa (.slice pq (dd k.rq (eP k)).length c)
 sl:Sl w 3 1 pq (dd k.rq (eP k)).length c ((dd k.rq (eP k)).map (ay .i64))
 load:¬cf k.rq (eP k)-cf k.rq (fF k)<2
def qu (b:Nat) (W:World) (F:Fp) (k:K) (e:Ending) (w':World):Prop:=e=.returned (.int .i64 (rY k))/\ai (KO b) W w' F (nq k)
theorem eU.P5 {b:Nat} {w:World} {F:Fp} {x:RS} (h:eU b w F x) (c:Int):0<=cf x c/\cf x c<=1024:=by
 unfold cf;split
 ·rename_i a;obtain⟨i,hi,rfl⟩:=nH a;rw[iR hi];have:=(h.V hi).len;omega
 ·omega
theorem YI (h:ai (KO b) W w F k) {c:Int}:(dd k.rq c).length<=8192:=by
 obtain⟨q,a⟩:=KO.fix h;obtain⟨F1,hA,_⟩:=KF.rq a;unfold dd;split
 ·rename_i d;obtain⟨i,hi,rfl⟩:=nH d;rw[iR hi];have:=(hA.V hi).len;exact aX (YJ _) (by omega)
 ·simp
theorem au.U9 {w W:World} {a:Addr} {v:Value} (h:au no w W) (c:w.cell? a=aa v):W.cell? a=aa v:=
 (tf (h.ax _ (pz c) id)).trans c
theorem TH (l:Tab W) (z:¬F 0) (h:ai (KO b) W w F k):den Tryz.prog kv Fc (iL 0 [.pointer (aa ⟨b,0,ag⟩)]) w (DM (λE w=>∃p p1 p8 bn pq c,EN b W F k E w p p1 p8 bn pq c) (jf Tryz.prog Tryz.f168.results.toList (qu b W F k))):=by
 rw[tbp];refine⟨λw1 H=>⟨λO o=>?_⟩⟩;have a:ai (S2 b w.heap.size w1.heap.size) W O F ((k,[.pointer (aa ⟨b,0,ag⟩)]),[.int .i64 0]):=(h.add (H.ak no) (Rw.new H rfl) (λi hi=>bG hi.symm)).add (o.ak no) (Rw.new o rfl) (λi hi=>bG hi.symm);generalize w.heap.size=p at a⊢;generalize w1.heap.size=p1 at a⊢;intro w3 r s t u;replace a:=a.ak (au.same no r s t u);obtain⟨q,F1,_,n,_⟩:=HG b p p1 a;have hB:=KF.ax n;have j:=jz a;obtain⟨F2,hA,_⟩:=KF.rq n;refine⟨_,j.b9 rfl,_,rfl,_,hB.aE rfl,_,j.b9 rfl,_,rfl,_,hB.cell rfl,⟨(abh hA (a.lY l z) k.ac).mono ?_⟩⟩;rintro e w4 ⟨rfl,A⟩;replace a:=a.ak A;refine⟨_,_,rfl,?_⟩;intro I r s t u;replace a:=a.ak (au.same no r s t u);obtain⟨P,F5,_,n,_⟩:=HG b p p1 a;have hB:=KF.ax n;have j:=jz a;obtain⟨F6,hA,_⟩:=KF.rq n;refine⟨_,j.b9 rfl,_,rfl,_,hB.aE rfl,_,j.b9 rfl,_,rfl,_,hB.cell rfl,?Q,?a2⟩
 case' Q=>
  refine⟨(Rm hA (a.lY l z) k.ac).mono ?_⟩;rintro e J ⟨rfl,x⟩;replace a:=a.ak x;refine⟨_,_,rfl,⟨λB f=>?_⟩⟩;replace a:ai (S3 b p p1 J.heap.size) W B F (((k,[.pointer (aa ⟨b,0,ag⟩)]),[.int .i64 0]),[.int .i64 0]):=a.add (f.ak no) (Rw.new f rfl) (λi hi=>bG hi.symm);generalize J.heap.size=p8 at a⊢;have hB:=hB.ak (x.and (f.ak no)) (λh=>h);have j:=jz a.drop;refine⟨hB.cell rfl,j.b9 rfl,hB.aE rfl,j.b9 rfl,?_⟩
 case' a2=>
  refine⟨λB f=>?_⟩;replace a:ai (S3 b p p1 I.heap.size) W B F (((k,[.pointer (aa ⟨b,0,ag⟩)]),[.int .i64 0]),[.int .i64 0]):=a.add (f.ak no) (Rw.new f rfl) (λi hi=>bG hi.symm);generalize I.heap.size=p8 at a⊢;have hB:=hB.ak (f.ak no) (λh=>h);have j:=jz a.drop;replace hA:=(inferInstance:Frame (eU P.rq)).ak hA (f.ak no) (λ_ _ h=>h);refine⟨hB.cell rfl,j.b9 rfl,hB.aE rfl,j.b9 rfl,⟨(Rm hA (a.lY l z) k.ac).mono ?_⟩⟩;rintro e w8 ⟨rfl,C⟩;replace a:=a.ak C;refine⟨_,_,rfl,?_⟩
 all_goals
  refine lP (vs:=[.int .i64 (fF k)]) a (by rfl) λw9 a=>?_;intro R r s t u;replace a:=a.ak (au.same no r s t u);obtain⟨T,F10,_,n,_⟩:=HH b p p1 p8 a;have hB:=KF.ax n;have j:=jz a.drop;have L:=cE a;obtain⟨F11,hA,_⟩:=KF.rq n;refine⟨_,j.b9 rfl,_,rfl,_,hB.aE rfl,_,j.b9 rfl,_,rfl,_,hB.aE rfl,_,L.b9 rfl,⟨(vo hA (eP k)).mono ?_⟩⟩;rintro e V ⟨rfl,rfl⟩;refine⟨_,rfl,L.b9 rfl,hB.aE rfl,j.b9 rfl,⟨(vo hA (fF k)).mono ?_⟩⟩;rintro e X ⟨rfl,rfl⟩;have D:=hA.P5 (eP k);have G:=hA.P5 (fF k)
  dsimp only at D G
  have M:aT .i64 (cf k.rq (eP k)-cf k.rq (fF k))=cf k.rq (eP k)-cf k.rq (fF k):=aN (by omega);refine⟨_,rfl,λg=>?_,λg=>?_⟩
  ·have g:=aO g;have g:cf k.rq (eP k)-cf k.rq (fF k)<2:=by rw[<-M];exact g
   refine lP (vs:=[.int .i64 0]) a.drop (by rfl) λm a=>?_;have Y:=cE a;refine⟨_,Y.b9 rfl,?_,?_⟩
   ·unfold rY;rw[ar g]
   ·unfold nq;rw[ar g];exact a.drop.drop
  ·have g:=aV g;have g:¬cf k.rq (eP k)-cf k.rq (fF k)<2:=by rw[<-M];exact g
   refine⟨_,j.b9 rfl,_,rfl,_,hB.aE rfl,⟨(ID hA (eP k)).mono ?_⟩⟩;rintro e m ⟨pq,d,rfl,N⟩;replace a:=a.ak N.U;refine⟨_,_,_,rfl,⟨(Tryz.TT _ _ _ m).mono ?_⟩⟩;rintro e Z ⟨rfl,rfl⟩;have y:au no m (m.alloc (.cells #[.slice pq (dd k.rq (eP k)).length d] 36)):=au.tj _ _;exact⟨_,rfl,p,p1,p8,m.heap.size,pq,d,rfl,a.ak y,by simp only[bf,World.alloc_heap_new];rfl,N.S.ak y (λ_ _ h=>h),g⟩
def BI (k:K) (id:Int):K:={k with rq:=kd (gN k.rq id) (fF k) (dp k id).1 id,th:=j8 k.th id (fF k) ae}
theorem TC (a:¬cf k.rq (eP k)-cf k.rq (fF k)<2) {id:Int} (h:(dd k.rq (eP k)).reverse.find? (nr k)=aa id):nq k=BI k id/\rY k=id:=by
 unfold nq rY BI;rw[af a,af a,h];exact⟨rfl,rfl⟩
theorem TB (a:¬cf k.rq (eP k)-cf k.rq (fF k)<2) (h:(dd k.rq (eP k)).reverse.find? (nr k)=ag):nq k=k/\rY k=0:=by
 unfold nq rY;rw[af a,af a,h];exact⟨rfl,rfl⟩
theorem TE {p p1 p8:Nat} (x:Int) {F2:Fp} {P:Ex->Env->World->Prop} (a:ai (S3 b p p1 p8) w w F2 (((k,[.pointer (aa ⟨b,0,ag⟩)]),[.int .i64 0]),[.int .i64 (fF k)]))
  (Z:∀E w',nr k x=ae->au no w w'->P .ff E w') (hr:∀E w',nr k x=ah->ai (S2 b p p1) w w' F2 ((BI k x,[.pointer (aa ⟨b,0,ag⟩)]),[.int .i64 x])->P .ret E w') :
  den Tryz.prog wx BH [(1,SV.v (.pointer (aa ⟨p,0,ag⟩))),(2,SV.v (.pointer (aa ⟨p1,0,ag⟩))),(5,SV.v (.pointer (aa ⟨p8,0,ag⟩))),(8,SV.v (.int .i64 x))] w P:=by
 rw[tbb];obtain⟨q,F1,_,V,_⟩:=HH b p p1 p8 a;have hP:=jz a.drop;obtain⟨F3,hA,_⟩:=KF.th V;refine⟨_,hP.b9 rfl,_,rfl,_,(KF.ax V).aE rfl,⟨(uW hA x).mono ?_⟩⟩;rintro e w1 ⟨rfl,d⟩;refine⟨_,_,_,_,_,_,_,rfl,⟨λX s=>?_⟩⟩;have t:au no w X:=d.and (s.ak no);replace a:ai (S4 b p p1 p8 w1.heap.size) w X F2 ((((k,[.pointer (aa ⟨b,0,ag⟩)]),[.int .i64 0]),[.int .i64 (fF k)]),[.int .i64 0,.int .u64 0,.int .i64 0,.bool ae,.bool ae,.int .i64 0]):=(a.ak d).add (s.ak no) (Rw.new s rfl) (λi hi=>bG hi.symm);have u:w.heap.size<=w1.heap.size:=d.size;have y:=s.aK;generalize hp:w1.heap.size=z at a u y⊢;obtain⟨F9,f,A⟩:=a.right;refine f.ax.fQ (by simp) λY B=>?_;have C:au no w Y:=t.trans B.U (λi hi e=>by omega);replace a:=A Y (I7 (dp k x)) (f.fN B.U B.aK);have hL:=cE a;have hT:=cE a.drop;have h:nr k x=hs (dp k x).2.1 (fF k):=rfl;refine⟨_,hL.cell rfl,_,hT.b9 rfl,⟨(iN _ _ _).mono ?_⟩⟩;rintro e w4 ⟨rfl,rfl⟩;refine⟨_,rfl,λg=>Z _ _ (by rw[h];simpa using g) C,λg=>?_⟩;have hb:nr k x=ah:=by rw[h];simpa using g
 obtain⟨q5,F5,_,j,D⟩:=HI b p p1 p8 z a;obtain⟨F6,G,H⟩:=KF.rq j;have I:=jz a.drop.drop;refine⟨_,I.b9 rfl,_,rfl,_,(KF.ax j).aE rfl,⟨(Al G x).mono ?_⟩⟩;rintro e w6 ⟨rfl,J⟩;replace a:=D _ _ (H _ _ J);refine⟨_,rfl,?_⟩;intro w7 L M N O;replace a:=a.ak (au.same no L M N O);obtain⟨q8,F8,_,l,Q⟩:=HI b p p1 p8 z a;obtain⟨al,R,S⟩:=KF.th l;refine⟨_,(jz a.drop.drop).b9 rfl,_,rfl,_,(KF.ax l).aE rfl,_,(cE a.drop).b9 rfl,⟨(QX R x (fF k) ae).mono ?_⟩⟩;rintro e w8 ⟨rfl,T⟩;replace a:=Q _ _ (S _ _ T);refine⟨_,rfl,?_⟩;intro w9 L M N O;replace a:=a.ak (au.same no L M N O);obtain⟨am,F10,_,c,m⟩:=HI b p p1 p8 z a;obtain⟨F11,n,o⟩:=KF.rq c;refine⟨_,(jz a.drop.drop).b9 rfl,_,rfl,_,(KF.ax c).aE rfl,_,(cE a.drop).b9 rfl,_,(cE a).cell rfl,⟨(Ro n (fF k) _ x).mono ?_⟩⟩;rintro e ap ⟨rfl,r⟩;replace a:=m _ _ (o _ _ r);refine⟨_,rfl,lP a.drop.drop (by rfl) λaq a=>hr _ _ hb a⟩
set_option maxRecDepth 100000 in
theorem XQ (X:Tab W) (h0:¬F 0) (h:ai (KO b) W w F k):Calls Tryz.prog 168 #[.pointer (aa ⟨b,0,ag⟩)] w (qu b W F k):=by
 rw[<-callsIn_wide (n:=5)];refine callsIn_of_wp_marks Tryz.func168 Tp trivial (wpIn_wide.2 ?_) rfl;have ha:=S7 (fn:=Tryz.f168) (N:=kv.N) n168 (args:=[.pointer (aa ⟨b,0,ag⟩)]) (by show 1<=104;omega);generalize he:({tmps:=([.pointer (aa ⟨b,0,ag⟩)]:List Value).toArray++ph (Tryz.f168.ntmps-([.pointer (aa ⟨b,0,ag⟩)]:List Value).toArray.size) undef,defers:=[]}:Act)=a0 at ha⊢;have C:=TH X h0 h;rw[TF]
 have out:∀(E:Env) (a:Act) (w':World),bN kv.N E a->jf Tryz.prog Tryz.f168.results.toList (qu b W F k) .ret E w'->bodyPostM mw 5 Tryz.prog Tryz.f168 (qu b W F k) .ret a w':=by
  intro E a w' g d;obtain⟨v,hv,hR⟩:=DX g d;show LeavesInM _ _ _ _ _ _ a.defers .returning w';rw[g.jb];exact⟨v,hv,hR⟩
 unfold Fc at C
 have piece:∀{x y y':Code} {E:Env} {a:Act} {w':World},den Tryz.prog kv (.seq x y) E w' (DM (λE w=>∃p p1 p8 bn pq c,EN b W F k E w p p1 p8 bn pq c) (jf Tryz.prog Tryz.f168.results.toList (qu b W F k)))->bN kv.N E a->
   (∀E a w',bN kv.N E a->den Tryz.prog kv y E w' (DM (λE w=>∃p p1 p8 bn pq c,EN b W F k E w p p1 p8 bn pq c) (jf Tryz.prog Tryz.f168.results.toList (qu b W F k)))->y'.wp Tryz.prog (bodyPostM mw 5 Tryz.prog Tryz.f168 (qu b W F k)) a w')->
   (Code.seq x y').wp Tryz.prog (bodyPostM mw 5 Tryz.prog Tryz.f168 (qu b W F k)) a w':=by
  intro x y y' E a w' hd ha j;refine wp_seq (wp_mono (pF bA x E w' _ hd a ha) ?_);rintro ex a1 w1 u
  cases ex with
  | normal=>
   obtain⟨E1,g,d⟩:=u;have hc:cV kv.bD (cF y)=ag:=by cases cF y<;>rfl
   simp only[cW,cU]at d;rw[hc]at d
   exact j E1 a1 w1 g d
  | ret=>obtain⟨E1,g,d⟩:=u;exact out E1 a1 w1 g d
  | exit n=>obtain⟨E1,g,d⟩:=u;exact d.elim
  | _=>exact u.elim
 refine piece C ha λE1 a1 w1 ap aq=>?_;refine piece aq ap λE2 a2 w2 A az=>?_;refine piece az A λE3 a3 w3 bb be=>?_;refine piece be bb λE4 a4 w4 bl bm=>?_;refine wp_seq (wp_seq (wp_mono (pF bA Fe E4 w4 _ bm a4 bl) ?_));rintro ex a5 f u
 cases ex with
 | ret=>obtain⟨E1,g,d⟩:=u;exact out E1 a5 f g d
 | exit n=>obtain⟨E1,g,d⟩:=u;exact d.elim
 | normal=>?_
 | _=>exact u.elim
 obtain⟨E5,H,p,p1,p8,bn,pq,c,I⟩:=u;have hE:=I.env;subst hE;have hP:=I.own;obtain⟨D,L,s,O⟩:=I.own;have t:∀i,D i->i<f.heap.size:=λi hi=>Frame.lt L i hi;have A:bN kv.N [(2,SV.v (.pointer (aa ⟨p1,0,ag⟩)))] a5:=H.keep [2];have G:∀i,i<W.heap.size->D i->F i:=λi hi h=>(O i h).elim id (λh=>absurd h (by omega))
 have leave:∀{w':World} {k2:K} {id:Int} {F2:Fp} {a:Act},bN kv.N [(2,SV.v (.pointer (aa ⟨p1,0,ag⟩)))] a->S2 b p p1 w' F2 ((k2,[.pointer (aa ⟨b,0,ag⟩)]),[.int .i64 id])->au F W w'->(∀i,F2 i->F i∨W.heap.size<=i)->w'.heap[f.heap.size]?=aa (.deferred (aa []))->¬F2 f.heap.size->id=rY k->k2=nq k->
   LeavesInM mw 5 Tryz.prog Tryz.f168 a.tmps (qu b W F k) [{target:=.collected f.heap.size,args:=#[]}] .returning w':=by
  intro w' k2 id F2 a P hS q hF U bs bv hk;refine⟨by simp,.inl ⟨_,_,rfl,run_takeDeferred U,?_⟩⟩;have Y:=au.DQ w' f.heap.size (.deferred ag);have bw:=Frame.ak hS Y (λi hi e=>bs (e ▸ hi));have hT:ai (S2 b p p1) W (w'.putObj f.heap.size (.deferred ag)) F ((k2,[.pointer (aa ⟨b,0,ag⟩)]),[.int .i64 id]):=⟨F2,bw,q.trans Y (λi hi (e:i=f.heap.size)=>absurd hi (by have:=s.size;omega)),hF⟩
  have Z:jf Tryz.prog Tryz.f168.results.toList (qu b W F k) .ret [(2,SV.v (.pointer (aa ⟨p1,0,ag⟩)))] (w'.putObj f.heap.size (.deferred ag)):=by
   rw[tbr];exact⟨_,(cE hT).b9 rfl,by rw[bv],by rw[<-hk];exact hT.drop.drop⟩
  obtain⟨v,hv,hR⟩:=DX P Z;exact⟨v,hv,hR⟩
 refine(wpIn_wide (n:=5)).1 (wpIn_block ?_)
 refine ajD (M:=wx) (m:=3) bA (E:=[(1,SV.v (.pointer (aa ⟨p,0,ag⟩))),(2,SV.v (.pointer (aa ⟨p1,0,ag⟩))),(5,SV.v (.pointer (aa ⟨p8,0,ag⟩))),(8,SV.un),(60,SV.v (.func (.func 338) #[] #[.pointer (aa ⟨bn,0,ag⟩)])),(62,SV.un)]) H (gf:=338) (lb:=#[.pointer (aa ⟨bn,0,ag⟩)]) (H.ev (.tmp 60) _ rfl) (λargs w=>Mw bA (by kernel_rfl) args) (λx:Int×Int=>(.int .i64 x.1,.int .i64 x.2))
  (λpre W1=>au no f W1/\∀y∈pre,nr k y.2=ae)
  (λpre W1=>∃Q x,pre=Q++[x]/\(∀y∈Q,nr k y.2=ae)/\nr k x.2=ah/\H5 (dd k.rq (eP k)) Q x/\∃F2,S2 b p p1 W1 F2 ((BI k x.2,[.pointer (aa ⟨b,0,ag⟩)]),[.int .i64 x.2])/\au D f W1/\∀i,F2 i->D i∨f.heap.size+2<=i)
  (H5 (dd k.rq (eP k))) (λxs=>xs.map (·.2)=(dd k.rq (eP k)).reverse)
  (λx=>[(1,SV.v (.pointer (aa ⟨p,0,ag⟩))),(2,SV.v (.pointer (aa ⟨p1,0,ag⟩))),(5,SV.v (.pointer (aa ⟨p8,0,ag⟩))),(8,SV.v (.int .i64 x.2))]) (dH rfl) (dH rfl) Kd.1 Kd.2 ?hA ?hB ?hI ?hIx ?hI0 ?hseq ?hdone ?hstop
 case hA=>
  intro x W1;rw[tba];exact⟨rfl,rfl⟩
 case hB=>
  rintro pre x W1 ⟨q,B⟩ bz cq;have R:S3 b p p1 p8 W1 D (((k,[.pointer (aa ⟨b,0,ag⟩)]),[.int .i64 0]),[.int .i64 (fF k)]):=Frame.ak L q (λ_ _ h=>h);refine TE x.2 (ai.same R) (λE w' hf S=>⟨⟨q.trans S (λ_ _ h=>h),λy j=>?_⟩,S.size,λi g d=>S.ax i d (λh=>h)⟩) (λE w' ht hT=>?_)
  ·rcases dS.1 j with j|j
   ·exact B y j
   ·simp at j;subst j;exact hf
  ·obtain⟨F2,t1,t2,t3⟩:=hT;exact⟨⟨pre,x,rfl,B,ht,bz,F2,t1,(q.mono (λ_ _ h=>h.elim)).trans t2 (λi hi h=>h),λi hi=>(t3 i hi).imp id (λh=>by omega)⟩,t2.size,λi g d=>t2.ax i d (λh=>by have:=t i h;omega)⟩
 case hI=>exact λpre W1 o V=>⟨V.1.trans (au.DQ W1 _ o) (λi hi (e:i=f.heap.size+1)=>absurd hi (by omega)),V.2⟩
 case hIx=>
  rintro pre W1 o ⟨Q,x,rfl,g,d,h3,F2,h4,h5,h6⟩;refine⟨Q,x,rfl,g,d,h3,F2,Frame.ak h4 (au.DQ W1 _ o) (λi hi (e:i=f.heap.size+1)=>?_),h5.trans (au.DQ W1 _ o) (λi hi (e:i=f.heap.size+1)=>absurd hi (by omega)),h6⟩;rcases h6 i hi with h|h
  ·have:=t i h;omega
  ·omega
 case hI0=>exact λr=>⟨(au.tj _ _).trans (au.tj _ _) (λ_ _ h=>h),λy j=>by cases j⟩
 case hseq=>
  intro J Jx W1 cb hY cc;have al:(dd k.rq (eP k)).length<=1048576:=aX (YI hP.drop.drop.drop) (by omega);refine Tryz.TU 3 (f.heap.size+1) bn c pq (dd k.rq (eP k)) al J Jx (λpre W2 hJ=>?_) (λpre x W2 hJ hx=>hY pre x W2 hJ hx) W1 cc;have q:=(cb pre W2 hJ).1;exact⟨au.U9 q I.box,λi v hi=>(I.sl.ak q (λ_ _ h=>h)).XB hi⟩
 case hstop=>
  rintro pre W1 ⟨Q,x,rfl,g,d,⟨kk,hk,hx,cd⟩,F2,h4,h5,h6⟩ U
  have hf:(dd k.rq (eP k)).reverse.find? (nr k)=aa x.2:=by
   have e1:(dd k.rq (eP k)).reverse=Q.map (·.2)++(x.2::((dd k.rq (eP k)).take kk).reverse):=by
    rw[cd,hx]
    conv=>lhs;rw[<-List.take_append_drop kk (dd k.rq (eP k)),kI hk]
    simp
   rw[e1,List.find?_append,mr.2 (λy j=>?_),List.find?_cons_of_pos d]
   ·rfl
   ·obtain⟨z,hz,rfl⟩:=cv.1 j;rw[g z hz];decide
  obtain⟨e1,e2⟩:=TC I.load hf;show LeavesInM _ _ _ _ _ _ _ _ _;refine leave (a:=a5) A h4 (s.trans h5 (λi hi h=>G i hi h)) (λi hi=>?_) U (λV=>?_) e2.symm e1.symm
  ·rcases h6 i hi with h|h
   ·exact O i h
   ·exact .inr (by have:=s.size;omega)
  ·rcases h6 _ V with h|h
   ·have:=t _ h;omega
   ·omega
 case hdone=>
  rintro xs W1 ce ⟨q,B⟩ U
  have T:(dd k.rq (eP k)).reverse.find? (nr k)=ag:=by
   rw[<-ce];refine mr.2 λy j=>?_;obtain⟨z,hz,rfl⟩:=cv.1 j;rw[B z hz];decide
  obtain⟨e1,e2⟩:=TB I.load T;show BJ.wp _ _ _ _;rw[TD];have R:S3 b p p1 p8 W1 D (((k,[.pointer (aa ⟨b,0,ag⟩)]),[.int .i64 0]),[.int .i64 (fF k)]):=Frame.ak L q (λ_ _ h=>h);have cl:ai (S2 b p p1) W1 W1 D ((k,[.pointer (aa ⟨b,0,ag⟩)]),[.int .i64 0]):=(ai.same R).drop;refine wp_seq (wp_region_list (IK (N:=kv.N) (l:=yR) (K:=λE w'=>E=[(2,SV.v (.pointer (aa ⟨p1,0,ag⟩)))]/\ai (S2 b p p1) W1 w' D ((k,[.pointer (aa ⟨b,0,ag⟩)]),[.int .i64 0])) bA (by simp) ?_ yR.toArray.toList [(2,SV.v (.pointer (aa ⟨p1,0,ag⟩)))] a5 W1 A ?_))
  ·rintro E a w' P ⟨rfl,F2,t1,t2,t3⟩;refine wp_ret ?_;show LeavesInM _ _ _ _ _ _ _ _ _;have am:f.heap.size<W1.heap.size:=(we.1 U).1;refine leave (a:=a) P t1 ((s.trans q (λ_ _ h=>h.elim)).trans t2 (λi hi h=>G i hi h)) (λi hi=>?_) ((t2.ax _ am (λh=>by have:=t _ h;omega)).trans U) (λV=>?_) e2.symm e1.symm
   ·rcases t3 i hi with h|h
    ·exact O i h
    ·exact .inr (by have:=s.size;have:=q.size;omega)
   ·rcases t3 _ V with h|h
    ·have:=t _ h;omega
    ·omega
  ·rw[List.toList_toArray,tbt];exact lP cl (by rfl) λw' hS=>⟨rfl,hS⟩
end
section
variable {b:Nat} {W w:World} {F:Fp} {k:K}
theorem Yp (r:Tab W) (V:¬F 0) (h:ai (KO b) W w F k) (A:k.tm.now=k.now) (c:Int):Cx 62 #[pt b,I c] w (eM (KO b) W F (qo k c) (AH k c)):=by
 obtain⟨q,X⟩:=KO.fix h;have hB:=KF.ax X;obtain⟨F1,hA,_⟩:=KF.co X;refine u62 ?_;refine⟨_,rfl,_,hB.aE rfl,⟨(FO hA c).mono ?_⟩⟩;rintro e w1 ⟨⟨Y,Z,rfl⟩,J⟩;refine⟨_,_,_,_,_,_,_,rfl,⟨λw2 hN=>?_⟩⟩;have l:ai (aF (KO b) (Lb w1.heap.size 226)) W w2 F (k,[.bool ae,.bool ae,I 0,I 0,I 0,I 0]):=(h.ak J).add (hN.ak no) (Rw.new hN rfl) (λi hi=>bG hi.symm);generalize w1.heap.size=p at l⊢;refine lP (vs:=fD (cm k.co c,Y,Z)) l (by rfl) λw3 l=>?_;intro w4 L M N O;replace l:=l.ak (au.same no L M N O);have z:=cE l;obtain⟨F0,P,Q⟩:=l.left;refine⟨_,z.cell rfl,_,z.cell rfl,_,z.cell rfl,_,z.cell rfl,_,z.cell rfl,_,z.cell rfl,⟨(X3 (ai.same P) c).mono ?_⟩⟩;rintro e w5 ⟨rfl,R⟩;replace l:=Q _ _ R;have S:=cE l;refine⟨_,_,_,_,_,_,_,_,_,rfl,λj v hv=>S.cell hv,⟨(Vq (cm k.co c,Y,Z) (ny k c) w5).mono ?_⟩⟩;rintro e w6 ⟨rfl,T⟩;replace l:=l.ak T
 have last:∀(U:World),ai (KO b) W U F k->aP Tryz.prog vJ y8 (zr (aa ⟨b,0,ag⟩) c (dP k c)) U (zL (eM (KO b) W F (qo k c) (AH k c))):=by
  intro U B;refine aP.mk ?_;rw[adH];obtain⟨q7,f⟩:=KO.fix B;unfold qo AH;refine⟨λg=>?_,λg=>⟨λg1=>?_,λg1=>⟨λa=>?_,λa=>⟨λo=>?_,λo=>⟨λs=>?_,λs=>?_⟩⟩⟩⟩⟩
  ·have g:dP k c=0:=by simpa using g
   rw[ar g,ar (.inl g)];exact eM.nil B
  ·have g:¬dP k c=0:=by simpa using g
   have g1:dP k c=1:=by simpa using g1
   rw[af g,ar g1,ar (.inr (.inl g1))];intro w8 L M N O;replace f:=f.ak (au.same no L M N O);obtain⟨F8,t,u⟩:=KF.co f;refine⟨_,rfl,_,(KF.ax f).aE rfl,_,rfl,_,(KF.ax f).cell rfl,⟨(VF t c k.now).mono ?_⟩⟩;rintro e H ⟨⟨n,m,rfl⟩,x⟩;exact⟨_,_,rfl,eM.nil (KF.loose (u _ _ x))⟩
  ·have g:¬dP k c=0:=by simpa using g
   have g1:¬dP k c=1:=by simpa using g1
   have a:dP k c=2:=by simpa using a
   rw[af g,af g1,ar a,ar (.inr (.inr (.inl a)))];obtain⟨F8,t,u⟩:=KF.so f;refine⟨_,rfl,_,(KF.ax f).aE rfl,⟨(SZ t c).mono ?_⟩⟩;rintro e H ⟨rfl,x⟩;exact⟨_,rfl,eM.nil (KF.loose (u _ _ x))⟩
  ·have g:¬dP k c=0:=by simpa using g
   have g1:¬dP k c=1:=by simpa using g1
   have a:¬dP k c=2:=by simpa using a
   have o:dP k c=3:=by simpa using o
   rw[af g,af g1,af a,ar o,af (by omega),ar o];refine⟨(Yt r V B c).mono ?_⟩;rintro e H ⟨pp,d,rfl,C⟩;exact⟨_,_,_,rfl,pp,d,rfl,C⟩
  ·have g:¬dP k c=0:=by simpa using g
   have g1:¬dP k c=1:=by simpa using g1
   have a:¬dP k c=2:=by simpa using a
   have o:¬dP k c=3:=by simpa using o
   have s:dP k c=9:=by simpa using s
   rw[af g,af g1,af a,af o,ar s,ar (.inr (.inr (.inr s)))];refine⟨(X8 B A c).mono ?_⟩;rintro e H ⟨rfl,C⟩;exact⟨rfl,eM.nil C⟩
  ·have g:¬dP k c=0:=by simpa using g
   have g1:¬dP k c=1:=by simpa using g1
   have a:¬dP k c=2:=by simpa using a
   have o:¬dP k c=3:=by simpa using o
   have s:¬dP k c=9:=by simpa using s
   rw[af g,af g1,af a,af o,af s,af (by omega),af o];refine⟨(Yq r V B c _).mono ?_⟩;rintro e H ⟨pp,d,rfl,C⟩;exact⟨_,_,_,rfl,pp,d,rfl,C⟩
 refine⟨_,rfl,_,(cE l).cell rfl,λg=>?_,λg=>last _ l.drop⟩;obtain⟨q6,D⟩:=KO.fix l.drop;obtain⟨F6,E,G⟩:=KF.co D;refine⟨_,rfl,_,(KF.ax D).aE rfl,λa=>⟨(My E c _).mono ?_⟩,λa=>⟨(My E c ae).mono ?_⟩⟩
 ·rintro e w8 ⟨⟨n,rfl⟩,y⟩;exact⟨_,rfl,last _ (KF.loose (G _ _ y))⟩
 ·rintro e w8 ⟨⟨n,rfl⟩,y⟩;exact⟨_,rfl,last _ (KF.loose (G _ _ y))⟩
theorem Yj (r:Tab W) (y:¬F 0) (h:ai (KO b) W w F k) (e:cJ):Cx 71 #[pt b,.agg (j0 e).toArray] w (eM (KO b) W F (ke k e) (qj k e)):=by
 refine u71 ?_;refine⟨λw1 t=>?_⟩;have m:ai (aF (KO b) (Lb w.heap.size 33)) W w1 F (k,j0 e):=h.add (t.ak no) (Rw.new t rfl) (λi hi=>bG hi.symm);generalize w.heap.size=p at m⊢;have n:=cE m;have hd:ai (KO b) W w1 F k:=m.drop;refine⟨_,n.cell rfl,λg=>?_,λg=>⟨λg1=>?_,λg1=>⟨λa=>?_,λa=>⟨λc=>?_,λc=>⟨λd=>?_,λd=>⟨λf=>?_,λf=>⟨λl=>?_,λl=>?_⟩⟩⟩⟩⟩⟩⟩
 ·have g:e.1=11:=by simpa using g
  refine⟨_,n.cell rfl,⟨(XV hd e.2.2.1).mono ?_⟩⟩;rintro o s ⟨rfl,j⟩;exact⟨_,rfl,⟨fK (x:=B7 k e.2.2.1) j (by unfold ke;rw[ar g]) (by unfold qj;rw[ar g])⟩⟩
 ·have g:¬e.1=11:=by simpa using g
  have g1:e.1=19:=by simpa using g1
  refine⟨_,n.cell rfl,⟨(X4 hd e.2.2.1).mono ?_⟩⟩;rintro o s ⟨rfl,rfl⟩;exact⟨_,_,rfl,⟨rC (x:=zA k e.2.2.1) hd (by unfold ke;rw[af g,ar g1]) (by unfold qj;rw[af g,ar g1])⟩⟩
 ·have g:¬e.1=11:=by simpa using g
  have g1:¬e.1=19:=by simpa using g1
  have a:e.1=25:=by simpa using a
  refine⟨_,n.cell rfl,⟨(Yh hd e.2.2.2.2).mono ?_⟩⟩;rintro o s ⟨rfl,j⟩;exact⟨_,rfl,⟨fK (x:=mJ e.2.2.2.2) j (by unfold ke;rw[af g,af g1,ar a]) (by unfold qj;rw[af g,af g1,ar a])⟩⟩
 ·have g:¬e.1=11:=by simpa using g
  have g1:¬e.1=19:=by simpa using g1
  have a:¬e.1=25:=by simpa using a
  have c:e.1=27:=by simpa using c
  intro G z A B C;have m:=m.ak (au.same no z A B C);obtain⟨q,F1,_,u,D⟩:=KS.fix m;obtain⟨F2,hA,E⟩:=KF.ga u;refine⟨_,rfl,_,(KF.ax u).aE rfl,_,(cE m).cell rfl,⟨(WW hA e.2.1).mono ?_⟩⟩;rintro o H ⟨rfl,j⟩;exact⟨_,rfl,⟨fK (x:=pQ k.ga e.2.1) (D _ _ (E _ _ j)).drop (by unfold ke;rw[af g,af g1,af a,ar c]) (by unfold qj;rw[af g,af g1,af a,ar c])⟩⟩
 ·have g:¬e.1=11:=by simpa using g
  have g1:¬e.1=19:=by simpa using g1
  have a:¬e.1=25:=by simpa using a
  have c:¬e.1=27:=by simpa using c
  have d:e.1=28:=by simpa using d
  refine⟨_,n.cell rfl,⟨(X9 hd e.2.2.2.2).mono ?_⟩⟩;rintro o s ⟨rfl,j⟩;exact⟨_,rfl,⟨fK (x:=zO e.2.2.2.2) j (by unfold ke;rw[af g,af g1,af a,af c,ar d]) (by unfold qj;rw[af g,af g1,af a,af c,ar d])⟩⟩
 ·have g:¬e.1=11:=by simpa using g
  have g1:¬e.1=19:=by simpa using g1
  have a:¬e.1=25:=by simpa using a
  have c:¬e.1=27:=by simpa using c
  have d:¬e.1=28:=by simpa using d
  have f:e.1=29:=by simpa using f
  refine⟨_,n.cell rfl,_,n.cell rfl,⟨(Yn hd e.2.2.1 e.2.2.2.2).mono ?_⟩⟩;rintro o s ⟨rfl,j⟩;exact⟨_,rfl,⟨fK (x:=Ee e.2.2.1 e.2.2.2.2) j (by unfold ke;rw[af g,af g1,af a,af c,af d,ar f]) (by unfold qj;rw[af g,af g1,af a,af c,af d,ar f])⟩⟩
 ·have g:¬e.1=11:=by simpa using g
  have g1:¬e.1=19:=by simpa using g1
  have a:¬e.1=25:=by simpa using a
  have c:¬e.1=27:=by simpa using c
  have d:¬e.1=28:=by simpa using d
  have f:¬e.1=29:=by simpa using f
  have l:e.1=30:=by simpa using l
  refine⟨(XQ r y hd).mono ?_⟩;rintro o s ⟨rfl,j⟩;exact⟨_,rfl,⟨rC (x:=(rY k,0)) j (by unfold ke;rw[af g,af g1,af a,af c,af d,af f,ar l]) (by unfold qj;rw[af g,af g1,af a,af c,af d,af f,ar l])⟩⟩
 ·have g:¬e.1=11:=by simpa using g
  have g1:¬e.1=19:=by simpa using g1
  have a:¬e.1=25:=by simpa using a
  have c:¬e.1=27:=by simpa using c
  have d:¬e.1=28:=by simpa using d
  have f:¬e.1=29:=by simpa using f
  have l:¬e.1=30:=by simpa using l
  exact⟨fK (x:=2) hd (by unfold ke;rw[af g,af g1,af a,af c,af d,af f,af l]) (by unfold qj;rw[af g,af g1,af a,af c,af d,af f,af l])⟩
theorem mP {f:FuncId} {args:Array Value} {d:K} {rs a:List Rc} (h:Cx f args w (eM (KO b) W F k rs)) (g:k=d) (i:rs=a):Cx f args w λe w'=>∃p n c,e=Z (.slice p n c)/\eM (KO b) W F d a (.returned (.slice p n c)) w':=by
 subst g;subst i;refine h.mono ?_;rintro e w1 ⟨p,c,rfl,j⟩;exact⟨_,_,_,rfl,p,c,rfl,j⟩
theorem wM {e:cJ} (h:4<=e.1/\e.1<=9):iT k e=dy k e/\oR k e=fL k e:=by
 unfold dy fL;simp only[af (show ¬e.1=1 by omega),af (show ¬e.1=2 by omega),af (show ¬e.1=3 by omega),ar h];exact⟨trivial,trivial⟩
theorem wK {e:cJ} (h:12<=e.1/\e.1<=17):ra k e=dy k e/\fG (q9 k e)=fL k e:=by
 unfold dy fL;simp only[af (show ¬e.1=1 by omega),af (show ¬e.1=2 by omega),af (show ¬e.1=3 by omega),af (show ¬(4<=e.1/\e.1<=9) by omega),ar h];exact⟨trivial,trivial⟩
theorem wL {e:cJ} (h:e.1=10∨e.1=20∨e.1=21∨e.1=22∨e.1=26∨(e.1=18/\¬e.2.1 = -1)):j9 k e=dy k e/\qa k e=fL k e:=by
 unfold dy fL;simp only[af (show ¬e.1=1 by omega),af (show ¬e.1=2 by omega),af (show ¬e.1=3 by omega),af (show ¬(4<=e.1/\e.1<=9) by omega),af (show ¬(12<=e.1/\e.1<=17) by omega)];by_cases a:e.1=18
 ·rw[ar a,ar a,af (by omega),af (by omega)];exact⟨rfl,rfl⟩
 ·rw[af a,af a,ar (by omega),ar (by omega)];exact⟨rfl,rfl⟩
theorem MS {e:cJ} (h:e.1=23∨e.1=24):iA k (decide (e.1=23)) e.2.1=dy k e/\fG (jI k (decide (e.1=23)) e.2.1)=fL k e:=by
 unfold dy fL;simp only[af (show ¬e.1=1 by omega),af (show ¬e.1=2 by omega),af (show ¬e.1=3 by omega),af (show ¬(4<=e.1/\e.1<=9) by omega),af (show ¬(12<=e.1/\e.1<=17) by omega),af (show ¬e.1=18 by omega),af (show ¬(e.1=10∨e.1=20∨e.1=21∨e.1=22∨e.1=26) by omega),ar h];exact⟨trivial,trivial⟩
theorem zN (c:Tab W) (l:¬F 0) (h:ai (KO b) W w F k) (O:k.tm.now=k.now) (e:cJ):Cx 12 #[pt b,.agg (j0 e).toArray] w (eM (KO b) W F (dy k e) (fL k e)):=by
 have M:1<=k.n:=by
  obtain⟨q,V⟩:=KO.fix h;exact(KF.num V).1
 refine u12 ?_;refine⟨λw1 X=>?_⟩;have o:ai (aF (KO b) (Lb w.heap.size 33)) W w1 F (k,j0 e):=h.add (X.ak no) (Rw.new X rfl) (λi hi=>bG hi.symm);generalize w.heap.size=p at o⊢;have a:=cE o;have hd:ai (KO b) W w1 F k:=o.drop;refine⟨λg=>(by cases g),λ_=>⟨_,a.cell rfl,λg1=>?c1,λg1=>⟨λj=>?c2,λj=>⟨λN=>?c3,λN=>⟨λP=>?c4,λP=>⟨λQ=>?c5,λQ=>⟨λR=>?c6,λR=>⟨λS=>?c7,λS=>⟨λT=>?c8,λT=>⟨λU=>?c9,λU=>⟨λt=>?Fw,λt=>⟨λu=>?Ku,λu=>⟨λy=>?Kv,λy=>⟨λz=>?T9,λz=>⟨λA=>?Ky,λA=>⟨λB=>?Ue,λB=>⟨λC=>?Uh,λC=>⟨λD=>?BL,λD=>⟨λE=>?KW,λE=>⟨λG=>?Um,λG=>⟨λH=>?K2,λH=>⟨λI=>?Us,λI=>⟨λJ=>?K5,λJ=>⟨λL=>?K8,λL=>?c0⟩⟩⟩⟩⟩⟩⟩⟩⟩⟩⟩⟩⟩⟩⟩⟩⟩⟩⟩⟩⟩⟩⟩⟩
 case c1=>
  have g1:e.1=1:=by simpa using g1
  have d:dy k e=if e.2.1<0∨k.n<=e.2.1 then k else qo k e.2.1:=by unfold dy;rw[ar g1]
  have f:fL k e=if e.2.1<0∨k.n<=e.2.1 then fG 3 else AH k e.2.1:=by unfold fL;rw[ar g1]
  rw[d,f];intro r Z q2 q3 q4;replace o:=o.ak (au.same no Z q2 q3 q4);have a:=cE o;obtain⟨q,V⟩:=KO.fix o.drop;refine⟨_,a.cell rfl,λg=>⟨_,a.cell rfl,_,rfl,_,(KF.ax V).cell rfl,λj=>⟨fK (x:=3) o.drop ?_ ?_⟩,λj=>⟨_,a.cell rfl,⟨mP (Yp c l o.drop O e.2.1) ?_ ?_⟩⟩⟩,λg=>⟨fK (x:=3) o.drop ?_ ?_⟩⟩
  ·rw[ar (.inr (aO j))]
  ·rw[ar (.inr (aO j))]
  ·have:=aV g;have:=aV j;dsimp only at this;rw[af (by omega)]
  ·have:=aV g;have:=aV j;dsimp only at this;rw[af (by omega)]
  ·rw[ar (.inl (aO g))]
  ·rw[ar (.inl (aO g))]
 case c2=>
  have g1:¬e.1=1:=by simpa using g1
  have j:e.1=2:=by simpa using j
  refine⟨_,a.cell rfl,⟨(Yr hd e.2.2.2.2).mono ?_⟩⟩;rintro s r ⟨rfl,m⟩;exact⟨_,rfl,⟨fK (x:=Eo k e.2.2.2.2) m (by unfold dy;rw[af g1,ar j]) (by unfold fL;rw[af g1,ar j])⟩⟩
 case c3=>
  have g1:¬e.1=1:=by simpa using g1
  have j:¬e.1=2:=by simpa using j
  have N:e.1=3:=by simpa using N
  refine⟨_,a.cell rfl,_,a.cell rfl,⟨(Ym c l M hd e.2.2.1 e.2.2.2.1).mono ?_⟩⟩;rintro s r ⟨rfl,m⟩;exact⟨_,_,rfl,⟨rC (x:=AE k e.2.2.1 e.2.2.2.1) m (by unfold dy;rw[af g1,af j,ar N]) (by unfold fL;rw[af g1,af j,ar N])⟩⟩
 case c4=>
  have g:e.1=4:=by simpa using P
  obtain⟨d,f⟩:=wM (k:=k) (e:=e) (by omega);exact⟨_,a.cell rfl,_,a.cell rfl,_,a.cell rfl,_,a.cell rfl,_,a.cell rfl,⟨mP (xp c l hd e) d f⟩⟩
 case c5=>
  have g:e.1=5:=by simpa using Q
  obtain⟨d,f⟩:=wM (k:=k) (e:=e) (by omega);exact⟨_,a.cell rfl,_,a.cell rfl,_,a.cell rfl,_,a.cell rfl,_,a.cell rfl,⟨mP (xp c l hd e) d f⟩⟩
 case c6=>
  have g:e.1=6:=by simpa using R
  obtain⟨d,f⟩:=wM (k:=k) (e:=e) (by omega);exact⟨_,a.cell rfl,_,a.cell rfl,_,a.cell rfl,_,a.cell rfl,_,a.cell rfl,⟨mP (xp c l hd e) d f⟩⟩
 case c7=>
  have g:e.1=7:=by simpa using S
  obtain⟨d,f⟩:=wM (k:=k) (e:=e) (by omega);exact⟨_,a.cell rfl,_,a.cell rfl,_,a.cell rfl,_,a.cell rfl,_,a.cell rfl,⟨mP (xp c l hd e) d f⟩⟩
 case c8=>
  have g:e.1=8:=by simpa using T
  obtain⟨d,f⟩:=wM (k:=k) (e:=e) (by omega);exact⟨_,a.cell rfl,_,a.cell rfl,_,a.cell rfl,_,a.cell rfl,_,a.cell rfl,⟨mP (xp c l hd e) d f⟩⟩
 case c9=>
  have g:e.1=9:=by simpa using U
  obtain⟨d,f⟩:=wM (k:=k) (e:=e) (by omega);exact⟨_,a.cell rfl,_,a.cell rfl,_,a.cell rfl,_,a.cell rfl,_,a.cell rfl,⟨mP (xp c l hd e) d f⟩⟩
 case Fw=>
  have g:e.1=12:=by simpa using t
  obtain⟨d,f⟩:=wK (k:=k) (e:=e) (by omega);refine⟨_,a.cell rfl,_,a.cell rfl,_,a.cell rfl,_,a.cell rfl,_,a.cell rfl,⟨(xn c l M hd e).mono ?_⟩⟩;rintro s r ⟨rfl,m⟩;exact⟨_,rfl,⟨fK (x:=q9 k e) m d f.symm⟩⟩
 case Ku=>
  have g:e.1=13:=by simpa using u
  obtain⟨d,f⟩:=wK (k:=k) (e:=e) (by omega);refine⟨_,a.cell rfl,_,a.cell rfl,_,a.cell rfl,_,a.cell rfl,_,a.cell rfl,⟨(xn c l M hd e).mono ?_⟩⟩;rintro s r ⟨rfl,m⟩;exact⟨_,rfl,⟨fK (x:=q9 k e) m d f.symm⟩⟩
 case Kv=>
  have g:e.1=14:=by simpa using y
  obtain⟨d,f⟩:=wK (k:=k) (e:=e) (by omega);refine⟨_,a.cell rfl,_,a.cell rfl,_,a.cell rfl,_,a.cell rfl,_,a.cell rfl,⟨(xn c l M hd e).mono ?_⟩⟩;rintro s r ⟨rfl,m⟩;exact⟨_,rfl,⟨fK (x:=q9 k e) m d f.symm⟩⟩
 case T9=>
  have g:e.1=15:=by simpa using z
  obtain⟨d,f⟩:=wK (k:=k) (e:=e) (by omega);refine⟨_,a.cell rfl,_,a.cell rfl,_,a.cell rfl,_,a.cell rfl,_,a.cell rfl,⟨(xn c l M hd e).mono ?_⟩⟩;rintro s r ⟨rfl,m⟩;exact⟨_,rfl,⟨fK (x:=q9 k e) m d f.symm⟩⟩
 case Ky=>
  have g:e.1=16:=by simpa using A
  obtain⟨d,f⟩:=wK (k:=k) (e:=e) (by omega);refine⟨_,a.cell rfl,_,a.cell rfl,_,a.cell rfl,_,a.cell rfl,_,a.cell rfl,⟨(xn c l M hd e).mono ?_⟩⟩;rintro s r ⟨rfl,m⟩;exact⟨_,rfl,⟨fK (x:=q9 k e) m d f.symm⟩⟩
 case Ue=>
  have g:e.1=17:=by simpa using B
  obtain⟨d,f⟩:=wK (k:=k) (e:=e) (by omega);refine⟨_,a.cell rfl,_,a.cell rfl,_,a.cell rfl,_,a.cell rfl,_,a.cell rfl,⟨(xn c l M hd e).mono ?_⟩⟩;rintro s r ⟨rfl,m⟩;exact⟨_,rfl,⟨fK (x:=q9 k e) m d f.symm⟩⟩
 case Uh=>
  have g:e.1=18:=by simpa using C
  refine⟨_,a.cell rfl,λj=>?_,λj=>?_⟩
  ·have j:e.2.1 = -1:=by simpa using j
   obtain⟨q,F1,_,Y,kK⟩:=KS.fix o;obtain⟨F2,hA,kA⟩:=KF.wk Y;refine⟨_,rfl,_,(KF.ax Y).aE rfl,⟨(SG hA (o.lY c l) (-1)).mono ?_⟩⟩;rintro s w4 ⟨rfl,m⟩;refine⟨_,_,rfl,⟨rC (x:=tQ k.wk (-1)) (kK _ _ (kA _ _ m)).drop ?_ ?_⟩⟩
   ·unfold dy;rw[af (by omega),af (by omega),af (by omega),af (by omega),af (by omega),ar g,ar j]
   ·unfold fL;rw[af (by omega),af (by omega),af (by omega),af (by omega),af (by omega),ar g,ar j]
  ·have j:¬e.2.1 = -1:=by simpa using j
   obtain⟨d,f⟩:=wL (k:=k) (e:=e) (by omega);exact⟨_,a.cell rfl,_,a.cell rfl,_,a.cell rfl,_,a.cell rfl,_,a.cell rfl,⟨mP (xo c l hd e) d f⟩⟩
 case BL=>
  have g:e.1=10:=by simpa using D
  obtain⟨d,f⟩:=wL (k:=k) (e:=e) (by omega);exact⟨_,a.cell rfl,_,a.cell rfl,_,a.cell rfl,_,a.cell rfl,_,a.cell rfl,⟨mP (xo c l hd e) d f⟩⟩
 case KW=>
  have g:e.1=20:=by simpa using E
  obtain⟨d,f⟩:=wL (k:=k) (e:=e) (by omega);exact⟨_,a.cell rfl,_,a.cell rfl,_,a.cell rfl,_,a.cell rfl,_,a.cell rfl,⟨mP (xo c l hd e) d f⟩⟩
 case Um=>
  have g:e.1=21:=by simpa using G
  obtain⟨d,f⟩:=wL (k:=k) (e:=e) (by omega);exact⟨_,a.cell rfl,_,a.cell rfl,_,a.cell rfl,_,a.cell rfl,_,a.cell rfl,⟨mP (xo c l hd e) d f⟩⟩
 case K2=>
  have g:e.1=22:=by simpa using H
  obtain⟨d,f⟩:=wL (k:=k) (e:=e) (by omega);exact⟨_,a.cell rfl,_,a.cell rfl,_,a.cell rfl,_,a.cell rfl,_,a.cell rfl,⟨mP (xo c l hd e) d f⟩⟩
 case Us=>
  have g:e.1=26:=by simpa using I
  obtain⟨d,f⟩:=wL (k:=k) (e:=e) (by omega);exact⟨_,a.cell rfl,_,a.cell rfl,_,a.cell rfl,_,a.cell rfl,_,a.cell rfl,⟨mP (xo c l hd e) d f⟩⟩
 case K5=>
  have g:e.1=23:=by simpa using J
  obtain⟨d,f⟩:=MS (k:=k) (e:=e) (by omega);refine⟨_,a.cell rfl,_,a.cell rfl,⟨(PE c l hd (decide (e.1=23)) e.2.1).mono ?_⟩⟩;rintro s r ⟨rfl,m⟩;exact⟨_,rfl,⟨fK (x:=jI k (decide (e.1=23)) e.2.1) m d f.symm⟩⟩
 case K8=>
  have g:e.1=24:=by simpa using L
  obtain⟨d,f⟩:=MS (k:=k) (e:=e) (by omega);refine⟨_,a.cell rfl,_,a.cell rfl,⟨(PE c l hd (decide (e.1=23)) e.2.1).mono ?_⟩⟩;rintro s r ⟨rfl,m⟩;exact⟨_,rfl,⟨fK (x:=jI k (decide (e.1=23)) e.2.1) m d f.symm⟩⟩
 case c0=>
  have g1:¬e.1=1:=by simpa using g1
  have j:¬e.1=2:=by simpa using j
  have N:¬e.1=3:=by simpa using N
  have P:¬e.1=4:=by simpa using P
  have Q:¬e.1=5:=by simpa using Q
  have R:¬e.1=6:=by simpa using R
  have S:¬e.1=7:=by simpa using S
  have T:¬e.1=8:=by simpa using T
  have U:¬e.1=9:=by simpa using U
  have t:¬e.1=12:=by simpa using t
  have u:¬e.1=13:=by simpa using u
  have y:¬e.1=14:=by simpa using y
  have z:¬e.1=15:=by simpa using z
  have A:¬e.1=16:=by simpa using A
  have B:¬e.1=17:=by simpa using B
  have C:¬e.1=18:=by simpa using C
  have D:¬e.1=10:=by simpa using D
  have E:¬e.1=20:=by simpa using E
  have G:¬e.1=21:=by simpa using G
  have H:¬e.1=22:=by simpa using H
  have I:¬e.1=26:=by simpa using I
  have J:¬e.1=23:=by simpa using J
  have L:¬e.1=24:=by simpa using L
  have d:ke k e=dy k e:=by
   unfold dy;rw[af (by omega),af (by omega),af (by omega),af (by omega),af (by omega),af (by omega),af (by omega),af (by omega)]
  have f:qj k e=fL k e:=by
   unfold fL;rw[af (by omega),af (by omega),af (by omega),af (by omega),af (by omega),af (by omega),af (by omega),af (by omega)]
  refine aP.mk ?_;rw[acH];exact⟨_,a.cell rfl,_,a.cell rfl,_,a.cell rfl,_,a.cell rfl,_,a.cell rfl,⟨mP (Yj c l hd e) d f⟩⟩
end
theorem jm.perm {σ:Type} {A:Ob σ} {w:World} {l l':List σ} (h:l.Perm l'):∀{F:Fp},Fam A w F l->Fam A w F l':=by
 induction h with
 | nil=>exact λh=>h
 | cons x _ m=>
  rintro F ⟨F1,F2,d,n,e,a⟩
  exact⟨F1,F2,d,m n,e,a⟩
 | swap x y l=>
  rintro F ⟨F1,F2,d,⟨F3,F4,o,k2,f,p⟩,e,a⟩;refine⟨F3,λi=>F1 i∨F4 i,o,⟨F1,F4,d,k2,λ_=>bB,λi hi g=>a i hi ((f i).2 (.inr g))⟩,λi=>?_,λi hi g=>?_⟩
  ·rw[e,f];constructor
   ·rintro(h|h|h)
    ·exact .inr (.inl h)
    ·exact .inl h
    ·exact .inr (.inr h)
   ·rintro(h|h|h)
    ·exact .inr (.inl h)
    ·exact .inl h
    ·exact .inr (.inr h)
  ·rcases g with h|h
   ·exact a i h ((f i).2 (.inl hi))
   ·exact p i hi h
 | trans _ _ j k=>exact λh=>k (j h)
abbrev jQ (b:Nat) (W w:World) (l:List KP) (c:List Value):Prop:=bY W w (aF (Fam (vA b)) (Rw b 94 (λs=>s))) (l,c)
section
variable {b:Nat} {W w w':World} {l:List KP} {c:List Value}
theorem jQ.push (h:jQ b W w l c) (a:au no w w') {s:KP} {G:Fp} (hA:vA b w' G s) (d:∀i,G i->w.heap.size<=i):jQ b W w' (l++[s]) c:=by
 obtain⟨F1,e,f⟩:=bY.left h;exact f _ _ (Fam.push e a hA d)
theorem jQ.wr (h:jQ b W w l c) {o:Nat} {v:List Value} (c':List Value) (f:ba c o v=c') (g:o+v.length<=c.length) {K:World->Prop} (i:∀w',jQ b W w' l c'->K w'):Wr w (((⟨b,0,ag⟩:Addr).add 0).add o) v K:=by
 obtain⟨F2,a,k2⟩:=bY.right h;have e:((⟨b,0,ag⟩:Addr).add 0).add o=(⟨b,0,ag⟩:Addr).add o:=by simp[add_lit]
 rw[e];subst f;exact a.ax.wr g λw' d=>i w' (k2 _ _ (a.fN d.U d.aK))
theorem jQ.ax (h:jQ b W w l c):aL w b c 94:=by
 obtain⟨F2,a,_⟩:=bY.right h;exact a.ax
end
theorem abp (n:Nat) (f:1<=n/\n<=64) (w:World):Cx 42 #[I (n:Int)] w λe w'=>∃b F,e=Z (.tuple #[pt b,I 0])/\iD b w' F (n,aD 16 (-1))/\au no w w'/\∀i,F i->w.heap.size<=i:=by
 refine u42 ?_;refine⟨λ_=>⟨λg=>?_,λ_=>⟨λw1 a=>⟨w.heap.size,λi=>i=w.heap.size,rfl,⟨Rw.new a rfl,⟨by simp,?_,λv d=>?_⟩⟩,a.ak no,λi hi=>bG hi.symm⟩⟩⟩,λg=>?_⟩
 ·have:=aO g;omega
 ·simp only;omega
 ·rw[jX d];omega
 ·have:=aO g;omega
theorem ZE (p:Option Addr) (n:Int) (w:World):Cx 33 #[.pointer p,I n] w λe w'=>e=Z (.pointer p)/\w'=w:=by
 refine u33 ?_;exact⟨rfl,rfl⟩
theorem ZA (p:Option Addr) (n:Int) (w:World):Cx 35 #[.pointer p,I n] w λe w'=>e=Z (.pointer p)/\w'=w:=by
 refine u35 ?_;exact⟨rfl,rfl⟩
theorem ZF (p:Option Addr) (n:Int) (w:World):Cx 37 #[.pointer p,I n] w λe w'=>e=Z (.pointer p)/\w'=w:=by
 refine u37 ?_;exact⟨rfl,rfl⟩
theorem Zy (p:Option Addr) (n:Int) (w:World):Cx 39 #[.pointer p,I n] w λe w'=>e=Z (.pointer p)/\w'=w:=by
 refine u39 ?_;exact⟨rfl,rfl⟩
theorem ZB (p:Option Addr) (n:Int) (w:World):Cx 41 #[.pointer p,I n] w λe w'=>e=Z (.pointer p)/\w'=w:=by
 refine u41 ?_;exact⟨rfl,rfl⟩
theorem ZG (p:Option Addr) (n:Int) (w:World):Cx 43 #[.pointer p,I n] w λe w'=>e=Z (.pointer p)/\w'=w:=by
 refine u43 ?_;exact⟨rfl,rfl⟩
theorem Zu (p:Option Addr) (n:Int) (w:World):Cx 45 #[.pointer p,I n] w λe w'=>e=Z (.pointer p)/\w'=w:=by
 refine u45 ?_;exact⟨rfl,rfl⟩
theorem ZD (p:Option Addr) (n:Int) (w:World):Cx 47 #[.pointer p,I n] w λe w'=>e=Z (.pointer p)/\w'=w:=by
 refine u47 ?_;exact⟨rfl,rfl⟩
theorem ZC (p:Option Addr) (n:Int) (w:World):Cx 49 #[.pointer p,I n] w λe w'=>e=Z (.pointer p)/\w'=w:=by
 refine u49 ?_;exact⟨rfl,rfl⟩
theorem Zw (p:Option Addr) (n:Int) (w:World):Cx 51 #[.pointer p,I n] w λe w'=>e=Z (.pointer p)/\w'=w:=by
 refine u51 ?_;exact⟨rfl,rfl⟩
theorem Zv (p:Option Addr) (n:Int) (w:World):Cx 53 #[.pointer p,I n] w λe w'=>e=Z (.pointer p)/\w'=w:=by
 refine u53 ?_;exact⟨rfl,rfl⟩
theorem Zz (p:Option Addr) (n:Int) (w:World):Cx 55 #[.pointer p,I n] w λe w'=>e=Z (.pointer p)/\w'=w:=by
 refine u55 ?_;exact⟨rfl,rfl⟩
theorem Zx (p:Option Addr) (n:Int) (w:World):Cx 57 #[.pointer p,I n] w λe w'=>e=Z (.pointer p)/\w'=w:=by
 refine u57 ?_;exact⟨rfl,rfl⟩
theorem VV:dZ Tryz.prog 90 137 1 8 [.pointer ag]:=⟨by kernel_rfl,by kernel_rfl,rfl,by omega⟩
theorem mU.push {p:Option Addr} {c n:Nat} {w w1 s:World} {F:Fp} (h:mU p c w F n) (J:n<=100000) {bq:Nat} {G:Fp} (j:au no w w1) (y:nS bq w1 G ()) (z:∀i,G i->w.heap.size<=i)
  {A:TypeId} (B:dr w1 s (.cells (dB [pt bq]) A (0,0))) (ty:TypeId):∃p' c' a,(bM #[90,90] ty #[.slice p n c,.slice (aa ⟨w1.heap.size,0,ag⟩) 1 1]).run Tryz.prog s=.ok (.slice p' (n+1) c') a/\
   ∃t,mU p' c' a t (n+1)/\au F w a/\∀i,t i->F i∨w.heap.size<=i:=by
 obtain⟨u,C,F1,F2,d,D,k,E⟩:=h;subst C;have m:=d.2.ak j (λ_ _ h=>h);obtain⟨p',c',a,H,I,f,g⟩:=J6 VV (v:=pt bq) rfl m (by dsimp only;omega) (by dsimp only;omega) B ty;have o:=Fam.push D j (show At nS w1 G (bq,())from y) z;obtain⟨H2,f1,f2,f3⟩:=o
 have hd:∀i,H2 i->¬bg p i:=λi hi e=>by
  rcases f3 i hi with h|h
  ·exact E i ((d.1 i).2 e) h
  ·have:=(Frame.lpo ..).lt d i ((d.1 i).2 e);omega
 have q:Fam (At nS) a H2 (u++[(bq,())]):=Frame.lJ.ak f1 f (λi hi e=>hd i hi e);have r:∀i,H2 i->i<w1.heap.size:=λi hi=>Frame.lJ.lt f1 i hi;refine⟨p',c',a,H,λi=>bg p' i∨H2 i,⟨u++[(bq,())],by simp,λi=>bg p' i,H2,⟨λ_=>bB,?_⟩,q,λ_=>bB,λi hi x=>?_⟩,?_,λi hi=>?_⟩
 ·simp only[cz,qJ,fj];exact I
 ·rcases g i hi with h|h
  ·exact hd i x h
  ·have:=r i x;omega
 ·exact(j.mono (λ_ _ h=>h.elim)).trans f (λi hi e=>(k i).2 (.inl ((d.1 i).2 e)))
 ·rcases hi with hi|hi
  ·rcases g i hi with h|h
   ·exact .inl ((k i).2 (.inl ((d.1 i).2 h)))
   ·exact .inr (aX j.size h)
  ·exact(f3 i hi).imp (λh=>(k i).2 (.inr h)) id
theorem VM {b:Nat} {w w':World} (a:dr w w' (.cells (dB [.pointer ag,.map ag]) 136 (0,0))):de w.heap.size w' (λi=>i=w.heap.size) (ag,λ_=>ae):=by
 refine⟨ag,ag,⟨λi=>i=w.heap.size,λ_=>False,⟨λi=>i=w.heap.size,λ_=>False,Rw.new a rfl,λi h=>h,λi=>by simp,λ_ _ h=>h⟩,λi h=>h,λi=>by simp,λ_ _ h=>h⟩,⟨rfl,λk=>rfl,λr d=>(by cases d)⟩⟩
set_option maxRecDepth 100000 in
set_option maxHeartbeats 1000000 in
theorem Pz (n:Nat) (R:1<=n/\n<=64) (w:World):Cx 8 #[I (n:Int)] w λe w'=>∃b F,e=Z (.tuple #[pt b,I 0])/\KO b w' F (dE n)/\au no w w'/\∀i,F i->w.heap.size<=i:=by
 refine u8 ?_;rw[t8];refine⟨λ_=>⟨λg=>(by have:=aO g;omega),λ_=>⟨(tI (n:Int) w).mono ?_⟩⟩,λg=>(by have:=aO g;omega)⟩;rintro e Q ⟨rfl,rfl⟩;refine⟨_,rfl,⟨λw1 U=>⟨λw2 hN=>?_⟩⟩⟩
 have u:jQ w1.heap.size Q w2 [.ow Q.heap.size (λ_=>ag,0)] [.pointer ag,.pointer ag,.pointer ag,.pointer ag,.pointer ag,.pointer ag,.pointer ag,.pointer ag,.pointer ag,.pointer ag,.pointer ag,.pointer ag,.pointer ag,.pointer ag,.slice ag 0 0,I (n:Int),.int .u64 (mi (bp n)),.int .u64 (mi (bp n)),I 0,I 1073741824,.map (aa Q.heap.size)]:=by
  refine bY.add (A:=Fam (vA w1.heap.size)) (B:=Rw w1.heap.size 94 (λs=>s)) (w:=w1) (s:=[.ow Q.heap.size (λ_=>ag,0)]) ?_ (hN.ak no) (Rw.new hN rfl) (λi hi=>bG hi.symm);refine⟨λi=>i=Q.heap.size,⟨λi=>i=Q.heap.size,λ_=>False,bF.new U,λi h=>h,λi=>by simp,λ_ _ h=>h⟩,U.ak no,λi hi=>bG hi.symm⟩
 generalize hb:w1.heap.size=b at u⊢;generalize hm:Q.heap.size=m at u⊢;refine⟨(aer (n:Int) _).mono ?_⟩;rintro e w3 (⟨P,_⟩|⟨_,d,F_th,rfl,O,L,N⟩)
 ·exact absurd ⟨by omega,by omega⟩ P
 replace u:=u.push L (s:=.th d (tK n)) O N;clear O N L;refine⟨_,_,rfl,⟨(ZE _ _ _).mono ?_⟩⟩;rintro e w4 ⟨rfl,rfl⟩;refine⟨_,rfl,?_⟩;refine⟨(abi (n:Int) _).mono ?_⟩;rintro e w5 (⟨P,_⟩|⟨_,f,F_rq,rfl,O,L,N⟩)
 ·exact absurd ⟨by omega,by omega⟩ P
 replace u:=u.push L (s:=.rq f (aD n (32,[]))) O N;clear O N L;refine⟨_,_,rfl,⟨(ZA _ _ _).mono ?_⟩⟩;rintro e w6 ⟨rfl,rfl⟩;refine⟨_,rfl,_,rfl,u.wr (o:=0) [pt d,.pointer ag,.pointer ag,.pointer ag,.pointer ag,.pointer ag,.pointer ag,.pointer ag,.pointer ag,.pointer ag,.pointer ag,.pointer ag,.pointer ag,.pointer ag,.slice ag 0 0,I (n:Int),.int .u64 (mi (bp n)),.int .u64 (mi (bp n)),I 0,I 1073741824,.map (aa m)] rfl (dH rfl) λw7 u=>⟨_,rfl,u.wr (o:=1) [pt d,pt f,.pointer ag,.pointer ag,.pointer ag,.pointer ag,.pointer ag,.pointer ag,.pointer ag,.pointer ag,.pointer ag,.pointer ag,.pointer ag,.pointer ag,.slice ag 0 0,I (n:Int),.int .u64 (mi (bp n)),.int .u64 (mi (bp n)),I 0,I 1073741824,.map (aa m)] rfl (dH rfl) λw8 u=>?_⟩⟩;refine⟨(aes n R _).mono ?_⟩;rintro e w9 ⟨k,F_tm,rfl,O,L,N⟩;replace u:=u.push L (s:=.tm k (kY n)) O N;clear O N L;refine⟨_,_,rfl,⟨(ZF _ _ _).mono ?_⟩⟩;rintro e bz ⟨rfl,rfl⟩;refine⟨_,rfl,?_⟩;refine⟨(ZJ (n:Int) _).mono ?_⟩;rintro e cb (⟨P,_⟩|⟨_,r,F_ir,rfl,O,L,N⟩)
 ·exact absurd ⟨by omega,by omega⟩ P
 replace u:=u.push L (s:=.ir r ((n:Int),aD 16 i0)) O N;clear O N L;refine⟨_,_,rfl,⟨(Zy _ _ _).mono ?_⟩⟩;rintro e cc ⟨rfl,rfl⟩;refine⟨_,rfl,_,rfl,u.wr (o:=2) [pt d,pt f,pt k,.pointer ag,.pointer ag,.pointer ag,.pointer ag,.pointer ag,.pointer ag,.pointer ag,.pointer ag,.pointer ag,.pointer ag,.pointer ag,.slice ag 0 0,I (n:Int),.int .u64 (mi (bp n)),.int .u64 (mi (bp n)),I 0,I 1073741824,.map (aa m)] rfl (dH rfl) λcd u=>⟨_,rfl,u.wr (o:=3) [pt d,pt f,pt k,pt r,.pointer ag,.pointer ag,.pointer ag,.pointer ag,.pointer ag,.pointer ag,.pointer ag,.pointer ag,.pointer ag,.pointer ag,.slice ag 0 0,I (n:Int),.int .u64 (mi (bp n)),.int .u64 (mi (bp n)),I 0,I 1073741824,.map (aa m)] rfl (dH rfl) λce u=>?_⟩⟩;refine⟨(abp n R _).mono ?_⟩;rintro e cl ⟨t,F_rt,rfl,O,L,N⟩;replace u:=u.push L (s:=.rt t ((n:Int),aD 16 (-1))) O N;clear O N L;refine⟨_,_,rfl,⟨(ZB _ _ _).mono ?_⟩⟩;rintro e cq ⟨rfl,rfl⟩;refine⟨_,rfl,?_⟩;refine⟨(ajA (n:Int) _).mono ?_⟩;rintro e cr (⟨P,_⟩|⟨_,x,F_wk,rfl,O,L,N⟩)
 ·exact absurd ⟨by omega,by omega⟩ P
 replace u:=u.push L (s:=.wk x (gi n)) O N;clear O N L;refine⟨_,_,rfl,⟨(ZG _ _ _).mono ?_⟩⟩;rintro e dc ⟨rfl,rfl⟩;refine⟨_,rfl,_,rfl,u.wr (o:=4) [pt d,pt f,pt k,pt r,pt t,.pointer ag,.pointer ag,.pointer ag,.pointer ag,.pointer ag,.pointer ag,.pointer ag,.pointer ag,.pointer ag,.slice ag 0 0,I (n:Int),.int .u64 (mi (bp n)),.int .u64 (mi (bp n)),I 0,I 1073741824,.map (aa m)] rfl (dH rfl) λdl u=>⟨_,rfl,u.wr (o:=5) [pt d,pt f,pt k,pt r,pt t,pt x,.pointer ag,.pointer ag,.pointer ag,.pointer ag,.pointer ag,.pointer ag,.pointer ag,.pointer ag,.slice ag 0 0,I (n:Int),.int .u64 (mi (bp n)),.int .u64 (mi (bp n)),I 0,I 1073741824,.map (aa m)] rfl (dH rfl) λdn u=>?_⟩⟩;refine⟨(Vo (n:Int) _).mono ?_⟩;rintro e ds (⟨P,_⟩|⟨_,y,F_ca,rfl,O,L,N⟩)
 ·exact absurd ⟨by omega,by omega⟩ P
 replace u:=u.push L (s:=.ca y (j7 n)) O N;clear O N L;refine⟨_,_,rfl,⟨(Zu _ _ _).mono ?_⟩⟩;rintro e dv ⟨rfl,rfl⟩;refine⟨_,rfl,?_⟩;refine⟨(acg (n:Int) 12 _).mono ?_⟩;rintro e dx (⟨P,_⟩|⟨_,z,F_st,rfl,O,L,N⟩)
 ·exact absurd (show tN (n:Int) 12 from⟨by omega,by omega,by omega,by omega⟩) P
 replace u:=u.push L (s:=.st z (kX n 12)) O N;clear O N L;refine⟨_,_,rfl,⟨(ZD _ _ _).mono ?_⟩⟩;rintro e ea ⟨rfl,rfl⟩;refine⟨_,rfl,_,rfl,u.wr (o:=6) [pt d,pt f,pt k,pt r,pt t,pt x,pt y,.pointer ag,.pointer ag,.pointer ag,.pointer ag,.pointer ag,.pointer ag,.pointer ag,.slice ag 0 0,I (n:Int),.int .u64 (mi (bp n)),.int .u64 (mi (bp n)),I 0,I 1073741824,.map (aa m)] rfl (dH rfl) λec u=>⟨_,rfl,u.wr (o:=7) [pt d,pt f,pt k,pt r,pt t,pt x,pt y,pt z,.pointer ag,.pointer ag,.pointer ag,.pointer ag,.pointer ag,.pointer ag,.slice ag 0 0,I (n:Int),.int .u64 (mi (bp n)),.int .u64 (mi (bp n)),I 0,I 1073741824,.map (aa m)] rfl (dH rfl) λee u=>?_⟩⟩;refine⟨(RM n R _).mono ?_⟩;rintro e eg ⟨C,F_sc,rfl,O,L,N⟩;replace u:=u.push L (s:=.sc C (aD n 0)) O N;clear O N L;refine⟨_,_,rfl,⟨(ZC _ _ _).mono ?_⟩⟩;rintro e ei ⟨rfl,rfl⟩;refine⟨_,rfl,?_⟩;refine⟨(WX n R _).mono ?_⟩;rintro e ej ⟨D,F_ga,rfl,O,L,N⟩;replace u:=u.push L (s:=.ga D (aD n 0,0)) O N;clear O N L;refine⟨_,_,rfl,⟨(Zw _ _ _).mono ?_⟩⟩;rintro e ek ⟨rfl,rfl⟩;refine⟨_,rfl,_,rfl,u.wr (o:=8) [pt d,pt f,pt k,pt r,pt t,pt x,pt y,pt z,pt C,.pointer ag,.pointer ag,.pointer ag,.pointer ag,.pointer ag,.slice ag 0 0,I (n:Int),.int .u64 (mi (bp n)),.int .u64 (mi (bp n)),I 0,I 1073741824,.map (aa m)] rfl (dH rfl) λel u=>⟨_,rfl,u.wr (o:=9) [pt d,pt f,pt k,pt r,pt t,pt x,pt y,pt z,pt C,pt D,.pointer ag,.pointer ag,.pointer ag,.pointer ag,.slice ag 0 0,I (n:Int),.int .u64 (mi (bp n)),.int .u64 (mi (bp n)),I 0,I 1073741824,.map (aa m)] rfl (dH rfl) λem u=>?_⟩⟩;refine⟨(Vp n R _).mono ?_⟩;rintro e en ⟨E,F_co,rfl,O,L,N⟩;replace u:=u.push L (s:=.co E (aD n ⟨ah,ae,0,0⟩)) O N;clear O N L;refine⟨_,_,rfl,⟨(Zv _ _ _).mono ?_⟩⟩;rintro e eo ⟨rfl,rfl⟩;refine⟨_,rfl,?_⟩;refine⟨(Y9 n R _).mono ?_⟩;rintro e ep ⟨H,F_me,rfl,O,L,N⟩;replace u:=u.push L (s:=.me H n) O N;clear O N L;refine⟨_,_,rfl,⟨(Zz _ _ _).mono ?_⟩⟩;rintro e eq ⟨rfl,rfl⟩;refine⟨_,rfl,_,rfl,u.wr (o:=12) [pt d,pt f,pt k,pt r,pt t,pt x,pt y,pt z,pt C,pt D,.pointer ag,.pointer ag,pt E,.pointer ag,.slice ag 0 0,I (n:Int),.int .u64 (mi (bp n)),.int .u64 (mi (bp n)),I 0,I 1073741824,.map (aa m)] rfl (dH rfl) λer u=>⟨_,rfl,u.wr (o:=13) [pt d,pt f,pt k,pt r,pt t,pt x,pt y,pt z,pt C,pt D,.pointer ag,.pointer ag,pt E,pt H,.slice ag 0 0,I (n:Int),.int .u64 (mi (bp n)),.int .u64 (mi (bp n)),I 0,I 1073741824,.map (aa m)] rfl (dH rfl) λV u=>?_⟩⟩;refine⟨λX Y=>⟨λes al=>?_⟩⟩;replace u:=u.push (Y.ak no) (s:=.so V.heap.size (0,0)) (Rw.new Y rfl) (λi hi=>bG hi.symm);replace u:=u.push (al.ak no) (s:=.dk X.heap.size (ag,λ_=>ae)) (VM (b:=0) al) (λi hi=>bG hi.symm);generalize V.heap.size=J at u⊢;generalize X.heap.size=K at u⊢;refine⟨_,rfl,u.wr (o:=10) [pt d,pt f,pt k,pt r,pt t,pt x,pt y,pt z,pt C,pt D,pt J,.pointer ag,pt E,pt H,.slice ag 0 0,I (n:Int),.int .u64 (mi (bp n)),.int .u64 (mi (bp n)),I 0,I 1073741824,.map (aa m)] rfl (dH rfl) λet u=>⟨_,rfl,u.wr (o:=11) [pt d,pt f,pt k,pt r,pt t,pt x,pt y,pt z,pt C,pt D,pt J,pt K,pt E,pt H,.slice ag 0 0,I (n:Int),.int .u64 (mi (bp n)),.int .u64 (mi (bp n)),I 0,I 1073741824,.map (aa m)] rfl (dH rfl) λaz u=>?_⟩⟩;replace u:=u.push (au.refl no _) (s:=.gv ag 0 0) (G:=λ_=>False) ⟨[],rfl,λ_=>False,λ_=>False,⟨λi=>⟨λh=>h.elim,λ⟨a,ha,_⟩=>by cases ha⟩,Sl.nil _ _ _⟩,Fam.nil _,λi=>by simp,λ_ h=>h.elim⟩ (λi h=>h.elim);have bb:jQ b Q az [.ow m (λ_=>ag,0),.th d (tK n),.rq f (aD n (32,[])),.tm k (kY n),.ir r ((n:Int),aD 16 i0),.rt t ((n:Int),aD 16 (-1)),.wk x (gi n),.ca y (j7 n),.st z (kX n 12),.sc C (aD n 0),.ga D (aD n 0,0),.co E (aD n ⟨ah,ae,0,0⟩),.me H n,.so J (0,0),.dk K (ag,λ_=>ae),.gv ag 0 0] [pt d,pt f,pt k,pt r,pt t,pt x,pt y,pt z,pt C,pt D,pt J,pt K,pt E,pt H,.slice ag 0 0,I (n:Int),.int .u64 (mi (bp n)),.int .u64 (mi (bp n)),I 0,I 1073741824,.map (aa m)]:=u;clear u;refine⟨bJ bA (M:=M8) (σ:=Nat) (λi=>GZ (aa ⟨b,0,ag⟩) (n:Int) (i:Int)) (λi w'=>i<=n/\∃p c,jQ b Q w' [.ow m (λ_=>ag,0),.th d (tK n),.rq f (aD n (32,[])),.tm k (kY n),.ir r ((n:Int),aD 16 i0),.rt t ((n:Int),aD 16 (-1)),.wk x (gi n),.ca y (j7 n),.st z (kX n 12),.sc C (aD n 0),.ga D (aD n 0,0),.co E (aD n ⟨ah,ae,0,0⟩),.me H n,.so J (0,0),.dk K (ag,λ_=>ae),.gv p c i] [pt d,pt f,pt k,pt r,pt t,pt x,pt y,pt z,pt C,pt D,pt J,pt K,pt E,pt H,.slice p i c,I (n:Int),.int .u64 (mi (bp n)),.int .u64 (mi (bp n)),I 0,I 1073741824,.map (aa m)]) (λi _=>n-i) 0 ⟨rfl,rfl,rfl,trivial⟩ ⟨cZ _,ag,0,bb⟩ ?_⟩;rintro i v1 ⟨hi,p,c,u⟩;rw[adV];refine⟨λg=>?_,λg=>?_⟩
 ·have g:=aO g;have ew:i<n:=by omega
  intro v2 q1 q2 q3 q4;have be:au no v1 v2:=au.same no q1 q2 q3 q4;have S:=bY.ak u be;refine⟨_,rfl,p,i,c,(jQ.ax S).aE rfl,⟨(Wz (a:=100) (b:=1000) ⟨by omega,by omega,by omega⟩ v2).mono ?_⟩⟩;rintro e v3 ⟨bq,G,rfl,hQ,am,bl⟩;have T:=bY.ak S am;refine⟨_,_,rfl,(jQ.ax T).aE rfl,⟨(Zx _ _ _).mono ?_⟩⟩;rintro e v4 ⟨rfl,rfl⟩;refine⟨_,rfl,(jQ.ax T).aE rfl,⟨λv5 ap=>?_⟩⟩;have bm:=bY.ak T (ap.ak no);obtain⟨F1,h1,k1⟩:=bY.left S;obtain⟨F2,a1,a2,a3⟩:=Fam.at h1 (i:=15) (by simp);obtain⟨p',c',v6,hr,F3,b1,b2,b3⟩:=mU.push (n:=i) a1 (by omega) am hQ bl ap 90;refine⟨(jQ.ax bm).aE rfl,p',i+1,c',v6,hr,_,rfl,?_⟩;have bs:jQ b Q v6 [.ow m (λ_=>ag,0),.th d (tK n),.rq f (aD n (32,[])),.tm k (kY n),.ir r ((n:Int),aD 16 i0),.rt t ((n:Int),aD 16 (-1)),.wk x (gi n),.ca y (j7 n),.st z (kX n 12),.sc C (aD n 0),.ga D (aD n 0,0),.co E (aD n ⟨ah,ae,0,0⟩),.me H n,.so J (0,0),.dk K (ag,λ_=>ae),.gv p' c' (i+1)] [pt d,pt f,pt k,pt r,pt t,pt x,pt y,pt z,pt C,pt D,pt J,pt K,pt E,pt H,.slice p i c,I (n:Int),.int .u64 (mi (bp n)),.int .u64 (mi (bp n)),I 0,I 1073741824,.map (aa m)]:=k1 _ _ (a3 v6 (.gv p' c' (i+1)) ⟨F3,b1,b2,b3⟩);exact jQ.wr bs (o:=14) [pt d,pt f,pt k,pt r,pt t,pt x,pt y,pt z,pt C,pt D,pt J,pt K,pt E,pt H,.slice p' (i+1) c',I (n:Int),.int .u64 (mi (bp n)),.int .u64 (mi (bp n)),I 0,I 1073741824,.map (aa m)] rfl (dH rfl) λv7 bv=>⟨i+1,⟨rfl,rfl,by rw[aN (by omega)];rfl,trivial⟩,⟨by omega,p',c',bv⟩,by omega⟩
 ·have g:=aV g;have bw:n=i:=by omega
  subst bw;obtain⟨F0,⟨F1,F2,h1,h2,h3,h4⟩,L,N⟩:=u
  let q:KQ:=⟨d,f,k,r,t,x,y,z,C,D,J,K,E,H,p,c,m⟩
  have aq:Fam (vA b) v1 F0 (KP.row q (n,bp n,bp n,0,1073741824)::[.ow m (λ_=>ag,0),.th d (tK n),.rq f (aD n (32,[])),.tm k (kY n),.ir r ((n:Int),aD 16 i0),.rt t ((n:Int),aD 16 (-1)),.wk x (gi n),.ca y (j7 n),.st z (kX n 12),.sc C (aD n 0),.ga D (aD n 0,0),.co E (aD n ⟨ah,ae,0,0⟩),.me H n,.so J (0,0),.dk K (ag,λ_=>ae),.gv p c n]):=⟨F2,F1,⟨h2.1,h2.2⟩,h1,λj=>(h3 j).trans Or.comm,λj hj hk=>h4 j hk hj⟩;refine⟨b,F0,rfl,⟨q,aD n 0,(λ_=>ag,0),jm.perm ?_ aq,rfl,R⟩,L,λj hj=>hm ▸ N j hj⟩;refine List.Perm.cons _ ?_;show List.Perm (α:=KP) ([.ow m (λ_=>ag,0)]++([.th d (tK n),.rq f (aD n (32,[])),.tm k (kY n),.ir r ((n:Int),aD 16 i0),.rt t ((n:Int),aD 16 (-1)),.wk x (gi n),.ca y (j7 n),.st z (kX n 12),.sc C (aD n 0),.ga D (aD n 0,0)]++([.co E (aD n ⟨ah,ae,0,0⟩),.me H n]++([.so J (0,0),.dk K (ag,λ_=>ae)]++[.gv p c n])))) ([.th d (tK n),.rq f (aD n (32,[])),.tm k (kY n),.ir r ((n:Int),aD 16 i0),.rt t ((n:Int),aD 16 (-1)),.wk x (gi n),.ca y (j7 n),.st z (kX n 12),.sc C (aD n 0),.ga D (aD n 0,0)]++([.so J (0,0),.dk K (ag,λ_=>ae)]++([.co E (aD n ⟨ah,ae,0,0⟩),.me H n]++[.gv p c n,.ow m (λ_=>ag,0)])));refine List.perm_append_comm.trans ?_;simp only[iY];refine List.Perm.append_left _ ?_;exact(List.perm_append_comm_assoc _ _ _)
def wq:K:=dE 2
def wU:cJ:=(3,0,2,3,0)
def wV:cJ:=(1,1,0,0,0)
def wW:cJ:=(24,1,0,0,0)
def wt:K:=dy wq wU
def wu:K:=dy wt wV
def Tj:K:=dy wu wW
def yN:Nat->K
 | 0=>Tj
 | n+1=>dy (yN n) (1,((n%2:Nat):Int),0,0,0)
theorem JZ:fL wq wU=[(1,0,1,0,0)]:=by kernel_rfl
theorem J0:fL wt wV=[(2,1,1,0,0)]:=by kernel_rfl
theorem J1:fL wu wW=[(1,0,0,0,0)]:=by kernel_rfl
theorem Tk:(yN 40).on=1:=by kernel_rfl
theorem JW:aB wq:=QB ⟨by omega,by omega⟩
theorem JX:aB wt:=JW.uR wU
theorem JY:aB wu:=JX.uR wV
theorem J2:∀n,aB (yN n)
 | 0=>JY.uR wW
 | n+1=>(J2 n).uR _
theorem ai.xq {σ τ:Type} {A:Ob σ} {B:Ob τ} [g:Frame B] {W w:World} {F:Fp} {x:σ×τ} (a:Tab W) (j:¬F 0) (h:ai (aF A B) W w F x) :
  ∃F1,A w F1 x.1/\Tab w/\¬F1 0/\∀{υ:Type} (e:Ob υ) w' f,ai e w w' F1 f->ai (aF e B) W w' F (f,x.2):=by
 have u:=a.pos;have p:=h.lY a j;obtain⟨y,q,l,c⟩:=h;obtain⟨F1,F2,r,m,d,n⟩:=q;refine⟨F1,r,p,λs=>?_,?_⟩
 ·rcases c 0 ((d 0).2 (.inl s))with k|k
  ·exact j k
  ·omega
 ·rintro υ e w' f ⟨G1,t,k2,o⟩;refine⟨λi=>G1 i∨F2 i,⟨G1,F2,t,g.ak m k2 (λi hi b=>n i b hi),λ_=>bB,λi hi b=>?_⟩,l.trans k2 (λi hi b=>(c i ((d i).2 (.inl b))).elim id (λh=>absurd h (by omega))),λi hi=>?_⟩
  ·rcases o i hi with h|h
   ·exact n i h b
   ·have:=g.lt m i b;omega
  ·rcases hi with hi|hi
   ·rcases o i hi with h|h
    ·exact c i ((d i).2 (.inl h))
    ·exact .inr (aX l.size h)
   ·exact c i ((d i).2 (.inr hi))
theorem Rh (x:Rc):(kc x).length=5:=rfl
theorem Wj (n:Int) {p:Option Addr} {m c:Nat} (w:World):Cx 9 #[I n,.slice p m c] w λe w'=>e=Z (.bool (decide (1<=n/\n<=9/\m<=300)))/\w'=w:=by
 refine u9 ?_;refine⟨λg=>⟨λa=>⟨?_,rfl⟩,λa=>⟨?_,rfl⟩⟩,λg=>⟨?_,rfl⟩⟩
 ·have:=aO g;have:=aO a;have e:decide ((m:Int)<=300)=decide (1<=n/\n<=9/\m<=300):=decide_eq_decide.2 (by omega);rw[e]
 ·have:=aV a;rw[decide_eq_false (by omega)]
 ·have:=aV g;rw[decide_eq_false (by omega)]
set_option maxRecDepth 100000 in
theorem V8 (x y:Rc) (w:World):∃b,(Op.equal 43 (.agg #[I x.1,I x.2.1,I x.2.2.1,I x.2.2.2.1,I x.2.2.2.2]) (.agg #[I y.1,I y.2.1,I y.2.2.1,I y.2.2.2.1,I y.2.2.2.2])).run Tryz.prog w=.ok b w/\(b=ah↔x=y):=by
 have c:Tryz.prog.stoodInHeld 43=ae:=by kernel_rfl
 have d:zz Tryz.prog (Tryz.prog.fieldsOf 43).toList 0 (kc x)=ah:=by kernel_rfl
 have e:isStr Tryz.prog 43=ah:=by kernel_rfl
 have f:Ay (kc x) (kc y)=ah:=rfl;have a:=abE (kc x) c d e (vs:=kc y) f w;unfold kc at a;refine⟨_,a,?_⟩;simp only[wT,D6,mu,br,beq_iff_eq];constructor
 ·rintro⟨c,d,e,f,a⟩;exact na c (na d (na e (na f a)))
 ·rintro rfl;exact⟨rfl,rfl,rfl,rfl,rfl⟩
theorem IF {w:World} {p q:Option Addr} {l m:List Rc} {c d:Nat} (h:Cells w p (l.flatMap kc)) (k:Cells w q (m.flatMap kc)) (z:l.length<=1000) :
  Cx 59 #[.slice p l.length c,.slice q m.length d] w λe w'=>e=Z (.bool (decide (l=m)))/\au no w w':=by
 refine u59 ?_;refine⟨λg=>⟨?_,au.refl _ _⟩,λg=>?_⟩
 ·have:l≠m:=λe=>by subst e;simp at g
  simp[this]
 ·have C:l.length=m.length:=by simp at g;omega
  refine⟨bJ bA (M:=Bs) (σ:=Nat) (λi=>GS p l.length c q m.length d i) (λi w'=>i<=l.length/\l.take i=m.take i/\au no w w') (λi _=>l.length-i) 0 ⟨rfl,rfl,rfl,trivial⟩ ⟨by omega,by simp,au.refl _ _⟩ ?_⟩;intro i w1 hI;have J:=hI.1;have t:=hI.2.1;have A:=hI.2.2;rw[adG];refine⟨λu D E F G H=>?_,λx=>⟨?_,A⟩⟩
  ·have hi:i<l.length:=by simpa using u
   have n:i<m.length:=by omega
   have j:=A.trans (au.same no E F G H) (λ_ _ h=>h);obtain⟨a,I,o⟩:=(h.no j).qN Rh (by decide) hi;obtain⟨b,z,f⟩:=(k.no j).qN Rh (by decide) n;obtain⟨B,y,r⟩:=V8 l[i] m[i] D;refine⟨⟨by omega,by omega⟩,a,I,_,o 0 _ rfl,_,o 1 _ rfl,_,o 2 _ rfl,_,o 3 _ rfl,_,o 4 _ rfl,⟨by omega,by omega⟩,b,z,_,f 0 _ rfl,_,f 1 _ rfl,_,f 2 _ rfl,_,f 3 _ rfl,_,f 4 _ rfl,B,y,rfl,λs=>⟨?_,j⟩,λs=>?_⟩
   ·have:l≠m:=λe=>by
     have:B=ah:=r.2 (by simp only[e]);rw[this]at s;cases s
    simp[this]
   ·have y:l[i]=m[i]:=r.1 (by simpa using s);exact⟨i+1,⟨rfl,rfl,by rw[aN (by omega)];rfl,trivial⟩,⟨by omega,by rw[ey hi,ey n,t,y],j⟩,by omega⟩
  ·have:i=l.length:=by simp at x;omega
   subst this;rw[dA,C,dA]at t;simp[t]
theorem uq.cells {p:Option Addr} {c:Nat} {w:World} {F:Fp} {rs:List Rc} (h:uq p c w F rs):Cells w p (rs.flatMap kc):=h.2.cells
theorem PB {b:Nat} {W w:World} {F:Fp} {k:K} (h:ai (KO b) W w F k):Cx 22 #[pt b] w λe w'=>e=Z (.int .u64 (mi k.on))/\w'=w:=by
 obtain⟨q,a⟩:=KO.fix h;refine u22 ?_;exact⟨λg=>(by cases g),λ_=>⟨_,rfl,_,(KF.ax a).cell rfl,rfl,rfl⟩⟩
theorem E7 {w:World} (f:Tab w):Cx 10 #[] w λe w'=>e=Z (.bool ah)/\au no w w':=by
 refine u10 ?_;refine⟨(Pz 2 ⟨by omega,by omega⟩ w).mono ?_⟩;rintro e w1 ⟨b,F,rfl,hK,hU,hF⟩;have d:Tab w1:=f.no hU;have B:¬F 0:=λhh=>by have:=hF 0 hh;have:=f.pos;omega
 refine⟨_,_,rfl,λ_=>⟨λg=>(by cases g),λ_=>⟨(zN (k:=wq) (e:=wU) d B (ai.same hK) JW.jj).mono ?_⟩⟩,λg=>by simp at g⟩;rintro e w2 ⟨D,ca,rfl,hA⟩;obtain⟨F2,E,G,H,k2⟩:=hA.xq d B;refine⟨_,_,_,rfl,⟨(zN (k:=wt) (e:=wV) G H (ai.same E) JX.jj).mono ?_⟩⟩;rintro e w3 ⟨I,cb,rfl,hB⟩;replace hB:=k2 _ _ _ hB;obtain⟨F3,J,K,L,k3⟩:=hB.xq d B;obtain⟨F4,N,O,P,k4⟩:=(ai.same J).xq K L;refine⟨_,_,_,rfl,⟨(zN (k:=wu) (e:=wW) O P (ai.same N) JY.jj).mono ?_⟩⟩;rintro e w4 ⟨Q,cc,rfl,R⟩;replace R:=k3 _ _ _ (k4 _ _ _ R);refine⟨_,_,_,rfl,⟨bJ bA (M:=vB) (σ:=Nat) (λi=>Ge (aa ⟨b,0,ag⟩) D _ ca I _ cb Q _ cc (i:Int)) (λi w'=>i<=40/\ai (aF (aF (aF (KO b) (uq Q cc)) (uq I cb)) (uq D ca)) w1 w' F (((yN i,fL wu wW),fL wt wV),fL wq wU)) (λi _=>40-i) 0 ⟨rfl,rfl,rfl,rfl,rfl,trivial⟩ ⟨by omega,R⟩ ?_⟩⟩;rintro i C ⟨hi,s⟩;rw[acD];refine⟨λg=>?_,λg=>aP.mk ?_⟩
 ·have g:=aO g;obtain⟨F5,S,T,U,k5⟩:=s.xq d B;obtain⟨F6,V,W,X,k6⟩:=(ai.same S).xq T U;obtain⟨F7,Y,al,am,k7⟩:=(ai.same V).xq W X;have em:eO (i:Int) 2=((i%2:Nat):Int):=by rw[px (by omega)];omega
  rw[em];refine⟨by omega,⟨(zN (k:=yN i) (e:=(1,((i%2:Nat):Int),0,0,0)) al am (ai.same Y) (J2 i).jj).mono ?_⟩⟩;rintro e w6 ⟨pd,cd,rfl,hD⟩;exact⟨_,_,_,rfl,i+1,⟨rfl,rfl,rfl,rfl,by rw[aN (by omega)];rfl,trivial⟩,⟨by omega,k5 _ _ _ (k6 _ _ _ (k7 _ _ _ hD.drop))⟩,by omega⟩
 ·have g:=aV g;have ap:i=40:=by omega
  subst ap;rw[acC];have t:Cells C D ((fL wq wU).flatMap kc):=by obtain⟨_,x,_⟩:=s.right;exact x.cells
  have y:Cells C I ((fL wt wV).flatMap kc):=by obtain⟨_,x,_⟩:=s.drop.right;exact x.cells
  have z:Cells C Q ((fL wu wW).flatMap kc):=by obtain⟨_,x,_⟩:=s.drop.drop.right;exact x.cells
  have hD:=s.drop.drop.drop
  have aq:au no w C:=by
   obtain⟨F',_,az,_⟩:=s;exact hU.trans az (λi hi hf=>by have:=hF i hf;omega)
  rw[JZ]at t;rw[J0]at y;rw[J1]at z;rw[JZ,J0,J1];have one:∀{u:World} {r:Rc} {u':World},dr u u' (.cells (dB (kc r)) 43 (0,0))->Cells u' (aa ⟨u.heap.size,0,ag⟩) ([r].flatMap kc):=λhN=>(Sl.new hN (sz:=5) (n:=1) rfl (show(1:Nat)<=maxLen by unfold maxLen;omega)).cells;refine⟨λw6 p=>⟨(IF (l:=[(1,0,1,0,0)]) (m:=[(1,0,1,0,0)]) (t.no (p.ak no)) (one (r:=(1,0,1,0,0)) p) (by simp)).mono ?_⟩⟩;rintro e w7 ⟨rfl,bb⟩;have j:=(p.ak no).trans bb (λ_ _ h=>h);refine⟨_,rfl,λ_=>⟨λw8 q=>⟨(IF (l:=[(2,1,1,0,0)]) (m:=[(2,1,1,0,0)]) (y.no (j.trans (q.ak no) (λ_ _ h=>h))) (one (r:=(2,1,1,0,0)) q) (by simp)).mono ?_⟩⟩,λg=>by simp at g⟩;rintro e w9 ⟨rfl,be⟩;have o:=(j.trans (q.ak no) (λ_ _ h=>h)).trans be (λ_ _ h=>h);refine⟨_,rfl,λ_=>⟨λbl a=>⟨(IF (l:=[(1,0,0,0,0)]) (m:=[(1,0,0,0,0)]) (z.no (o.trans (a.ak no) (λ_ _ h=>h))) (one (r:=(1,0,0,0,0)) a) (by simp)).mono ?_⟩⟩,λg=>by simp at g⟩;rintro e bm ⟨rfl,A⟩;have c:=(o.trans (a.ak no) (λ_ _ h=>h)).trans A (λ_ _ h=>h);refine⟨_,rfl,λ_=>⟨(PB (hD.ak c)).mono ?_⟩,λg=>by simp at g⟩;rintro e bs ⟨rfl,rfl⟩;refine⟨_,rfl,?_,aq.trans c (λ_ _ h=>h)⟩;rw[Tk];rfl
theorem Qu (k:K) (id:Int):(iO k id).n=k.n:=by unfold iO;split<;>rfl
theorem Qr (k:K) (id:Int):(iF k id).n=k.n:=by unfold iF;split<;>rfl
theorem Qv:∀(l:List Int) (k:K),(l.foldl iO k).n=k.n
 | [],_=>rfl
 | a::l,k=>(Qv l _).trans (Qu k a)
theorem Qs:∀(l:List Int) (k:K),(l.foldl iF k).n=k.n
 | [],_=>rfl
 | a::l,k=>(Qs l _).trans (Qr k a)
theorem Qt (c:Int):∀(l:List Int) (k:K),(l.foldl (λk n=>iy k n c) k).n=k.n
 | [],_=>rfl
 | a::l,k=>(Qt c l _).trans rfl
theorem Zr (k:K) (n:Int):(sV k n).n=k.n:=by unfold sV;split<;>rfl
theorem Zn (k:K) (p:Int) (m:BV):(sQ k p m).n=k.n:=by unfold sQ;split<;>rfl
theorem Zm (k:K) (id:Int) (x:Th) (n:Int):(sO k id x n).n=k.n:=by unfold sO;split;split<;>rfl;rfl
theorem Zi (k:K) (id:Int) (x:Th):(sg k id x).n=k.n:=by unfold sg;split<;>rfl
theorem Zq (k:K) (e:cJ):(iT k e).n=k.n:=by
 unfold iT;simp only;split;rfl;split;rfl;split;exact Zi _ _ _;split
 ·split
  ·exact Qu _ _
  ·rfl
 split;rfl;split;exact Zm _ _ _ _;split<;>rfl
theorem Zj (k:K) (e:cJ):(ra k e).n=k.n:=by
 unfold ra;split;split<;>rfl;split;split<;>rfl;split;split;exact Qr _ _;rfl;split;rfl;split<;>rfl
theorem Qw (k:K) (e:cJ):(j9 k e).n=k.n:=by
 unfold j9;split;rfl;split;unfold tl;split<;>rfl;split;rfl;split;rfl;split;rfl;split<;>rfl
theorem Zl (k:K) (e:cJ):(ke k e).n=k.n:=by
 unfold ke;split;unfold tr;split;split<;>rfl;rfl;split;rfl;split;rfl;split;rfl;split;unfold xr;split<;>rfl;split;rfl;split;unfold nq;split;rfl;split<;>rfl;rfl
theorem Qx (k:K) (s:Int×Bool×Bool) (c aA:Int):(ib k s c aA).n=k.n:=by
 unfold ib;split
 ·unfold oU;split;rfl;split<;>rfl
 split;rfl;split
 ·unfold pD;split;rfl;split;rfl;simp only;rw[Qs,Qv]
 ·unfold jA;split;rfl;split;unfold pH;split<;>rfl;split;rfl;split;rfl;split;rfl;split
  ·unfold pL;split;rfl;split
   ·simp only;rw[Qt]
   ·rfl
  split;rfl;split<;>rfl
theorem Zs (k:K) (aA:Int):(nQ k aA).n=k.n:=by
 have a:(gR k aA).n=k.n:=by
  unfold gR;simp only;split;rfl;split
  ·exact Qx _ _ _ _
  ·exact Qx _ _ _ _
 unfold nQ;split
 ·exact a
 ·exact a
theorem Zp (k:K) (c a:Int):(sU k c a).n=k.n:=by
 unfold sU;split;rfl;split;rfl;split;unfold nw;simp only;split<;>rfl;split<;>rfl
theorem Zo (k:K) (c:Int):(qo k c).n=k.n:=by
 unfold qo;split;rfl;split;rfl;split;rfl;split;exact Zs _ _;split;rfl;exact Zp _ _ _
theorem Zk (k:K) (up:Bool) (c:Int):(iA k up c).n=k.n:=by
 unfold iA;split;rfl;split;rfl;split;rfl;split;rfl;split<;>rfl
theorem Zh (k:K) (e:cJ):(dy k e).n=k.n:=by
 unfold dy;split;split;rfl;exact Zo _ _;split;exact Zr _ _;split;exact Zn _ _ _;split;exact Zq _ _;split;exact Zj _ _;split;split;rfl;exact Qw _ _;split;exact Qw _ _;split;exact Zk _ _ _;exact Zl _ _
theorem Xt (t:dG) (p:Int×Int->Bool):(nF t p).Nodup:=by
 unfold nF;refine qE _ ?_ (wm _ qF);intro a b c e;exact c (by omega)
theorem Xs (t:dG) (p:Int×Int->Bool):(nF t p).length<=t.length:=by
 refine sh (Xt t p) λv a=>?_;obtain⟨x,b,_⟩:=rf.1 a;exact yi b
section
variable {k:K}
end
section
variable {k:K} {r:bu}
theorem Q9 (h:aJ k) (a:aB k) (c:Int):(dd k.rq c).length<=32:=by
 refine sh (P2 a.rq c) λv b=>?_;have d:=(Du a.rq).1 b;exact h.tq.ids a.gQ _ _ d.2
theorem SB (a:aB k) (c:Int):(gJ k.wk c).length<=32:=by
 unfold gJ;split
 ·rename_i b;have hi:ix c<k.wk.length:=by unfold eT at b;unfold ix;omega
  have d:k.wk[ix c]=eI k.wk c:=by unfold eI;rw[aQ,cS hi];rfl
  rw[<-d];exact sh (Cd a.kt hi) λv e=>a.l9 v (kN hi e)
 ·simp
theorem MD (h:aJ k) (c:Int):(jC k.ca c).length<=32:=by
 unfold jC;split
 ·rename_i a;have hi:c.toNat<k.ca.2.length:=by unfold bU at a;omega
  have b:k.ca.2[c.toNat]=bR k.ca c:=by unfold bR;rw[aQ,cS hi];rfl
  rw[<-b];exact(h.ci.row hi).2
 ·simp
end
section
variable {b:Nat} {W w:World} {F:Fp} {k:K} {q:KQ}
theorem re (j:ai (KF b q) W w F k):Cx 72 #[pt b] w λe w'=>(∃s n c,e=Z (.agg #[pt q.th,pt q.rq,pt q.tm,pt q.ir,pt q.rt,pt q.wk,pt q.ca,pt q.st,pt q.sc,pt q.ga,pt q.so,pt q.dk,pt q.co,pt q.me,.slice s n c]))/\au no w w':=by
 refine u72 ?_;refine⟨λw1 d=>⟨λg=>(by cases g),λ_=>?_⟩⟩;have hB:=KF.ax (j.ak (d.ak no));unfold lN at hB;refine⟨_,rfl,_,hB.aE rfl,_,hB.aE rfl,_,hB.aE rfl,_,hB.aE rfl,_,hB.aE rfl,_,hB.aE rfl,_,hB.aE rfl,_,hB.aE rfl,_,hB.aE rfl,_,hB.aE rfl,_,hB.aE rfl,_,hB.aE rfl,_,hB.aE rfl,_,hB.aE rfl,_,_,_,hB.aE rfl,?_⟩;refine d.aK.fQ (by simp) λl f=>?_;have m:au no w l:=(d.ak no).trans (au.mono (G:=λi=>i=w.heap.size) f.U (λ_ _ h=>h)) (λi hi h=>by omega);have a:=f.aK;exact⟨_,a.cell rfl,_,a.cell rfl,_,a.cell rfl,_,a.cell rfl,_,a.cell rfl,_,a.cell rfl,_,a.cell rfl,_,a.cell rfl,_,a.cell rfl,_,a.cell rfl,_,a.cell rfl,_,a.cell rfl,_,a.cell rfl,_,a.cell rfl,_,_,_,a.cell rfl,⟨_,_,_,rfl⟩,m⟩
theorem De (a:ai (KF b q) W w F k):Cx 98 #[pt b] w λe w'=>e=Z (pt q.dk)/\au no w w':=by
 refine u98 ?_;refine⟨(re a).mono ?_⟩;rintro e w1 ⟨⟨s,n,c,rfl⟩,d⟩;exact⟨_,_,_,_,_,_,_,_,_,_,_,_,_,_,_,_,_,rfl,rfl,d⟩
theorem Yv (a:ai (KF b q) W w F k):Cx 92 #[pt b] w λe w'=>e=Z (pt q.wk)/\au no w w':=by
 refine u92 ?_;refine⟨(re a).mono ?_⟩;rintro e w1 ⟨⟨s,n,c,rfl⟩,d⟩;exact⟨_,_,_,_,_,_,_,_,_,_,_,_,_,_,_,_,_,rfl,rfl,d⟩
theorem XU (a:ai (KF b q) W w F k):Cx 94 #[pt b] w λe w'=>e=Z (pt q.ca)/\au no w w':=by
 refine u94 ?_;refine⟨(re a).mono ?_⟩;rintro e w1 ⟨⟨s,n,c,rfl⟩,d⟩;exact⟨_,_,_,_,_,_,_,_,_,_,_,_,_,_,_,_,_,rfl,rfl,d⟩
theorem Ys (a:ai (KF b q) W w F k):Cx 30 #[pt b] w λe w'=>e=Z (pt q.tm)/\au no w w':=by
 refine u30 ?_;refine⟨(re a).mono ?_⟩;rintro e w1 ⟨⟨s,n,c,rfl⟩,d⟩;exact⟨_,_,_,_,_,_,_,_,_,_,_,_,_,_,_,_,_,rfl,rfl,d⟩
theorem X6 (a:ai (KF b q) W w F k):Cx 173 #[pt b] w λe w'=>e=Z (pt q.ir)/\au no w w':=by
 refine afP ?_;refine⟨(re a).mono ?_⟩;rintro e w1 ⟨⟨s,n,c,rfl⟩,d⟩;exact⟨_,_,_,_,_,_,_,_,_,_,_,_,_,_,_,_,_,rfl,rfl,d⟩
theorem Pv (a:ai (KF b q) W w F k):Cx 83 #[pt b] w λe w'=>e=Z (I (k.n:Int))/\w'=w:=by
 refine u83 ?_;exact⟨λg=>(by cases g),λ_=>⟨_,rfl,_,(KF.ax a).cell rfl,rfl,rfl⟩⟩
theorem XO (h:ai (KO b) W w F k):Cx 16 #[pt b] w λe w'=>e=Z (.int .u64 (mi k.ac))/\w'=w:=by
 obtain⟨q,a⟩:=KO.fix h;refine u16 ?_;exact⟨λg=>(by cases g),λ_=>⟨_,rfl,_,(KF.ax a).cell rfl,rfl,rfl⟩⟩
end
end Go.Dav
