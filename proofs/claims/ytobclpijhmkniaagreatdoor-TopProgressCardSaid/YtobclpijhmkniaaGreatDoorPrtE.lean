/- What functions of the program come to, part 5; the texts are made small to keep within a claim. -/
import Derived.Laws.Externs
import Derived.RangeFuncNested
import Derived.RangeFuncLeaves
import Derived.OrdersIn
import Derived.TacticsIn
import Derived.OwnWalkIn
import Derived.Below
import Derived.ChangeArms
import Derived.Deep.Slices
import Derived.Shelf.Abstract
import Derived.WalkKit
import Derived.TacticsInMore
import Derived.LoopNIn
import Derived.LoopIn
import Derived.Test.YtobclpijhmkniaaGreatDoorPrtD
set_option linter.unusedVariables false
set_option linter.unusedSimpArgs false
set_option linter.unusedSectionVars false
namespace Go.Dav
open Go.Proofs
open Value renaming int→aB,bool→lS,pointer→bB,tuple→xq,slice→rM,agg→ns
open _root_.List renaming mem_or_eq_of_mem_set→i7,length_cons→il,length_nil→oq,getElem_mem→cx,mem_cons_of_mem→rP,take_length→dC,mem_cons_self→i6,sum_cons→s9,take_succ_eq_append_getElem→eW,replicate→aD,eq_of_mem_replicate→k8,set_cons_succ→qE,getElem_cons_succ→te,length_map→bW,flatMap_cons→pC,map_append→eI,take→rT,drop→rU,getD_eq_getElem?_getD→aO,getElem?_eq_getElem→cO,toArray→dK,map_set→fx,ext_getElem?→de,getElem?_set→cJ,set_set→rN,drop_eq_getElem_cons→ku,length_replicate→fW,set_cons_zero→qD,replicate_succ'→tf,append_assoc→jP,find?_eq_none→kt,getElem_of_mem→uv,length→gu,foldl_append→mH,take_of_length_le→rO,all_eq_true→fL,getElem?_eq_some_iff→dQ,mem_append→eG,getElem?_append_left→kr,getElem?_append_right→lP
open _root_.Option renaming some→aa,none→ah
open _root_.Nat renaming mul_one→eX,le_refl→aX,le_of_eq→bF,le_trans→aW,mul_le_mul_right→fM,zero_le→cB,beq_refl→vy,beq→dJ,eq_of_beq_eq_true→jn
open _root_.Int renaming toNat_natCast→bQ,fdiv_eq_ediv_of_nonneg→vB,le_refl→fU,tmod→eH,tmod_eq_emod_of_nonneg→ot
open IntKind renaming i64→bj,wrap→aV,bits→lQ,signed→kl,u64→jo
open _root_.Iff renaming rfl→bp
open Addr renaming add_add→dX,add→bP
open Builtin renaming min_→qC,delete_→iJ,max_→xr
open _root_.Bool renaming false→ae,true→ag,or_false→pD,and_eq_true→aY,not_eq_true'→ja,true_and→dR,false_and→js
open Instr renaming lookup→dr
open Result renaming andThen→s5
open _root_.Prod renaming fst→fv
open Code renaming loop→bh
open Fence renaming wide→nt
open _root_.Array renaming getElem?_eq_some_iff→xu,replicate→qz,getElem?_append_left→xt
open World renaming putObj_heap_other→zO,heap→pJ,os→pK,tape→pL,output→pM,cell?→bJ
open Ending renaming returned→cN
theorem X9:eO Tryz.prog 53 2 1 8 [I 0]:=⟨by kernel_rfl,by kernel_rfl,rfl,by omega⟩
abbrev Va (b:Nat):Ob (List Int×Option Addr×Nat):=Hd b 221 2 1 (λl p c=>[.slice p l.length c]) (λl=>l.length) (λl=>l.map (aB .i64))
structure CE (x:List Int):Prop where
 fit:∀v∈x,fZ v
 len:1<=x.length/\x.length<=64
def iH (b:Nat):Ob (List Int):=λw F x=>(∃y,Va b w F (x,y))/\CE x
instance Frame.T7 (b:Nat):Frame (iH b) where
 ak:=λ⟨⟨y,h⟩,r⟩ k a=>⟨⟨y,(Frame.hd ..).ak h k a⟩,r⟩
 lt:=λ⟨⟨_,h⟩,_⟩=>(Frame.hd ..).lt h
theorem AH {x:List Int} {c:Int} (h:iv x c):∃i:Nat,i<x.length/\c=(i:Int):=⟨c.toNat,by unfold iv at h;omega,by unfold iv at h;omega⟩
theorem oO {x:List Int} {i:Nat} (hi:i<x.length):oN x (i:Int)=x[i]:=by simp[oN,hi]
theorem CE.set {x:List Int} (h:CE x) (i:Nat) {v:Int} (c:fZ v):CE (x.set i v):=⟨λz a=>by
 rcases i7 a with a|rfl
 ·exact h.fit z a
 ·exact c,by simpa using h.len⟩
section
variable {b:Nat} {w:World} {F:Fp} {x:List Int}
theorem iH.ay (h:iH b w F x):∃p c,aM w b [.slice p x.length c] 221:=by
 obtain⟨⟨y,h⟩,_⟩:=h;exact⟨_,_,h.ay⟩
theorem iH.at (h:iH b w F x) {i:Nat} (hi:i<x.length):∃a c,aM w b [.slice (aa a) x.length c] 221/\w.cell? (a.add (i*1))=aa (I x[i])/\∀(v:Int),fZ v->∀K:World->Prop,(∀w',ai (iH b) w w' F (x.set i v)->K w')->Wr w (a.add (i*1)) [I v] K:=by
 obtain⟨⟨y,h⟩,g⟩:=h;obtain⟨a,d,j⟩:=h.sl.cells.cv hi;obtain⟨p,c⟩:=y;simp only at d;subst d;refine⟨a,c,h.ay,j,λv k K l=>?_⟩;rw[eX];refine h.sl.wr (o:=i) (by simp only[il,oq];omega) λw' e m=>l w' ?_;have n:=vd (f:=aB .i64) (r:=x) hi (v:=v);rw[n]at e;obtain⟨q,s,t⟩:=h.elems (w':=w') (s':=x.set i v) (by simpa using e) m (by simp);exact⟨q,⟨⟨_,s⟩,g.set i k⟩,t⟩
theorem Fk (h:iH b w F x) (c:Int):Cx 332 #[pt b,I c] w λe w'=>e=Z (I (if iv x c then 0 else 3))/\w'=w:=by
 obtain⟨p,c0,hB⟩:=h.ay;refine akF ?_;refine⟨λg=>(by cases g),λ_=>⟨λg1=>⟨_,rfl,_,_,_,hB.cell rfl,λa=>⟨?_,rfl⟩,λa=>⟨?_,rfl⟩⟩,λg1=>⟨?_,rfl⟩⟩⟩
 ·have a:=aL a;rw[af (by unfold iv;omega)]
 ·have g1:=aT g1;have a:=aT a;rw[aj (by unfold iv;omega)]
 ·have g1:=aL g1;rw[af (by unfold iv;omega)]
theorem TP (h:iH b w F x) (c:Int):Cx 331 #[pt b,I c] w λe w'=>e=Z (.tuple #[I (if iv x c then oN x c else 0),I (if iv x c then 0 else 3)])/\w'=w:=by
 refine akE ?_;refine⟨(Fk h c).mono ?_⟩;rintro e w1 ⟨rfl,rfl⟩;by_cases f:iv x c
 ·obtain⟨i,hi,rfl⟩:=AH f;obtain⟨a,c0,hB,d,_⟩:=h.at hi;simp only[aj f];refine⟨_,rfl,λg=>(by cases g),λ_=>⟨_,rfl,_,_,_,hB.cell rfl,⟨by omega,by omega⟩,_,rfl,_,d,?_⟩⟩;rw[oO hi];exact⟨rfl,trivial⟩
 ·simp only[af f];exact⟨_,rfl,λ_=>⟨rfl,trivial⟩,λg=>(by cases g)⟩
theorem Fc (h:iH b w F x) (c:Int) {n:Int} (p:fZ n):Cx 260 #[pt b,I c,I n] w λe w'=>e=Z (I (nQ x c n))/\ai (iH b) w w' F (lE x c n):=by
 refine ajC ?_;refine⟨(Fk h c).mono ?_⟩;rintro e w1 ⟨rfl,rfl⟩;by_cases j:iv x c
 ·obtain⟨i,hi,rfl⟩:=AH j;obtain⟨a,c0,hB,d,k⟩:=h.at hi;have o:(0:Int)<=(i:Int)/\(i:Int)<(x.length:Int):=⟨by omega,by omega⟩;simp only[aj j];refine⟨_,rfl,λg=>(by cases g),λ_=>⟨_,rfl,_,_,_,hB.cell rfl,o,_,rfl,_,d,⟨(SD (h.2.fit _ (cx hi)) p w1).mono ?_⟩⟩⟩;rintro e s ⟨rfl,rfl⟩;have f:nQ x (i:Int) n=(n5 x[i] n).2:=by unfold nQ;rw[aj j,oO hi]
  refine⟨_,_,rfl,λg=>?_,λg=>⟨_,rfl,_,_,_,hB.cell rfl,o,_,rfl,?_⟩⟩
  ·have g:¬(n5 x[i] n).2=0:=by simpa using g
   have l:lE x (i:Int) n=x:=by unfold lE;rw[f,af g]
   rw[f,l];exact⟨rfl,ai.same h⟩
  ·have g:(n5 x[i] n).2=0:=by simpa using g
   have m:fZ (x[i]+n):=by
    unfold n5 at g;by_cases m:fZ (x[i]+n)
    ·exact m
    ·rw[af m]at g;cases g
   have q:(n5 x[i] n).1=x[i]+n:=by unfold n5;rw[aj m]
   have l:lE x (i:Int) n=x.set i (x[i]+n):=by unfold lE;rw[f,aj g,oO hi];rfl
   rw[q,bQ];refine k _ m _ λt r=>?_;rw[f,l,g];exact⟨rfl,r⟩
 ·simp only[af j];have f:nQ x c n=3:=by unfold nQ;rw[af j]
  have l:lE x c n=x:=by unfold lE;rw[f,af (by decide)]
  rw[f,l];exact⟨_,rfl,λ_=>⟨rfl,ai.same h⟩,λg=>(by cases g)⟩
theorem aeg (h:iH b w F x) (f t:Int):Cx 361 #[pt b,I f,I t] w λe w'=>e=Z (I (rz x f t))/\ai (iH b) w w' F (BE x f t):=by
 refine ak0 ?_;have d:∀n,rz x f t=n->n≠0->BE x f t=x:=λn c u=>by unfold BE;rw[c,af u]
 refine⟨(Fk h f).mono ?_⟩;rintro e w1 ⟨rfl,rfl⟩;by_cases k:iv x f
 ·simp only[aj k];refine⟨_,rfl,λg=>(by cases g),λ_=>⟨(Fk h t).mono ?_⟩⟩;rintro e C ⟨rfl,rfl⟩;by_cases o:iv x t
  ·simp only[aj o];refine⟨_,rfl,λg=>(by cases g),λ_=>⟨λg=>?_,λg=>?_⟩⟩
   ·have g:f=t:=by simpa using g
    have c:rz x f t=2:=by unfold rz;rw[aj k,aj o,aj g]
    rw[d _ c (by decide),c];exact⟨rfl,ai.same h⟩
   ·have g:f≠t:=by simpa using g
    obtain⟨i,hi,rfl⟩:=AH k;obtain⟨a,c0,hB,l,_⟩:=h.at hi;have r:(0:Int)<=(i:Int)/\(i:Int)<(x.length:Int):=⟨by omega,by omega⟩;have c:rz x (i:Int) t=nQ x t x[i]:=by unfold rz;rw[aj k,aj o,af g,oO hi]
    refine⟨_,rfl,_,_,_,hB.cell rfl,r,_,rfl,_,l,⟨(Fc h t (h.2.fit _ (cx hi))).mono ?_⟩⟩;rintro e D ⟨rfl,q⟩;refine⟨_,rfl,λj=>?_,λj=>?_⟩
    ·have j:nQ x t x[i]=0:=by simpa using j
     obtain⟨F1,y,z⟩:=q.db;have s:(lE x t x[i]).length=x.length:=by unfold lE;split<;>simp
     obtain⟨E,c1,p,_,m⟩:=y.at (i:=i) (by rw[s];exact hi);rw[s]at p;refine⟨_,rfl,_,_,_,p.cell rfl,r,_,rfl,?_⟩;rw[bQ];refine m 0 (by decide) _ λG A=>?_;have B:BE x (i:Int) t=(lE x t x[i]).set i 0:=by unfold BE;rw[c,aj j,oO hi];rfl
     rw[c,B];exact⟨rfl,z _ _ A⟩
    ·have j:¬nQ x t x[i]=0:=by simpa using j
     rw[d _ c j,c];have:lE x t x[i]=x:=by unfold lE;rw[af j]
     rw[this]at q;exact⟨rfl,q⟩
  ·simp only[af o];have c:rz x f t=3:=by unfold rz;rw[aj k,af o]
   rw[d _ c (by decide),c];exact⟨_,rfl,λ_=>⟨rfl,ai.same h⟩,λg=>(by cases g)⟩
 ·simp only[af k];have c:rz x f t=3:=by unfold rz;rw[af k]
  rw[d _ c (by decide),c];exact⟨_,rfl,λ_=>⟨rfl,ai.same h⟩,λg=>(by cases g)⟩
theorem adQ (x y:Int) (a:0<=x) (c:0<=y) (w:World):(callFunc 169 #[.int .u64 x,.int .u64 y,.int .u64 0]).run Tryz.prog w=.ok (.value (.tuple #[.int .u64 ((x+y+0)%18446744073709551616),.int .u64 ((x+y+0)/18446744073709551616)])) w:=by
 rw[run_callFunc_extern Tryz.func169 (by kernel_rfl) (by kernel_rfl) (by kernel_rfl) (e:=add64Entry) (by kernel_rfl),run_add64 x y 0 a c (by omega) (by omega)];rfl
theorem FA {x:List Int} (a:∀v∈x,0<=v):∀i,0<=(x.take i).sum/\(x.take i).sum<=x.sum:=by
 induction x with
 | nil=>intro i;simp
 | cons v x d=>
  intro i
  cases i with
  | zero=>
   have:=d (λv c=>a v (rP _ c)) x.length;rw[dC]at this;have:=a v (i6);simp
   omega
  | succ i=>
   have:=d (λv c=>a v (rP _ c)) i;have:=a v (i6);simp only[List.take_succ_cons,s9];omega
theorem Ue {x:List Int} {i:Nat} (hi:i<x.length):(x.take (i+1)).sum=(x.take i).sum+x[i]:=by
 rw[eW hi,List.sum_append];simp
theorem TT {n:Int} (h:0<=n/\n<=1000):aS .i64 n 63=0:=by
 unfold aS;rw[show(2:Int) ^ (min (63:Int).toNat bj.bits)=9223372036854775808 from rfl,vB _ (by decide)];omega
theorem U6 {n:Int} (h:0<=n/\n<=1000):aV .u64 n=n:=by
 unfold aV;simp[lQ,kl];omega
theorem aeH (h:iH b w F x) (j:∀v∈x,0<=v) (hs:x.sum<=1000):Cx 78 #[pt b] w λe w'=>e=Z (.tuple #[I x.sum,I 0])/\w'=w:=by
 refine u78 ?_;obtain⟨p,c0,hB⟩:=h.ay;refine⟨λg=>(by cases g),λ_=>⟨_,rfl,p,x.length,c0,hB.cell rfl,⟨bO bu (M:=wY) (σ:=Nat) (λi=>H6 0 (x.take i).sum p x.length c0 (x.length:Int) (i:Int)) (λi w'=>i<=x.length/\w'=w) (λi _=>x.length-i) 0 ⟨rfl,rfl,rfl,rfl,rfl,trivial⟩ ⟨by omega,rfl⟩ ?_⟩⟩⟩;rintro i w1 ⟨hi,rfl⟩;have n:=FA j i;rw[af6];refine⟨λg=>?_,λg=>aU.mk ?_⟩
 ·have g:=aL g;have c:i<x.length:=by omega
  obtain⟨a,c1,l,d,_⟩:=h.at c
  have:p=aa a:=by
   have f:=hB.cell (k:=0) rfl;rw[l.cell (k:=0) rfl]at f;simp at f;exact f.1.symm
  subst this;have o:=j _ (cx c);have m:=FA j (i+1);rw[Ue c]at m;refine⟨⟨by omega,by omega⟩,a,rfl,_,d,_,_,w1,adQ _ _ n.1 (by rw[U6 (by omega)];exact o) w1,by decide,?_⟩;rw[U6 (by omega),TT (by omega)];refine⟨i+1,⟨?_,?_,rfl,rfl,by rw[aP (x:=(i:Int)+1) (by have:=h.2.len;omega)];rfl,trivial⟩,⟨by omega,rfl⟩,by omega⟩
  ·rw[show((x.take i).sum+x[i]+0)/18446744073709551616=0 by omega];rfl
  ·rw[show((x.take i).sum+x[i]+0)%18446744073709551616=(x.take (i+1)).sum by rw[Ue c];omega];rfl
 ·have g:=aT g;have:i=x.length:=by omega
  subst this;rw[dC]at n⊢;rw[af5];have f:aV .i64 x.sum=x.sum:=aP (by omega);rw[f,TT (by omega)];exact⟨by decide,λ_=>⟨rfl,rfl⟩,λg=>(by cases g)⟩
end
theorem T6 (n:Nat) (j:1<=n/\n<=64) (w:World):Cx 50 #[I (n:Int)] w λe w'=>∃b F,e=Z (.tuple #[pt b,I 0])/\iH b w' F (aD n 0)/\av no w w'/\∀i,F i->w.heap.size<=i:=by
 refine u50 ?_;refine⟨λ_=>⟨λg=>?_,λ_=>?_⟩,λg=>?_⟩
 ·have:=aL g;omega
 ·obtain⟨w1,k,d⟩:=J5 X9 w (n:=n) (by omega) (by omega) .i64 .i64;refine⟨_,_,_,w1,k,⟨λq c=>?_⟩⟩;have l:=d.size;refine⟨w1.heap.size,λi=>i=w1.heap.size∨bf (aa ⟨w.heap.size,0,ah⟩) i,rfl,⟨⟨(aa ⟨w.heap.size,0,ah⟩,n),?_,?_,?_,λi=>bp⟩,⟨λv m=>?_,by simpa using j⟩⟩,(d.ak no).and (c.ak no),?_⟩
  ·simpa using c.aK
  ·have o:Sl w1 2 1 (aa ⟨w.heap.size,0,ah⟩) n n ((aD n (0:Int)).map (aB .i64)):=Sl.new d (by simp) (by unfold maxLen;omega);simpa using o.ak (c.ak no) (λ_ _ h=>h)
  ·rintro⟨a,f,p⟩;cases f;simp only at p;omega
  ·rw[k8 m];decide
  ·rintro i (rfl|⟨a,f,rfl⟩)
   ·omega
   ·cases f;exact aX _
 ·have:=aL g;omega
def DO (b2:Nat) (s:Int):List Value:=[pt b2,I s]
def gr (b:Nat):Ob iY:=λw F x=>(∃b2,aF (Rw b 160 (DO b2)) (iH b2) w F (x.2,x.1))/\vn x
instance Frame.gao (b:Nat):Frame (gr b) where
 ak:=λ⟨⟨b2,h⟩,r⟩ k a=>⟨⟨b2,Frame.star.ak h k a⟩,r⟩
 lt:=λ⟨⟨_,h⟩,_⟩=>Frame.star.lt h
section
variable {b:Nat} {w:World} {F:Fp} {x:iY}
theorem gr.open (h:gr b w F x):∃b2 F2,aM w b (DO b2 x.2) 160/\iH b2 w F2 x.1/\(∀w' l,ai (iH b2) w w' F2 l->vn (l,x.2)->ai (gr b) w w' F (l,x.2))/\∀(v:Int),(0<=v/\v<=2)->∀K:World->Prop,(∀w',ai (gr b) w w' F (x.1,v)->K w')->Wr w ((⟨b,0,ah⟩:Addr).add 1) [I v] K:=by
 obtain⟨⟨b2,h⟩,a⟩:=h;obtain⟨F1,c,i⟩:=h.left;obtain⟨F2,j,k2⟩:=h.right;refine⟨b2,F2,c.ay,j,λw' l m n=>?_,λv o K p=>c.ay.wr (k:=1) (by simp[DO]) λw' g=>p w' ?_⟩
 ·obtain⟨d,e,f⟩:=k2 _ _ m;exact⟨d,⟨⟨b2,e⟩,n⟩,f⟩
 ·obtain⟨d,e,f⟩:=i _ _ (c.gD (s':=v) g.U g.aK);exact⟨d,⟨⟨b2,e⟩,⟨a.pos,a.sum,a.len,o⟩⟩,f⟩
theorem ID (h:gr b w F x):Cx 20 #[pt b] w λe w'=>e=Z (I x.1.sum)/\w'=w:=by
 obtain⟨b2,F2,hB,a,_,_⟩:=h.open;refine u20 ?_;refine⟨λg=>(by cases g),λ_=>⟨_,rfl,_,hB.cell rfl,⟨(aeH a h.2.pos h.2.sum).mono ?_⟩⟩⟩;rintro e w1 ⟨rfl,rfl⟩;exact⟨_,_,rfl,rfl,rfl⟩
theorem PN (h:gr b w F x) (c:Int):Cx 259 #[pt b,I c] w λe w'=>e=Z (I (if iv x.1 c then 0 else 3))/\w'=w:=by
 obtain⟨b2,F2,hB,a,_,_⟩:=h.open;refine ajB ?_;refine⟨λg=>(by cases g),λ_=>⟨_,rfl,_,hB.cell rfl,⟨(TP a c).mono ?_⟩⟩⟩;rintro e w1 ⟨rfl,rfl⟩;exact⟨_,_,rfl,rfl,rfl⟩
theorem Zj (h:gr b w F x) (c:Int):Cx 265 #[pt b,I c] w λe w'=>e=Z (I (if iv x.1 c then oN x.1 c else 0))/\w'=w:=by
 obtain⟨b2,F2,hB,a,_,_⟩:=h.open;refine ajH ?_;refine⟨λg=>(by cases g),λ_=>⟨_,rfl,_,hB.cell rfl,⟨(TP a c).mono ?_⟩⟩⟩;rintro e w1 ⟨rfl,rfl⟩;exact⟨_,_,rfl,rfl,rfl⟩
theorem Ud {l:List Int} {i:Nat} (hi:i<l.length) (v:Int):(l.set i v).sum=l.sum-l[i]+v:=by
 induction l generalizing i with
 | nil=>simp at hi
 | cons a l c=>
  cases i with
  | zero=>simp;omega
  | succ i=>
   have:=c (i:=i) (by simpa using hi);simp only[qE,s9,te,this];omega
theorem vn.set (h:vn x) {i:Nat} (hi:i<x.1.length) {v:Int} (c:0<=v) (hs:x.1.sum-x.1[i]+v<=1000):vn (x.1.set i v,x.2):=⟨λz a=>by
 rcases i7 a with a|rfl
 ·exact h.pos z a
 ·exact c,by rw[Ud hi];exact hs,by simpa using h.len,h.st⟩
theorem vn.le (h:vn x) {i:Nat} (hi:i<x.1.length):0<=x.1[i]/\x.1[i]<=1000:=by
 have d:=h.pos _ (cx hi);have e:=Ud hi 0
 have f:0<=(x.1.set i 0).sum:=(FA (x:=x.1.set i 0) (λv a=>by
  rcases i7 a with c|rfl
  ·exact h.pos v c
  ·exact fU _) 0).1|>λ_=>by
   have:=(FA (x:=x.1.set i 0) (λv a=>by
    rcases i7 a with c|rfl
    ·exact h.pos v c
    ·exact fU _) (x.1.set i 0).length).1
   rwa [dC]at this
 have:=h.sum;omega
theorem Ly {a n:Int} (h : -1000000<=a+n/\a+n<=1000000):n5 a n=(a+n,0):=by
 unfold n5;rw[aj (by unfold fZ;omega)]
theorem Y3 (h:gr b w F x) (c:Int):Cx 157 #[pt b,I c] w λe w'=>e=Z (I (oK x c))/\ai (gr b) w w' F (tC x c):=by
 refine ah0 ?_;have f:∀n,oK x c=n->n≠0->tC x c=x:=λn a p=>by unfold tC;rw[a,af p]
 obtain⟨b2,F2,hB,q,kS,_⟩:=h.open;refine⟨(PN h c).mono ?_⟩;rintro e w1 ⟨rfl,rfl⟩;by_cases d:iv x.1 c
 ·simp only[aj d];refine⟨_,rfl,λg=>(by cases g),λ_=>⟨_,rfl,_,hB.cell rfl,λg=>?_,λg=>⟨(ID h).mono ?_⟩⟩⟩
  ·have g:x.2≠0:=by simpa using g
   have a:oK x c=7:=by unfold oK;rw[aj d,af g]
   rw[f _ a (by decide),a];exact⟨rfl,ai.same h⟩
  ·have g:x.2=0:=by simpa using g
   rintro e s ⟨rfl,rfl⟩;refine⟨_,rfl,λj=>?_,λj=>⟨_,rfl,_,hB.cell rfl,⟨(Fc q c (n:=1) (by decide)).mono ?_⟩⟩⟩
   ·have j:=aL j;have a:oK x c=5:=by unfold oK;rw[aj d,aj g,aj j]
    rw[f _ a (by decide),a];exact⟨rfl,ai.same h⟩
   ·have j:=aT j;rintro e t ⟨rfl,o⟩;obtain⟨i,hi,rfl⟩:=AH d;have r:=h.2.le hi;have a:oK x (i:Int)=0:=by unfold oK;rw[aj d,aj g,af j]
    have k:nQ x.1 (i:Int) 1=0:=by unfold nQ;rw[aj d,oO hi,Ly (by omega)]
    have l:lE x.1 (i:Int) 1=x.1.set i (x.1[i]+1):=by unfold lE;rw[k,aj rfl,oO hi];rfl
    have m:tC x (i:Int)=(x.1.set i (x.1[i]+1),x.2):=by unfold tC;rw[a,aj rfl,oO hi];rfl
    rw[l]at o;refine⟨_,rfl,by rw[k,a],?_⟩;rw[m];exact kS _ _ o (h.2.set hi (by omega) (by omega))
 ·simp only[af d];have a:oK x c=3:=by unfold oK;rw[af d]
  rw[f _ a (by decide),a];exact⟨_,rfl,λ_=>⟨rfl,ai.same h⟩,λg=>(by cases g)⟩
theorem Zf (h:gr b w F x) (c:Int):Cx 165 #[pt b,I c] w λe w'=>e=Z (I (qT x c))/\ai (gr b) w w' F (tK x c):=by
 refine ah8 ?_;have f:∀n,qT x c=n->n≠0->tK x c=x:=λn a o=>by unfold tK;rw[a,af o]
 obtain⟨b2,F2,hB,p,kS,_⟩:=h.open;refine⟨(PN h c).mono ?_⟩;rintro e w1 ⟨rfl,rfl⟩;by_cases d:iv x.1 c
 ·simp only[aj d];refine⟨_,rfl,λg=>(by cases g),λ_=>⟨(Zj h c).mono ?_⟩⟩;rintro e r ⟨rfl,rfl⟩;rw[aj d];refine⟨_,rfl,λg=>?_,λg=>⟨_,rfl,_,hB.cell rfl,⟨(Fc p c (n:=-1) (by decide)).mono ?_⟩⟩⟩
  ·have g:oN x.1 c=0:=by simpa using g
   have a:qT x c=12:=by unfold qT;rw[aj d,aj g]
   rw[f _ a (by decide),a];exact⟨rfl,ai.same h⟩
  ·have g:oN x.1 c≠0:=by simpa using g
   rintro e s ⟨rfl,m⟩;obtain⟨i,hi,rfl⟩:=AH d;have q:=h.2.le hi;rw[oO hi]at g;have a:qT x (i:Int)=0:=by unfold qT;rw[aj d,oO hi,af g]
   have j:nQ x.1 (i:Int) (-1)=0:=by unfold nQ;rw[aj d,oO hi,Ly (by omega)]
   have k:lE x.1 (i:Int) (-1)=x.1.set i (x.1[i]-1):=by unfold lE;rw[j,aj rfl,oO hi];rfl
   have l:tK x (i:Int)=(x.1.set i (x.1[i]-1),x.2):=by unfold tK;rw[a,aj rfl,oO hi];rfl
   rw[k]at m;refine⟨_,rfl,by rw[j,a],?_⟩;rw[l];have:=h.2.sum;exact kS _ _ m (h.2.set hi (by omega) (by omega))
 ·simp only[af d];have a:qT x c=3:=by unfold qT;rw[af d]
  rw[f _ a (by decide),a];exact⟨_,rfl,λ_=>⟨rfl,ai.same h⟩,λg=>(by cases g)⟩
theorem Zo (h:gr b w F x):Cx 160 #[pt b] w λe w'=>e=Z (I (KY x))/\ai (gr b) w w' F (uc x):=by
 obtain⟨b2,F2,hB,d,_,a⟩:=h.open;refine ah3 ?_;refine⟨λg=>(by cases g),λ_=>⟨_,rfl,_,hB.cell rfl,λg=>?_,λg=>⟨_,rfl,a 1 (by decide) _ λf c=>?_⟩⟩⟩
 ·have g:x.2≠0:=by simpa using g
  unfold KY uc;rw[af g,af g];exact⟨rfl,ai.same h⟩
 ·have g:x.2=0:=by simpa using g
  unfold KY uc;rw[aj g,aj g];exact⟨rfl,c⟩
theorem Zn (h:gr b w F x):Cx 298 #[pt b] w λe w'=>e=Z (I (oP x))/\ai (gr b) w w' F (oQ x):=by
 obtain⟨b2,F2,hB,l,_,i⟩:=h.open;refine aj7 ?_;have d:∀n,oP x=n->n≠0->oQ x=x:=λn a j=>by unfold oQ;rw[a,af j]
 refine⟨λg=>(by cases g),λ_=>⟨_,rfl,_,hB.cell rfl,λg=>?_,λg=>⟨(ID h).mono ?_⟩⟩⟩
 ·have g:x.2≠1:=by simpa using g
  have a:oP x=6:=by unfold oP;rw[af g]
  rw[d _ a (by decide),a];exact⟨rfl,ai.same h⟩
 ·have g:x.2=1:=by simpa using g
  rintro e m ⟨rfl,rfl⟩;refine⟨_,rfl,λc=>?_,λc=>⟨_,rfl,i 2 (by decide) _ λo k=>?_⟩⟩
  ·have c:=aL c;have a:oP x=7:=by unfold oP;rw[aj g,aj c]
   rw[d _ a (by decide),a];exact⟨rfl,ai.same h⟩
  ·have c:=aT c;have a:oP x=0:=by unfold oP;rw[aj g,af c]
   have f:oQ x=(x.1,2):=by unfold oQ;rw[a,aj rfl]
   rw[a,f];exact⟨rfl,k⟩
theorem Y6 (h:gr b w F x):Cx 213 #[pt b] w λe w'=>e=Z (I (Iy x))/\ai (gr b) w w' F (vY x):=by
 obtain⟨b2,F2,hB,d,_,a⟩:=h.open;refine aiQ ?_;refine⟨λg=>(by cases g),λ_=>⟨_,rfl,_,hB.cell rfl,λg=>?_,λg=>⟨_,rfl,a 0 (by decide) _ λf c=>?_⟩⟩⟩
 ·have g:x.2=0:=by simpa using g
  unfold Iy vY;rw[aj g,<-g];exact⟨rfl,ai.same h⟩
 ·have g:x.2≠0:=by simpa using g
  unfold Iy vY;rw[af g];exact⟨rfl,c⟩
end
theorem Zg (n:Nat) (d:1<=n/\n<=64) (w:World):Cx 52 #[I (n:Int)] w λe w'=>∃b F,e=Z (.tuple #[pt b,I 0])/\gr b w' F (aD n 0,0)/\av no w w'/\∀i,F i->w.heap.size<=i:=by
 refine u52 ?_;refine⟨(T6 n d w).mono ?_⟩;rintro e w1 ⟨b2,F2,rfl,f,j,k⟩;refine⟨_,_,rfl,λg=>(by cases g),λ_=>⟨λl a=>?_⟩⟩;have m:Rw w1.heap.size 160 (DO b2) l (λi=>i=w1.heap.size) 0:=Rw.new a rfl;have c:=(Frame.T7 b2).ak f (a.ak no) (λ_ _ h=>h);refine⟨_,λi=>i=w1.heap.size∨F2 i,rfl,⟨⟨b2,_,_,m,c,λi=>bp,?_⟩,⟨λv o=>?_,?_,by simpa using d,⟨fU _,(show(0:Int)<=2 by decide)⟩⟩⟩,j.and (a.ak no),?_⟩
 ·rintro i rfl p;have:=(Frame.T7 b2).lt f _ p;omega
 ·rw[k8 o];exact fU _
 ·have:(aD n (0:Int)).sum=0:=by simp
  rw[this];decide
 ·rintro i (rfl|hi)
  ·exact j.size
  ·exact k i hi
theorem Yb:eO Tryz.prog 227 374 10 80 ((aD 10 (0:Int)).map (aB .i64)):=⟨by kernel_rfl,by kernel_rfl,rfl,by omega⟩
abbrev Lm (b:Nat):Ob ((Nat×List Int)×Option Addr×Nat):=Hd b 229 374 10 (λs p c=>[.slice p s.1 c]) (λs=>s.1) (λs=>s.2.map (aB .i64))
def lK (b:Nat):Ob Nat:=λw F n=>∃l y,Lm b w F ((n,l),y)/\∀v∈l,fZ v
instance Frame.meo (b:Nat):Frame (lK b) where
 ak:=λ⟨l,y,h,r⟩ k a=>⟨l,y,(Frame.hd ..).ak h k a,r⟩
 lt:=λ⟨_,_,h,_⟩=>(Frame.hd ..).lt h
section
variable {b:Nat} {w:World} {F:Fp} {n:Nat}
def po (b:Nat) (W w:World) (F:Fp) (n:Nat) (a:Addr) (c:Nat) (l:List Int):Prop:=ai (Lm b) W w F ((n,l),(aa a,c))/\(∀v∈l,fZ v)/\l.length=n*10
theorem lK.open (h:lK b w F n) (i:0<n):∃a c l,po b w w F n a c l:=by
 obtain⟨l,y,h,f⟩:=h;have d:=h.sl.len;simp only[bW]at d;have d:l.length=n*10:=d;have g:0<l.length:=by omega
 obtain⟨a,e,_⟩:=h.sl.cells.cv (l:=l) g;obtain⟨p,c⟩:=y;simp only at e;subst e;exact⟨a,c,l,ai.same h,f,d⟩
theorem po.out {W:World} {a:Addr} {c:Nat} {l:List Int} (h:po b W w F n a c l):ai (lK b) W w F n:=by
 obtain⟨⟨d,e,f⟩,g,_⟩:=h;exact⟨d,⟨l,_,e,g⟩,f⟩
theorem po.ay {W:World} {a:Addr} {c:Nat} {l:List Int} (h:po b W w F n a c l):aM w b [.slice (aa a) n c] 229:=by
 obtain⟨⟨e,d,f⟩,_⟩:=h;exact d.ay
theorem po.cell {W:World} {a:Addr} {c:Nat} {l:List Int} (h:po b W w F n a c l) {i:Nat} (hi:i<l.length):w.cell? (a.add i)=aa (I l[i]):=by
 obtain⟨⟨g,e,j⟩,_⟩:=h;obtain⟨k,f,d⟩:=e.sl.cells.cv hi;cases f;rw[eX]at d;exact d
theorem po.wr {W:World} {a:Addr} {c:Nat} {l:List Int} (h:po b W w F n a c l) {i:Nat} (hi:i<l.length) {v:Int} (k:fZ v) {K:World->Prop} (m:∀w',po b W w' F n a c (l.set i v)->K w'):Wr w (a.add i) [I v] K:=by
 obtain⟨p,q,s⟩:=h;obtain⟨F1,g,t⟩:=p.db;refine g.sl.wr (o:=i) (by simp only[il,oq];omega) λw' j u=>m w' ?_;rw[vd (f:=aB .i64) (r:=l) hi (v:=v)]at j;have d:=g.elems (w':=w') (s':=(n,l.set i v)) (by simpa using j) u (by simp);refine⟨t _ _ d,λz e=>?_,by simpa using s⟩;rcases i7 e with e|rfl
 ·exact q z e
 ·exact k
theorem Sr (x:Int) (w:World):Cx 370 #[I x] w λe w'=>e=Z (.bool (decide (0<=x/\x<=2147483648)))/\w'=w:=by
 refine ak7 ?_;refine⟨λg=>⟨?_,rfl⟩,λg=>⟨?_,rfl⟩⟩
 ·have g:=aL g;congr 2;exact decide_eq_decide.2 (by omega)
 ·have g:=aT g;congr 2;exact(decide_eq_false (by omega)).symm
theorem Sn {W:World} {a:Addr} {c:Nat} {l:List Int} (h:po b W w F n a c l) {i j:Nat} (hi:i<n) (o:j<9) (x y:Int):Cx 313 #[.pointer (aa (a.add (i*10))),.pointer (aa (a.add (i*10+j))),I x,I y] w λe w'=>(∃m:Int,e=Z (I m))/\ai (lK b) W w' F n:=by
 have p:=h.2.2;refine akm ?_;refine⟨(Sr x w).mono ?_⟩;rintro e w1 ⟨rfl,rfl⟩;refine⟨_,rfl,λ_=>⟨(Sr y w1).mono ?_⟩,λ_=>⟨⟨_,rfl⟩,h.out⟩⟩;rintro e f ⟨rfl,rfl⟩;refine⟨_,rfl,λ_=>⟨⟨_,rfl⟩,h.out⟩,λ_=>⟨_,rfl,_,by rw[dX];exact h.cell (i:=i*10+9) (by omega),⟨(SD (h.2.1 _ (cx _)) (U3 _) f).mono ?_⟩⟩⟩;rintro e q ⟨rfl,rfl⟩;refine⟨_,_,rfl,λg=>⟨λ_=>⟨⟨_,rfl⟩,h.out⟩,λ_=>⟨_,rfl,?_⟩⟩,λ_=>⟨⟨_,rfl⟩,h.out⟩⟩;rw[dX];refine h.wr (i:=i*10+9) (by omega) ?_ λr d=>⟨_,rfl,_,d.cell (i:=i*10+j) (by rw[d.2.2];omega),_,rfl,d.wr (i:=i*10+j) (by rw[d.2.2];omega) (U3 _) λs k=>⟨⟨_,rfl⟩,k.out⟩⟩;unfold n5;split
 ·assumption
 ·decide
theorem Sf (h:lK b w F n) {i:Nat} (hi:i<n) {a:Addr} {c:Nat} {l:List Int} (f:po b w w F n a c l):Cx 312 #[pt b,I (i:Int)] w λe w'=>e=Z (.tuple #[.pointer (aa (a.add (i*10))),I 0])/\w'=w:=by
 have hB:=f.ay;refine akl ?_;refine⟨λg=>(by cases g),λ_=>⟨λg1=>⟨_,rfl,_,_,_,hB.cell rfl,λd=>?_,λd=>⟨_,rfl,_,_,_,hB.cell rfl,⟨by omega,by omega⟩,_,rfl,?_,rfl⟩⟩,λg1=>?_⟩⟩
 ·have d:=aL d;omega
 ·simp
 ·have g1:=aL g1;omega
theorem abo (h:lK b w F n) {i:Nat} (hi:i<n) (x y:Int):Cx 230 #[pt b,I (i:Int),I x,I y] w λe w'=>(∃m:Int,e=Z (I m))/\ai (lK b) w w' F n:=by
 obtain⟨a,c,l,d⟩:=h.open (by omega);refine ai8 ?_;refine⟨(Sf h hi d).mono ?_⟩;rintro e w1 ⟨rfl,rfl⟩;refine⟨_,_,rfl,λg=>(by cases g),λ_=>⟨_,rfl,?_⟩⟩;rw[dX];refine⟨(Sn d hi (j:=0) (by omega) x y).mono ?_⟩;rintro e k ⟨⟨m,rfl⟩,f⟩;exact⟨_,rfl,⟨_,rfl⟩,f⟩
theorem abn (h:lK b w F n) {i:Nat} (hi:i<n) (cC x y:Int):Cx 229 #[pt b,I (i:Int),I cC,I x,I y] w λe w'=>(∃m:Int,e=Z (I m))/\ai (lK b) w w' F n:=by
 obtain⟨a,c,l,f⟩:=h.open (by omega);refine ai7 ?_;refine⟨(Sf h hi f).mono ?_⟩;rintro e w1 ⟨rfl,rfl⟩;refine⟨_,_,rfl,λg=>(by cases g),λ_=>⟨λg1=>⟨λ_=>⟨⟨_,rfl⟩,ai.same h⟩,λd=>⟨_,rfl,?_,?_⟩⟩,λ_=>⟨⟨_,rfl⟩,ai.same h⟩⟩⟩
 ·have g1:=aT g1;have d:=aT d;exact⟨by omega,by omega⟩
 ·have g1:=aT g1;have d:=aT d;rw[dX,dX,eX];refine⟨(Sn f hi (j:=1+cC.toNat) (by omega) x y).mono ?_⟩;rintro e o ⟨⟨m,rfl⟩,k⟩;exact⟨_,rfl,⟨_,rfl⟩,k⟩
end
theorem YP (n:Nat):((aD n ([]:List Int)).flatMap λx:List Int=>(x++aD (10-x.length) 0|>.take 10).map (aB .i64))=((aD (n*10) (0:Int)).map (aB .i64)):=by
 induction n with
 | zero=>rfl
 | succ n a=>
  rw[List.replicate_succ,pC,a,Nat.succ_mul,Nat.add_comm,<-List.replicate_append_replicate,eI];rfl
theorem abk (n:Nat) (r:1<=n/\n<=64) (w:World):Cx 56 #[I (n:Int)] w λe w'=>∃b F,e=Z (.tuple #[pt b,I 0])/\lK b w' F n/\av no w w'/\∀i,F i->w.heap.size<=i:=by
 refine u56 ?_;refine⟨λ_=>⟨λg=>?_,λ_=>?_⟩,λg=>?_⟩
 ·have:=aL g;omega
 ·obtain⟨w1,l,d⟩:=run_mk Yb w (n:=n) (by omega) (by omega) .i64 .i64 (f:=λx:List Int=>(x++aD (10-x.length) 0|>.take 10).map (aB .i64)) (x0:=[]) (λx=>by simp;omega) rfl;refine⟨_,_,_,w1,l,⟨λs c=>?_⟩⟩;have m:=d.size;have j:=YP n;refine⟨w1.heap.size,λi=>i=w1.heap.size∨bf (aa ⟨w.heap.size,0,ah⟩) i,rfl,⟨aD (n*10) 0,(aa ⟨w.heap.size,0,ah⟩,n),⟨?_,?_,?_,λi=>bp⟩,λv o=>?_⟩,(d.ak no).and (c.ak no),?_⟩
  ·simpa using c.aK
  ·rw[j]at d;have p:Sl w1 374 10 (aa ⟨w.heap.size,0,ah⟩) n n ((aD (n*10) (0:Int)).map (aB .i64)):=Sl.new d (by simp) (by unfold maxLen;omega);exact p.ak (c.ak no) (λ_ _ h=>h)
  ·rintro⟨a,k,q⟩;cases k;simp only at q;omega
  ·rw[k8 o];decide
  ·rintro i (rfl|⟨a,k,rfl⟩)
   ·omega
   ·cases k;exact aX _
 ·have:=aL g;omega
theorem BB {x:Int} (h:0<=x):aS .u64 x 32=x/4294967296:=by
 unfold aS;rw[show(2:Int) ^ (min (32:Int).toNat jo.bits)=4294967296 from rfl,vB _ (by decide)]
theorem Gs {x:Int} (h:0<=x/\x<18446744073709551616):aH .and .u64 x 4294967295=x%4294967296:=by
 obtain⟨n,rfl⟩:∃n:Nat,x=(n:Int):=⟨x.toNat,by omega⟩;rw[show(4294967295:Int)=((4294967295:Nat):Int)from rfl,xC (by omega) (by omega),show(4294967295:Nat)=2 ^ 32-1 from rfl,Nat.and_two_pow_sub_one_eq_mod];omega
theorem nW {x:Int} (h:0<=x/\x<18446744073709551616):aV .u64 x=x:=by
 unfold aV;simp[lQ,kl];omega
theorem Ju {a b A B:Int} (d:0<=a/\a<=A) (c:0<=b/\b<=B):0<=a*b/\a*b<=A*B:=⟨Int.mul_nonneg d.1 c.1,Int.mul_le_mul d.2 c.2 c.1 (by omega)⟩
theorem Sp {x y:Int} (d:0<=x/\x<=72057594037927935) (c:0<=y/\y<=127) (w:World):Cx 393 #[.int .u64 x,.int .u64 y] w λe w'=>e=Z (.tuple #[.int .u64 0,.int .u64 (x*y)])/\w'=w:=by
 refine alq ?_;refine⟨by decide,by decide,by decide,by decide,by decide,?_,rfl⟩;rw[BB d.1,BB c.1,Gs (by omega),Gs (by omega)];have f:y/4294967296=0:=by omega
 have g:y%4294967296=y:=by omega
 rw[f,g,Int.mul_zero,Int.mul_zero];have h:=Ju (a:=x/4294967296) (b:=y) (A:=16777215) (B:=127) (by omega) c;have b2:=Ju (a:=x%4294967296) (b:=y) (A:=4294967295) (B:=127) (by omega) c;have i:=Ju d c;rw[nW (x:=0) (by decide),nW (x:=x%4294967296*y) (by omega),BB b2.1,nW (x:=x/4294967296*y) (by omega),nW (x:=x/4294967296*y+x%4294967296*y/4294967296) (by omega),BB (by omega),Gs (by omega),nW (x:=x*y) (by omega)];generalize x/4294967296*y=A at *;generalize x%4294967296*y=B at *;have c1:0<=(A+B/4294967296)/4294967296/\(A+B/4294967296)/4294967296<1000:=by omega
 have c2:0<=(A+B/4294967296)%4294967296/\(A+B/4294967296)%4294967296<4294967296:=by omega
 rw[nW (x:=0+(A+B/4294967296)/4294967296) (by omega),nW (x:=(A+B/4294967296)%4294967296+0) (by omega),BB (by omega),nW (by omega)];rw[show 0+(A+B/4294967296)/4294967296+((A+B/4294967296)%4294967296+0)/4294967296=0 by omega]
theorem OD {a y:Int} (i:1<=y) (w:World):Cx 394 #[.int .u64 0,.int .u64 a,.int .u64 y] w λe w'=>(∃q r,e=Z (.tuple #[.int .u64 q,.int .u64 r]))/\av no w w':=by
 refine alr ?_;refine⟨λg=>?_,λ_=>aU.mk ?_⟩
 ·have:y=0:=by simpa using g
  omega
 ·rw[afU];refine⟨λg=>?_,λ_=>aU.mk ?_⟩
  ·have:=aL g;omega
  ·rw[afV];refine⟨λ_ w1 c d f h=>⟨by omega,by omega,⟨_,_,rfl⟩,av.same no c d f h⟩,λg=>(by cases g)⟩
theorem acw {p q:Int} (f:p<=72057594037927935) (g:q<=72057594037927935) (w:World):Cx 395 #[I p,I q] w λe w'=>(∃n:Int,e=Z (I n))/\av no w w':=by
 refine als ?_;refine⟨λg1=>⟨λa=>⟨_,rfl⟩|>λh=>⟨h,av.refl _ _⟩,λa=>⟨λc=>⟨⟨_,rfl⟩,av.refl _ _⟩,λc=>?_⟩⟩,λg1=>⟨⟨_,rfl⟩,av.refl _ _⟩⟩;have g1:=aT g1;have a:=aT a;rw[nW (x:=p) (by omega),nW (x:=q) (by omega)];refine⟨(Sp (x:=p) (y:=100) (by omega) (by decide) w).mono ?_⟩;rintro e w1 ⟨rfl,rfl⟩;refine⟨_,_,rfl,⟨(OD (y:=q) (by omega) w1).mono ?_⟩⟩;rintro e i ⟨⟨q,r,rfl⟩,d⟩;exact⟨_,_,rfl,⟨_,rfl⟩,d⟩
theorem ad9 {a b p:Int} (g:1<=a) (h:b<=100000) (w:World):Cx 368 #[I a,I b,I p] w λe w'=>(∃n:Int,e=Z (I n))/\av no w w':=by
 refine ak5 ?_;refine⟨λg1=>⟨λc=>⟨⟨_,rfl⟩,av.refl _ _⟩,λc=>⟨λd=>⟨⟨_,rfl⟩,av.refl _ _⟩,λd=>?_⟩⟩,λg1=>⟨⟨_,rfl⟩,av.refl _ _⟩⟩;have g1:=aT g1;have c:=aT c;have d:=aT d;rw[nW (x:=a) (by omega),nW (x:=b) (by omega),nW (x:=p) (by omega),nW (x:=b-a) (by omega)];refine⟨(Sp (x:=b-a) (y:=p) (by omega) (by omega) w).mono ?_⟩;rintro e w1 ⟨rfl,rfl⟩;refine⟨_,_,rfl,⟨(OD (y:=100) (by decide) w1).mono ?_⟩⟩;rintro e i ⟨⟨q,r,rfl⟩,f⟩;exact⟨_,_,rfl,⟨_,rfl⟩,f⟩
structure iG where
 low:Int
 high:Int
 f0:Int×Int
 f1:Int×Int
 f2:Int×Int
 f3:Int×Int
 at_:Int
def iG.cells (g:iG):List Value:=[I g.low,I g.high,I g.f0.1,I g.f0.2,I g.f1.1,I g.f1.2,I g.f2.1,I g.f2.2,I g.f3.1,I g.f3.2,I g.at_]
def uH (f:Int×Int):Prop:=(0<=f.1/\f.1<=1099511627776)/\(0<=f.2/\f.2<=1099511627776)
theorem DK:uH (0,0):=by unfold uH;decide
structure iG.V (g:iG):Prop where
 lim:1<=g.low/\g.high<=100000
 f0:uH g.f0
 f1:uH g.f1
 f2:uH g.f2
 f3:uH g.f3
 at_:0<=g.at_/\g.at_<4
def pk (b:Nat):Ob Unit:=λw F _=>∃g,Rw b 235 iG.cells w F g/\g.V
instance Frame.gvo (b:Nat):Frame (pk b) where
 ak:=λ⟨g,h,r⟩ k a=>⟨g,(Frame.rw ..).ak h k a,r⟩
 lt:=λ⟨_,h,_⟩=>(Frame.rw ..).lt h
theorem Px (a b:Int) (w:World):Cx 112 #[I a,I b] w λe w'=>e=Z (.bool (decide (1<=a/\b<=100000/\a<=b)))/\w'=w:=by
 refine ahh ?_;refine⟨λg1=>⟨λc=>⟨?_,rfl⟩,λc=>⟨?_,rfl⟩⟩,λg1=>⟨?_,rfl⟩⟩
 ·have g1:=aL g1;have c:=aL c;congr 2;exact decide_eq_decide.2 (by omega)
 ·have c:=aT c;congr 2;exact(decide_eq_false (by omega)).symm
 ·have g1:=aT g1;congr 2;exact(decide_eq_false (by omega)).symm
theorem YR {a b:Int} (h:1<=a/\b<=100000/\a<=b) (w:World):Cx 58 #[I a,I b] w λe w'=>∃k F,e=Z (.tuple #[pt k,I 0])/\pk k w' F ()/\av no w w'/\∀i,F i->w.heap.size<=i:=by
 refine u58 ?_;refine⟨(Px a b w).mono ?_⟩;rintro e w1 ⟨rfl,rfl⟩;refine⟨_,rfl,λg=>?_,λ_=>⟨λd c=>⟨_,λi=>i=w1.heap.size,rfl,⟨⟨a,b,(0,0),(0,0),(0,0),(0,0),0⟩,Rw.new c rfl,⟨⟨h.1,h.2.1⟩,DK,DK,DK,DK,⟨fU _,(show(0:Int)<4 by decide)⟩⟩⟩,c.ak no,λi hi=>by omega⟩⟩⟩;rw[decide_eq_true h]at g;cases g
section
variable {b:Nat} {w:World} {F:Fp}
theorem YZ (h:pk b w F ()) (a hi:Int):Cx 266 #[pt b,I a,I hi] w λe w'=>e=Z (I (if 1<=a/\hi<=100000/\a<=hi then 0 else 2))/\ai (pk b) w w' F ():=by
 refine ajI ?_;refine⟨λg=>(by cases g),λ_=>⟨(Px a hi w).mono ?_⟩⟩;rintro e w1 ⟨rfl,rfl⟩;obtain⟨g,f,c⟩:=id h;refine⟨_,rfl,λg1=>?_,λg1=>⟨_,rfl,f.ay.wr (k:=0) (by simp[iG.cells]) λp i=>⟨_,rfl,i.aK.wr (k:=1) (by simp[iG.cells,bc]) λj d=>?_⟩⟩⟩
 ·have g1:¬(1<=a/\hi<=100000/\a<=hi):=λl=>by rw[decide_eq_true l]at g1;cases g1
  rw[af g1];exact⟨rfl,ai.same h⟩
 ·have g1:1<=a/\hi<=100000/\a<=hi:=by simpa using g1
  rw[aj g1];obtain⟨m,n,o⟩:=f.gD (w':=j) (s':={g with low:=a,high:=hi}) (i.U.and d.U) (by simpa [iG.cells,bc]using d.aK);exact⟨rfl,m,⟨_,n,⟨⟨g1.1,g1.2.1⟩,c.f0,c.f1,c.f2,c.f3,c.at_⟩⟩,o⟩
theorem YQ {g:iG} (c:Rw b 235 iG.cells w F g):Cx 367 #[pt b] w λe w'=>e=Z (.tuple #[I g.low,I g.high])/\av no w w':=by
 refine ak4 ?_;refine⟨λg=>(by cases g),λ_ w1 d f h i=>?_⟩;have a:=av.same no d f h i;have hB:=c.ay.ak a id;exact⟨_,rfl,_,hB.cell rfl,_,rfl,_,hB.cell rfl,rfl,a⟩
theorem YA {g:iG} {i:Nat} (hi:i<4):∃q:Int×Int,uH q/\rT 2 (rU (i*2) [aB .i64 g.f0.1,I g.f0.2,I g.f1.1,I g.f1.2,I g.f2.1,I g.f2.2,I g.f3.1,I g.f3.2])=[I q.1,I q.2]∨¬g.V:=by
 by_cases a:g.V
 ·match i,hi with
  | 0,_=>exact⟨g.f0,.inl ⟨a.f0,rfl⟩⟩
  | 1,_=>exact⟨g.f1,.inl ⟨a.f1,rfl⟩⟩
  | 2,_=>exact⟨g.f2,.inl ⟨a.f2,rfl⟩⟩
  | 3,_=>exact⟨g.f3,.inl ⟨a.f3,rfl⟩⟩
 ·exact⟨(0,0),.inr a⟩
theorem aM.aE {T:TypeId} {c:List Value} {k j:Nat} {v:Value} (h:aM w b c T) (a:c[k+j]?=aa v):w.cell? (((⟨b,0,ah⟩:Addr).add k).add j)=aa v:=by
 rw[dX];exact h.cell a
theorem Yx {g:iG} (z:Rw b 235 iG.cells w F g) (A:g.V):Cx 369 #[pt b] w λe w'=>(∃n:Int,e=Z (I n))/\av no w w':=by
 refine ak6 ?_;refine⟨λg=>(by cases g),λ_=>⟨λw1 m=>?_⟩⟩;have hB:=m.keep z.ay;have o:aM w1 w.heap.size [I 0,I 0] _:=m.aK;refine⟨_,rfl,_,hB.aE rfl,_,hB.aE rfl,_,hB.aE rfl,_,hB.aE rfl,_,hB.aE rfl,_,hB.aE rfl,_,hB.aE rfl,_,hB.aE rfl,?_⟩
 refine⟨bO bu (M:=wU) (σ:=Nat) (λi=>HU ⟨w.heap.size,0,ah⟩ g.f0.1 g.f0.2 g.f1.1 g.f1.2 g.f2.1 g.f2.2 g.f3.1 g.f3.2 (i:Int))
  (λi w'=>i<=4/\av no w w'/\∃x y:Int,aM w' w.heap.size [I x,I y] 232/\(0<=x/\x<=i*1099511627776)/\(0<=y/\y<=i*1099511627776)) (λi _=>4-i) 0 ⟨rfl,rfl,rfl,trivial⟩ ⟨by omega,m.ak no,0,0,o,by omega,by omega⟩ ?_⟩
 rintro i B ⟨hi,p,x,y,c,Q,R⟩;rw[afL];refine⟨λg1=>?_,λg1=>aU.mk ?_⟩
 ·have g1:=aL g1;obtain⟨q,⟨C,hs⟩|D⟩:=YA (g:=g) (i:=i) (by omega)
  ·refine⟨⟨by omega,by omega⟩,q.1,q.2,by rw[bQ];exact hs,⟨λE h=>h.aK.gF (by simp) λG d=>?_⟩⟩;have H:=c.lt;have l:=d.keep (h.keep c) (by omega);refine⟨_,l.cell rfl,_,d.aK.cell rfl,l.wr (k:=0) (by simp) λS a=>⟨_,a.aK.cell rfl,_,(a.keep d.aK (by omega)).cell rfl,a.aK.wr (k:=1) (by simp[bc]) λJ f=>?_⟩⟩;have K:=p.size;have r:av no w G:=(p.and (h.ak no)).trans d.U (λj s e=>absurd s (by omega));have t:av no w J:=r.trans (a.U.and f.U) (λj s e=>absurd s (by omega));obtain⟨L,N⟩:=C;have O:aV .i64 (x+q.1)=x+q.1:=aP (by omega);have P:aV .i64 (y+q.2)=y+q.2:=aP (by omega);rw[O]at a f;rw[P]at f;refine⟨i+1,⟨rfl,rfl,by rw[aP (by omega)];rfl,trivial⟩,⟨by omega,t,x+q.1,y+q.2,f.aK,by omega,by omega⟩,by omega⟩
  ·exact absurd A D
 ·rw[afK];refine⟨_,c.cell rfl,_,c.cell rfl,⟨(acw (by omega) (by omega) B).mono ?_⟩⟩;rintro e E ⟨⟨n,rfl⟩,u⟩;exact⟨_,rfl,⟨_,rfl⟩,p.and u⟩
theorem YD {g:iG} (i:Rw b 235 iG.cells w F g) (a:g.V):Cx 311 #[pt b] w λe w'=>(∃n:Int,e=Z (I n))/\av no w w':=by
 refine akk ?_;refine⟨(YQ i).mono ?_⟩;rintro e w1 ⟨rfl,j⟩;have c:=(Frame.rw ..).ak i j (λ_ _ h=>h);refine⟨_,_,rfl,⟨(Yx c a).mono ?_⟩⟩;rintro e k ⟨⟨n,rfl⟩,d⟩;refine⟨_,rfl,⟨(ad9 a.lim.1 a.lim.2 k).mono ?_⟩⟩;rintro e l ⟨⟨n,rfl⟩,f⟩;exact⟨_,rfl,⟨_,rfl⟩,(j.and d).and f⟩
def uI (g:iG) (i:Nat) (q:Int×Int):iG:=match i with
 | 0=>{g with f0:=q,at_:=1}
 | 1=>{g with f1:=q,at_:=2}
 | 2=>{g with f2:=q,at_:=3}
 | _=>{g with f3:=q,at_:=0}
theorem DL (g:iG) (i:Nat) (q:Int×Int):0<=(uI g i q).at_/\(uI g i q).at_<4:=by
 unfold uI;split<;>(simp only;decide)
theorem YC (h:pk b w F ()) (x y:Int):Cx 228 #[pt b,I x,I y] w λe w'=>(∃n m:Int,e=Z (.tuple #[I n,I m]))/\ai (pk b) w w' F ():=by
 refine ai6 ?_;refine⟨λg=>(by cases g),λ_=>⟨λg1=>⟨λo=>⟨λp=>⟨⟨_,_,rfl⟩,ai.same h⟩,λp w1 z A B C=>?_⟩,λo=>⟨⟨_,_,rfl⟩,ai.same h⟩⟩,λg1=>⟨⟨_,_,rfl⟩,ai.same h⟩⟩⟩;have g1:=aT g1;have o:=aT o;have p:=aT p;have r:=av.same no z A B C;obtain⟨g,s,a⟩:=id h;have hB:=s.ay.ak r id;obtain⟨i,hi,t⟩:∃i:Nat,i<4/\g.at_=(i:Int):=⟨g.at_.toNat,by have:=a.at_;omega,by have:=a.at_;omega⟩;refine⟨_,rfl,_,hB.cell rfl,_,rfl,a.at_,?_⟩;rw[t,bQ,dX];refine hB.wr (k:=2+i*2) (by simp[iG.cells];omega) λL j=>?_
 have D:bc g.cells (2+i*2) [I x,I y]=({uI g i (x,y)with at_:=g.at_}:iG).cells:=by
  match i,hi with
  | 0,_|1,_|2,_|3,_=>rfl
 rw[D]at j;refine⟨_,rfl,_,j.aK.cell rfl,by decide,_,rfl,j.aK.wr (k:=10) (by simp[iG.cells]) λE c=>?_⟩
 have q:bc ({uI g i (x,y)with at_:=g.at_}:iG).cells 10 [I (eH (aV .i64 (g.at_+1)) 4)]=(uI g i (x,y)).cells:=by
  rw[t]
  match i,hi with
  | 0,_|1,_|2,_|3,_=>rfl
 rw[q]at c;have G:=s.gD (w':=E) (s':=uI g i (x,y)) ((r.mono (λ_ _ h=>h.elim)).and (j.U.and c.U)) c.aK
 have d:(uI g i (x,y)).V:=by
  have l:uH (x,y):=⟨⟨by simp only;omega,by simp only;omega⟩,by simp only;omega,by simp only;omega⟩
  match i,hi with
  | 0,_=>exact⟨a.lim,l,a.f1,a.f2,a.f3,DL g _ (x,y)⟩
  | 1,_=>exact⟨a.lim,a.f0,l,a.f2,a.f3,DL g _ (x,y)⟩
  | 2,_=>exact⟨a.lim,a.f0,a.f1,l,a.f3,DL g _ (x,y)⟩
  | 3,_=>exact⟨a.lim,a.f0,a.f1,a.f2,l,DL g _ (x,y)⟩
 obtain⟨H,u,J,K⟩:=G;refine⟨(YD u d).mono ?_⟩;rintro e M ⟨⟨n,rfl⟩,f⟩;refine⟨_,rfl,⟨_,_,rfl⟩,H,⟨_,(Frame.rw ..).ak u f (λ_ _ h=>h),d⟩,J.trans f (λ_ _ h=>h.elim),K⟩
end
def rE:List (List Int):=[[0,0,100],[2,10,60],[10,50,25],[50,400,5]]
def FQ:List Value:=rE.flatMap (λl=>l.map (aB .i64))
theorem Ql (w:World):Cx 218 #[] w λe w'=>(∃p,e=Z (.slice (aa p) 4 4)/\Cells w' (aa p) FQ)/\av no w w':=by
 refine aiW ?_;refine⟨λw1 a=>⟨⟨_,rfl,?_⟩,a.ak no⟩⟩;have hB:aM w1 w.heap.size FQ _:=a.aK;intro j v b;exact⟨_,rfl,hB.cell b⟩
theorem K0 {w:World} {p:Addr} (h:Cells w (aa p) FQ) {i:Nat} (hi:i<4) {j:Nat} (b:j<3):w.cell? ((p.add (i*3)).add j)=aa (I ((rE[i]'hi).getD j 0)):=by
 rw[dX]
 obtain⟨a,c,d⟩:=h (i*3+j) (I ((rE[i]'hi).getD j 0)) (by
  match i,hi,j,b with
  | 0,_,0,_|0,_,1,_|0,_,2,_|1,_,0,_|1,_,1,_|1,_,2,_|2,_,0,_|2,_,1,_|2,_,2,_|3,_,0,_|3,_,1,_|3,_,2,_=>rfl)
 cases c;exact d
def vK (rest a:Int):Nat->Int
 | 0=>0
 | i+1=>if(rE.getD (i+1) []).getD 0 0<=a/\(rE.getD (i+1) []).getD 1 0<=rest then((i+1:Nat):Int)else vK rest a i
theorem Xm (rest a:Int):vK rest a 3=vL rest a:=by
 unfold vL;simp[vK,rE]
theorem ZG {w:World} {p:Addr} (h:Cells w (aa p) FQ) (rest a:Int):Cx 217 #[.slice (aa p) 4 4,I rest,I a] w λe w'=>e=Z (I (vL rest a))/\w'=w:=by
 refine aiV ?_;refine⟨bO bu (M:=B6) (σ:=Nat) (λi=>HA (aa p) 4 4 rest a (i:Int)) (λi w'=>i<=3/\vK rest a i=vL rest a/\w'=w) (λi _=>i) 3 ⟨rfl,rfl,rfl,rfl,trivial⟩ ⟨by omega,Xm rest a,rfl⟩ ?_⟩;rintro i w1 ⟨hi,l,rfl⟩;rw[afh];refine⟨λg=>?_,λg=>?_⟩
 ·have g:=aL g;obtain⟨k,rfl⟩:∃k,i=k+1:=⟨i-1,by omega⟩;have d:k+1<4:=by omega
  have m:(0:Int)<=((k+1:Nat):Int)/\((k+1:Nat):Int)<((4:Nat):Int):=⟨by omega,by omega⟩;have b:rE.getD (k+1) []=rE[k+1]'d:=by rw[aO,cO (show k+1<rE.length from d)];rfl
  have step:∀(f:¬((rE[k+1]'d).getD 0 0<=a/\(rE[k+1]'d).getD 1 0<=rest)),vK rest a k=vL rest a:=λf=>by
   rw[<-l,vK,b,af f]
  refine⟨m,p,rfl,_,K0 h d (j:=0) (by omega),λg1=>⟨m,p,rfl,_,K0 h d (j:=1) (by omega),λc=>?_,λc=>?_⟩,λg1=>?_⟩
  ·have g1:=aL g1;have c:=aL c;rw[<-l,vK,b,aj ⟨g1,c⟩];exact⟨rfl,rfl⟩
  ·have c:=aT c;exact⟨k,⟨rfl,rfl,rfl,by rw[aP (by omega),show((k+1:Nat):Int)-1=(k:Int) by omega];rfl,trivial⟩,⟨by omega,step (λf=>c f.2),rfl⟩,by omega⟩
  ·have g1:=aT g1;exact⟨k,⟨rfl,rfl,rfl,by rw[aP (by omega),show((k+1:Nat):Int)-1=(k:Int) by omega];rfl,trivial⟩,⟨by omega,step (λf=>g1 f.1),rfl⟩,by omega⟩
 ·have g:=aT g;have:i=0:=by omega
  subst this;rw[<-l];exact⟨rfl,rfl⟩
theorem adY (x y:Int) (w:World):(qC #[2,2] 2 #[I x,I y]).run Tryz.prog w=.ok (I (if y<x then y else x)) w:=by
 simp[qC,Builtin.min2]
theorem ZQ {now due:Int} (h:now<=1152921504606846976) (hd:due<=1152921504606846976) (a:Bool) (w:World):Cx 215 #[I now,I due,.bool a] w λe w'=>e=Z (I (JM now due a))/\w'=w:=by
 refine aiT ?_;unfold JM;refine⟨λg=>?_,λg=>⟨λg1=>⟨λb=>?_,λb=>?_⟩,λg1=>?_⟩⟩
 ·have g:a=ae:=by simpa using g
  subst g;exact⟨rfl,rfl⟩
 ·have g:a=ag:=by simpa using g
  have b:=aL b;subst g;rw[aj rfl,aj (.inr b)];exact⟨rfl,rfl⟩
 ·have g:a=ag:=by simpa using g
  have g1:=aT g1;have b:=aT b;subst g;refine⟨_,w,adY _ _ _,?_,rfl⟩;rw[aP (by omega),aj rfl,af (show ¬(now<0∨due<=now) by omega)];congr 2;split<;>omega
 ·have g:a=ag:=by simpa using g
  have g1:=aL g1;subst g;rw[aj rfl,aj (.inl g1)];exact⟨rfl,rfl⟩
def rm (r:bd):List Value:=[I r.jj,I r.aA,.bool r.back]
abbrev nZ (b:Nat):Ob bd:=Rw b 385 rm
theorem aex (n:Int) (w:World) (c:1<=n/\n<=64):Cx 262 #[I n] w λe w'=>e=Z (.tuple #[pt w.heap.size,I 0])/\dy w w' (.cells (dK [I n,I 0,.bool ae]) 385 (0,0)):=by
 refine ajE ?_;refine⟨λ_=>⟨λg=>?_,λ_=>⟨λw1 a=>⟨rfl,a⟩⟩⟩,λg=>?_⟩
 ·have:=aL g;omega
 ·have:=aL g;omega
section
variable {b:Nat} {w:World} {F:Fp} {r:bd}
theorem zT (h:nZ b w F r) (hd:0<=r.aA/\r.aA<=64):Cx 295 #[pt b] w λe w'=>e=Z (.tuple #[I r.now.1,.bool r.now.2.1,.bool r.now.2.2])/\av no w w':=by
 refine aj4 ?_;refine⟨λg=>(by cases g),λ_ w1 s t u x=>?_⟩;have k:=av.same no s t u x;have hB:=h.ay.ak k id;have y:aV .i64 (r.aA-1)=r.aA-1:=aP (by omega);refine⟨_,rfl,_,hB.cell rfl,λg1=>⟨_,rfl,_,hB.cell rfl,λc=>⟨_,rfl,_,hB.cell rfl,λj=>?_,λj=>?_⟩,λc=>?_⟩,λg1=>⟨_,rfl,_,hB.cell rfl,λc=>?_,λc=>?_⟩⟩
 ·simp[g1]at j
 ·refine⟨_,rfl,_,hB.cell rfl,λf=>⟨_,rfl,_,hB.cell rfl,?_,k⟩,λf=>?_⟩
  ·rw[y];have:r.aA≠0:=by simpa using c
   unfold bd.now;simp[g1,this]
  ·rw[g1]at f;cases f
 ·intro z l k2 n o;have a:=av.same no l k2 n o;have i:=hB.ak a id;refine⟨_,rfl,_,i.cell rfl,?_,k.and a⟩;have:r.aA=0:=by simpa using c
  unfold bd.now;simp[g1,this]
 ·refine⟨_,rfl,_,hB.cell rfl,_,rfl,_,hB.cell rfl,λj=>?_,λj=>?_⟩
  ·intro z l k2 n o;have a:=av.same no l k2 n o;have i:=hB.ak a id;refine⟨_,rfl,_,i.cell rfl,?_,k.and a⟩;have:r.aA=r.jj:=by simpa using j
   unfold bd.now;simp[g1,this]
  ·have p:¬r.aA=r.jj:=by simpa using j
   refine⟨_,rfl,_,hB.cell rfl,λf=>?_,λf=>⟨_,rfl,_,hB.cell rfl,?_,k⟩⟩
   ·rw[g1]at f;cases f
   ·unfold bd.now;simp[g1,p]
 ·rw[g1]at c;cases c
def uE (r:bd):bd:={r with aA:=if r.back then r.aA-1 else r.aA+1}
theorem aea (h:nZ b w F r) (hd:0<=r.aA/\r.aA<=64):Cx 301 #[pt b] w λe w'=>e=Z (I (if r.over then 6 else 0))/\ai (nZ b) w w' F (if r.over then r else uE r):=by
 refine aka ?_;refine⟨(zT h hd).mono ?_⟩;rintro e w1 ⟨rfl,c⟩;have hB:=h.ay.ak c id;have k:=(Frame.rw ..).ak h c (λ_ _ h=>h);refine⟨_,_,_,rfl,λg=>(by cases g),λ_=>⟨λg=>?_,λg=>?_⟩⟩
 ·have g:r.over=ag:=g;rw[g];exact⟨rfl,ai.quiet h c⟩
 ·have g:r.over=ae:=g
  have f:r.now.2.1=r.back:=by
   unfold bd.over bd.now at g;unfold bd.now;split
   ·rfl
   ·split<;>simp_all
  rw[g,f];refine⟨λi=>⟨_,rfl,_,hB.cell rfl,_,rfl,hB.wr (by simp[rm]) λj a=>⟨rfl,?_⟩⟩,λi=>⟨_,rfl,_,hB.cell rfl,_,rfl,hB.wr (by simp[rm]) λj a=>⟨rfl,?_⟩⟩⟩
  ·have e:bc (rm r) 1 [aB .i64 (aV .i64 (r.aA-1))]=rm (uE r):=by
    rw[aP (by omega)];simp[rm,bc,uE,i]
   rw[e]at a;exact h.gD ((c.nn).and a.U) a.aK
  ·have e:bc (rm r) 1 [aB .i64 (aV .i64 (r.aA+1))]=rm (uE r):=by
    rw[aP (by omega)];simp[rm,bc,uE,i]
   rw[e]at a;exact h.gD ((c.nn).and a.U) a.aK
theorem aef (h:nZ b w F r) (hd:0<=r.aA/\r.aA<=64) (j:r.over=ae) (c:r.back=ae):Cx 296 #[pt b] w λe w'=>e=Z (I 0)/\ai (nZ b) w w' F {r with back:=ag}:=by
 refine aj5 ?_;refine⟨(zT h hd).mono ?_⟩;rintro e w1 ⟨rfl,f⟩;have hB:=h.ay.ak f id
 have a:r.now.2.1=ae:=by
  unfold bd.now;split
  ·exact c
  ·rw[c];rfl
 refine⟨_,_,_,rfl,λg=>(by cases g),λ_=>⟨λg=>⟨λg=>?_,λg=>⟨_,rfl,hB.wr (by simp[rm]) λk i=>⟨rfl,?_⟩⟩⟩,λg=>?_⟩⟩
 ·have:r.over=ag:=g;rw[j]at this;cases this
 ·exact h.gD ((f.nn).and i.U) i.aK
 ·rw[a]at g;cases g
theorem aeS (h:nZ b w F r) (hd:0<=r.aA/\r.aA<=64) (c:r.over=ag):Cx 302 #[pt b] w λe w'=>e=Z (I r.gX)/\av no w w':=by
 refine akb ?_;refine⟨(zT h hd).mono ?_⟩;rintro e w1 ⟨rfl,f⟩
 have a:r.now.2.1=r.back:=by
  unfold bd.over bd.now at c;unfold bd.now;split
  ·rfl
  ·rename_i i;rw[af i]at c;split at c<;>cases c
 refine⟨_,_,_,rfl,λg=>(by cases g),λ_=>⟨λg=>?_,λg=>⟨λg=>?_,λg=>?_⟩⟩⟩
 ·have:r.now.2.2=ag:=c;rw[this]at g;cases g
 ·rw[a]at g;unfold bd.gX;rw[aj g];exact⟨rfl,f⟩
 ·rw[a]at g;unfold bd.gX;rw[af (by simp[g])];exact⟨rfl,f⟩
end
theorem A3:qq Tryz.prog 134 3 4 (.bool ae):=⟨by kernel_rfl,by kernel_rfl,by kernel_rfl,by kernel_rfl⟩
theorem adW {P:Program} {t k e:TypeId} {z:Value} (a:qq P t k e z) (n:Int) (w:World):(dr t (.map ah) (I n) ae).run P w=.ok z w:=by
 have c:MapKept.IsKey (.int .i64) (I n):=rfl;have f:(zeroValue e).run P w=.ok z w:=by rw[wF a.ok,a.zero]
 have k2:Instr.findNow (.int .i64) (I n) [] 0=aa ah:=rfl;simp[dr,fR a.under,MapKept.run_checkKey a.key c,MapKept.run_findKey a.key k2,f,s5]
abbrev n4:=Nat×Nat×bd
def rl (x:n4):List Value:=[pt x.2.1,.bool x.2.2.up,I x.2.2.au,I x.2.2.ax,.bool x.2.2.told]
abbrev zJ (b b2:Nat):Ob (n4×bd):=aF (Rw b 284 rl) (nZ b2)
def xd:Ob (Option n4):=λw F x=>match x with
 | none=>∀i,¬F i
 | some q=>zJ q.1 q.2.1 w F (q,q.2.2)
instance Frame.amq:Frame xd where
 ak:=by
  rintro w w' F G (_|q) h k a
  ·exact h
  ·exact(Frame.star (A:=Rw q.1 284 rl) (B:=nZ q.2.1)).ak h k a
 lt:=by
  rintro w F (_|q) h
  ·exact λi hi=>absurd hi (h i)
  ·exact(Frame.star (A:=Rw q.1 284 rl) (B:=nZ q.2.1)).lt h
abbrev xb:=Nat×((Int->Option Bool)×Nat)
def xa:Ob (Option xb):=λw F x=>match x with
 | none=>∀i,¬F i
 | some q=>bM q.1 lS w F q.2
instance Frame.amp:Frame xa where
 ak:=by
  rintro w w' F G (_|q) h k a
  ·exact h
  ·exact(Frame.map q.1 lS).ak h k a
 lt:=by
  rintro w F (_|q) h
  ·exact λi hi=>absurd hi (h i)
  ·exact(Frame.map q.1 lS).lt h
def tx (p:Option Addr×Option Nat):List Value:=[.pointer p.1,.map p.2]
abbrev gG (b:Nat):Ob (((Option Addr×Option Nat)×Option n4)×Option xb):=aF (aF (Rw b 136 tx) xd) xa
def jR (q:Option n4) (m:Option xb):Option Addr×Option Nat:=(q.map λq=>⟨q.1,0,ah⟩,m.map (·.1))
def uh (r:bd):Prop:=0<=r.aA/\r.aA<=r.jj/\r.jj<=64
theorem uh.aA {r:bd} (h:uh r):0<=r.aA/\r.aA<=64:=⟨h.1,Int.le_trans h.2.1 h.2.2⟩
structure rH (q:Option n4) (m:Option xb) (d:bY):Prop where
 r:q.map (·.2.2)=d.1
 p:∀k,d.2 k=((m.bind λm=>m.2.1 k).getD ae)
 v:∀r,d.1=aa r->uh r
def dp (b:Nat):Ob bY:=λw F d=>∃q m,gG b w F ((jR q m,q),m)/\rH q m d
instance Frame.Hk (b:Nat):Frame (dp b) where
 ak:=λ⟨q,m,h,k⟩ a c=>⟨q,m,Frame.star.ak h a c,k⟩
 lt:=λ⟨_,_,h,_⟩=>Frame.star.lt h
section
variable {b:Nat} {w w':World} {F:Fp} {d:bY} {q:Option n4} {m:Option xb}
theorem gG.ay {p:Option Addr×Option Nat} (h:gG b w F ((p,q),m)):aM w b (tx p) 136:=by
 obtain⟨F1,a,_⟩:=h.left;obtain⟨F2,c,_⟩:=a.left;exact c.ay
theorem ai.dk {a:Option n4} {c:Option xb} {d':bY} (h:ai (gG b) w w' F ((jR a c,a),c)) (k:rH a c d'):ai (dp b) w w' F d':=by
 obtain⟨e,f,g⟩:=h;exact⟨e,⟨a,c,f,k⟩,g⟩
theorem gG.cZ {a:n4} (h:gG b w F ((jR (aa a) m,aa a),m)):aM w a.1 (rl a) 284/\aM w a.2.1 (rm a.2.2) 385:=by
 obtain⟨F1,e,_⟩:=h.left;obtain⟨F2,c,_⟩:=e.right;have c:zJ a.1 a.2.1 w F2 (a,a.2.2):=c;obtain⟨F3,f,_⟩:=c.left;obtain⟨F4,g,_⟩:=c.right;exact⟨f.ay,g.ay⟩
theorem gG.run {a:n4} (h:gG b w F ((jR (aa a) m,aa a),m)):∃F1,nZ a.2.1 w F1 a.2.2/\∀w' (r':bd),r'.up=a.2.2.up->r'.au=a.2.2.au->r'.ax=a.2.2.ax->r'.told=a.2.2.told->ai (nZ a.2.1) w w' F1 r'->
  ai (gG b) w w' F ((jR (aa (a.1,a.2.1,r')) m,aa (a.1,a.2.1,r')),m):=by
 obtain⟨F1,g,i⟩:=h.left;obtain⟨F2,c,k2⟩:=g.right;have c:zJ a.1 a.2.1 w F2 (a,a.2.2):=c;obtain⟨F4,j,k⟩:=c.right;refine⟨F4,j,λw' r' l n o p s=>?_⟩
 have f:ai xd w w' F2 (aa (a.1,a.2.1,r')):=by
  obtain⟨t,t1,t2⟩:=k _ _ s;refine⟨t,?_,t2⟩;obtain⟨A1,A2,u,x,y,z⟩:=t1;refine⟨A1,A2,?_,x,y,z⟩;obtain⟨x1,x2⟩:=u;refine⟨x1,?_⟩;have e:rl (a.1,a.2.1,r')=rl a:=by simp only[rl,l,n,o,p]
  show aM w' a.1 (rl (a.1,a.2.1,r')) _;rw[e];exact x2
 exact i _ _ (k2 _ _ f)
theorem gG.FL {a:n4} (h:gG b w F ((jR (aa a) m,aa a),m)) (t:Bool) {K:World->Prop} (i:∀w',ai (gG b) w w' F ((jR (aa (a.1,a.2.1,{a.2.2 with told:=t})) m,aa (a.1,a.2.1,{a.2.2 with told:=t})),m)->K w') :
  Wr w ((⟨a.1,0,ah⟩:Addr).add 4) [.bool t] K:=by
 obtain⟨F1,j,k⟩:=h.left;obtain⟨F2,c,k2⟩:=j.right;have c:zJ a.1 a.2.1 w F2 (a,a.2.2):=c;obtain⟨F3,f,l⟩:=c.left;refine f.ay.wr (by simp[rl]) λw' g=>i w' ?_;have n:ai (Rw a.1 284 rl) w w' F3 (a.1,a.2.1,{a.2.2 with told:=t}):=f.gD g.U g.aK
 have e:ai xd w w' F2 (aa (a.1,a.2.1,{a.2.2 with told:=t})):=by
  obtain⟨o,t1,t2⟩:=l _ _ n;exact⟨o,t1,t2⟩
 exact k _ _ (k2 _ _ e)
theorem rH.set {a:n4} {r':bd} (k:rH (aa a) m d) (c:uh r'):rH (aa (a.1,a.2.1,r')) m (aa r',d.2):=⟨rfl,k.p,λr e=>(by cases e;exact c)⟩
theorem rH.some_ {a:n4} (k:rH (aa a) m d):d.1=aa a.2.2:=k.r.symm
theorem rH.none_ (k:rH ah m d):d.1=ah:=k.r.symm
theorem uK (h:dp b w F d):Cx 99 #[pt b] w λe w'=>e=Z (.bool (dE d))/\w'=w:=by
 obtain⟨q,m,h,k⟩:=h;refine u99 ?_;refine⟨λ_=>⟨_,rfl,_,h.ay.cell rfl,?_,rfl⟩,λg=>(by cases g)⟩;unfold dE;rw[<-k.r];cases q<;>rfl
theorem P7 (h:dp b w F d):Cx 100 #[pt b] w λe w'=>e=Z (.bool (jS d))/\w'=w:=by
 refine ag6 ?_;refine⟨(uK h).mono ?_⟩;rintro e w' ⟨rfl,rfl⟩;obtain⟨q,m,h,k⟩:=h;unfold jS dE
 cases q with
 | none=>rw[k.none_];exact⟨_,rfl,λg=>(by cases g),λ_=>⟨rfl,rfl⟩⟩
 | some a=>rw[k.some_];exact⟨_,rfl,λ_=>⟨_,rfl,_,h.ay.cell rfl,_,rfl,_,h.cZ.1.cell rfl,rfl,rfl⟩,λg=>(by cases g)⟩
theorem P4 (h:dp b w F d):Cx 101 #[pt b] w λe w'=>e=Z (I (jc d))/\w'=w:=by
 refine ag7 ?_;refine⟨(uK h).mono ?_⟩;rintro e w' ⟨rfl,rfl⟩;obtain⟨q,m,h,k⟩:=h;unfold jc dE
 cases q with
 | none=>rw[k.none_];exact⟨_,rfl,λ_=>⟨rfl,rfl⟩,λg=>(by cases g)⟩
 | some a=>rw[k.some_];exact⟨_,rfl,λg=>(by cases g),λ_=>⟨_,rfl,_,h.ay.cell rfl,_,rfl,_,h.cZ.1.cell rfl,rfl,rfl⟩⟩
theorem P1 (h:dp b w F d):Cx 102 #[pt b] w λe w'=>e=Z (I (mO d))/\w'=w:=by
 refine ag8 ?_;refine⟨(uK h).mono ?_⟩;rintro e w' ⟨rfl,rfl⟩;obtain⟨q,m,h,k⟩:=h;unfold mO dE
 cases q with
 | none=>rw[k.none_];exact⟨_,rfl,λ_=>⟨rfl,rfl⟩,λg=>(by cases g)⟩
 | some a=>rw[k.some_];exact⟨_,rfl,λg=>(by cases g),λ_=>⟨_,rfl,_,h.ay.cell rfl,_,rfl,_,h.cZ.1.cell rfl,rfl,rfl⟩⟩
theorem IH (h:dp b w F d):Cx 211 #[pt b] w λe w'=>e=Z (.bool (nA d))/\av no w w':=by
 refine aiO ?_;refine⟨(uK h).mono ?_⟩;rintro e w' ⟨rfl,rfl⟩;obtain⟨q,m,h,k⟩:=h;unfold nA dE
 cases q with
 | none=>rw[k.none_];exact⟨_,rfl,λ_=>⟨rfl,av.refl _ _⟩,λg=>(by cases g)⟩
 | some i=>
  obtain⟨F1,a,_⟩:=h.run;have c:=(k.v _ k.some_).aA;rw[k.some_];refine⟨_,rfl,λg=>(by cases g),λ_=>⟨_,rfl,_,h.ay.cell rfl,_,rfl,_,h.cZ.1.cell rfl,⟨(zT a c).mono ?_⟩⟩⟩;rintro e j ⟨rfl,f⟩;exact⟨_,_,_,rfl,rfl,f⟩
theorem P5 (h:dp b w F d):Cx 294 #[pt b] w λe w'=>e=Z (I (tA d))/\av no w w':=by
 have c:=h;obtain⟨q,m,h,k⟩:=h;refine aj3 ?_;refine⟨λg=>(by cases g),λ_=>⟨_,rfl,_,h.ay.cell rfl,?_⟩⟩;unfold tA
 cases q with
 | none=>rw[k.none_];exact⟨λ_=>⟨rfl,av.refl _ _⟩,λg=>(by cases g)⟩
 | some f=>
  refine⟨λg=>(by cases g),λ_=>⟨(IH c).mono ?_⟩⟩;rintro e i ⟨rfl,a⟩;unfold nA;rw[k.some_];refine⟨_,rfl,λg=>?_,λg=>?_⟩
  ·simp only at g⊢;rw[g];exact⟨rfl,a⟩
  ·simp only at g⊢;rw[g];exact⟨rfl,a⟩
theorem P2 (n:Int) (w:World):Cx 261 #[I n] w λe w'=>e=Z (.bool (decide (lX n)))/\w'=w:=by
 refine ajD ?_;unfold lX;refine⟨λg=>⟨?_,rfl⟩,λg=>⟨?_,rfl⟩⟩
 ·have:=aL g;congr 2;exact decide_eq_decide.2 (by omega)
 ·have:=aT g;congr 2;exact(decide_eq_false (λa=>absurd a.1 this)).symm
structure U9 (b:Nat) (w:World) (F:Fp) (d:bY) (r:bd) (bq b2:Nat) (mo:Option Nat) (F2:Fp):Prop where
 ay:aM w b (tx (aa ⟨bq,0,ah⟩,mo)) 136
 cZ:aM w bq (rl (bq,b2,r)) 284
 run:nZ b2 w F2 r
 aA:uh r
 runT:∀w' (r':bd),r'.up=r.up->r'.au=r.au->r'.ax=r.ax->r'.told=r.told->uh r'->ai (nZ b2) w w' F2 r'->ai (dp b) w w' F (aa r',d.2)
 FL:∀(t:Bool) (K:World->Prop),(∀w',ai (dp b) w w' F (aa {r with told:=t},d.2)->K w')->Wr w ((⟨bq,0,ah⟩:Addr).add 4) [.bool t] K
 look:∀k:Int,(dr 134 (.map mo) (I k) ae).run Tryz.prog w=.ok (.bool (d.2 k)) w
 del:∀(k:Int) (k2 ty:TypeId),d.2 k=ag->∃w',(iJ #[134,k2] ty #[.map mo,I k]).run Tryz.prog w=.ok (.tuple #[]) w'/\ai (dp b) w w' F (d.1,λj=>if j=k then ae else d.2 j)
theorem dp.open (h:dp b w F d) {r:bd} (l:d.1=aa r):∃bq b2 mo F2,U9 b w F d r bq b2 mo F2:=by
 obtain⟨q,m,h,k⟩:=h
 cases q with
 | none=>rw[k.none_]at l;cases l
 | some u=>
  obtain⟨bq,b2,n⟩:=u;have e:=k.some_;rw[l]at e;cases e;obtain⟨F2,x,k2⟩:=h.run;have c:=k.v _ l;refine⟨bq,b2,(jR (aa (bq,b2,n)) m).2,F2,h.ay,h.cZ.1,x,c,λw' r' y z A B C f=>(k2 w' r' y z A B f).dk (k.set C),λt K D=>h.FL t λw' f=>D w' (f.dk (k.set (r':={n with told:=t}) c)),λj=>?_,λj E ty s=>?_⟩
  ·rw[k.p]
   cases m with
   | none=>exact adW A3 j w
   | some m0=>
    obtain⟨F3,a,_⟩:=h.right;have a:bM m0.1 lS w F3 m0.2:=a;have:=kP A3 a j ae;show(dr _ (.map (aa m0.1)) _ _).run _ _=_;rw[this];cases G:m0.2.1 j<;>simp[G]
  ·rw[k.p]at s
   cases m with
   | none=>cases s
   | some m0=>
    obtain⟨F3,a,H⟩:=h.right;have a:bM m0.1 lS w F3 m0.2:=a;obtain⟨w',g,f⟩:=tT A3 a j E ty;refine⟨w',g,?_⟩
    have o:ai xa w w' F3 (aa (m0.1,iy m0.2 j)):=by
     obtain⟨I,t1,t2⟩:=f;exact⟨I,t1,t2⟩
    refine(show ai (gG b) w w' F ((jR (aa (bq,b2,n)) (aa (m0.1,iy m0.2 j)),aa (bq,b2,n)),aa (m0.1,iy m0.2 j))from H _ _ o).dk ⟨k.r,λi=>?_,k.v⟩;simp only[Option.bind_some,iy];rw[k.p];by_cases e:i=j
    ·rw[aj e,aj e];rfl
    ·rw[af e,af e];rfl
theorem gG.K6 {p p':Option Addr×Option Nat} (h:gG b w F ((p,q),m)) {k:Nat} {v:Value} (f:k+1<=2) (e:bc (tx p) k [v]=tx p') {K:World->Prop} (g:∀w',ai (gG b) w w' F ((p',q),m)->K w'):Wr w ((⟨b,0,ah⟩:Addr).add k) [v] K:=by
 obtain⟨F0,i,j⟩:=h.left;obtain⟨F1,c,l⟩:=i.left;refine c.ay.wr (by simpa [tx]using f) λw' a=>g w' (j _ _ (l _ _ ?_));rw[e]at a;exact c.gD a.U a.aK
theorem Zy (h:dp b w F d) (n:Int):Cx 264 #[pt b,I n] w λe w'=>e=Z (I (nN n))/\ai (dp b) w w' F (oY d n):=by
 have J:=h;obtain⟨q,m,h,k⟩:=h;refine ajG ?_
 have u:∀{x:Int},¬(0<=n/\n<10)->nN n=3/\oY d n=d:=λN=>by
  have e:nN n=3:=by unfold nN;rw[af N]
  exact⟨e,by unfold oY;rw[e];rfl⟩
 refine⟨λg=>(by cases g),λ_=>⟨λg1=>⟨λy=>?_,λy=>?_⟩,λg1=>?_⟩⟩
 ·have y:=aL y;obtain⟨t,z⟩:=u (x:=0) (by omega);rw[t,z];exact⟨rfl,ai.same J⟩
 ·have g1:=aT g1;have y:=aT y;have t:nN n=0:=by unfold nN;rw[aj ⟨by omega,by omega⟩]
  have z:oY d n=(d.1,λj=>if j=n then ag else d.2 j):=by unfold oY;rw[t];rfl
  rw[t,z]
  cases m with
  | none=>
   refine⟨_,rfl,_,h.ay.cell rfl,λ_=>⟨λw1 K=>?_⟩,λg=>(by cases g)⟩;obtain⟨F3,R,O⟩:=h.right;have A:ai xa w w1 F3 (aa (w.heap.size,((λ_=>ah,0):(Int->Option Bool)×Nat))):=⟨_,bM.new K,K.ak _,λi hi=>.inr (bF hi.symm)⟩;have B:=O _ _ A;obtain⟨F1,L,P,Q⟩:=B;refine⟨_,rfl,gG.K6 L (p':=jR q (aa (w.heap.size,((λ_=>ah,0):(Int->Option Bool)×Nat)))) (by omega) (by simp[tx,jR,bc]) λM C=>?_⟩;obtain⟨F2,f,D,E⟩:=ai.next L P Q C;obtain⟨F4,l,G⟩:=f.right;have l:bM w.heap.size lS M F4 (λ_=>ah,0):=l;obtain⟨o,a,s⟩:=ru A3 l n ag
   have c:ai xa M o F4 (aa (w.heap.size,fz ((λ_=>ah,0):(Int->Option Bool)×Nat) n ag)):=by
    obtain⟨H,t1,t2⟩:=s;exact⟨H,t1,t2⟩
   refine⟨_,rfl,_,(gG.ay f).cell rfl,o,a,rfl,(show ai (gG b) w o F ((jR q (aa (w.heap.size,fz ((λ_=>ah,0):(Int->Option Bool)×Nat) n ag)),q),aa (w.heap.size,fz ((λ_=>ah,0):(Int->Option Bool)×Nat) n ag))from ai.next f D E (G _ _ c)).dk ⟨k.r,λi=>?_,k.v⟩⟩;simp only[Option.bind_some,fz];rw[k.p];by_cases e:i=n
   ·rw[aj e,aj e];rfl
   ·rw[af e,af e];rfl
  | some m0=>
   refine⟨_,rfl,_,h.ay.cell rfl,λg=>(by cases g),λ_=>?_⟩;obtain⟨F4,l,G⟩:=h.right;have l:bM m0.1 lS w F4 m0.2:=l;obtain⟨o,a,s⟩:=ru A3 l n ag
   have c:ai xa w o F4 (aa (m0.1,fz m0.2 n ag)):=by
    obtain⟨H,t1,t2⟩:=s;exact⟨H,t1,t2⟩
   refine⟨_,rfl,_,h.ay.cell rfl,o,a,rfl,(show ai (gG b) w o F ((jR q (aa (m0.1,fz m0.2 n ag)),q),aa (m0.1,fz m0.2 n ag))from G _ _ c).dk ⟨k.r,λi=>?_,k.v⟩⟩;simp only[Option.bind_some,fz];rw[k.p];by_cases e:i=n
   ·rw[aj e,aj e];rfl
   ·rw[af e,af e];rfl
 ·have g1:=aL g1;obtain⟨t,z⟩:=u (x:=0) (by omega);rw[t,z];exact⟨rfl,ai.same J⟩
theorem P0 (h:gG b w F ((jR ah m,ah),m)) (k:rH ah m d) {up:Bool} {c ax:Int} {n:Int} (u:1<=n/\n<=64) (e:n=if up then 4 else 10) :
  aU Tryz.prog zF CY (Dx (aa ⟨b,0,ah⟩) up c ax n) w (D4 λe w'=>e=Z (I 0)/\ai (dp b) w w' F (aa ⟨n,0,ae,up,c,ax,ae⟩,d.2)):=by
 refine aU.mk ?_;rw[ae3];refine⟨(aex n w u).mono ?_⟩;rintro e w1 ⟨rfl,a⟩;refine⟨_,_,rfl,λg=>(by simp at g),λ_=>⟨λj f=>?_⟩⟩
 have y:zJ w1.heap.size w.heap.size j (λi=>i=w1.heap.size∨i=w.heap.size) ((w1.heap.size,w.heap.size,⟨n,0,ae,up,c,ax,ae⟩),⟨n,0,ae,up,c,ax,ae⟩):=by
  refine⟨λi=>i=w1.heap.size,λi=>i=w.heap.size,Rw.new f rfl,⟨λ_=>bp,f.keep a.aK⟩,λi=>bp,λi hi G=>?_⟩;have:=a.size;omega
 have z:av no w j:=(a.ak no).and (f.ak no);obtain⟨F0,A,B⟩:=h.left;obtain⟨F1,H,C⟩:=A.right;have D:=a.size;have l:ai xd w j F1 (aa (w1.heap.size,w.heap.size,⟨n,0,ae,up,c,ax,ae⟩)):=⟨_,y,z.nn,λi hi=>.inr (by rcases hi with rfl|rfl<;>omega)⟩;obtain⟨F2,x,o,s⟩:=B _ _ (C _ _ l);refine⟨_,rfl,gG.K6 x (p':=jR (aa (w1.heap.size,w.heap.size,⟨n,0,ae,up,c,ax,ae⟩)) m) (by omega) (by simp[tx,jR,bc]) λJ t=>⟨rfl,(ai.next x o s t).dk ⟨rfl,k.p,λr E=>?_⟩⟩⟩;cases E;exact⟨fU _,by simp only;omega,u.2⟩
theorem Zr (h:dp b w F d) (up:Bool) (c ax:Int):Cx 161 #[pt b,.bool up,I c,I ax] w λe w'=>e=Z (I (nv d c ax))/\ai (dp b) w w' F (tp d up c ax):=by
 have o:=h;obtain⟨q,m,h,k⟩:=h;refine ah4 ?_;have i:∀{x:Int},x≠0->nv d c ax=x->nv d c ax=x/\tp d up c ax=d:=λp e=>⟨e,by unfold tp;rw[e,af p]⟩;refine⟨λg=>(by cases g),λ_=>⟨_,rfl,_,h.ay.cell rfl,λg1=>?_,λg1=>?_⟩⟩
 ·cases q with
  | none=>cases g1
  | some s=>
   obtain⟨a,j⟩:=i (x:=7) (by omega) (by unfold nv;rw[k.some_];rfl);rw[a,j];exact⟨rfl,ai.same o⟩
 ·cases q with
  | some s=>cases g1
  | none=>
   have hd:=k.none_;refine⟨(P2 c w).mono ?_⟩;rintro e w1 ⟨rfl,rfl⟩;refine⟨_,rfl,λl=>⟨(P2 ax w1).mono ?_⟩,λl=>?_⟩
   ·have l:lX c:=by simpa using l
    rintro e t ⟨rfl,rfl⟩;refine⟨_,rfl,λf=>?_,λf=>⟨λn=>?_,λn=>?_⟩⟩
    ·have f:¬lX ax:=by simpa using f
     obtain⟨a,j⟩:=i (x:=3) (by omega) (by unfold nv;rw[hd];simp[f]);rw[a,j];exact⟨rfl,ai.same o⟩
    ·have f:lX ax:=by simpa using f
     have n:c=ax:=by simpa using n
     obtain⟨a,j⟩:=i (x:=2) (by omega) (by unfold nv;rw[hd];subst n;simp[f]);rw[a,j];exact⟨rfl,ai.same o⟩
    ·have f:lX ax:=by simpa using f
     have n:¬c=ax:=by simpa using n
     have a:nv d c ax=0:=by unfold nv;rw[hd];simp[l,f,n]
     have j:tp d up c ax=(aa ⟨if up then 4 else 10,0,ae,up,c,ax,ae⟩,d.2):=by unfold tp;rw[aj a]
     rw[a,j];refine⟨λg=>?_,λg=>?_⟩
     ·subst g;exact P0 h k (by omega) rfl
     ·subst g;exact P0 h k (by omega) rfl
   ·have l:¬lX c:=by simpa using l
    obtain⟨a,j⟩:=i (x:=3) (by omega) (by unfold nv;rw[hd];simp[l]);rw[a,j];exact⟨rfl,ai.same o⟩
theorem Zs (h:dp b w F d):Cx 210 #[pt b] w λe w'=>(∃x:Int,e=Z (I x))/\ai (dp b) w w' F (xT d):=by
 refine aiN ?_;refine⟨(P5 h).mono ?_⟩;rintro e w1 ⟨rfl,f⟩;have s:=(Frame.Hk b).ak h f (λ_ _ h=>h)
 have key:(tA d≠0/\xT d=d)∨(tA d=0/\∃r,d.1=aa r/\r.over=ae/\xT d=(aa {r with told:=ae,aA:=if r.back then r.aA-1 else r.aA+1},d.2)):=by
  unfold tA xT
  cases hd:d.1 with
  | none=>exact .inl ⟨by simp,rfl⟩
  | some r=>
   cases a:r.over with
   | true=>exact .inl ⟨by simp[a],by simp[a]⟩
   | false=>exact .inr ⟨by simp[a],r,rfl,a,by simp[a]⟩
 rcases key with⟨j,k⟩|⟨j,r,hd,a,k⟩
 ·rw[k];exact⟨_,rfl,λ_=>⟨⟨_,rfl⟩,ai.quiet h f⟩,λg=>absurd (by simpa using g) j⟩
 ·rw[j,k];refine⟨_,rfl,λg=>(by simp at g),λ_=>?_⟩;obtain⟨bq,b2,mo,F2,hA⟩:=s.open hd;refine⟨_,rfl,_,hA.ay.cell rfl,_,rfl,hA.FL ae _ λH l=>?_⟩;obtain⟨F3,t,n,o⟩:=l;obtain⟨z,A,B,F4,hB⟩:=t.open (r:={r with told:=ae}) rfl;refine⟨_,rfl,_,hB.ay.cell rfl,_,rfl,_,hB.cZ.cell rfl,⟨(aea hB.run hB.aA.aA).mono ?_⟩⟩;rintro e C ⟨rfl,u⟩;have p:bd.over {r with told:=ae}=ae:=a;rw[p]at u⊢;refine⟨_,rfl,⟨_,rfl⟩,?_⟩
  have c:uh (uE {r with told:=ae}):=by
   obtain⟨D,E,G⟩:=hB.aA;unfold bd.over bd.now at a;unfold uh uE;simp only at D E G⊢;cases y:r.back
   ·have:r.aA≠r.jj:=λe=>by simp[y,e]at a
    simp;omega
   ·have:r.aA≠0:=λe=>by simp[y,e]at a
    simp;omega
  have:=hB.runT C (uE {r with told:=ae}) rfl rfl rfl rfl c (by simpa using u);have:=ai.next t n o this;exact ai.next s f.nn (λi hi=>.inl hi) this
theorem Zu (h:dp b w F d) (a:nA d=ag):Cx 212 #[pt b] w λe w'=>e=Z (.tuple #[I (Az d).1,I (Az d).2])/\ai (dp b) w w' F (vT d):=by
 obtain⟨r,c,a⟩:∃r,d.1=aa r/\r.over=ag:=by
  unfold nA at a
  cases hd:d.1 with
  | none=>rw[hd]at a;cases a
  | some r=>rw[hd]at a;exact⟨r,rfl,a⟩
 have A:Az d=(r.gX,0):=by unfold Az;rw[c];simp[a]
 have B:vT d=(ah,d.2):=by unfold vT;rw[c];simp[a]
 rw[A,B];obtain⟨bq,b2,mo,F2,hA⟩:=h.open c;refine aiP ?_;refine⟨λg=>(by cases g),λ_=>⟨_,rfl,_,hA.ay.cell rfl,λg=>(by cases g),λ_=>⟨(IH h).mono ?_⟩⟩⟩;rintro e w1 ⟨rfl,y⟩;have n:nA d=ag:=by unfold nA;rw[c];exact a
 rw[n];have z:=(Frame.Hk b).ak h y (λ_ _ h=>h);obtain⟨bq,b2,mo,F2,hA⟩:=z.open c;refine⟨_,rfl,λg=>(by simp at g),λ_=>⟨_,rfl,_,hA.ay.cell rfl,_,rfl,_,hA.cZ.cell rfl,⟨(aeS hA.run hA.aA.aA a).mono ?_⟩⟩⟩;rintro e C ⟨rfl,f⟩;have D:=(Frame.Hk b).ak z f (λ_ _ h=>h);have j:=y.and f;obtain⟨q,m,E,k⟩:=D;refine⟨_,rfl,_,rfl,gG.K6 E (p':=jR ah m) (by omega) (by simp[tx,jR,bc]) λo G=>⟨rfl,?_⟩⟩;obtain⟨F6,l,s,t⟩:=G;obtain⟨F0,H,J⟩:=aF.left l;obtain⟨F7,O,K⟩:=H.right;have u:ai xd o o F7 ah:=⟨λ_=>False,λ_ h=>h,av.refl _ _,λ_ h=>h.elim⟩;have x:=(show ai (gG b) C o F ((jR ah m,ah),m)from ai.next l s t (J _ _ (K _ _ u))).dk (d':=(ah,d.2)) ⟨rfl,k.p,λr c=>(by cases c)⟩;obtain⟨F9,L,M,N⟩:=x;exact⟨F9,L,(j.nn).trans M (λi _ hi=>hi),λi hi=>(N i hi).imp id λh=>aW j.size h⟩
def zh (x:Int×Bool×Bool):List Value:=[I x.1,.bool x.2.1,.bool x.2.2]
abbrev ui (b:Nat):Ob (Int×Bool×Bool):=Rw b 303 zh
theorem P6 {W:World} {F0:Fp} {r:bd} {p1 j:Nat} {x:Int×Bool×Bool} {n:Int} {bk g:Bool} (c:ai (aF (aF (dp b) (ui p1)) (ui j)) W w F0 ((d,x),(n,bk,g))) (l:d.1=aa r) {k:bd} {f2:Int->Bool} (o:k={r with told:=ag}) (p:f2=d.2) :
  aU Tryz.prog qo C1 (Dy (aa ⟨b,0,ah⟩) ⟨p1,0,ah⟩ ⟨j,0,ah⟩) w (D6 λe w'=>e=Z (.tuple #[.agg #[I n,.bool bk,.bool g],I 0])/\ai (dp b) W w' F0 (aa k,f2)):=by
 subst o;subst p;refine aU.mk ?_;rw[afg];obtain⟨F1,hA,a⟩:=c.ll;obtain⟨bq,b2,mo,F2,h⟩:=hA.open l;refine⟨_,rfl,_,h.ay.cell rfl,_,rfl,h.FL ag _ λs f=>?_⟩;replace c:=a _ _ f;clear hA a f h;obtain⟨F1,hA,a⟩:=c.right;refine⟨_,hA.ay.cell rfl,_,hA.ay.cell rfl,_,hA.ay.cell rfl,?_⟩;clear hA a;obtain⟨F1,hA,a⟩:=c.lr;refine hA.ay.gF (by simp[zh]) λt i=>?_;replace c:=a _ _ (hA.gD (s':=(n,bk,g)) i.U i.aK);clear hA a i;obtain⟨F1,hA,a⟩:=c.lr;exact⟨_,hA.ay.cell rfl,_,hA.ay.cell rfl,_,hA.ay.cell rfl,rfl,c.drop.drop⟩
theorem Zw {W:World} {F0:Fp} {r:bd} {p1 o:Nat} {x:Int×Bool×Bool} {n:Int} {bk h:Bool} (i:ai (aF (aF (dp b) (ui p1)) (ui o)) W w F0 ((d,x),(n,bk,h))) (l:d.1=aa r) (u:r.over=ae) (y:h=ag->r.back=ae/\d.2 n=ag) {p:bd} {f2:Int->Bool} (s:p={r with told:=ag,back:=r.back||h}) (t:f2=if h then λk=>if k=n then ae else d.2 k else d.2) :
  aU Tryz.prog qo xH (xU (aa ⟨b,0,ah⟩) ⟨p1,0,ah⟩ n ⟨o,0,ah⟩) w (yq λe w'=>e=Z (.tuple #[.agg #[I n,.bool bk,.bool h],I 0])/\
   ai (dp b) W w' F0 (aa p,f2)):=by
 refine aU.mk ?_;rw[aff];obtain⟨F1,hA,j⟩:=i.right;refine⟨_,hA.ay.cell rfl,λg=>?_,λg=>?_⟩
 ·have g:h=ag:=g;subst g;clear hA j;obtain⟨z,A⟩:=y rfl;obtain⟨F1,hA,j⟩:=i.ll;obtain⟨bq,b2,mo,F2,a⟩:=hA.open l;obtain⟨B,f,c⟩:=a.del n 3 0 A;refine⟨_,rfl,_,a.ay.cell rfl,B,f,?_⟩;replace i:=j _ _ c;clear hA j c a f;obtain⟨F1,hA,j⟩:=i.ll;obtain⟨bq,b2,mo,F2,a⟩:=hA.open l;refine⟨_,rfl,_,a.ay.cell rfl,_,rfl,_,a.cZ.cell rfl,⟨(aef a.run a.aA.aA u z).mono ?_⟩⟩;rintro e C ⟨rfl,c⟩;replace i:=j _ _ (a.runT C {r with back:=ag} rfl rfl rfl rfl a.aA c);clear hA j c a;refine⟨_,rfl,?_⟩;exact P6 (r:={r with back:=ag}) i rfl (by rw[s,Bool.or_true]) (by rw[t,aj rfl])
 ·have g:h=ae:=g;subst g;exact P6 i l (by rw[s,pD]) (by rw[t,af Bool.false_ne_true])
theorem Zx (h:dp b w F d):Cx 208 #[pt b] w λe w'=>e=Z (.tuple #[.agg #[I (jy d).1.1,.bool (jy d).1.2.1,.bool (jy d).1.2.2],I (jy d).2])/\ai (dp b) w w' F (sk d):=by
 have a:=ai.same h;refine aiL ?_;refine⟨λw1 o=>?_⟩;replace a:ai (aF (dp b) (ui w.heap.size)) w w1 F (d,(0,ae,ae)):=a.add (o.ak no) (Rw.new (enc:=zh) o rfl) (λi hi=>bF hi.symm);generalize w.heap.size=p1 at a⊢;obtain⟨F1,hA,c⟩:=a.left;refine⟨(P5 hA).mono ?_⟩;rintro e E ⟨rfl,p⟩;replace a:=a.ak p;clear hA c p
 have key:(tA d≠0/\jy d=((0,ae,ae),tA d)/\sk d=d)∨(tA d=0/\∃r,d.1=aa r/\r.over=ae/\jy d=((r.now.1,r.now.2.1,jd d r),0)/\sk d=(aa {r with told:=ag,back:=r.back||jd d r},if jd d r then λk=>if k=r.now.1 then ae else d.2 k else d.2)):=by
  unfold tA jy sk
  cases hd:d.1 with
  | none=>exact .inl ⟨by simp,rfl,rfl⟩
  | some r=>
   cases f:r.over with
   | true=>exact .inl ⟨by simp[f],by simp[f],by simp[f]⟩
   | false=>exact .inr ⟨by simp[f],r,rfl,f,by simp[f],by simp[f]⟩
 rcases key with⟨x,y,z⟩|⟨x,r,A,f,y,z⟩
 ·rw[y,z];refine⟨_,rfl,λ_=>?_,λg=>absurd (by simpa using g) x⟩;obtain⟨F1,hA,c⟩:=a.right;refine hA.ay.gF (by simp[zh]) λC n=>?_;replace a:=c _ _ (hA.gD (s':=((0,ae,ae):Int×Bool×Bool)) n.U n.aK);clear hA c n;obtain⟨F1,hA,c⟩:=a.right;exact⟨_,hA.ay.cell rfl,_,hA.ay.cell rfl,_,hA.ay.cell rfl,rfl,a.drop⟩
 ·rw[x,y,z];refine⟨_,rfl,λg=>(by simp at g),λ_=>?_⟩;obtain⟨F1,hA,c⟩:=a.left;obtain⟨bq,b2,mo,F2,j⟩:=hA.open A;refine⟨_,rfl,_,j.ay.cell rfl,_,rfl,_,j.cZ.cell rfl,⟨(zT j.run j.aA.aA).mono ?_⟩⟩;rintro e C ⟨rfl,p⟩;replace a:=a.ak p;clear hA c p j
  have u:r.now.2.1=r.back:=by
   unfold bd.over bd.now at f;unfold bd.now;split
   ·rfl
   ·split<;>simp_all
  rw[u]
  have fin:∀{s:World} {B:Bool},B=jd d r->ai (aF (dp b) (ui p1)) w s F (d,(0,ae,ae))->aJ s [I 0,.bool ae,.bool ae] 303 λp_4 w'=>Wr w' p_4 [I r.now.1,.bool r.back,.bool B] λw'=>
    aU Tryz.prog qo xH (xU (aa ⟨b,0,ah⟩) ⟨p1,0,ah⟩ r.now.1 p_4) w' (yq λe w'=>e=Z (.tuple #[.agg #[I r.now.1,.bool r.back,.bool (jd d r)],I 0])/\
     ai (dp b) w w' F (aa {r with told:=ag,back:=r.back||jd d r},if jd d r then λk=>if k=r.now.1 then ae else d.2 k else d.2)):=by
   rintro s B rfl a;refine⟨λD o=>?_⟩;replace a:ai (aF (aF (dp b) (ui p1)) (ui s.heap.size)) w D F ((d,(0,ae,ae)),(0,ae,ae)):=a.add (o.ak no) (Rw.new (enc:=zh) o rfl) (λi hi=>bF hi.symm);generalize s.heap.size=G at a⊢;obtain⟨F1,hA,c⟩:=a.right;refine hA.ay.gF (by simp[zh]) λH n=>?_;replace a:=c _ _ (hA.gD (s':=(r.now.1,r.back,jd d r)) n.U n.aK);refine Zw a A f (λt=>?_) rfl rfl;unfold jd at t;rw[u]at t;simp only[aY,ja]at t;exact⟨t.1.1,t.2⟩
  refine⟨_,_,_,rfl,λg=>?_,λg=>?_⟩
  ·have g:r.back=ae:=by simpa using g
   obtain⟨F1,hA,c⟩:=a.left;obtain⟨bq,b2,mo,F2,j⟩:=hA.open A;refine⟨_,rfl,_,j.ay.cell rfl,_,rfl,_,j.cZ.cell rfl,λl=>?_,λl=>?_⟩
   ·have l:r.told=ae:=by simpa using l
    refine⟨_,rfl,_,j.ay.cell rfl,_,j.look _,fin ?_ a⟩;unfold jd;rw[u,g,l];rfl
   ·have l:r.told=ag:=by simpa using l
    refine fin ?_ a;unfold jd;rw[l];simp
  ·have g:r.back=ag:=by simpa using g
   refine fin ?_ a;unfold jd;rw[u,g];rfl
end
theorem X7:eO Tryz.prog 222 226 6 40 [.bool ae,.bool ae,I 0,I 0,I 0,I 0]:=⟨by kernel_rfl,by kernel_rfl,rfl,by omega⟩
abbrev qk:=dV×Int×Int
def fX (x:qk):List Value:=[.bool x.1.pw,.bool x.1.idle,I x.1.cC,I x.1.since,I x.2.1,I x.2.2]
theorem Dg (x:qk):(fX x).length=6:=rfl
abbrev sP (b:Nat):Ob (List qk×Option Addr×Nat):=Hd b 224 226 6 (λl p c=>[.slice p l.length c]) (λl=>l.length) (λl=>l.flatMap fX)
structure vl (x:List dV):Prop where
 cC:∀q∈x,0<=q.cC/\q.cC<4
 len:1<=x.length/\x.length<=64
def fC (b:Nat):Ob (List dV):=λw F x=>∃l y,sP b w F (l,y)/\l.map fv=x/\vl x
instance Frame.XF (b:Nat):Frame (fC b) where
 ak:=λ⟨l,y,h,r⟩ k a=>⟨l,y,(Frame.hd ..).ak h k a,r⟩
 lt:=λ⟨_,_,h,_⟩=>(Frame.hd ..).lt h
section
variable {b:Nat} {w w':World} {F:Fp} {x:List dV} {l:List qk} {y:Option Addr×Nat}
theorem sP.wr {a:Addr} {c0:Nat} (h:sP b w F (l,(aa a,c0))) {i:Nat} (hi:i<l.length) {j:Nat} {vs:List Value} {q:qk} (d:j+vs.length<=6) (e:fX q=bc (fX l[i]) j vs) {K:World->Prop} (f:∀w',ai (sP b) w w' F (l.set i q,(aa a,c0))->K w'):Wr w ((a.add (i*6)).add j) vs K:=by
 rw[dX];have g:(i+1)*6<=l.length*6:=fM _ hi;refine h.sl.wr (o:=i*6+j) (by simp only;omega) λw' c k=>f w' (h.elems ?_ k (by simp));rw[Kb Dg hi d e]at c;simpa using c
theorem sP.at (h:sP b w F (l,y)) {i:Nat} (hi:i<l.length):∃a c0,y=(aa a,c0)/\∀(j:Nat) v,(fX l[i])[j]?=aa v->w.cell? ((a.add (i*6)).add j)=aa v:=by
 obtain⟨a,c,d⟩:=h.sl.cells.qG Dg (by omega) hi;obtain⟨p,c0⟩:=y;simp only at c;subst c;exact⟨a,c0,rfl,d⟩
theorem PU {i:Nat} (hi:i<x.length):bg x (i:Int)=x[i]:=by
 unfold bg;rw[aj (show dS x (i:Int)from⟨by omega,by omega⟩)];simp[aO,hi]
theorem wb {c:Int} (h:dS x c):∃i:Nat,i<x.length/\c=(i:Int):=⟨c.toNat,by unfold dS at h;omega,by unfold dS at h;omega⟩
def kc (b:Nat) (W w:World) (F:Fp) (l:List qk) (a:Addr) (c0:Nat):Prop:=ai (sP b) W w F (l,(aa a,c0))
theorem kc.cell {W:World} {a:Addr} {c0:Nat} (h:kc b W w F l a c0) {i:Nat} (hi:i<l.length) {j:Nat} {v:Value} (c:(fX l[i])[j]?=aa v):w.cell? ((a.add (i*6)).add j)=aa v:=by
 obtain⟨F1,d,_⟩:=h;obtain⟨g,c',e,f⟩:=d.at hi;cases e;exact f j v c
theorem kc.ay {W:World} {a:Addr} {c0:Nat} (h:kc b W w F l a c0):aM w b [.slice (aa a) l.length c0] 224:=by
 obtain⟨F1,c,_⟩:=h;exact c.ay
theorem kc.wr {W:World} {a:Addr} {c0:Nat} (h:kc b W w F l a c0) {i:Nat} (hi:i<l.length) {j:Nat} {vs:List Value} (q:qk) (c:j+vs.length<=6) (d:fX q=bc (fX l[i]) j vs) {K:World->Prop} (e:∀w',kc b W w' F (l.set i q) a c0->K w'):Wr w ((a.add (i*6)).add j) vs K:=by
 obtain⟨F1,f,g⟩:=ai.db h;exact sP.wr f hi c d λw' k=>e w' (g _ _ k)
theorem kc.ak {W w1:World} {a:Addr} {c0:Nat} (h:kc b W w F l a c0) (c:av no w w1):kc b W w1 F l a c0:=ai.ak h c
theorem kc.out {W:World} {a:Addr} {c0:Nat} (h:kc b W w F l a c0) (c:l.map fv=x) (d:vl x):ai (fC b) W w F x:=by
 obtain⟨e,f,g⟩:=h;exact⟨e,⟨l,_,f,c,d⟩,g⟩
theorem fC.open (h:fC b w F x) {i:Nat} (hi:i<x.length):∃l a c0,kc b w w F l a c0/\l.map fv=x/\vl x:=by
 obtain⟨l,y,h,rfl,d⟩:=h;have c:i<l.length:=by simpa using hi
 obtain⟨a,c0,rfl,e⟩:=h.at c;exact⟨l,a,c0,ai.same h,rfl,d⟩
theorem vl.set (c:vl x) {i:Nat} {q:dV} (d:0<=q.cC/\q.cC<4):vl (x.set i q):=⟨λz a=>by
 rcases i7 a with a|rfl
 ·exact c.cC z a
 ·exact d,by simpa using c.len⟩
theorem fC.v (h:fC b w F x):vl x:=by obtain⟨_,_,_,_,a⟩:=h;exact a
theorem fC.cC (h:fC b w F x) (c:Int):0<=(bg x c).cC/\(bg x c).cC<4:=by
 by_cases a:dS x c
 ·obtain⟨i,hi,rfl⟩:=wb a;rw[PU hi];exact h.v.cC _ (cx hi)
 ·unfold bg;rw[af a];exact⟨fU _,by decide⟩
theorem fC.ay (h:fC b w F x):∃p c0,aM w b [.slice p x.length c0] 224:=by
 obtain⟨l,y,h,rfl,a⟩:=h;exact⟨_,_,by simpa using h.ay⟩
theorem xN (h:fC b w F x) {c:Int} (d:¬dS x c):Cx 199 #[pt b,I c] w λe w'=>e=Z (.tuple #[.pointer ah,I 3])/\w'=w:=by
 obtain⟨p,c0,hB⟩:=h.ay;refine UD ?_;refine⟨λg=>(by cases g),λ_=>⟨λg1=>⟨_,rfl,_,_,_,hB.cell rfl,λa=>⟨rfl,rfl⟩,λa=>?_⟩,λg1=>⟨rfl,rfl⟩⟩⟩;have g1:=aT g1;have a:=aT a;exact absurd (show dS x c from⟨by omega,by omega⟩) d
theorem xO {W:World} {i:Nat} {a:Addr} {c0:Nat} (h:kc b W w F l a c0) (hi:i<l.length):Cx 199 #[pt b,I (i:Int)] w λe w'=>e=Z (.tuple #[.pointer (aa (a.add (i*6))),I 0])/\w'=w:=by
 have hB:=h.ay;refine UD ?_;refine⟨λg=>(by cases g),λ_=>⟨λg1=>⟨_,rfl,_,_,_,hB.cell rfl,λc=>?_,λc=>⟨_,rfl,_,_,_,hB.cell rfl,⟨by omega,by omega⟩,_,rfl,?_,rfl⟩⟩,λg1=>?_⟩⟩
 ·have c:=aL c;omega
 ·simp
 ·have g1:=aL g1;omega
theorem Ol (n:Int) (w:World):Cx 206 #[I n] w λe w'=>e=Z (.bool (decide (bD n)))/\w'=w:=by
 refine aiJ ?_;refine⟨λg=>⟨?_,rfl⟩,λg=>⟨?_,rfl⟩⟩
 ·have:=aL g;congr 2;exact decide_eq_decide.2 (by unfold bD;omega)
 ·have:=aT g;congr 2;exact(decide_eq_false (λa=>absurd a.1 this)).symm
theorem Ot {W:World} {i:Nat} {a:Addr} {c0:Nat} (h:kc b W w F l a c0) (hi:i<l.length):Cx 207 #[.pointer (aa (a.add (i*6)))] w λe w'=>e=Z (.tuple #[])/\kc b W w' F (l.set i (⟨l[i].1.pw,ae,0,0⟩,l[i].2)) a c0:=by
 refine aiK ?_;refine⟨_,rfl,h.wr hi (⟨l[i].1.pw,ae,l[i].1.cC,l[i].1.since⟩,l[i].2) (by simp) (by simp[fX,bc]) λw1 c=>?_⟩;refine⟨_,rfl,c.wr (i:=i) (by simpa using hi) (⟨l[i].1.pw,ae,0,l[i].1.since⟩,l[i].2) (by simp) (by simp[fX,bc]) λg d=>?_⟩;refine⟨_,rfl,d.wr (i:=i) (by simpa using hi) (⟨l[i].1.pw,ae,0,0⟩,l[i].2) (by simp) (by simp[fX,bc]) λj f=>⟨rfl,?_⟩⟩;simpa using f
theorem DN {i:Nat} (a:l.map fv=x) (hi:i<l.length):bg x (i:Int)=l[i].1:=by
 subst a;rw[PU (by simpa using hi)];simp
theorem Hh (h:fC b w F x) (c:Int) (on:Bool):Cx 354 #[pt b,I c,.bool on] w λe w'=>(∃n:Int,e=Z (I n))/\ai (fC b) w w' F (iK x c on):=by
 refine akT ?_;by_cases j:dS x c
 ·obtain⟨i,hi,rfl⟩:=wb j;obtain⟨l,a,c0,k,m,q⟩:=h.open hi;have d:i<l.length:=by rw[<-m]at hi;simpa using hi
  refine⟨(xO k d).mono ?_⟩;rintro e w1 ⟨rfl,rfl⟩;have p:=DN m d;refine⟨_,_,rfl,λg=>(by simp at g),λ_=>⟨_,rfl,_,k.cell d rfl,λg=>?_,λg=>?_⟩⟩
  ·have g:l[i].1.pw=on:=by simpa using g
   have f:iK x (i:Int) on=x:=by unfold iK;rw[af (λo=>o.2 (by rw[p];exact g))]
   rw[f];exact⟨⟨_,rfl⟩,ai.same h⟩
  ·have g:l[i].1.pw≠on:=by simpa using g
   refine⟨_,rfl,k.wr d (⟨on,l[i].1.idle,l[i].1.cC,l[i].1.since⟩,l[i].2) (by simp) (by simp[fX,bc]) λt r=>⟨(Ot r (i:=i) (by simpa using d)).mono ?_⟩⟩;rintro e u ⟨rfl,s⟩;refine⟨rfl,⟨_,rfl⟩,?_⟩
   have f:iK x (i:Int) on=x.set i ⟨on,ae,0,0⟩:=by
    unfold iK;rw[aj ⟨j,by rw[p];exact g⟩];rfl
   rw[f];refine s.out ?_ (q.set ⟨fU _,(show(0:Int)<4 by decide)⟩);rw[fx,fx,m];simp
 ·refine⟨(xN h j).mono ?_⟩;rintro e w1 ⟨rfl,rfl⟩;have f:iK x c on=x:=by unfold iK;rw[af (λo=>j o.1)]
  rw[f];exact⟨_,_,rfl,λ_=>⟨⟨_,rfl⟩,ai.same h⟩,λg=>(by simp at g)⟩
theorem XI (h:fC b w F x) (c cC now:Int) (p:cC<4):Cx 216 #[pt b,I c,I cC,I now] w λe w'=>(∃n:Int,e=Z (I n))/\ai (fC b) w w' F (mN x c cC now):=by
 refine aiU ?_;by_cases s:dS x c
 ·obtain⟨i,hi,rfl⟩:=wb s;obtain⟨l,a,c0,t,u,A⟩:=h.open hi;have f:i<l.length:=by rw[<-u]at hi;simpa using hi
  refine⟨(xO t f).mono ?_⟩;rintro e w1 ⟨rfl,rfl⟩;have q:=DN u f
  have j:¬((0<=cC/\cC<8)/\bD now/\l[i].1.pw=ag/\l[i].1.idle=ae)->mN x (i:Int) cC now=x:=λB=>by
   unfold mN;rw[af (λd=>B ⟨d.2.1,d.2.2.1,by rw[<-q];exact d.2.2.2.1,by rw[<-q];exact d.2.2.2.2⟩)]
  refine⟨_,_,rfl,λg=>(by simp at g),λ_=>⟨λg1=>⟨λr=>⟨(Ol now w1).mono ?_⟩,λr=>?_⟩,λg1=>?_⟩⟩
  ·rintro e G ⟨rfl,rfl⟩;have g1:=aT g1;have r:=aT r;refine⟨_,rfl,λk=>?_,λk=>⟨_,rfl,_,t.cell f rfl,λm=>⟨_,rfl,_,t.cell f rfl,λo=>?_,λo=>?_⟩,λm=>?_⟩⟩
   ·have k:¬bD now:=by simpa using k
    rw[j (λd=>k d.2.1)];exact⟨⟨_,rfl⟩,ai.same h⟩
   ·have o:l[i].1.idle=ag:=o;rw[j (λd=>by rw[o]at d;cases d.2.2.2)];exact⟨⟨_,rfl⟩,ai.same h⟩
   ·have k:bD now:=by simpa using k
    have m:l[i].1.pw=ag:=by simpa using m
    have o:l[i].1.idle=ae:=o;refine⟨_,rfl,t.wr f (⟨l[i].1.pw,ag,l[i].1.cC,l[i].1.since⟩,l[i].2) (by simp) (by simp[fX,bc]) λH C=>?_⟩;refine⟨_,rfl,C.wr (i:=i) (by simpa using f) (⟨l[i].1.pw,ag,cC,l[i].1.since⟩,l[i].2) (by simp) (by simp[fX,bc]) λJ D=>?_⟩;refine⟨_,rfl,D.wr (i:=i) (by simpa using f) (⟨l[i].1.pw,ag,cC,now⟩,l[i].2) (by simp) (by simp[fX,bc]) λK E=>⟨⟨_,rfl⟩,?_⟩⟩
    have z:mN x (i:Int) cC now=x.set i ⟨l[i].1.pw,ag,cC,now⟩:=by
     unfold mN;rw[aj ⟨s,⟨by omega,by omega⟩,k,by rw[q];exact m,by rw[q];exact o⟩,q];rfl
    rw[z];refine E.out ?_ (A.set ⟨by simp only;omega,p⟩);rw[fx,fx,fx,u];simp
   ·have m:l[i].1.pw=ae:=by simpa using m
    rw[j (λd=>by rw[m]at d;cases d.2.2.1)];exact⟨⟨_,rfl⟩,ai.same h⟩
  ·have r:=aL r;rw[j (λd=>absurd d.1.2 (by omega))];exact⟨⟨_,rfl⟩,ai.same h⟩
  ·have g1:=aL g1;rw[j (λd=>absurd d.1.1 (by omega))];exact⟨⟨_,rfl⟩,ai.same h⟩
 ·refine⟨(xN h s).mono ?_⟩;rintro e w1 ⟨rfl,rfl⟩;have z:mN x c cC now=x:=by unfold mN;rw[af (λd=>s d.1)]
  rw[z];exact⟨_,_,rfl,λ_=>⟨⟨_,rfl⟩,ai.same h⟩,λg=>(by simp at g)⟩
theorem adX (x y:Int) (w:World):(xr #[2,2] 2 #[I x,I y]).run Tryz.prog w=.ok (I (if y>x then y else x)) w:=by
 simp[xr,Builtin.max2]
theorem XQ (h:fC b w F x) (c now:Int):Cx 117 #[pt b,I c,I now] w λe w'=>(∃n m:Int,e=Z (.tuple #[I n,I m]))/\ai (fC b) w w' F (eY x c now):=by
 refine ahm ?_;by_cases p:dS x c
 ·obtain⟨i,hi,rfl⟩:=wb p;obtain⟨l,a,c0,q,r,u⟩:=h.open hi;have d:i<l.length:=by rw[<-r]at hi;simpa using hi
  refine⟨(xO q d).mono ?_⟩;rintro e w1 ⟨rfl,rfl⟩;have s:=DN r d
  have o:¬(bD now/\l[i].1.idle=ag)->eY x (i:Int) now=x:=λz=>by
   unfold eY;rw[af (λf=>z ⟨f.2.1,by rw[<-s];exact f.2.2⟩)]
  refine⟨_,_,rfl,λg=>(by simp at g),λ_=>⟨(Ol now w1).mono ?_⟩⟩;rintro e C ⟨rfl,rfl⟩;refine⟨_,rfl,λj=>?_,λj=>⟨_,rfl,_,q.cell d rfl,λk=>?_,λk=>⟨_,rfl,_,q.cell d rfl,⟨(Ot q d).mono ?_⟩⟩⟩⟩
  ·have j:¬bD now:=by simpa using j
   rw[o (λf=>j f.1)];exact⟨⟨_,_,rfl⟩,ai.same h⟩
  ·have k:l[i].1.idle=ae:=by simpa using k
   rw[o (λf=>by rw[k]at f;cases f.2)];exact⟨⟨_,_,rfl⟩,ai.same h⟩
  ·have j:bD now:=by simpa using j
   have k:l[i].1.idle=ag:=by simpa using k
   rintro e A ⟨rfl,B⟩;refine⟨rfl,_,A,adX _ _ _,⟨_,_,rfl⟩,?_⟩
   have t:eY x (i:Int) now=x.set i ⟨l[i].1.pw,ae,0,0⟩:=by
    unfold eY;rw[aj ⟨p,j,by rw[s];exact k⟩,s];rfl
   rw[t];refine B.out ?_ (u.set ⟨fU _,(show(0:Int)<4 by decide)⟩);rw[fx,r]
 ·refine⟨(xN h p).mono ?_⟩;rintro e w1 ⟨rfl,rfl⟩;have t:eY x c now=x:=by unfold eY;rw[af (λf=>p f.1)]
  rw[t];exact⟨_,_,rfl,λ_=>⟨⟨_,_,rfl⟩,ai.same h⟩,λg=>(by simp at g)⟩
theorem J9 {i:Nat} (hi:i<l.length) (a:l.map fv=x) (n:Int×Int):(l.set i (l[i].1,n)).map fv=x:=by
 rw[fx,a];subst a;apply de;intro j;rw[cJ];by_cases e:i=j
 ·subst e;simp[hi]
 ·simp[e]
theorem N9 (h:fC b w F x) (c:Int) (p:Bool):Cx 116 #[pt b,I c,.bool p] w λe w'=>(∃n:Int,e=Z (I n))/\ai (fC b) w w' F x:=by
 refine ahl ?_;by_cases m:dS x c
 ·obtain⟨i,hi,rfl⟩:=wb m;obtain⟨l,a,c0,f,j,o⟩:=h.open hi;have d:i<l.length:=by rw[<-j]at hi;simpa using hi
  refine⟨(xO f d).mono ?_⟩;rintro e w1 ⟨rfl,rfl⟩;refine⟨_,_,rfl,λg=>(by simp at g),λ_=>⟨_,rfl,_,f.cell d rfl,_,rfl,f.wr d (l[i].1,aV .i64 (l[i].2.1+1),l[i].2.2) (by simp) (by simp[fX,bc]) λr k=>⟨λg=>?_,λg=>⟨⟨_,rfl⟩,k.out (J9 d j _) o⟩⟩⟩⟩;refine⟨_,rfl,_,k.cell (i:=i) (by simpa using d) (by simp[fX];rfl),_,rfl,k.wr (i:=i) (by simpa using d) (l[i].1,aV .i64 (l[i].2.1+1),aV .i64 (l[i].2.2+1)) (by simp) (by simp[fX,bc]) λs q=>⟨⟨_,rfl⟩,q.out ?_ o⟩⟩;rw[rN];exact J9 d j _
 ·refine⟨(xN h m).mono ?_⟩;rintro e w1 ⟨rfl,rfl⟩;exact⟨_,_,rfl,λ_=>⟨⟨_,rfl⟩,ai.same h⟩,λg=>(by simp at g)⟩
theorem XN (h:fC b w F x) (c:Int):Cx 227 #[pt b,I c] w λe w'=>(∃n m k:Int,e=Z (.tuple #[I n,I m,I k]))/\ai (fC b) w w' F x:=by
 refine ai5 ?_;by_cases j:dS x c
 ·obtain⟨i,hi,rfl⟩:=wb j;obtain⟨l,a,c0,f,o,p⟩:=h.open hi;have d:i<l.length:=by rw[<-o]at hi;simpa using hi
  refine⟨(xO f d).mono ?_⟩;rintro e w1 ⟨rfl,rfl⟩;refine⟨_,_,rfl,λg=>(by simp at g),λ_ A q r s t=>?_⟩;have f:=f.ak (av.same no q r s t);refine⟨_,rfl,_,f.cell d rfl,_,rfl,_,f.cell d rfl,_,rfl,f.wr d (l[i].1,l[i].2.1,0) (by simp) (by simp[fX,bc]) λB u=>⟨_,rfl,u.wr (i:=i) (by simpa using d) (l[i].1,0,0) (by simp) (by simp[fX,bc]) λC z=>⟨⟨_,_,_,rfl⟩,z.out ?_ p⟩⟩⟩;rw[rN];exact J9 d o _
 ·refine⟨(xN h j).mono ?_⟩;rintro e w1 ⟨rfl,rfl⟩;exact⟨_,_,rfl,λ_=>⟨⟨_,_,_,rfl⟩,ai.same h⟩,λg=>(by simp at g)⟩
theorem G7 (h:fC b w F x) (c:Int):Cx 113 #[pt b,I c] w λe w'=>(∃n m:Int,e=Z (.tuple #[.agg #[.bool (bg x c).pw,.bool (bg x c).idle,I (bg x c).cC,I (bg x c).since,I n,I m],I (if dS x c then 0 else 3)]))/\av no w w':=by
 refine ahi ?_;refine⟨λw1 s=>?_⟩;have q:=s.ak no;have t:=(Frame.XF b).ak h q (λ_ _ h=>h);have hB:aM w1 w.heap.size _ _:=s.aK;by_cases o:dS x c
 ·obtain⟨i,hi,rfl⟩:=wb o;obtain⟨l,a,c0,k,u,D⟩:=t.open hi;have f:i<l.length:=by rw[<-u]at hi;simpa using hi
  refine⟨(xO k f).mono ?_⟩;rintro e z ⟨rfl,rfl⟩;have A:=DN u f;rw[A,aj o];refine⟨_,_,rfl,λg=>(by simp at g),λ_=>⟨_,rfl,_,k.cell f rfl,_,k.cell f rfl,_,k.cell f rfl,_,k.cell f rfl,_,k.cell f rfl,_,k.cell f rfl,hB.gF (by simp) λB p=>?_⟩⟩;have d:=p.aK;exact⟨_,d.cell rfl,_,d.cell rfl,_,d.cell rfl,_,d.cell rfl,_,d.cell rfl,_,d.cell rfl,⟨_,_,rfl⟩,q.trans p.U (λj r e=>absurd r (by omega))⟩
 ·refine⟨(xN t o).mono ?_⟩;rintro e z ⟨rfl,rfl⟩;have C:bg x c=Ha:=by unfold bg;rw[af o]
  rw[C,af o];refine⟨_,_,rfl,λ_=>hB.gF (by simp) λB p=>?_,λg=>(by simp at g)⟩;have d:=p.aK;exact⟨_,d.cell rfl,_,d.cell rfl,_,d.cell rfl,_,d.cell rfl,_,d.cell rfl,_,d.cell rfl,⟨0,0,rfl⟩,q.trans p.U (λj r e=>absurd r (by omega))⟩
end
def uf (f:Fl):List (Bool×Int):=[(f.1,2),(f.2.2.1,3),(f.2.1||!f.2.2.2.1,0),(f.2.2.2.2.1,4),(f.2.2.2.2.2.1,5),(f.2.2.2.2.2.2.1,6),(f.2.2.2.2.2.2.2.1,7),(f.2.2.2.2.2.2.2.2,8)]
def EV (x:Bool×Int):List Value:=[.bool x.1,I x.2]
theorem adl (x:Bool×Int):(EV x).length=2:=rfl
def BQ (f:Fl) (i:Nat):Int:=match((uf f).drop i).find? (·.1)with|some x=>x.2|none=>9
theorem amh (f:Fl):BQ f 0=ef f:=by
 obtain⟨a,b,c,d,e,g,h,i,j⟩:=f;unfold BQ ef uf;cases a<;>cases c<;>cases b<;>cases d<;>cases e<;>cases g<;>cases h<;>cases i<;>cases j<;>rfl
theorem OA (f:Fl) (W w:World) (a:av no W w):aU Tryz.prog sQ C0 (OW ((uf f).flatMap EV) 0) w (D5 λe w'=>e=Z (I (ef f))/\av no W w'):=by
 refine aU.mk ?_;rw[afd];refine⟨bO bu (M:=sQ) (σ:=Nat) (λi=>Hz ((uf f).flatMap EV) (i:Int)) (λi w'=>i<=8/\BQ f i=ef f/\av no W w') (λi _=>8-i) 0 ⟨rfl,rfl,trivial⟩ ⟨by omega,amh f,a⟩ ?_⟩;rintro i w1 ⟨p,d,a⟩;rw[afe];refine⟨λg=>?_,λg=>?_⟩
 ·have g:=aL g;have hi:i<(uf f).length:=by simp only[uf,il,oq];omega
  have h:=Pu adl (l:=uf f) (k:=i) hi;refine⟨⟨by omega,by omega⟩,(uf f)[i].1,(uf f)[i].2,by simpa [EV]using h,⟨λq m=>m.aK.gF (by simp) λr c=>⟨_,c.aK.cell rfl,λn=>⟨_,c.aK.cell rfl,?_,?_⟩,λn=>?_⟩⟩⟩
  ·congr 2;rw[<-d];unfold BQ;rw[ku hi,List.find?_cons_of_pos n]
  ·exact(a.and (m.ak no)).trans c.U (λj o e=>absurd o (by have:=a.size;omega))
  ·refine⟨i+1,⟨rfl,by rw[aP (by omega)];rfl,trivial⟩,⟨by omega,?_,(a.and (m.ak no)).trans c.U (λj o e=>absurd o (by have:=a.size;omega))⟩,by omega⟩;rw[<-d];unfold BQ;rw[ku hi,List.find?_cons_of_neg (by rw[n];decide)]
 ·have g:=aT g;have:i=8:=by omega
  subst this;refine⟨?_,a⟩;rw[<-d];rfl
theorem XR (f:Fl) (w:World):Cx 200 #[.agg #[.bool f.1,.bool f.2.1,.bool f.2.2.1,.bool f.2.2.2.1,.bool f.2.2.2.2.1,.bool f.2.2.2.2.2.1,.bool f.2.2.2.2.2.2.1,.bool f.2.2.2.2.2.2.2.1,.bool f.2.2.2.2.2.2.2.2]] w λe w'=>e=Z (I (ef f))/\av no w w':=by
 refine aiC ?_;refine⟨λw1 m=>?_⟩;have hB:aM w1 w.heap.size _ _:=m.aK;obtain⟨a,b,c,d,e,g,h,i,j⟩:=f;refine⟨_,hB.cell rfl,_,hB.cell rfl,_,hB.cell rfl,λk=>?_,λk=>?_⟩
 ·have k:b=ae:=k;subst k;exact⟨_,hB.cell rfl,_,hB.cell rfl,_,hB.cell rfl,_,hB.cell rfl,_,hB.cell rfl,_,hB.cell rfl,OA (a,ae,c,d,e,g,h,i,j) w w1 (m.ak no)⟩
 ·have k:b=ag:=k;subst k;exact⟨_,hB.cell rfl,_,hB.cell rfl,_,hB.cell rfl,_,hB.cell rfl,_,hB.cell rfl,OA (a,ag,c,d,e,g,h,i,j) w w1 (m.ak no)⟩
theorem Xy (q:qk) (f:Fl) (w:World):Cx 114 #[.agg #[.bool q.1.pw,.bool q.1.idle,I q.1.cC,I q.1.since,I q.2.1,I q.2.2],.agg #[.bool f.1,.bool f.2.1,.bool f.2.2.1,.bool f.2.2.2.1,.bool f.2.2.2.2.1,.bool f.2.2.2.2.2.1,.bool f.2.2.2.2.2.2.1,.bool f.2.2.2.2.2.2.2.1,.bool f.2.2.2.2.2.2.2.2]] w
  λe w'=>e=Z (I (tv q.1.pw q.1.idle f))/\av no w w':=by
 refine ahj ?_;refine⟨λw1 j=>⟨λn d=>?_⟩⟩;have m:=d.keep j.aK;have a:aM n w1.heap.size _ _:=d.aK;refine⟨_,a.cell rfl,_,a.cell rfl,_,a.cell rfl,_,a.cell rfl,_,a.cell rfl,_,a.cell rfl,_,a.cell rfl,_,a.cell rfl,_,a.cell rfl,⟨(XR f n).mono ?_⟩⟩;rintro e p ⟨rfl,o⟩;have hB:=m.ak o id;have c:=((j.ak no).and (d.ak no)).and o;unfold tv;refine⟨_,rfl,_,hB.cell rfl,λg=>⟨?_,c⟩,λg=>⟨_,hB.cell rfl,λk=>⟨?_,c⟩,λk=>⟨λh=>⟨λi=>⟨?_,c⟩,λi=>⟨?_,c⟩⟩,λh=>⟨?_,c⟩⟩⟩⟩
 ·rw[aj g]
 ·rw[af (by rw[g];decide),aj k]
 ·have i:ef f=9:=by simpa using i
  rw[af (by rw[g];decide),af (by rw[k];decide),aj (.inr i)]
 ·have h:ef f≠0:=by simpa using h
  have i:ef f≠9:=by simpa using i
  rw[af (by rw[g];decide),af (by rw[k];decide),af (by simp[h,i])]
 ·have h:ef f=0:=by simpa using h
  rw[af (by rw[g];decide),af (by rw[k];decide),aj (.inl h)]
def qI:qk:=(⟨ae,ae,0,0⟩,0,0)
def uz:qk:=(⟨ag,ae,0,0⟩,0,0)
theorem Xx (n:Nat) (A:1<=n/\n<=64) (w:World):Cx 54 #[I (n:Int)] w λe w'=>∃b F,e=Z (.tuple #[pt b,I 0])/\fC b w' F (aD n ⟨ag,ae,0,0⟩)/\av no w w'/\∀i,F i->w.heap.size<=i:=by
 refine u54 ?_;refine⟨λ_=>⟨λg=>?_,λ_=>?_⟩,λg=>?_⟩
 ·have:=aL g;omega
 ·obtain⟨w1,B,d⟩:=run_mk X7 w (n:=n) (by omega) (by omega) .i64 .i64 (f:=fX) (x0:=qI) Dg rfl;refine⟨_,_,_,w1,B,⟨λo k=>?_⟩⟩
  have u:sP w1.heap.size o (λi=>i=w1.heap.size∨bf (aa ⟨w.heap.size,0,ah⟩) i) (aD n qI,(aa ⟨w.heap.size,0,ah⟩,n)):=by
   refine⟨by simpa using k.aK,?_,?_,λi=>bp⟩
   ·have C:Sl w1 226 6 (aa ⟨w.heap.size,0,ah⟩) n n ((aD n qI).flatMap fX):=Sl.new d (by rw[Pt Dg];simp) (by unfold maxLen;omega);have:=C.ak (k.ak no) (λ_ _ h=>h);simpa using this
   ·rintro⟨a,p,D⟩;cases p;have:=d.size;simp only at D;omega
  have z:av no w o:=(d.ak no).and (k.ak no);have s:=d.size;generalize w1.heap.size=b at u s;have m:kc b o o (λi=>i=b∨bf (aa ⟨w.heap.size,0,ah⟩) i) (aD n qI) ⟨w.heap.size,0,ah⟩ n:=ai.same u
  refine⟨_,rfl,_,_,_,m.ay.cell rfl,⟨bO bu (M:=Cw) (σ:=Nat) (λi=>H3 (aa ⟨b,0,ah⟩) (n:Int) (i:Int))
   (λi w'=>i<=n/\kc b o w' (λi=>i=b∨bf (aa ⟨w.heap.size,0,ah⟩) i) (aD i uz++aD (n-i) qI) ⟨w.heap.size,0,ah⟩ n) (λi _=>n-i) 0 ⟨rfl,(by show aa (aB bj (((aD n qI).length:Nat):Int))=aa (aB bj (n:Int));rw[fW]),rfl,trivial⟩ ⟨by omega,by simpa using m⟩ ?_⟩⟩
  rintro i P ⟨hi,m⟩;rw[afY];refine⟨λg=>?_,λg=>?_⟩
  ·have g:=aL g;have c:(aD i uz++aD (n-i) qI).length=n:=by simp;omega
   have r:(aD i uz++aD (n-i) qI)[i]'(by rw[c];omega)=qI:=by
    rw[List.getElem_append_right (by simp)];simp
   refine⟨_,rfl,_,_,_,m.ay.cell rfl,⟨by omega,by rw[c];omega⟩,_,rfl,?_⟩;rw[bQ];refine m.wr (i:=i) (by rw[c];omega) uz (by simp) (by rw[r];rfl) λQ E=>⟨i+1,⟨rfl,rfl,by rw[aP (by omega)];rfl,trivial⟩,⟨by omega,?_⟩,by omega⟩
   have G:(aD i uz++aD (n-i) qI).set i uz=aD (i+1) uz++aD (n-(i+1)) qI:=by
    rw[List.set_append_right _ _ (by simp),fW,Nat.sub_self,show n-i=(n-(i+1))+1 by omega,List.replicate_succ,qD,tf,jP];rfl
   rw[<-G];exact E
  ·have g:=aT g;have:i=n:=by omega
   subst this;obtain⟨H,J,K,L⟩:=m.out (x:=aD i ⟨ag,ae,0,0⟩) (by simp[uz]) ⟨λq N=>by rw[k8 N];decide,by simpa using A⟩;refine⟨b,H,rfl,J,z.trans K (λj t O=>?_),λj t=>?_⟩
   ·rcases O with rfl|⟨a,p,rfl⟩
    ·omega
    ·cases p;simp only at t;omega
   ·rcases L j t with h|h
    ·rcases h with rfl|⟨a,p,rfl⟩
     ·omega
     ·cases p;exact aX _
    ·exact aW z.size h
 ·have:=aL g;omega
structure KQ where
 th:Nat
 rq:Nat
 tm:Nat
 ir:Nat
 rt:Nat
 wk:Nat
 ca:Nat
 st:Nat
 sc:Nat
 ga:Nat
 so:Nat
 dk:Nat
 co:Nat
 me:Nat
 gp:Option Addr
 gc:Nat
 ow:Nat
def Ld (T:TypeId) (p:Option Addr) (c:Nat):Ob (List (Nat×Unit)):=λw F a=>(∀i,F i↔bf p i)/\Sl w T 1 p a.length c (a.map iS)
instance Frame.lpo (T:TypeId) (p:Option Addr) (c:Nat):Frame (Ld T p c) where
 ak:=λ⟨h1,a⟩ k d=>⟨h1,a.ak k (λi hi=>d i ((h1 i).2 hi))⟩
 lt:=λ⟨h1,a⟩ i hi=>a.lt i ((h1 i).1 hi)
def nX (p:Option Addr) (c:Nat):Ob Nat:=λw F n=>∃a:List (Nat×Unit),a.length=n/\aF (Ld 137 p c) (Fam (At pk)) w F (a,a)
instance Frame.IF (p:Option Addr) (c:Nat):Frame (nX p c) where
 ak:=λ⟨a,r,h⟩ k d=>⟨a,r,Frame.star.ak h k d⟩
 lt:=λ⟨_,_,h⟩=>Frame.star.lt h
abbrev KR:=Nat×BV×BV×Int×Int
def mS (q:KQ) (r:KR):List Value:=[pt q.th,pt q.rq,pt q.tm,pt q.ir,pt q.rt,pt q.wk,pt q.ca,pt q.st,pt q.sc,pt q.ga,pt q.so,pt q.dk,pt q.co,pt q.me,.slice q.gp r.1 q.gc,I (r.1:Int),.int .u64 (mi r.2.1),.int .u64 (mi r.2.2.1),I r.2.2.2.1,I r.2.2.2.2,.map (aa q.ow)]
inductive KP where
 | row (q:KQ) (r:KR)
 | th (b:Nat) (s:Int×TL)
 | rq (b:Nat) (s:RS)
 | tm (b:Nat) (s:cI)
 | ir (b:Nat) (s:ch)
 | rt (b:Nat) (s:dh)
 | wk (b:Nat) (s:QL)
 | ca (b:Nat) (s:CS)
 | st (b:Nat) (s:KS)
 | sc (b:Nat) (s:List Int)
 | ga (b:Nat) (s:iY)
 | so (b:Nat) (s:BV×BV)
 | dk (b:Nat) (s:bY)
 | co (b:Nat) (s:List dV)
 | me (b:Nat) (s:Nat)
 | gv (p:Option Addr) (c:Nat) (n:Nat)
 | ow (b:Nat) (m:my)
def wN (b:Nat):Ob KP:=λw F x=>match x with
 | .row q r=>Rw b 94 (mS q) w F r
 | .th b s=>ff b w F s
 | .rq b s=>fo b w F s
 | .tm b s=>ft b w F s
 | .ir b s=>cW b w F s
 | .rt b s=>jl b w F s
 | .wk b s=>fu b w F s
 | .ca b s=>eN b w F s
 | .st b s=>dW b w F s
 | .sc b s=>iH b w F s
 | .ga b s=>gr b w F s
 | .so b s=>lL b w F s
 | .dk b s=>dp b w F s
 | .co b s=>fC b w F s
 | .me b s=>lK b w F s
 | .gv p c n=>nX p c w F n
 | .ow b m=>bM b (aB .i64) w F m
instance Frame.kpo (b:Nat):Frame (wN b) where
 ak:=λ{w d F G s} h k a=>by
  cases s with
  | row q r=>exact(Frame.rw ..).ak (A:=Rw b 94 (mS q)) h k a
  | th b s=>exact Frame.ak (A:=ff b) h k a
  | rq b s=>exact Frame.ak (A:=fo b) h k a
  | tm b s=>exact Frame.ak (A:=ft b) h k a
  | ir b s=>exact Frame.ak (A:=cW b) h k a
  | rt b s=>exact Frame.ak (A:=jl b) h k a
  | wk b s=>exact Frame.ak (A:=fu b) h k a
  | ca b s=>exact Frame.ak (A:=eN b) h k a
  | st b s=>exact Frame.ak (A:=dW b) h k a
  | sc b s=>exact Frame.ak (A:=iH b) h k a
  | ga b s=>exact Frame.ak (A:=gr b) h k a
  | so b s=>exact Frame.ak (A:=lL b) h k a
  | dk b s=>exact Frame.ak (A:=dp b) h k a
  | co b s=>exact Frame.ak (A:=fC b) h k a
  | me b s=>exact Frame.ak (A:=lK b) h k a
  | gv p c n=>exact Frame.ak (A:=nX p c) h k a
  | ow b m=>exact Frame.ak (A:=bM b (aB .i64)) h k a
 lt:=λ{w F s} h=>by
  cases s with
  | row q r=>exact(Frame.rw b 94 (mS q)).lt h
  | th b s=>exact Frame.lt (A:=ff b) h
  | rq b s=>exact Frame.lt (A:=fo b) h
  | tm b s=>exact Frame.lt (A:=ft b) h
  | ir b s=>exact Frame.lt (A:=cW b) h
  | rt b s=>exact Frame.lt (A:=jl b) h
  | wk b s=>exact Frame.lt (A:=fu b) h
  | ca b s=>exact Frame.lt (A:=eN b) h
  | st b s=>exact Frame.lt (A:=dW b) h
  | sc b s=>exact Frame.lt (A:=iH b) h
  | ga b s=>exact Frame.lt (A:=gr b) h
  | so b s=>exact Frame.lt (A:=lL b) h
  | dk b s=>exact Frame.lt (A:=dp b) h
  | co b s=>exact Frame.lt (A:=fC b) h
  | me b s=>exact Frame.lt (A:=lK b) h
  | gv p c n=>exact Frame.lt (A:=nX p c) h
  | ow b m=>exact Frame.lt (A:=bM b (aB .i64)) h
def jW (q:KQ) (k:K) (cK:List Int) (m:my):List KP:=[.row q (k.n,k.on,k.ac,k.now,k.lim),.th q.th (k.th),.rq q.rq (k.rq),.tm q.tm (k.tm),.ir q.ir (k.ir),.rt q.rt (k.rt),.wk q.wk (k.wk),.ca q.ca (k.ca),.st q.st (k.st),.sc q.sc (cK),.ga q.ga (k.ga),.so q.so (k.sp),.dk q.dk (k.dk),.co q.co (k.co),.me q.me (k.n),.gv q.gp q.gc k.n,.ow q.ow m]
def KF (b:Nat) (q:KQ):Ob K:=λw F k=>∃cK m,Fam (wN b) w F (jW q k cK m)/\m.1=k.own/\(1<=k.n/\k.n<=64)
def KO (b:Nat):Ob K:=λw F k=>∃q,KF b q w F k
instance Frame.kf (b:Nat) (q:KQ):Frame (KF b q) where
 ak:=λ⟨cK,m,h,r⟩ k a=>⟨cK,m,Frame.mQ.ak h k a,r⟩
 lt:=λ⟨_,_,h,_⟩=>Frame.mQ.lt h
instance Frame.ko (b:Nat):Frame (KO b) where
 ak:=λ⟨q,h⟩ k a=>⟨q,(Frame.kf b q).ak h k a⟩
 lt:=λ⟨q,h⟩=>(Frame.kf b q).lt h
theorem KO.fix {b:Nat} {W w:World} {F:Fp} {k:K} (h:ai (KO b) W w F k):∃q,ai (KF b q) W w F k:=by
 obtain⟨a,⟨q,c⟩,d⟩:=h;exact⟨q,a,c,d⟩
theorem KF.loose {b:Nat} {q:KQ} {W w:World} {F:Fp} {k:K} (h:ai (KF b q) W w F k):ai (KO b) W w F k:=by
 obtain⟨a,c,d⟩:=h;exact⟨a,⟨q,c⟩,d⟩
section
variable {b:Nat} {q:KQ} {W w:World} {F:Fp} {k:K}
theorem KF.num (h:ai (KF b q) W w F k):1<=k.n/\k.n<=64:=by
 obtain⟨c,⟨cK,m,_,a⟩,_⟩:=h;exact a.2
theorem KF.ay (h:ai (KF b q) W w F k):aM w b (mS q (k.n,k.on,k.ac,k.now,k.lim)) 94:=by
 obtain⟨d,⟨cK,m,a,_⟩,_⟩:=h;obtain⟨F1,c,_⟩:=Fam.at a (i:=0) (by simp[jW]);exact c.2
theorem KF.row (h:ai (KF b q) W w F k) (r:KR) (c:r.1=k.n) {w':World} (d:mC w w' b (mS q r) 94):ai (KF b q) W w' F {k with on:=r.2.1,ac:=r.2.2.1,now:=r.2.2.2.1,lim:=r.2.2.2.2}:=by
 obtain⟨F0,e,f⟩:=h.db;obtain⟨cK,m,g,j⟩:=e;obtain⟨F1,l,_,o⟩:=Fam.at g (i:=0) (by simp[jW]);have a:Rw b 94 (mS q) w F1 (k.n,k.on,k.ac,k.now,k.lim):=l;obtain⟨F2,t1,t2⟩:=o w' (.row q r) (a.gD (s':=r) d.U d.aK);refine f _ _ ⟨F2,⟨cK,m,?_,j⟩,t2⟩;obtain⟨n,on,ac,now,lim⟩:=r;simp only at c;subst c;exact t1
theorem KF.th (h:ai (KF b q) W w F k):∃F1,ff q.th w F1 k.th/\∀w' a,ai (ff q.th) w w' F1 a->ai (KF b q) W w' F {k with th:=a}:=by
 obtain⟨F0,c,d⟩:=h.db;obtain⟨cK,m,e,f⟩:=c;obtain⟨F1,g,_,j⟩:=Fam.at e (i:=1) (by simp[jW]);refine⟨F1,g,λw' a l=>d _ _ ?_⟩;obtain⟨F2,t1,t2⟩:=j w' (.th q.th a) l;exact⟨F2,⟨cK,m,t1,f⟩,t2⟩
theorem KF.rq (h:ai (KF b q) W w F k):∃F1,fo q.rq w F1 k.rq/\∀w' a,ai (fo q.rq) w w' F1 a->ai (KF b q) W w' F {k with rq:=a}:=by
 obtain⟨F0,c,d⟩:=h.db;obtain⟨cK,m,e,f⟩:=c;obtain⟨F1,g,_,j⟩:=Fam.at e (i:=2) (by simp[jW]);refine⟨F1,g,λw' a l=>d _ _ ?_⟩;obtain⟨F2,t1,t2⟩:=j w' (.rq q.rq a) l;exact⟨F2,⟨cK,m,t1,f⟩,t2⟩
theorem KF.tm (h:ai (KF b q) W w F k):∃F1,ft q.tm w F1 k.tm/\∀w' a,ai (ft q.tm) w w' F1 a->ai (KF b q) W w' F {k with tm:=a}:=by
 obtain⟨F0,c,d⟩:=h.db;obtain⟨cK,m,e,f⟩:=c;obtain⟨F1,g,_,j⟩:=Fam.at e (i:=3) (by simp[jW]);refine⟨F1,g,λw' a l=>d _ _ ?_⟩;obtain⟨F2,t1,t2⟩:=j w' (.tm q.tm a) l;exact⟨F2,⟨cK,m,t1,f⟩,t2⟩
theorem KF.ir (h:ai (KF b q) W w F k):∃F1,cW q.ir w F1 k.ir/\∀w' a,ai (cW q.ir) w w' F1 a->ai (KF b q) W w' F {k with ir:=a}:=by
 obtain⟨F0,c,d⟩:=h.db;obtain⟨cK,m,e,f⟩:=c;obtain⟨F1,g,_,j⟩:=Fam.at e (i:=4) (by simp[jW]);refine⟨F1,g,λw' a l=>d _ _ ?_⟩;obtain⟨F2,t1,t2⟩:=j w' (.ir q.ir a) l;exact⟨F2,⟨cK,m,t1,f⟩,t2⟩
theorem KF.rt (h:ai (KF b q) W w F k):∃F1,jl q.rt w F1 k.rt/\∀w' a,ai (jl q.rt) w w' F1 a->ai (KF b q) W w' F {k with rt:=a}:=by
 obtain⟨F0,c,d⟩:=h.db;obtain⟨cK,m,e,f⟩:=c;obtain⟨F1,g,_,j⟩:=Fam.at e (i:=5) (by simp[jW]);refine⟨F1,g,λw' a l=>d _ _ ?_⟩;obtain⟨F2,t1,t2⟩:=j w' (.rt q.rt a) l;exact⟨F2,⟨cK,m,t1,f⟩,t2⟩
theorem KF.wk (h:ai (KF b q) W w F k):∃F1,fu q.wk w F1 k.wk/\∀w' a,ai (fu q.wk) w w' F1 a->ai (KF b q) W w' F {k with wk:=a}:=by
 obtain⟨F0,c,d⟩:=h.db;obtain⟨cK,m,e,f⟩:=c;obtain⟨F1,g,_,j⟩:=Fam.at e (i:=6) (by simp[jW]);refine⟨F1,g,λw' a l=>d _ _ ?_⟩;obtain⟨F2,t1,t2⟩:=j w' (.wk q.wk a) l;exact⟨F2,⟨cK,m,t1,f⟩,t2⟩
theorem KF.ca (h:ai (KF b q) W w F k):∃F1,eN q.ca w F1 k.ca/\∀w' a,ai (eN q.ca) w w' F1 a->ai (KF b q) W w' F {k with ca:=a}:=by
 obtain⟨F0,c,d⟩:=h.db;obtain⟨cK,m,e,f⟩:=c;obtain⟨F1,g,_,j⟩:=Fam.at e (i:=7) (by simp[jW]);refine⟨F1,g,λw' a l=>d _ _ ?_⟩;obtain⟨F2,t1,t2⟩:=j w' (.ca q.ca a) l;exact⟨F2,⟨cK,m,t1,f⟩,t2⟩
theorem KF.st (h:ai (KF b q) W w F k):∃F1,dW q.st w F1 k.st/\∀w' a,ai (dW q.st) w w' F1 a->ai (KF b q) W w' F {k with st:=a}:=by
 obtain⟨F0,c,d⟩:=h.db;obtain⟨cK,m,e,f⟩:=c;obtain⟨F1,g,_,j⟩:=Fam.at e (i:=8) (by simp[jW]);refine⟨F1,g,λw' a l=>d _ _ ?_⟩;obtain⟨F2,t1,t2⟩:=j w' (.st q.st a) l;exact⟨F2,⟨cK,m,t1,f⟩,t2⟩
theorem KF.sc (h:ai (KF b q) W w F k):∃F1 cK,iH q.sc w F1 cK/\∀w' a,ai (iH q.sc) w w' F1 a->ai (KF b q) W w' F k:=by
 obtain⟨F0,c,d⟩:=h.db;obtain⟨cK,m,e,f⟩:=c;obtain⟨F1,g,_,j⟩:=Fam.at e (i:=9) (by simp[jW]);refine⟨F1,cK,g,λw' a l=>d _ _ ?_⟩;obtain⟨F2,t1,t2⟩:=j w' (.sc q.sc a) l;exact⟨F2,⟨a,m,t1,f⟩,t2⟩
theorem KF.ga (h:ai (KF b q) W w F k):∃F1,gr q.ga w F1 k.ga/\∀w' a,ai (gr q.ga) w w' F1 a->ai (KF b q) W w' F {k with ga:=a}:=by
 obtain⟨F0,c,d⟩:=h.db;obtain⟨cK,m,e,f⟩:=c;obtain⟨F1,g,_,j⟩:=Fam.at e (i:=10) (by simp[jW]);refine⟨F1,g,λw' a l=>d _ _ ?_⟩;obtain⟨F2,t1,t2⟩:=j w' (.ga q.ga a) l;exact⟨F2,⟨cK,m,t1,f⟩,t2⟩
theorem KF.so (h:ai (KF b q) W w F k):∃F1,lL q.so w F1 k.sp/\∀w' a,ai (lL q.so) w w' F1 a->ai (KF b q) W w' F {k with sp:=a}:=by
 obtain⟨F0,c,d⟩:=h.db;obtain⟨cK,m,e,f⟩:=c;obtain⟨F1,g,_,j⟩:=Fam.at e (i:=11) (by simp[jW]);refine⟨F1,g,λw' a l=>d _ _ ?_⟩;obtain⟨F2,t1,t2⟩:=j w' (.so q.so a) l;exact⟨F2,⟨cK,m,t1,f⟩,t2⟩
theorem KF.dk (h:ai (KF b q) W w F k):∃F1,dp q.dk w F1 k.dk/\∀w' a,ai (dp q.dk) w w' F1 a->ai (KF b q) W w' F {k with dk:=a}:=by
 obtain⟨F0,c,d⟩:=h.db;obtain⟨cK,m,e,f⟩:=c;obtain⟨F1,g,_,j⟩:=Fam.at e (i:=12) (by simp[jW]);refine⟨F1,g,λw' a l=>d _ _ ?_⟩;obtain⟨F2,t1,t2⟩:=j w' (.dk q.dk a) l;exact⟨F2,⟨cK,m,t1,f⟩,t2⟩
theorem KF.co (h:ai (KF b q) W w F k):∃F1,fC q.co w F1 k.co/\∀w' a,ai (fC q.co) w w' F1 a->ai (KF b q) W w' F {k with co:=a}:=by
 obtain⟨F0,c,d⟩:=h.db;obtain⟨cK,m,e,f⟩:=c;obtain⟨F1,g,_,j⟩:=Fam.at e (i:=13) (by simp[jW]);refine⟨F1,g,λw' a l=>d _ _ ?_⟩;obtain⟨F2,t1,t2⟩:=j w' (.co q.co a) l;exact⟨F2,⟨cK,m,t1,f⟩,t2⟩
theorem KF.me (h:ai (KF b q) W w F k):∃F1,lK q.me w F1 k.n/\∀w',ai (lK q.me) w w' F1 k.n->ai (KF b q) W w' F k:=by
 obtain⟨F0,a,c⟩:=h.db;obtain⟨cK,m,d,e⟩:=a;obtain⟨F1,f,_,g⟩:=Fam.at d (i:=14) (by simp[jW]);refine⟨F1,f,λw' j=>c _ _ ?_⟩;obtain⟨F2,t1,t2⟩:=g w' (.me q.me k.n) j;exact⟨F2,⟨cK,m,t1,e⟩,t2⟩
theorem KF.IF (h:ai (KF b q) W w F k):∃F1,nX q.gp q.gc w F1 k.n/\∀w',ai (nX q.gp q.gc) w w' F1 k.n->ai (KF b q) W w' F k:=by
 obtain⟨F0,a,c⟩:=h.db;obtain⟨cK,m,d,e⟩:=a;obtain⟨F1,f,_,g⟩:=Fam.at d (i:=15) (by simp[jW]);refine⟨F1,f,λw' j=>c _ _ ?_⟩;obtain⟨F2,t1,t2⟩:=g w' (.gv q.gp q.gc k.n) j;exact⟨F2,⟨cK,m,t1,e⟩,t2⟩
theorem KF.own (h:ai (KF b q) W w F k):∃F1 n,bM q.ow (aB .i64) w F1 (k.own,n)/\∀w' (a:my),ai (bM q.ow (aB .i64)) w w' F1 a->ai (KF b q) W w' F {k with own:=a.1}:=by
 obtain⟨F0,e,f⟩:=h.db;obtain⟨cK,m,g,d⟩:=e;obtain⟨F1,j,_,l⟩:=Fam.at g (i:=16) (by simp[jW]);have c:bM q.ow (aB .i64) w F1 (k.own,m.2):=by rw[<-d.1];exact j
 refine⟨F1,m.2,c,λw' a o=>f _ _ ?_⟩;obtain⟨F2,t1,t2⟩:=l w' (.ow q.ow a) o;exact⟨F2,⟨cK,a,t1,rfl,d.2⟩,t2⟩
end
theorem ai.ml {σ:Type} {A:Ob σ} {W w:World} {F:Fp} {s:σ} (h:ai A W w F s) (d:Tab W) (e:¬F 0):Tab w:=by
 obtain⟨j,_,f,_⟩:=h;refine Cells.ak d λa g=>?_;cases g;obtain⟨l,c,i⟩:=d 0 _ (by rfl);cases c;have:=qH i;rw[uj]at this;exact f.ay _ this e
abbrev Lb (p:Nat) (T:TypeId):Ob (List Value):=Rw p T (λs=>s)
theorem cL {σ:Type} {A:Ob σ} [Frame A] {p:Nat} {T:TypeId} {W w:World} {F:Fp} {s:σ} {l:List Value} (h:ai (aF A (Lb p T)) W w F (s,l)):aM w p l T:=by
 obtain⟨F2,a,_⟩:=h.right;exact a.ay
theorem mT {σ:Type} {A:Ob σ} [Frame A] {p:Nat} {T:TypeId} {W w:World} {F:Fp} {s:σ} {l vs:List Value} (h:ai (aF A (Lb p T)) W w F (s,l)) (d:vs.length=l.length) {K:World->Prop} (f:∀w',ai (aF A (Lb p T)) W w' F (s,vs)->K w'):Wr w ⟨p,0,ah⟩ vs K:=by
 obtain⟨F2,a,g⟩:=h.right;refine a.ay.gF (by simp only;omega) λw' c=>f w' (g w' vs (a.gD c.U ?_));have e:bc l 0 vs=vs:=by simp[bc,d]
 have:=c.aK;simp only at this
 rwa [e]at this
section
variable {b:Nat} {W w:World} {F:Fp} {k:K}
theorem KS.fix {p:Nat} {T:TypeId} {l:List Value} (h:ai (aF (KO b) (Lb p T)) W w F (k,l)):∃q F1,KF b q w F1 k/\ai (KF b q) w w F1 k/\∀w' k',ai (KF b q) w w' F1 k'->ai (aF (KO b) (Lb p T)) W w' F (k',l):=by
 obtain⟨F1,⟨q,a⟩,c⟩:=h.left;exact⟨q,F1,a,ai.same a,λw' k' d=>c _ _ (KF.loose d)⟩
theorem aaq (h:ai (KO b) W w F k) (c:Int):Cx 152 #[pt b,I c] w λe w'=>e=Z (I (sq k c))/\w'=w:=by
 obtain⟨q,d⟩:=KO.fix h;have hB:=KF.ay d;refine ahV ?_;unfold sq;refine⟨λg1=>⟨_,rfl,_,hB.cell rfl,λa=>?_,λa=>⟨_,rfl,_,hB.cell rfl,⟨(l7 k.ac c w).mono ?_⟩⟩⟩,λg1=>?_⟩
 ·have a:=aL a;rw[af (by simp only at a;omega)];exact⟨rfl,rfl⟩
 ·have g1:=aT g1;have a:=aT a;rintro e w1 ⟨rfl,rfl⟩;rw[aj ⟨by omega,by simp only at a;omega⟩];refine⟨_,rfl,λg=>?_,λg=>?_⟩
  ·have g:hs k.ac c=ae:=by simpa using g
   rw[g];exact⟨rfl,rfl⟩
  ·have g:hs k.ac c=ag:=by simpa using g
   rw[g];exact⟨rfl,rfl⟩
 ·have g1:=aL g1;rw[af (by omega)];exact⟨rfl,rfl⟩
theorem Z2 (a:Tab W) (f:¬F 0) (h:ai (KO b) W w F k) (c n:Int):Cx 153 #[pt b,I c,I n] w λe w'=>e=Z (.tuple #[I (zS k c n).1,I (zS k c n).2])/\ai (KO b) W w' F (tj k c n):=by
 obtain⟨q,d⟩:=KO.fix h;have hB:=KF.ay d;refine ahW ?_;refine⟨_,rfl,_,hB.cell rfl,⟨(I9 k.now n w).mono ?_⟩⟩;rintro e w1 ⟨rfl,rfl⟩;unfold zS tj;refine⟨_,_,rfl,λg=>?_,λg=>?_⟩
 ·have g:(bH k.now n).2≠0:=by simpa using g
  rw[af g,af g];exact⟨rfl,h⟩
 ·have g:(bH k.now n).2=0:=by simpa using g
  rw[aj g,aj g];obtain⟨F1,hA,i⟩:=KF.tm d;refine⟨_,rfl,_,hB.aE rfl,⟨(Uk (h.ml a f) hA c _).mono ?_⟩⟩;rintro e l ⟨rfl,j⟩;exact⟨_,_,rfl,rfl,KF.loose (i _ _ j)⟩
theorem Ec (c:Tab W) (B:¬F 0) (h:ai (KO b) W w F k) (id near:Int):Cx 126 #[pt b,I id,I near] w λe w'=>e=Z (.tuple #[])/\ai (KO b) W w' F (jB k id near):=by
 obtain⟨q,y⟩:=KO.fix h;have hB:=KF.ay y;obtain⟨F1,hA,_⟩:=KF.th y;refine ahv ?_;refine⟨_,rfl,_,hB.aE rfl,⟨(vX hA id).mono ?_⟩⟩;rintro e w1 ⟨rfl,j⟩;refine⟨_,_,_,_,_,_,_,rfl,⟨λC z=>?_⟩⟩;have a:ai (aF (KO b) (Lb w1.heap.size 250)) W C F (k,[I 0,.int .u64 0,I 0,.bool ae,.bool ae,I 0]):=(h.ak j).add (z.ak no) (Rw.new z rfl) (λi hi=>bF hi.symm);generalize w1.heap.size=p at a⊢;refine mT a (by rfl) λN a=>?_;intro O D E G A;replace a:=a.ak (av.same no D E G A);obtain⟨A,F4,_,d,l⟩:=KS.fix a;have f:=KF.ay d;obtain⟨F5,m,n⟩:=KF.th d;refine⟨_,(cL a).cell rfl,_,rfl,_,f.cell rfl,⟨(Oe (a.ml c B) _ _ near).mono ?_⟩⟩;rintro e P ⟨rfl,rfl⟩;refine⟨_,_,_,rfl,_,rfl,_,f.aE rfl,⟨(S8 m id _ _).mono ?_⟩⟩;rintro e Q ⟨rfl,o⟩;replace a:=l _ _ (n _ _ o);refine⟨_,rfl,λR H J L M=>?_⟩;replace a:=a.ak (av.same no H J L M);obtain⟨S,F7,_,g,r⟩:=KS.fix a;have s:=KF.ay g;obtain⟨F8,t,u⟩:=KF.rq g;refine⟨_,rfl,_,s.aE rfl,_,(cL a).cell rfl,⟨(Tz t _ _ id).mono ?_⟩⟩;rintro e T ⟨rfl,x⟩;exact⟨_,rfl,rfl,(r _ _ (u _ _ x)).drop⟩
theorem RE (d:Tab W) (C:¬F 0) (h:ai (KO b) W w F k) (id:Int):Cx 130 #[pt b,I id] w λe w'=>e=Z (.tuple #[])/\ai (KO b) W w' F (iz k id):=by
 obtain⟨q,z⟩:=KO.fix h;have hB:=KF.ay z;obtain⟨F1,hA,_⟩:=KF.th z;refine ahz ?_;refine⟨_,rfl,_,hB.aE rfl,⟨(vX hA id).mono ?_⟩⟩;rintro e w1 ⟨rfl,l⟩;refine⟨_,_,_,_,_,_,_,rfl,⟨λD A=>?_⟩⟩;have a:ai (aF (KO b) (Lb w1.heap.size 250)) W D F (k,[I 0,.int .u64 0,I 0,.bool ae,.bool ae,I 0]):=(h.ak l).add (A.ak no) (Rw.new A rfl) (λi hi=>bF hi.symm);generalize w1.heap.size=p at a⊢;refine mT a (by rfl) λM a=>?_;intro E G H J B;replace a:=a.ak (av.same no G H J B);obtain⟨B,F4,_,m,L⟩:=KS.fix a;have n:=KF.ay m;have j:=cL a;unfold iz;refine⟨_,j.cell rfl,λg=>⟨_,rfl,_,n.cell rfl,_,j.cell rfl,_,j.cell rfl,_,j.cell rfl,⟨(U5 k.ac (0,(cS k id).2.1,(cS k id).2.2.1,(cS k id).2.2.2.1) E).mono ?_⟩⟩,λg=>?_⟩
 ·have g:(cS k id).2.2.2.2.1=ae:=g;rintro e N ⟨rfl,o⟩;replace a:=a.ak o;refine⟨_,rfl,λc=>?_,λc=>?_⟩
  ·have c:BP k (cS k id)=ae:=by unfold BP;simpa using c
   rw[g,c];exact⟨rfl,a.drop⟩
  ·have c:BP k (cS k id)=ag:=by unfold BP;simpa using c
   rw[g,c];obtain⟨O,F5,_,f,r⟩:=KS.fix a;have s:=KF.ay f;obtain⟨F6,t,u⟩:=KF.rq f;refine⟨_,rfl,_,s.aE rfl,⟨(Bl t id).mono ?_⟩⟩;rintro e P ⟨rfl,x⟩;replace a:=r _ _ (u _ _ x);refine⟨_,rfl,_,(cL a).cell rfl,⟨(Ec d C a.drop id _).mono ?_⟩⟩;rintro e Q ⟨rfl,y⟩;exact⟨rfl,rfl,y⟩
 ·have g:(cS k id).2.2.2.2.1=ag:=g;rw[g];exact⟨rfl,a.drop⟩
theorem RG (h:ai (KO b) W w F k) (t:Int):Cx 133 #[pt b,I t] w λe w'=>e=Z (.tuple #[])/\ai (KO b) W w' F (yO k t):=by
 obtain⟨q,d⟩:=KO.fix h;have hB:=KF.ay d;obtain⟨F1,hA,g⟩:=KF.tm d;refine ahC ?_;refine⟨_,rfl,_,hB.aE rfl,⟨(Kt hA t).mono ?_⟩⟩;rintro e w1 ⟨rfl,i⟩;have f:=g _ _ i;obtain⟨F2,n,j,l⟩:=KF.own f;obtain⟨m,a,c⟩:=tT sK j t 3 (0:TypeId);exact⟨_,rfl,_,rfl,_,(KF.ay f).cell rfl,m,a,rfl,KF.loose (l _ _ c)⟩
theorem RK (a:Tab W) (o:¬F 0) (h:ai (KO b) W w F k) (id:Int):Cx 134 #[pt b,I id] w λe w'=>e=Z (.tuple #[])/\ai (KO b) W w' F (ub k id):=by
 obtain⟨q,l⟩:=KO.fix h;have hB:=KF.ay l;obtain⟨F1,hA,r⟩:=KF.th l;refine ahD ?_;refine⟨_,rfl,_,hB.aE rfl,⟨(alS hA id).mono ?_⟩⟩;rintro e w1 ⟨rfl,s⟩;have d:=r _ _ s;obtain⟨F2,f,_⟩:=KF.th d;refine⟨_,_,rfl,_,rfl,_,(KF.ay d).aE rfl,⟨(vX f id).mono ?_⟩⟩;rintro e m ⟨rfl,g⟩;refine⟨_,_,_,_,_,_,_,rfl,⟨λt n=>?_⟩⟩;have c:ai (aF (KO b) (Lb m.heap.size 250)) W t F (_,[I 0,.int .u64 0,I 0,.bool ae,.bool ae,I 0]):=((KF.loose d).ak g).add (n.ak no) (Rw.new n rfl) (λi hi=>bF hi.symm);generalize m.heap.size=p at c⊢;refine mT c (by rfl) λu c=>?_;refine⟨_,(cL c).cell rfl,⟨(Ec a o c.drop id _).mono ?_⟩⟩;rintro e x ⟨rfl,j⟩;exact⟨rfl,rfl,j⟩
theorem aeB (x:TX) (p:Int) (m:BV):0<=(eK x p m).1:=by
 unfold eK;split
 ·unfold eL;split
  ·simp only;omega
  ·exact fU _
 ·exact fU _
theorem aaA (a:Tab W) (f:¬F 0) (s:1<=k.n) (h:ai (KO b) W w F k) (p:Int) (m:BV):Cx 65 #[pt b,I p,.int .u64 (mi m)] w λe w'=>e=Z (.tuple #[I (BF k p m).1,I (BF k p m).2])/\ai (KO b) W w' F (rA k p m):=by
 obtain⟨q,i⟩:=KO.fix h;have hB:=KF.ay i;obtain⟨F1,hA,j⟩:=KF.th i;refine u65 ?_;refine⟨_,rfl,_,hB.aE rfl,⟨(aeF hA (h.ml a f) p m).mono ?_⟩⟩;rintro e w1 ⟨rfl,l⟩;have d:=j _ _ l;unfold BF rA;refine⟨_,_,rfl,λg=>?_,λg=>?_⟩
 ·have g:(eK k.th p m).2=0:=by simpa using g
  rw[aj g];have o:=aeB k.th p m;have r:eH (eK k.th p m).1 ((k.n:Nat):Int)=(eK k.th p m).1%(k.n:Int):=ot o;refine⟨_,rfl,_,(KF.ay d).cell rfl,(show((k.n:Nat):Int)≠0 by omega),⟨?_⟩⟩;refine Calls.mono (show Cx 126 #[pt b,I (eK k.th p m).1,I (eH (eK k.th p m).1 ((k.n:Nat):Int))] w1 _ from Ec a f (KF.loose d) (eK k.th p m).1 _) ?_;rintro e t ⟨rfl,c⟩;rw[r]at c;exact⟨rfl,rfl,c⟩
 ·have g:¬(eK k.th p m).2=0:=by simpa using g
  rw[af g];exact⟨rfl,KF.loose d⟩
theorem Z7 (h:ai (KO b) W w F k) (id:Int):Cx 162 #[pt b,I id] w λe w'=>e=Z (I (Dc k id))/\ai (KO b) W w' F (tu k id):=by
 obtain⟨q,d⟩:=KO.fix h;have hB:=KF.ay d;obtain⟨F1,hA,f⟩:=KF.tm d;obtain⟨F2,n,i,_⟩:=KF.own d;refine ah5 ?_;refine⟨_,rfl,_,hB.aE rfl,⟨(KH hA id).mono ?_⟩⟩;rintro e w1 ⟨rfl,rfl⟩;unfold Dc tu;refine⟨_,_,rfl,λg=>?_,λg=>?_⟩
 ·have g:(lH k.tm id).2=ae:=by simpa using g
  rw[g];exact⟨rfl,h⟩
 ·have g:(lH k.tm id).2=ag:=by simpa using g
  rw[aj g,aj g];have c:=kP sK i id ae;have j:((k.own id).map (aB .i64)).getD (I 0)=I ((k.own id).getD 0):=by cases k.own id<;>rfl
  simp only[j]at c;refine⟨_,rfl,_,hB.cell rfl,_,c,λa=>?_,λa=>⟨_,rfl,_,hB.aE rfl,⟨(Kt hA id).mono ?_⟩⟩⟩
  ·have a:0<(k.own id).getD 0:=aL a;rw[aj a,aj a];exact⟨rfl,h⟩
  ·have a:¬0<(k.own id).getD 0:=aT a;rw[af a,af a];rintro e m ⟨rfl,l⟩;exact⟨_,rfl,rfl,KF.loose (f _ _ l)⟩
theorem aag (h:ai (KO b) W w F k) (id:Int):Cx 163 #[pt b,I id] w λe w'=>e=Z (.tuple #[I (AF k id).1,I (AF k id).2])/\w'=w:=by
 obtain⟨q,c⟩:=KO.fix h;have hB:=KF.ay c;obtain⟨F1,hA,d⟩:=KF.wk c;refine ah6 ?_;unfold AF;refine⟨λg1=>⟨λa=>?_,λa=>⟨_,rfl,_,hB.aE rfl,⟨(al2 hA id).mono ?_⟩⟩⟩,λg1=>?_⟩
 ·rw[aj (.inr (aL a))];exact⟨rfl,rfl⟩
 ·have g1:=aT g1;have a:=aT a;rw[af (by omega)];rintro e w1 ⟨rfl,rfl⟩;refine⟨_,rfl,λg=>?_,λg=>?_⟩
  ·rw[aj g];exact⟨rfl,rfl⟩
  ·rw[af (by rw[g];decide)];exact⟨rfl,rfl⟩
 ·rw[aj (.inl (aL g1))];exact⟨rfl,rfl⟩
theorem aau (h:ai (KO b) W w F k) (n:Int):Cx 164 #[pt b,I n] w λe w'=>e=Z (I (nN n))/\ai (KO b) W w' F {k with dk:=oY k.dk n}:=by
 obtain⟨q,f⟩:=KO.fix h;have hB:=KF.ay f;obtain⟨F1,hA,g⟩:=KF.dk f;refine ah7 ?_;refine⟨λg1=>⟨λa=>?_,λa=>⟨_,rfl,_,hB.aE rfl,⟨(Zy hA n).mono ?_⟩⟩⟩,λg1=>?_⟩
 ·have a:=aL a;have c:nN n=3:=by unfold nN;rw[af (by omega)]
  have d:oY k.dk n=k.dk:=by unfold oY;rw[af (by omega)]
  rw[c,d];exact⟨rfl,h⟩
 ·rintro e w1 ⟨rfl,i⟩;exact⟨_,rfl,rfl,KF.loose (g _ _ i)⟩
 ·have g1:=aL g1;have c:nN n=3:=by unfold nN;rw[af (by omega)]
  have d:oY k.dk n=k.dk:=by unfold oY;rw[af (by omega)]
  rw[c,d];exact⟨rfl,h⟩
theorem aal (h:ai (KO b) W w F k) (n:Int):Cx 166 #[pt b,I n] w λe w'=>e=Z (I (AS n))/\ai (KO b) W w' F (wq k n):=by
 obtain⟨q,c⟩:=KO.fix h;have hB:=KF.ay c;refine ah9 ?_;unfold wq AS;refine⟨λg1=>⟨λa=>?_,λa=>⟨_,rfl,hB.wr (k:=19) (by simp[mS]) λw1 d=>?_⟩⟩,λg1=>?_⟩
 ·rw[aj (.inr (aL a)),af (by decide)];exact⟨rfl,h⟩
 ·have g1:=aT g1;have a:=aT a;rw[af (show ¬(n<0∨1073741824<n) by omega),aj rfl];exact⟨rfl,KF.loose (KF.row c (k.n,k.on,k.ac,k.now,n) rfl d)⟩
 ·rw[aj (.inl (aL g1)),af (by decide)];exact⟨rfl,h⟩
def oV (s:ch) (n:Int):Iq:=if jz n then i0 else gq s n
theorem Qa (k:K) (n:Int):(oV k.ir n).2.2.2=qX k n:=by
 unfold oV qX;split<;>rfl
theorem Qb {b:Nat} {w:World} {F:Fp} {s:ch} (h:cW b w F s) (n:Int):Cx 248 #[pt b,I n] w λe w'=>(∃r:Int,e=Z (.tuple #[.agg #[.bool (oV s n).1,.bool (oV s n).2.1,.bool (oV s n).2.2.1,.int .u64 (mi (oV s n).2.2.2)],I r]))/\av no w w':=by
 refine ajq ?_;refine⟨λw1 i=>?_⟩;have l:=i.ak no;have d:=(inferInstance:Frame (cW b)).ak h l (λ_ _ h=>h);refine⟨(Ip b n w1).mono ?_⟩;rintro e t ⟨⟨m,rfl⟩|⟨m,k,rfl,f,rfl⟩,rfl⟩
 ·have o:oV s n=i0:=by unfold oV;rw[aj m]
  rw[o];refine⟨_,_,rfl,λ_=>i.aK.gF (by simp) λq c=>?_,λg=>(by simp at g)⟩;have a:=c.aK;exact⟨_,a.cell rfl,_,a.cell rfl,_,a.cell rfl,_,a.cell rfl,⟨_,rfl⟩,l.trans c.U (λj p e=>absurd p (by omega))⟩
 ·have o:oV s (k:Int)=gq s (k:Int):=by unfold oV;rw[af m]
  rw[o];refine⟨_,_,rfl,λg=>(by simp at g),λ_=>⟨_,rfl,_,d.cell f rfl,_,d.cell f rfl,_,d.cell f rfl,_,d.cell f rfl,i.aK.gF (by simp) λq c=>?_⟩⟩;have a:=c.aK;exact⟨_,a.cell rfl,_,a.cell rfl,_,a.cell rfl,_,a.cell rfl,⟨_,rfl⟩,l.trans c.U (λj p e=>absurd p (by omega))⟩
theorem I4 (c:Tab W) (y:¬F 0) (h:ai (KO b) W w F k) (n near:Int):Cx 138 #[pt b,I n,I near] w λe w'=>e=Z (.tuple #[])/\ai (KO b) W w' F (iw k n near):=by
 obtain⟨q,t⟩:=KO.fix h;have hB:=KF.ay t;obtain⟨F1,hA,_⟩:=KF.ir t;refine ahH ?_;refine⟨_,rfl,_,hB.aE rfl,⟨(Qb hA n).mono ?_⟩⟩;rintro e w1 ⟨⟨r,rfl⟩,j⟩;refine⟨_,_,_,_,_,rfl,⟨λz u=>?_⟩⟩;have a:ai (aF (KO b) (Lb w1.heap.size 198)) W z F (k,[.bool ae,.bool ae,.bool ae,.int .u64 0]):=(h.ak j).add (u.ak no) (Rw.new u rfl) (λi hi=>bF hi.symm);generalize w1.heap.size=p at a⊢;refine mT a (by rfl) λD a=>?_;intro E A B C x;replace a:=a.ak (av.same no A B C x);obtain⟨x,F4,_,d,l⟩:=KS.fix a;have f:=KF.ay d;obtain⟨F5,m,o⟩:=KF.rt d;refine⟨_,(cL a).cell rfl,_,rfl,_,f.cell rfl,⟨(Oe (a.ml c y) _ _ near).mono ?_⟩⟩;rintro e G ⟨rfl,rfl⟩;refine⟨_,_,_,rfl,_,rfl,_,f.aE rfl,⟨(aee m n _).mono ?_⟩⟩;rintro e H ⟨rfl,s⟩;have g:=(l _ _ (o _ _ s)).drop;refine⟨_,rfl,rfl,?_⟩;unfold iw;rw[<-Qa];exact g
theorem RA (c:Tab W) (A:¬F 0) (h:ai (KO b) W w F k) (n:Int):Cx 144 #[pt b,I n] w λe w'=>e=Z (.tuple #[])/\ai (KO b) W w' F (gZ k n):=by
 obtain⟨q,y⟩:=KO.fix h;have hB:=KF.ay y;obtain⟨F1,hA,_⟩:=KF.ir y;refine ahN ?_;refine⟨_,rfl,_,hB.aE rfl,⟨(Qb hA n).mono ?_⟩⟩;rintro e w1 ⟨⟨r,rfl⟩,j⟩;refine⟨_,_,_,_,_,rfl,⟨λB z=>?_⟩⟩;have a:ai (aF (KO b) (Lb w1.heap.size 198)) W B F (k,[.bool ae,.bool ae,.bool ae,.int .u64 0]):=(h.ak j).add (z.ak no) (Rw.new z rfl) (λi hi=>bF hi.symm);generalize w1.heap.size=p at a⊢;refine mT a (by rfl) λN a=>?_;obtain⟨O,F3,_,d,C⟩:=KS.fix a;have l:=KF.ay d;obtain⟨F5,m,D⟩:=KF.rt d;refine⟨_,rfl,_,l.aE rfl,⟨(Jy m n).mono ?_⟩⟩;rintro e P ⟨rfl,rfl⟩;refine⟨_,_,rfl,?_⟩;intro E G H o J;replace a:=a.ak (av.same no G H o J);obtain⟨Q,F6,_,s,L⟩:=KS.fix a;have f:=KF.ay s;have t:=cL a;refine⟨_,rfl,_,f.cell rfl,_,t.cell rfl,_,t.cell rfl,⟨(l7 (oV k.ir n).2.2.2 (cF k.rt n).1 E).mono ?_⟩⟩;rintro e M ⟨rfl,rfl⟩;refine⟨_,rfl,t.cell rfl,f.cell rfl,⟨(U5 k.ac (0,(oV k.ir n).2.2.2,(cF k.rt n).1,!hs (oV k.ir n).2.2.2 (cF k.rt n).1) M).mono ?_⟩⟩;rintro e R ⟨rfl,u⟩;replace a:=a.ak u;rw[Qa];unfold gZ;refine⟨_,rfl,λg=>⟨(I4 c A a.drop n _).mono ?_⟩,λg=>?_⟩
 ·rintro e S ⟨rfl,x⟩;rw[aj g];exact⟨rfl,rfl,x⟩
 ·rw[af (by rw[g];decide)];exact⟨rfl,a.drop⟩
theorem aad (h:ai (KO b) W w F k) (id:Int) (x:Th):Cx 128 #[pt b,I id,.agg #[I x.1,.int .u64 (mi x.2.1),I x.2.2.1,.bool x.2.2.2.1,.bool x.2.2.2.2.1,I x.2.2.2.2.2]] w λe w'=>e=Z (I (ye k.th id))/\ai (KO b) W w' F (qM k id x):=by
 refine ahx ?_;refine⟨λw1 j=>?_⟩;have l:=h.ak (j.ak no);have m:=j.aK
 have last:∀(k2:K) (a:World),ai (KO b) W a F k2->aU Tryz.prog zC CV (Du (aa ⟨b,0,ah⟩) id) a (D1 λe w'=>e=Z (I (ye k2.th id))/\ai (KO b) W w' F {k2 with th:=lY k2.th id}):=by
  intro k2 a d;refine aU.mk ?_;rw[aeY];obtain⟨q,c⟩:=KO.fix d;have hB:=KF.ay c;obtain⟨F1,hA,f⟩:=KF.th c;refine⟨_,rfl,_,hB.aE rfl,⟨(Yr hA id).mono ?_⟩⟩;rintro e n ⟨rfl,i⟩;exact⟨_,rfl,rfl,KF.loose (f _ _ i)⟩
 unfold qM;refine⟨_,m.cell rfl,λg=>⟨_,m.cell rfl,⟨(RG l x.2.2.2.2.2).mono ?_⟩⟩,λg=>?_⟩
 ·rintro e a ⟨rfl,d⟩;rw[aj g];exact⟨rfl,last _ _ d⟩
 ·rw[af (by rw[g];decide)];obtain⟨q,c⟩:=KO.fix l;have hB:=KF.ay c;obtain⟨F1,hA,f⟩:=KF.rq c;refine⟨_,rfl,_,hB.aE rfl,⟨(Bl hA id).mono ?_⟩⟩;rintro e a ⟨rfl,i⟩;exact⟨_,rfl,last _ _ (KF.loose (f _ _ i))⟩
theorem aaz (d:Tab W) (A:¬F 0) (h:ai (KO b) W w F k) (id:Int) (x:Th) (n:Int):Cx 131 #[pt b,I id,.agg #[I x.1,.int .u64 (mi x.2.1),I x.2.2.1,.bool x.2.2.2.1,.bool x.2.2.2.2.1,I x.2.2.2.2.2],I n] w λe w'=>e=Z (.tuple #[I (BD k id x n).1,I (BD k id x n).2])/\ai (KO b) W w' F (ry k id x n):=by
 refine ahA ?_;refine⟨λw1 B=>?_⟩;have i:=h.ak (B.ak no);have J:=B.aK;obtain⟨q,C⟩:=KO.fix i;have hB:=KF.ay C;unfold BD ry;refine⟨_,rfl,_,hB.cell rfl,⟨(I9 k.now n w1).mono ?_⟩⟩;rintro e D ⟨rfl,rfl⟩;refine⟨_,_,rfl,λg=>?_,λg=>?_⟩
 ·have g:(bH k.now n).2≠0:=by simpa using g
  rw[af g,af g];exact⟨rfl,i⟩
 ·have g:(bH k.now n).2=0:=by simpa using g
  rw[aj g,aj g]
  have last:∀a:Int,aU Tryz.prog zD CW (Dv (aa ⟨b,0,ah⟩) id (bH k.now n).1 a) D (D2 λe w'=>e=Z (.tuple #[I (if(dL k.tm a (bH k.now n).1).2=0 then((dL k.tm a (bH k.now n).1).1,zf k.th id)else(0,(dL k.tm a (bH k.now n).1).2)).1,I (if(dL k.tm a (bH k.now n).1).2=0 then((dL k.tm a (bH k.now n).1).1,zf k.th id)else(0,(dL k.tm a (bH k.now n).1).2)).2])/\ai (KO b) W w' F (if(dL k.tm a (bH k.now n).1).2=0 then{k with tm:=im k.tm a (bH k.now n).1,own:=λj=>if j=(dL k.tm a (bH k.now n).1).1 then aa id else k.own j,rq:=fH k.rq id,th:=o7 k.th id (dL k.tm a (bH k.now n).1).1}else{k with tm:=im k.tm a (bH k.now n).1})):=by
   intro a;refine aU.mk ?_;rw[ae0];obtain⟨F1,hA,L⟩:=KF.tm C;refine⟨_,rfl,_,hB.aE rfl,⟨(Uk (i.ml d A) hA a _).mono ?_⟩⟩;rintro e M ⟨rfl,l⟩;have m:=L _ _ l;refine⟨_,_,rfl,λc=>?_,λc=>?_⟩
   ·have c:(dL k.tm a (bH k.now n).1).2≠0:=by simpa using c
    rw[af c,af c];exact⟨rfl,KF.loose m⟩
   ·have c:(dL k.tm a (bH k.now n).1).2=0:=by simpa using c
    rw[aj c,aj c];obtain⟨F2,nn,N,O⟩:=KF.own m;obtain⟨E,f,o⟩:=ru sK N (dL k.tm a (bH k.now n).1).1 id;have G:=O _ _ o;obtain⟨F3,p,r⟩:=KF.rq G;refine⟨_,rfl,_,(KF.ay m).cell rfl,E,f,_,rfl,_,(KF.ay G).aE rfl,⟨(Bl p id).mono ?_⟩⟩;rintro e P ⟨rfl,s⟩;have H:=r _ _ s;obtain⟨F4,t,u⟩:=KF.th H;refine⟨_,rfl,_,rfl,_,(KF.ay H).aE rfl,⟨(aet t id _).mono ?_⟩⟩;rintro e Q ⟨rfl,y⟩;exact⟨_,rfl,rfl,KF.loose (u _ _ y)⟩
  refine⟨_,J.cell rfl,_,rfl,_,hB.cell rfl,⟨(l7 k.ac x.2.2.1 D).mono ?_⟩⟩;rintro e M ⟨rfl,rfl⟩;refine⟨_,rfl,λc=>⟨_,rfl,_,hB.cell rfl,?_⟩,λc=>?_⟩
  ·have c:hs k.ac x.2.2.1=ae:=by simpa using c
   have z:jh k x=(fY k.ac).1:=by unfold jh;rw[af (by rw[c];decide)]
   refine⟨(yA k.ac (i.ml d A)).mono ?_⟩;rintro e E ⟨rfl,rfl⟩;rw[z];exact⟨_,_,rfl,last _⟩
  ·have c:hs k.ac x.2.2.1=ag:=by simpa using c
   have z:jh k x=x.2.2.1:=by unfold jh;rw[aj c]
   rw[z];exact last _
end
def lA (r:Rc):List Value:=[I r.1,I r.2.1,I r.2.2.1,I r.2.2.2.1,I r.2.2.2.2]
def vt (p:Option Addr) (c:Nat):Ob (List Rc):=λw F rs=>(∀i,F i↔bf p i)/\Sl w 43 5 p rs.length c (rs.flatMap lA)
instance Frame.rcl (p:Option Addr) (c:Nat):Frame (vt p c) where
 ak:=λ⟨h1,a⟩ k d=>⟨h1,a.ak k (λi hi=>d i ((h1 i).2 hi))⟩
 lt:=λ⟨h1,a⟩ i hi=>a.lt i ((h1 i).1 hi)
def fg {σ:Type} (A:Ob σ) (W:World) (F:Fp) (s:σ) (rs:List Rc) (e:Ending) (w':World):Prop:=∃p c,e=Z (.slice p rs.length c)/\ai (aF A (vt p c)) W w' F (s,rs)
theorem LM {σ:Type} {A:Ob σ} [Frame A] {W w:World} {F:Fp} {s:σ} (h:ai A W w F s) (id gX:Int):Cx 64 #[I id,I gX] w (fg A W F s (mI (id,gX))):=by
 refine u64 ?_;rw[t64];unfold mI;refine⟨λg=>⟨λw1 c=>?_⟩,λg=>⟨λw1 c=>?_⟩⟩
 ·have g:gX≠0:=by simpa using g
  rw[af g];refine⟨aa ⟨w.heap.size,0,ah⟩,1,rfl,h.add (c.ak no) (G:=bf (aa ⟨w.heap.size,0,ah⟩)) ⟨λ_=>bp,Sl.new c rfl (show(1:Nat)<=maxLen by unfold maxLen;omega)⟩ (λi ⟨a,d,hi⟩=>?_)⟩;cases d;rw[hi];exact aX _
 ·have g:gX=0:=by simpa using g
  rw[aj g];refine⟨aa ⟨w.heap.size,0,ah⟩,1,rfl,h.add (c.ak no) (G:=bf (aa ⟨w.heap.size,0,ah⟩)) ⟨λ_=>bp,Sl.new c rfl (show(1:Nat)<=maxLen by unfold maxLen;omega)⟩ (λi ⟨a,d,hi⟩=>?_)⟩;cases d;rw[hi];exact aX _
theorem acH {σ:Type} {A:Ob σ} [Frame A] {W w:World} {F:Fp} {s:σ} (h:ai A W w F s) (gX:Int):Cx 61 #[I gX] w (fg A W F s (gh gX)):=by
 refine u61 ?_;refine⟨(LM h 0 gX).mono ?_⟩;rintro e w1 ⟨p,c,rfl,a⟩;have d:mI (0,gX)=gh gX:=by unfold mI gh;simp
 rw[d]at a;exact⟨_,_,_,rfl,p,c,rfl,a⟩
theorem sL {b:Nat} {W w:World} {F:Fp} {k k':K} {rs:List Rc} {x:Int×Int} (h:ai (KO b) W w F k') (a:k'=k) (d:rs=mI x):Cx 64 #[I x.1,I x.2] w λe w'=>∃p n c,e=Z (.slice p n c)/\fg (KO b) W F k rs (.returned (.slice p n c)) w':=by
 subst a;subst d;refine(LM h x.1 x.2).mono ?_;rintro e w1 ⟨p,c,rfl,f⟩;exact⟨_,_,_,rfl,p,c,rfl,f⟩
theorem gn {b:Nat} {W w:World} {F:Fp} {k k':K} {rs:List Rc} {x:Int} (h:ai (KO b) W w F k') (a:k'=k) (d:rs=gh x):Cx 61 #[I x] w λe w'=>∃p n c,e=Z (.slice p n c)/\fg (KO b) W F k rs (.returned (.slice p n c)) w':=by
 subst a;subst d;refine(acH h x).mono ?_;rintro e w1 ⟨p,c,rfl,f⟩;exact⟨_,_,_,rfl,p,c,rfl,f⟩
def lg (e:cu):List Value:=[I e.1,I e.2.1,I e.2.2.1,.int .u64 (mi e.2.2.2.1),I e.2.2.2.2]
section
variable {b:Nat} {W w:World} {F:Fp} {k:K}
theorem yv (j:Tab W) (C:¬F 0) (h:ai (KO b) W w F k) (e:cu):Cx 69 #[pt b,.agg (lg e).toArray] w (fg (KO b) W F (jY k e) (ra k e)):=by
 refine u69 ?_;refine⟨λw1 D=>?_⟩;have a:ai (aF (KO b) (Lb w.heap.size 33)) W w1 F (k,lg e):=h.add (D.ak no) (Rw.new D rfl) (λi hi=>bF hi.symm);generalize w.heap.size=p at a⊢;refine⟨_,(cL a).cell rfl,⟨(aaq a.drop e.2.1).mono ?_⟩⟩;rintro z E ⟨rfl,rfl⟩;refine⟨_,rfl,λg=>⟨gn a.drop ?_ ?_⟩,λg=>?_⟩
 ·have g:sq k e.2.1≠0:=by simpa using g
  unfold jY;rw[aj g]
 ·have g:sq k e.2.1≠0:=by simpa using g
  unfold ra;rw[aj g]
 ·have g:¬sq k e.2.1≠0:=by simpa using g
  refine⟨_,(cL a).cell rfl,λg1=>⟨_,(cL a).cell rfl,_,(cL a).cell rfl,⟨(Z2 j C a.drop e.2.1 e.2.2.2.2).mono ?_⟩⟩,λg1=>?_⟩
  ·have g1:e.1=10:=by simpa using g1
   rintro z A ⟨rfl,l⟩;exact⟨_,_,rfl,⟨sL (x:=zS k e.2.1 e.2.2.2.2) l (by unfold jY;rw[af g,aj g1]) (by unfold ra;rw[af g,aj g1])⟩⟩
  ·have g1:¬e.1=10:=by simpa using g1
   refine⟨λc=>?_,λc=>?_⟩
   ·have c:e.1=18:=by simpa using c
    intro A n o r s;have a:=a.ak (av.same no n o r s);obtain⟨q,F1,_,d,t⟩:=KS.fix a;obtain⟨F2,hA,u⟩:=KF.wk d;refine⟨_,rfl,_,(KF.ay d).aE rfl,_,(cL a).cell rfl,⟨(U2 hA (a.ml j C) e.2.1).mono ?_⟩⟩;rintro z B ⟨rfl,l⟩;exact⟨_,_,rfl,⟨sL (x:=uY k.wk e.2.1) (t _ _ (u _ _ l)).drop (by unfold jY;rw[af g,af g1,aj c]) (by unfold ra;rw[af g,af g1,aj c])⟩⟩
   have c:¬e.1=18:=by simpa using c
   refine⟨λf=>?_,λf=>?_⟩
   ·have f:e.1=20:=by simpa using f
    intro A n o r s;have a:=a.ak (av.same no n o r s);obtain⟨q,F1,_,d,t⟩:=KS.fix a;obtain⟨F2,hA,u⟩:=KF.ca d;refine⟨_,rfl,_,(KF.ay d).aE rfl,_,(cL a).cell rfl,⟨(XL hA (a.ml j C) e.2.1).mono ?_⟩⟩;rintro z B ⟨rfl,l⟩;exact⟨_,_,rfl,⟨sL (x:=vc k.ca e.2.1) (t _ _ (u _ _ l)).drop (by unfold jY;rw[af g,af g1,af c,aj f]) (by unfold ra;rw[af g,af g1,af c,aj f])⟩⟩
   have f:¬e.1=20:=by simpa using f
   refine⟨λm=>?_,λm=>?_⟩
   ·have m:e.1=21:=by simpa using m
    intro A n o r s;have a:=a.ak (av.same no n o r s);obtain⟨q,F1,_,d,t⟩:=KS.fix a;obtain⟨F2,hA,u⟩:=KF.st d;refine⟨_,rfl,_,(KF.ay d).aE rfl,_,(cL a).cell rfl,⟨(ad7 hA e.2.1).mono ?_⟩⟩;rintro z B ⟨rfl,l⟩;exact⟨_,_,rfl,⟨sL (x:=xy k.st e.2.1) (t _ _ (u _ _ l)).drop (by unfold jY;rw[af g,af g1,af c,af f,aj m]) (by unfold ra;rw[af g,af g1,af c,af f,aj m])⟩⟩
   have m:¬e.1=21:=by simpa using m
   refine⟨λy=>?_,λy=>?_⟩
   ·have y:e.1=22:=by simpa using y
    intro A n o r s;have a:=a.ak (av.same no n o r s);obtain⟨q,F1,_,d,t⟩:=KS.fix a;obtain⟨F2,hA,u⟩:=KF.st d;refine⟨_,rfl,_,(KF.ay d).aE rfl,_,(cL a).cell rfl,_,(cL a).cell rfl,⟨(aeh hA e.2.1 e.2.2.1).mono ?_⟩⟩;rintro z B ⟨rfl,l⟩;exact⟨_,rfl,⟨gn (x:=ze k.st e.2.1 e.2.2.1) (t _ _ (u _ _ l)).drop (by unfold jY;rw[af g,af g1,af c,af f,af m,aj y]) (by unfold ra;rw[af g,af g1,af c,af f,af m,aj y])⟩⟩
   have y:¬e.1=22:=by simpa using y
   intro A n o r s;have a:=a.ak (av.same no n o r s);obtain⟨q,F1,_,d,t⟩:=KS.fix a;obtain⟨F2,hA,u⟩:=KF.ga d;refine⟨_,rfl,_,(KF.ay d).aE rfl,_,(cL a).cell rfl,⟨(Y3 hA e.2.1).mono ?_⟩⟩;rintro z B ⟨rfl,l⟩;exact⟨_,rfl,⟨gn (x:=oK k.ga e.2.1) (t _ _ (u _ _ l)).drop (by unfold jY;rw[af g,af g1,af c,af f,af m,af y]) (by unfold ra;rw[af g,af g1,af c,af f,af m,af y])⟩⟩
def Ku (x:Th):List Value:=[I x.1,.int .u64 (mi x.2.1),I x.2.2.1,.bool x.2.2.2.1,.bool x.2.2.2.2.1,I x.2.2.2.2.2]
theorem zA.fix {p p2:Nat} {T T2:TypeId} {l a:List Value} (h:ai (aF (aF (KO b) (Lb p T)) (Lb p2 T2)) W w F ((k,l),a)):∃q F1,KF b q w F1 k/\ai (KF b q) w w F1 k/\∀w' k',ai (KF b q) w w' F1 k'->ai (aF (aF (KO b) (Lb p T)) (Lb p2 T2)) W w' F ((k',l),a):=by
 obtain⟨F1,⟨q,c⟩,d⟩:=h.ll;exact⟨q,F1,c,ai.same c,λw' k' e=>d _ _ (KF.loose e)⟩
theorem kz {p p2:Nat} {T T2:TypeId} {l a:List Value} (h:ai (aF (aF (KO b) (Lb p T)) (Lb p2 T2)) W w F ((k,l),a)):aM w p l T:=cL h.drop
theorem yw (n:Tab W) (L:¬F 0) (h:ai (KO b) W w F k) (e:cu):Cx 66 #[pt b,.agg (lg e).toArray] w (fg (KO b) W F (iV k e) (qh k e)):=by
 refine u66 ?_;refine⟨λw1 hN=>?_⟩;have a:ai (aF (KO b) (Lb w.heap.size 33)) W w1 F (k,lg e):=h.add (hN.ak no) (Rw.new hN rfl) (λi hi=>bF hi.symm);generalize w.heap.size=p at a⊢;intro w2 q1 q2 q3 q4;replace a:=a.ak (av.same no q1 q2 q3 q4);obtain⟨q,F1,_,hK,kK⟩:=KS.fix a;obtain⟨F2,hA,_⟩:=KF.th hK;have hB:=KF.ay hK;have M:=cL a;refine⟨_,rfl,_,hB.aE rfl,_,M.cell rfl,?a1,?a2⟩
 case' a1=>
  refine⟨(vX hA e.2.2.1).mono ?_⟩;rintro y N ⟨rfl,o⟩;refine⟨_,_,_,_,_,_,_,rfl,⟨λO f=>?_⟩⟩;replace a:ai (aF (aF (KO b) (Lb p 33)) (Lb N.heap.size 250)) W O F ((k,lg e),_):=(a.ak o).add (f.ak no) (Rw.new f rfl) (λi hi=>bF hi.symm);generalize N.heap.size=p2 at a⊢;refine⟨(M.ak (o.and (f.ak no)) (λh=>h)).cell rfl,(hB.ak (o.and (f.ak no)) (λh=>h)).aE rfl,?_⟩;refine mT (vs:=Ku (cS k e.2.2.1)) a (by rfl) λH a=>?_
 case' a2=>
  refine⟨λO f=>?_⟩;have P:=(inferInstance:Frame (ff q.th)).ak hA (f.ak no) (λ_ _ h=>h);have C:ai (aF (aF (KO b) (Lb p 33)) (Lb w2.heap.size 250)) W O F ((k,lg e),_):=a.add (f.ak no) (Rw.new f rfl) (λi hi=>bF hi.symm);clear a;generalize w2.heap.size=p2 at C⊢;refine⟨(M.ak (f.ak no) (λh=>h)).cell rfl,(hB.ak (f.ak no) (λh=>h)).aE rfl,⟨(vX P e.2.2.1).mono ?_⟩⟩;rintro y N ⟨rfl,o⟩;refine⟨_,_,_,_,_,_,_,rfl,?_⟩;refine mT (vs:=Ku (cS k e.2.2.1)) (C.ak o) (by rfl) λH a=>?_
 all_goals
  have j:=kz a;have c:=cL a;have hd:ai (KO b) W H F k:=a.drop.drop;refine⟨λg=>⟨gn hd ?_ ?_⟩,λg=>?_⟩
  ·have g:(dt k.th e.2.2.1).2≠0:=by simpa using g
   unfold iV;dsimp only;rw[aj g]
  ·have g:(dt k.th e.2.2.1).2≠0:=by simpa using g
   unfold qh;dsimp only;rw[aj g]
  have g:¬(dt k.th e.2.2.1).2≠0:=by simpa using g
  refine⟨_,j.cell rfl,λg1=>⟨_,c.cell rfl,⟨sL (x:=((cS k e.2.2.1).2.2.1,0)) hd ?_ ?_⟩⟩,λg1=>?_⟩
  ·have g1:e.1=9:=by simpa using g1
   unfold iV;dsimp only;rw[af g,aj g1]
  ·have g1:e.1=9:=by simpa using g1
   unfold qh;dsimp only;rw[af g,aj g1]
  have g1:¬e.1=9:=by simpa using g1
  refine⟨_,j.cell rfl,λl=>?_,λl=>?_⟩
  ·have l:e.1=4:=by simpa using l
   refine⟨_,j.cell rfl,_,c.cell rfl,_,c.cell rfl,_,c.cell rfl,_,c.cell rfl,_,c.cell rfl,_,c.cell rfl,⟨(aad hd e.2.2.1 (cS k e.2.2.1)).mono ?_⟩⟩;rintro y I ⟨rfl,Q⟩;exact⟨_,rfl,⟨gn Q (by unfold iV;dsimp only;rw[af g,af g1,aj l]) (by unfold qh;dsimp only;rw[af g,af g1,aj l])⟩⟩
  have l:¬e.1=4:=by simpa using l
  refine⟨_,j.cell rfl,λm=>?_,λm=>?_⟩
  ·have m:e.1=8:=by simpa using m
   intro I R S T U;replace a:=a.ak (av.same no R S T U);obtain⟨q6,F6,_,r,z⟩:=zA.fix a;obtain⟨F7,A,B⟩:=KF.th r;have D:=kz a;refine⟨_,rfl,_,(KF.ay r).aE rfl,_,D.cell rfl,_,D.cell rfl,⟨(Vq A e.2.2.1 e.2.2.2.1).mono ?_⟩⟩;rintro y w7 ⟨rfl,s⟩;replace a:=z _ _ (B _ _ s)
   have last:∀(k2:K) (J:World),ai (KO b) W J F k2->k2=iV k e->aU Tryz.prog ug xK (xX (oa k.th e.2.2.1 e.2.2.2.1)) J (yr (fg (KO b) W F (iV k e) (qh k e))):=by
    intro k2 J h8 V;refine aU.mk ?_;rw[af3];exact⟨gn h8 V (by unfold qh;dsimp only;rw[af g,af g1,af l,aj m])⟩
   refine⟨_,rfl,λd=>⟨_,(kz a).cell rfl,⟨(RE n L a.drop.drop e.2.2.1).mono ?_⟩⟩,λd=>last _ _ a.drop.drop ?_⟩
   ·have d:oa k.th e.2.2.1 e.2.2.2.1=0:=by simpa using d
    rintro y J ⟨rfl,X⟩;exact⟨rfl,last _ _ X (by unfold iV;dsimp only;rw[af g,af g1,af l,aj m,aj d])⟩
   ·have d:¬oa k.th e.2.2.1 e.2.2.2.1=0:=by simpa using d
    unfold iV;dsimp only;rw[af g,af g1,af l,aj m,af d]
  have m:¬e.1=8:=by simpa using m
  refine⟨_,c.cell rfl,_,j.cell rfl,λd=>⟨gn hd ?_ ?_⟩,λd=>?_⟩
  ·have d:(cS k e.2.2.1).2.2.2.2.1≠decide (e.1=7):=by
    intro E;rw[E]at d;by_cases G:e.1=7<;>simp[G]at d
   unfold iV;dsimp only;rw[af g,af g1,af l,af m,aj d]
  ·have d:(cS k e.2.2.1).2.2.2.2.1≠decide (e.1=7):=by
    intro E;rw[E]at d;by_cases G:e.1=7<;>simp[G]at d
   unfold qh;dsimp only;rw[af g,af g1,af l,af m,aj d]
  have d:¬(cS k e.2.2.1).2.2.2.2.1≠decide (e.1=7):=by
   intro E;apply E;cases h5:(cS k e.2.2.1).2.2.2.2.1<;>rw[h5]at d<;>by_cases G:e.1=7<;>simp[G]at d⊢
  refine⟨_,j.cell rfl,λt=>?_,λt=>?_⟩
  ·have t:e.1=6:=by simpa using t
   refine⟨_,j.cell rfl,_,c.cell rfl,_,c.cell rfl,_,c.cell rfl,_,c.cell rfl,_,c.cell rfl,_,c.cell rfl,_,j.cell rfl,⟨(aaz n L hd e.2.2.1 (cS k e.2.2.1) e.2.2.2.2).mono ?_⟩⟩;rintro y I ⟨rfl,Q⟩;exact⟨_,_,rfl,⟨sL (x:=BD k e.2.2.1 (cS k e.2.2.1) e.2.2.2.2) Q (by unfold iV;dsimp only;rw[af g,af g1,af l,af m,af d,aj t]) (by unfold qh;dsimp only;rw[af g,af g1,af l,af m,af d,aj t])⟩⟩
  have t:¬e.1=6:=by simpa using t
  refine⟨_,j.cell rfl,λu=>?_,λu=>?_⟩
  ·have u:e.1=5:=by simpa using u
   intro I R S T U;replace a:=a.ak (av.same no R S T U);obtain⟨q6,F6,_,r,z⟩:=zA.fix a;obtain⟨F7,A,B⟩:=KF.rq r;refine⟨_,rfl,_,(KF.ay r).aE rfl,_,(kz a).cell rfl,⟨(adv A e.2.2.1).mono ?_⟩⟩;rintro y w7 ⟨rfl,s⟩;exact⟨_,rfl,⟨gn (z _ _ (B _ _ s)).drop.drop (by unfold iV;dsimp only;rw[af g,af g1,af l,af m,af d,af t,aj u]) (by unfold qh;dsimp only;rw[af g,af g1,af l,af m,af d,af t,aj u])⟩⟩
  have u:¬e.1=5:=by simpa using u
  refine⟨_,c.cell rfl,?_⟩;obtain⟨F8,Y,Z⟩:=a.ll;have al:ai (KO b) H H F8 k:=ai.same Y;refine⟨(RG al (cS k e.2.2.1).2.2.2.2.2).mono ?_⟩;rintro y I ⟨rfl,am⟩;replace a:=Z _ _ am;refine⟨rfl,_,(kz a).cell rfl,⟨(RK n L a.drop.drop e.2.2.1).mono ?_⟩⟩;rintro y w7 ⟨rfl,s⟩;exact⟨rfl,⟨gn s (by unfold iV;dsimp only;rw[af g,af g1,af l,af m,af d,af t,af u]) (by unfold qh;dsimp only;rw[af g,af g1,af l,af m,af d,af t,af u])⟩⟩
theorem RH (l:Tab W) (x:¬F 0) (h:ai (KO b) W w F k) (up:Bool) (c:Int):Cx 70 #[pt b,.bool up,I c] w λe w'=>e=Z (I (kL k up c))/\ai (KO b) W w' F (iC k up c):=by
 obtain⟨q,o⟩:=KO.fix h;have hB:=KF.ay o;obtain⟨F1,hA,G⟩:=KF.dk o;refine u70 ?_;refine⟨_,rfl,_,hB.cell rfl,⟨(l7 k.on c w).mono ?_⟩⟩;rintro e w1 ⟨rfl,rfl⟩;refine⟨_,rfl,λg1=>⟨_,rfl,_,hB.cell rfl,λj=>?_,λj=>⟨_,rfl,_,hB.aE rfl,⟨(uK hA).mono ?_⟩⟩⟩,λg1=>?_⟩
 ·have j:=aL j;have d:¬(0<=c/\c<(k.n:Int)):=by simp only at j;omega
  unfold kL iC;rw[aj d,aj d];exact⟨rfl,h⟩
 ·have g1:=aT g1;have j:=aT j;have d:¬¬(0<=c/\c<(k.n:Int)):=by simp only at j;omega
  rintro e p ⟨rfl,rfl⟩;refine⟨_,rfl,λm=>?_,λm=>?_⟩
  ·unfold kL iC;rw[af d,aj m,af d,aj m];exact⟨rfl,h⟩
  ·have a:¬dE k.dk=ag:=by rw[m];decide
   have last:kL k up c=nv k.dk c (fY (ls k.ac c)).1->iC k up c={k with ga:=uc k.ga,dk:=tp k.dk up c (fY (ls k.ac c)).1}->aU Tryz.prog qp r7 (r8 (aa ⟨b,0,ah⟩) up c) p (si λe w'=>e=Z (I (kL k up c))/\ai (KO b) W w' F (iC k up c)):=by
    intro y z;refine aU.mk ?_;rw[af4,y,z];refine⟨_,rfl,_,hB.cell rfl,⟨(Em k.ac c p).mono ?_⟩⟩;rintro e A ⟨rfl,rfl⟩;refine⟨_,rfl,⟨(yA (ls k.ac c) (h.ml l x)).mono ?_⟩⟩;rintro e H ⟨rfl,rfl⟩;obtain⟨F2,B,C⟩:=KF.ga o;refine⟨_,_,rfl,_,rfl,_,hB.aE rfl,⟨(Zo B).mono ?_⟩⟩;rintro e J ⟨rfl,r⟩;have u:=C _ _ r;obtain⟨F3,D,E⟩:=KF.dk u;refine⟨_,rfl,_,rfl,_,(KF.ay u).aE rfl,⟨(Zr D up c _).mono ?_⟩⟩;rintro e L ⟨rfl,s⟩;exact⟨_,rfl,rfl,KF.loose (E _ _ s)⟩
   cases up
   ·refine⟨λg=>(by cases g),λ_=>⟨λ_=>⟨λf=>?_,λf=>⟨λ_=>⟨_,rfl,_,hB.cell rfl,⟨(aa6 k.on p).mono ?_⟩⟩,λg=>(by cases g)⟩⟩,λg=>(by cases g)⟩⟩
    ·unfold kL iC;rw[af d,af a,af (by simp),aj (by simpa using f),af d,af a,af (by simp),aj (by simpa using f)];exact⟨rfl,h⟩
    ·rintro e A ⟨rfl,rfl⟩;have f:¬(!false&&!hs k.on c)=ag:=by simpa using f
     refine⟨_,rfl,λi=>?_,λi=>last ?_ ?_⟩
     ·have i:(cs k.on).length=1:=by
       have:((cs k.on).length:Int)=1:=by simpa using i
       omega
      unfold kL iC;rw[af d,af a,af (by simp),af f,aj (by simp[i]),af d,af a,af (by simp),af f,aj (by simp[i])];exact⟨rfl,h⟩
     ·have i:¬(cs k.on).length=1:=λt=>by rw[t]at i;simp at i
      unfold kL;rw[af d,af a,af (by simp),af f,af (by simp[i])]
     ·have i:¬(cs k.on).length=1:=λt=>by rw[t]at i;simp at i
      unfold iC;rw[af d,af a,af (by simp),af f,af (by simp[i])]
   ·refine⟨λ_=>⟨λf=>?_,λf=>⟨λg=>(by cases g),λ_=>⟨λg=>(by cases g),λ_=>last ?_ ?_⟩⟩⟩,λg=>(by cases g)⟩
    ·unfold kL iC;rw[af d,af a,aj (by simpa using f),af d,af a,aj (by simpa using f)];exact⟨rfl,h⟩
    ·unfold kL;rw[af d,af a,af (by rw[f];decide),af (by simp),af (by simp)]
    ·unfold iC;rw[af d,af a,af (by rw[f];decide),af (by simp),af (by simp)]
 ·have g1:=aL g1;have d:¬(0<=c/\c<(k.n:Int)):=by omega
  unfold kL iC;rw[aj d,aj d];exact⟨rfl,h⟩
end
theorem P9 {b:Nat} {w:World} {F:Fp} {s:ch} (h:cW b w F s) {p:Option Addr} {l:List Int} {c:Nat} (o:Cells w p (l.map (aB .i64))) (y:l.length<=1000) :
  Cx 270 #[.slice p l.length c,.func (.func 175) #[pt b] #[]] w λe w'=>((∃i:Nat,∃hi:i<l.length,l.find? (dG s)=aa l[i]/\e=Z (I (i:Int)))∨(l.find? (dG s)=ah/\e=Z (I (-1))))/\w'=w:=by
 refine ajL ?_;refine⟨bO bu (M:=B8) (σ:=Nat) (λi=>OZ p l.length c (aa ⟨b,0,ah⟩) (l.length:Int) (i:Int)) (λi w'=>i<=l.length/\(∀j (d:j<l.length),j<i->dG s l[j]=ae)/\w'=w) (λi _=>l.length-i) 0 ⟨rfl,rfl,rfl,rfl,trivial⟩ ⟨cB _,λj _ d=>by omega,rfl⟩ ?_⟩;rintro i w1 ⟨hi,m,rfl⟩;rw[afs];refine⟨λg=>?_,λg=>?_⟩
 ·have g:=aL g;have f:i<l.length:=by omega
  obtain⟨a,q,r⟩:=o.cv f;refine⟨⟨by omega,by omega⟩,a,q,_,r,⟨(adj h l[i]).mono ?_⟩⟩;rintro e z ⟨rfl,rfl⟩;refine⟨_,rfl,λn=>⟨.inl ⟨i,f,?_,rfl⟩,rfl⟩,λn=>⟨i+1,⟨rfl,rfl,rfl,by rw[aP (by omega)];rfl,trivial⟩,⟨by omega,λj d t=>?_,rfl⟩,by omega⟩⟩
  ·refine List.find?_eq_some_iff_getElem.2 ⟨n,i,f,rfl,λj d=>?_⟩;rw[m j (by omega) d];rfl
  ·by_cases e:j=i
   ·subst e;exact n
   ·exact m j d (by omega)
 ·have g:=aT g;refine⟨.inr ⟨kt.2 λx u=>?_,rfl⟩,rfl⟩;obtain⟨j,d,rfl⟩:=uv u;rw[m j d (by omega)];decide
theorem Tab.pos {W:World} (c:Tab W):0<W.heap.size:=by
 obtain⟨e,a,d⟩:=c 0 _ (by rfl);cases a;have:=qH d;rw[uj]at this;exact this
theorem fg.nil {σ:Type} {A:Ob σ} [Frame A] {W w:World} {F:Fp} {s:σ} (h:ai A W w F s):fg A W F s [] (.returned (.slice ah 0 0)) w:=
 ⟨ah,0,rfl,h.add (av.refl _ _) (G:=λ_=>False) ⟨λi=>⟨λh=>h.elim,λ⟨a,c,_⟩=>by cases c⟩,Sl.nil _ _ _⟩ (λi hi=>hi.elim)⟩
theorem fg.one {σ:Type} {A:Ob σ} [Frame A] {W w w':World} {F:Fp} {s:σ} (h:ai A W w F s) {r:Rc} (c:dy w w' (.cells (dK (lA r)) 43 (0,0))):fg A W F s [r] (.returned (.slice (aa ⟨w.heap.size,0,ah⟩) 1 1)) w':=by
 refine⟨aa ⟨w.heap.size,0,ah⟩,1,rfl,h.add (c.ak no) (G:=bf (aa ⟨w.heap.size,0,ah⟩)) ⟨λ_=>bp,?_⟩ (λi ⟨a,d,hi⟩=>?_)⟩
 ·have:=Sl.new c (sz:=5) (n:=1) rfl (show(1:Nat)<=maxLen by unfold maxLen;omega);exact this
 ·cases d;rw[hi];exact aX _
theorem ai.Jd {σ τ:Type} {A:Ob σ} {B:Ob τ} [Frame B] {W w:World} {F:Fp} {x:σ×τ} (a:Tab W) (l:¬F 0) (h:ai (aF A B) W w F x) :
  ∃F1,A w F1 x.1/\Tab w/\¬F1 0/\∀w' f,ai A w w' F1 f->ai (aF A B) W w' F (f,x.2):=by
 have y:=a.pos;have q:=h.ml a l;obtain⟨r,s,m,e⟩:=h;obtain⟨F1,F2,n,g,d,j⟩:=s;have z:aF A B w r x:=⟨F1,F2,n,g,d,j⟩;refine⟨F1,n,q,λt=>?_,?_⟩
 ·rcases e 0 ((d 0).2 (.inl t))with k|k
  ·exact l k
  ·omega
 ·rintro w' f ⟨G1,u,k2,o⟩;have p:Frame B:=inferInstance;refine⟨λi=>G1 i∨F2 i,⟨G1,F2,u,p.ak g k2 (λi hi c=>j i c hi),λ_=>bp,λi hi c=>?_⟩,m.trans k2 (λi hi c=>(e i ((d i).2 (.inl c))).elim id (λh=>absurd h (by omega))),λi hi=>?_⟩
  ·rcases o i hi with h|h
   ·exact j i h c
   ·have:=p.lt g i c;omega
  ·rcases hi with hi|hi
   ·rcases o i hi with h|h
    ·exact e i ((d i).2 (.inl h))
    ·exact .inr (aW m.size h)
   ·exact e i ((d i).2 (.inr hi))
theorem fu.short {b:Nat} {w:World} {F:Fp} {Q:QL} (h:fu b w F Q) (c:Int):(b8 Q c).length<=32:=by
 obtain⟨o,g,_,hI⟩:=h;unfold b8;split
 ·rename_i a;obtain⟨i,hi,rfl,_⟩:=uN a (by omega);rw[o0 hi];exact(hI.row hi).2
 ·simp
section
variable {b:Nat} {W w:World} {F:Fp} {k:K}
theorem RJ (h:ai (KO b) W w F k) (c:Int):Cx 201 #[pt b,I c] w λe w'=>e=Z (.tuple #[I (na k c).1,.bool (na k c).2])/\ai (KO b) W w' F k:=by
 obtain⟨q,f⟩:=KO.fix h;have hB:=KF.ay f;obtain⟨F1,hA,_⟩:=KF.rt f;refine aiD ?_;refine⟨_,rfl,_,hB.aE rfl,⟨(SO hA c).mono ?_⟩⟩;rintro e w1 ⟨p,d,rfl,l⟩;replace f:=f.ak l.U;obtain⟨F2,hI,_⟩:=KF.ir f;have j:(iQ k.rt c).length<=1000:=aW (vg ..) (by omega);refine⟨_,_,_,rfl,_,rfl,_,(KF.ay f).aE rfl,⟨(P9 hI l.S.cells j).mono ?_⟩⟩;unfold na;rintro e r ⟨⟨i,hi,m,rfl⟩|⟨m,rfl⟩,rfl⟩
 ·rw[m];obtain⟨a,n,o⟩:=l.S.cells.cv hi;exact⟨_,rfl,λg=>by have:=aL g;omega,λg=>⟨⟨by omega,by omega⟩,a,n,_,o,rfl,KF.loose f⟩⟩
 ·rw[m];exact⟨_,rfl,λg=>⟨rfl,KF.loose f⟩,λg=>by simp at g⟩
theorem aaf (h:ai (KO b) W w F k) (c:Int):Cx 115 #[pt b,I c] w λe w'=>e=Z (.agg #[.bool (dY k c).1,.bool (dY k c).2.1,.bool (dY k c).2.2.1,.bool (dY k c).2.2.2.1,.bool (dY k c).2.2.2.2.1,.bool (dY k c).2.2.2.2.2.1,.bool (dY k c).2.2.2.2.2.2.1,.bool (dY k c).2.2.2.2.2.2.2.1,.bool (dY k c).2.2.2.2.2.2.2.2])/\ai (KO b) W w' F k:=by
 refine ahk ?_;refine⟨λw1 J=>?_⟩;have d:ai (aF (KO b) (Lb w.heap.size 240)) W w1 F (k,[.bool ae,.bool ae,.bool ae,.bool ae,.bool ae,.bool ae,.bool ae,.bool ae,.bool ae]):=h.add (J.ak no) (Rw.new J rfl) (λi hi=>bF hi.symm);generalize w.heap.size=p at d⊢;obtain⟨F0,s,t⟩:=d.left;refine⟨(RJ (ai.same s) c).mono ?_⟩;rintro e w2 ⟨rfl,u⟩;replace d:=t _ _ u;refine⟨_,_,rfl,?_⟩;intro w3 L M N O;replace d:=d.ak (av.same no L M N O);obtain⟨q,F1,_,a,P⟩:=KS.fix d;have hB:=KF.ay a;obtain⟨F2,x,_⟩:=KF.so a;refine⟨_,rfl,_,hB.aE rfl,_,rfl,_,hB.aE rfl,_,rfl,_,hB.aE rfl,_,rfl,_,hB.cell rfl,_,rfl,_,hB.aE rfl,_,rfl,_,hB.aE rfl,_,rfl,_,hB.aE rfl,_,rfl,_,hB.aE rfl,_,rfl,_,hB.aE rfl,⟨(Sq x c).mono ?_⟩⟩;rintro e w4 ⟨rfl,y⟩;replace a:=a.ak y;replace hB:=KF.ay a;obtain⟨F3,z,_⟩:=KF.so a;refine⟨_,rfl,hB.aE rfl,hB.aE rfl,hB.aE rfl,hB.aE rfl,hB.aE rfl,hB.cell rfl,hB.aE rfl,hB.aE rfl,⟨(Zt z c).mono ?_⟩⟩;rintro e w5 ⟨rfl,rfl⟩;obtain⟨F4,l,_⟩:=KF.dk a;refine⟨_,rfl,hB.aE rfl,hB.aE rfl,hB.aE rfl,hB.aE rfl,hB.aE rfl,hB.cell rfl,hB.aE rfl,⟨(uK l).mono ?_⟩⟩;rintro e w6 ⟨rfl,rfl⟩;refine⟨_,rfl,hB.aE rfl,hB.aE rfl,hB.aE rfl,hB.aE rfl,hB.aE rfl,hB.cell rfl,λg=>?Q,λg=>?a2⟩
 case' Q=>
  refine⟨_,rfl,_,hB.aE rfl,⟨(P1 l).mono ?_⟩⟩;rintro e w7 ⟨rfl,rfl⟩;have m:(mO k.dk==c)=(dE k.dk&&decide (mO k.dk=c)):=by rw[show dE k.dk=ag from g,dR];rfl
  refine⟨_,rfl,hB.aE rfl,hB.aE rfl,hB.aE rfl,hB.aE rfl,hB.aE rfl,hB.cell rfl,⟨(l7 k.ac c _).mono ?_⟩⟩
 case' a2=>
  have m:ae=(dE k.dk&&decide (mO k.dk=c)):=by rw[show dE k.dk=ae from g,js]
  refine⟨(l7 k.ac c _).mono ?_⟩
 all_goals
  rintro e w8 ⟨rfl,rfl⟩;obtain⟨F5,A,_⟩:=KF.ca a;refine⟨_,rfl,hB.aE rfl,hB.aE rfl,hB.aE rfl,hB.aE rfl,hB.aE rfl,⟨(Of A c).mono ?_⟩⟩;rintro e w9 ⟨rfl,B⟩;replace a:=a.ak B;replace hB:=KF.ay a;obtain⟨F6,C,_⟩:=KF.tm a;refine⟨_,rfl,hB.aE rfl,hB.aE rfl,hB.aE rfl,hB.aE rfl,⟨(Ut C c).mono ?_⟩⟩;rintro e R ⟨rfl,n⟩;replace a:=a.ak n;replace hB:=KF.ay a;obtain⟨F7,D,_⟩:=KF.wk a;refine⟨_,rfl,hB.aE rfl,hB.aE rfl,hB.aE rfl,⟨(FX D c).mono ?_⟩⟩;rintro e S ⟨rfl,o⟩;replace a:=a.ak o;replace hB:=KF.ay a;obtain⟨F8,j,_⟩:=KF.wk a;have E:=fu.short j c;have G:=fu.short j (-1);refine⟨_,rfl,hB.aE rfl,hB.aE rfl,⟨(FX j (-1)).mono ?_⟩⟩;rintro e T ⟨rfl,r⟩;replace a:=a.ak r;replace hB:=KF.ay a;obtain⟨F9,H,_⟩:=KF.rq a;refine⟨_,rfl,hB.aE rfl,⟨(wE H c).mono ?_⟩⟩;rintro e U ⟨rfl,rfl⟩;replace d:=P _ _ a;refine⟨_,rfl,mT d (by rfl) λV d=>?_⟩;have f:=cL d;refine⟨_,f.cell rfl,_,f.cell rfl,_,f.cell rfl,_,f.cell rfl,_,f.cell rfl,_,f.cell rfl,_,f.cell rfl,_,f.cell rfl,_,f.cell rfl,?_,d.drop⟩;unfold dY;rw[<-m]
  dsimp only at E G⊢
  rw[aP (by omega)];have X:decide (((cV k.ca c).length:Int)>0)=decide (0<(cV k.ca c).length):=decide_eq_decide.2 (by omega);have Y:decide (((b8 k.wk c).length:Int)+((b8 k.wk (-1)).length:Int)>0)=decide (0<(b8 k.wk c).length+(b8 k.wk (-1)).length):=decide_eq_decide.2 (by omega);rw[X,Y]
theorem RC (h:ai (KO b) W w F k) (c kind id n:Int):Cx 220 #[pt b,I c,I kind,I id,I n] w (fg (KO b) W F k [(kind,c,id,n,0)]):=by
 obtain⟨q,d⟩:=KO.fix h;have hB:=KF.ay d;obtain⟨F1,cK,hA,g⟩:=KF.sc d;refine aiY ?_;refine⟨_,rfl,_,hB.aE rfl,⟨(Fc hA c (n:=1) (by decide)).mono ?_⟩⟩;rintro e w1 ⟨rfl,j⟩;have l:=KF.loose (g _ _ j);refine⟨_,rfl,⟨λo f=>⟨aa ⟨w1.heap.size,0,ah⟩,1,rfl,l.add (f.ak no) (G:=bf (aa ⟨w1.heap.size,0,ah⟩)) ⟨λ_=>bp,Sl.new f rfl (show(1:Nat)<=maxLen by unfold maxLen;omega)⟩ (λi ⟨a,m,hi⟩=>?_)⟩⟩⟩;cases m;rw[hi];exact aX _
theorem aae (a:Tab W) (x:¬F 0) (h:ai (KO b) W w F k) (c:Int):Cx 222 #[pt b,I c] w (fg (KO b) W F (fN k c) [(3,c,(dM k.tm c).1,(k.own (dM k.tm c).1).getD 0,0)]):=by
 obtain⟨q,s⟩:=KO.fix h;have hB:=KF.ay s;obtain⟨F1,hA,y⟩:=KF.tm s;refine ai0 ?_;refine⟨_,rfl,_,hB.aE rfl,⟨(agz hA c).mono ?_⟩⟩;rintro e w1 ⟨rfl,z⟩;have l:=y _ _ z;obtain⟨F2,n,t,A⟩:=KF.own l;have f:=kP sK t (dM k.tm c).1 ae;have B:((k.own (dM k.tm c).1).map (aB .i64)).getD (I 0)=I ((k.own (dM k.tm c).1).getD 0):=by cases k.own (dM k.tm c).1<;>rfl
 simp only[B]at f;obtain⟨C,i,m⟩:=tT sK t (dM k.tm c).1 3 (0:TypeId);have u:=A _ _ m
 have last:∀(k2:K) (j:World),ai (KO b) W j F k2->k2=fN k c->aU Tryz.prog zG C3 (Dz (aa ⟨b,0,ah⟩) c (dM k.tm c).1 ((k.own (dM k.tm c).1).getD 0)) j (D7 (fg (KO b) W F (fN k c) [(3,c,(dM k.tm c).1,(k.own (dM k.tm c).1).getD 0,0)])):=by
  rintro k2 j D rfl;refine aU.mk ?_;rw[afk];refine⟨(RC D c 3 _ _).mono ?_⟩;rintro e E ⟨p,d,rfl,o⟩;exact⟨_,_,_,rfl,p,d,rfl,o⟩
 refine⟨_,_,rfl,_,rfl,_,(KF.ay l).cell rfl,_,f,_,rfl,_,(KF.ay l).cell rfl,C,i,λg=>?_,λg=>?_⟩
 ·have g:0<(k.own (dM k.tm c).1).getD 0:=aL g;refine⟨(RK a x (KF.loose u) _).mono ?_⟩;rintro e j ⟨rfl,r⟩;exact⟨rfl,last _ _ r (by unfold fN;dsimp only;rw[aj g];rfl)⟩
 ·have g:¬0<(k.own (dM k.tm c).1).getD 0:=aT g;exact last _ _ (KF.loose u) (by unfold fN;dsimp only;rw[af g];rfl)
theorem abY {x:cI} (h:Gm x) (c:Int):(uT x c).1<=1152921504606846976:=by
 unfold uT;split
 ·split
  ·unfold kx;split
   ·rename_i p a;exact(h.at_ _ _ a).2.2
   ·omega
  ·simp only;omega
 ·simp only;omega
theorem aak (h:ai (KO b) W w F k) (d:k.tm.now=k.now) (c:Int):Cx 120 #[pt b,I c] w λe w'=>e=Z (.tuple #[])/\ai (KO b) W w' F (qU k c):=by
 obtain⟨q,a⟩:=KO.fix h;have hB:=KF.ay a;obtain⟨F1,hA,_⟩:=KF.tm a;have j:Gm k.tm:=by obtain⟨_,_,_,_,_,_,r⟩:=hA;exact r.v
 have f:=j.now;rw[d]at f;refine ahp ?_;refine⟨_,rfl,_,hB.aE rfl,⟨(agS hA c).mono ?_⟩⟩;rintro e w1 ⟨rfl,g⟩;replace a:=a.ak g;replace hB:=KF.ay a;refine⟨_,_,rfl,_,rfl,_,hB.cell rfl,⟨(ZQ f.2 (abY j c) _ w1).mono ?_⟩⟩;rintro e z ⟨rfl,rfl⟩;refine⟨_,rfl,?_⟩;intro l m o p s;replace a:=a.ak (av.same no m o p s);replace hB:=KF.ay a;refine⟨_,rfl,_,hB.aE rfl,_,rfl,_,hB.cell rfl,_,rfl,_,hB.cell rfl,⟨(Ql l).mono ?_⟩⟩;rintro e A ⟨⟨pt,rfl,t⟩,i⟩;replace a:=a.ak i;replace hB:=KF.ay a;refine⟨_,_,_,rfl,hB.cell rfl,hB.cell rfl,hB.aE rfl,⟨(ZG t _ _).mono ?_⟩⟩;rintro e B ⟨rfl,rfl⟩;obtain⟨F2,u,x⟩:=KF.co a;refine⟨_,rfl,hB.cell rfl,hB.aE rfl,⟨(XI u c _ _ ?_).mono ?_⟩⟩
 ·unfold vL
  repeat' split
  all_goals omega
 rintro e C ⟨⟨n,rfl⟩,y⟩;exact⟨_,rfl,rfl,KF.loose (x _ _ y)⟩
theorem aaE (o:Tab W) (x:¬F 0) (h:ai (KO b) W w F k) (c a:Int):Cx 121 #[pt b,I c,I a] w (fg (KO b) W F (gB k c a) (Kw k c a)):=by
 obtain⟨q,s⟩:=KO.fix h;have hB:=KF.ay s;refine ahq ?_;unfold gB Kw
 have last:∀{k2:K} {t:World} (u:ai (KO b) W t F k2) (kind id:Int),Cx 220 #[pt b,I c,I kind,I id,I 0] t λe w'=>∃p n d,e=Z (.slice p n d)/\fg (KO b) W F k2 [(kind,c,id,0,0)] (.returned (.slice p n d)) w':=λu kind id=>(RC u c kind id 0).mono (by
  rintro e y ⟨p,d,rfl,j⟩;exact⟨_,_,_,rfl,p,d,rfl,j⟩)
 refine⟨λg=>?_,λg=>⟨λg1=>?_,λg1=>⟨λf=>?_,λf=>⟨λi=>?_,λi=>?_⟩⟩⟩⟩
 ·have g:a=4:=by simpa using g
  rw[aj g,aj g];obtain⟨F1,hA,l⟩:=KF.ca s;refine⟨_,rfl,_,hB.aE rfl,⟨(XM hA c).mono ?_⟩⟩;rintro e w1 ⟨rfl,m⟩;exact⟨_,_,rfl,⟨last (KF.loose (l _ _ m)) 6 _⟩⟩
 ·have g:¬a=4:=by simpa using g
  have g1:a=5:=by simpa using g1
  rw[af g,aj g1,af g,aj g1];refine⟨(RJ h c).mono ?_⟩;rintro e w1 ⟨rfl,z⟩;obtain⟨A,r⟩:=KO.fix z;obtain⟨F1,hA,l⟩:=KF.ir r;refine⟨_,_,rfl,_,rfl,_,(KF.ay r).aE rfl,⟨(Xo hA _).mono ?_⟩⟩;rintro e t ⟨rfl,m⟩;exact⟨_,rfl,⟨last (KF.loose (l _ _ m)) 4 _⟩⟩
 ·have g:¬a=4:=by simpa using g
  have g1:¬a=5:=by simpa using g1
  have f:a=6:=by simpa using f
  rw[af g,af g1,aj f,af g,af g1,aj f];refine⟨(aae o x h c).mono ?_⟩;rintro e y ⟨p,d,rfl,j⟩;exact⟨_,_,_,rfl,p,d,rfl,j⟩
 ·have g:¬a=4:=by simpa using g
  have g1:¬a=5:=by simpa using g1
  have f:¬a=6:=by simpa using f
  have i:a=7:=by simpa using i
  rw[af g,af g1,af f,aj i,af g,af g1,af f,aj i];obtain⟨F1,hA,l⟩:=KF.wk s;refine⟨_,rfl,_,hB.aE rfl,⟨(ami hA c).mono ?_⟩⟩;rintro e w1 ⟨rfl,m⟩;exact⟨_,_,rfl,⟨last (KF.loose (l _ _ m)) 5 _⟩⟩
 ·have g:¬a=4:=by simpa using g
  have g1:¬a=5:=by simpa using g1
  have f:¬a=6:=by simpa using f
  have i:¬a=7:=by simpa using i
  rw[af g,af g1,af f,af i,af g,af g1,af f,af i];obtain⟨F1,hA,l⟩:=KF.rq s;refine⟨_,rfl,_,hB.aE rfl,⟨(adA hA c).mono ?_⟩⟩;rintro e w1 ⟨rfl,m⟩;exact⟨_,_,rfl,⟨last (KF.loose (l _ _ m)) 2 _⟩⟩
end
section
variable {b:Nat} {W w:World} {F:Fp} {k:K}
theorem aaH (h:ai (KO b) W w F k) (up:Bool) (bZ c:Int):Cx 297 #[pt b,.bool up,I bZ,I c] w λe w'=>e=Z (.tuple #[])/\ai (KO b) W w' F (nU k up bZ c):=by
 obtain⟨q,d⟩:=KO.fix h;have hB:=KF.ay d;refine aj6 ?_;unfold nU;cases up
 ·refine⟨λg=>(by cases g),λ_=>⟨λ_=>⟨λg=>?_,λg=>?_⟩,λg=>(by cases g)⟩⟩
  ·have g:bZ=1:=by simpa using g
   rw[af (by simp),aj (by simp[g])];refine⟨_,rfl,_,hB.cell rfl,⟨λw1 f=>⟨(qW k.ac (l:=[c]) (p:=aa ⟨w.heap.size,0,ah⟩) (c:=1) (λj v i=>⟨_,rfl,f.aK.cell i⟩) (by simp)).mono ?_⟩⟩⟩;rintro e s ⟨rfl,rfl⟩;have a:=d.ak (f.ak no);refine⟨_,rfl,_,rfl,(KF.ay a).wr (k:=17) (by simp[mS]) λt m=>⟨rfl,KF.loose (KF.row a (k.n,k.on,wi k.ac c,k.now,k.lim) rfl m)⟩⟩
  ·have g:¬bZ=1:=by simpa using g
   rw[af (by simp),af (by simp[g])];exact⟨rfl,h⟩
 ·refine⟨λ_=>⟨λg=>?_,λg=>⟨λg=>(by cases g),λ_=>?_⟩⟩,λg=>(by cases g)⟩
  ·have g:bZ=1:=by simpa using g
   rw[aj (by simp[g])];obtain⟨F1,hA,o⟩:=KF.co d;refine⟨_,rfl,_,hB.aE rfl,⟨(Hh hA c ae).mono ?_⟩⟩;rintro e w1 ⟨⟨n,rfl⟩,r⟩;exact⟨_,rfl,rfl,KF.loose (o _ _ r)⟩
  ·have g:¬bZ=1:=by simpa using g
   rw[af (by simp[g]),af (by simp)];exact⟨rfl,h⟩
theorem KL.fix {T:TypeId} {y:jJ} (h:ai (aF (KO b) (Ls T)) W w F (k,y)):∃q F1,KF b q w F1 k/\ai (KF b q) w w F1 k/\∀w' k',ai (KF b q) w w' F1 k'->ai (aF (KO b) (Ls T)) W w' F (k',y):=by
 obtain⟨F1,⟨q,a⟩,c⟩:=h.left;exact⟨q,F1,a,ai.same a,λw' k' d=>c _ _ (KF.loose d)⟩
theorem AU {T:TypeId} {p:Option Addr} {c:Nat} {l:List Int} (h:ai (aF (KO b) (Ls T)) W w F (k,(p,c,l))):Cells w p (l.map (aB .i64)):=by
 obtain⟨F2,a,_⟩:=h.right;exact a.cells
theorem aaa (o:Tab W) (C:¬F 0) (h:ai (KO b) W w F k) (c:Int):Cx 356 #[pt b,I c] w λe w'=>(bT k.rq c=[]/\e=Z (.bool ag)/\ai (KO b) W w' F k)∨∃id l,bT k.rq c=id::l/\e=Z (.bool ae)/\ai (KO b) W w' F (jB {k with rq:=fH k.rq id} id c):=by
 obtain⟨q,y⟩:=KO.fix h;have hB:=KF.ay y;obtain⟨F1,hA,_⟩:=KF.rq y;refine akV ?_;refine⟨_,rfl,_,hB.aE rfl,⟨(J0 hA c).mono ?_⟩⟩;rintro e w1 ⟨p,d,rfl,n⟩
 cases z:bT k.rq c with
 | nil=>
  rw[z]at n
  exact⟨_,_,_,rfl,λ_=>.inl ⟨rfl,rfl,h.ak n.U⟩,λg=>by simp at g⟩
 | cons id l=>
  rw[z]at n;have j:ai (aF (KO b) (Ls 3)) W w1 F (k,(p,d,id::l)):=h.add n.U (G:=bf p) ⟨λ_=>bp,n.S⟩ n.F;refine⟨_,_,_,rfl,λg=>by simp at g;omega,λ_=>?_⟩;intro O D E H J;replace j:=j.ak (av.same no D E H J);obtain⟨P,F5,_,A,L⟩:=KL.fix j;obtain⟨F6,r,s⟩:=KF.rq A;obtain⟨a,M,m⟩:=(AU j).cv (i:=0) (l:=id::l) (by simp);have B:(0:Int)<=0/\(0:Int)<(((id::l).length:Nat):Int):=⟨by omega,by simp⟩;refine⟨_,rfl,_,(KF.ay A).aE rfl,B,a,M,_,by simpa using m,⟨(Bl r id).mono ?_⟩⟩;rintro e Q ⟨rfl,t⟩;replace j:=L _ _ (s _ _ t);obtain⟨N,u,f⟩:=(AU j).cv (i:=0) (l:=id::l) (by simp);refine⟨_,rfl,B,N,u,_,by simpa using f,⟨(Ec o C j.drop id c).mono ?_⟩⟩;rintro e R ⟨rfl,x⟩;exact⟨rfl,.inr ⟨id,l,rfl,rfl,x⟩⟩
theorem aab (a:Tab W) (g:¬F 0) (h:ai (KO b) W w F k) (c:Int):Cx 356 #[pt b,I c] w λe w'=>e=Z (.bool (Ig k c))/\ai (KO b) W w' F (iL k c):=by
 refine(aaa a g h c).mono ?_;unfold Ig iL;rintro e w' (⟨d,rfl,f⟩|⟨id,l,d,rfl,f⟩)
 ·rw[d];exact⟨rfl,f⟩
 ·rw[d];exact⟨rfl,f⟩
theorem agM {b:Nat} {w:World} {F:Fp} {x:TX} (h:ff b w F x):(gT x).length<=32:=by
 obtain⟨b2,c,y,h,d,hI⟩:=h;have a:=hI.len;have hs:=congrArg gu hI.s;rw[bW,a]at hs;unfold gT;rw[<-hs];exact EE _ _
theorem Z8 (C:Tab W) (h0:¬F 0) (h:ai (KO b) W w F k) (bZ c:Int):Cx 299 #[pt b,I bZ,I c] w λe w'=>e=Z (.tuple #[])/\ai (KO b) W w' F (nz k bZ c):=by
 obtain⟨q,f⟩:=KO.fix h;have hB:=KF.ay f;refine aj8 ?_;unfold nz;refine⟨λg=>?_,λg=>⟨λg1=>?_,λg1=>?_⟩⟩
 ·have g:bZ=1:=by simpa using g
  rw[aj g];obtain⟨F1,hA,Y⟩:=KF.co f;refine⟨_,rfl,_,hB.aE rfl,⟨(Hh hA c ag).mono ?_⟩⟩;rintro e w1 ⟨⟨n,rfl⟩,hT⟩;exact⟨_,rfl,rfl,KF.loose (Y _ _ hT)⟩
 ·have g:¬bZ=1:=by simpa using g
  have g1:bZ=2:=by simpa using g1
  rw[af g,aj g1];obtain⟨F1,hA,Y⟩:=KF.st f;refine⟨_,rfl,_,hB.aE rfl,⟨(OJ hA c).mono ?_⟩⟩;rintro e w1 ⟨rfl,hT⟩;exact⟨_,_,rfl,rfl,KF.loose (Y _ _ hT)⟩
 have g:¬bZ=1:=by simpa using g
 have g1:¬bZ=2:=by simpa using g1
 rw[af g,af g1]
 dsimp only
 have second:∀(k2:K) (t:World),ai (KO b) W t F k2->aU Tryz.prog rI C6 (HL (aa ⟨b,0,ah⟩)) t (IW λe w'=>e=Z (.tuple #[])/\ai (KO b) W w' F ((gP k2.ir).foldl gZ k2)):=by
  intro k2 t h2;refine aU.mk ?_;rw[afx];obtain⟨q2,P⟩:=KO.fix h2;obtain⟨F2,z,_⟩:=KF.ir P;refine⟨_,rfl,_,(KF.ay P).aE rfl,⟨(Jk z).mono ?_⟩⟩;rintro e L ⟨p,d,rfl,D⟩;have hS:ai (aF (KO b) (Ls 3)) W L F (k2,(p,d,gP k2.ir)):=h2.add D.U (G:=bf p) ⟨λ_=>bp,D.S⟩ D.F;have Q:(gP k2.ir).length<=16:=vg ..;refine⟨_,_,_,rfl,⟨bO bu (M:=rI) (σ:=Nat) (λi=>HM (aa ⟨b,0,ah⟩) p (gP k2.ir).length d ((gP k2.ir).length:Int) (i:Int)) (λi w'=>i<=(gP k2.ir).length/\ai (aF (KO b) (Ls 3)) W w' F (((gP k2.ir).take i).foldl gZ k2,(p,d,gP k2.ir))) (λi _=>(gP k2.ir).length-i) 0 ⟨rfl,rfl,rfl,rfl,trivial⟩ ⟨cB _,hS⟩ ?_⟩⟩;rintro i X ⟨hi,A⟩;rw[afz];refine⟨λg=>?_,λg=>?_⟩
  ·have g:=aL g;have u:i<(gP k2.ir).length:=by omega
   obtain⟨a,ha,m⟩:=(AU A).cv u;obtain⟨F5,E,x,H,J⟩:=ai.Jd C h0 A;refine⟨⟨by omega,by omega⟩,a,ha,_,m,⟨(RA x H (ai.same E) _).mono ?_⟩⟩;rintro e R ⟨rfl,x⟩;have h5:=J _ _ x;refine⟨rfl,i+1,⟨rfl,rfl,rfl,by rw[aP (by omega)];rfl,trivial⟩,⟨by omega,?_⟩,by omega⟩;rw[List.take_add_one,cO u,mH];exact h5
  ·have g:=aT g;rw[rO (by omega)]at A;exact⟨rfl,A.drop⟩
 have tail:∀(t:World),ai (KF b q) W t F k->∃a,(aa ⟨b,0,ah⟩:Option Addr)=aa a/\Wr t (a.add 16) [.int .u64 (mi (wi k.on c))] λw'=>∃a,(aa ⟨b,0,ah⟩:Option Addr)=aa a/\Wr w' (a.add 17) [.int .u64 (mi (wi k.ac c))] λw'=>∃a,(aa ⟨b,0,ah⟩:Option Addr)=aa a/\∃p,w'.cell? ((a.add 0).add 0)=aa (.pointer p)/\Call Tryz.prog 181 [.pointer p] w' λe w'=>∃p n d,e=Z (.slice p n d)/\Cut (WP Tryz.prog (rI).N (bh zZ) (xV (aa ⟨b,0,ah⟩) p n d (n:Int) 0) w' (AM λe w'=>e=Z (.tuple #[])/\ai (KO b) W w' F ((gP (((gT k.th).foldl iz {k with on:=wi k.on c,ac:=wi k.ac c}).ir)).foldl gZ ((gT k.th).foldl iz {k with on:=wi k.on c,ac:=wi k.ac c})))):=by
  intro t f;refine⟨_,rfl,(KF.ay f).wr (k:=16) (by simp[mS]) λL al=>?_⟩;have h3:=KF.row f (k.n,wi k.on c,k.ac,k.now,k.lim) rfl al;refine⟨_,rfl,(KF.ay h3).wr (k:=17) (by simp[mS]) λX am=>?_⟩;have h4:=KF.row h3 (k.n,wi k.on c,wi k.ac c,k.now,k.lim) rfl am;obtain⟨F2,z,_⟩:=KF.th h4;refine⟨_,rfl,_,(KF.ay h4).aE rfl,⟨(Um z).mono ?_⟩⟩;rintro e R ⟨p,d,rfl,D⟩;have hS:ai (aF (KO b) (Ls 3)) W R F ({k with on:=wi k.on c,ac:=wi k.ac c},(p,d,gT k.th)):=(KF.loose h4).add D.U (G:=bf p) ⟨λ_=>bp,D.S⟩ D.F;have Q:(gT k.th).length<=32:=agM z;refine⟨_,_,_,rfl,⟨bO bu (M:=rI) (σ:=Nat) (λi=>xV (aa ⟨b,0,ah⟩) p (gT k.th).length d ((gT k.th).length:Int) (i:Int)) (λi w'=>i<=(gT k.th).length/\ai (aF (KO b) (Ls 3)) W w' F (((gT k.th).take i).foldl iz {k with on:=wi k.on c,ac:=wi k.ac c},(p,d,gT k.th))) (λi _=>(gT k.th).length-i) 0 ⟨rfl,rfl,rfl,rfl,trivial⟩ ⟨cB _,hS⟩ ?_⟩⟩;rintro i w6 ⟨hi,B⟩;rw[afy];refine⟨λg=>?_,λg=>?_⟩
  ·have g:=aL g;have u:i<(gT k.th).length:=by omega
   obtain⟨a,ha,m⟩:=(AU B).cv u;obtain⟨F5,E,x,H,J⟩:=ai.Jd C h0 B;refine⟨⟨by omega,by omega⟩,a,ha,_,m,⟨(RE x H (ai.same E) _).mono ?_⟩⟩;rintro e w7 ⟨rfl,ap⟩;have h7:=J _ _ ap;refine⟨rfl,i+1,⟨rfl,rfl,rfl,by rw[aP (by omega)];rfl,trivial⟩,⟨by omega,?_⟩,by omega⟩;rw[List.take_add_one,cO u,mH];exact h7
  ·have g:=aT g;rw[rO (by omega)]at B;exact second _ _ B.drop
 intro w1 q1 q2 q3 q4;replace f:=f.ak (av.same no q1 q2 q3 q4);replace hB:=KF.ay f;refine⟨_,rfl,_,hB.cell rfl,_,rfl,_,hB.cell rfl,?_,?_⟩
 ·refine⟨λt O=>?_⟩;replace f:=f.ak (O.ak no);have s:=KF.ay f;refine⟨s.cell rfl,s.cell rfl,?_,?_⟩
  ·refine⟨(qW k.on (l:=[c]) (p:=aa ⟨w1.heap.size,0,ah⟩) (c:=1) (λj v y=>⟨_,rfl,O.aK.cell y⟩) (by simp)).mono ?_⟩;rintro e L ⟨rfl,rfl⟩;refine⟨_,rfl,s.cell rfl,⟨λX T=>?_⟩⟩;replace f:=f.ak (T.ak no);have V:=KF.ay f;refine⟨V.cell rfl,V.cell rfl,⟨(qW k.ac (l:=[c]) (p:=aa ⟨L.heap.size,0,ah⟩) (c:=1) (λj v y=>⟨_,rfl,T.aK.cell y⟩) (by simp)).mono ?_⟩⟩;rintro e R ⟨rfl,rfl⟩;exact⟨_,rfl,tail _ f⟩
  ·refine⟨λL o=>?_⟩;replace f:=f.ak (o.ak no);have r:=KF.ay f;refine⟨r.cell rfl,r.cell rfl,⟨(qW k.on (l:=[c]) (p:=aa ⟨w1.heap.size,0,ah⟩) (c:=1) (λj v y=>⟨_,rfl,(O.aK.ak (o.ak no) (λh=>h)).cell y⟩) (by simp)).mono ?_⟩⟩;rintro e X ⟨rfl,rfl⟩;refine⟨_,rfl,r.cell rfl,⟨(qW k.ac (l:=[c]) (p:=aa ⟨t.heap.size,0,ah⟩) (c:=1) (λj v y=>⟨_,rfl,o.aK.cell y⟩) (by simp)).mono ?_⟩⟩;rintro e R ⟨rfl,rfl⟩;exact⟨_,rfl,tail _ f⟩
 ·refine⟨λt O=>?_⟩;replace f:=f.ak (O.ak no);have s:=KF.ay f;refine⟨s.cell rfl,s.cell rfl,⟨λL o=>?_⟩⟩;replace f:=f.ak (o.ak no);have r:=KF.ay f;refine⟨r.cell rfl,r.cell rfl,⟨(qW k.on (l:=[c]) (p:=aa ⟨t.heap.size,0,ah⟩) (c:=1) (λj v y=>⟨_,rfl,o.aK.cell y⟩) (by simp)).mono ?_⟩⟩;rintro e X ⟨rfl,rfl⟩;refine⟨_,rfl,r.cell rfl,⟨(qW k.ac (l:=[c]) (p:=aa ⟨w1.heap.size,0,ah⟩) (c:=1) (λj v y=>⟨_,rfl,(O.aK.ak (o.ak no) (λh=>h)).cell y⟩) (by simp)).mono ?_⟩⟩;rintro e R ⟨rfl,rfl⟩;exact⟨_,rfl,tail _ f⟩
theorem aai (t:Tab W) (R:¬F 0) (h:ai (KO b) W w F k) (c ax:Int):Cx 360 #[pt b,I c,I ax] w λe w'=>e=Z (.bool (tH k))/\ai (KO b) W w' F (nD k c ax):=by
 obtain⟨q,f⟩:=KO.fix h;have hB:=KF.ay f;obtain⟨F1,hA,_⟩:=KF.so f;refine akZ ?_;unfold tH nD;refine⟨_,rfl,_,hB.aE rfl,⟨(EA hA).mono ?_⟩⟩;rintro e w1 ⟨rfl,rfl⟩;refine⟨_,rfl,λg=>?_,λg=>?_⟩
 ·have g:k.sp.1=0:=by simpa using g
  have T:(!(k.sp.1==0)&&iU k.sp)=ae:=by rw[g];rfl
  rw[aj g,T];intro L V X Y q4;replace f:=f.ak (av.same no V X Y q4);replace hB:=KF.ay f;refine⟨_,rfl,_,hB.aE rfl,_,rfl,_,hB.cell rfl,⟨λN O=>?_⟩⟩;replace f:=f.ak (O.ak no);replace hB:=KF.ay f;refine⟨hB.cell rfl,hB.aE rfl,⟨(qW k.ac (l:=[c]) (p:=aa ⟨L.heap.size,0,ah⟩) (c:=1) (λj v hv=>⟨_,rfl,O.aK.cell hv⟩) (by simp)).mono ?_⟩⟩;rintro e w4 ⟨rfl,rfl⟩;refine⟨_,rfl,hB.aE rfl,⟨(Em (wi k.ac c) ax _).mono ?_⟩⟩;rintro e w5 ⟨rfl,rfl⟩;obtain⟨F2,x,y⟩:=KF.so f;refine⟨_,rfl,hB.aE rfl,⟨(VU x _).mono ?_⟩⟩;rintro e w6 ⟨rfl,z⟩;exact⟨_,rfl,rfl,KF.loose (y _ _ z)⟩
 ·have g:¬k.sp.1=0:=by
   intro hh;rw[hh]at g;exact absurd g (by decide)
  have e0:(!(k.sp.1==0))=ag:=by simpa using g
  rw[af g,e0,dR];refine⟨_,rfl,_,hB.aE rfl,⟨(adk hA).mono ?_⟩⟩;rintro e L ⟨rfl,A⟩;replace f:=f.ak A;replace hB:=KF.ay f;refine⟨_,rfl,λo=>?_,λo=>?_⟩
  ·have o:iU k.sp=ae:=by simpa using o
   rw[o,af (by decide)];exact⟨rfl,KF.loose f⟩
  ·have o:iU k.sp=ag:=by simpa using o
   rw[o,aj rfl]
   dsimp only
   obtain⟨F3,hR,_⟩:=KF.rt f;refine⟨_,rfl,_,hB.aE rfl,⟨(SO hR c).mono ?_⟩⟩;rintro e N ⟨p,d,rfl,B⟩;have hS:ai (aF (KO b) (Ls 3)) W N F (k,(p,d,iQ k.rt c)):=(KF.loose f).add B.U (G:=bf p) ⟨λ_=>bp,B.S⟩ B.F;have P:(iQ k.rt c).length<=16:=vg ..;refine⟨_,_,_,rfl,⟨bO bu (M:=wT) (σ:=Nat) (λi=>HQ (aa ⟨b,0,ah⟩) c p (iQ k.rt c).length d ((iQ k.rt c).length:Int) (i:Int)) (λi w'=>i<=(iQ k.rt c).length/\ai (aF (KO b) (Ls 3)) W w' F (((iQ k.rt c).take i).foldl (λk n=>iw k n c) k,(p,d,iQ k.rt c))) (λi _=>(iQ k.rt c).length-i) 0 ⟨rfl,rfl,rfl,rfl,rfl,trivial⟩ ⟨cB _,hS⟩ ?_⟩⟩;rintro i w4 ⟨hi,m⟩;rw[afG];refine⟨λg=>?_,λg=>aU.mk ?_⟩
   ·have g:=aL g;have u:i<(iQ k.rt c).length:=by omega
    obtain⟨a,ha,r⟩:=(AU m).cv u;obtain⟨F5,C,s,D,E⟩:=ai.Jd t R m;refine⟨⟨by omega,by omega⟩,a,ha,_,r,⟨(I4 s D (ai.same C) _ _).mono ?_⟩⟩;rintro e w5 ⟨rfl,s⟩;have h5:=E _ _ s;refine⟨rfl,i+1,⟨rfl,rfl,rfl,rfl,by rw[aP (by omega)];rfl,trivial⟩,⟨by omega,?_⟩,by omega⟩;rw[List.take_add_one,cO u,mH];exact h5
   ·have g:=aT g;rw[rO (by omega)]at m;rw[afF];obtain⟨q6,Q⟩:=KO.fix m.drop;obtain⟨F6,H,J⟩:=KF.so Q;refine⟨_,rfl,_,(KF.ay Q).aE rfl,⟨(YX H).mono ?_⟩⟩;rintro e w7 ⟨rfl,z⟩;exact⟨_,rfl,rfl,KF.loose (J _ _ z)⟩
theorem aaj (f:Tab W) (t:¬F 0) (h:ai (KO b) W w F k) (bZ c ax:Int):Cx 300 #[pt b,I bZ,I c,I ax] w λe w'=>e=Z (.bool (iO k bZ c ax))/\ai (KO b) W w' F (fO k bZ c ax):=by
 obtain⟨q,i⟩:=KO.fix h;have hB:=KF.ay i;refine aj9 ?_;have bne:∀x:Int,(x !=0)=decide (x≠0):=λx=>by by_cases y:x=0<;>simp[y]
 refine⟨λg=>?_,λg=>⟨λg1=>?_,λg1=>⟨λj=>?_,λj=>⟨λl=>?_,λl=>⟨λm=>?_,λm=>⟨λo=>?_,λo=>⟨λp=>?_,λp=>⟨λr=>?_,λr=>?_⟩⟩⟩⟩⟩⟩⟩⟩
 ·have g:bZ=1:=by simpa using g
  subst g;refine⟨_,rfl,_,hB.cell rfl,⟨(Em k.ac c w).mono ?_⟩⟩;rintro e w1 ⟨rfl,rfl⟩;exact⟨_,rfl,_,rfl,hB.wr (k:=17) (by simp[mS]) λz s=>⟨rfl,KF.loose (KF.row i (k.n,k.on,ls k.ac c,k.now,k.lim) rfl s)⟩⟩
 ·have g1:bZ=2:=by simpa using g1
  subst g1;refine⟨(aab f t h c).mono ?_⟩;rintro e w1 ⟨rfl,a⟩;exact⟨_,rfl,rfl,a⟩
 ·have j:bZ=3:=by simpa using j
  subst j;obtain⟨F1,hA,d⟩:=KF.tm i;refine⟨_,rfl,_,hB.aE rfl,⟨(agO hA c ax).mono ?_⟩⟩;rintro e w1 ⟨rfl,a⟩;exact⟨_,_,rfl,by rw[bne];rfl,KF.loose (d _ _ a)⟩
 ·have l:bZ=4:=by simpa using l
  subst l;obtain⟨F1,hA,d⟩:=KF.wk i;refine⟨_,rfl,_,hB.aE rfl,⟨(amk hA c).mono ?_⟩⟩;rintro e w1 ⟨rfl,a⟩;exact⟨_,_,rfl,by rw[bne];rfl,KF.loose (d _ _ a)⟩
 ·have m:bZ=5:=by simpa using m
  subst m;obtain⟨F1,hA,d⟩:=KF.ca i;refine⟨_,rfl,_,hB.aE rfl,⟨(Xt hA c ax).mono ?_⟩⟩;rintro e w1 ⟨rfl,a⟩;exact⟨_,_,rfl,by rw[bne];rfl,KF.loose (d _ _ a)⟩
 ·have o:bZ=6:=by simpa using o
  subst o;refine⟨(aai f t h c ax).mono ?_⟩;rintro e w1 ⟨rfl,a⟩;exact⟨_,rfl,rfl,a⟩
 ·have p:bZ=7:=by simpa using p
  subst p;obtain⟨F1,hA,d⟩:=KF.st i;refine⟨_,rfl,_,hB.aE rfl,⟨(OJ hA c).mono ?_⟩⟩;rintro e w1 ⟨rfl,a⟩;exact⟨_,_,rfl,rfl,KF.loose (d _ _ a)⟩
 ·have r:bZ=8:=by simpa using r
  subst r;obtain⟨F1,cK,hA,d⟩:=KF.sc i;refine⟨_,rfl,_,hB.aE rfl,⟨(aeg hA c ax).mono ?_⟩⟩;rintro e w1 ⟨rfl,a⟩;exact⟨_,rfl,rfl,KF.loose (d _ _ a)⟩
 ·have A:iO k bZ c ax=ag:=by
   unfold iO;simp only[beq_eq_false_iff_ne,ne_eq]at g g1 j l m o;rw[af g,af g1,af j,af l,af m,af o]
  have B:fO k bZ c ax={k with on:=ls k.on c,co:=iK k.co c ae}:=by
   unfold fO;simp only[beq_eq_false_iff_ne,ne_eq]at g g1 j l m o p r;rw[af g,af g1,af j,af l,af m,af o,af p,af r]
  rw[A,B];refine⟨_,rfl,_,hB.cell rfl,⟨(Em k.on c w).mono ?_⟩⟩;rintro e w1 ⟨rfl,rfl⟩;refine⟨_,rfl,_,rfl,hB.wr (k:=16) (by simp[mS]) λz s=>?_⟩;have u:=KF.row i (k.n,ls k.on c,k.ac,k.now,k.lim) rfl s;obtain⟨F1,hA,d⟩:=KF.co u;refine⟨_,rfl,_,(KF.ay u).aE rfl,⟨(Hh hA c ae).mono ?_⟩⟩;rintro e C ⟨⟨n,rfl⟩,a⟩;exact⟨_,rfl,rfl,KF.loose (d _ _ a)⟩
theorem aaC (a:Tab W) (n:¬F 0) (h:ai (KO b) W w F k) (s:Int×Bool×Bool) (c ax:Int):Cx 209 #[pt b,.agg #[I s.1,.bool s.2.1,.bool s.2.2],I c,I ax] w λe w'=>e=Z (.bool (qf k s c ax))/\ai (KO b) W w' F (fm k s c ax):=by
 refine aiM ?_;refine⟨λw1 o=>?_⟩;have j:=h.ak (o.ak no);have f:=o.aK;obtain⟨q,l⟩:=KO.fix j;have hB:=KF.ay l;obtain⟨F1,hA,_⟩:=KF.dk l;unfold qf fm;refine⟨_,rfl,_,hB.aE rfl,⟨(P7 hA).mono ?_⟩⟩;rintro e t ⟨rfl,rfl⟩;refine⟨_,rfl,_,f.cell rfl,λg=>⟨_,f.cell rfl,⟨(aaH j _ _ c).mono ?_⟩⟩,λg=>⟨_,f.cell rfl,λg1=>?_,λg1=>⟨λi=>⟨_,f.cell rfl,⟨(Z8 a n j _ c).mono ?_⟩⟩,λi=>⟨_,f.cell rfl,⟨(aaj a n j _ c ax).mono ?_⟩⟩⟩⟩⟩
 ·have g:s.2.1=ag:=g;rw[aj g,aj g];rintro e m ⟨rfl,d⟩;exact⟨rfl,rfl,d⟩
 all_goals have g:¬s.2.1=ag:=by simpa using g
 all_goals rw[af g,af g]
 ·have g1:s.1=0:=by simpa using g1
  rw[aj g1,aj g1];obtain⟨F2,p,r⟩:=KF.ga l;refine⟨_,rfl,_,hB.aE rfl,⟨(Zn p).mono ?_⟩⟩;rintro e m ⟨rfl,d⟩;exact⟨_,rfl,by rfl,KF.loose (r _ _ d)⟩
 all_goals have g1:¬s.1=0:=by simpa using g1
 all_goals rw[af g1,af g1]
 ·rw[aj i,aj i];rintro e m ⟨rfl,d⟩;exact⟨rfl,rfl,d⟩
 ·rw[af (by rw[i];decide),af (by rw[i];decide)];rintro e m ⟨rfl,d⟩;exact⟨_,rfl,rfl,d⟩
theorem aaG (f:Tab W) (G:¬F 0) (h:ai (KO b) W w F k) (ax:Int):Cx 119 #[pt b,I ax] w (fg (KO b) W F (jH k ax) (FM k ax)):=by
 obtain⟨q,C⟩:=KO.fix h;have hB:=KF.ay C;obtain⟨F1,hA,H⟩:=KF.dk C;refine aho ?_;refine⟨_,rfl,_,hB.aE rfl,⟨(P4 hA).mono ?_⟩⟩;rintro e w1 ⟨rfl,rfl⟩;refine⟨_,rfl,_,rfl,_,hB.aE rfl,⟨(Zx hA).mono ?_⟩⟩;rintro e D ⟨rfl,J⟩;have L:=KF.loose (H _ _ J);refine⟨_,_,_,_,rfl,⟨λM E=>?_⟩⟩;have d:ai (aF (KO b) (Lb D.heap.size 303)) W M F ({k with dk:=sk k.dk},[I 0,.bool ae,.bool ae]):=L.add (E.ak no) (Rw.new E rfl) (λi hi=>bF hi.symm);generalize D.heap.size=p at d⊢;refine mT (vs:=[I (jy k.dk).1.1,.bool (jy k.dk).1.2.1,.bool (jy k.dk).1.2.2]) d (by rfl) λS d=>?_;have m:=cL d
 have last:∀(n:World),ai (KO b) W n F (gC k ax)->aU Tryz.prog wP zY (Au (aa ⟨b,0,ah⟩) (jc k.dk)) n (AL (fg (KO b) W F (jH k ax) (FM k ax))):=by
  intro n N;refine aU.mk ?_;rw[aeW];obtain⟨O,a⟩:=KO.fix N;obtain⟨F5,c,_⟩:=KF.dk a;unfold jH FM;refine⟨_,rfl,_,(KF.ay a).aE rfl,⟨(IH c).mono ?_⟩⟩;rintro e P ⟨rfl,o⟩;replace a:=a.ak o;refine⟨_,rfl,λg=>?_,λg=>?_⟩
  ·have g:nA (gC k ax).dk=ae:=by simpa using g
   rw[g];exact fg.nil (KF.loose a)
  ·have g:nA (gC k ax).dk=ag:=by simpa using g
   rw[g];obtain⟨F7,r,s⟩:=KF.dk a;refine⟨_,rfl,_,(KF.ay a).aE rfl,⟨(Zu r g).mono ?_⟩⟩;rintro e T ⟨rfl,t⟩;have j:=s _ _ t;obtain⟨F8,Q,R⟩:=KF.ga j;refine⟨_,_,rfl,_,rfl,_,(KF.ay j).aE rfl,⟨(Y6 Q).mono ?_⟩⟩;rintro e U ⟨rfl,u⟩;refine⟨_,rfl,⟨λV y=>fg.one (KF.loose (R _ _ u)) y⟩⟩
 refine⟨_,m.cell rfl,λg=>?_,λg=>?_⟩
 ·have g:(jy k.dk).1.2.2=ae:=by simpa using g
  refine⟨_,m.cell rfl,_,m.cell rfl,_,m.cell rfl,⟨(aaC f G d.drop (jy k.dk).1 (jc k.dk) ax).mono ?_⟩⟩;rintro e n ⟨rfl,l⟩;refine⟨_,rfl,λz=>?_,λz=>?_⟩
  ·obtain⟨O,a⟩:=KO.fix l;obtain⟨F5,c,A⟩:=KF.dk a;refine⟨_,rfl,_,(KF.ay a).aE rfl,⟨(Zs c).mono ?_⟩⟩;rintro e P ⟨⟨x,rfl⟩,B⟩;refine⟨_,rfl,last _ ?_⟩;have:=KF.loose (A _ _ B);unfold gC
   dsimp only
   rw[af (by rw[g];decide),aj z];exact this
  ·refine last _ ?_;unfold gC
   dsimp only
   rw[af (by rw[g];decide),af (by rw[z];decide)];exact l
 ·have g:(jy k.dk).1.2.2=ag:=by simpa using g
  refine last _ ?_;unfold gC
  dsimp only
  rw[aj g];exact d.drop
end
theorem I1 {gX:Int} {g p p1:Nat} {w:World} {R:Ending->World->Prop} (a:jx Tryz.prog g=ag) (c:gX=0->Cx g #[pt p,pt p1] w λe w'=>e=Z (.tuple #[])/\R (.returned (I gX)) w') (d:gX≠0->R (.returned (I gX)) w):Cx 135 #[I gX,.func (.func g) #[] #[pt p,pt p1]] w R:=by
 refine ahE ?_;refine⟨λh=>?_,λh=>d (by simpa using h)⟩;rw[a];exact⟨c (by simpa using h)⟩
section
variable {b:Nat} {W w:World} {F:Fp} {k:K} {p p1:Nat} {T T1:TypeId} {e:cu}
theorem Z4 (a:Tab W) (g:¬F 0) (s:1<=k.n) (h:ai (aF (aF (KO b) (Lb p T)) (Lb p1 T1)) W w F ((k,[pt b]),lg e)):Cx 137 #[pt p,pt p1] w λd w'=>d=Z (.tuple #[])/\ai (KO b) W w' F (iw k e.2.2.1 (eH e.2.2.1 k.n)):=by
 refine ahG ?_;intro w1 i j l m;replace h:=h.ak (av.same no i j l m);obtain⟨q,F1,_,o,_⟩:=zA.fix h;have f:=kz h;have c:=cL h;refine⟨_,f.cm rfl,_,c.cell rfl,_,c.cell rfl,_,f.cm rfl,_,rfl,_,(KF.ay o).cell rfl,(show((k.n:Nat):Int)≠0 by omega),⟨(I4 a g h.drop.drop e.2.2.1 _).mono ?_⟩⟩;rintro d t ⟨rfl,r⟩;exact⟨rfl,rfl,r⟩
theorem Z5 (h:ai (aF (aF (KO b) (Lb p T)) (Lb p1 T1)) W w F ((k,[pt b]),lg e)):Cx 140 #[pt p,pt p1] w λc w'=>c=Z (.tuple #[])/\ai (KO b) W w' F {k with rt:=qZ k.rt e.2.2.1}:=by
 refine ahJ ?_;intro w1 f g i j;replace h:=h.ak (av.same no f g i j);obtain⟨q,F1,_,d,l⟩:=zA.fix h;obtain⟨F2,hA,m⟩:=KF.rt d;have n:=kz h;have a:=cL h;refine⟨_,n.cm rfl,_,rfl,_,(KF.ay d).aE rfl,_,a.cell rfl,⟨(acd hA e.2.2.1).mono ?_⟩⟩;rintro c r ⟨rfl,o⟩;exact⟨_,rfl,rfl,(l _ _ (m _ _ o)).drop.drop⟩
theorem Z6 (a:Tab W) (f:¬F 0) (h:ai (aF (aF (KO b) (Lb p T)) (Lb p1 T1)) W w F ((k,[pt b]),lg e)):Cx 143 #[pt p,pt p1] w λd w'=>d=Z (.tuple #[])/\ai (KO b) W w' F (gZ k e.2.2.1):=by
 refine ahM ?_;have g:=kz h;have c:=cL h;refine⟨_,g.cm rfl,_,c.cell rfl,⟨(RA a f h.drop.drop e.2.2.1).mono ?_⟩⟩;rintro d j ⟨rfl,i⟩;exact⟨rfl,rfl,i⟩
theorem ado {s:ch} {n:Int} {m:BV} (h:mf s n m=0):0<=n:=by
 unfold mf at h;by_cases a:jz n
 ·rw[aj a]at h;cases h
 ·unfold jz at a;omega
theorem yu (s:Tab W) (A:¬F 0) (E:1<=k.n) (h:ai (KO b) W w F k) (e:cu):Cx 67 #[pt b,.agg (lg e).toArray] w λo w'=>o=Z (I (sh k e))/\ai (KO b) W w' F (pU k e):=by
 refine u67 ?_;refine⟨λw1 B=>⟨λG y=>?_⟩⟩;have a:ai (aF (aF (KO b) (Lb w.heap.size 23)) (Lb w1.heap.size 33)) W G F ((k,[pt b]),lg e):=(h.add (B.ak no) (Rw.new B rfl) (λi hi=>bF hi.symm)).add (y.ak no) (Rw.new y rfl) (λi hi=>bF hi.symm);generalize w.heap.size=p at a⊢;generalize w1.heap.size=p1 at a⊢;unfold sh pU;refine⟨_,(cL a).cell rfl,λg=>?_,λg=>⟨λg1=>?_,λg1=>⟨λc=>?_,λc=>⟨λf=>?_,λf=>⟨λr=>?_,λr=>?_⟩⟩⟩⟩⟩
 all_goals
  intro N H J L M;have a:=a.ak (av.same no H J L M);obtain⟨q,F1,_,C,t⟩:=zA.fix a;obtain⟨F2,hA,u⟩:=KF.ir C;have x:=kz a;have d:=cL a;have hB:=KF.ay C
 ·have g:e.1=12:=by simpa using g
  rw[aj g,aj g];refine⟨_,x.cm rfl,_,rfl,_,hB.aE rfl,_,d.cell rfl,_,d.cell rfl,⟨(adq hA e.2.2.1 e.2.2.2.1).mono ?_⟩⟩;rintro o z ⟨rfl,m⟩;have a:=t _ _ (u _ _ m);refine⟨_,rfl,⟨I1 (by kernel_rfl) (λl=>?_) (λl=>?_)⟩⟩
  ·refine(Z4 (k:={k with ir:=mV k.ir e.2.2.1 e.2.2.2.1}) s A E a).mono ?_;rintro o D ⟨rfl,j⟩;rw[aj l];rw[ot (ado l)]at j;exact⟨rfl,_,rfl,rfl,j⟩
  ·rw[af l];exact⟨_,rfl,rfl,a.drop.drop⟩
 ·have g:¬e.1=12:=by simpa using g
  have g1:e.1=13:=by simpa using g1
  rw[af g,aj g1,af g,aj g1];refine⟨_,x.cm rfl,_,rfl,_,hB.aE rfl,_,d.cell rfl,⟨(YW hA e.2.2.1).mono ?_⟩⟩;rintro o z ⟨rfl,m⟩;have a:=t _ _ (u _ _ m);refine⟨_,rfl,⟨I1 (by kernel_rfl) (λl=>?_) (λl=>?_)⟩⟩
  ·refine(Z5 a).mono ?_;rintro o D ⟨rfl,j⟩;rw[aj l];exact⟨rfl,_,rfl,rfl,j⟩
  ·rw[af l];exact⟨_,rfl,rfl,a.drop.drop⟩
 ·have g:¬e.1=12:=by simpa using g
  have g1:¬e.1=13:=by simpa using g1
  have c:e.1=14:=by simpa using c
  rw[af g,af g1,aj c,af g,af g1,aj c];refine⟨_,x.cm rfl,_,rfl,_,hB.aE rfl,_,d.cell rfl,_,d.cell rfl,⟨(Vp hA e.2.2.1 e.2.2.2.1).mono ?_⟩⟩;rintro o z ⟨rfl,m⟩;have a:=t _ _ (u _ _ m);refine⟨_,rfl,⟨I1 (by kernel_rfl) (λl=>?_) (λl=>?_)⟩⟩
  ·refine(Z6 s A a).mono ?_;rintro o D ⟨rfl,j⟩;rw[aj l];exact⟨rfl,_,rfl,rfl,j⟩
  ·rw[af l];exact⟨_,rfl,rfl,a.drop.drop⟩
 ·have g:¬e.1=12:=by simpa using g
  have g1:¬e.1=13:=by simpa using g1
  have c:¬e.1=14:=by simpa using c
  have f:e.1=15:=by simpa using f
  rw[af g,af g1,af c,aj f,af g,af g1,af c,aj f];refine⟨_,x.cm rfl,_,rfl,_,hB.aE rfl,_,d.cell rfl,⟨(ZD hA e.2.2.1).mono ?_⟩⟩;rintro o z ⟨rfl,m⟩;exact⟨_,rfl,rfl,(t _ _ (u _ _ m)).drop.drop⟩
 ·have g:¬e.1=12:=by simpa using g
  have g1:¬e.1=13:=by simpa using g1
  have c:¬e.1=14:=by simpa using c
  have f:¬e.1=15:=by simpa using f
  have r:e.1=16:=by simpa using r
  rw[af g,af g1,af c,af f,aj r,af g,af g1,af c,af f,aj r];refine⟨_,x.cm rfl,_,rfl,_,hB.aE rfl,_,d.cell rfl,⟨(alz hA e.2.2.1).mono ?_⟩⟩;rintro o z ⟨rfl,m⟩;exact⟨_,rfl,rfl,(t _ _ (u _ _ m)).drop.drop⟩
 ·have g:¬e.1=12:=by simpa using g
  have g1:¬e.1=13:=by simpa using g1
  have c:¬e.1=14:=by simpa using c
  have f:¬e.1=15:=by simpa using f
  have r:¬e.1=16:=by simpa using r
  rw[af g,af g1,af c,af f,af r,af g,af g1,af c,af f,af r];refine⟨_,x.cm rfl,_,rfl,_,hB.aE rfl,_,d.cell rfl,⟨(adi hA e.2.2.1).mono ?_⟩⟩;rintro o z ⟨rfl,m⟩;exact⟨_,rfl,rfl,(t _ _ (u _ _ m)).drop.drop⟩
end
theorem nX.at {p:Option Addr} {c n:Nat} {w:World} {F:Fp} (h:nX p c w F n) {i:Nat} (hi:i<n):∃a bi F1,p=aa a/\w.cell? (a.add (i*1))=aa (pt bi)/\pk bi w F1 ()/\∀w',ai (pk bi) w w' F1 ()->ai (nX p c) w w' F n:=by
 obtain⟨d,r,m⟩:=h;have g:i<d.length:=by omega
 obtain⟨G1,s,_⟩:=aF.left m;obtain⟨G2,t,k2⟩:=aF.right m;obtain⟨a,u,x⟩:=s.2.cells.cv (f:=iS) (l:=d) g;obtain⟨F1,y,_,z⟩:=Fam.at t g;refine⟨a,d[i].1,F1,u,x,y,λw' A=>?_⟩;have o:=k2 _ _ (z w' (d[i].1,()) A)
 have e:d.set i (d[i].1,())=d:=by
  apply de;intro j;rw[cJ];by_cases q:i=j
  ·subst q;simp[g]
  ·simp[q]
 simp only[e]at o;obtain⟨B,C,D⟩:=o;exact⟨B,⟨d,r,C⟩,D⟩
section
variable {b:Nat} {W w:World} {F:Fp} {k:K}
theorem aam (h:ai (KO b) W w F k) {i:Nat} (hi:i<k.n) (x:qk) (N:0<=x.1.cC/\x.1.cC<4) (t:Int):Cx 123 #[pt b,I (i:Int),.agg (fX x).toArray,I t] w λe w'=>e=Z (.tuple #[])/\ai (KO b) W w' F k:=by
 refine ahs ?_;refine⟨λw1 L=>?_⟩;have c:ai (aF (KO b) (Lb w.heap.size 226)) W w1 F (k,fX x):=h.add (L.ak no) (Rw.new L rfl) (λi hi=>bF hi.symm);generalize w.heap.size=p at c⊢;obtain⟨q,F1,_,M,O⟩:=KS.fix c;obtain⟨F2,hA,P⟩:=KF.co M;refine⟨_,rfl,_,(KF.ay M).aE rfl,⟨(XN hA (i:Int)).mono ?_⟩⟩;rintro e w2 ⟨⟨Q,R,n3,rfl⟩,S⟩;replace c:=O _ _ (P _ _ S);obtain⟨q2,F3,_,s,z⟩:=KS.fix c;obtain⟨F4,T,U⟩:=KF.IF s;obtain⟨a,bi,F5,V,X,Y,kV⟩:=T.at hi;refine⟨_,_,_,rfl,_,rfl,_,_,_,(KF.ay s).aE rfl,⟨by omega,(show((i:Nat):Int)<(k.n:Int) by omega)⟩,a,V,_,X,⟨(YC Y Q R).mono ?_⟩⟩;rintro e w3 ⟨⟨m1,m2,rfl⟩,A⟩;replace c:=z _ _ (U _ (kV _ A));have B:=cL c;refine⟨_,_,rfl,_,B.cell rfl,λg=>?_,λg=>?_⟩
 ·intro w4 q1 C q3 q4;replace c:=c.ak (av.same no q1 C q3 q4);have f:=cL c;obtain⟨q5,F6,_,d,l⟩:=KS.fix c;have u:=KF.ay d;refine⟨_,rfl,_,u.aE rfl,_,f.cell rfl,_,f.cell rfl,⟨(Ql w4).mono ?_⟩⟩;rintro e w5 ⟨⟨pt,rfl,hW⟩,m⟩;have y:=f.ak m (λh=>h);have D:=u.ak m (λh=>h);obtain⟨F7,E,G⟩:=KF.me (d.ak m);obtain⟨wi,H,J⟩:∃wi:Nat,wi<4/\x.1.cC=(wi:Int):=⟨x.1.cC.toNat,by omega,by omega⟩;have o:=K0 hW H (j:=2) (by omega);refine⟨_,_,_,rfl,y.cell rfl,y.cell rfl,D.aE rfl,⟨N.1,(show x.1.cC<((4:Nat):Int) by omega)⟩,pt,rfl,_,by rw[J,bQ];exact o,⟨(abn E hi _ t _).mono ?_⟩⟩;rintro e w6 ⟨⟨mm,rfl⟩,r⟩;exact⟨_,rfl,rfl,(l _ _ (G _ r)).drop⟩
 ·obtain⟨q5,F6,_,d,l⟩:=KS.fix c;obtain⟨F7,E,G⟩:=KF.me d;refine⟨_,rfl,_,(KF.ay d).aE rfl,⟨(abo E hi t m1).mono ?_⟩⟩;rintro e w6 ⟨⟨mm,rfl⟩,r⟩;exact⟨_,rfl,rfl,(l _ _ (G _ r)).drop⟩
theorem aaF (h:ai (KO b) W w F k) (n:Int):Cx 63 #[pt b,I n] w λe w'=>e=Z (I (FF k n))/\ai (KO b) W w' F (sJ k n):=by
 obtain⟨q,E⟩:=KO.fix h;have hB:=KF.ay E;refine u63 ?_;unfold FF sJ;refine⟨_,rfl,_,hB.cell rfl,⟨(I9 k.now n w).mono ?_⟩⟩;rintro e w1 ⟨rfl,rfl⟩;refine⟨_,_,rfl,λg=>?_,λg=>?_⟩
 ·have g:(bH k.now n).2≠0:=by simpa using g
  rw[af g,af g];exact⟨rfl,h⟩
 ·have g:(bH k.now n).2=0:=by simpa using g
  rw[aj g,aj g];refine⟨_,rfl,_,hB.cell rfl,⟨bO bu (M:=wX) (σ:=Nat) (λi=>H5 (aa ⟨b,0,ah⟩) n (bH k.now n).1 (k.n:Int) (i:Int)) (λi w'=>i<=k.n/\ai (KO b) W w' F k) (λi _=>k.n-i) 0 ⟨rfl,rfl,rfl,rfl,rfl,trivial⟩ ⟨cB _,h⟩ ?_⟩⟩;rintro i H ⟨hi,x⟩;obtain⟨J,a⟩:=KO.fix x;have f:=KF.ay a;rw[af2];refine⟨λg1=>?_,λg1=>aU.mk ?_⟩
  ·have g1:=aL g1;have l:i<k.n:=by omega
   obtain⟨F2,hA,L⟩:=KF.co a;have j:=hA.cC (i:Int);have y:=(KF.num a).2;refine⟨_,rfl,_,f.aE rfl,⟨(G7 hA (i:Int)).mono ?_⟩⟩;rintro e m ⟨⟨z,A,rfl⟩,o⟩;refine⟨_,_,_,_,_,_,_,rfl,⟨λB C=>?_⟩⟩;have d:ai (aF (KO b) (Lb m.heap.size 226)) W B F (k,_):=(x.ak o).add (C.ak no) (Rw.new C rfl) (λi hi=>bF hi.symm);generalize m.heap.size=p at d⊢;refine mT (vs:=fX (bg k.co (i:Int),z,A)) d (by rfl) λN d=>?_;have c:=cL d;refine⟨_,c.cell rfl,λO=>⟨_,c.cell rfl,_,c.cell rfl,_,c.cell rfl,_,c.cell rfl,_,c.cell rfl,_,c.cell rfl,⟨(aam d.drop l (bg k.co (i:Int),z,A) j n).mono ?_⟩⟩,λ_=>⟨i+1,⟨rfl,rfl,rfl,rfl,by rw[aP (by omega)];rfl,trivial⟩,⟨by omega,d.drop⟩,by omega⟩⟩;rintro e P ⟨rfl,r⟩;exact⟨rfl,i+1,⟨rfl,rfl,rfl,rfl,by rw[aP (by omega)];rfl,trivial⟩,⟨by omega,r⟩,by omega⟩
  ·rw[af1];refine⟨_,rfl,f.wr (k:=18) (by simp[mS]) λm G=>?_⟩;have D:=KF.row a (k.n,k.on,k.ac,(bH k.now n).1,k.lim) rfl G;obtain⟨F3,s,t⟩:=KF.tm D;refine⟨_,rfl,_,(KF.ay D).aE rfl,⟨(agC s _).mono ?_⟩⟩;rintro e B ⟨rfl,u⟩;exact⟨_,rfl,rfl,KF.loose (t _ _ u)⟩
theorem aaB (h:ai (KO b) W w F k) (c hi:Int):Cx 167 #[pt b,I c,I hi] w λe w'=>e=Z (I (Fu c hi))/\ai (KO b) W w' F k:=by
 obtain⟨q,d⟩:=KO.fix h;have hB:=KF.ay d;have l:=KF.num d;refine aia ?_;refine⟨_,rfl,q.gp,k.n,q.gc,hB.aE rfl,⟨bO bu (M:=BY) (σ:=Nat) (λi=>Hr c hi (if i=0 then 0 else Fu c hi) q.gp k.n q.gc (k.n:Int) (i:Int)) (λi w'=>i<=k.n/\ai (KF b q) W w' F k) (λi _=>k.n-i) 0 ⟨rfl,rfl,rfl,rfl,rfl,rfl,trivial⟩ ⟨cB _,d⟩ ?_⟩⟩;rintro i w1 ⟨o,m⟩;rw[ae4];refine⟨λg=>?_,λg=>?_⟩
 ·have g:=aL g;have f:i<k.n:=by omega
  obtain⟨F1,p,r⟩:=KF.IF m;obtain⟨a,bi,F5,s,t,u,x⟩:=p.at f;refine⟨⟨by omega,by omega⟩,a,s,_,t,⟨(YZ u c hi).mono ?_⟩⟩;rintro e y ⟨rfl,j⟩;exact⟨_,rfl,i+1,⟨rfl,rfl,by rw[af (Nat.succ_ne_zero i)];rfl,rfl,rfl,by rw[aP (by omega)];rfl,trivial⟩,⟨by omega,r _ (x _ j)⟩,by omega⟩
 ·have g:=aT g;rw[af (by omega)];exact⟨rfl,KF.loose m⟩
end
abbrev Rd (l:Nat):Fence:=nt.inRound l
theorem Xf {l n:Nat} {P:Program} {f:FuncId} {args:Array Value} {w:World} {R:Ending->World->Prop} (h:Calls P f args w R):CallsIn (Rd l) n P f args w R:=(callsIn_wide (n:=n)).2 h
def wy (o:Oper):Bool:=match o.op with
 | .defer _=>ae
 | _=>ag
theorem ab1 {o:Oper} (h:wy o=ag):∀c,o.op≠.defer c:=by
 intro c e;unfold wy at h;rw[e]at h;cases h
theorem adu {l n:Nat} {P:Program} {row:String} {args:Array Value} {w:World} {R:Value->World->Prop} (h:Rows P row args w R):RowsIn (Rd l) n P row args w R:=λc cs _=>
 let ⟨v,w',r,s⟩:=h c cs
 ⟨v,w',r,stepsIn_wide.2 s⟩
section
variable {l n:Nat} {P:Program}
theorem SX {o:Oper} {a:Act} {w:World} {next next':Act->World->Prop} {Q:Exit->Act->World->Prop} (hd:wy o=ag) (c:∀a w,next a w->next' a w) (h:o.wp P a w next Q):o.wpIn (Rd l) n P a w next' Q:=by
 refine⟨λ_ _=>trivial,?_⟩;rw[Oper.semAt_plain (Rd l) _ _ (ab1 hd)];unfold Oper.wp at h;generalize (execOp a.eval o).run P w=r at h
 cases r with
 | ok x w'=>
  cases x<;>simp only[Oper.upon,Oper.uponIn]at h⊢<;>
   first
    | exact c _ _ h
    | exact⟨λd=>absurd (show ae=ag from d) (by decide),Xf (Calls.mono h λe f b=>by cases e<;>first|exact c _ _ b|exact b)⟩
    | exact⟨λd=>absurd (show ae=ag from d) (by decide),adu (Rows.mono h λv f b=>c _ _ b)⟩
    | exact h.elim
 | halt x w'=>cases x<;>simp only[Oper.upon,Oper.uponIn]at h⊢<;>exact h
theorem Ji {ops:Array Oper} {Q:Exit->Act->World->Prop} (b:¬LetsOut Q):∀(os:List Oper) (a:Act) (w:World),os.all wy=ag->wpList P ops Q os a w->wpListIn (Rd l) n P ops Q os a w
 | [],a,w,_,h=>h
 | o::os,a,w,hd,h=>by
  simp only[List.all_cons,aY]at hd;unfold wpList at h;unfold wpListIn;split
  ·rename_i hw;rw[aj hw]at h;rcases h with h|h
   ·exact SX hd.1 (λa w k=>Ji b os a w hd.2 k) h
   ·exact absurd h.2 b
  ·rename_i hw;rw[af hw]at h;exact⟨λ_ _=>trivial,Ji b os _ _ hd.2 h⟩
theorem CN {ops:Array Oper} {Q:Exit->Act->World->Prop} {md:Region.Mode} (e:¬LetsOut Q) (hd:ops.toList.all wy=ag):∀(fuel:Nat) (b:Array Bool) (a:Act) (w:World),wpAny P md ops Q fuel b a w->wpAnyIn (Rd l) n P md ops Q fuel b a w
 | 0,b,a,w,h=>h
 | fuel+1,b,a,w,h=>by
  refine⟨h.1,λi hi=>?_⟩;have c:=h.2 i hi;unfold wpOp at c;unfold wpOpIn;split
  ·rename_i d;rw[d]at c;exact CN e hd fuel _ _ _ c
  ·rename_i o d;rw[d]at c;simp only at c
   have f:wy o=ag:=fL.1 hd o (by
    rw[<-Array.getElem?_toList]at d;exact List.mem_of_getElem? d)
   split
   ·rename_i hw;rw[aj hw]at c;rcases c with c|c
    ·exact SX f (λa w k=>CN e hd fuel _ a w k) c
    ·exact absurd c.2 e
   ·rename_i hw;rw[af hw]at c;exact⟨λ_ _=>trivial,CN e hd fuel _ _ _ c⟩
end
theorem RZ {N:Nat} {K:fe}:¬LetsOut (Jh N K):=λ⟨_,_,h⟩=>h
def o8:Mt->Code->Bool
 | _,.skip=>ag
 | M,.region id ops draw=>ops.toList.all wy&&(!draw||(AV M.alts id).isNone)&&!M.ex
 | M,.seq a b=>o8 M a&&o8 M b
 | M,.cond _ a b=>o8 M a&&o8 M b
 | M,.block _ c=>o8 M c
 | _,.exit _=>ag
 | _,.ret=>ag
 | _,_=>ae
theorem uC {P:Program} {M:Mt} (g:jg P=ag) {l n:Nat}:∀(c:Code) (E:Env) (w:World) (K:fe),o8 M c=ag->den P M c E w K->∀a,bV M.N E a->c.wpIn (Rd l) n P (Jh M.N K) a w
 | .skip,E,w,K,_,h,a,d=>wpIn_skip ⟨E,d,h⟩
 | .region id ops draw,E,w,K,hs,h,a,d=>by
  simp only[o8,aY]at hs;obtain⟨⟨hd,A⟩,C⟩:=hs
  cases draw with
  | false=>
   exact wpIn_region_list (Ji RZ _ _ _ hd (Ff g rfl (K:=λi w'=>K .fA (i.keep (kE M.keep id)) w') (λi p w' k q=>⟨_,k.keep _,q⟩) _ _ _ _ d h))
  | true=>
   have D:P.follows .mixedOrders=ag:=by
    simp only[jg,aY]at g;exact g.2
   simp only[den]at h
   have r:AV M.alts id=ah:=by
    cases F:AV M.alts id with
    | none=>rfl
    | some t=>rw[F]at A;cases A
   have u:M.ex=ae:=by simpa using C
   rw[r,u]at h
   exact wpIn_region_any D (CN RZ hd _ _ _ _ (drawTQ_any g rfl (K:=λi w'=>K .fA (i.keep (kE M.keep id)) w') d (λi p w' k q=>⟨_,k.keep _,q⟩) h))
 | .seq x y,E,w,K,hs,h,a,d=>by
  simp only[o8,aY]at hs;refine wpIn_seq (wpIn_mono (uC g x E w _ hs.1 h a d) (λex p w' j=>?_))
  cases ex with
  | normal=>
   obtain⟨i,m,e⟩:=j;simp only[j6,jQ]at e;split at e
   ·exact uC g y _ w' K hs.2 e.out p (m.keep _)
   ·exact uC g y i w' K hs.2 e p m
  | exit n=>exact j
  | ret=>exact j
  | _=>exact j.elim
 | .cond c x y,E,w,K,hs,h,a,d=>by
  simp only[o8,aY]at hs;obtain⟨b,o,h⟩:=Oi h;refine wpIn_cond (d.ev c _ o) ?_
  have B:bV M.N (yQ M E c b) a:=by
   unfold yQ;split
   ·exact d
   ·split
    ·exact d.TO _ b (by simpa [b7]using o)
    ·exact d
  cases b with
  | true=>exact uC g x _ w K hs.1 h a B
  | false=>exact uC g y _ w K hs.2 h a B
 | .block id c,E,w,K,hs,h,a,d=>by
  refine wpIn_block (wpIn_mono (uC g c E w _ hs h a d) (λex p w' j=>?_))
  cases ex with
  | normal=>obtain⟨i,m,e⟩:=j;exact⟨_,m.keep _,e⟩
  | exit n=>
   obtain⟨i,m,e⟩:=j;simp only[Exit.inBlock];simp only[bo]at e;by_cases z:n=id
   ·subst z;rw[aj rfl];rw[vy]at e;exact⟨_,m.keep _,e⟩
   ·rw[af z]
    have o:dJ n id=ae:=by
     cases o:dJ n id with
     | false=>rfl
     | true=>exact absurd (jn o) z
    rw[o]at e
    exact⟨i,m,e⟩
  | ret=>exact j
  | _=>exact j.elim
 | .exit id,E,w,K,_,h,a,d=>wpIn_exit ⟨E,d,h⟩
 | .ret,E,w,K,_,h,a,d=>wpIn_ret ⟨E,d,h⟩
 | .loop c,E,w,K,hs,h,a,d=>by cases hs
 | .rangeFunc f G x y,E,w,K,hs,h,a,d=>by cases hs
 | .scope c,E,w,K,hs,h,a,d=>by cases hs
 | .label l,E,w,K,hs,h,a,d=>by cases hs
 | .goto l,E,w,K,hs,h,a,d=>by cases hs
 | .refuse s,E,w,K,hs,h,a,d=>by cases hs
def Gl (B:Nat) (W a:World):Prop:=W.heap.size<=a.heap.size/\∀i,B<=i->i<W.heap.size->a.heap[i]?=W.heap[i]?
theorem amf {P:Program} {M:Mt} (hP:jg P=ag) {g:Operand} {p1 p2:Tmp} {assign body:Code} {Q:Exit->Act->World->Prop} {E:Env} {a:Act} (C:bV M.N E a) {w:World} {gf:Nat} {lb:Array Value} {m:Nat}
  (hg:a.eval g=.func (.func gf) #[] lb) (eg:∀args w,(callFunc gf args).run P w=.ok (.enter gf args) w) {α:Type} (enc:α->Value×Value) (I Ix:List α->World->Prop) (Sx:List α->α->Prop) (Fin:List α->Prop) (E1:α->Env)
  (D:p1<M.N) (F:p2<M.N) (G:o8 M assign=ag) (H:o8 M body=ag)
  (hA:∀x W,den P M assign ((E.put p1 (.v (enc x).1)).put p2 (.v (enc x).2)) W (λex K f=>match ex with|.fA=>f=W/\K=E1 x|_=>False))
  (hB:∀pre x W,I pre W->Sx pre x->w.heap.size+2<=W.heap.size->den P M body (E1 x) W (λex K f=>match ex with|.fA=>I (pre++[x]) f/\Gl w.heap.size W f|.ret=>Ix (pre++[x]) f/\Gl w.heap.size W f|.exit _=>False))
  (hI:∀pre W o,I pre W->I pre (W.putObj (w.heap.size+1) o)) (hIx:∀pre W o,Ix pre W->Ix pre (W.putObj (w.heap.size+1) o))
  (hI0:∀r,I [] ((w.alloc (.deferred (aa []))).alloc (.loop r)))
  (hseq:∀(J Jx:List α->World->Prop) (W:World),(∀pre W,J pre W->I pre W)->(∀pre x W1,J pre W1->Sx pre x->YieldAt nt m P (w.heap.size+1) #[(enc x).1,(enc x).2] W1 λe f=>(e=.returned (.bool ag)/\J (pre++[x]) f)∨(e=.returned (.bool ae)/\Jx (pre++[x]) f))->J [] W->
   CallsIn nt (m+1) P gf (#[.func (.yield (w.heap.size+1)) #[] #[]]++lb) W λe f=>(∃v,e=.returned v)/\((∃xs,Fin xs/\J xs f)∨∃pre,Jx pre f))
  (hdone:∀xs W,Fin xs->I xs W->W.heap[w.heap.size]?=aa (.deferred (aa []))->Q .normal {a with defers:=[{target:=.collected w.heap.size,args:=#[]}]} W)
  (hstop:∀pre W,Ix pre W->W.heap[w.heap.size]?=aa (.deferred (aa []))->Q .ret {a with defers:=[{target:=.collected w.heap.size,args:=#[]}]} W) :
  (Code.rangeFunc g #[p1,p2] assign body).wpIn nt (m+2) P Q a w:=by
 refine wpIn_rangeFunc λfn L=>?_;obtain⟨rec,b⟩:∃rec:LoopState->Option Code->Loop,rec=λst pe=>{state:=st,pending:=pe,fn,tmps:=a.tmps,params:=#[p1,p2],assign,body,defers:=w.heap.size}:=⟨_,rfl⟩;obtain⟨W1,i⟩:∃W1,(w.alloc (.deferred (aa []))).alloc (.loop (rec .ready ah))=W1:=⟨_,rfl⟩
 have O:W1.heap[w.heap.size+1]?=aa (.loop (rec .ready ah)):=by
  rw[<-i];have:=World.alloc_heap_new (w.alloc (.deferred (aa []))) (.loop (rec .ready ah));rwa [World.size_alloc]at this
 have R:W1.heap[w.heap.size]?=aa (.deferred (aa [])):=by
  rw[<-i];have h2:=World.alloc_heap_new w (.deferred (aa []));have h3:w.heap.size<(w.alloc (.deferred (aa []))).heap.size:=by rw[World.size_alloc];omega
  rw[<-h2];simp only[World.alloc,Array.getElem?_push];rw[af];simp only[World.alloc,Array.size_push]at h3⊢;omega
 have S:I [] W1:=by rw[<-i];exact hI0 _
 refine⟨w.heap.size+1,[{target:=.collected w.heap.size,args:=#[]}],W1,{target:=.fn (.func gf) lb,args:=#[.func (.yield (w.heap.size+1)) #[] #[]]},W1,gf,#[.func (.yield (w.heap.size+1)) #[] #[]]++lb,W1,?_,?_,?_,?_,λhh=>absurd (show ae=ag from hh) (by decide),?_⟩
 ·rw[<-i,b];exact run_enterLoop_outer _ _ _ _ _
 ·simp only[resolve,hg];simp[go_sem]
 ·intro f' al;exact trivial
 ·simp[invoke,go_sem,eg]
 ·refine CallsIn.mono (hseq (λpre W=>I pre W/\W.heap[w.heap.size+1]?=aa (.loop (rec .ready ah))/\W.heap[w.heap.size]?=aa (.deferred (aa [])))
   (λpre W=>Ix pre W/\W.heap[w.heap.size+1]?=aa (.loop (rec .done (aa .ret)))/\W.heap[w.heap.size]?=aa (.deferred (aa []))) W1 (λ_ _ h=>h.1) ?_ ⟨S,O,R⟩) ?_
  ·rintro pre x W ⟨hi,q,y⟩ hx;have T:w.heap.size+1<W.heap.size:=(xu.1 q).1;have hy:=run_yield (P:=P) (args:=#[(enc x).1,(enc x).2]) q (by rw[b];rfl);refine⟨_,_,_,_,hy,?_⟩;rw[b]at q⊢;refine roundIn_of_wpIn L ?_
   have U:bV M.N ((E.put p1 (.v (enc x).1)).put p2 (.v (enc x).2)) {tmps:=((#[p1,p2].zip #[(enc x).1,(enc x).2]).foldl (λt (p:Nat×Value)=>t.setIfInBounds p.1 p.2) a.tmps),defers:=[]}:=by
    have h1:=(C.put p1 D (.v (enc x).1)).put p2 F (.v (enc x).2);have h2:=h1.jX
    have e:((a.put (aa p1) (enc x).1).put (aa p2) (enc x).2)={tmps:=((#[p1,p2].zip #[(enc x).1,(enc x).2]).foldl (λt (p:Nat×Value)=>t.setIfInBounds p.1 p.2) a.tmps),defers:=[]}:=by
     have:=C.jX;simp[Act.put,this]
    rw[<-e];exact h1
   refine wpIn_mono (uC hP assign _ W _ G (hA x W) _ U) ?_;rintro ex a1 w1 j
   cases ex with
   | normal=>
    obtain⟨K,V,rfl,rfl⟩:=j;have hb:=run_beginRound (P:=P) q rfl;refine⟨_,hb,?_⟩;have z:(w1.putObj (w.heap.size+1) (.loop {rec .ready ah with state:=.busy})).heap[w.heap.size+1]?=aa (.loop {rec .ready ah with state:=.busy}):=World.putObj_heap_same T;have A:(w1.putObj (w.heap.size+1) (.loop {rec .ready ah with state:=.busy})).heap[w.heap.size]?=aa (.deferred (aa [])):=(zO (by omega)).trans y;rw[b]at z A;have k:(w1.putObj (w.heap.size+1) (.loop {rec .ready ah with state:=.busy})).heap.size=w1.heap.size:=by simp[World.putObj]
    rw[b]at k;refine wpIn_mono (uC hP body _ _ _ H (hB pre x _ (hI _ _ _ hi) hx (by rw[k];omega)) _ V) ?_
    have fin:∀(jump:Option Code) (W3:World),Gl w.heap.size (w1.putObj (w.heap.size+1) (.loop {rec .ready ah with state:=.busy})) W3->
      (Instr.endRound (w.heap.size+1) jump).run P W3=.ok (.bool jump.isNone) (W3.putObj (w.heap.size+1) (.loop (rec (if jump.isNone then .ready else .done) jump)))/\
      (W3.putObj (w.heap.size+1) (.loop (rec (if jump.isNone then .ready else .done) jump))).heap[w.heap.size+1]?=aa (.loop (rec (if jump.isNone then .ready else .done) jump))/\
      (W3.putObj (w.heap.size+1) (.loop (rec (if jump.isNone then .ready else .done) jump))).heap[w.heap.size]?=aa (.deferred (aa [])):=λjump W3 c=>by
     rw[b]at c⊢;have d:=(c.2 (w.heap.size+1) (by omega) (by rw[k];omega)).trans z;have X:=(c.2 w.heap.size (aX _) (by rw[k];omega)).trans A;have:=run_endRound (P:=P) jump d;exact⟨this,World.putObj_heap_same (xu.1 d).1,(zO (by omega)).trans X⟩
    rintro ex a3 W3 d
    cases ex with
    | normal=>
     obtain⟨_,_,u,c⟩:=d;obtain⟨Y,Z,e3⟩:=fin ah W3 (by rw[b];exact c)
     exact⟨_,_,Y,.inl ⟨rfl,hI _ _ _ u,by rw[Z,b];rfl,e3⟩⟩
    | ret=>
     obtain⟨_,_,u,c⟩:=d;obtain⟨Y,Z,e3⟩:=fin (aa .ret) W3 (by rw[b];exact c)
     exact⟨_,_,Y,.inr ⟨rfl,hIx _ _ _ u,by rw[Z,b];rfl,e3⟩⟩
    | exit n=>obtain⟨_,_,B⟩:=d;exact B.elim
    | _=>exact d.elim
   | exit n=>obtain⟨_,_,B⟩:=j;exact B.elim
   | ret=>obtain⟨_,_,B⟩:=j;exact B.elim
   | _=>exact j.elim
  ·have s:=C.jX;rintro e W2 ⟨⟨v,rfl⟩,(⟨xs,hS,hi,q,y⟩|⟨pre,hi,q,y⟩)⟩
   ·refine⟨ah,_,by have:=run_endLoop (P:=P) q (by rw[b];simp);rw[b]at this;exact this,?_⟩;have:=hdone xs _ hS (hI _ _ (.loop {rec .ready ah with state:=.exhausted}) hi) ((zO (by omega)).trans y);rw[b]at this;simpa [s]using this
   ·refine⟨aa .ret,_,by have:=run_endLoop (P:=P) q (by rw[b];simp);rw[b]at this;exact this,?_⟩;refine wpIn_ret ?_;have:=hstop pre _ (hIx _ _ (.loop {rec .done (aa .ret)with state:=.exhausted}) hi) ((zO (by omega)).trans y);rw[b]at this;simpa [s]using this
theorem Ka {P:Program} {N:Nat} {ops:Array Oper} {l:List Oper} {d:List Deferred} (j:jg P=ag) (k:ops.toList=l) {Q:Exit->Act->World->Prop} {K:Env->World->Prop}
  (m:∀E a w,bV N E a->K E w->Q .normal {a with defers:=d} w):∀(os:List Oper) (E:Env) (a:Act) (w:World),bV N E a->sF P N l os E w K->wpList P ops Q os {a with defers:=d} w
 | [],E,a,w,g,h=>m E a w g h
 | o::os,E,a,w,g,h=>by
  obtain⟨p,hs,h⟩:=DU k h;have e:=g.same hs;have c:∀(dst:Option Tmp) (v:Value),({a with defers:=d}:Act).put dst v={a.put dst v with defers:=d}:=λdst v=>by cases dst<;>rfl
  unfold wpList;rcases h with⟨h,b⟩|⟨h,b⟩
  ·have b:=b a (g.DS l o);unfold wantedAt at b;rw[aj b];refine .inl (SS j h {a with defers:=d} (e.reads o) _ Q (λs w' i=>?_));obtain⟨E2,f,i⟩:=EP i e;rw[c];exact Ka j k m os E2 _ w' f i
  ·have b:=b a (g.DS l o);unfold wantedAt at b;rw[af (by rw[b];simp)];obtain⟨E2,f,i⟩:=EP h e;rw[c];exact Ka j k m os E2 _ w f i
theorem Vl {N:Nat} {fn:Func} (c:fn.ntmps=N) {args:List Value} (hA:args.length<=N):bV N (jv 0 args) {tmps:=args.toArray++qz (fn.ntmps-args.toArray.size) undef,defers:=[]}:=by
 refine⟨by simp[c];omega,rfl,λt x d=>?_⟩;obtain⟨_,a⟩:=Gt args 0 t x d;simp only[Nat.sub_zero]at a;have b:t<args.length:=(dQ.1 a).1;rw[xt (by simpa using b)];simpa using a
theorem av.EO (W:World) (l:Nat) (o:Obj):av (λi=>i=l) W (W.putObj l o):=
 ⟨by simp[World.putObj],rfl,rfl,rfl,λi hi a=>zO (λe=>a e)⟩
def EK (Z:Env->World->Prop) (K:fe):fe:=λex E w=>match ex with
 | .fA=>Z E w
 | .ret=>K .ret E w
 | .exit n=>K (.exit n) E w
noncomputable def Gx:Code:=oH.sr.sr.sr.sr.sl.sl
noncomputable def Gv:Code:=match Mi with|.rangeFunc _ _ a _=>a|c=>c
noncomputable def CP:Code:=match Mi with|.rangeFunc _ _ _ b=>b|c=>c
noncomputable def CR:Code:=Wg
noncomputable def zU:List Oper:=match CR with|.seq (.region _ ops _) _=>ops.toList|_=>[]
noncomputable def Gw:Code:=.seq oH.sl (.seq oH.sr.sl (.seq oH.sr.sr.sl (.seq oH.sr.sr.sr.sl Gx)))
def xD:Mt:={lJ with keep:=lJ.keep.map λx=>if x.1=6 then(6,[1,2,5,8])else x}
theorem VP:oH=.seq oH.sl (.seq oH.sr.sl (.seq oH.sr.sr.sl (.seq oH.sr.sr.sr.sl (.seq (.seq Gx (.block 0 (.rangeFunc (.tmp 60) #[61,62] Gv CP))) CR)))):=by kernel_rfl
theorem VN:CR=.seq (.region 13 zU.toArray ae) .ret:=by kernel_rfl
theorem LW:o8 xD Gv=ag/\o8 xD CP=ag:=⟨by kernel_rfl,by kernel_rfl⟩
theorem tbp (g:Option Addr) (w:World) (Z:Env->World->Prop) (R:Ending->World->Prop):den Tryz.prog lJ Gw (jv 0 [(bB g)]) w (EK Z (j0 Tryz.prog Tryz.f168.results.toList R)) =
(aJ w [bB g] 23 λp w'=>aJ w' [aB bj 0] 3 λp_1 w'=>∀(f:World),pJ f=pJ w'->pK f=pK w'->pL f=pL w'->pM f=pM w'->∃p_2,bJ f p=aa (bB p_2)/\∃a,p_2=aa a/\∃p_3,bJ f (bP (bP a 0) 1)=aa (bB p_3)/\∃p_4,bJ f p=aa (bB p_4)/\∃a,p_4=aa a/\∃n,bJ f (bP a 17)=aa (aB jo n)/\Call Tryz.prog 267 [bB p_3,aB jo n] f λe w'=>∃n n_1,e=cN (xq #[aB bj n,aB bj n_1])/\∀(d:World),pJ d=pJ w'->pK d=pK w'->pL d=pL w'->pM d=pM w'->∃p_5,bJ d p=aa (bB p_5)/\∃a,p_5=aa a/\∃p_6,bJ d (bP (bP a 0) 1)=aa (bB p_6)/\∃p_7,bJ d p=aa (bB p_7)/\∃a_1,p_7=aa a_1/\∃n_2,bJ d (bP a_1 17)=aa (aB jo n_2)/\(Call Tryz.prog 268 [bB p_6,aB jo n_2] d λe w'=>∃n_3 n_4,e=cN (xq #[aB bj n_3,aB bj n_4])/\aJ w' [aB bj (0:Int)] 3 λp_8 w'=>bJ w' (bP a_1 17)=aa (aB jo n_2)/\bJ w' p=aa (bB p_7)/\bJ w' (bP (bP a 0) 1)=aa (bB p_6)/\bJ w' p=aa (bB p_5)/\Wr w' p_8 [aB bj n_3] λw'=>∀(b:World),pJ b=pJ w'->pK b=pK w'->pL b=pL w'->pM b=pM w'->∃p_9,bJ b p=aa (bB p_9)/\∃a,p_9=aa a/\∃p_10,bJ b (bP (bP a 0) 1)=aa (bB p_10)/\∃p_11,bJ b p=aa (bB p_11)/\∃a,p_11=aa a/\∃p_12,bJ b (bP (bP a 0) 1)=aa (bB p_12)/\∃n_5,bJ b p_8=aa (aB bj n_5)/\Call Tryz.prog 14 [bB p_10,aB bj n] b λe w'=>∃n_6,e=cN (aB bj n_6)/\bJ w' p_8=aa (aB bj n_5)/\bJ w' (bP (bP a 0) 1)=aa (bB p_12)/\bJ w' p=aa (bB p_11)/\Call Tryz.prog 14 [bB p_12,aB bj n_5] w' λe w'=>∃n_7,e=cN (aB bj n_7)/\(decide (aV bj (n_6-n_7)<(2:Int))=ag->Wr w' p_1 [aB bj (0:Int)] λw'=>∃n,bJ w' p_1=aa (aB bj n)/\R (cN (aB bj n)) w')/\(decide (aV bj (n_6-n_7)<(2:Int))=ae->∃p_13,bJ w' p=aa (bB p_13)/\∃a,p_13=aa a/\∃p_14,bJ w' (bP (bP a 0) 1)=aa (bB p_14)/\Call Tryz.prog 88 [bB p_14,aB bj n] w' λe w'=>∃p_15 n c,e=cN (rM p_15 n c)/\Call Tryz.prog 269 [rM p_15 n c] w' λe w'=>∃v,e=cN v/\Z [(1,SV.v (bB (aa p))),(2,SV.v (bB (aa p_1))),(5,SV.v (bB (aa p_8))),(8,SV.un),(60,SV.v v),(62,SV.un)] w'))/\aJ d [aB bj 0] 3 λp_8 w'=>bJ w' (bP a_1 17)=aa (aB jo n_2)/\bJ w' p=aa (bB p_7)/\bJ w' (bP (bP a 0) 1)=aa (bB p_6)/\bJ w' p=aa (bB p_5)/\Call Tryz.prog 268 [bB p_6,aB jo n_2] w' λe w'=>∃n_3 n_4,e=cN (xq #[aB bj n_3,aB bj n_4])/\Wr w' p_8 [aB bj n_3] λw'=>∀(b:World),pJ b=pJ w'->pK b=pK w'->pL b=pL w'->pM b=pM w'->∃p_9,bJ b p=aa (bB p_9)/\∃a,p_9=aa a/\∃p_10,bJ b (bP (bP a 0) 1)=aa (bB p_10)/\∃p_11,bJ b p=aa (bB p_11)/\∃a,p_11=aa a/\∃p_12,bJ b (bP (bP a 0) 1)=aa (bB p_12)/\∃n_5,bJ b p_8=aa (aB bj n_5)/\Call Tryz.prog 14 [bB p_10,aB bj n] b λe w'=>∃n_6,e=cN (aB bj n_6)/\bJ w' p_8=aa (aB bj n_5)/\bJ w' (bP (bP a 0) 1)=aa (bB p_12)/\bJ w' p=aa (bB p_11)/\Call Tryz.prog 14 [bB p_12,aB bj n_5] w' λe w'=>∃n_7,e=cN (aB bj n_7)/\(decide (aV bj (n_6-n_7)<(2:Int))=ag->Wr w' p_1 [aB bj (0:Int)] λw'=>∃n,bJ w' p_1=aa (aB bj n)/\R (cN (aB bj n)) w')/\(decide (aV bj (n_6-n_7)<(2:Int))=ae->∃p_13,bJ w' p=aa (bB p_13)/\∃a,p_13=aa a/\∃p_14,bJ w' (bP (bP a 0) 1)=aa (bB p_14)/\Call Tryz.prog 88 [bB p_14,aB bj n] w' λe w'=>∃p_15 n c,e=cN (rM p_15 n c)/\Call Tryz.prog 269 [rM p_15 n c] w' λe w'=>∃v,e=cN v/\Z [(1,SV.v (bB (aa p))),(2,SV.v (bB (aa p_1))),(5,SV.v (bB (aa p_8))),(8,SV.un),(60,SV.v v),(62,SV.un)] w')):=by kernel_rfl
theorem tba (p1 p2 a:Addr) (v:Value) (i x:Int) (w:World) (K:fe):den Tryz.prog xD Gv ((Env.put ([(1,SV.v (bB (aa p1))),(2,SV.v (bB (aa p2))),(5,SV.v (bB (aa a))),(8,SV.un),(60,SV.v v),(62,SV.un)]:Env) 61 (SV.v (aB bj i))).put 62 (SV.v (aB bj x))) w K =
(K Ex.fA [(1,SV.v (bB (aa p1))),(2,SV.v (bB (aa p2))),(5,SV.v (bB (aa a))),(8,SV.v (aB bj x))] w):=by kernel_rfl
theorem tbr (p2:Addr) (w:World) (R:Ending->World->Prop):j0 Tryz.prog Tryz.f168.results.toList R Ex.ret [(2,SV.v (bB (aa p2)))] w =
(∃n,bJ w p2=aa (aB bj n)/\R (cN (aB bj n)) w):=by kernel_rfl
theorem tbt (p2:Addr) (w:World) (K:Env->World->Prop):sF Tryz.prog lJ.N zU zU [(2,SV.v (bB (aa p2)))] w K =
(Wr w p2 [aB bj 0] λw'=>K [(2,SV.v (bB (aa p2)))] w'):=by kernel_rfl
theorem tbb (p1 p2 f:Addr) (x:Int) (w:World) (K:fe):den Tryz.prog xD CP [(1,SV.v (bB (aa p1))),(2,SV.v (bB (aa p2))),(5,SV.v (bB (aa f))),(8,SV.v (aB bj x))] w K =
(∃p,bJ w p1=aa (bB p)/\∃a,p=aa a/\∃p,bJ w (bP (bP a 0) 0)=aa (bB p)/\Call Tryz.prog 127 [bB p,aB bj x] w λe w'=>∃n n_1 n_2 b b_1 n_3 n_4,e=cN (xq #[ns #[aB bj n,aB jo n_1,aB bj n_2,lS b,lS b_1,aB bj n_3],aB bj n_4])/\aJ w' [aB bj 0,aB jo 0,aB bj 0,lS ae,lS ae,aB bj 0] 250 λp w'=>Wr w' p [aB bj n,aB jo n_1,aB bj n_2,lS b,lS b_1,aB bj n_3] λw'=>∃n,bJ w' (bP p 1)=aa (aB jo n)/\∃n_5,bJ w' f=aa (aB bj n_5)/\Call Tryz.prog 23 [aB jo n,aB bj n_5] w' λe w'=>∃b,e=cN (lS b)/\((!b)=ag->K Ex.fA [] w')/\((!b)=ae->∃p_1,bJ w' p1=aa (bB p_1)/\∃a,p_1=aa a/\∃p_2,bJ w' (bP (bP a 0) 1)=aa (bB p_2)/\Call Tryz.prog 237 [bB p_2,aB bj x] w' λe w'=>∃n,e=cN (aB bj n)/\∀(d:World),pJ d=pJ w'->pK d=pK w'->pL d=pL w'->pM d=pM w'->∃p_3,bJ d p1=aa (bB p_3)/\∃a,p_3=aa a/\∃p_4,bJ d (bP (bP a 0) 0)=aa (bB p_4)/\∃n,bJ d f=aa (aB bj n)/\Call Tryz.prog 234 [bB p_4,aB bj x,aB bj n,lS ae] d λe w'=>∃n,e=cN (aB bj n)/\∀(c:World),pJ c=pJ w'->pK c=pK w'->pL c=pL w'->pM c=pM w'->∃p_5,bJ c p1=aa (bB p_5)/\∃a,p_5=aa a/\∃p_6,bJ c (bP (bP a 0) 1)=aa (bB p_6)/\∃n,bJ c f=aa (aB bj n)/\∃n_6,bJ c (bP p 0)=aa (aB bj n_6)/\Call Tryz.prog 235 [bB p_6,aB bj n,aB bj n_6,aB bj x] c λe w'=>∃n,e=cN (aB bj n)/\Wr w' p2 [aB bj x] λw'=>K Ex.ret [(2,SV.v (bB (aa p2)))] w')):=by kernel_rfl
inductive FK where
 | int (k:IntKind)
 | bool
def Fits:List FK->List Value->Prop
 | [],[]=>True
 | .int k::a,.int k' n::vs=>k'=k/\(Lit.int k n).wf=ag/\Fits a vs
 | .bool::a,.bool _::vs=>Fits a vs
 | _,_=>False
def yG (P:Program) (t:TypeId):FK->Bool
 | .int k=>match P.underlying t with
  | some (.int k')=>decide (k'=k)
  | _=>ae
 | .bool=>match P.underlying t with
  | some .bool=>ag
  | _=>ae
def yh (P:Program):Nat->List Field->List FK->Bool
 | _,[],[]=>ag
 | i,f::a,k::b=>decide (f.offset=i)&&decide (P.cellsOf f.type=1)&&yG P f.type k&&yh P (i+1) a b
 | _,_,_=>ae
theorem acf {P:Program} {t:TypeId} {k:IntKind} (h:yG P t (.int k)=ag):P.underlying t=aa (.int k):=by
 simp only[yG]at h;split at h
 ·rename_i k' hu;obtain rfl:k'=k:=by simpa using h
  exact hu
 ·cases h
theorem ace {P:Program} {t:TypeId} (h:yG P t .bool=ag):P.underlying t=aa .bool:=by
 simp only[yG]at h;split at h
 ·assumption
 ·cases h
section
variable {H:Type} {enc:TypeId×Value->H} {P:Program} {w:World} {base:Nat} {spare:Nat->Bool} {held:Bool}
theorem acj {e:TypeId} {k:FK} {n:Nat} {cs:List Value} {y:DataW H×List MemPlace} (a:yG P e k=ag) (h:DataW.trod enc P w base spare held n e cs=aa y):Fits [k] cs:=by
 cases k with
 | int k=>
  obtain⟨m,rfl,_,b⟩:=DataW.trod_int (acf a) h
  exact⟨rfl,b,trivial⟩
 | bool=>
  obtain⟨m,rfl,_⟩:=DataW.trod_bool (ace a) h;trivial
theorem Fits.cons {k:FK} {ks:List FK} {c:Value} {cs:List Value} (h:Fits [k] [c]) (a:Fits ks cs):Fits (k::ks) (c::cs):=by
 cases k<;>cases c<;>simp_all [Fits]
theorem Ps {n:Nat}:∀{c:List Field} {a:List FK} {i:Nat} {cs:List Value},yh P i c a=ag->
  (∀(j:Nat) (f:Field),c[j]?=aa f->∃y,DataW.trod enc P w base spare held n f.type ((cs.drop f.offset).take (P.cellsOf f.type))=aa y)->cs.length=i+a.length->Fits a (cs.drop i)
 | [],[],i,cs,_,_,b=>by rw[List.drop_of_length_le (by simp at b;omega)];trivial
 | [],_::_,_,_,h,_,_=>by simp[yh]at h
 | _::_,[],_,_,h,_,_=>by simp[yh]at h
 | f::c,k::a,i,cs,h,d,b=>by
  simp only[yh,aY,decide_eq_true_eq]at h;obtain⟨⟨⟨l,m⟩,o⟩,p⟩:=h;have hi:i<cs.length:=by rw[b];simp
  have q:=Ps (i:=i+1) (cs:=cs) p (λj g r=>d (j+1) g r) (by rw[b];simp;omega);obtain⟨y,e⟩:=d 0 f rfl;rw[l,m,ku hi,List.take_succ_cons,List.take_zero]at e;rw[ku hi];exact(acj o e).cons q
def Tt (P:Program) (e:TypeId) (ks:List FK):Bool:=match P.underlying e with
 | some (.struct a)=>yh P 0 a.toList ks&&decide (P.cellsOf e=ks.length)
 | _=>ae
theorem rec_fits {e:TypeId} {ks:List FK} {n:Nat} {cs:List Value} {y:DataW H×List MemPlace} (a:Tt P e ks=ag) (h:DataW.trod enc P w base spare held n e cs=aa y):Fits ks cs:=by
 unfold Tt at a;split at a
 ·rename_i d hu;simp only[aY,decide_eq_true_eq]at a;obtain⟨xs,m,_,rfl,g,b,i⟩:=DataW.trod_struct hu h
  have:=Ps (enc:=enc) (w:=w) (base:=base) (spare:=spare) (held:=held) (n:=m) (cs:=cs) a.1 (λj f c=>by
   have k:j<d.size:=by simpa using(dQ.1 c).1
   exact⟨xs[j]'(by omega),by
    have:=i j f (by simpa using c);rw[this];simp⟩) (by rw[g,a.2];simp)
  simpa using this
 ·cases a
theorem open_recs {α:Type} {f:α->List Value} {Q:α->Prop} {sz:Nat} {t e:TypeId} {v:Value} {a:Option Addr} {len cap:Nat} {d:DataW H} {p:List MemPlace}
  (hs:∀x,(f x).length=sz) (L:P.underlying t=aa (.slice e)) (B:P.cellsOf e=sz)
  (hd:∀n cs y,DataW.trod enc P w base spare held n e cs=aa y->∃x,cs=f x/\Q x) (M:v=.slice a len cap) (h:DataW.Trod enc P w base spare held t v d p) :
  ∃l:List α,len=l.length/\(∀x∈l,Q x)/\Cells w a (l.flatMap f)/\len<=cap/\cap<=maxLen:=by
 subst M;obtain⟨fuel,h⟩:=h;rcases Go.Deep.open_slice L h with⟨b,_⟩|⟨x,l,c,m,n,D,Pl,b,X,C,E,N,Y,F⟩
 ·simp[Value.cells]at b;obtain⟨rfl,rfl,rfl⟩:=b;exact⟨[],rfl,by simp,Cells.nil _ _,by omega,by omega⟩
 ·simp[Value.cells]at b;obtain⟨rfl,rfl,rfl⟩:=b;have O:len<=m:=by rw[N];split<;>omega
  have each:∀i,i<len->∃y,Q y/\∀j u,(f y)[j]?=aa u->w.cell? (x.add (i*sz+j))=aa u:=by
   intro i hi;obtain⟨R,K,S⟩:=F i (by omega);obtain⟨y,rfl,s⟩:=hd _ _ _ S;refine⟨y,s,λj u g=>?_⟩;rw[B]at K;obtain⟨_,A,o⟩:=World.cells?_some K;have G:j<sz:=by rw[<-hs y];exact(dQ.1 g).1
   rw[<-dX,o j G,g]
  have build:∀k,k<=len->∃l:List α,l.length=k/\(∀y∈l,Q y)/\Cells w (aa x) (l.flatMap f):=by
   intro k
   induction k with
   | zero=>exact λ_=>⟨[],rfl,by simp,Cells.nil _ _⟩
   | succ k T=>
    intro Z;obtain⟨l,A,s,q⟩:=T (by omega);obtain⟨y,U,I⟩:=each k (by omega);refine⟨l++[y],by simp[A],λz r=>?_,?_⟩
    ·rcases eG.1 r with r|r
     ·exact s z r
     ·simp at r;exact r ▸ U
    ·intro j u g;refine⟨x,rfl,?_⟩;have V:(l.flatMap f).length=k*sz:=by rw[List.length_flatMap];simp[hs,A,List.map_const',List.sum_replicate_nat]
     rw[List.flatMap_append,pC,List.flatMap_nil,List.append_nil]at g;by_cases J:j<(l.flatMap f).length
     ·rw[kr J]at g;obtain⟨a,W,B⟩:=q j u g;obtain rfl:=Option.some.inj W;exact B
     ·rw[lP (by omega)]at g;have:=I _ u g
      rwa [show k*sz+(j-(l.flatMap f).length)=j by omega]at this
  obtain⟨l,A,s,q⟩:=build len (aX _);exact⟨l,A.symm,s,q,C,E⟩
end
theorem av.below {w w':World} (h:av no w w'):RowKit.Below w.heap.size w w':=⟨h.os,h.tape,h.output,h.size,λk a=>h.ay k a id⟩
end Go.Dav
namespace Go.Proofs
open Go.RowKit Go.Shelf Go.Dav
attribute [local go_sem] Oper.semAt_some
def Jv (L:List Int) (pre:List (Int×Int)) (x:Int×Int):Prop:=∃k,∃a:k<L.length,x=((k:Int),L[k])/\pre.map (·.2)=(L.drop (k+1)).reverse
theorem Tryz.V1 (m l Bn c:Nat) (p:Option Addr) (L:List Int) (hL:L.length<=1048576) (J Jx:List (Int×Int)->World->Prop)
  (hJ:∀pre W,J pre W->W.cell? ⟨Bn,0,none⟩=some (.slice p L.length c)/\∀(i:Nat) (v:Int),L[i]?=some v->∃bq o,p=some ⟨bq,o,none⟩/\W.cell? ⟨bq,o+i,none⟩=some (.int .i64 v))
  (hY:∀pre x W,J pre W->Jv L pre x->YieldAt Fence.wide m Tryz.prog l #[.int .i64 x.1,.int .i64 x.2] W λe W'=>(e=.returned (.bool true)/\J (pre++[x]) W')∨(e=.returned (.bool false)/\Jx (pre++[x]) W'))
  (W:World) (h0:J [] W) :
  CallsIn Fence.wide (m+1) Tryz.prog 338 #[.func (.yield l) #[] #[],.pointer (some ⟨Bn,0,none⟩)] W λe W'=>(∃v,e=.returned v)/\((∃xs,xs.map (·.2)=L.reverse/\J xs W')∨∃pre,Jx pre W'):=by
 have h38:Fence.wide.fn 338:=trivial;refine callsIn_of_wp Tryz.func338 rfl h38 ?_ rfl;simp only[Tryz.ntmps338,List.size_toArray,List.length_cons,List.length_nil,Nat.reduceAdd,Nat.reduceSub,Array.replicate_succ,Array.replicate_zero,List.push_toArray,List.append_toArray,List.nil_append,List.cons_append];have hB0:=(hJ [] W h0).1
 gi_wp2
 gi_loopw [3] (λq wr=>∃(k:Nat) (pre:List (Int×Int)),q=.int .i64 ((k:Int)-1)/\k<=L.length/\pre.map (·.2)=(L.drop k).reverse/\J pre wr)
  (λq wr=>match q with|.int _ i=>(i+1).toNat|_=>0)
 case atStart=>
  exact⟨L.length,[],rfl,Nat.le_refl _,by rw[List.drop_of_length_le (by omega)];rfl,h0⟩
 case round=>
  obtain⟨k,pre,rfl,hk,hpre,hJs⟩:=hrel;obtain⟨hB,hC⟩:=hJ pre wr hJs
  cases k with
  | zero=>
   gi_wp2
   go_end0
   exact⟨⟨_,rfl⟩,.inl ⟨pre,by rw[hpre];rfl,hJs⟩⟩
  | succ k=>
   have hkl:k<L.length:=by omega
   obtain⟨bq,o,rfl,hcell⟩:=hC k _ (List.getElem?_eq_getElem hkl);have hdr:L.drop k=L[k]::L.drop (k+1):=List.drop_eq_getElem_cons hkl;obtain⟨fn,tmps,assign,body,hy,hR⟩:=hY pre ((k:Int),L[k]) wr hJs ⟨k,hkl,rfl,hpre⟩;generalize L[k]=x at *;have hi:((k+1:Nat):Int)-1=(k:Int):=by omega
   rw[hi];replace hy:(Instr.yield l #[.int .i64 (k:Int),.int .i64 x]).run Tryz.prog wr=.ok (.round l fn tmps assign body) wr:=hy
   gi_wp2
   refine hR.mono ?_;rintro e W3 (⟨rfl,hJ3⟩|⟨rfl,hJx3⟩)
   ·gi_wp2
    go_roundw
    case rel=>exact⟨k,pre++[((k:Int),x)],rfl,by omega,by rw[List.map_append,hpre,hdr,List.reverse_cons];rfl,hJ3⟩
    case measure=>show((k:Int)-1+1).toNat<((k:Int)+1).toNat;omega
   ·gi_wp2
    refine bodyPost_ret (results_none rfl _ _ _) rfl ?_;exact⟨⟨_,rfl⟩,.inr ⟨_,hJx3⟩⟩
set_option maxHeartbeats 1000000 in
theorem Tryz.V0 (p:Option Addr) (m c:Nat) (w:World):Calls Tryz.prog 269 #[.slice p m c] w λe w'=>e=.returned (.func (.func 338) #[] #[.pointer (some ⟨w.heap.size,0,none⟩)])/\w'=w.alloc (.cells #[.slice p m c] 36):=by
 rw[<-callsIn_wide (n:=5)];have h25:Fence.wide.fn 269:=trivial;refine callsIn_of_wp Tryz.func269 rfl h25 ?_ rfl;simp only[Tryz.ntmps269,List.size_toArray,List.length_cons,List.length_nil,Nat.reduceAdd,Nat.reduceSub,Array.replicate_succ,Array.replicate_zero,List.push_toArray,List.append_toArray,List.nil_append,List.cons_append]
 gi_wp2
 go_ret
 exact⟨rfl,rfl⟩
end Go.Proofs
namespace Go.Dav
open Go.Proofs
open Value renaming int→aB
open _root_.Option renaming some→aa,none→ah
open _root_.List renaming getElem?_map→fy,mem_append→eG,drop_eq_getElem_cons→ku,find?_eq_none→kt,mem_map→ck,replicate→aD,eq_of_mem_replicate→k8,toArray→dK,length_append→cG,length_singleton→rW,map_append→eI,append_assoc→jP,take_succ_eq_append_getElem→eW,take_length→dC,range→bU,length_cons→il,map_map→s8,map_congr_left→uq,mem_cons→ez,mem_range→cD
open _root_.Nat renaming le_trans→aW,le_of_eq→bF,le_of_ble_eq_true→dP,zero_le→cB,add_mul→la,one_mul→s7,le_refl→aX,lt_of_lt_of_le→jM,mod_eq_of_lt→jr
open World renaming cell?_of_block→uu,cell?→bJ
open IntKind renaming wrap→aV
open _root_.Bool renaming false→ae,true→ag,and_true→lR,and_eq_true→aY
open _root_.Array renaming replicate→qz,getElem?_eq_some_iff→xu
open Fence renaming wide→nt
open _root_.Iff renaming rfl→bp
open Builtin renaming append_→bR
open _root_.Prod renaming ext→lT
open _root_.Int renaming tmod→eH,tmod_eq_emod_of_nonneg→ot
def nY {σ:Type} (b:Nat) (A:Ob σ) (get:σ->K) (put:σ->K->σ):Prop:=∀{W w:World} {F:Fp} {s:σ},ai A W w F s->∃q F1,KF b q w F1 (get s)/\ai (KF b q) w w F1 (get s)/\∀w' k',ai (KF b q) w w' F1 k'->ai A W w' F (put s k')
theorem nY.self (b:Nat):nY b (KO b) (λk=>k) (λ_ k=>k):=by
 intro W w F s h;obtain⟨F1,⟨q,a⟩,c⟩:=h.db;exact⟨q,F1,a,ai.same a,λw' k' d=>c _ _ (KF.loose d)⟩
theorem nY.star {σ τ:Type} {b:Nat} {A:Ob σ} {B:Ob τ} [Frame B] {get:σ->K} {put:σ->K->σ} (h:nY b A get put):nY b (aF A B) (λx=>get x.1) (λx k=>(put x.1 k,x.2)):=by
 intro W w F s a;obtain⟨F1,hA,c⟩:=a.left;obtain⟨q,F2,d,e,f⟩:=h (ai.same hA);exact⟨q,F2,d,e,λw' k' g=>c _ _ (f _ _ g)⟩
section
variable {b:Nat} {W w:World} {F:Fp} {k:K}
abbrev S1 (b p:Nat):=aF (KO b) (Lb p 23)
abbrev S2 (b p p1:Nat):=aF (S1 b p) (Lb p1 3)
abbrev S3 (b p p1 p8:Nat):=aF (S2 b p p1) (Lb p8 3)
abbrev S4 (b p p1 p8 a:Nat):=aF (S3 b p p1 p8) (Lb a 250)
theorem IY (b p p1:Nat):nY b (S2 b p p1) (λx=>x.1.1) (λx k=>((k,x.1.2),x.2)):=nY.star (B:=Lb p1 3) (nY.star (B:=Lb p 23) (nY.self b))
theorem IZ (b p p1 p8:Nat):nY b (S3 b p p1 p8) (λx=>x.1.1.1) (λx k=>(((k,x.1.1.2),x.1.2),x.2)):=nY.star (B:=Lb p8 3) (IY b p p1)
theorem I0 (b p p1 p8 a:Nat):nY b (S4 b p p1 p8 a) (λx=>x.1.1.1.1) (λx k=>((((k,x.1.1.1.2),x.1.1.2),x.1.2),x.2)):=nY.star (B:=Lb a 250) (IZ b p p1 p8)
theorem Sl.ZO {w:World} {T:TypeId} {p:Option Addr} {n c:Nat} {l:List Int} (h:Sl w T 1 p n c (l.map (aB .i64))) {i:Nat} {v:Int} (hi:l[i]?=aa v):∃bq o,p=aa ⟨bq,o,ah⟩/\w.cell? ⟨bq,o+i,ah⟩=aa (.int .i64 v):=by
 obtain⟨a,rfl,d⟩:=h.cells i (.int .i64 v) (by rw[fy,hi];rfl);obtain⟨_,_,_,cells,_,hs,_⟩:=h;obtain⟨bq,o,sp⟩:=a;simp only at hs;subst hs;rw[add_lit]at d;exact⟨bq,o,rfl,d⟩
structure Gf (b:Nat) (W:World) (F:Fp) (k:K) (E:Env) (w:World) (p p1 p8 bn:Nat) (pq:Option Addr) (c:Nat):Prop where
 env:E=[(1,SV.v (.pointer (aa ⟨p,0,ah⟩))),(2,SV.v (.pointer (aa ⟨p1,0,ah⟩))),(5,SV.v (.pointer (aa ⟨p8,0,ah⟩))),(8,SV.un),(60,SV.v (.func (.func 338) #[] #[.pointer (aa ⟨bn,0,ah⟩)])),(62,SV.un)]
 own:ai (S3 b p p1 p8) W w F (((k,[.pointer (aa ⟨b,0,ah⟩)]),[.int .i64 0]),[.int .i64 (gd k)])
 box:w.cell? ⟨bn,0,ah⟩=aa (.slice pq (bT k.rq (fj k)).length c)
 sl:Sl w 3 1 pq (bT k.rq (fj k)).length c ((bT k.rq (fj k)).map (aB .i64))
 load:¬cp k.rq (fj k)-cp k.rq (gd k)<2
def rG (b:Nat) (W:World) (F:Fp) (k:K) (e:Ending) (w':World):Prop:=e=.returned (.int .i64 (tn k))/\ai (KO b) W w' F (nu k)
theorem fo.R3 {b:Nat} {w:World} {F:Fp} {x:RS} (h:fo b w F x) (c:Int):0<=cp x c/\cp x c<=1024:=by
 unfold cp;split
 ·rename_i a;obtain⟨i,hi,rfl⟩:=oW a;rw[jD hi];have:=(h.V hi).len;omega
 ·omega
theorem aaT (h:ai (KO b) W w F k) {c:Int}:(bT k.rq c).length<=8192:=by
 obtain⟨q,a⟩:=KO.fix h;obtain⟨F1,hA,_⟩:=KF.rq a;unfold bT;split
 ·rename_i d;obtain⟨i,hi,rfl⟩:=oW d;rw[jD hi];have:=(hA.V hi).len;exact aW (aaU _) (by omega)
 ·simp
theorem av.Xh {w W:World} {a:Addr} {v:Value} (h:av no w W) (c:w.cell? a=aa v):W.cell? a=aa v:=
 (uu (h.ay _ (qH c) id)).trans c
theorem VR (l:Tab W) (z:¬F 0) (h:ai (KO b) W w F k):den Tryz.prog lJ Gw (jv 0 [.pointer (aa ⟨b,0,ah⟩)]) w (EK (λE w=>∃p p1 p8 bn pq c,Gf b W F k E w p p1 p8 bn pq c) (j0 Tryz.prog Tryz.f168.results.toList (rG b W F k))):=by
 rw[tbp];refine⟨λw1 H=>⟨λO o=>?_⟩⟩;have a:ai (S2 b w.heap.size w1.heap.size) W O F ((k,[.pointer (aa ⟨b,0,ah⟩)]),[.int .i64 0]):=(h.add (H.ak no) (Rw.new H rfl) (λi hi=>bF hi.symm)).add (o.ak no) (Rw.new o rfl) (λi hi=>bF hi.symm);generalize w.heap.size=p at a⊢;generalize w1.heap.size=p1 at a⊢;intro w3 r s t u;replace a:=a.ak (av.same no r s t u);obtain⟨q,F1,_,n,_⟩:=IY b p p1 a;have hB:=KF.ay n;have j:=kz a;obtain⟨F2,hA,_⟩:=KF.rq n;refine⟨_,j.cm rfl,_,rfl,_,hB.aE rfl,_,j.cm rfl,_,rfl,_,hB.cell rfl,⟨(ady hA (a.ml l z) k.ac).mono ?_⟩⟩;rintro e w4 ⟨rfl,A⟩;replace a:=a.ak A;refine⟨_,_,rfl,?_⟩;intro I r s t u;replace a:=a.ak (av.same no r s t u);obtain⟨P,F5,_,n,_⟩:=IY b p p1 a;have hB:=KF.ay n;have j:=kz a;obtain⟨F6,hA,_⟩:=KF.rq n;refine⟨_,j.cm rfl,_,rfl,_,hB.aE rfl,_,j.cm rfl,_,rfl,_,hB.cell rfl,?Q,?a2⟩
 case' Q=>
  refine⟨(Tw hA (a.ml l z) k.ac).mono ?_⟩;rintro e J ⟨rfl,x⟩;replace a:=a.ak x;refine⟨_,_,rfl,⟨λB f=>?_⟩⟩;replace a:ai (S3 b p p1 J.heap.size) W B F (((k,[.pointer (aa ⟨b,0,ah⟩)]),[.int .i64 0]),[.int .i64 0]):=a.add (f.ak no) (Rw.new f rfl) (λi hi=>bF hi.symm);generalize J.heap.size=p8 at a⊢;have hB:=hB.ak (x.and (f.ak no)) (λh=>h);have j:=kz a.drop;refine⟨hB.cell rfl,j.cm rfl,hB.aE rfl,j.cm rfl,?_⟩
 case' a2=>
  refine⟨λB f=>?_⟩;replace a:ai (S3 b p p1 I.heap.size) W B F (((k,[.pointer (aa ⟨b,0,ah⟩)]),[.int .i64 0]),[.int .i64 0]):=a.add (f.ak no) (Rw.new f rfl) (λi hi=>bF hi.symm);generalize I.heap.size=p8 at a⊢;have hB:=hB.ak (f.ak no) (λh=>h);have j:=kz a.drop;replace hA:=(inferInstance:Frame (fo P.rq)).ak hA (f.ak no) (λ_ _ h=>h);refine⟨hB.cell rfl,j.cm rfl,hB.aE rfl,j.cm rfl,⟨(Tw hA (a.ml l z) k.ac).mono ?_⟩⟩;rintro e w8 ⟨rfl,C⟩;replace a:=a.ak C;refine⟨_,_,rfl,?_⟩
 all_goals
  refine mT (vs:=[.int .i64 (gd k)]) a (by rfl) λw9 a=>?_;intro R r s t u;replace a:=a.ak (av.same no r s t u);obtain⟨T,F10,_,n,_⟩:=IZ b p p1 p8 a;have hB:=KF.ay n;have j:=kz a.drop;have L:=cL a;obtain⟨F11,hA,_⟩:=KF.rq n;refine⟨_,j.cm rfl,_,rfl,_,hB.aE rfl,_,j.cm rfl,_,rfl,_,hB.aE rfl,_,L.cm rfl,⟨(wE hA (fj k)).mono ?_⟩⟩;rintro e V ⟨rfl,rfl⟩;refine⟨_,rfl,L.cm rfl,hB.aE rfl,j.cm rfl,⟨(wE hA (gd k)).mono ?_⟩⟩;rintro e X ⟨rfl,rfl⟩;have D:=hA.R3 (fj k);have G:=hA.R3 (gd k)
  dsimp only at D G
  have M:aV .i64 (cp k.rq (fj k)-cp k.rq (gd k))=cp k.rq (fj k)-cp k.rq (gd k):=aP (by omega);refine⟨_,rfl,λg=>?_,λg=>?_⟩
  ·have g:=aL g;have g:cp k.rq (fj k)-cp k.rq (gd k)<2:=by rw[<-M];exact g
   refine mT (vs:=[.int .i64 0]) a.drop (by rfl) λm a=>?_;have Y:=cL a;refine⟨_,Y.cm rfl,?_,?_⟩
   ·unfold tn;rw[aj g]
   ·unfold nu;rw[aj g];exact a.drop.drop
  ·have g:=aT g;have g:¬cp k.rq (fj k)-cp k.rq (gd k)<2:=by rw[<-M];exact g
   refine⟨_,j.cm rfl,_,rfl,_,hB.aE rfl,⟨(J0 hA (fj k)).mono ?_⟩⟩;rintro e m ⟨pq,d,rfl,N⟩;replace a:=a.ak N.U;refine⟨_,_,_,rfl,⟨(Tryz.V0 _ _ _ m).mono ?_⟩⟩;rintro e Z ⟨rfl,rfl⟩;have y:av no m (m.alloc (.cells #[.slice pq (bT k.rq (fj k)).length d] 36)):=av.uw _ _;exact⟨_,rfl,p,p1,p8,m.heap.size,pq,d,rfl,a.ak y,by simp only[bJ,World.alloc_heap_new];rfl,N.S.ak y (λ_ _ h=>h),g⟩
def CQ (k:K) (id:Int):K:={k with rq:=jE (fH k.rq id) (gd k) (cS k id).1 id,th:=lx k.th id (gd k) ae}
theorem VM (a:¬cp k.rq (fj k)-cp k.rq (gd k)<2) {id:Int} (h:(bT k.rq (fj k)).reverse.find? (ov k)=aa id):nu k=CQ k id/\tn k=id:=by
 unfold nu tn CQ;rw[af a,af a,h];exact⟨rfl,rfl⟩
theorem VL (a:¬cp k.rq (fj k)-cp k.rq (gd k)<2) (h:(bT k.rq (fj k)).reverse.find? (ov k)=ah):nu k=k/\tn k=0:=by
 unfold nu tn;rw[af a,af a,h];exact⟨rfl,rfl⟩
theorem VO {p p1 p8:Nat} (x:Int) {F2:Fp} {P:Ex->Env->World->Prop} (a:ai (S3 b p p1 p8) w w F2 (((k,[.pointer (aa ⟨b,0,ah⟩)]),[.int .i64 0]),[.int .i64 (gd k)]))
  (Z:∀E w',ov k x=ae->av no w w'->P .fA E w') (hr:∀E w',ov k x=ag->ai (S2 b p p1) w w' F2 ((CQ k x,[.pointer (aa ⟨b,0,ah⟩)]),[.int .i64 x])->P .ret E w') :
  den Tryz.prog xD CP [(1,SV.v (.pointer (aa ⟨p,0,ah⟩))),(2,SV.v (.pointer (aa ⟨p1,0,ah⟩))),(5,SV.v (.pointer (aa ⟨p8,0,ah⟩))),(8,SV.v (.int .i64 x))] w P:=by
 rw[tbb];obtain⟨q,F1,_,V,_⟩:=IZ b p p1 p8 a;have hP:=kz a.drop;obtain⟨F3,hA,_⟩:=KF.th V;refine⟨_,hP.cm rfl,_,rfl,_,(KF.ay V).aE rfl,⟨(vX hA x).mono ?_⟩⟩;rintro e w1 ⟨rfl,d⟩;refine⟨_,_,_,_,_,_,_,rfl,⟨λX s=>?_⟩⟩;have t:av no w X:=d.and (s.ak no);replace a:ai (S4 b p p1 p8 w1.heap.size) w X F2 ((((k,[.pointer (aa ⟨b,0,ah⟩)]),[.int .i64 0]),[.int .i64 (gd k)]),[.int .i64 0,.int .u64 0,.int .i64 0,.bool ae,.bool ae,.int .i64 0]):=(a.ak d).add (s.ak no) (Rw.new s rfl) (λi hi=>bF hi.symm);have u:w.heap.size<=w1.heap.size:=d.size;have y:=s.aK;generalize hp:w1.heap.size=z at a u y⊢;obtain⟨F9,f,A⟩:=a.right;refine f.ay.gF (by simp) λY B=>?_;have C:av no w Y:=t.trans B.U (λi hi e=>by omega);replace a:=A Y (Ku (cS k x)) (f.gD B.U B.aK);have hL:=cL a;have hT:=cL a.drop;have h:ov k x=hs (cS k x).2.1 (gd k):=rfl;refine⟨_,hL.cell rfl,_,hT.cm rfl,⟨(l7 _ _ _).mono ?_⟩⟩;rintro e w4 ⟨rfl,rfl⟩;refine⟨_,rfl,λg=>Z _ _ (by rw[h];simpa using g) C,λg=>?_⟩;have hb:ov k x=ag:=by rw[h];simpa using g
 obtain⟨q5,F5,_,j,D⟩:=I0 b p p1 p8 z a;obtain⟨F6,G,H⟩:=KF.rq j;have I:=kz a.drop.drop;refine⟨_,I.cm rfl,_,rfl,_,(KF.ay j).aE rfl,⟨(Bl G x).mono ?_⟩⟩;rintro e w6 ⟨rfl,J⟩;replace a:=D _ _ (H _ _ J);refine⟨_,rfl,?_⟩;intro w7 L M N O;replace a:=a.ak (av.same no L M N O);obtain⟨q8,F8,_,l,Q⟩:=I0 b p p1 p8 z a;obtain⟨al,R,S⟩:=KF.th l;refine⟨_,(kz a.drop.drop).cm rfl,_,rfl,_,(KF.ay l).aE rfl,_,(cL a.drop).cm rfl,⟨(S8 R x (gd k) ae).mono ?_⟩⟩;rintro e w8 ⟨rfl,T⟩;replace a:=Q _ _ (S _ _ T);refine⟨_,rfl,?_⟩;intro w9 L M N O;replace a:=a.ak (av.same no L M N O);obtain⟨am,F10,_,c,m⟩:=I0 b p p1 p8 z a;obtain⟨F11,n,o⟩:=KF.rq c;refine⟨_,(kz a.drop.drop).cm rfl,_,rfl,_,(KF.ay c).aE rfl,_,(cL a.drop).cm rfl,_,(cL a).cell rfl,⟨(Tz n (gd k) _ x).mono ?_⟩⟩;rintro e ap ⟨rfl,r⟩;replace a:=m _ _ (o _ _ r);refine⟨_,rfl,mT a.drop.drop (by rfl) λaq a=>hr _ _ hb a⟩
set_option maxRecDepth 100000 in
theorem Z3 (X:Tab W) (h0:¬F 0) (h:ai (KO b) W w F k):Calls Tryz.prog 168 #[.pointer (aa ⟨b,0,ah⟩)] w (rG b W F k):=by
 rw[<-callsIn_wide (n:=5)];refine callsIn_of_wp_marks Tryz.func168 VB trivial (wpIn_wide.2 ?_) rfl;have ha:=Vl (fn:=Tryz.f168) (N:=lJ.N) n168 (args:=[.pointer (aa ⟨b,0,ah⟩)]) (by show 1<=104;omega);generalize he:({tmps:=([.pointer (aa ⟨b,0,ah⟩)]:List Value).toArray++qz (Tryz.f168.ntmps-([.pointer (aa ⟨b,0,ah⟩)]:List Value).toArray.size) undef,defers:=[]}:Act)=a0 at ha⊢;have C:=VR X h0 h;rw[VP]
 have out:∀(E:Env) (a:Act) (w':World),bV lJ.N E a->j0 Tryz.prog Tryz.f168.results.toList (rG b W F k) .ret E w'->bodyPostM nt 5 Tryz.prog Tryz.f168 (rG b W F k) .ret a w':=by
  intro E a w' g d;obtain⟨v,hv,hR⟩:=EX g d;show LeavesInM _ _ _ _ _ _ a.defers .returning w';rw[g.jX];exact⟨v,hv,hR⟩
 unfold Gw at C
 have piece:∀{x y y':Code} {E:Env} {a:Act} {w':World},den Tryz.prog lJ (.seq x y) E w' (EK (λE w=>∃p p1 p8 bn pq c,Gf b W F k E w p p1 p8 bn pq c) (j0 Tryz.prog Tryz.f168.results.toList (rG b W F k)))->bV lJ.N E a->
   (∀E a w',bV lJ.N E a->den Tryz.prog lJ y E w' (EK (λE w=>∃p p1 p8 bn pq c,Gf b W F k E w p p1 p8 bn pq c) (j0 Tryz.prog Tryz.f168.results.toList (rG b W F k)))->y'.wp Tryz.prog (bodyPostM nt 5 Tryz.prog Tryz.f168 (rG b W F k)) a w')->
   (Code.seq x y').wp Tryz.prog (bodyPostM nt 5 Tryz.prog Tryz.f168 (rG b W F k)) a w':=by
  intro x y y' E a w' hd ha j;refine wp_seq (wp_mono (qK bu x E w' _ hd a ha) ?_);rintro ex a1 w1 u
  cases ex with
  | normal=>
   obtain⟨E1,g,d⟩:=u;have hc:jU lJ.cE (iu y)=ah:=by cases iu y<;>rfl
   simp only[j6,jQ]at d;rw[hc]at d
   exact j E1 a1 w1 g d
  | ret=>obtain⟨E1,g,d⟩:=u;exact out E1 a1 w1 g d
  | exit n=>obtain⟨E1,g,d⟩:=u;exact d.elim
  | _=>exact u.elim
 refine piece C ha λE1 a1 w1 ap aq=>?_;refine piece aq ap λE2 a2 w2 A az=>?_;refine piece az A λE3 a3 w3 bb be=>?_;refine piece be bb λE4 a4 w4 bl bm=>?_;refine wp_seq (wp_seq (wp_mono (qK bu Gx E4 w4 _ bm a4 bl) ?_));rintro ex a5 f u
 cases ex with
 | ret=>obtain⟨E1,g,d⟩:=u;exact out E1 a5 f g d
 | exit n=>obtain⟨E1,g,d⟩:=u;exact d.elim
 | normal=>?_
 | _=>exact u.elim
 obtain⟨E5,H,p,p1,p8,bn,pq,c,I⟩:=u;have hE:=I.env;subst hE;have hP:=I.own;obtain⟨D,L,s,O⟩:=I.own;have t:∀i,D i->i<f.heap.size:=λi hi=>Frame.lt L i hi;have A:bV lJ.N [(2,SV.v (.pointer (aa ⟨p1,0,ah⟩)))] a5:=H.keep [2];have G:∀i,i<W.heap.size->D i->F i:=λi hi h=>(O i h).elim id (λh=>absurd h (by omega))
 have leave:∀{w':World} {k2:K} {id:Int} {F2:Fp} {a:Act},bV lJ.N [(2,SV.v (.pointer (aa ⟨p1,0,ah⟩)))] a->S2 b p p1 w' F2 ((k2,[.pointer (aa ⟨b,0,ah⟩)]),[.int .i64 id])->av F W w'->(∀i,F2 i->F i∨W.heap.size<=i)->w'.heap[f.heap.size]?=aa (.deferred (aa []))->¬F2 f.heap.size->id=tn k->k2=nu k->
   LeavesInM nt 5 Tryz.prog Tryz.f168 a.tmps (rG b W F k) [{target:=.collected f.heap.size,args:=#[]}] .returning w':=by
  intro w' k2 id F2 a P hS q hF U bs bv hk;refine⟨by simp,.inl ⟨_,_,rfl,run_takeDeferred U,?_⟩⟩;have Y:=av.EO w' f.heap.size (.deferred ah);have bw:=Frame.ak hS Y (λi hi e=>bs (e ▸ hi));have hT:ai (S2 b p p1) W (w'.putObj f.heap.size (.deferred ah)) F ((k2,[.pointer (aa ⟨b,0,ah⟩)]),[.int .i64 id]):=⟨F2,bw,q.trans Y (λi hi (e:i=f.heap.size)=>absurd hi (by have:=s.size;omega)),hF⟩
  have Z:j0 Tryz.prog Tryz.f168.results.toList (rG b W F k) .ret [(2,SV.v (.pointer (aa ⟨p1,0,ah⟩)))] (w'.putObj f.heap.size (.deferred ah)):=by
   rw[tbr];exact⟨_,(cL hT).cm rfl,by rw[bv],by rw[<-hk];exact hT.drop.drop⟩
  obtain⟨v,hv,hR⟩:=EX P Z;exact⟨v,hv,hR⟩
 refine(wpIn_wide (n:=5)).1 (wpIn_block ?_)
 refine amf (M:=xD) (m:=3) bu (E:=[(1,SV.v (.pointer (aa ⟨p,0,ah⟩))),(2,SV.v (.pointer (aa ⟨p1,0,ah⟩))),(5,SV.v (.pointer (aa ⟨p8,0,ah⟩))),(8,SV.un),(60,SV.v (.func (.func 338) #[] #[.pointer (aa ⟨bn,0,ah⟩)])),(62,SV.un)]) H (gf:=338) (lb:=#[.pointer (aa ⟨bn,0,ah⟩)]) (H.ev (.tmp 60) _ rfl) (λargs w=>N7 bu (by kernel_rfl) args) (λx:Int×Int=>(.int .i64 x.1,.int .i64 x.2))
  (λpre W1=>av no f W1/\∀y∈pre,ov k y.2=ae)
  (λpre W1=>∃Q x,pre=Q++[x]/\(∀y∈Q,ov k y.2=ae)/\ov k x.2=ag/\Jv (bT k.rq (fj k)) Q x/\∃F2,S2 b p p1 W1 F2 ((CQ k x.2,[.pointer (aa ⟨b,0,ah⟩)]),[.int .i64 x.2])/\av D f W1/\∀i,F2 i->D i∨f.heap.size+2<=i)
  (Jv (bT k.rq (fj k))) (λxs=>xs.map (·.2)=(bT k.rq (fj k)).reverse)
  (λx=>[(1,SV.v (.pointer (aa ⟨p,0,ah⟩))),(2,SV.v (.pointer (aa ⟨p1,0,ah⟩))),(5,SV.v (.pointer (aa ⟨p8,0,ah⟩))),(8,SV.v (.int .i64 x.2))]) (dP rfl) (dP rfl) LW.1 LW.2 ?hA ?hB ?hI ?hIx ?hI0 ?hseq ?hdone ?hstop
 case hA=>
  intro x W1;rw[tba];exact⟨rfl,rfl⟩
 case hB=>
  rintro pre x W1 ⟨q,B⟩ bz cq;have R:S3 b p p1 p8 W1 D (((k,[.pointer (aa ⟨b,0,ah⟩)]),[.int .i64 0]),[.int .i64 (gd k)]):=Frame.ak L q (λ_ _ h=>h);refine VO x.2 (ai.same R) (λE w' hf S=>⟨⟨q.trans S (λ_ _ h=>h),λy j=>?_⟩,S.size,λi g d=>S.ay i d (λh=>h)⟩) (λE w' ht hT=>?_)
  ·rcases eG.1 j with j|j
   ·exact B y j
   ·simp at j;subst j;exact hf
  ·obtain⟨F2,t1,t2,t3⟩:=hT;exact⟨⟨pre,x,rfl,B,ht,bz,F2,t1,(q.mono (λ_ _ h=>h.elim)).trans t2 (λi hi h=>h),λi hi=>(t3 i hi).imp id (λh=>by omega)⟩,t2.size,λi g d=>t2.ay i d (λh=>by have:=t i h;omega)⟩
 case hI=>exact λpre W1 o V=>⟨V.1.trans (av.EO W1 _ o) (λi hi (e:i=f.heap.size+1)=>absurd hi (by omega)),V.2⟩
 case hIx=>
  rintro pre W1 o ⟨Q,x,rfl,g,d,h3,F2,h4,h5,h6⟩;refine⟨Q,x,rfl,g,d,h3,F2,Frame.ak h4 (av.EO W1 _ o) (λi hi (e:i=f.heap.size+1)=>?_),h5.trans (av.EO W1 _ o) (λi hi (e:i=f.heap.size+1)=>absurd hi (by omega)),h6⟩;rcases h6 i hi with h|h
  ·have:=t i h;omega
  ·omega
 case hI0=>exact λr=>⟨(av.uw _ _).trans (av.uw _ _) (λ_ _ h=>h),λy j=>by cases j⟩
 case hseq=>
  intro J Jx W1 cb hY cc;have al:(bT k.rq (fj k)).length<=1048576:=aW (aaT hP.drop.drop.drop) (by omega);refine Tryz.V1 3 (f.heap.size+1) bn c pq (bT k.rq (fj k)) al J Jx (λpre W2 hJ=>?_) (λpre x W2 hJ hx=>hY pre x W2 hJ hx) W1 cc;have q:=(cb pre W2 hJ).1;exact⟨av.Xh q I.box,λi v hi=>(I.sl.ak q (λ_ _ h=>h)).ZO hi⟩
 case hstop=>
  rintro pre W1 ⟨Q,x,rfl,g,d,⟨kk,hk,hx,cd⟩,F2,h4,h5,h6⟩ U
  have hf:(bT k.rq (fj k)).reverse.find? (ov k)=aa x.2:=by
   have e1:(bT k.rq (fj k)).reverse=Q.map (·.2)++(x.2::((bT k.rq (fj k)).take kk).reverse):=by
    rw[cd,hx]
    conv=>lhs;rw[<-List.take_append_drop kk (bT k.rq (fj k)),ku hk]
    simp
   rw[e1,List.find?_append,kt.2 (λy j=>?_),List.find?_cons_of_pos d]
   ·rfl
   ·obtain⟨z,hz,rfl⟩:=ck.1 j;rw[g z hz];decide
  obtain⟨e1,e2⟩:=VM I.load hf;show LeavesInM _ _ _ _ _ _ _ _ _;refine leave (a:=a5) A h4 (s.trans h5 (λi hi h=>G i hi h)) (λi hi=>?_) U (λV=>?_) e2.symm e1.symm
  ·rcases h6 i hi with h|h
   ·exact O i h
   ·exact .inr (by have:=s.size;omega)
  ·rcases h6 _ V with h|h
   ·have:=t _ h;omega
   ·omega
 case hdone=>
  rintro xs W1 ce ⟨q,B⟩ U
  have T:(bT k.rq (fj k)).reverse.find? (ov k)=ah:=by
   rw[<-ce];refine kt.2 λy j=>?_;obtain⟨z,hz,rfl⟩:=ck.1 j;rw[B z hz];decide
  obtain⟨e1,e2⟩:=VL I.load T;show CR.wp _ _ _ _;rw[VN];have R:S3 b p p1 p8 W1 D (((k,[.pointer (aa ⟨b,0,ah⟩)]),[.int .i64 0]),[.int .i64 (gd k)]):=Frame.ak L q (λ_ _ h=>h);have cl:ai (S2 b p p1) W1 W1 D ((k,[.pointer (aa ⟨b,0,ah⟩)]),[.int .i64 0]):=(ai.same R).drop;refine wp_seq (wp_region_list (Ka (N:=lJ.N) (l:=zU) (K:=λE w'=>E=[(2,SV.v (.pointer (aa ⟨p1,0,ah⟩)))]/\ai (S2 b p p1) W1 w' D ((k,[.pointer (aa ⟨b,0,ah⟩)]),[.int .i64 0])) bu (by simp) ?_ zU.toArray.toList [(2,SV.v (.pointer (aa ⟨p1,0,ah⟩)))] a5 W1 A ?_))
  ·rintro E a w' P ⟨rfl,F2,t1,t2,t3⟩;refine wp_ret ?_;show LeavesInM _ _ _ _ _ _ _ _ _;have am:f.heap.size<W1.heap.size:=(xu.1 U).1;refine leave (a:=a) P t1 ((s.trans q (λ_ _ h=>h.elim)).trans t2 (λi hi h=>G i hi h)) (λi hi=>?_) ((t2.ay _ am (λh=>by have:=t _ h;omega)).trans U) (λV=>?_) e2.symm e1.symm
   ·rcases t3 i hi with h|h
    ·exact O i h
    ·exact .inr (by have:=s.size;have:=q.size;omega)
   ·rcases t3 _ V with h|h
    ·have:=t _ h;omega
    ·omega
  ·rw[List.toList_toArray,tbt];exact mT cl (by rfl) λw' hS=>⟨rfl,hS⟩
end
section
variable {b:Nat} {W w:World} {F:Fp} {k:K}
theorem aaD (r:Tab W) (V:¬F 0) (h:ai (KO b) W w F k) (A:k.tm.now=k.now) (c:Int):Cx 62 #[pt b,I c] w (fg (KO b) W F (bG k c) (BI k c)):=by
 obtain⟨q,X⟩:=KO.fix h;have hB:=KF.ay X;obtain⟨F1,hA,_⟩:=KF.co X;refine u62 ?_;refine⟨_,rfl,_,hB.aE rfl,⟨(G7 hA c).mono ?_⟩⟩;rintro e w1 ⟨⟨Y,Z,rfl⟩,J⟩;refine⟨_,_,_,_,_,_,_,rfl,⟨λw2 hN=>?_⟩⟩;have l:ai (aF (KO b) (Lb w1.heap.size 226)) W w2 F (k,[.bool ae,.bool ae,I 0,I 0,I 0,I 0]):=(h.ak J).add (hN.ak no) (Rw.new hN rfl) (λi hi=>bF hi.symm);generalize w1.heap.size=p at l⊢;refine mT (vs:=fX (bg k.co c,Y,Z)) l (by rfl) λw3 l=>?_;intro w4 L M N O;replace l:=l.ak (av.same no L M N O);have z:=cL l;obtain⟨F0,P,Q⟩:=l.left;refine⟨_,z.cell rfl,_,z.cell rfl,_,z.cell rfl,_,z.cell rfl,_,z.cell rfl,_,z.cell rfl,⟨(aaf (ai.same P) c).mono ?_⟩⟩;rintro e w5 ⟨rfl,R⟩;replace l:=Q _ _ R;have S:=cL l;refine⟨_,_,_,_,_,_,_,_,_,rfl,λj v hv=>S.cell hv,⟨(Xy (bg k.co c,Y,Z) (dY k c) w5).mono ?_⟩⟩;rintro e w6 ⟨rfl,T⟩;replace l:=l.ak T
 have last:∀(U:World),ai (KO b) W U F k->aU Tryz.prog wW Ac (Aw (aa ⟨b,0,ah⟩) c (dI k c)) U (AP (fg (KO b) W F (bG k c) (BI k c))):=by
  intro U B;refine aU.mk ?_;rw[af0];obtain⟨q7,f⟩:=KO.fix B;unfold bG BI;refine⟨λg=>?_,λg=>⟨λg1=>?_,λg1=>⟨λa=>?_,λa=>⟨λo=>?_,λo=>⟨λs=>?_,λs=>?_⟩⟩⟩⟩⟩
  ·have g:dI k c=0:=by simpa using g
   rw[aj g,aj (.inl g)];exact fg.nil B
  ·have g:¬dI k c=0:=by simpa using g
   have g1:dI k c=1:=by simpa using g1
   rw[af g,aj g1,aj (.inr (.inl g1))];intro w8 L M N O;replace f:=f.ak (av.same no L M N O);obtain⟨F8,t,u⟩:=KF.co f;refine⟨_,rfl,_,(KF.ay f).aE rfl,_,rfl,_,(KF.ay f).cell rfl,⟨(XQ t c k.now).mono ?_⟩⟩;rintro e H ⟨⟨n,m,rfl⟩,x⟩;exact⟨_,_,rfl,fg.nil (KF.loose (u _ _ x))⟩
  ·have g:¬dI k c=0:=by simpa using g
   have g1:¬dI k c=1:=by simpa using g1
   have a:dI k c=2:=by simpa using a
   rw[af g,af g1,aj a,aj (.inr (.inr (.inl a)))];obtain⟨F8,t,u⟩:=KF.so f;refine⟨_,rfl,_,(KF.ay f).aE rfl,⟨(Vh t c).mono ?_⟩⟩;rintro e H ⟨rfl,x⟩;exact⟨_,rfl,fg.nil (KF.loose (u _ _ x))⟩
  ·have g:¬dI k c=0:=by simpa using g
   have g1:¬dI k c=1:=by simpa using g1
   have a:¬dI k c=2:=by simpa using a
   have o:dI k c=3:=by simpa using o
   rw[af g,af g1,af a,aj o,af (by omega),aj o];refine⟨(aaG r V B c).mono ?_⟩;rintro e H ⟨pp,d,rfl,C⟩;exact⟨_,_,_,rfl,pp,d,rfl,C⟩
  ·have g:¬dI k c=0:=by simpa using g
   have g1:¬dI k c=1:=by simpa using g1
   have a:¬dI k c=2:=by simpa using a
   have o:¬dI k c=3:=by simpa using o
   have s:dI k c=9:=by simpa using s
   rw[af g,af g1,af a,af o,aj s,aj (.inr (.inr (.inr s)))];refine⟨(aak B A c).mono ?_⟩;rintro e H ⟨rfl,C⟩;exact⟨rfl,fg.nil C⟩
  ·have g:¬dI k c=0:=by simpa using g
   have g1:¬dI k c=1:=by simpa using g1
   have a:¬dI k c=2:=by simpa using a
   have o:¬dI k c=3:=by simpa using o
   have s:¬dI k c=9:=by simpa using s
   rw[af g,af g1,af a,af o,af s,af (by omega),af o];refine⟨(aaE r V B c _).mono ?_⟩;rintro e H ⟨pp,d,rfl,C⟩;exact⟨_,_,_,rfl,pp,d,rfl,C⟩
 refine⟨_,rfl,_,(cL l).cell rfl,λg=>?_,λg=>last _ l.drop⟩;obtain⟨q6,D⟩:=KO.fix l.drop;obtain⟨F6,E,G⟩:=KF.co D;refine⟨_,rfl,_,(KF.ay D).aE rfl,λa=>⟨(N9 E c _).mono ?_⟩,λa=>⟨(N9 E c ae).mono ?_⟩⟩
 ·rintro e w8 ⟨⟨n,rfl⟩,y⟩;exact⟨_,rfl,last _ (KF.loose (G _ _ y))⟩
 ·rintro e w8 ⟨⟨n,rfl⟩,y⟩;exact⟨_,rfl,last _ (KF.loose (G _ _ y))⟩
theorem aax (r:Tab W) (y:¬F 0) (h:ai (KO b) W w F k) (e:cu):Cx 71 #[pt b,.agg (lg e).toArray] w (fg (KO b) W F (j4 k e) (rn k e)):=by
 refine u71 ?_;refine⟨λw1 t=>?_⟩;have m:ai (aF (KO b) (Lb w.heap.size 33)) W w1 F (k,lg e):=h.add (t.ak no) (Rw.new t rfl) (λi hi=>bF hi.symm);generalize w.heap.size=p at m⊢;have n:=cL m;have hd:ai (KO b) W w1 F k:=m.drop;refine⟨_,n.cell rfl,λg=>?_,λg=>⟨λg1=>?_,λg1=>⟨λa=>?_,λa=>⟨λc=>?_,λc=>⟨λd=>?_,λd=>⟨λf=>?_,λf=>⟨λl=>?_,λl=>?_⟩⟩⟩⟩⟩⟩⟩
 ·have g:e.1=11:=by simpa using g
  refine⟨_,n.cell rfl,⟨(Z7 hd e.2.2.1).mono ?_⟩⟩;rintro o s ⟨rfl,j⟩;exact⟨_,rfl,⟨gn (x:=Dc k e.2.2.1) j (by unfold j4;rw[aj g]) (by unfold rn;rw[aj g])⟩⟩
 ·have g:¬e.1=11:=by simpa using g
  have g1:e.1=19:=by simpa using g1
  refine⟨_,n.cell rfl,⟨(aag hd e.2.2.1).mono ?_⟩⟩;rintro o s ⟨rfl,rfl⟩;exact⟨_,_,rfl,⟨sL (x:=AF k e.2.2.1) hd (by unfold j4;rw[af g,aj g1]) (by unfold rn;rw[af g,aj g1])⟩⟩
 ·have g:¬e.1=11:=by simpa using g
  have g1:¬e.1=19:=by simpa using g1
  have a:e.1=25:=by simpa using a
  refine⟨_,n.cell rfl,⟨(aau hd e.2.2.2.2).mono ?_⟩⟩;rintro o s ⟨rfl,j⟩;exact⟨_,rfl,⟨gn (x:=nN e.2.2.2.2) j (by unfold j4;rw[af g,af g1,aj a]) (by unfold rn;rw[af g,af g1,aj a])⟩⟩
 ·have g:¬e.1=11:=by simpa using g
  have g1:¬e.1=19:=by simpa using g1
  have a:¬e.1=25:=by simpa using a
  have c:e.1=27:=by simpa using c
  intro G z A B C;have m:=m.ak (av.same no z A B C);obtain⟨q,F1,_,u,D⟩:=KS.fix m;obtain⟨F2,hA,E⟩:=KF.ga u;refine⟨_,rfl,_,(KF.ay u).aE rfl,_,(cL m).cell rfl,⟨(Zf hA e.2.1).mono ?_⟩⟩;rintro o H ⟨rfl,j⟩;exact⟨_,rfl,⟨gn (x:=qT k.ga e.2.1) (D _ _ (E _ _ j)).drop (by unfold j4;rw[af g,af g1,af a,aj c]) (by unfold rn;rw[af g,af g1,af a,aj c])⟩⟩
 ·have g:¬e.1=11:=by simpa using g
  have g1:¬e.1=19:=by simpa using g1
  have a:¬e.1=25:=by simpa using a
  have c:¬e.1=27:=by simpa using c
  have d:e.1=28:=by simpa using d
  refine⟨_,n.cell rfl,⟨(aal hd e.2.2.2.2).mono ?_⟩⟩;rintro o s ⟨rfl,j⟩;exact⟨_,rfl,⟨gn (x:=AS e.2.2.2.2) j (by unfold j4;rw[af g,af g1,af a,af c,aj d]) (by unfold rn;rw[af g,af g1,af a,af c,aj d])⟩⟩
 ·have g:¬e.1=11:=by simpa using g
  have g1:¬e.1=19:=by simpa using g1
  have a:¬e.1=25:=by simpa using a
  have c:¬e.1=27:=by simpa using c
  have d:¬e.1=28:=by simpa using d
  have f:e.1=29:=by simpa using f
  refine⟨_,n.cell rfl,_,n.cell rfl,⟨(aaB hd e.2.2.1 e.2.2.2.2).mono ?_⟩⟩;rintro o s ⟨rfl,j⟩;exact⟨_,rfl,⟨gn (x:=Fu e.2.2.1 e.2.2.2.2) j (by unfold j4;rw[af g,af g1,af a,af c,af d,aj f]) (by unfold rn;rw[af g,af g1,af a,af c,af d,aj f])⟩⟩
 ·have g:¬e.1=11:=by simpa using g
  have g1:¬e.1=19:=by simpa using g1
  have a:¬e.1=25:=by simpa using a
  have c:¬e.1=27:=by simpa using c
  have d:¬e.1=28:=by simpa using d
  have f:¬e.1=29:=by simpa using f
  have l:e.1=30:=by simpa using l
  refine⟨(Z3 r y hd).mono ?_⟩;rintro o s ⟨rfl,j⟩;exact⟨_,rfl,⟨sL (x:=(tn k,0)) j (by unfold j4;rw[af g,af g1,af a,af c,af d,af f,aj l]) (by unfold rn;rw[af g,af g1,af a,af c,af d,af f,aj l])⟩⟩
 ·have g:¬e.1=11:=by simpa using g
  have g1:¬e.1=19:=by simpa using g1
  have a:¬e.1=25:=by simpa using a
  have c:¬e.1=27:=by simpa using c
  have d:¬e.1=28:=by simpa using d
  have f:¬e.1=29:=by simpa using f
  have l:¬e.1=30:=by simpa using l
  exact⟨gn (x:=2) hd (by unfold j4;rw[af g,af g1,af a,af c,af d,af f,af l]) (by unfold rn;rw[af g,af g1,af a,af c,af d,af f,af l])⟩
theorem nR {f:FuncId} {args:Array Value} {k':K} {rs a:List Rc} (h:Cx f args w (fg (KO b) W F k rs)) (d:k=k') (g:rs=a):Cx f args w λe w'=>∃p n c,e=Z (.slice p n c)/\fg (KO b) W F k' a (.returned (.slice p n c)) w':=by
 subst d;subst g;refine h.mono ?_;rintro e w1 ⟨p,c,rfl,i⟩;exact⟨_,_,_,rfl,p,c,rfl,i⟩
theorem xS {e:cu} (h:4<=e.1/\e.1<=9):iV k e=cT k e/\qh k e=gw k e:=by
 unfold cT gw;simp only[af (show ¬e.1=1 by omega),af (show ¬e.1=2 by omega),af (show ¬e.1=3 by omega),aj h];exact⟨trivial,trivial⟩
theorem xQ {e:cu} (h:12<=e.1/\e.1<=17):pU k e=cT k e/\gh (sh k e)=gw k e:=by
 unfold cT gw;simp only[af (show ¬e.1=1 by omega),af (show ¬e.1=2 by omega),af (show ¬e.1=3 by omega),af (show ¬(4<=e.1/\e.1<=9) by omega),aj h];exact⟨trivial,trivial⟩
theorem xR {e:cu} (h:e.1=10∨e.1=20∨e.1=21∨e.1=22∨e.1=26∨(e.1=18/\¬e.2.1 = -1)):jY k e=cT k e/\ra k e=gw k e:=by
 unfold cT gw;simp only[af (show ¬e.1=1 by omega),af (show ¬e.1=2 by omega),af (show ¬e.1=3 by omega),af (show ¬(4<=e.1/\e.1<=9) by omega),af (show ¬(12<=e.1/\e.1<=17) by omega)];by_cases a:e.1=18
 ·rw[aj a,aj a,af (by omega),af (by omega)];exact⟨rfl,rfl⟩
 ·rw[af a,af a,aj (by omega),aj (by omega)];exact⟨rfl,rfl⟩
theorem OE {e:cu} (h:e.1=23∨e.1=24):iC k (decide (e.1=23)) e.2.1=cT k e/\gh (kL k (decide (e.1=23)) e.2.1)=gw k e:=by
 unfold cT gw;simp only[af (show ¬e.1=1 by omega),af (show ¬e.1=2 by omega),af (show ¬e.1=3 by omega),af (show ¬(4<=e.1/\e.1<=9) by omega),af (show ¬(12<=e.1/\e.1<=17) by omega),af (show ¬e.1=18 by omega),af (show ¬(e.1=10∨e.1=20∨e.1=21∨e.1=22∨e.1=26) by omega),aj h];exact⟨trivial,trivial⟩
theorem wm (c:Tab W) (l:¬F 0) (h:ai (KO b) W w F k) (O:k.tm.now=k.now) (e:cu):Cx 12 #[pt b,.agg (lg e).toArray] w (fg (KO b) W F (cT k e) (gw k e)):=by
 have M:1<=k.n:=by
  obtain⟨q,V⟩:=KO.fix h;exact(KF.num V).1
 refine u12 ?_;refine⟨λw1 X=>?_⟩;have o:ai (aF (KO b) (Lb w.heap.size 33)) W w1 F (k,lg e):=h.add (X.ak no) (Rw.new X rfl) (λi hi=>bF hi.symm);generalize w.heap.size=p at o⊢;have a:=cL o;have hd:ai (KO b) W w1 F k:=o.drop;refine⟨λg=>(by cases g),λ_=>⟨_,a.cell rfl,λg1=>?c1,λg1=>⟨λj=>?c2,λj=>⟨λN=>?c3,λN=>⟨λP=>?c4,λP=>⟨λQ=>?c5,λQ=>⟨λR=>?c6,λR=>⟨λS=>?c7,λS=>⟨λT=>?c8,λT=>⟨λU=>?c9,λU=>⟨λt=>?GH,λt=>⟨λu=>?Mb,λu=>⟨λy=>?Mc,λy=>⟨λz=>?Wc,λz=>⟨λA=>?Mf,λA=>⟨λB=>?CZ,λB=>⟨λC=>?Mp,λC=>⟨λD=>?CU,λD=>⟨λE=>?Mz,λE=>⟨λG=>?C2,λG=>⟨λH=>?MG,λH=>⟨λI=>?Wt,λI=>⟨λJ=>?MJ,λJ=>⟨λL=>?MM,λL=>?c0⟩⟩⟩⟩⟩⟩⟩⟩⟩⟩⟩⟩⟩⟩⟩⟩⟩⟩⟩⟩⟩⟩⟩⟩
 case c1=>
  have g1:e.1=1:=by simpa using g1
  have d:cT k e=if e.2.1<0∨k.n<=e.2.1 then k else bG k e.2.1:=by unfold cT;rw[aj g1]
  have f:gw k e=if e.2.1<0∨k.n<=e.2.1 then gh 3 else BI k e.2.1:=by unfold gw;rw[aj g1]
  rw[d,f];intro r Z q2 q3 q4;replace o:=o.ak (av.same no Z q2 q3 q4);have a:=cL o;obtain⟨q,V⟩:=KO.fix o.drop;refine⟨_,a.cell rfl,λg=>⟨_,a.cell rfl,_,rfl,_,(KF.ay V).cell rfl,λj=>⟨gn (x:=3) o.drop ?_ ?_⟩,λj=>⟨_,a.cell rfl,⟨nR (aaD c l o.drop O e.2.1) ?_ ?_⟩⟩⟩,λg=>⟨gn (x:=3) o.drop ?_ ?_⟩⟩
  ·rw[aj (.inr (aL j))]
  ·rw[aj (.inr (aL j))]
  ·have:=aT g;have:=aT j;dsimp only at this;rw[af (by omega)]
  ·have:=aT g;have:=aT j;dsimp only at this;rw[af (by omega)]
  ·rw[aj (.inl (aL g))]
  ·rw[aj (.inl (aL g))]
 case c2=>
  have g1:¬e.1=1:=by simpa using g1
  have j:e.1=2:=by simpa using j
  refine⟨_,a.cell rfl,⟨(aaF hd e.2.2.2.2).mono ?_⟩⟩;rintro s r ⟨rfl,m⟩;exact⟨_,rfl,⟨gn (x:=FF k e.2.2.2.2) m (by unfold cT;rw[af g1,aj j]) (by unfold gw;rw[af g1,aj j])⟩⟩
 case c3=>
  have g1:¬e.1=1:=by simpa using g1
  have j:¬e.1=2:=by simpa using j
  have N:e.1=3:=by simpa using N
  refine⟨_,a.cell rfl,_,a.cell rfl,⟨(aaA c l M hd e.2.2.1 e.2.2.2.1).mono ?_⟩⟩;rintro s r ⟨rfl,m⟩;exact⟨_,_,rfl,⟨sL (x:=BF k e.2.2.1 e.2.2.2.1) m (by unfold cT;rw[af g1,af j,aj N]) (by unfold gw;rw[af g1,af j,aj N])⟩⟩
 case c4=>
  have g:e.1=4:=by simpa using P
  obtain⟨d,f⟩:=xS (k:=k) (e:=e) (by omega);exact⟨_,a.cell rfl,_,a.cell rfl,_,a.cell rfl,_,a.cell rfl,_,a.cell rfl,⟨nR (yw c l hd e) d f⟩⟩
 case c5=>
  have g:e.1=5:=by simpa using Q
  obtain⟨d,f⟩:=xS (k:=k) (e:=e) (by omega);exact⟨_,a.cell rfl,_,a.cell rfl,_,a.cell rfl,_,a.cell rfl,_,a.cell rfl,⟨nR (yw c l hd e) d f⟩⟩
 case c6=>
  have g:e.1=6:=by simpa using R
  obtain⟨d,f⟩:=xS (k:=k) (e:=e) (by omega);exact⟨_,a.cell rfl,_,a.cell rfl,_,a.cell rfl,_,a.cell rfl,_,a.cell rfl,⟨nR (yw c l hd e) d f⟩⟩
 case c7=>
  have g:e.1=7:=by simpa using S
  obtain⟨d,f⟩:=xS (k:=k) (e:=e) (by omega);exact⟨_,a.cell rfl,_,a.cell rfl,_,a.cell rfl,_,a.cell rfl,_,a.cell rfl,⟨nR (yw c l hd e) d f⟩⟩
 case c8=>
  have g:e.1=8:=by simpa using T
  obtain⟨d,f⟩:=xS (k:=k) (e:=e) (by omega);exact⟨_,a.cell rfl,_,a.cell rfl,_,a.cell rfl,_,a.cell rfl,_,a.cell rfl,⟨nR (yw c l hd e) d f⟩⟩
 case c9=>
  have g:e.1=9:=by simpa using U
  obtain⟨d,f⟩:=xS (k:=k) (e:=e) (by omega);exact⟨_,a.cell rfl,_,a.cell rfl,_,a.cell rfl,_,a.cell rfl,_,a.cell rfl,⟨nR (yw c l hd e) d f⟩⟩
 case GH=>
  have g:e.1=12:=by simpa using t
  obtain⟨d,f⟩:=xQ (k:=k) (e:=e) (by omega);refine⟨_,a.cell rfl,_,a.cell rfl,_,a.cell rfl,_,a.cell rfl,_,a.cell rfl,⟨(yu c l M hd e).mono ?_⟩⟩;rintro s r ⟨rfl,m⟩;exact⟨_,rfl,⟨gn (x:=sh k e) m d f.symm⟩⟩
 case Mb=>
  have g:e.1=13:=by simpa using u
  obtain⟨d,f⟩:=xQ (k:=k) (e:=e) (by omega);refine⟨_,a.cell rfl,_,a.cell rfl,_,a.cell rfl,_,a.cell rfl,_,a.cell rfl,⟨(yu c l M hd e).mono ?_⟩⟩;rintro s r ⟨rfl,m⟩;exact⟨_,rfl,⟨gn (x:=sh k e) m d f.symm⟩⟩
 case Mc=>
  have g:e.1=14:=by simpa using y
  obtain⟨d,f⟩:=xQ (k:=k) (e:=e) (by omega);refine⟨_,a.cell rfl,_,a.cell rfl,_,a.cell rfl,_,a.cell rfl,_,a.cell rfl,⟨(yu c l M hd e).mono ?_⟩⟩;rintro s r ⟨rfl,m⟩;exact⟨_,rfl,⟨gn (x:=sh k e) m d f.symm⟩⟩
 case Wc=>
  have g:e.1=15:=by simpa using z
  obtain⟨d,f⟩:=xQ (k:=k) (e:=e) (by omega);refine⟨_,a.cell rfl,_,a.cell rfl,_,a.cell rfl,_,a.cell rfl,_,a.cell rfl,⟨(yu c l M hd e).mono ?_⟩⟩;rintro s r ⟨rfl,m⟩;exact⟨_,rfl,⟨gn (x:=sh k e) m d f.symm⟩⟩
 case Mf=>
  have g:e.1=16:=by simpa using A
  obtain⟨d,f⟩:=xQ (k:=k) (e:=e) (by omega);refine⟨_,a.cell rfl,_,a.cell rfl,_,a.cell rfl,_,a.cell rfl,_,a.cell rfl,⟨(yu c l M hd e).mono ?_⟩⟩;rintro s r ⟨rfl,m⟩;exact⟨_,rfl,⟨gn (x:=sh k e) m d f.symm⟩⟩
 case CZ=>
  have g:e.1=17:=by simpa using B
  obtain⟨d,f⟩:=xQ (k:=k) (e:=e) (by omega);refine⟨_,a.cell rfl,_,a.cell rfl,_,a.cell rfl,_,a.cell rfl,_,a.cell rfl,⟨(yu c l M hd e).mono ?_⟩⟩;rintro s r ⟨rfl,m⟩;exact⟨_,rfl,⟨gn (x:=sh k e) m d f.symm⟩⟩
 case Mp=>
  have g:e.1=18:=by simpa using C
  refine⟨_,a.cell rfl,λj=>?_,λj=>?_⟩
  ·have j:e.2.1 = -1:=by simpa using j
   obtain⟨q,F1,_,Y,kK⟩:=KS.fix o;obtain⟨F2,hA,kA⟩:=KF.wk Y;refine⟨_,rfl,_,(KF.ay Y).aE rfl,⟨(U2 hA (o.ml c l) (-1)).mono ?_⟩⟩;rintro s w4 ⟨rfl,m⟩;refine⟨_,_,rfl,⟨sL (x:=uY k.wk (-1)) (kK _ _ (kA _ _ m)).drop ?_ ?_⟩⟩
   ·unfold cT;rw[af (by omega),af (by omega),af (by omega),af (by omega),af (by omega),aj g,aj j]
   ·unfold gw;rw[af (by omega),af (by omega),af (by omega),af (by omega),af (by omega),aj g,aj j]
  ·have j:¬e.2.1 = -1:=by simpa using j
   obtain⟨d,f⟩:=xR (k:=k) (e:=e) (by omega);exact⟨_,a.cell rfl,_,a.cell rfl,_,a.cell rfl,_,a.cell rfl,_,a.cell rfl,⟨nR (yv c l hd e) d f⟩⟩
 case CU=>
  have g:e.1=10:=by simpa using D
  obtain⟨d,f⟩:=xR (k:=k) (e:=e) (by omega);exact⟨_,a.cell rfl,_,a.cell rfl,_,a.cell rfl,_,a.cell rfl,_,a.cell rfl,⟨nR (yv c l hd e) d f⟩⟩
 case Mz=>
  have g:e.1=20:=by simpa using E
  obtain⟨d,f⟩:=xR (k:=k) (e:=e) (by omega);exact⟨_,a.cell rfl,_,a.cell rfl,_,a.cell rfl,_,a.cell rfl,_,a.cell rfl,⟨nR (yv c l hd e) d f⟩⟩
 case C2=>
  have g:e.1=21:=by simpa using G
  obtain⟨d,f⟩:=xR (k:=k) (e:=e) (by omega);exact⟨_,a.cell rfl,_,a.cell rfl,_,a.cell rfl,_,a.cell rfl,_,a.cell rfl,⟨nR (yv c l hd e) d f⟩⟩
 case MG=>
  have g:e.1=22:=by simpa using H
  obtain⟨d,f⟩:=xR (k:=k) (e:=e) (by omega);exact⟨_,a.cell rfl,_,a.cell rfl,_,a.cell rfl,_,a.cell rfl,_,a.cell rfl,⟨nR (yv c l hd e) d f⟩⟩
 case Wt=>
  have g:e.1=26:=by simpa using I
  obtain⟨d,f⟩:=xR (k:=k) (e:=e) (by omega);exact⟨_,a.cell rfl,_,a.cell rfl,_,a.cell rfl,_,a.cell rfl,_,a.cell rfl,⟨nR (yv c l hd e) d f⟩⟩
 case MJ=>
  have g:e.1=23:=by simpa using J
  obtain⟨d,f⟩:=OE (k:=k) (e:=e) (by omega);refine⟨_,a.cell rfl,_,a.cell rfl,⟨(RH c l hd (decide (e.1=23)) e.2.1).mono ?_⟩⟩;rintro s r ⟨rfl,m⟩;exact⟨_,rfl,⟨gn (x:=kL k (decide (e.1=23)) e.2.1) m d f.symm⟩⟩
 case MM=>
  have g:e.1=24:=by simpa using L
  obtain⟨d,f⟩:=OE (k:=k) (e:=e) (by omega);refine⟨_,a.cell rfl,_,a.cell rfl,⟨(RH c l hd (decide (e.1=23)) e.2.1).mono ?_⟩⟩;rintro s r ⟨rfl,m⟩;exact⟨_,rfl,⟨gn (x:=kL k (decide (e.1=23)) e.2.1) m d f.symm⟩⟩
 case c0=>
  have g1:¬e.1=1:=by simpa using g1
  have j:¬e.1=2:=by simpa using j
  have N:¬e.1=3:=by simpa using N
  have P:¬e.1=4:=by simpa using P
  have Q:¬e.1=5:=by simpa using Q
  have R:¬e.1=6:=by simpa using R
  have S:¬e.1=7:=by simpa using S
  have T:¬e.1=8:=by simpa using T
  have U:¬e.1=9:=by simpa using U
  have t:¬e.1=12:=by simpa using t
  have u:¬e.1=13:=by simpa using u
  have y:¬e.1=14:=by simpa using y
  have z:¬e.1=15:=by simpa using z
  have A:¬e.1=16:=by simpa using A
  have B:¬e.1=17:=by simpa using B
  have C:¬e.1=18:=by simpa using C
  have D:¬e.1=10:=by simpa using D
  have E:¬e.1=20:=by simpa using E
  have G:¬e.1=21:=by simpa using G
  have H:¬e.1=22:=by simpa using H
  have I:¬e.1=26:=by simpa using I
  have J:¬e.1=23:=by simpa using J
  have L:¬e.1=24:=by simpa using L
  have d:j4 k e=cT k e:=by
   unfold cT;rw[af (by omega),af (by omega),af (by omega),af (by omega),af (by omega),af (by omega),af (by omega),af (by omega)]
  have f:rn k e=gw k e:=by
   unfold gw;rw[af (by omega),af (by omega),af (by omega),af (by omega),af (by omega),af (by omega),af (by omega),af (by omega)]
  refine aU.mk ?_;rw[aeZ];exact⟨_,a.cell rfl,_,a.cell rfl,_,a.cell rfl,_,a.cell rfl,_,a.cell rfl,⟨nR (aax c l hd e) d f⟩⟩
end
theorem kd.perm {σ:Type} {A:Ob σ} {w:World} {l l':List σ} (h:l.Perm l'):∀{F:Fp},Fam A w F l->Fam A w F l':=by
 induction h with
 | nil=>exact λh=>h
 | cons x _ m=>
  rintro F ⟨F1,F2,d,n,e,a⟩
  exact⟨F1,F2,d,m n,e,a⟩
 | swap x y l=>
  rintro F ⟨F1,F2,d,⟨F3,F4,o,k2,f,p⟩,e,a⟩;refine⟨F3,λi=>F1 i∨F4 i,o,⟨F1,F4,d,k2,λ_=>bp,λi hi g=>a i hi ((f i).2 (.inr g))⟩,λi=>?_,λi hi g=>?_⟩
  ·rw[e,f];constructor
   ·rintro(h|h|h)
    ·exact .inr (.inl h)
    ·exact .inl h
    ·exact .inr (.inr h)
   ·rintro(h|h|h)
    ·exact .inr (.inl h)
    ·exact .inl h
    ·exact .inr (.inr h)
  ·rcases g with h|h
   ·exact a i h ((f i).2 (.inl hi))
   ·exact p i hi h
 | trans _ _ j k=>exact λh=>k (j h)
abbrev kW (b:Nat) (W w:World) (l:List KP) (c:List Value):Prop:=cj W w (aF (Fam (wN b)) (Rw b 94 (λs=>s))) (l,c)
section
variable {b:Nat} {W w w':World} {l:List KP} {c:List Value}
theorem kW.push (h:kW b W w l c) (a:av no w w') {s:KP} {G:Fp} (hA:wN b w' G s) (d:∀i,G i->w.heap.size<=i):kW b W w' (l++[s]) c:=by
 obtain⟨F1,e,f⟩:=cj.left h;exact f _ _ (Fam.push e a hA d)
theorem kW.wr (h:kW b W w l c) {o:Nat} {v:List Value} (c':List Value) (f:bc c o v=c') (g:o+v.length<=c.length) {K:World->Prop} (i:∀w',kW b W w' l c'->K w'):Wr w (((⟨b,0,ah⟩:Addr).add 0).add o) v K:=by
 obtain⟨F2,a,k2⟩:=cj.right h;have e:((⟨b,0,ah⟩:Addr).add 0).add o=(⟨b,0,ah⟩:Addr).add o:=by simp[add_lit]
 rw[e];subst f;exact a.ay.wr g λw' d=>i w' (k2 _ _ (a.gD d.U d.aK))
theorem kW.ay (h:kW b W w l c):aM w b c 94:=by
 obtain⟨F2,a,_⟩:=cj.right h;exact a.ay
end
theorem adG (n:Nat) (f:1<=n/\n<=64) (w:World):Cx 42 #[I (n:Int)] w λe w'=>∃b F,e=Z (.tuple #[pt b,I 0])/\jl b w' F (n,aD 16 (-1))/\av no w w'/\∀i,F i->w.heap.size<=i:=by
 refine u42 ?_;refine⟨λ_=>⟨λg=>?_,λ_=>⟨λw1 a=>⟨w.heap.size,λi=>i=w.heap.size,rfl,⟨Rw.new a rfl,⟨by simp,?_,λv d=>?_⟩⟩,a.ak no,λi hi=>bF hi.symm⟩⟩⟩,λg=>?_⟩
 ·have:=aL g;omega
 ·simp only;omega
 ·rw[k8 d];omega
 ·have:=aL g;omega
theorem abO (p:Option Addr) (n:Int) (w:World):Cx 33 #[.pointer p,I n] w λe w'=>e=Z (.pointer p)/\w'=w:=by
 refine u33 ?_;exact⟨rfl,rfl⟩
theorem abK (p:Option Addr) (n:Int) (w:World):Cx 35 #[.pointer p,I n] w λe w'=>e=Z (.pointer p)/\w'=w:=by
 refine u35 ?_;exact⟨rfl,rfl⟩
theorem abP (p:Option Addr) (n:Int) (w:World):Cx 37 #[.pointer p,I n] w λe w'=>e=Z (.pointer p)/\w'=w:=by
 refine u37 ?_;exact⟨rfl,rfl⟩
theorem abI (p:Option Addr) (n:Int) (w:World):Cx 39 #[.pointer p,I n] w λe w'=>e=Z (.pointer p)/\w'=w:=by
 refine u39 ?_;exact⟨rfl,rfl⟩
theorem abL (p:Option Addr) (n:Int) (w:World):Cx 41 #[.pointer p,I n] w λe w'=>e=Z (.pointer p)/\w'=w:=by
 refine u41 ?_;exact⟨rfl,rfl⟩
theorem abQ (p:Option Addr) (n:Int) (w:World):Cx 43 #[.pointer p,I n] w λe w'=>e=Z (.pointer p)/\w'=w:=by
 refine u43 ?_;exact⟨rfl,rfl⟩
theorem abE (p:Option Addr) (n:Int) (w:World):Cx 45 #[.pointer p,I n] w λe w'=>e=Z (.pointer p)/\w'=w:=by
 refine u45 ?_;exact⟨rfl,rfl⟩
theorem abN (p:Option Addr) (n:Int) (w:World):Cx 47 #[.pointer p,I n] w λe w'=>e=Z (.pointer p)/\w'=w:=by
 refine u47 ?_;exact⟨rfl,rfl⟩
theorem abM (p:Option Addr) (n:Int) (w:World):Cx 49 #[.pointer p,I n] w λe w'=>e=Z (.pointer p)/\w'=w:=by
 refine u49 ?_;exact⟨rfl,rfl⟩
theorem abG (p:Option Addr) (n:Int) (w:World):Cx 51 #[.pointer p,I n] w λe w'=>e=Z (.pointer p)/\w'=w:=by
 refine u51 ?_;exact⟨rfl,rfl⟩
theorem abF (p:Option Addr) (n:Int) (w:World):Cx 53 #[.pointer p,I n] w λe w'=>e=Z (.pointer p)/\w'=w:=by
 refine u53 ?_;exact⟨rfl,rfl⟩
theorem abJ (p:Option Addr) (n:Int) (w:World):Cx 55 #[.pointer p,I n] w λe w'=>e=Z (.pointer p)/\w'=w:=by
 refine u55 ?_;exact⟨rfl,rfl⟩
theorem abH (p:Option Addr) (n:Int) (w:World):Cx 57 #[.pointer p,I n] w λe w'=>e=Z (.pointer p)/\w'=w:=by
 refine u57 ?_;exact⟨rfl,rfl⟩
theorem X8:eO Tryz.prog 90 137 1 8 [.pointer ah]:=⟨by kernel_rfl,by kernel_rfl,rfl,by omega⟩
theorem nX.push {p:Option Addr} {c n:Nat} {w w1 s:World} {F:Fp} (h:nX p c w F n) (J:n<=100000) {bq:Nat} {G:Fp} (j:av no w w1) (y:pk bq w1 G ()) (z:∀i,G i->w.heap.size<=i)
  {A:TypeId} (B:dy w1 s (.cells (dK [pt bq]) A (0,0))) (ty:TypeId):∃p' c' a,(bR #[90,90] ty #[.slice p n c,.slice (aa ⟨w1.heap.size,0,ah⟩) 1 1]).run Tryz.prog s=.ok (.slice p' (n+1) c') a/\
   ∃t,nX p' c' a t (n+1)/\av F w a/\∀i,t i->F i∨w.heap.size<=i:=by
 obtain⟨u,C,F1,F2,d,D,k,E⟩:=h;subst C;have m:=d.2.ak j (λ_ _ h=>h);obtain⟨p',c',a,H,I,f,g⟩:=LO X8 (v:=pt bq) rfl m (by dsimp only;omega) (by dsimp only;omega) B ty;have o:=Fam.push D j (show At pk w1 G (bq,())from y) z;obtain⟨H2,f1,f2,f3⟩:=o
 have hd:∀i,H2 i->¬bf p i:=λi hi e=>by
  rcases f3 i hi with h|h
  ·exact E i ((d.1 i).2 e) h
  ·have:=(Frame.lpo ..).lt d i ((d.1 i).2 e);omega
 have q:Fam (At pk) a H2 (u++[(bq,())]):=Frame.mQ.ak f1 f (λi hi e=>hd i hi e);have r:∀i,H2 i->i<w1.heap.size:=λi hi=>Frame.mQ.lt f1 i hi;refine⟨p',c',a,H,λi=>bf p' i∨H2 i,⟨u++[(bq,())],by simp,λi=>bf p' i,H2,⟨λ_=>bp,?_⟩,q,λ_=>bp,λi hi x=>?_⟩,?_,λi hi=>?_⟩
 ·simp only[cG,rW,eI];exact I
 ·rcases g i hi with h|h
  ·exact hd i x h
  ·have:=r i x;omega
 ·exact(j.mono (λ_ _ h=>h.elim)).trans f (λi hi e=>(k i).2 (.inl ((d.1 i).2 e)))
 ·rcases hi with hi|hi
  ·rcases g i hi with h|h
   ·exact .inl ((k i).2 (.inl ((d.1 i).2 h)))
   ·exact .inr (aW j.size h)
  ·exact(f3 i hi).imp (λh=>(k i).2 (.inr h)) id
theorem XX {b:Nat} {w w':World} (a:dy w w' (.cells (dK [.pointer ah,.map ah]) 136 (0,0))):dp w.heap.size w' (λi=>i=w.heap.size) (ah,λ_=>ae):=by
 refine⟨ah,ah,⟨λi=>i=w.heap.size,λ_=>False,⟨λi=>i=w.heap.size,λ_=>False,Rw.new a rfl,λi h=>h,λi=>by simp,λ_ _ h=>h⟩,λi h=>h,λi=>by simp,λ_ _ h=>h⟩,⟨rfl,λk=>rfl,λr d=>(by cases d)⟩⟩
set_option maxRecDepth 100000 in
set_option maxHeartbeats 1000000 in
theorem RF (n:Nat) (R:1<=n/\n<=64) (w:World):Cx 8 #[I (n:Int)] w λe w'=>∃b F,e=Z (.tuple #[pt b,I 0])/\KO b w' F (dF n)/\av no w w'/\∀i,F i->w.heap.size<=i:=by
 refine u8 ?_;rw[t8];refine⟨λ_=>⟨λg=>(by have:=aL g;omega),λ_=>⟨(uP (n:Int) w).mono ?_⟩⟩,λg=>(by have:=aL g;omega)⟩;rintro e Q ⟨rfl,rfl⟩;refine⟨_,rfl,⟨λw1 U=>⟨λw2 hN=>?_⟩⟩⟩
 have u:kW w1.heap.size Q w2 [.ow Q.heap.size (λ_=>ah,0)] [.pointer ah,.pointer ah,.pointer ah,.pointer ah,.pointer ah,.pointer ah,.pointer ah,.pointer ah,.pointer ah,.pointer ah,.pointer ah,.pointer ah,.pointer ah,.pointer ah,.slice ah 0 0,I (n:Int),.int .u64 (mi (br n)),.int .u64 (mi (br n)),I 0,I 1073741824,.map (aa Q.heap.size)]:=by
  refine cj.add (A:=Fam (wN w1.heap.size)) (B:=Rw w1.heap.size 94 (λs=>s)) (w:=w1) (s:=[.ow Q.heap.size (λ_=>ah,0)]) ?_ (hN.ak no) (Rw.new hN rfl) (λi hi=>bF hi.symm);refine⟨λi=>i=Q.heap.size,⟨λi=>i=Q.heap.size,λ_=>False,bM.new U,λi h=>h,λi=>by simp,λ_ _ h=>h⟩,U.ak no,λi hi=>bF hi.symm⟩
 generalize hb:w1.heap.size=b at u⊢;generalize hm:Q.heap.size=m at u⊢;refine⟨(agQ (n:Int) _).mono ?_⟩;rintro e w3 (⟨P,_⟩|⟨_,d,F_th,rfl,O,L,N⟩)
 ·exact absurd ⟨by omega,by omega⟩ P
 replace u:=u.push L (s:=.th d (uS n)) O N;clear O N L;refine⟨_,_,rfl,⟨(abO _ _ _).mono ?_⟩⟩;rintro e w4 ⟨rfl,rfl⟩;refine⟨_,rfl,?_⟩;refine⟨(adz (n:Int) _).mono ?_⟩;rintro e w5 (⟨P,_⟩|⟨_,f,F_rq,rfl,O,L,N⟩)
 ·exact absurd ⟨by omega,by omega⟩ P
 replace u:=u.push L (s:=.rq f (aD n (32,[]))) O N;clear O N L;refine⟨_,_,rfl,⟨(abK _ _ _).mono ?_⟩⟩;rintro e w6 ⟨rfl,rfl⟩;refine⟨_,rfl,_,rfl,u.wr (o:=0) [pt d,.pointer ah,.pointer ah,.pointer ah,.pointer ah,.pointer ah,.pointer ah,.pointer ah,.pointer ah,.pointer ah,.pointer ah,.pointer ah,.pointer ah,.pointer ah,.slice ah 0 0,I (n:Int),.int .u64 (mi (br n)),.int .u64 (mi (br n)),I 0,I 1073741824,.map (aa m)] rfl (dP rfl) λw7 u=>⟨_,rfl,u.wr (o:=1) [pt d,pt f,.pointer ah,.pointer ah,.pointer ah,.pointer ah,.pointer ah,.pointer ah,.pointer ah,.pointer ah,.pointer ah,.pointer ah,.pointer ah,.pointer ah,.slice ah 0 0,I (n:Int),.int .u64 (mi (br n)),.int .u64 (mi (br n)),I 0,I 1073741824,.map (aa m)] rfl (dP rfl) λw8 u=>?_⟩⟩;refine⟨(agR n R _).mono ?_⟩;rintro e w9 ⟨k,F_tm,rfl,O,L,N⟩;replace u:=u.push L (s:=.tm k (mb n)) O N;clear O N L;refine⟨_,_,rfl,⟨(abP _ _ _).mono ?_⟩⟩;rintro e bz ⟨rfl,rfl⟩;refine⟨_,rfl,?_⟩;refine⟨(abT (n:Int) _).mono ?_⟩;rintro e cb (⟨P,_⟩|⟨_,r,F_ir,rfl,O,L,N⟩)
 ·exact absurd ⟨by omega,by omega⟩ P
 replace u:=u.push L (s:=.ir r ((n:Int),aD 16 i0)) O N;clear O N L;refine⟨_,_,rfl,⟨(abI _ _ _).mono ?_⟩⟩;rintro e cc ⟨rfl,rfl⟩;refine⟨_,rfl,_,rfl,u.wr (o:=2) [pt d,pt f,pt k,.pointer ah,.pointer ah,.pointer ah,.pointer ah,.pointer ah,.pointer ah,.pointer ah,.pointer ah,.pointer ah,.pointer ah,.pointer ah,.slice ah 0 0,I (n:Int),.int .u64 (mi (br n)),.int .u64 (mi (br n)),I 0,I 1073741824,.map (aa m)] rfl (dP rfl) λcd u=>⟨_,rfl,u.wr (o:=3) [pt d,pt f,pt k,pt r,.pointer ah,.pointer ah,.pointer ah,.pointer ah,.pointer ah,.pointer ah,.pointer ah,.pointer ah,.pointer ah,.pointer ah,.slice ah 0 0,I (n:Int),.int .u64 (mi (br n)),.int .u64 (mi (br n)),I 0,I 1073741824,.map (aa m)] rfl (dP rfl) λce u=>?_⟩⟩;refine⟨(adG n R _).mono ?_⟩;rintro e cl ⟨t,F_rt,rfl,O,L,N⟩;replace u:=u.push L (s:=.rt t ((n:Int),aD 16 (-1))) O N;clear O N L;refine⟨_,_,rfl,⟨(abL _ _ _).mono ?_⟩⟩;rintro e cq ⟨rfl,rfl⟩;refine⟨_,rfl,?_⟩;refine⟨(amb (n:Int) _).mono ?_⟩;rintro e cr (⟨P,_⟩|⟨_,x,F_wk,rfl,O,L,N⟩)
 ·exact absurd ⟨by omega,by omega⟩ P
 replace u:=u.push L (s:=.wk x (gQ n)) O N;clear O N L;refine⟨_,_,rfl,⟨(abQ _ _ _).mono ?_⟩⟩;rintro e dc ⟨rfl,rfl⟩;refine⟨_,rfl,_,rfl,u.wr (o:=4) [pt d,pt f,pt k,pt r,pt t,.pointer ah,.pointer ah,.pointer ah,.pointer ah,.pointer ah,.pointer ah,.pointer ah,.pointer ah,.pointer ah,.slice ah 0 0,I (n:Int),.int .u64 (mi (br n)),.int .u64 (mi (br n)),I 0,I 1073741824,.map (aa m)] rfl (dP rfl) λdl u=>⟨_,rfl,u.wr (o:=5) [pt d,pt f,pt k,pt r,pt t,pt x,.pointer ah,.pointer ah,.pointer ah,.pointer ah,.pointer ah,.pointer ah,.pointer ah,.pointer ah,.slice ah 0 0,I (n:Int),.int .u64 (mi (br n)),.int .u64 (mi (br n)),I 0,I 1073741824,.map (aa m)] rfl (dP rfl) λdn u=>?_⟩⟩;refine⟨(Xw (n:Int) _).mono ?_⟩;rintro e ds (⟨P,_⟩|⟨_,y,F_ca,rfl,O,L,N⟩)
 ·exact absurd ⟨by omega,by omega⟩ P
 replace u:=u.push L (s:=.ca y (lu n)) O N;clear O N L;refine⟨_,_,rfl,⟨(abE _ _ _).mono ?_⟩⟩;rintro e dv ⟨rfl,rfl⟩;refine⟨_,rfl,?_⟩;refine⟨(aey (n:Int) 12 _).mono ?_⟩;rintro e dx (⟨P,_⟩|⟨_,z,F_st,rfl,O,L,N⟩)
 ·exact absurd (show uV (n:Int) 12 from⟨by omega,by omega,by omega,by omega⟩) P
 replace u:=u.push L (s:=.st z (ma n 12)) O N;clear O N L;refine⟨_,_,rfl,⟨(abN _ _ _).mono ?_⟩⟩;rintro e ea ⟨rfl,rfl⟩;refine⟨_,rfl,_,rfl,u.wr (o:=6) [pt d,pt f,pt k,pt r,pt t,pt x,pt y,.pointer ah,.pointer ah,.pointer ah,.pointer ah,.pointer ah,.pointer ah,.pointer ah,.slice ah 0 0,I (n:Int),.int .u64 (mi (br n)),.int .u64 (mi (br n)),I 0,I 1073741824,.map (aa m)] rfl (dP rfl) λec u=>⟨_,rfl,u.wr (o:=7) [pt d,pt f,pt k,pt r,pt t,pt x,pt y,pt z,.pointer ah,.pointer ah,.pointer ah,.pointer ah,.pointer ah,.pointer ah,.slice ah 0 0,I (n:Int),.int .u64 (mi (br n)),.int .u64 (mi (br n)),I 0,I 1073741824,.map (aa m)] rfl (dP rfl) λed u=>?_⟩⟩;refine⟨(T6 n R _).mono ?_⟩;rintro e ee ⟨C,F_sc,rfl,O,L,N⟩;replace u:=u.push L (s:=.sc C (aD n 0)) O N;clear O N L;refine⟨_,_,rfl,⟨(abM _ _ _).mono ?_⟩⟩;rintro e eg ⟨rfl,rfl⟩;refine⟨_,rfl,?_⟩;refine⟨(Zg n R _).mono ?_⟩;rintro e ei ⟨D,F_ga,rfl,O,L,N⟩;replace u:=u.push L (s:=.ga D (aD n 0,0)) O N;clear O N L;refine⟨_,_,rfl,⟨(abG _ _ _).mono ?_⟩⟩;rintro e ej ⟨rfl,rfl⟩;refine⟨_,rfl,_,rfl,u.wr (o:=8) [pt d,pt f,pt k,pt r,pt t,pt x,pt y,pt z,pt C,.pointer ah,.pointer ah,.pointer ah,.pointer ah,.pointer ah,.slice ah 0 0,I (n:Int),.int .u64 (mi (br n)),.int .u64 (mi (br n)),I 0,I 1073741824,.map (aa m)] rfl (dP rfl) λek u=>⟨_,rfl,u.wr (o:=9) [pt d,pt f,pt k,pt r,pt t,pt x,pt y,pt z,pt C,pt D,.pointer ah,.pointer ah,.pointer ah,.pointer ah,.slice ah 0 0,I (n:Int),.int .u64 (mi (br n)),.int .u64 (mi (br n)),I 0,I 1073741824,.map (aa m)] rfl (dP rfl) λel u=>?_⟩⟩;refine⟨(Xx n R _).mono ?_⟩;rintro e em ⟨E,F_co,rfl,O,L,N⟩;replace u:=u.push L (s:=.co E (aD n ⟨ag,ae,0,0⟩)) O N;clear O N L;refine⟨_,_,rfl,⟨(abF _ _ _).mono ?_⟩⟩;rintro e en ⟨rfl,rfl⟩;refine⟨_,rfl,?_⟩;refine⟨(abk n R _).mono ?_⟩;rintro e eo ⟨H,F_me,rfl,O,L,N⟩;replace u:=u.push L (s:=.me H n) O N;clear O N L;refine⟨_,_,rfl,⟨(abJ _ _ _).mono ?_⟩⟩;rintro e ep ⟨rfl,rfl⟩;refine⟨_,rfl,_,rfl,u.wr (o:=12) [pt d,pt f,pt k,pt r,pt t,pt x,pt y,pt z,pt C,pt D,.pointer ah,.pointer ah,pt E,.pointer ah,.slice ah 0 0,I (n:Int),.int .u64 (mi (br n)),.int .u64 (mi (br n)),I 0,I 1073741824,.map (aa m)] rfl (dP rfl) λeq u=>⟨_,rfl,u.wr (o:=13) [pt d,pt f,pt k,pt r,pt t,pt x,pt y,pt z,pt C,pt D,.pointer ah,.pointer ah,pt E,pt H,.slice ah 0 0,I (n:Int),.int .u64 (mi (br n)),.int .u64 (mi (br n)),I 0,I 1073741824,.map (aa m)] rfl (dP rfl) λV u=>?_⟩⟩;refine⟨λX Y=>⟨λer al=>?_⟩⟩;replace u:=u.push (Y.ak no) (s:=.so V.heap.size (0,0)) (Rw.new Y rfl) (λi hi=>bF hi.symm);replace u:=u.push (al.ak no) (s:=.dk X.heap.size (ah,λ_=>ae)) (XX (b:=0) al) (λi hi=>bF hi.symm);generalize V.heap.size=J at u⊢;generalize X.heap.size=K at u⊢;refine⟨_,rfl,u.wr (o:=10) [pt d,pt f,pt k,pt r,pt t,pt x,pt y,pt z,pt C,pt D,pt J,.pointer ah,pt E,pt H,.slice ah 0 0,I (n:Int),.int .u64 (mi (br n)),.int .u64 (mi (br n)),I 0,I 1073741824,.map (aa m)] rfl (dP rfl) λes u=>⟨_,rfl,u.wr (o:=11) [pt d,pt f,pt k,pt r,pt t,pt x,pt y,pt z,pt C,pt D,pt J,pt K,pt E,pt H,.slice ah 0 0,I (n:Int),.int .u64 (mi (br n)),.int .u64 (mi (br n)),I 0,I 1073741824,.map (aa m)] rfl (dP rfl) λaz u=>?_⟩⟩;replace u:=u.push (av.refl no _) (s:=.gv ah 0 0) (G:=λ_=>False) ⟨[],rfl,λ_=>False,λ_=>False,⟨λi=>⟨λh=>h.elim,λ⟨a,ha,_⟩=>by cases ha⟩,Sl.nil _ _ _⟩,Fam.nil _,λi=>by simp,λ_ h=>h.elim⟩ (λi h=>h.elim);have bb:kW b Q az [.ow m (λ_=>ah,0),.th d (uS n),.rq f (aD n (32,[])),.tm k (mb n),.ir r ((n:Int),aD 16 i0),.rt t ((n:Int),aD 16 (-1)),.wk x (gQ n),.ca y (lu n),.st z (ma n 12),.sc C (aD n 0),.ga D (aD n 0,0),.co E (aD n ⟨ag,ae,0,0⟩),.me H n,.so J (0,0),.dk K (ah,λ_=>ae),.gv ah 0 0] [pt d,pt f,pt k,pt r,pt t,pt x,pt y,pt z,pt C,pt D,pt J,pt K,pt E,pt H,.slice ah 0 0,I (n:Int),.int .u64 (mi (br n)),.int .u64 (mi (br n)),I 0,I 1073741824,.map (aa m)]:=u;clear u;refine⟨bO bu (M:=M8) (σ:=Nat) (λi=>Ib (aa ⟨b,0,ah⟩) (n:Int) (i:Int)) (λi w'=>i<=n/\∃p c,kW b Q w' [.ow m (λ_=>ah,0),.th d (uS n),.rq f (aD n (32,[])),.tm k (mb n),.ir r ((n:Int),aD 16 i0),.rt t ((n:Int),aD 16 (-1)),.wk x (gQ n),.ca y (lu n),.st z (ma n 12),.sc C (aD n 0),.ga D (aD n 0,0),.co E (aD n ⟨ag,ae,0,0⟩),.me H n,.so J (0,0),.dk K (ah,λ_=>ae),.gv p c i] [pt d,pt f,pt k,pt r,pt t,pt x,pt y,pt z,pt C,pt D,pt J,pt K,pt E,pt H,.slice p i c,I (n:Int),.int .u64 (mi (br n)),.int .u64 (mi (br n)),I 0,I 1073741824,.map (aa m)]) (λi _=>n-i) 0 ⟨rfl,rfl,rfl,trivial⟩ ⟨cB _,ah,0,bb⟩ ?_⟩;rintro i v1 ⟨hi,p,c,u⟩;rw[agf];refine⟨λg=>?_,λg=>?_⟩
 ·have g:=aL g;have et:i<n:=by omega
  intro v2 q1 q2 q3 q4;have be:av no v1 v2:=av.same no q1 q2 q3 q4;have S:=cj.ak u be;refine⟨_,rfl,p,i,c,(kW.ay S).aE rfl,⟨(YR (a:=100) (b:=1000) ⟨by omega,by omega,by omega⟩ v2).mono ?_⟩⟩;rintro e v3 ⟨bq,G,rfl,hQ,am,bl⟩;have T:=cj.ak S am;refine⟨_,_,rfl,(kW.ay T).aE rfl,⟨(abH _ _ _).mono ?_⟩⟩;rintro e v4 ⟨rfl,rfl⟩;refine⟨_,rfl,(kW.ay T).aE rfl,⟨λv5 ap=>?_⟩⟩;have bm:=cj.ak T (ap.ak no);obtain⟨F1,h1,k1⟩:=cj.left S;obtain⟨F2,a1,a2,a3⟩:=Fam.at h1 (i:=15) (by simp);obtain⟨p',c',v6,hr,F3,b1,b2,b3⟩:=nX.push (n:=i) a1 (by omega) am hQ bl ap 90;refine⟨(kW.ay bm).aE rfl,p',i+1,c',v6,hr,_,rfl,?_⟩;have bs:kW b Q v6 [.ow m (λ_=>ah,0),.th d (uS n),.rq f (aD n (32,[])),.tm k (mb n),.ir r ((n:Int),aD 16 i0),.rt t ((n:Int),aD 16 (-1)),.wk x (gQ n),.ca y (lu n),.st z (ma n 12),.sc C (aD n 0),.ga D (aD n 0,0),.co E (aD n ⟨ag,ae,0,0⟩),.me H n,.so J (0,0),.dk K (ah,λ_=>ae),.gv p' c' (i+1)] [pt d,pt f,pt k,pt r,pt t,pt x,pt y,pt z,pt C,pt D,pt J,pt K,pt E,pt H,.slice p i c,I (n:Int),.int .u64 (mi (br n)),.int .u64 (mi (br n)),I 0,I 1073741824,.map (aa m)]:=k1 _ _ (a3 v6 (.gv p' c' (i+1)) ⟨F3,b1,b2,b3⟩);exact kW.wr bs (o:=14) [pt d,pt f,pt k,pt r,pt t,pt x,pt y,pt z,pt C,pt D,pt J,pt K,pt E,pt H,.slice p' (i+1) c',I (n:Int),.int .u64 (mi (br n)),.int .u64 (mi (br n)),I 0,I 1073741824,.map (aa m)] rfl (dP rfl) λv7 bv=>⟨i+1,⟨rfl,rfl,by rw[aP (by omega)];rfl,trivial⟩,⟨by omega,p',c',bv⟩,by omega⟩
 ·have g:=aT g;have bw:n=i:=by omega
  subst bw;obtain⟨F0,⟨F1,F2,h1,h2,h3,h4⟩,L,N⟩:=u
  let q:KQ:=⟨d,f,k,r,t,x,y,z,C,D,J,K,E,H,p,c,m⟩
  have aq:Fam (wN b) v1 F0 (KP.row q (n,br n,br n,0,1073741824)::[.ow m (λ_=>ah,0),.th d (uS n),.rq f (aD n (32,[])),.tm k (mb n),.ir r ((n:Int),aD 16 i0),.rt t ((n:Int),aD 16 (-1)),.wk x (gQ n),.ca y (lu n),.st z (ma n 12),.sc C (aD n 0),.ga D (aD n 0,0),.co E (aD n ⟨ag,ae,0,0⟩),.me H n,.so J (0,0),.dk K (ah,λ_=>ae),.gv p c n]):=⟨F2,F1,⟨h2.1,h2.2⟩,h1,λj=>(h3 j).trans Or.comm,λj hj hk=>h4 j hk hj⟩;refine⟨b,F0,rfl,⟨q,aD n 0,(λ_=>ah,0),kd.perm ?_ aq,rfl,R⟩,L,λj hj=>hm ▸ N j hj⟩;refine List.Perm.cons _ ?_;show List.Perm (α:=KP) ([.ow m (λ_=>ah,0)]++([.th d (uS n),.rq f (aD n (32,[])),.tm k (mb n),.ir r ((n:Int),aD 16 i0),.rt t ((n:Int),aD 16 (-1)),.wk x (gQ n),.ca y (lu n),.st z (ma n 12),.sc C (aD n 0),.ga D (aD n 0,0)]++([.co E (aD n ⟨ag,ae,0,0⟩),.me H n]++([.so J (0,0),.dk K (ah,λ_=>ae)]++[.gv p c n])))) ([.th d (uS n),.rq f (aD n (32,[])),.tm k (mb n),.ir r ((n:Int),aD 16 i0),.rt t ((n:Int),aD 16 (-1)),.wk x (gQ n),.ca y (lu n),.st z (ma n 12),.sc C (aD n 0),.ga D (aD n 0,0)]++([.so J (0,0),.dk K (ah,λ_=>ae)]++([.co E (aD n ⟨ag,ae,0,0⟩),.me H n]++[.gv p c n,.ow m (λ_=>ah,0)])));refine List.perm_append_comm.trans ?_;simp only[jP];refine List.Perm.append_left _ ?_;exact(List.perm_append_comm_assoc _ _ _)
def xz:K:=dF 2
def ya:cu:=(3,0,2,3,0)
def yc:cu:=(1,1,0,0,0)
def yd:cu:=(24,1,0,0,0)
def xA:K:=cT xz ya
def xB:K:=cT xA yc
def Vv:K:=cT xB yd
def zQ:Nat->K
 | 0=>Vv
 | n+1=>cT (zQ n) (1,((n%2:Nat):Int),0,0,0)
theorem LH:gw xz ya=[(1,0,1,0,0)]:=by kernel_rfl
theorem LI:gw xA yc=[(2,1,1,0,0)]:=by kernel_rfl
theorem LJ:gw xB yd=[(1,0,0,0,0)]:=by kernel_rfl
theorem Vw:(zQ 40).on=1:=by kernel_rfl
theorem LD:aC xz:=SG ⟨by omega,by omega⟩
theorem LF:aC xA:=LD.vQ ya
theorem LG:aC xB:=LF.vQ yc
theorem LK:∀n,aC (zQ n)
 | 0=>LG.vQ yd
 | n+1=>(LK n).vQ _
theorem ai.wo {σ τ:Type} {A:Ob σ} {B:Ob τ} [g:Frame B] {W w:World} {F:Fp} {x:σ×τ} (a:Tab W) (j:¬F 0) (h:ai (aF A B) W w F x) :
  ∃F1,A w F1 x.1/\Tab w/\¬F1 0/\∀{υ:Type} (e:Ob υ) w' f,ai e w w' F1 f->ai (aF e B) W w' F (f,x.2):=by
 have u:=a.pos;have p:=h.ml a j;obtain⟨y,q,l,c⟩:=h;obtain⟨F1,F2,r,m,d,n⟩:=q;refine⟨F1,r,p,λs=>?_,?_⟩
 ·rcases c 0 ((d 0).2 (.inl s))with k|k
  ·exact j k
  ·omega
 ·rintro υ e w' f ⟨G1,t,k2,o⟩;refine⟨λi=>G1 i∨F2 i,⟨G1,F2,t,g.ak m k2 (λi hi b=>n i b hi),λ_=>bp,λi hi b=>?_⟩,l.trans k2 (λi hi b=>(c i ((d i).2 (.inl b))).elim id (λh=>absurd h (by omega))),λi hi=>?_⟩
  ·rcases o i hi with h|h
   ·exact n i h b
   ·have:=g.lt m i b;omega
  ·rcases hi with hi|hi
   ·rcases o i hi with h|h
    ·exact c i ((d i).2 (.inl h))
    ·exact .inr (aW l.size h)
   ·exact c i ((d i).2 (.inr hi))
theorem Ts (x:Rc):(lA x).length=5:=rfl
theorem YB (n:Int) {p:Option Addr} {m c:Nat} (w:World):Cx 9 #[I n,.slice p m c] w λe w'=>e=Z (.bool (decide (1<=n/\n<=9/\m<=300)))/\w'=w:=by
 refine u9 ?_;refine⟨λg=>⟨λa=>⟨?_,rfl⟩,λa=>⟨?_,rfl⟩⟩,λg=>⟨?_,rfl⟩⟩
 ·have:=aL g;have:=aL a;have e:decide ((m:Int)<=300)=decide (1<=n/\n<=9/\m<=300):=decide_eq_decide.2 (by omega);rw[e]
 ·have:=aT a;rw[decide_eq_false (by omega)]
 ·have:=aT g;rw[decide_eq_false (by omega)]
set_option maxRecDepth 100000 in
theorem Ym (x y:Rc) (w:World):∃b,(Op.equal 43 (.agg #[I x.1,I x.2.1,I x.2.2.1,I x.2.2.2.1,I x.2.2.2.2]) (.agg #[I y.1,I y.2.1,I y.2.2.1,I y.2.2.2.1,I y.2.2.2.2])).run Tryz.prog w=.ok b w/\(b=ag↔x=y):=by
 have c:Tryz.prog.stoodInHeld 43=ae:=by kernel_rfl
 have d:AE Tryz.prog (Tryz.prog.fieldsOf 43).toList 0 (lA x)=ag:=by kernel_rfl
 have e:isStr Tryz.prog 43=ag:=by kernel_rfl
 have f:BA (lA x) (lA y)=ag:=rfl;have a:=adU (lA x) c d e (vs:=lA y) f w;unfold lA at a;refine⟨_,a,?_⟩;simp only[xZ,Fe,lR,aY,beq_iff_eq];constructor
 ·rintro⟨c,d,e,f,a⟩;exact lT c (lT d (lT e (lT f a)))
 ·rintro rfl;exact⟨rfl,rfl,rfl,rfl,rfl⟩
theorem J2 {w:World} {p q:Option Addr} {l m:List Rc} {c d:Nat} (h:Cells w p (l.flatMap lA)) (k:Cells w q (m.flatMap lA)) (z:l.length<=1000) :
  Cx 59 #[.slice p l.length c,.slice q m.length d] w λe w'=>e=Z (.bool (decide (l=m)))/\av no w w':=by
 refine u59 ?_;refine⟨λg=>⟨?_,av.refl _ _⟩,λg=>?_⟩
 ·have:l≠m:=λe=>by subst e;simp at g
  simp[this]
 ·have C:l.length=m.length:=by simp at g;omega
  refine⟨bO bu (M:=Cy) (σ:=Nat) (λi=>H4 p l.length c q m.length d i) (λi w'=>i<=l.length/\l.take i=m.take i/\av no w w') (λi _=>l.length-i) 0 ⟨rfl,rfl,rfl,trivial⟩ ⟨by omega,by simp,av.refl _ _⟩ ?_⟩;intro i w1 hI;have J:=hI.1;have t:=hI.2.1;have A:=hI.2.2;rw[afZ];refine⟨λu D E F G H=>?_,λx=>⟨?_,A⟩⟩
  ·have hi:i<l.length:=by simpa using u
   have n:i<m.length:=by omega
   have j:=A.trans (av.same no E F G H) (λ_ _ h=>h);obtain⟨a,I,o⟩:=(h.no j).qG Ts (by decide) hi;obtain⟨b,z,f⟩:=(k.no j).qG Ts (by decide) n;obtain⟨B,y,r⟩:=Ym l[i] m[i] D;refine⟨⟨by omega,by omega⟩,a,I,_,o 0 _ rfl,_,o 1 _ rfl,_,o 2 _ rfl,_,o 3 _ rfl,_,o 4 _ rfl,⟨by omega,by omega⟩,b,z,_,f 0 _ rfl,_,f 1 _ rfl,_,f 2 _ rfl,_,f 3 _ rfl,_,f 4 _ rfl,B,y,rfl,λs=>⟨?_,j⟩,λs=>?_⟩
   ·have:l≠m:=λe=>by
     have:B=ag:=r.2 (by simp only[e]);rw[this]at s;cases s
    simp[this]
   ·have y:l[i]=m[i]:=r.1 (by simpa using s);exact⟨i+1,⟨rfl,rfl,by rw[aP (by omega)];rfl,trivial⟩,⟨by omega,by rw[eW hi,eW n,t,y],j⟩,by omega⟩
  ·have:i=l.length:=by simp at x;omega
   subst this;rw[dC,C,dC]at t;simp[t]
theorem vt.cells {p:Option Addr} {c:Nat} {w:World} {F:Fp} {rs:List Rc} (h:vt p c w F rs):Cells w p (rs.flatMap lA):=h.2.cells
theorem I5 {b:Nat} {W w:World} {F:Fp} {k:K} (h:ai (KO b) W w F k):Cx 22 #[pt b] w λe w'=>e=Z (.int .u64 (mi k.on))/\w'=w:=by
 obtain⟨q,a⟩:=KO.fix h;refine u22 ?_;exact⟨λg=>(by cases g),λ_=>⟨_,rfl,_,(KF.ay a).cell rfl,rfl,rfl⟩⟩
theorem CK {w:World} (f:Tab w):Cx 10 #[] w λe w'=>e=Z (.bool ag)/\av no w w':=by
 refine u10 ?_;refine⟨(RF 2 ⟨by omega,by omega⟩ w).mono ?_⟩;rintro e w1 ⟨b,F,rfl,hK,hU,hF⟩;have d:Tab w1:=f.no hU;have B:¬F 0:=λhh=>by have:=hF 0 hh;have:=f.pos;omega
 refine⟨_,_,rfl,λ_=>⟨λg=>(by cases g),λ_=>⟨(wm (k:=xz) (e:=ya) d B (ai.same hK) LD.iW).mono ?_⟩⟩,λg=>by simp at g⟩;rintro e w2 ⟨D,ca,rfl,hA⟩;obtain⟨F2,E,G,H,k2⟩:=hA.wo d B;refine⟨_,_,_,rfl,⟨(wm (k:=xA) (e:=yc) G H (ai.same E) LF.iW).mono ?_⟩⟩;rintro e w3 ⟨I,cb,rfl,hB⟩;replace hB:=k2 _ _ _ hB;obtain⟨F3,J,K,L,k3⟩:=hB.wo d B;obtain⟨F4,N,O,P,k4⟩:=(ai.same J).wo K L;refine⟨_,_,_,rfl,⟨(wm (k:=xB) (e:=yd) O P (ai.same N) LG.iW).mono ?_⟩⟩;rintro e w4 ⟨Q,cc,rfl,R⟩;replace R:=k3 _ _ _ (k4 _ _ _ R);refine⟨_,_,_,rfl,⟨bO bu (M:=wO) (σ:=Nat) (λi=>Ho (aa ⟨b,0,ah⟩) D _ ca I _ cb Q _ cc (i:Int)) (λi w'=>i<=40/\ai (aF (aF (aF (KO b) (vt Q cc)) (vt I cb)) (vt D ca)) w1 w' F (((zQ i,gw xB yd),gw xA yc),gw xz ya)) (λi _=>40-i) 0 ⟨rfl,rfl,rfl,rfl,rfl,trivial⟩ ⟨by omega,R⟩ ?_⟩⟩;rintro i C ⟨hi,s⟩;rw[aeV];refine⟨λg=>?_,λg=>aU.mk ?_⟩
 ·have g:=aL g;obtain⟨F5,S,T,U,k5⟩:=s.wo d B;obtain⟨F6,V,W,X,k6⟩:=(ai.same S).wo T U;obtain⟨F7,Y,al,am,k7⟩:=(ai.same V).wo W X;have em:eH (i:Int) 2=((i%2:Nat):Int):=by rw[ot (by omega)];omega
  rw[em];refine⟨by omega,⟨(wm (k:=zQ i) (e:=(1,((i%2:Nat):Int),0,0,0)) al am (ai.same Y) (LK i).iW).mono ?_⟩⟩;rintro e w6 ⟨pd,cd,rfl,hD⟩;exact⟨_,_,_,rfl,i+1,⟨rfl,rfl,rfl,rfl,by rw[aP (by omega)];rfl,trivial⟩,⟨by omega,k5 _ _ _ (k6 _ _ _ (k7 _ _ _ hD.drop))⟩,by omega⟩
 ·have g:=aT g;have ap:i=40:=by omega
  subst ap;rw[aeU];have t:Cells C D ((gw xz ya).flatMap lA):=by obtain⟨_,x,_⟩:=s.right;exact x.cells
  have y:Cells C I ((gw xA yc).flatMap lA):=by obtain⟨_,x,_⟩:=s.drop.right;exact x.cells
  have z:Cells C Q ((gw xB yd).flatMap lA):=by obtain⟨_,x,_⟩:=s.drop.drop.right;exact x.cells
  have hD:=s.drop.drop.drop
  have aq:av no w C:=by
   obtain⟨F',_,az,_⟩:=s;exact hU.trans az (λi hi hf=>by have:=hF i hf;omega)
  rw[LH]at t;rw[LI]at y;rw[LJ]at z;rw[LH,LI,LJ];have one:∀{u:World} {r:Rc} {u':World},dy u u' (.cells (dK (lA r)) 43 (0,0))->Cells u' (aa ⟨u.heap.size,0,ah⟩) ([r].flatMap lA):=λhN=>(Sl.new hN (sz:=5) (n:=1) rfl (show(1:Nat)<=maxLen by unfold maxLen;omega)).cells;refine⟨λw6 p=>⟨(J2 (l:=[(1,0,1,0,0)]) (m:=[(1,0,1,0,0)]) (t.no (p.ak no)) (one (r:=(1,0,1,0,0)) p) (by simp)).mono ?_⟩⟩;rintro e w7 ⟨rfl,bb⟩;have j:=(p.ak no).trans bb (λ_ _ h=>h);refine⟨_,rfl,λ_=>⟨λw8 q=>⟨(J2 (l:=[(2,1,1,0,0)]) (m:=[(2,1,1,0,0)]) (y.no (j.trans (q.ak no) (λ_ _ h=>h))) (one (r:=(2,1,1,0,0)) q) (by simp)).mono ?_⟩⟩,λg=>by simp at g⟩;rintro e w9 ⟨rfl,be⟩;have o:=(j.trans (q.ak no) (λ_ _ h=>h)).trans be (λ_ _ h=>h);refine⟨_,rfl,λ_=>⟨λbl a=>⟨(J2 (l:=[(1,0,0,0,0)]) (m:=[(1,0,0,0,0)]) (z.no (o.trans (a.ak no) (λ_ _ h=>h))) (one (r:=(1,0,0,0,0)) a) (by simp)).mono ?_⟩⟩,λg=>by simp at g⟩;rintro e bm ⟨rfl,A⟩;have c:=(o.trans (a.ak no) (λ_ _ h=>h)).trans A (λ_ _ h=>h);refine⟨_,rfl,λ_=>⟨(I5 (hD.ak c)).mono ?_⟩,λg=>by simp at g⟩;rintro e bs ⟨rfl,rfl⟩;refine⟨_,rfl,?_,aq.trans c (λ_ _ h=>h)⟩;rw[Vw];rfl
theorem Sz (k:K) (id:Int):(iz k id).n=k.n:=by unfold iz;split<;>rfl
theorem Sv (k:K) (id:Int):(gZ k id).n=k.n:=by unfold gZ;split<;>rfl
theorem SA:∀(l:List Int) (k:K),(l.foldl iz k).n=k.n
 | [],_=>rfl
 | a::l,k=>(SA l _).trans (Sz k a)
theorem Sw:∀(l:List Int) (k:K),(l.foldl gZ k).n=k.n
 | [],_=>rfl
 | a::l,k=>(Sw l _).trans (Sv k a)
theorem Sy (c:Int):∀(l:List Int) (k:K),(l.foldl (λk n=>iw k n c) k).n=k.n
 | [],_=>rfl
 | a::l,k=>(Sy c l _).trans rfl
theorem abB (k:K) (n:Int):(sJ k n).n=k.n:=by unfold sJ;split<;>rfl
theorem aby (k:K) (p:Int) (m:BV):(rA k p m).n=k.n:=by unfold rA;split<;>rfl
theorem abx (k:K) (id:Int) (x:Th) (n:Int):(ry k id x n).n=k.n:=by unfold ry;split;split<;>rfl;rfl
theorem abt (k:K) (id:Int) (x:Th):(qM k id x).n=k.n:=by unfold qM;split<;>rfl
theorem abA (k:K) (e:cu):(iV k e).n=k.n:=by
 unfold iV;simp only;split;rfl;split;rfl;split;exact abt _ _ _;split
 ·split
  ·exact Sz _ _
  ·rfl
 split;rfl;split;exact abx _ _ _ _;split<;>rfl
theorem abu (k:K) (e:cu):(pU k e).n=k.n:=by
 unfold pU;split;split<;>rfl;split;split<;>rfl;split;split;exact Sv _ _;rfl;split;rfl;split<;>rfl
theorem SB (k:K) (e:cu):(jY k e).n=k.n:=by
 unfold jY;split;rfl;split;unfold tj;split<;>rfl;split;rfl;split;rfl;split;rfl;split<;>rfl
theorem abw (k:K) (e:cu):(j4 k e).n=k.n:=by
 unfold j4;split;unfold tu;split;split<;>rfl;rfl;split;rfl;split;rfl;split;rfl;split;unfold wq;split<;>rfl;split;rfl;split;unfold nu;split;rfl;split<;>rfl;rfl
theorem SC (k:K) (s:Int×Bool×Bool) (c ax:Int):(fm k s c ax).n=k.n:=by
 unfold fm;split
 ·unfold nU;split;rfl;split<;>rfl
 split;rfl;split
 ·unfold nz;split;rfl;split;rfl;simp only;rw[Sw,SA]
 ·unfold fO;split;rfl;split;unfold iL;split<;>rfl;split;rfl;split;rfl;split;rfl;split
  ·unfold nD;split;rfl;split
   ·simp only;rw[Sy]
   ·rfl
  split;rfl;split<;>rfl
theorem abC (k:K) (ax:Int):(jH k ax).n=k.n:=by
 have a:(gC k ax).n=k.n:=by
  unfold gC;simp only;split;rfl;split
  ·exact SC _ _ _ _
  ·exact SC _ _ _ _
 unfold jH;split
 ·exact a
 ·exact a
theorem abz (k:K) (c a:Int):(gB k c a).n=k.n:=by
 unfold gB;split;rfl;split;rfl;split;unfold fN;simp only;split<;>rfl;split<;>rfl
theorem A5 (k:K) (c:Int):(bG k c).n=k.n:=by
 unfold bG;split;rfl;split;rfl;split;rfl;split;exact abC _ _;split;rfl;exact abz _ _ _
theorem abv (k:K) (up:Bool) (c:Int):(iC k up c).n=k.n:=by
 unfold iC;split;rfl;split;rfl;split;rfl;split;rfl;split<;>rfl
theorem abr (k:K) (e:cu):(cT k e).n=k.n:=by
 unfold cT;split;split;rfl;exact A5 _ _;split;exact abB _ _;split;exact aby _ _ _;split;exact abA _ _;split;exact abu _ _;split;split;rfl;exact SB _ _;split;exact SB _ _;split;exact abv _ _ _;exact abw _ _
section
variable {σ:Type} (step:σ->Int->σ) (St:σ->Bool)
def eZ:List Int->σ->σ×Nat×Bool
 | [],s=>(s,0,St s)
 | c::l,s=>if St s then(s,0,ag)else((eZ l (step s c)).1,(eZ l (step s c)).2.1+1,(eZ l (step s c)).2.2)
def gS:List Int->σ->σ
 | [],s=>s
 | c::l,s=>gS l (step s c)
def fS (n many:Nat):List Int:=(bU many).map λi=>((i%n:Nat):Int)
theorem OR:∀(l:List Int) (s:σ),(eZ step St l s).2.1<=l.length
 | [],s=>cB _
 | c::l,s=>by
  unfold eZ;split
  ·exact cB _
  ·have:=OR l (step s c);simp only[il];omega
theorem Hm:∀(l:List Int) (s:σ),St (eZ step St l s).1=(eZ step St l s).2.2
 | [],s=>rfl
 | c::l,s=>by
  unfold eZ;split
  ·assumption
  ·exact Hm l (step s c)
theorem OQ {I:σ->Prop} {p:Int->Prop} (h:∀s c,I s->p c->I (step s c)):∀{l:List Int} {s:σ},I s->(∀c∈l,p c)->I (eZ step St l s).1
 | [],s,hs,_=>hs
 | c::l,s,hs,a=>by
  unfold eZ;split
  ·exact hs
  ·exact OQ h (h s c hs (a c (by simp))) (λd hd=>a d (by simp[hd]))
theorem OP {l':List Int}:∀{l:List Int} {s:σ},((∀k,k<l.length->St (gS step (l.take k) s)=ae)->(eZ step St l' (gS step l s)).2.2=ag)->(eZ step St (l++l') s).2.2=ag
 | [],s,h=>h (λk a=>absurd a (by simp))
 | c::l,s,h=>by
  rw[List.cons_append];unfold eZ;split
  ·rfl
  ·rename_i d;refine OP (l:=l) (s:=step s c) λa=>h λk b=>?_
   cases k with
   | zero=>show St s=ae;simpa using d
   | succ k=>exact a k (by simpa using b)
theorem TE:∀(l l':List Int) (s:σ),gS step (l++l') s=gS step l' (gS step l s)
 | [],l',s=>rfl
 | c::l,l',s=>TE l l' (step s c)
theorem ag0 (n m:Nat):fS n ((m+1)*n)=fS n n++fS n (m*n):=by
 unfold fS;rw[la,s7,Nat.add_comm,List.range_add,eI,s8];congr 1;apply uq;intro i _;simp[Function.comp]
theorem KG {n many:Nat} (b:0<n):∀c∈fS n many,0<=c/\c<n:=by
 intro c a;unfold fS at a;obtain⟨i,_,rfl⟩:=ck.1 a;have:=Nat.mod_lt i b;omega
structure qn (n:Nat) (I:σ->Prop) (Φ:σ->Nat) (Rp:σ->Int->Prop):Prop where
 inv:∀s (c:Int),I s->0<=c/\c<n->I (step s c)
 le:∀s (c:Int),I s->0<=c/\c<n->Φ (step s c)<=Φ s
 ax:∀s,I s->St s=ae->∃c:Int,(0<=c/\c<n)/\Rp s c
 keep:∀s (c d:Int),I s->0<=c/\c<n->0<=d/\d<n->Rp s c->d≠c->Φ (step s d)<Φ s∨Rp (step s d) c
 down:∀s (c:Int),I s->0<=c/\c<n->Rp s c->Φ (step s c)<Φ s
variable {step St} {n:Nat} {I:σ->Prop} {Φ:σ->Nat} {Rp:σ->Int->Prop}
theorem qn.TC (h:qn step St n I Φ Rp):∀{l:List Int} {s:σ},I s->(∀c∈l,0<=c/\c<n)->I (gS step l s)
 | [],s,hs,_=>hs
 | c::l,s,hs,a=>h.TC (l:=l) (s:=step s c) (h.inv s c hs (a c (by simp))) (λd hd=>a d (by simp[hd]))
theorem qn.J4 (h:qn step St n I Φ Rp):∀{l:List Int} {s:σ},I s->(∀c∈l,0<=c/\c<n)->Φ (gS step l s)<=Φ s
 | [],s,hs,_=>aX _
 | c::l,s,hs,a=>aW (h.J4 (l:=l) (s:=step s c) (h.inv s c hs (a c (by simp))) (λd hd=>a d (by simp[hd]))) (h.le s c hs (a c (by simp)))
theorem qn.TB (h:qn step St n I Φ Rp) {c:Int} (i:0<=c/\c<n):∀{l:List Int} {s:σ},I s->(∀c∈l,0<=c/\c<n)->Rp s c->c∈l->Φ (gS step l s)<Φ s
 | d::l,s,hs,j,m,o=>by
  have hd:=j d (by simp);have a:∀e∈l,0<=e/\e<n:=λe p=>j e (by simp[p]);have b:=h.inv s d hs hd;by_cases f:d=c
  ·subst f;exact Nat.lt_of_le_of_lt (h.J4 (l:=l) (s:=step s d) b a) (h.down s d hs hd m)
  ·have g:c∈l:=by
    rcases ez.1 o with e|e
    ·exact absurd e.symm f
    ·exact e
   rcases h.keep s c d hs i hd m f with k|k
   ·exact Nat.lt_of_le_of_lt (h.J4 (l:=l) (s:=step s d) b a) k
   ·exact jM (h.TB (l:=l) (s:=step s d) i b a k g) (h.le s d hs hd)
theorem qn.round (h:qn step St n I Φ Rp) (b:0<n) {s:σ} (hs:I s) (a:St s=ae):Φ (gS step (fS n n) s)<Φ s:=by
 obtain⟨c,d,e⟩:=h.ax s hs a;refine h.TB d hs (KG b) e ?_;unfold fS;refine ck.2 ⟨c.toNat,cD.2 (by omega),?_⟩;rw[jr (by omega)];omega
theorem qn.As (h:qn step St n I Φ Rp) (a:0<n):∀{m:Nat} {s:σ},I s->Φ s<m->(eZ step St (fS n (m*n)) s).2.2=ag
 | m+1,s,hs,hm=>by
  rw[ag0];refine OP step St λb=>?_;have c:St s=ae:=b 0 (by simp[fS];omega);have d:=h.round a hs c;exact h.As a (h.TC hs (KG a)) (by omega)
end
end Go.Dav
