/- What functions of the program come to, part 6; the texts are made small to keep within a claim. -/
import Derived.Test.YtobclpijhmkniaaGreatDoorPartE
set_option linter.unusedVariables false
set_option linter.unusedSimpArgs false
set_option linter.unusedSectionVars false
namespace Go.Dav
open Go.Proofs
open _root_.List renaming length_append→cz,length_map→bO,length_cons→im,take_succ_eq_append_getElem→ey,length_take→eh,map_append→fj,append_assoc→iY,take_length→dA,take_of_length_le→qB,foldl_append→lx,length_filter_le→jW,toArray→dB,getElem_mem→cx
open _root_.Option renaming some→aa,none→ag
open _root_.Bool renaming true→ah,false→ae
open Builtin renaming append_→bM
open _root_.Nat renaming le_trans→aX,zero_le→cZ,mul_le_mul_right→fu,le_refl→b7,lt_of_lt_of_le→jV
open World renaming cell?_of_block→tf,cell?→bf
open Value renaming int→ay,bool→fA,slice→ft,agg→kH,pointer→bo
open IntKind renaming wrap→aT,u64→ef,i64→aY
open _root_.Classical renaming byContradiction→eu
open Addr renaming add→bh
open Ending renaming returned→cj
theorem IY {cs:List Int} {f:Int->List Int} {aA:Int->Int} {m:Nat} (h:∀c,(f c).length<=m):(cL cs f aA).length<=cs.length*m:=by
 induction cs with
 | nil=>simp[cL]
 | cons c cs a=>
  have e:cL (c::cs) f aA=((f c).map λid=>(id,c,aA id))++cL cs f aA:=rfl;rw[e,cz,bO,im,Nat.succ_mul];have:=h c;omega
theorem uN (f n:Nat):(cD f n).length=n+f:=by simp[cD]
theorem Vx {f n i:Nat} (hi:i<n+f):(cD f n)[i]'(by rw[uN];exact hi)=(i:Int)-f:=by simp[cD]
theorem RP {f n i:Nat} (hi:i<n+f) (g:Int->List Int) (aA:Int->Int):cL ((cD f n).take (i+1)) g aA=cL ((cD f n).take i) g aA++(g ((i:Int)-f)).map λid=>(id,(i:Int)-f,aA id):=by
 rw[ey (by rw[uN];exact hi),Vx hi];unfold cL;rw[List.flatMap_append];simp
def CL (w:World) (q p:Option Addr) (cs:List Value):Prop:=Cells w q cs/\∀a v,q=aa a->v∈cs->¬bg p a.block
theorem CL.no {w w':World} {q p:Option Addr} {cs:List Value} (h:CL w q p cs) (k:au no w w'):CL w' q p cs:=⟨h.1.no k,h.2⟩
theorem ed.DN {α:Type} {f:α->List Value} {sz:Nat} {W w:World} {T:TypeId} {p:Option Addr} {c:Nat} {l:List α} {P:Program} {t:TypeId} {bytes:Nat} {z:List Value} (h:ed f sz W w T p c l) (E:dZ P t T sz bytes z) (y:∀x,(f x).length=sz) (G:∀x,∀u∈f x,u.oneCell'=ah) (H:(l.length+1)*bytes<=140737488355328) (d:l.length<=1048576) {x:α} {v:List Value} (n:v=f x) {w1:World} {I:TypeId} (J:dr w w1 (.cells v.toArray I (0,0))) (ty:TypeId) {q:Option Addr} {cs:List Value} (o:CL w q p cs) :
  ∃p' c' g,(bM #[t,t] ty #[.slice p l.length c,.slice (aa ⟨w.heap.size,0,ag⟩) 1 1]).run P w1=.ok (.slice p' (l++[x]).length c') g/\ed f sz W g T p' c' (l++[x])/\CL g q p' cs:=by
 subst n;obtain⟨p',c',g,L,M,B,C⟩:=J7 E (G x) (y x) h.S H d J ty;refine⟨p',c',g,by rw[L];simp,⟨h.U.trans B (λi hi y=>absurd (h.F i y) (by omega)),by simpa using M,λi hi=>?_⟩,λj v r=>?_,λa v m n N=>?_⟩
 ·rcases C i hi with k|k
  ·exact h.F i k
  ·exact aX h.U.size k
 ·obtain⟨a,m,s⟩:=o.1 j v r;have d:=pz s;rw[ta]at d;refine⟨a,m,?_⟩;rw[<-s];exact tf (by rw[ta];exact B.ax _ d (o.2 a v m (List.mem_of_getElem? r)))
 ·obtain⟨j,r⟩:=List.getElem?_of_mem n;obtain⟨D,A,s⟩:=o.1 j v r;have e:D=a:=Option.some.inj (A.symm.trans m);subst e;have d:=pz s;rw[ta]at d;rcases C _ N with k|k
  ·exact o.2 D v m n k
  ·omega
theorem ZT (id:Int) (w:World):Cx 84 #[I id] w λe w'=>e=Z (I 0)/\au no w w':=by
 refine u84 ?_;exact⟨rfl,au.refl _ _⟩
set_option maxRecDepth 100000 in
theorem Eg {w:World} {g:Nat} {G:Option Addr} (X:iM Tryz.prog g=ah) {of:Int->List Int} (m:∀c,(of c).length<=1000) (H:∀c w',au no w w'->Cx g #[.pointer G,I c] w' λe u=>∃p d,e=Z (.slice p (of c).length d)/\Cells u p ((of c).map (ay .i64))/\au no w' u/\∀j,bg p j->w'.heap.size<=j)
  {f n:Nat} (hf:f<=1) (hn:n<=64):Cx 87 #[I (-(f:Int)),I (n:Int),.func (.func g) #[.pointer G] #[],.func (.func 84) #[] #[]] w λe w'=>∃p c,e=Z (.slice p (cL (cD f n) of (λ_=>0)).length c)/\ed du 3 w w' 75 p c (cL (cD f n) of (λ_=>0)):=by
 have y:∀(id:Int) w1,au no w w1->Cx 84 #[I id] w1 λe w'=>e=Z (I 0)/\au no w1 w':=λid w1 _=>ZT id w1;refine Jn ?_;refine⟨bJ bA (M:=dq) (σ:=Nat×Option Addr×Nat) (λs=>zt (n:Int) g G s.2.1 (cL ((cD f n).take s.1) of (λ_=>0)).length s.2.2 ((s.1:Int)-f)) (λs w'=>s.1<=n+f/\ed du 3 w w' 75 s.2.1 s.2.2 (cL ((cD f n).take s.1) of (λ_=>0))) (λs _=>n+f-s.1) (0,ag,0) ⟨rfl,rfl,rfl,rfl,by simp<;>rfl,trivial⟩ ⟨cZ _,ed.nil (au.refl _ _) _⟩ ?_⟩;rintro⟨i,p1,c1⟩ w1 ⟨hi,t⟩;simp only at hi t⊢;rw[I4];refine⟨λg1=>?_,λg1=>?_⟩
 ·have g1:=aO g1;have J:i<n+f:=by omega
  have o:=RP J of (λ_=>0)
  have Y:(cL ((cD f n).take i) of (λ_=>0)).length<=65*1000:=by
   have h1:=IY (cs:=(cD f n).take i) (aA:=(λ_=>0)) m;have h2:((cD f n).take i).length<=65:=by rw[eh,uN];omega
   exact aX h1 (fu _ h2)
  have N:=m ((i:Int)-f);rw[X];refine⟨(H ((i:Int)-f) w1 t.U).mono ?_⟩;rintro e w2 ⟨p2,d2,rfl,l,O,P⟩;have l:CL w2 p2 p1 ((of ((i:Int)-f)).map (ay .i64)):=⟨l,λa v Q _ hp=>absurd (P _ ⟨a,Q,rfl⟩) (Nat.not_le_of_lt (t.S.lt _ hp))⟩;generalize of ((i:Int)-f)=L at l o N⊢;refine⟨_,_,_,rfl,⟨bJ bA (M:=dq) (σ:=Nat×Option Addr×Nat) (λs=>zu (n:Int) g G s.2.1 (cL ((cD f n).take i) of (λ_=>0)++(L.take s.1).map λid=>(id,(i:Int)-f,(λ_=>0) id)).length s.2.2 ((i:Int)-f) p2 L.length d2 (L.length:Int) (s.1:Int)) (λs w'=>s.1<=L.length/\CL w' p2 s.2.1 (L.map (ay .i64))/\ed du 3 w w' 75 s.2.1 s.2.2 (cL ((cD f n).take i) of (λ_=>0)++(L.take s.1).map λid=>(id,(i:Int)-f,(λ_=>0) id))) (λs _=>L.length-s.1) (0,p1,c1) ⟨rfl,rfl,rfl,by simp<;>rfl,rfl,rfl,rfl,rfl,trivial⟩ ⟨cZ _,l,by simpa using t.ak O⟩ ?_⟩⟩;rintro⟨j,p3,c3⟩ w3 ⟨hj,r,h⟩;simp only at hj h r⊢;rw[I5];refine⟨λz=>?_,λz=>?_⟩
  ·have z:=aO z;have A:j<L.length:=by omega
   have ej:aT .i64 ((j:Int)+1)=((j+1:Nat):Int):=by rw[aN (by omega)];rfl
   obtain⟨a,Q,hc⟩:=r.1.ck A
   have B:cL ((cD f n).take i) of (λ_=>0)++((L.take (j+1)).map λid=>(id,(i:Int)-f,(λ_=>0) id))=(cL ((cD f n).take i) of (λ_=>0)++(L.take j).map λid=>(id,(i:Int)-f,(λ_=>0) id))++[(L[j],(i:Int)-f,(λ_=>0) L[j])]:=by
    rw[ey A,fj,iY];rfl
   have C:(cL ((cD f n).take i) of (λ_=>0)++(L.take j).map λid=>(id,(i:Int)-f,(λ_=>0) id)).length<=66000:=by
    rw[cz,bO,eh];omega
   refine⟨⟨by omega,by omega⟩,a,Q,_,hc,?_⟩;refine⟨(y L[j] w3 h.U).mono ?_⟩;rintro e w4 ⟨rfl,D⟩;refine⟨_,rfl,⟨λw5 R=>?_⟩⟩;obtain⟨p',c',w6,V,E,T⟩:=(h.ak D).DN CG qf Aj (aX (fu _ (Nat.succ_le_succ C)) (by decide)) (aX C (by decide)) (x:=(L[j],(i:Int)-f,(λ_=>0) L[j])) rfl R 63 (r.no D);rw[<-B]at V E;exact⟨p',_,c',w6,V,(j+1,p',c'),⟨rfl,rfl,rfl,rfl,rfl,rfl,rfl,by rw[ej]<;>rfl,trivial⟩,⟨by simp only;omega,T,E⟩,by simp only;omega⟩
  ·have z:=aV z;have:j=L.length:=by omega
   subst this;rw[dA,<-o]at h;refine⟨(i+1,p3,c3),⟨rfl,rfl,rfl,?_,?_,trivial⟩,⟨by simp only;omega,h⟩,by simp only;omega⟩
   ·rw[dA,<-o]<;>rfl
   ·have:(i:Int)-f+1=((i+1:Nat):Int)-f:=by omega
    rw[aN (by omega),this]<;>rfl
 ·have g1:=aV g1;have:i=n+f:=by omega
  subst this;have:(cD f n).take (n+f)=cD f n:=qB (by rw[uN];exact b7 _);rw[this]at t⊢;exact⟨p1,c1,rfl,t⟩
set_option maxRecDepth 100000 in
theorem acq {w:World} {g:Nat} {E:Option Addr} (Y:iM Tryz.prog g=ah) {of:Int->List Int} (m:∀c,(of c).length<=1000) {g2:Nat} {G:Option Addr} (H:iM Tryz.prog g2=ah) {aA:Int->Int} (u:∀(id:Int) w1,au no w w1->Cx g2 #[.pointer G,I id] w1 λe w'=>e=Z (I (aA id))/\au no w1 w') (J:∀c w',au no w w'->Cx g #[.pointer E,I c] w' λe y=>∃p d,e=Z (.slice p (of c).length d)/\Cells y p ((of c).map (ay .i64))/\au no w' y/\∀j,bg p j->w'.heap.size<=j)
  {f n:Nat} (hf:f<=1) (hn:n<=64):Cx 87 #[I (-(f:Int)),I (n:Int),.func (.func g) #[.pointer E] #[],.func (.func g2) #[.pointer G] #[]] w λe w'=>∃p c,e=Z (.slice p (cL (cD f n) of aA).length c)/\ed du 3 w w' 75 p c (cL (cD f n) of aA):=by
 refine ku.Jn ?_;refine⟨bJ bA (M:=ku.dq) (σ:=Nat×Option Addr×Nat) (λs=>ku.zt (n:Int) g E g2 G s.2.1 (cL ((cD f n).take s.1) of aA).length s.2.2 ((s.1:Int)-f)) (λs w'=>s.1<=n+f/\ed du 3 w w' 75 s.2.1 s.2.2 (cL ((cD f n).take s.1) of aA)) (λs _=>n+f-s.1) (0,ag,0) ⟨rfl,rfl,rfl,rfl,by simp<;>rfl,trivial⟩ ⟨cZ _,ed.nil (au.refl _ _) _⟩ ?_⟩;rintro⟨i,p1,c1⟩ w1 ⟨hi,t⟩;simp only at hi t⊢;rw[ku.I4];refine⟨λg1=>?_,λg1=>?_⟩
 ·have g1:=aO g1;have N:i<n+f:=by omega
  have o:=RP N of aA
  have al:(cL ((cD f n).take i) of aA).length<=65*1000:=by
   have h1:=IY (cs:=(cD f n).take i) (aA:=aA) m;have h2:((cD f n).take i).length<=65:=by rw[eh,uN];omega
   exact aX h1 (fu _ h2)
  have O:=m ((i:Int)-f);rw[Y];refine⟨(J ((i:Int)-f) w1 t.U).mono ?_⟩;rintro e w2 ⟨p2,d2,rfl,l,P,Q⟩;have l:CL w2 p2 p1 ((of ((i:Int)-f)).map (ay .i64)):=⟨l,λa v R _ hp=>absurd (Q _ ⟨a,R,rfl⟩) (Nat.not_le_of_lt (t.S.lt _ hp))⟩;generalize of ((i:Int)-f)=L at l o O⊢;refine⟨_,_,_,rfl,⟨bJ bA (M:=ku.dq) (σ:=Nat×Option Addr×Nat) (λs=>ku.zu (n:Int) g E g2 G s.2.1 (cL ((cD f n).take i) of aA++(L.take s.1).map λid=>(id,(i:Int)-f,aA id)).length s.2.2 ((i:Int)-f) p2 L.length d2 (L.length:Int) (s.1:Int)) (λs w'=>s.1<=L.length/\CL w' p2 s.2.1 (L.map (ay .i64))/\ed du 3 w w' 75 s.2.1 s.2.2 (cL ((cD f n).take i) of aA++(L.take s.1).map λid=>(id,(i:Int)-f,aA id))) (λs _=>L.length-s.1) (0,p1,c1) ⟨rfl,rfl,rfl,by simp<;>rfl,rfl,rfl,rfl,rfl,trivial⟩ ⟨cZ _,l,by simpa using t.ak P⟩ ?_⟩⟩;rintro⟨j,p3,c3⟩ w3 ⟨hj,r,h⟩;simp only at hj h r⊢;rw[ku.I5];refine⟨λg2=>?_,λg2=>?_⟩
  ·have g2:=aO g2;have z:j<L.length:=by omega
   have ej:aT .i64 ((j:Int)+1)=((j+1:Nat):Int):=by rw[aN (by omega)];rfl
   obtain⟨a,R,hc⟩:=r.1.ck z
   have A:cL ((cD f n).take i) of aA++((L.take (j+1)).map λid=>(id,(i:Int)-f,aA id))=(cL ((cD f n).take i) of aA++(L.take j).map λid=>(id,(i:Int)-f,aA id))++[(L[j],(i:Int)-f,aA L[j])]:=by
    rw[ey z,fj,iY];rfl
   have B:(cL ((cD f n).take i) of aA++(L.take j).map λid=>(id,(i:Int)-f,aA id)).length<=66000:=by
    rw[cz,bO,eh];omega
   refine⟨⟨by omega,by omega⟩,a,R,_,hc,?_⟩;rw[H];refine⟨(u L[j] w3 h.U).mono ?_⟩;rintro e w4 ⟨rfl,C⟩;refine⟨_,rfl,⟨λw5 T=>?_⟩⟩;obtain⟨p',c',w6,X,D,V⟩:=(h.ak C).DN CG qf Aj (aX (fu _ (Nat.succ_le_succ B)) (by decide)) (aX B (by decide)) (x:=(L[j],(i:Int)-f,aA L[j])) rfl T 63 (r.no C);rw[<-A]at X D;exact⟨p',_,c',w6,X,(j+1,p',c'),⟨rfl,rfl,rfl,rfl,rfl,rfl,rfl,by rw[ej]<;>rfl,trivial⟩,⟨by simp only;omega,V,D⟩,by simp only;omega⟩
  ·have g2:=aV g2;have:j=L.length:=by omega
   subst this;rw[dA,<-o]at h;refine⟨(i+1,p3,c3),⟨rfl,rfl,rfl,?_,?_,trivial⟩,⟨by simp only;omega,h⟩,by simp only;omega⟩
   ·rw[dA,<-o]<;>rfl
   ·have:(i:Int)-f+1=((i+1:Nat):Int)-f:=by omega
    rw[aN (by omega),this]<;>rfl
 ·have g1:=aV g1;have:i=n+f:=by omega
  subst this;have:(cD f n).take (n+f)=cD f n:=qB (by rw[uN];exact b7 _);rw[this]at t⊢;exact⟨p1,c1,rfl,t⟩
theorem Loc.all {W w:World} {T:TypeId} {p:Option Addr} {c:Nat} {l:List Int} (h:Loc W w T p c l):Cells w p (l.map (ay .i64))/\au no W w/\∀j,bg p j->W.heap.size<=j:=⟨h.S.cells,h.U,h.F⟩
theorem ajx {b:Nat} {w:World} {F:Fp} {Q:QL} (h:eW b w F Q) (av:Int):Cx 93 #[pt b,I av] w λe w'=>∃p c,e=Z (.slice p (gJ Q av).length c)/\Cells w' p ((gJ Q av).map (ay .i64))/\au no w w'/\∀j,bg p j->w.heap.size<=j:=by
 refine Sg ?_;refine⟨(AM h av (-1)).mono ?_⟩;rintro e w1 ⟨rfl,rfl⟩;refine⟨_,rfl,λg=>?_,λg=>?_⟩
 ·have l:¬eT Q av (-1):=λh=>by rw[ar h]at g;simp at g
  rw[gJ,af l];exact⟨ag,0,rfl,Cells.nil _ _,au.refl _ _,λj ⟨a,m,_⟩=>(by cases m)⟩
 ·have f:eT Q av (-1):=eu λh=>by rw[af h]at g;simp at g
  rw[gJ,ar f];obtain⟨i,hi,rfl,n⟩:=tG f (by omega);rw[nN hi];obtain⟨o,g,h,hI⟩:=h;obtain⟨b2,x,a,c,bi,F4,hB,d,r,s⟩:=h.q (i:=i) hi;have t:=hI.pos;simp only at t hB;refine⟨(vy hB d hi (by omega)).mono ?_⟩;rintro e y ⟨rfl,rfl⟩;refine⟨_,rfl,⟨(Ra r).mono ?_⟩⟩;rintro e z ⟨p,c,rfl,u⟩;exact⟨_,_,_,rfl,_,_,rfl,u.all⟩
theorem Vh {b:Nat} {w:World} {F:Fp} {x:CS} (h:dY b w F x) (av:Int):Cx 95 #[pt b,I av] w λe w'=>∃p c,e=Z (.slice p (jC x av).length c)/\Cells w' p ((jC x av).map (ay .i64))/\au no w w'/\∀j,bg p j->w.heap.size<=j:=by
 refine Sh ?_;refine⟨λw1 m=>?_⟩;have d:=m.ak no;have n:dY b w1 F x:=(Frame.ca b).ak h d (λ_ _ h=>h);refine⟨(zi n (ze m) (by simp)).mono ?_⟩;rw[DF];rintro e z ⟨rfl,rfl⟩;refine⟨_,rfl,λg=>?_,λg=>?_⟩
 ·have r:¬bU x av:=λh=>by rw[ar h]at g;simp at g
  rw[jC,af r];exact⟨ag,0,rfl,Cells.nil _ _,d,λj ⟨a,s,_⟩=>(by cases s)⟩
 ·have o:bU x av:=eu λh=>by rw[af h]at g;simp at g
  rw[jC,ar o];obtain⟨i,hi,rfl⟩:=pO o;rw[qg hi];obtain⟨b2,a,c,bi,F4,hB,f,t,u⟩:=n.q (i:=i) hi;refine⟨_,rfl,_,_,_,hB.cell rfl,⟨by omega,by omega⟩,a,rfl,_,f,⟨(Ra t).mono ?_⟩⟩;rintro e A ⟨p,c,rfl,l⟩;exact⟨_,_,_,rfl,_,_,rfl,l.S.cells,d.and l.U,λj y=>aX d.size (l.F j y)⟩
section
variable {b:Nat} {W w:World} {F:Fp} {k:K} {q:KQ}
theorem PF (a:ai (KF b q) W w F k):Cx 180 #[pt b] w λe w'=>e=Z (pt q.th)/\au no w w':=by
 refine afU ?_;refine⟨(re a).mono ?_⟩;rintro e w1 ⟨⟨s,n,c,rfl⟩,d⟩;exact⟨_,_,_,_,_,_,_,_,_,_,_,_,_,_,_,_,_,rfl,rfl,d⟩
theorem Yk (a:ai (KF b q) W w F k):Cx 185 #[pt b] w λe w'=>e=Z (pt q.rt)/\au no w w':=by
 refine afY ?_;refine⟨(re a).mono ?_⟩;rintro e w1 ⟨⟨s,n,c,rfl⟩,d⟩;exact⟨_,_,_,_,_,_,_,_,_,_,_,_,_,_,_,_,_,rfl,rfl,d⟩
theorem Yc (a:ai (KF b q) W w F k):Cx 96 #[pt b] w λe w'=>e=Z (pt q.st)/\au no w w':=by
 refine u96 ?_;refine⟨(re a).mono ?_⟩;rintro e w1 ⟨⟨s,n,c,rfl⟩,d⟩;exact⟨_,_,_,_,_,_,_,_,_,_,_,_,_,_,_,_,_,rfl,rfl,d⟩
theorem XX (a:ai (KF b q) W w F k):Cx 178 #[pt b] w λe w'=>e=Z (pt q.co)/\au no w w':=by
 refine afS ?_;refine⟨(re a).mono ?_⟩;rintro e w1 ⟨⟨s,n,c,rfl⟩,d⟩;exact⟨_,_,_,_,_,_,_,_,_,_,_,_,_,_,_,_,_,rfl,rfl,d⟩
theorem Yi (a:ai (KF b q) W w F k):Cx 13 #[pt b] w λe w'=>e=Z (pt q.rq)/\au no w w':=by
 refine u13 ?_;refine⟨(re a).mono ?_⟩;rintro e w1 ⟨⟨s,n,c,rfl⟩,d⟩;exact⟨_,_,_,_,_,_,_,_,_,_,_,_,_,_,_,_,_,rfl,rfl,d⟩
theorem aaw (k:K) (i:Nat):sE (bW (λc=>(cm k.co c).pw) (i+1))=if(cm k.co i).pw then wi (sE (bW (λc=>(cm k.co c).pw) i)) i else sE (bW (λc=>(cm k.co c).pw) i):=by
 rw[vw];split
 ·unfold sE;rw[lx];rfl
 ·rfl
theorem aay (l:ai (KF b q) W w F k):Cx 85 #[pt b] w λe w'=>e=Z (.int .u64 (mi (mK k)))/\au no w w':=by
 have B:=KF.num l;refine u85 ?_;refine⟨(Pv l).mono ?_⟩;rintro e z ⟨rfl,rfl⟩;refine⟨_,rfl,⟨bJ bA (M:=Bt) (σ:=Nat) (λi=>GX (aa ⟨b,0,ag⟩) (mi (sE (bW (λc=>(cm k.co c).pw) i))) (k.n:Int) (i:Int)) (λi w'=>i<=k.n/\au no z w') (λi _=>k.n-i) 0 ⟨rfl,rfl,rfl,rfl,trivial⟩ ⟨cZ _,au.refl _ _⟩ ?_⟩⟩;rintro i w1 ⟨hi,o⟩;rw[adT];refine⟨λg=>?_,λg=>?_⟩
 ·have g:=aO g;have t:aT .i64 ((i:Int)+1)=((i+1:Nat):Int):=by rw[aN (by omega)];rfl
  have d:=l.ak o;have hs:=aaw k i;refine⟨(XX d).mono ?_⟩;rintro e C ⟨rfl,f⟩;obtain⟨F1,hA,_⟩:=KF.co (d.ak f);refine⟨_,rfl,⟨(FO hA i).mono ?_⟩⟩;rintro e u ⟨⟨n,m,rfl⟩,p⟩;refine⟨_,_,_,_,_,_,_,rfl,⟨λD x=>?_⟩⟩;refine x.aK.fQ (by simp) λA y=>?_;have r:au no u A:=(x.ak no).trans (au.mono (G:=λi=>i=u.heap.size) y.U (λ_ _ h=>h)) (λi hi h=>by omega);have a:=((o.trans f (λ_ _ h=>h)).trans p (λ_ _ h=>h)).trans r (λ_ _ h=>h);refine⟨_,y.aK.cell rfl,λs=>⟨λE j=>⟨(pT (sE (bW (λc=>(cm k.co c).pw) i)) (ze j) (by simp)).mono ?_⟩⟩,λs=>?_⟩
  ·rintro e H ⟨rfl,rfl⟩;rw[ar s]at hs;refine⟨_,rfl,i+1,⟨rfl,by rw[hs]<;>rfl,rfl,by rw[t]<;>rfl,trivial⟩,⟨by omega,a.trans (j.ak no) (λ_ _ h=>h)⟩,by omega⟩
  ·rw[af (by rw[s];decide)]at hs;exact⟨i+1,⟨rfl,by rw[hs]<;>rfl,rfl,by rw[t]<;>rfl,trivial⟩,⟨by omega,a⟩,by omega⟩
 ·have g:=aV g;have:i=k.n:=by omega
  subst this;exact⟨rfl,o⟩
theorem map_take {α:Type} {l:List Int} {i:Nat} (h:i<l.length) (g:Int->α):(l.take (i+1)).map g=(l.take i).map g++[g l[i]]:=by
 rw[ey h,fj];rfl
theorem ael (B:ai (KF b q) W w F k) (X:k.th.2.length=32):Cx 86 #[pt b] w λe w'=>∃p c,e=Z (.slice p (rz k.th).length c)/\ed du 3 w w' 278 p c (rz k.th):=by
 have m:(gl k.th).length<=32:=by rw[<-X];exact DI _ _
 refine u86 ?_;refine⟨(PF B).mono ?_⟩;rintro e Y ⟨rfl,n⟩;obtain⟨F0,C,_⟩:=KF.th (B.ak n);refine⟨_,rfl,⟨(R0 C).mono ?_⟩⟩;rintro e w9 ⟨A,c0,rfl,f⟩;have Q:Cells w9 A ((gl k.th).map (ay .i64)):=f.S.cells;have D:=n.trans f.U (λ_ _ h=>h);have al:∀j,bg A j->Y.heap.size<=j:=f.F;have e9:rz k.th=(gl k.th).map λid=>(id,(di k.th id).1.2.2.1,(di k.th id).1.2.2.2.2.2):=rfl;rw[e9];generalize gl k.th=L at Q m⊢;refine⟨_,_,_,rfl,⟨bJ bA (M:=Bu) (σ:=Nat×Option Addr×Nat) (λs=>GY (aa ⟨b,0,ag⟩) s.2.1 ((L.take s.1).map λid=>(id,(di k.th id).1.2.2.1,(di k.th id).1.2.2.2.2.2)).length s.2.2 A L.length c0 (L.length:Int) (s.1:Int)) (λs w'=>s.1<=L.length/\CL w' A s.2.1 (L.map (ay .i64))/\ed du 3 w w' 278 s.2.1 s.2.2 ((L.take s.1).map λid=>(id,(di k.th id).1.2.2.1,(di k.th id).1.2.2.2.2.2))) (λs _=>L.length-s.1) (0,ag,0) ⟨rfl,rfl,rfl,rfl,rfl,trivial⟩ ⟨cZ _,⟨Q,λa v _ _ ⟨a',E,_⟩=>(by cases E)⟩,ed.nil D _⟩ ?_⟩⟩;rintro⟨i,p1,c1⟩ w1 ⟨hi,l,o⟩;simp only at hi l o⊢;rw[adU];refine⟨λg=>?_,λg=>?_⟩
 ·have g:=aO g;have r:i<L.length:=by omega
  have ei:aT .i64 ((i:Int)+1)=((i+1:Nat):Int):=by rw[aN (by omega)];rfl
  have H:=map_take r (λid=>(id,(di k.th id).1.2.2.1,(di k.th id).1.2.2.2.2.2));have t:((L.take i).map λid=>(id,(di k.th id).1.2.2.1,(di k.th id).1.2.2.2.2.2)).length<=32:=by rw[bO,eh];omega
  obtain⟨a,ha,hc⟩:=l.1.ck r;have u:=B.ak o.U;refine⟨⟨by omega,by omega⟩,a,ha,_,hc,⟨(PF u).mono ?_⟩⟩;rintro e w2 ⟨rfl,y⟩;obtain⟨F1,hA,_⟩:=KF.th (u.ak y);refine⟨_,rfl,⟨(uW hA L[i]).mono ?_⟩⟩;rintro e R ⟨rfl,I⟩;refine⟨_,_,_,_,_,_,_,rfl,⟨λw4 T=>?_⟩⟩;refine T.aK.fQ (by simp) λw5 J=>?_;have N:au no R w5:=(T.ak no).trans (au.mono (G:=λi=>i=R.heap.size) J.U (λ_ _ h=>h)) (λi hi h=>by omega);have d:=(y.trans I (λ_ _ h=>h)).trans N (λ_ _ h=>h);refine⟨_,J.aK.cell rfl,_,J.aK.cell rfl,⟨λw6 O=>?_⟩⟩;obtain⟨p',c',w7,V,z,P⟩:=(o.ak d).DN V2 qf Aj (aX (fu _ (Nat.succ_le_succ t)) (by decide)) (aX t (by decide)) (x:=(L[i],(di k.th L[i]).1.2.2.1,(di k.th L[i]).1.2.2.2.2.2)) rfl O 62 (l.no d);rw[<-H]at V z;exact⟨p',_,c',w7,V,(i+1,p',c'),⟨rfl,rfl,rfl,rfl,by rw[ei]<;>rfl,trivial⟩,⟨by simp only;omega,P,z⟩,by simp only;omega⟩
 ·have g:=aV g;have:i=L.length:=by omega
  subst this;rw[dA]at o⊢;exact⟨p1,c1,rfl,o⟩
def oI (rt:cY) (n:Int):P3:=(n,if(cy rt n).2 then(cy rt n).1 else -1,0)
theorem XI (E:ai (KF b q) W w F k):Cx 91 #[pt b] w λe w'=>∃p c,e=Z (.slice p (qZ k.ir k.rt).length c)/\ed du 3 w w' 75 p c (qZ k.ir k.rt):=by
 have t:(gI k.ir).length<=16:=by unfold gI bW;exact aX (jW ..) (by simp)
 refine u91 ?_;refine⟨(X6 E).mono ?_⟩;rintro e w0 ⟨rfl,u⟩;obtain⟨F0,G,_⟩:=KF.ir (E.ak u);refine⟨_,rfl,⟨(P4 G).mono ?_⟩⟩;rintro e R ⟨D,c0,rfl,y⟩;have O:Cells R D ((gI k.ir).map (ay .i64)):=y.S.cells;have H:=u.trans y.U (λ_ _ h=>h);have T:qZ k.ir k.rt=(gI k.ir).map (oI k.rt):=rfl;rw[T];generalize gI k.ir=L at O t⊢;refine⟨_,_,_,rfl,⟨bJ bA (M:=Bv) (σ:=Nat×Option Addr×Nat) (λs=>G0 (aa ⟨b,0,ag⟩) s.2.1 ((L.take s.1).map (oI k.rt)).length s.2.2 D L.length c0 (L.length:Int) (s.1:Int)) (λs w'=>s.1<=L.length/\CL w' D s.2.1 (L.map (ay .i64))/\ed du 3 w w' 75 s.2.1 s.2.2 ((L.take s.1).map (oI k.rt))) (λs _=>L.length-s.1) (0,ag,0) ⟨rfl,rfl,rfl,rfl,rfl,trivial⟩ ⟨cZ _,⟨O,λa v _ _ ⟨a',I,_⟩=>(by cases I)⟩,ed.nil H _⟩ ?_⟩⟩;rintro⟨i,p1,c1⟩ w1 ⟨hi,f,z⟩;simp only at hi f z⊢;rw[adW];refine⟨λg=>?_,λg=>?_⟩
 ·have g:=aO g;have A:i<L.length:=by omega
  have P:aT .i64 ((i:Int)+1)=((i+1:Nat):Int):=by rw[aN (by omega)];rfl
  have J:=map_take A (oI k.rt);have B:((L.take i).map (oI k.rt)).length<=32:=by rw[bO,eh];omega
  obtain⟨a,V,X⟩:=f.1.ck A;have C:=E.ak z.U;refine⟨⟨by omega,by omega⟩,a,V,_,X,⟨(Yk C).mono ?_⟩⟩;rintro e w2 ⟨rfl,j⟩;obtain⟨F1,hA,_⟩:=KF.rt (C.ak j);refine⟨_,rfl,⟨(H7 hA L[i]).mono ?_⟩⟩;rintro e Q ⟨rfl,rfl⟩
  have push:∀(v:Int),oI k.rt L[i]=(L[i],v,0)->∀l,dr Q l (.cells (dB [ay .i64 L[i],ay .i64 v,ay .i64 0]) 75 (0,0))->∃p' c' m,(bM #[63,63] 63 #[.slice p1 ((L.take i).map (oI k.rt)).length c1,.slice (aa ⟨Q.heap.size,0,ag⟩) 1 1]).run Tryz.prog l=.ok (.slice p' ((L.take (i+1)).map (oI k.rt)).length c') m/\ed du 3 w m 75 p' c' ((L.take (i+1)).map (oI k.rt))/\CL m D p' (L.map (ay .i64)):=by
   intro v Y l d;rw[J];exact(z.ak j).DN CG qf Aj (aX (fu _ (Nat.succ_le_succ B)) (by decide)) (aX B (by decide)) (x:=oI k.rt L[i]) (by rw[Y];rfl) d 63 (f.no j)
  refine⟨_,_,rfl,λn=>⟨λl d=>?_⟩,λn=>⟨λl d=>?_⟩⟩
  ·have n:(cy k.rt L[i]).2=ae:=by simpa using n
   obtain⟨p',c',m,N,o,r⟩:=push (-1) (by unfold oI;rw[n];rfl) l d;exact⟨p',_,c',m,N,(i+1,p',c'),⟨rfl,rfl,rfl,rfl,by rw[P]<;>rfl,trivial⟩,⟨by simp only;omega,r,o⟩,by simp only;omega⟩
  ·have n:(cy k.rt L[i]).2=ah:=by simpa using n
   obtain⟨p',c',m,N,o,r⟩:=push (cy k.rt L[i]).1 (by unfold oI;rw[n];rfl) l d;exact⟨p',_,c',m,N,(i+1,p',c'),⟨rfl,rfl,rfl,rfl,by rw[P]<;>rfl,trivial⟩,⟨by simp only;omega,r,o⟩,by simp only;omega⟩
 ·have g:=aV g;have:i=L.length:=by omega
  subst this;rw[dA]at z⊢;exact⟨p1,c1,rfl,z⟩
theorem aac (c:ai (KF b q) W w F k) (id:Int):Cx 90 #[pt b,I id] w λe w'=>e=Z (I ((k.own id).getD 0))/\au no w w':=by
 refine u90 ?_;have hB:=KF.ax c;unfold lN at hB;obtain⟨F2,n,d,_⟩:=KF.own c;refine⟨λg=>(by cases g),λ_=>⟨_,rfl,_,hB.cell rfl,?_⟩⟩;have a:=jL rB d id ae;have f:((k.own id).map (ay .i64)).getD (I 0)=I ((k.own id).getD 0):=by cases k.own id<;>rfl
 rw[af (by decide),f]at a;exact⟨_,a,rfl,au.refl _ _⟩
theorem R3 (a:aB k) (c:Int):(oT k.tm c).length<=1000:=by
 unfold oT ic;split
 ·rw[(jh ..).length_eq];have:=Xs k.tm.t λx=>decide (x.1=c);rw[a.l6]at this;omega
 ·simp
theorem Ye {st:KS} {b:Nat} {w:World} {F:Fp} (h:dM b w F st) (c:Int):(pP st c).length<=1000:=by
 unfold pP;split
 ·rename_i a;obtain⟨i,hi,rfl⟩:=tF a;rw[tS hi];have:=h.2 _ (cx hi);omega
 ·simp
def Bx (v w:World) (p:Option Addr) (cs:List Value):Prop:=Cells w p cs/\∀a,p=aa a->a.block<w.heap.size/\v.heap.size<=a.block
theorem Bx.no {v w w':World} {p:Option Addr} {cs:List Value} (h:Bx v w p cs) (k:au no w w'):Bx v w' p cs:=⟨h.1.no k,λa c=>⟨jV (h.2 a c).1 k.size,(h.2 a c).2⟩⟩
theorem ed.bx {α:Type} {f:α->List Value} {sz:Nat} {v W w:World} {T:TypeId} {p:Option Addr} {c:Nat} {l:List α} (h:ed f sz W w T p c l) (e:au no v W):Bx v w p (l.flatMap f):=⟨h.S.cells,λa d=>⟨h.S.lt _ ⟨a,d,rfl⟩,aX e.size (h.F _ ⟨a,d,rfl⟩)⟩⟩
theorem AF {f n:Nat} (d:f<=1) (e:n<=64) {g:Int->List Int} {aA:Int->Int} (h:∀c,(g c).length<=1000):(cL (cD f n) g aA).length<=100000:=by
 have a:=IY (cs:=cD f n) (aA:=aA) h;rw[uN]at a;omega
set_option maxRecDepth 100000 in
theorem Tm (o:ai (KF b q) W w F k) (h:aJ k) (x:aB k):Cx 27 #[pt b] w λe w'=>∃a,e=Z (.tuple #[.agg (dF (cI k) a).toArray,I 0])/\jR w' (cI k) a/\au no w w':=by
 have u:=KF.num o
 have C:(rz k.th).length<=100000:=by
  unfold rz;rw[bO];exact aX (DI _ _) (by rw[x.gQ];decide)
 have D:(qZ k.ir k.rt).length<=100000:=by
  unfold qZ gI bW;rw[bO];exact aX (jW ..) (by simp)
 refine u27 ?_;refine⟨λv E=>⟨λg=>(by cases g),λ_=>?_⟩⟩;have hB:=E.aK;have z:=E.ak no;have A:w.heap.size<v.heap.size:=by rw[E.size];omega
 generalize am:w.heap.size=B0 at hB A⊢;replace o:=o.ak z;refine⟨(Pv o).mono ?_⟩;rintro e w1 ⟨rfl,rfl⟩;refine⟨_,rfl,⟨(PB (KF.loose o)).mono ?_⟩⟩;rintro e w1 ⟨rfl,rfl⟩;refine⟨_,rfl,⟨(XO (KF.loose o)).mono ?_⟩⟩;rintro e w1 ⟨rfl,rfl⟩;refine⟨_,rfl,⟨(aay o).mono ?_⟩⟩;rintro e w2 ⟨rfl,l⟩;refine⟨_,rfl,⟨(ael (o.ak l) x.gQ).mono ?_⟩⟩;rintro e w3 ⟨H,J,rfl,m⟩;have j:=m.U;have Cth:=m.bx l;replace l:=l.trans j (λ_ _ h=>h);clear j;clear m;refine⟨_,_,_,rfl,⟨(Yi (o.ak l)).mono ?_⟩⟩;rintro e w4 ⟨rfl,j⟩;replace l:=l.trans j (λ_ _ h=>h);replace Cth:=Cth.no j;clear j
 refine⟨_,rfl,⟨(Eg (f:=0) (n:=k.n) (g:=88) (by kernel_rfl) (of:=dd k.rq) (λc=>aX (Q9 h x c) (by decide)) (λc w' r=>by
   obtain⟨F1,hA,_⟩:=KF.rq (o.ak (l.trans r (λ_ _ h=>h)));exact(ID hA c).mono λe L ⟨p,d,M,m⟩=>⟨p,d,M,m.all⟩) (by decide) u.2).mono ?_⟩⟩
 rintro e w5 ⟨pq,cq,rfl,m⟩;have j:=m.U;have Cq:=m.bx l;replace l:=l.trans j (λ_ _ h=>h);replace Cth:=Cth.no j;clear j;clear m;refine⟨_,_,_,rfl,⟨(Ys (o.ak l)).mono ?_⟩⟩;rintro e w6 ⟨rfl,j⟩;replace l:=l.trans j (λ_ _ h=>h);replace Cth:=Cth.no j;replace Cq:=Cq.no j;clear j
 refine⟨_,rfl,⟨(acq (f:=0) (n:=k.n) (g:=89) (by kernel_rfl) (of:=oT k.tm) (R3 x) (g2:=90) (by kernel_rfl) (aA:=λid=>(k.own id).getD 0) (λid w1 N=>aac (o.ak (l.trans N (λ_ _ h=>h))) id) (λc w' r=>by
   obtain⟨F1,hA,_⟩:=KF.tm (o.ak (l.trans r (λ_ _ h=>h)));exact R1 hA c) (by decide) u.2).mono ?_⟩⟩
 rintro e w7 ⟨O,P,rfl,m⟩;have j:=m.U;have Ctm:=m.bx l;replace l:=l.trans j (λ_ _ h=>h);replace Cth:=Cth.no j;replace Cq:=Cq.no j;clear j;clear m;refine⟨_,_,_,rfl,⟨(XI (o.ak l)).mono ?_⟩⟩;rintro e w8 ⟨Q,R,rfl,m⟩;have j:=m.U;have Cir:=m.bx l;replace l:=l.trans j (λ_ _ h=>h);replace Cth:=Cth.no j;replace Cq:=Cq.no j;replace Ctm:=Ctm.no j;clear j;clear m;refine⟨_,_,_,rfl,⟨(Yv (o.ak l)).mono ?_⟩⟩;rintro e w9 ⟨rfl,j⟩;replace l:=l.trans j (λ_ _ h=>h);replace Cth:=Cth.no j;replace Cq:=Cq.no j;replace Ctm:=Ctm.no j;replace Cir:=Cir.no j;clear j
 refine⟨_,rfl,⟨(Eg (f:=1) (n:=k.n) (g:=93) (by kernel_rfl) (of:=gJ k.wk) (λc=>aX (SB x c) (by decide)) (λc w' r=>by
   obtain⟨F1,hA,_⟩:=KF.wk (o.ak (l.trans r (λ_ _ h=>h)));exact ajx hA c) (by decide) u.2).mono ?_⟩⟩
 rintro e ap ⟨S,T,rfl,m⟩;have j:=m.U;have Cwk:=m.bx l;replace l:=l.trans j (λ_ _ h=>h);replace Cth:=Cth.no j;replace Cq:=Cq.no j;replace Ctm:=Ctm.no j;replace Cir:=Cir.no j;clear j;clear m;refine⟨_,_,_,rfl,⟨(XU (o.ak l)).mono ?_⟩⟩;rintro e aq ⟨rfl,j⟩;replace l:=l.trans j (λ_ _ h=>h);replace Cth:=Cth.no j;replace Cq:=Cq.no j;replace Ctm:=Ctm.no j;replace Cir:=Cir.no j;replace Cwk:=Cwk.no j;clear j
 refine⟨_,rfl,⟨(Eg (f:=0) (n:=k.n) (g:=95) (by kernel_rfl) (of:=jC k.ca) (λc=>aX (MD h c) (by decide)) (λc w' r=>by
   obtain⟨F1,hA,_⟩:=KF.ca (o.ak (l.trans r (λ_ _ h=>h)));exact Vh hA c) (by decide) u.2).mono ?_⟩⟩
 rintro e az ⟨V,X,rfl,m⟩;have j:=m.U;have Cca:=m.bx l;replace l:=l.trans j (λ_ _ h=>h);replace Cth:=Cth.no j;replace Cq:=Cq.no j;replace Ctm:=Ctm.no j;replace Cir:=Cir.no j;replace Cwk:=Cwk.no j;clear j;clear m;refine⟨_,_,_,rfl,⟨(Yc (o.ak l)).mono ?_⟩⟩;rintro e bb ⟨rfl,j⟩;replace l:=l.trans j (λ_ _ h=>h);replace Cth:=Cth.no j;replace Cq:=Cq.no j;replace Ctm:=Ctm.no j;replace Cir:=Cir.no j;replace Cwk:=Cwk.no j;replace Cca:=Cca.no j;clear j
 have B:∀c,(pP k.st c).length<=1000:=λc=>by
  obtain⟨F1,hA,_⟩:=KF.st (o.ak l);exact Ye hA c
 refine⟨_,rfl,⟨(Eg (f:=0) (n:=k.n) (g:=97) (by kernel_rfl) (of:=pP k.st) B (λc w' r=>by
   obtain⟨F1,hA,_⟩:=KF.st (o.ak (l.trans r (λ_ _ h=>h)));exact(X0 hA c).mono λe L ⟨p,d,M,m⟩=>⟨p,d,M,m.all⟩) (by decide) u.2).mono ?_⟩⟩
 rintro e be ⟨Y,al,rfl,m⟩;have j:=m.U;have Ckp:=m.bx l;replace l:=l.trans j (λ_ _ h=>h);replace Cth:=Cth.no j;replace Cq:=Cq.no j;replace Ctm:=Ctm.no j;replace Cir:=Cir.no j;replace Cwk:=Cwk.no j;replace Cca:=Cca.no j;clear j;clear m;refine⟨_,_,_,rfl,⟨(De (o.ak l)).mono ?_⟩⟩;rintro e bl ⟨rfl,j⟩;replace l:=l.trans j (λ_ _ h=>h);replace Cth:=Cth.no j;replace Cq:=Cq.no j;replace Ctm:=Ctm.no j;replace Cir:=Cir.no j;replace Cwk:=Cwk.no j;replace Cca:=Cca.no j;replace Ckp:=Ckp.no j;clear j;obtain⟨Fd,t,_⟩:=KF.dk (o.ak l);refine⟨_,rfl,⟨(u0 t).mono ?_⟩⟩;clear t;rintro e w' ⟨rfl,y⟩;subst y;refine⟨_,rfl,⟨(De (o.ak l)).mono ?_⟩⟩;rintro e bm ⟨rfl,j⟩;replace l:=l.trans j (λ_ _ h=>h);replace Cth:=Cth.no j;replace Cq:=Cq.no j;replace Ctm:=Ctm.no j;replace Cir:=Cir.no j;replace Cwk:=Cwk.no j;replace Cca:=Cca.no j;replace Ckp:=Ckp.no j;clear j;obtain⟨Fd,t,_⟩:=KF.dk (o.ak l);refine⟨_,rfl,⟨(N5 t).mono ?_⟩⟩;clear t;rintro e w' ⟨rfl,y⟩;subst y;refine⟨_,rfl,⟨(De (o.ak l)).mono ?_⟩⟩;rintro e bs ⟨rfl,j⟩;replace l:=l.trans j (λ_ _ h=>h);replace Cth:=Cth.no j;replace Cq:=Cq.no j;replace Ctm:=Ctm.no j;replace Cir:=Cir.no j;replace Cwk:=Cwk.no j;replace Cca:=Cca.no j;replace Ckp:=Ckp.no j;clear j;obtain⟨Fd,t,_⟩:=KF.dk (o.ak l);refine⟨_,rfl,⟨(N1 t).mono ?_⟩⟩;clear t;rintro e w' ⟨rfl,y⟩;subst y;refine⟨_,rfl,⟨(De (o.ak l)).mono ?_⟩⟩;rintro e bv ⟨rfl,j⟩;replace l:=l.trans j (λ_ _ h=>h);replace Cth:=Cth.no j;replace Cq:=Cq.no j;replace Ctm:=Ctm.no j;replace Cir:=Cir.no j;replace Cwk:=Cwk.no j;replace Cca:=Cca.no j;replace Ckp:=Ckp.no j;clear j;obtain⟨Fd,t,_⟩:=KF.dk (o.ak l);refine⟨_,rfl,⟨(NZ t).mono ?_⟩⟩;clear t;rintro e w' ⟨rfl,y⟩;subst y;refine⟨_,rfl,?_⟩;refine(hB.ak l (λh=>h)).fQ (by simp) λw' hW=>?_;have s:=hW.aK;have off:∀{p:Option Addr} {cs:List Value},Bx w1 _ p cs->Cells w' p cs:=λ{p cs} hC=>Cells.ak hC.1 λa ha=>hW.U.ax _ (hC.2 a ha).1 (Nat.ne_of_gt (jV A (hC.2 a ha).2));refine⟨_,s.cell rfl,_,s.cell rfl,_,s.cell rfl,_,s.cell rfl,_,_,_,s.cell rfl,_,_,_,s.cell rfl,_,_,_,s.cell rfl,_,_,_,s.cell rfl,_,_,_,s.cell rfl,_,_,_,s.cell rfl,_,_,_,s.cell rfl,_,s.cell rfl,_,s.cell rfl,_,s.cell rfl,_,s.cell rfl,⟨(H,J),(pq,cq),(O,P),(Q,R),(S,T),(V,X),(Y,al)⟩,rfl,⟨⟨off Cth,C⟩,⟨off Cq,?_⟩,⟨off Ctm,?_⟩,⟨off Cir,D⟩,⟨off Cwk,?_⟩,⟨off Cca,?_⟩,⟨off Ckp,?_⟩⟩,?_⟩
 ·exact AF (by decide) u.2 λc=>aX (Q9 h x c) (by decide)
 ·exact AF (by decide) u.2 (R3 x)
 ·exact AF (by decide) u.2 λc=>aX (SB x c) (by decide)
 ·exact AF (by decide) u.2 λc=>aX (MD h c) (by decide)
 ·exact AF (by decide) u.2 B
 ·exact(z.trans l (λ_ _ h=>h)).trans (au.mono (G:=λi=>i=B0) hW.U (λ_ _ h=>h)) (λi hi h=>by omega)
end
theorem Yb (n:Int) (b:¬(1<=n/\n<=64)) (w:World):Cx 8 #[I n] w λe w'=>e=Z (.tuple #[.pointer ag,I 2])/\w'=w:=by
 refine u8 ?_;rw[t8];refine⟨λg=>⟨λ_=>⟨rfl,rfl⟩,λa=>?_⟩,λ_=>⟨rfl,rfl⟩⟩;have g:=aV g;have a:=aV a;exact absurd ⟨by omega,by omega⟩ b
theorem V9 (e:cJ):(j0 e).length=5:=rfl
theorem Nq:∀(es:List cJ) {k:K},aJ k->aB k->aJ (es.foldl dy k)/\aB (es.foldl dy k)/\(es.foldl dy k).n=k.n
 | [],_,h,a=>⟨h,a,rfl⟩
 | e::es,k,h,a=>by
  have c:=Nq es (h.uR a e) (a.uR e);exact⟨c.1,c.2.1,c.2.2.trans (Zh _ _)⟩
theorem abq {k:K} (h:aJ k) (a:aB k):∀n,1<=n->n<=7->xS (cI k) n=ah:=λn c d=>by
 have:n=1∨n=2∨n=3∨n=4∨n=5∨n=6∨n=7:=by omega
 rcases this with rfl|rfl|rfl|rfl|rfl|rfl|rfl
 ·exact abr h a
 ·exact abt h a
 ·exact abu h a
 ·exact abv h a
 ·exact abw h a
 ·exact abx h a
 ·exact aby h a
section
variable {b:Nat} {W w:World} {F:Fp} {k:K}
theorem W4 (f:Int) (g:Option Addr) (h:Nat) (i:Nat) (j:Option Addr) (l:Int) (a:Addr) (d:Int) (w:World) (B6_1:Env->World->Prop) (B6_4:Env->World->Prop) (R:Ending->World->Prop):den Tryz.prog M6 uF [(0,SV.v (I f)),(1,SV.v (.slice g h i)),(5,SV.v (.pointer j)),(7,SV.v (I l)),(8,SV.v (.pointer (aa a))),(12,SV.v (I d)),(13,SV.b ae)] w (vd B6_1 B6_4 R)=(∃n,bf w (bh a 1)=aa (ay ef n)/\Call Tryz.prog 23 [ay ef n,ay aY d] w λe w'=>∃b,e=cj (fA b)/\((!b)=ah->∃n,bf w' (bh a 0)=aa (ay aY n)/\∃n_1,bf w' (bh a 1)=aa (ay ef n_1)/\∃n_2,bf w' (bh a 2)=aa (ay ef n_2)/\∃n_3,bf w' (bh a 3)=aa (ay ef n_3)/\∃p n_4 c,bf w' (bh a 4)=aa (ft p n_4 c)/\∃p_1 n_5 c_1,bf w' (bh a 5)=aa (ft p_1 n_5 c_1)/\∃p_2 n_6 c_2,bf w' (bh a 6)=aa (ft p_2 n_6 c_2)/\∃p_3 n_7 c_3,bf w' (bh a 7)=aa (ft p_3 n_7 c_3)/\∃p_4 n_8 c_4,bf w' (bh a 8)=aa (ft p_4 n_8 c_4)/\∃p_5 n_9 c_5,bf w' (bh a 9)=aa (ft p_5 n_9 c_5)/\∃p_6 n_10 c_6,bf w' (bh a 10)=aa (ft p_6 n_10 c_6)/\∃b,bf w' (bh a 11)=aa (fA b)/\∃b_1,bf w' (bh a 12)=aa (fA b_1)/\∃n_11,bf w' (bh a 13)=aa (ay aY n_11)/\∃n_12,bf w' (bh a 14)=aa (ay aY n_12)/\Call Tryz.prog 29 [kH #[ay aY n,ay ef n_1,ay ef n_2,ay ef n_3,ft p n_4 c,ft p_1 n_5 c_1,ft p_2 n_6 c_2,ft p_3 n_7 c_3,ft p_4 n_8 c_4,ft p_5 n_9 c_5,ft p_6 n_10 c_6,fA b,fA b_1,ay aY n_11,ay aY n_12],ay aY d] w' λe w'=>∃b,e=cj (fA b)/\(b=ae->∃n,bf w' (bh a 3)=aa (ay ef n)/\Call Tryz.prog 23 [ay ef n,ay aY d] w' λe w'=>∃b,e=cj (fA b)/\(b=ah->R (cj (fA ae)) w')/\(b=ae->B6_4 [(0,SV.v (ay aY f)),(1,SV.v (ft g h i)),(5,SV.v (bo j)),(7,SV.v (ay aY l)),(8,SV.v (bo (aa a))),(12,SV.v (ay aY (aT aY (d+(1:Int)))))] w'))/\(b=ah->R (cj (fA ae)) w'))/\((!b)=ae->B6_4 [(0,SV.v (ay aY f)),(1,SV.v (ft g h i)),(5,SV.v (bo j)),(7,SV.v (ay aY l)),(8,SV.v (bo (aa a))),(12,SV.v (ay aY (aT aY (d+(1:Int)))))] w')):=by kernel_rfl
set_option maxRecDepth 100000 in
theorem W0 (h:aJ k) (s:aB k) {a:PA} {pb:Nat} {T:TypeId} (d:aL w pb (dF (cI k) a) T) (t:jR w (cI k) a) {j:Nat} {co:Bool} (o:co=(dT k.dk&&gF k.dk&&(fZ k.dk==(j:Int)))) {n i:Int} {q kp:Option Addr} {m c:Nat} {B1 B4:Env->World->Prop} {R:Ending->World->Prop}
  (f:∀w',au no w w'->B4 [(0,SV.v (I n)),(1,SV.v (.slice q m c)),(5,SV.v (.pointer kp)),(7,SV.v (I i)),(8,SV.v (pt pb)),(12,SV.v (I (aT .i64 ((j:Int)+1))))] w') :
  aP Tryz.prog M6 uF (GV n q m c kp i ⟨pb,0,ag⟩ (j:Int) co) w (vd B1 B4 R):=by
 refine aP.mk ?_;rw[adP];refine⟨_,d.cell rfl,⟨(iN k.on j _).mono ?_⟩⟩;rintro e w1 ⟨rfl,rfl⟩;refine⟨_,rfl,λg=>?_,λg=>f _ (au.refl _ _)⟩;have g:hs k.on j=ae:=by simpa using g
 obtain⟨g1,u⟩:=gone h s (by omega) g;refine⟨_,d.cell rfl,_,d.cell rfl,_,d.cell rfl,_,d.cell rfl,_,_,_,d.cell rfl,_,_,_,d.cell rfl,_,_,_,d.cell rfl,_,_,_,d.cell rfl,_,_,_,d.cell rfl,_,_,_,d.cell rfl,_,_,_,d.cell rfl,_,d.cell rfl,_,d.cell rfl,_,d.cell rfl,_,d.cell rfl,⟨(QK t j).mono ?_⟩⟩;rintro e x ⟨rfl,p⟩;refine⟨_,rfl,λ_=>⟨_,(d.ak p (λh=>h)).cell rfl,⟨(iN (mK k) j _).mono ?_⟩⟩,λl=>by rw[g1]at l;cases l⟩;rintro e y ⟨rfl,rfl⟩;refine⟨_,rfl,λl=>⟨λr=>?_,λ_=>f _ p⟩,λ_=>f _ p⟩;obtain⟨x1,x2,x3⟩:=u l;rw[o,x1,x2,x3]at r;simp at r
set_option maxRecDepth 100000 in
theorem NR (h:aJ k) (r:aB k) {a:PA} {pb:Nat} {T:TypeId} (d:aL w pb (dF (cI k) a) T) (s:jR w (cI k) a) {j:Nat} (f:(dT k.dk&&gF k.dk)=ae) {n i:Int} {q kp:Option Addr} {m c:Nat} {B1 B4:Env->World->Prop} {R:Ending->World->Prop}
  (l:∀w',au no w w'->B4 [(0,SV.v (I n)),(1,SV.v (.slice q m c)),(5,SV.v (.pointer kp)),(7,SV.v (I i)),(8,SV.v (pt pb)),(12,SV.v (I (aT .i64 ((j:Int)+1))))] w') :
  aP Tryz.prog M6 uF [(0,SV.v (I n)),(1,SV.v (.slice q m c)),(5,SV.v (.pointer kp)),(7,SV.v (I i)),(8,SV.v (pt pb)),(12,SV.v (I (j:Int))),(13,SV.b ae)] w (vd B1 B4 R):=by
 refine aP.mk ?_;rw[W4];refine⟨_,d.cell rfl,⟨(iN k.on j _).mono ?_⟩⟩;rintro e w1 ⟨rfl,rfl⟩;refine⟨_,rfl,λg=>?_,λg=>l _ (au.refl _ _)⟩;have g:hs k.on j=ae:=by simpa using g
 obtain⟨g1,t⟩:=gone h r (by omega) g;refine⟨_,d.cell rfl,_,d.cell rfl,_,d.cell rfl,_,d.cell rfl,_,_,_,d.cell rfl,_,_,_,d.cell rfl,_,_,_,d.cell rfl,_,_,_,d.cell rfl,_,_,_,d.cell rfl,_,_,_,d.cell rfl,_,_,_,d.cell rfl,_,d.cell rfl,_,d.cell rfl,_,d.cell rfl,_,d.cell rfl,⟨(QK s j).mono ?_⟩⟩;rintro e u ⟨rfl,p⟩;refine⟨_,rfl,λ_=>⟨_,(d.ak p (λh=>h)).cell rfl,⟨(iN (mK k) j _).mono ?_⟩⟩,λo=>by rw[g1]at o;cases o⟩;rintro e x ⟨rfl,rfl⟩;refine⟨_,rfl,λo=>?_,λ_=>l _ p⟩;obtain⟨x1,x2,x3⟩:=t o;rw[x1,x2]at f;cases f
set_option maxRecDepth 100000 in
theorem NQ {N:Nat} (P:N<=64) (H:ai (KO b) W w F k) (h:aJ k) (r:aB k) {i:Int} {q:Option Addr} {m c:Nat} {B1:Env->World->Prop} {R:Ending->World->Prop}
  (u:∀w',au no w w'->B1 [(0,SV.v (I (N:Int))),(1,SV.v (.slice q m c)),(5,SV.v (pt b)),(7,SV.v (I (aT .i64 (i+1))))] w') :
  aP Tryz.prog M6 B5 (CD (N:Int) q m c (aa ⟨b,0,ag⟩) i) w (Dd B1 R):=by
 obtain⟨kq,J⟩:=KO.fix H;refine aP.mk ?_;rw[adN];refine⟨(Tm J h r).mono ?_⟩;rintro e w1 ⟨a,rfl,p,x⟩;refine⟨_,_,_,_,_,_,_,_,_,_,_,_,_,_,_,_,_,_,_,_,_,_,_,_,_,_,_,_,_,_,rfl,⟨λQ s=>?_⟩⟩;refine s.aK.fQ (by simp) λt E=>?_;have d:aL t w1.heap.size (dF (cI k) a) 65:=E.aK;have n:au no w1 t:=(s.ak no).trans (au.mono (G:=λi=>i=w1.heap.size) E.U (λ_ _ h=>h)) (λi hi h=>by omega);replace p:=p.no n;have y:=x.trans n (λ_ _ h=>h);generalize w1.heap.size=z at d⊢;refine⟨_,d.cell rfl,_,d.cell rfl,_,d.cell rfl,_,d.cell rfl,_,_,_,d.cell rfl,_,_,_,d.cell rfl,_,_,_,d.cell rfl,_,_,_,d.cell rfl,_,_,_,d.cell rfl,_,_,_,d.cell rfl,_,_,_,d.cell rfl,_,d.cell rfl,_,d.cell rfl,_,d.cell rfl,_,d.cell rfl,⟨(Vd p (abq h r)).mono ?_⟩⟩;rintro e S ⟨rfl,A⟩;refine⟨_,_,rfl,λ_=>⟨λ_=>⟨λg=>by simp at g,λ_=>⟨?_⟩⟩,λg=>by simp at g⟩,λg=>by simp at g⟩;refine bJ bA (M:=M6) (σ:=Nat) (λj=>CE (N:Int) q m c (aa ⟨b,0,ag⟩) i ⟨z,0,ag⟩ (j:Int)) (λj w'=>j<=N/\au no t w') (λj _=>N-j) 0 ⟨rfl,rfl,rfl,rfl,rfl,rfl,trivial⟩ ⟨cZ _,A⟩ ?_;rintro j L ⟨T,f⟩;rw[adO];refine⟨λg=>?_,λg=>u _ (y.trans f (λ_ _ h=>h))⟩;have g:=aO g;have O:aT .i64 ((j:Int)+1)=((j+1:Nat):Int):=by rw[aN (by omega)];rfl
 have l:=d.ak f (λh=>h);have B:∀w',au no L w'->∃C:Nat,rH [(0,SV.v (I (N:Int))),(1,SV.v (.slice q m c)),(5,SV.v (pt b)),(7,SV.v (I i)),(8,SV.v (pt z)),(12,SV.v (I (aT .i64 ((j:Int)+1))))] (CE (N:Int) q m c (aa ⟨b,0,ag⟩) i ⟨z,0,ag⟩ (C:Int))/\(C<=N/\au no t w')/\N-C<N-j:=λw' D=>⟨j+1,⟨rfl,rfl,rfl,rfl,rfl,by rw[O]<;>rfl,trivial⟩,⟨by omega,f.trans D (λ_ _ h=>h)⟩,by omega⟩;refine⟨_,l.cell rfl,λg1=>⟨_,l.cell rfl,λo=>⟨_,l.cell rfl,?_⟩,λo=>?_⟩,λg1=>?_⟩
 ·refine W0 h r l (p.no f) ?_ B;have g1:dT k.dk=ah:=g1;have o:gF k.dk=ah:=o;rw[g1,o];rfl
 ·exact NR h r l (p.no f) (by have o:gF k.dk=ae:=o;rw[o];simp) B
 ·exact NR h r l (p.no f) (by have g1:dT k.dk=ae:=g1;rw[g1];rfl) B
end
set_option maxRecDepth 100000 in
theorem topGone_ok {W:World} (d:Tab W) {n:Int} (T:(Lit.int .i64 n).wf=ah) {es:List cJ} {q:Option Addr} {c:Nat} (_:∀x∈es,okIIIUI x) (B:Cells W q (es.flatMap recIIIUI)) (_:es.length<=maxLen) :
  Cx 6 #[I n,.slice q es.length c] W λe w'=>e=Z (.bool ah)/\au no W w':=by
 replace B:Cells W q (es.flatMap j0):=B;refine u6 ?_;rw[t6];by_cases H:1<=n/\n<=64
 case neg=>
  refine⟨(Yb n H W).mono ?_⟩;rintro e w1 ⟨rfl,rfl⟩;refine⟨_,_,rfl,λg=>by simp at g,λ_=>⟨(E7 d).mono ?_⟩⟩;rintro e C ⟨rfl,j⟩;exact⟨_,rfl,rfl,j⟩
 obtain⟨N,rfl⟩:∃N:Nat,n=(N:Int):=⟨n.toNat,by omega⟩;have f:1<=N/\N<=64:=by omega
 refine⟨(Pz N f W).mono ?_⟩;rintro e w1 ⟨b,F,rfl,J,l,G⟩;have o:Tab w1:=d.no l;have U:=d.pos;have L:¬F 0:=λh=>by have:=G 0 h;omega
 have up:∀{σ:Type} {A:Ob σ} {s:σ} {w':World},ai A w1 w' F s->au no W w':=λ⟨_,_,j,_⟩=>l.trans j (λi hi O=>by have:=G i O;omega);refine⟨_,_,rfl,λ_=>⟨(Wj (N:Int) w1).mono ?_⟩,λg=>by simp at g⟩;rintro e C ⟨rfl,rfl⟩;refine⟨_,rfl,λg=>⟨(E7 o).mono ?_⟩,λg=>⟨?_⟩⟩
 ·rintro e V ⟨rfl,j⟩;exact⟨_,rfl,rfl,l.trans j (λ_ _ h=>h)⟩
 have g:1<=(N:Int)/\(N:Int)<=9/\es.length<=300:=by simpa using g
 have p:∀i,aJ ((es.take i).foldl dy (dE N))/\aB ((es.take i).foldl dy (dE N))/\_:=λi=>Nq _ (ZI f) (QB f);refine bJ bA (M:=M6) (σ:=Nat) (λi=>CC (N:Int) q es.length c (aa ⟨b,0,ag⟩) (i:Int)) (λi w'=>i<=es.length/\ai (KO b) C w' F ((es.take i).foldl dy (dE N))) (λi _=>es.length-i) 0 ⟨rfl,rfl,rfl,rfl,trivial⟩ ⟨cZ _,ai.same J⟩ ?_;intro i P hI;have hi:=hI.1;have D:=hI.2;clear hI;rw[adM];refine⟨λg1=>?_,λg1=>aP.mk ?_⟩
 ·have r:i<es.length:=by simpa using g1
  obtain⟨a,Q,t⟩:=(B.no (up D)).qN V9 (by decide) r
  have E:(es.take (i+1)).foldl dy (dE N)=dy ((es.take i).foldl dy (dE N)) es[i]:=by
   rw[ey r,lx];rfl
  have R:aT .i64 ((i:Int)+1)=((i+1:Nat):Int):=by rw[aN (by omega)];rfl
  refine⟨⟨by omega,by omega⟩,a,Q,_,t 0 _ rfl,_,t 1 _ rfl,_,t 2 _ rfl,_,t 3 _ rfl,_,t 4 _ rfl,⟨(zN (e:=es[i]) o L D (p i).2.1.jj).mono ?_⟩⟩;rintro e S ⟨X,Y,rfl,m⟩;have m:=m.drop;rw[<-E]at m;have y:=p (i+1);have next:∀w',au no S w'->∃z,rH [(0,SV.v (I (N:Int))),(1,SV.v (.slice q es.length c)),(5,SV.v (pt b)),(7,SV.v (I (aT .i64 ((i:Int)+1))))] (CC (N:Int) q es.length c (aa ⟨b,0,ag⟩) ((z:Nat):Int))/\(z<=es.length/\ai (KO b) C w' F ((es.take z).foldl dy (dE N)))/\es.length-z<es.length-i:=λw' j=>⟨i+1,⟨rfl,rfl,rfl,by rw[R]<;>rfl,trivial⟩,⟨by omega,m.ak j⟩,by omega⟩
  refine⟨_,_,_,rfl,by decide,λ_=>⟨λ_=>next _ (au.refl _ _),λ_=>?_⟩,λ_=>?_⟩
  ·exact NQ f.2 m y.1 y.2.1 next
  ·exact NQ f.2 m y.1 y.2.1 next
 ·have u:au no W P:=up D;rw[adL];refine⟨(E7 (d.no u)).mono ?_⟩;rintro e w6 ⟨rfl,j⟩;exact⟨_,rfl,rfl,u.trans j (λ_ _ h=>h)⟩
end Go.Dav
