/- What functions of the program come to, part 4; the texts are made small to keep within a claim. -/
import Derived.Shelf.SlSortCmp.NoneTotal
import Derived.Shelf.SlicesE.DeleteFunc
import Derived.Shelf.SlGeneric
import Derived.Shelf.SlIterI.Collect
import Derived.Shelf.SlIterI.Keys
import Derived.Shelf.SlIterI.Nil
import Derived.Ground.SlsfProg
import Derived.Ground.SlgfProg
import Derived.Ground.GgzProg
import Derived.Test.YtobclpijhmkniaaGreatDoorProg
import Derived.Test.YtobclpijhmkniaaGreatDoorPrtC
set_option linter.unusedVariables false
set_option linter.unusedSimpArgs false
set_option linter.unusedSectionVars false
namespace Go.Dav
open Go.Proofs
open _root_.List renaming getD_eq_getElem?_getD→aO,getElem?_eq_none→fV,findIdx?_eq_some_iff_getElem→oo,getElem?_eq_getElem→cO,replicate→aD,mem_map→ck,mem_filter→ij,mem_range→cD,nodup_range→rS,getElem?_set→cJ,mem_of_find?_eq_some→pH,nodup_cons→mG,mem_cons→ez,length_set→bN,foldl_cons→nm,map_append→eI,map_cons→np,nodup_append→jO,mem_singleton→gJ,mem_append→eG,length_append→cG,length_singleton→rW,mem_or_eq_of_mem_set→i7,find?_some→pI,getElem_set_ne→rQ,count_append→ni,count_singleton→uo,length_replicate→fW,getElem?_replicate→jt,range→bU,all_eq_true→fL,nodup_nil→ju,any_eq_true→mF,getElem_mem→cx,take_succ_eq_append_getElem→eW,take_length→dC,filter_append→td,length_filter_le→jN,length_take→eR,foldl_append→mH,mem_cons_self→i6,mem_cons_of_mem→rP,append_assoc→jP,getElem?_append_left→kr,getElem?_append_right→lP,getElem?_drop→ik,range_succ→nq,length_cons→il,length_nil→oq,ext_getElem?→de,length_map→bW,take_of_length_le→rO
open _root_.Option renaming some→aa,none→ah,getD_some→ie,map_eq_some_iff→lf,isSome_iff_exists→lU,map_some→gK
open _root_.Classical renaming byContradiction→eV
open _root_.Bool renaming true→ag,false→ae,or_eq_true→eT,and_eq_true→aY,not_eq_true'→ja,false_eq_true→fD,false_and→js,not_false→tc,true_and→dR,false_or→ur,and_true→lR,or_false→pD,eq_iff_iff→ig
open _root_.List.Pairwise renaming map→rR,filter→xx
open _root_.Int renaming le_refl→fU,toNat_natCast→bQ,tdiv→jq,tdiv_eq_ediv_of_nonneg→xw,fdiv_eq_ediv_of_nonneg→vB
open _root_.List.Perm renaming mem_iff→tg
open _root_.Nat renaming le_trans→aW,lt_of_lt_of_le→jM,le_of_ble_eq_true→dP,zero_le→cB,mul_le_mul_right→fM,mod_eq_of_lt→jr,zero_add→eU,le_refl→aX,mul_one→eX
open _root_.Prod renaming ext→lT
open Value renaming agg→ns,int→aB
open IntKind renaming wrap→aV,bits→lQ,signed→kl,i64→bj
open Ending renaming returned→cN
open _root_.BitVec renaming ofInt→ib,toNat_ofNat→oc
open _root_.Iff renaming rfl→bp
open Addr renaming add_add→dX
open Builtin renaming min_→qC,append_→bR
open _root_.Array renaming getElem?_append_left→xt
theorem FI {t:dO} {i:Nat} (hi:i<t.length) (v:Option (Int×Int)) (id:Int):bE (t.set i v) id=if id=(i:Int)+1 then v else bE t id:=by
 unfold bE;by_cases h1:1<=id
 ·rw[aj h1,aj h1];by_cases a:id=(i:Int)+1
  ·subst a;have b:((i:Int)+1).toNat-1=i:=by omega
   rw[aj rfl,b];simp[aO,hi]
  ·rw[af a];have:i≠id.toNat-1:=by omega
   simp[aO,this]
 ·rw[af h1,af h1,af (by omega)]
theorem zm {t:dO} {id:Int} {p:Int×Int} (h:bE t id=aa p):1<=id/\id<=t.length:=by
 unfold bE at h;split at h
 ·rename_i h1;refine⟨h1,?_⟩
  have:id.toNat-1<t.length:=by
   apply eV;intro a;rw[aO,fV (by omega)]at h;cases h
  omega
 ·cases h
theorem Ky {t:dO} {id:Int} {p:Int×Int} (h:bE t id=aa p) (v:Option (Int×Int)) (j:Int):bE (t.set (id.toNat-1) v) j=if j=id then v else bE t j:=by
 have:=zm h;rw[FI (by omega)];have e:((id.toNat-1:Nat):Int)+1=id:=by omega
 rw[e]
theorem Iv {t:dO} {i:Nat} (h:tE t=aa i):i<t.length/\bE t ((i:Int)+1)=ah:=by
 obtain⟨hi,a,_⟩:=oo.1 h;refine⟨hi,?_⟩;unfold bE;have b:((i:Int)+1).toNat-1=i:=by omega
 rw[aj (by omega),b,aO,cO hi];simpa using a
theorem FH (n:Nat) (id:Int):bE (aD n ah) id=ah:=by
 unfold bE;split
 ·rw[aO];by_cases h:id.toNat-1<n
  ·simp[h]
  ·rw[fV (by simpa using h)];rfl
 ·rfl
theorem LQ (x:cI) (c due:Int):((dL x c due).2=0/\dT x c/\∃i:Nat,i<x.t.length/\bE x.t ((i:Int)+1)=ah/\(dL x c due).1=(i:Int)+1/\im x c due={x with t:=x.t.set i (aa (c,due))})∨((dL x c due).2≠0/\im x c due=x):=by
 unfold dL im;by_cases h1:dT x c
 ·by_cases a:bD due
  ·rw[aj h1,aj a,aj ⟨h1,a⟩]
   cases b:tE x.t with
   | none=>exact .inr ⟨by simp,rfl⟩
   | some i=>exact .inl ⟨rfl,h1,i,(Iv b).1,(Iv b).2,rfl,rfl⟩
  ·rw[aj h1,af a,af (λh=>a h.2)];exact .inr ⟨by simp,rfl⟩
 ·rw[af h1,af (λh=>h1 h.1)];exact .inr ⟨by simp,rfl⟩
theorem OB {x:cI} {id:Int} {p:Int×Int} (h:bE x.t id=aa p) (j:Int):bE (uB x id).t j=if j=id then ah else bE x.t j:=Ky h ah j
theorem xM (x:cI) (id j:Int):bE (kv x id).t j=if j=id then ah else bE x.t j:=by
 unfold kv
 cases h:bE x.t id with
 | none=>
  simp only;split
  ·rename_i e;subst e;exact h
  ·rfl
 | some p=>exact OB h j
theorem Kx {t:dO} {i:Nat} (hi:i<t.length):bE t ((i:Int)+1)=t[i]:=by
 unfold bE;have a:((i:Int)+1).toNat-1=i:=by omega
 rw[aj (by omega),a,aO,cO hi];rfl
theorem lq {t:dO} {q:Int×Int->Bool} {id:Int}:id∈gM t q↔∃x,bE t id=aa x/\q x=ag:=by
 unfold gM;rw[ck];constructor
 ·rintro⟨i,hi,rfl⟩;rw[ij]at hi;obtain⟨c,b⟩:=hi;have c:=cD.1 c;rw[Kx c];rw[aO,cO c,ie]at b
  cases d:t[i]with
  | none=>rw[d]at b;simp at b
  | some x=>rw[d]at b;exact⟨x,rfl,b⟩
 ·rintro⟨x,f,g⟩;have h:=zm f;have a:id.toNat-1<t.length:=by omega
  refine⟨id.toNat-1,?_,by omega⟩;rw[ij];refine⟨cD.2 a,?_⟩;have e:((id.toNat-1:Nat):Int)+1=id:=by omega
  have:=Kx a;rw[e,f]at this;rw[aO,cO a,ie,<-this];exact g
theorem abD (t:dO) (q:Int×Int->Bool):(gM t q).Nodup:=by
 unfold gM;refine rR _ (R:=λ(a b:Nat)=>a≠b) (λa b h=>by omega) ?_;exact(rS).filter _
def eh (t:dO) (c:Int):Int->Option Int:=λid=>match bE t id with
 | some p=>if p.1=c then aa p.2 else ah
 | none=>ah
theorem nV {t:dO} {c id d:Int}:eh t c id=aa d↔bE t id=aa (c,d):=by
 unfold eh
 cases h:bE t id with
 | none=>simp
 | some p=>
  obtain⟨a,b⟩:=p;simp only;split
  ·rename_i e;subst e;simp
  ·rename_i e;simp[e]
theorem Kh {t:dO} {c:Int} {q:Int×Int->Bool} (d:∀x,q x=ag->x.1=c) {r:List Int} (e:r.Nodup) (f:∀id,id∈r↔∃x,bE t id=aa x/\q x=ag):gk (λid=>(eh t c id).getD 0) r=gk (kx t) (gM t q):=by
 have g:r.Perm (gM t q):=(List.perm_ext_iff_of_nodup e (abD t q)).2 λid=>by rw[f,lq]
 rw[aeA g];refine aez λid a=>?_;obtain⟨x,h,b⟩:=lq.1 a;unfold kx eh;rw[h];simp[d x b]
section
variable {id ex:Int} {th th':TX} {rq rq':RS} {tm tm':dO} {own own':Int->Option Int} {v:Option Th}
theorem dz.ak (h:dz id th rq) (f:∀j,aR th'.2 j=if j=id then v else aR th.2 j) (i:∀t,v=aa t->0<=t.1/\t.1<8):dz id th' rq:=by
 refine⟨λj c e=>?_,λj t d hs e=>?_,λj t d=>?_⟩
 ·obtain⟨t,l,m,n,g⟩:=h.a j c e;exact⟨t,by rw[f,af g];exact l,m,n,g⟩
 ·rw[f,af e]at d;exact h.b j t d hs e
 ·rw[f]at d;split at d
  ·exact i t d
  ·exact h.p j t d
theorem dz.shut (h:dz id th rq) (hs:∀t,aR th.2 id=aa t->t.2.2.2.2.1=ag):dz 0 th rq:=by
 refine⟨λj c f=>?_,λj t g d f=>?_,h.p⟩
 ·obtain⟨t,i,l,m,n⟩:=h.a j c f;have:=mX i;exact⟨t,i,l,m,by omega⟩
 ·by_cases e:j=id
  ·subst e;rw[hs t g]at d;cases d
  ·exact h.b j t g d e
theorem dz.open (h:dz 0 th rq) (d:∀c,¬gN rq id c):dz id th rq:=by
 refine⟨λj c f=>?_,λj t i g f=>?_,h.p⟩
 ·obtain⟨t,l,m,n,o⟩:=h.a j c f;exact⟨t,l,m,n,λe=>d c (e ▸ f)⟩
 ·have:=mX i;exact h.b j t i g (by omega)
theorem dz.LR (h:dz 0 th rq) {t:Th} (e:aR th.2 id=aa t) (hs:t.2.2.2.2.1=ag):∀c,¬gN rq id c:=by
 intro c f;obtain⟨u,b,_,d,_⟩:=h.a id c f;rw[e]at b;cases b;rw[hs]at d;cases d
theorem dz.none_ (h:dz 0 th rq) (d:aR th.2 id=ah):∀c,¬gN rq id c:=by
 intro c e;obtain⟨u,b,_⟩:=h.a id c e;rw[d]at b;cases b
theorem dz.same (h:dz ex th rq) (e:∀i j,cf rq' i j=cf rq i j):dz ex th rq':=by
 refine⟨λj c d=>h.a j c ⟨d.1,by rw[<-e];exact d.2⟩,λj t f hs d=>?_,h.p⟩;have:=h.b j t f hs d;exact⟨this.1,by rw[e];exact this.2⟩
theorem eu.ak (h:eu id th tm own) (e:∀j,aR th'.2 j=if j=id then v else aR th.2 j) (i:∀t,v=aa t->t.2.2.2.2.1=ae->t.2.2.2.2.2=0):eu id th' tm own:=by
 refine⟨λt j l=>?_,λj x d hs f=>?_,λj x d hs=>?_⟩
 ·obtain⟨m,n,g,x,o,p⟩:=h.a t j l;exact⟨m,n,g,x,by rw[e,af g];exact o,p⟩
 ·rw[e,af f]at d;exact h.b j x d hs f
 ·rw[e]at d;split at d
  ·exact i x d hs
  ·exact h.c j x d hs
theorem eu.shut (h:eu id th tm own) (hs:∀t,aR th.2 id=aa t->t.2.2.2.2.1=ag->own t.2.2.2.2.2=aa id):eu 0 th tm own:=by
 refine⟨λt j g=>?_,λj x f d n=>?_,h.c⟩
 ·obtain⟨i,l,o,m⟩:=h.a t j g;exact⟨i,l,by omega,m⟩
 ·by_cases e:j=id
  ·subst e;exact hs x f d
  ·exact h.b j x f d e
theorem eu.open (h:eu 0 th tm own) (i:∀t,own t≠aa id):eu id th tm own:=by
 refine⟨λt j f=>?_,λj x g d o=>?_,h.c⟩
 ·obtain⟨l,m,p,n⟩:=h.a t j f;exact⟨l,m,λe=>i t (e ▸ f),n⟩
 ·have:=mX g;exact h.b j x g d (by omega)
theorem eu.Ur (h:eu ex th tm own) (d:∀t,(bE tm t).isSome=ag->(bE tm' t).isSome=ag):eu ex th tm' own:=
 ⟨λt j e=>by
  obtain⟨f,g,i⟩:=h.a t j e;exact⟨f,d t g,i⟩,h.b,h.c⟩
theorem eu.VA (h:eu ex th tm own) {t:Th} (d:aR th.2 id=aa t) (hs:t.2.2.2.2.1=ae):∀u,own u≠aa id:=by
 intro u e;obtain⟨_,_,_,x,b,c,_⟩:=h.a u id e;rw[d]at b;cases b;rw[hs]at c;cases c
theorem eu.ab2 (h:eu ex th tm own) (c:aR th.2 id=ah):∀u,own u≠aa id:=by
 intro u d;obtain⟨_,_,_,x,b,_⟩:=h.a u id d;rw[c]at b;cases b
end
section
variable {id:Int} {th:TX} {tm tm':dO} {own own':Int->Option Int}
theorem eu.quiet (h:eu 0 th tm own) {t:Th} (g:aR th.2 id=aa t) (hs:t.2.2.2.2.1=ag) (p:∀j,bE tm' j=if j=t.2.2.2.2.2 then ah else bE tm j) (m:∀j,own' j=if j=t.2.2.2.2.2 then ah else own j):eu id th tm' own':=by
 have q:=mX g;have r:=h.b id t g hs (by omega);refine⟨λu j f=>?_,λj x n i s=>?_,h.c⟩
 ·rw[m]at f;split at f
  ·cases f
  ·rename_i d;obtain⟨w,y,B,x,l,z,o⟩:=h.a u j f;refine⟨w,by rw[p,af d];exact y,?_,x,l,z,o⟩;rintro rfl;rw[g]at l;cases l;exact d o.symm
 ·have A:=mX n;have:=h.b j x n i (by omega);rw[m,af]
  ·exact this
  ·intro e;rw[e,r]at this;cases this;exact s rfl
end
section
variable {k:K}
theorem aI.jL (h:aI k):∀c,hs k.ac c=ag->c<k.n:=λc a=>(h.dk.eb c (h.dk.ao c a)).2
theorem aC.may (a:aC k):k.n<=64:=a.n.2
theorem py {ac:BV} {d:bY} {s c:Int} (h:hs ac c=ag):bS ac d s c:=.inl h
theorem ER {id near:Int} {t:Th} (l:k.n<=64) (b:k.ac≠0) (d:∀c,hs k.ac c=ag->c<k.n) (f:k.th.1=(k.n:Int)) (m:k.th.2.length=32) (o:dg k.n k.rq)
  (h:dz id k.th k.rq) (p:eu 0 k.th k.tm.t k.own) (q:PQ k.ac k.dk k.rq) (r:aR k.th.2 id=aa t) (e:t.2.2.2.2.1=ae) :
  ∃th rq,jB k id near={k with th:=th,rq:=rq}/\dg k.n rq/\dz 0 th rq/\eu 0 th k.tm.t k.own/\PQ k.ac k.dk rq/\th.1=k.n/\th.2.length=32/\
   (∀j,(aR th.2 j).map sG=(aR k.th.2 j).map sG)/\(∀j c,gN rq j c->gN k.rq j c∨hs k.ac c=ag)/\(∀j,(aR th.2 j).map (λt=>t.2.1)=(aR k.th.2 j).map (λt=>t.2.1)):=by
 obtain⟨s,u,g,i,w,x,y⟩:=ac5 (near:=near) l b d f m o h r e;refine⟨(jB k id near).th,(jB k id near).rq,rfl,s,u,p.congr i,?_,by rw[w];exact f,x,i,g,y⟩;intro j c a;rcases g j c a with a|a
 ·exact q j c a
 ·exact py a
structure xe (k:K):Prop where
 rq:dg k.n k.rq
 tq:dz 0 k.th k.rq
 tm:eu 0 k.th k.tm.t k.own
 q:PQ k.ac k.dk k.rq
 t1:k.th.1=(k.n:Int)
 t2:k.th.2.length=32
theorem Sd {id:Int} {t:Th} (i:k.n<=64) (b:k.ac≠0) (d:∀c,hs k.ac c=ag->c<k.n) (h:xe k) (f:aR k.th.2 id=aa t) :
  ∃th rq,iz k id={k with th:=th,rq:=rq}/\xe {k with th:=th,rq:=rq}/\(∀j,(aR th.2 j).map sG=(aR k.th.2 j).map sG)/\(∀j,(aR th.2 j).map (λt=>t.2.1)=(aR k.th.2 j).map (λt=>t.2.1))/\(∀j c,gN rq j c->gN k.rq j c∨hs k.ac c=ag):=by
 have l:=(BL f).1;unfold iz;rw[l];split
 ·exact⟨k.th,k.rq,rfl,h,λ_=>rfl,λ_=>rfl,λ_ _ a=>.inl a⟩
 ·rename_i hw;simp only[eT,not_or,Bool.not_eq_true]at hw;obtain⟨t1,t2,g⟩:=BK h.rq h.tq id;obtain⟨th,rq,e,p1,p2,m,o,p,r,s,p8,u⟩:=ER (k:={k with rq:=fH k.rq id}) (id:=id) (near:=t.2.2.1) (t:=t) i b d h.t1 h.t2 t1 t2 h.tm (λj c a=>h.q j c (g j c a)) f hw.1;exact⟨th,rq,e,⟨p1,p2,m,o,p,r⟩,s,u,λj c a=>(p8 j c a).imp (g j c) (λa=>a)⟩
theorem aeE (h:aI k) (b:aC k) (p:Int) (m:BV):aI (rA k p m):=by
 unfold rA;split
 ·rename_i f;obtain⟨s,y,r,d⟩:=aeC f;have g:=s;unfold qe at g;have j:dz (eK k.th p m).1 (kQ k.th p m) k.rq:=(h.tq.open (h.tq.none_ r)).ak d (λt a=>by cases a;exact⟨g.1,g.2.1⟩);have l:eu 0 (kQ k.th p m) k.tm.t k.own:=((h.tm.open (h.tm.ab2 r)).ak d (λt a _=>by cases a;rfl)).shut (λt a hs=>by rw[d,aj rfl]at a;cases a;cases hs);obtain⟨th,rq,e,p1,p2,u,x,z,A,_⟩:=ER (k:={k with th:=kQ k.th p m}) (id:=(eK k.th p m).1) (near:=(eK k.th p m).1%k.n) b.may h.dk.an h.jL (by rw[Ki];exact b.jF) (by rw[Kj];exact b.iF) b.rq j l h.q (d _ ▸ aj rfl) rfl;rw[e];exact⟨h.dk,h.pw,p2,u,x,h.t,h.w,h.c,h.i,h.o,h.ci,h.ki⟩
 ·rename_i f;rw[aeD f];exact h
theorem PT.sub {ac:BV} {d:bY} {tm tm':dO} (h:PT ac d tm) (a:∀j p,bE tm' j=aa p->bE tm j=aa p):PT ac d tm':=λj p b=>h j p (a j p b)
theorem PT.gone {ac:BV} {d:bY} {tm tm':dO} (h:PT ac d tm) {t:Int} (b:∀j,bE tm' j=if j=t then ah else bE tm j):PT ac d tm':=h.sub λj p a=>by
 rw[b]at a;split at a
 ·cases a
 ·exact a
theorem Yq (h:aI k) (g:aC k) {id:Int} {t:Th} (b:aR k.th.2 id=aa t):aI (qM k id t):=by
 unfold qM;have a:=Yp b;split
 ·rename_i hs;have e:dz 0 (lY k.th id) k.rq:=((h.tq.open (h.tq.LR b hs)).ak a (λt b=>by cases b)).shut (λu d=>by rw[a,aj rfl]at d;cases d)
  have f:eu 0 (lY k.th id) (kv k.tm t.2.2.2.2.2).t (sv k.own t.2.2.2.2.2):=
   ((h.tm.quiet b hs (λj=>xM k.tm _ j) (λj=>rfl)).ak a (λt b=>by cases b)).shut (λu d=>by rw[a,aj rfl]at d;cases d)
  exact⟨h.dk,h.pw,e,f,h.q,h.t.gone (λj=>xM k.tm _ j),h.w,h.c,h.i,h.o,h.ci,h.ki⟩
 ·rename_i hs;have hs:t.2.2.2.2.1=ae:=by simpa using hs
  obtain⟨t1,t2,l⟩:=BK g.rq h.tq id;have e:dz 0 (lY k.th id) (fH k.rq id):=(t2.ak a (λt b=>by cases b)).shut (λu d=>by rw[a,aj rfl]at d;cases d);have f:eu 0 (lY k.th id) k.tm.t k.own:=((h.tm.open (h.tm.VA b hs)).ak a (λt b=>by cases b)).shut (λu d=>by rw[a,aj rfl]at d;cases d);exact⟨h.dk,h.pw,e,f,λj c m=>h.q j c (l j c m),h.t,h.w,h.c,h.i,h.o,h.ci,h.ki⟩
theorem AD {m:BV} (h:m≠0):hs m (fY m).1=ag:=by
 unfold fY;rw[Dh h];exact KJ h
theorem aes (h:aI k) (L:aC k) {id:Int} {t:Th} (y:aR k.th.2 id=aa t) (J:t.2.2.2.2.1=ae) (n:Int):aI (ry k id t n):=by
 have B:hs k.ac (jh k t)=ag:=by
  unfold jh;split
  ·assumption
  ·exact AD h.dk.an
 have C:=mX y;unfold ry;split
 ·generalize hd:(bH k.now n).1=due;rcases LQ k.tm (jh k t) due with⟨D,U,i,hi,E,M,r⟩|⟨D,r⟩
  ·rw[aj D,M,r];have d:=aeu (n:=(i:Int)+1) y J;obtain⟨t1,t2,N⟩:=BK L.rq h.tq id;have m:∀j,bE (k.tm.t.set i (aa (jh k t,due))) j=if j=(i:Int)+1 then aa (jh k t,due)else bE k.tm.t j:=FI hi _
   have s:k.own ((i:Int)+1)=ah:=by
    cases O:k.own ((i:Int)+1)with
    | none=>rfl
    | some j=>
     obtain⟨_,z,_⟩:=h.tm.a _ j O;rw[E]at z;cases z
   have P:dz 0 (o7 k.th id ((i:Int)+1)) (fH k.rq id):=(t2.ak d (λu l=>by cases l;exact h.tq.p id t y)).shut (λu l=>by rw[d,aj rfl]at l;cases l;rfl)
   have Q:eu 0 (o7 k.th id ((i:Int)+1)) (k.tm.t.set i (aa (jh k t,due))) (λj=>if j=(i:Int)+1 then aa id else k.own j):=by
    refine⟨λu j l=>?_,λj x f g F=>?_,λj x f g=>?_⟩
    ·split at l
     ·rename_i e;cases l;exact⟨C.1,by rw[m,aj e];rfl,by omega,_,by rw[d,aj rfl],rfl,e.symm⟩
     ·rename_i e;obtain⟨R,z,S,x,G,H,T⟩:=h.tm.a u j l
      have I:j≠id:=by
       rintro rfl;rw[y]at G;cases G;rw[J]at H;cases H
      exact⟨R,by rw[m,af e];exact z,S,x,by rw[d,af I];exact G,H,T⟩
    ·rw[d]at f;split at f
     ·rename_i e;cases f;simp[e]
     ·rename_i e;have:=h.tm.b j x f g F;rw[af (λr=>by rw[r,s]at this;cases this)];exact this
    ·rw[d]at f;split at f
     ·cases f;cases g
     ·exact h.tm.c j x f g
   refine⟨h.dk,h.pw,P,Q,λj c F=>h.q j c (N j c F),λj p A=>?_,h.w,h.c,h.i,h.o,h.ci,h.ki⟩;rw[m]at A;split at A
   ·cases A;exact py B
   ·exact h.t j p A
  ·rw[af D,r];exact h
 ·exact h
theorem alR {id:Int} {t:Th} (m:k.n<=64) (d:k.ac≠0) (f:∀c,hs k.ac c=ag->c<k.n) (o:k.th.1=(k.n:Int)) (q:k.th.2.length=32) (r:dg k.n k.rq)
  (g:dz 0 k.th k.rq) (s:eu id k.th k.tm.t k.own) (w:PQ k.ac k.dk k.rq) (h:aR k.th.2 id=aa t) (hs:t.2.2.2.2.1=ag) :
  ∃th rq,ub k id={k with th:=th,rq:=rq}/\xe {k with th:=th,rq:=rq}:=by
 have a:=alP h hs;have i:dz id (lG k.th id) k.rq:=(g.open (g.LR h hs)).ak a (λu b=>by cases b;exact g.p id t h);have j:eu 0 (lG k.th id) k.tm.t k.own:=(s.ak a (λu b _=>by cases b;rfl)).shut (λu b l=>by rw[a,aj rfl]at b;cases b;cases l);obtain⟨th,rq,e,p1,p2,x,y,z,A,_⟩:=ER (k:={k with th:=lG k.th id}) (id:=id) (near:=(cS {k with th:=lG k.th id} id).2.2.1) m d f (by rw[UO];exact o) (by rw[UP];exact q) r i j w (a _ ▸ aj rfl) rfl;exact⟨th,rq,by unfold ub;rw[e],p1,p2,x,y,z,A⟩
theorem Tr (h:aI k) (a:aC k) {id:Int} {t:Th} (d:aR k.th.2 id=aa t) (hs:t.2.2.2.2.1=ag):aI (ub (yO k t.2.2.2.2.2) id):=by
 have f:=h.tm.quiet d hs (λj=>xM k.tm _ j) (own':=sv k.own t.2.2.2.2.2) (λj=>rfl);obtain⟨th,rq,e,b⟩:=alR (k:=yO k t.2.2.2.2.2) (id:=id) a.may h.dk.an h.jL a.jF a.iF a.rq h.tq f h.q d hs;rw[e];exact⟨h.dk,h.pw,b.tq,b.tm,b.q,h.t.gone (λj=>xM k.tm _ j),h.w,h.c,h.i,h.o,h.ci,h.ki⟩
end
theorem EZ {Q:QL} {c c':Int} {l:List Int} (h : -1<=c/\c+1<Q.length) (a : -1<=c'):da (Q.set (ix c) l) c'=if c'=c then l else da Q c':=by
 unfold da ix;rw[aO,aO,cJ];by_cases e:c'=c
 ·subst e;rw[aj rfl,aj rfl,aj (by omega)];rfl
 ·rw[af (by omega),af e]
theorem wD {o:List Bool} {L:List (List Int)} {c c':Int} {l:List Int} (h:0<=c/\c<L.length) (a:0<=c'):bA (o,L.set c.toNat l) c'=if c'=c then l else bA (o,L) c':=by
 unfold bA;simp only;rw[aO,aO,cJ];by_cases e:c'=c
 ·subst e;rw[aj rfl,aj rfl,aj (by omega)];rfl
 ·rw[af (by omega),af e]
theorem EY {pg:List Nat} {L:List (List Int)} {c c':Int} {l:List Int} (h:0<=c/\c<L.length) (a:0<=c'):kN (pg,L.set c.toNat l) c'=if c'=c then l else kN (pg,L) c':=by
 unfold kN;simp only;rw[aO,aO,cJ];by_cases e:c'=c
 ·subst e;rw[aj rfl,aj rfl,aj (by omega)];rfl
 ·rw[af (by omega),af e]
theorem DR {s:ch} {n m:Int} {q:Iq} (b:s.2.length=16) (a:¬jz n) (c:0<=m):gq (ky s n q) m=if m=n then q else gq s m:=by
 unfold jz at a;unfold gq ky;simp only;rw[aO,aO,cJ];by_cases e:m=n
 ·subst e;rw[aj rfl,aj rfl,aj (by omega)];rfl
 ·rw[af (by omega),af e]
theorem vh {s:ch} {n:Int} (h:eM s n=0):¬jz n/\(gq s n).1=ag:=by
 unfold eM at h;split at h
 ·omega
 ·rename_i a;split at h
  ·rename_i b;exact⟨a,b⟩
  ·omega
def kh (s s':ch):Prop:=∀m,0<=m->(gq s' m).1=(gq s m).1
theorem kh.refl (s:ch):kh s s:=λ_ _=>rfl
theorem kh.put {s:ch} {n:Int} {q:Iq} (a:s.2.length=16) (b:¬jz n) (c:q.1=(gq s n).1):kh s (ky s n q):=λm d=>by
 rw[DR a b d];split
 ·rename_i e;subst e;exact c
 ·rfl
theorem Vn {s:ch} (a:s.2.length=16) (n:Int) (m:BV):kh s (qu s n m):=by
 unfold qu;split
 ·rename_i h
  have b:eM s n=0:=by
   unfold pz at h;split at h
   ·assumption
   ·rename_i c;exact absurd h c
  exact kh.put a (vh b).1 rfl
 ·exact kh.refl s
theorem P8 {s:ch} (a:s.2.length=16) (n:Int) (b:Bool):kh s (pR s n b):=by
 unfold pR;split
 ·rename_i h
  have c:eM s n=0:=by
   unfold oU at h;split at h
   ·assumption
   ·rename_i d;exact absurd h d
  exact kh.put a (vh c).1 rfl
 ·exact kh.refl s
theorem adh {s:ch} (a:s.2.length=16) (n:Int):kh s (u0 s n):=by
 unfold u0;split
 ·rename_i hw;exact kh.put a (vh hw).1 rfl
 ·exact kh.refl s
theorem Xn {s:ch} (a:s.2.length=16) (n:Int):kh s (mM s n):=by
 unfold mM;split
 ·rename_i h
  have b:eM s n=0:=by
   unfold pO at h;split at h
   ·assumption
   ·rename_i c;exact absurd h c
  exact kh.put a (vh b).1 rfl
 ·exact kh.refl s
theorem PI.same {ac:BV} {d:bY} {ir a:ch} {rt:dh} (h:PI ac d ir rt) (c:kh ir a):PI ac d a rt:=λn b e f=>h n b e (by rw[<-c n b];exact f)
theorem PY {x:dh} {n c m:Int} (a:0<=n/\n<x.2.length) (b:0<=m):gt (x.1,x.2.set n.toNat c) m=if m=n then c else gt x m:=by
 unfold gt;simp only;rw[aO,aO,cJ];by_cases e:m=n
 ·subst e;rw[aj rfl,aj rfl,aj (by omega)];rfl
 ·rw[af (by omega),af e]
theorem Ew {x:dh} {m:Int} (b:0<=m/\m<16):cF x m=if gt x m<0 then(0,ae)else(gt x m,ag):=by
 have a:¬iP m:=by unfold iP;omega
 unfold cF;rw[af a]
theorem Jw {x:dh} (d:x.2.length=16) {n c m:Int} (f:0<=n/\n<16) (g:0<=c/\c<x.1) (a:0<=m/\m<16):cF (nP x n c) m=if m=n then(c,ag)else cF x m:=by
 have on:¬iP n:=by unfold iP;omega
 have b:qd x n c=0:=by
  unfold qd;rw[af on,af (by omega)]
 unfold nP;rw[aj b,Ew a,Ew a,PY (by omega) a.1];by_cases e:m=n
 ·rw[aj e,aj e,af (by omega)]
 ·rw[af e,af e]
theorem zb (x:dh) (n c:Int):(nP x n c).1=x.1/\(nP x n c).2.length=x.2.length:=by unfold nP;split<;>simp
theorem SN (x:dh) (n:Int):(qZ x n).1=x.1/\(qZ x n).2.length=x.2.length:=by unfold qZ;split<;>simp
theorem ab9 {x:dh} (c:x.2.length=16) {n m:Int} (a:0<=m/\m<16) (b:m≠n):cF (qZ x n) m=cF x m:=by
 unfold qZ;split
 ·rename_i he
  have d:0<=n/\n<16:=by
   unfold tP at he;split at he
   ·omega
   ·rename_i h;unfold iP at h;omega
  rw[Ew a,Ew a,PY (by omega) a.1,af b]
 ·rfl
theorem Jc {k:K} (g:k.ac≠0) (i:∀c,hs k.ac c=ag->c<k.n) (j:k.rt.1=(k.n:Int)) (l:k.rt.2.length=16) {n near:Int} (q:0<=n/\n<16)
  (h:∀m,0<=m->m<16->(gq k.ir m).1=ag->m≠n->∃c,cF k.rt m=(c,ag)/\bS k.ac k.dk 7 c) :
  PI k.ac k.dk k.ir (iw k n near).rt/\(iw k n near).rt.1=k.n/\(iw k n near).rt.2.length=16/\∀m,0<=m->m<16->m≠n->cF (iw k n near).rt m=cF k.rt m:=by
 have o:=Ai (m:=qX k n) g near;have a:=jV o;have b:=i _ o;unfold iw;simp only;refine⟨λm d f p=>?_,by rw[(zb ..).1];exact j,by rw[(zb ..).2];exact l,λm d f p=>?_⟩
 ·rw[Jw l q ⟨a.1,by rw[j];exact b⟩ ⟨d,f⟩];split
  ·exact⟨_,rfl,py o⟩
  ·rename_i e;exact h m d f p e
 ·rw[Jw l q ⟨a.1,by rw[j];exact b⟩ ⟨d,f⟩,af p]
section
variable {k:K}
theorem adn {s:ch} {n:Int} {m:BV} (h:mf s n m=0):¬jz n:=by
 unfold mf at h;split at h
 ·omega
 ·assumption
theorem ZU (h:aI k) (b:aC k) (e:cu):aI (pU k e):=by
 have base:∀j,kh k.ir j->aI {k with ir:=j}:=λj s=>⟨h.dk,h.pw,h.tq,h.tm,h.q,h.t,h.w,h.c,h.i.same s,h.o,h.ci,h.ki⟩;unfold pU;split
 ·split
  ·rename_i a;have p:=adn a;have l:0<=e.2.2.1/\e.2.2.1<16:=by unfold jz at p;omega
   have y:∀m,0<=m->m≠e.2.2.1->gq (mV k.ir e.2.2.1 e.2.2.2.1) m=gq k.ir m:=by
    intro m d f;unfold mV;rw[aj a,DR b.iN p d,af f]
   obtain⟨u,_⟩:=Jc (k:={k with ir:=mV k.ir e.2.2.1 e.2.2.2.1}) (near:=e.2.2.1%k.n) h.dk.an h.jL b.kO b.j5 l (λm g r d f=>h.i m g r (by rw[<-y m g f];exact d));exact⟨h.dk,h.pw,h.tq,h.tm,h.q,h.t,h.w,h.c,u,h.o,h.ci,h.ki⟩
  ·rename_i a;have:mV k.ir e.2.2.1 e.2.2.2.1=k.ir:=by unfold mV;rw[af a]
   rw[this];exact h
 ·split
  ·split
   ·rename_i a;obtain⟨p,_⟩:=vh a;refine⟨h.dk,h.pw,h.tq,h.tm,h.q,h.t,h.w,h.c,λm g r d=>?_,h.o,h.ci,h.ki⟩;unfold se at d;rw[aj a,DR b.iN p g]at d;split at d
    ·cases d
    ·rename_i f;rw[ab9 b.j5 ⟨g,r⟩ f];exact h.i m g r d
   ·rename_i a;have:se k.ir e.2.2.1=k.ir:=by unfold se;rw[af a]
    rw[this];exact h
  ·split
   ·have x:=base _ (Vn b.iN e.2.2.1 e.2.2.2.1);split
    ·rename_i a
     have s:eM k.ir e.2.2.1=0:=by
      unfold pz at a;split at a
      ·assumption
      ·rename_i z;exact absurd a z
     have p:=(vh s).1;have l:0<=e.2.2.1/\e.2.2.1<16:=by unfold jz at p;omega
     unfold gZ;split
     ·obtain⟨u,_⟩:=Jc (k:={k with ir:=qu k.ir e.2.2.1 e.2.2.2.1}) (near:=(cF k.rt e.2.2.1).1) h.dk.an h.jL b.kO b.j5 l (λm g r d _=>x.i m g r d);exact⟨h.dk,h.pw,h.tq,h.tm,h.q,h.t,h.w,h.c,u,h.o,h.ci,h.ki⟩
     ·exact x
    ·exact x
   ·split
    ·exact base _ (P8 b.iN _ _)
    ·split
     ·exact base _ (P8 b.iN _ _)
     ·exact base _ (adh b.iN _)
theorem dz.congr {ex:Int} {th e:TX} {rq:RS} (h:dz ex th rq) (n:∀j,(aR e.2 j).map (λt=>(t.1,t.2.2.1,t.2.2.2.2.1))=(aR th.2 j).map (λt=>(t.1,t.2.2.1,t.2.2.2.2.1))):dz ex e rq:=by
 have o:∀{j t},aR e.2 j=aa t->∃t',aR th.2 j=aa t'/\t'.1=t.1/\t'.2.2.1=t.2.2.1/\t'.2.2.2.2.1=t.2.2.2.2.1:=by
  intro j t f;have:=n j;rw[f]at this;obtain⟨t',g,d⟩:=lf.1 this.symm;simp only[Prod.mk.injEq]at d;exact⟨t',g,d.1,d.2.1,d.2.2⟩
 have q:∀{j t},aR th.2 j=aa t->∃t',aR e.2 j=aa t'/\t'.2.2.1=t.2.2.1/\t'.2.2.2.2.1=t.2.2.2.2.1:=by
  intro j t f;have:=n j;rw[f]at this;obtain⟨t',g,d⟩:=lf.1 this;simp only[Prod.mk.injEq]at d;exact⟨t',g,d.2.1,d.2.2⟩
 refine⟨λj c l=>?_,λj t f hs l=>?_,λj t f=>?_⟩
 ·obtain⟨t,g,d,r,s⟩:=h.a j c l;obtain⟨t',i,k2,m⟩:=q g;exact⟨t',i,k2.trans d,m.trans r,s⟩
 ·obtain⟨t',i,_,k2,m⟩:=o f;rw[<-k2];exact h.b j t' i (m.trans hs) l
 ·obtain⟨t',i,k2,_⟩:=o f;rw[<-k2];exact h.p j t' i
theorem Vk (h:aI k) (d:aC k) {id:Int} {t:Th} (b:aR k.th.2 id=aa t) (m:BV) :
  aI (if oa k.th id m=0 then iz {k with th:=kZ k.th id m} id else{k with th:=kZ k.th id m}):=by
 by_cases f:mW k.th.1 m=ag
 ·have n:oa k.th id m=0:=by unfold oa;rw[b];simp[f]
  rw[aj n];have a:=Vm b f
  have g:xe {k with th:=kZ k.th id m}:=by
   refine⟨d.rq,h.tq.congr (λj=>?_),h.tm.congr (λj=>?_),h.q,by rw[Gq];exact d.jF,by rw[Gr];exact d.iF⟩
   ·rw[a];split
    ·rename_i e;subst e;rw[b];rfl
    ·rfl
   ·rw[a];split
    ·rename_i e;subst e;rw[b];rfl
    ·rfl
  obtain⟨th,rq,e,l,_⟩:=Sd (k:={k with th:=kZ k.th id m}) (id:=id) d.may h.dk.an h.jL g (a id ▸ aj rfl);rw[e];exact⟨h.dk,h.pw,l.tq,l.tm,l.q,h.t,h.w,h.c,h.i,h.o,h.ci,h.ki⟩
 ·have n:oa k.th id m=2:=by unfold oa;rw[b];simp[f]
  have g:kZ k.th id m=k.th:=by unfold kZ;rw[b];simp[f]
  rw[af (by omega),g];exact h
theorem VJ (h:aI k) (a:aC k) (id:Int):aI {k with rq:=va k.rq id}:=
 ⟨h.dk,h.pw,h.tq.same (R9 a.rq id),h.tm,λj c b=>h.q j c ⟨b.1,by rw[<-R9 a.rq id];exact b.2⟩,h.t,h.w,h.c,h.i,h.o,h.ci,h.ki⟩
theorem acz (h:aI k) (c:Int):aI {k with rq:=o5 k.rq c}:=
 ⟨h.dk,h.pw,h.tq.same (Sa k.rq c),h.tm,λj c' a=>h.q j c' ⟨a.1,by rw[<-Sa k.rq c];exact a.2⟩,h.t,h.w,h.c,h.i,h.o,h.ci,h.ki⟩
theorem agI (h:aI k) (b:aC k) (e:cu) (g:4<=e.1/\e.1<=9):aI (iV k e):=by
 unfold iV;simp only
 cases a:aR k.th.2 e.2.2.1 with
 | none=>
  rw[(agD a).2]
  exact h
 | some t=>
  rw[(BL a).2,(BL a).1];rw[af (by simp)];split
  ·exact h
  ·split
   ·exact Yq h b a
   ·split
    ·exact Vk h b a _
    ·split
     ·exact h
     ·rename_i h1;split
      ·rename_i c;have hs:t.2.2.2.2.1=ae:=by simp[c]at h1;exact h1
       exact aes h b a hs _
      ·split
       ·exact VJ h b _
       ·
        have d:e.1=7:=by omega
        have f:t.2.2.2.2.1=ag:=by rw[d]at h1;simpa using h1
        exact Tr h b a f
end
theorem bS.d1 {ac:BV} {d d':bY} {s c:Int} (e:d'.1=d.1) (h:bS ac d s c):bS ac d' s c:=by unfold bS at h⊢;rw[e];exact h
section
variable {n:Nat} {on ac:BV} {gs:Int} {sp:BV×BV} {d d':bY}
theorem BT.d1 (e:d'.1=d.1) (h:BT n on ac gs sp d):BT n on ac gs sp d':=⟨h.an,h.ao,h.eb,by rw[e];exact h.free,by rw[e];exact h.cZ,h.mg⟩
theorem CC.d1 {co:List dV} (e:d'.1=d.1) (h:CC n on d co):CC n on d' co:=λc a b=>by rw[h c a b];unfold gi;rw[e]
theorem PQ.d1 {rq:RS} (e:d'.1=d.1) (h:PQ ac d rq):PQ ac d' rq:=λj c a=>(h j c a).d1 e
theorem PT.d1 {tm:dO} (e:d'.1=d.1) (h:PT ac d tm):PT ac d' tm:=λj c a=>(h j c a).d1 e
theorem PW.d1 {wk:QL} (e:d'.1=d.1) (h:PW ac d wk):PW ac d' wk:=λj c a b=>(h j c a b).d1 e
theorem PC.d1 {ca:CS} (e:d'.1=d.1) (h:PC ac d ca):PC ac d' ca:=λj c a b=>(h j c a b).d1 e
theorem PO.d1 {st:KS} (e:d'.1=d.1) (h:PO ac d st):PO ac d' st:=λj c a b=>(h j c a b).d1 e
theorem PI.d1 {ir:ch} {rt:dh} (e:d'.1=d.1) (h:PI ac d ir rt):PI ac d' ir rt:=λj a b f=>by
 obtain⟨c,g,i⟩:=h j a b f;exact⟨c,g,i.d1 e⟩
end
section
variable {k:K}
theorem aI.d1 (h:aI k) {d:bY} (e:d.1=k.dk.1):aI {k with dk:=d}:=
 ⟨h.dk.d1 e,h.pw.d1 e,h.tq,h.tm,h.q.d1 e,h.t.d1 e,h.w.d1 e,h.c.d1 e,h.i.d1 e,h.o.d1 e,h.ci,h.ki⟩
theorem acI (h:aI k) (n:Int):aI {k with dk:=oY k.dk n}:=h.d1 (by unfold oY;split<;>rfl)
theorem PW.put {ac:BV} {d:bY} {wk:QL} (h:PW ac d wk) {c:Int} {l:List Int} (f : -1<=c/\c+1<wk.length) (g:∀v∈l,0<=c->bS ac d 5 c):PW ac d (wk.set (ix c) l):=by
 intro c' v b a;rw[EZ f (by omega)]at a;split at a
 ·rename_i e;subst e;exact g v a b
 ·exact h c' v b a
theorem Tn {ac:BV} {d:bY} {wk:QL} (h:PW ac d wk) {c:Int} (a:c = -1∨hs ac c=ag):PW ac d (tR wk c):=by
 unfold tR;split
 ·rename_i hw;split
  ·refine h.put hw λv _ b=>?_;rcases a with rfl|a
   ·omega
   ·exact py a
  ·exact h
 ·exact h
theorem OH {ac:BV} {d:bY} {wk:QL} (h:PW ac d wk) (v:Int):PW ac d (oI wk v):=by
 unfold oI;split
 ·rename_i c he;unfold ka at he;obtain⟨i,hi,rfl⟩:=lf.1 he;obtain⟨hi,_⟩:=oo.1 hi;refine h.put ⟨by omega,by omega⟩ λu a b=>?_;exact h _ u b (List.mem_of_mem_erase a)
 ·exact h
theorem agk {ac:BV} {d:bY} {wk:QL} (h:PW ac d wk) (c:Int):PW ac d (qg wk c):=by
 unfold qg;split
 ·split
  ·exact OH h _
  ·exact OH h _
  ·exact h
 ·exact h
theorem Bk {ca ca':CS} (h:ca'.2=ca.2) (c:Int):bA ca' c=bA ca c:=by unfold bA;rw[h]
theorem aec {ac:BV} {d:bY} {ca:CS} (h:PC ac d ca) {c:Int} (f:hs ac c=ag):PC ac d (lD ca c):=by
 unfold lD;split
 ·rename_i g;split
  ·intro c' v b a;rw[wD g b]at a;split at a
   ·rename_i e;subst e;exact py f
   ·exact h c' v b (by rw[Bk (ca:=ca) (ca':=(jk ca.1,ca.2)) rfl]at a;exact a)
  ·exact h
 ·exact h
theorem agL {ac:BV} {d:bY} {ca:CS} (h:PC ac d ca) (c:Int):PC ac d (kT ca c):=by
 have key:∀o,bK ca c->PC ac d (o,ca.2.set c.toNat (bA ca c).tail):=by
  intro o a c' v f b;rw[wD a f]at b;split at b
  ·rename_i e;subst e;exact h c' v f (List.mem_of_mem_tail b)
  ·exact h c' v f b
 unfold kT;split
 ·rename_i a;split
  ·exact key _ a
  ·exact key _ a
 ·exact h
theorem Vu {ac:BV} {d:bY} {st:KS} (h:PO ac d st) {c:Int} (f:hs ac c=ag):PO ac d (rX st c):=by
 unfold rX;split
 ·rename_i g;intro c' v b a;rw[EY g b]at a;split at a
  ·rename_i e;subst e;exact py f
  ·exact h c' v b a
 ·exact h
theorem Zb {ac:BV} {d:bY} {st:KS} (h:PO ac d st) {c:Int} (f:hs ac c=ag) (v:Int):PO ac d (rv st c v):=by
 unfold rv;split
 ·rename_i g;intro c' v b a;rw[EY g.1 b]at a;split at a
  ·rename_i e;subst e;exact py f
  ·exact h c' v b a
 ·exact h
theorem X1 {ac:BV} {d:bY} {st:KS} (h:PO ac d st) (c:Int):PO ac d (jT st c):=by
 unfold jT;split
 ·rename_i e;intro c' v b a;rw[EY e b]at a;split at a
  ·cases a
  ·exact h c' v b a
 ·exact h
theorem Vz (h:aI k) (m:aC k) {c:Int} (f:hs k.ac c=ag) (n:Int):aI (tj k c n):=by
 unfold tj;split
 ·rcases LQ k.tm c (bH k.now n).1 with⟨_,_,i,hi,g,_,e⟩|⟨_,e⟩
  ·rw[e];have a:∀j,bE (k.tm.t.set i (aa (c,(bH k.now n).1))) j=if j=(i:Int)+1 then aa (c,(bH k.now n).1)else bE k.tm.t j:=FI hi _;refine⟨h.dk,h.pw,h.tq,h.tm.Ur (λt l=>?_),h.q,λj p b=>?_,h.w,h.c,h.i,h.o,h.ci,h.ki⟩
   ·rw[a];split
    ·rfl
    ·exact l
   ·rw[a]at b;split at b
    ·cases b;exact py f
    ·exact h.t j p b
  ·rw[e];exact h
 ·exact h
theorem aca {c:Int} (h:sq k c=0):(0<=c/\c<k.n)/\hs k.ac c=ag:=by
 unfold sq at h;split at h
 ·rename_i a;split at h
  ·rename_i b;exact⟨a,b⟩
  ·omega
 ·omega
theorem Tc (h:aI k) (b:aC k) (e:cu):aI (jY k e):=by
 unfold jY;split
 ·exact h
 ·rename_i f;have a:=(aca (Classical.not_not.1 f)).2;split
  ·exact Vz h b a _
  ·split
   ·exact⟨h.dk,h.pw,h.tq,h.tm,h.q,h.t,Tn h.w (.inr a),h.c,h.i,h.o,h.ci,h.ki⟩
   ·split
    ·exact⟨h.dk,h.pw,h.tq,h.tm,h.q,h.t,h.w,aec h.c a,h.i,h.o,(h.ci.send _).1,h.ki⟩
    ·split
     ·exact⟨h.dk,h.pw,h.tq,h.tm,h.q,h.t,h.w,h.c,h.i,Vu h.o a,h.ci,h.ki.alloc _⟩
     ·split
      ·exact⟨h.dk,h.pw,h.tq,h.tm,h.q,h.t,h.w,h.c,h.i,Zb h.o a _,h.ci,h.ki.Y7 _ _⟩
      ·have g:(tC k.ga e.2.1).2=k.ga.2:=by unfold tC;split<;>rfl
       exact⟨by simp only;rw[g];exact h.dk,h.pw,h.tq,h.tm,h.q,h.t,h.w,h.c,h.i,h.o,h.ci,h.ki⟩
theorem Xg (h:aI k) (id:Int):aI (tu k id):=by
 unfold tu;split
 ·split
  ·exact h
  ·rename_i m
   have g:k.own id=ah:=by
    cases f:k.own id with
    | none=>rfl
    | some j=>
     have:=(h.tm.a id j f).1;rw[f]at m;exact absurd (show 0<(aa j).getD 0 by simp;omega) m
   have l:=λj=>xM k.tm id j;refine⟨h.dk,h.pw,h.tq,⟨λt j f=>?_,h.tm.b,h.tm.c⟩,h.q,h.t.gone l,h.w,h.c,h.i,h.o,h.ci,h.ki⟩;obtain⟨p,r,s⟩:=h.tm.a t j f;refine⟨p,?_,s⟩;simp only;rw[l,af (λe=>by rw[e,g]at f;cases f)];exact r
 ·exact h
theorem agK (h:aI k) (n:Int):aI (sJ k n):=by
 unfold sJ;split
 ·have e:(oM k.tm (bH k.now n).1).t=k.tm.t:=by unfold oM;split<;>rfl
  exact⟨h.dk,h.pw,h.tq,by simp only;rw[e];exact h.tm,h.q,by simp only;rw[e];exact h.t,h.w,h.c,h.i,h.o,h.ci,h.ki⟩
 ·exact h
theorem VV {ld:Int->Int} {gt:Int->Int->Bool} {l:List Int} (h:l≠[]):(mK ld gt l).1∈l/\mJ ld gt l=aa (mK ld gt l).1:=by
 rcases zW ld gt l with⟨b,c⟩|⟨a,e,b⟩
 ·exact absurd c h
 ·unfold mK;rw[b];exact⟨e,rfl⟩
theorem Vi (h:aI k) (b:aC k):bI (hs k.ac) k.rq.length≠[]:=by
 obtain⟨c,_,a,_⟩:=yx h.dk.an;have:=h.jL _ a;intro e;have:(c:Int)∈bI (hs k.ac) k.rq.length:=fF.2 ⟨by omega,by rw[b.rq.len];exact this,a⟩;rw[e]at this;cases this
theorem ZH (h:aI k) (a:aC k):hs k.ac (gd k)=ag:=(fF.1 (VV (Vi h a)).1).2.2
theorem To {id c:Int} (h:aI k) (b:aC k) (e:id∈bT k.rq c):∃t,aR k.th.2 id=aa t/\t.2.2.1=c/\t.2.2.2.2.1=ae:=by
 obtain⟨t,f,g,i,_⟩:=h.tq.a id c ((yD b.rq).1 e);exact⟨t,f,g,i⟩
theorem VQ (h:aI k) (a:aC k):aI (nu k):=by
 unfold nu;split
 ·exact h
 ·split
  ·rename_i id m;have g:=pH m;rw[List.mem_reverse]at g;obtain⟨t,l,_,b⟩:=To h a g;rw[(BL l).1];obtain⟨t1,t2,p⟩:=BK a.rq h.tq id;have hi:=ZH h a;obtain⟨_,x,r,s,u,y,z,A⟩:=S9 (f:=ae) a.may hi (h.jL _ hi) a.jF a.iF t1 t2 l b;refine⟨h.dk,h.pw,r,h.tm.congr u,λj c e=>?_,h.t,h.w,h.c,h.i,h.o,h.ci,h.ki⟩;rcases(s j c).1 e with e|⟨_,rfl⟩
   ·exact h.q j c (p j c e)
   ·exact py hi
  ·exact h
theorem sM (p:Int->Bool) (n:Nat):(bI p n).Nodup:=by
 unfold bI;refine xx _ (rR _ ?_ rS);intro a b c e;exact c (by omega)
theorem aci {m:BV} {c:Int} (i:hs m c=ag) (j:ls m c=0):(cs m).length=1:=by
 have e:∀d∈cs m,d=c:=by
  intro d hd;have h:hs (ls m c) d=ae:=by rw[j];exact je d
  rw[iM,AZ.1 hd]at h;simpa using h
 have f:(cs m).Nodup:=sM _ _;have g:=AZ.2 i
 match q:cs m,f,e,g with
 | [a],_,_,_=>rfl
 | a::b::l,f,e,_=>
  have o:=e a (by simp);have p:=e b (by simp);simp only[mG,ez,not_or]at f;exact absurd (o.trans p.symm) f.1.1
theorem adm (h:aI k) (u:aC k) (up:Bool) (c:Int):(kL k up c≠0/\iC k up c=k)∨
  (kL k up c=0/\k.dk.1=ah/\(0<=c/\c<k.n)/\hs k.on c=(!up)/\ls k.ac c≠0/\iC k up c={k with ga:=(k.ga.1,1),dk:=(aa ⟨if up then 4 else 10,0,ae,up,c,(fY (ls k.ac c)).1,ae⟩,k.dk.2)}):=by
 unfold kL iC;by_cases g:0<=c/\c<k.n
 ·rw[af (not_not_intro g),af (not_not_intro g)];by_cases b:dE k.dk=ag
  ·rw[aj b,aj b];exact .inl ⟨by simp,rfl⟩
  ·rw[af b,af b]
   have hd:k.dk.1=ah:=by
    cases hd:k.dk.1 with
    | none=>rfl
    | some r=>unfold dE at b;rw[hd]at b;exact absurd rfl b
   obtain⟨f1,f2,f3⟩:=h.dk.free hd;by_cases p:(up&&hs k.on c)=ag
   ·rw[aj p,aj p];exact .inl ⟨by simp,rfl⟩
   ·rw[af p,af p];by_cases q:(!up&&!hs k.on c)=ag
    ·rw[aj q,aj q];exact .inl ⟨by simp,rfl⟩
    ·rw[af q,af q];by_cases i:(!up&&decide ((cs k.on).length=1))=ag
     ·rw[aj i,aj i];exact .inl ⟨by simp,rfl⟩
     ·rw[af i,af i];have f:hs k.on c=(!up):=by cases up<;>simp_all
      have j:ls k.ac c≠0:=by
       intro e;rw[f1]at e
       cases up with
       | true=>
        have w:hs k.on c=ae:=by simpa using f
        obtain⟨d,_,a,_⟩:=yx h.dk.an;rw[f1]at a;have:hs (ls k.on c) d=ae:=by rw[e];exact je _
        rw[iM,a]at this;simp at this;rw[this,w]at a
        cases a
       | false=>
        have:=aci (m:=k.on) (c:=c) (by simpa using f) e;simp[this]at i
      have l:=AD j;rw[iM]at l;simp only[aY,ja,decide_eq_false_iff_not]at l;have s:=jV l.1;have x:=h.jL _ l.1;have o:c<64:=by have:=u.n.2;omega
      have t:nv k.dk c (fY (ls k.ac c)).1=0:=by
       unfold nv lX;rw[hd];simp only[Option.isSome_none,fD,if_false];rw[aj ⟨⟨g.1,o⟩,s⟩,af (λe=>l.2 e.symm)]
      refine .inr ⟨t,hd,g,f,j,?_⟩;have y:uc k.ga=(k.ga.1,1):=by unfold uc;rw[aj f2]
      have z:tp k.dk up c (fY (ls k.ac c)).1=(aa ⟨if up then 4 else 10,0,ae,up,c,(fY (ls k.ac c)).1,ae⟩,k.dk.2):=by unfold tp;rw[aj t]
      rw[y,z]
 ·rw[aj g,aj g];exact .inl ⟨by simp,rfl⟩
end
section
variable {ac ac':BV} {d d':bY}
theorem PQ.to {rq:RS} (h:PQ ac d rq) (a:∀c,bS ac d 3 c->bS ac' d' 3 c):PQ ac' d' rq:=λid c b=>a c (h id c b)
theorem PT.to {t:dO} (h:PT ac d t) (a:∀c,bS ac d 4 c->bS ac' d' 4 c):PT ac' d' t:=λid p b=>a _ (h id p b)
theorem PW.to {wk:QL} (h:PW ac d wk) (a:∀c,bS ac d 5 c->bS ac' d' 5 c):PW ac' d' wk:=λc v b e=>a _ (h c v b e)
theorem PC.to {ca:CS} (h:PC ac d ca) (a:∀c,bS ac d 6 c->bS ac' d' 6 c):PC ac' d' ca:=λc v b e=>a _ (h c v b e)
theorem PI.to {ir:ch} {rt:dh} (h:PI ac d ir rt) (a:∀c,bS ac d 7 c->bS ac' d' 7 c):PI ac' d' ir rt:=λn b e f=>by
 obtain⟨c,g,i⟩:=h n b e f;exact⟨c,g,a c i⟩
theorem PO.to {st:KS} (h:PO ac d st) (a:∀c,bS ac d 8 c->bS ac' d' 8 c):PO ac' d' st:=λc v b e=>a _ (h c v b e)
theorem bS.none_ (hd:d.1=ah) {s c:Int} (h:bS ac d s c):hs ac c=ag:=by
 rcases h with h|⟨r,h,_⟩
 ·exact h
 ·rw[hd]at h;cases h
theorem bS.KV {r:bd} (hd:d.1=aa r) (b:r.up=ag) {s c:Int} (h:bS ac d s c):hs ac c=ag:=by
 rcases h with h|⟨r',h,a,_⟩
 ·exact h
 ·rw[hd]at h;cases h;rw[b]at a;cases a
theorem bS.done {r r':bd} (hd:d.1=aa r) (a:d'.1=aa r') (j:r'.up=r.up) (l:r'.au=r.au) (m:r.back=ae) (n:r'.back=ae) (p:r'.aA=r.aA+1) {s c:Int} (h:bS ac d s c) (o:s=r.aA+1->r.up=ae->c=r.au->hs ac c=ag):bS ac d' s c:=by
 rcases h with h|⟨q,f,g,i,b⟩
 ·exact .inl h
 ·rw[hd]at f;cases f;rw[m]at b;have b:r.aA<s:=by simpa using b
  by_cases e:s=r.aA+1
  ·exact .inl (o e g i.symm)
  ·exact .inr ⟨r',a,j.trans g,l.trans i,.inr (by omega)⟩
end
theorem yj {co:List dV} {c:Int} (g:dS co c) (x:dV) (d:Int):bg (co.set c.toNat x) d=if d=c then x else bg co d:=by
 have b:=g;unfold dS at b;have a:dS (co.set c.toNat x) d↔dS co d:=by unfold dS;rw[bN]
 by_cases hd:dS co d
 ·have f:=hd;unfold dS at f;unfold bg;rw[aj (a.2 hd),aj hd,aO,aO,cJ];by_cases e:d=c
  ·subst e;rw[aj rfl,aj (by omega),aj rfl];rfl
  ·rw[af (by omega),af e]
 ·have e:d≠c:=λe=>hd (e ▸ g);unfold bg;rw[af (λh=>hd (a.1 h)),af hd,af e]
theorem IE {co:List dV} {c d:Int} {on:Bool} (b:dS co c):(bg (iK co c on) d).pw=if d=c then on else(bg co d).pw:=by
 unfold iK;by_cases a:(bg co c).pw≠on
 ·rw[aj ⟨b,a⟩,yj b];split<;>rfl
 ·rw[af (λh=>a h.2)];split
  ·rename_i e;subst e;exact Classical.not_not.1 a
  ·rfl
theorem Hb (co:List dV) (c:Int) (on:Bool):(iK co c on).length=co.length:=by unfold iK;split<;>simp
section
variable {k:K}
theorem adp (h:aI k) (l:aC k) (up:Bool) (c:Int):aI (iC k up c):=by
 rcases adm h l up c with⟨_,e⟩|⟨_,hd,m,f,g,e⟩
 ·rw[e];exact h
 ·rw[e];obtain⟨f1,f2,f3⟩:=h.dk.free hd;have b:=AD g;rw[iM]at b;simp only[aY,ja,decide_eq_false_iff_not]at b;have j:=jV b.1;have a:∀(d':bY) (s c':Int),bS k.ac k.dk s c'->bS k.ac d' s c':=λd' s c' p=>.inl (p.none_ hd);refine⟨⟨h.dk.an,h.dk.ao,h.dk.eb,λe=>(by cases e),λr u=>?_,h.dk.mg⟩,λc' x y=>?_,h.tq,h.tm,h.q.to (a _ _),h.t.to (a _ _),h.w.to (a _ _),h.c.to (a _ _),h.i.to (a _ _),h.o.to (a _ _),h.ci,h.ki⟩
  ·cases u;refine⟨⟨rfl,⟨fU _,?_⟩,⟨m.1,?_⟩,j⟩,?_,λe=>b.2 e.symm,b.1,m.2,f,λ_=>⟨rfl,rfl⟩,λh=>absurd h (Int.lt_irrefl _),?_,λh=>absurd f3 h⟩
   ·cases up<;>simp
   ·have:=l.n.2;simp only;omega
   ·cases up<;>rfl
   ·simp only;rw[af (λh=>absurd h.2 (by omega))];exact f1
  ·rw[h.pw c' x y];unfold gi;rw[hd];simp
theorem EW {r:bd} (a:r.over=ae):r.now=if r.back then(r.aA-1,ag,ae)else(r.aA,ae,ae):=by
 unfold bd.over at a;unfold bd.now at a⊢;split
 ·rename_i h;rw[aj h]at a;cases a
 ·rfl
theorem mc (r:bd):r.over=((r.back&&decide (r.aA=0))||(!r.back&&decide (r.aA=r.jj))):=by
 unfold bd.over bd.now;split
 ·rename_i h;rw[h]
 ·rename_i h;have:((r.back&&decide (r.aA=0))||(!r.back&&decide (r.aA=r.jj)))=ae:=by simpa using h
  rw[this];split<;>rfl
theorem aI.told (h:aI k) {r:bd} (hd:k.dk.1=aa r) (f:Int->Bool):aI {k with dk:=(aa {r with told:=ag},f)}:=by
 have R:=h.dk.cZ r hd
 have a:∀s c,bS k.ac k.dk s c->bS k.ac (aa {r with told:=ag},f) s c:=by
  intro s c b;rcases b with b|⟨q,g,j,l,m⟩
  ·exact .inl b
  ·rw[hd]at g;cases g;exact .inr ⟨_,rfl,j,l,m⟩
 refine⟨⟨h.dk.an,h.dk.ao,h.dk.eb,λe=>(by cases e),λr' n=>?_,h.dk.mg⟩,λc p g=>?_,h.tq,h.tm,h.q.to (a _),h.t.to (a _),h.w.to (a _),h.c.to (a _),h.i.to (a _),h.o.to (a _),h.ci,h.ki⟩
 ·cases n
  exact⟨⟨R.v.st,R.v.aA,R.v.au,R.v.ax⟩,R.over,R.ne,R.ax,R.au,R.eb,R.g0,R.g1,R.mD,λb=>by
   obtain⟨u,x,y,A,z⟩:=R.tX b;exact⟨u,x,y,rfl,z⟩⟩
 ·rw[h.pw c p g];unfold gi;rw[hd]
theorem aI.ended (h:aI k) {r:bd} (hd:k.dk.1=aa r) (j:k.ac=k.on) (l:k.sp.1=0) (f:Int->Bool) (g:List Int)
  (m:∀c:Int,0<=c->c<k.n->(bg k.co c).pw=hs k.on c) (p:∀s,3<=s->s<=8->∀c,bS k.ac k.dk s c->hs k.ac c=ag):aI {k with dk:=(ah,f),ga:=(g,0)}:=by
 have e:∀s,3<=s->s<=8->∀c,bS k.ac k.dk s c->bS k.ac (ah,f) s c:=λs a b c u=>.inl (p s a b c u);exact⟨⟨h.dk.an,h.dk.ao,h.dk.eb,λ_=>⟨j,rfl,l⟩,λr x=>(by cases x),h.dk.mg⟩,λc y z=>by rw[m c y z];simp[gi],h.tq,h.tm,h.q.to (e 3 (by omega) (by omega)),h.t.to (e 4 (by omega) (by omega)),h.w.to (e 5 (by omega) (by omega)),h.c.to (e 6 (by omega) (by omega)),h.i.to (e 7 (by omega) (by omega)),h.o.to (e 8 (by omega) (by omega)),h.ci,h.ki⟩
end
theorem leads {au:Int}:∀(l:List Int) (k:K),k.ac≠0->(∀c,hs k.ac c=ag->c<k.n)->k.rt.1=(k.n:Int)->k.rt.2.length=16->(∀n∈l,0<=n/\n<16)->
  ∃rt,l.foldl (λk n=>iw k n au) k={k with rt:=rt}/\rt.1=(k.n:Int)/\rt.2.length=16/\
   ∀m,0<=m->m<16->(m∈l->(cF rt m).2=ag/\hs k.ac (cF rt m).1=ag)/\(m∉l->cF rt m=cF k.rt m)
 | [],k,_,_,h1,o,_=>⟨k.rt,rfl,h1,o,λm _ _=>⟨λh=>by simp at h,λ_=>rfl⟩⟩
 | a::l,k,i,j,h1,o,w=>by
  have p:=Ai (m:=qX k a) i au;have q:=jV p;have s:=j _ p;have x:=w a (by simp);have d:=λm (g:0<=m/\m<16)=>Jw o x (c:=(jw (qX k a) k.ac au).1) ⟨q.1,by rw[h1];exact s⟩ g;obtain⟨rt,e,y,z,A⟩:=leads (au:=au) l (iw k a au) i j (by unfold iw;simp only;rw[(zb ..).1];exact h1) (by unfold iw;simp only;rw[(zb ..).2];exact o) (λn B=>w n (by simp[B]));refine⟨rt,?_,y,z,λm t u=>?_⟩
  ·rw[nm,e];rfl
  ·obtain⟨p1,p2⟩:=A m t u;refine⟨λg=>?_,λg=>?_⟩
   ·by_cases b:m∈l
    ·exact p1 b
    ·have f:m=a:=by
      rcases ez.1 g with h|h
      ·exact h
      ·exact absurd h b
     rw[p2 b];show(cF (nP k.rt a (jw (qX k a) k.ac au).1) m).2=ag/\hs k.ac (cF (nP k.rt a (jw (qX k a) k.ac au).1) m).1=ag;rw[d m ⟨t,u⟩,aj f];exact⟨rfl,p⟩
   ·have b:m∉l:=λh=>g (by simp[h]);have f:m≠a:=λh=>g (by simp[h]);rw[p2 b];show cF (nP k.rt a (jw (qX k a) k.ac au).1) m=_;rw[d m ⟨t,u⟩,af f]
theorem xj:∀(l:List Int) (k:K),k.ac≠0->(∀c,hs k.ac c=ag->c<k.n)->k.rt.1=(k.n:Int)->k.rt.2.length=16->(∀n∈l,0<=n/\n<16)->PI k.ac k.dk k.ir k.rt->
  ∃rt,l.foldl gZ k={k with rt:=rt}/\rt.1=(k.n:Int)/\rt.2.length=16/\PI k.ac k.dk k.ir rt
 | [],k,_,_,h1,g,_,h=>⟨k.rt,rfl,h1,g,h⟩
 | a::l,k,b,d,h1,g,i,h=>by
  have j:=i a (by simp);have f:∀n∈l,0<=n/\n<16:=λn o=>i n (by simp[o]);rw[nm];unfold gZ;split
  ·obtain⟨p1,p2,p,_⟩:=Jc (near:=(cF k.rt a).1) b d h1 g j (λm q s t _=>h m q s t);obtain⟨rt,e,u,w,x⟩:=xj l (iw k a (cF k.rt a).1) b d p2 p f p1;exact⟨rt,e,u,w,x⟩
  ·exact xj l k b d h1 g f h
theorem A0:∀(l:List Int) (k:K),k.n<=64->k.ac≠0->(∀c,hs k.ac c=ag->c<k.n)->xe k->(∀id∈l,(aR k.th.2 id).isSome=ag)->
  ∃th rq,l.foldl iz k={k with th:=th,rq:=rq}/\xe {k with th:=th,rq:=rq}
 | [],k,_,_,_,h,_=>⟨k.th,k.rq,rfl,h⟩
 | a::l,k,o,b,d,h,p=>by
  obtain⟨t,u⟩:=lU.1 (p a (by simp));obtain⟨th,rq,e,w,x,_⟩:=Sd o b d h u
  obtain⟨f,g,y,i⟩:=A0 l {k with th:=th,rq:=rq} o b d w (λid j=>by
   have q:=p id (by simp[j]);have m:=x id;simp only
   cases z:aR th.2 id with
   | some _=>rfl
   | none=>
    rw[z]at m
    cases s:aR k.th.2 id with
    | some _=>rw[s]at m;simp at m
    | none=>rw[s]at q;cases q)
  exact⟨f,g,by rw[nm,e,y],i⟩
theorem abd (k:K) (id:Int):(iz k id).dk=k.dk:=by unfold iz;split<;>rfl
theorem Vo (k:K) (n:Int):(gZ k n).dk=k.dk:=by unfold gZ;split<;>rfl
theorem Se:∀(l:List Int) (k:K),(l.foldl iz k).dk=k.dk
 | [],k=>rfl
 | a::l,k=>by rw[nm,Se l,abd]
theorem LA:∀(l:List Int) (k:K),(l.foldl gZ k).dk=k.dk
 | [],k=>rfl
 | a::l,k=>by rw[nm,LA l,Vo]
theorem RQ (c:Int):∀(l:List Int) (k:K),(l.foldl (λk n=>iw k n c) k).dk=k.dk
 | [],k=>rfl
 | a::l,k=>by rw[nm,RQ c l];rfl
theorem Zq (k:K) (c ax:Int):(nD k c ax).dk=k.dk:=by
 unfold nD;split
 ·rfl
 ·split
  ·exact RQ ..
  ·rfl
theorem aaM (k:K) (s c ax:Int):(fO k s c ax).dk=k.dk:=by
 unfold fO
 repeat' split
 all_goals first
  | rfl
  | (unfold iL;split<;>rfl)
  | exact Zq ..
theorem XE (k:K) (s c:Int):(nz k s c).dk=k.dk:=by
 unfold nz
 repeat' split
 all_goals first
  | rfl
  | (simp only;rw[LA,Se])
theorem alx (k:K) (u:Bool) (s c:Int):(nU k u s c).dk=k.dk:=by
 unfold nU
 repeat' split
 all_goals rfl
theorem aeL (k:K) (s:Int×Bool×Bool) (c ax:Int):(fm k s c ax).dk=k.dk:=by
 unfold fm;split
 ·exact alx ..
 ·split
  ·rfl
  ·split
   ·exact XE ..
   ·exact aaM ..
section
variable {k:K} {r:bd} {ax:Int}
theorem Uw (hd:k.dk.1=aa r) (a:r.over=ae) (b:jd k.dk r=ag) :
  jH k ax=if r.aA=0 then{k with dk:=(ah,λj=>if j=r.now.1 then ae else k.dk.2 j),ga:=(k.ga.1,0)}else{k with dk:=(aa {r with told:=ag,back:=ag},λj=>if j=r.now.1 then ae else k.dk.2 j)}:=by
 have d:sk k.dk=(aa {r with told:=ag,back:=ag},λj=>if j=r.now.1 then ae else k.dk.2 j):=by unfold sk;rw[hd];simp[a,b]
 have e:(jy k.dk).1.2.2=ag:=by unfold jy;rw[hd];simp[a,b]
 have f:gC k ax={k with dk:=(aa {r with told:=ag,back:=ag},λj=>if j=r.now.1 then ae else k.dk.2 j)}:=by unfold gC;simp only;rw[d,aj e]
 have c:({r with told:=ag,back:=ag}:bd).over=decide (r.aA=0):=by rw[mc];simp
 unfold jH;rw[f];simp only[nA,c,decide_eq_true_eq];split
 ·rename_i g;unfold vT vY;simp only[c,decide_eq_true g,if_true]
 ·rfl
def PR (k:K) (r:bd) (ax:Int):K:=
 let a:K:={k with dk:=(aa {r with told:=ag},k.dk.2)}
 if qf a (r.now.1,r.now.2.1,ae) r.au ax then
  (if({r with told:=ae,aA:=if r.back then r.aA-1 else r.aA+1}:bd).over then{fm a (r.now.1,r.now.2.1,ae) r.au ax with dk:=(ah,k.dk.2),ga:=((fm a (r.now.1,r.now.2.1,ae) r.au ax).ga.1,0)}
     else{fm a (r.now.1,r.now.2.1,ae) r.au ax with dk:=(aa {r with told:=ae,aA:=if r.back then r.aA-1 else r.aA+1},k.dk.2)})
 else fm a (r.now.1,r.now.2.1,ae) r.au ax
theorem Ux (hd:k.dk.1=aa r) (b:r.over=ae) (d:jd k.dk r=ae):jH k ax=PR k r ax:=by
 have f:sk k.dk=(aa {r with told:=ag},k.dk.2):=by unfold sk;rw[hd];simp[b,d]
 have g:(jy k.dk).1=(r.now.1,r.now.2.1,ae):=by unfold jy;rw[hd];simp[b,d]
 have h:jc k.dk=r.au:=by unfold jc;rw[hd]
 have e:({r with told:=ag}:bd).over=ae:=by rw[mc]at b⊢;exact b
 have a:=aeL {k with dk:=(aa {r with told:=ag},k.dk.2)} (r.now.1,r.now.2.1,ae) r.au ax;simp only at a
 have i:gC k ax=if qf {k with dk:=(aa {r with told:=ag},k.dk.2)} (r.now.1,r.now.2.1,ae) r.au ax then
   {fm {k with dk:=(aa {r with told:=ag},k.dk.2)} (r.now.1,r.now.2.1,ae) r.au ax with dk:=(aa {r with told:=ae,aA:=if r.back then r.aA-1 else r.aA+1},k.dk.2)}
   else fm {k with dk:=(aa {r with told:=ag},k.dk.2)} (r.now.1,r.now.2.1,ae) r.au ax:=by
  unfold gC;simp only;rw[f,g,h];simp only[fD,if_false];rw[a];unfold xT;simp only[e,fD,if_false]
 unfold jH PR;rw[i];simp only;generalize qf {k with dk:=(aa {r with told:=ag},k.dk.2)} (r.now.1,r.now.2.1,ae) r.au ax=ok;generalize fm {k with dk:=(aa {r with told:=ag},k.dk.2)} (r.now.1,r.now.2.1,ae) r.au ax=X at a⊢
 cases ok with
 | true=>
  simp only[if_true];unfold nA vT vY;simp only;generalize c:({r with told:=ae,aA:=if r.back then r.aA-1 else r.aA+1}:bd).over=o
  cases o<;>simp[c]
 | false=>
  simp only[fD,if_false];rw[af];unfold nA;rw[a];simp only[e];decide
end
theorem sX.pX {n:Nat} {on ac a:BV} {gs:Int} {sp b:BV×BV} {r:bd} (R:sX n on ac gs sp r) (e:r.back=ae) (f:0<r.aA) (i:r.aA+1<r.jj) (c:b.1=0) (d:a=if r.up=ae/\2<=r.aA+1 then ls on r.au else on) (g:hs a r.ax=ag) :
  sX n on a gs b {r with aA:=r.aA+1,told:=ae}:=by
 refine⟨⟨R.v.st,⟨by have:=R.v.aA;simp only;omega,by simp only;omega⟩,R.v.au,R.v.ax⟩,?_,R.ne,g,R.au,R.eb,λh=>?_,λ_=>R.g1 f,d,λh=>absurd c h⟩
 ·rw[mc];simp only[e,js,tc,dR,ur,decide_eq_false_iff_not];omega
 ·simp only at h;omega
section
variable {k:K} {r:bd}
theorem aI.pX (h:aI k) (hd:k.dk.1=aa r) (u:r.back=ae) (I:1<r.aA) (A:r.aA+1<r.jj) (x:k.sp.1=0) (f:Int->Bool)
  (B:r.up=ae->r.aA=2->∀id,¬gN k.rq id r.au) (C:r.up=ae->r.aA=3->∀t p,bE k.tm.t t=aa p->p.1≠r.au) (D:r.up=ae->r.aA=4->∀v,v∉da k.wk r.au)
  (E:r.up=ae->r.aA=5->∀v,v∉bA k.ca r.au) (hi:r.up=ae->r.aA=6->∀n c,0<=n->n<16->(gq k.ir n).1=ag->cF k.rt n=(c,ag)->c≠r.au) (F:r.up=ae->r.aA=7->∀v,v∉kN k.st r.au) :
  aI {k with dk:=(aa {r with aA:=r.aA+1,told:=ae},f)}:=by
 have R:=h.dk.cZ r hd;have j:∀s c,bS k.ac k.dk s c->(s=r.aA+1->r.up=ae->c=r.au->hs k.ac c=ag)->bS k.ac (aa {r with aA:=r.aA+1,told:=ae},f) s c:=λs c l d=>l.done (r':={r with aA:=r.aA+1,told:=ae}) hd rfl rfl rfl u u rfl d;refine⟨⟨h.dk.an,h.dk.ao,h.dk.eb,λe=>(by cases e),λr' G=>?_,h.dk.mg⟩,λc g m=>?_,h.tq,h.tm,λid c b=>?_,λt p b=>?_,λc v g b=>?_,λc v g b=>?_,λn g m y=>?_,λc v g b=>?_,h.ci,h.ki⟩
 ·cases G;refine R.pX u (by omega) A x ?_ R.ax;rw[R.mD];by_cases a:r.up=ae
  ·rw[aj ⟨a,by omega⟩,aj ⟨a,by omega⟩]
  ·rw[af (λl=>a l.1),af (λl=>a l.1)]
 ·rw[h.pw c g m];unfold gi;rw[hd];simp only[decide_eq_true (show 2<=r.aA by omega),decide_eq_true (show 2<=r.aA+1 by omega)]
 ·exact j _ _ (h.q id c b) λe a d=>absurd b (d ▸ B a (by omega) id)
 ·exact j _ _ (h.t t p b) λe a d=>absurd d (C a (by omega) t p b)
 ·exact j _ _ (h.w c v g b) λe a d=>absurd b (d ▸ D a (by omega) v)
 ·exact j _ _ (h.c c v g b) λe a d=>absurd b (d ▸ E a (by omega) v)
 ·obtain⟨c,z,H⟩:=h.i n g m y;exact⟨c,z,j _ _ H λe a d=>absurd d (hi a (by omega) n c g m y z)⟩
 ·exact j _ _ (h.o c v g b) λe a d=>absurd b (d ▸ F a (by omega) v)
theorem R5 {n:Nat} {on:BV} {c d:Int} (h:hs (ls on c) d=ag):hs on d=ag/\d≠c:=by
 rw[iM]at h;simpa using h
theorem xh (R:sX k.n k.on k.ac k.ga.2 k.sp r) (a:r.up=ae) (b:2<=r.aA):k.ac=ls k.on r.au/\hs k.ac r.au=ae:=by
 have e:k.ac=ls k.on r.au:=by rw[R.mD,aj ⟨a,b⟩]
 exact⟨e,by rw[e,iM];simp⟩
theorem aI.failed (h:aI k) (hd:k.dk.1=aa r) (j:0<r.aA) (x:r.back=ae) (l:r.told=ae) (f:Int->Bool):aI {k with dk:=(aa {r with told:=ag,back:=ag},f)}:=by
 have R:=h.dk.cZ r hd
 have a:∀s c,bS k.ac k.dk s c->bS k.ac (aa {r with told:=ag,back:=ag},f) s c:=by
  intro s c b;rcases b with b|⟨q,d,m,n,y⟩
  ·exact .inl b
  ·rw[hd]at d;cases d;exact .inr ⟨_,rfl,m,n,.inl rfl⟩
 have g:k.sp.1=0:=by
  apply eV;intro p;have:=(R.tX p).2.2.2.1;rw[l]at this;cases this
 refine⟨⟨h.dk.an,h.dk.ao,h.dk.eb,λe=>(by cases e),λr' u=>?_,h.dk.mg⟩,λc j d=>?_,h.tq,h.tm,h.q.to (a _),h.t.to (a _),h.w.to (a _),h.c.to (a _),h.i.to (a _),h.o.to (a _),h.ci,h.ki⟩
 ·cases u;refine⟨⟨R.v.st,R.v.aA,R.v.au,R.v.ax⟩,?_,R.ne,R.ax,R.au,R.eb,λe=>?_,R.g1,R.mD,λb=>absurd g b⟩
  ·rw[mc];simp;omega
  ·simp only at e;omega
 ·rw[h.pw c j d];unfold gi;rw[hd]
theorem aba (R:sX k.n k.on k.ac k.ga.2 k.sp r) (hd:k.dk.1=aa r) (g:r.aA<2) {s c:Int} (a:bS k.ac k.dk s c):hs k.ac c=ag:=by
 have b:k.ac=k.on:=by rw[R.mD,af (λh=>by omega)]
 rcases a with a|⟨q,d,e,f,_⟩
 ·exact a
 ·rw[hd]at d;cases d;rw[b,<-f,R.eb,e];rfl
theorem mh (R:sX k.n k.on k.ac k.ga.2 k.sp r) (a:r.up=ag∨r.back=ag∨r.aA≠6∨r.told=ae):k.sp.1=0:=by
 apply eV;intro b;obtain⟨c,d,e,f,_⟩:=R.tX b;rcases a with a|a|a|a
 ·rw[c]at a;cases a
 ·rw[d]at a;cases a
 ·exact a e
 ·rw[f]at a;cases a
theorem aI.stop (h:aI k) (hd:k.dk.1=aa r) (b:r.aA<2) (a:k.sp.1=0) (f:Int->Bool) (g:List Int):aI {k with dk:=(ah,f),ga:=(g,0)}:=by
 have R:=h.dk.cZ r hd;refine h.ended hd (by rw[R.mD,af (λj=>by omega)]) a f g (λc d e=>?_) (λs _ _ c i=>aba R hd b i);rw[h.pw c d e];unfold gi;rw[hd];simp[show ¬2<=r.aA by omega]
theorem aI.aly (h:aI k) (I:aC k) (hd:k.dk.1=aa r) (E:r.back=ag) (F:2<=r.aA) (f:Int->Bool):aI {nU k r.up (r.aA-1) r.au with dk:=(aa {r with told:=ae,aA:=r.aA-1},f)}:=by
 have R:=h.dk.cZ r hd;have n:=mh R (.inr (.inl E));have p:({r with told:=ae,aA:=r.aA-1}:bd).over=ae:=by rw[mc];simp[E];omega
 have C:Lo {r with told:=ae,aA:=r.aA-1}:=⟨R.v.st,by have:=R.v.aA;simp only;omega,R.v.au,R.v.ax⟩
 have a:∀x,(∀c,hs k.ac c=ag->hs x c=ag)->∀s c,bS k.ac k.dk s c->bS x (aa {r with told:=ae,aA:=r.aA-1},f) s c:=by
  intro x J s c b;rcases b with b|⟨q,l,F,L,M⟩
  ·exact .inl (J c b)
  ·rw[hd]at l;cases l;exact .inr ⟨_,rfl,F,L,.inl E⟩
 have g:hs k.on r.au = !r.up:=R.eb;unfold nU;rcases(by cases r.up<;>simp:r.up=ag∨r.up=ae)with hu|hu
 ·have m:k.ac=k.on:=by rw[R.mD,af (λb=>by rw[hu]at b;cases b.1)]
  by_cases l:r.aA-1=1
  ·rw[aj (by simp[l,hu])];have G:dS k.co r.au:=⟨R.v.au.1,by have:=R.au;have:=I.co;omega⟩;refine⟨⟨h.dk.an,h.dk.ao,h.dk.eb,λe=>(by cases e),λr' y=>?_,h.dk.mg⟩,λc z A=>?_,h.tq,h.tm,h.q.to (a _ (λ_ h=>h) _),h.t.to (a _ (λ_ h=>h) _),h.w.to (a _ (λ_ h=>h) _),h.c.to (a _ (λ_ h=>h) _),h.i.to (a _ (λ_ h=>h) _),h.o.to (a _ (λ_ h=>h) _),h.ci,h.ki⟩
   ·cases y;exact⟨C,p,R.ne,R.ax,R.au,g,λe=>by simp only at e;omega,λ_=>R.g1 (by omega),by rw[af (λb=>by simp only at b;rw[hu]at b;cases b.1)];exact m,λb=>absurd n b⟩
   ·simp only;rw[IE G];have D:=h.pw c z A;unfold gi at D⊢;rw[hd]at D;simp only[hu,l,dR]at D⊢;split
    ·rename_i e;subst e;rw[g,hu];simp
    ·rename_i e;rw[D];simp[e]
  ·rw[af (by simp[l]),af (by simp[l])];refine⟨⟨h.dk.an,h.dk.ao,h.dk.eb,λe=>(by cases e),λr' y=>?_,h.dk.mg⟩,λc z A=>?_,h.tq,h.tm,h.q.to (a _ (λ_ h=>h) _),h.t.to (a _ (λ_ h=>h) _),h.w.to (a _ (λ_ h=>h) _),h.c.to (a _ (λ_ h=>h) _),h.i.to (a _ (λ_ h=>h) _),h.o.to (a _ (λ_ h=>h) _),h.ci,h.ki⟩
   ·cases y;exact⟨C,p,R.ne,R.ax,R.au,g,λe=>by simp only at e;omega,λ_=>R.g1 (by omega),by rw[af (λb=>by simp only at b;rw[hu]at b;cases b.1)];exact m,λb=>absurd n b⟩
   ·simp only;rw[h.pw c z A];unfold gi;rw[hd];simp only[hu,decide_eq_true (show 2<=r.aA by omega),decide_eq_true (show 2<=r.aA-1 by omega)]
 ·obtain⟨m,_⟩:=xh R hu F;have H:hs k.on r.au=ag:=by rw[g,hu];rfl
  by_cases l:r.aA-1=1
  ·rw[af (by simp[hu]),aj (by simp[l,hu])]
   have u:wi k.ac r.au=k.on:=by
    rw[m];apply sa;intro d _ _;rw[oT,iM];by_cases e:d=r.au
    ·subst e;have:=R.v.au;unfold lX at this;simp[H,this]
    ·simp[e]
   have j:∀c,hs k.ac c=ag->hs (wi k.ac r.au) c=ag:=λc B=>by rw[oT,B];rfl
   refine⟨⟨?_,λc B=>?_,h.dk.eb,λe=>(by cases e),λr' y=>?_,h.dk.mg⟩,λc z A=>?_,h.tq,h.tm,h.q.to (a _ j _),h.t.to (a _ j _),h.w.to (a _ j _),h.c.to (a _ j _),h.i.to (a _ j _),h.o.to (a _ j _),h.ci,h.ki⟩
   ·intro e;have:=j _ R.ax;simp only at e;rw[e,je]at this;cases this
   ·simp only at B;rw[u]at B;exact B
   ·cases y;exact⟨C,p,R.ne,j _ R.ax,R.au,g,λe=>by simp only at e;omega,λ_=>R.g1 (by omega),by rw[af (λb=>by simp only at b;omega)];exact u,λb=>absurd n b⟩
   ·simp only;rw[h.pw c z A];unfold gi;rw[hd];simp only[hu,js]
  ·rw[af (by simp[l]),af (by simp[l])];refine⟨⟨h.dk.an,h.dk.ao,h.dk.eb,λe=>(by cases e),λr' y=>?_,h.dk.mg⟩,λc z A=>?_,h.tq,h.tm,h.q.to (a _ (λ_ h=>h) _),h.t.to (a _ (λ_ h=>h) _),h.w.to (a _ (λ_ h=>h) _),h.c.to (a _ (λ_ h=>h) _),h.i.to (a _ (λ_ h=>h) _),h.o.to (a _ (λ_ h=>h) _),h.ci,h.ki⟩
   ·cases y;exact⟨C,p,R.ne,R.ax,R.au,g,λe=>by simp only at e;omega,λ_=>R.g1 (by omega),by rw[aj (by simp only;exact⟨hu,by omega⟩)];exact m,λb=>absurd n b⟩
   ·simp only;rw[h.pw c z A];unfold gi;rw[hd];simp only[hu,js]
end
section
variable {k:K} {r:bd}
theorem aI.aen (h:aI k) (hd:k.dk.1=aa r) (j:r.back=ae) (u:r.aA=0) (f:Int->Bool) (g:List Int):aI {k with ga:=(g,2),dk:=(aa {r with told:=ae,aA:=r.aA+1},f)}:=by
 have R:=h.dk.cZ r hd;have b:∀s c,3<=s->bS k.ac k.dk s c->bS k.ac (aa {r with told:=ae,aA:=r.aA+1},f) s c:=λs c x d=>d.done (r':={r with told:=ae,aA:=r.aA+1}) hd rfl rfl rfl j j rfl (λe=>by omega);refine⟨⟨h.dk.an,h.dk.ao,h.dk.eb,λe=>(by cases e),λr' m=>?_,h.dk.mg⟩,λc n p=>?_,h.tq,h.tm,h.q.to (λc=>b _ c (by omega)),h.t.to (λc=>b _ c (by omega)),h.w.to (λc=>b _ c (by omega)),h.c.to (λc=>b _ c (by omega)),h.i.to (λc=>b _ c (by omega)),h.o.to (λc=>b _ c (by omega)),h.ci,h.ki⟩
 ·cases m;have a:=R.v.st;have l:=mh R (.inr (.inr (.inl (by omega))));refine⟨⟨a,⟨by simp only;omega,by simp only;cases hu:r.up<;>rw[hu]at a<;>simp at a<;>omega⟩,R.v.au,R.v.ax⟩,?_,R.ne,R.ax,R.au,R.eb,λe=>by simp only at e;omega,λ_=>rfl,?_,λd=>absurd l d⟩
  ·rw[mc];simp only[j,js,tc,dR,ur,decide_eq_false_iff_not];cases hu:r.up<;>rw[hu]at a<;>simp at a<;>omega
  ·rw[af (λd=>by simp only at d;omega),R.mD,af (λd=>by omega)]
 ·rw[h.pw c n p];unfold gi;rw[hd];simp only[show ¬2<=r.aA by omega,show ¬2<=r.aA+1 by omega]
theorem aI.acM (h:aI k) (l:aC k) (hd:k.dk.1=aa r) (m:r.back=ae) (b:r.up=ag) (x:r.aA=1) (f:Int->Bool):aI {k with co:=iK k.co r.au ag,dk:=(aa {r with told:=ae,aA:=r.aA+1},f)}:=by
 have R:=h.dk.cZ r hd;have d:∀s c,bS k.ac k.dk s c->bS k.ac (aa {r with told:=ae,aA:=r.aA+1},f) s c:=λs c a=>.inl (a.KV hd b);have j:dS k.co r.au:=⟨R.v.au.1,by have:=R.au;have:=l.co;omega⟩;refine⟨⟨h.dk.an,h.dk.ao,h.dk.eb,λe=>(by cases e),λr' n=>?_,h.dk.mg⟩,λc p u=>?_,h.tq,h.tm,h.q.to (d _),h.t.to (d _),h.w.to (d _),h.c.to (d _),h.i.to (d _),h.o.to (d _),h.ci,h.ki⟩
 ·cases n;have g:=R.v.st;rw[b]at g;refine R.pX m (by omega) (by simp at g;omega) (mh R (.inl b)) ?_ R.ax;rw[R.mD,af (λa=>by rw[b]at a;cases a.1),af (λa=>by rw[b]at a;cases a.1)]
 ·simp only;rw[IE j,h.pw c p u];unfold gi;rw[hd];simp only[b,dR,decide_eq_true (show 2<=r.aA+1 by omega),show ¬2<=r.aA by omega];split
  ·rename_i e;simp[e]
  ·rename_i e;simp[e]
theorem aI.OI (h:aI k) (c:Int):aI {k with st:=jT k.st c}:=⟨h.dk,h.pw,h.tq,h.tm,h.q,h.t,h.w,h.c,h.i,X1 h.o c,h.ci,(h.ki.drain c).1⟩
theorem aaS {s:ch}:∀n∈gP s,0<=n/\n<16:=λn a=>⟨(fF.1 a).1,(fF.1 a).2.1⟩
theorem ach {x:dh} {c:Int}:∀n∈iQ x c,0<=n/\n<16:=λn a=>⟨(fF.1 a).1,(fF.1 a).2.1⟩
theorem aI.XD (h:aI k) (p:aC k) (hd:k.dk.1=aa r) (J:r.back=ae) (x:r.up=ag) (B:r.aA=3) (f:Int->Bool) (g:List Int):aI {nz k 3 r.au with dk:=(ah,f),ga:=(g,0)}:=by
 have R:=h.dk.cZ r hd;have z:=mh R (.inl x);have j:k.ac=k.on:=by rw[R.mD,af (λb=>by rw[x]at b;cases b.1)]
 have y:∀c,hs k.ac c=ag->hs (wi k.ac r.au) c=ag:=λc a=>by rw[oT,a];rfl
 have l:wi k.ac r.au≠0:=λe=>by have:=y _ R.ax;rw[e,je]at this;cases this
 have m:∀c,hs (wi k.ac r.au) c=ag->c<k.n:=λc a=>by
  rw[oT]at a;simp only[eT,aY,decide_eq_true_eq]at a;rcases a with a|⟨_,rfl⟩
  ·exact h.jL c a
  ·exact R.au
 have u:∀s c,bS k.ac k.dk s c->bS (wi k.ac r.au) k.dk s c:=λs c b=>.inl (y c (b.KV hd x));have d:∀s c,bS (wi k.ac r.au) k.dk s c->bS (wi k.ac r.au) (ah,f) s c:=λs c b=>.inl (b.KV hd x);obtain⟨th,rq,C,T⟩:=A0 (gT k.th) {k with on:=wi k.on r.au,ac:=wi k.ac r.au} p.n.2 l m ⟨p.rq,h.tq,h.tm,h.q.to (u _),p.jF,p.iF⟩ (λid A=>Jq.1 A);obtain⟨rt,D,L,M,E⟩:=xj (gP k.ir) {k with on:=wi k.on r.au,ac:=wi k.ac r.au,th:=th,rq:=rq} l m p.kO p.j5 aaS (h.i.to (u _))
 have F:nz k 3 r.au={k with on:=wi k.on r.au,ac:=wi k.ac r.au,th:=th,rq:=rq,rt:=rt}:=by
  unfold nz;simp only[show ¬(3:Int)=1 by omega,show ¬(3:Int)=2 by omega,if_false];rw[C];exact D
 rw[F];refine⟨⟨l,λc a=>?_,λc a=>?_,λ_=>⟨?_,rfl,z⟩,λr' G=>(by cases G),h.dk.mg⟩,λc H I=>?_,T.tq,T.tm,T.q.to (d _),h.t.to (λc b=>d _ c (u _ c b)),h.w.to (λc b=>d _ c (u _ c b)),h.c.to (λc b=>d _ c (u _ c b)),PI.to E (d _),h.o.to (λc b=>d _ c (u _ c b)),h.ci,h.ki⟩
 ·simp only at a⊢;rw[<-j];exact a
 ·simp only at a;rw[<-j]at a;exact⟨(jV a).1,m c a⟩
 ·simp only;rw[j]
 ·simp only;rw[h.pw c H I];unfold gi;rw[hd,oT];have:=R.v.au;unfold lX at this;simp[x,B,this]
theorem aI.Zv (h:aI k) (hd:k.dk.1=aa r) (p:r.back=ae) (d:r.up=ae) (B:r.aA=1) (f:Int->Bool):aI {k with ac:=ls k.ac r.au,dk:=(aa {r with told:=ae,aA:=r.aA+1},f)}:=by
 have R:=h.dk.cZ r hd;have j:k.ac=k.on:=by rw[R.mD,af (λg=>by omega)]
 have l:hs (ls k.ac r.au) r.ax=ag:=by rw[iM,R.ax];simp[R.ne.symm]
 have a:∀s c,3<=s->bS k.ac k.dk s c->bS (ls k.ac r.au) (aa {r with told:=ae,aA:=r.aA+1},f) s c:=by
  intro s c C g;by_cases e:c=r.au
  ·exact .inr ⟨_,rfl,d,e.symm,.inr (by simp only;omega)⟩
  ·rcases g with g|⟨q,g1,D,u,E⟩
   ·exact .inl (by rw[iM,g];simp[e])
   ·rw[hd]at g1;cases g1;exact absurd u.symm e
 refine⟨⟨λe=>?_,λc x=>h.dk.ao c (R5 (n:=k.n) x).1,h.dk.eb,λe=>(by cases e),λr' y=>?_,h.dk.mg⟩,λc z A=>?_,h.tq,h.tm,h.q.to (λc=>a _ c (by omega)),h.t.to (λc=>a _ c (by omega)),h.w.to (λc=>a _ c (by omega)),h.c.to (λc=>a _ c (by omega)),h.i.to (λc=>a _ c (by omega)),h.o.to (λc=>a _ c (by omega)),h.ci,h.ki⟩
 ·simp only at e;rw[e,je]at l;cases l
 ·cases y;have b:=R.v.st;rw[d]at b;have m:k.sp.1=0:=mh R (.inr (.inr (.inl (by omega))));refine R.pX p (by omega) (by simp at b;omega) m ?_ l;rw[aj ⟨d,by omega⟩,j]
 ·simp only;rw[h.pw c z A];unfold gi;rw[hd];simp only[d,js]
theorem aI.Yk (h:aI k) (b:aC k) (c:Int):aI (iL k c):=by
 unfold iL
 cases f:bT k.rq c with
 | nil=>exact h
 | cons a l=>
  simp only;obtain⟨t,g,_,d⟩:=To (id:=a) (c:=c) h b (by rw[f];simp);obtain⟨t1,t2,m⟩:=BK b.rq h.tq a;obtain⟨th,rq,e,p1,p2,n,p,u,x,_⟩:=ER (k:={k with rq:=fH k.rq a}) (id:=a) (near:=c) (t:=t) b.may h.dk.an h.jL b.jF b.iF t1 t2 h.tm (λj c s=>h.q j c (m j c s)) g d;rw[e];exact⟨h.dk,h.pw,p2,n,p,h.t,h.w,h.c,h.i,h.o,h.ci,h.ki⟩
theorem aI.agN (h:aI k) (m:aC k) (hd:k.dk.1=aa r):((j8 k.tm r.au r.ax).2=0/\aI {k with tm:=gV k.tm r.au r.ax})∨((j8 k.tm r.au r.ax).2≠0/\gV k.tm r.au r.ax=k.tm/\∀t p,bE k.tm.t t=aa p->p.1≠r.au):=by
 have R:=h.dk.cZ r hd;have y:=h.jL _ R.ax;have n:dT k.tm r.au:=⟨R.v.au.1,by rw[m.jG];exact R.au⟩;have s:dT k.tm r.ax:=⟨R.v.ax.1,by rw[m.jG];exact y⟩;unfold j8 gV;rw[aj ⟨n,s⟩,af R.ne,aj ⟨n,s,R.ne⟩];have b:∀id,id∈gU k.tm.t r.au↔∃x,bE k.tm.t id=aa x/\decide (x.1=r.au)=ag:=λid=>(tg (ji ..)).trans lq
 cases u:gU k.tm.t r.au with
 | nil=>
  refine .inr ⟨by simp,rfl,λt p g e=>?_⟩;have:=(b t).2 ⟨p,g,decide_eq_true e⟩
  rw[u]at this;cases this
 | cons a l=>
  refine .inl ⟨rfl,?_⟩;obtain⟨x,z,_⟩:=(b a).1 (by rw[u];simp);have d:=Ky z (aa (r.ax,kx k.tm.t a));refine⟨h.dk,h.pw,h.tq,h.tm.Ur (λt g=>?_),h.q,λj p f=>?_,h.w,h.c,h.i,h.o,h.ci,h.ki⟩
  ·simp only;rw[d];split
   ·rfl
   ·exact g
  ·simp only at f;rw[d]at f;split at f
   ·cases f;exact py R.ax
   ·exact h.t j p f
theorem aI.alu (h:aI k) (e:aC k) (hd:k.dk.1=aa r):((pf k.wk r.au).2=0/\aI {k with wk:=mr k.wk r.au})∨((pf k.wk r.au).2≠0/\mr k.wk r.au=k.wk/\∀v,v∉da k.wk r.au):=by
 have R:=h.dk.cZ r hd;have f:cY k.wk r.au 0:=⟨R.v.au.1,by rw[e.jI];have:=R.au;omega⟩;have n:=R.au;have g:=e.jI;have j:=R.v.au.1;unfold pf mr;rw[aj f,aj f]
 cases m:da k.wk r.au with
 | nil=>exact .inr ⟨by simp,rfl,λv b=>by cases b⟩
 | cons a l=>
  refine .inl ⟨rfl,h.dk,h.pw,h.tq,h.tm,h.q,h.t,?_,h.c,h.i,h.o,h.ci,h.ki⟩;have p1:PW k.ac k.dk (k.wk.set (ix r.au) l):=h.w.put ⟨by omega,by omega⟩ (λv b d=>h.w r.au v d (by rw[m];simp[b]));exact PW.put (c:=-1) p1 ⟨by omega,by rw[bN];omega⟩ (λv b d=>absurd d (by omega))
theorem aI.Xr (h:aI k) (y:aC k) (hd:k.dk.1=aa r):aI {k with ca:=iA k.ca r.au r.ax}/\((nL k.ca r.au r.ax).2≠0->∀v,v∉bA (iA k.ca r.au r.ax) r.au):=by
 have R:=h.dk.cZ r hd;have D:=h.jL _ R.ax;have E:=R.au;have z:=y.ca;have f:=R.v.au.1;have p:=R.v.ax.1;have A:bK k.ca r.au:=⟨f,by omega⟩;have B:bK k.ca r.ax:=⟨p,by omega⟩;obtain⟨s,n,u,F⟩:=h.ci.Sk r.au r.ax;rw[aj ⟨A,B⟩,af R.ne]at s n;have g:∀c',0<=c'->bA (iR k.ca r.au) c'=if c'=r.au then(bA k.ca r.au).tail else bA k.ca c':=λc' d=>wD (o:=k.ca.1) (L:=k.ca.2) ⟨f,by omega⟩ d
 cases m:bA k.ca r.au with
 | nil=>
  have x:(cP (df (bA k.ca r.au))).2=12:=by rw[m];rfl
  rw[af (by omega)]at n
  have j:∀c',0<=c'->bA (iA k.ca r.au r.ax) c'=bA k.ca c':=λc' d=>by
   rw[Bk (ca:=iR k.ca r.au) n,g c' d,m];split
   ·rename_i e;rw[e,m];rfl
   ·rfl
  refine⟨⟨h.dk,h.pw,h.tq,h.tm,h.q,h.t,h.w,λc' v d b=>h.c c' v d (by rw[<-j c' d];exact b),h.i,h.o,u,h.ki⟩,λ_ v b=>?_⟩
  rw[j _ f,m]at b;cases b
 | cons a l=>
  have x:cP (df (bA k.ca r.au))=(a,0):=by rw[m];rfl
  rw[x]at s n;simp only[if_true]at n;refine⟨⟨h.dk,h.pw,h.tq,h.tm,h.q,h.t,h.w,λc' v d b=>?_,h.i,h.o,u,h.ki⟩,λC=>absurd (by rw[s]) C⟩;simp only at b;rw[Bk (ca:=(k.ca.1,(iR k.ca r.au).2.set r.ax.toNat (bA (iR k.ca r.au) r.ax++[a]))) n,wD ⟨p,by unfold iR;simp only[bN];omega⟩ d]at b;split at b
  ·rename_i e;rw[e];exact py R.ax
  ·rw[show bA (k.ca.1,(iR k.ca r.au).2) c'=bA (iR k.ca r.au) c' from rfl,g c' d]at b;split at b
   ·rename_i e;rw[e];rw[m]at b;exact h.c r.au v f (by rw[m];simp at b;simp[b])
   ·exact h.c c' v d b
theorem aI.Zp (h:aI k) (B:aC k) (hd:k.dk.1=aa r) (C:r.back=ae) (s:r.up=ae) (F:r.aA=6) (G:r.told=ag) (f:Int->Bool) :
  (tH k=ae/\aI (nD k r.au r.ax))∨(tH k=ag/\aI {nD k r.au r.ax with dk:=(aa {r with told:=ae,aA:=r.aA+1},f)}):=by
 have R:=h.dk.cZ r hd;obtain⟨H,u⟩:=xh R s (by omega);have b:0<=r.au/\r.au<64:=R.v.au;unfold tH nD;by_cases d:k.sp.1=0
 ·refine .inl ⟨by rw[d];rfl,?_⟩;rw[aj d]
  have g:ls (wi k.ac r.au) r.ax≠0:=λe=>by
   have:hs (ls (wi k.ac r.au) r.ax) r.au=ag:=by rw[iM,oT];simp[b,R.ne]
   rw[e,je]at this;cases this
  have x:(o6 k.sp (ls (wi k.ac r.au) r.ax)).2=(ls (wi k.ac r.au) r.ax,0):=by unfold o6;rw[aj d,af g]
  rw[x];refine⟨⟨h.dk.an,h.dk.ao,h.dk.eb,λe=>(by rw[hd]at e;cases e),λr' a=>?_,λe=>absurd e g⟩,h.pw,h.tq,h.tm,h.q,h.t,h.w,h.c,h.i,h.o,h.ci,h.ki⟩;rw[hd]at a;cases a;exact⟨R.v,R.over,R.ne,R.ax,R.au,R.eb,R.g0,R.g1,R.mD,λ_=>⟨s,C,F,G,rfl⟩⟩
 ·rw[af d];by_cases a:iU k.sp=ag
  ·refine .inr ⟨by rw[a,lR];simpa using d,?_⟩;rw[aj a];obtain⟨rt,e,N,O,D⟩:=leads (au:=r.au) (iQ k.rt r.au) k h.dk.an h.jL B.kO B.j5 ach;simp only;rw[e];have x:(wI k.sp).2=(0,0):=by unfold wI;rw[af d]
   simp only;rw[x]
   have y:PI k.ac k.dk k.ir rt:=λn j l z=>by
    obtain⟨p1,p2⟩:=D n j l;by_cases hm:n∈iQ k.rt r.au
    ·obtain⟨I,J⟩:=p1 hm;exact⟨(cF rt n).1,by rw[<-I],py J⟩
    ·rw[p2 hm];exact h.i n j l z
   have m:=R.v.st;rw[s]at m
   have L:aI {k with rt:=rt,sp:=(0,0)}:=by
    refine⟨⟨h.dk.an,h.dk.ao,h.dk.eb,λe=>(by rw[hd]at e;cases e),λr' a=>?_,λ_=>rfl⟩,h.pw,h.tq,h.tm,h.q,h.t,h.w,h.c,y,h.o,h.ci,h.ki⟩;rw[hd]at a;cases a;exact⟨R.v,R.over,R.ne,R.ax,R.au,R.eb,R.g0,R.g1,R.mD,λM=>absurd rfl M⟩
   refine L.pX hd C (by omega) (by simp at m;omega) rfl f (λ_ e=>by omega) (λ_ e=>by omega) (λ_ e=>by omega) (λ_ e=>by omega) (λ_ _ n c j l z p=>?_) (λ_ e=>by omega);simp only at p z;obtain⟨p1,p2⟩:=D n j l;intro E;by_cases hm:n∈iQ k.rt r.au
   ·have:=(p1 hm).2;rw[p]at this;simp only[E,u]at this;cases this
   ·rw[p2 hm]at p;refine hm (fF.2 ⟨j,l,?_⟩);unfold su;rw[p,E];simp
  ·have A:iU k.sp=ae:=by simpa using a
   refine .inl ⟨by rw[A];simp,?_⟩;rw[af a];exact h
theorem aI.acb (h:aI k) (x:aC k) (hd:k.dk.1=aa r) (y:r.back=ae) (u:r.up=ae) (D:r.aA=9) (f:Int->Bool) (g:List Int):aI {k with on:=ls k.on r.au,co:=iK k.co r.au ae,dk:=(ah,f),ga:=(g,0)}:=by
 have R:=h.dk.cZ r hd;obtain⟨b,z⟩:=xh R u (by omega);have l:=mh R (.inr (.inr (.inl (by omega))));have m:dS k.co r.au:=⟨R.v.au.1,by have:=R.au;have:=x.co;omega⟩
 have a:∀s c,s<=8->bS k.ac k.dk s c->bS k.ac (ah,f) s c:=by
  intro s c E p;rcases p with p|⟨q,g1,F,G,d⟩
  ·exact .inl p
  ·rw[hd]at g1;cases g1;rw[y]at d;rcases d with d|d
   ·cases d
   ·omega
 refine⟨⟨h.dk.an,λc j=>?_,λc j=>h.dk.eb c (R5 (n:=k.n) j).1,λ_=>⟨b,rfl,l⟩,λr' A=>(by cases A),h.dk.mg⟩,λc B C=>?_,h.tq,h.tm,h.q.to (λc=>a _ c (by omega)),h.t.to (λc=>a _ c (by omega)),h.w.to (λc=>a _ c (by omega)),h.c.to (λc=>a _ c (by omega)),h.i.to (λc=>a _ c (by omega)),h.o.to (λc=>a _ c (by omega)),h.ci,h.ki⟩
 ·simp only at j⊢;rw[<-b];exact j
 ·simp only;rw[IE m,h.pw c B C];unfold gi;rw[hd,iM];simp only[u,js,pD];split
  ·rename_i e;simp[e]
  ·rename_i e;simp[e]
theorem Zh (h:aI k) (l:aC k) (hd:k.dk.1=aa r) (F:r.told=ag) (f:Int->Bool) :
  aI (if qf k (r.now.1,r.now.2.1,ae) r.au r.ax then
   (if({r with told:=ae,aA:=if r.back then r.aA-1 else r.aA+1}:bd).over then{fm k (r.now.1,r.now.2.1,ae) r.au r.ax with dk:=(ah,f),ga:=((fm k (r.now.1,r.now.2.1,ae) r.au r.ax).ga.1,0)}
       else{fm k (r.now.1,r.now.2.1,ae) r.au r.ax with dk:=(aa {r with told:=ae,aA:=if r.back then r.aA-1 else r.aA+1},f)})
   else fm k (r.now.1,r.now.2.1,ae) r.au r.ax):=by
 have R:=h.dk.cZ r hd;have m:=R.over;have i:=R.v.st;have E:=R.v.aA;have s:jS k.dk=r.up:=by unfold jS;rw[hd]
 rw[EW R.over];rw[mc]at m;rcases(by cases r.back<;>simp:r.back=ag∨r.back=ae)with c|c
 ·rw[c]at m;have G:r.aA≠0:=by simpa using m
  simp only[aj c];unfold qf fm;simp only[if_true,s];by_cases a:r.aA=1
  ·have e:nU k r.up (r.aA-1) r.au=k:=by unfold nU;simp[a]
   rw[e,aj (by rw[mc];simp[c,a])];exact h.stop hd (by omega) (mh R (.inr (.inl c))) f _
  ·rw[af (by rw[mc];simp[c];omega)];exact h.aly l hd c (by omega) f
 ·rw[c]at m;have H:r.aA≠r.jj:=by simpa using m
  have I:¬r.back=ag:=by rw[c];decide
  have b:¬r.aA+1=r.jj->¬({r with told:=ae,aA:=r.aA+1}:bd).over=ag:=λz=>by rw[mc];simp[c];exact z
  have q:r.aA+1=r.jj->({r with told:=ae,aA:=r.aA+1}:bd).over=ag:=λz=>by rw[mc];simp[c];exact z
  simp only[af I];unfold qf fm;simp only[fD,if_false,s];by_cases t:r.aA=0
  ·rw[aj t,aj t]
   have A:¬r.aA+1=r.jj:=by
    rcases(by cases r.up<;>simp:r.up=ag∨r.up=ae)with d|d<;>rw[d]at i<;>simp at i<;>omega
   by_cases w:oP k.ga=0
   ·have e:oQ k.ga=(k.ga.1,2):=by unfold oQ;rw[aj w]
    rw[aj (decide_eq_true w),af (b A),e];exact h.aen hd c t f _
   ·have e:oQ k.ga=k.ga:=by unfold oQ;rw[af w]
    rw[af (by simp[w]),e];exact h
  ·rw[af t,af t];rcases(by cases r.up<;>simp:r.up=ag∨r.up=ae)with d|d
   ·rw[aj d,aj d];rw[d]at i;simp only[if_true]at i;have B:r.aA=1∨r.aA=2∨r.aA=3:=by omega
    rcases B with a|a|a
    ·rw[af (b (by omega)),a];have:=h.acM l hd c d a f;rw[a]at this;exact this
    ·rw[af (b (by omega)),a];have:=(h.OI r.au).pX hd c (by omega) (by omega) (mh R (.inl d)) f (λe=>by rw[d]at e;cases e) (λe=>by rw[d]at e;cases e) (λe=>by rw[d]at e;cases e) (λe=>by rw[d]at e;cases e) (λe=>by rw[d]at e;cases e) (λe=>by rw[d]at e;cases e);rw[a]at this;exact this
    ·rw[aj (q (by omega)),a];exact h.XD l hd c d a f _
   ·have C:¬r.up=ag:=by rw[d];decide
    simp only[af C];rw[d]at i;simp only[fD,if_false]at i;have B:r.aA=1∨r.aA=2∨r.aA=3∨r.aA=4∨r.aA=5∨r.aA=6∨r.aA=7∨r.aA=8∨r.aA=9:=by omega
    have J:∀{p:Prop},r.aA<9->(r.aA=9->p):=λh e=>by omega
    rcases B with a|a|a|a|a|a|a|a|a
    ·rw[aj (show iO k r.aA r.au r.ax=ag by rw[a];rfl),af (b (by omega)),show fO k r.aA r.au r.ax={k with ac:=ls k.ac r.au} by rw[a];rfl];exact h.Zv hd c d a f
    ·have n:iO k r.aA r.au r.ax=(bT k.rq r.au).isEmpty:=by rw[a];rfl
     have o:fO k r.aA r.au r.ax=iL k r.au:=by rw[a];rfl
     rw[n,o];by_cases x:bT k.rq r.au=[]
     ·have L:iL k r.au=k:=by unfold iL;rw[x]
      rw[aj (by rw[x];rfl),af (b (by omega)),L];refine h.pX hd c (by omega) (by omega) (mh R (.inr (.inr (.inl (by omega))))) f (λ_ _ id M=>?_) (λ_ e=>by omega) (λ_ e=>by omega) (λ_ e=>by omega) (λ_ e=>by omega) (λ_ e=>by omega);have:=(yD l.rq).2 M;rw[x]at this;cases this
     ·rw[af (by simp[x])];exact h.Yk l r.au
    ·have n:iO k r.aA r.au r.ax=decide ((j8 k.tm r.au r.ax).2≠0):=by rw[a];rfl
     have o:fO k r.aA r.au r.ax={k with tm:=gV k.tm r.au r.ax}:=by rw[a];rfl
     rw[n,o];rcases h.agN l hd with⟨g,j⟩|⟨g,j,D⟩
     ·rw[af (by simp[g])];exact j
     ·rw[aj (decide_eq_true g),af (b (by omega)),j];exact h.pX hd c (by omega) (by omega) (mh R (.inr (.inr (.inl (by omega))))) f (λ_ e=>by omega) (λ_ _=>D) (λ_ e=>by omega) (λ_ e=>by omega) (λ_ e=>by omega) (λ_ e=>by omega)
    ·have n:iO k r.aA r.au r.ax=decide ((pf k.wk r.au).2≠0):=by rw[a];rfl
     have o:fO k r.aA r.au r.ax={k with wk:=mr k.wk r.au}:=by rw[a];rfl
     rw[n,o];rcases h.alu l hd with⟨g,j⟩|⟨g,j,D⟩
     ·rw[af (by simp[g])];exact j
     ·rw[aj (decide_eq_true g),af (b (by omega)),j];exact h.pX hd c (by omega) (by omega) (mh R (.inr (.inr (.inl (by omega))))) f (λ_ e=>by omega) (λ_ e=>by omega) (λ_ _=>D) (λ_ e=>by omega) (λ_ e=>by omega) (λ_ e=>by omega)
    ·have n:iO k r.aA r.au r.ax=decide ((nL k.ca r.au r.ax).2≠0):=by rw[a];rfl
     have o:fO k r.aA r.au r.ax={k with ca:=iA k.ca r.au r.ax}:=by rw[a];rfl
     rw[n,o];obtain⟨g,j⟩:=h.Xr l hd;by_cases hm:(nL k.ca r.au r.ax).2≠0
     ·rw[aj (decide_eq_true hm),af (b (by omega))];exact g.pX hd c (by omega) (by omega) (mh R (.inr (.inr (.inl (by omega))))) f (λ_ e=>by omega) (λ_ e=>by omega) (λ_ e=>by omega) (λ_ _=>j hm) (λ_ e=>by omega) (λ_ e=>by omega)
     ·rw[af (by simpa using hm)];exact g
    ·have n:iO k r.aA r.au r.ax=tH k:=by rw[a];rfl
     have o:fO k r.aA r.au r.ax=nD k r.au r.ax:=by rw[a];rfl
     rw[n,o];rcases h.Zp l hd c d a F f with⟨g,j⟩|⟨g,j⟩
     ·rw[af (by rw[g];decide)];exact j
     ·rw[aj g,af (b (by omega))];exact j
    ·rw[aj (show iO k r.aA r.au r.ax=ag by rw[a];rfl),af (b (by omega)),show fO k r.aA r.au r.ax={k with st:=jT k.st r.au} by rw[a];rfl];have u:gy k.st r.au:=⟨R.v.au.1,by have:=R.au;have:=l.st;omega⟩;refine(h.OI r.au).pX hd c (by omega) (by omega) (mh R (.inr (.inr (.inl (by omega))))) f (λ_ e=>by omega) (λ_ e=>by omega) (λ_ e=>by omega) (λ_ e=>by omega) (λ_ e=>by omega) (λ_ _ v y=>?_);simp only at y;unfold jT at y;rw[aj u,EY u R.v.au.1,aj rfl]at y;cases y
    ·rw[aj (show iO k r.aA r.au r.ax=ag by rw[a];rfl),af (b (by omega)),show fO k r.aA r.au r.ax=k by rw[a];rfl];exact h.pX hd c (by omega) (by omega) (mh R (.inr (.inr (.inl (by omega))))) f (λ_ e=>by omega) (λ_ e=>by omega) (λ_ e=>by omega) (λ_ e=>by omega) (λ_ e=>by omega) (λ_ e=>by omega)
    ·rw[aj (show iO k r.aA r.au r.ax=ag by rw[a];rfl),aj (q (by omega)),show fO k r.aA r.au r.ax={k with on:=ls k.on r.au,co:=iK k.co r.au ae} by rw[a];rfl];exact h.acb l hd c d a f _
theorem agY (h:aI k) (a:aC k) (hd:k.dk.1=aa r):aI (jH k r.ax):=by
 have R:=h.dk.cZ r hd;by_cases b:jd k.dk r=ag
 ·rw[Uw hd R.over b];unfold jd at b;simp only[aY,ja]at b;obtain⟨⟨f1,f2⟩,f3⟩:=b
  have c:r.back=ae:=by
   rw[EW R.over]at f1
   cases c:r.back with
   | false=>rfl
   | true=>rw[c]at f1;cases f1
  split
  ·rename_i f;exact h.stop hd (by omega) (mh R (.inr (.inr (.inr f2)))) _ _
  ·rename_i f;have:=R.v.aA;exact h.failed hd (by omega) c f2 _
 ·rw[Ux hd R.over (by simpa using b)];have d:aC {k with dk:=(aa {r with told:=ag},k.dk.2)}:=⟨a.n,a.jF,a.iF,a.rq,a.jG,a.lF,a.iW,a.nE,a.iN,a.kO,a.j5,a.jI,a.kb,a.mv,a.ca,a.st,a.ga,a.co⟩;have e:({r with told:=ag}:bd).now=r.now:=by unfold bd.now;rfl
  have:=Zh (k:={k with dk:=(aa {r with told:=ag},k.dk.2)}) (r:={r with told:=ag}) (h.told hd k.dk.2) d rfl rfl k.dk.2;rw[e]at this;exact this
end
theorem gH.back {q:Nat×bL} (h:gH q) (k:Int):gH (kJ q k):=by
 unfold kJ;split
 ·rename_i hk;obtain⟨p,f⟩:=jf.1 hk;have d:=Bf h.one f;have hd:=h.drop k;have j:=X2 h hk;refine⟨?_,?_,?_,h.kH⟩
  ·simp only[eI,np,List.map_nil];refine jO.2 ⟨hd.one,by simp,λa i b g=>?_⟩;simp only[gJ]at g;rintro rfl;obtain⟨e,c,rfl⟩:=ck.1 i;have:=(ij.1 c).2;simp only[decide_eq_true_eq]at this;exact this g
  ·intro e c;rcases eG.1 c with c|c
   ·exact hd.iD e c
   ·simp only[gJ]at c;subst c;simp only[d];exact h.iD _ f
  ·simp only[cG,rW];have:=h.room;omega
 ·exact h
theorem Te (q:Nat×bL) (k:Int):(kJ q k).1=q.1:=by unfold kJ;split<;>rfl
theorem gH.db {q:Nat×bL} (h:gH q):gH (ly q)/\(ly q).1=q.1:=by
 unfold ly;split
 ·exact⟨h.back _,Te ..⟩
 ·exact⟨h,rfl⟩
section
variable {n:Nat} {x:RS}
theorem dg.set (h:dg n x) {i:Nat} (hi:i<x.length) {q:Nat×bL} (l:∀k,cX q k=cX x[i] k) (m:gH q) (d:q.1=x[i].1):dg n (x.set i q):=by
 have c:∀j k,cf (x.set i q) j k=cf x j k:=by
  intro j k;rw[uQ hi];split
  ·rename_i e;subst e;rw[l,l8 hi]
  ·rfl
 refine⟨by simp[h.len],λk a b d g=>?_,λe f=>?_⟩
 ·rw[c]at d g;exact h.one k a b d g
 ·rcases i7 f with f|rfl
  ·exact h.v e f
  ·exact⟨m,by rw[d];exact(h.at hi).2⟩
theorem dg.back (h:dg n x) (k:Int):dg n (va x k):=by
 unfold va;rcases sN x k with⟨b,c⟩|⟨i0,a,b,c⟩
 ·rw[b];exact h
 ·rw[b];simp only[if_true,bQ];rw[jD a];exact h.set a (λj=>by rw[DY]) ((h.at a).1.back k) (Te ..)
theorem dg.pick (h:dg n x) (c:Int):dg n (o5 x c):=by
 unfold o5;split
 ·rename_i b;obtain⟨i0,a,rfl⟩:=oW b;rw[jD a,bQ];exact h.set a (λj=>by rw[IM]) (h.at a).1.db.1 (h.at a).1.db.2
 ·exact h
theorem dg.Ti (h:dg n x) (c p k:Int):dg n (jE x c p k):=by
 by_cases he:qc x c p k=0
 ·exact h.put he
 ·unfold jE;rw[af he];exact h
end
structure kX (n:Nat) (Q:QL):Prop where
 len:Q.length=n+1
 one:∀v,ct Q v<=1
 iD:∀v,0<ct Q v->1<=v/\v<=32
section
variable {n:Nat} {Q:QL}
theorem kX.queue (h:kX n Q) (c:Int):kX n (tR Q c):=by
 unfold tR;split
 ·rename_i f;obtain⟨i,hi,rfl,b⟩:=uN f (by omega);split
  ·rename_i j g;have a:=g;unfold uJ at a;have l:=aL (pI (p:=λ(k:Nat)=>decide (ct Q ((k:Int)+1)=0)) a);have m:=cD.1 (pH a);rw[b,o0 hi];refine⟨by simp[h.len],λv=>?_,λv d=>?_⟩
   ·rw[Dk hi];have:=h.one v;split
    ·rename_i e;subst e;omega
    ·omega
   ·rw[Dk hi]at d;split at d
    ·rename_i e;subst e;omega
    ·exact h.iD v (by omega)
  ·exact h
 ·exact h
theorem kX.less (h:kX n Q) {i:Nat} (hi:i<Q.length) {l:List Int} (b:∀v,l.count v<=Q[i].count v):kX n (Q.set i l):=by
 have a:∀v,ct (Q.set i l) v<=ct Q v:=λv=>by have:=pP hi l v;have:=b v;omega
 exact⟨by simp[h.len],λv=>aW (a v) (h.one v),λv c=>h.iD v (jM c (a v))⟩
theorem kX.drop (h:kX n Q) (v:Int):kX n (oI Q v):=by
 unfold oI;rcases K1 h.one v with⟨e,_⟩|⟨i,hi,a,e,_⟩
 ·rw[e];exact h
 ·rw[e];simp only;rw[D0,o0 hi];exact h.less hi (λu=>(List.erase_sublist).count_le u)
theorem kX.take (h:kX n Q) (c:Int):kX n (qg Q c):=by
 unfold qg;split
 ·split
  ·exact h.drop _
  ·exact h.drop _
  ·exact h
 ·exact h
theorem kX.unbind (h:kX n Q) (c:Int):kX n (mr Q c):=by
 unfold mr;split
 ·rename_i j;obtain⟨i,hi,rfl,d⟩:=uN j (by omega);have e:i≠0:=by unfold cY at j;omega
  rw[o0 hi,d];split
  ·rename_i a l o;have f:0<Q.length:=by omega
   have p:da Q (-1)=Q[0]:=o0 (i:=0) f
   have b:∀v,ct ((Q.set i l).set 0 (da Q (-1)++[a])) v=ct Q v:=by
    intro v;have m:=pP hi l v;have g:=pP (L:=Q.set i l) (i:=0) (by simpa using f) (da Q (-1)++[a]) v;rw[p]at g⊢;have q:(Q.set i l)[0]'(by simpa using f)=Q[0]:=rQ e _;rw[q,ni,uo]at g;rw[o,List.count_cons]at m;simp only[beq_iff_eq]at m g;omega
   exact⟨by simp[h.len],λv=>by rw[b];exact h.one v,λv r=>h.iD v (by rw[<-b v];exact r)⟩
  ·exact h
 ·exact h
end
section
variable {k:K}
theorem aC.FV (h:aC k):kX k.n k.wk:=⟨h.jI,h.kb,h.mv⟩
theorem aC.sI (h:aC k) {th:TX} (a:th.1=k.th.1) (b:th.2.length=k.th.2.length):aC {k with th:=th}:=⟨h.n,by rw[<-h.jF,<-a],by rw[<-h.iF,<-b],h.rq,h.jG,h.lF,h.iW,h.nE,h.iN,h.kO,h.j5,h.jI,h.kb,h.mv,h.ca,h.st,h.ga,h.co⟩
theorem aC.vb (h:aC k) {rq:RS} (a:dg k.n rq):aC {k with rq:=rq}:=⟨h.n,h.jF,h.iF,a,h.jG,h.lF,h.iW,h.nE,h.iN,h.kO,h.j5,h.jI,h.kb,h.mv,h.ca,h.st,h.ga,h.co⟩
theorem aC.zn (h:aC k) {tm:cI} (a:tm.n=k.tm.n) (b:tm.t.length=k.tm.t.length) (c:tm.now=k.tm.now):aC {k with tm:=tm}:=⟨h.n,h.jF,h.iF,h.rq,a.trans h.jG,b.trans h.lF,c.trans h.iW,h.nE,h.iN,h.kO,h.j5,h.jI,h.kb,h.mv,h.ca,h.st,h.ga,h.co⟩
theorem aC.JB (h:aC k) (o:Int->Option Int):aC {k with own:=o}:=⟨h.n,h.jF,h.iF,h.rq,h.jG,h.lF,h.iW,h.nE,h.iN,h.kO,h.j5,h.jI,h.kb,h.mv,h.ca,h.st,h.ga,h.co⟩
theorem aC.ZR (h:aC k) {ir:ch} (a:ir.1=k.ir.1) (b:ir.2.length=k.ir.2.length):aC {k with ir:=ir}:=⟨h.n,h.jF,h.iF,h.rq,h.jG,h.lF,h.iW,a.trans h.nE,b.trans h.iN,h.kO,h.j5,h.jI,h.kb,h.mv,h.ca,h.st,h.ga,h.co⟩
theorem aC.TA (h:aC k) {rt:dh} (a:rt.1=k.rt.1) (b:rt.2.length=k.rt.2.length):aC {k with rt:=rt}:=⟨h.n,h.jF,h.iF,h.rq,h.jG,h.lF,h.iW,h.nE,h.iN,a.trans h.kO,b.trans h.j5,h.jI,h.kb,h.mv,h.ca,h.st,h.ga,h.co⟩
theorem aC.FU (h:aC k) {wk:QL} (a:kX k.n wk):aC {k with wk:=wk}:=⟨h.n,h.jF,h.iF,h.rq,h.jG,h.lF,h.iW,h.nE,h.iN,h.kO,h.j5,a.len,a.one,a.iD,h.ca,h.st,h.ga,h.co⟩
theorem aC.G3 (h:aC k) {ca:CS} (a:ca.2.length=k.ca.2.length):aC {k with ca:=ca}:=⟨h.n,h.jF,h.iF,h.rq,h.jG,h.lF,h.iW,h.nE,h.iN,h.kO,h.j5,h.jI,h.kb,h.mv,a.trans h.ca,h.st,h.ga,h.co⟩
theorem aC.Fx (h:aC k) {st:KS} (a:st.2.length=k.st.2.length):aC {k with st:=st}:=⟨h.n,h.jF,h.iF,h.rq,h.jG,h.lF,h.iW,h.nE,h.iN,h.kO,h.j5,h.jI,h.kb,h.mv,h.ca,a.trans h.st,h.ga,h.co⟩
theorem aC.AG (h:aC k) {ga:iY} (a:ga.1.length=k.ga.1.length):aC {k with ga:=ga}:=⟨h.n,h.jF,h.iF,h.rq,h.jG,h.lF,h.iW,h.nE,h.iN,h.kO,h.j5,h.jI,h.kb,h.mv,h.ca,h.st,a.trans h.ga,h.co⟩
theorem aC.uA (h:aC k) {co:List dV} (a:co.length=k.co.length):aC {k with co:=co}:=⟨h.n,h.jF,h.iF,h.rq,h.jG,h.lF,h.iW,h.nE,h.iN,h.kO,h.j5,h.jI,h.kb,h.mv,h.ca,h.st,h.ga,a.trans h.co⟩
theorem aC.tS (h:aC k) (on ac:BV) (lim:Int) (sp:BV×BV) (dk:bY):aC {k with on:=on,ac:=ac,lim:=lim,sp:=sp,dk:=dk}:=⟨h.n,h.jF,h.iF,h.rq,h.jG,h.lF,h.iW,h.nE,h.iN,h.kO,h.j5,h.jI,h.kb,h.mv,h.ca,h.st,h.ga,h.co⟩
theorem aC.uF (h:aC k) (dk:bY):aC {k with dk:=dk}:=h.tS k.on k.ac k.lim k.sp dk
theorem zo (x:cI) (c d:Int):(im x c d).n=x.n/\(im x c d).t.length=x.t.length/\(im x c d).now=x.now:=by
 unfold im
 repeat' split
 all_goals simp
theorem zp (x:cI) (c:Int):(kv x c).n=x.n/\(kv x c).t.length=x.t.length/\(kv x c).now=x.now:=by
 unfold kv uB;split<;>simp
theorem Kz (x:cI) (c:Int):(gx x c).n=x.n/\(gx x c).t.length=x.t.length/\(gx x c).now=x.now:=by
 unfold gx uB
 repeat' split
 all_goals simp
theorem KA (x:cI) (c d:Int):(gV x c d).n=x.n/\(gV x c d).t.length=x.t.length/\(gV x c d).now=x.now:=by
 unfold gV
 repeat' split
 all_goals simp
theorem Qi (s:ch) (n:Int) (q:Iq):(ky s n q).1=s.1/\(ky s n q).2.length=s.2.length:=by unfold ky;simp
theorem aC.yp (h:aC k) (n:Int) (q:Iq):aC {k with ir:=ky k.ir n q}:=h.ZR (Qi ..).1 (Qi ..).2
theorem Oh (co:List dV) (c a b:Int):(mN co c a b).length=co.length/\(eY co c a).length=co.length:=by
 unfold mN eY;constructor<;>split<;>simp
theorem aC.EM (h:aC k) (id near:Int):aC (jB k id near):=(h.vb (h.rq.Ti _ _ _)).sI (JG ..) (JH ..)
theorem aC.Sc (h:aC k) (id:Int):aC (iz k id):=by
 unfold Dav.iz;split
 ·exact h
 ·exact(h.vb (h.rq.take id)).EM _ _
theorem aC.Jb (h:aC k) (n near:Int):aC (iw k n near):=h.TA (zb ..).1 (zb ..).2
theorem aC.Lz (h:aC k) (n:Int):aC (gZ k n):=by
 unfold Dav.gZ;split
 ·exact h.Jb _ _
 ·exact h
theorem aC.Tp (h:aC k) (t:Int):aC (yO k t):=(h.zn (zp ..).1 (zp ..).2.1 (zp ..).2.2).JB _
theorem aC.UR (h:aC k) (id:Int):aC (ub k id):=(h.sI (UO ..) (UP ..)).EM _ _
end
theorem aC.A0:∀{k:K} (l:List Int),aC k->aC (l.foldl iz k)
 | k,[],h=>h
 | k,a::l,h=>aC.A0 l (h.Sc a)
theorem aC.xj:∀{k:K} (l:List Int),aC k->aC (l.foldl gZ k)
 | k,[],h=>h
 | k,a::l,h=>aC.xj l (h.Lz a)
theorem aC.leads (c:Int):∀{k:K} (l:List Int),aC k->aC (l.foldl (λk n=>Dav.iw k n c) k)
 | k,[],h=>h
 | k,a::l,h=>aC.leads c l (h.Jb a c)
section
variable {k:K}
theorem RM {a d:Int} (h:(bH a d).2=0):bD a/\0<=d/\(bH a d).1=a+d/\bD (a+d):=by
 unfold bH at h⊢;unfold bD;split at h
 ·rename_i h1;split at h
  ·rename_i b;rw[aj h1,aj b];exact⟨h1.1,h1.2.1,rfl,by omega,by omega⟩
  ·cases h
 ·cases h
theorem aC.tick (h:aC k) (n:Int):aC (sJ k n):=by
 unfold sJ;split
 ·rename_i a;obtain⟨_,p1,p2,b⟩:=RM a
  have e:oM k.tm (bH k.now n).1={k.tm with now:=(bH k.now n).1}:=by
   unfold oM tG;rw[aj (by rw[aj ⟨by rw[h.iW];omega,by rw[p2];exact b⟩])]
  rw[e];exact⟨h.n,h.jF,h.iF,h.rq,h.jG,h.lF,rfl,h.nE,h.iN,h.kO,h.j5,h.jI,h.kb,h.mv,h.ca,h.st,h.ga,h.co⟩
 ·exact h
theorem aC.spawn (h:aC k) (p:Int) (m:BV):aC (rA k p m):=by
 unfold rA;split
 ·exact(h.sI (Ki ..) (Kj ..)).EM _ _
 ·exact h.sI (Ki ..) (Kj ..)
theorem aC.sleep (h:aC k) (id:Int) (x:Th) (n:Int):aC (ry k id x n):=by
 unfold ry;split
 ·have a:=h.zn (zo k.tm (jh k x) (bH k.now n).1).1 (zo k.tm (jh k x) (bH k.now n).1).2.1 (zo k.tm (jh k x) (bH k.now n).1).2.2;split
  ·exact((a.JB _).vb (h.rq.take id)).sI (aev ..) (aew ..)
  ·exact a
 ·exact h
theorem aC.exit (h:aC k) (id:Int) (x:Th):aC (qM k id x):=by
 unfold qM;split
 ·exact(h.Tp _).sI (Ph ..) (Pj ..)
 ·exact(h.vb (h.rq.take id)).sI (Ph ..) (Pj ..)
theorem aC.FE (h:aC k) (e:cu):aC (iV k e):=by
 unfold iV
 dsimp only
 repeat' split
 ·exact h
 ·exact h
 ·exact h.exit _ _
 ·exact(h.sI (Gq ..) (Gr ..)).Sc _
 ·exact h.sI (Gq ..) (Gr ..)
 ·exact h
 ·exact h.sleep _ _ _
 ·exact h.vb (h.rq.back _)
 ·exact(h.Tp _).UR _
theorem aC.irq (h:aC k) (e:cu):aC (pU k e):=by
 have a:aC {k with ir:=mV k.ir e.2.2.1 e.2.2.2.1}:=by unfold mV;split;exact h.yp _ _;exact h
 have c:aC {k with ir:=se k.ir e.2.2.1}:=by unfold se;split;exact h.yp _ _;exact h
 have d:aC {k with ir:=qu k.ir e.2.2.1 e.2.2.2.1}:=by unfold qu;split;exact h.yp _ _;exact h
 have f:∀b,aC {k with ir:=pR k.ir e.2.2.1 b}:=λb=>by unfold pR;split;exact h.yp _ _;exact h
 have g:aC {k with ir:=u0 k.ir e.2.2.1}:=by unfold u0;split;exact h.yp _ _;exact h
 unfold pU
 repeat' split
 ·exact a.Jb _ _
 ·exact a
 ·exact c.TA (SN ..).1 (SN ..).2
 ·exact c
 ·exact d.Lz _
 ·exact d
 ·exact f _
 ·exact f _
 ·exact g
theorem aeI (x:KS) (c:Int):(rX x c).2.length=x.2.length:=by unfold rX;split<;>simp
theorem aeJ (x:KS) (c v:Int):(rv x c v).2.length=x.2.length:=by unfold rv;split<;>simp
theorem Ua (x:KS) (c:Int):(jT x c).2.length=x.2.length:=by unfold jT;split<;>simp
theorem Xb (x:CS) (c:Int):(lD x c).2.length=x.2.length:=by
 unfold lD
 repeat' split
 all_goals simp
theorem Xc (x:CS) (c:Int):(kT x c).2.length=x.2.length:=by
 unfold kT
 repeat' split
 all_goals simp
theorem W8 (x:CS) (c d:Int):(iA x c d).2.length=x.2.length:=by
 unfold iA iR
 repeat' split
 all_goals simp
theorem aC.arm (h:aC k) (c n:Int):aC (tj k c n):=by
 unfold tj;split
 ·exact h.zn (zo ..).1 (zo ..).2.1 (zo ..).2.2
 ·exact h
theorem aC.Ta (h:aC k) (e:cu):aC (jY k e):=by
 unfold jY
 repeat' split
 ·exact h
 ·exact h.arm _ _
 ·exact h.FU (h.FV.queue _)
 ·exact h.G3 (Xb ..)
 ·exact h.Fx (aeI ..)
 ·exact h.Fx (aeJ ..)
 ·refine h.AG ?_;unfold tC;split<;>simp
theorem aC.VK (h:aC k):aC (nu k):=by
 unfold nu
 repeat' split
 ·exact h
 ·exact(h.vb ((h.rq.take _).Ti _ _ _)).sI (JG ..) (JH ..)
 ·exact h
theorem aC.request (h:aC k) (up:Bool) (c:Int):aC (iC k up c):=by
 unfold iC
 repeat' split
 any_goals exact h
 have e:(uc k.ga).1.length=k.ga.1.length:=by unfold uc;split<;>rfl
 exact(h.AG e).uF _
theorem aC.cancel (h:aC k) (id:Int):aC (tu k id):=by
 unfold tu
 repeat' split
 any_goals exact h
 exact h.zn (zp ..).1 (zp ..).2.1 (zp ..).2.2
theorem aC.J3 (h:aC k) (e:cu):aC (j4 k e):=by
 unfold j4
 repeat' split
 ·exact h.cancel _
 ·exact h
 ·exact h.uF _
 ·refine h.AG ?_;unfold tK;split<;>simp
 ·unfold wq;split
  ·exact h.tS k.on k.ac _ k.sp k.dk
  ·exact h
 ·exact h
 ·exact h.VK
 ·exact h
theorem aC.YI (h:aC k) (c:Int):aC (fN k c):=by
 have a:aC {k with tm:=gx k.tm c,own:=sv k.own (dM k.tm c).1}:=(h.zn (Kz ..).1 (Kz ..).2.1 (Kz ..).2.2).JB _;unfold fN
 dsimp only
 split
 ·exact a.UR _
 ·exact a
theorem aC.Kv (h:aC k) (c w:Int):aC (gB k c w):=by
 unfold gB
 repeat' split
 ·exact h.G3 (Xc ..)
 ·unfold mM;split
  ·exact h.yp _ _
  ·exact h
 ·exact h.YI _
 ·exact h.FU (h.FV.take _)
 ·exact h.vb (h.rq.pick _)
theorem aC.alw (h:aC k) (u:Bool) (s c:Int):aC (nU k u s c):=by
 unfold nU
 repeat' split
 ·exact h.uA (Hb ..)
 ·exact h.tS k.on _ k.lim k.sp k.dk
 ·exact h
theorem aC.XC (h:aC k) (s c:Int):aC (nz k s c):=by
 unfold nz
 repeat' split
 ·exact h.uA (Hb ..)
 ·exact h.Fx (Ua ..)
 ·exact aC.xj _ (aC.A0 _ (h.tS _ _ k.lim k.sp k.dk))
theorem aC.leave (h:aC k) (s c w:Int):aC (fO k s c w):=by
 unfold fO
 repeat' split
 ·exact h.tS k.on _ k.lim k.sp k.dk
 ·unfold iL;split
  ·exact h
  ·exact(h.vb (h.rq.take _)).EM _ _
 ·exact h.zn (KA ..).1 (KA ..).2.1 (KA ..).2.2
 ·exact h.FU (h.FV.unbind _)
 ·exact h.G3 (W8 ..)
 ·unfold nD
  repeat' split
  ·exact h.tS k.on k.ac k.lim _ k.dk
  ·have a:=aC.leads c (iQ k.rt c) h;exact a.tS _ _ _ _ _
  ·exact h
 ·exact h.Fx (Ua ..)
 ·exact h
 ·exact aC.uA (h.tS (ls k.on c) k.ac k.lim k.sp k.dk) (Hb k.co c ae)
theorem aC.bZ (h:aC k) (s:Int×Bool×Bool) (c w:Int):aC (fm k s c w):=by
 unfold fm
 repeat' split
 ·exact h.alw _ _ _
 ·refine h.AG ?_;unfold oQ;split<;>rfl
 ·exact h.XC _ _
 ·exact h.leave _ _ _
theorem aC.db (h:aC k) (w:Int):aC (jH k w):=by
 have a:aC (gC k w):=by
  unfold gC
  dsimp only
  split
  ·exact h.uF _
  ·split
   ·exact((h.uF _).bZ _ _ _).uF _
   ·exact(h.uF _).bZ _ _ _
 unfold jH;split
 ·exact aC.AG (a.uF (vT (gC k w).dk)) (ga:=vY (gC k w).ga) rfl
 ·exact a
theorem aC.step (h:aC k) (c:Int):aC (bG k c):=by
 unfold bG
 repeat' split
 ·exact h
 ·exact h.uA (Oh k.co c k.now 0).2
 ·exact h.tS k.on k.ac k.lim _ k.dk
 ·exact h.db _
 ·exact h.uA (Oh ..).1
 ·exact h.Kv _ _
theorem aC.vQ (h:aC k) (e:cu):aC (cT k e):=by
 unfold cT
 repeat' split
 ·exact h
 ·exact h.step _
 ·exact h.tick _
 ·exact h.spawn _ _
 ·exact h.FE _
 ·exact h.irq _
 ·exact h.FU (h.FV.queue _)
 ·exact h.Ta _
 ·exact h.Ta _
 ·exact h.request _ _
 ·exact h.J3 _
end
section
variable {k:K}
theorem XA (co:List dV) (c cC now d:Int):(bg (mN co c cC now) d).pw=(bg co d).pw:=by
 unfold mN;split
 ·rename_i h;rw[yj h.1];split
  ·rename_i e;subst e;rfl
  ·rfl
 ·rfl
theorem XB (co:List dV) (c now d:Int):(bg (eY co c now) d).pw=(bg co d).pw:=by
 unfold eY;split
 ·rename_i h;rw[yj h.1];split
  ·rename_i e;subst e;rfl
  ·rfl
 ·rfl
theorem aI.uA (h:aI k) {co:List dV} (a:∀d,(bg co d).pw=(bg k.co d).pw):aI {k with co:=co}:=⟨h.dk,λc b e=>by simp only;rw[a];exact h.pw c b e,h.tq,h.tm,h.q,h.t,h.w,h.c,h.i,h.o,h.ci,h.ki⟩
theorem aI.Vg (h:aI k) (c:Int):aI {k with sp:=(lC k.sp c).2}:=by
 unfold lC;split
 ·rename_i a
  have b:k.sp.1≠0:=by
   intro e;unfold b9 at a;rw[e,oS,je]at a;simp at a
  refine⟨⟨h.dk.an,h.dk.ao,h.dk.eb,h.dk.free,λr d=>?_,λe=>absurd e b⟩,h.pw,h.tq,h.tm,h.q,h.t,h.w,h.c,h.i,h.o,h.ci,h.ki⟩;have R:=h.dk.cZ r d;exact⟨R.v,R.over,R.ne,R.ax,R.au,R.eb,R.g0,R.g1,R.mD,R.tX⟩
 ·exact h
theorem Hn {x:cI} {c a:Int} (h:a∈mq x.now x.t c):∃p,bE x.t a=aa p/\p.1=c/\p.2<=x.now:=by
 unfold mq at h;obtain⟨p,d,b⟩:=lq.1 ((tg (ji ..)).1 h);simp only[aY,decide_eq_true_eq]at b;exact⟨p,d,b.1,b.2⟩
theorem S5 (h:aI k):k.own 0=ah:=by
 cases b:k.own 0 with
 | none=>rfl
 | some j=>
  obtain⟨_,c,_⟩:=h.tm.a 0 j b;obtain⟨p,d⟩:=lU.1 c;have:=zm d;omega
theorem Po (h:aI k) {c:Int} (b:(dM k.tm c).1=0) (a:gx k.tm c=k.tm):aI (fN k c):=by
 unfold fN
 dsimp only
 rw[b,a,S5 h];rw[af (by simp)]
 have e:sv k.own 0=k.own:=by
  funext j;unfold sv;split
  ·rename_i e;rw[e,S5 h]
  ·rfl
 rw[e];exact h
theorem YK (h:aI k) (y:aC k) (c:Int):aI (fN k c):=by
 by_cases d:dT k.tm c
 ·cases g:mq k.tm.now k.tm.t c with
  | nil=>exact Po h (by unfold dM;rw[aj d,g]) (by unfold gx;rw[aj d,g])
  | cons a l=>
   have z:(dM k.tm c).1=a:=by unfold dM;rw[aj d,g]
   obtain⟨p,A,_⟩:=Hn (x:=k.tm) (c:=c) (a:=a) (by rw[g];simp);have B:gx k.tm c=kv k.tm a:=by unfold gx kv;rw[aj d,g];simp only;rw[A]
   have m:=λj=>xM k.tm a j;unfold fN
   dsimp only
   rw[z,B]
   cases n:k.own a with
   | none=>
    rw[af (by simp)]
    have e:sv k.own a=k.own:=by
     funext j;unfold sv;split
     ·rename_i e;rw[e,n]
     ·rfl
    rw[e];refine⟨h.dk,h.pw,h.tq,⟨λt j f=>?_,h.tm.b,h.tm.c⟩,h.q,h.t.gone m,h.w,h.c,h.i,h.o,h.ci,h.ki⟩;obtain⟨r,s,u⟩:=h.tm.a t j f;refine⟨r,?_,u⟩;simp only;rw[m,af (λe=>by rw[e,n]at f;cases f)]
    exact s
   | some id=>
    obtain⟨r,s,u,x,C,D,E⟩:=h.tm.a a id n;rw[aj (by simp;omega)];have:=Tr h y C D;rw[E]at this;exact this
 ·exact Po h (by unfold dM;rw[af d]) (by unfold gx;rw[af d])
theorem aI.Kv (h:aI k) (a:aC k) (c w:Int):aI (gB k c w):=by
 unfold gB;split
 ·exact⟨h.dk,h.pw,h.tq,h.tm,h.q,h.t,h.w,agL h.c c,h.i,h.o,(h.ci.Uh c).2.2.1,h.ki⟩
 ·split
  ·exact⟨h.dk,h.pw,h.tq,h.tm,h.q,h.t,h.w,h.c,h.i.same (Xn a.iN _),h.o,h.ci,h.ki⟩
  ·split
   ·exact YK h a c
   ·split
    ·exact⟨h.dk,h.pw,h.tq,h.tm,h.q,h.t,agk h.w c,h.c,h.i,h.o,h.ci,h.ki⟩
    ·exact acz h c
theorem alV {f:Fl} (h:ef f=3):f.2.2.1=ag:=by
 unfold ef at h
 repeat' split at h
 all_goals first
  | omega
  | assumption
theorem abX {pw idle:Bool} {f:Fl} (h:tv pw idle f=3):f.2.2.1=ag:=by
 unfold tv at h;split at h
 ·omega
 ·split at h
  ·exact alV h
  ·split at h<;>omega
theorem aI.step (h:aI k) (b:aC k) (c:Int):aI (bG k c):=by
 unfold bG;split
 ·exact h
 ·split
  ·exact h.uA λd=>XB ..
  ·split
   ·exact h.Vg c
   ·split
    ·rename_i f;have:=abX f;unfold dY at this;simp only[aY,decide_eq_true_eq]at this;obtain⟨a,g⟩:=this
     cases hd:k.dk.1 with
     | none=>unfold dE at a;rw[hd]at a;cases a
     | some r=>
      have e:mO k.dk=r.ax:=by unfold mO;rw[hd]
      rw[<-g,e];exact agY h b hd
    ·split
     ·exact h.uA λd=>XA ..
     ·exact h.Kv b _ _
theorem aI.J3 (h:aI k) (a:aC k) (e:cu):aI (j4 k e):=by
 unfold j4;split
 ·exact Xg h _
 ·split
  ·exact h
  ·split
   ·exact acI h _
   ·split
    ·have b:(tK k.ga e.2.1).2=k.ga.2:=by unfold tK;split<;>rfl
     exact⟨by simp only;rw[b];exact h.dk,h.pw,h.tq,h.tm,h.q,h.t,h.w,h.c,h.i,h.o,h.ci,h.ki⟩
    ·split
     ·unfold wq;split
      ·exact⟨h.dk,h.pw,h.tq,h.tm,h.q,h.t,h.w,h.c,h.i,h.o,h.ci,h.ki⟩
      ·exact h
     ·split
      ·exact h
      ·split
       ·exact VQ h a
       ·exact h
theorem aI.vQ (h:aI k) (a:aC k) (e:cu):aI (cT k e):=by
 unfold cT;split
 ·split
  ·exact h
  ·exact h.step a _
 ·split
  ·exact agK h _
  ·split
   ·exact aeE h a _ _
   ·split
    ·rename_i he;exact agI h a e he
    ·split
     ·exact ZU h a e
     ·split
      ·split
       ·exact⟨h.dk,h.pw,h.tq,h.tm,h.q,h.t,Tn h.w (.inl rfl),h.c,h.i,h.o,h.ci,h.ki⟩
       ·exact Tc h a e
      ·split
       ·exact Tc h a e
       ·split
        ·exact adp h a _ _
        ·exact h.J3 a e
end
theorem SG {n:Nat} (g:1<=n/\n<=64):aC (dF n):=by
 have h:∀(i:Nat) (j:Int),cf (aD n ((32:Nat),([]:bL))) i j=ae:=by
  intro i j
  cases d:cf (aD n ((32:Nat),([]:bL))) i j with
  | false=>rfl
  | true=>
   have hi:=wu d;rw[l8 hi]at d;simp[cX]at d
 have c:∀v,ct (gQ n) v=0:=λv=>by unfold gQ;exact vO _ _
 refine⟨g,rfl,by simp[dF],⟨by simp[dF],λj a b e m=>?_,λq f=>?_⟩,rfl,by simp[dF],rfl,rfl,by simp[dF],rfl,by simp[dF],by simp[dF,gQ],λv=>?_,λv l=>?_,by simp[dF,lu],by simp[dF,Dav.ma],by simp[dF],by simp[dF]⟩
 ·have:=h a j;rw[show(dF n).rq=aD n (32,[])from rfl]at e;rw[this]at e;cases e
 ·rw[show(dF n).rq=aD n (32,[])from rfl]at f;obtain⟨_,rfl⟩:=List.mem_replicate.1 f;exact⟨gH.new (by omega),rfl⟩
 ·rw[show(dF n).wk=gQ n from rfl,c];omega
 ·rw[show(dF n).wk=gQ n from rfl,c]at l;omega
theorem abS {n:Nat} (u:1<=n/\n<=64):aI (dF n):=by
 have a:∀c:Int,hs (br n) c=decide (0<=c/\c<(n:Int)):=λc=>by
  rw[uL,ig];simp only[aY,decide_eq_true_eq];omega
 have q:∀v,ct (gQ n) v=0:=λv=>by unfold gQ;exact vO _ _
 have l:∀(i:Nat) (j:Int),cf (aD n ((32:Nat),([]:bL))) i j=ae:=by
  intro i j
  cases f:cf (aD n ((32:Nat),([]:bL))) i j with
  | false=>rfl
  | true=>
   have hi:=wu f;rw[l8 hi]at f;simp[cX]at f
 refine⟨⟨?_,λc h=>h,λc h=>?_,λ_=>⟨rfl,rfl,rfl⟩,λr s=>(by cases s),λ_=>rfl⟩,λc b o=>?_,⟨λid c h=>?_,λid t h=>?_,λid t h=>?_⟩,⟨λt id h=>(by cases h),λid x h=>?_,λid x h=>?_⟩,λid c h=>?_,λt p h=>?_,λc v b h=>?_,λc v b h=>?_,λm b o h=>?_,λc v b h=>?_,CI.new,KI.new ?_⟩
 ·intro e;have:=a 0;rw[show br n=0 from e,je]at this;have:=aT this.symm;omega
 ·have:=a c;rw[show hs (br n) c=ag from h]at this;exact aL this.symm
 ·show(bg (aD n ⟨ag,ae,0,0⟩) c).pw=gi (br n) (ah,λ_=>ae) c;have d:c<(n:Int):=o;have g:dS (aD n (⟨ag,ae,0,0⟩:dV)) c:=⟨b,by rw[fW];exact d⟩;unfold gi bg;rw[a,decide_eq_true ⟨b,d⟩,aj g,aO,jt,aj (by omega)];rfl
 ·have:=h.2;rw[show(dF n).rq=aD n (32,[])from rfl,l]at this;cases this
 ·rw[show aR (dF n).th.2 id=ah from Fb 32 id]at h;cases h
 ·rw[show aR (dF n).th.2 id=ah from Fb 32 id]at h;cases h
 ·rw[show aR (dF n).th.2 id=ah from Fb 32 id]at h;cases h
 ·rw[show aR (dF n).th.2 id=ah from Fb 32 id]at h;cases h
 ·have:=h.2;rw[show(dF n).rq=aD n (32,[])from rfl,l]at this;cases this
 ·rw[show bE (dF n).tm.t t=ah from FH 48 t]at h;cases h
 ·rw[show da (dF n).wk c=[] by unfold da;show(gQ n).getD (ix c) []=[];unfold gQ;rw[aO,jt];split<;>rfl]at h;cases h
 ·rw[show bA (dF n).ca c=[] by unfold bA;show(lu n).2.getD c.toNat []=[];unfold lu;rw[aO,jt];split<;>rfl]at h;cases h
 ·rw[show gq (dF n).ir m=i0 by unfold gq;show(aD 16 i0).getD m.toNat i0=i0;rw[aO,jt];split<;>rfl]at h;cases h
 ·rw[show kN (dF n).st c=[] by unfold kN;show(Dav.ma n 12).2.getD c.toNat []=[];unfold Dav.ma;rw[aO,jt];split<;>rfl]at h;cases h
 ·unfold uV;omega
abbrev P3:=Int×Int×Int
structure iZ where
 n:Int
 on:BV
 ac:BV
 pw:BV
 th:List P3
 q:List P3
 tm:List P3
 ir:List P3
 wk:List P3
 ca:List P3
 kp:List P3
 busy:Bool
 up:Bool
 au:Int
 vE:Int
def cH (f n:Nat):List Int:=(bU (n+f)).map λi:Nat=>(i:Int)-(f:Int)
def cM (cs:List Int) (f:Int->List Int) (ax:Int->Int):List P3:=cs.flatMap λc=>(f c).map λid=>(id,c,ax id)
def tI (ir:ch) (rt:dh):List P3:=(gP ir).map λn=>(n,if(cF rt n).2 then(cF rt n).1 else -1,0)
def sH (th:TX):List P3:=(gT th).map λid=>(id,(dt th id).1.2.2.1,(dt th id).1.2.2.2.2.2)
def rf (k:K):BV:=tO (bI (λc=>(bg k.co c).pw) k.n)
def cA (k:K):iZ:=
 {n:=k.n,on:=k.on,ac:=k.ac,pw:=rf k,th:=sH k.th,q:=cM (cH 0 k.n) (bT k.rq) (λ_=>0),tm:=cM (cH 0 k.n) (qi k.tm) (λid=>(k.own id).getD 0),
  ir:=tI k.ir k.rt,wk:=cM (cH 1 k.n) (b8 k.wk) (λ_=>0),ca:=cM (cH 0 k.n) (cV k.ca) (λ_=>0),kp:=cM (cH 0 k.n) (qR k.st) (λ_=>0),
  busy:=dE k.dk,up:=jS k.dk,au:=jc k.dk,vE:=mO k.dk}
def gE (l:List P3) (id:Int):List P3:=l.filter λx=>x.1==id
def yl (m o:BV):Bool:=(m&&& ~~~ o)==0
def Bo (p:iZ):Bool:=!(p.ac==0)&&yl p.ac p.on&&yl p.on p.pw&&yl p.pw (br p.n)
def Bq (p:iZ) (x:P3):Bool:=if x.2.2=0 then(match gE p.q x.1 with|[y]=>y.2.1==x.2.1|_=>ae)else(gE p.q x.1).length==0
def E8 (p:iZ) (y:P3):Bool:=p.th.any λx=>x.1==y.1
def Bp (p:iZ):Bool:=p.th.all (Bq p)&&p.q.all (E8 p)
def Bs (p:iZ) (x:P3):Bool:=x.2.2==0||(match gE p.tm x.2.2 with|[y]=>y.2.2==x.1|_=>ae)
def Bt (p:iZ) (y:P3):Bool:=decide (y.2.2<=0)||p.th.any λx=>x.1==y.2.2&&x.2.2==y.1
def Br (p:iZ):Bool:=p.th.all (Bs p)&&p.tm.all (Bt p)
def lj (p:iZ) (x:P3):Bool:=hs p.ac x.2.1||(p.busy&&!p.up&&p.au==x.2.1)
def yX (p:iZ) (x:P3):Bool:=x.2.1==-1||lj p x
def yW (p:iZ):Bool:=(p.q.all (lj p)&&p.tm.all (lj p)&&p.ir.all (lj p)&&p.ca.all (lj p)&&p.kp.all (lj p))&&p.wk.all (yX p)
def Bu (p:iZ):Bool:=p.pw==p.on||(p.busy&&p.up&&p.pw==wi p.on p.au)
def pY (l:List P3):Bool:=l.all λx=>(gE l x.1).length==1
def yY (p:iZ):Bool:=pY p.tm&&pY p.ir&&pY p.wk&&pY p.ca&&pY p.kp
def Bv (p:iZ):Bool:=!p.busy||(!(p.au==p.vE)&&hs p.ac p.vE&&hs (br p.n) p.au&&(hs p.on p.au==!p.up))
theorem uR {f n:Nat} {c:Int}:c∈cH f n↔-(f:Int)<=c/\c<n:=by
 unfold cH;rw[ck];constructor
 ·rintro⟨i,hi,rfl⟩;have:=cD.1 hi;omega
 ·rintro⟨h1,a⟩;exact⟨(c+f).toNat,cD.2 (by omega),by omega⟩
theorem An (f n:Nat):(cH f n).Nodup:=by
 unfold cH;refine rR _ ?_ rS;intro a b c e;exact c (by omega)
theorem yE {cs:List Int} {f:Int->List Int} {ax:Int->Int} {x:P3}:x∈cM cs f ax↔x.2.1∈cs/\x.1∈f x.2.1/\x.2.2=ax x.1:=by
 unfold cM;rw[List.mem_flatMap];constructor
 ·rintro⟨c,b,d⟩;obtain⟨id,a,rfl⟩:=ck.1 d;exact⟨b,a,rfl⟩
 ·rintro⟨h1,e,g⟩;exact⟨x.2.1,h1,ck.2 ⟨x.1,e,by rw[<-g]⟩⟩
theorem BH {cs:List Int} {f:Int->List Int} {ax:Int->Int} (g:cs.Nodup) (h:∀c∈cs,(f c).Nodup):(cM cs f ax).Nodup:=by
 unfold cM;refine List.pairwise_flatMap.2 ⟨λc i=>rR _ (λa b d e=>d (congrArg (·.1) e)) (h c i),g.imp λ{a b} d x j y l e=>?_⟩;subst e;obtain⟨_,_,m⟩:=ck.1 j;obtain⟨_,_,n⟩:=ck.1 l;exact d ((congrArg (·.2.1) m).trans (congrArg (·.2.1) n).symm)
theorem K3 {l:List P3} (e:l.Nodup) {x:P3} (f:x∈l) (g:∀y∈l,y.1=x.1->y=x):gE l x.1=[x]:=by
 have d:(gE l x.1).Nodup:=xx _ e
 have c:∀y∈gE l x.1,y=x:=λy h=>by
  obtain⟨a,b⟩:=ij.1 h;exact g y a (by simpa using b)
 have i:x∈gE l x.1:=ij.2 ⟨f,by simp⟩
 match j:gE l x.1,d,c,i with
 | [a],_,c,_=>rw[c a (by simp)]
 | a::b::L,d,c,_=>
  rw[c a (by simp),c b (by simp)]at d;simp at d
theorem A8 {l:List P3} (b:l.Nodup) (c:∀x∈l,∀y∈l,y.1=x.1->y=x):pY l=ag:=
 fL.2 λx a=>by rw[K3 b a (c x a)];rfl
theorem al5 {l:List P3} {id:Int} (h:∀y∈l,y.1≠id):gE l id=[]:=
 List.filter_eq_nil_iff.2 λy a=>by have:=h y a;simpa using this
theorem IL {m o:BV} (h:∀c,hs m c=ag->hs o c=ag):yl m o=ag:=by
 unfold yl;rw[beq_iff_eq];refine sa λd _ _=>?_;rw[oS,je]
 cases hm:hs m d with
 | false=>rfl
 | true=>rw[h d hm];rfl
theorem aa9 {l:List Int} (h:l.Nodup) (g:Int->P3) (d:∀a,(g a).1=a):(l.map g).Nodup:=by
 refine rR _ (λa b c e=>c ?_) h;have:=congrArg (·.1) e;rw[d,d]at this;exact this
section
variable {k:K}
theorem FD {x:P3}:x∈sH k.th↔∃t,aR k.th.2 x.1=aa t/\x.2.1=t.2.2.1/\x.2.2=t.2.2.2.2.2:=by
 unfold sH;rw[ck];constructor
 ·rintro⟨id,b,rfl⟩;obtain⟨t,a⟩:=lU.1 (Jq.1 b);have e:dt k.th id=(t,0):=by unfold dt;rw[a]
  exact⟨t,a,by rw[e],by rw[e]⟩
 ·rintro⟨t,a,h1,c⟩;have e:dt k.th x.1=(t,0):=by unfold dt;rw[a]
  refine⟨x.1,Jq.2 (by rw[a];rfl),?_⟩;rw[e];exact lT rfl (lT h1.symm c.symm)
theorem yM (c:aC k) {x:P3}:x∈(cA k).q↔gN k.rq x.1 x.2.1/\x.2.2=0:=by
 show x∈cM _ _ _↔_;rw[yE,yD c.rq,uR];constructor
 ·rintro⟨_,a,b⟩;exact⟨a,b⟩
 ·rintro⟨a,b⟩;refine⟨⟨by have:=a.1;omega,?_⟩,a,b⟩;have:=wu a.2;have:=a.1;have:=c.rq.len;omega
theorem zq (h:aI k) (j:aC k) {x:P3}:x∈(cA k).tm↔(∃p,bE k.tm.t x.1=aa p/\p.1=x.2.1)/\x.2.2=(k.own x.1).getD 0:=by
 show x∈cM _ _ _↔_
 have a:∀c,x.1∈gU k.tm.t c↔∃p,bE k.tm.t x.1=aa p/\p.1=c:=λc=>by
  unfold gU;rw[tg (ji ..),lq];simp only[decide_eq_true_eq]
 rw[yE,uR];constructor
 ·rintro⟨_,b,e⟩;unfold qi at b;split at b
  ·exact⟨(a _).1 b,e⟩
  ·cases b
 ·rintro⟨⟨p,g,b⟩,e⟩
  have f:0<=x.2.1/\x.2.1<k.n:=by
   rw[<-b];rcases h.t _ p g with i|⟨r,l,_,d,_⟩
   ·exact⟨(jV i).1,h.jL _ i⟩
   ·have R:=h.dk.cZ r l;rw[<-d];exact⟨R.v.au.1,R.au⟩
  refine⟨⟨by omega,f.2⟩,?_,e⟩;unfold qi;rw[aj ⟨f.1,by rw[j.jG];exact f.2⟩];exact(a _).2 ⟨p,g,b⟩
theorem IT {x:P3}:x∈tI k.ir k.rt↔(0<=x.1/\x.1<16/\(gq k.ir x.1).1=ag)/\x.2.1=(if(cF k.rt x.1).2 then(cF k.rt x.1).1 else -1)/\x.2.2=0:=by
 unfold tI;rw[ck];constructor
 ·rintro⟨n,d,rfl⟩;obtain⟨a,b,c⟩:=fF.1 d;exact⟨⟨a,by omega,c⟩,rfl,rfl⟩
 ·rintro⟨⟨a,b,c⟩,h1,e⟩;exact⟨x.1,fF.2 ⟨a,by omega,c⟩,lT rfl (lT h1.symm e.symm)⟩
theorem K4 {x:P3} (b:x∈(cA k).wk):(-1<=x.2.1/\x.2.1<k.n)/\x.1∈da k.wk x.2.1/\x.2.2=0:=by
 obtain⟨c,a,d⟩:=yE.1 (show x∈cM _ _ _ from b);rw[uR]at c;unfold b8 at a;split at a
 ·exact⟨by omega,a,d⟩
 ·cases a
theorem G4 {x:P3} (b:x∈(cA k).ca):(0<=x.2.1/\x.2.1<k.n)/\x.1∈bA k.ca x.2.1/\x.2.2=0:=by
 obtain⟨c,a,d⟩:=yE.1 (show x∈cM _ _ _ from b);rw[uR]at c;unfold cV at a;split at a
 ·exact⟨by omega,a,d⟩
 ·cases a
theorem I6 {x:P3} (b:x∈(cA k).kp):(0<=x.2.1/\x.2.1<k.n)/\x.1∈kN k.st x.2.1/\x.2.2=0:=by
 obtain⟨c,a,d⟩:=yE.1 (show x∈cM _ _ _ from b);rw[uR]at c;unfold qR at a;split at a
 ·exact⟨by omega,a,d⟩
 ·cases a
theorem JX {Q:List (List Int)} (d:∀v,Q.flatten.count v<=1) {i j:Nat} (hi:i<Q.length) (e:j<Q.length) {v:Int} (a:v∈Q[i]) (b:v∈Q[j]):i=j:=by
 apply eV;intro c;have:=JY hi e c a b;have:=d v;unfold ct at *;omega
theorem JW {Q:List (List Int)} (a:∀v,Q.flatten.count v<=1) (i:Nat):(Q.getD i []).Nodup:=by
 by_cases hi:i<Q.length
 ·rw[aO,cO hi];exact Dj (L:=Q) a hi
 ·rw[aO,fV (by omega)];exact ju
theorem yS {Q:List (List Int)} {i:Nat} {v:Int} (h:v∈Q.getD i []):∃hi:i<Q.length,v∈Q[i]:=by
 by_cases hi:i<Q.length
 ·rw[aO,cO hi]at h;exact⟨hi,h⟩
 ·rw[aO,fV (by omega)]at h;cases h
theorem ada (a:aC k):(cA k).q.Nodup:=BH (An _ _) λc _=>Jj a.rq c
theorem Up:(cA k).tm.Nodup:=BH (An _ _) λc _=>by
 unfold qi gU;split
 ·refine(List.Perm.nodup_iff (ji ..)).2 ?_;unfold gM;refine rR _ ?_ (xx _ rS);intro a b d e;exact d (by omega)
 ·exact ju
theorem ZS:(cA k).ir.Nodup:=aa9 (sM _ _) _ λ_=>rfl
theorem al6 (a:aC k):(cA k).wk.Nodup:=BH (An _ _) λc _=>by
 unfold b8;split
 ·exact JW (Q:=k.wk) a.kb _
 ·exact ju
theorem W9 (h:aI k):(cA k).ca.Nodup:=BH (An _ _) λc _=>by
 unfold cV;split
 ·exact JW (Q:=k.ca.2) h.ci.one _
 ·exact ju
theorem aas (h:aI k):(cA k).kp.Nodup:=BH (An _ _) λc _=>by
 unfold qR;split
 ·exact JW (Q:=k.st.2) h.ki.one _
 ·exact ju
theorem yJ {x y:P3} (a:x.1=y.1) (b:x.2.1=y.2.1) (c:x.2.2=y.2.2):x=y:=lT a (lT b c)
theorem adb (a:aC k):∀x∈(cA k).q,∀y∈(cA k).q,y.1=x.1->y=x:=λx f y g e=>by
 obtain⟨c,h⟩:=(yM a).1 f;obtain⟨d,b2⟩:=(yM a).1 g;have b:=d.2;rw[e]at b;have:=a.rq.uniq b c.2;have:=c.1;have:=d.1;exact yJ e (by omega) (b2.trans h.symm)
theorem Uq (h:aI k) (a:aC k):∀x∈(cA k).tm,∀y∈(cA k).tm,y.1=x.1->y=x:=λx c y d e=>by
 obtain⟨⟨p,f,g⟩,i⟩:=(zq h a).1 c;obtain⟨⟨q,b,b2⟩,j⟩:=(zq h a).1 d;rw[e,f]at b;cases b;exact yJ e (by rw[<-b2,<-g]) (by rw[j,i,e])
theorem ZT:∀x∈(cA k).ir,∀y∈(cA k).ir,y.1=x.1->y=x:=λx a y b e=>by
 obtain⟨_,c,d⟩:=IT.1 a;obtain⟨_,f,b2⟩:=IT.1 b;exact yJ e (by rw[f,c,e]) (by rw[b2,d])
theorem al7 (d:aC k):∀x∈(cA k).wk,∀y∈(cA k).wk,y.1=x.1->y=x:=λx f y g e=>by
 obtain⟨a0,h,i⟩:=K4 f;obtain⟨m,c,b2⟩:=K4 g;rw[e]at c;obtain⟨j,a⟩:=yS (Q:=k.wk) h;obtain⟨l,b⟩:=yS (Q:=k.wk) c;have:=JX (Q:=k.wk) d.kb j l a b;unfold ix at this;exact yJ e (by omega) (b2.trans i.symm)
theorem Xa (h:aI k):∀x∈(cA k).ca,∀y∈(cA k).ca,y.1=x.1->y=x:=λx d y f e=>by
 obtain⟨a0,g,i⟩:=G4 d;obtain⟨m,c,b2⟩:=G4 f;rw[e]at c;obtain⟨j,a⟩:=yS (Q:=k.ca.2) g;obtain⟨l,b⟩:=yS (Q:=k.ca.2) c;have:=JX (Q:=k.ca.2) h.ci.one j l a b;exact yJ e (by omega) (b2.trans i.symm)
theorem aat (h:aI k):∀x∈(cA k).kp,∀y∈(cA k).kp,y.1=x.1->y=x:=λx d y f e=>by
 obtain⟨a0,g,i⟩:=I6 d;obtain⟨m,c,b2⟩:=I6 f;rw[e]at c;obtain⟨j,a⟩:=yS (Q:=k.st.2) g;obtain⟨l,b⟩:=yS (Q:=k.st.2) c;have:=JX (Q:=k.st.2) h.ki.one j l a b;exact yJ e (by omega) (b2.trans i.symm)
theorem II (d:aC k) (c:Int):hs (rf k) c=(decide (0<=c/\c<k.n)&&(bg k.co c).pw):=by
 have e:=d.n.2;unfold rf;rw[ZB,ig];simp only[aY,decide_eq_true_eq];rw[fF];constructor
 ·rintro⟨_,h1,a,b⟩;exact⟨⟨h1,a⟩,b⟩
 ·rintro⟨⟨h1,a⟩,b⟩;exact⟨⟨h1,by omega⟩,h1,a,b⟩
theorem yB {s c:Int} {x:P3} (h:bS k.ac k.dk s c) (d:x.2.1=c):lj (cA k) x=ag:=by
 unfold lj;show(hs k.ac x.2.1||(dE k.dk&&!jS k.dk&&jc k.dk==x.2.1))=ag;rw[d];rcases h with h|⟨r,b,e,a,_⟩
 ·rw[h];rfl
 ·have f:dE k.dk=ag:=by unfold dE;rw[b];rfl
  have g:jS k.dk=ae:=by unfold jS;rw[b];exact e
  have i:jc k.dk=c:=by unfold jc;rw[b];exact a
  rw[f,g,i];simp
theorem adI (h:aI k) (b:aC k):Bo (cA k)=ag:=by
 have e:=b.n;unfold Bo;rw[aY,aY,aY];refine⟨⟨⟨?_,IL h.dk.ao⟩,IL λc d=>?_⟩,IL λc d=>?_⟩
 ·show(!(k.ac==0))=ag;rw[show(k.ac==0)=ae from beq_false_of_ne h.dk.an];rfl
 ·have a:hs k.on c=ag:=d;obtain⟨c0,c1⟩:=h.dk.eb c a;show hs (rf k) c=ag;rw[II b,decide_eq_true ⟨c0,c1⟩,h.pw c c0 c1];unfold gi;rw[a];rfl
 ·have a:hs (rf k) c=ag:=d;rw[II b]at a;simp only[aY,decide_eq_true_eq]at a;show hs (br (k.n:Int)) c=ag;rw[uL,decide_eq_true (by omega),decide_eq_true (by omega)];rfl
theorem LS (h:aI k) {id:Int} {t:Th} (d:aR k.th.2 id=aa t):t.2.2.2.2.1=decide (t.2.2.2.2.2≠0):=by
 cases hs:t.2.2.2.2.1 with
 | false=>rw[h.tm.c id t d hs];rfl
 | true=>
  have e:=mX d;obtain⟨_,f,_⟩:=h.tm.a _ id (h.tm.b id t d hs (by omega));obtain⟨p,g⟩:=lU.1 f;have:=zm g;exact(decide_eq_true (by omega)).symm
theorem adJ (h:aI k) (c:aC k):Bp (cA k)=ag:=by
 unfold Bp;rw[aY,fL,fL];refine⟨λx n=>?_,λy i=>?_⟩
 ·obtain⟨t,d,o,p⟩:=FD.1 (show x∈sH k.th from n);have r:=mX d;have hs:=LS h d;unfold Bq;split
  ·rename_i j;have s:=h.tq.b x.1 t d (by rw[hs,<-p,j];rfl) (by omega);have l:(x.1,t.2.2.1,0)∈(cA k).q:=(yM c).2 ⟨s,rfl⟩;have:=K3 (ada c) l (adb c _ l);simp only at this;rw[this];simp[o]
  ·rename_i j
   have w:gE (cA k).q x.1=[]:=al5 λy i e=>by
    obtain⟨f,_⟩:=(yM c).1 i;rw[e]at f;obtain⟨u,g,_,m,_⟩:=h.tq.a _ _ f;rw[d]at g;cases g;rw[hs,decide_eq_true (by omega)]at m;cases m
   rw[w];rfl
 ·obtain⟨f,_⟩:=(yM c).1 i;obtain⟨u,g,_⟩:=h.tq.a _ _ f;unfold E8;refine mF.2 ⟨(y.1,u.2.2.1,u.2.2.2.2.2),FD.2 ⟨u,g,rfl,rfl⟩,by simp⟩
theorem adK (h:aI k) (e:aC k):Br (cA k)=ag:=by
 unfold Br;rw[aY,fL,fL];refine⟨λx l=>?_,λy m=>?_⟩
 ·obtain⟨t,f,z,n⟩:=FD.1 (show x∈sH k.th from l);have o:=mX f;have hs:=LS h f;unfold Bs;by_cases q:x.2.2=0
  ·rw[q];rfl
  ·have g:t.2.2.2.2.1=ag:=by rw[hs];exact decide_eq_true (by omega)
   have c:=h.tm.b x.1 t f g (by omega);rw[<-n]at c;obtain⟨_,r,_⟩:=h.tm.a _ _ c;obtain⟨p,s⟩:=lU.1 r;have i:(x.2.2,p.1,x.1)∈(cA k).tm:=(zq h e).2 ⟨⟨p,s,rfl⟩,by rw[c];rfl⟩;have:=K3 Up i (Uq h e _ i);simp only at this;rw[this];simp
 ·obtain⟨⟨p,A,B⟩,d⟩:=(zq h e).1 m;unfold Bt
  cases c:k.own y.1 with
  | none=>rw[c]at d;rw[d];rfl
  | some j=>
   rw[c]at d;have d:y.2.2=j:=d;obtain⟨C,b2,D,t,u,E,w⟩:=h.tm.a _ _ c;rw[eT];right;refine mF.2 ⟨(j,t.2.2.1,y.1),FD.2 ⟨t,u,rfl,w.symm⟩,?_⟩;simp[d]
theorem adL (h:aI k) (g:aC k):yW (cA k)=ag:=by
 unfold yW;rw[aY,aY,aY,aY,aY,fL,fL,fL,fL,fL,fL];refine⟨⟨⟨⟨⟨λx e=>?_,λx e=>?_⟩,λx e=>?_⟩,λx e=>?_⟩,λx e=>?_⟩,λx e=>?_⟩
 ·exact yB (h.q _ _ ((yM g).1 e).1) rfl
 ·obtain⟨⟨p,f,j⟩,_⟩:=(zq h g).1 e;exact yB (h.t _ p f) j.symm
 ·obtain⟨⟨a,b,c⟩,f,_⟩:=IT.1 (show x∈tI k.ir k.rt from e);obtain⟨d,l,m⟩:=h.i x.1 a b c;rw[l]at f;exact yB m f
 ·obtain⟨a0,f,_⟩:=G4 e;exact yB (h.c _ _ a0.1 f) rfl
 ·obtain⟨a0,f,_⟩:=I6 e;exact yB (h.o _ _ a0.1 f) rfl
 ·obtain⟨a0,f,_⟩:=K4 e;unfold yX;by_cases n:x.2.1 = -1
  ·rw[n];rfl
  ·rw[yB (h.w _ _ (by omega) f) rfl,Bool.or_true]
theorem ac6 (h:aI k) (f:aC k):rf k=k.on∨(∃r,k.dk.1=aa r/\r.up=ag/\rf k=wi k.on r.au):=by
 have key:∀c,hs (rf k) c=(decide (0<=c/\c<k.n)&&gi k.on k.dk c):=λc=>by
  rw[II f];by_cases b:0<=c/\c<(k.n:Int)
  ·rw[h.pw c b.1 b.2]
  ·rw[decide_eq_false b];rfl
 have d:∀c,(decide (0<=c/\c<(k.n:Int))&&hs k.on c)=hs k.on c:=λc=>by
  cases b:hs k.on c with
  | false=>simp
  | true=>rw[decide_eq_true (h.dk.eb c b)];rfl
 cases hd:k.dk.1 with
 | none=>
  refine .inl (sa λc _ _=>?_);rw[key];unfold gi
  rw[hd,pD,d]
 | some r=>
  have R:=h.dk.cZ r hd;by_cases hu:r.up=ag/\2<=r.aA
  ·refine .inr ⟨r,rfl,hu.1,sa λc _ _=>?_⟩;have a:=R.v.au;have e:=R.au;unfold lX at a;rw[key,oT];unfold gi;rw[hd];simp only[hu.1,decide_eq_true hu.2,dR,decide_eq_true a];by_cases b:c=r.au
   ·subst b;rw[decide_eq_true ⟨a.1,e⟩];simp
   ·rw[decide_eq_false b];simp only[Bool.and_false,pD];exact d c
  ·refine .inl (sa λc _ _=>?_);rw[key];unfold gi;rw[hd]
   have:(r.up&&decide (2<=r.aA))=ae:=by
    cases g:r.up with
    | false=>rfl
    | true=>rw[decide_eq_false (λi=>hu ⟨g,i⟩)];rfl
   simp only[this,js,pD];exact d c
theorem adM (h:aI k) (a:aC k):Bu (cA k)=ag:=by
 unfold Bu;show(rf k==k.on||(dE k.dk&&jS k.dk&&rf k==wi k.on (jc k.dk)))=ag;rcases ac6 h a with e|⟨r,hd,b,e⟩
 ·rw[e];simp
 ·have c:dE k.dk=ag:=by unfold dE;rw[hd];rfl
  have d:jS k.dk=ag:=by unfold jS;rw[hd];exact b
  have f:jc k.dk=r.au:=by unfold jc;rw[hd]
  rw[c,d,f,e];simp
theorem adN (h:aI k) (a:aC k):yY (cA k)=ag:=by
 unfold yY;rw[A8 Up (Uq h a),A8 ZS ZT,A8 (al6 a) (al7 a),A8 (W9 h) (Xa h),A8 (aas h) (aat h)];rfl
theorem adO (h:aI k) (a:aC k):Bv (cA k)=ag:=by
 unfold Bv;show(!dE k.dk||(!(jc k.dk==mO k.dk)&&hs k.ac (mO k.dk)&&hs (br (k.n:Int)) (jc k.dk)&&(hs k.on (jc k.dk)==!jS k.dk)))=ag
 cases hd:k.dk.1 with
 | none=>unfold dE;rw[hd];rfl
 | some r=>
  have R:=h.dk.cZ r hd;have b:jc k.dk=r.au:=by unfold jc;rw[hd]
  have c:mO k.dk=r.ax:=by unfold mO;rw[hd]
  have d:jS k.dk=r.up:=by unfold jS;rw[hd]
  have f:=a.n;have g:=R.v.au.1;have e:=R.au;rw[b,c,d,R.ax,R.eb,uL,decide_eq_true (by omega),decide_eq_true (by omega),show(r.au==r.ax)=ae from beq_false_of_ne R.ne];simp
end
def vq:Mt:={N:=8,keep:=[(0,[1,2]),(1,[3])],bX:=[],bk:=[],cE:=[],lk:=[],ref:=ag}
noncomputable def xI:Code:=a8 Tryz.f349
theorem VE:Tryz.f349.body=aa xI:=by kernel_rfl
theorem abp:Tryz.f349.ntmps=vq.N:=by kernel_rfl
noncomputable def Eu:List Oper:=match xI.sr.sl with|.region _ ops _=>ops.toList|_=>[]
noncomputable def QV (R:Ending->World->Prop):fe:=j6 (λE w=>jQ (jU vq.cE (iu xI.sr.sr)) Tryz.prog vq xI.sr.sr E w (j0 Tryz.prog Tryz.f349.results.toList R) λE=>den Tryz.prog vq xI.sr.sr E w (j0 Tryz.prog Tryz.f349.results.toList R)) (j0 Tryz.prog Tryz.f349.results.toList R)
set_option maxRecDepth 100000 in
theorem agi (x y z:Int) (b:Addr) (w:World) (R:Ending->World->Prop):den Tryz.prog vq xI (jv 0 [ns #[I x,I y,I z],.pointer (aa b)]) w (j0 Tryz.prog Tryz.f349.results.toList R) =
  aJ w [I x,I y,I z] 278 λp w'=>∃v,w'.cell? b=aa v/\sF Tryz.prog 8 Eu (Eu.drop 1) [(1,.v (.pointer (aa b))),(2,.v (.pointer (aa p))),(4,.v v)] w' λE w'=>QV R .fA (E.keep (kE vq.keep 1)) w':=by kernel_rfl
set_option maxRecDepth 100000 in
theorem agx (g:Nat) (fs cs:Array Value) (b p:Addr) (w:World) (R:Ending->World->Prop):(sF Tryz.prog 8 Eu (Eu.drop 1) [(1,.v (.pointer (aa b))),(2,.v (.pointer (aa p))),(4,.v (.func (.func g) fs cs))] w λE w'=>QV R .fA (E.keep (kE vq.keep 1)) w') =
  ∃n,w.cell? (p.add 0)=aa (I n)/\∃a,w.cell? (p.add 1)=aa (I a)/\∃d,w.cell? (p.add 2)=aa (I d)/\bif jx Tryz.prog g then Call Tryz.prog g (fs.toList++[ns #[I n,I a,I d]]++cs.toList) w λe w'=>∃b,e=Z (.bool b)/\R (.returned (.bool !b)) w'
   else ∃b w',(callFunc g (fs.toList++[ns #[I n,I a,I d]]++cs.toList).toArray).run Tryz.prog w=.ok (.value (.bool b)) w'/\R (.returned (.bool !b)) w':=by kernel_rfl
theorem Vr {g:Nat} {fs cs:Array Value} (j:jx Tryz.prog g=ag) {bx:Nat} {T:TypeId} {w:World} (hB:aM w bx [.func (.func g) fs cs] T) (x:P3) {P:Bool}
  (k:∀w',av no w w'->Cx g (fs.toList++[ns #[I x.1,I x.2.1,I x.2.2]]++cs.toList).toArray w' λe b=>e=Z (.bool P)/\av no w' b) :
  Cx 349 #[.agg #[I x.1,I x.2.1,I x.2.2],pt bx] w λe w'=>e=Z (.bool !P)/\av no w w':=by
 refine xL bu Tryz.func349 VE abp (args:=[ns #[I x.1,I x.2.1,I x.2.2],pt bx]) (dP rfl) ?_;rw[agi];refine⟨λw1 i=>?_⟩;have d:=i.ak no;have a:=i.aK;refine⟨_,(hB.ak d (λh=>h)).cm rfl,?_⟩;rw[agx];refine⟨_,a.cell rfl,_,a.cell rfl,_,a.cell rfl,?_⟩;rw[j];refine⟨(k w1 d).mono ?_⟩;rintro e m ⟨rfl,f⟩;exact⟨_,rfl,rfl,d.trans f (λ_ _ h=>h)⟩
def vr:Mt:={N:=8,keep:=[(0,[1,2]),(1,[3])],bX:=[],bk:=[],cE:=[],lk:=[],ref:=ag}
noncomputable def xJ:Code:=a8 Tryz.f351
theorem VF:Tryz.f351.body=aa xJ:=by kernel_rfl
theorem abq:Tryz.f351.ntmps=vr.N:=by kernel_rfl
noncomputable def Ev:List Oper:=match xJ.sr.sl with|.region _ ops _=>ops.toList|_=>[]
noncomputable def QW (R:Ending->World->Prop):fe:=j6 (λE w=>jQ (jU vr.cE (iu xJ.sr.sr)) Tryz.prog vr xJ.sr.sr E w (j0 Tryz.prog Tryz.f351.results.toList R) λE=>den Tryz.prog vr xJ.sr.sr E w (j0 Tryz.prog Tryz.f351.results.toList R)) (j0 Tryz.prog Tryz.f351.results.toList R)
set_option maxRecDepth 100000 in
theorem agj (x y z:Int) (b:Addr) (w:World) (R:Ending->World->Prop):den Tryz.prog vr xJ (jv 0 [ns #[I x,I y,I z],.pointer (aa b)]) w (j0 Tryz.prog Tryz.f351.results.toList R) =
  aJ w [I x,I y,I z] 75 λp w'=>∃v,w'.cell? b=aa v/\sF Tryz.prog 8 Ev (Ev.drop 1) [(1,.v (.pointer (aa b))),(2,.v (.pointer (aa p))),(4,.v v)] w' λE w'=>QW R .fA (E.keep (kE vr.keep 1)) w':=by kernel_rfl
set_option maxRecDepth 100000 in
theorem agy (g:Nat) (fs cs:Array Value) (b p:Addr) (w:World) (R:Ending->World->Prop):(sF Tryz.prog 8 Ev (Ev.drop 1) [(1,.v (.pointer (aa b))),(2,.v (.pointer (aa p))),(4,.v (.func (.func g) fs cs))] w λE w'=>QW R .fA (E.keep (kE vr.keep 1)) w') =
  ∃n,w.cell? (p.add 0)=aa (I n)/\∃a,w.cell? (p.add 1)=aa (I a)/\∃d,w.cell? (p.add 2)=aa (I d)/\bif jx Tryz.prog g then Call Tryz.prog g (fs.toList++[ns #[I n,I a,I d]]++cs.toList) w λe w'=>∃b,e=Z (.bool b)/\R (.returned (.bool !b)) w'
   else ∃b w',(callFunc g (fs.toList++[ns #[I n,I a,I d]]++cs.toList).toArray).run Tryz.prog w=.ok (.value (.bool b)) w'/\R (.returned (.bool !b)) w':=by kernel_rfl
theorem Vs {g:Nat} {fs cs:Array Value} (j:jx Tryz.prog g=ag) {bx:Nat} {T:TypeId} {w:World} (hB:aM w bx [.func (.func g) fs cs] T) (x:P3) {P:Bool}
  (k:∀w',av no w w'->Cx g (fs.toList++[ns #[I x.1,I x.2.1,I x.2.2]]++cs.toList).toArray w' λe b=>e=Z (.bool P)/\av no w' b) :
  Cx 351 #[.agg #[I x.1,I x.2.1,I x.2.2],pt bx] w λe w'=>e=Z (.bool !P)/\av no w w':=by
 refine xL bu Tryz.func351 VF abq (args:=[ns #[I x.1,I x.2.1,I x.2.2],pt bx]) (dP rfl) ?_;rw[agj];refine⟨λw1 i=>?_⟩;have d:=i.ak no;have a:=i.aK;refine⟨_,(hB.ak d (λh=>h)).cm rfl,?_⟩;rw[agy];refine⟨_,a.cell rfl,_,a.cell rfl,_,a.cell rfl,?_⟩;rw[j];refine⟨(k w1 d).mono ?_⟩;rintro e m ⟨rfl,f⟩;exact⟨_,rfl,rfl,d.trans f (λ_ _ h=>h)⟩
section
variable {w:World} {p:Option Addr} {c:Nat} {l:List P3}
theorem ZK {g:Nat} {t:Addr} (r:jx Tryz.prog g=ag) (s:Cells w p (l.flatMap dH)) (z:l.length<=100000) {P:P3->Bool} (u:∀x∈l,∀w',av no w w'->Cx g #[.agg #[I x.1,I x.2.1,I x.2.2],.pointer (aa t)] w' λe j=>e=Z (.bool (P x))/\av no w' j) :
  Cx 352 #[.slice p l.length c,.func (.func g) #[] #[.pointer (aa t)]] w λe w'=>(∃n:Int,e=Z (I n)/\decide (n>=0)=l.any P)/\av no w w':=by
 refine akR ?_;refine⟨bO bu (M:=Cf) (σ:=Nat) (λi=>O0 p l.length c g t (l.length:Int) (i:Int)) (λi w'=>i<=l.length/\(l.take i).any P=ae/\av no w w') (λi _=>l.length-i) 0 ⟨rfl,rfl,rfl,rfl,trivial⟩ ⟨cB _,rfl,av.refl _ _⟩ ?_⟩;intro i w1 hI;have hi:=hI.1;have k:=hI.2.1;have f:=hI.2.2;clear hI;rw[afE];refine⟨λg1=>?_,λg1=>?_⟩
 ·have g1:=aL g1;have b:i<l.length:=by omega
  obtain⟨a,y,m⟩:=(s.no f).qG qb (by decide) b;refine⟨⟨by omega,by omega⟩,a,y,_,m 0 _ rfl,_,m 1 _ rfl,_,m 2 _ rfl,?_⟩;rw[r];refine⟨(u l[i] (cx b) w1 f).mono ?_⟩;rintro e A ⟨rfl,o⟩;have d:=f.trans o (λ_ _ h=>h);refine⟨_,rfl,λq=>⟨⟨_,rfl,?_⟩,d⟩,λq=>⟨i+1,⟨rfl,rfl,rfl,by rw[aP (by omega)]<;>rfl,trivial⟩,⟨by omega,?_,d⟩,by omega⟩⟩
  ·rw[decide_eq_true (by omega)];exact(mF.2 ⟨l[i],cx b,q⟩).symm
  ·rw[eW b,List.any_append,k];simp only[List.any_cons,List.any_nil,pD,ur];exact q
 ·have g1:=aT g1;have:i=l.length:=by omega
  subst this;rw[dC]at k;exact⟨⟨_,rfl,by rw[k];rfl⟩,f⟩
theorem Hc {g:Nat} {t:Addr} (b:jx Tryz.prog g=ag) (d:Cells w p (l.flatMap dH)) (f:l.length<=100000) {P:P3->Bool} (h:∀x∈l,∀w',av no w w'->Cx g #[.agg #[I x.1,I x.2.1,I x.2.2],.pointer (aa t)] w' λe a=>e=Z (.bool (P x))/\av no w' a) :
  Cx 283 #[.slice p l.length c,.func (.func g) #[] #[.pointer (aa t)]] w λe w'=>e=Z (.bool (l.any P))/\av no w w':=by
 refine ajS ?_;refine⟨(ZK b d f h).mono ?_⟩;rintro e w1 ⟨⟨n,rfl,i⟩,j⟩;exact⟨_,rfl,by rw[i],j⟩
theorem ZJ {t:Addr} (q:Cells w p (l.flatMap dH)) (u:l.length<=100000) {P:P3->Bool} (r:∀x∈l,∀w',av no w w'->Cx 351 #[.agg #[I x.1,I x.2.1,I x.2.2],.pointer (aa t)] w' λe g=>e=Z (.bool (P x))/\av no w' g) :
  Cx 387 #[.slice p l.length c,.func (.func 351) #[] #[.pointer (aa t)]] w λe w'=>(∃n:Int,e=Z (I n)/\decide (n>=0)=l.any P)/\av no w w':=by
 refine alj ?_;refine⟨bO bu (M:=Cr) (σ:=Nat) (λi=>O4 p l.length c t (l.length:Int) (i:Int)) (λi w'=>i<=l.length/\(l.take i).any P=ae/\av no w w') (λi _=>l.length-i) 0 ⟨rfl,rfl,rfl,rfl,trivial⟩ ⟨cB _,rfl,av.refl _ _⟩ ?_⟩;intro i w1 hI;have hi:=hI.1;have j:=hI.2.1;have f:=hI.2.2;clear hI;rw[afS];refine⟨λg1=>?_,λg1=>?_⟩
 ·have g1:=aL g1;have b:i<l.length:=by omega
  obtain⟨a,s,k⟩:=(q.no f).qG qb (by decide) b;refine⟨⟨by omega,by omega⟩,a,s,_,k 0 _ rfl,_,k 1 _ rfl,_,k 2 _ rfl,⟨(r l[i] (cx b) w1 f).mono ?_⟩⟩;rintro e y ⟨rfl,m⟩;have d:=f.trans m (λ_ _ h=>h);refine⟨_,rfl,λo=>⟨⟨_,rfl,?_⟩,d⟩,λo=>⟨i+1,⟨rfl,rfl,rfl,by rw[aP (by omega)]<;>rfl,trivial⟩,⟨by omega,?_,d⟩,by omega⟩⟩
  ·rw[decide_eq_true (by omega)];exact(mF.2 ⟨l[i],cx b,o⟩).symm
  ·rw[eW b,List.any_append,j];simp only[List.any_cons,List.any_nil,pD,ur];exact o
 ·have g1:=aT g1;have:i=l.length:=by omega
  subst this;rw[dC]at j;exact⟨⟨_,rfl,by rw[j];rfl⟩,f⟩
theorem SK (l:List P3) (P:P3->Bool):(!l.any λx=>!P x)=l.all P:=by
 rw[List.all_eq_not_any_not]
set_option maxRecDepth 100000 in
theorem agA (g:Nat) (fs cs:Array Value) (w:World) (R:Ending->World->Prop):den Tryz.prog Lf MU (jv 0 [.slice p l.length c,.func (.func g) fs cs]) w (j0 Tryz.prog Tryz.f278.results.toList R) =
  aJ w [.func (.func g) fs cs] 357 λp1 w'=>Call Tryz.prog 283 [.slice p l.length c,.func (.func 349) #[] #[.pointer (aa p1)]] w' λe w'=>∃b,e=Z (.bool b)/\R (.returned (.bool !b)) w':=by kernel_rfl
set_option maxRecDepth 100000 in
theorem agB (g:Nat) (fs cs:Array Value) (w:World) (R:Ending->World->Prop):den Tryz.prog Lg MY (jv 0 [.slice p l.length c,.func (.func g) fs cs]) w (j0 Tryz.prog Tryz.f281.results.toList R) =
  aJ w [.func (.func g) fs cs] 359 λp1 w'=>Call Tryz.prog 350 [.slice p l.length c,.func (.func 351) #[] #[.pointer (aa p1)]] w' λe w'=>∃b,e=Z (.bool b)/\R (.returned (.bool !b)) w':=by kernel_rfl
theorem LB {g:Nat} {fs cs:Array Value} (k:jx Tryz.prog g=ag) (m:Cells w p (l.flatMap dH)) (n:l.length<=100000) {P:P3->Bool}
  (o:∀x∈l,∀w',av no w w'->Cx g (fs.toList++[ns #[I x.1,I x.2.1,I x.2.2]]++cs.toList).toArray w' λe d=>e=Z (.bool (P x))/\av no w' d) :
  Cx 278 #[.slice p l.length c,.func (.func g) fs cs] w λe w'=>e=Z (.bool (l.all P))/\av no w w':=by
 refine xL bu Tryz.func278 VC n278 (args:=[.slice p l.length c,.func (.func g) fs cs]) (dP rfl) ?_;rw[agA];refine⟨λw1 i=>?_⟩;have f:=i.ak no;have hB:=i.aK;refine⟨(Hc (by kernel_rfl) (m.no f) n (P:=λx=>!P x) λx q w' b=>Vr k (hB.ak b (λh=>h)) x λj a=>o x q j ((f.trans b (λ_ _ h=>h)).trans a (λ_ _ h=>h))).mono ?_⟩;rintro e j ⟨rfl,a⟩;exact⟨_,rfl,by rw[SK],f.trans a (λ_ _ h=>h)⟩
theorem zP {g:Nat} {fs cs:Array Value} (k:jx Tryz.prog g=ag) (m:Cells w p (l.flatMap dH)) (o:l.length<=100000) {P:P3->Bool}
  (q:∀x∈l,∀w',av no w w'->Cx g (fs.toList++[ns #[I x.1,I x.2.1,I x.2.2]]++cs.toList).toArray w' λe d=>e=Z (.bool (P x))/\av no w' d) :
  Cx 281 #[.slice p l.length c,.func (.func g) fs cs] w λe w'=>e=Z (.bool (l.all P))/\av no w w':=by
 refine xL bu Tryz.func281 VD n281 (args:=[.slice p l.length c,.func (.func g) fs cs]) (dP rfl) ?_;rw[agB];refine⟨λw1 i=>?_⟩;have f:=i.ak no;have hB:=i.aK;refine⟨?_⟩;refine akQ ?_;refine⟨(ZJ (m.no f) o (P:=λx=>!P x) λx r w' b=>Vs k (hB.ak b (λh=>h)) x λj a=>q x r j ((f.trans b (λ_ _ h=>h)).trans a (λ_ _ h=>h))).mono ?_⟩;rintro e j ⟨⟨n,rfl,s⟩,a⟩;exact⟨_,rfl,_,rfl,by rw[s,SK],f.trans a (λ_ _ h=>h)⟩
theorem DG:eO Tryz.prog 63 75 3 24 [I 0,I 0,I 0]:=⟨by kernel_rfl,by kernel_rfl,rfl,by omega⟩
theorem Yf:eO Tryz.prog 62 278 3 24 [I 0,I 0,I 0]:=⟨by kernel_rfl,by kernel_rfl,rfl,by omega⟩
theorem Bh (x:P3):∀u∈dH x,u.oneCell'=ag:=λu a=>by
 unfold dH at a;simp only[ez,List.not_mem_nil,or_false]at a;rcases a with rfl|rfl|rfl<;>rfl
theorem al4 {i:Nat} (hi:i<l.length) (id:Int):gE (l.take (i+1)) id=if l[i].1==id then gE (l.take i) id++[l[i]]else gE (l.take i) id:=by
 unfold gE
 rw[eW hi,td];cases h:l[i].1==id<;>simp[h]
theorem K2 (z:Cells w p (l.flatMap dH)) (D:l.length<=100000) (id:Int) :
  Cx 280 #[.slice p l.length c,I id] w λe w'=>∃p' c',e=Z (.slice p' (gE l id).length c')/\eQ dH 3 w w' 75 p' c' (gE l id):=by
 refine ajQ ?_;refine⟨bO bu (M:=Cb) (σ:=Nat×Option Addr×Nat) (λs=>HI id s.2.1 (gE (l.take s.1) id).length s.2.2 p l.length c (l.length:Int) (s.1:Int)) (λs w'=>s.1<=l.length/\eQ dH 3 w w' 75 s.2.1 s.2.2 (gE (l.take s.1) id)) (λs _=>l.length-s.1) (0,ah,0) ⟨rfl,rfl,rfl,rfl,rfl,trivial⟩ ⟨cB _,eQ.nil (av.refl _ _) _⟩ ?_⟩;rintro⟨i,p1,c1⟩ w1 ⟨hi,f⟩;simp only at hi f⊢;rw[afu];refine⟨λg=>?_,λg=>?_⟩
 ·have g:=aL g;have j:i<l.length:=by omega
  have q:aV .i64 ((i:Int)+1)=((i+1:Nat):Int):=by rw[aP (by omega)];rfl
  have r:(gE (l.take i) id).length<=i:=aW (jN ..) (by rw[eR];omega);have m:=al4 j id;obtain⟨a,A,n⟩:=(z.no f.U).qG qb (by decide) j;refine⟨⟨by omega,by omega⟩,a,A,_,n 0 _ rfl,_,n 1 _ rfl,_,n 2 _ rfl,⟨λE t=>?_⟩⟩;refine t.aK.gF (by simp) λB u=>?_;have d:av no w1 B:=(t.ak no).trans (av.mono (G:=λi=>i=w1.heap.size) u.U (λ_ _ h=>h)) (λi hi h=>by omega);have hB:=u.aK;refine⟨_,hB.cell rfl,λb=>⟨_,hB.cell rfl,_,hB.cell rfl,_,hB.cell rfl,⟨λF o=>?_⟩⟩,λb=>⟨(i+1,p1,c1),⟨rfl,?_,rfl,rfl,by rw[q]<;>rfl,trivial⟩,⟨by simp only;omega,?_⟩,by simp only;omega⟩⟩
  ·have b:(l[i].1==id)=ag:=b;rw[aj b]at m;obtain⟨p',c',C,y,k⟩:=(f.ak d).push DG qb Bh (by omega) (by omega) (x:=l[i]) rfl o 63;rw[<-m]at y k;exact⟨p',_,c',C,y,(i+1,p',c'),⟨rfl,rfl,rfl,rfl,by rw[q]<;>rfl,trivial⟩,⟨by simp only;omega,k⟩,by simp only;omega⟩
  ·have b:(l[i].1==id)=ae:=b;rw[m,af (by rw[b];decide)];rfl
  ·have b:(l[i].1==id)=ae:=b;simp only;rw[m,af (by rw[b];decide)];exact f.ak d
 ·have g:=aT g;have:i=l.length:=by omega
  subst this;rw[dC]at f⊢;exact⟨p1,c1,rfl,f⟩
end
structure PA where
 th:Option Addr×Nat
 q:Option Addr×Nat
 tm:Option Addr×Nat
 ir:Option Addr×Nat
 wk:Option Addr×Nat
 ca:Option Addr×Nat
 kp:Option Addr×Nat
def eJ (p:iZ) (a:PA):List Value:=[I p.n,.int .u64 (mi p.on),.int .u64 (mi p.ac),.int .u64 (mi p.pw),.slice a.th.1 p.th.length a.th.2,.slice a.q.1 p.q.length a.q.2,.slice a.tm.1 p.tm.length a.tm.2,.slice a.ir.1 p.ir.length a.ir.2,
 .slice a.wk.1 p.wk.length a.wk.2,.slice a.ca.1 p.ca.length a.ca.2,.slice a.kp.1 p.kp.length a.kp.2,.bool p.busy,.bool p.up,I p.au,I p.vE]
structure mB (w:World) (p:iZ) (a:PA):Prop where
 th:Cells w a.th.1 (p.th.flatMap dH)/\p.th.length<=100000
 q:Cells w a.q.1 (p.q.flatMap dH)/\p.q.length<=100000
 tm:Cells w a.tm.1 (p.tm.flatMap dH)/\p.tm.length<=100000
 ir:Cells w a.ir.1 (p.ir.flatMap dH)/\p.ir.length<=100000
 wk:Cells w a.wk.1 (p.wk.flatMap dH)/\p.wk.length<=100000
 ca:Cells w a.ca.1 (p.ca.flatMap dH)/\p.ca.length<=100000
 kp:Cells w a.kp.1 (p.kp.flatMap dH)/\p.kp.length<=100000
theorem mB.no {w w':World} {p:iZ} {a:PA} (h:mB w p a) (k:av no w w'):mB w' p a:=
 ⟨⟨h.th.1.no k,h.th.2⟩,⟨h.q.1.no k,h.q.2⟩,⟨h.tm.1.no k,h.tm.2⟩,⟨h.ir.1.no k,h.ir.2⟩,⟨h.wk.1.no k,h.wk.2⟩,⟨h.ca.1.no k,h.ca.2⟩,⟨h.kp.1.no k,h.kp.2⟩⟩
section
variable {w:World} {p:iZ} {a:PA}
theorem acO (w:World):Cx 191 #[.agg (eJ p a).toArray] w λe w'=>e=Z (.bool (Bo p))/\av no w w':=by
 refine aiu ?_;refine⟨λw1 i=>?_⟩;intro c j k l m;have b:av no w c:=(i.ak no).trans (av.same no j k l m) (λ_ _ h=>h);have hB:aM c w.heap.size (eJ p a) 65:=i.aK.ak (av.same no j k l m) (λh=>h);unfold Bo yl;have o:(mi p.ac !=0) = !(p.ac==0):=by rw[bne,l9]
 refine⟨_,hB.cell rfl,λg=>⟨_,hB.cell rfl,_,hB.cell rfl,⟨(AX p.ac p.on c).mono ?_⟩⟩,λg=>⟨?_,b⟩⟩
 ·rw[<-o,g];rintro e q ⟨rfl,rfl⟩;refine⟨_,rfl,λd=>⟨_,hB.cell rfl,_,hB.cell rfl,⟨(AX p.on p.pw q).mono ?_⟩⟩,λd=>⟨?_,b⟩⟩
  ·rw[d];rintro e r ⟨rfl,rfl⟩;refine⟨_,rfl,λf=>⟨_,hB.cell rfl,_,hB.cell rfl,⟨(uP p.n r).mono ?_⟩⟩,λf=>⟨?_,b⟩⟩
   ·rw[f];rintro e s ⟨rfl,rfl⟩;refine⟨_,rfl,hB.cell rfl,⟨(AX p.pw (br p.n) s).mono ?_⟩⟩;rintro e t ⟨rfl,rfl⟩;exact⟨_,rfl,rfl,b⟩
   ·rw[f];rfl
  ·rw[d];rfl
 ·rw[<-o,g];rfl
theorem ac7 {pb:Nat} (t:mB w p a) (hB:aM w pb (eJ p a) 65) (x:P3):Cx 279 #[.agg #[I x.1,I x.2.1,I x.2.2],pt pb] w λe w'=>e=Z (.bool (Bq p x))/\av no w w':=by
 refine ajP ?_;refine⟨λw1 u=>?_⟩;have j:=u.ak no;have k:=hB.ak j (λh=>h);have A:=u.aK;refine⟨_,_,_,k.cell rfl,_,A.cell rfl,⟨(K2 (t.q.1.no j) t.q.2 x.1).mono ?_⟩⟩;rintro e E ⟨p',c',rfl,l⟩;have d:=j.trans l.U (λ_ _ h=>h);have f:=A.ak l.U (λh=>h);unfold Bq;refine⟨_,_,_,rfl,_,f.cell rfl,λg=>⟨?_,d⟩,λg=>?_⟩
 ·have g:¬x.2.2=0:=by simpa using g
  rw[af g];congr 2;rw[ig];simp
 ·have g:x.2.2=0:=by simpa using g
  rw[aj g];intro F m n o r;have c:=d.trans (av.same no m n o r) (λ_ _ h=>h);have s:=f.ak (av.same no m n o r) (λh=>h);have B:=l.S.cells.no (av.same no m n o r);generalize gE p.q x.1=L at B⊢
  match L with
  | []=>exact⟨λg=>by simp at g,λ_=>⟨rfl,c⟩⟩
  | [y]=>
   obtain⟨b,C,D⟩:=B.qG (i:=0) qb (by decide) (by simp)
   exact⟨λ_=>⟨⟨by omega,by simp⟩,b,C,_,D 1 _ rfl,_,s.cell rfl,rfl,c⟩,λg=>by simp at g⟩
  | y::z::L=>exact⟨λg=>by simp at g;omega,λ_=>⟨rfl,c⟩⟩
theorem ac8 {b:Nat} {y:P3} {T:TypeId} (hB:aM w b (dH y) T) (x:P3):Cx 284 #[.agg #[I x.1,I x.2.1,I x.2.2],pt b] w λe w'=>e=Z (.bool (x.1==y.1))/\av no w w':=by
 refine ajT ?_;refine⟨λw1 c=>?_⟩;have d:=c.ak no;exact⟨_,c.aK.cell rfl,_,(hB.ak d (λh=>h)).cell rfl,rfl,d⟩
theorem ac9 {pb:Nat} (f:mB w p a) (hB:aM w pb (eJ p a) 65) (y:P3):Cx 282 #[.agg #[I y.1,I y.2.1,I y.2.2],pt pb] w λe w'=>e=Z (.bool (E8 p y))/\av no w w':=by
 refine ajR ?_;refine⟨λw1 g=>?_⟩;have b:=g.ak no;have i:aM w1 w.heap.size (dH y) 75:=g.aK;refine⟨_,_,_,(hB.ak b (λh=>h)).cell rfl,⟨(Hc (by kernel_rfl) (f.th.1.no b) f.th.2 (P:=λx=>x.1==y.1) λx _ w' c=>ac8 (i.ak c (λh=>h)) x).mono ?_⟩⟩;rintro e j ⟨rfl,d⟩;exact⟨_,rfl,rfl,b.trans d (λ_ _ h=>h)⟩
theorem acP (o:mB w p a):Cx 192 #[.agg (eJ p a).toArray] w λe w'=>e=Z (.bool (Bp p))/\av no w w':=by
 refine aiv ?_;refine⟨λw1 l=>?_⟩;have m:=l.ak no;have hB:aM w1 w.heap.size (eJ p a) 65:=l.aK;have c:=o.no m;generalize w.heap.size=n at hB⊢;refine⟨_,_,_,hB.cell rfl,⟨(LB (g:=279) (fs:=#[]) (cs:=#[pt n]) (by kernel_rfl) c.th.1 c.th.2 (P:=Bq p) λx _ w' b=>ac7 (c.no b) (hB.ak b (λh=>h)) x).mono ?_⟩⟩;rintro e r ⟨rfl,f⟩;have i:=c.no f;have j:=hB.ak f (λh=>h);have d:=m.trans f (λ_ _ h=>h);unfold Bp;refine⟨_,rfl,λg=>⟨_,_,_,j.cell rfl,⟨(zP (g:=282) (fs:=#[]) (cs:=#[pt n]) (by kernel_rfl) i.q.1 i.q.2 (P:=E8 p) λx _ w' b=>ac9 (i.no b) (j.ak b (λh=>h)) x).mono ?_⟩⟩,λg=>⟨?_,d⟩⟩
 ·rintro e s ⟨rfl,k⟩;exact⟨_,rfl,by rw[g];rfl,d.trans k (λ_ _ h=>h)⟩
 ·rw[g];rfl
theorem ad1 {pb:Nat} (s:mB w p a) (hB:aM w pb (eJ p a) 65) (x:P3):Cx 285 #[.agg #[I x.1,I x.2.1,I x.2.2],pt pb] w λe w'=>e=Z (.bool (Bs p x))/\av no w w':=by
 refine ajU ?_;refine⟨λw1 t=>?_⟩;have f:=t.ak no;have j:=hB.ak f (λh=>h);have u:=t.aK;refine⟨_,_,_,j.cell rfl,_,u.cell rfl,⟨(K2 (s.tm.1.no f) s.tm.2 x.2.2).mono ?_⟩⟩;rintro e D ⟨p',c',rfl,k⟩;have l:=f.trans k.U (λ_ _ h=>h);have m:=u.ak k.U (λh=>h);refine⟨_,_,_,rfl,?_⟩;intro E n o q r;have c:=l.trans (av.same no n o q r) (λ_ _ h=>h);have d:=m.ak (av.same no n o q r) (λh=>h);have A:=k.S.cells.no (av.same no n o q r);unfold Bs;refine⟨_,d.cell rfl,λg=>?_,λg=>⟨?_,c⟩⟩
 ·rw[g];generalize gE p.tm x.2.2=L at A⊢
  match L with
  | []=>exact⟨λg=>by simp at g,λ_=>⟨rfl,c⟩⟩
  | [y]=>
   obtain⟨b,B,C⟩:=A.qG (i:=0) qb (by decide) (by simp)
   exact⟨λ_=>⟨⟨by omega,by simp⟩,b,B,_,C 2 _ rfl,_,d.cell rfl,rfl,c⟩,λg=>by simp at g⟩
  | y::z::L=>exact⟨λg=>by simp at g;omega,λ_=>⟨rfl,c⟩⟩
 ·rw[g];rfl
theorem ad2 {c:Nat} {y:P3} {T:TypeId} (hB:aM w c (dH y) T) (x:P3):Cx 287 #[.agg #[I x.1,I x.2.1,I x.2.2],pt c] w λe w'=>e=Z (.bool (x.1==y.2.2&&x.2.2==y.1))/\av no w w':=by
 refine ajW ?_;refine⟨λw1 d=>?_⟩;have b:=d.ak no;have f:=d.aK;have i:=hB.ak b (λh=>h);exact⟨_,f.cell rfl,_,i.cell rfl,λg=>⟨_,f.cell rfl,_,i.cell rfl,by rw[g];rfl,b⟩,λg=>⟨by rw[g];rfl,b⟩⟩
theorem ad4 {pb:Nat} (f:mB w p a) (hB:aM w pb (eJ p a) 65) (y:P3):Cx 286 #[.agg #[I y.1,I y.2.1,I y.2.2],pt pb] w λe w'=>e=Z (.bool (Bt p y))/\av no w w':=by
 refine ajV ?_;refine⟨λw1 i=>?_⟩;have b:=i.ak no;have j:aM w1 w.heap.size (dH y) 75:=i.aK;unfold Bt;refine⟨_,j.cell rfl,λg=>⟨_,_,_,(hB.ak b (λh=>h)).cell rfl,⟨(Hc (by kernel_rfl) (f.th.1.no b) f.th.2 (P:=λx=>x.1==y.2.2&&x.2.2==y.1) λx _ w' c=>ad2 (j.ak c (λh=>h)) x).mono ?_⟩⟩,λg=>⟨by rw[g];rfl,b⟩⟩;rintro e k ⟨rfl,d⟩;exact⟨_,rfl,by rw[g];rfl,b.trans d (λ_ _ h=>h)⟩
theorem acQ (o:mB w p a):Cx 193 #[.agg (eJ p a).toArray] w λe w'=>e=Z (.bool (Br p))/\av no w w':=by
 refine aiw ?_;refine⟨λw1 l=>?_⟩;have m:=l.ak no;have hB:aM w1 w.heap.size (eJ p a) 65:=l.aK;have c:=o.no m;generalize w.heap.size=n at hB⊢;refine⟨_,_,_,hB.cell rfl,⟨(LB (g:=285) (fs:=#[]) (cs:=#[pt n]) (by kernel_rfl) c.th.1 c.th.2 (P:=Bs p) λx _ w' b=>ad1 (c.no b) (hB.ak b (λh=>h)) x).mono ?_⟩⟩;rintro e q ⟨rfl,f⟩;have i:=c.no f;have j:=hB.ak f (λh=>h);have d:=m.trans f (λ_ _ h=>h);unfold Br;refine⟨_,rfl,λg=>⟨_,_,_,j.cell rfl,⟨(zP (g:=286) (fs:=#[]) (cs:=#[pt n]) (by kernel_rfl) i.tm.1 i.tm.2 (P:=Bt p) λx _ w' b=>ad4 (i.no b) (j.ak b (λh=>h)) x).mono ?_⟩⟩,λg=>⟨?_,d⟩⟩
 ·rintro e r ⟨rfl,k⟩;exact⟨_,rfl,by rw[g];rfl,d.trans k (λ_ _ h=>h)⟩
 ·rw[g];rfl
theorem R8 (w:World) (x:P3):Cx 288 #[.agg (eJ p a).toArray,.agg #[I x.1,I x.2.1,I x.2.2]] w λe w'=>e=Z (.bool (lj p x))/\av no w w':=by
 refine ajX ?_;refine⟨λw1 i=>⟨λj c=>?_⟩⟩;have d:=(i.ak no).trans (c.ak no) (λ_ _ h=>h);have hB:aM j w.heap.size (eJ p a) 65:=i.aK.ak (c.ak no) (λh=>h);have k:=c.aK;unfold lj;refine⟨_,hB.cell rfl,_,k.cell rfl,⟨(l7 p.ac x.2.1 j).mono ?_⟩⟩;rintro e l ⟨rfl,rfl⟩;refine⟨_,rfl,λg=>⟨_,hB.cell rfl,λb=>⟨_,hB.cell rfl,λf=>⟨_,hB.cell rfl,_,k.cell rfl,?_,d⟩,λf=>⟨?_,d⟩⟩,λb=>⟨?_,d⟩⟩,λg=>⟨?_,d⟩⟩
 ·have b:p.busy=ag:=b;have g:hs p.ac x.2.1=ae:=g;rw[g,b,f];rfl
 ·have b:p.busy=ag:=b;have g:hs p.ac x.2.1=ae:=g;rw[g,b,f];rfl
 ·have b:p.busy=ae:=b;have g:hs p.ac x.2.1=ae:=g;rw[g,b];rfl
 ·have g:hs p.ac x.2.1=ag:=g;rw[g];rfl
theorem acq {pb:Nat} (hB:aM w pb (eJ p a) 65) (x:P3):Cx 289 #[.agg #[I x.1,I x.2.1,I x.2.2],pt pb] w λe w'=>e=Z (.bool (yX p x))/\av no w w':=by
 refine ajY ?_;refine⟨λw1 i=>?_⟩;have d:=i.ak no;have b:=hB.ak d (λh=>h);have c:=i.aK;unfold yX;refine⟨_,c.cell rfl,λg=>⟨_,b.cell rfl,_,b.cell rfl,_,b.cell rfl,_,b.cell rfl,_,_,_,b.cell rfl,_,_,_,b.cell rfl,_,_,_,b.cell rfl,_,_,_,b.cell rfl,_,_,_,b.cell rfl,_,_,_,b.cell rfl,_,_,_,b.cell rfl,_,b.cell rfl,_,b.cell rfl,_,b.cell rfl,_,b.cell rfl,_,c.cell rfl,_,c.cell rfl,_,c.cell rfl,⟨(R8 (p:=p) (a:=a) w1 x).mono ?_⟩⟩,λg=>⟨?_,d⟩⟩
 ·rintro e j ⟨rfl,f⟩;exact⟨_,rfl,by rw[g];rfl,d.trans f (λ_ _ h=>h)⟩
 ·rw[g];rfl
theorem Pq {f:Nat->Bool} {i:Nat} (hi:i<=5) (h:∀j,j<i->f j=ag) (b:i=5):(f 0&&f 1&&f 2&&f 3&&f 4)=ag:=by
 subst b;rw[h 0 (by omega),h 1 (by omega),h 2 (by omega),h 3 (by omega),h 4 (by omega)];rfl
theorem Pr {f:Nat->Bool} {i:Nat} (hi:i<5) (h:f i=ae):(f 0&&f 1&&f 2&&f 3&&f 4)=ae:=by
 rcases(by omega:i=0∨i=1∨i=2∨i=3∨i=4)with rfl|rfl|rfl|rfl|rfl<;>rw[h]<;>simp
def rh (p:iZ):Nat->Bool
 | 0=>p.q.all (lj p)
 | 1=>p.tm.all (lj p)
 | 2=>p.ir.all (lj p)
 | 3=>p.ca.all (lj p)
 | _=>p.kp.all (lj p)
set_option maxRecDepth 100000 in
theorem acR (L:mB w p a):Cx 194 #[.agg (eJ p a).toArray] w λe w'=>e=Z (.bool (yW p))/\av no w w':=by
 refine aix ?_;refine⟨λw1 E=>?_⟩;have A:=E.ak no;have hB:aM w1 w.heap.size (eJ p a) 65:=E.aK;have B:w.heap.size<w1.heap.size:=hB.lt;generalize w.heap.size=F at hB B⊢;refine⟨_,_,_,hB.cell rfl,_,_,_,hB.cell rfl,_,_,_,hB.cell rfl,_,_,_,hB.cell rfl,_,_,_,hB.cell rfl,⟨λG s=>⟨?_⟩⟩⟩;have t:=A.trans (s.ak no) (λ_ _ h=>h);have H:=s.aK;have C:=hB.ak (s.ak no) (λh=>h);have D:=L.no t;generalize w1.heap.size=N at H⊢;refine bO bu (M:=wQ) (σ:=Nat) (λi=>Hx ⟨F,0,ah⟩ (aa ⟨N,0,ah⟩) 5 5 5 (i:Int)) (λi w'=>i<=5/\(∀j,j<i->rh p j=ag)/\av no G w') (λi _=>5-i) 0 ⟨rfl,rfl,rfl,rfl,trivial⟩ ⟨cB _,λj O=>by omega,av.refl _ _⟩ ?_;intro i u hI;have hi:=hI.1;have I:=hI.2.1;have n:=hI.2.2;clear hI;have b:=C.ak n (λh=>h);have o:=H.ak n (λh=>h);have m:=D.no n;have J:=t.trans n (λ_ _ h=>h);have r:yW p=((rh p 0&&rh p 1&&rh p 2&&rh p 3&&rh p 4)&&p.wk.all (yX p)):=rfl;rw[afb];refine⟨λg=>?_,λg=>aU.mk ?_⟩
 ·have g:i<5:=by have:=aL g;omega
  have one:∀{l:List P3} {q:Option Addr} {c:Nat} {Q:Ending->World->Prop},Cells u q (l.flatMap dH)/\l.length<=100000->l.all (lj p)=rh p i->(∀w',av no u w'->Q (.returned (.bool (rh p i))) w')->Cx 281 #[.slice q l.length c,.func (.func 288) #[.agg (eJ p a).toArray] #[]] u Q:=by
   intro l q c Q K R S;refine(zP (g:=288) (fs:=#[.agg (eJ p a).toArray]) (cs:=#[]) (by kernel_rfl) K.1 K.2 (P:=lj p) λx _ w' y=>R8 w' x).mono ?_;rintro e U ⟨rfl,d⟩;rw[R];exact S _ d
  have fin:∀w',av no u w'->(rh p i=ae->((cN (.bool ae):Ending)=Z (.bool (yW p))/\av no w w')):=λw' d f=>by
   refine⟨?_,J.trans d (λ_ _ h=>h)⟩;rw[r,Pr g f];rfl
  have z:∀w',av no u w'->rh p i=ag->(i+1<=5/\(∀j,j<i+1->rh p j=ag)/\av no G w'):=λw' d f=>⟨by omega,λj O=>by
   by_cases e:j=i
   ·subst e;exact f
   ·exact I j (by omega),n.trans d (λ_ _ h=>h)⟩
  have rd:∀{T:Prop},T->T:=λh=>h;refine⟨⟨by omega,by omega⟩,_,rfl,?_⟩;rcases(by omega:i=0∨i=1∨i=2∨i=3∨i=4)with rfl|rfl|rfl|rfl|rfl
  ·refine⟨_,_,_,o.cell (k:=0) rfl,_,b.cell rfl,_,b.cell rfl,_,b.cell rfl,_,b.cell rfl,_,_,_,b.cell rfl,_,_,_,b.cell rfl,_,_,_,b.cell rfl,_,_,_,b.cell rfl,_,_,_,b.cell rfl,_,_,_,b.cell rfl,_,_,_,b.cell rfl,_,b.cell rfl,_,b.cell rfl,_,b.cell rfl,_,b.cell rfl,⟨one m.q rfl λw' d=>⟨_,rfl,λf=>fin w' d (by simpa using f),λf=>⟨1,⟨rfl,rfl,rfl,rfl,trivial⟩,z w' d (by simpa using f),by omega⟩⟩⟩⟩
  ·refine⟨_,_,_,o.cell (k:=1) rfl,_,b.cell rfl,_,b.cell rfl,_,b.cell rfl,_,b.cell rfl,_,_,_,b.cell rfl,_,_,_,b.cell rfl,_,_,_,b.cell rfl,_,_,_,b.cell rfl,_,_,_,b.cell rfl,_,_,_,b.cell rfl,_,_,_,b.cell rfl,_,b.cell rfl,_,b.cell rfl,_,b.cell rfl,_,b.cell rfl,⟨one m.tm rfl λw' d=>⟨_,rfl,λf=>fin w' d (by simpa using f),λf=>⟨2,⟨rfl,rfl,rfl,rfl,trivial⟩,z w' d (by simpa using f),by omega⟩⟩⟩⟩
  ·refine⟨_,_,_,o.cell (k:=2) rfl,_,b.cell rfl,_,b.cell rfl,_,b.cell rfl,_,b.cell rfl,_,_,_,b.cell rfl,_,_,_,b.cell rfl,_,_,_,b.cell rfl,_,_,_,b.cell rfl,_,_,_,b.cell rfl,_,_,_,b.cell rfl,_,_,_,b.cell rfl,_,b.cell rfl,_,b.cell rfl,_,b.cell rfl,_,b.cell rfl,⟨one m.ir rfl λw' d=>⟨_,rfl,λf=>fin w' d (by simpa using f),λf=>⟨3,⟨rfl,rfl,rfl,rfl,trivial⟩,z w' d (by simpa using f),by omega⟩⟩⟩⟩
  ·refine⟨_,_,_,o.cell (k:=3) rfl,_,b.cell rfl,_,b.cell rfl,_,b.cell rfl,_,b.cell rfl,_,_,_,b.cell rfl,_,_,_,b.cell rfl,_,_,_,b.cell rfl,_,_,_,b.cell rfl,_,_,_,b.cell rfl,_,_,_,b.cell rfl,_,_,_,b.cell rfl,_,b.cell rfl,_,b.cell rfl,_,b.cell rfl,_,b.cell rfl,⟨one m.ca rfl λw' d=>⟨_,rfl,λf=>fin w' d (by simpa using f),λf=>⟨4,⟨rfl,rfl,rfl,rfl,trivial⟩,z w' d (by simpa using f),by omega⟩⟩⟩⟩
  ·refine⟨_,_,_,o.cell (k:=4) rfl,_,b.cell rfl,_,b.cell rfl,_,b.cell rfl,_,b.cell rfl,_,_,_,b.cell rfl,_,_,_,b.cell rfl,_,_,_,b.cell rfl,_,_,_,b.cell rfl,_,_,_,b.cell rfl,_,_,_,b.cell rfl,_,_,_,b.cell rfl,_,b.cell rfl,_,b.cell rfl,_,b.cell rfl,_,b.cell rfl,⟨one m.kp rfl λw' d=>⟨_,rfl,λf=>fin w' d (by simpa using f),λf=>⟨5,⟨rfl,rfl,rfl,rfl,trivial⟩,z w' d (by simpa using f),by omega⟩⟩⟩⟩
 ·have g:i=5:=by have:=aT g;omega
  rw[afa];refine⟨_,_,_,b.cell rfl,⟨(zP (g:=289) (fs:=#[]) (cs:=#[pt F]) (by kernel_rfl) m.wk.1 m.wk.2 (P:=yX p) λx _ w' y=>acq (b.ak y (λh=>h)) x).mono ?_⟩⟩;rintro e U ⟨rfl,d⟩;refine⟨_,rfl,?_,J.trans d (λ_ _ h=>h)⟩;rw[r,Pq hi I g];rfl
theorem acS (w:World):Cx 195 #[.agg (eJ p a).toArray] w λe w'=>e=Z (.bool (Bu p))/\av no w w':=by
 refine aiy ?_;refine⟨λw1 o=>?_⟩;intro k q r s t;have j:av no w k:=(o.ak no).trans (av.same no q r s t) (λ_ _ h=>h);have hB:aM k w.heap.size (eJ p a) 65:=o.aK.ak (av.same no q r s t) (λh=>h);generalize w.heap.size=A at hB⊢;unfold Bu;have i:∀x y:BV,(mi x==mi y)=(x==y):=λx y=>by rw[ig];simp[Sh]
 refine⟨_,hB.cell rfl,_,hB.cell rfl,λg=>⟨_,hB.cell rfl,λb=>⟨_,hB.cell rfl,λc=>⟨_,hB.cell rfl,_,hB.cell rfl,_,hB.cell rfl,⟨λu d=>?_⟩⟩,λc=>⟨?_,j⟩⟩,λb=>⟨?_,j⟩⟩,λg=>⟨?_,j⟩⟩
 ·have m:=j.trans (d.ak no) (λ_ _ h=>h);have f:=hB.ak (d.ak no) (λh=>h);have z:Cells u (aa ⟨k.heap.size,0,ah⟩) ([p.au].map (aB .i64)):=(Sl.new d (sz:=1) (n:=1) rfl (show(1:Nat)<=maxLen by unfold maxLen;omega)).cells;refine⟨f.cell rfl,f.cell rfl,⟨(qW p.on (l:=[p.au]) z (by simp)).mono ?_⟩⟩;rintro e B ⟨rfl,rfl⟩;refine⟨_,rfl,f.cell rfl,?_,m⟩;have b:p.busy=ag:=b;have c:p.up=ag:=c;rw[i]at g;rw[g,b,c,i];rfl
 ·have b:p.busy=ag:=b;have c:p.up=ae:=c;rw[i]at g;rw[g,b,c];rfl
 ·have b:p.busy=ae:=b;rw[i]at g;rw[g,b];rfl
 ·rw[i]at g;rw[g];rfl
theorem ab6 {l:List P3} {q:Option Addr} {c:Nat} (f:Cells w q (l.flatMap dH)) (g:l.length<=100000) {lb:Nat} {T:TypeId} (hB:aM w lb [.slice q l.length c] T) (x:P3):Cx 290 #[.agg #[I x.1,I x.2.1,I x.2.2],pt lb] w λe w'=>e=Z (.bool ((gE l x.1).length==1))/\av no w w':=by
 refine ajZ ?_;refine⟨λw1 d=>?_⟩;have b:=d.ak no;refine⟨_,_,_,(hB.ak b (λh=>h)).cm rfl,_,d.aK.cell rfl,⟨(K2 (f.no b) g x.1).mono ?_⟩⟩;rintro e j ⟨p',c',rfl,i⟩;refine⟨_,_,_,rfl,?_,b.trans i.U (λ_ _ h=>h)⟩;congr 2;rw[ig];simp;omega
def qa (p:iZ):Nat->Bool
 | 0=>pY p.tm
 | 1=>pY p.ir
 | 2=>pY p.wk
 | 3=>pY p.ca
 | _=>pY p.kp
set_option maxRecDepth 100000 in
theorem acT (S:mB w p a):Cx 196 #[.agg (eJ p a).toArray] w λe w'=>e=Z (.bool (yY p))/\av no w w':=by
 refine aiz ?_;refine⟨λw1 I=>?_⟩;have E:=I.ak no;have hB:aM w1 w.heap.size (eJ p a) 65:=I.aK;generalize w.heap.size=Y at hB⊢;refine⟨_,_,_,hB.cell rfl,_,_,_,hB.cell rfl,_,_,_,hB.cell rfl,_,_,_,hB.cell rfl,_,_,_,hB.cell rfl,⟨λJ u=>⟨?_⟩⟩⟩;have y:=E.trans (u.ak no) (λ_ _ h=>h);have K:=u.aK;have F:=S.no y;generalize w1.heap.size=T at K⊢;refine bO bu (M:=B5) (σ:=Nat) (λi=>Hy (aa ⟨T,0,ah⟩) 5 5 5 (i:Int)) (λi w'=>i<=5/\(∀j,j<i->qa p j=ag)/\av no J w') (λi _=>5-i) 0 ⟨rfl,rfl,rfl,trivial⟩ ⟨cB _,λj V=>by omega,av.refl _ _⟩ ?_;intro i r hI;have hi:=hI.1;have L:=hI.2.1;have s:=hI.2.2;clear hI;have f:=K.ak s (λh=>h);have m:=F.no s;have N:=y.trans s (λ_ _ h=>h);have o:yY p=(qa p 0&&qa p 1&&qa p 2&&qa p 3&&qa p 4):=rfl;rw[afc];refine⟨λg=>?_,λg=>?_⟩
 ·have g:i<5:=by have:=aL g;omega
  have one:∀{l:List P3} {q:Option Addr} {c:Nat} {Q:Ending->World->Prop},Cells r q (l.flatMap dH)/\l.length<=100000->pY l=qa p i->(∀w',av no r w'->Q (.returned (.bool (qa p i))) w')->
    aJ r [.slice ah 0 0] 63 λp1 w'=>Wr w' p1 [.slice q l.length c] λw'=>∃p n c,w'.cell? p1=aa (.slice p n c)/\Call Tryz.prog 281 [.slice p n c,.func (.func 290) #[] #[.pointer (aa p1)]] w' Q:=by
   intro l q c Q D W X;refine⟨λw4 z=>z.aK.gF (by simp) λO R=>?_⟩;have t:av no r O:=(z.ak no).trans (av.mono (G:=λi=>i=r.heap.size) R.U (λ_ _ h=>h)) (λi hi h=>by omega);have A:aM O r.heap.size [.slice q l.length c] 63:=R.aK;refine⟨_,_,_,A.cm rfl,⟨(zP (g:=290) (fs:=#[]) (cs:=#[pt r.heap.size]) (by kernel_rfl) (D.1.no t) D.2 (P:=λx=>(gE l x.1).length==1) λx _ w' B=>ab6 ((D.1.no t).no B) D.2 (A.ak B (λh=>h)) x).mono ?_⟩⟩;rintro e w6 ⟨rfl,H⟩;rw[show(l.all λx=>(gE l x.1).length==1)=qa p i from W];exact X _ (t.trans H (λ_ _ h=>h))
  have fin:∀w',av no r w'->(qa p i=ae->((cN (.bool ae):Ending)=Z (.bool (yY p))/\av no w w')):=λw' b d=>by
   refine⟨?_,N.trans b (λ_ _ h=>h)⟩;rw[o,Pr g d]
  have C:∀w',av no r w'->qa p i=ag->(i+1<=5/\(∀j,j<i+1->qa p j=ag)/\av no J w'):=λw' b d=>⟨by omega,λj V=>by
   by_cases e:j=i
   ·subst e;exact d
   ·exact L j (by omega),s.trans b (λ_ _ h=>h)⟩
  refine⟨⟨by omega,by omega⟩,_,rfl,?_⟩;rcases(by omega:i=0∨i=1∨i=2∨i=3∨i=4)with rfl|rfl|rfl|rfl|rfl
  ·exact⟨_,_,_,f.cell (k:=0) rfl,one m.tm rfl λw' b=>⟨_,rfl,λd=>fin w' b (by simpa using d),λd=>⟨1,⟨rfl,rfl,rfl,trivial⟩,C w' b (by simpa using d),by omega⟩⟩⟩
  ·exact⟨_,_,_,f.cell (k:=1) rfl,one m.ir rfl λw' b=>⟨_,rfl,λd=>fin w' b (by simpa using d),λd=>⟨2,⟨rfl,rfl,rfl,trivial⟩,C w' b (by simpa using d),by omega⟩⟩⟩
  ·exact⟨_,_,_,f.cell (k:=2) rfl,one m.wk rfl λw' b=>⟨_,rfl,λd=>fin w' b (by simpa using d),λd=>⟨3,⟨rfl,rfl,rfl,trivial⟩,C w' b (by simpa using d),by omega⟩⟩⟩
  ·exact⟨_,_,_,f.cell (k:=3) rfl,one m.ca rfl λw' b=>⟨_,rfl,λd=>fin w' b (by simpa using d),λd=>⟨4,⟨rfl,rfl,rfl,trivial⟩,C w' b (by simpa using d),by omega⟩⟩⟩
  ·exact⟨_,_,_,f.cell (k:=4) rfl,one m.kp rfl λw' b=>⟨_,rfl,λd=>fin w' b (by simpa using d),λd=>⟨5,⟨rfl,rfl,rfl,trivial⟩,C w' b (by simpa using d),by omega⟩⟩⟩
 ·have g:i=5:=by have:=aT g;omega
  refine⟨?_,N⟩;rw[o,Pq hi L g]
set_option maxRecDepth 100000 in
theorem acU (w:World):Cx 197 #[.agg (eJ p a).toArray] w λe w'=>e=Z (.bool (Bv p))/\av no w w':=by
 refine aiA ?_;refine⟨λw1 i=>?_⟩;have j:=i.ak no;have hB:aM w1 w.heap.size (eJ p a) 65:=i.aK;generalize w.heap.size=u at hB⊢;unfold Bv;refine⟨_,hB.cell rfl,λg=>⟨by rw[g];rfl,j⟩,λg=>?_⟩;have g:p.busy=ag:=by simpa using g
 intro k l m o q;have b:av no w k:=j.trans (av.same no l m o q) (λ_ _ h=>h);replace hB:=hB.ak (av.same no l m o q) (λh=>h);rw[g];refine⟨_,hB.cell rfl,_,hB.cell rfl,λc=>⟨_,hB.cell rfl,_,hB.cell rfl,⟨(l7 p.ac p.vE k).mono ?_⟩⟩,λc=>⟨?_,b⟩⟩
 ·have c:(p.au==p.vE)=ae:=by simpa using c
  rw[c];rintro e r ⟨rfl,rfl⟩;refine⟨_,rfl,λd=>⟨_,hB.cell rfl,_,hB.cell rfl,⟨(uP p.n r).mono ?_⟩⟩,λd=>⟨?_,b⟩⟩
  ·rw[d];rintro e s ⟨rfl,rfl⟩;refine⟨_,rfl,hB.cell rfl,⟨(l7 (br p.n) p.au s).mono ?_⟩⟩;rintro e t ⟨rfl,rfl⟩;refine⟨_,rfl,λf=>⟨_,hB.cell rfl,_,hB.cell rfl,_,hB.cell rfl,⟨(l7 p.on p.au t).mono ?_⟩⟩,λf=>⟨?_,b⟩⟩
   ·rw[f];rintro e x ⟨rfl,rfl⟩;exact⟨_,rfl,hB.cell rfl,rfl,b⟩
   ·rw[f];rfl
  ·rw[d];rfl
 ·have c:(p.au==p.vE)=ag:=by simpa using c
  rw[c];rfl
def yZ (p:iZ) (n:Nat):Bool:=if n=1 then Bo p else if n=2 then Bp p else if n=3 then Br p else if n=4 then yW p else if n=5 then Bu p else if n=6 then yY p else if n=7 then Bv p else ae
set_option maxRecDepth 100000 in
theorem adP (s:mB w p a) (n:Nat):Cx 103 #[.agg (eJ p a).toArray,I (n:Int)] w λe w'=>e=Z (.bool (yZ p n))/\av no w w':=by
 refine ag9 ?_;refine⟨λw1 r=>?_⟩;have d:=r.ak no;have hB:aM w1 w.heap.size (eJ p a) 65:=r.aK;have c:=s.no d;generalize w.heap.size=u at hB⊢
 have fin:∀{b:Bool} {f:Nat},yZ p n=b->(Cx f #[.agg (eJ p a).toArray] w1 λe w'=>e=Z (.bool b)/\av no w1 w')->Cx f #[.agg (eJ p a).toArray] w1 λe w'=>∃b,e=Z (.bool b)/\((cN (.bool b):Ending)=Z (.bool (yZ p n))/\av no w w'):=λt h=>h.mono (by
  rintro e w' ⟨rfl,i⟩;exact⟨_,rfl,by rw[t],d.trans i (λ_ _ h=>h)⟩)
 refine⟨λg=>⟨_,hB.cell rfl,_,hB.cell rfl,_,hB.cell rfl,_,hB.cell rfl,_,_,_,hB.cell rfl,_,_,_,hB.cell rfl,_,_,_,hB.cell rfl,_,_,_,hB.cell rfl,_,_,_,hB.cell rfl,_,_,_,hB.cell rfl,_,_,_,hB.cell rfl,_,hB.cell rfl,_,hB.cell rfl,_,hB.cell rfl,_,hB.cell rfl,⟨fin ?_ (acO (p:=p) (a:=a) w1)⟩⟩,λg1=>?_⟩
 ·have g:n=1:=by
   have:(n:Int)=1:=by simpa using g
   omega
  subst g;rfl
 have g1:n≠1:=λe=>by subst e;simp at g1
 refine⟨λg=>⟨_,hB.cell rfl,_,hB.cell rfl,_,hB.cell rfl,_,hB.cell rfl,_,_,_,hB.cell rfl,_,_,_,hB.cell rfl,_,_,_,hB.cell rfl,_,_,_,hB.cell rfl,_,_,_,hB.cell rfl,_,_,_,hB.cell rfl,_,_,_,hB.cell rfl,_,hB.cell rfl,_,hB.cell rfl,_,hB.cell rfl,_,hB.cell rfl,⟨fin ?_ (acP c)⟩⟩,λj=>?_⟩
 ·have g:n=2:=by
   have:(n:Int)=2:=by simpa using g
   omega
  subst g;rfl
 have j:n≠2:=λe=>by subst e;simp at j
 refine⟨λg=>⟨_,hB.cell rfl,_,hB.cell rfl,_,hB.cell rfl,_,hB.cell rfl,_,_,_,hB.cell rfl,_,_,_,hB.cell rfl,_,_,_,hB.cell rfl,_,_,_,hB.cell rfl,_,_,_,hB.cell rfl,_,_,_,hB.cell rfl,_,_,_,hB.cell rfl,_,hB.cell rfl,_,hB.cell rfl,_,hB.cell rfl,_,hB.cell rfl,⟨fin ?_ (acQ c)⟩⟩,λk=>?_⟩
 ·have g:n=3:=by
   have:(n:Int)=3:=by simpa using g
   omega
  subst g;rfl
 have k:n≠3:=λe=>by subst e;simp at k
 refine⟨λg=>⟨_,hB.cell rfl,_,hB.cell rfl,_,hB.cell rfl,_,hB.cell rfl,_,_,_,hB.cell rfl,_,_,_,hB.cell rfl,_,_,_,hB.cell rfl,_,_,_,hB.cell rfl,_,_,_,hB.cell rfl,_,_,_,hB.cell rfl,_,_,_,hB.cell rfl,_,hB.cell rfl,_,hB.cell rfl,_,hB.cell rfl,_,hB.cell rfl,⟨fin ?_ (acR c)⟩⟩,λl=>?_⟩
 ·have g:n=4:=by
   have:(n:Int)=4:=by simpa using g
   omega
  subst g;rfl
 have l:n≠4:=λe=>by subst e;simp at l
 refine⟨λg=>⟨_,hB.cell rfl,_,hB.cell rfl,_,hB.cell rfl,_,hB.cell rfl,_,_,_,hB.cell rfl,_,_,_,hB.cell rfl,_,_,_,hB.cell rfl,_,_,_,hB.cell rfl,_,_,_,hB.cell rfl,_,_,_,hB.cell rfl,_,_,_,hB.cell rfl,_,hB.cell rfl,_,hB.cell rfl,_,hB.cell rfl,_,hB.cell rfl,⟨fin ?_ (acS (p:=p) (a:=a) w1)⟩⟩,λm=>?_⟩
 ·have g:n=5:=by
   have:(n:Int)=5:=by simpa using g
   omega
  subst g;rfl
 have m:n≠5:=λe=>by subst e;simp at m
 refine⟨λg=>⟨_,hB.cell rfl,_,hB.cell rfl,_,hB.cell rfl,_,hB.cell rfl,_,_,_,hB.cell rfl,_,_,_,hB.cell rfl,_,_,_,hB.cell rfl,_,_,_,hB.cell rfl,_,_,_,hB.cell rfl,_,_,_,hB.cell rfl,_,_,_,hB.cell rfl,_,hB.cell rfl,_,hB.cell rfl,_,hB.cell rfl,_,hB.cell rfl,⟨fin ?_ (acT c)⟩⟩,λo=>?_⟩
 ·have g:n=6:=by
   have:(n:Int)=6:=by simpa using g
   omega
  subst g;rfl
 have o:n≠6:=λe=>by subst e;simp at o
 refine⟨λg=>⟨_,hB.cell rfl,_,hB.cell rfl,_,hB.cell rfl,_,hB.cell rfl,_,_,_,hB.cell rfl,_,_,_,hB.cell rfl,_,_,_,hB.cell rfl,_,_,_,hB.cell rfl,_,_,_,hB.cell rfl,_,_,_,hB.cell rfl,_,_,_,hB.cell rfl,_,hB.cell rfl,_,hB.cell rfl,_,hB.cell rfl,_,hB.cell rfl,⟨fin ?_ (acU (p:=p) (a:=a) w1)⟩⟩,λq=>⟨?_,d⟩⟩
 ·have g:n=7:=by
   have:(n:Int)=7:=by simpa using g
   omega
  subst g;rfl
 ·have q:n≠7:=λe=>by subst e;simp at q
  unfold yZ;rw[af g1,af j,af k,af l,af m,af o,af q]
set_option maxRecDepth 100000 in
theorem Xl (l:mB w p a) (m:∀n,1<=n->n<=7->yZ p n=ag):Cx 28 #[.agg (eJ p a).toArray] w λe w'=>e=Z (.tuple #[I 0,I 0])/\av no w w':=by
 refine u28 ?_;refine⟨λw1 j=>⟨?_⟩⟩;have k:=j.ak no;have hB:aM w1 w.heap.size (eJ p a) 65:=j.aK;have d:=l.no k;generalize w.heap.size=o at hB⊢;refine bO bu (M:=Ca) (σ:=Nat) (λi=>HJ ⟨o,0,ah⟩ (i:Int)) (λi w'=>i<=7/\av no w1 w') (λi _=>7-i) 0 ⟨rfl,rfl,trivial⟩ ⟨cB _,av.refl _ _⟩ ?_;intro i r hI;have hi:=hI.1;have c:=hI.2;clear hI;have b:=hB.ak c (λh=>h);rw[afv];refine⟨λg=>?_,λg=>⟨rfl,k.trans c (λ_ _ h=>h)⟩⟩;have g:=aL g;have q:aV .i64 ((i:Int)+1)=((i+1:Nat):Int):=by rw[aP (by omega)];rfl
 rw[q];refine⟨_,b.cell rfl,_,b.cell rfl,_,b.cell rfl,_,b.cell rfl,_,_,_,b.cell rfl,_,_,_,b.cell rfl,_,_,_,b.cell rfl,_,_,_,b.cell rfl,_,_,_,b.cell rfl,_,_,_,b.cell rfl,_,_,_,b.cell rfl,_,b.cell rfl,_,b.cell rfl,_,b.cell rfl,_,b.cell rfl,⟨(adP (d.no c) (i+1)).mono ?_⟩⟩;rintro e s ⟨rfl,f⟩;rw[m (i+1) (by omega) (by omega)];exact⟨_,rfl,λg=>by simp at g,λ_=>⟨i+1,⟨rfl,rfl,trivial⟩,⟨by omega,c.trans f (λ_ _ h=>h)⟩,by omega⟩⟩
end
def ba (a b:Nat):Nat:=(a ^^^ b).log2/3
def gL (t k:Nat):Nat:=t/8 ^ k%8
def cy (now due:Nat):Nat:=if due<=now then 168 else ba due now*8+gL due (ba due now)
theorem Ge {a b:Nat} (h:a≠b):a ^^^ b≠0:=λe=>h (by
 apply Nat.eq_of_testBit_eq;intro i;have:=congrArg (λx=>x.testBit i) e;simp only[Nat.testBit_xor,Nat.zero_testBit]at this;cases h1:a.testBit i<;>cases c:b.testBit i<;>simp_all)
theorem TU {a b i:Nat}:a >>> i=b >>> i↔(a ^^^ b) >>> i=0:=by
 rw[Nat.shiftRight_xor_distrib];constructor
 ·intro h;rw[h];exact Nat.xor_self _
 ·intro h;by_cases e:a >>> i=b >>> i
  ·exact e
  ·exact absurd h (Ge e)
theorem Dr (a k:Nat):a/8 ^ k=a >>> (3*k):=by
 rw[Nat.shiftRight_eq_div_pow,Nat.pow_mul]
theorem AW {a b:Nat} (h:a≠b):a/8 ^ (ba a b+1)=b/8 ^ (ba a b+1):=by
 rw[Dr,Dr,TU,Nat.shiftRight_eq_div_pow];apply Nat.div_eq_of_lt;refine jM Nat.lt_log2_self (Nat.pow_le_pow_right (by omega) ?_);unfold ba;omega
theorem R6 {a b:Nat} (h:a≠b):a/8 ^ ba a b≠b/8 ^ ba a b:=by
 rw[Dr,Dr];intro e;rw[TU,Nat.shiftRight_eq_div_pow]at e;have c:=Nat.log2_self_le (Ge h);have d:2 ^ (3*ba a b)<=2 ^ (a ^^^ b).log2:=Nat.pow_le_pow_right (by omega) (by unfold ba;omega);have:=Nat.div_pos (aW d c) (Nat.pow_pos (by omega));omega
theorem Ap {a b j k:Nat} (h:a/8 ^ j=b/8 ^ j) (c:j<=k):a/8 ^ k=b/8 ^ k:=by
 obtain⟨d,rfl⟩:=Nat.le.dest c;rw[Nat.pow_add,<-Nat.div_div_eq_div_mul,<-Nat.div_div_eq_div_mul,h]
theorem aa2 {a b j:Nat} (d:a/8 ^ (j+1)=b/8 ^ (j+1)) (c:a/8 ^ j≠b/8 ^ j):ba a b=j:=by
 have h:a≠b:=λe=>c (by rw[e]);rcases Nat.lt_trichotomy (ba a b) j with k|k|k
 ·exact absurd (Ap (AW h) (by omega)) c
 ·exact k
 ·exact absurd (Ap d (by omega)) (R6 h)
theorem uD (t k:Nat):gL t k<8:=Nat.mod_lt _ (by omega)
theorem Fv (t k:Nat):t/8 ^ k=8*(t/8 ^ (k+1))+gL t k:=by
 unfold gL;rw[Nat.pow_succ,<-Nat.div_div_eq_div_mul];omega
theorem Jm {a b k:Nat} (h:a/8 ^ k<b/8 ^ k):a<b:=by
 rcases Nat.lt_or_ge a b with d|d
 ·exact d
 ·have:=Nat.div_le_div_right (c:=8 ^ k) d;omega
theorem aaL {a b:Nat} (k:Nat) (h:a<=b):a/8 ^ k<=b/8 ^ k:=Nat.div_le_div_right h
theorem Lt {now due:Nat} (h:now<due):now/8 ^ ba due now<due/8 ^ ba due now:=
 Nat.lt_of_le_of_ne (aaL _ (by omega)) (λe=>R6 (by omega) e.symm)
theorem yz {a b:Nat} (d:a<=2 ^ 60) (e:b<=2 ^ 60):ba a b<=20:=by
 by_cases h:a=b
 ·subst h;simp[ba]
 ·have c:a ^^^ b<2 ^ 61:=Nat.xor_lt_two_pow (by omega) (by omega);have:=(Nat.log2_lt (Ge h)).2 c;unfold ba;omega
theorem ZZ {now due:Nat} (a:due<=2 ^ 60) (b:now<=2 ^ 60):cy now due<=168:=by
 unfold cy;split
 ·omega
 ·have:=yz a b;have:=uD due (ba due now);omega
theorem Qm {now due:Nat} (h:now<due) (a:due<=2 ^ 60) (b:now<=2 ^ 60):ba due now*8+gL due (ba due now)<168:=by
 have:=yz a b;have:=uD due (ba due now);omega
theorem ZY {now c due:Nat} (h:now<c) (hd:now<due) (d:ba c now<ba due now∨ba due now=ba c now/\gL c (ba c now)<gL due (ba c now)) :
  c<due/\cy c due=cy now due:=by
 have f:=AW (a:=c) (b:=now) (by omega);have d1:=AW (a:=due) (b:=now) (by omega);have i:=Lt hd
 have key:c/8 ^ ba due now<due/8 ^ ba due now/\due/8 ^ (ba due now+1)=c/8 ^ (ba due now+1):=by
  rcases d with d|⟨d,j⟩
  ·have l:=Ap f (k:=ba due now) (by omega);have m:=Ap f (k:=ba due now+1) (by omega);exact⟨by omega,by omega⟩
  ·rw[d]at d1⊢;have n:=Fv due (ba c now);have o:=Fv c (ba c now);exact⟨by omega,by omega⟩
 have e:=Jm key.1;have g:ba due c=ba due now:=aa2 key.2 (by omega);refine⟨e,?_⟩;unfold cy;rw[af (by omega),af (by omega),g]
theorem Z0 {now a b:Nat} (g:now<a) (e:now<b) (h:ba a now*8+gL a (ba a now)<ba b now*8+gL b (ba b now)):a<b:=by
 have d:=AW (a:=a) (b:=now) (by omega);have i:=AW (a:=b) (b:=now) (by omega);have j:=Lt e;have ga:=uD a (ba a now);have l:=uD b (ba b now);rcases Nat.lt_or_ge (ba a now) (ba b now)with f|f
 ·have m:=Ap d (k:=ba b now) (by omega);exact Jm (k:=ba b now) (by omega)
 ·have c:ba a now=ba b now:=by omega
  rw[c]at d h;have n:=Fv a (ba b now);have o:=Fv b (ba b now);exact Jm (k:=ba b now) (by omega)
def lh (x:Nat):Nat:=if x=0 then 0 else x.log2+1
theorem Je {x k:Nat} (h:2 ^ k<=x):lh x=lh (x/2 ^ k)+k:=by
 have a:0<2 ^ k:=Nat.pow_pos (by omega);have b:x≠0:=by omega
 have c:x/2 ^ k≠0:=λe=>by
  have:=Nat.div_pos h a;omega
 unfold lh;rw[af b,af c]
 have e:x.log2=(x/2 ^ k).log2+k:=by
  rw[Nat.log2_eq_iff b];have d:=Nat.log2_self_le c;have f:=@Nat.lt_log2_self (x/2 ^ k);constructor
  ·rw[Nat.pow_add];exact aW (fM _ d) (Nat.div_mul_le_self _ _)
  ·rw[Nat.add_right_comm,Nat.pow_add];exact(Nat.div_lt_iff_lt_mul a).1 f
 omega
def RW:ByteArray:=ByteArray.mk #[0,1,2,2,3,3,3,3,4,4,4,4,4,4,4,4,5,5,5,5,5,5,5,5,5,5,5,5,5,5,5,5,6,6,6,6,6,6,6,6,6,6,6,6,6,6,6,6,6,6,6,6,6,6,6,6,6,6,6,6,6,6,6,6,7,7,7,7,7,7,7,7,7,7,7,7,7,7,7,7,7,7,7,7,7,7,7,7,7,7,7,7,7,7,7,7,7,7,7,7,7,7,7,7,7,7,7,7,7,7,7,7,7,7,7,7,7,7,7,7,7,7,7,7,7,7,7,7,8,8,8,8,8,8,8,8,8,8,8,8,8,8,8,8,8,8,8,8,8,8,8,8,8,8,8,8,8,8,8,8,8,8,8,8,8,8,8,8,8,8,8,8,8,8,8,8,8,8,8,8,8,8,8,8,8,8,8,8,8,8,8,8,8,8,8,8,8,8,8,8,8,8,8,8,8,8,8,8,8,8,8,8,8,8,8,8,8,8,8,8,8,8,8,8,8,8,8,8,8,8,8,8,8,8,8,8,8,8,8,8,8,8,8,8,8,8,8,8,8,8,8,8,8,8,8,8]
theorem aaQ:(bU 256).all (λn=>RW[n]?==aa (UInt8.ofNat (lh n)))=ag:=by kernel_rfl
theorem RX {n:Nat} (h:n<256):RW[n]?=aa (UInt8.ofNat (lh n)):=by
 have:=fL.1 aaQ n (cD.2 h);simpa using this
theorem Jf {n:Nat} (h:n<256):lh n<=8:=by
 unfold lh;split
 ·omega
 ·have:=(Nat.log2_lt (n:=n) (k:=8) (by assumption)).2 h;omega
theorem RY {n:Nat} (h:n<256):((UInt8.ofNat (lh n)).toNat:Int)=(lh n:Int):=by
 have:=Jf h;rw[UInt8.toNat_ofNat_of_lt' (show lh n<256 by omega)]
theorem U7 {x:Nat} (h:x<256):aV .u8 (x:Int)=(x:Int):=by
 unfold aV;simp[lQ,kl];omega
theorem RV {x:Nat} (h:x<65536) {c n:Nat} (i:n=lh x+c) (j:c<=48) (w:World):aU Tryz.prog sS Da (DD (x:Int) (c:Int)) w (Eb λe w'=>e=Z (I (n:Int))/\w'=w):=by
 refine aU.mk ?_;rw[afO];refine⟨λg=>?_,λg=>?_⟩
 ·have g:=aL g;have a:x/256<256:=by omega
  have d:aS .u64 (x:Int) 8=((x/256:Nat):Int):=tV x (k:=8) (by omega) rfl;have f:=Je (x:=x) (k:=8) (by omega);have b:=Jf a;rw[show(2:Nat) ^ 8=256 from rfl]at f;rw[d,U7 a];refine⟨by decide,⟨by omega,by omega⟩,_,⟨_,by rw[bQ];exact RX a,RY a⟩,?_,rfl⟩;rw[aP (x:=(c:Int)+8) (by omega),aP (x:=(lh (x/256):Int)) (by omega),aP (by omega)];congr 2;omega
 ·have g:=aT g;have a:x<256:=by omega
  have b:=Jf a;rw[U7 a];refine⟨⟨by omega,by omega⟩,_,⟨_,by rw[bQ];exact RX a,RY a⟩,?_,rfl⟩;rw[aP (x:=(lh x:Int)) (by omega),aP (by omega)];congr 2;omega
theorem RU {x:Nat} (f:x<4294967296) {c n:Nat} (a:n=lh x+c) (h:c<=32) (w:World):aU Tryz.prog sS C9 (DC (x:Int) (c:Int)) w (Ea λe w'=>e=Z (I (n:Int))/\w'=w):=by
 refine aU.mk ?_;rw[afN];refine⟨λg=>⟨by decide,?_⟩,λg=>?_⟩
 ·have g:=aL g;have b:aS .u64 (x:Int) 16=((x/65536:Nat):Int):=tV x (k:=16) (by omega) rfl;have d:=Je (x:=x) (k:=16) (by omega);rw[show(2:Nat) ^ 16=65536 from rfl]at d;rw[b,aP (by omega)];exact RV (c:=c+16) (by omega) (by omega) (by omega) w
 ·have g:=aT g;exact RV (by omega) a (by omega) w
theorem aaO {x:Nat} (d:x<2 ^ 64) (w:World):Cx 371 #[.int .u64 (x:Int)] w λe w'=>e=Z (I (lh x:Int))/\w'=w:=by
 refine ak8 ?_;refine⟨λg=>⟨by decide,?_⟩,λg=>?_⟩
 ·have g:=aL g;have a:aS .u64 (x:Int) 32=((x/4294967296:Nat):Int):=tV x (k:=32) (by omega) rfl;have b:=Je (x:=x) (k:=32) (by omega);rw[show(2:Nat) ^ 32=4294967296 from rfl]at b;rw[a];exact RU (c:=32) (by omega) (by omega) (by omega) w
 ·have g:=aT g;exact RU (c:=0) (by omega) (by omega) (by omega) w
theorem amm {a b:Nat} (c:a<=2 ^ 60) (d:b<=2 ^ 60):aH .xor .i64 (a:Int) (b:Int)=((a ^^^ b:Nat):Int):=by
 have h:a ^^^ b<2 ^ 61:=Nat.xor_lt_two_pow (by omega) (by omega);show aV .i64 ((ib 64 (a:Int) ^^^ ib 64 (b:Int)).toNat:Int)=_
 have e:(ib 64 (a:Int) ^^^ ib 64 (b:Int)).toNat=a ^^^ b:=by
  rw[BitVec.toNat_xor];simp only[BitVec.ofInt_natCast,oc];rw[jr (by omega),jr (by omega)]
 rw[e,aP (by omega)]
theorem R0 {a b:Nat} (d:a<=2 ^ 60) (f:b<=2 ^ 60) (h:a≠b) (w:World):Cx 314 #[I (a:Int),I (b:Int)] w λe w'=>e=Z (I (ba a b:Int))/\w'=w:=by
 have i:a ^^^ b<2 ^ 61:=Nat.xor_lt_two_pow (by omega) (by omega);have c:=Ge h;have g:=(Nat.log2_lt c).2 i;refine akn ?_;rw[amm d f];rw[BO (by omega)];refine⟨(aaO (x:=a ^^^ b) (by omega) w).mono ?_⟩;rintro e w1 ⟨rfl,rfl⟩;refine⟨_,rfl,by decide,?_,rfl⟩;have j:(lh (a ^^^ b):Int)=((a ^^^ b).log2:Int)+1:=by unfold lh;rw[af c];omega
 rw[j,show((a ^^^ b).log2:Int)+1-1=((a ^^^ b).log2:Int) by omega,aP (x:=((a ^^^ b).log2:Int)) (by omega)]
 have k:jq ((a ^^^ b).log2:Int) 3=((ba a b:Nat):Int):=by
  rw[xw (by omega)];unfold ba;omega
 have l:=yz d f;rw[k,aP (by omega)]
theorem OC {t k:Nat} (c:t<=2 ^ 60) (d:k<=20) (w:World):Cx 316 #[I (t:Int),I (k:Int)] w λe w'=>e=Z (I (gL t k:Int))/\w'=w:=by
 refine akp ?_;rw[aP (x:=3*(k:Int)) (by omega)];refine⟨by omega,by decide,?_,rfl⟩
 have a:aS .i64 (t:Int) (3*(k:Int))=((t/8 ^ k:Nat):Int):=by
  unfold aS;have b:min (3*(k:Int)).toNat bj.bits=3*k:=by show min _ 64=3*k;omega
  rw[b,show((2:Int) ^ (3*k))=((2 ^ (3*k):Nat):Int) by simp,vB _ (Int.natCast_nonneg _),<-Int.natCast_ediv,Nat.pow_mul]
 rw[a];rfl
theorem K7 (n:Int) (w:World):Cx 198 #[I n] w λe w'=>e=Z (.bool (decide (bD n)))/\w'=w:=by
 refine aiB ?_;refine⟨λg=>⟨?_,rfl⟩,λg=>⟨?_,rfl⟩⟩
 ·have:=aL g;congr 2;exact decide_eq_decide.2 (by unfold bD;omega)
 ·have:=aT g;congr 2;exact(decide_eq_false (λa=>absurd a.1 this)).symm
abbrev dd:=Int->Option Int
def fE (now:Int) (g:dd) (id:Int):Nat:=cy now.toNat ((g id).getD 0).toNat
def sO (now:Int) (g:dd) (L:List (List Int)) (id:Int):List (List Int):=L.set (fE now g id) (L.getD (fE now g id) []++[id])
def jC (now:Int) (g:dd) (L:List (List Int)) (ids:List Int):List (List Int):=ids.foldl (sO now g) L
theorem al1 (now:Int) (g:dd) (L:List (List Int)) (id:Int):sO now g L id=L.set (fE now g id) (L.getD (fE now g id) []++[id]):=rfl
theorem ac0 (now:Int) (g:dd) (L:List (List Int)) (ids:List Int) (id:Int):jC now g L (ids++[id])=sO now g (jC now g L ids) id:=by
 unfold jC;rw[mH];rfl
theorem UY (now:Int) (g:dd) (L:List (List Int)) (id:Int):(sO now g L id).length=L.length:=by simp[sO]
theorem EN (now:Int) (g:dd):∀(ids:List Int) (L:List (List Int)),(jC now g L ids).length=L.length
 | [],_=>rfl
 | id::ids,L=>by
  show(jC now g (sO now g L id) ids).length=_;rw[EN now g ids,UY]
theorem al0 {now:Int} {g:dd} {L:List (List Int)} {id:Int} (h:fE now g id<L.length) (i:Nat):(sO now g L id).getD i []=if i=fE now g id then L.getD i []++[id]else L.getD i []:=by
 unfold sO;simp only[aO,cJ];by_cases hi:fE now g id=i
 ·subst hi;simp[h]
 ·have a:¬i=fE now g id:=λe=>hi e.symm;simp[hi,a]
structure kj (now:Int) (L:List (List Int)) (g:dd):Prop where
 tk:bD now
 len:L.length=169
 due:∀id d,g id=aa d->(1<=id/\id<=48)/\bD d
 at_:∀i id,id∈L.getD i []↔∃d,g id=aa d/\cy now.toNat d.toNat=i
 nd:∀i,(L.getD i []).Nodup
theorem FG {n:Int} (h:bD n):∃k:Nat,n=(k:Int)/\k<=2 ^ 60:=⟨n.toNat,by unfold bD at h;omega,by unfold bD at h;omega⟩
theorem zl {n:Int} (h:bD n):n.toNat<=2 ^ 60:=by unfold bD at h;omega
theorem AK {now:Int} {g:dd} {id d:Int} (a:bD now) (hd:bD d) (h:g id=aa d):fE now g id<169:=by
 unfold fE;rw[h];have:=ZZ (now:=now.toNat) (due:=d.toNat) (zl hd) (zl a);simp only[ie];omega
theorem Kg {l:List Int} (h:l.Nodup) (a:∀id∈l,1<=id/\id<=48):l.length<=48:=by
 have:=h.length_le_of_subset (l₂:=(bU 48).map (λ(k:Nat)=>(k:Int)+1)) (λv b=>by
  have:=a v b;exact ck.2 ⟨v.toNat-1,cD.2 (by omega),by omega⟩)
 simpa using this
theorem kj.yT {now:Int} {L:List (List Int)} {g:dd} (h:kj now L g) (i:Nat):(L.getD i []).length<=48:=
 Kg (h.nd i) λid a=>by
  obtain⟨d,hd,_⟩:=(h.at_ i id).1 a;exact(h.due id d hd).1
theorem JN {now:Int} {g:dd}:∀(ids:List Int) (L:List (List Int)) (f:ids.Nodup) (j:∀id∈ids,fE now g id<L.length) (d:∀id∈ids,∀i,id∉L.getD i []) (c:∀i,(L.getD i []).Nodup),
  (∀i id,id∈(jC now g L ids).getD i []↔id∈L.getD i []∨(id∈ids/\fE now g id=i))/\∀i,((jC now g L ids).getD i []).Nodup
 | [],L,_,_,_,c=>⟨λi id=>by simp[jC],c⟩
 | x::ids,L,f,j,d,c=>by
  have l:=mG.1 f;have n:=j x (i6);have e:=al0 n
  obtain⟨o,p⟩:=JN (now:=now) (g:=g) ids (sO now g L x) l.2 (λid h=>by rw[UY];exact j id (rP _ h)) (λid h i=>by
   rw[e i];split
   ·rw[eG,gJ];rintro(k|rfl)
    ·exact d id (rP _ h) i k
    ·exact l.1 h
   ·exact d id (rP _ h) i) (λi=>by
   rw[e i];split
   ·refine jO.2 ⟨c i,by simp,λa q b m=>?_⟩;rw[gJ]at m;subst m;rintro rfl;exact d a i6 i q
   ·exact c i)
  refine⟨λi id=>?_,p⟩;show id∈(jC now g (sO now g L x) ids).getD i []↔_;rw[o,e i];split
  ·rename_i hi;subst hi;simp only[eG,gJ,ez];constructor
   ·rintro((h|h)|h)
    ·exact .inl h
    ·have h:id=x:=by simpa using h
     subst h;exact .inr ⟨.inl rfl,rfl⟩
    ·exact .inr ⟨.inr h.1,h.2⟩
   ·rintro(h|⟨rfl|h,k⟩)
    ·exact .inl (.inl h)
    ·exact .inl (.inr (by simp))
    ·exact .inr ⟨h,k⟩
  ·rename_i hi;simp only[ez];constructor
   ·rintro(h|h)
    ·exact .inl h
    ·exact .inr ⟨.inr h.1,h.2⟩
   ·rintro(h|⟨rfl|h,k⟩)
    ·exact .inl h
    ·exact absurd k.symm hi
    ·exact .inr ⟨h,k⟩
def qN (g:dd) (id d:Int):dd:=λj=>if j=id then aa d else g j
def pQ (g:dd) (id:Int):dd:=λj=>if j=id then ah else g j
theorem kj.add {now:Int} {L:List (List Int)} {g:dd} (h:kj now L g) {id d:Int} (k:1<=id/\id<=48) (hd:bD d) (m:g id=ah):kj now (jC now (qN g id d) L [id]) (qN g id d):=by
 have a:qN g id d id=aa d:=by simp[qN]
 have l:∀i,id∉L.getD i []:=λi hi=>by
  obtain⟨q,n,_⟩:=(h.at_ i id).1 hi;rw[m]at n;cases n
 obtain⟨o,p⟩:=JN (now:=now) (g:=qN g id d) [id] L (by simp) (λx b=>by
  rw[gJ]at b;subst b;rw[h.len]
  exact AK h.tk hd a) (λx b i=>by
  rw[gJ]at b;subst b;exact l i) h.nd
 refine⟨h.tk,by rw[EN];exact h.len,λj e f=>?_,λi j=>?_,p⟩
 ·unfold qN at f;split at f
  ·cases f;rename_i c;rw[c];exact⟨k,hd⟩
  ·exact h.due j e f
 ·rw[o,h.at_];simp only[gJ];by_cases c:j=id
  ·subst c;rw[m,a];simp[fE,a]
  ·have e:qN g id d j=g j:=by simp[qN,c]
   rw[e];simp[c]
theorem kj.del {now:Int} {L:List (List Int)} {g:dd} (h:kj now L g) {id d:Int} (l:g id=aa d):kj now (L.set (fE now g id) ((L.getD (fE now g id) []).filter λx=>!(x==id))) (pQ g id):=by
 have b:fE now g id<L.length:=by rw[h.len];exact AK h.tk (h.due id d l).2 l
 have e:∀i,(L.set (fE now g id) ((L.getD (fE now g id) []).filter λx=>!(x==id))).getD i []=if i=fE now g id then(L.getD i []).filter (λx=>!(x==id))else L.getD i []:=λi=>by
  simp only[aO,cJ];by_cases hi:fE now g id=i
  ·subst hi;simp[b]
  ·have c:¬i=fE now g id:=λe=>hi e.symm;simp[hi,c]
 refine⟨h.tk,by simpa using h.len,λj e a=>?_,λi j=>?_,λi=>?_⟩
 ·unfold pQ at a;split at a
  ·cases a
  ·exact h.due j e a
 ·rw[e i];by_cases f:j=id
  ·subst f;have:pQ g j j=ah:=by simp[pQ]
   rw[this];split
   ·simp
   ·rename_i hi;constructor
    ·intro m;obtain⟨p,k,n⟩:=(h.at_ i j).1 m;refine absurd ?_ hi;unfold fE;rw[k];exact n.symm
    ·rintro⟨_,k,_⟩;cases k
  ·have o:pQ g id j=g j:=by simp[pQ,f]
   rw[o,<-h.at_];split
   ·simp[f]
   ·exact bp
 ·rw[e i];split
  ·exact(h.nd i).filter _
  ·exact h.nd i
def fk (L:List (List Int)) (a k:Nat):List (List Int):=L.take a++aD k []++L.drop (a+k)
theorem Pc (L:List (List Int)) (a:Nat):fk L a 0=L:=by simp[fk]
theorem qL {L:List (List Int)} {a k:Nat} (h:a+k<=L.length):(fk L a k).length=L.length:=by simp[fk];omega
theorem r9 {L:List (List Int)} {a k:Nat} (h:a+k<=L.length) (i:Nat):(fk L a k).getD i []=if a<=i/\i<a+k then[]else L.getD i []:=by
 unfold fk;simp only[aO];by_cases h1:i<a
 ·rw[af (by omega),jP,kr (by simp;omega),List.getElem?_take_of_lt h1]
 ·rw[jP,lP (by simp;omega)];have e:(L.take a).length=a:=by simp;omega
  rw[e];by_cases b:i<a+k
  ·rw[aj ⟨by omega,b⟩,kr (by simp;omega),jt,aj (by omega)];rfl
  ·rw[af (by omega),lP (by simp;omega),fW,ik,show a+k+(i-a-k)=i by omega]
theorem R1 {L M:List (List Int)} (a:L.length=M.length) (h:∀i,L.getD i []=M.getD i []):L=M:=by
 apply List.ext_getElem a;intro i b c;have:=h i;simpa [aO,b,c]using this
theorem Yj {L:List (List Int)} {a k:Nat} (h:a+k<L.length):(fk L a k).set (a+k) []=fk L a (k+1):=by
 refine R1 (by rw[bN,qL (by omega),qL (by omega)]) λi=>?_;rw[r9 (by omega)]
 have e:((fk L a k).set (a+k) []).getD i []=if a+k=i then[]else(fk L a k).getD i []:=by
  simp only[aO,cJ,qL (show a+k<=L.length by omega)];by_cases hi:a+k=i
  ·rw[aj hi,aj hi,aj (by omega)];rfl
  ·rw[af hi,af hi]
 rw[e,r9 (by omega)];by_cases hi:a+k=i
 ·rw[aj hi,aj (by omega)]
 ·rw[af hi];by_cases h1:a<=i/\i<a+k
  ·rw[aj h1,aj (by omega)]
  ·rw[af h1,af (by omega)]
def dN (L:List (List Int)) (a k:Nat):List Int:=((bU k).map λj=>L.getD (a+j) []).flatten
theorem vZ (L:List (List Int)) (a k:Nat):dN L a (k+1)=dN L a k++L.getD (a+k) []:=by
 unfold dN;rw[nq,eI,List.flatten_append];simp
theorem DQ (L:List (List Int)) (a:Nat):dN L a 0=[]:=rfl
theorem yC {L:List (List Int)} {a k:Nat} {id:Int}:id∈dN L a k↔∃i,(a<=i/\i<a+k)/\id∈L.getD i []:=by
 unfold dN;rw[List.mem_flatten];constructor
 ·rintro⟨l,c,b⟩;obtain⟨j,d,rfl⟩:=ck.1 c;have:=cD.1 d;exact⟨a+j,⟨by omega,by omega⟩,b⟩
 ·rintro⟨i,hi,b⟩;exact⟨_,ck.2 ⟨i-a,cD.2 (by omega),rfl⟩,by rw[show a+(i-a)=i by omega];exact b⟩
theorem PS (L:List (List Int)) (a:Nat):∀k,dN L 0 (a+k)=dN L 0 a++dN (fk L 0 a) a k∨¬a+k<=L.length
 | 0=>.inl (by simp[DQ])
 | k+1=>by
  by_cases h:a+(k+1)<=L.length
  ·refine .inl ?_;rcases PS L a k with b|b
   ·rw[show a+(k+1)=(a+k)+1 by omega,vZ,b,vZ,jP,eU,r9 (by omega),af (by omega)]
   ·omega
  ·exact .inr h
theorem Yi {L:List (List Int)} {a k:Nat} (h:a+k<=L.length):fk (fk L 0 a) a k=fk L 0 (a+k):=by
 have b:(fk L 0 a).length=L.length:=qL (by omega);refine R1 (by rw[qL (by rw[b];exact h),b,qL (by omega)]) λi=>?_;rw[r9 (by rw[b];exact h),r9 (by omega),r9 (by omega)];by_cases h1:a<=i/\i<a+k
 ·rw[aj h1,aj (by omega)]
 ·rw[af h1];by_cases c:i<a
  ·rw[aj (by omega),aj (by omega)]
  ·rw[af (by omega),af (by omega)]
theorem kj.go {now c:Int} {L:List (List Int)} {g:dd} (h:kj now L g) (u:bD c) (z:now<c) :
  let N:=ba c.toNat now.toNat*8+(gL c.toNat (ba c.toNat now.toNat)+1)
  N<=168/\(dN L 0 N).Nodup/\(∀id∈dN L 0 N,∃d,g id=aa d/\bD d)/\kj c (jC c g (fk L 0 N) (dN L 0 N)) g:=by
 intro N;have A:=zl h.tk;have w:=zl u;have q:now.toNat<c.toNat:=by have:=h.tk;unfold bD at this;omega
 have B:=yz w A;have C:=uD c.toNat (ba c.toNat now.toNat);have D:N<=168:=by omega
 have n:0+N<=L.length:=by rw[h.len];omega
 have f:∀id∈dN L 0 N,∃d,g id=aa d/\bD d:=λid j=>by
  obtain⟨i,_,hi⟩:=yC.1 j;obtain⟨d,hd,_⟩:=(h.at_ i id).1 hi;exact⟨d,hd,(h.due id d hd).2⟩
 have r:∀k,k<=N->(dN L 0 k).Nodup:=by
  intro k
  induction k with
  | zero=>intro _;rw[DQ];exact ju
  | succ k E=>
   intro T;rw[vZ];refine jO.2 ⟨E (by omega),h.nd _,λa F b G=>?_⟩;rintro rfl;obtain⟨i,hi,m⟩:=yC.1 F;obtain⟨d,hd,o⟩:=(h.at_ i a).1 m;obtain⟨H,l,I⟩:=(h.at_ _ a).1 G;rw[hd]at l;cases l;omega
 refine⟨D,r N (aX _),f,?_⟩;have x:=r9 n
 obtain⟨J,K⟩:=JN (now:=c) (g:=g) (dN L 0 N) (fk L 0 N) (r N (aX _)) (λid j=>by
  obtain⟨d,hd,M⟩:=f id j;rw[qL n,h.len]
  exact AK u M hd) (λid j i hi=>by
  rw[x i]at hi;split at hi
  ·cases hi
  ·rename_i e;obtain⟨O,P,m⟩:=yC.1 j;obtain⟨d,hd,o⟩:=(h.at_ O id).1 m;obtain⟨H,l,I⟩:=(h.at_ i id).1 hi;rw[hd]at l;cases l
   omega) (λi=>by
  rw[x i];split
  ·exact ju
  ·exact h.nd i)
 refine⟨u,by rw[EN,qL n];exact h.len,h.due,λi id=>?_,K⟩;rw[J,x i];have s:∀d,g id=aa d->fE c g id=cy c.toNat d.toNat:=λd hd=>by unfold fE;rw[hd];rfl
 have keep:∀d,g id=aa d->¬(0<=cy now.toNat d.toNat/\cy now.toNat d.toNat<0+N)->cy c.toNat d.toNat=cy now.toNat d.toNat:=λd hd e=>by
  by_cases y:d.toNat<=now.toNat
  ·unfold cy;rw[aj y,aj (by omega)]
  ·have Q:cy now.toNat d.toNat=ba d.toNat now.toNat*8+gL d.toNat (ba d.toNat now.toNat):=by unfold cy;rw[af y]
   have R:=uD d.toNat (ba d.toNat now.toNat);refine(ZY q (by omega) ?_).2;rw[Q]at e;rcases Nat.lt_trichotomy (ba c.toNat now.toNat) (ba d.toNat now.toNat)with p|p|p
   ·exact .inl p
   ·refine .inr ⟨p.symm,?_⟩;rw[p];show gL c.toNat (ba d.toNat now.toNat)<_;have S:N=ba d.toNat now.toNat*8+(gL c.toNat (ba d.toNat now.toNat)+1):=by show ba c.toNat now.toNat*8+(gL c.toNat (ba c.toNat now.toNat)+1)=_;rw[p]
    omega
   ·exfalso;have:N=ba c.toNat now.toNat*8+(gL c.toNat (ba c.toNat now.toNat)+1):=rfl;omega
 constructor
 ·rintro(m|⟨m,hi⟩)
  ·split at m
   ·cases m
   ·rename_i e;obtain⟨d,hd,o⟩:=(h.at_ i id).1 m;subst o;exact⟨d,hd,keep d hd e⟩
  ·obtain⟨d,hd,_⟩:=f id m;exact⟨d,hd,by rw[<-s d hd];exact hi⟩
 ·rintro⟨d,hd,o⟩;have t:=(h.at_ (cy now.toNat d.toNat) id).2 ⟨d,hd,rfl⟩;by_cases e:0<=cy now.toNat d.toNat/\cy now.toNat d.toNat<0+N
  ·exact .inr ⟨yC.2 ⟨_,e,t⟩,by rw[s d hd];exact o⟩
  ·refine .inl ?_;have:=keep d hd e;rw[o]at this;subst this;rw[af e];exact t
theorem ue:qq Tryz.prog 285 3 2 (I 0):=⟨by kernel_rfl,by kernel_rfl,by kernel_rfl,by kernel_rfl⟩
abbrev my:=(Int->Option Int)×Nat
abbrev xg:=Int×List (List Int)×my
def mw (bm:Nat) (s:Int×List jJ):List Value:=I s.1::.map (aa bm)::s.2.map iq
theorem aF.aaN {σ τ:Type} {A:Ob σ} {B:Ob τ} {w:World} {F:Fp} [e:Frame B] {x:σ×τ} (h:aF A B w F x):∃F1,A w F1 x.1/\(∀j,F1 j->F j)/\∀w' d,ai A w w' F1 d->ai (aF A B) w w' F (d,x.2):=by
 obtain⟨F1,F2,m,f,a,g⟩:=h;refine⟨F1,m,λj o=>(a j).2 (.inl o),?_⟩;rintro w' d ⟨k,p,k2,l⟩;refine⟨λi=>k i∨F2 i,⟨k,F2,p,e.ak f k2 (λi hi c=>g i c hi),λ_=>bp,λi hi c=>?_⟩,k2.mono (λi _ hi=>(a i).2 (.inl hi)),λi hi=>?_⟩
 ·rcases l i hi with h|h
  ·exact g i h c
  ·have:=e.lt f i c;omega
 ·rcases hi with hi|hi
  ·exact(l i hi).imp (λh=>(a i).2 (.inl h)) id
  ·exact .inl ((a i).2 (.inr hi))
def rL (b bm:Nat):Ob (Int×List jJ):=λw F s=>aF (Rw b 289 (mw bm)) (Fam (Ls 3)) w F (s,s.2)
instance Frame.wro (b bm:Nat):Frame (rL b bm) where
 ak:=λh k a=>Frame.star.ak h k a
 lt:=λh=>Frame.star.lt h
def ey (b:Nat):Ob xg:=λw F x=>∃bm ys,aF (rL b bm) (bM bm (aB .i64)) w F ((x.1,ys),x.2.2)/\rws ys=x.2.1
instance Frame.ax (b:Nat):Frame (ey b) where
 ak:=λ⟨bm,ys,h,r⟩ k a=>⟨bm,ys,Frame.star.ak h k a,r⟩
 lt:=λ⟨_,_,h,_⟩=>Frame.star.lt h
theorem aed (a c:Value) (l vs:List Value) (i:Nat):bc (a::c::l) (2+i) vs=a::c::bc l i vs:=by
 unfold bc;rw[show 2+i=i+2 by omega,show i+2+vs.length=(i+vs.length)+2 by omega];simp
section
variable {b bm:Nat} {w:World} {F:Fp} {n:Int} {ys:List jJ}
theorem rL.at (h:rL b bm w F (n,ys)) {i:Nat} (hi:i<ys.length):∃F1,Ls 3 w F1 ys[i]/\(∀j,F1 j->F j)/\(∀w',av F1 w w'->w'.cell? ((⟨b,0,ah⟩:Addr).add (2+i))=aa (iq ys[i]))/\
  ∀w1 (q:jJ),ai (Ls 3) w w1 F1 q->∀K:World->Prop,(∀w',ai (rL b bm) w w' F (n,ys.set i q)->K w')->Wr w1 ((⟨b,0,ah⟩:Addr).add (2+i)) [iq q] K:=by
 obtain⟨G1,G2,g,r,d,l⟩:=h;simp only at g r;obtain⟨F1,B,s,k2⟩:=Fam.at r hi;have C:∀w',av F1 w w'->Rw b 289 (mw bm) w' G1 (n,ys):=λw' k=>(Frame.rw ..).ak g k (λj a c=>l j a (s j c));refine⟨F1,B,λj a=>(d j).2 (.inr (s j a)),λw' k=>?_,λw1 q k K D=>?_⟩
 ·refine(C w' k).ay.cell ?_;rw[show 2+i=i+2 by omega];simp[mw,hi]
 ·obtain⟨t,u,m,o⟩:=k2 _ _ k;have e:=(Frame.rw ..).ak g m l;refine e.ay.wr (k:=2+i) (by simp[mw];omega) λw' p=>D w' ?_
  have E:bc (mw bm (n,ys)) (2+i) [iq q]=mw bm (n,ys.set i q):=by
   unfold mw;rw[aed,vd hi]
  rw[E]at p;have G:=e.gD (w':=w') (s':=(n,ys.set i q)) p.U p.aK;obtain⟨y,t1,t2,z⟩:=G;have f:=(Frame.rw ..).lt g;refine⟨λj=>y j∨t j,⟨y,t,t1,Frame.mQ.ak u t2 ?_,λ_=>bp,?_⟩,?_,?_⟩
  ·intro j a c;rcases o j a with h|h
   ·exact l j c h
   ·have:=f j c;omega
  ·intro j a c;rcases z j a with h|h
   ·rcases o j c with A|A
    ·exact l j h A
    ·have:=f j h;omega
   ·have:=Frame.mQ.lt u j c;omega
  ·exact(m.mono (λj _ a=>(d j).2 (.inr a))).trans t2 (λj _ a=>(d j).2 (.inl a))
  ·rintro j (a|a)
   ·rcases z j a with h|h
    ·exact .inl ((d j).2 (.inl h))
    ·exact .inr (aW m.size h)
   ·rcases o j a with h|h
    ·exact .inl ((d j).2 (.inr h))
    ·exact .inr h
theorem rL.ay (h:rL b bm w F (n,ys)):aM w b (mw bm (n,ys)) 289:=by
 obtain⟨F1,a,_⟩:=aF.left h;exact a.ay
theorem rL.tick (h:rL b bm w F (n,ys)) (v:Int) {K:World->Prop} (d:∀w',ai (rL b bm) w w' F (v,ys)->K w'):Wr w ((⟨b,0,ah⟩:Addr).add 0) [I v] K:=by
 obtain⟨F1,a,e⟩:=aF.left h;refine a.ay.wr (k:=0) (by simp[mw]) λw' c=>d w' ?_;obtain⟨f,g,i⟩:=e _ (v,ys) (a.gD (s':=(v,ys)) c.U c.aK);exact⟨f,g,i⟩
end
section
variable {b:Nat} {w:World} {F:Fp} {x:xg}
structure Vc (b:Nat) (w:World) (F:Fp) (x:xg) (i:Nat) (p:Option Addr) (c:Nat) (F1:Fp):Prop where
 ls:Ls 3 w F1 (p,c,x.2.1.getD i [])
 sub:∀j,F1 j->F j
 cell:∀w',av F1 w w'->w'.cell? ((⟨b,0,ah⟩:Addr).add (2+i))=aa (.slice p (x.2.1.getD i []).length c)
 put:∀w1 p' c' l',ai (Ls 3) w w1 F1 (p',c',l')->∀K:World->Prop,(∀w',ai (ey b) w w' F (x.1,x.2.1.set i l',x.2.2)->K w')->Wr w1 ((⟨b,0,ah⟩:Addr).add (2+i)) [.slice p' l'.length c'] K
theorem ey.at (h:ey b w F x) {i:Nat} (hi:i<x.2.1.length):∃p c F1,Vc b w F x i p c F1:=by
 obtain⟨n,L,m⟩:=x;obtain⟨bm,ys,h,f⟩:=h;simp only at h f hi;subst f;have a:i<ys.length:=by simpa [rws]using hi
 have g:(rws ys).getD i []=ys[i].2.2:=by
  rw[aO,cO hi,ie,By ys a]
 obtain⟨G,k,d,l⟩:=aF.aaN h;obtain⟨F1,o,q,r,s⟩:=k.at a;refine⟨ys[i].1,ys[i].2.1,F1,?_,λj t=>d j (q j t),?_,?_⟩
 ·simp only[g];exact o
 ·intro w' u;simp only[g];exact r w' u
 ·intro w1 p' c' l' y K z;refine s w1 (p',c',l') y K λw' e=>z w' ?_;obtain⟨A,B,C⟩:=l _ _ e;exact⟨A,⟨bm,_,B,TI ..⟩,C⟩
theorem ey.ay (h:ey b w F x):∃bm ys,aM w b (mw bm (x.1,ys)) 289:=by
 obtain⟨bm,ys,h,_⟩:=h;obtain⟨G,a,_⟩:=aF.left h;exact⟨bm,ys,a.ay⟩
theorem ey.tick (h:ey b w F x) (v:Int) {K:World->Prop} (a:∀w',ai (ey b) w w' F (v,x.2)->K w'):Wr w ((⟨b,0,ah⟩:Addr).add 0) [I v] K:=by
 obtain⟨bm,ys,h,r⟩:=h;obtain⟨G,c,d⟩:=aF.left h;refine c.tick v λw' e=>a w' ?_;obtain⟨f,g,i⟩:=d _ _ e;exact⟨f,⟨bm,ys,g,r⟩,i⟩
theorem ey.map (h:ey b w F x):∃bm F1,(∃ys,aM w b (mw bm (x.1,ys)) 289)/\bM bm (aB .i64) w F1 x.2.2/\∀w' m,ai (bM bm (aB .i64)) w w' F1 m->ai (ey b) w w' F (x.1,x.2.1,m):=by
 obtain⟨bm,ys,h,r⟩:=h;obtain⟨G,a,_⟩:=aF.left h;obtain⟨F1,c,k2⟩:=aF.right h;refine⟨bm,F1,⟨ys,a.ay⟩,c,λw' m d=>?_⟩;obtain⟨e,f,g⟩:=k2 _ _ d;exact⟨e,⟨bm,ys,f,r⟩,g⟩
theorem UZ (h:ey b w F x) (j:bD x.1) {d:Int} (hd:bD d):Cx 372 #[pt b,I d] w λe w'=>e=Z (.pointer (aa ((⟨b,0,ah⟩:Addr).add (2+cy x.1.toNat d.toNat))))/\av no w w':=by
 obtain⟨bm,ys,hB⟩:=h.ay;obtain⟨n,c,f⟩:=FG j;obtain⟨k,rfl,a⟩:=FG hd;rw[c]at hB;simp only[c,bQ];have i:=yz a f;have l:=uD k (ba k n);refine ak9 ?_;refine⟨_,rfl,_,hB.cell rfl,λg=>⟨_,rfl,?_,av.refl _ _⟩,λg=>⟨_,rfl,_,hB.cell rfl,⟨(R0 a f ?_ w).mono ?_⟩⟩⟩
 ·have g:=aL g;have:cy n k=168:=by unfold cy;rw[aj (by omega)]
  rw[this]
 ·have g:=aT g;omega
 ·have g:=aT g;rintro e w1 ⟨rfl,rfl⟩;refine⟨_,rfl,λm o p q r=>?_⟩;refine⟨_,rfl,⟨by omega,by omega⟩,⟨(OC a i m).mono ?_⟩⟩;rintro e s ⟨rfl,rfl⟩;refine⟨_,rfl,⟨by omega,by omega⟩,?_,av.same no o p q r⟩;have:cy n k=ba k n*8+gL k (ba k n):=by unfold cy;rw[af (by omega)]
  rw[this,dX,dX,bQ,bQ,eX]
theorem U1 (h:ey b w F x) (B:bD x.1) (J:x.2.1.length=169) {ids:List Int} {p:Option Addr} {c:Nat} (K:Cells w p (ids.map (aB .i64))) (V:∀j,bf p j->¬F j) (hl:ids.length<=48) (N:∀i,(x.2.1.getD i []).length<=48) (O:∀id∈ids,∃d,x.2.2.1 id=aa d/\bD d) :
  Cx 317 #[pt b,.slice p ids.length c] w λe w'=>e=Z (.tuple #[])/\ai (ey b) w w' F (x.1,jC x.1 x.2.2.1 x.2.1 ids,x.2.2):=by
 obtain⟨n,L,m⟩:=x;simp only at B J N O;refine akq ?_;refine⟨bO bu (M:=Gj) (σ:=Nat) (λi=>HO (aa ⟨b,0,ah⟩) p ids.length c (ids.length:Int) (i:Int)) (λi w'=>i<=ids.length/\ai (ey b) w w' F (n,jC n m.1 L (ids.take i),m)/\∀j,((jC n m.1 L (ids.take i)).getD j []).length<=48+i) (λi _=>ids.length-i) 0 ⟨rfl,rfl,rfl,rfl,trivial⟩ ⟨by omega,ai.same h,N⟩ ?_⟩;rintro i w1 ⟨hi,z,k⟩;rw[afB];refine⟨λg=>?_,λg=>?_⟩
 ·have g:=aL g;have o:i<ids.length:=by omega
  have C:Cells w1 p (ids.map (aB .i64)):=by
   obtain⟨F',_,W,_⟩:=z;refine K.ak λa A=>W.ay _ ?_ (V _ ⟨a,A,rfl⟩);have:=K 0 (I (ids[0]'(by omega))) (by simp);obtain⟨a',s,f⟩:=this;rw[A]at s;cases s;have:=qH f
   rwa [uj]at this
  obtain⟨a,A,f⟩:=C.cv o;obtain⟨d,q,hd⟩:=O _ (cx o);obtain⟨F1,D,X⟩:=z.db;obtain⟨bm,Fm,⟨ys,hB⟩,Y,kM⟩:=D.map;have t:=kP ue Y ids[i] ae;simp only[q,gK,ie]at t;refine⟨⟨by omega,by omega⟩,a,A,_,f,_,rfl,_,hB.cell rfl,_,t,⟨(UZ D B hd).mono ?_⟩⟩;rintro e P ⟨rfl,r⟩;have Q:=(Frame.ax b).ak D r (λ_ _ h=>h);have l:fE n m.1 ids[i]=cy n.toNat d.toNat:=by unfold fE;rw[q];rfl
  have u:cy n.toNat d.toNat<(jC n m.1 L (ids.take i)).length:=by
   rw[EN,J,<-l];exact AK B hd q
  obtain⟨p1,c1,F2,hA⟩:=Q.at u;refine⟨_,rfl,_,rfl,_,_,_,hA.cell P (av.refl _ _),⟨λw3 hN=>?_⟩⟩;obtain⟨p',c',R,y,E⟩:=Ls.push Ie hA.ls (by have:=k (cy n.toNat d.toNat);simp only;omega) hN 36;refine⟨_,_,_,R,y,_,rfl,?_⟩;have S:av no w1 P:=r;refine hA.put R p' c' _ E _ λw5 G=>?_
  have T:(jC n m.1 L (ids.take i)).set (cy n.toNat d.toNat) ((jC n m.1 L (ids.take i)).getD (cy n.toNat d.toNat) []++[ids[i]])=jC n m.1 L (ids.take (i+1)):=by
   rw[eW o,ac0,al1,l]
  simp only at G;rw[T]at G;have H:ai (ey b) w1 w5 F1 (n,jC n m.1 L (ids.take (i+1)),m):=ai.next Q (r.mono (λ_ _ h=>h.elim)) (λ_ h=>.inl h) G;refine⟨i+1,⟨rfl,rfl,rfl,by rw[aP (by omega)];rfl,trivial⟩,⟨by omega,X _ _ H,λj=>?_⟩,by omega⟩;rw[<-T];have:=k j;simp only[aO,cJ];by_cases U:cy n.toNat d.toNat=j
  ·subst U;rw[aj rfl,aj u];simp only[aO]at this;simp only[ie,cG,il,oq];omega
  ·rw[af U];simp only[aO]at this;omega
 ·have g:=aT g;have:i=ids.length:=by omega
  subst this;rw[dC]at z;exact⟨rfl,z⟩
def gY (b:Nat):Ob (Int×dd):=λw F x=>∃L n,ey b w F (x.1,L,(x.2,n))/\kj x.1 L x.2
instance Frame.wlo (b:Nat):Frame (gY b) where
 ak:=λ⟨L,n,h,r⟩ k a=>⟨L,n,(Frame.ax b).ak h k a,r⟩
 lt:=λ⟨_,_,h,_⟩=>(Frame.ax b).lt h
theorem gY.of {L:List (List Int)} {m:my} {n:Int} {w':World} (h:ai (ey b) w w' F (n,L,m)) (a:kj n L m.1):ai (gY b) w w' F (n,m.1):=by
 obtain⟨c,d,e⟩:=h;exact⟨c,⟨L,m.2,d,a⟩,e⟩
theorem aml {y:Int×dd} (h:gY b w F y) (id:Int):Cx 106 #[pt b,I id] w λe w'=>e=Z (.tuple #[I ((y.2 id).getD 0),.bool (y.2 id).isSome])/\w'=w:=by
 obtain⟨L,n,h,f⟩:=h;obtain⟨bm,Fm,⟨ys,hB⟩,c,_⟩:=h.map;refine ahb ?_;have a:=kP ue c id ag;have d:((y.2 id).map (aB .i64)).getD (I 0)=I ((y.2 id).getD 0):=by cases y.2 id<;>rfl
 simp only[d,if_true]at a;exact⟨λg=>(by cases g),λ_=>⟨_,rfl,_,hB.cell rfl,_,_,a,rfl,rfl⟩⟩
theorem UQ {y:Int×dd} (h:gY b w F y) {id d:Int} (o:1<=id/\id<=48) (hd:bD d) (t:y.2 id=ah):Cx 322 #[pt b,I id,I d] w λe w'=>e=Z (I 0)/\ai (gY b) w w' F (y.1,qN y.2 id d):=by
 obtain⟨L,n,h,m⟩:=h;obtain⟨bm,Fm,⟨ys,hB⟩,u,A⟩:=h.map;refine akv ?_;have c:=kP ue u id ag;simp only[t,Option.map_none,Option.getD_none,Option.isSome_none,if_true]at c;refine⟨λg=>(by cases g),λ_=>⟨_,rfl,_,hB.cell rfl,_,_,c,⟨(K7 d w).mono ?_⟩⟩⟩;rintro e w1 ⟨rfl,rfl⟩;rw[decide_eq_true hd];refine⟨_,rfl,λg=>(by cases g),λ_=>⟨λg=>(by cases g),λ_=>⟨_,rfl,_,hB.cell rfl,?_⟩⟩⟩;obtain⟨p,f,B⟩:=ru ue u id d;have C:=A _ _ B;refine⟨p,f,⟨λD q=>?_⟩⟩;obtain⟨F1,k,E⟩:=C.db;have z:=(Frame.ax b).ak k (q.ak no) (λ_ _ h=>h)
 have G:Cells D (aa ⟨p.heap.size,0,ah⟩) ([id].map (aB .i64)):=by
  intro j v r;exact⟨_,rfl,q.aK.cell r⟩
 have l:∀j,F1 j->j<p.heap.size:=(Frame.ax b).lt k;have s:(fz (y.2,n) id d).1 id=aa d:=by simp[fz]
 refine⟨(U1 z m.tk m.len G (λj r H=>?_) (by simp) m.yT (λi hi=>?_)).mono ?_⟩
 ·obtain⟨a,J,rfl⟩:=r;cases J;exact absurd (l _ H) (by simp)
 ·have:i=id:=by simpa using hi
  subst this;exact⟨d,s,hd⟩
 ·rintro e M ⟨rfl,K⟩;refine⟨rfl,rfl,gY.of (E _ _ (ai.next z (q.ak F1) (λ_ h=>.inl h) K)) ?_⟩;exact m.add o hd t
theorem amj {W:World} {F0:Fp} {n:Int} {L:List (List Int)} {m:my} (h:ai (ey b) W w F0 (n,L,m)) (H:L.length=169) (J:∀i,(L.getD i []).length<=48) {lv k:Nat} (K:lv<=20) (U:k<=8) :
  Cx 315 #[pt b,I (lv:Int),I (k:Int)] w λe w'=>∃p c,e=Z (.slice p (dN L (lv*8) k).length c)/\ai (aF (ey b) (Ls 3)) W w' F0 ((n,fk L (lv*8) k,m),(p,c,dN L (lv*8) k)):=by
 refine ako ?_
 have f:(qC #[3,3] 3 #[I (k:Int),I 8]).run Tryz.prog w=.ok (I (k:Int)) w:=by
  simp[qC,Builtin.min2];omega
 have N:ai (aF (ey b) (Ls 3)) W w F0 ((n,L,m),(ah,0,[])):=ai.add h (av.refl _ _) (Ls.nil w _) (λ_ h=>h.elim)
 refine⟨_,w,f,⟨bO bu (M:=Cd) (σ:=Nat×Option Addr×Nat) (λx=>HN (aa ⟨b,0,ah⟩) (lv:Int) x.2.1 (dN L (lv*8) x.1).length x.2.2 (k:Int) (x.1:Int))
  (λx w'=>x.1<=k/\ai (aF (ey b) (Ls 3)) W w' F0 ((n,fk L (lv*8) x.1,m),(x.2.1,x.2.2,dN L (lv*8) x.1))/\(dN L (lv*8) x.1).length<=x.1*48) (λx _=>k-x.1) (0,ah,0) ⟨rfl,rfl,rfl,rfl,rfl,trivial⟩ ⟨cB _,by rw[Pc];exact N,by simp[DQ]⟩ ?_⟩⟩
 rintro⟨i,p,c⟩ w1 ⟨hi,r,hlen⟩;simp only at hi r hlen⊢;rw[afA];have O:(fk L (lv*8) i).length=169:=by rw[qL (by omega),H]
 refine⟨λg=>?_,λg=>?_⟩
 ·have g:=aL g;have P:i<k:=by omega
  have B:=J (lv*8+i);have j:(fk L (lv*8) i).getD (lv*8+i) []=L.getD (lv*8+i) []:=by rw[r9 (by omega),af (by omega)]
  have C:(((⟨b,0,ah⟩:Addr).add 2).add ((lv:Int).toNat*8)).add ((i:Int).toNat*1)=(⟨b,0,ah⟩:Addr).add (2+(lv*8+i)):=by
   rw[dX,dX,bQ,bQ,eX]
  obtain⟨F1,Q,V⟩:=r.left;obtain⟨q,d,G,hA⟩:=Q.at (i:=lv*8+i) (by simp only;omega);obtain⟨F2,R,k2⟩:=r.right;have a:=hA.cell w1 (av.refl _ _);have D:=hA.ls.cells;simp only[j]at a D;obtain⟨p',c',E,l,s⟩:=Ls.more Ie R (q:=q) (m:=L.getD (lv*8+i) []) (d:=d) D (λt=>(hA.ls.zero t).2) (by omega) 36;refine⟨_,rfl,⟨by omega,by omega⟩,⟨by omega,by omega⟩,q,_,d,by rw[C];exact a,_,_,_,E,l,_,rfl,⟨by omega,by omega⟩,⟨by omega,by omega⟩,?_⟩;have u:=k2 _ _ s;obtain⟨S,y,z⟩:=u.left;obtain⟨X,Y,G',o⟩:=y.at (i:=lv*8+i) (by simp only;omega);rw[C];refine o.put E ah 0 [] o.ls.empty _ λw3 T=>?_;have A:=z _ _ T;simp only at A;rw[Yj (by omega),<-vZ]at A;refine⟨(i+1,p',c'),⟨rfl,rfl,by rw[vZ];rfl,rfl,by rw[aP (by omega)];rfl,trivial⟩,⟨by simp only;omega,A,?_⟩,by simp only;omega⟩;simp only;rw[vZ,cG];omega
 ·have g:=aT g;have:i=k:=by omega
  subst this;exact⟨p,c,rfl,r⟩
theorem IA {n:Int} {L:List (List Int)} {g:dd} (h:kj n L g) {k:Nat} (a:(dN L 0 k).Nodup):(dN L 0 k).length<=48:=Kg a λid c=>by
 obtain⟨i,_,hi⟩:=yC.1 c;obtain⟨d,hd,_⟩:=(h.at_ i id).1 hi;exact(h.due id d hd).1
theorem kj.IB {n:Int} {L:List (List Int)} {g:dd} (h:kj n L g):∀k,(dN L 0 k).Nodup:=by
 intro k
 induction k with
 | zero=>rw[DQ];exact ju
 | succ k e=>
  rw[vZ];refine jO.2 ⟨e,h.nd _,λa f b j=>?_⟩;rintro rfl;obtain⟨i,hi,l⟩:=yC.1 f;obtain⟨d,hd,m⟩:=(h.at_ i a).1 l;obtain⟨o,c,p⟩:=(h.at_ _ a).1 j;rw[hd]at c;cases c;omega
theorem alZ {y:Int×dd} (h:gY b w F y) (t:Int):Cx 231 #[pt b,I t] w λe w'=>e=Z (I (if y.1<=t/\bD t then 0 else 2))/\ai (gY b) w w' F (if y.1<=t/\bD t then(t,y.2)else y):=by
 have X:=h;obtain⟨L,n,h,f⟩:=h;obtain⟨now,g⟩:=y;simp only at h f⊢;obtain⟨bm,ys,hB⟩:=h.ay;have s:w.cell? ((⟨b,0,ah⟩:Addr).add 0)=aa (I now):=hB.cell rfl;refine ai9 ?_;refine⟨λg=>(by cases g),λ_=>⟨_,rfl,_,s,λg1=>⟨(K7 t w).mono ?_⟩,λg1=>?_⟩⟩
 ·have g1:=aT g1;rintro e w1 ⟨rfl,rfl⟩;refine⟨_,rfl,λl=>?_,λl=>⟨_,rfl,_,s,λB=>?_,λB=>⟨_,rfl,_,s,?_⟩⟩⟩
  ·have l:¬bD t:=by simpa using l
   rw[af (λY=>l Y.2),af (λY=>l Y.2)];exact⟨rfl,ai.same X⟩
  ·have l:bD t:=by simpa using l
   have B:t=now:=by simpa using B
   subst B;rw[aj ⟨fU _,l⟩,aj ⟨fU _,l⟩];exact⟨rfl,ai.same X⟩
  ·have l:bD t:=by simpa using l
   have B:t≠now:=by simpa using B
   have al:now<t:=by omega
   rw[aj ⟨by omega,l⟩,aj ⟨by omega,l⟩];obtain⟨hN,H,o,u⟩:=f.go l al;obtain⟨a0,ea,ha⟩:=FG l;have am:bD (a0:Int):=by rw[<-ea];exact l
   obtain⟨m,en,J⟩:=FG f.tk;have ap:a0≠m:=by omega
   rw[ea,en]at hN H o u;simp only[bQ]at hN H o u;rw[ea,en];have aq:=yz ha J;have cl:=uD a0 (ba a0 m);refine⟨(R0 ha J ap w1).mono ?_⟩;rintro e C ⟨rfl,rfl⟩;refine⟨_,rfl,?_⟩;have h0:ai (aF (ey b) (Ls 3)) C C F ((now,L,(g,n)),(ah,0,[])):=ai.add (ai.same h) (av.refl _ _) (Ls.nil C _) (λ_ h=>h.elim)
   refine⟨bO bu (M:=wS) (σ:=Nat×Option Addr×Nat) (λx=>HD (aa ⟨b,0,ah⟩) (a0:Int) (ba a0 m:Int) x.2.1 (dN L 0 (x.1*8)).length x.2.2 (ba a0 m:Int) (x.1:Int))
    (λx w'=>x.1<=ba a0 m/\ai (aF (ey b) (Ls 3)) C w' F ((now,fk L 0 (x.1*8),(g,n)),(x.2.1,x.2.2,dN L 0 (x.1*8)))) (λx _=>ba a0 m-x.1) (0,ah,0) ⟨rfl,rfl,rfl,rfl,rfl,rfl,trivial⟩ ⟨cB _,by rw[Nat.zero_mul,Pc];exact h0⟩ ?_⟩
   rintro⟨i,p,c⟩ w3 ⟨hi,U⟩;simp only at hi U⊢;have az:(fk L 0 (i*8)).length=169:=by rw[qL (by rw[f.len];omega),f.len]
   have bb:∀j,((fk L 0 (i*8)).getD j []).length<=48:=λj=>by
    rw[r9 (by rw[f.len];omega)];split
    ·simp
    ·exact f.yT j
   have cq:=IA f (f.IB (i*8))
   have step:∀k:Nat,k<=8->(i*8+k<=168)->Cx 315 #[pt b,I (i:Int),I (k:Int)] w3 λe w'=>∃q d,e=Z (.slice q (dN (fk L 0 (i*8)) (i*8) k).length d)/\∀ty,∃p' c' D,(bR #[36,36] ty #[.slice p (dN L 0 (i*8)).length c,.slice q (dN (fk L 0 (i*8)) (i*8) k).length d]).run Tryz.prog w'=.ok (.slice p' (dN L 0 (i*8+k)).length c') D/\ai (aF (ey b) (Ls 3)) C D F ((now,fk L 0 (i*8+k),(g,n)),(p',c',dN L 0 (i*8+k))):=by
    intro k hk cr;obtain⟨F1,V,k1⟩:=U.left;refine(amj (ai.same V) az bb (lv:=i) (by omega) hk).mono ?_;rintro e D ⟨q,d,rfl,hD⟩
    have hq:Cells D q ((dN (fk L 0 (i*8)) (i*8) k).map (aB .i64))/\(q=ah->d=0):=by
     obtain⟨F',⟨G1,G2,a1,a2,_⟩,_⟩:=hD;exact⟨a2.cells,λh=>(a2.zero h).2⟩
    have be:=k1 _ _ hD.drop;obtain⟨F2,E,k2⟩:=be.right
    have r:dN L 0 (i*8+k)=dN L 0 (i*8)++dN (fk L 0 (i*8)) (i*8) k:=by
     rcases PS L (i*8) k with h|h
     ·exact h
     ·rw[f.len]at h;omega
    have bl:=IA f (f.IB (i*8+k));rw[r,cG]at bl;refine⟨q,d,rfl,λty=>?_⟩;obtain⟨p',c',W,a,bs⟩:=Ls.more Ie E hq.1 hq.2 (by omega) ty;have z:=k2 _ _ bs;simp only at z a;rw[Yi (by rw[f.len];omega),<-r]at z;rw[<-r]at a;exact⟨p',c',W,a,z⟩
   rw[afn];refine⟨λK=>?_,λK=>aU.mk ?_⟩
   ·have K:=aL K;refine⟨(step 8 (aX _) (by omega)).mono ?_⟩;rintro e D ⟨q,d,rfl,A⟩;obtain⟨p',c',W,a,bv⟩:=A 36;refine⟨q,_,d,rfl,p',_,c',W,a,⟨(i+1,p',c'),⟨rfl,rfl,rfl,by rw[Nat.succ_mul];rfl,rfl,by rw[aP (by omega)];rfl,trivial⟩,⟨by simp only;omega,by simp only;rw[Nat.succ_mul];exact bv⟩,by simp only;omega⟩⟩
   ·have K:=aT K;have:i=ba a0 m:=by omega
    subst this;rw[afm];refine⟨(OC ha aq w3).mono ?_⟩;rintro e D ⟨rfl,rfl⟩;refine⟨_,rfl,?_⟩;rw[aP (by omega),show(gL a0 (ba a0 m):Int)+1=((gL a0 (ba a0 m)+1:Nat):Int) by omega];refine⟨(step (gL a0 (ba a0 m)+1) (by omega) (by omega)).mono ?_⟩;rintro e W ⟨q,d,rfl,A⟩;obtain⟨p',c',w6,a,bw⟩:=A 36;refine⟨q,_,d,rfl,p',_,c',w6,a,_,rfl,?_⟩;obtain⟨F6,⟨G1,G2,V,E,h3,h4⟩,N,O⟩:=bw;simp only at V E;refine V.tick (a0:Int) λw7 bz=>?_;obtain⟨F7,h7,P,Q⟩:=bz;have cb:=(Frame.ls _).ak E P (λj G R=>h4 j R G);have S:=(Frame.ls _).lt E;have cc:=cb.cells;simp only at h7;refine⟨(U1 h7 am ?_ cc (λj G R=>?_) (IA f (f.IB _)) ?_ (λid cd=>?_)).mono ?_⟩
    ·simp only;rw[qL (by rw[f.len];omega),f.len]
    ·have T:G2 j:=(E.1 j).2 G;rcases Q j R with h|h
     ·exact h4 j h T
     ·have:=S j T;omega
    ·intro j;simp only;rw[r9 (by rw[f.len];omega)];split
     ·simp
     ·exact f.yT j
    ·exact o id cd
    ·rintro e w8 ⟨rfl,ce⟩;refine⟨rfl,rfl,?_⟩
     have U:ai (ey b) C w8 F (((a0:Nat):Int),jC (a0:Int) g (fk L 0 (ba a0 m*8+(gL a0 (ba a0 m)+1))) (dN L 0 (ba a0 m*8+(gL a0 (ba a0 m)+1))),(g,n)):=by
      refine ai.next h7 ((N.trans P (λj G R=>?_))) (λj G=>?_) ce
      ·rcases O j ((h3 j).2 (.inl R))with h|h
       ·exact h
       ·omega
      ·rcases Q j G with h|h
       ·exact O j ((h3 j).2 (.inl h))
       ·exact .inr (aW N.size h)
     exact gY.of U u
 ·have g1:=aL g1;rw[af (by omega),af (by omega)];exact⟨rfl,ai.same X⟩
end
theorem wv0 (N:Nat) (a:N=169):kj 0 (aD N []) (λ_=>ah):=by
 refine⟨by unfold bD;decide,by rw[fW,a],λ_ _ h=>(by cases h),λi id=>?_,λi=>?_⟩
 ·simp only[aO,jt];split<;>simp
 ·simp only[aO,jt];split<;>simp
theorem adZ (N:Nat):rws (aD N (ah,0,[]))=aD N []:=by simp[rws]
theorem ama (w:World):Cx 109 #[I 0] w λe w'=>∃b F,e=Z (.tuple #[pt b,I 0])/\gY b w' F (0,λ_=>ah)/\av no w w'/\∀i,F i->w.heap.size<=i:=by
 refine ahe ?_;refine⟨(K7 0 w).mono ?_⟩;rintro e w1 ⟨rfl,rfl⟩;refine⟨_,rfl,λg=>(by cases g),λ_=>⟨λd j=>⟨λk c=>?_⟩⟩⟩;have l:=(Frame.map w1.heap.size (aB .i64)).ak (bM.new (f:=aB .i64) j) (c.ak no) (λ_ _ h=>h);have hs:=j.size;have m:Rw d.heap.size 289 (mw w1.heap.size) k (λi=>i=d.heap.size) (0,aD 169 (ah,0,[])):=Rw.new c rfl;refine⟨d.heap.size,λi=>i=d.heap.size∨i=w1.heap.size,rfl,⟨aD 169 [],0,⟨w1.heap.size,aD 169 (ah,0,[]),⟨λi=>i=d.heap.size,λi=>i=w1.heap.size,⟨_,λ_=>False,m,Fam.rep ⟨λi=>⟨λh=>h.elim,λ⟨a,o,_⟩=>by cases o⟩,Sl.nil _ _ _⟩,λi=>by simp,λ_ _ h=>h⟩,l,λi=>bp,λi p q=>by omega⟩,adZ _⟩,wv0 _ rfl⟩,(j.ak no).and (c.ak no),?_⟩
 ·rintro i (rfl|rfl)
  ·omega
  ·exact aX _
section
variable {w w':World} {T:TypeId} {F:Fp} {a:Addr} {c:Nat} {l:List Int}
theorem Sl.holds (h:Sl w T 1 (aa a) l.length c (l.map (aB .i64))):Sort.Holds (aB .i64) w a.block a.off l.toArray:=by
 intro j d;have d:j<l.length:=by simpa using d
 obtain⟨m,g,f⟩:=h.cells.cv d;cases g;obtain⟨n,p,q,cells,e,hs,i,k⟩:=h;obtain⟨b,o,sp⟩:=a;simp only at hs e i k;subst hs;rw[add_lit,eX]at f;refine⟨?_,?_⟩
 ·rw[f];simp[d]
 ·unfold World.frozen?;unfold aM at e;simp only;rw[e];simp
theorem ac1 {w:World} {b:Nat} {cells:List Value} (d:aM w b cells T) (f:Array Value->Array Value) {n:Nat} {os:Array Obj}:(Sort.grow (Sort.mapBlock (Sort.ahead w n) b f) os).heap[b]?=aa (.cells (f cells.toArray) T (0,0)):=by
 have e:=d.lt;unfold aM at d;unfold Sort.grow Sort.mapBlock Sort.ahead;simp only;rw[xt (by simpa using e),Array.getElem?_modify,aj rfl,d];rfl
theorem ES {w:World} {b:Nat} (f:Array Value->Array Value) {n:Nat} {os:Array Obj}:av (λi=>i=b) w (Sort.grow (Sort.mapBlock (Sort.ahead w n) b f) os):=by
 refine⟨by simp[Sort.grow,Sort.mapBlock,Sort.ahead],rfl,rfl,rfl,λi hi d=>?_⟩;unfold Sort.grow Sort.mapBlock Sort.ahead;simp only;rw[xt (by simpa using hi),Array.getElem?_modify,af (λe=>d e.symm)]
theorem acZ (d:List Int) (o:Nat) (cells:List Value) (h:o+d.length<=cells.length):(Sort.putCells (aB .i64) o d.toArray cells.toArray).toList=cells.take o++d.map (aB .i64)++cells.drop (o+d.length):=by
 apply de;intro k;unfold Sort.putCells;simp only[Array.getElem?_toList,Array.getElem?_mapIdx,List.size_toArray,List.getElem?_toArray];rw[jP];by_cases h1:k<o
 ·rw[kr (by simp;omega),List.getElem?_take_of_lt h1]
  cases cells[k]? with
  | none=>rfl
  | some v=>simp only[gK];rw[af (by omega)]
 ·rw[lP (by simp;omega)];have e:(cells.take o).length=o:=by simp;omega
  rw[e];by_cases b:k<o+d.length
  ·rw[kr (by simp;omega),cO (show k<cells.length by omega)];simp only[gK];rw[aj ⟨by omega,b⟩];have:k-o<d.length:=by omega
   simp[this]
  ·rw[lP (by simp;omega),bW,ik,show o+d.length+(k-o-d.length)=k by omega]
   cases cells[k]? with
   | none=>rfl
   | some v=>simp only[gK];rw[af (by omega)]
theorem Sl.putRow {d:List Int} (h:Sl w T 1 (aa a) l.length c (l.map (aB .i64))) (i:d.length=l.length) {n:Nat} {os:Array Obj}:Sl (Sort.grow (Sort.putRow (aB .i64) (Sort.ahead w n) a.block a.off d.toArray) os) T 1 (aa a) d.length c (d.map (aB .i64)):=by
 obtain⟨j,k,f,cells,g,hs,m,o⟩:=h;have e:=ac1 g (Sort.putCells (aB .i64) a.off d.toArray) (n:=n) (os:=os);have b:=acZ d a.off cells (by omega);refine⟨by simp,by omega,f,(Sort.putCells (aB .i64) a.off d.toArray cells.toArray).toList,?_,hs,?_,?_⟩
 ·unfold aM Sort.putRow;rw[e]
 ·rw[b];simp;omega
 ·rw[b,jP,List.drop_append_of_le_length (by simp;omega),List.drop_eq_nil_of_le (by simp;omega),List.nil_append,List.take_append_of_le_length (by simp),rO (by simp)]
theorem Ls.putRow {d:List Int} (h:Ls T w F (aa a,c,l)) (b:d.length=l.length) {n:Nat} {os:Array Obj}:ai (Ls T) w (Sort.grow (Sort.putRow (aB .i64) (Sort.ahead w n) a.block a.off d.toArray) os) F (aa a,c,d):=by
 refine⟨F,⟨h.1,h.2.putRow b⟩,?_,λ_ h=>.inl h⟩;refine(ES _).mono λi _ hi=>(h.1 i).2 ⟨a,rfl,hi⟩
end
def vM (x y:Int):Int:=if x<y then -1 else if y<x then 1 else 0
def ED (x y:Int):Int:=if x=0 then y else x
def qJ (g:Int->Int) (x y:Int):Int:=ED (vM (g x) (g y)) (vM x y)
theorem wt (g:Int->Int) (x y:Int):ltOf (qJ g) x y=nH g x y:=by
 unfold ltOf qJ ED vM nH;by_cases h1:g x<g y
 ·simp[h1]
 ·by_cases d:g y<g x
  ·have:¬g x=g y:=by omega
   simp[h1,d,this]
  ·have:g x=g y:=by omega
   simp only[this];by_cases b:x<y
   ·simp[b]
   ·by_cases e:y<x<;>simp[b,e]
theorem aeT (g:Int->Int):Sort.SWO (ltOf (qJ g)) where
 irrefl x:=by rw[wt,qV];omega
 trans x y z h1 b:=by rw[wt,Eg]at *;omega
 ntrans x y z h1 b:=by rw[wt,qV]at *;omega
theorem agX (g:Int->Int) (x y:Int) (b:ltOf (qJ g) x y=ae) (d:ltOf (qJ g) y x=ae):x=y:=by rw[wt,qV]at *;omega
theorem abf (g:Int->Int) (l:List Int):(l.mergeSort λx y=>!(ltOf (qJ g)) y x)=gk g l:=by
 refine T0 (List.mergeSort_perm ..) ?_;refine(List.pairwise_mergeSort (le:=λx y=>!(ltOf (qJ g)) y x) (λx y z b d=>?_) (λx y=>?_) l).imp λ{x y} h=>?_
 ·simp only[wt,ja,qV]at *;omega
 ·simp only[wt,eT,ja,qV];omega
 ·simp only[wt,ja]at h;exact h
end Go.Dav
namespace Go.Proofs
open Go.Shelf
def Tryz.sortL_ren : Go.Shelf.Ren := ⟨fun | 6 => 342 | 15 => 384 | 14 => 383 | 28 => 404 | 29 => 371 | 20 => 396 | 21 => 397 | 22 => 398 | 23 => 399 | 24 => 400 | 25 => 401 | 26 => 402 | 27 => 403 | 46 => 406 | 47 => 407 | 48 => 408 | 49 => 409 | 50 => 410 | 57 => 411 | n => n, fun | 22 => 36 | 24 => 3 | 25 => 391 | 3 => 3 | 39 => 268 | 0 => 0 | 53 => 425 | 55 => 29 | 4 => 4 | 46 => 419 | 45 => 418 | 50 => 179 | 5 => 5 | 9 => 9 | 66 => 428 | 70 => 432 | 76 => 434 | 77 => 435 | n => n, fun | n => n⟩
theorem Tryz.sortL : Go.Proofs.SlLaysF.n6 Tryz.prog Tryz.sortL_ren := {
  mixed := by kernel_rfl
  f6 := ⟨Tryz.f342.name, by decide, Tryz.func342.trans (congrArg some (by kernel_rfl))⟩
  f14 := ⟨Tryz.f383.name, by decide, Tryz.func383.trans (congrArg some (by kernel_rfl))⟩
  f15 := Tryz.func384.trans (congrArg some (by kernel_rfl))
  f20 := ⟨Tryz.f396.name, by decide, Tryz.func396.trans (congrArg some (by kernel_rfl))⟩
  f21 := ⟨Tryz.f397.name, by decide, Tryz.func397.trans (congrArg some (by kernel_rfl))⟩
  f22 := ⟨Tryz.f398.name, by decide, Tryz.func398.trans (congrArg some (by kernel_rfl))⟩
  f23 := ⟨Tryz.f399.name, by decide, Tryz.func399.trans (congrArg some (by kernel_rfl))⟩
  f24 := ⟨Tryz.f400.name, by decide, Tryz.func400.trans (congrArg some (by kernel_rfl))⟩
  f25 := ⟨Tryz.f401.name, by decide, Tryz.func401.trans (congrArg some (by kernel_rfl))⟩
  f26 := ⟨Tryz.f402.name, by decide, Tryz.func402.trans (congrArg some (by kernel_rfl))⟩
  f27 := ⟨Tryz.f403.name, by decide, Tryz.func403.trans (congrArg some (by kernel_rfl))⟩
  f28 := Tryz.func404.trans (congrArg some (by kernel_rfl))
  f29 := Tryz.func371.trans (congrArg some (by kernel_rfl))
  f46 := ⟨Tryz.f406.name, by decide, Tryz.func406.trans (congrArg some (by kernel_rfl))⟩
  f47 := Tryz.func407.trans (congrArg some (by kernel_rfl))
  f48 := Tryz.func408.trans (congrArg some (by kernel_rfl))
  f49 := ⟨Tryz.f409.name, by decide, Tryz.func409.trans (congrArg some (by kernel_rfl))⟩
  f50 := ⟨Tryz.f410.name, by decide, Tryz.func410.trans (congrArg some (by kernel_rfl))⟩
  f57 := ⟨Tryz.f411.name, by decide, Tryz.func411.trans (congrArg some (by kernel_rfl))⟩
  t0 := Tryz.underlying0
  a0 := Tryz.isAgg0
  z0 := Tryz.sizeOf0
  v0 := Tryz.zeroValue0
  t3 := Tryz.underlying3
  a3 := Tryz.isAgg3
  z3 := Tryz.sizeOf3
  v3 := Tryz.zeroValue3
  t4 := Tryz.underlying4
  a4 := Tryz.isAgg4
  z4 := Tryz.sizeOf4
  v4 := Tryz.zeroValue4
  t5 := Tryz.underlying5
  a5 := Tryz.isAgg5
  z5 := Tryz.sizeOf5
  v5 := Tryz.zeroValue5
  t9 := Tryz.underlying9
  a9 := Tryz.isAgg9
  z9 := Tryz.sizeOf9
  v9 := Tryz.zeroValue9
  t22 := Tryz.underlying36
  a22 := Tryz.isAgg36
  z22 := Tryz.sizeOf36
  v22 := Tryz.zeroValue36
  a24 := Tryz.isAgg3
  z24 := Tryz.sizeOf3
  t25 := Tryz.underlying391
  a25 := Tryz.isAgg391
  z25 := Tryz.sizeOf391
  v25 := Tryz.zeroValue391
  t39 := Tryz.underlying268
  a39 := Tryz.isAgg268
  z39 := Tryz.sizeOf268
  v39 := Tryz.zeroValue268
  t45 := Tryz.underlying418
  a45 := Tryz.isAgg418
  z45 := Tryz.sizeOf418
  v45 := Tryz.zeroValue418
  t46 := Tryz.underlying419
  a46 := Tryz.isAgg419
  z46 := Tryz.sizeOf419
  v46 := Tryz.zeroValue419
  t50 := Tryz.underlying179
  a50 := Tryz.isAgg179
  z50 := Tryz.sizeOf179
  v50 := Tryz.zeroValue179
  t53 := Tryz.underlying425
  a53 := Tryz.isAgg425
  z53 := Tryz.sizeOf425
  v53 := Tryz.zeroValue425
  t55 := Tryz.underlying29
  a55 := Tryz.isAgg29
  z55 := Tryz.sizeOf29
  v55 := Tryz.zeroValue29
  t66 := Tryz.underlying428
  a66 := Tryz.isAgg428
  z66 := Tryz.sizeOf428
  v66 := Tryz.zeroValue428
  t70 := Tryz.underlying432
  a70 := Tryz.isAgg432
  z70 := Tryz.sizeOf432
  v70 := Tryz.zeroValue432
  t76 := Tryz.underlying434
  a76 := Tryz.isAgg434
  z76 := Tryz.sizeOf434
  v76 := Tryz.zeroValue434
  t77 := Tryz.underlying435
  a77 := Tryz.isAgg435
  z77 := Tryz.sizeOf435
  v77 := Tryz.zeroValue435 }
def Tryz.delL_ren : Go.Shelf.Ren := ⟨fun | 10 => 373 | 6 => 270 | n => n, fun | 22 => 36 | 23 => 3 | 25 => 50 | 3 => 3 | 4 => 4 | 0 => 0 | n => n, fun | n => n⟩
theorem Tryz.delL : Go.Proofs.SlLaysH.n10 Tryz.prog Tryz.delL_ren := {
  mixed := by kernel_rfl
  f6 := ⟨Tryz.f270.name, by decide, Tryz.func270.trans (congrArg some (by kernel_rfl))⟩
  f10 := ⟨Tryz.f373.name, by decide, Tryz.func373.trans (congrArg some (by kernel_rfl))⟩
  t0 := Tryz.underlying0
  a0 := Tryz.isAgg0
  z0 := Tryz.sizeOf0
  v0 := Tryz.zeroValue0
  t3 := Tryz.underlying3
  a3 := Tryz.isAgg3
  z3 := Tryz.sizeOf3
  v3 := Tryz.zeroValue3
  t4 := Tryz.underlying4
  a4 := Tryz.isAgg4
  z4 := Tryz.sizeOf4
  v4 := Tryz.zeroValue4
  t22 := Tryz.underlying36
  a22 := Tryz.isAgg36
  z22 := Tryz.sizeOf36
  v22 := Tryz.zeroValue36
  a23 := Tryz.isAgg3
  z23 := Tryz.sizeOf3
  t25 := Tryz.underlying50
  a25 := Tryz.isAgg50
  z25 := Tryz.sizeOf50
  v25 := Tryz.zeroValue50 }
def Tryz.keysL_ren : Go.Shelf.Ren := ⟨fun | 7 => 276 | 10 => 348 | n => n, fun | 23 => 285 | 26 => 3 | 3 => 2 | 28 => 353 | 0 => 0 | 27 => 352 | 33 => 50 | 4 => 4 | n => n, fun | n => n⟩
theorem Tryz.keysL : Go.Proofs.SlLaysZI.n7 Tryz.prog Tryz.keysL_ren := {
  mixed := by kernel_rfl
  f7 := ⟨Tryz.f276.name, by decide, Tryz.func276.trans (congrArg some (by kernel_rfl))⟩
  f10 := ⟨Tryz.f348.name, by decide, Tryz.func348.trans (congrArg some (by kernel_rfl))⟩
  t0 := Tryz.underlying0
  a0 := Tryz.isAgg0
  z0 := Tryz.sizeOf0
  v0 := Tryz.zeroValue0
  t4 := Tryz.underlying4
  a4 := Tryz.isAgg4
  z4 := Tryz.sizeOf4
  v4 := Tryz.zeroValue4
  t23 := Tryz.underlying285
  a23 := Tryz.isAgg285
  z23 := Tryz.sizeOf285
  v23 := Tryz.zeroValue285
  t26 := Tryz.underlying3
  a26 := Tryz.isAgg3
  z26 := Tryz.sizeOf3
  v26 := Tryz.zeroValue3
  t27 := Tryz.underlying352
  a27 := Tryz.isAgg352
  z27 := Tryz.sizeOf352
  v27 := Tryz.zeroValue352
  t28 := Tryz.underlying353
  a28 := Tryz.isAgg353
  z28 := Tryz.sizeOf353
  v28 := Tryz.zeroValue353
  t33 := Tryz.underlying50
  a33 := Tryz.isAgg50
  z33 := Tryz.sizeOf50
  v33 := Tryz.zeroValue50 }
def Tryz.collL_ren : Go.Shelf.Ren := ⟨fun | 8 => 275 | 11 => 347 | n => n, fun | 26 => 3 | 28 => 353 | 24 => 36 | 0 => 0 | 33 => 50 | 4 => 4 | n => n, fun | n => n⟩
theorem Tryz.collL : Go.Proofs.SlLaysZI.n8 Tryz.prog Tryz.collL_ren := {
  mixed := by kernel_rfl
  f8 := ⟨Tryz.f275.name, by decide, Tryz.func275.trans (congrArg some (by kernel_rfl))⟩
  f11 := ⟨Tryz.f347.name, by decide, Tryz.func347.trans (congrArg some (by kernel_rfl))⟩
  t0 := Tryz.underlying0
  a0 := Tryz.isAgg0
  z0 := Tryz.sizeOf0
  v0 := Tryz.zeroValue0
  t24 := Tryz.underlying36
  a24 := Tryz.isAgg36
  z24 := Tryz.sizeOf36
  v24 := Tryz.zeroValue36
  t26 := Tryz.underlying3
  a26 := Tryz.isAgg3
  z26 := Tryz.sizeOf3
  v26 := Tryz.zeroValue3
  t28 := Tryz.underlying353
  a28 := Tryz.isAgg353
  z28 := Tryz.sizeOf353
  v28 := Tryz.zeroValue353
  i26 := by kernel_rfl }
end Go.Proofs
namespace Go.Dav
open Go.Proofs
open _root_.Bool renaming false→ae,true→ag,true_and→dR
open _root_.Option renaming some→aa,none→ah,map_some→gK,getD_some→ie
open World renaming cell?→bJ
open Instr renaming lookup→dr
open Value renaming int→aB
open _root_.List renaming length_eq_zero_iff→og,ext_getElem?→de,getElem?_map→fy,mem_iff_getElem?→qy,map_map→s8,mem_map→ck,length_map→bW,length_filter_le→jN,replicate→aD,take_length→dC,getElem?_eq_some_iff→dQ,getElem?_take→iI,drop_eq_getElem_cons→ku,getD_eq_getElem?_getD→aO,take→rT,drop→rU,getElem?_eq_none→fV,mem_cons_self→i6,mem_cons→ez,getElem_map→rV,map_set→fx,getElem?_set→cJ,length_set→bN,getElem_mem→cx,getElem_of_mem→uv,toArray→dK,getElem?_eq_getElem→cO,replicate_succ'→tf
open _root_.Prod renaming fst→fv
open _root_.Nat renaming mul_one→eX,le_refl→aX,zero_add→eU,le_trans→aW,le_of_eq→bF
open IntKind renaming max→pG,bits→lQ,signed→kl,wrap→aV
open Fence renaming wide→nt
open Addr renaming add_add→dX
open _root_.Int renaming toNat_natCast→bQ,le_refl→fU
open _root_.Iff renaming rfl→bp
theorem SE (x:Int) (w:World):Cx 385 #[I x] w λe w'=>e=Z (.bool ae)/\w'=w:=by
 refine alh ?_;exact⟨by simp,rfl⟩
theorem SF (x:Int) (w:World):Cx 386 #[I x] w λe w'=>e=Z (.bool ae)/\w'=w:=by
 refine ali ?_;exact⟨by simp,rfl⟩
theorem Xu (x y:Int) (w:World):Cx 345 #[I x,I y] w λe w'=>e=Z (I (vM x y))/\w'=w:=by
 refine akO ?_;refine⟨(SE x w).mono ?_⟩;rintro e w1 ⟨rfl,rfl⟩;refine⟨_,rfl,⟨(SE y w1).mono ?_⟩⟩;rintro e b ⟨rfl,rfl⟩;unfold vM;refine⟨_,rfl,λg=>(by cases g),λ_=>⟨λg=>(by cases g),λ_=>⟨λg=>?_,λg=>⟨λa=>?_,λa=>?_⟩⟩⟩⟩
 ·rw[aj (aL g)];exact⟨rfl,rfl⟩
 ·have a:y<x:=aL a;rw[af (aT g),aj a];exact⟨rfl,rfl⟩
 ·have a:¬y<x:=aT a;rw[af (aT g),af a];exact⟨rfl,rfl⟩
theorem Xv (x y:Int) (w:World):Cx 346 #[I x,I y] w λe w'=>e=Z (I (vM x y))/\w'=w:=by
 refine akP ?_;refine⟨(SF x w).mono ?_⟩;rintro e w1 ⟨rfl,rfl⟩;refine⟨_,rfl,⟨(SF y w1).mono ?_⟩⟩;rintro e b ⟨rfl,rfl⟩;unfold vM;refine⟨_,rfl,λg=>(by cases g),λ_=>⟨λg=>(by cases g),λ_=>⟨λg=>?_,λg=>⟨λa=>?_,λa=>?_⟩⟩⟩⟩
 ·rw[aj (aL g)];exact⟨rfl,rfl⟩
 ·have a:y<x:=aL a;rw[af (aT g),aj a];exact⟨rfl,rfl⟩
 ·have a:¬y<x:=aT a;rw[af (aT g),af a];exact⟨rfl,rfl⟩
theorem acm {a c:Int} {p:Addr} {w:World} (h:w.cell? (p.add (0*1))=aa (I a)) (j:w.cell? (p.add (1*1))=aa (I c)):Cx 344 #[.slice (aa p) 2 2] w λe w'=>e=Z (I (ED a c))/\w'=w:=by
 refine akN ?_;refine⟨bO bu (M:=Ce) (σ:=Nat) (λi=>HP 0 (aa p) 2 2 2 (i:Int)) (λi w'=>i<=2/\(1<=i->a=0)/\(2<=i->c=0)/\w'=w) (λi _=>2-i) 0 ⟨rfl,rfl,rfl,rfl,trivial⟩ ⟨by omega,by omega,by omega,rfl⟩ ?_⟩;rintro i w1 ⟨hi,d,k,rfl⟩;rw[afD];unfold ED;refine⟨λg=>?_,λg=>?_⟩
 ·have g:=aL g;have f:i=0∨i=1:=by omega
  rcases f with rfl|rfl
  ·refine⟨⟨by omega,by omega⟩,p,rfl,a,h,λb=>?_,λb=>⟨1,⟨rfl,rfl,rfl,rfl,trivial⟩,⟨by omega,λ_=>by simpa using b,by omega,rfl⟩,by omega⟩⟩;have b:a≠0:=by simpa using b
   rw[af b];exact⟨rfl,rfl⟩
  ·refine⟨⟨by omega,by omega⟩,p,rfl,c,j,λb=>?_,λb=>⟨2,⟨rfl,rfl,rfl,rfl,trivial⟩,⟨by omega,λ_=>d (by omega),λ_=>by simpa using b,rfl⟩,by omega⟩⟩;rw[aj (d (by omega))];exact⟨rfl,rfl⟩
 ·have g:=aT g;have:i=2:=by omega
  subst this;rw[aj (d (by omega)),k (by omega)];exact⟨rfl,rfl⟩
theorem Zl {w w1 b:World} {o:Obj} (c:w1.heap=w.heap) (j:w1.os=w.os) (k:w1.tape=w.tape) (l:w1.output=w.output) (m:w1.drawn=w.drawn+1) (a:dy w1 b o):b=Sort.grow (w.drewN 1) #[o]:=by
 have d:b.heap=w.heap++#[o]:=by
  apply Array.ext_getElem?;intro i;rw[Array.getElem?_append];split
  ·rename_i hi;rw[a.nM i (by rw[c];exact hi),c]
  ·rename_i hi;by_cases he:i=w.heap.size
   ·subst he;have:=a.ay;rw[c]at this;rw[this];simp
   ·have hs:=a.size;rw[c]at hs;rw[Array.getElem?_eq_none (by omega),Array.getElem?_eq_none (by simp;omega)]
 obtain⟨n,p,q,r,s⟩:=b;simp only at d;subst d;have e:=a.tape;have f:=a.drawn;have g:=a.os;have h:=a.output;simp only at e f g h;unfold Sort.grow World.drewN;simp only[e,f,g,h,j,k,l,m]
def nF (m:my) (id:Int):Int:=(m.1 id).getD 0
theorem alW {b pb:Nat} {x:xg} {w:World} {F:Fp} (h:ey b w F x) (l:w.cell? ⟨pb,0,ah⟩=aa (pt b)) (a c:Int):Cx 343 #[I a,I c,pt pb] w λe w'=>e=Z (I (qJ (nF x.2.2) a c))/\∃q os,w'=Sort.grow (w.drewN q) os:=by
 refine akM ?_;intro w1 f i j k m;have n:=(Frame.ax b).ak h (av.same no f i j k) (λ_ _ h=>h);obtain⟨o,Fm,⟨s,hB⟩,p,_⟩:=n.map
 have d:w1.cell? ⟨pb,0,ah⟩=aa (pt b):=by
  unfold bJ;rw[f];exact l
 have lk:∀id,(dr 285 (.map (aa o)) (I id) ae).run Tryz.prog w1=.ok (I (nF x.2.2 id)) w1:=λid=>by
  rw[kP ue p id ae];unfold nF;cases x.2.2.1 id<;>rfl
 refine⟨_,d,_,rfl,_,hB.cell rfl,_,lk a,_,d,_,rfl,_,hB.cell rfl,_,lk c,⟨(Xu _ _ w1).mono ?_⟩⟩;rintro e r ⟨rfl,rfl⟩;refine⟨_,rfl,⟨(Xv _ _ r).mono ?_⟩⟩;rintro e t ⟨rfl,rfl⟩;refine⟨_,rfl,⟨λu g=>⟨(acm (g.aK.cell rfl) (g.aK.cell rfl)).mono ?_⟩⟩⟩;rintro e y ⟨rfl,rfl⟩;exact⟨_,rfl,rfl,1,_,Zl f i j k m g⟩
theorem abe (g:Int->Int) (ids:List Int):(ids.toArray.toList.mergeSort λx y=>!(ltOf (qJ g)) y x).toArray=(gk g ids).toArray:=by
 rw[List.toList_toArray,abf]
theorem amg {b pb:Nat} {x:xg} {w:World} {F:Fp} (h:ey b w F x) (p:w.cell? ⟨pb,0,ah⟩=aa (pt b)) {a:Addr} {c:Nat} {ids:List Int} (l:Sl w 3 1 (aa a) ids.length c (ids.map (aB .i64))) (z:¬F a.block) (q:pb≠a.block) (G:ids.length<=1000) :
  Cx 342 #[.slice (aa a) ids.length c,.func (.func 343) #[] #[pt pb]] w λe w'=>e=Z (.tuple #[])/\Sl w' 3 1 (aa a) ids.length c ((gk (nF x.2.2) ids).map (aB .i64))/\av (λi=>i=a.block) w w':=by
 have A:=l.holds;have r:=l.lt a.block ⟨a,rfl,rfl⟩;obtain⟨_,_,_,cells,H,hs,_,_⟩:=id l;have B:∀args w,(callFunc 343 args).run Tryz.prog w=.ok (.enter 343 args) w:=enters_of Tryz.func343 (by kernel_rfl) rfl
 have k:CmpLays1 Tryz.prog 343 #[pt pb] (aB .i64) (qJ (nF x.2.2)) a.block a.off ids.toArray.size w:=by
  intro m os dk C u v;have t:av (λi=>i=a.block) w (sortWorld (aB .i64) w a.block a.off m dk os):=ES _;have D:=(Frame.ax b).ak h t (λj E e=>z (e ▸ E));refine alW D ?_ u v;have s:=qH p;unfold bJ at p⊢;rw[t.ay _ s q];exact p
 have f:=Any.slices_SortFunc_total Tryz.sortL (aB .i64) (λ_=>rfl) (qJ (nF x.2.2)) (aeT _) 343 #[pt pb] a.block a.off c ids.toArray w B k A r (by simp;omega) (agX _);rw[abe]at f
 have y:a=⟨a.block,a.off,ah⟩:=by
  obtain⟨I,o,sp⟩:=a;simp only at hs;subst hs;rfl
 rw[y];refine Calls.mono (show Cx 342 _ _ _ from f) ?_;rintro e w' ⟨rfl,n,os,rfl⟩;have g:(gk (nF x.2.2) ids).length=ids.length:=(ji _ _).length_eq;refine⟨rfl,?_,ES _⟩;have:=l.putRow (d:=gk (nF x.2.2) ids) g (n:=n) (os:=os);rw[g]at this;rw[y]at this;exact this
theorem K8 {b:Nat} {x:xg} {w:World} {F:Fp} (h:ey b w F x) {p:Option Addr} {c:Nat} {ids:List Int} (s:Cells w p (ids.map (aB .i64))) (t:ids.length<=1000) (u:p=ah->ids=[]/\c=0):Cx 274 #[pt b,.slice p ids.length c] w λe w'=>∃q d,e=Z (.slice q (gk (nF x.2.2) ids).length d)/\Cells w' q ((gk (nF x.2.2) ids).map (aB .i64))/\av no w w'/\∀j,bf q j->w.heap.size<=j:=by
 have i:(gk (nF x.2.2) ids).length=ids.length:=(ji _ _).length_eq;refine ajN ?_;refine⟨λw1 g=>?_⟩;have o:=(Frame.ax b).ak h (g.ak no) (λ_ _ h=>h);have k:=(Frame.ax b).lt o;refine⟨(G8 (s.no (g.ak no)) (by omega) u).mono ?_⟩;rintro e y ⟨q,d,rfl,f⟩;have z:=(Frame.ax b).ak o f.U (λ_ _ h=>h);have l:=g.aK.ak f.U id;refine⟨_,_,_,rfl,?_⟩
 cases q with
 | none=>
  have A:ids=[]:=by
   have:=f.S.2.2.2.1;exact og.1 this
  subst A;refine⟨Calls.mono (show Cx 342 _ _ _ from AnyF.slices_SortFunc_none (P:=Tryz.prog) (ρ:=Tryz.sortL_ren) {Tryz.sortL with} ah d _ y) ?_⟩;rintro e B ⟨rfl,rfl⟩
  exact⟨rfl,_,_,rfl,Cells.nil _ _,(g.ak no).and f.U,λj ⟨_,h,_⟩=>by cases h⟩
 | some a=>
  have E:=f.F a.block ⟨a,rfl,rfl⟩;have C:=g.size;refine⟨(amg (pb:=w.heap.size) z (l.cm rfl) f.S (λD=>by have:=k _ D;omega) (by omega) t).mono ?_⟩;rintro e B ⟨rfl,m,n⟩
  refine⟨rfl,aa a,d,by rw[i],?_,((g.ak no).and f.U).trans n (λj r e=>by omega),λj r=>by
   obtain⟨_,h,rfl⟩:=r;cases h;omega⟩
  exact m.cells
theorem UX {b:Nat} {y:Int×dd} {w:World} {F:Fp} (h:gY b w F y):Cx 293 #[pt b] w λe w'=>∃l q d,e=Z (.slice q l.length d)/\Cells w' q (l.map (aB .i64))/\av no w w'/\(∀j,bf q j->w.heap.size<=j)/\(∃r:List Int,l=gk (λid=>(y.2 id).getD 0) r/\r.Nodup/\∀id,id∈r↔∃t,y.2 id=aa t/\t<=y.1):=by
 obtain⟨L,n,h,a⟩:=h;obtain⟨p,c,F1,hA⟩:=h.at (i:=168) (by show 168<L.length;rw[a.len];decide);refine aj2 ?_;refine⟨λg=>(by cases g),λ_=>⟨_,rfl,p,_,c,hA.cell w (av.refl _ _),⟨(K8 h hA.ls.cells (by have:=a.yT 168;simp only;omega) hA.ls.zero).mono ?_⟩⟩⟩;rintro e w1 ⟨q,d,rfl,o,s,m⟩;refine⟨_,_,_,rfl,_,q,d,rfl,o,s,m,L.getD 168 [],rfl,a.nd 168,λid=>?_⟩;rw[a.at_];constructor
 ·rintro⟨t,f,e⟩;refine⟨t,f,?_⟩;have k:=a.due id t f;unfold cy at e;split at e
  ·have:=k.2;have:=a.tk;unfold bD at *;omega
  ·rename_i u;have:=Qm (now:=y.1.toNat) (due:=t.toNat) (by omega) (zl k.2) (zl a.tk);omega
 ·rintro⟨t,f,hle⟩;refine⟨t,f,?_⟩;have k:=a.due id t f;unfold cy;rw[aj (by have:=k.2;have:=a.tk;unfold bD at *;omega)]
section
open Go.WideElems (Fit rd rg)
variable {α:Type} {f:α->Value} {P:Program} {t k e:TypeId} {z:Value} {b:Nat} {w:World} {F:Fp} {x:(Int->Option α)×Nat}
def yP:Value->Option (DataW Unit×List MemPlace):=λ_=>aa (.nil,[])
def RL (n:Int):Lit×DataW Unit:=(.int .i64 n,.nil)
theorem ads {es:List MapEntry} {L:List (Int×α)} (h:mz f es L) (c:∀p∈L,keyOf P k (.int .i64 p.1)=aa (.int .i64 p.1)):es.map (rg P k yP)=L.map λp=>RL p.1:=by
 apply de;intro i;rw[fy,fy]
 cases he:es[i]? with
 | none=>
  have:L[i]?=ah:=by
   rw[List.getElem?_eq_none_iff]at he⊢;rw[<-h.len];exact he
  rw[this];rfl
 | some y=>
  obtain⟨p,a,d,_⟩:=h.at he;rw[a];simp only[gK];congr 1;unfold rg rd;rw[d,c p (qy.2 ⟨i,a⟩)];rfl
theorem bM.owns (B:P.underlying k=aa (.int .i64)) (h:bM b f w F x) (C:∀n v,x.1 n=aa v->(Lit.int .i64 n).wf=ag) (hs:x.2<=maxLen) :
  ∃(D:DataW Unit) (g:List Int),w.ownsMap P k yP b x.2 D/\(intKeys D).Perm g/\g.Nodup/\(∀n,n∈g↔(x.1 n).isSome=ag)/\g.length=x.2/\Maps.size D=x.2:=by
 obtain⟨I,es,clock,L,E,l,G,m,s,o⟩:=h;have u:∀p∈L,keyOf P k (.int .i64 p.1)=aa (.int .i64 p.1):=λp c=>Maps.keyOf_int_mk B (C p.1 p.2 ((m p.1 p.2).2 c));have q:=ads (P:=P) (k:=k) l u;have d:es.size=x.2:=by rw[s,<-l.len];simp
 have a:=WideShapes.sorted_perm (es.toList.map (rg P k yP));refine⟨.map ((es.toList.map (rg P k yP)).foldr DataW.insert []),L.map fv,⟨es,clock,E,⟨by omega,o,λy H=>?_⟩,by omega,rfl⟩,?_,G,λn=>?_,by simp[s],?_⟩
 ·obtain⟨i,hi⟩:=qy.1 H;obtain⟨p,c,r,_⟩:=l.at hi;exact⟨RL p.1,by unfold rd;rw[r,u p (qy.2 ⟨i,c⟩)];rfl⟩
 ·show(((es.toList.map (rg P k yP)).foldr DataW.insert []).map _).Perm _;refine(a.map _).trans ?_;rw[q,s8];exact .refl _
 ·constructor
  ·intro j;obtain⟨p,c,rfl⟩:=ck.1 j;rw[(m p.1 p.2).2 c];rfl
  ·intro j
   cases A:x.1 n with
   | none=>rw[A]at j;cases j
   | some v=>exact ck.2 ⟨(n,v),(m n v).1 A,rfl⟩
 ·show((es.toList.map (rg P k yP)).foldr DataW.insert []).length=_;rw[a.length_eq,bW];simpa using d
end
theorem UW {pb:Nat} {id:Int} {w:World} (a:w.cell? ⟨pb,0,ah⟩=aa (I id)) (x:Int):Cx 374 #[I x,pt pb] w λe w'=>e=Z (.bool (x==id))/\w'=w:=by
 refine ala ?_;exact⟨_,a,rfl,rfl⟩
theorem XV {pb:Nat} {id:Int} {w:World} (f:w.cell? ⟨pb,0,ah⟩=aa (I id)) {F1:Fp} {a:Addr} {c:Nat} {l:List Int} (k:Ls 3 w F1 (aa a,c,l)) (p:pb≠a.block) (K:l.length<=1000) :
  Cx 373 #[.slice (aa a) l.length c,.func (.func 374) #[] #[pt pb]] w λe w'=>e=Z (.slice (aa a) (l.filter λx=>!(x==id)).length c)/\ai (Ls 3) w w' F1 (aa a,c,l.filter λx=>!(x==id)):=by
 have s:=k.2.holds;have hs:a.spot=ah:=by obtain⟨_,_,_,cells,L,hs,_,_⟩:=k.2;exact hs
 have g:=qH f;have u:∀args w,(callFunc 374 args).run Tryz.prog w=.ok (.enter 374 args) w:=enters_of Tryz.func374 (by kernel_rfl) rfl
 have y:PredAt Tryz.prog 374 #[pt pb] (aB .i64) (λx=>x==id) w:=by
  intro W x hB;refine(UW (w:=W) (id:=id) ?_ x).mono ?_
  ·unfold bJ at f⊢;rw[hB.block pb g];exact f
  ·rintro e w' ⟨rfl,rfl⟩;exact⟨rfl,0,rfl⟩
 have z:PredOver Tryz.prog 374 #[pt pb] (aB .i64) (λx=>x==id) a.block a.off l.toArray.size w:=by
  intro m os dk x A;have B:av (λi=>i=a.block) w (sortWorld (aB .i64) w a.block a.off m dk os):=ES _;refine(UW (id:=id) ?_ x).mono ?_
  ·unfold bJ at f⊢;rw[B.ay _ g p];exact f
  ·rintro e w' ⟨rfl,rfl⟩;exact⟨rfl,0,rfl⟩
 have C:∀w:World,(zeroValue 3).run Tryz.prog w=.ok (I 0) w:=λw=>by
  rw[wF (t:=3) (by kernel_rfl),show zv Tryz.prog 3=I 0 by kernel_rfl]
 have h:=AnyE.slices_DeleteFunc Tryz.delL (aB .i64) (λ_=>rfl) (λx=>x==id) 374 #[pt pb] u 0 C a.block a.off c l.toArray w y z s (by simp;omega) (by simpa using k.2.2.1)
 have D:a=⟨a.block,a.off,ah⟩:=by
  obtain⟨M,o,sp⟩:=a;simp only at hs;subst hs;rfl
 have b:=show Cx 373 #[.slice (aa ⟨a.block,a.off,ah⟩) l.length c,.func (.func 374) #[] #[pt pb]] w _ from h;rw[<-D]at b;refine b.mono ?_;rintro e w' ⟨rfl,q,E⟩;refine⟨rfl,?_⟩;have F:(l.filter λx=>!(x==id)).length<=l.length:=jN _ _;have j:((l.filter λx=>!(x==id))++aD (l.length-(l.filter λx=>!(x==id)).length) 0).length=l.length:=by simp;omega
 obtain⟨G,t1,t2,H⟩:=k.putRow (d:=(l.filter λx=>!(x==id))++aD (l.length-(l.filter λx=>!(x==id)).length) 0) j (n:=q) (os:=#[])
 have J:w'=Sort.grow (Sort.putRow (aB .i64) (Sort.ahead w q) a.block a.off ((l.filter λx=>!(x==id))++aD (l.length-(l.filter λx=>!(x==id)).length) 0).toArray) #[]:=by
  rw[Sort.grow_empty];exact E
 rw[<-J]at t1 t2;refine⟨G,⟨t1.1,?_⟩,t2,H⟩;have r:=t1.2.takeN (l.filter λx=>!(x==id)).length (by simp);rw[eX,<-List.map_take,List.take_append_of_le_length (aX _),dC]at r;exact r
theorem UU {b:Nat} {y:Int×dd} {w:World} {F:Fp} (h:gY b w F y) {id d:Int} (q:y.2 id=aa d):Cx 324 #[pt b,I id] w λe w'=>e=Z (I 0)/\ai (gY b) w w' F (y.1,pQ y.2 id):=by
 obtain⟨L,n,D,j⟩:=h;obtain⟨now,g⟩:=y;simp only at D j q⊢;have hd:=j.due id d q;refine akx ?_;refine⟨λw1 T=>⟨λg=>(by cases g),λ_=>?_⟩⟩;intro U V W X Y;have s:av no w U:=(T.ak no).and (av.same no V W X Y);have E:=(Frame.ax b).ak D s (λ_ _ h=>h);have k:=(Frame.ax b).lt D;obtain⟨bm,Fm,⟨ys,hB⟩,hM,_⟩:=E.map;have t:aM U w.heap.size [I id] _:=T.aK.ak (av.same no V W X Y) (λh=>h);have z:=kP ue hM id ag;simp only[q,gK,ie,Option.isSome_some,if_true]at z;refine⟨_,rfl,_,hB.cell rfl,_,t.cm rfl,_,_,z,λg=>(by cases g),λ_=>⟨(UZ E j.tk hd.2).mono ?_⟩⟩;rintro e w3 ⟨rfl,r⟩;have G:=(Frame.ax b).ak E r (λ_ _ h=>h);have al:=(Frame.ax b).lt G;have A:=t.ak r (λh=>h);have l:fE now g id=cy now.toNat d.toNat:=by unfold fE;rw[q];rfl
 have H:cy now.toNat d.toNat<L.length:=by rw[j.len,<-l];exact AK j.tk hd.2 q
 obtain⟨p,c,F1,hA⟩:=G.at (i:=cy now.toNat d.toNat) H;have m:=(j.at_ (cy now.toNat d.toNat) id).2 ⟨d,q,rfl⟩;have am:=j.yT (cy now.toNat d.toNat);refine⟨_,rfl,_,rfl,_,_,_,hA.cell w3 (av.refl _ _),?_⟩;have f:=hA.ls;have o:=hA.put;simp only at f o⊢
 cases p with
 | none=>
  have:=(f.zero rfl).1;rw[this]at m
  cases m
 | some a=>
  have J:F1 a.block:=(f.1 _).2 ⟨a,rfl,rfl⟩
  have K:w.heap.size≠a.block:=by
   have:=k _ (hA.sub _ J);omega
  refine⟨(XV (A.cm rfl) f K (by omega)).mono ?_⟩;rintro e w4 ⟨rfl,M⟩;refine⟨aa a,_,c,rfl,_,rfl,?_⟩;refine o w4 (aa a) c _ M _ λw5 h5=>?_;intro w6 r1 r2 r3 r4;have h6:=h5.ak (av.same no r1 r2 r3 r4);obtain⟨F6,k6,N⟩:=h6.db;obtain⟨ap,aq,⟨az,O⟩,P,Q⟩:=k6.map;have R:aM w6 w.heap.size [I id] _:=A.ak (show av F w3 w6 from(by obtain⟨_,_,u,_⟩:=h6;exact u)) (λhf=>by have:=k _ hf;omega);obtain⟨w7,B,S⟩:=tT ue P id 3 (0:TypeId);refine⟨_,rfl,_,O.cell rfl,_,R.cm rfl,w7,B,trivial,?_⟩;have h7:=N _ _ (Q _ _ S);have h8:ai (ey b) w w7 F (now,L.set (cy now.toNat d.toNat) ((L.getD (cy now.toNat d.toNat) []).filter λx=>!(x==id)),iy (g,n) id):=ai.next G ((s.and r).mono (λ_ _ h=>h.elim)) (λ_ h=>.inl h) h7;have C:=j.del q;rw[l]at C;exact gY.of h8 C
theorem LC (w:World) (o:Obj) {i:Nat} (h:i<w.heap.size):(w.alloc o).heap[i]?=w.heap[i]?:=by
 show(w.heap.push o)[i]?=_;rw[Array.getElem?_push,af (by omega)]
theorem wfF {n:Int} (h:1<=n/\n<=48):(Lit.int .i64 n).wf=ag:=by
 simp[Lit.wf,IntKind.min,pG,lQ,kl];omega
theorem alU {b:Nat} {y:Int×dd} {w:World} {F:Fp} (h:gY b w F y):Cx 184 #[pt b] w λe w'=>∃l q d,e=Z (.slice q l.length d)/\Cells w' q (l.map (aB .i64))/\av no w w'/\(∀j,bf q j->w.heap.size<=j)/\(∃r:List Int,l=gk (λid=>(y.2 id).getD 0) r/\r.Nodup/\∀id,id∈r↔(y.2 id).isSome=ag):=by
 obtain⟨L,n,h,X⟩:=h;obtain⟨A,Fm,⟨ys,hB⟩,Y,_⟩:=h.map
 have G:n<=48:=by
  obtain⟨_,es,clock,E,_,_,hn,hx,hl,_⟩:=Y;simp only at hl;rw[hl]
  have:=Kg (l:=E.map fv) hn (λid H=>by
   obtain⟨p,hp,rfl⟩:=ck.1 H;exact(X.due p.1 p.2 ((hx p.1 p.2).2 hp)).1)
  simpa using this
 obtain⟨D,ks,c,u,I,s,t,a⟩:=bM.owns (P:=Tryz.prog) (k:=3) (by kernel_rfl) Y (λm v J=>wfF (X.due m v J).1) (by simp only;unfold maxLen;omega);simp only at c t a s;refine ain ?_;refine⟨λg=>(by cases g),λ_=>⟨_,rfl,_,hB.cell rfl,?_⟩⟩;have hK:=callsIn_wide.1 (AnyZI.keys_in Tryz.keysL nt 9 trivial rfl (aa A) w);refine⟨Calls.mono (show Cx 276 _ _ _ from hK) ?_⟩;rintro e w1 ⟨rfl,rfl⟩;refine⟨_,rfl,?_⟩
 have K:A<w.heap.size:=by
  obtain⟨es,clock,o,_⟩:=c;exact tM o
 have hseq:SeqGives nt (9-1-1) Tryz.prog 348 #[pt w.heap.size] encZ (λf=>f.Perm (intKeys D)) (Maps.size D) (w.alloc (.cells #[.map (aa A)] 285)):=
  AnyZI.keys_gives (ρ:=Tryz.keysL_ren) {Tryz.keysL with} nt _ trivial rfl (by omega) w.heap.size A n D _ (by simp) (by simp) (by
   obtain⟨es,clock,o,Ft,hs,hD⟩:=c;exact⟨es,clock,(LC w _ K).trans o,Ft,hs,hD⟩)
 have hC:=callsIn_wide.1 (AnyZI.collect_in Tryz.collL nt 9 trivial trivial rfl (by omega) 348 #[pt w.heap.size] trivial (enters_of Tryz.func348 (by kernel_rfl) rfl) (λf=>f.Perm (intKeys D)) (Maps.size D) (by rw[a];unfold maxLen;omega) (by rw[a];omega) (w.alloc (.cells #[.map (aa A)] 285)) hseq);have M:av no w (w.alloc (.cells #[.map (aa A)] 285)):=⟨by simp,rfl,rfl,rfl,λi hi _=>LC w _ hi⟩;refine⟨Calls.mono (show Cx 275 _ _ _ from hC) ?_⟩;rintro e N ⟨v,f,rfl,hS,B,al,o⟩;have x:av no w N:=M.and ⟨o.size,o.os,o.tape,o.output,λi hi _=>o.block i hi⟩;have z:f.Perm ks:=hS.trans u
 have O:∃q d,v=.slice q f.length d/\Cells N q (f.map (aB .i64))/\(q=ah->f=[]/\d=0):=by
  obtain⟨h1,Q⟩:=B;rcases Q with⟨rfl,R⟩|⟨g,cap,cur,rfl,_,hg,hn,hm,am,ht⟩
  ·have R:f=[]:=og.1 R;subst R;exact⟨ah,0,rfl,Cells.nil _ _,λ_=>⟨rfl,rfl⟩⟩
  ·refine⟨aa ⟨g,0,ah⟩,cap,rfl,λj v C=>⟨_,rfl,?_⟩,λh=>by cases h⟩
   have ap:j<f.length:=by
    have:=(dQ.1 C).1;simpa using this
   have S:aM N g cur.toList _:=hg;rw[add_lit,Af S,eU];rw[<-ht,iI,aj (by omega)]at C;exact C
 obtain⟨q,d,rfl,T,hq⟩:=O;have Q:=(Frame.ax b).ak h x (λ_ _ h=>h);refine⟨_,_,_,rfl,⟨(K8 Q T (by rw[z.length_eq,t];omega) hq).mono ?_⟩⟩;rintro e w3 ⟨q',d',rfl,U,V,W⟩;refine⟨_,_,_,rfl,_,q',d',rfl,U,x.and V,λj C=>aW x.size (W j C),f,rfl,z.nodup_iff.2 I,λid=>?_⟩;rw[z.mem_iff];exact s id
abbrev l0:jJ:=(ah,0,[])
theorem agp {l:List Value} {k:Nat} (h:k+8<=l.length):(l.drop k).take 8=[l[k],l[k+1],l[k+2],l[k+3],l[k+4],l[k+5],l[k+6],l[k+7]]:=by
 rw[ku (by omega),ku (by omega),ku (by omega),ku (by omega),ku (by omega),ku (by omega),ku (by omega),ku (by omega)];rfl
theorem ad0 (ys:List jJ) (i:Nat):(rws ys).getD i []=(ys.getD i l0).2.2:=by
 simp only[aO,rws,fy];cases ys[i]?<;>rfl
def oR (ys:List jJ) (i:Nat):Value:=iq (ys.getD i l0)
theorem K5 {a:Nat} {n:Int} {ys:List jJ} {i:Nat} (hi:i<ys.length):(mw a (n,ys))[2+i]?=aa (oR ys i):=by
 unfold mw oR;rw[show 2+i=i+2 by omega];simp[hi]
theorem alY {b:Nat} {now:Int} {L:List (List Int)} {m:my} {w:World} {F:Fp} (h:ey b w F (now,L,m)) (Q:L.length=169) (R:∃i id,id∈L.getD i []):Cx 362 #[pt b] w λe w'=>∃i q c,e=Z (.slice q (L.getD i []).length c)/\Cells w' q ((L.getD i []).map (aB .i64))/\(q=ah->L.getD i []=[]/\c=0)/\L.getD i []≠[]/\i<169/\(i=168∨(L.getD 168 []=[]/\∀j,j<i->L.getD j []=[]))/\av no w w':=by
 have row:∀(w':World) (a:List jJ) (D:Nat) (i:Nat),av no w w'->i<169->rws a=L->aM w b (mw D (now,a)) 289->Cells w' (a.getD i l0).1 ((L.getD i []).map (aB .i64))/\((a.getD i l0).1=ah->L.getD i []=[]/\(a.getD i l0).2.1=0):=by
  intro w' a D i E hi B hB;have h':=(Frame.ax b).ak h E (λ_ _ h=>h);obtain⟨p,c,F1,hA⟩:=h'.at (i:=i) (by show i<L.length;rw[Q];exact hi);have f:=hA.cell w' (av.refl _ _);have S:=hB.ak E (λh=>h);have d:i<a.length:=by rw[<-wH,B,Q];exact hi
  rw[S.cell (K5 d)]at f;unfold oR iq at f;simp only[Option.some.injEq,Value.slice.injEq]at f;obtain⟨e1,_,e3⟩:=f;rw[e1,e3];exact⟨hA.ls.cells,hA.ls.zero⟩
 obtain⟨D,a,H,B⟩:=id h;simp only at B H;obtain⟨G,hW,_⟩:=aF.left H;have hB:aM w b (mw D (now,a)) 289:=hW.ay;have I:a.length=169:=by rw[<-wH,B,Q]
 have d:∀i,(a.getD i l0).2.2=L.getD i []:=λi=>by rw[<-B,ad0]
 have A:w.cell? ((⟨b,0,ah⟩:Addr).add 170)=aa (.slice (a.getD 168 l0).1 (a.getD 168 l0).2.2.length (a.getD 168 l0).2.1):=hB.cell (k:=170) (K5 (i:=168) (by omega));refine ak1 ?_;refine⟨_,rfl,_,_,_,A,λg=>⟨_,rfl,_,_,_,A,168,(a.getD 168 l0).1,(a.getD 168 l0).2.1,?_⟩,λg=>⟨_,rfl,(a.map iq).take 168,by simp[I],?_,?_⟩⟩
 ·have g:=aL g;rw[d 168]at g⊢;obtain⟨T,V⟩:=row w a D 168 (av.refl _ _) (by decide) B hB;refine⟨rfl,T,V,λW=>?_,by decide,.inl rfl,av.refl _ _⟩;rw[W]at g;simp at g
 ·intro j v r
  have X:j<168:=by
   have:=(dQ.1 r).1;simp at this;omega
  rw[List.getElem?_take_of_lt X,fy]at r;rw[dX];refine hB.cell ?_;rw[K5 (by omega)];have:a[j]?=aa (a.getD j l0):=by simp[aO,show j<a.length by omega]
  rw[this]at r;exact r
 ·have g:=aT g
  have s:L.getD 168 []=[]:=by
   rw[d 168]at g;exact og.1 (by omega)
  have J:((a.map iq).take 168).length=168:=by simp[I]
  have l:∀k (P:k<168),((a.map iq).take 168)[k]'(by rw[J];exact P)=oR a k:=λk P=>by
   unfold oR;simp[aO,show k<a.length by omega]
  refine⟨bO bu (M:=ke) (σ:=Nat×Option Addr×Nat×Nat) (λx=>HR x.2.1 x.2.2.1 x.2.2.2 ((a.map iq).take 168) (x.1:Int)) (λx w'=>x.1<=21/\(∀j,j<x.1*8->L.getD j []=[])/\av no w w') (λx _=>21-x.1) (0,ah,0,0) ⟨rfl,rfl,rfl,trivial⟩ ⟨by simp only;omega,λj r=>by simp only at r;omega,av.refl _ _⟩ ?_⟩;rintro⟨i,p,n,c⟩ w1 ⟨hi,C,E⟩;simp only at hi C⊢;rw[afH];refine⟨λK=>?_,λK=>?_⟩
  ·have K:=aL K;refine⟨⟨by omega,by omega⟩,?_⟩
   have e8:rT 8 (rU ((i:Int).toNat*8) ((a.map iq).take 168).toArray.toList)=[oR a (i*8),oR a (i*8+1),oR a (i*8+2),oR a (i*8+3),oR a (i*8+4),oR a (i*8+5),oR a (i*8+6),oR a (i*8+7)]:=by
    rw[bQ,List.toList_toArray,agp (by rw[J];omega),l _ (by omega),l _ (by omega),l _ (by omega),l _ (by omega),l _ (by omega),l _ (by omega),l _ (by omega),l _ (by omega)]
   refine⟨_,_,_,_,_,_,_,_,_,_,_,_,_,_,_,_,_,_,_,_,_,_,_,_,e8,⟨λw2 hN=>hN.aK.gF (by simp) λw3 N=>?_⟩⟩;have o:=N.aK;have Y:av no w w3:=(E.and (hN.ak no)).trans N.U (λj r e=>by have:=E.size;omega);refine⟨_,_,_,o.cell rfl,_,_,_,o.cell rfl,_,_,_,o.cell rfl,_,_,_,o.cell rfl,_,_,_,o.cell rfl,_,_,_,o.cell rfl,_,_,_,o.cell rfl,_,_,_,o.cell rfl,?_⟩;refine⟨bO bu (M:=ke) (σ:=Nat×Option Addr×Nat×Nat) (λx=>HS x.2.1 x.2.2.1 x.2.2.2 ((a.map iq).take 168) (i:Int) (a.getD (i*8) l0).1 (a.getD (i*8) l0).2.2.length (a.getD (i*8) l0).2.1 (a.getD (i*8+1) l0).1 (a.getD (i*8+1) l0).2.2.length (a.getD (i*8+1) l0).2.1 (a.getD (i*8+2) l0).1 (a.getD (i*8+2) l0).2.2.length (a.getD (i*8+2) l0).2.1 (a.getD (i*8+3) l0).1 (a.getD (i*8+3) l0).2.2.length (a.getD (i*8+3) l0).2.1 (a.getD (i*8+4) l0).1 (a.getD (i*8+4) l0).2.2.length (a.getD (i*8+4) l0).2.1 (a.getD (i*8+5) l0).1 (a.getD (i*8+5) l0).2.2.length (a.getD (i*8+5) l0).2.1 (a.getD (i*8+6) l0).1 (a.getD (i*8+6) l0).2.2.length (a.getD (i*8+6) l0).2.1 (a.getD (i*8+7) l0).1 (a.getD (i*8+7) l0).2.2.length (a.getD (i*8+7) l0).2.1 (x.1:Int)) (λx w'=>x.1<=8/\(∀j,j<i*8+x.1->L.getD j []=[])/\av no w w') (λx _=>8-x.1) (0,p,n,c) ⟨rfl,rfl,rfl,rfl,rfl,trivial⟩ ⟨by simp only;omega,λj r=>C j (by simp only at r;omega),Y⟩ ?_⟩;rintro⟨k,p',n',c'⟩ w4 ⟨P,t,y⟩;simp only at P t⊢;rw[afI];refine⟨λO=>?_,λO=>?_⟩
   ·have O:=aL O;have al:k<8:=by omega
    refine⟨⟨by omega,by omega⟩,(a.getD (i*8+k) l0).1,(a.getD (i*8+k) l0).2.2.length,(a.getD (i*8+k) l0).2.1,?_,λz=>?_,λz=>?_⟩
    ·rw[bQ,eX]
     match k,al with
     | 0,_|1,_|2,_|3,_|4,_|5,_|6,_|7,_=>rfl
    ·have z:=aL z;obtain⟨T,V⟩:=row w4 a D (i*8+k) y (by omega) B hB;rw[d]at z⊢;refine⟨i*8+k,_,_,rfl,T,V,λW=>?_,by omega,.inr ⟨s,λj r=>t j r⟩,y⟩;rw[W]at z;simp at z
    ·have z:=aT z;refine⟨(k+1,_,_,_),⟨rfl,rfl,rfl,rfl,by rw[aP (by omega)];rfl,trivial⟩,⟨by simp only;omega,λj r=>?_,y⟩,by simp only;omega⟩;simp only at r;by_cases am:j=i*8+k
     ·subst am;rw[d]at z;exact og.1 (by omega)
     ·exact t j (by omega)
   ·have O:=aT O;have:k=8:=by omega
    subst this;exact⟨(i+1,p',n',c'),⟨rfl,rfl,by rw[aP (by omega)];rfl,trivial⟩,⟨by simp only;omega,λj r=>t j (by simp only at r;omega),y⟩,by simp only;omega⟩
  ·have K:=aT K;exfalso;obtain⟨j,id,u⟩:=R;by_cases r:j<168
   ·rw[C j (by omega)]at u;cases u
   ·by_cases ap:j=168
    ·rw[ap,s]at u;cases u
    ·rw[aO,fV (by omega)]at u;cases u
theorem bM.zero {α:Type} {f:α->Value} {b:Nat} {w:World} {F:Fp} {x:(Int->Option α)×Nat} (h:bM b f w F x):x.2=0↔∀k,x.1 k=ah:=by
 obtain⟨_,es,clock,E,_,_,g,c,d,_⟩:=h;constructor
 ·intro a k
  cases e:x.1 k with
  | none=>rfl
  | some v=>
   have:=(c k v).1 e;rw[d]at a;rw[og.1 a]at this;cases this
 ·intro a;rw[d]
  cases E with
  | nil=>rfl
  | cons p E=>
   have:=(c p.1 p.2).2 (i6 ..);rw[a]at this;cases this
theorem T3 {g:Int->Int} {l r:List Int} {a:Int} (h:gk g l=a::r):a∈l/\∀id∈l,g a<=g id:=by
 have b:=ji g l;have hs:=zg g l;rw[h]at b hs;refine⟨b.mem_iff.1 i6,λid c=>?_⟩;have:=b.mem_iff.2 c;rcases ez.1 this with rfl|d
 ·exact fU _
 ·have:=(List.pairwise_cons.1 hs).1 id d;rw[qV]at this;omega
theorem YN {now:Int} {L:List (List Int)} {g:dd} (m:kj now L g) {i:Nat} (hi:i<169) (n:L.getD i []≠[]) (f:i=168∨(L.getD 168 []=[]/\∀j,j<i->L.getD j []=[])) {t:Int} {a:Int} (B:a∈L.getD i []) (o:g a=aa t) (p:∀id∈L.getD i [],∀t',g id=aa t'->t<=t'):∀d t',g d=aa t'->t<=t':=by
 intro d t' r;have k:=(m.at_ (cy now.toNat t'.toNat) d).2 ⟨t',r,rfl⟩;by_cases x:cy now.toNat t'.toNat=i
 ·rw[x]at k;exact p d k t' r
 ·have s:=(m.due d t' r).2;have C:=(m.due a t o).2;obtain⟨t2,y,q⟩:=(m.at_ i a).1 B;rw[o]at y;cases y;have D:=m.tk;unfold bD at C s D;rcases f with rfl|⟨h,u⟩
  ·have z:t.toNat<=now.toNat:=by
    unfold cy at q;split at q
    ·assumption
    ·rename_i l;have:=Qm (now:=now.toNat) (due:=t.toNat) (by omega) (by omega) (by omega);omega
   have A:¬t'.toNat<=now.toNat:=λl=>x (by unfold cy;rw[aj l]);omega
  ·have c:cy now.toNat t'.toNat≠168:=λe=>by rw[e,h]at k;cases k
   have E:¬cy now.toNat t'.toNat<i:=λe=>by rw[u _ e]at k;cases k
   have w:i≠168:=λe=>by rw[e]at n;exact n h
   have z:¬t.toNat<=now.toNat:=λl=>by unfold cy at q;rw[aj l]at q;omega
   have A:¬t'.toNat<=now.toNat:=λl=>by unfold cy at c;rw[aj l]at c;exact c rfl
   have F:cy now.toNat t.toNat=ba t.toNat now.toNat*8+gL t.toNat (ba t.toNat now.toNat):=by unfold cy;rw[af z]
   have G:cy now.toNat t'.toNat=ba t'.toNat now.toNat*8+gL t'.toNat (ba t'.toNat now.toNat):=by unfold cy;rw[af A]
   have:=Z0 (now:=now.toNat) (a:=t.toNat) (b:=t'.toNat) (by omega) (by omega) (by omega);omega
theorem amc {b:Nat} {y:Int×dd} {w:World} {F:Fp} (h:gY b w F y):Cx 303 #[pt b] w λe w'=>(((∀id,y.2 id=ah)/\e=Z (.tuple #[I 0,I 12]))∨∃a t,y.2 a=aa t/\(∀K t',y.2 K=aa t'->t<=t')/\e=Z (.tuple #[I t,I 0]))/\av no w w':=by
 obtain⟨L,n,h,x⟩:=h;obtain⟨now,g⟩:=y;simp only at h x⊢;obtain⟨S,Fm,⟨ys,hB⟩,T,_⟩:=h.map;have M:=T.zero;simp only at M;refine akc ?_;refine⟨λg=>(by cases g),λ_=>⟨_,rfl,_,hB.cell rfl,n,λty=>J6 ue T ty,λg1=>?_,λg1=>?_⟩⟩
 ·have g1:n=0:=by simpa using g1
  exact⟨.inl ⟨M.1 g1,rfl⟩,av.refl _ _⟩
 ·have g1:n≠0:=by simpa using g1
  intro w1 Y q2 q3 q4;have o:=av.same no Y q2 q3 q4;have U:=(Frame.ax b).ak h o (λ_ _ h=>h);have z:=hB.ak o (λh=>h)
  have N:∃i id,id∈L.getD i []:=by
   by_cases j:∀k,g k=ah
   ·exact absurd (M.2 j) g1
   ·obtain⟨k,hk⟩:=Classical.not_forall.1 j
    cases A:g k with
    | none=>exact absurd A hk
    | some t=>exact⟨_,k,(x.at_ _ k).2 ⟨t,A,rfl⟩⟩
  refine⟨_,rfl,_,z.cell rfl,⟨(alY U x.len N).mono ?_⟩⟩;rintro e w2 ⟨i,q,c,rfl,hC,hq,m,hi,d,p⟩;have V:=(Frame.ax b).ak U p (λ_ _ h=>h);have B:=z.ak p (λh=>h);refine⟨_,_,_,rfl,B.cell rfl,⟨(K8 V hC (by have:=x.yT i;omega) hq).mono ?_⟩⟩;rintro e w3 ⟨q',d',rfl,C,s,_⟩;have h3:=(Frame.ax b).ak V s (λ_ _ h=>h);have D:=B.ak s (λh=>h);obtain⟨E,Fm3,⟨al,G⟩,O,_⟩:=h3.map
  have P:E=S:=by
   have e1:=G.cell (k:=1) (v:=.map (aa E)) rfl;have W:=D.cell (k:=1) (v:=.map (aa S)) rfl;rw[e1]at W;simpa using W
  subst P
  cases hs:gk (nF (g,n)) (L.getD i [])with
  | nil=>
   exfalso;have:=(ji (nF (g,n)) (L.getD i [])).length_eq;rw[hs]at this
   exact m (og.1 this.symm)
  | cons a r=>
   simp only[hs]at C⊢;obtain⟨X,H⟩:=T3 hs;obtain⟨t,f,_⟩:=(x.at_ i a).1 X;obtain⟨ad,Q,u⟩:=C.cv (i:=0) (l:=a::r) (by simp);have J:=kP ue O a ae;simp only[f,gK,ie]at J;refine⟨_,_,_,rfl,D.cell rfl,⟨by omega,by simp⟩,ad,Q,a,by simpa using u,t,J,.inr ⟨a,t,f,?_,rfl⟩,(o.and p).and s⟩;refine YN x hi m d X f (λid R t' h'=>?_);have:=H id R;unfold nF at this;simp only[f,h',ie]at this;exact this
theorem sK:qq Tryz.prog 78 3 3 (I 0):=⟨by kernel_rfl,by kernel_rfl,by kernel_rfl,by kernel_rfl⟩
theorem Yh:eO Tryz.prog 183 181 1 8 [.pointer ah]:=⟨by kernel_rfl,by kernel_rfl,rfl,by omega⟩
def rC (b2 bm:Nat) (p:Option Addr) (n c:Nat):List Value:=[pt b2,.slice p n c,.map (aa bm)]
abbrev Gn (b b2 bm:Nat):Ob (List (Int×dd)):=Tq gY b 185 181 (rC b2 bm)
abbrev dB (b b2 bm:Nat):Ob ((List Bool×List (Int×dd))×my):=aF (aF (dq b2) (Gn b b2 bm)) (bM bm (aB .i64))
def zL {σ:Type} (A:Nat->Ob σ) (b:Nat) (T E:TypeId) (enc:Option Addr->Nat->Nat->List Value) (p:Option Addr) (c:Nat):Ob (List σ):=λw F x=>∃a,aF (CF σ b T E enc) (Fam (At A)) w F ((a,(p,c)),a)/\a.map (·.2)=x
section
variable {σ:Type} {A:Nat->Ob σ} [fa:∀b,Frame (A b)] {b:Nat} {T E:TypeId} {enc:Option Addr->Nat->Nat->List Value} {w w1 w':World} {F:Fp} {x:List σ}
instance Frame.tqp {p:Option Addr} {c:Nat}:Frame (zL A b T E enc p c) where
 ak:=λ⟨a,h,r⟩ k d=>⟨a,Frame.star.ak h k d,r⟩
 lt:=λ⟨_,h,_⟩=>Frame.star.lt h
theorem zL.at {p:Option Addr} {c:Nat} (h:zL A b T E enc p c w F x) {i:Nat} (hi:i<x.length):∃a bi F1,p=aa a/\aM w b (enc p x.length c) T/\w.cell? (a.add (i*1))=aa (pt bi)/\A bi w F1 x[i]/\
  ∀w' g,ai (A bi) w w' F1 g->ai (zL A b T E enc p c) w w' F (x.set i g):=by
 obtain⟨d,h,rfl⟩:=h;have e:i<d.length:=by simpa using hi
 obtain⟨G1,k,_⟩:=h.left;obtain⟨G2,q,k2⟩:=h.right;simp only at k q;obtain⟨a,r,y⟩:=k.sl.cells.cv (f:=iS) (l:=d) e;simp only at r;subst r;obtain⟨F1,z,_,B⟩:=Fam.at q e;refine⟨a,d[i].1,F1,rfl,by rw[bW];exact k.ay,y,by rw[rV];exact z,λw' g C=>?_⟩;obtain⟨n,t1,t2,D⟩:=C;have G:=k2 _ _ (B w' (d[i].1,g) ⟨n,t1,t2,D⟩);obtain⟨H,⟨H1,H2,s,t,I,J⟩,K,L⟩:=G;simp only at s t
 have M:(d.set i (d[i].1,g)).map (iS (σ:=σ))=d.map iS:=by
  rw[fx];show(d.map iS).set i (iS d[i])=d.map iS;apply de;intro j;rw[cJ];by_cases u:i=j
  ·subst u;simp[e]
  ·simp[u]
 refine⟨H,⟨d.set i (d[i].1,g),⟨H1,H2,?_,t,I,J⟩,?_⟩,K,L⟩
 ·obtain⟨N,O,P,Q⟩:=s;refine⟨?_,?_,P,Q⟩
  ·simp only[bN];exact N
  ·simp only[bN];rw[M];exact O
 ·rw[fx]
end
abbrev rK (b b2 bm:Nat) (p:Option Addr) (c:Nat):Ob ((List Bool×List (Int×dd))×my):=aF (aF (dq b2) (zL gY b 185 181 (rC b2 bm) p c)) (bM bm (aB .i64))
theorem dB.fix {b b2 bm:Nat} {w:World} {F:Fp} {s:(List Bool×List (Int×dd))×my} (h:dB b b2 bm w F s):∃p c,rK b b2 bm p c w F s:=by
 obtain⟨F1,F2,⟨G1,G2,g1,⟨y,a,d,e⟩,f,g⟩,i,j,k⟩:=h;exact⟨y.1,y.2,F1,F2,⟨G1,G2,g1,⟨a,d,e⟩,f,g⟩,i,j,k⟩
theorem rK.loose {b b2 bm:Nat} {w:World} {F:Fp} {s:(List Bool×List (Int×dd))×my} {p:Option Addr} {c:Nat} (h:rK b b2 bm p c w F s):dB b b2 bm w F s:=by
 obtain⟨F1,F2,⟨G1,G2,g1,⟨a,d,e⟩,f,g⟩,i,j,k⟩:=h;exact⟨F1,F2,⟨G1,G2,g1,⟨(p,c),a,d,e⟩,f,g⟩,i,j,k⟩
structure sY (x:cI) (o:List Bool) (ws:List (Int×dd)) (m:my):Prop where
 o:o=x.t.map Option.isSome
 len:ws.length=x.n
 ws:∀i (hi:i<ws.length),ws[i]=(x.now,eh x.t (i:Int))
 mp:∀id,m.1 id=(bE x.t id).map fv
 v:Gm x
def ft (b:Nat):Ob cI:=λw F x=>∃b2 bm o ws m,dB b b2 bm w F ((o,ws),m)/\sY x o ws m
instance Frame.FJ (b:Nat):Frame (ft b) where
 ak:=λ⟨b2,bm,o,ws,m,h,r⟩ k a=>⟨b2,bm,o,ws,m,Frame.star.ak h k a,r⟩
 lt:=λ⟨_,_,_,_,_,h,_⟩=>Frame.star.lt h
section
variable {b b2 bm:Nat} {w:World} {F:Fp} {x:cI} {o:List Bool} {ws:List (Int×dd)} {m:my}
theorem dB.ay (h:dB b b2 bm w F ((o,ws),m)):∃p c,aM w b (rC b2 bm p ws.length c) 185:=by
 obtain⟨F1,a,_⟩:=aF.left h;obtain⟨F2,d,_⟩:=aF.right a;exact d.ay
theorem ft.of {W:World} (h:ai (dB b b2 bm) W w F ((o,ws),m)) (r:sY x o ws m):ai (ft b) W w F x:=by
 obtain⟨a,c,d⟩:=h;exact⟨a,⟨b2,bm,o,ws,m,c,r⟩,d⟩
theorem wc {c:Int} (h:dT x c):∃i:Nat,i<x.n/\c=(i:Int):=⟨c.toNat,by unfold dT at h;omega,by unfold dT at h;omega⟩
theorem dB.qj {W:World} (h:ai (dB b b2 bm) W w F ((o,ws),m)) {i:Nat} (hi:i<ws.length):∃a c bi F1,aM w b (rC b2 bm (aa a) ws.length c) 185/\w.cell? (a.add (i*1))=aa (pt bi)/\gY bi w F1 ws[i]/\∀w' d,ai (gY bi) w w' F1 d->ai (dB b b2 bm) W w' F ((o,ws.set i d),m):=by
 obtain⟨F1,e,f⟩:=ai.lr h;obtain⟨a,c,bi,G,hB,g,hA,j⟩:=e.at hi;exact⟨a,c,bi,G,hB,g,hA,λw' d k=>f _ _ (j _ _ k)⟩
theorem KB {r:Option Addr} {n c0:Nat} (hB:aM w b (rC b2 bm r n c0) 185) {l:List Int} {p:Option Addr} {c:Nat} (s:Cells w p (l.map (aB .i64))) (C:l.length<=10):Cx 183 #[pt b,.slice p l.length c] w λe w'=>e=Z (I (if ∀v∈l,0<=v/\v<n then 0 else 3))/\w'=w:=by
 refine aim ?_;refine⟨λg=>(by cases g),λ_=>⟨bO bu (M:=B3) (σ:=Nat) (λi=>Hv (aa ⟨b,0,ah⟩) p l.length c (l.length:Int) (i:Int)) (λi w'=>i<=l.length/\(∀j (h:j<l.length),j<i->0<=l[j]/\l[j]<n)/\w'=w) (λi _=>l.length-i) 0 ⟨rfl,rfl,rfl,rfl,trivial⟩ ⟨by omega,λj _ h=>by omega,rfl⟩ ?_⟩⟩;rintro i w1 ⟨hi,d,rfl⟩;rw[ae8];refine⟨λg=>?_,λg=>?_⟩
 ·have g:=aL g;have k:i<l.length:=by omega
  obtain⟨a,t,f⟩:=s.cv k;have bad:¬(0<=l[i]/\l[i]<n)->¬∀v∈l,0<=v/\v<(n:Int):=λu y=>u (y _ (cx k));refine⟨⟨by omega,by omega⟩,a,t,_,f,λg1=>⟨_,rfl,_,_,_,hB.cell rfl,λq=>?_,λq=>?_⟩,λg1=>?_⟩
  ·have q:=aL q;rw[af (bad (by omega))];exact⟨rfl,rfl⟩
  ·have g1:=aT g1;have q:=aT q;refine⟨i+1,⟨rfl,rfl,rfl,by rw[aP (by omega)];rfl,trivial⟩,⟨by omega,λj h z=>?_,rfl⟩,by omega⟩;by_cases e:j=i
   ·subst e;exact⟨by omega,by omega⟩
   ·exact d j h (by omega)
  ·have g1:=aL g1;rw[af (bad (by omega))];exact⟨rfl,rfl⟩
 ·have g:=aT g;rw[aj]
  ·exact⟨rfl,rfl⟩
  ·intro v B;obtain⟨j,h,rfl⟩:=uv B;exact d j h (by omega)
theorem AY {d:Option Addr} {n c0:Nat} {c:Int} {w1:World} {T:TypeId} (hB:aM w b (rC b2 bm d n c0) 185) (a:dy w w1 (.cells (dK [I c]) T (0,0))):Cx 183 #[pt b,.slice (aa ⟨w.heap.size,0,ah⟩) 1 1] w1 λe w'=>e=Z (I (if 0<=c/\c<n then 0 else 3))/\w'=w1:=by
 have:=KB (a.keep hB) (l:=[c]) (p:=aa ⟨w.heap.size,0,ah⟩) (c:=1) (λj v f=>⟨_,rfl,a.aK.cell f⟩) (by simp);simpa using this
theorem KH (h:ft b w F x) (id:Int):Cx 105 #[pt b,I id] w λe w'=>e=Z (.tuple #[I (lH x id).1,.bool (lH x id).2])/\w'=w:=by
 obtain⟨b2,bm,o,ws,m,h,r⟩:=h;obtain⟨p,c,hB⟩:=dB.ay h;obtain⟨Fm,f,_⟩:=aF.right h;refine aha ?_;have a:=kP sK f id ag;simp only[r.mp,if_true]at a
 have d:((((bE x.t id).map fv).map (aB .i64)).getD (I 0))=I (lH x id).1/\((bE x.t id).map fv).isSome=(lH x id).2:=by
  unfold lH;cases bE x.t id<;>exact⟨rfl,rfl⟩
 rw[d.1,d.2]at a;exact⟨λg=>(by cases g),λ_=>⟨_,rfl,_,hB.cell rfl,_,_,a,rfl,rfl⟩⟩
theorem Uz (h:ft b w F x) (id:Int):Cx 31 #[pt b,I id] w λe w'=>e=Z (.tuple #[I (rF x id).1,.bool (rF x id).2])/\w'=w:=by
 refine u31 ?_;refine⟨(KH h id).mono ?_⟩;rintro e w1 ⟨rfl,rfl⟩;obtain⟨b2,bm,o,ws,m,h,r⟩:=h
 cases d:bE x.t id with
 | none=>
  have f:lH x id=(0,ae):=by unfold lH;rw[d]
  have i:rF x id=(0,ae):=by unfold rF;rw[d]
  rw[f,i]
  exact⟨_,_,rfl,λ_=>⟨rfl,rfl⟩,λg=>(by cases g)⟩
 | some p=>
  have f:lH x id=(p.1,ag):=by unfold lH;rw[d]
  have i:rF x id=(p.2,ag):=by unfold rF;rw[d]
  rw[f,i];have j:=(r.v.at_ id p d).1;have hi:p.1.toNat<ws.length:=by rw[r.len];omega
  obtain⟨a,c,bi,G,hB,k,hA,_⟩:=dB.qj (ai.same h) hi;have l:=r.ws _ hi;refine⟨_,_,rfl,λg=>(by cases g),λ_=>⟨_,rfl,_,_,_,hB.cell rfl,⟨j.1,by rw[r.len];exact j.2⟩,_,rfl,_,k,⟨(aml hA id).mono ?_⟩⟩⟩;rintro e q ⟨rfl,rfl⟩
  have n:eh x.t (p.1.toNat:Int) id=aa p.2:=by
   rw[nV,d,show(p.1.toNat:Int)=p.1 by omega]
  rw[l];simp only[n];exact⟨_,_,rfl,rfl,trivial⟩
theorem Ut (h:ft b w F x) (c:Int):Cx 205 #[pt b,I c] w λe w'=>e=Z (.bool (lB x c))/\av no w w':=by
 obtain⟨b2,bm,o,ws,m,h,r⟩:=h;obtain⟨p,c0,u⟩:=dB.ay h;refine aiI ?_;refine⟨λw1 D=>⟨(AY u D).mono ?_⟩⟩;rintro e M ⟨rfl,rfl⟩;have z:=D.ak no;unfold lB;rw[r.len];by_cases f:dT x c
 ·rw[aj (show 0<=c/\c<(x.n:Int)from f),decide_eq_true f];obtain⟨i,hi,rfl⟩:=wc f;have j:i<ws.length:=by rw[r.len];exact hi
  obtain⟨a,c1,bi,G,hB,J,hA,_⟩:=dB.qj (ai.same (Frame.star.ak h z (λ_ _ h=>h))) j;rw[r.ws i j]at hA;refine⟨_,rfl,λ_=>⟨_,rfl,_,_,_,hB.cell rfl,⟨by omega,by omega⟩,_,rfl,_,J,⟨(UX hA).mono ?_⟩⟩,λg=>(by cases g)⟩;rintro e N ⟨l,q,d,rfl,O,B,_,P,K,C,k⟩
  have L:l=mq x.now x.t (i:Int):=by
   rw[K];refine Kh (λy H=>by simp at H;exact H.1) C λid=>?_;rw[k];constructor
   ·rintro⟨t,h1,s⟩;exact⟨_,nV.1 h1,by simp;exact s⟩
   ·rintro⟨y,h1,s⟩;simp at s;exact⟨y.2,nV.2 (by rw[h1,<-s.1]),s.2⟩
  rw[L];refine⟨_,_,_,rfl,?_,z.and B⟩;simp
 ·rw[af (show ¬(0<=c/\c<(x.n:Int))from f),decide_eq_false f];exact⟨_,rfl,λg=>(by cases g),λ_=>⟨rfl,z⟩⟩
def rD (v:Option (Int×Int)) (j:Int):Option Int:=match v with
 | some p=>if p.1=j then aa p.2 else ah
 | none=>ah
theorem sY.set (r:sY x o ws m) {i:Nat} (hi:i<x.t.length) {v:Option (Int×Int)} (l:∀p,v=aa p->(0<=p.1/\p.1<x.n)/\bD p.2) {a:List (Int×dd)} (c:a.length=ws.length) (f:∀j (h:j<a.length),a[j]=(x.now,λid=>if id=(i:Int)+1 then rD v j else eh x.t j id)) {k:my} (q:∀id,k.1 id=if id=(i:Int)+1 then v.map fv else m.1 id):sY {x with t:=x.t.set i v} (o.set i v.isSome) a k:=by
 have g:=FI hi v;refine⟨by rw[r.o,fx],by rw[c,r.len],λj h=>?_,λid=>?_,⟨r.v.now,r.v.n,by simpa using r.v.len,λid p d=>?_⟩⟩
 ·rw[f j h];congr 1;funext id;unfold eh rD;rw[g];by_cases e:id=(i:Int)+1
  ·rw[aj e,aj e]
   all_goals (cases v<;>rfl)
  ·rw[af e,af e]
 ·rw[q,g];by_cases e:id=(i:Int)+1
  ·rw[aj e,aj e]
  ·rw[af e,af e,r.mp]
 ·rw[g]at d;by_cases e:id=(i:Int)+1
  ·rw[aj e]at d;exact l p d
  ·rw[af e]at d;exact r.v.at_ id p d
theorem Tk (t:dO) (ci k due:Int):qN (eh t ci) k due=λid=>if id=k then rD (aa (ci,due)) ci else eh t ci id:=by
 funext id;unfold qN rD;by_cases a:id=k
 ·rw[aj a,aj a];simp
 ·rw[af a,af a]
theorem ac4 {t:dO} {ci k j:Int} (c:bE t k=ah) (due:Int) (h:ci≠j):eh t j=λid=>if id=k then rD (aa (ci,due)) j else eh t j id:=by
 funext id;by_cases a:id=k
 ·subst a;rw[aj rfl];unfold eh rD;rw[c];simp[h]
 ·rw[af a]
theorem zd {α:Type} {l:List α} {i:Nat} {y:α} {j:Nat} (a:j<(l.set i y).length):(l.set i y)[j]=if i=j then y else l[j]'(by simpa using a):=by
 rw[List.getElem_set]
theorem agq (r:sY x o ws m):eL o=(match tE x.t with|some i=>((i:Int)+1,0)|none=>(0,5))/\jk o=(match tE x.t with|some i=>o.set i ag|none=>o):=by
 have e:o.findIdx? (λx=>!x)=tE x.t:=by
  rw[r.o,List.findIdx?_map];unfold tE;congr 1;funext y;cases y<;>rfl
 unfold eL jk;rw[e];exact⟨rfl,rfl⟩
theorem Uk (D:Tab w) (h:ft b w F x) (c due:Int):Cx 240 #[pt b,I c,I due] w λe w'=>e=Z (.tuple #[I (dL x c due).1,I (dL x c due).2])/\ai (ft b) w w' F (im x c due):=by
 have N:=h;obtain⟨b2,bm,o,ws,m,h,r⟩:=h;obtain⟨p,c0,O⟩:=dB.ay h;refine aji ?_;refine⟨λw1 hN=>⟨(AY O hN).mono ?_⟩⟩;rintro e w2 ⟨rfl,rfl⟩;have z:=hN.ak no;rw[r.len];by_cases d:dT x c
 ·rw[aj (show 0<=c/\c<(x.n:Int)from d)];refine⟨_,rfl,λg=>(by cases g),λ_=>⟨λg1=>⟨λH=>?_,λH=>?_⟩,λg1=>?_⟩⟩
  ·have H:=aL H;have l:dL x c due=(0,2):=by unfold dL;rw[aj d,af (by unfold bD;omega)]
   have q:im x c due=x:=by unfold im;rw[af (λJ=>by have:=J.2;unfold bD at this;omega)]
   rw[l,q];exact⟨rfl,ai.quiet N z⟩
  ·have g1:=aT g1;have H:=aT H;have hd:bD due:=by unfold bD;omega
   have P:ai (dB b b2 bm) w w2 F ((o,ws),m):=ai.quiet h z;obtain⟨p2,c2,Q⟩:=dB.ay (Frame.star.ak h z (λ_ _ h=>h));obtain⟨Fs,hS,kS⟩:=ai.ll P;refine⟨_,rfl,_,Q.cell rfl,⟨(Fj (D.no z) hS).mono ?_⟩⟩;rintro e w3 ⟨rfl,R⟩;have f:=kS _ _ R;obtain⟨B,C⟩:=agq r
   cases u:tE x.t with
   | none=>
    rw[u]at B C;simp only at B C;rw[C]at f;have l:dL x c due=(0,5):=by unfold dL;rw[aj d,aj hd,u]
    have q:im x c due=x:=by unfold im;rw[aj ⟨d,hd⟩,u]
    rw[B,l,q]
    exact⟨_,_,rfl,λ_=>⟨rfl,ft.of f r⟩,λg=>(by cases g)⟩
   | some i=>
    rw[u]at B C;simp only at B C;rw[C]at f;have l:dL x c due=((i:Int)+1,0):=by unfold dL;rw[aj d,aj hd,u]
    have q:im x c due={x with t:=x.t.set i (aa (c,due))}:=by unfold im;rw[aj ⟨d,hd⟩,u]
    obtain⟨hi,k⟩:=Iv u;rw[B,l,q];refine⟨_,_,rfl,λg=>(by cases g),λ_=>?_⟩;obtain⟨Fm,hM,kM⟩:=f.right
    have y:∃p c,aM w3 b (rC b2 bm p ws.length c) 185:=by
     obtain⟨F',h',_⟩:=f;exact dB.ay h'
    obtain⟨p3,c3,y⟩:=y;obtain⟨w4,K,S⟩:=ru sK hM ((i:Int)+1) c;refine⟨_,rfl,_,y.cell rfl,w4,K,?_⟩;have L:=kM _ _ S;obtain⟨ci,U,rfl⟩:=wc d;have s:ci<ws.length:=by rw[r.len];exact U
    obtain⟨a,c4,bi,G,V,W,hA,kA⟩:=dB.qj L s;refine⟨_,rfl,_,_,_,V.cell rfl,⟨by omega,(show((ci:Nat):Int)<(ws.length:Int) by omega)⟩,_,rfl,_,W,?_⟩;have X:=r.ws ci s;rw[X]at hA;have M:x.t.length=48:=r.v.len;refine⟨(UQ hA (id:=(i:Int)+1) (by omega) hd (by unfold eh;simp only;rw[k])).mono ?_⟩;rintro e w5 ⟨rfl,Y⟩;refine⟨_,rfl,rfl,ft.of (kA _ _ Y) ?_⟩;refine r.set hi (v:=aa (((ci:Nat):Int),due)) (λp hp=>?_) (by simp) (λj hj=>?_) (λid=>?_)
    ·cases hp;exact⟨d,hd⟩
    ·rw[zd hj];by_cases e:ci=j
     ·subst e;rw[aj rfl];exact congrArg (Prod.mk x.now) (Tk _ _ _ _)
     ·rw[af e,r.ws j];exact congrArg (Prod.mk x.now) (ac4 k _ (λh=>e (by omega)))
    ·show(if id=(i:Int)+1 then aa ((ci:Nat):Int)else m.1 id)=_;rfl
  ·have g1:=aL g1;have l:dL x c due=(0,2):=by unfold dL;rw[aj d,af (by unfold bD;omega)]
   have q:im x c due=x:=by unfold im;rw[af (λJ=>by have:=J.2;unfold bD at this;omega)]
   rw[l,q];exact⟨rfl,ai.quiet N z⟩
 ·rw[af (show ¬(0<=c/\c<(x.n:Int))from d)];have l:dL x c due=(0,3):=by unfold dL;rw[af d]
  have q:im x c due=x:=by unfold im;rw[af (λJ=>d J.1)]
  rw[l,q];exact⟨_,rfl,λ_=>⟨rfl,ai.quiet N z⟩,λg=>(by cases g)⟩
theorem PZ (r:sY x o ws m) {id:Int} {p:Int×Int} (h:bE x.t id=aa p):cQ o id=ag/\(id.toNat-1)<x.t.length/\((id.toNat-1:Nat):Int)+1=id:=by
 have d:=zm h;have a:id.toNat-1<x.t.length:=by omega
 have e:((id.toNat-1:Nat):Int)+1=id:=by omega
 refine⟨?_,a,e⟩;unfold cQ;have c:=Kx a;rw[e,h]at c;rw[aj d.1,r.o,aO,fy,cO a,<-c];rfl
theorem XW (t:dO) (ci k:Int):pQ (eh t ci) k=λid=>if id=k then rD ah ci else eh t ci id:=rfl
theorem XU {t:dO} {k j:Int} {p:Int×Int} (c:bE t k=aa p) (h:p.1≠j):eh t j=λid=>if id=k then rD ah j else eh t j id:=by
 funext id;by_cases a:id=k
 ·subst a;rw[aj rfl];unfold eh rD;rw[c];simp[h]
 ·rw[af a]
theorem Kt (h:ft b w F x) (id:Int):Cx 244 #[pt b,I id] w λe w'=>e=Z (I (uy x id))/\ai (ft b) w w' F (kv x id):=by
 refine ajm ?_;refine⟨(KH h id).mono ?_⟩;rintro e w1 ⟨rfl,rfl⟩;have Q:=h;obtain⟨b2,bm,o,ws,m,h,r⟩:=h
 cases i:bE x.t id with
 | none=>
  have z:lH x id=(0,ae):=by unfold lH;rw[i]
  have B:uy x id=4:=by unfold uy;rw[i]
  have C:kv x id=x:=by unfold kv;rw[i]
  rw[z,B,C]
  exact⟨_,_,rfl,λg=>(by cases g),λ_=>⟨λ_=>⟨rfl,ai.same Q⟩,λg=>(by cases g)⟩⟩
 | some p=>
  have z:lH x id=(p.1,ag):=by unfold lH;rw[i]
  have B:uy x id=0:=by unfold uy;rw[i]
  have C:kv x id={x with t:=x.t.set (id.toNat-1) ah}:=by unfold kv;rw[i];rfl
  rw[z,B,C];obtain⟨l,D,n⟩:=PZ r i;have y:=r.v.at_ id p i;refine⟨_,_,rfl,λg=>(by cases g),λ_=>⟨λg=>(by cases g),λ_=>?_⟩⟩;have H:ai (dB b b2 bm) w1 w1 F ((o,ws),m):=ai.same h;obtain⟨p0,c0,J⟩:=dB.ay h;obtain⟨Fm,R,S⟩:=H.right;obtain⟨P,q,K⟩:=tT sK R id 3 (0:TypeId);have s:=S _ _ K
  have k:∃p c,aM P b (rC b2 bm p ws.length c) 185:=by
   obtain⟨F',U,_⟩:=s;exact dB.ay U
  obtain⟨p2,c2,k⟩:=k;obtain⟨Fs,V,kS⟩:=ai.ll s;refine⟨_,rfl,_,J.cell rfl,P,q,_,rfl,_,k.cell rfl,⟨(Fg V id).mono ?_⟩⟩;rintro e w3 ⟨rfl,L⟩;have u:=kS _ _ L;have hi:p.1.toNat<ws.length:=by rw[r.len];have:=y.1;omega
  obtain⟨a,c4,bi,G,M,N,hA,W⟩:=dB.qj u hi;rw[r.ws _ hi]at hA;have X:((p.1.toNat:Nat):Int)=p.1:=by have:=y.1;omega
  refine⟨_,rfl,_,rfl,_,_,_,M.cell rfl,⟨y.1.1,(show p.1<(ws.length:Int) by rw[r.len];exact y.1.2)⟩,_,rfl,_,N,⟨(UU hA (id:=id) (d:=p.2) (by rw[nV,X,i])).mono ?_⟩⟩;rintro e w4 ⟨rfl,O⟩;refine⟨_,rfl,rfl,?_⟩;have f:=W _ _ O
  have Y:mR o id=o.set (id.toNat-1) (ah:Option (Int×Int)).isSome:=by
   unfold mR;rw[aj l];rfl
  simp only at f;rw[Y]at f;refine ft.of f (r.set D (v:=ah) (λp hp=>by cases hp) (by simp) (λj hj=>?_) (λal=>?_))
  ·rw[zd hj,n];by_cases e:p.1.toNat=j
   ·subst e;rw[aj rfl];exact congrArg (Prod.mk x.now) (XW _ _ _)
   ·rw[af e,r.ws j];exact congrArg (Prod.mk x.now) (XU i (λh=>e (by omega)))
  ·rw[n];rfl
theorem X5 (r:sY x o ws m) {i:Nat} (hi:i<ws.length) {l:List Int} (h:∃d:List Int,l=gk (λid=>(ws[i].2 id).getD 0) d/\d.Nodup/\∀id,id∈d↔∃t,ws[i].2 id=aa t/\t<=ws[i].1):l=mq x.now x.t (i:Int):=by
 obtain⟨d,f,e,a⟩:=h;rw[r.ws i hi]at f a;rw[f];refine Kh (λy g=>by simp at g;exact g.1) e λid=>?_;rw[a];constructor
 ·rintro⟨t,h1,c⟩;exact⟨_,nV.1 h1,by simp;exact c⟩
 ·rintro⟨y,h1,c⟩;simp at c;exact⟨y.2,nV.2 (by rw[h1,<-c.1]),c.2⟩
theorem Vt (r:sY x o ws m) {i:Nat} (hi:i<ws.length) {l:List Int} (h:∃d:List Int,l=gk (λid=>(ws[i].2 id).getD 0) d/\d.Nodup/\∀id,id∈d↔(ws[i].2 id).isSome=ag):l=gU x.t (i:Int):=by
 obtain⟨d,g,f,a⟩:=h;rw[r.ws i hi]at g a;rw[g];refine Kh (λy j=>by simpa using j) f λid=>?_;rw[a];constructor
 ·intro e
  cases c:eh x.t (i:Int) id with
  | none=>simp only[c]at e;cases e
  | some t=>exact⟨_,nV.1 c,by simp⟩
 ·rintro⟨y,e,c⟩;have c:y.1=(i:Int):=by simpa using c
  simp only[nV.2 (show bE x.t id=aa ((i:Int),y.2) by rw[e,<-c])];rfl
theorem abb {t:dO} {now c id:Int} (h:id∈mq now t c):∃d,bE t id=aa (c,d):=by
 unfold mq at h;have:=(ji _ _).mem_iff.1 h;obtain⟨y,e,a⟩:=lq.1 this;simp at a;exact⟨y.2,by rw[e,<-a.1]⟩
theorem Jp {t:dO} {c id:Int} (h:id∈gU t c):∃d,bE t id=aa (c,d):=by
 unfold gU at h;have:=(ji _ _).mem_iff.1 h;obtain⟨y,e,a⟩:=lq.1 this;simp at a;exact⟨y.2,by rw[e,<-a]⟩
theorem agz (h:ft b w F x) (c:Int):Cx 306 #[pt b,I c] w λe w'=>e=Z (.tuple #[I (dM x c).1,I (dM x c).2])/\ai (ft b) w w' F (gx x c):=by
 have N:=h;obtain⟨b2,bm,o,ws,m,h,r⟩:=h;obtain⟨p,c0,P⟩:=dB.ay h;refine akf ?_;refine⟨λw1 V=>⟨(AY P V).mono ?_⟩⟩;rintro e w2 ⟨rfl,rfl⟩;have O:=V.ak no;rw[r.len];by_cases j:dT x c
 ·rw[aj (show 0<=c/\c<(x.n:Int)from j)];obtain⟨i,hi,rfl⟩:=wc j;have C:i<ws.length:=by rw[r.len];exact hi
  obtain⟨a,c1,bi,G,hB,hc,hA,_⟩:=dB.qj (ai.same (Frame.star.ak h O (λ_ _ h=>h))) C;refine⟨_,rfl,λg=>(by cases g),λ_=>⟨_,rfl,_,_,_,hB.cell rfl,⟨by omega,(show((i:Nat):Int)<(ws.length:Int) by omega)⟩,_,rfl,_,hc,⟨(UX hA).mono ?_⟩⟩⟩;rintro e w3 ⟨l,q,d,rfl,W,Q,R,hl⟩;have y:=X5 r C hl;subst y;have u:=O.and Q;refine⟨_,_,_,rfl,λg=>?_,λg=>?_⟩
  ·have g:mq x.now x.t (i:Int)=[]:=by
    have:((mq x.now x.t (i:Int)).length:Int)=0:=by simpa using g
    exact og.1 (by omega)
   have y:dM x (i:Int)=(0,12):=by unfold dM;rw[aj j,g]
   have D:gx x (i:Int)=x:=by unfold gx;rw[aj j,g]
   rw[y,D];exact⟨rfl,ai.quiet N u⟩
  ·cases hd:mq x.now x.t (i:Int)with
   | nil=>rw[hd]at g;simp at g
   | cons v l'=>
    have H:v∈mq x.now x.t (i:Int):=by rw[hd];exact i6
    obtain⟨dv,X⟩:=abb H;have y:dM x (i:Int)=(v,0):=by unfold dM;rw[aj j,hd]
    have D:gx x (i:Int)=uB x v:=by unfold gx;rw[aj j,hd]
    rw[hd]at W;have e3:uy x v=0:=by unfold uy;rw[X]
    have e4:kv x v=uB x v:=by unfold kv;rw[X]
    rw[y,D];obtain⟨z,B,k⟩:=W.cv (i:=0) (l:=v::l') (by simp);have k:w3.cell? (z.add 0)=aa (I v):=by simpa using k
    have s:(0:Int)<=0/\(0:Int)<(((v::l').length:Nat):Int):=⟨by omega,by simp⟩;intro w4 Y q2 q3 q4;have J:=av.same no Y q2 q3 q4;have f:w4.cell? (z.add 0)=aa (I v):=by unfold bJ at k⊢;rw[Y];exact k
    have K:=(Frame.FJ b).ak N (u.and J) (λ_ _ h=>h);refine⟨s,z,B,_,f,s,z,B,_,f,⟨(Kt K v).mono ?_⟩⟩;rintro e w5 ⟨rfl,L⟩;rw[e3,e4]at *;refine⟨_,rfl,?_,rfl,ai.next K ((u.and J).mono (λ_ _ h=>h.elim)) (λ_ h=>.inl h) L⟩;obtain⟨F5,_,S,_⟩:=L;have M:=qH f;rw[uj]at M
    have U:¬F z.block:=λhf=>by
     have h1:=R z.block ⟨z,B,rfl⟩;have h2:=(Frame.FJ b).lt N _ hf;have:=O.size;omega
    unfold bJ at f⊢;rw[uj]at f⊢;rw[S.ay _ M U];exact f
 ·rw[af (show ¬(0<=c/\c<(x.n:Int))from j)];have y:dM x c=(0,3):=by unfold dM;rw[af j]
  have D:gx x c=x:=by unfold gx;rw[af j]
  rw[y,D];exact⟨_,rfl,λ_=>⟨rfl,ai.quiet N O⟩,λg=>(by cases g)⟩
theorem agS (h:ft b w F x) (c:Int):Cx 214 #[pt b,I c] w λe w'=>e=Z (.tuple #[I (uT x c).1,I (uT x c).2])/\av no w w':=by
 obtain⟨b2,bm,o,ws,m,h,r⟩:=h;obtain⟨p,c0,C⟩:=dB.ay h;refine aiR ?_;refine⟨λw1 K=>⟨(AY C K).mono ?_⟩⟩;rintro e O ⟨rfl,rfl⟩;have B:=K.ak no;rw[r.len];by_cases f:dT x c
 ·rw[aj (show 0<=c/\c<(x.n:Int)from f)];obtain⟨i,hi,rfl⟩:=wc f;have s:i<ws.length:=by rw[r.len];exact hi
  obtain⟨a,c1,bi,G,hB,M,hA,_⟩:=dB.qj (ai.same (Frame.star.ak h B (λ_ _ h=>h))) s;rw[r.ws i s]at hA;refine⟨_,rfl,λg=>(by cases g),λ_=>⟨_,rfl,_,_,_,hB.cell rfl,⟨by omega,(show((i:Nat):Int)<(ws.length:Int) by omega)⟩,_,rfl,_,M,⟨(amc hA).mono ?_⟩⟩⟩;rintro e P ⟨k,u⟩;unfold uT;rw[aj f];rcases k with⟨q,rfl⟩|⟨v,t,D,z,rfl⟩
  ·have H:gU x.t (i:Int)=[]:=by
    cases hd:gU x.t (i:Int)with
    | nil=>rfl
    | cons v l=>
     obtain⟨d,j⟩:=Jp (t:=x.t) (c:=(i:Int)) (id:=v) (by rw[hd];exact i6);have:=q v;simp only at this;rw[nV.2 j]at this;cases this
   rw[H];exact⟨_,_,rfl,rfl,B.and u⟩
  ·cases hd:gU x.t (i:Int)with
   | nil=>
    exfalso;have:v∈gM x.t (λy=>decide (y.1=(i:Int))):=lq.2 ⟨_,nV.1 D,by simp⟩;have:=(ji (kx x.t) _).mem_iff.2 this;unfold gU at hd;rw[hd]at this
    cases this
   | cons J l=>
    obtain⟨d,j⟩:=Jp (t:=x.t) (c:=(i:Int)) (id:=J) (by rw[hd];exact i6);unfold gU at hd;have N:=(T3 hd).2 v (lq.2 ⟨_,nV.1 D,by simp⟩);have Q:=z J d (nV.2 j);have H:kx x.t v=t:=by unfold kx;rw[nV.1 D]
    have L:kx x.t J=d:=by unfold kx;rw[j]
    rw[H,L]at N;have:t=d:=by omega
    subst this;simp only[L];exact⟨_,_,rfl,rfl,B.and u⟩
 ·rw[af (show ¬(0<=c/\c<(x.n:Int))from f)];unfold uT;rw[af f];exact⟨_,rfl,λ_=>⟨rfl,B⟩,λg=>(by cases g)⟩
theorem Un (h:ft b w F x) (c:Int):Cx 89 #[pt b,I c] w λe w'=>∃q d,e=Z (.slice q (qi x c).length d)/\Cells w' q ((qi x c).map (aB .i64))/\av no w w'/\∀j,bf q j->w.heap.size<=j:=by
 obtain⟨b2,bm,o,ws,m,h,r⟩:=h;obtain⟨p,c0,t⟩:=dB.ay h;refine u89 ?_;refine⟨λw1 z=>⟨(AY t z).mono ?_⟩⟩;rintro e K ⟨rfl,rfl⟩;have s:=z.ak no;rw[r.len];unfold qi;by_cases f:dT x c
 ·rw[aj (show 0<=c/\c<(x.n:Int)from f),aj f];obtain⟨i,hi,rfl⟩:=wc f;have k:i<ws.length:=by rw[r.len];exact hi
  obtain⟨a,c1,bi,G,hB,B,hA,_⟩:=dB.qj (ai.same (Frame.star.ak h s (λ_ _ h=>h))) k;refine⟨_,rfl,λg=>(by cases g),λ_=>⟨_,rfl,_,_,_,hB.cell rfl,⟨by omega,(show((i:Nat):Int)<(ws.length:Int) by omega)⟩,_,rfl,_,B,⟨(alU hA).mono ?_⟩⟩⟩;rintro e L ⟨l,q,d,rfl,C,u,y,D⟩;have H:=Vt r k D;subst H;exact⟨_,_,_,rfl,q,d,rfl,C,s.and u,λj J=>aW s.size (y j J)⟩
 ·rw[af (show ¬(0<=c/\c<(x.n:Int))from f),af f];exact⟨_,rfl,λ_=>⟨ah,0,rfl,Cells.nil _ _,s,λj ⟨_,h,_⟩=>by cases h⟩,λg=>(by cases g)⟩
theorem rK.qj {W:World} {p:Option Addr} {c:Nat} (h:ai (rK b b2 bm p c) W w F ((o,ws),m)) {i:Nat} (hi:i<ws.length):∃a bi F1,p=aa a/\aM w b (rC b2 bm p ws.length c) 185/\w.cell? (a.add (i*1))=aa (pt bi)/\gY bi w F1 ws[i]/\∀w' d,ai (gY bi) w w' F1 d->ai (rK b b2 bm p c) W w' F ((o,ws.set i d),m):=by
 obtain⟨F1,e,f⟩:=ai.lr h;obtain⟨a,bi,G,g,hB,j,hA,k⟩:=e.at hi;exact⟨a,bi,G,g,hB,j,hA,λw' d l=>f _ _ (k _ _ l)⟩
theorem agC (h:ft b w F x) (t:Int):Cx 124 #[pt b,I t] w λe w'=>e=Z (I (tG x t))/\ai (ft b) w w' F (oM x t):=by
 obtain⟨b2,bm,o,ws,m,h,r⟩:=h;obtain⟨p,c0,J⟩:=dB.fix h;have V:1<=ws.length:=by rw[r.len];exact r.v.n.1
 have N:ws.length<=64:=by rw[r.len];exact r.v.n.2
 obtain⟨_,_,_,_,s,_⟩:=rK.qj (ai.same J) (i:=0) (by omega);refine aht ?_;refine⟨(KB s (l:=[]) (p:=ah) (c:=0) (Cells.nil _ _) (by simp)).mono ?_⟩;rintro e w1 ⟨rfl,rfl⟩;rw[aj (by simp)];refine⟨_,rfl,λg=>(by cases g),λ_=>⟨_,rfl,p,ws.length,c0,s.cell rfl,?_⟩⟩
 refine⟨bO bu (M:=BW) (σ:=Nat) (λi=>Hp t (if i=0 then 0 else tG x t) p ws.length c0 (ws.length:Int) (i:Int))
  (λi w'=>i<=ws.length/\∃vs:List (Int×dd),ai (rK b b2 bm p c0) w1 w' F ((o,vs),m)/\vs.length=ws.length/\∀j (q:j<vs.length),vs[j]=if j<i then((oM x t).now,eh x.t (j:Int))else(x.now,eh x.t (j:Int))) (λi _=>ws.length-i) 0 ⟨rfl,rfl,rfl,rfl,rfl,trivial⟩ ⟨by omega,ws,ai.same J,rfl,λj q=>by rw[af (by omega)];exact r.ws j q⟩ ?_⟩
 rintro i O ⟨hi,vs,K,L,k⟩;rw[aeX];refine⟨λg=>?_,λg=>?_⟩
 ·have g:=aL g;have u:i<vs.length:=by omega
  obtain⟨a,bi,G,B,hB,d,hA,P⟩:=rK.qj K u;have ev:=k i u;rw[af (by omega)]at ev;rw[ev]at hA;refine⟨⟨by omega,by omega⟩,a,B,_,d,⟨(alZ hA t).mono ?_⟩⟩;rintro e W ⟨rfl,D⟩;have y:=P _ _ D;have Q:(if x.now<=t/\bD t then(0:Int)else 2)=tG x t:=rfl
  have R:(if x.now<=t/\bD t then(t,eh x.t (i:Int))else(x.now,eh x.t (i:Int)))=((oM x t).now,eh x.t (i:Int)):=by
   unfold oM tG;by_cases d:x.now<=t/\bD t
   ·rw[aj d,aj d,aj rfl]
   ·rw[af d,af d,af (by decide)]
  simp only[Q];simp only[R]at y;refine⟨_,rfl,i+1,⟨rfl,by rw[af (by omega)];rfl,rfl,rfl,by rw[aP (by omega)];rfl,trivial⟩,⟨by omega,_,y,by simpa using L,λj q=>?_⟩,by omega⟩;rw[zd q];by_cases e:i=j
  ·subst e;rw[aj rfl,aj (by omega)]
  ·rw[af e,k j];by_cases C:j<i
   ·rw[aj C,aj (by omega)]
   ·rw[af C,af (by omega)]
 ·have g:=aT g;have:i=ws.length:=by omega
  subst this;rw[af (by omega)];refine⟨rfl,?_⟩
  have H:ai (dB b b2 bm) w1 O F ((o,vs),m):=by
   obtain⟨S,C,U⟩:=K;exact⟨S,rK.loose C,U⟩
  refine ft.of H ?_;have f:(oM x t).t=x.t/\(oM x t).n=x.n:=by unfold oM;split<;>exact⟨rfl,rfl⟩
  refine⟨by rw[f.1];exact r.o,by rw[L,r.len,f.2],λj q=>?_,λid=>by rw[f.1];exact r.mp id,⟨?_,by rw[f.2];exact r.v.n,by rw[f.1];exact r.v.len,λid p B=>?_⟩⟩
  ·rw[k j q,aj (by omega),f.1]
  ·unfold oM;by_cases z:tG x t=0
   ·rw[aj z];unfold tG at z;by_cases d:x.now<=t/\bD t
    ·exact d.2
    ·rw[af d]at z;cases z
   ·rw[af z];exact r.v.now
  ·rw[f.1]at B;rw[f.2];exact r.v.at_ id p B
theorem agO (h:ft b w F x) (f t:Int):Cx 357 #[pt b,I f,I t] w λe w'=>e=Z (.tuple #[I (j8 x f t).1,I (j8 x f t).2])/\ai (ft b) w w' F (gV x f t):=by
 have X:=h;obtain⟨b2,bm,o,ws,m,h,r⟩:=h;obtain⟨p,c0,bv⟩:=dB.ay h;refine akW ?_;refine⟨λw1 hN=>?_⟩;have M:=hN.ak no;have Y:=KB (hN.keep bv) (l:=[f,t]) (p:=aa ⟨w.heap.size,0,ah⟩) (c:=2) (λj v C=>⟨_,rfl,hN.aK.cell C⟩) (by simp);refine⟨Y.mono ?_⟩;rintro e w2 ⟨rfl,rfl⟩;rw[r.len]
 have H:(∀v∈[f,t],0<=v/\v<(x.n:Int))↔(dT x f/\dT x t):=by
  unfold dT;simp
 by_cases a:dT x f/\dT x t
 ·rw[aj (H.2 a)];have bw:=(Frame.FJ b).ak X M (λ_ _ h=>h);refine⟨_,rfl,λg=>(by cases g),λ_=>⟨(Un bw f).mono ?_⟩⟩;rintro e w3 ⟨q,d,rfl,hC,bz,ed⟩;have s:=M.and bz;have el:qi x f=gU x.t f:=by unfold qi;rw[aj a.1]
  rw[el]at hC⊢;refine⟨_,_,_,rfl,λg=>?_,λg=>⟨λN=>?_,λN=>?_⟩⟩
  ·have g:f=t:=by simpa using g
   have O:j8 x f t=(0,2):=by unfold j8;rw[aj a,aj g]
   have P:gV x f t=x:=by unfold gV;rw[af (λV=>V.2.2 g)]
   rw[O,P];exact⟨rfl,ai.quiet X s⟩
  ·have g:f≠t:=by simpa using g
   have N:gU x.t f=[]:=by
    have:((gU x.t f).length:Int)=0:=by simpa using N
    exact og.1 (by omega)
   have O:j8 x f t=(0,12):=by unfold j8;rw[aj a,af g,N]
   have P:gV x f t=x:=by unfold gV;rw[aj ⟨a.1,a.2,g⟩,N]
   rw[O,P];exact⟨rfl,ai.quiet X s⟩
  ·have g:f≠t:=by simpa using g
   cases hd:gU x.t f with
   | nil=>rw[hd]at N;simp at N
   | cons v l'=>
    obtain⟨W,C⟩:=Jp (t:=x.t) (c:=f) (id:=v) (by rw[hd];exact i6);have al:kx x.t v=W:=by unfold kx;rw[C]
    have O:j8 x f t=(v,0):=by unfold j8;rw[aj a,af g,hd]
    have P:gV x f t={x with t:=x.t.set (v.toNat-1) (aa (t,W))}:=by unfold gV;rw[aj ⟨a.1,a.2,g⟩,hd];simp only[al]
    rw[O,P];rw[hd]at hC;obtain⟨u,am,ap⟩:=PZ r C;have az:=r.v.at_ v _ C;obtain⟨aq,cb,k⟩:=hC.cv (i:=0) (l:=v::l') (by simp);have k:w3.cell? (aq.add 0)=aa (I v):=by simpa using k
    have cc:=(Frame.FJ b).ak X s (λ_ _ h=>h);refine⟨⟨by omega,by simp⟩,aq,cb,_,k,⟨(Uz cc v).mono ?_⟩⟩;rintro e w4 ⟨rfl,rfl⟩;have e3:rF x v=(W,ag):=by unfold rF;rw[C]
    rw[e3];have cd:ai (dB b b2 bm) w w4 F ((o,ws),m):=ai.quiet h s;obtain⟨z,ce,rfl⟩:=wc a.1;obtain⟨B,cl,rfl⟩:=wc a.2;have J:z<ws.length:=by rw[r.len];exact ce
    have K:B<ws.length:=by rw[r.len];exact cl
    have cq:z≠B:=λe=>g (by rw[e]);obtain⟨a4,c4,bi,G,cr,dc,hA,kA⟩:=dB.qj cd J;rw[r.ws _ J]at hA;refine⟨_,_,rfl,_,rfl,_,_,_,cr.cell rfl,⟨by omega,(show((z:Nat):Int)<(ws.length:Int) by omega)⟩,_,rfl,_,dc,⟨(UU hA (id:=v) (d:=W) (by rw[nV,C])).mono ?_⟩⟩;rintro e w5 ⟨rfl,dl⟩;have L:=kA _ _ dl;obtain⟨Fm,hM,kM⟩:=L.right
    have Q:∃p c,aM w5 b (rC b2 bm p (ws.set z (x.now,pQ (eh x.t (z:Int)) v)).length c) 185:=by
     obtain⟨F',h',_⟩:=L;exact dB.ay h'
    obtain⟨p5,c5,Q⟩:=Q;obtain⟨w6,bb,dn⟩:=ru sK hM v ((B:Nat):Int);have be:=kM _ _ dn;have bl:B<(ws.set z (x.now,pQ (eh x.t (z:Int)) v)).length:=by simpa using K
    obtain⟨a6,c6,ee,G6,ds,dx,bs,ea⟩:=dB.qj be bl;rw[zd,af cq,r.ws B K]at bs
    have R:eh x.t ((B:Nat):Int) v=ah:=by
     unfold eh;rw[C];simp only;rw[af (by omega)]
    have eg:x.t.length=48:=r.v.len;refine⟨_,rfl,_,rfl,_,Q.cell rfl,w6,bb,_,rfl,_,_,_,ds.cell rfl,⟨by omega,(show((B:Nat):Int)<((ws.set z (x.now,pQ (eh x.t (z:Int)) v)).length:Int) by simp;omega)⟩,_,rfl,_,dx,⟨(UQ bs (id:=v) (by omega) az.2 R).mono ?_⟩⟩;rintro e w7 ⟨rfl,ec⟩;refine⟨_,rfl,rfl,?_⟩;have y:=ea _ _ ec
    have eo:o=o.set (v.toNat-1) (aa (((B:Nat):Int),W)).isSome:=by
     apply de;intro j;rw[cJ];by_cases hj:v.toNat-1=j
     ·subst hj;have S:v.toNat-1<o.length:=by rw[r.o];simpa using am
      rw[aj rfl,aj S];unfold cQ at u;rw[aj (by omega),aO,cO S]at u;rw[cO S];simpa using u
     ·rw[af hj]
    simp only at y;rw[eo]at y;refine ft.of y (r.set am (v:=aa (((B:Nat):Int),W)) (λp hp=>by cases hp;exact⟨a.2,az.2⟩) (by simp) (λj hj=>?_) (λD=>?_))
    ·rw[zd hj,ap];by_cases e:B=j
     ·subst e;rw[aj rfl];exact congrArg (Prod.mk x.now) (Tk _ _ _ _)
     ·rw[af e,zd];by_cases e5:z=j
      ·subst e5;rw[aj rfl];refine congrArg (Prod.mk x.now) ?_;funext D;unfold pQ rD;by_cases U:D=v
       ·rw[aj U,aj U];simp only;rw[af (by omega)]
       ·rw[af U,af U]
      ·rw[af e5,r.ws j];refine congrArg (Prod.mk x.now) ?_;funext D;by_cases U:D=v
       ·subst U;rw[aj rfl];unfold eh rD;rw[C];simp only;rw[af (by omega),af (by omega)]
       ·rw[af U]
    ·rw[ap];rfl
 ·rw[af (λV=>a (H.1 V))];have O:j8 x f t=(0,3):=by unfold j8;rw[af a]
  have P:gV x f t=x:=by unfold gV;rw[af (λV=>a ⟨V.1,V.2.1⟩)]
  rw[O,P];exact⟨_,rfl,λ_=>⟨rfl,ai.quiet X M⟩,λg=>(by cases g)⟩
end
theorem aF.rot {σ τ υ:Type} {A:Ob σ} {B:Ob τ} {C:Ob υ} {w:World} {F:Fp} {a:σ} {b:τ} {c:υ} (h:aF (aF A B) C w F ((a,b),c)):aF (aF A C) B w F ((a,c),b):=by
 obtain⟨F1,F2,⟨G1,G2,g1,g,e,j⟩,k,l,f⟩:=h;refine⟨λi=>G1 i∨F2 i,G2,⟨G1,F2,g1,k,λ_=>bp,λi hi d=>f i ((e i).2 (.inl hi)) d⟩,g,λi=>?_,λi hi d=>?_⟩
 ·rw[l i,e i];constructor
  ·rintro((h|h)|h)
   ·exact .inl (.inl h)
   ·exact .inr h
   ·exact .inl (.inr h)
  ·rintro((h|h)|h)
   ·exact .inl (.inl h)
   ·exact .inr h
   ·exact .inl (.inr h)
 ·rcases hi with hi|hi
  ·exact j i hi d
  ·exact f i ((e i).2 (.inr d)) hi
def mb (n:Nat):cI:=⟨0,n,aD 48 ah⟩
theorem agR (n:Nat) (J:1<=n/\n<=64) (w:World):Cx 38 #[I (n:Int)] w λe w'=>∃b F,e=Z (.tuple #[pt b,I 0])/\ft b w' F (mb n)/\av no w w'/\∀i,F i->w.heap.size<=i:=by
 refine u38 ?_;refine⟨λg1=>⟨λD=>?_,λD=>?_⟩,λg1=>?_⟩
 ·have:=aL D;omega
 ·refine⟨(Fh 48 w).mono ?_⟩;rintro e w1 K;obtain⟨_,b2,F1,rfl,l,q,H⟩:=K.resolve_left (λh=>absurd (by omega) h.1);have a:cj w w1 (dq b2) (aD 48 ae):=cj.new (av.refl _ _) q l H;clear q l H;refine⟨_,_,rfl,λg=>by simp at g,λ_=>⟨λr f=>⟨λs d=>?_⟩⟩⟩;replace a:cj w r (aF (dq b2) (bM w1.heap.size (aB .i64))) (aD 48 ae,(λ_=>ah,0)):=a.add (f.ak no) (bM.new f) (λi hi=>bF hi.symm);generalize w1.heap.size=bm at a d⊢;replace a:cj w s (aF (aF (dq b2) (bM bm (aB .i64))) (Gn r.heap.size b2 bm)) ((aD 48 ae,(λ_=>ah,0)),[]):=a.add (d.ak no) (Tq.nil d rfl) (λi hi=>bF hi.symm);generalize r.heap.size=b at a⊢;refine⟨bO bu (M:=Cl) (σ:=Nat) (λj=>HY (aa ⟨b,0,ah⟩) (n:Int) (j:Int)) (λj w'=>j<=n/\cj w w' (aF (aF (dq b2) (bM bm (aB .i64))) (Gn b b2 bm)) ((aD 48 ae,(λ_=>ah,0)),aD j ((0:Int),(λ_=>ah:dd)))) (λj _=>n-j) 0 ⟨rfl,rfl,rfl,trivial⟩ ⟨by omega,a⟩ ?_⟩;clear a d;rintro j s ⟨V,a⟩;rw[afT];refine⟨λg=>?_,λg=>?_⟩
  ·have W:j<n:=by simp at g;omega
   refine⟨(ama s).mono ?_⟩;rintro e X ⟨bq,G,rfl,l,q,L⟩;obtain⟨F2,hA,N⟩:=a.right;obtain⟨p,c,hB,u⟩:=Tq.push Yh (k:=1) (λ_ _ _ _ _ _=>rfl) (λ_ _ _=>by simp[rC]) hA (by simp;omega) q l L;refine⟨_,_,rfl,λg=>by simp at g,λ_=>⟨_,rfl,_,_,_,hB.cell rfl,⟨λO d=>?_⟩⟩⟩;obtain⟨p',c',P,Q,R⟩:=u O d 183;refine⟨_,_,_,P,Q,_,rfl,R _ λY S=>?_⟩;have U:=N _ _ S;refine⟨j+1,⟨rfl,rfl,by rw[aP (by omega)];rfl,trivial⟩,⟨by omega,?_⟩,by omega⟩;rw[tf (n:=j)];exact U
  ·have:j=n:=by simp at g;omega
   subst this;obtain⟨F,y,z,B⟩:=a;refine⟨b,F,rfl,⟨b2,bm,_,_,_,aF.rot y,?_⟩,z,B⟩;refine⟨by simp[mb],by simp[mb],λi hi=>?_,λid=>?_,⟨by show bD 0;unfold bD;decide,J,by simp[mb],λid p C=>?_⟩⟩
   ·have e:eh (mb j).t (i:Int)=λ_=>ah:=by
     funext id;unfold eh mb;rw[FH]
    rw[e];simp[mb]
   ·unfold mb;rw[FH];rfl
   ·unfold mb at C;rw[FH]at C;cases C
 ·have:=aL g1;omega
theorem SL (n m:Int) (w:World):Cx 225 #[I n,I m] w λe w'=>e=Z (.bool (decide (0<=n/\n<=m)))/\w'=w:=by
 refine ai3 ?_;refine⟨λg=>⟨?_,rfl⟩,λg=>⟨?_,rfl⟩⟩
 ·have g:=aL g;congr 2;simp only[decide_eq_decide];omega
 ·have g:=aT g;congr 2;simp only[Bool.false_eq,decide_eq_false_iff_not];omega
theorem Pp (n:Int) (b:Bool) (w:World):Cx 226 #[I n,.bool b] w λe w'=>e=Z (.tuple #[I (if b then n else 0),I (if b then 0 else 16)])/\w'=w:=by
 refine ai4 ?_;cases b
 ·exact⟨λ_=>⟨rfl,rfl⟩,λg=>(by cases g)⟩
 ·exact⟨λg=>(by cases g),λ_=>⟨rfl,rfl⟩⟩
theorem I9 (a d:Int) (w:World):Cx 122 #[I a,I d] w λe w'=>e=Z (.tuple #[I (bH a d).1,I (bH a d).2])/\w'=w:=by
 refine ahr ?_;refine⟨(SL _ _ w).mono ?_⟩;rintro e w1 ⟨rfl,rfl⟩;refine⟨_,rfl,λg1=>⟨(SL _ _ w1).mono ?_⟩,λg1=>?_⟩
 ·have g1:0<=a/\a<=1152921504606846976:=by simpa using g1
  rintro e i ⟨rfl,rfl⟩;refine⟨_,rfl,λb=>?_,λb=>⟨(Pp _ _ i).mono ?_⟩⟩
  ·have b:¬(0<=d/\d<=1073741824):=λf=>by rw[decide_eq_true f]at b;cases b
   have c:bH a d=(0,2):=by unfold bH;rw[af (λh=>b h.2)]
   rw[c];exact⟨rfl,rfl⟩
  ·have b:0<=d/\d<=1073741824:=by simpa using b
   rintro e j ⟨rfl,rfl⟩;refine⟨_,_,rfl,?_,rfl⟩;rw[aP (x:=a+d) (by omega),aP (x:=1152921504606846976-d) (by omega)];have g:(0<=a/\a<=1152921504606846976)/\(0<=d/\d<=1073741824):=⟨g1,b⟩;by_cases h:a<=1152921504606846976-d
   ·have c:bH a d=(a+d,0):=by unfold bH;rw[aj g,aj h]
    rw[c,decide_eq_true h];rfl
   ·have c:bH a d=(0,16):=by unfold bH;rw[aj g,af h]
    rw[c,decide_eq_false h];rfl
 ·have g1:¬(0<=a/\a<=1152921504606846976):=λf=>by rw[decide_eq_true f]at g1;cases g1
  have c:bH a d=(0,2):=by unfold bH;rw[af (λh=>g1 h.1)]
  rw[c];exact⟨rfl,rfl⟩
theorem U3 (x:Int):fZ (aV .i64 x):=by
 unfold fZ aV;simp only[lQ,kl,dR];split<;>simp_all<;>omega
theorem wrap_add {a b:Int} (d:fZ a) (e:fZ b):(aV .i64 (a+b)=a+b/\fZ (a+b))∨(¬fZ (a+b)/\((0<=b/\aV .i64 (a+b)=a+b-18446744073709551616)∨(b<0/\aV .i64 (a+b)=a+b+18446744073709551616))):=by
 unfold fZ at *;by_cases h : -9223372036854775808<=a+b/\a+b<=9223372036854775807
 ·exact .inl ⟨aP h,h⟩
 ·refine .inr ⟨h,?_⟩;unfold aV;simp only[lQ,kl,dR];rcases Int.lt_or_le b 0 with c|c
  ·refine .inr ⟨c,?_⟩;split<;>simp_all<;>omega
  ·refine .inl ⟨c,?_⟩;split<;>simp_all<;>omega
theorem SD {a b:Int} (f:fZ a) (g:fZ b) (w:World):Cx 333 #[I a,I b] w λe w'=>e=Z (.tuple #[I (n5 a b).1,I (n5 a b).2])/\w'=w:=by
 refine akG ?_;refine⟨(Pp _ _ w).mono ?_⟩;rintro e w1 ⟨rfl,rfl⟩;refine⟨_,_,rfl,?_,rfl⟩
 have i:(decide (aV .i64 (a+b)<a)==decide (b<0))=decide (fZ (a+b)):=by
  rcases wrap_add f g with⟨d,c⟩|⟨d,c|c⟩
  ·rw[d,decide_eq_true c];by_cases h:b<0
   ·rw[decide_eq_true h,decide_eq_true (by omega)];rfl
   ·rw[decide_eq_false h,decide_eq_false (by omega)];rfl
  ·unfold fZ at f g;rw[decide_eq_false d,c.2,decide_eq_false (show ¬b<0 by omega),decide_eq_true (by omega)];rfl
  ·unfold fZ at f g;rw[decide_eq_false d,c.2,decide_eq_true c.1,decide_eq_false (by omega)];rfl
 rw[i];unfold n5;by_cases h:fZ (a+b)
 ·rw[aj h,decide_eq_true h];unfold fZ at h;rw[aP h];rfl
 ·rw[af h,decide_eq_false h];rfl
end Go.Dav
