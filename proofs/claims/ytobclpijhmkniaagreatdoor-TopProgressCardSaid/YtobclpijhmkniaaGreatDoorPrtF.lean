/- What functions of the program come to, part 6; the texts are made small to keep within a claim. -/
import Derived.Test.YtobclpijhmkniaaGreatDoorPrtE
set_option linter.unusedVariables false
set_option linter.unusedSimpArgs false
set_option linter.unusedSectionVars false
namespace Go.Dav
open Go.Proofs
open _root_.List renaming nodup_cons→mG,mem_cons→ez,nodup_range→rS,length_filter_le→jN,length→gu,set_cons_zero→qD,map_cons→np,sum_cons→s9,getElem_cons_zero→vC,set_cons_succ→qE,getElem_cons_succ→te,count_pos_iff→qB,find?_eq_none→kt,mem_of_find?_eq_some→pH,find?_some→pI,length_pos_of_mem→vA,getD_eq_getElem?_getD→aO,getElem?_eq_getElem→cO,length_set→bN,foldl_cons→nm,range→bU,mem_range→cD,any_eq_true→mF,getElem_mem→cx,all_eq_true→fL,drop_eq_getElem_cons→ku,take_succ_eq_append_getElem→eW,take_length→dC,range_succ→nq,map_append→eI,length_append→cG,length_map→bW,length_cons→il,length_take→eR,append_assoc→jP,take_of_length_le→rO,foldl_append→mH,toArray→dK,eq_nil_of_length_eq_zero→lM
open _root_.List.Pairwise renaming map→rR,filter→xx
open _root_.Nat renaming le_trans→aW,le_refl→aX,le_of_eq→bF,zero_le→cB,zero_add→eU,mul_le_mul_right→fM,lt_of_lt_of_le→jM
open _root_.Bool renaming true→ag,false_eq_true→fD,and_eq_true→aY,or_eq_true→eT,false→ae,and_true→lR,not_eq_true'→ja,not_false→tc,true_and→dR
open _root_.Option renaming some→aa,none→ah
open _root_.Iff renaming rfl→bp
open _root_.List.Perm renaming mem_iff→tg
open _root_.Int renaming le_refl→fU,tmod→eH,tmod_eq_emod_of_nonneg→ot
open Value renaming int→aB
open _root_.Prod renaming ext→lT
open Builtin renaming append_→bR
open World renaming cell?_of_block→uu
open IntKind renaming wrap→aV
open _root_.Classical renaming byContradiction→eV
theorem wx {α:Type} {a b:List α} (h:a.Nodup) (hs:∀x∈a,x∈b) {y:α} (d:y∈b) (e:y∉a):a.length<b.length:=by
 have:=(mG.2 ⟨e,h⟩).length_le_of_subset (l₂:=b) (λx c=>by
  rcases ez.1 c with rfl|c
  ·exact d
  ·exact hs x c)
 simpa [Nat.lt_iff_add_one_le]using this
theorem DX (t:dO) (p:Int×Int->Bool):(gM t p).Nodup:=by
 unfold gM;refine rR _ ?_ (xx _ rS);intro a b c e;exact c (by omega)
theorem IK (t:dO) (p:Int×Int->Bool):(gM t p).length<=t.length:=by
 refine sb (DX t p) λv a=>?_;obtain⟨x,b,_⟩:=lq.1 a;exact zm b
theorem BM (p:Int->Bool) (n:Nat):(bI p n).length<=n:=by
 unfold bI;refine aW (jN ..) ?_;simp
def ln (Q:List (List Int)):Nat:=(Q.map gu).sum
theorem Jl:∀{Q:List (List Int)} {i:Nat} (hi:i<Q.length) (l:List Int),ln (Q.set i l)+Q[i].length=ln Q+l.length
 | q::Q,0,_,l=>by simp only[ln,qD,np,s9,vC];omega
 | q::Q,i+1,hi,l=>by
  have:=Jl (Q:=Q) (i:=i) (by simpa using hi) l;simp only[ln,qE,np,s9,te]at this⊢;omega
theorem R2 {Q:List (List Int)} {m:Nat} (a:∀v,ct Q v<=1) (b:∀v,0<ct Q v->1<=v/\v<=m):ln Q<=m:=by
 have:=sb (l:=Q.flatten) (m:=m) (List.nodup_iff_count.2 a) λv c=>b v (qB.2 c);rw[List.length_flatten]at this;exact this
def nT (x:cI):Nat:=(gM x.t λp=>decide (p.2<=x.now)).length
def nI (s:ch):Nat:=(bI (dG s) 16).length
def nK (k:K):Nat:=nT k.tm+ln k.wk+ln k.ca.2+nI k.ir
def l5 (k:K) (c:Int):Bool:=decide (0<(cV k.ca c).length)||(na k c).2||lB k.tm c||decide (0<(b8 k.wk c).length+(b8 k.wk (-1)).length)
def nJ (k:K):Nat:=(bI (λc=>hs k.ac c&&(bg k.co c).idle&&l5 k c) k.n).length
theorem Su {k:K} (h:aI k) (a:aC k):nK k<=128:=by
 have c:nT k.tm<=48:=by have:=IK k.tm.t λp=>decide (p.2<=k.tm.now);rw[a.lF]at this;exact this
 have d:ln k.wk<=32:=R2 a.kb a.mv
 have e:ln k.ca.2<=32:=R2 h.ci.one λv b=>by
  have:=h.ci.has v;rw[decide_eq_true b]at this;have:=sf this;rw[h.ci.len]at this;exact this
 have f:nI k.ir<=16:=BM _ _;unfold nK;omega
theorem KX {k:K} {c:Int}:(na k c).2=ag↔∃n∈iQ k.rt c,dG k.ir n=ag:=by
 unfold na
 cases a:(iQ k.rt c).find? (dG k.ir)with
 | none=>
  rw[kt]at a;simp only[fD,false_iff,not_exists,not_and]
  exact a
 | some n=>exact⟨λ_=>⟨n,pH a,pI a⟩,λ_=>rfl⟩
theorem JR {x:cI} {c:Int}:lB x c=ag↔dT x c/\∃t p,bE x.t t=aa p/\p.1=c/\p.2<=x.now:=by
 unfold lB;rw[aY,decide_eq_true_eq,decide_eq_true_eq];refine and_congr bp ⟨λh=>?_,λ⟨t,p,b,d,e⟩=>?_⟩
 ·obtain⟨a,f⟩:=List.exists_mem_of_length_pos h;obtain⟨p,b⟩:=Hn f;exact⟨a,p,b⟩
 ·refine vA (a:=t) ?_;unfold mq;refine(tg (ji ..)).2 (lq.2 ⟨p,b,?_⟩);simp[d,e]
theorem JS {s:ch} {n:Int} (h:dG s n=ag):(0<=n/\n<16)/\(gq s n).1=ag:=by
 unfold dG at h;simp only[aY,decide_eq_true_eq]at h;have:=vh h.1.1;unfold jz at this;exact⟨by omega,this.2⟩
structure vo (k' k:K):Prop where
 c:∀d,(cV k'.ca d).length<=(cV k.ca d).length
 w:∀d,(b8 k'.wk d).length<=(b8 k.wk d).length
 t:∀d,lB k'.tm d=ag->lB k.tm d=ag
 i:∀n,dG k'.ir n=ag->dG k.ir n=ag
 rt:k'.rt=k.rt
theorem vo.has {k' k:K} (h:vo k' k) {d:Int} (a:l5 k' d=ag):l5 k d=ag:=by
 unfold l5 at a⊢;have f:=h.c d;have g:=h.w d;have j:=h.w (-1);simp only[eT,decide_eq_true_eq]at a⊢;rcases a with((a|a)|a)|a
 ·exact .inl (.inl (.inl (by omega)))
 ·rw[KX,h.rt]at a;obtain⟨n,b,e⟩:=a;exact .inl (.inl (.inr (KX.2 ⟨n,b,h.i n e⟩)))
 ·exact .inl (.inr (h.t d a))
 ·exact .inr (by omega)
theorem vo.nj {k' k:K} (h:vo k' k) (a:k'.ac=k.ac) (b:k'.n=k.n) (hi:∀d,(bg k'.co d).idle=ag->(bg k.co d).idle=ag∨l5 k d=ae):nJ k'<=nJ k:=by
 unfold nJ;rw[b,a];refine(sM _ _).length_le_of_subset λd hd=>?_;rw[fF]at hd⊢;simp only[aY]at hd⊢;obtain⟨c,d1,⟨f,g⟩,i⟩:=hd;have:=h.has i;rcases hi d g with e|e
 ·exact⟨c,d1,⟨f,e⟩,this⟩
 ·rw[e]at this;cases this
section
variable {k:K}
theorem Xe (h:aI k) {c:Int} (f:0<(cV k.ca c).length):(∀d,(cV (kT k.ca c) d).length<=(cV k.ca d).length)/\ln (kT k.ca c).2<ln k.ca.2:=by
 obtain⟨_,g,_,i⟩:=h.ci.Uh c
 have a:bK k.ca c:=by
  unfold cV at f;split at f
  ·assumption
  ·simp at f
 have j:0<(bA k.ca c).length:=by unfold cV at f;rwa [aj a]at f
 rw[aj a]at g;have hi:c.toNat<k.ca.2.length:=by unfold bK at a;omega
 have l:k.ca.2[c.toNat]=bA k.ca c:=by unfold bA;rw[aO,cO hi];rfl
 refine⟨λd=>?_,?_⟩
 ·unfold cV;by_cases hd:bK k.ca d
  ·have b:bK (kT k.ca c) d:=by unfold bK at hd⊢;rw[i];exact hd
   rw[aj hd,aj b];have m:bA (kT k.ca c) d=bA (k.ca.1,k.ca.2.set c.toNat (bA k.ca c).tail) d:=Bk (by rw[g]) d;rw[m,wD a hd.1];split
   ·rename_i e;subst e;simp
   ·exact aX _
  ·have b:¬bK (kT k.ca c) d:=by unfold bK at hd⊢;rw[i];exact hd
   rw[af hd,af b];exact aX _
 ·rw[g];have:=Jl hi (bA k.ca c).tail;rw[l]at this;simp at this;omega
theorem ZV (j:aC k) {n:Int} (f:dG k.ir n=ag):(∀m,dG (mM k.ir n) m=ag->dG k.ir m=ag)/\nI (mM k.ir n)<nI k.ir:=by
 have g:=JS f;have b:=f;unfold dG at b;simp only[aY,decide_eq_true_eq]at b
 have e:mM k.ir n=ky k.ir n ((gq k.ir n).1,(gq k.ir n).2.1,ae,(gq k.ir n).2.2.2):=by
  unfold mM;rw[aj];unfold pO;rw[aj b.1.1,aj f]
 have h:¬jz n:=(vh b.1.1).1
 have key:∀m,dG (mM k.ir n) m=ag->dG k.ir m=ag/\m≠n:=by
  intro m a;have i:=JS a;have d:=DR (q:=((gq k.ir n).1,(gq k.ir n).2.1,ae,(gq k.ir n).2.2.2)) j.iN h i.1.1;rw[<-e]at d;by_cases c:m=n
  ·rw[aj c]at d;unfold dG at a;rw[d]at a;simp at a
  ·rw[af c]at d;refine⟨?_,c⟩;unfold dG eM at a⊢;rw[d]at a;exact a
 refine⟨λm a=>(key m a).1,?_⟩;unfold nI;refine wx (sM _ _) (y:=n) (λm a=>?_) (fF.2 ⟨g.1.1,by omega,f⟩) (λa=>?_)
 ·rw[fF]at a⊢;exact⟨a.1,a.2.1,(key m a.2.2).1⟩
 ·exact(key n (fF.1 a).2.2).2 rfl
theorem XT {x c:cI} {a:Int} {p:Int×Int} (l:bE x.t a=aa p) (g:∀j,bE c.t j=if j=a then ah else bE x.t j) (m:c.n=x.n) (o:c.now=x.now) (q:Int×Int->Bool) :
  (∀d,lB c d=ag->lB x d=ag)/\(gM c.t q).length<=(gM x.t q).length/\(q p=ag->(gM c.t q).length<(gM x.t q).length):=by
 have sub:∀j∈gM c.t q,j∈gM x.t q/\j≠a:=by
  intro j h;obtain⟨y,b,f⟩:=lq.1 h;rw[g]at b;split at b
  ·cases b
  ·rename_i e;exact⟨lq.2 ⟨y,b,f⟩,e⟩
 refine⟨λd hd=>?_,(DX _ _).length_le_of_subset λj h=>(sub j h).1,λr=>wx (DX _ _) (λj h=>(sub j h).1) (lq.2 ⟨p,l,r⟩) (λs=>(sub a s).2 rfl)⟩;rw[JR]at hd⊢;obtain⟨b,t,y,f,u,i⟩:=hd;rw[g]at f;rw[o]at i;split at f
 ·cases f
 ·exact⟨by unfold dT at b⊢;rw[m]at b;exact b,t,y,f,u,i⟩
theorem YJ {x:cI} {c:Int} (d:lB x c=ag):∃a p,bE x.t a=aa p/\p.1=c/\p.2<=x.now/\(dM x c).1=a/\gx x c=uB x a:=by
 have h:=d;unfold lB at h;simp only[aY,decide_eq_true_eq]at h
 cases b:mq x.now x.t c with
 | nil=>rw[b]at h;simp at h
 | cons a l=>
  obtain⟨p,e,f,g⟩:=Hn (x:=x) (c:=c) (a:=a) (by rw[b];simp);exact⟨a,p,e,f,g,by unfold dM;rw[aj h.1,b],by unfold gx;rw[aj h.1,b]⟩
theorem amd (m:aC k) {c:Int} (p:0<=c/\c<k.n) (i:0<(b8 k.wk c).length+(b8 k.wk (-1)).length):(∀d,(b8 (qg k.wk c) d).length<=(b8 k.wk d).length)/\ln (qg k.wk c)<ln k.wk:=by
 have t:=m.jI;have j:cY k.wk c 0:=⟨p.1,by omega⟩
 have key:∀(e v:Int) (l:List Int),-1<=e->e+1<k.wk.length->da k.wk e=v::l->(∀d,(b8 (oI k.wk v) d).length<=(b8 k.wk d).length)/\ln (oI k.wk v)<ln k.wk:=by
  intro e v l f g h;have hi:ix e<k.wk.length:=by unfold ix;omega
  have o:k.wk[ix e]=da k.wk e:=by unfold da;rw[aO,cO hi];rfl
  have q:ka k.wk v=aa e:=by
   rw[zx m.kb hi (by rw[o,h];simp)];unfold ix;congr 1;omega
  have r:oI k.wk v=k.wk.set (ix e) l:=by
   unfold oI;rw[q];simp only;rw[h];simp
  rw[r];refine⟨λd=>?_,?_⟩
  ·unfold b8;by_cases hd:cY k.wk d (-1)
   ·have b:cY (k.wk.set (ix e) l) d (-1):=by unfold cY at hd⊢;rw[bN];exact hd
    rw[aj hd,aj b,EZ ⟨f,g⟩ hd.1];split
    ·rename_i s;rw[s,h];simp
    ·exact aX _
   ·have b:¬cY (k.wk.set (ix e) l) d (-1):=by unfold cY at hd⊢;rw[bN];exact hd
    rw[af hd,af b];exact aX _
  ·have:=Jl hi l;rw[o,h]at this;simp at this;omega
 unfold qg;rw[aj j]
 cases f:da k.wk c with
 | cons a l=>exact key c a l (by omega) (by omega) f
 | nil=>
  cases g:da k.wk (-1)with
  | cons a l=>exact key (-1) a l (by omega) (by omega) g
  | nil=>
   unfold b8 at i;rw[aj (show cY k.wk c (-1)from⟨by omega,by omega⟩),aj (show cY k.wk (-1) (-1)from⟨by omega,by omega⟩),f,g]at i;simp at i
end
theorem KZ (f:Fl):(f.1=ag/\ef f=2)∨(f.1=ae/\f.2.2.1=ag/\ef f=3)∨(f.1=ae/\f.2.2.1=ae/\(f.2.1=ag∨f.2.2.2.1=ae)/\ef f=0)∨
  (f.1=ae/\f.2.2.1=ae/\f.2.2.2.1=ag/\((f.2.2.2.2.1=ag/\ef f=4)∨(f.2.2.2.2.2.1=ag/\ef f=5)∨(f.2.2.2.2.2.2.1=ag/\ef f=6)∨(f.2.2.2.2.2.2.2.1=ag/\ef f=7)∨
   ((f.2.2.2.2.1=ae/\f.2.2.2.2.2.1=ae/\f.2.2.2.2.2.2.1=ae/\f.2.2.2.2.2.2.2.1=ae)/\(ef f=8∨ef f=9)))):=by
 unfold ef;by_cases a:f.1=ag
 ·exact .inl ⟨a,by rw[aj a]⟩
 rw[af a];have a:f.1=ae:=by simpa using a
 right;by_cases b:f.2.2.1=ag
 ·exact .inl ⟨a,b,by rw[aj b]⟩
 rw[af b];have b:f.2.2.1=ae:=by simpa using b
 right;by_cases c:(f.2.1||!f.2.2.2.1)=ag
 ·exact .inl ⟨a,b,by simpa using c,by rw[aj c]⟩
 rw[af c];have c:f.2.2.2.1=ag:=by simp at c;exact c.2
 refine .inr ⟨a,b,c,?_⟩;by_cases d:f.2.2.2.2.1=ag
 ·exact .inl ⟨d,by rw[aj d]⟩
 rw[af d];right;by_cases e:f.2.2.2.2.2.1=ag
 ·exact .inl ⟨e,by rw[aj e]⟩
 rw[af e];right;by_cases g:f.2.2.2.2.2.2.1=ag
 ·exact .inl ⟨g,by rw[aj g]⟩
 rw[af g];right;by_cases h:f.2.2.2.2.2.2.2.1=ag
 ·exact .inl ⟨h,by rw[aj h]⟩
 rw[af h];right;refine⟨⟨by simpa using d,by simpa using e,by simpa using g,by simpa using h⟩,?_⟩;split
 ·exact .inl rfl
 ·exact .inr rfl
theorem Xz (pw idle:Bool) (f:Fl):(tv pw idle f=0/\(pw=ae∨ef f=0∨(idle=ag/\ef f=9)))∨(pw=ag/\idle=ag/\tv pw idle f=1)∨(pw=ag/\idle=ae/\tv pw idle f=ef f/\ef f≠0):=by
 unfold tv
 cases pw with
 | false=>exact .inl ⟨rfl,.inl rfl⟩
 | true=>
  cases idle with
  | false=>
   by_cases h:ef f=0
   ·exact .inl ⟨by simp[h],.inr (.inl h)⟩
   ·exact .inr (.inr ⟨rfl,rfl,by simp,h⟩)
  | true=>
   by_cases h:ef f=0∨ef f=9
   ·exact .inl ⟨by simp[h],.inr (h.imp id λh=>⟨rfl,h⟩)⟩
   ·exact .inr (.inl ⟨rfl,rfl,by simp[h]⟩)
def wg (k:K):Int×List Int:=(k.now,k.ga.1)
theorem PF (k:K) (id:Int):wg (iz k id)=wg k:=by unfold iz;split<;>rfl
theorem PB (k:K) (id:Int):wg (gZ k id)=wg k:=by unfold gZ;split<;>rfl
theorem PG:∀(l:List Int) (k:K),wg (l.foldl iz k)=wg k
 | [],_=>rfl
 | a::l,k=>(PG l _).trans (PF k a)
theorem PD:∀(l:List Int) (k:K),wg (l.foldl gZ k)=wg k
 | [],_=>rfl
 | a::l,k=>(PD l _).trans (PB k a)
theorem PE (c:Int):∀(l:List Int) (k:K),wg (l.foldl (λk n=>iw k n c) k)=wg k
 | [],_=>rfl
 | a::l,k=>(PE c l _).trans rfl
theorem PH (k:K) (s:Int×Bool×Bool) (c ax:Int):wg (fm k s c ax)=wg k:=by
 unfold fm;split
 ·unfold nU;split;rfl;split<;>rfl
 split;unfold oQ wg;simp only;split<;>rfl;split
 ·unfold nz;split;rfl;split;rfl;simp only;rw[PD,PG];rfl
 ·unfold fO;split;rfl;split;unfold iL;split<;>rfl;split;rfl;split;rfl;split;rfl;split
  ·unfold nD;split;rfl;split
   ·exact PE _ _ _
   ·rfl
  split;rfl;split<;>rfl
theorem Y2 (k:K) (ax:Int):wg (jH k ax)=wg k:=by
 have a:wg (gC k ax)=wg k:=by
  unfold gC;simp only;split;rfl;split
  ·exact(PH _ _ _ _).trans rfl
  ·exact(PH _ _ _ _).trans rfl
 unfold jH;split
 ·exact a
 ·exact a
theorem Y1 (k:K) (c a:Int):wg (gB k c a)=wg k:=by
 unfold gB;split;rfl;split;rfl;split;unfold fN;simp only;split<;>rfl;split<;>rfl
theorem PJ (k:K) (c:Int):wg (bG k c)=wg k:=by
 unfold bG;split;rfl;split;rfl;split;rfl;split;exact Y2 _ _;split;rfl;exact Y1 _ _ _
theorem alN (k:K) (p:Int) (m:BV):(rA k p m).now=k.now:=by unfold rA;split<;>rfl
theorem alM (k:K) (id:Int) (x:Th) (n:Int):(ry k id x n).now=k.now:=by unfold ry;split;split<;>rfl;rfl
theorem alI (k:K) (id:Int) (x:Th):(qM k id x).now=k.now:=by unfold qM;split<;>rfl
theorem alO (k:K) (e:cu):(iV k e).now=k.now:=by
 unfold iV;simp only;split;rfl;split;rfl;split;exact alI _ _ _;split
 ·split
  ·exact congrArg (·.1) (PF _ _)
  ·rfl
 split;rfl;split;exact alM _ _ _ _;split<;>rfl
theorem alJ (k:K) (e:cu):(pU k e).now=k.now:=by
 unfold pU;split;split<;>rfl;split;split<;>rfl;split;split;exact congrArg (·.1) (PB _ _);rfl;split;rfl;split<;>rfl
theorem UN (k:K) (e:cu):(jY k e).now=k.now:=by
 unfold jY;split;rfl;split;unfold tj;split<;>rfl;split;rfl;split;rfl;split;rfl;split<;>rfl
theorem alL (k:K) (e:cu):(j4 k e).now=k.now:=by
 unfold j4;split;unfold tu;split;split<;>rfl;rfl;split;rfl;split;rfl;split;rfl;split;unfold wq;split<;>rfl;split;rfl;split;unfold nu;split;rfl;split<;>rfl;rfl
theorem alK (k:K) (up:Bool) (c:Int):(iC k up c).now=k.now:=by
 unfold iC;split;rfl;split;rfl;split;rfl;split;rfl;split<;>rfl
theorem alH (k:K) (e:cu) (h:bD k.now):bD (cT k e).now:=by
 unfold cT;split;split;exact h;rw[show(bG k e.2.1).now=k.now from congrArg (·.1) (PJ _ _)];exact h;split
 ·unfold sJ;split
  ·rename_i a;have:=RM a;show bD (bH k.now _).1;rw[this.2.2.1];exact this.2.2.2
  ·exact h
 split;rw[alN];exact h;split;rw[alO];exact h;split;rw[alJ];exact h;split;split;exact h;rw[UN];exact h;split;rw[UN];exact h;split;rw[alK];exact h;rw[alL];exact h
def o9 (k:K) (c:Int):Nat:=(gM k.tm.t λp=>decide (p.1=c)).length
def sW (k:K):Nat:=(bI (hs (b9 k.sp)) k.n).length+(bI (λc=>hs (b9 k.sp) c&&(bg k.co c).idle) k.n).length
def dD (k:K) (r:bd):Nat:=
 if r.aA=2 then(bT k.rq r.au).length+1 else if r.aA=3 then o9 k r.au+1 else if r.aA=4 then(b8 k.wk r.au).length+1 else if r.aA=5 then(cV k.ca r.au).length+1
 else if r.aA=6 then(if k.sp.1=0 then 21 else 1+sW k)else 1
def fh (d:Int):Nat:=if d=0 then 173 else if d=1 then 172 else if d=2 then 139 else if d=3 then 90 else if d=4 then 57 else if d=5 then 24 else if d=6 then 3 else if d=7 then 2 else if d=8 then 1 else 0
def gA (k:K) (r:bd):Nat:=if r.back then r.aA.toNat else 12+(if r.up then(4-r.aA).toNat else fh r.aA+dD k r)
def dA (k:K) (r:bd):Nat:=if(bg k.co r.ax).idle then 1 else 0
def gz (k:K):Nat:=match k.dk.1 with|some r=>140+gA k r+dA k r|none=>nK k+nJ k
def Rp (k:K) (c:Int):Prop:=match k.dk.1 with
 | some r=>if k.sp.1≠0/\iU k.sp=ae then hs (b9 k.sp) c=ag else c=r.ax
 | none=>hs k.ac c=ag/\l5 k c=ag
theorem q9 {k:K} {r:bd} (hd:k.dk.1=aa r):gz k=140+gA k r+dA k r:=by unfold gz;rw[hd]
theorem pZ {k:K} (hd:k.dk.1=ah):gz k=nK k+nJ k:=by unfold gz;rw[hd]
theorem u6 {k:K} {r:bd} (hd:k.dk.1=aa r) (c:Int):Rp k c=(if k.sp.1≠0/\iU k.sp=ae then hs (b9 k.sp) c=ag else c=r.ax):=by unfold Rp;rw[hd]
theorem rk {k:K} (hd:k.dk.1=ah) (c:Int):Rp k c=(hs k.ac c=ag/\l5 k c=ag):=by unfold Rp;rw[hd]
structure fJ (k:K):Prop where
 h:aI k
 S:aC k
 g:k.ga.1.sum<=0
 t:bD k.now
 n9:k.n<=9
theorem Ss (k:K):nJ k<=k.n:=BM _ _
theorem TK (k:K):sW k<=2*k.n:=by
 have a:=BM (hs (b9 k.sp)) k.n;have b:=BM (λc=>hs (b9 k.sp) c&&(bg k.co c).idle) k.n;unfold sW;omega
theorem fJ.step {k:K} (G:fJ k) (c:Int):fJ (bG k c):=by
 have e:=PJ k c;have a:(bG k c).now=k.now:=congrArg (·.1) e;have b:(bG k c).ga.1=k.ga.1:=congrArg (·.2) e;exact⟨G.h.step G.S c,G.S.step c,by rw[b];exact G.g,by rw[a];exact G.t,by rw[A5];exact G.n9⟩
def Prog (k' k:K) (c:Int):Prop:=gz k'<=gz k/\(Rp k c->gz k'<gz k)/\∀d,d≠c->Rp k d->gz k'<gz k∨Rp k' d
theorem Prog.lt {k' k:K} {c:Int} (h:gz k'<gz k):Prog k' k c:=⟨Nat.le_of_lt h,λ_=>h,λ_ _ _=>.inl h⟩
theorem Prog.keep {k' k:K} {c:Int} (h:gz k'<=gz k) (b:¬Rp k c) (e:∀d,Rp k d->Rp k' d):Prog k' k c:=⟨h,λa=>absurd a b,λd hd a=>.inr (e d a)⟩
structure zK (k' k:K):Prop where
 less:vo k' k
 nk:nK k'<nK k
 ac:k'.ac=k.ac
 co:k'.co=k.co
 sp:k'.sp=k.sp
 dk:k'.dk=k.dk
 n:k'.n=k.n
 tl:∀d,o9 k' d<=o9 k d
 ql:∀d,hs k.ac d=ae->(bT k'.rq d).length<=(bT k.rq d).length
theorem Tj {x:RS} {c p id d:Int} (b:0<=c) (hd:d≠c):bT (jE x c p id) d=bT x d:=by
 unfold jE;split
 ·unfold bT;by_cases h:dZ x d
  ·have a:dZ (x.set c.toNat (jA (gR x c) p id)) d:=by unfold dZ at h⊢;rw[bN];exact h
   rw[aj h,aj a];unfold dZ at h
   have e:gR (x.set c.toNat (jA (gR x c) p id)) d=gR x d:=by
    generalize jA (gR x c) p id=y;unfold gR;rw[aO,aO,List.getElem?_set_ne (by omega)]
   rw[e]
  ·have a:¬dZ (x.set c.toNat (jA (gR x c) p id)) d:=by unfold dZ at h⊢;rw[bN];exact h
   rw[af h,af a]
 ·rfl
section
variable {k:K}
theorem alT (a:k.ac≠0) (id:Int) {d:Int} (hd:hs k.ac d=ae):bT (ub k id).rq d=bT k.rq d:=by
 unfold ub jB;simp only;have:=Ai (m:=(cS {k with th:=lG k.th id} id).2.1) a (cS {k with th:=lG k.th id} id).2.2.1;refine Tj (jV this).1 λe=>?_;rw[e,this]at hd;cases hd
theorem alQ {c:Int} (h:(na k c).2=ag):dG k.ir (na k c).1=ag:=by
 unfold na at h⊢
 cases a:(iQ k.rt c).find? (dG k.ir)with
 | none=>rw[a]at h;cases h
 | some n=>exact pI a
theorem agF (h:aI k) (d:aC k) {c:Int} (a:0<(cV k.ca c).length):zK (gB k c 4) k:=by
 obtain⟨b,f⟩:=Xe h a;have e:gB k c 4={k with ca:=kT k.ca c}:=by unfold gB;simp
 rw[e];exact⟨⟨b,λ_=>aX _,λ_ h=>h,λ_ h=>h,rfl⟩,by unfold nK;simp only;omega,rfl,rfl,rfl,rfl,rfl,λ_=>aX _,λ_ _=>aX _⟩
theorem agE (h:aI k) (a:aC k) {c:Int} (b:(na k c).2=ag):zK (gB k c 5) k:=by
 obtain⟨d,f⟩:=ZV a (alQ b);have e:gB k c 5={k with ir:=mM k.ir (na k c).1}:=by unfold gB;simp
 rw[e];exact⟨⟨λ_=>aX _,λ_=>aX _,λ_ h=>h,d,rfl⟩,by unfold nK;simp only;omega,rfl,rfl,rfl,rfl,rfl,λ_=>aX _,λ_ _=>aX _⟩
theorem YL (k:K) (c:Int):(fN k c).ca=k.ca/\(fN k c).wk=k.wk/\(fN k c).tm=gx k.tm c/\(fN k c).ir=k.ir/\(fN k c).rt=k.rt/\(fN k c).ac=k.ac/\(fN k c).co=k.co/\(fN k c).sp=k.sp/\(fN k c).dk=k.dk/\(fN k c).n=k.n:=by
 unfold fN;simp only;split
 ·exact⟨rfl,rfl,rfl,rfl,rfl,rfl,rfl,rfl,rfl,rfl⟩
 ·exact⟨rfl,rfl,rfl,rfl,rfl,rfl,rfl,rfl,rfl,rfl⟩
theorem agH (h:aI k) (D:aC k) {c:Int} (u:lB k.tm c=ag):zK (gB k c 6) k:=by
 obtain⟨a,p,r,E,w,F,f⟩:=YJ u;have e:gB k c 6=fN k c:=by unfold gB;simp
 rw[e];obtain⟨p1,p2,g,s,x,y,z,p8,A,i⟩:=YL k c;have l:∀j,bE (gx k.tm c).t j=if j=a then ah else bE k.tm.t j:=λj=>by rw[f];exact OB r j
 have b:(gx k.tm c).now=k.tm.now:=by rw[f];rfl
 have B:(gx k.tm c).n=k.tm.n:=by rw[f];rfl
 have o:∀q:Int×Int->Bool,_:=λq=>XT r l B b q;refine⟨⟨λd=>by rw[p1];exact aX _,λd=>by rw[p2];exact aX _,λd hd=>(o λ_=>ag).1 d (by rw[<-g];exact hd),λm C=>by rw[<-s];exact C,x⟩,?_,y,z,p8,A,i,λd=>by unfold o9;rw[g];exact(o _).2.1,λd hd=>bF (congrArg gu ?_)⟩
 ·have:=(o λp=>decide (p.2<=k.tm.now)).2.2 (decide_eq_true w);unfold nK nT;rw[p1,p2,g,s,b];omega
 ·unfold fN;simp only;split
  ·exact alT (k:={k with tm:=gx k.tm c,own:=sv k.own (dM k.tm c).1}) h.dk.an _ hd
  ·rfl
theorem agG (h:aI k) (a:aC k) {c:Int} (hi:0<=c/\c<k.n) (b:0<(b8 k.wk c).length+(b8 k.wk (-1)).length):zK (gB k c 7) k:=by
 obtain⟨d,f⟩:=amd a hi b;have e:gB k c 7={k with wk:=qg k.wk c}:=by unfold gB;simp
 rw[e];exact⟨⟨λ_=>aX _,d,λ_ h=>h,λ_ h=>h,rfl⟩,by unfold nK;simp only;omega,rfl,rfl,rfl,rfl,rfl,λ_=>aX _,λ_ _=>aX _⟩
theorem Ub (h:aI k) (f:aC k) {c:Int} (s:0<=c/\c<k.n) :
  (bG k c=k/\((bg k.co c).pw=ae∨(hs (b9 k.sp) c=ae/\(dY k c).2.2.1=ae/\(hs k.sp.2 c=ag∨hs k.ac c=ae))∨(hs (b9 k.sp) c=ae/\(dY k c).2.2.1=ae/\l5 k c=ae)))∨
  ((bg k.co c).pw=ag/\(bg k.co c).idle=ag/\bG k c={k with co:=eY k.co c k.now})∨
  ((bg k.co c).pw=ag/\(bg k.co c).idle=ae/\
   ((hs (b9 k.sp) c=ag/\bG k c={k with sp:=(lC k.sp c).2})∨
       (hs (b9 k.sp) c=ae/\(dY k c).2.2.1=ag/\bG k c=jH k c)∨
       (hs (b9 k.sp) c=ae/\(dY k c).2.2.1=ae/\hs k.ac c=ag/\(zK (bG k c) k∨
    (l5 k c=ae/\(bG k c={k with rq:=o5 k.rq c}∨bG k c=qU k c)))))):=by
 rcases Xz (bg k.co c).pw (bg k.co c).idle (dY k c)with⟨j,d⟩|⟨p,i,l⟩|⟨p,i,b,m⟩
 ·have j:dI k c=0:=j;refine .inl ⟨by unfold bG;rw[aj j],?_⟩;rcases d with d|d|⟨_,d⟩
  ·exact .inl d
  ·rcases KZ (dY k c)with⟨_,w⟩|⟨_,_,w⟩|⟨f1,f2,f3,w⟩|⟨_,_,_,w⟩
   ·omega
   ·omega
   ·exact .inr (.inl ⟨f1,f2,f3⟩)
   ·rcases w with⟨_,w⟩|⟨_,w⟩|⟨_,w⟩|⟨_,w⟩|⟨_,w|w⟩<;>omega
  ·rcases KZ (dY k c)with⟨_,w⟩|⟨_,_,w⟩|⟨f1,f2,f3,w⟩|⟨f1,f2,_,w⟩
   ·omega
   ·omega
   ·omega
   ·rcases w with⟨_,w⟩|⟨_,w⟩|⟨_,w⟩|⟨_,w⟩|⟨⟨g1,o,q,r⟩,w⟩
    ·omega
    ·omega
    ·omega
    ·omega
    ·refine .inr (.inr ⟨f1,f2,?_⟩);show((dY k c).2.2.2.2.1||(dY k c).2.2.2.2.2.1||(dY k c).2.2.2.2.2.2.1||(dY k c).2.2.2.2.2.2.2.1)=ae;rw[g1,o,q,r];rfl
 ·have l:dI k c=1:=l;exact .inr (.inl ⟨p,i,by unfold bG;rw[af (by omega),aj l]⟩)
 ·have b:dI k c=ef (dY k c):=b;refine .inr (.inr ⟨p,i,?_⟩);rcases KZ (dY k c)with⟨f1,w⟩|⟨f1,f2,w⟩|⟨_,_,_,w⟩|⟨f1,f2,f3,w⟩
  ·rw[w]at b;exact .inl ⟨f1,by unfold bG;rw[af (by omega),af (by omega),aj b]⟩
  ·rw[w]at b;exact .inr (.inl ⟨f1,f2,by unfold bG;rw[af (by omega),af (by omega),af (by omega),aj b]⟩)
  ·exact absurd w m
  ·refine .inr (.inr ⟨f1,f2,f3,?_⟩)
   have a:∀{v:Int},ef (dY k c)=v->4<=v->v<=8->bG k c=gB k c v:=by
    intro v e t u;rw[e]at b;unfold bG;rw[b,af (by omega),af (by omega),af (by omega),af (by omega),af (by omega)]
   rcases w with⟨g,w⟩|⟨g,w⟩|⟨g,w⟩|⟨g,w⟩|⟨⟨g1,o,q,r⟩,w⟩
   ·rw[a w (by omega) (by omega)];exact .inl (agF h f (aL g))
   ·rw[a w (by omega) (by omega)];exact .inl (agE h f g)
   ·rw[a w (by omega) (by omega)];exact .inl (agH h f g)
   ·rw[a w (by omega) (by omega)];exact .inl (agG h f s (aL g))
   ·refine .inr ⟨?_,?_⟩
    ·show((dY k c).2.2.2.2.1||(dY k c).2.2.2.2.2.1||(dY k c).2.2.2.2.2.2.1||(dY k c).2.2.2.2.2.2.2.1)=ae;rw[g1,o,q,r];rfl
    ·rcases w with w|w
     ·rw[a w (by omega) (by omega)];exact .inl (by unfold gB;simp)
     ·rw[w]at b;refine .inr ?_;unfold bG;rw[b,af (by omega),af (by omega),af (by omega),af (by omega),aj rfl]
theorem US {co:List dV} {c now d:Int} (a:dS co c) (b:bD now) (hi:(bg co c).idle=ag):(bg (eY co c now) d).idle=ag->(bg co d).idle=ag/\d≠c:=by
 intro h;unfold eY at h;rw[aj ⟨a,b,hi⟩,yj a]at h;split at h
 ·cases h
 ·exact⟨h,‹_›⟩
theorem JU {co:List dV} {c cC now d:Int}:(bg (mN co c cC now) d).idle=ag->(bg co d).idle=ag∨d=c:=by
 intro h;unfold mN at h;split at h
 ·rename_i a;rw[yj a.1]at h;split at h
  ·exact .inr ‹_›
  ·exact .inl h
 ·exact .inl h
theorem J8 {k':K} (b:k'.n=k.n) (a:∀d,hs (b9 k'.sp) d=ag->hs (b9 k.sp) d=ag) (hi:∀d,hs (b9 k.sp) d=ag->(bg k'.co d).idle=ag->(bg k.co d).idle=ag):sW k'<=sW k:=by
 unfold sW;rw[b]
 have e:=(sM (hs (b9 k'.sp)) k.n).length_le_of_subset (l₂:=bI (hs (b9 k.sp)) k.n) λd hd=>by
  rw[fF]at hd⊢;exact⟨hd.1,hd.2.1,a d hd.2.2⟩
 have f:=(sM (λc=>hs (b9 k'.sp) c&&(bg k'.co c).idle) k.n).length_le_of_subset (l₂:=bI (λc=>hs (b9 k.sp) c&&(bg k.co c).idle) k.n) λd hd=>by
  rw[fF]at hd⊢;simp only[aY]at hd⊢;have:=a d hd.2.2.1;exact⟨hd.1,hd.2.1,this,hi d this hd.2.2.2⟩
 omega
theorem ad6 {k':K} (i:k'.n=k.n) (e:k'.sp=k.sp) {c:Int} (h:0<=c/\c<k.n) (j:hs (b9 k.sp) c=ag) (f:(bg k.co c).idle=ag) (hi:∀d,(bg k'.co d).idle=ag->(bg k.co d).idle=ag/\d≠c):sW k'<sW k:=by
 unfold sW;rw[i,e]
 have l:=wx (a:=bI (λc=>hs (b9 k.sp) c&&(bg k'.co c).idle) k.n) (b:=bI (λc=>hs (b9 k.sp) c&&(bg k.co c).idle) k.n) (sM _ _) (y:=c) (λd hd=>by
  rw[fF]at hd⊢;simp only[aY]at hd⊢
  exact⟨hd.1,hd.2.1,hd.2.2.1,(hi d hd.2.2.2).1⟩) (fF.2 ⟨h.1,h.2,by rw[j,f];rfl⟩) (λg=>by
  rw[fF]at g;simp only[aY]at g;exact(hi c g.2.2.2).2 rfl)
 omega
theorem ad5 {c:Int} (f:0<=c/\c<k.n) (i:k.n<=64) (g:hs (b9 k.sp) c=ag):sW {k with sp:=(lC k.sp c).2}<sW k/\(lC k.sp c).2.1=k.sp.1/\∀d,d≠c->hs (b9 k.sp) d=ag->hs (b9 (lC k.sp c).2) d=ag:=by
 have e:(lC k.sp c).2=(k.sp.1,wi k.sp.2 c):=by unfold lC;rw[aj g]
 rw[e]
 have h:∀d,hs (b9 (k.sp.1,wi k.sp.2 c)) d=(hs (b9 k.sp) d&&!decide (d=c)):=by
  intro d;unfold b9;rw[oS,oS,oT];by_cases hd:d=c
  ·subst hd;rw[decide_eq_true (show 0<=d/\d<64 by omega)];simp
  ·simp[hd]
 have sub:∀d,hs (b9 (k.sp.1,wi k.sp.2 c)) d=ag->hs (b9 k.sp) d=ag/\d≠c:=λd hd=>by
  rw[h]at hd;simpa using hd
 refine⟨?_,rfl,λd hd j=>by rw[h,j];simp[hd]⟩;unfold sW;simp only
 have o:=wx (a:=bI (hs (b9 (k.sp.1,wi k.sp.2 c))) k.n) (b:=bI (hs (b9 k.sp)) k.n) (sM _ _) (y:=c) (λd hd=>by
  rw[fF]at hd⊢;exact⟨hd.1,hd.2.1,(sub d hd.2.2).1⟩) (fF.2 ⟨f.1,f.2,g⟩) (λm=>(sub c (fF.1 m).2.2).2 rfl)
 have p:=(sM (λd=>hs (b9 (k.sp.1,wi k.sp.2 c)) d&&(bg k.co d).idle) k.n).length_le_of_subset (l₂:=bI (λc=>hs (b9 k.sp) c&&(bg k.co c).idle) k.n) λd hd=>by
  rw[fF]at hd⊢;simp only[aY]at hd⊢;exact⟨hd.1,hd.2.1,(sub d hd.2.2.1).1,hd.2.2.2⟩
 omega
theorem YY (G:fJ k) (hd:k.dk.1=ah) {c:Int} (g:0<=c/\c<k.n):Prog (bG k c) k c:=by
 obtain⟨f1,f2,f3⟩:=G.h.dk.free hd;have w:hs (b9 k.sp) c=ae:=by unfold b9;rw[f3,oS,je];rfl
 have x:hs k.sp.2 c=ae:=by rw[G.h.dk.mg f3,je]
 have o:(dY k c).2.2.1=ae:=by show(dE k.dk&&_)=ae;unfold dE;rw[hd];rfl
 have m:(bg k.co c).pw=hs k.ac c:=by rw[G.h.pw c g.1 g.2];unfold gi;rw[hd,f1];simp
 have q:dS k.co c:=⟨g.1,by rw[G.S.co];exact g.2⟩;rcases Ub G.h G.S g with⟨e,f⟩|⟨p,i,e⟩|⟨p,i,f⟩
 ·rw[e];refine Prog.keep (aX _) (λb=>?_) (λd h=>h);rw[rk hd]at b;rcases f with f|⟨_,_,f|f⟩|⟨_,_,f⟩
  ·rw[m,b.1]at f;cases f
  ·rw[x]at f;cases f
  ·rw[b.1]at f;cases f
  ·rw[b.2]at f;cases f
 ·rw[e];have hi:=λd=>US (d:=d) q G.t i;have r:nJ {k with co:=eY k.co c k.now}<=nJ k:=vo.nj (k':={k with co:=eY k.co c k.now}) ⟨λ_=>aX _,λ_=>aX _,λ_ h=>h,λ_ h=>h,rfl⟩ rfl rfl λd a=>.inl (hi d a).1;by_cases hk:l5 k c=ag
  ·refine Prog.lt ?_;rw[pZ hd,pZ (k:={k with co:=eY k.co c k.now}) hd]
   have:nJ {k with co:=eY k.co c k.now}<nJ k:=by
    unfold nJ;refine wx (sM _ _) (y:=c) (λd a=>?_) (fF.2 ⟨g.1,g.2,?_⟩) (λs=>?_)
    ·rw[fF]at a⊢;simp only[aY]at a⊢;exact⟨a.1,a.2.1,⟨a.2.2.1.1,(hi d a.2.2.1.2).1⟩,a.2.2.2⟩
    ·rw[<-m,p,i,hk];rfl
    ·rw[fF]at s;simp only[aY]at s;exact(hi c s.2.2.1.2).2 rfl
   have u:nK {k with co:=eY k.co c k.now}=nK k:=rfl;omega
  ·refine Prog.keep ?_ (λb=>?_) (λd b=>?_)
   ·rw[pZ hd,pZ (k:={k with co:=eY k.co c k.now}) hd];have u:nK {k with co:=eY k.co c k.now}=nK k:=rfl;omega
   ·rw[rk hd]at b;exact hk b.2
   ·rw[rk hd]at b;rw[rk (k:={k with co:=eY k.co c k.now}) hd];exact b
 ·rcases f with⟨f,_⟩|⟨_,f,_⟩|⟨_,_,z,l|⟨j,e|e⟩⟩
  ·rw[w]at f;cases f
  ·rw[o]at f;cases f
  ·refine Prog.lt ?_;rw[pZ hd,pZ (by rw[l.dk];exact hd)];have:=l.less.nj l.ac l.n λd a=>.inl (by rw[<-l.co];exact a);have:=l.nk;omega
  ·rw[e];refine Prog.keep (bF ?_) (λb=>?_) (λd b=>?_)
   ·rw[pZ hd,pZ (k:={k with rq:=o5 k.rq c}) hd];rfl
   ·rw[rk hd,j]at b;cases b.2
   ·rw[rk hd]at b;rw[rk (k:={k with rq:=o5 k.rq c}) hd];exact b
  ·rw[e];have r:nJ (qU k c)<=nJ k:=vo.nj (k':=qU k c) ⟨λ_=>aX _,λ_=>aX _,λ_ h=>h,λ_ h=>h,rfl⟩ rfl rfl λd a=>(JU a).imp id λe=>by rw[e];exact j
   refine Prog.keep ?_ (λb=>?_) (λd b=>?_)
   ·rw[pZ hd,pZ (k:=qU k c) hd];have u:nK (qU k c)=nK k:=rfl;omega
   ·rw[rk hd,j]at b;cases b.2
   ·rw[rk hd]at b;rw[rk (k:=qU k c) hd];exact b
end
section
variable {k:K} {r:bd}
theorem Zm {co:List dV} {c d:Int} {on:Bool} (hd:d≠c):bg (iK co c on) d=bg co d:=by
 unfold iK;split
 ·rename_i h;rw[yj h.1,af hd]
 ·rfl
theorem Bw (k:K) (a:r.back=ae) (b:r.up=ae):gA k r=12+(fh r.aA+dD k r):=by unfold gA;rw[a,b];rfl
theorem Fa (k:K) (a:r.back=ae) (b:r.up=ag):gA k r=12+(4-r.aA).toNat:=by unfold gA;rw[a,b];rfl
theorem J7 (k:K) (a:r.back=ag):gA k r=r.aA.toNat:=by unfold gA;rw[a];rfl
theorem XO (k:K) (h:r.aA=0):fh r.aA+dD k r=174:=by simp[fh,dD,h]
theorem Ov (k:K) (h:r.aA=1):fh r.aA+dD k r=173:=by simp[fh,dD,h]
theorem Ow (k:K) (h:r.aA=2):fh r.aA+dD k r=140+(bT k.rq r.au).length:=by simp[fh,dD,h];omega
theorem Dl (k:K) (h:r.aA=3):fh r.aA+dD k r=91+o9 k r.au:=by simp[fh,dD,h];omega
theorem Dm (k:K) (h:r.aA=4):fh r.aA+dD k r=58+(b8 k.wk r.au).length:=by simp[fh,dD,h];omega
theorem Dn (k:K) (h:r.aA=5):fh r.aA+dD k r=25+(cV k.ca r.au).length:=by simp[fh,dD,h];omega
theorem Ox (k:K) (h:r.aA=6) (hs:k.sp.1=0):fh r.aA+dD k r=24:=by simp[fh,dD,h,hs]
theorem Hj (k:K) (h:r.aA=6) (hs:k.sp.1≠0):fh r.aA+dD k r=4+sW k:=by
 unfold dD;rw[af hs];simp[fh,h];omega
theorem Oy (k:K) (h:r.aA=7):fh r.aA+dD k r=3:=by simp[fh,dD,h]
theorem Oz (k:K) (h:r.aA=8):fh r.aA+dD k r=2:=by simp[fh,dD,h]
theorem XP (k:K) (h:r.aA=9):fh r.aA+dD k r=1:=by simp[fh,dD,h]
theorem ET (h:aI k) (a:aC k) (c:Int):(bT k.rq c).length<=32:=by
 refine sb (Jj a.rq c) λv b=>?_;have d:=(yD a.rq).1 b;exact h.tq.ids a.iF _ _ d.2
theorem FW (a:aC k) (c:Int):(b8 k.wk c).length<=32:=by
 unfold b8;split
 ·rename_i b;have hi:ix c<k.wk.length:=by unfold cY at b;unfold ix;omega
  have d:k.wk[ix c]=da k.wk c:=by unfold da;rw[aO,cO hi];rfl
  rw[<-d];exact sb (Dj a.kb hi) λv e=>a.mv v (lW hi e)
 ·simp
theorem De (h:aI k) (c:Int):(cV k.ca c).length<=32:=by
 unfold cV;split
 ·rename_i a;have hi:c.toNat<k.ca.2.length:=by unfold bK at a;omega
  have b:k.ca.2[c.toNat]=bA k.ca c:=by unfold bA;rw[aO,cO hi];rfl
  rw[<-b];exact(h.ci.row hi).2
 ·simp
theorem Ul (a:aC k) (c:Int):o9 k c<=48:=by have:=IK k.tm.t λp=>decide (p.1=c);rw[a.lF]at this;exact this
theorem Yl (h:aI k) (f:aC k) {c a:Int} {l:List Int} (i:bT k.rq c=a::l) (n:hs k.ac c=ae):(bT (iL k c).rq c).length<(bT k.rq c).length:=by
 have e:(iL k c).rq=jE (fH k.rq a) (jw (cS {k with rq:=fH k.rq a} a).2.1 k.ac c).1 (cS {k with rq:=fH k.rq a} a).1 a:=by unfold iL;rw[i];rfl
 have b:=Ai (m:=(cS {k with rq:=fH k.rq a} a).2.1) h.dk.an c;rw[e,Tj (jV b).1 (λe=>by rw[e,b]at n;cases n)];have p:a∈bT k.rq c:=by rw[i];simp
 have o:∀j,j∈bT (fH k.rq a) c->j∈bT k.rq c/\j≠a:=by
  intro j g;have d:=(yD (f.rq.take a)).1 g;rw[Jo f.rq]at d;simp only[aY,decide_eq_true_eq]at d;exact⟨(yD f.rq).2 ⟨d.1,d.2.1⟩,d.2.2⟩
 exact wx (Jj (f.rq.take a) c) (λj g=>(o j g).1) p (λq=>(o a q).2 rfl)
theorem agP (h:aI k) (g:aC k) (hd:k.dk.1=aa r) (b:(j8 k.tm r.au r.ax).2=0):o9 {k with tm:=gV k.tm r.au r.ax} r.au<o9 k r.au:=by
 have R:=h.dk.cZ r hd;have s:=h.jL _ R.ax;have i:dT k.tm r.au:=⟨R.v.au.1,by rw[g.jG];exact R.au⟩;have m:dT k.tm r.ax:=⟨R.v.ax.1,by rw[g.jG];exact s⟩;unfold j8 at b;rw[aj ⟨i,m⟩,af R.ne]at b;unfold o9 gV;simp only;rw[aj ⟨i,m,R.ne⟩]
 cases n:gU k.tm.t r.au with
 | nil=>rw[n]at b;simp at b
 | cons a l=>
  have o:a∈gM k.tm.t λx=>decide (x.1=r.au):=(tg (ji (kx k.tm.t) _)).1 (by show a∈gU k.tm.t r.au;rw[n];simp);obtain⟨x,u,_⟩:=lq.1 o;have d:=Ky u (aa (r.ax,kx k.tm.t a));simp only
  have sub:∀j∈gM (k.tm.t.set (a.toNat-1) (aa (r.ax,kx k.tm.t a))) λp=>decide (p.1=r.au),j∈gM k.tm.t (λp=>decide (p.1=r.au))/\j≠a:=by
   intro j f;obtain⟨y,c,q⟩:=lq.1 f;rw[d]at c;split at c
   ·cases c;exact absurd (aL q).symm R.ne
   ·rename_i e;exact⟨lq.2 ⟨y,c,q⟩,e⟩
  exact wx (DX _ _) (λj f=>(sub j f).1) o (λw=>(sub a w).2 rfl)
theorem alv (h:aI k) (d:aC k) (hd:k.dk.1=aa r) (b:(pf k.wk r.au).2=0):(b8 (mr k.wk r.au) r.au).length<(b8 k.wk r.au).length:=by
 have R:=h.dk.cZ r hd;have e:cY k.wk r.au 0:=⟨R.v.au.1,by rw[d.jI];have:=R.au;omega⟩;have g:=R.v.au.1;have m:=R.au;have i:=d.jI;unfold pf at b;rw[aj e]at b;unfold mr;rw[aj e]
 cases f:da k.wk r.au with
 | nil=>rw[f]at b;simp at b
 | cons a l=>
  simp only
  have j:da ((k.wk.set (ix r.au) l).set 0 (da k.wk (-1)++[a])) r.au=l:=by
   rw[show(0:Nat)=ix (-1)from rfl,EZ (c:=-1) ⟨by omega,by rw[bN];omega⟩ (by omega),af (by omega),EZ ⟨by omega,by omega⟩ (by omega),aj rfl]
  unfold b8;rw[aj (show cY k.wk r.au (-1)from⟨by omega,by omega⟩),aj (show cY ((k.wk.set (ix r.au) l).set 0 (da k.wk (-1)++[a])) r.au (-1)from⟨by omega,by simp;omega⟩),j,f];simp
theorem Xs (h:aI k) (m:aC k) (hd:k.dk.1=aa r) (n:(nL k.ca r.au r.ax).2=0):(cV (iA k.ca r.au r.ax) r.au).length<(cV k.ca r.au).length:=by
 have R:=h.dk.cZ r hd;have u:=h.jL _ R.ax;have w:=R.au;have p:=m.ca;have b:=R.v.au.1;have c:=R.v.ax.1;have g:bK k.ca r.au:=⟨b,by omega⟩;have q:bK k.ca r.ax:=⟨c,by omega⟩;obtain⟨i,e,x,s⟩:=h.ci.Sk r.au r.ax;rw[aj ⟨g,q⟩,af R.ne]at i e
 have d:bA (iR k.ca r.au) r.au=(bA k.ca r.au).tail:=by
  have:=wD (o:=k.ca.1) (L:=k.ca.2) (l:=(bA k.ca r.au).tail) ⟨b,by omega⟩ b;rw[aj rfl]at this;exact this
 cases f:bA k.ca r.au with
 | nil=>
  have j:(cP (df (bA k.ca r.au))).2=12:=by rw[f];rfl
  rw[i]at n
  omega
 | cons a l=>
  have j:cP (df (bA k.ca r.au))=(a,0):=by rw[f];rfl
  rw[j]at e;simp only[if_true]at e
  have t:bA (iA k.ca r.au r.ax) r.au=l:=by
   rw[Bk (ca:=(k.ca.1,(iR k.ca r.au).2.set r.ax.toNat (bA (iR k.ca r.au) r.ax++[a]))) e,wD ⟨c,by unfold iR;simp only[bN];omega⟩ b,af R.ne];show bA (iR k.ca r.au) r.au=l;rw[d,f];rfl
  unfold cV;rw[aj g,aj (show bK (iA k.ca r.au r.ax) r.au by unfold bK;rw[s];exact g),t,f];simp
theorem Zi (h:aI k) (A:aC k) (hd:k.dk.1=aa r) (ht:r.told=ag) (hg:k.ga.1.sum<=0) (hn:k.n<=9) (f:Int->Bool) {k':K}
  (c:k'=if qf k (r.now.1,r.now.2.1,ae) r.au r.ax then
   (if({r with told:=ae,aA:=if r.back then r.aA-1 else r.aA+1}:bd).over then{fm k (r.now.1,r.now.2.1,ae) r.au r.ax with dk:=(ah,f),ga:=((fm k (r.now.1,r.now.2.1,ae) r.au r.ax).ga.1,0)}
       else{fm k (r.now.1,r.now.2.1,ae) r.au r.ax with dk:=(aa {r with told:=ae,aA:=if r.back then r.aA-1 else r.aA+1},f)})
   else fm k (r.now.1,r.now.2.1,ae) r.au r.ax) :
  k'.dk.1=ah∨(∃r',k'.dk.1=aa r'/\gA k' r'<gA k r/\dA k' r'<=dA k r)∨(k'=k/\k.sp.1≠0/\iU k.sp=ae):=by
 have R:=h.dk.cZ r hd;have s:=R.over;have o:=R.v.st;have W:=R.v.aA;have D:jS k.dk=r.up:=by unfold jS;rw[hd]
 rw[EW R.over]at c;rw[mc]at s;have wid:∀(X:K) (q:bd),q.ax=r.ax->X.co=k.co->dA X q<=dA k r:=λX q p m=>by unfold dA;rw[p,m];exact aX _
 have x:∀(X:K) (q:bd) (b:Bool),q.ax=r.ax->X.co=iK k.co r.au b->dA X q<=dA k r:=λX q b p m=>by unfold dA;rw[p,m,Zm R.ne.symm];exact aX _
 rcases(by cases r.back<;>simp:r.back=ag∨r.back=ae)with j|j
 ·rw[j]at s;have Y:r.aA≠0:=by simpa using s
  simp only[aj j]at c;unfold qf fm at c;simp only[if_true,D]at c;by_cases d:r.aA=1
  ·rw[aj (by rw[mc];simp[j,d])]at c;exact .inl (by rw[c])
  ·rw[af (by rw[mc];simp[j];omega)]at c;refine .inr (.inl ⟨{r with told:=ae,aA:=r.aA-1},by rw[c],?_,?_⟩)
   ·rw[J7 _ j,J7 _ (r:={r with told:=ae,aA:=r.aA-1}) j];simp only;omega
   ·rw[c];unfold nU;split
    ·exact x _ _ ae rfl rfl
    ·split
     ·exact wid _ _ rfl rfl
     ·exact wid _ _ rfl rfl
 ·rw[j]at s;have Z:r.aA≠r.jj:=by simpa using s
  have M:¬r.back=ag:=by rw[j];decide
  have i:¬r.aA+1=r.jj->¬({r with told:=ae,aA:=r.aA+1}:bd).over=ag:=λN=>by rw[mc];simp[j];exact N
  have y:r.aA+1=r.jj->({r with told:=ae,aA:=r.aA+1}:bd).over=ag:=λN=>by rw[mc];simp[j];exact N
  simp only[af M]at c;unfold qf fm at c;simp only[fD,if_false,D]at c
  have u:r.up=ae->∀(X:K),X.co=k.co->fh (r.aA+1)+dD X {r with told:=ae,aA:=r.aA+1}<fh r.aA+dD k r->k'={X with dk:=(aa {r with told:=ae,aA:=r.aA+1},f)}->
    k'.dk.1=ah∨(∃r',k'.dk.1=aa r'/\gA k' r'<gA k r/\dA k' r'<=dA k r)∨(k'=k/\k.sp.1≠0/\iU k.sp=ae):=by
   intro g X t E e;refine .inr (.inl ⟨{r with told:=ae,aA:=r.aA+1},by rw[e],?_,?_⟩)
   ·rw[Bw _ j g,Bw _ (r:={r with told:=ae,aA:=r.aA+1}) j g,e];have m:dD {X with dk:=(aa {r with told:=ae,aA:=r.aA+1},f)} {r with told:=ae,aA:=r.aA+1}=dD X {r with told:=ae,aA:=r.aA+1}:=rfl;simp only at E⊢;omega
   ·rw[e];exact wid _ _ rfl t
  have F:r.up=ae->∀(X:K),X.co=k.co->X.dk=k.dk->dD X r<dD k r->k'=X->
    k'.dk.1=ah∨(∃r',k'.dk.1=aa r'/\gA k' r'<gA k r/\dA k' r'<=dA k r)∨(k'=k/\k.sp.1≠0/\iU k.sp=ae):=by
   intro g X t O E e;refine .inr (.inl ⟨r,by rw[e,O,hd],?_,?_⟩)
   ·rw[Bw _ j g,Bw _ j g,e];omega
   ·rw[e];exact wid _ _ rfl t
  by_cases C:r.aA=0
  ·rw[aj C,aj C]at c
   have P:¬r.aA+1=r.jj:=by
    rcases(by cases r.up<;>simp:r.up=ag∨r.up=ae)with g|g<;>rw[g]at o<;>simp at o<;>omega
   have Q:oP k.ga=0:=by
    unfold oP;rw[aj (R.g0 C).1,af (by omega)]
   rw[aj (decide_eq_true Q),af (i P)]at c;rcases(by cases r.up<;>simp:r.up=ag∨r.up=ae)with g|g
   ·refine .inr (.inl ⟨{r with told:=ae,aA:=r.aA+1},by rw[c],?_,?_⟩)
    ·rw[Fa _ j g,Fa _ (r:={r with told:=ae,aA:=r.aA+1}) j g];simp only;omega
    ·rw[c];exact wid _ _ rfl rfl
   ·refine u g {k with ga:=oQ k.ga} rfl ?_ c;rw[XO k C,Ov _ (r:={r with told:=ae,aA:=r.aA+1}) (by simp only;omega)];omega
  ·rw[af C,af C]at c;rcases(by cases r.up<;>simp:r.up=ag∨r.up=ae)with g|g
   ·rw[aj g,aj g,aj (show ag=ag from rfl)]at c;rw[g]at o;simp only[if_true]at o;have S:r.aA=1∨r.aA=2∨r.aA=3:=by omega
    have up:∀(X:K),dA X {r with told:=ae,aA:=r.aA+1}<=dA k r->k'={X with dk:=(aa {r with told:=ae,aA:=r.aA+1},f)}->∃r',k'.dk.1=aa r'/\gA k' r'<gA k r/\dA k' r'<=dA k r:=by
     intro X hX e;refine⟨{r with told:=ae,aA:=r.aA+1},by rw[e],?_,by rw[e];exact hX⟩;rw[Fa _ j g,Fa _ (r:={r with told:=ae,aA:=r.aA+1}) j g];simp only;omega
    rcases S with d|d|d
    ·rw[af (i (by omega))]at c;have e:nz k r.aA r.au={k with co:=iK k.co r.au ag}:=by rw[d];rfl
     rw[e]at c;exact .inr (.inl (up _ (x _ _ ag rfl rfl) c))
    ·rw[af (i (by omega))]at c;have e:nz k r.aA r.au={k with st:=jT k.st r.au}:=by rw[d];rfl
     rw[e]at c;exact .inr (.inl (up {k with st:=jT k.st r.au} (wid _ _ rfl rfl) c))
    ·rw[aj (y (by omega))]at c;exact .inl (by rw[c])
   ·have T:¬r.up=ag:=by rw[g];decide
    simp only[af T]at c;rw[g]at o;simp only[fD,if_false]at o;have S:r.aA=1∨r.aA=2∨r.aA=3∨r.aA=4∨r.aA=5∨r.aA=6∨r.aA=7∨r.aA=8∨r.aA=9:=by omega
    have G:2<=r.aA->hs k.ac r.au=ae:=λh2=>(xh R g h2).2;rcases S with d|d|d|d|d|d|d|d|d
    ·rw[aj (show iO k r.aA r.au r.ax=ag by rw[d];rfl),af (i (by omega)),show fO k r.aA r.au r.ax={k with ac:=ls k.ac r.au} by rw[d];rfl]at c;refine u g {k with ac:=ls k.ac r.au} rfl ?_ c;have:=ET h A r.au;rw[Ov k d,Ow _ (r:={r with told:=ae,aA:=r.aA+1}) (by simp only;omega)];show 140+(bT k.rq r.au).length<173;omega
    ·have p:iO k r.aA r.au r.ax=(bT k.rq r.au).isEmpty:=by rw[d];rfl
     have m:fO k r.aA r.au r.ax=iL k r.au:=by rw[d];rfl
     rw[p,m]at c
     cases B:bT k.rq r.au with
     | nil=>
      have U:iL k r.au=k:=by unfold iL;rw[B]
      rw[aj (by rw[B];rfl),af (i (by omega)),U]at c;refine u g k rfl ?_ c;have:=Ul A r.au;rw[Ow k d,B,Dl _ (r:={r with told:=ae,aA:=r.aA+1}) (by simp only;omega)];show 91+o9 k r.au<140+0
      omega
     | cons a l=>
      rw[af (by simp[B])]at c;have e4:(iL k r.au).co=k.co:=by unfold iL;rw[B];rfl
      have e5:(iL k r.au).dk=k.dk:=by unfold iL;rw[B];rfl
      refine F g _ e4 e5 ?_ c;have:=Yl h A B (G (by omega));unfold dD;rw[aj d,aj d];omega
    ·have p:iO k r.aA r.au r.ax=decide ((j8 k.tm r.au r.ax).2≠0):=by rw[d];rfl
     have m:fO k r.aA r.au r.ax={k with tm:=gV k.tm r.au r.ax}:=by rw[d];rfl
     rw[p,m]at c;by_cases hm:(j8 k.tm r.au r.ax).2=0
     ·rw[af (by simp[hm])]at c;refine F g {k with tm:=gV k.tm r.au r.ax} rfl rfl ?_ c;have:=agP h A hd hm;have V:=Dl k d;have H:=Dl {k with tm:=gV k.tm r.au r.ax} d;omega
     ·rw[aj (decide_eq_true hm),af (i (by omega))]at c;refine u g {k with tm:=gV k.tm r.au r.ax} rfl ?_ c;have:=FW A r.au;rw[Dl k d,Dm _ (r:={r with told:=ae,aA:=r.aA+1}) (by simp only;omega)];show 58+(b8 k.wk r.au).length<91+o9 k r.au;omega
    ·have p:iO k r.aA r.au r.ax=decide ((pf k.wk r.au).2≠0):=by rw[d];rfl
     have m:fO k r.aA r.au r.ax={k with wk:=mr k.wk r.au}:=by rw[d];rfl
     rw[p,m]at c;by_cases hm:(pf k.wk r.au).2=0
     ·rw[af (by simp[hm])]at c;refine F g {k with wk:=mr k.wk r.au} rfl rfl ?_ c;have:=alv h A hd hm;have V:=Dm k d;have H:=Dm {k with wk:=mr k.wk r.au} d;simp only at H;omega
     ·rw[aj (decide_eq_true hm),af (i (by omega))]at c;refine u g {k with wk:=mr k.wk r.au} rfl ?_ c;have:=De h r.au;rw[Dm k d,Dn _ (r:={r with told:=ae,aA:=r.aA+1}) (by simp only;omega)];show 25+(cV k.ca r.au).length<58+(b8 k.wk r.au).length;omega
    ·have p:iO k r.aA r.au r.ax=decide ((nL k.ca r.au r.ax).2≠0):=by rw[d];rfl
     have m:fO k r.aA r.au r.ax={k with ca:=iA k.ca r.au r.ax}:=by rw[d];rfl
     rw[p,m]at c;by_cases hm:(nL k.ca r.au r.ax).2=0
     ·rw[af (by simp[hm])]at c;refine F g {k with ca:=iA k.ca r.au r.ax} rfl rfl ?_ c;have:=Xs h A hd hm;have V:=Dn k d;have H:=Dn {k with ca:=iA k.ca r.au r.ax} d;simp only at H;omega
     ·rw[aj (decide_eq_true hm),af (i (by omega))]at c;refine u g {k with ca:=iA k.ca r.au r.ax} rfl ?_ c;rw[Dn k d,Ox {k with ca:=iA k.ca r.au r.ax} (r:={r with told:=ae,aA:=r.aA+1}) (by simp only;omega) (mh R (.inr (.inr (.inl (by omega)))))];omega
    ·have p:iO k r.aA r.au r.ax=tH k:=by rw[d];rfl
     have m:fO k r.aA r.au r.ax=nD k r.au r.ax:=by rw[d];rfl
     rw[p,m]at c;unfold tH nD at c;by_cases z:k.sp.1=0
     ·rw[aj z,af (by rw[z];simp)]at c;refine F g {k with sp:=(o6 k.sp (ls (wi k.ac r.au) r.ax)).2} rfl rfl ?_ c;have w:0<=r.au/\r.au<64:=R.v.au
      have I:ls (wi k.ac r.au) r.ax≠0:=λe=>by
       have:hs (ls (wi k.ac r.au) r.ax) r.au=ag:=by rw[iM,oT];simp[w,R.ne]
       rw[e,je]at this;cases this
      have U:(o6 k.sp (ls (wi k.ac r.au) r.ax)).2.1≠0:=by unfold o6;rw[aj z,af I];exact I
      have:=TK {k with sp:=(o6 k.sp (ls (wi k.ac r.au) r.ax)).2};simp only at this;have V:=Ox k d z;have H:=Hj {k with sp:=(o6 k.sp (ls (wi k.ac r.au) r.ax)).2} d U;omega
     ·rw[af z]at c;by_cases L:iU k.sp=ag
      ·rw[aj (by rw[L,lR];simpa using z),aj L,af (i (by omega))]at c
       have t:∀(l:List Int) (X:K),(l.foldl (λk n=>iw k n r.au) X).co=X.co:=by
        intro l
        induction l with
        | nil=>intro X;rfl
        | cons a l ih=>intro X;rw[nm,ih];rfl
       refine u g _ ?_ ?_ c
       ·exact t _ _
       ·rw[Hj k d z,Oy _ (r:={r with told:=ae,aA:=r.aA+1}) (by simp only;omega)];omega
      ·have J:iU k.sp=ae:=by simpa using L
       rw[af (by rw[J];simp),af L]at c;exact .inr (.inr ⟨c,z,J⟩)
    ·rw[aj (show iO k r.aA r.au r.ax=ag by rw[d];rfl),af (i (by omega)),show fO k r.aA r.au r.ax={k with st:=jT k.st r.au} by rw[d];rfl]at c;refine u g {k with st:=jT k.st r.au} rfl ?_ c;rw[Oy k d,Oz _ (r:={r with told:=ae,aA:=r.aA+1}) (by simp only;omega)];omega
    ·rw[aj (show iO k r.aA r.au r.ax=ag by rw[d];rfl),af (i (by omega)),show fO k r.aA r.au r.ax=k by rw[d];rfl]at c;refine u g k rfl ?_ c;rw[Oz k d,XP _ (r:={r with told:=ae,aA:=r.aA+1}) (by simp only;omega)];omega
    ·rw[aj (show iO k r.aA r.au r.ax=ag by rw[d];rfl),aj (y (by omega))]at c;exact .inl (by rw[c])
theorem fJ.Pd {k':K} (G:fJ k') (a:k'.dk.1=ah) (hd:k.dk.1=aa r):gz k'<gz k:=by
 rw[pZ a,q9 hd];have:=Su G.h G.S;have:=Ss k';have:=G.n9;omega
theorem agZ (G:fJ k) (m:fJ (jH k r.ax)) (hd:k.dk.1=aa r):gz (jH k r.ax)<gz k∨
  (jH k r.ax={k with dk:=(aa {r with told:=ag},k.dk.2)}/\k.sp.1≠0/\iU k.sp=ae):=by
 have R:=G.h.dk.cZ r hd;by_cases a:jd k.dk r=ag
 ·have e:=Uw (ax:=r.ax) hd R.over a;by_cases n:r.aA=0
  ·exact .inl (m.Pd (by rw[e,aj n]) hd)
  ·rw[af n]at e;left;rw[e,q9 (r:={r with told:=ag,back:=ag}) rfl,q9 hd,J7 _ (r:={r with told:=ag,back:=ag}) rfl]
   have b:r.back=ae:=by
    unfold jd at a;simp only[aY,ja]at a;have f1:=a.1.1;rw[EW R.over]at f1
    cases b:r.back with
    | false=>rfl
    | true=>rw[b]at f1;cases f1
   have o:=R.v.aA;have c:=R.v.st;have s:12<=gA k r:=by unfold gA;rw[b];simp
   have t:r.aA<=10:=by split at c<;>omega
   have u:dA {k with dk:=(aa {r with told:=ag,back:=ag},λj=>if j=r.now.1 then ae else k.dk.2 j)} {r with told:=ag,back:=ag}=dA k r:=rfl;simp only at u⊢;omega
 ·have e:=Ux (ax:=r.ax) hd R.over (by simpa using a);have d:aC {k with dk:=(aa {r with told:=ag},k.dk.2)}:=G.S.uF _;have f:({r with told:=ag}:bd).now=r.now:=by unfold bd.now;rfl
  have i:=Zi (k:={k with dk:=(aa {r with told:=ag},k.dk.2)}) (r:={r with told:=ag}) (k':=jH k r.ax) (G.h.told hd k.dk.2) d rfl rfl G.g G.n9 k.dk.2 (by rw[f];exact e);rcases i with w|⟨r',l,p,q⟩|⟨l,p,q⟩
  ·exact .inl (m.Pd w hd)
  ·left;rw[q9 l,q9 hd];have x:gA {k with dk:=(aa {r with told:=ag},k.dk.2)} {r with told:=ag}=gA k r:=rfl;have y:dA {k with dk:=(aa {r with told:=ag},k.dk.2)} {r with told:=ag}=dA k r:=rfl;omega
  ·exact .inr ⟨l,p,q⟩
theorem EG {k':K} (hd:k.dk.1=aa r) (a:k'.dk.1=aa r) (d:r.up=ae->2<=r.aA->(bT k'.rq r.au).length<=(bT k.rq r.au).length) (g:o9 k' r.au<=o9 k r.au)
  (h:(b8 k'.wk r.au).length<=(b8 k.wk r.au).length) (i:(cV k'.ca r.au).length<=(cV k.ca r.au).length) (b:k'.sp.1=k.sp.1) (f:sW k'<=sW k) {e:Nat} (hi:dA k' r+e<=dA k r):gz k'+e<=gz k:=by
 rw[q9 hd,q9 a]
 have:gA k' r<=gA k r:=by
  unfold gA;split
  ·exact aX _
  ·split
   ·exact aX _
   ·rename_i hu
    have c:dD k' r<=dD k r:=by
     unfold dD;rw[b];split
     ·have:=d (by simpa using hu) (by omega);omega
     split;omega;split;omega;split;omega;split
     ·split
      ·exact aX _
      ·omega
     ·exact aX _
    omega
 omega
theorem EH (R:sX k.n k.on k.ac k.ga.2 k.sp r) (hd:k.dk.1=aa r) (a:k.sp.1≠0):gz k=156+sW k+dA k r:=by
 obtain⟨b,c,d,_,_⟩:=R.tX a;rw[q9 hd,Bw _ c b];have:=Hj k d a;omega
theorem V4 (G:fJ k) (hd:k.dk.1=aa r) {c:Int} (z:0<=c/\c<k.n):Prog (bG k c) k c:=by
 have R:=G.h.dk.cZ r hd;have O:dS k.co c:=⟨z.1,by rw[G.S.co];exact z.2⟩;have I:∀d:Int,0<=d->d<k.n->hs k.on d=ag->(bg k.co d).pw=ag:=λd Z d1 h=>by rw[G.h.pw d Z d1];unfold gi;rw[h];rfl
 have u:(dY k c).2.2.1=decide (r.ax=c):=by
  show(dE k.dk&&decide (mO k.dk=c))=_;unfold dE mO;rw[hd];rfl
 have J:hs (b9 k.sp) r.ax=ae:=by
  by_cases o:k.sp.1=0
  ·unfold b9;rw[o,oS,je];rfl
  ·obtain⟨_,_,_,_,e⟩:=R.tX o;unfold b9;rw[e,oS,iM];simp
 have m:∀d,hs (b9 k.sp) d=ag->k.sp.1≠0/\hs k.on d=ag/\iU k.sp=ae:=by
  intro d g;have o:k.sp.1≠0:=λe=>by unfold b9 at g;rw[e,oS,je]at g;simp at g
  obtain⟨A,_,_,_,e⟩:=R.tX o;refine⟨o,?_,?_⟩
  ·have l:=g;unfold b9 at l;rw[e,oS,iM,oT]at l;simp only[aY,eT,decide_eq_true_eq]at l;rcases l.1.1 with l|⟨_,rfl⟩
   ·exact G.h.dk.ao d l
   ·rw[R.eb,A];rfl
  ·unfold iU;have:b9 k.sp≠0:=λe=>by rw[e,je]at g;cases g
   rw[show(b9 k.sp==0)=ae from beq_false_of_ne this,Bool.and_false]
 have x:∀(k':K) (r':bd),k'.dk.1=aa r'->r'.ax=r.ax->k'.sp=k.sp->∀d,Rp k d->Rp k' d:=by
  intro k' r' P Q e d f;rw[u6 hd]at f;rw[u6 P,e,Q];exact f
 rcases Ub G.h G.S z with⟨e,a⟩|⟨p,i,e⟩|⟨p,i,a⟩
 ·rw[e];refine Prog.keep (aX _) (λf=>?_) (λd h=>h);rw[u6 hd]at f;split at f
  ·rcases a with a|⟨a,_⟩|⟨a,_⟩
   ·rw[I c z.1 z.2 (m c f).2.1]at a;cases a
   ·rw[f]at a;cases a
   ·rw[f]at a;cases a
  ·subst f;rw[decide_eq_true rfl]at u;rcases a with a|⟨_,a,_⟩|⟨_,a,_⟩
   ·rw[I _ z.1 z.2 (G.h.dk.ao _ R.ax)]at a;cases a
   ·rw[u]at a;cases a
   ·rw[u]at a;cases a
 ·rw[e];have hi:=λd=>US (d:=d) O G.t i;have B:sW {k with co:=eY k.co c k.now}<=sW k:=J8 (k':={k with co:=eY k.co c k.now}) rfl (λ_ h=>h) λd _ b=>(hi d b).1;have L:∀{e:Nat},dA {k with co:=eY k.co c k.now} r+e<=dA k r->gz {k with co:=eY k.co c k.now}+e<=gz k:=λQ=>EG (k':={k with co:=eY k.co c k.now}) hd hd (λ_ _=>aX _) (aX _) (aX _) (aX _) rfl B Q
  have T:dA {k with co:=eY k.co c k.now} r<=dA k r:=by
   unfold dA;simp only;split
   ·rename_i l;rw[aj (hi _ l).1];exact aX _
   ·exact cB _
  by_cases j:c=r.ax
  ·refine Prog.lt ?_
   have:=L (e:=1) (by
    unfold dA;simp only;rw[af (λl=>(hi _ l).2 j.symm),<-j,aj i];exact aX _)
   omega
  ·by_cases C:hs (b9 k.sp) c=ag
   ·refine Prog.lt ?_;have o:=(m c C).1;have al:=ad6 (k:=k) (k':={k with co:=eY k.co c k.now}) rfl rfl z C i hi;have e1:=EH R hd o;have U:=EH (k:={k with co:=eY k.co c k.now}) R hd o;omega
   ·refine Prog.keep (L (e:=0) T) (λf=>?_) (x _ r hd rfl rfl);rw[u6 hd]at f;split at f
    ·exact C f
    ·exact j f
 ·rcases a with⟨F,e⟩|⟨F,l,e⟩|⟨F,l,ha,a⟩
  ·rw[e];obtain⟨a1,X,a3⟩:=ad5 z G.S.n.2 F;have o:=(m c F).1;refine Prog.lt ?_;have e1:=EH R hd o;have R':sX k.n k.on k.ac k.ga.2 (lC k.sp c).2 r:=⟨R.v,R.over,R.ne,R.ax,R.au,R.eb,R.g0,R.g1,R.mD,by rw[X];exact R.tX⟩;have U:=EH (k:={k with sp:=(lC k.sp c).2}) R' hd (by rw[show({k with sp:=(lC k.sp c).2}:K).sp.1=k.sp.1 from X];exact o);have e3:dA {k with sp:=(lC k.sp c).2} r=dA k r:=rfl;omega
  ·rw[u]at l;have j:=aL l;subst j;have Y:=G.step r.ax;rw[e]at Y⊢;rcases agZ G Y hd with ht|⟨U,o,f⟩
   ·exact Prog.lt ht
   ·rw[U];refine Prog.keep (bF ?_) (λM=>?_) (x _ {r with told:=ag} rfl rfl rfl)
    ·rw[q9 (r:={r with told:=ag}) rfl,q9 hd];rfl
    ·rw[u6 hd,aj ⟨o,f⟩,J]at M;cases M
  ·rw[u]at l;have j:¬r.ax=c:=aT l
   have D:¬Rp k c:=λf=>by
    rw[u6 hd]at f;split at f
    ·rw[F]at f;cases f
    ·exact j f.symm
   have V:r.up=ae->2<=r.aA->r.au≠c:=λA N e=>by
    have:=(xh R A N).2;rw[e,ha]at this;cases this
   rcases a with s|⟨_,e|e⟩
   ·refine Prog.keep (EG (e:=0) hd (by rw[s.dk];exact hd) (λA N=>s.ql _ (xh R A N).2) (s.tl _) (s.less.w _) (s.less.c _) (by rw[s.sp]) (J8 s.n (λd b=>by rw[s.sp]at b;exact b) (λd _ b=>by rw[s.co]at b;exact b)) (by unfold dA;rw[s.co];exact aX _)) D (x _ r (by rw[s.dk];exact hd) rfl s.sp)
   ·rw[e];refine Prog.keep (EG (k':={k with rq:=o5 k.rq c}) (e:=0) hd hd (λA N=>bF (congrArg gu ?_)) (aX _) (aX _) (aX _) rfl (aX _) (aX _)) D (x _ r hd rfl rfl);have am:=V A N;have c0:=R.v.au.1;simp only;unfold o5;split
    ·rename_i W;unfold bT;by_cases H:dZ k.rq r.au
     ·have E:dZ (k.rq.set c.toNat (ly (gR k.rq c))) r.au:=by unfold dZ at H⊢;rw[bN];exact H
      rw[aj H,aj E];unfold dZ at W
      have e:gR (k.rq.set c.toNat (ly (gR k.rq c))) r.au=gR k.rq r.au:=by
       generalize ly (gR k.rq c)=y;unfold gR;rw[aO,aO,List.getElem?_set_ne (by omega)]
      rw[e]
     ·have E:¬dZ (k.rq.set c.toNat (ly (gR k.rq c))) r.au:=by unfold dZ at H⊢;rw[bN];exact H
      rw[af H,af E]
    ·rfl
   ·rw[e];have B:sW (qU k c)<=sW k:=J8 (k':=qU k c) rfl (λ_ h=>h) λd g b=>(JU b).elim id λe=>by rw[e,F]at g;cases g
    refine Prog.keep (EG (k':=qU k c) (e:=0) hd hd (λ_ _=>aX _) (aX _) (aX _) (aX _) rfl B ?_) D (x _ r hd rfl rfl);unfold dA;split
    ·rename_i b;rcases JU (show(bg (mN k.co c _ k.now) r.ax).idle=ag from b)with q|q
     ·rw[aj q];exact aX _
     ·exact absurd q j
    ·exact cB _
theorem fJ.prog (G:fJ k) {c:Int} (a:0<=c/\c<k.n):Prog (bG k c) k c:=by
 cases hd:k.dk.1 with
 | none=>exact YY G hd a
 | some r=>exact V4 G hd a
def di (k:K):Bool:=!dE k.dk&&decide ((b8 k.wk (-1)).length=0)&&(bU k.n).all (λc:Nat=>decide ((b8 k.wk (c:Int)).length=0)&&decide ((cV k.ca (c:Int)).length=0)&&!lB k.tm (c:Int))&&!(gP k.ir).any (dG k.ir)
theorem fJ.ax (G:fJ k) (b:di k=ae):∃c:Int,(0<=c/\c<k.n)/\Rp k c:=by
 cases hd:k.dk.1 with
 | some r=>
  have R:=G.h.dk.cZ r hd;by_cases hw:k.sp.1≠0/\iU k.sp=ae
  ·have x:b9 k.sp≠0:=λe=>by
    have:=hw.2;unfold iU at this;rw[e]at this;simp at this;exact hw.1 this
   have y:=AD x;refine⟨(fY (b9 k.sp)).1,⟨(jV y).1,?_⟩,by rw[u6 hd,aj hw];exact y⟩;obtain⟨C,_,_,_,e⟩:=R.tX hw.1;have o:=y;generalize (fY (b9 k.sp)).1=d at o⊢;unfold b9 at o;rw[e,oS,iM,oT]at o;simp only[aY,eT,decide_eq_true_eq]at o;rcases o.1.1 with o|⟨_,rfl⟩
   ·exact G.h.jL d o
   ·exact R.au
  ·exact⟨r.ax,⟨R.v.ax.1,G.h.jL _ R.ax⟩,by rw[u6 hd,af hw]⟩
 | none=>
  have act:∀{s c:Int},bS k.ac k.dk s c->hs k.ac c=ag:=λh=>h.none_ hd;have go:∀c:Int,hs k.ac c=ag->l5 k c=ag->∃c:Int,(0<=c/\c<k.n)/\Rp k c:=λc q u=>⟨c,⟨(jV q).1,G.h.jL c q⟩,by rw[rk hd];exact⟨q,u⟩⟩;have z:dE k.dk=ae:=by unfold dE;rw[hd];rfl
  have A:=G.S.jI
  have pos:∀{l:List Int},¬l.length=0->∃v,v∈l:=λ{l} h=>by
   cases l with
   | nil=>exact absurd rfl h
   | cons a l=>exact⟨a,by simp⟩
  unfold di at b;rw[z]at b;simp only[tc,dR,Bool.and_eq_false_iff,decide_eq_false_iff_not,List.all_eq_false,cD,Bool.not_eq_false',mF]at b;rcases b with(b|⟨c,D,b⟩)|⟨m,E,b⟩
  ·have B:=AD G.h.dk.an;exact go _ B (by unfold l5;rw[eT];exact .inr (decide_eq_true (by omega)))
  ·simp only[Bool.not_eq_true,Bool.and_eq_false_iff,decide_eq_false_iff_not,Bool.not_eq_false']at b;rcases b with(b|b)|b
   ·obtain⟨v,j⟩:=pos b;have f:v∈da k.wk (c:Int):=by unfold b8 at j;rw[aj ⟨by omega,by omega⟩]at j;exact j
    exact go c (act (G.h.w _ v (by omega) f)) (by unfold l5;rw[eT];exact .inr (decide_eq_true (by omega)))
   ·obtain⟨v,j⟩:=pos b
    have f:v∈bA k.ca (c:Int):=by
     unfold cV at j;split at j
     ·exact j
     ·cases j
    exact go c (act (G.h.c _ v (by omega) f)) (by unfold l5;rw[eT,eT,eT];exact .inl (.inl (.inl (decide_eq_true (by omega)))))
   ·obtain⟨_,t,p,q,u,F⟩:=JR.1 b;have:=act (G.h.t t p q);rw[u]at this;exact go c this (by unfold l5;rw[b];simp)
  ·have g:=JS b;obtain⟨c,q,u⟩:=G.h.i m g.1.1 g.1.2 g.2;refine go c (act u) ?_;have:(na k c).2=ag:=KX.2 ⟨m,fF.2 ⟨g.1.1,by omega,by unfold su;rw[q];simp⟩,b⟩;unfold l5;rw[this];simp
theorem Yt (n:Nat):qn bG di n (λk=>fJ k/\k.n=n) gz Rp where
 inv:=λs c h _=>⟨h.1.step c,by rw[A5];exact h.2⟩
 le:=λs c h a=>(h.1.prog (by rw[h.2];exact a)).1
 ax:=λs h b=>by obtain⟨c,g,i⟩:=h.1.ax b;exact⟨c,by rw[<-h.2];exact g,i⟩
 keep:=λs c d h a hd e f=>(h.1.prog (c:=d) (by rw[h.2];exact hd)).2.2 c (Ne.symm f) e
 down:=λs c h a e=>(h.1.prog (by rw[h.2];exact a)).2.1 e
theorem fJ.acx (G:fJ k):gz k<500:=by
 cases hd:k.dk.1 with
 | none=>
  rw[pZ hd];have:=Su G.h G.S;have:=Ss k;have:=G.n9
  omega
 | some r=>
  rw[q9 hd];have R:=G.h.dk.cZ r hd;have a:=R.v.st;have b:=R.v.aA;have d:dA k r<=1:=by unfold dA;split<;>omega
  have e:gA k r<=200:=by
   unfold gA;split
   ·split at a<;>omega
   ·split
    ·omega
    ·have f:fh r.aA<=173:=by
      unfold fh;repeat' split
      all_goals omega
     have c:fh r.aA+dD k r<=188:=by
      have g:=ET G.h G.S r.au;have i:=Ul G.S r.au;have j:=FW G.S r.au;have l:=De G.h r.au;have m:=TK k;have n:=G.n9;unfold fh dD
      repeat' split
      all_goals omega
     omega
  omega
theorem fJ.As (G:fJ k):(eZ bG di (fS k.n (500*k.n)) k).2.2=ag:=
 (Yt k.n).As (by have:=G.S.n;omega) ⟨G,rfl⟩ G.acx
end
section
variable {b:Nat} {W w:World} {F:Fp} {k:K} {q:KQ}
theorem qS (j:ai (KF b q) W w F k):Cx 72 #[pt b] w λe w'=>(∃s n c,e=Z (.agg #[pt q.th,pt q.rq,pt q.tm,pt q.ir,pt q.rt,pt q.wk,pt q.ca,pt q.st,pt q.sc,pt q.ga,pt q.so,pt q.dk,pt q.co,pt q.me,.slice s n c]))/\av no w w':=by
 refine u72 ?_;refine⟨λw1 d=>⟨λg=>(by cases g),λ_=>?_⟩⟩;have hB:=KF.ay (j.ak (d.ak no));unfold mS at hB;refine⟨_,rfl,_,hB.aE rfl,_,hB.aE rfl,_,hB.aE rfl,_,hB.aE rfl,_,hB.aE rfl,_,hB.aE rfl,_,hB.aE rfl,_,hB.aE rfl,_,hB.aE rfl,_,hB.aE rfl,_,hB.aE rfl,_,hB.aE rfl,_,hB.aE rfl,_,hB.aE rfl,_,_,_,hB.aE rfl,?_⟩;refine d.aK.gF (by simp) λl f=>?_;have m:av no w l:=(d.ak no).trans (av.mono (G:=λi=>i=w.heap.size) f.U (λ_ _ h=>h)) (λi hi h=>by omega);have a:=f.aK;exact⟨_,a.cell rfl,_,a.cell rfl,_,a.cell rfl,_,a.cell rfl,_,a.cell rfl,_,a.cell rfl,_,a.cell rfl,_,a.cell rfl,_,a.cell rfl,_,a.cell rfl,_,a.cell rfl,_,a.cell rfl,_,a.cell rfl,_,a.cell rfl,_,_,_,a.cell rfl,⟨_,_,_,rfl⟩,m⟩
theorem aah (a:ai (KF b q) W w F k):Cx 19 #[pt b] w λe w'=>e=Z (pt q.ga)/\av no w w':=by
 refine u19 ?_;refine⟨(qS a).mono ?_⟩;rintro e w1 ⟨⟨s,n,c,rfl⟩,d⟩;exact⟨_,_,_,_,_,_,_,_,_,_,_,_,_,_,_,_,_,rfl,rfl,d⟩
theorem AR (a:ai (KF b q) W w F k):Cx 98 #[pt b] w λe w'=>e=Z (pt q.dk)/\av no w w':=by
 refine u98 ?_;refine⟨(qS a).mono ?_⟩;rintro e w1 ⟨⟨s,n,c,rfl⟩,d⟩;exact⟨_,_,_,_,_,_,_,_,_,_,_,_,_,_,_,_,_,rfl,rfl,d⟩
theorem I8 (a:ai (KF b q) W w F k):Cx 92 #[pt b] w λe w'=>e=Z (pt q.wk)/\av no w w':=by
 refine u92 ?_;refine⟨(qS a).mono ?_⟩;rintro e w1 ⟨⟨s,n,c,rfl⟩,d⟩;exact⟨_,_,_,_,_,_,_,_,_,_,_,_,_,_,_,_,_,rfl,rfl,d⟩
theorem RB (a:ai (KF b q) W w F k):Cx 94 #[pt b] w λe w'=>e=Z (pt q.ca)/\av no w w':=by
 refine u94 ?_;refine⟨(qS a).mono ?_⟩;rintro e w1 ⟨⟨s,n,c,rfl⟩,d⟩;exact⟨_,_,_,_,_,_,_,_,_,_,_,_,_,_,_,_,_,rfl,rfl,d⟩
theorem I7 (a:ai (KF b q) W w F k):Cx 30 #[pt b] w λe w'=>e=Z (pt q.tm)/\av no w w':=by
 refine u30 ?_;refine⟨(qS a).mono ?_⟩;rintro e w1 ⟨⟨s,n,c,rfl⟩,d⟩;exact⟨_,_,_,_,_,_,_,_,_,_,_,_,_,_,_,_,_,rfl,rfl,d⟩
theorem I3 (a:ai (KF b q) W w F k):Cx 173 #[pt b] w λe w'=>e=Z (pt q.ir)/\av no w w':=by
 refine aie ?_;refine⟨(qS a).mono ?_⟩;rintro e w1 ⟨⟨s,n,c,rfl⟩,d⟩;exact⟨_,_,_,_,_,_,_,_,_,_,_,_,_,_,_,_,_,rfl,rfl,d⟩
theorem I2 (a:ai (KF b q) W w F k):Cx 83 #[pt b] w λe w'=>e=Z (I (k.n:Int))/\w'=w:=by
 refine u83 ?_;exact⟨λg=>(by cases g),λ_=>⟨_,rfl,_,(KF.ay a).cell rfl,rfl,rfl⟩⟩
theorem Rz (h:ai (KO b) W w F k):Cx 16 #[pt b] w λe w'=>e=Z (.int .u64 (mi k.ac))/\w'=w:=by
 obtain⟨q,a⟩:=KO.fix h;refine u16 ?_;exact⟨λg=>(by cases g),λ_=>⟨_,rfl,_,(KF.ay a).cell rfl,rfl,rfl⟩⟩
theorem aaw (f:ai (KF b q) W w F k):0<=k.ga.1.sum/\∀w',av no w w'->Cx 19 #[pt b] w' λe w1=>e=Z (pt q.ga)/\av no w' w1/\∃F1,gr q.ga w1 F1 k.ga:=by
 obtain⟨F1,hA,_⟩:=KF.ga f
 have c:∀(l:List Int),(∀v∈l,0<=v)->0<=l.sum:=λl=>by
  induction l with
  | nil=>intro _;exact fU _
  | cons a l j=>
   intro h;have:=j λv m=>h v (by simp[m]);have:=h a (by simp);rw[s9];omega
 refine⟨c _ hA.2.pos,λw' i=>(aah (f.ak i)).mono ?_⟩;rintro e w1 ⟨rfl,d⟩;obtain⟨F2,g,_⟩:=KF.ga ((f.ak i).ak d);exact⟨rfl,d,F2,g⟩
theorem Yy {s:ch} (h:cW b w F s) {p:Option Addr} {l:List Int} {c:Nat} (d:Cells w p (l.map (aB .i64))) (f:l.length<=1000) :
  Cx 172 #[.slice p l.length c,.func (.func 175) #[pt b] #[]] w λe w'=>e=Z (.bool (l.any (dG s)))/\w'=w:=by
 refine aid ?_;refine⟨(P9 h d f).mono ?_⟩;rintro e w1 ⟨⟨i,hi,a,rfl⟩|⟨a,rfl⟩,rfl⟩
 ·have:l.any (dG s)=ag:=mF.2 ⟨l[i],cx hi,pI a⟩;refine⟨_,rfl,?_,rfl⟩;rw[this,decide_eq_true (by omega)]
 ·have:l.any (dG s)=ae:=List.any_eq_false.2 (kt.1 a);refine⟨_,rfl,?_,rfl⟩;rw[this];rfl
def uZ (k:K) (c:Int):Bool:=decide ((b8 k.wk c).length=0)&&decide ((cV k.ca c).length=0)&&!lB k.tm c
theorem YU (a:ai (KF b q) W w F k) (c:Int):Cx 171 #[pt b,I c] w λe w'=>e=Z (.bool (uZ k c))/\av no w w':=by
 refine aic ?_;unfold uZ;refine⟨(I8 a).mono ?_⟩;rintro e w1 ⟨rfl,j⟩;replace a:=a.ak j;obtain⟨F1,r,_⟩:=KF.wk a;refine⟨_,rfl,⟨(FX r c).mono ?_⟩⟩;rintro e x ⟨rfl,l⟩;replace a:=a.ak l;have d:=j.trans l (λ_ _ h=>h);refine⟨_,rfl,λg=>⟨(RB a).mono ?_⟩,λg=>⟨?_,d⟩⟩
 ·have g:(b8 k.wk c).length=0:=by simpa using g
  rw[decide_eq_true g,dR];rintro e y ⟨rfl,m⟩;replace a:=a.ak m;have n:=d.trans m (λ_ _ h=>h);obtain⟨F2,s,_⟩:=KF.ca a;refine⟨_,rfl,⟨(Of s c).mono ?_⟩⟩;rintro e z ⟨rfl,o⟩;replace a:=a.ak o;have f:=n.trans o (λ_ _ h=>h);refine⟨_,rfl,λi=>⟨(I7 a).mono ?_⟩,λi=>⟨?_,f⟩⟩
  ·have i:(cV k.ca c).length=0:=by simpa using i
   rw[decide_eq_true i,dR];rintro e A ⟨rfl,p⟩;replace a:=a.ak p;obtain⟨F3,t,_⟩:=KF.tm a;refine⟨_,rfl,⟨(Ut t c).mono ?_⟩⟩;rintro e B ⟨rfl,u⟩;exact⟨_,rfl,rfl,(f.trans p (λ_ _ h=>h)).trans u (λ_ _ h=>h)⟩
  ·have i:¬(cV k.ca c).length=0:=by simpa using i
   rw[decide_eq_false i];rfl
 ·have g:¬(b8 k.wk c).length=0:=by simpa using g
  rw[decide_eq_false g];rfl
theorem Pz (h:ai (KO b) W w F k):Cx 79 #[pt b] w λe w'=>e=Z (.bool (di k))/\av no w w':=by
 obtain⟨q,a⟩:=KO.fix h;refine u79 ?_;refine⟨λ_=>⟨(AR a).mono ?_⟩,λg=>(by cases g)⟩;rintro e w1 ⟨rfl,r⟩;replace a:=a.ak r;obtain⟨F1,D,_⟩:=KF.dk a;refine⟨_,rfl,⟨(uK D).mono ?_⟩⟩;rintro e T ⟨rfl,rfl⟩;refine⟨_,rfl,λg=>⟨(I8 a).mono ?_⟩,λg=>⟨?_,r⟩⟩
 ·rintro e V ⟨rfl,u⟩;replace a:=a.ak u;have x:=r.trans u (λ_ _ h=>h);obtain⟨F2,E,_⟩:=KF.wk a;refine⟨_,rfl,⟨(FX E (-1)).mono ?_⟩⟩;rintro e X ⟨rfl,y⟩;replace a:=a.ak y;have l:=x.trans y (λ_ _ h=>h);refine⟨_,rfl,λt=>⟨?_,l⟩,λt=>⟨(I2 a).mono ?_⟩⟩
  ·have t:=aL t;unfold di;rw[decide_eq_false (show ¬(b8 k.wk (-1)).length=0 by omega)];simp
  ·have t:(b8 k.wk (-1)).length=0:=by have:=aT t;omega
   rintro e Y ⟨rfl,rfl⟩;refine⟨_,rfl,⟨bO bu (M:=wZ) (σ:=Nat) (λi=>H7 (aa ⟨b,0,ah⟩) (k.n:Int) (i:Int)) (λi w'=>i<=k.n/\(∀j:Nat,j<i->uZ k (j:Int)=ag)/\av no w w'/\ai (KF b q) W w' F k) (λi _=>k.n-i) 0 ⟨rfl,rfl,rfl,trivial⟩ ⟨cB _,λj G=>by omega,l,a⟩ ?_⟩⟩;intro i w6 hI;have hi:=hI.1;have O:=hI.2.1;have P:=hI.2.2.1;have d:=hI.2.2.2;clear hI;rw[af8];refine⟨λz=>⟨(YU d (i:Int)).mono ?_⟩,λz=>aU.mk ?_⟩
   ·have z:=aL z;rintro e Q ⟨rfl,f⟩;have m:=P.trans f (λ_ _ h=>h);refine⟨_,rfl,λA=>⟨?_,m⟩,λA=>⟨i+1,⟨rfl,rfl,by rw[aP (by have:=(KF.num d).2;omega)]<;>rfl,trivial⟩,⟨by omega,λj G=>?_,m,d.ak f⟩,by omega⟩⟩
    ·have A:uZ k (i:Int)=ae:=by simpa using A
     unfold di;have:(bU k.n).all (λc:Nat=>uZ k (c:Int))=ae:=List.all_eq_false.2 ⟨i,cD.2 (by omega),by rw[A];decide⟩;unfold uZ at this;rw[this];simp
    ·by_cases e:j=i
     ·subst e;simpa using A
     ·exact O j (by omega)
   ·have z:=aT z;have o:(bU k.n).all (λc:Nat=>uZ k (c:Int))=ag:=fL.2 λj G=>O j (by have:=cD.1 G;omega);rw[af7];refine⟨(I3 d).mono ?_⟩;rintro e Q ⟨rfl,f⟩;have B:=d.ak f;obtain⟨F3,H,_⟩:=KF.ir B;refine⟨_,rfl,⟨(Jk H).mono ?_⟩⟩;rintro e w8 ⟨p,c,rfl,I⟩;have C:=B.ak I.U;refine⟨_,_,_,rfl,⟨(I3 C).mono ?_⟩⟩;rintro e w9 ⟨rfl,s⟩;have J:=C.ak s;obtain⟨F4,L,_⟩:=KF.ir J;refine⟨_,rfl,⟨(Yy L (I.S.cells.no s) (aW (BM _ _) (by omega))).mono ?_⟩⟩;rintro e R ⟨rfl,rfl⟩;refine⟨_,rfl,?_,((P.trans f (λ_ _ h=>h)).trans I.U (λ_ _ h=>h)).trans s (λ_ _ h=>h)⟩;have N:dE k.dk=ae:=g;unfold uZ at o;unfold di;rw[N,t,o];simp
 ·have N:dE k.dk=ag:=g;unfold di;rw[N];rfl
end
theorem XY {k:K} {c:Int} (a:0<=c/\c<k.n):cT k (1,c,0,0,0)=bG k c:=by
 unfold cT;rw[aj (show((1,c,0,0,0):cu).1=1 from rfl),af (show ¬(((1,c,0,0,0):cu).2.1<0∨(k.n:Int)<=((1,c,0,0,0):cu).2.1) by simp only;omega)]
theorem TD {n:Nat}:∀(l:List Int) {k:K},aC k->aC (gS bG l k)/\(gS bG l k).n=k.n
 | [],_,h=>⟨h,rfl⟩
 | c::l,k,h=>by
  have:=TD (n:=n) l (h.step c);exact⟨this.1,this.2.trans (A5 k c)⟩
set_option maxRecDepth 100000 in
theorem Yz {b:Nat} {W w:World} {F:Fp} {k:K} (s:Tab W) (H:¬F 0) (J:aC k) {p:Option Addr} {c:Nat} {l:List Int} (h:ai (aF (KO b) (Ls 3)) W w F (k,(p,c,l))) (T:l.length<=100000) (L:∀c∈l,0<=c/\c<(k.n:Int)) :
  Cx 21 #[pt b,.slice p l.length c] w λe w'=>e=Z (.tuple #[I ((eZ bG di l k).2.1:Int),I (if(eZ bG di l k).2.2 then 0 else 7)])/\ai (aF (KO b) (Ls 3)) W w' F ((eZ bG di l k).1,(p,c,l)):=by
 refine u21 ?_;refine⟨λg=>(by cases g),λ_=>⟨bO bu (M:=wR) (σ:=Nat) (λi=>HB (aa ⟨b,0,ah⟩) p l.length c p l.length c (l.length:Int) (i:Int)) (λi w'=>i<=l.length/\eZ bG di l k=((eZ bG di (l.drop i) (gS bG (l.take i) k)).1,(eZ bG di (l.drop i) (gS bG (l.take i) k)).2.1+i,(eZ bG di (l.drop i) (gS bG (l.take i) k)).2.2)/\ai (aF (KO b) (Ls 3)) W w' F (gS bG (l.take i) k,(p,c,l))) (λi _=>l.length-i) 0 ⟨rfl,rfl,rfl,rfl,rfl,trivial⟩ ⟨cB _,rfl,h⟩ ?_⟩⟩;intro i w1 hI;have hi:=hI.1;have hd:=hI.2.1;have r:=hI.2.2;clear hI;rw[afj];refine⟨λg=>?_,λg=>aU.mk ?_⟩
 ·have g:=aL g;have j:i<l.length:=by omega
  have N:Cells w1 p (l.map (aB .i64)):=by obtain⟨_,O,_⟩:=r.right;exact O.2.cells
  obtain⟨a,P,m⟩:=N.cv j;obtain⟨y,z⟩:=TD (n:=0) (l.take i) J;have A:=L l[i] (cx j);have t:l.drop i=l[i]::l.drop (i+1):=ku j;have u:gS bG (l.take (i+1)) k=bG (gS bG (l.take i) k) l[i]:=by rw[eW j,TE];rfl
  refine⟨⟨by omega,by omega⟩,a,P,_,m,⟨(Pz r.drop).mono ?_⟩⟩;rintro e Q ⟨rfl,o⟩;have f:=r.ak o;refine⟨_,rfl,λd=>?_,λd=>?_⟩
  ·have d:di (gS bG (l.take i) k)=ag:=d;have R:eZ bG di (l.drop i) (gS bG (l.take i) k)=(gS bG (l.take i) k,0,ag):=by rw[t];unfold eZ;rw[aj d]
   rw[R]at hd;rw[hd];refine⟨?_,f⟩;simp only[eU,if_true]
  ·have d:di (gS bG (l.take i) k)=ae:=d;obtain⟨F3,B,x,C,S⟩:=f.wo s H;refine⟨(wm (e:=(1,l[i],0,0,0)) x C (ai.same B) y.iW).mono ?_⟩;rintro e U ⟨V,X,rfl,G⟩;rw[XY (by rw[z];exact A),<-u]at G;have D:=S _ _ _ G.drop;refine⟨_,_,_,rfl,i+1,⟨rfl,rfl,rfl,rfl,by rw[aP (by omega)]<;>rfl,trivial⟩,⟨by omega,?_,D⟩,by omega⟩;rw[hd,t]
   conv=>lhs;unfold eZ
   rw[af (by rw[d];decide),u];simp only;refine lT rfl (lT ?_ rfl);simp only;omega
 ·have g:=aT g;have E:i=l.length:=by omega
  subst E;rw[afi];rw[List.drop_length,dC]at hd;rw[dC]at r;refine⟨(Pz r.drop).mono ?_⟩;rintro e Q ⟨rfl,o⟩;have f:=r.ak o;rw[hd];unfold eZ;refine⟨_,rfl,λd=>⟨?_,f⟩,λd=>⟨?_,f⟩⟩
  ·have d:di (gS bG l k)=ag:=d;simp only[d,eU,if_true]
  ·have d:di (gS bG l k)=ae:=d;simp only[d,eU];rfl
theorem Yw {n:Nat} (a:1<=n/\n<=64) (w:World):Cx 18 #[I (n:Int)] w λe w'=>e=Z (I ((500*n:Nat):Int))/\w'=w:=by
 refine u18 ?_;refine⟨λ_=>⟨λg=>by have:=aL g;omega,λ_=>⟨?_,rfl⟩⟩,λg=>by have:=aL g;omega⟩;rw[aP (by omega)];congr 2;omega
theorem ag1 (n i:Nat):fS n (i+1)=fS n i++[((i%n:Nat):Int)]:=by
 unfold fS;rw[nq,eI];rfl
theorem Uy (n i:Nat):(fS n i).length=i:=by simp[fS]
theorem Y0 {n:Nat} (o:1<=n) {m:Nat} (r:m<=100000) (w:World):Cx 17 #[I (n:Int),I (m:Int)] w λe w'=>∃p c,e=Z (.slice p (fS n m).length c)/\Loc w w' 3 p c (fS n m):=by
 refine u17 ?_;refine⟨bO bu (M:=BZ) (σ:=Nat×Option Addr×Nat) (λs=>Hu (n:Int) (m:Int) s.2.1 (fS n s.1).length s.2.2 (s.1:Int)) (λs w'=>s.1<=m/\Loc w w' 3 s.2.1 s.2.2 (fS n s.1)) (λs _=>m-s.1) (0,ah,0) ⟨rfl,rfl,rfl,rfl,trivial⟩ ⟨cB _,Loc.nil (av.refl _ _) _⟩ ?_⟩;rintro⟨i,p,c⟩ w1 ⟨hi,d⟩;simp only at hi d⊢;rw[ae7];refine⟨λg=>⟨by omega,⟨λt f=>?_⟩⟩,λg=>?_⟩
 ·have g:=aL g;have em:eH (i:Int) (n:Int)=((i%n:Nat):Int):=by rw[ot (by omega)];rfl
  rw[em]at f;have h:=Uy n i;obtain⟨p',c',l,j,a⟩:=d.push oJ (by omega) f 36;rw[<-ag1]at j a;exact⟨p',_,c',l,j,(i+1,p',c'),⟨rfl,rfl,rfl,by rw[aP (by omega)]<;>rfl,trivial⟩,⟨by simp only;omega,a⟩,by simp only;omega⟩
 ·have g:=aT g;have:i=m:=by omega
  subst this;exact⟨p,c,rfl,d⟩
theorem Kk {cs:List Int} {f:Int->List Int} {ax:Int->Int} {m:Nat} (h:∀c,(f c).length<=m):(cM cs f ax).length<=cs.length*m:=by
 induction cs with
 | nil=>simp[cM]
 | cons c cs a=>
  have e:cM (c::cs) f ax=((f c).map λid=>(id,c,ax id))++cM cs f ax:=rfl;rw[e,cG,bW,il,Nat.succ_mul];have:=h c;omega
theorem vN (f n:Nat):(cH f n).length=n+f:=by simp[cH]
theorem XG {f n i:Nat} (hi:i<n+f):(cH f n)[i]'(by rw[vN];exact hi)=(i:Int)-f:=by simp[cH]
theorem T9 {f n i:Nat} (hi:i<n+f) (g:Int->List Int) (ax:Int->Int):cM ((cH f n).take (i+1)) g ax=cM ((cH f n).take i) g ax++(g ((i:Int)-f)).map λid=>(id,(i:Int)-f,ax id):=by
 rw[eW (by rw[vN];exact hi),XG hi];unfold cM;rw[List.flatMap_append];simp
def CL (w:World) (q p:Option Addr) (cs:List Value):Prop:=Cells w q cs/\∀a v,q=aa a->v∈cs->¬bf p a.block
theorem CL.no {w w':World} {q p:Option Addr} {cs:List Value} (h:CL w q p cs) (k:av no w w'):CL w' q p cs:=⟨h.1.no k,h.2⟩
theorem eQ.EL {α:Type} {f:α->List Value} {sz:Nat} {W w:World} {T:TypeId} {p:Option Addr} {c:Nat} {l:List α} {P:Program} {t:TypeId} {bytes:Nat} {z:List Value} (h:eQ f sz W w T p c l) (E:eO P t T sz bytes z) (y:∀x,(f x).length=sz) (G:∀x,∀u∈f x,u.oneCell'=ag) (H:(l.length+1)*bytes<=140737488355328) (d:l.length<=1048576) {x:α} {v:List Value} (n:v=f x) {w1:World} {I:TypeId} (J:dy w w1 (.cells v.toArray I (0,0))) (ty:TypeId) {q:Option Addr} {cs:List Value} (o:CL w q p cs) :
  ∃p' c' g,(bR #[t,t] ty #[.slice p l.length c,.slice (aa ⟨w.heap.size,0,ah⟩) 1 1]).run P w1=.ok (.slice p' (l++[x]).length c') g/\eQ f sz W g T p' c' (l++[x])/\CL g q p' cs:=by
 subst n;obtain⟨p',c',g,L,M,B,C⟩:=LP E (G x) (y x) h.S H d J ty;refine⟨p',c',g,by rw[L];simp,⟨h.U.trans B (λi hi y=>absurd (h.F i y) (by omega)),by simpa using M,λi hi=>?_⟩,λj v r=>?_,λa v m n N=>?_⟩
 ·rcases C i hi with k|k
  ·exact h.F i k
  ·exact aW h.U.size k
 ·obtain⟨a,m,s⟩:=o.1 j v r;have d:=qH s;rw[uj]at d;refine⟨a,m,?_⟩;rw[<-s];exact uu (by rw[uj];exact B.ay _ d (o.2 a v m (List.mem_of_getElem? r)))
 ·obtain⟨j,r⟩:=List.getElem?_of_mem n;obtain⟨D,A,s⟩:=o.1 j v r;have e:D=a:=Option.some.inj (A.symm.trans m);subst e;have d:=qH s;rw[uj]at d;rcases C _ N with k|k
  ·exact o.2 D v m n k
  ·omega
theorem ab3 (id:Int) (w:World):Cx 84 #[I id] w λe w'=>e=Z (I 0)/\av no w w':=by
 refine u84 ?_;exact⟨rfl,av.refl _ _⟩
set_option maxRecDepth 100000 in
theorem Fw {w:World} {g:Nat} {G:Option Addr} (X:jx Tryz.prog g=ag) {of:Int->List Int} (m:∀c,(of c).length<=1000) (H:∀c w',av no w w'->Cx g #[.pointer G,I c] w' λe u=>∃p d,e=Z (.slice p (of c).length d)/\Cells u p ((of c).map (aB .i64))/\av no w' u/\∀j,bf p j->w'.heap.size<=j)
  {f n:Nat} (hf:f<=1) (hn:n<=64):Cx 87 #[I (-(f:Int)),I (n:Int),.func (.func g) #[.pointer G] #[],.func (.func 84) #[] #[]] w λe w'=>∃p c,e=Z (.slice p (cM (cH f n) of (λ_=>0)).length c)/\eQ dH 3 w w' 75 p c (cM (cH f n) of (λ_=>0)):=by
 have y:∀(id:Int) w1,av no w w1->Cx 84 #[I id] w1 λe w'=>e=Z (I 0)/\av no w1 w':=λid w1 _=>ab3 id w1;refine KU ?_;refine⟨bO bu (M:=dw) (σ:=Nat×Option Addr×Nat) (λs=>Ax (n:Int) g G s.2.1 (cM ((cH f n).take s.1) of (λ_=>0)).length s.2.2 ((s.1:Int)-f)) (λs w'=>s.1<=n+f/\eQ dH 3 w w' 75 s.2.1 s.2.2 (cM ((cH f n).take s.1) of (λ_=>0))) (λs _=>n+f-s.1) (0,ah,0) ⟨rfl,rfl,rfl,rfl,by simp<;>rfl,trivial⟩ ⟨cB _,eQ.nil (av.refl _ _) _⟩ ?_⟩;rintro⟨i,p1,c1⟩ w1 ⟨hi,t⟩;simp only at hi t⊢;rw[Kr];refine⟨λg1=>?_,λg1=>?_⟩
 ·have g1:=aL g1;have J:i<n+f:=by omega
  have o:=T9 J of (λ_=>0)
  have Y:(cM ((cH f n).take i) of (λ_=>0)).length<=65*1000:=by
   have h1:=Kk (cs:=(cH f n).take i) (ax:=(λ_=>0)) m;have h2:((cH f n).take i).length<=65:=by rw[eR,vN];omega
   exact aW h1 (fM _ h2)
  have N:=m ((i:Int)-f);rw[X];refine⟨(H ((i:Int)-f) w1 t.U).mono ?_⟩;rintro e w2 ⟨p2,d2,rfl,l,O,P⟩;have l:CL w2 p2 p1 ((of ((i:Int)-f)).map (aB .i64)):=⟨l,λa v Q _ hp=>absurd (P _ ⟨a,Q,rfl⟩) (Nat.not_le_of_lt (t.S.lt _ hp))⟩;generalize of ((i:Int)-f)=L at l o N⊢;refine⟨_,_,_,rfl,⟨bO bu (M:=dw) (σ:=Nat×Option Addr×Nat) (λs=>Ay (n:Int) g G s.2.1 (cM ((cH f n).take i) of (λ_=>0)++(L.take s.1).map λid=>(id,(i:Int)-f,(λ_=>0) id)).length s.2.2 ((i:Int)-f) p2 L.length d2 (L.length:Int) (s.1:Int)) (λs w'=>s.1<=L.length/\CL w' p2 s.2.1 (L.map (aB .i64))/\eQ dH 3 w w' 75 s.2.1 s.2.2 (cM ((cH f n).take i) of (λ_=>0)++(L.take s.1).map λid=>(id,(i:Int)-f,(λ_=>0) id))) (λs _=>L.length-s.1) (0,p1,c1) ⟨rfl,rfl,rfl,by simp<;>rfl,rfl,rfl,rfl,rfl,trivial⟩ ⟨cB _,l,by simpa using t.ak O⟩ ?_⟩⟩;rintro⟨j,p3,c3⟩ w3 ⟨hj,r,h⟩;simp only at hj h r⊢;rw[Ks];refine⟨λz=>?_,λz=>?_⟩
  ·have z:=aL z;have A:j<L.length:=by omega
   have ej:aV .i64 ((j:Int)+1)=((j+1:Nat):Int):=by rw[aP (by omega)];rfl
   obtain⟨a,Q,hc⟩:=r.1.cv A
   have B:cM ((cH f n).take i) of (λ_=>0)++((L.take (j+1)).map λid=>(id,(i:Int)-f,(λ_=>0) id))=(cM ((cH f n).take i) of (λ_=>0)++(L.take j).map λid=>(id,(i:Int)-f,(λ_=>0) id))++[(L[j],(i:Int)-f,(λ_=>0) L[j])]:=by
    rw[eW A,eI,jP];rfl
   have C:(cM ((cH f n).take i) of (λ_=>0)++(L.take j).map λid=>(id,(i:Int)-f,(λ_=>0) id)).length<=66000:=by
    rw[cG,bW,eR];omega
   refine⟨⟨by omega,by omega⟩,a,Q,_,hc,?_⟩;refine⟨(y L[j] w3 h.U).mono ?_⟩;rintro e w4 ⟨rfl,D⟩;refine⟨_,rfl,⟨λw5 R=>?_⟩⟩;obtain⟨p',c',w6,V,E,T⟩:=(h.ak D).EL DG qb Bh (aW (fM _ (Nat.succ_le_succ C)) (by decide)) (aW C (by decide)) (x:=(L[j],(i:Int)-f,(λ_=>0) L[j])) rfl R 63 (r.no D);rw[<-B]at V E;exact⟨p',_,c',w6,V,(j+1,p',c'),⟨rfl,rfl,rfl,rfl,rfl,rfl,rfl,by rw[ej]<;>rfl,trivial⟩,⟨by simp only;omega,T,E⟩,by simp only;omega⟩
  ·have z:=aT z;have:j=L.length:=by omega
   subst this;rw[dC,<-o]at h;refine⟨(i+1,p3,c3),⟨rfl,rfl,rfl,?_,?_,trivial⟩,⟨by simp only;omega,h⟩,by simp only;omega⟩
   ·rw[dC,<-o]<;>rfl
   ·have:(i:Int)-f+1=((i+1:Nat):Int)-f:=by omega
    rw[aP (by omega),this]<;>rfl
 ·have g1:=aT g1;have:i=n+f:=by omega
  subst this;have:(cH f n).take (n+f)=cH f n:=rO (by rw[vN];exact aX _);rw[this]at t⊢;exact⟨p1,c1,rfl,t⟩
set_option maxRecDepth 100000 in
theorem aeG {w:World} {g:Nat} {E:Option Addr} (Y:jx Tryz.prog g=ag) {of:Int->List Int} (m:∀c,(of c).length<=1000) {g2:Nat} {G:Option Addr} (H:jx Tryz.prog g2=ag) {ax:Int->Int} (u:∀(id:Int) w1,av no w w1->Cx g2 #[.pointer G,I id] w1 λe w'=>e=Z (I (ax id))/\av no w1 w') (J:∀c w',av no w w'->Cx g #[.pointer E,I c] w' λe y=>∃p d,e=Z (.slice p (of c).length d)/\Cells y p ((of c).map (aB .i64))/\av no w' y/\∀j,bf p j->w'.heap.size<=j)
  {f n:Nat} (hf:f<=1) (hn:n<=64):Cx 87 #[I (-(f:Int)),I (n:Int),.func (.func g) #[.pointer E] #[],.func (.func g2) #[.pointer G] #[]] w λe w'=>∃p c,e=Z (.slice p (cM (cH f n) of ax).length c)/\eQ dH 3 w w' 75 p c (cM (cH f n) of ax):=by
 refine lI.KU ?_;refine⟨bO bu (M:=lI.dw) (σ:=Nat×Option Addr×Nat) (λs=>lI.Ax (n:Int) g E g2 G s.2.1 (cM ((cH f n).take s.1) of ax).length s.2.2 ((s.1:Int)-f)) (λs w'=>s.1<=n+f/\eQ dH 3 w w' 75 s.2.1 s.2.2 (cM ((cH f n).take s.1) of ax)) (λs _=>n+f-s.1) (0,ah,0) ⟨rfl,rfl,rfl,rfl,by simp<;>rfl,trivial⟩ ⟨cB _,eQ.nil (av.refl _ _) _⟩ ?_⟩;rintro⟨i,p1,c1⟩ w1 ⟨hi,t⟩;simp only at hi t⊢;rw[lI.Kr];refine⟨λg1=>?_,λg1=>?_⟩
 ·have g1:=aL g1;have N:i<n+f:=by omega
  have o:=T9 N of ax
  have al:(cM ((cH f n).take i) of ax).length<=65*1000:=by
   have h1:=Kk (cs:=(cH f n).take i) (ax:=ax) m;have h2:((cH f n).take i).length<=65:=by rw[eR,vN];omega
   exact aW h1 (fM _ h2)
  have O:=m ((i:Int)-f);rw[Y];refine⟨(J ((i:Int)-f) w1 t.U).mono ?_⟩;rintro e w2 ⟨p2,d2,rfl,l,P,Q⟩;have l:CL w2 p2 p1 ((of ((i:Int)-f)).map (aB .i64)):=⟨l,λa v R _ hp=>absurd (Q _ ⟨a,R,rfl⟩) (Nat.not_le_of_lt (t.S.lt _ hp))⟩;generalize of ((i:Int)-f)=L at l o O⊢;refine⟨_,_,_,rfl,⟨bO bu (M:=lI.dw) (σ:=Nat×Option Addr×Nat) (λs=>lI.Ay (n:Int) g E g2 G s.2.1 (cM ((cH f n).take i) of ax++(L.take s.1).map λid=>(id,(i:Int)-f,ax id)).length s.2.2 ((i:Int)-f) p2 L.length d2 (L.length:Int) (s.1:Int)) (λs w'=>s.1<=L.length/\CL w' p2 s.2.1 (L.map (aB .i64))/\eQ dH 3 w w' 75 s.2.1 s.2.2 (cM ((cH f n).take i) of ax++(L.take s.1).map λid=>(id,(i:Int)-f,ax id))) (λs _=>L.length-s.1) (0,p1,c1) ⟨rfl,rfl,rfl,by simp<;>rfl,rfl,rfl,rfl,rfl,trivial⟩ ⟨cB _,l,by simpa using t.ak P⟩ ?_⟩⟩;rintro⟨j,p3,c3⟩ w3 ⟨hj,r,h⟩;simp only at hj h r⊢;rw[lI.Ks];refine⟨λg2=>?_,λg2=>?_⟩
  ·have g2:=aL g2;have z:j<L.length:=by omega
   have ej:aV .i64 ((j:Int)+1)=((j+1:Nat):Int):=by rw[aP (by omega)];rfl
   obtain⟨a,R,hc⟩:=r.1.cv z
   have A:cM ((cH f n).take i) of ax++((L.take (j+1)).map λid=>(id,(i:Int)-f,ax id))=(cM ((cH f n).take i) of ax++(L.take j).map λid=>(id,(i:Int)-f,ax id))++[(L[j],(i:Int)-f,ax L[j])]:=by
    rw[eW z,eI,jP];rfl
   have B:(cM ((cH f n).take i) of ax++(L.take j).map λid=>(id,(i:Int)-f,ax id)).length<=66000:=by
    rw[cG,bW,eR];omega
   refine⟨⟨by omega,by omega⟩,a,R,_,hc,?_⟩;rw[H];refine⟨(u L[j] w3 h.U).mono ?_⟩;rintro e w4 ⟨rfl,C⟩;refine⟨_,rfl,⟨λw5 T=>?_⟩⟩;obtain⟨p',c',w6,X,D,V⟩:=(h.ak C).EL DG qb Bh (aW (fM _ (Nat.succ_le_succ B)) (by decide)) (aW B (by decide)) (x:=(L[j],(i:Int)-f,ax L[j])) rfl T 63 (r.no C);rw[<-A]at X D;exact⟨p',_,c',w6,X,(j+1,p',c'),⟨rfl,rfl,rfl,rfl,rfl,rfl,rfl,by rw[ej]<;>rfl,trivial⟩,⟨by simp only;omega,V,D⟩,by simp only;omega⟩
  ·have g2:=aT g2;have:j=L.length:=by omega
   subst this;rw[dC,<-o]at h;refine⟨(i+1,p3,c3),⟨rfl,rfl,rfl,?_,?_,trivial⟩,⟨by simp only;omega,h⟩,by simp only;omega⟩
   ·rw[dC,<-o]<;>rfl
   ·have:(i:Int)-f+1=((i+1:Nat):Int)-f:=by omega
    rw[aP (by omega),this]<;>rfl
 ·have g1:=aT g1;have:i=n+f:=by omega
  subst this;have:(cH f n).take (n+f)=cH f n:=rO (by rw[vN];exact aX _);rw[this]at t⊢;exact⟨p1,c1,rfl,t⟩
theorem Loc.all {W w:World} {T:TypeId} {p:Option Addr} {c:Nat} {l:List Int} (h:Loc W w T p c l):Cells w p (l.map (aB .i64))/\av no W w/\∀j,bf p j->W.heap.size<=j:=⟨h.S.cells,h.U,h.F⟩
theorem al8 {b:Nat} {w:World} {F:Fp} {Q:QL} (h:fu b w F Q) (au:Int):Cx 93 #[pt b,I au] w λe w'=>∃p c,e=Z (.slice p (b8 Q au).length c)/\Cells w' p ((b8 Q au).map (aB .i64))/\av no w w'/\∀j,bf p j->w.heap.size<=j:=by
 refine UG ?_;refine⟨(BN h au (-1)).mono ?_⟩;rintro e w1 ⟨rfl,rfl⟩;refine⟨_,rfl,λg=>?_,λg=>?_⟩
 ·have l:¬cY Q au (-1):=λh=>by rw[aj h]at g;simp at g
  rw[b8,af l];exact⟨ah,0,rfl,Cells.nil _ _,av.refl _ _,λj ⟨a,m,_⟩=>(by cases m)⟩
 ·have f:cY Q au (-1):=eV λh=>by rw[af h]at g;simp at g
  rw[b8,aj f];obtain⟨i,hi,rfl,n⟩:=uN f (by omega);rw[o0 hi];obtain⟨o,g,h,hI⟩:=h;obtain⟨b2,x,a,c,bi,F4,hB,d,r,s⟩:=h.q (i:=i) hi;have t:=hI.pos;simp only at t hB;refine⟨(wL hB d hi (by omega)).mono ?_⟩;rintro e y ⟨rfl,rfl⟩;refine⟨_,rfl,⟨(Tm r).mono ?_⟩⟩;rintro e z ⟨p,c,rfl,u⟩;exact⟨_,_,_,rfl,_,_,rfl,u.all⟩
theorem Xp {b:Nat} {w:World} {F:Fp} {x:CS} (h:eN b w F x) (au:Int):Cx 95 #[pt b,I au] w λe w'=>∃p c,e=Z (.slice p (cV x au).length c)/\Cells w' p ((cV x au).map (aB .i64))/\av no w w'/\∀j,bf p j->w.heap.size<=j:=by
 refine UH ?_;refine⟨λw1 m=>?_⟩;have d:=m.ak no;have n:eN b w1 F x:=(Frame.ca b).ak h d (λ_ _ h=>h);refine⟨(Am n (Ah m) (by simp)).mono ?_⟩;rw[EB];rintro e z ⟨rfl,rfl⟩;refine⟨_,rfl,λg=>?_,λg=>?_⟩
 ·have r:¬bK x au:=λh=>by rw[aj h]at g;simp at g
  rw[cV,af r];exact⟨ah,0,rfl,Cells.nil _ _,d,λj ⟨a,s,_⟩=>(by cases s)⟩
 ·have o:bK x au:=eV λh=>by rw[af h]at g;simp at g
  rw[cV,aj o];obtain⟨i,hi,rfl⟩:=qQ o;rw[rj hi];obtain⟨b2,a,c,bi,F4,hB,f,t,u⟩:=n.q (i:=i) hi;refine⟨_,rfl,_,_,_,hB.cell rfl,⟨by omega,by omega⟩,a,rfl,_,f,⟨(Tm t).mono ?_⟩⟩;rintro e A ⟨p,c,rfl,l⟩;exact⟨_,_,_,rfl,_,_,rfl,l.S.cells,d.and l.U,λj y=>aW d.size (l.F j y)⟩
section
variable {b:Nat} {W w:World} {F:Fp} {k:K} {q:KQ}
theorem RI (a:ai (KF b q) W w F k):Cx 180 #[pt b] w λe w'=>e=Z (pt q.th)/\av no w w':=by
 refine aik ?_;refine⟨(qS a).mono ?_⟩;rintro e w1 ⟨⟨s,n,c,rfl⟩,d⟩;exact⟨_,_,_,_,_,_,_,_,_,_,_,_,_,_,_,_,_,rfl,rfl,d⟩
theorem aay (a:ai (KF b q) W w F k):Cx 185 #[pt b] w λe w'=>e=Z (pt q.rt)/\av no w w':=by
 refine aio ?_;refine⟨(qS a).mono ?_⟩;rintro e w1 ⟨⟨s,n,c,rfl⟩,d⟩;exact⟨_,_,_,_,_,_,_,_,_,_,_,_,_,_,_,_,_,rfl,rfl,d⟩
theorem aap (a:ai (KF b q) W w F k):Cx 96 #[pt b] w λe w'=>e=Z (pt q.st)/\av no w w':=by
 refine u96 ?_;refine⟨(qS a).mono ?_⟩;rintro e w1 ⟨⟨s,n,c,rfl⟩,d⟩;exact⟨_,_,_,_,_,_,_,_,_,_,_,_,_,_,_,_,_,rfl,rfl,d⟩
theorem Z9 (a:ai (KF b q) W w F k):Cx 178 #[pt b] w λe w'=>e=Z (pt q.co)/\av no w w':=by
 refine aii ?_;refine⟨(qS a).mono ?_⟩;rintro e w1 ⟨⟨s,n,c,rfl⟩,d⟩;exact⟨_,_,_,_,_,_,_,_,_,_,_,_,_,_,_,_,_,rfl,rfl,d⟩
theorem aav (a:ai (KF b q) W w F k):Cx 13 #[pt b] w λe w'=>e=Z (pt q.rq)/\av no w w':=by
 refine u13 ?_;refine⟨(qS a).mono ?_⟩;rintro e w1 ⟨⟨s,n,c,rfl⟩,d⟩;exact⟨_,_,_,_,_,_,_,_,_,_,_,_,_,_,_,_,_,rfl,rfl,d⟩
theorem acL (k:K) (i:Nat):tO (bI (λc=>(bg k.co c).pw) (i+1))=if(bg k.co i).pw then wi (tO (bI (λc=>(bg k.co c).pw) i)) i else tO (bI (λc=>(bg k.co c).pw) i):=by
 rw[wK];split
 ·unfold tO;rw[mH];rfl
 ·rfl
theorem acN (l:ai (KF b q) W w F k):Cx 85 #[pt b] w λe w'=>e=Z (.int .u64 (mi (rf k)))/\av no w w':=by
 have B:=KF.num l;refine u85 ?_;refine⟨(I2 l).mono ?_⟩;rintro e z ⟨rfl,rfl⟩;refine⟨_,rfl,⟨bO bu (M:=Cz) (σ:=Nat) (λi=>H9 (aa ⟨b,0,ah⟩) (mi (tO (bI (λc=>(bg k.co c).pw) i))) (k.n:Int) (i:Int)) (λi w'=>i<=k.n/\av no z w') (λi _=>k.n-i) 0 ⟨rfl,rfl,rfl,rfl,trivial⟩ ⟨cB _,av.refl _ _⟩ ?_⟩⟩;rintro i w1 ⟨hi,o⟩;rw[agd];refine⟨λg=>?_,λg=>?_⟩
 ·have g:=aL g;have t:aV .i64 ((i:Int)+1)=((i+1:Nat):Int):=by rw[aP (by omega)];rfl
  have d:=l.ak o;have hs:=acL k i;refine⟨(Z9 d).mono ?_⟩;rintro e C ⟨rfl,f⟩;obtain⟨F1,hA,_⟩:=KF.co (d.ak f);refine⟨_,rfl,⟨(G7 hA i).mono ?_⟩⟩;rintro e u ⟨⟨n,m,rfl⟩,p⟩;refine⟨_,_,_,_,_,_,_,rfl,⟨λD x=>?_⟩⟩;refine x.aK.gF (by simp) λA y=>?_;have r:av no u A:=(x.ak no).trans (av.mono (G:=λi=>i=u.heap.size) y.U (λ_ _ h=>h)) (λi hi h=>by omega);have a:=((o.trans f (λ_ _ h=>h)).trans p (λ_ _ h=>h)).trans r (λ_ _ h=>h);refine⟨_,y.aK.cell rfl,λs=>⟨λE j=>⟨(qW (tO (bI (λc=>(bg k.co c).pw) i)) (Ah j) (by simp)).mono ?_⟩⟩,λs=>?_⟩
  ·rintro e H ⟨rfl,rfl⟩;rw[aj s]at hs;refine⟨_,rfl,i+1,⟨rfl,by rw[hs]<;>rfl,rfl,by rw[t]<;>rfl,trivial⟩,⟨by omega,a.trans (j.ak no) (λ_ _ h=>h)⟩,by omega⟩
  ·rw[af (by rw[s];decide)]at hs;exact⟨i+1,⟨rfl,by rw[hs]<;>rfl,rfl,by rw[t]<;>rfl,trivial⟩,⟨by omega,a⟩,by omega⟩
 ·have g:=aT g;have:i=k.n:=by omega
  subst this;exact⟨rfl,o⟩
theorem map_take {α:Type} {l:List Int} {i:Nat} (h:i<l.length) (g:Int->α):(l.take (i+1)).map g=(l.take i).map g++[g l[i]]:=by
 rw[eW h,eI];rfl
theorem agJ (B:ai (KF b q) W w F k) (X:k.th.2.length=32):Cx 86 #[pt b] w λe w'=>∃p c,e=Z (.slice p (sH k.th).length c)/\eQ dH 3 w w' 278 p c (sH k.th):=by
 have m:(gT k.th).length<=32:=by rw[<-X];exact EE _ _
 refine u86 ?_;refine⟨(RI B).mono ?_⟩;rintro e Y ⟨rfl,n⟩;obtain⟨F0,C,_⟩:=KF.th (B.ak n);refine⟨_,rfl,⟨(Um C).mono ?_⟩⟩;rintro e w9 ⟨A,c0,rfl,f⟩;have Q:Cells w9 A ((gT k.th).map (aB .i64)):=f.S.cells;have D:=n.trans f.U (λ_ _ h=>h);have al:∀j,bf A j->Y.heap.size<=j:=f.F;have e9:sH k.th=(gT k.th).map λid=>(id,(dt k.th id).1.2.2.1,(dt k.th id).1.2.2.2.2.2):=rfl;rw[e9];generalize gT k.th=L at Q m⊢;refine⟨_,_,_,rfl,⟨bO bu (M:=CA) (σ:=Nat×Option Addr×Nat) (λs=>Ia (aa ⟨b,0,ah⟩) s.2.1 ((L.take s.1).map λid=>(id,(dt k.th id).1.2.2.1,(dt k.th id).1.2.2.2.2.2)).length s.2.2 A L.length c0 (L.length:Int) (s.1:Int)) (λs w'=>s.1<=L.length/\CL w' A s.2.1 (L.map (aB .i64))/\eQ dH 3 w w' 278 s.2.1 s.2.2 ((L.take s.1).map λid=>(id,(dt k.th id).1.2.2.1,(dt k.th id).1.2.2.2.2.2))) (λs _=>L.length-s.1) (0,ah,0) ⟨rfl,rfl,rfl,rfl,rfl,trivial⟩ ⟨cB _,⟨Q,λa v _ _ ⟨a',E,_⟩=>(by cases E)⟩,eQ.nil D _⟩ ?_⟩⟩;rintro⟨i,p1,c1⟩ w1 ⟨hi,l,o⟩;simp only at hi l o⊢;rw[age];refine⟨λg=>?_,λg=>?_⟩
 ·have g:=aL g;have r:i<L.length:=by omega
  have ei:aV .i64 ((i:Int)+1)=((i+1:Nat):Int):=by rw[aP (by omega)];rfl
  have H:=map_take r (λid=>(id,(dt k.th id).1.2.2.1,(dt k.th id).1.2.2.2.2.2));have t:((L.take i).map λid=>(id,(dt k.th id).1.2.2.1,(dt k.th id).1.2.2.2.2.2)).length<=32:=by rw[bW,eR];omega
  obtain⟨a,ha,hc⟩:=l.1.cv r;have u:=B.ak o.U;refine⟨⟨by omega,by omega⟩,a,ha,_,hc,⟨(RI u).mono ?_⟩⟩;rintro e w2 ⟨rfl,y⟩;obtain⟨F1,hA,_⟩:=KF.th (u.ak y);refine⟨_,rfl,⟨(vX hA L[i]).mono ?_⟩⟩;rintro e R ⟨rfl,I⟩;refine⟨_,_,_,_,_,_,_,rfl,⟨λw4 T=>?_⟩⟩;refine T.aK.gF (by simp) λw5 J=>?_;have N:av no R w5:=(T.ak no).trans (av.mono (G:=λi=>i=R.heap.size) J.U (λ_ _ h=>h)) (λi hi h=>by omega);have d:=(y.trans I (λ_ _ h=>h)).trans N (λ_ _ h=>h);refine⟨_,J.aK.cell rfl,_,J.aK.cell rfl,⟨λw6 O=>?_⟩⟩;obtain⟨p',c',w7,V,z,P⟩:=(o.ak d).EL Yf qb Bh (aW (fM _ (Nat.succ_le_succ t)) (by decide)) (aW t (by decide)) (x:=(L[i],(dt k.th L[i]).1.2.2.1,(dt k.th L[i]).1.2.2.2.2.2)) rfl O 62 (l.no d);rw[<-H]at V z;exact⟨p',_,c',w7,V,(i+1,p',c'),⟨rfl,rfl,rfl,rfl,by rw[ei]<;>rfl,trivial⟩,⟨by simp only;omega,P,z⟩,by simp only;omega⟩
 ·have g:=aT g;have:i=L.length:=by omega
  subst this;rw[dC]at o⊢;exact⟨p1,c1,rfl,o⟩
def pT (rt:dh) (n:Int):P3:=(n,if(cF rt n).2 then(cF rt n).1 else -1,0)
theorem ZW (E:ai (KF b q) W w F k):Cx 91 #[pt b] w λe w'=>∃p c,e=Z (.slice p (tI k.ir k.rt).length c)/\eQ dH 3 w w' 75 p c (tI k.ir k.rt):=by
 have t:(gP k.ir).length<=16:=by unfold gP bI;exact aW (jN ..) (by simp)
 refine u91 ?_;refine⟨(I3 E).mono ?_⟩;rintro e w0 ⟨rfl,u⟩;obtain⟨F0,G,_⟩:=KF.ir (E.ak u);refine⟨_,rfl,⟨(Jk G).mono ?_⟩⟩;rintro e R ⟨D,c0,rfl,y⟩;have O:Cells R D ((gP k.ir).map (aB .i64)):=y.S.cells;have H:=u.trans y.U (λ_ _ h=>h);have T:tI k.ir k.rt=(gP k.ir).map (pT k.rt):=rfl;rw[T];generalize gP k.ir=L at O t⊢;refine⟨_,_,_,rfl,⟨bO bu (M:=CB) (σ:=Nat×Option Addr×Nat) (λs=>Ic (aa ⟨b,0,ah⟩) s.2.1 ((L.take s.1).map (pT k.rt)).length s.2.2 D L.length c0 (L.length:Int) (s.1:Int)) (λs w'=>s.1<=L.length/\CL w' D s.2.1 (L.map (aB .i64))/\eQ dH 3 w w' 75 s.2.1 s.2.2 ((L.take s.1).map (pT k.rt))) (λs _=>L.length-s.1) (0,ah,0) ⟨rfl,rfl,rfl,rfl,rfl,trivial⟩ ⟨cB _,⟨O,λa v _ _ ⟨a',I,_⟩=>(by cases I)⟩,eQ.nil H _⟩ ?_⟩⟩;rintro⟨i,p1,c1⟩ w1 ⟨hi,f,z⟩;simp only at hi f z⊢;rw[agh];refine⟨λg=>?_,λg=>?_⟩
 ·have g:=aL g;have A:i<L.length:=by omega
  have P:aV .i64 ((i:Int)+1)=((i+1:Nat):Int):=by rw[aP (by omega)];rfl
  have J:=map_take A (pT k.rt);have B:((L.take i).map (pT k.rt)).length<=32:=by rw[bW,eR];omega
  obtain⟨a,V,X⟩:=f.1.cv A;have C:=E.ak z.U;refine⟨⟨by omega,by omega⟩,a,V,_,X,⟨(aay C).mono ?_⟩⟩;rintro e w2 ⟨rfl,j⟩;obtain⟨F1,hA,_⟩:=KF.rt (C.ak j);refine⟨_,rfl,⟨(Jy hA L[i]).mono ?_⟩⟩;rintro e Q ⟨rfl,rfl⟩
  have push:∀(v:Int),pT k.rt L[i]=(L[i],v,0)->∀l,dy Q l (.cells (dK [aB .i64 L[i],aB .i64 v,aB .i64 0]) 75 (0,0))->∃p' c' m,(bR #[63,63] 63 #[.slice p1 ((L.take i).map (pT k.rt)).length c1,.slice (aa ⟨Q.heap.size,0,ah⟩) 1 1]).run Tryz.prog l=.ok (.slice p' ((L.take (i+1)).map (pT k.rt)).length c') m/\eQ dH 3 w m 75 p' c' ((L.take (i+1)).map (pT k.rt))/\CL m D p' (L.map (aB .i64)):=by
   intro v Y l d;rw[J];exact(z.ak j).EL DG qb Bh (aW (fM _ (Nat.succ_le_succ B)) (by decide)) (aW B (by decide)) (x:=pT k.rt L[i]) (by rw[Y];rfl) d 63 (f.no j)
  refine⟨_,_,rfl,λn=>⟨λl d=>?_⟩,λn=>⟨λl d=>?_⟩⟩
  ·have n:(cF k.rt L[i]).2=ae:=by simpa using n
   obtain⟨p',c',m,N,o,r⟩:=push (-1) (by unfold pT;rw[n];rfl) l d;exact⟨p',_,c',m,N,(i+1,p',c'),⟨rfl,rfl,rfl,rfl,by rw[P]<;>rfl,trivial⟩,⟨by simp only;omega,r,o⟩,by simp only;omega⟩
  ·have n:(cF k.rt L[i]).2=ag:=by simpa using n
   obtain⟨p',c',m,N,o,r⟩:=push (cF k.rt L[i]).1 (by unfold pT;rw[n];rfl) l d;exact⟨p',_,c',m,N,(i+1,p',c'),⟨rfl,rfl,rfl,rfl,by rw[P]<;>rfl,trivial⟩,⟨by simp only;omega,r,o⟩,by simp only;omega⟩
 ·have g:=aT g;have:i=L.length:=by omega
  subst this;rw[dC]at z⊢;exact⟨p1,c1,rfl,z⟩
theorem acp (c:ai (KF b q) W w F k) (id:Int):Cx 90 #[pt b,I id] w λe w'=>e=Z (I ((k.own id).getD 0))/\av no w w':=by
 refine u90 ?_;have hB:=KF.ay c;unfold mS at hB;obtain⟨F2,n,d,_⟩:=KF.own c;refine⟨λg=>(by cases g),λ_=>⟨_,rfl,_,hB.cell rfl,?_⟩⟩;have a:=kP sK d id ae;have f:((k.own id).map (aB .i64)).getD (I 0)=I ((k.own id).getD 0):=by cases k.own id<;>rfl
 rw[af (by decide),f]at a;exact⟨_,a,rfl,av.refl _ _⟩
theorem Uo (a:aC k) (c:Int):(qi k.tm c).length<=1000:=by
 unfold qi gU;split
 ·rw[(ji ..).length_eq];have:=IK k.tm.t λx=>decide (x.1=c);rw[a.lF]at this;omega
 ·simp
theorem aar {st:KS} {b:Nat} {w:World} {F:Fp} (h:dW b w F st) (c:Int):(qR st c).length<=1000:=by
 unfold qR;split
 ·rename_i a;obtain⟨i,hi,rfl⟩:=uM a;rw[u5 hi];have:=h.2 _ (cx hi);omega
 ·simp
def Bx (v w:World) (p:Option Addr) (cs:List Value):Prop:=Cells w p cs/\∀a,p=aa a->a.block<w.heap.size/\v.heap.size<=a.block
theorem Bx.no {v w w':World} {p:Option Addr} {cs:List Value} (h:Bx v w p cs) (k:av no w w'):Bx v w' p cs:=⟨h.1.no k,λa c=>⟨jM (h.2 a c).1 k.size,(h.2 a c).2⟩⟩
theorem eQ.bx {α:Type} {f:α->List Value} {sz:Nat} {v W w:World} {T:TypeId} {p:Option Addr} {c:Nat} {l:List α} (h:eQ f sz W w T p c l) (e:av no v W):Bx v w p (l.flatMap f):=⟨h.S.cells,λa d=>⟨h.S.lt _ ⟨a,d,rfl⟩,aW e.size (h.F _ ⟨a,d,rfl⟩)⟩⟩
theorem BG {f n:Nat} (d:f<=1) (e:n<=64) {g:Int->List Int} {ax:Int->Int} (h:∀c,(g c).length<=1000):(cM (cH f n) g ax).length<=100000:=by
 have a:=Kk (cs:=cH f n) (ax:=ax) h;rw[vN]at a;omega
set_option maxRecDepth 100000 in
theorem Vy (o:ai (KF b q) W w F k) (h:aI k) (x:aC k):Cx 27 #[pt b] w λe w'=>∃a,e=Z (.tuple #[.agg (eJ (cA k) a).toArray,I 0])/\mB w' (cA k) a/\av no w w':=by
 have u:=KF.num o
 have C:(sH k.th).length<=100000:=by
  unfold sH;rw[bW];exact aW (EE _ _) (by rw[x.iF];decide)
 have D:(tI k.ir k.rt).length<=100000:=by
  unfold tI gP bI;rw[bW];exact aW (jN ..) (by simp)
 refine u27 ?_;refine⟨λv E=>⟨λg=>(by cases g),λ_=>?_⟩⟩;have hB:=E.aK;have z:=E.ak no;have A:w.heap.size<v.heap.size:=by rw[E.size];omega
 generalize am:w.heap.size=B0 at hB A⊢;replace o:=o.ak z;refine⟨(I2 o).mono ?_⟩;rintro e w1 ⟨rfl,rfl⟩;refine⟨_,rfl,⟨(I5 (KF.loose o)).mono ?_⟩⟩;rintro e w1 ⟨rfl,rfl⟩;refine⟨_,rfl,⟨(Rz (KF.loose o)).mono ?_⟩⟩;rintro e w1 ⟨rfl,rfl⟩;refine⟨_,rfl,⟨(acN o).mono ?_⟩⟩;rintro e w2 ⟨rfl,l⟩;refine⟨_,rfl,⟨(agJ (o.ak l) x.iF).mono ?_⟩⟩;rintro e w3 ⟨H,J,rfl,m⟩;have j:=m.U;have Cth:=m.bx l;replace l:=l.trans j (λ_ _ h=>h);clear j;clear m;refine⟨_,_,_,rfl,⟨(aav (o.ak l)).mono ?_⟩⟩;rintro e w4 ⟨rfl,j⟩;replace l:=l.trans j (λ_ _ h=>h);replace Cth:=Cth.no j;clear j
 refine⟨_,rfl,⟨(Fw (f:=0) (n:=k.n) (g:=88) (by kernel_rfl) (of:=bT k.rq) (λc=>aW (ET h x c) (by decide)) (λc w' r=>by
   obtain⟨F1,hA,_⟩:=KF.rq (o.ak (l.trans r (λ_ _ h=>h)));exact(J0 hA c).mono λe L ⟨p,d,M,m⟩=>⟨p,d,M,m.all⟩) (by decide) u.2).mono ?_⟩⟩
 rintro e w5 ⟨pq,cq,rfl,m⟩;have j:=m.U;have Cq:=m.bx l;replace l:=l.trans j (λ_ _ h=>h);replace Cth:=Cth.no j;clear j;clear m;refine⟨_,_,_,rfl,⟨(I7 (o.ak l)).mono ?_⟩⟩;rintro e w6 ⟨rfl,j⟩;replace l:=l.trans j (λ_ _ h=>h);replace Cth:=Cth.no j;replace Cq:=Cq.no j;clear j
 refine⟨_,rfl,⟨(aeG (f:=0) (n:=k.n) (g:=89) (by kernel_rfl) (of:=qi k.tm) (Uo x) (g2:=90) (by kernel_rfl) (ax:=λid=>(k.own id).getD 0) (λid w1 N=>acp (o.ak (l.trans N (λ_ _ h=>h))) id) (λc w' r=>by
   obtain⟨F1,hA,_⟩:=KF.tm (o.ak (l.trans r (λ_ _ h=>h)));exact Un hA c) (by decide) u.2).mono ?_⟩⟩
 rintro e w7 ⟨O,P,rfl,m⟩;have j:=m.U;have Ctm:=m.bx l;replace l:=l.trans j (λ_ _ h=>h);replace Cth:=Cth.no j;replace Cq:=Cq.no j;clear j;clear m;refine⟨_,_,_,rfl,⟨(ZW (o.ak l)).mono ?_⟩⟩;rintro e w8 ⟨Q,R,rfl,m⟩;have j:=m.U;have Cir:=m.bx l;replace l:=l.trans j (λ_ _ h=>h);replace Cth:=Cth.no j;replace Cq:=Cq.no j;replace Ctm:=Ctm.no j;clear j;clear m;refine⟨_,_,_,rfl,⟨(I8 (o.ak l)).mono ?_⟩⟩;rintro e w9 ⟨rfl,j⟩;replace l:=l.trans j (λ_ _ h=>h);replace Cth:=Cth.no j;replace Cq:=Cq.no j;replace Ctm:=Ctm.no j;replace Cir:=Cir.no j;clear j
 refine⟨_,rfl,⟨(Fw (f:=1) (n:=k.n) (g:=93) (by kernel_rfl) (of:=b8 k.wk) (λc=>aW (FW x c) (by decide)) (λc w' r=>by
   obtain⟨F1,hA,_⟩:=KF.wk (o.ak (l.trans r (λ_ _ h=>h)));exact al8 hA c) (by decide) u.2).mono ?_⟩⟩
 rintro e ap ⟨S,T,rfl,m⟩;have j:=m.U;have Cwk:=m.bx l;replace l:=l.trans j (λ_ _ h=>h);replace Cth:=Cth.no j;replace Cq:=Cq.no j;replace Ctm:=Ctm.no j;replace Cir:=Cir.no j;clear j;clear m;refine⟨_,_,_,rfl,⟨(RB (o.ak l)).mono ?_⟩⟩;rintro e aq ⟨rfl,j⟩;replace l:=l.trans j (λ_ _ h=>h);replace Cth:=Cth.no j;replace Cq:=Cq.no j;replace Ctm:=Ctm.no j;replace Cir:=Cir.no j;replace Cwk:=Cwk.no j;clear j
 refine⟨_,rfl,⟨(Fw (f:=0) (n:=k.n) (g:=95) (by kernel_rfl) (of:=cV k.ca) (λc=>aW (De h c) (by decide)) (λc w' r=>by
   obtain⟨F1,hA,_⟩:=KF.ca (o.ak (l.trans r (λ_ _ h=>h)));exact Xp hA c) (by decide) u.2).mono ?_⟩⟩
 rintro e az ⟨V,X,rfl,m⟩;have j:=m.U;have Cca:=m.bx l;replace l:=l.trans j (λ_ _ h=>h);replace Cth:=Cth.no j;replace Cq:=Cq.no j;replace Ctm:=Ctm.no j;replace Cir:=Cir.no j;replace Cwk:=Cwk.no j;clear j;clear m;refine⟨_,_,_,rfl,⟨(aap (o.ak l)).mono ?_⟩⟩;rintro e bb ⟨rfl,j⟩;replace l:=l.trans j (λ_ _ h=>h);replace Cth:=Cth.no j;replace Cq:=Cq.no j;replace Ctm:=Ctm.no j;replace Cir:=Cir.no j;replace Cwk:=Cwk.no j;replace Cca:=Cca.no j;clear j
 have B:∀c,(qR k.st c).length<=1000:=λc=>by
  obtain⟨F1,hA,_⟩:=KF.st (o.ak l);exact aar hA c
 refine⟨_,rfl,⟨(Fw (f:=0) (n:=k.n) (g:=97) (by kernel_rfl) (of:=qR k.st) B (λc w' r=>by
   obtain⟨F1,hA,_⟩:=KF.st (o.ak (l.trans r (λ_ _ h=>h)));exact(aac hA c).mono λe L ⟨p,d,M,m⟩=>⟨p,d,M,m.all⟩) (by decide) u.2).mono ?_⟩⟩
 rintro e be ⟨Y,al,rfl,m⟩;have j:=m.U;have Ckp:=m.bx l;replace l:=l.trans j (λ_ _ h=>h);replace Cth:=Cth.no j;replace Cq:=Cq.no j;replace Ctm:=Ctm.no j;replace Cir:=Cir.no j;replace Cwk:=Cwk.no j;replace Cca:=Cca.no j;clear j;clear m;refine⟨_,_,_,rfl,⟨(AR (o.ak l)).mono ?_⟩⟩;rintro e bl ⟨rfl,j⟩;replace l:=l.trans j (λ_ _ h=>h);replace Cth:=Cth.no j;replace Cq:=Cq.no j;replace Ctm:=Ctm.no j;replace Cir:=Cir.no j;replace Cwk:=Cwk.no j;replace Cca:=Cca.no j;replace Ckp:=Ckp.no j;clear j;obtain⟨Fd,t,_⟩:=KF.dk (o.ak l);refine⟨_,rfl,⟨(uK t).mono ?_⟩⟩;clear t;rintro e w' ⟨rfl,y⟩;subst y;refine⟨_,rfl,⟨(AR (o.ak l)).mono ?_⟩⟩;rintro e bm ⟨rfl,j⟩;replace l:=l.trans j (λ_ _ h=>h);replace Cth:=Cth.no j;replace Cq:=Cq.no j;replace Ctm:=Ctm.no j;replace Cir:=Cir.no j;replace Cwk:=Cwk.no j;replace Cca:=Cca.no j;replace Ckp:=Ckp.no j;clear j;obtain⟨Fd,t,_⟩:=KF.dk (o.ak l);refine⟨_,rfl,⟨(P7 t).mono ?_⟩⟩;clear t;rintro e w' ⟨rfl,y⟩;subst y;refine⟨_,rfl,⟨(AR (o.ak l)).mono ?_⟩⟩;rintro e bs ⟨rfl,j⟩;replace l:=l.trans j (λ_ _ h=>h);replace Cth:=Cth.no j;replace Cq:=Cq.no j;replace Ctm:=Ctm.no j;replace Cir:=Cir.no j;replace Cwk:=Cwk.no j;replace Cca:=Cca.no j;replace Ckp:=Ckp.no j;clear j;obtain⟨Fd,t,_⟩:=KF.dk (o.ak l);refine⟨_,rfl,⟨(P4 t).mono ?_⟩⟩;clear t;rintro e w' ⟨rfl,y⟩;subst y;refine⟨_,rfl,⟨(AR (o.ak l)).mono ?_⟩⟩;rintro e bv ⟨rfl,j⟩;replace l:=l.trans j (λ_ _ h=>h);replace Cth:=Cth.no j;replace Cq:=Cq.no j;replace Ctm:=Ctm.no j;replace Cir:=Cir.no j;replace Cwk:=Cwk.no j;replace Cca:=Cca.no j;replace Ckp:=Ckp.no j;clear j;obtain⟨Fd,t,_⟩:=KF.dk (o.ak l);refine⟨_,rfl,⟨(P1 t).mono ?_⟩⟩;clear t;rintro e w' ⟨rfl,y⟩;subst y;refine⟨_,rfl,?_⟩;refine(hB.ak l (λh=>h)).gF (by simp) λw' hW=>?_;have s:=hW.aK;have off:∀{p:Option Addr} {cs:List Value},Bx w1 _ p cs->Cells w' p cs:=λ{p cs} hC=>Cells.ak hC.1 λa ha=>hW.U.ay _ (hC.2 a ha).1 (Nat.ne_of_gt (jM A (hC.2 a ha).2));refine⟨_,s.cell rfl,_,s.cell rfl,_,s.cell rfl,_,s.cell rfl,_,_,_,s.cell rfl,_,_,_,s.cell rfl,_,_,_,s.cell rfl,_,_,_,s.cell rfl,_,_,_,s.cell rfl,_,_,_,s.cell rfl,_,_,_,s.cell rfl,_,s.cell rfl,_,s.cell rfl,_,s.cell rfl,_,s.cell rfl,⟨(H,J),(pq,cq),(O,P),(Q,R),(S,T),(V,X),(Y,al)⟩,rfl,⟨⟨off Cth,C⟩,⟨off Cq,?_⟩,⟨off Ctm,?_⟩,⟨off Cir,D⟩,⟨off Cwk,?_⟩,⟨off Cca,?_⟩,⟨off Ckp,?_⟩⟩,?_⟩
 ·exact BG (by decide) u.2 λc=>aW (ET h x c) (by decide)
 ·exact BG (by decide) u.2 (Uo x)
 ·exact BG (by decide) u.2 λc=>aW (FW x c) (by decide)
 ·exact BG (by decide) u.2 λc=>aW (De h c) (by decide)
 ·exact BG (by decide) u.2 B
 ·exact(z.trans l (λ_ _ h=>h)).trans (av.mono (G:=λi=>i=B0) hW.U (λ_ _ h=>h)) (λi hi h=>by omega)
end
theorem aan (n:Int) (b:¬(1<=n/\n<=64)) (w:World):Cx 8 #[I n] w λe w'=>e=Z (.tuple #[.pointer ah,I 2])/\w'=w:=by
 refine u8 ?_;rw[t8];refine⟨λg=>⟨λ_=>⟨rfl,rfl⟩,λa=>?_⟩,λ_=>⟨rfl,rfl⟩⟩;have g:=aT g;have a:=aT a;exact absurd ⟨by omega,by omega⟩ b
theorem Yn (e:cu):(lg e).length=5:=rfl
theorem adH {k:K} (h:aI k) (a:aC k):∀n,1<=n->n<=7->yZ (cA k) n=ag:=λn c d=>by
 have:n=1∨n=2∨n=3∨n=4∨n=5∨n=6∨n=7:=by omega
 rcases this with rfl|rfl|rfl|rfl|rfl|rfl|rfl
 ·exact adI h a
 ·exact adJ h a
 ·exact adK h a
 ·exact adL h a
 ·exact adM h a
 ·exact adN h a
 ·exact adO h a
section
variable {b:Nat} {W w:World} {F:Fp} {k:K}
end
section
variable {k:K} {r:bd}
end
theorem fJ.X3 {k:K} (G:fJ k) {I:K->Prop} (hI:I k) (a:∀k c,aI k->I k->I (bG k c)) (l:List Int):fJ (eZ bG di l k).1/\I (eZ bG di l k).1/\(eZ bG di l k).1.n=k.n:=
 OQ (step:=bG) (St:=di) (I:=λx=>fJ x/\I x/\x.n=k.n) (p:=λ_=>True) (λs c h _=>⟨h.1.step c,a s c h.1.h h.2.1,(A5 s c).trans h.2.2⟩) ⟨G,hI,rfl⟩ (λ_ _=>trivial)
theorem aeN {k:K} (h:di k=ag):k.dk.1=ah:=by
 unfold di at h;simp only[aY,ja]at h;have:=h.1.1.1;unfold dE at this
 cases hd:k.dk.1 with
 | none=>rfl
 | some r=>rw[hd]at this;cases this
def vR (k:K):K:=(eZ bG di (fS k.n (500*k.n)) k).1
theorem fJ.OO {k:K} (G:fJ k):(eZ bG di (fS k.n (500*k.n)) k).2.2=ag/\(vR k).dk.1=ah:=by
 have h:=G.As;refine⟨h,aeN ?_⟩;unfold vR;rw[Hm bG di];exact h
section
variable {k:K}
theorem T8 {cs:List Int} {f:Int->List Int} {ax:Int->Int} (h:∀c∈cs,(f c).length=0):cM cs f ax=[]:=by
 unfold cM;rw[List.flatMap_eq_nil_iff];intro c a;rw[List.map_eq_nil_iff];exact lM (h c a)
theorem Fy (a:di k=ag):(b8 k.wk (-1)).length=0/\∀c:Int,0<=c->c<k.n->(b8 k.wk c).length=0/\(cV k.ca c).length=0/\lB k.tm c=ae:=by
 unfold di at a;simp only[aY,ja,decide_eq_true_eq,fL]at a;refine⟨a.1.1.2,λc b d=>?_⟩;have h:=a.1.2 c.toNat (cD.2 (by omega));rw[Int.toNat_of_nonneg b]at h;exact⟨h.1.1,h.1.2,h.2⟩
theorem aeP (a:di k=ag):(cA k).wk=[]:=T8 λc b=>by
 have d:=uR.1 b;by_cases e:c = -1
 ·subst e;exact(Fy a).1
 ·exact((Fy a).2 c (by omega) d.2).1
theorem aeM (a:di k=ag):(cA k).ca=[]:=T8 λc b=>by
 have d:=uR.1 b;exact((Fy a).2 c (by omega) d.2).2.1
theorem aeO (h:aI k) (a:aC k) (b:di k=ag) {x:P3} (d:x∈(cA k).tm):(rF k.tm x.1).2=ag/\k.now<(rF k.tm x.1).1:=by
 have g:x.2.1∈cH 0 k.n:=(yE.1 (show x∈cM _ _ _ from d)).1;have e:=uR.1 g;obtain⟨⟨p,f,i⟩,_⟩:=(zq h a).1 d;have j:=((Fy b).2 x.2.1 (by omega) e.2).2.2;unfold rF;rw[f];refine⟨rfl,?_⟩;refine Int.not_le.1 λc=>?_;have:lB k.tm x.2.1=ag:=JR.2 ⟨⟨by omega,by rw[a.jG];exact e.2⟩,x.1,p,f,i,by rw[a.iW];exact c⟩;rw[j]at this;cases this
theorem X4 (G:fJ k):di (vR k)=ag:=by
 have h:=G.As;unfold vR;rw[Hm bG di];exact h
end
structure ph (k:K):Prop where
 h:aI k
 S:aC k
 t:bD k.now
theorem ph.one {k:K} (h:ph k) (e:cu):ph (cT k e)/\(cT k e).n=k.n:=⟨⟨h.h.vQ h.S e,h.S.vQ e,alH k e h.t⟩,abr _ _⟩
theorem ph.all:∀(es:List cu) {k:K},ph k->ph (es.foldl cT k)/\(es.foldl cT k).n=k.n
 | [],_,h=>⟨h,rfl⟩
 | e::es,k,h=>by
  have a:=h.one e;have c:=ph.all es a.1;exact⟨c.1,c.2.trans a.2⟩
theorem ph.new {n:Nat} (a:1<=n/\n<=64):ph (dF n):=⟨abS a,SG a,by show bD 0;unfold bD;omega⟩
section
variable {b:Nat} {W w:World} {F:Fp} {k:K}
theorem aao (h:ai (KO b) W w F k):Cx 32 #[pt b] w λe w'=>e=Z (I k.now)/\w'=w:=by
 obtain⟨q,a⟩:=KO.fix h;refine u32 ?_;exact⟨λg=>(by cases g),λ_=>⟨_,rfl,_,(KF.ay a).cell rfl,rfl,rfl⟩⟩
set_option maxRecDepth 100000 in
theorem acW {V:World} (o:Tab V) (G:av no V w) (D:ai (KO b) W w F k) (h:aI k) (H:aC k) (p:di k=ag) {a:PA} {pb:Nat} {T:TypeId} (q:aM w pb (eJ (cA k) a) T) (r:mB w (cA k) a)
  {R:Ending->World->Prop} (I:∀w',av no V w'->R (.returned (.bool ag)) w'):WP Tryz.prog M7.N (.loop GY) (DE (aa ⟨b,0,ah⟩) ⟨pb,0,ah⟩ 0) w (IX R):=by
 have Z:(cA k).tm.length<=100000:=r.tm.2;refine bO bu (M:=M7) (σ:=Nat) (λi=>DE (aa ⟨b,0,ah⟩) ⟨pb,0,ah⟩ (i:Int)) (λi w'=>i<=(cA k).tm.length/\av no w w') (λi _=>(cA k).tm.length-i) 0 ⟨rfl,rfl,rfl,trivial⟩ ⟨cB _,av.refl _ _⟩ ?_;rintro i w1 ⟨hi,s⟩;rw[agc];have t:=q.ak s (λh=>h);refine⟨_,_,_,t.cell rfl,λg=>?_,λg=>aU.mk ?_⟩
 ·have g:=aL g;have f:i<(cA k).tm.length:=by omega
  have J:aV .i64 ((i:Int)+1)=((i+1:Nat):Int):=by rw[aP (by omega)];rfl
  intro L O P Q S;have d:=s.trans (av.same no O P Q S) (λ_ _ h=>h);have u:=r.no d;obtain⟨ad,E,U⟩:=u.tm.1.qG qb (by decide) f;have x:=q.ak d (λh=>h);obtain⟨q2,j⟩:=KO.fix (D.ak d);refine⟨_,_,_,x.cell rfl,⟨by omega,by omega⟩,ad,E,_,U 0 _ rfl,⟨(I7 j).mono ?_⟩⟩;rintro e w3 ⟨rfl,l⟩;have c:=d.trans l (λ_ _ h=>h);have y:=r.no c;obtain⟨z,A,B⟩:=y.tm.1.qG qb (by decide) f;have X:z=ad:=Option.some.inj (A.symm.trans E);subst X;obtain⟨F3,C,_⟩:=KF.tm (j.ak l);refine⟨_,rfl,B 0 _ rfl,(q.ak c (λh=>h)).cell rfl,⟨(Uz C _).mono ?_⟩⟩;rintro e w4 ⟨rfl,rfl⟩;obtain⟨Y,s2⟩:=aeO h H p (cx f);refine⟨_,_,rfl,λ_=>⟨(aao (D.ak c)).mono ?_⟩,λm=>by rw[Y]at m;cases m⟩;rintro e w5 ⟨rfl,rfl⟩;refine⟨_,rfl,λm=>?_,λ_=>⟨i+1,⟨rfl,rfl,by rw[J]<;>rfl,trivial⟩,⟨by omega,c⟩,by omega⟩⟩;have m:=aL m;omega
 ·rw[agb];have n:=G.trans s (λ_ _ h=>h);refine⟨(CK (o.no n)).mono ?_⟩;rintro e L ⟨rfl,d⟩;exact⟨_,rfl,I _ (n.trans d (λ_ _ h=>h))⟩
end
set_option maxRecDepth 100000 in
theorem topProgress_ok {W:World} (f:Tab W) {n:Int} (hn:(Lit.int .i64 n).wf=ag) {es:List cu} {q:Option Addr} {c:Nat} (_:∀x∈es,okIIIUI x) (hq:Cells W q (es.flatMap recIIIUI)) (_:es.length<=maxLen) {Q:Int} (_:(Lit.int .i64 Q).wf=ag) :
  Cx 7 #[I n,.slice q es.length c,I Q] W λe w'=>e=Z (.bool ag)/\av no W w':=by
 replace hq:Cells W q (es.flatMap lg):=hq;refine u7 ?_;rw[t7];by_cases hN:1<=n/\n<=64
 case neg=>
  refine⟨(aan n hN W).mono ?_⟩;rintro e w1 ⟨rfl,rfl⟩;refine⟨_,_,rfl,λg=>by simp at g,λ_=>⟨(CK f).mono ?_⟩⟩;rintro e w2 ⟨rfl,u⟩;exact⟨_,rfl,rfl,u⟩
 obtain⟨N,rfl⟩:∃N:Nat,n=(N:Int):=⟨n.toNat,by omega⟩;have y:1<=N/\N<=64:=by omega
 refine⟨(RF N y W).mono ?_⟩;rintro e w1 ⟨b,F,rfl,hK,z,hF⟩;have B:Tab w1:=f.no z;have hp:=f.pos;have h0:¬F 0:=λh=>by have:=hF 0 h;omega
 have up:∀{σ:Type} {A:Ob σ} {s:σ} {w':World},ai A w1 w' F s->av no W w':=λ⟨_,_,u,_⟩=>z.trans u (λi hi hf=>by have:=hF i hf;omega);refine⟨_,_,rfl,λ_=>⟨(YB (N:Int) w1).mono ?_⟩,λg=>by simp at g⟩;rintro e w2 ⟨rfl,rfl⟩;refine⟨_,rfl,λg=>⟨(CK B).mono ?_⟩,λg=>⟨?_⟩⟩
 ·rintro e w3 ⟨rfl,u⟩;exact⟨_,rfl,rfl,z.trans u (λ_ _ h=>h)⟩
 have g:1<=(N:Int)/\(N:Int)<=9/\es.length<=300:=by simpa using g
 have O:∀i,ph ((es.take i).foldl cT (dF N))/\((es.take i).foldl cT (dF N)).n=N:=λi=>ph.all _ (ph.new y);refine bO bu (M:=M7) (σ:=Nat) (λi=>H8 (N:Int) q es.length c Q (aa ⟨b,0,ah⟩) (i:Int)) (λi w'=>i<=es.length/\ai (KO b) w2 w' F ((es.take i).foldl cT (dF N))) (λi _=>es.length-i) 0 ⟨rfl,rfl,rfl,rfl,rfl,trivial⟩ ⟨cB _,ai.same hK⟩ ?_;intro i w5 hI;have hi:=hI.1;have R:=hI.2;clear hI;rw[aga];refine⟨λg1=>?_,λg1=>aU.mk ?_⟩
 ·have T:i<es.length:=by simpa using g1
  obtain⟨a,ha,V⟩:=(hq.no (up R)).qG Yn (by decide) T
  have bm:(es.take (i+1)).foldl cT (dF N)=cT ((es.take i).foldl cT (dF N)) es[i]:=by
   rw[eW T,mH];rfl
  have ei:aV .i64 ((i:Int)+1)=((i+1:Nat):Int):=by rw[aP (by omega)];rfl
  refine⟨⟨by omega,by omega⟩,a,ha,_,V 0 _ rfl,_,V 1 _ rfl,_,V 2 _ rfl,_,V 3 _ rfl,_,V 4 _ rfl,⟨(wm (e:=es[i]) B h0 R (O i).1.S.iW).mono ?_⟩⟩;rintro e w7 ⟨pr,cr,rfl,m⟩;have m:=m.drop;rw[<-bm]at m;exact⟨_,_,_,rfl,i+1,⟨rfl,rfl,rfl,rfl,by rw[ei]<;>rfl,trivial⟩,⟨by omega,m⟩,by omega⟩
 obtain⟨H,o⟩:=O i;clear O hi g1;generalize (es.take i).foldl cT (dF N)=k0 at R H o;have dc:av no W w5:=up R;rw[af9];refine⟨(wm (e:=(2,0,0,0,Q)) B h0 R H.S.iW).mono ?_⟩;rintro e X ⟨pr,cr,rfl,m⟩;have m:=m.drop;obtain⟨H,n1⟩:=H.one (2,0,0,0,Q);have o:=n1.trans o;clear n1 R;generalize cT k0 (2,0,0,0,Q)=j at m H o;have Y:av no W X:=up m
 obtain⟨F6,al,bs,bv,bw⟩:∃F6,KO b X F6 j/\Tab X/\¬F6 0/\∀i,F6 i->W.heap.size<=i:=by
  have ht:=m.ml B h0;obtain⟨F6,a1,a2,a3⟩:=m;have hz:=z.size;have key:∀i,F6 i->W.heap.size<=i:=λi hi=>(a3 i hi).elim (hF i) λh=>by omega
  exact⟨F6,a1,ht,λh=>by have:=key 0 h;omega,key⟩
 obtain⟨q7,bz⟩:=KO.fix (ai.same al);obtain⟨cq,hgate⟩:=aaw bz;refine⟨_,_,_,rfl,⟨(hgate _ (av.refl _ _)).mono ?_⟩⟩;rintro e w8 ⟨rfl,am,F8,cb⟩;have J:=Y.trans am (λ_ _ h=>h);refine⟨_,rfl,⟨(ID cb).mono ?_⟩⟩;rintro e w9 ⟨rfl,rfl⟩;refine⟨_,rfl,λ_=>⟨(CK (f.no J)).mono ?_⟩,λg1=>⟨(Yw y _).mono ?_⟩⟩
 ·rintro e w3 ⟨rfl,u⟩;exact⟨_,rfl,rfl,J.trans u (λ_ _ h=>h)⟩
 have g1:¬j.ga.1.sum>0:=aT g1;rintro e w9 ⟨rfl,rfl⟩;refine⟨_,rfl,⟨(Y0 y.1 (by omega) _).mono ?_⟩⟩;rintro e w7 ⟨pp,pc,rfl,hL⟩;have cc:ai (aF (KO b) (Ls 3)) X w7 F6 (j,(pp,pc,fS N (500*N))):=((ai.same al).ak am).add hL.U ⟨λ_=>bp,hL.S⟩ hL.F;have G0:fJ j:=⟨H.h,H.S,by omega,H.t,by omega⟩;have hl:(fS j.n (500*j.n)).length=500*j.n:=Uy _ _;subst o;refine⟨_,_,_,rfl,⟨(Yz bs bv G0.S cc (by rw[hl];omega) (KG (by omega))).mono ?_⟩⟩;rintro e ap ⟨rfl,p⟩;rw[G0.OO.1,aj rfl];have hm:=OR bG di (fS j.n (500*j.n)) j;have C:=X4 G0;obtain⟨G1,_,n1⟩:=G0.X3 (I:=λ_=>True) trivial (λ_ _ _ _=>trivial) (fS j.n (500*j.n));have d1:=G0.OO.2;replace p:ai (aF (KO b) (Ls 3)) X ap F6 (vR j,(pp,pc,fS j.n (500*j.n))):=p;have G1:fJ (vR j):=G1;have d:=p.drop
 have aq:av no W ap:=by
  obtain⟨_,_,u,_⟩:=d;exact Y.trans u λi hi hf=>by have:=bw i hf;omega
 generalize vR j=k2 at d G1 d1 C;obtain⟨dl,az⟩:=KO.fix d;refine⟨_,_,rfl,⟨(Vy az G1.h G1.S).mono ?_⟩⟩;rintro e D ⟨a,rfl,hP,bb⟩;refine⟨_,_,_,_,_,_,_,_,_,_,_,_,_,_,_,_,_,_,_,_,_,_,_,_,_,_,_,_,_,_,rfl,⟨λdn be=>?_⟩⟩;refine be.aK.gF (by simp) λbl hW=>?_;have l:aM bl D.heap.size (eJ (cA k2) a) 65:=hW.aK;have L:av no D bl:=(be.ak no).trans (av.mono (G:=λi=>i=D.heap.size) hW.U (λ_ _ h=>h)) (λi hi h=>by omega);replace hP:=hP.no L;have cd:=bb.trans L (λ_ _ h=>h);generalize D.heap.size=pb at l⊢;refine⟨_,l.cell rfl,_,l.cell rfl,_,l.cell rfl,_,l.cell rfl,_,_,_,l.cell rfl,_,_,_,l.cell rfl,_,_,_,l.cell rfl,_,_,_,l.cell rfl,_,_,_,l.cell rfl,_,_,_,l.cell rfl,_,_,_,l.cell rfl,_,l.cell rfl,_,l.cell rfl,_,l.cell rfl,_,l.cell rfl,⟨(Xl hP (adH G1.h G1.S)).mono ?_⟩⟩;rintro e ds ⟨rfl,r⟩;have E:=cd.trans r (λ_ _ h=>h);refine⟨_,_,rfl,λ_=>⟨λ_=>⟨λ_=>⟨λ_=>⟨λ_=>⟨(Rz (d.ak E)).mono ?_⟩,λg=>by simp at g⟩,λg=>by simp at g⟩,λg=>by simp at g⟩,λg=>?_⟩,λg=>by simp at g⟩
 ·rintro e ce ⟨rfl,rfl⟩;refine⟨_,rfl,⟨(I5 (d.ak E)).mono ?_⟩⟩;rintro e ce ⟨rfl,rfl⟩;have cl:=(G1.h.dk.free d1).1;have P:=l.ak r (λh=>h);refine⟨_,rfl,λ_=>⟨_,_,_,P.cell rfl,_,_,_,P.cell rfl,λg=>?_,λ_=>⟨acW f (aq.trans E (λ_ _ h=>h)) (d.ak E) G1.h G1.S C P (hP.no r) λw' h=>⟨rfl,h⟩⟩⟩,λg=>by rw[cl]at g;simp at g⟩;have e1:(cA k2).wk=[]:=aeP C;have e2:(cA k2).ca=[]:=aeM C;rw[e1,e2]at g;cases g
 ·have g:=aL g;omega
end Go.Dav
