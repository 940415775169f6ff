/- What functions of the program come to, part 6; the texts are made small to keep within a claim. -/
import Derived.Test.YtobclpijhmkniaaGreatDoorPartE
set_option linter.unusedVariables false
set_option linter.unusedSimpArgs false
set_option linter.unusedSectionVars false
namespace Go.Dav
open Go.Proofs
theorem rE {α:Type} {a b:List α} (h:a.Nodup) (hs:∀x∈a,x∈b) {y:α} (hy:y∈b) (hn:y∉a):a.length<b.length:=by
 have:=(List.nodup_cons.2 ⟨hn,h⟩).length_le_of_subset (l₂:=b) (fun x hx=>by
  rcases List.mem_cons.1 hx with rfl|hx
  ·exact hy
  ·exact hs x hx)
 simpa [Nat.lt_iff_add_one_le]using this
theorem zN (t:cA) (p:Int×Int->Bool):(eU t p).Nodup:=by
 unfold eU;refine List.Pairwise.map _ ?_ (List.Pairwise.filter _ List.nodup_range);intro a b hab e;exact hab (by omega)
theorem Tn (t:cA) (p:Int×Int->Bool):(eU t p).length<=t.length:=by
 refine nz (zN t p) fun v hv=>?_;obtain⟨x,h1,_⟩:=iT.1 hv;exact xi h1
theorem xm (p:Int->Bool) (n:Nat):(aV p n).length<=n:=by
 unfold aV;refine Nat.le_trans (List.length_filter_le ..) ?_;simp
def ln (Q:List (List Int)):Nat:=(Q.map List.length).sum
theorem En:∀{Q:List (List Int)} {i:Nat} (hi:i<Q.length) (l:List Int),ln (Q.set i l)+Q[i].length=ln Q+l.length
 | q::Q,0,_,l=>by simp only[ln,List.set_cons_zero,List.map_cons,List.sum_cons,List.getElem_cons_zero];omega
 | q::Q,i+1,hi,l=>by
  have:=En (Q:=Q) (i:=i) (by simpa using hi) l;simp only[ln,List.set_cons_succ,List.map_cons,List.sum_cons,List.getElem_cons_succ]at this⊢;omega
theorem U8 {Q:List (List Int)} {m:Nat} (h1:∀v,ct Q v<=1) (h2:∀v,0<ct Q v->1<=v/\v<=m):ln Q<=m:=by
 have:=nz (l:=Q.flatten) (m:=m) (List.nodup_iff_count.2 h1) fun v hv=>h2 v (List.count_pos_iff.2 hv);rw[List.length_flatten]at this;exact this
def nT (x:bG):Nat:=(eU x.t fun p=>decide (p.2<=x.now)).length
def nI (s:bj):Nat:=(aV (cv s) 16).length
def nK (k:K):Nat:=nT k.tm+ln k.wk+ln k.ca.2+nI k.ir
def iP (k:K) (c:Int):Bool:=decide (0<(cJ k.ca c).length)||(jJ k c).2||jD k.tm c||decide (0<(bF k.wk c).length+(bF k.wk (-1)).length)
def nJ (k:K):Nat:=(aV (fun c=>hs k.ac c&&(aJ k.co c).idle&&iP k c) k.n).length
theorem Vy {k:K} (h:ax k) (hS:ar k):nK k<=128:=by
 have h1:nT k.tm<=48:=by have:=Tn k.tm.t fun p=>decide (p.2<=k.tm.now);rw[hS.jc]at this;exact this
 have h2:ln k.wk<=32:=U8 hS.iF hS.jf
 have h3:ln k.ca.2<=32:=U8 h.ci.one fun v hv=>by
  have:=h.ci.has v;rw[decide_eq_true hv]at this;have:=nC this;rw[h.ci.len]at this;exact this
 have h4:nI k.ir<=16:=xm _ _;unfold nK;omega
theorem Gj {k:K} {c:Int}:(jJ k c).2=true↔∃n∈ft k.rt c,cv k.ir n=true:=by
 unfold jJ
 cases hf:(ft k.rt c).find? (cv k.ir)with
 | none=>
  rw[List.find?_eq_none]at hf;simp only[Bool.false_eq_true,false_iff,not_exists,not_and]
  exact hf
 | some n=>exact⟨fun _=>⟨n,List.mem_of_find?_eq_some hf,List.find?_some hf⟩,fun _=>rfl⟩
theorem Wt {x:bG} {c:Int}:jD x c=true↔cE x c/\∃t p,aO x.t t=some p/\p.1=c/\p.2<=x.now:=by
 unfold jD;rw[Bool.and_eq_true,decide_eq_true_eq,decide_eq_true_eq];refine and_congr Iff.rfl ⟨fun h=>?_,fun⟨t,p,h1,h2,h3⟩=>?_⟩
 ·obtain⟨a,ha⟩:=List.exists_mem_of_length_pos h;obtain⟨p,h1⟩:=CP ha;exact⟨a,p,h1⟩
 ·refine List.length_pos_of_mem (a:=t) ?_;unfold jb;refine(List.Perm.mem_iff (gX ..)).2 (iT.2 ⟨p,h1,?_⟩);simp[h2,h3]
theorem EW {s:bj} {n:Int} (h:cv s n=true):(0<=n/\n<16)/\(gq s n).1=true:=by
 unfold cv at h;simp only[Bool.and_eq_true,decide_eq_true_eq]at h;have:=qA h.1.1;unfold fS at this;exact⟨by omega,this.2⟩
structure qI (k' k:K):Prop where
 c:∀d,(cJ k'.ca d).length<=(cJ k.ca d).length
 w:∀d,(bF k'.wk d).length<=(bF k.wk d).length
 t:∀d,jD k'.tm d=true->jD k.tm d=true
 i:∀n,cv k'.ir n=true->cv k.ir n=true
 rt:k'.rt=k.rt
theorem qI.has {k' k:K} (h:qI k' k) {d:Int} (hh:iP k' d=true):iP k d=true:=by
 unfold iP at hh⊢;have h1:=h.c d;have h2:=h.w d;have h3:=h.w (-1);simp only[Bool.or_eq_true,decide_eq_true_eq]at hh⊢;rcases hh with((hh|hh)|hh)|hh
 ·exact .inl (.inl (.inl (by omega)))
 ·rw[Gj,h.rt]at hh;obtain⟨n,h4,h5⟩:=hh;exact .inl (.inl (.inr (Gj.2 ⟨n,h4,h.i n h5⟩)))
 ·exact .inl (.inr (h.t d hh))
 ·exact .inr (by omega)
theorem qI.nj {k' k:K} (h:qI k' k) (ha:k'.ac=k.ac) (hn:k'.n=k.n) (hi:∀d,(aJ k'.co d).idle=true->(aJ k.co d).idle=true∨iP k d=false):nJ k'<=nJ k:=by
 unfold nJ;rw[hn,ha];refine(pD _ _).length_le_of_subset fun d hd=>?_;rw[dT]at hd⊢;simp only[Bool.and_eq_true]at hd⊢;obtain⟨d0,d1,⟨d2,d3⟩,d4⟩:=hd;have:=h.has d4;rcases hi d d3 with e|e
 ·exact⟨d0,d1,⟨d2,e⟩,this⟩
 ·rw[e]at this;cases this
section
variable {k:K}
theorem Zs (h:ax k) {c:Int} (hc:0<(cJ k.ca c).length):(∀d,(cJ (gZ k.ca c) d).length<=(cJ k.ca d).length)/\ln (gZ k.ca c).2<ln k.ca.2:=by
 obtain⟨_,e2,_,e4⟩:=h.ci.Xk c
 have hin:aT k.ca c:=by
  unfold cJ at hc;split at hc
  ·assumption
  ·simp at hc
 have hrow:0<(aM k.ca c).length:=by unfold cJ at hc;rwa [if_pos hin]at hc
 rw[if_pos hin]at e2;have hi:c.toNat<k.ca.2.length:=by unfold aT at hin;omega
 have eg:k.ca.2[c.toNat]=aM k.ca c:=by unfold aM;rw[List.getD_eq_getElem?_getD,List.getElem?_eq_getElem hi];rfl
 refine⟨fun d=>?_,?_⟩
 ·unfold cJ;by_cases hd:aT k.ca d
  ·have hd':aT (gZ k.ca c) d:=by unfold aT at hd⊢;rw[e4];exact hd
   rw[if_pos hd,if_pos hd'];have e5:aM (gZ k.ca c) d=aM (k.ca.1,k.ca.2.set c.toNat (aM k.ca c).tail) d:=wQ (by rw[e2]) d;rw[e5,rK hin hd.1];split
   ·rename_i e;subst e;simp
   ·exact Nat.le_refl _
  ·have hd':¬aT (gZ k.ca c) d:=by unfold aT at hd⊢;rw[e4];exact hd
   rw[if_neg hd,if_neg hd'];exact Nat.le_refl _
 ·rw[e2];have:=En hi (aM k.ca c).tail;rw[eg]at this;simp at this;omega
theorem aca (hS:ar k) {n:Int} (hr:cv k.ir n=true):(∀m,cv (jt k.ir n) m=true->cv k.ir m=true)/\nI (jt k.ir n)<nI k.ir:=by
 have hin:=EW hr;have hr':=hr;unfold cv at hr';simp only[Bool.and_eq_true,decide_eq_true_eq]at hr'
 have e:jt k.ir n=gQ k.ir n ((gq k.ir n).1,(gq k.ir n).2.1,false,(gq k.ir n).2.2.2):=by
  unfold jt;rw[if_pos];unfold lI;rw[if_pos hr'.1.1,if_pos hr]
 have hno:¬fS n:=(qA hr'.1.1).1
 have key:∀m,cv (jt k.ir n) m=true->cv k.ir m=true/\m≠n:=by
  intro m hm;have hmi:=EW hm;have hg:=zI (q:=((gq k.ir n).1,(gq k.ir n).2.1,false,(gq k.ir n).2.2.2)) hS.fk hno hmi.1.1;rw[<-e]at hg;by_cases hmn:m=n
  ·rw[if_pos hmn]at hg;unfold cv at hm;rw[hg]at hm;simp at hm
  ·rw[if_neg hmn]at hg;refine⟨?_,hmn⟩;unfold cv cR at hm⊢;rw[hg]at hm;exact hm
 refine⟨fun m hm=>(key m hm).1,?_⟩;unfold nI;refine rE (pD _ _) (y:=n) (fun m hm=>?_) (dT.2 ⟨hin.1.1,by omega,hr⟩) (fun hm=>?_)
 ·rw[dT]at hm⊢;exact⟨hm.1,hm.2.1,(key m hm.2.2).1⟩
 ·exact(key n (dT.1 hm).2.2).2 rfl
theorem aac {x x':bG} {a:Int} {p:Int×Int} (hp:aO x.t a=some p) (hat:∀j,aO x'.t j=if j=a then none else aO x.t j) (hn:x'.n=x.n) (hw:x'.now=x.now) (q:Int×Int->Bool) :
  (∀d,jD x' d=true->jD x d=true)/\(eU x'.t q).length<=(eU x.t q).length/\(q p=true->(eU x'.t q).length<(eU x.t q).length):=by
 have sub:∀j∈eU x'.t q,j∈eU x.t q/\j≠a:=by
  intro j hj;obtain⟨y,h1,h2⟩:=iT.1 hj;rw[hat]at h1;split at h1
  ·cases h1
  ·rename_i e;exact⟨iT.2 ⟨y,h1,h2⟩,e⟩
 refine⟨fun d hd=>?_,(zN _ _).length_le_of_subset fun j hj=>(sub j hj).1,fun hq=>rE (zN _ _) (fun j hj=>(sub j hj).1) (iT.2 ⟨p,hp,hq⟩) (fun hm=>(sub a hm).2 rfl)⟩;rw[Wt]at hd⊢;obtain⟨h1,t,y,h2,h3,h4⟩:=hd;rw[hat]at h2;rw[hw]at h4;split at h2
 ·cases h2
 ·exact⟨by unfold cE at h1⊢;rw[hn]at h1;exact h1,t,y,h2,h3,h4⟩
theorem aa1 {x:bG} {c:Int} (hr:jD x c=true):∃a p,aO x.t a=some p/\p.1=c/\p.2<=x.now/\(cy x c).1=a/\dS x c=pU x a:=by
 have h:=hr;unfold jD at h;simp only[Bool.and_eq_true,decide_eq_true_eq]at h
 cases hl:jb x.now x.t c with
 | nil=>rw[hl]at h;simp at h
 | cons a l=>
  obtain⟨p,h1,h2,h3⟩:=CP (x:=x) (c:=c) (a:=a) (by rw[hl];simp);exact⟨a,p,h1,h2,h3,by unfold cy;rw[if_pos h.1,hl],by unfold dS;rw[if_pos h.1,hl]⟩
theorem amW (hS:ar k) {c:Int} (hc:0<=c/\c<k.n) (hp:0<(bF k.wk c).length+(bF k.wk (-1)).length):(∀d,(bF (lX k.wk c) d).length<=(bF k.wk d).length)/\ln (lX k.wk c)<ln k.wk:=by
 have hl:=hS.gh;have hin:bY k.wk c 0:=⟨hc.1,by omega⟩
 have key:∀(e v:Int) (l:List Int),-1<=e->e+1<k.wk.length->bV k.wk e=v::l->(∀d,(bF (ky k.wk v) d).length<=(bF k.wk d).length)/\ln (ky k.wk v)<ln k.wk:=by
  intro e v l h1 h2 he;have hi:ix e<k.wk.length:=by unfold ix;omega
  have eg:k.wk[ix e]=bV k.wk e:=by unfold bV;rw[List.getD_eq_getElem?_getD,List.getElem?_eq_getElem hi];rfl
  have hw:gE k.wk v=some e:=by
   rw[uC hS.iF hi (by rw[eg,he];simp)];unfold ix;congr 1;omega
  have ed:ky k.wk v=k.wk.set (ix e) l:=by
   unfold ky;rw[hw];simp only;rw[he];simp
  rw[ed];refine⟨fun d=>?_,?_⟩
  ·unfold bF;by_cases hd:bY k.wk d (-1)
   ·have hd':bY (k.wk.set (ix e) l) d (-1):=by unfold bY at hd⊢;rw[List.length_set];exact hd
    rw[if_pos hd,if_pos hd',AP ⟨h1,h2⟩ hd.1];split
    ·rename_i e';rw[e',he];simp
    ·exact Nat.le_refl _
   ·have hd':¬bY (k.wk.set (ix e) l) d (-1):=by unfold bY at hd⊢;rw[List.length_set];exact hd
    rw[if_neg hd,if_neg hd'];exact Nat.le_refl _
  ·have:=En hi l;rw[eg,he]at this;simp at this;omega
 unfold lX;rw[if_pos hin]
 cases h1:bV k.wk c with
 | cons a l=>exact key c a l (by omega) (by omega) h1
 | nil=>
  cases h2:bV k.wk (-1)with
  | cons a l=>exact key (-1) a l (by omega) (by omega) h2
  | nil=>
   unfold bF at hp;rw[if_pos (show bY k.wk c (-1)from⟨by omega,by omega⟩),if_pos (show bY k.wk (-1) (-1)from⟨by omega,by omega⟩),h1,h2]at hp;simp at hp
end
theorem Gl (f:Fl):(f.1=true/\cK f=2)∨(f.1=false/\f.2.2.1=true/\cK f=3)∨(f.1=false/\f.2.2.1=false/\(f.2.1=true∨f.2.2.2.1=false)/\cK f=0)∨
  (f.1=false/\f.2.2.1=false/\f.2.2.2.1=true/\((f.2.2.2.2.1=true/\cK f=4)∨(f.2.2.2.2.2.1=true/\cK f=5)∨(f.2.2.2.2.2.2.1=true/\cK f=6)∨(f.2.2.2.2.2.2.2.1=true/\cK f=7)∨
   ((f.2.2.2.2.1=false/\f.2.2.2.2.2.1=false/\f.2.2.2.2.2.2.1=false/\f.2.2.2.2.2.2.2.1=false)/\(cK f=8∨cK f=9)))):=by
 unfold cK;by_cases h1:f.1=true
 ·exact .inl ⟨h1,by rw[if_pos h1]⟩
 rw[if_neg h1];have h1:f.1=false:=by simpa using h1
 right;by_cases h2:f.2.2.1=true
 ·exact .inl ⟨h1,h2,by rw[if_pos h2]⟩
 rw[if_neg h2];have h2:f.2.2.1=false:=by simpa using h2
 right;by_cases h3:(f.2.1||!f.2.2.2.1)=true
 ·exact .inl ⟨h1,h2,by simpa using h3,by rw[if_pos h3]⟩
 rw[if_neg h3];have h3:f.2.2.2.1=true:=by simp at h3;exact h3.2
 refine .inr ⟨h1,h2,h3,?_⟩;by_cases h4:f.2.2.2.2.1=true
 ·exact .inl ⟨h4,by rw[if_pos h4]⟩
 rw[if_neg h4];right;by_cases h5:f.2.2.2.2.2.1=true
 ·exact .inl ⟨h5,by rw[if_pos h5]⟩
 rw[if_neg h5];right;by_cases h6:f.2.2.2.2.2.2.1=true
 ·exact .inl ⟨h6,by rw[if_pos h6]⟩
 rw[if_neg h6];right;by_cases h7:f.2.2.2.2.2.2.2.1=true
 ·exact .inl ⟨h7,by rw[if_pos h7]⟩
 rw[if_neg h7];right;refine⟨⟨by simpa using h4,by simpa using h5,by simpa using h6,by simpa using h7⟩,?_⟩;split
 ·exact .inl rfl
 ·exact .inr rfl
theorem ZM (pw idle:Bool) (f:Fl):(ov pw idle f=0/\(pw=false∨cK f=0∨(idle=true/\cK f=9)))∨(pw=true/\idle=true/\ov pw idle f=1)∨(pw=true/\idle=false/\ov pw idle f=cK f/\cK f≠0):=by
 unfold ov
 cases pw with
 | false=>exact .inl ⟨rfl,.inl rfl⟩
 | true=>
  cases idle with
  | false=>
   by_cases h:cK f=0
   ·exact .inl ⟨by simp[h],.inr (.inl h)⟩
   ·exact .inr (.inr ⟨rfl,rfl,by simp,h⟩)
  | true=>
   by_cases h:cK f=0∨cK f=9
   ·exact .inl ⟨by simp[h],.inr (h.imp id fun h=>⟨rfl,h⟩)⟩
   ·exact .inr (.inl ⟨rfl,rfl,by simp[h]⟩)
end Go.Dav
namespace Go.Dav
open Go.Proofs
def wg (k:K):Int×List Int:=(k.now,k.ga.1)
theorem SY (k:K) (id:Int):wg (dU k id)=wg k:=by unfold dU;split<;>rfl
theorem SS (k:K) (id:Int):wg (dR k id)=wg k:=by unfold dR;split<;>rfl
theorem SZ:∀(l:List Int) (k:K),wg (l.foldl dU k)=wg k
 | [],_=>rfl
 | a::l,k=>(SZ l _).trans (SY k a)
theorem SU:∀(l:List Int) (k:K),wg (l.foldl dR k)=wg k
 | [],_=>rfl
 | a::l,k=>(SU l _).trans (SS k a)
theorem SX (c:Int):∀(l:List Int) (k:K),wg (l.foldl (fun k n=>ey k n c) k)=wg k
 | [],_=>rfl
 | a::l,k=>(SX c l _).trans rfl
theorem S0 (k:K) (s:Int×Bool×Bool) (c ah:Int):wg (b6 k s c ah)=wg k:=by
 unfold b6;split
 ·unfold jH;split;rfl;split<;>rfl
 split;unfold kO wg;simp only;split<;>rfl;split
 ·unfold iJ;split;rfl;split;rfl;simp only;rw[SU,SZ];rfl
 ·unfold dy;split;rfl;split;unfold eQ;split<;>rfl;split;rfl;split;rfl;split;rfl;split
  ·unfold jz;split;rfl;split
   ·exact SX _ _ _
   ·rfl
  split;rfl;split<;>rfl
theorem abk (k:K) (ah:Int):wg (eK k ah)=wg k:=by
 have h1:wg (dY k ah)=wg k:=by
  unfold dY;simp only;split;rfl;split
  ·exact(S0 _ _ _ _).trans rfl
  ·exact(S0 _ _ _ _).trans rfl
 unfold eK;split
 ·exact h1
 ·exact h1
theorem abj (k:K) (c what:Int):wg (dC k c what)=wg k:=by
 unfold dC;split;rfl;split;rfl;split;unfold du;simp only;split<;>rfl;split<;>rfl
theorem S5 (k:K) (c:Int):wg (aK k c)=wg k:=by
 unfold aK;split;rfl;split;rfl;split;rfl;split;exact abk _ _;split;rfl;exact abj _ _ _
theorem amB (k:K) (p:Int) (m:BV):(lj k p m).now=k.now:=by unfold lj;split<;>rfl
theorem amA (k:K) (id:Int) (x:Th) (n:Int):(lg k id x n).now=k.now:=by unfold lg;split;split<;>rfl;rfl
theorem amw (k:K) (id:Int) (x:Th):(kF k id x).now=k.now:=by unfold kF;split<;>rfl
theorem amC (k:K) (e:aU):(eI k e).now=k.now:=by
 unfold eI;simp only;split;rfl;split;rfl;split;exact amw _ _ _;split
 ·split
  ·exact congrArg (·.1) (SY _ _)
  ·rfl
 split;rfl;split;exact amA _ _ _ _;split<;>rfl
theorem amx (k:K) (e:aU):(jW k e).now=k.now:=by
 unfold jW;split;split<;>rfl;split;split<;>rfl;split;split;exact congrArg (·.1) (SS _ _);rfl;split;rfl;split<;>rfl
theorem XE (k:K) (e:aU):(fG k e).now=k.now:=by
 unfold fG;split;rfl;split;unfold np;split<;>rfl;split;rfl;split;rfl;split;rfl;split<;>rfl
theorem amz (k:K) (e:aU):(fA k e).now=k.now:=by
 unfold fA;split;unfold nv;split;split<;>rfl;rfl;split;rfl;split;rfl;split;rfl;split;unfold qe;split<;>rfl;split;rfl;split;unfold jn;split;rfl;split<;>rfl;rfl
theorem amy (k:K) (up:Bool) (c:Int):(bP k up c).now=k.now:=by
 unfold bP;split;rfl;split;rfl;split;rfl;split;rfl;split<;>rfl
theorem amv (k:K) (e:aU) (h:aN k.now):aN (bX k e).now:=by
 unfold bX;split;split;exact h;rw[show(aK k e.2.1).now=k.now from congrArg (·.1) (S5 _ _)];exact h;split
 ·unfold lZ;split
  ·rename_i hl;have:=UR hl;show aN (aP k.now _).1;rw[this.2.2.1];exact this.2.2.2
  ·exact h
 split;rw[amB];exact h;split;rw[amC];exact h;split;rw[amx];exact h;split;split;exact h;rw[XE];exact h;split;rw[XE];exact h;split;rw[amy];exact h;rw[amz];exact h
def lx (k:K) (c:Int):Nat:=(eU k.tm.t fun p=>decide (p.1=c)).length
def sW (k:K):Nat:=(aV (hs (bc k.sp)) k.n).length+(aV (fun c=>hs (bc k.sp) c&&(aJ k.co c).idle) k.n).length
def cq (k:K) (r:aG):Nat:=
 if r.ag=2 then(aY k.rq r.ab).length+1 else if r.ag=3 then lx k r.ab+1 else if r.ag=4 then(bF k.wk r.ab).length+1 else if r.ag=5 then(cJ k.ca r.ab).length+1
 else if r.ag=6 then(if k.sp.1=0 then 21 else 1+sW k)else 1
def da (d:Int):Nat:=if d=0 then 173 else if d=1 then 172 else if d=2 then 139 else if d=3 then 90 else if d=4 then 57 else if d=5 then 24 else if d=6 then 3 else if d=7 then 2 else if d=8 then 1 else 0
def dX (k:K) (r:aG):Nat:=if r.back then r.ag.toNat else 12+(if r.up then(4-r.ag).toNat else da r.ag+cq k r)
def ck (k:K) (r:aG):Nat:=if(aJ k.co r.ah).idle then 1 else 0
def dW (k:K):Nat:=match k.dk.1 with|some r=>140+dX k r+ck k r|none=>nK k+nJ k
def Rp (k:K) (c:Int):Prop:=match k.dk.1 with
 | some r=>if k.sp.1≠0/\fB k.sp=false then hs (bc k.sp) c=true else c=r.ah
 | none=>hs k.ac c=true/\iP k c=true
theorem mH {k:K} {r:aG} (hd:k.dk.1=some r):dW k=140+dX k r+ck k r:=by unfold dW;rw[hd]
theorem lR {k:K} (hd:k.dk.1=none):dW k=nK k+nJ k:=by unfold dW;rw[hd]
theorem qq {k:K} {r:aG} (hd:k.dk.1=some r) (c:Int):Rp k c=(if k.sp.1≠0/\fB k.sp=false then hs (bc k.sp) c=true else c=r.ah):=by unfold Rp;rw[hd]
theorem mM {k:K} (hd:k.dk.1=none) (c:Int):Rp k c=(hs k.ac c=true/\iP k c=true):=by unfold Rp;rw[hd]
structure bT (k:K):Prop where
 h:ax k
 S:ar k
 g:k.ga.1.sum<=0
 t:aN k.now
 n9:k.n<=9
theorem Vx (k:K):nJ k<=k.n:=xm _ _
theorem WR (k:K):sW k<=2*k.n:=by
 have h1:=xm (hs (bc k.sp)) k.n;have h2:=xm (fun c=>hs (bc k.sp) c&&(aJ k.co c).idle) k.n;unfold sW;omega
theorem bT.step {k:K} (G:bT k) (c:Int):bT (aK k c):=by
 have e:=S5 k c;have e1:(aK k c).now=k.now:=congrArg (·.1) e;have e2:(aK k c).ga.1=k.ga.1:=congrArg (·.2) e;exact⟨G.h.step G.S c,G.S.step c,by rw[e2];exact G.g,by rw[e1];exact G.t,by rw[wE];exact G.n9⟩
def Prog (k' k:K) (c:Int):Prop:=dW k'<=dW k/\(Rp k c->dW k'<dW k)/\∀d,d≠c->Rp k d->dW k'<dW k∨Rp k' d
theorem Prog.lt {k' k:K} {c:Int} (h:dW k'<dW k):Prog k' k c:=⟨Nat.le_of_lt h,fun _=>h,fun _ _ _=>.inl h⟩
theorem Prog.keep {k' k:K} {c:Int} (h:dW k'<=dW k) (hn:¬Rp k c) (hr:∀d,Rp k d->Rp k' d):Prog k' k c:=⟨h,fun hh=>absurd hh hn,fun d hd hh=>.inr (hr d hh)⟩
structure vd (k' k:K):Prop where
 less:qI k' k
 nk:nK k'<nK k
 ac:k'.ac=k.ac
 co:k'.co=k.co
 sp:k'.sp=k.sp
 dk:k'.dk=k.dk
 n:k'.n=k.n
 tl:∀d,lx k' d<=lx k d
 ql:∀d,hs k.ac d=false->(aY k'.rq d).length<=(aY k.rq d).length
theorem Wk {x:RS} {c p id d:Int} (hc:0<=c) (hd:d≠c):aY (fY x c p id) d=aY x d:=by
 unfold fY;split
 ·unfold aY;by_cases h:cI x d
  ·have h':cI (x.set c.toNat (fT (eG x c) p id)) d:=by unfold cI at h⊢;rw[List.length_set];exact h
   rw[if_pos h,if_pos h'];unfold cI at h
   have e:eG (x.set c.toNat (fT (eG x c) p id)) d=eG x d:=by
    generalize fT (eG x c) p id=y;unfold eG;rw[List.getD_eq_getElem?_getD,List.getD_eq_getElem?_getD,List.getElem?_set_ne (by omega)]
   rw[e]
  ·have h':¬cI (x.set c.toNat (fT (eG x c) p id)) d:=by unfold cI at h⊢;rw[List.length_set];exact h
   rw[if_neg h,if_neg h']
 ·rfl
section
variable {k:K}
theorem amH (hac:k.ac≠0) (id:Int) {d:Int} (hd:hs k.ac d=false):aY (pF k id).rq d=aY k.rq d:=by
 unfold pF fU;simp only;have:=vD (m:=(bN {k with th:=iD k.th id} id).2.1) hac (bN {k with th:=iD k.th id} id).2.2.1;refine Wk (gP this).1 fun e=>?_;rw[e,this]at hd;cases hd
theorem amE {c:Int} (h:(jJ k c).2=true):cv k.ir (jJ k c).1=true:=by
 unfold jJ at h⊢
 cases hf:(ft k.rt c).find? (cv k.ir)with
 | none=>rw[hf]at h;cases h
 | some n=>exact List.find?_some hf
theorem ahQ (h:ax k) (hS:ar k) {c:Int} (hc:0<(cJ k.ca c).length):vd (dC k c 4) k:=by
 obtain⟨a1,a2⟩:=Zs h hc;have e:dC k c 4={k with ca:=gZ k.ca c}:=by unfold dC;simp
 rw[e];exact⟨⟨a1,fun _=>Nat.le_refl _,fun _ h=>h,fun _ h=>h,rfl⟩,by unfold nK;simp only;omega,rfl,rfl,rfl,rfl,rfl,fun _=>Nat.le_refl _,fun _ _=>Nat.le_refl _⟩
theorem ahP (h:ax k) (hS:ar k) {c:Int} (hc:(jJ k c).2=true):vd (dC k c 5) k:=by
 obtain⟨a1,a2⟩:=aca hS (amE hc);have e:dC k c 5={k with ir:=jt k.ir (jJ k c).1}:=by unfold dC;simp
 rw[e];exact⟨⟨fun _=>Nat.le_refl _,fun _=>Nat.le_refl _,fun _ h=>h,a1,rfl⟩,by unfold nK;simp only;omega,rfl,rfl,rfl,rfl,rfl,fun _=>Nat.le_refl _,fun _ _=>Nat.le_refl _⟩
theorem aa3 (k:K) (c:Int):(du k c).ca=k.ca/\(du k c).wk=k.wk/\(du k c).tm=dS k.tm c/\(du k c).ir=k.ir/\(du k c).rt=k.rt/\(du k c).ac=k.ac/\(du k c).co=k.co/\(du k c).sp=k.sp/\(du k c).dk=k.dk/\(du k c).n=k.n:=by
 unfold du;simp only;split
 ·exact⟨rfl,rfl,rfl,rfl,rfl,rfl,rfl,rfl,rfl,rfl⟩
 ·exact⟨rfl,rfl,rfl,rfl,rfl,rfl,rfl,rfl,rfl,rfl⟩
theorem ahS (h:ax k) (hS:ar k) {c:Int} (hc:jD k.tm c=true):vd (dC k c 6) k:=by
 obtain⟨a,p,h1,h2,h3,h4,h5⟩:=aa1 hc;have e:dC k c 6=du k c:=by unfold dC;simp
 rw[e];obtain⟨p1,p2,p3,p4,p5,p6,p7,p8,p9,p10⟩:=aa3 k c;have hat:∀j,aO (dS k.tm c).t j=if j=a then none else aO k.tm.t j:=fun j=>by rw[h5];exact RP h1 j
 have hnow:(dS k.tm c).now=k.tm.now:=by rw[h5];rfl
 have hn:(dS k.tm c).n=k.tm.n:=by rw[h5];rfl
 have hq:∀q:Int×Int->Bool,_:=fun q=>aac h1 hat hn hnow q;refine⟨⟨fun d=>by rw[p1];exact Nat.le_refl _,fun d=>by rw[p2];exact Nat.le_refl _,fun d hd=>(hq fun _=>true).1 d (by rw[<-p3];exact hd),fun m hm=>by rw[<-p4];exact hm,p5⟩,?_,p6,p7,p8,p9,p10,fun d=>by unfold lx;rw[p3];exact(hq _).2.1,fun d hd=>Nat.le_of_eq (congrArg List.length ?_)⟩
 ·have:=(hq fun p=>decide (p.2<=k.tm.now)).2.2 (decide_eq_true h3);unfold nK nT;rw[p1,p2,p3,p4,hnow];omega
 ·unfold du;simp only;split
  ·exact amH (k:={k with tm:=dS k.tm c,own:=nN k.own (cy k.tm c).1}) h.dk.an _ hd
  ·rfl
theorem ahR (h:ax k) (hS:ar k) {c:Int} (hi:0<=c/\c<k.n) (hc:0<(bF k.wk c).length+(bF k.wk (-1)).length):vd (dC k c 7) k:=by
 obtain⟨a1,a2⟩:=amW hS hi hc;have e:dC k c 7={k with wk:=lX k.wk c}:=by unfold dC;simp
 rw[e];exact⟨⟨fun _=>Nat.le_refl _,a1,fun _ h=>h,fun _ h=>h,rfl⟩,by unfold nK;simp only;omega,rfl,rfl,rfl,rfl,rfl,fun _=>Nat.le_refl _,fun _ _=>Nat.le_refl _⟩
theorem Xe (h:ax k) (hS:ar k) {c:Int} (hc:0<=c/\c<k.n) :
  (aK k c=k/\((aJ k.co c).pw=false∨(hs (bc k.sp) c=false/\(cC k c).2.2.1=false/\(hs k.sp.2 c=true∨hs k.ac c=false))∨(hs (bc k.sp) c=false/\(cC k c).2.2.1=false/\iP k c=false)))∨
  ((aJ k.co c).pw=true/\(aJ k.co c).idle=true/\aK k c={k with co:=cU k.co c k.now})∨
  ((aJ k.co c).pw=true/\(aJ k.co c).idle=false/\
   ((hs (bc k.sp) c=true/\aK k c={k with sp:=(iA k.sp c).2})∨
       (hs (bc k.sp) c=false/\(cC k c).2.2.1=true/\aK k c=eK k c)∨
       (hs (bc k.sp) c=false/\(cC k c).2.2.1=false/\hs k.ac c=true/\(vd (aK k c) k∨
    (iP k c=false/\(aK k c={k with rq:=la k.rq c}∨aK k c=mC k c)))))):=by
 rcases ZM (aJ k.co c).pw (aJ k.co c).idle (cC k c)with⟨e0,hx⟩|⟨p,i,e1⟩|⟨p,i,ew,hne⟩
 ·have e0:cw k c=0:=e0;refine .inl ⟨by unfold aK;rw[if_pos e0],?_⟩;rcases hx with hx|hx|⟨_,hx⟩
  ·exact .inl hx
  ·rcases Gl (cC k c)with⟨_,w⟩|⟨_,_,w⟩|⟨f1,f2,f3,w⟩|⟨_,_,_,w⟩
   ·omega
   ·omega
   ·exact .inr (.inl ⟨f1,f2,f3⟩)
   ·rcases w with⟨_,w⟩|⟨_,w⟩|⟨_,w⟩|⟨_,w⟩|⟨_,w|w⟩<;>omega
  ·rcases Gl (cC k c)with⟨_,w⟩|⟨_,_,w⟩|⟨f1,f2,f3,w⟩|⟨f1,f2,_,w⟩
   ·omega
   ·omega
   ·omega
   ·rcases w with⟨_,w⟩|⟨_,w⟩|⟨_,w⟩|⟨_,w⟩|⟨⟨g1,g2,g3,g4⟩,w⟩
    ·omega
    ·omega
    ·omega
    ·omega
    ·refine .inr (.inr ⟨f1,f2,?_⟩);show((cC k c).2.2.2.2.1||(cC k c).2.2.2.2.2.1||(cC k c).2.2.2.2.2.2.1||(cC k c).2.2.2.2.2.2.2.1)=false;rw[g1,g2,g3,g4];rfl
 ·have e1:cw k c=1:=e1;exact .inr (.inl ⟨p,i,by unfold aK;rw[if_neg (by omega),if_pos e1]⟩)
 ·have ew:cw k c=cK (cC k c):=ew;refine .inr (.inr ⟨p,i,?_⟩);rcases Gl (cC k c)with⟨f1,w⟩|⟨f1,f2,w⟩|⟨_,_,_,w⟩|⟨f1,f2,f3,w⟩
  ·rw[w]at ew;exact .inl ⟨f1,by unfold aK;rw[if_neg (by omega),if_neg (by omega),if_pos ew]⟩
  ·rw[w]at ew;exact .inr (.inl ⟨f1,f2,by unfold aK;rw[if_neg (by omega),if_neg (by omega),if_neg (by omega),if_pos ew]⟩)
  ·exact absurd w hne
  ·refine .inr (.inr ⟨f1,f2,f3,?_⟩)
   have hth:∀{v:Int},cK (cC k c)=v->4<=v->v<=8->aK k c=dC k c v:=by
    intro v e h4 h8;rw[e]at ew;unfold aK;rw[ew,if_neg (by omega),if_neg (by omega),if_neg (by omega),if_neg (by omega),if_neg (by omega)]
   rcases w with⟨g,w⟩|⟨g,w⟩|⟨g,w⟩|⟨g,w⟩|⟨⟨g1,g2,g3,g4⟩,w⟩
   ·rw[hth w (by omega) (by omega)];exact .inl (ahQ h hS (of_decide_eq_true g))
   ·rw[hth w (by omega) (by omega)];exact .inl (ahP h hS g)
   ·rw[hth w (by omega) (by omega)];exact .inl (ahS h hS g)
   ·rw[hth w (by omega) (by omega)];exact .inl (ahR h hS hc (of_decide_eq_true g))
   ·refine .inr ⟨?_,?_⟩
    ·show((cC k c).2.2.2.2.1||(cC k c).2.2.2.2.2.1||(cC k c).2.2.2.2.2.2.1||(cC k c).2.2.2.2.2.2.2.1)=false;rw[g1,g2,g3,g4];rfl
    ·rcases w with w|w
     ·rw[hth w (by omega) (by omega)];exact .inl (by unfold dC;simp)
     ·rw[w]at ew;refine .inr ?_;unfold aK;rw[ew,if_neg (by omega),if_neg (by omega),if_neg (by omega),if_neg (by omega),if_pos rfl]
theorem XJ {co:List cG} {c now d:Int} (hc:cD co c) (ht:aN now) (hi:(aJ co c).idle=true):(aJ (cU co c now) d).idle=true->(aJ co d).idle=true/\d≠c:=by
 intro h;unfold cU at h;rw[if_pos ⟨hc,ht,hi⟩,tf hc]at h;split at h
 ·cases h
 ·exact⟨h,‹_›⟩
theorem EZ {co:List cG} {c bB now d:Int}:(aJ (ju co c bB now) d).idle=true->(aJ co d).idle=true∨d=c:=by
 intro h;unfold ju at h;split at h
 ·rename_i hh;rw[tf hh.1]at h;split at h
  ·exact .inr ‹_›
  ·exact .inl h
 ·exact .inl h
theorem Fh {k':K} (hn:k'.n=k.n) (hs':∀d,hs (bc k'.sp) d=true->hs (bc k.sp) d=true) (hi:∀d,hs (bc k.sp) d=true->(aJ k'.co d).idle=true->(aJ k.co d).idle=true):sW k'<=sW k:=by
 unfold sW;rw[hn]
 have h1:=(pD (hs (bc k'.sp)) k.n).length_le_of_subset (l₂:=aV (hs (bc k.sp)) k.n) fun d hd=>by
  rw[dT]at hd⊢;exact⟨hd.1,hd.2.1,hs' d hd.2.2⟩
 have h2:=(pD (fun c=>hs (bc k'.sp) c&&(aJ k'.co c).idle) k.n).length_le_of_subset (l₂:=aV (fun c=>hs (bc k.sp) c&&(aJ k.co c).idle) k.n) fun d hd=>by
  rw[dT]at hd⊢;simp only[Bool.and_eq_true]at hd⊢;have:=hs' d hd.2.2.1;exact⟨hd.1,hd.2.1,this,hi d this hd.2.2.2⟩
 omega
theorem afB {k':K} (hn:k'.n=k.n) (hsp:k'.sp=k.sp) {c:Int} (hc:0<=c/\c<k.n) (hl:hs (bc k.sp) c=true) (hci:(aJ k.co c).idle=true) (hi:∀d,(aJ k'.co d).idle=true->(aJ k.co d).idle=true/\d≠c):sW k'<sW k:=by
 unfold sW;rw[hn,hsp]
 have h2:=rE (a:=aV (fun c=>hs (bc k.sp) c&&(aJ k'.co c).idle) k.n) (b:=aV (fun c=>hs (bc k.sp) c&&(aJ k.co c).idle) k.n) (pD _ _) (y:=c) (fun d hd=>by
  rw[dT]at hd⊢;simp only[Bool.and_eq_true]at hd⊢
  exact⟨hd.1,hd.2.1,hd.2.2.1,(hi d hd.2.2.2).1⟩) (dT.2 ⟨hc.1,hc.2,by rw[hl,hci];rfl⟩) (fun hm=>by
  rw[dT]at hm;simp only[Bool.and_eq_true]at hm;exact(hi c hm.2.2.2).2 rfl)
 omega
theorem afA {c:Int} (hc:0<=c/\c<k.n) (h64:k.n<=64) (hl:hs (bc k.sp) c=true):sW {k with sp:=(iA k.sp c).2}<sW k/\(iA k.sp c).2.1=k.sp.1/\∀d,d≠c->hs (bc k.sp) d=true->hs (bc (iA k.sp c).2) d=true:=by
 have e:(iA k.sp c).2=(k.sp.1,wi k.sp.2 c):=by unfold iA;rw[if_pos hl]
 rw[e]
 have hL:∀d,hs (bc (k.sp.1,wi k.sp.2 c)) d=(hs (bc k.sp) d&&!decide (d=c)):=by
  intro d;unfold bc;rw[lL,lL,kT];by_cases hd:d=c
  ·subst hd;rw[decide_eq_true (show 0<=d/\d<64 by omega)];simp
  ·simp[hd]
 have sub:∀d,hs (bc (k.sp.1,wi k.sp.2 c)) d=true->hs (bc k.sp) d=true/\d≠c:=fun d hd=>by
  rw[hL]at hd;simpa using hd
 refine⟨?_,rfl,fun d hd hh=>by rw[hL,hh];simp[hd]⟩;unfold sW;simp only
 have h1:=rE (a:=aV (hs (bc (k.sp.1,wi k.sp.2 c))) k.n) (b:=aV (hs (bc k.sp)) k.n) (pD _ _) (y:=c) (fun d hd=>by
  rw[dT]at hd⊢;exact⟨hd.1,hd.2.1,(sub d hd.2.2).1⟩) (dT.2 ⟨hc.1,hc.2,hl⟩) (fun hm=>(sub c (dT.1 hm).2.2).2 rfl)
 have h2:=(pD (fun d=>hs (bc (k.sp.1,wi k.sp.2 c)) d&&(aJ k.co d).idle) k.n).length_le_of_subset (l₂:=aV (fun c=>hs (bc k.sp) c&&(aJ k.co c).idle) k.n) fun d hd=>by
  rw[dT]at hd⊢;simp only[Bool.and_eq_true]at hd⊢;exact⟨hd.1,hd.2.1,(sub d hd.2.2.1).1,hd.2.2.2⟩
 omega
theorem abg (G:bT k) (hd:k.dk.1=none) {c:Int} (hc:0<=c/\c<k.n):Prog (aK k c) k c:=by
 obtain⟨f1,f2,f3⟩:=G.h.dk.free hd;have hl:hs (bc k.sp) c=false:=by unfold bc;rw[f3,lL,gu];rfl
 have h2:hs k.sp.2 c=false:=by rw[G.h.dk.iZ f3,gu]
 have hot:(cC k c).2.2.1=false:=by show(dj k.dk&&_)=false;unfold dj;rw[hd];rfl
 have hpw:(aJ k.co c).pw=hs k.ac c:=by rw[G.h.pw c hc.1 hc.2];unfold fH;rw[hd,f1];simp
 have hin:cD k.co c:=⟨hc.1,by rw[G.S.co];exact hc.2⟩;rcases Xe G.h G.S hc with⟨e,hx⟩|⟨p,i,e⟩|⟨p,i,hx⟩
 ·rw[e];refine Prog.keep (Nat.le_refl _) (fun hr=>?_) (fun d h=>h);rw[mM hd]at hr;rcases hx with hx|⟨_,_,hx|hx⟩|⟨_,_,hx⟩
  ·rw[hpw,hr.1]at hx;cases hx
  ·rw[h2]at hx;cases hx
  ·rw[hr.1]at hx;cases hx
  ·rw[hr.2]at hx;cases hx
 ·rw[e];have hi:=fun d=>XJ (d:=d) hin G.t i;have hnj:nJ {k with co:=cU k.co c k.now}<=nJ k:=qI.nj (k':={k with co:=cU k.co c k.now}) ⟨fun _=>Nat.le_refl _,fun _=>Nat.le_refl _,fun _ h=>h,fun _ h=>h,rfl⟩ rfl rfl fun d hdd=>.inl (hi d hdd).1;by_cases hk:iP k c=true
  ·refine Prog.lt ?_;rw[lR hd,lR (k:={k with co:=cU k.co c k.now}) hd]
   have:nJ {k with co:=cU k.co c k.now}<nJ k:=by
    unfold nJ;refine rE (pD _ _) (y:=c) (fun d hdd=>?_) (dT.2 ⟨hc.1,hc.2,?_⟩) (fun hm=>?_)
    ·rw[dT]at hdd⊢;simp only[Bool.and_eq_true]at hdd⊢;exact⟨hdd.1,hdd.2.1,⟨hdd.2.2.1.1,(hi d hdd.2.2.1.2).1⟩,hdd.2.2.2⟩
    ·rw[<-hpw,p,i,hk];rfl
    ·rw[dT]at hm;simp only[Bool.and_eq_true]at hm;exact(hi c hm.2.2.1.2).2 rfl
   have e2:nK {k with co:=cU k.co c k.now}=nK k:=rfl;omega
  ·refine Prog.keep ?_ (fun hr=>?_) (fun d hr=>?_)
   ·rw[lR hd,lR (k:={k with co:=cU k.co c k.now}) hd];have e2:nK {k with co:=cU k.co c k.now}=nK k:=rfl;omega
   ·rw[mM hd]at hr;exact hk hr.2
   ·rw[mM hd]at hr;rw[mM (k:={k with co:=cU k.co c k.now}) hd];exact hr
 ·rcases hx with⟨hx,_⟩|⟨_,hx,_⟩|⟨_,_,ha,hT|⟨hno,e|e⟩⟩
  ·rw[hl]at hx;cases hx
  ·rw[hot]at hx;cases hx
  ·refine Prog.lt ?_;rw[lR hd,lR (by rw[hT.dk];exact hd)];have:=hT.less.nj hT.ac hT.n fun d hdd=>.inl (by rw[<-hT.co];exact hdd);have:=hT.nk;omega
  ·rw[e];refine Prog.keep (Nat.le_of_eq ?_) (fun hr=>?_) (fun d hr=>?_)
   ·rw[lR hd,lR (k:={k with rq:=la k.rq c}) hd];rfl
   ·rw[mM hd,hno]at hr;cases hr.2
   ·rw[mM hd]at hr;rw[mM (k:={k with rq:=la k.rq c}) hd];exact hr
  ·rw[e];have hnj:nJ (mC k c)<=nJ k:=qI.nj (k':=mC k c) ⟨fun _=>Nat.le_refl _,fun _=>Nat.le_refl _,fun _ h=>h,fun _ h=>h,rfl⟩ rfl rfl fun d hdd=>(EZ hdd).imp id fun e=>by rw[e];exact hno
   refine Prog.keep ?_ (fun hr=>?_) (fun d hr=>?_)
   ·rw[lR hd,lR (k:=mC k c) hd];have e2:nK (mC k c)=nK k:=rfl;omega
   ·rw[mM hd,hno]at hr;cases hr.2
   ·rw[mM hd]at hr;rw[mM (k:=mC k c) hd];exact hr
end
end Go.Dav
namespace Go.Dav
open Go.Proofs
section
variable {k:K} {r:aG}
theorem abF {co:List cG} {c d:Int} {on:Bool} (hd:d≠c):aJ (fh co c on) d=aJ co d:=by
 unfold fh;split
 ·rename_i h;rw[tf h.1,if_neg hd]
 ·rfl
theorem wU (k:K) (hb:r.back=false) (hu:r.up=false):dX k r=12+(da r.ag+cq k r):=by unfold dX;rw[hb,hu];rfl
theorem AU (k:K) (hb:r.back=false) (hu:r.up=true):dX k r=12+(4-r.ag).toNat:=by unfold dX;rw[hb,hu];rfl
theorem Fg (k:K) (hb:r.back=true):dX k r=r.ag.toNat:=by unfold dX;rw[hb];rfl
theorem Z0 (k:K) (h:r.ag=0):da r.ag+cq k r=174:=by simp[da,cq,h]
theorem RH (k:K) (h:r.ag=1):da r.ag+cq k r=173:=by simp[da,cq,h]
theorem RI (k:K) (h:r.ag=2):da r.ag+cq k r=140+(aY k.rq r.ab).length:=by simp[da,cq,h];omega
theorem y7 (k:K) (h:r.ag=3):da r.ag+cq k r=91+lx k r.ab:=by simp[da,cq,h];omega
theorem y8 (k:K) (h:r.ag=4):da r.ag+cq k r=58+(bF k.wk r.ab).length:=by simp[da,cq,h];omega
theorem y9 (k:K) (h:r.ag=5):da r.ag+cq k r=25+(cJ k.ca r.ab).length:=by simp[da,cq,h];omega
theorem RJ (k:K) (h:r.ag=6) (hs:k.sp.1=0):da r.ag+cq k r=24:=by simp[da,cq,h,hs]
theorem CK (k:K) (h:r.ag=6) (hs:k.sp.1≠0):da r.ag+cq k r=4+sW k:=by
 unfold cq;rw[if_neg hs];simp[da,h];omega
theorem RK (k:K) (h:r.ag=7):da r.ag+cq k r=3:=by simp[da,cq,h]
theorem RL (k:K) (h:r.ag=8):da r.ag+cq k r=2:=by simp[da,cq,h]
theorem Z1 (k:K) (h:r.ag=9):da r.ag+cq k r=1:=by simp[da,cq,h]
theorem Wn (h:ax k) (hS:ar k) (c:Int):(aY k.rq c).length<=32:=by
 refine nz (U6 hS.rq c) fun v hv=>?_;have hm:=(wA hS.rq).1 hv;exact h.tq.ids hS.fL _ _ hm.2
theorem XO (hS:ar k) (c:Int):(bF k.wk c).length<=32:=by
 unfold bF;split
 ·rename_i hc;have hi:ix c<k.wk.length:=by unfold bY at hc;unfold ix;omega
  have eg:k.wk[ix c]=bV k.wk c:=by unfold bV;rw[List.getD_eq_getElem?_getD,List.getElem?_eq_getElem hi];rfl
  rw[<-eg];exact nz (CJ hS.iF hi) fun v hv=>hS.jf v (iK hi hv)
 ·simp
theorem Rr (h:ax k) (c:Int):(cJ k.ca c).length<=32:=by
 unfold cJ;split
 ·rename_i hc;have hi:c.toNat<k.ca.2.length:=by unfold aT at hc;omega
  have eg:k.ca.2[c.toNat]=aM k.ca c:=by unfold aM;rw[List.getD_eq_getElem?_getD,List.getElem?_eq_getElem hi];rfl
  rw[<-eg];exact(h.ci.row hi).2
 ·simp
theorem Xn (hS:ar k) (c:Int):lx k c<=48:=by have:=Tn k.tm.t fun p=>decide (p.1=c);rw[hS.jc]at this;exact this
theorem aaD (h:ax k) (hS:ar k) {c a:Int} {l:List Int} (hl:aY k.rq c=a::l) (hc:hs k.ac c=false):(aY (eQ k c).rq c).length<(aY k.rq c).length:=by
 have e:(eQ k c).rq=fY (dA k.rq a) (fO (bN {k with rq:=dA k.rq a} a).2.1 k.ac c).1 (bN {k with rq:=dA k.rq a} a).1 a:=by unfold eQ;rw[hl];rfl
 have hch:=vD (m:=(bN {k with rq:=dA k.rq a} a).2.1) h.dk.an c;rw[e,Wk (gP hch).1 (fun e=>by rw[e,hch]at hc;cases hc)];have ha:a∈aY k.rq c:=by rw[hl];simp
 have hm:∀j,j∈aY (dA k.rq a) c->j∈aY k.rq c/\j≠a:=by
  intro j hj;have h1:=(wA (hS.rq.take a)).1 hj;rw[Er hS.rq]at h1;simp only[Bool.and_eq_true,decide_eq_true_eq]at h1;exact⟨(wA hS.rq).2 ⟨h1.1,h1.2.1⟩,h1.2.2⟩
 exact rE (U6 (hS.rq.take a) c) (fun j hj=>(hm j hj).1) ha (fun hh=>(hm a hh).2 rfl)
theorem ah1 (h:ax k) (hS:ar k) (hd:k.dk.1=some r) (hm:(gC k.tm r.ab r.ah).2=0):lx {k with tm:=eJ k.tm r.ab r.ah} r.ab<lx k r.ab:=by
 have R:=h.dk.bJ r hd;have hw:=h.gL _ R.ah;have h1:cE k.tm r.ab:=⟨R.v.ab.1,by rw[hS.ib];exact R.ab⟩;have h2:cE k.tm r.ah:=⟨R.v.ah.1,by rw[hS.ib];exact hw⟩;unfold gC at hm;rw[if_pos ⟨h1,h2⟩,if_neg R.ne]at hm;unfold lx eJ;simp only;rw[if_pos ⟨h1,h2,R.ne⟩]
 cases hl:gd k.tm.t r.ab with
 | nil=>rw[hl]at hm;simp at hm
 | cons a l=>
  have ha:a∈eU k.tm.t fun x=>decide (x.1=r.ab):=(List.Perm.mem_iff (gX (gN k.tm.t) _)).1 (by show a∈gd k.tm.t r.ab;rw[hl];simp);obtain⟨x,hx,_⟩:=iT.1 ha;have hat:=FR hx (some (r.ah,gN k.tm.t a));simp only
  have sub:∀j∈eU (k.tm.t.set (a.toNat-1) (some (r.ah,gN k.tm.t a))) fun p=>decide (p.1=r.ab),j∈eU k.tm.t (fun p=>decide (p.1=r.ab))/\j≠a:=by
   intro j hj;obtain⟨y,y1,y2⟩:=iT.1 hj;rw[hat]at y1;split at y1
   ·cases y1;exact absurd (of_decide_eq_true y2).symm R.ne
   ·rename_i e;exact⟨iT.2 ⟨y,y1,y2⟩,e⟩
  exact rE (zN _ _) (fun j hj=>(sub j hj).1) ha (fun hh=>(sub a hh).2 rfl)
theorem amj (h:ax k) (hS:ar k) (hd:k.dk.1=some r) (hm:(ly k.wk r.ab).2=0):(bF (jd k.wk r.ab) r.ab).length<(bF k.wk r.ab).length:=by
 have R:=h.dk.bJ r hd;have h1:bY k.wk r.ab 0:=⟨R.v.ab.1,by rw[hS.gh];have:=R.ab;omega⟩;have hc0:=R.v.ab.1;have hR:=R.ab;have hwk:=hS.gh;unfold ly at hm;rw[if_pos h1]at hm;unfold jd;rw[if_pos h1]
 cases hl:bV k.wk r.ab with
 | nil=>rw[hl]at hm;simp at hm
 | cons a l=>
  simp only
  have e1:bV ((k.wk.set (ix r.ab) l).set 0 (bV k.wk (-1)++[a])) r.ab=l:=by
   rw[show(0:Nat)=ix (-1)from rfl,AP (c:=-1) ⟨by omega,by rw[List.length_set];omega⟩ (by omega),if_neg (by omega),AP ⟨by omega,by omega⟩ (by omega),if_pos rfl]
  unfold bF;rw[if_pos (show bY k.wk r.ab (-1)from⟨by omega,by omega⟩),if_pos (show bY ((k.wk.set (ix r.ab) l).set 0 (bV k.wk (-1)++[a])) r.ab (-1)from⟨by omega,by simp;omega⟩),e1,hl];simp
theorem ZF (h:ax k) (hS:ar k) (hd:k.dk.1=some r) (hm:(j5 k.ca r.ab r.ah).2=0):(cJ (eY k.ca r.ab r.ah) r.ab).length<(cJ k.ca r.ab).length:=by
 have R:=h.dk.bJ r hd;have hw:=h.gL _ R.ah;have hR:=R.ab;have hca:=hS.ca;have hc0:=R.v.ab.1;have hw0:=R.v.ah.1;have h1:aT k.ca r.ab:=⟨hc0,by omega⟩;have h2:aT k.ca r.ah:=⟨hw0,by omega⟩;obtain⟨e1,e2,e3,e4⟩:=h.ci.Vs r.ab r.ah;rw[if_pos ⟨h1,h2⟩,if_neg R.ne]at e1 e2
 have hpop:aM (fv k.ca r.ab) r.ab=(aM k.ca r.ab).tail:=by
  have:=rK (o:=k.ca.1) (L:=k.ca.2) (l:=(aM k.ca r.ab).tail) ⟨hc0,by omega⟩ hc0;rw[if_pos rfl]at this;exact this
 cases hl:aM k.ca r.ab with
 | nil=>
  have hf:(bK (bU (aM k.ca r.ab))).2=12:=by rw[hl];rfl
  rw[e1]at hm
  omega
 | cons a l=>
  have hf:bK (bU (aM k.ca r.ab))=(a,0):=by rw[hl];rfl
  rw[hf]at e2;simp only[if_true]at e2
  have e5:aM (eY k.ca r.ab r.ah) r.ab=l:=by
   rw[wQ (ca:=(k.ca.1,(fv k.ca r.ab).2.set r.ah.toNat (aM (fv k.ca r.ab) r.ah++[a]))) e2,rK ⟨hw0,by unfold fv;simp only[List.length_set];omega⟩ hc0,if_neg R.ne];show aM (fv k.ca r.ab) r.ab=l;rw[hpop,hl];rfl
  unfold cJ;rw[if_pos h1,if_pos (show aT (eY k.ca r.ab r.ah) r.ab by unfold aT;rw[e4];exact h1),e5,hl];simp
theorem abB (h:ax k) (hS:ar k) (hd:k.dk.1=some r) (ht:r.told=true) (hg:k.ga.1.sum<=0) (hn:k.n<=9) (f:Int->Bool) {k':K}
  (hk:k'=if lq k (r.now.1,r.now.2.1,false) r.ab r.ah then
   (if({r with told:=false,ag:=if r.back then r.ag-1 else r.ag+1}:aG).over then{b6 k (r.now.1,r.now.2.1,false) r.ab r.ah with dk:=(none,f),ga:=((b6 k (r.now.1,r.now.2.1,false) r.ab r.ah).ga.1,0)}
       else{b6 k (r.now.1,r.now.2.1,false) r.ab r.ah with dk:=(some {r with told:=false,ag:=if r.back then r.ag-1 else r.ag+1},f)})
   else b6 k (r.now.1,r.now.2.1,false) r.ab r.ah) :
  k'.dk.1=none∨(∃r',k'.dk.1=some r'/\dX k' r'<dX k r/\ck k' r'<=ck k r)∨(k'=k/\k.sp.1≠0/\fB k.sp=false):=by
 have R:=h.dk.bJ r hd;have hov:=R.over;have hst:=R.v.st;have hdid:=R.v.ag;have hup:iL k.dk=r.up:=by unfold iL;rw[hd]
 rw[tV R.over]at hk;rw[fu]at hov;have wid:∀(X:K) (q:aG),q.ah=r.ah->X.co=k.co->ck X q<=ck k r:=fun X q e1 e2=>by unfold ck;rw[e1,e2];exact Nat.le_refl _
 have widp:∀(X:K) (q:aG) (b:Bool),q.ah=r.ah->X.co=fh k.co r.ab b->ck X q<=ck k r:=fun X q b e1 e2=>by unfold ck;rw[e1,e2,abF R.ne.symm];exact Nat.le_refl _
 rcases(by cases r.back<;>simp:r.back=true∨r.back=false)with hb|hb
 ·rw[hb]at hov;have hd0:r.ag≠0:=by simpa using hov
  simp only[if_pos hb]at hk;unfold lq b6 at hk;simp only[if_true,hup]at hk;by_cases h1:r.ag=1
  ·rw[if_pos (by rw[fu];simp[hb,h1])]at hk;exact .inl (by rw[hk])
  ·rw[if_neg (by rw[fu];simp[hb];omega)]at hk;refine .inr (.inl ⟨{r with told:=false,ag:=r.ag-1},by rw[hk],?_,?_⟩)
   ·rw[Fg _ hb,Fg _ (r:={r with told:=false,ag:=r.ag-1}) hb];simp only;omega
   ·rw[hk];unfold jH;split
    ·exact widp _ _ false rfl rfl
    ·split
     ·exact wid _ _ rfl rfl
     ·exact wid _ _ rfl rfl
 ·rw[hb]at hov;have hds:r.ag≠r.dB:=by simpa using hov
  have hnb:¬r.back=true:=by rw[hb];decide
  have hnot:¬r.ag+1=r.dB->¬({r with told:=false,ag:=r.ag+1}:aG).over=true:=fun hh=>by rw[fu];simp[hb];exact hh
  have hyes:r.ag+1=r.dB->({r with told:=false,ag:=r.ag+1}:aG).over=true:=fun hh=>by rw[fu];simp[hb];exact hh
  simp only[if_neg hnb]at hk;unfold lq b6 at hk;simp only[Bool.false_eq_true,if_false,hup]at hk
  have dn:r.up=false->∀(X:K),X.co=k.co->da (r.ag+1)+cq X {r with told:=false,ag:=r.ag+1}<da r.ag+cq k r->k'={X with dk:=(some {r with told:=false,ag:=r.ag+1},f)}->
    k'.dk.1=none∨(∃r',k'.dk.1=some r'/\dX k' r'<dX k r/\ck k' r'<=ck k r)∨(k'=k/\k.sp.1≠0/\fB k.sp=false):=by
   intro hu X hco hlt e;refine .inr (.inl ⟨{r with told:=false,ag:=r.ag+1},by rw[e],?_,?_⟩)
   ·rw[wU _ hb hu,wU _ (r:={r with told:=false,ag:=r.ag+1}) hb hu,e];have e2:cq {X with dk:=(some {r with told:=false,ag:=r.ag+1},f)} {r with told:=false,ag:=r.ag+1}=cq X {r with told:=false,ag:=r.ag+1}:=rfl;simp only at hlt⊢;omega
   ·rw[e];exact wid _ _ rfl hco
  have sm:r.up=false->∀(X:K),X.co=k.co->X.dk=k.dk->cq X r<cq k r->k'=X->
    k'.dk.1=none∨(∃r',k'.dk.1=some r'/\dX k' r'<dX k r/\ck k' r'<=ck k r)∨(k'=k/\k.sp.1≠0/\fB k.sp=false):=by
   intro hu X hco hdk hlt e;refine .inr (.inl ⟨r,by rw[e,hdk,hd],?_,?_⟩)
   ·rw[wU _ hb hu,wU _ hb hu,e];omega
   ·rw[e];exact wid _ _ rfl hco
  by_cases h0:r.ag=0
  ·rw[if_pos h0,if_pos h0]at hk
   have hne:¬r.ag+1=r.dB:=by
    rcases(by cases r.up<;>simp:r.up=true∨r.up=false)with hu|hu<;>rw[hu]at hst<;>simp at hst<;>omega
   have hgt:kN k.ga=0:=by
    unfold kN;rw[if_pos (R.g0 h0).1,if_neg (by omega)]
   rw[if_pos (decide_eq_true hgt),if_neg (hnot hne)]at hk;rcases(by cases r.up<;>simp:r.up=true∨r.up=false)with hu|hu
   ·refine .inr (.inl ⟨{r with told:=false,ag:=r.ag+1},by rw[hk],?_,?_⟩)
    ·rw[AU _ hb hu,AU _ (r:={r with told:=false,ag:=r.ag+1}) hb hu];simp only;omega
    ·rw[hk];exact wid _ _ rfl rfl
   ·refine dn hu {k with ga:=kO k.ga} rfl ?_ hk;rw[Z0 k h0,RH _ (r:={r with told:=false,ag:=r.ag+1}) (by simp only;omega)];omega
  ·rw[if_neg h0,if_neg h0]at hk;rcases(by cases r.up<;>simp:r.up=true∨r.up=false)with hu|hu
   ·rw[if_pos hu,if_pos hu,if_pos (show true=true from rfl)]at hk;rw[hu]at hst;simp only[if_true]at hst;have hc:r.ag=1∨r.ag=2∨r.ag=3:=by omega
    have up:∀(X:K),ck X {r with told:=false,ag:=r.ag+1}<=ck k r->k'={X with dk:=(some {r with told:=false,ag:=r.ag+1},f)}->∃r',k'.dk.1=some r'/\dX k' r'<dX k r/\ck k' r'<=ck k r:=by
     intro X hX e;refine⟨{r with told:=false,ag:=r.ag+1},by rw[e],?_,by rw[e];exact hX⟩;rw[AU _ hb hu,AU _ (r:={r with told:=false,ag:=r.ag+1}) hb hu];simp only;omega
    rcases hc with h1|h1|h1
    ·rw[if_neg (hnot (by omega))]at hk;have e:iJ k r.ag r.ab={k with co:=fh k.co r.ab true}:=by rw[h1];rfl
     rw[e]at hk;exact .inr (.inl (up _ (widp _ _ true rfl rfl) hk))
    ·rw[if_neg (hnot (by omega))]at hk;have e:iJ k r.ag r.ab={k with st:=gr k.st r.ab}:=by rw[h1];rfl
     rw[e]at hk;exact .inr (.inl (up {k with st:=gr k.st r.ab} (wid _ _ rfl rfl) hk))
    ·rw[if_pos (hyes (by omega))]at hk;exact .inl (by rw[hk])
   ·have hu':¬r.up=true:=by rw[hu];decide
    simp only[if_neg hu']at hk;rw[hu]at hst;simp only[Bool.false_eq_true,if_false]at hst;have hc:r.ag=1∨r.ag=2∨r.ag=3∨r.ag=4∨r.ag=5∨r.ag=6∨r.ag=7∨r.ag=8∨r.ag=9:=by omega
    have hcpu:2<=r.ag->hs k.ac r.ab=false:=fun h2=>(sd R hu h2).2;rcases hc with h1|h1|h1|h1|h1|h1|h1|h1|h1
    ·rw[if_pos (show fm k r.ag r.ab r.ah=true by rw[h1];rfl),if_neg (hnot (by omega)),show dy k r.ag r.ab r.ah={k with ac:=ls k.ac r.ab} by rw[h1];rfl]at hk;refine dn hu {k with ac:=ls k.ac r.ab} rfl ?_ hk;have:=Wn h hS r.ab;rw[RH k h1,RI _ (r:={r with told:=false,ag:=r.ag+1}) (by simp only;omega)];show 140+(aY k.rq r.ab).length<173;omega
    ·have e1:fm k r.ag r.ab r.ah=(aY k.rq r.ab).isEmpty:=by rw[h1];rfl
     have e2:dy k r.ag r.ab r.ah=eQ k r.ab:=by rw[h1];rfl
     rw[e1,e2]at hk
     cases hl:aY k.rq r.ab with
     | nil=>
      have e3:eQ k r.ab=k:=by unfold eQ;rw[hl]
      rw[if_pos (by rw[hl];rfl),if_neg (hnot (by omega)),e3]at hk;refine dn hu k rfl ?_ hk;have:=Xn hS r.ab;rw[RI k h1,hl,y7 _ (r:={r with told:=false,ag:=r.ag+1}) (by simp only;omega)];show 91+lx k r.ab<140+0
      omega
     | cons a l=>
      rw[if_neg (by simp[hl])]at hk;have e4:(eQ k r.ab).co=k.co:=by unfold eQ;rw[hl];rfl
      have e5:(eQ k r.ab).dk=k.dk:=by unfold eQ;rw[hl];rfl
      refine sm hu _ e4 e5 ?_ hk;have:=aaD h hS hl (hcpu (by omega));unfold cq;rw[if_pos h1,if_pos h1];omega
    ·have e1:fm k r.ag r.ab r.ah=decide ((gC k.tm r.ab r.ah).2≠0):=by rw[h1];rfl
     have e2:dy k r.ag r.ab r.ah={k with tm:=eJ k.tm r.ab r.ah}:=by rw[h1];rfl
     rw[e1,e2]at hk;by_cases hm:(gC k.tm r.ab r.ah).2=0
     ·rw[if_neg (by simp[hm])]at hk;refine sm hu {k with tm:=eJ k.tm r.ab r.ah} rfl rfl ?_ hk;have:=ah1 h hS hd hm;have a1:=y7 k h1;have a2:=y7 {k with tm:=eJ k.tm r.ab r.ah} h1;omega
     ·rw[if_pos (decide_eq_true hm),if_neg (hnot (by omega))]at hk;refine dn hu {k with tm:=eJ k.tm r.ab r.ah} rfl ?_ hk;have:=XO hS r.ab;rw[y7 k h1,y8 _ (r:={r with told:=false,ag:=r.ag+1}) (by simp only;omega)];show 58+(bF k.wk r.ab).length<91+lx k r.ab;omega
    ·have e1:fm k r.ag r.ab r.ah=decide ((ly k.wk r.ab).2≠0):=by rw[h1];rfl
     have e2:dy k r.ag r.ab r.ah={k with wk:=jd k.wk r.ab}:=by rw[h1];rfl
     rw[e1,e2]at hk;by_cases hm:(ly k.wk r.ab).2=0
     ·rw[if_neg (by simp[hm])]at hk;refine sm hu {k with wk:=jd k.wk r.ab} rfl rfl ?_ hk;have:=amj h hS hd hm;have a1:=y8 k h1;have a2:=y8 {k with wk:=jd k.wk r.ab} h1;simp only at a2;omega
     ·rw[if_pos (decide_eq_true hm),if_neg (hnot (by omega))]at hk;refine dn hu {k with wk:=jd k.wk r.ab} rfl ?_ hk;have:=Rr h r.ab;rw[y8 k h1,y9 _ (r:={r with told:=false,ag:=r.ag+1}) (by simp only;omega)];show 25+(cJ k.ca r.ab).length<58+(bF k.wk r.ab).length;omega
    ·have e1:fm k r.ag r.ab r.ah=decide ((j5 k.ca r.ab r.ah).2≠0):=by rw[h1];rfl
     have e2:dy k r.ag r.ab r.ah={k with ca:=eY k.ca r.ab r.ah}:=by rw[h1];rfl
     rw[e1,e2]at hk;by_cases hm:(j5 k.ca r.ab r.ah).2=0
     ·rw[if_neg (by simp[hm])]at hk;refine sm hu {k with ca:=eY k.ca r.ab r.ah} rfl rfl ?_ hk;have:=ZF h hS hd hm;have a1:=y9 k h1;have a2:=y9 {k with ca:=eY k.ca r.ab r.ah} h1;simp only at a2;omega
     ·rw[if_pos (decide_eq_true hm),if_neg (hnot (by omega))]at hk;refine dn hu {k with ca:=eY k.ca r.ab r.ah} rfl ?_ hk;rw[y9 k h1,RJ {k with ca:=eY k.ca r.ab r.ah} (r:={r with told:=false,ag:=r.ag+1}) (by simp only;omega) (i6 R (.inr (.inr (.inl (by omega)))))];omega
    ·have e1:fm k r.ag r.ab r.ah=oT k:=by rw[h1];rfl
     have e2:dy k r.ag r.ab r.ah=jz k r.ab r.ah:=by rw[h1];rfl
     rw[e1,e2]at hk;unfold oT jz at hk;by_cases hz:k.sp.1=0
     ·rw[if_pos hz,if_neg (by rw[hz];simp)]at hk;refine sm hu {k with sp:=(lf k.sp (ls (wi k.ac r.ab) r.ah)).2} rfl rfl ?_ hk;have hcpu64:0<=r.ab/\r.ab<64:=R.v.ab
      have hm0:ls (wi k.ac r.ab) r.ah≠0:=fun e=>by
       have:hs (ls (wi k.ac r.ab) r.ah) r.ab=true:=by rw[eu,kT];simp[hcpu64,R.ne]
       rw[e,gu]at this;cases this
      have e3:(lf k.sp (ls (wi k.ac r.ab) r.ah)).2.1≠0:=by unfold lf;rw[if_pos hz,if_neg hm0];exact hm0
      have:=WR {k with sp:=(lf k.sp (ls (wi k.ac r.ab) r.ah)).2};simp only at this;have a1:=RJ k h1 hz;have a2:=CK {k with sp:=(lf k.sp (ls (wi k.ac r.ab) r.ah)).2} h1 e3;omega
     ·rw[if_neg hz]at hk;by_cases hr:fB k.sp=true
      ·rw[if_pos (by rw[hr,Bool.and_true];simpa using hz),if_pos hr,if_neg (hnot (by omega))]at hk
       have hco:∀(l:List Int) (X:K),(l.foldl (fun k n=>ey k n r.ab) X).co=X.co:=by
        intro l
        induction l with
        | nil=>intro X;rfl
        | cons a l ih=>intro X;rw[List.foldl_cons,ih];rfl
       refine dn hu _ ?_ ?_ hk
       ·exact hco _ _
       ·rw[CK k h1 hz,RK _ (r:={r with told:=false,ag:=r.ag+1}) (by simp only;omega)];omega
      ·have hr':fB k.sp=false:=by simpa using hr
       rw[if_neg (by rw[hr'];simp),if_neg hr]at hk;exact .inr (.inr ⟨hk,hz,hr'⟩)
    ·rw[if_pos (show fm k r.ag r.ab r.ah=true by rw[h1];rfl),if_neg (hnot (by omega)),show dy k r.ag r.ab r.ah={k with st:=gr k.st r.ab} by rw[h1];rfl]at hk;refine dn hu {k with st:=gr k.st r.ab} rfl ?_ hk;rw[RK k h1,RL _ (r:={r with told:=false,ag:=r.ag+1}) (by simp only;omega)];omega
    ·rw[if_pos (show fm k r.ag r.ab r.ah=true by rw[h1];rfl),if_neg (hnot (by omega)),show dy k r.ag r.ab r.ah=k by rw[h1];rfl]at hk;refine dn hu k rfl ?_ hk;rw[RL k h1,Z1 _ (r:={r with told:=false,ag:=r.ag+1}) (by simp only;omega)];omega
    ·rw[if_pos (show fm k r.ag r.ab r.ah=true by rw[h1];rfl),if_pos (hyes (by omega))]at hk;exact .inl (by rw[hk])
theorem bT.Su {k':K} (G:bT k') (hd':k'.dk.1=none) (hd:k.dk.1=some r):dW k'<dW k:=by
 rw[lR hd',mH hd];have:=Vy G.h G.S;have:=Vx k';have:=G.n9;omega
theorem aib (G:bT k) (G':bT (eK k r.ah)) (hd:k.dk.1=some r):dW (eK k r.ah)<dW k∨
  (eK k r.ah={k with dk:=(some {r with told:=true},k.dk.2)}/\k.sp.1≠0/\fB k.sp=false):=by
 have R:=G.h.dk.bJ r hd;by_cases hf:dm k.dk r=true
 ·have e:=FZ (ah:=r.ah) hd R.over hf;by_cases h0:r.ag=0
  ·exact .inl (G'.Su (by rw[e,if_pos h0]) hd)
  ·rw[if_neg h0]at e;left;rw[e,mH (r:={r with told:=true,back:=true}) rfl,mH hd,Fg _ (r:={r with told:=true,back:=true}) rfl]
   have hb:r.back=false:=by
    unfold dm at hf;simp only[Bool.and_eq_true,Bool.not_eq_true']at hf;have f1:=hf.1.1;rw[tV R.over]at f1
    cases hb:r.back with
    | false=>rfl
    | true=>rw[hb]at f1;cases f1
   have hdid:=R.v.ag;have hst:=R.v.st;have h12:12<=dX k r:=by unfold dX;rw[hb];simp
   have h10:r.ag<=10:=by split at hst<;>omega
   have ew:ck {k with dk:=(some {r with told:=true,back:=true},fun j=>if j=r.now.1 then false else k.dk.2 j)} {r with told:=true,back:=true}=ck k r:=rfl;simp only at ew⊢;omega
 ·have e:=xk (ah:=r.ah) hd R.over (by simpa using hf);have hS':ar {k with dk:=(some {r with told:=true},k.dk.2)}:=G.S.nw _;have hov:({r with told:=true}:aG).now=r.now:=by unfold aG.now;rfl
  have hgo:=abB (k:={k with dk:=(some {r with told:=true},k.dk.2)}) (r:={r with told:=true}) (k':=eK k r.ah) (G.h.told hd k.dk.2) hS' rfl rfl G.g G.n9 k.dk.2 (by rw[hov];exact e);rcases hgo with hx|⟨r',h1,h2,h3⟩|⟨h1,h2,h3⟩
  ·exact .inl (G'.Su hx hd)
  ·left;rw[mH h1,mH hd];have e1:dX {k with dk:=(some {r with told:=true},k.dk.2)} {r with told:=true}=dX k r:=rfl;have e2:ck {k with dk:=(some {r with told:=true},k.dk.2)} {r with told:=true}=ck k r:=rfl;omega
  ·exact .inr ⟨h1,h2,h3⟩
theorem Az {k':K} (hd:k.dk.1=some r) (hd':k'.dk.1=some r) (hq:r.up=false->2<=r.ag->(aY k'.rq r.ab).length<=(aY k.rq r.ab).length) (ht:lx k' r.ab<=lx k r.ab)
  (hw:(bF k'.wk r.ab).length<=(bF k.wk r.ab).length) (hc:(cJ k'.ca r.ab).length<=(cJ k.ca r.ab).length) (hs1:k'.sp.1=k.sp.1) (hsw:sW k'<=sW k) {e:Nat} (hi:ck k' r+e<=ck k r):dW k'+e<=dW k:=by
 rw[mH hd,mH hd']
 have:dX k' r<=dX k r:=by
  unfold dX;split
  ·exact Nat.le_refl _
  ·split
   ·exact Nat.le_refl _
   ·rename_i hu
    have hcur:cq k' r<=cq k r:=by
     unfold cq;rw[hs1];split
     ·have:=hq (by simpa using hu) (by omega);omega
     split;omega;split;omega;split;omega;split
     ·split
      ·exact Nat.le_refl _
      ·omega
     ·exact Nat.le_refl _
    omega
 omega
theorem AA (R:od k.n k.on k.ac k.ga.2 k.sp r) (hd:k.dk.1=some r) (hsp:k.sp.1≠0):dW k=156+sW k+ck k r:=by
 obtain⟨hu,hb,h6,_,_⟩:=R.py hsp;rw[mH hd,wU _ hb hu];have:=CK k h6 hsp;omega
theorem YM (G:bT k) (hd:k.dk.1=some r) {c:Int} (hc:0<=c/\c<k.n):Prog (aK k c) k c:=by
 have R:=G.h.dk.bJ r hd;have hin:cD k.co c:=⟨hc.1,by rw[G.S.co];exact hc.2⟩;have hpw:∀d:Int,0<=d->d<k.n->hs k.on d=true->(aJ k.co d).pw=true:=fun d d0 d1 h=>by rw[G.h.pw d d0 d1];unfold fH;rw[h];rfl
 have hot:(cC k c).2.2.1=decide (r.ah=c):=by
  show(dj k.dk&&decide (mu k.dk=c))=_;unfold dj mu;rw[hd];rfl
 have hwho:hs (bc k.sp) r.ah=false:=by
  by_cases hz:k.sp.1=0
  ·unfold bc;rw[hz,lL,gu];rfl
  ·obtain⟨_,_,_,_,e⟩:=R.py hz;unfold bc;rw[e,lL,eu];simp
 have hleft:∀d,hs (bc k.sp) d=true->k.sp.1≠0/\hs k.on d=true/\fB k.sp=false:=by
  intro d hdl;have hz:k.sp.1≠0:=fun e=>by unfold bc at hdl;rw[e,lL,gu]at hdl;simp at hdl
  obtain⟨hu,_,_,_,e⟩:=R.py hz;refine⟨hz,?_,?_⟩
  ·have hh:=hdl;unfold bc at hh;rw[e,lL,eu,kT]at hh;simp only[Bool.and_eq_true,Bool.or_eq_true,decide_eq_true_eq]at hh;rcases hh.1.1 with hh|⟨_,rfl⟩
   ·exact G.h.dk.ao d hh
   ·rw[R.de,hu];rfl
  ·unfold fB;have:bc k.sp≠0:=fun e=>by rw[e,gu]at hdl;cases hdl
   rw[show(bc k.sp==0)=false from beq_false_of_ne this,Bool.and_false]
 have rpk:∀(k':K) (r':aG),k'.dk.1=some r'->r'.ah=r.ah->k'.sp=k.sp->∀d,Rp k d->Rp k' d:=by
  intro k' r' hd' hw e d hr;rw[qq hd]at hr;rw[qq hd',e,hw];exact hr
 rcases Xe G.h G.S hc with⟨e,hx⟩|⟨p,i,e⟩|⟨p,i,hx⟩
 ·rw[e];refine Prog.keep (Nat.le_refl _) (fun hr=>?_) (fun d h=>h);rw[qq hd]at hr;split at hr
  ·rcases hx with hx|⟨hx,_⟩|⟨hx,_⟩
   ·rw[hpw c hc.1 hc.2 (hleft c hr).2.1]at hx;cases hx
   ·rw[hr]at hx;cases hx
   ·rw[hr]at hx;cases hx
  ·subst hr;rw[decide_eq_true rfl]at hot;rcases hx with hx|⟨_,hx,_⟩|⟨_,hx,_⟩
   ·rw[hpw _ hc.1 hc.2 (G.h.dk.ao _ R.ah)]at hx;cases hx
   ·rw[hot]at hx;cases hx
   ·rw[hot]at hx;cases hx
 ·rw[e];have hi:=fun d=>XJ (d:=d) hin G.t i;have hsw:sW {k with co:=cU k.co c k.now}<=sW k:=Fh (k':={k with co:=cU k.co c k.now}) rfl (fun _ h=>h) fun d _ hdd=>(hi d hdd).1;have hle:∀{e:Nat},ck {k with co:=cU k.co c k.now} r+e<=ck k r->dW {k with co:=cU k.co c k.now}+e<=dW k:=fun hw=>Az (k':={k with co:=cU k.co c k.now}) hd hd (fun _ _=>Nat.le_refl _) (Nat.le_refl _) (Nat.le_refl _) (Nat.le_refl _) rfl hsw hw
  have hwd:ck {k with co:=cU k.co c k.now} r<=ck k r:=by
   unfold ck;simp only;split
   ·rename_i hh;rw[if_pos (hi _ hh).1];exact Nat.le_refl _
   ·exact Nat.zero_le _
  by_cases hcw:c=r.ah
  ·refine Prog.lt ?_
   have:=hle (e:=1) (by
    unfold ck;simp only;rw[if_neg (fun hh=>(hi _ hh).2 hcw.symm),<-hcw,if_pos i];exact Nat.le_refl _)
   omega
  ·by_cases hlc:hs (bc k.sp) c=true
   ·refine Prog.lt ?_;have hz:=(hleft c hlc).1;have hlt:=afB (k:=k) (k':={k with co:=cU k.co c k.now}) rfl rfl hc hlc i hi;have e1:=AA R hd hz;have e2:=AA (k:={k with co:=cU k.co c k.now}) R hd hz;omega
   ·refine Prog.keep (hle (e:=0) hwd) (fun hr=>?_) (rpk _ r hd rfl rfl);rw[qq hd]at hr;split at hr
    ·exact hlc hr
    ·exact hcw hr
 ·rcases hx with⟨hl,e⟩|⟨hl,hh,e⟩|⟨hl,hh,ha,hx⟩
  ·rw[e];obtain⟨a1,a2,a3⟩:=afA hc G.S.n.2 hl;have hz:=(hleft c hl).1;refine Prog.lt ?_;have e1:=AA R hd hz;have R':od k.n k.on k.ac k.ga.2 (iA k.sp c).2 r:=⟨R.v,R.over,R.ne,R.ah,R.ab,R.de,R.g0,R.g1,R.jl,by rw[a2];exact R.py⟩;have e2:=AA (k:={k with sp:=(iA k.sp c).2}) R' hd (by rw[show({k with sp:=(iA k.sp c).2}:K).sp.1=k.sp.1 from a2];exact hz);have e3:ck {k with sp:=(iA k.sp c).2} r=ck k r:=rfl;omega
  ·rw[hot]at hh;have hcw:=of_decide_eq_true hh;subst hcw;have G':=G.step r.ah;rw[e]at G'⊢;rcases aib G G' hd with ht|⟨e2,hz,hr⟩
   ·exact Prog.lt ht
   ·rw[e2];refine Prog.keep (Nat.le_of_eq ?_) (fun hrr=>?_) (rpk _ {r with told:=true} rfl rfl rfl)
    ·rw[mH (r:={r with told:=true}) rfl,mH hd];rfl
    ·rw[qq hd,if_pos ⟨hz,hr⟩,hwho]at hrr;cases hrr
  ·rw[hot]at hh;have hcw:¬r.ah=c:=of_decide_eq_false hh
   have nrp:¬Rp k c:=fun hr=>by
    rw[qq hd]at hr;split at hr
    ·rw[hl]at hr;cases hr
    ·exact hcw hr.symm
   have hne:r.up=false->2<=r.ag->r.ab≠c:=fun hu h2 e=>by
    have:=(sd R hu h2).2;rw[e,ha]at this;cases this
   rcases hx with hT|⟨_,e|e⟩
   ·refine Prog.keep (Az (e:=0) hd (by rw[hT.dk];exact hd) (fun hu h2=>hT.ql _ (sd R hu h2).2) (hT.tl _) (hT.less.w _) (hT.less.c _) (by rw[hT.sp]) (Fh hT.n (fun d hdd=>by rw[hT.sp]at hdd;exact hdd) (fun d _ hdd=>by rw[hT.co]at hdd;exact hdd)) (by unfold ck;rw[hT.co];exact Nat.le_refl _)) nrp (rpk _ r (by rw[hT.dk];exact hd) rfl hT.sp)
   ·rw[e];refine Prog.keep (Az (k':={k with rq:=la k.rq c}) (e:=0) hd hd (fun hu h2=>Nat.le_of_eq (congrArg List.length ?_)) (Nat.le_refl _) (Nat.le_refl _) (Nat.le_refl _) rfl (Nat.le_refl _) (Nat.le_refl _)) nrp (rpk _ r hd rfl rfl);have hcc:=hne hu h2;have c0:=R.v.ab.1;simp only;unfold la;split
    ·rename_i hci;unfold aY;by_cases hq:cI k.rq r.ab
     ·have hq':cI (k.rq.set c.toNat (iw (eG k.rq c))) r.ab:=by unfold cI at hq⊢;rw[List.length_set];exact hq
      rw[if_pos hq,if_pos hq'];unfold cI at hci
      have e:eG (k.rq.set c.toNat (iw (eG k.rq c))) r.ab=eG k.rq r.ab:=by
       generalize iw (eG k.rq c)=y;unfold eG;rw[List.getD_eq_getElem?_getD,List.getD_eq_getElem?_getD,List.getElem?_set_ne (by omega)]
      rw[e]
     ·have hq':¬cI (k.rq.set c.toNat (iw (eG k.rq c))) r.ab:=by unfold cI at hq⊢;rw[List.length_set];exact hq
      rw[if_neg hq,if_neg hq']
    ·rfl
   ·rw[e];have hsw:sW (mC k c)<=sW k:=Fh (k':=mC k c) rfl (fun _ h=>h) fun d hdl hdd=>(EZ hdd).elim id fun e=>by rw[e,hl]at hdl;cases hdl
    refine Prog.keep (Az (k':=mC k c) (e:=0) hd hd (fun _ _=>Nat.le_refl _) (Nat.le_refl _) (Nat.le_refl _) (Nat.le_refl _) rfl hsw ?_) nrp (rpk _ r hd rfl rfl);unfold ck;split
    ·rename_i hdd;rcases EZ (show(aJ (ju k.co c _ k.now) r.ah).idle=true from hdd)with q|q
     ·rw[if_pos q];exact Nat.le_refl _
     ·exact absurd q hcw
    ·exact Nat.zero_le _
theorem bT.prog (G:bT k) {c:Int} (hc:0<=c/\c<k.n):Prog (aK k c) k c:=by
 cases hd:k.dk.1 with
 | none=>exact abg G hd hc
 | some r=>exact YM G hd hc
def cS (k:K):Bool:=!dj k.dk&&decide ((bF k.wk (-1)).length=0)&&(List.range k.n).all (fun c:Nat=>decide ((bF k.wk (c:Int)).length=0)&&decide ((cJ k.ca (c:Int)).length=0)&&!jD k.tm (c:Int))&&!(iq k.ir).any (cv k.ir)
theorem bT.ah (G:bT k) (hst:cS k=false):∃c:Int,(0<=c/\c<k.n)/\Rp k c:=by
 cases hd:k.dk.1 with
 | some r=>
  have R:=G.h.dk.bJ r hd;by_cases hw:k.sp.1≠0/\fB k.sp=false
  ·have hne:bc k.sp≠0:=fun e=>by
    have:=hw.2;unfold fB at this;rw[e]at this;simp at this;exact hw.1 this
   have hf:=vV hne;refine⟨(dK (bc k.sp)).1,⟨(gP hf).1,?_⟩,by rw[qq hd,if_pos hw];exact hf⟩;obtain⟨hu,_,_,_,e⟩:=R.py hw.1;have hh:=hf;generalize (dK (bc k.sp)).1=d at hh⊢;unfold bc at hh;rw[e,lL,eu,kT]at hh;simp only[Bool.and_eq_true,Bool.or_eq_true,decide_eq_true_eq]at hh;rcases hh.1.1 with hh|⟨_,rfl⟩
   ·exact G.h.gL d hh
   ·exact R.ab
  ·exact⟨r.ah,⟨R.v.ah.1,G.h.gL _ R.ah⟩,by rw[qq hd,if_neg hw]⟩
 | none=>
  have act:∀{s c:Int},aW k.ac k.dk s c->hs k.ac c=true:=fun h=>h.none_ hd;have go:∀c:Int,hs k.ac c=true->iP k c=true->∃c:Int,(0<=c/\c<k.n)/\Rp k c:=fun c h1 h2=>⟨c,⟨(gP h1).1,G.h.gL c h1⟩,by rw[mM hd];exact⟨h1,h2⟩⟩;have hb:dj k.dk=false:=by unfold dj;rw[hd];rfl
  have hwk:=G.S.gh
  have pos:∀{l:List Int},¬l.length=0->∃v,v∈l:=fun{l} h=>by
   cases l with
   | nil=>exact absurd rfl h
   | cons a l=>exact⟨a,by simp⟩
  unfold cS at hst;rw[hb]at hst;simp only[Bool.not_false,Bool.true_and,Bool.and_eq_false_iff,decide_eq_false_iff_not,List.all_eq_false,List.mem_range,Bool.not_eq_false',List.any_eq_true]at hst;rcases hst with(hst|⟨c,hc,hst⟩)|⟨m,hm,hst⟩
  ·have ha:=vV G.h.dk.an;exact go _ ha (by unfold iP;rw[Bool.or_eq_true];exact .inr (decide_eq_true (by omega)))
  ·simp only[Bool.not_eq_true,Bool.and_eq_false_iff,decide_eq_false_iff_not,Bool.not_eq_false']at hst;rcases hst with(hst|hst)|hst
   ·obtain⟨v,hv⟩:=pos hst;have hrow:v∈bV k.wk (c:Int):=by unfold bF at hv;rw[if_pos ⟨by omega,by omega⟩]at hv;exact hv
    exact go c (act (G.h.w _ v (by omega) hrow)) (by unfold iP;rw[Bool.or_eq_true];exact .inr (decide_eq_true (by omega)))
   ·obtain⟨v,hv⟩:=pos hst
    have hrow:v∈aM k.ca (c:Int):=by
     unfold cJ at hv;split at hv
     ·exact hv
     ·cases hv
    exact go c (act (G.h.c _ v (by omega) hrow)) (by unfold iP;rw[Bool.or_eq_true,Bool.or_eq_true,Bool.or_eq_true];exact .inl (.inl (.inl (decide_eq_true (by omega)))))
   ·obtain⟨_,t,p,h1,h2,h3⟩:=Wt.1 hst;have:=act (G.h.t t p h1);rw[h2]at this;exact go c this (by unfold iP;rw[hst];simp)
  ·have hin:=EW hst;obtain⟨c,h1,h2⟩:=G.h.i m hin.1.1 hin.1.2 hin.2;refine go c (act h2) ?_;have:(jJ k c).2=true:=Gj.2 ⟨m,dT.2 ⟨hin.1.1,by omega,by unfold nM;rw[h1];simp⟩,hst⟩;unfold iP;rw[this];simp
theorem aaM (n:Nat):l8 aK cS n (fun k=>bT k/\k.n=n) dW Rp where
 inv:=fun s c h _=>⟨h.1.step c,by rw[wE];exact h.2⟩
 le:=fun s c h hc=>(h.1.prog (by rw[h.2];exact hc)).1
 ah:=fun s h hst=>by obtain⟨c,h1,h2⟩:=h.1.ah hst;exact⟨c,by rw[<-h.2];exact h1,h2⟩
 keep:=fun s c d h hc hd hr hne=>(h.1.prog (c:=d) (by rw[h.2];exact hd)).2.2 c (Ne.symm hne) hr
 down:=fun s c h hc hr=>(h.1.prog (by rw[h.2];exact hc)).2.1 hr
theorem bT.aez (G:bT k):dW k<500:=by
 cases hd:k.dk.1 with
 | none=>
  rw[lR hd];have:=Vy G.h G.S;have:=Vx k;have:=G.n9
  omega
 | some r=>
  rw[mH hd];have R:=G.h.dk.bJ r hd;have hst:=R.v.st;have hdid:=R.v.ag;have h1:ck k r<=1:=by unfold ck;split<;>omega
  have h2:dX k r<=200:=by
   unfold dX;split
   ·split at hst<;>omega
   ·split
    ·omega
    ·have hb:da r.ag<=173:=by
      unfold da;repeat' split
      all_goals omega
     have hcur:da r.ag+cq k r<=188:=by
      have a1:=Wn G.h G.S r.ab;have a2:=Xn G.S r.ab;have a3:=XO G.S r.ab;have a4:=Rr G.h r.ab;have a5:=WR k;have a6:=G.n9;unfold da cq
      repeat' split
      all_goals omega
     omega
  omega
theorem bT.zg (G:bT k):(cV aK cS (cg k.n (500*k.n)) k).2.2=true:=
 (aaM k.n).zg (by have:=G.S.n;omega) ⟨G,rfl⟩ G.aez
end
end Go.Dav
namespace Go.Dav
open Go.Proofs
section
variable {b:Nat} {W w:World} {F:Fp} {k:K} {q:KQ}
theorem tB (hq:aa (KF b q) W w F k):Cx 72 #[pt b] w fun e w'=>(∃s n c,e=Z (.agg #[pt q.th,pt q.rq,pt q.tm,pt q.ir,pt q.rt,pt q.wk,pt q.ca,pt q.st,pt q.sc,pt q.ga,pt q.so,pt q.dk,pt q.co,pt q.me,.slice s n c]))/\af no w w':=by
 refine u72 ?_;rw[t72];refine⟨fun w1 hN=>⟨fun g=>(by cases g),fun _=>?_⟩⟩;have hB:=KF.ai (hq.ae (hN.ae no));unfold jX at hB;refine⟨_,rfl,_,hB.av rfl,_,hB.av rfl,_,hB.av rfl,_,hB.av rfl,_,hB.av rfl,_,hB.av rfl,_,hB.av rfl,_,hB.av rfl,_,hB.av rfl,_,hB.av rfl,_,hB.av rfl,_,hB.av rfl,_,hB.av rfl,_,hB.av rfl,_,_,_,hB.av rfl,?_⟩;refine hN.aF.gF (by simp) fun w2 hW=>?_;have hU:af no w w2:=(hN.ae no).trans (af.mono (G:=fun i=>i=w.heap.size) hW.U (fun _ _ h=>h)) (fun i hi h=>by omega);have hL:=hW.aF;exact⟨_,hL.cell rfl,_,hL.cell rfl,_,hL.cell rfl,_,hL.cell rfl,_,hL.cell rfl,_,hL.cell rfl,_,hL.cell rfl,_,hL.cell rfl,_,hL.cell rfl,_,hL.cell rfl,_,hL.cell rfl,_,hL.cell rfl,_,hL.cell rfl,_,hL.cell rfl,_,_,_,hL.cell rfl,⟨_,_,_,rfl⟩,hU⟩
theorem acA (hq:aa (KF b q) W w F k):Cx 19 #[pt b] w fun e w'=>e=Z (pt q.ga)/\af no w w':=by
 refine u19 ?_;rw[t19];refine⟨(tB hq).mono ?_⟩;rintro e w1 ⟨⟨s,n,c,rfl⟩,hU⟩;exact⟨_,_,_,_,_,_,_,_,_,_,_,_,_,_,_,_,_,rfl,rfl,hU⟩
theorem acs (hq:aa (KF b q) W w F k):Cx 98 #[pt b] w fun e w'=>e=Z (pt q.dk)/\af no w w':=by
 refine u98 ?_;rw[t98];refine⟨(tB hq).mono ?_⟩;rintro e w1 ⟨⟨s,n,c,rfl⟩,hU⟩;exact⟨_,_,_,_,_,_,_,_,_,_,_,_,_,_,_,_,_,rfl,rfl,hU⟩
theorem UP (hq:aa (KF b q) W w F k):Cx 92 #[pt b] w fun e w'=>e=Z (pt q.wk)/\af no w w':=by
 refine u92 ?_;rw[t92];refine⟨(tB hq).mono ?_⟩;rintro e w1 ⟨⟨s,n,c,rfl⟩,hU⟩;exact⟨_,_,_,_,_,_,_,_,_,_,_,_,_,_,_,_,_,rfl,rfl,hU⟩
theorem aco (hq:aa (KF b q) W w F k):Cx 94 #[pt b] w fun e w'=>e=Z (pt q.ca)/\af no w w':=by
 refine u94 ?_;rw[t94];refine⟨(tB hq).mono ?_⟩;rintro e w1 ⟨⟨s,n,c,rfl⟩,hU⟩;exact⟨_,_,_,_,_,_,_,_,_,_,_,_,_,_,_,_,_,rfl,rfl,hU⟩
theorem acS (hq:aa (KF b q) W w F k):Cx 30 #[pt b] w fun e w'=>e=Z (pt q.tm)/\af no w w':=by
 refine u30 ?_;rw[t30];refine⟨(tB hq).mono ?_⟩;rintro e w1 ⟨⟨s,n,c,rfl⟩,hU⟩;exact⟨_,_,_,_,_,_,_,_,_,_,_,_,_,_,_,_,_,rfl,rfl,hU⟩
theorem UI (hq:aa (KF b q) W w F k):Cx 173 #[pt b] w fun e w'=>e=Z (pt q.ir)/\af no w w':=by
 refine ajt ?_;rw[t173];refine⟨(tB hq).mono ?_⟩;rintro e w1 ⟨⟨s,n,c,rfl⟩,hU⟩;exact⟨_,_,_,_,_,_,_,_,_,_,_,_,_,_,_,_,_,rfl,rfl,hU⟩
theorem acr (hq:aa (KF b q) W w F k):Cx 83 #[pt b] w fun e w'=>e=Z (I (k.n:Int))/\w'=w:=by
 refine u83 ?_;rw[t83];exact⟨fun g=>(by cases g),fun _=>⟨_,rfl,_,(KF.ai hq).cell rfl,rfl,rfl⟩⟩
theorem UE (h:aa (KO b) W w F k):Cx 16 #[pt b] w fun e w'=>e=Z (.int .u64 (mi k.ac))/\w'=w:=by
 obtain⟨q,hq⟩:=KO.fix h;refine u16 ?_;rw[t16];exact⟨fun g=>(by cases g),fun _=>⟨_,rfl,_,(KF.ai hq).cell rfl,rfl,rfl⟩⟩
theorem acJ (hq:aa (KF b q) W w F k):0<=k.ga.1.sum/\∀w',af no w w'->Cx 19 #[pt b] w' fun e w1=>e=Z (pt q.ga)/\af no w' w1/\∃F1,dQ q.ga w1 F1 k.ga:=by
 obtain⟨F1,hA,_⟩:=KF.ga hq
 have hpos:∀(l:List Int),(∀v∈l,0<=v)->0<=l.sum:=fun l=>by
  induction l with
  | nil=>intro _;exact Int.le_refl _
  | cons a l ih=>
   intro h;have:=ih fun v hv=>h v (by simp[hv]);have:=h a (by simp);rw[List.sum_cons];omega
 refine⟨hpos _ hA.2.pos,fun w' hU=>(acA (hq.ae hU)).mono ?_⟩;rintro e w1 ⟨rfl,hU1⟩;obtain⟨F2,hA2,_⟩:=KF.ga ((hq.ae hU).ae hU1);exact⟨rfl,hU1,F2,hA2⟩
theorem aaR {s:bj} (h:bQ b w F s) {p:Option Addr} {l:List Int} {c:Nat} (hC:Cells w p (l.map (Value.int .i64))) (hl:l.length<=1000) :
  Cx 172 #[.slice p l.length c,.func (.func 175) #[pt b] #[]] w fun e w'=>e=Z (.bool (l.any (cv s)))/\w'=w:=by
 refine ajs ?_;rw[t172];refine⟨(To h hC hl).mono ?_⟩;rintro e w1 ⟨⟨i,hi,hf,rfl⟩|⟨hf,rfl⟩,rfl⟩
 ·have:l.any (cv s)=true:=List.any_eq_true.2 ⟨l[i],List.getElem_mem hi,List.find?_some hf⟩;refine⟨_,rfl,?_,rfl⟩;rw[this,decide_eq_true (by omega)]
 ·have:l.any (cv s)=false:=List.any_eq_false.2 (List.find?_eq_none.1 hf);refine⟨_,rfl,?_,rfl⟩;rw[this];rfl
def qo (k:K) (c:Int):Bool:=decide ((bF k.wk c).length=0)&&decide ((cJ k.ca c).length=0)&&!jD k.tm c
theorem abc (hq:aa (KF b q) W w F k) (c:Int):Cx 171 #[pt b,I c] w fun e w'=>e=Z (.bool (qo k c))/\af no w w':=by
 refine ajr ?_;rw[t171];unfold qo;refine⟨(UP hq).mono ?_⟩;rintro e w1 ⟨rfl,hU1⟩;replace hq:=hq.ae hU1;obtain⟨F1,hA1,_⟩:=KF.wk hq;refine⟨_,rfl,⟨(Bu hA1 c).mono ?_⟩⟩;rintro e w2 ⟨rfl,hU2⟩;replace hq:=hq.ae hU2;have hU12:=hU1.trans hU2 (fun _ _ h=>h);refine⟨_,rfl,fun g=>⟨(aco hq).mono ?_⟩,fun g=>⟨?_,hU12⟩⟩
 ·have g:(bF k.wk c).length=0:=by simpa using g
  rw[decide_eq_true g,Bool.true_and];rintro e w3 ⟨rfl,hU3⟩;replace hq:=hq.ae hU3;have hU13:=hU12.trans hU3 (fun _ _ h=>h);obtain⟨F2,hA2,_⟩:=KF.ca hq;refine⟨_,rfl,⟨(Rs hA2 c).mono ?_⟩⟩;rintro e w4 ⟨rfl,hU4⟩;replace hq:=hq.ae hU4;have hU14:=hU13.trans hU4 (fun _ _ h=>h);refine⟨_,rfl,fun g2=>⟨(acS hq).mono ?_⟩,fun g2=>⟨?_,hU14⟩⟩
  ·have g2:(cJ k.ca c).length=0:=by simpa using g2
   rw[decide_eq_true g2,Bool.true_and];rintro e w5 ⟨rfl,hU5⟩;replace hq:=hq.ae hU5;obtain⟨F3,hA3,_⟩:=KF.tm hq;refine⟨_,rfl,⟨(Xq hA3 c).mono ?_⟩⟩;rintro e w6 ⟨rfl,hU6⟩;exact⟨_,rfl,rfl,(hU14.trans hU5 (fun _ _ h=>h)).trans hU6 (fun _ _ h=>h)⟩
  ·have g2:¬(cJ k.ca c).length=0:=by simpa using g2
   rw[decide_eq_false g2];rfl
 ·have g:¬(bF k.wk c).length=0:=by simpa using g
  rw[decide_eq_false g];rfl
theorem SR (h:aa (KO b) W w F k):Cx 79 #[pt b] w fun e w'=>e=Z (.bool (cS k))/\af no w w':=by
 obtain⟨q,hq⟩:=KO.fix h;refine u79 ?_;rw[t79];refine⟨fun _=>⟨(acs hq).mono ?_⟩,fun g=>(by cases g)⟩;rintro e w1 ⟨rfl,hU1⟩;replace hq:=hq.ae hU1;obtain⟨F1,hA1,_⟩:=KF.dk hq;refine⟨_,rfl,⟨(rn hA1).mono ?_⟩⟩;rintro e w2 ⟨rfl,rfl⟩;refine⟨_,rfl,fun g=>⟨(UP hq).mono ?_⟩,fun g=>⟨?_,hU1⟩⟩
 ·rintro e w3 ⟨rfl,hU3⟩;replace hq:=hq.ae hU3;have hU13:=hU1.trans hU3 (fun _ _ h=>h);obtain⟨F2,hA2,_⟩:=KF.wk hq;refine⟨_,rfl,⟨(Bu hA2 (-1)).mono ?_⟩⟩;rintro e w4 ⟨rfl,hU4⟩;replace hq:=hq.ae hU4;have hU14:=hU13.trans hU4 (fun _ _ h=>h);refine⟨_,rfl,fun g2=>⟨?_,hU14⟩,fun g2=>⟨(acr hq).mono ?_⟩⟩
  ·have g2:=of_decide_eq_true g2;unfold cS;rw[decide_eq_false (show ¬(bF k.wk (-1)).length=0 by omega)];simp
  ·have g2:(bF k.wk (-1)).length=0:=by have:=of_decide_eq_false g2;omega
   rintro e w5 ⟨rfl,rfl⟩;refine⟨_,rfl,⟨bA bf (M:=qT) (σ:=Nat) (fun i=>Dw (some ⟨b,0,none⟩) (k.n:Int) (i:Int)) (fun i w'=>i<=k.n/\(∀j:Nat,j<i->qo k (j:Int)=true)/\af no w w'/\aa (KF b q) W w' F k) (fun i _=>k.n-i) 0 ⟨rfl,rfl,rfl,trivial⟩ ⟨Nat.zero_le _,fun j hj=>by omega,hU14,hq⟩ ?_⟩⟩;intro i w6 hI;have hi:=hI.1;have hn:=hI.2.1;have hU:=hI.2.2.1;have hq6:=hI.2.2.2;clear hI;rw[ahx];refine⟨fun g3=>⟨(abc hq6 (i:Int)).mono ?_⟩,fun g3=>aA.mk ?_⟩
   ·have g3:=of_decide_eq_true g3;rintro e w7 ⟨rfl,hU7⟩;have hU67:=hU.trans hU7 (fun _ _ h=>h);refine⟨_,rfl,fun g4=>⟨?_,hU67⟩,fun g4=>⟨i+1,⟨rfl,rfl,by rw[aD (by have:=(KF.num hq6).2;omega)]<;>rfl,trivial⟩,⟨by omega,fun j hj=>?_,hU67,hq6.ae hU7⟩,by omega⟩⟩
    ·have g4:qo k (i:Int)=false:=by simpa using g4
     unfold cS;have:(List.range k.n).all (fun c:Nat=>qo k (c:Int))=false:=List.all_eq_false.2 ⟨i,List.mem_range.2 (by omega),by rw[g4];decide⟩;unfold qo at this;rw[this];simp
    ·by_cases e:j=i
     ·subst e;simpa using g4
     ·exact hn j (by omega)
   ·have g3:=of_decide_eq_false g3;have hall:(List.range k.n).all (fun c:Nat=>qo k (c:Int))=true:=List.all_eq_true.2 fun j hj=>hn j (by have:=List.mem_range.1 hj;omega);rw[ahw];refine⟨(UI hq6).mono ?_⟩;rintro e w7 ⟨rfl,hU7⟩;have hq7:=hq6.ae hU7;obtain⟨F3,hA3,_⟩:=KF.ir hq7;refine⟨_,rfl,⟨(U7 hA3).mono ?_⟩⟩;rintro e w8 ⟨p,c,rfl,hL⟩;have hq8:=hq7.ae hL.U;refine⟨_,_,_,rfl,⟨(UI hq8).mono ?_⟩⟩;rintro e w9 ⟨rfl,hU9⟩;have hq9:=hq8.ae hU9;obtain⟨F4,hA4,_⟩:=KF.ir hq9;refine⟨_,rfl,⟨(aaR hA4 (hL.S.cells.no hU9) (Nat.le_trans (xm _ _) (by omega))).mono ?_⟩⟩;rintro e w10 ⟨rfl,rfl⟩;refine⟨_,rfl,?_,((hU.trans hU7 (fun _ _ h=>h)).trans hL.U (fun _ _ h=>h)).trans hU9 (fun _ _ h=>h)⟩;have g':dj k.dk=false:=g;unfold qo at hall;unfold cS;rw[g',g2,hall];simp
 ·have g':dj k.dk=true:=g;unfold cS;rw[g'];rfl
end
theorem aaj {k:K} {c:Int} (hc:0<=c/\c<k.n):bX k (1,c,0,0,0)=aK k c:=by
 unfold bX;rw[if_pos (show((1,c,0,0,0):aU).1=1 from rfl),if_neg (show ¬(((1,c,0,0,0):aU).2.1<0∨(k.n:Int)<=((1,c,0,0,0):aU).2.1) by simp only;omega)]
theorem WJ {n:Nat}:∀(l:List Int) {k:K},ar k->ar (eH aK l k)/\(eH aK l k).n=k.n
 | [],_,h=>⟨h,rfl⟩
 | c::l,k,h=>by
  have:=WJ (n:=n) l (h.step c);exact⟨this.1,this.2.trans (wE k c)⟩
set_option maxRecDepth 100000 in
theorem SD {b:Nat} {W w:World} {F:Fp} {k:K} (hTab:Tab W) (h0:¬F 0) (hS:ar k) {p:Option Addr} {c:Nat} {l:List Int} (h:aa (au (KO b) (Ls 3)) W w F (k,(p,c,l))) (hl:l.length<=100000) (hc:∀c∈l,0<=c/\c<(k.n:Int)) :
  Cx 21 #[pt b,.slice p l.length c] w fun e w'=>e=Z (.tuple #[I ((cV aK cS l k).2.1:Int),I (if(cV aK cS l k).2.2 then 0 else 7)])/\aa (au (KO b) (Ls 3)) W w' F ((cV aK cS l k).1,(p,c,l)):=by
 refine u21 ?_;rw[t21];refine⟨fun g=>(by cases g),fun _=>⟨bA bf (M:=qL) (σ:=Nat) (fun i=>C2 (some ⟨b,0,none⟩) p l.length c p l.length c (l.length:Int) (i:Int)) (fun i w'=>i<=l.length/\cV aK cS l k=((cV aK cS (l.drop i) (eH aK (l.take i) k)).1,(cV aK cS (l.drop i) (eH aK (l.take i) k)).2.1+i,(cV aK cS (l.drop i) (eH aK (l.take i) k)).2.2)/\aa (au (KO b) (Ls 3)) W w' F (eH aK (l.take i) k,(p,c,l))) (fun i _=>l.length-i) 0 ⟨rfl,rfl,rfl,rfl,rfl,trivial⟩ ⟨Nat.zero_le _,rfl,h⟩ ?_⟩⟩;intro i w1 hI;have hi:=hI.1;have hd:=hI.2.1;have hT:=hI.2.2;clear hI;rw[agI];refine⟨fun g=>?_,fun g=>aA.mk ?_⟩
 ·have g:=of_decide_eq_true g;have hlt:i<l.length:=by omega
  have hC:Cells w1 p (l.map (Value.int .i64)):=by obtain⟨_,hR,_⟩:=hT.right;exact hR.2.cells
  obtain⟨a,ha,hcell⟩:=hC.bC hlt;obtain⟨hSi,hni⟩:=WJ (n:=0) (l.take i) hS;have hci:=hc l[i] (List.getElem_mem hlt);have hdr:l.drop i=l[i]::l.drop (i+1):=List.drop_eq_getElem_cons hlt;have htk:eH aK (l.take (i+1)) k=aK (eH aK (l.take i) k) l[i]:=by rw[List.take_succ_eq_append_getElem hlt,WK];rfl
  refine⟨⟨by omega,by omega⟩,a,ha,_,hcell,⟨(SR hT.drop).mono ?_⟩⟩;rintro e w2 ⟨rfl,hU2⟩;have hT2:=hT.ae hU2;refine⟨_,rfl,fun g2=>?_,fun g2=>?_⟩
  ·have g2:cS (eH aK (l.take i) k)=true:=g2;have e1:cV aK cS (l.drop i) (eH aK (l.take i) k)=(eH aK (l.take i) k,0,true):=by rw[hdr];unfold cV;rw[if_pos g2]
   rw[e1]at hd;rw[hd];refine⟨?_,hT2⟩;simp only[Nat.zero_add,if_true]
  ·have g2:cS (eH aK (l.take i) k)=false:=g2;obtain⟨F3,hA3,hT3',h03,k3⟩:=hT2.kY hTab h0;refine⟨(qd (e:=(1,l[i],0,0,0)) hT3' h03 (aa.same hA3) hSi.fe).mono ?_⟩;rintro e w3 ⟨pr,cr,rfl,hD⟩;rw[aaj (by rw[hni];exact hci),<-htk]at hD;have hT3:=k3 _ _ _ hD.drop;refine⟨_,_,_,rfl,i+1,⟨rfl,rfl,rfl,rfl,by rw[aD (by omega)]<;>rfl,trivial⟩,⟨by omega,?_,hT3⟩,by omega⟩;rw[hd,hdr]
   conv=>lhs;unfold cV
   rw[if_neg (by rw[g2];decide),htk];simp only;refine Prod.ext rfl (Prod.ext ?_ rfl);simp only;omega
 ·have g:=of_decide_eq_false g;have hil:i=l.length:=by omega
  subst hil;rw[agH];rw[List.drop_length,List.take_length]at hd;rw[List.take_length]at hT;refine⟨(SR hT.drop).mono ?_⟩;rintro e w2 ⟨rfl,hU2⟩;have hT2:=hT.ae hU2;rw[hd];unfold cV;refine⟨_,rfl,fun g2=>⟨?_,hT2⟩,fun g2=>⟨?_,hT2⟩⟩
  ·have g2:cS (eH aK l k)=true:=g2;simp only[g2,Nat.zero_add,if_true]
  ·have g2:cS (eH aK l k)=false:=g2;simp only[g2,Nat.zero_add];rfl
theorem aaP {n:Nat} (hn:1<=n/\n<=64) (w:World):Cx 18 #[I (n:Int)] w fun e w'=>e=Z (I ((500*n:Nat):Int))/\w'=w:=by
 refine u18 ?_;rw[t18];refine⟨fun _=>⟨fun g=>by have:=of_decide_eq_true g;omega,fun _=>⟨?_,rfl⟩⟩,fun g=>by have:=of_decide_eq_true g;omega⟩;rw[aD (by omega)];congr 2;omega
theorem aid (n i:Nat):cg n (i+1)=cg n i++[((i%n:Nat):Int)]:=by
 unfold cg;rw[List.range_succ,List.map_append];rfl
theorem Ga (n i:Nat):(cg n i).length=i:=by simp[cg]
theorem abi {n:Nat} (hn:1<=n) {m:Nat} (hm:m<=100000) (w:World):Cx 17 #[I (n:Int),I (m:Int)] w fun e w'=>∃p c,e=Z (.slice p (cg n m).length c)/\Loc w w' 3 p c (cg n m):=by
 refine u17 ?_;rw[t17];refine⟨bA bf (M:=uK) (σ:=Nat×Option Addr×Nat) (fun s=>CX (n:Int) (m:Int) s.2.1 (cg n s.1).length s.2.2 (s.1:Int)) (fun s w'=>s.1<=m/\Loc w w' 3 s.2.1 s.2.2 (cg n s.1)) (fun s _=>m-s.1) (0,none,0) ⟨rfl,rfl,rfl,rfl,trivial⟩ ⟨Nat.zero_le _,Loc.nil (af.refl _ _) _⟩ ?_⟩;rintro⟨i,p,c⟩ w1 ⟨hi,hL⟩;simp only at hi hL⊢;rw[agz];refine⟨fun g=>⟨by omega,⟨fun w2 hN=>?_⟩⟩,fun g=>?_⟩
 ·have g:=of_decide_eq_true g;have em:Int.tmod (i:Int) (n:Int)=((i%n:Nat):Int):=by rw[Int.tmod_eq_emod_of_nonneg (by omega)];rfl
  rw[em]at hN;have hlen:=Ga n i;obtain⟨p',c',w3,hr,hL'⟩:=hL.push kz (by omega) hN 36;rw[<-aid]at hr hL';exact⟨p',_,c',w3,hr,(i+1,p',c'),⟨rfl,rfl,rfl,by rw[aD (by omega)]<;>rfl,trivial⟩,⟨by simp only;omega,hL'⟩,by simp only;omega⟩
 ·have g:=of_decide_eq_false g;have:i=m:=by omega
  subst this;exact⟨p,c,rfl,hL⟩
end Go.Dav
namespace Go.Dav
open Go.Proofs
theorem acG (n:Int) (hn:¬(1<=n/\n<=64)) (w:World):Cx 8 #[I n] w fun e w'=>e=Z (.tuple #[.pointer none,I 2])/\w'=w:=by
 refine u8 ?_;rw[t8];refine⟨fun g=>⟨fun _=>⟨rfl,rfl⟩,fun g2=>?_⟩,fun _=>⟨rfl,rfl⟩⟩;have g:=of_decide_eq_false g;have g2:=of_decide_eq_false g2;exact absurd ⟨by omega,by omega⟩ hn
end Go.Dav
namespace Go.Dav
open Go.Proofs
theorem Z8 (k:K) (p:Int) (m:BV):(lj k p m).dk=k.dk:=by unfold lj;split<;>rfl
theorem Z7 (k:K) (id:Int) (x:Th) (n:Int):(lg k id x n).dk=k.dk:=by unfold lg;split;split<;>rfl;rfl
theorem Z4 (k:K) (id:Int) (x:Th):(kF k id x).dk=k.dk:=by unfold kF;split<;>rfl
theorem aaa (k:K) (e:aU):(eI k e).dk=k.dk:=by
 unfold eI;simp only;split;rfl;split;rfl;split;exact Z4 _ _ _;split
 ·split
  ·exact Vk _ _
  ·rfl
 split;rfl;split;exact Z7 _ _ _ _;split<;>rfl
theorem Z5 (k:K) (e:aU):(jW k e).dk=k.dk:=by
 unfold jW;split;split<;>rfl;split;split<;>rfl;split;split;exact Lt _ _;rfl;split;rfl;split<;>rfl
theorem RN (k:K) (e:aU):(fG k e).dk=k.dk:=by
 unfold fG;split;rfl;split;unfold np;split<;>rfl;split;rfl;split;rfl;split;rfl;split<;>rfl
theorem Z6 (k:K) {e:aU} (he:e.1≠25):(fA k e).dk=k.dk:=by
 unfold fA;split;unfold nv;split;split<;>rfl;rfl;split;rfl;split;rfl;split;unfold qe;split<;>rfl;split;rfl;split;unfold jn;split;rfl;split<;>rfl;rfl
theorem Z9 (k:K) (c w:Int):(dC k c w).dk=k.dk/\(dC k c w).on=k.on:=by
 unfold dC;split;exact⟨rfl,rfl⟩;split;exact⟨rfl,rfl⟩;split;unfold du;simp only;split<;>exact⟨rfl,rfl⟩;split<;>exact⟨rfl,rfl⟩
theorem CL (k:K) (c:Int):((aK k c).dk=k.dk/\(aK k c).on=k.on)∨(aK k c=eK k c/\∃r,k.dk.1=some r/\r.ah=c):=by
 unfold aK;split;exact .inl ⟨rfl,rfl⟩;split;exact .inl ⟨rfl,rfl⟩;split;exact .inl ⟨rfl,rfl⟩;split
 ·rename_i h3;have:=VL h3;unfold cC at this;simp only[Bool.and_eq_true,decide_eq_true_eq]at this;refine .inr ⟨rfl,?_⟩
  cases hd:k.dk.1 with
  | none=>have:=this.1;unfold dj at this;rw[hd]at this;cases this
  | some r=>exact⟨r,rfl,by have:=this.2;unfold mu at this;rw[hd]at this;exact this⟩
 split;exact .inl ⟨rfl,rfl⟩;exact .inl (Z9 _ _ _)
theorem VU:∀(l:List Int) (k:K),(l.foldl dU k).on=k.on
 | [],_=>rfl
 | a::l,k=>(VU l _).trans (by unfold dU;split<;>rfl)
theorem VS:∀(l:List Int) (k:K),(l.foldl dR k).on=k.on
 | [],_=>rfl
 | a::l,k=>(VS l _).trans (by unfold dR;split<;>rfl)
theorem VT (c:Int):∀(l:List Int) (k:K),(l.foldl (fun k n=>ey k n c) k).on=k.on
 | [],_=>rfl
 | a::l,k=>(VT c l _).trans rfl
theorem FH (k:K) {s:Int} {u:Bool} {c ah:Int} (h:u=true∨(iL k.dk=true/\s<=2)∨(iL k.dk=false/\s<=8)) (h0:0<=s):(b6 k (s,u,false) c ah).on=k.on:=by
 unfold b6;split
 ·unfold jH;split;rfl;split<;>rfl
 ·rename_i hu;simp only at hu⊢;split
  ·rfl
  ·rename_i hs0;split
   ·rename_i hup
    have:s=1∨s=2:=by
     rcases h with h|⟨_,h⟩|⟨h,_⟩
     ·exact absurd h hu
     ·omega
     ·rw[h]at hup;cases hup
    unfold iJ;rcases this with e|e
    ·rw[if_pos e]
    ·rw[if_neg (by omega),if_pos e]
   ·rename_i hup
    have h8:s<=8:=by
     rcases h with h|⟨h,_⟩|⟨_,h⟩
     ·exact absurd h hu
     ·exact absurd h hup
     ·exact h
    unfold dy;split;rfl;split
    ·unfold eQ;split<;>rfl
    split;rfl;split;rfl;split;rfl;split
    ·unfold jz;split;rfl;split
     ·exact VT _ _ _
     ·rfl
    split;rfl;split
    ·rfl
    ·omega
theorem agf (k:K) {s c ah:Int} (h:(iL k.dk=true/\s=3)∨(iL k.dk=false/\s=9)):(b6 k (s,false,false) c ah).on=if iL k.dk then wi k.on c else ls k.on c:=by
 unfold b6;rcases h with⟨hu,rfl⟩|⟨hu,rfl⟩
 ·simp only[Bool.false_eq_true,if_false,hu,if_true];rw[if_neg (by omega)];unfold iJ;rw[if_neg (by omega),if_neg (by omega)];simp only;rw[VS,VU]
 ·simp only[Bool.false_eq_true,if_false,hu];rw[if_neg (by omega)];rfl
section
variable {k:K} {r:aG}
theorem zG (k:K) (r:aG) (ah:Int) :
  ((my k r ah).dk=(some {r with told:=true},k.dk.2)/\(my k r ah).on=(b6 {k with dk:=(some {r with told:=true},k.dk.2)} (r.now.1,r.now.2.1,false) r.ab ah).on)∨
  (({r with told:=false,ag:=if r.back then r.ag-1 else r.ag+1}:aG).over=true/\(my k r ah).dk=(none,k.dk.2)/\(my k r ah).on=(b6 {k with dk:=(some {r with told:=true},k.dk.2)} (r.now.1,r.now.2.1,false) r.ab ah).on)∨
  (({r with told:=false,ag:=if r.back then r.ag-1 else r.ag+1}:aG).over=false/\(my k r ah).dk=(some {r with told:=false,ag:=if r.back then r.ag-1 else r.ag+1},k.dk.2)/\(my k r ah).on=(b6 {k with dk:=(some {r with told:=true},k.dk.2)} (r.now.1,r.now.2.1,false) r.ab ah).on):=by
 unfold my;simp only;generalize ({r with told:=false,ag:=if r.back then r.ag-1 else r.ag+1}:aG).over=o;split
 ·cases o with
  | true=>exact .inr (.inl ⟨rfl,rfl,rfl⟩)
  | false=>exact .inr (.inr ⟨rfl,rfl,rfl⟩)
 ·exact .inl ⟨Xd ..,rfl⟩
def eN (k:K):Prop:=∀j,k.dk.2 j=false
theorem V7 (h:ax k) (hd:k.dk.1=some r) (hp:eN k):eN (eK k r.ah):=by
 have R:=h.dk.bJ r hd;by_cases hf:dm k.dk r=true
 ·unfold dm at hf;rw[hp]at hf;simp at hf
 ·rw[xk hd R.over (by simpa using hf)];unfold eN;rcases zG k r r.ah with⟨e,_⟩|⟨_,e,_⟩|⟨_,e,_⟩<;>(rw[e];exact hp)
theorem V6 (h:ax k) (hp:eN k) (c:Int):eN (aK k c):=by
 rcases CL k c with⟨e,_⟩|⟨e,r,hd,rfl⟩
 ·unfold eN;rw[e];exact hp
 ·rw[e];exact V7 h hd hp
theorem aet (h:ax k) (hp:eN k) {e:aU} (he:e.1≠25):eN (bX k e):=by
 unfold eN bX;split;split;exact hp;exact V6 h hp _;split;rw[show(lZ k e.2.2.2.2).dk=k.dk by unfold lZ;split<;>rfl];exact hp;split;rw[Z8];exact hp;split;rw[aaa];exact hp;split;rw[Z5];exact hp;split;split;exact hp;rw[RN];exact hp;split;rw[RN];exact hp;split
 ·unfold bP;split;exact hp;split;exact hp;split;exact hp;split;exact hp;split;exact hp;simp only;unfold nq;split<;>exact hp
 rw[Z6 k he];exact hp
structure FI (was:BV) (s:Int) (k:K):Prop where
 on:k.on=was
 no:k.dk.1=none->eN k
 go:∀r,k.dk.1=some r->(r.back=true/\eN k)∨(r.back=false/\r.ag<=s/\s<r.dB/\(∀j,k.dk.2 j=decide (j=s))/\(r.told=true->r.ag<s))
theorem FI.bI {was:BV} {s:Int} (f:FI was s k) (h:ax k) (hd:k.dk.1=some r):FI was s (eK k r.ah):=by
 have R:=h.dk.bJ r hd;have hnow:=tV R.over;have hdid:=R.v.ag;have hst:=R.v.st;have hov:=R.over;rw[fu]at hov;have hup:iL ({k with dk:=(some {r with told:=true},k.dk.2)}:K).dk=r.up:=rfl;by_cases hf:dm k.dk r=true
 ·rw[FZ hd R.over hf];have hf':=hf;unfold dm at hf';simp only[Bool.and_eq_true,Bool.not_eq_true']at hf'
  have hb:r.back=false:=by
   have f1:=hf'.1.1;rw[hnow]at f1
   cases hb:r.back with
   | false=>rfl
   | true=>rw[hb]at f1;cases f1
  rcases f.go r hd with⟨hb',_⟩|⟨_,h1,h2,h3,h4⟩
  ·rw[hb]at hb';cases hb'
  have e1:r.now.1=s:=by
   have:=hf'.2;rw[h3]at this;exact of_decide_eq_true this
  have hz:∀j,(if j=r.now.1 then false else k.dk.2 j)=false:=fun j=>by
   split
   ·rfl
   ·rename_i hj;rw[h3,decide_eq_false (by omega)]
  split
  ·exact⟨f.on,fun _=>hz,fun r' hr=>by cases hr⟩
  ·exact⟨f.on,fun e=>(by cases e),fun r' hr=>by cases hr;exact .inl ⟨rfl,hz⟩⟩
 ·have hf:dm k.dk r=false:=by simpa using hf
  rw[xk hd R.over hf];rcases f.go r hd with⟨hb,hp⟩|⟨hb,h1,h2,h3,h4⟩
  ·have hn:r.now=(r.ag-1,true,false):=by rw[hnow,if_pos hb]
   rw[hb]at hov;have hd0:r.ag≠0:=by simpa using hov
   have hon:=FH {k with dk:=(some {r with told:=true},k.dk.2)} (s:=r.now.1) (u:=r.now.2.1) (c:=r.ab) (ah:=r.ah) (.inl (by rw[hn])) (by rw[hn];simp only;omega);rcases zG k r r.ah with⟨e,e2⟩|⟨_,e,e2⟩|⟨_,e,e2⟩
   ·exact⟨by rw[e2,hon];exact f.on,fun x=>(by rw[e]at x;cases x),fun r' hr=>by rw[e]at hr;cases hr;exact .inl ⟨hb,by unfold eN;rw[e];exact hp⟩⟩
   ·exact⟨by rw[e2,hon];exact f.on,fun x=>by unfold eN;rw[e];exact hp,fun r' hr=>by rw[e]at hr;cases hr⟩
   ·exact⟨by rw[e2,hon];exact f.on,fun x=>(by rw[e]at x;cases x),fun r' hr=>by rw[e]at hr;cases hr;exact .inl ⟨hb,by unfold eN;rw[e];exact hp⟩⟩
  ·have hn:r.now=(r.ag,false,false):=by rw[hnow,if_neg (by rw[hb];decide)]
   have hlt:r.ag<s:=by
    cases ht:r.told with
    | true=>exact h4 ht
    | false=>
     unfold dm at hf;rw[hn,ht,h3]at hf;simp at hf;omega
   have hon:=FH {k with dk:=(some {r with told:=true},k.dk.2)} (s:=r.now.1) (u:=r.now.2.1) (c:=r.ab) (ah:=r.ah) (by
    rw[hn,hup]
    cases hu:r.up with
    | true=>rw[hu]at hst;simp at hst;exact .inr (.inl ⟨rfl,by simp only;omega⟩)
    | false=>rw[hu]at hst;simp at hst;exact .inr (.inr ⟨rfl,by simp only;omega⟩)) (by rw[hn];exact hdid.1)
   rcases zG k r r.ah with⟨e,e2⟩|⟨ho,e,e2⟩|⟨_,e,e2⟩
   ·exact⟨by rw[e2,hon];exact f.on,fun x=>(by rw[e]at x;cases x),fun r' hr=>by rw[e]at hr;cases hr;exact .inr ⟨hb,h1,h2,by rw[e];exact h3,fun _=>hlt⟩⟩
   ·exfalso;rw[fu,hb]at ho;simp at ho;omega
   ·refine⟨by rw[e2,hon];exact f.on,fun x=>(by rw[e]at x;cases x),fun r' hr=>?_⟩;rw[e]at hr;cases hr;refine .inr ⟨hb,?_,h2,by rw[e];exact h3,fun x=>by cases x⟩;simp only[hb];rw[if_neg (by decide)];omega
theorem FI.step {was:BV} {s:Int} (f:FI was s k) (h:ax k) (c:Int):FI was s (aK k c):=by
 rcases CL k c with⟨e,e2⟩|⟨e,r,hd,rfl⟩
 ·exact⟨by rw[e2];exact f.on,by unfold eN;rw[e];exact f.no,by unfold eN;rw[e];exact f.go⟩
 ·rw[e];exact f.bI h hd
structure pN (was:BV) (u:Bool) (c0:Int) (k:K):Prop where
 p:eN k
 no:k.dk.1=none->k.on=if u then wi was c0 else ls was c0
 go:∀r,k.dk.1=some r->r.back=false/\r.up=u/\r.ab=c0/\k.on=was
theorem pN.bI {was:BV} {u:Bool} {c0:Int} (f:pN was u c0 k) (h:ax k) (hd:k.dk.1=some r):pN was u c0 (eK k r.ah):=by
 have R:=h.dk.bJ r hd;have hnow:=tV R.over;have hdid:=R.v.ag;have hst:=R.v.st;have hov:=R.over;rw[fu]at hov;have hup:iL ({k with dk:=(some {r with told:=true},k.dk.2)}:K).dk=r.up:=rfl;obtain⟨hb,hu,hc,hon0⟩:=f.go r hd;have hf:dm k.dk r=false:=by unfold dm;rw[f.p];simp
 have hp:=V7 h hd f.p;rw[xk hd R.over hf]at hp⊢;have hn:r.now=(r.ag,false,false):=by rw[hnow,if_neg (by rw[hb];decide)]
 rw[hb]at hov;have hds:r.ag≠r.dB:=by simpa using hov
 have hon:r.ag+1≠r.dB->(b6 {k with dk:=(some {r with told:=true},k.dk.2)} (r.now.1,r.now.2.1,false) r.ab r.ah).on=k.on:=fun hne=>FH {k with dk:=(some {r with told:=true},k.dk.2)} (by
  rw[hn,hup]
  cases hu:r.up with
  | true=>rw[hu]at hst;simp at hst;exact .inr (.inl ⟨rfl,by simp only;omega⟩)
  | false=>rw[hu]at hst;simp at hst;exact .inr (.inr ⟨rfl,by simp only;omega⟩)) (by rw[hn];exact hdid.1)
 have hlast:r.ag+1=r.dB->(b6 {k with dk:=(some {r with told:=true},k.dk.2)} (r.now.1,r.now.2.1,false) r.ab r.ah).on=if u then wi was c0 else ls was c0:=fun hne=>by
  rw[hn]
  rw[agf {k with dk:=(some {r with told:=true},k.dk.2)} (by
   rw[hup]
   cases hu:r.up with
   | true=>rw[hu]at hst;simp at hst;exact .inl ⟨rfl,by omega⟩
   | false=>rw[hu]at hst;simp at hst;exact .inr ⟨rfl,by omega⟩),hup,hu,hc]
  simp only;rw[hon0]
 have hne8:∀s,(if r.back=true then r.ag-1 else r.ag+1)=s->s=r.ag+1:=fun s e=>by rw[hb]at e;simp at e;omega
 rcases zG k r r.ah with⟨e,e2⟩|⟨ho,e,e2⟩|⟨ho,e,e2⟩
 ·have hok:r.ag+1≠r.dB:=by
   intro hl;have h1:(my k r r.ah).on=if u then wi was c0 else ls was c0:=by rw[e2,hlast hl]
   unfold my at e;simp only at e;rw[if_pos]at e
   ·rw[if_pos (by rw[fu,hb];simp;omega)]at e;cases e
   ·rw[hn];unfold lq;simp only[Bool.false_eq_true,if_false];rw[hup];have:r.ag≠0:=by cases hu:r.up<;>rw[hu]at hst<;>simp at hst<;>omega
    rw[if_neg this]
    cases hu:r.up with
    | true=>simp
    | false=>
     rw[hu]at hst;simp at hst;have h9:r.ag=9:=by omega
     rw[h9];rfl
  exact⟨hp,fun x=>(by rw[e]at x;cases x),fun r' hr=>by rw[e]at hr;cases hr;exact⟨hb,hu,hc,by rw[e2,hon hok];exact hon0⟩⟩
 ·have hl:r.ag+1=r.dB:=by
   rw[fu,hb]at ho;simp at ho;exact ho
  exact⟨hp,fun x=>by rw[e2,hlast hl],fun r' hr=>by rw[e]at hr;cases hr⟩
 ·have hl:r.ag+1≠r.dB:=by
   rw[fu,hb]at ho;simp at ho;exact ho
  exact⟨hp,fun x=>(by rw[e]at x;cases x),fun r' hr=>by rw[e]at hr;cases hr;exact⟨hb,hu,hc,by rw[e2,hon hl];exact hon0⟩⟩
theorem pN.step {was:BV} {u:Bool} {c0:Int} (f:pN was u c0 k) (h:ax k) (c:Int):pN was u c0 (aK k c):=by
 rcases CL k c with⟨e,e2⟩|⟨e,r,hd,rfl⟩
 ·exact⟨by unfold eN;rw[e];exact f.p,by rw[e,e2];exact f.no,by rw[e,e2];exact f.go⟩
 ·rw[e];exact f.bI h hd
theorem ae7 (h:ax k) (hS:ar k) {up:Bool} {c:Int} (hd:k.dk.1=none) (hc:0<=c/\c<k.n) (hon:hs k.on c = !up) (hm:up=false->(cs k.on).length≠1):fz k up c=0:=by
 rcases EX h hS up c with⟨hne,e⟩|⟨h0,_⟩
 ·exfalso;obtain⟨f1,f2,f3⟩:=h.dk.free hd;unfold bP at e;rw[if_neg (not_not_intro hc),if_neg (by unfold dj;rw[hd];decide),if_neg (by rw[hon];cases up<;>simp),if_neg (by rw[hon];cases up<;>simp),if_neg (by cases up<;>simp;exact hm rfl)]at e;have e2:(mW k.ga).2=k.ga.2:=by have:=congrArg (·.ga.2) e;exact this
  unfold mW at e2;rw[if_pos f2]at e2;simp only at e2;omega
 ·exact h0
end
theorem bT.CO {k:K} (G:bT k) {I:K->Prop} (hI:I k) (hst:∀k c,ax k->I k->I (aK k c)) (l:List Int):bT (cV aK cS l k).1/\I (cV aK cS l k).1/\(cV aK cS l k).1.n=k.n:=
 R7 (step:=aK) (St:=cS) (I:=fun x=>bT x/\I x/\x.n=k.n) (p:=fun _=>True) (fun s c h _=>⟨h.1.step c,hst s c h.1.h h.2.1,(wE s c).trans h.2.2⟩) ⟨G,hI,rfl⟩ (fun _ _=>trivial)
theorem agh {k:K} (h:cS k=true):k.dk.1=none:=by
 unfold cS at h;simp only[Bool.and_eq_true,Bool.not_eq_true']at h;have:=h.1.1.1;unfold dj at this
 cases hd:k.dk.1 with
 | none=>rfl
 | some r=>rw[hd]at this;cases this
def iM (k:K):K:=(cV aK cS (cg k.n (500*k.n)) k).1
theorem bT.vM {k:K} (G:bT k):(cV aK cS (cg k.n (500*k.n)) k).2.2=true/\(iM k).dk.1=none:=by
 have h:=G.zg;refine⟨h,agh ?_⟩;unfold iM;rw[R9 aK cS];exact h
theorem bT.bJ {k:K} (G:bT k) {up:Bool} {c:Int} (hd:k.dk.1=none) (hc:0<=c/\c<k.n) (hon:hs k.on c = !up) (hm:up=false->(cs k.on).length≠1) :
  bT (bP k up c)/\fz k up c=0/\(bP k up c).on=k.on/\(bP k up c).n=k.n/\∃ah,(bP k up c).dk=(some ⟨if up then 4 else 10,0,false,up,c,ah,false⟩,k.dk.2):=by
 have h0:=ae7 G.h G.S hd hc hon hm;rcases EX G.h G.S up c with⟨hne,_⟩|⟨_,_,_,_,_,e⟩
 ·exact absurd h0 hne
 ·refine⟨⟨Wx G.h G.S up c,G.S.request up c,?_,?_,?_⟩,h0,?_,?_,?_⟩
  ·rw[e];exact G.g
  ·rw[e];exact G.t
  ·rw[e];exact G.n9
  ·rw[e]
  ·rw[e]
  ·rw[e];exact⟨_,rfl⟩
def k8 (k:K) (s:Int):K:={k with dk:=jC k.dk s}
theorem aaL {k:K} (G:bT k) (hd:k.dk.1=none) (hp:eN k) {up:Bool} {c s:Int} (hc:0<=c/\c<k.n) (hon:hs k.on c = !up) (hm:up=false->(cs k.on).length≠1) (hs0:0<=s) (hs1:s<if up then 4 else 10) :
  let k3:=bP (k8 k s) up c
  let k4:=iM k3
  let k5:=bP k4 up c
  let k6:=iM k5
  ar (k8 k s)/\(k8 k s).n=k.n/\
  bT k3/\k3.n=k.n/\bT k4/\k4.n=k.n/\k4.on=k.on/\k4.ac=k.on/\fz k4 up c=0/\bT k5/\k5.n=k.n/\bT k6/\k6.n=k.n/\k6.on=(if up then wi k.on c else ls k.on c)/\k6.ac=k6.on:=by
 intro k3 k4 k5 k6;have hpl:iW s=0:=by unfold iW;rw[if_pos];split at hs1<;>omega
 have hdk:(k8 k s).dk=(k.dk.1,fun j=>if j=s then true else k.dk.2 j):=by unfold k8 jC;rw[if_pos hpl]
 have G2:bT (k8 k s):=⟨Wc G.h s,G.S.nw _,G.g,G.t,G.n9⟩;obtain⟨G3,_,o3,n3,ah,d3⟩:=G2.bJ (up:=up) (c:=c) (by rw[hdk];exact hd) hc hon hm;have n3:k3.n=k.n:=n3;have o3:k3.on=k.on:=o3
 have f3:FI k.on s k3:=⟨o3,fun x=>(by have x:(bP (k8 k s) up c).dk.1=none:=x;rw[d3]at x;cases x),fun r hr=>by
  have hr:(bP (k8 k s) up c).dk.1=some r:=hr;rw[d3]at hr;cases hr;refine .inr ⟨rfl,hs0,hs1,fun j=>?_,fun x=>by cases x⟩;show(bP (k8 k s) up c).dk.2 j=_;rw[d3,hdk];simp only;split
  ·rename_i e;rw[decide_eq_true e]
  ·rename_i e;rw[decide_eq_false e];exact hp j⟩
 obtain⟨G4,f4,n4⟩:=G3.CO f3 (fun k c h f=>f.step h c) (cg k3.n (500*k3.n));have hd4:k4.dk.1=none:=G3.vM.2;have G4:bT k4:=G4;have f4:FI k.on s k4:=f4;have n4:k4.n=k.n:=n4.trans n3;have hac4:=(G4.h.dk.free hd4).1;obtain⟨G5,h5,o5,n5,who5,d5⟩:=G4.bJ (up:=up) (c:=c) hd4 (by rw[n4];exact hc) (by rw[f4.on];exact hon) (by rw[f4.on];exact hm);have n5:k5.n=k.n:=n5.trans n4
 have f5:pN k.on up c k5:=⟨fun j=>by show(bP k4 up c).dk.2 j=false;rw[d5];exact f4.no hd4 j,fun x=>(by have x:(bP k4 up c).dk.1=none:=x;rw[d5]at x;cases x),fun r hr=>by
  have hr:(bP k4 up c).dk.1=some r:=hr;rw[d5]at hr;cases hr;exact⟨rfl,rfl,rfl,o5.trans f4.on⟩⟩
 obtain⟨G6,f6,n6⟩:=G5.CO f5 (fun k c h f=>f.step h c) (cg k5.n (500*k5.n));have hd6:k6.dk.1=none:=G5.vM.2;have G6:bT k6:=G6;have f6:pN k.on up c k6:=f6;have n6:k6.n=k.n:=n6.trans n5;have hac6:=(G6.h.dk.free hd6).1;exact⟨G.S.nw _,rfl,G3,n3,G4,n4,f4.on,hac4.trans f4.on,h5,G5,n5,G6,n6,f6.no hd6,hac6⟩
end Go.Dav
namespace Go.Dav
open Go.Proofs
theorem aaF (e:aU):(eR e).length=5:=rfl
structure lz (k:K):Prop where
 h:ax k
 S:ar k
 t:aN k.now
 p:eN k
def jS (k:K) (e:aU):K:=if e.1=25 then k else bX k e
theorem lz.one {k:K} (h:lz k) (e:aU):lz (jS k e)/\(jS k e).n=k.n:=by
 unfold jS;split
 ·exact⟨h,rfl⟩
 ·exact⟨⟨h.h.rf h.S e,h.S.rf e,amv k e h.t,aet h.h h.p ‹_›⟩,adC _ _⟩
theorem lz.all:∀(es:List aU) {k:K},lz k->lz (es.foldl jS k)/\(es.foldl jS k).n=k.n
 | [],_,h=>⟨h,rfl⟩
 | e::es,k,h=>by
  have h1:=h.one e;have h2:=lz.all es h1.1;exact⟨h2.1,h2.2.trans h1.2⟩
theorem lz.new {n:Nat} (hn:1<=n/\n<=64):lz (cu n):=⟨ad2 hn,VJ hn,by show aN 0;unfold aN;omega,fun _=>rfl⟩
def oN (up:Bool) (c:Int):aU:=(if up then 23 else 24,c,0,0,0)
theorem aai (k:K) (s:Int):bX k (25,0,0,0,s)=k8 k s:=by unfold bX fA k8;simp
theorem ze (k:K) (up:Bool) (c:Int):bX k (oN up c)=bP k up c/\cO k (oN up c)=df (fz k up c):=by
 unfold bX cO oN;cases up<;>simp
section
variable {b:Nat} {W w:World} {F:Fp} {k:K}
theorem RU {σ τ:Type} {B:Ob σ} {C:Ob τ} [Frame B] [Frame C] {y:σ} {z:τ} (hTab:Tab W) (h0:¬F 0) (hX:aa (au (au (KO b) B) C) W w F ((k,y),z)) (hnow:k.tm.now=k.now) (e:aU) {Q:Ending->World->Prop}
  (hQ:∀p c w',aa (au (au (KO b) B) C) W w' F ((bX k e,y),z)->Cells w' p ((cO k e).flatMap fW)->Q (.returned (.slice p (cO k e).length c)) w'):Cx 12 #[pt b,.agg (eR e).toArray] w Q:=by
 obtain⟨F1,hA1,hT1,h01,k1⟩:=hX.kY hTab h0;obtain⟨F2,hA2,hT2,h02,k2⟩:=(aa.same hA1).kY hT1 h01;refine(qd (e:=e) hT2 h02 (aa.same hA2) hnow).mono ?_;rintro e' w1 ⟨pr,cr,rfl,hD⟩;have hC:Cells w1 pr ((cO k e).flatMap fW):=by obtain⟨_,hR,_⟩:=hD.right;exact hR.cells
 exact hQ _ _ _ (k1 _ _ _ (k2 _ _ _ hD.drop)) hC
theorem aa.E7 {σ τ υ:Type} {A:Ob σ} {B:Ob τ} {C:Ob υ} {x:σ} {y:τ} {z:υ} (h:aa (au (au A B) C) W w F ((x,y),z)):aa (au (au A C) B) W w F ((x,z),y):=by
 obtain⟨F',⟨F1,F2,⟨F3,F4,a1,a2,a3,a4⟩,b2,b3,b4⟩,h2,h3⟩:=h;refine⟨F',⟨fun i=>F3 i∨F2 i,F4,⟨F3,F2,a1,b2,fun _=>Iff.rfl,fun i hi=>b4 i ((a3 i).2 (.inl hi))⟩,a2,fun i=>?_,fun i hi hf=>?_⟩,h2,h3⟩
 ·rw[b3,a3];constructor
  ·rintro((h|h)|h)
   ·exact .inl (.inl h)
   ·exact .inr h
   ·exact .inl (.inr h)
  ·rintro((h|h)|h)
   ·exact .inl (.inl h)
   ·exact .inr h
   ·exact .inl (.inr h)
 ·rcases hi with hi|hi
  ·exact a4 i hi hf
  ·exact b4 i ((a3 i).2 (.inr hf)) hi
theorem do3 {σ τ:Type} {B:Ob σ} {C:Ob τ} [Frame B] [Frame C] {y:σ} {z:τ} (hTab:Tab W) (h0:¬F 0) (hX:aa (au (au (KO b) B) C) W w F ((k,y),z)) (hnow:k.tm.now=k.now) (e:aU) {Q:Ending->World->Prop}
  (hQ:∀p c w',aa (au (au (au (KO b) B) (pK p c)) C) W w' F (((bX k e,y),cO k e),z)->Q (.returned (.slice p (cO k e).length c)) w'):Cx 12 #[pt b,.agg (eR e).toArray] w Q:=by
 obtain⟨F1,hA1,hT1,h01,k1⟩:=hX.kY hTab h0;obtain⟨F2,hA2,hT2,h02,k2⟩:=(aa.same hA1).kY hT1 h01;refine(qd (e:=e) hT2 h02 (aa.same hA2) hnow).mono ?_;rintro e' w1 ⟨pr,cr,rfl,hD⟩;exact hQ _ _ _ (k1 _ _ _ (k2 _ _ _ hD).E7)
theorem R2 {τ:Type} {C:Ob τ} [Frame C] {z:τ} {p:Option Addr} {c:Nat} (hTab:Tab W) (h0:¬F 0) (G:bT k) {N:Nat} (hN:k.n=N) (hX:aa (au (au (KO b) (Ls 3)) C) W w F ((k,(p,c,cg N (500*N))),z)) {Q:Ending->World->Prop}
  (hQ:∀(m:Int) w',m<=((cg N (500*N)).length:Int)->aa (au (au (KO b) (Ls 3)) C) W w' F ((iM k,(p,c,cg N (500*N))),z)->Q (.returned (.tuple #[I m,I 0])) w'):Cx 21 #[pt b,.slice p (cg N (500*N)).length c] w Q:=by
 subst hN;obtain⟨F1,hA1,hT1,h01,k1⟩:=hX.kY hTab h0;have hn:=G.S.n;have h9:=G.n9;have hl:(cg k.n (500*k.n)).length=500*k.n:=Ga _ _;refine(SD hT1 h01 G.S (aa.same hA1) (by rw[hl];omega) (Bk (by omega))).mono ?_;rintro e w1 ⟨rfl,hT⟩;rw[G.vM.1,if_pos rfl];exact hQ _ _ (by have:=R8 aK cS (cg k.n (500*k.n)) k;omega) (k1 _ _ _ hT)
end
set_option maxRecDepth 100000 in
theorem SC {b be:Nat} {V W w:World} {F:Fp} {k:K} {p:Option Addr} {c N:Nat} {cp st:Int} {up:Bool} (hTV:Tab V) (hTab:Tab W) (h0:¬F 0) (hVW:af no V W) (hF:∀i,F i->V.heap.size<=i)
  (hX:aa (au (au (KO b) (Ls 3)) (Lb be 33)) W w F ((k,(p,c,cg N (500*N))),eR (oN up cp))) (G:bT k) (hkn:k.n=N) (hd:k.dk.1=none) (hp:eN k) (hc:0<=cp/\cp<k.n) (hon:hs k.on cp = !up) (hm:up=false->(cs k.on).length≠1) (hs0:0<=st) (hs1:st<if up then 4 else 10)
  {R:Ending->World->Prop} (hR:∀w',af no V w'->R (.returned (.bool true)) w') :
  aA Tryz.prog M4 yL (zu cp st (some ⟨b,0,none⟩) p (cg N (500*N)).length c (mi k.on) ⟨be,0,none⟩) w (Ab R):=by
 obtain⟨S2,n2,G3,n3,G4,n4,o4,a4,r4,G5,n5,G6,n6,o6,a6⟩:=aaL G hd hp hc hon hm hs0 hs1;refine aA.mk ?_;rw[ahm];refine⟨RU hTab h0 hX G.S.fe (25,0,0,0,st) fun p1 c1 w1 hX1 _=>?_⟩;rw[aai]at hX1;have hB1:=bE hX1;refine⟨_,_,_,rfl,_,hB1.cell rfl,_,hB1.cell rfl,_,hB1.cell rfl,_,hB1.cell rfl,_,hB1.cell rfl,⟨RU hTab h0 hX1 S2.fe (oN up cp) fun p2 c2 w2 hX2 _=>?_⟩⟩;rw[(ze _ _ _).1]at hX2;refine⟨_,_,_,rfl,⟨R2 hTab h0 G3 (n3.trans hkn) hX2 fun m3 w3 _ hX3=>?_⟩⟩;refine⟨_,_,rfl,fun _=>⟨(tA hX3.drop.drop).mono ?_⟩,fun g=>by simp at g⟩;rintro e w4 ⟨rfl,rfl⟩;simp only[o4];refine⟨_,rfl,fun _=>⟨(UE hX3.drop.drop).mono ?_⟩,fun g=>by simp at g⟩;rintro e w5 ⟨rfl,rfl⟩;simp only[a4];have hB3:=bE hX3;refine⟨_,rfl,fun g=>by simp at g,fun _=>⟨_,hB3.cell rfl,_,hB3.cell rfl,_,hB3.cell rfl,_,hB3.cell rfl,_,hB3.cell rfl,⟨do3 hTab h0 hX3 G4.S.fe (oN up cp) fun p5 c5 w6 hX5=>?_⟩⟩⟩;rw[(ze _ _ _).1,(ze _ _ _).2,r4]at hX5;simp only[(ze _ _ _).2,r4];obtain⟨F7,hA7,hT7,h07,k7⟩:=hX5.kY hTab h0;refine⟨_,_,_,rfl,⟨R2 hT7 h07 G5 (n5.trans hkn) (aa.same hA7) fun m6 w7 _ hX6=>?_⟩⟩;replace hX6:=k7 _ _ _ hX6;have hR6:Cells w7 p5 ((df 0).flatMap fW):=by obtain⟨_,hR,_⟩:=hX6.drop.right;exact hR.cells
 obtain⟨a,ha,hc6⟩:=hR6.vm (i:=0) EU (by decide) (by decide);have hK6:=hX6.drop.drop.drop
 have hU6:af no V w7:=by
  obtain⟨_,_,hU,_⟩:=hK6;exact hVW.trans hU fun i hi hf=>by have:=hF i hf;omega
 have hne:¬mi (iM (bP (iM (bP (k8 k st) up cp)) up cp)).on=mi k.on:=by
  rw[Vp,o6];intro e
  have h1:hs (if up then wi k.on cp else ls k.on cp) cp=up:=by
   have:=G.S.n
   cases up with
   | true=>rw[if_pos rfl,kT,decide_eq_true (show 0<=cp/\cp<64 by omega)];simp
   | false=>rw[if_neg (by decide),eu];simp
  rw[e,hon]at h1;cases up<;>cases h1
 have hflip:hs (iM (bP (iM (bP (k8 k st) up cp)) up cp)).on cp=up:=by
  have:=G.S.n;rw[o6]
  cases up with
  | true=>rw[if_pos rfl,kT,decide_eq_true (show 0<=cp/\cp<64 by omega)];simp
  | false=>rw[if_neg (by decide),eu];simp
 refine⟨_,_,rfl,fun _=>⟨⟨by omega,by decide⟩,a,ha,_,hc6 4 _ rfl,fun _=>⟨fun _=>⟨(tA hK6).mono ?_⟩,fun g=>by simp at g⟩,fun g=>by simp[df]at g⟩,fun g=>by simp[df]at g⟩;rintro e w8 ⟨rfl,rfl⟩;refine⟨_,rfl,fun _=>⟨(tA hK6).mono ?_⟩,fun g=>by simp at g;exact absurd g hne⟩;rintro e w8 ⟨rfl,rfl⟩;refine⟨_,rfl,⟨(iR _ _ _).mono ?_⟩⟩;rintro e w8 ⟨rfl,rfl⟩;refine⟨_,rfl,⟨(iR _ _ _).mono ?_⟩⟩;rintro e w8 ⟨rfl,rfl⟩;refine⟨_,rfl,fun _=>⟨(UE hK6).mono ?_⟩,fun g=>by rw[hflip,hon]at g;cases up<;>cases g⟩;rintro e w8 ⟨rfl,rfl⟩;refine⟨_,rfl,⟨(tA hK6).mono ?_⟩⟩;rintro e w8 ⟨rfl,rfl⟩;refine⟨_,rfl,fun _=>⟨(vh (hTV.no hU6)).mono ?_⟩,fun g=>by rw[a6]at g;simp at g⟩;rintro e w8 ⟨rfl,hU8⟩;exact⟨_,rfl,hR _ (hU6.trans hU8 (fun _ _ h=>h))⟩
theorem SB {b be:Nat} {V W w:World} {F:Fp} {k:K} {p:Option Addr} {c N:Nat} {cp st:Int} {up:Bool} (hTV:Tab V) (hTab:Tab W) (h0:¬F 0) (hVW:af no V W) (hF:∀i,F i->V.heap.size<=i)
  (hX:aa (au (au (KO b) (Ls 3)) (Lb be 33)) W w F ((k,(p,c,cg N (500*N))),eR (oN up cp))) (G:bT k) (hkn:k.n=N) (hd:k.dk.1=none) (hp:eN k) (hc:0<=cp/\cp<k.n) (hon:hs k.on cp = !up)
  {R:Ending->World->Prop} (hR:∀w',af no V w'->R (.returned (.bool true)) w') :
  aA Tryz.prog M4 yK (zt cp st (some ⟨b,0,none⟩) p (cg N (500*N)).length c (mi k.on) ⟨be,0,none⟩ (if up then 4 else 10)) w (Aa R):=by
 have hU:af no V w:=by
  obtain⟨_,_,hU,_⟩:=hX;exact hVW.trans hU fun i hi hf=>by have:=hF i hf;omega
 have al:∀{T:Ending->World->Prop},(∀w',af no V w'->T (.returned (.bool true)) w')->Cx 10 #[] w T:=fun hT=>(vh (hTV.no hU)).mono (by
  rintro e w8 ⟨rfl,hU8⟩;exact hT _ (hU.trans hU8 (fun _ _ h=>h)))
 refine aA.mk ?_;rw[ahl];refine⟨(iR _ _ _).mono ?_⟩;rintro e w1 ⟨rfl,rfl⟩;refine⟨_,rfl,fun g=>⟨(Ve _ _).mono ?_⟩,fun g=>⟨fun g1=>⟨fun g2=>⟨al fun w' h=>⟨_,rfl,hR _ h⟩⟩,fun g2=>?_⟩,fun g1=>⟨al fun w' h=>⟨_,rfl,hR _ h⟩⟩⟩⟩
 ·rintro e w2 ⟨rfl,rfl⟩;refine⟨_,rfl,fun g3=>⟨fun g1=>⟨fun g2=>⟨al fun w' h=>⟨_,rfl,hR _ h⟩⟩,fun g2=>?_⟩,fun g1=>⟨al fun w' h=>⟨_,rfl,hR _ h⟩⟩⟩,fun g3=>⟨al fun w' h=>⟨_,rfl,hR _ h⟩⟩⟩;have g1:=of_decide_eq_false g1;have g2:=of_decide_eq_false g2;have g3:¬((cs k.on).length:Int)=1:=by simpa using g3
  exact SC hTV hTab h0 hVW hF hX G hkn hd hp hc hon (fun _=>by omega) (by omega) (by omega) hR
 ·have g1:=of_decide_eq_false g1;have g2:=of_decide_eq_false g2;refine SC hTV hTab h0 hVW hF hX G hkn hd hp hc hon (fun hu=>?_) (by omega) (by omega) hR;have g:hs k.on cp=false:=g;rw[hon,hu]at g;cases g
set_option maxRecDepth 100000 in
theorem topFails_ok {W:World} (hTab:Tab W) {n:Int} (hn:(Lit.int .i64 n).wf=true) {es:List aU} {q:Option Addr} {c:Nat} (_:∀x∈es,okIIIUI x) (hq:Cells W q (es.flatMap recIIIUI)) (_:es.length<=maxLen) {cp:Int} (_:(Lit.int .i64 cp).wf=true) {st:Int} (_:(Lit.int .i64 st).wf=true) :
  Cx 4 #[I n,.slice q es.length c,I cp,I st] W fun e w'=>e=Z (.bool true)/\af no W w':=by
 replace hq:Cells W q (es.flatMap eR):=hq;refine u4 ?_;rw[t4];by_cases hN:1<=n/\n<=64
 case neg=>
  refine⟨(acG n hN W).mono ?_⟩;rintro e w1 ⟨rfl,rfl⟩;refine⟨_,_,rfl,fun g=>by simp at g,fun _=>⟨(vh hTab).mono ?_⟩⟩;rintro e w2 ⟨rfl,hU⟩;exact⟨_,rfl,rfl,hU⟩
 obtain⟨N,rfl⟩:∃N:Nat,n=(N:Int):=⟨n.toNat,by omega⟩;have hN':1<=N/\N<=64:=by omega
 refine⟨(UK N hN' W).mono ?_⟩;rintro e w1 ⟨b,F,rfl,hK,hU1,hF⟩;have hT1:Tab w1:=hTab.no hU1;have hp:=hTab.pos;have h0:¬F 0:=fun h=>by have:=hF 0 h;omega
 have up:∀{σ:Type} {A:Ob σ} {s:σ} {w':World},aa A w1 w' F s->af no W w':=fun⟨_,_,hU,_⟩=>hU1.trans hU (fun i hi hf=>by have:=hF i hf;omega);refine⟨_,_,rfl,fun _=>⟨(aaT (N:Int) w1).mono ?_⟩,fun g=>by simp at g⟩;rintro e w2 ⟨rfl,rfl⟩;refine⟨_,rfl,fun g=>⟨(vh hT1).mono ?_⟩,fun g=>⟨?_⟩⟩
 ·rintro e w3 ⟨rfl,hU⟩;exact⟨_,rfl,rfl,hU1.trans hU (fun _ _ h=>h)⟩
 have g:1<=(N:Int)/\(N:Int)<=9/\es.length<=300:=by simpa using g
 have hev:∀i,lz ((es.take i).foldl jS (cu N))/\((es.take i).foldl jS (cu N)).n=N:=fun i=>lz.all _ (lz.new hN');refine bA bf (M:=M4) (σ:=Nat) (fun i=>Dr (N:Int) q es.length c cp st (some ⟨b,0,none⟩) (i:Int)) (fun i w'=>i<=es.length/\aa (KO b) w2 w' F ((es.take i).foldl jS (cu N))) (fun i _=>es.length-i) 0 ⟨rfl,rfl,rfl,rfl,rfl,rfl,trivial⟩ ⟨Nat.zero_le _,aa.same hK⟩ ?_;intro i w5 hI;have hi:=hI.1;have hS:=hI.2;clear hI;rw[ahk];refine⟨fun g1=>?_,fun g1=>aA.mk ?_⟩
 ·have hi':i<es.length:=by simpa using g1
  obtain⟨a,ha,hc⟩:=(hq.no (up hS)).vm aaF (by decide) hi'
  have es1:(es.take (i+1)).foldl jS (cu N)=jS ((es.take i).foldl jS (cu N)) es[i]:=by
   rw[List.take_succ_eq_append_getElem hi',List.foldl_append];rfl
  have ei:IntKind.wrap .i64 ((i:Int)+1)=((i+1:Nat):Int):=by rw[aD (by omega)];rfl
  refine⟨⟨by omega,by omega⟩,a,ha,_,hc 0 _ rfl,fun g2=>⟨⟨by omega,by omega⟩,a,ha,_,hc 0 _ rfl,_,hc 1 _ rfl,_,hc 2 _ rfl,_,hc 3 _ rfl,_,hc 4 _ rfl,⟨(qd (e:=es[i]) hT1 h0 hS (hev i).1.S.fe).mono ?_⟩⟩,fun g2=>?_⟩
  ·have g2:¬es[i].1=25:=by simpa using g2
   rintro e w7 ⟨pr,cr,rfl,hD⟩;refine⟨_,_,_,rfl,i+1,⟨rfl,rfl,rfl,rfl,rfl,by rw[ei]<;>rfl,trivial⟩,⟨by omega,?_⟩,by omega⟩;rw[es1];unfold jS;rw[if_neg g2];exact hD.drop
  ·have g2:es[i].1=25:=by simpa using g2
   refine⟨i+1,⟨rfl,rfl,rfl,rfl,rfl,by rw[ei]<;>rfl,trivial⟩,⟨by omega,?_⟩,by omega⟩;rw[es1];unfold jS;rw[if_pos g2];exact hS
 obtain⟨hE,hn0⟩:=hev i;clear hev hi g1;generalize (es.take i).foldl jS (cu N)=k0 at hS hE hn0;have hU5:af no W w5:=up hS
 obtain⟨F6,hK6,hT6,h06,hF6⟩:∃F6,KO b w5 F6 k0/\Tab w5/\¬F6 0/\∀i,F6 i->W.heap.size<=i:=by
  have ht:=hS.i7 hT1 h0;obtain⟨F6,a1,a2,a3⟩:=hS;have hz:=hU1.size;have key:∀i,F6 i->W.heap.size<=i:=fun i hi=>(a3 i hi).elim (hF i) fun h=>by omega
  exact⟨F6,a1,ht,fun h=>by have:=key 0 h;omega,key⟩
 rw[ahj];refine⟨(aaP hN' _).mono ?_⟩;rintro e w6 ⟨rfl,rfl⟩;refine⟨_,rfl,⟨(abi hN'.1 (by omega) _).mono ?_⟩⟩;rintro e w7 ⟨pp,pc,rfl,hL⟩;have hX7:aa (au (KO b) (Ls 3)) w6 w7 F6 (k0,(pp,pc,cg N (500*N))):=(aa.same hK6).add hL.U ⟨fun _=>Iff.rfl,hL.S⟩ hL.F;obtain⟨q7,hq7⟩:=KO.fix hX7.drop;obtain⟨hsum,hgate⟩:=acJ hq7;refine⟨_,_,_,rfl,⟨(hgate _ (af.refl _ _)).mono ?_⟩⟩;rintro e w8 ⟨rfl,hU8,F8,hA8⟩;have hX8:=hX7.ae hU8;have hUW:af no W w8:=(hU5.trans hL.U (fun _ _ h=>h)).trans hU8 (fun _ _ h=>h)
 have al:∀{T:Ending->World->Prop},(∀w',af no W w'->T (.returned (.bool true)) w')->Cx 10 #[] w8 T:=fun hT=>(vh (hTab.no hUW)).mono (by
  rintro e w8 ⟨rfl,hU8⟩;exact hT _ (hUW.trans hU8 (fun _ _ h=>h)))
 refine⟨_,rfl,⟨(DT hA8).mono ?_⟩⟩;rintro e w9 ⟨rfl,rfl⟩;refine⟨_,rfl,fun g1=>⟨fun g2=>⟨fun g3=>⟨al fun w' h=>⟨_,rfl,rfl,h⟩⟩,fun g3=>?_⟩,fun g2=>⟨al fun w' h=>⟨_,rfl,rfl,h⟩⟩⟩,fun g1=>⟨al fun w' h=>⟨_,rfl,rfl,h⟩⟩⟩;have g1:¬k0.ga.1.sum>0:=of_decide_eq_false g1;have g2:=of_decide_eq_false g2;have g3:=of_decide_eq_false g3;have G0:bT k0:=⟨hE.h,hE.S,by omega,hE.t,by omega⟩;have hl:(cg k0.n (500*k0.n)).length=500*k0.n:=Ga _ _;subst hn0;refine⟨(SD hT6 h06 G0.S hX8 (by rw[hl];omega) (Bk (by omega))).mono ?_⟩;rintro e w10 ⟨rfl,hX10⟩;rw[G0.vM.1,if_pos rfl];replace hX10:aa (au (KO b) (Ls 3)) w6 w10 F6 (iM k0,(pp,pc,cg k0.n (500*k0.n))):=hX10;refine⟨_,_,rfl,fun g=>by simp at g,fun _=>⟨(tA hX10.drop).mono ?_⟩⟩;rintro e w11 ⟨rfl,rfl⟩;obtain⟨G1,p1,n1⟩:=G0.CO hE.p (fun k c h f=>V6 h f c) (cg k0.n (500*k0.n));have G1:bT (iM k0):=G1;have p1:eN (iM k0):=p1;have n1:(iM k0).n=k0.n:=n1;have d1:(iM k0).dk.1=none:=G0.vM.2;refine⟨_,rfl,⟨fun w12 hN12=>?_⟩⟩;have hX12:aa (au (au (KO b) (Ls 3)) (Lb w11.heap.size 33)) w6 w12 F6 (_,[I 0,I 0,I 0,.int .u64 0,I 0]):=hX10.add (hN12.ae no) (Rw.new hN12 rfl) (fun i hi=>Nat.le_of_eq hi.symm);generalize w11.heap.size=be at hX12⊢;refine il (vs:=eR (oN false cp)) hX12 rfl fun w13 hX13=>⟨(iR _ _ _).mono ?_⟩;rintro e w14 ⟨rfl,rfl⟩;refine⟨_,rfl,fun g4=>il (vs:=eR (oN true cp)) hX13 rfl fun w15 hX15=>?_,fun g4=>?_⟩
 ·have g4:hs (iM k0).on cp=false:=by simpa using g4
  exact SB (up:=true) hTab hT6 h06 hU5 hF6 hX15 G1 n1 d1 p1 ⟨by omega,by omega⟩ g4 fun w' h=>⟨rfl,h⟩
 ·have g4:hs (iM k0).on cp=true:=by simpa using g4
  exact SB (up:=false) hTab hT6 h06 hU5 hF6 hX13 G1 n1 d1 p1 ⟨by omega,by omega⟩ g4 fun w' h=>⟨rfl,h⟩
end Go.Dav
