/- What functions of the program come to, part 5; the texts are made small to keep within a claim. -/
import Derived.RangeFuncNested
import Derived.RangeFuncLeaves
import Derived.OrdersIn
import Derived.TacticsIn
import Derived.OwnWalkIn
import Derived.Below
import Derived.ChangeArms
import Derived.Deep.Slices
import Derived.Shelf.Abstract
import Derived.WalkKit
import Derived.TacticsInMore
import Derived.LoopNIn
import Derived.LoopIn
import Derived.Test.YtobclpijhmkniaaGreatDoorPartD
set_option linter.unusedVariables false
set_option linter.unusedSimpArgs false
set_option linter.unusedSectionVars false
namespace Go.Dav
open Go.Proofs
section
variable {b:Nat} {W w:World} {F:Fp} {k:K}
theorem acU (h:aa (KO b) W w F k) (up:Bool) (a8 c:Int):Cx 297 #[pt b,.bool up,I a8,I c] w fun e w'=>e=Z (.tuple #[])/\aa (KO b) W w' F (jH k up a8 c):=by
 obtain⟨q,hq⟩:=KO.fix h;have hB:=KF.ai hq;refine akX ?_;rw[t297];unfold jH;cases up
 ·refine⟨fun g=>(by cases g),fun _=>⟨fun _=>⟨fun g=>?_,fun g=>?_⟩,fun g=>(by cases g)⟩⟩
  ·have g:a8=1:=by simpa using g
   rw[if_neg (by simp),if_pos (by simp[g])];refine⟨_,rfl,_,hB.cell rfl,⟨fun w1 hN=>⟨(oZ k.ac (l:=[c]) (p:=some ⟨w.heap.size,0,none⟩) (c:=1) (fun j v hv=>⟨_,rfl,hN.aF.cell hv⟩) (by simp)).mono ?_⟩⟩⟩;rintro e w2 ⟨rfl,rfl⟩;have hq1:=hq.ae (hN.ae no);refine⟨_,rfl,_,rfl,(KF.ai hq1).wr (k:=17) (by simp[jX]) fun w3 hW=>⟨rfl,KF.loose (KF.row hq1 (k.n,k.on,wi k.ac c,k.now,k.lim) rfl hW)⟩⟩
  ·have g:¬a8=1:=by simpa using g
   rw[if_neg (by simp),if_neg (by simp[g])];exact⟨rfl,h⟩
 ·refine⟨fun _=>⟨fun g=>?_,fun g=>⟨fun g=>(by cases g),fun _=>?_⟩⟩,fun g=>(by cases g)⟩
  ·have g:a8=1:=by simpa using g
   rw[if_pos (by simp[g])];obtain⟨F1,hA,kA⟩:=KF.co hq;refine⟨_,rfl,_,hB.av rfl,⟨(CG hA c false).mono ?_⟩⟩;rintro e w1 ⟨⟨n,rfl⟩,hT⟩;exact⟨_,rfl,rfl,KF.loose (kA _ _ hT)⟩
  ·have g:¬a8=1:=by simpa using g
   rw[if_neg (by simp[g]),if_neg (by simp)];exact⟨rfl,h⟩
theorem KL.fix {T:TypeId} {y:gi} (h:aa (au (KO b) (Ls T)) W w F (k,y)):∃q F1,KF b q w F1 k/\aa (KF b q) w w F1 k/\∀w' k',aa (KF b q) w w' F1 k'->aa (au (KO b) (Ls T)) W w' F (k',y):=by
 obtain⟨F1,⟨q,h1⟩,k1⟩:=h.left;exact⟨q,F1,h1,aa.same h1,fun w' k' hT=>k1 _ _ (KF.loose hT)⟩
theorem wu {T:TypeId} {p:Option Addr} {c:Nat} {l:List Int} (h:aa (au (KO b) (Ls T)) W w F (k,(p,c,l))):Cells w p (l.map (Value.int .i64)):=by
 obtain⟨F2,hR,_⟩:=h.right;exact hR.cells
theorem acu (hTab:Tab W) (h0:¬F 0) (h:aa (KO b) W w F k) (c:Int):Cx 356 #[pt b,I c] w fun e w'=>(aY k.rq c=[]/\e=Z (.bool true)/\aa (KO b) W w' F k)∨∃id l,aY k.rq c=id::l/\e=Z (.bool false)/\aa (KO b) W w' F (fU {k with rq:=dA k.rq id} id c):=by
 obtain⟨q,hq⟩:=KO.fix h;have hB:=KF.ai hq;obtain⟨F1,hA,_⟩:=KF.rq hq;refine alM ?_;rw[t356];refine⟨_,rfl,_,hB.av rfl,⟨(WB hA c).mono ?_⟩⟩;rintro e w1 ⟨p,d,rfl,hL⟩
 cases hl:aY k.rq c with
 | nil=>
  rw[hl]at hL
  exact⟨_,_,_,rfl,fun _=>.inl ⟨rfl,rfl,h.ae hL.U⟩,fun g=>by simp at g⟩
 | cons id l=>
  rw[hl]at hL;have hS:aa (au (KO b) (Ls 3)) W w1 F (k,(p,d,id::l)):=h.add hL.U (G:=aL p) ⟨fun _=>Iff.rfl,hL.S⟩ hL.F;refine⟨_,_,_,rfl,fun g=>by simp at g;omega,fun _=>?_⟩;intro w2 q1 q2 q3 q4;replace hS:=hS.ae (af.same no q1 q2 q3 q4);obtain⟨q5,F5,_,hK,kK⟩:=KL.fix hS;obtain⟨F6,hA6,kA6⟩:=KF.rq hK;obtain⟨a,ha,hcell⟩:=(wu hS).bC (i:=0) (l:=id::l) (by simp);have hr:(0:Int)<=0/\(0:Int)<(((id::l).length:Nat):Int):=⟨by omega,by simp⟩;refine⟨_,rfl,_,(KF.ai hK).av rfl,hr,a,ha,_,by simpa using hcell,⟨(wR hA6 id).mono ?_⟩⟩;rintro e w3 ⟨rfl,hT3⟩;replace hS:=kK _ _ (kA6 _ _ hT3);obtain⟨a2,ha2,hcell2⟩:=(wu hS).bC (i:=0) (l:=id::l) (by simp);refine⟨_,rfl,hr,a2,ha2,_,by simpa using hcell2,⟨(Ac hTab h0 hS.drop id c).mono ?_⟩⟩;rintro e w4 ⟨rfl,hT4⟩;exact⟨rfl,.inr ⟨id,l,rfl,rfl,hT4⟩⟩
theorem acv (hTab:Tab W) (h0:¬F 0) (h:aa (KO b) W w F k) (c:Int):Cx 356 #[pt b,I c] w fun e w'=>e=Z (.bool (Dz k c))/\aa (KO b) W w' F (eQ k c):=by
 refine(acu hTab h0 h c).mono ?_;unfold Dz eQ;rintro e w' (⟨hl,rfl,hT⟩|⟨id,l,hl,rfl,hT⟩)
 ·rw[hl];exact⟨rfl,hT⟩
 ·rw[hl];exact⟨rfl,hT⟩
theorem ahW {b:Nat} {w:World} {F:Fp} {x:TX} (h:cY b w F x):(gB x).length<=32:=by
 obtain⟨b2,b3,y,h,hc,hI⟩:=h;have hl:=hI.len;have hs:=congrArg List.length hI.s;rw[List.length_map,hl]at hs;unfold gB;rw[<-hs];exact V2 _ _
theorem acq (hTab:Tab W) (h0:¬F 0) (h:aa (KO b) W w F k) (a8 c:Int):Cx 299 #[pt b,I a8,I c] w fun e w'=>e=Z (.tuple #[])/\aa (KO b) W w' F (iJ k a8 c):=by
 obtain⟨q,hq⟩:=KO.fix h;have hB:=KF.ai hq;refine akZ ?_;rw[t299];unfold iJ;refine⟨fun g=>?_,fun g=>⟨fun g1=>?_,fun g1=>?_⟩⟩
 ·have g:a8=1:=by simpa using g
  rw[if_pos g];obtain⟨F1,hA,kA⟩:=KF.co hq;refine⟨_,rfl,_,hB.av rfl,⟨(CG hA c true).mono ?_⟩⟩;rintro e w1 ⟨⟨n,rfl⟩,hT⟩;exact⟨_,rfl,rfl,KF.loose (kA _ _ hT)⟩
 ·have g:¬a8=1:=by simpa using g
  have g1:a8=2:=by simpa using g1
  rw[if_neg g,if_pos g1];obtain⟨F1,hA,kA⟩:=KF.st hq;refine⟨_,rfl,_,hB.av rfl,⟨(R0 hA c).mono ?_⟩⟩;rintro e w1 ⟨rfl,hT⟩;exact⟨_,_,rfl,rfl,KF.loose (kA _ _ hT)⟩
 have g:¬a8=1:=by simpa using g
 have g1:¬a8=2:=by simpa using g1
 rw[if_neg g,if_neg g1]
 dsimp only
 have second:∀(k2:K) (w2:World),aa (KO b) W w2 F k2->aA Tryz.prog ma yr (Da (some ⟨b,0,none⟩)) w2 (D5 fun e w'=>e=Z (.tuple #[])/\aa (KO b) W w' F ((iq k2.ir).foldl dR k2)):=by
  intro k2 w2 h2;refine aA.mk ?_;rw[agU];obtain⟨q2,hq2⟩:=KO.fix h2;obtain⟨F2,hA2,_⟩:=KF.ir hq2;refine⟨_,rfl,_,(KF.ai hq2).av rfl,⟨(U7 hA2).mono ?_⟩⟩;rintro e w3 ⟨p,d,rfl,hL⟩;have hS:aa (au (KO b) (Ls 3)) W w3 F (k2,(p,d,iq k2.ir)):=h2.add hL.U (G:=aL p) ⟨fun _=>Iff.rfl,hL.S⟩ hL.F;have hlen:(iq k2.ir).length<=16:=qz ..;refine⟨_,_,_,rfl,⟨bA bf (M:=ma) (σ:=Nat) (fun i=>Db (some ⟨b,0,none⟩) p (iq k2.ir).length d ((iq k2.ir).length:Int) (i:Int)) (fun i w'=>i<=(iq k2.ir).length/\aa (au (KO b) (Ls 3)) W w' F (((iq k2.ir).take i).foldl dR k2,(p,d,iq k2.ir))) (fun i _=>(iq k2.ir).length-i) 0 ⟨rfl,rfl,rfl,rfl,trivial⟩ ⟨Nat.zero_le _,hS⟩ ?_⟩⟩;rintro i w4 ⟨hi,hS4⟩;rw[agW];refine⟨fun g=>?_,fun g=>?_⟩
  ·have g:=of_decide_eq_true g;have hlt:i<(iq k2.ir).length:=by omega
   obtain⟨a,ha,hcell⟩:=(wu hS4).bC hlt;obtain⟨F5,hK5,hT5,hz5,kK5⟩:=aa.Ef hTab h0 hS4;refine⟨⟨by omega,by omega⟩,a,ha,_,hcell,⟨(UF hT5 hz5 (aa.same hK5) _).mono ?_⟩⟩;rintro e w5 ⟨rfl,hT5⟩;have h5:=kK5 _ _ hT5;refine⟨rfl,i+1,⟨rfl,rfl,rfl,by rw[aD (by omega)];rfl,trivial⟩,⟨by omega,?_⟩,by omega⟩;rw[List.take_add_one,List.getElem?_eq_getElem hlt,List.foldl_append];exact h5
  ·have g:=of_decide_eq_false g;rw[List.take_of_length_le (by omega)]at hS4;exact⟨rfl,hS4.drop⟩
 have tail:∀(w2:World),aa (KF b q) W w2 F k->∃a,(some ⟨b,0,none⟩:Option Addr)=some a/\Wr w2 (a.add 16) [.int .u64 (mi (wi k.on c))] fun w'=>∃a,(some ⟨b,0,none⟩:Option Addr)=some a/\Wr w' (a.add 17) [.int .u64 (mi (wi k.ac c))] fun w'=>∃a,(some ⟨b,0,none⟩:Option Addr)=some a/\∃p,w'.cell? ((a.add 0).add 0)=some (.pointer p)/\Call Tryz.prog 181 [.pointer p] w' fun e w'=>∃p n d,e=Z (.slice p n d)/\Cut (WP Tryz.prog (ma).N (Code.loop vw) (sT (some ⟨b,0,none⟩) p n d (n:Int) 0) w' (wj fun e w'=>e=Z (.tuple #[])/\aa (KO b) W w' F ((iq (((gB k.th).foldl dU {k with on:=wi k.on c,ac:=wi k.ac c}).ir)).foldl dR ((gB k.th).foldl dU {k with on:=wi k.on c,ac:=wi k.ac c})))):=by
  intro w2 hq;refine⟨_,rfl,(KF.ai hq).wr (k:=16) (by simp[jX]) fun w3 hW3=>?_⟩;have h3:=KF.row hq (k.n,wi k.on c,k.ac,k.now,k.lim) rfl hW3;refine⟨_,rfl,(KF.ai h3).wr (k:=17) (by simp[jX]) fun w4 hW4=>?_⟩;have h4:=KF.row h3 (k.n,wi k.on c,wi k.ac c,k.now,k.lim) rfl hW4;obtain⟨F2,hA2,_⟩:=KF.th h4;refine⟨_,rfl,_,(KF.ai h4).av rfl,⟨(ahX hA2).mono ?_⟩⟩;rintro e w5 ⟨p,d,rfl,hL⟩;have hS:aa (au (KO b) (Ls 3)) W w5 F ({k with on:=wi k.on c,ac:=wi k.ac c},(p,d,gB k.th)):=(KF.loose h4).add hL.U (G:=aL p) ⟨fun _=>Iff.rfl,hL.S⟩ hL.F;have hlen:(gB k.th).length<=32:=ahW hA2;refine⟨_,_,_,rfl,⟨bA bf (M:=ma) (σ:=Nat) (fun i=>sT (some ⟨b,0,none⟩) p (gB k.th).length d ((gB k.th).length:Int) (i:Int)) (fun i w'=>i<=(gB k.th).length/\aa (au (KO b) (Ls 3)) W w' F (((gB k.th).take i).foldl dU {k with on:=wi k.on c,ac:=wi k.ac c},(p,d,gB k.th))) (fun i _=>(gB k.th).length-i) 0 ⟨rfl,rfl,rfl,rfl,trivial⟩ ⟨Nat.zero_le _,hS⟩ ?_⟩⟩;rintro i w6 ⟨hi,hS6⟩;rw[agV];refine⟨fun g=>?_,fun g=>?_⟩
  ·have g:=of_decide_eq_true g;have hlt:i<(gB k.th).length:=by omega
   obtain⟨a,ha,hcell⟩:=(wu hS6).bC hlt;obtain⟨F5,hK5,hT5,hz5,kK5⟩:=aa.Ef hTab h0 hS6;refine⟨⟨by omega,by omega⟩,a,ha,_,hcell,⟨(UJ hT5 hz5 (aa.same hK5) _).mono ?_⟩⟩;rintro e w7 ⟨rfl,hT7⟩;have h7:=kK5 _ _ hT7;refine⟨rfl,i+1,⟨rfl,rfl,rfl,by rw[aD (by omega)];rfl,trivial⟩,⟨by omega,?_⟩,by omega⟩;rw[List.take_add_one,List.getElem?_eq_getElem hlt,List.foldl_append];exact h7
  ·have g:=of_decide_eq_false g;rw[List.take_of_length_le (by omega)]at hS6;exact second _ _ hS6.drop
 intro w1 q1 q2 q3 q4;replace hq:=hq.ae (af.same no q1 q2 q3 q4);replace hB:=KF.ai hq;refine⟨_,rfl,_,hB.cell rfl,_,rfl,_,hB.cell rfl,?_,?_⟩
 ·refine⟨fun w2 hN=>?_⟩;replace hq:=hq.ae (hN.ae no);have hB2:=KF.ai hq;refine⟨hB2.cell rfl,hB2.cell rfl,?_,?_⟩
  ·refine⟨(oZ k.on (l:=[c]) (p:=some ⟨w1.heap.size,0,none⟩) (c:=1) (fun j v hv=>⟨_,rfl,hN.aF.cell hv⟩) (by simp)).mono ?_⟩;rintro e w3 ⟨rfl,rfl⟩;refine⟨_,rfl,hB2.cell rfl,⟨fun w4 hN4=>?_⟩⟩;replace hq:=hq.ae (hN4.ae no);have hB4:=KF.ai hq;refine⟨hB4.cell rfl,hB4.cell rfl,⟨(oZ k.ac (l:=[c]) (p:=some ⟨w3.heap.size,0,none⟩) (c:=1) (fun j v hv=>⟨_,rfl,hN4.aF.cell hv⟩) (by simp)).mono ?_⟩⟩;rintro e w5 ⟨rfl,rfl⟩;exact⟨_,rfl,tail _ hq⟩
  ·refine⟨fun w3 hN3=>?_⟩;replace hq:=hq.ae (hN3.ae no);have hB3:=KF.ai hq;refine⟨hB3.cell rfl,hB3.cell rfl,⟨(oZ k.on (l:=[c]) (p:=some ⟨w1.heap.size,0,none⟩) (c:=1) (fun j v hv=>⟨_,rfl,(hN.aF.ae (hN3.ae no) (fun h=>h)).cell hv⟩) (by simp)).mono ?_⟩⟩;rintro e w4 ⟨rfl,rfl⟩;refine⟨_,rfl,hB3.cell rfl,⟨(oZ k.ac (l:=[c]) (p:=some ⟨w2.heap.size,0,none⟩) (c:=1) (fun j v hv=>⟨_,rfl,hN3.aF.cell hv⟩) (by simp)).mono ?_⟩⟩;rintro e w5 ⟨rfl,rfl⟩;exact⟨_,rfl,tail _ hq⟩
 ·refine⟨fun w2 hN=>?_⟩;replace hq:=hq.ae (hN.ae no);have hB2:=KF.ai hq;refine⟨hB2.cell rfl,hB2.cell rfl,⟨fun w3 hN3=>?_⟩⟩;replace hq:=hq.ae (hN3.ae no);have hB3:=KF.ai hq;refine⟨hB3.cell rfl,hB3.cell rfl,⟨(oZ k.on (l:=[c]) (p:=some ⟨w2.heap.size,0,none⟩) (c:=1) (fun j v hv=>⟨_,rfl,hN3.aF.cell hv⟩) (by simp)).mono ?_⟩⟩;rintro e w4 ⟨rfl,rfl⟩;refine⟨_,rfl,hB3.cell rfl,⟨(oZ k.ac (l:=[c]) (p:=some ⟨w1.heap.size,0,none⟩) (c:=1) (fun j v hv=>⟨_,rfl,(hN.aF.ae (hN3.ae no) (fun h=>h)).cell hv⟩) (by simp)).mono ?_⟩⟩;rintro e w5 ⟨rfl,rfl⟩;exact⟨_,rfl,tail _ hq⟩
theorem acB (hTab:Tab W) (h0:¬F 0) (h:aa (KO b) W w F k) (c ah:Int):Cx 360 #[pt b,I c,I ah] w fun e w'=>e=Z (.bool (oT k))/\aa (KO b) W w' F (jz k c ah):=by
 obtain⟨q,hq⟩:=KO.fix h;have hB:=KF.ai hq;obtain⟨F1,hA,_⟩:=KF.so hq;refine alQ ?_;rw[t360];unfold oT jz;refine⟨_,rfl,_,hB.av rfl,⟨(Av hA).mono ?_⟩⟩;rintro e w1 ⟨rfl,rfl⟩;refine⟨_,rfl,fun g=>?_,fun g=>?_⟩
 ·have g:k.sp.1=0:=by simpa using g
  have e1:(!(k.sp.1==0)&&fB k.sp)=false:=by rw[g];rfl
  rw[if_pos g,e1];intro w2 q1 q2 q3 q4;replace hq:=hq.ae (af.same no q1 q2 q3 q4);replace hB:=KF.ai hq;refine⟨_,rfl,_,hB.av rfl,_,rfl,_,hB.cell rfl,⟨fun w3 hN=>?_⟩⟩;replace hq:=hq.ae (hN.ae no);replace hB:=KF.ai hq;refine⟨hB.cell rfl,hB.av rfl,⟨(oZ k.ac (l:=[c]) (p:=some ⟨w2.heap.size,0,none⟩) (c:=1) (fun j v hv=>⟨_,rfl,hN.aF.cell hv⟩) (by simp)).mono ?_⟩⟩;rintro e w4 ⟨rfl,rfl⟩;refine⟨_,rfl,hB.av rfl,⟨(Ak (wi k.ac c) ah _).mono ?_⟩⟩;rintro e w5 ⟨rfl,rfl⟩;obtain⟨F2,hA2,kA2⟩:=KF.so hq;refine⟨_,rfl,hB.av rfl,⟨(YC hA2 _).mono ?_⟩⟩;rintro e w6 ⟨rfl,hT⟩;exact⟨_,rfl,rfl,KF.loose (kA2 _ _ hT)⟩
 ·have g:¬k.sp.1=0:=by
   intro hh;rw[hh]at g;exact absurd g (by decide)
  have e0:(!(k.sp.1==0))=true:=by simpa using g
  rw[if_neg g,e0,Bool.true_and];refine⟨_,rfl,_,hB.av rfl,⟨(ae3 hA).mono ?_⟩⟩;rintro e w2 ⟨rfl,hU2⟩;replace hq:=hq.ae hU2;replace hB:=KF.ai hq;refine⟨_,rfl,fun g2=>?_,fun g2=>?_⟩
  ·have g2:fB k.sp=false:=by simpa using g2
   rw[g2,if_neg (by decide)];exact⟨rfl,KF.loose hq⟩
  ·have g2:fB k.sp=true:=by simpa using g2
   rw[g2,if_pos rfl]
   dsimp only
   obtain⟨F3,hR,_⟩:=KF.rt hq;refine⟨_,rfl,_,hB.av rfl,⟨(VV hR c).mono ?_⟩⟩;rintro e w3 ⟨p,d,rfl,hL⟩;have hS:aa (au (KO b) (Ls 3)) W w3 F (k,(p,d,ft k.rt c)):=(KF.loose hq).add hL.U (G:=aL p) ⟨fun _=>Iff.rfl,hL.S⟩ hL.F;have hlen:(ft k.rt c).length<=16:=qz ..;refine⟨_,_,_,rfl,⟨bA bf (M:=qN) (σ:=Nat) (fun i=>Df (some ⟨b,0,none⟩) c p (ft k.rt c).length d ((ft k.rt c).length:Int) (i:Int)) (fun i w'=>i<=(ft k.rt c).length/\aa (au (KO b) (Ls 3)) W w' F (((ft k.rt c).take i).foldl (fun k n=>ey k n c) k,(p,d,ft k.rt c))) (fun i _=>(ft k.rt c).length-i) 0 ⟨rfl,rfl,rfl,rfl,rfl,trivial⟩ ⟨Nat.zero_le _,hS⟩ ?_⟩⟩;rintro i w4 ⟨hi,hS4⟩;rw[ag2];refine⟨fun g=>?_,fun g=>aA.mk ?_⟩
   ·have g:=of_decide_eq_true g;have hlt:i<(ft k.rt c).length:=by omega
    obtain⟨a,ha,hcell⟩:=(wu hS4).bC hlt;obtain⟨F5,hK5,hT5,hz5,kK5⟩:=aa.Ef hTab h0 hS4;refine⟨⟨by omega,by omega⟩,a,ha,_,hcell,⟨(Ea hT5 hz5 (aa.same hK5) _ _).mono ?_⟩⟩;rintro e w5 ⟨rfl,hT5⟩;have h5:=kK5 _ _ hT5;refine⟨rfl,i+1,⟨rfl,rfl,rfl,rfl,by rw[aD (by omega)];rfl,trivial⟩,⟨by omega,?_⟩,by omega⟩;rw[List.take_add_one,List.getElem?_eq_getElem hlt,List.foldl_append];exact h5
   ·have g:=of_decide_eq_false g;rw[List.take_of_length_le (by omega)]at hS4;rw[ag1];obtain⟨q6,h6⟩:=KO.fix hS4.drop;obtain⟨F6,hA6,kA6⟩:=KF.so h6;refine⟨_,rfl,_,(KF.ai h6).av rfl,⟨(abf hA6).mono ?_⟩⟩;rintro e w7 ⟨rfl,hT⟩;exact⟨_,rfl,rfl,KF.loose (kA6 _ _ hT)⟩
theorem acC (hTab:Tab W) (h0:¬F 0) (h:aa (KO b) W w F k) (a8 c ah:Int):Cx 300 #[pt b,I a8,I c,I ah] w fun e w'=>e=Z (.bool (fm k a8 c ah))/\aa (KO b) W w' F (dy k a8 c ah):=by
 obtain⟨q,hq⟩:=KO.fix h;have hB:=KF.ai hq;refine ak0 ?_;rw[t300];have bne:∀x:Int,(x !=0)=decide (x≠0):=fun x=>by by_cases hx:x=0<;>simp[hx]
 refine⟨fun g=>?_,fun g=>⟨fun g1=>?_,fun g1=>⟨fun g2=>?_,fun g2=>⟨fun g3=>?_,fun g3=>⟨fun g4=>?_,fun g4=>⟨fun g5=>?_,fun g5=>⟨fun g6=>?_,fun g6=>⟨fun g7=>?_,fun g7=>?_⟩⟩⟩⟩⟩⟩⟩⟩
 ·have g:a8=1:=by simpa using g
  subst g;refine⟨_,rfl,_,hB.cell rfl,⟨(Ak k.ac c w).mono ?_⟩⟩;rintro e w1 ⟨rfl,rfl⟩;exact⟨_,rfl,_,rfl,hB.wr (k:=17) (by simp[jX]) fun w2 hW=>⟨rfl,KF.loose (KF.row hq (k.n,k.on,ls k.ac c,k.now,k.lim) rfl hW)⟩⟩
 ·have g1:a8=2:=by simpa using g1
  subst g1;refine⟨(acv hTab h0 h c).mono ?_⟩;rintro e w1 ⟨rfl,hT⟩;exact⟨_,rfl,rfl,hT⟩
 ·have g2:a8=3:=by simpa using g2
  subst g2;obtain⟨F1,hA,kA⟩:=KF.tm hq;refine⟨_,rfl,_,hB.av rfl,⟨(ah0 hA c ah).mono ?_⟩⟩;rintro e w1 ⟨rfl,hT⟩;exact⟨_,_,rfl,by rw[bne];rfl,KF.loose (kA _ _ hT)⟩
 ·have g3:a8=4:=by simpa using g3
  subst g3;obtain⟨F1,hA,kA⟩:=KF.wk hq;refine⟨_,rfl,_,hB.av rfl,⟨(am3 hA c).mono ?_⟩⟩;rintro e w1 ⟨rfl,hT⟩;exact⟨_,_,rfl,by rw[bne];rfl,KF.loose (kA _ _ hT)⟩
 ·have g4:a8=5:=by simpa using g4
  subst g4;obtain⟨F1,hA,kA⟩:=KF.ca hq;refine⟨_,rfl,_,hB.av rfl,⟨(ZG hA c ah).mono ?_⟩⟩;rintro e w1 ⟨rfl,hT⟩;exact⟨_,_,rfl,by rw[bne];rfl,KF.loose (kA _ _ hT)⟩
 ·have g5:a8=6:=by simpa using g5
  subst g5;refine⟨(acB hTab h0 h c ah).mono ?_⟩;rintro e w1 ⟨rfl,hT⟩;exact⟨_,rfl,rfl,hT⟩
 ·have g6:a8=7:=by simpa using g6
  subst g6;obtain⟨F1,hA,kA⟩:=KF.st hq;refine⟨_,rfl,_,hB.av rfl,⟨(R0 hA c).mono ?_⟩⟩;rintro e w1 ⟨rfl,hT⟩;exact⟨_,_,rfl,rfl,KF.loose (kA _ _ hT)⟩
 ·have g7:a8=8:=by simpa using g7
  subst g7;obtain⟨F1,bH,hA,kA⟩:=KF.sc hq;refine⟨_,rfl,_,hB.av rfl,⟨(afL hA c ah).mono ?_⟩⟩;rintro e w1 ⟨rfl,hT⟩;exact⟨_,rfl,rfl,KF.loose (kA _ _ hT)⟩
 ·have e1:fm k a8 c ah=true:=by
   unfold fm;simp only[beq_eq_false_iff_ne,ne_eq]at g g1 g2 g3 g4 g5;rw[if_neg g,if_neg g1,if_neg g2,if_neg g3,if_neg g4,if_neg g5]
  have e2:dy k a8 c ah={k with on:=ls k.on c,co:=fh k.co c false}:=by
   unfold dy;simp only[beq_eq_false_iff_ne,ne_eq]at g g1 g2 g3 g4 g5 g6 g7;rw[if_neg g,if_neg g1,if_neg g2,if_neg g3,if_neg g4,if_neg g5,if_neg g6,if_neg g7]
  rw[e1,e2];refine⟨_,rfl,_,hB.cell rfl,⟨(Ak k.on c w).mono ?_⟩⟩;rintro e w1 ⟨rfl,rfl⟩;refine⟨_,rfl,_,rfl,hB.wr (k:=16) (by simp[jX]) fun w2 hW=>?_⟩;have h2:=KF.row hq (k.n,ls k.on c,k.ac,k.now,k.lim) rfl hW;obtain⟨F1,hA,kA⟩:=KF.co h2;refine⟨_,rfl,_,(KF.ai h2).av rfl,⟨(CG hA c false).mono ?_⟩⟩;rintro e w3 ⟨⟨n,rfl⟩,hT⟩;exact⟨_,rfl,rfl,KF.loose (kA _ _ hT)⟩
theorem acO (hTab:Tab W) (h0:¬F 0) (h:aa (KO b) W w F k) (s:Int×Bool×Bool) (c ah:Int):Cx 209 #[pt b,.agg #[I s.1,.bool s.2.1,.bool s.2.2],I c,I ah] w fun e w'=>e=Z (.bool (lq k s c ah))/\aa (KO b) W w' F (b6 k s c ah):=by
 refine ajP ?_;rw[t209];refine⟨fun w1 hN=>?_⟩;have h1:=h.ae (hN.ae no);have hL:=hN.aF;obtain⟨q,hq⟩:=KO.fix h1;have hB:=KF.ai hq;obtain⟨F1,hA,_⟩:=KF.dk hq;unfold lq b6;refine⟨_,rfl,_,hB.av rfl,⟨(abW hA).mono ?_⟩⟩;rintro e w2 ⟨rfl,rfl⟩;refine⟨_,rfl,_,hL.cell rfl,fun g=>⟨_,hL.cell rfl,⟨(acU h1 _ _ c).mono ?_⟩⟩,fun g=>⟨_,hL.cell rfl,fun g1=>?_,fun g1=>⟨fun g2=>⟨_,hL.cell rfl,⟨(acq hTab h0 h1 _ c).mono ?_⟩⟩,fun g2=>⟨_,hL.cell rfl,⟨(acC hTab h0 h1 _ c ah).mono ?_⟩⟩⟩⟩⟩
 ·have g:s.2.1=true:=g;rw[if_pos g,if_pos g];rintro e w3 ⟨rfl,hT⟩;exact⟨rfl,rfl,hT⟩
 all_goals have g:¬s.2.1=true:=by simpa using g
 all_goals rw[if_neg g,if_neg g]
 ·have g1:s.1=0:=by simpa using g1
  rw[if_pos g1,if_pos g1];obtain⟨F2,hG,kG⟩:=KF.ga hq;refine⟨_,rfl,_,hB.av rfl,⟨(abG hG).mono ?_⟩⟩;rintro e w3 ⟨rfl,hT⟩;exact⟨_,rfl,by rfl,KF.loose (kG _ _ hT)⟩
 all_goals have g1:¬s.1=0:=by simpa using g1
 all_goals rw[if_neg g1,if_neg g1]
 ·rw[if_pos g2,if_pos g2];rintro e w3 ⟨rfl,hT⟩;exact⟨rfl,rfl,hT⟩
 ·rw[if_neg (by rw[g2];decide),if_neg (by rw[g2];decide)];rintro e w3 ⟨rfl,hT⟩;exact⟨_,rfl,rfl,hT⟩
theorem acT (hTab:Tab W) (h0:¬F 0) (h:aa (KO b) W w F k) (ah:Int):Cx 119 #[pt b,I ah] w (cZ (KO b) W F (eK k ah) (Bj k ah)):=by
 obtain⟨q,hq⟩:=KO.fix h;have hB:=KF.ai hq;obtain⟨F1,hA,kA⟩:=KF.dk hq;refine aiB ?_;rw[t119];refine⟨_,rfl,_,hB.av rfl,⟨(abM hA).mono ?_⟩⟩;rintro e w1 ⟨rfl,rfl⟩;refine⟨_,rfl,_,rfl,_,hB.av rfl,⟨(abS hA).mono ?_⟩⟩;rintro e w2 ⟨rfl,hT⟩;have h2:=KF.loose (kA _ _ hT);refine⟨_,_,_,_,rfl,⟨fun w3 hN=>?_⟩⟩;have hS:aa (au (KO b) (Lb w2.heap.size 303)) W w3 F ({k with dk:=nH k.dk},[I 0,.bool false,.bool false]):=h2.add (hN.ae no) (Rw.new hN rfl) (fun i hi=>Nat.le_of_eq hi.symm);generalize w2.heap.size=p at hS⊢;refine il (vs:=[I (fR k.dk).1.1,.bool (fR k.dk).1.2.1,.bool (fR k.dk).1.2.2]) hS (by rfl) fun w4 hS=>?_;have hL:=bE hS
 have last:∀(w5:World),aa (KO b) W w5 F (dY k ah)->aA Tryz.prog qK vr (vN (some ⟨b,0,none⟩) (oI k.dk)) w5 (we (cZ (KO b) W F (eK k ah) (Bj k ah))):=by
  intro w5 h5;refine aA.mk ?_;rw[ago];obtain⟨q5,hq5⟩:=KO.fix h5;obtain⟨F5,hA5,_⟩:=KF.dk hq5;unfold eK Bj;refine⟨_,rfl,_,(KF.ai hq5).av rfl,⟨(DY hA5).mono ?_⟩⟩;rintro e w6 ⟨rfl,hU6⟩;replace hq5:=hq5.ae hU6;refine⟨_,rfl,fun g=>?_,fun g=>?_⟩
  ·have g:jR (dY k ah).dk=false:=by simpa using g
   rw[g];exact cZ.nil (KF.loose hq5)
  ·have g:jR (dY k ah).dk=true:=by simpa using g
   rw[g];obtain⟨F7,hA7,kA7⟩:=KF.dk hq5;refine⟨_,rfl,_,(KF.ai hq5).av rfl,⟨(abP hA7 g).mono ?_⟩⟩;rintro e w7 ⟨rfl,hT7⟩;have hq7:=kA7 _ _ hT7;obtain⟨F8,hG,kG⟩:=KF.ga hq7;refine⟨_,_,rfl,_,rfl,_,(KF.ai hq7).av rfl,⟨(abo hG).mono ?_⟩⟩;rintro e w8 ⟨rfl,hT8⟩;refine⟨_,rfl,⟨fun w9 hN9=>cZ.one (KF.loose (kG _ _ hT8)) hN9⟩⟩
 refine⟨_,hL.cell rfl,fun g=>?_,fun g=>?_⟩
 ·have g:(fR k.dk).1.2.2=false:=by simpa using g
  refine⟨_,hL.cell rfl,_,hL.cell rfl,_,hL.cell rfl,⟨(acO hTab h0 hS.drop (fR k.dk).1 (oI k.dk) ah).mono ?_⟩⟩;rintro e w5 ⟨rfl,hT5⟩;refine⟨_,rfl,fun g2=>?_,fun g2=>?_⟩
  ·obtain⟨q5,hq5⟩:=KO.fix hT5;obtain⟨F5,hA5,kA5⟩:=KF.dk hq5;refine⟨_,rfl,_,(KF.ai hq5).av rfl,⟨(abN hA5).mono ?_⟩⟩;rintro e w6 ⟨⟨x,rfl⟩,hT6⟩;refine⟨_,rfl,last _ ?_⟩;have:=KF.loose (kA5 _ _ hT6);unfold dY
   dsimp only
   rw[if_neg (by rw[g];decide),if_pos g2];exact this
  ·refine last _ ?_;unfold dY
   dsimp only
   rw[if_neg (by rw[g];decide),if_neg (by rw[g2];decide)];exact hT5
 ·have g:(fR k.dk).1.2.2=true:=by simpa using g
  refine last _ ?_;unfold dY
  dsimp only
  rw[if_pos g];exact hS.drop
end
end Go.Dav
namespace Go.Dav
open Go.Proofs
theorem D9 {eM:Int} {g p p1:Nat} {w:World} {R:Ending->World->Prop} (hb:vZ Tryz.prog g=true) (hz:eM=0->Cx g #[pt p,pt p1] w fun e w'=>e=Z (.tuple #[])/\R (.returned (I eM)) w') (hn:eM≠0->R (.returned (I eM)) w):Cx 135 #[I eM,.func (.func g) #[] #[pt p,pt p1]] w R:=by
 refine aiT ?_;rw[t135];refine⟨fun h=>?_,fun h=>hn (by simpa using h)⟩;rw[hb];exact⟨hz (by simpa using h)⟩
section
variable {b:Nat} {W w:World} {F:Fp} {k:K} {p p1:Nat} {T T1:TypeId} {e:aU}
theorem acj (hTab:Tab W) (h0:¬F 0) (hn:1<=k.n) (h:aa (au (au (KO b) (Lb p T)) (Lb p1 T1)) W w F ((k,[pt b]),eR e)):Cx 137 #[pt p,pt p1] w fun e' w'=>e'=Z (.tuple #[])/\aa (KO b) W w' F (ey k e.2.2.1 (Int.tmod e.2.2.1 k.n)):=by
 refine aiV ?_;rw[t137];intro w1 q1 q2 q3 q4;replace h:=h.ae (af.same no q1 q2 q3 q4);obtain⟨q,F1,_,hK,_⟩:=uG.fix h;have hL:=gR h;have hL2:=bE h;refine⟨_,hL.bD rfl,_,hL2.cell rfl,_,hL2.cell rfl,_,hL.bD rfl,_,rfl,_,(KF.ai hK).cell rfl,(show((k.n:Nat):Int)≠0 by omega),⟨(Ea hTab h0 h.drop.drop e.2.2.1 _).mono ?_⟩⟩;rintro e' w2 ⟨rfl,hT⟩;exact⟨rfl,rfl,hT⟩
theorem acm (h:aa (au (au (KO b) (Lb p T)) (Lb p1 T1)) W w F ((k,[pt b]),eR e)):Cx 140 #[pt p,pt p1] w fun e' w'=>e'=Z (.tuple #[])/\aa (KO b) W w' F {k with rt:=mG k.rt e.2.2.1}:=by
 refine aiY ?_;rw[t140];intro w1 q1 q2 q3 q4;replace h:=h.ae (af.same no q1 q2 q3 q4);obtain⟨q,F1,_,hK,kK⟩:=uG.fix h;obtain⟨F2,hA,kA⟩:=KF.rt hK;have hL:=gR h;have hL2:=bE h;refine⟨_,hL.bD rfl,_,rfl,_,(KF.ai hK).av rfl,_,hL2.cell rfl,⟨(aej hA e.2.2.1).mono ?_⟩⟩;rintro e' w2 ⟨rfl,hT⟩;exact⟨_,rfl,rfl,(kK _ _ (kA _ _ hT)).drop.drop⟩
theorem acn (hTab:Tab W) (h0:¬F 0) (h:aa (au (au (KO b) (Lb p T)) (Lb p1 T1)) W w F ((k,[pt b]),eR e)):Cx 143 #[pt p,pt p1] w fun e' w'=>e'=Z (.tuple #[])/\aa (KO b) W w' F (dR k e.2.2.1):=by
 refine ai1 ?_;rw[t143];have hL:=gR h;have hL2:=bE h;refine⟨_,hL.bD rfl,_,hL2.cell rfl,⟨(UF hTab h0 h.drop.drop e.2.2.1).mono ?_⟩⟩;rintro e' w2 ⟨rfl,hT⟩;exact⟨rfl,rfl,hT⟩
theorem ae6 {s:bj} {n:Int} {m:BV} (h:iX s n m=0):0<=n:=by
 unfold iX at h;by_cases hn:fS n
 ·rw[if_pos hn]at h;cases h
 ·unfold fS at hn;omega
theorem tx (hTab:Tab W) (h0:¬F 0) (hn:1<=k.n) (h:aa (KO b) W w F k) (e:aU):Cx 67 #[pt b,.agg (eR e).toArray] w fun e' w'=>e'=Z (I (nF k e))/\aa (KO b) W w' F (jW k e):=by
 refine u67 ?_;rw[t67];refine⟨fun w1 hN=>⟨fun w2 hN2=>?_⟩⟩;have hS:aa (au (au (KO b) (Lb w.heap.size 23)) (Lb w1.heap.size 33)) W w2 F ((k,[pt b]),eR e):=(h.add (hN.ae no) (Rw.new hN rfl) (fun i hi=>Nat.le_of_eq hi.symm)).add (hN2.ae no) (Rw.new hN2 rfl) (fun i hi=>Nat.le_of_eq hi.symm);generalize w.heap.size=p at hS⊢;generalize w1.heap.size=p1 at hS⊢;unfold nF jW;refine⟨_,(bE hS).cell rfl,fun g=>?_,fun g=>⟨fun g1=>?_,fun g1=>⟨fun g2=>?_,fun g2=>⟨fun g3=>?_,fun g3=>⟨fun g4=>?_,fun g4=>?_⟩⟩⟩⟩⟩
 all_goals
  intro w3 q1 q2 q3 q4;have hS:=hS.ae (af.same no q1 q2 q3 q4);obtain⟨q,F1,_,hK,kK⟩:=uG.fix hS;obtain⟨F2,hA,kA⟩:=KF.ir hK;have hL:=gR hS;have hL2:=bE hS;have hB:=KF.ai hK
 ·have g:e.1=12:=by simpa using g
  rw[if_pos g,if_pos g];refine⟨_,hL.bD rfl,_,rfl,_,hB.av rfl,_,hL2.cell rfl,_,hL2.cell rfl,⟨(ae8 hA e.2.2.1 e.2.2.2.1).mono ?_⟩⟩;rintro e' w4 ⟨rfl,hT⟩;have hS:=kK _ _ (kA _ _ hT);refine⟨_,rfl,⟨D9 (by kernel_rfl) (fun hz=>?_) (fun hz=>?_)⟩⟩
  ·refine(acj (k:={k with ir:=jE k.ir e.2.2.1 e.2.2.2.1}) hTab h0 hn hS).mono ?_;rintro e' w5 ⟨rfl,hT5⟩;rw[if_pos hz];rw[Int.tmod_eq_emod_of_nonneg (ae6 hz)]at hT5;exact⟨rfl,_,rfl,rfl,hT5⟩
  ·rw[if_neg hz];exact⟨_,rfl,rfl,hS.drop.drop⟩
 ·have g:¬e.1=12:=by simpa using g
  have g1:e.1=13:=by simpa using g1
  rw[if_neg g,if_pos g1,if_neg g,if_pos g1];refine⟨_,hL.bD rfl,_,rfl,_,hB.av rfl,_,hL2.cell rfl,⟨(abe hA e.2.2.1).mono ?_⟩⟩;rintro e' w4 ⟨rfl,hT⟩;have hS:=kK _ _ (kA _ _ hT);refine⟨_,rfl,⟨D9 (by kernel_rfl) (fun hz=>?_) (fun hz=>?_)⟩⟩
  ·refine(acm hS).mono ?_;rintro e' w5 ⟨rfl,hT5⟩;rw[if_pos hz];exact⟨rfl,_,rfl,rfl,hT5⟩
  ·rw[if_neg hz];exact⟨_,rfl,rfl,hS.drop.drop⟩
 ·have g:¬e.1=12:=by simpa using g
  have g1:¬e.1=13:=by simpa using g1
  have g2:e.1=14:=by simpa using g2
  rw[if_neg g,if_neg g1,if_pos g2,if_neg g,if_neg g1,if_pos g2];refine⟨_,hL.bD rfl,_,rfl,_,hB.av rfl,_,hL2.cell rfl,_,hL2.cell rfl,⟨(Ye hA e.2.2.1 e.2.2.2.1).mono ?_⟩⟩;rintro e' w4 ⟨rfl,hT⟩;have hS:=kK _ _ (kA _ _ hT);refine⟨_,rfl,⟨D9 (by kernel_rfl) (fun hz=>?_) (fun hz=>?_)⟩⟩
  ·refine(acn hTab h0 hS).mono ?_;rintro e' w5 ⟨rfl,hT5⟩;rw[if_pos hz];exact⟨rfl,_,rfl,rfl,hT5⟩
  ·rw[if_neg hz];exact⟨_,rfl,rfl,hS.drop.drop⟩
 ·have g:¬e.1=12:=by simpa using g
  have g1:¬e.1=13:=by simpa using g1
  have g2:¬e.1=14:=by simpa using g2
  have g3:e.1=15:=by simpa using g3
  rw[if_neg g,if_neg g1,if_neg g2,if_pos g3,if_neg g,if_neg g1,if_neg g2,if_pos g3];refine⟨_,hL.bD rfl,_,rfl,_,hB.av rfl,_,hL2.cell rfl,⟨(abX hA e.2.2.1).mono ?_⟩⟩;rintro e' w4 ⟨rfl,hT⟩;exact⟨_,rfl,rfl,(kK _ _ (kA _ _ hT)).drop.drop⟩
 ·have g:¬e.1=12:=by simpa using g
  have g1:¬e.1=13:=by simpa using g1
  have g2:¬e.1=14:=by simpa using g2
  have g3:¬e.1=15:=by simpa using g3
  have g4:e.1=16:=by simpa using g4
  rw[if_neg g,if_neg g1,if_neg g2,if_neg g3,if_pos g4,if_neg g,if_neg g1,if_neg g2,if_neg g3,if_pos g4];refine⟨_,hL.bD rfl,_,rfl,_,hB.av rfl,_,hL2.cell rfl,⟨(amn hA e.2.2.1).mono ?_⟩⟩;rintro e' w4 ⟨rfl,hT⟩;exact⟨_,rfl,rfl,(kK _ _ (kA _ _ hT)).drop.drop⟩
 ·have g:¬e.1=12:=by simpa using g
  have g1:¬e.1=13:=by simpa using g1
  have g2:¬e.1=14:=by simpa using g2
  have g3:¬e.1=15:=by simpa using g3
  have g4:¬e.1=16:=by simpa using g4
  rw[if_neg g,if_neg g1,if_neg g2,if_neg g3,if_neg g4,if_neg g,if_neg g1,if_neg g2,if_neg g3,if_neg g4];refine⟨_,hL.bD rfl,_,rfl,_,hB.av rfl,_,hL2.cell rfl,⟨(ae1 hA e.2.2.1).mono ?_⟩⟩;rintro e' w4 ⟨rfl,hT⟩;exact⟨_,rfl,rfl,(kK _ _ (kA _ _ hT)).drop.drop⟩
end
end Go.Dav
namespace Go.Dav
open Go.Proofs
theorem ke.at {p:Option Addr} {c n:Nat} {w:World} {F:Fp} (h:ke p c w F n) {i:Nat} (hi:i<n):∃a bi F1,p=some a/\w.cell? (a.add (i*1))=some (pt bi)/\lB bi w F1 ()/\∀w',aa (lB bi) w w' F1 ()->aa (ke p c) w w' F n:=by
 obtain⟨qs,hl,hS⟩:=h;have hi':i<qs.length:=by omega
 obtain⟨G1,h1,_⟩:=au.left hS;obtain⟨G2,h2,k2⟩:=au.right hS;obtain⟨a,ha,hc⟩:=h1.2.cells.bC (f:=fx) (l:=qs) hi';obtain⟨F1,q1,_,q2⟩:=Fam.at h2 hi';refine⟨a,qs[i].1,F1,ha,hc,q1,fun w' hT=>?_⟩;have hk:=k2 _ _ (q2 w' (qs[i].1,()) hT)
 have e:qs.set i (qs[i].1,())=qs:=by
  apply List.ext_getElem?;intro j;rw[List.getElem?_set];by_cases hj:i=j
  ·subst hj;simp[hi']
  ·simp[hj]
 simp only[e]at hk;obtain⟨F',u1,u2⟩:=hk;exact⟨F',⟨qs,hl,u1⟩,u2⟩
section
variable {b:Nat} {W w:World} {F:Fp} {k:K}
theorem acF (h:aa (KO b) W w F k) {i:Nat} (hi:i<k.n) (x:l6) (hx:0<=x.1.bB/\x.1.bB<4) (t:Int):Cx 123 #[pt b,I (i:Int),.agg (dJ x).toArray,I t] w fun e w'=>e=Z (.tuple #[])/\aa (KO b) W w' F k:=by
 refine aiG ?_;rw[t123];refine⟨fun w1 hN=>?_⟩;have hS:aa (au (KO b) (Lb w.heap.size 226)) W w1 F (k,dJ x):=h.add (hN.ae no) (Rw.new hN rfl) (fun i hi=>Nat.le_of_eq hi.symm);generalize w.heap.size=p at hS⊢;obtain⟨q,F1,_,hK,kK⟩:=KS.fix hS;obtain⟨F2,hA,kA⟩:=KF.co hK;refine⟨_,rfl,_,(KF.ai hK).av rfl,⟨(ZZ hA (i:Int)).mono ?_⟩⟩;rintro e w2 ⟨⟨n1,n2,n3,rfl⟩,hT⟩;replace hS:=kK _ _ (kA _ _ hT);obtain⟨q2,F3,_,hK2,kK2⟩:=KS.fix hS;obtain⟨F4,hG,kG⟩:=KF.DW hK2;obtain⟨a,bi,F5,hp,hc,hV,kV⟩:=hG.at hi;refine⟨_,_,_,rfl,_,rfl,_,_,_,(KF.ai hK2).av rfl,⟨by omega,(show((i:Nat):Int)<(k.n:Int) by omega)⟩,a,hp,_,hc,⟨(aaU hV n1 n2).mono ?_⟩⟩;rintro e w3 ⟨⟨m1,m2,rfl⟩,hT3⟩;replace hS:=kK2 _ _ (kG _ (kV _ hT3));have hL3:=bE hS;refine⟨_,_,rfl,_,hL3.cell rfl,fun g=>?_,fun g=>?_⟩
 ·intro w4 q1 q2' q3 q4;replace hS:=hS.ae (af.same no q1 q2' q3 q4);have hL4:=bE hS;obtain⟨q5,F6,_,hK5,kK5⟩:=KS.fix hS;have hB5:=KF.ai hK5;refine⟨_,rfl,_,hB5.av rfl,_,hL4.cell rfl,_,hL4.cell rfl,⟨(TC w4).mono ?_⟩⟩;rintro e w5 ⟨⟨pt,rfl,hW⟩,hU5⟩;have hL5:=hL4.ae hU5 (fun h=>h);have hB6:=hB5.ae hU5 (fun h=>h);obtain⟨F7,hM,kM⟩:=KF.me (hK5.ae hU5);obtain⟨wi,hwi,ewi⟩:∃wi:Nat,wi<4/\x.1.bB=(wi:Int):=⟨x.1.bB.toNat,by omega,by omega⟩;have hcell:=Gm hW hwi (j:=2) (by omega);refine⟨_,_,_,rfl,hL5.cell rfl,hL5.cell rfl,hB6.av rfl,⟨hx.1,(show x.1.bB<((4:Nat):Int) by omega)⟩,pt,rfl,_,by rw[ewi,Int.toNat_natCast];exact hcell,⟨(adA hM hi _ t _).mono ?_⟩⟩;rintro e w6 ⟨⟨mm,rfl⟩,hT6⟩;exact⟨_,rfl,rfl,(kK5 _ _ (kM _ hT6)).drop⟩
 ·obtain⟨q5,F6,_,hK5,kK5⟩:=KS.fix hS;obtain⟨F7,hM,kM⟩:=KF.me hK5;refine⟨_,rfl,_,(KF.ai hK5).av rfl,⟨(adB hM hi t m1).mono ?_⟩⟩;rintro e w6 ⟨⟨mm,rfl⟩,hT6⟩;exact⟨_,rfl,rfl,(kK5 _ _ (kM _ hT6)).drop⟩
theorem acR (h:aa (KO b) W w F k) (n:Int):Cx 63 #[pt b,I n] w fun e w'=>e=Z (I (Bc k n))/\aa (KO b) W w' F (lZ k n):=by
 obtain⟨q,hq⟩:=KO.fix h;have hB:=KF.ai hq;refine u63 ?_;rw[t63];unfold Bc lZ;refine⟨_,rfl,_,hB.cell rfl,⟨(Eb k.now n w).mono ?_⟩⟩;rintro e w1 ⟨rfl,rfl⟩;refine⟨_,_,rfl,fun g=>?_,fun g=>?_⟩
 ·have g:(aP k.now n).2≠0:=by simpa using g
  rw[if_neg g,if_neg g];exact⟨rfl,h⟩
 ·have g:(aP k.now n).2=0:=by simpa using g
  rw[if_pos g,if_pos g];refine⟨_,rfl,_,hB.cell rfl,⟨bA bf (M:=qR) (σ:=Nat) (fun i=>Du (some ⟨b,0,none⟩) n (aP k.now n).1 (k.n:Int) (i:Int)) (fun i w'=>i<=k.n/\aa (KO b) W w' F k) (fun i _=>k.n-i) 0 ⟨rfl,rfl,rfl,rfl,rfl,trivial⟩ ⟨Nat.zero_le _,h⟩ ?_⟩⟩;rintro i w2 ⟨hi,hT⟩;obtain⟨q2,hq2⟩:=KO.fix hT;have hB2:=KF.ai hq2;rw[ahr];refine⟨fun g1=>?_,fun g1=>aA.mk ?_⟩
  ·have g1:=of_decide_eq_true g1;have hi':i<k.n:=by omega
   obtain⟨F2,hA,kA⟩:=KF.co hq2;have hway:=hA.bB (i:Int);have hn64:=(KF.num hq2).2;refine⟨_,rfl,_,hB2.av rfl,⟨(Rl hA (i:Int)).mono ?_⟩⟩;rintro e w3 ⟨⟨n1,n2,rfl⟩,hU3⟩;refine⟨_,_,_,_,_,_,_,rfl,⟨fun w4 hN=>?_⟩⟩;have hS:aa (au (KO b) (Lb w3.heap.size 226)) W w4 F (k,_):=(hT.ae hU3).add (hN.ae no) (Rw.new hN rfl) (fun i hi=>Nat.le_of_eq hi.symm);generalize w3.heap.size=p at hS⊢;refine il (vs:=dJ (aJ k.co (i:Int),n1,n2)) hS (by rfl) fun w5 hS=>?_;have hL:=bE hS;refine⟨_,hL.cell rfl,fun g2=>⟨_,hL.cell rfl,_,hL.cell rfl,_,hL.cell rfl,_,hL.cell rfl,_,hL.cell rfl,_,hL.cell rfl,⟨(acF hS.drop hi' (aJ k.co (i:Int),n1,n2) hway n).mono ?_⟩⟩,fun _=>⟨i+1,⟨rfl,rfl,rfl,rfl,by rw[aD (by omega)];rfl,trivial⟩,⟨by omega,hS.drop⟩,by omega⟩⟩;rintro e w6 ⟨rfl,hT6⟩;exact⟨rfl,i+1,⟨rfl,rfl,rfl,rfl,by rw[aD (by omega)];rfl,trivial⟩,⟨by omega,hT6⟩,by omega⟩
  ·rw[ahq];refine⟨_,rfl,hB2.wr (k:=18) (by simp[jX]) fun w3 hW=>?_⟩;have h3:=KF.row hq2 (k.n,k.on,k.ac,(aP k.now n).1,k.lim) rfl hW;obtain⟨F3,hA3,kA3⟩:=KF.tm h3;refine⟨_,rfl,_,(KF.ai h3).av rfl,⟨(ahN hA3 _).mono ?_⟩⟩;rintro e w4 ⟨rfl,hT4⟩;exact⟨_,rfl,rfl,KF.loose (kA3 _ _ hT4)⟩
theorem acN (h:aa (KO b) W w F k) (lo hi:Int):Cx 167 #[pt b,I lo,I hi] w fun e w'=>e=Z (I (A5 lo hi))/\aa (KO b) W w' F k:=by
 obtain⟨q,hq⟩:=KO.fix h;have hB:=KF.ai hq;have hnum:=KF.num hq;refine ajp ?_;rw[t167];refine⟨_,rfl,q.gp,k.n,q.gc,hB.av rfl,⟨bA bf (M:=uJ) (σ:=Nat) (fun i=>CU lo hi (if i=0 then 0 else A5 lo hi) q.gp k.n q.gc (k.n:Int) (i:Int)) (fun i w'=>i<=k.n/\aa (KF b q) W w' F k) (fun i _=>k.n-i) 0 ⟨rfl,rfl,rfl,rfl,rfl,rfl,trivial⟩ ⟨Nat.zero_le _,hq⟩ ?_⟩⟩;rintro i w1 ⟨hi',hT⟩;rw[agw];refine⟨fun g=>?_,fun g=>?_⟩
 ·have g:=of_decide_eq_true g;have hlt:i<k.n:=by omega
  obtain⟨F1,hG,kG⟩:=KF.DW hT;obtain⟨a,bi,F5,hp,hc,hV,kV⟩:=hG.at hlt;refine⟨⟨by omega,by omega⟩,a,hp,_,hc,⟨(abh hV lo hi).mono ?_⟩⟩;rintro e w2 ⟨rfl,hT2⟩;exact⟨_,rfl,i+1,⟨rfl,rfl,by rw[if_neg (Nat.succ_ne_zero i)];rfl,rfl,rfl,by rw[aD (by omega)];rfl,trivial⟩,⟨by omega,kG _ (kV _ hT2)⟩,by omega⟩
 ·have g:=of_decide_eq_false g;rw[if_neg (by omega)];exact⟨rfl,KF.loose hT⟩
end
end Go.Dav
namespace Go.Dav
abbrev Rd (l:Nat):Fence:=Fence.wide.inRound l
theorem Zt {l n:Nat} {P:Program} {f:FuncId} {args:Array Value} {w:World} {R:Ending->World->Prop} (h:Calls P f args w R):CallsIn (Rd l) n P f args w R:=(callsIn_wide (n:=n)).2 h
def rF (o:Oper):Bool:=match o.op with
 | .defer _=>false
 | _=>true
theorem aea {o:Oper} (h:rF o=true):∀c,o.op≠.defer c:=by
 intro c e;unfold rF at h;rw[e]at h;cases h
theorem afc {l n:Nat} {P:Program} {row:String} {args:Array Value} {w:World} {R:Value->World->Prop} (h:Rows P row args w R):RowsIn (Rd l) n P row args w R:=fun c cs _=>
 let ⟨v,w',r,s⟩:=h c cs
 ⟨v,w',r,stepsIn_wide.2 s⟩
section
variable {l n:Nat} {P:Program}
theorem V0 {o:Oper} {a:Act} {w:World} {next next':Act->World->Prop} {Q:Exit->Act->World->Prop} (hd:rF o=true) (hn:∀a w,next a w->next' a w) (h:o.wp P a w next Q):o.wpIn (Rd l) n P a w next' Q:=by
 refine⟨fun _ _=>trivial,?_⟩;rw[Oper.semAt_plain (Rd l) _ _ (aea hd)];unfold Oper.wp at h;generalize (execOp a.eval o).run P w=r at h
 cases r with
 | ok x w'=>
  cases x<;>simp only[Oper.upon,Oper.uponIn]at h⊢<;>
   first
    | exact hn _ _ h
    | exact⟨fun hh=>absurd (show false=true from hh) (by decide),Zt (Calls.mono h fun e w'' he=>by cases e<;>first|exact hn _ _ he|exact he)⟩
    | exact⟨fun hh=>absurd (show false=true from hh) (by decide),afc (Rows.mono h fun v w'' he=>hn _ _ he)⟩
    | exact h.elim
 | halt x w'=>cases x<;>simp only[Oper.upon,Oper.uponIn]at h⊢<;>exact h
theorem El {ops:Array Oper} {Q:Exit->Act->World->Prop} (hQ:¬LetsOut Q):∀(os:List Oper) (a:Act) (w:World),os.all rF=true->wpList P ops Q os a w->wpListIn (Rd l) n P ops Q os a w
 | [],a,w,_,h=>h
 | o::os,a,w,hd,h=>by
  simp only[List.all_cons,Bool.and_eq_true]at hd;unfold wpList at h;unfold wpListIn;split
  ·rename_i hw;rw[if_pos hw]at h;rcases h with h|h
   ·exact V0 hd.1 (fun a w k=>El hQ os a w hd.2 k) h
   ·exact absurd h.2 hQ
  ·rename_i hw;rw[if_neg hw]at h;exact⟨fun _ _=>trivial,El hQ os _ _ hd.2 h⟩
theorem xF {ops:Array Oper} {Q:Exit->Act->World->Prop} {md:Region.Mode} (hQ:¬LetsOut Q) (hd:ops.toList.all rF=true):∀(fuel:Nat) (b:Array Bool) (a:Act) (w:World),wpAny P md ops Q fuel b a w->wpAnyIn (Rd l) n P md ops Q fuel b a w
 | 0,b,a,w,h=>h
 | fuel+1,b,a,w,h=>by
  refine⟨h.1,fun i hi=>?_⟩;have hk:=h.2 i hi;unfold wpOp at hk;unfold wpOpIn;split
  ·rename_i ho;rw[ho]at hk;exact xF hQ hd fuel _ _ _ hk
  ·rename_i o ho;rw[ho]at hk;simp only at hk
   have hdo:rF o=true:=List.all_eq_true.1 hd o (by
    rw[<-Array.getElem?_toList]at ho;exact List.mem_of_getElem? ho)
   split
   ·rename_i hw;rw[if_pos hw]at hk;rcases hk with hk|hk
    ·exact V0 hdo (fun a w k=>xF hQ hd fuel _ a w k) hk
    ·exact absurd hk.2 hQ
   ·rename_i hw;rw[if_neg hw]at hk;exact⟨fun _ _=>trivial,xF hQ hd fuel _ _ _ hk⟩
end
theorem U3 {N:Nat} {K:dG}:¬LetsOut (Ek N K):=fun⟨_,_,h⟩=>h
def lu:Mt->Code->Bool
 | _,.skip=>true
 | M,.region id ops draw=>ops.toList.all rF&&(!draw||(wv M.alts id).isNone)&&!M.ex
 | M,.seq a b=>lu M a&&lu M b
 | M,.cond _ a b=>lu M a&&lu M b
 | M,.block _ c=>lu M c
 | _,.exit _=>true
 | _,.ret=>true
 | _,_=>false
theorem pV {P:Program} {M:Mt} (hP:fF P=true) {l n:Nat}:∀(c:Code) (E:Env) (w:World) (K:dG),lu M c=true->den P M c E w K->∀a,aX M.N E a->c.wpIn (Rd l) n P (Ek M.N K) a w
 | .skip,E,w,K,_,h,a,ha=>wpIn_skip ⟨E,ha,h⟩
 | .region id ops draw,E,w,K,hs,h,a,ha=>by
  simp only[lu,Bool.and_eq_true]at hs;obtain⟨⟨hd,ht⟩,hx⟩:=hs
  cases draw with
  | false=>
   exact wpIn_region_list (El U3 _ _ _ hd (AY hP rfl (K:=fun E' w'=>K .dV (E'.keep (jZ M.keep id)) w') (fun E' a' w' ha' hk=>⟨_,ha'.keep _,hk⟩) _ _ _ _ ha h))
  | true=>
   have hm:P.follows .mixedOrders=true:=by
    simp only[fF,Bool.and_eq_true]at hP;exact hP.2
   simp only[den]at h
   have ht':wv M.alts id=none:=by
    cases hh:wv M.alts id with
    | none=>rfl
    | some t=>rw[hh]at ht;cases ht
   have hx':M.ex=false:=by simpa using hx
   rw[ht',hx']at h
   exact wpIn_region_any hm (xF U3 hd _ _ _ _ (drawTQ_any hP rfl (K:=fun E' w'=>K .dV (E'.keep (jZ M.keep id)) w') ha (fun E' a' w' ha' hk=>⟨_,ha'.keep _,hk⟩) h))
 | .seq x y,E,w,K,hs,h,a,ha=>by
  simp only[lu,Bool.and_eq_true]at hs;refine wpIn_seq (wpIn_mono (pV hP x E w _ hs.1 h a ha) (fun ex a' w' hl=>?_))
  cases ex with
  | normal=>
   obtain⟨E',h1,h2⟩:=hl;simp only[pk,oH]at h2;split at h2
   ·exact pV hP y _ w' K hs.2 h2.out a' (h1.keep _)
   ·exact pV hP y E' w' K hs.2 h2 a' h1
  | exit n=>exact hl
  | ret=>exact hl
  | _=>exact hl.elim
 | .cond c x y,E,w,K,hs,h,a,ha=>by
  simp only[lu,Bool.and_eq_true]at hs;obtain⟨b,hb,h⟩:=Ry h;refine wpIn_cond (ha.ev c _ hb) ?_
  have hr:aX M.N (tU M E c b) a:=by
   unfold tU;split
   ·exact ha
   ·split
    ·exact ha.WV _ b (by simpa [ba]using hb)
    ·exact ha
  cases b with
  | true=>exact pV hP x _ w K hs.1 h a hr
  | false=>exact pV hP y _ w K hs.2 h a hr
 | .block id c,E,w,K,hs,h,a,ha=>by
  refine wpIn_block (wpIn_mono (pV hP c E w _ hs h a ha) (fun ex a' w' hl=>?_))
  cases ex with
  | normal=>obtain⟨E',h1,h2⟩:=hl;exact⟨_,h1.keep _,h2⟩
  | exit n=>
   obtain⟨E',h1,h2⟩:=hl;simp only[Exit.inBlock];simp only[a7]at h2;by_cases hn:n=id
   ·subst hn;rw[if_pos rfl];rw[Nat.beq_refl]at h2;exact⟨_,h1.keep _,h2⟩
   ·rw[if_neg hn]
    have hb:Nat.beq n id=false:=by
     cases hb:Nat.beq n id with
     | false=>rfl
     | true=>exact absurd (Nat.eq_of_beq_eq_true hb) hn
    rw[hb]at h2
    exact⟨E',h1,h2⟩
  | ret=>exact hl
  | _=>exact hl.elim
 | .exit id,E,w,K,_,h,a,ha=>wpIn_exit ⟨E,ha,h⟩
 | .ret,E,w,K,_,h,a,ha=>wpIn_ret ⟨E,ha,h⟩
 | .loop c,E,w,K,hs,h,a,ha=>by cases hs
 | .rangeFunc f ps x y,E,w,K,hs,h,a,ha=>by cases hs
 | .scope c,E,w,K,hs,h,a,ha=>by cases hs
 | .label l,E,w,K,hs,h,a,ha=>by cases hs
 | .goto l,E,w,K,hs,h,a,ha=>by cases hs
 | .refuse s,E,w,K,hs,h,a,ha=>by cases hs
def BG (B:Nat) (W W':World):Prop:=W.heap.size<=W'.heap.size/\∀i,B<=i->i<W.heap.size->W'.heap[i]?=W.heap[i]?
theorem amY {P:Program} {M:Mt} (hP:fF P=true) {g:Operand} {p1 p2:Tmp} {assign body:Code} {Q:Exit->Act->World->Prop} {E:Env} {a:Act} (ha:aX M.N E a) {w:World} {gf:Nat} {lb:Array Value} {m:Nat}
  (hg:a.eval g=.func (.func gf) #[] lb) (eg:∀args w,(callFunc gf args).run P w=.ok (.enter gf args) w) {α:Type} (enc:α->Value×Value) (I Ix:List α->World->Prop) (Sx:List α->α->Prop) (Fin:List α->Prop) (E1:α->Env)
  (hp1:p1<M.N) (hp2:p2<M.N) (hsA:lu M assign=true) (hsB:lu M body=true)
  (hA:∀x W,den P M assign ((E.put p1 (.v (enc x).1)).put p2 (.v (enc x).2)) W (fun ex E' W'=>match ex with|.dV=>W'=W/\E'=E1 x|_=>False))
  (hB:∀pre x W,I pre W->Sx pre x->w.heap.size+2<=W.heap.size->den P M body (E1 x) W (fun ex E' W'=>match ex with|.dV=>I (pre++[x]) W'/\BG w.heap.size W W'|.ret=>Ix (pre++[x]) W'/\BG w.heap.size W W'|.exit _=>False))
  (hI:∀pre W o,I pre W->I pre (W.putObj (w.heap.size+1) o)) (hIx:∀pre W o,Ix pre W->Ix pre (W.putObj (w.heap.size+1) o))
  (hI0:∀r,I [] ((w.alloc (.deferred (some []))).alloc (.loop r)))
  (hseq:∀(J Jx:List α->World->Prop) (W:World),(∀pre W,J pre W->I pre W)->(∀pre x W1,J pre W1->Sx pre x->YieldAt Fence.wide m P (w.heap.size+1) #[(enc x).1,(enc x).2] W1 fun e W'=>(e=.returned (.bool true)/\J (pre++[x]) W')∨(e=.returned (.bool false)/\Jx (pre++[x]) W'))->J [] W->
   CallsIn Fence.wide (m+1) P gf (#[.func (.yield (w.heap.size+1)) #[] #[]]++lb) W fun e W'=>(∃v,e=.returned v)/\((∃xs,Fin xs/\J xs W')∨∃pre,Jx pre W'))
  (hdone:∀xs W,Fin xs->I xs W->W.heap[w.heap.size]?=some (.deferred (some []))->Q .normal {a with defers:=[{target:=.collected w.heap.size,args:=#[]}]} W)
  (hstop:∀pre W,Ix pre W->W.heap[w.heap.size]?=some (.deferred (some []))->Q .ret {a with defers:=[{target:=.collected w.heap.size,args:=#[]}]} W) :
  (Code.rangeFunc g #[p1,p2] assign body).wpIn Fence.wide (m+2) P Q a w:=by
 refine wpIn_rangeFunc fun fn hfn=>?_;obtain⟨rec,hrec⟩:∃rec:LoopState->Option Code->Loop,rec=fun st pe=>{state:=st,pending:=pe,fn,tmps:=a.tmps,params:=#[p1,p2],assign,body,defers:=w.heap.size}:=⟨_,rfl⟩;obtain⟨W1,hW1⟩:∃W1,(w.alloc (.deferred (some []))).alloc (.loop (rec .ready none))=W1:=⟨_,rfl⟩
 have hL1:W1.heap[w.heap.size+1]?=some (.loop (rec .ready none)):=by
  rw[<-hW1];have:=World.alloc_heap_new (w.alloc (.deferred (some []))) (.loop (rec .ready none));rwa [World.size_alloc]at this
 have hK1:W1.heap[w.heap.size]?=some (.deferred (some [])):=by
  rw[<-hW1];have h2:=World.alloc_heap_new w (.deferred (some []));have h3:w.heap.size<(w.alloc (.deferred (some []))).heap.size:=by rw[World.size_alloc];omega
  rw[<-h2];simp only[World.alloc,Array.getElem?_push];rw[if_neg];simp only[World.alloc,Array.size_push]at h3⊢;omega
 have hI1:I [] W1:=by rw[<-hW1];exact hI0 _
 refine⟨w.heap.size+1,[{target:=.collected w.heap.size,args:=#[]}],W1,{target:=.fn (.func gf) lb,args:=#[.func (.yield (w.heap.size+1)) #[] #[]]},W1,gf,#[.func (.yield (w.heap.size+1)) #[] #[]]++lb,W1,?_,?_,?_,?_,fun hh=>absurd (show false=true from hh) (by decide),?_⟩
 ·rw[<-hW1,hrec];exact run_enterLoop_outer _ _ _ _ _
 ·simp only[resolve,hg];simp[go_sem]
 ·intro f' hf';exact trivial
 ·simp[invoke,go_sem,eg]
 ·refine CallsIn.mono (hseq (fun pre W=>I pre W/\W.heap[w.heap.size+1]?=some (.loop (rec .ready none))/\W.heap[w.heap.size]?=some (.deferred (some [])))
   (fun pre W=>Ix pre W/\W.heap[w.heap.size+1]?=some (.loop (rec .done (some .ret)))/\W.heap[w.heap.size]?=some (.deferred (some []))) W1 (fun _ _ h=>h.1) ?_ ⟨hI1,hL1,hK1⟩) ?_
  ·rintro pre x W ⟨hi,hl,hk⟩ hx;have hlt:w.heap.size+1<W.heap.size:=(Array.getElem?_eq_some_iff.1 hl).1;have hy:=run_yield (P:=P) (args:=#[(enc x).1,(enc x).2]) hl (by rw[hrec];rfl);refine⟨_,_,_,_,hy,?_⟩;rw[hrec]at hl⊢;refine roundIn_of_wpIn hfn ?_
   have ha1:aX M.N ((E.put p1 (.v (enc x).1)).put p2 (.v (enc x).2)) {tmps:=((#[p1,p2].zip #[(enc x).1,(enc x).2]).foldl (fun t (p:Nat×Value)=>t.setIfInBounds p.1 p.2) a.tmps),defers:=[]}:=by
    have h1:=(ha.put p1 hp1 (.v (enc x).1)).put p2 hp2 (.v (enc x).2);have h2:=h1.gx
    have e:((a.put (some p1) (enc x).1).put (some p2) (enc x).2)={tmps:=((#[p1,p2].zip #[(enc x).1,(enc x).2]).foldl (fun t (p:Nat×Value)=>t.setIfInBounds p.1 p.2) a.tmps),defers:=[]}:=by
     have:=ha.gx;simp[Act.put,this]
    rw[<-e];exact h1
   refine wpIn_mono (pV hP assign _ W _ hsA (hA x W) _ ha1) ?_;rintro ex a1 w1 hl1
   cases ex with
   | normal=>
    obtain⟨E',ha2,rfl,rfl⟩:=hl1;have hb:=run_beginRound (P:=P) hl rfl;refine⟨_,hb,?_⟩;have hl2:(w1.putObj (w.heap.size+1) (.loop {rec .ready none with state:=.busy})).heap[w.heap.size+1]?=some (.loop {rec .ready none with state:=.busy}):=World.putObj_heap_same hlt;have hk2:(w1.putObj (w.heap.size+1) (.loop {rec .ready none with state:=.busy})).heap[w.heap.size]?=some (.deferred (some [])):=(World.putObj_heap_other (by omega)).trans hk;rw[hrec]at hl2 hk2;have hsz:(w1.putObj (w.heap.size+1) (.loop {rec .ready none with state:=.busy})).heap.size=w1.heap.size:=by simp[World.putObj]
    rw[hrec]at hsz;refine wpIn_mono (pV hP body _ _ _ hsB (hB pre x _ (hI _ _ _ hi) hx (by rw[hsz];omega)) _ ha2) ?_
    have fin:∀(jump:Option Code) (W3:World),BG w.heap.size (w1.putObj (w.heap.size+1) (.loop {rec .ready none with state:=.busy})) W3->
      (Instr.endRound (w.heap.size+1) jump).run P W3=.ok (.bool jump.isNone) (W3.putObj (w.heap.size+1) (.loop (rec (if jump.isNone then .ready else .done) jump)))/\
      (W3.putObj (w.heap.size+1) (.loop (rec (if jump.isNone then .ready else .done) jump))).heap[w.heap.size+1]?=some (.loop (rec (if jump.isNone then .ready else .done) jump))/\
      (W3.putObj (w.heap.size+1) (.loop (rec (if jump.isNone then .ready else .done) jump))).heap[w.heap.size]?=some (.deferred (some [])):=fun jump W3 hs3=>by
     rw[hrec]at hs3⊢;have hl3:=(hs3.2 (w.heap.size+1) (by omega) (by rw[hsz];omega)).trans hl2;have hk3:=(hs3.2 w.heap.size (Nat.le_refl _) (by rw[hsz];omega)).trans hk2;have:=run_endRound (P:=P) jump hl3;exact⟨this,World.putObj_heap_same (Array.getElem?_eq_some_iff.1 hl3).1,(World.putObj_heap_other (by omega)).trans hk3⟩
    rintro ex a3 W3 hl3
    cases ex with
    | normal=>
     obtain⟨_,_,hi3,hs3⟩:=hl3;obtain⟨e1,e2,e3⟩:=fin none W3 (by rw[hrec];exact hs3)
     exact⟨_,_,e1,.inl ⟨rfl,hI _ _ _ hi3,by rw[e2,hrec];rfl,e3⟩⟩
    | ret=>
     obtain⟨_,_,hi3,hs3⟩:=hl3;obtain⟨e1,e2,e3⟩:=fin (some .ret) W3 (by rw[hrec];exact hs3)
     exact⟨_,_,e1,.inr ⟨rfl,hIx _ _ _ hi3,by rw[e2,hrec];rfl,e3⟩⟩
    | exit n=>obtain⟨_,_,hf⟩:=hl3;exact hf.elim
    | _=>exact hl3.elim
   | exit n=>obtain⟨_,_,hf⟩:=hl1;exact hf.elim
   | ret=>obtain⟨_,_,hf⟩:=hl1;exact hf.elim
   | _=>exact hl1.elim
  ·have hnod:=ha.gx;rintro e W2 ⟨⟨v,rfl⟩,(⟨xs,hS,hi,hl,hk⟩|⟨pre,hi,hl,hk⟩)⟩
   ·refine⟨none,_,by have:=run_endLoop (P:=P) hl (by rw[hrec];simp);rw[hrec]at this;exact this,?_⟩;have:=hdone xs _ hS (hI _ _ (.loop {rec .ready none with state:=.exhausted}) hi) ((World.putObj_heap_other (by omega)).trans hk);rw[hrec]at this;simpa [hnod]using this
   ·refine⟨some .ret,_,by have:=run_endLoop (P:=P) hl (by rw[hrec];simp);rw[hrec]at this;exact this,?_⟩;refine wpIn_ret ?_;have:=hstop pre _ (hIx _ _ (.loop {rec .done (some .ret)with state:=.exhausted}) hi) ((World.putObj_heap_other (by omega)).trans hk);rw[hrec]at this;simpa [hnod]using this
theorem Fk {P:Program} {N:Nat} {ops:Array Oper} {l:List Oper} {d:List Deferred} (hP:fF P=true) (hl:ops.toList=l) {Q:Exit->Act->World->Prop} {K:Env->World->Prop}
  (hQ:∀E a w,aX N E a->K E w->Q .normal {a with defers:=d} w):∀(os:List Oper) (E:Env) (a:Act) (w:World),aX N E a->ud P N l os E w K->wpList P ops Q os {a with defers:=d} w
 | [],E,a,w,ha,h=>hQ E a w ha h
 | o::os,E,a,w,ha,h=>by
  obtain⟨E',hs,h⟩:=zL hl h;have ha':=ha.same hs;have hput:∀(dst:Option Tmp) (v:Value),({a with defers:=d}:Act).put dst v={a.put dst v with defers:=d}:=fun dst v=>by cases dst<;>rfl
  unfold wpList;rcases h with⟨h,hw⟩|⟨h,hw⟩
  ·have hw:=hw a (ha.zJ l o);unfold wantedAt at hw;rw[if_pos hw];refine .inl (VY hP h {a with defers:=d} (ha'.reads o) _ Q (fun s w' hp=>?_));obtain⟨E2,ha2,hp⟩:=AI hp ha';rw[hput];exact Fk hP hl hQ os E2 _ w' ha2 hp
  ·have hw:=hw a (ha.zJ l o);unfold wantedAt at hw;rw[if_neg (by rw[hw];simp)];obtain⟨E2,ha2,hp⟩:=AI h ha';rw[hput];exact Fk hP hl hQ os E2 _ w ha2 hp
theorem Yb {N:Nat} {fn:Func} (hN:fn.ntmps=N) {args:List Value} (hA:args.length<=N):aX N (aj 0 args) {tmps:=args.toArray++Array.replicate (fn.ntmps-args.toArray.size) undef,defers:=[]}:=by
 refine⟨by simp[hN];omega,rfl,fun t x hx=>?_⟩;obtain⟨_,h2⟩:=BN args 0 t x hx;simp only[Nat.sub_zero]at h2;have hlt:t<args.length:=(List.getElem?_eq_some_iff.1 h2).1;rw[Array.getElem?_append_left (by simpa using hlt)];simpa using h2
theorem af.AH (W:World) (l:Nat) (o:Obj):af (fun i=>i=l) W (W.putObj l o):=
 ⟨by simp[World.putObj],rfl,rfl,rfl,fun i hi hn=>World.putObj_heap_other (fun e=>hn e)⟩
end Go.Dav
namespace Go.Dav
open Go.Proofs
def AE (Z:Env->World->Prop) (K:dG):dG:=fun ex E w=>match ex with
 | .dV=>Z E w
 | .ret=>K .ret E w
 | .exit n=>K (.exit n) E w
noncomputable def BR:Code:=kx.sr.sr.sr.sr.sl.sl
noncomputable def BP:Code:=match M3 with|.rangeFunc _ _ a _=>a|c=>c
noncomputable def xH:Code:=match M3 with|.rangeFunc _ _ _ b=>b|c=>c
noncomputable def xJ:Code:=YU
noncomputable def vn:List Oper:=match xJ with|.seq (.region _ ops _) _=>ops.toList|_=>[]
noncomputable def BQ:Code:=.seq kx.sl (.seq kx.sr.sl (.seq kx.sr.sr.sl (.seq kx.sr.sr.sr.sl BR)))
def su:Mt:={iG with keep:=iG.keep.map fun x=>if x.1=6 then(6,[1,2,5,8])else x}
theorem Yx:kx=.seq kx.sl (.seq kx.sr.sl (.seq kx.sr.sr.sl (.seq kx.sr.sr.sr.sl (.seq (.seq BR (.block 0 (.rangeFunc (.tmp 60) #[61,62] BP xH))) xJ)))):=by kernel_rfl
theorem Yv:xJ=.seq (.region 13 vn.toArray false) .ret:=by kernel_rfl
theorem LO:lu su BP=true/\lu su xH=true:=⟨by kernel_rfl,by kernel_rfl⟩
theorem tbp (p0_k:Option Addr) (w:World) (Z:Env->World->Prop) (R:Ending->World->Prop):den Tryz.prog iG BQ (aj 0 [(Value.pointer p0_k)]) w (AE Z (pf Tryz.prog Tryz.f168.results.toList R)) =
(ay w [Value.pointer p0_k] 23 fun p w'=>ay w' [Value.int IntKind.i64 0] 3 fun p_1 w'=>∀(w'_1:World),World.heap w'_1=World.heap w'->World.os w'_1=World.os w'->World.tape w'_1=World.tape w'->World.output w'_1=World.output w'->∃p_2,World.cell? w'_1 p=some (Value.pointer p_2)/\∃a,p_2=some a/\∃p_3,World.cell? w'_1 (Addr.add (Addr.add a 0) 1)=some (Value.pointer p_3)/\∃p_4,World.cell? w'_1 p=some (Value.pointer p_4)/\∃a,p_4=some a/\∃n,World.cell? w'_1 (Addr.add a 17)=some (Value.int IntKind.u64 n)/\Call Tryz.prog 267 [Value.pointer p_3,Value.int IntKind.u64 n] w'_1 fun e w'=>∃n n_1,e=Ending.returned (Value.tuple #[Value.int IntKind.i64 n,Value.int IntKind.i64 n_1])/\∀(w'_2:World),World.heap w'_2=World.heap w'->World.os w'_2=World.os w'->World.tape w'_2=World.tape w'->World.output w'_2=World.output w'->∃p_5,World.cell? w'_2 p=some (Value.pointer p_5)/\∃a,p_5=some a/\∃p_6,World.cell? w'_2 (Addr.add (Addr.add a 0) 1)=some (Value.pointer p_6)/\∃p_7,World.cell? w'_2 p=some (Value.pointer p_7)/\∃a_1,p_7=some a_1/\∃n_2,World.cell? w'_2 (Addr.add a_1 17)=some (Value.int IntKind.u64 n_2)/\(Call Tryz.prog 268 [Value.pointer p_6,Value.int IntKind.u64 n_2] w'_2 fun e w'=>∃n_3 n_4,e=Ending.returned (Value.tuple #[Value.int IntKind.i64 n_3,Value.int IntKind.i64 n_4])/\ay w' [Value.int IntKind.i64 (0:Int)] 3 fun p_8 w'=>World.cell? w' (Addr.add a_1 17)=some (Value.int IntKind.u64 n_2)/\World.cell? w' p=some (Value.pointer p_7)/\World.cell? w' (Addr.add (Addr.add a 0) 1)=some (Value.pointer p_6)/\World.cell? w' p=some (Value.pointer p_5)/\Wr w' p_8 [Value.int IntKind.i64 n_3] fun w'=>∀(w'_3:World),World.heap w'_3=World.heap w'->World.os w'_3=World.os w'->World.tape w'_3=World.tape w'->World.output w'_3=World.output w'->∃p_9,World.cell? w'_3 p=some (Value.pointer p_9)/\∃a,p_9=some a/\∃p_10,World.cell? w'_3 (Addr.add (Addr.add a 0) 1)=some (Value.pointer p_10)/\∃p_11,World.cell? w'_3 p=some (Value.pointer p_11)/\∃a,p_11=some a/\∃p_12,World.cell? w'_3 (Addr.add (Addr.add a 0) 1)=some (Value.pointer p_12)/\∃n_5,World.cell? w'_3 p_8=some (Value.int IntKind.i64 n_5)/\Call Tryz.prog 14 [Value.pointer p_10,Value.int IntKind.i64 n] w'_3 fun e w'=>∃n_6,e=Ending.returned (Value.int IntKind.i64 n_6)/\World.cell? w' p_8=some (Value.int IntKind.i64 n_5)/\World.cell? w' (Addr.add (Addr.add a 0) 1)=some (Value.pointer p_12)/\World.cell? w' p=some (Value.pointer p_11)/\Call Tryz.prog 14 [Value.pointer p_12,Value.int IntKind.i64 n_5] w' fun e w'=>∃n_7,e=Ending.returned (Value.int IntKind.i64 n_7)/\(decide (IntKind.wrap IntKind.i64 (n_6-n_7)<(2:Int))=true->Wr w' p_1 [Value.int IntKind.i64 (0:Int)] fun w'=>∃n,World.cell? w' p_1=some (Value.int IntKind.i64 n)/\R (Ending.returned (Value.int IntKind.i64 n)) w')/\(decide (IntKind.wrap IntKind.i64 (n_6-n_7)<(2:Int))=false->∃p_13,World.cell? w' p=some (Value.pointer p_13)/\∃a,p_13=some a/\∃p_14,World.cell? w' (Addr.add (Addr.add a 0) 1)=some (Value.pointer p_14)/\Call Tryz.prog 88 [Value.pointer p_14,Value.int IntKind.i64 n] w' fun e w'=>∃p_15 n c,e=Ending.returned (Value.slice p_15 n c)/\Call Tryz.prog 269 [Value.slice p_15 n c] w' fun e w'=>∃v,e=Ending.returned v/\Z [(1,SV.v (Value.pointer (some p))),(2,SV.v (Value.pointer (some p_1))),(5,SV.v (Value.pointer (some p_8))),(8,SV.un),(60,SV.v v),(62,SV.un)] w'))/\ay w'_2 [Value.int IntKind.i64 0] 3 fun p_8 w'=>World.cell? w' (Addr.add a_1 17)=some (Value.int IntKind.u64 n_2)/\World.cell? w' p=some (Value.pointer p_7)/\World.cell? w' (Addr.add (Addr.add a 0) 1)=some (Value.pointer p_6)/\World.cell? w' p=some (Value.pointer p_5)/\Call Tryz.prog 268 [Value.pointer p_6,Value.int IntKind.u64 n_2] w' fun e w'=>∃n_3 n_4,e=Ending.returned (Value.tuple #[Value.int IntKind.i64 n_3,Value.int IntKind.i64 n_4])/\Wr w' p_8 [Value.int IntKind.i64 n_3] fun w'=>∀(w'_3:World),World.heap w'_3=World.heap w'->World.os w'_3=World.os w'->World.tape w'_3=World.tape w'->World.output w'_3=World.output w'->∃p_9,World.cell? w'_3 p=some (Value.pointer p_9)/\∃a,p_9=some a/\∃p_10,World.cell? w'_3 (Addr.add (Addr.add a 0) 1)=some (Value.pointer p_10)/\∃p_11,World.cell? w'_3 p=some (Value.pointer p_11)/\∃a,p_11=some a/\∃p_12,World.cell? w'_3 (Addr.add (Addr.add a 0) 1)=some (Value.pointer p_12)/\∃n_5,World.cell? w'_3 p_8=some (Value.int IntKind.i64 n_5)/\Call Tryz.prog 14 [Value.pointer p_10,Value.int IntKind.i64 n] w'_3 fun e w'=>∃n_6,e=Ending.returned (Value.int IntKind.i64 n_6)/\World.cell? w' p_8=some (Value.int IntKind.i64 n_5)/\World.cell? w' (Addr.add (Addr.add a 0) 1)=some (Value.pointer p_12)/\World.cell? w' p=some (Value.pointer p_11)/\Call Tryz.prog 14 [Value.pointer p_12,Value.int IntKind.i64 n_5] w' fun e w'=>∃n_7,e=Ending.returned (Value.int IntKind.i64 n_7)/\(decide (IntKind.wrap IntKind.i64 (n_6-n_7)<(2:Int))=true->Wr w' p_1 [Value.int IntKind.i64 (0:Int)] fun w'=>∃n,World.cell? w' p_1=some (Value.int IntKind.i64 n)/\R (Ending.returned (Value.int IntKind.i64 n)) w')/\(decide (IntKind.wrap IntKind.i64 (n_6-n_7)<(2:Int))=false->∃p_13,World.cell? w' p=some (Value.pointer p_13)/\∃a,p_13=some a/\∃p_14,World.cell? w' (Addr.add (Addr.add a 0) 1)=some (Value.pointer p_14)/\Call Tryz.prog 88 [Value.pointer p_14,Value.int IntKind.i64 n] w' fun e w'=>∃p_15 n c,e=Ending.returned (Value.slice p_15 n c)/\Call Tryz.prog 269 [Value.slice p_15 n c] w' fun e w'=>∃v,e=Ending.returned v/\Z [(1,SV.v (Value.pointer (some p))),(2,SV.v (Value.pointer (some p_1))),(5,SV.v (Value.pointer (some p_8))),(8,SV.un),(60,SV.v v),(62,SV.un)] w')):=by kernel_rfl
theorem tba (p1 p2 p5:Addr) (v:Value) (i x:Int) (w:World) (K:dG):den Tryz.prog su BP ((Env.put ([(1,SV.v (Value.pointer (some p1))),(2,SV.v (Value.pointer (some p2))),(5,SV.v (Value.pointer (some p5))),(8,SV.un),(60,SV.v v),(62,SV.un)]:Env) 61 (SV.v (Value.int IntKind.i64 i))).put 62 (SV.v (Value.int IntKind.i64 x))) w K =
(K Ex.dV [(1,SV.v (Value.pointer (some p1))),(2,SV.v (Value.pointer (some p2))),(5,SV.v (Value.pointer (some p5))),(8,SV.v (Value.int IntKind.i64 x))] w):=by kernel_rfl
theorem tbr (p2:Addr) (w:World) (R:Ending->World->Prop):pf Tryz.prog Tryz.f168.results.toList R Ex.ret [(2,SV.v (Value.pointer (some p2)))] w =
(∃n,World.cell? w p2=some (Value.int IntKind.i64 n)/\R (Ending.returned (Value.int IntKind.i64 n)) w):=by kernel_rfl
theorem tbt (p2:Addr) (w:World) (K:Env->World->Prop):ud Tryz.prog iG.N vn vn [(2,SV.v (Value.pointer (some p2)))] w K =
(Wr w p2 [Value.int IntKind.i64 0] fun w'=>K [(2,SV.v (Value.pointer (some p2)))] w'):=by kernel_rfl
theorem tbb (p1 p2 p5:Addr) (x:Int) (w:World) (K:dG):den Tryz.prog su xH [(1,SV.v (Value.pointer (some p1))),(2,SV.v (Value.pointer (some p2))),(5,SV.v (Value.pointer (some p5))),(8,SV.v (Value.int IntKind.i64 x))] w K =
(∃p,World.cell? w p1=some (Value.pointer p)/\∃a,p=some a/\∃p,World.cell? w (Addr.add (Addr.add a 0) 0)=some (Value.pointer p)/\Call Tryz.prog 127 [Value.pointer p,Value.int IntKind.i64 x] w fun e w'=>∃n n_1 n_2 b b_1 n_3 n_4,e=Ending.returned (Value.tuple #[Value.agg #[Value.int IntKind.i64 n,Value.int IntKind.u64 n_1,Value.int IntKind.i64 n_2,Value.bool b,Value.bool b_1,Value.int IntKind.i64 n_3],Value.int IntKind.i64 n_4])/\ay w' [Value.int IntKind.i64 0,Value.int IntKind.u64 0,Value.int IntKind.i64 0,Value.bool false,Value.bool false,Value.int IntKind.i64 0] 250 fun p w'=>Wr w' p [Value.int IntKind.i64 n,Value.int IntKind.u64 n_1,Value.int IntKind.i64 n_2,Value.bool b,Value.bool b_1,Value.int IntKind.i64 n_3] fun w'=>∃n,World.cell? w' (Addr.add p 1)=some (Value.int IntKind.u64 n)/\∃n_5,World.cell? w' p5=some (Value.int IntKind.i64 n_5)/\Call Tryz.prog 23 [Value.int IntKind.u64 n,Value.int IntKind.i64 n_5] w' fun e w'=>∃b,e=Ending.returned (Value.bool b)/\((!b)=true->K Ex.dV [] w')/\((!b)=false->∃p_1,World.cell? w' p1=some (Value.pointer p_1)/\∃a,p_1=some a/\∃p_2,World.cell? w' (Addr.add (Addr.add a 0) 1)=some (Value.pointer p_2)/\Call Tryz.prog 237 [Value.pointer p_2,Value.int IntKind.i64 x] w' fun e w'=>∃n,e=Ending.returned (Value.int IntKind.i64 n)/\∀(w'_1:World),World.heap w'_1=World.heap w'->World.os w'_1=World.os w'->World.tape w'_1=World.tape w'->World.output w'_1=World.output w'->∃p_3,World.cell? w'_1 p1=some (Value.pointer p_3)/\∃a,p_3=some a/\∃p_4,World.cell? w'_1 (Addr.add (Addr.add a 0) 0)=some (Value.pointer p_4)/\∃n,World.cell? w'_1 p5=some (Value.int IntKind.i64 n)/\Call Tryz.prog 234 [Value.pointer p_4,Value.int IntKind.i64 x,Value.int IntKind.i64 n,Value.bool false] w'_1 fun e w'=>∃n,e=Ending.returned (Value.int IntKind.i64 n)/\∀(w'_2:World),World.heap w'_2=World.heap w'->World.os w'_2=World.os w'->World.tape w'_2=World.tape w'->World.output w'_2=World.output w'->∃p_5,World.cell? w'_2 p1=some (Value.pointer p_5)/\∃a,p_5=some a/\∃p_6,World.cell? w'_2 (Addr.add (Addr.add a 0) 1)=some (Value.pointer p_6)/\∃n,World.cell? w'_2 p5=some (Value.int IntKind.i64 n)/\∃n_6,World.cell? w'_2 (Addr.add p 0)=some (Value.int IntKind.i64 n_6)/\Call Tryz.prog 235 [Value.pointer p_6,Value.int IntKind.i64 n,Value.int IntKind.i64 n_6,Value.int IntKind.i64 x] w'_2 fun e w'=>∃n,e=Ending.returned (Value.int IntKind.i64 n)/\Wr w' p2 [Value.int IntKind.i64 x] fun w'=>K Ex.ret [(2,SV.v (Value.pointer (some p2)))] w')):=by kernel_rfl
end Go.Dav
namespace Go.Dav
inductive FK where
 | int (k:IntKind)
 | bool
def Fits:List FK->List Value->Prop
 | [],[]=>True
 | .int k::ks,.int k' n::vs=>k'=k/\(Lit.int k n).wf=true/\Fits ks vs
 | .bool::ks,.bool _::vs=>Fits ks vs
 | _,_=>False
def tM (P:Program) (t:TypeId):FK->Bool
 | .int k=>match P.underlying t with
  | some (.int k')=>decide (k'=k)
  | _=>false
 | .bool=>match P.underlying t with
  | some .bool=>true
  | _=>false
def tc (P:Program):Nat->List Field->List FK->Bool
 | _,[],[]=>true
 | i,f::fs,k::ks=>decide (f.offset=i)&&decide (P.cellsOf f.type=1)&&tM P f.type k&&tc P (i+1) fs ks
 | _,_,_=>false
theorem ael {P:Program} {t:TypeId} {k:IntKind} (h:tM P t (.int k)=true):P.underlying t=some (.int k):=by
 simp only[tM]at h;split at h
 ·rename_i k' hu;obtain rfl:k'=k:=by simpa using h
  exact hu
 ·cases h
theorem aek {P:Program} {t:TypeId} (h:tM P t .bool=true):P.underlying t=some .bool:=by
 simp only[tM]at h;split at h
 ·assumption
 ·cases h
section
variable {H:Type} {enc:TypeId×Value->H} {P:Program} {w:World} {base:Nat} {spare:Nat->Bool} {held:Bool}
theorem aep {e:TypeId} {k:FK} {n:Nat} {cs:List Value} {y:DataW H×List MemPlace} (hk:tM P e k=true) (h:DataW.trod enc P w base spare held n e cs=some y):Fits [k] cs:=by
 cases k with
 | int k=>
  obtain⟨m,rfl,_,hw⟩:=DataW.trod_int (ael hk) h
  exact⟨rfl,hw,trivial⟩
 | bool=>
  obtain⟨m,rfl,_⟩:=DataW.trod_bool (aek hk) h;trivial
theorem Fits.cons {k:FK} {ks:List FK} {c:Value} {cs:List Value} (h:Fits [k] [c]) (hr:Fits ks cs):Fits (k::ks) (c::cs):=by
 cases k<;>cases c<;>simp_all [Fits]
theorem SJ {n:Nat}:∀{fs:List Field} {ks:List FK} {i:Nat} {cs:List Value},tc P i fs ks=true->
  (∀(j:Nat) (f:Field),fs[j]?=some f->∃y,DataW.trod enc P w base spare held n f.type ((cs.drop f.offset).take (P.cellsOf f.type))=some y)->cs.length=i+ks.length->Fits ks (cs.drop i)
 | [],[],i,cs,_,_,hl=>by rw[List.drop_of_length_le (by simp at hl;omega)];trivial
 | [],_::_,_,_,h,_,_=>by simp[tc]at h
 | _::_,[],_,_,h,_,_=>by simp[tc]at h
 | f::fs,k::ks,i,cs,h,ht,hl=>by
  simp only[tc,Bool.and_eq_true,decide_eq_true_eq]at h;obtain⟨⟨⟨h1,h2⟩,h3⟩,h4⟩:=h;have hi:i<cs.length:=by rw[hl];simp
  have hr:=SJ (i:=i+1) (cs:=cs) h4 (fun j g hg=>ht (j+1) g hg) (by rw[hl];simp;omega);obtain⟨y,hy⟩:=ht 0 f rfl;rw[h1,h2,List.drop_eq_getElem_cons hi,List.take_succ_cons,List.take_zero]at hy;rw[List.drop_eq_getElem_cons hi];exact(aep h3 hy).cons hr
def Wu (P:Program) (e:TypeId) (ks:List FK):Bool:=match P.underlying e with
 | some (.struct fs)=>tc P 0 fs.toList ks&&decide (P.cellsOf e=ks.length)
 | _=>false
theorem rec_fits {e:TypeId} {ks:List FK} {n:Nat} {cs:List Value} {y:DataW H×List MemPlace} (hk:Wu P e ks=true) (h:DataW.trod enc P w base spare held n e cs=some y):Fits ks cs:=by
 unfold Wu at hk;split at hk
 ·rename_i fs hu;simp only[Bool.and_eq_true,decide_eq_true_eq]at hk;obtain⟨xs,m,_,rfl,hl,hlen,hf⟩:=DataW.trod_struct hu h
  have:=SJ (enc:=enc) (w:=w) (base:=base) (spare:=spare) (held:=held) (n:=m) (cs:=cs) hk.1 (fun j f hj=>by
   have hj':j<fs.size:=by simpa using(List.getElem?_eq_some_iff.1 hj).1
   exact⟨xs[j]'(by omega),by
    have:=hf j f (by simpa using hj);rw[this];simp⟩) (by rw[hl,hk.2];simp)
  simpa using this
 ·cases hk
theorem open_recs {α:Type} {f:α->List Value} {Q:α->Prop} {sz:Nat} {t e:TypeId} {v:Value} {a:Option Addr} {len cap:Nat} {d:DataW H} {p:List MemPlace}
  (hs:∀x,(f x).length=sz) (ht:P.underlying t=some (.slice e)) (hc:P.cellsOf e=sz)
  (hd:∀n cs y,DataW.trod enc P w base spare held n e cs=some y->∃x,cs=f x/\Q x) (hv:v=.slice a len cap) (h:DataW.Trod enc P w base spare held t v d p) :
  ∃l:List α,len=l.length/\(∀x∈l,Q x)/\Cells w a (l.flatMap f)/\len<=cap/\cap<=maxLen:=by
 subst hv;obtain⟨fuel,h⟩:=h;rcases Go.Deep.open_slice ht h with⟨hcs,_⟩|⟨x,l,c,m,n,D,Pl,hcs,hb,hlc,hcm,hm,hx,hel⟩
 ·simp[Value.cells]at hcs;obtain⟨rfl,rfl,rfl⟩:=hcs;exact⟨[],rfl,by simp,Cells.nil _ _,by omega,by omega⟩
 ·simp[Value.cells]at hcs;obtain⟨rfl,rfl,rfl⟩:=hcs;have hlm:len<=m:=by rw[hm];split<;>omega
  have each:∀i,i<len->∃y,Q y/\∀j u,(f y)[j]?=some u->w.cell? (x.add (i*sz+j))=some u:=by
   intro i hi;obtain⟨cs',h1,h2⟩:=hel i (by omega);obtain⟨y,rfl,hq⟩:=hd _ _ _ h2;refine⟨y,hq,fun j u hj=>?_⟩;rw[hc]at h1;obtain⟨_,hl,hcell⟩:=World.cells?_some h1;have hj':j<sz:=by rw[<-hs y];exact(List.getElem?_eq_some_iff.1 hj).1
   rw[<-Addr.add_add,hcell j hj',hj]
  have build:∀k,k<=len->∃l:List α,l.length=k/\(∀y∈l,Q y)/\Cells w (some x) (l.flatMap f):=by
   intro k
   induction k with
   | zero=>exact fun _=>⟨[],rfl,by simp,Cells.nil _ _⟩
   | succ k ih=>
    intro hk;obtain⟨l,hl,hq,hcl⟩:=ih (by omega);obtain⟨y,hy,hyc⟩:=each k (by omega);refine⟨l++[y],by simp[hl],fun z hz=>?_,?_⟩
    ·rcases List.mem_append.1 hz with hz|hz
     ·exact hq z hz
     ·simp at hz;exact hz ▸ hy
    ·intro j u hj;refine⟨x,rfl,?_⟩;have hfl:(l.flatMap f).length=k*sz:=by rw[List.length_flatMap];simp[hs,hl,List.map_const',List.sum_replicate_nat]
     rw[List.flatMap_append,List.flatMap_cons,List.flatMap_nil,List.append_nil]at hj;by_cases hjl:j<(l.flatMap f).length
     ·rw[List.getElem?_append_left hjl]at hj;obtain⟨a,ha,hc⟩:=hcl j u hj;obtain rfl:=Option.some.inj ha;exact hc
     ·rw[List.getElem?_append_right (by omega)]at hj;have:=hyc _ u hj
      rwa [show k*sz+(j-(l.flatMap f).length)=j by omega]at this
  obtain⟨l,hl,hq,hcl⟩:=build len (Nat.le_refl _);exact⟨l,hl.symm,hq,hcl,hlc,hcm⟩
end
theorem af.below {w w':World} (h:af no w w'):RowKit.Below w.heap.size w w':=⟨h.os,h.tape,h.output,h.size,fun k hk=>h.ai k hk id⟩
end Go.Dav
namespace Go.Proofs
open Go.RowKit Go.Shelf Go.Dav
attribute [local go_sem] Oper.semAt_some
def Ey (L:List Int) (pre:List (Int×Int)) (x:Int×Int):Prop:=∃k,∃hk:k<L.length,x=((k:Int),L[k])/\pre.map (·.2)=(L.drop (k+1)).reverse
theorem Tryz.YJ (m l Bn c:Nat) (p:Option Addr) (L:List Int) (hL:L.length<=1048576) (J Jx:List (Int×Int)->World->Prop)
  (hJ:∀pre W,J pre W->W.cell? ⟨Bn,0,none⟩=some (.slice p L.length c)/\∀(i:Nat) (v:Int),L[i]?=some v->∃bq o,p=some ⟨bq,o,none⟩/\W.cell? ⟨bq,o+i,none⟩=some (.int .i64 v))
  (hY:∀pre x W,J pre W->Ey L pre x->YieldAt Fence.wide m Tryz.prog l #[.int .i64 x.1,.int .i64 x.2] W fun e W'=>(e=.returned (.bool true)/\J (pre++[x]) W')∨(e=.returned (.bool false)/\Jx (pre++[x]) W'))
  (W:World) (h0:J [] W) :
  CallsIn Fence.wide (m+1) Tryz.prog 338 #[.func (.yield l) #[] #[],.pointer (some ⟨Bn,0,none⟩)] W fun e W'=>(∃v,e=.returned v)/\((∃xs,xs.map (·.2)=L.reverse/\J xs W')∨∃pre,Jx pre W'):=by
 have h38:Fence.wide.fn 338:=trivial;refine callsIn_of_wp Tryz.func338 rfl h38 ?_ rfl;simp only[Tryz.ntmps338,List.size_toArray,List.length_cons,List.length_nil,Nat.reduceAdd,Nat.reduceSub,Array.replicate_succ,Array.replicate_zero,List.push_toArray,List.append_toArray,List.nil_append,List.cons_append];have hB0:=(hJ [] W h0).1
 gi_wp2
 gi_loopw [3] (fun q wr=>∃(k:Nat) (pre:List (Int×Int)),q=.int .i64 ((k:Int)-1)/\k<=L.length/\pre.map (·.2)=(L.drop k).reverse/\J pre wr)
  (fun q wr=>match q with|.int _ i=>(i+1).toNat|_=>0)
 case atStart=>
  exact⟨L.length,[],rfl,Nat.le_refl _,by rw[List.drop_of_length_le (by omega)];rfl,h0⟩
 case round=>
  obtain⟨k,pre,rfl,hk,hpre,hJs⟩:=hrel;obtain⟨hB,hC⟩:=hJ pre wr hJs
  cases k with
  | zero=>
   gi_wp2
   go_end0
   exact⟨⟨_,rfl⟩,.inl ⟨pre,by rw[hpre];rfl,hJs⟩⟩
  | succ k=>
   have hkl:k<L.length:=by omega
   obtain⟨bq,o,rfl,hcell⟩:=hC k _ (List.getElem?_eq_getElem hkl);have hdr:L.drop k=L[k]::L.drop (k+1):=List.drop_eq_getElem_cons hkl;obtain⟨fn,tmps,assign,body,hy,hR⟩:=hY pre ((k:Int),L[k]) wr hJs ⟨k,hkl,rfl,hpre⟩;generalize L[k]=x at *;have hi:((k+1:Nat):Int)-1=(k:Int):=by omega
   rw[hi];replace hy:(Instr.yield l #[.int .i64 (k:Int),.int .i64 x]).run Tryz.prog wr=.ok (.round l fn tmps assign body) wr:=hy
   gi_wp2
   refine hR.mono ?_;rintro e W3 (⟨rfl,hJ3⟩|⟨rfl,hJx3⟩)
   ·gi_wp2
    go_roundw
    case rel=>exact⟨k,pre++[((k:Int),x)],rfl,by omega,by rw[List.map_append,hpre,hdr,List.reverse_cons];rfl,hJ3⟩
    case measure=>show((k:Int)-1+1).toNat<((k:Int)+1).toNat;omega
   ·gi_wp2
    refine bodyPost_ret (results_none rfl _ _ _) rfl ?_;exact⟨⟨_,rfl⟩,.inr ⟨_,hJx3⟩⟩
set_option maxHeartbeats 1000000 in
theorem Tryz.YI (p:Option Addr) (m c:Nat) (w:World):Calls Tryz.prog 269 #[.slice p m c] w fun e w'=>e=.returned (.func (.func 338) #[] #[.pointer (some ⟨w.heap.size,0,none⟩)])/\w'=w.alloc (.cells #[.slice p m c] 36):=by
 rw[<-callsIn_wide (n:=5)];have h25:Fence.wide.fn 269:=trivial;refine callsIn_of_wp Tryz.func269 rfl h25 ?_ rfl;simp only[Tryz.ntmps269,List.size_toArray,List.length_cons,List.length_nil,Nat.reduceAdd,Nat.reduceSub,Array.replicate_succ,Array.replicate_zero,List.push_toArray,List.append_toArray,List.nil_append,List.cons_append]
 gi_wp2
 go_ret
 exact⟨rfl,rfl⟩
end Go.Proofs
namespace Go.Dav
open Go.Proofs
def kg {σ:Type} (b:Nat) (A:Ob σ) (get:σ->K) (put:σ->K->σ):Prop:=∀{W w:World} {F:Fp} {s:σ},aa A W w F s->∃q F1,KF b q w F1 (get s)/\aa (KF b q) w w F1 (get s)/\∀w' k',aa (KF b q) w w' F1 k'->aa A W w' F (put s k')
theorem kg.self (b:Nat):kg b (KO b) (fun k=>k) (fun _ k=>k):=by
 intro W w F s h;obtain⟨F1,⟨q,h1⟩,k1⟩:=h.bI;exact⟨q,F1,h1,aa.same h1,fun w' k' hT=>k1 _ _ (KF.loose hT)⟩
theorem kg.star {σ τ:Type} {b:Nat} {A:Ob σ} {B:Ob τ} [Frame B] {get:σ->K} {put:σ->K->σ} (h:kg b A get put):kg b (au A B) (fun x=>get x.1) (fun x k=>(put x.1 k,x.2)):=by
 intro W w F s hS;obtain⟨F1,hA,kA⟩:=hS.left;obtain⟨q,F2,a1,a2,a3⟩:=h (aa.same hA);exact⟨q,F2,a1,a2,fun w' k' hT=>kA _ _ (a3 _ _ hT)⟩
section
variable {b:Nat} {W w:World} {F:Fp} {k:K}
abbrev S1 (b p:Nat):=au (KO b) (Lb p 23)
abbrev S2 (b p p1:Nat):=au (S1 b p) (Lb p1 3)
abbrev S3 (b p p1 p8:Nat):=au (S2 b p p1) (Lb p8 3)
abbrev S4 (b p p1 p8 p9:Nat):=au (S3 b p p1 p8) (Lb p9 250)
theorem D6 (b p p1:Nat):kg b (S2 b p p1) (fun x=>x.1.1) (fun x k=>((k,x.1.2),x.2)):=kg.star (B:=Lb p1 3) (kg.star (B:=Lb p 23) (kg.self b))
theorem D7 (b p p1 p8:Nat):kg b (S3 b p p1 p8) (fun x=>x.1.1.1) (fun x k=>(((k,x.1.1.2),x.1.2),x.2)):=kg.star (B:=Lb p8 3) (D6 b p p1)
theorem D8 (b p p1 p8 p9:Nat):kg b (S4 b p p1 p8 p9) (fun x=>x.1.1.1.1) (fun x k=>((((k,x.1.1.1.2),x.1.1.2),x.1.2),x.2)):=kg.star (B:=Lb p9 250) (D7 b p p1 p8)
theorem Sl.ab6 {w:World} {T:TypeId} {p:Option Addr} {n c:Nat} {l:List Int} (h:Sl w T 1 p n c (l.map (Value.int .i64))) {i:Nat} {v:Int} (hi:l[i]?=some v):∃bq o,p=some ⟨bq,o,none⟩/\w.cell? ⟨bq,o+i,none⟩=some (.int .i64 v):=by
 obtain⟨a,rfl,hc⟩:=h.cells i (.int .i64 v) (by rw[List.getElem?_map,hi];rfl);obtain⟨_,_,_,cells,_,hs,_⟩:=h;obtain⟨bq,o,sp⟩:=a;simp only at hs;subst hs;rw[add_lit]at hc;exact⟨bq,o,rfl,hc⟩
structure BD (b:Nat) (W:World) (F:Fp) (k:K) (E:Env) (w:World) (p p1 p8 bn:Nat) (pq:Option Addr) (c:Nat):Prop where
 env:E=[(1,SV.v (.pointer (some ⟨p,0,none⟩))),(2,SV.v (.pointer (some ⟨p1,0,none⟩))),(5,SV.v (.pointer (some ⟨p8,0,none⟩))),(8,SV.un),(60,SV.v (.func (.func 338) #[] #[.pointer (some ⟨bn,0,none⟩)])),(62,SV.un)]
 own:aa (S3 b p p1 p8) W w F (((k,[.pointer (some ⟨b,0,none⟩)]),[.int .i64 0]),[.int .i64 (dM k)])
 box:w.cell? ⟨bn,0,none⟩=some (.slice pq (aY k.rq (db k)).length c)
 sl:Sl w 3 1 pq (aY k.rq (db k)).length c ((aY k.rq (db k)).map (Value.int .i64))
 load:¬bp k.rq (db k)-bp k.rq (dM k)<2
def mY (b:Nat) (W:World) (F:Fp) (k:K) (e:Ending) (w':World):Prop:=e=.returned (.int .i64 (oi k))/\aa (KO b) W w' F (jn k)
theorem dh.U9 {b:Nat} {w:World} {F:Fp} {x:RS} (h:dh b w F x) (c:Int):0<=bp x c/\bp x c<=1024:=by
 unfold bp;split
 ·rename_i hc;obtain⟨i,hi,rfl⟩:=kX hc;rw[fX hi];have:=(h.V hi).len;omega
 ·omega
theorem ac6 (h:aa (KO b) W w F k) {c:Int}:(aY k.rq c).length<=8192:=by
 obtain⟨q,hq⟩:=KO.fix h;obtain⟨F1,hA,_⟩:=KF.rq hq;unfold aY;split
 ·rename_i hc;obtain⟨i,hi,rfl⟩:=kX hc;rw[fX hi];have:=(hA.V hi).len;exact Nat.le_trans (ac7 _) (by omega)
 ·simp
theorem af.Zw {w W:World} {a:Addr} {v:Value} (h:af no w W) (hc:w.cell? a=some v):W.cell? a=some v:=
 (World.cell?_of_block (h.ai _ (ou hc) id)).trans hc
theorem Yz (hTab:Tab W) (h0:¬F 0) (h:aa (KO b) W w F k):den Tryz.prog iG BQ (aj 0 [.pointer (some ⟨b,0,none⟩)]) w (AE (fun E w=>∃p p1 p8 bn pq c,BD b W F k E w p p1 p8 bn pq c) (pf Tryz.prog Tryz.f168.results.toList (mY b W F k))):=by
 rw[tbp];refine⟨fun w1 hN=>⟨fun w2 hN2=>?_⟩⟩;have hS:aa (S2 b w.heap.size w1.heap.size) W w2 F ((k,[.pointer (some ⟨b,0,none⟩)]),[.int .i64 0]):=(h.add (hN.ae no) (Rw.new hN rfl) (fun i hi=>Nat.le_of_eq hi.symm)).add (hN2.ae no) (Rw.new hN2 rfl) (fun i hi=>Nat.le_of_eq hi.symm);generalize w.heap.size=p at hS⊢;generalize w1.heap.size=p1 at hS⊢;intro w3 q1 q2 q3 q4;replace hS:=hS.ae (af.same no q1 q2 q3 q4);obtain⟨q,F1,_,hK,_⟩:=D6 b p p1 hS;have hB:=KF.ai hK;have hP:=gR hS;obtain⟨F2,hA,_⟩:=KF.rq hK;refine⟨_,hP.bD rfl,_,rfl,_,hB.av rfl,_,hP.bD rfl,_,rfl,_,hB.cell rfl,⟨(afg hA (hS.i7 hTab h0) k.ac).mono ?_⟩⟩;rintro e w4 ⟨rfl,hU4⟩;replace hS:=hS.ae hU4;refine⟨_,_,rfl,?_⟩;intro w5 q1 q2 q3 q4;replace hS:=hS.ae (af.same no q1 q2 q3 q4);obtain⟨q5,F5,_,hK,_⟩:=D6 b p p1 hS;have hB:=KF.ai hK;have hP:=gR hS;obtain⟨F6,hA,_⟩:=KF.rq hK;refine⟨_,hP.bD rfl,_,rfl,_,hB.av rfl,_,hP.bD rfl,_,rfl,_,hB.cell rfl,?a1,?a2⟩
 case' a1=>
  refine⟨(WA hA (hS.i7 hTab h0) k.ac).mono ?_⟩;rintro e w6 ⟨rfl,hU6⟩;replace hS:=hS.ae hU6;refine⟨_,_,rfl,⟨fun w7 hN7=>?_⟩⟩;replace hS:aa (S3 b p p1 w6.heap.size) W w7 F (((k,[.pointer (some ⟨b,0,none⟩)]),[.int .i64 0]),[.int .i64 0]):=hS.add (hN7.ae no) (Rw.new hN7 rfl) (fun i hi=>Nat.le_of_eq hi.symm);generalize w6.heap.size=p8 at hS⊢;have hB:=hB.ae (hU6.and (hN7.ae no)) (fun h=>h);have hP:=gR hS.drop;refine⟨hB.cell rfl,hP.bD rfl,hB.av rfl,hP.bD rfl,?_⟩
 case' a2=>
  refine⟨fun w7 hN7=>?_⟩;replace hS:aa (S3 b p p1 w5.heap.size) W w7 F (((k,[.pointer (some ⟨b,0,none⟩)]),[.int .i64 0]),[.int .i64 0]):=hS.add (hN7.ae no) (Rw.new hN7 rfl) (fun i hi=>Nat.le_of_eq hi.symm);generalize w5.heap.size=p8 at hS⊢;have hB:=hB.ae (hN7.ae no) (fun h=>h);have hP:=gR hS.drop;replace hA:=(inferInstance:Frame (dh q5.rq)).ae hA (hN7.ae no) (fun _ _ h=>h);refine⟨hB.cell rfl,hP.bD rfl,hB.av rfl,hP.bD rfl,⟨(WA hA (hS.i7 hTab h0) k.ac).mono ?_⟩⟩;rintro e w8 ⟨rfl,hU8⟩;replace hS:=hS.ae hU8;refine⟨_,_,rfl,?_⟩
 all_goals
  refine il (vs:=[.int .i64 (dM k)]) hS (by rfl) fun w9 hS=>?_;intro w10 q1 q2 q3 q4;replace hS:=hS.ae (af.same no q1 q2 q3 q4);obtain⟨q10,F10,_,hK,_⟩:=D7 b p p1 p8 hS;have hB:=KF.ai hK;have hP:=gR hS.drop;have hT:=bE hS;obtain⟨F11,hA,_⟩:=KF.rq hK;refine⟨_,hP.bD rfl,_,rfl,_,hB.av rfl,_,hP.bD rfl,_,rfl,_,hB.av rfl,_,hT.bD rfl,⟨(rL hA (db k)).mono ?_⟩⟩;rintro e w11 ⟨rfl,rfl⟩;refine⟨_,rfl,hT.bD rfl,hB.av rfl,hP.bD rfl,⟨(rL hA (dM k)).mono ?_⟩⟩;rintro e w12 ⟨rfl,rfl⟩;have hl1:=hA.U9 (db k);have hl2:=hA.U9 (dM k)
  dsimp only at hl1 hl2
  have hw:IntKind.wrap .i64 (bp k.rq (db k)-bp k.rq (dM k))=bp k.rq (db k)-bp k.rq (dM k):=aD (by omega);refine⟨_,rfl,fun g=>?_,fun g=>?_⟩
  ·have g:=of_decide_eq_true g;have g:bp k.rq (db k)-bp k.rq (dM k)<2:=by rw[<-hw];exact g
   refine il (vs:=[.int .i64 0]) hS.drop (by rfl) fun w13 hS=>?_;have hR:=bE hS;refine⟨_,hR.bD rfl,?_,?_⟩
   ·unfold oi;rw[if_pos g]
   ·unfold jn;rw[if_pos g];exact hS.drop.drop
  ·have g:=of_decide_eq_false g;have g:¬bp k.rq (db k)-bp k.rq (dM k)<2:=by rw[<-hw];exact g
   refine⟨_,hP.bD rfl,_,rfl,_,hB.av rfl,⟨(WB hA (db k)).mono ?_⟩⟩;rintro e w13 ⟨pq,d,rfl,hL⟩;replace hS:=hS.ae hL.U;refine⟨_,_,_,rfl,⟨(Tryz.YI _ _ _ w13).mono ?_⟩⟩;rintro e w14 ⟨rfl,rfl⟩;have hUa:af no w13 (w13.alloc (.cells #[.slice pq (aY k.rq (db k)).length d] 36)):=af.pO _ _;exact⟨_,rfl,p,p1,p8,w13.heap.size,pq,d,rfl,hS.ae hUa,by simp only[World.cell?,World.alloc_heap_new];rfl,hL.S.ae hUa (fun _ _ h=>h),g⟩
def xI (k:K) (id:Int):K:={k with rq:=fY (dA k.rq id) (dM k) (bN k id).1 id,th:=iv k.th id (dM k) false}
theorem Yu (hl:¬bp k.rq (db k)-bp k.rq (dM k)<2) {id:Int} (h:(aY k.rq (db k)).reverse.find? (ku k)=some id):jn k=xI k id/\oi k=id:=by
 unfold jn oi xI;rw[if_neg hl,if_neg hl,h];exact⟨rfl,rfl⟩
theorem Yt (hl:¬bp k.rq (db k)-bp k.rq (dM k)<2) (h:(aY k.rq (db k)).reverse.find? (ku k)=none):jn k=k/\oi k=0:=by
 unfold jn oi;rw[if_neg hl,if_neg hl,h];exact⟨rfl,rfl⟩
theorem Yw {p p1 p8:Nat} (x:Int) {F2:Fp} {P:Ex->Env->World->Prop} (hS:aa (S3 b p p1 p8) w w F2 (((k,[.pointer (some ⟨b,0,none⟩)]),[.int .i64 0]),[.int .i64 (dM k)]))
  (hn:∀E w',ku k x=false->af no w w'->P .dV E w') (hr:∀E w',ku k x=true->aa (S2 b p p1) w w' F2 ((xI k x,[.pointer (some ⟨b,0,none⟩)]),[.int .i64 x])->P .ret E w') :
  den Tryz.prog su xH [(1,SV.v (.pointer (some ⟨p,0,none⟩))),(2,SV.v (.pointer (some ⟨p1,0,none⟩))),(5,SV.v (.pointer (some ⟨p8,0,none⟩))),(8,SV.v (.int .i64 x))] w P:=by
 rw[tbb];obtain⟨q,F1,_,hK,_⟩:=D7 b p p1 p8 hS;have hP:=gR hS.drop;obtain⟨F3,hA,_⟩:=KF.th hK;refine⟨_,hP.bD rfl,_,rfl,_,(KF.ai hK).av rfl,⟨(te hA x).mono ?_⟩⟩;rintro e w1 ⟨rfl,hU1⟩;refine⟨_,_,_,_,_,_,_,rfl,⟨fun w2 hN=>?_⟩⟩;have hU2:af no w w2:=hU1.and (hN.ae no);replace hS:aa (S4 b p p1 p8 w1.heap.size) w w2 F2 ((((k,[.pointer (some ⟨b,0,none⟩)]),[.int .i64 0]),[.int .i64 (dM k)]),[.int .i64 0,.int .u64 0,.int .i64 0,.bool false,.bool false,.int .i64 0]):=(hS.ae hU1).add (hN.ae no) (Rw.new hN rfl) (fun i hi=>Nat.le_of_eq hi.symm);have hp9:w.heap.size<=w1.heap.size:=hU1.size;have hb9:=hN.aF;generalize hp:w1.heap.size=p9 at hS hp9 hb9⊢;obtain⟨F9,hRw,kRw⟩:=hS.right;refine hRw.ai.gF (by simp) fun w3 hW=>?_;have hU3:af no w w3:=hU2.trans hW.U (fun i hi e=>by omega);replace hS:=kRw w3 (FN (bN k x)) (hRw.dZ hW.U hW.aF);have hL:=bE hS;have hT:=bE hS.drop;have hPm:ku k x=hs (bN k x).2.1 (dM k):=rfl;refine⟨_,hL.cell rfl,_,hT.bD rfl,⟨(iR _ _ _).mono ?_⟩⟩;rintro e w4 ⟨rfl,rfl⟩;refine⟨_,rfl,fun g=>hn _ _ (by rw[hPm];simpa using g) hU3,fun g=>?_⟩;have hb:ku k x=true:=by rw[hPm];simpa using g
 obtain⟨q5,F5,_,hK5,kK5⟩:=D8 b p p1 p8 p9 hS;obtain⟨F6,hA6,kA6⟩:=KF.rq hK5;have hP5:=gR hS.drop.drop;refine⟨_,hP5.bD rfl,_,rfl,_,(KF.ai hK5).av rfl,⟨(wR hA6 x).mono ?_⟩⟩;rintro e w6 ⟨rfl,hT6⟩;replace hS:=kK5 _ _ (kA6 _ _ hT6);refine⟨_,rfl,?_⟩;intro w7 q1 q2 q3 q4;replace hS:=hS.ae (af.same no q1 q2 q3 q4);obtain⟨q8,F8,_,hK8,kK8⟩:=D8 b p p1 p8 p9 hS;obtain⟨F9',hA9,kA9⟩:=KF.th hK8;refine⟨_,(gR hS.drop.drop).bD rfl,_,rfl,_,(KF.ai hK8).av rfl,_,(bE hS.drop).bD rfl,⟨(Wa hA9 x (dM k) false).mono ?_⟩⟩;rintro e w8 ⟨rfl,hT8⟩;replace hS:=kK8 _ _ (kA9 _ _ hT8);refine⟨_,rfl,?_⟩;intro w9 q1 q2 q3 q4;replace hS:=hS.ae (af.same no q1 q2 q3 q4);obtain⟨q10,F10,_,hK10,kK10⟩:=D8 b p p1 p8 p9 hS;obtain⟨F11,hA11,kA11⟩:=KF.rq hK10;refine⟨_,(gR hS.drop.drop).bD rfl,_,rfl,_,(KF.ai hK10).av rfl,_,(bE hS.drop).bD rfl,_,(bE hS).cell rfl,⟨(WD hA11 (dM k) _ x).mono ?_⟩⟩;rintro e w10 ⟨rfl,hT10⟩;replace hS:=kK10 _ _ (kA11 _ _ hT10);refine⟨_,rfl,il hS.drop.drop (by rfl) fun w11 hS=>hr _ _ hb hS⟩
set_option maxRecDepth 100000 in
theorem aci (hTab:Tab W) (h0:¬F 0) (h:aa (KO b) W w F k):Calls Tryz.prog 168 #[.pointer (some ⟨b,0,none⟩)] w (mY b W F k):=by
 rw[<-callsIn_wide (n:=5)];refine callsIn_of_wp_marks Tryz.func168 Yn trivial (wpIn_wide.2 ?_) rfl;have ha:=Yb (fn:=Tryz.f168) (N:=iG.N) n168 (args:=[.pointer (some ⟨b,0,none⟩)]) (by show 1<=104;omega);generalize he:({tmps:=([.pointer (some ⟨b,0,none⟩)]:List Value).toArray++Array.replicate (Tryz.f168.ntmps-([.pointer (some ⟨b,0,none⟩)]:List Value).toArray.size) undef,defers:=[]}:Act)=a0 at ha⊢;have hpre:=Yz hTab h0 h;rw[Yx]
 have out:∀(E:Env) (a:Act) (w':World),aX iG.N E a->pf Tryz.prog Tryz.f168.results.toList (mY b W F k) .ret E w'->bodyPostM Fence.wide 5 Tryz.prog Tryz.f168 (mY b W F k) .ret a w':=by
  intro E a w' h1 h2;obtain⟨v,hv,hR⟩:=AN h1 h2;show LeavesInM _ _ _ _ _ _ a.defers .returning w';rw[h1.gx];exact⟨v,hv,hR⟩
 unfold BQ at hpre
 have piece:∀{x y y':Code} {E:Env} {a:Act} {w':World},den Tryz.prog iG (.seq x y) E w' (AE (fun E w=>∃p p1 p8 bn pq c,BD b W F k E w p p1 p8 bn pq c) (pf Tryz.prog Tryz.f168.results.toList (mY b W F k)))->aX iG.N E a->
   (∀E a w',aX iG.N E a->den Tryz.prog iG y E w' (AE (fun E w=>∃p p1 p8 bn pq c,BD b W F k E w p p1 p8 bn pq c) (pf Tryz.prog Tryz.f168.results.toList (mY b W F k)))->y'.wp Tryz.prog (bodyPostM Fence.wide 5 Tryz.prog Tryz.f168 (mY b W F k)) a w')->
   (Code.seq x y').wp Tryz.prog (bodyPostM Fence.wide 5 Tryz.prog Tryz.f168 (mY b W F k)) a w':=by
  intro x y y' E a w' hd ha hy;refine wp_seq (wp_mono (mr bf x E w' _ hd a ha) ?_);rintro ex a1 w1 hl
  cases ex with
  | normal=>
   obtain⟨E1,h1,h2⟩:=hl;have hc:oP iG.cB (kQ y)=none:=by cases kQ y<;>rfl
   simp only[pk,oH]at h2;rw[hc]at h2
   exact hy E1 a1 w1 h1 h2
  | ret=>obtain⟨E1,h1,h2⟩:=hl;exact out E1 a1 w1 h1 h2
  | exit n=>obtain⟨E1,h1,h2⟩:=hl;exact h2.elim
  | _=>exact hl.elim
 refine piece hpre ha fun E1 a1 w1 ha1 hd1=>?_;refine piece hd1 ha1 fun E2 a2 w2 ha2 hd2=>?_;refine piece hd2 ha2 fun E3 a3 w3 ha3 hd3=>?_;refine piece hd3 ha3 fun E4 a4 w4 ha4 hd4=>?_;refine wp_seq (wp_seq (wp_mono (mr bf BR E4 w4 _ hd4 a4 ha4) ?_));rintro ex a5 w5 hl
 cases ex with
 | ret=>obtain⟨E1,h1,h2⟩:=hl;exact out E1 a5 w5 h1 h2
 | exit n=>obtain⟨E1,h1,h2⟩:=hl;exact h2.elim
 | normal=>?_
 | _=>exact hl.elim
 obtain⟨E5,ha5,p,p1,p8,bn,pq,c,hZ⟩:=hl;have hE:=hZ.env;subst hE;have hP:=hZ.own;obtain⟨F',hS0,hU0,hF0⟩:=hZ.own;have hlt:∀i,F' i->i<w5.heap.size:=fun i hi=>Frame.lt hS0 i hi;have ha2:aX iG.N [(2,SV.v (.pointer (some ⟨p1,0,none⟩)))] a5:=ha5.keep [2];have hF0':∀i,i<W.heap.size->F' i->F i:=fun i hi h=>(hF0 i h).elim id (fun h=>absurd h (by omega))
 have leave:∀{w':World} {k2:K} {id:Int} {F2:Fp} {a:Act},aX iG.N [(2,SV.v (.pointer (some ⟨p1,0,none⟩)))] a->S2 b p p1 w' F2 ((k2,[.pointer (some ⟨b,0,none⟩)]),[.int .i64 id])->af F W w'->(∀i,F2 i->F i∨W.heap.size<=i)->w'.heap[w5.heap.size]?=some (.deferred (some []))->¬F2 w5.heap.size->id=oi k->k2=jn k->
   LeavesInM Fence.wide 5 Tryz.prog Tryz.f168 a.tmps (mY b W F k) [{target:=.collected w5.heap.size,args:=#[]}] .returning w':=by
  intro w' k2 id F2 a haa hS hU hF hD hnD hid hk;refine⟨by simp,.inl ⟨_,_,rfl,run_takeDeferred hD,?_⟩⟩;have hPu:=af.AH w' w5.heap.size (.deferred none);have hS':=Frame.ae hS hPu (fun i hi e=>hnD (e ▸ hi));have hT:aa (S2 b p p1) W (w'.putObj w5.heap.size (.deferred none)) F ((k2,[.pointer (some ⟨b,0,none⟩)]),[.int .i64 id]):=⟨F2,hS',hU.trans hPu (fun i hi (e:i=w5.heap.size)=>absurd hi (by have:=hU0.size;omega)),hF⟩
  have hret:pf Tryz.prog Tryz.f168.results.toList (mY b W F k) .ret [(2,SV.v (.pointer (some ⟨p1,0,none⟩)))] (w'.putObj w5.heap.size (.deferred none)):=by
   rw[tbr];exact⟨_,(bE hT).bD rfl,by rw[hid],by rw[<-hk];exact hT.drop.drop⟩
  obtain⟨v,hv,hR⟩:=AN haa hret;exact⟨v,hv,hR⟩
 refine(wpIn_wide (n:=5)).1 (wpIn_block ?_)
 refine amY (M:=su) (m:=3) bf (E:=[(1,SV.v (.pointer (some ⟨p,0,none⟩))),(2,SV.v (.pointer (some ⟨p1,0,none⟩))),(5,SV.v (.pointer (some ⟨p8,0,none⟩))),(8,SV.un),(60,SV.v (.func (.func 338) #[] #[.pointer (some ⟨bn,0,none⟩)])),(62,SV.un)]) ha5 (gf:=338) (lb:=#[.pointer (some ⟨bn,0,none⟩)]) (ha5.ev (.tmp 60) _ rfl) (fun args w=>Ri bf (by kernel_rfl) args) (fun x:Int×Int=>(.int .i64 x.1,.int .i64 x.2))
  (fun pre W1=>af no w5 W1/\∀y∈pre,ku k y.2=false)
  (fun pre W1=>∃pr x,pre=pr++[x]/\(∀y∈pr,ku k y.2=false)/\ku k x.2=true/\Ey (aY k.rq (db k)) pr x/\∃F2,S2 b p p1 W1 F2 ((xI k x.2,[.pointer (some ⟨b,0,none⟩)]),[.int .i64 x.2])/\af F' w5 W1/\∀i,F2 i->F' i∨w5.heap.size+2<=i)
  (Ey (aY k.rq (db k))) (fun xs=>xs.map (·.2)=(aY k.rq (db k)).reverse)
  (fun x=>[(1,SV.v (.pointer (some ⟨p,0,none⟩))),(2,SV.v (.pointer (some ⟨p1,0,none⟩))),(5,SV.v (.pointer (some ⟨p8,0,none⟩))),(8,SV.v (.int .i64 x.2))]) (Nat.le_of_ble_eq_true rfl) (Nat.le_of_ble_eq_true rfl) LO.1 LO.2 ?hA ?hB ?hI ?hIx ?hI0 ?hseq ?hdone ?hstop
 case hA=>
  intro x W1;rw[tba];exact⟨rfl,rfl⟩
 case hB=>
  rintro pre x W1 ⟨hU,hno⟩ hnx hsz;have hS1:S3 b p p1 p8 W1 F' (((k,[.pointer (some ⟨b,0,none⟩)]),[.int .i64 0]),[.int .i64 (dM k)]):=Frame.ae hS0 hU (fun _ _ h=>h);refine Yw x.2 (aa.same hS1) (fun E w' hf hU'=>⟨⟨hU.trans hU' (fun _ _ h=>h),fun y hy=>?_⟩,hU'.size,fun i h1 h2=>hU'.ai i h2 (fun h=>h)⟩) (fun E w' ht hT=>?_)
  ·rcases List.mem_append.1 hy with hy|hy
   ·exact hno y hy
   ·simp at hy;subst hy;exact hf
  ·obtain⟨F2,t1,t2,t3⟩:=hT;exact⟨⟨pre,x,rfl,hno,ht,hnx,F2,t1,(hU.mono (fun _ _ h=>h.elim)).trans t2 (fun i hi h=>h),fun i hi=>(t3 i hi).imp id (fun h=>by omega)⟩,t2.size,fun i h1 h2=>t2.ai i h2 (fun h=>by have:=hlt i h;omega)⟩
 case hI=>exact fun pre W1 o hh=>⟨hh.1.trans (af.AH W1 _ o) (fun i hi (e:i=w5.heap.size+1)=>absurd hi (by omega)),hh.2⟩
 case hIx=>
  rintro pre W1 o ⟨pr,x,rfl,h1,h2,h3,F2,h4,h5,h6⟩;refine⟨pr,x,rfl,h1,h2,h3,F2,Frame.ae h4 (af.AH W1 _ o) (fun i hi (e:i=w5.heap.size+1)=>?_),h5.trans (af.AH W1 _ o) (fun i hi (e:i=w5.heap.size+1)=>absurd hi (by omega)),h6⟩;rcases h6 i hi with h|h
  ·have:=hlt i h;omega
  ·omega
 case hI0=>exact fun r=>⟨(af.pO _ _).trans (af.pO _ _) (fun _ _ h=>h),fun y hy=>by cases hy⟩
 case hseq=>
  intro J Jx W1 hJI hY h0';have hlen:(aY k.rq (db k)).length<=1048576:=Nat.le_trans (ac6 hP.drop.drop.drop) (by omega);refine Tryz.YJ 3 (w5.heap.size+1) bn c pq (aY k.rq (db k)) hlen J Jx (fun pre W2 hJ=>?_) (fun pre x W2 hJ hx=>hY pre x W2 hJ hx) W1 h0';have hU:=(hJI pre W2 hJ).1;exact⟨af.Zw hU hZ.box,fun i v hi=>(hZ.sl.ae hU (fun _ _ h=>h)).ab6 hi⟩
 case hstop=>
  rintro pre W1 ⟨pr,x,rfl,h1,h2,⟨kk,hk,hx,hpr⟩,F2,h4,h5,h6⟩ hD
  have hf:(aY k.rq (db k)).reverse.find? (ku k)=some x.2:=by
   have e1:(aY k.rq (db k)).reverse=pr.map (·.2)++(x.2::((aY k.rq (db k)).take kk).reverse):=by
    rw[hpr,hx]
    conv=>lhs;rw[<-List.take_append_drop kk (aY k.rq (db k)),List.drop_eq_getElem_cons hk]
    simp
   rw[e1,List.find?_append,List.find?_eq_none.2 (fun y hy=>?_),List.find?_cons_of_pos h2]
   ·rfl
   ·obtain⟨z,hz,rfl⟩:=List.mem_map.1 hy;rw[h1 z hz];decide
  obtain⟨e1,e2⟩:=Yu hZ.load hf;show LeavesInM _ _ _ _ _ _ _ _ _;refine leave (a:=a5) ha2 h4 (hU0.trans h5 (fun i hi h=>hF0' i hi h)) (fun i hi=>?_) hD (fun hh=>?_) e2.symm e1.symm
  ·rcases h6 i hi with h|h
   ·exact hF0 i h
   ·exact .inr (by have:=hU0.size;omega)
  ·rcases h6 _ hh with h|h
   ·have:=hlt _ h;omega
   ·omega
 case hdone=>
  rintro xs W1 hxs ⟨hU,hno⟩ hD
  have hnone:(aY k.rq (db k)).reverse.find? (ku k)=none:=by
   rw[<-hxs];refine List.find?_eq_none.2 fun y hy=>?_;obtain⟨z,hz,rfl⟩:=List.mem_map.1 hy;rw[hno z hz];decide
  obtain⟨e1,e2⟩:=Yt hZ.load hnone;show xJ.wp _ _ _ _;rw[Yv];have hS1:S3 b p p1 p8 W1 F' (((k,[.pointer (some ⟨b,0,none⟩)]),[.int .i64 0]),[.int .i64 (dM k)]):=Frame.ae hS0 hU (fun _ _ h=>h);have hT1:aa (S2 b p p1) W1 W1 F' ((k,[.pointer (some ⟨b,0,none⟩)]),[.int .i64 0]):=(aa.same hS1).drop;refine wp_seq (wp_region_list (Fk (N:=iG.N) (l:=vn) (K:=fun E w'=>E=[(2,SV.v (.pointer (some ⟨p1,0,none⟩)))]/\aa (S2 b p p1) W1 w' F' ((k,[.pointer (some ⟨b,0,none⟩)]),[.int .i64 0])) bf (by simp) ?_ vn.toArray.toList [(2,SV.v (.pointer (some ⟨p1,0,none⟩)))] a5 W1 ha2 ?_))
  ·rintro E a w' haa ⟨rfl,F2,t1,t2,t3⟩;refine wp_ret ?_;show LeavesInM _ _ _ _ _ _ _ _ _;have hDlt:w5.heap.size<W1.heap.size:=(Array.getElem?_eq_some_iff.1 hD).1;refine leave (a:=a) haa t1 ((hU0.trans hU (fun _ _ h=>h.elim)).trans t2 (fun i hi h=>hF0' i hi h)) (fun i hi=>?_) ((t2.ai _ hDlt (fun h=>by have:=hlt _ h;omega)).trans hD) (fun hh=>?_) e2.symm e1.symm
   ·rcases t3 i hi with h|h
    ·exact hF0 i h
    ·exact .inr (by have:=hU0.size;have:=hU.size;omega)
   ·rcases t3 _ hh with h|h
    ·have:=hlt _ h;omega
    ·omega
  ·rw[List.toList_toArray,tbt];exact il hT1 (by rfl) fun w' hS=>⟨rfl,hS⟩
end
end Go.Dav
namespace Go.Dav
open Go.Proofs
section
variable {b:Nat} {W w:World} {F:Fp} {k:K}
theorem acP (hTab:Tab W) (h0:¬F 0) (h:aa (KO b) W w F k) (hnow:k.tm.now=k.now) (c:Int):Cx 62 #[pt b,I c] w (cZ (KO b) W F (aK k c) (xe k c)):=by
 obtain⟨q,hq⟩:=KO.fix h;have hB:=KF.ai hq;obtain⟨F1,hA,_⟩:=KF.co hq;refine u62 ?_;rw[t62];refine⟨_,rfl,_,hB.av rfl,⟨(Rl hA c).mono ?_⟩⟩;rintro e w1 ⟨⟨n1,n2,rfl⟩,hU1⟩;refine⟨_,_,_,_,_,_,_,rfl,⟨fun w2 hN=>?_⟩⟩;have hS:aa (au (KO b) (Lb w1.heap.size 226)) W w2 F (k,[.bool false,.bool false,I 0,I 0,I 0,I 0]):=(h.ae hU1).add (hN.ae no) (Rw.new hN rfl) (fun i hi=>Nat.le_of_eq hi.symm);generalize w1.heap.size=p at hS⊢;refine il (vs:=dJ (aJ k.co c,n1,n2)) hS (by rfl) fun w3 hS=>?_;intro w4 q1 q2 q3 q4;replace hS:=hS.ae (af.same no q1 q2 q3 q4);have hL:=bE hS;obtain⟨F0,hK0,kK0⟩:=hS.left;refine⟨_,hL.cell rfl,_,hL.cell rfl,_,hL.cell rfl,_,hL.cell rfl,_,hL.cell rfl,_,hL.cell rfl,⟨(acy (aa.same hK0) c).mono ?_⟩⟩;rintro e w5 ⟨rfl,hT5⟩;replace hS:=kK0 _ _ hT5;have hL5:=bE hS;refine⟨_,_,_,_,_,_,_,_,_,rfl,fun j v hv=>hL5.cell hv,⟨(ZL (aJ k.co c,n1,n2) (cC k c) w5).mono ?_⟩⟩;rintro e w6 ⟨rfl,hU6⟩;replace hS:=hS.ae hU6
 have last:∀(w7:World),aa (KO b) W w7 F k->aA Tryz.prog qQ vz (vQ (some ⟨b,0,none⟩) c (cw k c)) w7 (wq (cZ (KO b) W F (aK k c) (xe k c))):=by
  intro w7 h7;refine aA.mk ?_;rw[ahp];obtain⟨q7,hq7⟩:=KO.fix h7;unfold aK xe;refine⟨fun g=>?_,fun g=>⟨fun g1=>?_,fun g1=>⟨fun g2=>?_,fun g2=>⟨fun g3=>?_,fun g3=>⟨fun g4=>?_,fun g4=>?_⟩⟩⟩⟩⟩
  ·have g:cw k c=0:=by simpa using g
   rw[if_pos g,if_pos (.inl g)];exact cZ.nil h7
  ·have g:¬cw k c=0:=by simpa using g
   have g1:cw k c=1:=by simpa using g1
   rw[if_neg g,if_pos g1,if_pos (.inr (.inl g1))];intro w8 q1 q2 q3 q4;replace hq7:=hq7.ae (af.same no q1 q2 q3 q4);obtain⟨F8,hA8,kA8⟩:=KF.co hq7;refine⟨_,rfl,_,(KF.ai hq7).av rfl,_,rfl,_,(KF.ai hq7).cell rfl,⟨(Z2 hA8 c k.now).mono ?_⟩⟩;rintro e w9 ⟨⟨n,m,rfl⟩,hT9⟩;exact⟨_,_,rfl,cZ.nil (KF.loose (kA8 _ _ hT9))⟩
  ·have g:¬cw k c=0:=by simpa using g
   have g1:¬cw k c=1:=by simpa using g1
   have g2:cw k c=2:=by simpa using g2
   rw[if_neg g,if_neg g1,if_pos g2,if_pos (.inr (.inr (.inl g2)))];obtain⟨F8,hA8,kA8⟩:=KF.so hq7;refine⟨_,rfl,_,(KF.ai hq7).av rfl,⟨(X7 hA8 c).mono ?_⟩⟩;rintro e w9 ⟨rfl,hT9⟩;exact⟨_,rfl,cZ.nil (KF.loose (kA8 _ _ hT9))⟩
  ·have g:¬cw k c=0:=by simpa using g
   have g1:¬cw k c=1:=by simpa using g1
   have g2:¬cw k c=2:=by simpa using g2
   have g3:cw k c=3:=by simpa using g3
   rw[if_neg g,if_neg g1,if_neg g2,if_pos g3,if_neg (by omega),if_pos g3];refine⟨(acT hTab h0 h7 c).mono ?_⟩;rintro e w9 ⟨pp,d,rfl,hT⟩;exact⟨_,_,_,rfl,pp,d,rfl,hT⟩
  ·have g:¬cw k c=0:=by simpa using g
   have g1:¬cw k c=1:=by simpa using g1
   have g2:¬cw k c=2:=by simpa using g2
   have g3:¬cw k c=3:=by simpa using g3
   have g4:cw k c=9:=by simpa using g4
   rw[if_neg g,if_neg g1,if_neg g2,if_neg g3,if_pos g4,if_pos (.inr (.inr (.inr g4)))];refine⟨(acD h7 hnow c).mono ?_⟩;rintro e w9 ⟨rfl,hT⟩;exact⟨rfl,cZ.nil hT⟩
  ·have g:¬cw k c=0:=by simpa using g
   have g1:¬cw k c=1:=by simpa using g1
   have g2:¬cw k c=2:=by simpa using g2
   have g3:¬cw k c=3:=by simpa using g3
   have g4:¬cw k c=9:=by simpa using g4
   rw[if_neg g,if_neg g1,if_neg g2,if_neg g3,if_neg g4,if_neg (by omega),if_neg g3];refine⟨(acQ hTab h0 h7 c _).mono ?_⟩;rintro e w9 ⟨pp,d,rfl,hT⟩;exact⟨_,_,_,rfl,pp,d,rfl,hT⟩
 refine⟨_,rfl,_,(bE hS).cell rfl,fun g=>?_,fun g=>last _ hS.drop⟩;obtain⟨q6,hq6⟩:=KO.fix hS.drop;obtain⟨F6,hA6,kA6⟩:=KF.co hq6;refine⟨_,rfl,_,(KF.ai hq6).av rfl,fun g2=>⟨(Rk hA6 c _).mono ?_⟩,fun g2=>⟨(Rk hA6 c false).mono ?_⟩⟩
 ·rintro e w8 ⟨⟨n,rfl⟩,hT8⟩;exact⟨_,rfl,last _ (KF.loose (kA6 _ _ hT8))⟩
 ·rintro e w8 ⟨⟨n,rfl⟩,hT8⟩;exact⟨_,rfl,last _ (KF.loose (kA6 _ _ hT8))⟩
theorem acK (hTab:Tab W) (h0:¬F 0) (h:aa (KO b) W w F k) (e:aU):Cx 71 #[pt b,.agg (eR e).toArray] w (cZ (KO b) W F (fA k e) (mP k e)):=by
 refine u71 ?_;rw[t71];refine⟨fun w1 hN=>?_⟩;have hS:aa (au (KO b) (Lb w.heap.size 33)) W w1 F (k,eR e):=h.add (hN.ae no) (Rw.new hN rfl) (fun i hi=>Nat.le_of_eq hi.symm);generalize w.heap.size=p at hS⊢;have hL:=bE hS;have hd:aa (KO b) W w1 F k:=hS.drop;refine⟨_,hL.cell rfl,fun g=>?_,fun g=>⟨fun g1=>?_,fun g1=>⟨fun g2=>?_,fun g2=>⟨fun g3=>?_,fun g3=>⟨fun g4=>?_,fun g4=>⟨fun g5=>?_,fun g5=>⟨fun g6=>?_,fun g6=>?_⟩⟩⟩⟩⟩⟩⟩
 ·have g:e.1=11:=by simpa using g
  refine⟨_,hL.cell rfl,⟨(acp hd e.2.2.1).mono ?_⟩⟩;rintro e' w2 ⟨rfl,hT⟩;exact⟨_,rfl,⟨dP (x:=yS k e.2.2.1) hT (by unfold fA;rw[if_pos g]) (by unfold mP;rw[if_pos g])⟩⟩
 ·have g:¬e.1=11:=by simpa using g
  have g1:e.1=19:=by simpa using g1
  refine⟨_,hL.cell rfl,⟨(acz hd e.2.2.1).mono ?_⟩⟩;rintro e' w2 ⟨rfl,rfl⟩;exact⟨_,_,rfl,⟨nW (x:=vX k e.2.2.1) hd (by unfold fA;rw[if_neg g,if_pos g1]) (by unfold mP;rw[if_neg g,if_pos g1])⟩⟩
 ·have g:¬e.1=11:=by simpa using g
  have g1:¬e.1=19:=by simpa using g1
  have g2:e.1=25:=by simpa using g2
  refine⟨_,hL.cell rfl,⟨(acI hd e.2.2.2.2).mono ?_⟩⟩;rintro e' w2 ⟨rfl,hT⟩;exact⟨_,rfl,⟨dP (x:=iW e.2.2.2.2) hT (by unfold fA;rw[if_neg g,if_neg g1,if_pos g2]) (by unfold mP;rw[if_neg g,if_neg g1,if_pos g2])⟩⟩
 ·have g:¬e.1=11:=by simpa using g
  have g1:¬e.1=19:=by simpa using g1
  have g2:¬e.1=25:=by simpa using g2
  have g3:e.1=27:=by simpa using g3
  intro w3 q1 q2 q3 q4;have hS:=hS.ae (af.same no q1 q2 q3 q4);obtain⟨q,F1,_,hK,kK⟩:=KS.fix hS;obtain⟨F2,hA,kA⟩:=KF.ga hK;refine⟨_,rfl,_,(KF.ai hK).av rfl,_,(bE hS).cell rfl,⟨(aby hA e.2.1).mono ?_⟩⟩;rintro e' w4 ⟨rfl,hT⟩;exact⟨_,rfl,⟨dP (x:=mB k.ga e.2.1) (kK _ _ (kA _ _ hT)).drop (by unfold fA;rw[if_neg g,if_neg g1,if_neg g2,if_pos g3]) (by unfold mP;rw[if_neg g,if_neg g1,if_neg g2,if_pos g3])⟩⟩
 ·have g:¬e.1=11:=by simpa using g
  have g1:¬e.1=19:=by simpa using g1
  have g2:¬e.1=25:=by simpa using g2
  have g3:¬e.1=27:=by simpa using g3
  have g4:e.1=28:=by simpa using g4
  refine⟨_,hL.cell rfl,⟨(acE hd e.2.2.2.2).mono ?_⟩⟩;rintro e' w2 ⟨rfl,hT⟩;exact⟨_,rfl,⟨dP (x:=wt e.2.2.2.2) hT (by unfold fA;rw[if_neg g,if_neg g1,if_neg g2,if_neg g3,if_pos g4]) (by unfold mP;rw[if_neg g,if_neg g1,if_neg g2,if_neg g3,if_pos g4])⟩⟩
 ·have g:¬e.1=11:=by simpa using g
  have g1:¬e.1=19:=by simpa using g1
  have g2:¬e.1=25:=by simpa using g2
  have g3:¬e.1=27:=by simpa using g3
  have g4:¬e.1=28:=by simpa using g4
  have g5:e.1=29:=by simpa using g5
  refine⟨_,hL.cell rfl,_,hL.cell rfl,⟨(acN hd e.2.2.1 e.2.2.2.2).mono ?_⟩⟩;rintro e' w2 ⟨rfl,hT⟩;exact⟨_,rfl,⟨dP (x:=A5 e.2.2.1 e.2.2.2.2) hT (by unfold fA;rw[if_neg g,if_neg g1,if_neg g2,if_neg g3,if_neg g4,if_pos g5]) (by unfold mP;rw[if_neg g,if_neg g1,if_neg g2,if_neg g3,if_neg g4,if_pos g5])⟩⟩
 ·have g:¬e.1=11:=by simpa using g
  have g1:¬e.1=19:=by simpa using g1
  have g2:¬e.1=25:=by simpa using g2
  have g3:¬e.1=27:=by simpa using g3
  have g4:¬e.1=28:=by simpa using g4
  have g5:¬e.1=29:=by simpa using g5
  have g6:e.1=30:=by simpa using g6
  refine⟨(aci hTab h0 hd).mono ?_⟩;rintro e' w2 ⟨rfl,hT⟩;exact⟨_,rfl,⟨nW (x:=(oi k,0)) hT (by unfold fA;rw[if_neg g,if_neg g1,if_neg g2,if_neg g3,if_neg g4,if_neg g5,if_pos g6]) (by unfold mP;rw[if_neg g,if_neg g1,if_neg g2,if_neg g3,if_neg g4,if_neg g5,if_pos g6])⟩⟩
 ·have g:¬e.1=11:=by simpa using g
  have g1:¬e.1=19:=by simpa using g1
  have g2:¬e.1=25:=by simpa using g2
  have g3:¬e.1=27:=by simpa using g3
  have g4:¬e.1=28:=by simpa using g4
  have g5:¬e.1=29:=by simpa using g5
  have g6:¬e.1=30:=by simpa using g6
  exact⟨dP (x:=2) hd (by unfold fA;rw[if_neg g,if_neg g1,if_neg g2,if_neg g3,if_neg g4,if_neg g5,if_neg g6]) (by unfold mP;rw[if_neg g,if_neg g1,if_neg g2,if_neg g3,if_neg g4,if_neg g5,if_neg g6])⟩
theorem ka {f:FuncId} {args:Array Value} {k':K} {rs rs':List Rc} (h:Cx f args w (cZ (KO b) W F k rs)) (e1:k=k') (e2:rs=rs'):Cx f args w fun e w'=>∃p n c,e=Z (.slice p n c)/\cZ (KO b) W F k' rs' (.returned (.slice p n c)) w':=by
 subst e1;subst e2;refine h.mono ?_;rintro e w1 ⟨p,c,rfl,hT⟩;exact⟨_,_,_,rfl,p,c,rfl,hT⟩
theorem sQ {e:aU} (h:4<=e.1/\e.1<=9):eI k e=bX k e/\lY k e=cO k e:=by
 unfold bX cO;simp only[if_neg (show ¬e.1=1 by omega),if_neg (show ¬e.1=2 by omega),if_neg (show ¬e.1=3 by omega),if_pos h];exact⟨trivial,trivial⟩
theorem sO {e:aU} (h:12<=e.1/\e.1<=17):jW k e=bX k e/\df (nF k e)=cO k e:=by
 unfold bX cO;simp only[if_neg (show ¬e.1=1 by omega),if_neg (show ¬e.1=2 by omega),if_neg (show ¬e.1=3 by omega),if_neg (show ¬(4<=e.1/\e.1<=9) by omega),if_pos h];exact⟨trivial,trivial⟩
theorem sP {e:aU} (h:e.1=10∨e.1=20∨e.1=21∨e.1=22∨e.1=26∨(e.1=18/\¬e.2.1 = -1)):fG k e=bX k e/\mI k e=cO k e:=by
 unfold bX cO;simp only[if_neg (show ¬e.1=1 by omega),if_neg (show ¬e.1=2 by omega),if_neg (show ¬e.1=3 by omega),if_neg (show ¬(4<=e.1/\e.1<=9) by omega),if_neg (show ¬(12<=e.1/\e.1<=17) by omega)];by_cases h18:e.1=18
 ·rw[if_pos h18,if_pos h18,if_neg (by omega),if_neg (by omega)];exact⟨rfl,rfl⟩
 ·rw[if_neg h18,if_neg h18,if_pos (by omega),if_pos (by omega)];exact⟨rfl,rfl⟩
theorem RV {e:aU} (h:e.1=23∨e.1=24):bP k (decide (e.1=23)) e.2.1=bX k e/\df (fz k (decide (e.1=23)) e.2.1)=cO k e:=by
 unfold bX cO;simp only[if_neg (show ¬e.1=1 by omega),if_neg (show ¬e.1=2 by omega),if_neg (show ¬e.1=3 by omega),if_neg (show ¬(4<=e.1/\e.1<=9) by omega),if_neg (show ¬(12<=e.1/\e.1<=17) by omega),if_neg (show ¬e.1=18 by omega),if_neg (show ¬(e.1=10∨e.1=20∨e.1=21∨e.1=22∨e.1=26) by omega),if_pos h];exact⟨trivial,trivial⟩
theorem qd (hTab:Tab W) (h0:¬F 0) (h:aa (KO b) W w F k) (hnow:k.tm.now=k.now) (e:aU):Cx 12 #[pt b,.agg (eR e).toArray] w (cZ (KO b) W F (bX k e) (cO k e)):=by
 have hn:1<=k.n:=by
  obtain⟨q,hq⟩:=KO.fix h;exact(KF.num hq).1
 refine u12 ?_;rw[t12];refine⟨fun w1 hN=>?_⟩;have hS:aa (au (KO b) (Lb w.heap.size 33)) W w1 F (k,eR e):=h.add (hN.ae no) (Rw.new hN rfl) (fun i hi=>Nat.le_of_eq hi.symm);generalize w.heap.size=p at hS⊢;have hL:=bE hS;have hd:aa (KO b) W w1 F k:=hS.drop;refine⟨fun g=>(by cases g),fun _=>⟨_,hL.cell rfl,fun g1=>?c1,fun g1=>⟨fun g2=>?c2,fun g2=>⟨fun g3=>?c3,fun g3=>⟨fun g4=>?c4,fun g4=>⟨fun g5=>?c5,fun g5=>⟨fun g6=>?c6,fun g6=>⟨fun g7=>?c7,fun g7=>⟨fun g8=>?c8,fun g8=>⟨fun g9=>?c9,fun g9=>⟨fun g12=>?vt,fun g12=>⟨fun g13=>?YQ,fun g13=>⟨fun g14=>?xP,fun g14=>⟨fun g15=>?YS,fun g15=>⟨fun g16=>?xS,fun g16=>⟨fun g17=>?sE,fun g17=>⟨fun g18=>?xX,fun g18=>⟨fun g10=>?sD,fun g10=>⟨fun g20=>?ya,fun g20=>⟨fun g21=>?sG,fun g21=>⟨fun g22=>?yf,fun g22=>⟨fun g26=>?Y2,fun g26=>⟨fun g23=>?yi,fun g23=>⟨fun g24=>?yl,fun g24=>?c0⟩⟩⟩⟩⟩⟩⟩⟩⟩⟩⟩⟩⟩⟩⟩⟩⟩⟩⟩⟩⟩⟩⟩⟩
 case c1=>
  have g1:e.1=1:=by simpa using g1
  have e1:bX k e=if e.2.1<0∨k.n<=e.2.1 then k else aK k e.2.1:=by unfold bX;rw[if_pos g1]
  have e2:cO k e=if e.2.1<0∨k.n<=e.2.1 then df 3 else xe k e.2.1:=by unfold cO;rw[if_pos g1]
  rw[e1,e2];intro w2 q1 q2 q3 q4;replace hS:=hS.ae (af.same no q1 q2 q3 q4);have hL:=bE hS;obtain⟨q,hq⟩:=KO.fix hS.drop;refine⟨_,hL.cell rfl,fun g=>⟨_,hL.cell rfl,_,rfl,_,(KF.ai hq).cell rfl,fun g2=>⟨dP (x:=3) hS.drop ?_ ?_⟩,fun g2=>⟨_,hL.cell rfl,⟨ka (acP hTab h0 hS.drop hnow e.2.1) ?_ ?_⟩⟩⟩,fun g=>⟨dP (x:=3) hS.drop ?_ ?_⟩⟩
  ·rw[if_pos (.inr (of_decide_eq_true g2))]
  ·rw[if_pos (.inr (of_decide_eq_true g2))]
  ·have:=of_decide_eq_false g;have:=of_decide_eq_false g2;dsimp only at this;rw[if_neg (by omega)]
  ·have:=of_decide_eq_false g;have:=of_decide_eq_false g2;dsimp only at this;rw[if_neg (by omega)]
  ·rw[if_pos (.inl (of_decide_eq_true g))]
  ·rw[if_pos (.inl (of_decide_eq_true g))]
 case c2=>
  have g1:¬e.1=1:=by simpa using g1
  have g2:e.1=2:=by simpa using g2
  refine⟨_,hL.cell rfl,⟨(acR hd e.2.2.2.2).mono ?_⟩⟩;rintro e' w2 ⟨rfl,hT⟩;exact⟨_,rfl,⟨dP (x:=Bc k e.2.2.2.2) hT (by unfold bX;rw[if_neg g1,if_pos g2]) (by unfold cO;rw[if_neg g1,if_pos g2])⟩⟩
 case c3=>
  have g1:¬e.1=1:=by simpa using g1
  have g2:¬e.1=2:=by simpa using g2
  have g3:e.1=3:=by simpa using g3
  refine⟨_,hL.cell rfl,_,hL.cell rfl,⟨(acM hTab h0 hn hd e.2.2.1 e.2.2.2.1).mono ?_⟩⟩;rintro e' w2 ⟨rfl,hT⟩;exact⟨_,_,rfl,⟨nW (x:=xd k e.2.2.1 e.2.2.2.1) hT (by unfold bX;rw[if_neg g1,if_neg g2,if_pos g3]) (by unfold cO;rw[if_neg g1,if_neg g2,if_pos g3])⟩⟩
 case c4=>
  have g:e.1=4:=by simpa using g4
  obtain⟨e1,e2⟩:=sQ (k:=k) (e:=e) (by omega);exact⟨_,hL.cell rfl,_,hL.cell rfl,_,hL.cell rfl,_,hL.cell rfl,_,hL.cell rfl,⟨ka (tD hTab h0 hd e) e1 e2⟩⟩
 case c5=>
  have g:e.1=5:=by simpa using g5
  obtain⟨e1,e2⟩:=sQ (k:=k) (e:=e) (by omega);exact⟨_,hL.cell rfl,_,hL.cell rfl,_,hL.cell rfl,_,hL.cell rfl,_,hL.cell rfl,⟨ka (tD hTab h0 hd e) e1 e2⟩⟩
 case c6=>
  have g:e.1=6:=by simpa using g6
  obtain⟨e1,e2⟩:=sQ (k:=k) (e:=e) (by omega);exact⟨_,hL.cell rfl,_,hL.cell rfl,_,hL.cell rfl,_,hL.cell rfl,_,hL.cell rfl,⟨ka (tD hTab h0 hd e) e1 e2⟩⟩
 case c7=>
  have g:e.1=7:=by simpa using g7
  obtain⟨e1,e2⟩:=sQ (k:=k) (e:=e) (by omega);exact⟨_,hL.cell rfl,_,hL.cell rfl,_,hL.cell rfl,_,hL.cell rfl,_,hL.cell rfl,⟨ka (tD hTab h0 hd e) e1 e2⟩⟩
 case c8=>
  have g:e.1=8:=by simpa using g8
  obtain⟨e1,e2⟩:=sQ (k:=k) (e:=e) (by omega);exact⟨_,hL.cell rfl,_,hL.cell rfl,_,hL.cell rfl,_,hL.cell rfl,_,hL.cell rfl,⟨ka (tD hTab h0 hd e) e1 e2⟩⟩
 case c9=>
  have g:e.1=9:=by simpa using g9
  obtain⟨e1,e2⟩:=sQ (k:=k) (e:=e) (by omega);exact⟨_,hL.cell rfl,_,hL.cell rfl,_,hL.cell rfl,_,hL.cell rfl,_,hL.cell rfl,⟨ka (tD hTab h0 hd e) e1 e2⟩⟩
 case vt=>
  have g:e.1=12:=by simpa using g12
  obtain⟨e1,e2⟩:=sO (k:=k) (e:=e) (by omega);refine⟨_,hL.cell rfl,_,hL.cell rfl,_,hL.cell rfl,_,hL.cell rfl,_,hL.cell rfl,⟨(tx hTab h0 hn hd e).mono ?_⟩⟩;rintro e' w2 ⟨rfl,hT⟩;exact⟨_,rfl,⟨dP (x:=nF k e) hT e1 e2.symm⟩⟩
 case YQ=>
  have g:e.1=13:=by simpa using g13
  obtain⟨e1,e2⟩:=sO (k:=k) (e:=e) (by omega);refine⟨_,hL.cell rfl,_,hL.cell rfl,_,hL.cell rfl,_,hL.cell rfl,_,hL.cell rfl,⟨(tx hTab h0 hn hd e).mono ?_⟩⟩;rintro e' w2 ⟨rfl,hT⟩;exact⟨_,rfl,⟨dP (x:=nF k e) hT e1 e2.symm⟩⟩
 case xP=>
  have g:e.1=14:=by simpa using g14
  obtain⟨e1,e2⟩:=sO (k:=k) (e:=e) (by omega);refine⟨_,hL.cell rfl,_,hL.cell rfl,_,hL.cell rfl,_,hL.cell rfl,_,hL.cell rfl,⟨(tx hTab h0 hn hd e).mono ?_⟩⟩;rintro e' w2 ⟨rfl,hT⟩;exact⟨_,rfl,⟨dP (x:=nF k e) hT e1 e2.symm⟩⟩
 case YS=>
  have g:e.1=15:=by simpa using g15
  obtain⟨e1,e2⟩:=sO (k:=k) (e:=e) (by omega);refine⟨_,hL.cell rfl,_,hL.cell rfl,_,hL.cell rfl,_,hL.cell rfl,_,hL.cell rfl,⟨(tx hTab h0 hn hd e).mono ?_⟩⟩;rintro e' w2 ⟨rfl,hT⟩;exact⟨_,rfl,⟨dP (x:=nF k e) hT e1 e2.symm⟩⟩
 case xS=>
  have g:e.1=16:=by simpa using g16
  obtain⟨e1,e2⟩:=sO (k:=k) (e:=e) (by omega);refine⟨_,hL.cell rfl,_,hL.cell rfl,_,hL.cell rfl,_,hL.cell rfl,_,hL.cell rfl,⟨(tx hTab h0 hn hd e).mono ?_⟩⟩;rintro e' w2 ⟨rfl,hT⟩;exact⟨_,rfl,⟨dP (x:=nF k e) hT e1 e2.symm⟩⟩
 case sE=>
  have g:e.1=17:=by simpa using g17
  obtain⟨e1,e2⟩:=sO (k:=k) (e:=e) (by omega);refine⟨_,hL.cell rfl,_,hL.cell rfl,_,hL.cell rfl,_,hL.cell rfl,_,hL.cell rfl,⟨(tx hTab h0 hn hd e).mono ?_⟩⟩;rintro e' w2 ⟨rfl,hT⟩;exact⟨_,rfl,⟨dP (x:=nF k e) hT e1 e2.symm⟩⟩
 case xX=>
  have g:e.1=18:=by simpa using g18
  refine⟨_,hL.cell rfl,fun g2=>?_,fun g2=>?_⟩
  ·have g2:e.2.1 = -1:=by simpa using g2
   obtain⟨q,F1,_,hK,kK⟩:=KS.fix hS;obtain⟨F2,hA,kA⟩:=KF.wk hK;refine⟨_,rfl,_,(KF.ai hK).av rfl,⟨(XS hA (hS.i7 hTab h0) (-1)).mono ?_⟩⟩;rintro e' w4 ⟨rfl,hT⟩;refine⟨_,_,rfl,⟨nW (x:=qn k.wk (-1)) (kK _ _ (kA _ _ hT)).drop ?_ ?_⟩⟩
   ·unfold bX;rw[if_neg (by omega),if_neg (by omega),if_neg (by omega),if_neg (by omega),if_neg (by omega),if_pos g,if_pos g2]
   ·unfold cO;rw[if_neg (by omega),if_neg (by omega),if_neg (by omega),if_neg (by omega),if_neg (by omega),if_pos g,if_pos g2]
  ·have g2:¬e.2.1 = -1:=by simpa using g2
   obtain⟨e1,e2⟩:=sP (k:=k) (e:=e) (by omega);exact⟨_,hL.cell rfl,_,hL.cell rfl,_,hL.cell rfl,_,hL.cell rfl,_,hL.cell rfl,⟨ka (tC hTab h0 hd e) e1 e2⟩⟩
 case sD=>
  have g:e.1=10:=by simpa using g10
  obtain⟨e1,e2⟩:=sP (k:=k) (e:=e) (by omega);exact⟨_,hL.cell rfl,_,hL.cell rfl,_,hL.cell rfl,_,hL.cell rfl,_,hL.cell rfl,⟨ka (tC hTab h0 hd e) e1 e2⟩⟩
 case ya=>
  have g:e.1=20:=by simpa using g20
  obtain⟨e1,e2⟩:=sP (k:=k) (e:=e) (by omega);exact⟨_,hL.cell rfl,_,hL.cell rfl,_,hL.cell rfl,_,hL.cell rfl,_,hL.cell rfl,⟨ka (tC hTab h0 hd e) e1 e2⟩⟩
 case sG=>
  have g:e.1=21:=by simpa using g21
  obtain⟨e1,e2⟩:=sP (k:=k) (e:=e) (by omega);exact⟨_,hL.cell rfl,_,hL.cell rfl,_,hL.cell rfl,_,hL.cell rfl,_,hL.cell rfl,⟨ka (tC hTab h0 hd e) e1 e2⟩⟩
 case yf=>
  have g:e.1=22:=by simpa using g22
  obtain⟨e1,e2⟩:=sP (k:=k) (e:=e) (by omega);exact⟨_,hL.cell rfl,_,hL.cell rfl,_,hL.cell rfl,_,hL.cell rfl,_,hL.cell rfl,⟨ka (tC hTab h0 hd e) e1 e2⟩⟩
 case Y2=>
  have g:e.1=26:=by simpa using g26
  obtain⟨e1,e2⟩:=sP (k:=k) (e:=e) (by omega);exact⟨_,hL.cell rfl,_,hL.cell rfl,_,hL.cell rfl,_,hL.cell rfl,_,hL.cell rfl,⟨ka (tC hTab h0 hd e) e1 e2⟩⟩
 case yi=>
  have g:e.1=23:=by simpa using g23
  obtain⟨e1,e2⟩:=RV (k:=k) (e:=e) (by omega);refine⟨_,hL.cell rfl,_,hL.cell rfl,⟨(UM hTab h0 hd (decide (e.1=23)) e.2.1).mono ?_⟩⟩;rintro e' w2 ⟨rfl,hT⟩;exact⟨_,rfl,⟨dP (x:=fz k (decide (e.1=23)) e.2.1) hT e1 e2.symm⟩⟩
 case yl=>
  have g:e.1=24:=by simpa using g24
  obtain⟨e1,e2⟩:=RV (k:=k) (e:=e) (by omega);refine⟨_,hL.cell rfl,_,hL.cell rfl,⟨(UM hTab h0 hd (decide (e.1=23)) e.2.1).mono ?_⟩⟩;rintro e' w2 ⟨rfl,hT⟩;exact⟨_,rfl,⟨dP (x:=fz k (decide (e.1=23)) e.2.1) hT e1 e2.symm⟩⟩
 case c0=>
  have g1:¬e.1=1:=by simpa using g1
  have g2:¬e.1=2:=by simpa using g2
  have g3:¬e.1=3:=by simpa using g3
  have g4:¬e.1=4:=by simpa using g4
  have g5:¬e.1=5:=by simpa using g5
  have g6:¬e.1=6:=by simpa using g6
  have g7:¬e.1=7:=by simpa using g7
  have g8:¬e.1=8:=by simpa using g8
  have g9:¬e.1=9:=by simpa using g9
  have g12:¬e.1=12:=by simpa using g12
  have g13:¬e.1=13:=by simpa using g13
  have g14:¬e.1=14:=by simpa using g14
  have g15:¬e.1=15:=by simpa using g15
  have g16:¬e.1=16:=by simpa using g16
  have g17:¬e.1=17:=by simpa using g17
  have g18:¬e.1=18:=by simpa using g18
  have g10:¬e.1=10:=by simpa using g10
  have g20:¬e.1=20:=by simpa using g20
  have g21:¬e.1=21:=by simpa using g21
  have g22:¬e.1=22:=by simpa using g22
  have g26:¬e.1=26:=by simpa using g26
  have g23:¬e.1=23:=by simpa using g23
  have g24:¬e.1=24:=by simpa using g24
  have e1:fA k e=bX k e:=by
   unfold bX;rw[if_neg (by omega),if_neg (by omega),if_neg (by omega),if_neg (by omega),if_neg (by omega),if_neg (by omega),if_neg (by omega),if_neg (by omega)]
  have e2:mP k e=cO k e:=by
   unfold cO;rw[if_neg (by omega),if_neg (by omega),if_neg (by omega),if_neg (by omega),if_neg (by omega),if_neg (by omega),if_neg (by omega),if_neg (by omega)]
  refine aA.mk ?_;rw[agr];exact⟨_,hL.cell rfl,_,hL.cell rfl,_,hL.cell rfl,_,hL.cell rfl,_,hL.cell rfl,⟨ka (acK hTab h0 hd e) e1 e2⟩⟩
end
end Go.Dav
namespace Go.Dav
open Go.Proofs
theorem gH.perm {σ:Type} {A:Ob σ} {w:World} {l l':List σ} (h:l.Perm l'):∀{F:Fp},Fam A w F l->Fam A w F l':=by
 induction h with
 | nil=>exact fun h=>h
 | cons x _ ih=>
  rintro F ⟨F1,F2,h1,h2,h3,h4⟩
  exact⟨F1,F2,h1,ih h2,h3,h4⟩
 | swap x y l=>
  rintro F ⟨F1,F2,h1,⟨F3,F4,k1,k2,k3,k4⟩,h3,h4⟩;refine⟨F3,fun i=>F1 i∨F4 i,k1,⟨F1,F4,h1,k2,fun _=>Iff.rfl,fun i hi hf=>h4 i hi ((k3 i).2 (.inr hf))⟩,fun i=>?_,fun i hi hf=>?_⟩
  ·rw[h3,k3];constructor
   ·rintro(h|h|h)
    ·exact .inr (.inl h)
    ·exact .inl h
    ·exact .inr (.inr h)
   ·rintro(h|h|h)
    ·exact .inr (.inl h)
    ·exact .inl h
    ·exact .inr (.inr h)
  ·rcases hf with h|h
   ·exact h4 i h ((k3 i).2 (.inl hi))
   ·exact k4 i hi h
 | trans _ _ ih1 ih2=>exact fun h=>ih2 (ih1 h)
abbrev ie (b:Nat) (W w:World) (l:List KP) (c:List Value):Prop:=bh W w (au (Fam (rS b)) (Rw b 94 (fun s=>s))) (l,c)
section
variable {b:Nat} {W w w':World} {l:List KP} {c:List Value}
theorem ie.push (h:ie b W w l c) (hU:af no w w') {s:KP} {G:Fp} (hA:rS b w' G s) (hG:∀i,G i->w.heap.size<=i):ie b W w' (l++[s]) c:=by
 obtain⟨F1,h1,k1⟩:=bh.left h;exact k1 _ _ (Fam.push h1 hU hA hG)
theorem ie.wr (h:ie b W w l c) {o:Nat} {v:List Value} (c':List Value) (hc:aI c o v=c') (ho:o+v.length<=c.length) {K:World->Prop} (hK:∀w',ie b W w' l c'->K w'):Wr w (((⟨b,0,none⟩:Addr).add 0).add o) v K:=by
 obtain⟨F2,h2,k2⟩:=bh.right h;have e:((⟨b,0,none⟩:Addr).add 0).add o=(⟨b,0,none⟩:Addr).add o:=by simp[add_lit]
 rw[e];subst hc;exact h2.ai.wr ho fun w' hW=>hK w' (k2 _ _ (h2.dZ hW.U hW.aF))
theorem ie.ai (h:ie b W w l c):aE w b c 94:=by
 obtain⟨F2,h2,_⟩:=bh.right h;exact h2.ai
end
theorem afo (n:Nat) (hn:1<=n/\n<=64) (w:World):Cx 42 #[I (n:Int)] w fun e w'=>∃b F,e=Z (.tuple #[pt b,I 0])/\fM b w' F (n,List.replicate 16 (-1))/\af no w w'/\∀i,F i->w.heap.size<=i:=by
 refine u42 ?_;rw[t42];refine⟨fun _=>⟨fun g=>?_,fun _=>⟨fun w1 hN=>⟨w.heap.size,fun i=>i=w.heap.size,rfl,⟨Rw.new hN rfl,⟨by simp,?_,fun v hv=>?_⟩⟩,hN.ae no,fun i hi=>Nat.le_of_eq hi.symm⟩⟩⟩,fun g=>?_⟩
 ·have:=of_decide_eq_true g;omega
 ·simp only;omega
 ·rw[List.eq_of_mem_replicate hv];omega
 ·have:=of_decide_eq_true g;omega
theorem adY (p:Option Addr) (n:Int) (w:World):Cx 33 #[.pointer p,I n] w fun e w'=>e=Z (.pointer p)/\w'=w:=by
 refine u33 ?_;rw[t33];exact⟨rfl,rfl⟩
theorem adU (p:Option Addr) (n:Int) (w:World):Cx 35 #[.pointer p,I n] w fun e w'=>e=Z (.pointer p)/\w'=w:=by
 refine u35 ?_;rw[t35];exact⟨rfl,rfl⟩
theorem adZ (p:Option Addr) (n:Int) (w:World):Cx 37 #[.pointer p,I n] w fun e w'=>e=Z (.pointer p)/\w'=w:=by
 refine u37 ?_;rw[t37];exact⟨rfl,rfl⟩
theorem adS (p:Option Addr) (n:Int) (w:World):Cx 39 #[.pointer p,I n] w fun e w'=>e=Z (.pointer p)/\w'=w:=by
 refine u39 ?_;rw[t39];exact⟨rfl,rfl⟩
theorem adV (p:Option Addr) (n:Int) (w:World):Cx 41 #[.pointer p,I n] w fun e w'=>e=Z (.pointer p)/\w'=w:=by
 refine u41 ?_;rw[t41];exact⟨rfl,rfl⟩
theorem ad0 (p:Option Addr) (n:Int) (w:World):Cx 43 #[.pointer p,I n] w fun e w'=>e=Z (.pointer p)/\w'=w:=by
 refine u43 ?_;rw[t43];exact⟨rfl,rfl⟩
theorem adO (p:Option Addr) (n:Int) (w:World):Cx 45 #[.pointer p,I n] w fun e w'=>e=Z (.pointer p)/\w'=w:=by
 refine u45 ?_;rw[t45];exact⟨rfl,rfl⟩
theorem adX (p:Option Addr) (n:Int) (w:World):Cx 47 #[.pointer p,I n] w fun e w'=>e=Z (.pointer p)/\w'=w:=by
 refine u47 ?_;rw[t47];exact⟨rfl,rfl⟩
theorem adW (p:Option Addr) (n:Int) (w:World):Cx 49 #[.pointer p,I n] w fun e w'=>e=Z (.pointer p)/\w'=w:=by
 refine u49 ?_;rw[t49];exact⟨rfl,rfl⟩
theorem adQ (p:Option Addr) (n:Int) (w:World):Cx 51 #[.pointer p,I n] w fun e w'=>e=Z (.pointer p)/\w'=w:=by
 refine u51 ?_;rw[t51];exact⟨rfl,rfl⟩
theorem adP (p:Option Addr) (n:Int) (w:World):Cx 53 #[.pointer p,I n] w fun e w'=>e=Z (.pointer p)/\w'=w:=by
 refine u53 ?_;rw[t53];exact⟨rfl,rfl⟩
theorem adT (p:Option Addr) (n:Int) (w:World):Cx 55 #[.pointer p,I n] w fun e w'=>e=Z (.pointer p)/\w'=w:=by
 refine u55 ?_;rw[t55];exact⟨rfl,rfl⟩
theorem adR (p:Option Addr) (n:Int) (w:World):Cx 57 #[.pointer p,I n] w fun e w'=>e=Z (.pointer p)/\w'=w:=by
 refine u57 ?_;rw[t57];exact⟨rfl,rfl⟩
theorem aar:dH Tryz.prog 90 137 1 8 [.pointer none]:=⟨by kernel_rfl,by kernel_rfl,rfl,by omega⟩
theorem ke.push {p:Option Addr} {c n:Nat} {w w1 w2:World} {F:Fp} (h:ke p c w F n) (hn:n<=100000) {bq:Nat} {G:Fp} (hU:af no w w1) (hQ:lB bq w1 G ()) (hG:∀i,G i->w.heap.size<=i)
  {T':TypeId} (hN:cH w1 w2 (.cells (List.toArray [pt bq]) T' (0,0))) (ty:TypeId):∃p' c' w3,(Builtin.append_ #[90,90] ty #[.slice p n c,.slice (some ⟨w1.heap.size,0,none⟩) 1 1]).run Tryz.prog w2=.ok (.slice p' (n+1) c') w3/\
   ∃F',ke p' c' w3 F' (n+1)/\af F w w3/\∀i,F' i->F i∨w.heap.size<=i:=by
 obtain⟨qs,hl,F1,F2,h1,h2,h3,h4⟩:=h;subst hl;have hS1:=h1.2.ae hU (fun _ _ h=>h);obtain⟨p',c',w3,hr,hS,hU3,hF3⟩:=LJ aar (v:=pt bq) rfl hS1 (by dsimp only;omega) (by dsimp only;omega) hN ty;have hTf:=Fam.push h2 hU (show At lB w1 G (bq,())from hQ) hG;obtain⟨H2,f1,f2,f3⟩:=hTf
 have hd:∀i,H2 i->¬aL p i:=fun i hi hp=>by
  rcases f3 i hi with h|h
  ·exact h4 i ((h1.1 i).2 hp) h
  ·have:=(Frame.lpo ..).lt h1 i ((h1.1 i).2 hp);omega
 have f1':Fam (At lB) w3 H2 (qs++[(bq,())]):=Frame.jx.ae f1 hU3 (fun i hi hp=>hd i hi hp);have hlt:∀i,H2 i->i<w1.heap.size:=fun i hi=>Frame.jx.lt f1 i hi;refine⟨p',c',w3,hr,fun i=>aL p' i∨H2 i,⟨qs++[(bq,())],by simp,fun i=>aL p' i,H2,⟨fun _=>Iff.rfl,?_⟩,f1',fun _=>Iff.rfl,fun i hi hf=>?_⟩,?_,fun i hi=>?_⟩
 ·simp only[List.length_append,List.length_singleton,List.map_append];exact hS
 ·rcases hF3 i hi with h|h
  ·exact hd i hf h
  ·have:=hlt i hf;omega
 ·exact(hU.mono (fun _ _ h=>h.elim)).trans hU3 (fun i hi hp=>(h3 i).2 (.inl ((h1.1 i).2 hp)))
 ·rcases hi with hi|hi
  ·rcases hF3 i hi with h|h
   ·exact .inl ((h3 i).2 (.inl ((h1.1 i).2 h)))
   ·exact .inr (Nat.le_trans hU.size h)
  ·exact(f3 i hi).imp (fun h=>(h3 i).2 (.inr h)) id
theorem aag {b:Nat} {w w':World} (hN:cH w w' (.cells (List.toArray [.pointer none,.map none]) 136 (0,0))):b7 w.heap.size w' (fun i=>i=w.heap.size) (none,fun _=>false):=by
 refine⟨none,none,⟨fun i=>i=w.heap.size,fun _=>False,⟨fun i=>i=w.heap.size,fun _=>False,Rw.new hN rfl,fun i h=>h,fun i=>by simp,fun _ _ h=>h⟩,fun i h=>h,fun i=>by simp,fun _ _ h=>h⟩,⟨rfl,fun k=>rfl,fun r hr=>(by cases hr)⟩⟩
set_option maxRecDepth 100000 in
set_option maxHeartbeats 1000000 in
theorem UK (n:Nat) (hn:1<=n/\n<=64) (w:World):Cx 8 #[I (n:Int)] w fun e w'=>∃b F,e=Z (.tuple #[pt b,I 0])/\KO b w' F (cu n)/\af no w w'/\∀i,F i->w.heap.size<=i:=by
 refine u8 ?_;rw[t8];refine⟨fun _=>⟨fun g=>(by have:=of_decide_eq_true g;omega),fun _=>⟨(tI (n:Int) w).mono ?_⟩⟩,fun g=>(by have:=of_decide_eq_true g;omega)⟩;rintro e w0 ⟨rfl,rfl⟩;refine⟨_,rfl,⟨fun w1 hNm=>⟨fun w2 hN=>?_⟩⟩⟩
 have hG:ie w1.heap.size w0 w2 [.ow w0.heap.size (fun _=>none,0)] [.pointer none,.pointer none,.pointer none,.pointer none,.pointer none,.pointer none,.pointer none,.pointer none,.pointer none,.pointer none,.pointer none,.pointer none,.pointer none,.pointer none,.slice none 0 0,I (n:Int),.int .u64 (mi (aQ n)),.int .u64 (mi (aQ n)),I 0,I 1073741824,.map (some w0.heap.size)]:=by
  refine bh.add (A:=Fam (rS w1.heap.size)) (B:=Rw w1.heap.size 94 (fun s=>s)) (w:=w1) (s:=[.ow w0.heap.size (fun _=>none,0)]) ?_ (hN.ae no) (Rw.new hN rfl) (fun i hi=>Nat.le_of_eq hi.symm);refine⟨fun i=>i=w0.heap.size,⟨fun i=>i=w0.heap.size,fun _=>False,aS.new hNm,fun i h=>h,fun i=>by simp,fun _ _ h=>h⟩,hNm.ae no,fun i hi=>Nat.le_of_eq hi.symm⟩
 generalize hb:w1.heap.size=b at hG⊢;generalize hm:w0.heap.size=m at hG⊢;refine⟨(ah2 (n:Int) _).mono ?_⟩;rintro e w3 (⟨hno,_⟩|⟨_,b_th,F_th,rfl,hX,hU,hF⟩)
 ·exact absurd ⟨by omega,by omega⟩ hno
 replace hG:=hG.push hU (s:=.th b_th (qg n)) hX hF;clear hX hF hU;refine⟨_,_,rfl,⟨(adY _ _ _).mono ?_⟩⟩;rintro e w4 ⟨rfl,rfl⟩;refine⟨_,rfl,?_⟩;refine⟨(afh (n:Int) _).mono ?_⟩;rintro e w5 (⟨hno,_⟩|⟨_,b_rq,F_rq,rfl,hX,hU,hF⟩)
 ·exact absurd ⟨by omega,by omega⟩ hno
 replace hG:=hG.push hU (s:=.rq b_rq (List.replicate n (32,[]))) hX hF;clear hX hF hU;refine⟨_,_,rfl,⟨(adU _ _ _).mono ?_⟩⟩;rintro e w6 ⟨rfl,rfl⟩;refine⟨_,rfl,_,rfl,hG.wr (o:=0) [pt b_th,.pointer none,.pointer none,.pointer none,.pointer none,.pointer none,.pointer none,.pointer none,.pointer none,.pointer none,.pointer none,.pointer none,.pointer none,.pointer none,.slice none 0 0,I (n:Int),.int .u64 (mi (aQ n)),.int .u64 (mi (aQ n)),I 0,I 1073741824,.map (some m)] rfl (Nat.le_of_ble_eq_true rfl) fun w7 hG=>⟨_,rfl,hG.wr (o:=1) [pt b_th,pt b_rq,.pointer none,.pointer none,.pointer none,.pointer none,.pointer none,.pointer none,.pointer none,.pointer none,.pointer none,.pointer none,.pointer none,.pointer none,.slice none 0 0,I (n:Int),.int .u64 (mi (aQ n)),.int .u64 (mi (aQ n)),I 0,I 1073741824,.map (some m)] rfl (Nat.le_of_ble_eq_true rfl) fun w8 hG=>?_⟩⟩;refine⟨(ah3 n hn _).mono ?_⟩;rintro e w9 ⟨b_tm,F_tm,rfl,hX,hU,hF⟩;replace hG:=hG.push hU (s:=.tm b_tm (iV n)) hX hF;clear hX hF hU;refine⟨_,_,rfl,⟨(adZ _ _ _).mono ?_⟩⟩;rintro e w10 ⟨rfl,rfl⟩;refine⟨_,rfl,?_⟩;refine⟨(ad3 (n:Int) _).mono ?_⟩;rintro e w11 (⟨hno,_⟩|⟨_,b_ir,F_ir,rfl,hX,hU,hF⟩)
 ·exact absurd ⟨by omega,by omega⟩ hno
 replace hG:=hG.push hU (s:=.ir b_ir ((n:Int),List.replicate 16 i0)) hX hF;clear hX hF hU;refine⟨_,_,rfl,⟨(adS _ _ _).mono ?_⟩⟩;rintro e w12 ⟨rfl,rfl⟩;refine⟨_,rfl,_,rfl,hG.wr (o:=2) [pt b_th,pt b_rq,pt b_tm,.pointer none,.pointer none,.pointer none,.pointer none,.pointer none,.pointer none,.pointer none,.pointer none,.pointer none,.pointer none,.pointer none,.slice none 0 0,I (n:Int),.int .u64 (mi (aQ n)),.int .u64 (mi (aQ n)),I 0,I 1073741824,.map (some m)] rfl (Nat.le_of_ble_eq_true rfl) fun w13 hG=>⟨_,rfl,hG.wr (o:=3) [pt b_th,pt b_rq,pt b_tm,pt b_ir,.pointer none,.pointer none,.pointer none,.pointer none,.pointer none,.pointer none,.pointer none,.pointer none,.pointer none,.pointer none,.slice none 0 0,I (n:Int),.int .u64 (mi (aQ n)),.int .u64 (mi (aQ n)),I 0,I 1073741824,.map (some m)] rfl (Nat.le_of_ble_eq_true rfl) fun w14 hG=>?_⟩⟩;refine⟨(afo n hn _).mono ?_⟩;rintro e w15 ⟨b_rt,F_rt,rfl,hX,hU,hF⟩;replace hG:=hG.push hU (s:=.rt b_rt ((n:Int),List.replicate 16 (-1))) hX hF;clear hX hF hU;refine⟨_,_,rfl,⟨(adV _ _ _).mono ?_⟩⟩;rintro e w16 ⟨rfl,rfl⟩;refine⟨_,rfl,?_⟩;refine⟨(amU (n:Int) _).mono ?_⟩;rintro e w17 (⟨hno,_⟩|⟨_,b_wk,F_wk,rfl,hX,hU,hF⟩)
 ·exact absurd ⟨by omega,by omega⟩ hno
 replace hG:=hG.push hU (s:=.wk b_wk (ez n)) hX hF;clear hX hF hU;refine⟨_,_,rfl,⟨(ad0 _ _ _).mono ?_⟩⟩;rintro e w18 ⟨rfl,rfl⟩;refine⟨_,rfl,_,rfl,hG.wr (o:=4) [pt b_th,pt b_rq,pt b_tm,pt b_ir,pt b_rt,.pointer none,.pointer none,.pointer none,.pointer none,.pointer none,.pointer none,.pointer none,.pointer none,.pointer none,.slice none 0 0,I (n:Int),.int .u64 (mi (aQ n)),.int .u64 (mi (aQ n)),I 0,I 1073741824,.map (some m)] rfl (Nat.le_of_ble_eq_true rfl) fun w19 hG=>⟨_,rfl,hG.wr (o:=5) [pt b_th,pt b_rq,pt b_tm,pt b_ir,pt b_rt,pt b_wk,.pointer none,.pointer none,.pointer none,.pointer none,.pointer none,.pointer none,.pointer none,.pointer none,.slice none 0 0,I (n:Int),.int .u64 (mi (aQ n)),.int .u64 (mi (aQ n)),I 0,I 1073741824,.map (some m)] rfl (Nat.le_of_ble_eq_true rfl) fun w20 hG=>?_⟩⟩;refine⟨(ZJ (n:Int) _).mono ?_⟩;rintro e w21 (⟨hno,_⟩|⟨_,b_ca,F_ca,rfl,hX,hU,hF⟩)
 ·exact absurd ⟨by omega,by omega⟩ hno
 replace hG:=hG.push hU (s:=.ca b_ca (iu n)) hX hF;clear hX hF hU;refine⟨_,_,rfl,⟨(adO _ _ _).mono ?_⟩⟩;rintro e w22 ⟨rfl,rfl⟩;refine⟨_,rfl,?_⟩;refine⟨(af3 (n:Int) 12 _).mono ?_⟩;rintro e w23 (⟨hno,_⟩|⟨_,b_st,F_st,rfl,hX,hU,hF⟩)
 ·exact absurd (show qj (n:Int) 12 from⟨by omega,by omega,by omega,by omega⟩) hno
 replace hG:=hG.push hU (s:=.st b_st (iU n 12)) hX hF;clear hX hF hU;refine⟨_,_,rfl,⟨(adX _ _ _).mono ?_⟩⟩;rintro e w24 ⟨rfl,rfl⟩;refine⟨_,rfl,_,rfl,hG.wr (o:=6) [pt b_th,pt b_rq,pt b_tm,pt b_ir,pt b_rt,pt b_wk,pt b_ca,.pointer none,.pointer none,.pointer none,.pointer none,.pointer none,.pointer none,.pointer none,.slice none 0 0,I (n:Int),.int .u64 (mi (aQ n)),.int .u64 (mi (aQ n)),I 0,I 1073741824,.map (some m)] rfl (Nat.le_of_ble_eq_true rfl) fun w25 hG=>⟨_,rfl,hG.wr (o:=7) [pt b_th,pt b_rq,pt b_tm,pt b_ir,pt b_rt,pt b_wk,pt b_ca,pt b_st,.pointer none,.pointer none,.pointer none,.pointer none,.pointer none,.pointer none,.slice none 0 0,I (n:Int),.int .u64 (mi (aQ n)),.int .u64 (mi (aQ n)),I 0,I 1073741824,.map (some m)] rfl (Nat.le_of_ble_eq_true rfl) fun w26 hG=>?_⟩⟩;refine⟨(Xa n hn _).mono ?_⟩;rintro e w27 ⟨b_sc,F_sc,rfl,hX,hU,hF⟩;replace hG:=hG.push hU (s:=.sc b_sc (List.replicate n 0)) hX hF;clear hX hF hU;refine⟨_,_,rfl,⟨(adW _ _ _).mono ?_⟩⟩;rintro e w28 ⟨rfl,rfl⟩;refine⟨_,rfl,?_⟩;refine⟨(abz n hn _).mono ?_⟩;rintro e w29 ⟨b_ga,F_ga,rfl,hX,hU,hF⟩;replace hG:=hG.push hU (s:=.ga b_ga (List.replicate n 0,0)) hX hF;clear hX hF hU;refine⟨_,_,rfl,⟨(adQ _ _ _).mono ?_⟩⟩;rintro e w30 ⟨rfl,rfl⟩;refine⟨_,rfl,_,rfl,hG.wr (o:=8) [pt b_th,pt b_rq,pt b_tm,pt b_ir,pt b_rt,pt b_wk,pt b_ca,pt b_st,pt b_sc,.pointer none,.pointer none,.pointer none,.pointer none,.pointer none,.slice none 0 0,I (n:Int),.int .u64 (mi (aQ n)),.int .u64 (mi (aQ n)),I 0,I 1073741824,.map (some m)] rfl (Nat.le_of_ble_eq_true rfl) fun w31 hG=>⟨_,rfl,hG.wr (o:=9) [pt b_th,pt b_rq,pt b_tm,pt b_ir,pt b_rt,pt b_wk,pt b_ca,pt b_st,pt b_sc,pt b_ga,.pointer none,.pointer none,.pointer none,.pointer none,.slice none 0 0,I (n:Int),.int .u64 (mi (aQ n)),.int .u64 (mi (aQ n)),I 0,I 1073741824,.map (some m)] rfl (Nat.le_of_ble_eq_true rfl) fun w32 hG=>?_⟩⟩;refine⟨(ZK n hn _).mono ?_⟩;rintro e w33 ⟨b_co,F_co,rfl,hX,hU,hF⟩;replace hG:=hG.push hU (s:=.co b_co (List.replicate n ⟨true,false,0,0⟩)) hX hF;clear hX hF hU;refine⟨_,_,rfl,⟨(adP _ _ _).mono ?_⟩⟩;rintro e w34 ⟨rfl,rfl⟩;refine⟨_,rfl,?_⟩;refine⟨(adx n hn _).mono ?_⟩;rintro e w35 ⟨b_me,F_me,rfl,hX,hU,hF⟩;replace hG:=hG.push hU (s:=.me b_me n) hX hF;clear hX hF hU;refine⟨_,_,rfl,⟨(adT _ _ _).mono ?_⟩⟩;rintro e w36 ⟨rfl,rfl⟩;refine⟨_,rfl,_,rfl,hG.wr (o:=12) [pt b_th,pt b_rq,pt b_tm,pt b_ir,pt b_rt,pt b_wk,pt b_ca,pt b_st,pt b_sc,pt b_ga,.pointer none,.pointer none,pt b_co,.pointer none,.slice none 0 0,I (n:Int),.int .u64 (mi (aQ n)),.int .u64 (mi (aQ n)),I 0,I 1073741824,.map (some m)] rfl (Nat.le_of_ble_eq_true rfl) fun w37 hG=>⟨_,rfl,hG.wr (o:=13) [pt b_th,pt b_rq,pt b_tm,pt b_ir,pt b_rt,pt b_wk,pt b_ca,pt b_st,pt b_sc,pt b_ga,.pointer none,.pointer none,pt b_co,pt b_me,.slice none 0 0,I (n:Int),.int .u64 (mi (aQ n)),.int .u64 (mi (aQ n)),I 0,I 1073741824,.map (some m)] rfl (Nat.le_of_ble_eq_true rfl) fun w38 hG=>?_⟩⟩;refine⟨fun w39 hNs=>⟨fun w40 hNd=>?_⟩⟩;replace hG:=hG.push (hNs.ae no) (s:=.so w38.heap.size (0,0)) (Rw.new hNs rfl) (fun i hi=>Nat.le_of_eq hi.symm);replace hG:=hG.push (hNd.ae no) (s:=.dk w39.heap.size (none,fun _=>false)) (aag (b:=0) hNd) (fun i hi=>Nat.le_of_eq hi.symm);generalize w38.heap.size=b_so at hG⊢;generalize w39.heap.size=b_dk at hG⊢;refine⟨_,rfl,hG.wr (o:=10) [pt b_th,pt b_rq,pt b_tm,pt b_ir,pt b_rt,pt b_wk,pt b_ca,pt b_st,pt b_sc,pt b_ga,pt b_so,.pointer none,pt b_co,pt b_me,.slice none 0 0,I (n:Int),.int .u64 (mi (aQ n)),.int .u64 (mi (aQ n)),I 0,I 1073741824,.map (some m)] rfl (Nat.le_of_ble_eq_true rfl) fun w41 hG=>⟨_,rfl,hG.wr (o:=11) [pt b_th,pt b_rq,pt b_tm,pt b_ir,pt b_rt,pt b_wk,pt b_ca,pt b_st,pt b_sc,pt b_ga,pt b_so,pt b_dk,pt b_co,pt b_me,.slice none 0 0,I (n:Int),.int .u64 (mi (aQ n)),.int .u64 (mi (aQ n)),I 0,I 1073741824,.map (some m)] rfl (Nat.le_of_ble_eq_true rfl) fun w42 hG=>?_⟩⟩;replace hG:=hG.push (af.refl no _) (s:=.gv none 0 0) (G:=fun _=>False) ⟨[],rfl,fun _=>False,fun _=>False,⟨fun i=>⟨fun h=>h.elim,fun⟨a,ha,_⟩=>by cases ha⟩,Sl.nil _ _ _⟩,Fam.nil _,fun i=>by simp,fun _ h=>h.elim⟩ (fun i h=>h.elim);have hG0:ie b w0 w42 [.ow m (fun _=>none,0),.th b_th (qg n),.rq b_rq (List.replicate n (32,[])),.tm b_tm (iV n),.ir b_ir ((n:Int),List.replicate 16 i0),.rt b_rt ((n:Int),List.replicate 16 (-1)),.wk b_wk (ez n),.ca b_ca (iu n),.st b_st (iU n 12),.sc b_sc (List.replicate n 0),.ga b_ga (List.replicate n 0,0),.co b_co (List.replicate n ⟨true,false,0,0⟩),.me b_me n,.so b_so (0,0),.dk b_dk (none,fun _=>false),.gv none 0 0] [pt b_th,pt b_rq,pt b_tm,pt b_ir,pt b_rt,pt b_wk,pt b_ca,pt b_st,pt b_sc,pt b_ga,pt b_so,pt b_dk,pt b_co,pt b_me,.slice none 0 0,I (n:Int),.int .u64 (mi (aQ n)),.int .u64 (mi (aQ n)),I 0,I 1073741824,.map (some m)]:=hG;clear hG;refine⟨bA bf (M:=M8) (σ:=Nat) (fun i=>Dx (some ⟨b,0,none⟩) (n:Int) (i:Int)) (fun i w'=>i<=n/\∃p c,ie b w0 w' [.ow m (fun _=>none,0),.th b_th (qg n),.rq b_rq (List.replicate n (32,[])),.tm b_tm (iV n),.ir b_ir ((n:Int),List.replicate 16 i0),.rt b_rt ((n:Int),List.replicate 16 (-1)),.wk b_wk (ez n),.ca b_ca (iu n),.st b_st (iU n 12),.sc b_sc (List.replicate n 0),.ga b_ga (List.replicate n 0,0),.co b_co (List.replicate n ⟨true,false,0,0⟩),.me b_me n,.so b_so (0,0),.dk b_dk (none,fun _=>false),.gv p c i] [pt b_th,pt b_rq,pt b_tm,pt b_ir,pt b_rt,pt b_wk,pt b_ca,pt b_st,pt b_sc,pt b_ga,pt b_so,pt b_dk,pt b_co,pt b_me,.slice p i c,I (n:Int),.int .u64 (mi (aQ n)),.int .u64 (mi (aQ n)),I 0,I 1073741824,.map (some m)]) (fun i _=>n-i) 0 ⟨rfl,rfl,rfl,trivial⟩ ⟨Nat.zero_le _,none,0,hG0⟩ ?_⟩;rintro i v1 ⟨hi,p,c,hG⟩;rw[ahy];refine⟨fun g=>?_,fun g=>?_⟩
 ·have g:=of_decide_eq_true g;have hlt:i<n:=by omega
  intro v2 q1 q2 q3 q4;have hUs:af no v1 v2:=af.same no q1 q2 q3 q4;have hG2:=bh.ae hG hUs;refine⟨_,rfl,p,i,c,(ie.ai hG2).av rfl,⟨(aa9 (a:=100) (b:=1000) ⟨by omega,by omega,by omega⟩ v2).mono ?_⟩⟩;rintro e v3 ⟨bq,G,rfl,hQ,hU3,hF3⟩;have hG3:=bh.ae hG2 hU3;refine⟨_,_,rfl,(ie.ai hG3).av rfl,⟨(adR _ _ _).mono ?_⟩⟩;rintro e v4 ⟨rfl,rfl⟩;refine⟨_,rfl,(ie.ai hG3).av rfl,⟨fun v5 hN5=>?_⟩⟩;have hG5:=bh.ae hG3 (hN5.ae no);obtain⟨F1,h1,k1⟩:=bh.left hG2;obtain⟨F2,a1,a2,a3⟩:=Fam.at h1 (i:=15) (by simp);obtain⟨p',c',v6,hr,F3,b1,b2,b3⟩:=ke.push (n:=i) a1 (by omega) hU3 hQ hF3 hN5 90;refine⟨(ie.ai hG5).av rfl,p',i+1,c',v6,hr,_,rfl,?_⟩;have hG6:ie b w0 v6 [.ow m (fun _=>none,0),.th b_th (qg n),.rq b_rq (List.replicate n (32,[])),.tm b_tm (iV n),.ir b_ir ((n:Int),List.replicate 16 i0),.rt b_rt ((n:Int),List.replicate 16 (-1)),.wk b_wk (ez n),.ca b_ca (iu n),.st b_st (iU n 12),.sc b_sc (List.replicate n 0),.ga b_ga (List.replicate n 0,0),.co b_co (List.replicate n ⟨true,false,0,0⟩),.me b_me n,.so b_so (0,0),.dk b_dk (none,fun _=>false),.gv p' c' (i+1)] [pt b_th,pt b_rq,pt b_tm,pt b_ir,pt b_rt,pt b_wk,pt b_ca,pt b_st,pt b_sc,pt b_ga,pt b_so,pt b_dk,pt b_co,pt b_me,.slice p i c,I (n:Int),.int .u64 (mi (aQ n)),.int .u64 (mi (aQ n)),I 0,I 1073741824,.map (some m)]:=k1 _ _ (a3 v6 (.gv p' c' (i+1)) ⟨F3,b1,b2,b3⟩);exact ie.wr hG6 (o:=14) [pt b_th,pt b_rq,pt b_tm,pt b_ir,pt b_rt,pt b_wk,pt b_ca,pt b_st,pt b_sc,pt b_ga,pt b_so,pt b_dk,pt b_co,pt b_me,.slice p' (i+1) c',I (n:Int),.int .u64 (mi (aQ n)),.int .u64 (mi (aQ n)),I 0,I 1073741824,.map (some m)] rfl (Nat.le_of_ble_eq_true rfl) fun v7 hG7=>⟨i+1,⟨rfl,rfl,by rw[aD (by omega)];rfl,trivial⟩,⟨by omega,p',c',hG7⟩,by omega⟩
 ·have g:=of_decide_eq_false g;have hin:n=i:=by omega
  subst hin;obtain⟨F0,⟨F1,F2,h1,h2,h3,h4⟩,hU,hF⟩:=hG
  let q:KQ:=⟨b_th,b_rq,b_tm,b_ir,b_rt,b_wk,b_ca,b_st,b_sc,b_ga,b_so,b_dk,b_co,b_me,p,c,m⟩
  have hrow:Fam (rS b) v1 F0 (KP.row q (n,aQ n,aQ n,0,1073741824)::[.ow m (fun _=>none,0),.th b_th (qg n),.rq b_rq (List.replicate n (32,[])),.tm b_tm (iV n),.ir b_ir ((n:Int),List.replicate 16 i0),.rt b_rt ((n:Int),List.replicate 16 (-1)),.wk b_wk (ez n),.ca b_ca (iu n),.st b_st (iU n 12),.sc b_sc (List.replicate n 0),.ga b_ga (List.replicate n 0,0),.co b_co (List.replicate n ⟨true,false,0,0⟩),.me b_me n,.so b_so (0,0),.dk b_dk (none,fun _=>false),.gv p c n]):=⟨F2,F1,⟨h2.1,h2.2⟩,h1,fun j=>(h3 j).trans Or.comm,fun j hj hk=>h4 j hk hj⟩;refine⟨b,F0,rfl,⟨q,List.replicate n 0,(fun _=>none,0),gH.perm ?_ hrow,rfl,hn⟩,hU,fun j hj=>hm ▸ hF j hj⟩;refine List.Perm.cons _ ?_;show List.Perm (α:=KP) ([.ow m (fun _=>none,0)]++([.th b_th (qg n),.rq b_rq (List.replicate n (32,[])),.tm b_tm (iV n),.ir b_ir ((n:Int),List.replicate 16 i0),.rt b_rt ((n:Int),List.replicate 16 (-1)),.wk b_wk (ez n),.ca b_ca (iu n),.st b_st (iU n 12),.sc b_sc (List.replicate n 0),.ga b_ga (List.replicate n 0,0)]++([.co b_co (List.replicate n ⟨true,false,0,0⟩),.me b_me n]++([.so b_so (0,0),.dk b_dk (none,fun _=>false)]++[.gv p c n])))) ([.th b_th (qg n),.rq b_rq (List.replicate n (32,[])),.tm b_tm (iV n),.ir b_ir ((n:Int),List.replicate 16 i0),.rt b_rt ((n:Int),List.replicate 16 (-1)),.wk b_wk (ez n),.ca b_ca (iu n),.st b_st (iU n 12),.sc b_sc (List.replicate n 0),.ga b_ga (List.replicate n 0,0)]++([.so b_so (0,0),.dk b_dk (none,fun _=>false)]++([.co b_co (List.replicate n ⟨true,false,0,0⟩),.me b_me n]++[.gv p c n,.ow m (fun _=>none,0)])));refine List.perm_append_comm.trans ?_;simp only[List.append_assoc];refine List.Perm.append_left _ ?_;exact(List.perm_append_comm_assoc _ _ _)
end Go.Dav
namespace Go.Dav
section
structure CI (x:CS):Prop where
 len:x.1.length=32
 one:∀v,ct x.2 v<=1
 has:∀v,bL x.1 v=decide (0<ct x.2 v)
section
variable {x:CS} {i:Nat}
theorem CI.row (h:CI x) (hi:i<x.2.length):x.2[i].Nodup/\x.2[i].length<=32:=by
 have hn:=CJ h.one hi;refine⟨hn,nz hn fun v hv=>?_⟩;have:bL x.1 v=true:=by rw[h.has,decide_eq_true (iK hi hv)]
 have:=nC this;rw[h.len]at this;exact this
theorem CI.push (h:CI x) (hi:i<x.2.length) {v:Int} (h1:1<=v/\v<=32) (hv:ct x.2 v=0):fy (bU x.2[i]) v=0/\iy (bU x.2[i]) v=bU (x.2[i]++[v]):=by
 have hnot:v∉x.2[i]:=fun hm=>by have:=iK hi hm;omega
 obtain⟨hn,_⟩:=h.row hi
 have hl:(x.2[i]++[v]).length<=32:=by
  refine nz ?_ ?_
  ·rw[List.nodup_append];exact⟨hn,by simp,fun a ha b hb e=>by simp at hb;subst hb;subst e;exact hnot ha⟩
  ·intro u hu;rw[List.mem_append]at hu;rcases hu with hu|hu
   ·have:bL x.1 u=true:=by rw[h.has,decide_eq_true (iK hi hu)]
    have:=nC this;rw[h.len]at this;exact this
   ·simp at hu;subst hu;exact h1
 have e:fy (bU x.2[i]) v=0:=by
  unfold fy bU;simp only;rw[if_neg hnot,if_neg];simp at hl;omega
 exact⟨e,by rw[iy,if_pos e];rfl⟩
theorem CI.afG (h:CI x) {ab:Int} {j:Nat} (hc:aT x ab) (hj:cQ x.1=((j:Int)+1,0)) (hl:j<32) (hf:bL x.1 ((j:Int)+1)=false) :
  qv x ab=((j:Int)+1,0)/\(iB x ab).1=fK x.1/\(iB x ab).2=x.2.set ab.toNat (aM x ab++[(j:Int)+1]):=by
 obtain⟨i,hi,rfl⟩:=nD hc;rw[h.has]at hf;obtain⟨p1,p2⟩:=h.push hi (v:=(j:Int)+1) (by omega) (by simpa using hf);unfold qv iB;rw[if_pos hc,if_pos hc,hj];simp only[if_true];rw[nR hi,p1,p2];exact⟨by first|rfl|trivial,by first|rfl|trivial,by first|rfl|trivial⟩
theorem CI.send (h:CI x) (ab:Int):CI (iB x ab)/\(iB x ab).2.length=x.2.length:=by
 by_cases hc:aT x ab
 ·rcases A9 x.1 with⟨j,hj,k1,k2,k3⟩|⟨k1,k2⟩
  ·obtain⟨_,s1,s2⟩:=h.afG hc k1 (by have:=h.len;omega) k3;obtain⟨i,hi,rfl⟩:=nD hc;rw[nR hi,Int.toNat_natCast]at s2;have h0:=k3;rw[h.has]at h0;have h0:ct x.2 ((j:Int)+1)=0:=by simpa using h0
   have hct:∀v,ct (iB x (i:Int)).2 v=ct x.2 v+if(j:Int)+1=v then 1 else 0:=fun v=>by
    rw[s2];have:=lJ hi (x.2[i]++[(j:Int)+1]) v;rw[List.count_append,List.count_singleton]at this;simp only[beq_iff_eq]at this;omega
   refine⟨⟨by rw[s1,k2];simpa using h.len,fun v=>?_,fun v=>?_⟩,by rw[s2];simp⟩
   ·rw[hct];have:=h.one v;split
    ·rename_i e;subst e;omega
    ·omega
   ·rw[s1,k2,DX hj,hct];by_cases hv:v=(j:Int)+1
    ·subst hv;simp
    ·rw[if_neg hv,h.has,if_neg (fun e=>hv e.symm)];rfl
  ·have e:iB x ab=x:=by unfold iB;rw[if_pos hc,k1,if_neg (by simp),k2]
   rw[e];exact⟨h,rfl⟩
 ·rw[iB,if_neg hc];exact⟨h,rfl⟩
theorem CI.Xk (h:CI x) (ab:Int):rQ x ab=(if aT x ab then bK (bU (aM x ab))else(0,3))/\(gZ x ab).2=(if aT x ab then x.2.set ab.toNat (aM x ab).tail else x.2)/\CI (gZ x ab)/\(gZ x ab).2.length=x.2.length:=by
 unfold rQ gZ;by_cases hc:aT x ab
 ·obtain⟨i,hi,rfl⟩:=nD hc;rw[if_pos hc,if_pos hc,if_pos hc,if_pos hc,nR hi];have hrow:=h.row hi;rw[Int.toNat_natCast]
  cases hl:x.2[i]with
  | nil=>
   have e2:x.2.set i []=x.2:=by rw[<-hl,List.set_getElem_self]
   have f0:bK (bU [])=(0,12):=rfl;simp only[f0,List.tail_nil,e2];simp
   exact h
  | cons a t=>
   have ha:bL x.1 a=true:=by rw[h.has,decide_eq_true (iK hi (by rw[hl];simp))]
   obtain⟨g1,g2⟩:=S6 ha;simp only[bK,bU,List.tail_cons,ite_true,g1]
   have hct:∀v,ct (x.2.set i t) v+(if a=v then 1 else 0)=ct x.2 v:=fun v=>by
    have:=lJ hi t v;rw[hl,List.count_cons]at this;simp only[beq_iff_eq]at this;omega
   refine⟨by first|rfl|trivial,by first|rfl|trivial,⟨by rw[S7];exact h.len,fun v=>?_,fun v=>?_⟩,by simp⟩
   ·have:=hct v;have:=h.one v;simp only;omega
   ·rw[g2,h.has];have h1:=hct v;have h2:=h.one v;by_cases hv:v=a
    ·subst hv;rw[if_pos rfl]at h1;have:ct (x.2.set i t) v=0:=by omega
     simp[this]
    ·rw[if_neg (fun e=>hv e.symm)]at h1;rw[Nat.add_zero]at h1;rw[decide_eq_true (show v≠a from hv),Bool.and_true];simp only[h1]
 ·rw[if_neg hc,if_neg hc,if_neg hc,if_neg hc];exact⟨rfl,rfl,h,rfl⟩
theorem CI.Vs (h:CI x) (f t:Int):j5 x f t=(if aT x f/\aT x t then(if f=t then(0,2)else bK (bU (aM x f)))else(0,3))/\
  (eY x f t).2=(if aT x f/\aT x t then(if f=t then x.2 else if(bK (bU (aM x f))).2=0 then(fv x f).2.set t.toNat (aM (fv x f) t++[(bK (bU (aM x f))).1])else(fv x f).2)else x.2)/\CI (eY x f t)/\(eY x f t).2.length=x.2.length:=by
 unfold j5 eY;by_cases hc:aT x f/\aT x t
 ·by_cases hft:f=t
  ·simp only[if_pos hc,if_pos hft];exact⟨trivial,trivial,h,trivial⟩
  ·simp only[if_pos hc,if_neg hft];obtain⟨hf,ht⟩:=hc;obtain⟨i,hi,rfl⟩:=nD hf;obtain⟨k,hk,rfl⟩:=nD ht;unfold fv;rw[nR hi,Int.toNat_natCast,Int.toNat_natCast]
   cases hl:x.2[i]with
   | nil=>
    have e2:x.2.set i []=x.2:=by rw[<-hl,List.set_getElem_self]
    have f0:bK (bU [])=(0,12):=rfl;simp only[f0,List.tail_nil,e2];simp
    exact h
   | cons a l=>
    have ha:bL x.1 a=true:=by rw[h.has,decide_eq_true (iK hi (by rw[hl];simp))]
    have hin:=nC ha;rw[h.len]at hin;have h1:ct x.2 a=1:=by have:=h.one a;have:=h.has a;rw[ha]at this;have:=of_decide_eq_true this.symm;omega
    simp only[bK,bU,List.tail_cons,ite_true]
    have hct:∀v,ct (x.2.set i l) v+(if a=v then 1 else 0)=ct x.2 v:=fun v=>by
     have:=lJ hi l v;rw[hl,List.count_cons]at this;simp only[beq_iff_eq]at this;omega
    have hk2:k<(x.2.set i l).length:=by simpa using hk
    have er:aM (x.1,x.2.set i l) (k:Int)=(x.2.set i l)[k]:=nR (x:=(x.1,x.2.set i l)) hk2;rw[er];have hik:i≠k:=fun e=>hft (by rw[e]);have hrow:(x.2.set i l)[k]=x.2[k]:=List.getElem_set_ne hik hk2
    have hnot:a∉x.2[k]:=fun hm=>by
     have h2:=iK hk2 (v:=a) (by rw[hrow];exact hm);have:=hct a;rw[if_pos rfl]at this;omega
    have hrk:=h.row hk
    have hlen:(x.2[k]++[a]).length<=32:=by
     refine nz ?_ ?_
     ·rw[List.nodup_append];exact⟨hrk.1,by simp,fun u hu b hb e=>by simp at hb;subst hb;subst e;exact hnot hu⟩
     ·intro u hu;rw[List.mem_append]at hu;rcases hu with hu|hu
      ·have:bL x.1 u=true:=by rw[h.has,decide_eq_true (iK hk hu)]
       have:=nC this;rw[h.len]at this;exact this
      ·simp at hu;subst hu;exact hin
    have pE:fy (32,(x.2.set i l)[k]) a=0:=by
     unfold fy;simp only[hrow];rw[if_neg hnot,if_neg];simp at hlen;omega
    have pS:(iy (32,(x.2.set i l)[k]) a).2=(x.2.set i l)[k]++[a]:=by rw[iy,if_pos pE]
    rw[pE,pS]
    have hct2:∀v,ct ((x.2.set i l).set k ((x.2.set i l)[k]++[a])) v=ct x.2 v:=fun v=>by
     have:=lJ hk2 ((x.2.set i l)[k]++[a]) v;rw[List.count_append,List.count_singleton]at this;simp only[beq_iff_eq]at this;have:=hct v;omega
    refine⟨by first|rfl|trivial,by first|rfl|trivial,⟨h.len,fun v=>?_,fun v=>?_⟩,by simp⟩
    ·show ct ((x.2.set i l).set k ((x.2.set i l)[k]++[a])) v<=1;rw[hct2];exact h.one v
    ·show bL x.1 v=decide (0<ct ((x.2.set i l).set k ((x.2.set i l)[k]++[a])) v);rw[hct2];exact h.has v
 ·simp only[if_neg hc];exact⟨trivial,trivial,h,trivial⟩
theorem CI.new {n:Int}:CI (iu n):=by
 refine⟨by simp[iu],fun v=>by rw[iu,re];omega,fun v=>?_⟩;rw[iu,re]
 have hk:∀k,(List.replicate 32 false).getD k false=false:=fun k=>by
  rw[List.getD_eq_getElem?_getD,List.getElem?_replicate];split<;>rfl
 unfold bL;rw[hk];simp
end
section
variable {b:Nat} {x:CS}
end
end
section
theorem V4 {pg:List Nat} {i k x:Nat} {v:Bool} (hi:i<pg.length) (hk:k<8) (hx:qX x=(qX pg[i]).set k v) (u:Int):dE (pg.set i x) u=if u=((8*i+k+1:Nat):Int)then v else dE pg u:=by
 have hb:∀j,j<8->x.testBit j=if j=k then v else pg[i].testBit j:=by
  intro j hj;have:=congrArg (fun l=>l[j]?) hx;simp only[qX,List.getElem?_map,List.getElem?_range hj,Option.map_some,List.getElem?_set,List.length_map,List.length_range,hk,ite_true]at this;by_cases hjk:k=j
  ·subst hjk;simpa using this
  ·rw[if_neg hjk]at this;rw[if_neg (fun e=>hjk e.symm)];simpa using this
 by_cases hu:iQ pg u
 ·obtain⟨i',k',hi',hk',rfl⟩:=zP hu;rw[rI (by simpa using hi') hk',rI hi' hk'];by_cases hii:i=i'
  ·subst hii;rw[List.getElem_set_self,hb k' hk'];by_cases hkk:k'=k
   ·subst hkk;simp
   ·rw[if_neg hkk,if_neg (by omega)]
  ·rw[List.getElem_set_ne hii,if_neg (by omega)]
 ·have hu':¬iQ (pg.set i x) u:=by unfold iQ at hu⊢;rw[List.length_set];exact hu
  rw[dE,if_neg hu',dE,if_neg hu,if_neg];rintro rfl;exact hu (by unfold iQ;omega)
theorem aes {pg:List Nat} {v:Int} (h:dE pg v=true):iQ pg v:=by
 unfold dE at h;split at h
 ·assumption
 ·cases h
theorem abt {pg:List Nat} (hp:jL pg) (v:Int):jL (kH pg v)/\∀u,dE (kH pg v) u=(dE pg u&&decide (u≠v)):=by
 by_cases h:dE pg v=true
 ·obtain⟨i,k,hi,hk,rfl⟩:=zP (aes h);have o:=wJ _ (hp.at hi) k hk;rw[S8 hi hk,if_pos (by rw[<-rI hi hk];exact h)];refine⟨hp.set i o.2.2.2.2.1,fun u=>?_⟩;rw[V4 hi hk o.2.2.2.2.2.2];by_cases hu:u=((8*i+k+1:Nat):Int)
  ·rw[if_pos hu];simp[hu]
  ·rw[if_neg hu,decide_eq_true (show u≠_ from hu),Bool.and_true]
 ·rw[kH,if_neg h];refine⟨hp,fun u=>?_⟩;by_cases hu:u=v
  ·subst hu;simp[h]
  ·simp[hu]
theorem ahL {pg:List Nat} (hp:jL pg) (h:(fc pg).2=0):jL (ja pg)/\dE pg (fc pg).1=false/\(∀u,dE (ja pg) u=(dE pg u||decide (u=(fc pg).1))):=by
 unfold fc at h
 cases hP:pz pg with
 | none=>rw[hP]at h;simp at h
 | some i=>
  obtain⟨hi,hne⟩:=Xl hP;have hx:=hp.at hi;obtain⟨o1,o2,o3,o4⟩:=VW _ hx;obtain⟨k1,k2,k3⟩:=o4 hne;have o:=wJ _ hx _ k1;have hg:pg.getD i 0=pg[i]:=by simp[hi]
  have e1:(fc pg).1=((8*i+z8 pg[i]+1:Nat):Int):=by simp only[fc,hP,hg]
  have e2:ja pg=pg.set i (wa pg[i] (z8 pg[i])):=by simp only[ja,hP,hg]
  refine⟨by rw[e2];exact hp.set i o.2.2.2.1,by rw[e1,rI hi k1,k2],fun u=>?_⟩;rw[e1,e2,V4 hi k1 o.2.2.2.2.2.1];by_cases hu:u=((8*i+z8 pg[i]+1:Nat):Int)
  ·rw[if_pos hu];simp[hu]
  ·rw[if_neg hu,decide_eq_false hu,Bool.or_false]
theorem ahI {pg:List Nat} (h:(fc pg).2≠0):ja pg=pg:=by
 unfold fc at h;unfold ja
 cases hP:pz pg with
 | none=>rfl
 | some i=>rw[hP]at h;simp at h
theorem abw {pg:List Nat} (hp:jL pg) (m:List Int):jL (gives pg m)/\∀u,dE (gives pg m) u=(dE pg u&&decide (u∉m)):=by
 induction m generalizing pg with
 | nil=>exact⟨hp,fun u=>by simp[gives]⟩
 | cons v m ih=>
  obtain⟨h1,h2⟩:=abt hp v;obtain⟨h3,h4⟩:=ih h1;refine⟨h3,fun u=>?_⟩;have:dE (gives pg (v::m)) u=dE (gives (kH pg v) m) u:=rfl;rw[this,h4,h2,Bool.and_assoc];congr 1;by_cases hu:u=v<;>simp[hu]
def cn (L:List (List Int)) (v:Int):Nat:=L.flatten.count v
theorem yV {L:List (List Int)} {i:Nat} (hi:i<L.length) (l':List Int) (v:Int):cn (L.set i l') v+L[i].count v=cn L v+l'.count v:=by
 unfold cn
 induction L generalizing i with
 | nil=>simp at hi
 | cons l L ih=>
  cases i with
  | zero=>simp only[List.set_cons_zero,List.flatten_cons,List.count_append,List.getElem_cons_zero];omega
  | succ i=>
   have:=ih (i:=i) (by simpa using hi);simp only[List.set_cons_succ,List.flatten_cons,List.count_append,List.getElem_cons_succ];omega
theorem Rv (L:List (List Int)) (v:Int):oU L v=decide (0<cn L v):=by
 unfold oU cn;rw[Bool.eq_iff_iff,List.any_eq_true,decide_eq_true_eq,List.count_pos_iff,List.mem_flatten];simp
structure KI (x:KS):Prop where
 pg:jL x.1
 one:∀v,cn x.2 v<=1
 out:∀v,0<cn x.2 v->dE x.1 v=true
 le:∀l∈x.2,l.length<=4
section
variable {x:KS} {i:Nat}
theorem KI.tk (h:KI x) (hi:i<x.2.length) (hl:x.2[i].length<=3):KI ((gA (x.1,x.2[i])).1,x.2.set i (gA (x.1,x.2[i])).2):=by
 unfold gA;split
 ·rename_i h0;simp only at h0⊢;obtain⟨h1,h2,h3⟩:=ahL h.pg h0
  have hc:∀v,cn (x.2.set i (x.2[i]++[(fc x.1).1])) v=cn x.2 v+if(fc x.1).1=v then 1 else 0:=by
   intro v;have:=yV hi (x.2[i]++[(fc x.1).1]) v;rw[List.count_append,List.count_singleton]at this;simp only[beq_iff_eq]at this;omega
  have h4:cn x.2 (fc x.1).1=0:=by
   apply Classical.byContradiction;intro hne;have:=h.out (fc x.1).1 (by omega);rw[h2]at this;cases this
  refine⟨h1,fun v=>?_,fun v hv=>?_,qx h.le i (by simp;omega)⟩
  ·rw[hc];split
   ·rename_i e;subst e;omega
   ·have:=h.one v;omega
  ·rw[hc]at hv;rw[h3];split at hv
   ·rename_i e;simp[e]
   ·rw[h.out v (by omega)];rfl
 ·rename_i h0;simp only[List.set_getElem_self];rw[ahI h0];exact h
theorem KI.fill (h:KI x) (hi:i<x.2.length):KI ((jT (x.1,x.2[i])).1,x.2.set i (jT (x.1,x.2[i])).2):=by
 unfold jT;split
 ·rename_i he;simp only at he;have h1:=h.tk hi (by rw[he];simp);have hlen:(gA (x.1,x.2[i])).2.length<=3:=by unfold gA;split<;>simp[he]
  have h2:=h1.tk (i:=i) (by simpa using hi) (by simp only[List.getElem_set_self];exact hlen);simp only[List.getElem_set_self,List.set_set]at h2;exact h2
 ·simp only[List.set_getElem_self];exact h
theorem KI.less (h:KI x) (hi:i<x.2.length) {l':List Int} (hs:l'.Sublist x.2[i]):KI (x.1,x.2.set i l'):=by
 have hc:∀v,cn (x.2.set i l') v<=cn x.2 v:=fun v=>by
  have h1:=yV hi l' v;have:=hs.count_le v;omega
 exact⟨h.pg,fun v=>Nat.le_trans (hc v) (h.one v),fun v hv=>h.out v (Nat.lt_of_lt_of_le hv (hc v)),qx h.le i (Nat.le_trans hs.length_le (h.le _ (List.getElem_mem hi)))⟩
theorem KI.alloc (h:KI x) (ab:Int):KI (ni x ab):=by
 unfold ni;split
 ·rename_i hc;obtain⟨i,hi,rfl⟩:=tn hc;rw[tX hi];have h1:=h.fill hi;have h2:=h1.less (i:=i) (by simpa using hi) (l':=(jT (x.1,x.2[i])).2.dropLast) (by simp only[List.getElem_set_self];exact List.dropLast_sublist _);simp only[List.set_set]at h2;exact h2
 ·exact h
theorem KI.back (h:KI x) (hi:i<x.2.length) (k:Nat):KI (gives x.1 (x.2[i].take k),x.2.set i (x.2[i].drop k))/\∀v,iO (gives x.1 (x.2[i].take k),x.2.set i (x.2[i].drop k)) v=iO x v:=by
 obtain⟨h1,h2⟩:=abw h.pg (x.2[i].take k)
 have hc:∀v,cn (x.2.set i (x.2[i].drop k)) v+(x.2[i].take k).count v=cn x.2 v:=fun v=>by
  have h3:=yV hi (x.2[i].drop k) v;have h4:x.2[i].count v=(x.2[i].take k).count v+(x.2[i].drop k).count v:=by rw[<-List.count_append,List.take_append_drop]
  omega
 refine⟨⟨h1,fun v=>by show cn (x.2.set i (x.2[i].drop k)) v<=1;have:=hc v;have:=h.one v;omega,fun v hv=>?_,qx h.le i (by have:=h.le _ (List.getElem_mem hi);simp;omega)⟩,fun v=>?_⟩
 ·have h3:=hc v;have h4:=h.one v;have:v∉x.2[i].take k:=fun hm=>by have:=List.count_pos_iff.2 hm;simp only at hv;omega
  rw[h2,h.out v (by simp only at hv;omega)];simp[this]
 ·unfold iO;simp only[Rv,h2];have h3:=hc v;have h4:=h.one v;by_cases hm:v∈x.2[i].take k
  ·have:=List.count_pos_iff.2 hm;have h5:0<cn x.2 v:=by omega
   simp[hm,h5]
  ·have:(x.2[i].take k).count v=0:=List.count_eq_zero.2 hm;have h5:cn (x.2.set i (x.2[i].drop k)) v=cn x.2 v:=by omega
   simp[hm,h5]
theorem KI.abp (h:KI x) (ab v:Int):KI (mR x ab v):=by
 unfold mR;split
 ·rename_i hc;obtain⟨i,hi,rfl⟩:=tn hc.1;rw[tX hi]
  have hb:KI ((kt (x.1,x.2[i])).1,x.2.set i (kt (x.1,x.2[i])).2)/\(∀u,iO ((kt (x.1,x.2[i])).1,x.2.set i (kt (x.1,x.2[i])).2) u=iO x u)/\(kt (x.1,x.2[i])).2.length<=3:=by
   have:=h.le _ (List.getElem_mem hi);unfold kt;split
   ·exact⟨(h.back hi 2).1,(h.back hi 2).2,by simp;omega⟩
   ·simp only[List.set_getElem_self];rename_i h4;simp only at h4;exact⟨h,fun _=>trivial,by omega⟩
  generalize kt (x.1,x.2[i])=s at hb;obtain⟨h1,h2,h3⟩:=hb;have h4:iO (s.1,x.2.set i s.2) v=true:=by rw[h2];exact hc.2
  unfold iO at h4;simp only[Rv,Bool.and_eq_true,Bool.not_eq_true',decide_eq_false_iff_not]at h4
  have hc:∀u,cn (x.2.set i (s.2++[v])) u=cn (x.2.set i s.2) u+if v=u then 1 else 0:=by
   intro u;have:=yV (L:=x.2.set i s.2) (i:=i) (by simpa using hi) (s.2++[v]) u;rw[List.set_set,List.getElem_set_self,List.count_append,List.count_singleton]at this;simp only[beq_iff_eq]at this;omega
  refine⟨h1.pg,fun u=>?_,fun u hu=>?_,qx h.le i (by simp;omega)⟩
  ·simp only[Int.toNat_natCast];rw[hc];have:=h1.one u;simp only at this;split
   ·rename_i e;subst e;omega
   ·omega
  ·simp only[Int.toNat_natCast]at hu;rw[hc]at hu;split at hu
   ·rename_i e;subst e;exact h4.1
   ·exact h1.out u (by omega)
 ·exact h
theorem KI.drain (h:KI x) (ab:Int):KI (gr x ab)/\∀v,iO (gr x ab) v=iO x v:=by
 unfold gr;split
 ·rename_i hc;obtain⟨i,hi,rfl⟩:=tn hc;rw[tX hi];have:=h.back hi x.2[i].length;rw[List.take_length,List.drop_length]at this;exact this
 ·exact⟨h,fun _=>rfl⟩
theorem KI.new {m n:Int} (h:qj m n):KI (iU m n):=by
 unfold qj at h
 have hc:∀v,cn (iU m n).2 v=0:=fun v=>by
  unfold cn iU;rw[List.count_flatten];simp
 refine⟨⟨by simp[iU];omega,fun y hy=>?_⟩,fun v=>by rw[hc];omega,fun v hv=>by rw[hc]at hv;omega,fun l hl=>?_⟩
 ·have:=List.eq_of_mem_replicate hy;omega
 ·have:=List.eq_of_mem_replicate hl;subst this;simp
end
end
end Go.Dav
namespace Go.Dav
structure bW (n:Nat) (x:RS):Prop where
 len:x.length=n
 one:∀k i j,bd x i k=true->bd x j k=true->i=j
 v:∀q∈x,ef q/\q.1=32
theorem bW.at {n:Nat} {x:RS} (h:bW n x) {i:Nat} (hi:i<x.length):ef x[i]/\x[i].1=32:=h.v _ (List.getElem_mem hi)
theorem bW.uniq {n:Nat} {x:RS} (h:bW n x) {k:Int} {i j:Nat} (h1:bd x i k=true) (h2:bd x j k=true):i=j:=h.one k i j h1 h2
theorem ef.drop {q:Nat×aR} (h:ef q) (k:Int):ef (dz q k) where
 one:=(List.Sublist.map _ List.filter_sublist).nodup h.one
 e9:=fun e he=>h.e9 e ((List.mem_filter.1 he).1)
 room:=Nat.le_trans (List.length_filter_le ..) h.room
 gT:=h.gT
theorem ef.push {q:Nat×aR} (h:ef q) {p k:Int} (hp:eZ q p k=0):ef (fT q p k):=by
 have hno:=aeP hp;have hp':=hp;unfold eZ at hp';unfold fT;rw[if_pos hp];split at hp'
 ·omega
 ·split at hp'
  ·omega
  ·split at hp'
   ·omega
   ·refine⟨?_,?_,?_,h.gT⟩
    ·simp only[List.map_append,List.map_cons,List.map_nil];refine List.nodup_append.2 ⟨h.one,by simp,fun a ha b hb=>?_⟩;simp only[List.mem_singleton]at hb;rintro rfl;subst hb;rw[show bR q a=true from List.contains_iff_mem.2 ha]at hno;cases hno
    ·intro e he;rcases List.mem_append.1 he with he|he
     ·exact h.e9 e he
     ·simp only[List.mem_singleton]at he;subst he;simp only;omega
    ·simp only[List.length_append,List.length_singleton];omega
section
variable {n:Nat} {x:RS}
theorem Er (h:bW n x) (k:Int) (i:Nat) (j:Int):bd (dA x k) i j=(bd x i j&&decide (j≠k)):=by
 unfold dA;rcases nX x k with⟨h1,h2⟩|⟨i0,hi0,h1,h2⟩
 ·rw[h1];simp only[Bool.false_eq_true,if_false];by_cases hj:j=k
  ·subst hj;rw[h2];simp
  ·simp[hj]
 ·rw[h1];simp only[if_true,Int.toNat_natCast];rw[qf hi0];by_cases hi:i=i0
  ·subst hi;rw[if_pos rfl,Tu,fX hi0,iS hi0]
  ·rw[if_neg hi];by_cases hj:j=k
   ·subst hj
    have:bd x i j=false:=by
     cases hm:bd x i j with
     | false=>rfl
     | true=>exact absurd (h.uniq hm h2) hi
    rw[this];simp
   ·simp[hj]
theorem bW.take (h:bW n x) (k:Int):bW n (dA x k):=by
 refine⟨?_,fun j i i' h1 h2=>?_,?_⟩
 ·unfold dA;split<;>simp[h.len]
 ·rw[Er h]at h1 h2;simp only[Bool.and_eq_true]at h1 h2;exact h.uniq h1.1 h2.1
 ·unfold dA;rcases nX x k with⟨h1,h2⟩|⟨i0,hi0,h1,h2⟩
  ·rw[h1];simp only[Bool.false_eq_true,if_false];exact h.v
  ·rw[h1];simp only[if_true,Int.toNat_natCast];intro q hq;rcases List.mem_or_eq_of_mem_set hq with hq|rfl
   ·exact h.v q hq
   ·rw[fX hi0];exact⟨(h.at hi0).1.drop k,(h.at hi0).2⟩
theorem Vi {c p k:Int} (he:lT x c p k=0) (i:Nat) (j:Int):bd (fY x c p k) i j=(bd x i j||(decide (i=c.toNat)&&decide (j=k))):=by
 have h0:=he;unfold fY;rw[if_pos he];unfold lT at h0;split at h0
 ·rename_i hc;obtain⟨i0,hi0,rfl⟩:=kX hc;split at h0
  ·omega
  ·simp only[Int.toNat_natCast];rw[qf hi0,fX hi0];rw[fX hi0]at h0;by_cases hi:i=i0
   ·subst hi;rw[if_pos rfl,Tv h0,iS hi0];simp
   ·rw[if_neg hi];simp[hi]
 ·omega
theorem bW.put (h:bW n x) {c p k:Int} (he:lT x c p k=0):bW n (fY x c p k):=by
 have h0:=he;unfold lT at h0;split at h0
 ·rename_i hc;split at h0
  ·omega
  ·rename_i hw
   have hno:∀i,bd x i k=false:=by
    rcases nX x k with⟨h1,h2⟩|⟨i0,hi0,h1,h2⟩
    ·exact h2
    ·rw[h1]at hw;exact absurd rfl hw
   refine⟨by rw[aeT];exact h.len,fun j i i' h1 h2=>?_,?_⟩
   ·rw[Vi he]at h1 h2;simp only[Bool.or_eq_true,Bool.and_eq_true,decide_eq_true_eq]at h1 h2;rcases h1 with h1|⟨h1,e⟩
    ·rcases h2 with h2|⟨h2,e⟩
     ·exact h.uniq h1 h2
     ·subst e;rw[hno]at h1;cases h1
    ·rcases h2 with h2|⟨h2,e'⟩
     ·subst e;rw[hno]at h2;cases h2
     ·omega
   ·unfold fY;rw[if_pos he];intro q hq;obtain⟨i0,hi0,rfl⟩:=kX hc;rw[fX hi0]at h0 hq;rcases List.mem_or_eq_of_mem_set hq with hq|rfl
    ·exact h.v q hq
    ·exact⟨(h.at hi0).1.push h0,by rw[Vr];exact(h.at hi0).2⟩
 ·omega
theorem aeU (h:bW n x) (hid:∀i j,bd x i j=true->1<=j/\j<=32) {c p k:Int} (hc:0<=c/\c<n) (hp:0<=p/\p<8) (hk:1<=k/\k<=32) (hno:∀i,bd x i k=false):lT x c p k=0:=by
 have hc':cI x c:=⟨hc.1,by rw[h.len];exact hc.2⟩;obtain⟨i0,hi0,rfl⟩:=kX hc';unfold lT;rw[if_pos hc']
 have hw:(gD x k).2=false:=by
  rcases nX x k with⟨h1,_⟩|⟨i,_,_,h2⟩
  ·rw[h1]
  ·rw[hno]at h2;cases h2
 rw[hw,fX hi0];simp only[Bool.false_eq_true,if_false];have hin:bR x[i0] k=false:=by rw[<-iS hi0];exact hno i0
 unfold eZ;rw[if_neg (by omega),hin];simp only[Bool.false_eq_true,if_false];have hV:=h.at hi0
 have hlen:(k::x[i0].2.map (·.2)).length<=32:=by
  refine nz (m:=32) (List.nodup_cons.2 ⟨fun hm=>?_,hV.1.one⟩) ?_
  ·rw[show bR x[i0] k=true from List.contains_iff_mem.2 hm]at hin;cases hin
  ·intro v hv;rcases List.mem_cons.1 hv with rfl|hv
   ·omega
   ·exact hid i0 v (by rw[iS hi0];exact List.contains_iff_mem.2 hv)
 rw[hV.2,if_neg (by simp at hlen;omega)]
theorem Vg (h:bW n x) (k:Int) (i:Nat) (j:Int):bd (qt x k) i j=bd x i j:=by
 unfold qt;rcases nX x k with⟨h1,h2⟩|⟨i0,hi0,h1,h2⟩
 ·rw[h1];rfl
 ·rw[h1];simp only[if_true,Int.toNat_natCast];rw[qf hi0,fX hi0];split
  ·rename_i e;subst e;rw[zO,iS hi0]
  ·rfl
theorem Vh (x:RS) (c:Int) (i:Nat) (j:Int):bd (la x c) i j=bd x i j:=by
 unfold la;split
 ·rename_i hc;obtain⟨i0,hi0,rfl⟩:=kX hc;simp only[Int.toNat_natCast];rw[qf hi0,fX hi0];split
  ·rename_i e;subst e;rw[D0,iS hi0]
  ·rfl
 ·rfl
theorem wA (h:bW n x) {c k:Int}:k∈aY x c↔0<=c/\bd x c.toNat k=true:=by
 unfold aY;by_cases hc:cI x c
 ·rw[if_pos hc];obtain⟨i0,hi0,rfl⟩:=kX hc;rw[fX hi0,ab4 (h.at hi0).1,Int.toNat_natCast,iS hi0];exact⟨fun h=>⟨by omega,h⟩,fun h=>h.2⟩
 ·rw[if_neg hc];constructor
  ·intro h;cases h
  ·intro hh;have:=tJ hh.2;have:=hh.1;exact absurd (show cI x c from⟨hh.1,by omega⟩) hc
theorem U6 (h:bW n x) (c:Int):(aY x c).Nodup:=by
 unfold aY;split
 ·rename_i hc;obtain⟨i0,hi0,rfl⟩:=kX hc;rw[fX hi0];have hV:=(h.at hi0).1;unfold lN;refine List.pairwise_flatMap.2 ⟨fun a _=>Ep hV.one a.val,?_⟩;have h8:L8.reverse.Nodup:=by decide
  refine h8.imp ?_;intro a b hab u hu v hv huv;subst huv;have e:=wG hV.one (oY.1 hu) (oY.1 hv) rfl;simp only[Prod.mk.injEq,and_true]at e;exact hab (Fin.ext (by omega))
 ·exact List.nodup_nil
end
end Go.Dav
namespace Go.Dav
theorem WQ {S:TL} {i:Nat} (hi:i<S.length) (v:Option Th) (id:Int):aB (S.set i v) id=if id=(i:Int)+1 then v else aB S id:=by
 unfold aB;by_cases h1:1<=id
 ·rw[if_pos h1,if_pos h1];by_cases hid:id=(i:Int)+1
  ·subst hid;have e1:((i:Int)+1).toNat-1=i:=by omega
   rw[if_pos rfl,e1];simp[List.getD_eq_getElem?_getD,hi]
  ·rw[if_neg hid];have:i≠id.toNat-1:=by omega
   simp[List.getD_eq_getElem?_getD,this]
 ·rw[if_neg h1,if_neg h1,if_neg (by omega)]
theorem lU {S:TL} {id:Int} {t:Th} (h:aB S id=some t):1<=id/\id<=S.length:=by
 unfold aB at h;split at h
 ·rename_i h1;refine⟨h1,?_⟩
  have:id.toNat-1<S.length:=by
   apply Classical.byContradiction;intro hn;rw[List.getD_eq_getElem?_getD,List.getElem?_eq_none (by omega)]at h;cases h
  omega
 ·cases h
theorem wW {S:TL} {id:Int} {t:Th} (h:aB S id=some t) (v:Option Th) (j:Int):aB (S.set (id.toNat-1) v) j=if j=id then v else aB S j:=by
 have:=lU h;rw[WQ (by omega)];have e:((id.toNat-1:Nat):Int)+1=id:=by omega
 rw[e]
theorem AV (n:Nat) (id:Int):aB (List.replicate n none) id=none:=by
 unfold aB;split
 ·rw[List.getD_eq_getElem?_getD];by_cases h:id.toNat-1<n
  ·simp[h]
  ·rw[List.getElem?_eq_none (by simpa using h)];rfl
 ·rfl
section
variable {x:TX} {id c:Int}
theorem aaH {t:Th} (h:aB x.2 id=some t) (j:Int):aB (iN x id).2 j=if j=id then none else aB x.2 j:=by
 unfold iN;rw[h];exact wW h none j
theorem Yc {t:Th} {m:BV} (h:aB x.2 id=some t) (hm:jF x.1 m=true) (j:Int):aB (ik x id m).2 j=if j=id then some (t.1,m,t.2.2)else aB x.2 j:=by
 unfold ik;rw[h];simp only[hm,if_true];exact wW h _ j
theorem aeF {t:Th} {f:Bool} (h:aB x.2 id=some t) (hc:0<=c/\c<x.1) (j:Int):aB (iv x id c f).2 j=if j=id then some (t.1,t.2.1,c,f,t.2.2.2.2)else aB x.2 j:=by
 unfold iv;rw[h];simp only[if_pos hc];exact wW h _ j
theorem afZ {t:Th} {n:Int} (h:aB x.2 id=some t) (hs:t.2.2.2.2.1=false) (j:Int):aB (lh x id n).2 j=if j=id then some (t.1,t.2.1,t.2.2.1,t.2.2.2.1,true,n)else aB x.2 j:=by
 unfold lh;rw[h];simp only[hs];exact wW h _ j
theorem amD {t:Th} (h:aB x.2 id=some t) (hs:t.2.2.2.2.1=true) (j:Int):aB (iD x id).2 j=if j=id then some (t.1,t.2.1,t.2.2.1,t.2.2.2.1,false,0)else aB x.2 j:=by
 unfold iD;rw[h];simp only[hs,if_true];exact wW h _ j
theorem Sz (x:TX) (id:Int):(iN x id).1=x.1:=by unfold iN;split<;>rfl
theorem BK (x:TX) (id:Int) (m:BV):(ik x id m).1=x.1:=by unfold ik;(repeat' split)<;>rfl
theorem EJ (x:TX) (id c:Int) (f:Bool):(iv x id c f).1=x.1:=by unfold iv;(repeat' split)<;>rfl
theorem af0 (x:TX) (id c:Int):(lh x id c).1=x.1:=by unfold lh;(repeat' split)<;>rfl
theorem XF (x:TX) (id:Int):(iD x id).1=x.1:=by unfold iD;(repeat' split)<;>rfl
theorem FC (x:TX) (p:Int) (m:BV):(gY x p m).1=x.1:=by unfold gY;split<;>rfl
theorem SA (x:TX) (id:Int):(iN x id).2.length=x.2.length:=by unfold iN;split<;>simp
theorem BL (x:TX) (id:Int) (m:BV):(ik x id m).2.length=x.2.length:=by unfold ik;(repeat' split)<;>simp
theorem EK (x:TX) (id c:Int) (f:Bool):(iv x id c f).2.length=x.2.length:=by unfold iv;(repeat' split)<;>simp
theorem af1 (x:TX) (id c:Int):(lh x id c).2.length=x.2.length:=by unfold lh;(repeat' split)<;>simp
theorem XG (x:TX) (id:Int):(iD x id).2.length=x.2.length:=by unfold iD;(repeat' split)<;>simp
theorem FD (x:TX) (p:Int) (m:BV):(gY x p m).2.length=x.2.length:=by unfold gY;split<;>simp
theorem af7 {p:Int} {m:BV} (h:(cP x p m).2=0):lW x p m/\(1<=(cP x p m).1/\(cP x p m).1<=x.2.length)/\aB x.2 (cP x p m).1=none/\∀j,aB (gY x p m).2 j=if j=(cP x p m).1 then some (p,m,0,false,false,0)else aB x.2 j:=by
 unfold cP at h;split at h
 ·rename_i hk;have e:cP x p m=cQ (gU x.2):=by unfold cP;rw[if_pos hk]
  rw[e];rcases A9 (gU x.2)with⟨j,hj,h1,h2,h3⟩|⟨h1,h2⟩
  ·have hj':j<x.2.length:=by simpa [gU]using hj
   have hnone:aB x.2 ((j:Int)+1)=none:=by
    rw[mz]at h3;unfold gU at h3;rw[List.getD_eq_getElem?_getD,List.getElem?_map,List.getElem?_eq_getElem hj']at h3;simp at h3;unfold aB;rw[if_pos (by omega),List.getD_eq_getElem?_getD];have e1:((j:Int)+1).toNat-1=j:=by omega
    rw[e1,List.getElem?_eq_getElem hj'];simpa using h3
   refine⟨hk,by rw[h1];simp only;omega,by rw[h1];exact hnone,fun i=>?_⟩;unfold gY;rw[h1];simp only[hk,and_true,if_true];have e1:((j:Int)+1).toNat-1=j:=by omega
   rw[e1];exact WQ hj' _ i
  ·rw[h1]at h;cases h
 ·cases h
theorem af8 {p:Int} {m:BV} (h:(cP x p m).2≠0):gY x p m=x:=by
 unfold cP at h;unfold gY;split at h
 ·rw[if_neg (fun hh=>h hh.2)]
 ·rename_i hk;rw[if_neg (fun hh=>hk hh.1)]
end
theorem adq {x:TX} {id:Int}:id∈gB x↔(aB x.2 id).isSome:=by
 unfold gB;rw[adp];constructor
 ·rintro⟨h1,h2,h3⟩;have hj:id.toNat-1<x.2.length:=by omega
  obtain⟨j,rfl⟩:∃j:Nat,id=(j:Int)+1:=⟨id.toNat-1,by omega⟩;rw[mz]at h3;unfold gU at h3;have hj':j<x.2.length:=by omega
  rw[List.getD_eq_getElem?_getD,List.getElem?_map,List.getElem?_eq_getElem hj']at h3;unfold aB;have e1:((j:Int)+1).toNat-1=j:=by omega
  rw[if_pos h1,e1,List.getD_eq_getElem?_getD,List.getElem?_eq_getElem hj'];simpa using h3
 ·intro h;obtain⟨t,ht⟩:=Option.isSome_iff_exists.1 h;have h1:=lU ht;refine⟨h1.1,h1.2,?_⟩;obtain⟨j,rfl⟩:∃j:Nat,id=(j:Int)+1:=⟨id.toNat-1,by omega⟩;have hj':j<x.2.length:=by omega
  rw[mz];unfold gU;rw[List.getD_eq_getElem?_getD,List.getElem?_map,List.getElem?_eq_getElem hj'];unfold aB at ht;have e1:((j:Int)+1).toNat-1=j:=by omega
  rw[if_pos h1.1,e1,List.getD_eq_getElem?_getD,List.getElem?_eq_getElem hj']at ht;simp only[Option.getD_some]at ht;simp[ht]
theorem xh {k:K} {id:Int} {t:Th} (h:aB k.th.2 id=some t):bN k id=t/\(fQ k.th id).2=0:=by
 unfold bN fQ;rw[h];exact⟨rfl,rfl⟩
theorem ahO {k:K} {id:Int} (h:aB k.th.2 id=none):bN k id=(0,0,0,false,false,0)/\(fQ k.th id).2=4:=by
 unfold bN fQ;rw[h];exact⟨rfl,rfl⟩
end Go.Dav
namespace Go.Dav
def eW (x:RS) (id c:Int):Prop:=0<=c/\bd x c.toNat id=true
structure cj (ex:Int) (th:TX) (rq:RS):Prop where
 a:∀id c,eW rq id c->∃t,aB th.2 id=some t/\t.2.2.1=c/\t.2.2.2.2.1=false/\id≠ex
 b:∀id t,aB th.2 id=some t->t.2.2.2.2.1=false->id≠ex->eW rq id t.2.2.1
 p:∀id t,aB th.2 id=some t->0<=t.1/\t.1<8
structure cM (ex:Int) (th:TX) (tm:cA) (own:Int->Option Int):Prop where
 a:∀t id,own t=some id->1<=id/\(aO tm t).isSome=true/\id≠ex/\∃x,aB th.2 id=some x/\x.2.2.2.2.1=true/\x.2.2.2.2.2=t
 b:∀id x,aB th.2 id=some x->x.2.2.2.2.1=true->id≠ex->own x.2.2.2.2.2=some id
 c:∀id x,aB th.2 id=some x->x.2.2.2.2.1=false->x.2.2.2.2.2=0
def nU (t:Th):Bool×Int:=t.2.2.2.2
theorem cM.congr {ex:Int} {th th':TX} {tm:cA} {own:Int->Option Int} (h:cM ex th tm own) (he:∀j,(aB th'.2 j).map nU=(aB th.2 j).map nU):cM ex th' tm own:=by
 have fw:∀{j t},aB th.2 j=some t->∃t',aB th'.2 j=some t'/\t'.2.2.2.2=t.2.2.2.2:=by
  intro j t ht;have:=he j;rw[ht]at this;obtain⟨t',h1,h2⟩:=Option.map_eq_some_iff.1 this;exact⟨t',h1,h2⟩
 have bw:∀{j t},aB th'.2 j=some t->∃t',aB th.2 j=some t'/\t'.2.2.2.2=t.2.2.2.2:=by
  intro j t ht;have:=he j;rw[ht]at this;obtain⟨t',h1,h2⟩:=Option.map_eq_some_iff.1 this.symm;exact⟨t',h1,h2⟩
 refine⟨fun t id ho=>?_,fun id x hx hs hn=>?_,fun id x hx hs=>?_⟩
 ·obtain⟨h1,h2,h3,x,h4,h5,h6⟩:=h.a t id ho;obtain⟨x',k1,k2⟩:=fw h4;exact⟨h1,h2,h3,x',k1,by rw[k2];exact h5,by rw[k2];exact h6⟩
 ·obtain⟨x',k1,k2⟩:=bw hx;rw[<-k2]at hs⊢;exact h.b id x' k1 hs hn
 ·obtain⟨x',k1,k2⟩:=bw hx;rw[<-k2]at hs⊢;exact h.c id x' k1 hs
def aW (ac:BV) (d:aZ) (s c:Int):Prop:=hs ac c=true∨∃r,d.1=some r/\r.up=false/\r.ab=c/\(r.back=true∨r.ag<s)
def PQ (ac:BV) (d:aZ) (rq:RS):Prop:=∀id c,eW rq id c->aW ac d 3 c
def PT (ac:BV) (d:aZ) (tm:cA):Prop:=∀t p,aO tm t=some p->aW ac d 4 p.1
def PW (ac:BV) (d:aZ) (wk:QL):Prop:=∀c v,0<=c->v∈bV wk c->aW ac d 5 c
def PC (ac:BV) (d:aZ) (ca:CS):Prop:=∀c v,0<=c->v∈aM ca c->aW ac d 6 c
def PI (ac:BV) (d:aZ) (ir:bj) (rt:ch):Prop:=∀n,0<=n->n<16->(gq ir n).1=true->∃c,b9 rt n=(c,true)/\aW ac d 7 c
def PO (ac:BV) (d:aZ) (st:KS):Prop:=∀c v,0<=c->v∈iY st c->aW ac d 8 c
structure od (n:Nat) (on ac:BV) (gs:Int) (sp:BV×BV) (r:aG):Prop where
 v:Lh r
 over:r.over=false
 ne:r.ab≠r.ah
 ah:hs ac r.ah=true
 ab:r.ab<n
 de:hs on r.ab = !r.up
 g0:r.ag=0->gs=1/\r.back=false
 g1:0<r.ag->gs=2
 jl:ac=if r.up=false/\2<=r.ag then ls on r.ab else on
 py:sp.1≠0->r.up=false/\r.back=false/\r.ag=6/\r.told=true/\sp.1=ls (wi ac r.ab) r.ah
structure xt (n:Nat) (on ac:BV) (gs:Int) (sp:BV×BV) (d:aZ):Prop where
 an:ac≠0
 ao:∀c,hs ac c=true->hs on c=true
 de:∀c,hs on c=true->0<=c/\c<n
 free:d.1=none->ac=on/\gs=0/\sp.1=0
 bJ:∀r,d.1=some r->od n on ac gs sp r
 iZ:sp.1=0->sp.2=0
def fH (on:BV) (d:aZ) (c:Int):Bool:=hs on c||match d.1 with
 | some r=>r.up&&decide (2<=r.ag)&&decide (c=r.ab)
 | none=>false
def xy (n:Nat) (on:BV) (d:aZ) (co:List cG):Prop:=∀c:Int,0<=c->c<n->(aJ co c).pw=fH on d c
structure ar (k:K):Prop where
 n:1<=k.n/\k.n<=64
 fZ:k.th.1=(k.n:Int)
 fL:k.th.2.length=32
 rq:bW k.n k.rq
 ib:k.tm.n=k.n
 jc:k.tm.t.length=48
 fe:k.tm.now=k.now
 jV:k.ir.1=(k.n:Int)
 fk:k.ir.2.length=16
 gW:k.rt.1=(k.n:Int)
 gz:k.rt.2.length=16
 gh:k.wk.length=k.n+1
 iF:∀v,ct k.wk v<=1
 jf:∀v,0<ct k.wk v->1<=v/\v<=32
 ca:k.ca.2.length=k.n
 st:k.st.2.length=k.n
 ga:k.ga.1.length=k.n
 co:k.co.length=k.n
structure ax (k:K):Prop where
 dk:xt k.n k.on k.ac k.ga.2 k.sp k.dk
 pw:xy k.n k.on k.dk k.co
 tq:cj 0 k.th k.rq
 tm:cM 0 k.th k.tm.t k.own
 q:PQ k.ac k.dk k.rq
 t:PT k.ac k.dk k.tm.t
 w:PW k.ac k.dk k.wk
 c:PC k.ac k.dk k.ca
 i:PI k.ac k.dk k.ir k.rt
 o:PO k.ac k.dk k.st
 ci:CI k.ca
 ki:KI k.st
theorem vD {m ac:BV} (h:ac≠0) (near:Int):hs ac (fO m ac near).1=true:=by
 have key:∀u:BV,u≠0->(∀c,hs u c=true->hs ac c=true)->hs ac (if hs u near=true then(near,m&&& ac==0,(0:Int))else((jB u near).1,m&&& ac==0,(0:Int))).1=true:=by
  intro u hu hs';split
  ·rename_i h1;exact hs' _ h1
  ·exact hs' _ (VK hu near).2
 unfold fO;rw[if_neg h];refine key _ (SP h) ?_;intro c hc;split at hc
 ·exact hc
 ·rw[ru]at hc;simp at hc;exact hc.2
theorem cj.ids {ex:Int} {th:TX} {rq:RS} (h:cj ex th rq) (hl:th.2.length=32):∀i j,bd rq i j=true->1<=j/\j<=32:=by
 intro i j hm;obtain⟨t,ht,_⟩:=h.a j i ⟨by omega,by simpa using hm⟩;have:=lU ht;omega
theorem Wb {n:Nat} {ac:BV} {th:TX} {rq:RS} {id c:Int} {f:Bool} {t:Th} (hn:n<=64) (hc:hs ac c=true) (hcn:c<n) (h1:th.1=(n:Int)) (h2:th.2.length=32) (hq:bW n rq)
  (h:cj id th rq) (ht:aB th.2 id=some t) (hs0:t.2.2.2.2.1=false) :
  lT rq c t.1 id=0/\bW n (fY rq c t.1 id)/\cj 0 (iv th id c f) (fY rq c t.1 id)/\(∀j c',eW (fY rq c t.1 id) j c'↔(eW rq j c'∨(j=id/\c'=c)))/\
   (∀j,(aB (iv th id c f).2 j).map nU=(aB th.2 j).map nU)/\(iv th id c f).1=th.1/\(iv th id c f).2.length=32/\
   (∀j,(aB (iv th id c f).2 j).map (fun t=>t.2.1)=(aB th.2 j).map (fun t=>t.2.1)):=by
 have hc0:=gP hc;have hid:=lU ht
 have hno:∀i,bd rq i id=false:=by
  intro i
  cases hm:bd rq i id with
  | false=>rfl
  | true=>
   obtain⟨_,_,_,_,hne⟩:=h.a id i ⟨by omega,by simpa using hm⟩;exact absurd rfl hne
 have he:lT rq c t.1 id=0:=aeU hq (h.ids h2) ⟨hc0.1,hcn⟩ (h.p id t ht) ⟨hid.1,by omega⟩ hno;have hat:=aeF (f:=f) ht (c:=c) ⟨hc0.1,by rw[h1];exact hcn⟩
 have hmem:∀j c',eW (fY rq c t.1 id) j c'↔(eW rq j c'∨(j=id/\c'=c)):=by
  intro j c';unfold eW;rw[Vi he];simp only[Bool.or_eq_true,Bool.and_eq_true,decide_eq_true_eq];constructor
  ·rintro⟨q1,q2|⟨q2,q3⟩⟩
   ·exact .inl ⟨q1,q2⟩
   ·exact .inr ⟨q3,by omega⟩
  ·rintro(⟨q1,q2⟩|⟨q1,q2⟩)
   ·exact⟨q1,.inl q2⟩
   ·exact⟨by omega,.inr ⟨by omega,q1⟩⟩
 refine⟨he,hq.put he,⟨?_,?_,?_⟩,hmem,?_,by rw[EJ],by rw[EK];exact h2,?_⟩
 ·intro j c' hj;rw[hat];rcases(hmem j c').1 hj with hj|⟨rfl,rfl⟩
  ·obtain⟨u,k1,k2,k3,k4⟩:=h.a j c' hj;rw[if_neg k4];have:=lU k1;exact⟨u,k1,k2,k3,by omega⟩
  ·rw[if_pos rfl];exact⟨_,rfl,rfl,hs0,by omega⟩
 ·intro j u hu hsu hj;rw[hat]at hu;rw[hmem];split at hu
  ·rename_i e;cases hu;exact .inr ⟨e,rfl⟩
  ·rename_i e;exact .inl (h.b j u hu hsu e)
 ·intro j u hu;rw[hat]at hu;split at hu
  ·cases hu;exact h.p id t ht
  ·exact h.p j u hu
 ·intro j;rw[hat];split
  ·rename_i e;subst e;rw[ht];rfl
  ·rfl
 ·intro j;rw[hat];split
  ·rename_i e;subst e;rw[ht];rfl
  ·rfl
theorem aeW {k:K} {id near:Int} {t:Th} (hn:k.n<=64) (hac:k.ac≠0) (hin:∀c,hs k.ac c=true->c<k.n) (h1:k.th.1=(k.n:Int)) (h2:k.th.2.length=32) (hq:bW k.n k.rq)
  (h:cj id k.th k.rq) (ht:aB k.th.2 id=some t) (hs0:t.2.2.2.2.1=false) :
  bW k.n (fU k id near).rq/\cj 0 (fU k id near).th (fU k id near).rq/\(∀j c,eW (fU k id near).rq j c->eW k.rq j c∨hs k.ac c=true)/\
   (∀j,(aB (fU k id near).th.2 j).map nU=(aB k.th.2 j).map nU)/\(fU k id near).th.1=k.th.1/\(fU k id near).th.2.length=32/\
   (∀j,(aB (fU k id near).th.2 j).map (fun t=>t.2.1)=(aB k.th.2 j).map (fun t=>t.2.1)):=by
 have hx:=(xh ht).1;have hc:=vD (m:=t.2.1) hac near;unfold fU;rw[hx];obtain⟨_,q1,q2,q3,q4,q5,q6,q7⟩:=Wb (f:=(fO t.2.1 k.ac near).2.1) hn hc (hin _ hc) h1 h2 hq h ht hs0;refine⟨q1,q2,fun j c hj=>?_,q4,q5,q6,q7⟩;rcases(q3 j c).1 hj with hj|⟨_,rfl⟩
 ·exact .inl hj
 ·exact .inr hc
theorem xg {n:Nat} {th:TX} {rq:RS} (hq:bW n rq) (h:cj 0 th rq) (id:Int):bW n (dA rq id)/\cj id th (dA rq id)/\∀j c,eW (dA rq id) j c->eW rq j c:=by
 have hm:∀j c,eW (dA rq id) j c↔eW rq j c/\j≠id:=by
  intro j c;unfold eW;rw[Er hq];simp only[Bool.and_eq_true,decide_eq_true_eq];exact and_assoc.symm
 refine⟨hq.take id,⟨fun j c hj=>?_,fun j t ht hs hj=>?_,h.p⟩,fun j c hj=>((hm j c).1 hj).1⟩
 ·obtain⟨k1,k2⟩:=(hm j c).1 hj;obtain⟨t,q1,q2,q3,q4⟩:=h.a j c k1;exact⟨t,q1,q2,q3,k2⟩
 ·have:=lU ht;exact(hm j _).2 ⟨h.b j t ht hs (by omega),hj⟩
end Go.Dav
namespace Go.Dav
section
variable {id ex:Int} {th th':TX} {rq rq':RS} {tm tm':cA} {own own':Int->Option Int} {v:Option Th}
theorem cj.ae (h:cj id th rq) (he:∀j,aB th'.2 j=if j=id then v else aB th.2 j) (hp:∀t,v=some t->0<=t.1/\t.1<8):cj id th' rq:=by
 refine⟨fun j c hj=>?_,fun j t ht hs hj=>?_,fun j t ht=>?_⟩
 ·obtain⟨t,h1,h2,h3,h4⟩:=h.a j c hj;exact⟨t,by rw[he,if_neg h4];exact h1,h2,h3,h4⟩
 ·rw[he,if_neg hj]at ht;exact h.b j t ht hs hj
 ·rw[he]at ht;split at ht
  ·exact hp t ht
  ·exact h.p j t ht
theorem cj.shut (h:cj id th rq) (hs:∀t,aB th.2 id=some t->t.2.2.2.2.1=true):cj 0 th rq:=by
 refine⟨fun j c hj=>?_,fun j t ht hst hj=>?_,h.p⟩
 ·obtain⟨t,h1,h2,h3,h4⟩:=h.a j c hj;have:=lU h1;exact⟨t,h1,h2,h3,by omega⟩
 ·by_cases e:j=id
  ·subst e;rw[hs t ht]at hst;cases hst
  ·exact h.b j t ht hst e
theorem cj.open (h:cj 0 th rq) (hno:∀c,¬eW rq id c):cj id th rq:=by
 refine⟨fun j c hj=>?_,fun j t ht hst hj=>?_,h.p⟩
 ·obtain⟨t,h1,h2,h3,h4⟩:=h.a j c hj;exact⟨t,h1,h2,h3,fun e=>hno c (e ▸ hj)⟩
 ·have:=lU ht;exact h.b j t ht hst (by omega)
theorem cj.LL (h:cj 0 th rq) {t:Th} (ht:aB th.2 id=some t) (hs:t.2.2.2.2.1=true):∀c,¬eW rq id c:=by
 intro c hc;obtain⟨u,h1,_,h3,_⟩:=h.a id c hc;rw[ht]at h1;cases h1;rw[hs]at h3;cases h3
theorem cj.none_ (h:cj 0 th rq) (ht:aB th.2 id=none):∀c,¬eW rq id c:=by
 intro c hc;obtain⟨u,h1,_⟩:=h.a id c hc;rw[ht]at h1;cases h1
theorem cj.same (h:cj ex th rq) (hm:∀i j,bd rq' i j=bd rq i j):cj ex th rq':=by
 refine⟨fun j c hj=>h.a j c ⟨hj.1,by rw[<-hm];exact hj.2⟩,fun j t ht hs hj=>?_,h.p⟩;have:=h.b j t ht hs hj;exact⟨this.1,by rw[hm];exact this.2⟩
theorem cM.ae (h:cM id th tm own) (he:∀j,aB th'.2 j=if j=id then v else aB th.2 j) (hp:∀t,v=some t->t.2.2.2.2.1=false->t.2.2.2.2.2=0):cM id th' tm own:=by
 refine⟨fun t j ho=>?_,fun j x hx hs hj=>?_,fun j x hx hs=>?_⟩
 ·obtain⟨h1,h2,h3,x,h4,h5⟩:=h.a t j ho;exact⟨h1,h2,h3,x,by rw[he,if_neg h3];exact h4,h5⟩
 ·rw[he,if_neg hj]at hx;exact h.b j x hx hs hj
 ·rw[he]at hx;split at hx
  ·exact hp x hx hs
  ·exact h.c j x hx hs
theorem cM.shut (h:cM id th tm own) (hs:∀t,aB th.2 id=some t->t.2.2.2.2.1=true->own t.2.2.2.2.2=some id):cM 0 th tm own:=by
 refine⟨fun t j ho=>?_,fun j x hx hsx hj=>?_,h.c⟩
 ·obtain⟨h1,h2,h3,h4⟩:=h.a t j ho;exact⟨h1,h2,by omega,h4⟩
 ·by_cases e:j=id
  ·subst e;exact hs x hx hsx
  ·exact h.b j x hx hsx e
theorem cM.open (h:cM 0 th tm own) (ha:∀t,own t≠some id):cM id th tm own:=by
 refine⟨fun t j ho=>?_,fun j x hx hsx hj=>?_,h.c⟩
 ·obtain⟨h1,h2,h3,h4⟩:=h.a t j ho;exact⟨h1,h2,fun e=>ha t (e ▸ ho),h4⟩
 ·have:=lU hx;exact h.b j x hx hsx (by omega)
theorem cM.Xo (h:cM ex th tm own) (hm:∀t,(aO tm t).isSome=true->(aO tm' t).isSome=true):cM ex th tm' own:=
 ⟨fun t j ho=>by
  obtain⟨h1,h2,h3⟩:=h.a t j ho;exact⟨h1,hm t h2,h3⟩,h.b,h.c⟩
theorem cM.Ym (h:cM ex th tm own) {t:Th} (ht:aB th.2 id=some t) (hs:t.2.2.2.2.1=false):∀u,own u≠some id:=by
 intro u hu;obtain⟨_,_,_,x,h4,h5,_⟩:=h.a u id hu;rw[ht]at h4;cases h4;rw[hs]at h5;cases h5
theorem cM.aeb (h:cM ex th tm own) (ht:aB th.2 id=none):∀u,own u≠some id:=by
 intro u hu;obtain⟨_,_,_,x,h4,_⟩:=h.a u id hu;rw[ht]at h4;cases h4
end
section
variable {id:Int} {th:TX} {tm tm':cA} {own own':Int->Option Int}
theorem cM.quiet (h:cM 0 th tm own) {t:Th} (ht:aB th.2 id=some t) (hs:t.2.2.2.2.1=true) (hm:∀j,aO tm' j=if j=t.2.2.2.2.2 then none else aO tm j) (ho:∀j,own' j=if j=t.2.2.2.2.2 then none else own j):cM id th tm' own':=by
 have hid:=lU ht;have hb:=h.b id t ht hs (by omega);refine⟨fun u j hu=>?_,fun j x hx hsx hj=>?_,h.c⟩
 ·rw[ho]at hu;split at hu
  ·cases hu
  ·rename_i hne;obtain⟨h1,h2,h3,x,h4,h5,h6⟩:=h.a u j hu;refine⟨h1,by rw[hm,if_neg hne];exact h2,?_,x,h4,h5,h6⟩;rintro rfl;rw[ht]at h4;cases h4;exact hne h6.symm
 ·have hj0:=lU hx;have:=h.b j x hx hsx (by omega);rw[ho,if_neg]
  ·exact this
  ·intro e;rw[e,hb]at this;cases this;exact hj rfl
end
section
variable {k:K}
theorem ax.gL (h:ax k):∀c,hs k.ac c=true->c<k.n:=fun c hc=>(h.dk.de c (h.dk.ao c hc)).2
theorem ar.may (hS:ar k):k.n<=64:=hS.n.2
theorem lG {ac:BV} {d:aZ} {s c:Int} (h:hs ac c=true):aW ac d s c:=.inl h
theorem AJ {id near:Int} {t:Th} (hn:k.n<=64) (hac:k.ac≠0) (hin:∀c,hs k.ac c=true->c<k.n) (h1:k.th.1=(k.n:Int)) (h2:k.th.2.length=32) (hq:bW k.n k.rq)
  (h:cj id k.th k.rq) (hm:cM 0 k.th k.tm.t k.own) (hP:PQ k.ac k.dk k.rq) (ht:aB k.th.2 id=some t) (hs0:t.2.2.2.2.1=false) :
  ∃th rq,fU k id near={k with th:=th,rq:=rq}/\bW k.n rq/\cj 0 th rq/\cM 0 th k.tm.t k.own/\PQ k.ac k.dk rq/\th.1=k.n/\th.2.length=32/\
   (∀j,(aB th.2 j).map nU=(aB k.th.2 j).map nU)/\(∀j c,eW rq j c->eW k.rq j c∨hs k.ac c=true)/\(∀j,(aB th.2 j).map (fun t=>t.2.1)=(aB k.th.2 j).map (fun t=>t.2.1)):=by
 obtain⟨q1,q2,q3,q4,q5,q6,q7⟩:=aeW (near:=near) hn hac hin h1 h2 hq h ht hs0;refine⟨(fU k id near).th,(fU k id near).rq,rfl,q1,q2,hm.congr q4,?_,by rw[q5];exact h1,q6,q4,q3,q7⟩;intro j c hj;rcases q3 j c hj with hj|hj
 ·exact hP j c hj
 ·exact lG hj
structure r9 (k:K):Prop where
 rq:bW k.n k.rq
 tq:cj 0 k.th k.rq
 tm:cM 0 k.th k.tm.t k.own
 q:PQ k.ac k.dk k.rq
 t1:k.th.1=(k.n:Int)
 t2:k.th.2.length=32
theorem Vl {id:Int} {t:Th} (hn:k.n<=64) (hac:k.ac≠0) (hin:∀c,hs k.ac c=true->c<k.n) (h:r9 k) (ht:aB k.th.2 id=some t) :
  ∃th rq,dU k id={k with th:=th,rq:=rq}/\r9 {k with th:=th,rq:=rq}/\(∀j,(aB th.2 j).map nU=(aB k.th.2 j).map nU)/\(∀j,(aB th.2 j).map (fun t=>t.2.1)=(aB k.th.2 j).map (fun t=>t.2.1))/\(∀j c,eW rq j c->eW k.rq j c∨hs k.ac c=true):=by
 have hx:=(xh ht).1;unfold dU;rw[hx];split
 ·exact⟨k.th,k.rq,rfl,h,fun _=>rfl,fun _=>rfl,fun _ _ hj=>.inl hj⟩
 ·rename_i hw;simp only[Bool.or_eq_true,not_or,Bool.not_eq_true]at hw;obtain⟨t1,t2,t3⟩:=xg h.rq h.tq id;obtain⟨th,rq,e,p1,p2,p3,p4,p5,p6,p7,p8,p9⟩:=AJ (k:={k with rq:=dA k.rq id}) (id:=id) (near:=t.2.2.1) (t:=t) hn hac hin h.t1 h.t2 t1 t2 h.tm (fun j c hj=>h.q j c (t3 j c hj)) ht hw.1;exact⟨th,rq,e,⟨p1,p2,p3,p4,p5,p6⟩,p7,p9,fun j c hj=>(p8 j c hj).imp (t3 j c) (fun hj=>hj)⟩
theorem af9 (h:ax k) (hS:ar k) (p:Int) (m:BV):ax (lj k p m):=by
 unfold lj;split
 ·rename_i h0;obtain⟨s1,s2,s3,s4⟩:=af7 h0;have hp:=s1;unfold lW at hp;have hT0:cj (cP k.th p m).1 (gY k.th p m) k.rq:=(h.tq.open (h.tq.none_ s3)).ae s4 (fun t ht=>by cases ht;exact⟨hp.1,hp.2.1⟩);have hM0:cM 0 (gY k.th p m) k.tm.t k.own:=((h.tm.open (h.tm.aeb s3)).ae s4 (fun t ht _=>by cases ht;rfl)).shut (fun t ht hs=>by rw[s4,if_pos rfl]at ht;cases ht;cases hs);obtain⟨th,rq,e,p1,p2,p3,p4,p5,p6,_⟩:=AJ (k:={k with th:=gY k.th p m}) (id:=(cP k.th p m).1) (near:=(cP k.th p m).1%k.n) hS.may h.dk.an h.gL (by rw[FC];exact hS.fZ) (by rw[FD];exact hS.fL) hS.rq hT0 hM0 h.q (s4 _ ▸ if_pos rfl) rfl;rw[e];exact⟨h.dk,h.pw,p2,p3,p4,h.t,h.w,h.c,h.i,h.o,h.ci,h.ki⟩
 ·rename_i h0;rw[af8 h0];exact h
theorem PT.sub {ac:BV} {d:aZ} {tm tm':cA} (h:PT ac d tm) (hm:∀j p,aO tm' j=some p->aO tm j=some p):PT ac d tm':=fun j p hj=>h j p (hm j p hj)
theorem PT.gone {ac:BV} {d:aZ} {tm tm':cA} (h:PT ac d tm) {t:Int} (hm:∀j,aO tm' j=if j=t then none else aO tm j):PT ac d tm':=h.sub fun j p hj=>by
 rw[hm]at hj;split at hj
 ·cases hj
 ·exact hj
theorem aaI (h:ax k) (hS:ar k) {id:Int} {t:Th} (ht:aB k.th.2 id=some t):ax (kF k id t):=by
 unfold kF;have hat:=aaH ht;split
 ·rename_i hs;have hq:cj 0 (iN k.th id) k.rq:=((h.tq.open (h.tq.LL ht hs)).ae hat (fun t ht=>by cases ht)).shut (fun u hu=>by rw[hat,if_pos rfl]at hu;cases hu)
  have hm:cM 0 (iN k.th id) (gM k.tm t.2.2.2.2.2).t (nN k.own t.2.2.2.2.2):=
   ((h.tm.quiet ht hs (fun j=>sK k.tm _ j) (fun j=>rfl)).ae hat (fun t ht=>by cases ht)).shut (fun u hu=>by rw[hat,if_pos rfl]at hu;cases hu)
  exact⟨h.dk,h.pw,hq,hm,h.q,h.t.gone (fun j=>sK k.tm _ j),h.w,h.c,h.i,h.o,h.ci,h.ki⟩
 ·rename_i hs;have hs:t.2.2.2.2.1=false:=by simpa using hs
  obtain⟨t1,t2,t3⟩:=xg hS.rq h.tq id;have hq:cj 0 (iN k.th id) (dA k.rq id):=(t2.ae hat (fun t ht=>by cases ht)).shut (fun u hu=>by rw[hat,if_pos rfl]at hu;cases hu);have hm:cM 0 (iN k.th id) k.tm.t k.own:=((h.tm.open (h.tm.Ym ht hs)).ae hat (fun t ht=>by cases ht)).shut (fun u hu=>by rw[hat,if_pos rfl]at hu;cases hu);exact⟨h.dk,h.pw,hq,hm,fun j c hj=>h.q j c (t3 j c hj),h.t,h.w,h.c,h.i,h.o,h.ci,h.ki⟩
theorem vV {m:BV} (h:m≠0):hs m (dK m).1=true:=by
 unfold dK;rw[yX h];exact Gc h
theorem afX (h:ax k) (hS:ar k) {id:Int} {t:Th} (ht:aB k.th.2 id=some t) (hz:t.2.2.2.2.1=false) (n:Int):ax (lg k id t n):=by
 have hcA:hs k.ac (fJ k t)=true:=by
  unfold fJ;split
  ·assumption
  ·exact vV h.dk.an
 have hid:=lU ht;unfold lg;split
 ·generalize hd:(aP k.now n).1=due;rcases LK k.tm (fJ k t) due with⟨e0,hc,i,hi,hno,e1,e2⟩|⟨e0,e2⟩
  ·rw[if_pos e0,e1,e2];have hat:=afZ (n:=(i:Int)+1) ht hz;obtain⟨t1,t2,t3⟩:=xg hS.rq h.tq id;have htm:∀j,aO (k.tm.t.set i (some (fJ k t,due))) j=if j=(i:Int)+1 then some (fJ k t,due)else aO k.tm.t j:=Bf hi _
   have hown:k.own ((i:Int)+1)=none:=by
    cases ho:k.own ((i:Int)+1)with
    | none=>rfl
    | some j=>
     obtain⟨_,h2,_⟩:=h.tm.a _ j ho;rw[hno]at h2;cases h2
   have hq:cj 0 (lh k.th id ((i:Int)+1)) (dA k.rq id):=(t2.ae hat (fun u hu=>by cases hu;exact h.tq.p id t ht)).shut (fun u hu=>by rw[hat,if_pos rfl]at hu;cases hu;rfl)
   have hm:cM 0 (lh k.th id ((i:Int)+1)) (k.tm.t.set i (some (fJ k t,due))) (fun j=>if j=(i:Int)+1 then some id else k.own j):=by
    refine⟨fun u j hu=>?_,fun j x hx hsx hj=>?_,fun j x hx hsx=>?_⟩
    ·split at hu
     ·rename_i e;cases hu;exact⟨hid.1,by rw[htm,if_pos e];rfl,by omega,_,by rw[hat,if_pos rfl],rfl,e.symm⟩
     ·rename_i e;obtain⟨h1,h2,h3,x,h4,h5,h6⟩:=h.tm.a u j hu
      have hji:j≠id:=by
       rintro rfl;rw[ht]at h4;cases h4;rw[hz]at h5;cases h5
      exact⟨h1,by rw[htm,if_neg e];exact h2,h3,x,by rw[hat,if_neg hji];exact h4,h5,h6⟩
    ·rw[hat]at hx;split at hx
     ·rename_i e;cases hx;simp[e]
     ·rename_i e;have:=h.tm.b j x hx hsx hj;rw[if_neg (fun e2=>by rw[e2,hown]at this;cases this)];exact this
    ·rw[hat]at hx;split at hx
     ·cases hx;cases hsx
     ·exact h.tm.c j x hx hsx
   refine⟨h.dk,h.pw,hq,hm,fun j c hj=>h.q j c (t3 j c hj),fun j p hp=>?_,h.w,h.c,h.i,h.o,h.ci,h.ki⟩;rw[htm]at hp;split at hp
   ·cases hp;exact lG hcA
   ·exact h.t j p hp
  ·rw[if_neg e0,e2];exact h
 ·exact h
theorem amF {id:Int} {t:Th} (hn:k.n<=64) (hac:k.ac≠0) (hin:∀c,hs k.ac c=true->c<k.n) (h1:k.th.1=(k.n:Int)) (h2:k.th.2.length=32) (hq:bW k.n k.rq)
  (hT:cj 0 k.th k.rq) (hm:cM id k.th k.tm.t k.own) (hP:PQ k.ac k.dk k.rq) (ht:aB k.th.2 id=some t) (hs:t.2.2.2.2.1=true) :
  ∃th rq,pF k id={k with th:=th,rq:=rq}/\r9 {k with th:=th,rq:=rq}:=by
 have hat:=amD ht hs;have hT':cj id (iD k.th id) k.rq:=(hT.open (hT.LL ht hs)).ae hat (fun u hu=>by cases hu;exact hT.p id t ht);have hM':cM 0 (iD k.th id) k.tm.t k.own:=(hm.ae hat (fun u hu _=>by cases hu;rfl)).shut (fun u hu hsu=>by rw[hat,if_pos rfl]at hu;cases hu;cases hsu);obtain⟨th,rq,e,p1,p2,p3,p4,p5,p6,_⟩:=AJ (k:={k with th:=iD k.th id}) (id:=id) (near:=(bN {k with th:=iD k.th id} id).2.2.1) hn hac hin (by rw[XF];exact h1) (by rw[XG];exact h2) hq hT' hM' hP (hat _ ▸ if_pos rfl) rfl;exact⟨th,rq,by unfold pF;rw[e],p1,p2,p3,p4,p5,p6⟩
theorem Ws (h:ax k) (hS:ar k) {id:Int} {t:Th} (ht:aB k.th.2 id=some t) (hs:t.2.2.2.2.1=true):ax (pF (tS k t.2.2.2.2.2) id):=by
 have hm:=h.tm.quiet ht hs (fun j=>sK k.tm _ j) (own':=nN k.own t.2.2.2.2.2) (fun j=>rfl);obtain⟨th,rq,e,hT⟩:=amF (k:=tS k t.2.2.2.2.2) (id:=id) hS.may h.dk.an h.gL hS.fZ hS.fL hS.rq h.tq hm h.q ht hs;rw[e];exact⟨h.dk,h.pw,hT.tq,hT.tm,hT.q,h.t.gone (fun j=>sK k.tm _ j),h.w,h.c,h.i,h.o,h.ci,h.ki⟩
end
end Go.Dav
namespace Go.Dav
theorem AP {Q:QL} {c c':Int} {l:List Int} (h : -1<=c/\c+1<Q.length) (h' : -1<=c'):bV (Q.set (ix c) l) c'=if c'=c then l else bV Q c':=by
 unfold bV ix;rw[List.getD_eq_getElem?_getD,List.getD_eq_getElem?_getD,List.getElem?_set];by_cases e:c'=c
 ·subst e;rw[if_pos rfl,if_pos rfl,if_pos (by omega)];rfl
 ·rw[if_neg (by omega),if_neg e]
theorem rK {o:List Bool} {L:List (List Int)} {c c':Int} {l:List Int} (h:0<=c/\c<L.length) (h':0<=c'):aM (o,L.set c.toNat l) c'=if c'=c then l else aM (o,L) c':=by
 unfold aM;simp only;rw[List.getD_eq_getElem?_getD,List.getD_eq_getElem?_getD,List.getElem?_set];by_cases e:c'=c
 ·subst e;rw[if_pos rfl,if_pos rfl,if_pos (by omega)];rfl
 ·rw[if_neg (by omega),if_neg e]
theorem AO {pg:List Nat} {L:List (List Int)} {c c':Int} {l:List Int} (h:0<=c/\c<L.length) (h':0<=c'):iY (pg,L.set c.toNat l) c'=if c'=c then l else iY (pg,L) c':=by
 unfold iY;simp only;rw[List.getD_eq_getElem?_getD,List.getD_eq_getElem?_getD,List.getElem?_set];by_cases e:c'=c
 ·subst e;rw[if_pos rfl,if_pos rfl,if_pos (by omega)];rfl
 ·rw[if_neg (by omega),if_neg e]
theorem zI {s:bj} {n m:Int} {q:Iq} (hl:s.2.length=16) (hn:¬fS n) (hm:0<=m):gq (gQ s n q) m=if m=n then q else gq s m:=by
 unfold fS at hn;unfold gq gQ;simp only;rw[List.getD_eq_getElem?_getD,List.getD_eq_getElem?_getD,List.getElem?_set];by_cases e:m=n
 ·subst e;rw[if_pos rfl,if_pos rfl,if_pos (by omega)];rfl
 ·rw[if_neg (by omega),if_neg e]
theorem qA {s:bj} {n:Int} (h:cR s n=0):¬fS n/\(gq s n).1=true:=by
 unfold cR at h;split at h
 ·omega
 ·rename_i hn;split at h
  ·rename_i hg;exact⟨hn,hg⟩
  ·omega
def gJ (s s':bj):Prop:=∀m,0<=m->(gq s' m).1=(gq s m).1
theorem gJ.refl (s:bj):gJ s s:=fun _ _=>rfl
theorem gJ.put {s:bj} {n:Int} {q:Iq} (hl:s.2.length=16) (hn:¬fS n) (hq:q.1=(gq s n).1):gJ s (gQ s n q):=fun m hm=>by
 rw[zI hl hn hm];split
 ·rename_i e;subst e;exact hq
 ·rfl
theorem Yd {s:bj} (hl:s.2.length=16) (n:Int) (m:BV):gJ s (mh s n m):=by
 unfold mh;split
 ·rename_i h
  have hw:cR s n=0:=by
   unfold lH at h;split at h
   ·assumption
   ·rename_i hh;exact absurd h hh
  exact gJ.put hl (qA hw).1 rfl
 ·exact gJ.refl s
theorem Tm {s:bj} (hl:s.2.length=16) (n:Int) (b:Bool):gJ s (lM s n b):=by
 unfold lM;split
 ·rename_i h
  have hw:cR s n=0:=by
   unfold kU at h;split at h
   ·assumption
   ·rename_i hh;exact absurd h hh
  exact gJ.put hl (qA hw).1 rfl
 ·exact gJ.refl s
theorem ae0 {s:bj} (hl:s.2.length=16) (n:Int):gJ s (qp s n):=by
 unfold qp;split
 ·rename_i hw;exact gJ.put hl (qA hw).1 rfl
 ·exact gJ.refl s
theorem ZB {s:bj} (hl:s.2.length=16) (n:Int):gJ s (jt s n):=by
 unfold jt;split
 ·rename_i h
  have hw:cR s n=0:=by
   unfold lI at h;split at h
   ·assumption
   ·rename_i hh;exact absurd h hh
  exact gJ.put hl (qA hw).1 rfl
 ·exact gJ.refl s
theorem PI.same {ac:BV} {d:aZ} {ir ir':bj} {rt:ch} (h:PI ac d ir rt) (hw:gJ ir ir'):PI ac d ir' rt:=fun n h0 h1 hn=>h n h0 h1 (by rw[<-hw n h0];exact hn)
theorem Tf {x:ch} {n c m:Int} (hn:0<=n/\n<x.2.length) (hm:0<=m):gt (x.1,x.2.set n.toNat c) m=if m=n then c else gt x m:=by
 unfold gt;simp only;rw[List.getD_eq_getElem?_getD,List.getD_eq_getElem?_getD,List.getElem?_set];by_cases e:m=n
 ·subst e;rw[if_pos rfl,if_pos rfl,if_pos (by omega)];rfl
 ·rw[if_neg (by omega),if_neg e]
theorem Ar {x:ch} {m:Int} (hm:0<=m/\m<16):b9 x m=if gt x m<0 then(0,false)else(gt x m,true):=by
 have om:¬fo m:=by unfold fo;omega
 unfold b9;rw[if_neg om]
theorem Ez {x:ch} (hl:x.2.length=16) {n c m:Int} (hn:0<=n/\n<16) (hc:0<=c/\c<x.1) (hm:0<=m/\m<16):b9 (j8 x n c) m=if m=n then(c,true)else b9 x m:=by
 have on:¬fo n:=by unfold fo;omega
 have he:lV x n c=0:=by
  unfold lV;rw[if_neg on,if_neg (by omega)]
 unfold j8;rw[if_pos he,Ar hm,Ar hm,Tf (by omega) hm.1];by_cases e:m=n
 ·rw[if_pos e,if_pos e,if_neg (by omega)]
 ·rw[if_neg e,if_neg e]
theorem uf (x:ch) (n c:Int):(j8 x n c).1=x.1/\(j8 x n c).2.length=x.2.length:=by unfold j8;split<;>simp
theorem VR (x:ch) (n:Int):(mG x n).1=x.1/\(mG x n).2.length=x.2.length:=by unfold mG;split<;>simp
theorem aeg {x:ch} (hl:x.2.length=16) {n m:Int} (hm:0<=m/\m<16) (hne:m≠n):b9 (mG x n) m=b9 x m:=by
 unfold mG;split
 ·rename_i he
  have hn:0<=n/\n<16:=by
   unfold o0 at he;split at he
   ·omega
   ·rename_i h;unfold fo at h;omega
  rw[Ar hm,Ar hm,Tf (by omega) hm.1,if_neg hne]
 ·rfl
theorem Ee {k:K} (hac:k.ac≠0) (hin:∀c,hs k.ac c=true->c<k.n) (h1:k.rt.1=(k.n:Int)) (h2:k.rt.2.length=16) {n near:Int} (hn:0<=n/\n<16)
  (h:∀m,0<=m->m<16->(gq k.ir m).1=true->m≠n->∃c,b9 k.rt m=(c,true)/\aW k.ac k.dk 7 c) :
  PI k.ac k.dk k.ir (ey k n near).rt/\(ey k n near).rt.1=k.n/\(ey k n near).rt.2.length=16/\∀m,0<=m->m<16->m≠n->b9 (ey k n near).rt m=b9 k.rt m:=by
 have hc:=vD (m:=mE k n) hac near;have hc0:=gP hc;have hcn:=hin _ hc;unfold ey;simp only;refine⟨fun m m0 m1 hm=>?_,by rw[(uf ..).1];exact h1,by rw[(uf ..).2];exact h2,fun m m0 m1 hm=>?_⟩
 ·rw[Ez h2 hn ⟨hc0.1,by rw[h1];exact hcn⟩ ⟨m0,m1⟩];split
  ·exact⟨_,rfl,lG hc⟩
  ·rename_i e;exact h m m0 m1 hm e
 ·rw[Ez h2 hn ⟨hc0.1,by rw[h1];exact hcn⟩ ⟨m0,m1⟩,if_neg hm]
section
variable {k:K}
theorem ae5 {s:bj} {n:Int} {m:BV} (h:iX s n m=0):¬fS n:=by
 unfold iX at h;split at h
 ·omega
 ·assumption
theorem ab9 (h:ax k) (hS:ar k) (e:aU):ax (jW k e):=by
 have base:∀ir',gJ k.ir ir'->ax {k with ir:=ir'}:=fun ir' hw=>⟨h.dk,h.pw,h.tq,h.tm,h.q,h.t,h.w,h.c,h.i.same hw,h.o,h.ci,h.ki⟩;unfold jW;split
 ·split
  ·rename_i h0;have hn:=ae5 h0;have hn':0<=e.2.2.1/\e.2.2.1<16:=by unfold fS at hn;omega
   have hg:∀m,0<=m->m≠e.2.2.1->gq (jE k.ir e.2.2.1 e.2.2.2.1) m=gq k.ir m:=by
    intro m hm hne;unfold jE;rw[if_pos h0,zI hS.fk hn hm,if_neg hne]
   obtain⟨q1,_⟩:=Ee (k:={k with ir:=jE k.ir e.2.2.1 e.2.2.2.1}) (near:=e.2.2.1%k.n) h.dk.an h.gL hS.gW hS.gz hn' (fun m m0 m1 hm hne=>h.i m m0 m1 (by rw[<-hg m m0 hne];exact hm));exact⟨h.dk,h.pw,h.tq,h.tm,h.q,h.t,h.w,h.c,q1,h.o,h.ci,h.ki⟩
  ·rename_i h0;have:jE k.ir e.2.2.1 e.2.2.2.1=k.ir:=by unfold jE;rw[if_neg h0]
   rw[this];exact h
 ·split
  ·split
   ·rename_i h0;obtain⟨hn,_⟩:=qA h0;refine⟨h.dk,h.pw,h.tq,h.tm,h.q,h.t,h.w,h.c,fun m m0 m1 hm=>?_,h.o,h.ci,h.ki⟩;unfold nB at hm;rw[if_pos h0,zI hS.fk hn m0]at hm;split at hm
    ·cases hm
    ·rename_i hne;rw[aeg hS.gz ⟨m0,m1⟩ hne];exact h.i m m0 m1 hm
   ·rename_i h0;have:nB k.ir e.2.2.1=k.ir:=by unfold nB;rw[if_neg h0]
    rw[this];exact h
  ·split
   ·have h1:=base _ (Yd hS.fk e.2.2.1 e.2.2.2.1);split
    ·rename_i h0
     have hw:cR k.ir e.2.2.1=0:=by
      unfold lH at h0;split at h0
      ·assumption
      ·rename_i hh;exact absurd h0 hh
     have hn:=(qA hw).1;have hn':0<=e.2.2.1/\e.2.2.1<16:=by unfold fS at hn;omega
     unfold dR;split
     ·obtain⟨q1,_⟩:=Ee (k:={k with ir:=mh k.ir e.2.2.1 e.2.2.2.1}) (near:=(b9 k.rt e.2.2.1).1) h.dk.an h.gL hS.gW hS.gz hn' (fun m m0 m1 hm _=>h1.i m m0 m1 hm);exact⟨h.dk,h.pw,h.tq,h.tm,h.q,h.t,h.w,h.c,q1,h.o,h.ci,h.ki⟩
     ·exact h1
    ·exact h1
   ·split
    ·exact base _ (Tm hS.fk _ _)
    ·split
     ·exact base _ (Tm hS.fk _ _)
     ·exact base _ (ae0 hS.fk _)
theorem cj.congr {ex:Int} {th th':TX} {rq:RS} (h:cj ex th rq) (he:∀j,(aB th'.2 j).map (fun t=>(t.1,t.2.2.1,t.2.2.2.2.1))=(aB th.2 j).map (fun t=>(t.1,t.2.2.1,t.2.2.2.2.1))):cj ex th' rq:=by
 have bw:∀{j t},aB th'.2 j=some t->∃t',aB th.2 j=some t'/\t'.1=t.1/\t'.2.2.1=t.2.2.1/\t'.2.2.2.2.1=t.2.2.2.2.1:=by
  intro j t ht;have:=he j;rw[ht]at this;obtain⟨t',h1,h2⟩:=Option.map_eq_some_iff.1 this.symm;simp only[Prod.mk.injEq]at h2;exact⟨t',h1,h2.1,h2.2.1,h2.2.2⟩
 have fw:∀{j t},aB th.2 j=some t->∃t',aB th'.2 j=some t'/\t'.2.2.1=t.2.2.1/\t'.2.2.2.2.1=t.2.2.2.2.1:=by
  intro j t ht;have:=he j;rw[ht]at this;obtain⟨t',h1,h2⟩:=Option.map_eq_some_iff.1 this;simp only[Prod.mk.injEq]at h2;exact⟨t',h1,h2.2.1,h2.2.2⟩
 refine⟨fun j c hj=>?_,fun j t ht hs hj=>?_,fun j t ht=>?_⟩
 ·obtain⟨t,h1,h2,h3,h4⟩:=h.a j c hj;obtain⟨t',k1,k2,k3⟩:=fw h1;exact⟨t',k1,k2.trans h2,k3.trans h3,h4⟩
 ·obtain⟨t',k1,_,k2,k3⟩:=bw ht;rw[<-k2];exact h.b j t' k1 (k3.trans hs) hj
 ·obtain⟨t',k1,k2,_⟩:=bw ht;rw[<-k2];exact h.p j t' k1
theorem Ya (h:ax k) (hS:ar k) {id:Int} {t:Th} (ht:aB k.th.2 id=some t) (m:BV) :
  ax (if kr k.th id m=0 then dU {k with th:=ik k.th id m} id else{k with th:=ik k.th id m}):=by
 by_cases hr:jF k.th.1 m=true
 ·have h0:kr k.th id m=0:=by unfold kr;rw[ht];simp[hr]
  rw[if_pos h0];have hat:=Yc ht hr
  have h1:r9 {k with th:=ik k.th id m}:=by
   refine⟨hS.rq,h.tq.congr (fun j=>?_),h.tm.congr (fun j=>?_),h.q,by rw[BK];exact hS.fZ,by rw[BL];exact hS.fL⟩
   ·rw[hat];split
    ·rename_i e;subst e;rw[ht];rfl
    ·rfl
   ·rw[hat];split
    ·rename_i e;subst e;rw[ht];rfl
    ·rfl
  obtain⟨th,rq,e,hT,_⟩:=Vl (k:={k with th:=ik k.th id m}) (id:=id) hS.may h.dk.an h.gL h1 (hat id ▸ if_pos rfl);rw[e];exact⟨h.dk,h.pw,hT.tq,hT.tm,hT.q,h.t,h.w,h.c,h.i,h.o,h.ci,h.ki⟩
 ·have h0:kr k.th id m=2:=by unfold kr;rw[ht];simp[hr]
  have h1:ik k.th id m=k.th:=by unfold ik;rw[ht];simp[hr]
  rw[if_neg (by omega),h1];exact h
theorem Yr (h:ax k) (hS:ar k) (id:Int):ax {k with rq:=qt k.rq id}:=
 ⟨h.dk,h.pw,h.tq.same (Vg hS.rq id),h.tm,fun j c hj=>h.q j c ⟨hj.1,by rw[<-Vg hS.rq id];exact hj.2⟩,h.t,h.w,h.c,h.i,h.o,h.ci,h.ki⟩
theorem aeB (h:ax k) (c:Int):ax {k with rq:=la k.rq c}:=
 ⟨h.dk,h.pw,h.tq.same (Vh k.rq c),h.tm,fun j c' hj=>h.q j c' ⟨hj.1,by rw[<-Vh k.rq c];exact hj.2⟩,h.t,h.w,h.c,h.i,h.o,h.ci,h.ki⟩
theorem ahT (h:ax k) (hS:ar k) (e:aU) (he:4<=e.1/\e.1<=9):ax (eI k e):=by
 unfold eI;simp only
 cases ht:aB k.th.2 e.2.2.1 with
 | none=>
  rw[(ahO ht).2]
  exact h
 | some t=>
  rw[(xh ht).2,(xh ht).1];rw[if_neg (by simp)];split
  ·exact h
  ·split
   ·exact aaI h hS ht
   ·split
    ·exact Ya h hS ht _
    ·split
     ·exact h
     ·rename_i h1;split
      ·rename_i h2;have hs:t.2.2.2.2.1=false:=by simp[h2]at h1;exact h1
       exact afX h hS ht hs _
      ·split
       ·exact Yr h hS _
       ·
        have h7:e.1=7:=by omega
        have h8:t.2.2.2.2.1=true:=by rw[h7]at h1;simpa using h1
        exact Ws h hS ht h8
end
end Go.Dav
namespace Go.Dav
theorem aW.d1 {ac:BV} {d d':aZ} {s c:Int} (e:d'.1=d.1) (h:aW ac d s c):aW ac d' s c:=by unfold aW at h⊢;rw[e];exact h
section
variable {n:Nat} {on ac:BV} {gs:Int} {sp:BV×BV} {d d':aZ}
theorem xt.d1 (e:d'.1=d.1) (h:xt n on ac gs sp d):xt n on ac gs sp d':=⟨h.an,h.ao,h.de,by rw[e];exact h.free,by rw[e];exact h.bJ,h.iZ⟩
theorem xy.d1 {co:List cG} (e:d'.1=d.1) (h:xy n on d co):xy n on d' co:=fun c h0 h1=>by rw[h c h0 h1];unfold fH;rw[e]
theorem PQ.d1 {rq:RS} (e:d'.1=d.1) (h:PQ ac d rq):PQ ac d' rq:=fun j c hj=>(h j c hj).d1 e
theorem PT.d1 {tm:cA} (e:d'.1=d.1) (h:PT ac d tm):PT ac d' tm:=fun j c hj=>(h j c hj).d1 e
theorem PW.d1 {wk:QL} (e:d'.1=d.1) (h:PW ac d wk):PW ac d' wk:=fun j c h0 hj=>(h j c h0 hj).d1 e
theorem PC.d1 {ca:CS} (e:d'.1=d.1) (h:PC ac d ca):PC ac d' ca:=fun j c h0 hj=>(h j c h0 hj).d1 e
theorem PO.d1 {st:KS} (e:d'.1=d.1) (h:PO ac d st):PO ac d' st:=fun j c h0 hj=>(h j c h0 hj).d1 e
theorem PI.d1 {ir:bj} {rt:ch} (e:d'.1=d.1) (h:PI ac d ir rt):PI ac d' ir rt:=fun j h0 h1 hj=>by
 obtain⟨c,q1,q2⟩:=h j h0 h1 hj;exact⟨c,q1,q2.d1 e⟩
end
section
variable {k:K}
theorem ax.d1 (h:ax k) {d:aZ} (e:d.1=k.dk.1):ax {k with dk:=d}:=
 ⟨h.dk.d1 e,h.pw.d1 e,h.tq,h.tm,h.q.d1 e,h.t.d1 e,h.w.d1 e,h.c.d1 e,h.i.d1 e,h.o.d1 e,h.ci,h.ki⟩
theorem Wc (h:ax k) (n:Int):ax {k with dk:=jC k.dk n}:=h.d1 (by unfold jC;split<;>rfl)
theorem PW.put {ac:BV} {d:aZ} {wk:QL} (h:PW ac d wk) {c:Int} {l:List Int} (hc : -1<=c/\c+1<wk.length) (hl:∀v∈l,0<=c->aW ac d 5 c):PW ac d (wk.set (ix c) l):=by
 intro c' v h0 hv;rw[AP hc (by omega)]at hv;split at hv
 ·rename_i e;subst e;exact hl v hv h0
 ·exact h c' v h0 hv
theorem Wo {ac:BV} {d:aZ} {wk:QL} (h:PW ac d wk) {c:Int} (hc:c = -1∨hs ac c=true):PW ac d (o8 wk c):=by
 unfold o8;split
 ·rename_i hw;split
  ·refine h.put hw fun v _ h0=>?_;rcases hc with rfl|hc
   ·omega
   ·exact lG hc
  ·exact h
 ·exact h
theorem RY {ac:BV} {d:aZ} {wk:QL} (h:PW ac d wk) (v:Int):PW ac d (ky wk v):=by
 unfold ky;split
 ·rename_i c he;unfold gE at he;obtain⟨i,hi,rfl⟩:=Option.map_eq_some_iff.1 he;obtain⟨hi,_⟩:=List.findIdx?_eq_some_iff_getElem.1 hi;refine h.put ⟨by omega,by omega⟩ fun u hu h0=>?_;exact h _ u h0 (List.mem_of_mem_erase hu)
 ·exact h
theorem ahz {ac:BV} {d:aZ} {wk:QL} (h:PW ac d wk) (c:Int):PW ac d (lX wk c):=by
 unfold lX;split
 ·split
  ·exact RY h _
  ·exact RY h _
  ·exact h
 ·exact h
theorem wQ {ca ca':CS} (h:ca'.2=ca.2) (c:Int):aM ca' c=aM ca c:=by unfold aM;rw[h]
theorem afH {ac:BV} {d:aZ} {ca:CS} (h:PC ac d ca) {c:Int} (hc:hs ac c=true):PC ac d (iB ca c):=by
 unfold iB;split
 ·rename_i hb;split
  ·intro c' v h0 hv;rw[rK hb h0]at hv;split at hv
   ·rename_i e;subst e;exact lG hc
   ·exact h c' v h0 (by rw[wQ (ca:=ca) (ca':=(fK ca.1,ca.2)) rfl]at hv;exact hv)
  ·exact h
 ·exact h
theorem ahV {ac:BV} {d:aZ} {ca:CS} (h:PC ac d ca) (c:Int):PC ac d (gZ ca c):=by
 have key:∀o,aT ca c->PC ac d (o,ca.2.set c.toNat (aM ca c).tail):=by
  intro o hb c' v h0 hv;rw[rK hb h0]at hv;split at hv
  ·rename_i e;subst e;exact h c' v h0 (List.mem_of_mem_tail hv)
  ·exact h c' v h0 hv
 unfold gZ;split
 ·rename_i hb;split
  ·exact key _ hb
  ·exact key _ hb
 ·exact h
theorem Yh {ac:BV} {d:aZ} {st:KS} (h:PO ac d st) {c:Int} (hc:hs ac c=true):PO ac d (ni st c):=by
 unfold ni;split
 ·rename_i hb;intro c' v h0 hv;rw[AO hb h0]at hv;split at hv
  ·rename_i e;subst e;exact lG hc
  ·exact h c' v h0 hv
 ·exact h
theorem abu {ac:BV} {d:aZ} {st:KS} (h:PO ac d st) {c:Int} (hc:hs ac c=true) (v:Int):PO ac d (mR st c v):=by
 unfold mR;split
 ·rename_i hb;intro c' v h0 hv;rw[AO hb.1 h0]at hv;split at hv
  ·rename_i e;subst e;exact lG hc
  ·exact h c' v h0 hv
 ·exact h
theorem aam {ac:BV} {d:aZ} {st:KS} (h:PO ac d st) (c:Int):PO ac d (gr st c):=by
 unfold gr;split
 ·rename_i hb;intro c' v h0 hv;rw[AO hb h0]at hv;split at hv
  ·cases hv
  ·exact h c' v h0 hv
 ·exact h
theorem Yl (h:ax k) (hS:ar k) {c:Int} (hc:hs k.ac c=true) (n:Int):ax (np k c n):=by
 unfold np;split
 ·rcases LK k.tm c (aP k.now n).1 with⟨_,_,i,hi,hno,_,e2⟩|⟨_,e2⟩
  ·rw[e2];have htm:∀j,aO (k.tm.t.set i (some (c,(aP k.now n).1))) j=if j=(i:Int)+1 then some (c,(aP k.now n).1)else aO k.tm.t j:=Bf hi _;refine⟨h.dk,h.pw,h.tq,h.tm.Xo (fun t ht=>?_),h.q,fun j p hp=>?_,h.w,h.c,h.i,h.o,h.ci,h.ki⟩
   ·rw[htm];split
    ·rfl
    ·exact ht
   ·rw[htm]at hp;split at hp
    ·cases hp;exact lG hc
    ·exact h.t j p hp
  ·rw[e2];exact h
 ·exact h
theorem aeh {c:Int} (h:nL k c=0):(0<=c/\c<k.n)/\hs k.ac c=true:=by
 unfold nL at h;split at h
 ·rename_i hc;split at h
  ·rename_i ha;exact⟨hc,ha⟩
  ·omega
 ·omega
theorem We (h:ax k) (hS:ar k) (e:aU):ax (fG k e):=by
 unfold fG;split
 ·exact h
 ·rename_i h0;have hc:=(aeh (Classical.not_not.1 h0)).2;split
  ·exact Yl h hS hc _
  ·split
   ·exact⟨h.dk,h.pw,h.tq,h.tm,h.q,h.t,Wo h.w (.inr hc),h.c,h.i,h.o,h.ci,h.ki⟩
   ·split
    ·exact⟨h.dk,h.pw,h.tq,h.tm,h.q,h.t,h.w,afH h.c hc,h.i,h.o,(h.ci.send _).1,h.ki⟩
    ·split
     ·exact⟨h.dk,h.pw,h.tq,h.tm,h.q,h.t,h.w,h.c,h.i,Yh h.o hc,h.ci,h.ki.alloc _⟩
     ·split
      ·exact⟨h.dk,h.pw,h.tq,h.tm,h.q,h.t,h.w,h.c,h.i,abu h.o hc _,h.ci,h.ki.abp _ _⟩
      ·have e1:(oM k.ga e.2.1).2=k.ga.2:=by unfold oM;split<;>rfl
       exact⟨by simp only;rw[e1];exact h.dk,h.pw,h.tq,h.tm,h.q,h.t,h.w,h.c,h.i,h.o,h.ci,h.ki⟩
theorem Zv (h:ax k) (id:Int):ax (nv k id):=by
 unfold nv;split
 ·split
  ·exact h
  ·rename_i hn
   have hown:k.own id=none:=by
    cases ho:k.own id with
    | none=>rfl
    | some j=>
     have:=(h.tm.a id j ho).1;rw[ho]at hn;exact absurd (show 0<(some j).getD 0 by simp;omega) hn
   have hat:=fun j=>sK k.tm id j;refine⟨h.dk,h.pw,h.tq,⟨fun t j ho=>?_,h.tm.b,h.tm.c⟩,h.q,h.t.gone hat,h.w,h.c,h.i,h.o,h.ci,h.ki⟩;obtain⟨h1,h2,h3⟩:=h.tm.a t j ho;refine⟨h1,?_,h3⟩;simp only;rw[hat,if_neg (fun e=>by rw[e,hown]at ho;cases ho)];exact h2
 ·exact h
theorem ahU (h:ax k) (n:Int):ax (lZ k n):=by
 unfold lZ;split
 ·have e:(kI k.tm (aP k.now n).1).t=k.tm.t:=by unfold kI;split<;>rfl
  exact⟨h.dk,h.pw,h.tq,by simp only;rw[e];exact h.tm,h.q,by simp only;rw[e];exact h.t,h.w,h.c,h.i,h.o,h.ci,h.ki⟩
 ·exact h
theorem YD {ld:Int->Int} {gt:Int->Int->Bool} {l:List Int} (h:l≠[]):(jq ld gt l).1∈l/\jo ld gt l=some (jq ld gt l).1:=by
 rcases vp ld gt l with⟨h1,h2⟩|⟨a,ha,h1⟩
 ·exact absurd h2 h
 ·unfold jq;rw[h1];exact⟨ha,rfl⟩
theorem X8 (h:ax k) (hS:ar k):aV (hs k.ac) k.rq.length≠[]:=by
 obtain⟨c,_,hc,_⟩:=tE h.dk.an;have:=h.gL _ hc;intro e;have:(c:Int)∈aV (hs k.ac) k.rq.length:=dT.2 ⟨by omega,by rw[hS.rq.len];exact this,hc⟩;rw[e]at this;cases this
theorem ab1 (h:ax k) (hS:ar k):hs k.ac (dM k)=true:=(dT.1 (YD (X8 h hS)).1).2.2
theorem Wp {id c:Int} (h:ax k) (hS:ar k) (hm:id∈aY k.rq c):∃t,aB k.th.2 id=some t/\t.2.2.1=c/\t.2.2.2.2.1=false:=by
 obtain⟨t,h1,h2,h3,_⟩:=h.tq.a id c ((wA hS.rq).1 hm);exact⟨t,h1,h2,h3⟩
theorem Yy (h:ax k) (hS:ar k):ax (jn k):=by
 unfold jn;split
 ·exact h
 ·split
  ·rename_i id hf;have hm:=List.mem_of_find?_eq_some hf;rw[List.mem_reverse]at hm;obtain⟨t,ht,_,hs0⟩:=Wp h hS hm;rw[(xh ht).1];obtain⟨t1,t2,t3⟩:=xg hS.rq h.tq id;have hi:=ab1 h hS;obtain⟨_,q1,q2,q3,q4,q5,q6,q7⟩:=Wb (f:=false) hS.may hi (h.gL _ hi) hS.fZ hS.fL t1 t2 ht hs0;refine⟨h.dk,h.pw,q2,h.tm.congr q4,fun j c hj=>?_,h.t,h.w,h.c,h.i,h.o,h.ci,h.ki⟩;rcases(q3 j c).1 hj with hj|⟨_,rfl⟩
   ·exact h.q j c (t3 j c hj)
   ·exact lG hi
  ·exact h
theorem pD (p:Int->Bool) (n:Nat):(aV p n).Nodup:=by
 unfold aV;refine List.Pairwise.filter _ (List.Pairwise.map _ ?_ List.nodup_range);intro a b hab e;exact hab (by omega)
theorem aeo {m:BV} {c:Int} (hc:hs m c=true) (h0:ls m c=0):(cs m).length=1:=by
 have hsub:∀d∈cs m,d=c:=by
  intro d hd;have h1:hs (ls m c) d=false:=by rw[h0];exact gu d
  rw[eu,wz.1 hd]at h1;simpa using h1
 have hnd:(cs m).Nodup:=pD _ _;have hmem:=wz.2 hc
 match hl:cs m,hnd,hsub,hmem with
 | [a],_,_,_=>rfl
 | a::b::l,hnd,hsub,_=>
  have e1:=hsub a (by simp);have e2:=hsub b (by simp);simp only[List.nodup_cons,List.mem_cons,not_or]at hnd;exact absurd (e1.trans e2.symm) hnd.1.1
theorem EX (h:ax k) (hS:ar k) (up:Bool) (c:Int):(fz k up c≠0/\bP k up c=k)∨
  (fz k up c=0/\k.dk.1=none/\(0<=c/\c<k.n)/\hs k.on c=(!up)/\ls k.ac c≠0/\bP k up c={k with ga:=(k.ga.1,1),dk:=(some ⟨if up then 4 else 10,0,false,up,c,(dK (ls k.ac c)).1,false⟩,k.dk.2)}):=by
 unfold fz bP;by_cases h1:0<=c/\c<k.n
 ·rw[if_neg (not_not_intro h1),if_neg (not_not_intro h1)];by_cases h2:dj k.dk=true
  ·rw[if_pos h2,if_pos h2];exact .inl ⟨by simp,rfl⟩
  ·rw[if_neg h2,if_neg h2]
   have hd:k.dk.1=none:=by
    cases hd:k.dk.1 with
    | none=>rfl
    | some r=>unfold dj at h2;rw[hd]at h2;exact absurd rfl h2
   obtain⟨f1,f2,f3⟩:=h.dk.free hd;by_cases h3:(up&&hs k.on c)=true
   ·rw[if_pos h3,if_pos h3];exact .inl ⟨by simp,rfl⟩
   ·rw[if_neg h3,if_neg h3];by_cases h4:(!up&&!hs k.on c)=true
    ·rw[if_pos h4,if_pos h4];exact .inl ⟨by simp,rfl⟩
    ·rw[if_neg h4,if_neg h4];by_cases h5:(!up&&decide ((cs k.on).length=1))=true
     ·rw[if_pos h5,if_pos h5];exact .inl ⟨by simp,rfl⟩
     ·rw[if_neg h5,if_neg h5];have hon:hs k.on c=(!up):=by cases up<;>simp_all
      have hls:ls k.ac c≠0:=by
       intro e;rw[f1]at e
       cases up with
       | true=>
        have hn:hs k.on c=false:=by simpa using hon
        obtain⟨d,_,hd2,_⟩:=tE h.dk.an;rw[f1]at hd2;have:hs (ls k.on c) d=false:=by rw[e];exact gu _
        rw[eu,hd2]at this;simp at this;rw[this,hn]at hd2
        cases hd2
       | false=>
        have:=aeo (m:=k.on) (c:=c) (by simpa using hon) e;simp[this]at h5
      have hw:=vV hls;rw[eu]at hw;simp only[Bool.and_eq_true,Bool.not_eq_true',decide_eq_false_iff_not]at hw;have hw0:=gP hw.1;have hwn:=h.gL _ hw.1;have hc64:c<64:=by have:=hS.n.2;omega
      have hb:jO k.dk c (dK (ls k.ac c)).1=0:=by
       unfold jO jv;rw[hd];simp only[Option.isSome_none,Bool.false_eq_true,if_false];rw[if_pos ⟨⟨h1.1,hc64⟩,hw0⟩,if_neg (fun e=>hw.2 e.symm)]
      refine .inr ⟨hb,hd,h1,hon,hls,?_⟩;have e1:mW k.ga=(k.ga.1,1):=by unfold mW;rw[if_pos f2]
      have e2:nq k.dk up c (dK (ls k.ac c)).1=(some ⟨if up then 4 else 10,0,false,up,c,(dK (ls k.ac c)).1,false⟩,k.dk.2):=by unfold nq;rw[if_pos hb]
      rw[e1,e2]
 ·rw[if_pos h1,if_pos h1];exact .inl ⟨by simp,rfl⟩
end
end Go.Dav
namespace Go.Dav
section
variable {ac ac':BV} {d d':aZ}
theorem PQ.to {rq:RS} (h:PQ ac d rq) (hm:∀c,aW ac d 3 c->aW ac' d' 3 c):PQ ac' d' rq:=fun id c hj=>hm c (h id c hj)
theorem PT.to {t:cA} (h:PT ac d t) (hm:∀c,aW ac d 4 c->aW ac' d' 4 c):PT ac' d' t:=fun id p hj=>hm _ (h id p hj)
theorem PW.to {wk:QL} (h:PW ac d wk) (hm:∀c,aW ac d 5 c->aW ac' d' 5 c):PW ac' d' wk:=fun c v h0 hj=>hm _ (h c v h0 hj)
theorem PC.to {ca:CS} (h:PC ac d ca) (hm:∀c,aW ac d 6 c->aW ac' d' 6 c):PC ac' d' ca:=fun c v h0 hj=>hm _ (h c v h0 hj)
theorem PI.to {ir:bj} {rt:ch} (h:PI ac d ir rt) (hm:∀c,aW ac d 7 c->aW ac' d' 7 c):PI ac' d' ir rt:=fun n h0 h1 hn=>by
 obtain⟨c,q1,q2⟩:=h n h0 h1 hn;exact⟨c,q1,hm c q2⟩
theorem PO.to {st:KS} (h:PO ac d st) (hm:∀c,aW ac d 8 c->aW ac' d' 8 c):PO ac' d' st:=fun c v h0 hj=>hm _ (h c v h0 hj)
theorem aW.none_ (hd:d.1=none) {s c:Int} (h:aW ac d s c):hs ac c=true:=by
 rcases h with h|⟨r,h,_⟩
 ·exact h
 ·rw[hd]at h;cases h
theorem aW.Gh {r:aG} (hd:d.1=some r) (hu:r.up=true) {s c:Int} (h:aW ac d s c):hs ac c=true:=by
 rcases h with h|⟨r',h,h2,_⟩
 ·exact h
 ·rw[hd]at h;cases h;rw[hu]at h2;cases h2
theorem aW.done {r r':aG} (hd:d.1=some r) (hd':d'.1=some r') (hu:r'.up=r.up) (hc:r'.ab=r.ab) (hb:r.back=false) (hb':r'.back=false) (hn:r'.ag=r.ag+1) {s c:Int} (h:aW ac d s c) (hx:s=r.ag+1->r.up=false->c=r.ab->hs ac c=true):aW ac d' s c:=by
 rcases h with h|⟨q,h1,h2,h3,h4⟩
 ·exact .inl h
 ·rw[hd]at h1;cases h1;rw[hb]at h4;have h4:r.ag<s:=by simpa using h4
  by_cases e:s=r.ag+1
  ·exact .inl (hx e h2 h3.symm)
  ·exact .inr ⟨r',hd',hu.trans h2,hc.trans h3,.inr (by omega)⟩
end
theorem tf {co:List cG} {c:Int} (hc:cD co c) (x:cG) (d:Int):aJ (co.set c.toNat x) d=if d=c then x else aJ co d:=by
 have hc':=hc;unfold cD at hc';have hin:cD (co.set c.toNat x) d↔cD co d:=by unfold cD;rw[List.length_set]
 by_cases hd:cD co d
 ·have hd':=hd;unfold cD at hd';unfold aJ;rw[if_pos (hin.2 hd),if_pos hd,List.getD_eq_getElem?_getD,List.getD_eq_getElem?_getD,List.getElem?_set];by_cases e:d=c
  ·subst e;rw[if_pos rfl,if_pos (by omega),if_pos rfl];rfl
  ·rw[if_neg (by omega),if_neg e]
 ·have e:d≠c:=fun e=>hd (e ▸ hc);unfold aJ;rw[if_neg (fun h=>hd (hin.1 h)),if_neg hd,if_neg e]
theorem DU {co:List cG} {c d:Int} {on:Bool} (hc:cD co c):(aJ (fh co c on) d).pw=if d=c then on else(aJ co d).pw:=by
 unfold fh;by_cases hp:(aJ co c).pw≠on
 ·rw[if_pos ⟨hc,hp⟩,tf hc];split<;>rfl
 ·rw[if_neg (fun h=>hp h.2)];split
  ·rename_i e;subst e;exact Classical.not_not.1 hp
  ·rfl
theorem CC (co:List cG) (c:Int) (on:Bool):(fh co c on).length=co.length:=by unfold fh;split<;>simp
section
variable {k:K}
theorem Wx (h:ax k) (hS:ar k) (up:Bool) (c:Int):ax (bP k up c):=by
 rcases EX h hS up c with⟨_,e⟩|⟨_,hd,hc,hon,hls,e⟩
 ·rw[e];exact h
 ·rw[e];obtain⟨f1,f2,f3⟩:=h.dk.free hd;have hw:=vV hls;rw[eu]at hw;simp only[Bool.and_eq_true,Bool.not_eq_true',decide_eq_false_iff_not]at hw;have hw0:=gP hw.1;have hm:∀(d':aZ) (s c':Int),aW k.ac k.dk s c'->aW k.ac d' s c':=fun d' s c' hh=>.inl (hh.none_ hd);refine⟨⟨h.dk.an,h.dk.ao,h.dk.de,fun e=>(by cases e),fun r hr=>?_,h.dk.iZ⟩,fun c' h0 h1=>?_,h.tq,h.tm,h.q.to (hm _ _),h.t.to (hm _ _),h.w.to (hm _ _),h.c.to (hm _ _),h.i.to (hm _ _),h.o.to (hm _ _),h.ci,h.ki⟩
  ·cases hr;refine⟨⟨rfl,⟨Int.le_refl _,?_⟩,⟨hc.1,?_⟩,hw0⟩,?_,fun e=>hw.2 e.symm,hw.1,hc.2,hon,fun _=>⟨rfl,rfl⟩,fun h=>absurd h (Int.lt_irrefl _),?_,fun h=>absurd f3 h⟩
   ·cases up<;>simp
   ·have:=hS.n.2;simp only;omega
   ·cases up<;>rfl
   ·simp only;rw[if_neg (fun h=>absurd h.2 (by omega))];exact f1
  ·rw[h.pw c' h0 h1];unfold fH;rw[hd];simp
theorem tV {r:aG} (ho:r.over=false):r.now=if r.back then(r.ag-1,true,false)else(r.ag,false,false):=by
 unfold aG.over at ho;unfold aG.now at ho⊢;split
 ·rename_i h;rw[if_pos h]at ho;cases ho
 ·rfl
theorem fu (r:aG):r.over=((r.back&&decide (r.ag=0))||(!r.back&&decide (r.ag=r.dB))):=by
 unfold aG.over aG.now;split
 ·rename_i h;rw[h]
 ·rename_i h;have:((r.back&&decide (r.ag=0))||(!r.back&&decide (r.ag=r.dB)))=false:=by simpa using h
  rw[this];split<;>rfl
theorem ax.told (h:ax k) {r:aG} (hd:k.dk.1=some r) (f:Int->Bool):ax {k with dk:=(some {r with told:=true},f)}:=by
 have R:=h.dk.bJ r hd
 have hm:∀s c,aW k.ac k.dk s c->aW k.ac (some {r with told:=true},f) s c:=by
  intro s c hh;rcases hh with hh|⟨q,h1,h2,h3,h4⟩
  ·exact .inl hh
  ·rw[hd]at h1;cases h1;exact .inr ⟨_,rfl,h2,h3,h4⟩
 refine⟨⟨h.dk.an,h.dk.ao,h.dk.de,fun e=>(by cases e),fun r' hr=>?_,h.dk.iZ⟩,fun c h0 h1=>?_,h.tq,h.tm,h.q.to (hm _),h.t.to (hm _),h.w.to (hm _),h.c.to (hm _),h.i.to (hm _),h.o.to (hm _),h.ci,h.ki⟩
 ·cases hr
  exact⟨⟨R.v.st,R.v.ag,R.v.ab,R.v.ah⟩,R.over,R.ne,R.ah,R.ab,R.de,R.g0,R.g1,R.jl,fun hh=>by
   obtain⟨a1,a2,a3,a4,a5⟩:=R.py hh;exact⟨a1,a2,a3,rfl,a5⟩⟩
 ·rw[h.pw c h0 h1];unfold fH;rw[hd]
theorem ax.ended (h:ax k) {r:aG} (hd:k.dk.1=some r) (hac:k.ac=k.on) (hsp:k.sp.1=0) (f:Int->Bool) (g:List Int)
  (hpw:∀c:Int,0<=c->c<k.n->(aJ k.co c).pw=hs k.on c) (hm:∀s,3<=s->s<=8->∀c,aW k.ac k.dk s c->hs k.ac c=true):ax {k with dk:=(none,f),ga:=(g,0)}:=by
 have hm':∀s,3<=s->s<=8->∀c,aW k.ac k.dk s c->aW k.ac (none,f) s c:=fun s a b c hh=>.inl (hm s a b c hh);exact⟨⟨h.dk.an,h.dk.ao,h.dk.de,fun _=>⟨hac,rfl,hsp⟩,fun r hr=>(by cases hr),h.dk.iZ⟩,fun c h0 h1=>by rw[hpw c h0 h1];simp[fH],h.tq,h.tm,h.q.to (hm' 3 (by omega) (by omega)),h.t.to (hm' 4 (by omega) (by omega)),h.w.to (hm' 5 (by omega) (by omega)),h.c.to (hm' 6 (by omega) (by omega)),h.i.to (hm' 7 (by omega) (by omega)),h.o.to (hm' 8 (by omega) (by omega)),h.ci,h.ki⟩
end
end Go.Dav
namespace Go.Dav
theorem leads {ab:Int}:∀(l:List Int) (k:K),k.ac≠0->(∀c,hs k.ac c=true->c<k.n)->k.rt.1=(k.n:Int)->k.rt.2.length=16->(∀n∈l,0<=n/\n<16)->
  ∃rt,l.foldl (fun k n=>ey k n ab) k={k with rt:=rt}/\rt.1=(k.n:Int)/\rt.2.length=16/\
   ∀m,0<=m->m<16->(m∈l->(b9 rt m).2=true/\hs k.ac (b9 rt m).1=true)/\(m∉l->b9 rt m=b9 k.rt m)
 | [],k,_,_,h1,h2,_=>⟨k.rt,rfl,h1,h2,fun m _ _=>⟨fun h=>by simp at h,fun _=>rfl⟩⟩
 | a::l,k,hac,hin,h1,h2,hl=>by
  have hc:=vD (m:=mE k a) hac ab;have hc0:=gP hc;have hcn:=hin _ hc;have ha:=hl a (by simp);have hset:=fun m (hm:0<=m/\m<16)=>Ez h2 ha (c:=(fO (mE k a) k.ac ab).1) ⟨hc0.1,by rw[h1];exact hcn⟩ hm;obtain⟨rt,e,q1,q2,q3⟩:=leads (ab:=ab) l (ey k a ab) hac hin (by unfold ey;simp only;rw[(uf ..).1];exact h1) (by unfold ey;simp only;rw[(uf ..).2];exact h2) (fun n hn=>hl n (by simp[hn]));refine⟨rt,?_,q1,q2,fun m m0 m1=>?_⟩
  ·rw[List.foldl_cons,e];rfl
  ·obtain⟨p1,p2⟩:=q3 m m0 m1;refine⟨fun hm=>?_,fun hm=>?_⟩
   ·by_cases hml:m∈l
    ·exact p1 hml
    ·have hma:m=a:=by
      rcases List.mem_cons.1 hm with h|h
      ·exact h
      ·exact absurd h hml
     rw[p2 hml];show(b9 (j8 k.rt a (fO (mE k a) k.ac ab).1) m).2=true/\hs k.ac (b9 (j8 k.rt a (fO (mE k a) k.ac ab).1) m).1=true;rw[hset m ⟨m0,m1⟩,if_pos hma];exact⟨rfl,hc⟩
   ·have hml:m∉l:=fun h=>hm (by simp[h]);have hma:m≠a:=fun h=>hm (by simp[h]);rw[p2 hml];show b9 (j8 k.rt a (fO (mE k a) k.ac ab).1) m=_;rw[hset m ⟨m0,m1⟩,if_neg hma]
theorem sf:∀(l:List Int) (k:K),k.ac≠0->(∀c,hs k.ac c=true->c<k.n)->k.rt.1=(k.n:Int)->k.rt.2.length=16->(∀n∈l,0<=n/\n<16)->PI k.ac k.dk k.ir k.rt->
  ∃rt,l.foldl dR k={k with rt:=rt}/\rt.1=(k.n:Int)/\rt.2.length=16/\PI k.ac k.dk k.ir rt
 | [],k,_,_,h1,h2,_,hP=>⟨k.rt,rfl,h1,h2,hP⟩
 | a::l,k,hac,hin,h1,h2,hl,hP=>by
  have ha:=hl a (by simp);have hl':∀n∈l,0<=n/\n<16:=fun n hn=>hl n (by simp[hn]);rw[List.foldl_cons];unfold dR;split
  ·obtain⟨p1,p2,p3,_⟩:=Ee (near:=(b9 k.rt a).1) hac hin h1 h2 ha (fun m m0 m1 hm _=>hP m m0 m1 hm);obtain⟨rt,e,q1,q2,q3⟩:=sf l (ey k a (b9 k.rt a).1) hac hin p2 p3 hl' p1;exact⟨rt,e,q1,q2,q3⟩
  ·exact sf l k hac hin h1 h2 hl' hP
theorem wB:∀(l:List Int) (k:K),k.n<=64->k.ac≠0->(∀c,hs k.ac c=true->c<k.n)->r9 k->(∀id∈l,(aB k.th.2 id).isSome=true)->
  ∃th rq,l.foldl dU k={k with th:=th,rq:=rq}/\r9 {k with th:=th,rq:=rq}
 | [],k,_,_,_,h,_=>⟨k.th,k.rq,rfl,h⟩
 | a::l,k,hn,hac,hin,h,hl=>by
  obtain⟨t,ht⟩:=Option.isSome_iff_exists.1 (hl a (by simp));obtain⟨th,rq,e,hT,h1,_⟩:=Vl hn hac hin h ht
  obtain⟨th',rq',e',hT'⟩:=wB l {k with th:=th,rq:=rq} hn hac hin hT (fun id hid=>by
   have h2:=hl id (by simp[hid]);have h3:=h1 id;simp only
   cases hx:aB th.2 id with
   | some _=>rfl
   | none=>
    rw[hx]at h3
    cases hy:aB k.th.2 id with
    | some _=>rw[hy]at h3;simp at h3
    | none=>rw[hy]at h2;cases h2)
  exact⟨th',rq',by rw[List.foldl_cons,e,e'],hT'⟩
theorem Vk (k:K) (id:Int):(dU k id).dk=k.dk:=by unfold dU;split<;>rfl
theorem Lt (k:K) (n:Int):(dR k n).dk=k.dk:=by unfold dR;split<;>rfl
theorem Vm:∀(l:List Int) (k:K),(l.foldl dU k).dk=k.dk
 | [],k=>rfl
 | a::l,k=>by rw[List.foldl_cons,Vm l,Vk]
theorem Lw:∀(l:List Int) (k:K),(l.foldl dR k).dk=k.dk
 | [],k=>rfl
 | a::l,k=>by rw[List.foldl_cons,Lw l,Lt]
theorem UW (c:Int):∀(l:List Int) (k:K),(l.foldl (fun k n=>ey k n c) k).dk=k.dk
 | [],k=>rfl
 | a::l,k=>by rw[List.foldl_cons,UW c l];rfl
theorem abJ (k:K) (c ah:Int):(jz k c ah).dk=k.dk:=by
 unfold jz;split
 ·rfl
 ·split
  ·exact UW ..
  ·rfl
theorem acZ (k:K) (s c ah:Int):(dy k s c ah).dk=k.dk:=by
 unfold dy
 repeat' split
 all_goals first
  | rfl
  | (unfold eQ;split<;>rfl)
  | exact abJ ..
theorem ZR (k:K) (s c:Int):(iJ k s c).dk=k.dk:=by
 unfold iJ
 repeat' split
 all_goals first
  | rfl
  | (simp only;rw[Lw,Vm])
theorem aml (k:K) (u:Bool) (s c:Int):(jH k u s c).dk=k.dk:=by
 unfold jH
 repeat' split
 all_goals rfl
theorem Xd (k:K) (s:Int×Bool×Bool) (c ah:Int):(b6 k s c ah).dk=k.dk:=by
 unfold b6;split
 ·exact aml ..
 ·split
  ·rfl
  ·split
   ·exact ZR ..
   ·exact acZ ..
section
variable {k:K} {r:aG} {ah:Int}
theorem FZ (hd:k.dk.1=some r) (ho:r.over=false) (hf:dm k.dk r=true) :
  eK k ah=if r.ag=0 then{k with dk:=(none,fun j=>if j=r.now.1 then false else k.dk.2 j),ga:=(k.ga.1,0)}else{k with dk:=(some {r with told:=true,back:=true},fun j=>if j=r.now.1 then false else k.dk.2 j)}:=by
 have e1:nH k.dk=(some {r with told:=true,back:=true},fun j=>if j=r.now.1 then false else k.dk.2 j):=by unfold nH;rw[hd];simp[ho,hf]
 have e2:(fR k.dk).1.2.2=true:=by unfold fR;rw[hd];simp[ho,hf]
 have e3:dY k ah={k with dk:=(some {r with told:=true,back:=true},fun j=>if j=r.now.1 then false else k.dk.2 j)}:=by unfold dY;simp only;rw[e1,if_pos e2]
 have e4:({r with told:=true,back:=true}:aG).over=decide (r.ag=0):=by rw[fu];simp
 unfold eK;rw[e3];simp only[jR,e4,decide_eq_true_eq];split
 ·rename_i h0;unfold rh rl;simp only[e4,decide_eq_true h0,if_true]
 ·rfl
def my (k:K) (r:aG) (ah:Int):K:=
 let k1:K:={k with dk:=(some {r with told:=true},k.dk.2)}
 if lq k1 (r.now.1,r.now.2.1,false) r.ab ah then
  (if({r with told:=false,ag:=if r.back then r.ag-1 else r.ag+1}:aG).over then{b6 k1 (r.now.1,r.now.2.1,false) r.ab ah with dk:=(none,k.dk.2),ga:=((b6 k1 (r.now.1,r.now.2.1,false) r.ab ah).ga.1,0)}
     else{b6 k1 (r.now.1,r.now.2.1,false) r.ab ah with dk:=(some {r with told:=false,ag:=if r.back then r.ag-1 else r.ag+1},k.dk.2)})
 else b6 k1 (r.now.1,r.now.2.1,false) r.ab ah
theorem xk (hd:k.dk.1=some r) (ho:r.over=false) (hf:dm k.dk r=false):eK k ah=my k r ah:=by
 have e1:nH k.dk=(some {r with told:=true},k.dk.2):=by unfold nH;rw[hd];simp[ho,hf]
 have e2:(fR k.dk).1=(r.now.1,r.now.2.1,false):=by unfold fR;rw[hd];simp[ho,hf]
 have e5:oI k.dk=r.ab:=by unfold oI;rw[hd]
 have eo:({r with told:=true}:aG).over=false:=by rw[fu]at ho⊢;exact ho
 have hsd:=Xd {k with dk:=(some {r with told:=true},k.dk.2)} (r.now.1,r.now.2.1,false) r.ab ah;simp only at hsd
 have e3:dY k ah=if lq {k with dk:=(some {r with told:=true},k.dk.2)} (r.now.1,r.now.2.1,false) r.ab ah then
   {b6 {k with dk:=(some {r with told:=true},k.dk.2)} (r.now.1,r.now.2.1,false) r.ab ah with dk:=(some {r with told:=false,ag:=if r.back then r.ag-1 else r.ag+1},k.dk.2)}
   else b6 {k with dk:=(some {r with told:=true},k.dk.2)} (r.now.1,r.now.2.1,false) r.ab ah:=by
  unfold dY;simp only;rw[e1,e2,e5];simp only[Bool.false_eq_true,if_false];rw[hsd];unfold sR;simp only[eo,Bool.false_eq_true,if_false]
 unfold eK my;rw[e3];simp only;generalize lq {k with dk:=(some {r with told:=true},k.dk.2)} (r.now.1,r.now.2.1,false) r.ab ah=ok;generalize b6 {k with dk:=(some {r with told:=true},k.dk.2)} (r.now.1,r.now.2.1,false) r.ab ah=X at hsd⊢
 cases ok with
 | true=>
  simp only[if_true];unfold jR rh rl;simp only;generalize hov:({r with told:=false,ag:=if r.back then r.ag-1 else r.ag+1}:aG).over=o
  cases o<;>simp[hov]
 | false=>
  simp only[Bool.false_eq_true,if_false];rw[if_neg];unfold jR;rw[hsd];simp only[eo];decide
end
theorem od.lQ {n:Nat} {on ac ac':BV} {gs:Int} {sp sp':BV×BV} {r:aG} (R:od n on ac gs sp r) (hb:r.back=false) (h0:0<r.ag) (hl:r.ag+1<r.dB) (hsp:sp'.1=0) (hac:ac'=if r.up=false/\2<=r.ag+1 then ls on r.ab else on) (hw:hs ac' r.ah=true) :
  od n on ac' gs sp' {r with ag:=r.ag+1,told:=false}:=by
 refine⟨⟨R.v.st,⟨by have:=R.v.ag;simp only;omega,by simp only;omega⟩,R.v.ab,R.v.ah⟩,?_,R.ne,hw,R.ab,R.de,fun h=>?_,fun _=>R.g1 h0,hac,fun h=>absurd hsp h⟩
 ·rw[fu];simp only[hb,Bool.false_and,Bool.not_false,Bool.true_and,Bool.false_or,decide_eq_false_iff_not];omega
 ·simp only at h;omega
section
variable {k:K} {r:aG}
theorem ax.lQ (h:ax k) (hd:k.dk.1=some r) (hb:r.back=false) (h0:1<r.ag) (hl:r.ag+1<r.dB) (hsp:k.sp.1=0) (f:Int->Bool)
  (hq:r.up=false->r.ag=2->∀id,¬eW k.rq id r.ab) (ht:r.up=false->r.ag=3->∀t p,aO k.tm.t t=some p->p.1≠r.ab) (hw:r.up=false->r.ag=4->∀v,v∉bV k.wk r.ab)
  (hc:r.up=false->r.ag=5->∀v,v∉aM k.ca r.ab) (hi:r.up=false->r.ag=6->∀n c,0<=n->n<16->(gq k.ir n).1=true->b9 k.rt n=(c,true)->c≠r.ab) (ho:r.up=false->r.ag=7->∀v,v∉iY k.st r.ab) :
  ax {k with dk:=(some {r with ag:=r.ag+1,told:=false},f)}:=by
 have R:=h.dk.bJ r hd;have dn:∀s c,aW k.ac k.dk s c->(s=r.ag+1->r.up=false->c=r.ab->hs k.ac c=true)->aW k.ac (some {r with ag:=r.ag+1,told:=false},f) s c:=fun s c hh hx=>hh.done (r':={r with ag:=r.ag+1,told:=false}) hd rfl rfl rfl hb hb rfl hx;refine⟨⟨h.dk.an,h.dk.ao,h.dk.de,fun e=>(by cases e),fun r' hr=>?_,h.dk.iZ⟩,fun c m0 m1=>?_,h.tq,h.tm,fun id c hj=>?_,fun t p hj=>?_,fun c v m0 hj=>?_,fun c v m0 hj=>?_,fun n m0 m1 hn=>?_,fun c v m0 hj=>?_,h.ci,h.ki⟩
 ·cases hr;refine R.lQ hb (by omega) hl hsp ?_ R.ah;rw[R.jl];by_cases hu:r.up=false
  ·rw[if_pos ⟨hu,by omega⟩,if_pos ⟨hu,by omega⟩]
  ·rw[if_neg (fun hh=>hu hh.1),if_neg (fun hh=>hu hh.1)]
 ·rw[h.pw c m0 m1];unfold fH;rw[hd];simp only[decide_eq_true (show 2<=r.ag by omega),decide_eq_true (show 2<=r.ag+1 by omega)]
 ·exact dn _ _ (h.q id c hj) fun e hu hx=>absurd hj (hx ▸ hq hu (by omega) id)
 ·exact dn _ _ (h.t t p hj) fun e hu hx=>absurd hx (ht hu (by omega) t p hj)
 ·exact dn _ _ (h.w c v m0 hj) fun e hu hx=>absurd hj (hx ▸ hw hu (by omega) v)
 ·exact dn _ _ (h.c c v m0 hj) fun e hu hx=>absurd hj (hx ▸ hc hu (by omega) v)
 ·obtain⟨c,q1,q2⟩:=h.i n m0 m1 hn;exact⟨c,q1,dn _ _ q2 fun e hu hx=>absurd hx (hi hu (by omega) n c m0 m1 hn q1)⟩
 ·exact dn _ _ (h.o c v m0 hj) fun e hu hx=>absurd hj (hx ▸ ho hu (by omega) v)
theorem Vb {n:Nat} {on:BV} {c d:Int} (h:hs (ls on c) d=true):hs on d=true/\d≠c:=by
 rw[eu]at h;simpa using h
theorem sd (R:od k.n k.on k.ac k.ga.2 k.sp r) (hu:r.up=false) (h2:2<=r.ag):k.ac=ls k.on r.ab/\hs k.ac r.ab=false:=by
 have e:k.ac=ls k.on r.ab:=by rw[R.jl,if_pos ⟨hu,h2⟩]
 exact⟨e,by rw[e,eu];simp⟩
theorem ax.failed (h:ax k) (hd:k.dk.1=some r) (h0:0<r.ag) (hf:r.back=false) (ht:r.told=false) (f:Int->Bool):ax {k with dk:=(some {r with told:=true,back:=true},f)}:=by
 have R:=h.dk.bJ r hd
 have hm:∀s c,aW k.ac k.dk s c->aW k.ac (some {r with told:=true,back:=true},f) s c:=by
  intro s c hh;rcases hh with hh|⟨q,h1,h2,h3,h4⟩
  ·exact .inl hh
  ·rw[hd]at h1;cases h1;exact .inr ⟨_,rfl,h2,h3,.inl rfl⟩
 have hsp:k.sp.1=0:=by
  apply Classical.byContradiction;intro hn;have:=(R.py hn).2.2.2.1;rw[ht]at this;cases this
 refine⟨⟨h.dk.an,h.dk.ao,h.dk.de,fun e=>(by cases e),fun r' hr=>?_,h.dk.iZ⟩,fun c h0 h1=>?_,h.tq,h.tm,h.q.to (hm _),h.t.to (hm _),h.w.to (hm _),h.c.to (hm _),h.i.to (hm _),h.o.to (hm _),h.ci,h.ki⟩
 ·cases hr;refine⟨⟨R.v.st,R.v.ag,R.v.ab,R.v.ah⟩,?_,R.ne,R.ah,R.ab,R.de,fun e=>?_,R.g1,R.jl,fun hh=>absurd hsp hh⟩
  ·rw[fu];simp;omega
  ·simp only at e;omega
 ·rw[h.pw c h0 h1];unfold fH;rw[hd]
theorem adn (R:od k.n k.on k.ac k.ga.2 k.sp r) (hd:k.dk.1=some r) (h2:r.ag<2) {s c:Int} (hm:aW k.ac k.dk s c):hs k.ac c=true:=by
 have hac:k.ac=k.on:=by rw[R.jl,if_neg (fun hh=>by omega)]
 rcases hm with hm|⟨q,h1,h3,h4,_⟩
 ·exact hm
 ·rw[hd]at h1;cases h1;rw[hac,<-h4,R.de,h3];rfl
theorem i6 (R:od k.n k.on k.ac k.ga.2 k.sp r) (hx:r.up=true∨r.back=true∨r.ag≠6∨r.told=false):k.sp.1=0:=by
 apply Classical.byContradiction;intro hn;obtain⟨a1,a2,a3,a4,_⟩:=R.py hn;rcases hx with hx|hx|hx|hx
 ·rw[a1]at hx;cases hx
 ·rw[a2]at hx;cases hx
 ·exact hx a3
 ·rw[a4]at hx;cases hx
theorem ax.stop (h:ax k) (hd:k.dk.1=some r) (h2:r.ag<2) (hsp:k.sp.1=0) (f:Int->Bool) (g:List Int):ax {k with dk:=(none,f),ga:=(g,0)}:=by
 have R:=h.dk.bJ r hd;refine h.ended hd (by rw[R.jl,if_neg (fun hh=>by omega)]) hsp f g (fun c h0 h1=>?_) (fun s _ _ c hm=>adn R hd h2 hm);rw[h.pw c h0 h1];unfold fH;rw[hd];simp[show ¬2<=r.ag by omega]
theorem ax.amm (h:ax k) (hS:ar k) (hd:k.dk.1=some r) (hb:r.back=true) (h2:2<=r.ag) (f:Int->Bool):ax {jH k r.up (r.ag-1) r.ab with dk:=(some {r with told:=false,ag:=r.ag-1},f)}:=by
 have R:=h.dk.bJ r hd;have hsp:=i6 R (.inr (.inl hb));have hov:({r with told:=false,ag:=r.ag-1}:aG).over=false:=by rw[fu];simp[hb];omega
 have hV:Lh {r with told:=false,ag:=r.ag-1}:=⟨R.v.st,by have:=R.v.ag;simp only;omega,R.v.ab,R.v.ah⟩
 have hm:∀ac',(∀c,hs k.ac c=true->hs ac' c=true)->∀s c,aW k.ac k.dk s c->aW ac' (some {r with told:=false,ag:=r.ag-1},f) s c:=by
  intro ac' ha s c hh;rcases hh with hh|⟨q,h1,h2,h3,h4⟩
  ·exact .inl (ha c hh)
  ·rw[hd]at h1;cases h1;exact .inr ⟨_,rfl,h2,h3,.inl hb⟩
 have hcpu:hs k.on r.ab = !r.up:=R.de;unfold jH;rcases(by cases r.up<;>simp:r.up=true∨r.up=false)with hu|hu
 ·have hac:k.ac=k.on:=by rw[R.jl,if_neg (fun hh=>by rw[hu]at hh;cases hh.1)]
  by_cases h1:r.ag-1=1
  ·rw[if_pos (by simp[h1,hu])];have hin:cD k.co r.ab:=⟨R.v.ab.1,by have:=R.ab;have:=hS.co;omega⟩;refine⟨⟨h.dk.an,h.dk.ao,h.dk.de,fun e=>(by cases e),fun r' hr=>?_,h.dk.iZ⟩,fun c m0 m1=>?_,h.tq,h.tm,h.q.to (hm _ (fun _ h=>h) _),h.t.to (hm _ (fun _ h=>h) _),h.w.to (hm _ (fun _ h=>h) _),h.c.to (hm _ (fun _ h=>h) _),h.i.to (hm _ (fun _ h=>h) _),h.o.to (hm _ (fun _ h=>h) _),h.ci,h.ki⟩
   ·cases hr;exact⟨hV,hov,R.ne,R.ah,R.ab,hcpu,fun e=>by simp only at e;omega,fun _=>R.g1 (by omega),by rw[if_neg (fun hh=>by simp only at hh;rw[hu]at hh;cases hh.1)];exact hac,fun hh=>absurd hsp hh⟩
   ·simp only;rw[DU hin];have hp:=h.pw c m0 m1;unfold fH at hp⊢;rw[hd]at hp;simp only[hu,h1,Bool.true_and]at hp⊢;split
    ·rename_i e;subst e;rw[hcpu,hu];simp
    ·rename_i e;rw[hp];simp[e]
  ·rw[if_neg (by simp[h1]),if_neg (by simp[h1])];refine⟨⟨h.dk.an,h.dk.ao,h.dk.de,fun e=>(by cases e),fun r' hr=>?_,h.dk.iZ⟩,fun c m0 m1=>?_,h.tq,h.tm,h.q.to (hm _ (fun _ h=>h) _),h.t.to (hm _ (fun _ h=>h) _),h.w.to (hm _ (fun _ h=>h) _),h.c.to (hm _ (fun _ h=>h) _),h.i.to (hm _ (fun _ h=>h) _),h.o.to (hm _ (fun _ h=>h) _),h.ci,h.ki⟩
   ·cases hr;exact⟨hV,hov,R.ne,R.ah,R.ab,hcpu,fun e=>by simp only at e;omega,fun _=>R.g1 (by omega),by rw[if_neg (fun hh=>by simp only at hh;rw[hu]at hh;cases hh.1)];exact hac,fun hh=>absurd hsp hh⟩
   ·simp only;rw[h.pw c m0 m1];unfold fH;rw[hd];simp only[hu,decide_eq_true (show 2<=r.ag by omega),decide_eq_true (show 2<=r.ag-1 by omega)]
 ·obtain⟨hac,_⟩:=sd R hu h2;have hon:hs k.on r.ab=true:=by rw[hcpu,hu];rfl
  by_cases h1:r.ag-1=1
  ·rw[if_neg (by simp[hu]),if_pos (by simp[h1,hu])]
   have hac':wi k.ac r.ab=k.on:=by
    rw[hac];apply s9;intro d _ _;rw[kT,eu];by_cases e:d=r.ab
    ·subst e;have:=R.v.ab;unfold jv at this;simp[hon,this]
    ·simp[e]
   have hup:∀c,hs k.ac c=true->hs (wi k.ac r.ab) c=true:=fun c hc=>by rw[kT,hc];rfl
   refine⟨⟨?_,fun c hc=>?_,h.dk.de,fun e=>(by cases e),fun r' hr=>?_,h.dk.iZ⟩,fun c m0 m1=>?_,h.tq,h.tm,h.q.to (hm _ hup _),h.t.to (hm _ hup _),h.w.to (hm _ hup _),h.c.to (hm _ hup _),h.i.to (hm _ hup _),h.o.to (hm _ hup _),h.ci,h.ki⟩
   ·intro e;have:=hup _ R.ah;simp only at e;rw[e,gu]at this;cases this
   ·simp only at hc;rw[hac']at hc;exact hc
   ·cases hr;exact⟨hV,hov,R.ne,hup _ R.ah,R.ab,hcpu,fun e=>by simp only at e;omega,fun _=>R.g1 (by omega),by rw[if_neg (fun hh=>by simp only at hh;omega)];exact hac',fun hh=>absurd hsp hh⟩
   ·simp only;rw[h.pw c m0 m1];unfold fH;rw[hd];simp only[hu,Bool.false_and]
  ·rw[if_neg (by simp[h1]),if_neg (by simp[h1])];refine⟨⟨h.dk.an,h.dk.ao,h.dk.de,fun e=>(by cases e),fun r' hr=>?_,h.dk.iZ⟩,fun c m0 m1=>?_,h.tq,h.tm,h.q.to (hm _ (fun _ h=>h) _),h.t.to (hm _ (fun _ h=>h) _),h.w.to (hm _ (fun _ h=>h) _),h.c.to (hm _ (fun _ h=>h) _),h.i.to (hm _ (fun _ h=>h) _),h.o.to (hm _ (fun _ h=>h) _),h.ci,h.ki⟩
   ·cases hr;exact⟨hV,hov,R.ne,R.ah,R.ab,hcpu,fun e=>by simp only at e;omega,fun _=>R.g1 (by omega),by rw[if_pos (by simp only;exact⟨hu,by omega⟩)];exact hac,fun hh=>absurd hsp hh⟩
   ·simp only;rw[h.pw c m0 m1];unfold fH;rw[hd];simp only[hu,Bool.false_and]
end
end Go.Dav
namespace Go.Dav
section
variable {k:K} {r:aG}
theorem ax.afS (h:ax k) (hd:k.dk.1=some r) (hb:r.back=false) (h0:r.ag=0) (f:Int->Bool) (g:List Int):ax {k with ga:=(g,2),dk:=(some {r with told:=false,ag:=r.ag+1},f)}:=by
 have R:=h.dk.bJ r hd;have hm:∀s c,3<=s->aW k.ac k.dk s c->aW k.ac (some {r with told:=false,ag:=r.ag+1},f) s c:=fun s c h3 hh=>hh.done (r':={r with told:=false,ag:=r.ag+1}) hd rfl rfl rfl hb hb rfl (fun e=>by omega);refine⟨⟨h.dk.an,h.dk.ao,h.dk.de,fun e=>(by cases e),fun r' hr=>?_,h.dk.iZ⟩,fun c m0 m1=>?_,h.tq,h.tm,h.q.to (fun c=>hm _ c (by omega)),h.t.to (fun c=>hm _ c (by omega)),h.w.to (fun c=>hm _ c (by omega)),h.c.to (fun c=>hm _ c (by omega)),h.i.to (fun c=>hm _ c (by omega)),h.o.to (fun c=>hm _ c (by omega)),h.ci,h.ki⟩
 ·cases hr;have hst:=R.v.st;have hsp:=i6 R (.inr (.inr (.inl (by omega))));refine⟨⟨hst,⟨by simp only;omega,by simp only;cases hu:r.up<;>rw[hu]at hst<;>simp at hst<;>omega⟩,R.v.ab,R.v.ah⟩,?_,R.ne,R.ah,R.ab,R.de,fun e=>by simp only at e;omega,fun _=>rfl,?_,fun hh=>absurd hsp hh⟩
  ·rw[fu];simp only[hb,Bool.false_and,Bool.not_false,Bool.true_and,Bool.false_or,decide_eq_false_iff_not];cases hu:r.up<;>rw[hu]at hst<;>simp at hst<;>omega
  ·rw[if_neg (fun hh=>by simp only at hh;omega),R.jl,if_neg (fun hh=>by omega)]
 ·rw[h.pw c m0 m1];unfold fH;rw[hd];simp only[show ¬2<=r.ag by omega,show ¬2<=r.ag+1 by omega]
theorem ax.aeM (h:ax k) (hS:ar k) (hd:k.dk.1=some r) (hb:r.back=false) (hu:r.up=true) (h1:r.ag=1) (f:Int->Bool):ax {k with co:=fh k.co r.ab true,dk:=(some {r with told:=false,ag:=r.ag+1},f)}:=by
 have R:=h.dk.bJ r hd;have hm:∀s c,aW k.ac k.dk s c->aW k.ac (some {r with told:=false,ag:=r.ag+1},f) s c:=fun s c hh=>.inl (hh.Gh hd hu);have hin:cD k.co r.ab:=⟨R.v.ab.1,by have:=R.ab;have:=hS.co;omega⟩;refine⟨⟨h.dk.an,h.dk.ao,h.dk.de,fun e=>(by cases e),fun r' hr=>?_,h.dk.iZ⟩,fun c m0 m1=>?_,h.tq,h.tm,h.q.to (hm _),h.t.to (hm _),h.w.to (hm _),h.c.to (hm _),h.i.to (hm _),h.o.to (hm _),h.ci,h.ki⟩
 ·cases hr;have hst:=R.v.st;rw[hu]at hst;refine R.lQ hb (by omega) (by simp at hst;omega) (i6 R (.inl hu)) ?_ R.ah;rw[R.jl,if_neg (fun hh=>by rw[hu]at hh;cases hh.1),if_neg (fun hh=>by rw[hu]at hh;cases hh.1)]
 ·simp only;rw[DU hin,h.pw c m0 m1];unfold fH;rw[hd];simp only[hu,Bool.true_and,decide_eq_true (show 2<=r.ag+1 by omega),show ¬2<=r.ag by omega];split
  ·rename_i e;simp[e]
  ·rename_i e;simp[e]
theorem ax.RZ (h:ax k) (c:Int):ax {k with st:=gr k.st c}:=⟨h.dk,h.pw,h.tq,h.tm,h.q,h.t,h.w,h.c,h.i,aam h.o c,h.ci,(h.ki.drain c).1⟩
theorem ac5 {s:bj}:∀n∈iq s,0<=n/\n<16:=fun n hn=>⟨(dT.1 hn).1,(dT.1 hn).2.1⟩
theorem aen {x:ch} {c:Int}:∀n∈ft x c,0<=n/\n<16:=fun n hn=>⟨(dT.1 hn).1,(dT.1 hn).2.1⟩
theorem ax.ZQ (h:ax k) (hS:ar k) (hd:k.dk.1=some r) (hb:r.back=false) (hu:r.up=true) (h3:r.ag=3) (f:Int->Bool) (g:List Int):ax {iJ k 3 r.ab with dk:=(none,f),ga:=(g,0)}:=by
 have R:=h.dk.bJ r hd;have hsp:=i6 R (.inl hu);have hac:k.ac=k.on:=by rw[R.jl,if_neg (fun hh=>by rw[hu]at hh;cases hh.1)]
 have hup:∀c,hs k.ac c=true->hs (wi k.ac r.ab) c=true:=fun c hc=>by rw[kT,hc];rfl
 have hne:wi k.ac r.ab≠0:=fun e=>by have:=hup _ R.ah;rw[e,gu]at this;cases this
 have hin:∀c,hs (wi k.ac r.ab) c=true->c<k.n:=fun c hc=>by
  rw[kT]at hc;simp only[Bool.or_eq_true,Bool.and_eq_true,decide_eq_true_eq]at hc;rcases hc with hc|⟨_,rfl⟩
  ·exact h.gL c hc
  ·exact R.ab
 have hm:∀s c,aW k.ac k.dk s c->aW (wi k.ac r.ab) k.dk s c:=fun s c hh=>.inl (hup c (hh.Gh hd hu));have hm2:∀s c,aW (wi k.ac r.ab) k.dk s c->aW (wi k.ac r.ab) (none,f) s c:=fun s c hh=>.inl (hh.Gh hd hu);obtain⟨th,rq,e1,T⟩:=wB (gB k.th) {k with on:=wi k.on r.ab,ac:=wi k.ac r.ab} hS.n.2 hne hin ⟨hS.rq,h.tq,h.tm,h.q.to (hm _),hS.fZ,hS.fL⟩ (fun id hid=>adq.1 hid);obtain⟨rt,e2,q1,q2,q3⟩:=sf (iq k.ir) {k with on:=wi k.on r.ab,ac:=wi k.ac r.ab,th:=th,rq:=rq} hne hin hS.gW hS.gz ac5 (h.i.to (hm _))
 have e3:iJ k 3 r.ab={k with on:=wi k.on r.ab,ac:=wi k.ac r.ab,th:=th,rq:=rq,rt:=rt}:=by
  unfold iJ;simp only[show ¬(3:Int)=1 by omega,show ¬(3:Int)=2 by omega,if_false];rw[e1];exact e2
 rw[e3];refine⟨⟨hne,fun c hc=>?_,fun c hc=>?_,fun _=>⟨?_,rfl,hsp⟩,fun r' hr=>(by cases hr),h.dk.iZ⟩,fun c m0 m1=>?_,T.tq,T.tm,T.q.to (hm2 _),h.t.to (fun c hh=>hm2 _ c (hm _ c hh)),h.w.to (fun c hh=>hm2 _ c (hm _ c hh)),h.c.to (fun c hh=>hm2 _ c (hm _ c hh)),PI.to q3 (hm2 _),h.o.to (fun c hh=>hm2 _ c (hm _ c hh)),h.ci,h.ki⟩
 ·simp only at hc⊢;rw[<-hac];exact hc
 ·simp only at hc;rw[<-hac]at hc;exact⟨(gP hc).1,hin c hc⟩
 ·simp only;rw[hac]
 ·simp only;rw[h.pw c m0 m1];unfold fH;rw[hd,kT];have:=R.v.ab;unfold jv at this;simp[hu,h3,this]
theorem ax.abQ (h:ax k) (hd:k.dk.1=some r) (hb:r.back=false) (hu:r.up=false) (h1:r.ag=1) (f:Int->Bool):ax {k with ac:=ls k.ac r.ab,dk:=(some {r with told:=false,ag:=r.ag+1},f)}:=by
 have R:=h.dk.bJ r hd;have hac:k.ac=k.on:=by rw[R.jl,if_neg (fun hh=>by omega)]
 have hw:hs (ls k.ac r.ab) r.ah=true:=by rw[eu,R.ah];simp[R.ne.symm]
 have hm:∀s c,3<=s->aW k.ac k.dk s c->aW (ls k.ac r.ab) (some {r with told:=false,ag:=r.ag+1},f) s c:=by
  intro s c h3 hh;by_cases e:c=r.ab
  ·exact .inr ⟨_,rfl,hu,e.symm,.inr (by simp only;omega)⟩
  ·rcases hh with hh|⟨q,g1,g2,g3,g4⟩
   ·exact .inl (by rw[eu,hh];simp[e])
   ·rw[hd]at g1;cases g1;exact absurd g3.symm e
 refine⟨⟨fun e=>?_,fun c hc=>h.dk.ao c (Vb (n:=k.n) hc).1,h.dk.de,fun e=>(by cases e),fun r' hr=>?_,h.dk.iZ⟩,fun c m0 m1=>?_,h.tq,h.tm,h.q.to (fun c=>hm _ c (by omega)),h.t.to (fun c=>hm _ c (by omega)),h.w.to (fun c=>hm _ c (by omega)),h.c.to (fun c=>hm _ c (by omega)),h.i.to (fun c=>hm _ c (by omega)),h.o.to (fun c=>hm _ c (by omega)),h.ci,h.ki⟩
 ·simp only at e;rw[e,gu]at hw;cases hw
 ·cases hr;have hst:=R.v.st;rw[hu]at hst;have hsp:k.sp.1=0:=i6 R (.inr (.inr (.inl (by omega))));refine R.lQ hb (by omega) (by simp at hst;omega) hsp ?_ hw;rw[if_pos ⟨hu,by omega⟩,hac]
 ·simp only;rw[h.pw c m0 m1];unfold fH;rw[hd];simp only[hu,Bool.false_and]
theorem ax.aaC (h:ax k) (hS:ar k) (c:Int):ax (eQ k c):=by
 unfold eQ
 cases hl:aY k.rq c with
 | nil=>exact h
 | cons a l=>
  simp only;obtain⟨t,ht,_,hs0⟩:=Wp (id:=a) (c:=c) h hS (by rw[hl];simp);obtain⟨t1,t2,t3⟩:=xg hS.rq h.tq a;obtain⟨th,rq,e,p1,p2,p3,p4,p5,p6,_⟩:=AJ (k:={k with rq:=dA k.rq a}) (id:=a) (near:=c) (t:=t) hS.may h.dk.an h.gL hS.fZ hS.fL t1 t2 h.tm (fun j c hj=>h.q j c (t3 j c hj)) ht hs0;rw[e];exact⟨h.dk,h.pw,p2,p3,p4,h.t,h.w,h.c,h.i,h.o,h.ci,h.ki⟩
theorem ax.ahZ (h:ax k) (hS:ar k) (hd:k.dk.1=some r):((gC k.tm r.ab r.ah).2=0/\ax {k with tm:=eJ k.tm r.ab r.ah})∨((gC k.tm r.ab r.ah).2≠0/\eJ k.tm r.ab r.ah=k.tm/\∀t p,aO k.tm.t t=some p->p.1≠r.ab):=by
 have R:=h.dk.bJ r hd;have hw:=h.gL _ R.ah;have h1:cE k.tm r.ab:=⟨R.v.ab.1,by rw[hS.ib];exact R.ab⟩;have h2:cE k.tm r.ah:=⟨R.v.ah.1,by rw[hS.ib];exact hw⟩;unfold gC eJ;rw[if_pos ⟨h1,h2⟩,if_neg R.ne,if_pos ⟨h1,h2,R.ne⟩];have hmem:∀id,id∈gd k.tm.t r.ab↔∃x,aO k.tm.t id=some x/\decide (x.1=r.ab)=true:=fun id=>(List.Perm.mem_iff (gX ..)).trans iT
 cases hl:gd k.tm.t r.ab with
 | nil=>
  refine .inr ⟨by simp,rfl,fun t p ht e=>?_⟩;have:=(hmem t).2 ⟨p,ht,decide_eq_true e⟩
  rw[hl]at this;cases this
 | cons a l=>
  refine .inl ⟨rfl,?_⟩;obtain⟨x,hx,_⟩:=(hmem a).1 (by rw[hl];simp);have hat:=FR hx (some (r.ah,gN k.tm.t a));refine⟨h.dk,h.pw,h.tq,h.tm.Xo (fun t ht=>?_),h.q,fun j p hp=>?_,h.w,h.c,h.i,h.o,h.ci,h.ki⟩
  ·simp only;rw[hat];split
   ·rfl
   ·exact ht
  ·simp only at hp;rw[hat]at hp;split at hp
   ·cases hp;exact lG R.ah
   ·exact h.t j p hp
theorem ax.ami (h:ax k) (hS:ar k) (hd:k.dk.1=some r):((ly k.wk r.ab).2=0/\ax {k with wk:=jd k.wk r.ab})∨((ly k.wk r.ab).2≠0/\jd k.wk r.ab=k.wk/\∀v,v∉bV k.wk r.ab):=by
 have R:=h.dk.bJ r hd;have h1:bY k.wk r.ab 0:=⟨R.v.ab.1,by rw[hS.gh];have:=R.ab;omega⟩;have hR:=R.ab;have hwk:=hS.gh;have hc0:=R.v.ab.1;unfold ly jd;rw[if_pos h1,if_pos h1]
 cases hl:bV k.wk r.ab with
 | nil=>exact .inr ⟨by simp,rfl,fun v hv=>by cases hv⟩
 | cons a l=>
  refine .inl ⟨rfl,h.dk,h.pw,h.tq,h.tm,h.q,h.t,?_,h.c,h.i,h.o,h.ci,h.ki⟩;have p1:PW k.ac k.dk (k.wk.set (ix r.ab) l):=h.w.put ⟨by omega,by omega⟩ (fun v hv h0=>h.w r.ab v h0 (by rw[hl];simp[hv]));exact PW.put (c:=-1) p1 ⟨by omega,by rw[List.length_set];omega⟩ (fun v hv h0=>absurd h0 (by omega))
theorem ax.ZE (h:ax k) (hS:ar k) (hd:k.dk.1=some r):ax {k with ca:=eY k.ca r.ab r.ah}/\((j5 k.ca r.ab r.ah).2≠0->∀v,v∉aM (eY k.ca r.ab r.ah) r.ab):=by
 have R:=h.dk.bJ r hd;have hw:=h.gL _ R.ah;have hR:=R.ab;have hca:=hS.ca;have hc0:=R.v.ab.1;have hw0:=R.v.ah.1;have h1:aT k.ca r.ab:=⟨hc0,by omega⟩;have h2:aT k.ca r.ah:=⟨hw0,by omega⟩;obtain⟨e1,e2,e3,e4⟩:=h.ci.Vs r.ab r.ah;rw[if_pos ⟨h1,h2⟩,if_neg R.ne]at e1 e2;have hpop:∀c',0<=c'->aM (fv k.ca r.ab) c'=if c'=r.ab then(aM k.ca r.ab).tail else aM k.ca c':=fun c' h'=>rK (o:=k.ca.1) (L:=k.ca.2) ⟨hc0,by omega⟩ h'
 cases hl:aM k.ca r.ab with
 | nil=>
  have hf:(bK (bU (aM k.ca r.ab))).2=12:=by rw[hl];rfl
  rw[if_neg (by omega)]at e2
  have hrow:∀c',0<=c'->aM (eY k.ca r.ab r.ah) c'=aM k.ca c':=fun c' h'=>by
   rw[wQ (ca:=fv k.ca r.ab) e2,hpop c' h',hl];split
   ·rename_i e;rw[e,hl];rfl
   ·rfl
  refine⟨⟨h.dk,h.pw,h.tq,h.tm,h.q,h.t,h.w,fun c' v h' hv=>h.c c' v h' (by rw[<-hrow c' h'];exact hv),h.i,h.o,e3,h.ki⟩,fun _ v hv=>?_⟩
  rw[hrow _ hc0,hl]at hv;cases hv
 | cons a l=>
  have hf:bK (bU (aM k.ca r.ab))=(a,0):=by rw[hl];rfl
  rw[hf]at e1 e2;simp only[if_true]at e2;refine⟨⟨h.dk,h.pw,h.tq,h.tm,h.q,h.t,h.w,fun c' v h' hv=>?_,h.i,h.o,e3,h.ki⟩,fun hh=>absurd (by rw[e1]) hh⟩;simp only at hv;rw[wQ (ca:=(k.ca.1,(fv k.ca r.ab).2.set r.ah.toNat (aM (fv k.ca r.ab) r.ah++[a]))) e2,rK ⟨hw0,by unfold fv;simp only[List.length_set];omega⟩ h']at hv;split at hv
  ·rename_i e;rw[e];exact lG R.ah
  ·rw[show aM (k.ca.1,(fv k.ca r.ab).2) c'=aM (fv k.ca r.ab) c' from rfl,hpop c' h']at hv;split at hv
   ·rename_i e;rw[e];rw[hl]at hv;exact h.c r.ab v hc0 (by rw[hl];simp at hv;simp[hv])
   ·exact h.c c' v h' hv
theorem ax.abI (h:ax k) (hS:ar k) (hd:k.dk.1=some r) (hb:r.back=false) (hu:r.up=false) (h6:r.ag=6) (ht:r.told=true) (f:Int->Bool) :
  (oT k=false/\ax (jz k r.ab r.ah))∨(oT k=true/\ax {jz k r.ab r.ah with dk:=(some {r with told:=false,ag:=r.ag+1},f)}):=by
 have R:=h.dk.bJ r hd;obtain⟨hac,hno⟩:=sd R hu (by omega);have hcpu64:0<=r.ab/\r.ab<64:=R.v.ab;unfold oT jz;by_cases hz:k.sp.1=0
 ·refine .inl ⟨by rw[hz];rfl,?_⟩;rw[if_pos hz]
  have hm0:ls (wi k.ac r.ab) r.ah≠0:=fun e=>by
   have:hs (ls (wi k.ac r.ab) r.ah) r.ab=true:=by rw[eu,kT];simp[hcpu64,R.ne]
   rw[e,gu]at this;cases this
  have e1:(lf k.sp (ls (wi k.ac r.ab) r.ah)).2=(ls (wi k.ac r.ab) r.ah,0):=by unfold lf;rw[if_pos hz,if_neg hm0]
  rw[e1];refine⟨⟨h.dk.an,h.dk.ao,h.dk.de,fun e=>(by rw[hd]at e;cases e),fun r' hr=>?_,fun e=>absurd e hm0⟩,h.pw,h.tq,h.tm,h.q,h.t,h.w,h.c,h.i,h.o,h.ci,h.ki⟩;rw[hd]at hr;cases hr;exact⟨R.v,R.over,R.ne,R.ah,R.ab,R.de,R.g0,R.g1,R.jl,fun _=>⟨hu,hb,h6,ht,rfl⟩⟩
 ·rw[if_neg hz];by_cases hr:fB k.sp=true
  ·refine .inr ⟨by rw[hr,Bool.and_true];simpa using hz,?_⟩;rw[if_pos hr];obtain⟨rt,e,q1,q2,q3⟩:=leads (ab:=r.ab) (ft k.rt r.ab) k h.dk.an h.gL hS.gW hS.gz aen;simp only;rw[e];have e1:(rP k.sp).2=(0,0):=by unfold rP;rw[if_neg hz]
   simp only;rw[e1]
   have hPI:PI k.ac k.dk k.ir rt:=fun n n0 n1 hn=>by
    obtain⟨p1,p2⟩:=q3 n n0 n1;by_cases hm:n∈ft k.rt r.ab
    ·obtain⟨a1,a2⟩:=p1 hm;exact⟨(b9 rt n).1,by rw[<-a1],lG a2⟩
    ·rw[p2 hm];exact h.i n n0 n1 hn
   have hst:=R.v.st;rw[hu]at hst
   have h1:ax {k with rt:=rt,sp:=(0,0)}:=by
    refine⟨⟨h.dk.an,h.dk.ao,h.dk.de,fun e=>(by rw[hd]at e;cases e),fun r' hr=>?_,fun _=>rfl⟩,h.pw,h.tq,h.tm,h.q,h.t,h.w,h.c,hPI,h.o,h.ci,h.ki⟩;rw[hd]at hr;cases hr;exact⟨R.v,R.over,R.ne,R.ah,R.ab,R.de,R.g0,R.g1,R.jl,fun hh=>absurd rfl hh⟩
   refine h1.lQ hd hb (by omega) (by simp at hst;omega) rfl f (fun _ e=>by omega) (fun _ e=>by omega) (fun _ e=>by omega) (fun _ e=>by omega) (fun _ _ n c n0 n1 hn ho=>?_) (fun _ e=>by omega);simp only at ho hn;obtain⟨p1,p2⟩:=q3 n n0 n1;intro ec;by_cases hm:n∈ft k.rt r.ab
   ·have:=(p1 hm).2;rw[ho]at this;simp only[ec,hno]at this;cases this
   ·rw[p2 hm]at ho;refine hm (dT.2 ⟨n0,n1,?_⟩);unfold nM;rw[ho,ec];simp
  ·have hr':fB k.sp=false:=by simpa using hr
   refine .inl ⟨by rw[hr'];simp,?_⟩;rw[if_neg hr];exact h
theorem ax.aei (h:ax k) (hS:ar k) (hd:k.dk.1=some r) (hb:r.back=false) (hu:r.up=false) (h9:r.ag=9) (f:Int->Bool) (g:List Int):ax {k with on:=ls k.on r.ab,co:=fh k.co r.ab false,dk:=(none,f),ga:=(g,0)}:=by
 have R:=h.dk.bJ r hd;obtain⟨hac,hno⟩:=sd R hu (by omega);have hsp:=i6 R (.inr (.inr (.inl (by omega))));have hin:cD k.co r.ab:=⟨R.v.ab.1,by have:=R.ab;have:=hS.co;omega⟩
 have hm:∀s c,s<=8->aW k.ac k.dk s c->aW k.ac (none,f) s c:=by
  intro s c h8 hh;rcases hh with hh|⟨q,g1,g2,g3,g4⟩
  ·exact .inl hh
  ·rw[hd]at g1;cases g1;rw[hb]at g4;rcases g4 with g4|g4
   ·cases g4
   ·omega
 refine⟨⟨h.dk.an,fun c hc=>?_,fun c hc=>h.dk.de c (Vb (n:=k.n) hc).1,fun _=>⟨hac,rfl,hsp⟩,fun r' hr=>(by cases hr),h.dk.iZ⟩,fun c m0 m1=>?_,h.tq,h.tm,h.q.to (fun c=>hm _ c (by omega)),h.t.to (fun c=>hm _ c (by omega)),h.w.to (fun c=>hm _ c (by omega)),h.c.to (fun c=>hm _ c (by omega)),h.i.to (fun c=>hm _ c (by omega)),h.o.to (fun c=>hm _ c (by omega)),h.ci,h.ki⟩
 ·simp only at hc⊢;rw[<-hac];exact hc
 ·simp only;rw[DU hin,h.pw c m0 m1];unfold fH;rw[hd,eu];simp only[hu,Bool.false_and,Bool.or_false];split
  ·rename_i e;simp[e]
  ·rename_i e;simp[e]
theorem abA (h:ax k) (hS:ar k) (hd:k.dk.1=some r) (ht:r.told=true) (f:Int->Bool) :
  ax (if lq k (r.now.1,r.now.2.1,false) r.ab r.ah then
   (if({r with told:=false,ag:=if r.back then r.ag-1 else r.ag+1}:aG).over then{b6 k (r.now.1,r.now.2.1,false) r.ab r.ah with dk:=(none,f),ga:=((b6 k (r.now.1,r.now.2.1,false) r.ab r.ah).ga.1,0)}
       else{b6 k (r.now.1,r.now.2.1,false) r.ab r.ah with dk:=(some {r with told:=false,ag:=if r.back then r.ag-1 else r.ag+1},f)})
   else b6 k (r.now.1,r.now.2.1,false) r.ab r.ah):=by
 have R:=h.dk.bJ r hd;have hov:=R.over;have hst:=R.v.st;have hdid:=R.v.ag;have hup:iL k.dk=r.up:=by unfold iL;rw[hd]
 rw[tV R.over];rw[fu]at hov;rcases(by cases r.back<;>simp:r.back=true∨r.back=false)with hb|hb
 ·rw[hb]at hov;have hd0:r.ag≠0:=by simpa using hov
  simp only[if_pos hb];unfold lq b6;simp only[if_true,hup];by_cases h1:r.ag=1
  ·have e:jH k r.up (r.ag-1) r.ab=k:=by unfold jH;simp[h1]
   rw[e,if_pos (by rw[fu];simp[hb,h1])];exact h.stop hd (by omega) (i6 R (.inr (.inl hb))) f _
  ·rw[if_neg (by rw[fu];simp[hb];omega)];exact h.amm hS hd hb (by omega) f
 ·rw[hb]at hov;have hds:r.ag≠r.dB:=by simpa using hov
  have hn:¬r.back=true:=by rw[hb];decide
  have hnot:¬r.ag+1=r.dB->¬({r with told:=false,ag:=r.ag+1}:aG).over=true:=fun hh=>by rw[fu];simp[hb];exact hh
  have hyes:r.ag+1=r.dB->({r with told:=false,ag:=r.ag+1}:aG).over=true:=fun hh=>by rw[fu];simp[hb];exact hh
  simp only[if_neg hn];unfold lq b6;simp only[Bool.false_eq_true,if_false,hup];by_cases h0:r.ag=0
  ·rw[if_pos h0,if_pos h0]
   have hne:¬r.ag+1=r.dB:=by
    rcases(by cases r.up<;>simp:r.up=true∨r.up=false)with hu|hu<;>rw[hu]at hst<;>simp at hst<;>omega
   by_cases hg:kN k.ga=0
   ·have e:kO k.ga=(k.ga.1,2):=by unfold kO;rw[if_pos hg]
    rw[if_pos (decide_eq_true hg),if_neg (hnot hne),e];exact h.afS hd hb h0 f _
   ·have e:kO k.ga=k.ga:=by unfold kO;rw[if_neg hg]
    rw[if_neg (by simp[hg]),e];exact h
  ·rw[if_neg h0,if_neg h0];rcases(by cases r.up<;>simp:r.up=true∨r.up=false)with hu|hu
   ·rw[if_pos hu,if_pos hu];rw[hu]at hst;simp only[if_true]at hst;have hc:r.ag=1∨r.ag=2∨r.ag=3:=by omega
    rcases hc with h1|h1|h1
    ·rw[if_neg (hnot (by omega)),h1];have:=h.aeM hS hd hb hu h1 f;rw[h1]at this;exact this
    ·rw[if_neg (hnot (by omega)),h1];have:=(h.RZ r.ab).lQ hd hb (by omega) (by omega) (i6 R (.inl hu)) f (fun e=>by rw[hu]at e;cases e) (fun e=>by rw[hu]at e;cases e) (fun e=>by rw[hu]at e;cases e) (fun e=>by rw[hu]at e;cases e) (fun e=>by rw[hu]at e;cases e) (fun e=>by rw[hu]at e;cases e);rw[h1]at this;exact this
    ·rw[if_pos (hyes (by omega)),h1];exact h.ZQ hS hd hb hu h1 f _
   ·have hu':¬r.up=true:=by rw[hu];decide
    simp only[if_neg hu'];rw[hu]at hst;simp only[Bool.false_eq_true,if_false]at hst;have hc:r.ag=1∨r.ag=2∨r.ag=3∨r.ag=4∨r.ag=5∨r.ag=6∨r.ag=7∨r.ag=8∨r.ag=9:=by omega
    have hnb:∀{p:Prop},r.ag<9->(r.ag=9->p):=fun h e=>by omega
    rcases hc with h1|h1|h1|h1|h1|h1|h1|h1|h1
    ·rw[if_pos (show fm k r.ag r.ab r.ah=true by rw[h1];rfl),if_neg (hnot (by omega)),show dy k r.ag r.ab r.ah={k with ac:=ls k.ac r.ab} by rw[h1];rfl];exact h.abQ hd hb hu h1 f
    ·have e1:fm k r.ag r.ab r.ah=(aY k.rq r.ab).isEmpty:=by rw[h1];rfl
     have e2:dy k r.ag r.ab r.ah=eQ k r.ab:=by rw[h1];rfl
     rw[e1,e2];by_cases hl:aY k.rq r.ab=[]
     ·have e3:eQ k r.ab=k:=by unfold eQ;rw[hl]
      rw[if_pos (by rw[hl];rfl),if_neg (hnot (by omega)),e3];refine h.lQ hd hb (by omega) (by omega) (i6 R (.inr (.inr (.inl (by omega))))) f (fun _ _ id hj=>?_) (fun _ e=>by omega) (fun _ e=>by omega) (fun _ e=>by omega) (fun _ e=>by omega) (fun _ e=>by omega);have:=(wA hS.rq).2 hj;rw[hl]at this;cases this
     ·rw[if_neg (by simp[hl])];exact h.aaC hS r.ab
    ·have e1:fm k r.ag r.ab r.ah=decide ((gC k.tm r.ab r.ah).2≠0):=by rw[h1];rfl
     have e2:dy k r.ag r.ab r.ah={k with tm:=eJ k.tm r.ab r.ah}:=by rw[h1];rfl
     rw[e1,e2];rcases h.ahZ hS hd with⟨a1,a2⟩|⟨a1,a2,a3⟩
     ·rw[if_neg (by simp[a1])];exact a2
     ·rw[if_pos (decide_eq_true a1),if_neg (hnot (by omega)),a2];exact h.lQ hd hb (by omega) (by omega) (i6 R (.inr (.inr (.inl (by omega))))) f (fun _ e=>by omega) (fun _ _=>a3) (fun _ e=>by omega) (fun _ e=>by omega) (fun _ e=>by omega) (fun _ e=>by omega)
    ·have e1:fm k r.ag r.ab r.ah=decide ((ly k.wk r.ab).2≠0):=by rw[h1];rfl
     have e2:dy k r.ag r.ab r.ah={k with wk:=jd k.wk r.ab}:=by rw[h1];rfl
     rw[e1,e2];rcases h.ami hS hd with⟨a1,a2⟩|⟨a1,a2,a3⟩
     ·rw[if_neg (by simp[a1])];exact a2
     ·rw[if_pos (decide_eq_true a1),if_neg (hnot (by omega)),a2];exact h.lQ hd hb (by omega) (by omega) (i6 R (.inr (.inr (.inl (by omega))))) f (fun _ e=>by omega) (fun _ e=>by omega) (fun _ _=>a3) (fun _ e=>by omega) (fun _ e=>by omega) (fun _ e=>by omega)
    ·have e1:fm k r.ag r.ab r.ah=decide ((j5 k.ca r.ab r.ah).2≠0):=by rw[h1];rfl
     have e2:dy k r.ag r.ab r.ah={k with ca:=eY k.ca r.ab r.ah}:=by rw[h1];rfl
     rw[e1,e2];obtain⟨a1,a2⟩:=h.ZE hS hd;by_cases hm:(j5 k.ca r.ab r.ah).2≠0
     ·rw[if_pos (decide_eq_true hm),if_neg (hnot (by omega))];exact a1.lQ hd hb (by omega) (by omega) (i6 R (.inr (.inr (.inl (by omega))))) f (fun _ e=>by omega) (fun _ e=>by omega) (fun _ e=>by omega) (fun _ _=>a2 hm) (fun _ e=>by omega) (fun _ e=>by omega)
     ·rw[if_neg (by simpa using hm)];exact a1
    ·have e1:fm k r.ag r.ab r.ah=oT k:=by rw[h1];rfl
     have e2:dy k r.ag r.ab r.ah=jz k r.ab r.ah:=by rw[h1];rfl
     rw[e1,e2];rcases h.abI hS hd hb hu h1 ht f with⟨a1,a2⟩|⟨a1,a2⟩
     ·rw[if_neg (by rw[a1];decide)];exact a2
     ·rw[if_pos a1,if_neg (hnot (by omega))];exact a2
    ·rw[if_pos (show fm k r.ag r.ab r.ah=true by rw[h1];rfl),if_neg (hnot (by omega)),show dy k r.ag r.ab r.ah={k with st:=gr k.st r.ab} by rw[h1];rfl];have hin:fj k.st r.ab:=⟨R.v.ab.1,by have:=R.ab;have:=hS.st;omega⟩;refine(h.RZ r.ab).lQ hd hb (by omega) (by omega) (i6 R (.inr (.inr (.inl (by omega))))) f (fun _ e=>by omega) (fun _ e=>by omega) (fun _ e=>by omega) (fun _ e=>by omega) (fun _ e=>by omega) (fun _ _ v hv=>?_);simp only at hv;unfold gr at hv;rw[if_pos hin,AO hin R.v.ab.1,if_pos rfl]at hv;cases hv
    ·rw[if_pos (show fm k r.ag r.ab r.ah=true by rw[h1];rfl),if_neg (hnot (by omega)),show dy k r.ag r.ab r.ah=k by rw[h1];rfl];exact h.lQ hd hb (by omega) (by omega) (i6 R (.inr (.inr (.inl (by omega))))) f (fun _ e=>by omega) (fun _ e=>by omega) (fun _ e=>by omega) (fun _ e=>by omega) (fun _ e=>by omega) (fun _ e=>by omega)
    ·rw[if_pos (show fm k r.ag r.ab r.ah=true by rw[h1];rfl),if_pos (hyes (by omega)),show dy k r.ag r.ab r.ah={k with on:=ls k.on r.ab,co:=fh k.co r.ab false} by rw[h1];rfl];exact h.aei hS hd hb hu h1 f _
theorem aia (h:ax k) (hS:ar k) (hd:k.dk.1=some r):ax (eK k r.ah):=by
 have R:=h.dk.bJ r hd;by_cases hf:dm k.dk r=true
 ·rw[FZ hd R.over hf];unfold dm at hf;simp only[Bool.and_eq_true,Bool.not_eq_true']at hf;obtain⟨⟨f1,f2⟩,f3⟩:=hf
  have hb:r.back=false:=by
   rw[tV R.over]at f1
   cases hb:r.back with
   | false=>rfl
   | true=>rw[hb]at f1;cases f1
  split
  ·rename_i h0;exact h.stop hd (by omega) (i6 R (.inr (.inr (.inr f2)))) _ _
  ·rename_i h0;have:=R.v.ag;exact h.failed hd (by omega) hb f2 _
 ·rw[xk hd R.over (by simpa using hf)];have hS':ar {k with dk:=(some {r with told:=true},k.dk.2)}:=⟨hS.n,hS.fZ,hS.fL,hS.rq,hS.ib,hS.jc,hS.fe,hS.jV,hS.fk,hS.gW,hS.gz,hS.gh,hS.iF,hS.jf,hS.ca,hS.st,hS.ga,hS.co⟩;have hov:({r with told:=true}:aG).now=r.now:=by unfold aG.now;rfl
  have:=abA (k:={k with dk:=(some {r with told:=true},k.dk.2)}) (r:={r with told:=true}) (h.told hd k.dk.2) hS' rfl rfl k.dk.2;rw[hov]at this;exact this
end
end Go.Dav
namespace Go.Dav
theorem ef.back {q:Nat×aR} (h:ef q) (k:Int):ef (gV q k):=by
 unfold gV;split
 ·rename_i hk;obtain⟨p,hp⟩:=fE.1 hk;have hpr:=wN h.one hp;have hd:=h.drop k;have hl:=aan h hk;refine⟨?_,?_,?_,h.gT⟩
  ·simp only[List.map_append,List.map_cons,List.map_nil];refine List.nodup_append.2 ⟨hd.one,by simp,fun a ha b hb=>?_⟩;simp only[List.mem_singleton]at hb;rintro rfl;obtain⟨e,he,rfl⟩:=List.mem_map.1 ha;have:=(List.mem_filter.1 he).2;simp only[decide_eq_true_eq]at this;exact this hb
  ·intro e he;rcases List.mem_append.1 he with he|he
   ·exact hd.e9 e he
   ·simp only[List.mem_singleton]at he;subst he;simp only[hpr];exact h.e9 _ hp
  ·simp only[List.length_append,List.length_singleton];have:=h.room;omega
 ·exact h
theorem Wg (q:Nat×aR) (k:Int):(gV q k).1=q.1:=by unfold gV;split<;>rfl
theorem ef.bI {q:Nat×aR} (h:ef q):ef (iw q)/\(iw q).1=q.1:=by
 unfold iw;split
 ·exact⟨h.back _,Wg ..⟩
 ·exact⟨h,rfl⟩
section
variable {n:Nat} {x:RS}
theorem bW.set (h:bW n x) {i:Nat} (hi:i<x.length) {q:Nat×aR} (hm:∀k,bR q k=bR x[i] k) (hV:ef q) (h1:q.1=x[i].1):bW n (x.set i q):=by
 have hmem:∀j k,bd (x.set i q) j k=bd x j k:=by
  intro j k;rw[qf hi];split
  ·rename_i e;subst e;rw[hm,iS hi]
  ·rfl
 refine⟨by simp[h.len],fun k a b h1 h2=>?_,fun e he=>?_⟩
 ·rw[hmem]at h1 h2;exact h.one k a b h1 h2
 ·rcases List.mem_or_eq_of_mem_set he with he|rfl
  ·exact h.v e he
  ·exact⟨hV,by rw[h1];exact(h.at hi).2⟩
theorem bW.back (h:bW n x) (k:Int):bW n (qt x k):=by
 unfold qt;rcases nX x k with⟨h1,h2⟩|⟨i0,hi0,h1,h2⟩
 ·rw[h1];exact h
 ·rw[h1];simp only[if_true,Int.toNat_natCast];rw[fX hi0];exact h.set hi0 (fun j=>by rw[zO]) ((h.at hi0).1.back k) (Wg ..)
theorem bW.pick (h:bW n x) (c:Int):bW n (la x c):=by
 unfold la;split
 ·rename_i hc;obtain⟨i0,hi0,rfl⟩:=kX hc;rw[fX hi0,Int.toNat_natCast];exact h.set hi0 (fun j=>by rw[D0]) (h.at hi0).1.bI.1 (h.at hi0).1.bI.2
 ·exact h
theorem bW.Wj (h:bW n x) (c p k:Int):bW n (fY x c p k):=by
 by_cases he:lT x c p k=0
 ·exact h.put he
 ·unfold fY;rw[if_neg he];exact h
end
structure ig (n:Nat) (Q:QL):Prop where
 len:Q.length=n+1
 one:∀v,ct Q v<=1
 e9:∀v,0<ct Q v->1<=v/\v<=32
section
variable {n:Nat} {Q:QL}
theorem ig.queue (h:ig n Q) (c:Int):ig n (o8 Q c):=by
 unfold o8;split
 ·rename_i hc;obtain⟨i,hi,rfl,hix⟩:=rA hc (by omega);split
  ·rename_i j hj;have hj':=hj;unfold qb at hj';have h1:=of_decide_eq_true (List.find?_some (p:=fun(k:Nat)=>decide (ct Q ((k:Int)+1)=0)) hj');have h2:=List.mem_range.1 (List.mem_of_find?_eq_some hj');rw[hix,lS hi];refine⟨by simp[h.len],fun v=>?_,fun v hv=>?_⟩
   ·rw[yZ hi];have:=h.one v;split
    ·rename_i e;subst e;omega
    ·omega
   ·rw[yZ hi]at hv;split at hv
    ·rename_i e;subst e;omega
    ·exact h.e9 v (by omega)
  ·exact h
 ·exact h
theorem ig.less (h:ig n Q) {i:Nat} (hi:i<Q.length) {l:List Int} (hl:∀v,l.count v<=Q[i].count v):ig n (Q.set i l):=by
 have hc:∀v,ct (Q.set i l) v<=ct Q v:=fun v=>by have:=lJ hi l v;have:=hl v;omega
 exact⟨by simp[h.len],fun v=>Nat.le_trans (hc v) (h.one v),fun v hv=>h.e9 v (Nat.lt_of_lt_of_le hv (hc v))⟩
theorem ig.drop (h:ig n Q) (v:Int):ig n (ky Q v):=by
 unfold ky;rcases Gn h.one v with⟨e,_⟩|⟨i,hi,hv,e,_⟩
 ·rw[e];exact h
 ·rw[e];simp only;rw[zQ,lS hi];exact h.less hi (fun u=>(List.erase_sublist).count_le u)
theorem ig.take (h:ig n Q) (c:Int):ig n (lX Q c):=by
 unfold lX;split
 ·split
  ·exact h.drop _
  ·exact h.drop _
  ·exact h
 ·exact h
theorem ig.unbind (h:ig n Q) (c:Int):ig n (jd Q c):=by
 unfold jd;split
 ·rename_i hc;obtain⟨i,hi,rfl,hix⟩:=rA hc (by omega);have hi0:i≠0:=by unfold bY at hc;omega
  rw[lS hi,hix];split
  ·rename_i a l hl;have h0:0<Q.length:=by omega
   have e0:bV Q (-1)=Q[0]:=lS (i:=0) h0
   have hct:∀v,ct ((Q.set i l).set 0 (bV Q (-1)++[a])) v=ct Q v:=by
    intro v;have h1:=lJ hi l v;have h2:=lJ (L:=Q.set i l) (i:=0) (by simpa using h0) (bV Q (-1)++[a]) v;rw[e0]at h2⊢;have h3:(Q.set i l)[0]'(by simpa using h0)=Q[0]:=List.getElem_set_ne hi0 _;rw[h3,List.count_append,List.count_singleton]at h2;rw[hl,List.count_cons]at h1;simp only[beq_iff_eq]at h1 h2;omega
   exact⟨by simp[h.len],fun v=>by rw[hct];exact h.one v,fun v hv=>h.e9 v (by rw[<-hct v];exact hv)⟩
  ·exact h
 ·exact h
end
section
variable {k:K}
theorem ar.Bt (h:ar k):ig k.n k.wk:=⟨h.gh,h.iF,h.jf⟩
theorem ar.nV (h:ar k) {th:TX} (h1:th.1=k.th.1) (h2:th.2.length=k.th.2.length):ar {k with th:=th}:=⟨h.n,by rw[<-h.fZ,<-h1],by rw[<-h.fL,<-h2],h.rq,h.ib,h.jc,h.fe,h.jV,h.fk,h.gW,h.gz,h.gh,h.iF,h.jf,h.ca,h.st,h.ga,h.co⟩
theorem ar.qu (h:ar k) {rq:RS} (h1:bW k.n rq):ar {k with rq:=rq}:=⟨h.n,h.fZ,h.fL,h1,h.ib,h.jc,h.fe,h.jV,h.fk,h.gW,h.gz,h.gh,h.iF,h.jf,h.ca,h.st,h.ga,h.co⟩
theorem ar.uu (h:ar k) {tm:bG} (h1:tm.n=k.tm.n) (h2:tm.t.length=k.tm.t.length) (h3:tm.now=k.tm.now):ar {k with tm:=tm}:=⟨h.n,h.fZ,h.fL,h.rq,h1.trans h.ib,h2.trans h.jc,h3.trans h.fe,h.jV,h.fk,h.gW,h.gz,h.gh,h.iF,h.jf,h.ca,h.st,h.ga,h.co⟩
theorem ar.EE (h:ar k) (o:Int->Option Int):ar {k with own:=o}:=⟨h.n,h.fZ,h.fL,h.rq,h.ib,h.jc,h.fe,h.jV,h.fk,h.gW,h.gz,h.gh,h.iF,h.jf,h.ca,h.st,h.ga,h.co⟩
theorem ar.ir_ (h:ar k) {ir:bj} (h1:ir.1=k.ir.1) (h2:ir.2.length=k.ir.2.length):ar {k with ir:=ir}:=⟨h.n,h.fZ,h.fL,h.rq,h.ib,h.jc,h.fe,h1.trans h.jV,h2.trans h.fk,h.gW,h.gz,h.gh,h.iF,h.jf,h.ca,h.st,h.ga,h.co⟩
theorem ar.WE (h:ar k) {rt:ch} (h1:rt.1=k.rt.1) (h2:rt.2.length=k.rt.2.length):ar {k with rt:=rt}:=⟨h.n,h.fZ,h.fL,h.rq,h.ib,h.jc,h.fe,h.jV,h.fk,h1.trans h.gW,h2.trans h.gz,h.gh,h.iF,h.jf,h.ca,h.st,h.ga,h.co⟩
theorem ar.Bs (h:ar k) {wk:QL} (h1:ig k.n wk):ar {k with wk:=wk}:=⟨h.n,h.fZ,h.fL,h.rq,h.ib,h.jc,h.fe,h.jV,h.fk,h.gW,h.gz,h1.len,h1.one,h1.e9,h.ca,h.st,h.ga,h.co⟩
theorem ar.Cw (h:ar k) {ca:CS} (h1:ca.2.length=k.ca.2.length):ar {k with ca:=ca}:=⟨h.n,h.fZ,h.fL,h.rq,h.ib,h.jc,h.fe,h.jV,h.fk,h.gW,h.gz,h.gh,h.iF,h.jf,h1.trans h.ca,h.st,h.ga,h.co⟩
theorem ar.A7 (h:ar k) {st:KS} (h1:st.2.length=k.st.2.length):ar {k with st:=st}:=⟨h.n,h.fZ,h.fL,h.rq,h.ib,h.jc,h.fe,h.jV,h.fk,h.gW,h.gz,h.gh,h.iF,h.jf,h.ca,h1.trans h.st,h.ga,h.co⟩
theorem ar.vY (h:ar k) {ga:fD} (h1:ga.1.length=k.ga.1.length):ar {k with ga:=ga}:=⟨h.n,h.fZ,h.fL,h.rq,h.ib,h.jc,h.fe,h.jV,h.fk,h.gW,h.gz,h.gh,h.iF,h.jf,h.ca,h.st,h1.trans h.ga,h.co⟩
theorem ar.pT (h:ar k) {co:List cG} (h1:co.length=k.co.length):ar {k with co:=co}:=⟨h.n,h.fZ,h.fL,h.rq,h.ib,h.jc,h.fe,h.jV,h.fk,h.gW,h.gz,h.gh,h.iF,h.jf,h.ca,h.st,h.ga,h1.trans h.co⟩
theorem ar.o9 (h:ar k) (on ac:BV) (lim:Int) (sp:BV×BV) (dk:aZ):ar {k with on:=on,ac:=ac,lim:=lim,sp:=sp,dk:=dk}:=⟨h.n,h.fZ,h.fL,h.rq,h.ib,h.jc,h.fe,h.jV,h.fk,h.gW,h.gz,h.gh,h.iF,h.jf,h.ca,h.st,h.ga,h.co⟩
theorem ar.nw (h:ar k) (dk:aZ):ar {k with dk:=dk}:=h.o9 k.on k.ac k.lim k.sp dk
theorem uv (x:bG) (c d:Int):(eP x c d).n=x.n/\(eP x c d).t.length=x.t.length/\(eP x c d).now=x.now:=by
 unfold eP
 repeat' split
 all_goals simp
theorem uw (x:bG) (c:Int):(gM x c).n=x.n/\(gM x c).t.length=x.t.length/\(gM x c).now=x.now:=by
 unfold gM pU;split<;>simp
theorem FT (x:bG) (c:Int):(dS x c).n=x.n/\(dS x c).t.length=x.t.length/\(dS x c).now=x.now:=by
 unfold dS pU
 repeat' split
 all_goals simp
theorem FU (x:bG) (c d:Int):(eJ x c d).n=x.n/\(eJ x c d).t.length=x.t.length/\(eJ x c d).now=x.now:=by
 unfold eJ
 repeat' split
 all_goals simp
theorem Tz (s:bj) (n:Int) (q:Iq):(gQ s n q).1=s.1/\(gQ s n q).2.length=s.2.length:=by unfold gQ;simp
theorem ar.tu (h:ar k) (n:Int) (q:Iq):ar {k with ir:=gQ k.ir n q}:=h.ir_ (Tz ..).1 (Tz ..).2
theorem Rx (co:List cG) (c a b:Int):(ju co c a b).length=co.length/\(cU co c a).length=co.length:=by
 unfold ju cU;constructor<;>split<;>simp
theorem ar.AF (h:ar k) (id near:Int):ar (fU k id near):=(h.qu (h.rq.Wj _ _ _)).nV (EJ ..) (EK ..)
theorem ar.Vj (h:ar k) (id:Int):ar (dU k id):=by
 unfold Dav.dU;split
 ·exact h
 ·exact(h.qu (h.rq.take id)).AF _ _
theorem ar.Ed (h:ar k) (n near:Int):ar (ey k n near):=h.WE (uf ..).1 (uf ..).2
theorem ar.Lr (h:ar k) (n:Int):ar (dR k n):=by
 unfold Dav.dR;split
 ·exact h.Ed _ _
 ·exact h
theorem ar.Wq (h:ar k) (t:Int):ar (tS k t):=(h.uu (uw ..).1 (uw ..).2.1 (uw ..).2.2).EE _
theorem ar.XI (h:ar k) (id:Int):ar (pF k id):=(h.nV (XF ..) (XG ..)).AF _ _
end
theorem ar.wB:∀{k:K} (l:List Int),ar k->ar (l.foldl dU k)
 | k,[],h=>h
 | k,a::l,h=>ar.wB l (h.Vj a)
theorem ar.sf:∀{k:K} (l:List Int),ar k->ar (l.foldl dR k)
 | k,[],h=>h
 | k,a::l,h=>ar.sf l (h.Lr a)
theorem ar.leads (c:Int):∀{k:K} (l:List Int),ar k->ar (l.foldl (fun k n=>Dav.ey k n c) k)
 | k,[],h=>h
 | k,a::l,h=>ar.leads c l (h.Ed a c)
section
variable {k:K}
theorem UR {a d:Int} (h:(aP a d).2=0):aN a/\0<=d/\(aP a d).1=a+d/\aN (a+d):=by
 unfold aP at h⊢;unfold aN;split at h
 ·rename_i h1;split at h
  ·rename_i h2;rw[if_pos h1,if_pos h2];exact⟨h1.1,h1.2.1,rfl,by omega,by omega⟩
  ·cases h
 ·cases h
theorem ar.tick (h:ar k) (n:Int):ar (lZ k n):=by
 unfold lZ;split
 ·rename_i h0;obtain⟨_,p1,p2,p3⟩:=UR h0
  have e:kI k.tm (aP k.now n).1={k.tm with now:=(aP k.now n).1}:=by
   unfold kI oS;rw[if_pos (by rw[if_pos ⟨by rw[h.fe];omega,by rw[p2];exact p3⟩])]
  rw[e];exact⟨h.n,h.fZ,h.fL,h.rq,h.ib,h.jc,rfl,h.jV,h.fk,h.gW,h.gz,h.gh,h.iF,h.jf,h.ca,h.st,h.ga,h.co⟩
 ·exact h
theorem ar.spawn (h:ar k) (p:Int) (m:BV):ar (lj k p m):=by
 unfold lj;split
 ·exact(h.nV (FC ..) (FD ..)).AF _ _
 ·exact h.nV (FC ..) (FD ..)
theorem ar.sleep (h:ar k) (id:Int) (x:Th) (n:Int):ar (lg k id x n):=by
 unfold lg;split
 ·have h1:=h.uu (uv k.tm (fJ k x) (aP k.now n).1).1 (uv k.tm (fJ k x) (aP k.now n).1).2.1 (uv k.tm (fJ k x) (aP k.now n).1).2.2;split
  ·exact((h1.EE _).qu (h.rq.take id)).nV (af0 ..) (af1 ..)
  ·exact h1
 ·exact h
theorem ar.exit (h:ar k) (id:Int) (x:Th):ar (kF k id x):=by
 unfold kF;split
 ·exact(h.Wq _).nV (Sz ..) (SA ..)
 ·exact(h.qu (h.rq.take id)).nV (Sz ..) (SA ..)
theorem ar.Bb (h:ar k) (e:aU):ar (eI k e):=by
 unfold eI
 dsimp only
 repeat' split
 ·exact h
 ·exact h
 ·exact h.exit _ _
 ·exact(h.nV (BK ..) (BL ..)).Vj _
 ·exact h.nV (BK ..) (BL ..)
 ·exact h
 ·exact h.sleep _ _ _
 ·exact h.qu (h.rq.back _)
 ·exact(h.Wq _).XI _
theorem ar.irq (h:ar k) (e:aU):ar (jW k e):=by
 have hr:ar {k with ir:=jE k.ir e.2.2.1 e.2.2.2.1}:=by unfold jE;split;exact h.tu _ _;exact h
 have hf:ar {k with ir:=nB k.ir e.2.2.1}:=by unfold nB;split;exact h.tu _ _;exact h
 have ha:ar {k with ir:=mh k.ir e.2.2.1 e.2.2.2.1}:=by unfold mh;split;exact h.tu _ _;exact h
 have hh:∀b,ar {k with ir:=lM k.ir e.2.2.1 b}:=fun b=>by unfold lM;split;exact h.tu _ _;exact h
 have hx:ar {k with ir:=qp k.ir e.2.2.1}:=by unfold qp;split;exact h.tu _ _;exact h
 unfold jW
 repeat' split
 ·exact hr.Ed _ _
 ·exact hr
 ·exact hf.WE (VR ..).1 (VR ..).2
 ·exact hf
 ·exact ha.Lr _
 ·exact ha
 ·exact hh _
 ·exact hh _
 ·exact hx
theorem agc (x:KS) (c:Int):(ni x c).2.length=x.2.length:=by unfold ni;split<;>simp
theorem agd (x:KS) (c v:Int):(mR x c v).2.length=x.2.length:=by unfold mR;split<;>simp
theorem Xc (x:KS) (c:Int):(gr x c).2.length=x.2.length:=by unfold gr;split<;>simp
theorem Zp (x:CS) (c:Int):(iB x c).2.length=x.2.length:=by
 unfold iB
 repeat' split
 all_goals simp
theorem Zq (x:CS) (c:Int):(gZ x c).2.length=x.2.length:=by
 unfold gZ
 repeat' split
 all_goals simp
theorem Zo (x:CS) (c d:Int):(eY x c d).2.length=x.2.length:=by
 unfold eY fv
 repeat' split
 all_goals simp
theorem ar.arm (h:ar k) (c n:Int):ar (np k c n):=by
 unfold np;split
 ·exact h.uu (uv ..).1 (uv ..).2.1 (uv ..).2.2
 ·exact h
theorem ar.Wd (h:ar k) (e:aU):ar (fG k e):=by
 unfold fG
 repeat' split
 ·exact h
 ·exact h.arm _ _
 ·exact h.Bs (h.Bt.queue _)
 ·exact h.Cw (Zp ..)
 ·exact h.A7 (agc ..)
 ·exact h.A7 (agd ..)
 ·refine h.vY ?_;unfold oM;split<;>simp
theorem ar.Ys (h:ar k):ar (jn k):=by
 unfold jn
 repeat' split
 ·exact h
 ·exact(h.qu ((h.rq.take _).Wj _ _ _)).nV (EJ ..) (EK ..)
 ·exact h
theorem ar.request (h:ar k) (up:Bool) (c:Int):ar (bP k up c):=by
 unfold bP
 repeat' split
 any_goals exact h
 have e:(mW k.ga).1.length=k.ga.1.length:=by unfold mW;split<;>rfl
 exact(h.vY e).nw _
theorem ar.cancel (h:ar k) (id:Int):ar (nv k id):=by
 unfold nv
 repeat' split
 any_goals exact h
 exact h.uu (uw ..).1 (uw ..).2.1 (uw ..).2.2
theorem ar.Fb (h:ar k) (e:aU):ar (fA k e):=by
 unfold fA
 repeat' split
 ·exact h.cancel _
 ·exact h
 ·exact h.nw _
 ·refine h.vY ?_;unfold oV;split<;>simp
 ·unfold qe;split
  ·exact h.o9 k.on k.ac _ k.sp k.dk
  ·exact h
 ·exact h
 ·exact h.Ys
 ·exact h
theorem ar.aa0 (h:ar k) (c:Int):ar (du k c):=by
 have h1:ar {k with tm:=dS k.tm c,own:=nN k.own (cy k.tm c).1}:=(h.uu (FT ..).1 (FT ..).2.1 (FT ..).2.2).EE _;unfold du
 dsimp only
 split
 ·exact h1.XI _
 ·exact h1
theorem ar.FO (h:ar k) (c w:Int):ar (dC k c w):=by
 unfold dC
 repeat' split
 ·exact h.Cw (Zq ..)
 ·unfold jt;split
  ·exact h.tu _ _
  ·exact h
 ·exact h.aa0 _
 ·exact h.Bs (h.Bt.take _)
 ·exact h.qu (h.rq.pick _)
theorem ar.amk (h:ar k) (u:Bool) (s c:Int):ar (jH k u s c):=by
 unfold jH
 repeat' split
 ·exact h.pT (CC ..)
 ·exact h.o9 k.on _ k.lim k.sp k.dk
 ·exact h
theorem ar.ZP (h:ar k) (s c:Int):ar (iJ k s c):=by
 unfold iJ
 repeat' split
 ·exact h.pT (CC ..)
 ·exact h.A7 (Xc ..)
 ·exact ar.sf _ (ar.wB _ (h.o9 _ _ k.lim k.sp k.dk))
theorem ar.leave (h:ar k) (s c w:Int):ar (dy k s c w):=by
 unfold dy
 repeat' split
 ·exact h.o9 k.on _ k.lim k.sp k.dk
 ·unfold eQ;split
  ·exact h
  ·exact(h.qu (h.rq.take _)).AF _ _
 ·exact h.uu (FU ..).1 (FU ..).2.1 (FU ..).2.2
 ·exact h.Bs (h.Bt.unbind _)
 ·exact h.Cw (Zo ..)
 ·unfold jz
  repeat' split
  ·exact h.o9 k.on k.ac k.lim _ k.dk
  ·have h1:=ar.leads c (ft k.rt c) h;exact h1.o9 _ _ _ _ _
  ·exact h
 ·exact h.A7 (Xc ..)
 ·exact h
 ·exact ar.pT (h.o9 (ls k.on c) k.ac k.lim k.sp k.dk) (CC k.co c false)
theorem ar.a8 (h:ar k) (s:Int×Bool×Bool) (c w:Int):ar (b6 k s c w):=by
 unfold b6
 repeat' split
 ·exact h.amk _ _ _
 ·refine h.vY ?_;unfold kO;split<;>rfl
 ·exact h.ZP _ _
 ·exact h.leave _ _ _
theorem ar.bI (h:ar k) (w:Int):ar (eK k w):=by
 have h1:ar (dY k w):=by
  unfold dY
  dsimp only
  split
  ·exact h.nw _
  ·split
   ·exact((h.nw _).a8 _ _ _).nw _
   ·exact(h.nw _).a8 _ _ _
 unfold eK;split
 ·exact ar.vY (h1.nw (rh (dY k w).dk)) (ga:=rl (dY k w).ga) rfl
 ·exact h1
theorem ar.step (h:ar k) (c:Int):ar (aK k c):=by
 unfold aK
 repeat' split
 ·exact h
 ·exact h.pT (Rx k.co c k.now 0).2
 ·exact h.o9 k.on k.ac k.lim _ k.dk
 ·exact h.bI _
 ·exact h.pT (Rx ..).1
 ·exact h.FO _ _
theorem ar.rf (h:ar k) (e:aU):ar (bX k e):=by
 unfold bX
 repeat' split
 ·exact h
 ·exact h.step _
 ·exact h.tick _
 ·exact h.spawn _ _
 ·exact h.Bb _
 ·exact h.irq _
 ·exact h.Bs (h.Bt.queue _)
 ·exact h.Wd _
 ·exact h.Wd _
 ·exact h.request _ _
 ·exact h.Fb _
end
end Go.Dav
namespace Go.Dav
section
variable {k:K}
theorem ZN (co:List cG) (c bB now d:Int):(aJ (ju co c bB now) d).pw=(aJ co d).pw:=by
 unfold ju;split
 ·rename_i h;rw[tf h.1];split
  ·rename_i e;subst e;rfl
  ·rfl
 ·rfl
theorem ZO (co:List cG) (c now d:Int):(aJ (cU co c now) d).pw=(aJ co d).pw:=by
 unfold cU;split
 ·rename_i h;rw[tf h.1];split
  ·rename_i e;subst e;rfl
  ·rfl
 ·rfl
theorem ax.pT (h:ax k) {co:List cG} (hc:∀d,(aJ co d).pw=(aJ k.co d).pw):ax {k with co:=co}:=⟨h.dk,fun c m0 m1=>by simp only;rw[hc];exact h.pw c m0 m1,h.tq,h.tm,h.q,h.t,h.w,h.c,h.i,h.o,h.ci,h.ki⟩
theorem ax.X6 (h:ax k) (c:Int):ax {k with sp:=(iA k.sp c).2}:=by
 unfold iA;split
 ·rename_i hl
  have hne:k.sp.1≠0:=by
   intro e;unfold bc at hl;rw[e,lL,gu]at hl;simp at hl
  refine⟨⟨h.dk.an,h.dk.ao,h.dk.de,h.dk.free,fun r hr=>?_,fun e=>absurd e hne⟩,h.pw,h.tq,h.tm,h.q,h.t,h.w,h.c,h.i,h.o,h.ci,h.ki⟩;have R:=h.dk.bJ r hr;exact⟨R.v,R.over,R.ne,R.ah,R.ab,R.de,R.g0,R.g1,R.jl,R.py⟩
 ·exact h
theorem CP {x:bG} {c a:Int} (h:a∈jb x.now x.t c):∃p,aO x.t a=some p/\p.1=c/\p.2<=x.now:=by
 unfold jb at h;obtain⟨p,h1,h2⟩:=iT.1 ((List.Perm.mem_iff (gX ..)).1 h);simp only[Bool.and_eq_true,decide_eq_true_eq]at h2;exact⟨p,h1,h2.1,h2.2⟩
theorem V5 (h:ax k):k.own 0=none:=by
 cases ho:k.own 0 with
 | none=>rfl
 | some j=>
  obtain⟨_,h2,_⟩:=h.tm.a 0 j ho;obtain⟨p,hp⟩:=Option.isSome_iff_exists.1 h2;have:=xi hp;omega
theorem SH (h:ax k) {c:Int} (he:(cy k.tm c).1=0) (hs0:dS k.tm c=k.tm):ax (du k c):=by
 unfold du
 dsimp only
 rw[he,hs0,V5 h];rw[if_neg (by simp)]
 have e:nN k.own 0=k.own:=by
  funext j;unfold nN;split
  ·rename_i e;rw[e,V5 h]
  ·rfl
 rw[e];exact h
theorem aa2 (h:ax k) (hS:ar k) (c:Int):ax (du k c):=by
 by_cases hin:cE k.tm c
 ·cases hl:jb k.tm.now k.tm.t c with
  | nil=>exact SH h (by unfold cy;rw[if_pos hin,hl]) (by unfold dS;rw[if_pos hin,hl])
  | cons a l=>
   have e1:(cy k.tm c).1=a:=by unfold cy;rw[if_pos hin,hl]
   obtain⟨p,hp,_⟩:=CP (x:=k.tm) (c:=c) (a:=a) (by rw[hl];simp);have e2:dS k.tm c=gM k.tm a:=by unfold dS gM;rw[if_pos hin,hl];simp only;rw[hp]
   have hat:=fun j=>sK k.tm a j;unfold du
   dsimp only
   rw[e1,e2]
   cases ho:k.own a with
   | none=>
    rw[if_neg (by simp)]
    have e:nN k.own a=k.own:=by
     funext j;unfold nN;split
     ·rename_i e;rw[e,ho]
     ·rfl
    rw[e];refine⟨h.dk,h.pw,h.tq,⟨fun t j ho'=>?_,h.tm.b,h.tm.c⟩,h.q,h.t.gone hat,h.w,h.c,h.i,h.o,h.ci,h.ki⟩;obtain⟨h1,h2,h3⟩:=h.tm.a t j ho';refine⟨h1,?_,h3⟩;simp only;rw[hat,if_neg (fun e=>by rw[e,ho]at ho';cases ho')]
    exact h2
   | some id=>
    obtain⟨h1,h2,h3,x,h4,h5,h6⟩:=h.tm.a a id ho;rw[if_pos (by simp;omega)];have:=Ws h hS h4 h5;rw[h6]at this;exact this
 ·exact SH h (by unfold cy;rw[if_neg hin]) (by unfold dS;rw[if_neg hin])
theorem ax.FO (h:ax k) (hS:ar k) (c w:Int):ax (dC k c w):=by
 unfold dC;split
 ·exact⟨h.dk,h.pw,h.tq,h.tm,h.q,h.t,h.w,ahV h.c c,h.i,h.o,(h.ci.Xk c).2.2.1,h.ki⟩
 ·split
  ·exact⟨h.dk,h.pw,h.tq,h.tm,h.q,h.t,h.w,h.c,h.i.same (ZB hS.fk _),h.o,h.ci,h.ki⟩
  ·split
   ·exact aa2 h hS c
   ·split
    ·exact⟨h.dk,h.pw,h.tq,h.tm,h.q,h.t,ahz h.w c,h.c,h.i,h.o,h.ci,h.ki⟩
    ·exact aeB h c
theorem amJ {f:Fl} (h:cK f=3):f.2.2.1=true:=by
 unfold cK at h
 repeat' split at h
 all_goals first
  | omega
  | assumption
theorem VL {pw idle:Bool} {f:Fl} (h:ov pw idle f=3):f.2.2.1=true:=by
 unfold ov at h;split at h
 ·omega
 ·split at h
  ·exact amJ h
  ·split at h<;>omega
theorem ax.step (h:ax k) (hS:ar k) (c:Int):ax (aK k c):=by
 unfold aK;split
 ·exact h
 ·split
  ·exact h.pT fun d=>ZO ..
  ·split
   ·exact h.X6 c
   ·split
    ·rename_i h3;have:=VL h3;unfold cC at this;simp only[Bool.and_eq_true,decide_eq_true_eq]at this;obtain⟨hb,hc⟩:=this
     cases hd:k.dk.1 with
     | none=>unfold dj at hb;rw[hd]at hb;cases hb
     | some r=>
      have e:mu k.dk=r.ah:=by unfold mu;rw[hd]
      rw[<-hc,e];exact aia h hS hd
    ·split
     ·exact h.pT fun d=>ZN ..
     ·exact h.FO hS _ _
theorem ax.Fb (h:ax k) (hS:ar k) (e:aU):ax (fA k e):=by
 unfold fA;split
 ·exact Zv h _
 ·split
  ·exact h
  ·split
   ·exact Wc h _
   ·split
    ·have e1:(oV k.ga e.2.1).2=k.ga.2:=by unfold oV;split<;>rfl
     exact⟨by simp only;rw[e1];exact h.dk,h.pw,h.tq,h.tm,h.q,h.t,h.w,h.c,h.i,h.o,h.ci,h.ki⟩
    ·split
     ·unfold qe;split
      ·exact⟨h.dk,h.pw,h.tq,h.tm,h.q,h.t,h.w,h.c,h.i,h.o,h.ci,h.ki⟩
      ·exact h
     ·split
      ·exact h
      ·split
       ·exact Yy h hS
       ·exact h
theorem ax.rf (h:ax k) (hS:ar k) (e:aU):ax (bX k e):=by
 unfold bX;split
 ·split
  ·exact h
  ·exact h.step hS _
 ·split
  ·exact ahU h _
  ·split
   ·exact af9 h hS _ _
   ·split
    ·rename_i he;exact ahT h hS e he
    ·split
     ·exact ab9 h hS e
     ·split
      ·split
       ·exact⟨h.dk,h.pw,h.tq,h.tm,h.q,h.t,Wo h.w (.inl rfl),h.c,h.i,h.o,h.ci,h.ki⟩
       ·exact We h hS e
      ·split
       ·exact We h hS e
       ·split
        ·exact Wx h hS _ _
        ·exact h.Fb hS e
end
theorem VJ {n:Nat} (hn:1<=n/\n<=64):ar (cu n):=by
 have hm:∀(i:Nat) (j:Int),bd (List.replicate n ((32:Nat),([]:aR))) i j=false:=by
  intro i j
  cases hh:bd (List.replicate n ((32:Nat),([]:aR))) i j with
  | false=>rfl
  | true=>
   have hi:=tJ hh;rw[iS hi]at hh;simp[bR]at hh
 have hwk:∀v,ct (ez n) v=0:=fun v=>by unfold ez;exact re _ _
 refine⟨hn,rfl,by simp[cu],⟨by simp[cu],fun j a b h1 h2=>?_,fun q hq=>?_⟩,rfl,by simp[cu],rfl,rfl,by simp[cu],rfl,by simp[cu],by simp[cu,ez],fun v=>?_,fun v hv=>?_,by simp[cu,iu],by simp[cu,Dav.iU],by simp[cu],by simp[cu]⟩
 ·have:=hm a j;rw[show(cu n).rq=List.replicate n (32,[])from rfl]at h1;rw[this]at h1;cases h1
 ·rw[show(cu n).rq=List.replicate n (32,[])from rfl]at hq;obtain⟨_,rfl⟩:=List.mem_replicate.1 hq;exact⟨ef.new (by omega),rfl⟩
 ·rw[show(cu n).wk=ez n from rfl,hwk];omega
 ·rw[show(cu n).wk=ez n from rfl,hwk]at hv;omega
theorem ad2 {n:Nat} (hn:1<=n/\n<=64):ax (cu n):=by
 have hup:∀c:Int,hs (aQ n) c=decide (0<=c/\c<(n:Int)):=fun c=>by
  rw[tj,Bool.eq_iff_iff];simp only[Bool.and_eq_true,decide_eq_true_eq];omega
 have hwk:∀v,ct (ez n) v=0:=fun v=>by unfold ez;exact re _ _
 have hm:∀(i:Nat) (j:Int),bd (List.replicate n ((32:Nat),([]:aR))) i j=false:=by
  intro i j
  cases hh:bd (List.replicate n ((32:Nat),([]:aR))) i j with
  | false=>rfl
  | true=>
   have hi:=tJ hh;rw[iS hi]at hh;simp[bR]at hh
 refine⟨⟨?_,fun c h=>h,fun c h=>?_,fun _=>⟨rfl,rfl,rfl⟩,fun r hr=>(by cases hr),fun _=>rfl⟩,fun c h0 h1=>?_,⟨fun id c h=>?_,fun id t h=>?_,fun id t h=>?_⟩,⟨fun t id h=>(by cases h),fun id x h=>?_,fun id x h=>?_⟩,fun id c h=>?_,fun t p h=>?_,fun c v h0 h=>?_,fun c v h0 h=>?_,fun m h0 h1 h=>?_,fun c v h0 h=>?_,CI.new,KI.new ?_⟩
 ·intro e;have:=hup 0;rw[show aQ n=0 from e,gu]at this;have:=of_decide_eq_false this.symm;omega
 ·have:=hup c;rw[show hs (aQ n) c=true from h]at this;exact of_decide_eq_true this.symm
 ·show(aJ (List.replicate n ⟨true,false,0,0⟩) c).pw=fH (aQ n) (none,fun _=>false) c;have h1':c<(n:Int):=h1;have hin:cD (List.replicate n (⟨true,false,0,0⟩:cG)) c:=⟨h0,by rw[List.length_replicate];exact h1'⟩;unfold fH aJ;rw[hup,decide_eq_true ⟨h0,h1'⟩,if_pos hin,List.getD_eq_getElem?_getD,List.getElem?_replicate,if_pos (by omega)];rfl
 ·have:=h.2;rw[show(cu n).rq=List.replicate n (32,[])from rfl,hm]at this;cases this
 ·rw[show aB (cu n).th.2 id=none from AV 32 id]at h;cases h
 ·rw[show aB (cu n).th.2 id=none from AV 32 id]at h;cases h
 ·rw[show aB (cu n).th.2 id=none from AV 32 id]at h;cases h
 ·rw[show aB (cu n).th.2 id=none from AV 32 id]at h;cases h
 ·have:=h.2;rw[show(cu n).rq=List.replicate n (32,[])from rfl,hm]at this;cases this
 ·rw[show aO (cu n).tm.t t=none from Be 48 t]at h;cases h
 ·rw[show bV (cu n).wk c=[] by unfold bV;show(ez n).getD (ix c) []=[];unfold ez;rw[List.getD_eq_getElem?_getD,List.getElem?_replicate];split<;>rfl]at h;cases h
 ·rw[show aM (cu n).ca c=[] by unfold aM;show(iu n).2.getD c.toNat []=[];unfold iu;rw[List.getD_eq_getElem?_getD,List.getElem?_replicate];split<;>rfl]at h;cases h
 ·rw[show gq (cu n).ir m=i0 by unfold gq;show(List.replicate 16 i0).getD m.toNat i0=i0;rw[List.getD_eq_getElem?_getD,List.getElem?_replicate];split<;>rfl]at h;cases h
 ·rw[show iY (cu n).st c=[] by unfold iY;show(Dav.iU n 12).2.getD c.toNat []=[];unfold Dav.iU;rw[List.getD_eq_getElem?_getD,List.getElem?_replicate];split<;>rfl]at h;cases h
 ·unfold qj;omega
end Go.Dav
namespace Go.Dav
def sh:K:=cu 2
def sZ:aU:=(3,0,2,3,0)
def s5:aU:=(1,1,0,0,0)
def s6:aU:=(24,1,0,0,0)
def si:K:=bX sh sZ
def sk:K:=bX si s5
def Yi:K:=bX sk s6
def vi:Nat->K
 | 0=>Yi
 | n+1=>bX (vi n) (1,((n%2:Nat):Int),0,0,0)
theorem LB:cO sh sZ=[(1,0,1,0,0)]:=by kernel_rfl
theorem LC:cO si s5=[(2,1,1,0,0)]:=by kernel_rfl
theorem LD:cO sk s6=[(1,0,0,0,0)]:=by kernel_rfl
theorem Yj:(vi 40).on=1:=by kernel_rfl
theorem Ly:ar sh:=VJ ⟨by omega,by omega⟩
theorem Lz:ar si:=Ly.rf sZ
theorem LA:ar sk:=Lz.rf s5
theorem LF:∀n,ar (vi n)
 | 0=>LA.rf s6
 | n+1=>(LF n).rf _
end Go.Dav
namespace Go.Dav
open Go.Proofs
theorem aa.kY {σ τ:Type} {A:Ob σ} {B:Ob τ} [fb:Frame B] {W w:World} {F:Fp} {x:σ×τ} (hTab:Tab W) (h0:¬F 0) (h:aa (au A B) W w F x) :
  ∃F1,A w F1 x.1/\Tab w/\¬F1 0/\∀{υ:Type} (A':Ob υ) w' s',aa A' w w' F1 s'->aa (au A' B) W w' F (s',x.2):=by
 have hp:=hTab.pos;have ht:=h.i7 hTab h0;obtain⟨F',h1,h2,h3⟩:=h;obtain⟨F1,F2,a1,a2,a3,a4⟩:=h1;refine⟨F1,a1,ht,fun hh=>?_,?_⟩
 ·rcases h3 0 ((a3 0).2 (.inl hh))with k|k
  ·exact h0 k
  ·omega
 ·rintro υ A' w' s' ⟨G1,k1,k2,k3⟩;refine⟨fun i=>G1 i∨F2 i,⟨G1,F2,k1,fb.ae a2 k2 (fun i hi hf=>a4 i hf hi),fun _=>Iff.rfl,fun i hi hf=>?_⟩,h2.trans k2 (fun i hi hf=>(h3 i ((a3 i).2 (.inl hf))).elim id (fun h=>absurd h (by omega))),fun i hi=>?_⟩
  ·rcases k3 i hi with h|h
   ·exact a4 i h hf
   ·have:=fb.lt a2 i hf;omega
  ·rcases hi with hi|hi
   ·rcases k3 i hi with h|h
    ·exact h3 i ((a3 i).2 (.inl h))
    ·exact .inr (Nat.le_trans h2.size h)
   ·exact h3 i ((a3 i).2 (.inr hi))
theorem EU (x:Rc):(fW x).length=5:=rfl
theorem aaT (n:Int) {p:Option Addr} {m c:Nat} (w:World):Cx 9 #[I n,.slice p m c] w fun e w'=>e=Z (.bool (decide (1<=n/\n<=9/\m<=300)))/\w'=w:=by
 refine u9 ?_;rw[t9];refine⟨fun g=>⟨fun g2=>⟨?_,rfl⟩,fun g2=>⟨?_,rfl⟩⟩,fun g=>⟨?_,rfl⟩⟩
 ·have:=of_decide_eq_true g;have:=of_decide_eq_true g2;have e:decide ((m:Int)<=300)=decide (1<=n/\n<=9/\m<=300):=decide_eq_decide.2 (by omega);rw[e]
 ·have:=of_decide_eq_false g2;rw[decide_eq_false (by omega)]
 ·have:=of_decide_eq_false g;rw[decide_eq_false (by omega)]
set_option maxRecDepth 100000 in
theorem aaE (x y:Rc) (w:World):∃b,(Op.equal 43 (.agg #[I x.1,I x.2.1,I x.2.2.1,I x.2.2.2.1,I x.2.2.2.2]) (.agg #[I y.1,I y.2.1,I y.2.2.1,I y.2.2.2.1,I y.2.2.2.2])).run Tryz.prog w=.ok b w/\(b=true↔x=y):=by
 have h1:Tryz.prog.stoodInHeld 43=false:=by kernel_rfl
 have h2:vW Tryz.prog (Tryz.prog.fieldsOf 43).toList 0 (fW x)=true:=by kernel_rfl
 have h3:isStr Tryz.prog 43=true:=by kernel_rfl
 have h4:wX (fW x) (fW y)=true:=rfl;have h5:=aft (fW x) h1 h2 h3 (vs:=fW y) h4 w;unfold fW at h5;refine⟨_,h5,?_⟩;simp only[sY,AX,Bool.and_true,Bool.and_eq_true,beq_iff_eq];constructor
 ·rintro⟨h1,h2,h3,h4,h5⟩;exact Prod.ext h1 (Prod.ext h2 (Prod.ext h3 (Prod.ext h4 h5)))
 ·rintro rfl;exact⟨rfl,rfl,rfl,rfl,rfl⟩
theorem Fa {w:World} {p q:Option Addr} {l m:List Rc} {c d:Nat} (h:Cells w p (l.flatMap fW)) (k:Cells w q (m.flatMap fW)) (hb:l.length<=1000) :
  Cx 59 #[.slice p l.length c,.slice q m.length d] w fun e w'=>e=Z (.bool (decide (l=m)))/\af no w w':=by
 refine u59 ?_;rw[t59];refine⟨fun g=>⟨?_,af.refl _ _⟩,fun g=>?_⟩
 ·have:l≠m:=fun e=>by subst e;simp at g
  simp[this]
 ·have hl:l.length=m.length:=by simp at g;omega
  refine⟨bA bf (M:=vb) (σ:=Nat) (fun i=>Dt p l.length c q m.length d i) (fun i w'=>i<=l.length/\l.take i=m.take i/\af no w w') (fun i _=>l.length-i) 0 ⟨rfl,rfl,rfl,trivial⟩ ⟨by omega,by simp,af.refl _ _⟩ ?_⟩;intro i w1 hI;have h1:=hI.1;have h2:=hI.2.1;have hU:=hI.2.2;rw[aho];refine⟨fun hlt w2 q1 q2 q3 q4=>?_,fun hge=>⟨?_,hU⟩⟩
  ·have hi:i<l.length:=by simpa using hlt
   have hi':i<m.length:=by omega
   have hU2:=hU.trans (af.same no q1 q2 q3 q4) (fun _ _ h=>h);obtain⟨a,ha,hc⟩:=(h.no hU2).vm EU (by decide) hi;obtain⟨b,hb,hc'⟩:=(k.no hU2).vm EU (by decide) hi';obtain⟨bb,he,hbb⟩:=aaE l[i] m[i] w2;refine⟨⟨by omega,by omega⟩,a,ha,_,hc 0 _ rfl,_,hc 1 _ rfl,_,hc 2 _ rfl,_,hc 3 _ rfl,_,hc 4 _ rfl,⟨by omega,by omega⟩,b,hb,_,hc' 0 _ rfl,_,hc' 1 _ rfl,_,hc' 2 _ rfl,_,hc' 3 _ rfl,_,hc' 4 _ rfl,bb,he,rfl,fun g2=>⟨?_,hU2⟩,fun g2=>?_⟩
   ·have:l≠m:=fun e=>by
     have:bb=true:=hbb.2 (by simp only[e]);rw[this]at g2;cases g2
    simp[this]
   ·have he:l[i]=m[i]:=hbb.1 (by simpa using g2);exact⟨i+1,⟨rfl,rfl,by rw[aD (by omega)];rfl,trivial⟩,⟨by omega,by rw[List.take_succ_eq_append_getElem hi,List.take_succ_eq_append_getElem hi',h2,he],hU2⟩,by omega⟩
  ·have:i=l.length:=by simp at hge;omega
   subst this;rw[List.take_length,hl,List.take_length]at h2;simp[h2]
theorem pK.cells {p:Option Addr} {c:Nat} {w:World} {F:Fp} {rs:List Rc} (h:pK p c w F rs):Cells w p (rs.flatMap fW):=h.2.cells
theorem tA {b:Nat} {W w:World} {F:Fp} {k:K} (h:aa (KO b) W w F k):Cx 22 #[pt b] w fun e w'=>e=Z (.int .u64 (mi k.on))/\w'=w:=by
 obtain⟨q,hq⟩:=KO.fix h;refine u22 ?_;rw[t22];exact⟨fun g=>(by cases g),fun _=>⟨_,rfl,_,(KF.ai hq).cell rfl,rfl,rfl⟩⟩
theorem vh {w:World} (hTab:Tab w):Cx 10 #[] w fun e w'=>e=Z (.bool true)/\af no w w':=by
 refine u10 ?_;rw[t10];refine⟨(UK 2 ⟨by omega,by omega⟩ w).mono ?_⟩;rintro e w1 ⟨b,F,rfl,hK,hU,hF⟩;have hT1:Tab w1:=hTab.no hU;have h0:¬F 0:=fun hh=>by have:=hF 0 hh;have:=hTab.pos;omega
 refine⟨_,_,rfl,fun _=>⟨fun g=>(by cases g),fun _=>⟨(qd (k:=sh) (e:=sZ) hT1 h0 (aa.same hK) Ly.fe).mono ?_⟩⟩,fun g=>by simp at g⟩;rintro e w2 ⟨pa,ca,rfl,hA⟩;obtain⟨F2,hK2,hT2,h02,k2⟩:=hA.kY hT1 h0;refine⟨_,_,_,rfl,⟨(qd (k:=si) (e:=s5) hT2 h02 (aa.same hK2) Lz.fe).mono ?_⟩⟩;rintro e w3 ⟨pb,cb,rfl,hB⟩;replace hB:=k2 _ _ _ hB;obtain⟨F3,hS3,hT3,h03,k3⟩:=hB.kY hT1 h0;obtain⟨F4,hK4,hT4,h04,k4⟩:=(aa.same hS3).kY hT3 h03;refine⟨_,_,_,rfl,⟨(qd (k:=sk) (e:=s6) hT4 h04 (aa.same hK4) LA.fe).mono ?_⟩⟩;rintro e w4 ⟨pc,cc,rfl,hC⟩;replace hC:=k3 _ _ _ (k4 _ _ _ hC);refine⟨_,_,_,rfl,⟨bA bf (M:=qJ) (σ:=Nat) (fun i=>CQ (some ⟨b,0,none⟩) pa _ ca pb _ cb pc _ cc (i:Int)) (fun i w'=>i<=40/\aa (au (au (au (KO b) (pK pc cc)) (pK pb cb)) (pK pa ca)) w1 w' F (((vi i,cO sk s6),cO si s5),cO sh sZ)) (fun i _=>40-i) 0 ⟨rfl,rfl,rfl,rfl,rfl,trivial⟩ ⟨by omega,hC⟩ ?_⟩⟩;rintro i w5 ⟨hi,hS⟩;rw[agn];refine⟨fun g=>?_,fun g=>aA.mk ?_⟩
 ·have g:=of_decide_eq_true g;obtain⟨F5,hS5,hT5,h05,k5⟩:=hS.kY hT1 h0;obtain⟨F6,hS6,hT6,h06,k6⟩:=(aa.same hS5).kY hT5 h05;obtain⟨F7,hK7,hT7,h07,k7⟩:=(aa.same hS6).kY hT6 h06;have em:Int.tmod (i:Int) 2=((i%2:Nat):Int):=by rw[Int.tmod_eq_emod_of_nonneg (by omega)];omega
  rw[em];refine⟨by omega,⟨(qd (k:=vi i) (e:=(1,((i%2:Nat):Int),0,0,0)) hT7 h07 (aa.same hK7) (LF i).fe).mono ?_⟩⟩;rintro e w6 ⟨pd,cd,rfl,hD⟩;exact⟨_,_,_,rfl,i+1,⟨rfl,rfl,rfl,rfl,by rw[aD (by omega)];rfl,trivial⟩,⟨by omega,k5 _ _ _ (k6 _ _ _ (k7 _ _ _ hD.drop))⟩,by omega⟩
 ·have g:=of_decide_eq_false g;have e40:i=40:=by omega
  subst e40;rw[agm];have hRa:Cells w5 pa ((cO sh sZ).flatMap fW):=by obtain⟨_,hR,_⟩:=hS.right;exact hR.cells
  have hRb:Cells w5 pb ((cO si s5).flatMap fW):=by obtain⟨_,hR,_⟩:=hS.drop.right;exact hR.cells
  have hRc:Cells w5 pc ((cO sk s6).flatMap fW):=by obtain⟨_,hR,_⟩:=hS.drop.drop.right;exact hR.cells
  have hD:=hS.drop.drop.drop
  have hUF:af no w w5:=by
   obtain⟨F',_,hU5,_⟩:=hS;exact hU.trans hU5 (fun i hi hf=>by have:=hF i hf;omega)
  rw[LB]at hRa;rw[LC]at hRb;rw[LD]at hRc;rw[LB,LC,LD];have one:∀{u:World} {r:Rc} {u':World},cH u u' (.cells (List.toArray (fW r)) 43 (0,0))->Cells u' (some ⟨u.heap.size,0,none⟩) ([r].flatMap fW):=fun hN=>(Sl.new hN (sz:=5) (n:=1) rfl (show(1:Nat)<=maxLen by unfold maxLen;omega)).cells;refine⟨fun w6 hN6=>⟨(Fa (l:=[(1,0,1,0,0)]) (m:=[(1,0,1,0,0)]) (hRa.no (hN6.ae no)) (one (r:=(1,0,1,0,0)) hN6) (by simp)).mono ?_⟩⟩;rintro e w7 ⟨rfl,hU7⟩;have hU67:=(hN6.ae no).trans hU7 (fun _ _ h=>h);refine⟨_,rfl,fun _=>⟨fun w8 hN8=>⟨(Fa (l:=[(2,1,1,0,0)]) (m:=[(2,1,1,0,0)]) (hRb.no (hU67.trans (hN8.ae no) (fun _ _ h=>h))) (one (r:=(2,1,1,0,0)) hN8) (by simp)).mono ?_⟩⟩,fun g=>by simp at g⟩;rintro e w9 ⟨rfl,hU9⟩;have hU69:=(hU67.trans (hN8.ae no) (fun _ _ h=>h)).trans hU9 (fun _ _ h=>h);refine⟨_,rfl,fun _=>⟨fun w10 hN10=>⟨(Fa (l:=[(1,0,0,0,0)]) (m:=[(1,0,0,0,0)]) (hRc.no (hU69.trans (hN10.ae no) (fun _ _ h=>h))) (one (r:=(1,0,0,0,0)) hN10) (by simp)).mono ?_⟩⟩,fun g=>by simp at g⟩;rintro e w11 ⟨rfl,hU11⟩;have hUall:=(hU69.trans (hN10.ae no) (fun _ _ h=>h)).trans hU11 (fun _ _ h=>h);refine⟨_,rfl,fun _=>⟨(tA (hD.ae hUall)).mono ?_⟩,fun g=>by simp at g⟩;rintro e w12 ⟨rfl,rfl⟩;refine⟨_,rfl,?_,hUF.trans hUall (fun _ _ h=>h)⟩;rw[Yj];rfl
end Go.Dav
namespace Go.Dav
open Go.Proofs
theorem VC (k:K) (id:Int):(dU k id).n=k.n:=by unfold dU;split<;>rfl
theorem Vz (k:K) (id:Int):(dR k id).n=k.n:=by unfold dR;split<;>rfl
theorem VD:∀(l:List Int) (k:K),(l.foldl dU k).n=k.n
 | [],_=>rfl
 | a::l,k=>(VD l _).trans (VC k a)
theorem VA:∀(l:List Int) (k:K),(l.foldl dR k).n=k.n
 | [],_=>rfl
 | a::l,k=>(VA l _).trans (Vz k a)
theorem VB (c:Int):∀(l:List Int) (k:K),(l.foldl (fun k n=>ey k n c) k).n=k.n
 | [],_=>rfl
 | a::l,k=>(VB c l _).trans rfl
theorem adL (k:K) (n:Int):(lZ k n).n=k.n:=by unfold lZ;split<;>rfl
theorem adI (k:K) (p:Int) (m:BV):(lj k p m).n=k.n:=by unfold lj;split<;>rfl
theorem adH (k:K) (id:Int) (x:Th) (n:Int):(lg k id x n).n=k.n:=by unfold lg;split;split<;>rfl;rfl
theorem adD (k:K) (id:Int) (x:Th):(kF k id x).n=k.n:=by unfold kF;split<;>rfl
theorem adK (k:K) (e:aU):(eI k e).n=k.n:=by
 unfold eI;simp only;split;rfl;split;rfl;split;exact adD _ _ _;split
 ·split
  ·exact VC _ _
  ·rfl
 split;rfl;split;exact adH _ _ _ _;split<;>rfl
theorem adE (k:K) (e:aU):(jW k e).n=k.n:=by
 unfold jW;split;split<;>rfl;split;split<;>rfl;split;split;exact Vz _ _;rfl;split;rfl;split<;>rfl
theorem VE (k:K) (e:aU):(fG k e).n=k.n:=by
 unfold fG;split;rfl;split;unfold np;split<;>rfl;split;rfl;split;rfl;split;rfl;split<;>rfl
theorem adG (k:K) (e:aU):(fA k e).n=k.n:=by
 unfold fA;split;unfold nv;split;split<;>rfl;rfl;split;rfl;split;rfl;split;rfl;split;unfold qe;split<;>rfl;split;rfl;split;unfold jn;split;rfl;split<;>rfl;rfl
theorem VF (k:K) (s:Int×Bool×Bool) (c ah:Int):(b6 k s c ah).n=k.n:=by
 unfold b6;split
 ·unfold jH;split;rfl;split<;>rfl
 split;rfl;split
 ·unfold iJ;split;rfl;split;rfl;simp only;rw[VA,VD]
 ·unfold dy;split;rfl;split;unfold eQ;split<;>rfl;split;rfl;split;rfl;split;rfl;split
  ·unfold jz;split;rfl;split
   ·simp only;rw[VB]
   ·rfl
  split;rfl;split<;>rfl
theorem adM (k:K) (ah:Int):(eK k ah).n=k.n:=by
 have h1:(dY k ah).n=k.n:=by
  unfold dY;simp only;split;rfl;split
  ·exact VF _ _ _ _
  ·exact VF _ _ _ _
 unfold eK;split
 ·exact h1
 ·exact h1
theorem adJ (k:K) (c what:Int):(dC k c what).n=k.n:=by
 unfold dC;split;rfl;split;rfl;split;unfold du;simp only;split<;>rfl;split<;>rfl
theorem wE (k:K) (c:Int):(aK k c).n=k.n:=by
 unfold aK;split;rfl;split;rfl;split;rfl;split;exact adM _ _;split;rfl;exact adJ _ _ _
theorem adF (k:K) (up:Bool) (c:Int):(bP k up c).n=k.n:=by
 unfold bP;split;rfl;split;rfl;split;rfl;split;rfl;split<;>rfl
theorem adC (k:K) (e:aU):(bX k e).n=k.n:=by
 unfold bX;split;split;rfl;exact wE _ _;split;exact adL _ _;split;exact adI _ _ _;split;exact adK _ _;split;exact adE _ _;split;split;rfl;exact VE _ _;split;exact VE _ _;split;exact adF _ _ _;exact adG _ _
end Go.Dav
namespace Go.Dav
section
variable {σ:Type} (step:σ->Int->σ) (St:σ->Bool)
def cV:List Int->σ->σ×Nat×Bool
 | [],s=>(s,0,St s)
 | c::l,s=>if St s then(s,0,true)else((cV l (step s c)).1,(cV l (step s c)).2.1+1,(cV l (step s c)).2.2)
def eH:List Int->σ->σ
 | [],s=>s
 | c::l,s=>eH l (step s c)
def cg (n many:Nat):List Int:=(List.range many).map fun i=>((i%n:Nat):Int)
theorem R8:∀(l:List Int) (s:σ),(cV step St l s).2.1<=l.length
 | [],s=>Nat.zero_le _
 | c::l,s=>by
  unfold cV;split
  ·exact Nat.zero_le _
  ·have:=R8 l (step s c);simp only[List.length_cons];omega
theorem R9:∀(l:List Int) (s:σ),St (cV step St l s).1=(cV step St l s).2.2
 | [],s=>rfl
 | c::l,s=>by
  unfold cV;split
  ·assumption
  ·exact R9 l (step s c)
theorem R7 {I:σ->Prop} {p:Int->Prop} (h:∀s c,I s->p c->I (step s c)):∀{l:List Int} {s:σ},I s->(∀c∈l,p c)->I (cV step St l s).1
 | [],s,hs,_=>hs
 | c::l,s,hs,hl=>by
  unfold cV;split
  ·exact hs
  ·exact R7 h (h s c hs (hl c (by simp))) (fun d hd=>hl d (by simp[hd]))
theorem R6 {l':List Int}:∀{l:List Int} {s:σ},((∀k,k<l.length->St (eH step (l.take k) s)=false)->(cV step St l' (eH step l s)).2.2=true)->(cV step St (l++l') s).2.2=true
 | [],s,h=>h (fun k hk=>absurd hk (by simp))
 | c::l,s,h=>by
  rw[List.cons_append];unfold cV;split
  ·rfl
  ·rename_i hn;refine R6 (l:=l) (s:=step s c) fun hk=>h fun k hkl=>?_
   cases k with
   | zero=>show St s=false;simpa using hn
   | succ k=>exact hk k (by simpa using hkl)
theorem WK:∀(l l':List Int) (s:σ),eH step (l++l') s=eH step l' (eH step l s)
 | [],l',s=>rfl
 | c::l,l',s=>WK l l' (step s c)
theorem aic (n m:Nat):cg n ((m+1)*n)=cg n n++cg n (m*n):=by
 unfold cg;rw[Nat.add_mul,Nat.one_mul,Nat.add_comm,List.range_add,List.map_append,List.map_map];congr 1;apply List.map_congr_left;intro i _;simp[Function.comp]
theorem Bk {n many:Nat} (hn:0<n):∀c∈cg n many,0<=c/\c<n:=by
 intro c hc;unfold cg at hc;obtain⟨i,_,rfl⟩:=List.mem_map.1 hc;have:=Nat.mod_lt i hn;omega
structure l8 (n:Nat) (I:σ->Prop) (Φ:σ->Nat) (Rp:σ->Int->Prop):Prop where
 inv:∀s (c:Int),I s->0<=c/\c<n->I (step s c)
 le:∀s (c:Int),I s->0<=c/\c<n->Φ (step s c)<=Φ s
 ah:∀s,I s->St s=false->∃c:Int,(0<=c/\c<n)/\Rp s c
 keep:∀s (c d:Int),I s->0<=c/\c<n->0<=d/\d<n->Rp s c->d≠c->Φ (step s d)<Φ s∨Rp (step s d) c
 down:∀s (c:Int),I s->0<=c/\c<n->Rp s c->Φ (step s c)<Φ s
variable {step St} {n:Nat} {I:σ->Prop} {Φ:σ->Nat} {Rp:σ->Int->Prop}
theorem l8.WH (h:l8 step St n I Φ Rp):∀{l:List Int} {s:σ},I s->(∀c∈l,0<=c/\c<n)->I (eH step l s)
 | [],s,hs,_=>hs
 | c::l,s,hs,hl=>h.WH (l:=l) (s:=step s c) (h.inv s c hs (hl c (by simp))) (fun d hd=>hl d (by simp[hd]))
theorem l8.Fc (h:l8 step St n I Φ Rp):∀{l:List Int} {s:σ},I s->(∀c∈l,0<=c/\c<n)->Φ (eH step l s)<=Φ s
 | [],s,hs,_=>Nat.le_refl _
 | c::l,s,hs,hl=>Nat.le_trans (h.Fc (l:=l) (s:=step s c) (h.inv s c hs (hl c (by simp))) (fun d hd=>hl d (by simp[hd]))) (h.le s c hs (hl c (by simp)))
theorem l8.WG (h:l8 step St n I Φ Rp) {c:Int} (hc:0<=c/\c<n):∀{l:List Int} {s:σ},I s->(∀c∈l,0<=c/\c<n)->Rp s c->c∈l->Φ (eH step l s)<Φ s
 | d::l,s,hs,hl,hr,hm=>by
  have hd:=hl d (by simp);have hl':∀e∈l,0<=e/\e<n:=fun e he=>hl e (by simp[he]);have hs':=h.inv s d hs hd;by_cases hdc:d=c
  ·subst hdc;exact Nat.lt_of_le_of_lt (h.Fc (l:=l) (s:=step s d) hs' hl') (h.down s d hs hd hr)
  ·have hm':c∈l:=by
    rcases List.mem_cons.1 hm with e|e
    ·exact absurd e.symm hdc
    ·exact e
   rcases h.keep s c d hs hc hd hr hdc with k|k
   ·exact Nat.lt_of_le_of_lt (h.Fc (l:=l) (s:=step s d) hs' hl') k
   ·exact Nat.lt_of_lt_of_le (h.WG (l:=l) (s:=step s d) hc hs' hl' k hm') (h.le s d hs hd)
theorem l8.round (h:l8 step St n I Φ Rp) (hn:0<n) {s:σ} (hs:I s) (hst:St s=false):Φ (eH step (cg n n) s)<Φ s:=by
 obtain⟨c,hc,hr⟩:=h.ah s hs hst;refine h.WG hc hs (Bk hn) hr ?_;unfold cg;refine List.mem_map.2 ⟨c.toNat,List.mem_range.2 (by omega),?_⟩;rw[Nat.mod_eq_of_lt (by omega)];omega
theorem l8.zg (h:l8 step St n I Φ Rp) (hn:0<n):∀{m:Nat} {s:σ},I s->Φ s<m->(cV step St (cg n (m*n)) s).2.2=true
 | m+1,s,hs,hm=>by
  rw[aic];refine R6 step St fun hk=>?_;have h0:St s=false:=hk 0 (by simp[cg];omega);have hlt:=h.round hn hs h0;exact h.zg hn (h.WH hs (Bk hn)) (by omega)
end
end Go.Dav
