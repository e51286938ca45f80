/- Numbers written with a text between them: both functions. Conditions: the numbers are ints, the table of powers of ten reads as the program lays it. -/
import Derived.Test.YtbdlbckeffakjaaGreatDoorMinI
import Derived.Test.YtbdlbckeffakjaaGreatDoorShelf
namespace Go.Proofs.YtbdlbckeffakjaaGreatDoor
set_option maxHeartbeats 4000000
set_option maxRecDepth 100000
open Go.Proofs.Tryz Go.RowKit
theorem vm(B)(a1:0<=B)(e6:B<=10000)(n N)(b0:N=n+1)(f5:N<=4)
 (c9:∀(t:List (List Int)) (a:Option Addr) (c:Nat) (w:World),gU w a n t->cS t n n->Bd B t->Calls prog 215 #[.slice a n c] w λe w'=>e= .returned (Ud (kZ n t))/\Below w.1.size w w')
 (t)(a)(c)(w)(h:gU w a N t)(a2:cS t N N)(a5:Bd B t):
 Calls prog 215 #[.slice a N c] w λe w'=>e= .returned (Ud (kZ N t))/\Below w.1.size w w':=by
 have a3:cS t (n+1) (n+1):=by rw[<-b0];exact a2
 have e3:=aa (λ(j:Nat) (O:j<N) (V:World) (a4:Below w.1.size w V)=>show Calls prog 251 #[.slice a N c,Ud 0,Ud j] V λe w'=>∃D E,e= .returned (.slice D n E)/\gU w' D n (eA t j)/\Below V.1.size V w' from(zF a N c j t V (h.below a4 aQ) a2 (by omega) O).mono (by
  rintro e w' ⟨v,rfl,a6,f0⟩;obtain⟨D,E,rfl,_,c1⟩:=fH a6 (jB a3 (by omega)) (by omega);exact⟨D,E,rfl,c1,f0⟩))
 have Z:=aa (λ(j:Nat) (O:j<N) (V:World) (D:Option Addr) (E:Nat) (a7:gU V D n (eA t j))=>c9 (eA t j) D E V a7 (jB a3 (by omega)) (a5.minor j));have e5:=aa (Ot h a2 (i:=0) (by omega));have c8:=aa (λ(j:Nat) (O:j<N)=>Bg (j:=j) a1 a3 a5 (by omega) (Bh a1 n (eA t j) (jB a3 (by omega)) (a5.minor j)));have e0:=aa (λ(j:Nat) (O:j<N)=>a5.at a2 (i:=0) (j:=j) (by omega) O);have e2:=aa (Ii (n:=N) f5 a1 e6);have c7:=aa (iL a1 (qM a1 n));have d8:=aa (show Bq B N=(N:Int)*(B*Bq B n) from by rw[b0];rfl);obtain⟨f,b2⟩:=aB (α:=Nat->Int) (λj=>rO j*cB t 0 j*kZ n (eA t j));have e1:=aa (λj=>show f j=rO j*cB t 0 j*kZ n (eA t j) by rw[b2]);have c4:=aa (show kZ N t=cd f N by rw[b2,b0];rfl);have c6:=aa (λ(j:Nat) (O:j<=N)=>Kk (f:=f) (n:=N) c7.o (λk f4=>by rw[b2];exact c8.o k f4) O);obtain⟨g0,b7⟩:=aB (kZ N t);rw[<-b7] at c4;rw[<-b7];have g2:((N:Int)==0)=false:=by simp;omega
 have g3:0<N:=(by omega);clear h a2 a3 a5 c9 b7 b2 b0;go_enter func215,ntmps215;go_wp2;go_loopw[3,4,5] (λs g i wr=>∃j:Nat,j<=N/\i= Ud j/\s= Ud (cd f j)/\g= Ud (rO j)/\bv (Below w.1.size w wr)) (λ_ _ i _=>N-(intOf i).toNat);exact⟨0,by omega,rfl,rfl,rfl,aa aZ⟩;obtain⟨j,O,rfl,rfl,rfl,I⟩:=hrel;by_cases U:j<N
 ·have g5:(j:Int)<(N:Int):=by omega
  obtain⟨b,b3,a',c',r,rfl,d3,f1,g4,f6,g6,g7,e7⟩:=e5.o;obtain⟨W,Y,rfl,d4,d5⟩:=f6.at_ (by omega);have b8:=(I.o.cell (p:=⟨b,b3+0,none⟩) d3).trans f1;have b1:=(I.o.cell (p:=⟨W,Y+j,none⟩) d4).trans (d5 j (Ud (mP r j)) (aP (dR (by omega))));rw[<-e7 j] at b1;rw[ea] at b8;have c3:=I;have J:=aa (show cd f (j+1)=cd f j+rO j*cB t 0 j*kZ n (eA t j) from by rw[<-e1.o j];rfl);have b4:=aa (show rO (j+1)= -rO j from rfl);have a8:=c6.o j O;have Q:=c6.o (j+1) U;have a0:=c8.o j U;have d0:=e0.o j U;have b5:=oB j;have a9:=e2.o;rw[d8.o] at a9;rw[J.o] at Q;have b6:B*Bq B n<=(N:Int)*(B*Bq B n):=by
   have:=cQ (show(1:Int)<=(N:Int) by omega) c7.o;rw[Int.one_mul] at this;exact this
  obtain⟨P,d1⟩:=aB (B*Bq B n);rw[<-d1] at a0 a9 b6 a8 Q;obtain⟨g1,d2⟩:=aB ((N:Int)*P);rw[<-d2] at a9 b6 a8 Q;obtain⟨x,d6⟩:=aB (cB t 0 j);obtain⟨d,b9⟩:=aB (kZ n (eA t j));obtain⟨g,a6⟩:=aB (rO j);obtain⟨s,c0⟩:=aB (cd f j);have Z:=aa (λ(c2:Nat) (f3:c2<N) (V:World) (D:Option Addr) (E:Nat) (e:c2=j) (a7:gU V D n (eA t j))=>show Calls prog 215 #[.slice D n E] V λe w'=>e= .returned (Ud d)/\Below V.1.size V w' from by rw[b9];exact Z.o j U V D E a7);have Z:=aa (λ(c2:Nat) (f3:j<N) (V:World) (D:Option Addr) (E:Nat) (a7:gU V D n (eA t j))=>Z.o j U V D E rfl a7);rw[<-d6] at b1 J Q a0 d0;rw[<-b9] at J Q a0;rw[<-a6] at J b4 Q a0 b5;rw[<-c0] at J a8 Q;rw[<-c0,<-a6];have f2: -10000<=g*x/\g*x<=10000:=by rcases b5 with h|h<;>rw[h]<;>omega
  have f7:IntKind.i64.wrap (g*x)=g*x:=au _ (by omega);have f8:IntKind.i64.wrap (g*x*d)=g*x*d:=au _ (by omega);have f9:IntKind.i64.wrap (s+g*x*d)=s+g*x*d:=au _ (by omega);have g8:IntKind.i64.wrap (-g)= -g:=au _ (by omega);clear d6 b9 a6 c0 d1 d2 a8 Q a0 d0 a9 b6 d5 b5 f2;by_cases d7:x=0
  ·subst d7;have J:=aa (show cd f (j+1)=s by rw[J.o];simp);clear f7 f8 f9;go_wp2;go_roundw;exact⟨j+1,by omega,by go_num,by rw[J.o],by rw[b4.o],I⟩;simp[intOf];omega
  ·have g9:(x==0)=false:=by simp[d7]
   have F:Below wr.1.size wr wr.drew:=aZ.drew;have c5:=aa (λ(V:World) (a4:Below wr.1.size wr V)=>show V.cell? ⟨b,b3,none⟩=some (.slice (some ⟨W,Y,none⟩) N c')/\V.cell? ⟨W,Y+j,none⟩=some (Ud x)/\Below wr.1.size wr V from⟨(a4.cell (p:=⟨b,b3,none⟩) (aH d3 I.o.size)).trans b8,(a4.cell (p:=⟨W,Y+j,none⟩) (aH d4 I.o.size)).trans b1,a4⟩);go_wp2;go_region_held3(λV=>V.cell? ⟨b,b3,none⟩=some (.slice (some ⟨W,Y,none⟩) N c')/\V.cell? ⟨W,Y+j,none⟩=some (Ud x)/\Below wr.1.size wr V)
    (first|with_reducible exact c5.o _ F)
    (first|(go_at_call 251;refine(e3.o j U _ (c3.o.trans (F.mono c3.o.size))).mono ?_;rintro e h0 ⟨D,E,rfl,c1,e8⟩;have F:=F.trans (e8.mono F.size))|(go_at_call 215;refine(Z.o j U _ D E c1).mono ?_;rintro e h1 ⟨rfl,e9⟩;have F:=F.trans (e9.mono F.size)))
   have d9:=aa (I.o.trans (F.mono I.o.size));clear F c5 b8 b1;go_wp2;go_roundw;exact⟨j+1,by omega,by go_num,by rw[J.o],by rw[b4.o],d9⟩;simp[intOf];omega
 ·obtain rfl:j=N:=by omega
  have e4:=c4.o;go_wp2;go_ret;exact⟨by rw[e4];rfl,I.o⟩
theorem ld(B:Int)(D:0<=B)(E:B<=10000):∀(n:Nat),n<=4->∀(t:List (List Int)) (a:Option Addr) (c:Nat) (w:World),gU w a n t->cS t n n->Bd B t->
 Calls prog 215 #[.slice a n c] w λe w'=>e= .returned (Ud (kZ n t))/\Below w.1.size w w'
 |0,_,t,a,c,w,h,hR,hb=>by
  go_enter func215,ntmps215;go_wp2;go_ret;exact⟨rfl,aZ⟩
 |n+1,hn,t,a,c,w,h,hR,hbd=>vm B D E n (n+1) rfl hn (ld B D E n (by omega)) t a c w h hR hbd
theorem pV(B)(Y:0<=B)(e1:B<=10000)(n N)(a6:N=n+1)(f3:N<=4)
 (c2:∀(t:List (List Int)) (a:Option Addr) (c:Nat) (w:World),gU w a n t->cS t n n->Bd B t->Calls prog 204 #[.slice a n c] w λe w'=>e= .returned (Ud (kZ n t))/\Below w.1.size w w')
 (t)(a)(c)(w)(h:gU w a N t)(Z:cS t N N)(a1:Bd B t):
 Calls prog 204 #[.slice a N c] w λe w'=>e= .returned (Ud (kZ N t))/\Below w.1.size w w':=by
 have a0:cS t (n+1) (n+1):=by rw[<-a6];exact Z
 have d7:=aa (λ(j:Nat) (I:j<N) (V:World) (e2:Below w.1.size w V)=>show Calls prog 248 #[.slice a N c,Ud 0,Ud j] V λe w'=>∃D E,e= .returned (.slice D n E)/\gU w' D n (eA t j)/\Below V.1.size V w' from(AD a N c j t V (h.below e2 aQ) Z (by omega) I).mono (by
  rintro e w' ⟨v,rfl,a2,e8⟩;obtain⟨D,E,rfl,_,b5⟩:=fH a2 (jB a0 (by omega)) (by omega);exact⟨D,E,rfl,b5,e8⟩))
 have U:=aa (λ(j:Nat) (I:j<N) (V:World) (D:Option Addr) (E:Nat) (a3:gU V D n (eA t j))=>c2 (eA t j) D E V a3 (jB a0 (by omega)) (a1.minor j));have d9:=aa (Ot h Z (i:=0) (by omega));have c1:=aa (λ(j:Nat) (I:j<N)=>Bg (j:=j) Y a0 a1 (by omega) (Bh Y n (eA t j) (jB a0 (by omega)) (a1.minor j)));have d4:=aa (λ(j:Nat) (I:j<N)=>a1.at Z (i:=0) (j:=j) (by omega) I);have d6:=aa (Ii (n:=N) f3 Y e1);have c0:=aa (iL Y (qM Y n));have d2:=aa (show Bq B N=(N:Int)*(B*Bq B n) from by rw[a6];rfl);obtain⟨f,a7⟩:=aB (α:=Nat->Int) (λj=>rO j*cB t 0 j*kZ n (eA t j));have d5:=aa (λj=>show f j=rO j*cB t 0 j*kZ n (eA t j) by rw[a7]);have b8:=aa (show kZ N t=cd f N by rw[a7,a6];rfl);have b9:=aa (λ(j:Nat) (I:j<=N)=>Kk (f:=f) (n:=N) c0.o (λk f2=>by rw[a7];exact c1.o k f2) I);obtain⟨g0,b1⟩:=aB (kZ N t);rw[<-b1] at b8;rw[<-b1];have g2:((N:Int)==0)=false:=by simp;omega
 have g3:0<N:=(by omega);clear h Z a0 a1 c2 b1 a7 a6;obtain⟨b,f8,a',c',r,rfl,e4,c6,g4,f4,g6,g7,e3⟩:=d9.o;have e9:=c6;rw[ea] at e9;go_enter func204,ntmps204;go_wp2;go_loopw[3,4,14] (λs g i wr=>∃j:Nat,j<=N/\i= Ud j/\s= Ud (cd f j)/\g= Ud (rO j)/\bv (Below w.1.size w wr)) (λ_ _ i _=>N-(intOf i).toNat);exact⟨0,by omega,rfl,rfl,rfl,aa aZ⟩;obtain⟨j,I,rfl,rfl,rfl,O⟩:=hrel;by_cases Q:j<N
 ·have g5:(j:Int)<(N:Int):=by omega
  obtain⟨e0,f9,rfl,e5,c7⟩:=f4.at_ (by omega);have c8:=(O.o.cell (p:=⟨b,f8+0,none⟩) e4).trans c6;have b2:=(O.o.cell (p:=⟨e0,f9+j,none⟩) e5).trans (c7 j (Ud (mP r j)) (aP (dR (by omega))));rw[<-e3 j] at b2;rw[ea] at c8;have d3:=O;have F:=aa (show cd f (j+1)=cd f j+rO j*cB t 0 j*kZ n (eA t j) from by rw[<-d5.o j];rfl);have a8:=aa (show rO (j+1)= -rO j from rfl);have a4:=b9.o j I;have J:=b9.o (j+1) Q;have W:=c1.o j Q;have c3:=d4.o j Q;have a9:=oB j;have a5:=d6.o;rw[d2.o] at a5;rw[F.o] at J;have b0:B*Bq B n<=(N:Int)*(B*Bq B n):=by
   have:=cQ (show(1:Int)<=(N:Int) by omega) c0.o;rw[Int.one_mul] at this;exact this
  obtain⟨P,c4⟩:=aB (B*Bq B n);rw[<-c4] at W a5 b0 a4 J;obtain⟨g1,c5⟩:=aB ((N:Int)*P);rw[<-c5] at a5 b0 a4 J;obtain⟨x,c9⟩:=aB (cB t 0 j);obtain⟨d,b3⟩:=aB (kZ n (eA t j));obtain⟨g,a2⟩:=aB (rO j);obtain⟨s,b4⟩:=aB (cd f j);have U:=aa (λ(b6:Nat) (f1:b6<N) (V:World) (D:Option Addr) (E:Nat) (e:b6=j) (a3:gU V D n (eA t j))=>show Calls prog 204 #[.slice D n E] V λe w'=>e= .returned (Ud d)/\Below V.1.size V w' from by rw[b3];exact U.o j Q V D E a3);have U:=aa (λ(b6:Nat) (f1:j<N) (V:World) (D:Option Addr) (E:Nat) (a3:gU V D n (eA t j))=>U.o j Q V D E rfl a3);rw[<-c9] at b2 F J W c3;rw[<-b3] at F J W;rw[<-a2] at F a8 J W a9;rw[<-b4] at F a4 J;rw[<-b4,<-a2];have f0: -10000<=g*x/\g*x<=10000:=by rcases a9 with h|h<;>rw[h]<;>omega
  have f5:IntKind.i64.wrap (g*x)=g*x:=au _ (by omega);have f6:IntKind.i64.wrap (g*x*d)=g*x*d:=au _ (by omega);have f7:IntKind.i64.wrap (s+g*x*d)=s+g*x*d:=au _ (by omega);have g8:IntKind.i64.wrap (-g)= -g:=au _ (by omega);clear c9 b3 a2 b4 c4 c5 a4 J W c3 a5 b0 c7 a9 f0;by_cases d0:x=0
  ·subst d0;have F:=aa (show cd f (j+1)=s by rw[F.o];simp);clear f5 f6 f7;go_wp2;go_roundw;exact⟨j+1,by omega,by go_num,by rw[F.o],by rw[a8.o],O⟩;simp[intOf];omega
  ·have g9:(x==0)=false:=by simp[d0]
   go_wp2_with fail;refine(d7.o j Q _ d3.o).mono ?_;rintro e h0 ⟨D,E,rfl,b5,e6⟩;have b7:=aa (O.o.trans (e6.mono O.o.size));go_wp2_with fail;refine(U.o j Q _ D E b5).mono ?_;rintro e h1 ⟨rfl,e7⟩;have d1:=aa (b7.o.trans (e7.mono b7.o.size));clear c8 b2;go_wp2;go_roundw;exact⟨j+1,by omega,by go_num,by rw[F.o],by rw[a8.o],d1⟩;simp[intOf];omega
 ·obtain rfl:j=N:=by omega
  have d8:=b8.o;go_wp2;go_ret;exact⟨by rw[d8];rfl,O.o⟩
theorem gH(B:Int)(D:0<=B)(E:B<=10000):∀(n:Nat),n<=4->∀(t:List (List Int)) (a:Option Addr) (c:Nat) (w:World),gU w a n t->cS t n n->Bd B t->
 Calls prog 204 #[.slice a n c] w λe w'=>e= .returned (Ud (kZ n t))/\Below w.1.size w w'
 |0,_,t,a,c,w,h,hR,hb=>by
  go_enter func204,ntmps204;go_wp2;go_ret;exact⟨rfl,aZ⟩
 |n+1,hn,t,a,c,w,h,hR,hbd=>pV B D E n (n+1) rfl hn (gH B D E n (by omega)) t a c w h hR hbd
def QD(r:List Int):Bool:=r.all λx=>decide (x<=9)
def kX(M:List (List Int)):Bool:=M.all QD&&dB M&&decide (M.length<=4)
theorem Od{M}{n k:Nat}{r}(E:M.length=n)(h:M[k]? =some r)(D:QD r=false):kX M=false:=by
 unfold kX;rw[fA h D,gO,gO]
theorem fL{M}{n}(h:kX M=true)(O:M.length=n):dB M=true/\(1<=n/\n<=4)/\cS M n n/\∀i j,i<n->j<n->0<=cB M i j/\cB M i j<=9:=by
 unfold kX at h;rw[aC,aC,decide_eq_true_iff] at h;obtain⟨⟨E,F⟩,U⟩:=h;obtain⟨a0,J,Q⟩:=ee F O;refine⟨F,by omega,J,λi j hi Y=>⟨(Q i j).1,?_⟩⟩;obtain⟨r,I,Z,W⟩:=J.get hi;rw[iR I];rw[bm] at E;have D:=E r (aj I);unfold QD at D;rw[bm] at D;have:=dR (xs:=r) (k:=j) (by omega);exact of_decide_eq_true (D _ (aj this))
theorem fu(a)(n c)(M)(w)(h:bZ w a n M):
 Calls prog 23 #[.slice a n c] w λe w'=>e= .returned (.bool (kX M))/\w=w':=by
 have D:=aa (dp h).1;have a8:=aa h;have F:=aa (dx a n c M w h);have c0:=(dp h).2;clear h;go_enter func23,ntmps23;go_wp2;go_loop[3] (λi=>∃k:Nat,k<=n/\i= Ud k/\bv ((M.take k).all QD=true)) (λi=>n-(intOf i).toNat);exact⟨0,by omega,rfl,aa rfl⟩;obtain⟨k,b8,rfl,H⟩:=hrel;by_cases a2:k<n
 ·have b9:(k:Int)<(n:Int):=by omega
  obtain⟨r,O⟩:=aE (l:=M) (n:=k) (by rw[D.o];exact a2);obtain⟨b,c3,a',c',rfl,b3,a9,E⟩:=qn a8.o a2 O;obtain⟨m,J⟩:=aB r.length;rw[<-J] at a9 E;have W:=aa J;have Y:=aa O;have c1:=E.lim;have a7:=aa E;clear J O E;go_wp2;go_loop[4] (λi=>∃j:Nat,j<=m/\i= Ud j/\bv ((r.take j).all (λx=>decide (x<=9))=true)) (λi=>m-(intOf i).toNat);exact⟨0,by omega,rfl,aa rfl⟩;obtain⟨j,b6,rfl,U⟩:=hrel;by_cases b0:j<m
  ·have b7:(j:Int)<(m:Int):=by omega
   obtain⟨x,Q⟩:=aE (l:=r) (n:=j) (by rw[<-W.o];exact b0);obtain⟨b2,c4,rfl,b4,a0⟩:=a7.o.at_ (by omega);have b5:=a0 j _ (aP Q);have Z:=aa Q;clear Q a0;by_cases c2:9<x
   ·have a4:=aa (Od D.o Y.o (fA (p:=λx=>decide (x<=9)) Z.o (decide_eq_false (by omega))));go_wp2;go_ret;exact⟨aG a4.o.symm,rfl⟩
   ·have a5:=aa (fl Z.o U.o (decide_eq_true (show x<=9 by omega)));go_wp2;go_round;exact⟨j+1,by omega,by go_num,a5⟩;simp[intOf];omega
  ·obtain rfl:j=m:=by omega
   have a6:=aa (fl Y.o H.o (show QD r=true from iz U.o (by rw[<-W.o];exact aN _)));go_wp2;go_round;exact⟨k+1,by omega,by go_num,a6⟩;simp[intOf];omega
 ·obtain rfl:k=n:=by omega
  have a3:=aa (show M.all QD=true from iz H.o (by rw[D.o];exact aN _));have I:=aa (show kX M=(dB M&&decide (k<=4)) by unfold kX;rw[a3.o,D.o,dK]);obtain⟨b1,a1⟩:=aB (dB M);rw[<-a1] at I F;clear a1;cases b1 with
  |false=>
   go_wp2_with fail;refine F.o.mono ?_;rintro e w' ⟨rfl,rfl⟩;go_wp2;go_ret;exact⟨aG I.o.symm,rfl⟩
  |true=>
   go_wp2_with fail;refine F.o.mono ?_;rintro e w' ⟨rfl,rfl⟩;go_wp2;go_ret;exact⟨aG (by rw[I.o,dK];congr 1;rw[eq_iff_iff];omega),rfl⟩
theorem gI(a)(n c)(M)(w)(h:bZ w a n M):
 Calls prog 36 #[.slice a n c] w λe w'=>e= .returned (.bool (kX M))/\w=w':=by
 have I:=aa (dp h).1;have a9:=aa h;have D:=aa (fd a n c M w h);have c3:=(dp h).2;have E:=aa (show kX M=(M.all QD&&dB M&&decide (n<=4)) by unfold kX;rw[(dp h).1]);clear h;obtain⟨b4,a2⟩:=aB (dB M);rw[<-a2] at E D;clear a2;go_enter func36,ntmps36;cases b4 with
 |false=>
  go_wp2_with fail;refine D.o.mono ?_;rintro e w' ⟨rfl,rfl⟩;go_wp2;go_ret;exact⟨aG (by rw[E.o,dJ,gO]),rfl⟩
 |true=>
  by_cases a0:n<=4
  ·have b1:¬((4:Int)<(n:Int)):=by omega
   go_wp2_with fail;refine D.o.mono ?_;rintro e w' ⟨rfl,rfl⟩;go_wp2;go_loop[17] (λi=>∃k:Nat,k<=n/\i= Ud k/\bv ((M.take k).all QD=true)) (λi=>n-(intOf i).toNat);exact⟨0,by omega,rfl,aa rfl⟩;obtain⟨k,c1,rfl,H⟩:=hrel;by_cases a3:k<n
   ·have c2:(k:Int)<(n:Int):=by omega
    obtain⟨r,O⟩:=aE (l:=M) (n:=k) (by rw[I.o];exact a3);obtain⟨b,c6,a',c',rfl,b6,b2,F⟩:=qn a9.o a3 O;obtain⟨m,J⟩:=aB r.length;rw[<-J] at b2 F;have W:=aa J;have Y:=aa O;have c4:=F.lim;have a8:=aa F;clear J O F;go_wp2;go_loop[23] (λi=>∃j:Nat,j<=m/\i= Ud j/\bv ((r.take j).all (λx=>decide (x<=9))=true)) (λi=>m-(intOf i).toNat);exact⟨0,by omega,rfl,aa rfl⟩;obtain⟨j,b9,rfl,U⟩:=hrel;by_cases b3:j<m
    ·have c0:(j:Int)<(m:Int):=by omega
     obtain⟨x,Q⟩:=aE (l:=r) (n:=j) (by rw[<-W.o];exact b3);obtain⟨b5,c7,rfl,b7,a1⟩:=a8.o.at_ (by omega);have b8:=a1 j _ (aP Q);have Z:=aa Q;clear Q a1;by_cases c5:9<x
     ·have a5:=aa (Od I.o Y.o (fA (p:=λx=>decide (x<=9)) Z.o (decide_eq_false (by omega))));go_wp2;go_ret;exact⟨aG a5.o.symm,rfl⟩
     ·have a6:=aa (fl Z.o U.o (decide_eq_true (show x<=9 by omega)));go_wp2;go_round;exact⟨j+1,by omega,by go_num,a6⟩;simp[intOf];omega
    ·obtain rfl:j=m:=by omega
     have a7:=aa (fl Y.o H.o (show QD r=true from iz U.o (by rw[<-W.o];exact aN _)));go_wp2;go_round;exact⟨k+1,by omega,by go_num,a7⟩;simp[intOf];omega
   ·obtain rfl:k=n:=by omega
    have a4:=aa (show M.all QD=true from iz H.o (by rw[I.o];exact aN _));have b0:=aa (show kX M=true by rw[E.o,a4.o,decide_eq_true a0];rfl);go_wp2;go_ret;exact⟨aG b0.o.symm,rfl⟩
  ·have b1:(4:Int)<(n:Int):=by omega
   go_wp2_with fail;refine D.o.mono ?_;rintro e w' ⟨rfl,rfl⟩;go_wp2;go_ret;exact⟨aG (by rw[E.o,decide_eq_false a0,dJ]),rfl⟩
def eO(L:List Nat):List Value:=af (L.map λ(i:Nat)=>((i:Nat):Int))
theorem ll{L}{i x:Nat}(h:L[i]? =some x):(eO L)[i]? =some (Ud (x:Int)):=by simp[eO,af,h]
theorem vM(L):(eO L).length=L.length:=by simp[eO,af]
def nP(t:List (List Int))(C:List Nat)(i j:Nat):List Int:=(C.take j).map λx=>cB t i x
def dn(t:List (List Int))(R C:List Nat):List (List Int):=R.map λi=>C.map λj=>cB t i j
def iv(t:List (List Int))(R C:List Nat)(i:Nat):List (List Int):=(R.take i).map λx=>nP t C x C.length
theorem qy(t)(C)(i):nP t C i 0=[]:=by simp[nP]
theorem qz{t}{C}{i j x}(h:C[j]? =some x):af (nP t C i (j+1))=af (nP t C i j)++[Ud (cB t i x)]:=by
 unfold nP;rw[bg,h];simp[af]
theorem sZ{t}{C}{i j}(h:j<=C.length):(nP t C i j).length=j:=by simp[nP];omega
theorem oF(t)(R C):iv t R C 0=[]:=by simp[iv]
theorem oG{t}{R C}{i x}(h:R[i]? =some x):iv t R C (i+1)=iv t R C i++[nP t C x C.length]:=by
 unfold iv;rw[bg,h];simp
theorem qB{t}{R C}{i}(h:i<=R.length):(iv t R C i).length=i:=by simp[iv];omega
theorem qC(t)(R C):iv t R C R.length=dn t R C:=by
 unfold iv dn nP;rw[aM (l:=R) aQ];refine bp λx _=> ?_
 rw[aM (l:=C) aQ]
theorem fc(t)(R C):cS (dn t R C) R.length C.length:=by
 refine⟨by simp[dn],λr h=> ?_⟩;unfold dn at h;obtain⟨i,_,rfl⟩:=bi.1 h;simp
theorem lU{B}{t}{n}{R C}(F:cS t n n)(I:Bd B t)(D:∀i∈R,i<n)(E:∀i∈C,i<n):Bd B (dn t R C):=by
 intro r h x O;unfold dn at h;obtain⟨i,hi,rfl⟩:=bi.1 h;obtain⟨j,J,rfl⟩:=bi.1 O;exact I.at F (D i hi) (E j J)
theorem cz{w:World}{cs}{T}{D}(h:cs.toList=D)(j)(u)(E:D[j]? =some u):(w.alloc (.cells cs T)).cell? ⟨w.1.size,0+j,none⟩=some u:=by
 rw[aW,aL _ _ _ _ rfl,<-E,<-h];simp
def jp(N:Nat)(f:Nat->Nat->Int)(i j:Nat):List (List Int):=(List.range N).map λp=>(List.range N).map λq=>if p<i\/(p=i/\q<j) then f p q else 0
theorem fr(N)(f)(i j):cS (jp N f i j) N N:=by
 refine⟨by simp[jp],λr h=> ?_⟩;unfold jp at h;obtain⟨p,_,rfl⟩:=bi.1 h;simp
theorem ly{N}{f}{i j p q}(D:p<N)(E:q<N):cB (jp N f i j) p q=if p<i\/(p=i/\q<j) then f p q else 0:=by
 have h:(jp N f i j)[p]? =some ((List.range N).map λq=>if p<i\/(p=i/\q<j) then f p q else 0):=by simp[jp,D]
 rw[iR h];exact jq (by simp[E])
theorem xG(N)(f):jp N f 0 0=cO N N:=by
 have I:cS (cO N N) N N:=⟨by simp[cO],λr E=>by unfold cO at E;rw[(List.mem_replicate.1 E).2];simp⟩;refine mF (fr N f 0 0) I λp q h D=> ?_
 rw[ly h D,if_neg (by omega)];have F:(cO N N)[p]? =some (List.replicate N 0):=by simp[cO,h]
 rw[iR F];exact(jq (by simp[D])).symm
theorem AZ{N}{f}{i j}(hi:i<N)(I:j<N){u}(J:f i j=u):put2 (jp N f i j) i j u=jp N f i (j+1):=by
 refine mF ((fr N f i j).put2 i j u) (fr N f i (j+1)) λp q E F=> ?_
 rw[ly E F];by_cases h:i=p/\j=q
 ·obtain⟨rfl,rfl⟩:=h;rw[sY (fr N f i j) hi I,if_pos (by omega),J]
 ·rw[qx _ (by omega),ly E F];by_cases D:p<i\/(p=i/\q<j)
  ·rw[if_pos D,if_pos (by omega)]
  ·rw[if_neg D,if_neg (by omega)]
theorem tD{N}{f}{i j}(I:f i j=0):jp N f i j=jp N f i (j+1):=by
 refine mF (fr N f i j) (fr N f i (j+1)) λp q E F=> ?_
 rw[ly E F,ly E F];by_cases h:p=i/\q=j
 ·obtain⟨rfl,rfl⟩:=h;rw[if_neg (by omega),if_pos (by omega),I]
 ·by_cases D:p<i\/(p=i/\q<j)
  ·rw[if_pos D,if_pos (by omega)]
  ·rw[if_neg D,if_neg (by omega)]
theorem xH(N)(f)(i):jp N f i N=jp N f (i+1) 0:=by
 refine mF (fr N f i N) (fr N f (i+1) 0) λp q D E=> ?_
 rw[ly D E,ly D E];by_cases h:p<i\/(p=i/\q<N)
 ·rw[if_pos h,if_pos (by omega)]
 ·rw[if_neg h,if_neg (by omega)]
def sB(M:List (List Int))(n:Nat)(q d:Int)(k:Nat):List (List Int):=dn (fi M n q d) (List.range k) (List.range k)
def rV(M:List (List Int))(n:Nat)(q d:Int)(k:Nat):Bool:=decide (0<kZ (k+1) (sB M n q d (k+1)))
def jE(M:List (List Int))(n:Nat)(q d:Int):Bool:=(List.range n).all (rV M n q d)
theorem Bo{M}{n k}{q d}(E:k<n)(h:rV M n q d k=false):jE M n q d=false:=by
 unfold jE;rw[lI];intro D;rw[bm] at D;have:=D k (aD.2 E);rw[h] at this;cases this
theorem Bp{M}{n k}{q d}(D:(List.range k).all (rV M n q d)=true)(h:rV M n q d k=true):(List.range (k+1)).all (rV M n q d)=true:=by
 rw[bh,jd,D];simp[h]
theorem uT(M)(n)(q d)(k):cS (sB M n q d k) k k:=by
 have:=fc (fi M n q d) (List.range k) (List.range k);rw[cD] at this;exact this
theorem ma(M)(n)(q d):cS (fi M n q d) n n:=df n n _
theorem Ha{M}{n k}{q d}(h:∀i j,i<n->j<n->0<=cB M i j/\cB M i j<=9)(E:0<=q/\q<=3601)(D:0<=d/\d<=100)(F:k<=n):Bd 10000 (sB M n q d k):=
 lU (ma M n q d) (Pe h E D) (λi hi=>by have:=aD.1 hi;omega) (λi hi=>by have:=aD.1 hi;omega)
theorem Ns(M)(n)(q d):jp n (kO M q d) n 0=fi M n q d:=by
 refine mF (fr n _ n 0) (ma M n q d) λi j hi h=> ?_
 unfold fi;rw[ly hi h,km _ hi h,if_pos (by omega)]
theorem yJ(k):eO (List.range (k+1))=eO (List.range k)++[Ud (k:Int)]:=by
 rw[bh];simp[eO,af]
theorem tY(a e2)(n c m h1)(t)(C)(w)(e3:bZ w a n t)(e6:cS t n n)(b6:aO w e2 m (eO C))(e4:∀i∈C,i<n)(i2:C.length<=9):
 Calls prog 216 #[.slice a n c,.slice e2 m h1] w (cK (dn t C C) w):=by
 have g9:=aa (λ(i:Nat) (hi:i<n)=>fQ e3 e6 hi);have g2:=aa b6;have d0:=aa (λ(i x:Nat) (I:C[i]? =some x)=>e4 x (aj I));have b4:C.length=m:=by have:=b6.len;rw[vM] at this;exact this
 have g7:=aa b6;have g8:=d0;have c4:=b4;have b2:=aa (λ(i x:Nat) (I:C[i]? =some x)=>oG (t:=t) (C:=C) I);have d9:=aa (λ(i:Nat) (hi:i<=m)=>qB (t:=t) (R:=C) (C:=C) (i:=i) (by omega));have d3:=aa (λ(x j y:Nat) (a2:C[j]? =some y)=>qz (t:=t) (i:=x) a2);have b8:=aa (λ(x j:Nat) (h9:j<=m)=>sZ (t:=t) (C:=C) (i:=x) (j:=j) (by omega));have d5:=aa (λx=>qy t C x);have b1:=aa (show iv t C C m=dn t C C by rw[<-c4];exact qC t C C);rw[b4] at b2;have g5:=aa b4;have g4:=aa c4;have e0:=aa (oF t C C);have j5:m<=9:=(by omega);have j3:m<=9:=(by omega);obtain⟨e1,e7⟩:=aB (iv t C C);rw[<-e7] at b2 d9 b1 e0;obtain⟨b3,e5⟩:=aB (nP t C);rw[<-e5] at b2 d3 b8 d5;obtain⟨g1,c2⟩:=aB (dn t C C);rw[<-c2] at b1;rw[<-c2];have d1:=aa (show(w.alloc (.cells #[] 37)).ownsRow w.1.size 37 1 (.slice (some ⟨w.1.size,0,none⟩) 0 0) 0 [] from bd #[] _ rfl aQ (by unfold maxLen;simp));have d8:=aa (show bS 3 (w.alloc (.cells #[] 37)) w.1.size [] (e1 0) from by rw[e0.o];exact bS.nil _ _ _);have c8:=aa (show Below w.1.size w (w.alloc (.cells #[] 37)) from aZ.alloc aQ _);clear e3 e6 b6 e4 b4 c4 e7 e5 c2 i2;go_enter func216,ntmps216;go_wp2;go_loopw[5,6] (λv i wr=>∃(p go a5:Nat) (a9:List Value),p<=m/\i= Ud p/\v= .slice (some ⟨go,0,none⟩) p a5/\bv (wr.ownsRow w.1.size 37 1 (.slice (some ⟨go,0,none⟩) p a5) p a9)/\bv (bS 3 wr w.1.size a9 (e1 p))/\bv (Below w.1.size w wr)) (λ_ i _=>m-(intOf i).toNat);exact⟨0,w.1.size,0,[],by omega,rfl,rfl,d1,d8,c8⟩;clear d1 d8 c8;obtain⟨p,go,a5,a9,j6,rfl,rfl,d2,d7,a3⟩:=hrel;obtain⟨h,i4⟩:=aB wr;subst i4
 by_cases i1:p<m
 ·have j7:(p:Int)<(m:Int):=by omega
  obtain⟨x,I⟩:=aE (l:=C) (n:=p) (by rw[g4.o];exact i1);have i6:=g8.o p x I;obtain⟨O,Q,rfl,f0,f4⟩:=g7.o.at_ (by omega);have f5:=f4 p _ (ll I);have h7:=(a3.o.cell (p:=⟨O,Q+p,none⟩) f0).trans f5;have h0:=aa (b2.o p x I);have c6:=a3.o.size;have e9:Below h.1.size h (h.alloc (.cells #[] 3)):=aZ.alloc aQ _;have J:=aa (show(h.alloc (.cells #[] 3)).ownsRow h.1.size 3 1 (.slice (some ⟨h.1.size,0,none⟩) 0 0) 0 (af (b3 x 0)) from by rw[d5.o];exact bd (w:=h) (base:=h.1.size) (e:=3) #[] [] rfl aQ (by unfold maxLen;simp));have c9:=aa e9;obtain⟨S,h2⟩:=aB h.1.size;have D:=aa h2;clear e9 I f4;go_wp2;go_loopw[7,8] (λv i U=>∃(j E Z:Nat),j<=m/\i= Ud j/\v= .slice (some ⟨E,0,none⟩) j Z/\bv (U.ownsRow S 3 1 (.slice (some ⟨E,0,none⟩) j Z) j (af (b3 x j)))/\bv (Below S h U)) (λ_ i _=>m-(intOf i).toNat);exact⟨0,S,0,by omega,rfl,by rw[D.o],by rw[D.o];exact J,by rw[D.o];exact c9⟩;clear J c9 h7;obtain⟨j,E,Z,h9,rfl,rfl,J,W⟩:=hrel;obtain⟨U,i5⟩:=aB wr;subst i5;by_cases i0:j<m
  ·have j2:(j:Int)<(m:Int):=by omega
   obtain⟨y,a2⟩:=aE (l:=C) (n:=j) (by rw[g5.o];exact i0);have k3:=d0.o j y a2;obtain⟨j1,k4,f6,h6,f3⟩:=g2.o.at_ (by omega);obtain⟨b,c7,a',c',r,rfl,h4,f1,c5,i3,e8⟩:=g9.o x i6;obtain⟨a4,a8,rfl,h5,f2⟩:=c5.at_ (by omega);have j8:r.length=n:=by simpa[af] using c5.len
   have h3:w.1.size<=S:=by rw[D.o];exact c6
   have b0:=aa (λ(V:World) (a0:Below S h V)=>show Below w.1.size w V from a3.o.trans (a0.mono h3));simp only[aI,cA,and_true] at f6;obtain⟨rfl,rfl⟩:=f6;have Y:=aa (λ(V:World) (a0:Below S h V)=>show V.cell? ⟨O,Q+p,none⟩=some (Ud (x:Int))/\V.cell? ⟨O,Q+j,none⟩=some (Ud (y:Int))/\V.cell? ⟨b,c7+x,none⟩=some (.slice (some ⟨a4,a8,none⟩) n c')/\V.cell? ⟨a4,a8+y,none⟩=some (Ud (cB t x y)) from
    ⟨((b0.o V a0).cell (p:=⟨O,Q+p,none⟩) f0).trans f5,((b0.o V a0).cell (p:=⟨O,Q+j,none⟩) h6).trans (f3 j _ (ll a2)),((b0.o V a0).cell (p:=⟨b,c7+x,none⟩) h4).trans f1,((b0.o V a0).cell (p:=⟨a4,a8+y,none⟩) h5).trans ((f2 y (Ud (mP r y)) (aP (dR (by omega)))).trans (by rw[e8 y]))⟩)
   obtain⟨i8,i9,j0,g0⟩:=Y.o _ W.o;have d4:=aa (d3.o x j y a2);obtain⟨u,F⟩:=aB (cB t x y);rw[<-F] at Y d4 g0;have j9:(x:Int)<(n:Int):=(by omega);have k1:(y:Int)<(n:Int):=(by omega);have f8:=W.o.size;have f9:S<=U.1.size:=by rw[D.o];exact f8
   have k0:(0:Int)<=(x:Int):=(by omega);have k2:(0:Int)<=(y:Int):=(by omega);clear F f1 f2 f3 c5 i3 e8 a2;go_wp2;go_region_held3(λV=>V.cell? ⟨O,Q+p,none⟩=some (Ud (x:Int))/\V.cell? ⟨O,Q+j,none⟩=some (Ud (y:Int))/\V.cell? ⟨b,c7+x,none⟩=some (.slice (some ⟨a4,a8,none⟩) n c')/\V.cell? ⟨a4,a8+y,none⟩=some (Ud u)) (first|go_keep|exact Y.o _ c3|exact Y.o _ (W.o.drew)|exact Y.o _ ((W.o.alloc f9 _).drew))
    ((refine kI (by rfl) _ _ 37 (by rfl) S 3 (Ud 0) 8 underlying37 bK rfl E j Z (af (b3 x j)) (ai (J.o.alloc _) aZ.drew) (by rfl) U.1.size 0 1 1 [Ud u] (by rfl) rfl (cz rfl) (by intro u F;simp at F;subst F;rfl) (by omega) (by unfold maxLen;omega) (by simp;omega) ?_;intro c1 c0 i7 a7 a1 f7;have c3:=(W.o.alloc f9 (.cells #[Ud u] 3)).drew.grown a1 (by simp;omega) (by rintro k ⟨⟩;exact(J.o.lt E rfl).1)))
   have b9:=aa a7;have b7:=aa c3;clear a7 a1 f7 c3 i8 i9 j0 g0 Y;go_wp2;go_roundw;exact⟨j+1,c1,c0,by omega,by go_num,rfl,aa (by rw[d4.o];exact b9.o),b7⟩;simp[intOf];omega
  ·obtain rfl:j=m:=by omega
   have a6:Below h.1.size h U:=by rw[<-D.o];exact W.o
   have h8:h.1.size<=E:=by rw[<-D.o];exact(J.o.lt E rfl).1
   have b5:=ai d2.o a6;have f8:=a6.size;have d6:=aa (d7.o.moreAt (r:=b3 x j) (c:=Z) (eU a6) h8 (by rw[b8.o x j aQ];exact aT J.o (by rw[D.o];exact c6)));rw[b8.o x j aQ] at d6;go_wp2_with(first|(at_builtin;go_must(refine aX rfl _ _ 24 rfl w.1.size 37 (.slice none 0 0) 24 underlying24 eS rfl go a5 p a9 (b5.alloc _) rfl U.1.size 0 1 1 [.slice (some ⟨E,0,none⟩) j Z] rfl rfl (cz rfl) (by intro u F;simp at F;subst F;rfl) (by omega) (by unfold maxLen;omega) (by simp;omega) ?_);intro c1 c0 i7 a7 a1 f7 j4));have b9:=aa ((d6.o.below (aZ.alloc aQ _)).kept (b5.alloc _) (by decide) a1);have g6:=aa a7;have b7:=aa (((a3.o.trans (a6.mono c6)).alloc (by omega) _).grown a1 (by simp;omega) (by rintro k ⟨⟩;exact(b5.lt go rfl).1));clear a7 a1 b5 a6;go_roundw;exact⟨p+1,c1,c0,_,by omega,by go_num,rfl,g6,aa (by rw[h0.o];exact b9.o),b7⟩;simp[intOf];omega
 ·obtain rfl:p=m:=by omega
  have g3:=aa (show ct 37 3 h w.1.size (.slice (some ⟨go,0,none⟩) p a5) g1 from⟨a9,by rw[<-b1.o,d9.o p aQ];exact d2.o,by rw[<-b1.o];exact d7.o⟩);go_wp2;go_ret;exact⟨_,rfl,g3.o,a3.o⟩
theorem EC(b)(w):Calls prog 212 #[.bool b] w λe w'=>e= .returned (Ud (if b then 1 else 0))/\w'=w:=
 (Kz b w).mono λe w' ⟨h,D⟩=>⟨h,D.symm⟩
theorem zE(a)(n c)(M)(q d)(w)(c5:bZ w a n M)(g4:cS M n n)(m1:1<=n/\n<=4)(c6:∀i j,i<n->j<n->0<=cB M i j/\cB M i j<=9)(k4:0<=q/\q<=3601)(h0:0<=d/\d<=100):
 Calls prog 211 #[.slice a n c,Ud q,Ud d] w λe w'=>e= .returned (.bool (jE M n q d))/\Below w.1.size w w':=by
 have c4:=aa (λw=>gg n n w (by omega) (by omega));have i7:=aa (λ(i:Nat) (hi:i<n)=>fQ c5 g4 hi);have h9:=aa c6;have l4:=aa (dp c5).1;have f4:=aa (λ(i j:Nat) (hi:i<n) (k1:j<n) (u:Int) (Y:kO M q d i j=u)=>AZ (f:=kO M q d) hi k1 Y);have e9:=aa (λi=>xH n (kO M q d) i);have f8:=aa (xG n (kO M q d));have c2:=aa (λi j=>fr n (kO M q d) i j);have b5:=aa (Ns M n q d);have e6:=aa (λi j=>show kO M q d i j=(if i=j then q else 0)-d*cB M i j from rfl);have c3:=aa (λ(k:Nat) (D:k<n) (d1:rV M n q d k=false)=>Bo D d1);have f5:=aa (λ(k:Nat) (l0:(List.range k).all (rV M n q d)=true) (b2:rV M n q d k=true)=>Bp l0 b2);have b6:=aa (show jE M n q d=(List.range n).all (rV M n q d) from rfl);have c0:=aa (λk=>show rV M n q d k=decide (0<kZ (k+1) (sB M n q d (k+1))) from rfl);have h8:=aa (λ(k:Nat) (D:k<=4) (t:List (List Int)) (a:Option Addr) (c:Nat) (V:World) (a5:gU V a k t) (j7:cS t k k) (a3:Bd 10000 t)=>ld 10000 (by omega) (by omega) k D t a c V a5 j7 a3);have b9:=aa (λ(k:Nat) (D:k<=n) (a Q:Option Addr) (c a7:Nat) (V:World) (a5:bZ V a n (fi M n q d)) (d3:aO V Q k (eO (List.range k)))=>show Calls prog 216 #[.slice a n c,.slice Q k a7] V λe w'=>∃I J,e= .returned (.slice I k J)/\gU w' I k (sB M n q d k)/\Below V.1.size V w' from
  (tY a Q n c k a7 (fi M n q d) (List.range k) V a5 (ma M n q d) d3 (λi hi=>by have:=aD.1 hi;omega) (by rw[cD];omega)).mono (by
   rintro e w' ⟨v,rfl,U,a3⟩;obtain⟨I,J,rfl,_,k7⟩:=fH U (uT M n q d k) (by omega);exact⟨I,J,rfl,k7,a3⟩))
 have e4:=aa (λk=>uT M n q d k);have e3:=aa (λ(k:Nat) (D:k<=n)=>Ha (k:=k) c6 k4 h0 D);have e7:=aa (ma M n q d);unfold cK at c4;obtain⟨R,c7⟩:=aB (jE M n q d);rw[<-c7] at c3 b6;rw[<-c7];obtain⟨P,g3⟩:=aB (rV M n q d);rw[<-g3] at c3 f5 b6 c0;obtain⟨F,g0⟩:=aB (kO M q d);rw[<-g0] at f4 e9 f8 c2 b5 e6;obtain⟨j3,g2⟩:=aB (fi M n q d);rw[<-g2] at b5 b9 e7;obtain⟨f6,g1⟩:=aB (sB M n q d);rw[<-g1] at c0 b9 e4 e3;clear c5 g4 c7 c6 g3 g0 g2 g1;go_enter func211,ntmps211;go_wp2_with fail;refine(c4.o _).mono ?_;rintro e n2 ⟨v,rfl,U,g7⟩;rw[<-f8.o] at U;obtain⟨a2,cv,rfl,_,_⟩:=cT U (c2.o 0 0).len (by omega);have e2:=aa U;have d7:=aa g7;clear U g7 c4;go_wp2;go_loopw[8] (λi wr=>∃p:Nat,p<=n/\i= Ud p/\bv (ct 37 3 wr w.1.size (.slice (some ⟨a2,0,none⟩) n cv) (jp n F p 0))/\bv (Below w.1.size w wr)) (λi _=>n-(intOf i).toNat);exact⟨0,by omega,rfl,e2,d7⟩;clear e2 d7;obtain⟨p,b2,rfl,O,h⟩:=hrel;by_cases b0:p<n
 ·have m3:(p:Int)<(n:Int):=by omega
  obtain⟨b,l1,a',c',r,rfl,a3,k0,W,k5,g6⟩:=i7.o p b0;have i9:=aa W;have h7:=aa g6;have m4:r.length=n:=by simpa[af] using W.len
  clear W g6 k5;go_wp2;go_loopw[9] (λi wr=>∃s:Nat,s<=n/\i= Ud s/\bv (ct 37 3 wr w.1.size (.slice (some ⟨a2,0,none⟩) n cv) (jp n F p s))/\bv (Below w.1.size w wr)) (λi _=>n-(intOf i).toNat);exact⟨0,by omega,rfl,O,h⟩;clear O h;obtain⟨s,m5,rfl,O,h⟩:=hrel;by_cases d5:s<n
  ·have m6:(s:Int)<(n:Int):=by omega
   obtain⟨j4,l2,rfl,j9,g8⟩:=i9.o.at_ (by omega);have l7:=(h.o.cell (p:=⟨b,l1+p,none⟩) a3).trans k0;have g9:=(h.o.cell (p:=⟨j4,l2+s,none⟩) j9).trans (g8 s (Ud (mP r s)) (aP (dR (by omega))));rw[<-h7.o s] at g9;obtain⟨g,J,d6,m9,n0,n1,h6⟩:=en O.o (by decide) (c2.o p s) b0 d5;have h4:=h9.o p s b0 d5;have k2:=th h0 h4;have b7:=aa (e6.o p s);have f3:=aa (λu Y=>f4.o p s b0 d5 u Y);obtain⟨x,h5⟩:=aB (cB M p s);rw[<-h5] at g9 k2 b7;have e5:=aa h6;clear h6 h5 g8 h4;have m8:IntKind.i64.wrap (d*x)=d*x:=au _ (by omega);by_cases a4:p=s
   ·have k3:((p:Int)==(s:Int))=true:=by rw[a4];simp
    have k8:IntKind.i64.wrap (q-d*x)=q-d*x:=au _ (by omega);have b8:=aa (show F p s=q-d*x by rw[b7.o,if_pos a4]);have Z:=aa (e5.o (q-d*x));have c1:=aa (f3.o _ b8.o);clear a4;go_wp2;(refine wp_region_still_tail 22 (by kernel_rfl) (by kernel_rfl) ?_;change wpStill _ _ (World.drew _) (λa'=>wpList _ _ _ _ a' (World.drew _)) _ _;simp only[de,eW,et,eY];repeat still_step);still_call (EC _ _);repeat still_step
    refine wpStill_nil ?_;go_wp2;go_roundw;exact⟨s+1,by omega,by go_num,aa ((by rw[<-c1.o];exact Z.o.1:ct 37 3 _ w.1.size (.slice (some ⟨a2,0,none⟩) n cv) (jp n F p (s+1))).below aZ.drew),aa ((h.o.grown Z.o.2 h.o.size (λk D=>by injection D with D;omega)).drew)⟩;simp[intOf];omega
   ·have k3:((p:Int)==(s:Int))=false:=by simp;omega
    have k8:IntKind.i64.wrap (0-d*x)=0-d*x:=au _ (by omega);have m7:IntKind.i64.wrap (-(d*x))= -(d*x):=au _ (by omega);have b8:=aa (show F p s= -(d*x) by rw[b7.o,if_neg a4];omega);have Z:=aa (e5.o (-(d*x)));have c1:=aa (f3.o _ b8.o);clear a4;go_wp2;(refine wp_region_still_tail 22 (by kernel_rfl) (by kernel_rfl) ?_;change wpStill _ _ (World.drew _) (λa'=>wpList _ _ _ _ a' (World.drew _)) _ _;simp only[de,eW,et,eY];repeat still_step);still_call (EC _ _);repeat still_step
    refine wpStill_nil ?_;go_wp2;go_roundw;exact⟨s+1,by omega,by go_num,aa ((by rw[<-c1.o];exact Z.o.1:ct 37 3 _ w.1.size (.slice (some ⟨a2,0,none⟩) n cv) (jp n F p (s+1))).below aZ.drew),aa ((h.o.grown Z.o.2 h.o.size (λk D=>by injection D with D;omega)).drew)⟩;simp[intOf];omega
  ·obtain rfl:s=n:=by omega
   have i1:=aa (e9.o p);go_wp2;go_roundw;exact⟨p+1,by omega,by go_num,aa (by rw[<-i1.o];exact O.o),h⟩;simp[intOf];omega
 ·obtain rfl:p=n:=by omega
  have a9:ct 37 3 wr w.1.size (.slice (some ⟨a2,0,none⟩) p cv) j3:=by rw[<-b5.o];exact O.o
  have j2:=aa (iH a9 e7.o (by omega) (by omega));obtain⟨E,k9⟩:=aB wr;subst k9;have f1:=aa (bd (w:=E) (base:=E.1.size) (e:=3) #[] (eO (List.range 0)) rfl aQ (by unfold maxLen;simp));have e1:=aa (show Below E.1.size E (E.alloc (.cells #[] 3)) from aZ.alloc aQ _);clear a9 O;go_wp2;go_loopw[10,11] (λv i wr=>∃k a1 a8:Nat,k<=p/\i= Ud k/\v= .slice (some ⟨a1,0,none⟩) k a8/\bv (wr.ownsRow E.1.size 3 1 (.slice (some ⟨a1,0,none⟩) k a8) k (eO (List.range k)))/\bv ((List.range k).all P=true)/\bv (Below E.1.size E wr)) (λ_ i _=>p-(intOf i).toNat);exact⟨0,E.1.size,0,by omega,rfl,rfl,f1,aa rfl,e1⟩;clear f1 e1;obtain⟨k,a1,a8,D,rfl,rfl,f0,f7,b3⟩:=hrel;by_cases d4:k<p
  ·have l9:(k:Int)<(p:Int):=by omega
   have k6:=b3.o.size;have e8:=aa (yJ k);have a9:=(f0.o.lt a1 rfl).1;have f2:=aa (λ(V:World) (j8:Below E.1.size E V) (Q:Option Addr) (a7:Nat) (d3:aO V Q (k+1) (eO (List.range (k+1))))=>b9.o (k+1) d4 _ Q cv a7 V (j2.o.below j8 aQ) d3);have b4:=aa (λ(V:World) (I:Option Addr) (J:Nat) (a5:gU V I (k+1) (f6 (k+1)))=>h8.o (k+1) (by omega) _ I J V a5 (e4.o (k+1)) (e3.o (k+1) d4));have a6:=aa (c0.o k);have j1:=aa (λd1=>c3.o k d4 d1);have j0:=aa (λb2=>f5.o k f7.o b2);obtain⟨d6,d2⟩:=aB (k+1);rw[<-d2] at f2 b4 a6 e8;obtain⟨j5,h1⟩:=aB (kZ d6 (f6 d6));rw[<-h1] at b4 a6;have a0:=aa d2;clear h1 d2;go_wp2_with(first|(at_builtin;go_must(refine aX rfl _ _ 37 rfl E.1.size 3 (Ud 0) 8 underlying37 bK rfl a1 a8 k (eO (List.range k)) (f0.o.alloc _) rfl wr.1.size 0 1 1 [Ud k] rfl rfl (cz rfl) (by intro u Y;simp at Y;subst Y;rfl) (by omega) (by unfold maxLen;omega) (by simp;omega) ?_);intro j6 f9 l3 b1 h2 m2 m0));rw[<-e8.o,<-a0.o] at b1;have c8:=(b3.o.alloc k6 (.cells #[Ud k] 3)).grown h2 (by simp;omega) (by rintro k ⟨⟩;exact a9);rw[<-a0.o];obtain⟨l5,l6,g5,W⟩:=aS b1 (by have:=a0.o;omega);simp only[aJ,true_and] at g5;obtain⟨rfl,rfl⟩:=g5;have i2:=aa b1;have d8:=aa c8;have i5:=aa (f2.o l3 c8 _ f9 W);clear b1 h2 c8 W;refine i5.o.mono ?_;rintro e n3 ⟨I,J,rfl,h3,c9⟩;have d9:=aa (d8.o.trans (c9.mono d8.o.size));have i3:=aa (ai i2.o c9);go_wp2_with fail;refine(b4.o _ I J h3).mono ?_;rintro e n4 ⟨rfl,d0⟩;have e0:=aa (d9.o.trans (d0.mono d9.o.size));have i4:=aa (ai i3.o d0);clear h3 c9 d0;by_cases l8:j5<=0
   ·have i6:=aa (j1.o (by rw[a6.o];exact decide_eq_false (by omega)));go_wp2;go_ret;exact⟨aG i6.o.symm,h.o.trans (e0.o.mono h.o.size)⟩
   ·have i0:=aa (j0.o (by rw[a6.o];exact decide_eq_true (by omega)));go_wp2;go_roundw;exact⟨k+1,j6,f9,by omega,by go_num,by rw[a0.o],by rw[<-a0.o];exact i4,i0,e0⟩;simp[intOf];omega
  ·obtain rfl:k=p:=by omega
   have i8:=aa (b6.o.trans f7.o);go_wp2;go_ret;exact⟨aG i8.o.symm,h.o.trans (b3.o.mono h.o.size)⟩
def wi(M:List (List Int))(n:Nat):Int:=kZ n (fi M n 1 1)
def vw(d:Int):Nat:=if 0<d then 2 else if d<0 then 0 else 1
theorem Kd(d):vw d<=2:=by
 unfold vw;by_cases h:0<d
 ·rw[if_pos h];omega
 ·rw[if_neg h];split<;>omega
theorem sb{M}{n}(D:∀i j,i<n->j<n->0<=cB M i j/\cB M i j<=9):Bd 100 (fi M n 1 1):=by
 intro r h x I;unfold fi el at h;obtain⟨p,E,rfl⟩:=bi.1 h;obtain⟨s,F,rfl⟩:=bi.1 I;have J:=D p s (aD.1 E) (aD.1 F);unfold kO;split<;>omega
theorem BM(a)(n c)(M)(w)(h:bZ w a n M)(I:kX M=true):
 Calls prog 135 #[.slice a n c] w λe w'=>e= .returned (Ud ((vw (wi M n):Nat)-1:Int))/\Below w.1.size w w':=by
 obtain⟨_,a0,Y,F⟩:=fL I (dp h).1;have Q:=aa (fu a n c M w h);rw[I] at Q;have W:=aa (qT a n c M w h Y a0 F);have U:=aa (df n n (kO M 1 1));have O:=aa (λ(D:Option Addr) (E:Nat) (V:World) (a6:gU V D n (fi M n 1 1))=>show Calls prog 215 #[.slice D n E] V λe w'=>e= .returned (Ud (wi M n))/\Below V.1.size V w' from ld 100 (by omega) (by omega) n a0.2 (fi M n 1 1) D E V a6 U.o (sb F));have a1:=aa (λb w=>EC b w);unfold cK at W;obtain⟨d,J⟩:=aB (wi M n);rw[<-J] at O;rw[<-J];clear h I Y F J;go_enter func135,ntmps135;go_wp2_with fail;refine Q.o.mono ?_;rintro e w' ⟨rfl,rfl⟩;go_wp2_with(first|(go_at_call 218;refine W.o.mono ?_;rintro e a9 ⟨a8,rfl,a5,Z⟩;obtain⟨D,E,rfl,_,a7⟩:=fH a5 U.o (by omega))|(go_at_call 215;refine(O.o _ _ _ a7).mono ?_;rintro e b0 ⟨rfl,a4⟩)|(go_at_call 212;refine(a1.o _ _).mono ?_;rintro e b1 ⟨rfl,rfl⟩));all_goals(go_ret;refine⟨cW ?_,Z.trans (a4.mono Z.size)⟩)
 all_goals(unfold vw;by_cases a2:0<d<;>by_cases a3:d<0<;>simp[a2,a3]<;>omega)
theorem Cb(a)(n c)(M)(w)(h:bZ w a n M)(Z:kX M=true):
 Calls prog 123 #[.slice a n c] w λe w'=>e= .returned (Ud ((vw (wi M n):Nat)-1:Int))/\Below w.1.size w w':=by
 obtain⟨_,a3,a2,Y⟩:=fL Z (dp h).1;have a1:=aa (gI a n c M w h);rw[Z] at a1;have W:=aa (sj a n c M 1 1 w h a2 a3 Y (by omega) (by omega));have U:=aa (df n n (kO M 1 1));have Q:=aa (λ(E:Option Addr) (F:Nat) (V:World) (a9:gU V E n (fi M n 1 1))=>show Calls prog 204 #[.slice E n F] V λe w'=>e= .returned (Ud (wi M n))/\Below V.1.size V w' from gH 100 (by omega) (by omega) n a3.2 (fi M n 1 1) E F V a9 U.o (sb Y));unfold cK at W;obtain⟨d,a0⟩:=aB (wi M n);rw[<-a0] at Q;rw[<-a0];go_enter func123,ntmps123;go_wp2_with fail;refine a1.o.mono ?_;rintro e w' ⟨rfl,rfl⟩;by_cases a7:0<d
 ·go_wp2_with(first|(go_at_call 208;refine W.o.mono ?_;rintro e a5 ⟨a4,rfl,J,D⟩;obtain⟨E,F,rfl,_,O⟩:=fH J U.o (by omega))|(go_at_call 204;refine(Q.o _ _ _ O).mono ?_;rintro e a6 ⟨rfl,I⟩));go_ret;exact⟨cW (by unfold vw;rw[if_pos a7];rfl),D.trans (I.mono D.size)⟩
 ·by_cases a8:d<0
  ·go_wp2_with(first|(go_at_call 208;refine W.o.mono ?_;rintro e a5 ⟨a4,rfl,J,D⟩;obtain⟨E,F,rfl,_,O⟩:=fH J U.o (by omega))|(go_at_call 204;refine(Q.o _ _ _ O).mono ?_;rintro e a6 ⟨rfl,I⟩));go_ret;exact⟨cW (by unfold vw;rw[if_neg (by omega),if_pos a8];rfl),D.trans (I.mono D.size)⟩
  ·go_wp2_with(first|(go_at_call 208;refine W.o.mono ?_;rintro e a5 ⟨a4,rfl,J,D⟩;obtain⟨E,F,rfl,_,O⟩:=fH J U.o (by omega))|(go_at_call 204;refine(Q.o _ _ _ O).mono ?_;rintro e a6 ⟨rfl,I⟩));go_ret;exact⟨cW (by unfold vw;rw[if_neg (by omega),if_neg (by omega)];rfl),D.trans (I.mono D.size)⟩
def eJ(s j:Nat):List Nat:=(List.range j).filter λi=>decide (s/2^i%2=1)
theorem Bn{s j}(h:s/2^j%2=1):eJ s (j+1)=eJ s j++[j]:=by simp[eJ,bh,bE,h]
theorem EV{s j}(h:¬s/2^j%2=1):eJ s (j+1)=eJ s j:=by simp[eJ,bh,bE,h]
theorem EW(s j):(eJ s j).length<=j:=by
 have:=bz (λi=>decide (s/2^i%2=1)) (List.range j);rw[cD] at this;exact this
theorem Le{s n i}(h:i∈eJ s n):i<n:=aD.1 (bY.1 h).1
def dY(n k m:Nat):List (List Nat):=((List.range m).map λs=>eJ s n).filter λL=>decide (L.length=k)
theorem CH{n k m}(h:(eJ m n).length=k):dY n k (m+1)=dY n k m++[eJ m n]:=by simp[dY,bh,bE,h]
theorem FV{n k m}(h:¬(eJ m n).length=k):dY n k (m+1)=dY n k m:=by simp[dY,bh,bE,h]
theorem rP(n k m):(dY n k m).length<=m:=by
 have:=bz (λL:List Nat=>decide (L.length=k)) ((List.range m).map λs=>eJ s n);simp only[dc,cD] at this;exact this
theorem nw{n k m}{L}(h:L∈dY n k m):L.length=k/\∀i∈L,i<n:=by
 obtain⟨D,E⟩:=bY.1 h;obtain⟨s,_,rfl⟩:=bi.1 D;exact⟨of_decide_eq_true E,λi hi=>Le hi⟩
def sf(L:List Nat):List Int:=L.map λ(i:Nat)=>((i:Nat):Int)
theorem nF(L):af (sf L)=eO L:=rfl
theorem pT(L):(sf L).length=L.length:=by simp[sf]
def iX(n k m:Nat):List (List Int):=(dY n k m).map sf
theorem CI{n k m}(h:(eJ m n).length=k):iX n k (m+1)=iX n k m++[sf (eJ m n)]:=by
 unfold iX;rw[CH h];simp
theorem FW{n k m}(h:¬(eJ m n).length=k):iX n k (m+1)=iX n k m:=by
 unfold iX;rw[FV h]
theorem FX(n k m):(iX n k m).length<=m:=by
 unfold iX;rw[dc];exact rP n k m
theorem Bm:∀i,i<4->∀n:Nat,n<16->bits BinOp.and IntKind.i64 ((n:Int)/2^i) 1=((n/2^i%2:Nat):Int):=by decide+kernel
theorem Eq:∀n,n<=4->2^n<=16:=by decide
def rl(M:List (List Int))(L:List Nat):Int:=kZ L.length (dn M L L)
def yw(f:List Nat->Int)(A:List (List Nat)):Int:=A.foldl (λs L=>s+f L) 0
theorem NT(f):yw f []=0:=rfl
theorem Cx(f)(A)(L):yw f (A++[L])=yw f A+f L:=by simp[yw,jt]
theorem KI{f:List Nat->Int}{B:Int}:∀(A:List (List Nat)) (s:Int),(∀L∈A,-B<=f L/\f L<=B)->s-(A.length:Int)*B<=A.foldl (λs L=>s+f L) s/\A.foldl (λs L=>s+f L) s<=s+(A.length:Int)*B
 |[],s,_=>by simp
 |L::A,s,h=>by
  have F:=KI A (s+f L) λx D=>h x (ip _ D)
  have E:=h L (kE ..);have e:(((L::A).length:Nat):Int)*B=(A.length:Int)*B+B:=by rw[cZ,Int.natCast_add,Int.add_mul];omega
  rw[e,List.foldl_cons];omega
theorem QH{f}{B}{m}(D:0<=B){A}(h:∀L∈A,-B<=f L/\f L<=B)(F:A.length<=m): -((m:Nat)*B)<=yw f A/\yw f A<=(m:Nat)*B:=by
 have:=KI A 0 h;have E:((A.length:Nat):Int)*B<=(m:Int)*B:=cQ (by omega) D;unfold yw;omega
theorem TK{M}{n}(h:cS M n n)(J:∀i j,i<n->j<n->0<=cB M i j/\cB M i j<=9):Bd 9 M:=by
 intro r D x Q;obtain⟨i,hi⟩:=cf.1 D;obtain⟨j,F⟩:=cf.1 Q;have O:i<n:=by have:=(aw.1 hi).1;rw[h.len] at this;exact this
 have I:j<n:=by have:=(aw.1 F).1;rw[h.row r D] at this;exact this
 have:=J i j O I;rw[iR hi] at this;have E:=dR (xs:=r) (k:=j) (by rw[h.row r D];exact I);rw[F] at E;simp only[aI] at E;omega
theorem Qm:∀n:Nat,n<=4->Bq 9 n<=200000
 |0,_=>by decide
 |1,_=>by decide
 |2,_=>by decide
 |3,_=>by decide
 |4,_=>by decide
theorem KT{M}{n}{L}(O:n<=4)(D:cS M n n)(E:Bd 9 M)(J:L.length<=n)(h:∀i∈L,i<n): -200000<=rl M L/\rl M L<=200000:=by
 have F:=Bh (B:=9) (by omega) L.length (dn M L L) (fc M L L) (lU D E h h);have I:=Qm L.length (by omega);unfold rl;omega
def rZ(M:List (List Int))(n k m:Nat):Int:=yw (rl M) (dY n k m)
theorem MD(M)(n k):rZ M n k 0=0:=rfl
theorem OZ{M}{n k m}(h:(eJ m n).length=k):rZ M n k (m+1)=rZ M n k m+rl M (eJ m n):=by
 unfold rZ;rw[CH h,Cx]
theorem Ro{M}{n k m}(h:¬(eJ m n).length=k):rZ M n k (m+1)=rZ M n k m:=by
 unfold rZ;rw[FV h]
theorem Gn{M}{n k m i}(J:n<=4)(F:cS M n n)(I:Bd 9 M)(Q:k<=n)(U:m<=16): -3200000<=yw (rl M) ((dY n k m).take i)/\yw (rl M) ((dY n k m).take i)<=3200000:=by
 have h:=QH (f:=rl M) (B:=200000) (m:=16) (by omega) (A:=(dY n k m).take i) (λL E=>by
  obtain⟨O,D⟩:=nw (dh E);exact KT J F I (by omega) D) (by rw[cY];have:=rP n k m;omega)
 omega
theorem Ew{M}{n k m}(I:n<=4)(h:cS M n n)(D:Bd 9 M)(E:k<=n)(F:m<=16): -3200000<=rZ M n k m/\rZ M n k m<=3200000:=by
 have:=Gn (i:=(dY n k m).length) I h D E F;rw[gB] at this;exact this
def uH(M:List (List Int))(n k:Nat):Int:=rO k*rZ M n k (2^n)
def ky(M:List (List Int))(n K:Nat):List Int:=(List.range K).map (uH M n)
theorem CS(M)(n K):ky M n (K+1)=ky M n K++[uH M n K]:=by simp[ky,bh]
theorem vF(M)(n K):(ky M n K).length=K:=by simp[ky]
theorem zW{M}{n K k}(h:k<K):(ky M n K)[k]? =some (uH M n k):=by simp[ky,h]
theorem LR:∀n:Nat,n<=4->dY n 0 (2^n)=[[]]
 |0,_=>by decide
 |1,_=>by decide
 |2,_=>by decide
 |3,_=>by decide
 |4,_=>by decide
theorem xe(M){n}(h:n<=4):uH M n 0=1:=by
 unfold uH rZ;rw[LR n h];rfl
theorem QU{M}{n k}(D:n<=4)(E:cS M n n)(F:Bd 9 M)(I:k<=n): -3200000<=uH M n k/\uH M n k<=3200000:=by
 have:=Ew (m:=2^n) D E F I (Eq n D);unfold uH;rcases oB k with h|h<;>rw[h]<;>omega
def mX(p:List Int):Nat->Nat|0=>0|n+1=>if mP p n=0 then mX p n else n+1
theorem oP(p:List Int):∀n,mX p n<=n
 |0=>aN _
 |n+1=>by
  have:=oP p n;unfold mX;split<;>omega
theorem Bi{p}{n}(h:mP p n=0):mX p (n+1)=mX p n:=by rw[mX,if_pos h]
theorem zk{p}{n}(h:¬mP p n=0):mX p (n+1)=n+1:=by rw[mX,if_neg h]
theorem wj{p:List Int}(h:mP p 0≠0):∀n,1<=mX p (n+1)
 |0=>by rw[zk h];omega
 |n+1=>by
  by_cases D:mP p (n+1)=0
  ·rw[Bi D];exact wj h n
  ·rw[zk D];omega
def ia(M:List (List Int))(n:Nat):List Int:=(ky M n (n+1)).take (mX (ky M n (n+1)) (n+1))
theorem LE(M){n}(D:n<=4):1<=(ia M n).length:=by
 have h:mP (ky M n (n+1)) 0≠0:=by
  have:=jq (zW (M:=M) (n:=n) (K:=n+1) (k:=0) (by omega));rw[this,xe M D];decide
 have:=wj h n;have E:=oP (ky M n (n+1)) (n+1);unfold ia;rw[cY,vF];omega
theorem pe(M)(n):(ia M n).length=mX (ky M n (n+1)) (n+1):=by
 have h:=oP (ky M n (n+1)) (n+1);unfold ia;rw[cY,vF];omega
theorem FG{M}{n}(F:n<=4)(h:cS M n n)(D:Bd 9 M):∀x∈ia M n,-3200000<=x/\x<=3200000:=by
 intro x I;have:=dh I;unfold ky at this;obtain⟨k,E,rfl⟩:=bi.1 this;exact QU F h D (by have:=aD.1 E;omega)
theorem yV{w wr:World}{a b c}{T}(h:Below (w.alloc (.cells #[a,b,c] T)).1.size (w.alloc (.cells #[a,b,c] T)) wr):
 (wr.cell? ⟨w.1.size,0,none⟩=some a/\wr.cell? ⟨w.1.size,1,none⟩=some b/\wr.cell? ⟨w.1.size,2,none⟩=some c)/\
 (wr.frozen? ⟨w.1.size,0,none⟩=false/\wr.frozen? ⟨w.1.size,1,none⟩=false/\wr.frozen? ⟨w.1.size,2,none⟩=false)/\w.1.size<wr.1.size:=by
 have E:Below (w.1.size+1) (w.alloc (.cells #[a,b,c] T)) wr:=by simpa using h
 have D:=cV E;have F:=E.size;simp at F;exact⟨⟨(D 0).1,(D 1).1,(D 2).1⟩,⟨(D 0).2,(D 1).2,(D 2).2⟩,by omega⟩
def TU(n i:Nat):UInt8:=if n/2^i%2=1 then 98 else 97
def QO(n:Nat)(i:Nat):List UInt8:=(List.range i).map (TU n)
section
open Go.ChangeShapes Go.WideShapes Go.ChangeAt
open Go.ChangeMaps (open_string shut_string)

end
section
open Go.ChangeShapes Go.WideShapes Go.ChangeAt
open Go.ChangeMaps (open_string shut_string)

end
section
open Go.ChangeShapes Go.WideShapes Go.ChangeAt
open Go.ChangeMaps (open_string shut_string)
structure TW where
  rows : List (List Int)
  l : Int
  ss : List ByteArray
  k : Int
  q : Int
  o : ByteArray
def Qq(W:World)(v:Value)(s:TW):Prop:=
 ∃a c b d,v= .agg #[.slice a s.rows.length c,Ud s.l,.slice b s.ss.length d,Ud s.k,Ud s.q,.string s.o]/\bZ W a s.rows.length s.rows/\aO W b s.ss.length (ap s.ss)
theorem Qq.below{B}{w w'}{v}{s}(h:Qq w v s)(E:Below B w w')(D:w.1.size<=B):Qq w' v s:=by
 obtain⟨a,c,b,d,e,F,I⟩:=h;exact⟨a,c,b,d,e,F.below E D,I.below E D⟩
end
def og(T1 T0:TypeId)(w:World)(base:Nat)(v:Value)(n:Nat)(h:List (List Int)):Prop:=
 h.length=n/\∃xs,w.ownsRow base T1 1 v n xs/\∀(i:Nat) (x:Value) (r:List Int),xs[i]? =some x->h[i]? =some r->w.ownsRow base T0 1 x r.length (af r)
theorem cE{wr:World}{B e s n b}{v}{xs}(h:wr.ownsRow B e s v n xs)(E:b<B)(q)(y):(wr.setCell ⟨b,q,none⟩ y).ownsRow B e s v n xs:=
 h.kept (row:=some b) ⟨rfl,rfl,rfl,by simp,λp F D=>dE _ _ _ _ (λe=>D (by rw[show p=b from e]))⟩ (by
  cases hv:v.ownBlock with
  |none=>exact .inl rfl
  |some q=>
   refine .inr λe=> ?_
   injection e with e
   have:=(h.lt q hv).1;omega)
theorem og.set{T1 T0}{w}{base n b}{v}{E}(h:og T1 T0 w base v n E)(D:b<base)(q)(y):og T1 T0 (w.setCell ⟨b,q,none⟩ y) base v n E:=by
 obtain⟨J,xs,F,I⟩:=h;exact⟨J,xs,cE F D _ _,λi x r Q O=>cE (I i x r Q O) D _ _⟩
theorem og.below{T1 T0}{w w'}{base n}{v}{E}(h:og T1 T0 w base v n E)(D:Below w.1.size w w'):og T1 T0 w' base v n E:=by
 obtain⟨J,xs,F,I⟩:=h;exact⟨J,xs,ai F D,λi x r Q O=>ai (I i x r Q O) D⟩
theorem og.base{T1 T0}{w}{base base' n}{v}{E}(h:og T1 T0 w base v n E)(D:base'<=base):og T1 T0 w base' v n E:=by
 obtain⟨J,xs,F,I⟩:=h;exact⟨J,xs,aT F D,λi x r Q O=>aT (I i x r Q O) D⟩
theorem og.at_{T1 T0}{w}{base n c}{a}{D}(h:og T1 T0 w base (.slice a n c) n D)(U:n<=140737488351232)(W:∀r∈D,r.length*8<=140737488355328):bZ w a n D:=by
 obtain⟨Q,xs,I,J⟩:=h;obtain⟨q,Z,O,F⟩:=aS I U;injection O with e1 _ e2
 subst e1 e2;exact⟨xs,F,by have:=F.len;rw[Q];exact this,λi x r Y E=>aS (J i x r Y E) (by have:=W r (aj E);omega)⟩
theorem Nj{L:List (List UInt8)}{sep y}{j}(h:L[j]? =some y):Lib.join (L.take (j+1)) sep=Lib.join (L.take j) sep++(if j=0 then[] else sep)++y:=by
 match L,j,h with
 |x::r,0,h=>
  simp at h;subst h;simp[Lib.join_one,Lib.join_nil]
 |x::r,j+1,h=>
  have D:r[j]? =some y:=by simpa using h
  rw[de,de,Lib.join_cons,Lib.join_cons,Lib.joinTail_take_succ sep r j y D];simp
theorem EE(L)(sep)(j):(Lib.join (L.take j) sep).length<=(Lib.join L sep).length:=by
 match L,j with
 |[],j=>simp
 |x::r,0=>simp[Lib.join_nil]
 |x::r,j+1=>
  have:=Lib.joinTail_take_le sep r j;rw[de,Lib.join_cons,Lib.join_cons];simp;exact this
theorem yU(a b):bo (a++b)=bo a++bo b:=by simp[bo]
def mW(b:ByteArray):List UInt8:=b.1.1
theorem pC(w:World)(e):(w.alloc (.cells #[] e)).ownsRow w.1.size e 1 (.slice (some ⟨w.1.size,0,none⟩) 0 0) 0 []:=
 ⟨rfl,Or.inr ⟨w.1.size,0,#[],rfl,aN _,by show(w.1.push _)[w.1.size]? =_;simp,aN _,by unfold maxLen;omega,rfl,rfl⟩⟩
theorem EF:(prog.info? 5).map (λi=>(i.zero,i.size,i.bytes))=some (some (.int .u8 0),1,1):=by kernel_rfl
def dv(xs:List ByteArray)(sep:ByteArray):ByteArray:=⟨(Lib.join (xs.map mW) sep.1.1).toArray⟩
theorem ry{P}{wr}{I}{J}{o}{a}{Q}
 (W:o.guard=none)(D x)(t u)(a2:o.op= .call {callee:=.builtin .append,args:=#[D,x],argTypes:=#[t,u]})
 (B)(e)(a5:P.underlying t=some (.slice e))(a6:P.underlying u=some .string)(Z:(P.info? e).map (λi=>(i.zero,i.size,i.bytes))=some (some (.int .u8 0),1,1))
 (v)(xs)(n)(a4:a.eval D=v)(F:wr.ownsRow B e 1 v n (bo xs))(s)(a7:a.eval x= .string s)(a1:n+s.size<=140737488355328)(E:B<=wr.1.size)(w)(U:Below B w wr)
 (O:∀v' h,h.ownsRow B e 1 v' (n+s.size) (bo (xs++s.1.1))->Below B w h->wpList P I Q J (a.put o.dst v') h):wpList P I Q (o::J) a wr:=by
 obtain⟨i,hi,a8,a9,b0⟩:=info_parts Z;refine Lib.wpList_append_own_string wr W D x t u a2 B e i a5 a6 hi a8 a9 b0 v n (bo xs) a4 F s a7 (by unfold maxLen;omega) a1 E ?_;intro v' h a3 Y _;exact O v' h (by rw[yU];exact a3) (U.grown Y E (λk a0=>(F.lt k a0).1))
theorem oA(a)(n c)(xs)(sep)(w)(c2:aO w a n (ap xs))(b9:(Lib.join (xs.map mW) sep.1.1).length<=1000000000):
 Calls prog 54 #[.slice a n c,.string sep] w λe w'=>e= .returned (.string (dv xs sep))/\Below w.1.size w w':=by
 obtain⟨b0,d1,a7⟩:=c2;have a1:=aa (show xs.length=n by simpa[ap] using b0);have b4:=aa a7;have a2:=aa (λj=>EE (xs.map mW) sep.1.1 j);have F:=aa (λ(j:Nat) (y:ByteArray) (h:xs[j]? =some y)=>Nj (L:=xs.map mW) (sep:=sep.1.1) (y:=mW y) (j:=j) (by simp[h]));have a4:=aa (show dv xs sep=⟨(Lib.join ((xs.map mW).take n) sep.1.1).toArray⟩ by unfold dv;rw[aM (by rw[dc,a1.o];exact aN _)]);obtain⟨f,J⟩:=aB (λj=>Lib.join ((xs.map mW).take j) sep.1.1);obtain⟨m,b1⟩:=aB ((Lib.join (xs.map mW) sep.1.1).length);have a3:=aa (λj=>show(f j).length<=m by rw[J,b1];exact a2.o j);have b5:=aa (λj y h=>show f (j+1)=f j++(if j=0 then[] else sep.1.1)++mW y by rw[J];exact F.o j y h);have a5:=aa (show dv xs sep=⟨(f n).toArray⟩ by rw[J];exact a4.o);have b7:bv (f 0=[]):=by show _=_;rw[J];simp[Lib.join_nil]
 have d2:m<=1000000000:=(by omega);obtain⟨d3,Y⟩:=aB (dv xs sep);rw[<-Y] at a5;rw[<-Y];clear b0 a7 a2 F a4 J b1 b9 Y;go_enter func54,ntmps54;go_wp2;go_loopw[5,6] (λv i wr=>∃j:Nat,j<=n/\i= Ud j/\wr.ownsRow w.1.size 5 1 v (f j).length (bo (f j))/\Below w.1.size w wr) (λ_ i _=>n-(intOf i).toNat);exact⟨0,by omega,rfl,by rw[b7.o];exact pC w _,aZ.alloc aQ _⟩;obtain⟨j,c9,rfl,O,E⟩:=hrel;by_cases c0:j<n
 ·obtain⟨b,a0,rfl,U,a8⟩:=b4.o (by omega);obtain⟨y,Q⟩:=aE (l:=xs) (n:=j) (by rw[a1.o];exact c0);have a9:=(E.cell (p:=⟨b,a0+j,none⟩) U).trans (a8 j _ (bJ Q));have D:=b5.o j y Q;have b8:=a3.o (j+1);have c6:=aa Q;have a6:=O;clear a8 Q O;by_cases W:j=0
  ·rw[if_pos W,jc] at D;have c4:(f j).length+y.size<=1000000000:=by
    have:=congrArg List.length D;rw[az] at this;unfold mW at this;rw[bM] at this;omega
   have F:=aa D;clear D;subst W;rw[ea] at a9;go_wp2_with(first|(at_builtin;go_must(refine ry rfl _ _ 22 9 rfl w.1.size 5 underlying22 underlying9 EF _ (f 0) (f 0).length rfl a6 y rfl (by omega) E.size w E ?_);intro v' c5 Z I));go_roundw;exact⟨1,by omega,by go_num,by rw[F.o,az];unfold mW;rw[bM];exact Z,I⟩;simp[intOf];omega
  ·rw[if_neg W] at D;have c4:(f j).length+sep.size+y.size<=1000000000:=by
    have:=congrArg List.length D;rw[az,az] at this;unfold mW at this;rw[bM,bM] at this;omega
   have F:=aa D;have d0:(0:Int)<(j:Int):=(by omega);have b2:True:=trivial;clear D;go_wp2_with(first
    |(at_builtin;have _t:=b2;go_must(refine ry rfl _ _ 22 9 rfl w.1.size 5 underlying22 underlying9 EF _ (f j) (f j).length rfl a6 sep rfl (by omega) E.size w E ?_);intro v' c5 Z I;clear b2;have c8:=(I.cell (p:=⟨b,a0+j,none⟩) U).trans ((E.cell (p:=⟨b,a0+j,none⟩) U).symm.trans a9);have b3:True:=trivial)
    |(at_builtin;have _t:=b3;go_must(refine ry rfl _ _ 22 9 rfl w.1.size 5 underlying22 underlying9 EF _ (f j++sep.1.1) ((f j).length+sep.size) rfl Z y rfl (by omega) I.size w I ?_);intro d4 d5 c1 b6;clear b3))
   go_roundw;exact⟨j+1,by omega,by go_num,by rw[F.o,az,az];unfold mW;rw[bM,bM];exact c1,b6⟩;simp[intOf];omega
 ·obtain rfl:j=n:=by omega
  have b8:=a3.o j;obtain⟨c7,cr,rfl,c3⟩:=aS O (by omega);clear O;go_wp2_with(with_reducible refine fT rfl _ 22 9 5 rfl underlying22 underlying5 underlying9 _ (f j).length _ (f j) rfl c3 ?_);go_ret;exact⟨sX a5.o.symm,E⟩
theorem qJ(B g c n)(xs)(sep)(w)(I:xs.length=n)(h:w.ownsRow B 9 1 (.slice (some ⟨g,0,none⟩) n c) n (ap xs))(a0:n<=1000000000)(F:(Lib.join (xs.map mW) sep.1.1).length<=1000000000):
 Calls prog 93 #[.slice (some ⟨g,0,none⟩) n c,.string sep] w λe w'=>e= .returned (.string (dv xs sep))/\Below w.1.size w w':=by
 subst I;obtain⟨J,W,Y,E,O,Q,U⟩:=gG h;exact Tryz.strings_Join g 0 c xs sep w (λj x D=>by
  have Z:=(aw.1 D).1;rw[aW,h.cellAt j (by omega)];exact bJ D) (h.lt g rfl).2 (by omega) E (by exact bn F (by omega))
def TE(k:Nat):List UInt8:=if k=0 then[] else Lib.decDigits k
theorem Db:∀(k:Nat) (out:ByteArray),kA k out=⟨(TE k++out.1.1).toArray⟩:=by
 intro k;induction k using Nat.strongRecOn with
 |_ k ih=>
  intro out;by_cases D:k=0
  ·subst D;rw[kA,dif_pos rfl];simp[TE]
  ·rw[kA,dif_neg D,ih (k/10) (by omega)];have e:(ByteArray.mk #[sD k]++out).1.1=sD k::out.1.1:=(by simp);rw[e];congr 2;unfold TE;rw[if_neg D];by_cases h:k<10
   ·rw[if_pos (by omega),Lib.decDigits,dif_pos h];unfold sD;rw[gu h];rfl
   ·rw[if_neg (by omega)];conv=>rhs;rw[Lib.decDigits,dif_neg h]
    unfold sD;simp
theorem RJ{k}(h:k≠0):kA k ByteArray.empty=⟨(Lib.itoa (k:Int)).toArray⟩:=by
 rw[Db];unfold TE Lib.itoa;rw[if_neg h,if_neg (by omega),eZ];simp
theorem RK{k}(h:k≠0):(ByteArray.mk #[45])++kA k ByteArray.empty=⟨(Lib.itoa (-(k:Int))).toArray⟩:=by
 rw[Db];unfold TE Lib.itoa;rw[if_neg h,if_pos (by omega),Int.natAbs_neg,Int.natAbs_natCast];simp;rfl
def cF(n:Int):ByteArray:=⟨(Lib.itoa n).toArray⟩
theorem xC{j s k}(h:j*2^s<=k):j/10*2^(s+1)<=k:=by
 rw[ft,nj (2^s) 2,<-Nat.mul_assoc];exact bn (eK _ (by omega)) h
theorem Dx{j s k}(h:j*2^s<=k)(D:0<j)(I:k<=9223372036854775808):s<=64:=by
 refine Nat.le_of_lt_succ ((Nat.pow_lt_pow_iff_right (a:=2) (by omega)).1 ?_);have E:2^s<=j*2^s:=Nat.le_mul_of_pos_left _ D;have F:(9223372036854775808:Nat)<2^65:=(by decide);omega
theorem GA{j}{out}(h:0<j):kA j out=kA (j/10) (⟨#[sD j]⟩++out):=by rw[kA,dif_neg (by omega)]
theorem uw(k:Nat)(w)(Q:k<=9223372036854775807)(U:0<k):
 Calls prog 50 #[Ud k] w λe w'=>e= .returned (.string (cF k))/\Below w.1.size w w':=by
 have W:((k:Int)==0)=false:=by rw[beq_eq_false_iff_ne];omega
 have Y:¬((k:Int)<0):=(by omega);have F:=aa (RJ (k:=k) (by omega));go_enter func50,ntmps50;go_wp2;go_loopw[0,4,5] (λm o _ wr=>∃(j:Nat) (out:ByteArray),m= Ud j/\o= .string out/\j<=k/\bv (j*2^out.size<=k)/\Below w.1.size w wr/\bv (kA k ByteArray.empty=kA j out)) (λm _ _ _=>(intOf m).toNat);exact⟨k,ByteArray.empty,rfl,rfl,by omega,by show _<=_;simp,aZ,rfl⟩;obtain⟨j,out,rfl,rfl,O,D,h,H⟩:=hrel;by_cases E:0<j
 ·have a0:=Dx D.o E (by omega);have I:=aa (GA (out:=out) E);have J:((j:Int) !=0)=true:=by rw[bne_iff_ne];omega
  have Z:¬((j:Int)%10<0):=(by omega);go_wp2_with(with_reducible refine fT rfl _ 22 9 5 rfl underlying22 underlying5 underlying9 _ 1 1 [sD j] rfl (oC _ _ _ _ (Hp j)) ?_);go_roundw;exact⟨j/10,_,by go_num,rfl,by omega,by(show _<=_;rw[aK,show(ByteArray.mk #[sD j]).size=1 from rfl,fX];exact xC D.o),h.alloc h.size _,by show _=_;rw[H.o,I.o]⟩;simp[intOf];omega
 ·obtain rfl:j=0:=by omega
  go_wp2;go_ret;exact⟨sX (by rw[cF,<-F.o,H.o,kA,dif_pos rfl]),h⟩
theorem ux(k:Nat)(w)(b1:k<=9223372036854775808)(b2:0<k):
 Calls prog 50 #[Ud (-(k:Int))] w λe w'=>e= .returned (.string (cF (-(k:Int))))/\Below w.1.size w w':=by
 obtain⟨v,F⟩:=aB (α:=Int) (-(k:Int));have b3:(v==0)=false:=by rw[beq_eq_false_iff_ne];omega
 have b4:v<0:=(by omega);have W:=aa (RK (k:=k) (by omega));rw[<-F] at W;rw[<-F];have a1:=aa F;clear F;go_enter func50,ntmps50;go_wp2;go_loopw[0,4,5] (λm o _ wr=>∃(j:Nat) (u:Int) (out:ByteArray),m= Ud u/\o= .string out/\bv (u= -(j:Int))/\j<=k/\out.size<=65/\bv (j*2^out.size<=k)/\Below w.1.size w wr/\bv (kA k ByteArray.empty=kA j out)) (λm _ _ _=>(intOf m).natAbs);exact⟨k,v,ByteArray.empty,rfl,rfl,a1,by omega,by simp,by show _<=_;simp,aZ,rfl⟩;obtain⟨j,u,out,rfl,rfl,J,b0,a5,I,h,H⟩:=hrel;have D:=J.o;by_cases Z:0<j
 ·have b8:=Dx I.o Z (by omega);have Y:=aa (GA (out:=out) Z);have a9:(u !=0)=true:=by rw[bne_iff_ne];omega
  have c1: -9223372036854775808<=u:=(by omega);have c2:u<0:=(by omega);have a2:=Hp j;obtain⟨e,O⟩:=aB (α:=Int) (u.tmod 10);obtain⟨q,Q⟩:=aB (α:=Int) (u.tdiv 10);have a3:e= -((j%10:Nat):Int):=by rw[O,D,Int.neg_tmod];rfl
  have a0:q= -((j/10:Nat):Int):=by rw[Q,D,Int.neg_tdiv];rfl
  have b9:=O.symm;have c0:=Q.symm;have a7: -9<=e:=(by omega);have a6:e<=0:=(by omega);have E:=aa a0;have U:=aa (show((sD j).toNat:Int)=48-e by omega);have b6: -9223372036854775808<=q:=(by omega);have b7:q<=0:=(by omega);clear D O Q a3 a0 a2;by_cases a4:e=0
  ·subst a4;go_wp2_with(refine fT rfl _ 22 9 5 rfl underlying22 underlying5 underlying9 _ 1 1 [sD j] rfl (oC _ _ _ _ (by rw[U.o];rfl)) ?_);go_roundw;exact⟨j/10,q,_,rfl,rfl,E,by omega,by(rw[aK,show(ByteArray.mk #[sD j]).size=1 from rfl];omega),by(show _<=_;rw[aK,show(ByteArray.mk #[sD j]).size=1 from rfl,fX];exact xC I.o),h.alloc h.size _,by show _=_;rw[H.o,Y.o]⟩;have:=E.o;have:=J.o;simp[intOf];omega
  ·have a8:e<0:=by omega
   go_wp2_with(refine fT rfl _ 22 9 5 rfl underlying22 underlying5 underlying9 _ 1 1 [sD j] rfl (oC _ _ _ _ (by rw[U.o];omega)) ?_);go_roundw;exact⟨j/10,q,_,rfl,rfl,E,by omega,by(rw[aK,show(ByteArray.mk #[sD j]).size=1 from rfl];omega),by(show _<=_;rw[aK,show(ByteArray.mk #[sD j]).size=1 from rfl,fX];exact xC I.o),h.alloc h.size _,by show _=_;rw[H.o,Y.o]⟩;have:=E.o;have:=J.o;simp[intOf];omega
 ·obtain rfl:j=0:=by omega
  obtain rfl:u=0:=by rw[D];rfl
  clear D;have b5:(ByteArray.mk #[45]).size=1:=rfl;go_wp2;go_ret;exact⟨sX (by rw[cF,<-W.o,H.o,kA,dif_pos rfl]),h⟩
theorem dy(n)(w)(E: -9223372036854775808<=n)(F:n<=9223372036854775807):
 Calls prog 50 #[Ud n] w λe w'=>e= .returned (.string (cF n))/\Below w.1.size w w':=by
 rcases Int.lt_trichotomy n 0 with h|h|h
 ·obtain⟨k,rfl⟩:∃k:Nat,n= -(k:Int):=⟨n.natAbs,by omega⟩;exact ux k w (by omega) (by omega)
 ·subst h;have D:cF 0=⟨#[48]⟩:=by
   unfold cF Lib.itoa;rw[if_neg (by omega)];show ByteArray.mk (Lib.decDigits 0).toArray=_
   rw[Lib.decDigits,dif_pos (by omega)];rfl
  rw[D];go_enter func50,ntmps50;go_wp2;go_ret;exact⟨rfl,aZ⟩
 ·obtain⟨k,rfl⟩:∃k:Nat,n=(k:Int):=⟨n.toNat,by omega⟩;exact uw k w (by omega) (by omega)
theorem ON:∀(k u:Nat),1<=k->u<10^k->Lib.nDigits u<=k
 |0,_,h,_=>by omega
 |k+1,u,_,h=>by
  by_cases E:u<10
  ·rw[Lib.nDigits_small E];omega
  ·rw[Lib.nDigits_big E];have F:1<=k:=by
    rcases dN k with D|D
    ·subst D;simp at h;omega
    ·exact D
   have:=ON k (u/10) F (by rw[ft] at h;exact fB (by rw[nj];exact h));omega
def Bx(x:Int):Prop:= -9223372036854775808<=x/\x<=9223372036854775807
theorem zh{x}(h:Bx x):(Lib.itoa x).length<=21:=by
 unfold Lib.itoa;unfold Bx at h;split
 ·have:=ON 20 x.natAbs (by omega) (by have:(10^20:Nat)=100000000000000000000:=by decide
                                      omega)
  rw[cZ,Lib.decDigits_length];omega
 ·have:=ON 20 x.toNat (by omega) (by have:(10^20:Nat)=100000000000000000000:=by decide
                                     omega)
  rw[Lib.decDigits_length];omega
theorem Mr{xs:List Int}(h:∀x∈xs,Bx x):Lib.lens ((xs.map cF).map mW)<=21*xs.length:=by
 induction xs with
 |nil=>simp[Lib.lens]
 |cons x xs ih=>
  have F:=zh (h x (by simp));have D:=ih λy E=>h y (by simp[E])
  simp only[Lib.lens,ej,jh,cZ] at D⊢;have I:(mW (cF x)).length=(Lib.itoa x).length:=by simp[mW,cF]
  omega
theorem ts(L)(sep):(Lib.join L sep).length<=sep.length*L.length+Lib.lens L:=by
 match L with
 |[]=>simp[Lib.join_nil]
 |x::r=>
  rw[Lib.join_cons,az,Lib.joinTail_length];have:sep.length*(r.length+1)=sep.length*r.length+sep.length:=Nat.mul_succ _ _;simp only[Lib.lens,ej,jh,cZ];omega
theorem lX{xs:List Int}(h:∀x∈xs,Bx x){sep:ByteArray}(E:sep.size=1):(Lib.join ((xs.map cF).map mW) sep.1.1).length<=22*xs.length:=by
 have D:=ts ((xs.map cF).map mW) sep.1.1;have F:=Mr h;rw[bM,E] at D;rw[dc,dc] at D;omega
def PM(xs:List Int)(j:Nat):List ByteArray:=(xs.take j).map cF
theorem Hj{xs}{j}{x}(h:xs[j]? =some x):ap (PM xs (j+1))=ap (PM xs j)++[.string (cF x)]:=by
 simp[PM,ap,bg,h]
def qP(w:World):Prop:=Lib.TabIs prog w "internal/strconv.uint64pow10" .u64 Lib.pow10Tab
theorem gt{B}{w w'}(h:qP w)(F:Below B w w')(E:w.1.size<=B):qP w':=by
 obtain⟨g,D⟩:∃g,prog.globalNamed "internal/strconv.uint64pow10" =some g:=Option.isSome_iff_exists.1 (by kernel_rfl);have I:=Lib.TabIs.cell h D 0 (by rw[Lib.pow10Tab_length];omega);exact var?_below F D (aH (kU w _ I) E) h
theorem Ie(w)(k)(os):Below w.1.size w (Sort.grow (w.drewN k) os):=
 ⟨rfl,rfl,rfl,by simp[Sort.grow],λk h=>by simp[Sort.grow,Array.getElem?_append_left h]⟩
theorem dU(n)(w)(h:Bx n)(F:qP w):
 Calls prog 42 #[Ud n] w λe w'=>e= .returned (.string (cF n))/\Below w.1.size w w':=by
 have E:=aa (Tryz.strconv_Itoa n h.1 h.2 w F);unfold cF;obtain⟨r,D⟩:=aB (α:=ByteArray) (⟨(Lib.itoa n).toArray⟩);rw[<-D] at E;rw[<-D];clear D F h;go_enter func42,ntmps42;go_wp2_with fail;refine E.o.mono ?_;rintro e J ⟨rfl,k,os,rfl⟩;have I:=Ie w k os;generalize Sort.grow (w.drewN k) os=w2 at*;go_wp2;go_ret;exact⟨rfl,I⟩
theorem wR(a)(n c)(xs)(sep)(w)(W:aO w a n (af xs))(hi:∀x∈xs,Bx x)(a7:sep.size=1)(d4:n<=10000000):
 Calls prog 92 #[.slice a n c,.string sep] w λe w'=>e= .returned (.string (dv (xs.map cF) sep))/\Below w.1.size w w':=by
 have a5:=W.len;have J:=aa (show xs.length=n by simpa[af] using a5);have b0:=aa W.at_;have Z:=aa (λ(a:Option Addr) (c:Nat) (w:World) (h:aO w a n (ap (xs.map cF)))=>oA a n c (xs.map cF) sep w h (bn (lX hi a7) (by have:=J.o;omega)));have b1:=aa (show PM xs n=xs.map cF by unfold PM;rw[aM (by rw[J.o];exact aN _)]);have b6:=aa (λj x h=>Hj (xs:=xs) (j:=j) (x:=x) h);have b2:=aa (λx (a9:x∈xs) w=>dy x w (hi x a9).1 (hi x a9).2);obtain⟨d5,U⟩:=aB (dv (xs.map cF) sep);rw[<-U] at Z;rw[<-U];clear a5 W U hi a7;go_enter func92,ntmps92;go_wp2;go_loopw[5,6] (λv i wr=>∃j g c:Nat,j<=n/\i= Ud j/\v= .slice (some ⟨g,0,none⟩) j c/\wr.ownsRow w.1.size 9 1 (.slice (some ⟨g,0,none⟩) j c) j (ap (PM xs j))/\Below w.1.size w wr) (λ_ i _=>n-(intOf i).toNat);exact⟨0,w.1.size,0,by omega,rfl,rfl,pC w _,aZ.alloc aQ _⟩;obtain⟨j,g,b7,d2,rfl,rfl,D,Q⟩:=hrel;have b3:=aa (D.lt g rfl);by_cases c4:j<n
 ·obtain⟨b,c6,rfl,c1,a2⟩:=b0.o (by omega);obtain⟨y,I⟩:=aE (l:=xs) (n:=j) (by rw[J.o];exact c4);have d1:=(Q.cell (p:=⟨b,c6+j,none⟩) c1).trans (a2 j _ (aP I));have a0:=aa (b6.o j y I);have Y:=aa (λw=>b2.o y (aj I) w);obtain⟨d,a3⟩:=aB (cF y);rw[<-a3] at a0 Y;have b4:=aa D;clear a2 I D a3;go_wp2_with fail;refine(Y.o _).mono ?_;rintro e c7 ⟨rfl,a1⟩;have c0:=(ai b4.o a1).alloc (.cells #[.string d] 9);have E:=bs Q a1;go_wp2_with(first|(at_builtin;go_must(refine aX rfl _ _ 26 rfl w.1.size 9 (.string ByteArray.empty) 16 underlying26 mz rfl g b7 j (ap (PM xs j)) c0 rfl c7.1.size 0 1 1 [.string d] rfl rfl (by intro q u F;match q,F with|0,F=>simp at F;subst F;simp) (by intro u a8;simp at a8;subst a8;rfl) (by omega) (by unfold maxLen;omega) (by have:=E.size;simp;omega) ?_);intro b9 b8 c8 c5 c3 d0 d3));have O:Below w.1.size w c8:=(E.alloc E.size _).grown c3 (by have:=E.size;simp;omega) (by rintro k ⟨⟩;exact b3.o.1);go_roundw;exact⟨j+1,b9,b8,by omega,by go_num,rfl,by rw[a0.o];exact c5,O⟩;simp[intOf];omega
 ·obtain rfl:j=n:=by omega
  rw[b1.o] at D;obtain⟨c9,cr,a4,a6⟩:=aS D (by omega);simp only[aJ,true_and] at a4;obtain⟨rfl,rfl⟩:=a4;have b5:=aa a6;clear D a6;go_wp2_with fail;refine(Z.o _ _ _ b5.o).mono ?_;rintro e d6 ⟨rfl,O⟩;have c2:=bs Q O;go_wp2;go_ret;exact⟨rfl,c2⟩
theorem nW(a)(n c)(xs)(sep)(w)(Z:aO w a n (af xs))(hi:∀x∈xs,Bx x)(a7:sep.size=1)(d1:n<=10000000)(a8:qP w):
 Calls prog 45 #[.slice a n c,.string sep] w λe w'=>e= .returned (.string (dv (xs.map cF) sep))/\Below w.1.size w w':=by
 have a6:=Z.len;have E:=aa (show xs.length=n by simpa[af] using a6);have b0:=aa Z.at_;have a1:=aa (λ(B g c:Nat) (w:World) h=>qJ B g c n (xs.map cF) sep w (by rw[dc,E.o]) h (by omega) (bn (lX hi a7) (by have:=E.o;omega)));have b1:=aa (show PM xs n=xs.map cF by unfold PM;rw[aM (by rw[E.o];exact aN _)]);have b4:=aa (λj x h=>Hj (xs:=xs) (j:=j) (x:=x) h);have b2:=aa (λx (c3:x∈xs) w' (U:Below w.1.size w w')=>dU x w' (hi x c3) (gt a8 U aQ));obtain⟨d2,Y⟩:=aB (dv (xs.map cF) sep);rw[<-Y] at a1;rw[<-Y];clear a6 Z Y hi a7 a8;go_enter func45,ntmps45;go_wp2;go_loopw[5,11] (λv i wr=>∃j g c:Nat,j<=n/\i= Ud j/\v= .slice (some ⟨g,0,none⟩) j c/\wr.ownsRow w.1.size 9 1 (.slice (some ⟨g,0,none⟩) j c) j (ap (PM xs j))/\Below w.1.size w wr) (λ_ i _=>n-(intOf i).toNat);exact⟨0,w.1.size,0,by omega,rfl,rfl,pC w _,aZ.alloc aQ _⟩;obtain⟨j,g,b5,c9,rfl,rfl,D,F⟩:=hrel;have b3:=aa (D.lt g rfl);by_cases c1:j<n
 ·obtain⟨b,c4,rfl,U,a4⟩:=b0.o (by omega);obtain⟨y,O⟩:=aE (l:=xs) (n:=j) (by rw[E.o];exact c1);have c8:=(F.cell (p:=⟨b,c4+j,none⟩) U).trans (a4 j _ (aP O));have a2:=aa (b4.o j y O);have a0:=aa (b2.o y (aj O) wr F);obtain⟨d,a5⟩:=aB (cF y);rw[<-a5] at a2 a0;have Q:=aa D;clear a4 O D a5;go_wp2_with fail;refine a0.o.mono ?_;rintro e c5 ⟨rfl,a3⟩;have b8:=(ai Q.o a3).alloc (.cells #[.string d] 9);have I:=bs F a3;go_wp2_with(first|(at_builtin;go_must(refine aX rfl _ _ 26 rfl w.1.size 9 (.string ByteArray.empty) 16 underlying26 mz rfl g b5 j (ap (PM xs j)) b8 rfl c5.1.size 0 1 1 [.string d] rfl rfl (by intro q u J;match q,J with|0,J=>simp at J;subst J;simp) (by intro u a9;simp at a9;subst a9;rfl) (by omega) (by unfold maxLen;omega) (by have:=I.size;simp;omega) ?_);intro b7 b6 c6 c2 c0 c7 d0));have W:Below w.1.size w c6:=(I.alloc I.size _).grown c0 (by have:=I.size;simp;omega) (by rintro k ⟨⟩;exact b3.o.1);go_roundw;exact⟨j+1,b7,b6,by omega,by go_num,rfl,by rw[a2.o];exact c2,W⟩;simp[intOf];omega
 ·obtain rfl:j=n:=by omega
  rw[b1.o] at D;have Q:=aa D;clear D;go_wp2_with fail;refine(a1.o _ _ _ _ Q.o).mono ?_;rintro e d3 ⟨rfl,W⟩;have b9:=bs F W;go_wp2;go_ret;exact⟨rfl,b9⟩
def pG(xs:List Int):ByteArray:=if xs.length=0 then⟨#[45]⟩ else dv (xs.map cF) ⟨#[44]⟩
theorem fp(a)(n c)(xs)(w)(D:aO w a n (af xs))(hi:∀x∈xs,Bx x)(J:n<=10000000):
 Calls prog 20 #[.slice a n c] w λe w'=>e= .returned (.string (pG xs))/\Below w.1.size w w':=by
 have E:=aa (wR a n c xs ⟨#[44]⟩ w D hi rfl J);have F:=aa (show xs.length=n by simpa[af] using D.len);unfold pG;rw[F.o];by_cases h:n=0
 ·rw[if_pos h];subst h;go_enter func20,ntmps20;go_wp2;go_ret;exact⟨rfl,aZ⟩
 ·rw[if_neg h];have O:((n:Int)==0)=false:=by rw[beq_eq_false_iff_ne];omega
  go_enter func20,ntmps20;go_wp2_with fail;refine E.o.mono ?_;rintro e Q ⟨rfl,I⟩;go_wp2;go_ret;exact⟨rfl,I⟩
theorem uP(a)(n c)(xs)(w)(D:aO w a n (af xs))(hi:∀x∈xs,Bx x)(O:n<=10000000)(E:qP w):
 Calls prog 19 #[.slice a n c] w λe w'=>e= .returned (.string (pG xs))/\Below w.1.size w w':=by
 have F:=aa (nW a n c xs ⟨#[44]⟩ w D hi rfl O E);have I:=aa (show xs.length=n by simpa[af] using D.len);unfold pG;rw[I.o];by_cases h:n=0
 ·rw[if_pos h];subst h;go_enter func19,ntmps19;go_wp2;go_ret;exact⟨rfl,aZ⟩
 ·rw[if_neg h];have Q:((n:Int)==0)=false:=by rw[beq_eq_false_iff_ne];omega
  go_enter func19,ntmps19;go_wp2_with fail;refine F.o.mono ?_;rintro e U ⟨rfl,J⟩;go_wp2;go_ret;exact⟨rfl,J⟩
end Go.Proofs.YtbdlbckeffakjaaGreatDoor
