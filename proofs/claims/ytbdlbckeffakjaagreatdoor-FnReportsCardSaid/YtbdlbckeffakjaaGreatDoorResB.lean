/- Labelled graphs: the sets that are reached, the reference's function. Conditions: a valid labelled graph. -/
import Derived.Test.YtbdlbckeffakjaaGreatDoorLabX
namespace Go.Proofs.YtbdlbckeffakjaaGreatDoor
set_option maxHeartbeats 8000000
set_option maxRecDepth 100000
open Go.Proofs.Tryz Go.RowKit
theorem iZ(L S)(a)(n c)(A)(w)(c9:aO w a (n*3) (bC A))(i5:n<=1048576):
 Calls prog 78 #[.agg #[Ud L,Ud S,.slice a n c]] w λe w'=>e= .returned (.bool (fy L S A))/\Below w.1.size w w':=by
 have d1:=aa (λ(V:World) (a7:Below (w.1.size+1) (w.alloc (.cells #[Ud L,Ud S,.slice a n c] 35)) V)=>dT a7);obtain⟨b6,a9⟩:=aB (w.alloc (.cells #[Ud L,Ud S,.slice a n c] 35));have b9:Below w.1.size w b6:=by rw[a9];exact aZ.alloc aQ _
 have g9:b6.1.size=w.1.size+1:=by rw[a9];simp
 rw[<-a9,<-g9] at d1;have b4:=aa (wy c9 b9);have b5:=aa b9;have c8:A.length=n:=b4.o.1;by_cases d4:1<=L/\L<=3
 ·by_cases e8:1<=S/\S<=12
  ·have b2:fy L S A=gS L S A n:=by unfold fy;rw[fj d4,fj e8,c8];rfl
   rw[b2];have J:=aa (λ(k:Nat) (g6:k<n) (g5:ij L S A k=false)=>show gS L S A n=false from by
    have:=sL g5 (n-(k+1));rw[show k+1+(n-(k+1))=n by omega] at this;exact this)
   have Q:=aa (λ(k:Nat)=>show gS L S A (k+1)=(gS L S A k&&ij L S A k) from rfl);obtain⟨c6,c7⟩:=aB (α:=Nat->Bool) (gS L S A);rw[<-c7] at J Q;rw[<-c7];have f8:=aa (show c6 0=true by rw[c7];rfl);have e0:w.1.size<=b6.1.size:=b9.size;obtain⟨b7,b8⟩:=d4;obtain⟨c2,c3⟩:=e8;clear c9 b9 c7 b2 c8;go_enter func78,ntmps78;go_wp2;rw[<-a9];clear a9;go_loopw[22] (λi wr=>∃k:Nat,k<=n/\i= Ud k/\bv (c6 k=true)/\Below b6.1.size b6 wr) (λi _=>n-(intOf i).toNat);exact⟨0,by omega,rfl,f8,aZ⟩;obtain⟨k,g6,rfl,d3,b0⟩:=hrel;obtain⟨⟨f4,f5,f6⟩,i9,_⟩:=d1.o wr b0;by_cases b3:k<n
   ·obtain⟨x,d8⟩:=aE (l:=A) (n:=k) (by rw[b4.o.1];exact b3);obtain⟨U,W,rfl,h8,f0⟩:=b4.o.2 k x d8;have f3:=jg d8;obtain⟨D,F,E⟩:=x;obtain⟨a4,a5,a6⟩:=f0 wr b0;have i2:(k:Int)<(n:Int):=(by omega);have h:ij L S A k=(jZ D 0 (S-1)&&jZ F 0 (S-1)&&jZ E 0 (L-1)&&(k==0||wt (qg A (k-1)) (D,F,E))):=by
     unfold ij sM;rw[f3]
    clear d8 f3 f0;have b1:Below w.1.size w (wr.alloc (.cells #[Ud D,Ud F,Ud E] 90)):=b5.o.trans ((b0.alloc b0.size _).mono e0);by_cases Y:D<0
    ·have f9:decide (D<0)=true:=decide_eq_true Y;have O:=aa (J.o k b3 (by rw[h];unfold jZ;simp;omega));clear h Q J b7 b8 c2 c3;try clear Y
     try clear Z
     try clear a0
     try clear a1
     try clear a2
     try clear a3
     simp only[] at a4 a5 a6;go_wp2;go_quiet(fail);go_wp2;go_ret;exact⟨aG O.o.symm,aA b1 _⟩
    have f9:decide (D<0)=false:=decide_eq_false Y;by_cases Z:S<=D
    ·have g0:decide (S<=D)=true:=decide_eq_true Z;have O:=aa (J.o k b3 (by rw[h];unfold jZ;simp;omega));clear h Q J b7 b8 c2 c3;try clear Y
     try clear Z
     try clear a0
     try clear a1
     try clear a2
     try clear a3
     simp only[] at a4 a5 a6;go_wp2;go_quiet(fail);go_wp2;go_ret;exact⟨aG O.o.symm,aA b1 _⟩
    have g0:decide (S<=D)=false:=decide_eq_false Z;by_cases a0:F<0
    ·have g1:decide (F<0)=true:=decide_eq_true a0;have O:=aa (J.o k b3 (by rw[h];unfold jZ;simp;omega));clear h Q J b7 b8 c2 c3;try clear Y
     try clear Z
     try clear a0
     try clear a1
     try clear a2
     try clear a3
     simp only[] at a4 a5 a6;go_wp2;go_quiet(fail);go_wp2;go_ret;exact⟨aG O.o.symm,aA b1 _⟩
    have g1:decide (F<0)=false:=decide_eq_false a0;by_cases a1:S<=F
    ·have g2:decide (S<=F)=true:=decide_eq_true a1;have O:=aa (J.o k b3 (by rw[h];unfold jZ;simp;omega));clear h Q J b7 b8 c2 c3;try clear Y
     try clear Z
     try clear a0
     try clear a1
     try clear a2
     try clear a3
     simp only[] at a4 a5 a6;go_wp2;go_quiet(fail);go_wp2;go_ret;exact⟨aG O.o.symm,aA b1 _⟩
    have g2:decide (S<=F)=false:=decide_eq_false a1;by_cases a2:E<0
    ·have g3:decide (E<0)=true:=decide_eq_true a2;have O:=aa (J.o k b3 (by rw[h];unfold jZ;simp;omega));clear h Q J b7 b8 c2 c3;try clear Y
     try clear Z
     try clear a0
     try clear a1
     try clear a2
     try clear a3
     simp only[] at a4 a5 a6;go_wp2;go_quiet(fail);go_wp2;go_ret;exact⟨aG O.o.symm,aA b1 _⟩
    have g3:decide (E<0)=false:=decide_eq_false a2;by_cases a3:L<=E
    ·have g4:decide (L<=E)=true:=decide_eq_true a3;have O:=aa (J.o k b3 (by rw[h];unfold jZ;simp;omega));clear h Q J b7 b8 c2 c3;try clear Y
     try clear Z
     try clear a0
     try clear a1
     try clear a2
     try clear a3
     simp only[] at a4 a5 a6;go_wp2;go_quiet(fail);go_wp2;go_ret;exact⟨aG O.o.symm,aA b1 _⟩
    have g4:decide (L<=E)=false:=decide_eq_false a3;by_cases g7:k=0
    ·subst g7;have d2:=aa (show c6 (0+1)=true by rw[Q.o,h,d3.o,fj (by omega),fj (by omega),fj (by omega)];rfl);simp only[Nat.zero_mul,ea] at a4 a5 a6;clear h Q Y Z a0 a1 a2 a3;go_wp2;go_quiet(fail);go_wp2;go_roundw;exact⟨0+1,by omega,by go_num,d2,aA (b0.alloc b0.size _) _⟩;simp[intOf]<;>omega
    ·obtain⟨j,rfl⟩:∃j,k=j+1:=⟨k-1,by omega⟩;obtain⟨y,d9⟩:=aE (l:=A) (n:=j) (by rw[b4.o.1];omega);obtain⟨h7,j0,d7,_,d6⟩:=b4.o.2 j y d9;injection d7 with d7
     injection d7 with he1 he2
     subst he1 he2;rw[eG,jg d9] at h;have d0:=aa (λV=>Ch y (D,F,E) V);have c1:=Qc (a:=y) (b:=(D,F,E));obtain⟨f,t,l⟩:=y;obtain⟨u4,f2⟩:=aB (wt (f,t,l) (D,F,E));obtain⟨q,f1⟩:=aB (Qd (f,t,l) (D,F,E));rw[<-f1] at d0 c1;rw[<-f2] at h c1;clear d9 f2 f1;obtain⟨I,c4⟩:=aB (wr.alloc (.cells #[Ud D,Ud F,Ud E] 90));have c0:Below b6.1.size b6 I:=by rw[c4];exact b0.alloc b0.size _
     have f7:=aa (λ(V:World) (a7:Below I.1.size I V)=>show V.cell? ⟨wr.1.size,0,none⟩=some (Ud D)/\V.cell? ⟨wr.1.size,1,none⟩=some (Ud F)/\V.cell? ⟨wr.1.size,2,none⟩=some (Ud E) from by
      rw[c4] at a7;obtain⟨⟨e1,_⟩,⟨e2,_⟩,e3,_⟩:(V.cell? ⟨wr.1.size,0,none⟩=_/\_)/\(V.cell? ⟨wr.1.size,1,none⟩=_/\_)/\(V.cell? ⟨wr.1.size,2,none⟩=_/\_):=⟨cV (by simpa using a7) 0,cV (by simpa using a7) 1,cV (by simpa using a7) 2⟩;exact⟨e1,e2,e3⟩)
     have e7:=aa c4;have c5:Below w.1.size w I:=b5.o.trans (c0.mono e0);have e6:=aa (λ(V:World) (a7:Below I.1.size I V)=>
      show V.cell? ⟨w.1.size,0,none⟩=some (Ud L)/\V.cell? ⟨w.1.size,1,none⟩=some (Ud S)/\V.cell? ⟨w.1.size,2,none⟩=some (.slice (some ⟨U,W,none⟩) n c)/\V.cell? ⟨wr.1.size,0,none⟩=some (Ud D)/\V.cell? ⟨wr.1.size,1,none⟩=some (Ud F)/\V.cell? ⟨wr.1.size,2,none⟩=some (Ud E)/\V.cell? ⟨U,W+j*3,none⟩=some (Ud f)/\V.cell? ⟨U,W+j*3+1,none⟩=some (Ud t)/\V.cell? ⟨U,W+j*3+2,none⟩=some (Ud l)/\Below I.1.size I V from by
       have e9:=c0.trans (a7.mono c0.size);obtain⟨h0,h1,h2⟩:=(d1.o V e9).1;obtain⟨h4,h5,h6⟩:=d6 V e9;obtain⟨e1,e2,e3⟩:=f7.o V a7;exact⟨h0,h1,h2,e1,e2,e3,h4,h5,h6,a7⟩)
     have a8:Below I.1.size I I.drew:=aZ.drew;have i0:(j:Int)+1<(n:Int):=(by omega);have i1:(j:Int)<(n:Int):=(by omega);have i7:IntKind.i64.wrap ((j:Int)+1-1)=(j:Int):=by rw[show(j:Int)+1-1=(j:Int) by omega];exact au _ (by omega)
     have i8:IntKind.i64.wrap (j:Int)=(j:Int):=au _ (by omega);have h9:(0:Int)<(j:Int)+1:=(by omega);have e5:=aa c0;have e4:=aa c5;cases u4
     ·have O:=aa (J.o (j+1) b3 (by rw[h];simp));have g8:0<=q:=c1.2 rfl;clear h c4 c0 c5 d6 b1 Q c1 Y Z a0 a1 a2 a3;simp only[] at a4 a5 a6;go_wp2;rw[<-e7.o];clear f4 f5 f6 a4 a5 a6;go_region_held3(λV=>V.cell? ⟨w.1.size,0,none⟩=some (Ud L)/\V.cell? ⟨w.1.size,1,none⟩=some (Ud S)/\V.cell? ⟨w.1.size,2,none⟩=some (.slice (some ⟨U,W,none⟩) n c)/\V.cell? ⟨wr.1.size,0,none⟩=some (Ud D)/\V.cell? ⟨wr.1.size,1,none⟩=some (Ud F)/\V.cell? ⟨wr.1.size,2,none⟩=some (Ud E)/\V.cell? ⟨U,W+j*3,none⟩=some (Ud f)/\V.cell? ⟨U,W+j*3+1,none⟩=some (Ud t)/\V.cell? ⟨U,W+j*3+2,none⟩=some (Ud l)/\Below I.1.size I V)
       (first|with_reducible exact e6.o _ a8)
       (first|(go_at_call 163;refine(d0.o _).mono ?_;rintro e h3 ⟨rfl,d5⟩;have a8:=a8.trans (d5.mono a8.size)))
      all_goals
       go_wp2
       go_ret
       exact⟨aG O.o.symm,e4.o.trans (a8.mono e4.o.size)⟩
     ·have d2:=aa (show c6 (j+1+1)=true by rw[Q.o,h,d3.o,fj (by omega),fj (by omega),fj (by omega)];simp);have g8:¬0<=q:=λe=>by have:=c1.1 e;cases this
      clear h c4 c0 c5 d6 b1 Q c1 Y Z a0 a1 a2 a3;simp only[] at a4 a5 a6;go_wp2;rw[<-e7.o];clear f4 f5 f6 a4 a5 a6;go_region_held3(λV=>V.cell? ⟨w.1.size,0,none⟩=some (Ud L)/\V.cell? ⟨w.1.size,1,none⟩=some (Ud S)/\V.cell? ⟨w.1.size,2,none⟩=some (.slice (some ⟨U,W,none⟩) n c)/\V.cell? ⟨wr.1.size,0,none⟩=some (Ud D)/\V.cell? ⟨wr.1.size,1,none⟩=some (Ud F)/\V.cell? ⟨wr.1.size,2,none⟩=some (Ud E)/\V.cell? ⟨U,W+j*3,none⟩=some (Ud f)/\V.cell? ⟨U,W+j*3+1,none⟩=some (Ud t)/\V.cell? ⟨U,W+j*3+2,none⟩=some (Ud l)/\Below I.1.size I V)
       (first|with_reducible exact e6.o _ a8)
       (first|(go_at_call 163;refine(d0.o _).mono ?_;rintro e h3 ⟨rfl,d5⟩;have a8:=a8.trans (d5.mono a8.size)))
      all_goals
       go_wp2
       go_roundw
       exact⟨j+1+1,by omega,by go_num,d2,e5.o.trans (a8.mono e5.o.size)⟩
       simp[intOf]<;>omega
   ·obtain rfl:k=n:=by omega
    have c5:=b5.o.trans (b0.mono e0);go_wp2;go_ret;exact⟨aG d3.o.symm,c5⟩
  ·have b2:fy L S A=false:=by unfold fy;rw[lP (x:=S) (by omega)];simp
   rw[b2];obtain⟨b7,b8⟩:=d4;clear c9 b9 b2 c8 b4;by_cases i6:S<1
   ·go_enter func78,ntmps78;go_wp2;rw[<-a9];go_ret;exact⟨rfl,b5.o⟩
   ·go_enter func78,ntmps78;go_wp2;rw[<-a9];go_ret;exact⟨rfl,b5.o⟩
 ·have b2:fy L S A=false:=by unfold fy;rw[lP (x:=L) (by omega)];simp
  rw[b2];clear c9 b9 b2 c8 b4;by_cases i3:L<1
  ·go_enter func78,ntmps78;go_wp2;rw[<-a9];go_ret;exact⟨rfl,b5.o⟩
  ·have i4:3<L:=by omega
   go_enter func78,ntmps78;go_wp2;rw[<-a9];go_ret;exact⟨rfl,b5.o⟩
theorem fJ(L S)(a)(n c)(A)(w)(h:aO w a (n*3) (bC A))(D:n<=1048576):
 Calls prog 26 #[.agg #[Ud L,Ud S,.slice a n c]] w λe w'=>e= .returned (.bool (fy L S A))/\Below w.1.size w w':=by
 rw[<-Rv (L:=L) (S:=S) (A:=A) (n:=n) (by have:=h.len;rw[jF] at this;omega)];exact yG L S _ _ a n c A w h rfl rfl D
theorem iP(L S)(a)(n c)(A)(w)(E:aO w a (n*3) (bC A))(a5:n<=1048576):
 Calls prog 86 #[.agg #[Ud L,Ud S,.slice a n c]] w λe w'=>e= .returned (.bool (ev L S A))/\Below w.1.size w w':=by
 have I:=aa (λ(V:World) (a6:Below (w.1.size+1) (w.alloc (.cells #[Ud L,Ud S,.slice a n c] 35)) V)=>dT a6);obtain⟨O,h⟩:=aB (w.alloc (.cells #[Ud L,Ud S,.slice a n c] 35));have a2:Below w.1.size w O:=by rw[h];exact aZ.alloc aQ _
 have a8:O.1.size=w.1.size+1:=by rw[h];simp
 rw[<-h,<-a8] at I;have a4:A.length=n:=by have:=E.len;rw[jF] at this;omega
 have a0:=aa (λ(W:World) (Q:Below w.1.size w W)=>fJ L S a n c A W (E.below Q aQ) a5);have a1:=aa (λ(W:World) (Q:Below w.1.size w W)=>Av L S a n c A W (E.below Q aQ) a5);have F:=aa a2;have J:=aa (show ev L S A=(fy L S A&&jS A n) by unfold ev;rw[a4]);obtain⟨u1,U⟩:=aB (fy L S A);obtain⟨u2,Y⟩:=aB (jS A n);obtain⟨u3,Z⟩:=aB (ev L S A);rw[<-U] at a0;rw[<-Y] at a1;rw[<-U,<-Y,<-Z] at J;rw[<-Z];obtain⟨⟨b0,b1,b2⟩,_⟩:=I.o O aZ;clear E a2 U Y Z a4;go_enter func86,ntmps86;go_wp2_with(rw[<-h]);first|rw[<-h]|skip
 clear h;refine(a0.o _ F.o).mono ?_;rintro e a9 ⟨rfl,a3⟩;have D:=aa (F.o.trans (a3.mono F.o.size));obtain⟨⟨b3,b4,b5⟩,_⟩:=I.o a9 a3;cases u1
 ·go_wp2;go_ret;exact⟨aG (by rw[J.o];rfl),D.o⟩
 ·go_wp2_with fail;refine(a1.o _ D.o).mono ?_;rintro e b6 ⟨rfl,a7⟩;go_wp2;go_ret;exact⟨aG (by rw[J.o];rfl),D.o.trans (a7.mono D.o.size)⟩
theorem kD(L S)(a)(n c)(A)(w)(E:aO w a (n*3) (bC A))(a5:n<=1048576):
 Calls prog 164 #[.agg #[Ud L,Ud S,.slice a n c]] w λe w'=>e= .returned (.bool (ev L S A))/\Below w.1.size w w':=by
 have I:=aa (λ(V:World) (a6:Below (w.1.size+1) (w.alloc (.cells #[Ud L,Ud S,.slice a n c] 35)) V)=>dT a6);obtain⟨O,h⟩:=aB (w.alloc (.cells #[Ud L,Ud S,.slice a n c] 35));have a2:Below w.1.size w O:=by rw[h];exact aZ.alloc aQ _
 have a8:O.1.size=w.1.size+1:=by rw[h];simp
 rw[<-h,<-a8] at I;have a4:A.length=n:=by have:=E.len;rw[jF] at this;omega
 have a0:=aa (λ(W:World) (Q:Below w.1.size w W)=>iZ L S a n c A W (E.below Q aQ) a5);have a1:=aa (λ(W:World) (Q:Below w.1.size w W)=>nX L S a n c A W (E.below Q aQ) a5);have F:=aa a2;have J:=aa (show ev L S A=(fy L S A&&jS A n) by unfold ev;rw[a4]);obtain⟨u1,U⟩:=aB (fy L S A);obtain⟨u2,Y⟩:=aB (jS A n);obtain⟨u3,Z⟩:=aB (ev L S A);rw[<-U] at a0;rw[<-Y] at a1;rw[<-U,<-Y,<-Z] at J;rw[<-Z];obtain⟨⟨b0,b1,b2⟩,_⟩:=I.o O aZ;clear E a2 U Y Z a4;go_enter func164,ntmps164;go_wp2_with(rw[<-h]);first|rw[<-h]|skip
 clear h;refine(a0.o _ F.o).mono ?_;rintro e a9 ⟨rfl,a3⟩;have D:=aa (F.o.trans (a3.mono F.o.size));obtain⟨⟨b3,b4,b5⟩,_⟩:=I.o a9 a3;cases u1
 ·go_wp2;go_ret;exact⟨aG (by rw[J.o];rfl),D.o⟩
 ·go_wp2_with fail;refine(a1.o _ D.o).mono ?_;rintro e b6 ⟨rfl,a7⟩;go_wp2;go_ret;exact⟨aG (by rw[J.o];rfl),D.o.trans (a7.mono D.o.size)⟩
section
open Go
theorem uX{D V}(cs)(T)(h:Below D.1.size D V):Below D.1.size D (V.alloc (.cells cs T))/\bA (V.alloc (.cells cs T)) V.1.size cs/\Below V.1.size V (V.alloc (.cells cs T))/\D.1.size<=V.1.size:=
 ⟨h.alloc h.size _,bA.new _ _ _,aZ.alloc aQ _,h.size⟩
theorem pE{wr:World}{B e s n b}{v}{xs}(h:wr.ownsRow B e s v n xs)(D:∀q,v.ownBlock=some q->q≠b)(q)(y):(wr.setCell ⟨b,q,none⟩ y).ownsRow B e s v n xs:=
 h.kept (row:=some b) ⟨rfl,rfl,rfl,by simp,λp F E=>dE _ _ _ _ (λe=>E (by rw[show p=b from e]))⟩ (by
  cases hv:v.ownBlock with
  |none=>exact .inl rfl
  |some q=>exact .inr λe=>D q hv (by injection e))
section
variable {P : Program} {ops : Array Oper} {Q : Exit → Act → World → Prop} {md : Region.Mode} {S : World → Prop} {n : Nat}
theorem um{i j:Nat}{I J:Oper}{O:Nat}{D:Array Bool}{a:Act}{w:World}(hi:ops[i]? =some I)(a5:ops[j]? =some J)(F:Region.ready md ops D=[i,j])(a4:i<n)(a6:j<n)
 (a1:∀h:Act->World->Prop,Shut (∀a w,S w->(HeadInv md ops n (D.setIfInBounds i true)->jy P md ops Q S n O (D.setIfInBounds i true) a w)->h a w)->if Region.wanted I (yielded ops a.tmps)=true then Oper.wp P I a w h Q else h (a.put I.dst undef) w)
 (k:∀h:Act->World->Prop,Shut (∀a w,S w->(HeadInv md ops n (D.setIfInBounds j true)->jy P md ops Q S n O (D.setIfInBounds j true) a w)->h a w)->if Region.wanted J (yielded ops a.tmps)=true then Oper.wp P J a w h Q else h (a.put J.dst undef) w):
 HeadInv md ops n D->jy P md ops Q S n (O+1) D a w:=λa0=>by
 have a2:i∈Region.ready md ops D:=by rw[F];simp
 have a3:j∈Region.ready md ops D:=by rw[F];simp
 refine⟨λZ=>(by rw[F] at Z;cases Z),λq E=> ?_⟩;rw[F] at E;rcases ji.1 E with rfl|E
 ·exact wpOp_step hi (λh U=>a1 h (λa w W Y=>U a w ⟨λ_=>W,Y (a0.set a2 a4)⟩))
 ·obtain rfl:=eH.1 E;exact wpOp_step a5 (λh U=>k h (λa w W Y=>U a w ⟨λ_=>W,Y (a0.set a3 a6)⟩))
end
def nH(K:Nat->Bool)(S:Nat)(G:List (Nat×Nat×Nat)):Option (Nat×List (Nat×Nat×Nat)):=if bW K S=0 then none else some (bW K S,dQ K G)
def nm(L:Nat)(o:Option (Nat×List (Nat×Nat×Nat)))(w:World)(e:Ending)(w':World):Prop:=
 ∃g c,e= .returned (.tuple #[yL (if o.isSome then L else 0) (o.getD (0,[])).1 g (o.getD (0,[])).2.length c,.bool o.isSome])/\w'.ownsRow w.1.size 90 3 (.slice g (o.getD (0,[])).2.length c) (o.getD (0,[])).2.length (bC (dg (o.getD (0,[])).2))/\Below w.1.size w w'
def qh(L S:Nat)(G:List (Nat×Nat×Nat))(w:World)(e:Ending)(w':World):Prop:=
 ∃K:Nat->Bool,(∀i,i<S->(K i=true↔qR G S i))/\nm L (nH K S G) w e w'
theorem ig{L}{w w'}(h:Below w.1.size w w'):nm L none w (.returned (.tuple #[.agg #[Ud 0,Ud 0,.slice none 0 0],.bool false])) w':=⟨none,0,rfl,dk _ _ _ _,h⟩
theorem tI(L S:Nat)(a)(n c)(G)(w)(e4:aO w a (n*3) (bC (dg G)))(g7:n<=1000000)(e2:fy L S (dg G)=true)(e3:fZ L S G):
 Calls prog 178 #[.agg #[Ud L,Ud S,.slice a n c]] w (qh L S G w):=by
 obtain⟨Q,d3⟩:=aB ((w.alloc (.cells #[Ud L,Ud S,.slice a n c] 35)).alloc (.cells #[Ud 0,Ud 0,.slice none 0 0] 35));have h5:Q.1.size=w.1.size+1+1:=by rw[d3];simp
 have c4:=aa (λ(V:World) (Z:Below Q.1.size Q V)=>show bA V w.1.size #[Ud L,Ud S,.slice a n c]/\bA V (w.1.size+1) #[Ud 0,Ud 0,.slice none 0 0]/\Below w.1.size w V from by
  rw[d3] at Z;obtain⟨⟨g0,e0⟩,⟨g1,e1⟩,g2,g3⟩:=Bl Z;exact⟨⟨by omega,g0,e0⟩,⟨g2,g1,e1⟩,g3⟩)
 have f3:=aa (λ(a9:World) (d2:Below w.1.size w a9)=>fJ L S a n c (dg G) a9 (e4.below d2 aQ) (by omega));rw[e2] at f3;have e9:=aa (λ(a9:World) (d2:Below w.1.size w a9)=>MZ L S a n c G a9 (e4.below d2 aQ) e3 (by omega));unfold qj at e9;have d9:=aa (λ(a9:World) (d2:Below w.1.size w a9) (c5:Option Addr) (c9:Nat) (K:Nat->Bool) (g6:aO a9 c5 S (bP (fq K S)))=>Na L S a c5 n c c9 G K a9 (e4.below d2 aQ) g6 e3 g7);unfold Bv yL at d9;obtain⟨a8,a0,f7⟩:=c4.o Q aZ;obtain⟨e5,e6,e7⟩:=a8.c3.1;have h4:=e3.s12;clear e4 e2 a8 a0 e3;unfold qh nm yL;go_enter func178,ntmps178;go_wp2_with(rw[<-d3]);first|rw[<-d3]|skip
 refine(f3.o _ f7).mono ?_;rintro e U ⟨rfl,f0⟩;obtain⟨a8,a0,g5⟩:=c4.o U f0;clear d3 e5 e6 e7;obtain⟨e5,e6,e7⟩:=a8.c3.1;have f8:=aa f0;have e8:=aa (λ(V:World) (Z:Below Q.1.size Q V)=>show V.cell? ⟨w.1.size,0,none⟩=some (Ud L)/\V.cell? ⟨w.1.size,1,none⟩=some (Ud S)/\V.cell? ⟨w.1.size,2,none⟩=some (.slice a n c)/\Below Q.1.size Q V from by
  obtain⟨g9,h0,h1⟩:=(c4.o V Z).1.c3.1;exact⟨g9,h0,h1,Z⟩)
 go_wp2;have D:Below Q.1.size Q U.drew:=f8.o.drew;have b1:=aa (λ(V:World) (Z:Below Q.1.size Q V)=>show V.cell? ⟨w.1.size,0,none⟩=some (Ud L)/\V.cell? ⟨w.1.size,1,none⟩=some (Ud S)/\V.cell? ⟨w.1.size,2,none⟩=some (.slice a n c) from⟨(e8.o V Z).1,(e8.o V Z).2.1,(e8.o V Z).2.2.1⟩);have d0:=aa (λ(V:World) (Z:Below Q.1.size Q V)=>(c4.o V Z).2.2);refine dr (S:=λV=>V.cell? ⟨w.1.size,0,none⟩=some (Ud L)/\V.cell? ⟨w.1.size,1,none⟩=some (Ud S)/\V.cell? ⟨w.1.size,2,none⟩=some (.slice a n c)) 5 (by kernel_rfl) ?_;have f9:=aa (λ(V:World) (Z:V.cell? ⟨w.1.size,0,none⟩=some (Ud L)/\V.cell? ⟨w.1.size,1,none⟩=some (Ud S)/\V.cell? ⟨w.1.size,2,none⟩=some (.slice a n c))=>Z);have h3:U.drew.cell? ⟨w.1.size,0,none⟩=some (Ud L)/\U.drew.cell? ⟨w.1.size,1,none⟩=some (Ud S)/\U.drew.cell? ⟨w.1.size,2,none⟩=some (.slice a n c):=⟨e5,e6,e7⟩;iterate 2 (refine kG rfl (by kernel_rfl) (λ_ _ _ e2=>e2) (by rfl) (by assumption) (λV f5=>by have f5:=f9.o V f5;go_split_ands;go_simp;first|done|with_reducible rfl) ?_;try simp only[Act.put,ab,ac,ae])
 clear e5 e6 e7 f0 f7 g5 a8 a0;refine um (i:=2) (j:=4) rfl rfl (by kernel_rfl) (by decide) (by decide) (λK E=> ?_) (λK E=> ?_)
 ·skip;go_simp;go_at_call 238;refine(e9.o _ (d0.o _ D)).mono ?_;rintro e a4 ⟨h2,h,rfl,f1,d4,c6⟩;obtain⟨c5,c9,rfl,a6⟩:=aS f1 (by omega);go_wp2_with fail;have D:=D.trans (d4.mono D.size);try have F:=F.below d4
  refine E.out _ _ (b1.o _ D) ?_;clear E K;try simp only[Act.put,ab,ac,ae]
  refine um (i:=3) (j:=4) rfl rfl (by kernel_rfl) (by decide) (by decide) (λK E=> ?_) (λK E=> ?_)
  ·skip;go_simp;go_at_call 237;refine(d9.o _ (d0.o _ D) c5 c9 h a6).mono ?_;rintro e c3 ⟨J,I,rfl,a5,a2⟩;go_wp2_with fail;have d5:=D.size;try have f6:=F.lt
   have D:=D.trans (a2.mono D.size);try have F:=F.below a2
   have Y:=aT (base':=Q.1.size) a5 d5;refine E.out _ _ (b1.o _ D) ?_;clear E K;try simp only[Act.put,ab,ac,ae]
   refine aY (i:=4) rfl (by kernel_rfl) (by decide) (λK E=> ?_);have g4:=D;have g8:=Y;go_simp;obtain⟨D,F,b6,b7⟩:=uX #[Ud 0,Ud 0,.slice none 0 0] 35 D;try(change bA _ U.1.size _ at F)
   try have a6:=a6.below b6 aQ
   try have Y:=ai Y b6
   refine E.out _ _ (b1.o _ D) ?_;clear E K;try simp only[Act.put,ab,ac,ae]
   have b7:Q.1.size<=c3.1.size:=b7;obtain⟨⟨c1,a3,c2⟩,d6,d7,d8⟩:=F.c3;refine cU rfl (by kernel_rfl) (by kernel_rfl) (λK E=> ?_);go_simp;refine E.out _ _ ?_;clear E K;obtain⟨_,a0,b0⟩:=c4.o c3 g4;have b4:=aa (bA.new c3 #[Ud L,Ud (bW h S:Nat),.slice J (dQ h G).length I] 35);have b3:=aa (a0.alloc (.cells #[Ud L,Ud (bW h S:Nat),.slice J (dQ h G).length I] 35));have b2:=aa (ai g8 ((aV c3.1.size c3).alloc aQ (.cells #[Ud L,Ud (bW h S:Nat),.slice J (dQ h G).length I] 35)));have a1:=aa (b0.alloc b0.size (.cells #[Ud L,Ud (bW h S:Nat),.slice J (dQ h G).length I] 35));clear c1 a3 c2 d6 d7 d8 a0 b0 F Y;generalize hV3:World.alloc c3 (.cells #[Ud L,Ud (bW h S:Nat),.slice J (dQ h G).length I] 35)=V3 at b4 b3 b2 a1⊢;obtain⟨⟨c1,a3,c2⟩,_⟩:=b4.o.c3;obtain⟨⟨b8,b9,c0⟩,e0,e1,f4⟩:=b3.o.c3;have O:=aa (show nH h S G=if bW h S=0 then none else some (bW h S,dQ h G) from rfl);obtain⟨N,b5⟩:=aB (bW h S);rw[<-b5] at a3 O;clear hV3 a5 a2 D b5;by_cases W:N=0
   ·have O:=aa (O.o.trans (if_pos W));have d1:((N:Int)==0)=true:=by simp[W]
    go_wp2;refine bodyPost_ret (v:=.tuple #[.agg #[Ud 0,Ud 0,.slice none 0 0],.bool false]) (by simp[results,results178,go_sem,b8,b9,c0]) rfl ⟨h,c6,?_⟩;rw[O.o];exact ig (((a1.o.setCell (by show w.1.size<=w.1.size+1;omega) _).setCell (by show w.1.size<=w.1.size+1;omega) _).setCell (by show w.1.size<=w.1.size+1;omega) _)
   ·have O:=aa (O.o.trans (if_neg W));have d1:((N:Int)==0)=false:=by simp[W]
    go_wp2;refine bodyPost_ret (v:=.tuple #[.agg #[Ud L,Ud N,.slice J (dQ h G).length I],.bool true]) (by simp[results,results178,go_sem,b8,b9,c0]) rfl ⟨h,c6,?_⟩;rw[O.o];exact⟨J,I,rfl,aT (cE (cE (cE b2.o (by omega) _ _) (by omega) _ _) (by omega) _ _) (by omega),((a1.o.setCell (by show w.1.size<=w.1.size+1;omega) _).setCell (by show w.1.size<=w.1.size+1;omega) _).setCell (by show w.1.size<=w.1.size+1;omega) _⟩
  ·skip;go_simp;obtain⟨D,F,b6,b7⟩:=uX #[Ud 0,Ud 0,.slice none 0 0] 35 D;try(change bA _ U.1.size _ at F)
   try have a6:=a6.below b6 aQ
   try have Y:=ai Y b6
   refine E.out _ _ (b1.o _ D) ?_;clear E K;try simp only[Act.put,ab,ac,ae]
   refine aY (i:=3) rfl (by kernel_rfl) (by decide) (λK E=> ?_);go_simp;go_at_call 237;refine(d9.o _ (d0.o _ D) c5 c9 h a6).mono ?_;rintro e c3 ⟨J,I,rfl,a5,a2⟩;go_wp2_with fail;have d5:=D.size;try have f6:=F.lt
   have D:=D.trans (a2.mono D.size);try have F:=F.below a2
   have Y:=aT (base':=Q.1.size) a5 d5;refine E.out _ _ (b1.o _ D) ?_;clear E K;try simp only[Act.put,ab,ac,ae]
   have b7:Q.1.size<=a4.1.size:=b7;have a7:=aa (λ(q:Nat) (f2:(Value.slice J (dQ h G).length I).ownBlock=some q)=>show q≠a4.1.size from by have:=a5.lt q f2;omega);obtain⟨⟨c1,a3,c2⟩,d6,d7,d8⟩:=F.c3;obtain⟨a8,a0,b0⟩:=c4.o _ D;refine cU rfl (by kernel_rfl) (by kernel_rfl) (λK E=> ?_);go_simp;refine E.out _ _ ?_;clear E K;have b4:=aa (F.set0 (Ud L)|>.set1 (Ud (bW h S:Nat))|>.set2 (.slice J (dQ h G).length I));have c7:a4.1.size≠w.1.size+1:=(by omega);have b3:=aa (((a0.other (i:=0) c7 (Ud L)).other (i:=1) c7 (Ud (bW h S:Nat))).other (i:=2) c7 (.slice J (dQ h G).length I));have b2:=aa (pE (pE (pE Y a7.o 0 (Ud L)) a7.o 1 (Ud (bW h S:Nat))) a7.o 2 (.slice J (dQ h G).length I));have c8:w.1.size<=a4.1.size:=(by omega);have a1:=aa (((b0.setCell (p:=⟨a4.1.size,0,none⟩) c8 (Ud L)).setCell (p:=⟨a4.1.size,1,none⟩) c8 (Ud (bW h S:Nat))).setCell (p:=⟨a4.1.size,2,none⟩) c8 (.slice J (dQ h G).length I));clear c1 a3 c2 d6 d7 d8 a8 a0 b0 F Y a7;generalize hV3:(World.setCell (World.setCell (World.setCell _ ⟨a4.1.size,0,none⟩ _) ⟨a4.1.size,1,none⟩ _) ⟨a4.1.size,2,none⟩ (.slice J (dQ h G).length I))=V3 at b4 b3 b2 a1⊢;obtain⟨⟨c1,a3,c2⟩,_⟩:=b4.o.c3;obtain⟨⟨b8,b9,c0⟩,e0,e1,f4⟩:=b3.o.c3;have O:=aa (show nH h S G=if bW h S=0 then none else some (bW h S,dQ h G) from rfl);obtain⟨N,b5⟩:=aB (bW h S);rw[<-b5] at a3 O;clear hV3 a5 a2 D b5;by_cases W:N=0
   ·have O:=aa (O.o.trans (if_pos W));have d1:((N:Int)==0)=true:=by simp[W]
    go_wp2;refine bodyPost_ret (v:=.tuple #[.agg #[Ud 0,Ud 0,.slice none 0 0],.bool false]) (by simp[results,results178,go_sem,b8,b9,c0]) rfl ⟨h,c6,?_⟩;rw[O.o];exact ig (((a1.o.setCell (by show w.1.size<=w.1.size+1;omega) _).setCell (by show w.1.size<=w.1.size+1;omega) _).setCell (by show w.1.size<=w.1.size+1;omega) _)
   ·have O:=aa (O.o.trans (if_neg W));have d1:((N:Int)==0)=false:=by simp[W]
    go_wp2;refine bodyPost_ret (v:=.tuple #[.agg #[Ud L,Ud N,.slice J (dQ h G).length I],.bool true]) (by simp[results,results178,go_sem,b8,b9,c0]) rfl ⟨h,c6,?_⟩;rw[O.o];exact⟨J,I,rfl,aT (cE (cE (cE b2.o (by omega) _ _) (by omega) _ _) (by omega) _ _) (by omega),((a1.o.setCell (by show w.1.size<=w.1.size+1;omega) _).setCell (by show w.1.size<=w.1.size+1;omega) _).setCell (by show w.1.size<=w.1.size+1;omega) _⟩
 ·skip;go_simp;obtain⟨D,F,b6,b7⟩:=uX #[Ud 0,Ud 0,.slice none 0 0] 35 D;try(change bA _ U.1.size _ at F)
  try have a6:=a6.below b6 aQ
  try have Y:=ai Y b6
  refine E.out _ _ (b1.o _ D) ?_;clear E K;try simp only[Act.put,ab,ac,ae]
  refine aY (i:=2) rfl (by kernel_rfl) (by decide) (λK E=> ?_);go_simp;go_at_call 238;refine(e9.o _ (d0.o _ D)).mono ?_;rintro e a4 ⟨h2,h,rfl,f1,d4,c6⟩;obtain⟨c5,c9,rfl,a6⟩:=aS f1 (by omega);go_wp2_with fail;have D:=D.trans (d4.mono D.size);try have F:=F.below d4
  refine E.out _ _ (b1.o _ D) ?_;clear E K;try simp only[Act.put,ab,ac,ae]
  refine aY (i:=3) rfl (by kernel_rfl) (by decide) (λK E=> ?_);go_simp;go_at_call 237;refine(d9.o _ (d0.o _ D) c5 c9 h a6).mono ?_;rintro e c3 ⟨J,I,rfl,a5,a2⟩;go_wp2_with fail;have d5:=D.size;try have f6:=F.lt
  have D:=D.trans (a2.mono D.size);try have F:=F.below a2
  have Y:=aT (base':=Q.1.size) a5 d5;refine E.out _ _ (b1.o _ D) ?_;clear E K;try simp only[Act.put,ab,ac,ae]
  have b7:Q.1.size<=U.1.size:=b7;have a7:=aa (λ(q:Nat) (f2:(Value.slice J (dQ h G).length I).ownBlock=some q)=>show q≠U.1.size from by have:=a5.lt q f2;omega);obtain⟨⟨c1,a3,c2⟩,d6,d7,d8⟩:=F.c3;obtain⟨a8,a0,b0⟩:=c4.o _ D;refine cU rfl (by kernel_rfl) (by kernel_rfl) (λK E=> ?_);go_simp;refine E.out _ _ ?_;clear E K;have b4:=aa (F.set0 (Ud L)|>.set1 (Ud (bW h S:Nat))|>.set2 (.slice J (dQ h G).length I));have c7:U.1.size≠w.1.size+1:=(by omega);have b3:=aa (((a0.other (i:=0) c7 (Ud L)).other (i:=1) c7 (Ud (bW h S:Nat))).other (i:=2) c7 (.slice J (dQ h G).length I));have b2:=aa (pE (pE (pE Y a7.o 0 (Ud L)) a7.o 1 (Ud (bW h S:Nat))) a7.o 2 (.slice J (dQ h G).length I));have c8:w.1.size<=U.1.size:=(by omega);have a1:=aa (((b0.setCell (p:=⟨U.1.size,0,none⟩) c8 (Ud L)).setCell (p:=⟨U.1.size,1,none⟩) c8 (Ud (bW h S:Nat))).setCell (p:=⟨U.1.size,2,none⟩) c8 (.slice J (dQ h G).length I));clear c1 a3 c2 d6 d7 d8 a8 a0 b0 F Y a7;generalize hV3:(World.setCell (World.setCell (World.setCell _ ⟨U.1.size,0,none⟩ _) ⟨U.1.size,1,none⟩ _) ⟨U.1.size,2,none⟩ (.slice J (dQ h G).length I))=V3 at b4 b3 b2 a1⊢;obtain⟨⟨c1,a3,c2⟩,_⟩:=b4.o.c3;obtain⟨⟨b8,b9,c0⟩,e0,e1,f4⟩:=b3.o.c3;have O:=aa (show nH h S G=if bW h S=0 then none else some (bW h S,dQ h G) from rfl);obtain⟨N,b5⟩:=aB (bW h S);rw[<-b5] at a3 O;clear hV3 a5 a2 D b5;by_cases W:N=0
  ·have O:=aa (O.o.trans (if_pos W));have d1:((N:Int)==0)=true:=by simp[W]
   go_wp2;refine bodyPost_ret (v:=.tuple #[.agg #[Ud 0,Ud 0,.slice none 0 0],.bool false]) (by simp[results,results178,go_sem,b8,b9,c0]) rfl ⟨h,c6,?_⟩;rw[O.o];exact ig (((a1.o.setCell (by show w.1.size<=w.1.size+1;omega) _).setCell (by show w.1.size<=w.1.size+1;omega) _).setCell (by show w.1.size<=w.1.size+1;omega) _)
  ·have O:=aa (O.o.trans (if_neg W));have d1:((N:Int)==0)=false:=by simp[W]
   go_wp2;refine bodyPost_ret (v:=.tuple #[.agg #[Ud L,Ud N,.slice J (dQ h G).length I],.bool true]) (by simp[results,results178,go_sem,b8,b9,c0]) rfl ⟨h,c6,?_⟩;rw[O.o];exact⟨J,I,rfl,aT (cE (cE (cE b2.o (by omega) _ _) (by omega) _ _) (by omega) _ _) (by omega),((a1.o.setCell (by show w.1.size<=w.1.size+1;omega) _).setCell (by show w.1.size<=w.1.size+1;omega) _).setCell (by show w.1.size<=w.1.size+1;omega) _⟩
end
def tZ(G:List (Nat×Nat×Nat))(S k:Nat):List (List Int):=rS (G.take k) S
theorem nz(G)(S k):(tZ G S k).length=S:=by simp[tZ,rS]
def oX(G:List (Nat×Nat×Nat))(k i:Nat):List Int:=((G.take k).filter λa=>decide (a.1=i)).map λa=>(a.2.1:Int)
theorem nA{G}{S k i}(h:i<S):(tZ G S k)[i]? =some (oX G k i):=by unfold tZ oX;rw[sV h]
theorem IV{G}{S k}{y}(h:G[k]? =some y)(D:y.1<S):(tZ G S k).set y.1 (oX G k y.1++[(y.2.1:Int)])=tZ G S (k+1):=by
 refine ex λi=> ?_
 by_cases hi:i<S
 ·rw[nA hi,bU,nz];by_cases e:y.1=i
  ·subst e;rw[if_pos rfl,if_pos D];unfold oX;rw[bg,h];simp
  ·rw[if_neg e,nA hi];unfold oX;rw[bg,h];simp[e]
 ·rw[aU (by rw[fM,nz];omega),aU (by rw[nz];omega)]
theorem IW(G)(k i):(oX G k i).length<=k:=by
 unfold oX;rw[dc];exact bn (bz _ _) (by rw[cY];omega)
theorem IU(G)(S):tZ G S 0=List.replicate S []:=by
 refine da (by simp[nz]) λi h D=> ?_
 rw[nz] at h;have:=nA (G:=G) (k:=0) h;rw[di (by rw[nz];exact h)] at this;injection this with this
 rw[this];simp[oX]
theorem bS.replace{T0}{w a2}{base i}{I}{F}{r}{v v'}{x}(h:bS T0 w base I F)(U:I[i]? =some v)(b1:F[i]? =some r)
 (b0:a2.ownsRow base T0 1 v' (r.length+1) (af (r++[x])))(a7:w.grownBy a2 v.ownBlock)(a5:∀g,v'.ownBlock=some g->v.ownBlock=some g\/w.1.size<=g):bS T0 a2 base (I.set i v') (F.set i (r++[x])):=by
 have a8:i<I.length:=(aw.1 U).1;have a9:i<F.length:=(aw.1 b1).1;have a1:∀k z,(I.set i v')[k]? =some z->(k=i/\z=v')\/(k≠i/\I[k]? =some z):=λk z D=>by
  rw[bU] at D;by_cases e:i=k
  ·subst e;rw[if_pos rfl,if_pos a8] at D;injection D with D
   exact .inl ⟨rfl,D.symm⟩
  ·rw[if_neg e] at D;exact .inr ⟨λZ=>e Z.symm,D⟩
 refine⟨by simp[h.len],λk z q D E=> ?_,λk j y z g b2 D O Q=> ?_⟩
 ·rcases a1 k z D with⟨rfl,rfl⟩|⟨a0,D⟩
  ·rw[bU,if_pos rfl,if_pos a9] at E;injection E with E
   subst E;simpa using b0
  ·rw[bU,if_neg (λe=>a0 e.symm)] at E;refine(h.own k z q D E).kept a7 ?_;cases hb:z.ownBlock with
   |none=>exact .inl rfl
   |some b=>exact .inr λe=>a0 (h.apart k i z v b D U hb e.symm)
 ·rcases a1 k y b2 with⟨a3,Z⟩|⟨a0,W⟩<;>rcases a1 j z D with⟨a4,a6⟩|⟨b3,Y⟩
  ·rw[a3,a4]
  ·rw[Z] at O;rcases a5 g O with J|J
   ·rw[a3];exact h.apart i j v z g U Y J Q
   ·obtain⟨q,E⟩:=aE (l:=F) (n:=j) (by have:=(aw.1 Y).1;rw[<-h.len];exact this);have:=((h.own j z q Y E).lt g Q).2;omega
  ·rw[a6] at Q;rcases a5 g Q with J|J
   ·rw[a4];exact h.apart k i y v g W U O J
   ·obtain⟨q,E⟩:=aE (l:=F) (n:=k) (by have:=(aw.1 W).1;rw[<-h.len];exact this);have:=((h.own k y q W E).lt g O).2;omega
  ·exact h.apart k j y z g W Y O Q
theorem bS.nils(T0)(w)(base S):bS T0 w base (List.replicate S (.slice none 0 0)) (List.replicate S []):=by
 refine⟨by simp,λi x r D E=> ?_,λi j x y g D _ F _=> ?_⟩
 ·rw[eM] at D E;split at D
  ·rename_i h;rw[if_pos h] at E;injection D with D;injection E with E;subst D E;exact dk _ _ _ _
  ·cases D
 ·rw[eM] at D;split at D
  ·injection D with D;subst D;cases F
  ·cases D
theorem MF(S):(madeCells (Value.slice none 0 0).cells (S*1)).toList=List.replicate S (.slice none 0 0):=by
 rw[kV];show(madeCells #[Value.slice none 0 0] S).toList=_
 rw[toList_madeCells_one]
theorem LH{P}{wr:World}{a9}{o}{a}{K}{Q}{E}
 (W:o.guard=none)(s x)(t)(a0:o.op=Op.call {callee:=Callee.builtin Builtin.append,args:=#[s,x],argTypes:=#[t,t]})
 (B)(e)(O:P.underlying t=some (.slice e))(Z:(P.info? e).map (λi=>(i.zero,i.size,i.bytes))=some (some (Ud 0),1,8))
 (v)(m)(xs)(u)(a2:wr.ownsRow B e 1 v m xs)(a4:a.eval s=v)(a5:a.eval x= .slice (some ⟨wr.1.size,0,none⟩) 1 1)
 (b1:m<=1048576)(b0:B<=wr.1.size)
 (U:∀F c' D,D.ownsRow B e 1 (.slice (some ⟨F,0,none⟩) (m+1) c') (m+1) (xs++[Ud u])->wr.grownBy D v.ownBlock->(v.ownBlock=some F\/wr.1.size<=F)->K (a.put o.dst (.slice (some ⟨F,0,none⟩) (m+1) c')) D):
 if Region.wanted o (yielded a9 a.tmps)=true then Oper.wp P o a (wr.alloc (.cells #[Ud u] e)) K Q else E:=by
 obtain⟨i,hi,a6,a7,a8⟩:=info_parts Z;refine step_append_lies _ W s x t a0 B e i _ 1 8 O hi a6 a7 a8 rfl (by decide) v m xs a4 (a2.alloc _) ⟨wr.1.size,0,none⟩ 1 1 [Ud u] a5 rfl ?_ (by intro y J;simp at J;subst J;rfl) (by omega) (by unfold maxLen;omega) (by omega) (by simp;omega) (wr.1.size+1) (by simp) ?_
 ·intro j y I;match j,I with
  |0,I=>
   simp at I;subst I;show(wr.alloc (.cells #[Ud u] e)).cell? _=_
   simp[Addr.add]
 ·intro g cap D a3 Y a1 _;refine U g cap D a3 (dd (cC _ _ _) Y) ?_;rcases a1 with h|h
  ·exact .inl h
  ·exact .inr (by omega)
def Mq(G:List (Nat×Nat×Nat))(set x:Nat)(l:List Nat):Int:=if gV G set x=0 then-1 else if gV G set x∈l then(ie (gV G set x) l:Nat) else(l.length:Nat)
def Gw(G:List (Nat×Nat×Nat))(k set:Nat)(st:zp):Nat->List Int|0=>[]|x+1=>Gw G k set st x++[Mq G set x (sU G k set st x).1]
def xh(G:List (Nat×Nat×Nat))(L full:Nat):Nat->List (List Int)|0=>[]|k+1=>match(jY G L full k).1[k]? with|none=>xh G L full k|some set=>xh G L full k++[Gw G k set (jY G L full k) L]
def gP(k:Nat)(row:List Int):Nat->List (Nat×Nat×Nat)|0=>[]|x+1=>gP k row x++(if 0<=row.getD x 0 then[(k,(row.getD x 0).toNat,x)] else[])
def fk(h:List (List Int)):Nat->List (Nat×Nat×Nat)|0=>[]|k+1=>fk h k++gP k (h.getD k []) (h.getD k []).length
theorem lz(k)(row)(x):gP k row (x+1)=gP k row x++(if 0<=row.getD x 0 then[(k,(row.getD x 0).toNat,x)] else[]):=rfl
theorem kg(h)(k):fk h (k+1)=fk h k++gP k (h.getD k []) (h.getD k []).length:=rfl
theorem Gv(G)(k set)(st:zp)(x):Gw G k set st (x+1)=Gw G k set st x++[Mq G set x (sU G k set st x).1]:=rfl
theorem oK(G:List (Nat×Nat×Nat))(k set:Nat)(st:zp):∀x,(Gw G k set st x).length=x
 |0=>rfl
 |x+1=>by unfold Gw;rw[az,oK G k set st x];rfl
theorem Af{G}{L full k set}(h:(jY G L full k).1[k]? =some set):xh G L full (k+1)=xh G L full k++[Gw G k set (jY G L full k) L]:=by
 conv=>lhs;unfold xh
 rw[h]
theorem IR(G)(k set x)(st:zp):(lN G k set x st).2=st.2++(if 0<=Mq G set x st.1 then[(k,(Mq G set x st.1).toNat,x)] else[]):=by
 unfold lN Mq;by_cases h:gV G set x=0
 ·rw[if_pos h,if_pos h];simp
 ·rw[if_neg h,if_neg h];by_cases D:gV G set x∈st.1
  ·rw[if_pos D,if_pos D,if_pos (by omega)];simp
  ·rw[if_neg D,if_neg D,if_pos (by omega)];simp
theorem IQ(G)(k set x)(st:zp):(lN G k set x st).1=if gV G set x=0 then st.1 else if gV G set x∈st.1 then st.1 else st.1++[gV G set x]:=by
 unfold lN;by_cases h:gV G set x=0
 ·rw[if_pos h,if_pos h]
 ·rw[if_neg h,if_neg h];by_cases D:gV G set x∈st.1
  ·rw[if_pos D,if_pos D]
  ·rw[if_neg D,if_neg D]
theorem wD{k:Nat}{r s:List Int}:∀{x:Nat},x<=r.length->gP k (r++s) x=gP k r x
 |0,_=>rfl
 |x+1,h=>by
  rw[lz,lz,wD (by omega),ah,aR (by omega),<-ah]
theorem zS(G:List (Nat×Nat×Nat))(k set:Nat)(st:zp):∀x,(sU G k set st x).2=st.2++gP k (Gw G k set st x) x
 |0=>by simp[sU,gP]
 |x+1=>by
  show(lN G k set x (sU G k set st x)).2=_
  have h:=oK G k set st x;rw[IR,zS G k set st x,cJ];congr 1;rw[Gv,lz,wD (by omega),ah,bj (by omega),h,lB];rfl
theorem uk{r s:List (List Int)}:∀{k:Nat},k<=r.length->fk (r++s) k=fk r k
 |0,_=>rfl
 |k+1,h=>by
  rw[kg,kg,uk (by omega),ah,aR (by omega),<-ah]
theorem OK{G}{L full}:∀{k},k<=(jY G L full k).1.length->(xh G L full k).length=k->(jY G L full k).2=fk (xh G L full k) k->∀{set},(jY G L full k).1[k]? =some set->(xh G L full (k+1)).length=k+1/\(jY G L full (k+1)).2=fk (xh G L full (k+1)) (k+1):=λ{k} _ h E {set} D=>by
 rw[Af D,px D];refine⟨by rw[az,h];rfl,?_⟩;rw[zS,E,kg,uk (by omega),ah,bj (by omega),h,lB];simp only[cM,ci];rw[oK]
theorem Et{G:List (Nat×Nat×Nat)}{L full:Nat}:∀k,k<=(jY G L full k).1.length->(xh G L full k).length=k/\(jY G L full k).2=fk (xh G L full k) k
 |0,_=>⟨rfl,rfl⟩
 |k+1,h=>by
  have F:k<(jY G L full k).1.length:=by
   rcases eE k (jY G L full k).1.length with D|D
   ·exact D
   ·have E:=rQ D 1;rw[E] at h;omega
  obtain⟨D,E⟩:=Et k (io F);obtain⟨set,I⟩:=aE F;exact OK (io F) D E I
theorem vL{G:List (Nat×Nat×Nat)}{L full:Nat}:∀(k i:Nat),(xh G L full k)[i]? =none\/∃r:List Int,(xh G L full k)[i]? =some r/\r.length=L
 |0,i=> .inl (by simp[xh])
 |k+1,i=>by
  cases hg:(jY G L full k).1[k]? with
  |none=>
   have:xh G L full (k+1)=xh G L full k:=by conv=>lhs;unfold xh
                                            rw[hg]
   rw[this];exact vL k i
  |some set=>
   rw[Af hg];by_cases hi:i<(xh G L full k).length
   ·rw[aR hi];exact vL k i
   ·rw[bj (by omega)];by_cases h:i-(xh G L full k).length=0
    ·rw[h];exact .inr ⟨_,rfl,oK _ _ _ _ _⟩
    ·exact .inl (aU (by simp;omega))
theorem oT(k:Nat)(row:List Int):∀x,(gP k row x).length<=x
 |0=>aN _
 |x+1=>by
  have:=oT k row x;rw[lz,az];split<;>simp<;>omega
theorem qN{D:List (List Int)}{L:Nat}(h:∀r∈D,r.length=L):∀k,(fk D k).length<=k*L
 |0=>dW _
 |k+1=>by
  have E:=qN h k;have F:=oT k (D.getD k []) (D.getD k []).length;have I:(D.getD k []).length<=L:=by
   rw[ah];cases hg:D[k]? with
   |none=>exact dW _
   |some r=>exact Nat.le_of_eq (h r (aj hg))
  rw[kg,az,ik];omega
theorem Eo{G}{L N full}(O:0<full/\full<N)(J:∀set x,gV G set x<N)(U:N<=4096):
 (fV G L full).1.length<=4096/\(xh G L full (fV G L full).1.length).length=(fV G L full).1.length/\(fV G L full).2=fk (xh G L full (fV G L full).1.length) (fV G L full).1.length/\(∀r∈xh G L full (fV G L full).1.length,r.length=L):=by
 have Y:(fV G L full).1.length<=N:=(wZ (L:=L) O J 4096).1.few;obtain⟨M,E⟩:=aB ((fV G L full).1.length);rw[<-E] at Y⊢;have D:=Em (L:=L) O J M (4096-M);have W:M+(4096-M)=4096:=Nat.add_sub_cancel' (by omega);rw[W] at D;have Q:(jY G L full M).1.length<=M:=by
  have e:fV G L full=jY G L full 4096:=by rw[fV]
  rw[<-e,<-E] at D;exact D
 have F:=xc Q (by omega);have U:(jY G L full M).1.length=M:=by rw[<-F];exact E.symm
 have I:=Et (G:=G) (L:=L) (full:=full) M (by omega);refine⟨by omega,I.1,by rw[F];exact I.2,λr a0=> ?_⟩;obtain⟨i,hi⟩:=cf.1 a0;rcases vL (G:=G) (L:=L) (full:=full) M i with h|⟨q,h,Z⟩
 ·exact absurd (hi.symm.trans h) (Option.some_ne_none r)
 ·rw[<-gX (h.symm.trans hi)];exact Z
theorem QS{G}{L full}{st:zp}(h:fV G L full=st):Gc G L full=if st.1.length<=12 then some (st.1.length,st.2) else none:=by
 subst h;simp only[Gc]
def mU(l:List Nat)(x:Nat):Nat->Int|0=> -1|i+1=>if l[i]? =some x then(i:Int) else mU l x i
theorem yi{l:List Nat}{x:Nat}(h:x∉l):∀i,mU l x i= -1
 |0=>rfl
 |i+1=>by unfold mU;rw[if_neg (λe=>h (aj e)),yi h i]
theorem yh{l:List Nat}{x:Nat}(E:l.Nodup)(h:x∈l):∀i,mU l x i=if ie x l<i then((ie x l:Nat):Int) else-1
 |0=>by rw[if_neg (by omega)];rfl
 |i+1=>by
  unfold mU;by_cases e:l[i]? =some x
  ·rw[if_pos e,OA E e,if_pos (by omega)]
  ·rw[if_neg e,yh E h i];have I:ie x l≠i:=λF=>e (by rw[<-F];exact zV h)
   by_cases D:ie x l<i
   ·rw[if_pos D,if_pos (by omega)]
   ·rw[if_neg D,if_neg (by omega)]
theorem Jn{l}{x}(D:l.Nodup):mU l x l.length=if x∈l then((ie x l:Nat):Int) else-1:=by
 by_cases h:x∈l
 ·rw[if_pos h,yh D h,if_pos (vE h)]
 ·rw[if_neg h,yi h]
def ne(l:List Nat):List Int:=l.map λ(s:Nat)=>(s:Int)
theorem nT(l):(ne l).length=l.length:=by simp[ne]
theorem pM{l}{i x:Nat}(h:l[i]? =some x):(ne l)[i]? =some (x:Int):=by simp[ne,h]
theorem CZ(l)(x:Nat):ne (l++[x])=ne l++[(x:Int)]:=by simp[ne]
theorem bS.tail{T0}{w}{base}{v}{F}{r}{E}(h:bS T0 w base (v::F) (r::E)):bS T0 w base F E:=
 ⟨by have:=h.len;simpa using this,λi x q D O=>h.own (i+1) x q (by simpa using D) (by simpa using O),λi j x y g D Q I J=>by
  have:=h.apart (i+1) (j+1) x y g (by simpa using D) (by simpa using Q) I J;omega⟩
theorem bS.one{T0}{w}{base}{v}{r}(h:w.ownsRow base T0 1 v r.length (af r)):bS T0 w base [v] [r]:=
 ⟨rfl,λi x q D E=>by
  match i,D,E with
  |0,D,E=>simp at D E;subst D E;exact h,λi j x y g D J _ _=>by
  have F:=(aw.1 D).1;have I:=(aw.1 J).1;simp at F I;omega⟩
def iC(st:Nat->Nat->Nat)(p:Nat×List UInt8)(xs:List (Nat×List UInt8)):Nat->Option (List UInt8)×List (Nat×List UInt8)
 |0=>(none,xs)
 |a+1=>match iC st p xs a with
  |(some r,ys)=>(some r,ys)
  |(none,ys)=>if st p.1 a=0 then(some (p.2++[dO a]),ys) else if st p.1 a∈ys.map (·.1) then(none,ys) else(none,ys++[(st p.1 a,p.2++[dO a])])
def ff(st:Nat->Nat->Nat)(K full:Nat):Nat->Option (List UInt8)×List (Nat×List UInt8)
 |0=>(none,[(full,[])])
 |k+1=>match ff st K full k with
  |(some r,ys)=>(some r,ys)
  |(none,ys)=>match ys[k]? with
   |some p=>iC st p ys K
   |none=>(none,ys)
def rU(st:Nat->Nat->Nat)(full:Nat)(w:List UInt8):Nat:=w.foldl (λs c=>st s (c.toNat-97)) full
theorem Gh(st)(full)(w)(c):rU st full (w++[c])=st (rU st full w) (c.toNat-97):=by simp[rU]
theorem GL{a}(h:a<100):(dO a).toNat-97=a:=by unfold dO;rw[gJ];omega
structure Fg (st : Nat → Nat → Nat) (K full : Nat) (ys : List (Nat × List UInt8)) : Prop where
  reach : ∀ p ∈ ys, rU st full p.2 = p.1 ∧ p.1 ≠ 0 ∧ ∀ c ∈ p.2, ∃ a, a < K ∧ c = dO a
  new : (ys.map (·.1)).Nodup
  start : (full, []) ∈ ys
theorem wQ{st:Nat->Nat->Nat}{K full:Nat}(a4:K<=3){p:Nat×List UInt8}{xs:List (Nat×List UInt8)}(h:Fg st K full xs)(a0:p∈xs):
 ∀a,a<=K->match iC st p xs a with
  |(some r,_)=>rU st full r=0/\∀c∈r,∃a,a<K/\c=dO a
  |(none,ys)=>Fg st K full ys/\(∃zs,ys=xs++zs)/\∀b,b<a->st p.1 b≠0/\st p.1 b∈ys.map (·.1)
 |0,_=>⟨h,⟨[],by simp⟩,λb Y=>by omega⟩
 |a+1,ha=>by
  have U:=wQ a4 h a0 a (by omega);unfold iC;cases hs:iC st p xs a with
  |mk f ys=>
   rw[hs] at U;cases f with
   |some r=>exact U
   |none=>
    obtain⟨F,⟨zs,Q⟩,W⟩:=U;have a5:p∈ys:=by rw[Q];exact iq _ a0
    have a1:=F.reach p a5;have a2:rU st full (p.2++[dO a])=st p.1 a:=by rw[Gh,a1.1,GL (by omega)]
    have Z:∀c∈p.2++[dO a],∃b,b<K/\c=dO b:=λc I=>by
     rcases cH.1 I with I|I
     ·exact a1.2.2 c I
     ·exact⟨a,by omega,by simpa using I⟩
    simp only;by_cases D:st p.1 a=0
    ·rw[if_pos D];exact⟨by rw[a2,D],Z⟩
    ·rw[if_neg D];by_cases J:st p.1 a∈ys.map (·.1)
     ·rw[if_pos J];refine⟨F,⟨zs,Q⟩,λb Y=> ?_⟩;by_cases O:b=a
      ·rw[O];exact⟨D,J⟩
      ·exact W b (by omega)
     ·rw[if_neg J];refine⟨⟨λq E=> ?_,?_,iq _ F.start⟩,⟨zs++[(st p.1 a,p.2++[dO a])],by rw[Q,cJ]⟩,λb Y=> ?_⟩
      ·rcases cH.1 E with E|E
       ·exact F.reach q E
       ·simp at E;subst E;exact⟨a2,D,Z⟩
      ·rw[ek,js];refine⟨F.new,by simp,λx a6 y a3=> ?_⟩;simp at a3;subst a3;exactλe=>J (e▸a6)
      ·by_cases O:b=a
       ·rw[O];exact⟨D,by simp⟩
       ·have:=W b (by omega);exact⟨this.1,by rw[ek];exact iq _ this.2⟩
theorem pl {st : Nat → Nat → Nat} {K full : Nat} (Q : K ≤ 3) (U : full ≠ 0) : ∀ k, match ff st K full k with
      | (some r, _) => rU st full r = 0 ∧ ∀ c ∈ r, ∃ a, a < K ∧ c = dO a
      | (none, ys) => Fg st K full ys ∧ ∀ q, q < k → ∀ p, ys[q]? = some p → ∀ b, b < K → st p.1 b ≠ 0 ∧ st p.1 b ∈ ys.map (·.1)
  | 0 => ⟨⟨fun p h => by
      simp at h
      subst h
      exact ⟨rfl, U, fun c a2 => by cases a2⟩, by simp, by simp⟩, fun q W => by omega⟩
  | k + 1 => by
    have I := pl (st := st) Q U k
    unfold ff
    cases hs : ff st K full k with
    | mk f ys =>
      rw [hs] at I
      cases f with
      | some r => exact I
      | none =>
        obtain ⟨J, O⟩ := I
        simp only
        cases hg : ys[k]? with
        | none =>
          refine ⟨J, fun q W p h => ?_⟩
          by_cases F : q = k
          · rw [F, hg] at h; cases h
          · exact O q (by omega) p h
        | some p =>
          have E := wQ Q J (aj hg) K aQ
          simp only
          cases hr : iC st p ys K with
          | mk f' zs =>
            rw [hr] at E
            cases f' with
            | some r => exact E
            | none =>
              obtain ⟨Z, ⟨a5, Y⟩, a0⟩ := E
              refine ⟨Z, fun q W a3 D => ?_⟩
              have a4 : k < ys.length := (aw.1 hg).1
              rw [Y, aR (by omega)] at D
              by_cases F : q = k
              · subst F
                rw [hg] at D
                injection D with D
                subst D
                exact a0
              · intro b a1
                have := O q (by omega) a3 D b a1
                exact ⟨this.1, by rw [Y, ek]; exact iq _ this.2⟩
def Ld(s v:Nat):Bool:=decide (s/2^v%2=1)
def CB(o:ByteArray)(L n a s v:Nat):Nat->Nat->Nat
 |0,acc=>acc
 |x+1,acc=>if(Ld s v&&decide (ef o (v*L+x)=dO a))=true then CB o L n a s v x acc|||2^((v*L+x)%n) else CB o L n a s v x acc
def BH(o:ByteArray)(L n a s:Nat):Nat->Nat
 |0=>0
 |v+1=>CB o L n a s v L (BH o L n a s v)
def tW(o:ByteArray)(L n s a:Nat):Nat:=BH o L n a s n
theorem Ee{o:ByteArray}{L n a s v acc:Nat}(D:0<n)(h:acc<2^n):∀x,CB o L n a s v x acc<2^n
 |0=>h
 |x+1=>by
  unfold CB;have E:=Ee (o:=o) (L:=L) (a:=a) (s:=s) (v:=v) D h x;split
  ·exact Nat.or_lt_two_pow E (Nat.pow_lt_pow_right (by omega) (dI _ D))
  ·exact E
theorem Ef{o:ByteArray}{L n a s:Nat}(h:0<n):∀m,BH o L n a s m<2^n
 |0=>Nat.pow_pos (by omega)
 |m+1=>Ee h (Ef h m) L
theorem FQ{o}{L n s a}(h:0<n):tW o L n s a<2^n:=Ef h n
structure nu (w : World) (g n : Nat) (xs : List Value) : Prop where
  len : xs.length = n
  lt : g < w.1.size
  cell : ∀ k x, xs[k]? = some x → w.cell? ⟨g, k, none⟩ = some x
  frozen : ∀ k, k < n → w.frozen? ⟨g, k, none⟩ = false
theorem nu.set{w}{g n i}{xs}(h:nu w g n xs)(hi:i<n)(u):nu (w.setCell ⟨g,i,none⟩ u) g n (xs.set i u):=by
 refine⟨by simp[h.len],by simpa using h.lt,λk x E=> ?_,λk D=>(dG _ _ _ _).trans (h.frozen k D)⟩;obtain⟨y,F⟩:=aE (l:=xs) (n:=i) (by rw[h.len];exact hi);by_cases D:k=i
 ·subst D;rw[dV _ _ _ (h.cell k y F)];rw[bU,if_pos rfl,if_pos (by rw[h.len];exact hi)] at E;exact E
 ·rw[bQ _ _ _ _ (λe=>D (by injection e with _ e2;exact e2.symm))];rw[bU,if_neg (λe=>D e.symm)] at E;exact h.cell k x E
theorem nu.below{w w'}{g n B}{xs}(h:nu w g n xs)(D:Below B w w')(E:g<B):nu w' g n xs:=
 ⟨h.len,aH h.lt D.size,λk x I=>(D.cell (p:=⟨g,k,none⟩) E).trans (h.cell k x I),λk F=>(D.frozen (p:=⟨g,k,none⟩) E).trans (h.frozen k F)⟩
theorem nu.drew{w}{g n}{xs}(h:nu w g n xs):nu w.drew g n xs:=⟨h.len,h.lt,h.cell,h.frozen⟩
def Tt(f:Nat->UInt8)(m:Nat):List UInt8:=(List.range m).map f
def TN(o:ByteArray)(k n i:Nat):UInt8:=ef o (fG k (pd k n i).reverse)
def OY(o:ByteArray)(k n:Nat):ByteArray:=⟨(Tt (TN o k n) (k^n)).toArray⟩

def TV(c:UInt8):UInt8:=if c=97 then 98 else 97
def Uc(o:ByteArray)(n i:Nat):UInt8:=TV (ef o (fG 2 ((pd 2 n i).map TV)))
def TD(o:ByteArray)(n:Nat):ByteArray:=⟨(Tt (Uc o n) (2^n)).toArray⟩
theorem GZ(k)(l)(c):fG k (l++[c])=fG k l*k+(c.toNat-97):=by simp[fG,jt]
theorem pt{α:Type}{P:List α->Prop}(h:P [])(D:∀l c,P l->P (l++[c]))(l):P l:=by
 rw[<-List.reverse_reverse l];induction l.reverse with
 |nil=>exact h
 |cons c l ih=>rw[List.reverse_cons];exact D _ _ ih
def LW(L:Nat)(l:List UInt8):Prop:=∀c∈l,∃a,a<L/\c=dO a
theorem LW.app{L}{a b}(h:LW L a)(D:LW L b):LW L (a++b):=λc E=>(cH.1 E).elim (h c) (D c)
theorem LW.take{L}{l}(h:LW L l)(j):LW L (l.take j):=λc D=>h c (dh D)
theorem LW.drop{L}{l}(h:LW L l)(j):LW L (l.drop j):=λc D=>h c (fC D)
theorem LW.lt{L}(J:L<=3):∀{l:List UInt8},LW L l->fG L l<L^l.length:=λ{l}=>by
 refine pt (P:=λl=>LW L l->fG L l<L^l.length) ?_ ?_ l
 ·intro _;simp[fG]
 ·intro l c F h;have I:=F (λd E=>h d (iq _ E));obtain⟨a,O,D⟩:=h c (by simp);rw[GZ,az,List.length_singleton,ft,D,GL (by omega)];have:=eK L (show fG L l+1<=L^l.length by omega);rw[ik] at this;omega
theorem Ec{L:Nat}(D:0<L):∀n x,LW L (pd L n x)
 |0,_=>λc h=>by cases h
 |n+1,x=>(Ec D n (x/L)).app λc h=>⟨x%L,dI _ D,by simpa using h⟩
structure Src (o : ByteArray) (L e : Nat) (w V : List UInt8) : Prop where
  len : V.length = w.length + e
  fb : LW L V
  img : ∀ i, i < w.length → ef o (fG L ((V.drop i).take (e + 1))) = w.getD i 0
theorem oE:∀S,S<13->wrap64 (wrap64 (2^S)-1)=((2^S-1:Nat):Int):=by decide+kernel
theorem uM(L)(S:Nat)(v)(w)(I:S<=12):
 Calls prog 169 #[.agg #[Ud L,Ud S,v]] w λe w'=>e= .returned (Ud ((2^S-1:Nat):Int))/\Below w.1.size w w':=by
 have D:=oE S (by omega);have E:=vC S (by omega);obtain⟨P,h⟩:=aB (α:=Nat) (2^S);rw[<-h] at D E⊢;have J:1<=P:=by rw[h];exact gY S
 have O:P<=4096:=by rw[h];exact iB I
 have F:(P:Int)-1=((P-1:Nat):Int):=(by omega);clear h;go_enter func169,ntmps169;go_wp2;go_ret;exact⟨cW (by first|rfl|(rw[D])|(rw[E,F])),aZ.alloc aQ _⟩
theorem MY(L S)(a)(n c)(G)(set:Nat)(h)(w)(a9:aO w a (n*3) (bC (dg G)))(E:fZ L S G)(b0:set<2^S)(b1:LW L h.1.1)(d5:h.size<=1000)(c2:n<=1048576):
 Calls prog 240 #[.agg #[Ud L,Ud S,.slice a n c],Ud set,.string h] w λe w'=>e= .returned (Ud (uF G set h.1.1 h.size:Nat))/\Below w.1.size w w':=by
 have c1:=aa (λ(W:World) (a2:Below w.1.size w W)=>a9.below a2 aQ);have b4:=aa (λ(W:World) (set x:Nat) (a2:Below w.1.size w W) (b7:set<4096) (b8:x<1000)=>xr L S a n c G set x W (c1.o W a2) E b7 b8 c2);have U:=aa (λ(V:World) (J:Below (w.1.size+1) (w.alloc (.cells #[Ud L,Ud S,.slice a n c] 35)) V)=>dT J);obtain⟨D,F⟩:=aB (w.alloc (.cells #[Ud L,Ud S,.slice a n c] 35));have a1:Below w.1.size w D:=by rw[F];exact aZ.alloc aQ _
 have c4:D.1.size=w.1.size+1:=by rw[F];simp
 rw[<-F,<-c4] at U;have c8:=aa a1;have e1:w.1.size<=D.1.size:=a1.size;have b9:=iB E.s12;have a5:=aa (λk=>show uF G set h.1.1 k<4096 from aH (Ki E b0 h.1.1 k) b9);have b5:=aa b1;have c9:=E.k3;have a0:=aa (λk=>show uF G set h.1.1 (k+1)=gV G (uF G set h.1.1 k) ((h.1.1.getD k 0).toNat-97) from rfl);obtain⟨Z,O⟩:=aB (α:=Nat->Nat) (uF G set h.1.1);have b6:=aa (show Z 0=set by rw[O];rfl);rw[<-O] at a5 a0;rw[<-O];clear a9 a1 O b0 b1 E;go_enter func240,ntmps240;go_wp2;rw[<-F];clear F;go_loopw[1,7] (λo i wr=>∃k:Nat,k<=h.size/\i= Ud k/\o= Ud (Z k:Nat)/\Below D.1.size D wr) (λ_ i _=>h.size-(intOf i).toNat);exact⟨0,by omega,rfl,by rw[b6.o],aZ⟩;obtain⟨k,d0,rfl,rfl,a6⟩:=hrel;obtain⟨⟨e2,e3,e4⟩,e0,a7⟩:=U.o wr a6;by_cases a8:k<h.size
 ·obtain⟨y,b2,Q⟩:∃y,y<L/\h[k].toNat=97+y:=by
   obtain⟨y,b2,e⟩:=b5.o _ (aj (dq h k a8));have:=fx (show y<100 by omega);exact⟨y,b2,by rw[e];omega⟩
  have d2:(k:Int)<(h.size:Int):=(by omega);have d1:(0:Int)<=(k:Int):=(by omega);have Y:=aa (b4.o wr.drew (Z k) y a7.drew (a5.o k) (by omega));have a4:=aa (show gV G (Z k) y=Z (k+1) by
   rw[a0.o,ah,dq h k a8];show _=gV G (Z k) (h[k].toNat-97)
   rw[Q,eL])
  rw[a4.o] at Y;have d3:((h[k].toNat:Int)-97)%256=(y:Int):=by rw[Q];omega
  have c3:((h[k].toNat:Int)-97)=(y:Int):=by rw[Q];omega
  have d9:y<100:=(by omega);have d8:IntKind.i64.wrap (y:Int)=(y:Int):=au _ (by omega);have d7:IntKind.u8.wrap (y:Int)=(y:Int):=by show(y:Int)%256=y;omega
  have d4:IntKind.i64.wrap (h[k].toNat:Int)=(h[k].toNat:Int):=au _ (by omega);have d6:IntKind.u8.wrap ((h[k].toNat:Int)-97)=(y:Int):=by rw[c3];exact(by show(y:Int)%256=y;omega)
  obtain⟨z,a3⟩:=aB (Z k);rw[<-a3] at Y;rw[<-a3];have I:Below D.1.size D wr.drew:=a6.drew;have b3:=aa (λ(V:World) (J:Below D.1.size D V)=>show V.cell? ⟨w.1.size,0,none⟩=some (Ud L)/\V.cell? ⟨w.1.size,1,none⟩=some (Ud S)/\V.cell? ⟨w.1.size,2,none⟩=some (.slice a n c)/\Below D.1.size D V from by
   obtain⟨⟨c5,c6,c7⟩,_⟩:=U.o V J;exact⟨c5,c6,c7,J⟩)
  clear Q a3 a0 a4;go_wp2;go_region_held3(λV=>V.cell? ⟨w.1.size,0,none⟩=some (Ud L)/\V.cell? ⟨w.1.size,1,none⟩=some (Ud S)/\V.cell? ⟨w.1.size,2,none⟩=some (.slice a n c)/\Below D.1.size D V)
   (first|with_reducible exact b3.o _ I)
   (first|(go_at_call 177;refine Y.o.mono ?_;rintro e e5 ⟨rfl,c0⟩;have I:=I.trans (c0.mono I.size)))
  all_goals
   go_wp2
   go_roundw
   exact⟨k+1,by omega,by go_num,rfl,I⟩
   simp[intOf]<;>omega
 ·obtain rfl:k=h.size:=by omega
  go_wp2;go_ret;exact⟨rfl,a7⟩
theorem GX(L S)(a)(n c)(G)(set:Nat)(h)(w)(a9:aO w a (n*3) (bC (dg G)))(E:fZ L S G)(b0:set<2^S)(b1:LW L h.1.1)(d5:h.size<=1000)(c2:n<=1048576):
 Calls prog 174 #[.agg #[Ud L,Ud S,.slice a n c],Ud set,.string h] w λe w'=>e= .returned (Ud (uF G set h.1.1 h.size:Nat))/\Below w.1.size w w':=by
 have c1:=aa (λ(W:World) (a2:Below w.1.size w W)=>a9.below a2 aQ);have b4:=aa (λ(W:World) (set x:Nat) (a2:Below w.1.size w W) (b7:set<4096) (b8:x<1000)=>si L S a n c G set x W (c1.o W a2) E b7 b8 c2);have U:=aa (λ(V:World) (J:Below (w.1.size+1) (w.alloc (.cells #[Ud L,Ud S,.slice a n c] 35)) V)=>dT J);obtain⟨D,F⟩:=aB (w.alloc (.cells #[Ud L,Ud S,.slice a n c] 35));have a1:Below w.1.size w D:=by rw[F];exact aZ.alloc aQ _
 have c4:D.1.size=w.1.size+1:=by rw[F];simp
 rw[<-F,<-c4] at U;have c8:=aa a1;have e1:w.1.size<=D.1.size:=a1.size;have b9:=iB E.s12;have a5:=aa (λk=>show uF G set h.1.1 k<4096 from aH (Ki E b0 h.1.1 k) b9);have b5:=aa b1;have c9:=E.k3;have a0:=aa (λk=>show uF G set h.1.1 (k+1)=gV G (uF G set h.1.1 k) ((h.1.1.getD k 0).toNat-97) from rfl);obtain⟨Z,O⟩:=aB (α:=Nat->Nat) (uF G set h.1.1);have b6:=aa (show Z 0=set by rw[O];rfl);rw[<-O] at a5 a0;rw[<-O];clear a9 a1 O b0 b1 E;go_enter func174,ntmps174;go_wp2;rw[<-F];clear F;go_loopw[1,10] (λo i wr=>∃k:Nat,k<=h.size/\i= Ud k/\o= Ud (Z k:Nat)/\Below D.1.size D wr) (λ_ i _=>h.size-(intOf i).toNat);exact⟨0,by omega,rfl,by rw[b6.o],aZ⟩;obtain⟨k,d0,rfl,rfl,a6⟩:=hrel;obtain⟨⟨e2,e3,e4⟩,e0,a7⟩:=U.o wr a6;by_cases a8:k<h.size
 ·obtain⟨y,b2,Q⟩:∃y,y<L/\h[k].toNat=97+y:=by
   obtain⟨y,b2,e⟩:=b5.o _ (aj (dq h k a8));have:=fx (show y<100 by omega);exact⟨y,b2,by rw[e];omega⟩
  have d2:(k:Int)<(h.size:Int):=(by omega);have d1:(0:Int)<=(k:Int):=(by omega);have Y:=aa (b4.o wr.drew (Z k) y a7.drew (a5.o k) (by omega));have a4:=aa (show gV G (Z k) y=Z (k+1) by
   rw[a0.o,ah,dq h k a8];show _=gV G (Z k) (h[k].toNat-97)
   rw[Q,eL])
  rw[a4.o] at Y;have d3:((h[k].toNat:Int)-97)%256=(y:Int):=by rw[Q];omega
  have c3:((h[k].toNat:Int)-97)=(y:Int):=by rw[Q];omega
  have d9:y<100:=(by omega);have d8:IntKind.i64.wrap (y:Int)=(y:Int):=au _ (by omega);have d7:IntKind.u8.wrap (y:Int)=(y:Int):=by show(y:Int)%256=y;omega
  have d4:IntKind.i64.wrap (h[k].toNat:Int)=(h[k].toNat:Int):=au _ (by omega);have d6:IntKind.u8.wrap ((h[k].toNat:Int)-97)=(y:Int):=by rw[c3];exact(by show(y:Int)%256=y;omega)
  obtain⟨z,a3⟩:=aB (Z k);rw[<-a3] at Y;rw[<-a3];have I:Below D.1.size D wr.drew:=a6.drew;have b3:=aa (λ(V:World) (J:Below D.1.size D V)=>show V.cell? ⟨w.1.size,0,none⟩=some (Ud L)/\V.cell? ⟨w.1.size,1,none⟩=some (Ud S)/\V.cell? ⟨w.1.size,2,none⟩=some (.slice a n c)/\Below D.1.size D V from by
   obtain⟨⟨c5,c6,c7⟩,_⟩:=U.o V J;exact⟨c5,c6,c7,J⟩)
  clear Q a3 a0 a4;go_wp2;go_region_held3(λV=>V.cell? ⟨w.1.size,0,none⟩=some (Ud L)/\V.cell? ⟨w.1.size,1,none⟩=some (Ud S)/\V.cell? ⟨w.1.size,2,none⟩=some (.slice a n c)/\Below D.1.size D V)
   (first|with_reducible exact b3.o _ I)
   (first|(go_at_call 170;refine Y.o.mono ?_;rintro e e5 ⟨rfl,c0⟩;have I:=I.trans (c0.mono I.size)))
  all_goals
   go_wp2
   go_roundw
   exact⟨k+1,by omega,by go_num,rfl,I⟩
   simp[intOf]<;>omega
 ·obtain rfl:k=h.size:=by omega
  go_wp2;go_ret;exact⟨rfl,a7⟩
theorem jH{P}{wr:World}{J}{O}{o}{a}{Q}
 (Y:o.guard=none)(s x)(t)(a1:o.op=Op.call {callee:=Callee.builtin Builtin.append,args:=#[s,x],argTypes:=#[t,t]})
 (B)(e)(U:P.underlying t=some (.slice e))(a0:(P.info? e).map (λi=>(i.zero,i.size,i.bytes))=some (some (Ud 0),1,8))
 (v)(m)(xs)(u)(a3:wr.ownsRow B e 1 v m xs)(a5:a.eval s=v)(a6:a.eval x= .slice (some ⟨wr.1.size,0,none⟩) 1 1)
 (b1:m<=1048576)(b0:B<=wr.1.size)
 (W:∀E c' D,D.ownsRow B e 1 (.slice (some ⟨E,0,none⟩) (m+1) c') (m+1) (xs++[Ud u])->wr.grownBy D v.ownBlock->(v.ownBlock=some E\/wr.1.size<=E)->wpList P J Q O (a.put o.dst (.slice (some ⟨E,0,none⟩) (m+1) c')) D):
 wpList P J Q (o::O) a (wr.alloc (.cells #[Ud u] e)):=by
 obtain⟨i,hi,a7,a8,a9⟩:=info_parts a0;refine wpList_append_lies _ Y s x t a1 B e i _ 1 8 U hi a7 a8 a9 rfl (by decide) v m xs a5 (a3.alloc _) ⟨wr.1.size,0,none⟩ 1 1 [Ud u] a6 rfl ?_ (by intro y I;simp at I;subst I;rfl) (by omega) (by unfold maxLen;omega) (by omega) (by simp;omega) (wr.1.size+1) (by simp) ?_
 ·intro j y F;match j,F with
  |0,F=>
   simp at F;subst F;show(wr.alloc (.cells #[Ud u] e)).cell? _=_
   simp[Addr.add]
 ·intro g cap D a4 Z a2 _;refine W g cap D a4 (dd (cC _ _ _) Z) ?_;rcases a2 with h|h
  ·exact .inl h
  ·exact .inr (by omega)
def Fh(D:List Nat)(F:List (List Int))(w:World)(e:Ending)(w':World):Prop:=
 ∃E h,e= .returned (.tuple #[E,h])/\w'.ownsRow w.1.size 3 1 E D.length (af (ne D))/\ct 37 3 w' w.1.size h F/\Below w.1.size w w'
theorem Ov{T0}{w D}{base}{v v'}{F}{r}{E}{x}(h:bS T0 w base (v::F) (r::E))
 (J:D.ownsRow base T0 1 v' (r.length+1) (af (r++[x])))(I:w.grownBy D v.ownBlock)(O:∀g,v'.ownBlock=some g->v.ownBlock=some g\/w.1.size<=g):bS T0 D base (v'::F) ((r++[x])::E):=
 h.replace (i:=0) rfl rfl J I O
theorem vB{T0}{w F}{base}{v v'}{D}{r}{E}{x}(h:bS T0 w base (D++[v]) (E++[r]))
 (O:F.ownsRow base T0 1 v' (r.length+1) (af (r++[x])))(J:w.grownBy F v.ownBlock)(Q:∀g,v'.ownBlock=some g->v.ownBlock=some g\/w.1.size<=g):bS T0 F base (D++[v']) (E++[r++[x]]):=by
 have I:D.length=E.length:=by have:=h.len;simpa using this
 have:=h.replace (i:=D.length) (by simp) (by rw[I];simp) O J Q;rw[lR _ _ aQ,lB,I,lR _ _ aQ,lB] at this;exact this
theorem tm{w:World}{g n c}{v:Value}(h:v.ownBlock=some g\/w.1.size<=g):∀q,(Value.slice (some ⟨g,0,none⟩) n c).ownBlock=some q->v.ownBlock=some q\/w.1.size<=q:=λq D=>by
 have e:g=q:=by
  simp only[Value.ownBlock,aI] at D;exact D
 rw[<-e];exact h
theorem Ml{T0}{w}{base}{v}{E}{r}{D}(h:bS T0 w base (v::E) (r::D)):w.ownsRow base T0 1 v r.length (af r):=h.own 0 v r rfl rfl
theorem vK{T0}{w}{base}{v}{D}{r}{E}(h:bS T0 w base (D++[v]) (E++[r])):w.ownsRow base T0 1 v r.length (af r):=by
 have F:D.length=E.length:=by have:=h.len;simpa using this
 exact h.own D.length v r (by simp) (by rw[F];simp)
theorem MX(L S)(a)(n c)(G)(w)(f2:aO w a (n*3) (bC (dg G)))(b3:fZ L S G)(p4:n<=1048576):
 Calls prog 179 #[.agg #[Ud L,Ud S,.slice a n c]] w (Fh (fV G L (2^S-1)).1 (xh G L (2^S-1) (fV G L (2^S-1)).1.length) w):=by
 have m9:=aa (λ(k0:World) (set x:Nat) (o8:Below w.1.size w k0) (J:set<4096) (o4:x<1000)=>xr L S a n c G set x k0 (f2.below o8 aQ) b3 J o4 p4);have c4:=aa (λ(V:World) (d0:Below (w.1.size+1) (w.alloc (.cells #[Ud L,Ud S,.slice a n c] 35)) V)=>dT d0);obtain⟨h,b9⟩:=aB (w.alloc (.cells #[Ud L,Ud S,.slice a n c] 35));have k1:Below w.1.size w h:=by rw[b9];exact aZ.alloc aQ _
 have l8:h.1.size=w.1.size+1:=by rw[b9];simp
 rw[<-b9,<-l8] at c4;have o5:=iB b3.s12;have p6:1<=2^S:=gY S;have p7:2<=2^S:=by have:=bG (n:=2) (by omega) b3.s1;simpa using this
 have d8:=aa (λ(set x:Nat)=>show gV G set x<2^S from rE b3);have o6:=b3.k3;have r9:=b3.s12;have q1:IntKind.u64.wrap (S:Int)=(S:Int):=dS _ (by omega);have p3:min S 64=S:=(by omega);obtain⟨F,h0⟩:=aB (2^S-1);obtain⟨N,e7⟩:=aB (2^S);rw[<-h0];rw[<-e7] at p6 p7 o5 d8;have k2:F=N-1:=by rw[h0,e7]
 clear h0;have p0:0<F/\F<N:=(by omega);have m6:=aa (λk=>wZ (G:=G) (L:=L) p0 d8.o k);obtain⟨⟨f4,f5,f6⟩,_⟩:=c4.o h aZ;have s5:IntKind.i64.wrap (F:Int)=(F:Int):=au _ (by omega);unfold Fh;have p9:∀j,j=S->wrap64 (wrap64 (2^j)-1)=(F:Int):=λj b5=>by subst b5;rw[oE j (by omega),k2,e7]
 clear f2 b3 e7 k2;go_enter func179,ntmps179;go_wp2_with(rw[<-b9]);first|rw[<-b9]|skip
 have c2:=aa (show(((h.alloc (.cells #[Ud F] 3)).alloc (.cells #[] 37)).ownsRow h.1.size 37 1 (.slice (some ⟨w.1.size+1+1,0,none⟩) 0 0) 0 [])/\bS 3 ((h.alloc (.cells #[Ud F] 3)).alloc (.cells #[] 37)) h.1.size [.slice (some ⟨w.1.size+1,0,none⟩) 1 1] [ne [F]]/\Below h.1.size h ((h.alloc (.cells #[Ud F] 3)).alloc (.cells #[] 37)) from by
  have k4:Below h.1.size h (h.alloc (.cells #[Ud F] 3)):=aZ.alloc aQ _;have k5:Below (h.alloc (.cells #[Ud F] 3)).1.size (h.alloc (.cells #[Ud F] 3)) ((h.alloc (.cells #[Ud F] 3)).alloc (.cells #[] 37)):=aZ.alloc aQ _;refine⟨?_,bS.one (ai ?_ k5),bs k4 k5⟩
  ·have:=bd (w:=h.alloc (.cells #[Ud F] 3)) (base:=h.1.size) (e:=37) #[] [] rfl k4.size (by unfold maxLen;simp);have m1:(h.alloc (.cells #[Ud F] 3)).1.size=w.1.size+1+1:=by simp;omega
   rw[m1] at this;exact this
  ·have:=bd (w:=h) (base:=h.1.size) (e:=3) #[Ud F] (af (ne [F])) rfl aQ (by unfold maxLen;simp);rw[l8] at this⊢;exact this)
 obtain⟨r4,h1⟩:=aB ((h.alloc (.cells #[Ud F] 3)).alloc (.cells #[] 37));rw[<-h1] at c2;rw[<-h1];have f7:=aa k1;clear h1 b9 f4 f5 f6 k1 p9 q1 p3;go_loopw[4,5,6] (λsv' q2 i wr=>∃(K:Nat) (Y:List Value) (i7 f3:Value),bv (i7=sv')/\bv (f3=q2)/\i= Ud K/\bv (K<=(jY G L F K).1.length)/\bv ((xh G L F K).length=K)/\wr.ownsRow h.1.size 37 1 f3 K Y/\bS 3 wr h.1.size (i7::Y) (ne (jY G L F K).1::xh G L F K)/\Below h.1.size h wr) (λ_ _ i _=>4097-(intOf i).toNat);exact⟨0,[],_,_,aa rfl,aa rfl,rfl,aa (dW _),aa rfl,c2.o.1,c2.o.2.1,c2.o.2.2⟩;clear c2;obtain⟨K,Y,i7,f3,i3,h4,rfl,j3,d9,a3,I,Q⟩:=hrel;have i3:=i3.o;have h4:=h4.o;subst i3 h4;have d2:=(m6.o K).1;have h3:=d2.few;have q0:Y.length=K:=by have:=I.len;rw[cZ,cZ,d9.o] at this;omega
 obtain⟨q7,q6,b7⟩:=dm (Ml I);rw[nT] at b7;have n0:=aa b7;by_cases c0:K<(jY G L F K).1.length
 ·obtain⟨set,d3⟩:=aE c0;have s4:=(d2.pos set (aj d3)).2;have j9:=aa (λx (d4:x<=L)=>d2.xs (G:=G) (set:=set) c0 (d8.o set) x d4);have g6:=aa (px d3);have e0:=aa (Af d3);have e3:=aa d3;obtain⟨st,l7⟩:=aB (jY G L F K);obtain⟨i6,l4⟩:=aB (xh G L F K);rw[<-l7] at j9 g6 I e3 c0 b7 e0 j3 n0 h3;rw[<-l4] at I e0 d9;have m7:=aa a3;have e4:=aa I;have d6:=aa Q;obtain⟨q,h8⟩:=aB st.1.length;rw[<-h8] at b7 c0 h3;have j6:=aa h8;have r7:(K:Int)<(q:Int):=(by omega);have e6:K<4096:=(by omega);clear l7 l4 d2 a3 I Q d3 h8;subst b7;go_wp2;have j7:=aa (show bS 3 (wr.alloc (.cells #[] 3)) h.1.size (.slice q7 q q6::Y++[.slice (some ⟨wr.1.size,0,none⟩) 0 0]) (ne st.1::i6++[[]]) from by
   have:=bS.snoc e4.o d6.o.size [] #[] rfl (by unfold maxLen;simp);exact this)
  have j4:=aa (ai m7.o (aZ.alloc aQ (.cells #[] 3)));have i9:=aa (d6.o.alloc d6.o.size (.cells #[] 3));go_loopw[4,7,8] (λn4 n5 i wr=>∃(x:Nat) (sv' m2:Value),x<=L/\i= Ud x/\bv (sv'=n4)/\bv (m2=n5)/\wr.ownsRow h.1.size 37 1 f3 K Y/\bS 3 wr h.1.size (sv'::Y++[m2]) (ne (sU G K set st x).1::i6++[Gw G K set st x])/\Below h.1.size h wr) (λ_ _ i _=>L-(intOf i).toNat);exact⟨0,_,_,by omega,rfl,aa rfl,aa rfl,j4.o,j7.o,i9.o⟩;clear j4 j7 i9;obtain⟨x,q8,q5,d4,rfl,i1,i2,a3,I,Q⟩:=hrel;have i1:=i1.o;have i2:=i2.o;subst i1 i2;have n3:=j9.o x d4;obtain⟨h6,s9,e9⟩:=n3;have k9:=h6.few;have p1:=aa e9;have f0:=h6.new;obtain⟨r6,r5,i0⟩:=dm (Ml I);rw[nT] at i0;have c1:(sU G K set st x).1[K]? =some set:=by rw[e9,aR (by rw[<-j6.o];exact c0)];exact e3.o
  have l6:wr.cell? ⟨0,0,none⟩=wr.cell? ⟨0,0,none⟩:=rfl;by_cases s1:x<L
  ·have b6:=Ml I;rw[nT] at b6;obtain⟨a0,cs,d1,_,_⟩:=dP b6 (fY (aj c1));have k8:wr.cell? ⟨a0,K,none⟩=some (Ud set):=by
    rw[d1] at b6;exact(b6.cellAt K (by have:=(aw.1 c1).1;omega)).trans (aP (pM c1))
   have l0:a0<wr.1.size:=by rw[d1] at b6;exact(b6.lt _ rfl).2
   have g3:=aa (show(sU G K set st x).1.length<4097 from by omega);have k3:K<(sU G K set st x).1.length:=(aw.1 c1).1;have e1:=aa (Gv G K set st x);have e2:=aa (show sU G K set st (x+1)=lN G K set x (sU G K set st x) from rfl);obtain⟨D,l5⟩:=aB (sU G K set st x);rw[<-l5] at I d1 e1 e2 k3 g3 f0;have r0:=aa d1;subst d1;obtain⟨W,f1⟩:=aB D.1.length;have a7:=aa f1;rw[<-f1] at k3 g3 I;rw[<-f1];have s3:=g3.o;have r8:(K:Int)<(W:Int):=(by omega);have s6:(x:Int)<(L:Int):=(by omega);obtain⟨⟨f4,f5,f6⟩,m1,k7⟩:=c4.o wr Q;have g5:=aa (m9.o wr.drew set x k7.drew (by omega) (by omega));have j8:=aa (show gV G set x<N from d8.o set x);have c5:=aa (show Mq G set x D.1=if gV G set x=0 then-1 else if gV G set x∈D.1 then((ie (gV G set x) D.1:Nat):Int) else((D.1.length:Nat):Int) from rfl);have c6:=aa (IQ G K set x D);obtain⟨E,m0⟩:=aB (gV G set x);rw[<-m0] at g5 j8 c5 c6;have g1:=aa f0;have m8:=aa a3;have n2:=aa I;have d7:=aa Q;have b4:Below wr.1.size wr wr.drew:=aZ.drew;have j2:=aa (λ(V:World) (d0:Below wr.1.size wr V)=>show V.cell? ⟨w.1.size,0,none⟩=some (Ud L)/\V.cell? ⟨w.1.size,1,none⟩=some (Ud S)/\V.cell? ⟨w.1.size,2,none⟩=some (.slice a n c)/\V.cell? ⟨a0,K,none⟩=some (Ud set)/\Below wr.1.size wr V from by
    obtain⟨⟨q3,W,q4⟩,_⟩:=c4.o V (d7.o.trans (d0.mono d7.o.size));exact⟨q3,W,q4,(d0.cell (p:=⟨a0,K,none⟩) l0).trans k8,d0⟩)
   clear m0 l5 f1 b6 f0 a3 I Q h6 e9 c1 k9 l6 i0;go_wp2;go_region_held3(λV=>V.cell? ⟨w.1.size,0,none⟩=some (Ud L)/\V.cell? ⟨w.1.size,1,none⟩=some (Ud S)/\V.cell? ⟨w.1.size,2,none⟩=some (.slice a n c)/\V.cell? ⟨a0,K,none⟩=some (Ud set)/\Below wr.1.size wr V)
    (first|with_reducible exact j2.o _ b4)
    (first|(go_at_call 177;refine g5.o.mono ?_;rintro e i8 ⟨rfl,k6⟩;have b4:=b4.trans (k6.mono b4.size)))
   have U:=aa (n2.o.below b4);have b8:=aa (ai m8.o b4);have d5:=aa (d7.o.trans (b4.mono d7.o.size));have a4:h.1.size<=i8.1.size:=d5.o.size;have r3:=U;clear j2 g5 f4 f5 f6 k8 k6 k7 l0;by_cases c9:E=0
   ·have Z:=aa (c5.o.trans (if_pos c9));have a6:=aa (c6.o.trans (if_pos c9));have s2:(0:Int)<(W:Int):=(by omega);clear c5 c6 g1 j8 e3;subst c9;go_wp2;refine wp_loop_rounds 1 ?_;rw[rounds_succ];go_wp2_with(first|(at_builtin;go_must(refine jH rfl _ _ 37 rfl h.1.size 3 underlying37 bK _ _ _ (-1) (vK (U.o)) rfl rfl (by rw[oK];omega) a4 ?_);intro a9 a8 m4 b1 O b0));have c8:=aa (vB (v':=.slice (some ⟨a9,0,none⟩) ((Gw G K set st x).length+1) a8) (x:=(-1)) U.o (by simpa[af] using b1) O (tm b0));have c7:=aa (b8.o.kept O (eD b8.o (vK U.o) (by decide)));have c3:=aa (d5.o.grown O a4 (λk a1=>((vK U.o).lt k a1).1));clear b1 O b0;go_roundw;exact⟨x+1,(.slice (some ⟨a0,0,none⟩) W cs),.slice (some ⟨a9,0,none⟩) ((Gw G K set st x).length+1) a8,by omega,by go_num,aa rfl,aa rfl,c7.o,by rw[e1.o,e2.o,a6.o,Z.o];skip;exact c8.o,c3.o⟩;simp[intOf]<;>omega
   ·have s8:(0:Int)<(E:Int):=by omega
    have f9:=aa (λ(j y:Nat) (b5:D.1[j]? =some y)=>show i8.cell? ⟨a0,j,none⟩=some (Ud y) from by
     have J:=Ml U.o;rw[nT,<-a7.o] at J;exact(J.cellAt j (by have:=(aw.1 b5).1;rw[a7.o];omega)).trans (aP (pM b5)))
    have Z:=aa (c5.o.trans (if_neg c9));have a6:=aa (c6.o.trans (if_neg c9));have a5:=aa (show mU D.1 E W=if E∈D.1 then((ie E D.1:Nat):Int) else-1 from by rw[a7.o];exact Jn g1.o);have g2:=aa (λn9:E∈D.1=>show ie E D.1<W from by rw[a7.o];exact vE n9);have g0:=aa (λ(j y:Nat) (b5:D.1[j]? =some y)=>show mU D.1 E (j+1)=if y=E then(j:Int) else mU D.1 E j from by
     show(if D.1[j]? =some E then(j:Int) else mU D.1 E j)=_
     rw[b5];by_cases e:y=E
     ·rw[if_pos (by rw[e]),if_pos e]
     ·rw[if_neg (by simpa using e),if_neg e])
    clear c5 c6 g1 e3;go_wp2;go_loop[10,11] (λn6 i=>∃j:Nat,j<=W/\i= Ud j/\n6= Ud (mU D.1 E j)) (λ_ i=>W-(intOf i).toNat);exact⟨0,by omega,rfl,rfl⟩;obtain⟨j,b5,rfl,rfl⟩:=hrel;by_cases p2:j<W
    ·obtain⟨y,i5⟩:=aE (l:=D.1) (n:=j) (by rw[<-a7.o];exact p2);have s7:=f9.o j y i5;have b2:=aa (g0.o j y i5);have s0:(j:Int)<(W:Int):=(by omega);obtain⟨A,g9⟩:=aB (mU D.1 E j);rw[<-g9] at b2;rw[<-g9];clear i5 g9;by_cases e:y=E
     ·have n7:((y:Int)==(E:Int))=true:=by simp[e]
      have b2:=aa (b2.o.trans (if_pos e));clear e;go_wp2;go_round;exact⟨j+1,by omega,by go_num,by rw[b2.o]⟩;simp[intOf];omega
     ·have n7:((y:Int)==(E:Int))=false:=by simp;omega
      have b2:=aa (b2.o.trans (if_neg e));clear e;go_wp2;go_round;exact⟨j+1,by omega,by go_num,by rw[b2.o]⟩;simp[intOf];omega
    ·obtain rfl:j=W:=by omega
     by_cases a2:E∈D.1
     ·have Z:=aa (Z.o.trans (if_pos a2));have a6:=aa (a6.o.trans (if_pos a2));have a5:=aa (a5.o.trans (if_pos a2));have p8:=g2.o a2;obtain⟨p,h7⟩:=aB (ie E D.1);rw[a5.o,<-h7];rw[<-h7] at Z p8;clear a5 g2 g0 f9 a2 h7;go_wp2_with(first|(at_builtin;go_must(refine jH rfl _ _ 37 rfl h.1.size 3 underlying37 bK _ _ _ (Nat.cast p) (vK (U.o)) rfl rfl (by rw[oK];omega) a4 ?_);intro a9 a8 m4 b1 O b0));have c8:=aa (vB (v':=.slice (some ⟨a9,0,none⟩) ((Gw G K set st x).length+1) a8) (x:=(Nat.cast p)) U.o (by simpa[af] using b1) O (tm b0));have c7:=aa (b8.o.kept O (eD b8.o (vK U.o) (by decide)));have c3:=aa (d5.o.grown O a4 (λk a1=>((vK U.o).lt k a1).1));clear b1 O b0;go_roundw;exact⟨x+1,(.slice (some ⟨a0,0,none⟩) j cs),.slice (some ⟨a9,0,none⟩) ((Gw G K set st x).length+1) a8,by omega,by go_num,aa rfl,aa rfl,c7.o,by rw[e1.o,e2.o,a6.o,Z.o];skip;exact c8.o,c3.o⟩;simp[intOf]<;>omega
     ·have Z:=aa (Z.o.trans (if_neg a2));have a6:=aa (a6.o.trans (if_neg a2));have a5:=aa (a5.o.trans (if_neg a2));rw[a5.o];rw[<-a7.o] at Z;have g4:=aa (show i8.ownsRow h.1.size 3 1 (.slice (some ⟨a0,0,none⟩) j cs) j (af (ne D.1)) from by
       have J:=Ml U.o;rw[nT,<-a7.o] at J;exact J)
      clear a5 g2 g0 f9 a2;go_wp2_with(first|(at_builtin;refine jH rfl _ _ 37 rfl h.1.size 3 underlying37 bK _ j _ (E:Int) g4.o rfl rfl (by omega) a4 ?_;intro g8 g7 m3 l3 e8 l2;have e5:bv (bS 3 m3 h.1.size (.slice (some ⟨g8,0,none⟩) (j+1) g7::Y++[q5]) ((ne D.1++[(E:Int)])::i6++[Gw G K set st x])):=aa (Ov (v':=.slice (some ⟨g8,0,none⟩) (j+1) g7) (x:=(E:Int)) U.o (by rw[nT,<-a7.o];simpa[af] using l3) e8 (tm l2));have j5:=aa (b8.o.kept e8 (eD b8.o g4.o (by decide)));have j0:=aa (d5.o.grown e8 a4 (λk a1=>(g4.o.lt k a1).1));have l9:h.1.size<=m3.1.size:=j0.o.size)|(at_builtin;go_must(refine jH rfl _ _ 37 rfl h.1.size 3 underlying37 bK _ _ _ (Nat.cast j) (vK (e5.o)) rfl rfl (by rw[oK];omega) l9 ?_);intro a9 a8 m4 b1 O b0));have c8:=aa (vB (v':=.slice (some ⟨a9,0,none⟩) ((Gw G K set st x).length+1) a8) (x:=(Nat.cast j)) e5.o (by simpa[af] using b1) O (tm b0));have c7:=aa (j5.o.kept O (eD j5.o (vK e5.o) (by decide)));have c3:=aa (j0.o.grown O l9 (λk a1=>((vK e5.o).lt k a1).1));clear b1 O b0 l3 e8 l2;go_roundw;exact⟨x+1,(.slice (some ⟨g8,0,none⟩) (j+1) g7),.slice (some ⟨a9,0,none⟩) ((Gw G K set st x).length+1) a8,by omega,by go_num,aa rfl,aa rfl,c7.o,by rw[e1.o,e2.o,a6.o,Z.o];rw[CZ];exact c8.o,c3.o⟩;simp[intOf]<;>omega
  ·obtain rfl:x=L:=by omega
   obtain⟨n8,cr,h9⟩:=dm (vK I);rw[oK] at h9;have r1:=aa (show x<=3 from o6);have r2:=aa h9;have h5:=aa a3;have o7:=aa I;have o9:=aa Q;have a4:h.1.size<=wr.1.size:=Q.size;obtain⟨⟨f4,f5,f6⟩,_⟩:=c4.o wr Q;subst h9;clear a3 I Q i0 l6 f0 c1 e9 k9;go_wp2_with(first|(at_builtin;go_must(refine eu rfl _ _ 24 rfl h.1.size 37 (.slice none 0 0) 24 underlying24 eS rfl _ K Y _ h5.o rfl rfl rfl (by omega) (by unfold maxLen;omega) a4 ?_);intro q9 t0 p5 l1));have n1:=aa (o7.o.kept h5.o (by decide) l1);have f8:=aa (o9.o.grown l1 a4 (λk a1=>(h5.o.lt k a1).1));go_roundw;exact⟨K+1,Y++[.slice n8 x cr],q8,q9,aa rfl,aa rfl,by go_num,aa (by rw[g6.o,p1.o,az,<-j6.o];omega),aa (by rw[e0.o,az,d9.o];rfl),p5,by rw[g6.o,e0.o];exact n1.o,f8.o⟩;simp[intOf];omega
 ·have e6:(jY G L F K).1.length=K:=by have:=j3.o;omega
  have h2:=aa (xc (G:=G) (L:=L) (full:=F) (k:=K) (by omega) (by omega));have e4:=aa I;have m5:=aa a3;have d6:=aa Q;have f8:=aa (f7.o.trans (Q.mono f7.o.size));have i4:=f7.o.size;rw[e6] at b7;have j1:=aa e6;clear I a3 Q d2 h3 c0 e6 q0;subst b7;go_wp2;go_ret2;refine⟨_,_,rfl,?_,⟨Y,?_,?_⟩,f8.o⟩
  ·rw[h2.o];have J:=Ml e4.o;rw[nT] at J;exact aT J i4
  ·rw[h2.o,j1.o,d9.o];exact aT m5.o i4
  ·rw[h2.o,j1.o];have J:=e4.o.tail;exact⟨J.len,λi x r d4 f2=>aT (J.own i x r d4 f2) i4,J.apart⟩
end Go.Proofs.YtbdlbckeffakjaaGreatDoor
