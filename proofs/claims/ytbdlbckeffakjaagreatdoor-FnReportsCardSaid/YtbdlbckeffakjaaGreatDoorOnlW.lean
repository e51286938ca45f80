/- Sets of states as bits: the number of the only one, the reference's function. Conditions: a small set. -/
import Derived.Test.YtbdlbckeffakjaaGreatDoorTgtW
namespace Go.Proofs.YtbdlbckeffakjaaGreatDoor
set_option maxHeartbeats 4000000
set_option maxRecDepth 100000
open Go.Proofs.Tryz Go.RowKit
def Ci(cls:List Int)(a b:Nat):Bool:=decide (cls.getD a 0=cls.getD b 0)
def qO(cls:List Int)(G:List (Nat×Nat×Nat))(p q:Nat):Nat->Bool|0=>true|x+1=>qO cls G p q x&&jX (Ci cls) (fU G p x) (fU G q x)
theorem xL{cls:List Int}{G:List (Nat×Nat×Nat)}{p q x:Nat}(h:jX (Ci cls) (fU G p x) (fU G q x)=false):∀j,qO cls G p q (x+1+j)=false
 |0=>by show(qO cls G p q x&&_)=false;rw[h];simp
 |j+1=>by show(qO cls G p q (x+1+j)&&_)=false;rw[xL h j];rfl
theorem vh{L S}{G}{p x t}(D:fZ L S G)(h:fU G p x=some t):t<S:=by
 unfold fU at h;rw[eV] at h;obtain⟨a,E,rfl⟩:=h;exact(D.arc a (jV E)).2.1
theorem Qe{cls}{a b}(h:cls.getD a 0=cls.getD b 0):Ci cls a b=true:=decide_eq_true h
theorem Qf{cls}{a b}(h:¬cls.getD a 0=cls.getD b 0):Ci cls a b=false:=decide_eq_false h
theorem Jp(L S)(a)(n c)(G)(c4)(d6)(cls)(p q)(w)(d2:aO w a (n*3) (bC (dg G)))(O:fZ L S G)(e2:n<=1048576)(d1:aO w c4 S (af cls))(f4:cls.length=S)(f6:p<S)(f7:q<S):
 Calls prog 239 #[.agg #[Ud L,Ud S,.slice a n c],.slice c4 S d6,Ud p,Ud q] w λe w'=>e= .returned (.bool (qO cls G p q L))/\Below w.1.size w w':=by
 have Y:=aa (λ(V:World) (Q:Below (w.1.size+1) (w.alloc (.cells #[Ud L,Ud S,.slice a n c] 35)) V)=>dT Q);obtain⟨J,U⟩:=aB (w.alloc (.cells #[Ud L,Ud S,.slice a n c] 35));have D:Below w.1.size w J:=by rw[U];exact aZ.alloc aQ _
 have e3:J.1.size=w.1.size+1:=by rw[U];simp
 rw[<-U,<-e3] at Y;have f0:=aa D;have g2:w.1.size<=J.1.size:=D.size;have c0:=aa (λ(c2:World) (r x:Nat) (d7:Below w.1.size w c2)=>Ry L S a n c G r x c2 (d2.below d7 aQ) e2);have f2:=O.s1;obtain⟨c3,c5,rfl,d8,d9⟩:=d1.at_ (by omega);have b3:=aa (λ(V:World) (Q:Below w.1.size w V) (t:Nat) (f8:t<S)=>show V.cell? ⟨c3,c5+t,none⟩=some (Ud (cls.getD t 0)) from by
  obtain⟨z,E⟩:=aE (l:=cls) (n:=t) (by omega);rw[ah,E];exact(Q.cell (p:=⟨c3,c5+t,none⟩) d8).trans (d9 t _ (aP E)))
 have c1:=aa (λ(r x t:Nat) (h:fU G r x=some t)=>vh O h);have b6:=aa (λ(k:Nat) (e0:k<L) (h:jX (Ci cls) (fU G p k) (fU G q k)=false)=>show qO cls G p q L=false from by
  have:=xL h (L-(k+1));rw[show k+1+(L-(k+1))=L by omega] at this;exact this)
 have b7:=aa (λ(k:Nat)=>show qO cls G p q (k+1)=(qO cls G p q k&&jX (Ci cls) (fU G p k) (fU G q k)) from rfl);obtain⟨a0,a1⟩:=aB (α:=Nat->Bool) (qO cls G p q);rw[<-a1] at b6 b7;have d5:=aa (show a0 0=true by rw[a1];rfl);have f1:=O.k3;have f3:=O.s12;rw[<-a1];clear d2 D a1 O d1;go_enter func239,ntmps239;go_wp2;rw[<-U];clear U;go_loopw[9] (λi wr=>∃k:Nat,k<=L/\i= Ud k/\bv (a0 k=true)/\Below J.1.size J wr) (λi _=>L-(intOf i).toNat);exact⟨0,by omega,rfl,d5,aZ⟩;obtain⟨k,e0,rfl,a9,b0⟩:=hrel;obtain⟨⟨a3,a4,a5⟩,E,c9⟩:=Y.o wr b0;by_cases e1:k<L
 ·have f5:(k:Int)<(L:Int):=by omega
  have Z:=aa (b7.o k);have I:=aa (b6.o k e1);have b8:=aa (c0.o wr p k c9);have b9:=aa (λV Q=>c0.o V q k Q);have b4:=aa (c1.o p k);have b5:=aa (c1.o q k);obtain⟨A,c6⟩:=aB (fU G p k);obtain⟨B,D⟩:=aB (fU G q k);rw[<-c6] at Z I b8 b4;rw[<-D] at Z I b9 b5;clear c6 D;go_wp2_with fail;refine b8.o.mono ?_;rintro e d4 ⟨rfl,c7⟩;have a2:=b0.trans (c7.mono b0.size);clear a3 a4 a5;obtain⟨⟨a3,a4,a5⟩,_,d0⟩:=Y.o d4 a2;go_wp2_with fail;refine(b9.o d4 d0).mono ?_;rintro e b2 ⟨rfl,c8⟩;have b1:=a2.trans (c8.mono a2.size);clear a3 a4 a5;obtain⟨⟨a3,a4,a5⟩,_,W⟩:=Y.o b2 b1;clear c7 c8 a2 d0;cases A with
  |none=>
   cases B with
   |none=>
    have a7:=aa (show a0 (k+1)=true by rw[Z.o,a9.o];rfl);simp only[yI];go_wp2;go_quiet(fail);go_wp2;go_roundw;exact⟨k+1,by omega,by go_num,a7,aA b1 _⟩;simp[intOf]<;>omega
   |some u=>
    have F:=aa (I.o rfl);have e7:decide ((u:Int)<0)=false:=decide_eq_false (by omega);simp only[yI];go_wp2;go_quiet(fail);go_wp2;go_ret;exact⟨aG F.o.symm,aA W _⟩
  |some t=>
   cases B with
   |none=>
    have F:=aa (I.o rfl);have e4:decide ((t:Int)<0)=false:=decide_eq_false (by omega);simp only[yI];go_wp2;go_quiet(fail);go_wp2;go_ret;exact⟨aG F.o.symm,aA W _⟩
   |some u=>
    have e4:decide ((t:Int)<0)=false:=decide_eq_false (by omega);have e7:decide ((u:Int)<0)=false:=decide_eq_false (by omega);have f9:decide ((0:Int)<=(t:Int))=true:=decide_eq_true (by omega);have e5:=b4.o t rfl;have e8:=b5.o u rfl;have e6:=b3.o b2 W t e5;have e9:=b3.o b2 W u e8;simp only[yI];have a6:=aa (λ(h:cls.getD t 0=cls.getD u 0)=>show a0 (k+1)=true from by rw[Z.o,a9.o];exact Qe h);have a8:=aa (λ(h:¬cls.getD t 0=cls.getD u 0)=>I.o (Qf h));obtain⟨y,d3⟩:=aB (cls.getD t 0);obtain⟨z,E⟩:=aB (cls.getD u 0);rw[<-d3] at e6 a6 a8;rw[<-E] at e9 a6 a8;clear d3 E;by_cases e:y=z
    ·have a7:=aa (a6.o e);subst e;go_wp2;go_quiet(fail);go_wp2;go_roundw;exact⟨k+1,by omega,by go_num,a7,aA b1 _⟩;simp[intOf]<;>omega
    ·have F:=aa (a8.o e);have g0:(y==z)=false:=by simpa using e
     have g1:decide (y=z)=false:=decide_eq_false e;go_wp2;go_quiet(fail);go_wp2;go_ret;exact⟨aG F.o.symm,aA W _⟩
 ·obtain rfl:k=L:=by omega
  go_wp2;go_ret;exact⟨aG a9.o.symm,c9⟩
theorem Iq{r s:Nat->Nat->Bool}{S:Nat}(h:∀a b,a<S->b<S->r a b=s a b):∀x y:Option Nat,(∀a,x=some a->a<S)->(∀b,y=some b->b<S)->jX r x y=jX s x y
 |none,none,_,_=>rfl
 |none,some _,_,_=>rfl
 |some _,none,_,_=>rfl
 |some a,some b,h1,h2=>h a b (h1 a rfl) (h2 b rfl)
theorem Ir{cls:List Int}{G:List (Nat×Nat×Nat)}{L S t:Nat}(D:fZ L S G)(h:∀a b,a<S->b<S->Ci cls a b=ez G L t a b)(p q:Nat):∀k,qO cls G p q k=(List.range k).all λx=>jX (ez G L t) (fU G p x) (fU G q x)
 |0=>rfl
 |k+1=>by
  show(qO cls G p q k&&_)=_
  rw[Ir D h p q k,Iq h _ _ (λa e=>vh D e) (λb e=>vh D e),bh,jd];simp
theorem Gf{cls}{G}{L S t}(D:fZ L S G)(h:∀a b,a<S->b<S->Ci cls a b=ez G L t a b){p q}(E:p<S)(F:q<S):(Ci cls p q&&qO cls G p q L)=ez G L (t+1) p q:=by
 rw[Ir D h,h p q E F];rfl
def kx(r:Nat->Nat->Bool)(S:Nat):List Int:=(List.range S).map λp=>((fW r p:Nat):Int)
def jN(r:Nat->Nat->Bool)(S:Nat):List Int:=(List.range S).map λp=>((nh r p:Nat):Int)
theorem Ge(r)(S):(kx r S).length=S:=by simp[kx]
theorem Hz(r)(S):(jN r S).length=S:=by simp[jN]
theorem py{r}{S p}(h:p<S):(kx r S).getD p 0=((fW r p:Nat):Int):=by simp[kx,ah,h]
theorem qd{r}{S p}(h:p<S):(jN r S).getD p 0=((nh r p:Nat):Int):=by simp[jN,ah,h]
theorem RX{r}(h:Cm r){S a b}(D:a<S)(E:b<S):Ci (kx r S) a b=r a b:=by
 unfold Ci;rw[py D,py E,bF,decide_eq_true_iff,<-mw h];omega
theorem RY{r}(h:Cm r){S a b}(D:a<S)(E:b<S):Ci (jN r S) a b=r a b:=by
 unfold Ci;rw[qd D,qd E,bF,decide_eq_true_iff,<-zm h];omega
theorem Gd(p)(G)(L):fW (ez G L 0) p=0:=by
 have h:=fg G L 0;exact zb h rfl (λj D=>by omega)
def CJ(r:Nat->Nat->Bool)(p j:Nat):Bool:=(List.range p).any λq=>decide (j<=q)&&r q p
def BU(r:Nat->Nat->Bool)(p j:Nat):Nat:=if CJ r p j=true then fW r p else p
theorem pw{r}{p j}:CJ r p j=true↔∃q,q<p/\j<=q/\r q p=true:=by
 unfold CJ;rw[bB];constructor
 ·rintro⟨q,D,h⟩;rw[aC,decide_eq_true_iff] at h;exact⟨q,aD.1 D,h.1,h.2⟩
 ·rintro⟨q,D,E,F⟩;exact⟨q,aD.2 D,by rw[aC,decide_eq_true_iff];exact⟨E,F⟩⟩
theorem OE(r)(p):BU r p p=p:=by
 unfold BU;rw[if_neg];rw[pw];rintro⟨q,h,D,_⟩;omega
theorem OG{r}(h:Cm r){p j}(D:j<p)(e:r j p=true):BU r p j=fW r j:=by
 unfold BU;rw[if_pos (pw.2 ⟨j,D,aN _,e⟩)];exact((mw h).2 e).symm
theorem Mp{r}{p j}(e:r j p=false):BU r p j=BU r p (j+1):=by
 have I:CJ r p j=CJ r p (j+1):=by
  rw[bF,pw,pw];constructor
  ·rintro⟨q,D,F,h⟩;refine⟨q,D,?_,h⟩;rcases Nat.eq_or_lt_of_le F with E|E
   ·subst E;rw[e] at h;cases h
   ·exact E
  ·rintro⟨q,D,F,h⟩;exact⟨q,D,by omega,h⟩
 unfold BU;rw[I]
theorem OH{r}(h:Cm r)(p):BU r p 0=fW r p:=by
 unfold BU;by_cases E:CJ r p 0=true
 ·rw[if_pos E]
 ·rw[if_neg E];obtain⟨F,I,_⟩:=fK h p;rcases Nat.eq_or_lt_of_le F with D|D
  ·exact D.symm
  ·exact absurd (pw.2 ⟨fW r p,D,dW _,h.symm _ _ I⟩) E
def xo(r:Nat->Nat->Bool)(p j:Nat):Bool:=(List.range j).any λq=>r p q
theorem ME(r)(p j):xo r p (j+1)=(xo r p j||r p j):=by simp[xo,bh]
theorem GG{r}(h:Cm r)(p):xo r p p= !cX r p:=by
 obtain⟨J,E,F⟩:=fK h p;rw[bF,xo,bB];unfold cX;rw[Bool.not_eq_true',decide_eq_false_iff_not];constructor
 ·rintro⟨q,I,e⟩ D;have:=F q (by rw[D];exact aD.1 I);rw[e] at this;cases this
 ·intro e;exact⟨fW r p,aD.2 (by omega),E⟩
theorem Hy{r}{p}(e:cX r p=true):nh r p=bW (cX r) p:=by
 unfold cX at e;rw[decide_eq_true_iff] at e;unfold nh;rw[e]
theorem Ny(r)(p):jN r (p+1)=jN r p++[((nh r p:Nat):Int)]:=by simp[jN,bh]
def Fp(r:Nat->Nat->Bool)(S p v:Nat):List Int:=(List.range S).map λi=>if i<p then((fW r i:Nat):Int) else if i=p then((v:Nat):Int) else 0
theorem Gx(r)(S):af (Fp r S 0 0)=(madeCells (Value.int .i64 0).cells (S*1)).toList:=by
 rw[kC];refine congrArg af ?_;unfold Fp;refine da (by simp) λi h D=> ?_
 simp
theorem Kl{r}{S p v u}:(af (Fp r S p v)).set p (Ud ((u:Nat):Int))=af (Fp r S p u):=by
 refine da (by simp[Fp,af]) λj h D=> ?_
 rw[ms];simp only[Fp,af,jP,iU];by_cases e:p=j
 ·subst e;simp
 ·rw[if_neg e];by_cases k:j<p
  ·simp[k]
  ·simp[k,show¬j=p by omega]
theorem OI(r)(S p):Fp r S p (fW r p)=Fp r S (p+1) 0:=by
 unfold Fp;refine bp λi _=> ?_
 by_cases h:i<p
 ·rw[if_pos h,if_pos (by omega)]
 ·rw[if_neg h];by_cases e:i=p
  ·subst e;rw[if_pos rfl,if_pos (by omega)]
  ·rw[if_neg e,if_neg (by omega)];split<;>rfl
theorem Rb(r)(S v):Fp r S S v=kx r S:=by
 unfold Fp kx;refine bp λi hi=> ?_
 rw[if_pos (aD.1 hi)]
theorem Ra{r}{S p v q}(h:q<p)(D:p<S):(Fp r S p v)[q]? =some ((fW r q:Nat):Int):=by
 unfold Fp;rw[dl,fR (by omega)];simp[h]
theorem OJ{r}{S p v}(h:p<S):(Fp r S p v)[p]? =some ((v:Nat):Int):=by
 unfold Fp;rw[dl,fR h];simp
def jD(a b:List Int)(j:Nat):Bool:=(List.range j).any λi=> !decide (a.getD i 0=b.getD i 0)
theorem Bf(a b)(j):jD a b (j+1)=(jD a b j|| !decide (a.getD j 0=b.getD j 0)):=by simp[jD,bh]
theorem Hq{a b}{S}:jD a b S=false↔∀i,i<S->a.getD i 0=b.getD i 0:=by
 unfold jD;rw[List.any_eq_false];constructor
 ·intro h i hi;have:=h i (aD.2 hi);simpa using this
 ·intro h i hi;have:=h i (aD.1 hi);simp only[Bool.not_eq_true,Bool.not_eq_false',decide_eq_true_eq];exact this
theorem RN{G}{L S t}:jD (kx (ez G L (t+1)) S) (kx (ez G L t) S) S=false↔jR G L S t:=by
 rw[Hq,FR];constructor
 ·intro h p D;have:=h p D;rw[py D,py D] at this;omega
 ·intro h p D;rw[py D,py D,h p D]
theorem RO{G}{L S t}:jD (jN (ez G L t) S) (jN (ez G L (t+1)) S) S=false↔jR G L S t:=by
 rw[Hq,NW];constructor
 ·intro h p D;have:=h p D;rw[qd D,qd D] at this;omega
 ·intro h p D;rw[qd D,qd D,h p D]
theorem Ow{G}{L S t}(h:jR G L S t):kx (ez G L (t+1)) S=kx (ez G L t) S:=by
 unfold kx;exact bp λp D=>by rw[(FR.1 h p (aD.1 D)).symm]
theorem Hv{G}{L S t k}(h:¬jR G L S t)(F:S+1-ot G L S t<=k):S+1-ot G L S (t+1)<k:=by
 have D:=Qb h;have E:=JE G L S (t+1);omega
def Fm(f:(Nat->Nat->Bool)->Nat->List Int)(L S:Nat)(G:List (Nat×Nat×Nat))(w:World)(e:Ending)(w':World):Prop:=
 ∃t g c:Nat,jR G L S t/\e= .returned (.slice (some ⟨g,0,none⟩) S c)/\w'.ownsRow w.1.size 3 1 (.slice (some ⟨g,0,none⟩) S c) S (af (f (ez G L t) S))/\Below w.1.size w w'
theorem fF{w:World}{base e size n}{v}{xs}(h:w.ownsRow base e size v n xs)(m):(w.drewN m).ownsRow base e size v n xs:=h
theorem Mc(G)(L t p q):ez G L t p q=ez G L t q p:=by
 rw[bF];exact⟨(fg G L t).symm p q,(fg G L t).symm q p⟩
theorem CP(G)(L S):af (kx (ez G L 0) S)=(madeCells (Value.int .i64 0).cells (S*1)).toList:=by
 rw[<-Gx (ez G L 0) S];refine congrArg af ?_;unfold kx Fp;refine bp λi _=> ?_
 rw[Gd,if_neg (by omega)];split<;>rfl
theorem ED(L S)(a)(n c)(G)(w)(h2:aO w a (n*3) (bC (dg G)))(c2:fZ L S G)(j6:n<=1048576):
 Calls prog 180 #[.agg #[Ud L,Ud S,.slice a n c]] w (Fm kx L S G w):=by
 have h9:=aa (λ(e5:World) (g2:Option Addr) (i9:Nat) (cls:List Int) (p q:Nat) (j1:Below w.1.size w e5) (b3:aO e5 g2 S (af cls)) (j3:cls.length=S) (d4:p<S) (f2:q<S)=>Jp L S a n c G g2 i9 cls p q e5 (h2.below j1 aQ) c2 j6 b3 j3 d4 f2);have a4:=aa (λ(V:World) (a2:Below (w.1.size+1) (w.alloc (.cells #[Ud L,Ud S,.slice a n c] 35)) V)=>dT a2);obtain⟨I,b1⟩:=aB (w.alloc (.cells #[Ud L,Ud S,.slice a n c] 35));have g4:Below w.1.size w I:=by rw[b1];exact aZ.alloc aQ _
 have f3:I.1.size=w.1.size+1:=by rw[b1];simp
 rw[<-b1,<-f3] at a4;have k7:=c2.s1;have k8:=c2.s12;have g1:=aa (λ(t p q:Nat) (d4:p<S) (f2:q<S)=>Gf c2 (cls:=kx (ez G L t) S) (t:=t) (λa b j2 a3=>RX (fg G L t) j2 a3) d4 f2);obtain⟨h7,hi,h4,h5,h6⟩:=info_parts bK;unfold Fm;clear h2 c2;have b6:=aa g4;go_enter func180,ntmps180;go_wp2_with(first|(at_make;refine wpList_make_full _ rfl _ _ 37 rfl (w.1.size+1) 3 h7 (Ud 0) 1 underlying37 hi h4 h5 .i64 .i64 _ _ S rfl rfl rfl rfl (by rw[h6];omega) (by unfold maxLen;omega) (by simp) ?_;intro h8 c4 f0;rw[<-b1] at f0 c4;rw[<-f3] at c4;have e8:Below I.1.size I h8:=aZ.grown f0 aQ (by intro k h;cases h);obtain⟨⟨W,Y,Z⟩,_⟩:=a4.o h8 e8));rw[<-CP G L S] at c4;have F:=aa c4;have D:=aa e8;first|rw[<-b1]|skip
 clear c4 f0 e8 b1 W Y Z g4;go_loopg[3,4] (S+1) (λk cls e6 wr=>∃(t g c':Nat) (b:Bool),cls= .slice (some ⟨g,0,none⟩) S c'/\e6= .bool b/\wr.ownsRow I.1.size 3 1 (.slice (some ⟨g,0,none⟩) S c') S (af (kx (ez G L t) S))/\Below I.1.size I wr/\bv ((b=true/\S+1-ot G L S t<=k)\/(b=false/\jR G L S t)));exact⟨0,I.1.size,S,true,by rw[f3],rfl,F.o,D.o,aa (.inl ⟨rfl,by omega⟩)⟩;clear F D;obtain⟨t,g,c',b,rfl,rfl,b4,E,c8⟩:=hrel;cases b
 ·have d1:=aa (show jR G L S t from by
   rcases c8.o with⟨h,_⟩|⟨_,h⟩
   ·cases h
   ·exact h)
  have d0:=aa b4;have c6:=aa E;clear b4 E c8;go_wp2;go_ret;exact⟨t,g,c',d1.o,rfl,aT d0.o b6.o.size,b6.o.trans (c6.o.mono b6.o.size)⟩
 ·have e0:=aa (show S+1-ot G L S t<=gk from by
   rcases c8.o with⟨_,h⟩|⟨h,_⟩
   ·exact h
   ·cases h)
  have i1:=aa (λh=>Hv (G:=G) (L:=L) (S:=S) (t:=t) h e0.o);have i2:=aa (show 0<gk from by have:=e0.o;have:=JE G L S t;omega);have b8:=aa (RN (G:=G) (L:=L) (S:=S) (t:=t));have e3:=aa (λh=>Ow (G:=G) (L:=L) (S:=S) (t:=t) h);have e2:=aa (g1.o t);have d9:=aa (fg G L (t+1));have d8:=aa (Mc G L (t+1));obtain⟨R,e7⟩:=aB (ez G L (t+1));obtain⟨cls,d2⟩:=aB (kx (ez G L t) S);have i6:=aa e7;have i3:=aa d2;have b3:=aa (show cls.length=S by rw[d2,Ge]);rw[<-e7] at d9 d8 b8 e2 e3;rw[<-d2] at b4 b8 e2 e3;have d0:=aa b4;have c6:=aa E;have c1:=E.size;have j4:g<wr.1.size:=(b4.lt g rfl).2;obtain⟨⟨W,Y,Z⟩,_⟩:=a4.o wr E;clear b4 E c8 e7 d2 e0 g1;obtain⟨f9,rfl⟩:=aB wr;go_wp2_with(first|(at_make;refine wpList_make_full _ rfl _ _ 37 rfl I.1.size 3 h7 (Ud 0) 1 underlying37 hi h4 h5 .i64 .i64 _ _ S rfl rfl rfl rfl (by rw[h6];omega) (by unfold maxLen;omega) c1 ?_;intro f8 f1 h0;have b2:Below f9.1.size f9 f8:=aZ.grown h0 aQ (by intro k h;cases h);have e9:=c6.o.trans (b2.mono c1);obtain⟨⟨W,Y,Z⟩,_⟩:=a4.o f8 e9));rw[<-Gx R S] at f1;have a9:=aa f1;have c0:=aa (ai d0.o b2);have b7:=aa e9;clear f1 h0 b2 e9 W Y Z d0 c6;obtain⟨b0,d3⟩:=aB f9.1.size;rw[<-d3] at a9 j4 c1;rw[<-d3];have l3:¬(g=b0):=(by omega);have k5:=aa d3;clear d3;go_loopw[6] (λi wr=>∃p:Nat,p<=S/\i= Ud p/\wr.ownsRow I.1.size 3 1 (.slice (some ⟨b0,0,none⟩) S S) S (af (Fp R S p 0))/\wr.ownsRow I.1.size 3 1 (.slice (some ⟨g,0,none⟩) S c') S (af cls)/\Below I.1.size I wr) (λi _=>S-(intOf i).toNat);exact⟨0,by omega,rfl,a9.o,c0.o,b7.o⟩;clear a9 c0 b7
  obtain⟨p,d4,rfl,J,Q,E⟩:=hrel;obtain⟨⟨W,Y,Z⟩,_⟩:=a4.o wr E;by_cases c3:p<S
  ·have l4:(p:Int)<(S:Int):=by omega
   have j7:=(J.cellAt p (by omega)).trans (aP (OJ c3));have j8:=J.frozenAt p;have U:=J.stored p (Ud (p:Int));rw[Kl] at U;have O:=aa U.1;have F:=aa (Q.kept U.2 (.inr (by simp[Value.ownBlock];omega)));have D:=aa (E.grown U.2 E.size (by rintro k ⟨⟩;exact c1));clear J Q U E;go_wp2;go_loopw[7] (λi wr=>∃(j:Nat) (x:Int),j<=p/\i= Ud x/\bv (x=(j:Int)-1)/\wr.ownsRow I.1.size 3 1 (.slice (some ⟨b0,0,none⟩) S S) S (af (Fp R S p (BU R p j)))/\wr.ownsRow I.1.size 3 1 (.slice (some ⟨g,0,none⟩) S c') S (af cls)/\Below I.1.size I wr) (λi _=>(intOf i+1).toNat);exact⟨p,(p:Int)-1,by omega,by go_num,aa rfl,by rw[OE];exact O.o,F.o,D.o⟩;clear O F D W Y Z;obtain⟨j,x,j5,rfl,e4,J,Q,E⟩:=hrel;obtain⟨⟨W,Y,Z⟩,_⟩:=a4.o wr E;cases j with
   |zero=>
    obtain rfl:x= -1:=by have:=e4.o;omega
    rw[OH d9.o,OI] at J;have O:=aa J;have F:=aa Q;have D:=aa E;clear J Q E;go_wp2;go_roundw;exact⟨p+1,by omega,by go_num,O.o,F.o,D.o⟩;simp[intOf]<;>omega
   |succ q=>
    obtain rfl:x=(q:Int):=by have:=e4.o;omega
    have h1:q<S:=(by omega);have l5:(q:Int)<(S:Int):=(by omega);obtain⟨a6,f7⟩:=aE (l:=cls) (n:=q) (by rw[b3.o];omega);obtain⟨d6,f6⟩:=aE (l:=cls) (n:=p) (by rw[b3.o];omega);have g7:=(Q.cellAt q (by omega)).trans (aP f7);have g6:=(Q.cellAt p (by omega)).trans (aP f6);have g9:g<wr.1.size:=(Q.lt g rfl).2;have O:=aa J;have F:=aa Q;have D:=aa E;have a1:=aa (e2.o p q c3 h1);have c9:=aa (λh:R p q=true=>OG d9.o (p:=p) (j:=q) (by omega) (by rw[d8.o];exact h));have b9:=aa (λh:R p q=false=>Mp (r:=R) (p:=p) (j:=q) (by rw[d8.o];exact h));have c7:=aa (show Ci cls p q=decide (d6=a6) from by unfold Ci;rw[ah,ah,f6,f7];rfl);clear f7 f6 J Q E e4;by_cases e:a6=d6
    ·have a1:=aa (show R p q=qO cls G p q L from by rw[<-a1.o,c7.o,decide_eq_true e.symm];rfl);obtain⟨i8,k1⟩:=aB (α:=Option Addr) (some ⟨g,0,none⟩);have d7:=aa (λ(V:World) (a2:Below wr.1.size wr V)=>by
      obtain⟨a',k6,g8,k0⟩:=aS (ai F.o a2) (by omega);simp only[aJ,true_and] at g8;obtain⟨rfl,rfl⟩:=g8;exact h9.o V (some ⟨g,0,none⟩) c' cls p q (b6.o.trans ((D.o.trans (a2.mono D.o.size)).mono b6.o.size)) k0 b3.o c3 h1)
     obtain⟨i7,g5⟩:=aB (qO cls G p q L);rw[<-g5] at d7 a1;clear g5 k1 c7 i8;subst e;have a5:Below wr.1.size wr wr.drew:=aZ.drew;have g0:=aa (λ(V:World) (a2:Below wr.1.size wr V)=>show V.cell? ⟨w.1.size,0,none⟩=some (Ud L)/\V.cell? ⟨w.1.size,1,none⟩=some (Ud S)/\V.cell? ⟨w.1.size,2,none⟩=some (.slice a n c)/\V.cell? ⟨g,q,none⟩=some (Ud a6)/\V.cell? ⟨g,p,none⟩=some (Ud a6)/\Below wr.1.size wr V from by
      obtain⟨⟨k2,k3,k4⟩,_⟩:=a4.o V (D.o.trans (a2.mono D.o.size));exact⟨k2,k3,k4,(a2.cell (p:=⟨g,q,none⟩) g9).trans g7,(a2.cell (p:=⟨g,p,none⟩) g9).trans g6,a2⟩)
     go_wp2;go_region_held3(λV=>V.cell? ⟨w.1.size,0,none⟩=some (Ud L)/\V.cell? ⟨w.1.size,1,none⟩=some (Ud S)/\V.cell? ⟨w.1.size,2,none⟩=some (.slice a n c)/\V.cell? ⟨g,q,none⟩=some (Ud a6)/\V.cell? ⟨g,p,none⟩=some (Ud a6)/\Below wr.1.size wr V)
      (first|with_reducible exact g0.o _ a5)
      (first|(go_at_call 239;refine(d7.o _ a5).mono ?_;rintro e f8 ⟨rfl,b2⟩;have a5:=a5.trans (b2.mono a5.size)))
     all_goals
      have a8:=aa (ai O.o a5)
      have e1:=aa (ai F.o a5)
      have c5:=aa (D.o.trans (a5.mono D.o.size))
      clear O F D g0 d7 W Y Z g7 g6 b2
      cases i7 with
      |false=>
       have a7:=aa (b9.o a1.o);clear b9 c9 a1;go_wp2;go_roundw;exact⟨q,(q:Int)-1,by omega,by go_num,aa rfl,by rw[a7.o];exact a8.o,e1.o,c5.o⟩;simp[intOf]<;>omega
      |true=>
       have a7:=aa (c9.o a1.o);clear b9 c9 a1;have j7:=(a8.o.cellAt p (by omega)).trans (aP (OJ c3));have j9:=(a8.o.cellAt q (by omega)).trans (aP (Ra (show q<p by omega) c3));have j8:=a8.o.frozenAt p;have U:=a8.o.stored p (Ud ((fW R q:Nat):Int));rw[Kl] at U;have a9:=aa U.1;have c0:=aa (e1.o.kept U.2 (.inr (by simp[Value.ownBlock];omega)));have b7:=aa (c5.o.grown U.2 c5.o.size (by rintro k ⟨⟩;exact c1));clear U a8 e1 c5;obtain⟨l6,h3⟩:=aB (fW R q);rw[<-h3] at j9 a9 c0 b7 a7;clear h3;go_wp2;go_roundw;exact⟨q,(q:Int)-1,by omega,by go_num,aa rfl,by rw[a7.o];exact a9.o,c0.o,b7.o⟩;simp[intOf]<;>omega
    ·have a7:=aa (b9.o (by rw[<-a1.o,c7.o,decide_eq_false (λh=>e h.symm)];rfl));have g3:(a6==d6)=false:=by simpa using e
     have j0:decide (a6=d6)=false:=decide_eq_false e;clear a1 c9 b9 c7;go_wp2;go_quiet(fail);go_wp2;go_roundw;exact⟨q,(q:Int)-1,by omega,by go_num,aa rfl,by rw[a7.o];exact fF O.o _,fF F.o _,aA D.o _⟩;simp[intOf]<;>omega
  ·obtain rfl:p=S:=by omega
   rw[Rb] at J;have O:=aa J;have F:=aa Q;have D:=aa E;clear J Q E;go_wp2;go_loopw[4,8] (λe6 i wr=>∃j:Nat,j<=p/\i= Ud j/\e6= .bool (jD (kx R p) cls j)/\wr.ownsRow I.1.size 3 1 (.slice (some ⟨b0,0,none⟩) p p) p (af (kx R p))/\bv (wr.ownsRow I.1.size 3 1 (.slice (some ⟨g,0,none⟩) p c') p (af cls))/\Below I.1.size I wr) (λ_ i _=>p-(intOf i).toNat);exact⟨0,by omega,rfl,rfl,O.o,aa F.o,D.o⟩;clear O F D W Y Z;obtain⟨j,j5,rfl,rfl,J,F,E⟩:=hrel;obtain⟨⟨W,Y,Z⟩,_⟩:=a4.o wr E;by_cases l2:j<p
   ·have l1:(j:Int)<(p:Int):=by omega
    obtain⟨d5,f4⟩:=aE (l:=cls) (n:=j) (by rw[b3.o];omega);obtain⟨b5,f5⟩:=aE (l:=kx R p) (n:=j) (by rw[Ge];omega);have k9:=(F.o.cellAt j (by omega)).trans (aP f4);have l0:=(J.cellAt j (by omega)).trans (aP f5);have a0:=aa (show jD (kx R p) cls (j+1)=(jD (kx R p) cls j|| !decide (b5=d5)) from by rw[Bf,ah,ah,f5,f4];rfl);have O:=aa J;have D:=aa E;obtain⟨b,a3⟩:=aB (jD (kx R p) cls j);rw[<-a3] at a0;rw[<-a3];clear f4 f5 J E a3;cases b with
    |true=>
     have a0:=aa (show jD (kx R p) cls (j+1)=true from a0.o);go_wp2;go_quiet(fail);go_wp2;go_roundw;exact⟨j+1,by omega,by go_num,by rw[a0.o],fF O.o _,aa (fF F.o _),aA D.o _⟩;simp[intOf]<;>omega
    |false=>
     by_cases e:b5=d5
     ·have i4:=aa (show jD (kx R p) cls (j+1)=false from by rw[a0.o,decide_eq_true e];rfl);clear a0;subst e;have g3:(b5 !=b5)=false:=(by simp);go_wp2;go_quiet(fail);go_wp2;go_roundw;exact⟨j+1,by omega,by go_num,by rw[i4.o],fF O.o _,aa (fF F.o _),aA D.o _⟩;simp[intOf]<;>omega
     ·have a0:=aa (show jD (kx R p) cls (j+1)=true from by rw[a0.o,decide_eq_false e];rfl);have g3:(b5 !=d5)=true:=by simpa using e
      have j0:decide (b5=d5)=false:=decide_eq_false e;go_wp2;go_quiet(fail);go_wp2;go_roundw;exact⟨j+1,by omega,by go_num,by rw[a0.o],fF O.o _,aa (fF F.o _),aA D.o _⟩;simp[intOf]<;>omega
   ·obtain rfl:j=p:=by omega
    have O:=aa J;have D:=aa E;obtain⟨b,a3⟩:=aB (jD (kx R j) cls j);rw[<-a3] at b8;rw[<-a3];clear J E a3 F;cases b with
    |true=>
     have i5:=aa (show¬jR G L j t fromλh=>by have:=b8.o.2 h;cases this);have i0:=aa (i1.o i5.o);go_wp2;go_roundg(j+1-ot G L j (t+1));case measure=>exact i0.o
     case rel=>exact⟨t+1,b0,j,true,rfl,rfl,by rw[<-i6.o];exact O.o,D.o,aa (.inl ⟨rfl,aN _⟩)⟩
    |false=>
     have d1:=aa (b8.o.1 rfl);go_wp2;go_roundg 0;case measure=>exact i2.o
     case rel=>exact⟨t,b0,j,false,rfl,rfl,by rw[<-i3.o,<-e3.o d1.o];exact O.o,D.o,aa (.inr ⟨rfl,d1.o⟩)⟩
theorem GW(L S)(a)(n c)(G)(d3)(e4)(cls)(p q)(w)(d8:aO w a (n*3) (bC (dg G)))(a2:fZ L S G)(f2:n<=1048576)(d7:aO w d3 S (af cls))(h2:cls.length=S)(f3:p<S)(f4:q<S):
 Calls prog 236 #[.agg #[Ud L,Ud S,.slice a n c],.slice d3 S e4,Ud p,Ud q] w λe w'=>e= .returned (.bool (Ci cls p q&&qO cls G p q L))/\Below w.1.size w w':=by
 have a5:=aa (λ(V:World) (F:Below (w.1.size+1) (w.alloc (.cells #[Ud L,Ud S,.slice a n c] 35)) V)=>dT F);obtain⟨E,U⟩:=aB (w.alloc (.cells #[Ud L,Ud S,.slice a n c] 35));have J:Below w.1.size w E:=by rw[U];exact aZ.alloc aQ _
 have f5:E.1.size=w.1.size+1:=by rw[U];simp
 rw[<-U,<-f5] at a5;have e2:=aa J;have h8:w.1.size<=E.1.size:=J.size;have c9:=aa (λ(d1:World) (r x:Nat) (e5:Below w.1.size w d1)=>uc L S a n c G r x d1 (d8.below e5 aQ) f2);have h0:=a2.s1;obtain⟨d2,d4,rfl,e6,e7⟩:=d7.at_ (by omega);have a6:=aa (λ(V:World) (F:Below w.1.size w V) (t:Nat) (h6:t<S)=>show V.cell? ⟨d2,d4+t,none⟩=some (Ud (cls.getD t 0)) from by
  obtain⟨z,O⟩:=aE (l:=cls) (n:=t) (by omega);rw[ah,O];exact(F.cell (p:=⟨d2,d4+t,none⟩) e6).trans (e7 t _ (aP O)))
 have d0:=aa (λ(r x t:Nat) (h:fU G r x=some t)=>vh a2 h);have c7:=aa (λ(k:Nat) (f0:k<L) (h:jX (Ci cls) (fU G p k) (fU G q k)=false)=>show qO cls G p q L=false from by
  have:=xL h (L-(k+1));rw[show k+1+(L-(k+1))=L by omega] at this;exact this)
 have c8:=aa (λ(k:Nat)=>show qO cls G p q (k+1)=(qO cls G p q k&&jX (Ci cls) (fU G p k) (fU G q k)) from rfl);obtain⟨Z,a9⟩:=aB (α:=Nat->Bool) (qO cls G p q);rw[<-a9] at c7 c8;have e3:=aa (show Z 0=true by rw[a9];rfl);have g9:=a2.k3;have h1:=a2.s12;rw[<-a9];have e8:=a6.o E J p f3;have e9:=a6.o E J q f4;have W:=aa (λ(h:cls.getD p 0=cls.getD q 0)=>show(Ci cls p q&&Z L)=Z L from by rw[Qe h];rfl);have Y:=aa (λ(h:¬cls.getD p 0=cls.getD q 0)=>show(Ci cls p q&&Z L)=false from by rw[Qf h];rfl);obtain⟨g8,b7⟩:=aB ((Ci cls p q&&Z L));rw[<-b7] at W Y;rw[<-b7];obtain⟨c1,e0⟩:=aB (cls.getD p 0);obtain⟨c2,e1⟩:=aB (cls.getD q 0);rw[<-e0] at e8 W Y;rw[<-e1] at e9 W Y;have c3:=aa (aV E.1.size E);have h4:(p:Int)<(S:Int):=(by omega);have h5:(q:Int)<(S:Int):=(by omega);clear d8 J a9 a2 d7 b7 e0 e1;go_enter func236,ntmps236;by_cases a1:c1=c2
 ·have a7:=aa (W.o a1);clear W Y;subst a1;go_wp2;rw[<-U];clear U;go_quiet(fail);obtain⟨⟨b8,b9,c0⟩,O,I⟩:=a5.o E c3.o;go_wp2;go_loopw[23] (λi wr=>∃k:Nat,k<=L/\i= Ud k/\bv (Z k=true)/\Below E.1.size E wr) (λi _=>L-(intOf i).toNat);exact⟨0,by omega,rfl,e3,aA c3.o _⟩;clear b8 b9 c0 O I;obtain⟨k,f0,rfl,b6,a3⟩:=hrel;obtain⟨⟨b8,b9,c0⟩,O,I⟩:=a5.o wr a3;by_cases f1:k<L
  ·have h3:(k:Int)<(L:Int):=by omega
   have a8:=aa (c8.o k);have a0:=aa (c7.o k f1);have b4:=aa (λV (F:Below wr.1.size wr V)=>c9.o V p k (I.trans (F.mono I.size)));have b5:=aa (λV (F:Below wr.1.size wr V)=>c9.o V q k (I.trans (F.mono I.size)));have c5:=aa (d0.o p k);have c6:=aa (d0.o q k);obtain⟨A,d5⟩:=aB (fU G p k);obtain⟨B,J⟩:=aB (fU G q k);rw[<-d5] at a8 a0 b4 c5;rw[<-J] at a8 a0 b5 c6;clear d5 J;have D:Below wr.1.size wr wr.drew:=aZ.drew;have c4:=aa (λ(V:World) (F:Below wr.1.size wr V)=>show V.cell? ⟨w.1.size,0,none⟩=some (Ud L)/\V.cell? ⟨w.1.size,1,none⟩=some (Ud S)/\V.cell? ⟨w.1.size,2,none⟩=some (.slice a n c)/\Below wr.1.size wr V from by
    obtain⟨⟨g4,g5,g6⟩,_⟩:=a5.o V (a3.trans (F.mono a3.size));exact⟨g4,g5,g6,F⟩)
   go_wp2;go_region_held3(λV=>V.cell? ⟨w.1.size,0,none⟩=some (Ud L)/\V.cell? ⟨w.1.size,1,none⟩=some (Ud S)/\V.cell? ⟨w.1.size,2,none⟩=some (.slice a n c)/\Below wr.1.size wr V)
    (first|with_reducible exact c4.o _ D)
    (first|(go_at_call 172;first|(with_reducible refine(b4.o _ D).mono ?_;rintro e g7 ⟨rfl,b0⟩;have D:=D.trans (b0.mono D.size))|(with_reducible refine(b5.o _ D).mono ?_;rintro e g7 ⟨rfl,b0⟩;have D:=D.trans (b0.mono D.size))))
   all_goals
    have d6:=a3.trans (D.mono a3.size)
    have a4:=I.trans (D.mono I.size)
    clear b8 b9 c0 b0 c4 b4 b5
    cases A with
    |none=>
     cases B with
     |none=>
      have b2:=aa (show Z (k+1)=true by rw[a8.o,b6.o];rfl);simp only[yI];go_wp2;go_quiet(fail);go_wp2;go_roundw;exact⟨k+1,by omega,by go_num,b2,aA d6 _⟩;simp[intOf]<;>omega
     |some u=>
      have Q:=aa (a0.o rfl);have f9:decide ((u:Int)<0)=false:=decide_eq_false (by omega);simp only[yI];go_wp2;go_quiet(fail);go_wp2;go_ret;exact⟨aG (a7.o.trans Q.o).symm,aA a4 _⟩
    |some t=>
     cases B with
     |none=>
      have Q:=aa (a0.o rfl);have f6:decide ((t:Int)<0)=false:=decide_eq_false (by omega);simp only[yI];go_wp2;go_quiet(fail);go_wp2;go_ret;exact⟨aG (a7.o.trans Q.o).symm,aA a4 _⟩
     |some u=>
      have f6:decide ((t:Int)<0)=false:=decide_eq_false (by omega);have f9:decide ((u:Int)<0)=false:=decide_eq_false (by omega);have h7:decide ((0:Int)<=(t:Int))=true:=decide_eq_true (by omega);have f7:=c5.o t rfl;have g0:=c6.o u rfl;have f8:=a6.o _ a4 t f7;have g1:=a6.o _ a4 u g0;simp only[yI];have b1:=aa (λ(h:cls.getD t 0=cls.getD u 0)=>show Z (k+1)=true from by rw[a8.o,b6.o];exact Qe h);have b3:=aa (λ(h:¬cls.getD t 0=cls.getD u 0)=>a0.o (Qf h));obtain⟨y,d9⟩:=aB (cls.getD t 0);obtain⟨z,O⟩:=aB (cls.getD u 0);rw[<-d9] at f8 b1 b3;rw[<-O] at g1 b1 b3;clear d9 O;by_cases e:y=z
      ·have b2:=aa (b1.o e);subst e;go_wp2;go_quiet(fail);go_wp2;go_roundw;exact⟨k+1,by omega,by go_num,b2,aA d6 _⟩;simp[intOf]<;>omega
      ·have Q:=aa (b3.o e);have g2:(y==z)=false:=by simpa using e
       have g3:decide (y=z)=false:=decide_eq_false e;go_wp2;go_quiet(fail);go_wp2;go_ret;exact⟨aG (a7.o.trans Q.o).symm,aA a4 _⟩
  ·obtain rfl:k=L:=by omega
   go_wp2;go_ret;exact⟨aG (a7.o.trans b6.o).symm,I⟩
 ·have Q:=aa (Y.o a1);have g2:(c1==c2)=false:=by simpa using a1
  have g3:decide (c1=c2)=false:=decide_eq_false a1;go_wp2;rw[<-U];clear U;go_quiet(fail);go_wp2;go_ret;exact⟨aG Q.o.symm,aA e2.o _⟩
theorem Nz(G)(L S):af (jN (ez G L 0) S)=(madeCells (Value.int .i64 0).cells (S*1)).toList:=by
 rw[<-CP G L S];refine congrArg af ?_;unfold jN kx nh;refine bp λi _=> ?_
 rw[Gd];rfl
theorem RV{r}(h:Cm r){p q}(e:r p q=true):nh r p=nh r q:=(zm h).2 e
theorem Kt{r}(h:Cm r){p}(e:xo r p p=false):cX r p=true:=by
 rw[GG h] at e;simpa using e
theorem Rp{r}(h:Cm r){p q}(E:q<p)(e:r p q=true):cX r p=false:=by
 have D:xo r p p=true:=by
  unfold xo;rw[bB];exact⟨q,aD.2 E,e⟩
 rw[GG h] at D;simpa using D
theorem SU{r}{p q}(h:xo r p q=false)(e:r p q=false):xo r p (q+1)=false:=by rw[ME,h,e];rfl
theorem DI(r)(p):af (jN r (p+1))=af (jN r p)++[Ud ((nh r p:Nat):Int)]:=by rw[Ny];simp[af]
theorem Mj(w:World)(B e)(h:B<=w.1.size):(w.alloc (.cells #[] e)).ownsRow B e 1 (.slice (some ⟨w.1.size,0,none⟩) 0 0) 0 []:=bd #[] _ rfl h (by unfold maxLen;simp)
theorem AJ(L S)(a)(n c)(G)(w)(g3:aO w a (n*3) (bC (dg G)))(b2:fZ L S G)(j1:n<=1048576):
 Calls prog 171 #[.agg #[Ud L,Ud S,.slice a n c]] w (Fm jN L S G w):=by
 have h0:=aa (λ(d4:World) (f4:Option Addr) (i0:Nat) (cls:List Int) (p q:Nat) (i4:Below w.1.size w d4) (c1:aO d4 f4 S (af cls)) (i7:cls.length=S) (c4:p<S) (J:q<S)=>GW L S a n c G f4 i0 cls p q d4 (g3.below i4 aQ) b2 j1 c1 i7 c4 J);have a7:=aa (λ(V:World) (i3:Below (w.1.size+1) (w.alloc (.cells #[Ud L,Ud S,.slice a n c] 35)) V)=>dT i3);obtain⟨D,a2⟩:=aB (w.alloc (.cells #[Ud L,Ud S,.slice a n c] 35));have f5:Below w.1.size w D:=by rw[a2];exact aZ.alloc aQ _
 have e4:D.1.size=w.1.size+1:=by rw[a2];simp
 rw[<-a2,<-e4] at a7;have k0:=b2.s1;have k1:=b2.s12;have f3:=aa (λ(t p q:Nat) (c4:p<S) (J:q<S)=>Gf b2 (cls:=jN (ez G L t) S) (t:=t) (λa b i5 Q=>RY (fg G L t) i5 Q) c4 J);obtain⟨j5,hi,g5,g6,g7⟩:=info_parts bK;clear g3 b2;have a6:=aa f5;go_enter func171,ntmps171;go_wp2_with(first|(at_make;refine wpList_make_full _ rfl _ _ 37 rfl (w.1.size+1) 3 j5 (Ud 0) 1 underlying37 hi g5 g6 .i64 .i64 _ _ S rfl rfl rfl rfl (by rw[g7];omega) (by unfold maxLen;omega) (by simp) ?_;intro j6 b4 d9;rw[<-a2] at d9 b4;rw[<-e4] at b4;have f7:Below D.1.size D j6:=aZ.grown d9 aQ (by intro k h;cases h)));rw[<-Nz G L S] at b4;have F:=aa b4;have E:=aa f7;first|rw[<-a2]|skip
 clear b4 d9 f7 a2 f5 hi g5 g6 g7;go_loopg[3] (S+1) (λk cls wr=>∃(t g c':Nat),cls= .slice (some ⟨g,0,none⟩) S c'/\wr.ownsRow D.1.size 3 1 (.slice (some ⟨g,0,none⟩) S c') S (af (jN (ez G L t) S))/\Below D.1.size D wr/\bv (S+1-ot G L S t<=k));exact⟨0,D.1.size,S,by rw[e4],F.o,E.o,aa (by omega)⟩;clear F E;obtain⟨t,g,c',rfl,c3,I,h5⟩:=hrel;have h2:=aa (λh=>Hv (G:=G) (L:=L) (S:=S) (t:=t) h h5.o);have a8:=aa (RO (G:=G) (L:=L) (S:=S) (t:=t));have d3:=aa (f3.o t);have b0:=aa (fg G L (t+1));obtain⟨R,d7⟩:=aB (ez G L (t+1));obtain⟨cls,c2⟩:=aB (jN (ez G L t) S);have h8:=aa d7;have h3:=aa c2;have c1:=aa (show cls.length=S by rw[c2,Hz]);rw[<-d7] at b0 a8 d3;rw[<-c2] at c3 a8 d3;have f6:=I.size;have k4:g<wr.1.size:=(c3.lt g rfl).2;obtain⟨g9,rfl⟩:=aB wr;have e8:=aa (Mj g9 D.1.size 3 f6);have f2:=aa (c3.alloc (.cells #[] 3));have c8:=aa (I.alloc f6 (.cells #[] 3));obtain⟨⟨a3,a4,a5⟩,_⟩:=a7.o _ c8.o;clear c3 I d7 c2 f3;go_wp2;go_loopw[4,5,17] (λj4 j3 i wr=>∃p U W:Nat,p<=S/\i= Ud p/\j3= Ud ((bW (cX R) p:Nat):Int)/\j4= .slice (some ⟨U,0,none⟩) p W/\wr.ownsRow D.1.size 3 1 (.slice (some ⟨U,0,none⟩) p W) p (af (jN R p))/\bv (¬(U=g))/\wr.ownsRow D.1.size 3 1 (.slice (some ⟨g,0,none⟩) S c') S (af cls)/\Below D.1.size D wr) (λ_ _ i _=>S-(intOf i).toNat);exact⟨0,g9.1.size,0,by omega,rfl,rfl,rfl,e8.o,aa (by omega),f2.o,c8.o⟩;clear e8 f2 c8;obtain⟨p,U,W,c4,rfl,rfl,rfl,a0,h6,Z,I⟩:=hrel;have g1:=h6.o;obtain⟨⟨a3,a4,a5⟩,_⟩:=a7.o wr I;have j0:=nS (cX R) p;by_cases g0:p<S
 ·have k8:(p:Int)<(S:Int):=by omega
  have O:=aa a0;have F:=aa Z;have E:=aa I;have f0:=aa (λ(h:xo R p p=false)=>Hy (Kt b0.o h));have f1:=aa (λ(h:xo R p p=false)=>lY (Kt b0.o h));have e9:=aa (λ(q:Nat) (J:q<p) (h:R p q=true)=>pI (Rp b0.o J h));obtain⟨m,e0⟩:=aB (bW (cX R) p);rw[<-e0] at f0 f1 e9 j0;rw[<-e0];clear a0 Z I e0;obtain⟨l1,rfl⟩:=aB wr;go_wp2;go_loopw[7,21] (λi2 i wr=>∃q:Nat,q<=p/\i= Ud q/\i2= Ud (-1)/\bv (xo R p q=false)/\wr.ownsRow D.1.size 3 1 (.slice (some ⟨U,0,none⟩) p W) p (af (jN R p))/\wr.ownsRow D.1.size 3 1 (.slice (some ⟨g,0,none⟩) S c') S (af cls)/\Below D.1.size D wr) (λ_ i _=>p-(intOf i).toNat);exact⟨0,by omega,rfl,rfl,aa rfl,O.o,F.o,E.o⟩;clear O F E a3 a4 a5;obtain⟨q,J,rfl,rfl,c9,a0,Z,I⟩:=hrel;obtain⟨⟨a3,a4,a5⟩,_⟩:=a7.o wr I;have O:=aa a0;have F:=aa Z;have E:=aa I;clear a0 Z I;by_cases f9:q<p
  ·have k9:(q:Int)<(p:Int):=by omega
   have g2:q<S:=(by omega);have c7:=aa (show Calls prog 236 #[.agg #[Ud L,Ud S,.slice a n c],.slice (some ⟨g,0,none⟩) S c',Ud p,Ud q] wr λe w'=>e= .returned (.bool (R p q))/\Below wr.1.size wr w' from by
    obtain⟨a',j7,f8,j2⟩:=aS F.o (by omega);simp only[aJ,true_and] at f8;obtain⟨rfl,rfl⟩:=f8;rw[<-d3.o p q g0 g2];exact h0.o wr (some ⟨g,0,none⟩) c' cls p q (a6.o.trans (E.o.mono a6.o.size)) j2 c1.o g0 g2)
   have b8:=aa (λh:R p q=true=>RV b0.o h);have b9:=aa (λh:R p q=true=>e9.o q f9 h);have b6:=aa (λh:R p q=false=>SU c9.o h);obtain⟨b,Q⟩:=aB (R p q);rw[<-Q] at c7 b8 b9 b6;clear Q;go_wp2_with fail;refine c7.o.mono ?_;rintro e g8 ⟨rfl,c0⟩;have d0:=aa (ai O.o c0);have d2:=aa (ai F.o c0);have a1:=aa (E.o.trans (c0.mono E.o.size));clear O F E c7 a3 a4 a5 c0;obtain⟨⟨a3,a4,a5⟩,_⟩:=a7.o g8 a1.o;cases b with
   |false=>
    have h4:=aa (b6.o rfl);clear b6 b8 b9;go_wp2;go_roundw;exact⟨q+1,by omega,by go_num,rfl,h4,d0.o,d2.o,a1.o⟩;simp[intOf]<;>omega
   |true=>
    have b7:=aa (b8.o rfl);have d1:=aa (b9.o rfl);have i6:=(d0.o.cellAt q (by omega)).trans (aP (show(jN R p)[q]? =some ((nh R q:Nat):Int) from by unfold jN;rw[dl,fR f9];rfl));obtain⟨v,g4⟩:=aB (nh R q);rw[<-g4] at i6 b7;clear g4 b6 b8 b9;have l0:decide ((v:Int)<0)=false:=decide_eq_false (by omega);have b1:=aa (d0.o.alloc (.cells #[Ud (v:Int)] 3));go_wp2_with(first|(at_builtin;go_must(refine aX rfl _ _ 37 rfl D.1.size 3 (Ud 0) 8 underlying37 bK rfl U W p _ b1.o rfl g8.1.size 0 1 1 [Ud (Nat.cast v)] rfl rfl (by intro q u J;match q,J with|0,J=>simp at J;subst J;simp) (by intro u b5;simp at b5;subst b5;rfl) (by omega) (by unfold maxLen;omega) (by have:=a1.o.size;simp;omega) ?_);intro d6 d5 e7 e3 b3 e2 i9));have d8:Below D.1.size D e7:=(a1.o.alloc a1.o.size _).grown b3 (by have:=a1.o.size;simp;omega) (by rintro k ⟨⟩;exact(b1.o.lt _ rfl).1);have i8:=(d2.o.lt g rfl).2;have e1:=((d2.o.alloc (.cells #[Ud (Nat.cast v)] 3)).kept b3 (.inr (by simp[Value.ownBlock];omega)));go_roundw;exact⟨p+1,d6,d5,by omega,by go_num,by rw[d1.o],rfl,by rw[DI];rw[b7.o];exact e3,aa (by rcases e2 with h|h;exactλe=>g1 (by rw[<-h,e]);simp at h;omega),e1,d8⟩;simp[intOf]<;>omega
  ·obtain rfl:p=q:=by omega
   have b7:=aa (f0.o c9.o);have d1:=aa (f1.o c9.o);have b1:=aa (O.o.alloc (.cells #[Ud (m:Int)] 3));go_wp2_with(first|(at_builtin;go_must(refine aX rfl _ _ 37 rfl D.1.size 3 (Ud 0) 8 underlying37 bK rfl U W p _ b1.o rfl wr.1.size 0 1 1 [Ud (Nat.cast m)] rfl rfl (by intro q u J;match q,J with|0,J=>simp at J;subst J;simp) (by intro u b5;simp at b5;subst b5;rfl) (by omega) (by unfold maxLen;omega) (by have:=E.o.size;simp;omega) ?_);intro d6 d5 e7 e3 b3 e2 i9));have d8:Below D.1.size D e7:=(E.o.alloc E.o.size _).grown b3 (by have:=E.o.size;simp;omega) (by rintro k ⟨⟩;exact(b1.o.lt _ rfl).1);have i8:=(F.o.lt g rfl).2;have e1:=((F.o.alloc (.cells #[Ud (Nat.cast m)] 3)).kept b3 (.inr (by simp[Value.ownBlock];omega)));go_roundw;exact⟨p+1,d6,d5,by omega,by go_num,by rw[d1.o];go_num,rfl,by rw[DI];rw[b7.o];exact e3,aa (by rcases e2 with h|h;exactλe=>g1 (by rw[<-h,e]);simp at h;omega),e1,d8⟩;simp[intOf]<;>omega
 ·obtain rfl:p=S:=by omega
  have O:=aa a0;have F:=aa Z;have E:=aa I;clear a0 Z I;go_wp2;go_loopw[9,46] (λi1 i wr=>∃j:Nat,j<=p/\i= Ud j/\i1= .bool (!jD cls (jN R p) j)/\bv (wr.ownsRow D.1.size 3 1 (.slice (some ⟨U,0,none⟩) p W) p (af (jN R p)))/\bv (wr.ownsRow D.1.size 3 1 (.slice (some ⟨g,0,none⟩) p c') p (af cls))/\Below D.1.size D wr) (λ_ i _=>p-(intOf i).toNat);exact⟨0,by omega,rfl,rfl,aa O.o,aa F.o,E.o⟩;clear O F E a3 a4 a5;obtain⟨j,k5,rfl,rfl,O,F,I⟩:=hrel;have E:=aa I;clear I;by_cases k7:j<p
  ·have k6:(j:Int)<(p:Int):=by omega
   obtain⟨c5,e5⟩:=aE (l:=cls) (n:=j) (by rw[c1.o];omega);obtain⟨c6,e6⟩:=aE (l:=jN R p) (n:=j) (by rw[Hz];omega);have k2:=(F.o.cellAt j (by omega)).trans (aP e5);have k3:=(O.o.cellAt j (by omega)).trans (aP e6);have Y:=aa (show jD cls (jN R p) (j+1)=(jD cls (jN R p) j|| !decide (c5=c6)) from by rw[Bf,ah,ah,e6,e5];rfl);obtain⟨b,Q⟩:=aB (jD cls (jN R p) j);rw[<-Q] at Y;rw[<-Q];clear e5 e6 Q;cases b with
   |true=>
    have a9:=aa (show jD cls (jN R p) (j+1)=true from Y.o);clear Y;simp only[Bool.not_true];go_wp2;go_quiet(fail);go_wp2;go_roundw;exact⟨j+1,by omega,by go_num,by rw[a9.o];rfl,aa (fF O.o _),aa (fF F.o _),aA E.o _⟩;simp[intOf]<;>omega
   |false=>
    simp only[Bool.not_false];by_cases e:c5=c6
    ·have a9:=aa (show jD cls (jN R p) (j+1)=false from by rw[Y.o,decide_eq_true e];rfl);clear Y;subst e;go_wp2;go_quiet(fail);go_wp2;go_roundw;exact⟨j+1,by omega,by go_num,by rw[a9.o];rfl,aa (fF O.o _),aa (fF F.o _),aA E.o _⟩;simp[intOf]<;>omega
    ·have a9:=aa (show jD cls (jN R p) (j+1)=true from by rw[Y.o,decide_eq_false e];rfl);have j8:(c5==c6)=false:=by simpa using e
     have j9:decide (c5=c6)=false:=decide_eq_false e;clear Y;go_wp2;go_quiet(fail);go_wp2;go_roundw;exact⟨j+1,by omega,by go_num,by rw[a9.o];rfl,aa (fF O.o _),aa (fF F.o _),aA E.o _⟩;simp[intOf]<;>omega
  ·obtain rfl:j=p:=by omega
   obtain⟨b,Q⟩:=aB (jD cls (jN R j) j);rw[<-Q] at a8;rw[<-Q];clear Q;cases b with
   |true=>
    have h7:=aa (show¬jR G L j t fromλh=>by have:=a8.o.2 h;cases this);have h1:=aa (h2.o h7.o);simp only[Bool.not_true];go_wp2;go_roundg(j+1-ot G L j (t+1));case measure=>exact h1.o
    case rel=>exact⟨t+1,U,W,rfl,by rw[<-h8.o];exact O.o,E.o,aa aQ⟩
   |false=>
    have h9:=aa (a8.o.1 rfl);simp only[Bool.not_false];go_wp2;go_ret;exact⟨t,g,c',h9.o,rfl,by rw[<-h3.o];exact aT F.o a6.o.size,a6.o.trans (E.o.mono a6.o.size)⟩
def SF(L:Nat)(p:Nat×List (Nat×Nat×Nat)):Option (Nat×List (Nat×Nat×Nat)):=Gc p.2 L (2^p.1-1)
def nO(K:Nat->Bool)(S:Nat)(G:List (Nat×Nat×Nat))(L:Nat):Option (Nat×List (Nat×Nat×Nat)):=(nH K S G).bind (SF L)
def wH(L S:Nat)(G:List (Nat×Nat×Nat))(w:World)(e:Ending)(w':World):Prop:=
 ∃K:Nat->Bool,(∀i,i<S->(K i=true↔qR G S i))/\nm L (nO K S G L) w e w'
theorem Se{α β:Type}{o}{p:α}{f:α->Option β}(h:o=some p):o.bind f=f p:=by subst h;rfl
theorem Sd{α β:Type}{o}{f:α->Option β}(h:o=none):o.bind f=none:=by subst h;rfl
theorem uD{K}{S L}{G}(h:nH K S G=none):nO K S G L=none:=Sd h
theorem uC{K}{S L}{G}{p}(h:nH K S G=some p):nO K S G L=SF L p:=Se h
theorem Kh{L s F}{A}{st:zp}(D:F=2^s-1)(h:fV A L F=st):SF L (s,A)=if st.1.length<=12 then some (st.1.length,st.2) else none:=by
 subst D;exact QS h
structure ol (T3 : TypeId) (w w6 wr : World) (bR bO D : Nat) (A1 : Array Value) (x0 x1 : Value) (v : Value) (m : Nat) (A : List Value) : Prop where
  bel : Below w.1.size w wr
  bel6 : Below w6.1.size w6 wr
  ord : w.1.size ≤ bR ∧ bR < bO ∧ bO < D ∧ w6.1.size ≤ bO
  sz : D ≤ wr.1.size
  b1 : bA wr bR A1
  b3 : bA wr bO #[x0, x1, v]
  own : wr.ownsRow D T3 3 v m A
section
variable {T3 : TypeId} {w w6 wr w' : World} {bR bO D m : Nat} {A1 : Array Value} {A : List Value} {x0 x1 v : Value}
theorem ol.below(h:ol T3 w w6 wr bR bO D A1 x0 x1 v m A)(E:Below wr.1.size wr w'):ol T3 w w6 w' bR bO D A1 x0 x1 v m A:=
 ⟨h.bel.trans (E.mono h.bel.size),h.bel6.trans (E.mono h.bel6.size),h.ord,bn h.sz E.size,h.b1.below E,h.b3.below E,ai h.own E⟩
theorem ol.app{F:World}{v':Value}{I:Nat}{A':List Value}(h:ol T3 w w6 wr bR bO D A1 x0 x1 v m A)(E:Below D wr F)(U:F.ownsRow D T3 3 v' I A'):ol T3 w w6 (F.setCell ⟨bO,2,none⟩ v') bR bO D A1 x0 x1 v' I A':=by
 have Q:=h.ord;have J:Below w.1.size w F:=h.bel.trans (E.mono (by omega));have O:Below w6.1.size w6 F:=h.bel6.trans (E.mono (by omega));exact⟨J.setCell (by show w.1.size<=bO;omega) _,O.setCell (by show w6.1.size<=bO;omega) _,Q,by simpa using bn h.sz E.size,(h.b1.at_ E (by omega)).other (by omega) _,(h.b3.at_ E (by omega)).set2 _,cE U (by omega) _ _⟩
theorem ol.set1(h:ol T3 w w6 wr bR bO D A1 x0 x1 v m A)(u:Value):ol T3 w w6 (wr.setCell ⟨bO,1,none⟩ u) bR bO D A1 x0 u v m A:=by
 have E:=h.ord;exact⟨h.bel.setCell (by show w.1.size<=bO;omega) _,h.bel6.setCell (by show w6.1.size<=bO;omega) _,E,by simpa using h.sz,h.b1.other (by omega) _,h.b3.set1 _,cE h.own (by omega) _ _⟩
end
theorem qt(L S:Nat)(a)(n c)(G)(w)(c6:aO w a (n*3) (bC (dg G)))(m3:n<=1000000)(b1:fy L S (dg G)=true)(f5:fZ L S G):
 Calls prog 89 #[.agg #[Ud L,Ud S,.slice a n c]] w (wH L S G w):=by
 obtain⟨d0,b2⟩:=aB ((w.alloc (.cells #[Ud L,Ud S,.slice a n c] 35)).alloc (.cells #[Ud 0,Ud 0,.slice none 0 0] 35));have p1:d0.1.size=w.1.size+1+1:=by rw[b2];simp
 have g6:=aa (λ(V:World) (I:Below d0.1.size d0 V)=>show bA V w.1.size #[Ud L,Ud S,.slice a n c]/\bA V (w.1.size+1) #[Ud 0,Ud 0,.slice none 0 0]/\Below w.1.size w V from by
  rw[b2] at I;obtain⟨⟨k7,U⟩,⟨O,W⟩,l0,l1⟩:=Bl I;exact⟨⟨by omega,k7,U⟩,⟨l0,O,W⟩,l1⟩)
 have e7:=aa (λ(b8:World) (f7:Below w.1.size w b8)=>tI L S a n c G b8 (c6.below f7 aQ) m3 b1 f5);unfold qh nm yL at e7;obtain⟨b6,a9,l8⟩:=g6.o d0 aZ;obtain⟨d6,d7,d8⟩:=b6.c3.1;have j5:=aa f5;have j4:=aa (show G.length=n from by have:=c6.len;rw[jF,wE] at this;omega);clear c6 b1 b6 a9 f5;unfold wH nm yL;go_enter func89,ntmps89;go_wp2_with(rw[<-b2]);first|rw[<-b2]|skip
 refine(e7.o _ l8).mono ?_;rintro e a1 ⟨K,J,a3,O,rfl,c5,d1⟩;obtain⟨b6,a9,c3⟩:=g6.o a1 d1;obtain⟨⟨Y,Z,a0⟩,U,W,b0⟩:=a9.c3;have e8:=aa J;have m9:=aa d1;have n0:=aa c5;cases hto:nH K S G with
 |none=>
  have j6:=aa (uD (L:=L) hto);clear hto b2 d6 d7 d8 d1 c5;simp only[iT,Option.getD_none,gZ];have h2:=a9.alloc (.cells #[Ud 0,Ud 0,.slice a3 0 O] 35);obtain⟨⟨Y,Z,a0⟩,U,W,b0⟩:=h2.c3;have a6:=c3.alloc c3.size (.cells #[Ud 0,Ud 0,.slice a3 0 O] 35);obtain⟨h4,a4⟩:=aB (a1.alloc (.cells #[Ud 0,Ud 0,.slice a3 0 O] 35));rw[<-a4] at Y Z a0 U W b0 a6;have e9:=aa a4;clear a4 h2;go_upto_region 2 with fail
  first|rw[<-e9.o]|trace_state
  go_wp2;refine bodyPost_ret (v:=.tuple #[.agg #[Ud 0,Ud 0,.slice none 0 0],.bool false]) (by simp[results,results89,go_sem,Y,Z,a0]) rfl ⟨K,e8.o,?_⟩;rw[j6.o];exact ig ((((a6.setCell (by show w.1.size<=w.1.size+1;omega) _).setCell (by show w.1.size<=w.1.size+1;omega) _).setCell (by show w.1.size<=w.1.size+1;omega) _))
 |some p=>
  obtain⟨s,A⟩:=p;have g9:=aa (uC (L:=L) hto);have l3:fZ L s A/\A.length<=n:=by
   unfold nH at hto;by_cases f2:bW K S=0
   ·rw[if_pos f2] at hto;cases hto
   ·rw[if_neg f2] at hto;injection hto with hto
    injection hto with e1 e2
    subst e1 e2;exact⟨xw j5.o f2,by rw[<-j4.o];exact tq K G⟩
  obtain⟨b9,n8⟩:=l3;have l2:=b9.s12;have l4:=b9.k3;simp only[hto,ci] at c5;have i7:=oI c5 (by show A.length*3<=_;omega);have e6:=aa (λ(b8:World) (f7:Below a1.1.size a1 b8)=>MX L s a3 A.length O A b8 (i7.below f7 aQ) b9 (by omega));unfold Fh at e6;have g7:=aa b9;clear hto b2 d6 d7 d8 d1 c5 i7 b9;simp only[eF,ci,if_true];have a6:=c3.alloc c3.size (.cells #[Ud L,Ud s,.slice a3 A.length O] 35);have c2:Below a1.1.size a1 (a1.alloc (.cells #[Ud L,Ud s,.slice a3 A.length O] 35)):=aZ.alloc aQ _;obtain⟨h4,a4⟩:=aB (a1.alloc (.cells #[Ud L,Ud s,.slice a3 A.length O] 35));rw[<-a4] at a6 c2;have e9:=aa a4;have k3:=aa (b6.below c2);have k5:=aa (a9.below c2);have a7:=aa (e6.o h4 c2);have c4:=Eo (G:=A) (L:=L) (full:=2^s-1) (N:=2^s) (by have:=bG (n:=2) (by omega) g7.o.s1;omega) (λset x=>rE g7.o) (iB l2);obtain⟨g5,f4⟩:=aB (2^s-1);rw[<-f4] at a7 c4;obtain⟨st,f9⟩:=aB (fV A L g5);have a2:=aa (g9.o.trans (Kh f4 f9.symm));rw[<-f9] at a7 c4;obtain⟨M,h8⟩:=aB st.1.length;rw[<-h8] at a7 c4 a2;obtain⟨Q,i9⟩:=aB (xh A L g5 M);rw[<-i9] at a7 c4;obtain⟨n9,b3,i0,j0⟩:=c4;have j3:=aa i0;have e5:=aa j0;have e4:=aa b3;clear f9 f4 h8 i9 i0 j0 b3 g9 a4 b6 a9;go_wp2_with fail;first|rw[<-e9.o]|skip
  refine a7.o.mono ?_;rintro e E ⟨q0,p7,rfl,i5,i2,a5⟩;obtain⟨p9,p8,rfl⟩:=dm i5;obtain⟨n2,n3,i4,g0⟩:=iw i2 (by rw[e4.o];omega) (λr c6=>by rw[e5.o r c6];omega);rw[e4.o] at i4 g0;subst i4;have k0:=aa g0;have l9:=a6.trans (a5.mono a6.size);have k4:=aa (k3.o.below a5);have f0:=aa (k5.o.below a5);have c8:=aa l9;obtain⟨⟨Y,Z,a0⟩,U,W,b0⟩:=f0.o.c3;obtain⟨⟨d6,d7,d8⟩,_⟩:=k4.o.c3;clear i5 i2 g0 a5 a7 e6 e7 a6 c3 c2;by_cases h7:M<=12
  ·have a2:=aa (a2.o.trans (if_pos h7));have l5:¬(12<(M:Int)):=(by omega);obtain⟨f1,c1⟩:=aB (E.alloc (.cells #[Ud L,Ud M,.slice none 0 0] 35));obtain⟨F,d2⟩:=aB E.1.size;have p2:=c8.o.size;have o8:=f0.o.lt;have g8:=aa (show ol 90 w E f1 (w.1.size+1) F (F+1) #[Ud 0,Ud 0,.slice none 0 0] (Ud L) (Ud M) (.slice none 0 0) 0 (bC (dg [])) from by
    have p5:f1.1.size=F+1:=by rw[c1,d2];simp
    have f8:Below E.1.size E f1:=by rw[c1];exact aZ.alloc aQ _
    exact⟨c8.o.trans (f8.mono c8.o.size),f8,by omega,by omega,f0.o.below f8,by rw[c1,d2];exact bA.new _ _ _,dk _ _ _ _⟩)
   have k2:=aa c1;have l7:=aa d2;clear c1;go_upto_region 8 with fail
   first|rw[<-k2.o,<-l7.o]|trace_state
   clear d6 d7 d8 Y Z a0 U W b0 d2;go_wp2;go_loopw[9] (λi wr=>∃(k:Nat) (v:Value),k<=M/\i= Ud k/\ol 90 w E wr (w.1.size+1) F (F+1) #[Ud 0,Ud 0,.slice none 0 0] (Ud L) (Ud M) v (fk Q k).length (bC (dg (fk Q k)))) (λi _=>M-(intOf i).toNat);exact⟨0,_,by omega,rfl,g8.o⟩;clear g8;obtain⟨k,v,o6,rfl,D⟩:=hrel;by_cases i3:k<M
   ·obtain⟨row,c7⟩:=aE (l:=Q) (n:=k) (by rw[e4.o];exact i3);have b3:=e5.o row (aj c7);have n1:=aa c7;have o7:(k:Int)<(M:Int):=(by omega);have h:=aa D;obtain⟨d9,e0,m8,g3,m0,m5,d4,g1⟩:=qn k0.o i3 c7;subst m0;rw[b3] at d4 g1;have h1:=aa (λ(V:World) (I:Below E.1.size E V)=>show V.cell? ⟨d9,e0+k,none⟩=some (.slice m8 L g3) from(I.cell (p:=⟨d9,e0+k,none⟩) m5).trans d4);have k1:=aa (λ(V:World) (I:Below E.1.size E V)=>g1.below I aQ);have j9:=aa (show fk Q (k+1)=fk Q k++gP k row L from by rw[kg,ah,c7];show _++gP k row row.length=_;rw[b3]);clear c7 d4 g1 D;go_wp2;go_loopw[10] (λi wr=>∃(x:Nat) (v:Value),x<=L/\i= Ud x/\ol 90 w E wr (w.1.size+1) F (F+1) #[Ud 0,Ud 0,.slice none 0 0] (Ud L) (Ud M) v (fk Q k++gP k row x).length (bC (dg (fk Q k++gP k row x)))) (λi _=>L-(intOf i).toNat);exact⟨0,_,by omega,rfl,by rw[show gP k row 0=[] from rfl,jc];exact h.o⟩;clear h;obtain⟨x,v,p3,rfl,D⟩:=hrel;have d4:=h1.o wr D.bel6;by_cases m2:x<L
    ·obtain⟨z,g2⟩:=aE (l:=row) (n:=x) (by rw[b3];exact m2);obtain⟨b4,b5,m6,m4,i8⟩:=(k1.o E aZ).at_ (by omega);subst m6;have h3:=aa (λ(V:World) (I:Below E.1.size E V)=>show V.cell? ⟨b4,b5+x,none⟩=some (Ud z) from(I.cell (p:=⟨b4,b5+x,none⟩) m4).trans (i8 x _ (aP g2)));have p6:=h3.o wr D.bel6;have h:=aa D;have p4:(x:Int)<(L:Int):=(by omega);have a8:=aa (show gP k row (x+1)=gP k row x++(if 0<=z then[(k,z.toNat,x)] else[]) from by rw[lz,ah,g2];rfl);obtain⟨g4,f3⟩:=aB (fk Q k++gP k row x);rw[<-f3] at h;have e3:=aa f3;have n7:g4.length<=1000:=by
      have n4:=qN e5.o k;have n5:=oT k row x;have n6:k*L<=12*3:=bX (by omega) l4;rw[e3.o,az];omega
     clear g2 i8 D f3;by_cases d5:0<=z
     ·have a8:=aa (a8.o.trans (by rw[if_pos d5]));have m7:decide (0<=z)=true:=decide_eq_true d5;obtain⟨⟨o0,o1,o2⟩,U,W,b0⟩:=h.o.b3.c3;go_wp2_with fail;obtain⟨b7,f6⟩:=aB (α:=World->Prop) (λV=>V.cell? ⟨F,2,none⟩=some v/\V.cell? ⟨d9,e0+k,none⟩=some (.slice (some ⟨b4,b5,none⟩) L g3)/\V.cell? ⟨b4,b5+x,none⟩=some (Ud z));have h0:=aa (show∀V,b7 V->V.cell? ⟨F,2,none⟩=some v/\V.cell? ⟨d9,e0+k,none⟩=some (.slice (some ⟨b4,b5,none⟩) L g3)/\V.cell? ⟨b4,b5+x,none⟩=some (Ud z) fromλV I=>by rw[f6] at I;exact I);have c9:=aa (show∀V,Below (F+1) wr.drew V->b7 V fromλV i1=>by
       have o9:=h.o.ord;have a5:=h.o.bel6.drew.trans (i1.mono (by omega));obtain⟨⟨_,_,j2⟩,_⟩:=((h.o.b3.below aZ.drew).at_ i1 (by omega)).c3;rw[f6];exact⟨j2,h1.o V a5,h3.o V a5⟩)
      have j1:F+1<=wr.drew.1.size:=h.o.sz;have o4:b7 wr.drew:=c9.o _ aZ;have l6:b7 (wr.drew.alloc (.cells #[Ud k,Ud z,Ud x] 90)):=c9.o _ (aZ.alloc j1 _);have j7:=aa (ai h.o.own aZ.drew);clear f6;refine dr (S:=b7) 15 (by kernel_rfl) ?_;iterate 12 (refine kG rfl (by kernel_rfl) (λ_ _ _ b1=>b1) (by rfl) (by assumption) (λV c0=>by have c0:=h0.o V c0;go_split_ands;go_simp;first|done|with_reducible rfl) ?_;try simp only[Act.put,ab,ac,ae])
      refine aY (i:=12) rfl (by kernel_rfl) (by decide) (λK J=> ?_);go_simp;refine J.out _ _ l6 ?_;clear J K;try simp only[Act.put,ab,ac,ae]
      refine aY (i:=13) rfl (by kernel_rfl) (by decide) (λK J=> ?_);refine kJ (by rfl) _ _ 33 (by rfl) (F+1) 90 underlying33 qE v _ _ _ _ _ j7.o (by rfl) (by rfl) (by omega) j1 ?_;intro k9 k8 q1 i6 d3 m1;refine J.out _ _ (c9.o _ d3) ?_;clear J K;try simp only[Act.put,ab,ac,ae]
      have o5:=c9.o _ d3;have h9:=(h.o.below aZ.drew).app d3 i6;obtain⟨⟨_,_,j2⟩,_,_,q2⟩:=((h.o.b3.below aZ.drew).at_ d3 (cG _)).c3;have j8:=aa h9;clear h9 i6 m1;(refine jw 14 rfl (by kernel_rfl) (λ_ _ _ b1=>b1) (by rfl) (by assumption) (λV c0=>by have c0:=h0.o V c0;go_split_ands;go_simp;first|done|with_reducible rfl) ?_;try simp only[Act.put,ab,ac,ae]);refine cU rfl (by kernel_rfl) (by kernel_rfl) (λK J=> ?_);go_simp;refine J.out _ _ ?_;clear J K;have k6:=aa (show(z.toNat:Int)=z from by omega);go_wp2;go_roundw;exact⟨x+1,.slice (some ⟨k9,0,none⟩) (g4.length+1) k8,by omega,by go_num,by rw[a8.o,<-cJ,<-e3.o,az,qf,lA,k6.o];exact j8.o⟩;simp[intOf];omega
     ·have a8:=aa (a8.o.trans (by rw[if_neg d5,jc]));have m7:decide (0<=z)=false:=decide_eq_false d5;go_wp2;go_roundw;exact⟨x+1,v,by omega,by go_num,by rw[a8.o,<-e3.o];exact h.o⟩;simp[intOf];omega
    ·obtain rfl:x=L:=by omega
     have h:=aa D;clear D;go_wp2;go_roundw;exact⟨k+1,v,by omega,by go_num,by rw[j9.o];exact h.o⟩;simp[intOf];omega
   ·obtain rfl:k=M:=by omega
    obtain⟨⟨o0,o1,o2⟩,_⟩:=D.b3.c3;obtain⟨⟨Y,Z,a0⟩,U,W,b0⟩:=D.b1.c3;have h:=aa D;obtain⟨h6,h5,rfl⟩:=dm D.own;clear D;go_wp2;have p0:=h.o.ord;refine bodyPost_ret (v:=.tuple #[.agg #[Ud L,Ud k,.slice h6 (fk Q k).length h5],.bool true]) (by simp[results,results89,go_sem,Y,Z,a0]) rfl ⟨K,e8.o,?_⟩;rw[a2.o,j3.o];exact⟨h6,h5,rfl,aT (cE (cE (cE h.o.own (by omega) _ _) (by omega) _ _) (by omega) _ _) (by omega),((h.o.bel.setCell (by show w.1.size<=w.1.size+1;omega) _).setCell (by show w.1.size<=w.1.size+1;omega) _).setCell (by show w.1.size<=w.1.size+1;omega) _⟩
  ·have a2:=aa (a2.o.trans (if_neg h7));have l5:(12<(M:Int)):=(by omega);go_wp2;refine bodyPost_ret (v:=.tuple #[.agg #[Ud 0,Ud 0,.slice none 0 0],.bool false]) (by simp[results,results89,go_sem,Y,Z,a0]) rfl ⟨K,e8.o,?_⟩;rw[a2.o];exact ig (((c8.o.setCell (by show w.1.size<=w.1.size+1;omega) _).setCell (by show w.1.size<=w.1.size+1;omega) _).setCell (by show w.1.size<=w.1.size+1;omega) _)
def wG(L S:Nat)(G:List (Nat×Nat×Nat))(w:World)(e:Ending)(w':World):Prop:=
 ∃(t m c:Nat) (g:Option Addr),jR G L S t/\e= .returned (.tuple #[.agg #[Ud L,Ud (ot G L S t:Nat),.slice g m c],.bool true])/\Below w.1.size w w'
theorem RU{r}(h:Cm r){p}(e:cX r p=false):nh r p<bW (cX r) p:=by
 obtain⟨D,_⟩:=fK h p;unfold cX at e;rw[decide_eq_false_iff_not] at e;unfold nh;exact rY (K:=cX r) (by omega) (by unfold cX;rw[decide_eq_true_eq];exact rT h p)
theorem pW(L S:Nat)(a)(n c)(G)(w)(c7:aO w a (n*3) (bC (dg G)))(k0:n<=1000000)(h:ev L S (dg G)=true)(a5:fZ L S G):
 Calls prog 83 #[.agg #[Ud L,Ud S,.slice a n c]] w (wG L S G w):=by
 obtain⟨c0,b4⟩:=aB ((w.alloc (.cells #[Ud L,Ud S,.slice a n c] 35)).alloc (.cells #[Ud 0,Ud 0,.slice none 0 0] 35));have k4:c0.1.size=w.1.size+1+1:=by rw[b4];simp
 have a6:=aa (λ(V:World) (Q:Below c0.1.size c0 V)=>show bA V w.1.size #[Ud L,Ud S,.slice a n c]/\bA V (w.1.size+1) #[Ud 0,Ud 0,.slice none 0 0]/\Below w.1.size w V from by
  rw[b4] at Q;obtain⟨⟨h2,b0⟩,⟨h3,b1⟩,h7,h8⟩:=Bl Q;exact⟨⟨by omega,h2,b0⟩,⟨h7,h3,b1⟩,h8⟩)
 have d0:=aa (λ(a0:World) (b3:Below w.1.size w a0)=>kD L S a n c (dg G) a0 (c7.below b3 aQ) (by omega));rw[h] at d0;have e0:=aa (λ(a0:World) (b3:Below w.1.size w a0)=>AJ L S a n c G a0 (c7.below b3 aQ) a5 (by omega));have g9:=aa (λ(a0:World) (p x:Nat) (b3:Below w.1.size w a0)=>uc L S a n c G p x a0 (c7.below b3 aQ) (by omega));have h0:=aa (λ(p x t:Nat) (h:fU G p x=some t)=>vh a5 h);obtain⟨J,a2,b7⟩:=a6.o c0 aZ;obtain⟨U,W,Y⟩:=J.c3.1;have j2:=a5.s12;have h6:=a5.s1;have h9:=a5.k3;clear c7 h J a2 a5;go_enter func83,ntmps83;go_wp2_with(rw[<-b4]);first|rw[<-b4]|skip
 refine(d0.o _ b7).mono ?_;rintro e j1 ⟨rfl,c1⟩;obtain⟨J,a2,f5⟩:=a6.o j1 c1;clear b4 U W Y b7;obtain⟨U,W,Y⟩:=J.c3.1;go_wp2_with fail;refine(e0.o _ f5).mono ?_;rintro e E ⟨t,g,c',g2,rfl,c6,c2⟩;have d7:=c1.trans (c2.mono c1.size);have i2:g<E.1.size:=(c6.lt g rfl).2;have g8:=aa g2;have e3:=aa (fg G L t);have e1:=aa (show ot G L S t=bW (cX (ez G L t)) S from rfl);obtain⟨R,f2⟩:=aB (ez G L t);rw[<-f2] at e3 e1 c6;have d9:=aa (λ(V:World) (Q:Below E.1.size E V) (p:Nat) (g1:p<S)=>show V.cell? ⟨g,p,none⟩=some (Ud (nh R p:Nat)) from(Q.cell (p:=⟨g,p,none⟩) i2).trans ((c6.cellAt p (by omega)).trans (aP (show(jN R S)[p]? =some ((nh R p:Nat):Int) from by unfold jN;rw[dl,fR g1];rfl))));clear J a2 f5 U W Y d0 e0 g2 f2 c6 c1 c2;obtain⟨J,a2,c5⟩:=a6.o E d7;obtain⟨U,W,Y⟩:=J.c3.1;obtain⟨I,c3⟩:=aB E.1.size;have b8:=aa d7;have j7:=a2.lt;have j6:=c5.size;obtain⟨d3,b5⟩:=aB (E.alloc (.cells #[Ud L,Ud 0,.slice none 0 0] 35));have e5:=aa (show ol 90 w E d3 (w.1.size+1) I (I+1) #[Ud 0,Ud 0,.slice none 0 0] (Ud L) (Ud 0) (.slice none 0 0) 0 [] from by
  have k9:d3.1.size=I+1:=by rw[b5,c3];simp
  have d8:Below E.1.size E d3:=by rw[b5];exact aZ.alloc aQ _
  exact⟨c5.trans (d8.mono c5.size),d8,by omega,by omega,a2.below d8,by rw[b5,c3];exact bA.new _ _ _,dk _ _ _ _⟩)
 have h1:=aa b5;have i1:=aa c3;clear b5 d7 J a2 c5;go_upto_region 5 with fail
 first|rw[<-h1.o,<-i1.o]|trace_state
 clear U W Y c3;go_wp2;go_loopw[21] (λi wr=>∃(p:Nat) (v:Value) (m:Nat) (xs:List Value),p<=S/\i= Ud p/\bv (m<=p*L)/\ol 90 w E wr (w.1.size+1) I (I+1) #[Ud 0,Ud 0,.slice none 0 0] (Ud L) (Ud ((bW (cX R) p:Nat):Int)) v m xs) (λi _=>S-(intOf i).toNat);exact⟨0,_,0,[],by omega,rfl,aa (by omega),e5.o⟩;clear e5;obtain⟨p,v,m,xs,g1,rfl,Z,D⟩:=hrel;by_cases i5:p<S
 ·have k3:(p:Int)<(S:Int):=by omega
  have f6:=d9.o wr D.bel6 p i5;obtain⟨⟨o0,o1,o2⟩,b0,b1,d5⟩:=D.b3.c3;have F:=aa D;have i6:=nS (cX R) p;have a3:=aa (λe:cX R p=false=>RU e3.o e);have a4:=aa (λe:cX R p=true=>Hy e);have a8:=aa (λe:cX R p=true=>lY (K:=cX R) (i:=p) e);have a7:=aa (λe:cX R p=false=>pI (K:=cX R) (i:=p) e);have f9:(p+1)*L=p*L+L:=ik p L;have e4:=aa f9;obtain⟨k,f8⟩:=aB (nh R p);obtain⟨y,g4⟩:=aB (bW (cX R) p);obtain⟨b,b6⟩:=aB (cX R p);rw[<-f8] at f6 a3 a4;rw[<-g4] at o1 a3 a4 a8 a7 i6 F;rw[<-b6] at a3 a4 a8 a7;clear f8 g4 b6 D f9;cases b with
  |false=>
   have i4:(k:Int)<(y:Int):=by have:=a3.o rfl;omega
   have c9:=aa (a7.o rfl);clear a3 a4 a8 a7;go_wp2;go_roundw;exact⟨p+1,v,m,xs,by omega,by go_num,aa (by have:=Z.o;have:=e4.o;omega),by rw[c9.o];exact F.o⟩;simp[intOf]<;>omega
  |true=>
   have i4:¬((k:Int)<(y:Int)):=by have:=a4.o rfl;omega
   have c9:=aa (a8.o rfl);have d1:=aa (F.o.set1 (Ud ((y:Int)+1)));clear a3 a4 a8 a7 F;obtain⟨U,W,Y⟩:=(a6.o _ (b8.o.trans (d1.o.bel6.mono b8.o.size))).1.c3.1;go_wp2;go_loopw[36] (λi wr=>∃(x:Nat) (v:Value) (m:Nat) (xs:List Value),x<=L/\i= Ud x/\bv (m<=p*L+x)/\ol 90 w E wr (w.1.size+1) I (I+1) #[Ud 0,Ud 0,.slice none 0 0] (Ud L) (Ud ((y:Int)+1)) v m xs) (λi _=>L-(intOf i).toNat);exact⟨0,v,m,xs,by omega,rfl,aa (by have:=Z.o;omega),d1.o⟩;clear d1 Z U W Y o0 o1 o2 b0 b1 d5 f6;obtain⟨x,v,m,xs,k7,rfl,Z,D⟩:=hrel;by_cases j8:x<L
   ·have k8:(x:Int)<(L:Int):=by omega
    have F:=aa D;have f4:=b8.o.trans (D.bel6.mono b8.o.size);obtain⟨J,_,b7⟩:=a6.o wr f4;obtain⟨U,W,Y⟩:=J.c3.1;have d2:=aa (g9.o wr p x b7);have e7:=aa (λt h=>h0.o p x t h);obtain⟨A,f0⟩:=aB (fU G p x);rw[<-f0] at d2 e7;clear D f0 J;go_wp2_with fail;refine d2.o.mono ?_;rintro e c8 ⟨rfl,f3⟩;have O:=aa (F.o.below f3);clear F d2 f3 b7 f4 U W Y;cases A with
    |none=>
     simp only[yI];go_wp2;go_roundw;exact⟨x+1,v,m,xs,by omega,by go_num,aa (by have:=Z.o;omega),O.o⟩;simp[intOf]<;>omega
    |some u=>
     have i7:=e7.o u rfl;have k5:decide ((0:Int)<=(u:Int))=true:=decide_eq_true (by omega);have k6:(u:Int)<(S:Int):=(by omega);have j9:m<=1000:=by
      have h6:=Z.o;have j3:p*L<=12*3:=bX (by omega) h9;omega
     have e2:=aa (λ(V:World) (Q:Below E.1.size E V)=>d9.o V Q u i7);obtain⟨d4,f7⟩:=aB (nh R u);rw[<-f7] at e2;obtain⟨⟨o0,o1,o2⟩,b0,b1,d5⟩:=O.o.b3.c3;clear f7;simp only[yI];go_wp2_with fail;obtain⟨a9,d6⟩:=aB (α:=World->Prop) (λV=>V.cell? ⟨I,2,none⟩=some v/\V.cell? ⟨g,u,none⟩=some (Ud (d4:Nat)));have e6:=aa (show∀V,a9 V->V.cell? ⟨I,2,none⟩=some v/\V.cell? ⟨g,u,none⟩=some (Ud (d4:Nat)) fromλV Q=>by rw[d6] at Q;exact Q);have b9:=aa (show∀V,Below (I+1) c8.drew V->a9 V fromλV b6=>by
      have k1:=O.o.ord;have c2:=O.o.bel6.drew.trans (b6.mono (by omega));obtain⟨⟨_,_,g5⟩,_⟩:=((O.o.b3.below aZ.drew).at_ b6 (by omega)).c3;rw[d6];exact⟨g5,e2.o V c2⟩)
     have g3:I+1<=c8.drew.1.size:=O.o.sz;have j4:a9 c8.drew:=b9.o _ aZ;have i0:a9 (c8.drew.alloc (.cells #[Ud k,Ud d4,Ud x] 90)):=b9.o _ (aZ.alloc g3 _);have g6:=aa (ai O.o.own aZ.drew);clear d6;refine dr (S:=a9) 12 (by kernel_rfl) ?_;iterate 9 (refine kG rfl (by kernel_rfl) (λ_ _ _ h=>h) (by rfl) (by assumption) (λV b2=>by have b2:=e6.o V b2;go_split_ands;go_simp;first|done|with_reducible rfl) ?_;try simp only[Act.put,ab,ac,ae])
     refine aY (i:=9) rfl (by kernel_rfl) (by decide) (λK a1=> ?_);go_simp;refine a1.out _ _ i0 ?_;clear a1 K;try simp only[Act.put,ab,ac,ae]
     refine aY (i:=10) rfl (by kernel_rfl) (by decide) (λK a1=> ?_);refine kJ (by rfl) _ _ 33 (by rfl) (I+1) 90 underlying33 qE v _ _ _ _ _ g6.o (by rfl) (by rfl) (by omega) g3 ?_;intro h5 h4 l0 g0 c4 i3;refine a1.out _ _ (b9.o _ c4) ?_;clear a1 K;try simp only[Act.put,ab,ac,ae]
     have j5:=b9.o _ c4;have f1:=(O.o.below aZ.drew).app c4 g0;obtain⟨⟨_,_,g5⟩,_,_,l1⟩:=((O.o.b3.below aZ.drew).at_ c4 (cG _)).c3;have g7:=aa f1;clear f1 g0 i3;(refine jw 11 rfl (by kernel_rfl) (λ_ _ _ h=>h) (by rfl) (by assumption) (λV b2=>by have b2:=e6.o V b2;go_split_ands;go_simp;first|done|with_reducible rfl) ?_;try simp only[Act.put,ab,ac,ae]);refine cU rfl (by kernel_rfl) (by kernel_rfl) (λK a1=> ?_);go_simp;refine a1.out _ _ ?_;clear a1 K;go_wp2;go_roundw;exact⟨x+1,.slice (some ⟨h5,0,none⟩) (m+1) h4,m+1,_,by omega,by go_num,aa (by have:=Z.o;omega),g7.o⟩;simp[intOf]<;>omega
   ·obtain rfl:x=L:=by omega
    have F:=aa D;clear D;go_wp2;go_roundw;exact⟨p+1,v,m,xs,by omega,by go_num,aa (by have:=Z.o;have:=e4.o;omega),by rw[c9.o];exact F.o⟩;simp[intOf]<;>omega
 ·obtain rfl:p=S:=by omega
  obtain⟨⟨o0,o1,o2⟩,_⟩:=D.b3.c3;obtain⟨⟨i8,i9,j0⟩,b0,b1,d5⟩:=D.b1.c3;have F:=aa D;obtain⟨e9,e8,rfl⟩:=dm D.own;rw[<-e1.o] at o1;clear D;go_wp2;have k2:=F.o.ord;refine bodyPost_ret (v:=.tuple #[.agg #[Ud L,Ud (ot G L p t:Nat),.slice e9 m e8],.bool true]) (by simp[results,results83,go_sem,i8,i9,j0]) rfl ⟨t,m,e8,e9,g8.o,rfl,?_⟩;exact((F.o.bel.setCell (by show w.1.size<=w.1.size+1;omega) _).setCell (by show w.1.size<=w.1.size+1;omega) _).setCell (by show w.1.size<=w.1.size+1;omega) _
def Ab(s k:Nat):Bool:=(List.range k).any λp=>decide (s=2^p)
theorem Gt(s k):Ab s (k+1)=(Ab s k||decide (s=2^k)):=by simp[Ab,bh]
theorem Mm{s k}(D:k<12)(h:s=2^k):jo s=true:=by
 unfold jo;rw[bB];exact⟨k,aD.2 D,decide_eq_true h⟩
theorem MW(s:Nat)(w)(a9:s<1000000):
 Calls prog 176 #[Ud s] w λe w'=>(∃r,e= .returned (Ud r)/\jo s=decide (0<=r))/\w'=w:=by
 have Q:=aa (λ(k:Nat) (F:k<12) (h:s=2^k)=>Mm F h);have W:=aa (Gt s);have I:=aa (show jo s=Ab s 12 from rfl);obtain⟨Z,O⟩:=aB (Ab s);rw[<-O] at W I;have a2:=aa (show Z 0=false by rw[O];rfl);obtain⟨R,E⟩:=aB (jo s);rw[<-E] at I;have a0:=aa (λ(k:Nat) (F:k<12) (h:s=2^k)=>show R=true from by rw[E];exact Q.o k F h);rw[<-E];clear O E Q;go_enter func176,ntmps176;go_wp2;go_loop[3] (λi=>∃k:Nat,k<=12/\i= Ud k/\bv (Z k=false)) (λi=>12-(intOf i).toNat);exact⟨0,by omega,rfl,a2⟩;obtain⟨k,F,rfl,Y⟩:=hrel;by_cases a4:k<12
 ·have a7:(k:Int)<12:=by omega
  have a5:=vC k (by omega);have b0:IntKind.u64.wrap (k:Int)=(k:Int):=dS _ (by omega);have a8:min k 64=k:=(by omega);have U:=aa (W.o k);have D:=aa (a0.o k a4);obtain⟨P,J⟩:=aB (α:=Nat) (2^k);rw[<-J] at a5 U D;have a6:=aa J;clear J;by_cases e:s=P
  ·have a3:((s:Int)==(P:Int))=true:=by simp[e]
   have D:=aa (D.o e);clear e;go_wp2;go_ret;exact⟨⟨_,rfl,by rw[D.o];exact(decide_eq_true (by omega)).symm⟩,rfl⟩
  ·have a3:((s:Int)==(P:Int))=false:=by simp;omega
   have a1:=aa (show Z (k+1)=false by rw[U.o,Y.o,decide_eq_false e];rfl);clear e;go_wp2;go_round;exact⟨k+1,by omega,by go_num,a1⟩;simp[intOf];omega
 ·obtain rfl:k=12:=by omega
  go_wp2;go_ret;exact⟨⟨_,rfl,by rw[I.o,Y.o];rfl⟩,rfl⟩
end Go.Proofs.YtbdlbckeffakjaaGreatDoor
