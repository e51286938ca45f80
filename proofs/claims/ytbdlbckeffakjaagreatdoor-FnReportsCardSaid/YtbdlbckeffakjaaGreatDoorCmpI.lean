/- Components counted, the program's way. Conditions: a matrix in memory. -/
import Derived.Test.YtbdlbckeffakjaaGreatDoorTimI
namespace Go.Proofs.YtbdlbckeffakjaaGreatDoor
set_option maxHeartbeats 8000000
set_option maxRecDepth 100000
open Go.Proofs.Tryz Go.RowKit
def Qt(o:Option (List (List Int)))(w:World)(e:Ending)(w':World):Prop:=
 ∃v,e= .returned (.tuple #[v,.bool o.isSome])/\(∀P,o=some P->ct 37 3 w' w.1.size v P)/\Below w.1.size w w'
theorem yQ(a b)(n c d)(A B)(w)(Q:bZ w a n A)(D:bZ w b n B)(U:dB A=true)(Y:dB B=true):
 Calls prog 199 #[.slice a n c,.slice b n d] w (Qt (xj A B n) w):=by
 obtain⟨a0,c0,c1,a7⟩:=kv Q U;obtain⟨a6,_,_,a8⟩:=kv D Y;have a2:=aa (fd a n c A w Q);have a3:=aa (fd b n d B w D);rw[U] at a2;rw[Y] at a3;have J:=aa (EJ a b n c d A B w Q D a0 a6 c0 c1 a7 a8);have a5:=aa (xk A B n a0.len);have h:=aa (show xj A B n=if dB (oY A B n)=true then some (oY A B n) else none from rfl);obtain⟨P,a4⟩:=aB (oY A B n);obtain⟨c3,Z⟩:=aB (xj A B n);have b3:=aa (λ(F:Option Addr) (O:Nat) (W:World) (b4:bZ W F n P)=>show Calls prog 244 #[.slice F n O] W λe w'=>∃v,e= .returned (.tuple #[v,.bool (dB P)])/\(dB P=true->v= .slice F n O)/\W=w' from by
  have a1:=aa (fd F n O P W b4);obtain⟨m,I⟩:=aB (dB P);rw[<-I] at a1;rw[<-I];clear b4 I Q D U Y a0 a6 a7 a8 a4 Z a2 a3 J a5 h;go_enter func244,ntmps244;cases m
  ·go_wp2_with fail;refine a1.o.mono ?_;rintro e b6 ⟨rfl,rfl⟩;go_wp2;go_ret2;exact⟨_,rfl,(λb9=>by cases b9),rfl⟩
  ·go_wp2_with fail;refine a1.o.mono ?_;rintro e b6 ⟨rfl,rfl⟩;go_wp2;go_ret2;first|exact⟨_,rfl,(λ_=>rfl),rfl⟩|exact⟨_,rfl,rfl,rfl⟩)
 unfold cK at J;unfold Qt;rw[<-a4] at J a5 h;rw[<-Z] at h;rw[<-Z];clear Q D U Y a0 a6 a7 a8 a4 Z;go_enter func199,ntmps199;go_wp2_with fail;refine a2.o.mono ?_;rintro e b0 ⟨rfl,rfl⟩;go_wp2_with fail;refine a3.o.mono ?_;rintro e b0 ⟨rfl,rfl⟩;have c4:((n:Int) !=(n:Int))=false:=(by simp);go_wp2_with fail;refine J.o.mono ?_;rintro e b0 ⟨v,rfl,a9,D⟩;obtain⟨F,O,rfl,b5⟩:=mg a9 a5.o (by omega);have b7:=aa a9;have b1:=aa D;have b2:=aa (b3.o F O b0 b5);clear a9 D b5 J b3;obtain⟨m,I⟩:=aB (dB P);rw[<-I] at b2 h;clear I;go_wp2_with fail;refine b2.o.mono ?_;rintro e b6 ⟨c5,rfl,c2,rfl⟩;cases m
 ·go_wp2;go_ret2;exact⟨_,by rw[h.o];rfl,(λb8 E=>by rw[h.o] at E;cases E),b1.o⟩
 ·obtain rfl:=c2 rfl;go_wp2;go_ret2;exact⟨_,by rw[h.o];rfl,(λb8 E=>by rw[h.o] at E;injection E with E;rw[<-E];exact b7.o),b1.o⟩
theorem uO(a)(n c k:Nat)(M)(w)(h:bZ w a n M)(Y:dB M=true)(c8:k<=30):
 Calls prog 111 #[.slice a n c,Ud k] w (Qt (mS M n k) w):=by
 obtain⟨c1,b0,b1,_⟩:=kv h Y;have a6:=aa (fd a n c M w h);rw[Y] at a6;have a4:=aa (yo n w b0 b1);have a7:=aa (λ(b:Option Addr) (d:Nat) (P:List (List Int)) (W:World) (c5:Below w.1.size w W) (c4:bZ W b n P) (c0:dB P=true)=>yQ b a n d c P M W c4 (h.below c5 aQ) c0 Y);have b5:=aa (λ(j:Nat) (P:List (List Int))=>nC (M:=M) (P:=P) (n:=n) b0 b1 j);have b6:=aa (λ(j:Nat) (h:mS M n j=none) (c2:j<=k)=>show mS M n k=none by have:=xd h (k-j);rwa[show j+(k-j)=k by omega] at this);unfold cK at a4;unfold Qt at a7⊢;have c9:¬((k:Int)<0):=(by omega);have d0:¬(30<(k:Int)):=(by omega);clear h Y c1;go_enter func111,ntmps111;go_wp2_with fail;refine a6.o.mono ?_;rintro e c7 ⟨rfl,rfl⟩;go_wp2_with(go_at_call 115;refine a4.o.mono ?_;rintro e c7 ⟨v,rfl,F,E⟩);go_loopw[6,7,23] (λx c6 i wr=>∃(j:Nat) (P:List (List Int)),j<=k/\i= Ud j/\c6= .bool true/\mS M n j=some P/\ct 37 3 wr w.1.size x P/\Below w.1.size w wr) (λ_ _ i _=>k-(intOf i).toNat);exact⟨0,kj n,by omega,rfl,rfl,rfl,F,E⟩;obtain⟨j,P,c2,rfl,rfl,J,F,E⟩:=hrel;have a9:=aa J;have O:=b5.o j P J;have a0:=(ee O.1 O.2).2.1;obtain⟨b8,b9,rfl,a3⟩:=mg F a0 (by omega);by_cases c3:j<k
 ·have U:=aa (a7.o b8 b9 P _ E a3 O.1);have I:=aa E;have Z:=aa (show mS M n (j+1)=xj P M n by show(mS M n j).bind _=_;rw[J];rfl);clear J F E a3 O a0;obtain⟨b7,b2⟩:=aB (xj P M n);rw[<-b2] at U Z;clear b2;go_wp2_with fail;refine U.o.mono ?_;rintro e d2 ⟨d1,rfl,a2,a1⟩;have a5:=aa (I.o.trans (a1.mono I.o.size));cases b7 with
  |none=>
   have a8:=aa (b6.o (j+1) Z.o c3);clear a2 a1 U;go_wp2;go_ret2;exact⟨_,by rw[a8.o];rfl,(λQ D=>by rw[a8.o] at D;cases D),a5.o⟩
  |some Q=>
   have b4:=aa ((a2 Q rfl).base I.o.size);clear a2 a1 U;go_wp2;go_roundw;exact⟨j+1,Q,by omega,by go_num,rfl,Z.o,b4.o,a5.o⟩;simp[intOf];omega
 ·obtain rfl:j=k:=by omega
  have b3:=aa F;have I:=aa E;clear J F E a3 O a0;go_wp2;go_ret2;exact⟨_,by rw[a9.o];rfl,(λQ D=>by rw[a9.o] at D;injection D with D;rw[<-D];exact b3.o),I.o⟩
theorem NQ(P)(n):cd (λi=>cB P i i) n=vg P n:=rfl
theorem uS(a)(n c k:Nat)(M)(w)(h:bZ w a n M)(J:dB M=true)(a9:1<=k)(a6:k<=30):
 Calls prog 39 #[.slice a n c,Ud k] w λe w'=>e= .returned (Ud (lx M n k))/\Below w.1.size w w':=by
 have E:=ee J (dp h).1;have I:=aa (uO a n c k M w h J a6);have W:=aa (λP=>nC (M:=M) (P:=P) (n:=n) E.1.1 E.1.2 k);have D:=aa (show lx M n k=match mS M n k with|none=> -1|some P=>vg P n from rfl);unfold Qt at I;have a7:=E.1.2;have b0:¬((k:Int)<1):=(by omega);obtain⟨a3,Z⟩:=aB (mS M n k);obtain⟨r,U⟩:=aB (lx M n k);rw[<-Z] at I W D;rw[<-U] at D;rw[<-U];clear h J E Z U;go_enter func39,ntmps39;go_wp2_with fail;refine I.o.mono ?_;rintro e a8 ⟨v,rfl,a0,Q⟩;cases a3 with
 |none=>
  go_wp2;go_ret;exact⟨cW D.o.symm,Q⟩
 |some P=>
  have O:=W.o P rfl;have F:=ee O.1 O.2;obtain⟨a4,a5,rfl,a1⟩:=mg (R:=P) (a0 P rfl) F.2.1 (by omega);have Y:=aa (vT a4 n a5 P a8 a1 F.2.1 a7 (λi hi=>by have:=F.2.2 i i;omega));rw[NQ] at Y;have a2:=aa Q;clear a0 Q a1 O F;go_wp2_with fail;refine Y.o.mono ?_;rintro e b1 ⟨rfl,rfl⟩;go_wp2;go_ret;exact⟨cW D.o.symm,a2.o⟩
theorem sG{M}{n k}(E:1<=n)(F:n<=9):Bx (lx M n k):=by
 unfold lx;cases h:mS M n k with
 |none=>exact⟨by show _<=(-1:Int);omega,by show(-1:Int)<=_;omega⟩
 |some P=>
  have D:=nC E F k h;have I:=ee D.1 D.2;have:=iV (f:=λu=>cB P u u) (n:=n) (B:=1000000) (λu J=>by have:=I.2.2 u u;exact this) n aQ;show Bx (cd (λu=>cB P u u) n)
  exact⟨by omega,by omega⟩
theorem Fb{a b:ByteArray}(h:a.1.1=b.1.1):a=b:=jk (jQ.1 h)
theorem Fc(a b:ByteArray):(a++b).1.1=a.1.1++b.1.1:=by rw[fm,iA]
theorem xp(B g c n)(xs)(w)(F:xs.length=n)(I:w.ownsRow B 9 1 (.slice (some ⟨g,0,none⟩) n c) n (ap xs))(E:n<=1000000000)(D:(Lib.join (xs.map mW) [32]).length<=1000000000):
 Calls prog 40 #[.slice (some ⟨g,0,none⟩) n c] w λe w'=>e= .returned (.string (dv xs ⟨#[32]⟩))/\Below w.1.size w w':=by
 go_enter func40,ntmps40;go_wp2_with fail;refine(qJ B g c n xs ⟨#[32]⟩ _ F I E D).mono ?_;rintro e J ⟨rfl,h⟩;go_wp2;go_ret;exact⟨rfl,h⟩
def fz(f:Nat->Int)(lo j:Nat):List Int:=(List.range' lo j).map f
theorem od(f)(lo j):(fz f lo j).length=j:=by simp[fz]
theorem qc(f)(lo j):af (fz f lo (j+1))=af (fz f lo j)++[Ud (f (lo+j))]:=by
 unfold fz;rw[List.range'_1_concat,ek];simp[af]
theorem lv{f}{lo j}{x}(h:x∈fz f lo j):∃i,lo<=i/\i<lo+j/\x=f i:=by
 unfold fz at h;obtain⟨i,hi,rfl⟩:=bi.1 h;rw[List.mem_range'_1] at hi;exact⟨i,hi.1,hi.2,rfl⟩
theorem tE(lo hi m:Nat)(F)(cap)(f)(w)(d5:hi+1=lo+m)(d1:hi<=1000)
 (a0:∀(i:Nat) (V:World),lo<=i->i<lo+m->Below w.1.size w V->Calls prog F #[Ud i,cap] V λe w'=>e= .returned (Ud (f i))/\Below V.1.size V w')
 (c9:∀x w,(callFunc F #[x,cap]).run prog w= .ok (.enter F #[x,cap]) w)(a4:∀i,lo<=i->i<lo+m->Bx (f i))(a6:qP w):
 Calls prog 37 #[Ud lo,Ud hi,.func (.func F) #[] #[cap]] w λe w'=>e= .returned (.string (dv ((fz f lo m).map cF) ⟨#[44]⟩))/\Below w.1.size w w':=by
 have a9:=aa a0;have W:=aa (λ(a:Option Addr) (c:Nat) (V:World) (b9:Below w.1.size w V) (c4:aO V a m (af (fz f lo m)))=>nW a m c (fz f lo m) ⟨#[44]⟩ V c4 (λx c5=>by obtain⟨i,b6,b7,rfl⟩:=lv c5;exact a4 i b6 b7) rfl (by omega) (gt a6 b9 aQ));obtain⟨d6,U⟩:=aB (dv ((fz f lo m).map cF) ⟨#[44]⟩);rw[<-U] at W;rw[<-U];have b3:=aa (λj=>qc f lo j);have a1:Below w.1.size w (w.alloc (.cells #[] 3)):=aZ.alloc aQ _;have Y:=aa (bd (w:=w) (base:=w.1.size) (e:=3) #[] [] rfl aQ (by unfold maxLen;simp));clear a0 a4 a6 U;go_enter func37,ntmps37;go_wp2;go_loopw[7,8] (λv i wr=>∃j g c:Nat,j<=m/\i= Ud ((lo+j:Nat):Int)/\v= .slice (some ⟨g,0,none⟩) j c/\wr.ownsRow w.1.size 3 1 (.slice (some ⟨g,0,none⟩) j c) j (af (fz f lo j))/\Below w.1.size w wr) (λ_ i _=>lo+m-(intOf i).toNat);exact⟨0,w.1.size,0,by omega,rfl,rfl,Y.o,a1⟩;clear Y a1;obtain⟨j,g,c,d2,rfl,rfl,E,D⟩:=hrel;have b0:=aa (E.lt g rfl);obtain⟨q,h⟩:=aB (lo+j);by_cases d3:j<m
 ·have c3:(q:Int)<=(hi:Int):=by omega
  have J:=aa (a9.o (lo+j) wr (by omega) (by omega) D);have O:=aa (b3.o j);have b1:=aa E;rw[<-h] at J O;rw[<-h];obtain⟨y,a8⟩:=aB (f q);rw[<-a8] at J O;have Z:=aa h;clear E a8 h;go_wp2_with fail;refine J.o.mono ?_;rintro e c6 ⟨rfl,a2⟩;have b8:=(ai b1.o a2).alloc (.cells #[Ud y] 3);have I:=D.trans (a2.mono D.size);go_wp2_with(first|(at_builtin;go_must(refine aX rfl _ _ 37 rfl w.1.size 3 (Ud 0) 8 underlying37 bK rfl g c j (af (fz f lo j)) b8 rfl c6.1.size 0 1 1 [Ud y] rfl rfl (by intro q u h;match q,h with|0,h=>simp at h;subst h;simp) (by intro u a7;simp at a7;subst a7;rfl) (by omega) (by unfold maxLen;omega) (by have:=I.size;simp;omega) ?_);intro b5 b4 c7 c2 c1 d0 d4));have Q:Below w.1.size w c7:=(I.alloc I.size _).grown c1 (by have:=I.size;simp;omega) (by rintro k ⟨⟩;exact b0.o.1);go_roundw;exact⟨j+1,b5,b4,by omega,by have:=Z.o;go_num,rfl,by rw[O.o];exact c2,Q⟩;have:=Z.o;simp[intOf];omega
 ·obtain rfl:j=m:=by omega
  have c3:¬((q:Int)<=(hi:Int)):=(by omega);rw[<-h];obtain⟨c8,cr,a3,a5⟩:=aS E (by omega);simp only[aJ,true_and] at a3;obtain⟨rfl,rfl⟩:=a3;have b2:=aa a5;clear E a5 h;go_wp2_with fail;refine(W.o _ _ _ D b2.o).mono ?_;rintro e d7 ⟨rfl,Q⟩;have c0:=D.trans (Q.mono D.size);go_wp2;go_ret;exact⟨rfl,c0⟩
theorem yx(a)(n c k)(M)(w)(h:bZ w a n M)(b4:cS M n n)(d8:n<=4)(d2:Bd 9 M)(g9:k<=n):
 Calls prog 131 #[.slice a n c,Ud k] w λe w'=>e= .returned (Ud (rZ M n k (2^n)))/\Below w.1.size w w':=by
 have h0:=Eq n d8;have i1:=aa h;have f1:=aa (λ(d0:Option Addr) (m f5:Nat) (C:List Nat) (V:World) (a3:Below w.1.size w V) (h2:aO V d0 m (eO C)) (g0:∀i∈C,i<n) (F:C.length=k)=>(tY a d0 n c m f5 M C V (by
  obtain⟨h9,f7,f8,f9⟩:=h;exact⟨h9,f7.below a3 aQ,f8,λi x r h8 h1=>let⟨a',c',e,q⟩:=f9 i x r h8 h1;⟨a',c',e,q.below a3 aQ⟩⟩) b4 h2 g0 (by omega)).mono (R':=λe w'=>∃D I,e= .returned (.slice D k I)/\gU w' D k (dn M C C)/\Below V.1.size V w') (by
  rintro e w' ⟨v,rfl,g7,g6⟩;obtain⟨D,I,rfl,_,b8⟩:=fH g7 (show cS (dn M C C) k k by rw[<-F];exact fc M C C) (by omega);exact⟨D,I,rfl,b8,g6⟩))
 have e8:=aa (λ(D:Option Addr) (I:Nat) (C:List Nat) (V:World) (F:C.length=k) (d1:∀i∈C,i<n) (b7:gU V D k (dn M C C))=>show Calls prog 215 #[.slice D k I] V λe w'=>e= .returned (Ud (rl M C))/\Below V.1.size V w' from by
  have:=ld 9 (by omega) (by omega) k (by omega) (dn M C C) D I V b7 (by rw[<-F];exact fc M C C) (lU b4 d2 d1 d1);unfold rl;rw[F];exact this)
 have e2:=aa (λ(i:Nat) (hi:i<4) (s:Nat) (a4:s<16)=>Bm i hi s a4);have e7:=aa (λ(s j:Nat) (h:s/2^j%2=1)=>Bn h);have e5:=aa (λ(s j:Nat) (h:¬s/2^j%2=1)=>EV h);have e3:=aa (λ(s j:Nat)=>EW s j);have e4:=aa (λ(s i:Nat) (h:i∈eJ s n)=>Le h);have c7:=aa (λ(m:Nat) (h:(eJ m n).length=k)=>OZ (M:=M) h);have c5:=aa (λ(m:Nat) (h:¬(eJ m n).length=k)=>Ro (M:=M) h);have b2:=aa (λ(m:Nat) (F:m<=16)=>Ew d8 b4 d2 g9 F);have c4:=aa (MD M n k);have j3:IntKind.i64.wrap ((2:Int)^n)=(2:Int)^n:=by
  have:n=0\/n=1\/n=2\/n=3\/n=4:=(by omega);rcases this with rfl|rfl|rfl|rfl|rfl<;>decide
 have j6:IntKind.u64.wrap (n:Int)=(n:Int):=dS _ (by omega);obtain⟨N,a7⟩:=aB (2^n);have i3:(2:Int)^n=(N:Int):=by rw[a7];norm_cast
 rw[<-a7] at h0;rw[<-a7];obtain⟨G,b3⟩:=aB (rZ M n k);rw[<-b3] at c7 c5 b2 c4;rw[<-b3];clear a7 b3 h;go_enter func131,ntmps131;go_wp2;go_loopw[5,6] (λv i wr=>∃(p:Nat),p<=N/\i= Ud p/\v= Ud (G p)/\bv (Below w.1.size w wr)) (λ_ i _=>N-(intOf i).toNat);exact⟨0,by omega,rfl,by rw[c4.o],aa aZ⟩;obtain⟨p,j1,rfl,rfl,b1⟩:=hrel;obtain⟨E,h7⟩:=aB wr;subst h7;by_cases i8:p<N
 ·have j2:(p:Int)<(N:Int):=by omega
  have h4:=b1.o.size;have J:=aa (show(E.alloc (.cells #[] 3)).ownsRow E.1.size 3 1 (.slice (some ⟨E.1.size,0,none⟩) 0 0) 0 (eO (eJ p 0)) from bd (w:=E) (base:=E.1.size) (e:=3) #[] [] rfl aQ (by unfold maxLen;simp));have b9:=aa (show Below E.1.size E (E.alloc (.cells #[] 3)) from aZ.alloc aQ _);have c8:=aa (λh=>c7.o p h);have c6:=aa (λh=>c5.o p h);have a8:=b2.o p (by omega);have a9:=b2.o (p+1) (by omega);obtain⟨s,a4⟩:=aB (G p);rw[<-a4] at c8 c6 a8;rw[<-a4];clear a4;obtain⟨S,g1⟩:=aB E.1.size;have a2:=aa g1;go_wp2;go_loopw[7,8] (λv i wr=>∃(j Y W:Nat),j<=n/\i= Ud j/\v= .slice (some ⟨Y,0,none⟩) (eJ p j).length W/\bv (wr.ownsRow S 3 1 (.slice (some ⟨Y,0,none⟩) (eJ p j).length W) (eJ p j).length (eO (eJ p j)))/\bv (Below S E wr)) (λ_ i _=>n-(intOf i).toNat);exact⟨0,S,0,by omega,rfl,by rw[a2.o];rfl,by rw[a2.o];exact J,by rw[a2.o];exact b9⟩;clear J b9;obtain⟨j,Y,W,i4,rfl,rfl,J,a5⟩:=hrel;have d7:=e3.o p j;have h5:=a5.o.size;have h6:S<=wr.1.size:=by rw[a2.o];exact h5
  obtain⟨L,a6⟩:=aB (eJ p j);have Q:=aa a6;rw[<-a6] at J d7;rw[<-a6];obtain⟨m,F⟩:=aB L.length;have U:=aa F;rw[<-F] at J d7;rw[<-F];clear a6 F;by_cases i7:j<n
  ·have i5:(j:Int)<(n:Int):=by omega
   have j5:IntKind.u64.wrap (j:Int)=(j:Int):=dS _ (by omega);have g2:=e2.o j (by omega) p (by omega);have c3:=aa (λh=>e7.o p j h);have c1:=aa (λh=>e5.o p j h);obtain⟨c9,d3⟩:=aB (p/2^j%2);rw[<-d3] at g2 c3 c1;have g5:c9=0\/c9=1:=(by omega);clear d3 a8 a9;rcases g5 with rfl|rfl
   ·have a1:=aa (c1.o (by decide));have f3:=aa (show wr.ownsRow S 3 1 (.slice (some ⟨Y,0,none⟩) (eJ p (j+1)).length W) (eJ p (j+1)).length (eO (eJ p (j+1))) from by rw[a1.o,<-Q.o,<-U.o];exact J.o);have b0:m=(eJ p (j+1)).length:=by rw[a1.o,<-Q.o,<-U.o]
    go_wp2;go_roundw;exact⟨j+1,Y,W,by omega,by go_num,by rw[b0],f3,a5⟩;simp[intOf];omega
   ·have a1:=aa (c3.o rfl);have g8:=(J.o.lt Y rfl).1;go_wp2_with(first|(at_builtin;go_must(refine aX rfl _ _ 37 rfl S 3 (Ud 0) 8 underlying37 bK rfl Y W m (eO L) (J.o.alloc _) rfl wr.1.size 0 1 1 [Ud j] rfl rfl (cz rfl) (by intro u e0;simp at e0;subst e0;rfl) (by omega) (by unfold maxLen;omega) (by simp;omega) ?_);intro f6 f4 i0 d9 d6 j0 i6));have f0:=aa d9;have e1:=aa ((a5.o.alloc h6 (.cells #[Ud j] 3)).grown d6 (by simp;omega) (by rintro k ⟨⟩;exact g8));have b0:(eJ p (j+1)).length=m+1:=by rw[a1.o,<-Q.o,az,<-U.o];rfl
    have e9:=aa (show eO (eJ p (j+1))=eO L++[Ud (j:Int)] by rw[a1.o,<-Q.o];simp[eO,af]);clear d9 d6;go_roundw;exact⟨j+1,f6,f4,by omega,by go_num,by rw[b0],aa (by rw[b0,e9.o];exact f0.o),e1⟩;simp[intOf];omega
  ·obtain rfl:j=n:=by omega
   have b5:Below E.1.size E wr:=by rw[<-a2.o];exact a5.o
   have a0:=aa (b1.o.trans (b5.mono h4));by_cases b6:m=k
   ·have Z:=aa (c8.o (by rw[<-Q.o,<-U.o];exact b6));rw[<-Q.o] at Z;have c2:=aa (λi (hi:i∈L)=>e4.o p i (by rw[<-Q.o];exact hi));subst b6;obtain⟨i2,cr,d5,h3⟩:=aS J.o (by omega);simp only[aJ] at d5;obtain⟨rfl,-,-⟩:=d5;have f2:=aa (λ(V:World) (a3:Below wr.1.size wr V)=>f1.o _ m W L V (a0.o.trans (a3.mono a0.o.size)) (h3.below a3 aQ) c2.o U.o.symm);have c0:=aa (λ(D:Option Addr) (I:Nat) (V:World) b7=>e8.o D I L V U.o.symm c2.o b7);obtain⟨d,d4⟩:=aB (rl M L);rw[<-d4] at c0 Z;have j4:IntKind.i64.wrap (s+d)=s+d:=au _ (by rw[Z.o] at a9;omega);clear d4 a8 a9 b5;have O:Below wr.1.size wr wr:=aZ;go_wp2_with(first|(go_at_call 216;refine(f2.o _ O).mono ?_;rintro e i0 ⟨D,I,rfl,b8,g3⟩;have O:=O.trans (g3.mono O.size))|(go_at_call 215;refine(c0.o D I _ b8).mono ?_;rintro e j7 ⟨rfl,g4⟩;have O:=O.trans (g4.mono O.size)));have e6:=aa (a0.o.trans (O.mono a0.o.size));clear O;go_roundw;exact⟨p+1,by omega,by go_num,by rw[Z.o],e6⟩;simp[intOf];omega
   ·have Z:=aa (c6.o (by rw[<-Q.o,<-U.o];exact b6));have i9:((m:Int)==(k:Int))=false:=by simp;omega
    clear b5 a8 a9;go_wp2;go_roundw;exact⟨p+1,by omega,by go_num,by rw[Z.o],a0⟩;simp[intOf];omega
 ·obtain rfl:p=N:=by omega
  go_wp2;go_ret;exact⟨rfl,b1.o⟩
theorem Ei(a)(n c)(xs)(w)(h:aO w a n (af xs))(c5:1<=n/\n<=9)(d5:n<=c)(a1:mP xs 0≠0):
 Calls prog 132 #[.slice a n c] w λe w'=>∃a' c',e= .returned (.slice a' (mX xs n) c')/\aO w' a' (mX xs n) (af (xs.take (mX xs n)))/\Below w.1.size w w':=by
 have e5:xs.length=n:=by have:=h.len;rw[show(af xs).length=xs.length by simp[af]] at this;exact this
 have b8:=aa (λ(q:Nat) (h:mP xs q=0)=>Bi (p:=xs) h);have b2:=aa (λ(q:Nat) (h:¬mP xs q=0)=>zk (p:=xs) h);have b9:=aa (show mX xs 0=0 from rfl);have c4:=oP xs n;have c7:1<=mX xs n:=by
  obtain⟨q,rfl⟩:∃q,n=q+1:=⟨n-1,by omega⟩;exact wj a1 q
 obtain⟨b,a0,rfl,a2,Y⟩:=h.at_ c5.1;have b0:=aa (λ(q:Nat) (D:q<n)=>Y q (Ud (mP xs q)) (aP (dR (by omega))));have b5:=aa (λ(m:Nat) (I:m<=n)=>show aO w (some ⟨b,a0,none⟩) m (af (xs.take m)) from⟨by simp[af];omega,by omega,λd4=>⟨b,a0,rfl,a2,λq v D=>Y q v (by
  rw[jL] at D;rw[cP] at D;split at D
  ·exact D
  ·cases D)⟩⟩)
 obtain⟨m,I⟩:=aB (mX xs n);have b1:=aa I.symm;rw[<-I] at c4 c7;rw[<-I];clear I Y h a1;go_enter func132,ntmps132;go_wp2;go_loopw[3] (λv wr=>∃(p:Nat),p<=n/\v= Ud p/\bv (mX xs p=m)/\wr=w) (λv _=>(intOf v).toNat);exact⟨n,by omega,rfl,b1,rfl⟩;obtain⟨p,d8,rfl,W,rfl⟩:=hrel;by_cases d9:0<p
 ·obtain⟨q,D⟩:=aB (p-1);have c8:(p:Int)-1=(q:Int):=(by omega);have Z:p=q+1:=(by omega);have e3:IntKind.i64.wrap ((p:Int)-1)=(q:Int):=by rw[c8];exact au _ (by omega)
  have c1:=b0.o q (by omega);have F:=aa (b8.o q);have E:=aa (b2.o q);rw[<-Z] at F E;have e0:(0:Int)<(p:Int):=(by omega);have e1:q<n:=(by omega);have e2:q<p:=(by omega);obtain⟨x,a7⟩:=aB (mP xs q);rw[<-a7] at c1 F E;have b4:=aa Z;clear a7 D Z;by_cases O:x=0
  ·have U:=aa (F.o O);subst O;clear E F;go_wp2;go_roundw;exact⟨q,by omega,by go_num,aa (by rw[<-U.o];exact W.o),trivial⟩;simp[intOf];omega
  ·have U:=aa (E.o O);have e4:(x==0)=false:=by simp[O]
   have c6:p=m:=by rw[<-W.o,U.o]
   clear E F;subst c6;have Q:=aa (b5.o p (by omega));have a6:=Q.o.len;obtain⟨a8,J⟩:=aB (af (xs.take p));have b7:=aa (show∀u∈a8,u.oneCell'=true from by rw[J];exact ng);rw[<-J] at a6 Q;have b6:=aa J;obtain⟨d1,e6,a3,_,c0⟩:=Q.o.at_ (by omega);simp only[aI,cA] at a3;obtain⟨rfl,rfl,-⟩:=a3;have b3:=aa (show(wr.alloc (.cells #[] 3)).ownsRow wr.1.size 3 1 (.slice (some ⟨wr.1.size,0,none⟩) 0 0) 0 [] from bd (w:=wr) (base:=wr.1.size) (e:=3) #[] [] rfl aQ (by unfold maxLen;simp));clear J b4;go_wp2_with(first|(at_builtin;go_must(refine aX rfl _ _ 37 rfl wr.1.size 3 (Ud 0) 8 underlying37 bK rfl wr.1.size 0 0 [] b3.o rfl b a0 p c a8 rfl a6 (λj u c3=>(World.cell?_alloc_past _ _ _ a2).trans (c0 j u c3)) b7.o (by omega) (by unfold maxLen;omega) (by simp) ?_);intro d3 d2 e7 a5 c2 d7 d6));have a9:=((aV wr.1.size wr).alloc aQ (.cells #[] 3)).grown c2 (by simp) (by rintro k ⟨⟩;exact aN _);rw[aW] at a5;obtain⟨d0,cr,a4,c9⟩:=aS a5 (by omega);simp only[aJ] at a4;obtain⟨rfl,-,rfl⟩:=a4;go_ret;exact⟨_,_,rfl,by rw[<-b6.o];exact c9,a9⟩
 ·exfalso;have:p=0:=(by omega);subst this;have:=W.o;rw[b9.o] at this;omega
theorem vo(a)(n c)(M)(w)(h:bZ w a n M)(a0:kX M=true):
 Calls prog 53 #[.slice a n c] w λe w'=>∃a' c',e= .returned (.slice a' (ia M n).length c')/\aO w' a' (ia M n).length (af (ia M n))/\Below w.1.size w w':=by
 obtain⟨_,U,O,b5⟩:=fL a0 (dp h).1;have a1:=TK O b5;have a7:=aa (fu a n c M w h);rw[a0] at a7;have a8:=aa (λ(k:Nat) (Q:k<=n) (V:World) (d4:Below w.1.size w V)=>yx a n c k M V (h.below d4 aQ) O U.2 a1 Q);have W:=aa (λ(g b2:Nat) (V:World) (d7:aO V (some ⟨g,0,none⟩) (n+1) (af (ky M n (n+1)))) (d6:n+1<=b2)=>(Ei (some ⟨g,0,none⟩) (n+1) b2 (ky M n (n+1)) V d7 (by omega) d6 (by
  have:=jq (zW (M:=M) (n:=n) (K:=n+1) (k:=0) (by omega));rw[this,xe M U.2];decide)).mono (R':=λe w'=>∃a' c',e= .returned (.slice a' (ia M n).length c')/\aO w' a' (ia M n).length (af (ia M n))/\Below V.1.size V w') (by rw[pe];rintro e w' ⟨a',c',d1,d2,d3⟩;exact⟨a',c',d1,d2,d3⟩))
 have a5:=aa (λ(k:Nat) (Q:k<=n)=>Ew (k:=k) U.2 O a1 Q (Eq n U.2));have b1:=aa (λK=>show af (ky M n (K+1))=af (ky M n K)++[Ud (rO K*rZ M n K (2^n))] from by rw[CS];simp[af,uH]);have e3:=aa (λK=>vF M n K);have c8:=aa (λk=>show rO (k+1)= -rO k from rfl);obtain⟨a3,b3⟩:=aB (λk=>rZ M n k (2^n));have a6:=aa (λk=>show rZ M n k (2^n)=a3 k by rw[b3]);simp only[a6.o] at a8 b1 a5;have f2:IntKind.i64.wrap ((n:Int)+1)=((n+1:Nat):Int):=by rw[au _ (by omega)];omega
 have D:=aa (show(w.alloc (.cells #[] 3)).ownsRow w.1.size 3 1 (.slice (some ⟨w.1.size,0,none⟩) 0 0) 0 (af (ky M n 0)) from bd (w:=w) (base:=w.1.size) (e:=3) #[] [] rfl aQ (by unfold maxLen;simp));have a4:=aa (show Below w.1.size w (w.alloc (.cells #[] 3)) from aZ.alloc aQ _);clear h a0 O b5 a1 b3 a6;go_enter func53,ntmps53;go_wp2_with(go_at_call 23;refine a7.o.mono ?_;rintro e w' ⟨rfl,rfl⟩);go_loopw[3,4,5] (λv g i wr=>∃(k E J:Nat),k<=n+1/\i= Ud k/\g= Ud (rO k)/\v= .slice (some ⟨E,0,none⟩) k J/\bv (wr.ownsRow w.1.size 3 1 (.slice (some ⟨E,0,none⟩) k J) k (af (ky M n k)))/\bv (Below w.1.size w wr)) (λ_ _ i _=>n+1-(intOf i).toNat);exact⟨0,w.1.size,0,by omega,rfl,rfl,rfl,D,a4⟩;clear D a4;obtain⟨k,E,J,Q,rfl,rfl,rfl,D,I⟩:=hrel;by_cases c0:k<=n
 ·have e5:(k:Int)<=(n:Int):=by omega
  have a9:=aa (a8.o k c0 wr I.o);have Y:=aa (b1.o k);have b0:=aa (c8.o k);have b6:=a5.o k c0;have Z:=oB k;have d8:=(D.o.lt E rfl).1;have e2:=I.o.size;obtain⟨s,a2⟩:=aB (rO k);obtain⟨d,b7⟩:=aB (a3 k);rw[<-a2] at Y b0 Z;rw[<-a2];rw[<-b7] at Y a9 b6;have f0:IntKind.i64.wrap (s*d)=s*d:=au _ (by rcases Z with h|h<;>rw[h]<;>omega);have f1:IntKind.i64.wrap (-s)= -s:=au _ (by omega);clear a2 b7 Z b6;go_wp2_with(first|(go_at_call 131;refine a9.o.mono ?_;rintro e c4 ⟨rfl,F⟩;have c1:=ai D.o F;have e9:=F.size)|(at_builtin;go_must(refine aX rfl _ _ 37 rfl w.1.size 3 (Ud 0) 8 underlying37 bK rfl E J k (af (ky M n k)) (c1.alloc _) rfl c4.1.size 0 1 1 [Ud (s*d)] rfl rfl (cz rfl) (by intro u c3;simp at c3;subst c3;rfl) (by omega) (by unfold maxLen;omega) (by simp;omega) ?_);intro d0 c9 f3 c2 b9 e8 e6));have c7:=aa c2;have c5:=aa (((I.o.trans (F.mono e2)).alloc (by omega) (.cells #[Ud (s*d)] 3)).grown b9 (by simp;omega) (by rintro k ⟨⟩;exact d8));clear c2 b9 c1 F;go_roundw;exact⟨k+1,d0,c9,by omega,by go_num,by rw[b0.o],rfl,aa (by rw[Y.o];exact c7.o),c5⟩;simp[intOf];omega
 ·obtain⟨K,b4⟩:=aB (n+1);have d9:k=K:=(by omega);have e7:(n:Int)<(k:Int):=(by omega);rw[<-b4] at W;subst d9;obtain⟨e4,cr,b8,d5,e1⟩:=nR D.o (by omega);simp only[aJ] at b8;obtain⟨rfl,-,rfl⟩:=b8;have c6:=aa (W.o E J wr e1 d5);clear b4 W;go_wp2_with(go_at_call 132;refine c6.o.mono ?_;rintro e c4 ⟨a',c',rfl,e0,F⟩);go_ret;exact⟨a',c',rfl,e0,I.o.trans (F.mono I.o.size)⟩
theorem vP{α:Type}{f:Nat->α->α}{P:Nat->α->Prop}{n:Nat}(h:∀k a,k<n->P k a->P (k+1) (f k a)):∀j,j<=n->∀a,P 0 a->P j (fE f j a)
 |0,_,a,h0=>h0
 |j+1,hj,a,h0=>by
  have:=h j (fE f j a) (by omega) (vP h j (by omega) a h0);exact this
def Tp(s:List (List Int))(k p q:Nat):Int:=max (cB s p q) (min (cB s p k) (cB s k q))
def Iy(s:List (List Int))(k i j p q:Nat):Int:=if p<i\/(p=i/\q<j) then Tp s k p q else cB s p q
theorem Sz(s)(k i j p):Iy s k i j p k=cB s p k:=by
 unfold Iy Tp;split<;>omega
theorem Sy(s)(k i j q):Iy s k i j k q=cB s k q:=by
 unfold Iy Tp;split<;>omega
theorem Lv{s}{n k i}(I:k<n)(hi:i<n):∀j a,j<n->(cS a n n/\∀p q,p<n->q<n->cB a p q=Iy s k i j p q)->(cS (mQ k i j a) n n/\∀p q,p<n->q<n->cB (mQ k i j a) p q=Iy s k i (j+1) p q):=by
 rintro j a D ⟨F,h⟩;unfold mQ;refine⟨F.put2 _ _ _,λp q J O=> ?_⟩;by_cases e:i=p/\j=q
 ·obtain⟨rfl,rfl⟩:=e;rw[sY F hi D,h i j hi D,h i k hi I,h k j I D,Sz,Sy];unfold Iy;rw[if_neg (by omega),if_pos (by omega)];rfl
 ·rw[qx _ (by omega),h p q J O];unfold Iy;by_cases E:p<i\/(p=i/\q<j)
  ·rw[if_pos E,if_pos (by omega)]
  ·rw[if_neg E,if_neg (by omega)]
theorem NK{s}{n k}(O:k<n):∀i a,i<n->(cS a n n/\∀p q,p<n->q<n->cB a p q=Iy s k i 0 p q)->(cS (ou n k i a) n n/\∀p q,p<n->q<n->cB (ou n k i a) p q=Iy s k (i+1) 0 p q):=by
 rintro i a hi h;have D:=vP (f:=mQ k i) (P:=λj a=>cS a n n/\∀p q,p<n->q<n->cB a p q=Iy s k i j p q) (n:=n) (λj a J I=>Lv O hi j a J I) n aQ a h;refine⟨D.1,λp q Q U=> ?_⟩;have F:=D.2 p q Q U;unfold ou;rw[F];unfold Iy;by_cases E:p<i\/(p=i/\q<n)
 ·rw[if_pos E,if_pos (by omega)]
 ·rw[if_neg E,if_neg (by omega)]
theorem NJ{s}{n k}(I:k<n)(E:cS s n n):cS (lL n k s) n n/\∀p q,p<n->q<n->cB (lL n k s) p q=Tp s k p q:=by
 have h:=vP (f:=ou n k) (P:=λi a=>cS a n n/\∀p q,p<n->q<n->cB a p q=Iy s k i 0 p q) (n:=n) (λi a hi F=>NK I i a hi F) n aQ s ⟨E,λp q _ _=>by unfold Iy;rw[if_neg (by omega)]⟩;refine⟨h.1,λp q J O=> ?_⟩;have D:=h.2 p q J O;unfold lL;rw[D];unfold Iy;rw[if_pos (by omega)]
def TR(n k:Nat)(s:List (List Int)):Prop:=Bits s n/\∀m i j,m<k->i<n->j<n->cB s i m=1->cB s m j=1->cB s i j=1
theorem Sl{n k}{s}(E:k<n)(h:TR n k s):TR n (k+1) (lL n k s):=by
 obtain⟨D,O⟩:=h;have Q:=NJ E D.rect;have Y:Bits (lL n k s) n:=ql E D n aQ;refine⟨Y,λm i j a7 hi F U W=> ?_⟩;have I:m<n:=(by omega);rw[Q.2 i m hi I] at U;rw[Q.2 m j I F] at W;rw[Q.2 i j hi F];unfold Tp at*;have Z:=D.bit i j hi F;have a0:=D.bit i k hi E;have a2:=D.bit k j E F;have a1:=D.bit i m hi I;have a4:=D.bit k m E I;have a6:=D.bit m k I E;have a5:=D.bit m j I F;have a3:=D.bit k k E E;by_cases J:m<k
 ·have a8:=O m i j J hi F;have a9:=O m i k J hi E;have b0:=O m k j J E F;omega
 ·have:m=k:=by omega
  subst this;omega
theorem yd{M}{n}(F:∀i j,i<n->j<n->0<=cB M i j){i m j}(hi:i<n)(h:m<n)(J:j<n)(D:cB (cI M n) i m=1)(E:cB (cI M n) m j=1):cB (cI M n) i j=1:=
 (vP (f:=lL n) (P:=λk s=>TR n k s) (n:=n) (λk a O I=>Sl O I) n aQ (mn M n) ⟨oQ F,λm i j h=>by omega⟩).2 m i j h hi J D E
def iY(R:List (List Int))(i j:Nat):Bool:=decide (cB R i j=1)&&decide (cB R j i=1)
def kP(R:List (List Int))(i:Nat):Bool:=iY R i i&&(List.range i).all λj=> !iY R i j
def lK(R:List (List Int))(j:Nat):Nat:=((List.range j).filter (kP R)).length
def mE(R:List (List Int))(i j:Nat):Bool:=(List.range i).any λk=>kP R k&&iY R k j
theorem Gy(R)(i j):iY R i j=iY R j i:=by
 unfold iY;exact Bool.and_comm _ _
theorem Rd{R}{i j}:iY R i j=true↔cB R i j=1/\cB R j i=1:=by
 unfold iY;rw[aC,decide_eq_true_iff,decide_eq_true_iff]
theorem Da{M}{n i j k}(E:∀i j,i<n->j<n->0<=cB M i j)(hi:i<n)(F:j<n)(I:k<n)(h:iY (cI M n) i j=true)(D:iY (cI M n) j k=true):iY (cI M n) i k=true:=by
 rw[Rd] at*;exact⟨yd E hi F I h.1 D.1,yd E I F hi D.2 h.2⟩
theorem As{R}{i}:kP R i=true↔iY R i i=true/\∀j,j<i->iY R i j=false:=by
 unfold kP;rw[aC,bm];constructor
 ·rintro⟨h,D⟩;exact⟨h,λj E=>by have:=D j (aD.2 E);simpa using this⟩
 ·rintro⟨h,D⟩;exact⟨h,λj E=>by rw[D j (aD.1 E)];rfl⟩
theorem LX{M}{n}(U:∀i j,i<n->j<n->0<=cB M i j):∀i,i<n->(!mE (cI M n) i i&&iY (cI M n) i i)=kP (cI M n) i:=by
 intro i hi;rw[bF,aC,As];constructor
 ·rintro⟨E,F⟩;refine⟨F,λj a0=> ?_⟩;cases hm:iY (cI M n) i j with
  |false=>rfl
  |true=>
   exfalso;have Z:∃k,k<i/\iY (cI M n) i k=true:=⟨j,a0,hm⟩;have a7:∃k,(k<i/\iY (cI M n) i k=true)/\∀h,h<k->¬(h<i/\iY (cI M n) i h=true):=by
    obtain⟨k,D⟩:=Z;induction k using Nat.strongRecOn with
    |_ k ih=>
     by_cases W:∃h,h<k/\(h<i/\iY (cI M n) i h=true)
     ·obtain⟨h,a2,a3⟩:=W;exact ih h a2 a3
     ·exact⟨k,D,λh a1 a8=>W ⟨h,a1,a8⟩⟩
   obtain⟨k,⟨D,O⟩,a6⟩:=a7;have J:k<n:=(by omega);have Y:iY (cI M n) k i=true:=by rw[Gy];exact O
   have a5:kP (cI M n) k=true:=As.2 ⟨Da U J hi J Y O,λl a4=>by
    cases hml:iY (cI M n) k l with
    |false=>rfl
    |true=>exact absurd ⟨by omega,Da U hi J (by omega) O hml⟩ (a6 l a4)⟩
   have Q:mE (cI M n) i i=true:=bB.2 ⟨k,aD.2 D,by rw[a5,Y];rfl⟩;rw[Q] at E;cases E
 ·rintro⟨E,F⟩;refine⟨?_,E⟩;cases Q:mE (cI M n) i i with
  |false=>rfl
  |true=>
   exfalso;obtain⟨k,D,I⟩:=bB.1 Q;rw[aC] at I;have:=F k (aD.1 D);rw[Gy] at this;rw[this] at I;cases I.2
theorem Hx{R}{j}(h:kP R j=true):lK R (j+1)=lK R j+1:=by simp[lK,bh,bE,h]
theorem KZ{R}{j}(h:kP R j=false):lK R (j+1)=lK R j:=by simp[lK,bh,bE,h]
theorem zl(R)(j):lK R j<=j:=by
 have:=bz (kP R) (List.range j);rw[cD] at this;exact this
def jK(R:List (List Int))(i j:Nat):List Nat:=(List.range j).filter (iY R i)
theorem Gz{R}{i j}(h:iY R i j=true):jK R i (j+1)=jK R i j++[j]:=by simp[jK,bh,bE,h]
theorem Km{R}{i j}(h:iY R i j=false):jK R i (j+1)=jK R i j:=by simp[jK,bh,bE,h]
theorem Kn(R)(i j):(jK R i j).length<=j:=by
 have:=bz (iY R i) (List.range j);rw[cD] at this;exact this
theorem Mw{R}{i n}(hi:i<n):kP R i=decide ((jK R i n)[0]? =some i):=by
 rw[bF,As,decide_eq_true_iff];unfold jK;rw[<-List.head?_eq_getElem?,List.head?_filter,List.find?_range_eq_some];constructor
 ·rintro⟨h,D⟩;exact⟨h,aD.2 hi,λj E=>by rw[D j E];rfl⟩
 ·rintro⟨h,_,D⟩;exact⟨h,λj E=>by have:=D j E;simpa using this⟩
def ND(M:List (List Int))(n k:Nat):Int:=lx M n k
def BT(M:List (List Int))(n:Nat):ByteArray:=dv ((ia M n).map cF) ⟨#[44]⟩
def Ez(M:List (List Int))(n:Nat):ByteArray:=dv (Fq M n) ⟨#[32]⟩
def EU(M:List (List Int))(n:Nat):ByteArray:=dv ((fz (ND M n) 1 5).map cF) ⟨#[44]⟩
def Fv:ByteArray:=⟨#[103,114,111,119,116,104]⟩
def Fu:ByteArray:=⟨#[112,101,114,105,111,100]⟩
def NH:ByteArray:=⟨#[99,111,109,112,111,110,101,110,116,115]⟩
def NF:ByteArray:=⟨#[112,111,108,121]⟩
def JS:ByteArray:=⟨#[103,114,111,117,112]⟩
def Fw:ByteArray:=⟨#[99,108,111,115,101,100]⟩
def JC(a b c d e f:ByteArray):List ByteArray:=[Fv,a,Fu,b,NH,c,NF,d,JS,e,Fw,f]
def Nw(a b c d e f:ByteArray):ByteArray:=dv (JC a b c d e f) ⟨#[32]⟩
theorem KO(a b c d e f):Nw a b c d e f=⟨#[103,114,111,119,116,104,32]⟩++a++⟨#[32,112,101,114,105,111,100,32]⟩++b++⟨#[32,99,111,109,112,111,110,101,110,116,115,32]⟩++c++⟨#[32,112,111,108,121,32]⟩++d++⟨#[32,103,114,111,117,112,32]⟩++e++⟨#[32,99,108,111,115,101,100,32]⟩++f:=by
 apply Fb;simp[Nw,JC,dv,Lib.join,mW,Fc,Fv,Fu,NH,NF,JS,Fw]
theorem mK(xs)(sep):(dv xs sep).size=(Lib.join (xs.map mW) sep.1.1).length:=by simp[dv,ByteArray.size]
theorem Dy{M}{n}:(uU M n 100).size<=100:=by
 have h:=AU M n 100;have D:=iJ (x:=((qa M n 100:Nat):Int)) ⟨by omega,by omega⟩;have E:=iJ (x:=((100:Nat):Int)) ⟨by omega,by omega⟩;unfold uU;rw[aK,aK];show _+1+_<=100
 omega
theorem CR{M}{n}(D:n<=4)(hi:∀x∈ia M n,Bx x):(BT M n).size<=200:=by
 unfold BT;rw[mK];have:=lX hi (sep:=⟨#[44]⟩) rfl;have h:=oP (ky M n (n+1)) (n+1);rw[pe] at this;omega
theorem DJ{M}{n}(h:1<=n)(D:n<=9):(EU M n).size<=200:=by
 unfold EU;rw[mK];have:=lX (xs:=fz (ND M n) 1 5) (λx E=>by obtain⟨i,h,F,rfl⟩:=lv E;exact sG (by assumption) D) (sep:=⟨#[44]⟩) rfl;rw[od] at this;omega
theorem PG{xs}(h:∀x∈xs,0<=x/\x<=1000000000000)(J:xs.length<=9):(Nr xs).size<=300:=by
 unfold Nr Su;split
 ·show 1<=300
  omega
 ·rw[mK];have D:=ts ((lJ xs xs.length).map mW) (⟨#[43]⟩:ByteArray).1.1;have F:=zg (lJ xs xs.length) (DB h xs.length);have I:=wb xs xs.length;rw[dc] at D;have E:(⟨#[43]⟩:ByteArray).1.1.length=1:=rfl;rw[E] at D;omega
theorem LQ(k):(El k).size<=5:=by
 unfold El;split
 ·decide
 ·split<;>decide
theorem Am{M}{n}(U:n<=4)(Q:∀i j,i<n->j<n->0<=cB M i j/\cB M i j<=9):(Lib.join ((Fq M n).map mW) (⟨#[32]⟩:ByteArray).1.1).length<=700:=by
 have D:=ts ((Fq M n).map mW) (⟨#[32]⟩:ByteArray).1.1;have O:=PG (AQ U Q) (by have:=EN M n;omega);have W:=LQ (vw (wi M n));have I:=zg (b:=300) (Fq M n) (λs F=>by
  unfold Fq at F;rcases ji.1 F with h|h
  ·rw[h];exact O
  ·rw[eH.1 h];omega)
 rw[dc] at D;have J:(⟨#[32]⟩:ByteArray).1.1.length=1:=rfl;have E:(Fq M n).length=2:=rfl;rw[J,E] at D;rw[E] at I;omega
theorem Dh{M}{n}(D:n<=4)(h:∀i j,i<n->j<n->0<=cB M i j/\cB M i j<=9):(Ez M n).size<=700:=by
 unfold Ez;rw[mK];exact Am D h
theorem Je(f)(lo m)(h:0<m):pG (fz f lo m)=dv ((fz f lo m).map cF) ⟨#[44]⟩:=by
 unfold pG;rw[od,if_neg (by omega)]
theorem Ms(M){n}(h:n<=4):pG (ia M n)=BT M n:=by
 have:=LE M h;unfold pG BT;rw[if_neg (by omega)]
def Nv(M:List (List Int))(n:Nat):ByteArray:=Nw (uU M n 100) (cF ((ed M:Nat):Int)) (cF ((lK (cI M n) n:Nat):Int)) (BT M n) (Ez M n) (EU M n)
theorem yf(M){n}(h:M.length=n):ed M<=2*n:=by
 unfold ed;split
 ·have:=vG M M.length (2*M.length);omega
 ·omega
structure om (w : World) (B gR cR n : Nat) (R : List (List Int)) (vsR : List Value) : Prop where
  own : w.ownsRow B 37 1 (.slice (some ⟨gR, 0, none⟩) n cR) n vsR
  rows : bS 3 w B vsR R
theorem om.below{w w'}{B E D n}{R}{I}(h:om w B E D n R I)(F:Below w.1.size w w'):om w' B E D n R I:=⟨ai h.own F,h.rows.below F⟩
theorem om.tab{w}{B E D n}{R}{J}(h:om w B E D n R J)(F:cS R n n)(I:n<=1000000):bZ w (some ⟨E,0,none⟩) n R:=
 iH (T1:=37) (T0:=3) (base:=B) (cv:=D) ⟨J,by rw[F.len];exact h.own,h.rows⟩ F I I
theorem om.grown{w w'}{B D E n m}{R}{I Q}{v}(h:om w B D E n R I)(O:w.ownsRow B 37 1 v m Q)(F:w.grownBy w' v.ownBlock)(J:v.ownBlock≠some D):om w' B D E n R I:=
 ⟨h.own.kept F (Or.inr λe=>J (by rw[<-e];rfl)),h.rows.kept O (by decide) F⟩
theorem tL(a)(n c)(M)(w)(h:bZ w a n M)(d0:dB M=true):
 Calls prog 52 #[.slice a n c] w λe w'=>∃g i4,e= .returned (.slice g (lK (cI M n) n) i4)/\Below w.1.size w w':=by
 obtain⟨l8,i5,f4⟩:=ee d0 (dp h).1;have d4:=na (M:=M) (n:=n) λi j hi j6=>(f4 i j).1
 have a0:=aa (λ(V:World) (i7:Below w.1.size w V)=>nJ a n c M V (h.below i7 aQ));rw[d0] at a0;simp only[if_true] at a0;unfold cK at a0;obtain⟨R,d1⟩:=aB (cI M n);rw[<-d1] at a0 d4;rw[<-d1];have Y:=aa d4;have h7:=aa (λ(i:Nat) (hi:i<n)=>Mw (R:=R) hi);have i0:=aa (λ(i j:Nat) (D:iY R i j=true)=>Gz D);have h9:=aa (λ(i j:Nat) (D:iY R i j=false)=>Km D);have h8:=aa (λ(i j:Nat)=>Kn R i j);have h1:=aa (λ(j:Nat) (D:kP R j=true)=>Hx D);have h0:=aa (λ(j:Nat) (D:kP R j=false)=>KZ D);have g9:=aa (λj=>zl R j);have h6:=aa (λi j=>show iY R i j=(decide (cB R i j=1)&&decide (cB R j i=1)) from rfl);have b3:=aa (show Below w.1.size w (w.alloc (.cells #[] 37)) from aZ.alloc aQ _);have e4:=aa (show(w.alloc (.cells #[] 37)).ownsRow w.1.size 37 1 (.slice (some ⟨w.1.size,0,none⟩) 0 0) 0 [] from bd #[] _ rfl aQ (by unfold maxLen;simp));have e7:=aa (a0.o _ b3.o);clear h d0 i5 f4 d4 d1 a0;go_enter func52,ntmps52;go_wp2_with fail;refine e7.o.mono ?_;rintro e k6 ⟨v,rfl,d7,d2⟩;obtain⟨Q,f1,rfl,j1,l4⟩:=cT d7 Y.o.rect.len (by omega);rw[dj] at j1;have j2:=d7.base (base':=w.1.size) (by simp);obtain⟨g5,d8,g1⟩:=j2;rw[Y.o.rect.len] at d8;have e2:=aa (show om k6 w.1.size Q f1 n R g5 from⟨d8,g1⟩);have e5:=aa (ai e4.o d2);have e0:=aa (b3.o.trans (d2.mono b3.o.size));have j8:¬(w.1.size=Q):=(by omega);clear d7 d8 g1 d2 e7 e4 b3;go_wp2;go_loopw[3,5] (λv i wr=>∃(p go a2:Nat) (b2:List Value),p<=n/\i= Ud p/\v= .slice (some ⟨go,0,none⟩) (lK R p) a2/\¬(go=Q)/\bv (wr.ownsRow w.1.size 37 1 (.slice (some ⟨go,0,none⟩) (lK R p) a2) (lK R p) b2)/\bv (om wr w.1.size Q f1 n R g5)/\bv (Below w.1.size w wr)) (λ_ i _=>n-(intOf i).toNat)
 exact⟨0,w.1.size,0,[],by omega,rfl,rfl,j8,e5,e2,e0⟩;clear e5 e2 e0;obtain⟨p,go,a2,b2,l9,rfl,rfl,c2,e6,e3,c5⟩:=hrel;obtain⟨E,k2⟩:=aB wr;subst k2;by_cases a9:p<n
 ·have m0:(p:Int)<(n:Int):=by omega
  have j9:=c5.o.size;have j0:=g9.o p;have e9:=aa (e3.o.tab Y.o.rect (by omega));have O:=aa (show(E.alloc (.cells #[] 3)).ownsRow E.1.size 3 1 (.slice (some ⟨E.1.size,0,none⟩) 0 0) 0 (eO (jK R p 0)) from bd (w:=E) (base:=E.1.size) (e:=3) #[] [] rfl aQ (by unfold maxLen;simp));have e1:=aa (show Below E.1.size E (E.alloc (.cells #[] 3)) from aZ.alloc aQ _);obtain⟨S,i6⟩:=aB E.1.size;have a1:=aa i6;obtain⟨g8,b9⟩:=aB (lK R p);have h2:=aa b9;rw[<-b9] at e6 j0;rw[<-b9];clear b9;go_wp2;go_loopw[6,7] (λv i wr=>∃(j I J:Nat),j<=n/\i= Ud j/\v= .slice (some ⟨I,0,none⟩) (jK R p j).length J/\bv (wr.ownsRow S 3 1 (.slice (some ⟨I,0,none⟩) (jK R p j).length J) (jK R p j).length (eO (jK R p j)))/\bv (Below S E wr)) (λ_ i _=>n-(intOf i).toNat);exact⟨0,S,0,by omega,rfl,by rw[a1.o];rfl,by rw[a1.o];exact O,by rw[a1.o];exact e1⟩;clear O e1;obtain⟨j,I,J,j6,rfl,rfl,O,Z⟩:=hrel;have f9:=h8.o p j;have k0:=Z.o.size;have k1:S<=wr.1.size:=by rw[a1.o];exact k0
  obtain⟨L,c0⟩:=aB (jK R p j);have a5:=aa c0;rw[<-c0] at O f9;rw[<-c0];obtain⟨m,D⟩:=aB L.length;have a6:=aa D;rw[<-D] at O f9;rw[<-D];clear c0 D;by_cases c3:j<n
  ·have l6:(j:Int)<(n:Int):=by omega
   obtain⟨b,m2,i2,k4,l1,f2,f5,d5,i8,f6⟩:=iD e9.o Y.o.rect a9 c3;obtain⟨l0,m3,i3,k5,b7,f3,l2,d6,i9,f7⟩:=iD e9.o Y.o.rect c3 a9;simp only[aI,cA,and_true] at f2 f3;obtain⟨rfl,rfl⟩:=f2;obtain⟨rfl,rfl⟩:=f3;rw[aW] at d5 d6;have a7:Below E.1.size E wr:=by rw[<-a1.o];exact Z.o
   have k8:=(a7.cell (p:=⟨Q,p,none⟩) f5).trans d5;have g6:=(a7.cell (p:=⟨i2,k4+j,none⟩) i8).trans f6;have k9:=(a7.cell (p:=⟨Q,j,none⟩) f5).trans d6;have g7:=(a7.cell (p:=⟨i3,k5+p,none⟩) i9).trans f7;have F:=Y.o.bit p j a9 c3;have g3:=Y.o.bit j p c3 a9;have b6:=aa (h6.o p j);have h5:=aa (λD=>i0.o p j D);have h4:=aa (λD=>h9.o p j D);obtain⟨x,g2⟩:=aB (cB R p j);obtain⟨y,g4⟩:=aB (cB R j p);rw[<-g2] at g6 F b6;rw[<-g4] at g7 g3 b6;clear g2 g4 d5 f6 d6 f7 a7;by_cases c1:x=1/\y=1
   ·obtain⟨rfl,rfl⟩:=c1;have a4:=aa (h5.o (by rw[b6.o];rfl));have j3:=(O.o.lt I rfl).1;go_wp2_with(first|(at_builtin;go_must(refine aX rfl _ _ 37 rfl S 3 (Ud 0) 8 underlying37 bK rfl I J m (eO L) (O.o.alloc _) rfl wr.1.size 0 1 1 [Ud j] rfl rfl (cz rfl) (by intro u b1;simp at b1;subst b1;rfl) (by omega) (by unfold maxLen;omega) (by simp;omega) ?_);intro b8 b7 k7 b0 a3 g0 j7));have c9:=aa b0;have c4:=aa ((Z.o.alloc k1 (.cells #[Ud j] 3)).grown a3 (by simp;omega) (by rintro k ⟨⟩;exact j3));have a8:(jK R p (j+1)).length=m+1:=by rw[a4.o,<-a5.o,az,<-a6.o];rfl
    have i1:=aa (show eO (jK R p (j+1))=eO L++[Ud (j:Int)] by rw[a4.o,<-a5.o];simp[eO,af]);clear b0 a3 k8 g6 k9 g7;go_roundw;exact⟨j+1,b8,b7,by omega,by go_num,by rw[a8],aa (by rw[a8,i1.o];exact c9.o),c4⟩;simp[intOf];omega
   ·have a4:=aa (h4.o (by
     rw[b6.o];rcases F with rfl|rfl<;>rcases g3 with rfl|rfl<;>first|rfl|exact absurd ⟨rfl,rfl⟩ c1))
    have e8:=aa (show wr.ownsRow S 3 1 (.slice (some ⟨I,0,none⟩) (jK R p (j+1)).length J) (jK R p (j+1)).length (eO (jK R p (j+1))) from by rw[a4.o,<-a5.o,<-a6.o];exact O.o);have a8:m=(jK R p (j+1)).length:=by rw[a4.o,<-a5.o,<-a6.o]
    have k3:x=0\/(x=1/\y=0):=(by omega);rcases k3 with rfl|⟨rfl,rfl⟩
    ·clear c1;go_wp2;go_roundw;exact⟨j+1,I,J,by omega,by go_num,by rw[a8],e8,Z⟩;simp[intOf];omega
    ·clear c1;go_wp2;go_roundw;exact⟨j+1,I,J,by omega,by go_num,by rw[a8],e8,Z⟩;simp[intOf];omega
  ·obtain rfl:j=n:=by omega
   have b5:=aa (h7.o p a9);rw[<-a5.o] at b5;have d3:Below E.1.size E wr:=by rw[<-a1.o];exact Z.o
   have W:=ai e6.o d3;have b4:=aa (e3.o.below d3);have c6:=aa (c5.o.trans (d3.mono j9));have f0:=aa (λD=>h1.o p D);have c7:=aa (λD=>h0.o p D);rw[<-h2.o] at f0 c7;have j4:=(W.lt go rfl).1;have l5:Q<wr.1.size:=(b4.o.own.lt Q rfl).2;cases F:L[0]? with
   |none=>
    have f8:m=0:=by
     rw[a6.o];cases L with
     |nil=>rfl
     |cons z L=>simp at F
    have U:=aa (c7.o (by rw[b5.o,F];rfl));have c8:=aa W;clear W F;subst f8;go_wp2;go_roundw;exact⟨p+1,go,a2,b2,by omega,by go_num,by rw[U.o],c2,aa (by rw[U.o];exact c8.o),b4,c6⟩;simp[intOf];omega
   |some z=>
    have f8:0<m:=by
     rw[a6.o];exact(aw.1 F).1
    have l7:(0:Int)<(m:Int):=(by omega);have l3:=(O.o.cellAt 0 (by omega)).trans (ll F);by_cases d9:z=p
    ·have U:=aa (f0.o (by rw[b5.o,F,d9];simp));subst d9;clear F;go_wp2_with(first|(at_builtin;go_must(refine aX rfl _ _ 24 rfl w.1.size 37 (.slice none 0 0) 24 underlying24 eS rfl go a2 g8 b2 (W.alloc _) rfl wr.1.size 0 1 1 [.slice (some ⟨I,0,none⟩) m J] rfl rfl (cz rfl) (by intro u b1;simp at b1;subst b1;rfl) (by omega) (by unfold maxLen;omega) (by simp;omega) ?_);intro b8 b7 k7 b0 a3 g0 j7));have c9:=aa b0;have h3:=aa ((b4.o.below (aZ.alloc aQ _)).grown (W.alloc (.cells #[.slice (some ⟨I,0,none⟩) m J] 37)) a3 (by intro e;injection e with e;exact c2 e));have c4:=aa ((c6.o.alloc (by omega) (.cells #[.slice (some ⟨I,0,none⟩) m J] 37)).grown a3 (by simp;omega) (by rintro k ⟨⟩;exact j4));have j5:¬(b8=Q):=by
      rcases g0 with h|h
      ·rw[h];exact c2
      ·simp at h;omega
     clear b0 a3 W;go_roundw;exact⟨z+1,b8,b7,_,by omega,by go_num,by rw[U.o],j5,aa (by rw[U.o];exact c9.o),h3,c4⟩;simp[intOf];omega
    ·have U:=aa (c7.o (by rw[b5.o,F];simp[d9]));have c8:=aa W;have m1:((z:Int)==(p:Int))=false:=by simp;omega
     clear W F;go_wp2;go_roundw;exact⟨p+1,go,a2,b2,by omega,by go_num,by rw[U.o],c2,aa (by rw[U.o];exact c8.o),b4,c6⟩;simp[intOf];omega
 ·obtain rfl:p=n:=by omega
  go_wp2;go_ret;exact⟨_,_,rfl,c5.o⟩
theorem po(a)(n c)(M)(w)(a7:bZ w a n M)(a3:kX M=true):
 Calls prog 12 #[.slice a n c] w λe w'=>e= .returned (.string (Nv M n))/\Below w.1.size w w':=by
 obtain⟨d4,a0,d5,b7⟩:=fL a3 (dp a7).1;have a9:=TK d5 b7;have Q:=λ(V:World) (h:Below w.1.size w V)=>a7.below h aQ
 have c9:=aa (fu a n c M w a7);rw[a3] at c9;have c6:=aa (λ(k:Nat) (l5:1<=k/\k<=5) (V:World) (h:Below w.1.size w V)=>show Calls prog 48 #[.slice a n c,Ud k] V λe w'=>e= .returned (Ud (ND M n k))/\Below V.1.size V w' from uz a n c k M V (Q V h) d4 l5.1 (by omega));have c8:=aa (λ(V:World) (h:Below w.1.size w V)=>show Calls prog 49 #[.slice a n c,Ud 100] V λe w'=>e= .returned (.string (uU M n 100))/\Below V.1.size V w' from vr a n c 100 M V (Q V h) a3 (by omega));have d1:=aa (λ(V:World) (h:Below w.1.size w V)=>yB a n c M V (Q V h));have c5:=aa (λ(V:World) (h:Below w.1.size w V)=>tL a n c M V (Q V h) d4);have b5:=aa (λ(V:World) (h:Below w.1.size w V)=>vo a n c M V (Q V h) a3);have d0:=aa (λ(V:World) (h:Below w.1.size w V)=>zM a n c M V (Q V h) a3);have l7:=yf M (dp a7).1;have k9:=zl (cI M n) n;have b2:=aa (λW=>dy ((ed M:Nat):Int) W (by omega) (by omega));have b3:=aa (λW=>dy ((lK (cI M n) n:Nat):Int) W (by omega) (by omega));have e0:∀x∈ia M n,Bx x:=λx e1=>by have:=FG a0.2 d5 a9 x e1;exact⟨by omega,by omega⟩
 have l9:=pe M n;have m0:=oP (ky M n (n+1)) (n+1);have a2:=aa (λ(W:World) (U:Option Addr) (cr:Nat) (d9:aO W U (ia M n).length (af (ia M n)))=>fp U _ cr _ W d9 e0 (by omega));rw[Ms M a0.2] at a2;have a6:=aa (λ(W:World) (U:Option Addr) (cr:Nat) (d9:aO W U 5 (af (fz (ND M n) 1 5)))=>fp U 5 cr _ W d9 (λx e1=>by obtain⟨i,n7,n8,rfl⟩:=lv e1;exact sG a0.1 (by omega)) (by omega));rw[Je _ _ _ (by omega),show dv ((fz (ND M n) 1 5).map cF) ⟨#[44]⟩=EU M n from rfl] at a6;have b4:=aa (λ(B g:Nat) (W:World) (b8:bv (W.ownsRow B 9 1 (.slice (some ⟨g,0,none⟩) 2 2) 2 (ap (Fq M n))))=>show Calls prog 54 #[.slice (some ⟨g,0,none⟩) 2 2,.string ⟨#[32]⟩] W λe w'=>e= .returned (.string (Ez M n))/\Below W.1.size W w' from by
  obtain⟨U,cr,b0,d8⟩:=aS b8.o (by omega);simp only[aJ] at b0;obtain⟨rfl,-,-⟩:=b0;exact oA _ 2 2 (Fq M n) ⟨#[32]⟩ W d8 (bn (Am a0.2 b7) (by omega)))
 have c4:=aa (λj=>qc (ND M n) 1 j);have m5:=Dy (M:=M) (n:=n);have m6:=iJ (x:=((ed M:Nat):Int)) ⟨by omega,by omega⟩;have m7:=iJ (x:=((lK (cI M n) n:Nat):Int)) ⟨by omega,by omega⟩;have m8:=CR a0.2 e0;have m9:=Dh a0.2 b7;have n0:=DJ (M:=M) a0.1 (by omega);have E:=aa (show Nv M n=Nw (uU M n 100) (cF ((ed M:Nat):Int)) (cF ((lK (cI M n) n:Nat):Int)) (BT M n) (Ez M n) (EU M n) from rfl);rw[KO] at E;obtain⟨n2,d6⟩:=aB (Nv M n);rw[<-d6] at E;rw[<-d6];obtain⟨D,i9⟩:=aB (uU M n 100);rw[<-i9] at E c8 m5;obtain⟨J,j2⟩:=aB (cF ((ed M:Nat):Int));rw[<-j2] at E b2 m6;obtain⟨b9,i8⟩:=aB (cF ((lK (cI M n) n:Nat):Int));rw[<-i8] at E b3 m7;obtain⟨F,j3⟩:=aB (BT M n);rw[<-j3] at E a2 m8;obtain⟨a4,j1⟩:=aB (Ez M n);rw[<-j1] at E b4 m9;obtain⟨j5,j0⟩:=aB (EU M n);rw[<-j0] at E a6 n0;obtain⟨p2,i2⟩:=aB (ed M);rw[<-i2] at d1 b2;obtain⟨p1,i1⟩:=aB (lK (cI M n) n);rw[<-i1] at c5 b3 k9;obtain⟨n1,g8⟩:=aB (Fq M n);rw[<-g8] at d0 b4;obtain⟨k4,g9⟩:=aB (ia M n);rw[<-g9] at b5 a2;obtain⟨K,g7⟩:=aB k4.length;rw[<-g7] at b5 a2;obtain⟨f,h8⟩:=aB (ND M n);rw[<-h8] at c4 c6 a6;have O:=aa (show(w.alloc (.cells #[] 3)).ownsRow w.1.size 3 1 (.slice (some ⟨w.1.size,0,none⟩) 0 0) 0 (af (fz f 1 0)) from bd (w:=w) (base:=w.1.size) (e:=3) #[] [] rfl aQ (by unfold maxLen;simp));have e4:=aa (show Below w.1.size w (w.alloc (.cells #[] 3)) from aZ.alloc aQ _);clear a7 d4 d5 b7 a9 a3 Q d6 i9 j2 i8 j3 j1 j0 i2 i1 g8 g9 g7 h8 e0 l9 m0 l7;go_enter func12,ntmps12;go_wp2_with fail;refine c9.o.mono ?_;rintro e w' ⟨rfl,rfl⟩;go_wp2;go_loopw[3,4] (λv i wr=>∃(j I Y:Nat) (e:Int),j<=5/\bv (e=(j:Int)+1)/\i= Ud e/\v= .slice (some ⟨I,0,none⟩) j Y/\bv (wr.ownsRow w.1.size 3 1 (.slice (some ⟨I,0,none⟩) j Y) j (af (fz f 1 j)))/\bv (Below w.1.size w wr)) (λ_ i _=>6-(intOf i).toNat)
 exact⟨0,w.1.size,0,1,by omega,aa rfl,rfl,rfl,O,e4⟩;clear O e4;obtain⟨j,I,Y,e,l3,c7,rfl,rfl,O,a1⟩:=hrel;by_cases l6:j<5
 ·obtain⟨q,i6⟩:=aB (1+j);have l1:e=(q:Int):=by rw[c7.o];omega
  have k2:=aa (show(q:Int)+1=((j+1:Nat):Int)+1 by omega);subst l1;have o7:(q:Int)<=5:=(by omega);have o9:IntKind.i64.wrap ((q:Int)+1)=(q:Int)+1:=au _ (by omega);have f3:=aa (c6.o q (by omega) wr a1.o);have d2:=aa (c4.o j);rw[<-i6] at d2;have l2:=(O.o.lt I rfl).1;have l8:=a1.o.size;obtain⟨d,h7⟩:=aB (f q);rw[<-h7] at f3 d2;clear h7 i6;go_wp2_with(first|(go_at_call 48;refine f3.o.mono ?_;rintro e e2 ⟨rfl,Z⟩;have i3:=ai O.o Z;have o8:=Z.size)|(at_builtin;go_must(refine aX rfl _ _ 37 rfl w.1.size 3 (Ud 0) 8 underlying37 bK rfl I Y j (af (fz f 1 j)) (i3.alloc _) rfl e2.1.size 0 1 1 [Ud d] rfl rfl (cz rfl) (by intro u j4;simp at j4;subst j4;rfl) (by omega) (by unfold maxLen;omega) (by simp;omega) ?_);intro b6 k5 e3 i5 h9 o6 o5));have k1:=aa i5;have b1:=aa (((a1.o.trans (Z.mono l8)).alloc (by omega) (.cells #[Ud d] 3)).grown h9 (by simp;omega) (by rintro k ⟨⟩;exact l2));clear i5 h9 i3 Z;go_roundw;exact⟨j+1,b6,k5,(q:Int)+1,by omega,k2,by go_num,rfl,aa (by rw[d2.o];exact k1.o),b1⟩;simp[intOf];omega
 ·have l0:5<e:=by rw[c7.o];omega
  have o4:¬(e<=5):=(by omega);have d3:j=5:=(by omega);have k3:=aa (show aO wr (some ⟨I,0,none⟩) 5 (af (fz f 1 5)) from by
   have b8:=O.o;rw[d3] at b8;obtain⟨U,cr,b0,d8⟩:=aS b8 (by omega);simp only[aJ] at b0;obtain⟨rfl,-,-⟩:=b0;exact d8)
  have f5:=aa (λ(V:World) (h:Below wr.1.size wr V)=>a6.o V (some ⟨I,0,none⟩) Y (k3.o.below h aQ));have a5:=aa (λ(V:World) (h:Below wr.1.size wr V)=>show Below w.1.size w V from a1.o.trans (h.mono a1.o.size));have f0:=aa (c8.o wr a1.o);obtain⟨p0,l4⟩:=aB j;have i0:(Value.slice (some ⟨I,0,none⟩) j Y)= .slice (some ⟨I,0,none⟩) 5 Y:=by rw[d3]
  rw[i0];clear O c8 c6 c4 c9 c7 l0 l6 l3 d3 l4 i0 a6;have f8:¬((9223372036854775807:Int)<7+(D.size:Int)):=(by omega);have g0:¬((9223372036854775807:Int)<7+(D.size:Int)+8):=(by omega);have b6:¬((9223372036854775807:Int)<7+(D.size:Int)+8+(J.size:Int)):=(by omega);have g3:¬((9223372036854775807:Int)<7+(D.size:Int)+8+(J.size:Int)+12):=(by omega);have g5:¬((9223372036854775807:Int)<7+(D.size:Int)+8+(J.size:Int)+12+(b9.size:Int)):=(by omega);have f9:¬(9223372036854775807<7+D.size):=(by omega);have g1:¬(9223372036854775807<7+D.size+8):=(by omega);have g2:¬(9223372036854775807<7+D.size+8+J.size):=(by omega);have g4:¬(9223372036854775807<7+D.size+8+J.size+12):=(by omega);have g6:¬(9223372036854775807<7+D.size+8+J.size+12+b9.size):=(by omega);go_wp2_with fail;refine f0.o.mono ?_;rintro e j6 ⟨rfl,d7⟩;have e5:=aa d7;have f6:=aa (d1.o j6 (a5.o j6 d7));clear d7 f0 d1;go_wp2_with fail;refine f6.o.mono ?_;rintro e e2 ⟨rfl,Z⟩;have b1:=aa (e5.o.trans (Z.mono e5.o.size));clear Z f6;go_wp2_with fail;refine(b2.o e2).mono ?_;rintro e e3 ⟨rfl,h2⟩;have c1:=aa (b1.o.trans (h2.mono b1.o.size));have e9:=aa (c5.o e3 (a5.o e3 c1.o));clear h2 b2 c5;go_wp2_with fail;refine e9.o.mono ?_;rintro e m2 ⟨n6,n3,rfl,h3⟩;have e6:=aa (c1.o.trans (h3.mono c1.o.size));clear h3 e9;go_wp2_with fail;refine(b3.o m2).mono ?_;rintro e j7 ⟨rfl,h4⟩;have c2:=aa (e6.o.trans (h4.mono e6.o.size));have f7:=aa (b5.o j7 (a5.o j7 c2.o));clear h4 b3 b5;obtain⟨X,a8⟩:=aB (α:=ByteArray) (⟨#[103,114,111,119,116,104,32]⟩++D++⟨#[32,112,101,114,105,111,100,32]⟩++J++⟨#[32,99,111,109,112,111,110,101,110,116,115,32]⟩++b9)
  have n9:X.size<=2000:=by
   rw[a8];simp only[aK];show 7+D.size+8+J.size+12+b9.size<=2000
   omega
  rw[<-a8] at E;go_wp2_with(rw[<-a8]);first|rw[<-a8]|skip
  clear a8 f8 g0 b6 g3 g5 f9 g1 g2 g4 g6;have f8:¬((9223372036854775807:Int)<(X.size:Int)+6):=(by omega);have g0:¬((9223372036854775807:Int)<(X.size:Int)+6+(F.size:Int)):=(by omega);have b6:¬((9223372036854775807:Int)<(X.size:Int)+6+(F.size:Int)+7):=(by omega);have g3:¬((9223372036854775807:Int)<(X.size:Int)+6+(F.size:Int)+7+(a4.size:Int)):=(by omega);have g5:¬((9223372036854775807:Int)<(X.size:Int)+6+(F.size:Int)+7+(a4.size:Int)+8):=(by omega);have n4:¬((9223372036854775807:Int)<(X.size:Int)+6+(F.size:Int)+7+(a4.size:Int)+8+(j5.size:Int)):=(by omega);have f9:¬(9223372036854775807<X.size+6):=(by omega);have g1:¬(9223372036854775807<X.size+6+F.size):=(by omega);have g2:¬(9223372036854775807<X.size+6+F.size+7):=(by omega);have g4:¬(9223372036854775807<X.size+6+F.size+7+a4.size):=(by omega);have g6:¬(9223372036854775807<X.size+6+F.size+7+a4.size+8):=(by omega);have n5:¬(9223372036854775807<X.size+6+F.size+7+a4.size+8+j5.size):=(by omega);refine f7.o.mono ?_;rintro e m3 ⟨k7,k8,rfl,i7,h5⟩;have e7:=aa (c2.o.trans (h5.mono c2.o.size));have f4:=aa (a2.o m3 k7 k8 i7);clear h5 i7 f7 a2;go_wp2_with fail;refine f4.o.mono ?_;rintro e j8 ⟨rfl,h6⟩;have c3:=aa (e7.o.trans (h6.mono e7.o.size));have f2:=aa (d0.o j8 (a5.o j8 c3.o));clear h6 f4 d0;go_wp2_with fail;refine f2.o.mono ?_;rintro e m4 ⟨k6,rfl,i4,a9⟩;have e8:=aa (c3.o.trans (a9.mono c3.o.size));have f1:=aa (b4.o _ k6 m4 i4);clear a9 i4 f2 b4;go_wp2_with fail;refine f1.o.mono ?_;rintro e m1 ⟨rfl,h0⟩;have c0:=aa (e8.o.trans (h0.mono e8.o.size))
  have k0:=aa (f5.o m1 c0.o);clear h0 f1 f5;go_wp2_with fail;refine k0.o.mono ?_;rintro e p3 ⟨rfl,h1⟩;have j9:=aa (a5.o _ (c0.o.trans (h1.mono c0.o.size)));clear h1;go_wp2;go_ret;exact⟨by rw[E.o];rfl,j9.o⟩
def wM(n:Nat)(K:Nat->Bool):List Value:=(List.range n).map λj=>Value.bool (K j)
theorem yY{n}{K}{j}(h:j<n):(wM n K)[j]? =some (.bool (K j)):=by simp[wM,h]
theorem yZ{n}{K J}(h:∀j,j<n->K j=J j):wM n K=wM n J:=by
 unfold wM;exact bp λj D=>by rw[h j (aD.1 D)]
theorem QN{n}{K J}{j}(O:J j=true)(h:∀q,q<n->q≠j->J q=K q):(wM n K).set j (.bool true)=wM n J:=by
 refine ex λq=> ?_
 rw[bU];by_cases D:q<n
 ·rw[yY D,yY D];by_cases e:j=q
  ·subst e;rw[if_pos rfl,if_pos (by simp[wM];exact D),O]
  ·rw[if_neg e,h q D (λI=>e I.symm)]
 ·have E:∀F,(wM n F)[q]? =none:=λF=>aU (by simp[wM];omega)
  rw[E,E];split
  ·rw[if_neg (by simp[wM];omega)]
  ·rfl
theorem Oi(n):(madeCells (Value.bool false).cells (n*1)).toList=wM n λ_=>false:=by
 rw[kV];show(madeCells #[Value.bool false] n).toList=_
 rw[toList_madeCells_one];refine da (by simp[wM]) λq h D=> ?_
 simp[wM]
theorem Np:(prog.info? 4).map (λi=>(i.zero,i.size,i.bytes))=some (some (.bool false),1,1):=by kernel_rfl
theorem LS(R):(λj=>mE R 0 j)=λ_=>false:=by
 funext j;simp[mE]
theorem LU(R)(i j):mE R (i+1) j=(mE R i j||(kP R i&&iY R i j)):=by
 unfold mE;rw[bh,fO];simp
def vz(R:List (List Int))(p j q:Nat):Bool:=mE R p q||(decide (q<j)&&iY R p q)
theorem om.seen{w w'}{B E D n F}{R}{O xs}(h:om w B E D n R O)(J:w.ownsRow B 4 1 (.slice (some ⟨F,0,none⟩) n n) n xs)(I:w.grownBy w' (some F)):om w' B E D n R O:=
 ⟨h.own.kept I (by have:=eD h.own J (by decide);exact this),h.rows.kept J (by decide) I⟩
theorem tS(a)(n c)(M)(w)(h:bZ w a n M)(f1:dB M=true):
 Calls prog 44 #[.slice a n c] w λe w'=>∃g k6,e= .returned (.slice g (lK (cI M n) n) k6)/\Below w.1.size w w':=by
 obtain⟨h9,h4,e1⟩:=ee f1 (dp h).1;have f4:=na (M:=M) (n:=n) λi j hi c0=>(e1 i j).1
 have e5:=aa (fd a n c M w h);rw[f1] at e5;have d6:=aa (vU a n c M w h h4 h9.1 h9.2 (λi j hi c0=>(e1 i j).1));have g5:=aa (λ(i:Nat) (hi:i<n)=>LX (M:=M) (n:=n) (λi j hi c0=>(e1 i j).1) i hi);unfold cK at d6;obtain⟨R,f2⟩:=aB (cI M n);rw[<-f2] at d6 f4 g5;rw[<-f2];have J:=aa f4;have j9:=aa (λ(i j:Nat) (D:iY R i j=true)=>Gz D);have j8:=aa (λ(i j:Nat) (D:iY R i j=false)=>Km D);have j7:=aa (λ(i j:Nat)=>Kn R i j);have j1:=aa (λ(j:Nat) (D:kP R j=true)=>Hx D);have j0:=aa (λ(j:Nat) (D:kP R j=false)=>KZ D);have i9:=aa (λj=>zl R j);have g1:=aa (λi j=>show iY R i j=(decide (cB R i j=1)&&decide (cB R j i=1)) from rfl);have g6:=aa (λi j=>LU R i j);have k4:=aa (LS R);have a3:=aa (λp j q=>show vz R p j q=(mE R p q||(decide (q<j)&&iY R p q)) from rfl);obtain⟨m8,m2,m5,m6,m7⟩:=info_parts Np;clear h f1 h4 e1 f4 f2;go_enter func44,ntmps44;go_wp2_with fail;refine e5.o.mono ?_;rintro e w' ⟨rfl,rfl⟩;go_wp2_with fail;refine d6.o.mono ?_;rintro e d0 ⟨v,rfl,h6,f3⟩;obtain⟨a5,h0,rfl,o7,o8⟩:=cT h6 J.o.rect.len (by omega);obtain⟨i7,f6,i2⟩:=h6;rw[J.o.rect.len] at f6;have g0:=aa (show om d0 w.1.size a5 h0 n R i7 from⟨f6,i2⟩);have f7:=aa f3;have i3:=f3.size;clear f6 i2 f3 d6 e5;go_wp2_with(first|(at_make;refine wpList_make_full _ rfl _ _ 107 rfl w.1.size 4 m8 (.bool false) 1 underlying107 m2 m5 m6 .i64 .i64 _ _ n rfl rfl rfl rfl (by rw[m7];omega) (by unfold maxLen;omega) i3 ?_;intro b1 i1 h7));have d7:=aa (show b1.ownsRow w.1.size 4 1 (.slice (some ⟨d0.1.size,0,none⟩) n n) n (wM n (λj=>mE R 0 j)) from by rw[k4.o,<-Oi n];exact i1)
 have b7:Below d0.1.size d0 b1:=aZ.grown h7 aQ (by intro k h;cases h);have a7:=aa (g0.o.below b7);have f8:=aa (f7.o.trans (b7.mono i3));obtain⟨W,f5⟩:=aB d0.1.size;rw[<-f5] at d7;rw[<-f5];have l6:=(d7.o.lt W rfl);have l2:¬(b1.1.size=a5):=by have:=b7.size;omega
 have g2:=aa (show(b1.alloc (.cells #[] 37)).ownsRow w.1.size 37 1 (.slice (some ⟨b1.1.size,0,none⟩) 0 0) 0 [] from bd #[] _ rfl (by omega) (by unfold maxLen;simp));have a9:=aa (d7.o.alloc (.cells #[] 37));have a8:=aa (a7.o.below (aZ.alloc aQ (.cells #[] 37)));have d1:=aa (f8.o.alloc (by omega) (.cells #[] 37));clear i1 h7 b7 f5 g0 f7 d7 a7 f8;go_wp2;go_loopw[5,20] (λv i wr=>∃(p go b0:Nat) (c9:List Value),p<=n/\i= Ud p/\v= .slice (some ⟨go,0,none⟩) (lK R p) b0/\¬(go=a5)/\bv (wr.ownsRow w.1.size 37 1 (.slice (some ⟨go,0,none⟩) (lK R p) b0) (lK R p) c9)/\bv (wr.ownsRow w.1.size 4 1 (.slice (some ⟨W,0,none⟩) n n) n (wM n (λj=>mE R p j)))/\bv (om wr w.1.size a5 h0 n R i7)/\bv (Below w.1.size w wr)) (λ_ i _=>n-(intOf i).toNat);exact⟨0,b1.1.size,0,[],by omega,rfl,rfl,l2,g2,a9,a8,d1⟩;clear g2 a9 a8 d1;obtain⟨p,go,b0,c9,p2,rfl,rfl,e3,b4,a4,d2,b2⟩:=hrel;obtain⟨E,m3⟩:=aB wr;subst m3;by_cases U:p<n
 ·have p3:(p:Int)<(n:Int):=by omega
  have l9:=b2.o.size;have l1:=i9.o p;have k5:=aa (d2.o.tab J.o.rect (by omega));obtain⟨b,p5,n2,p8,n5,h1,n7,b8,b7,b9⟩:=iD k5.o J.o.rect U U;simp only[aI,cA,and_true] at h1;obtain⟨rfl,rfl⟩:=h1;rw[aW] at b8;have h5:=(a4.o.cellAt p (by omega)).trans (yY U);have c7:=J.o.bit p p U U;have a2:=aa (g5.o p U);rw[g1.o p p] at a2;have g9:=aa (λD=>j1.o p D);have e7:=aa (λD=>j0.o p D);have e9:=aa (λ(D:kP R p=false)=>show wM n (λj=>mE R (p+1) j)=wM n (λj=>mE R p j) from yZ λj _=>by rw[g6.o,D];simp);have g7:=aa (λ(D:kP R p=true)=>show wM n (λj=>mE R (p+1) j)=wM n (vz R p n) from yZ λj c0=>by rw[g6.o,D,a3.o,decide_eq_true c0]);have g4:=aa (show wM n (λj=>mE R p j)=wM n (vz R p 0) from yZ λj _=>by rw[a3.o];simp);obtain⟨i8,f0⟩:=aB (lK R p);rw[<-f0] at b4 l1 g9 e7;rw[<-f0];obtain⟨x,c8⟩:=aB (cB R p p);rw[<-c8] at b9 c7 a2;obtain⟨s,i4⟩:=aB (mE R p p);rw[<-i4] at h5 a2;clear f0 c8 i4;cases s with
  |true=>
   have Y:kP R p=false:=by rw[<-a2.o];rfl
   have Z:=aa (e7.o Y);have b5:=aa (e9.o Y);clear b8 b9;go_wp2;go_roundw;exact⟨p+1,go,b0,c9,by omega,by go_num,by rw[Z.o],e3,aa (by rw[Z.o];exact b4.o),aa (by rw[b5.o];exact a4.o),d2,b2⟩;simp[intOf];omega
  |false=>
   rcases c7 with rfl|rfl
   ·have Y:kP R p=false:=by rw[<-a2.o];rfl
    have Z:=aa (e7.o Y);have b5:=aa (e9.o Y);go_wp2;go_roundw;exact⟨p+1,go,b0,c9,by omega,by go_num,by rw[Z.o],e3,aa (by rw[Z.o];exact b4.o),aa (by rw[b5.o];exact a4.o),d2,b2⟩;simp[intOf];omega
   ·have Y:kP R p=true:=by rw[<-a2.o];rfl
    have Z:=aa (g9.o Y);have b5:=aa (g7.o Y);have a0:=aa (show(E.alloc (.cells #[] 3)).ownsRow E.1.size 3 1 (.slice (some ⟨E.1.size,0,none⟩) 0 0) 0 (eO (jK R p 0)) from bd (w:=E) (base:=E.1.size) (e:=3) #[] [] rfl aQ (by unfold maxLen;simp));have Q:=aa (show(E.alloc (.cells #[] 3)).ownsRow w.1.size 4 1 (.slice (some ⟨W,0,none⟩) n n) n (wM n (vz R p 0)) from by rw[<-g4.o];exact a4.o.alloc _);have O:=aa (show E.grownBy (E.alloc (.cells #[] 3)) (some W) from⟨rfl,rfl,rfl,by simp,λk l7 _=>((aV E.1.size E).alloc aQ _).block k l7⟩);obtain⟨S,k7⟩:=aB E.1.size;have b6:=aa k7;clear Y a2 e9 g7 g4;go_wp2;clear h5;go_loopw[7,40] (λv i wr=>∃(j F I:Nat),j<=n/\i= Ud j/\v= .slice (some ⟨F,0,none⟩) (jK R p j).length I/\bv (wr.ownsRow S 3 1 (.slice (some ⟨F,0,none⟩) (jK R p j).length I) (jK R p j).length (eO (jK R p j)))/\bv (wr.ownsRow w.1.size 4 1 (.slice (some ⟨W,0,none⟩) n n) n (wM n (vz R p j)))/\bv (E.grownBy wr (some W))) (λ_ i _=>n-(intOf i).toNat);exact⟨0,S,0,by omega,rfl,by rw[b6.o];rfl,by rw[b6.o];exact a0,Q,O⟩;clear a0 Q O b8 b9;obtain⟨j,F,I,c0,rfl,rfl,a0,Q,O⟩:=hrel;have h8:=j7.o p j;have m0:E.1.size<=wr.1.size:=O.o.size;have p4:S<=wr.1.size:=by rw[b6.o];exact m0
    have a7:=aa (d2.o.seen a4.o O.o);have k1:=aa (b4.o.kept O.o (by have:=eD b4.o a4.o (by decide);exact this));have f9:=aa (b2.o.grown O.o l9 (by rintro k ⟨⟩;exact l6.1));by_cases c2:j<n
    ·have p1:(j:Int)<(n:Int):=by omega
     have g8:=aa (a7.o.tab J.o.rect (by omega));obtain⟨n0,p6,n4,q0,n6,h3,n8,b8,o5,b9⟩:=iD g8.o J.o.rect U c2;obtain⟨n1,p7,n3,p9,d8,h2,n9,k8,o4,k9⟩:=iD g8.o J.o.rect c2 U;simp only[aI,cA,and_true] at h3 h2;obtain⟨rfl,rfl⟩:=h3;obtain⟨rfl,rfl⟩:=h2;rw[aW] at b8 k8;have c7:=J.o.bit p j U c2;have i5:=J.o.bit j p c2 U;have d5:=aa (g1.o p j);have j6:=aa (λD=>j9.o p j D);have j5:=aa (λD=>j8.o p j D);have j4:=aa (λ(D:iY R p j=true)=>show(wM n (vz R p j)).set j (.bool true)=wM n (vz R p (j+1)) from QN (by rw[a3.o,D,decide_eq_true (by omega)];simp) λq _ e4=>by
      rw[a3.o,a3.o];congr 2;rw[bF,decide_eq_true_iff,decide_eq_true_iff];omega)
     have j3:=aa (λ(D:iY R p j=false)=>show wM n (vz R p (j+1))=wM n (vz R p j) from yZ λq _=>by
      rw[a3.o,a3.o];by_cases e4:q=j
      ·rw[e4,D];simp
      ·congr 2;rw[bF,decide_eq_true_iff,decide_eq_true_iff];omega)
     obtain⟨x,c8⟩:=aB (cB R p j);obtain⟨y,i6⟩:=aB (cB R j p);rw[<-c8] at b9 c7 d5;rw[<-i6] at k9 i5 d5;obtain⟨L,e0⟩:=aB (jK R p j);have d4:=aa e0;rw[<-e0] at a0 h8;rw[<-e0];obtain⟨m,D⟩:=aB L.length;have e6:=aa D;rw[<-D] at a0 h8;rw[<-D];clear e0 D c8 i6;by_cases e2:x=1/\y=1
     ·obtain⟨rfl,rfl⟩:=e2;have a6:iY R p j=true:=by rw[d5.o];rfl
      have b3:=aa (j6.o a6);have d3:=aa (j4.o a6);have l3:=(a0.o.lt F rfl).1;have o6:=Q.o.frozenAt j;have c5:=Q.o.stored j (.bool true);have l0:=Q.o.cellAt j (by omega);rw[yY c2] at l0;rw[d3.o] at c5;have k3:=aa c5;have p0:W<S:=by rw[b6.o];exact(a4.o.lt W rfl).2
      have k2:=aa (a0.o.kept c5.2 (Or.inr (by simp[Value.ownBlock];omega)));have j2:=aa (dd O.o c5.2);clear c5 a6;go_wp2_with(first|(at_builtin;go_must(refine aX rfl _ _ 37 rfl S 3 (Ud 0) 8 underlying37 bK rfl F I m (eO L) (k2.o.alloc _) rfl wr.1.size 0 1 1 [Ud j] rfl rfl (by intro q u e4;have:=cz (w:=wr.setCell ⟨W,j,none⟩ (.bool true)) (cs:=#[Ud (j:Int)]) (T:=3) rfl q u e4;simpa using this) (by intro u c6;simp at c6;subst c6;rfl) (by omega) (by unfold maxLen;omega) (by simp;omega) ?_);intro d9 d8 m9 c4 a1 i0 l8));have e8:=aa c4;have a9:=aa ((k3.o.1.alloc (.cells #[Ud j] 3)).kept a1 (Or.inr (by simp[Value.ownBlock];omega)));have a8:=aa (kR j2.o (dd (cC _ _ _) a1) (Or.inr (by rw[<-b6.o];exact l3)));have c1:(jK R p (j+1)).length=m+1:=by rw[b3.o,<-d4.o,az,<-e6.o];rfl
      have k0:=aa (show eO (jK R p (j+1))=eO L++[Ud (j:Int)] by rw[b3.o,<-d4.o];simp[eO,af]);clear c4 a1;go_roundw;exact⟨j+1,d9,d8,by omega,by go_num,by rw[c1],aa (by rw[c1,k0.o];exact e8.o),a9,a8⟩;simp[intOf];omega
     ·have a6:iY R p j=false:=by
       rw[d5.o];rcases c7 with rfl|rfl<;>rcases i5 with rfl|rfl<;>first|rfl|exact absurd ⟨rfl,rfl⟩ e2
      have b3:=aa (j5.o a6);have d3:=aa (j3.o a6);have g3:=aa (show wr.ownsRow S 3 1 (.slice (some ⟨F,0,none⟩) (jK R p (j+1)).length I) (jK R p (j+1)).length (eO (jK R p (j+1))) from by rw[b3.o,<-d4.o,<-e6.o];exact a0.o);have c1:m=(jK R p (j+1)).length:=by rw[b3.o,<-d4.o,<-e6.o]
      have m4:x=0\/(x=1/\y=0):=(by omega);clear a6;rcases m4 with rfl|⟨rfl,rfl⟩
      ·clear e2;go_wp2;go_roundw;exact⟨j+1,F,I,by omega,by go_num,by rw[c1],g3,aa (by rw[d3.o];exact Q.o),O⟩;simp[intOf];omega
      ·clear e2;go_wp2;go_roundw;exact⟨j+1,F,I,by omega,by go_num,by rw[c1],g3,aa (by rw[d3.o];exact Q.o),O⟩;simp[intOf];omega
    ·obtain rfl:j=n:=by omega
     have c3:=k1.o;have l4:=(c3.lt go rfl).1;have m1:=f9.o.size;have o9:a5<wr.1.size:=(a7.o.own.lt a5 rfl).2;obtain⟨m,D⟩:=aB ((jK R p j).length);rw[<-D];clear D;go_wp2_with(first|(at_builtin;go_must(refine aX rfl _ _ 24 rfl w.1.size 37 (.slice none 0 0) 24 underlying24 eS rfl go b0 i8 c9 (c3.alloc _) rfl wr.1.size 0 1 1 [.slice (some ⟨F,0,none⟩) m I] rfl rfl (cz rfl) (by intro u c6;simp at c6;subst c6;rfl) (by omega) (by unfold maxLen;omega) (by simp;omega) ?_);intro d9 d8 m9 c4 a1 i0 l8));have e8:=aa c4;have a8:=aa ((a7.o.below (aZ.alloc aQ _)).grown (c3.alloc (.cells #[.slice (some ⟨F,0,none⟩) m I] 37)) a1 (by intro e;injection e with e;exact e3 e));have a9:=aa ((Q.o.alloc (.cells #[.slice (some ⟨F,0,none⟩) m I] 37)).kept a1 (by have:=eD Q.o c3 (by decide);exact this));have d1:=aa ((f9.o.alloc m1 (.cells #[.slice (some ⟨F,0,none⟩) m I] 37)).grown a1 (by simp;omega) (by rintro k ⟨⟩;exact l4));have l5:¬(d9=a5):=by
      rcases i0 with h|h
      ·rw[h];exact e3
      ·simp at h;omega
     clear c4 a1 c3;go_roundw;exact⟨p+1,d9,d8,_,by omega,by go_num,by rw[Z.o],l5,aa (by rw[Z.o];exact e8.o),aa (by rw[b5.o];exact a9.o),a8,d1⟩;simp[intOf];omega
 ·obtain rfl:p=n:=by omega
  go_wp2;go_ret;exact⟨_,_,rfl,b2.o⟩
end Go.Proofs.YtbdlbckeffakjaaGreatDoor
