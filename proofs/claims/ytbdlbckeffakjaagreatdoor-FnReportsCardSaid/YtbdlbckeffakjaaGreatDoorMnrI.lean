/- Greatest common divisors of minors, the program's. Conditions: a square table of small numbers. -/
import Derived.Test.YtbdlbckeffakjaaGreatDoorNums
namespace Go.Proofs.YtbdlbckeffakjaaGreatDoor
set_option maxHeartbeats 8000000
set_option maxRecDepth 100000
open Go.RowKit Go.Proofs.Tryz
def BD(n:Nat)(g:Nat->Int)(k:Nat)(u:Int):List Int:=(List.range (n+1)).map λp=>if n-p<k then g (n-p) else if n-p=k then u else 0
theorem ze(n)(g)(k)(u):(BD n g k u).length=n+1:=by simp[BD]
theorem zf{n}(g)(k)(u){p}(h:p<n+1):(BD n g k u)[p]? =some (if n-p<k then g (n-p) else if n-p=k then u else 0):=by simp[BD,h]
theorem SR{n k}(g)(u)(h:k<=n):(BD n g k u)[n-k]? =some u:=by
 rw[zf g k u (by omega),if_neg (by omega),if_pos (by omega)]
theorem Rm{n k}(g)(u E)(h:k<=n):(BD n g k u).set (n-k) E=BD n g k E:=by
 refine ex λp=> ?_
 rw[bU,ze];by_cases I:p<n+1
 ·rw[zf g k u I,zf g k E I];by_cases F:n-k=p
  ·rw[if_pos F,if_pos (by omega),if_neg (by omega),if_pos (by omega)]
  ·rw[if_neg F];by_cases D:n-p<k
   ·rw[if_pos D,if_pos D]
   ·rw[if_neg D,if_neg D,if_neg (by omega),if_neg (by omega)]
 ·rw[if_neg (by omega),aU (by rw[ze];omega),aU (by rw[ze];omega)]
theorem OX{n k}(g)(h:k<=n):BD n g k (g k)=BD n g (k+1) 0:=by
 refine bp λp F=> ?_
 have:=aD.1 F;by_cases E:n-p<k
 ·rw[if_pos E,if_pos (by omega)]
 ·rw[if_neg E];by_cases D:n-p=k
  ·rw[if_pos D,if_pos (by omega),D]
  ·rw[if_neg D,if_neg (by omega)];split<;>rfl
theorem OW(n)(g):BD n g 0 0=List.replicate (n+1) 0:=by
 refine da (by simp[BD]) λp h D=> ?_
 simp[BD]
theorem Rn{n j}(g)(h:j<=n):(BD n g (n+1) 0)[n-j]? =some (g j):=by
 rw[zf g (n+1) 0 (by omega),if_pos (by omega),show n-(n-j)=j by omega]
theorem bS.setC{T0}{w}{B b q}{E}{D}(h:bS T0 w B E D)(F:b<B)(y):bS T0 (w.setCell ⟨b,q,none⟩ y) B E D:=
 ⟨h.len,λi x r J I=>cE (h.own i x r J I) F _ _,h.apart⟩
def rW(M:List (List Int))(n k i:Nat):Int:=rO k*yw (rl M) ((dY n k (2^n)).take i)
theorem Mg(M)(n k):rW M n k 0=0:=by simp[rW,NT]
theorem Mh{M}{n k i}{L}(h:(dY n k (2^n))[i]? =some L):rW M n k (i+1)=rW M n k i+rO k*rl M L:=by
 unfold rW;rw[bg,h];show rO k*yw (rl M) ((dY n k (2^n)).take i++[L])=_
 rw[Cx,Int.mul_add]
theorem OB(M)(n k):rW M n k (dY n k (2^n)).length=uH M n k:=by
 unfold rW uH rZ;rw[gB]
theorem QV{M}{n k i}(D:n<=4)(E:cS M n n)(F:Bd 9 M)(I:k<=n): -3200000<=rW M n k i/\rW M n k i<=3200000:=by
 have:=Gn (m:=2^n) (i:=i) D E F I (Eq n D);unfold rW;rcases oB k with h|h<;>rw[h]<;>omega
theorem se(xs)(j)(u):(af xs).set j (Ud u)=af (xs.set j u):=by simp[af,List.map_set]
theorem wX{n k m i:Nat}{L}(h:(dY n k m)[i]? =some L):(iX n k m)[i]? =some (sf L):=by simp[iX,h]
theorem zP:∀n,n<5->∀k,k<5->k<=n->0<(dY n k (2^n)).length:=by decide+kernel
theorem wW(n k m):(iX n k m).length=(dY n k m).length:=by simp[iX]
theorem Jt(a b:Nat)(w)(F:a<=1000000000000)(I:b<=1000000000000):
 Calls prog 117 #[Ud a,Ud b] w λe w'=>e= .returned (Ud (Nat.gcd a b:Nat))/\Below w.1.size w w':=by
 go_enter func117,ntmps117;go_wp2;go_loopw[0,1] (λp q wr=>∃x y:Nat,p= Ud x/\q= Ud y/\x<=1000000000000/\y<=1000000000000/\bv (Nat.gcd x y=Nat.gcd a b)/\Below w.1.size w wr) (λ_ q _=>(intOf q).toNat);exact⟨a,b,rfl,rfl,F,I,rfl,aZ⟩;obtain⟨x,y,rfl,rfl,W,Y,h,D⟩:=hrel;by_cases J:0<y
 ·have Q:((y:Int) !=0)=true:=by simp;omega
  have U:((y:Int)==0)=false:=by simp;omega
  have O:x%y<y:=dI _ J;have E:=aa (show Nat.gcd y (x%y)=Nat.gcd a b by rw[<-h.o,lC x y,Nat.gcd_rec y x,lC]);go_wp2;go_quiet(fail);go_wp2;go_roundw;exact⟨y,x%y,rfl,rfl,by omega,by omega,E.o,aA D _⟩;simp[intOf];omega
 ·obtain rfl:y=0:=by omega
  go_wp2;go_ret;exact⟨cW (by rw[<-h.o,Nat.gcd_zero_right];omega),D⟩
theorem Ej(a b:Nat)(w)(E:a<=1000000000000)(F:b<=1000000000000):
 Calls prog 129 #[Ud a,Ud b] w λe w'=>e= .returned (Ud (Nat.gcd a b:Nat))/\w=w':=by
 go_enter func129,ntmps129;go_wp2;go_loop[0,1] (λp q=>∃x y:Nat,p= Ud x/\q= Ud y/\x<=1000000000000/\y<=1000000000000/\bv (Nat.gcd x y=Nat.gcd a b)) (λ_ q=>(intOf q).toNat);exact⟨a,b,rfl,rfl,E,F,rfl⟩;obtain⟨x,y,rfl,rfl,U,W,h⟩:=hrel;by_cases I:0<y
 ·have O:((y:Int) !=0)=true:=by simp;omega
  have Q:((y:Int)==0)=false:=by simp;omega
  have J:x%y<y:=dI _ I;have D:=aa (show Nat.gcd y (x%y)=Nat.gcd a b by rw[<-h.o,lC x y,Nat.gcd_rec y x,lC]);go_wp2;go_round;exact⟨y,x%y,rfl,by first|rfl|go_num,by omega,by omega,D.o⟩;simp[intOf];omega
 ·obtain rfl:y=0:=by omega
  go_wp2_with(go_at_call 213;refine(Ky _ _ _).mono ?_;rintro e w' ⟨rfl,rfl⟩);go_ret;exact⟨cW (by rw[<-h.o,Nat.gcd_zero_right];omega),rfl⟩
theorem vT(a)(n c)(R)(w)(h:bZ w a n R)(U:cS R n n)(a5:n<=9)(Q:∀i,i<n->0<=cB R i i/\cB R i i<=1000000000000):
 Calls prog 112 #[.slice a n c] w λe w'=>e= .returned (Ud (cd (λi=>cB R i i) n))/\w=w':=by
 have Z:=aa h;have Y:=aa U;have O:=aa Q;go_enter func112,ntmps112;go_wp2;go_loop[3,8] (λs i=>∃k:Nat,k<=n/\i= Ud k/\s= Ud (cd (λi=>cB R i i) k)) (λ_ i=>n-(intOf i).toNat);exact⟨0,by omega,rfl,rfl⟩;obtain⟨k,a3,rfl,rfl⟩:=hrel;by_cases I:k<n
 ·obtain⟨b,b4,a4,b5,c',rfl,a6,a8,a7,a2⟩:=iD Z.o Y.o I I;have D:=iV (f:=λi=>cB R i i) (n:=n) (B:=1000000000000) O.o k a3;have E:=O.o k I;have a9:(k:Int)<(n:Int):=(by omega);have W:=aa (show cd (λi=>cB R i i) (k+1)=cd (λi=>cB R i i) k+cB R k k from rfl);obtain⟨x,J⟩:=aB (cB R k k);obtain⟨y,F⟩:=aB (cd (λi=>cB R i i) k);rw[<-J] at a2 E;rw[<-F] at D;rw[<-F];have b0:=E.1;have b1:=E.2;have b2:=D.1;have b3:y<=9000000000000:=by have:=D.2;omega
  have a0:=aa J;have a1:=aa F;go_wp2;go_round;exact⟨k+1,by omega,by go_num,by rw[W.o,<-a0.o,<-a1.o]⟩;simp[intOf];omega
 ·obtain rfl:k=n:=by omega
  go_wp2;go_ret;exact⟨rfl,rfl⟩
def jm(M:List (List Int))(n:Nat):Nat->List (List Int)|0=>kj n|k+1=>qo (jm M n k) M n
def mA(R:List (List Int))(i:Nat):Bool:=(List.range i).any λi=>cB R i i==1
theorem wF(R)(i):mA R (i+1)=(mA R i||cB R i i==1):=by simp[mA,bh]
def mG(M:List (List Int))(n:Nat):Nat->Nat|0=>0|k+1=>if mA (jm M n (k+1)) n then Nat.gcd (mG M n k) (k+1) else mG M n k
def ed(M:List (List Int)):Nat:=if dB M then mG M M.length (2*M.length) else 0
theorem Lz(n):Bits (kj n) n:=⟨df n n _,λi j hi h=>by
 rw[kj,km _ hi h];unfold oy;split
 ·exact .inr rfl
 ·exact .inl rfl⟩
theorem mf{M:List (List Int)}{n:Nat}(h:∀i j,i<n->j<n->0<=cB M i j):∀k,Bits (jm M n k) n
 |0=>Lz n
 |k+1=>LG (mf h k) h
theorem vG(M:List (List Int))(n:Nat):∀k,mG M n k<=k
 |0=>aN _
 |k+1=>by
  unfold mG;split
  ·exact Nat.le_of_dvd (by omega) (Nat.gcd_dvd_right _ _)
  ·have:=vG M n k;omega
theorem Hr{R:List (List Int)}{n:Nat}(h:∀i,i<n->cB R i i=0\/cB R i i=1):∀k,k<=n->0<=cd (λi=>cB R i i) k/\(mA R k=true↔0<cd (λi=>cB R i i) k)
 |0,_=>⟨Int.le_refl _,by simp[mA,cd]⟩
 |k+1,hk=>by
  obtain⟨F,D⟩:=Hr h k (by omega);have E:=h k (by omega);simp only[cd,wF,Bool.or_eq_true,beq_iff_eq];refine⟨by omega,?_⟩;rw[D];omega
theorem yP(a)(n c)(M)(w)(h:bZ w a n M):
 Calls prog 43 #[.slice a n c] w λe w'=>e= .returned (Ud (ed M:Nat))/\Below w.1.size w w':=by
 have a4:=aa (dp h).1;have b9:=aa h;cases hm:dB M
 ·have W:=aa (show ed M=0 by unfold ed;rw[hm];rfl);go_enter func43,ntmps43;go_wp2_with fail;refine(fd a n c M _ h).mono ?_;rintro e w' ⟨rfl,rfl⟩;go_wp2;go_ret;exact⟨cW (by rw[W.o];rfl),aZ⟩
 ·obtain⟨⟨a6,Z⟩,a8,a7⟩:=ee hm a4.o;have W:=aa (show ed M=mG M n (2*n) by unfold ed;rw[hm,a4.o];rfl);have U:=aa (show∀i j,i<n->j<n->0<=cB M i j fromλi j _ _=>(a7 i j).1);have b5:=aa a8;clear a8 a7;go_enter func43,ntmps43;go_wp2_with fail;refine(fd a n c M _ h).mono ?_;rintro e w' ⟨rfl,rfl⟩;clear h;go_wp2_with fail;refine(yo n _ a6 Z).mono ?_;rintro e d4 ⟨v,rfl,a1,c1⟩;obtain⟨c0,cv,rfl,c8,d2⟩:=cT a1 (df n n _).len (by omega);have b2:=aa a1;clear a1 hm;go_wp2;go_loopw[3,4,5] (λp v i wr=>∃(k g F:Nat),k<=2*n/\i= Ud ((k+1:Nat):Int)/\p= Ud (mG M n k:Nat)/\v= .slice (some ⟨g,0,none⟩) n F/\ct 37 3 wr w.1.size (.slice (some ⟨g,0,none⟩) n F) (jm M n k)/\Below w.1.size w wr) (λ_ _ i _=>2*n+1-(intOf i).toNat);exact⟨0,c0,cv,by omega,rfl,rfl,rfl,b2.o,c1⟩;obtain⟨k,g,F,d0,rfl,rfl,rfl,b1,D⟩:=hrel;have b3:=aa b1;have c4:=vG M n k;clear b1;by_cases d1:k<2*n
  ·have b6:=aa (iH b3.o (mf U.o k).rect (by omega) (by omega));have b7:=aa (b9.o.below D aQ);have c3:((k+1:Nat):Int)<=2*(n:Int):=(by omega);go_wp2_with fail;refine(AG _ a n F c (jm M n k) M _ b6.o b7.o (mf U.o k).rect b5.o a6 Z).mono ?_;rintro e c6 ⟨d3,rfl,I,c2⟩;obtain⟨Y,E,rfl,c7,c9⟩:=cT I (df n n _).len (by omega);have O:=aa (mf U.o (k+1));have a3:=aa (show ct 37 3 c6 w.1.size (.slice (some ⟨Y,0,none⟩) n E) (jm M n (k+1)) from I.base D.size);have b8:=aa (iH I (df n n _) (by omega) (by omega));have a0:=D.trans (c2.mono D.size);clear I;go_wp2_with fail;refine(vT _ n E (jm M n (k+1)) _ b8.o O.o.rect Z (λi hi=>by have:=O.o.bit i i hi hi;omega)).mono ?_;rintro e w' ⟨rfl,rfl⟩;have b0:=Hr (R:=jm M n (k+1)) (n:=n) (λi hi=>O.o.bit i i hi hi) n aQ;have Q:=aa b0.2;have a5:=aa (show mG M n (k+1)=if mA (jm M n (k+1)) n then Nat.gcd (mG M n k) (k+1) else mG M n k from rfl);obtain⟨t,a2⟩:=aB (cd (λi=>cB (jm M n (k+1)) i i) n);rw[<-a2];rw[<-a2] at Q;clear b0 a2;by_cases c5:0<t
   ·obtain⟨p,J⟩:=aB (mG M n k);rw[<-J] at c4;rw[<-J];have b4:=aa J;clear J;go_wp2_with fail;refine(Jt p (k+1) _ (by omega) (by omega)).mono ?_;rintro e d5 ⟨rfl,a9⟩;go_wp2;go_roundw;exact⟨k+1,Y,E,by omega,by go_num,by rw[a5.o,if_pos (Q.o.2 c5),b4.o],rfl,a3.o.below a9,a0.trans (a9.mono a0.size)⟩;simp[intOf];omega
   ·go_wp2;go_roundw;exact⟨k+1,Y,E,by omega,by go_num,by rw[a5.o,if_neg (λh=>by have:=Q.o.1 h;omega)],rfl,a3.o,a0⟩;simp[intOf];omega
  ·obtain rfl:k=2*n:=by omega
   have c3:¬(((2*n+1:Nat):Int)<=2*(n:Int)):=(by omega);go_wp2;go_ret;exact⟨cW (by rw[W.o]),D⟩
theorem yB(a)(n c)(M)(w)(h:bZ w a n M):
 Calls prog 51 #[.slice a n c] w λe w'=>e= .returned (Ud (ed M:Nat))/\Below w.1.size w w':=by
 have a0:=aa (dp h).1;have c1:=aa h;cases hm:dB M
 ·have Q:=aa (show ed M=0 by unfold ed;rw[hm];rfl);go_enter func51,ntmps51;go_wp2_with fail;refine(dx a n c M _ h).mono ?_;rintro e w' ⟨rfl,rfl⟩;go_wp2;go_ret;exact⟨cW (by rw[Q.o];rfl),aZ⟩
 ·obtain⟨⟨a3,a4⟩,a6,a5⟩:=ee hm a0.o;have Q:=aa (show ed M=mG M n (2*n) by unfold ed;rw[hm,a0.o];rfl);have E:=aa (show∀i j,i<n->j<n->0<=cB M i j fromλi j _ _=>(a5 i j).1);have b7:=aa a6;clear a6 a5;go_enter func51,ntmps51;go_wp2_with fail;refine(dx a n c M _ h).mono ?_;rintro e w' ⟨rfl,rfl⟩;clear h;go_wp2_with fail;refine(qr n _ a3 a4).mono ?_;rintro e e4 ⟨v,rfl,Y,c3⟩;obtain⟨c2,cv,rfl,d3,e0⟩:=cT Y (df n n _).len (by omega);have b4:=aa Y;clear Y hm;go_wp2;go_loopw[3,4,5] (λp v i wr=>∃(k g F:Nat),k<=2*n/\i= Ud ((k+1:Nat):Int)/\p= Ud (mG M n k:Nat)/\v= .slice (some ⟨g,0,none⟩) n F/\ct 37 3 wr w.1.size (.slice (some ⟨g,0,none⟩) n F) (jm M n k)/\Below w.1.size w wr) (λ_ _ i _=>2*n+1-(intOf i).toNat);exact⟨0,c2,cv,by omega,rfl,rfl,rfl,b4.o,c3⟩;obtain⟨k,g,F,d8,rfl,rfl,rfl,a9,D⟩:=hrel;have b6:=aa a9;have c8:=vG M n k;clear a9;by_cases d9:k<2*n
  ·have b8:=aa (iH b6.o (mf E.o k).rect (by omega) (by omega));have b9:=aa (c1.o.below D aQ);have c7:((k+1:Nat):Int)<=2*(n:Int):=(by omega);obtain⟨e5,rfl⟩:=aB (α:=World) wr;go_wp2_with fail;refine(BJ _ a n F c (jm M n k) M _ b8.o b9.o (mf E.o k) b7.o a3 a4 E.o).mono ?_;rintro e b2 ⟨e3,rfl,I,a7⟩;obtain⟨W,a2,rfl,d2,d4⟩:=cT I (df n n _).len (by omega);have b3:=aa (mf E.o (k+1));have b5:=aa (show ct 37 3 b2 w.1.size (.slice (some ⟨W,0,none⟩) n a2) (jm M n (k+1)) from I.base D.size);have c0:=aa (show bZ b2 (some ⟨W,0,none⟩) n (jm M n (k+1)) from iH I (df n n _) (by omega) (by omega));have c4:=D.trans (a7.mono D.size);have a1:=aa (show mG M n (k+1)=if mA (jm M n (k+1)) n then Nat.gcd (mG M n k) (k+1) else mG M n k from rfl);obtain⟨p,Z⟩:=aB (mG M n k);rw[<-Z] at c8 a1;rw[<-Z];clear I Z;go_wp2;go_loop[3,6] (λq i=>∃j y:Nat,j<=n/\i= Ud j/\q= Ud y/\y<=100/\bv (y=if mA (jm M n (k+1)) j then Nat.gcd p (k+1) else p)) (λ_ i=>n-(intOf i).toNat);exact⟨0,p,by omega,rfl,rfl,by omega,by show _=_;simp[mA]⟩;obtain⟨j,y,d6,rfl,rfl,c9,U⟩:=hrel;by_cases b0:j<n
   ·obtain⟨b,e1,d0,e2,c',a8,d1,c5,a7,c6⟩:=iD c0.o b3.o.rect b0 b0;simp only[aI,cA,and_true] at a8;obtain⟨rfl,rfl⟩:=a8;rw[aW] at c5;have J:=aa (wF (jm M n (k+1)) j);obtain⟨x,b1⟩:=aB (cB (jm M n (k+1)) j j);rw[<-b1] at c6 J;have d7:(j:Int)<(n:Int):=(by omega);clear b1;cases hq:x==1
    ·have O:=aa hq;go_wp2;go_round;exact⟨j+1,y,by omega,by go_num,rfl,c9,by show _=_;rw[J.o,O.o,eR];exact U.o⟩;simp[intOf];omega
    ·have O:=aa hq;have d5:Nat.gcd y (k+1)<=k+1:=Nat.le_of_dvd (by omega) (Nat.gcd_dvd_right _ _);go_wp2_with fail;refine(Ej y (k+1) _ (by omega) (by omega)).mono ?_;rintro e w' ⟨rfl,rfl⟩;go_wp2;go_round;refine⟨j+1,Nat.gcd y (k+1),by omega,by go_num,rfl,by omega,?_⟩;show _=_
     rw[J.o,O.o,Bool.or_true,if_pos rfl,U.o];split
     ·rw[Nat.gcd_assoc,Nat.gcd_self]
     ·rfl
     simp[intOf];omega
   ·obtain rfl:j=n:=by omega
    go_wp2;go_roundw;exact⟨k+1,W,a2,by omega,by go_num,by rw[a1.o,<-U.o],rfl,b5.o,c4⟩;simp[intOf];omega
  ·obtain rfl:k=2*n:=by omega
   have c7:¬(((2*n+1:Nat):Int)<=2*(n:Int)):=(by omega);go_wp2;go_ret;exact⟨cW (by rw[Q.o]),D⟩
def Lo(x:Int):Prop:= -1000000000000<=x/\x<=1000000000000
theorem Hf(x y):Int.gcd y (x.tmod y)=Int.gcd x y:=by
 unfold Int.gcd;rw[Int.natAbs_tmod,lC x.natAbs y.natAbs,Nat.gcd_rec y.natAbs x.natAbs,lC]
theorem JW{x y:Int}(h:y≠0):(x.tmod y).natAbs<y.natAbs:=by
 rw[Int.natAbs_tmod];exact dI _ (by omega)
theorem He(x):Int.gcd x 0=x.natAbs:=by simp[Int.gcd]
theorem RI{x y}(D:Lo x)(E:Lo y):Int.gcd x y<=1000000000000:=by
 obtain⟨F,I⟩:=D;obtain⟨J,O⟩:=E;by_cases h:x.natAbs=0
 ·have:x=0:=by omega
  subst this;unfold Int.gcd;rw[Int.natAbs_zero,Nat.gcd_zero_left];omega
 ·have:=Nat.gcd_le_left y.natAbs (show 0<x.natAbs by omega);unfold Int.gcd;omega
theorem GY(a b)(w)(I:Lo a)(J:Lo b):
 Calls prog 117 #[Ud a,Ud b] w λe w'=>e= .returned (Ud (Int.gcd a b:Nat))/\Below w.1.size w w':=by
 go_enter func117,ntmps117;go_wp2;go_loopw[0,1] (λp q wr=>∃x y:Int,p= Ud x/\q= Ud y/\Lo x/\Lo y/\bv (Int.gcd x y=Int.gcd a b)/\Below w.1.size w wr) (λ_ q _=>(intOf q).natAbs);exact⟨a,b,rfl,rfl,I,J,rfl,aZ⟩;obtain⟨x,y,rfl,rfl,⟨a3,a4⟩,⟨U,W⟩,D,F⟩:=hrel;by_cases Q:y≠0
 ·have Y:(y !=0)=true:=by simp;omega
  have Z:(y==0)=false:=by simp;omega
  have O:=JW (x:=x) Q;have E:=aa (show Int.gcd y (x.tmod y)=Int.gcd a b by rw[<-D.o];exact Hf x y);obtain⟨r,h⟩:=aB (x.tmod y);rw[<-h] at O E;have a0:x.tmod y=r:=h.symm;have a1:IntKind.i64.wrap r=r:=au _ (by omega);clear h;go_wp2;go_quiet(fail);go_wp2;go_roundw;exact⟨y,r,rfl,rfl,⟨U,W⟩,⟨by omega,by omega⟩,E.o,aA F _⟩;simp[intOf];omega
 ·obtain rfl:y=0:=by omega
  have a2:IntKind.i64.wrap (-x)= -x:=au _ (by omega);go_wp2;go_ret;exact⟨cW (by rw[<-D.o,He];omega),F⟩
theorem FT(a b)(w)(F:Lo a)(I:Lo b):
 Calls prog 129 #[Ud a,Ud b] w λe w'=>e= .returned (Ud (Int.gcd a b:Nat))/\w=w':=by
 go_enter func129,ntmps129;go_wp2;go_loop[0,1] (λp q=>∃x y:Int,p= Ud x/\q= Ud y/\Lo x/\Lo y/\bv (Int.gcd x y=Int.gcd a b)) (λ_ q=>(intOf q).natAbs);exact⟨a,b,rfl,rfl,F,I,rfl⟩;obtain⟨x,y,rfl,rfl,⟨a2,a3⟩,⟨Q,U⟩,D⟩:=hrel;by_cases O:y≠0
 ·have W:(y !=0)=true:=by simp;omega
  have Y:(y==0)=false:=by simp;omega
  have J:=JW (x:=x) O;have E:=aa (show Int.gcd y (x.tmod y)=Int.gcd a b by rw[<-D.o];exact Hf x y);obtain⟨r,h⟩:=aB (x.tmod y);rw[<-h] at J E;have Z:x.tmod y=r:=h.symm;have a0:IntKind.i64.wrap r=r:=au _ (by omega);clear h;go_wp2;go_round;exact⟨y,r,rfl,by first|rfl|go_num,⟨Q,U⟩,⟨by omega,by omega⟩,E.o⟩;simp[intOf];omega
 ·obtain rfl:y=0:=by omega
  have a1:IntKind.i64.wrap (-x)= -x:=au _ (by omega);go_wp2_with(go_at_call 213;refine(Ky _ _ _).mono ?_;rintro e w' ⟨rfl,rfl⟩);go_ret;exact⟨cW (by rw[<-D.o,He];omega),rfl⟩
def qb(f:Nat->Int)(g:Nat):Nat->Nat|0=>g|j+1=>Int.gcd ((qb f g j:Nat):Int) (f j)
def Tl(t:List (List Int))(n k i j:Nat):Int:=kZ k (dn t ((dY n k (2^n)).getD i []) ((dY n k (2^n)).getD j []))
def xF(t:List (List Int))(n k:Nat):Nat->Nat|0=>0|i+1=>qb (Tl t n k i) (xF t n k i) (dY n k (2^n)).length
def pO(t:List (List Int))(n k:Nat):Nat:=xF t n k (dY n k (2^n)).length
theorem JJ:∀n:Nat,n<=4->Bq 100 n<=1000000000000
 |0,_=>by decide
 |1,_=>by decide
 |2,_=>by decide
 |3,_=>by decide
 |4,_=>by decide
theorem KH{L:List (List Nat)}{i}{x}(h:L[i]? =some x):L.getD i []=x:=by rw[ah,h];rfl
theorem Ji{t}{n k i j}{R C}(hi:(dY n k (2^n))[i]? =some R)(h:(dY n k (2^n))[j]? =some C):Tl t n k i j=kZ k (dn t R C):=by
 unfold Tl;rw[KH hi,KH h]
theorem Ev{t}{n k i j}(a1:n<=4)(a0:k<=n)(O:cS t n n)(Q:Bd 100 t)(hi:i<(dY n k (2^n)).length)(U:j<(dY n k (2^n)).length):Lo (Tl t n k i j):=by
 obtain⟨R,D⟩:=aE hi;obtain⟨C,h⟩:=aE U;rw[Ji D h];obtain⟨E,F⟩:=nw (aj D);obtain⟨I,J⟩:=nw (aj h);have W:cS (dn t R C) k k:=by have:=fc t R C;rw[E,I] at this;exact this
 have Y:=Bh (B:=100) (by omega) k (dn t R C) W (lU O Q F J);have Z:=JJ k (by omega);unfold Lo;omega
theorem Ek{g:Nat}(h:g<=1000000000000):Lo (g:Int):=⟨by omega,by omega⟩
theorem tC{f:Nat->Int}{g n:Nat}(E:g<=1000000000000)(D:∀j,j<n->Lo (f j)):∀j,j<=n->qb f g j<=1000000000000
 |0,_=>E
 |j+1,h=>RI (Ek (tC E D j (by omega))) (D j (by omega))
theorem we{t:List (List Int)}{n k:Nat}(I:n<=4)(F:k<=n)(D:cS t n n)(E:Bd 100 t):∀i,i<=(dY n k (2^n)).length->xF t n k i<=1000000000000
 |0,_=>by show(0:Nat)<=_;omega
 |i+1,h=>tC (we I F D E i (by omega)) (λj J=>Ev I F D E (by omega) J) _ aQ
def Ht(t:List (List Int))(n:Nat):Nat->Nat|0=>1|k+1=>if pO t n (k+1)=0 then Ht t n k else pO t n (k+1)
def QF(t:List (List Int))(n k:Nat):Nat:=if pO t n (k+1)=0 then 0 else pO t n (k+1)/Ht t n k
def Cf(t:List (List Int))(n K:Nat):List Int:=(List.range K).map λk=>((QF t n k:Nat):Int)
theorem Hs(t)(n K):af (Cf t n (K+1))=af (Cf t n K)++[Ud ((QF t n K:Nat):Int)]:=by simp[Cf,bh,af]
theorem RR(t)(n K):(Cf t n K).length=K:=by simp[Cf]
theorem vO{t}{n k}(F:n<=4)(E:k<=n)(h:cS t n n)(D:Bd 100 t):pO t n k<=1000000000000:=we F E h D _ aQ
theorem ER(t:List (List Int))(n:Nat):∀k,1<=Ht t n k
 |0=>aN _
 |k+1=>by
  have:=ER t n k;rw[Ht];split<;>omega
theorem EQ{t:List (List Int)}{n:Nat}(F:n<=4)(D:cS t n n)(E:Bd 100 t):∀k,k<=n->Ht t n k<=1000000000000
 |0,_=>by show(1:Nat)<=_;omega
 |k+1,h=>by
  have:=EQ F D E k (by omega);have I:=vO F h D E;rw[Ht];split<;>omega
theorem RP{t}{n k}(F:n<=4)(h:cS t n n)(D:Bd 100 t)(E:k<n):QF t n k<=1000000000000:=by
 have I:=vO F (show k+1<=n from E) h D;have J:=ei (pO t n (k+1)) (Ht t n k);unfold QF;split<;>omega
theorem KQ{t}{n k}(h:pO t n (k+1)=0):Ht t n (k+1)=Ht t n k/\QF t n k=0:=⟨by rw[Ht,if_pos h],by unfold QF;rw[if_pos h]⟩
theorem KR{t}{n k}(h:¬pO t n (k+1)=0):Ht t n (k+1)=pO t n (k+1)/\QF t n k=pO t n (k+1)/Ht t n k:=⟨by rw[Ht,if_neg h],by unfold QF;rw[if_neg h]⟩
theorem zI(n k:Nat)(w)(f8:n<=4)(g9:k<=9):
 Calls prog 273 #[Ud n,Ud k] w (cK (iX n k (2^n)) w):=by
 have g0:=Eq n f8;have e0:=aa (λ(i:Nat) (hi:i<4) (s:Nat) (g1:s<16)=>Bm i hi s g1);have e3:=aa (λ(s j:Nat) (h:s/2^j%2=1)=>Bn h);have e2:=aa (λ(s j:Nat) (h:¬s/2^j%2=1)=>EV h);have e1:=aa (λ(s j:Nat)=>EW s j);have d3:=aa (λ(m:Nat) (h:(eJ m n).length=k)=>CI h);have d2:=aa (λ(m:Nat) (h:¬(eJ m n).length=k)=>FW h);have d1:=aa (λm=>FX n k m);have b9:=aa (show iX n k 0=[] from rfl);have h5:IntKind.i64.wrap ((2:Int)^n)=(2:Int)^n:=by
  have:n=0\/n=1\/n=2\/n=3\/n=4:=(by omega);rcases this with rfl|rfl|rfl|rfl|rfl<;>decide
 have h7:IntKind.u64.wrap (n:Int)=(n:Int):=dS _ (by omega);obtain⟨N,b1⟩:=aB (2^n);have g6:(2:Int)^n=(N:Int):=by rw[b1];norm_cast
 rw[<-b1] at g0;rw[<-b1];obtain⟨G,c2⟩:=aB (iX n k);rw[<-c2] at d3 d2 d1 b9;rw[<-c2];have d0:=aa (show(w.alloc (.cells #[] 37)).ownsRow w.1.size 37 1 (.slice (some ⟨w.1.size,0,none⟩) 0 0) 0 [] from bd #[] _ rfl aQ (by unfold maxLen;simp));have d4:=aa (show bS 3 (w.alloc (.cells #[] 37)) w.1.size [] (G 0) from by rw[b9.o];exact bS.nil _ _ _);have c4:=aa (show Below w.1.size w (w.alloc (.cells #[] 37)) from aZ.alloc aQ _);have c7:=aa (show(G 0).length=0 by rw[b9.o];rfl);clear b1 c2;go_enter func273,ntmps273;go_wp2;go_loopw[5,6] (λv i wr=>∃(p go Y:Nat) (a2:List Value),p<=N/\i= Ud p/\v= .slice (some ⟨go,0,none⟩) (G p).length Y/\bv (wr.ownsRow w.1.size 37 1 (.slice (some ⟨go,0,none⟩) (G p).length Y) (G p).length a2)/\bv (bS 3 wr w.1.size a2 (G p))/\bv (Below w.1.size w wr)) (λ_ i _=>N-(intOf i).toNat);exact⟨0,w.1.size,0,[],by omega,rfl,by rw[c7.o],by rw[c7.o];exact d0,d4,c4⟩;clear d0 d4 c4;obtain⟨p,go,Y,a2,h3,rfl,rfl,b7,b8,b4⟩:=hrel;obtain⟨D,g4⟩:=aB wr;subst g4;have f6:=d1.o p;obtain⟨a6,a9⟩:=aB ((G p).length);have b5:=aa a9;rw[<-a9] at b7 f6;rw[<-a9];clear a9;by_cases h1:p<N
 ·have h4:(p:Int)<(N:Int):=by omega
  have d9:=b4.o.size;have E:=aa (show(D.alloc (.cells #[] 3)).ownsRow D.1.size 3 1 (.slice (some ⟨D.1.size,0,none⟩) 0 0) 0 (eO (eJ p 0)) from bd (w:=D) (base:=D.1.size) (e:=3) #[] [] rfl aQ (by unfold maxLen;simp));have c5:=aa (show Below D.1.size D (D.alloc (.cells #[] 3)) from aZ.alloc aQ _);have f0:=aa (λh=>d3.o p h);have e9:=aa (λh=>d2.o p h);obtain⟨S,f1⟩:=aB D.1.size;have Q:=aa f1;go_wp2;go_loopw[7,8] (λv i wr=>∃(j F J:Nat),j<=n/\i= Ud j/\v= .slice (some ⟨F,0,none⟩) (eJ p j).length J/\bv (wr.ownsRow S 3 1 (.slice (some ⟨F,0,none⟩) (eJ p j).length J) (eJ p j).length (eO (eJ p j)))/\bv (Below S D wr)) (λ_ i _=>n-(intOf i).toNat);exact⟨0,S,0,by omega,rfl,by rw[Q.o];rfl,by rw[Q.o];exact E,by rw[Q.o];exact c5⟩;clear E c5;obtain⟨j,F,J,g7,rfl,rfl,E,a7⟩:=hrel;have d8:=e1.o p j;have g2:=a7.o.size;have g3:S<=wr.1.size:=by rw[Q.o];exact g2
  obtain⟨L,b0⟩:=aB (eJ p j);have O:=aa b0;rw[<-b0] at E d8;rw[<-b0];obtain⟨m,b2⟩:=aB L.length;have W:=aa b2;rw[<-b2] at E d8;rw[<-b2];clear b0 b2;by_cases h0:j<n
  ·have g8:(j:Int)<(n:Int):=by omega
   have h6:IntKind.u64.wrap (j:Int)=(j:Int):=dS _ (by omega);have f2:=e0.o j (by omega) p (by omega);have c9:=aa (λh=>e3.o p j h);have c8:=aa (λh=>e2.o p j h);obtain⟨d5,d6⟩:=aB (p/2^j%2);rw[<-d6] at f2 c9 c8;have f3:d5=0\/d5=1:=(by omega);clear d6;rcases f3 with rfl|rfl
   ·have a3:=aa (c8.o (by decide));have e8:=aa (show wr.ownsRow S 3 1 (.slice (some ⟨F,0,none⟩) (eJ p (j+1)).length J) (eJ p (j+1)).length (eO (eJ p (j+1))) from by rw[a3.o,<-O.o,<-W.o];exact E.o);have I:m=(eJ p (j+1)).length:=by rw[a3.o,<-O.o,<-W.o]
    go_wp2;go_roundw;exact⟨j+1,F,J,by omega,by go_num,by rw[I],e8,a7⟩;simp[intOf];omega
   ·have a3:=aa (c9.o rfl);have f5:=(E.o.lt F rfl).1;go_wp2_with(first|(at_builtin;go_must(refine aX rfl _ _ 37 rfl S 3 (Ud 0) 8 underlying37 bK rfl F J m (eO L) (E.o.alloc _) rfl wr.1.size 0 1 1 [Ud j] rfl rfl (cz rfl) (by intro u a5;simp at a5;subst a5;rfl) (by omega) (by unfold maxLen;omega) (by simp;omega) ?_);intro c1 c0 g5 a4 a0 f9 f7));have b6:=aa a4;have b3:=aa ((a7.o.alloc g3 (.cells #[Ud j] 3)).grown a0 (by simp;omega) (by rintro k ⟨⟩;exact f5));have I:(eJ p (j+1)).length=m+1:=by rw[a3.o,<-O.o,az,<-W.o];rfl
    have e5:=aa (show eO (eJ p (j+1))=eO L++[Ud (j:Int)] by rw[a3.o,<-O.o];simp[eO,af]);clear a4 a0;go_roundw;exact⟨j+1,c1,c0,by omega,by go_num,by rw[I],aa (by rw[I,e5.o];exact b6.o),b3⟩;simp[intOf];omega
  ·obtain rfl:j=n:=by omega
   have Z:Below D.1.size D wr:=by rw[<-Q.o];exact a7.o
   have f4:D.1.size<=F:=by rw[<-Q.o];exact(E.o.lt F rfl).1
   have a1:=ai b7.o Z;have c6:=aa (b4.o.trans (Z.mono d9));by_cases c3:m=k
   ·have U:=aa (f0.o (by rw[<-O.o,<-W.o];exact c3));rw[<-O.o] at U;have d7:(sf L).length=m:=by rw[pT];exact W.o.symm
    have a8:=aa (b8.o.moreAt (r:=sf L) (c:=J) (eU Z) f4 (by rw[d7,nF];exact aT E.o (by rw[Q.o];exact d9)));rw[d7] at a8;have I:(G (p+1)).length=a6+1:=by rw[U.o,az,<-b5.o];rfl
    subst c3;go_wp2_with(first|(at_builtin;go_must(refine aX rfl _ _ 24 rfl w.1.size 37 (.slice none 0 0) 24 underlying24 eS rfl go Y a6 a2 (a1.alloc _) rfl wr.1.size 0 1 1 [.slice (some ⟨F,0,none⟩) m J] rfl rfl (cz rfl) (by intro u a5;simp at a5;subst a5;rfl) (by omega) (by unfold maxLen;omega) (by simp;omega) ?_);intro c1 c0 g5 a4 a0 f9 f7));have e7:=aa ((a8.o.below (aZ.alloc aQ _)).kept (a1.alloc _) (by decide) a0);have b6:=aa a4;have b3:=aa ((c6.o.alloc (by omega) _).grown a0 (by simp;omega) (by rintro k ⟨⟩;exact(a1.lt go rfl).1));clear a4 a0 a1 Z;go_roundw;exact⟨p+1,c1,c0,_,by omega,by go_num,by rw[I],aa (by rw[I];exact b6.o),aa (by rw[U.o];exact e7.o),b3⟩;simp[intOf];omega
   ·have U:=aa (e9.o (by rw[<-O.o,<-W.o];exact c3));have h2:((m:Int)==(k:Int))=false:=by simp;omega
    have e6:=aa a1;have a8:=aa (b8.o.below Z);have I:a6=(G (p+1)).length:=by rw[U.o,<-b5.o]
    clear a1 Z;go_wp2;go_roundw;exact⟨p+1,go,Y,a2,by omega,by go_num,by rw[I],aa (by rw[<-I];exact e6.o),aa (by rw[U.o];exact a8.o),c6⟩;simp[intOf];omega
 ·obtain rfl:p=N:=by omega
  have e4:=aa (show ct 37 3 D w.1.size (.slice (some ⟨go,0,none⟩) a6 Y) (G p) from⟨a2,by rw[<-b5.o];exact b7.o,b8.o⟩);go_wp2;go_ret;exact⟨_,rfl,e4.o,b4.o⟩
theorem zH(a e4)(n c m h5)(t)(R C)(e5)(k j3)(w)(e6:bZ w a n t)(e9:cS t n n)(c7:aO w e5 k (eO R))(f0:∀i∈R,i<n)(i5:R.length<=9)(c5:aO w e4 m (eO C))(e7:∀i∈C,i<n)(i8:C.length<=9):
 Calls prog 274 #[.slice a n c,.slice e5 k j3,.slice e4 m h5] w (cK (dn t R C) w):=by
 have h3:=aa (λ(i:Nat) (hi:i<n)=>fQ e6 e9 hi);have g5:=aa c5;have g6:=aa (λ(i x:Nat) (D:C[i]? =some x)=>e7 x (aj D));have c4:C.length=m:=by have:=c5.len;rw[vM] at this;exact this
 have h1:=aa c7;have h2:=aa (λ(i x:Nat) (D:R[i]? =some x)=>f0 x (aj D));have c3:R.length=k:=by have:=c7.len;rw[vM] at this;exact this
 have b0:=aa (λ(i x:Nat) (D:R[i]? =some x)=>oG (t:=t) (C:=C) D);have e1:=aa (λ(i:Nat) (hi:i<=k)=>qB (t:=t) (R:=R) (C:=C) (i:=i) (by omega));have d5:=aa (λ(x j y:Nat) (a0:C[j]? =some y)=>qz (t:=t) (i:=x) a0);have b6:=aa (λ(x j:Nat) (i4:j<=m)=>sZ (t:=t) (C:=C) (i:=x) (j:=j) (by omega));have d7:=aa (λx=>qy t C x);have a9:=aa (show iv t R C k=dn t R C by rw[<-c3];exact qC t R C);rw[c4] at b0;have g9:=aa c4;have g8:=aa c3;have e2:=aa (oF t R C);have k1:m<=9:=(by omega);have j9:k<=9:=(by omega);obtain⟨e3,f1⟩:=aB (iv t R C);rw[<-f1] at b0 e1 a9 e2;obtain⟨b1,e8⟩:=aB (nP t C);rw[<-e8] at b0 d5 b6 d7;obtain⟨g4,c1⟩:=aB (dn t R C);rw[<-c1] at a9;rw[<-c1];have d3:=aa (show(w.alloc (.cells #[] 37)).ownsRow w.1.size 37 1 (.slice (some ⟨w.1.size,0,none⟩) 0 0) 0 [] from bd #[] _ rfl aQ (by unfold maxLen;simp));have e0:=aa (show bS 3 (w.alloc (.cells #[] 37)) w.1.size [] (e3 0) from by rw[e2.o];exact bS.nil _ _ _);have d1:=aa (show Below w.1.size w (w.alloc (.cells #[] 37)) from aZ.alloc aQ _);clear e6 e9 c5 e7 c4 c3 f1 e8 c1 i8 c7 f0 i5;go_enter func274,ntmps274;go_wp2;go_loopw[7,8] (λv i wr=>∃(p go a3:Nat) (a7:List Value),p<=k/\i= Ud p/\v= .slice (some ⟨go,0,none⟩) p a3/\bv (wr.ownsRow w.1.size 37 1 (.slice (some ⟨go,0,none⟩) p a3) p a7)/\bv (bS 3 wr w.1.size a7 (e3 p))/\bv (Below w.1.size w wr)) (λ_ i _=>k-(intOf i).toNat);exact⟨0,w.1.size,0,[],by omega,rfl,rfl,d3,e0,d1⟩;clear d3 e0 d1;obtain⟨p,go,a3,a7,k2,rfl,rfl,d4,d9,a1⟩:=hrel;obtain⟨h,j0⟩:=aB wr;subst j0;by_cases i7:p<k
 ·have k3:(p:Int)<(k:Int):=by omega
  obtain⟨x,D⟩:=aE (l:=R) (n:=p) (by rw[g8.o];exact i7);have j2:=h2.o p x D;obtain⟨b2,b4,rfl,f4,f8⟩:=h1.o.at_ (by omega);have f9:=f8 p _ (ll D);have i1:=(a1.o.cell (p:=⟨b2,b4+p,none⟩) f4).trans f9;have h4:=aa (b0.o p x D);have c8:=a1.o.size;have f3:Below h.1.size h (h.alloc (.cells #[] 3)):=aZ.alloc aQ _;have J:=aa (show(h.alloc (.cells #[] 3)).ownsRow h.1.size 3 1 (.slice (some ⟨h.1.size,0,none⟩) 0 0) 0 (af (b1 x 0)) from by rw[d7.o];exact bd (w:=h) (base:=h.1.size) (e:=3) #[] [] rfl aQ (by unfold maxLen;simp));have d2:=aa f3;obtain⟨S,h6⟩:=aB h.1.size;have E:=aa h6;clear f3 D f8;go_wp2;go_loopw[9,10] (λv i O=>∃(j F W:Nat),j<=m/\i= Ud j/\v= .slice (some ⟨F,0,none⟩) j W/\bv (O.ownsRow S 3 1 (.slice (some ⟨F,0,none⟩) j W) j (af (b1 x j)))/\bv (Below S h O)) (λ_ i _=>m-(intOf i).toNat);exact⟨0,S,0,by omega,rfl,by rw[E.o],by rw[E.o];exact J,by rw[E.o];exact d2⟩;clear J d2 i1;obtain⟨j,F,W,i4,rfl,rfl,J,Q⟩:=hrel;obtain⟨O,j1⟩:=aB wr;subst j1;by_cases i6:j<m
  ·have j8:(j:Int)<(m:Int):=by omega
   obtain⟨y,a0⟩:=aE (l:=C) (n:=j) (by rw[g9.o];exact i6);have k9:=g6.o j y a0;obtain⟨b8,d0,i2,i0,f7⟩:=g5.o.at_ (by omega);obtain⟨b,c9,a',c',r,rfl,h8,f5,c6,i9,f2⟩:=h3.o x j2;obtain⟨a2,a6,rfl,h9,f6⟩:=c6.at_ (by omega);have k4:r.length=n:=by simpa[af] using c6.len
   have h7:w.1.size<=S:=by rw[E.o];exact c8
   have a8:=aa (λ(V:World) (Y:Below S h V)=>show Below w.1.size w V from a1.o.trans (Y.mono h7));subst i2;have U:=aa (λ(V:World) (Y:Below S h V)=>show V.cell? ⟨b2,b4+p,none⟩=some (Ud (x:Int))/\V.cell? ⟨b8,d0+j,none⟩=some (Ud (y:Int))/\V.cell? ⟨b,c9+x,none⟩=some (.slice (some ⟨a2,a6,none⟩) n c')/\V.cell? ⟨a2,a6+y,none⟩=some (Ud (cB t x y)) from
    ⟨((a8.o V Y).cell (p:=⟨b2,b4+p,none⟩) f4).trans f9,((a8.o V Y).cell (p:=⟨b8,d0+j,none⟩) i0).trans (f7 j _ (ll a0)),((a8.o V Y).cell (p:=⟨b,c9+x,none⟩) h8).trans f5,((a8.o V Y).cell (p:=⟨a2,a6+y,none⟩) h9).trans ((f6 y (Ud (mP r y)) (aP (dR (by omega)))).trans (by rw[f2 y]))⟩)
   obtain⟨j5,j6,j7,g3⟩:=U.o _ Q.o;have d6:=aa (d5.o x j y a0);obtain⟨u,I⟩:=aB (cB t x y);rw[<-I] at U d6 g3;have k5:(x:Int)<(n:Int):=(by omega);have k7:(y:Int)<(n:Int):=(by omega);have g1:=Q.o.size;have g2:S<=O.1.size:=by rw[E.o];exact g1
   have k6:(0:Int)<=(x:Int):=(by omega);have k8:(0:Int)<=(y:Int):=(by omega);clear I f5 f6 f7 c6 i9 f2 a0;go_wp2;go_region_held3(λV=>V.cell? ⟨b2,b4+p,none⟩=some (Ud (x:Int))/\V.cell? ⟨b8,d0+j,none⟩=some (Ud (y:Int))/\V.cell? ⟨b,c9+x,none⟩=some (.slice (some ⟨a2,a6,none⟩) n c')/\V.cell? ⟨a2,a6+y,none⟩=some (Ud u)) (first|go_keep|exact U.o _ c2|exact U.o _ (Q.o.drew)|exact U.o _ ((Q.o.alloc g2 _).drew))
    ((refine kI (by rfl) _ _ 37 (by rfl) S 3 (Ud 0) 8 underlying37 bK rfl F j W (af (b1 x j)) (ai (J.o.alloc _) aZ.drew) (by rfl) O.1.size 0 1 1 [Ud u] (by rfl) rfl (cz rfl) (by intro u I;simp at I;subst I;rfl) (by omega) (by unfold maxLen;omega) (by simp;omega) ?_;intro c0 b9 j4 a5 Z g0;have c2:=(Q.o.alloc g2 (.cells #[Ud u] 3)).drew.grown Z (by simp;omega) (by rintro k ⟨⟩;exact(J.o.lt F rfl).1)))
   have b7:=aa a5;have b5:=aa c2;clear a5 Z g0 c2 j5 j6 j7 g3 U;go_wp2;go_roundw;exact⟨j+1,c0,b9,by omega,by go_num,rfl,aa (by rw[d6.o];exact b7.o),b5⟩;simp[intOf];omega
  ·obtain rfl:j=m:=by omega
   have a4:Below h.1.size h O:=by rw[<-E.o];exact Q.o
   have i3:h.1.size<=F:=by rw[<-E.o];exact(J.o.lt F rfl).1
   have b3:=ai d4.o a4;have g1:=a4.size;have d8:=aa (d9.o.moreAt (r:=b1 x j) (c:=W) (eU a4) i3 (by rw[b6.o x j aQ];exact aT J.o (by rw[E.o];exact c8)));rw[b6.o x j aQ] at d8;go_wp2_with(first|(at_builtin;go_must(refine aX rfl _ _ 24 rfl w.1.size 37 (.slice none 0 0) 24 underlying24 eS rfl go a3 p a7 (b3.alloc _) rfl O.1.size 0 1 1 [.slice (some ⟨F,0,none⟩) j W] rfl rfl (cz rfl) (by intro u I;simp at I;subst I;rfl) (by omega) (by unfold maxLen;omega) (by simp;omega) ?_);intro c0 b9 j4 a5 Z g0 k0));have b7:=aa ((d8.o.below (aZ.alloc aQ _)).kept (b3.alloc _) (by decide) Z);have h0:=aa a5;have b5:=aa (((a1.o.trans (a4.mono c8)).alloc (by omega) _).grown Z (by simp;omega) (by rintro k ⟨⟩;exact(b3.lt go rfl).1));clear a5 Z b3 a4;go_roundw;exact⟨p+1,c0,b9,_,by omega,by go_num,rfl,h0,aa (by rw[h4.o];exact b7.o),b5⟩;simp[intOf];omega
 ·obtain rfl:p=k:=by omega
  have g7:=aa (show ct 37 3 h w.1.size (.slice (some ⟨go,0,none⟩) p a3) g4 from⟨a7,by rw[<-a9.o,e1.o p aQ];exact d4.o,by rw[<-a9.o];exact d9.o⟩);go_wp2;go_ret;exact⟨_,rfl,g7.o,a1.o⟩
theorem rI(a)(n c)(t)(w)(h:bZ w a n t)(E:cS t n n)(b3:1<=n/\n<=4)(F:Bd 100 t):
 Calls prog 252 #[.slice a n c] w λe w'=>e= .returned (.bool true)/\w=w':=by
 have a4:=aa (λ(i:Nat) (hi:i<n)=>fQ h E hi);have a0:=aa (λ(i j:Nat) (hi:i<n) (W:j<n)=>F.at E hi W);have a2:=aa (λ(x:Int) (D: -100<=x/\x<=100) (w:World)=>(show Calls prog 96 #[Ud x,Ud (-100),Ud 100] w λe w'=>e= .returned (.bool true)/\w=w' from by have:=eB x (-100) 100 w;rw[fj D] at this;exact this));have a1:=aa (λ(w:World)=>(show Calls prog 96 #[Ud (n:Int),Ud 1,Ud 4] w λe w'=>e= .returned (.bool true)/\w=w' from by have:=eB (n:Int) 1 4 w;rw[fj (by omega)] at this;exact this));clear h E F;go_enter func252,ntmps252;go_wp2;go_loop[3] (λi=>∃k:Nat,k<=n/\i= Ud k) (λi=>n-(intOf i).toNat);exact⟨0,by omega,rfl⟩;obtain⟨k,b1,rfl⟩:=hrel;by_cases Y:k<n
 ·have b2:(k:Int)<(n:Int):=by omega
  obtain⟨b,b6,a',c',r,rfl,F,a9,I,a6,O⟩:=a4.o k Y;have a3:=aa I;have Z:=aa O;have b4:((n:Int) !=(n:Int))=false:=(by simp);have b5:r.length=n:=by have:=I.len;rw[show(af r).length=r.length by simp[af]] at this;exact this
  clear I a6 O;go_wp2;go_loop[4] (λi=>∃j:Nat,j<=n/\i= Ud j) (λi=>n-(intOf i).toNat);exact⟨0,by omega,rfl⟩;obtain⟨j,W,rfl⟩:=hrel;by_cases a5:j<n
  ·have b0:(j:Int)<(n:Int):=by omega
   obtain⟨a7,b7,rfl,a8,Q⟩:=a3.o.at_ (by omega);have U:=Q j _ (aP (dR (by omega)));rw[<-Z.o j] at U;have J:=aa (λw=>a2.o _ (a0.o k j Y a5) w);obtain⟨x,D⟩:=aB (cB t k j);rw[<-D] at U J;clear D Q;go_wp2_with(go_at_call 96;refine(J.o _).mono ?_;rintro e w' ⟨rfl,rfl⟩);go_round;exact⟨j+1,by omega,by go_num⟩;simp[intOf];omega
  ·obtain rfl:j=n:=by omega
   go_wp2;go_round;exact⟨k+1,by omega,by go_num⟩;simp[intOf];omega
 ·obtain rfl:k=n:=by omega
  go_wp2_with(go_at_call 96;refine(a1.o _).mono ?_;rintro e w' ⟨rfl,rfl⟩);go_ret;exact⟨rfl,rfl⟩
theorem yD(a)(n c k)(t)(w)(c8:bZ w a n t)(a5:cS t n n)(b3:1<=n/\n<=4)(b0:Bd 100 t)(d5:k<=n):
 Calls prog 253 #[.slice a n c,Ud k] w λe w'=>e= .returned (Ud (pO t n k:Nat))/\Below w.1.size w w':=by
 have e5:=aa (rI a n c t w c8 a5 b3 b0);have e8:=aa (λ(w:World)=>(show Calls prog 96 #[Ud (k:Int),Ud 0,Ud (n:Int)] w λe w'=>e= .returned (.bool true)/\w=w' from by have:=eB (k:Int) 0 (n:Int) w;rw[fj (by omega)] at this;exact this));have c4:=aa (λ(V:World)=>zI n k V b3.2 (by omega));have h2:=aa (λ(F a3:Option Addr) (O a7:Nat) (R C:List Nat) (V:World) (Y:Below w.1.size w V) (i2:aO V F k (eO R)) (U:∀i∈R,i<n) (Q:R.length=k) (i0:aO V a3 k (eO C)) (a1:∀i∈C,i<n) (a0:C.length=k)=>(zH a a3 n c k a7 t R C F k O V (c8.below Y aQ) a5 i2 U (by omega) i0 a1 (by omega)).mono (R':=λe w'=>∃E J,e= .returned (.slice E k J)/\gU w' E k (dn t R C)/\Below V.1.size V w') (by
  rintro e w' ⟨v,rfl,b2,h9⟩;obtain⟨E,J,rfl,_,e0⟩:=fH b2 (show cS (dn t R C) k k by have:=fc t R C;rw[Q,a0] at this;exact this) (by omega);exact⟨E,J,rfl,e0,h9⟩))
 have g7:=aa (λ(E:Option Addr) (J:Nat) (R C:List Nat) (V:World) (U:∀i∈R,i<n) (Q:R.length=k) (a1:∀i∈C,i<n) (a0:C.length=k) (d9:gU V E k (dn t R C))=>ld 100 (by omega) (by omega) k (by omega) (dn t R C) E J V d9 (by have:=fc t R C;rw[Q,a0] at this;exact this) (lU a5 b0 U a1));have c0:=aa (λ(i:Nat) (hi:i<=(dY n k (2^n)).length)=>we b3.2 d5 a5 b0 i hi);have b6:=aa (λ(i j:Nat) (hi:i<(dY n k (2^n)).length) (I:j<(dY n k (2^n)).length)=>Ev b3.2 d5 a5 b0 hi I);have f9:=zP n (by omega) k (by omega) d5;have i1:=rP n k (2^n);have i9:=Eq n b3.2;have b7:=aa (λ(i:Nat) (hi:i<(dY n k (2^n)).length)=>show∃L,(dY n k (2^n))[i]? =some L/\(iX n k (2^n))[i]? =some (sf L)/\L.length=k/\(∀x∈L,x<n) from by
  obtain⟨L,d2⟩:=aE hi;obtain⟨c9,d0⟩:=nw (aj d2);exact⟨L,d2,wX d2,c9,d0⟩)
 have c2:=aa (λ(i j:Nat) (R C:List Nat) (hi:(dY n k (2^n))[i]? =some R) (I:(dY n k (2^n))[j]? =some C)=>Ji (t:=t) hi I);obtain⟨a6,d1⟩:=aB (Tl t n k);obtain⟨c6,a4⟩:=aB (dY n k (2^n));obtain⟨h5,d3⟩:=aB (iX n k (2^n));obtain⟨D,a8⟩:=aB c6.length;have c5:=aa (show h5.length=D by rw[d3,wW,a8,a4]);have e1:=aa (show xF t n k 0=0 from rfl);have e2:=aa (λi=>show xF t n k (i+1)=qb (a6 i) (xF t n k i) D from by rw[d1,a8,a4];rfl);have e9:=aa (show pO t n k=xF t n k D from by rw[a8,a4];rfl);rw[<-a4,<-a8] at c0 b6 f9 i1 b7;rw[<-a4] at c2;rw[<-d1] at b6 c2;rw[<-d3] at b7 c4;obtain⟨G,f3⟩:=aB (xF t n k);rw[<-f3] at e1 e2 e9 c0;have g8:=aa (λ(f:Nat->Int) (g:Nat)=>show qb f g 0=g from rfl);have h0:=aa (λ(f:Nat->Int) (g j:Nat)=>show qb f g (j+1)=Int.gcd ((qb f g j:Nat):Int) (f j) from rfl);have g9:=aa (λ(i j:Nat) (hi:i<D) (I:j<=D)=>tC (c0.o i (by omega)) (λj I=>b6.o i j hi I) j I);clear c8 a5 b0 d1 a4 d3 a8 f3;go_enter func253,ntmps253;go_wp2_with(first|(go_at_call 252;refine e5.o.mono ?_;rintro e w' ⟨rfl,rfl⟩)|(go_at_call 96;refine(e8.o _).mono ?_;rintro e w' ⟨rfl,rfl⟩)|(go_at_call 273;refine(c4.o _).mono ?_;rintro e h ⟨j2,rfl,⟨g4,b8,b9⟩,f5⟩;obtain⟨Z,i6,rfl,j1,g2⟩:=cT ⟨g4,b8,b9⟩ (n:=D) c5.o f9));have f0:=aa (λ(i:Nat) (hi:i<D)=>show∃F O L,h.cell? ⟨Z,i,none⟩=some (.slice F k O)/\aO h F k (eO L)/\L.length=k/\(∀x∈L,x<n)/\c6[i]? =some L from by
  obtain⟨L,c9,d0,f1,h6⟩:=b7.o i hi;obtain⟨x,g3⟩:=aE (l:=g4) (n:=i) (by rw[b9.len,c5.o];exact hi);have g0:=b9.own i x (sf L) g3 d0;rw[pT,f1,nF] at g0;obtain⟨F,O,rfl,i3⟩:=aS g0 (by omega);rw[c5.o] at b8;exact⟨F,O,L,(b8.cellAt i (by omega)).trans g3,i3,f1,h6,c9⟩)
 have b5:=aa f5;clear b8 b9 f5 c4 e5 e8 b7;go_loopw[5,7] (λg i wr=>∃p:Nat,p<=D/\i= Ud p/\g= Ud (G p:Nat)/\bv (Below h.1.size h wr)) (λ_ i _=>D-(intOf i).toNat);exact⟨0,by omega,rfl,by rw[e1.o];rfl,aa aZ⟩;obtain⟨p,i8,rfl,rfl,a2⟩:=hrel;by_cases d6:p<D
 ·have j0:(p:Int)<(D:Int):=by omega
  obtain⟨F,O,R,b1,b4,Q,U,a9⟩:=f0.o p d6;have h4:=aa (show h.cell? ⟨Z,p,none⟩=some (.slice F k O)/\aO h F k (eO R)/\R.length=k/\(∀x∈R,x<n)/\c6[p]? =some R from⟨b1,b4,Q,U,a9⟩);have e7:=aa (λj (I:j<=D)=>g9.o p j d6 I);have e3:=aa (e2.o p);have e4:=aa (g8.o (a6 p) (G p));have e6:=aa (λj=>h0.o (a6 p) (G p) j);obtain⟨c7,f4⟩:=aB (qb (a6 p) (G p));rw[<-f4] at e7 e3 e4 e6;clear b1 b4 Q U a9 f4;go_wp2;go_loopw[5,8] (λg i wr=>∃j:Nat,j<=D/\i= Ud j/\g= Ud (c7 j:Nat)/\bv (Below h.1.size h wr)) (λ_ i _=>D-(intOf i).toNat);exact⟨0,by omega,rfl,by rw[e4.o],a2⟩;clear a2;obtain⟨j,I,rfl,rfl,a2⟩:=hrel;by_cases f8:j<D
  ·have i7:(j:Int)<(D:Int):=by omega
   obtain⟨a3,a7,C,f6,g1,a0,a1,f2⟩:=f0.o j f8;obtain⟨b1,b4,Q,U,a9⟩:=h4.o;have d8:=b6.o p j d6 f8;have d4:=e7.o j I;have c3:=aa (e6.o j);have d7:=c2.o p j R C a9 f2;obtain⟨d,f7⟩:=aB (a6 p j);rw[<-f7] at d7 d8 c3;have h3:=aa (λ(V:World) (Y:Below h.1.size h V)=>h2.o F a3 O a7 R C V (b5.o.trans (Y.mono b5.o.size)) (b4.below Y aQ) U Q (g1.below Y aQ) a1 a0);have g6:=aa (λ(E:Option Addr) (J:Nat) (V:World) (d9:gU V E k (dn t R C))=>show Calls prog 215 #[.slice E k J] V λe w'=>e= .returned (Ud d)/\Below V.1.size V w' from by rw[d7];exact g7.o E J R C V U Q a1 a0 d9);obtain⟨g,b2⟩:=aB (c7 j);rw[<-b2] at d4 c3;rw[<-b2];have h1:=aa (λ(V:World)=>show Calls prog 129 #[Ud (g:Int),Ud d] V λe w'=>e= .returned (Ud (c7 (j+1):Nat))/\V=w' from by rw[c3.o];exact FT (g:Int) d V (Ek d4) d8);have c1:=aa (λ(V:World) (Y:Below h.1.size h V)=>show V.cell? ⟨Z,p,none⟩=some (.slice F k O)/\V.cell? ⟨Z,j,none⟩=some (.slice a3 k a7)/\Below h.1.size h V from⟨(Y.cell (p:=⟨Z,p,none⟩) g2).trans b1,(Y.cell (p:=⟨Z,j,none⟩) g2).trans f6,Y⟩);obtain⟨i4,i5,W⟩:=c1.o _ (a2.o.drew);clear d7 d8 d4 f7 b2 b1 b4 Q U a9 f6 g1 a0 a1 f2;go_wp2;go_region_held3(λV=>V.cell? ⟨Z,p,none⟩=some (.slice F k O)/\V.cell? ⟨Z,j,none⟩=some (.slice a3 k a7)/\Below h.1.size h V)
    (first|with_reducible exact c1.o _ W)
    (first|(go_at_call 274;refine(h3.o _ W).mono ?_;rintro e j3 ⟨E,J,rfl,e0,h7⟩;have W:=W.trans (h7.mono W.size))|(go_at_call 215;refine(g6.o E J _ e0).mono ?_;rintro e j4 ⟨rfl,h8⟩;have W:=W.trans (h8.mono W.size))|(go_at_call 129;refine(h1.o _).mono ?_;rintro e j5 ⟨rfl,rfl⟩))
   have g5:=aa W;clear W i4 i5 c1;go_wp2;go_roundw;exact⟨j+1,by omega,by go_num,rfl,g5⟩;simp[intOf];omega
  ·obtain rfl:j=D:=by omega
   go_wp2;go_roundw;exact⟨p+1,by omega,by go_num,by rw[e3.o],a2⟩;simp[intOf];omega
 ·obtain rfl:p=D:=by omega
  go_wp2;go_ret;exact⟨by rw[e9.o];rfl,b5.o.trans (a2.o.mono b5.o.size)⟩
theorem vt(a)(n c)(t)(w)(h:bZ w a n t)(a0:cS t n n)(b0:1<=n/\n<=4)(a1:Bd 100 t):
 Calls prog 217 #[.slice a n c] w λe w'=>∃g b6,e= .returned (.tuple #[.slice (some ⟨g,0,none⟩) n b6,.bool true])/\n<=b6/\bv (w'.ownsRow w.1.size 3 1 (.slice (some ⟨g,0,none⟩) n b6) n (af (Cf t n n)))/\Below w.1.size w w':=by
 have e1:=aa (rI a n c t w h a0 b0 a1);have c9:=aa (λ(k:Nat) (J:k<=n) (V:World) (e2:Below w.1.size w V)=>yD a n c k t V (h.below e2 aQ) a0 b0 a1 J);have c8:=aa (λ(k:Nat) (J:k<=n)=>vO b0.2 J a0 a1);have c5:=aa (λ(k:Nat) (J:k<=n)=>EQ b0.2 a0 a1 k J);have c6:=aa (λ(k:Nat)=>ER t n k);have a9:=aa (λ(k:Nat) (h:pO t n (k+1)=0)=>KQ h);have a8:=aa (λ(k:Nat) (h:¬pO t n (k+1)=0)=>KR h);have d1:=aa (λK=>Hs t n K);have c3:=aa (show Ht t n 0=1 from rfl);obtain⟨e0,d3⟩:=aB (pO t n);rw[<-d3] at c9 c8 a9 a8;obtain⟨B,d2⟩:=aB (Ht t n);rw[<-d2] at c5 c6 a9 a8 c3;obtain⟨f3,d4⟩:=aB (QF t n);rw[<-d4] at a9 a8 d1;have E:=aa (show(w.alloc (.cells #[] 3)).ownsRow w.1.size 3 1 (.slice (some ⟨w.1.size,0,none⟩) 0 0) 0 (af (Cf t n 0)) from bd (w:=w) (base:=w.1.size) (e:=3) #[] [] rfl aQ (by unfold maxLen;simp));have c4:=aa (show Below w.1.size w (w.alloc (.cells #[] 3)) from aZ.alloc aQ _);clear h a0 a1 d3 d2 d4;go_enter func217,ntmps217;go_wp2_with(go_at_call 252;refine e1.o.mono ?_;rintro e w' ⟨rfl,rfl⟩);go_loopw[4,5,6] (λv b i wr=>∃(k I Y:Nat) (e:Int),k<=n/\bv (e=(k:Int)+1)/\i= Ud e/\b= Ud (B k:Nat)/\v= .slice (some ⟨I,0,none⟩) k Y/\bv (wr.ownsRow w.1.size 3 1 (.slice (some ⟨I,0,none⟩) k Y) k (af (Cf t n k)))/\bv (Below w.1.size w wr)) (λ_ _ i _=>n+1-(intOf i).toNat);exact⟨0,w.1.size,0,1,by omega,aa rfl,rfl,by rw[c3.o];rfl,rfl,E,c4⟩;clear E c4;obtain⟨k,I,Y,e,J,c7,rfl,rfl,rfl,E,Z⟩:=hrel;by_cases g3:k<n
 ·obtain⟨q,c0⟩:=aB (k+1);have e7:e=(q:Int):=by rw[c7.o];omega
  have d8:q<=n:=(by omega);have d0:=aa (show(q:Int)+1=((k+1:Nat):Int)+1 by omega);subst e7;have g4:(q:Int)<=(n:Int):=(by omega);have g7:IntKind.i64.wrap ((q:Int)+1)=(q:Int)+1:=au _ (by omega);have b2:=aa (c9.o q d8 wr Z.o);have e9:=c8.o q d8;have e3:=c5.o k J;have e4:=c6.o k;have W:=aa (λh=>a9.o k h);have U:=aa (λh=>a8.o k h);have Q:=aa (d1.o k);rw[<-c0] at W U Q;have O:=aa c0;have d7:=(E.o.lt I rfl).1;have d9:=Z.o.size;obtain⟨d,d5⟩:=aB (e0 q);rw[<-d5] at b2 e9 W U;obtain⟨F,b8⟩:=aB (B k);rw[<-b8] at e3 e4 W U;rw[<-b8];clear d5 b8 c0;by_cases b9:d=0
  ·obtain⟨a6,a7⟩:=W.o b9;have b4:=aa a6;rw[a7] at Q;subst b9;clear a6 a7 W U;go_wp2_with(first|(go_at_call 253;refine b2.o.mono ?_;rintro e c2 ⟨rfl,D⟩;have a3:=ai E.o D;have f1:=D.size)|(at_builtin;go_must(refine aX rfl _ _ 37 rfl w.1.size 3 (Ud 0) 8 underlying37 bK rfl I Y k (af (Cf t n k)) (a3.alloc _) rfl c2.1.size 0 1 1 [Ud 0] rfl rfl (cz rfl) (by intro u a5;simp at a5;subst a5;rfl) (by omega) (by unfold maxLen;omega) (by simp;omega) ?_);intro b7 b5 f2 a4 a2 f0 e8));have b3:=aa a4;have b1:=aa (((Z.o.trans (D.mono d9)).alloc (by omega) (.cells #[Ud 0] 3)).grown a2 (by simp;omega) (by rintro k ⟨⟩;exact d7));clear a4 a2 a3 D;go_roundw;exact⟨k+1,b7,b5,(q:Int)+1,by omega,d0,by go_num,by rw[<-O.o,b4.o],rfl,aa (by rw[<-O.o,Q.o,O.o];exact b3.o),b1⟩;simp[intOf];omega
  ·obtain⟨a6,a7⟩:=U.o b9;have b4:=aa a6;rw[a7] at Q;have e6:=ei d F;obtain⟨r,c1⟩:=aB (d/F);have g6:Int.tdiv (d:Int) (F:Int)=(r:Int):=by rw[c1];rfl
   rw[<-c1] at Q e6;have g8:IntKind.i64.wrap (r:Int)=(r:Int):=au _ (by omega);have g0:((d:Int)==0)=false:=by simp;omega
   have f5:((F:Int)==0)=false:=by simp;omega
   have f6:((F:Int) !=0)=true:=by simp;omega
   have f7:¬((F:Int)=0):=(by omega);have f8:¬(F=0):=(by omega);have f9:¬((F:Int)= -1):=(by omega);clear a6 a7 W U c1;go_wp2_with(first|(go_at_call 253;refine b2.o.mono ?_;rintro e c2 ⟨rfl,D⟩;have a3:=ai E.o D;have f1:=D.size)|(at_builtin;go_must(refine aX rfl _ _ 37 rfl w.1.size 3 (Ud 0) 8 underlying37 bK rfl I Y k (af (Cf t n k)) (a3.alloc _) rfl c2.1.size 0 1 1 [Ud (r:Int)] rfl rfl (cz rfl) (by intro u a5;simp at a5;subst a5;rfl) (by omega) (by unfold maxLen;omega) (by simp;omega) ?_);intro b7 b5 f2 a4 a2 f0 e8));have b3:=aa a4;have b1:=aa (((Z.o.trans (D.mono d9)).alloc (by omega) (.cells #[Ud (r:Int)] 3)).grown a2 (by simp;omega) (by rintro k ⟨⟩;exact d7));clear a4 a2 a3 D;go_roundw;exact⟨k+1,b7,b5,(q:Int)+1,by omega,d0,by go_num,by rw[<-O.o,b4.o],rfl,aa (by rw[<-O.o,Q.o,O.o];exact b3.o),b1⟩;simp[intOf];omega
 ·have g1:(n:Int)<e:=by rw[c7.o];omega
  have g2:¬(e<=(n:Int)):=(by omega);obtain rfl:k=n:=(by omega);obtain⟨f4,cr,d6,e5,g5⟩:=nR E.o (by omega);simp only[aJ] at d6;obtain⟨-,-,rfl⟩:=d6;go_wp2;go_ret2;exact⟨I,Y,rfl,e5,E,Z.o⟩
def pL(xs:List Int)(j:Nat):List Int:=(xs.take j).filter λx=> !(x==1)
theorem zd{xs}{j}{x}(h:xs[j]? =some x)(D:¬x=1):pL xs (j+1)=pL xs j++[x]:=by
 unfold pL;rw[bg,h,bE];simp[D]
theorem Ai{xs}{j}(h:xs[j]? =some 1):pL xs (j+1)=pL xs j:=by
 unfold pL;rw[bg,h,bE];simp
theorem Jg(xs)(j):(pL xs j).length<=j:=by
 have:=bz (λx:Int=> !(x==1)) (xs.take j);rw[cY] at this;unfold pL;omega
def mM(M:List (List Int))(n:Nat):List Int:=pL (Cf (fi M n 1 1) n n) n
theorem EN(M)(n):(mM M n).length<=n:=Jg _ _
theorem RQ{t}{n}(I:n<=4)(D:cS t n n)(E:Bd 100 t):∀x∈Cf t n n,0<=x/\x<=1000000000000:=by
 intro x h;unfold Cf at h;obtain⟨k,F,rfl⟩:=bi.1 h;have:=RP I D E (aD.1 F);omega
theorem AQ{M}{n}(E:n<=4)(D:∀i j,i<n->j<n->0<=cB M i j/\cB M i j<=9):∀x∈mM M n,0<=x/\x<=1000000000000:=by
 intro x h;unfold mM pL at h;exact RQ E (df n n _) (sb D) x (dh (bY.1 h).1)
theorem zN(a)(n c)(M)(w)(h:bZ w a n M)(O:kX M=true):
 Calls prog 134 #[.slice a n c] w λe w'=>∃a' c',e= .returned (.slice a' (mM M n).length c')/\aO w' a' (mM M n).length (af (mM M n))/\Below w.1.size w w':=by
 obtain⟨_,d9,d4,b5⟩:=fL O (dp h).1;have a2:Below w.1.size w (w.alloc (.cells #[] 3)):=aZ.alloc aQ _;have a8:=aa (fu a n c M _ (h.below a2 aQ));rw[O] at a8;have b2:=aa (qT a n c M _ (h.below a2 aQ) d4 d9 b5);have c8:=aa (df n n (kO M 1 1));have a6:=aa (λ(b3:Option Addr) (d1:Nat) (V:World) (f7:bZ V b3 n (fi M n 1 1))=>vt b3 n d1 (fi M n 1 1) V f7 c8.o d9 (sb b5));have a0:=aa (show mM M n=pL (Cf (fi M n 1 1) n n) n from rfl);have c9:=aa (RR (fi M n 1 1) n n);unfold cK at b2;obtain⟨xs,e4⟩:=aB (Cf (fi M n 1 1) n n);rw[<-e4] at a6 a0 c9;obtain⟨G,b4⟩:=aB (mM M n);rw[<-b4] at a0;rw[<-b4];have d0:=aa (λ(j:Nat) (x:Int) (h:xs[j]? =some x) (I:¬x=1)=>zd h I);have c7:=aa (λ(j:Nat) (h:xs[j]? =some 1)=>Ai h);have c6:=aa (λj=>Jg xs j);have a1:=aa (show pL xs 0=[] by simp[pL]);obtain⟨K,d3⟩:=aB (pL xs);rw[<-d3] at a0 d0 c7 c6 a1;have E:=aa (show(w.alloc (.cells #[] 3)).ownsRow w.1.size 3 1 (.slice (some ⟨w.1.size,0,none⟩) 0 0) 0 (af (K 0)) from by rw[a1.o];exact bd (w:=w) (base:=w.1.size) (e:=3) #[] [] rfl aQ (by unfold maxLen;simp));have c3:=aa a2;clear h O d4 b5 e4 b4 d3 a2;go_enter func134,ntmps134;go_wp2_with fail;refine a8.o.mono ?_;rintro e w' ⟨rfl,rfl⟩;go_wp2_with(first|(go_at_call 218;refine b2.o.mono ?_;rintro e g0 ⟨h4,rfl,d7,a3⟩;obtain⟨b3,d1,rfl,_,f8⟩:=fH d7 c8.o (by omega);have d8:=f8.tab)|(go_at_call 217;refine(a6.o _ _ _ d8).mono ?_;rintro e c2 ⟨D,g2,rfl,g7,b9,b6⟩));have J:=aa (show aO c2 (some ⟨D,0,none⟩) n (af xs) from by
  obtain⟨f0,cr,W,c0⟩:=aS b9.o (by omega);simp only[aJ] at W;obtain⟨rfl,-,-⟩:=W;exact c0)
 have b7:=a3.trans (b6.mono a3.size);have b1:=aa (ai E.o b7);have c4:=aa (c3.o.trans (b7.mono (by simp)));obtain⟨S,O⟩:=aB g0.1.size;have g5:S<=c2.1.size:=by rw[O];exact b6.size
 have f3:S<=D/\D<c2.1.size:=by have:=b9.o.lt D rfl;omega
 have h2:w.1.size+1<=S:=by have:=a3.size;simp at this;omega
 clear E c3 b2 a6 a8 d7 d8 b9 a3 b6 b7 O;go_loopw[3,6] (λv i wr=>∃(j F U:Nat),j<=n/\i= Ud j/\v= .slice (some ⟨F,0,none⟩) (K j).length U/\bv (wr.ownsRow w.1.size 3 1 (.slice (some ⟨F,0,none⟩) (K j).length U) (K j).length (af (K j)))/\bv (Below w.1.size w wr)/\bv (aO wr (some ⟨D,0,none⟩) n (af xs))/\bv (D≠F)/\bv (D<wr.1.size)) (λ_ i _=>n-(intOf i).toNat);exact⟨0,w.1.size,0,by omega,rfl,by rw[a1.o];rfl,by rw[a1.o] at b1⊢;exact b1,c4,J,aa (by omega),aa f3.2⟩;clear b1 c4 J;obtain⟨j,F,U,g8,rfl,rfl,E,Z,J,b0,a7⟩:=hrel;have f6:=c6.o j;obtain⟨m,a5⟩:=aB ((K j).length);have a9:=aa a5;rw[<-a5] at E f6;rw[<-a5];clear a5;by_cases f5:j<n
 ·have g9:(j:Int)<(n:Int):=by omega
  obtain⟨x,I⟩:=aE (l:=xs) (n:=j) (by rw[c9.o];exact f5);obtain⟨b,f9,d5,g6,b8⟩:=J.o.at_ (by omega);simp only[aI,cA] at d5;obtain⟨rfl,rfl,-⟩:=d5;have d6:=b8 j _ (aP I);rw[aW] at d6;have f4:=(E.o.lt F rfl);have h1:=Z.o.size;by_cases c1:x=1
  ·subst c1;have Q:=aa (c7.o j I);have Y:m=(K (j+1)).length:=by rw[Q.o];exact a9.o
   clear I b8;go_wp2;go_roundw;exact⟨j+1,F,U,by omega,by go_num,by rw[Y],aa (by rw[<-Y,Q.o];exact E.o),Z,J,b0,a7⟩;simp[intOf];omega
  ·have Q:=aa (d0.o j x I c1);have h3:(x !=1)=true:=by simp[c1]
   have Y:(K (j+1)).length=m+1:=by rw[Q.o,az,<-a9.o];rfl
   have e6:=aa (show af (K (j+1))=af (K j)++[Ud x] by rw[Q.o];simp[af]);clear I;go_wp2_with(first|(at_builtin;go_must(refine aX rfl _ _ 37 rfl w.1.size 3 (Ud 0) 8 underlying37 bK rfl F U m (af (K j)) (E.o.alloc _) rfl wr.1.size 0 1 1 [Ud x] rfl rfl (cz rfl) (by intro u e3;simp at e3;subst e3;rfl) (by omega) (by unfold maxLen;omega) (by simp;omega) ?_);intro d2 f1 g1 e2 a4 e0 h0));have e8:=aa e2;have c5:=aa ((Z.o.alloc (by omega) (.cells #[Ud x] 3)).grown a4 (by simp;omega) (by rintro k ⟨⟩;exact f4.1));have e9:=aa ((J.o.below ((aV wr.1.size wr).alloc aQ (.cells #[Ud x] 3)) aQ).grown a4 (λb f9 e=>by injection e with e;injection e with e1;have:=b0.o;omega));have e7:=aa (show D≠d2 from by
    have g3:=b0.o;have g4:=a7.o;simp at e0;omega)
   have e5:=aa (show D<g1.1.size from by have:=a7.o;have:=c5.o.size;have f2:=a4.size;simp at f2;omega);clear e2 a4 e0 d6 b8;go_roundw;exact⟨j+1,d2,f1,by omega,by go_num,by rw[Y],aa (by rw[Y,e6.o];exact e8.o),c5,e9,e7,e5⟩;simp[intOf];omega
 ·obtain rfl:j=n:=by omega
  obtain⟨f0,cr,W,c0⟩:=aS E.o (by omega);simp only[aJ] at W;obtain⟨rfl,-,rfl⟩:=W;go_wp2;go_ret;rw[a0.o,<-a9.o];exact⟨_,_,rfl,c0,Z.o⟩
theorem sn(n k:Nat)(w)(f8:n<=4)(g9:k<=9):
 Calls prog 203 #[Ud n,Ud k] w (cK (iX n k (2^n)) w):=by
 have g0:=Eq n f8;have e0:=aa (λ(i:Nat) (hi:i<4) (s:Nat) (g1:s<16)=>Bm i hi s g1);have e3:=aa (λ(s j:Nat) (h:s/2^j%2=1)=>Bn h);have e2:=aa (λ(s j:Nat) (h:¬s/2^j%2=1)=>EV h);have e1:=aa (λ(s j:Nat)=>EW s j);have d3:=aa (λ(m:Nat) (h:(eJ m n).length=k)=>CI h);have d2:=aa (λ(m:Nat) (h:¬(eJ m n).length=k)=>FW h);have d1:=aa (λm=>FX n k m);have b9:=aa (show iX n k 0=[] from rfl);have h5:IntKind.i64.wrap ((2:Int)^n)=(2:Int)^n:=by
  have:n=0\/n=1\/n=2\/n=3\/n=4:=(by omega);rcases this with rfl|rfl|rfl|rfl|rfl<;>decide
 have h7:IntKind.u64.wrap (n:Int)=(n:Int):=dS _ (by omega);obtain⟨N,b1⟩:=aB (2^n);have g6:(2:Int)^n=(N:Int):=by rw[b1];norm_cast
 rw[<-b1] at g0;rw[<-b1];obtain⟨G,c2⟩:=aB (iX n k);rw[<-c2] at d3 d2 d1 b9;rw[<-c2];have d0:=aa (show(w.alloc (.cells #[] 37)).ownsRow w.1.size 37 1 (.slice (some ⟨w.1.size,0,none⟩) 0 0) 0 [] from bd #[] _ rfl aQ (by unfold maxLen;simp));have d4:=aa (show bS 3 (w.alloc (.cells #[] 37)) w.1.size [] (G 0) from by rw[b9.o];exact bS.nil _ _ _);have c4:=aa (show Below w.1.size w (w.alloc (.cells #[] 37)) from aZ.alloc aQ _);have c7:=aa (show(G 0).length=0 by rw[b9.o];rfl);clear b1 c2;go_enter func203,ntmps203;go_wp2;go_loopw[5,12] (λv i wr=>∃(p go Y:Nat) (a2:List Value),p<=N/\i= Ud p/\v= .slice (some ⟨go,0,none⟩) (G p).length Y/\bv (wr.ownsRow w.1.size 37 1 (.slice (some ⟨go,0,none⟩) (G p).length Y) (G p).length a2)/\bv (bS 3 wr w.1.size a2 (G p))/\bv (Below w.1.size w wr)) (λ_ i _=>N-(intOf i).toNat);exact⟨0,w.1.size,0,[],by omega,rfl,by rw[c7.o],by rw[c7.o];exact d0,d4,c4⟩;clear d0 d4 c4;obtain⟨p,go,Y,a2,h3,rfl,rfl,b7,b8,b4⟩:=hrel;obtain⟨D,g4⟩:=aB wr;subst g4;have f6:=d1.o p;obtain⟨a6,a9⟩:=aB ((G p).length);have b5:=aa a9;rw[<-a9] at b7 f6;rw[<-a9];clear a9;by_cases h1:p<N
 ·have h4:(p:Int)<(N:Int):=by omega
  have d9:=b4.o.size;have E:=aa (show(D.alloc (.cells #[] 3)).ownsRow D.1.size 3 1 (.slice (some ⟨D.1.size,0,none⟩) 0 0) 0 (eO (eJ p 0)) from bd (w:=D) (base:=D.1.size) (e:=3) #[] [] rfl aQ (by unfold maxLen;simp));have c5:=aa (show Below D.1.size D (D.alloc (.cells #[] 3)) from aZ.alloc aQ _);have f0:=aa (λh=>d3.o p h);have e9:=aa (λh=>d2.o p h);obtain⟨S,f1⟩:=aB D.1.size;have Q:=aa f1;go_wp2;go_loopw[7,17] (λv i wr=>∃(j F J:Nat),j<=n/\i= Ud j/\v= .slice (some ⟨F,0,none⟩) (eJ p j).length J/\bv (wr.ownsRow S 3 1 (.slice (some ⟨F,0,none⟩) (eJ p j).length J) (eJ p j).length (eO (eJ p j)))/\bv (Below S D wr)) (λ_ i _=>n-(intOf i).toNat);exact⟨0,S,0,by omega,rfl,by rw[Q.o];rfl,by rw[Q.o];exact E,by rw[Q.o];exact c5⟩;clear E c5;obtain⟨j,F,J,g7,rfl,rfl,E,a7⟩:=hrel;have d8:=e1.o p j;have g2:=a7.o.size;have g3:S<=wr.1.size:=by rw[Q.o];exact g2
  obtain⟨L,b0⟩:=aB (eJ p j);have O:=aa b0;rw[<-b0] at E d8;rw[<-b0];obtain⟨m,b2⟩:=aB L.length;have W:=aa b2;rw[<-b2] at E d8;rw[<-b2];clear b0 b2;by_cases h0:j<n
  ·have g8:(j:Int)<(n:Int):=by omega
   have h6:IntKind.u64.wrap (j:Int)=(j:Int):=dS _ (by omega);have f2:=e0.o j (by omega) p (by omega);have c9:=aa (λh=>e3.o p j h);have c8:=aa (λh=>e2.o p j h);obtain⟨d5,d6⟩:=aB (p/2^j%2);rw[<-d6] at f2 c9 c8;have f3:d5=0\/d5=1:=(by omega);clear d6;rcases f3 with rfl|rfl
   ·have a3:=aa (c8.o (by decide));have e8:=aa (show wr.ownsRow S 3 1 (.slice (some ⟨F,0,none⟩) (eJ p (j+1)).length J) (eJ p (j+1)).length (eO (eJ p (j+1))) from by rw[a3.o,<-O.o,<-W.o];exact E.o);have I:m=(eJ p (j+1)).length:=by rw[a3.o,<-O.o,<-W.o]
    go_wp2;go_roundw;exact⟨j+1,F,J,by omega,by go_num,by rw[I],e8,a7⟩;simp[intOf];omega
   ·have a3:=aa (c9.o rfl);have f5:=(E.o.lt F rfl).1;go_wp2_with(first|(at_builtin;go_must(refine aX rfl _ _ 37 rfl S 3 (Ud 0) 8 underlying37 bK rfl F J m (eO L) (E.o.alloc _) rfl wr.1.size 0 1 1 [Ud j] rfl rfl (cz rfl) (by intro u a5;simp at a5;subst a5;rfl) (by omega) (by unfold maxLen;omega) (by simp;omega) ?_);intro c1 c0 g5 a4 a0 f9 f7));have b6:=aa a4;have b3:=aa ((a7.o.alloc g3 (.cells #[Ud j] 3)).grown a0 (by simp;omega) (by rintro k ⟨⟩;exact f5));have I:(eJ p (j+1)).length=m+1:=by rw[a3.o,<-O.o,az,<-W.o];rfl
    have e5:=aa (show eO (eJ p (j+1))=eO L++[Ud (j:Int)] by rw[a3.o,<-O.o];simp[eO,af]);clear a4 a0;go_roundw;exact⟨j+1,c1,c0,by omega,by go_num,by rw[I],aa (by rw[I,e5.o];exact b6.o),b3⟩;simp[intOf];omega
  ·obtain rfl:j=n:=by omega
   have Z:Below D.1.size D wr:=by rw[<-Q.o];exact a7.o
   have f4:D.1.size<=F:=by rw[<-Q.o];exact(E.o.lt F rfl).1
   have a1:=ai b7.o Z;have c6:=aa (b4.o.trans (Z.mono d9));by_cases c3:m=k
   ·have U:=aa (f0.o (by rw[<-O.o,<-W.o];exact c3));rw[<-O.o] at U;have d7:(sf L).length=m:=by rw[pT];exact W.o.symm
    have a8:=aa (b8.o.moreAt (r:=sf L) (c:=J) (eU Z) f4 (by rw[d7,nF];exact aT E.o (by rw[Q.o];exact d9)));rw[d7] at a8;have I:(G (p+1)).length=a6+1:=by rw[U.o,az,<-b5.o];rfl
    subst c3;go_wp2_with(first|(at_builtin;go_must(refine aX rfl _ _ 24 rfl w.1.size 37 (.slice none 0 0) 24 underlying24 eS rfl go Y a6 a2 (a1.alloc _) rfl wr.1.size 0 1 1 [.slice (some ⟨F,0,none⟩) m J] rfl rfl (cz rfl) (by intro u a5;simp at a5;subst a5;rfl) (by omega) (by unfold maxLen;omega) (by simp;omega) ?_);intro c1 c0 g5 a4 a0 f9 f7));have e7:=aa ((a8.o.below (aZ.alloc aQ _)).kept (a1.alloc _) (by decide) a0);have b6:=aa a4;have b3:=aa ((c6.o.alloc (by omega) _).grown a0 (by simp;omega) (by rintro k ⟨⟩;exact(a1.lt go rfl).1));clear a4 a0 a1 Z;go_roundw;exact⟨p+1,c1,c0,_,by omega,by go_num,by rw[I],aa (by rw[I];exact b6.o),aa (by rw[U.o];exact e7.o),b3⟩;simp[intOf];omega
   ·have U:=aa (e9.o (by rw[<-O.o,<-W.o];exact c3));have h2:((m:Int)==(k:Int))=false:=by simp;omega
    have e6:=aa a1;have a8:=aa (b8.o.below Z);have I:a6=(G (p+1)).length:=by rw[U.o,<-b5.o]
    clear a1 Z;go_wp2;go_roundw;exact⟨p+1,go,Y,a2,by omega,by go_num,by rw[I],aa (by rw[<-I];exact e6.o),aa (by rw[U.o];exact a8.o),c6⟩;simp[intOf];omega
 ·obtain rfl:p=N:=by omega
  have e4:=aa (show ct 37 3 D w.1.size (.slice (some ⟨go,0,none⟩) a6 Y) (G p) from⟨a2,by rw[<-b5.o];exact b7.o,b8.o⟩);go_wp2;go_ret;exact⟨_,rfl,e4.o,b4.o⟩
theorem Ca(a)(n c k)(t)(w)(j9:bZ w a n t)(c6:cS t n n)(d9:1<=n/\n<=4)(b4:Bd 100 t)(g7:k<=n):
 Calls prog 250 #[.slice a n c,Ud k] w λe w'=>e= .returned (Ud (pO t n k:Nat))/\Below w.1.size w w':=by
 have f2:=aa (λ(V:World)=>sn n k V d9.2 (by omega));have o4:=aa (λ(i:Nat) (hi:i<n)=>fQ j9 c6 hi);have m5:=aa (λ(a9:Option Addr) (b9:Nat) (R C:List Nat) (V:World) (a2:∀i∈R,i<n) (I:R.length=k) (c4:∀i∈C,i<n) (O:C.length=k) (e3:gU V a9 k (dn t R C))=>gH 100 (by omega) (by omega) k (by omega) (dn t R C) a9 b9 V e3 (by have:=fc t R C;rw[I,O] at this;exact this) (lU c6 b4 a2 c4));have e7:=aa (λ(i:Nat) (hi:i<=(dY n k (2^n)).length)=>we d9.2 g7 c6 b4 i hi);have d4:=aa (λ(i j:Nat) (hi:i<(dY n k (2^n)).length) (J:j<(dY n k (2^n)).length)=>Ev d9.2 g7 c6 b4 hi J);have h0:=zP n (by omega) k (by omega) g7;have q1:=rP n k (2^n);have s9:=Eq n d9.2;have d5:=aa (λ(i:Nat) (hi:i<(dY n k (2^n)).length)=>show∃L,(dY n k (2^n))[i]? =some L/\(iX n k (2^n))[i]? =some (sf L)/\L.length=k/\(∀x∈L,x<n) from by
  obtain⟨L,g1⟩:=aE hi;obtain⟨c1,c2⟩:=nw (aj g1);exact⟨L,g1,wX g1,c1,c2⟩)
 have e8:=aa (λ(i j:Nat) (R C:List Nat) (hi:(dY n k (2^n))[i]? =some R) (J:(dY n k (2^n))[j]? =some C)=>Ji (t:=t) hi J);obtain⟨b6,g0⟩:=aB (Tl t n k);obtain⟨d6,b3⟩:=aB (dY n k (2^n));obtain⟨p0,g2⟩:=aB (iX n k (2^n));obtain⟨D,c5⟩:=aB d6.length;have b1:=aa (show p0.length=D by rw[g2,wW,c5,b3]);have h4:=aa (show xF t n k 0=0 from rfl);have h5:=aa (λi=>show xF t n k (i+1)=qb (b6 i) (xF t n k i) D from by rw[g0,c5,b3];rfl);have i4:=aa (show pO t n k=xF t n k D from by rw[c5,b3];rfl);rw[<-b3,<-c5] at e7 d4 h0 q1 d5;rw[<-b3] at e8;rw[<-g0] at d4 e8;rw[<-g2] at d5 f2;obtain⟨G,k1⟩:=aB (xF t n k);rw[<-k1] at h4 h5 i4 e7;have m7:=aa (λ(f:Nat->Int) (g:Nat)=>show qb f g 0=g from rfl);have m9:=aa (λ(f:Nat->Int) (g j:Nat)=>show qb f g (j+1)=Int.gcd ((qb f g j:Nat):Int) (f j) from rfl);have m8:=aa (λ(i j:Nat) (hi:i<D) (J:j<=D)=>tC (e7.o i (by omega)) (λj J=>d4.o i j hi J) j J);have o7:=aa (λ(R C:List Nat) (O:C.length=k) (i x:Nat) (h:R[i]? =some x)=>show iv t R C (i+1)=iv t R C i++[nP t C x k] from by rw[<-O];exact oG h);have o5:=aa (λ(R C:List Nat) (I:R.length=k) (i:Nat) (hi:i<=k)=>qB (t:=t) (R:=R) (C:=C) (i:=i) (by omega));have n3:=aa (λ(C:List Nat) (x j y:Nat) (a5:C[j]? =some y)=>qz (t:=t) (i:=x) a5);have n2:=aa (λ(C:List Nat) (O:C.length=k) (x j:Nat) (J:j<=k)=>sZ (t:=t) (C:=C) (i:=x) (j:=j) (by omega));have n4:=aa (λ(C:List Nat) x=>qy t C x);have o8:=aa (λ(R C:List Nat)=>oF t R C);have m6:=aa (λ(R C:List Nat) (I:R.length=k) (O:C.length=k)=>show iv t R C k=dn t R C/\cS (dn t R C) k k from⟨by rw[<-I];exact qC t R C,by have:=fc t R C;rw[I,O] at this;exact this⟩)
 have s7:k<=4:=(by omega);clear j9 c6 b4 g0 b3 g2 c5 k1;go_enter func250,ntmps250;go_wp2_with(go_at_call 203;refine(f2.o _).mono ?_;rintro e d0 ⟨u5,rfl,⟨l9,e0,e1⟩,k6⟩;obtain⟨j7,s3,rfl,t4,q5⟩:=cT ⟨l9,e0,e1⟩ (n:=D) b1.o h0);have n8:=aa (λ(i:Nat) (hi:i<D)=>show∃Q a0 L,d0.cell? ⟨j7,i,none⟩=some (.slice Q k a0)/\aO d0 Q k (eO L)/\L.length=k/\(∀x∈L,x<n)/\d6[i]? =some L from by
  obtain⟨L,c1,c2,c3,f7⟩:=d5.o i hi;obtain⟨x,h⟩:=aE (l:=l9) (n:=i) (by rw[e1.len,b1.o];exact hi);have Y:=e1.own i x (sf L) h c2;rw[pT,c3,nF] at Y;obtain⟨Q,a0,rfl,h1⟩:=aS Y (by omega);rw[b1.o] at e0;exact⟨Q,a0,L,(e0.cellAt i (by omega)).trans h,h1,c3,f7,c1⟩)
 have d1:=aa k6;clear e0 e1 k6;go_loopw[5,21] (λg i wr=>∃p:Nat,p<=D/\i= Ud p/\g= Ud (G p:Nat)/\bv (Below d0.1.size d0 wr)) (λ_ i _=>D-(intOf i).toNat);exact⟨0,by omega,rfl,by rw[h4.o];rfl,aa aZ⟩;obtain⟨p,s8,rfl,rfl,d2⟩:=hrel;obtain⟨u9,r0⟩:=aB wr;subst r0;by_cases g8:p<D
 ·have t0:(p:Int)<(D:Int):=by omega
  obtain⟨Q,a0,R,l1,b0,I,a2,c7⟩:=n8.o p g8;have o9:=aa (show aO d0 Q k (eO R)/\R.length=k/\(∀x∈R,x<n)/\d6[p]? =some R from⟨b0,I,a2,c7⟩);have g3:=(d2.o.cell (p:=⟨j7,p,none⟩) q5).trans l1;have i3:=aa (λj (J:j<=D)=>m8.o p j g8 J);have h6:=aa (h5.o p);have i1:=aa (m7.o (b6 p) (G p));have i2:=aa (λj=>m9.o (b6 p) (G p) j);obtain⟨f4,k3⟩:=aB (qb (b6 p) (G p));rw[<-k3] at i3 h6 i1 i2;clear l1 b0 I a2 c7 k3;go_wp2_with(go_at_call 203;refine(f2.o _).mono ?_;rintro e e4 ⟨u6,rfl,⟨m0,W,e2⟩,d8⟩;obtain⟨j8,s4,rfl,t5,q6⟩:=cT ⟨m0,W,e2⟩ (n:=D) b1.o h0);have n9:=aa (λ(i:Nat) (hi:i<D)=>show∃Q a0 L,e4.cell? ⟨j8,i,none⟩=some (.slice Q k a0)/\aO e4 Q k (eO L)/\L.length=k/\(∀x∈L,x<n)/\d6[i]? =some L from by
   obtain⟨L,c1,c2,c3,f7⟩:=d5.o i hi;obtain⟨x,h⟩:=aE (l:=m0) (n:=i) (by rw[e2.len,b1.o];exact hi);have Y:=e2.own i x (sf L) h c2;rw[pT,c3,nF] at Y;obtain⟨Q,a0,rfl,h1⟩:=aS Y (by omega);rw[b1.o] at W;exact⟨Q,a0,L,(W.cellAt i (by omega)).trans h,h1,c3,f7,c1⟩)
  have b7:=aa (d2.o.trans (d8.mono d2.o.size));clear W e2 d8 g3;go_loopw[5,30] (λg i wr=>∃j:Nat,j<=D/\i= Ud j/\g= Ud (f4 j:Nat)/\bv (Below e4.1.size e4 wr)) (λ_ i _=>D-(intOf i).toNat);exact⟨0,by omega,rfl,by rw[i1.o],aa aZ⟩;obtain⟨j,J,rfl,rfl,a7⟩:=hrel;obtain⟨E,r1⟩:=aB wr;subst r1;by_cases l5:j<D
  ·have s6:(j:Int)<(D:Int):=by omega
   obtain⟨s2,s5,C,l2,l8,O,c4,k0⟩:=n9.o j l5;obtain⟨b0,I,a2,c7⟩:=o9.o;have p9:=(a7.o.cell (p:=⟨j8,j,none⟩) q6).trans l2;have h2:=d4.o p j g8 l5;have g6:=i3.o j J;have e9:=aa (i2.o j);have g9:=e8.o p j R C c7 k0;obtain⟨d,l3⟩:=aB (b6 p j);rw[<-l3] at g9 h2 e9;obtain⟨g4,l7⟩:=m6.o R C I O;have i0:=aa (λ(a9:Option Addr) (b9:Nat) (V:World) (e3:gU V a9 k (iv t R C k))=>show Calls prog 204 #[.slice a9 k b9] V λe w'=>e= .returned (Ud d)/\Below V.1.size V w' from by rw[g4] at e3;rw[g9];exact m5.o a9 b9 R C V a2 I c4 O e3);obtain⟨g,g5⟩:=aB (f4 j);rw[<-g5] at g6 e9;rw[<-g5];have n0:=aa (λ(V:World)=>show Calls prog 117 #[Ud (g:Int),Ud d] V λe w'=>e= .returned (Ud (f4 (j+1):Nat))/\Below V.1.size V w' from by rw[e9.o];exact GY (g:Int) d V (Ek g6) h2);have n5:=aa ((b0.below b7.o aQ).below a7.o aQ);have m2:=aa (l8.below a7.o aQ);have n7:=aa (λ(i x:Nat) (h:R[i]? =some x)=>a2 x (aj h));have m4:=aa (λ(i x:Nat) (h:C[i]? =some x)=>c4 x (aj h));have h9:=aa (show Below w.1.size w E from d1.o.trans ((b7.o.trans (a7.o.mono b7.o.size)).mono d1.o.size));have f3:=aa (λi x h=>o7.o R C O i x h);have j4:=aa (λi hi=>o5.o R C I i hi);have i7:=aa (λx j y a5=>n3.o C x j y a5);have f0:=aa (λx j J=>n2.o C O x j J);have i9:=aa (λx=>n4.o C x);have j5:=aa (o8.o R C);have j1:=aa (show cS (iv t R C k) k k from by rw[g4];exact l7);obtain⟨j6,k4⟩:=aB (iv t R C);rw[<-k4] at f3 j4 j5 j1 i0;obtain⟨d7,k2⟩:=aB (nP t C);rw[<-k2] at f3 i7 f0 i9;have n6:=aa I;have m3:=aa O;have i5:=aa (show(E.alloc (.cells #[] 37)).ownsRow E.1.size 37 1 (.slice (some ⟨E.1.size,0,none⟩) 0 0) 0 [] from bd #[] _ rfl aQ (by unfold maxLen;simp))
   have j3:=aa (show bS 3 (E.alloc (.cells #[] 37)) E.1.size [] (j6 0) from by rw[j5.o];exact bS.nil _ _ _);have h7:=aa (show Below E.1.size E (E.alloc (.cells #[] 37)) from aZ.alloc aQ _);clear l2 l8 O c4 k0 b0 I a2 c7 h2 g6 g9 l3 g5 g4 l7 k4 k2;go_wp2;go_loopw[10,37] (λv i wr=>∃(q go c0:Nat) (c9:List Value),q<=k/\i= Ud q/\v= .slice (some ⟨go,0,none⟩) q c0/\bv (wr.ownsRow E.1.size 37 1 (.slice (some ⟨go,0,none⟩) q c0) q c9)/\bv (bS 3 wr E.1.size c9 (j6 q))/\bv (Below E.1.size E wr)) (λ_ i _=>k-(intOf i).toNat);exact⟨0,E.1.size,0,[],by omega,rfl,rfl,i5,j3,h7⟩;clear i5 j3 h7 p9;obtain⟨q,go,c0,c9,t1,rfl,rfl,i6,j2,b8⟩:=hrel;obtain⟨F,r2⟩:=aB wr;subst r2;by_cases q3:q<k
   ·have t2:(q:Int)<(k:Int):=by omega
    obtain⟨x,h⟩:=aE (l:=R) (n:=q) (by rw[n6.o];exact q3);have r4:=n7.o q x h;obtain⟨p3,r8,rfl,p8,l0⟩:=n5.o.at_ (by omega);have g3:=(b8.o.cell (p:=⟨p3,r8+q,none⟩) p8).trans (l0 q _ (ll h));have o6:=aa (f3.o q x h);have h3:=b8.o.size;have a8:=aa (show(F.alloc (.cells #[] 3)).ownsRow F.1.size 3 1 (.slice (some ⟨F.1.size,0,none⟩) 0 0) 0 (af (d7 x 0)) from by rw[i9.o];exact bd (w:=F) (base:=F.1.size) (e:=3) #[] [] rfl aQ (by unfold maxLen;simp));have h8:=aa (show Below F.1.size F (F.alloc (.cells #[] 3)) from aZ.alloc aQ _);obtain⟨S,p4⟩:=aB F.1.size;have Z:=aa p4;clear h l0;go_wp2;go_loopw[13,44] (λv i a6=>∃(z a1 b2:Nat),z<=k/\i= Ud z/\v= .slice (some ⟨a1,0,none⟩) z b2/\bv (a6.ownsRow S 3 1 (.slice (some ⟨a1,0,none⟩) z b2) z (af (d7 x z)))/\bv (Below S F a6)) (λ_ i _=>k-(intOf i).toNat);exact⟨0,S,0,by omega,rfl,by rw[Z.o],by rw[Z.o];exact a8,by rw[Z.o];exact h8⟩;clear a8 h8 g3;obtain⟨z,a1,b2,u3,rfl,rfl,a8,d3⟩:=hrel;obtain⟨a6,r3⟩:=aB wr;subst r3;by_cases q4:z<k
    ·have u4:(z:Int)<(k:Int):=by omega
     obtain⟨y,a5⟩:=aE (l:=C) (n:=z) (by rw[m3.o];exact q4);have u2:=m4.o z y a5;obtain⟨p2,r7,rfl,p7,k9⟩:=m2.o.at_ (by omega);obtain⟨b,r5,a',c',r,rfl,b4,k7,Y,b0,k5⟩:=o4.o x r4;obtain⟨p1,r6,rfl,d8,k8⟩:=Y.at_ (by omega);have t3:r.length=n:=by simpa[af] using Y.len
     have U:Below F.1.size F a6:=by rw[<-Z.o];exact d3.o
     have f8:=b8.o.trans (U.mono h3);have f9:=h9.o.trans (f8.mono h9.o.size);have s0:=(f8.cell (p:=⟨p2,r7+z,none⟩) p7).trans (k9 z _ (ll a5));have s1:=(f9.cell (p:=⟨b,r5+x,none⟩) b4).trans k7;have m1:=((f9.cell (p:=⟨p1,r6+y,none⟩) d8).trans ((k8 y (Ud (mP r y)) (aP (dR (by omega)))).trans (by rw[<-k5 y])));have i8:=aa (i7.o x z y a5);obtain⟨u,a4⟩:=aB (cB t x y);rw[<-a4] at i8 m1;have t8:(x:Int)<(n:Int):=(by omega);have u0:(y:Int)<(n:Int):=(by omega);have q7:=d3.o.size;have q8:S<=a6.1.size:=by rw[Z.o];exact U.size
     have t9:(0:Int)<=(x:Int):=(by omega);have u1:(0:Int)<=(y:Int):=(by omega);have t6:IntKind.i64.wrap (x:Int)=(x:Int):=au _ (by omega);have t7:IntKind.i64.wrap (y:Int)=(y:Int):=au _ (by omega);clear a4 k7 k8 k9 Y b0 k5 a5 U f8 f9;go_wp2_with(first|(at_builtin;go_must(refine aX rfl _ _ 37 rfl S 3 (Ud 0) 8 underlying37 bK rfl a1 b2 z (af (d7 x z)) (a8.o.alloc _) rfl a6.1.size 0 1 1 [Ud u] rfl rfl (cz rfl) (by intro u a4;simp at a4;subst a4;rfl) (by omega) (by unfold maxLen;omega) (by simp;omega) ?_);intro f6 f5 r9 c8 b5 l6 q2));have f1:=aa c8;have e5:=aa ((d3.o.alloc q8 (.cells #[Ud u] 3)).grown b5 (by simp;omega) (by rintro k ⟨⟩;exact(a8.o.lt a1 rfl).1));clear c8 b5 l6 s0 s1 m1;go_roundw;exact⟨z+1,f6,f5,by omega,by go_num,rfl,aa (by rw[i8.o];exact f1.o),e5⟩;simp[intOf];omega
    ·obtain rfl:z=k:=by omega
     have U:Below F.1.size F a6:=by rw[<-Z.o];exact d3.o
     have q0:F.1.size<=a1:=by rw[<-Z.o];exact(a8.o.lt a1 rfl).1
     have W:=ai i6.o U;have q7:=U.size;have j0:=aa (j2.o.moreAt (r:=d7 x z) (c:=b2) (eU U) q0 (by rw[f0.o x z aQ];exact aT a8.o (by rw[Z.o];exact h3)));rw[f0.o x z aQ] at j0;go_wp2_with(first|(at_builtin;go_must(refine aX rfl _ _ 24 rfl E.1.size 37 (.slice none 0 0) 24 underlying24 eS rfl go c0 q c9 (W.alloc _) rfl a6.1.size 0 1 1 [.slice (some ⟨a1,0,none⟩) z b2] rfl rfl (cz rfl) (by intro u a4;simp at a4;subst a4;rfl) (by omega) (by unfold maxLen;omega) (by simp;omega) ?_);intro f6 f5 r9 c8 b5 l6 q2));have f1:=aa ((j0.o.below (aZ.alloc aQ _)).kept (W.alloc _) (by decide) b5);have n1:=aa c8;have e5:=aa (((b8.o.trans (U.mono h3)).alloc (by omega) _).grown b5 (by simp;omega) (by rintro k ⟨⟩;exact(W.lt go rfl).1));clear c8 b5 W U;go_roundw;exact⟨q+1,f6,f5,_,by omega,by go_num,rfl,n1,aa (by rw[o6.o];exact f1.o),e5⟩;simp[intOf];omega
   ·obtain rfl:q=k:=by omega
    obtain⟨a9,b9,l4,_,q9⟩:=fH (T1:=37) (T0:=3) (w:=F) (base:=E.1.size) (v:=.slice (some ⟨go,0,none⟩) q c0) ⟨c9,by rw[j4.o q aQ];exact i6.o,j2.o⟩ j1.o (by omega);simp only[aJ] at l4;obtain⟨rfl,-,rfl⟩:=l4;have a3:=a7.o.trans (b8.o.mono a7.o.size);go_wp2_with(first|(go_at_call 204;refine(i0.o _ _ _ q9).mono ?_;rintro e u7 ⟨rfl,p5⟩;have a3:=a3.trans (p5.mono a3.size))|(go_at_call 117;refine(n0.o _).mono ?_;rintro e u8 ⟨rfl,p6⟩;have a3:=a3.trans (p6.mono a3.size)));have e6:=aa a3;clear a3;go_roundw;exact⟨j+1,by omega,by go_num,rfl,e6⟩;simp[intOf];omega
  ·obtain rfl:j=D:=by omega
   have e6:=aa (b7.o.trans (a7.o.mono b7.o.size));go_wp2;go_roundw;exact⟨p+1,by omega,by go_num,by rw[h6.o],e6⟩;simp[intOf];omega
 ·obtain rfl:p=D:=by omega
  go_wp2;go_ret;exact⟨by rw[i4.o];rfl,d1.o.trans (d2.o.mono d1.o.size)⟩
end Go.Proofs.YtbdlbckeffakjaaGreatDoor
