/- A table without the first row and a column, the program's way. Conditions: a square table in memory, small. -/
import Derived.Deep.AppendLies
import Derived.Test.YtbdlbckeffakjaaGreatDoorReach
namespace Go.Proofs.YtbdlbckeffakjaaGreatDoor
set_option maxHeartbeats 4000000
set_option maxRecDepth 100000
open Go.Proofs.Tryz Go.RowKit
def oL(xs:List Int)(y:Int):Bool:=xs.all λx=> !(y==x)
def Qz(xs:List Int)(y:Int)(w:World)(e:Ending)(w':World):Prop:=w=w'/\∃r:Int,e= .returned (Ud r)/\decide (0<=r)= !oL xs y
theorem zO(a)(n cap)(xs)(y)(w)(W:aO w a n (af xs)):
 Calls prog 259 #[.slice a n cap,Ud y] w (Qz xs y w):=by
 obtain⟨O,a1,I⟩:=W;have Q:=aa (show xs.length=n by simpa[af] using O);have E:=aa I;clear O I;go_enter func259,ntmps259;go_wp2;go_loop[5,8] (λ_ i=>∃k:Nat,k<=n/\i= Ud k/\bv (oL (xs.take k) y=true)) (λ_ i=>n-(intOf i).toNat);exact⟨0,by omega,rfl,rfl⟩;obtain⟨k,a0,rfl,H⟩:=hrel;by_cases U:k<n
 ·obtain⟨b,a2,rfl,Y,J⟩:=E.o (by omega);clear E;obtain⟨x,D⟩:=aE (l:=xs) (n:=k) (by rw[Q.o];exact U);have Z:=J k _ (aP D);have F:=aa D;clear D J;cases hq:y==x
  ·have h:=aa hq;go_wp2;go_round;exact⟨k+1,by omega,by go_num,fl (p:=λx=> !(y==x)) F.o H.o (by rw[h.o];rfl)⟩;simp[intOf];omega
  ·have h:=aa hq;go_wp2;go_ret;exact⟨rfl,_,rfl,by rw[show oL xs y=false from fA (p:=λx=> !(y==x)) F.o (by rw[h.o];rfl)];simp⟩
 ·go_wp2;go_ret;exact⟨rfl,_,rfl,by rw[show oL xs y=true from iz H.o (by rw[Q.o];omega)];simp⟩
theorem vv(a)(n cap)(xs)(y)(w)(E:aO w a n (af xs)):
 Calls prog 227 #[.slice a n cap,Ud y] w λe w'=>e= .returned (.bool (!oL xs y))/\w=w':=by
 go_enter func227,ntmps227;go_wp2_with fail;refine(zO a n cap xs y _ E).mono ?_;rintro e w' ⟨rfl,r,rfl,h⟩;have D:=aa h;clear h;go_wp2;go_ret;exact⟨aG D.o,rfl⟩
def qD(R:List (List Int)):Bool:=R.all λr=>oL r 0
theorem sk(a)(n c)(M)(w)(h:bZ w a n M)(Q:cS M n n)(a2:1<=n)(a3:n<=9)(I:∀i j,i<n->j<n->0<=cB M i j):
 Calls prog 147 #[.slice a n c] w λe w'=>e= .returned (.bool (qD (cI M n)))/\Below w.1.size w w':=by
 have D:=aa (na I);obtain⟨R,J⟩:=aB (cI M n);rw[<-J] at D;have F:=aa J;go_enter func147,ntmps147;go_wp2_with fail;refine(vU a n c M _ h Q a2 a3 I).mono ?_;rintro e b3 ⟨v,rfl,E,U⟩;rw[<-F.o] at E;obtain⟨a7,cv,rfl,a9,b1⟩:=cT E D.o.rect.len (by omega);have a1:=aa (iH E D.o.rect (by omega) (by omega));go_wp2;go_loop[8] (λi=>∃k:Nat,k<=n/\i= Ud k/\bv ((R.take k).all (λr=>oL r 0)=true)) (λi=>n-(intOf i).toNat);exact⟨0,by omega,rfl,rfl⟩;obtain⟨k,b0,rfl,H⟩:=hrel;by_cases a6:k<n
 ·obtain⟨b,b2,a',c',r,W,a8,a5,Z,Y,a4⟩:=fQ a1.o D.o.rect a6;simp only[aI,cA,and_true] at W;obtain⟨rfl,rfl⟩:=W;rw[aW] at a5;have O:=aa Y;have a0:=aa Z;go_wp2_with fail;refine(vv a' n c' r 0 _ a0.o).mono ?_;rintro e w' ⟨rfl,rfl⟩;cases hz:oL r 0
  ·go_wp2;go_ret;exact⟨aG (by rw[<-F.o,show qD R=false from fA (p:=λr=>oL r 0) O.o hz]),U⟩
  ·go_wp2;go_round;exact⟨k+1,by omega,by go_num,fl (p:=λr=>oL r 0) O.o H.o hz⟩;simp[intOf];omega
 ·go_wp2;go_ret;exact⟨aG (by rw[<-F.o,show qD R=true from iz H.o (by rw[D.o.rect.len];omega)]),U⟩
def AA(M:List (List Int)):Bool:=dB M&&qD (cI M M.length)
theorem nJ(a)(n c)(M)(w)(h:bZ w a n M):
 Calls prog 130 #[.slice a n c] w (cK (if dB M then cI M n else[]) w):=by
 have D:=aa (dp h).1;cases hm:dB M
 ·go_enter func130,ntmps130;go_wp2_with fail;refine(dx a n c M _ h).mono ?_;rintro e w' ⟨rfl,rfl⟩;go_wp2;go_ret;exact⟨_,rfl,⟨[],bd #[] _ rfl aQ (by unfold maxLen;simp),bS.nil _ _ _⟩,aZ.alloc aQ _⟩
 ·obtain⟨⟨E,F⟩,J,I⟩:=ee hm D.o;go_enter func130,ntmps130;go_wp2_with fail;refine(dx a n c M _ h).mono ?_;rintro e w' ⟨rfl,rfl⟩;go_wp2_with fail;refine(zG a n c M _ h J E F (λi j _ _=>(I i j).1)).mono ?_;rintro e U ⟨v,rfl,Q,O⟩;go_wp2;go_ret;exact⟨_,rfl,Q,O⟩
theorem rL(a)(n c)(M)(w)(h:bZ w a n M):
 Calls prog 154 #[.slice a n c] w λe w'=>e= .returned (.bool (AA M))/\Below w.1.size w w':=by
 have Z:=aa (dp h).1;have b2:=aa h;cases hm:dB M
 ·have F:=aa (show AA M=false by unfold AA;rw[hm];rfl);go_enter func154,ntmps154;go_wp2_with fail;refine(nJ a n c M _ h).mono ?_;rintro e b9 ⟨v,rfl,D,O⟩;rw[hm] at D;obtain⟨c0,c2,rfl,_⟩:=iw D (by simp) (by simp);simp only[eI,if_false,gZ];have b8:=h.below O aQ;clear D;go_wp2;refine wp_loop_rounds 1 ?_;rw[rounds_succ];go_wp2_with fail;refine(dx a n c M _ b8).mono ?_;rintro e w' ⟨rfl,rfl⟩;go_wp2;go_ret;exact⟨aG (by rw[F.o]),O⟩
 ·obtain⟨⟨c4,c5⟩,b3,a3⟩:=ee hm Z.o;have F:=aa (show AA M=qD (cI M n) by unfold AA;rw[hm,Z.o];rfl);have E:=aa (na (M:=M) (n:=n) (λi j _ _=>(a3 i j).1));obtain⟨R,J⟩:=aB (cI M n);rw[<-J] at E F;have a9:=aa J;clear J b3 a3;go_enter func154,ntmps154;go_wp2_with fail;refine(nJ a n c M _ h).mono ?_;rintro e b9 ⟨v,rfl,D,Q⟩;rw[hm,if_pos rfl,<-a9.o] at D;obtain⟨c3,cv,rfl,c7,d2⟩:=cT D E.o.rect.len (by omega);have b0:=aa (iH D E.o.rect (by omega) (by omega));have b1:=aa (h.below Q aQ);have a7:=aa hm;clear D h hm b2;go_wp2;go_loop[4] (λi=>∃k:Nat,k<=n/\i= Ud k/\bv ((R.take k).all (λr=>oL r 0)=true)) (λi=>n-(intOf i).toNat);exact⟨0,by omega,rfl,rfl⟩;obtain⟨k,d0,rfl,H⟩:=hrel;by_cases b6:k<n
  ·obtain⟨b,d3,a',c',r,a5,O,b5,U,a6,b4⟩:=fQ b0.o E.o.rect b6;simp only[aI,cA,and_true] at a5;obtain⟨rfl,rfl⟩:=a5;rw[aW] at b5;have a0:=aa a6;have a8:=aa U;have a1:=aa (show r.length=n by simpa[af] using U.len);clear a6 U b4;go_wp2;go_loop[5] (λi=>∃j:Nat,j<=n/\i= Ud j/\bv (oL (r.take j) 0=true)) (λi=>n-(intOf i).toNat);exact⟨0,by omega,rfl,rfl⟩;obtain⟨j,c9,rfl,Y⟩:=hrel;by_cases b7:j<n
   ·obtain⟨c1,d4,rfl,c6,a4⟩:=a8.o.at_ (by omega);obtain⟨x,W⟩:=aE (l:=r) (n:=j) (by rw[a1.o];exact b7);have c8:=a4 j _ (aP W);have a2:=aa W;clear W a4;have d1:(j:Int)<(n:Int):=(by omega);cases hq:x==0
    ·have I:=aa hq;go_wp2;go_round;exact⟨j+1,by omega,by go_num,fl (p:=λx=> !((0:Int)==x)) a2.o Y.o (by have:=I.o;simp at this⊢;omega)⟩;simp[intOf];omega
    ·have I:=aa hq;go_wp2;go_ret;exact⟨aG (by rw[F.o,show qD R=false from fA (p:=λr=>oL r 0) a0.o (fA (p:=λx=> !((0:Int)==x)) a2.o (by have:=I.o;simp at this⊢;omega))]),Q⟩
   ·obtain rfl:j=n:=by omega
    go_wp2;go_round;exact⟨k+1,by omega,by go_num,fl (p:=λr=>oL r 0) a0.o H.o (iz Y.o (by rw[a1.o];exact aN _))⟩;simp[intOf];omega
  ·go_wp2_with fail;refine(dx a n c M _ b1.o).mono ?_;rintro e w' ⟨rfl,rfl⟩;go_wp2;go_ret;exact⟨aG (by rw[F.o,a7.o,show qD R=true from iz H.o (by rw[E.o.rect.len];omega)]),Q⟩
def el(n m:Nat)(f:Nat->Nat->Int):List (List Int):=(List.range n).map λp=>(List.range m).map (f p)
theorem df(n m)(f):cS (el n m f) n m:=⟨by simp[el],λr h=>by
 simp only[el,bi,aD] at h;obtain⟨p,_,rfl⟩:=h;simp⟩
theorem km{n m}(f){i j}(hi:i<n)(h:j<m):cB (el n m f) i j=f i j:=by
 rw[iR (r:=(List.range m).map (f i)) (by simp[el,hi])];exact jq (by simp[h])
theorem ib{n m}{f g}(h:∀p q,p<n->q<m->f p q=g p q):el n m f=el n m g:=
 bp λp D=>bp λq E=>h p q (aD.1 D) (aD.1 E)
theorem ph(n m):el n m (λ_ _=>0)=cO n m:=
 mF (df n m _) (Cn n m) λi j hi h=>by rw[km _ hi h,JQ]
theorem nI{n m i j}{f g}{u}(hi:i<n)(O:j<m)(Q:g i j=u)(h:∀p q,p<n->q<m->(p≠i\/q≠j)->g p q=f p q):put2 (el n m f) i j u=el n m g:=by
 have F:=df n m f;have J:=df n m g;refine mF (n:=n) (m:=m) (F.put2 i j u) J λp q D E=> ?_
 rw[km g D E];by_cases e:i=p/\j=q
 ·obtain⟨rfl,rfl⟩:=e;rw[sY F hi O,Q]
 ·have I:i≠p\/j≠q:=by omega
  rw[qx u I,km f D E,h p q D E (by omega)]
def oy(t:Nat)(p q:Nat):Int:=if p=q/\p<t then 1 else 0
def kj(n:Nat):List (List Int):=el n n (oy n)
theorem Cr(n):el n n (oy 0)=cO n n:=by
 rw[<-ph];exact ib λp q _ _=>by unfold oy;rw[if_neg (by omega)]
theorem Cs{n k}(h:k<n):put2 (el n n (oy k)) k k 1=el n n (oy (k+1)):=
 nI h h (by unfold oy;rw[if_pos (by omega)]) λp q _ _ D=>by
  unfold oy;by_cases e:p=q/\p<k
  ·rw[if_pos e,if_pos (by omega)]
  ·rw[if_neg e,if_neg (by omega)]
theorem yo(n:Nat)(w)(h:1<=n)(a4:n<=9):Calls prog 115 #[Ud n] w (cK (kj n) w):=by
 go_enter func115,ntmps115;go_wp2_with fail;refine(lr n _ (by omega)).mono ?_;rintro e a9 ⟨v,rfl,F,a1⟩;obtain⟨Z,cv,rfl,a6,a8⟩:=cT F (ec n n) (by omega);have U:=aa F;go_wp2;go_loopw[9] (λi wr=>∃k:Nat,k<=n/\i= Ud k/\ct 37 3 wr w.1.size (.slice (some ⟨Z,0,none⟩) n cv) (el n n (oy k))/\Below w.1.size w wr) (λi _=>n-(intOf i).toNat);exact⟨0,by omega,rfl,by rw[Cr];exact U.o,a1⟩;obtain⟨k,J,rfl,D,E⟩:=hrel;by_cases I:k<n
 ·obtain⟨g,a3,a5,a0,a7,a2,O⟩:=en D (by decide) (df n n _) I I;have Y:=aa (O 1);obtain⟨x,Q⟩:=aB (cB (el n n (oy k)) k k);rw[<-Q] at a0;go_wp2;go_roundw;have h:=Y.o;rw[Cs I] at h;exact⟨k+1,by omega,by go_num,h.1,E.grown h.2 E.size (λk J=>by cases J;exact a2)⟩;simp[intOf];omega
 ·obtain rfl:k=n:=by omega
  have W:=aa D;go_wp2;go_ret;exact⟨_,rfl,W.o,E⟩
theorem qr(n:Nat)(w)(h:1<=n)(a4:n<=9):Calls prog 127 #[Ud n] w (cK (kj n) w):=by
 go_enter func127,ntmps127;go_wp2_with(first|(go_at_call 186;refine(gg n n _ (by omega) (by omega)).mono ?_;rintro e a9 ⟨v,rfl,F,a1⟩));obtain⟨Z,cv,rfl,a6,a8⟩:=cT F (ec n n) (by omega);have U:=aa F;go_loopw[4] (λi wr=>∃k:Nat,k<=n/\i= Ud k/\ct 37 3 wr w.1.size (.slice (some ⟨Z,0,none⟩) n cv) (el n n (oy k))/\Below w.1.size w wr) (λi _=>n-(intOf i).toNat);exact⟨0,by omega,rfl,by rw[Cr];exact U.o,a1⟩;obtain⟨k,J,rfl,D,E⟩:=hrel;by_cases I:k<n
 ·obtain⟨g,a3,a5,a0,a7,a2,O⟩:=en D (by decide) (df n n _) I I;have Y:=aa (O 1);obtain⟨x,Q⟩:=aB (cB (el n n (oy k)) k k);rw[<-Q] at a0;go_wp2;go_roundw;have h:=Y.o;rw[Cs I] at h;exact⟨k+1,by omega,by go_num,h.1,E.grown h.2 E.size (λk J=>by cases J;exact a2)⟩;simp[intOf];omega
 ·obtain rfl:k=n:=by omega
  have W:=aa D;go_wp2;go_ret;exact⟨_,rfl,W.o,E⟩
def Er(f:Nat->Int):Nat->Int|0=>0|k+1=>max (Er f k) (f k)
theorem Aa{f:Nat->Int}{n:Nat}(h:∀k,k<n->f k=0\/f k=1):∀k,k<=n->Er f k=0\/Er f k=1
 |0,_=> .inl rfl
 |k+1,hk=>by have D:=Aa h k (by omega);have E:=h k (by omega);unfold Er;omega
def II(H M:List (List Int))(p q k:Nat):Int:=min (cB H p k) (min (cB M k q) 1)
def JZ(H M:List (List Int))(n p q:Nat):Int:=Er (II H M p q) n
def qo(H M:List (List Int))(n:Nat):List (List Int):=el n n (JZ H M n)
theorem Kb{H M}{n}(D:Bits H n)(E:∀i j,i<n->j<n->0<=cB M i j){p q k}(F:p<n)(I:q<n)(h:k<n):II H M p q k=0\/II H M p q k=1:=by
 have J:=D.bit p k F h;have O:=E k q h I;unfold II;omega
theorem LG{H M}{n}(D:Bits H n)(E:∀i j,i<n->j<n->0<=cB M i j):Bits (qo H M n) n:=
 ⟨df n n _,λi j hi h=>by rw[qo,km _ hi h];exact Aa (λk F=>Kb D E hi h F) n aQ⟩
def CC(H M:List (List Int))(n i k j p q:Nat):Int:=if p<i then JZ H M n p q else if p=i then(if q<j then Er (II H M p q) (k+1) else Er (II H M p q) k) else 0
def BI(H M:List (List Int))(n i j k p q:Nat):Int:=if p<i then JZ H M n p q else if p=i then(if q<j then JZ H M n p q else if q=j then Er (II H M p q) k else 0) else 0
theorem NZ(H M)(n):el n n (CC H M n 0 0 0)=cO n n:=by
 rw[<-ph];exact ib λp q _ _=>by
  unfold CC;rw[if_neg (eh _)];by_cases e:p=0
  ·rw[if_pos e,if_neg (eh _)];rfl
  ·rw[if_neg e]
theorem Oa{H M}{n i k j}(hi:i<n)(F:j<n):put2 (el n n (CC H M n i k j)) i j (max (CC H M n i k j i j) (II H M i j k))=el n n (CC H M n i k (j+1)):=
 nI hi F (by
  unfold CC;rw[if_neg (eQ _),if_pos rfl,if_pos (by omega),if_neg (eQ _),if_pos rfl,if_neg (eQ _)];rfl) λp q _ _ I=>by
  unfold CC;by_cases h:p<i
  ·rw[if_pos h,if_pos h]
  ·rw[if_neg h,if_neg h];by_cases D:p=i
   ·rw[if_pos D,if_pos D];by_cases E:q<j
    ·rw[if_pos E,if_pos (by omega)]
    ·rw[if_neg E,if_neg (by omega)]
   ·rw[if_neg D,if_neg D]
theorem LO(H M)(n i k):el n n (CC H M n i k n)=el n n (CC H M n i (k+1) 0):=ib λp q _ E=>by
 unfold CC;by_cases h:p<i
 ·rw[if_pos h,if_pos h]
 ·rw[if_neg h,if_neg h];by_cases D:p=i
  ·rw[if_pos D,if_pos D,if_pos E,if_neg (eh _)]
  ·rw[if_neg D,if_neg D]
theorem LP(H M)(n i):el n n (CC H M n i n 0)=el n n (CC H M n (i+1) 0 0):=ib λp q _ F=>by
 unfold CC;by_cases h:p<i
 ·rw[if_pos h,if_pos (by omega)]
 ·rw[if_neg h];by_cases D:p=i
  ·rw[if_pos D,if_neg (eh _),if_pos (by omega)];rfl
  ·rw[if_neg D,if_neg (by omega)];by_cases E:p=i+1
   ·rw[if_pos E,if_neg (eh _)];rfl
   ·rw[if_neg E]
theorem QK(H M)(n):el n n (CC H M n n 0 0)=qo H M n:=ib λp q h _=>by
 unfold CC;rw[if_pos h]
theorem NX(H M)(n):el n n (BI H M n 0 0 0)=cO n n:=by
 rw[<-ph];exact ib λp q _ _=>by
  unfold BI;rw[if_neg (eh _)];by_cases e:p=0
  ·rw[if_pos e,if_neg (eh _)];by_cases h:q=0
   ·rw[if_pos h];rfl
   ·rw[if_neg h]
  ·rw[if_neg e]
theorem zD(H M)(n i j k):BI H M n i j k i j=Er (II H M i j) k:=by
 unfold BI;rw[if_neg (eQ _),if_pos rfl,if_neg (eQ _),if_pos rfl]
theorem NY{H M}{n i k j}(hi:i<n)(F:j<n):put2 (el n n (BI H M n i j k)) i j (max (BI H M n i j k i j) (II H M i j k))=el n n (BI H M n i j (k+1)):=
 nI hi F (by rw[zD,zD];rfl) λp q _ _ I=>by
  unfold BI;by_cases h:p<i
  ·rw[if_pos h,if_pos h]
  ·rw[if_neg h,if_neg h];by_cases D:p=i
   ·rw[if_pos D,if_pos D];by_cases E:q<j
    ·rw[if_pos E,if_pos E]
    ·rw[if_neg E,if_neg E,if_neg (by omega),if_neg (by omega)]
   ·rw[if_neg D,if_neg D]
theorem LK(H M)(n i j):el n n (BI H M n i j n)=el n n (BI H M n i (j+1) 0):=ib λp q _ _=>by
 unfold BI;by_cases h:p<i
 ·rw[if_pos h,if_pos h]
 ·rw[if_neg h,if_neg h];by_cases D:p=i
  ·rw[if_pos D,if_pos D];by_cases E:q<j
   ·rw[if_pos E,if_pos (by omega)]
   ·rw[if_neg E];by_cases F:q=j
    ·rw[if_pos F,if_pos (by omega)];rfl
    ·rw[if_neg F,if_neg (by omega)];by_cases I:q=j+1
     ·rw[if_pos I];rfl
     ·rw[if_neg I]
  ·rw[if_neg D,if_neg D]
theorem LM(H M)(n i):el n n (BI H M n i n 0)=el n n (BI H M n (i+1) 0 0):=ib λp q _ I=>by
 unfold BI;by_cases h:p<i
 ·rw[if_pos h,if_pos (by omega)]
 ·rw[if_neg h];by_cases D:p=i
  ·rw[if_pos D,if_pos I,if_pos (by omega)]
  ·rw[if_neg D,if_neg (by omega)];by_cases E:p=i+1
   ·rw[if_pos E,if_neg (eh _)];by_cases F:q=0
    ·rw[if_pos F];rfl
    ·rw[if_neg F]
   ·rw[if_neg E]
theorem QJ(H M)(n):el n n (BI H M n n 0 0)=qo H M n:=ib λp q h _=>by
 unfold BI;rw[if_pos h]
theorem ST(x y:Int):min x (min y 1)=(if 1<if y<x then y else x then 1 else if y<x then y else x):=by
 by_cases h:y<x
 ·simp only[h,if_true];split<;>omega
 ·simp only[h,if_false];split<;>omega
theorem AG(a b)(n c d)(H M)(w)(a9:bZ w a n H)(b2:bZ w b n M)(a6:cS H n n)(a7:cS M n n)(f7:1<=n)(f8:n<=9):
 Calls prog 116 #[.slice a n c,.slice b n d] w (cK (qo H M n) w):=by
 have c4:=aa a9;have c7:=aa b2;have d6:=aa a6;have d7:=aa a7;clear a9 b2 a6 a7;go_enter func116,ntmps116;go_wp2_with(first|(go_at_call 202;refine(lr n _ (by omega)).mono ?_;rintro e g6 ⟨v,rfl,O,e4⟩));obtain⟨W,cv,rfl,g0,g5⟩:=cT O (ec n n) (by omega);rw[<-NZ H M n] at O;have c8:=aa O;clear O;go_loopw[17] (λi wr=>∃D:Nat,D<=n/\i= Ud D/\ct 37 3 wr w.1.size (.slice (some ⟨W,0,none⟩) n cv) (el n n (CC H M n D 0 0))/\Below w.1.size w wr) (λi _=>n-(intOf i).toNat);exact⟨0,by omega,rfl,c8.o,e4⟩;obtain⟨D,hi,rfl,I,F⟩:=hrel;have a2:=aa I;clear I;by_cases Q:D<n
 ·obtain⟨d8,o1,f2,f4,f0,rfl,e0,b5,Y,e8,b0⟩:=fQ c4.o d6.o Q;have g1:=(F.cell (p:=⟨d8,o1+D,none⟩) e0).trans b5;have d2:=aa Y;have c5:=aa b0;have d0:=aa (show f0.length=n by simpa[af] using Y.len);clear b5 Y e8 b0;go_wp2;go_loopw[24] (λk wr=>∃h:Nat,h<=n/\k= Ud h/\ct 37 3 wr w.1.size (.slice (some ⟨W,0,none⟩) n cv) (el n n (CC H M n D h 0))/\Below w.1.size w wr) (λk _=>n-(intOf k).toNat);exact⟨0,by omega,rfl,a2.o,F⟩;obtain⟨h,b7,rfl,I,F⟩:=hrel;have a3:=aa I;clear I;by_cases b8:h<n
  ·obtain⟨a4,o2,rfl,e1,b3⟩:=d2.o.at_ (by omega);have c1:w.cell? ⟨a4,o2+h,none⟩=some (Ud (cB H D h)):=b3 h _ (aP (by rw[c5.o];exact dR (by rw[d0.o];exact b8)));have e6:=(F.cell (p:=⟨a4,o2+h,none⟩) e1).trans c1;obtain⟨d9,o3,f3,f5,f1,rfl,e2,b6,Z,e9,b1⟩:=fQ c7.o d7.o b8;have g2:=(F.cell (p:=⟨d9,o3+h,none⟩) e2).trans b6;have d3:=aa Z;have c6:=aa b1;have d1:=aa (show f1.length=n by simpa[af] using Z.len);obtain⟨x,a0⟩:=aB (cB H D h);rw[<-a0] at e6;have d5:=aa a0;clear b3 c1 b6 Z e9 b1 a0;go_wp2;go_loopw[34] (λj wr=>∃E:Nat,E<=n/\j= Ud E/\ct 37 3 wr w.1.size (.slice (some ⟨W,0,none⟩) n cv) (el n n (CC H M n D h E))/\Below w.1.size w wr) (λj _=>n-(intOf j).toNat);exact⟨0,by omega,rfl,a3.o,F⟩;obtain⟨E,g4,rfl,I,F⟩:=hrel;by_cases U:E<n
   ·obtain⟨a5,c3,rfl,e3,b4⟩:=d3.o.at_ (by omega);have c2:w.cell? ⟨a5,c3+E,none⟩=some (Ud (cB M h E)):=b4 E _ (aP (by rw[c6.o];exact dR (by rw[d1.o];exact U)));have e7:=(F.cell (p:=⟨a5,c3+E,none⟩) e3).trans c2;obtain⟨g,f6,f9,a8,g3,e5,b9⟩:=en I (by decide) (df n n _) Q U;rw[km _ Q U] at a8;have J:=aa (b9 (max (CC H M n D h E D E) (II H M D E h)));rw[Oa Q U] at J;obtain⟨y,a1⟩:=aB (cB M h E);obtain⟨u,c0⟩:=aB (CC H M n D h E D E);rw[<-a1] at e7;rw[<-c0] at a8 J;have d4:=aa (show II H M D E h=(if 1<if y<x then y else x then 1 else if y<x then y else x) by rw[<-ST,d5.o,a1];rfl);rw[d4.o] at J;clear b4 c2 I b9 a1 c0;go_wp2;(refine wp_region_still_tail 17 (by kernel_rfl) (by kernel_rfl) ?_;change wpStill _ _ (World.drew _) (λa'=>wpList _ _ _ _ a' (World.drew _)) _ _;simp only[de,eW,et,eY];repeat still_step);refine wpStill_nil ?_;go_wp2;go_roundw;exact⟨E+1,by omega,by go_num,J.o.1.below aZ.drew,(F.grown J.o.2 F.size (λk b7=>by cases b7;exact e5)).drew⟩;simp[intOf];omega
   ·obtain rfl:E=n:=by omega
    have c9:=aa I;clear I;go_wp2;go_roundw;exact⟨h+1,by omega,by go_num,by rw[<-LO];exact c9.o,F⟩;simp[intOf];omega
  ·obtain rfl:h=n:=by omega
   go_wp2;go_roundw;exact⟨D+1,by omega,by go_num,by rw[<-LP];exact a3.o,F⟩;simp[intOf];omega
 ·obtain rfl:D=n:=by omega
  go_wp2;go_ret;exact⟨_,rfl,by rw[<-QK];exact a2.o,F⟩
theorem BJ(a b)(n c d)(H M)(w)(b1:bZ w a n H)(b2:bZ w b n M)(a7:Bits H n)(a8:cS M n n)(e2:1<=n)(e3:n<=9)(a9:∀i j,i<n->j<n->0<=cB M i j):
 Calls prog 128 #[.slice a n c,.slice b n d] w (cK (qo H M n) w):=by
 have b9:=aa b1;have c0:=aa b2;have a1:=aa a7;have c4:=aa a8;have a0:=aa a9;clear b1 b2 a7 a8 a9;go_enter func128,ntmps128;go_wp2_with(first|(go_at_call 186;refine(gg n n _ (by omega) (by omega)).mono ?_;rintro e f1 ⟨v,rfl,W,d3⟩));obtain⟨a2,cv,rfl,e5,f0⟩:=cT W (ec n n) (by omega);rw[<-NX H M n] at W;have c1:=aa W;clear W;go_loopw[6] (λi wr=>∃D:Nat,D<=n/\i= Ud D/\ct 37 3 wr w.1.size (.slice (some ⟨a2,0,none⟩) n cv) (el n n (BI H M n D 0 0))/\Below w.1.size w wr) (λi _=>n-(intOf i).toNat);exact⟨0,by omega,rfl,c1.o,d3⟩;obtain⟨D,hi,rfl,I,F⟩:=hrel;have a5:=aa I;clear I;by_cases O:D<n
 ·go_wp2;go_loopw[7] (λk wr=>∃E:Nat,E<=n/\k= Ud E/\ct 37 3 wr w.1.size (.slice (some ⟨a2,0,none⟩) n cv) (el n n (BI H M n D E 0))/\Below w.1.size w wr) (λk _=>n-(intOf k).toNat);exact⟨0,by omega,rfl,a5.o,F⟩;obtain⟨E,e9,rfl,I,F⟩:=hrel;have a6:=aa I;clear I;by_cases J:E<n
  ·go_wp2;go_loopw[8] (λj wr=>∃h:Nat,h<=n/\j= Ud h/\ct 37 3 wr w.1.size (.slice (some ⟨a2,0,none⟩) n cv) (el n n (BI H M n D E h))/\Below w.1.size w wr) (λj _=>n-(intOf j).toNat);exact⟨0,by omega,rfl,a6.o,F⟩;obtain⟨h,a3,rfl,I,F⟩:=hrel;by_cases U:h<n
   ·obtain⟨c5,o1,c6,o2,d9,rfl,c9,b3,d0,b4⟩:=iD b9.o a1.o.rect O U;obtain⟨c7,o3,c8,d8,e0,rfl,d1,b5,d2,b6⟩:=iD c0.o c4.o U J;have e6:=(F.cell (p:=⟨c5,o1+D,none⟩) c9).trans b3;have d5:=(F.cell (p:=⟨c6,o2+h,none⟩) d0).trans b4;have e7:=(F.cell (p:=⟨c7,o3+h,none⟩) d1).trans b5;have d6:=(F.cell (p:=⟨c8,d8+E,none⟩) d2).trans b6;obtain⟨g,e1,e4,b0,e8,d4,b7⟩:=en I (by decide) (df n n _) O J;rw[km _ O J] at b0;have Q:=aa (b7 (max (BI H M n D E h D E) (II H M D E h)));rw[NY O J] at Q;have b8:=a0.o h E U J;obtain⟨x,Y⟩:=aB (cB H D h);obtain⟨y,Z⟩:=aB (cB M h E);obtain⟨u,a4⟩:=aB (BI H M n D E h D E);have c3:=aa (show bits BinOp.or IntKind.i64 u (bits BinOp.and IntKind.i64 x (min y 1))=max u (II H M D E h) by
     rw[show II H M D E h=min x (min y 1) by rw[Y,Z];rfl];refine Lc ?_ (by rw[Y];exact a1.o.bit D h O U) (by rw[Z];have:=a0.o h E U J;omega);rw[a4,zD];exact Aa (n:=n) (λt d7=>Kb a1.o a0.o O J d7) h a3)
    rw[<-Y] at d5;rw[<-Z] at d6 b8;rw[<-a4] at b0 Q;rw[<-c3.o] at Q;clear b3 b4 b5 b6 I b7 Y Z a4;go_wp2;(refine wp_region_still_tail 31 (by kernel_rfl) (by kernel_rfl) ?_;change wpStill _ _ (World.drew _) (λa'=>wpList _ _ _ _ a' (World.drew _)) _ _;simp only[de,eW,et,eY];repeat still_step);still_call (Dn y b8 _);repeat still_step
    refine wpStill_nil ?_;go_wp2;go_roundw;exact⟨h+1,by omega,by go_num,Q.o.1.below aZ.drew,(F.grown Q.o.2 F.size (λk a3=>by cases a3;exact d4)).drew⟩;simp[intOf];omega
   ·obtain rfl:h=n:=by omega
    have c2:=aa I;clear I;go_wp2;go_roundw;exact⟨E+1,by omega,by go_num,by rw[<-LK];exact c2.o,F⟩;simp[intOf];omega
  ·obtain rfl:E=n:=by omega
   go_wp2;go_roundw;exact⟨D+1,by omega,by go_num,by rw[<-LM];exact a6.o,F⟩;simp[intOf];omega
 ·obtain rfl:D=n:=by omega
  go_wp2;go_ret;exact⟨_,rfl,by rw[<-QJ];exact a5.o,F⟩
theorem eU{w w'}(h:Below w.1.size w w'):w.grownBy w' none:=⟨h.os,h.tape,h.output,h.size,λk D _=>h.block k D⟩
theorem bS.moreAt{T0}{w w'}{base c J}{D}{W}{r}(h:bS T0 w base D W)(a7:w.grownBy w' none)(b5:w.1.size<=J)(a8:w'.ownsRow base T0 1 (.slice (some ⟨J,0,none⟩) r.length c) r.length (af r)):
 bS T0 w' base (D++[.slice (some ⟨J,0,none⟩) r.length c]) (W++[r]):=by
 have a3:=h.len;refine⟨by simp[a3],λi x b1 E I=> ?_,λi j x y g E b0 a0 a1=> ?_⟩
 ·by_cases hi:i<D.length
  ·rw[aR hi] at E;rw[aR (by omega)] at I;exact(h.own i x b1 E I).kept a7 (by cases hv:x.ownBlock<;>simp)
  ·rw[bj (by omega)] at E;rw[bj (by omega)] at I;have Q:i-D.length=0:=by
    rcases dN (i-D.length) with O|O
    ·exact O
    ·rw[aU (by simp;omega)] at E;cases E
   rw[Q] at E;rw[<-a3,Q] at I;simp only[cM,aI] at E I;subst E I;exact a8
 ·have a4:∀k z,(D++[Value.slice (some ⟨J,0,none⟩) r.length c])[k]? =some z->z.ownBlock=some g->(k<D.length/\D[k]? =some z/\g<w.1.size)\/(k=D.length/\g=J):=by
   intro k z F U;by_cases a2:k<D.length
   ·rw[aR a2] at F;obtain⟨b2,a9⟩:=aE (l:=W) (n:=k) (by omega);exact Or.inl ⟨a2,F,((h.own k z b2 F a9).lt g U).2⟩
   ·rw[bj (by omega)] at F;have Q:k-D.length=0:=by
     rcases dN (k-D.length) with O|O
     ·exact O
     ·rw[aU (by simp;omega)] at F;cases F
    rw[Q] at F;simp only[cM,aI] at F;subst F;simp only[Value.ownBlock,aI] at U;exact Or.inr ⟨by omega,U.symm⟩
  rcases a4 i x E a0 with⟨a5,Y,b3⟩|⟨a5,Y⟩<;>rcases a4 j y b0 a1 with⟨a6,Z,b4⟩|⟨a6,Z⟩
  ·exact h.apart i j x y g Y Z a0 a1
  ·omega
  ·omega
  ·omega
def jG{α β:Type}(f:α->Option β):List α->Option (List β)
 |[]=>some []
 |x::xs=>match f x,jG f xs with
  |some y,some ys=>some (y::ys)
  |_,_=>none
theorem DU{α β:Type}{f:α->Option β}{x:α}{y:β}:∀{l:List α} {ys:List β},jG f l=some ys->f x=some y->jG f (l++[x])=some (ys++[y])
 |[],ys,h,hy=>by
  simp only[jG,aI] at h;subst h;simp[jG,hy]
 |z::l,ys,h,hy=>by
  simp only[jG] at h;cases hz:f z with
  |none=>rw[hz] at h;simp at h
  |some u=>
   rw[hz] at h;cases hl:jG f l with
   |none=>rw[hl] at h;simp at h
   |some us=>
    rw[hl] at h;simp only[aI] at h;subst h;have:=DU hl hy;simp[jG,hz,this]
theorem Bs{α β:Type}{f:α->Option β}{x:α}(D:f x=none):∀{l:List α},x∈l->jG f l=none
 |z::l,h=>by
  rcases ji.1 h with e|h
  ·subst e;simp[jG,D]
  ·have:=Bs D h;simp only[jG];rw[this];cases f z<;>rfl
theorem Io{α β:Type}{f:α->Option β}:∀{l:List α} {ys:List β},jG f l=some ys->ys.length=l.length
 |[],ys,h=>by simp only[jG,aI] at h;subst h;rfl
 |z::l,ys,h=>by
  simp only[jG] at h;cases hz:f z with
  |none=>rw[hz] at h;simp at h
  |some u=>
   rw[hz] at h;cases hl:jG f l with
   |none=>rw[hl] at h;simp at h
   |some us=>
    rw[hl] at h;simp only[aI] at h;subst h;have:=Io hl;simp[this]
theorem DS{α β}{f}{l:List α}{j}{x:α}{y:β}{ys}(h:jG f (l.take j)=some ys)(D:l[j]? =some x)(E:f x=some y):jG f (l.take (j+1))=some (ys++[y]):=by
 rw[bg,D];exact DU h E
theorem Lj{α β:Type}{f:α->Option β}:∀{l:List α} {ys:List β} {i:Nat} {x:α} {y:β},jG f l=some ys->l[i]? =some x->ys[i]? =some y->f x=some y
 |[],_,_,_,_,_,hx,_=>by simp at hx
 |z::l,ys,i,x,y,h,hx,hy=>by
  simp only[jG] at h;cases hz:f z with
  |none=>rw[hz] at h;simp at h
  |some u=>
   rw[hz] at h;cases hl:jG f l with
   |none=>rw[hl] at h;simp at h
   |some us=>
    rw[hl] at h;simp only[aI] at h;subst h;match i with
    |0=>
     simp at hx hy;rw[<-hx,<-hy];exact hz
    |i+1=>exact Lj hl (by simpa using hx) (by simpa using hy)
theorem zX{w:World}{B e g n m cap}{xs ys}(h:w.ownsRow B e 1 (.slice (some ⟨g,0,none⟩) n cap) n (xs++ys))(Y:xs.length=m):w.ownsRow B e 1 (.slice (some ⟨g,0,none⟩) m cap) m xs:=by
 have W:=h.1;simp at W;refine⟨by omega,?_⟩;rcases h.2 with⟨F,_⟩|⟨a1,a0,E,Z,Q,U,a2,I,J,O⟩
 ·cases F
 ·cases Z;refine Or.inr ⟨g,cap,E,rfl,Q,U,by omega,I,J,?_⟩;have D:=congrArg (List.take m) O;rw[List.take_take,List.take_left' Y] at D;rw[kV];rwa[show min m (n*1)=m by omega] at D
theorem gG{w:World}{B e g n cap}{xs}(h:w.ownsRow B e 1 (.slice (some ⟨g,0,none⟩) n cap) n xs):
 ∃D,B<=g/\w.1[g]? =some (.cells D e (0,0))/\n<=cap/\cap<=maxLen/\D.size=cap*1/\D.toList.take n=xs:=by
 rcases h.2 with⟨E,_⟩|⟨Z,Y,D,W,Q,U,F,I,J,O⟩
 ·cases E
 ·cases W;exact⟨D,Q,U,F,I,J,by simpa using O⟩
theorem aX{P}{wr}{a9}{b0}{o}{a}{Q}
 (a3:o.guard=none)(s x)(t)(a4:o.op=Op.call {callee:=Callee.builtin Builtin.append,args:=#[s,x],argTypes:=#[t,t]})
 (B)(e)(z)(W)(a1:P.underlying t=some (.slice e))(b5:(P.info? e).map (λi=>(i.zero,i.size,i.bytes))=some (some z,1,W))(c3:z.cells.size=1)
 (D F m)(xs)(Z:wr.ownsRow B e 1 (.slice (some ⟨D,0,none⟩) m F) m xs)(a5:a.eval s= .slice (some ⟨D,0,none⟩) m F)(b O k c)(E:List Value)(a7:a.eval x= .slice (some ⟨b,O,none⟩) k c)(c4:E.length=k)
 (b3:∀j u,E[j]? =some u->wr.cell? ⟨b,O+j,none⟩=some u)(a6:∀u∈E,u.oneCell'=true)(b7:(m+k)*W<=140737488355328)(b8:m+k<=maxLen)(b2:B<=wr.1.size)
 (a2:∀I c' h,h.ownsRow B e 1 (.slice (some ⟨I,0,none⟩) (m+k) c') (m+k) (xs++E)->wr.grownBy h (some D)->(I=D\/wr.1.size<=I)->I<h.1.size->wpList P a9 Q b0 (a.put o.dst (.slice (some ⟨I,0,none⟩) (m+k) c')) h):
 wpList P a9 Q (o::b0) a wr:=by
 obtain⟨i,hi,c1,a8,c2⟩:=info_parts b5;have J:∀j u,E[j]? =some u->wr.cell? ((⟨b,O,none⟩:Addr).add j)=some u:=by
  intro j u b6;have J:=b3 j u b6;unfold Addr.add;split
  ·rename_i b1;subst b1;exact J
  ·exact J
 by_cases b4:m+k<=F
 ·refine wpList_append_fits wr a3 s x t a4 B e i 1 a1 hi a8 D m F xs a5 Z ⟨b,O,none⟩ k c E a7 (by omega) J a6 b4 ?_;intro h U Y;exact a2 D F h U Y (Or.inl rfl) (U.lt D rfl).2
 ·have c5:m<=F:=(gG Z).choose_spec.2.2.1;refine wpList_append_lies _ a3 s x t a4 B e i z 1 W a1 hi c1 a8 c2 c3 (by decide) _ m xs a5 Z ⟨b,O,none⟩ k c E a7 (by omega) J a6 (by omega) b8 b7 b2 wr.1.size rfl ?_;intro g c h U Y c0 b9;refine a2 g c h U Y ?_ b9;rcases c0 with a0|a0
  ·exact Or.inl (by simpa[Value.ownBlock] using a0.symm)
  ·exact Or.inr (by omega)
theorem kR{w O Q:World}{g F}(D:w.grownBy O (some g))(E:O.grownBy Q (some F))(U:F=g\/w.1.size<=F):w.grownBy Q (some g):=
 ⟨E.os.trans D.os,E.tape.trans D.tape,E.output.trans D.output,bn D.size E.size,λk I J=>
  (E.block k (aH I D.size) (λe=>by
   injection e with e
   rcases U with h|h
   ·exact J (by rw[e,h])
   ·omega)).trans (D.block k I J)⟩
theorem sC{B}{w D}{g}(h:Below B w D)(E:w.1.size<=B):w.grownBy D (some g):=
 ⟨h.os,h.tape,h.output,h.size,λk F _=>h.block k (aH F E)⟩
theorem aO.grown{w w'}{a}{n g}{xs}(h:aO w a n xs)(E:w.grownBy w' (some g))(I:∀b D,a=some ⟨b,D,none⟩->b≠g):aO w' a n xs:=
 ⟨h.len,h.lim,λF=>let⟨b,D,ha,hlt,hc⟩:=h.at_ F
  ⟨b,D,ha,aH hlt E.size,λk x J=>(World.cell?_of_block (a:=⟨b,D+k,none⟩) (E.block b hlt (λe=>I b D ha (by injection e)))).trans (hc k x J)⟩⟩
def gU(w:World)(a:Option Addr)(n:Nat)(D:List (List Int)):Prop:=
 ∃h,aO w a n h/\h.length=D.length/\∀(i:Nat) (x:Value) (r:List Int),h[i]? =some x->D[i]? =some r->∃a' c',x= .slice a' r.length c'/\r.length<=c'/\aO w a' r.length (af r)
theorem gU.tab{w}{a}{n}{D}(h:gU w a n D):bZ w a n D:=by
 obtain⟨Q,E,F,I⟩:=h;exact⟨Q,E,F,λi x r O J=>let⟨a',c',e,_,q⟩:=I i x r O J;⟨a',c',e,q⟩⟩
theorem gU.below{B}{w w'}{a}{n}{F}(h:gU w a n F)(E:Below B w w')(D:w.1.size<=B):gU w' a n F:=by
 obtain⟨W,I,J,O⟩:=h;exact⟨W,I.below E D,J,λi x r U Q=>let⟨a',c',e,hc,q⟩:=O i x r U Q;⟨a',c',e,hc,q.below E D⟩⟩
theorem nR{w}{base e n}{v}{xs}(h:w.ownsRow base e 1 v n xs)(E:n<=140737488351232):∃a c,v= .slice a n c/\n<=c/\aO w a n xs:=by
 obtain⟨a,c,rfl,F⟩:=aS h E;refine⟨a,c,rfl,?_,F⟩;rcases h.2 with⟨D,J⟩|⟨g,cap,I,D,O,Q,U,_⟩
 ·omega
 ·simp only[aJ] at D;omega
theorem fH{T1 T0}{w}{base n}{v}{R}(h:ct T1 T0 w base v R)(D:cS R n n)(a0:n<=1000000):∃a c,v= .slice a n c/\n<=c/\gU w a n R:=by
 obtain⟨Y,E,I⟩:=h;rw[D.len] at E;obtain⟨a,c,rfl,J,Q⟩:=nR E (by omega);refine⟨a,c,rfl,J,Y,Q,by rw[I.len],λi x r W F=> ?_⟩;have Z:=D.row r (aj F);obtain⟨a',c',rfl,O,U⟩:=nR (I.own i x r W F) (by omega);exact⟨a',c',rfl,O,U⟩
theorem Ot{w}{a}{n m i}{R}(h:gU w a n R)(W:cS R n m)(hi:i<n):
 ∃b D a' c r,a=some ⟨b,D,none⟩/\b<w.1.size/\w.cell? ⟨b,D+i,none⟩=some (.slice a' m c)/\m<=c/\aO w a' m (af r)/\R[i]? =some r/\r.length=m/\∀j,cB R i j=mP r j:=by
 obtain⟨a0,I,a1,U⟩:=h;obtain⟨r,F,E,a2⟩:=W.get hi;obtain⟨b,D,rfl,Y,Z⟩:=I.at_ (by omega);obtain⟨x,Q⟩:=aE (l:=a0) (n:=i) (by rw[I.len];exact hi);obtain⟨a',c',rfl,J,O⟩:=U i x r Q F;rw[E] at O J;exact⟨b,D,a',c',r,rfl,Y,by rw[<-E];exact Z i _ Q,J,O,F,E,λj=>iR F j⟩
def rn(q:Nat)(r:List Int):List Int:=r.take q++r.drop (q+1)
def eA(t:List (List Int))(q:Nat):List (List Int):=(t.drop 1).map (rn q)
def tN(t:List (List Int))(q j:Nat):List (List Int):=((t.take j).drop 1).map (rn q)
theorem xl(t)(q):tN t q 0=[]:=by simp[tN]
theorem GB(t)(q):tN t q 1=tN t q 0:=by cases t<;>simp[tN]
theorem Dc{t}{q j}{r}(h:t[j+1]? =some r):tN t q (j+1+1)=tN t q (j+1)++[rn q r]:=by
 unfold tN;rw[bg,h];have D:=(aw.1 h).1;rw[List.drop_append_of_le_length (by rw[cY];omega)];simp
theorem GD{t}{n}(q)(h:t.length=n):tN t q n=eA t q:=by
 unfold tN eA;rw[aM (by omega)]
theorem GC{t}{q j}(h:j<=t.length):(tN t q j).length=j-1:=by simp[tN];omega
theorem sF{q}{r}(h:q<r.length):(rn q r).length=r.length-1:=by simp[rn];omega
theorem jB{t}{n q}(h:cS t (n+1) (n+1))(I:q<n+1):cS (eA t q) n n:=by
 refine⟨by simp[eA,h.len],λr D=> ?_⟩;unfold eA at D;obtain⟨F,E,rfl⟩:=bi.1 D;have:=h.row F (fC E);rw[sF (by omega)];omega
theorem oM(xs ys):af (xs++ys)=af xs++af ys:=by simp[af]
theorem jL(xs)(q):af (xs.take q)=(af xs).take q:=by simp[af,mB]
theorem vQ(xs)(q):af (xs.drop q)=(af xs).drop q:=by simp[af,List.map_drop]
theorem ng{D}:∀u∈af D,u.oneCell'=true:=by
 intro u h;unfold af at h;obtain⟨x,_,rfl⟩:=bi.1 h;rfl
def rO:Nat->Int|0=>1|j+1=> -rO j
theorem oB:∀j,rO j=1\/rO j= -1
 |0=>Or.inl rfl
 |j+1=>by
  have:=oB j;unfold rO;omega
def kZ:Nat->List (List Int)->Int|0,_=>1|n+1,t=>cd (λj=>rO j*cB t 0 j*kZ n (eA t j)) (n+1)
def Bd(B:Int)(t:List (List Int)):Prop:=∀r∈t,∀x∈r,-B<=x/\x<=B
theorem Bd.minor{B}{t}(h:Bd B t)(q):Bd B (eA t q):=by
 intro r E x F;unfold eA at E;obtain⟨J,I,rfl⟩:=bi.1 E;refine h J (fC I) x ?_;unfold rn at F;rcases cH.1 F with D|D
 ·exact dh D
 ·exact fC D
theorem Bd.at{B}{t}{n m i j}(h:Bd B t)(E:cS t n m)(hi:i<n)(I:j<m): -B<=cB t i j/\cB t i j<=B:=by
 obtain⟨r,D,J,F⟩:=E.get hi;rw[iR D];have:=dR (xs:=r) (k:=j) (by omega);exact h r (aj D) _ (aj this)
def Bq(B:Int):Nat->Int|0=>1|n+1=>((n+1:Nat):Int)*(B*Bq B n)
theorem qM{B:Int}(h:0<=B):∀n,0<=Bq B n
 |0=>by show(0:Int)<=1;omega
 |n+1=>iL (by omega) (iL h (qM h n))
theorem Rf{x y X Y}(O: -X<=x/\x<=X)(Q: -Y<=y/\y<=Y): -(X*Y)<=x*y/\x*y<=X*Y:=by
 have F:0<=X:=(by omega);have I:0<=Y:=(by omega);have h:x.natAbs<=X.natAbs:=(by omega);have D:y.natAbs<=Y.natAbs:=(by omega);have E:=bX h D;rw[<-Int.natAbs_mul,<-Int.natAbs_mul] at E;have J:0<=X*Y:=iL F I;omega
theorem wP{f:Nat->Int}{B:Int}:∀{n:Nat},(∀k,k<n->-B<=f k/\f k<=B)->-((n:Nat)*B)<=cd f n/\cd f n<=(n:Nat)*B
 |0,_=>by simp[cd]
 |n+1,h=>by
  have F:=wP (n:=n) λk E=>h k (by omega)
  have D:=h n (by omega);have e:((n+1:Nat):Int)*B=(n:Int)*B+B:=by rw[Int.natCast_add,Int.add_mul];omega
  unfold cd;rw[e];omega
theorem Bg{B}{n}{t}(O:0<=B)(D:cS t (n+1) (n+1))(E:Bd B t){j}(I:j<n+1){d}(F: -(Bq B n)<=d/\d<=Bq B n): -(B*Bq B n)<=rO j*cB t 0 j*d/\rO j*cB t 0 j*d<=B*Bq B n:=by
 have J:=E.at D (i:=0) (j:=j) (by omega) I;refine Rf ?_ F;rcases oB j with h|h<;>rw[h]<;>omega
theorem Bh{B:Int}(h:0<=B):∀(n:Nat) (t:List (List Int)),cS t n n->Bd B t->-(Bq B n)<=kZ n t/\kZ n t<=Bq B n
 |0,t,_,_=>by show(-1:Int)<=1/\(1:Int)<=1;omega
 |n+1,t,hR,hb=>wP (n:=n+1) λj D=>Bg h hR hb D (Bh h n _ (jB hR D) (hb.minor j))
theorem Ih{B C:Int}(D:0<=B)(h:B<=C):∀n,Bq B n<=Bq C n
 |0=>Int.le_refl _
 |n+1=>Int.mul_le_mul_of_nonneg_left (lG h (Ih D h n) (qM D n) (by omega)) (by omega)
theorem Ii{n}(E:n<=4){B}(h:0<=B)(D:B<=10000):Bq B n<=240000000000000000:=by
 refine ir (Ih h D n) ?_;match n,E with
 |0,_=>decide
 |1,_=>decide
 |2,_=>decide
 |3,_=>decide
 |4,_=>decide
theorem Kk{B}{f}{n j}(D:0<=B)(h:∀k,k<n->-B<=f k/\f k<=B)(I:j<=n): -((n:Nat)*B)<=cd f j/\cd f j<=(n:Nat)*B:=by
 have E:=wP (n:=j) λk J=>h k (by omega)
 have F:(j:Int)*B<=(n:Int)*B:=cQ (by omega) D;omega
def kO(M:List (List Int))(q d:Int)(p r:Nat):Int:=(if p=r then q else 0)-d*cB M p r
def fi(M:List (List Int))(n:Nat)(q d:Int):List (List Int):=el n n (kO M q d)
def mJ(M:List (List Int))(q d:Int)(i j p r:Nat):Int:=if p<i then kO M q d p r else if p=i/\r<j then-d*cB M p r else 0
theorem Jm(M)(n)(q d):el n n (mJ M q d 0 0)=cO n n:=by
 rw[<-ph];exact ib λp r _ _=>by unfold mJ;rw[if_neg (by omega),if_neg (by omega)]
theorem MO{M}{n i j}{q d}(hi:i<n)(F:j<n):put2 (el n n (mJ M q d i j)) i j (-d*cB M i j)=el n n (mJ M q d i (j+1)):=by
 refine nI hi F (by unfold mJ;rw[if_neg (by omega),if_pos ⟨rfl,by omega⟩]) λp r _ _ h=> ?_
 unfold mJ;by_cases D:p<i
 ·rw[if_pos D,if_pos D]
 ·rw[if_neg D,if_neg D];by_cases E:p=i/\r<j
  ·rw[if_pos E,if_pos (by omega)]
  ·rw[if_neg E,if_neg (by omega)]
theorem MN{M}{n i}{q d}(hi:i<n):put2 (el n n (mJ M q d i n)) i i (-d*cB M i i+q)=el n n (mJ M q d (i+1) 0):=by
 refine nI hi hi (by unfold mJ kO;rw[if_pos (by omega),if_pos rfl,Int.neg_mul];omega) λp r _ F h=> ?_
 unfold mJ;by_cases D:p<i
 ·rw[if_pos D,if_pos (by omega)]
 ·rw[if_neg D];by_cases E:p=i
  ·rw[if_pos (by omega),if_pos (by omega)];unfold kO;rw[if_neg (by omega),Int.neg_mul];omega
  ·rw[if_neg (by omega),if_neg (by omega),if_neg (by omega)]
theorem Pf{M}{n i}{q d}(hi:i<n):cB (el n n (mJ M q d i n)) i i= -d*cB M i i:=by
 rw[km _ hi hi];unfold mJ;rw[if_neg (by omega),if_pos ⟨rfl,hi⟩]
theorem MP(M)(n)(q d):el n n (mJ M q d n 0)=fi M n q d:=ib λp r h _=>by
 unfold mJ;rw[if_pos h]
theorem th{d x:Int}(D:0<=d/\d<=100)(h:0<=x/\x<=9):0<=d*x/\d*x<=900:=by
 have E:=iL D.1 h.1;have F:d*x<=100*9:=lG D.2 h.2 h.1 (by omega);omega
theorem Pe{M}{n}{q d}(D:∀i j,i<n->j<n->0<=cB M i j/\cB M i j<=9)(Q:0<=q/\q<=3601)(E:0<=d/\d<=100):Bd 10000 (fi M n q d):=by
 intro r h x J;unfold fi el at h;obtain⟨p,F,rfl⟩:=bi.1 h;obtain⟨s,I,rfl⟩:=bi.1 J;have O:=th E (D p s (aD.1 F) (aD.1 I));unfold kO;split<;>omega
theorem sj(a)(n c)(M)(q d)(w)(b6:bZ w a n M)(b8:cS M n n)(e4:1<=n/\n<=4)(b7:∀i j,i<n->j<n->0<=cB M i j/\cB M i j<=9)(e7:0<=q/\q<=3601)(c5:0<=d/\d<=100):
 Calls prog 208 #[.slice a n c,Ud q,Ud d] w (cK (fi M n q d) w):=by
 have Z:=aa (λw=>lr n w (by omega));have c9:=aa (λ(i:Nat) (hi:i<n)=>fQ b6 b8 hi);have a8:=aa b7;have b1:=aa (λ(i j:Nat) (hi:i<n) (d5:j<n)=>MO (M:=M) (q:=q) (d:=d) hi d5);have b2:=aa (λ(i:Nat) (hi:i<n)=>MN (M:=M) (q:=q) (d:=d) hi);have a5:=aa (λ(i:Nat) (hi:i<n)=>Pf (M:=M) (q:=q) (d:=d) hi);have Y:=aa (MP M n q d);have b5:=aa (Jm M n q d);have U:=aa (λi j=>df n n (mJ M q d i j));have f0:IntKind.i64.wrap (-d)= -d:=au _ (by omega);unfold cK at Z;obtain⟨R,a1⟩:=aB (fi M n q d);rw[<-a1] at Y;rw[<-a1];obtain⟨T,b9⟩:=aB (λi j=>el n n (mJ M q d i j));have b4:=aa (λi j=>show el n n (mJ M q d i j)=T i j by rw[b9]);simp only[b4.o] at b1 b2 a5 Y b5 U;clear b6 b8 a1 b9 b7 b4;go_enter func208,ntmps208;go_wp2_with fail;refine(Z.o _).mono ?_;rintro e f1 ⟨v,rfl,W,c1⟩;rw[<-b5.o] at W;obtain⟨a0,cv,rfl,_,_⟩:=cT W (U.o 0 0).len (by omega);have a7:=aa W;have a6:=aa c1;clear W c1 Z;go_wp2;go_loopw[17] (λi wr=>∃p:Nat,p<=n/\i= Ud p/\bv (ct 37 3 wr w.1.size (.slice (some ⟨a0,0,none⟩) n cv) (T p 0))/\bv (Below w.1.size w wr)) (λi _=>n-(intOf i).toNat);exact⟨0,by omega,rfl,a7,a6⟩;clear a7 a6;obtain⟨p,e5,rfl,E,h⟩:=hrel;by_cases D:p<n
 ·have e6:(p:Int)<(n:Int):=by omega
  obtain⟨b,e2,a',c',r,rfl,d2,c2,c6,d6,c0⟩:=c9.o p D;have d4:=(h.o.cell (p:=⟨b,e2+p,none⟩) d2).trans c2;have b3:=aa c6;have c7:=aa c0;clear c2 c6 c0 d6;go_wp2;go_loopw[24] (λi wr=>∃s:Nat,s<=n/\i= Ud s/\bv (ct 37 3 wr w.1.size (.slice (some ⟨a0,0,none⟩) n cv) (T p s))/\bv (Below w.1.size w wr)) (λi _=>n-(intOf i).toNat);exact⟨0,by omega,rfl,E,h⟩;clear E h d4;obtain⟨s,e8,rfl,E,h⟩:=hrel;by_cases a2:s<n
  ·have e9:(s:Int)<(n:Int):=by omega
   obtain⟨d0,e3,rfl,d3,c3⟩:=b3.o.at_ (by omega);have d7:r.length=n:=by simpa[af] using b3.o.len
   have c4:=(h.o.cell (p:=⟨d0,e3+s,none⟩) d3).trans (c3 s (Ud (mP r s)) (aP (dR (by omega))));rw[<-c7.o s] at c4;obtain⟨g,d1,d9,a4,e0,e1,Q⟩:=en E.o (by decide) (U.o p s) D a2;have J:=a8.o p s D a2;have a3:=th c5 J;have b0:=aa (b1.o p s D a2);obtain⟨x,O⟩:=aB (cB M p s);rw[<-O] at c4 b0 a3;have d8:IntKind.i64.wrap (-d*x)= -d*x:=au _ (by rw[Int.neg_mul];omega);have F:=aa (Q (-d*x));clear Q O c3 d7 J;go_wp2;go_roundw;exact⟨s+1,by omega,by go_num,aa (by rw[<-b0.o];exact F.o.1),aa (h.o.grown F.o.2 h.o.size (λk I=>by injection I with I;omega))⟩;simp[intOf];omega
  ·obtain rfl:s=n:=by omega
   obtain⟨g,d1,d9,a4,e0,e1,Q⟩:=en E.o (by decide) (U.o p s) D D;rw[a5.o p D] at a4;have J:=a8.o p p D D;have a3:=th c5 J;have a9:=aa (b2.o p D);obtain⟨x,O⟩:=aB (cB M p p);rw[<-O] at a4 a9 a3;have d8:IntKind.i64.wrap (-d*x+q)= -d*x+q:=au _ (by rw[Int.neg_mul];omega);have F:=aa (Q (-d*x+q));clear Q O J;go_wp2;go_roundw;exact⟨p+1,by omega,by go_num,aa (by rw[<-a9.o];exact F.o.1),aa (h.o.grown F.o.2 h.o.size (λk I=>by injection I with I;omega))⟩;simp[intOf];omega
 ·obtain rfl:p=n:=by omega
  have c8:=aa (show ct 37 3 wr w.1.size (.slice (some ⟨a0,0,none⟩) p cv) R from by rw[<-Y.o];exact E.o);go_wp2;go_ret;exact⟨_,rfl,c8.o,h.o⟩
def tP(M:List (List Int))(i j p r:Nat):Int:=if p<i\/(p=i/\r<j) then kO M 1 1 p r else if p=r then 1 else 0
theorem Po(M)(n):kj n=el n n (tP M 0 0):=ib λp r D _=>by
 unfold oy tP;rw[if_neg (show¬(p<0\/p=0/\r<0) by omega)];by_cases h:p=r
 ·rw[if_pos ⟨h,D⟩,if_pos h]
 ·rw[if_neg (by omega),if_neg h]
theorem Rw{M}{n i j}(hi:i<n)(E:j<n):put2 (el n n (tP M i j)) i j ((if i=j then 1 else 0)-cB M i j)=el n n (tP M i (j+1)):=by
 refine nI hi E (by unfold tP kO;rw[if_pos (by omega),Int.one_mul]) λp r _ _ h=> ?_
 unfold tP;by_cases D:p<i\/(p=i/\r<j)
 ·rw[if_pos D,if_pos (by omega)]
 ·rw[if_neg D,if_neg (by omega)]
theorem Pp(M)(n i):el n n (tP M i n)=el n n (tP M (i+1) 0):=ib λp r _ D=>by
 unfold tP;by_cases h:p<i\/(p=i/\r<n)
 ·rw[if_pos h,if_pos (by omega)]
 ·rw[if_neg h,if_neg (show¬(p<i+1\/p=i+1/\r<0) by omega)]
theorem Rx(M)(n):el n n (tP M n 0)=fi M n 1 1:=ib λp r h _=>by
 unfold tP;rw[if_pos (Or.inl h)]
theorem SX{M}{n i j}(hi:i<n)(h:j<n):cB (el n n (tP M i j)) i j=if i=j then 1 else 0:=by
 rw[km _ hi h];unfold tP;rw[if_neg (by omega)]
theorem qT(a)(n c)(M)(w)(b0:bZ w a n M)(b2:cS M n n)(d5:1<=n/\n<=4)(b1:∀i j,i<n->j<n->0<=cB M i j/\cB M i j<=9):
 Calls prog 218 #[.slice a n c] w (cK (fi M n 1 1) w):=by
 have W:=aa (λw=>qr n w d5.1 (by omega));have c9:=aa (λ(i:Nat) (hi:i<n)=>fQ b0 b2 hi);have c8:=aa b1;have a6:=aa (λ(i j:Nat) (hi:i<n) (Z:j<n)=>Rw (M:=M) hi Z);have a5:=aa (λ(i:Nat)=>Pp M n i);have a1:=aa (λ(i j:Nat) (hi:i<n) (Z:j<n)=>SX (M:=M) hi Z);have O:=aa (Rx M n);have a9:=aa (Po M n);have U:=aa (λi j=>df n n (tP M i j));unfold cK at W;obtain⟨R,Y⟩:=aB (fi M n 1 1);rw[<-Y] at O;rw[<-Y];obtain⟨T,b3⟩:=aB (λi j=>el n n (tP M i j));have a8:=aa (λi j=>show el n n (tP M i j)=T i j by rw[b3]);simp only[a8.o] at a6 a5 a1 O a9 U;clear b0 b2 Y b3 b1 a8;go_enter func218,ntmps218;go_wp2_with fail;refine(W.o _).mono ?_;rintro e f3 ⟨v,rfl,I,b5⟩;rw[a9.o] at I;obtain⟨F,cv,rfl,_,_⟩:=cT I (U.o 0 0).len (by omega);have a3:=aa I;have a2:=aa b5;clear I b5 W;go_wp2;go_loopw[4] (λi wr=>∃p:Nat,p<=n/\i= Ud p/\bv (ct 37 3 wr w.1.size (.slice (some ⟨F,0,none⟩) n cv) (T p 0))/\bv (Below w.1.size w wr)) (λi _=>n-(intOf i).toNat);exact⟨0,by omega,rfl,a3,a2⟩;clear a3 a2;obtain⟨p,e4,rfl,D,h⟩:=hrel;by_cases E:p<n
 ·have e5:(p:Int)<(n:Int):=by omega
  obtain⟨b,d9,a',c',r,rfl,d3,b6,c0,d6,b4⟩:=c9.o p E;have c5:=aa b6;have a7:=aa c0;have c4:=aa b4;clear b6 c0 b4 d6;go_wp2;go_loopw[5] (λi wr=>∃s:Nat,s<=n/\i= Ud s/\bv (ct 37 3 wr w.1.size (.slice (some ⟨F,0,none⟩) n cv) (T p s))/\bv (Below w.1.size w wr)) (λi _=>n-(intOf i).toNat);exact⟨0,by omega,rfl,D,h⟩;clear D h;obtain⟨s,e6,rfl,D,h⟩:=hrel;by_cases J:s<n
  ·have e7:(s:Int)<(n:Int):=by omega
   have e3:=(h.o.cell (p:=⟨b,d9+p,none⟩) d3).trans c5.o;obtain⟨d0,e0,rfl,d4,b7⟩:=a7.o.at_ (by omega);have d7:r.length=n:=by simpa[af] using a7.o.len
   have b8:=(h.o.cell (p:=⟨d0,e0+s,none⟩) d4).trans (b7 s (Ud (mP r s)) (aP (dR (by omega))));rw[<-c4.o s] at b8;obtain⟨g,e2,f0,c2,f1,f2,c3⟩:=en D.o (by decide) (U.o p s) E J;rw[a1.o p s E J] at c2;have d8:=c8.o p s E J;have Q:=aa (a6.o p s E J);obtain⟨x,c1⟩:=aB (cB M p s);rw[<-c1] at b8 Q d8;obtain⟨u,a0⟩:=aB (α:=Int) (if p=s then 1 else 0);rw[<-a0] at c2 Q;have e8:0<=u/\u<=1:=by rw[a0];split<;>omega
   have e9:IntKind.i64.wrap (u-x)=u-x:=au _ (by omega);have a4:=aa (c3 (u-x));clear c3 c1 b7 d7 a0;go_wp2;(refine wp_region_still_tail 21 (by kernel_rfl) (by kernel_rfl) ?_;change wpStill _ _ (World.drew _) (λa'=>wpList _ _ _ _ a' (World.drew _)) _ _;simp only[de,eW,et,eY];repeat still_step);refine wpStill_nil ?_;go_wp2;go_roundw;exact⟨s+1,by omega,by go_num,aa (by rw[<-Q.o];obtain⟨e1,d1,d2⟩:=a4.o.1;exact⟨e1,ai d1 aZ.drew,d2.below aZ.drew⟩),aa ((h.o.grown a4.o.2 h.o.size (λk b9=>by injection b9 with b9;omega)).drew)⟩;simp[intOf];omega
  ·obtain rfl:s=n:=by omega
   have c7:=aa (show ct 37 3 wr w.1.size (.slice (some ⟨F,0,none⟩) s cv) (T (p+1) 0) from by rw[<-a5.o];exact D.o);go_wp2;go_roundw;exact⟨p+1,by omega,by go_num,c7,h⟩;simp[intOf];omega
 ·obtain rfl:p=n:=by omega
  have c6:=aa (show ct 37 3 wr w.1.size (.slice (some ⟨F,0,none⟩) p cv) R from by rw[<-O.o];exact D.o);go_wp2;go_ret;exact⟨_,rfl,c6.o,h.o⟩
theorem zF(a)(n c q)(t)(w)(d6:gU w a n t)(a1:cS t n n)(h1:n<=9)(g0:q<n):
 Calls prog 251 #[.slice a n c,Ud 0,Ud q] w (cK (eA t q) w):=by
 have g6:=aa a1.len;have e7:=aa (λ(i:Nat) (hi:i<n)=>Ot d6 a1 hi);have e5:=aa (GD q a1.len);have e4:=aa (GB t q);have e8:=aa (λ(j:Nat) (r:List Int) (c6:t[j+1]? =some r)=>Dc (q:=q) c6);have d2:=aa (λ(j:Nat) (e1:j<=n)=>GC (t:=t) (q:=q) (j:=j) (by rw[a1.len];exact e1));have d7:Below w.1.size w (w.alloc (.cells #[] 37)):=aZ.alloc aQ _;have d0:=aa (show ct 37 3 (w.alloc (.cells #[] 37)) w.1.size (.slice (some ⟨w.1.size,0,none⟩) 0 0) (tN t q 0) from⟨[],by rw[xl];exact bd #[] _ rfl aQ (by unfold maxLen;simp),by rw[xl];exact bS.nil _ _ _⟩);have c8:=aa d7;have h4:(q:Int)+1<=(n:Int):=(by omega);have h6:q+1<=n:=g0;go_enter func251,ntmps251;go_wp2;go_loopw[7,8] (λv i wr=>∃j:Nat,j<=n/\i= Ud j/\bv (ct 37 3 wr w.1.size v (tN t q j))/\bv (Below w.1.size w wr)) (λ_ i _=>n-(intOf i).toNat);exact⟨0,by omega,rfl,d0,c8⟩;obtain⟨j,e1,rfl,b4,h⟩:=hrel;by_cases f4:j<n
 ·have h0:(j:Int)<(n:Int):=by omega
  by_cases f3:j=0
  ·subst f3;go_wp2;go_roundw;exact⟨0+1,by omega,by go_num,aa (by rw[aW,e4.o];exact b4.o),h⟩;simp[intOf];omega
  ·obtain⟨i,rfl⟩:∃i,j=i+1:=⟨j-1,by omega⟩;obtain⟨b,b0,a',c',r,rfl,d9,f0,g7,g1,c6,h7,_⟩:=e7.o (i+1) f4;obtain⟨D,F,rfl,a7,e0⟩:=g1.at_ (by omega);have a2:=(h.o.cell (p:=⟨b,b0+(i+1),none⟩) d9).trans f0;have h2:(((i:Int)+1)==0)=false:=by simp;omega
   have g8:(n:Int)<=(c':Int):=(by omega);have h3:(q:Int)<=(c':Int):=(by omega);have h5:(q:Int)<=(n:Int):=(by omega);have a8:Below wr.1.size wr (wr.alloc (.cells #[] 3)):=aZ.alloc aQ _;have c0:=aH d9 h.o.size;have b3:=aa a2;have g9:=(a8.cell (p:=⟨b,b0+(i+1),none⟩) c0).trans a2;have d3:=aa (bd (w:=wr) (base:=wr.1.size) (e:=3) #[] [] rfl aQ (by unfold maxLen;simp));have b3:=aa a2;have g3:IntKind.i64.wrap ((q:Int)+1)=(q:Int)+1:=au _ (by omega);have g3:IntKind.i64.wrap ((q:Int)+1)=(q:Int)+1:=au _ (by omega);obtain⟨e3,c5,e2⟩:=b4.o;rw[d2.o (i+1) (by omega),eG] at c5;have a9:=h.o.size;have d5:=aa (show(af (r.take q)).length=q by simp[af];omega);have c9:=aa (λ(x:Nat) (u:Value) (I:(af (r.take q))[x]? =some u)=>show(wr.alloc (.cells #[] 3)).cell? ⟨D,F+x,none⟩=some u from by
    rw[jL] at I;refine((a8.cell (p:=⟨D,F+x,none⟩) (aH a7 h.o.size)).trans (h.o.cell (p:=⟨D,F+x,none⟩) a7)).trans (e0 x u ?_);rw[cP] at I;split at I
    ·exact I
    ·cases I)
   have d4:=aa (e8.o i r c6);have d1:=aa (d2.o (i+1+1) (by omega));by_cases f2:c'=q+1
   ·have f7:n=q+1:=by omega
    subst f2;subst f7;have Y:=aa (show(rn q r).length=q+0 by rw[sF (by omega)];omega);have a6:=aa (show(af (r.drop (q+1))).length=0 by simp[af];omega);have b2:=aa (λ(V:World) (d8:Below wr.1.size wr V) (x:Nat) (u:Value) (I:(af (r.drop (q+1)))[x]? =some u)=>show V.cell? ⟨D,F+x,none⟩=some u from by
     have e9:=(aw.1 I).1;rw[a6.o] at e9;omega)
    go_wp2_with(first|(at_builtin;first|(refine aX rfl _ _ 37 rfl wr.1.size 3 (Ud 0) 8 underlying37 bK rfl wr.1.size 0 0 [] d3.o rfl D F q (q+1) (af (r.take q)) rfl d5.o c9.o ng (by omega) (by unfold maxLen;omega) (by simp) ?_;intro a0 b7 c7 U c3 f8 f5;rw[aW,fe] at U;have J:=a8.grown c3 (by simp) (by rintro k ⟨⟩;exact aN _);have f1:=(J.cell (p:=⟨b,b0+(i+1),none⟩) c0).trans b3.o;have c1:=(U.lt a0 rfl).1;have a5:=J.size;try simp only[aW])|(refine aX rfl _ _ 37 rfl wr.1.size 3 (Ud 0) 8 underlying37 bK rfl a0 b7 q (af (r.take q)) U rfl D F 0 0 (af (r.drop (q+1))) rfl a6.o (b2.o c7 J) ng (by omega) (by unfold maxLen;omega) a5 ?_;intro b9 b8 g4 W a3 f9 f6;have E:=J.grown a3 a5 (by rintro k ⟨⟩;exact c1);have c2:=(W.lt b9 rfl).1;have O:=ai c5 E;have g2:=E.size)|(refine eu rfl _ _ 24 rfl w.1.size 37 (.slice none 0 0) 24 underlying24 eS rfl _ i e3 _ O rfl rfl rfl (by omega) (by unfold maxLen;omega) (by omega) ?_;intro v' g5 a4 Q)));have Z:=aa (e2.moreAt (r:=rn q r) (c:=b8) (eU E) c2 (by rw[Y.o];unfold rn;rw[oM];exact aT W a9));rw[Y.o] at Z;have b6:=aa (Z.o.kept O (by decide) Q);have b5:=aa a4;have b1:=aa ((h.o.trans (E.mono a9)).grown Q (by omega) (λk c4=>(O.lt k c4).1));go_roundw;exact⟨i+1+1,by omega,by go_num,aa ⟨_,by rw[d1.o];exact b5.o,by rw[d4.o];exact b6.o⟩,b1⟩;simp[intOf];omega
   ·have Y:=aa (show(rn q r).length=q+(n-(q+1)) by rw[sF (by omega)];omega);have a6:=aa (show(af (r.drop (q+1))).length=n-(q+1) by simp[af];omega);have b2:=aa (λ(V:World) (d8:Below wr.1.size wr V) (x:Nat) (u:Value) (I:(af (r.drop (q+1)))[x]? =some u)=>show V.cell? ⟨D,F+(q+1)+x,none⟩=some u from by
     rw[vQ,List.getElem?_drop] at I;rw[kh];exact((d8.cell (p:=⟨D,F+(q+1+x),none⟩) (aH a7 h.o.size)).trans (h.o.cell (p:=⟨D,F+(q+1+x),none⟩) a7)).trans (e0 _ u I))
    go_wp2_with(first|(at_builtin;first|(refine aX rfl _ _ 37 rfl wr.1.size 3 (Ud 0) 8 underlying37 bK rfl wr.1.size 0 0 [] d3.o rfl D F q c' (af (r.take q)) rfl d5.o c9.o ng (by omega) (by unfold maxLen;omega) (by simp) ?_;intro a0 b7 c7 U c3 f8 f5;rw[aW,fe] at U;have J:=a8.grown c3 (by simp) (by rintro k ⟨⟩;exact aN _);have f1:=(J.cell (p:=⟨b,b0+(i+1),none⟩) c0).trans b3.o;have c1:=(U.lt a0 rfl).1;have a5:=J.size;try simp only[aW])|(refine aX rfl _ _ 37 rfl wr.1.size 3 (Ud 0) 8 underlying37 bK rfl a0 b7 q (af (r.take q)) U rfl D (F+(q+1)) (n-(q+1)) (c'-(q+1)) (af (r.drop (q+1))) rfl a6.o (b2.o c7 J) ng (by omega) (by unfold maxLen;omega) a5 ?_;intro b9 b8 g4 W a3 f9 f6;have E:=J.grown a3 a5 (by rintro k ⟨⟩;exact c1);have c2:=(W.lt b9 rfl).1;have O:=ai c5 E;have g2:=E.size)|(refine eu rfl _ _ 24 rfl w.1.size 37 (.slice none 0 0) 24 underlying24 eS rfl _ i e3 _ O rfl rfl rfl (by omega) (by unfold maxLen;omega) (by omega) ?_;intro v' g5 a4 Q)));have Z:=aa (e2.moreAt (r:=rn q r) (c:=b8) (eU E) c2 (by rw[Y.o];unfold rn;rw[oM];exact aT W a9));rw[Y.o] at Z;have b6:=aa (Z.o.kept O (by decide) Q);have b5:=aa a4;have b1:=aa ((h.o.trans (E.mono a9)).grown Q (by omega) (λk c4=>(O.lt k c4).1));go_roundw;exact⟨i+1+1,by omega,by go_num,aa ⟨_,by rw[d1.o];exact b5.o,by rw[d4.o];exact b6.o⟩,b1⟩;simp[intOf];omega
 ·obtain rfl:j=n:=by omega
  have e6:=aa (show ct 37 3 wr w.1.size u7 (eA t q) from by rw[<-e5.o];exact b4.o);go_wp2;go_ret;exact⟨_,rfl,e6.o,h.o⟩
theorem CA{P}{w0 wr}{b5}{o}{a}{K}{Q}{E}
 (a0:o.guard=none)(s x)(t)(a6:o.op=Op.call {callee:=Callee.builtin Builtin.append,args:=#[s,x],argTypes:=#[t,t]})
 (B)(e)(z)(F)(U:P.underlying t=some (.slice e))(a2:(P.info? e).map (λi=>(i.zero,i.size,i.bytes))=some (some z,1,F))(b4:z.cells.size=1)
 (v)(m)(xs)(u)(J:wr.ownsRow B e 1 v m xs)(a8:a.eval s=v)(b0:a.eval x= .slice (some ⟨wr.1.size,0,none⟩) 1 1)
 (a9:u.oneCell'=true)(a4:(m+1)*F<=140737488355328)(a5:m+1<=maxLen)(Z:Below B w0 wr)(W:B<=wr.1.size)
 (Y:∀v' h,h.ownsRow B e 1 v' (m+1) (xs++[u])->Below B w0 h->wr.grownBy h v.ownBlock->K (a.put o.dst v') h):
 if Region.wanted o (yielded b5 a.tmps)=true then Oper.wp P o a (wr.alloc (.cells #[u] e)).drew K Q else E:=by
 obtain⟨i,hi,b1,b2,b3⟩:=info_parts a2;refine step_append_lies _ a0 s x t a6 B e i z 1 F U hi b1 b2 b3 b4 (by decide) v m xs a8 (ai (J.alloc _) aZ.drew) ⟨wr.1.size,0,none⟩ 1 1 [u] b0 rfl ?_ ?_ (by decide) a5 a4 (by show B<=(wr.alloc _).1.size;simp;omega) (wr.1.size+1) (by show(wr.alloc _).1.size=_;simp) ?_
 ·intro j y D;match j,D with
  |0,D=>
   simp at D;subst D;show(wr.alloc (.cells #[u] e)).cell? _=_
   simp[Addr.add]
 ·intro y O;simp at O;subst O;exact a9
 ·intro g cap h a7 a1 _ _;have I:wr.grownBy h v.ownBlock:=dd (dd (cC _ _ _) (oR aZ.drew _)) a1;exact Y _ h a7 (Z.grown I W (λk a3=>(J.lt k a3).1)) I
theorem Ol{P}{V}(t W)(B)(e)(z)(Z)(a0:P.underlying t=some (.slice e))(b7:(P.info? e).map (λi=>(i.zero,i.size,i.bytes))=some (some z,1,Z))(c0:z.cells.size=1)
 (h m I)(xs)(E:V.ownsRow B e 1 (.slice (some ⟨h,0,none⟩) m I) m xs)(F)(u)(b2:V.cell? ⟨F,0,none⟩=some u)(b9:u.oneCell'=true)
 (a4:(m+1)*Z<=140737488355328)(a5:m+1<=maxLen)(b1:B<=V.1.size):
 ∃J c' Y,(Builtin.append_ #[t,t] W #[.slice (some ⟨h,0,none⟩) m I,.slice (some ⟨F,0,none⟩) 1 1]).run P V= .ok (.slice (some ⟨J,0,none⟩) (m+1) c') Y/\Y.ownsRow B e 1 (.slice (some ⟨J,0,none⟩) (m+1) c') (m+1) (xs++[u])/\V.grownBy Y (some h)/\(J=h\/J=V.1.size)/\∀(j:Nat) (y:Value),xs[j]? =some y->Y.cell? ⟨h,j,none⟩=some y:=by
 obtain⟨i,hi,a9,U,b0⟩:=info_parts b7;have a2:∀(j:Nat) (y:Value),[u][j]? =some y->V.cell? ((⟨F,0,none⟩:Addr).add j)=some y:=by
  intro j y D;match j,D with
  |0,D=>
   simp at D;subst D;simpa[Addr.add] using b2
 have a7:∀y∈[u],y.oneCell'=true:=by intro y a8;simp at a8;subst a8;exact b9
 have c3:xs.length=m:=by simpa using E.1
 by_cases b4:m+1<=I
 ·obtain⟨w',Q,O,a1⟩:=run_append_fits (P:=P) V B t W e i 1 a0 hi U h m I xs E ⟨F,0,none⟩ 1 1 [u] rfl a2 a7 b4;refine⟨h,I,w',Q,O,a1,.inl rfl,λj y D=> ?_⟩;have a3:=(aw.1 D).1;rw[O.cellAt j (by omega),aR a3];exact D
 ·obtain⟨c1,c2,b5,_⟩:=gG E;have b6:h<V.1.size:=(bD.1 b5).1;have b8:∀(j:Nat) (y:Value),xs[j]? =some y->V.cell? ((⟨h,0,none⟩:Addr).add j)=some y:=E.cells (g:=h) rfl;have Q:=run_append_grow (P:=P) V t W e i z a0 hi a9 ⟨h,0,none⟩ m I xs (by rw[U];simpa using E.1) b8 ⟨F,0,none⟩ 1 1 [u] (by rw[U];rfl) a2 (by omega) (by unfold maxLen at a5;omega) (growslice_fits (by omega) (by rw[b0];exact a4));obtain⟨v',w',a6,O,a1,_⟩:=run_append_own (P:=P) V B t W e i z 1 Z a0 hi a9 U b0 c0 (by decide) _ m xs E ⟨F,0,none⟩ 1 1 [u] rfl a2 a7 a5 a4 b1;rw[Q] at a6;injection a6 with e1 e2
  subst e1 e2;refine⟨_,_,_,Q,O,a1,.inr rfl,λj y D=> ?_⟩;have b3:V.drew.cell? ⟨h,j,none⟩=some y:=by
   have a3:=(aw.1 D).1;exact(E.cellAt j (by omega)).trans D
  exact((aV V.drew.1.size V.drew).alloc aQ _).cell (p:=⟨h,j,none⟩) b6|>.trans b3
theorem LI{P}{V}{U}{o}{a}{K}{Q}{E}
 (a5:o.guard=none)(s x)(t)(a9:o.op=Op.call {callee:=Callee.builtin Builtin.append,args:=#[s,x],argTypes:=#[t,t]})
 (B)(e)(z)(J)(W:P.underlying t=some (.slice e))(a6:(P.info? e).map (λi=>(i.zero,i.size,i.bytes))=some (some z,1,J))(b6:z.cells.size=1)
 (D m O)(xs)(u)(b0:V.ownsRow B e 1 (.slice (some ⟨D,0,none⟩) m O) m xs)(b2:a.eval s= .slice (some ⟨D,0,none⟩) m O)(I:Nat)(b5:a.eval x= .slice (some ⟨I,0,none⟩) 1 1)(a4:V.cell? ⟨I,0,none⟩=some u)
 (b3:u.oneCell'=true)(a7:(m+1)*J<=140737488355328)(a8:m+1<=maxLen)(a2:B<=V.1.size)
 (a3:∀h c' F,F.ownsRow B e 1 (.slice (some ⟨h,0,none⟩) (m+1) c') (m+1) (xs++[u])->V.grownBy F (some D)->(h=D\/h=V.1.size)->(∀(j:Nat) (y:Value),xs[j]? =some y->F.cell? ⟨D,j,none⟩=some y)->K (a.put o.dst (.slice (some ⟨h,0,none⟩) (m+1) c')) F):
 if Region.wanted o (yielded U a.tmps)=true then Oper.wp P o a V K Q else E:=by
 have b4:Region.wanted o (yielded U a.tmps)=true:=by simp[Region.wanted,a5]
 rw[if_pos b4];obtain⟨h,c',F,b1,Y,Z,a0,a1⟩:=Ol (P:=P) (V:=V) t o.type B e z J W a6 b6 D m O xs b0 I u a4 b3 a7 a8 a2;unfold Oper.wp execOp;simp only[a9,resolve,invoke,builtin,Sem.run_bind,Sem.run_pure,Result.andThen_ok,List.map_toArray,ej,lD,b2,b5,b1];exact a3 h c' F Y Z a0 a1
theorem Ok{P}{V}(t U)(B)(e)(z)(W)(Y:P.underlying t=some (.slice e))(b4:(P.info? e).map (λi=>(i.zero,i.size,i.bytes))=some (some z,1,W))(b7:z.cells.size=1)
 (h m E)(xs)(F:V.ownsRow B e 1 (.slice (some ⟨h,0,none⟩) m E) m xs)(b I k c)(D)(b8:D.length=k)(b2:∀j u,D[j]? =some u->V.cell? ⟨b,I+j,none⟩=some u)(a7:∀u∈D,u.oneCell'=true)
 (a4:(m+k)*W<=140737488355328)(a5:m+k<=maxLen)(b1:B<=V.1.size):
 ∃J c' a2,(Builtin.append_ #[t,t] U #[.slice (some ⟨h,0,none⟩) m E,.slice (some ⟨b,I,none⟩) k c]).run P V= .ok (.slice (some ⟨J,0,none⟩) (m+k) c') a2/\a2.ownsRow B e 1 (.slice (some ⟨J,0,none⟩) (m+k) c') (m+k) (xs++D)/\V.grownBy a2 (some h)/\(J=h\/V.1.size<=J):=by
 obtain⟨i,hi,a8,Q,a9⟩:=info_parts b4;have a1:∀j u,D[j]? =some u->V.cell? ((⟨b,I,none⟩:Addr).add j)=some u:=by
  intro j u b5;have a3:=b2 j u b5;unfold Addr.add;split
  ·rename_i b0;subst b0;exact a3
  ·exact a3
 by_cases b3:m+k<=E
 ·obtain⟨w',O,Z,a0⟩:=run_append_fits (P:=P) V B t U e i 1 Y hi Q h m E xs F ⟨b,I,none⟩ k c D (by omega) a1 a7 b3;exact⟨h,E,w',O,Z,a0,.inl rfl⟩
 ·have b9:m<=E:=(gG F).choose_spec.2.2.1;have c0:xs.length=m:=by simpa using F.1
  have b6:∀(j:Nat) (y:Value),xs[j]? =some y->V.cell? ((⟨h,0,none⟩:Addr).add j)=some y:=F.cells (g:=h) rfl;have O:=run_append_grow (P:=P) V t U e i z Y hi a8 ⟨h,0,none⟩ m E xs (by rw[Q];simpa using F.1) b6 ⟨b,I,none⟩ k c D (by rw[Q];omega) a1 (by omega) (by unfold maxLen at a5;omega) (growslice_fits (by omega) (by rw[a9];exact a4));obtain⟨v',w',a6,Z,a0,_⟩:=run_append_own (P:=P) V B t U e i z 1 W Y hi a8 Q a9 b7 (by decide) _ m xs F ⟨b,I,none⟩ k c D (by omega) a1 a7 a5 a4 b1;rw[O] at a6;injection a6 with e1 e2
  subst e1 e2;exact⟨_,_,_,O,Z,a0,.inr aQ⟩
theorem kI{P}{V}{W}{o}{a}{K}{Q}{E}
 (a5:o.guard=none)(s x)(t)(b0:o.op=Op.call {callee:=Callee.builtin Builtin.append,args:=#[s,x],argTypes:=#[t,t]})
 (B)(e)(z)(J)(Y:P.underlying t=some (.slice e))(a6:(P.info? e).map (λi=>(i.zero,i.size,i.bytes))=some (some z,1,J))(b7:z.cells.size=1)
 (D m O)(xs)(b1:V.ownsRow B e 1 (.slice (some ⟨D,0,none⟩) m O) m xs)(b3:a.eval s= .slice (some ⟨D,0,none⟩) m O)(b U k c)(F:List Value)(b6:a.eval x= .slice (some ⟨b,U,none⟩) k c)
 (a7:F.length=k)(a4:∀j u,F[j]? =some u->V.cell? ⟨b,U+j,none⟩=some u)(b4:∀u∈F,u.oneCell'=true)(a8:(m+k)*J<=140737488355328)(a9:m+k<=maxLen)(a2:B<=V.1.size)
 (a3:∀h c' I,I.ownsRow B e 1 (.slice (some ⟨h,0,none⟩) (m+k) c') (m+k) (xs++F)->V.grownBy I (some D)->(h=D\/V.1.size<=h)->K (a.put o.dst (.slice (some ⟨h,0,none⟩) (m+k) c')) I):
 if Region.wanted o (yielded W a.tmps)=true then Oper.wp P o a V K Q else E:=by
 have b5:Region.wanted o (yielded W a.tmps)=true:=by simp[Region.wanted,a5]
 rw[if_pos b5];obtain⟨h,c',I,b2,Z,a0,a1⟩:=Ok (P:=P) (V:=V) t o.type B e z J Y a6 b7 D m O xs b1 b U k c F a7 a4 b4 a8 a9 a2;unfold Oper.wp execOp;simp only[b0,resolve,invoke,builtin,Sem.run_bind,Sem.run_pure,Result.andThen_ok,List.map_toArray,ej,lD,b3,b6,b2];exact a3 h c' I Z a0 a1
theorem Ao{w:World}{cs}{T}{D}(h:cs.toList=D)(j)(u)(E:D[j]? =some u):(w.alloc (.cells cs T)).cell? ⟨w.1.size,0+j,none⟩=some u:=by
 rw[aW,aL _ _ _ _ rfl,<-E,<-h];simp
theorem AD(a)(n c q)(t)(w)(d6:gU w a n t)(a4:cS t n n)(g6:n<=9)(f6:q<n):
 Calls prog 248 #[.slice a n c,Ud 0,Ud q] w (cK (eA t q) w):=by
 have g1:=aa a4.len;have e5:=aa (λ(i:Nat) (hi:i<n)=>Ot d6 a4 hi);have d0:=aa (GD q a4.len);have e2:=aa (GB t q);have e6:=aa (λ(j:Nat) (r:List Int) (c5:t[j+1]? =some r)=>Dc (q:=q) c5);have e4:=aa (λ(j:Nat) (e1:j<=n)=>GC (t:=t) (q:=q) (j:=j) (by rw[a4.len];exact e1));have d7:Below w.1.size w (w.alloc (.cells #[] 37)):=aZ.alloc aQ _;have d1:=aa (show(w.alloc (.cells #[] 37)).ownsRow w.1.size 37 1 (.slice (some ⟨w.1.size,0,none⟩) 0 0) 0 [] from bd #[] _ rfl aQ (by unfold maxLen;simp));have d4:=aa (show bS 3 (w.alloc (.cells #[] 37)) w.1.size [] (tN t q 0) from by rw[xl];exact bS.nil _ _ _);have c8:=aa d7;have h2:(q:Int)+1<=(n:Int):=(by omega);have h4:q+1<=n:=f6;go_enter func248,ntmps248;go_wp2;go_loopw[7,13] (λv i wr=>∃(j go O:Nat) (Z:List Value),j<=n/\i= Ud j/\v= .slice (some ⟨go,0,none⟩) (j-1) O/\bv (wr.ownsRow w.1.size 37 1 (.slice (some ⟨go,0,none⟩) (j-1) O) (j-1) Z)/\bv (bS 3 wr w.1.size Z (tN t q j))/\bv (Below w.1.size w wr)) (λ_ i _=>n-(intOf i).toNat);exact⟨0,w.1.size,0,[],by omega,rfl,rfl,d1,d4,c8⟩;obtain⟨j,go,O,Z,e1,rfl,rfl,a1,a9,D⟩:=hrel;by_cases f2:j<n
 ·have g5:(j:Int)<(n:Int):=by omega
  obtain⟨b,f9,a',c',r,rfl,d9,e8,g3,f7,c5,h5,_⟩:=e5.o j f2;have e9:=(D.o.cell (p:=⟨b,f9+j,none⟩) d9).trans e8;by_cases f1:j=0
  ·subst f1;rw[ea] at e9;go_wp2;go_roundw;exact⟨0+1,go,O,Z,by omega,by go_num,rfl,a1,aa (by rw[aW,e2.o];exact a9.o),D⟩;simp[intOf];omega
  ·obtain⟨i,rfl⟩:∃i,j=i+1:=⟨j-1,by omega⟩;rw[eG] at a1⊢;obtain⟨E,I,rfl,b0,e0⟩:=f7.at_ (by omega);have g7:(((i:Int)+1)==0)=false:=by simp;omega
   have g4:(n:Int)<=(c':Int):=(by omega);have h1:(q:Int)<=(c':Int):=(by omega);have h3:(q:Int)<=(n:Int):=(by omega);have c1:Below wr.1.size wr (wr.alloc (.cells #[] 3)).drew:=(aZ.alloc aQ _).drew;have g2:=aH d9 D.o.size;have d2:=aa (show(wr.alloc (.cells #[] 3)).drew.ownsRow wr.1.size 3 1 (.slice (some ⟨wr.1.size,0,none⟩) 0 0) 0 [] from ai (bd (w:=wr) (base:=wr.1.size) (e:=3) #[] [] rfl aQ (by unfold maxLen;simp)) aZ.drew);have h6:IntKind.i64.wrap ((q:Int)+1)=(q:Int)+1:=au _ (by omega);have g9:(0:Int)<=(q:Int)+1:=(by omega);have g8:(0:Int)<=(q:Int):=(by omega);have h0:(q:Int)<=(q:Int)+1:=(by omega);have b1:=D.o.size;have d5:=aa (show(af (r.take q)).length=q by simp[af];omega);have c9:=aa (λ(x:Nat) (u:Value) (h:(af (r.take q))[x]? =some u)=>show(wr.alloc (.cells #[] 3)).drew.cell? ⟨E,I+x,none⟩=some u from by
    rw[jL] at h;refine((c1.cell (p:=⟨E,I+x,none⟩) (aH b0 D.o.size)).trans (D.o.cell (p:=⟨E,I+x,none⟩) b0)).trans (e0 x u ?_);rw[cP] at h;split at h
    ·exact h
    ·cases h)
   have d3:=aa (e6.o i r c5);by_cases f0:c'=q+1
   ·subst f0;have a0:=aa (show(rn q r).length=q+0 by rw[sF (by omega)];omega);have a8:=aa (show(af (r.drop (q+1))).length=0 by simp[af];omega);have b3:=aa (λ(V:World) (d8:Below wr.1.size wr V) (x:Nat) (u:Value) (h:(af (r.drop (q+1)))[x]? =some u)=>show V.cell? ⟨E,I+x,none⟩=some u from by
     have e7:=(aw.1 h).1;rw[a8.o] at e7;omega)
    go_wp2;go_region_held3(λV=>True) (first|trivial)
     (first|(refine kI (by rfl) _ _ 37 (by rfl) wr.1.size 3 (Ud 0) 8 underlying37 bK rfl wr.1.size 0 0 [] d2.o (by rfl) E I q (q+1) (af (r.take q)) (by rfl) d5.o c9.o ng (by omega) (by unfold maxLen;omega) (by simp) ?_;intro a3 b6 c6 W c4 f3;rw[aW,fe] at W;have Q:=c1.grown c4 (by simp) (by rintro k ⟨⟩;exact aN _);have c2:=(W.lt a3 rfl).1;have a7:=Q.size;try simp only[aW])|(refine kI (by rfl) _ _ 37 (by rfl) wr.1.size 3 (Ud 0) 8 underlying37 bK rfl a3 q b6 (af (r.take q)) W (by rfl) E I 0 0 (af (r.drop (q+1))) (by rfl) a8.o (b3.o c6 Q) ng (by omega) (by unfold maxLen;omega) a7 ?_;intro b9 b7 c7 Y a5 f4;have F:=Q.grown a5 a7 (by rintro k ⟨⟩;exact c2);have c3:=(Y.lt b9 rfl).1;have J:=ai a1.o F;have f8:=F.size)|(refine kI (by rfl) _ _ 24 (by rfl) w.1.size 37 (.slice none 0 0) 24 underlying24 eS rfl go i O Z (J.alloc _) (by rfl) c7.1.size 0 1 1 [_] (by rfl) rfl (Ao rfl) (by intro u h;simp at h;subst h;rfl) (by omega) (by unfold maxLen;omega) (by simp;omega) ?_;intro c0 b8 g0 a6 U f5))
    have a2:=aa (a9.o.moreAt (r:=rn q r) (c:=b7) (eU F) c3 (by rw[a0.o];unfold rn;rw[oM];exact aT Y b1));rw[a0.o] at a2;have b5:=aa ((a2.o.below (aZ|>.alloc aQ _)).kept (J.alloc _) (by decide) U);have b4:=aa a6;have b2:=aa (((D.o.trans (F.mono b1)).alloc (by omega) _).grown U (by simp;omega) (by rintro k ⟨⟩;exact(J.lt go rfl).1));go_wp2;go_roundw;exact⟨i+1+1,c0,b8,_,by omega,by go_num,rfl,b4,aa (by rw[d3.o];exact b5.o),b2⟩;simp[intOf];omega
   ·have a0:=aa (show(rn q r).length=q+(n-(q+1)) by rw[sF (by omega)];omega);have a8:=aa (show(af (r.drop (q+1))).length=n-(q+1) by simp[af];omega);have b3:=aa (λ(V:World) (d8:Below wr.1.size wr V) (x:Nat) (u:Value) (h:(af (r.drop (q+1)))[x]? =some u)=>show V.cell? ⟨E,I+(q+1)+x,none⟩=some u from by
     rw[vQ,List.getElem?_drop] at h;rw[kh];exact((d8.cell (p:=⟨E,I+(q+1+x),none⟩) (aH b0 D.o.size)).trans (D.o.cell (p:=⟨E,I+(q+1+x),none⟩) b0)).trans (e0 _ u h))
    go_wp2;go_region_held3(λV=>True) (first|trivial)
     (first|(refine kI (by rfl) _ _ 37 (by rfl) wr.1.size 3 (Ud 0) 8 underlying37 bK rfl wr.1.size 0 0 [] d2.o (by rfl) E I q c' (af (r.take q)) (by rfl) d5.o c9.o ng (by omega) (by unfold maxLen;omega) (by simp) ?_;intro a3 b6 c6 W c4 f3;rw[aW,fe] at W;have Q:=c1.grown c4 (by simp) (by rintro k ⟨⟩;exact aN _);have c2:=(W.lt a3 rfl).1;have a7:=Q.size;try simp only[aW])|(refine kI (by rfl) _ _ 37 (by rfl) wr.1.size 3 (Ud 0) 8 underlying37 bK rfl a3 q b6 (af (r.take q)) W (by rfl) E (I+(q+1)) (n-(q+1)) (c'-(q+1)) (af (r.drop (q+1))) (by rfl) a8.o (b3.o c6 Q) ng (by omega) (by unfold maxLen;omega) a7 ?_;intro b9 b7 c7 Y a5 f4;have F:=Q.grown a5 a7 (by rintro k ⟨⟩;exact c2);have c3:=(Y.lt b9 rfl).1;have J:=ai a1.o F;have f8:=F.size)|(refine kI (by rfl) _ _ 24 (by rfl) w.1.size 37 (.slice none 0 0) 24 underlying24 eS rfl go i O Z (J.alloc _) (by rfl) c7.1.size 0 1 1 [_] (by rfl) rfl (Ao rfl) (by intro u h;simp at h;subst h;rfl) (by omega) (by unfold maxLen;omega) (by simp;omega) ?_;intro c0 b8 g0 a6 U f5))
    have a2:=aa (a9.o.moreAt (r:=rn q r) (c:=b7) (eU F) c3 (by rw[a0.o];unfold rn;rw[oM];exact aT Y b1));rw[a0.o] at a2;have b5:=aa ((a2.o.below (aZ|>.alloc aQ _)).kept (J.alloc _) (by decide) U);have b4:=aa a6;have b2:=aa (((D.o.trans (F.mono b1)).alloc (by omega) _).grown U (by simp;omega) (by rintro k ⟨⟩;exact(J.lt go rfl).1));go_wp2;go_roundw;exact⟨i+1+1,c0,b8,_,by omega,by go_num,rfl,b4,aa (by rw[d3.o];exact b5.o),b2⟩;simp[intOf];omega
 ·obtain rfl:j=n:=by omega
  have e3:=aa (show ct 37 3 wr w.1.size (.slice (some ⟨go,0,none⟩) (j-1) O) (eA t q) from⟨Z,by rw[<-d0.o,e4.o j aQ];exact a1.o,by rw[<-d0.o];exact a9.o⟩);go_wp2;go_ret;exact⟨_,rfl,e3.o,D.o⟩
end Go.Proofs.YtbdlbckeffakjaaGreatDoor
