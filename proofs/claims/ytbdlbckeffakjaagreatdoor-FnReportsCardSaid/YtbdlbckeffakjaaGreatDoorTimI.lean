/- Products and powers of matrices, closed paths, the program's. Conditions: matrices in memory. -/
import Derived.Test.YtbdlbckeffakjaaGreatDoorMnrI
namespace Go.Proofs.YtbdlbckeffakjaaGreatDoor
set_option maxHeartbeats 4000000
set_option maxRecDepth 100000
open Go.Proofs.Tryz Go.RowKit
theorem yM(a)(n c)(t)(w)(h:bZ w a n t)(a8:cS t n n)(b9:1<=n/\n<=4)(a9:Bd 100 t):
 Calls prog 207 #[.slice a n c] w λe w'=>∃g b5,e= .returned (.slice (some ⟨g,0,none⟩) n b5)/\n<=b5/\bv (w'.ownsRow w.1.size 3 1 (.slice (some ⟨g,0,none⟩) n b5) n (af (Cf t n n)))/\Below w.1.size w w':=by
 have c9:=aa (λ(k:Nat) (J:k<=n) (V:World) (e1:Below w.1.size w V)=>Ca a n c k t V (h.below e1 aQ) a8 b9 a9 J);have c8:=aa (λ(k:Nat) (J:k<=n)=>vO b9.2 J a8 a9);have c5:=aa (λ(k:Nat) (J:k<=n)=>EQ b9.2 a8 a9 k J);have c6:=aa (λ(k:Nat)=>ER t n k);have a7:=aa (λ(k:Nat) (h:pO t n (k+1)=0)=>KQ h);have a6:=aa (λ(k:Nat) (h:¬pO t n (k+1)=0)=>KR h);have d1:=aa (λK=>Hs t n K);have c3:=aa (show Ht t n 0=1 from rfl);obtain⟨e0,d3⟩:=aB (pO t n);rw[<-d3] at c9 c8 a7 a6;obtain⟨B,d2⟩:=aB (Ht t n);rw[<-d2] at c5 c6 a7 a6 c3;obtain⟨f2,d4⟩:=aB (QF t n);rw[<-d4] at a7 a6 d1;have E:=aa (show(w.alloc (.cells #[] 3)).ownsRow w.1.size 3 1 (.slice (some ⟨w.1.size,0,none⟩) 0 0) 0 (af (Cf t n 0)) from bd (w:=w) (base:=w.1.size) (e:=3) #[] [] rfl aQ (by unfold maxLen;simp));have c4:=aa (show Below w.1.size w (w.alloc (.cells #[] 3)) from aZ.alloc aQ _);clear h a8 a9 d3 d2 d4;go_enter func207,ntmps207;go_wp2;go_loopw[3,4,5] (λv b i wr=>∃(k I Y:Nat) (e:Int),k<=n/\bv (e=(k:Int)+1)/\i= Ud e/\b= Ud (B k:Nat)/\v= .slice (some ⟨I,0,none⟩) k Y/\bv (wr.ownsRow w.1.size 3 1 (.slice (some ⟨I,0,none⟩) k Y) k (af (Cf t n k)))/\bv (Below w.1.size w wr)) (λ_ _ i _=>n+1-(intOf i).toNat);exact⟨0,w.1.size,0,1,by omega,aa rfl,rfl,by rw[c3.o];rfl,rfl,E,c4⟩;clear E c4;obtain⟨k,I,Y,e,J,c7,rfl,rfl,rfl,E,Z⟩:=hrel;by_cases g2:k<n
 ·obtain⟨q,c0⟩:=aB (k+1);have e6:e=(q:Int):=by rw[c7.o];omega
  have d8:q<=n:=(by omega);have d0:=aa (show(q:Int)+1=((k+1:Nat):Int)+1 by omega);subst e6;have g3:(q:Int)<=(n:Int):=(by omega);have g6:IntKind.i64.wrap ((q:Int)+1)=(q:Int)+1:=au _ (by omega);have b1:=aa (c9.o q d8 wr Z.o);have e8:=c8.o q d8;have e2:=c5.o k J;have e3:=c6.o k;have W:=aa (λh=>a7.o k h);have U:=aa (λh=>a6.o k h);have Q:=aa (d1.o k);rw[<-c0] at W U Q;have O:=aa c0;have d7:=(E.o.lt I rfl).1;have d9:=Z.o.size;obtain⟨d,d5⟩:=aB (e0 q);rw[<-d5] at b1 e8 W U;obtain⟨F,b7⟩:=aB (B k);rw[<-b7] at e2 e3 W U;rw[<-b7];clear d5 b7 c0;by_cases b8:d=0
  ·obtain⟨a4,a5⟩:=W.o b8;have b3:=aa a4;rw[a5] at Q;subst b8;clear a4 a5 W U;go_wp2_with(first|(go_at_call 250;refine b1.o.mono ?_;rintro e c2 ⟨rfl,D⟩;have a1:=ai E.o D;have f0:=D.size)|(at_builtin;go_must(refine aX rfl _ _ 37 rfl w.1.size 3 (Ud 0) 8 underlying37 bK rfl I Y k (af (Cf t n k)) (a1.alloc _) rfl c2.1.size 0 1 1 [Ud 0] rfl rfl (cz rfl) (by intro u a3;simp at a3;subst a3;rfl) (by omega) (by unfold maxLen;omega) (by simp;omega) ?_);intro b6 b4 f1 a2 a0 e9 e7));have b2:=aa a2;have b0:=aa (((Z.o.trans (D.mono d9)).alloc (by omega) (.cells #[Ud 0] 3)).grown a0 (by simp;omega) (by rintro k ⟨⟩;exact d7));clear a2 a0 a1 D;go_roundw;exact⟨k+1,b6,b4,(q:Int)+1,by omega,d0,by go_num,by rw[<-O.o,b3.o],rfl,aa (by rw[<-O.o,Q.o,O.o];exact b2.o),b0⟩;simp[intOf];omega
  ·obtain⟨a4,a5⟩:=U.o b8;have b3:=aa a4;rw[a5] at Q;have e5:=ei d F;obtain⟨r,c1⟩:=aB (d/F);have g5:Int.tdiv (d:Int) (F:Int)=(r:Int):=by rw[c1];rfl
   rw[<-c1] at Q e5;have g7:IntKind.i64.wrap (r:Int)=(r:Int):=au _ (by omega);have f9:((d:Int)==0)=false:=by simp;omega
   have f4:((F:Int)==0)=false:=by simp;omega
   have f5:((F:Int) !=0)=true:=by simp;omega
   have f6:¬((F:Int)=0):=(by omega);have f7:¬(F=0):=(by omega);have f8:¬((F:Int)= -1):=(by omega);clear a4 a5 W U c1;go_wp2_with(first|(go_at_call 250;refine b1.o.mono ?_;rintro e c2 ⟨rfl,D⟩;have a1:=ai E.o D;have f0:=D.size)|(at_builtin;go_must(refine aX rfl _ _ 37 rfl w.1.size 3 (Ud 0) 8 underlying37 bK rfl I Y k (af (Cf t n k)) (a1.alloc _) rfl c2.1.size 0 1 1 [Ud (r:Int)] rfl rfl (cz rfl) (by intro u a3;simp at a3;subst a3;rfl) (by omega) (by unfold maxLen;omega) (by simp;omega) ?_);intro b6 b4 f1 a2 a0 e9 e7));have b2:=aa a2;have b0:=aa (((Z.o.trans (D.mono d9)).alloc (by omega) (.cells #[Ud (r:Int)] 3)).grown a0 (by simp;omega) (by rintro k ⟨⟩;exact d7));clear a2 a0 a1 D;go_roundw;exact⟨k+1,b6,b4,(q:Int)+1,by omega,d0,by go_num,by rw[<-O.o,b3.o],rfl,aa (by rw[<-O.o,Q.o,O.o];exact b2.o),b0⟩;simp[intOf];omega
 ·have g0:(n:Int)<e:=by rw[c7.o];omega
  have g1:¬(e<=(n:Int)):=(by omega);obtain rfl:k=n:=(by omega);obtain⟨f3,cr,d6,e4,g4⟩:=nR E.o (by omega);simp only[aJ] at d6;obtain⟨-,-,rfl⟩:=d6;go_wp2;go_ret;exact⟨I,Y,rfl,e4,E,Z.o⟩
structure oo (xs : List Int) (n j : Nat) (ys : List Int) : Prop where
  len : ys.length = n
  pre : ys.take (pL xs j).length = pL xs j
  post : ∀ q, j ≤ q → ys[q]? = xs[q]?
  lt : (pL xs j).length < j
theorem oo.start{xs}{n k}(D:xs.length=n)(F:k<n)(E:xs[k]? =some 1)(h:pL xs k=xs.take k):oo xs n (k+1) xs:=by
 have e:=Ai E;refine⟨D,?_,λ_ _=>rfl,?_⟩
 ·rw[e,h,cY,Nat.min_eq_left (by omega)]
 ·rw[e,h,cY];omega
theorem oo.skip{xs ys}{n j}(h:oo xs n j ys)(D:xs[j]? =some 1):oo xs n (j+1) ys:=by
 have e:=Ai D;exact⟨h.len,by rw[e];exact h.pre,λq E=>h.post q (by omega),by rw[e];have:=h.lt;omega⟩
theorem oo.keep{xs ys}{n j}{x}(h:oo xs n j ys)(F:j<n)(E:xs[j]? =some x)(D:¬x=1):oo xs n (j+1) (ys.set (pL xs j).length x):=by
 have e:=zd E D;have J:=h.lt;have I:=h.len;refine⟨by rw[fM];exact h.len,?_,λq O=> ?_,by rw[e,az];simp;omega⟩
 ·rw[e,az];show(ys.set (pL xs j).length x).take ((pL xs j).length+1)=pL xs j++[x]
  rw[bg,bU,if_pos rfl,if_pos (by omega)];have:(ys.set (pL xs j).length x).take (pL xs j).length=pL xs j:=by
   rw[List.take_set_of_le aQ];exact h.pre
  rw[this];rfl
 ·rw[bU,if_neg (by omega)];exact h.post q (by omega)
theorem vy{B g c n:Nat}:∀(L:List Value) (i:Nat) (w:World) (D:List Value),w.ownsRow B 3 1 (.slice (some ⟨g,0,none⟩) n c) n D->(∀v∈L,∃x:Int,v= Ud x)->
 ∃E,(w.setCells g i L).ownsRow B 3 1 (.slice (some ⟨g,0,none⟩) n c) n E/\(∀q,q<i->E[q]? =D[q]?)/\w.grownBy (w.setCells g i L) (some g)
 |[],i,w,D,h,_=>⟨D,h,λ_ _=>rfl,World.grownBy.refl w _⟩
 |v::L,i,w,D,h,hL=>by
  obtain⟨F,I⟩:=h.stored i v;obtain⟨E,J,O,Q⟩:=vy L (i+1) _ _ F (λu U=>hL u (ip _ U));refine⟨E,J,λq W=> ?_,kR I Q (Or.inl rfl)⟩;rw[O q (by omega),bU,if_neg (by omega)]
theorem PE(x)(w):Calls prog 209 #[Ud x] w λe w'=>e= .returned (.bool (x==1))/\w=w':=by
 go_enter func209,ntmps209;go_wp2;go_ret;exact⟨rfl,rfl⟩
theorem EG(a)(n c)(xs)(w)(h:aO w a n (af xs))(a2:n<=9):
 Calls prog 249 #[.slice a n c,.func (.func 209) #[] #[]] w λe w'=>w=w'/\((e= .returned (Ud (-1))/\pL xs n=xs)\/∃k:Nat,e= .returned (Ud k)/\k<n/\xs[k]? =some 1/\pL xs k=xs.take k):=by
 have a4:xs.length=n:=by have:=h.len;rw[show(af xs).length=xs.length by simp[af]] at this;exact this
 have J:=aa (λx w=>PE x w);have U:=aa h;go_enter func249,ntmps249;go_wp2;go_loop[8] (λi=>∃j:Nat,j<=n/\i= Ud j/\bv (pL xs j=xs.take j)) (λi=>n-(intOf i).toNat);exact⟨0,by omega,rfl,aa (by simp[pL])⟩;obtain⟨j,a0,rfl,D⟩:=hrel;by_cases W:j<n
 ·have a1:(j:Int)<(n:Int):=by omega
  obtain⟨x,F⟩:=aE (l:=xs) (n:=j) (by omega);obtain⟨b,a5,rfl,Y,O⟩:=U.o.at_ (by omega);have Z:=O j _ (aP F);have E:=aa F;by_cases I:x=1
  ·subst I;go_wp2_with(go_at_call 209;refine(J.o _ _).mono ?_;rintro e w' ⟨rfl,rfl⟩);go_ret;exact⟨rfl,Or.inr ⟨j,rfl,W,E.o,D.o⟩⟩
  ·have a3:(x==1)=false:=by simp[I]
   have Q:=aa (show pL xs (j+1)=xs.take (j+1) from by rw[zd E.o I,D.o,bg,E.o];rfl);go_wp2_with(go_at_call 209;refine(J.o _ _).mono ?_;rintro e w' ⟨rfl,rfl⟩);go_round;exact⟨j+1,by omega,by go_num,Q⟩;simp[intOf];omega
 ·obtain rfl:j=n:=by omega
  go_wp2;go_ret;exact⟨rfl,Or.inl ⟨rfl,by rw[D.o,aM (by omega)]⟩⟩
theorem NE(w):(zeroValue 3).run prog w= .ok (Ud 0) w:=by kernel_rfl
theorem Cg(B g n c)(xs)(w)(h:w.ownsRow B 3 1 (.slice (some ⟨g,0,none⟩) n c) n (af xs))(d7:n<=9)(f1:n<=c):
 Calls prog 206 #[.slice (some ⟨g,0,none⟩) n c,.func (.func 209) #[] #[]] w λe w'=>∃c',e= .returned (.slice (some ⟨g,0,none⟩) (pL xs n).length c')/\aO w' (some ⟨g,0,none⟩) (pL xs n).length (af (pL xs n))/\Below B w w':=by
 have a5:=aa (show aO w (some ⟨g,0,none⟩) n (af xs) from by
  obtain⟨c5,cr,J,a7⟩:=aS h (by omega);simp only[aJ] at J;obtain⟨rfl,-,-⟩:=J;exact a7)
 have b9:xs.length=n:=by have:=a5.o.len;rw[show(af xs).length=xs.length by simp[af]] at this;exact this
 have a3:=aa (λx w=>PE x w);have b2:=aa (EG (some ⟨g,0,none⟩) n c xs w a5.o d7);have D:=aa h;have b4:B<=g:=(h.lt g rfl).1;have e0:=aa (λj=>Jg xs j);have b3:=aa (λ(k:Nat) (O:k<n) (I:xs[k]? =some 1) (d3:pL xs k=xs.take k)=>(oo.start b9 O I d3));have b1:=aa (λ(i:Nat) (ys:List Int) (wr:World) (hi:bv (oo xs n n ys)) (Q:wr.ownsRow B 3 1 (.slice (some ⟨g,0,none⟩) n c) n (af ys)) (a6:i=(pL xs n).length)=>show aO (wr.setCells g i (List.replicate (n-i) (Ud 0))) (some ⟨g,0,none⟩) i (af (pL xs n))/\wr.grownBy (wr.setCells g i (List.replicate (n-i) (Ud 0))) (some g) from by
  obtain⟨f4,c6,c7,c8⟩:=vy (List.replicate (n-i) (Ud 0)) i wr _ Q (λv a0=>⟨0,List.eq_of_mem_replicate a0⟩);refine⟨?_,c8⟩;have b8:=hi.o.lt;have d8:=hi.o.pre;obtain⟨c5,cr,J,a7⟩:=aS c6 (by omega);simp only[aJ] at J;obtain⟨rfl,-,-⟩:=J;refine⟨by simp[af];omega,by omega,λe1=> ?_⟩;obtain⟨b,d9,d0,d1,d2⟩:=a7.at_ (by omega);refine⟨b,d9,d0,d1,λk v a0=>d2 k v ?_⟩;have O:k<i:=by
   have:=(aw.1 a0).1;simp[af] at this;omega
  rw[c7 k O,<-a0,<-d8,jL,cP,if_pos (by omega)])
 have a9:=aa (λ(i:Nat) (ys:List Int) (wr:World) (e7:i<n) (Q:wr.ownsRow B 3 1 (.slice (some ⟨g,0,none⟩) n c) n (af ys)) (c1:TypeId)=>show(Builtin.clear_ #[37] c1 #[.slice (some ⟨g,i,none⟩) (n-i) (c-i)]).run prog wr= .ok (.tuple #[]) (wr.setCells g i (List.replicate (n-i) (Ud 0))) from
  Lib.run_clear_slice wr 37 3 c1 (Ud 0) underlying37 NE rfl rfl g i (n-i) (c-i) (by omega) (λj b7=>by
   have f0:=Q.1;rw[Q.cellAt (i+j) (by omega),di (by omega)];rfl) (λj b7=>Q.frozenAt (i+j)))
 clear h;go_enter func206,ntmps206;go_wp2_with fail;refine b2.o.mono ?_;rintro e w' ⟨rfl,⟨rfl,b5⟩|⟨k,rfl,O,I,Z⟩⟩
 ·have c2:=aa b5;clear b5;go_wp2;go_ret;rw[c2.o,b9];exact⟨c,rfl,a5.o,aZ⟩
 ·have F:=aa (b3.o k O I Z);have e9:((k:Int)== -1)=false:=(by simp);have d5:=Z;have a6:(pL xs (k+1)).length=k:=by rw[Ai I,Z,cY];omega
  have E:=aa a6;clear I Z d5 a6 b3;go_wp2;go_loopw[5,6] (λa b wr=>∃(i j:Nat) (ys:List Int),j<=n/\a= Ud i/\b= Ud j/\bv (i=(pL xs j).length)/\bv (oo xs n j ys)/\bv (wr.ownsRow B 3 1 (.slice (some ⟨g,0,none⟩) n c) n (af ys))/\bv (Below B w wr)) (λ_ b _=>n-(intOf b).toNat);exact⟨k,k+1,xs,by omega,rfl,by go_num,aa E.o.symm,F,D,aa aZ⟩;clear F E D;obtain⟨i,j,ys,b7,rfl,rfl,E,F,D,a2⟩:=hrel;have b8:=F.o.lt;rw[<-E.o] at b8;by_cases d6:j<n
  ·have e8:(j:Int)<(n:Int):=by omega
   obtain⟨x,I⟩:=aE (l:=xs) (n:=j) (by omega);have e2:=(D.o.cellAt j (by omega)).trans (aP ((F.o.post j aQ).trans I));have W:=aa I;clear I;by_cases a1:x=1
   ·subst a1;have U:=aa (F.o.skip W.o);have a4:=aa (show i=(pL xs (j+1)).length by rw[Ai W.o];exact E.o);go_wp2_with(go_at_call 209;refine(a3.o _ _).mono ?_;rintro e w' ⟨rfl,rfl⟩);go_roundw;exact⟨i,j+1,ys,by omega,rfl,by go_num,a4,U,D,a2⟩;simp[intOf];omega
   ·have f3:(x==1)=false:=by simp[a1]
    have U:=aa (F.o.keep d6 W.o a1);rw[<-E.o] at U;have a4:=aa (show i+1=(pL xs (j+1)).length by rw[zd W.o a1,az,<-E.o];rfl);have b6:=D.o.cellAt i (by omega);obtain⟨y,c0⟩:=aE (l:=ys) (n:=i) (by rw[F.o.len];omega);have e3:=b6.trans (aP c0);have e5:=D.o.frozenAt i;have a8:=D.o.stored i (Ud x);rw[se] at a8;have c4:=aa a8;have e6:(i:Int)<(n:Int):=(by omega);clear b6 c0 a8;go_wp2_with(go_at_call 209;refine(a3.o _ _).mono ?_;rintro e w' ⟨rfl,rfl⟩);go_roundw;exact⟨i+1,j+1,_,by omega,by go_num,by go_num,a4,U,aa c4.o.1,aa (a2.o.setCell b4 _)⟩;simp[intOf];omega
  ·have Y:j=n:=by omega
   have d4:i<n:=(by omega);have e4:=a9.o i ys wr d4 D.o;have b0:=aa (b1.o i ys wr (by have h:=F.o;rw[Y] at h;exact aa h) D.o (by have h:=E.o;rw[Y] at h;exact h));have c3:=aa (show(pL xs n).length=i from by rw[<-Y];exact E.o.symm);have c9:B<=wr.1.size:=by have:=(D.o.lt g rfl).2;omega
   have f2:(n:Int)<=(j:Int):=(by omega);clear b2 a3 b1 a9 Y;go_wp2;go_ret;rw[c3.o];exact⟨_,rfl,b0.o.1,a2.o.grown b0.o.2 c9 (by rintro k ⟨⟩;exact b4)⟩
theorem AM(a)(n c)(M)(w)(h:bZ w a n M)(J:kX M=true):
 Calls prog 122 #[.slice a n c] w λe w'=>∃a' c',e= .returned (.slice a' (mM M n).length c')/\aO w' a' (mM M n).length (af (mM M n))/\Below w.1.size w w':=by
 obtain⟨_,a1,Z,I⟩:=fL J (dp h).1;have Q:=aa (gI a n c M w h);rw[J] at Q;have W:=aa (sj a n c M 1 1 w h Z a1 I (by omega) (by omega));have U:=aa (df n n (kO M 1 1));have a2:=aa (λ(E:Option Addr) (Y:Nat) (V:World) (b2:bZ V E n (fi M n 1 1))=>yM E n Y (fi M n 1 1) V b2 U.o a1 (sb I));have O:=aa (λ(B g D:Nat) (V:World) (a9:V.ownsRow B 3 1 (.slice (some ⟨g,0,none⟩) n D) n (af (Cf (fi M n 1 1) n n))) (a5:n<=D)=>show Calls prog 206 #[.slice (some ⟨g,0,none⟩) n D,.func (.func 209) #[] #[]] V λe w'=>∃c',e= .returned (.slice (some ⟨g,0,none⟩) (mM M n).length c')/\aO w' (some ⟨g,0,none⟩) (mM M n).length (af (mM M n))/\Below B V w' from Cg B g n D _ V a9 (by omega) a5);unfold cK at W;obtain⟨G,F⟩:=aB (mM M n);rw[<-F] at O;rw[<-F];clear h J Z I F;go_enter func122,ntmps122;go_wp2_with fail;refine Q.o.mono ?_;rintro e w' ⟨rfl,rfl⟩;go_wp2_with(first|(go_at_call 208;refine W.o.mono ?_;rintro e b8 ⟨b7,rfl,a7,a0⟩;obtain⟨E,Y,rfl,_,b3⟩:=fH a7 U.o (by omega);have a8:=b3.tab)|(go_at_call 207;refine(a2.o _ _ _ a8).mono ?_;rintro e b9 ⟨b6,b4,rfl,a6,b0,a3⟩)|(go_at_call 206;refine(O.o _ _ _ _ b0.o a6).mono ?_;rintro e c0 ⟨b5,rfl,b1,a4⟩));go_ret;exact⟨_,_,rfl,b1,a0.trans ((a3.trans a4).mono a0.size)⟩
def St(x:Int):List ByteArray:=if x=0 then[⟨#[90]⟩] else if 1<x then[⟨#[90,47]⟩++cF x] else[]
def lJ(xs:List Int)(j:Nat):List ByteArray:=(xs.take j).flatMap St
def Su(L:List ByteArray):ByteArray:=if L.length=0 then⟨#[48]⟩ else dv L ⟨#[43]⟩
def Nr(xs:List Int):ByteArray:=Su (lJ xs xs.length)
theorem xD{xs}{j}{x}(h:xs[j]? =some x):lJ xs (j+1)=lJ xs j++St x:=by
 unfold lJ;rw[bg,h,List.flatMap_append];simp
theorem DA{xs}{j}(h:xs[j]? =some 0):lJ xs (j+1)=lJ xs j++[⟨#[90]⟩]:=xD h
theorem Hc{xs}{j}(h:xs[j]? =some 1):lJ xs (j+1)=lJ xs j:=by
 rw[xD h];show lJ xs j++[]=_
 rw[jc]
theorem DC{xs}{j}{x}(h:xs[j]? =some x)(D:1<x):lJ xs (j+1)=lJ xs j++[⟨#[90,47]⟩++cF x]:=by
 rw[xD h,St,if_neg (by omega),if_pos D]
theorem PN(xs:List Int):(xs.flatMap St).length<=xs.length:=by
 induction xs with
 |nil=>simp
 |cons x xs ih=>
  rw[List.flatMap_cons,az,cZ];have:(St x).length<=1:=by
   unfold St;split
   ·simp
   ·split<;>simp
  omega
theorem wb(xs)(j):(lJ xs j).length<=j:=by
 have:=PN (xs.take j);rw[cY] at this;unfold lJ;omega
theorem iJ{x}(h:Bx x):(cF x).size<=21:=by
 have:=zh h;have D:(cF x).size=(Lib.itoa x).length:=by simp[cF,ByteArray.size]
 omega
theorem Nx(s):(mW s).length=s.size:=rfl
theorem zg{b:Nat}:∀(L:List ByteArray),(∀s∈L,s.size<=b)->Lib.lens (L.map mW)<=b*L.length
 |[],_=>by simp[Lib.lens]
 |s::L,h=>by
  have I:=zg L λx D=>h x (ip _ D)
  have E:=h s (kE ..);have F:=Nx s;have e:Lib.lens ((s::L).map mW)=(mW s).length+Lib.lens (L.map mW):=rfl;rw[e,cZ,Nat.mul_add];omega
theorem PF{x}(h:0<=x/\x<=1000000000000):∀s∈St x,s.size<=23:=by
 intro s D;unfold St at D;split at D
 ·rw[eH.1 D];decide
 ·split at D
  ·rw[eH.1 D];have:=iJ (x:=x) ⟨by omega,by omega⟩;rw[aK];show 2+_<=23
   omega
  ·simp at D
theorem DB{xs}(h:∀x∈xs,0<=x/\x<=1000000000000)(j):∀s∈lJ xs j,s.size<=23:=by
 intro s D;unfold lJ at D;obtain⟨x,E,D⟩:=List.mem_flatMap.1 D;exact PF (h x (dh E)) s D
theorem DD{xs}(h:∀x∈xs,0<=x/\x<=1000000000000)(J:xs.length<=9):(Lib.join ((lJ xs xs.length).map mW) (⟨#[43]⟩:ByteArray).1.1).length<=1000000000:=by
 have D:=ts ((lJ xs xs.length).map mW) (⟨#[43]⟩:ByteArray).1.1;have F:=zg (lJ xs xs.length) (DB h xs.length);have I:=wb xs xs.length;rw[dc] at D;have E:(⟨#[43]⟩:ByteArray).1.1.length=1:=rfl;rw[E] at D;omega
theorem wV(a)(n c)(xs)(w)(b6:aO w a n (af xs))(b8:∀x∈xs,0<=x/\x<=1000000000000)(e8:n<=9):
 Calls prog 133 #[.slice a n c] w λe w'=>e= .returned (.string (Nr xs))/\Below w.1.size w w':=by
 have a7:=aa (show xs.length=n by simpa[af] using b6.len);have d5:=aa b6.at_;have c3:=aa (λ(j:Nat) (h:xs[j]? =some 0)=>DA h);have c4:=aa (λ(j:Nat) (h:xs[j]? =some 1)=>Hc h);have c5:=aa (λ(j:Nat) (x:Int) (h:xs[j]? =some x) (D:1<x)=>DC h D);have c6:=aa (λj=>wb xs j);have a9:=aa (show lJ xs 0=[] by simp[lJ]);have e2:=aa (λ(j:Nat) (x:Int) (h:xs[j]? =some x)=>b8 x (aj h));have W:=aa (show Nr xs=Su (lJ xs xs.length) from rfl);have a6:=aa (DD b8 (show xs.length<=9 by rw[a7.o];exact e8));have e0:=aa (λ(x:Int) (h:0<=x/\x<=1000000000000)=>iJ (x:=x) ⟨by omega,by omega⟩);have d9:=aa (λ(x:Int) (h:0<=x/\x<=1000000000000) (V:World)=>dy x V (by omega) (by omega));rw[a7.o] at W a6;obtain⟨K,c8⟩:=aB (lJ xs);rw[<-c8] at c3 c4 c5 c6 a9 W a6;obtain⟨c7,b2⟩:=aB (Nr xs);rw[<-b2] at W;rw[<-b2];have F:=aa (show(w.alloc (.cells #[] 9)).ownsRow w.1.size 9 1 (.slice (some ⟨w.1.size,0,none⟩) 0 0) 0 (ap (K 0)) from by rw[a9.o];exact bd (w:=w) (base:=w.1.size) (e:=9) #[] [] rfl aQ (by unfold maxLen;simp));have b9:=aa (show Below w.1.size w (w.alloc (.cells #[] 9)) from aZ.alloc aQ _);have c2:=aa (show(K 0).length=0 by rw[a9.o];rfl);clear b6 b8 c8 b2;go_enter func133,ntmps133;go_wp2;go_loopw[3,4] (λv i wr=>∃(j Q O:Nat),j<=n/\i= Ud j/\v= .slice (some ⟨Q,0,none⟩) (K j).length O/\bv (wr.ownsRow w.1.size 9 1 (.slice (some ⟨Q,0,none⟩) (K j).length O) (K j).length (ap (K j)))/\bv (Below w.1.size w wr)) (λ_ i _=>n-(intOf i).toNat);exact⟨0,w.1.size,0,by omega,rfl,by rw[c2.o],by rw[c2.o];exact F,b9⟩;clear F b9;obtain⟨j,Q,O,f9,rfl,rfl,F,I⟩:=hrel
 have e7:=c6.o j;obtain⟨m,a3⟩:=aB ((K j).length);have Y:=aa a3;rw[<-a3] at F e7;rw[<-a3];clear a3;by_cases e5:j<n
 ·have g0:(j:Int)<(n:Int):=by omega
  obtain⟨x,D⟩:=aE (l:=xs) (n:=j) (by rw[a7.o];exact e5);have a1:=e2.o j x D;obtain⟨b,f4,rfl,e3,a2⟩:=d5.o (by omega);have d0:=(I.o.cell (p:=⟨b,f4+j,none⟩) e3).trans (a2 j _ (aP D));have d3:=(F.o.lt Q rfl);have f1:=I.o.size;have g3:¬(x<0):=(by omega);by_cases d4:x=0
  ·subst d4;have E:=aa (c3.o j D);have J:(K (j+1)).length=m+1:=by rw[E.o,az,<-Y.o];rfl
   have a5:=aa (show ap (K (j+1))=ap (K j)++[.string ⟨#[90]⟩] by rw[E.o];simp[ap]);clear D a2 a1;go_wp2_with(first|(at_builtin;go_must(refine aX rfl _ _ 26 rfl w.1.size 9 (.string ByteArray.empty) 16 underlying26 mz rfl Q O m (ap (K j)) (F.o.alloc _) rfl wr.1.size 0 1 1 [.string ⟨#[90]⟩] rfl rfl (cz rfl) (by intro u a0;simp at a0;subst a0;rfl) (by omega) (by unfold maxLen;omega) (by simp;omega) ?_);intro b1 b0 f6 U Z b5 e6));have a8:=aa U;have a4:=aa ((I.o.alloc (by omega) (.cells #[.string ⟨#[90]⟩] 9)).grown Z (by simp;omega) (by rintro k ⟨⟩;exact d3.1));clear U Z b5 d0;go_roundw;exact⟨j+1,b1,b0,by omega,by go_num,by rw[J],aa (by rw[J,a5.o];exact a8.o),a4⟩;simp[intOf];omega
  ·by_cases f2:x=1
   ·subst f2;have E:=aa (c4.o j D);have J:m=(K (j+1)).length:=by rw[E.o];exact Y.o
    clear D a2 a1;go_wp2;go_roundw;exact⟨j+1,Q,O,by omega,by go_num,by rw[J],aa (by rw[<-J,E.o];exact F.o),I⟩;simp[intOf];omega
   ·have f3:1<x:=by omega
    have g4:(x==0)=false:=by simp[d4]
    have E:=aa (c5.o j x D f3);have J:(K (j+1)).length=m+1:=by rw[E.o,az,<-Y.o];rfl
    have e4:=e0.o x a1;have c0:=aa (d9.o x a1 wr);obtain⟨d,d1⟩:=aB (cF x);rw[<-d1] at E e4 c0;obtain⟨t,b7⟩:=aB (α:=ByteArray) (⟨#[90,47]⟩++d);have a5:=aa (show ap (K (j+1))=ap (K j)++[.string t] by rw[E.o,b7];simp[ap]);have e1:=aa b7;have f8:¬(9223372036854775807<2+d.size):=(by omega);clear D a2 a1 d1 b7;go_wp2_with fail;refine c0.o.mono ?_;rintro e f5 ⟨rfl,b3⟩;have e9:=ai F.o b3;have g2:=b3.size;go_wp2_with(first|(at_builtin;go_must(refine aX rfl _ _ 26 rfl w.1.size 9 (.string ByteArray.empty) 16 underlying26 mz rfl Q O m (ap (K j)) (e9.alloc _) rfl f5.1.size 0 1 1 [.string (⟨#[90,47]⟩++d)] rfl rfl (cz rfl) (by intro u a0;simp at a0;subst a0;rfl) (by omega) (by unfold maxLen;omega) (by simp;omega) ?_);intro b1 b0 f6 U Z b5 e6));rw[<-e1.o] at U;have a8:=aa U;have a4:=aa (((I.o.trans (b3.mono f1)).alloc (by omega) (.cells #[.string (⟨#[90,47]⟩++d)] 9)).grown Z (by simp;omega) (by rintro k ⟨⟩;exact d3.1));clear U Z b5 d0;go_roundw;exact⟨j+1,b1,b0,by omega,by go_num,by rw[J],aa (by rw[J,a5.o];exact a8.o),a4⟩;simp[intOf];omega
 ·obtain rfl:j=n:=by omega
  by_cases b4:m=0
  ·have d7:=aa (show c7=⟨#[48]⟩ from by rw[W.o];unfold Su;rw[if_pos (by rw[<-Y.o];exact b4)]);subst b4;go_wp2;go_ret;exact⟨by rw[d7.o];rfl,I.o⟩
  ·have d8:=aa (show c7=dv (K j) ⟨#[43]⟩ from by rw[W.o];unfold Su;rw[if_neg (by rw[<-Y.o];exact b4)]);have g1:((m:Int)==0)=false:=by simp;omega
   have c1:=aa (by
    obtain⟨f7,cr,d2,f0⟩:=aS F.o (by omega);simp only[aJ] at d2;obtain⟨rfl,-,rfl⟩:=d2;exact oA _ m O (K j) ⟨#[43]⟩ wr f0 a6.o)
   rw[<-d8.o] at c1;go_wp2_with fail;refine c1.o.mono ?_;rintro e g5 ⟨rfl,c9⟩;have d6:=aa (I.o.trans (c9.mono I.o.size));clear c9;go_wp2;go_ret;exact⟨rfl,d6.o⟩
theorem xB(a)(n c)(xs)(w)(b7:aO w a n (af xs))(b8:∀x∈xs,0<=x/\x<=1000000000000)(e8:n<=9)(Y:qP w):
 Calls prog 121 #[.slice a n c] w λe w'=>e= .returned (.string (Nr xs))/\Below w.1.size w w':=by
 have a8:=aa (show xs.length=n by simpa[af] using b7.len);have d4:=aa b7.at_;have c3:=aa (λ(j:Nat) (h:xs[j]? =some 0)=>DA h);have c4:=aa (λ(j:Nat) (h:xs[j]? =some 1)=>Hc h);have c5:=aa (λ(j:Nat) (x:Int) (h:xs[j]? =some x) (D:1<x)=>DC h D);have c6:=aa (λj=>wb xs j);have b0:=aa (show lJ xs 0=[] by simp[lJ]);have e1:=aa (λ(j:Nat) (x:Int) (h:xs[j]? =some x)=>b8 x (aj h));have Z:=aa (show Nr xs=Su (lJ xs xs.length) from rfl);have a7:=aa (DD b8 (show xs.length<=9 by rw[a8.o];exact e8));have d9:=aa (λ(x:Int) (h:0<=x/\x<=1000000000000)=>iJ (x:=x) ⟨by omega,by omega⟩);have d8:=aa (λ(x:Int) (h:0<=x/\x<=1000000000000) (V:World) (e2:Below w.1.size w V)=>dU x V ⟨by omega,by omega⟩ (gt Y e2 aQ));rw[a8.o] at Z a7;obtain⟨K,c8⟩:=aB (lJ xs);rw[<-c8] at c3 c4 c5 c6 b0 Z a7;obtain⟨c7,b3⟩:=aB (Nr xs);rw[<-b3] at Z;rw[<-b3];have I:=aa (show(w.alloc (.cells #[] 9)).ownsRow w.1.size 9 1 (.slice (some ⟨w.1.size,0,none⟩) 0 0) 0 (ap (K 0)) from by rw[b0.o];exact bd (w:=w) (base:=w.1.size) (e:=9) #[] [] rfl aQ (by unfold maxLen;simp));have b9:=aa (show Below w.1.size w (w.alloc (.cells #[] 9)) from aZ.alloc aQ _);have c2:=aa (show(K 0).length=0 by rw[b0.o];rfl);clear b7 b8 c8 b3 Y;go_enter func121,ntmps121;go_wp2;go_loopw[3,9] (λv i wr=>∃(j J Q:Nat),j<=n/\i= Ud j/\v= .slice (some ⟨J,0,none⟩) (K j).length Q/\bv (wr.ownsRow w.1.size 9 1 (.slice (some ⟨J,0,none⟩) (K j).length Q) (K j).length (ap (K j)))/\bv (Below w.1.size w wr)) (λ_ i _=>n-(intOf i).toNat);exact⟨0,w.1.size,0,by omega,rfl,by rw[c2.o],by rw[c2.o];exact I,b9⟩
 clear I b9;obtain⟨j,J,Q,f7,rfl,rfl,I,E⟩:=hrel;have e7:=c6.o j;obtain⟨m,a4⟩:=aB ((K j).length);have U:=aa a4;rw[<-a4] at I e7;rw[<-a4];clear a4;by_cases e5:j<n
 ·have f8:(j:Int)<(n:Int):=by omega
  obtain⟨x,D⟩:=aE (l:=xs) (n:=j) (by rw[a8.o];exact e5);have a2:=e1.o j x D;obtain⟨b,f3,rfl,e3,a3⟩:=d4.o (by omega);have d0:=(E.o.cell (p:=⟨b,f3+j,none⟩) e3).trans (a3 j _ (aP D));have d2:=(I.o.lt J rfl);have f0:=E.o.size;have g1:¬(x<0):=(by omega);by_cases d3:x=0
  ·subst d3;have F:=aa (c3.o j D);have O:(K (j+1)).length=m+1:=by rw[F.o,az,<-U.o];rfl
   have a6:=aa (show ap (K (j+1))=ap (K j)++[.string ⟨#[90]⟩] by rw[F.o];simp[ap]);clear D a3 a2;go_wp2_with(first|(at_builtin;go_must(refine aX rfl _ _ 26 rfl w.1.size 9 (.string ByteArray.empty) 16 underlying26 mz rfl J Q m (ap (K j)) (I.o.alloc _) rfl wr.1.size 0 1 1 [.string ⟨#[90]⟩] rfl rfl (cz rfl) (by intro u a1;simp at a1;subst a1;rfl) (by omega) (by unfold maxLen;omega) (by simp;omega) ?_);intro b2 b1 f5 W a0 b6 e6));have a9:=aa W;have a5:=aa ((E.o.alloc (by omega) (.cells #[.string ⟨#[90]⟩] 9)).grown a0 (by simp;omega) (by rintro k ⟨⟩;exact d2.1));clear W a0 b6 d0;go_roundw;exact⟨j+1,b2,b1,by omega,by go_num,by rw[O],aa (by rw[O,a6.o];exact a9.o),a5⟩;simp[intOf];omega
  ·by_cases f1:x=1
   ·subst f1;have F:=aa (c4.o j D);have O:m=(K (j+1)).length:=by rw[F.o];exact U.o
    clear D a3 a2;go_wp2;go_roundw;exact⟨j+1,J,Q,by omega,by go_num,by rw[O],aa (by rw[<-O,F.o];exact I.o),E⟩;simp[intOf];omega
   ·have f2:1<x:=by omega
    have g2:(x==0)=false:=by simp[d3]
    have F:=aa (c5.o j x D f2);have O:(K (j+1)).length=m+1:=by rw[F.o,az,<-U.o];rfl
    have e4:=d9.o x a2;have c0:=aa (d8.o x a2 wr E.o);obtain⟨d,d1⟩:=aB (cF x);rw[<-d1] at F e4 c0;obtain⟨t,Y⟩:=aB (α:=ByteArray) (⟨#[90,47]⟩++d);have a6:=aa (show ap (K (j+1))=ap (K j)++[.string t] by rw[F.o,Y];simp[ap]);have e0:=aa Y;have f6:¬(9223372036854775807<2+d.size):=(by omega);clear D a3 a2 d1 Y;go_wp2_with fail;refine c0.o.mono ?_;rintro e f4 ⟨rfl,b4⟩;have e9:=ai I.o b4;have g0:=b4.size;go_wp2_with(first|(at_builtin;go_must(refine aX rfl _ _ 26 rfl w.1.size 9 (.string ByteArray.empty) 16 underlying26 mz rfl J Q m (ap (K j)) (e9.alloc _) rfl f4.1.size 0 1 1 [.string (⟨#[90,47]⟩++d)] rfl rfl (cz rfl) (by intro u a1;simp at a1;subst a1;rfl) (by omega) (by unfold maxLen;omega) (by simp;omega) ?_);intro b2 b1 f5 W a0 b6 e6));rw[<-e0.o] at W;have a9:=aa W;have a5:=aa (((E.o.trans (b4.mono f0)).alloc (by omega) (.cells #[.string (⟨#[90,47]⟩++d)] 9)).grown a0 (by simp;omega) (by rintro k ⟨⟩;exact d2.1));clear W a0 b6 d0;go_roundw;exact⟨j+1,b2,b1,by omega,by go_num,by rw[O],aa (by rw[O,a6.o];exact a9.o),a5⟩;simp[intOf];omega
 ·obtain rfl:j=n:=by omega
  by_cases b5:m=0
  ·have d6:=aa (show c7=⟨#[48]⟩ from by rw[Z.o];unfold Su;rw[if_pos (by rw[<-U.o];exact b5)]);subst b5;go_wp2;go_ret;exact⟨by rw[d6.o];rfl,E.o⟩
  ·have d7:=aa (show c7=dv (K j) ⟨#[43]⟩ from by rw[Z.o];unfold Su;rw[if_neg (by rw[<-U.o];exact b5)]);have f9:((m:Int)==0)=false:=by simp;omega
   have c1:=aa (qJ w.1.size J Q m (K j) ⟨#[43]⟩ wr U.o.symm I.o (by omega) a7.o);rw[<-d7.o] at c1;go_wp2_with fail;refine c1.o.mono ?_;rintro e g3 ⟨rfl,c9⟩;have d5:=aa (E.o.trans (c9.mono E.o.size));clear c9;go_wp2;go_ret;exact⟨rfl,d5.o⟩
def El(k:Nat):ByteArray:=if k=0 then⟨#[109,105,110,117,115]⟩ else if k=1 then⟨#[122,101,114,111]⟩ else⟨#[112,108,117,115]⟩
def Fq(M:List (List Int))(n:Nat):List ByteArray:=[Nr (mM M n),El (vw (wi M n))]
theorem zM(a)(n c)(M)(w)(h:bZ w a n M)(E:kX M=true):
 Calls prog 55 #[.slice a n c] w λe w'=>∃g,e= .returned (.slice (some ⟨g,0,none⟩) 2 2)/\bv (w'.ownsRow w.1.size 9 1 (.slice (some ⟨g,0,none⟩) 2 2) 2 (ap (Fq M n)))/\Below w.1.size w w':=by
 obtain⟨_,b7,b5,a7⟩:=fL E (dp h).1;have a2:=aa (fu a n c M w h);rw[E] at a2;have a1:=aa (zN a n c M w h E);have I:=aa (λ(a5:Option Addr) (cr:Nat) (V:World) (F:Below w.1.size w V) (b8:aO V a5 (mM M n).length (af (mM M n)))=>wV a5 _ cr (mM M n) V b8 (AQ b7.2 a7) (by have:=EN M n;omega));have a3:=aa (λ(V:World) (F:Below w.1.size w V)=>BM a n c M V (h.below F aQ) E);have a9:=Kd (wi M n);have D:=aa (show Fq M n=[Nr (mM M n),El (vw (wi M n))] from rfl);obtain⟨L,J⟩:=aB (Fq M n);rw[<-J] at D;rw[<-J];obtain⟨G,a6⟩:=aB (mM M n);rw[<-a6] at a1 I D;obtain⟨Y,b2⟩:=aB (Nr G);rw[<-b2] at I D;obtain⟨k,b0⟩:=aB (vw (wi M n));rw[<-b0] at a3 a9 D;have c5:(k:Int)<3:=(by omega);have c4:(0:Int)<=(k:Int):=(by omega);have c7:IntKind.i64.wrap ((k:Int)-1+1)=(k:Int):=by rw[show(k:Int)-1+1=(k:Int) by omega];exact au _ (by omega)
 have c8:IntKind.i64.wrap (k:Int)=(k:Int):=au _ (by omega);have c6:(k:Int)-1+1=(k:Int):=(by omega);have a0:=aa (λ(V a4:World) (F:Below (V.1.size+1) (V.alloc (.cells #[.string ⟨#[109,105,110,117,115]⟩,.string ⟨#[122,101,114,111]⟩,.string ⟨#[112,108,117,115]⟩] 9)) a4)=>show a4.cell? ⟨V.1.size,k,none⟩=some (.string (El k)) from by
  refine(F.cell (p:=⟨V.1.size,k,none⟩) (by show V.1.size<V.1.size+1;omega)).trans ?_;rw[aL _ _ _ _ rfl];match k,a9 with
  |0,_=>rfl
  |1,_=>rfl
  |2,_=>rfl)
 obtain⟨st,b1⟩:=aB (El k);rw[<-b1] at a0 D;have b4:=aa (show ap L=[.string Y,.string st] from by rw[D.o];rfl);clear h E b5 a7 J a6 b2 b0 b1;go_enter func55,ntmps55;go_wp2_with fail;refine a2.o.mono ?_;rintro e w' ⟨rfl,rfl⟩;go_wp2_with(first|(go_at_call 134;refine a1.o.mono ?_;rintro e c9 ⟨c1,c2,rfl,b9,O⟩)|(go_at_call 133;refine(I.o _ _ _ O b9).mono ?_;rintro e Z ⟨rfl,b6⟩;have Q:=O.trans (b6.mono O.size);have a8:Below w.1.size w (Z.alloc (.cells #[.string ⟨#[109,105,110,117,115]⟩,.string ⟨#[122,101,114,111]⟩,.string ⟨#[112,108,117,115]⟩] 9)):=Q.alloc Q.size _)|(go_at_call 135;refine(a3.o _ a8).mono ?_;rintro e b3 ⟨rfl,U⟩;rw[dj] at U;have c3:=a0.o Z b3 U));have c0:w.1.size<=Z.1.size+1:=by have:=Q.size;omega
 have W:=a8.trans (U.mono c0);go_ret;refine⟨_,rfl,aa ?_,W.alloc W.size _⟩;rw[b4.o];exact bd (w:=b3) (base:=w.1.size) (e:=9) #[.string Y,.string st] [.string Y,.string st] rfl W.size (by unfold maxLen;simp)
theorem AK(a)(n c)(M)(w)(h:bZ w a n M)(E:kX M=true)(c1:qP w):
 Calls prog 47 #[.slice a n c] w λe w'=>∃g,e= .returned (.slice (some ⟨g,0,none⟩) 2 2)/\bv (w'.ownsRow w.1.size 9 1 (.slice (some ⟨g,0,none⟩) 2 2) 2 (ap (Fq M n)))/\Below w.1.size w w':=by
 obtain⟨_,b7,b5,a7⟩:=fL E (dp h).1;have a2:=aa (gI a n c M w h);rw[E] at a2;have a1:=aa (AM a n c M w h E);have I:=aa (λ(a5:Option Addr) (cr:Nat) (V:World) (F:Below w.1.size w V) (b8:aO V a5 (mM M n).length (af (mM M n)))=>xB a5 _ cr (mM M n) V b8 (AQ b7.2 a7) (by have:=EN M n;omega) (gt c1 F aQ));have a3:=aa (λ(V:World) (F:Below w.1.size w V)=>Cb a n c M V (h.below F aQ) E);have a9:=Kd (wi M n);have D:=aa (show Fq M n=[Nr (mM M n),El (vw (wi M n))] from rfl);obtain⟨L,J⟩:=aB (Fq M n);rw[<-J] at D;rw[<-J];obtain⟨G,a6⟩:=aB (mM M n);rw[<-a6] at a1 I D;obtain⟨Y,b2⟩:=aB (Nr G);rw[<-b2] at I D;obtain⟨k,b0⟩:=aB (vw (wi M n));rw[<-b0] at a3 a9 D;have c6:(k:Int)<3:=(by omega);have c5:(0:Int)<=(k:Int):=(by omega);have c8:IntKind.i64.wrap ((k:Int)-1+1)=(k:Int):=by rw[show(k:Int)-1+1=(k:Int) by omega];exact au _ (by omega)
 have c9:IntKind.i64.wrap (k:Int)=(k:Int):=au _ (by omega);have c7:(k:Int)-1+1=(k:Int):=(by omega);have a0:=aa (λ(V a4:World) (F:Below (V.1.size+1) (V.alloc (.cells #[.string ⟨#[109,105,110,117,115]⟩,.string ⟨#[122,101,114,111]⟩,.string ⟨#[112,108,117,115]⟩] 9)) a4)=>show a4.cell? ⟨V.1.size,k,none⟩=some (.string (El k)) from by
  refine(F.cell (p:=⟨V.1.size,k,none⟩) (by show V.1.size<V.1.size+1;omega)).trans ?_;rw[aL _ _ _ _ rfl];match k,a9 with
  |0,_=>rfl
  |1,_=>rfl
  |2,_=>rfl)
 obtain⟨st,b1⟩:=aB (El k);rw[<-b1] at a0 D;have b4:=aa (show ap L=[.string Y,.string st] from by rw[D.o];rfl);clear h E b5 a7 J a6 b2 b0 b1;go_enter func47,ntmps47;go_wp2_with fail;refine a2.o.mono ?_;rintro e w' ⟨rfl,rfl⟩;go_wp2_with(first|(go_at_call 122;refine a1.o.mono ?_;rintro e d0 ⟨c2,c3,rfl,b9,O⟩)|(go_at_call 121;refine(I.o _ _ _ O b9).mono ?_;rintro e Z ⟨rfl,b6⟩;have Q:=O.trans (b6.mono O.size);have a8:Below w.1.size w (Z.alloc (.cells #[.string ⟨#[109,105,110,117,115]⟩,.string ⟨#[122,101,114,111]⟩,.string ⟨#[112,108,117,115]⟩] 9)):=Q.alloc Q.size _)|(go_at_call 123;refine(a3.o _ a8).mono ?_;rintro e b3 ⟨rfl,U⟩;rw[dj] at U;have c4:=a0.o Z b3 U));have c0:w.1.size<=Z.1.size+1:=by have:=Q.size;omega
 have W:=a8.trans (U.mono c0);go_ret;refine⟨_,rfl,aa ?_,W.alloc W.size _⟩;rw[b4.o];exact bd (w:=b3) (base:=w.1.size) (e:=9) #[.string Y,.string st] [.string Y,.string st] rfl W.size (by unfold maxLen;simp)
def mV(t:List (List Int))(k j:Nat):List (List Int):=(t.take j).map λr=>r.take k
theorem Jy{t}{n k}(D:cS t n n)(a0:k<=n):mV t k k=dn t (List.range k) (List.range k):=by
 have F:=fc t (List.range k) (List.range k);rw[cD] at F;have W:cS (mV t k k) k k:=⟨by simp[mV,D.len];omega,λr h=>by
  unfold mV at h;obtain⟨Y,I,rfl⟩:=bi.1 h;have:=D.row Y (dh I);simp;omega⟩
 refine mF W F λi j hi E=> ?_
 obtain⟨r,h,a1,Z⟩:=D.get (i:=i) (by omega);have J:(mV t k k)[i]? =some (r.take k):=by simp[mV,hi,h]
 have O:(dn t (List.range k) (List.range k))[i]? =some ((List.range k).map λj=>cB t i j):=by simp[dn,hi]
 rw[iR J,iR O];have Q:(r.take k)[j]? =some (mP r j):=by rw[cP,if_pos E];exact dR (by omega)
 rw[jq Q];have U:((List.range k).map λj=>cB t i j)[j]? =some (cB t i j):=by simp[E]
 rw[jq U,iR h]
theorem Hk{t}{k j}{r}(h:t[j]? =some r):mV t k (j+1)=mV t k j++[r.take k]:=by
 unfold mV;rw[bg,h];simp
def Iu(w:World)(D:List Value)(h:List (List Int)):Prop:=D.length=h.length/\∀(i:Nat) (x:Value) (r:List Int),D[i]? =some x->h[i]? =some r->∃a' c',x= .slice a' r.length c'/\r.length<=c'/\aO w a' r.length (af r)
theorem Iu.snoc{w}{F}{Q}{r}{a'}{c'}(h:Iu w F Q)(W:r.length<=c')(Y:aO w a' r.length (af r)):Iu w (F++[.slice a' r.length c']) (Q++[r]):=by
 obtain⟨J,U⟩:=h;refine⟨by simp[J],λi x Z D E=> ?_⟩;by_cases hi:i<F.length
 ·rw[aR hi] at D;rw[aR (by omega)] at E;exact U i x Z D E
 ·rw[bj (by omega)] at D;rw[bj (by omega)] at E;have O:i-F.length=0:=by
   rcases dN (i-F.length) with I|I
   ·exact I
   ·rw[aU (by simp;omega)] at D;cases D
  rw[O] at D;rw[<-J,O] at E;simp only[cM,aI] at D E;subst D E;exact⟨a',c',rfl,W,Y⟩
theorem Om{w}{b E n k}{r}(h:aO w (some ⟨b,E,none⟩) n (af r))(a0:k<=n)(I:0<n):aO w (some ⟨b,E,none⟩) k (af (r.take k)):=by
 obtain⟨J,Z,O⟩:=h;have a1:r.length=n:=by simpa[af] using J
 refine⟨by simp[af];omega,by omega,λ_=> ?_⟩;obtain⟨F,Y,W,Q,U⟩:=O I;refine⟨F,Y,W,Q,λi x D=>U i x ?_⟩;rw[jL,cP] at D;split at D
 ·exact D
 ·cases D
theorem EK(a)(n c k)(t)(w)(a4:gU w a n t)(a7:n<=c)(a5:cS t n n)(b1:k<=n)(e4:n<=9)(d9:1<=k):
 Calls prog 246 #[.slice a n c,Ud k] w λe w'=>∃Q a3,e= .returned (.slice Q k a3)/\gU w' Q k (dn t (List.range k) (List.range k))/\Below w.1.size w w':=by
 have c0:=aa (λ(i:Nat) (hi:i<n)=>Ot a4 a5 hi);have b6:=aa (Jy a5 b1);have b8:=aa (λ(j:Nat) (r:List Int) (h:t[j]? =some r)=>Hk (k:=k) h);obtain⟨e8,b3,_,_⟩:=a4;obtain⟨c2,d0,rfl,c6,_⟩:=b3.at_ (by omega);have a1:=aa (show(w.alloc (.cells #[] 37)).ownsRow w.1.size 37 1 (.slice (some ⟨w.1.size,0,none⟩) 0 0) 0 [] from bd #[] _ rfl aQ (by unfold maxLen;simp));have a2:=aa (show Iu w [] (mV t k 0) from⟨by simp[mV],λi x r W=>by simp at W⟩);have Z:=aa (show Below w.1.size w (w.alloc (.cells #[] 37)) from aZ.alloc aQ _);have e0:(k:Int)<=(c:Int):=(by omega);have d8:(0:Int)<=(k:Int):=(by omega);have d2:¬(c=0):=(by omega);go_enter func246,ntmps246;go_wp2;go_loopw[5,13] (λv i wr=>∃(j go I:Nat) (F:List Value),j<=k/\i= Ud j/\v= .slice (some ⟨go,0,none⟩) j I/\bv (wr.ownsRow w.1.size 37 1 (.slice (some ⟨go,0,none⟩) j I) j F)/\bv (Iu w F (mV t k j))/\bv (Below w.1.size w wr)) (λ_ i _=>k-(intOf i).toNat);exact⟨0,w.1.size,0,[],by omega,rfl,rfl,a1,a2,Z⟩;obtain⟨j,go,I,F,d6,rfl,rfl,J,O,E⟩:=hrel;by_cases e2:j<k
 ·have d7:(j:Int)<(k:Int):=by omega
  obtain⟨b,e7,a',c',r,a9,c5,a8,d4,D,h,e6,_⟩:=c0.o j (by omega);simp only[aI,cA,and_true] at a9;obtain⟨rfl,rfl⟩:=a9;obtain⟨U,Y,rfl,d1,_⟩:=D.at_ (by omega);have d5:=(E.o.cell (p:=⟨c2,d0+j,none⟩) c5).trans a8;have e1:(k:Int)<=(c':Int):=(by omega);have d3:¬(c'=0):=(by omega);have a0:=aa (O.o.snoc (r:=r.take k) (a':=some ⟨U,Y,none⟩) (c':=c') (by simp;omega) (by
   have c8:(r.take k).length=k:=by simp;omega
   rw[c8];exact Om D b1 (by omega)))
  rw[show(r.take k).length=k by simp;omega] at a0;have b7:=aa (b8.o j r h);have c9:=E.o.size;have c7:=(J.o.lt go rfl).1;go_wp2_with(first|(at_builtin;go_must(refine aX rfl _ _ 24 rfl w.1.size 37 (.slice none 0 0) 24 underlying24 eS rfl go I j F (J.o.alloc _) rfl wr.1.size 0 1 1 [.slice (some ⟨U,Y,none⟩) k c'] rfl rfl (cz rfl) (by intro u b4;simp at b4;subst b4;rfl) (by omega) (by unfold maxLen;omega) (by simp;omega) ?_);intro c4 c3 e9 b2 b0 e5 e3));have b9:=aa b2;have b5:=aa ((E.o.alloc c9 (.cells #[.slice (some ⟨U,Y,none⟩) k c'] 37)).grown b0 (by simp;omega) (by rintro q ⟨⟩;exact c7));go_roundw;exact⟨j+1,c4,c3,_,by omega,by go_num,rfl,b9,aa (by rw[b7.o];exact a0.o),b5⟩;simp[intOf];omega
 ·obtain rfl:j=k:=by omega
  obtain⟨Q,a3,a6,_,D⟩:=nR J.o (by omega);simp only[aJ,true_and] at a6;obtain⟨rfl,rfl⟩:=a6;have c1:=aa (show gU wr (some ⟨go,0,none⟩) j (dn t (List.range j) (List.range j)) from by
   rw[<-b6.o];exact⟨F,D,O.o.1,λi x r W h=>let⟨a',c',e,a7,q⟩:=O.o.2 i x r W h;⟨a',c',e,a7,q.below E.o aQ⟩⟩)
  go_wp2;go_ret;exact⟨_,_,rfl,c1.o,E.o⟩
theorem AH(a)(n c)(M)(q d)(w)(b4:bZ w a n M)(b8:cS M n n)(e6:1<=n/\n<=4)(a1:∀i j,i<n->j<n->0<=cB M i j/\cB M i j<=9)(c4:0<=q/\q<=3601)(c2:0<=d/\d<=100):
 Calls prog 200 #[.slice a n c,Ud q,Ud d] w λe w'=>e= .returned (.bool (jE M n q d))/\Below w.1.size w w':=by
 have Y:=aa (show Calls prog 208 #[.slice a n c,Ud q,Ud d] w λe w'=>∃D E,e= .returned (.slice D n E)/\n<=E/\gU w' D n (fi M n q d)/\Below w.1.size w w' from(sj a n c M q d w b4 b8 e6 a1 c4 c2).mono (by
  rintro e w' ⟨v,rfl,e3,e1⟩;obtain⟨D,E,rfl,a3,h⟩:=fH e3 (ma M n q d) (by omega);exact⟨D,E,rfl,a3,h,e1⟩))
 have Q:=aa (λ(k:Nat) (e0:1<=k) (I:k<=n) (a:Option Addr) (c:Nat) (V:World) (a3:n<=c) (h:gU V a n (fi M n q d))=>EK a n c k (fi M n q d) V h a3 (ma M n q d) I (by omega) e0);have a8:=aa (λ(k:Nat) (I:k<=n) (a:Option Addr) (c:Nat) (V:World) (h:gU V a k (sB M n q d k))=>gH 10000 (by omega) (by omega) k (by omega) (sB M n q d k) a c V h (uT M n q d k) (Ha a1 c4 c2 I));have a0:=aa (λ(k:Nat) (I:k<n) (a4:rV M n q d k=false)=>Bo I a4);have b1:=aa (λ(k:Nat) (e7:(List.range k).all (rV M n q d)=true) (a5:rV M n q d k=true)=>Bp e7 a5);have W:=aa (show jE M n q d=(List.range n).all (rV M n q d) from rfl);have Z:=aa (λk=>show rV M n q d k=decide (0<kZ (k+1) (sB M n q d (k+1))) from rfl);have b0:=aa (λk=>show dn (fi M n q d) (List.range k) (List.range k)=sB M n q d k from rfl);simp only[b0.o] at Q;obtain⟨R,a2⟩:=aB (jE M n q d);rw[<-a2] at a0 W;rw[<-a2];obtain⟨P,b7⟩:=aB (rV M n q d);rw[<-b7] at a0 b1 W Z;obtain⟨e8,b6⟩:=aB (fi M n q d);rw[<-b6] at Y Q;obtain⟨b2,b5⟩:=aB (sB M n q d);rw[<-b5] at Z Q a8;clear b4 b8 a2 a1 b7 b6 b5 b0;go_enter func200,ntmps200;go_wp2_with fail;refine Y.o.mono ?_;rintro e c7 ⟨D,E,rfl,e2,c5,b9⟩;have d6:=aa c5;have J:=aa b9;clear c5 b9 Y;go_wp2;go_loopw[8] (λi wr=>∃k:Nat,k<=n/\i= Ud ((k+1:Nat):Int)/\bv ((List.range k).all P=true)/\bv (Below c7.1.size c7 wr)) (λi _=>n+1-(intOf i).toNat);exact⟨0,by omega,rfl,aa rfl,aa aZ⟩;obtain⟨k,I,rfl,b3,O⟩:=hrel;obtain⟨K,F⟩:=aB (k+1);have c9:=aa F;have d0:=aa (show(K:Int)+1=((k+1+1:Nat):Int) by rw[F];rfl);rw[<-F];by_cases e5:k<n
 ·have e4:(K:Int)<=(n:Int):=by omega
  have c8:=aa (Q.o K (by omega) (by omega) D E wr e2 (d6.o.below O.o aQ));have a9:=aa (λ(a:Option Addr) (c:Nat) (V:World) (h:gU V a K (b2 K))=>a8.o K (by omega) a c V h);have U:=aa (Z.o k);have d5:=aa (λa4=>a0.o k e5 a4);have d4:=aa (λa5=>b1.o k b3.o a5);rw[<-F] at U;obtain⟨d9,c3⟩:=aB (kZ K (b2 K));rw[<-c3] at a9 U;clear c3 F;go_wp2_with fail;refine c8.o.mono ?_;rintro e f0 ⟨d7,d8,rfl,c6,c0⟩;have a6:=aa (O.o.trans (c0.mono O.o.size));go_wp2_with fail;refine(a9.o d7 d8 _ c6).mono ?_;rintro e f1 ⟨rfl,c1⟩;have a7:=aa (a6.o.trans (c1.mono a6.o.size));clear c6 c0 c1;by_cases e9:d9<=0
  ·have d2:=aa (d5.o (by rw[U.o];exact decide_eq_false (by omega)));go_wp2;go_ret;exact⟨aG d2.o.symm,J.o.trans (a7.o.mono J.o.size)⟩
  ·have d1:=aa (d4.o (by rw[U.o];exact decide_eq_true (by omega)));go_wp2;go_roundw;exact⟨k+1,by omega,congrArg (Value.int .i64) d0.o,d1,a7⟩;have:=c9.o;simp[intOf];omega
 ·obtain rfl:k=n:=by omega
  have e4:¬((K:Int)<=(k:Int)):=(by omega);have d3:=aa (W.o.trans b3.o);clear F;go_wp2;go_ret;exact⟨aG d3.o.symm,J.o.trans (O.o.mono J.o.size)⟩
def tT(P:Nat->Bool)(lo hi:Nat):Nat:=if h:1<hi-lo then(if P ((lo+hi)/2)=true then tT P lo ((lo+hi)/2) else tT P ((lo+hi)/2) hi) else lo
termination_by hi-lo
decreasing_by all_goals omega
theorem EY(P)(lo hi):tT P lo hi=if 1<hi-lo then(if P ((lo+hi)/2)=true then tT P lo ((lo+hi)/2) else tT P ((lo+hi)/2) hi) else lo:=by
 rw[tT];split<;>rfl
theorem EX(P)(lo hi)(h:lo<=hi):tT P lo hi<=hi:=by
 rw[EY];split
 ·split
  ·exact bn (EX P lo ((lo+hi)/2) (by omega)) (by omega)
  ·exact EX P ((lo+hi)/2) hi (by omega)
 ·exact h
termination_by hi-lo
decreasing_by all_goals omega
def qa(M:List (List Int))(n d:Nat):Nat:=tT (λq:Nat=>jE M n (q:Int) (d:Int)) 0 (36*d+1)
theorem AU(M)(n d):qa M n d<=36*d+1:=EX _ _ _ (by omega)
theorem rM(a)(n c d:Nat)(M)(w)(h:bZ w a n M)(a0:kX M=true)(c5:1<=d/\d<=100):
 Calls prog 126 #[.slice a n c,Ud d] w λe w'=>e= .returned (Ud (qa M n d:Nat))/\Below w.1.size w w':=by
 obtain⟨_,b8,a9,a8⟩:=fL a0 (dp h).1;have a4:=aa (λ(V:World) (a1:Below w.1.size w V)=>fu a n c M V (h.below a1 aQ));rw[a0] at a4;have a3:=aa (λ(q:Nat) (J:q<=3601) (V:World) (a1:Below w.1.size w V)=>show Calls prog 211 #[.slice a n c,Ud (q:Int),Ud (d:Int)] V λe w'=>e= .returned (.bool (jE M n (q:Int) (d:Int)))/\Below V.1.size V w' from zE a n c M (q:Int) (d:Int) V (h.below a1 aQ) a9 b8 a8 (by omega) (by omega));have F:=aa (show qa M n d=tT (λq:Nat=>jE M n (q:Int) (d:Int)) 0 (36*d+1) from rfl);obtain⟨P,Z⟩:=aB (α:=Nat->Bool) ((λq:Nat=>jE M n (q:Int) (d:Int)));have a6:=aa (λq:Nat=>show jE M n (q:Int) (d:Int)=P q by rw[Z]);simp only[a6.o] at a3;rw[<-Z] at F;have b3:=aa (λlo hi=>EY P lo hi);obtain⟨G,W⟩:=aB (qa M n d);rw[<-W] at F;rw[<-W];obtain⟨H,a7⟩:=aB (36*d+1);rw[<-a7] at F;have Y:36*(d:Int)+1=(H:Int):=(by omega);have c1:IntKind.i64.wrap (36*(d:Int))=36*(d:Int):=au _ (by omega);have c2:IntKind.i64.wrap (36*(d:Int)+1)=(H:Int):=by rw[au (36*(d:Int)+1) (by omega)];exact Y
 have b5:H<=3601:=(by omega);have b4:0<H:=(by omega);have a5:=aa (λw=>eB (d:Int) 1 100 w);rw[fj (show(1:Int)<=(d:Int)/\(d:Int)<=100 by omega)] at a5;clear h a0 a9 a8 Z W a7 a6;go_enter func126,ntmps126;go_wp2_with fail;refine(a4.o _ aZ).mono ?_;rintro e w' ⟨rfl,rfl⟩;go_wp2_with(go_at_call 96;refine(a5.o _).mono ?_;rintro e w' ⟨rfl,rfl⟩);try rw[Y]
 clear c1 c2 Y;go_loopw[5,6] (λl h wr=>∃lo hi:Nat,lo<hi/\hi<=3601/\l= Ud lo/\h= Ud hi/\bv (G=tT P lo hi)/\bv (Below w.1.size w wr)) (λl h _=>(intOf h).toNat-(intOf l).toNat);exact⟨0,H,b4,b5,rfl,rfl,F,aa aZ⟩;clear F;obtain⟨lo,hi,c6,b7,rfl,rfl,U,D⟩:=hrel;have E:=aa (b3.o lo hi);by_cases b1:1<hi-lo
 ·have b6:(1:Int)<(hi:Int)-(lo:Int):=by omega
  obtain⟨q,J⟩:=aB ((lo+hi)/2);have b0:Int.tdiv ((lo:Int)+(hi:Int)) 2=(q:Int):=by
   rw[J];exact(show Int.tdiv ((lo+hi:Nat):Int) ((2:Nat):Int)=(((lo+hi)/2:Nat):Int) from rfl)
  have c7:IntKind.i64.wrap (q:Int)=(q:Int):=au _ (by omega);have b9:lo<q:=(by omega);have c0:q<hi:=(by omega);have Q:=aa (a3.o q (by omega) wr D.o);rw[<-J,if_pos b1] at E;clear J;obtain⟨c3,b2⟩:=aB (P q);rw[<-b2] at Q E;clear b2;cases c3 with
  |true=>
   have I:=aa (show G=tT P lo q by rw[U.o,E.o];rfl);go_wp2_with fail;refine Q.o.mono ?_;rintro e c4 ⟨rfl,a2⟩;have O:=aa (D.o.trans (a2.mono D.o.size));clear b0;go_wp2;go_roundw;exact⟨lo,q,b9,by omega,rfl,rfl,I,O⟩;simp[intOf];omega
  |false=>
   have I:=aa (show G=tT P q hi by rw[U.o,E.o];rfl);go_wp2_with fail;refine Q.o.mono ?_;rintro e c4 ⟨rfl,a2⟩;have O:=aa (D.o.trans (a2.mono D.o.size));clear b0;go_wp2;go_roundw;exact⟨q,hi,c0,b7,rfl,rfl,I,O⟩;simp[intOf];omega
 ·have b6:¬((1:Int)<(hi:Int)-(lo:Int)):=by omega
  have I:=aa (show G=lo by rw[U.o,E.o,if_neg b1]);go_wp2;go_ret;exact⟨by rw[I.o];rfl,D.o⟩
theorem su(a)(n c d:Nat)(M)(w)(h:bZ w a n M)(a0:kX M=true)(c4:1<=d/\d<=100):
 Calls prog 113 #[.slice a n c,Ud d] w λe w'=>e= .returned (Ud (qa M n d:Nat))/\Below w.1.size w w':=by
 obtain⟨_,b7,a9,a8⟩:=fL a0 (dp h).1;have a5:=aa (λ(V:World) (a1:Below w.1.size w V)=>gI a n c M V (h.below a1 aQ));rw[a0] at a5;have a4:=aa (λ(q:Nat) (J:q<=3601) (V:World) (a1:Below w.1.size w V)=>show Calls prog 200 #[.slice a n c,Ud (q:Int),Ud (d:Int)] V λe w'=>e= .returned (.bool (jE M n (q:Int) (d:Int)))/\Below V.1.size V w' from AH a n c M (q:Int) (d:Int) V (h.below a1 aQ) a9 b7 a8 (by omega) (by omega));have F:=aa (show qa M n d=tT (λq:Nat=>jE M n (q:Int) (d:Int)) 0 (36*d+1) from rfl);obtain⟨P,Z⟩:=aB (α:=Nat->Bool) ((λq:Nat=>jE M n (q:Int) (d:Int)));have a6:=aa (λq:Nat=>show jE M n (q:Int) (d:Int)=P q by rw[Z]);simp only[a6.o] at a4;rw[<-Z] at F;have b2:=aa (λlo hi=>EY P lo hi);obtain⟨G,W⟩:=aB (qa M n d);rw[<-W] at F;rw[<-W];obtain⟨H,a7⟩:=aB (36*d+1);rw[<-a7] at F;have Y:36*(d:Int)+1=(H:Int):=(by omega);have c0:IntKind.i64.wrap (36*(d:Int))=36*(d:Int):=au _ (by omega);have c1:IntKind.i64.wrap (36*(d:Int)+1)=(H:Int):=by rw[au (36*(d:Int)+1) (by omega)];exact Y
 have b4:H<=3601:=(by omega);have b3:0<H:=(by omega);have a3:¬((d:Int)<1):=(by omega);have c5:¬((100:Int)<(d:Int)):=(by omega);clear h a0 a9 a8 Z W a7 a6;go_enter func113,ntmps113;go_wp2_with fail;refine(a5.o _ aZ).mono ?_;rintro e w' ⟨rfl,rfl⟩;go_wp2;try rw[Y]
 clear c0 c1 Y;go_loopw[5,6] (λl h wr=>∃lo hi:Nat,lo<hi/\hi<=3601/\l= Ud lo/\h= Ud hi/\bv (G=tT P lo hi)/\bv (Below w.1.size w wr)) (λl h _=>(intOf h).toNat-(intOf l).toNat);exact⟨0,H,b3,b4,rfl,rfl,F,aa aZ⟩;clear F;obtain⟨lo,hi,c6,b6,rfl,rfl,U,D⟩:=hrel;have E:=aa (b2.o lo hi);by_cases b0:1<hi-lo
 ·have b5:(1:Int)<(hi:Int)-(lo:Int):=by omega
  obtain⟨q,J⟩:=aB ((lo+hi)/2);have a3:Int.tdiv ((lo:Int)+(hi:Int)) 2=(q:Int):=by
   rw[J];exact(show Int.tdiv ((lo+hi:Nat):Int) ((2:Nat):Int)=(((lo+hi)/2:Nat):Int) from rfl)
  have c7:IntKind.i64.wrap (q:Int)=(q:Int):=au _ (by omega);have b8:lo<q:=(by omega);have b9:q<hi:=(by omega);have Q:=aa (a4.o q (by omega) wr D.o);rw[<-J,if_pos b0] at E;clear J;obtain⟨c2,b1⟩:=aB (P q);rw[<-b1] at Q E;clear b1;cases c2 with
  |true=>
   have I:=aa (show G=tT P lo q by rw[U.o,E.o];rfl);go_wp2_with fail;refine Q.o.mono ?_;rintro e c3 ⟨rfl,a2⟩;have O:=aa (D.o.trans (a2.mono D.o.size));clear a3;go_wp2;go_roundw;exact⟨lo,q,b8,by omega,rfl,rfl,I,O⟩;simp[intOf];omega
  |false=>
   have I:=aa (show G=tT P q hi by rw[U.o,E.o];rfl);go_wp2_with fail;refine Q.o.mono ?_;rintro e c3 ⟨rfl,a2⟩;have O:=aa (D.o.trans (a2.mono D.o.size));clear a3;go_wp2;go_roundw;exact⟨q,hi,b9,b6,rfl,rfl,I,O⟩;simp[intOf];omega
 ·have b5:¬((1:Int)<(hi:Int)-(lo:Int)):=by omega
  have I:=aa (show G=lo by rw[U.o,E.o,if_neg b0]);go_wp2;go_ret;exact⟨by rw[I.o];rfl,D.o⟩
def uU(M:List (List Int))(n d:Nat):ByteArray:=cF ((qa M n d:Nat):Int)++⟨#[47]⟩++cF (d:Int)
theorem vr(a)(n c d:Nat)(M)(w)(h:bZ w a n M)(a2:kX M=true)(a9:1<=d/\d<=100):
 Calls prog 49 #[.slice a n c,Ud d] w λe w'=>e= .returned (.string (uU M n d))/\Below w.1.size w w':=by
 have I:=aa (rM a n c d M w h a2 a9);have O:=aa (AU M n d);have D:=aa (show uU M n d=cF ((qa M n d:Nat):Int)++⟨#[47]⟩++cF (d:Int) from rfl);have J:=aa (λ(x:Int) (h:0<=x/\x<=1000000000000) (V:World)=>dy x V (by omega) (by omega));obtain⟨b5,Q⟩:=aB (uU M n d);rw[<-Q] at D;rw[<-Q];obtain⟨g,a6⟩:=aB (qa M n d);rw[<-a6] at I O D;have b9:=O.o;have b8:¬((g:Int)<0):=(by omega);have b0:=iJ (x:=(g:Int)) ⟨by omega,by omega⟩;have b1:=iJ (x:=(d:Int)) ⟨by omega,by omega⟩;obtain⟨a7,U⟩:=aB (cF (g:Int));obtain⟨b2,W⟩:=aB (cF (d:Int));have E:=aa (λV=>J.o (g:Int) (by omega) V);have F:=aa (λV=>J.o (d:Int) (by omega) V);rw[<-U,<-W] at D;rw[<-U] at b0 E;rw[<-W] at b1 F;have b6:¬(9223372036854775807<a7.size+1):=(by omega);have b7:¬(9223372036854775807<a7.size+1+b2.size):=(by omega);clear h a2 Q a6 U W J O;go_enter func49,ntmps49;go_wp2_with fail;refine I.o.mono ?_;rintro e b3 ⟨rfl,a3⟩;have Y:=aa a3;have a0:=aa (E.o b3);clear a3 I E;go_wp2_with fail;refine a0.o.mono ?_;rintro e b4 ⟨rfl,a4⟩;have Z:=aa (Y.o.trans (a4.mono Y.o.size));have a1:=aa (F.o b4);clear a4 a0 F;go_wp2_with fail;refine a1.o.mono ?_;rintro e c0 ⟨rfl,a5⟩;have a8:=aa (Z.o.trans (a5.mono Z.o.size));clear a5 a1;go_wp2;go_ret;exact⟨by rw[D.o];rfl,a8.o⟩
theorem vY(a)(n c d:Nat)(M)(w)(h:bZ w a n M)(a3:kX M=true)(b1:1<=d/\d<=100)(a8:qP w):
 Calls prog 41 #[.slice a n c,Ud d] w λe w'=>e= .returned (.string (uU M n d))/\Below w.1.size w w':=by
 have Q:=aa (su a n c d M w h a3 b1);have W:=aa (AU M n d);have E:=aa (show uU M n d=cF ((qa M n d:Nat):Int)++⟨#[47]⟩++cF (d:Int) from rfl);have U:=aa (λ(x:Int) (h:0<=x/\x<=1000000000000) (V:World) (D:Below w.1.size w V)=>dU x V ⟨by omega,by omega⟩ (gt a8 D aQ));obtain⟨b7,Y⟩:=aB (uU M n d);rw[<-Y] at E;rw[<-Y];obtain⟨g,a7⟩:=aB (qa M n d);rw[<-a7] at Q W E;have c1:=W.o;have c0:¬((g:Int)<0):=(by omega);have b2:=iJ (x:=(g:Int)) ⟨by omega,by omega⟩;have b3:=iJ (x:=(d:Int)) ⟨by omega,by omega⟩;obtain⟨a9,Z⟩:=aB (cF (g:Int));obtain⟨b4,a0⟩:=aB (cF (d:Int));have J:=aa (λV D=>U.o (g:Int) (by omega) V D);have O:=aa (λV D=>U.o (d:Int) (by omega) V D);rw[<-Z,<-a0] at E;rw[<-Z] at b2 J;rw[<-a0] at b3 O;have b8:¬(9223372036854775807<a9.size+1):=(by omega);have b9:¬(9223372036854775807<a9.size+1+b4.size):=(by omega);clear h a3 Y a7 Z a0 U W a8;go_enter func41,ntmps41;go_wp2_with fail;refine Q.o.mono ?_;rintro e b5 ⟨rfl,a4⟩;have F:=aa a4;have a1:=aa (J.o b5 F.o);clear a4 Q J;go_wp2_with fail;refine a1.o.mono ?_;rintro e b6 ⟨rfl,a5⟩;have I:=aa (F.o.trans (a5.mono F.o.size));have a2:=aa (O.o b6 I.o);clear a5 a1 O;go_wp2_with fail;refine a2.o.mono ?_;rintro e c2 ⟨rfl,a6⟩;have b0:=aa (I.o.trans (a6.mono I.o.size));clear a6 a2;go_wp2;go_ret;exact⟨by rw[E.o];rfl,b0.o⟩
theorem ic{f g:Nat->Int}:∀{n:Nat},(∀i,i<n->f i=g i)->cd f n=cd g n
 |0,_=>rfl
 |n+1,h=>by unfold cd;rw[ic (λi hi=>h i (by omega)),h n (by omega)]
theorem Cw(f g:Nat->Int):∀n,cd (λi=>f i+g i) n=cd f n+cd g n
 |0=>rfl
 |n+1=>by simp only[cd,Cw f g n];omega
theorem wO(f:Nat->Int)(c:Int):∀n,cd (λi=>f i*c) n=cd f n*c
 |0=>by simp[cd]
 |n+1=>by simp only[cd,wO f c n,Int.add_mul]
theorem IC(f)(c)(n):cd (λi=>c*f i) n=c*cd f n:=by
 rw[Int.mul_comm,<-wO];exact ic λi _=>Int.mul_comm _ _
theorem zy:∀n,cd (λ_=>0) n=0
 |0=>rfl
 |n+1=>by simp[cd,zy n]
theorem zz(f:Nat->Nat->Int)(m:Nat):∀n,cd (λi=>cd (f i) m) n=cd (λj=>cd (λi=>f i j) n) m
 |0=>by simp[cd,zy]
 |n+1=>by
  simp only[cd];rw[zz f m n,<-Cw]
def xj(A B:List (List Int))(n:Nat):Option (List (List Int)):=if dB (oY A B n)=true then some (oY A B n) else none
def mS(M:List (List Int))(n:Nat):Nat->Option (List (List Int))|0=>some (kj n)|k+1=>(mS M n k).bind λP=>xj P M n
theorem xk(A B)(n)(h:A.length=n):cS (oY A B n) n n:=⟨by simp[oY,h],λr D=>by
 unfold oY at D;obtain⟨p,_,rfl⟩:=bi.1 D;simp⟩
theorem Mx{A B P}{n}(h:xj A B n=some P)(E:A.length=n):dB P=true/\P.length=n:=by
 unfold xj at h;by_cases D:dB (oY A B n)=true
 ·rw[if_pos D] at h;injection h with h
  subst h;exact⟨D,(xk A B n E).len⟩
 ·rw[if_neg D] at h;cases h
theorem FE{n}(h:1<=n)(D:n<=9):dB (kj n)=true/\(kj n).length=n:=
 ⟨Pt ⟨h,D⟩ (df n n _) λi j hi E=>by unfold kj;rw[km _ hi E];unfold oy;split<;>omega,(df n n _).len⟩
theorem nC{M P:List (List Int)}{n:Nat}(D:1<=n)(E:n<=9):∀k,mS M n k=some P->dB P=true/\P.length=n
 |0,h=>by
  unfold mS at h;injection h with h
  subst h;exact FE D E
 |k+1,h=>by
  unfold mS at h;obtain⟨Q,I,F⟩:=Option.bind_eq_some_iff.1 h;exact Mx F (nC D E k I).2
theorem xd{M:List (List Int)}{n k:Nat}(h:mS M n k=none):∀j,mS M n (k+j)=none
 |0=>h
 |j+1=>by show(mS M n (k+j)).bind _=none;rw[xd h j];rfl
theorem kv{w}{a}{n}{M}(h:bZ w a n M)(I:dB M=true):cS M n n/\1<=n/\n<=9/\∀i j,0<=cB M i j/\cB M i j<=1000000:=by
 obtain⟨D,E,F⟩:=ee I (dp h).1;exact⟨E,D.1,D.2,F⟩
theorem mg{T1 T0}{w}{base n}{v}{R}(h:ct T1 T0 w base v R)(D:cS R n n)(J:n<=1000000):∃a c,v= .slice a n c/\bZ w a n R:=by
 obtain⟨a,c,E,F⟩:=iw h (by rw[D.len];omega) (λr I=>by rw[D.row r I];omega);rw[D.len] at E F;exact⟨a,c,E,F⟩
def wJ(o:Option (List (List Int)))(w:World)(e:Ending)(w':World):Prop:=
 ∃v,e= .returned (.tuple #[v,.bool o.isSome])/\ct 37 3 w' w.1.size v (o.getD [])/\Below w.1.size w w'
theorem Dz(w:World):ct 37 3 (w.alloc (.cells #[] 37)) w.1.size (.slice (some ⟨w.1.size,0,none⟩) 0 0) []:=
 ⟨[],iS w #[] 0 aQ (dW _) rfl,bS.nil _ _ _⟩
theorem yC(a b)(n c d)(A B)(w)(J:bZ w a n A)(D:bZ w b n B)(O:dB A=true)(Q:dB B=true):
 Calls prog 210 #[.slice a n c,.slice b n d] w (wJ (xj A B n) w):=by
 obtain⟨W,b4,b5,a6⟩:=kv J O;obtain⟨a5,_,_,a7⟩:=kv D Q;have a1:=aa (dx a n c A w J);have a2:=aa (dx b n d B w D);rw[O] at a1;rw[Q] at a2;have I:=aa (rH a b n n c d n A B 1000000 1000000 w J D (λr Z=>by rw[W.row r Z];exact aN _) (λr Z=>by rw[a5.row r Z];exact aN _) (λi j _ _=>a6 i j) (λi j _ _=>a7 i j) (by omega) (by omega) (by omega));have a4:=aa (xk A B n W.len);have h:=aa (show xj A B n=if dB (oY A B n)=true then some (oY A B n) else none from rfl);obtain⟨P,a3⟩:=aB (oY A B n);obtain⟨b3,U⟩:=aB (xj A B n);unfold cK at I;unfold wJ;rw[<-a3] at I a4 h;rw[<-U] at h;rw[<-U];go_enter func210,ntmps210;go_wp2_with fail;refine a1.o.mono ?_;rintro e a0 ⟨rfl,rfl⟩;go_wp2_with fail;refine a2.o.mono ?_;rintro e a0 ⟨rfl,rfl⟩;have b6:((n:Int) !=(n:Int))=false:=(by simp);go_wp2_with fail;refine I.o.mono ?_;rintro e a0 ⟨v,rfl,Y,D⟩;obtain⟨b0,b1,rfl,a8⟩:=mg Y a4.o (by omega);have a9:=aa Y;have E:=aa D;have F:=aa (dx b0 n b1 P a0 a8);cases hm:dB P
 ·rw[hm] at F h;go_wp2_with fail;refine F.o.mono ?_;rintro e b2 ⟨rfl,rfl⟩;go_wp2;go_ret2;exact⟨_,by rw[h.o];rfl,by rw[h.o];exact(Dz _).base E.o.size,E.o.alloc E.o.size _⟩
 ·rw[hm] at F h;go_wp2_with fail;refine F.o.mono ?_;rintro e b2 ⟨rfl,rfl⟩;go_wp2;go_ret2;exact⟨_,by rw[h.o];rfl,by rw[h.o];exact a9.o,E.o⟩
theorem ut(a)(n c k:Nat)(M)(w)(h:bZ w a n M)(U:dB M=true)(c7:k<=30):
 Calls prog 124 #[.slice a n c,Ud k] w (wJ (mS M n k) w):=by
 obtain⟨c0,a7,a8,_⟩:=kv h U;have a3:=aa (dx a n c M w h);rw[U] at a3;have c6:=fj (x:=(k:Int)) (lo:=0) (hi:=30) (by omega);have a2:=aa (qr n w a7 a8);have a4:=aa (λ(b:Option Addr) (d:Nat) (P:List (List Int)) (W:World) (c4:Below w.1.size w W) (c3:bZ W b n P) (b9:dB P=true)=>yC b a n d c P M W c3 (h.below c4 aQ) b9 U);have b4:=aa (λ(j:Nat) (P:List (List Int))=>nC (M:=M) (P:=P) (n:=n) a7 a8 j);have b5:=aa (λ(j:Nat) (h:mS M n j=none) (c1:j<=k)=>show mS M n k=none by have:=xd h (k-j);rwa[show j+(k-j)=k by omega] at this);unfold cK at a2;unfold wJ at a4⊢;clear h U c0;go_enter func124,ntmps124;go_wp2_with fail;refine a3.o.mono ?_;rintro e c5 ⟨rfl,rfl⟩;go_wp2_with(first|(go_at_call 96;refine(eB _ _ _ _).mono ?_;rintro e w' ⟨rfl,rfl⟩)|(go_at_call 127;refine a2.o.mono ?_;rintro e c5 ⟨v,rfl,E,D⟩));go_loopw[6,7] (λx i wr=>∃(j:Nat) (P:List (List Int)),j<=k/\i= Ud j/\mS M n j=some P/\ct 37 3 wr w.1.size x P/\Below w.1.size w wr) (λ_ i _=>k-(intOf i).toNat);exact⟨0,kj n,by omega,rfl,rfl,E,D⟩;obtain⟨j,P,c1,rfl,I,E,D⟩:=hrel;have a6:=aa I;have J:=b4.o j P I;have a0:=(ee J.1 J.2).2.1;obtain⟨b7,b8,rfl,a1⟩:=mg E a0 (by omega);by_cases c2:j<k
 ·have Z:=aa (a4.o b7 b8 P _ D a1 J.1);have F:=aa D;have Y:=aa (show mS M n (j+1)=xj P M n by show(mS M n j).bind _=_;rw[I];rfl);clear I E D a1 J a0;obtain⟨b6,a9⟩:=aB (xj P M n);rw[<-a9] at Z Y;clear a9;go_wp2_with fail;refine Z.o.mono ?_;rintro e c9 ⟨c8,rfl,b1,b0⟩;have O:=aa (F.o.trans (b0.mono F.o.size));have b3:=aa (b1.base F.o.size);clear b1 b0 Z;cases b6 with
  |none=>
   have a5:=aa (b5.o (j+1) Y.o c2);go_wp2;go_ret2;exact⟨_,by rw[a5.o];rfl,by rw[a5.o];exact(Dz _).base O.o.size,O.o.alloc O.o.size _⟩
  |some Q=>
   go_wp2;go_roundw;exact⟨j+1,Q,by omega,by go_num,Y.o,b3.o,O.o⟩;simp[intOf];omega
 ·obtain rfl:j=k:=by omega
  have b2:=aa E;have F:=aa D;clear I E D a1 J a0;go_wp2;go_ret2;exact⟨_,by rw[a6.o];rfl,by rw[a6.o];exact b2.o,F.o⟩
def vg(P:List (List Int))(n:Nat):Int:=cd (λu=>cB P u u) n
theorem zL(a)(n c)(M)(w)(h:bZ w a n M)(E:dB M=true):
 Calls prog 125 #[.slice a n c] w λe w'=>e= .returned (Ud (vg M n))/\w=w':=by
 obtain⟨F,a7,a0,U⟩:=kv h E;have O:=aa (dx a n c M w h);rw[E] at O;have a4:=aa h;have a3:=aa F;have W:=aa U;have b1:n<=9:=a0;have Y:=aa (λ(j:Nat) (I:j<n)=>iD h F I I);clear h E F U;go_enter func125,ntmps125;go_wp2_with fail;refine O.o.mono ?_;rintro e b8 ⟨rfl,rfl⟩;go_wp2;go_loop[3,4] (λs i=>∃(j:Nat) (z:Int),j<=n/\i= Ud j/\s= Ud z/\0<=z/\z<=j*1000000/\bv (z=cd (λu=>cB M u u) j)) (λ_ i=>n-(intOf i).toNat);exact⟨0,0,by omega,rfl,rfl,by omega,by omega,rfl⟩;obtain⟨j,z,I,rfl,rfl,b4,b5,Q⟩:=hrel;by_cases a2:j<n
 ·obtain⟨b,b6,a5,b7,a6,rfl,a8,b0,a9,a1⟩:=Y.o j a2;have D:=W.o j j;obtain⟨x,J⟩:=aB (cB M j j);have Z:=aa J;rw[<-J] at D a1;have b2:=D.1;have b3:=D.2;clear J D;go_wp2;go_round;exact⟨j+1,z+x,by omega,by go_num,rfl,by omega,by omega,by show _=cd _ j+cB M j j;rw[<-Z.o,<-Q.o]⟩;simp[intOf];omega
 ·obtain rfl:j=n:=by omega
  go_wp2;go_ret;exact⟨cW (by rw[Q.o];rfl),rfl⟩
def lx(M:List (List Int))(n k:Nat):Int:=match mS M n k with|none=> -1|some P=>vg P n
theorem uz(a)(n c k:Nat)(M)(w)(h:bZ w a n M)(J:dB M=true)(a7:1<=k)(a5:k<=30):
 Calls prog 48 #[.slice a n c,Ud k] w λe w'=>e= .returned (Ud (lx M n k))/\Below w.1.size w w':=by
 have F:=ee J (dp h).1;have a8:=fj (x:=(k:Int)) (lo:=1) (hi:=30) (by omega);have I:=aa (ut a n c k M w h J a5);have U:=aa (λP=>nC (M:=M) (P:=P) (n:=n) F.1.1 F.1.2 k);have D:=aa (show lx M n k=match mS M n k with|none=> -1|some P=>vg P n from rfl);unfold wJ at I;have a9:=F.1.2;obtain⟨a2,W⟩:=aB (mS M n k);obtain⟨r,Q⟩:=aB (lx M n k);rw[<-W] at I U D;rw[<-Q] at D;rw[<-Q];clear h J F W Q;go_enter func48,ntmps48;go_wp2_with(go_at_call 96;refine(eB _ _ _ _).mono ?_;rintro e w' ⟨rfl,rfl⟩);refine I.o.mono ?_;rintro e a6 ⟨v,rfl,Y,O⟩;cases a2 with
 |none=>
  go_wp2;go_ret;exact⟨cW D.o.symm,O⟩
 |some P=>
  have E:=U.o P rfl;obtain⟨a3,a4,rfl,Z⟩:=mg (R:=P) Y (ee E.1 E.2).2.1 (by omega);have a1:=aa (zL a3 n a4 P a6 Z E.1);have a0:=aa O;clear Y O Z E;go_wp2_with fail;refine a1.o.mono ?_;rintro e b0 ⟨rfl,rfl⟩;go_wp2;go_ret;exact⟨cW D.o.symm,a0.o⟩
def tM(A B:List (List Int))(n p k j:Nat):List Int:=(List.range n).map λq=>if q<j then kL A B p q (k+1) else kL A B p q k
def Rl(A B:List (List Int))(n i:Nat):List (List Int):=(List.range i).map λp=>tM A B n p n 0
theorem vN(A B)(n p k j):(tM A B n p k j).length=n:=by simp[tM]
theorem Ak{A B}{n p k j q}(h:q<n):(tM A B n p k j)[q]? =some (if q<j then kL A B p q (k+1) else kL A B p q k):=by simp[tM,h]
theorem My(A B)(n p):tM A B n p 0 0=List.replicate n 0:=by
 refine da (by simp[tM]) λq h D=> ?_
 simp only[tM,jP,iU,lE];rw[if_neg (by omega)];rfl
theorem MA{A B}{n p k j}(h:j<n):(tM A B n p k j)[j]? =some (kL A B p j k):=by rw[Ak h,if_neg (by omega)]
theorem OU{A B}{n p k j}(h:j<n):(tM A B n p k j).set j (kL A B p j k+cB A p k*cB B k j)=tM A B n p k (j+1):=by
 refine ex λq=> ?_
 rw[bU,vN];by_cases D:q<n
 ·rw[Ak D,Ak D];by_cases E:j=q
  ·subst E;rw[if_pos rfl,if_pos D,if_pos (by omega)];rfl
  ·rw[if_neg E];by_cases F:q<j
   ·rw[if_pos F,if_pos (by omega)]
   ·rw[if_neg F,if_neg (by omega)]
 ·rw[if_neg (by omega),aU (by rw[vN];omega),aU (by rw[vN];omega)]
theorem Mz(A B)(n p k):tM A B n p k n=tM A B n p (k+1) 0:=by
 refine bp λq h=> ?_
 rw[if_pos (aD.1 h),if_neg (by omega)]
theorem OT(A B)(n i):Rl A B n (i+1)=Rl A B n i++[tM A B n i n 0]:=by simp[Rl,bh]
theorem Rj(A B)(n i):(Rl A B n i).length=i:=by simp[Rl]
theorem Rk{A B}{n}(h:A.length=n)(D:B.length=n):Rl A B n n=oY A B n:=by
 unfold Rl oY;rw[h,D];refine bp λp _=> ?_
 unfold tM;refine bp λq _=> ?_
 rw[if_neg (by omega)]
theorem EJ(a b)(n i1 i2)(A B)(w)(d8:bZ w a n A)(e1:bZ w b n B)(a9:cS A n n)(b0:cS B n n)(l9:1<=n)(m0:n<=9)(b1:∀i j,0<=cB A i j/\cB A i j<=1000000)(b2:∀i j,0<=cB B i j/\cB B i j<=1000000):
 Calls prog 245 #[.slice a n i1,.slice b n i2] w (cK (oY A B n) w):=by
 have g5:=aa (λ(i:Nat) (hi:i<n)=>fQ d8 a9 hi);have b9:=aa (λ(i:Nat) (hi:i<n)=>fQ e1 b0 hi);have c3:=aa (λp=>My A B n p);have c0:=aa (λ(p k j:Nat) (h:j<n)=>MA (A:=A) (B:=B) (p:=p) (k:=k) h);have c2:=aa (λ(p k j:Nat) (h:j<n)=>OU (A:=A) (B:=B) (p:=p) (k:=k) h);have c1:=aa (λ(p k:Nat)=>Mz A B n p k);have a6:=aa (λ(p k j:Nat)=>vN A B n p k j);have a7:=aa (λi=>OT A B n i);have c8:=aa (λi=>Rj A B n i);have a1:=aa (Rk (A:=A) (B:=B) a9.len b0.len);have c7:=aa (show Rl A B n 0=[] from rfl);have c4:=aa (λ(p q k:Nat) (b5:k<=n)=>iV (f:=λt=>cB A p t*cB B t q) (n:=n) (B:=1000000*1000000) (λt _=>qA (b1 p t) (b2 t q)) k b5);have g4:=aa (λ(p k j:Nat)=>qA (b1 p k) (b2 k j));have h0:=aa (λ(p q k:Nat)=>show cd (λt=>cB A p t*cB B t q) k=kL A B p q k from rfl);simp only[h0.o] at c4;obtain⟨l0,k2,k4,k5,k6⟩:=info_parts bK;obtain⟨g3,a8⟩:=aB (oY A B n);rw[<-a8] at a1;rw[<-a8];obtain⟨d4,d7⟩:=aB (Rl A B n);rw[<-d7] at a7 c8 a1 c7;obtain⟨U,d6⟩:=aB (tM A B n);rw[<-d6] at c3 c0 c2 c1 a6 a7;have c5:=aa (show(w.alloc (.cells #[] 37)).ownsRow w.1.size 37 1 (.slice (some ⟨w.1.size,0,none⟩) 0 0) 0 [] from bd #[] _ rfl aQ (by unfold maxLen;simp));have d3:=aa (show bS 3 (w.alloc (.cells #[] 37)) w.1.size [] (d4 0) from by rw[c7.o];exact bS.nil _ _ _);have b8:=aa (show Below w.1.size w (w.alloc (.cells #[] 37)) from aZ.alloc aQ _);clear d8 e1 a9 b0 b1 b2 a8 d7 d6;go_enter func245,ntmps245;go_wp2;go_loopw[5,16] (λv i wr=>∃(p go W:Nat) (a0:List Value),p<=n/\i= Ud p/\v= .slice (some ⟨go,0,none⟩) p W/\bv (wr.ownsRow w.1.size 37 1 (.slice (some ⟨go,0,none⟩) p W) p a0)/\bv (bS 3 wr w.1.size a0 (d4 p))/\bv (Below w.1.size w wr)) (λ_ i _=>n-(intOf i).toNat)
 exact⟨0,w.1.size,0,[],by omega,rfl,rfl,c5,d3,b8⟩;clear c5 d3 b8;obtain⟨p,go,W,a0,m7,rfl,rfl,c6,d2,J⟩:=hrel;obtain⟨D,k3⟩:=aB wr;subst k3;by_cases j5:p<n
 ·have m8:(p:Int)<(n:Int):=by omega
  obtain⟨h7,k7,l2,l6,g0,rfl,i5,e4,f5,j6,d9⟩:=g5.o p j5;have j1:=(J.o.cell (p:=⟨h7,k7+p,none⟩) i5).trans e4;obtain⟨d5,f9,l3,l7,n3,rfl,i6,e5,k1,j7,i4⟩:=b9.o 0 (by omega);have e3:=(J.o.cell (p:=⟨d5,f9+0,none⟩) i6).trans e5;have d0:=aa f5;have g6:=aa d9;have h3:=aa (a7.o p);have a5:=J.o.size;rw[ea] at e3;obtain⟨S,a2⟩:=aB D.1.size;clear e4 f5 j6 d9 e5 k1 j7 i4;go_wp2_with(first|(at_make;refine wpList_make_full _ rfl _ _ 37 rfl D.1.size 3 l0 (Ud 0) 1 underlying37 k2 k4 k5 .i64 .i64 _ _ n rfl rfl rfl rfl (by rw[k6];omega) (by unfold maxLen;omega) aQ ?_;intro g2 f3 f0));have F:=aa (show g2.ownsRow D.1.size 3 1 (.slice (some ⟨D.1.size,0,none⟩) n n) n (af (U p 0 0)) from by rw[c3.o,<-kC n];exact f3);have E:=aa (show Below D.1.size D g2 from aZ.grown f0 aQ (by intro k h;cases h));rw[<-a2] at F E;have Q:=aa a2;clear f3 f0 e3 j1;try rw[<-a2]
  clear a2;go_loopw[27] (λi wr=>∃k:Nat,k<=n/\i= Ud k/\bv (wr.ownsRow S 3 1 (.slice (some ⟨S,0,none⟩) n n) n (af (U p k 0)))/\bv (Below S D wr)) (λi _=>n-(intOf i).toNat);exact⟨0,by omega,rfl,F,E⟩;clear F E;obtain⟨k,b5,rfl,F,E⟩:=hrel;by_cases j4:k<n
  ·have m4:(k:Int)<(n:Int):=by omega
   have I:Below D.1.size D wr:=by rw[<-Q.o];exact E.o
   have O:=J.o.trans (I.mono a5);obtain⟨h8,k8,rfl,i7,e6⟩:=d0.o.at_ (by omega);have j9:g0.length=n:=by simpa[af] using d0.o.len
   have b3:=(O.cell (p:=⟨h8,k8+k,none⟩) i7).trans (e6 k (Ud (mP g0 k)) (aP (dR (by omega))));rw[<-g6.o k] at b3;obtain⟨l5,n2,l4,l8,g1,e2,i8,e7,f6,j8,e0⟩:=b9.o k j4;simp only[aI,cA] at e2;obtain⟨rfl,rfl,-⟩:=e2;have j0:=(O.cell (p:=⟨d5,f9+k,none⟩) i8).trans e7;have d1:=aa f6;have g7:=aa e0;have l1:=aa O;obtain⟨x,b7⟩:=aB (cB A p k);rw[<-b7] at b3;have h6:=aa b7;clear e6 e7 f6 j8 e0 I O j9 b7;go_wp2;go_loopw[37] (λi wr=>∃j:Nat,j<=n/\i= Ud j/\bv (wr.ownsRow S 3 1 (.slice (some ⟨S,0,none⟩) n n) n (af (U p k j)))/\bv (Below S D wr)) (λi _=>n-(intOf i).toNat);exact⟨0,by omega,rfl,F,E⟩;clear F E b3 j0;obtain⟨j,m2,rfl,F,E⟩:=hrel;by_cases f1:j<n
   ·have m3:(j:Int)<(n:Int):=by omega
    have I:Below D.1.size D wr:=by rw[<-Q.o];exact E.o
    have O:=J.o.trans (I.mono a5);obtain⟨h9,k9,rfl,i9,e8⟩:=d1.o.at_ (by omega);have k0:g1.length=n:=by simpa[af] using d1.o.len
    have e9:=(O.cell (p:=⟨h9,k9+j,none⟩) i9).trans (e8 j (Ud (mP g1 j)) (aP (dR (by omega))));rw[<-g7.o j] at e9;have j2:=(F.o.cellAt j (by omega)).trans (aP (c0.o p k j f1));have m1:=F.o.frozenAt j;have a3:=g4.o p k j;have f2:=c4.o p j k b5;have Y:=c2.o p k j f1;rw[<-h6.o] at a3 Y;obtain⟨y,f7⟩:=aB (cB B k j);rw[<-f7] at e9 a3 Y;obtain⟨u,Z⟩:=aB (kL A B p j k);rw[<-Z] at j2 f2 Y;have b6:=F.o.stored j (Ud (u+x*y));rw[se,Y] at b6;have h5:=aa b6;obtain⟨z,f8⟩:=aB (x*y);have n0:IntKind.i64.wrap (x*y)=x*y:=au _ (by omega);have n1:IntKind.i64.wrap (u+x*y)=u+x*y:=au _ (by rw[<-f8] at a3⊢;omega);clear e8 I O k0 f7 Z b6 Y a3 f2 f8;go_wp2;go_roundw;exact⟨j+1,by omega,by go_num,aa h5.o.1,aa (E.o.setCell aQ _)⟩;simp[intOf];omega
   ·obtain rfl:j=n:=by omega
    have h1:=aa (show wr.ownsRow S 3 1 (.slice (some ⟨S,0,none⟩) j j) j (af (U p (k+1) 0)) from by rw[<-c1.o];exact F.o);go_wp2;go_roundw;exact⟨k+1,by omega,by go_num,h1,E⟩;simp[intOf];omega
  ·obtain rfl:k=n:=by omega
   have I:Below D.1.size D wr:=by rw[<-Q.o];exact E.o
   have j3:D.1.size<=S:=by rw[<-Q.o];exact aN _
   have a4:=ai c6.o I;have m9:=I.size;have c9:=aa (d2.o.moreAt (r:=U p k 0) (c:=k) (eU I) j3 (by rw[a6.o];exact aT F.o (by rw[Q.o];exact a5)));rw[a6.o] at c9;go_wp2_with(first|(at_builtin;go_must(refine aX rfl _ _ 24 rfl w.1.size 37 (.slice none 0 0) 24 underlying24 eS rfl go W p a0 (a4.alloc _) rfl wr.1.size 0 1 1 [.slice (some ⟨S,0,none⟩) k k] rfl rfl (cz rfl) (by intro u Z;simp at Z;subst Z;rfl) (by omega) (by unfold maxLen;omega) (by simp;omega) ?_);intro i3 i0 n4 f4 b4 m6 m5));have h4:=aa ((c9.o.below (aZ.alloc aQ _)).kept (a4.alloc _) (by decide) b4);have h2:=aa f4;have g8:=aa (((J.o.trans (I.mono a5)).alloc (by omega) _).grown b4 (by simp;omega) (by rintro k ⟨⟩;exact(a4.lt go rfl).1));clear f4 b4 a4 I;go_roundw;exact⟨p+1,i3,i0,_,by omega,by go_num,rfl,h2,aa (by rw[h3.o];exact h4.o),g8⟩;simp[intOf];omega
 ·obtain rfl:p=n:=by omega
  have g9:=aa (show ct 37 3 D w.1.size (.slice (some ⟨go,0,none⟩) p W) g3 from⟨a0,by rw[<-a1.o,c8.o];exact c6.o,by rw[<-a1.o];exact d2.o⟩);go_wp2;go_ret;exact⟨_,rfl,g9.o,J.o⟩
end Go.Proofs.YtbdlbckeffakjaaGreatDoor
