/- Maps from sets to places that a call keeps to itself. Plain laws and laws on operations. -/
import Derived.Test.YtbdlbckeffakjaaGreatDoorOnlW
namespace Go.Proofs.YtbdlbckeffakjaaGreatDoor
set_option maxHeartbeats 8000000
set_option maxRecDepth 100000
open Go.Proofs.Tryz Go.RowKit
def gi(ys:List (Nat×List UInt8)):List Nat:=ys.map (·.1)
def Ly(ys:List (Nat×List UInt8)):List ByteArray:=ys.map λp=>⟨p.2.toArray⟩
theorem CE(ys):(gi ys).length=ys.length:=by simp[gi]
theorem CF{ys}{k:Nat}{p}(h:ys[k]? =some p):(gi ys)[k]? =some p.1:=by simp[gi,h]
theorem ve{ys}{k:Nat}{p}(h:ys[k]? =some p):(Ly ys)[k]? =some ⟨p.2.toArray⟩:=by simp[Ly,h]
theorem IJ(ys)(p):af (ne (gi (ys++[p])))=af (ne (gi ys))++[Ud ((p.1:Nat):Int)]:=by simp[gi,ne,af]
theorem Lx(ys)(p):ap (Ly (ys++[p]))=ap (Ly ys)++[.string ⟨p.2.toArray⟩]:=by simp[Ly,ap]
def FL(o:Option (List UInt8)):Value:=.tuple #[.string ⟨(o.getD []).toArray⟩,.bool o.isSome]
def pQ(zs:List Nat)(z j:Nat):Bool:=decide (z=0\/z∈zs.take j)
theorem Jq(zs)(z):pQ zs z 0=decide (z=0):=by simp[pQ]
theorem Jr{zs}{z j y}(h:zs[j]? =some y):pQ zs z (j+1)=(pQ zs z j||decide (y=z)):=by
 unfold pQ;rw[bg,h,bF,Bool.or_eq_true,decide_eq_true_iff,decide_eq_true_iff,decide_eq_true_iff];simp only[Option.toList_some,cH,eH];constructor
 ·rintro(h|h|h)
  ·exact .inl (.inl h)
  ·exact .inl (.inr h)
  ·exact .inr h.symm
 ·rintro((h|h)|h)
  ·exact .inl h
  ·exact .inr (.inl h)
  ·exact .inr (.inr h.symm)
theorem Nh{zs}{z n}(h:zs.length=n):pQ zs z n=decide (z=0\/z∈zs):=by
 unfold pQ;rw[aM (by omega)]
theorem xR{G}{p}{x}{ys}(h:decide (gV G p.1 x=0\/gV G p.1 x∈gi ys)=true):oz G p x ys=ys:=by
 unfold oz;exact if_pos (of_decide_eq_true h)
theorem Cv{G}{p}{x}{ys}(h:decide (gV G p.1 x=0\/gV G p.1 x∈gi ys)=false):oz G p x ys=ys++[(gV G p.1 x,p.2++[dO x])]:=by
 unfold oz;exact if_neg (of_decide_eq_false h)
theorem NV(l)(c):(⟨l.toArray⟩:ByteArray)++⟨#[c]⟩=⟨(l++[c]).toArray⟩:=by
 apply jk;rw[fm];simp
theorem FM(G)(p)(ys)(x):BG G p ys (x+1)=oz G p x (BG G p ys x):=rfl
structure uY (T1 T2 : TypeId) (B : Nat) (W2 wr : World) (gs cs gw cw : Nat) (ys : List (Nat × List UInt8)) (n : Nat) : Prop where
  len : ys.length = n
  bel : Below B W2 wr
  sets : wr.ownsRow B T1 1 (.slice (some ⟨gs, 0, none⟩) n cs) n (af (ne (gi ys)))
  words : wr.ownsRow B T2 1 (.slice (some ⟨gw, 0, none⟩) n cw) n (ap (Ly ys))
theorem uY.below{T1 E}{B n J cs O I}{F wr w'}{ys}(h:uY T1 E B F wr J cs O I ys n)(D:Below wr.1.size wr w')(Q:B<=wr.1.size):uY T1 E B F w' J cs O I ys n:=
 ⟨h.len,h.bel.trans (D.mono Q),ai h.sets D,ai h.words D⟩
theorem rK(L S)(a)(n c)(A)(w)(Q:aO w a (n*3) (bC A))(a0:n<=1048576)(h:ev L S A=false):
 Calls prog 87 #[.agg #[Ud L,Ud S,.slice a n c]] w λe w'=>e= .returned (FL none)/\Below w.1.size w w':=by
 have I:=aa (λ(V:World) (U:Below (w.1.size+1) (w.alloc (.cells #[Ud L,Ud S,.slice a n c] 35)) V)=>dT U);obtain⟨F,D⟩:=aB (w.alloc (.cells #[Ud L,Ud S,.slice a n c] 35));have O:Below w.1.size w F:=by rw[D];exact aZ.alloc aQ _
 have a1:F.1.size=w.1.size+1:=by rw[D];simp
 rw[<-D,<-a1] at I;have J:=aa (λ(W:World) (Y:Below w.1.size w W)=>iP L S a n c A W (Q.below Y aQ) a0);rw[h] at J;obtain⟨⟨a2,a3,a4⟩,_⟩:=I.o F aZ;have E:=aa O;clear Q O h;go_enter func87,ntmps87;go_wp2_with(rw[<-D]);first|rw[<-D]|skip
 clear D;refine(J.o _ E.o).mono ?_;rintro e a5 ⟨rfl,Z⟩;go_wp2;go_ret2;exact⟨rfl,E.o.trans (Z.mono E.o.size)⟩
theorem qY(L S)(a)(n c)(G)(w)(b0:aO w a (n*3) (bC (dg G)))(a7:fZ L S G)(k7:n<=1048576)(h:ev L S (dg G)=true):
 Calls prog 87 #[.agg #[.int .i64 L,.int .i64 S,.slice a n c]] w λe w'=>e= .returned (FL (QC G L (2^S-1)))/\Below w.1.size w w':=by
 have m3:=aa (λ(b2:World) (set x:Nat) (h0:Below w.1.size w b2) (m8:set<4096) (m9:x<1000)=>xr L S a n c G set x b2 (b0.below h0 aQ) a7 m8 m9 k7);have i8:=aa (λ(b2:World) (h0:Below w.1.size w b2)=>iP L S a n c (dg G) b2 (b0.below h0 aQ) k7);rw[h] at i8;have b7:=aa (λ(V:World) (a1:Below (w.1.size+1) (w.alloc (.cells #[.int .i64 L,.int .i64 S,.slice a n c] 35)) V)=>dT a1);obtain⟨I,b9⟩:=aB (w.alloc (.cells #[.int .i64 L,.int .i64 S,.slice a n c] 35));have j6:Below w.1.size w I:=by rw[b9];exact aZ.alloc aQ _
 have p0:I.1.size=w.1.size+1:=by rw[b9];simp
 rw[<-b9,<-p0] at b7;have n0:=iB a7.s12;have o5:1<=2^S:=gY S;have a9:2<=2^S:=by have:=bG (n:=2) (by omega) a7.s1;simpa using this
 have c5:=aa (λ(set x:Nat)=>show gV G set x<2^S from rE a7);have r2:=a7.k1;have r3:=a7.k3;have r5:=a7.s12;have p5:IntKind.u64.wrap (S:Int)=(S:Int):=dS _ (by omega);have n8:min S 64=S:=(by omega);obtain⟨F,g8⟩:=aB (2^S-1);obtain⟨N,e4⟩:=aB (2^S);rw[<-g8];rw[<-e4] at o5 a9 n0 c5;have j7:F=N-1:=by rw[g8,e4]
 clear g8;have k6:0<F/\F<N:=(by omega);have f6:=aa (λk=>(Ed (G:=G) (L:=L) k6 c5.o k).1);have e1:=aa (λ(k:Nat) (p:Nat×List UInt8) (h5:k<=4096)=>FN (L:=L) (k:=k) (p:=p) k6 c5.o h5);have m2:=aa (λ(k:Nat) (h5:k<=4096)=>FO (G:=G) (L:=L) (full:=F) (k:=k) h5);have p4:IntKind.i64.wrap (F:Int)=(F:Int):=au _ (by omega);have o9:∀j,j=S->wrap64 (wrap64 (2^j)-1)=(F:Int):=λj e5=>by subst e5;rw[oE j (by omega),j7,e4]
 obtain⟨⟨b4,b5,b6⟩,_⟩:=b7.o I aZ;have c4:=aa j6;clear b0 j6 h a7 e4 j7;go_enter func87,ntmps87;go_wp2_with(rw[<-b9]);first|rw[<-b9]|skip
 clear b9;refine(i8.o _ c4.o).mono ?_;rintro e J ⟨rfl,d4⟩;have e9:=aa d4;clear b4 b5 b6 d4;obtain⟨⟨b4,b5,b6⟩,_⟩:=b7.o J e9.o;have i4:=e9.o.size;have e8:=aa (show uY 3 9 I.1.size I ((J.alloc (.cells #[.int .i64 F] 3)).alloc (.cells #[.string ⟨#[]⟩] 9)) J.1.size 1 (J.alloc (.cells #[.int .i64 F] 3)).1.size 1 (oq G L F 0) 1 from by
  have d4:Below J.1.size J (J.alloc (.cells #[.int .i64 F] 3)):=aZ.alloc aQ _;have k0:Below (J.alloc (.cells #[.int .i64 F] 3)).1.size (J.alloc (.cells #[.int .i64 F] 3)) ((J.alloc (.cells #[.int .i64 F] 3)).alloc (.cells #[.string ⟨#[]⟩] 9)):=aZ.alloc aQ _;exact⟨rfl,e9.o.trans ((bs d4 k0).mono i4),ai (aT (bd (w:=J) (base:=J.1.size) (e:=3) #[.int .i64 F] _ rfl aQ (by unfold maxLen;simp)) i4) k0,aT (bd (w:=J.alloc (.cells #[.int .i64 F] 3)) (base:=(J.alloc (.cells #[.int .i64 F] 3)).1.size) (e:=9) #[.string ⟨#[]⟩] _ rfl aQ (by unfold maxLen;simp)) (bn i4 d4.size)⟩)
 have l4:(J.alloc (.cells #[.int .i64 F] 3)).1.size=J.1.size+1:=(by simp);rw[l4] at e8;go_wp2;clear b4 b5 b6 o9 p5 n8 p4 l4;go_loopw[4,5,6] (λg4 g5 i wr=>∃(K m a5 cs a6 a4:Nat),bv (.slice (some ⟨a5,0,none⟩) m cs=g4)/\bv (.slice (some ⟨a6,0,none⟩) m a4=g5)/\i= .int .i64 K/\bv (K<=m)/\bv (uY 3 9 I.1.size I wr a5 cs a6 a4 (oq G L F K) m)/\bv (∀(j:Nat) (q:Nat×List UInt8),j<K->(oq G L F K)[j]? =some q->jo q.1=false)) (λ_ _ i _=>4097-(intOf i).toNat);exact⟨0,1,_,_,_,_,aa rfl,aa rfl,rfl,aa (dW _),aa e8.o,aa (λj q e5 _=>by omega)⟩;clear e8;obtain⟨K,m,a5,cs,a6,a4,i2,i3,rfl,l9,E,d7⟩:=hrel;have i2:=i2.o;have i3:=i3.o;subst i2 i3;have q7:=l9.o;have s1:m<=N:=by rw[<-E.o.len];exact(f6.o K).few
 by_cases n6:K<m
 ·have q8:(K:Int)<(m:Int):=by omega
  obtain⟨q,U⟩:=aE (l:=oq G L F K) (n:=K) (by rw[E.o.len];exact n6);have o7:=(f6.o K).pos q (aj U);have o6:q.1<4096:=(by omega);have l1:q.1<1000000:=(by omega);have a2:=aa (zx U);have e2:=aa (λ(h7:jo q.1=true)=>e1.o K q (by omega) U h7 d7.o);have c6:=aa (λ(h7:jo q.1=false) (Y:List (Nat×List UInt8)) (d3:∃l,Y=oq G L F K++l)=>show∀(j:Nat) (p:Nat×List UInt8),j<K+1->Y[j]? =some p->jo p.1=false fromλj p e5 a9=>by
   obtain⟨l,rfl⟩:=d3;rw[aR (by rw[E.o.len];omega)] at a9;rcases eE j K with h|h
   ·exact d7.o j p h a9
   ·obtain rfl:j=K:=by omega
    rw[U] at a9;injection a9 with a9
    rw[<-a9];exact h7)
  have b8:=aa (λ(d2:q.2.length<16)=>(f6.o K).xs (G:=G) (p:=q) d2 (c5.o q.1));have c1:=(E.o.sets.cellAt K (by omega)).trans (aP (pM (CF U)));have c2:=(E.o.words.cellAt K (by omega)).trans (bJ (ve U));have d9:=aa U;have g1:=aa (show((⟨q.2.toArray⟩:ByteArray)).size=q.2.length by simp[ByteArray.size]);obtain⟨Y,d3⟩:=aB (oq G L F K);rw[<-d3] at E a2 c6 b8 d9;have q6:=aa d3;have f7:=aa (λ(b2:World)=>MW q.1 b2 l1);obtain⟨b,a3⟩:=aB (jo q.1);rw[<-a3] at f7 e2 c6;obtain⟨set,i1⟩:=aB q.1;rw[<-i1] at f7 c1 o6 l1;obtain⟨u,c3⟩:=aB (α:=ByteArray) (⟨q.2.toArray⟩);rw[<-c3] at c2 g1;have c8:=aa c3;have e0:=aa i1;clear U d3 a3 i1 o7 d7 e1 c3;go_wp2_with fail;refine(f7.o _).mono ?_;rintro e q5 ⟨⟨r,rfl,b0⟩,rfl⟩;cases b with
  |true=>
   have o8:decide (0<=r)=true:=b0.symm;have g0:=aa (e2.o rfl);have f0:=aa (c4.o.trans (E.o.bel.mono c4.o.size));clear e2 c6 b8 b0;go_wp2;go_ret2;refine⟨?_,f0.o⟩;rw[g0.o,c8.o];rfl
  |false=>
   have o8:decide (0<=r)=false:=b0.symm;have f5:=aa (c6.o rfl);clear c6;have r8:=E.o.bel.size;obtain⟨⟨b4,b5,b6⟩,_⟩:=b7.o q5 E.o.bel;clear e2 b0;by_cases d2:q.2.length<16
   ·have a2:=aa (a2.o.trans (if_pos d2));have b8:=aa (b8.o d2);have p3:(u.size:Int)<16:=by have:=g1.o;omega
    go_wp2;go_loopw[4,5,7] (λg4 g5 i wr=>∃(x O a5 cs a6 a4:Nat),x<=L/\i= .int .i64 x/\bv (.slice (some ⟨a5,0,none⟩) O cs=g4)/\bv (.slice (some ⟨a6,0,none⟩) O a4=g5)/\bv (uY 3 9 I.1.size I wr a5 cs a6 a4 (BG G q Y x) O)) (λ_ _ i _=>L-(intOf i).toNat);exact⟨0,m,a5,cs,a6,a4,by omega,rfl,aa rfl,aa rfl,E⟩;clear b4 b5 b6 c1 c2;obtain⟨x,O,b3,g6,a0,g7,s9,rfl,h9,i0,Q⟩:=hrel;have h9:=h9.o;have i0:=i0.o;subst h9 i0;obtain⟨k8,p8,e6⟩:=b8.o x;have s4:O<=N:=by rw[<-Q.o.len];exact k8.few
    have s5:m<=O:=by rw[<-Q.o.len,e6,az,E.o.len];omega
    have h8:(BG G q Y x)[K]? =some q:=by rw[e6,aR (by rw[E.o.len];omega)];exact d9.o
    have r0:K<O:=(by omega);have d8:=aa (show∃l,BG G q Y x=Y++l from⟨p8,e6⟩);have c1:=(Q.o.sets.cellAt K (by omega)).trans (aP (pM (CF h8)));have c2:=(Q.o.words.cellAt K (by omega)).trans (bJ (ve h8));rw[<-e0.o] at c1;rw[<-c8.o] at c2;have q9:(K:Int)<(O:Int):=(by omega);have n2:b3<wr.1.size:=(Q.o.sets.lt _ rfl).2;have k3:=Q.o.bel.size;obtain⟨⟨b4,b5,b6⟩,_,k2⟩:=b7.o wr Q.o.bel;by_cases s3:x<L
    ·have t1:(x:Int)<(L:Int):=by omega
     have f9:=aa (m3.o wr.drew set x k2.drew (by omega) (by omega));have m4:=aa (show gV G set x<N from c5.o set x);have f2:=aa (show∀ys:List (Nat×List UInt8),decide (gV G set x=0\/gV G set x∈gi ys)=true->oz G q x ys=ys fromλys h=>xR (by rw[<-e0.o];exact h));have f3:=aa (show∀ys:List (Nat×List UInt8),decide (gV G set x=0\/gV G set x∈gi ys)=false->oz G q x ys=ys++[(gV G set x,q.2++[dO x])] fromλys h=>by rw[Cv (by rw[<-e0.o];exact h),<-e0.o]);have c9:=aa (FM G q Y x);obtain⟨D,l2⟩:=aB (gV G set x);rw[<-l2] at f9 m4 f2 f3;obtain⟨ys,l3⟩:=aB (BG G q Y x);rw[<-l3] at Q c9 d8;have c0:Below wr.1.size wr wr.drew:=aZ.drew;have i9:=aa (λ(V:World) (a1:Below wr.1.size wr V)=>show V.cell? ⟨w.1.size,0,none⟩=some (.int .i64 L)/\V.cell? ⟨w.1.size,1,none⟩=some (.int .i64 S)/\V.cell? ⟨w.1.size,2,none⟩=some (.slice a n c)/\V.cell? ⟨b3,K,none⟩=some (.int .i64 set)/\Below wr.1.size wr V from by
      obtain⟨⟨q0,q1,q2⟩,_⟩:=b7.o V (Q.o.bel.trans (a1.mono k3));exact⟨q0,q1,q2,(a1.cell (p:=⟨b3,K,none⟩) n2).trans c1,a1⟩)
     clear l2 l3 k8 e6 h8;go_wp2;go_region_held3(λV=>V.cell? ⟨w.1.size,0,none⟩=some (.int .i64 L)/\V.cell? ⟨w.1.size,1,none⟩=some (.int .i64 S)/\V.cell? ⟨w.1.size,2,none⟩=some (.slice a n c)/\V.cell? ⟨b3,K,none⟩=some (.int .i64 set)/\Below wr.1.size wr V)
      (first|with_reducible exact i9.o _ c0)
      (first|(go_at_call 177;refine f9.o.mono ?_;rintro e q3 ⟨rfl,k1⟩;have c0:=c0.trans (k1.mono c0.size)))
     have W:=aa (Q.o.below c0 k3);have r9:=(c0.cell (p:=⟨a0,K,none⟩) (Q.o.words.lt _ rfl).2).trans c2;clear i9 f9 b4 b5 b6 c1 k1 k2 c2 Q;obtain⟨l5,rfl⟩:=aB q3;obtain⟨j1,h1⟩:=aB (decide (D=0));have t3:((D:Int)==0)=j1:=by
      rw[h1];by_cases e:D=0
      ·subst e;rfl
      ·rw[decide_eq_false e];simp;omega
     have l6:=aa (show pQ (gi ys) D 0=j1 from by rw[Jq,h1]);clear h1;go_wp2;go_loop[9,10] (λp7 i=>∃j:Nat,j<=O/\i= .int .i64 j/\p7= .bool (pQ (gi ys) D j)) (λ_ i=>O-(intOf i).toNat);exact⟨0,by omega,rfl,by rw[l6.o]⟩;obtain⟨j,e5,rfl,rfl⟩:=hrel;by_cases n5:j<O
     ·have s2:(j:Int)<(O:Int):=by omega
      obtain⟨y,i5⟩:=aE (l:=gi ys) (n:=j) (by rw[CE,W.o.len];exact n5);have t2:=(W.o.sets.cellAt j (by omega)).trans (aP (pM i5));have b1:=aa (Jr (z:=D) i5);obtain⟨b,a3⟩:=aB (pQ (gi ys) D j);rw[<-a3] at b1;rw[<-a3];clear i5 a3;cases b with
      |true=>
       have c7:=aa (show pQ (gi ys) D (j+1)=true from b1.o);clear b1;go_wp2;go_round;exact⟨j+1,by omega,by go_num,by rw[c7.o]⟩;simp[intOf]<;>omega
      |false=>
       by_cases e:y=D
       ·have m7:((y:Int)==(D:Int))=true:=by simp[e]
        have c7:=aa (show pQ (gi ys) D (j+1)=true from by rw[b1.o,decide_eq_true e];rfl);clear b1 e;go_wp2;go_round;exact⟨j+1,by omega,by go_num,by rw[c7.o]⟩;simp[intOf]<;>omega
       ·have m7:((y:Int)==(D:Int))=false:=by simp;omega
        have c7:=aa (show pQ (gi ys) D (j+1)=false from by rw[b1.o,decide_eq_false e];rfl);clear b1 e;go_wp2;go_round;exact⟨j+1,by omega,by go_num,by rw[c7.o]⟩;simp[intOf]<;>omega
     ·obtain rfl:j=O:=by omega
      have i7:=aa (Nh (zs:=gi ys) (z:=D) (n:=j) (by rw[CE,W.o.len]));obtain⟨b,a3⟩:=aB (decide (D=0\/D∈gi ys));have d5:=aa (f2.o ys);have d6:=aa (f3.o ys);rw[<-a3] at i7 d5 d6;rw[i7.o];clear a3 f2 f3;cases b with
      |true=>
       have g3:=aa (show BG G q Y (x+1)=ys from by rw[c9.o];exact d5.o rfl);clear d5 d6 c9;go_wp2;go_roundw;exact⟨x+1,j,b3,g6,a0,g7,by omega,by go_num,aa rfl,aa rfl,aa (by rw[g3.o];exact W.o)⟩;simp[intOf]<;>omega
      |false=>
       have g3:=aa (show BG G q Y (x+1)=ys++[(D,q.2++[dO x])] from by rw[c9.o];exact d6.o rfl);clear d5 d6 c9;have p1:I.1.size<=l5.1.size:=W.o.bel.size;have e3:=aa (W.o.sets.alloc (.cells #[.int .i64 (D:Int)] 3));go_wp2_with(first|(at_builtin;go_must(refine aX rfl _ _ 37 rfl I.1.size 3 (.int .i64 0) 8 underlying37 bK rfl b3 g6 j _ e3.o rfl l5.1.size 0 1 1 [.int .i64 (D:Int)] rfl rfl (by intro q u U;match q,U with|0,U=>simp at U;subst U;simp) (by intro u c3;simp at c3;subst c3;rfl) (by omega) (by unfold maxLen;omega) (by simp;omega) ?_);intro j4 j2 Z k9 h3 n9 n7));have h2:Below I.1.size I Z:=(W.o.bel.alloc p1 _).grown h3 (by simp;omega) (by rintro k ⟨⟩;exact(e3.o.lt _ rfl).1);have e7:=(W.o.words.alloc (.cells #[.int .i64 (D:Int)] 3)).kept h3 (eD (W.o.words.alloc (.cells #[.int .i64 (D:Int)] 3)) e3.o (by decide));have m1:=aa k9;have m6:=aa e7;have l7:=aa h2;have n4:ys.length=j:=W.o.len;have n3:a0<Z.1.size:=(e7.lt _ rfl).2;have k4:Z.cell? ⟨a0,K,none⟩=some (.string u):=(e7.cellAt K (by omega)).trans (by
        obtain⟨p9,h6⟩:=d8.o;rw[c8.o];exact bJ (ve (by rw[h6,aR (by rw[E.o.len];omega)];exact d9.o)))
       have p2:=h2.size;have p6:x<3:=(by omega);have s0:=JN p6;have s7:IntKind.i64.wrap ((x:Int)+1)=(x:Int)+1:=au _ (by omega);have s8:((x:Int)+1).toNat=x+1:=(by omega);have r6:(x:Int)<=(x:Int)+1:=(by omega);have r7:(x:Int)+1<=3:=(by omega);have s6:¬(9223372036854775807<u.size+1):=(by omega);have m5:=aa (show u++⟨#[dO x]⟩=⟨(q.2++[dO x]).toArray⟩ from by rw[c8.o,NV]);obtain⟨d1,g9⟩:=aB (α:=World->Prop) (λV=>V.cell? ⟨a0,K,none⟩=some (.string u));have e1:=aa (show∀V,d1 V->V.cell? ⟨a0,K,none⟩=some (.string u) fromλV a1=>by rw[g9] at a1;exact a1);have f8:=aa (show∀V,V.cell? ⟨a0,K,none⟩=some (.string u)->d1 V fromλV a1=>by rw[g9];exact a1);have r4:d1 Z.drew:=f8.o _ k4;have n1:d1 (Z.drew.alloc (.cells #[.string (u++⟨#[dO x]⟩)] 9)):=f8.o _ (((aV Z.drew.1.size Z.drew).alloc aQ _).cell (p:=⟨a0,K,none⟩) n3|>.trans k4);have g2:=aa ((ai m6.o aZ.drew).alloc (.cells #[.string (u++⟨#[dO x]⟩)] 9));have j0:=aa ((ai m1.o aZ.drew).alloc (.cells #[.string (u++⟨#[dO x]⟩)] 9));have f1:=aa (l7.o.drew.alloc (show I.1.size<=Z.drew.1.size from p2) (.cells #[.string (u++⟨#[dO x]⟩)] 9));have l8:=aa (show(Z.drew.alloc (.cells #[.string (u++⟨#[dO x]⟩)] 9)).cell? ⟨Z.1.size,0,none⟩=some (.string (u++⟨#[dO x]⟩)) from aL _ _ _ _ rfl);clear g9 k9 h3 n9 n7 e7 h2 e3 W;refine dr (S:=d1) 12 (by kernel_rfl) ?_;iterate 10 (refine kG rfl (by kernel_rfl) (λ_ _ _ h=>h) (by rfl) (by assumption) (λV j9=>by have j9:=e1.o V j9;go_split_ands;go_simp;first|done|with_reducible rfl) ?_;try simp only[Act.put,ab,ac,ae])
       refine aY (i:=10) rfl (by kernel_rfl) (by decide) (λd0 a8=> ?_);go_simp;refine a8.out _ _ n1 ?_;clear a8 d0;try simp only[Act.put,ab,ac,ae]
       refine aY (i:=11) rfl (by kernel_rfl) (by decide) (λd0 a8=> ?_);refine LI (by rfl) _ _ 26 (by rfl) I.1.size 9 (.string ByteArray.empty) 16 underlying26 iG rfl a0 j g7 _ _ g2.o (by rfl) Z.1.size (by rfl) l8.o rfl (by omega) (by unfold maxLen;omega) f1.o.size ?_;intro j5 j3 q4 l0 h4 o4 k5;refine a8.out _ _ (f8.o _ (k5 K _ ?_)) ?_
       ·obtain⟨p9,h6⟩:=d8.o;rw[c8.o];exact bJ (ve (by rw[h6,aR (by rw[E.o.len];omega)];exact d9.o))
       clear a8 d0;try simp only[Act.put,ab,ac,ae]
       have j8:=j0.o.kept h4 (eD j0.o g2.o (by decide));have i6:=f1.o.grown h4 f1.o.size (by rintro k ⟨⟩;exact(g2.o.lt _ rfl).1);have m0:=aa (show uY 3 9 I.1.size I q4 j4 j2 j5 j3 (ys++[(D,q.2++[dO x])]) (j+1) from⟨by rw[az,n4];rfl,i6,by rw[IJ];exact j8,by rw[Lx,<-m5.o];exact l0⟩);clear j8 i6 l0 h4 o4 k5;refine cU rfl (by kernel_rfl) (by kernel_rfl) (λd0 a8=> ?_);go_simp;refine a8.out _ _ ?_;clear a8 d0;go_wp2;go_roundw;exact⟨x+1,j+1,j4,j2,j5,j3,by omega,by go_num,aa rfl,aa rfl,aa (by rw[g3.o];exact m0.o)⟩;simp[intOf]<;>omega
    ·obtain rfl:x=L:=by omega
     have f4:=aa (f5.o _ d8.o);have t0:¬((x:Int)<(x:Int)):=(by omega);go_wp2;go_roundw;exact⟨K+1,O,b3,g6,a0,g7,aa rfl,aa rfl,by go_num,aa (by omega),aa (by rw[a2.o];exact Q.o),aa (by rw[a2.o];exact f4.o)⟩;simp[intOf]<;>omega
   ·have a2:=aa (a2.o.trans (if_neg d2));have p3:¬((u.size:Int)<16):=by have:=g1.o;omega
    have r1:(0:Int)<(L:Int):=(by omega);have f4:=aa (f5.o Y ⟨[],by simp⟩);clear b8 f5;go_wp2;refine wp_loop_rounds 1 ?_;rw[rounds_succ];go_wp2;go_roundw;exact⟨K+1,m,a5,cs,a6,a4,aa rfl,aa rfl,by go_num,aa (by omega),aa (by rw[a2.o];exact E.o),aa (by rw[a2.o];exact f4.o)⟩;simp[intOf]<;>omega
 ·obtain rfl:K=m:=by omega
  have g0:=aa (m2.o K (by omega) (by rw[E.o.len];exact aN _) d7.o);have f0:=aa (c4.o.trans (E.o.bel.mono c4.o.size));go_wp2;go_ret2;exact⟨by rw[g0.o];rfl,f0.o⟩
def Sq(G:List (Nat×Nat×Nat))(F L k i:Nat):Bool:=decide (0<uF G F (pd L k i) k)
def SE(G:List (Nat×Nat×Nat))(F L k:Nat):Nat:=((List.range (L^k)).filter (Sq G F L k)).length
theorem SD(G)(F L k):SE G F L k<=L^k:=yk _ _
def xO(G:List (Nat×Nat×Nat))(F L k:Nat)(w:World)(e:Ending)(w':World):Prop:=∃g c,e= .returned (.slice g (SE G F L k) c)/\Below w.1.size w w'
theorem Oy(L S:Nat)(a)(n c b)(G)(k i)(w)(Y:bA w b #[Ud L,Ud S,.slice a n c])(Z:aO w a (n*3) (bC (dg G)))(E:fZ L S G)(a5:n<=1048576)(b0:k<=6):
 Calls prog 173 #[.string (db L k i),.pointer (some ⟨b,0,none⟩)] w λe w'=>e= .returned (.bool (Sq G (2^S-1) L k i))/\Below w.1.size w w':=by
 have Q:=aa (λ(W:World)=>uM (L:Int) S (.slice a n c) W E.s12);have a6:1<=2^S:=gY S;have D:=aa (λ(W:World) (a2:Below w.1.size w W)=>GX L S a n c G (2^S-1) (db L k i) W (Z.below a2 aQ) E (by omega) (by rw[eq];exact Ec E.k1 k i) (by rw[ce];omega) a5);rw[eq,ce] at D;have a0:=aa Y;unfold Sq;obtain⟨F,I⟩:=aB (2^S-1);rw[<-I] at Q D;rw[<-I];obtain⟨r,J⟩:=aB (uF G F (pd L k i) k);rw[<-J] at D;rw[<-J];obtain⟨b3,O⟩:=aB (db L k i);rw[<-O] at D;rw[<-O];have h:Below w.1.size w w.drew:=aZ.drew;have a1:=aa (λ(V:World) (U:Below w.1.size w V)=>show V.cell? ⟨b,0,none⟩=some (Ud L)/\V.cell? ⟨b,1,none⟩=some (Ud S)/\V.cell? ⟨b,2,none⟩=some (.slice a n c)/\Below w.1.size w V from by
  obtain⟨⟨a7,a8,a9⟩,_⟩:=(a0.o.below U).c3;exact⟨a7,a8,a9,U⟩)
 clear Z E I J O Y a6;go_enter func173,ntmps173;go_wp2;go_region_held3(λV=>V.cell? ⟨b,0,none⟩=some (Ud L)/\V.cell? ⟨b,1,none⟩=some (Ud S)/\V.cell? ⟨b,2,none⟩=some (.slice a n c)/\Below w.1.size w V)
  (first|with_reducible exact a1.o _ h)
  (first|(go_at_call 169;refine(Q.o _).mono ?_;rintro e b1 ⟨rfl,a3⟩;have h:=h.trans (a3.mono h.size))|(go_at_call 174;refine(D.o _ h).mono ?_;rintro e b2 ⟨rfl,a4⟩;have h:=h.trans (a4.mono h.size)))
 all_goals
  go_wp2
  go_ret
  exact⟨aG (by simp),h⟩
theorem uN(L S)(a)(n c)(G)(k:Nat)(w)(a0:aO w a (n*3) (bC (dg G)))(F:fZ L S G)(a5:n<=1048576)(a1:fy L S (dg G)=true)(b1:k<=6):
 Calls prog 85 #[.agg #[Ud L,Ud S,.slice a n c],Ud k] w (xO G (2^S-1) L k w):=by
 have Q:=aa (λ(V:World) (b0:Below (w.1.size+1) (w.alloc (.cells #[Ud L,Ud S,.slice a n c] 35)) V)=>dT b0);obtain⟨D,h⟩:=aB (w.alloc (.cells #[Ud L,Ud S,.slice a n c] 35));have E:Below w.1.size w D:=by rw[h];exact aZ.alloc aQ _
 have b2:D.1.size=w.1.size+1:=by rw[h];simp
 have a4:bA D w.1.size #[Ud L,Ud S,.slice a n c]:=by rw[h];exact bA.new _ _ _
 rw[<-h,<-b2] at Q;have Y:=aa (λ(W:World) (I:Below w.1.size w W)=>iZ L S a n c (dg G) W (a0.below I aQ) a5);rw[a1] at Y;obtain⟨⟨b3,b4,b5⟩,_⟩:=Q.o D aZ;have U:=aa (λ(W:World) (I:Below D.1.size D W)=>AY L k 173 (.pointer (some ⟨w.1.size,0,none⟩)) (Sq G (2^S-1) L k) W ⟨F.k1,F.k3⟩ (by omega) (λi b7 _ a7=>Oy L S a n c w.1.size G k i b7 ((a4.below I).below a7) ((a0.below (E.trans (I.mono E.size)) aQ).below a7 (by omega)) F a5 b1) (λx w=>Tryz.call173 _ w));unfold dC at U;have b8:¬((k:Int)<0):=(by omega);have b9:¬((6:Int)<(k:Int)):=(by omega);have J:=aa E;unfold xO SE;obtain⟨m,Z⟩:=aB (((List.range (L^k)).filter (Sq G (2^S-1) L k)).length);rw[<-Z] at U;rw[<-Z];clear a0 E a1 F a4 Z;go_enter func85,ntmps85;go_wp2_with(rw[<-h]);first|rw[<-h]|skip
 clear h;refine(Y.o _ J.o).mono ?_;rintro e b6 ⟨rfl,a2⟩;have O:=aa a2;obtain⟨⟨c0,c1,c2⟩,_⟩:=Q.o b6 a2;clear b3 b4 b5 Y;go_wp2_with fail;refine(U.o _ O.o).mono ?_;rintro e c3 ⟨v,rfl,a6,a3⟩;obtain⟨g,a9,rfl⟩:=dm a6;have a8:=aa (J.o.trans ((O.o.trans (a3.mono O.o.size)).mono J.o.size));clear a6 a3;go_wp2;go_ret;exact⟨g,a9,rfl,a8.o⟩
theorem uq(L S)(a)(n c)(G)(k i)(w)(Z:aO w a (n*3) (bC (dg G)))(h:fZ L S G)(a6:n<=1048576)(a3:fy L S (dg G)=true)(c4:k<=6):
 Calls prog 181 #[.agg #[Ud L,Ud S,.slice a n c],.string (db L k i)] w λe w'=>e= .returned (.bool (Sq G (2^S-1) L k i))/\Below w.1.size w w':=by
 have I:=aa (λ(V:World) (b1:Below (w.1.size+1) (w.alloc (.cells #[Ud L,Ud S,.slice a n c] 35)) V)=>dT b1);obtain⟨Q,D⟩:=aB (w.alloc (.cells #[Ud L,Ud S,.slice a n c] 35));have a4:Below w.1.size w Q:=by rw[D];exact aZ.alloc aQ _
 have b5:Q.1.size=w.1.size+1:=by rw[D];simp
 rw[<-D,<-b5] at I;have J:=aa (λ(W:World) (U:Below w.1.size w W)=>fJ L S a n c (dg G) W (Z.below U aQ) a6);rw[a3] at J;have O:=aa (λ(W:World)=>mu L (db L k i) W ⟨h.k1,h.k3⟩ (by rw[ce];unfold maxLen;omega));rw[eq,ce,rC ⟨h.k1,h.k3⟩,decide_eq_true (show k<=16 by omega)] at O;have c5:1<=2^S:=gY S;have c2:=iB h.s12;have c3:=h.s12;have E:=aa (λ(W:World) (U:Below w.1.size w W)=>MY L S a n c G (2^S-1) (db L k i) W (Z.below U aQ) h (by omega) (by rw[eq];exact Ec h.k1 k i) (by rw[ce];omega) a6);rw[eq,ce] at E;have b6:IntKind.u64.wrap (S:Int)=(S:Int):=dS _ (by omega);have b4:min S 64=S:=(by omega);unfold Sq;obtain⟨a2,F⟩:=aB (2^S-1);have a7:∀j,j=S->wrap64 (wrap64 (2^j)-1)=(a2:Int):=λj b3=>by subst b3;rw[oE j (by omega),F]
 rw[<-F] at E;rw[<-F];obtain⟨r,a0⟩:=aB (uF G a2 (pd L k i) k);rw[<-a0] at E;rw[<-a0];obtain⟨d1,a1⟩:=aB (db L k i);rw[<-a1] at E O;rw[<-a1];obtain⟨⟨b7,b8,b9⟩,_⟩:=I.o Q aZ;have a9:=aa a4;clear Z a4 a3 h F a0 a1;go_enter func181,ntmps181;go_wp2_with(rw[<-D]);first|rw[<-D]|skip
 clear D;refine(J.o _ a9.o).mono ?_;rintro e c0 ⟨rfl,a5⟩;have c1:=aa a5;obtain⟨⟨c6,c7,c8⟩,_,Y⟩:=I.o c0 a5;clear b7 b8 b9 J;go_wp2_with fail;refine(O.o _).mono ?_;rintro e c9 ⟨rfl,rfl⟩;go_wp2_with fail;have a8:=a7 S rfl;first|rw[a8]|skip
 refine(E.o _ Y).mono ?_;rintro e d0 ⟨rfl,b2⟩;have b0:=aa (Y.trans (b2.mono Y.size));clear a7 a8 b6 b4;go_wp2;go_ret;exact⟨aG (by simp),b0.o⟩
theorem ur(L S)(a)(n c)(G)(k:Nat)(w)(c8:aO w a (n*3) (bC (dg G)))(Q:fZ L S G)(e4:n<=1048576)(h:fy L S (dg G)=true)(f8:k<=6):
 Calls prog 91 #[.agg #[Ud L,Ud S,.slice a n c],Ud k] w (xO G (2^S-1) L k w):=by
 have Y:=aa (λ(V:World) (O:Below (w.1.size+1) (w.alloc (.cells #[Ud L,Ud S,.slice a n c] 35)) V)=>dT O);obtain⟨D,U⟩:=aB (w.alloc (.cells #[Ud L,Ud S,.slice a n c] 35));have d8:Below w.1.size w D:=by rw[U];exact aZ.alloc aQ _
 have c9:D.1.size=w.1.size+1:=by rw[U];simp
 rw[<-U,<-c9] at Y;have b4:=aa (λ(W:World) (c0:Below w.1.size w W)=>fJ L S a n c (dg G) W (c8.below c0 aQ) e4);rw[h] at b4;have b5:=aa (λ(W:World)=>eB (k:Int) 0 6 W);rw[fj (by omega)] at b5;have a5:=aa (λ(W:World)=>le L k W ⟨Q.k1,Q.k3⟩ (by omega));unfold iK at a5;have g5:=eb Q.k3 (show k<=8 by omega);have g1:1<=L^k:=gK _ _ Q.k1;have d3:=aa (λ(W:World) (i:Nat) (c0:Below w.1.size w W)=>uq L S a n c G k i W (c8.below c0 aQ) Q e4 h f8);unfold xO SE;obtain⟨m,c5⟩:=aB (L^k);obtain⟨p,c7⟩:=aB (Sq G (2^S-1) L k);rw[<-c7] at d3;rw[<-c5] at a5 g5 g1;rw[<-c5,<-c7];obtain⟨⟨e7,e8,e9⟩,_⟩:=Y.o D aZ;have a6:=aa d8;clear c8 d8 h Q c5 c7;go_enter func91,ntmps91;go_wp2_with(rw[<-U]);first|rw[<-U]|skip
 have a3:Below D.1.size D (D.alloc (.cells #[] 9)):=aZ.alloc aQ _;have b8:=aa (bd (w:=D) (base:=D.1.size) (e:=9) #[] [] rfl aQ (by unfold maxLen;simp));obtain⟨d7,a2⟩:=aB (D.alloc (.cells #[] 9));have i0:d7.1.size=D.1.size+1:=by rw[a2];simp
 have h5:=aa a2;rw[<-a2] at a3 b8;obtain⟨⟨e7,e8,e9⟩,_,e1⟩:=Y.o d7 a3;first|rw[<-a2]|skip
 clear a2 U;refine(b4.o _ e1).mono ?_;rintro e h1 ⟨rfl,a9⟩;have c1:=a3.trans (a9.mono a3.size);obtain⟨⟨g8,g9,h0⟩,_,f5⟩:=Y.o h1 c1;have d1:=aa (ai b8.o a9);have g7:=a9.size;clear e7 e8 e9 a9 a3 e1 b4 b8;go_wp2_with fail;refine(b5.o _).mono ?_;rintro e i1 ⟨rfl,rfl⟩;go_wp2_with fail;refine(a5.o _).mono ?_;rintro e i2 ⟨v,rfl,I,c2⟩;obtain⟨F,f3,rfl,h7,g0⟩:=I.form (by omega);have d0:=aa (c1.trans (c2.mono (by omega)));have d5:=aa (aT (base':=D.1.size) I (by omega));have d2:=aa (ai d1.o c2);have g2:(Value.slice (some ⟨D.1.size,0,none⟩) 0 0).ownBlock≠some F:=by simp[Value.ownBlock];omega
 clear I c2 c1 g8 g9 h0 f5 d1 b5 a5 g7;go_wp2;go_loopw[5,7] (λv i wr=>∃j:Nat,j<=m/\i= Ud j/\wr.ownsRow D.1.size 9 1 v ((List.range j).filter p).length (ap (kp p L k j))/\v.ownBlock≠some F/\wr.ownsRow D.1.size 9 1 (.slice (some ⟨F,0,none⟩) m f3) m (ap (wds L k m))/\Below D.1.size D wr) (λ_ i _=>m-(intOf i).toNat);exact⟨0,by omega,rfl,by rw[<-c9];exact d2.o,by rw[<-c9];exact g2,d5.o,d0.o⟩;clear d2 d5 d0 g0;obtain⟨j,h8,rfl,I,c6,a4,b0⟩:=hrel;have f6:=yk p j;by_cases f9:j<m
 ·have h9:(j:Int)<(m:Int):=by omega
  have c3:=(a4.cellAt j (by omega)).trans (bJ (mt f9));have c4:F<wr.1.size:=(a4.lt _ rfl).2;have b7:=aa I;have d6:=aa a4;have J:=aa b0;have a7:=aa (λ(V:World) (O:Below wr.1.size wr V)=>d3.o V j (a6.o.trans ((J.o.trans (O.mono J.o.size)).mono a6.o.size)));have a1:=aa (λh:p j=true=>uL (k:=L) (n:=k) h);have a0:=aa (λh:p j=true=>uV h);have a8:=aa (λh:p j=false=>Ax (k:=L) (n:=k) h);have Z:=aa (λh:p j=false=>Bj h);obtain⟨u,e6⟩:=aB (db L k j);rw[<-e6] at c3 a7 a1;obtain⟨f4,e2⟩:=aB (((List.range j).filter p).length);rw[<-e2] at b7 f6 a0 Z;obtain⟨b,d9⟩:=aB (p j);rw[<-d9] at a7 a1 a0 a8 Z;have E:Below wr.1.size wr wr.drew:=aZ.drew;have b6:=aa (λ(V:World) (O:Below wr.1.size wr V)=>show V.cell? ⟨w.1.size,0,none⟩=some (Ud L)/\V.cell? ⟨w.1.size,1,none⟩=some (Ud S)/\V.cell? ⟨w.1.size,2,none⟩=some (.slice a n c)/\V.cell? ⟨F,j,none⟩=some (.string u)/\Below wr.1.size wr V from by
   obtain⟨⟨h2,h3,h4⟩,_⟩:=Y.o V (J.o.trans (O.mono J.o.size));exact⟨h2,h3,h4,(O.cell (p:=⟨F,j,none⟩) c4).trans c3,O⟩)
  clear e6 e2 d9 I a4 b0;go_wp2;go_region_held3(λV=>V.cell? ⟨w.1.size,0,none⟩=some (Ud L)/\V.cell? ⟨w.1.size,1,none⟩=some (Ud S)/\V.cell? ⟨w.1.size,2,none⟩=some (.slice a n c)/\V.cell? ⟨F,j,none⟩=some (.string u)/\Below wr.1.size wr V)
   (first|with_reducible exact b6.o _ E)
   (first|(go_at_call 181;refine(a7.o _ E).mono ?_;rintro e f0 ⟨rfl,e0⟩;have E:=E.trans (e0.mono E.size)))
  have b9:=aa (ai b7.o E);have d4:=aa (ai d6.o E);have b3:=aa (J.o.trans (E.mono J.o.size));obtain⟨_,_,_,h6,_⟩:=b6.o f0 E;have f7:F<f0.1.size:=aH c4 E.size;have e5:=b3.o.size;clear b6 a7 e0 c3 b7 d6 J c4;cases b with
  |false=>
   have b1:=aa (a8.o rfl);have b2:=aa (Z.o rfl);clear a1 a0 a8 Z;go_wp2;go_roundw;exact⟨j+1,by omega,by go_num,by rw[b1.o,b2.o];exact b9.o,c6,d4.o,b3.o⟩;simp[intOf]<;>omega
  |true=>
   have b1:=aa (a1.o rfl);have b2:=aa (a0.o rfl);clear a1 a0 a8 Z;go_wp2_with(first|(at_builtin;go_must(refine iM rfl _ _ 26 rfl D.1.size 9 (.string ByteArray.empty) 16 underlying26 iG rfl _ f4 (ap (kp p L k j)) _ b9.o rfl rfl rfl (by omega) (by unfold maxLen;omega) e5 F c6 f7 ?_);intro v' i3 g4 e3 g3));go_roundw;exact⟨j+1,by omega,by go_num,by rw[b1.o,b2.o];exact g4,g3,d4.o.kept e3 (Or.inr λe=>c6 (by rw[<-e];rfl)),b3.o.grown e3 e5 (λq g6=>(b9.o.lt q g6).1)⟩;simp[intOf]<;>omega
 ·obtain rfl:j=m:=by omega
  obtain⟨g,f2,rfl⟩:=dm I;have f1:=aa (a6.o.trans (b0.mono a6.o.size));clear I a4 b0;go_wp2;go_ret;exact⟨g,f2,rfl,f1.o⟩
noncomputable def An(G:List (Nat×Nat×Nat))(S i:Nat):Bool:= @decide (qR G S i) (Classical.propDecidable _)
theorem Pd(G)(S i):An G S i=true↔qR G S i:=by
 unfold An;exact @decide_eq_true_iff _ (Classical.propDecidable _)
theorem CO{K}{S L}{G}(E:fZ L S G)(h:∀i,i<S->(K i=true↔qR G S i)):nO K S G L=nO (An G S) S G L:=by
 have D:∀j,j<S->K j=An G S j:=λj F=>by rw[bF,h j F,Pd]
 unfold nO nH;rw[pJ D,Ni E D]
theorem Ob{L S}{A}(h:fZ L S A)(J:Ln A):A.length<=36:=by
 have Y:=h.k3;have W:=h.s12;have:=pK (A.map λa=>a.1*3+a.2.2) (List.range 36) (by
  unfold List.Nodup;rw[List.pairwise_map];have I:A.Pairwise λa b=>a∈A/\b∈A:=by
   rw[List.pairwise_iff_getElem];intro i j hi F _;exact⟨jO hi,jO F⟩
  refine(List.Pairwise.and J I).imp ?_;rintro a b ⟨U,D,E⟩;have Q:=(h.arc a D).2.2;have Z:=(h.arc b E).2.2;omega) (λx O=>by
  obtain⟨a,D,rfl⟩:=bi.1 O;have Q:=h.arc a D;exact aD.2 (by omega))
 simpa using this
theorem xb{K}{S L s}{G A}(I:fZ L S G)(h:nO K S G L=some (s,A)):fZ L s A/\ev L s (dg A)=true/\A.length<=36:=by
 have D:fZ L s A/\Ln A:=by
  cases ht:nH K S G with
  |none=>rw[uD ht] at h;cases h
  |some p=>
   rw[uC ht] at h;unfold nH at ht;by_cases F:bW K S=0
   ·rw[if_pos F] at ht;cases ht
   ·rw[if_neg F] at ht;injection ht with ht
    subst ht;have E:=xw I F;have J:2<=2^bW K S:=by have:=bG (n:=2) (by omega) E.s1;simpa using this
    exact Ou (N:=2^bW K S) (full:=2^bW K S-1) ⟨E.k1,E.k3⟩ (by omega) (λset x=>rE E) h
 exact⟨D.1,BP D.1 D.2,Ob D.1 D.2⟩
noncomputable def wm(A:List (Nat×Nat×Nat))(L s:Nat):Nat:= @dite _ (∃t,jR A L s t) (Classical.propDecidable _) (λh=>ot A L s (Classical.choose h)) (λ_=>0)
theorem KY{A}{L s t}(D:fZ L s A)(h:jR A L s t):ot A L s t=wm A L s:=by
 unfold wm;rw[dif_pos ⟨t,h⟩];exact Qa (λa E=>(D.arc a E).2.1) h (Classical.choose_spec (⟨t,h⟩:∃t,jR A L s t))
theorem ET(A)(L s):wm A L s<=s:=by
 unfold wm;split
 ·exact JE _ _ _ _
 ·omega
def FJ(o:Option (List UInt8)):ByteArray:=match o with
 |none=>⟨#[45]⟩
 |some l=>mi ⟨l.toArray⟩
def Oc(o:Option Nat):ByteArray:=match o with
 |none=>⟨#[45]⟩
 |some n=>cF (n:Int)
noncomputable def BR(S L:Nat)(G:List (Nat×Nat×Nat)):Option Nat:=(nO (An G S) S G L).map λp=>wm p.2 L p.1
def vj(L S:Nat)(G:List (Nat×Nat×Nat)):Option (List UInt8):=if ev L S (dg G)=true then QC G L (2^S-1) else none
def Kg(G:List (Nat×Nat×Nat))(L S k:Nat):Int:=(SE G (2^S-1) L k:Int)
def Sr(L S:Nat)(G:List (Nat×Nat×Nat)):ByteArray:=dv ((fz (Kg G L S) 0 6).map cF) ⟨#[44]⟩
def rA:ByteArray:=⟨#[115,116,97,116,101,115]⟩
def zu:ByteArray:=⟨#[97,114,99,115]⟩
def rB:ByteArray:=⟨#[114,101,115,111,108,118,105,110,103]⟩
def rz:ByteArray:=⟨#[115,121,110,99]⟩
def jz:ByteArray:=⟨#[115,109,97,108,108,101,115,116]⟩
def ox:ByteArray:=⟨#[119,111,114,100,115]⟩
def nY(a b:ByteArray)(r:Bool):List ByteArray:=if r then[rA,a,zu,b,rB] else[rA,a,zu,b]
def EB(a b:ByteArray)(r:Bool)(x y z:ByteArray):ByteArray:=dv (nY a b r++[rz,x,jz,y,ox,z]) ⟨#[32]⟩
def uf(a b:ByteArray)(r:Bool):ByteArray:=if r then⟨#[115,116,97,116,101,115,32]⟩++a++⟨#[32,97,114,99,115,32]⟩++b++⟨#[32,114,101,115,111,108,118,105,110,103]⟩ else⟨#[115,116,97,116,101,115,32]⟩++a++⟨#[32,97,114,99,115,32]⟩++b
theorem Kx(a b)(r)(x y z):EB a b r x y z=uf a b r++⟨#[32,115,121,110,99,32]⟩++x++⟨#[32,115,109,97,108,108,101,115,116,32]⟩++y++⟨#[32,119,111,114,100,115,32]⟩++z:=by
 cases r
 ·apply Fb;simp[EB,nY,uf,dv,Lib.join,mW,Fc,rA,zu,rz,jz,ox]
 ·apply Fb;simp[EB,nY,uf,dv,Lib.join,mW,Fc,rA,zu,rB,rz,jz,ox]
theorem wg{x}(h:Bx x):(cF x).size<=21:=by
 have:=zh h;have D:(cF x).size=(Lib.itoa x).length:=by simp[cF,ByteArray.size]
 omega
theorem NR{L S}{G}(D:fZ L S G){l}(h:vj L S G=some l):l.length<=16:=by
 unfold vj at h;split at h
 ·unfold QC at h;rw[eV] at h;obtain⟨p,E,rfl⟩:=h;have F:2<=2^S:=by have:=bG (n:=2) (by omega) D.s1;simpa using this
  exact((Ed (L:=L) (N:=2^S) (full:=2^S-1) (by omega) (λset x=>rE D) 4096).1.pos p (jV E)).2.2
 ·cases h
theorem zv{L S}{G}(D:fZ L S G):(FJ (vj L S G)).size<=17:=by
 cases h:vj L S G with
 |none=>show 1<=17;omega
 |some l=>
  have E:=NR D h;have F:=DH ⟨l.toArray⟩;have I:(⟨l.toArray⟩:ByteArray).size=l.length:=by simp[ByteArray.size]
  show(mi _).size<=17
  omega
theorem CD(o)(h:∀n,o=some n->n<=1000):(Oc o).size<=21:=by
 cases o with
 |none=>show 1<=21;omega
 |some n=>
  have:=h n rfl;exact wg ⟨by omega,by omega⟩
theorem Kc{S L}{G}(D:fZ L S G):∀n,BR S L G=some n->n<=1000:=by
 intro n h;unfold BR at h;rw[eV] at h;obtain⟨⟨s,A⟩,E,rfl⟩:=h;have F:=(xb D E).1.s12;have I:=ET A L s;show wm A L s<=1000
 omega
theorem IO{G}{L S k}(h:L<=3)(F:k<=6):Bx (Kg G L S k):=by
 unfold Kg;have D:=SD G (2^S-1) L k;have E:=eb h (show k<=8 by omega);exact⟨by omega,by omega⟩
theorem Ay(xs)(sep):(dv xs sep).size=(Lib.join (xs.map mW) sep.1.1).length:=by simp[dv,ByteArray.size]
theorem Gl{L S}(h:L<=3)(G):(Sr L S G).size<=132:=by
 unfold Sr;rw[Ay];have:=lX (xs:=fz (Kg G L S) 0 6) (λx D=>by obtain⟨i,E,F,rfl⟩:=lv D;exact IO h (by omega)) (sep:=⟨#[44]⟩) rfl;rw[od] at this;omega
theorem Mt(f)(lo m)(h:0<m):pG (fz f lo m)=dv ((fz f lo m).map cF) ⟨#[44]⟩:=by
 unfold pG;rw[od,if_neg (by omega)]
theorem QT{r}(h:Cm r){p S}(E:p<S):fW r p<S:=by
 obtain⟨D,_⟩:=fK h p;omega
theorem pn(L S:Nat)(a)(n c)(G)(w)(e6:aO w a (n*3) (bC (dg G)))(q4:n<=1000000)(h:ev L S (dg G)=true)(b5:fZ L S G):
 Calls prog 90 #[.agg #[Ud L,Ud S,.slice a n c]] w (wG L S G w):=by
 obtain⟨d9,c8⟩:=aB ((w.alloc (.cells #[Ud L,Ud S,.slice a n c] 35)).alloc (.cells #[Ud 0,Ud 0,.slice none 0 0] 35));have r1:d9.1.size=w.1.size+1+1:=by rw[c8];simp
 have f1:=aa (λ(V:World) (Q:Below d9.1.size d9 V)=>show bA V w.1.size #[Ud L,Ud S,.slice a n c]/\bA V (w.1.size+1) #[Ud 0,Ud 0,.slice none 0 0]/\Below w.1.size w V from by
  rw[c8] at Q;obtain⟨⟨k8,f7⟩,⟨k9,f8⟩,l4,l5⟩:=Bl Q;exact⟨⟨by omega,k8,f7⟩,⟨l4,k9,f8⟩,l5⟩)
 have f4:=aa (λ(c6:World) (g0:Below w.1.size w c6)=>iP L S a n c (dg G) c6 (e6.below g0 aQ) (by omega));rw[h] at f4;have h6:=aa (λ(c6:World) (g0:Below w.1.size w c6)=>ED L S a n c G c6 (e6.below g0 aQ) b5 (by omega));have h2:=aa (mN e6 aZ);have k1:=aa b5;obtain⟨a1,b0,j3⟩:=f1.o d9 aZ;obtain⟨a6,a7,a8⟩:=a1.c3.1;have p4:=b5.s12;have f9:=b5.s1;have p5:=b5.k3;obtain⟨o6,hi,b2,n4,n5⟩:=info_parts bK;clear e6 h a1 b0 b5;go_enter func90,ntmps90;go_wp2_with(rw[<-c8]);first|rw[<-c8]|skip
 refine(f4.o _ j3).mono ?_;rintro e o7 ⟨rfl,d0⟩;obtain⟨a1,b0,j4⟩:=f1.o o7 d0;clear c8 a6 a7 a8 j3;obtain⟨a6,a7,a8⟩:=a1.c3.1;go_wp2_with fail;refine(h6.o _ j4).mono ?_;rintro e Z ⟨t,g,c',k0,rfl,e4,U⟩;have g2:=d0.trans (U.mono d0.size);have m2:g<Z.1.size:=(e4.lt g rfl).2;have k4:=aa k0;have f3:=aa (fg G L t);have h7:=aa (show ot G L S t=bW (cX (ez G L t)) S from rfl);obtain⟨R,j1⟩:=aB (ez G L t);rw[<-j1] at f3 h7 e4;have d6:=aa (λ(V:World) (Q:Below Z.1.size Z V) (p:Nat) (m8:p<S)=>show V.cell? ⟨g,p,none⟩=some (Ud (fW R p:Nat)) from(Q.cell (p:=⟨g,p,none⟩) m2).trans ((e4.cellAt p (by omega)).trans (aP (show(kx R S)[p]? =some ((fW R p:Nat):Int) from by unfold kx;rw[dl,fR m8];rfl))));clear a1 b0 j4 a6 a7 a8 f4 h6 k0 j1 e4 d0 U;obtain⟨a1,b0,e3⟩:=f1.o Z g2;obtain⟨a6,a7,a8⟩:=a1.c3.1;have p1:=aa g2;have b8:=b0.lt;have q2:=e3.size;have i5:=aa a1;have k7:=aa b0;obtain⟨D,j2⟩:=aB Z.1.size;have g4:=aa j2;clear g2 a1 b0;go_wp2_with(first|(at_make;refine wpList_make_full _ rfl _ _ 37 rfl Z.1.size 3 o6 (Ud 0) 1 underlying37 hi b2 n4 .i64 .i64 _ _ S rfl rfl rfl rfl (by rw[n5];omega) (by unfold maxLen;omega) aQ ?_;intro c0 e5 j6;have a5:Below Z.1.size Z c0:=aZ.grown j6 aQ (by intro k h;cases h);obtain⟨n6,n7,n8⟩:=(i5.o.below a5).c3.1));rw[<-xi (cX R) S,<-g4.o] at e5;obtain⟨f6,c9⟩:=aB (c0.alloc (.cells #[Ud L,Ud 0,.slice none 0 0] 35));obtain⟨F,e2⟩:=aB c0.1.size;have p6:D<c0.1.size:=(e5.lt _ rfl).2;have b6:Below c0.1.size c0 f6:=by rw[c9];exact aZ.alloc aQ _
 have I:=aa (show ki 3 90 w f6 w.1.size (w.1.size+1) D F (F+1) #[Ud L,Ud S,.slice a n c] #[Ud 0,Ud 0,.slice none 0 0] S (pH (cX R) S 0) (Ud L) (Ud ((bW (cX R) 0:Nat):Int)) (.slice none 0 0) 0 [] from by
  have r3:f6.1.size=F+1:=by rw[c9,e2];simp
  exact⟨(e3.trans (a5.mono e3.size)).trans (b6.mono (by have:=a5.size;omega)),by omega,by omega,(i5.o.below a5).below b6,(k7.o.below a5).below b6,ai e5 b6,by rw[c9,e2];exact bA.new _ _ _,dk _ _ _ _⟩)
 have W:=aa (a5.trans (b6.mono a5.size));rw[<-c9,<-e2];first|rw[<-g4.o]|skip
 rw[<-g4.o] at d6 W;clear c9 e2 e5 j6 a5 b6 e3 a6 a7 a8 n6 n7 n8 j2;go_loopw[7] (λi wr=>∃q:Nat,q<=S/\i= Ud q/\ki 3 90 w wr w.1.size (w.1.size+1) D F (F+1) #[Ud L,Ud S,.slice a n c] #[Ud 0,Ud 0,.slice none 0 0] S (pH (cX R) S q) (Ud L) (Ud ((bW (cX R) q:Nat):Int)) (.slice none 0 0) 0 []/\Below D Z wr) (λi _=>S-(intOf i).toNat);exact⟨0,by omega,rfl,I.o,W.o⟩;clear I W;obtain⟨q,q9,rfl,E,U⟩:=hrel;obtain⟨a6,a7,a8⟩:=E.b0.c3.1;by_cases d2:q<S
 ·have m0:=d6.o wr U q d2;obtain⟨⟨o0,o1,o2⟩,f7,f8,l0⟩:=E.b3.c3;have r0:(q:Int)<(S:Int):=(by omega);have m5:=(E.num.cellAt q (by omega)).trans (lk d2);rw[if_neg (by omega)] at m5;have g6:=E.num.frozenAt q;have m7:=E.ord;have q5:¬(F=D):=(by omega);have q6:¬(D=F):=(by omega);have l8:D<=F:=(by omega);have m3:=nS (cX R) q;have b3:=aa E;have h4:=aa U;have c5:=aa (λh:cX R q=true=>Ah (S:=S) h d2);have d7:=aa (λh:cX R q=false=>Eu (S:=S) h);have c4:=aa (λh:cX R q=true=>lY h);have c1:=aa (λh:cX R q=false=>pI h);have J:=aa (show cX R q=decide (fW R q=q) from rfl);obtain⟨x,d3⟩:=aB (cX R q);obtain⟨y,b9⟩:=aB (bW (cX R) q);obtain⟨z,b2⟩:=aB (fW R q);rw[<-b2] at m0 J;rw[<-d3] at c5 d7 c4 c1 J;rw[<-b9] at o1 c4 c1 m3 c5 b3;clear d3 b9 b2 E m7 U;cases x
  ·have e9:=aa (d7.o rfl);have f0:=aa (c1.o rfl);have d4:((z:Int)==(q:Int))=false:=by
    have:=J.o.symm;rw[decide_eq_false_iff_not] at this;simp;omega
   clear c5 d7 c4 c1 J;go_wp2;go_roundw;exact⟨q+1,by omega,by go_num,by rw[e9.o,f0.o];exact b3.o,h4.o⟩;simp[intOf]<;>omega
  ·have e9:=aa (c5.o rfl);have f0:=aa (c4.o rfl);have d4:z=q:=by
    have:=J.o.symm;rwa[decide_eq_true_iff] at this
   clear c5 d7 c4 c1 J;subst d4;go_wp2;go_roundw;exact⟨z+1,by omega,by go_num,by
    have f9:=(b3.o.setNum z (Ud (y:Int))).setQ (Ud ((y:Int)+1));rw[e9.o] at f9;rw[f0.o];exact f9,(h4.o.setCell (p:=⟨D,z,none⟩) aQ _).setCell (p:=⟨F,1,none⟩) l8 _⟩
   simp[intOf]<;>omega
 ·obtain rfl:q=S:=by omega
  have I:=aa E;have W:=aa U;clear E U;go_wp2;go_loopw[8] (λi wr=>∃(k:Nat) (v:Value) (m:Nat) (xs:List Value),k<=n/\i= Ud k/\m<=k/\ki 3 90 w wr w.1.size (w.1.size+1) D F (F+1) #[Ud L,Ud q,.slice a n c] #[Ud 0,Ud 0,.slice none 0 0] q (pH (cX R) q q) (Ud L) (Ud ((bW (cX R) q:Nat):Int)) v m xs/\Below D Z wr) (λi _=>n-(intOf i).toNat);exact⟨0,_,0,[],by omega,rfl,aN _,I.o,W.o⟩;clear I W a6 a7 a8;obtain⟨k,v,m,xs,q0,rfl,q3,E,U⟩:=hrel;obtain⟨a6,a7,a8⟩:=E.b0.c3.1;by_cases d2:k<n
  ·obtain⟨y,b9⟩:=aE (l:=G) (n:=k) (by rw[h2.o.1];exact d2);obtain⟨p3,r4,rfl,d0,j5⟩:=h2.o.2 k y b9;have b1:=k1.o.arc y (aj b9);obtain⟨f,O,l⟩:=y;obtain⟨l1,l2,l3⟩:=j5 wr E.bel;have q1:(k:Int)<(n:Int):=(by omega);simp only[] at l1 l2 l3 b1;have p9:(f:Int)<(q:Int):=(by omega);have r2:(O:Int)<(q:Int):=(by omega);obtain⟨a3,e1⟩:=aB (wr.alloc (.cells #[Ud f,Ud O,Ud l] 90));have g3:Below wr.1.size wr a3:=by rw[e1];exact aZ.alloc aQ _
   have n3:D<=wr.1.size:=by have:=E.ord;have:=E.sz;omega
   have a0:=aa (E.below g3);have d5:=aa (show bA a3 wr.1.size #[Ud f,Ud O,Ud l] by rw[e1];exact bA.new _ _ _);have c3:=aa (U.trans (g3.mono n3));have h5:=aa (λV Q=>d6.o V Q f b1.1);have f2:=aa (λV Q=>d6.o V Q O b1.2.1);have J:=aa (show cX R f=decide (fW R f=f) from rfl);have g7:=QT f3.o b1.2.1;have m9:((fW R O:Nat):Int)<(q:Int):=(by omega);have i1:=aa (show cX R (fW R O)=true from by unfold cX;rw[decide_eq_true_eq];exact rT f3.o O);have d8:=aa ((a0.o.num.cellAt (fW R O) (by omega)).trans (lk (K:=cX R) (i:=q) g7)|>.trans (by rw[if_pos ⟨i1.o,g7⟩]));have c2:=aa (λh:cX R f=true=>(a0.o.num.cellAt f (by omega)).trans (lk (K:=cX R) (i:=q) b1.1)|>.trans (by rw[if_pos ⟨h,b1.1⟩]));obtain⟨a9,j9⟩:=aB (fW R O);rw[<-j9] at f2 g7 m9 d8;obtain⟨g9,j7⟩:=aB (bW (cX R) a9);rw[<-j7] at d8;obtain⟨g8,g6⟩:=aB (bW (cX R) f);rw[<-g6] at c2;obtain⟨x,d3⟩:=aB (cX R f);rw[<-d3] at c2 J;obtain⟨z,b2⟩:=aB (fW R f);rw[<-b2] at h5 J;have f5:=aa e1;have n2:F+1<=wr.1.size:=E.sz;have k6:=aa (λ(g:Nat) (h:v.ownBlock=some g)=>(E.own.lt g h).2);obtain⟨⟨o8,o9,p0⟩,_⟩:=d5.o.c3;have l9:=h5.o a3 c3.o;clear d3 b2 b9 j5 b1 e1 g3 E j7 j9 i1 U g6;cases x with
   |false=>
    have d4:((z:Int)==(f:Int))=false:=by
     have:=J.o.symm;rw[decide_eq_false_iff_not] at this;simp;omega
    clear J c2;go_wp2_with fail;rw[<-f5.o];go_quiet(fail);go_wp2;go_roundw;exact⟨k+1,v,m,xs,by omega,by go_num,by omega,a0.o.below (aA aZ _),aA c3.o _⟩;simp[intOf]<;>omega
   |true=>
    have d4:z=f:=by
     have:=J.o.symm;rwa[decide_eq_true_iff] at this
    have h9:=aa (c2.o rfl);clear J c2;subst d4;go_wp2_with fail;rw[<-f5.o];go_quiet(fail);go_wp2;obtain⟨a2,g1⟩:=aB (a3.drewN nq);have b7:Below a3.1.size a3 a2:=by rw[g1];exact aA aZ _
    have I:=aa (a0.o.below b7);have h3:=aa (d5.o.below b7);have n1:D<=a3.1.size:=c3.o.size|>λh=>by have:=a0.o.ord;have:=a0.o.sz;omega
    have W:=aa (c3.o.trans (b7.mono n1));have h8:=aa ((b7.cell (p:=⟨D,z,none⟩) (a0.o.num.lt _ rfl).2).trans h9.o);have i0:=aa ((b7.cell (p:=⟨D,a9,none⟩) (a0.o.num.lt _ rfl).2).trans d8.o);have p2:=aa (show F+1<=wr.1.size/\wr.1.size<a3.1.size from⟨n2,d5.o.lt⟩);first|rw[<-g1]|trace_state
    clear g1 b7 a0 d5 c3 h9 d8 o8 o9 p0 l9 f5;obtain⟨b4,e0⟩:=aB (α:=World->Prop) (λV=>V.cell? ⟨F,2,none⟩=some v/\V.cell? ⟨D,z,none⟩=some (Ud (g8:Nat))/\V.cell? ⟨D,a9,none⟩=some (Ud (g9:Nat))/\V.cell? ⟨g,O,none⟩=some (Ud (a9:Nat))/\V.cell? ⟨wr.1.size,0,none⟩=some (Ud z)/\V.cell? ⟨wr.1.size,1,none⟩=some (Ud O)/\V.cell? ⟨wr.1.size,2,none⟩=some (Ud l));have i4:=aa (show∀V,b4 V->V.cell? ⟨F,2,none⟩=some v/\V.cell? ⟨D,z,none⟩=some (Ud (g8:Nat))/\V.cell? ⟨D,a9,none⟩=some (Ud (g9:Nat))/\V.cell? ⟨g,O,none⟩=some (Ud (a9:Nat))/\V.cell? ⟨wr.1.size,0,none⟩=some (Ud z)/\V.cell? ⟨wr.1.size,1,none⟩=some (Ud O)/\V.cell? ⟨wr.1.size,2,none⟩=some (Ud l) fromλV Q=>by rw[e0] at Q;exact Q);have i3:=aa (show∀V,Below a2.1.size a2 V->b4 V fromλV Y=>by
     obtain⟨⟨_,_,e7⟩,_⟩:=(I.o.b3.below Y).c3;obtain⟨⟨e8,h0,h1⟩,_⟩:=(h3.o.below Y).c3;have b8:D<a2.1.size:=(I.o.num.lt _ rfl).2;rw[e0];exact⟨e7,(Y.cell (p:=⟨D,z,none⟩) b8).trans h8.o,(Y.cell (p:=⟨D,a9,none⟩) b8).trans i0.o,f2.o V (W.o.trans (Y.mono (by omega))),e8,h0,h1⟩)
    have p7:b4 a2.drew:=i3.o _ aZ.drew;have l6:b4 (a2.drew.alloc (.cells #[Ud g8,Ud g9,Ud l] 90)):=i3.o _ (aZ.drew.alloc aQ _);have n0:F+1<=a2.drew.1.size:=I.o.sz;have k2:=aa (ai I.o.own aZ.drew);have i2:=aa (show∀V,a2.drew.grownBy V v.ownBlock->Below (F+1) a2.drew V->b4 V fromλV m1 Y=>by
     have l7:=h3.o.below aZ.drew;have q7:=I.o.ord;obtain⟨⟨_,_,e7⟩,_⟩:=((I.o.b3.below aZ.drew).at_ Y (by omega)).c3;obtain⟨⟨e8,h0,h1⟩,_⟩:=(l7.keep m1 (λe=>by have:=k6.o _ e;omega)).c3;have b8:D<F+1:=(by omega);rw[e0];exact⟨e7,(Y.cell (p:=⟨D,z,none⟩) b8).trans h8.o,(Y.cell (p:=⟨D,a9,none⟩) b8).trans i0.o,f2.o V (W.o.drew.trans (Y.mono (by omega))),e8,h0,h1⟩)
    have m4:m<=1048576:=(by omega);clear e0;refine dr (S:=b4) 21 (by kernel_rfl) ?_;iterate 18 (refine kG rfl (by kernel_rfl) (λ_ _ _ h=>h) (by rfl) (by assumption) (λV c7=>by have c7:=i4.o V c7;go_split_ands;go_simp;first|done|with_reducible rfl) ?_;try simp only[Act.put,ab,ac,ae])
    refine aY (i:=18) rfl (by kernel_rfl) (by decide) (λK a4=> ?_);go_simp;refine a4.out _ _ l6 ?_;clear a4 K;try simp only[Act.put,ab,ac,ae]
    refine aY (i:=19) rfl (by kernel_rfl) (by decide) (λK a4=> ?_);refine kJ (by rfl) _ _ 33 (by rfl) (F+1) 90 underlying33 qE v _ _ _ _ _ k2.o (by rfl) (by rfl) m4 n0 ?_;intro i8 i6 r5 j8 d1 g5;refine a4.out _ _ (i2.o _ g5 d1) ?_;clear a4 K;try simp only[Act.put,ab,ac,ae]
    have p8:=i2.o _ g5 d1;have j0:=(I.o.below aZ.drew).app d1 j8;obtain⟨⟨_,_,e7⟩,_,_,e8⟩:=((I.o.b3.below aZ.drew).at_ d1 (cG _)).c3;have k3:=aa j0;have m6:D<=F:=by have:=I.o.ord;omega
    have k5:=aa ((W.o.drew.trans (d1.mono (by omega))).setCell (p:=⟨F,2,none⟩) m6 (.slice (some ⟨i8,0,none⟩) (m+1) i6));clear j0 j8 g5;(refine jw 20 rfl (by kernel_rfl) (λ_ _ _ h=>h) (by rfl) (by assumption) (λV c7=>by have c7:=i4.o V c7;go_split_ands;go_simp;first|done|with_reducible rfl) ?_;try simp only[Act.put,ab,ac,ae]);refine cU rfl (by kernel_rfl) (by kernel_rfl) (λK a4=> ?_);go_simp;refine a4.out _ _ ?_;clear a4 K;go_wp2;go_roundw;exact⟨k+1,.slice (some ⟨i8,0,none⟩) (m+1) i6,m+1,_,by omega,by go_num,by omega,k3.o,k5.o⟩;simp[intOf]<;>omega
  ·obtain rfl:k=n:=by omega
   obtain⟨⟨o0,o1,o2⟩,_⟩:=E.b3.c3;obtain⟨⟨n9,o4,o5⟩,f7,f8,l0⟩:=E.b1.c3;have b3:=aa E;obtain⟨i9,i7,rfl⟩:=dm E.own;rw[<-h7.o] at o1;clear E;go_wp2;have q8:=b3.o.ord;refine bodyPost_ret (v:=.tuple #[.agg #[Ud L,Ud (ot G L q t:Nat),.slice i9 m i7],.bool true]) (by simp[results,results90,go_sem,n9,o4,o5]) rfl ⟨t,m,i7,i9,k4.o,rfl,?_⟩;exact((b3.o.bel.setCell (by show w.1.size<=w.1.size+1;omega) _).setCell (by show w.1.size<=w.1.size+1;omega) _).setCell (by show w.1.size<=w.1.size+1;omega) _
theorem pr(L S)(a)(n c)(G)(w)(a6:aO w a (n*3) (bC (dg G)))(O:fZ L S G)(m7:n<=1000000)(b1:fy L S (dg G)=true):
 Calls prog 18 #[.agg #[Ud L,Ud S,.slice a n c]] w λe w'=>e= .returned (.string (EB (cF (S:Int)) (cF (n:Int)) (ev L S (dg G)) (FJ (vj L S G)) (Oc (BR S L G)) (Sr L S G)))/\Below w.1.size w w':=by
 have a1:=aa (λ(V:World) (d4:Below (w.1.size+1) (w.alloc (.cells #[Ud L,Ud S,.slice a n c] 35)) V)=>dT d4);obtain⟨D,b2⟩:=aB (w.alloc (.cells #[Ud L,Ud S,.slice a n c] 35));have j7:Below w.1.size w D:=by rw[b2];exact aZ.alloc aQ _
 have n0:D.1.size=w.1.size+1:=by rw[b2];simp
 rw[<-b2,<-n0] at a1;have p7:=O.s12;have f1:=aa (λ(W:World) (Q:Below w.1.size w W)=>fJ L S a n c (dg G) W (a6.below Q aQ) (by omega));rw[b1] at f1;have i9:=aa (λW=>dy (S:Int) W (by omega) (by omega));have e7:=aa (λW=>dy (n:Int) W (by omega) (by omega));have k3:=wg (x:=(S:Int)) ⟨by omega,by omega⟩;have k2:=wg (x:=(n:Int)) ⟨by omega,by omega⟩;have f3:=aa (λ(W:World) (Q:Below w.1.size w W)=>iP L S a n c (dg G) W (a6.below Q aQ) (by omega));have a5:=aa (λ(W:World) (Q:Below w.1.size w W)=>show Calls prog 87 #[.agg #[Ud L,Ud S,.slice a n c]] W λe w'=>e= .returned (FL (vj L S G))/\Below W.1.size W w' from by
  cases E:ev L S (dg G) with
  |true=>
   have:=qY L S a n c G W (a6.below Q aQ) O (by omega) E;unfold vj;rw[E];exact this
  |false=>
   have:=rK L S a n c (dg G) W (a6.below Q aQ) (by omega) E;unfold vj;rw[E];exact this)
 have c8:=aa (λ(W:World) (Q:Below w.1.size w W)=>qt L S a n c G W (a6.below Q aQ) m7 b1 O);have b7:=aa (λ(K:Nat->Bool) (d3:∀i,i<S->(K i=true↔qR G S i))=>CO (L:=L) O d3);have a2:=aa (λ(s:Nat) (A:List (Nat×Nat×Nat)) (m2:nO (An G S) S G L=some (s,A))=>xb O m2);have b8:=aa (λ(W:World) (k:Nat) (Q:Below w.1.size w W) (m6:k<=6)=>ur L S a n c G k W (a6.below Q aQ) O (by omega) b1 m6);have a3:=aa (λ(W:World) (g0:Option Addr) (cr:Nat) (e1:aO W g0 6 (af (fz (Kg G L S) 0 6)))=>fp g0 6 cr _ W e1 (λx n1=>by obtain⟨i,p5,J,rfl⟩:=lv n1;exact IO O.k3 (by omega)) (by omega));rw[Mt _ _ _ (by omega),show dv ((fz (Kg G L S) 0 6).map cF) ⟨#[44]⟩=Sr L S G from rfl] at a3;have b6:=aa (λj=>qc (Kg G L S) 0 j);have k9:=zv O;have k7:=CD (BR S L G) (Kc O);have m9:=Gl (S:=S) O.k3 G;have e2:BR S L G=(nO (An G S) S G L).map λp=>wm p.2 L p.1:=rfl
 have d0:=aa (λ(r:Bool) (x y z:ByteArray)=>Kx (cF (S:Int)) (cF (n:Int)) r x y z);have a9:=aa (show uf (cF (S:Int)) (cF (n:Int)) true=uf (cF (S:Int)) (cF (n:Int)) false++⟨#[32,114,101,115,111,108,118,105,110,103]⟩ from rfl);have b0:=aa (show uf (cF (S:Int)) (cF (n:Int)) false=⟨#[115,116,97,116,101,115,32]⟩++cF (S:Int)++⟨#[32,97,114,99,115,32]⟩++cF (n:Int) from rfl);obtain⟨U,g8⟩:=aB (cF (S:Int));obtain⟨c1,g7⟩:=aB (cF (n:Int));obtain⟨rs,h2⟩:=aB (ev L S (dg G));obtain⟨a0,h4⟩:=aB (vj L S G);obtain⟨b3,k5⟩:=aB (nO (An G S) S G L);obtain⟨o5,h3⟩:=aB (BR S L G);obtain⟨n9,h1⟩:=aB (Sr L S G);rw[<-g8] at i9 k3 d0 a9 b0;rw[<-g7] at e7 k2 d0 a9 b0;rw[<-h2] at f3;rw[<-h4] at a5 k9;rw[<-k5] at b7 a2 e2;rw[<-h3] at k7 e2;rw[<-h1] at a3 m9;rw[<-g8,<-g7,<-h2,<-h4,<-h3,<-h1,d0.o];have a4:=aa e2;have e6:=aa j7;obtain⟨⟨n3,n4,n5⟩,_⟩:=a1.o D aZ;clear a6 O b1 g8 g7 h2 h4 k5 h3 h1 e2 j7 d0;obtain⟨c3,g9⟩:=aB (uf U c1 false);rw[<-g9] at b0 a9;have m4:c3.size<=60:=by
  rw[b0.o];simp only[aK];show 7+U.size+6+c1.size<=60
  omega
 have f0:=aa g9;clear g9;obtain⟨J,d8⟩:=aB (uf U c1 rs);have q5:J.size<=70:=by
  rw[d8];cases rs
  ·rw[<-f0.o];omega
  ·rw[a9.o,aK];show c3.size+10<=70
   omega
 have e9:=aa d8;rw[<-d8];clear d8;obtain⟨st,e3⟩:=aB (FJ a0);rw[<-e3] at k9;rw[<-e3];have c6:=aa (λW=>GO (⟨(a0.getD []).toArray⟩:ByteArray) W);obtain⟨j5,g6⟩:=aB (mi (⟨(a0.getD []).toArray⟩:ByteArray));rw[<-g6] at c6;have c9:=aa (show st=if a0.isSome=true then j5 else⟨#[45]⟩ from by
  rw[e3,g6];cases a0<;>rfl)
 unfold FL at a5;obtain⟨b4,k6⟩:=aB ((⟨(a0.getD []).toArray⟩:ByteArray));rw[<-k6] at c6 a5;obtain⟨l6,Z⟩:=aB a0.isSome;rw[<-Z] at c9 a5;clear e3 g6 k6 Z a0;obtain⟨b5,e4⟩:=aB (Oc o5);rw[<-e4] at k7;rw[<-e4];have b9:=aa e4;clear e4;go_enter func18,ntmps18;go_wp2_with(rw[<-b2]);first|rw[<-b2]|skip
 clear b2 n3 n4 n5;refine(f1.o _ e6.o).mono ?_;rintro e o6 ⟨rfl,Z⟩;have h:=aa Z;clear Z f1;have Y:Below D.1.size D o6.drew:=h.o.drew;have j0:=aa (λ(V:World) (d4:Below D.1.size D V)=>show V.cell? ⟨w.1.size,0,none⟩=some (Ud L)/\V.cell? ⟨w.1.size,1,none⟩=some (Ud S)/\V.cell? ⟨w.1.size,2,none⟩=some (.slice a n c)/\Below D.1.size D V from by
  obtain⟨⟨n6,n7,n8⟩,_⟩:=a1.o V d4;exact⟨n6,n7,n8,d4⟩)
 have g2:¬((9223372036854775807:Int)<7+(U.size:Int)):=(by omega);have d1:¬((9223372036854775807:Int)<7+(U.size:Int)+6):=(by omega);have j6:¬((9223372036854775807:Int)<7+(U.size:Int)+6+(c1.size:Int)):=(by omega);have l9:¬(9223372036854775807<7+U.size):=(by omega);have m0:¬(9223372036854775807<7+U.size+6):=(by omega);have m1:¬(9223372036854775807<7+U.size+6+c1.size):=(by omega);go_wp2;go_region_held3(λV=>V.cell? ⟨w.1.size,0,none⟩=some (Ud L)/\V.cell? ⟨w.1.size,1,none⟩=some (Ud S)/\V.cell? ⟨w.1.size,2,none⟩=some (.slice a n c)/\Below D.1.size D V)
  (first|with_reducible exact j0.o _ Y)
  (first|(go_at_call_of 50 S;refine(i9.o _).mono ?_;rintro e q9 ⟨rfl,d6⟩;have Y:=Y.trans (d6.mono Y.size))|(go_at_call_of 50 n;refine(e7.o _).mono ?_;rintro e r0 ⟨rfl,j9⟩;have Y:=Y.trans (j9.mono Y.size)))
 have h:=aa Y;rw[<-b0.o];clear Y d6 j9 j0 e7 g2 d1 j6 l9 m0 m1 b0;obtain⟨⟨a7,b4,a8⟩,_,F⟩:=a1.o _ h.o;go_wp2_with fail;clear a7 b4 a8;refine(f3.o _ F).mono ?_;rintro e r1 ⟨rfl,E⟩;have h:=aa (h.o.trans (E.mono h.o.size));clear E F;clear f3;go_upto_if 27 with fail
 go_cut[3] from 28 to 29 (λi1 c4=>i1= .string J/\bv (Below D.1.size D c4))
 case first=>
  clear a5 c8 b7 a2 b8 a3 b6 a4;cases rs
  ·have I:=aa (show J=c3 from by rw[e9.o,f0.o]);go_wp2;go_meet;case rel=>exact⟨by rw[I.o],h⟩
  ·have I:=aa (show J=c3++⟨#[32,114,101,115,111,108,118,105,110,103]⟩ from by rw[e9.o,a9.o]);have g2:¬((9223372036854775807:Int)<(c3.size:Int)+10):=(by omega);go_wp2;go_meet;case rel=>exact⟨by rw[I.o],h⟩
 case rest=>
  obtain⟨rfl,h⟩:=hcut;clear e9 a9 f0 m4 k3 k2;obtain⟨⟨a7,b4,a8⟩,_,F⟩:=a1.o _ h.o;go_wp2_with fail;clear a7 b4 a8;refine(a5.o _ F).mono ?_;rintro e r2 ⟨rfl,E⟩;have h:=aa (h.o.trans (E.mono h.o.size));clear E F;clear a5;go_wp2_with fail;refine(c6.o _).mono ?_;rintro e r3 ⟨rfl,rfl⟩;go_upto_if 38 with fail
  go_cut[4] from 39 to 39 (λi1 c4=>i1= .string st/\bv (Below D.1.size D c4))
  case first=>
   clear c8 b7 a2 b8 a3 b6 a4;cases l6
   ·have I:=aa (show st=⟨#[45]⟩ from c9.o);go_wp2;go_meet;case rel=>exact⟨by rw[I.o],h⟩
   ·have I:=aa (show st=j5 from c9.o);go_wp2;go_meet;case rel=>exact⟨by rw[I.o],h⟩
  case rest=>
   obtain⟨rfl,h⟩:=hcut;clear c9 c6;obtain⟨⟨a7,b4,a8⟩,_,F⟩:=a1.o _ h.o;go_wp2_with fail;clear a7 b4 a8;refine(c8.o _ F).mono ?_;rintro e e5 ⟨K,d3,g3,g1,rfl,h0,E⟩;have f2:=aa (b7.o K d3);rw[f2.o] at h0;rw[f2.o];have l3:=aa (F.trans (E.mono F.size));have h:=aa (h.o.trans (E.mono h.o.size));clear E F;clear c8 b7 f2 d3;have c7:=aa h0;clear h0;unfold yL;obtain⟨f8,g4⟩:=aB (α:=Nat) (if b3.isSome=true then L else 0);rw[<-g4];have j1:=aa g4;clear g4;obtain⟨f9,d5⟩:=aB (e5.alloc (.cells #[Ud (f8:Int),Ud ((b3.getD (0,[])).1:Nat),.slice g3 (b3.getD (0,[])).2.length g1] 35));have g5:Below e5.1.size e5 f9:=by rw[d5];exact aZ.alloc aQ _
   have f7:=aa (show bA f9 e5.1.size #[Ud (f8:Int),Ud ((b3.getD (0,[])).1:Nat),.slice g3 (b3.getD (0,[])).2.length g1] by rw[d5];exact bA.new _ _ _);have c5:=aa (h.o.trans (g5.mono h.o.size));have j4:=aa d5;have k0:=g5;clear d5 g5;obtain⟨⟨h8,h9,i0⟩,_⟩:=f7.o.c3;go_upto_if 44 with fail
   first|rw[<-j4.o]|trace_state
   go_cut[6,9,10] from 45 to 52 (λo9 _ _ c4=>o9= .string b5/\bv (Below D.1.size D c4))
   case first=>
    clear b8 a3 b6;cases b3 with
    |none=>
     have I:=aa (show b5=⟨#[45]⟩ from by rw[b9.o,a4.o];rfl);clear b9 a4 a2 c7;simp only[iT];go_wp2;go_meet;case rel=>exact⟨by rw[I.o],c5⟩
    |some p=>
     obtain⟨s,A⟩:=p;obtain rfl:L=f8:=j1.o.symm;obtain⟨d2,j8,p6⟩:=a2.o s A rfl;have k4:=oI c7.o (by show A.length*3<=_;omega);have f6:=aa (pn L s g3 A.length g1 A f9 (k4.below k0 aQ) (by omega) j8 d2);unfold wG at f6;have i8:=aa (λt (b1:jR A L s t)=>KY d2 b1);have I:=aa (show b5=cF (wm A L s:Nat) from by rw[b9.o,a4.o];rfl);have p9:=ET A L s;have q4:=d2.s12;simp only[eF,ci,if_true] at h8 h9 i0;clear b9 a4 a2 c7 d2 j8 k4 f7;simp only[eF,ci,if_true];go_wp2_with fail;refine f6.o.mono ?_;rintro e q6 ⟨t,n2,c',l8,k8,rfl,E⟩;have i7:=aa (i8.o t k8);rw[i7.o];have i3:=aa (c5.o.trans (E.mono c5.o.size));have e8:=aa (λW=>dy ((wm A L s:Nat):Int) W (by omega) (by omega));rw[<-I.o] at e8;obtain⟨z,h7⟩:=aB (wm A L s);rw[<-h7] at e8;rw[<-h7];clear h7 i7 i8 f6 I E k8 h8 h9 i0;have i4:=aa (i3.o.alloc i3.o.size (.cells #[Ud L,Ud z,.slice l8 n2 c'] 35));go_wp2_with fail;refine(e8.o _).mono ?_;rintro e q7 ⟨rfl,E⟩;have l1:=aa (i4.o.trans (E.mono i4.o.size));go_wp2;go_meet;case rel=>exact⟨rfl,l1⟩
   case rest=>
    obtain⟨rfl,h⟩:=hcut;clear j1 b9 a4 a2 c7 f7 c5 h8 h9 i0 l3 k0 j4;have h5:=h.o.size;have j3:=aa (bd (w:=wc) (base:=D.1.size) (e:=3) #[] [] rfl h5 (by unfold maxLen;simp));have i2:=aa (h.o.alloc h5 (.cells #[] 3));go_wp2;go_loopw[11,12] (λv i wr=>∃j g c0:Nat,j<=6/\i= Ud j/\v= .slice (some ⟨g,0,none⟩) j c0/\wr.ownsRow D.1.size 3 1 (.slice (some ⟨g,0,none⟩) j c0) j (af (fz (Kg G L S) 0 j))/\Below D.1.size D wr) (λ_ i _=>6-(intOf i).toNat);exact⟨0,_,0,by omega,rfl,rfl,j3.o,i2.o⟩;clear j3 i2 h5;obtain⟨j,g,c0,q0,rfl,rfl,d9,c2⟩:=hrel;by_cases q2:j<6
    ·have q1:(j:Int)<=5:=by omega
     have f5:=aa (b6.o j);rw[aW] at f5;obtain⟨⟨a7,o4,a8⟩,_,F⟩:=a1.o wr c2;have f4:=aa (b8.o wr j F (by omega));unfold xO at f4;obtain⟨y,h6⟩:=aB (SE G (2^S-1) L j);rw[<-h6] at f4;rw[show Kg G L S j=(y:Int) by unfold Kg;rw[h6]] at f5;have j2:=aa d9;have i6:=aa c2;clear d9 h6 c2 F;go_wp2_with fail;refine f4.o.mono ?_;rintro e o7 ⟨p4,p0,rfl,Z⟩;have m3:=(ai j2.o Z).alloc (.cells #[Ud (y:Int)] 3);have d7:=i6.o.trans (Z.mono i6.o.size);have l4:=aa (j2.o.lt g rfl);clear a7 o4 a8;go_wp2_with(first|(at_builtin;go_must(refine aX rfl _ _ 37 rfl D.1.size 3 (Ud 0) 8 underlying37 bK rfl g c0 j _ m3 rfl o7.1.size 0 1 1 [Ud (y:Int)] rfl rfl (by intro q u e0;match q,e0 with|0,e0=>simp at e0;subst e0;simp) (by intro u l0;simp at l0;subst l0;rfl) (by omega) (by unfold maxLen;omega) (by have:=d7.size;simp;omega) ?_);intro d1 l7 o8 m8 m5 p8 q3));have d6:Below D.1.size D o8:=(d7.alloc d7.size _).grown m5 (by have:=d7.size;simp;omega) (by rintro k ⟨⟩;exact l4.o.1);go_roundw;exact⟨j+1,d1,l7,by omega,by go_num,rfl,by rw[f5.o];exact m8,d6⟩;simp[intOf];omega
    ·obtain rfl:j=6:=by omega
     obtain⟨g0,cr,k1,e1⟩:=aS d9 (by omega);simp only[aJ,true_and] at k1;obtain⟨rfl,rfl⟩:=k1;have l5:=aa (a3.o wr _ c0 e1);have i5:=aa (e6.o.trans (c2.mono e6.o.size));have g2:¬((9223372036854775807:Int)<(J.size:Int)+6):=(by omega);have d1:¬((9223372036854775807:Int)<(J.size:Int)+6+(st.size:Int)):=(by omega);have j6:¬((9223372036854775807:Int)<(J.size:Int)+6+(st.size:Int)+10):=(by omega);have p1:¬((9223372036854775807:Int)<(J.size:Int)+6+(st.size:Int)+10+(b5.size:Int)):=(by omega);have p2:¬((9223372036854775807:Int)<(J.size:Int)+6+(st.size:Int)+10+(b5.size:Int)+7):=(by omega);have p3:¬((9223372036854775807:Int)<(J.size:Int)+6+(st.size:Int)+10+(b5.size:Int)+7+(n9.size:Int)):=(by omega);clear d9 e1 c2 b8 b6 a3;go_wp2_with fail;refine l5.o.mono ?_;rintro e q8 ⟨rfl,E⟩;have l2:=aa (i5.o.trans (E.mono i5.o.size));go_wp2;go_ret;exact⟨rfl,l2.o⟩
def IZ(s:Nat):Nat:=((List.range 12).filter λp=>decide (s/2^p%2=1)).length
theorem IY:∀n,n<64->∀m,m<64->(IZ (64*n+m)==1)=jo (64*n+m):=by decide+kernel
theorem Me{s}(h:s<4096):(IZ s==1)=jo s:=by
 have:=IY (s/64) (by omega) (s%64) (by omega);rwa[ja] at this
theorem QY(n m)(w)(D:n<64)(h:m<64):
 Calls prog 167 #[.int .u64 ((64*n+m:Nat):Int)] w λe w'=>e= .returned (Ud (IZ (64*n+m):Nat))/\w'=w:=by
 have E:IntKind.u64.wrap (64*(n:Int)+(m:Int))=64*(n:Int)+(m:Int):=dS _ (by omega);go_enter func167,ntmps167;go_wp2;go_ret;refine⟨cW ?_,rfl⟩;clear E;revert h;revert m;revert D;revert n;decide+kernel
theorem OD(s:Nat)(w)(h:s<4096):
 Calls prog 167 #[.int .u64 (s:Int)] w λe w'=>e= .returned (Ud (IZ s:Nat))/\w'=w:=by
 have:=QY (s/64) (s%64) w (by omega) (by omega);rwa[ja] at this
theorem Kj{s}(D:s<4096){b}(h:jo s=b):(((IZ s:Nat):Int)==1)=b:=by
 rw[<-h,<-Me D,bF];simp;omega
theorem IB(s)(v)(J E)(V)(I:s<4096)(h:jo s=false)(Q:V.cell? ⟨E,0,none⟩=some (.bool false)):
 Calls prog 166 #[Ud s,v,.pointer (some ⟨J,0,none⟩),.pointer (some ⟨E,0,none⟩)] V λe w'=>e= .returned (.bool false)/\Below V.1.size V w':=by
 have U:IntKind.u64.wrap (s:Int)=(s:Int):=dS _ (by omega);have D:=aa (λW=>OD s W I);have O:=Kj I h;obtain⟨q,F⟩:=aB (IZ s);rw[<-F] at D O;go_enter func166,ntmps166;go_wp2_with fail;refine(D.o _).mono ?_;rintro e Y ⟨rfl,rfl⟩;go_wp2;go_ret;exact⟨rfl,aZ⟩
theorem FK(s)(a)(n c)(u)(E D)(x y)(V)(J:s<4096)(h:jo s=true)(U:aO V a n (bo u))(a1:V.cell? ⟨E,0,none⟩=some x)(a2:V.frozen? ⟨E,0,none⟩=false)(Y:V.cell? ⟨D,0,none⟩=some y)(Z:V.frozen? ⟨D,0,none⟩=false)(O:¬(E=D)):
 Calls prog 166 #[Ud s,.slice a n c,.pointer (some ⟨E,0,none⟩),.pointer (some ⟨D,0,none⟩)] V λe w'=>e= .returned (.bool true)/\w'=(V.setCell ⟨E,0,none⟩ (.string ⟨u.toArray⟩)).setCell ⟨D,0,none⟩ (.bool true):=by
 have a3:IntKind.u64.wrap (s:Int)=(s:Int):=dS _ (by omega);have F:=aa (λW=>OD s W J);have Q:=Kj J h;have a0:¬(D=E):=λe=>O e.symm
 obtain⟨q,I⟩:=aB (IZ s);rw[<-I] at F Q;go_enter func166,ntmps166;go_wp2_with fail;refine(F.o _).mono ?_;rintro e a4 ⟨rfl,rfl⟩;go_wp2_with(with_reducible refine fT rfl _ 22 9 5 rfl underlying22 underlying5 underlying9 _ n _ u rfl U ?_);go_ret;exact⟨rfl,rfl⟩
def mH(l:List Nat):DataW Unit:=l.zipIdx.foldl (λ(D:DataW Unit) (p:Nat×Nat)=>D.put (.int .i64 (p.1:Int)) (.lit (.int .i64 (p.2:Int)))) (.map [])
theorem nU(l)(s:Nat):mH (l++[s])=(mH l).put (.int .i64 (s:Int)) (.lit (.int .i64 (l.length:Int))):=by
 simp[mH,List.zipIdx_append,jt]
theorem yg(l):Maps.IsMap (mH l):=by
 refine pt (P:=λl=>Maps.IsMap (mH l)) ⟨[],rfl⟩ ?_ l;intro l c h;rw[nU];exact h.put _ _
theorem Mv(l)(s:Nat):Maps.has (mH l) (.int .i64 (s:Int))=decide (s∈l):=by
 refine pt (P:=λl=>Maps.has (mH l) (.int .i64 (s:Int))=decide (s∈l)) ?_ ?_ l
 ·simp[mH,Maps.has]
 ·intro l c h;rw[nU];by_cases e:c=s
  ·subst e;rw[Maps.has_put_same (yg l) (Js _)];simp
  ·rw[Maps.has_put_other (by intro D;injection D with _ D;omega),h];simp[show¬s=c fromλh=>e h.symm]
theorem zU{x:Nat}(c:Nat):∀{l:List Nat},x∈l->ie x (l++[c])=ie x l
 |y::l,h=>by
  show(if y=x then 0 else ie x (l++[c])+1)=if y=x then 0 else ie x l+1
  by_cases e:y=x
  ·rw[if_pos e,if_pos e]
  ·rw[if_neg e,if_neg e,zU c (l:=l) (by rcases ji.1 h with h|h;exact absurd h.symm e;exact h)]
theorem uG{x:Nat}:∀{l:List Nat},x∉l->ie x (l++[x])=l.length
 |[],_=>by simp[ie]
 |y::l,h=>by
  show(if y=x then 0 else ie x (l++[x])+1)=_
  rw[if_neg (λe=>h (by rw[e];exact kE)),uG (l:=l) (λe=>h (ip _ e))];rfl
theorem OO(l)(s:Nat):l.Nodup->s∈l->(mH l).atKey (.int .i64 (s:Int)) (.lit (.int .i64 0))= .lit (.int .i64 (ie s l:Nat)):=by
 refine pt (P:=λl=>l.Nodup->s∈l->(mH l).atKey (.int .i64 (s:Int)) (.lit (.int .i64 0))= .lit (.int .i64 (ie s l:Nat))) ?_ ?_ l
 ·intro _ h;simp at h
 ·intro l c h O J;have I:=js.1 O;rw[nU];by_cases e:c=s
  ·subst e;rw[Maps.atKey_put_same (yg l) (Js _),uG (λD=>I.2.2 c D c (by simp) rfl)]
  ·have F:s∈l:=by
    rcases cH.1 J with D|D
    ·exact D
    ·simp at D;exact absurd D.symm e
   rw[Maps.atKey_put_other (by intro E;injection E with _ E;omega),h I.1 F,zU c F]
theorem Ey{P}{w}{t k e}(K:Maps.Keyed P k)(I:P.underlying k=some (.int .i64))(O:P.underlying t=some (.map k e))(D:P.underlying e=some (.int .i64))(Q:(zeroValue e).run P w= .ok (Ud 0) w){b n}{l}(h:w.ownsMap P k (plainElem P e) b n (mH l)){s:Nat}(J:s<=1000000):
 ∃u,(Instr.lookup t (.map (some b)) (Ud (s:Int)) true).run P w= .ok (.tuple #[Ud u,.bool (decide (s∈l))]) w:=by
 obtain⟨v,W,E,F⟩:=h.look_ok K O Q (plainElem_int D (by decide)) (Maps.keyOf_int_mk I (ka s J));obtain⟨x,rfl,U,_⟩:=plainElem_int_inv D F;exact⟨x,by rw[E,Mv]⟩
theorem Dd{P}{w}{t k e}(K:Maps.Keyed P k)(I:P.underlying k=some (.int .i64))(U:P.underlying t=some (.map k e))(F:P.underlying e=some (.int .i64))(W:(zeroValue e).run P w= .ok (Ud 0) w){b n}{l}(h:w.ownsMap P k (plainElem P e) b n (mH l)){s}(Q:s<=1000000)(O:l.Nodup)(J:s∈l):
 (Instr.lookup t (.map (some b)) (Ud (s:Int)) false).run P w= .ok (Ud (ie s l:Nat)) w:=by
 obtain⟨c,E,D,_⟩:=h.lookup_int K U F W (Maps.keyOf_int_mk I (ka s Q));rw[OO l s O J] at D;injection D with D
 injection D with _ D
 rw[E,D]
theorem vJ{w:World}{base base' e E s Q n m}{v v'}{xs ys}(h:w.ownsRow base e s v n xs)(I:w.ownsRow base' E Q v' m ys)(O:e≠E):v.ownBlock=none\/v.ownBlock≠v'.ownBlock:=by
 rcases h.2 with⟨rfl,_⟩|⟨g,cap,W,rfl,_,J,_⟩
 ·exact Or.inl rfl
 ·refine Or.inr ?_;rcases I.2 with⟨rfl,_⟩|⟨Z,U,Y,rfl,_,D,_⟩
  ·simp[Value.ownBlock]
  ·intro F;simp only[Value.ownBlock,aI] at F;subst F;rw[J] at D;simp at D;exact O D.2
theorem gm{w:World}{P}{k e B s n m}{R}{b}{D:DataW Unit}{v}{xs}(h:w.ownsRow B e s v n xs)(I:w.ownsMap P k R b m D):v.ownBlock≠some b:=by
 intro E;obtain⟨U,O,F,_⟩:=I;rcases h.2 with⟨rfl,_⟩|⟨g,cap,Q,rfl,_,J,_⟩
 ·cases E
 ·simp only[Value.ownBlock,aI] at E;subst E;rw[J] at F;cases F
end Go.Proofs.YtbdlbckeffakjaaGreatDoor
