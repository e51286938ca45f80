/- Shifts drawn: what the law of reports begins with. Conditions: the bytes lie in memory. -/
import Derived.Laws.AppendOwnNone
import Derived.Test.YtbdlbckeffakjaaGreatDoorResD
namespace Go.Proofs.YtbdlbckeffakjaaGreatDoor
set_option maxHeartbeats 4000000
set_option maxRecDepth 100000
open Go.Proofs.Tryz Go.RowKit
theorem xS(xs ys):ap (xs++ys)=ap xs++ap ys:=by simp[ap]
theorem Dg{w:World}{cs}{T}{D}(h:cs.toList=D)(j)(u)(E:D[j]? =some u):(w.alloc (.cells cs T)).cell? ⟨w.1.size,0+j,none⟩=some u:=by
 rw[aW,aL _ _ _ _ rfl,<-E,<-h];simp
theorem PV(L S:Nat)(a)(n c b)(G)(k:Nat)(w)(O:bA w b #[Ud L,Ud S,.slice a n c])(I:aO w a (n*3) (bC (dg G)))(F:fZ L S G)(U:n<=1048576)(h:fy L S (dg G)=true)(Q:k<=6):
 Calls prog 84 #[Ud k,.pointer (some ⟨b,0,none⟩)] w λe w'=>e= .returned (Ud (Kg G L S k))/\Below w.1.size w w':=by
 have D:=aa (uN L S a n c G k w I F U h Q);unfold xO at D;unfold Kg;obtain⟨y,E⟩:=aB (SE G (2^S-1) L k);rw[<-E] at D;rw[<-E];obtain⟨⟨Y,Z,a0⟩,_⟩:=O.c3;clear I F h E;go_enter func84,ntmps84;go_wp2_with fail;refine D.o.mono ?_;rintro e a1 ⟨g,W,rfl,J⟩;go_wp2;go_ret;exact⟨rfl,J⟩
theorem pY(L S)(a)(n c)(G)(w)(a3:aO w a (n*3) (bC (dg G)))(Y:fZ L S G)(m6:n<=1000000)(b0:fy L S (dg G)=true)(c6:qP w):
 Calls prog 17 #[.agg #[Ud L,Ud S,.slice a n c]] w λe w'=>e= .returned (.string (EB (cF (S:Int)) (cF (n:Int)) (ev L S (dg G)) (FJ (vj L S G)) (Oc (BR S L G)) (Sr L S G)))/\Below w.1.size w w':=by
 have b5:=aa (λ(V:World) (U:Below (w.1.size+1) (w.alloc (.cells #[Ud L,Ud S,.slice a n c] 35)) V)=>dT U);obtain⟨h,b2⟩:=aB (w.alloc (.cells #[Ud L,Ud S,.slice a n c] 35));have b1:Below w.1.size w h:=by rw[b2];exact aZ.alloc aQ _
 have m7:h.1.size=w.1.size+1:=by rw[b2];simp
 have k3:bA h w.1.size #[Ud L,Ud S,.slice a n c]:=by rw[b2];exact bA.new _ _ _
 rw[<-b2,<-m7] at b5;have o8:=Y.s12;have f6:=aa (λ(W:World) (J:Below w.1.size w W)=>iZ L S a n c (dg G) W (a3.below J aQ) (by omega));rw[b0] at f6;have f4:=aa (λ(W:World) (J:Below w.1.size w W)=>dU (S:Int) W ⟨by omega,by omega⟩ (gt c6 J aQ));have f3:=aa (λ(W:World) (J:Below w.1.size w W)=>dU (n:Int) W ⟨by omega,by omega⟩ (gt c6 J aQ));have d3:=aa (λ(W:World) (z:Nat) (e9:z<=1000) (J:Below w.1.size w W)=>dU (z:Int) W ⟨by omega,by omega⟩ (gt c6 J aQ));have k5:=wg (x:=(S:Int)) ⟨by omega,by omega⟩;have k4:=wg (x:=(n:Int)) ⟨by omega,by omega⟩;have k6:(dg G).length=n:=by have:=a3.len;rw[jF] at this;omega
 have d7:=aa (λ(W:World) (J:Below w.1.size w W)=>nX L S a n c (dg G) W (a3.below J aQ) (by omega));have k9:jS (dg G) n=ev L S (dg G):=by unfold ev;rw[b0,k6];rfl
 rw[k9] at d7;have a9:=aa (λ(W:World) (J:Below w.1.size w W)=>show Calls prog 80 #[.agg #[Ud L,Ud S,.slice a n c]] W λe w'=>e= .returned (FL (vj L S G))/\Below W.1.size W w' from by
  cases D:ev L S (dg G) with
  |true=>
   have:=rf L S a n c G W (a3.below J aQ) Y (by omega) D;unfold vj;rw[D];exact this
  |false=>
   have:=sq L S a n c (dg G) W (a3.below J aQ) (by omega) D;unfold vj;rw[D];exact this)
 have d6:=aa (λ(W:World) (J:Below w.1.size w W)=>qF L S a n c G W (a3.below J aQ) m6 b0 Y);have b9:=aa (λ(K:Nat->Bool) (e1:∀i,i<S->(K i=true↔qR G S i))=>CO (L:=L) Y e1);have a6:=aa (λ(s:Nat) (A:List (Nat×Nat×Nat)) (m3:nO (An G S) S G L=some (s,A))=>xb Y m3);have a5:=aa (λ(W:World) (J:Below h.1.size h W)=>tE 0 5 6 84 (.pointer (some ⟨w.1.size,0,none⟩)) (Kg G L S) W rfl (by omega) (λi V d8 d9 U=>PV L S a n c w.1.size G i V ((k3.below J).below U) ((a3.below (b1.trans (J.mono b1.size)) aQ).below U (by have:=b1.size;have:=J.size;omega)) Y (by omega) b0 (by omega)) (λx w=>Tryz.call84 _ w) (λi d8 d9=>IO Y.k3 (by omega)) (gt c6 (b1.trans (J.mono b1.size)) aQ));rw[show dv ((fz (Kg G L S) 0 6).map cF) ⟨#[44]⟩=Sr L S G from rfl] at a5;have i1:=zv Y;have h9:=CD (BR S L G) (Kc Y);have k8:=Gl (S:=S) Y.k3 G;have e5:BR S L G=(nO (An G S) S G L).map λp=>wm p.2 L p.1:=rfl
 obtain⟨I,h4⟩:=aB (cF (S:Int));obtain⟨F,h3⟩:=aB (cF (n:Int));obtain⟨rs,h8⟩:=aB (ev L S (dg G));obtain⟨a4,i2⟩:=aB (vj L S G);obtain⟨b6,l0⟩:=aB (nO (An G S) S G L);obtain⟨n4,i0⟩:=aB (BR S L G);obtain⟨a0,h7⟩:=aB (Sr L S G);rw[<-h4] at f4 k5;rw[<-h3] at f3 k4;rw[<-h8] at d7;rw[<-i2] at a9 i1;rw[<-l0] at b9 a6 e5;rw[<-i0] at h9 e5;rw[<-h7] at a5 k8;rw[<-h4,<-h3,<-h8,<-i2,<-i0,<-h7];have a7:=aa e5;have b7:=aa b1;obtain⟨⟨m8,m9,n0⟩,_⟩:=b5.o h aZ;clear a3 Y b0 h4 h3 h8 i2 l0 i0 h7 e5 b1 c6 k6 k9 k3;obtain⟨st,e6⟩:=aB (FJ a4);rw[<-e6] at i1;rw[<-e6];have b8:=aa (λW=>Ke (⟨(a4.getD []).toArray⟩:ByteArray) W);obtain⟨j8,h2⟩:=aB (mi (⟨(a4.getD []).toArray⟩:ByteArray));rw[<-h2] at b8;have c1:=aa (show st=if a4.isSome=true then j8 else⟨#[45]⟩ from by
  rw[e6,h2];cases a4<;>rfl)
 unfold FL at a9;obtain⟨p2,l1⟩:=aB ((⟨(a4.getD []).toArray⟩:ByteArray));rw[<-l1] at b8 a9;obtain⟨m2,c5⟩:=aB a4.isSome;rw[<-c5] at c1 a9;clear e6 h2 l1 c5 a4;obtain⟨Q,e7⟩:=aB (Oc n4);rw[<-e7] at h9;rw[<-e7];have a8:=aa e7;clear e7;have d4:=aa (show(Lib.join ((nY I F rs++[rz,st,jz,Q,ox,a0]).map mW) [32]).length<=1000000000 from by
  have d8:=Ay (nY I F rs++[rz,st,jz,Q,ox,a0]) ⟨#[32]⟩;have d9:=Kx I F rs st Q a0;unfold EB at d9;rw[d9] at d8;show(Lib.join ((nY I F rs++[rz,st,jz,Q,ox,a0]).map mW) (⟨#[32]⟩:ByteArray).1.1).length<=1000000000
  rw[<-d8];have o6:(uf I F rs).size<=100:=by
   cases rs
   ·show(⟨#[115,116,97,116,101,115,32]⟩++I++⟨#[32,97,114,99,115,32]⟩++F:ByteArray).size<=100
    simp only[aK];show 7+I.size+6+F.size<=100
    omega
   ·show(⟨#[115,116,97,116,101,115,32]⟩++I++⟨#[32,97,114,99,115,32]⟩++F++⟨#[32,114,101,115,111,108,118,105,110,103]⟩:ByteArray).size<=100
    simp only[aK];show 7+I.size+6+F.size+10<=100
    omega
  simp only[aK];show(uf I F rs).size+6+st.size+10+Q.size+7+a0.size<=1000000000
  omega)
 have c2:=aa (show EB I F rs st Q a0=dv (nY I F rs++[rz,st,jz,Q,ox,a0]) ⟨#[32]⟩ from rfl);obtain⟨o4,h0⟩:=aB (EB I F rs st Q a0);rw[<-h0] at c2;rw[<-h0];have j1:=aa (show nY I F true=nY I F false++[rB] from rfl);have l7:=aa (show nY I F false=[rA,I,zu,F] from rfl);clear h0 k5 k4 i1 h9 k8;go_enter func17,ntmps17;go_wp2_with(rw[<-b2]);first|rw[<-b2]|skip
 clear b2 m8 m9 n0;refine(f6.o _ b7.o).mono ?_;rintro e n5 ⟨rfl,c5⟩;have E:=aa c5;clear c5 f6;have O:Below h.1.size h n5.drew:=E.o.drew;have f8:=aa (λ(V:World) (U:Below h.1.size h V)=>show V.cell? ⟨w.1.size,0,none⟩=some (Ud L)/\V.cell? ⟨w.1.size,1,none⟩=some (Ud S)/\V.cell? ⟨w.1.size,2,none⟩=some (.slice a n c)/\Below h.1.size h V from by
  obtain⟨⟨n1,n2,n3⟩,_⟩:=b5.o V U;exact⟨n1,n2,n3,U⟩)
 have j2:=aa (λ(V:World) (U:Below h.1.size h V) (cs:Array Value) (T:TypeId)=>f8.o (V.alloc (.cells cs T)) (U.alloc U.size _));have f2:=aa (λ(V:World) (U:Below h.1.size h V)=>show Below w.1.size w V from b7.o.trans (U.mono b7.o.size));go_wp2;go_region_held3(λV=>V.cell? ⟨w.1.size,0,none⟩=some (Ud L)/\V.cell? ⟨w.1.size,1,none⟩=some (Ud S)/\V.cell? ⟨w.1.size,2,none⟩=some (.slice a n c)/\Below h.1.size h V)
  (first|with_reducible exact f8.o _ O|with_reducible exact j2.o _ O _ _)
  (first|(go_at_call_of 42 S;refine(f4.o _ (f2.o _ O)).mono ?_;rintro e p6 ⟨rfl,b3⟩;have O:=O.trans (b3.mono O.size))|(go_at_call_of 42 n;refine(f3.o _ (f2.o _ O)).mono ?_;rintro e d0 ⟨rfl,k1⟩;have O:=O.trans (k1.mono O.size)))
 have a1:=aa (show(d0.alloc (.cells #[.string ⟨#[115,116,97,116,101,115]⟩,.string I,.string ⟨#[97,114,99,115]⟩,.string F] 9)).ownsRow h.1.size 9 1 (.slice (some ⟨d0.1.size,0,none⟩) 4 4) 4 (ap (nY I F false)) from bd (w:=d0) (base:=h.1.size) (e:=9) #[.string ⟨#[115,116,97,116,101,115]⟩,.string I,.string ⟨#[97,114,99,115]⟩,.string F] _ rfl O.size (by unfold maxLen;simp));have E:=aa (O.alloc O.size (.cells #[.string ⟨#[115,116,97,116,101,115]⟩,.string I,.string ⟨#[97,114,99,115]⟩,.string F] 9));obtain⟨o5,h1⟩:=aB (d0.alloc (.cells #[.string ⟨#[115,116,97,116,101,115]⟩,.string I,.string ⟨#[97,114,99,115]⟩,.string F] 9));rw[<-h1] at a1 E;rw[<-h1];clear h1 b3 k1 f8 j2 f4 f3 O l7;obtain⟨⟨c7,c8,c9⟩,_,Z⟩:=b5.o _ E.o;go_wp2_with fail;clear c7 c8 c9;refine(d7.o _ Z).mono ?_;rintro e n7 ⟨rfl,D⟩;have c0:=aa (ai a1.o D);clear a1;have E:=aa (E.o.trans (D.mono E.o.size));clear D Z;clear d7;go_upto_if 25 with fail
 go_cut[3] from 26 to 28 (λv b4=>∃m g c4:Nat,v= .slice (some ⟨g,0,none⟩) m c4/\bv ((nY I F rs).length=m)/\bv (m<=5)/\bv (b4.ownsRow h.1.size 9 1 (.slice (some ⟨g,0,none⟩) m c4) m (ap (nY I F rs)))/\bv (Below h.1.size h b4))
 case first=>
  clear a9 d6 b9 a6 a5 a7 d3 b8 c1 a8 d4 c2;have i3:=E.o.size;cases rs
  ·go_wp2;go_meet;case rel=>exact⟨4,_,4,rfl,aa rfl,aa (by omega),c0,E⟩
  ·have c3:=aa (c0.o.alloc (.cells #[.string ⟨#[114,101,115,111,108,118,105,110,103]⟩] 9));go_wp2_with(first|(at_builtin;go_must(refine aX rfl _ _ 26 rfl h.1.size 9 (.string ByteArray.empty) 16 underlying26 mz rfl d0.1.size 4 4 _ c3.o rfl n7.1.size 0 1 1 [.string ⟨#[114,101,115,111,108,118,105,110,103]⟩] rfl rfl (Dg rfl) (by intro u e8;simp at e8;subst e8;rfl) (by omega) (by unfold maxLen;omega) (by simp;omega) ?_);intro g7 g5 i4 e4 h5 m4 m5));have b3:Below h.1.size h i4:=(E.o.alloc i3 _).grown h5 (by simp;omega) (by rintro k ⟨⟩;exact(c3.o.lt _ rfl).1);go_meet;case rel=>exact⟨5,g7,g5,rfl,aa rfl,aa (by omega),aa (by rw[j1.o,xS];exact e4),aa b3⟩
 case rest=>
  obtain⟨m,g,c4,rfl,l9,l8,a1,E⟩:=hcut;have c0:=a1;clear a1 j1;obtain⟨⟨c7,c8,c9⟩,_,Z⟩:=b5.o _ E.o;go_wp2_with fail;clear c7 c8 c9;refine(a9.o _ Z).mono ?_;rintro e i4 ⟨rfl,D⟩;have j4:=aa (ai c0.o D);clear c0;have E:=aa (E.o.trans (D.mono E.o.size));clear D Z;clear a9;go_upto_if 34 with fail
  go_cut[4] from 35 to 36 (λn8 b4=>n8= .string st/\bv (b4=i4))
  case first=>
   clear d6 b9 a6 a5 a7 d3 a8 d4 c2;cases m2
   ·have a2:=aa (show st=⟨#[45]⟩ from c1.o);go_wp2;go_meet;case rel=>exact⟨by rw[a2.o],aa rfl⟩
   ·have a2:=aa (show st=j8 from c1.o);go_wp2_with fail;refine(b8.o _).mono ?_;rintro e p7 ⟨rfl,rfl⟩;go_wp2;go_meet;case rel=>exact⟨by rw[a2.o],aa rfl⟩
  case rest=>
   obtain⟨rfl,j6⟩:=hcut;have J:=j6.o;subst J;clear c1 b8 j6;obtain⟨⟨c7,c8,c9⟩,_,Z⟩:=b5.o _ E.o;go_wp2_with fail;clear c7 c8 c9;refine(d6.o _ Z).mono ?_;rintro e f0 ⟨K,e1,g8,g6,rfl,h6,D⟩;have f7:=aa (b9.o K e1);rw[f7.o] at h6;rw[f7.o];have l6:=aa (Z.trans (D.mono Z.size));have j5:=aa (ai j4.o D);clear j4;have E:=aa (E.o.trans (D.mono E.o.size));clear D Z;clear d6 b9 f7 e1;have d5:=aa h6;clear h6;unfold yL;obtain⟨g3,g9⟩:=aB (α:=Nat) (if b6.isSome=true then L else 0);rw[<-g9];have j3:=aa g9;clear g9;obtain⟨g4,e2⟩:=aB (f0.alloc (.cells #[Ud (g3:Int),Ud ((b6.getD (0,[])).1:Nat),.slice g8 (b6.getD (0,[])).2.length g6] 35));have e3:Below f0.1.size f0 g4:=by rw[e2];exact aZ.alloc aQ _
   have g2:=aa (show bA g4 f0.1.size #[Ud (g3:Int),Ud ((b6.getD (0,[])).1:Nat),.slice g8 (b6.getD (0,[])).2.length g6] by rw[e2];exact bA.new _ _ _);have d2:=aa (E.o.trans (e3.mono E.o.size));have g0:=aa (ai j5.o e3);have j7:=aa e2;have k2:=e3;clear e2 e3 j5;obtain⟨⟨i5,i6,i7⟩,_⟩:=g2.o.c3;go_upto_if 42 with fail
   first|rw[<-j7.o]|trace_state
   go_cut[5,10,11] from 43 to 50 (λn9 _ _ b4=>n9= .string Q/\bv (b4.ownsRow h.1.size 9 1 (.slice (some ⟨g,0,none⟩) m c4) m (ap (nY I F rs)))/\bv (Below h.1.size h b4))
   case first=>
    clear a5 d4 c2;cases b6 with
    |none=>
     have a2:=aa (show Q=⟨#[45]⟩ from by rw[a8.o,a7.o];rfl);clear a8 a7 a6 d5;simp only[iT];go_wp2;go_meet;case rel=>exact⟨by rw[a2.o],g0,d2⟩
    |some p=>
     obtain⟨s,A⟩:=p;obtain rfl:L=g3:=j3.o.symm;obtain⟨e0,k0,o7⟩:=a6.o s A rfl;have k7:=oI d5.o (by show A.length*3<=_;omega);have g1:=aa (pW L s g8 A.length g6 A g4 (k7.below k2 aQ) (by omega) k0 e0);unfold wG at g1;have j0:=aa (λt (b0:jR A L s t)=>KY e0 b0);have a2:=aa (show Q=cF (wm A L s:Nat) from by rw[a8.o,a7.o];rfl);have o9:=ET A L s;have p1:=e0.s12;simp only[eF,ci,if_true] at i5 i6 i7;clear a8 a7 a6 d5 e0 k0 k7 g2;simp only[eF,ci,if_true];go_wp2_with fail;refine g1.o.mono ?_;rintro e p3 ⟨t,l3,c',j9,l2,rfl,D⟩;have i9:=aa (j0.o t l2);rw[i9.o];have i8:=aa (d2.o.trans (D.mono d2.o.size));have m0:=aa (ai g0.o D);have f5:=aa (λW J=>d3.o W (wm A L s) (by omega) J);rw[<-a2.o] at f5;obtain⟨z,e9⟩:=aB (wm A L s);rw[<-e9] at f5;rw[<-e9];clear e9 i9 j0 g1 a2 D l2 i5 i6 i7 d3;have f1:=aa (i8.o.alloc i8.o.size (.cells #[Ud L,Ud z,.slice j9 l3 c'] 35));have m1:=aa (m0.o.alloc (.cells #[Ud L,Ud z,.slice j9 l3 c'] 35));go_wp2_with fail;refine(f5.o _ (f2.o _ f1.o)).mono ?_;rintro e p4 ⟨rfl,D⟩;have d1:=aa (f1.o.trans (D.mono f1.o.size));have f9:=aa (ai m1.o D);go_wp2;go_meet;case rel=>exact⟨rfl,f9,d1⟩
   case rest=>
    obtain⟨rfl,a1,E⟩:=hcut;clear j3 a8 a7 a6 d5 g2 d2 i5 i6 i7 l6 k2 j7 g0;go_wp2_with fail;refine(a5.o _ E.o).mono ?_;rintro e n6 ⟨rfl,D⟩;have d1:=aa (E.o.trans (D.mono E.o.size));have f9:=aa (ai a1.o D);have i3:=d1.o.size;have p0:=l8.o;have c3:=aa (f9.o.alloc (.cells #[.string ⟨#[115,121,110,99]⟩,.string st,.string ⟨#[115,109,97,108,108,101,115,116]⟩,.string Q,.string ⟨#[119,111,114,100,115]⟩,.string a0] 9));clear E a1 D a5;go_wp2_with(first|(at_builtin;go_must(refine aX rfl _ _ 26 rfl h.1.size 9 (.string ByteArray.empty) 16 underlying26 mz rfl g c4 m _ c3.o rfl n6.1.size 0 6 6 (ap [rz,st,jz,Q,ox,a0]) rfl rfl (Dg rfl) (by intro u e8;obtain⟨x,_,rfl⟩:=bi.1 e8;rfl) (by omega) (by unfold maxLen;omega) (by simp;omega) ?_);intro g7 g5 l4 e4 h5 m4 m5));have b3:Below h.1.size h l4:=(d1.o.alloc i3 _).grown h5 (by simp;omega) (by rintro k ⟨⟩;exact(c3.o.lt _ rfl).1);rw[<-xS] at e4;refine(xp h.1.size g7 g5 (m+6) _ l4 (by rw[az,l9.o];rfl) e4 (by omega) d4.o).mono ?_;rintro e p5 ⟨rfl,D⟩;have l5:=aa (b7.o.trans ((b3.trans (D.mono b3.size)).mono b7.o.size));go_wp2;go_ret;exact⟨by rw[c2.o];rfl,l5.o⟩
theorem Fa{t:ByteArray}(h:t.1.1≠[]):(t.toList==ByteArray.toList ⟨#[]⟩)=false:=by
 rw[Lib.toList_data,Lib.toList_data];simpa using h
theorem tu(x)(xs)(sep)(h:x.1.1≠[]):(dv (x::xs) sep).1.1≠[]:=by
 unfold dv;rw[ej,Lib.join_cons];simp[mW];intro e;exact absurd (by simp[e]) h
theorem qv(a)(n c)(M)(w)(E:bZ w a n M)(h:kX M=false):
 Calls prog 12 #[.slice a n c] w λe w'=>e= .returned (.string ⟨#[]⟩)/\Below w.1.size w w':=by
 have D:=aa (fu a n c M w E);rw[h] at D;go_enter func12,ntmps12;go_wp2_with fail;refine D.o.mono ?_;rintro e w' ⟨rfl,rfl⟩;go_wp2;go_ret;exact⟨rfl,aZ⟩
theorem qH(a)(n c)(M)(w)(O:bZ w a n M)(h:kX M=false):
 Calls prog 11 #[.slice a n c] w λe w'=>e= .returned (.string ⟨#[]⟩)/\Below w.1.size w w':=by
 obtain⟨E,D⟩:=aB (w.alloc (.cells #[.slice a n c] 24));have F:Below w.1.size w E:=by rw[D];exact aZ.alloc aQ _
 have J:bA E w.1.size #[.slice a n c]:=by rw[D];exact bA.new _ _ _
 have U:=J.cell 0;have I:=aa (gI a n c M E (O.below F aQ));rw[h] at I;have Q:=aa F;clear O F h J;go_enter func11,ntmps11;go_wp2_with(rw[<-D]);first|rw[<-D]|skip
 clear D;refine I.o.mono ?_;rintro e W ⟨rfl,rfl⟩;go_wp2;go_ret;exact⟨rfl,Q.o⟩
theorem PX(M)(n):∃t,(t.toList==ByteArray.toList ⟨#[]⟩)=(!kX M)/\(∀(w:World) (a:Option Addr) (c:Nat),bZ w a n M->Calls prog 12 #[.slice a n c] w λe w'=>e= .returned (.string t)/\Below w.1.size w w')/\∀(w:World) (a:Option Addr) (c:Nat),bZ w a n M->qP w->Calls prog 11 #[.slice a n c] w λe w'=>e= .returned (.string t)/\Below w.1.size w w':=by
 cases h:kX M
 ·exact⟨⟨#[]⟩,by simp,λw a c D=>qv a n c M w D h,λw a c D _=>qH a n c M w D h⟩
 ·exact⟨_,Fa (tu _ _ _ (by decide)),λw a c D=>po a n c M w D h,λw a c D E=>pX a n c M w D h E⟩
theorem rc(L)(a)(n c)(ss)(w)(Q:aO w a n (ap ss))(U:∀s∈ss,s.size<=maxLen)(h:iE L ss=false):
 Calls prog 14 #[.agg #[Ud L,.slice a n c]] w λe w'=>e= .returned (.string ⟨#[]⟩)/\Below w.1.size w w':=by
 obtain⟨E,D⟩:=aB (w.alloc (.cells #[Ud L,.slice a n c] 28));have F:Below w.1.size w E:=by rw[D];exact aZ.alloc aQ _
 have I:bA E w.1.size #[Ud L,.slice a n c]:=by rw[D];exact bA.new _ _ _
 have Y:=I.cell 0;have Z:=I.cell 1;have O:=aa (nM L a n c ss E (Q.below F aQ) U);rw[h] at O;have J:=aa F;go_enter func14,ntmps14;go_wp2_with(rw[<-D]);first|rw[<-D]|skip
 refine O.o.mono ?_;rintro e a0 ⟨rfl,W⟩;go_wp2;go_ret;exact⟨rfl,J.o.trans (W.mono J.o.size)⟩
theorem rh(L)(a)(n c)(ss)(w)(Q:aO w a n (ap ss))(U:∀s∈ss,s.size<=maxLen)(h:iE L ss=false):
 Calls prog 13 #[.agg #[Ud L,.slice a n c]] w λe w'=>e= .returned (.string ⟨#[]⟩)/\Below w.1.size w w':=by
 obtain⟨E,D⟩:=aB (w.alloc (.cells #[Ud L,.slice a n c] 28));have F:Below w.1.size w E:=by rw[D];exact aZ.alloc aQ _
 have I:bA E w.1.size #[Ud L,.slice a n c]:=by rw[D];exact bA.new _ _ _
 have Y:=I.cell 0;have Z:=I.cell 1;have O:=aa (AL L a n c ss E (Q.below F aQ) U);rw[h] at O;have J:=aa F;go_enter func13,ntmps13;go_wp2_with(rw[<-D]);first|rw[<-D]|skip
 refine O.o.mono ?_;rintro e a0 ⟨rfl,W⟩;go_wp2;go_ret;exact⟨rfl,J.o.trans (W.mono J.o.size)⟩
theorem PW(L)(ss)(n)(I:∀s∈ss,s.size<=maxLen):∃t,(t.toList==ByteArray.toList ⟨#[]⟩)=(!iE L ss)/\(∀(w:World) (a:Option Addr) (c:Nat),aO w a n (ap ss)->Calls prog 14 #[.agg #[Ud L,.slice a n c]] w λe w'=>e= .returned (.string t)/\Below w.1.size w w')/\∀(w:World) (a:Option Addr) (c:Nat),aO w a n (ap ss)->Bu w->Calls prog 13 #[.agg #[Ud L,.slice a n c]] w λe w'=>e= .returned (.string t)/\Below w.1.size w w':=by
 cases h:iE L ss
 ·exact⟨⟨#[]⟩,by simp,λw a c D=>rc L a n c ss w D I h,λw a c D _=>rh L a n c ss w D I h⟩
 ·obtain⟨k,rfl,F⟩:=Ad h;exact⟨_,Fa (tu _ _ _ (by decide)),λw a c D=>qu k a n c ss w D F,λw a c D E=>qG k a n c ss w D F E.max E.tab⟩
theorem rN(k n)(o)(w)(I:o.size<=maxLen)(h:du k n o=false):
 Calls prog 16 #[.agg #[Ud k,Ud n,.string o]] w λe w'=>e= .returned (.string ⟨#[]⟩)/\Below w.1.size w w':=by
 have D:=aa (λw:World=>gh k n o w I);rw[h] at D;go_enter func16,ntmps16;go_wp2_with fail;refine(D.o _).mono ?_;rintro e J ⟨rfl,E⟩;have F:Below w.1.size w J:=(aZ.alloc aQ _).trans (E.mono (by simp));go_wp2;go_ret;exact⟨rfl,F⟩
theorem sw(k n)(o)(w)(I:o.size<=maxLen)(h:du k n o=false):
 Calls prog 15 #[.agg #[Ud k,Ud n,.string o]] w λe w'=>e= .returned (.string ⟨#[]⟩)/\Below w.1.size w w':=by
 have D:=aa (λw:World=>jf k n o w I);rw[h] at D;go_enter func15,ntmps15;go_wp2_with fail;refine(D.o _).mono ?_;rintro e J ⟨rfl,E⟩;have F:Below w.1.size w J:=(aZ.alloc aQ _).trans (E.mono (by simp));go_wp2;go_ret;exact⟨rfl,F⟩
theorem RS(k n)(o)(D:o.size<=maxLen):∃t,(t.toList==ByteArray.toList ⟨#[]⟩)=(!du k n o)/\(∀w,Calls prog 16 #[.agg #[Ud k,Ud n,.string o]] w λe w'=>e= .returned (.string t)/\Below w.1.size w w')/\∀w,qP w->Calls prog 15 #[.agg #[Ud k,Ud n,.string o]] w λe w'=>e= .returned (.string t)/\Below w.1.size w w':=by
 cases h:du k n o
 ·exact⟨⟨#[]⟩,by simp,λw=>rN k n o w D h,λw _=>sw k n o w D h⟩
 ·obtain⟨E,F,rfl,rfl,_⟩:=mj h;obtain⟨b,I,_⟩:=SN λw=>mZ E F o w D h
  exact⟨_,Fa (tu _ _ _ (by cases uJ o E F<;>simp[ug])),λw=>re E F o b I w D h,λw J=>rk E F o b I w D h J⟩
theorem qw(L S)(a)(n c)(A)(w)(Q:aO w a (n*3) (bC A))(a0:n<=1048576)(h:fy L S A=false):
 Calls prog 18 #[.agg #[Ud L,Ud S,.slice a n c]] w λe w'=>e= .returned (.string ⟨#[]⟩)/\Below w.1.size w w':=by
 have I:=aa (λ(V:World) (U:Below (w.1.size+1) (w.alloc (.cells #[Ud L,Ud S,.slice a n c] 35)) V)=>dT U);obtain⟨F,D⟩:=aB (w.alloc (.cells #[Ud L,Ud S,.slice a n c] 35));have O:Below w.1.size w F:=by rw[D];exact aZ.alloc aQ _
 have a1:F.1.size=w.1.size+1:=by rw[D];simp
 rw[<-D,<-a1] at I;have J:=aa (λ(W:World) (Y:Below w.1.size w W)=>fJ L S a n c A W (Q.below Y aQ) a0);rw[h] at J;obtain⟨⟨a2,a3,a4⟩,_⟩:=I.o F aZ;have E:=aa O;go_enter func18,ntmps18;go_wp2_with(rw[<-D]);first|rw[<-D]|skip
 refine(J.o _ E.o).mono ?_;rintro e a5 ⟨rfl,Z⟩;go_wp2;go_ret;exact⟨rfl,E.o.trans (Z.mono E.o.size)⟩
theorem qI(L S)(a)(n c)(A)(w)(Q:aO w a (n*3) (bC A))(a0:n<=1048576)(h:fy L S A=false):
 Calls prog 17 #[.agg #[Ud L,Ud S,.slice a n c]] w λe w'=>e= .returned (.string ⟨#[]⟩)/\Below w.1.size w w':=by
 have I:=aa (λ(V:World) (U:Below (w.1.size+1) (w.alloc (.cells #[Ud L,Ud S,.slice a n c] 35)) V)=>dT U);obtain⟨F,D⟩:=aB (w.alloc (.cells #[Ud L,Ud S,.slice a n c] 35));have O:Below w.1.size w F:=by rw[D];exact aZ.alloc aQ _
 have a1:F.1.size=w.1.size+1:=by rw[D];simp
 rw[<-D,<-a1] at I;have J:=aa (λ(W:World) (Y:Below w.1.size w W)=>iZ L S a n c A W (Q.below Y aQ) a0);rw[h] at J;obtain⟨⟨a2,a3,a4⟩,_⟩:=I.o F aZ;have E:=aa O;go_enter func17,ntmps17;go_wp2_with(rw[<-D]);first|rw[<-D]|skip
 refine(J.o _ E.o).mono ?_;rintro e a5 ⟨rfl,Z⟩;go_wp2;go_ret;exact⟨rfl,E.o.trans (Z.mono E.o.size)⟩
def Fe(a:Int×Int×Int):Int:=(a.1*3+a.2.2)*12+a.2.1
theorem Il{L S:Int}{A:List (Int×Int×Int)}(F:L<=3)(I:S<=12){n:Nat}(h:gS L S A n=true):∀k,k<n->(k:Int)<=Fe (qg A k)
 |0,hk=>by
  have:=mp h 0 hk;unfold ij sM at this;simp only[aC,eT] at this;unfold Fe;omega
 |k+1,hk=>by
  have O:=Il F I h k (by omega);have D:=mp h (k+1) hk;have E:=mp h k (by omega);unfold ij sM at D E;simp only[aC,eT] at D E;have J:=D.2;rw[show k+1-1=k by omega,show(k+1==0)=false by simp,Bool.false_or,Ig] at J;unfold Fe at O⊢;omega
theorem Pj{L S}{A}(h:fy L S A=true):A.length<=1000000:=by
 unfold fy at h;simp only[aC,eT] at h;obtain⟨⟨J,O⟩,D⟩:=h;rcases dN A.length with F|F
 ·omega
 ·have I:=Il (by omega) (by omega) D (A.length-1) (by omega);have E:=mp D (A.length-1) (by omega);unfold ij sM at E;simp only[aC,eT] at E;unfold Fe at I;omega
theorem PY(L S)(A)(n)(J:A.length=n)(F:n<=1048576):∃t,(t.toList==ByteArray.toList ⟨#[]⟩)=(!fy L S A)/\(∀(w:World) (a:Option Addr) (c:Nat),aO w a (n*3) (bC A)->Calls prog 18 #[.agg #[Ud L,Ud S,.slice a n c]] w λe w'=>e= .returned (.string t)/\Below w.1.size w w')/\∀(w:World) (a:Option Addr) (c:Nat),aO w a (n*3) (bC A)->qP w->Calls prog 17 #[.agg #[Ud L,Ud S,.slice a n c]] w λe w'=>e= .returned (.string t)/\Below w.1.size w w':=by
 cases h:fy L S A
 ·exact⟨⟨#[]⟩,by simp,λw a c D=>qw L S a n c A w D F h,λw a c D _=>qI L S a n c A w D F h⟩
 ·have O:=Pj h;obtain⟨k,s,G,rfl,rfl,rfl,E⟩:=MQ h;refine⟨_,Fa ?_,λw a c D=>pr k s a n c G w D E (by omega) h,λw a c D I=>pY k s a n c G w D E (by omega) h I⟩;unfold EB nY;split<;>exact tu _ _ _ (by decide)
def Kp(w:World)(P:World->Prop):Prop:=∀V,Below w.1.size w V->P V
theorem Kp.mv{w w'}{P}(h:Kp w P)(D:Below w.1.size w w'):Kp w' P:=λV E=>h V (D.trans (E.mono D.size))
theorem Kp.now{w}{P}(h:Kp w P):P w:=h w aZ
theorem Kp.and{w}{P Q}(h:Kp w P)(g:Kp w Q):Kp w λV=>P V/\Q V:=λV D=>⟨h V D,g V D⟩
theorem Aw{w}{a}{n}{xs}(h:aO w a n xs):Kp w λV=>aO V a n xs:=λ_ D=>h.below D aQ
theorem SY{w}{a}{n}{xs}(h:bZ w a n xs):Kp w λV=>bZ V a n xs:=λ_ D=>h.below D aQ
theorem RA{w}(h:Bu w):Kp w Bu:=λ_ D=>Jo h D aQ
theorem SZ(w):Kp w λV=>Below w.1.size w V:=λ_ h=>h
theorem RB(w:World)(x y)(T):Kp (w.alloc (.cells #[x,y] T)) λV=>V.cell? ⟨w.1.size,0,none⟩=some x/\V.cell? ⟨w.1.size,1,none⟩=some y:=λV h=>
 ⟨(h.cell (p:=⟨w.1.size,0,none⟩) (by simp)).trans (aL _ _ _ _ rfl),(h.cell (p:=⟨w.1.size,1,none⟩) (by simp)).trans (aL _ _ _ _ rfl)⟩
theorem KB(w:World)(x y z)(T):Kp (w.alloc (.cells #[x,y,z] T)) λV=>V.cell? ⟨w.1.size,0,none⟩=some x/\V.cell? ⟨w.1.size,1,none⟩=some y/\V.cell? ⟨w.1.size,2,none⟩=some z:=λV h=>
 ⟨(h.cell (p:=⟨w.1.size,0,none⟩) (by simp)).trans (aL _ _ _ _ rfl),(h.cell (p:=⟨w.1.size,1,none⟩) (by simp)).trans (aL _ _ _ _ rfl),(h.cell (p:=⟨w.1.size,2,none⟩) (by simp)).trans (aL _ _ _ _ rfl)⟩
theorem JI(w)(o):Below w.1.size w (w.alloc o):=aZ.alloc aQ _
theorem Kp.mono{w}{P Q}(h:Kp w P)(g:∀V,P V->Q V):Kp w Q:=λV D=>g V (h V D)
theorem fh{w w':World}{B e m g}{v}{xs}(h:w.ownsRow B e 1 v m xs)(D:w.grownBy w' (some g))(E:g<B):w'.ownsRow B e 1 v m xs:=
 h.kept D (by
  cases hv:v.ownBlock with
  |none=>exact .inl rfl
  |some q=>
   refine .inr λe=> ?_
   injection e with e
   have:=(h.lt q hv).1;omega)
theorem CX{w:World}{base e n}{v}{xs}(h:w.ownsRow base e 1 v n xs)(J:0<n):∃g cap,v= .slice (some ⟨g,0,none⟩) n cap/\base<=g/\g<w.1.size:=by
 rcases h.2 with⟨rfl,I⟩|⟨g,cap,F,rfl,D,E,_⟩
 ·omega
 ·exact⟨g,cap,rfl,D,(bD.1 E).1⟩
theorem Pv:(prog.info? 9).map (λi=>(i.zero,i.size,i.bytes))=some (some (.string ByteArray.empty),1,16):=by kernel_rfl
def Bw(W w:World)(g:Nat)(a:Option Addr)(n c:Nat)(bs:List UInt8)(e:Ending)(w':World):Prop:=
 ∃v xs,e= .returned v/\w'.ownsRow w.1.size 3 1 v xs.length (af xs)/\xs.length<=6/\(∀x∈xs,-1000001<=x/\x<=1000000)/\je W w w' g a n c bs
theorem yl{xs}{y}(h:∀x∈xs,-1000001<=x/\x<=1000000)(E: -1000001<=y/\y<=1000000):∀x∈xs++[y],-1000001<=x/\x<=1000000:=λx D=>by
 rcases cH.1 D with D|D
 ·exact h x D
 ·simp at D;subst D;exact E
theorem Pk(W w)(g)(a)(n c)(bs)(a3:Bz W w g a n c bs):
 Calls prog 32 #[.pointer (some ⟨g,0,none⟩)] w (Bw W w g a n c bs):=by
 have a6:g<w.1.size/\W.1.size<=w.1.size:=by obtain⟨i,k,x⟩:=a3;exact⟨x.hi,x.bel.size⟩
 have Y:=aa (a3.drew0.alloc (.cells #[] 3));have b2:=aa (show(w.alloc (.cells #[] 3)).ownsRow w.1.size 3 1 (.slice (some ⟨w.1.size,0,none⟩) 0 0) 0 (af []) from xg #[] _ rfl aQ (by unfold maxLen;simp));have a9:=aa (dF W _ g a n c bs 5 Y.o.1 (by omega) (by omega));have E:=a6.1;have b7:=a6.2;unfold Bw;go_enter func32,ntmps32;go_wp2_with fail;refine a9.o.mono ?_;rintro e e2 ⟨x,rfl,d0,h⟩;have b0:=aa (Y.o.trans h);have b3:=aa (fh b2.o h.2 E);go_wp2;go_loopw[3,4] (λv i wr=>∃(j m:Nat) (xs:List Int) (q a2:Nat),i= Ud j/\v= .slice (some ⟨q,0,none⟩) m a2/\xs.length=m/\j+m<=5/\(∀x∈xs,-1000001<=x/\x<=1000000)/\wr.ownsRow w.1.size 3 1 (.slice (some ⟨q,0,none⟩) m a2) m (af xs)/\je W w wr g a n c bs) (λ_ i _=>(intOf i).toNat);exact⟨x,0,[],w.1.size,0,rfl,rfl,rfl,by omega,by simp,b3.o,b0.o⟩;obtain⟨j,m,xs,q,a2,rfl,rfl,b9,b8,c1,a7,h⟩:=hrel;have I:=aa b9;have a1:=aa c1;have a0:=aa a7;have U:=aa h;have d8:w.1.size<=wr.1.size:=h.2.size;by_cases d6:0<j
 ·have Q:=aa (dF W wr g a n c bs 9 h.1 (by omega) (by omega));go_wp2_with fail;refine Q.o.mono ?_;rintro e F ⟨y,rfl,d9,h⟩;have D:=aa (U.o.trans h);have J:=aa (fh a0.o h.2 E);have c8:w.1.size<=F.1.size:=D.o.2.size;obtain⟨z,d2⟩:∃z,(y:Int)-4=z:=⟨_,rfl⟩;have d3: -1000001<=z/\z<=1000000:=(by omega);have c6:=aa d3;have d7:m+1<=6:=(by omega);go_wp2_with(first
   |(at_builtin;go_must(refine jx (w0:=F) rfl _ _ 37 rfl w.1.size 3 (Ud 0) 8 underlying37 bK rfl _ m (af xs) (Ud z) J.o rfl rfl rfl (by omega) (by unfold maxLen;omega) aZ c8 ?_);intro v' d4 O a4;obtain⟨c2,b6,rfl,_,_⟩:=CX O (by omega)))
  go_roundw;exact⟨j-1,m+1,xs++[z],c2,b6,by go_num,rfl,by simp[I.o],by omega,yl a1.o c6.o,by simpa[af] using O,D.o.app a4 E b7⟩;simp[intOf]<;>omega
 ·obtain rfl:j=0:=by omega
  have Q:=aa (lq W wr g a n c bs 16 h.1 (by omega) (by omega));go_wp2_with fail;refine Q.o.mono ?_;rintro e F ⟨y,rfl,h⟩;have D:=aa (U.o.trans h);have J:=aa (fh a0.o h.2 E);cases y
  ·have d1:m<=6:=by omega
   go_wp2;go_ret;exact⟨_,xs,rfl,by rw[I.o];exact J.o,by rw[I.o];exact d1,a1.o,D.o⟩
  ·have d5:g<F.1.size:=D.o.gW;have Z:=aa (D.o.alloc (.cells #[Ud 1000000,Ud (-1000001),Ud 0] 3));have b4:=aa (J.o.alloc (.cells #[Ud 1000000,Ud (-1000001),Ud 0] 3));have b5:=aa (jC W (F.alloc (.cells #[Ud 1000000,Ud (-1000001),Ud 0] 3)) g a n c bs (some ⟨F.1.size,0,none⟩) 3 3 [1000000,-1000001,0] Z.o.1 (by omega) (by omega) (nV _ _ _ rfl (λj v b8=>by simpa[af] using b8) (by omega)) (λq e0 e=>by
    injection e with e
    injection e with e1
    omega))
   go_wp2_with fail;refine b5.o.mono ?_;rintro e c3 ⟨s,rfl,a8,a5⟩;have c0: -1000001<=s/\s<=1000000:=by
    simp at a8;rcases a8 with rfl|rfl|rfl<;>decide
   have c5:=aa c0;have b1:=aa (Z.o.trans a5);have c4:=aa (fh b4.o a5.2 E);have c9:w.1.size<=c3.1.size:=b1.o.2.size;have c7:m+1<=6:=(by omega);go_wp2_with(first
    |(at_builtin;go_must(refine jx (w0:=c3) rfl _ _ 37 rfl w.1.size 3 (Ud 0) 8 underlying37 bK rfl _ m (af xs) (Ud s) c4.o rfl rfl rfl (by omega) (by unfold maxLen;omega) aZ c9 ?_);intro v' d4 O a4;obtain⟨c2,b6,rfl,_,_⟩:=CX O (by omega)))
   go_ret;exact⟨_,xs++[s],rfl,by simpa[af,I.o] using O,by rw[az,I.o];exact c7,yl a1.o c5.o,b1.o.app a4 E b7⟩
structure QA (rows : List (List Int)) : Prop where
  len : 1 ≤ rows.length ∧ rows.length ≤ 5
  row : ∀ r ∈ rows, 1 ≤ r.length ∧ r.length ≤ 4
theorem TC:cF 0=⟨#[48]⟩:=by
 unfold cF Lib.itoa;rw[if_neg (by decide)];show ByteArray.mk (Lib.decDigits 0).toArray=_
 rw[Lib.decDigits,dif_pos (by decide)];rfl
theorem SK:gC ⟨#[48]⟩ 12=some 0:=by
 rw[nB (n:=0) (m:=0) (by decide) (by decide) (by decide),if_pos TC]
theorem TB:cF 1=⟨#[49]⟩:=by
 unfold cF Lib.itoa;rw[if_neg (by decide)];show ByteArray.mk (Lib.decDigits 1).toArray=_
 rw[Lib.decDigits,dif_pos (by decide)];rfl
theorem SJ:gC ⟨#[49]⟩ 12=some 1:=by
 rw[nB (n:=1) (m:=1) (by decide) (by decide) (by decide),if_pos TB]
theorem TA:cF 2=⟨#[50]⟩:=by
 unfold cF Lib.itoa;rw[if_neg (by decide)];show ByteArray.mk (Lib.decDigits 2).toArray=_
 rw[Lib.decDigits,dif_pos (by decide)];rfl
theorem SH:gC ⟨#[50]⟩ 12=some 2:=by
 rw[nB (n:=2) (m:=2) (by decide) (by decide) (by decide),if_pos TA]
theorem Tz:cF 3=⟨#[51]⟩:=by
 unfold cF Lib.itoa;rw[if_neg (by decide)];show ByteArray.mk (Lib.decDigits 3).toArray=_
 rw[Lib.decDigits,dif_pos (by decide)];rfl
theorem SG:gC ⟨#[51]⟩ 12=some 3:=by
 rw[nB (n:=3) (m:=3) (by decide) (by decide) (by decide),if_pos Tz]
def TJ(s:ByteArray):Option Int:=if s=⟨#[48]⟩ then some 0 else if s=⟨#[49]⟩ then some 1 else if s=⟨#[50]⟩ then some 2 else if s=⟨#[51]⟩ then some 3 else none
theorem Ho{s}{v}(h:TJ s=some v):gC s 12=some v:=by
 unfold TJ at h;split at h
 ·rename_i e;rw[e,<-h];exact SK
 split at h
 ·rename_i e;rw[e,<-h];exact SJ
 split at h
 ·rename_i e;rw[e,<-h];exact SH
 split at h
 ·rename_i e;rw[e,<-h];exact SG
 cases h
theorem Br{α β:Type}{f g:α->Option β}(D:∀x y,f x=some y->g x=some y):∀{l:List α} {ys:List β},jG f l=some ys->jG g l=some ys
 |[],_,h=>h
 |x::l,ys,h=>by
  unfold jG at h⊢;split at h
  ·rename_i y zs E F;rw[D x y E,Br D F];exact h
  ·cases h
def TT(t:ByteArray):Option (List (List Int)):=jG (λr=>jG TJ (pc r 44)) (pc t 47)
def Sv(t:ByteArray):Bool:=match TT t with
 |some M=>dB M&&decide (1<=M.length/\M.length<=5)&&M.all λr=>decide (1<=r.length/\r.length<=4)
 |none=>false
def pP:List ByteArray:=[⟨#[49,44,49,47,49,44,48]⟩,⟨#[50]⟩,⟨#[49,44,49,47,49,44,49]⟩,⟨#[48,44,49,47,49,44,48]⟩,⟨#[48,44,49,44,48,47,48,44,48,44,49,47,49,44,49,44,48]⟩,⟨#[49,44,49,44,48,47,48,44,49,44,49,47,49,44,48,44,49]⟩,⟨#[49,44,48,47,49,44,49]⟩,⟨#[48,44,49,47,48,44,48]⟩,⟨#[51]⟩,⟨#[49,44,50,47,49,44,48]⟩,⟨#[48]⟩,⟨#[48,44,50,47,49,44,48]⟩]
theorem BV{t}(h:t∈pP):∃M,nb t=some M/\QA M:=by
 have D:=bm.1 (show pP.all Sv=true from by decide+kernel) t h;unfold Sv at D;split at D
 ·rename_i M E;simp only[aC,decide_eq_true_eq,bm] at D;refine⟨M,?_,D.1.2,D.2⟩;unfold nb Tq;rw[show jG En (pc t 47)=some M from Br (λ_ _ h=>Br (λ_ _ h=>Ho h) h) E];exact if_pos D.1.1
 ·cases D
theorem BW:∀t∈pP,t.size<=100:=by decide
def pu:List ByteArray:=[⟨#[50,32,98,98]⟩,⟨#[50,32,97,97,32,98,98]⟩,⟨#[50,32,97,97,98]⟩,⟨#[51,32,97,98,32,98,99,32,99,97]⟩,⟨#[50]⟩,⟨#[49]⟩,⟨#[51,32,97,97,32,98,98,32,99,99]⟩,⟨#[50,32,97,98,97,32,98,97,98]⟩,⟨#[50,32,97,98]⟩,⟨#[50,32,97,97,97,32,98,98]⟩,⟨#[51,32,97,99,32,98,98]⟩]
def Tr(t:ByteArray):Bool:=match pc t 32 with
 |p::ss=>match TJ p with
  |some k=>iO k.toNat ss&&decide (0<=k)
  |none=>false
 |[]=>false
theorem FU{t}(h:t∈pu):∃p ss k,pc t 32=p::ss/\gC p 12=some ((k:Nat):Int)/\iO k ss=true:=by
 have D:=bm.1 (show pu.all Tr=true from by decide+kernel) t h;unfold Tr at D;split at D
 ·rename_i p ss E;split at D
  ·rename_i k F;simp only[aC,decide_eq_true_eq] at D;exact⟨p,ss,k.toNat,E,by rw[Int.toNat_of_nonneg D.2];exact Ho F,D.1⟩
  ·cases D
 ·cases D
theorem BS:∀t∈pu,t.size<=100:=by decide
theorem bS.drewBy{T0}{w w'}{base g}{E}{D}(h:bS T0 w base E D)(F:w.grownBy w' (some g))(I:g<base):bS T0 w' base E D:=
 ⟨h.len,λi x r O J=>fh (h.own i x r O J) F I,h.apart⟩
theorem ct.drewBy{T1 T0}{w w'}{base g}{v}{F}(h:ct T1 T0 w base v F)(D:w.grownBy w' (some g))(E:g<base):ct T1 T0 w' base v F:=by
 obtain⟨O,I,J⟩:=h;exact⟨O,fh I D E,J.drewBy D E⟩
theorem cS.dims{R}{n}(h:cS R n n)(E:1<=n)(F:n<=4):QA R:=
 ⟨by rw[h.len];omega,λr D=>by rw[h.row r D];omega⟩
theorem cS.put{R}{n m i j}{r}{u}(h:cS R n m)(E:R[i]? =some r):cS (R.set i (r.set j u)) n m:=
 ⟨by simp[h.len],λq D=>by
  rcases jU D with D|rfl
  ·exact h.row q D
  ·rw[fM];exact h.row r (aj E)⟩
theorem uE(n):cS (cO n n) n n:=⟨by simp[cO],λr h=>by simp[cO] at h;simp[h.2]⟩
def Fi(W w:World)(g:Nat)(a:Option Addr)(n c:Nat)(bs:List UInt8)(e:Ending)(w':World):Prop:=
 ∃v h,e= .returned v/\ct 37 3 w' w.1.size v h/\QA h/\je W w w' g a n c bs
theorem Pl(W w)(g)(a)(n c)(bs)(h:Bz W w g a n c bs):
 Calls prog 99 #[.pointer (some ⟨g,0,none⟩),Ud 4] w (Fi W w g a n c bs):=by
 have c3:g<w.1.size/\W.1.size<=w.1.size:=by obtain⟨i,k,x⟩:=h;exact⟨x.hi,x.bel.size⟩
 have a1:=c3.1;have b5:=c3.2;have d4:=aa (lq W w g a n c bs 3 h (by omega) (by omega));have d6:=aa h.drew0;unfold Fi;clear h c3;go_enter func99,ntmps99;go_wp2_with fail;refine d4.o.mono ?_;rintro e d2 ⟨b,rfl,D⟩;have Z:=aa (d6.o.trans D);have j2:=D.2.size;clear D d4 d6;cases b
 ·have d5:=aa (dF W d2 g a n c bs 4 Z.o.1 (by omega) (by omega));go_wp2_with fail;refine d5.o.mono ?_;rintro e d3 ⟨y,rfl,h7,D⟩;obtain⟨N,g3⟩:=aB (1+y);have g4:1<=N:=(by omega);have g5:N<=4:=(by omega);have h8:(1:Int)+(y:Int)=(N:Int):=(by omega);have Y:=aa (Z.o.trans D);have d0:=Y.o.2.size;have c1:=aa (gg N N d3 (by omega) (by omega));unfold cK at c1;clear D d5 Z g3 h7;go_wp2_with fail;clear h8;refine c1.o.mono ?_;rintro e i0 ⟨v,rfl,a2,a9⟩;obtain⟨J,cv,rfl,i6,i7⟩:=cT a2 (uE N).len (by omega);obtain⟨a3,c4,f1⟩:=a2.base (base':=w.1.size) d0;rw[(uE N).len] at c4;have d8:=aa c4;have e3:=aa f1;have e0:=aa (uE N);have a0:=aa (Y.o.app (a9.mono d0) a1 b5);have i8:w.1.size<=J:=(by omega);clear a2 c4 f1 a9 c1 Y;go_wp2;go_loopw[9] (λi wr=>∃(k:Nat) (U:List (List Int)),k<=N/\i= Ud k/\bv (cS U N N)/\bv (wr.ownsRow w.1.size 37 1 (.slice (some ⟨J,0,none⟩) N cv) N a3)/\bv (bS 3 wr w.1.size a3 U)/\bv (je W w wr g a n c bs)) (λi _=>N-(intOf i).toNat);exact⟨0,_,by omega,rfl,e0,d8,e3,a0⟩;clear e0 d8 e3 a0;obtain⟨k,U,j0,rfl,I,F,O,E⟩:=hrel;by_cases h3:k<N
  ·have j1:(k:Int)<(N:Int):=by omega
   go_wp2;go_loopw[10] (λi wr=>∃(j:Nat) (U:List (List Int)),j<=N/\i= Ud j/\bv (cS U N N)/\bv (wr.ownsRow w.1.size 37 1 (.slice (some ⟨J,0,none⟩) N cv) N a3)/\bv (bS 3 wr w.1.size a3 U)/\bv (je W w wr g a n c bs)) (λi _=>N-(intOf i).toNat);exact⟨0,_,by omega,rfl,I,F,O,E⟩;clear I F O E;obtain⟨j,U,b6,rfl,I,F,O,E⟩:=hrel;by_cases h2:j<N
   ·have i9:(j:Int)<(N:Int):=by omega
    obtain⟨x,r,d1,c6,e9⟩:=O.o.get (i:=k) (by rw[I.o.len];exact h3);have c7:=I.o.row r (aj c6);have c5:=e9;rw[c7] at c5;obtain⟨b3,cr,rfl,h0,i5⟩:=dP c5 (by omega);have c2:=(F.o.cellAt k (by omega)).trans d1;have h1:J<wr.1.size:=(F.o.lt J rfl).2;have b8:=aa c6;have c0:=aa d1;have b9:=aa c7;have h6:=E.o.2.size;obtain⟨a6,a7⟩:=aB (α:=World->Prop) (λV=>V.cell? ⟨J,k,none⟩=some (.slice (some ⟨b3,0,none⟩) N cr));have e2:=aa (show∀V,a6 V->V.cell? ⟨J,k,none⟩=some (.slice (some ⟨b3,0,none⟩) N cr) fromλV e7=>by rw[a7] at e7;exact e7);have i2:a6 wr.drew:=by rw[a7];exact c2
    have g1:=aa (show∀V,Below wr.1.size wr V->a6 V fromλV g8=>by
     rw[a7];exact(g8.cell (p:=⟨J,k,none⟩) h1).trans c2)
    have b0:Below wr.1.size wr (wr.drew.alloc (.cells #[Ud 0,Ud 1,Ud 0,Ud 1,Ud 2] 3)):=aZ.drew.alloc aQ _;have g6:=g1.o _ b0;have a4:=aa (E.o.app (b0.mono h6) a1 b5);have d9:=aa (ai F.o b0);have e4:=aa (O.o.below b0);have g0:=aa (show∀V,V.ownsRow w.1.size 37 1 (.slice (some ⟨J,0,none⟩) N cv) N a3->a6 V fromλV h4=>by
     rw[a7];exact(h4.cellAt k (by omega)).trans c0.o)
    have a5:=aa (jC W _ g a n c bs (some ⟨wr.drew.1.size,0,none⟩) 5 5 [0,1,0,1,2] a4.o.1 (by omega) (by omega) (nV (w:=wr.drew) #[Ud 0,Ud 1,Ud 0,Ud 1,Ud 2] _ _ rfl (λj v b6=>by simpa[af] using b6) (by omega)) (λq h9 e=>by
     injection e with e
     injection e with e1
     have:g<wr.drew.1.size:=E.o.gW;omega))
    clear a7 c2 e9 c5 d1 c6 c7 E F O b0;go_wp2_with fail;refine dr (S:=a6) 9 (by kernel_rfl) ?_;iterate 6 (refine kG rfl (by kernel_rfl) (λ_ _ _ h=>h) (by rfl) (by assumption) (λV a8=>by have a8:=e2.o V a8;go_split_ands;go_simp;first|done|with_reducible rfl) ?_;try simp only[Act.put,ab,ac,ae])
    refine aY (i:=6) rfl (by kernel_rfl) (by decide) (λK Q=> ?_);go_simp;refine Q.out _ _ g6 ?_;clear Q K;try simp only[Act.put,ab,ac,ae]
    refine aY (i:=7) rfl (by kernel_rfl) (by decide) (λK Q=> ?_);go_simp;go_at_call 100;refine a5.o.mono ?_;rintro e i1 ⟨s,rfl,h5,b4⟩;have f4:=aa (a4.o.trans b4);have b7:=aa (fh d9.o b4.2 a1);have e5:=aa (e4.o.drewBy b4.2 a1);have g7:=g0.o _ b7.o;have c8:=e5.o.stored (cap:=cr) (g:=b3) b8.o (by rw[b9.o];exact c0.o) j s;have b1:=e5.o.own k _ r c0.o b8.o;rw[b9.o] at b1;have i3:=b1.frozenAt j;have g9:=b1.cellAt j (by omega);obtain⟨u5,f2⟩:=aE (l:=af r) (n:=j) (by simp[af,b9.o];exact h2);rw[f2] at g9;have g2:=aa c8.1;have f8:=aa (b7.o.kept c8.2 (eD b7.o b1 (by decide)));have f5:=aa (f4.o.app ((aV w.1.size i1).setCell (p:=⟨b3,j,none⟩) h0 (Ud s)) a1 b5);have f9:=aa (I.o.put (j:=j) (u:=s) b8.o);clear c8 b1 b4 a5 a4 d9 e4 h5 f2;go_wp2_with fail;refine Q.out _ _ g7 ?_;clear Q K;try simp only[Act.put,ab,ac,ae]
    (refine jw 8 rfl (by kernel_rfl) (λ_ _ _ h=>h) (by rfl) (by assumption) (λV a8=>by have a8:=e2.o V a8;go_split_ands;go_simp;first|done|with_reducible rfl) ?_;try simp only[Act.put,ab,ac,ae]);refine cU rfl (by kernel_rfl) (by kernel_rfl) (λK Q=> ?_);go_simp;refine Q.out _ _ ?_;clear Q K;go_wp2;go_roundw;exact⟨j+1,_,by omega,by go_num,f9,f8,g2,f5⟩;simp[intOf]<;>omega
   ·obtain rfl:j=N:=by omega
    go_wp2;go_roundw;exact⟨k+1,_,by omega,by go_num,I,F,O,E⟩;simp[intOf]<;>omega
  ·obtain rfl:k=N:=by omega
   go_wp2;go_ret;exact⟨_,U,rfl,⟨a3,by rw[I.o.len];exact F.o,O.o⟩,I.o.dims g4 g5,E.o⟩
 ·have d7:=aa (λt (h:t∈pP)=>BV h);have f0:=aa BW;have Y:=aa (Z.o.alloc (.cells #[.string ⟨#[49,44,49,47,49,44,48]⟩,.string ⟨#[50]⟩,.string ⟨#[49,44,49,47,49,44,49]⟩,.string ⟨#[48,44,49,47,49,44,48]⟩,.string ⟨#[48,44,49,44,48,47,48,44,48,44,49,47,49,44,49,44,48]⟩,.string ⟨#[49,44,49,44,48,47,48,44,49,44,49,47,49,44,48,44,49]⟩,.string ⟨#[49,44,48,47,49,44,49]⟩,.string ⟨#[48,44,49,47,48,44,48]⟩,.string ⟨#[51]⟩,.string ⟨#[49,44,50,47,49,44,48]⟩,.string ⟨#[48]⟩,.string ⟨#[48,44,50,47,49,44,48]⟩] 9));have i4:g<d2.1.size:=Z.o.gW;have a5:=aa (kf W _ g a n c bs (some ⟨d2.1.size,0,none⟩) 12 12 pP Y.o.1 (by omega) (by omega) (my _ _ _ rfl (λj v b6=>by simpa[ap,pP] using b6) (by omega)) (λq h9 e=>by
   injection e with e
   injection e with e1
   omega))
  clear Z;go_wp2_with fail;refine a5.o.mono ?_;rintro e d3 ⟨t,rfl,c9,D⟩;obtain⟨M,e6,e8⟩:=d7.o t c9;have d0:=D.2.size;have a0:=aa (Y.o.trans D);have f3:=a0.o.2.size;have b2:=aa (uu t d3 (by have:=f0.o t c9;omega));unfold va at b2;rw[e6] at b2;have f6:=aa e8;clear D c9 a5 Y d7 f0 e6 e8;go_wp2_with fail;refine b2.o.mono ?_;rintro e i0 ⟨v,rfl,a2,a9⟩;have a4:=aa (a0.o.app (a9.mono f3) a1 b5);have f7:=aa (a2.base (base':=w.1.size) f3);clear a2 a9 a0 b2;go_wp2;go_ret;exact⟨_,M,rfl,f7.o,f6.o,a4.o⟩
def BC(W w:World)(g:Nat)(a:Option Addr)(n c:Nat)(bs:List UInt8)(e:Ending)(w':World):Prop:=
 ∃v h,e= .returned v/\ct 37 3 w' w.1.size v h/\h.length<=6/\(∀r∈h,r.length<=4)/\je W w w' g a n c bs
theorem Nn:(prog.info? 37).map (λi=>(i.zero,i.size,i.bytes))=some (some (.slice none 0 0),1,24):=by kernel_rfl
theorem Pm(W w)(g)(a)(n c)(bs)(h:Bz W w g a n c bs):
 Calls prog 27 #[.pointer (some ⟨g,0,none⟩)] w (BC W w g a n c bs):=by
 have c3:g<w.1.size/\W.1.size<=w.1.size:=by obtain⟨i,k,x⟩:=h;exact⟨x.hi,x.bel.size⟩
 have O:=c3.1;have b0:=c3.2;have b5:=aa (Pl W w g a n c bs h);unfold Fi at b5;unfold BC;clear h c3;go_enter func27,ntmps27;go_wp2_with fail;refine b5.o.mono ?_;rintro e g7 ⟨v,b2,rfl,⟨b3,a1,e3⟩,c2,J⟩;have g2:=c2.len;obtain⟨a0,cv,rfl,h5,h6⟩:=dP a1 (by omega);obtain⟨N,a8⟩:=aB b2.length;rw[<-a8] at a1 g2;rw[<-a8];have U:=aa a8;have d3:=aa a1;have d7:=aa e3;have d1:=aa J;have a2:=aa c2.row;have d0:=aa (dF W g7 g a n c bs 16 J.1 (by omega) (by omega));clear a1 e3 J b5 c2 a8;go_wp2_with fail;refine d0.o.mono ?_;rintro e D ⟨y,rfl,h9,J⟩;have Q:=aa (d1.o.trans J);have Y:=aa (fh d3.o J.2 O);have Z:=aa (d7.o.drewBy J.2 O);have c8:=Q.o.2.size;have f9:a0<D.1.size:=(Y.o.lt a0 rfl).2;clear J d0 d1 d3 d7;by_cases g5:y=0
 ·subst g5;obtain⟨x,r,c9,c6,c5⟩:=Z.o.get (i:=0) (by rw[<-U.o];omega);have b1:=a2.o r (aj c6);obtain⟨m,c4⟩:=aB r.length;rw[<-c4] at c5 b1;have h7:=b1.1;have h8:=b1.2;obtain⟨a7,cr,rfl,f8,h4⟩:=dP c5 (by omega);have c1:=(Y.o.cellAt 0 (by omega)).trans c9;have b8:=aa c6;have c0:=aa c9;have b9:=aa c4.symm;have h1:0<m:=(by omega);have h0:0<N:=(by omega);obtain⟨a3,a4⟩:=aB (α:=World->Prop) (λV=>V.cell? ⟨a0,0,none⟩=some (.slice (some ⟨a7,0,none⟩) m cr));have d6:=aa (show∀V,a3 V->V.cell? ⟨a0,0,none⟩=some (.slice (some ⟨a7,0,none⟩) m cr) fromλV e1=>by rw[a4] at e1;exact e1);have h2:a3 D.drew:=by rw[a4];exact c1
  have f0:=aa (show∀V,Below D.1.size D V->a3 V fromλV f6=>by
   rw[a4];exact(f6.cell (p:=⟨a0,0,none⟩) f9).trans c1)
  have F:Below D.1.size D (D.drew.alloc (.cells #[Ud (-1),Ud 1000000,Ud 1000001,Ud 9] 3)):=aZ.drew.alloc aQ _;have f4:=f0.o _ F;have b4:=aa (Q.o.app (F.mono c8) O b0);have d4:=aa (ai Y.o F);have d8:=aa (Z.o.below F);have e9:=aa (show∀V,V.ownsRow w.1.size 37 1 (.slice (some ⟨a0,0,none⟩) N cv) N b3->a3 V fromλV a1=>by
   rw[a4];exact(a1.cellAt 0 (by omega)).trans c0.o)
  have d5:=aa (jC W _ g a n c bs (some ⟨D.drew.1.size,0,none⟩) 4 4 [-1,1000000,1000001,9] b4.o.1 (by omega) (by omega) (nV (w:=D.drew) #[Ud (-1),Ud 1000000,Ud 1000001,Ud 9] _ _ rfl (λj v g0=>by simpa[af] using g0) (by omega)) (λq i0 e=>by
   injection e with e
   injection e with f3
   have:g<D.drew.1.size:=Q.o.gW;omega))
  clear a4 c1 c5 c9 c6 b1 c4 Q Y Z F;go_wp2_with fail;refine dr (S:=a3) 7 (by kernel_rfl) ?_;iterate 4 (refine kG rfl (by kernel_rfl) (λ_ _ _ h=>h) (by rfl) (by assumption) (λV a5=>by have a5:=d6.o V a5;go_split_ands;go_simp;first|done|with_reducible rfl) ?_;try simp only[Act.put,ab,ac,ae])
  refine aY (i:=4) rfl (by kernel_rfl) (by decide) (λK I=> ?_);go_simp;refine I.out _ _ f4 ?_;clear I K;try simp only[Act.put,ab,ac,ae]
  refine aY (i:=5) rfl (by kernel_rfl) (by decide) (λK I=> ?_);go_simp;go_at_call 100;refine d5.o.mono ?_;rintro e g8 ⟨s,rfl,g4,a9⟩;have e6:=aa (b4.o.trans a9);have b7:=aa (fh d4.o a9.2 O);have d9:=aa (d8.o.drewBy a9.2 O);have f5:=e9.o _ b7.o;have c7:=d9.o.stored (cap:=cr) (g:=a7) b8.o (by rw[b9.o];exact c0.o) 0 s;have a6:=d9.o.own 0 _ r c0.o b8.o;rw[b9.o] at a6;have h3:=a6.frozenAt 0;have f7:=a6.cellAt 0 (by omega);obtain⟨u5,e4⟩:=aE (l:=af r) (n:=0) (by simp[af,b9.o];omega);rw[e4] at f7;have f2:=aa c7.1;have e8:=aa (b7.o.kept c7.2 (eD b7.o a6 (by decide)));have e7:=aa (e6.o.app ((aV w.1.size g8).setCell (p:=⟨a7,0,none⟩) f8 (Ud s)) O b0);clear c7 a6 a9 d5 b4 d4 d8 g4 e4;go_wp2_with fail;refine I.out _ _ f5 ?_;clear I K;try simp only[Act.put,ab,ac,ae]
  (refine jw 6 rfl (by kernel_rfl) (λ_ _ _ h=>h) (by rfl) (by assumption) (λV a5=>by have a5:=d6.o V a5;go_split_ands;go_simp;first|done|with_reducible rfl) ?_;try simp only[Act.put,ab,ac,ae]);refine cU rfl (by kernel_rfl) (by kernel_rfl) (λK I=> ?_);go_simp;refine I.out _ _ ?_;clear I K;go_wp2;go_ret;refine⟨_,b2.set 0 (r.set 0 s),rfl,⟨b3,by rw[fM,<-U.o];exact e8.o,f2.o⟩,by rw[fM,<-U.o];omega,λq E=> ?_,e7.o⟩;rcases jU E with E|rfl
  ·exact(a2.o q E).2
  ·rw[fM];exact(a2.o r (aj b8.o)).2
 ·have g9:((y:Int)==0)=false:=by simp;omega
  by_cases g6:y=1
  ·subst g6;have e0:=bS.snoc Z.o c8 [1] #[Ud 1] rfl (by unfold maxLen;simp);have F:Below D.1.size D (D.alloc (.cells #[Ud 1] 3)):=aZ.alloc aQ _;have b6:=aa (ai Y.o F);have f1:=aa e0;have d2:=aa (Q.o.app (F.mono c8) O b0);have e5:w.1.size<=(D.alloc (.cells #[Ud 1] 3)).1.size:=d2.o.2.size;clear e0 F Y Z Q;go_wp2_with(first
    |(at_builtin;go_must(refine eu rfl _ _ 24 rfl w.1.size 37 (.slice none 0 0) 24 underlying24 Nn rfl _ N b3 _ b6.o rfl (by simp[Act.eval]) rfl (by omega) (by unfold maxLen;omega) e5 ?_);intro v' i1 g3 e2))
   go_ret;refine⟨_,b2++[[1]],rfl,⟨_,by rw[az,<-U.o];exact g3,f1.o.kept b6.o (by decide) e2⟩,by rw[az,<-U.o];simp;omega,λq E=> ?_,d2.o.app ((aV w.1.size _).grown e2 e5 (λk g1=>(b6.o.lt k g1).1)) O b0⟩;rcases cH.1 E with E|E
   ·exact(a2.o q E).2
   ·simp at E;subst E;decide
  ·have f3:((y:Int)==1)=false:=by simp;omega
   go_wp2;go_ret;exact⟨_,b2,rfl,⟨b3,by rw[<-U.o];exact Y.o,Z.o⟩,by rw[<-U.o];omega,λq E=>(a2.o q E).2,Q.o⟩
theorem Dr{α} [DecidableEq α](lt)(xs)(x:α):(Ds lt xs x).length<=xs.length+1:=by
 unfold Ds;split
 ·omega
 ·simp;omega
theorem KD{α} [DecidableEq α]{lt}{xs}{x y:α}(h:y∈Ds lt xs x):y=x\/y∈xs:=by
 unfold Ds at h;split at h
 ·exact .inr h
 ·rcases cH.1 h with h|h
  ·exact .inr (dh h)
  ·rcases ji.1 h with h|h
   ·exact .inl h
   ·exact .inr (fC h)
theorem MV(x)(w):
 Calls prog 189 #[.slice none 0 0,.string x] w λe w'=>∃g c,e= .returned (.slice (some ⟨g,0,none⟩) 1 c)/\w'.ownsRow w.1.size 9 1 (.slice (some ⟨g,0,none⟩) 1 c) 1 (ap [x])/\Below w.1.size w w':=by
 obtain⟨i,hi,a8,a9,b0⟩:=info_parts iF;have h:=aa (show(w.alloc (.cells #[] 9)).ownsRow w.1.size 9 1 (.slice (some ⟨w.1.size,0,none⟩) 0 0) 0 (ap []) from xg #[] _ rfl aQ (by unfold maxLen;simp));go_enter func189,ntmps189;go_wp2;go_loop[5] (λi=>i= Ud 0) (λi=>0);rfl;subst hrel;have I:True:=trivial;have a4:=aa (h.o.alloc (.cells #[.string x] 9));go_wp2_with(first
  |(at_builtin;have _t:=I;go_must(refine wpList_append_own_none rfl _ _ 26 rfl w.1.size 9 i 1 underlying26 hi (.slice (some ⟨w.1.size,0,none⟩) 0 0) 0 _ rfl h.o rfl ?_);have J:True:=trivial;clear I)
  |(at_builtin;have _t:=J;go_must(refine jx (w0:=w) rfl _ _ 26 rfl w.1.size 9 (.string ByteArray.empty) 16 underlying26 iF rfl (.slice none 0 0) 0 [] (.string x) (dk _ _ _ _) rfl (by simp[Act.eval]) rfl (by omega) (by unfold maxLen;omega) (aZ.alloc aQ _) (by simp) ?_);intro b1 b2 E D;obtain⟨W,Q,rfl,Z,a5⟩:=dP E (by omega);have F:=D.size;have O:True:=trivial;clear J)
  |(at_builtin;have _t:=O;go_must(refine aX rfl _ _ 26 rfl w.1.size 9 (.string ByteArray.empty) 16 underlying26 iF rfl W Q 1 [.string x] E rfl w.1.size 0 0 0 [] rfl rfl (by intro j u a1;cases a1) (by intro u a3;cases a3) (by omega) (by unfold maxLen;omega) F ?_);intro Y U b3 a2 a0 a7 a6;clear O))
 go_ret;exact⟨Y,U,rfl,by simpa[ap] using a2,D.grown a0 F (by rintro k ⟨⟩;exact Z)⟩
def Tk(B:Nat)(ss:List ByteArray)(x:ByteArray)(w:World)(e:Ending)(w':World):Prop:=
 ∃g c h,e= .returned (.slice (some ⟨g,0,none⟩) h.length c)/\w'.ownsRow B 9 1 (.slice (some ⟨g,0,none⟩) h.length c) h.length (ap h)/\h.length<=ss.length+1/\(∀s∈h,s=x\/s∈ss)/\Below B w w'
theorem Dm(B n)(v)(ss)(x)(w)(Y:ss.length=n)(F:w.ownsRow B 9 1 v n (ap ss))(h:B<=w.1.size)(Q:n<=1000000):
 Calls prog 189 #[v,.string x] w (Tk B ss x w):=by
 subst Y;by_cases U:ss.length=0
 ·obtain rfl:ss=[]:=ey U;rcases F.2 with⟨rfl,_⟩|⟨g,cap,Z,rfl,D,W,_⟩
  ·refine(MV x w).mono ?_;rintro e w' ⟨g,c,rfl,E,D⟩;exact⟨g,c,[x],rfl,aT E h,by simp,by simp,D.mono h⟩
  ·refine(vn B g cap 0 [] x w rfl F h Q).mono ?_;rintro e w' ⟨I,c',rfl,E,J,_⟩;exact⟨I,c',_,rfl,E,Dr BE [] x,λs O=>KD O,(aV B w).grown J h (by rintro k ⟨⟩;exact D)⟩
 ·obtain⟨g,cap,rfl,D,W⟩:=dP F (by omega);refine(vn B g cap _ ss x w rfl F h Q).mono ?_;rintro e w' ⟨I,c',rfl,E,J,_⟩;exact⟨I,c',_,rfl,E,Dr BE ss x,λs O=>KD O,(aV B w).grown J h (by rintro k ⟨⟩;exact D)⟩
structure qQ (w : World) (base : Nat) (a : Option Addr) (n : Nat) (xs : List Value) : Prop where
  len : xs.length = n
  lim : n ≤ 1000
  at_ : 0 < n → ∃ g off, a = some ⟨g, off, none⟩ ∧ base ≤ g ∧ g < w.1.size ∧ (∀ (j : Nat) (x : Value), xs[j]? = some x → w.cell? ⟨g, off + j, none⟩ = some x) ∧ ∀ j, w.frozen? ⟨g, off + j, none⟩ = false
theorem qQ.row{w}{base n}{a}{xs}(h:qQ w base a n xs):aO w a n xs:=
 ⟨h.len,by have:=h.lim;omega,λI=>by
  obtain⟨g,J,D,_,F,E,_⟩:=h.at_ I;exact⟨g,J,D,F,E⟩⟩
theorem qQ.below{w w'}{base n}{a}{xs}(h:qQ w base a n xs)(D:Below w.1.size w w'):qQ w' base a n xs:=
 ⟨h.len,h.lim,λU=>by
  obtain⟨g,F,J,I,E,O,Q⟩:=h.at_ U;exact⟨g,F,J,I,aH E D.size,λj x W=>(D.cell (p:=⟨g,F+j,none⟩) E).trans (O j x W),λj=>(D.frozen (p:=⟨g,F+j,none⟩) E).trans (Q j)⟩⟩
theorem qQ.base{w}{base base' n}{a}{xs}(h:qQ w base a n xs)(F:base'<=base):qQ w base' a n xs:=
 ⟨h.len,h.lim,λQ=>by
  obtain⟨g,U,E,D,O,I,J⟩:=h.at_ Q;exact⟨g,U,E,bn F D,O,I,J⟩⟩
def JO(k:Int)(ss:List ByteArray)(w:World)(e:Ending)(w':World):Prop:=
 ∃q c,e= .returned (.tuple #[.agg #[Ud k,.slice (some ⟨q,0,none⟩) ss.length c],.bool true])/\w'.ownsRow w.1.size 9 1 (.slice (some ⟨q,0,none⟩) ss.length c) ss.length (ap ss)/\Below w.1.size w w'
theorem Gu{w}{base n g c}{xs}(h:w.ownsRow base 9 1 (.slice (some ⟨g,0,none⟩) n c) n xs)(E:n<=1000):qQ w base (some ⟨g,0,none⟩) n xs:=by
 have F:=h.1;refine⟨by omega,E,λ_=>⟨g,0,rfl,(h.lt g rfl).1,(h.lt g rfl).2,λj y D=> ?_,λj=> ?_⟩⟩
 ·rw[aW,h.cellAt j (by have:=(aw.1 D).1;omega)];exact D
 ·exact h.frozenAt (0+j)
theorem Pu:(prog.info? 9).map (λi=>(i.zero,i.size,i.bytes))=some (some (.string ByteArray.empty),1,16):=by kernel_rfl
theorem tJ(t p)(k:Nat)(ss)(w)(g0:t.size<=1000)(a4:pc t 32=p::ss)(c3:gC p 12=some (k:Int))(a0:iO k ss=true):
 Calls prog 187 #[.string t] w (JO k ss w):=by
 unfold JO;obtain⟨_,e1,_,_⟩:=dD a0;have a8:=nZ t 32;rw[a4] at a8;have f9:=a8.2.2 p (by simp);have e8:=aa ((aV w.1.size w).alloc aQ (.cells #[Ud 0,.slice none 0 0] 28));have F:=aa (jJ t 32 (w.alloc (.cells #[Ud 0,.slice none 0 0] 28)) (by omega));unfold wL at F;rw[a4] at F;have W:=aa (λw=>ko p w (by omega));rw[c3] at W;simp only[ci,eF] at W;obtain⟨n,I⟩:=aB ss.length;have c2:(p::ss).length=n+1:=by simp[I]
 rw[c2] at F;rw[<-I] at e1;have U:=aa I;have d6:=aa a0;rw[<-I];clear a8 a4 c3 c2 I a0;go_enter func187,ntmps187;go_wp2_with fail;refine F.o.mono ?_;rintro e e7 ⟨g2,rfl,J,b6⟩;obtain⟨D,Z,rfl,f4,f5⟩:=dP J (by omega);have f3:e7.cell? ⟨D,0,none⟩=some (.string p):=(J.cellAt 0 (by omega)).trans rfl;have b2:=aa J;have c8:=aa b6;clear J b6 F;go_wp2_with fail;refine(W.o _).mono ?_;rintro e h ⟨rfl,a2⟩;have b0:=aa (bs c8.o a2);have d2:=aa (ai b2.o a2);have b5:=lj h 9 (B:=h.1.size) aQ;have d3:=aa (ai d2.o (aZ.alloc aQ (.cells #[] 9)));have f7:(1:Int)<=(n:Int)+1:=(by omega);clear a2;have b9:∀(j:Nat) (u:Value),(ap ss)[j]? =some u->(h.alloc (.cells #[] 9)).cell? ⟨D,1+j,none⟩=some u:=λj u E=>by
  have:=(aw.1 E).1;rw[d3.o.cellAt (1+j) (by simp[ap] at this;have:=U.o;omega),fX];show(ap (p::ss))[j+1]? =some u
  rw[<-E];simp[ap]
 have c4:∀u∈ap ss,u.oneCell'=true:=by
  intro u E;obtain⟨y,_,rfl⟩:=bi.1 E;rfl
 obtain⟨Q,f8,c0⟩:∃Q,(if Z=1 then(some ⟨D,0,none⟩:Option Addr) else some ⟨D,1,none⟩)=some ⟨D,Q,none⟩/\∀(j:Nat) (u:Value),(ap ss)[j]? =some u->(h.alloc (.cells #[] 9)).cell? ⟨D,Q+j,none⟩=some u:=by
  by_cases b8:Z=1
  ·refine⟨0,if_pos b8,λj u E=> ?_⟩;exfalso;have d9:=(aw.1 E).1;have f1:n+1<=Z:=(gG b2.o).choose_spec.2.2.1;simp[ap] at d9;have:=U.o;omega
  ·exact⟨1,if_neg b8,b9⟩
 have d1:=aa c0;have d8:=aa c4;have d7:=aa (show(ap ss).length=n by rw[U.o];simp[ap]);clear b9 c4 c0;go_wp2_with(first|(at_builtin;go_must(refine aX rfl _ _ 26 rfl h.1.size 9 (.string ByteArray.empty) 16 underlying26 Pu rfl h.1.size 0 0 [] b5 rfl D Q n _ (ap ss) rfl d7.o d1.o d8.o (by omega) (by unfold maxLen;omega) (by simp) ?_);intro a9 Y c7 O c1 e2 f6;simp only[aW,fe] at O));have a3:Below h.1.size h c7:=(aZ.alloc aQ (.cells #[] 9)).grown c1 (by simp) (by rintro k ⟨⟩;exact aN _);have c9:=aa (bs b0.o a3);have d4:=aa O;have b1:=aa (iW k (some ⟨a9,0,none⟩) n Y ss (c7.alloc (.cells #[Ud k,.slice (some ⟨a9,0,none⟩) n Y] 28)) ((Gu O (by omega)).row.below (aZ.alloc aQ _) aQ) d6.o);have f2:=aa a3.size;clear O c1 e2 a3 b5;go_wp2_with fail;refine b1.o.mono ?_;rintro e g3 ⟨rfl,b7⟩;obtain⟨a6,e0,g1,a1⟩:=TF b7;have e5:=a6 0;have e6:=a6 1;have b3:=bs c9.o a1;obtain⟨a5,a7,e4,b4⟩:=TF b3;have c5:=a5 0;have c6:=a5 1;have e9:=a7 0;have f0:=a7 1;simp at e5 e6 c5 c6;have d5:=aa (ai d4.o a1);have d0:=aa b4;have e3:=b0.o.size;simp at e3;clear a6 e0 a1 b3 a5 a7 b4 b7 b1;go_wp2;refine bodyPost_ret (v:=.tuple #[.agg #[Ud k,.slice (some ⟨a9,0,none⟩) n Y],.bool true]) (by simp[results,results187,go_sem,c5,c6,e4]) rfl ⟨_,_,rfl,?_,?_⟩
 ·exact aT (pD (pD d5.o (by omega) _ _) (by omega) _ _) (by omega)
 ·exact(d0.o.setCell (by simp) _).setCell (by simp) _
def oU(D:Nat)(W w:World)(g:Nat)(a:Option Addr)(n c:Nat)(bs:List UInt8)(e:Ending)(w':World):Prop:=
 ∃(k:Int) (h:Option Addr) (cv:Nat) (ss:List ByteArray),e= .returned (.agg #[Ud k,.slice h ss.length cv])/\w'.ownsRow w.1.size 9 1 (.slice h ss.length cv) ss.length (ap ss)/\ss.length<=D/\(∀s∈ss,s.size<=20)/\je W w w' g a n c bs
theorem bA.c2{w}{b}{x y}(h:bA w b #[x,y]):(w.cell? ⟨b,0,none⟩=some x/\w.cell? ⟨b,1,none⟩=some y)/\(w.frozen? ⟨b,0,none⟩=false/\w.frozen? ⟨b,1,none⟩=false):=⟨⟨h.cell 0,h.cell 1⟩,h.froz 0,h.froz 1⟩
theorem mo{base b}{w wr}(h:Below base w wr)(D:base<=b)(x y):Below base w ((wr.setCell ⟨b,0,none⟩ x).setCell ⟨b,1,none⟩ y):=by
 have E:Below base w (wr.setCell ⟨b,0,none⟩ x):=h.setCell D x;exact E.setCell D y
theorem nE{wr:World}{B e s n b}{v}{xs}(h:wr.ownsRow B e s v n xs)(D:b<B)(x y):((wr.setCell ⟨b,0,none⟩ x).setCell ⟨b,1,none⟩ y).ownsRow B e s v n xs:=
 pD (pD h D 0 x) D 1 y
theorem bA.setSh{w}{b}{x y}(h:bA w b #[x,y])(v):bA (w.setCell ⟨b,1,none⟩ v) b #[x,v]:=
 h.set v (by simp) λk=>match k with|0=>rfl|1=>rfl|k+2=>by simp
theorem Lm{k}(D:k<=3):∀(j:Nat) (v:Value),(ap (Fr.take k))[j]? =some v->#[Value.string ⟨#[97]⟩,Value.string ⟨#[98]⟩,Value.string ⟨#[99]⟩][j]? =some v:=λj v h=>by
 unfold ap at h;rw[mB] at h;rw[cP] at h;split at h
 ·simpa[Fr] using h
 ·cases h
theorem GM(W w)(g)(a)(n c)(bs)(h:Bz W w g a n c bs):
 Calls prog 101 #[.pointer (some ⟨g,0,none⟩)] w (oU 20 W w g a n c bs):=by
 have h2:g<w.1.size/\W.1.size<=w.1.size:=by obtain⟨i,k,x⟩:=h;exact⟨x.hi,x.bel.size⟩
 have a3:=h2.1;have a4:=h2.2;have Z:=aa (h.drew0.alloc (.cells #[Ud 0,.slice none 0 0] 28));have a5:=aa (bA.new w #[Ud 0,.slice none 0 0] 28);have i5:=aa (lq W _ g a n c bs 3 Z.o.1 (by omega) (by omega));unfold oU;clear h h2;go_enter func101,ntmps101;go_wp2_with fail;refine i5.o.mono ?_;rintro e i3 ⟨b,rfl,E⟩;have e6:=aa (a5.o.grown E.2 (by omega));have b3:=aa (Z.o.trans E);have m0:=b3.o.2.size;have l3:=b3.o.gW;clear E i5 a5 Z;cases b
 ·have U:=aa (b3.o.alloc (.cells #[Ud 1,Ud 1,Ud 2,Ud 0] 3));have b8:=aa (e6.o.alloc (.cells #[Ud 1,Ud 1,Ud 2,Ud 0] 3));have c8:=aa (jC W _ g a n c bs (some ⟨i3.1.size,0,none⟩) 4 4 [1,1,2,0] U.o.1 (by omega) (by omega) (nV (w:=i3) #[Ud 1,Ud 1,Ud 2,Ud 0] _ _ rfl (λj v f0=>by simpa[af] using f0) (by omega)) (λq f4 e=>by
   injection e with e
   injection e with e1
   omega))
  clear b3 e6;go_wp2_with fail;refine c8.o.mono ?_;rintro e f5 ⟨z,rfl,h9,E⟩;obtain⟨k,k5,j4,f1⟩:∃k:Nat,(1:Int)+z=(k:Int)/\1<=k/\k<=3:=by
   simp at h9;rcases h9 with rfl|rfl|rfl
   ·exact⟨2,by decide,by decide,by decide⟩
   ·exact⟨3,by decide,by decide,by decide⟩
   ·exact⟨1,by decide,by decide,by decide⟩
  have f7:=aa (b8.o.grown E.2 (by omega));have k8:=f7.o.lt;have a6:=aa ((U.o.trans E).alloc (.cells #[Ud (k:Int),.slice none 0 0] 28));have b1:=aa (f7.o.alloc (.cells #[Ud (k:Int),.slice none 0 0] 28));have g5:=aa (bA.new f5 #[Ud (k:Int),.slice none 0 0] 28);have k4:=(U.o.trans E).gW;have i6:=aa (dF W _ g a n c bs 5 a6.o.1 (by omega) (by omega));clear E h9 c8 U b8 f7;go_wp2_with fail;clear k5;refine i6.o.mono ?_;rintro e f6 ⟨l0,rfl,l4,E⟩;obtain⟨q,h5⟩:=aB f5.1.size;rw[<-h5] at g5 k4 k8;rw[<-h5];have c3:=aa (a6.o.trans E);have b9:=aa (b1.o.grown E.2 (by omega));have a7:=aa (g5.o.grown E.2 (by omega));clear E i6 a6 b1 g5 h5;go_wp2;go_loopw[6] (λi wr=>∃(j:Nat) (Y:Option Addr) (cv:Nat) (ss:List ByteArray) (m:Nat),i= Ud j/\ss.length=m/\j+m<=5/\bv (∀s∈ss,s.size<=20)/\bv (wr.ownsRow (q+1) 9 1 (.slice Y m cv) m (ap ss))/\bv (bA wr q #[Ud k,.slice Y m cv])/\bv (bA wr w.1.size #[Ud 0,.slice none 0 0])/\bv (je W w wr g a n c bs)) (λi _=>(intOf i).toNat);exact⟨l0,none,0,[],0,rfl,rfl,by omega,aa (by simp),aa (dk _ _ _ _),a7,b9,c3⟩;clear a7 b9 c3;obtain⟨j,Y,cv,ss,m,rfl,j6,f0,g6,e7,b4,c2,b2⟩:=hrel;have a9:=aa j6;clear j6;obtain⟨⟨e0,e2⟩,e3,e4⟩:=b4.o.c2;have l9:=b4.o.lt;have m2:=b2.o.2.size;have j3:=b2.o.gW;by_cases l7:0<j
  ·have l6:(k:Int)<=3:=by omega
   have l5:(0:Int)<=(k:Int):=(by omega);obtain⟨S,g9⟩:=aB (α:=World->Prop) (λV=>V.cell? ⟨q,0,none⟩=some (Ud k));have b6:=aa (show∀V,S V->V.cell? ⟨q,0,none⟩=some (Ud k) fromλV j1=>by rw[g9] at j1;exact j1);have a8:=aa (show∀V,bA V q #[Ud k,.slice Y m cv]->S V fromλV k2=>by rw[g9];exact k2.cell 0);have l1:S wr.drew:=a8.o _ (b4.o.below aZ.drew);clear g9 e0 e2 e3 e4;have Z:=aa (b2.o.app aZ.drew a3 a4);have e8:=aa (ai e7.o aZ.drew);have a5:=aa (c2.o.below aZ.drew);have d1:=aa (b4.o.below aZ.drew);clear b2 e7 c2 b4;go_wp2_with fail;refine dr (S:=S) 11 (by kernel_rfl) ?_;iterate 3 (refine kG rfl (by kernel_rfl) (λ_ _ _ h=>h) (by rfl) (by assumption) (λV F=>by have F:=b6.o V F;go_split_ands;go_simp;first|done|with_reducible rfl) ?_;try simp only[Act.put,ab,ac,ae])
   (refine jw 4 rfl (by kernel_rfl) (λ_ _ _ h=>h) (by rfl) (by assumption) (λV F=>by have F:=b6.o V F;go_split_ands;go_simp;first|done|with_reducible rfl) ?_;try simp only[Act.put,ab,ac,ae]);(refine jw 6 rfl (by kernel_rfl) (λ_ _ _ h=>h) (by rfl) (by assumption) (λV F=>by have F:=b6.o V F;go_split_ands;go_simp;first|done|with_reducible rfl) ?_;try simp only[Act.put,ab,ac,ae]);(refine jw 7 rfl (by kernel_rfl) (λ_ _ _ h=>h) (by rfl) (by assumption) (λV F=>by have F:=b6.o V F;go_split_ands;go_simp;first|done|with_reducible rfl) ?_;try simp only[Act.put,ab,ac,ae]);refine um (i:=3) (j:=5) rfl rfl (by kernel_rfl) (by decide) (by decide) (λK D=> ?_) (λK D=> ?_)
   ·have c5:=aa (GQ W _ g a n c bs k 2 Z.o.1 j4 f1 (by omega));go_simp;go_at_call 188;refine c5.o.mono ?_;rintro e j9 ⟨x,rfl,k9,I⟩;have a7:=aa (d1.o.grown I.2 (by omega));have e9:=a8.o _ a7.o;have j0:=a8.o _ (a7.o.alloc (.cells #[.string ⟨#[97]⟩,.string ⟨#[98]⟩,.string ⟨#[99]⟩] 9));have l2:=I.gW;have b5:=aa (a7.o.alloc (.cells #[.string ⟨#[97]⟩,.string ⟨#[98]⟩,.string ⟨#[99]⟩] 9));have c0:=aa ((a5.o.grown I.2 (by omega)).alloc (.cells #[.string ⟨#[97]⟩,.string ⟨#[98]⟩,.string ⟨#[99]⟩] 9));have a0:=aa ((Z.o.trans I).alloc (.cells #[.string ⟨#[97]⟩,.string ⟨#[98]⟩,.string ⟨#[99]⟩] 9));have c6:=aa ((fh e8.o I.2 (by omega)).alloc (.cells #[.string ⟨#[97]⟩,.string ⟨#[98]⟩,.string ⟨#[99]⟩] 9));have c9:=aa (kf W _ g a n c bs (some ⟨j9.1.size,0,none⟩) k 3 (Fr.take k) a0.o.1 (by omega) (by omega) (my _ _ _ (by simp[Fr];omega) (Lm f1) (by omega)) (λz f4 e=>by
     injection e with e
     injection e with e1
     omega))
    clear I a7 c5 Z e8 a5 d1;go_wp2_with fail;refine D.out _ _ e9 ?_;clear D K;try simp only[Act.put,ab,ac,ae]
    refine aY (i:=5) rfl (by kernel_rfl) (by decide) (λK D=> ?_);go_simp;refine D.out _ _ j0 ?_;clear D K;try simp only[Act.put,ab,ac,ae]
    have e9:=j0;(refine jw 8 rfl (by kernel_rfl) (λ_ _ _ h=>h) (by rfl) (by assumption) (λV F=>by have F:=b6.o V F;go_split_ands;go_simp;first|done|with_reducible rfl) ?_;try simp only[Act.put,ab,ac,ae]);refine aY (i:=9) rfl (by kernel_rfl) (by decide) (λK D=> ?_);go_simp;go_at_call 102;refine c9.o.mono ?_;rintro e i4 ⟨y,rfl,d9,O⟩;have h8:=sN d9;have c4:=aa (a0.o.trans O);have c7:=aa (fh c6.o O.2 (by omega));have c1:=aa (c0.o.grown O.2 (by omega));have J:=aa (b5.o.grown O.2 (by omega));have b0:=a8.o _ J.o;have h1:¬(9223372036854775807<x.size+1):=(by omega);clear O c9 a0 c6 c0 b5 d9;go_wp2_with fail;refine D.out _ _ b0 ?_;clear D K;try simp only[Act.put,ab,ac,ae]
    refine aY (i:=10) rfl (by kernel_rfl) (by decide) (λK D=> ?_);go_simp;refine D.out _ _ b0 ?_;clear D K;try simp only[Act.put,ab,ac,ae]
    refine cU rfl (by kernel_rfl) (by kernel_rfl) (λK D=> ?_);go_simp;refine D.out _ _ ?_;clear D K b0;obtain⟨⟨e0,e2⟩,e3,e4⟩:=J.o.c2;have d3:=aa (show(x++y).size<=20 by rw[aK];omega);have h6:=J.o.lt;have d0:=aa (Dm (q+1) m (.slice Y m cv) ss (x++y) i4 a9.o c7.o h6 (by omega));clear c7 h1 h8;go_wp2_with fail;refine d0.o.mono ?_;rintro e e5 ⟨d5,d4,Q,rfl,d7,h3,d6,a1⟩;have d2:=aa (J.o.at_ a1 (by omega));have f8:=aa (c1.o.at_ a1 (by omega));have f9:=aa (c4.o.app (a1.mono (by omega)) a3 a4);obtain⟨⟨e0,e2⟩,e3,e4⟩:=d2.o.c2;have g3:=aa d7;have g7:=aa (show∀s∈Q,s.size<=20 fromλs d8=>by
     rcases d6 s d8 with rfl|h
     ·exact d3.o
     ·exact g6.o s h)
    have g2:=aa (show j-1+Q.length<=5 from by have:=a9.o;omega);clear d0 d3 J c1 c4 a1 d7 h3 d6;go_wp2;go_roundw;exact⟨j-1,some ⟨d5,0,none⟩,d4,Q,Q.length,by go_num,rfl,g2.o,g7,aa (pD g3.o (cG q) _ _),aa (d2.o.setSh _),aa (f8.o.other (by omega) _),aa (f9.o.app (show Below w.1.size e5 (e5.setCell ⟨q,1,none⟩ (.slice (some ⟨d5,0,none⟩) Q.length d4)) from aZ.setCell (by show w.1.size<=q;omega) _) a3 a4)⟩;simp[intOf]<;>omega
   ·have a2:Below wr.drew.1.size wr.drew (wr.drew.alloc (.cells #[.string ⟨#[97]⟩,.string ⟨#[98]⟩,.string ⟨#[99]⟩] 9)):=aZ.alloc aQ _;have k3:=a8.o _ (d1.o.below a2);have g0:=aa (Z.o.alloc (.cells #[.string ⟨#[97]⟩,.string ⟨#[98]⟩,.string ⟨#[99]⟩] 9));have c5:=aa (GQ W _ g a n c bs k 2 g0.o.1 j4 f1 (by omega));have i7:=aa (my (w:=wr.drew) (e:=9) #[.string ⟨#[97]⟩,.string ⟨#[98]⟩,.string ⟨#[99]⟩] (Fr.take k) k (by simp[Fr];omega) (Lm f1) (by omega));go_simp;refine D.out _ _ k3 ?_;clear D K;try simp only[Act.put,ab,ac,ae]
    (refine jw 8 rfl (by kernel_rfl) (λ_ _ _ h=>h) (by rfl) (by assumption) (λV F=>by have F:=b6.o V F;go_split_ands;go_simp;first|done|with_reducible rfl) ?_;try simp only[Act.put,ab,ac,ae]);refine aY (i:=3) rfl (by kernel_rfl) (by decide) (λK D=> ?_);go_simp;go_at_call 188;refine c5.o.mono ?_;rintro e j9 ⟨x,rfl,k9,I⟩;have b5:=aa ((d1.o.below a2).grown I.2 (by omega));have c0:=aa ((a5.o.below a2).grown I.2 (by omega));have c6:=aa (fh (ai e8.o a2) I.2 (by omega));have a0:=aa (g0.o.trans I);have e9:=a8.o _ b5.o;have c9:=aa (kf W _ g a n c bs (some ⟨wr.drew.1.size,0,none⟩) k 3 (Fr.take k) a0.o.1 (by omega) (by omega) (i7.o.grown I.2 (λz f4 e=>by
     injection e with e
     injection e with e1
     have:g<wr.drew.1.size:=j3;omega)) (λz f4 e=>by
     injection e with e
     injection e with e1
     have:g<wr.drew.1.size:=j3;omega))
    clear I c5 Z e8 a5 d1 a2 g0 i7;go_wp2_with fail;refine D.out _ _ e9 ?_;clear D K;try simp only[Act.put,ab,ac,ae]
    refine aY (i:=9) rfl (by kernel_rfl) (by decide) (λK D=> ?_);go_simp;go_at_call 102;refine c9.o.mono ?_;rintro e i4 ⟨y,rfl,d9,O⟩;have h8:=sN d9;have c4:=aa (a0.o.trans O);have c7:=aa (fh c6.o O.2 (by omega));have c1:=aa (c0.o.grown O.2 (by omega));have J:=aa (b5.o.grown O.2 (by omega));have b0:=a8.o _ J.o;have h1:¬(9223372036854775807<x.size+1):=(by omega);clear O c9 a0 c6 c0 b5 d9;go_wp2_with fail;refine D.out _ _ b0 ?_;clear D K;try simp only[Act.put,ab,ac,ae]
    refine aY (i:=10) rfl (by kernel_rfl) (by decide) (λK D=> ?_);go_simp;refine D.out _ _ b0 ?_;clear D K;try simp only[Act.put,ab,ac,ae]
    refine cU rfl (by kernel_rfl) (by kernel_rfl) (λK D=> ?_);go_simp;refine D.out _ _ ?_;clear D K b0;obtain⟨⟨e0,e2⟩,e3,e4⟩:=J.o.c2;have d3:=aa (show(x++y).size<=20 by rw[aK];omega);have h6:=J.o.lt;have d0:=aa (Dm (q+1) m (.slice Y m cv) ss (x++y) i4 a9.o c7.o h6 (by omega));clear c7 h1 h8;go_wp2_with fail;refine d0.o.mono ?_;rintro e e5 ⟨d5,d4,Q,rfl,d7,h3,d6,a1⟩;have d2:=aa (J.o.at_ a1 (by omega));have f8:=aa (c1.o.at_ a1 (by omega));have f9:=aa (c4.o.app (a1.mono (by omega)) a3 a4);obtain⟨⟨e0,e2⟩,e3,e4⟩:=d2.o.c2;have g3:=aa d7;have g7:=aa (show∀s∈Q,s.size<=20 fromλs d8=>by
     rcases d6 s d8 with rfl|h
     ·exact d3.o
     ·exact g6.o s h)
    have g2:=aa (show j-1+Q.length<=5 from by have:=a9.o;omega);clear d0 d3 J c1 c4 a1 d7 h3 d6;go_wp2;go_roundw;exact⟨j-1,some ⟨d5,0,none⟩,d4,Q,Q.length,by go_num,rfl,g2.o,g7,aa (pD g3.o (cG q) _ _),aa (d2.o.setSh _),aa (f8.o.other (by omega) _),aa (f9.o.app (show Below w.1.size e5 (e5.setCell ⟨q,1,none⟩ (.slice (some ⟨d5,0,none⟩) Q.length d4)) from aZ.setCell (by show w.1.size<=q;omega) _) a3 a4)⟩;simp[intOf]<;>omega
  ·obtain rfl:j=0:=by omega
   obtain⟨⟨i1,i2⟩,u0,u1⟩:=c2.o.c2;have i0:=c2.o.lt;have g1:=aa (aT (nE e7.o (by omega:w.1.size<q+1) (Ud k) (.slice Y m cv)) (by omega:w.1.size<=q+1));have U:=aa (b2.o.app (mo (aV w.1.size wr) aQ (Ud k) (.slice Y m cv)) a3 a4);clear e7 b4 c2 b2;go_wp2;refine bodyPost_ret (v:=.agg #[Ud k,.slice Y m cv]) (by simp[results,results101,go_sem,i1,i2,i0]) rfl ?_;exact⟨_,Y,cv,ss,by rw[a9.o],by rw[a9.o];exact g1.o,by rw[a9.o];omega,g6.o,U.o⟩
 ·have i8:=aa (λt (h:t∈pu)=>FU h);have j7:=aa BS;have U:=aa (b3.o.alloc (.cells #[.string ⟨#[50,32,98,98]⟩,.string ⟨#[50,32,97,97,32,98,98]⟩,.string ⟨#[50,32,97,97,98]⟩,.string ⟨#[51,32,97,98,32,98,99,32,99,97]⟩,.string ⟨#[50]⟩,.string ⟨#[49]⟩,.string ⟨#[51,32,97,97,32,98,98,32,99,99]⟩,.string ⟨#[50,32,97,98,97,32,98,97,98]⟩,.string ⟨#[50,32,97,98]⟩,.string ⟨#[50,32,97,97,97,32,98,98]⟩,.string ⟨#[51,32,97,99,32,98,98]⟩] 9));have b8:=aa (e6.o.alloc (.cells #[.string ⟨#[50,32,98,98]⟩,.string ⟨#[50,32,97,97,32,98,98]⟩,.string ⟨#[50,32,97,97,98]⟩,.string ⟨#[51,32,97,98,32,98,99,32,99,97]⟩,.string ⟨#[50]⟩,.string ⟨#[49]⟩,.string ⟨#[51,32,97,97,32,98,98,32,99,99]⟩,.string ⟨#[50,32,97,98,97,32,98,97,98]⟩,.string ⟨#[50,32,97,98]⟩,.string ⟨#[50,32,97,97,97,32,98,98]⟩,.string ⟨#[51,32,97,99,32,98,98]⟩] 9));have c8:=aa (kf W _ g a n c bs (some ⟨i3.1.size,0,none⟩) 11 11 pu U.o.1 (by omega) (by omega) (my _ _ _ rfl (λj v f0=>by simpa[ap,pu] using f0) (by omega)) (λq f4 e=>by
   injection e with e
   injection e with e1
   omega))
  clear b3 e6;go_wp2_with fail;refine c8.o.mono ?_;rintro e f5 ⟨t,rfl,h7,E⟩;obtain⟨p,ss,k,hcut,j5,h4⟩:=i8.o t h7;have m1:=E.2.size;have a6:=aa (U.o.trans E);have b1:=aa (b8.o.grown E.2 (by omega));have j8:=a6.o.2.size;have g4:=aa (tJ t p k ss f5 (by have:=j7.o t h7;omega) hcut j5 h4);obtain⟨_,k6,j2,_⟩:=dD h4;have k1:=aa (show∀s∈ss,s.size<=20 fromλs d8=>by
   obtain⟨i,hi⟩:=cf.1 d8;have:=(j2 i s hi).2.2;omega)
  have k0:=aa (show ss.length<=20 by omega);unfold JO at g4;clear E h7 c8 U b8 i8 j7 hcut j5 h4 k6 j2;go_wp2_with fail;refine g4.o.mono ?_;rintro e f6 ⟨q,b7,rfl,f3,h0⟩;obtain⟨m,f2⟩:=aB ss.length;rw[<-f2] at f3;rw[<-f2];have i9:=aa f2;have b9:=aa (b1.o.below h0);have l8:=f3.lt q rfl;have g8:=b9.o.alloc (.cells #[Ud k,.slice (some ⟨q,0,none⟩) m b7] 28);obtain⟨⟨i1,i2⟩,u0,u1⟩:=g8.c2;have i0:=g8.lt;have k7:=b1.o.lt;have a2:Below f6.1.size f6 (f6.alloc (.cells #[Ud k,.slice (some ⟨q,0,none⟩) m b7] 28)):=aZ.alloc aQ _;have g1:=aa (aT (nE (ai f3 a2) k7 (Ud k) (.slice (some ⟨q,0,none⟩) m b7)) j8);have c3:=aa ((a6.o.app (h0.mono j8) a3 a4).alloc (.cells #[Ud k,.slice (some ⟨q,0,none⟩) m b7] 28));have a0:=aa (c3.o.app (mo (aV w.1.size _) aQ (Ud k) (.slice (some ⟨q,0,none⟩) m b7)) a3 a4);clear f3 h0 g8 f2 b1 a6 g4 a2 c3 b9;go_wp2;refine bodyPost_ret (v:=.agg #[Ud (k:Int),.slice (some (Addr.mk q 0 none)) m b7]) (by simp[results,results101,go_sem,i1,i2,i0]) rfl ?_;exact⟨_,_,_,ss,by rw[<-i9.o],by rw[<-i9.o];exact g1.o,k0.o,k1.o,a0.o⟩
end Go.Proofs.YtbdlbckeffakjaaGreatDoor
