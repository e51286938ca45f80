/- The root of a word, both ways. Conditions: a word of three letters, not empty, short. -/
import Derived.Test.YtbdlbckeffakjaaGreatDoorIsSh
namespace Go.Proofs.YtbdlbckeffakjaaGreatDoor
set_option maxHeartbeats 8000000
set_option maxRecDepth 100000
open Go.Proofs.Tryz Go.RowKit
noncomputable def ub(ss:List ByteArray)(k h i:Nat):Bool:=EH ss ((iu ss k).map (db k 2)) (db k h i)
theorem Td(ss)(k h i):Jw ss ((iu ss k).map (db k 2)) (db k h i)=ub ss k h i:=RE SA
theorem eN{ss}{k}(D:k<=3):(iu ss k).length<=9:=by
 have h:=bz (mI ss k) (List.range (k^2));rw[cD] at h;have E:k^2<=3^2:=fa D 2;unfold iu;omega
theorem Ph(k M n c J D I h i)(a)(ss)(E)(V)(Q:aO V a n (ap ss))(Z:n<=1048576)(W:M<=1048576)(U:aO V E M (ap ((iu ss k).map (db k 2))))(a4:h<=1048576)(O:ru V)
 (a1:V.cell? ⟨D,0,none⟩=some (Ud k))(a2:V.cell? ⟨D,1,none⟩=some (.slice a n c))(a3:V.cell? ⟨I,0,none⟩=some (.slice E M J)):
 Calls prog 220 #[.string (db k h i),.pointer (some ⟨D,0,none⟩),.pointer (some ⟨I,0,none⟩)] V λe w'=>e= .returned (.bool (ub ss k h i))/\Below V.1.size V w':=by
 have F:=aa (Ty k M a n c ss ((iu ss k).map (db k 2)) E J (db k h i) V Q Z (λt a0=>by obtain⟨j,_,rfl⟩:=bi.1 a0;rw[ce];omega) W U (by rw[ce];omega) O);rw[Td] at F;go_enter func220,ntmps220;go_wp2_with fail;refine F.o.mono ?_;rintro e a5 ⟨rfl,Y⟩;go_wp2;go_ret;exact⟨rfl,Y⟩
theorem Au(k h:Nat)(a)(n c)(ss)(w)(c4:aO w a n (ap ss))(a3:1<=k/\k<=3)(b6:n<=1048576)(a6:ru w)(c1:h<=8):
 Calls prog 138 #[.agg #[Ud k,.slice a n c],Ud h] w (dC (ub ss k h) k h w):=by
 obtain⟨D,Q⟩:=aB (w.alloc (.cells #[Ud k,.slice a n c] 28));have J:Below w.1.size w D:=by rw[Q];exact aZ.alloc aQ _
 have e2:D.1.size=w.1.size+1:=by rw[Q];simp
 have U:bA D w.1.size #[Ud k,.slice a n c]:=by rw[Q];exact bA.new _ _ _
 have c6:=U.cell 0;have c7:=U.cell 1;have a7:=c4.below J aQ;have Z:=aa (BX k a n c ss D a7 a3 b6 (em a6 J aQ));have b1:=aa (eN (ss:=ss) a3.2);have d7:=aa a3;have c9:=aa U;have d3:=aa a7;have d1:=aa (em a6 J aQ);have a9:=aa J;have Y:=aa (λ(I M a4:Nat) (F:Option Addr) (a0:World) (E:Below D.1.size D a0) (e0:M<=9) (a8:aO a0 F M (ap ((iu ss k).map (db k 2)))) (d5:a4<a0.1.size) (d4:a0.cell? ⟨a4,0,none⟩=some (.slice F M I))=>
  Hm k h 220 (.pointer (some ⟨w.1.size,0,none⟩)) (.pointer (some ⟨a4,0,none⟩)) (ub ss k h) a0 a3 c1
   (λi V _ O=>Ph k M n c I w.1.size a4 h i a ss F V (a7.below (E.trans (O.mono E.size)) aQ) b6 (by omega) (a8.below O aQ) (by omega) (em (em a6 J aQ) (E.trans (O.mono E.size)) aQ)
    ((U.below (E.trans (O.mono E.size))).cell 0) ((U.below (E.trans (O.mono E.size))).cell 1) ((O.cell d5).trans d4))
   (λx w=>Tryz.call220 _ w))
 unfold sO at Z;unfold dC at Y;unfold dC;obtain⟨N,b7⟩:=aB ((iu ss k).length);obtain⟨d9,b8⟩:=aB (ap ((iu ss k).map (db k 2)));obtain⟨d,b5⟩:=aB (((List.range (k^h)).filter (ub ss k h)).length);obtain⟨d8,b3⟩:=aB (ap (kp (ub ss k h) k h (k^h)));rw[<-b5,<-b3] at Y;rw[<-b5,<-b3];rw[<-b8] at Y Z;rw[<-b7] at Z b1;clear J c4 a7 a6 U b7 b8 b5 b3 b6 a3 c1;go_enter func138,ntmps138;go_wp2_with(rw[<-Q]);first|rw[<-Q]|skip
 clear Q;refine Z.o.mono ?_;rintro e W ⟨v,rfl,c2,b4⟩;have e1:=b1.o;obtain⟨F,I,rfl,a8⟩:=aS c2 (by omega);obtain⟨a1,a5⟩:=aB (W.alloc (.cells #[.slice F N I] 26));have b2:Below W.1.size W a1:=by rw[a5];exact aZ.alloc aQ _
 have d6:a1.1.size=W.1.size+1:=by rw[a5];simp
 have c0:a1.cell? ⟨W.1.size,0,none⟩=some (.slice F N I):=by rw[a5];exact(aL _ _ _ _ rfl).trans rfl
 have c5:=b4.size;have a2:Below D.1.size D a1:=b4.trans (b2.mono c5);have e3:=(a2.cell (p:=⟨w.1.size,0,none⟩) (by show w.1.size<_;omega)).trans c6;have e4:=(a2.cell (p:=⟨w.1.size,1,none⟩) (by show w.1.size<_;omega)).trans c7;have d0:=aa (Y.o I N W.1.size F a1 a2 b1.o (a8.below b2 aQ) (by omega) c0);have b0:=aa (a9.o.trans (a2.mono a9.o.size));clear c2 a8 c6 c7 b2 d6 c0 c5 a2 b4 Y a9 d3 d1 c9 Z;subst a5;go_wp2_with fail;refine d0.o.mono ?_;rintro e e6 ⟨e5,rfl,c3,b9⟩;have d2:=aa (aT (base':=w.1.size) c3 b0.o.size);have c8:=aa (b0.o.trans (b9.mono b0.o.size));clear c3 b9;go_wp2;go_ret;exact⟨_,rfl,d2.o,c8.o⟩
theorem vX(k h:Nat)(a)(n c)(ss)(w)(O:aO w a n (ap ss))(a0:iO k ss=true)(a5:ru w)(b4:h<=6):
 Calls prog 146 #[.agg #[Ud k,.slice a n c],Ud h] w (dC (ub ss k h) k h w):=by
 obtain⟨a4,b2,b5,_⟩:=dD a0;have b3:ss.length=n:=by simpa[ap] using O.len
 obtain⟨I,D⟩:=aB (w.alloc (.cells #[Ud k,.slice a n c] 28));have U:Below w.1.size w I:=by rw[D];exact aZ.alloc aQ _
 have b9:I.1.size=w.1.size+1:=by rw[D];simp
 have Y:bA I w.1.size #[Ud k,.slice a n c]:=by rw[D];exact bA.new _ _ _
 have a7:=Y.cell 0;have a8:=Y.cell 1;have a1:=aa (kt k a n c ss I (O.below U aQ) a0);have F:=aa (λ(V:World) (a2:Below w.1.size w V)=>Au k h a n c ss V (O.below a2 aQ) a4 (by omega) (em a5 a2 aQ) (by omega));unfold dC at F;unfold dC;obtain⟨d,Z⟩:=aB (((List.range (k^h)).filter (ub ss k h)).length);obtain⟨b6,W⟩:=aB (ap (kp (ub ss k h) k h (k^h)));rw[<-Z,<-W] at F;rw[<-Z,<-W];have Q:=aa U;have b7:¬((h:Int)<0):=(by omega);have b8:¬((6:Int)<(h:Int)):=(by omega);go_enter func146,ntmps146;go_wp2_with(rw[<-D]);first|rw[<-D]|skip
 refine a1.o.mono ?_;rintro e c3 ⟨rfl,J⟩;have c0:=(J.cell (p:=⟨w.1.size,0,none⟩) (by show w.1.size<_;omega)).trans a7;have c1:=(J.cell (p:=⟨w.1.size,1,none⟩) (by show w.1.size<_;omega)).trans a8;have E:=aa (Q.o.trans (J.mono Q.o.size));have b0:=aa (F.o _ E.o);go_wp2_with fail;refine b0.o.mono ?_;rintro e c4 ⟨c2,rfl,a6,a3⟩;have b1:=aa (aT (base':=w.1.size) a6 E.o.size);have a9:=aa (E.o.trans (a3.mono E.o.size));go_wp2;go_ret;exact⟨_,rfl,b1.o,a9.o⟩
theorem ow{P}{wr:World}{O}{U}{o}{a}{Q}
 (Z:o.guard=none)(s x)(t)(a5:o.op=Op.call {callee:=Callee.builtin Builtin.append,args:=#[s,x],argTypes:=#[t,t]})
 (B)(e)(z)(I)(W:P.underlying t=some (.slice e))(a1:(P.info? e).map (λi=>(i.zero,i.size,i.bytes))=some (some z,1,I))(b5:z.cells.size=1)
 (v)(m)(xs)(u)(a7:wr.ownsRow B e 1 v m xs)(a9:a.eval s=v)(b1:a.eval x= .slice (some ⟨wr.1.size,0,none⟩) 1 1)
 (b0:u.oneCell'=true)(a2:(m+1)*I<=140737488355328)(a3:m+1<=maxLen)(b6:B<=wr.1.size)
 (Y:∀v' E,E.ownsRow B e 1 v' (m+1) (xs++[u])->wr.grownBy E v.ownBlock->(∀D,v.ownBlock≠some D->D<wr.1.size->v'.ownBlock≠some D)->wpList P O Q U (a.put o.dst v') E):
 wpList P O Q (o::U) a (wr.alloc (.cells #[u] e)):=by
 obtain⟨i,hi,b2,b3,b4⟩:=info_parts a1;refine wpList_append_lies _ Z s x t a5 B e i z 1 I W hi b2 b3 b4 b5 (by decide) v m xs a9 (a7.alloc _) ⟨wr.1.size,0,none⟩ 1 1 [u] b1 rfl ?_ ?_ (by decide) a3 a2 (by simp;omega) (wr.1.size+1) (by simp) ?_
 ·intro j y F;match j,F with
  |0,F=>simp at F;subst F;simp[Addr.add]
 ·intro y J;simp at J;subst J;exact b0
 ·intro g cap E a8 a0 a6 _;refine Y _ E a8 (dd (cC _ _ _) a0) ?_;intro D a4 b7;rcases a6 with h|h
  ·intro e;apply a4;rw[h];simpa[Value.ownBlock] using e
  ·intro e;have:g=D:=by simpa[Value.ownBlock] using e
   omega
theorem lf(k E:Nat)(a)(n c)(ss)(w)(a8:aO w a n (ap ss))(d5:iO k ss=true)(m4:E<=6):
 Calls prog 33 #[.agg #[Ud k,.slice a n c],Ud E] w (dC (ub ss k E) k E w):=by
 obtain⟨a1,m2,h5,_⟩:=dD d5;have j4:ss.length=n:=by simpa[ap] using a8.len
 have e0:∀t∈ss,t.size<=1048576:=λt e2=>by
  obtain⟨i,hi⟩:=cf.1 e2;have:=(h5 i t hi).2.2;omega
 have j7:=eb a1.2 (show E<=8 by omega);have b1:=aa (λw:World=>le k E w a1 (by omega));have e6:=aa (λ(V:World) (F:Below w.1.size w V)=>iW k a n c ss V (a8.below F aQ) d5);have e9:=aa (λw=>eB (E:Int) 0 6 w);rw[fj (show(0:Int)<=(E:Int)/\(E:Int)<=6 by omega)] at e9;have a6:=aa (λ(V:World) (F:Below w.1.size w V)=>MS k a n c ss V (a8.below F aQ) e0 a1 (by omega));have e8:=aa (eN (ss:=ss) a1.2);have c0:=aa (λ(V:World) (M U i:Nat) (O:Option Addr) (F:Below w.1.size w V) (l5:M<=9) (j8:aO V O M (ap ((iu ss k).map (db k 2))))=>show Calls prog 108 #[.agg #[Ud k,.slice a n c],.slice O M U,.string (db k E i)] V λe w'=>e= .returned (.bool (ub ss k E i))/\Below V.1.size V w' from
  SW k M a n c ss ((iu ss k).map (db k 2)) O U (db k E i) V (a8.below F aQ) e0 (by omega) (λt e2=>by obtain⟨j,_,rfl⟩:=bi.1 e2;rw[ce];omega) (by omega) j8 (by rw[ce];omega))
 unfold Qs at a6;unfold iK at b1;unfold dC;obtain⟨p,d9⟩:=aB (ub ss k E);rw[<-d9] at c0;rw[<-d9];obtain⟨N,f9⟩:=aB ((iu ss k).length);obtain⟨i9,g0⟩:=aB (ap ((iu ss k).map (db k 2)));rw[<-g0] at c0 a6;rw[<-f9] at a6 e8;obtain⟨m,b4⟩:=aB (k^E);rw[<-b4] at b1 j7;rw[<-b4];have m3:1<=m:=by rw[b4];exact gK _ _ (by omega)
 obtain⟨D,a2⟩:=aB (w.alloc (.cells #[Ud k,.slice a n c] 28));have c9:Below w.1.size w D:=by rw[a2];exact aZ.alloc aQ _
 have e1:D.1.size=w.1.size+1:=by rw[a2];simp
 have d2:bA D w.1.size #[Ud k,.slice a n c]:=by rw[a2];exact bA.new _ _ _
 have Y:=aa (λ(V:World) (F:Below D.1.size D V)=>show(V.cell? ⟨w.1.size,0,none⟩=some (Ud k)/\V.cell? ⟨w.1.size,1,none⟩=some (.slice a n c))/\Below w.1.size w V from⟨⟨(d2.below F).cell 0,(d2.below F).cell 1⟩,c9.trans (F.mono (by omega))⟩);have f1:=aa (bd (w:=D) (base:=D.1.size) (e:=9) #[] [] rfl aQ (by unfold maxLen;simp));have a9:=aa (show Below D.1.size D (D.alloc (.cells #[] 9)) from aZ.alloc aQ _);have k1:=c9.size;obtain⟨⟨k2,k3⟩,g2⟩:=Y.o _ a9.o;have e7:=aa (e6.o _ g2);clear c9 d2 d9 b4 a1 a8 e0 f9 g0 d5 h5 j4 g2 e6;go_enter func33,ntmps33;go_wp2_with(first|rw[<-a2]);first|rw[<-a2]|skip
 clear a2;refine e7.o.mono ?_;rintro e k6 ⟨rfl,d0⟩;have g1:Below D.1.size D k6:=a9.o.trans (d0.mono a9.o.size);obtain⟨⟨e3,e4⟩,g3⟩:=Y.o _ g1;have f6:=aa (a6.o _ g3);have c3:=aa (ai f1.o d0);have b5:=aa g1;clear d0 g3 k2 k3 a6 e7 f1 a9;go_wp2_with(go_at_call 96;refine(e9.o _).mono ?_;rintro e w' ⟨rfl,rfl⟩);refine f6.o.mono ?_;rintro e h7 ⟨v,rfl,d6,a7⟩;have l6:=e8.o;obtain⟨O,U,rfl,h4⟩:=aS d6 (by omega);have d1:Below D.1.size D h7:=b5.o.trans (a7.mono b5.o.size);obtain⟨⟨k4,k5⟩,_⟩:=Y.o _ d1;have Z:=aa (ai c3.o a7);have b6:=aa d1;have k9:=aa h4;have d7:=d6;have m5:=(c3.o.lt D.1.size rfl).2;clear d6 h4 a7 d1 e3 e4 c3 b5 f6;go_wp2_with fail;refine(b1.o _).mono ?_;rintro e k7 ⟨v,rfl,d8,a0⟩;obtain⟨W,j0,rfl,j3,j6⟩:=d8.form (by omega);have j9:=b6.o.size;have m1:=Z.o.lt D.1.size rfl;have l8:W≠D.1.size:=(by omega);have f7:=aa (aT (base':=D.1.size) d8 (by omega));have f2:=aa (show k7.ownsRow D.1.size 9 1 (.slice (some ⟨D.1.size,0,none⟩) 0 0) ((List.range 0).filter p).length (ap (kp p k E 0)) from ai Z.o a0);have f0:=aa (show(Value.slice (some ⟨D.1.size,0,none⟩) 0 0).ownBlock≠some W by simp[Value.ownBlock];omega);have e5:=aa (b6.o.trans (a0.mono j9));have f4:=aa (aT (base':=D.1.size) (ai d7 a0) (by omega));have f5:=aa (λ(I:Nat) (h:(Value.slice O N U).ownBlock=some I)=>show(Value.slice (some ⟨D.1.size,0,none⟩) 0 0).ownBlock≠some I from by have:=(d7.lt I h).1;simp[Value.ownBlock];omega);clear d8 a0 j6 j3 d7 k4 k5 Z b6 b1;go_wp2;go_loopw[5,8] (λv i wr=>∃j:Nat,j<=m/\i= Ud j/\bv (wr.ownsRow D.1.size 9 1 v ((List.range j).filter p).length (ap (kp p k E j)))/\bv (v.ownBlock≠some W)/\bv (wr.ownsRow D.1.size 9 1 (.slice (some ⟨W,0,none⟩) m j0) m (ap (wds k E m)))/\bv (∀I,(Value.slice O N U).ownBlock=some I->v.ownBlock≠some I)/\bv (wr.ownsRow D.1.size 9 1 (.slice O N U) N i9)/\bv (Below D.1.size D wr)) (λ_ i _=>m-(intOf i).toNat)
 refine⟨0,by omega,rfl,?_,?_,f7,?_,f4,e5⟩
 ·rw[<-e1];exact f2
 ·rw[<-e1];exact f0
 ·rw[<-e1];exact f5
 clear f2 f0 f7 f4 f5 e5;obtain⟨j,l9,rfl,a5,c2,c8,c6,c5,Q⟩:=hrel;have j2:=yk p j;by_cases j5:j<m
 ·have m0:(j:Int)<(m:Int):=by omega
  obtain⟨l0,l3,g8,h2⟩:=aS c8.o (by omega);simp only[aJ,true_and] at g8;obtain⟨rfl,rfl⟩:=g8;obtain⟨l2,m6,g7,a0,g6⟩:=h2.at_ (by omega);simp only[aI,cA,and_true] at g7;obtain⟨rfl,rfl⟩:=g7;have g5:=g6 j _ (bJ (mt j5));rw[aW] at g5;obtain⟨l1,l4,g9,h3⟩:=aS c5.o (by omega);simp only[aJ,true_and] at g9;obtain⟨rfl,rfl⟩:=g9;obtain⟨⟨e3,e4⟩,g4⟩:=Y.o _ Q.o;have b7:=aa g4;have c1:=aa (λ(V:World) (F:Below wr.1.size wr V)=>show V.cell? ⟨w.1.size,0,none⟩=some (Ud k)/\V.cell? ⟨w.1.size,1,none⟩=some (.slice a n c)/\V.cell? ⟨W,j,none⟩=some (.string (db k E j))/\Below wr.1.size wr V from⟨(Y.o _ (Q.o.trans (F.mono Q.o.size))).1.1,(Y.o _ (Q.o.trans (F.mono Q.o.size))).1.2,(F.cell (p:=⟨W,j,none⟩) a0).trans g5,F⟩);have b9:=aa (λ(V:World) (F:Below wr.1.size wr V)=>c0.o V N U j O (b7.o.trans (F.mono b7.o.size)) (by omega) (h3.below F aQ));have J:Below wr.1.size wr wr.drew:=aZ.drew;clear h2 g6 g4 h3;obtain⟨d,d3⟩:=aB (((List.range j).filter p).length);have k8:=aa d3;have b2:=aa (λh:p j=true=>uL (k:=k) (n:=E) h);have b0:=aa (λh:p j=false=>Ax (k:=k) (n:=E) h);have a4:=aa (λh:p j=true=>uV h);have a3:=aa (λh:p j=false=>Bj h);have k0:=Q.o.size;have c4:=a5.o;rw[<-d3] at c4 j2 a4 a3;have a5:=aa c4;clear c4 d3;obtain⟨o,h0⟩:=aB (p j);rw[<-h0] at b9 b2 b0 a4 a3;clear h0;go_wp2;go_region_held3(λV=>V.cell? ⟨w.1.size,0,none⟩=some (Ud k)/\V.cell? ⟨w.1.size,1,none⟩=some (.slice a n c)/\V.cell? ⟨W,j,none⟩=some (.string (db k E j))/\Below wr.1.size wr V)
   (first|with_reducible exact c1.o _ J)
   (first|(go_at_call 108;refine(b9.o _ J).mono ?_;rintro e h7 ⟨rfl,a7⟩;have J:=J.trans (a7.mono J.size)))
  have b8:=aa (Q.o.trans (J.mono k0));have f3:=aa (ai a5.o J);have f8:=aa (ai c8.o J);have c7:=aa (ai c5.o J);have h6:=b8.o.size;have j1:=aH a0 J.size;have l7:=(c1.o _ J).2.2.1;clear J b9 c1 a5 c8 c5 Q b7 e3 e4;cases o with
  |false=>
   have i4:=aa (b0.o rfl);have h9:=aa (a3.o rfl);clear b2 b0 a4 a3;go_wp2;go_roundw;exact⟨j+1,by omega,by go_num,aa (by rw[i4.o,h9.o];exact f3.o),c2,f8,c6,c7,b8⟩;simp[intOf];omega
  |true=>
   have i8:=aa (b2.o rfl);have i0:=aa (a4.o rfl);clear b2 b0 a4 a3;have Z:=f3.o;go_wp2_with(first|(at_builtin;go_must(refine ow rfl _ _ 26 rfl D.1.size 9 (.string ByteArray.empty) 16 underlying26 iG rfl _ d _ _ Z rfl rfl rfl (by omega) (by unfold maxLen;omega) h6 ?_);intro v' m7 h1 b3 d4));have i5:=aa h1;have i1:=aa (d4 W c2.o j1);have i6:=aa (λ(I:Nat) (h:(Value.slice O N U).ownBlock=some I)=>d4 I (c6.o I h) (c7.o.lt I h).2);have i3:=aa (f8.o.kept b3 (Or.inr λe=>c2.o (by rw[<-e];rfl)));have i7:=aa (c7.o.kept b3 (by
    cases hv:(Value.slice O N U).ownBlock with
    |none=>exact Or.inl rfl
    |some I=>exact Or.inr λe=>c6.o I hv e.symm))
   have h8:=aa (b8.o.grown b3 h6 (λk a1=>(Z.lt k a1).1));clear h1 b3 d4 Z;go_roundw;exact⟨j+1,by omega,by go_num,aa (by rw[i8.o,i0.o];exact i5.o),i1,i3,i6,i7,h8⟩;simp[intOf];omega
 ·obtain rfl:j=m:=by omega
  have i2:=aa (aT (base':=w.1.size) a5.o k1);go_wp2;go_ret;exact⟨_,rfl,i2.o,(Y.o _ Q.o).2⟩
theorem RD{ss}{k i}(I:1<=k/\k<=3)(hi:i<k^2):ub ss k 2 i=mI ss k i:=by
 unfold ub EH;have F:(db k 2 i).extract 0 2=db k 2 i:=by
  apply jk;apply jQ.1;have O:(db k 2 i).1.1.length=2:=by rw[bM,ce]
  rw[ep,fD,er,eY,aM (by omega)]
 have J:(db k 2 i).extract ((db k 2 i).size-2) (db k 2 i).size=db k 2 i:=by
  rw[ce];exact F
 rw[F,J,RF I hi,eq];by_cases h:((iu ss k).map (db k 2)).length=0
 ·rw[if_pos h];cases hl:mI ss k i with
  |false=>rfl
  |true=>
   have E:i∈iu ss k:=bY.2 ⟨aD.2 hi,hl⟩;rw[dc] at h;rw[fI.1 h] at E;cases E
 ·rw[if_neg h];by_cases D:oS ss (pd k 2 i)=false
  ·rw[if_pos D];cases hl:mI ss k i with
   |false=>rfl
   |true=>
    have:=(kq (sa.1 hl)).2;unfold Jb oH at this;rw[D] at this;cases this
  ·rw[if_neg D,ce,if_pos aQ,Bool.and_self]
theorem PO{ss}{k}(h:1<=k/\k<=3):(List.range (k^2)).filter (ub ss k 2)=iu ss k:=by
 unfold iu;exact eX λi hi=>RD h (aD.1 hi)
theorem GT{ss}{k}(D:1<=k/\k<=3){w}{e}{w'}(h:dC (ub ss k 2) k 2 w e w'):sO ss k w e w':=by
 unfold dC kp at h;rw[PO D] at h;exact h
theorem mR(k)(a)(n c)(ss)(w)(O:aO w a n (ap ss))(F:iO k ss=true):
 Calls prog 66 #[.agg #[Ud k,.slice a n c]] w (sO ss k w):=by
 have E:=(aV w.1.size w).alloc aQ (.cells #[Ud k,.slice a n c] 28);have U:=aa ((lf k 2 a n c ss _ (O.below E aQ) F (by omega)).mono λe w' h=>GT (dD F).1 h);have D:=aa E;go_enter func66,ntmps66;go_wp2_with fail;refine U.o.mono ?_;rintro e Z ⟨Y,rfl,J,I⟩;have W:=aa (aT (base':=w.1.size) J D.o.size);have Q:=aa (D.o.trans (I.mono D.o.size));go_wp2;go_ret;exact⟨_,rfl,W.o,Q.o⟩
theorem qX(k)(a)(n c)(ss)(w)(Q:aO w a n (ap ss))(F:iO k ss=true)(J:ru w):
 Calls prog 61 #[.agg #[Ud k,.slice a n c]] w (sO ss k w):=by
 have D:=(aV w.1.size w).alloc aQ (.cells #[Ud k,.slice a n c] 28);have W:=aa ((vX k 2 a n c ss _ (Q.below D aQ) F (em J D aQ) (by omega)).mono λe w' h=>GT (dD F).1 h);have E:=aa D;go_enter func61,ntmps61;go_wp2_with fail;refine W.o.mono ?_;rintro e a0 ⟨Z,rfl,O,I⟩;have Y:=aa (aT (base':=w.1.size) O E.o.size);have U:=aa (E.o.trans (I.mono E.o.size));go_wp2;go_ret;exact⟨_,rfl,Y.o,U.o⟩
def gF(ss:List ByteArray)(k:Nat)(L:List Nat)(p q:Nat):Int:=if eP ss k (L.getD p 0) (L.getD q 0)=true then 1 else 0
noncomputable def gM(ss:List ByteArray)(k:Nat):List (List Int):=jp (iu ss k).length (gF ss k (iu ss k)) (iu ss k).length 0
theorem PJ{ss}{k}{L}{p q i j}(h:L[p]? =some i)(D:L[q]? =some j):gF ss k L p q=if eP ss k i j=true then 1 else 0:=by
 unfold gF;rw[ah,ah,h,D];rfl
theorem PK(ss)(k)(L)(p q):0<=gF ss k L p q/\gF ss k L p q<=1:=by
 unfold gF;split<;>omega
theorem oN(ss)(k):cS (gM ss k) (iu ss k).length (iu ss k).length:=fr _ _ _ _
theorem xE(ss)(k p q)(h:p<(iu ss k).length)(D:q<(iu ss k).length):0<=cB (gM ss k) p q/\cB (gM ss k) p q<=1:=by
 unfold gM;rw[ly h D,if_pos (by omega)];exact PK ss k _ p q
theorem Eg{ss}{k t q:Nat}(h:(iu ss k)[t]? =some q):q<k^2:=by
 have:=bY.1 (aj h);exact aD.1 this.1
def ns(ss:List ByteArray)(k:Nat)(w:World)(e:Ending)(w':World):Prop:=∃v,e= .returned (.tuple #[v,.bool (decide ((iu ss k).length≠0))])/\((iu ss k).length≠0->ct 37 3 w' w.1.size v (gM ss k))/\Below w.1.size w w'
def vS(M:List (List Int))(N:Nat):Nat->Nat->Int|0,_=>1|t+1,q=>cd (λp=>vS M N t p*cB M p q) N
def vI(M:List (List Int))(N:Nat):Nat->Nat->Int|0,_=>1|t+1,i=>cd (λj=>cB M i j*vI M N t j) N
theorem NP(M)(N t s):cd (λq=>vS M N (t+1) q*vI M N s q) N=cd (λp=>vS M N t p*vI M N (s+1) p) N:=by
 have h:cd (λq=>vS M N (t+1) q*vI M N s q) N=cd (λq=>cd (λp=>vS M N t p*cB M p q*vI M N s q) N) N:=ic λq _=>(wO _ _ _).symm
 have D:cd (λp=>vS M N t p*vI M N (s+1) p) N=cd (λp=>cd (λq=>vS M N t p*cB M p q*vI M N s q) N) N:=ic λp _=>by
  rw[show vI M N (s+1) p=cd (λj=>cB M p j*vI M N s j) N from rfl,<-IC];exact ic λq _=>(Int.mul_assoc _ _ _).symm
 rw[h,D,zz]
theorem JT(M:List (List Int))(N:Nat):∀t s,cd (λq=>vS M N t q*vI M N s q) N=cd (vI M N (t+s)) N
 |0,s=>by rw[aW];exact ic λq _=>by show(1:Int)*_=_;omega
 |t+1,s=>by rw[NP,JT M N t (s+1)];congr 2;omega
theorem TZ(M)(N t):cd (vS M N t) N=cd (vI M N t) N:=by
 have:=JT M N t 0;rw[ea] at this;rw[<-this];exact ic λq _=>by show _=_*(1:Int);omega
theorem NO{M:List (List Int)}{N:Nat}(F:N<=9)(D:∀p q,p<N->q<N->0<=cB M p q/\cB M p q<=1):∀(t q:Nat),q<N->0<=vS M N t q/\vS M N t q<=(9^t:Nat)
 |0,q,_=>⟨by show(0:Int)<=1;omega,by show(1:Int)<=_;simp⟩
 |t+1,q,hq=>by
  have h:=iV (f:=λp=>vS M N t p*cB M p q) (n:=N) (B:=(9^t:Nat)*1) (λp E=>qA (NO F D t p E) (D p q E hq)) N aQ;refine⟨h.1,ir h.2 ?_⟩;rw[Int.mul_one,ft,nj,fP];exact cQ (by omega) (kF _)
theorem So{M:List (List Int)}{N:Nat}(F:N<=9)(D:∀p q,p<N->q<N->0<=cB M p q/\cB M p q<=1):∀(t q:Nat),q<N->0<=vI M N t q/\vI M N t q<=(9^t:Nat)
 |0,q,_=>⟨by show(0:Int)<=1;omega,by show(1:Int)<=_;simp⟩
 |t+1,q,hq=>by
  have h:=iV (f:=λp=>cB M q p*vI M N t p) (n:=N) (B:=1*(9^t:Nat)) (λp E=>qA (D q p hq E) (So F D t p E)) N aQ;refine⟨h.1,ir h.2 ?_⟩;rw[Int.one_mul,ft,nj,fP];exact cQ (by omega) (kF _)
theorem Oz{t}(h:t<=4):(9^t:Nat)<=6561:=bn (bG (by omega) h) (by decide)
def ju(f:Nat->Int)(N:Nat):List Int:=(List.range N).map f
theorem zT(f)(N):(ju f N).length=N:=by simp[ju]
theorem za(f){N q}(h:q<N):mP (ju f N) q=f q:=jq (by simp[ju,h])
theorem On{f g}{N}(h:∀q,q<N->f q=g q):ju f N=ju g N:=by
 unfold ju;exact bp λq D=>h q (aD.1 D)
theorem Re(M){N}(h:M.length=N)(t):oY [ju (vS M N t) N] M N=[ju (vS M N (t+1)) N]:=by
 unfold oY;show[(List.range N).map λq=>kL [ju (vS M N t) N] M 0 q M.length]=_
 congr 1;refine On λq _=> ?_
 unfold kL;rw[h];refine ic λp D=> ?_
 rw[show cB [ju (vS M N t) N] 0 p=mP (ju (vS M N t) N) p from rfl,za _ D]
def xm(N:Nat)(g:Nat->Int)(i:Nat)(u:Int):List Int:=(List.range N).map λp=>if p<i then g p else if p=i then u else 0
theorem Kr(N)(g)(i)(u):(xm N g i u).length=N:=by simp[xm]
theorem OV{N}{g}{i}{u}(h:i<N):(xm N g i u)[i]? =some u:=by simp[xm,h]
theorem Kq(N)(g)(i)(u I):(xm N g i u).set i I=xm N g i I:=by
 refine ex λp=> ?_
 rw[bU,Kr];by_cases F:p<N
 ·have D:∀v,(xm N g i v)[p]? =some (if p<i then g p else if p=i then v else 0):=λv=>by simp[xm,F]
  rw[D,D];by_cases h:i=p
  ·subst h;rw[if_pos rfl,if_pos F,if_neg (by omega),if_pos rfl]
  ·rw[if_neg h];by_cases E:p<i
   ·rw[if_pos E,if_pos E]
   ·rw[if_neg E,if_neg E,if_neg (λe=>h e.symm),if_neg (λe=>h e.symm)]
 ·have D:∀v,(xm N g i v)[p]? =none:=λv=>aU (by rw[Kr];omega)
  rw[D,D];split
  ·rw[if_neg (by omega)]
  ·rfl
theorem GF(N)(g)(i):xm N g i (g i)=xm N g (i+1) 0:=by
 unfold xm;refine bp λp _=> ?_
 by_cases h:p<i
 ·rw[if_pos h,if_pos (by omega)]
 ·rw[if_neg h];by_cases D:p=i
  ·subst D;rw[if_pos rfl,if_pos (by omega)]
  ·rw[if_neg D,if_neg (by omega)];split<;>rfl
theorem GE(N)(g):xm N g 0 0=List.replicate N 0:=by
 refine da (by simp[xm]) λp h D=> ?_
 simp[xm]
theorem Ks(N)(g):xm N g N 0=ju g N:=by
 unfold xm ju;refine bp λp h=> ?_
 rw[if_pos (aD.1 h)]
noncomputable def KU(ss:List ByteArray)(k n:Nat):Int:=if n<2 then(((List.range (k^n)).filter (ub ss k n)).length:Int) else cd (vS (gM ss k) (iu ss k).length (n-2)) (iu ss k).length
theorem Px{ss}{k n i}(h:(iu ss k).length=0):ub ss k n i=false:=by
 unfold ub EH;rw[dc,if_pos h]
theorem Hu{ss}{k n}(h:(iu ss k).length=0):KU ss k n=0:=by
 unfold KU;split
 ·rw[List.filter_eq_nil_iff.2 λi _=>by rw[Px h];simp];rfl
 ·rw[h];rfl
theorem Ti{ss}{k n}(D:k<=3)(W:n<=6):0<=KU ss k n/\KU ss k n<=100000:=by
 unfold KU;split
 ·have F:=bz (ub ss k n) (List.range (k^n));rw[cD] at F;have O:=eb D (show n<=8 by omega);exact⟨by omega,by omega⟩
 ·have h:=iV (f:=vS (gM ss k) (iu ss k).length (n-2)) (n:=(iu ss k).length) (λq E=>NO (eN D) (λp q J E=>xE ss k p q J E) (n-2) q E) _ aQ;have I:=Oz (show n-2<=4 by omega);have Q:=eN (ss:=ss) D;have U:((iu ss k).length:Int)*((9^(n-2):Nat):Int)<=9*6561:=lG (by omega) (nr.2 I) (kF _) (by omega);exact⟨h.1,by omega⟩
def jl(s:ByteArray)(q:Nat):Bool:=decide (s.size%q=0)&&decide (Lib.repeatL (s.1.1.take q) (s.size/q)=s.1.1)
def li(s:ByteArray)(q:Nat):Bool:=(List.range' 1 q).all λt=> !jl s t
def qW(s:ByteArray):Bool:=li s (s.size-1)
theorem yb{s}(h:0<s.size):jl s s.size=true:=by
 unfold jl;rw[Nat.mod_self,Nat.div_self h,Lib.repeatL_one,aM (by rw[bM];omega)];simp
theorem ye{s}{q}(h:li s q=true)(D:jl s (q+1)=false):li s (q+1)=true:=by
 unfold li at*;rw[List.range'_1_concat,jd,h];simp[fX 1 q,D]
theorem Md{s}{q}(E:q+1<s.size)(D:jl s (q+1)=true):qW s=false:=by
 unfold qW li;rw[lI];intro h;rw[bm] at h;have:=h (q+1) (by rw[List.mem_range'_1];omega);rw[D] at this;cases this
theorem Gm{s}{q}(E:li s q=true)(I:q+1<=s.size)(F:jl s (q+1)=true):decide (s.extract 0 (q+1)=s)=qW s:=by
 by_cases h:q+1=s.size
 ·have D:s.extract 0 (q+1)=s:=by
   apply jk;apply jQ.1;have J:s.1.1.length=s.size:=bM s;rw[ep,fD,er,eY,aM (by omega)]
  rw[decide_eq_true D];have:s.size-1=q:=(by omega);unfold qW;rw[this,E]
 ·rw[Md (by omega) F];refine decide_eq_false λe=> ?_
  have:=congrArg ByteArray.size e;rw[bl] at this;omega
def ix(s:ByteArray)(q:Nat):ByteArray:=s.extract q s.size++s.extract 0 q
theorem uo{s}{q}(h:q<=s.size):(ix s q).size=s.size:=by
 unfold ix;rw[aK,bl,bl];omega
def kB(s:ByteArray):Nat->ByteArray|0=>ix s 0|q+1=>if Op.bytesLess (ix s (q+1)).toList (kB s q).toList=true then ix s (q+1) else kB s q
theorem xn{s:ByteArray}:∀{q:Nat},q<s.size->(kB s q).size=s.size
 |0,h=>uo (by omega)
 |q+1,h=>by
  unfold kB;split
  ·exact uo (by omega)
  ·exact xn (by omega)
def uK(s:ByteArray):Bool:=decide (kB s (s.size-1)=s)
theorem Ox{l f}(W:1<=l.length)(U:f.length<=3):Fs f (Lib.repeatL l 5)↔Fs f (Lib.repeatL l 4):=by
 have O:(Lib.repeatL l 4).length=4*l.length:=Lib.repeatL_length l 4;have I:Lib.repeatL l 5=l++Lib.repeatL l 4:=rfl;have J:Lib.repeatL l 5=Lib.repeatL l 4++l:=by
  have:=Lib.repeatL_add l 4 1;rw[Lib.repeatL_one] at this;exact this
 constructor
 ·rintro⟨a,b,h⟩;by_cases Q:l.length<=a.length
  ·rw[I,cJ,List.append_eq_append_iff] at h;rcases h with⟨c,D,E⟩|⟨c,D,E⟩
   ·exact⟨c,b,by rw[E,cJ]⟩
   ·have F:c=[]:=by
     have:=congrArg List.length D;rw[az] at this;exact fI.1 (by omega)
    subst F;exact⟨[],b,by simpa using E.symm⟩
  ·rw[J,List.append_eq_append_iff] at h;rcases h with⟨c,D,E⟩|⟨c,D,E⟩
   ·have F:c=[]:=by
     have:=congrArg List.length D;rw[az,az,O] at this;exact fI.1 (by omega)
    subst F;exact⟨a,[],by simpa using D.symm⟩
   ·exact⟨a,c,D⟩
 ·intro h;rw[I];exact h.trans (Fs.right _ _)
theorem Si{ss}{l}(D:1<=l.length)(E:∀s∈ss,s.size<=3):oS ss (Lib.repeatL l 5)=oS ss (Lib.repeatL l 4):=by
 rw[bF,zn,zn];exact forall_congr' λf=>forall_congr' λh=>not_congr (Ox D (by rw[bM];exact E f h))
def oV(ss:List ByteArray)(k n i:Nat):Bool:=uK (db k n i)&&qW (db k n i)&&oS ss (Lib.repeatL (pd k n i) 4)
theorem lg(k)(a)(n c)(ss)(w)(b1:aO w a n (ap ss))(c2:iO k ss=true):
 Calls prog 148 #[.agg #[Ud k,.slice a n c]] w (ns ss k w):=by
 obtain⟨O,j0,e3,_⟩:=dD c2;have g9:ss.length=n:=by simpa[ap] using b1.len
 have e2:∀t∈ss,t.size<=1048576:=λt h1=>by
  obtain⟨i,hi⟩:=cf.1 h1;have:=(e3 i t hi).2.2;omega
 obtain⟨J,W⟩:=aB (w.alloc (.cells #[Ud k,.slice a n c] 28));have a3:Below w.1.size w J:=by rw[W];exact aZ.alloc aQ _
 have j1:J.1.size=w.1.size+1:=by rw[W];simp
 have a7:bA J w.1.size #[Ud k,.slice a n c]:=by rw[W];exact bA.new _ _ _
 have a2:=aa (mR k a n c ss J (b1.below a3 aQ) c2);have f2:=aa (λ(V:World) (f1:ByteArray) (h5:f1.size<=1048576) (a6:Below J.1.size J V)=>me a n c ss f1 V (b1.below (a3.trans (a6.mono (by omega))) aQ) e2 h5 (by omega));have b3:=aa (eN (ss:=ss) O.2);have a0:=aa (λ(V:World) (a6:Below J.1.size J V)=>show(V.cell? ⟨w.1.size,0,none⟩=some (Ud k)/\V.cell? ⟨w.1.size,1,none⟩=some (.slice a n c))/\Below w.1.size w V from⟨⟨(a7.below a6).cell 0,(a7.below a6).cell 1⟩,a3.trans (a6.mono (by omega))⟩);have b4:=aa (λ(t q:Nat) (h:(iu ss k)[t]? =some q)=>Eg h);have f9:=aa (λ(i q:Nat) (E:q<k^2)=>pA (i:=i) O E);have g2:=aa (λ(i:Nat) (hi:i<k^2) (h:1<(db k 2 i).size)=>nD O hi h);have g3:=aa (λ(i:Nat) (hi:i<k^2) (h:0<(db k 2 i).size)=>pB O hi h);have b5:=aa (λ(N:Nat) (w:World) (a5:N<=9)=>gg N N w (by omega) (by omega));unfold sO at a2;unfold cK at b5;unfold ns gM;obtain⟨L,b6⟩:=aB (iu ss k);rw[<-b6] at a2 b3 b4;rw[<-b6];obtain⟨N,a5⟩:=aB L.length;rw[<-a5] at a2 b3;rw[<-a5];have d2:=aa a5;have d1:=aa (λ(p q i j:Nat) (Y:L[p]? =some i) (E:L[q]? =some j)=>PJ (ss:=ss) (k:=k) Y E);obtain⟨f,b9⟩:=aB (gF ss k L);rw[<-b9] at d1;rw[<-b9];obtain⟨c6,a4⟩:=aB (decide (N≠0));rw[<-a4];have i0:=aa a3;have h6:=a7.cell 0;have h7:=a7.cell 1;clear b1 e2 a3 a7 c2 e3 g9 b6 a5 O b9;go_enter func148,ntmps148;go_wp2_with(rw[<-W]);first|rw[<-W]|skip
 clear W;refine a2.o.mono ?_;rintro e Z ⟨v,rfl,d9,d7⟩;have g4:=b3.o;obtain⟨i3,i2,rfl,e1⟩:=aS d9 (by omega);have F:=aa d7;have g1:=aa e1;clear d9 e1 d7 h6 h7 a2;by_cases b7:N=0
 ·obtain rfl:c6=false:=by rw[a4,b7];rfl
  clear a4;subst b7;go_wp2;go_ret2;exact⟨_,rfl,λh=>absurd rfl h,(a0.o _ F.o).2.alloc (a0.o _ F.o).2.size _⟩
 ·obtain rfl:c6=true:=by rw[a4,decide_eq_true b7]
  clear a4;have i6:((N:Int)==0)=false:=by simp;omega
  go_wp2_with fail;refine(b5.o N _ g4).mono ?_;rintro e k0 ⟨v,rfl,b0,d8⟩;rw[<-xG N f] at b0;obtain⟨d4,cv,rfl,i8,_⟩:=cT b0 (fr N f 0 0).len (by omega);have d0:=aa b0;have c7:=aa d8;clear b0 d8 b5;go_wp2;go_loopw[6] (λc4 wr=>∃i:Nat,i<=N/\c4= Ud i/\bv (ct 37 3 wr Z.1.size (.slice (some ⟨d4,0,none⟩) N cv) (jp N f i 0))/\bv (Below Z.1.size Z wr)) (λc4 _=>N-(intOf c4).toNat);exact⟨0,by omega,rfl,d0,c7⟩;clear d0 c7;obtain⟨i,hi,rfl,Q,D⟩:=hrel;by_cases c0:i<N
  ·have j2:(i:Int)<(N:Int):=by omega
   obtain⟨p,Y⟩:=aE (l:=L) (n:=i) (by rw[<-d2.o];exact c0);have h0:=b4.o i p Y;have f5:=aa (λ(j q:Nat) (E:L[j]? =some q)=>d1.o i j p q Y E);have h3:(db k 2 p).size=2:=ce k 2 p;have e4:=g2.o p h0 (by rw[h3];omega);obtain⟨b,f0,rfl,d6,b8⟩:=g1.o.at_ (by omega);have g8:=b8 i (.string (db k 2 p)) (by simp[ap,Y]);have f4:=aa b8;clear b8 Y;go_wp2;go_loopw[7] (λc5 wr=>∃j:Nat,j<=N/\c5= Ud j/\bv (ct 37 3 wr Z.1.size (.slice (some ⟨d4,0,none⟩) N cv) (jp N f i j))/\bv (Below Z.1.size Z wr)) (λc5 _=>N-(intOf c5).toNat);exact⟨0,by omega,rfl,Q,D⟩;clear Q D;obtain⟨j,i9,rfl,Q,D⟩:=hrel;by_cases c1:j<N
   ·have j3:(j:Int)<(N:Int):=by omega
    obtain⟨q,E⟩:=aE (l:=L) (n:=j) (by rw[<-d2.o];exact c1);have e0:=b4.o j q E;have e5:(db k 2 q).size=2:=ce k 2 q;have h4:=g3.o q e0 (by rw[e5];omega);have g6:=(D.o.cell (p:=⟨b,f0+i,none⟩) d6).trans g8;have g7:=(D.o.cell (p:=⟨b,f0+j,none⟩) d6).trans (f4.o j (.string (db k 2 q)) (by simp[ap,E]));obtain⟨⟨h8,h9⟩,g5⟩:=a0.o _ (F.o.trans (D.o.mono F.o.size));have g0:=aa (f9.o p q e0);have a9:=aa (f5.o j q E);have I:=aa (show eP ss k p q=(decide (p%k=q/k)&&oS ss (oH k p++[dO (q%k)])) from rfl);obtain⟨x,e6⟩:=aB (p%k);obtain⟨y,e8⟩:=aB (q/k);obtain⟨a8,d5⟩:=aB (eP ss k p q);have h2:=e4;rw[<-d5] at I a9;rw[<-e6] at h2 I;rw[<-e8] at h4 I;clear d5 E e6 e8 g5 e4;by_cases e7:x=y
    ·subst e7;have i7:((db k 2 q).extract 1 2).size=1:=by rw[bl,e5];rfl
     have j4:¬(9223372036854775807<(db k 2 p).size+1):=(by omega);have j5:¬(9223372036854775807<(db k 2 p).size+((db k 2 q).extract 1 2).size):=(by omega);have c9:=aa (show a8=oS ss (oH k p++[dO (q%k)]) from by rw[I.o,decide_eq_true rfl];rfl);have c8:=aa (λr:Nat=>show Calls prog 152 #[.slice a n c,.string (db k 2 p++(db k 2 q).extract 1 2)] (wr.drewN r) λe w'=>e= .returned (.bool a8)/\wr.drewN r=w' from by
      have:=f2.o (wr.drewN r) (db k 2 p++(db k 2 q).extract 1 2) (by rw[aK,bl];omega) (aA (F.o.trans (D.o.mono F.o.size)) _);rw[g0.o,<-c9.o] at this;exact this)
     clear I c9;go_wp2;go_quiet((go_at_call 152;exact aF ((c8.o _).mono (λe w' h=>⟨h.1,h.2.symm⟩))));have U:=aa (aA D.o nq);have a1:=aa (Q.o.below (aA aZ nq));clear c8 g6 g7 h8 h9;obtain⟨k1,c3⟩:=aB (wr.drewN nq);rw[<-c3] at U a1;rw[<-c3];clear c3;cases a8 with
     |true=>
      obtain⟨g,i1,j6,j7,j8,j9,e9⟩:=en a1.o (by decide) (fr N f i j) c0 c1;have d3:=aa (e9 1);have f7:=aa (AZ (f:=f) c0 c1 (u:=1) (by rw[a9.o];rfl));clear e9;go_wp2;go_roundw;exact⟨j+1,by omega,by go_num,aa (by rw[<-f7.o];exact d3.o.1),aa (U.o.grown d3.o.2 (U.o.size) (λk O=>by injection O with O;omega))⟩;simp[intOf];omega
     |false=>
      have b2:=aa (tD (N:=N) (f:=f) (i:=i) (j:=j) (by rw[a9.o];rfl));go_wp2;go_roundw;exact⟨j+1,by omega,by go_num,aa (by rw[<-b2.o];exact a1.o),U⟩;simp[intOf];omega
    ·have I:=aa (show a8=false from by rw[I.o,decide_eq_false e7];rfl);have b2:=aa (tD (N:=N) (f:=f) (i:=i) (j:=j) (by rw[a9.o,I.o];rfl));have i4:((97+(x:Int))==(97+(y:Int)))=false:=by simp;omega
     have i5:decide ((x:Int)=(y:Int))=false:=decide_eq_false (by omega);go_wp2;go_quiet(fail);have U:=aa (aA D.o nq);have a1:=aa (Q.o.below (aA aZ nq));go_wp2;go_roundw;exact⟨j+1,by omega,by go_num,aa (by rw[<-b2.o];exact a1.o),U⟩;simp[intOf];omega
   ·obtain rfl:j=N:=by omega
    have f6:=aa (xH j f i);go_wp2;go_roundw;exact⟨i+1,by omega,by go_num,aa (by rw[<-f6.o];exact Q.o),D⟩;simp[intOf];omega
  ·obtain rfl:i=N:=by omega
   have f3:=aa (a0.o _ (F.o.trans (D.o.mono F.o.size))).2;have f8:=aa (Q.o.base (a0.o _ F.o).2.size);go_wp2;go_ret2;exact⟨_,rfl,λ_=>f8.o,f3.o⟩
theorem sr(k)(a)(n c)(ss)(w)(b3:aO w a n (ap ss))(c6:iO k ss=true)(c5:ru w):
 Calls prog 139 #[.agg #[Ud k,.slice a n c]] w (ns ss k w):=by
 obtain⟨U,j6,e6,_⟩:=dD c6;have h1:ss.length=n:=by simpa[ap] using b3.len
 have h3:∀t∈ss,t.size<=1048576:=λt h5=>by
  obtain⟨i,hi⟩:=cf.1 h5;have:=(e6 i t hi).2.2;omega
 obtain⟨O,Z⟩:=aB (w.alloc (.cells #[Ud k,.slice a n c] 28));have Y:Below w.1.size w O:=by rw[Z];exact aZ.alloc aQ _
 have j7:O.1.size=w.1.size+1:=by rw[Z];simp
 have a8:bA O w.1.size #[Ud k,.slice a n c]:=by rw[Z];exact bA.new _ _ _
 have a4:=aa (qX k a n c ss O (b3.below Y aQ) c6 (em c5 Y aQ));have f4:=aa (λ(V:World) (f3:ByteArray) (h9:f3.size<=1048576) (F:Below O.1.size O V)=>wu (k:Int) a n c ss f3 V (b3.below (Y.trans (F.mono (by omega))) aQ) h9 (by omega) (em c5 (Y.trans (F.mono (by omega))) aQ));have b5:=aa (eN (ss:=ss) U.2);have a3:=aa (λ(V:World) (F:Below O.1.size O V)=>show(V.cell? ⟨w.1.size,0,none⟩=some (Ud k)/\V.cell? ⟨w.1.size,1,none⟩=some (.slice a n c))/\Below w.1.size w V from⟨⟨(a8.below F).cell 0,(a8.below F).cell 1⟩,Y.trans (F.mono (by omega))⟩);have b6:=aa (λ(t q:Nat) (h:(iu ss k)[t]? =some q)=>Eg h);have g1:=aa (λ(i q:Nat) (I:q<k^2)=>pA (i:=i) U I);have g4:=aa (λ(i:Nat) (hi:i<k^2) (h:1<(db k 2 i).size)=>nD U hi h);have g5:=aa (λ(i:Nat) (hi:i<k^2) (h:0<(db k 2 i).size)=>pB U hi h);have b7:=aa (λ(N:Nat) (w:World) (a6:N<=9)=>lr N w (by omega));unfold sO at a4;unfold cK at b7;unfold ns gM;obtain⟨L,b8⟩:=aB (iu ss k);rw[<-b8] at a4 b5 b6;rw[<-b8];obtain⟨N,a6⟩:=aB L.length;rw[<-a6] at a4 b5;rw[<-a6];have d7:=aa a6;have d5:=aa (λ(p q i j:Nat) (a0:L[p]? =some i) (I:L[q]? =some j)=>PJ (ss:=ss) (k:=k) a0 I);obtain⟨f,c2⟩:=aB (gF ss k L);rw[<-c2] at d5;rw[<-c2];obtain⟨d0,a5⟩:=aB (decide (N≠0));rw[<-a5];have i6:=aa Y;have i0:=a8.cell 0;have i1:=a8.cell 1;clear b3 h3 Y a8 c6 e6 h1 b8 a6 U c2 c5;go_enter func139,ntmps139;go_wp2_with(rw[<-Z]);first|rw[<-Z]|skip
 clear Z;refine a4.o.mono ?_;rintro e a1 ⟨v,rfl,e3,e1⟩;have g6:=b5.o;obtain⟨i9,i8,rfl,e5⟩:=aS e3 (by omega);have E:=aa e1;have g3:=aa e5;clear e3 e5 e1 i0 i1 a4;by_cases b9:N=0
 ·obtain rfl:d0=false:=by rw[a5,b9];rfl
  clear a5;subst b9;go_wp2;go_ret2;exact⟨_,rfl,λh=>absurd rfl h,(a3.o _ E.o).2⟩
 ·obtain rfl:d0=true:=by rw[a5,decide_eq_true b9]
  clear a5;have j2:((N:Int)==0)=false:=by simp;omega
  go_wp2_with fail;refine(b7.o N _ g6).mono ?_;rintro e k6 ⟨v,rfl,b2,a7⟩;rw[<-xG N f] at b2;obtain⟨d9,cv,rfl,j4,_⟩:=cT b2 (fr N f 0 0).len (by omega);have d4:=aa b2;have d1:=aa a7;clear b2 a7 b7;go_wp2;go_loopw[20] (λc7 wr=>∃i:Nat,i<=N/\c7= Ud i/\bv (ct 37 3 wr a1.1.size (.slice (some ⟨d9,0,none⟩) N cv) (jp N f i 0))/\bv (Below a1.1.size a1 wr)) (λc7 _=>N-(intOf c7).toNat);exact⟨0,by omega,rfl,d4,d1⟩;clear d4 d1;obtain⟨i,hi,rfl,W,D⟩:=hrel;by_cases c3:i<N
  ·have j8:(i:Int)<(N:Int):=by omega
   obtain⟨p,a0⟩:=aE (l:=L) (n:=i) (by rw[<-d7.o];exact c3);have h2:=b6.o i p a0;have f7:=aa (λ(j q:Nat) (I:L[j]? =some q)=>d5.o i j p q a0 I);have h7:(db k 2 p).size=2:=ce k 2 p;have e7:=g4.o p h2 (by rw[h7];omega);obtain⟨b,c9,rfl,c0,c1⟩:=g3.o.at_ (by omega);have e2:=c1 i (.string (db k 2 p)) (by simp[ap,a0]);have f6:=aa c1;clear c1 a0;have h0:=(D.o.cell (p:=⟨b,c9+i,none⟩) c0).trans e2;go_wp2;clear h0;go_loopw[27] (λc8 wr=>∃j:Nat,j<=N/\c8= Ud j/\bv (ct 37 3 wr a1.1.size (.slice (some ⟨d9,0,none⟩) N cv) (jp N f i j))/\bv (Below a1.1.size a1 wr)) (λc8 _=>N-(intOf c8).toNat);exact⟨0,by omega,rfl,W,D⟩;clear W D;obtain⟨j,j5,rfl,W,D⟩:=hrel;by_cases c4:j<N
   ·have j9:(j:Int)<(N:Int):=by omega
    obtain⟨q,I⟩:=aE (l:=L) (n:=j) (by rw[<-d7.o];exact c4);have e4:=b6.o j q I;have e8:(db k 2 q).size=2:=ce k 2 q;have h8:=g5.o q e4 (by rw[e8];omega);have g8:=(D.o.cell (p:=⟨b,c9+i,none⟩) c0).trans e2;have g9:=(D.o.cell (p:=⟨b,c9+j,none⟩) c0).trans (f6.o j (.string (db k 2 q)) (by simp[ap,I]));obtain⟨⟨i2,i3⟩,g7⟩:=a3.o _ (E.o.trans (D.o.mono E.o.size));have g2:=aa (g1.o p q e4);have b0:=aa (f7.o j q I);have J:=aa (show eP ss k p q=(decide (p%k=q/k)&&oS ss (oH k p++[dO (q%k)])) from rfl);obtain⟨x,e9⟩:=aB (p%k);obtain⟨y,f1⟩:=aB (q/k);obtain⟨a9,e0⟩:=aB (eP ss k p q);have h6:=e7;rw[<-e0] at J b0;rw[<-e9] at h6 J;rw[<-f1] at h8 J;clear e0 I e9 f1 g7 e7;by_cases f0:x=y
    ·subst f0;have j3:((db k 2 q).extract 1 2).size=1:=by rw[bl,e8];rfl
     have k0:¬(9223372036854775807<(db k 2 p).size+1):=(by omega);have k1:¬(9223372036854775807<(db k 2 p).size+((db k 2 q).extract 1 2).size):=(by omega);have d3:=aa (show a9=oS ss (oH k p++[dO (q%k)]) from by rw[J.o,decide_eq_true rfl];rfl);have Q:Below wr.1.size wr wr.drew:=aZ.drew;have h4:=D.o.size;have d2:=aa (λ(V:World) (F:Below wr.1.size wr V)=>show Calls prog 145 #[.agg #[Ud k,.slice a n c],.string (db k 2 p++(db k 2 q).extract 1 2)] V λe w'=>e= .returned (.bool a9)/\Below V.1.size V w' from by
      have:=f4.o V (db k 2 p++(db k 2 q).extract 1 2) (by rw[aK,bl];omega) ((E.o.trans (D.o.mono E.o.size)).trans (F.mono (E.o.trans (D.o.mono E.o.size)).size));rw[g2.o,<-d3.o] at this;exact this)
     have d6:=aa (λ(V:World) (F:Below wr.1.size wr V)=>show V.cell? ⟨w.1.size,0,none⟩=some (Ud k)/\V.cell? ⟨w.1.size,1,none⟩=some (.slice a n c)/\Below wr.1.size wr V from by
      obtain⟨⟨i4,i5⟩,_⟩:=a3.o V ((E.o.trans (D.o.mono E.o.size)).trans (F.mono (E.o.trans (D.o.mono E.o.size)).size));exact⟨i4,i5,F⟩)
     clear J d3;go_wp2;go_region_held3(λV=>V.cell? ⟨w.1.size,0,none⟩=some (Ud k)/\V.cell? ⟨w.1.size,1,none⟩=some (.slice a n c)/\Below wr.1.size wr V)
      (first|with_reducible exact d6.o _ Q)
      (first|(go_at_call 145;refine(d2.o _ Q).mono ?_;rintro e k7 ⟨rfl,a7⟩;have Q:=Q.trans (a7.mono Q.size)))
     all_goals
      have a2:=aa (D.o.trans (Q.mono h4))
      have b1:=aa (W.o.below Q)
      clear d2 g8 g9 i2 i3 d6 a7 Q
      cases a9 with
      |true=>
       obtain⟨g,i7,k2,k3,k4,k5,f2⟩:=en b1.o (by decide) (fr N f i j) c3 c4;have d8:=aa (f2 1);have f9:=aa (AZ (f:=f) c3 c4 (u:=1) (by rw[b0.o];rfl));clear f2;go_wp2;go_roundw;exact⟨j+1,by omega,by go_num,aa (by rw[<-f9.o];exact d8.o.1),aa (a2.o.grown d8.o.2 (a2.o.size) (λk U=>by injection U with U;omega))⟩;simp[intOf];omega
      |false=>
       have b4:=aa (tD (N:=N) (f:=f) (i:=i) (j:=j) (by rw[b0.o];rfl));go_wp2;go_roundw;exact⟨j+1,by omega,by go_num,aa (by rw[<-b4.o];exact b1.o),a2⟩;simp[intOf];omega
    ·have J:=aa (show a9=false from by rw[J.o,decide_eq_false f0];rfl);have b4:=aa (tD (N:=N) (f:=f) (i:=i) (j:=j) (by rw[b0.o,J.o];rfl));have j0:((97+(x:Int))==(97+(y:Int)))=false:=by simp;omega
     have j1:decide ((x:Int)=(y:Int))=false:=decide_eq_false (by omega);go_wp2;go_quiet(fail);have a2:=aa (aA D.o nq);have b1:=aa (W.o.below (aA aZ nq));go_wp2;go_roundw;exact⟨j+1,by omega,by go_num,aa (by rw[<-b4.o];exact b1.o),a2⟩;simp[intOf];omega
   ·obtain rfl:j=N:=by omega
    have f8:=aa (xH j f i);go_wp2;go_roundw;exact⟨i+1,by omega,by go_num,aa (by rw[<-f8.o];exact W.o),D⟩;simp[intOf];omega
  ·obtain rfl:i=N:=by omega
   have f5:=aa (a3.o _ (E.o.trans (D.o.mono E.o.size))).2;have g0:=aa (W.o.base (a3.o _ E.o).2.size);go_wp2;go_ret2;exact⟨_,rfl,λ_=>g0.o,f5.o⟩
noncomputable def wl(ss:List ByteArray)(k:Nat):Bool:=decide ((iu ss k).length≠0)&&qD (cI (gM ss k) (iu ss k).length)
theorem Te{ss}{k}(F:k<=3)(h:(iu ss k).length≠0):dB (gM ss k)=true:=by
 have E:=oN ss k;have J:=eN (ss:=ss) F;unfold dB;rw[E.len,aC,eT,bm];refine⟨λr D=> ?_,by omega,by omega⟩;unfold nN;rw[aC,decide_eq_true_iff,bm];refine⟨E.row r D,λx I=> ?_⟩;unfold gM jp at D;obtain⟨p,_,rfl⟩:=bi.1 D;obtain⟨q,_,rfl⟩:=bi.1 I;have O:=PK ss k (iu ss k) p q;rw[eT];split<;>omega
theorem Tf{ss}{k}(D:k<=3)(h:(iu ss k).length≠0):AA (gM ss k)=qD (cI (gM ss k) (iu ss k).length):=by
 unfold AA;rw[Te D h,(oN ss k).len,dK]
theorem uv(k)(a)(n c)(ss)(w)(a8:aO w a n (ap ss))(a1:iO k ss=true):
 Calls prog 68 #[.agg #[Ud k,.slice a n c]] w λe w'=>e= .returned (.bool (wl ss k))/\Below w.1.size w w':=by
 have a0:=(dD a1).1;have W:=(aV w.1.size w).alloc aQ (.cells #[Ud k,.slice a n c] 28);have E:=aa (lg k a n c ss _ (a8.below W aQ) a1);have a4:=aa (eN (ss:=ss) a0.2);have O:=aa (λ(g:Option Addr) (c:Nat) (V:World) (h:bZ V g (iu ss k).length (gM ss k))=>rL g (iu ss k).length c (gM ss k) V h);have Q:=aa (λh=>Tf (ss:=ss) a0.2 h);have U:=aa (oN ss k);have a2:=aa W;unfold ns at E;unfold wl;obtain⟨M,Y⟩:=aB (gM ss k);obtain⟨N,F⟩:=aB ((iu ss k).length);rw[<-Y,<-F] at E U O Q;rw[<-F] at a4;rw[<-Y,<-F];clear W a8 a1 a0 F Y;go_enter func68,ntmps68;go_wp2_with fail;refine E.o.mono ?_;rintro e b3 ⟨v,rfl,a7,a6⟩;have J:=aa (a2.o.trans (a6.mono a2.o.size));by_cases I:N=0
 ·have D:decide (N≠0)=false:=by rw[I];rfl
  rw[D];go_wp2;go_ret;exact⟨aG (by rw[D];rfl),J.o⟩
 ·have D:decide (N≠0)=true:=decide_eq_true I;rw[D];have b2:=a4.o;have Z:=a7 I;obtain⟨b1,cv,rfl,_,_⟩:=cT Z U.o.len (by omega);have a3:=aa (O.o _ cv _ (iH Z U.o (by omega) (by omega)));have a5:=Q.o I;rw[a5] at a3;clear a7 Z O E Q a5 a6;go_wp2_with fail;refine a3.o.mono ?_;rintro e b4 ⟨rfl,b0⟩;have a9:=aa (J.o.trans (b0.mono J.o.size));go_wp2;go_ret;exact⟨aG (by rw[D];rfl),a9.o⟩
theorem uQ(k)(a)(n c)(ss)(w)(a5:aO w a n (ap ss))(Z:iO k ss=true)(a4:ru w):
 Calls prog 63 #[.agg #[Ud k,.slice a n c]] w λe w'=>e= .returned (.bool (wl ss k))/\Below w.1.size w w':=by
 have Y:=(dD Z).1;have E:=(aV w.1.size w).alloc aQ (.cells #[Ud k,.slice a n c] 28);have D:=aa (sr k a n c ss _ (a5.below E aQ) Z (em a4 E aQ));have a1:=aa (eN (ss:=ss) Y.2);have O:=aa (oN ss k);have J:=aa (λ(g:Option Addr) (c:Nat) (V:World) (a8:bZ V g (iu ss k).length (gM ss k)) (a9:1<=(iu ss k).length)=>sk g (iu ss k).length c (gM ss k) V a8 (oN ss k) a9 (eN Y.2) (λp q b1 b2=>(xE ss k p q b1 b2).1));have a0:=aa E;unfold ns at D;unfold wl;obtain⟨M,Q⟩:=aB (gM ss k);obtain⟨N,F⟩:=aB ((iu ss k).length);rw[<-Q,<-F] at D O J;rw[<-F] at a1;rw[<-Q,<-F];clear E a5 Z Y F Q a4;go_enter func63,ntmps63;go_wp2_with fail;refine D.o.mono ?_;rintro e b5 ⟨v,rfl,a3,a2⟩;have I:=aa (a0.o.trans (a2.mono a0.o.size));by_cases U:N=0
 ·have h:decide (N≠0)=false:=by rw[U];rfl
  rw[h];go_wp2;go_ret;exact⟨aG (by rw[h];rfl),I.o⟩
 ·have h:decide (N≠0)=true:=decide_eq_true U;rw[h];have b4:=a1.o;have W:=a3 U;obtain⟨b3,cv,rfl,_,_⟩:=cT W O.o.len (by omega);have a7:=aa (J.o _ cv _ (iH W O.o (by omega) (by omega)) (by omega));clear a3 W J D a2;go_wp2_with fail;refine a7.o.mono ?_;rintro e b6 ⟨rfl,b0⟩;have a6:=aa (I.o.trans (b0.mono I.o.size));go_wp2;go_ret;exact⟨aG (by rw[h];rfl),a6.o⟩
def mi(x:ByteArray):ByteArray:=if x.size=0 then⟨#[46]⟩ else x
theorem DH(x):(mi x).size<=x.size+1:=by
 unfold mi;split
 ·show 1<=_;omega
 ·omega
def NI(xs:List ByteArray):ByteArray:=if xs.length=0 then⟨#[45]⟩ else dv (xs.map mi) ⟨#[32]⟩
theorem PS(xs):Lib.lens ((xs.map mi).map mW)<=xs.length+ya xs:=by
 induction xs with
 |nil=>simp[Lib.lens]
 |cons x xs ih=>
  have h:=DH x;simp only[Lib.lens,ej,jh,cZ,ya,mW] at ih⊢;rw[bM];omega
theorem Ps(L)(sep):(Lib.join L sep).length<=sep.length*L.length+Lib.lens L:=by
 match L with
 |[]=>simp[Lib.join_nil]
 |x::r=>
  rw[Lib.join_cons,az,Lib.joinTail_length];have:sep.length*(r.length+1)=sep.length*r.length+sep.length:=Nat.mul_succ _ _;simp only[Lib.lens,ej,jh,cZ];omega
theorem Cp(xs):(Lib.join ((xs.map mi).map mW) [32]).length<=2*xs.length+ya xs:=by
 have h:=Ps ((xs.map mi).map mW) [32];have D:=PS xs;simp at h;simp at D;simp;omega
def Bc(xs:List ByteArray)(j:Nat):List ByteArray:=(xs.take j).map mi
theorem DG{xs}{j}{x}(h:xs[j]? =some x):ap (Bc xs (j+1))=ap (Bc xs j)++[.string (mi x)]:=by
 simp[Bc,ap,bg,h]
theorem GO(x)(w):
 Calls prog 88 #[.string x,.string ⟨#[46]⟩] w λe w'=>e= .returned (.string (mi x))/\w=w':=by
 by_cases h:x.size=0
 ·obtain rfl:x=⟨#[]⟩:=ByteArray.size_eq_zero_iff.1 h;go_enter func88,ntmps88;go_wp2;go_ret;exact⟨rfl,rfl⟩
 ·have D:mi x=x:=if_neg h;have E:x.toList.isEmpty=false:=by
   rw[Lib.toList_data];cases hl:x.1.1 with
   |nil=>
    have:=congrArg List.length hl;rw[bM] at this;exact absurd (by simpa using this) h
   |cons a l=>rfl
  rw[D];go_enter func88,ntmps88;go_wp2;go_ret;exact⟨rfl,rfl⟩
theorem Ke(x)(w):
 Calls prog 81 #[.string x] w λe w'=>e= .returned (.string (mi x))/\w=w':=by
 by_cases h:x.size=0
 ·obtain rfl:x=⟨#[]⟩:=ByteArray.size_eq_zero_iff.1 h;go_enter func81,ntmps81;go_wp2;go_ret;exact⟨rfl,rfl⟩
 ·have D:mi x=x:=if_neg h;have E:x.toList.isEmpty=false:=by
   rw[Lib.toList_data];cases hl:x.1.1 with
   |nil=>
    have:=congrArg List.length hl;rw[bM] at this;exact absurd (by simpa using this) h
   |cons a l=>rfl
  rw[D];go_enter func81,ntmps81;go_wp2;go_ret;exact⟨rfl,rfl⟩
theorem wS(a)(n c)(xs)(w)(Q:aO w a n (ap xs))(c2:xs.length+ya xs<=1048576):
 Calls prog 22 #[.slice a n c] w λe w'=>e= .returned (.string (NI xs))/\Below w.1.size w w':=by
 have a4:=Q.len;have F:=aa (show xs.length=n by simpa[ap] using a4);have a8:=aa Q.at_;have Y:=aa (λ(a:Option Addr) (c:Nat) (w:World) (h:aO w a n (ap (xs.map mi)))=>oA a n c (xs.map mi) ⟨#[32]⟩ w h (bn (Cp xs) (by omega)));have a9:=aa (show Bc xs n=xs.map mi by unfold Bc;rw[aM (by rw[F.o];exact aN _)]);have b2:=aa (λj x h=>DG (xs:=xs) (j:=j) (x:=x) h);have d1:n<=1048576:=by have:=F.o;omega
 unfold NI;rw[F.o];obtain⟨a7,O⟩:∃a7,a7=dv (xs.map mi) ⟨#[32]⟩:=⟨_,rfl⟩;rw[<-O] at Y;rw[<-O];clear a4 Q c2 O;go_enter func22,ntmps22;go_wp2;go_loopw[3,4] (λv i wr=>∃j g c:Nat,j<=n/\i= Ud j/\v= .slice (some ⟨g,0,none⟩) j c/\wr.ownsRow w.1.size 9 1 (.slice (some ⟨g,0,none⟩) j c) j (ap (Bc xs j))/\Below w.1.size w wr) (λ_ i _=>n-(intOf i).toNat);exact⟨0,w.1.size,0,by omega,rfl,rfl,pC w _,(aV _ _).alloc (aN _) _⟩;obtain⟨j,g,b3,c8,rfl,rfl,E,D⟩:=hrel;have b0:=aa (E.lt g rfl);by_cases b9:j<n
 ·obtain⟨b,c3,rfl,b6,a1⟩:=a8.o (by omega);obtain⟨y,U⟩:=aE (l:=xs) (n:=j) (by rw[F.o];exact b9);have c7:=(D.cell (p:=⟨b,c3+j,none⟩) b6).trans (a1 j _ (bJ U));have Z:=aa (b2.o j y U);have a0:=E.alloc (.cells #[.string (mi y)] 9);have W:=aa (λw=>GO y w);obtain⟨d,a2⟩:∃d,d=mi y:=⟨_,rfl⟩;rw[<-a2] at Z a0 W;clear a1 U E a2;go_wp2_with(first|(go_at_call 88;refine(W.o _).mono ?_;rintro e w' ⟨rfl,rfl⟩)|(at_builtin;go_must(refine aX rfl _ _ 26 rfl w.1.size 9 (.string ByteArray.empty) 16 underlying26 mz rfl g b3 j (ap (Bc xs j)) a0 rfl wr.1.size 0 1 1 [.string d] rfl rfl (by intro q u I;match q,I with|0,I=>simp at I;subst I;simp) (by intro u a6;simp at a6;subst a6;rfl) (by omega) (by unfold maxLen;omega) (by have:=D.size;simp;omega) ?_);intro b5 b4 c4 c1 b8 c6 d0));have J:Below w.1.size w c4:=(D.alloc D.size _).grown b8 (by have:=D.size;simp;omega) (by rintro k ⟨⟩;exact b0.o.1);go_roundw;exact⟨j+1,b5,b4,by omega,by go_num,rfl,by rw[Z.o];exact c1,J⟩;simp[intOf];omega
 ·obtain rfl:j=n:=by omega
  by_cases c0:j=0
  ·subst c0;go_wp2;go_ret;exact⟨rfl,D⟩
  ·have c9:((j:Int)==0)=false:=by rw[beq_eq_false_iff_ne];omega
   rw[a9.o] at E;obtain⟨c5,cr,a3,a5⟩:=aS E (by omega);simp only[aJ,true_and] at a3;obtain⟨rfl,rfl⟩:=a3;have b1:=aa a5;clear E a5;go_wp2_with fail;refine(Y.o _ _ _ b1.o).mono ?_;rintro e d2 ⟨rfl,J⟩;have b7:=bs D J;go_wp2;go_ret;exact⟨rfl,b7⟩
theorem xz(a)(n c)(xs)(w)(U:aO w a n (ap xs))(b9:xs.length+ya xs<=1048576):
 Calls prog 21 #[.slice a n c] w λe w'=>e= .returned (.string (NI xs))/\Below w.1.size w w':=by
 have a4:=U.len;have F:=aa (show xs.length=n by simpa[ap] using a4);have a6:=aa U.at_;have c6:n<=1048576:=by have:=F.o;omega
 have Z:=aa (λ(B g c:Nat) (w:World) h=>qJ B g c n (xs.map mi) ⟨#[32]⟩ w (by rw[dc,F.o]) h (by omega) (bn (Cp xs) (by omega)));have a7:=aa (show Bc xs n=xs.map mi by unfold Bc;rw[aM (by rw[F.o];exact aN _)]);have b0:=aa (λj x h=>DG (xs:=xs) (j:=j) (x:=x) h);unfold NI;rw[F.o];obtain⟨c8,O⟩:=aB (dv (xs.map mi) ⟨#[32]⟩);rw[<-O] at Z;rw[<-O];clear a4 U b9 O;by_cases Q:n=0
 ·rw[if_pos Q];subst Q;go_enter func21,ntmps21;go_wp2;go_ret;exact⟨rfl,aZ⟩
 ·rw[if_neg Q];have c7:((n:Int)==0)=false:=by rw[beq_eq_false_iff_ne];omega
  go_enter func21,ntmps21;go_wp2;go_loopw[3,12] (λv i wr=>∃j g c:Nat,j<=n/\i= Ud j/\v= .slice (some ⟨g,0,none⟩) j c/\wr.ownsRow w.1.size 9 1 (.slice (some ⟨g,0,none⟩) j c) j (ap (Bc xs j))/\Below w.1.size w wr) (λ_ i _=>n-(intOf i).toNat);exact⟨0,w.1.size,0,by omega,rfl,rfl,pC w _,aZ.alloc aQ _⟩;obtain⟨j,g,b1,c4,rfl,rfl,E,D⟩:=hrel;have a8:=aa (E.lt g rfl);by_cases b7:j<n
  ·obtain⟨b,c0,rfl,b4,a2⟩:=a6.o (by omega);obtain⟨y,W⟩:=aE (l:=xs) (n:=j) (by rw[F.o];exact b7);have c3:=(D.cell (p:=⟨b,c0+j,none⟩) b4).trans (a2 j _ (bJ W));have a0:=aa (b0.o j y W);have a1:=E.alloc (.cells #[.string (mi y)] 9);have Y:=aa (λw=>Ke y w);obtain⟨d,a3⟩:=aB (mi y);rw[<-a3] at a0 a1 Y;clear a2 W E a3;go_wp2_with(first|(go_at_call 81;refine(Y.o _).mono ?_;rintro e w' ⟨rfl,rfl⟩)|(at_builtin;go_must(refine aX rfl _ _ 26 rfl w.1.size 9 (.string ByteArray.empty) 16 underlying26 mz rfl g b1 j (ap (Bc xs j)) a1 rfl wr.1.size 0 1 1 [.string d] rfl rfl (by intro q u I;match q,I with|0,I=>simp at I;subst I;simp) (by intro u a5;simp at a5;subst a5;rfl) (by omega) (by unfold maxLen;omega) (by have:=D.size;simp;omega) ?_);intro b3 b2 c1 b8 b6 c2 c5));have J:Below w.1.size w c1:=(D.alloc D.size _).grown b6 (by have:=D.size;simp;omega) (by rintro k ⟨⟩;exact a8.o.1);go_roundw;exact⟨j+1,b3,b2,by omega,by go_num,rfl,by rw[a0.o];exact b8,J⟩;simp[intOf];omega
  ·obtain rfl:j=n:=by omega
   rw[a7.o] at E;have a9:=aa E;clear E;go_wp2_with fail;refine(Z.o _ _ _ _ a9.o).mono ?_;rintro e c9 ⟨rfl,J⟩;have b5:=bs D J;go_wp2;go_ret;exact⟨rfl,b5⟩
noncomputable def KW(ss:List ByteArray)(k n:Nat):Int:=KU ss k n
def Fo(ss:List ByteArray)(k n:Nat):Int:=(((List.range (k^n)).filter (oV ss k n)).length:Int)
theorem Jd{ss}{k n}(D:k<=3)(F:n<=6):0<=Fo ss k n/\Fo ss k n<=6561:=by
 unfold Fo;have h:=bz (oV ss k n) (List.range (k^n));rw[cD] at h;have E:=eb D (show n<=8 by omega);exact⟨by omega,by omega⟩
def DY(b:Bool):ByteArray:=if b then⟨#[121,101,115]⟩ else⟨#[110,111]⟩
theorem Co(b):(DY b).size<=3:=by cases b<;>decide
noncomputable def QB(ss:List ByteArray)(k:Nat):ByteArray:=dv ((fz (KW ss k) 0 7).map cF) ⟨#[44]⟩
def QE(ss:List ByteArray)(k:Nat):ByteArray:=dv ((fz (Fo ss k) 1 5).map cF) ⟨#[44]⟩
def JR:ByteArray:=⟨#[119,111,114,100,115]⟩
def Ft:ByteArray:=⟨#[115,116,97,116,101,115]⟩
def NG:ByteArray:=⟨#[99,111,110,110,101,99,116,101,100]⟩
def Sn:ByteArray:=⟨#[111,114,98,105,116,115]⟩
def JB(a b c d:ByteArray):List ByteArray:=[JR,a,Ft,b,NG,c,Sn,d]
def PQ(a b c d:ByteArray):ByteArray:=dv (JB a b c d) ⟨#[32]⟩
theorem Sg{a b:ByteArray}(h:a.1.1=b.1.1):a=b:=jk (jQ.1 h)
theorem Sh(a b:ByteArray):(a++b).1.1=a.1.1++b.1.1:=by rw[fm,iA]
theorem KJ(a b c d):PQ a b c d=⟨#[119,111,114,100,115,32]⟩++a++⟨#[32,115,116,97,116,101,115,32]⟩++b++⟨#[32,99,111,110,110,101,99,116,101,100,32]⟩++c++⟨#[32,111,114,98,105,116,115,32]⟩++d:=by
 apply Sg;simp[PQ,JB,dv,Lib.join,mW,Sh,JR,Ft,NG,Sn]
theorem Hi{x}(h:Bx x):(cF x).size<=21:=by
 have:=zh h;have D:(cF x).size=(Lib.itoa x).length:=by simp[cF,ByteArray.size]
 omega
theorem sd(xs)(sep):(dv xs sep).size=(Lib.join (xs.map mW) sep.1.1).length:=by simp[dv,ByteArray.size]
theorem ES{ss}{k n}(h:k<=3)(D:n<=6):Bx (KW ss k n):=by
 have:=Ti (ss:=ss) h D;unfold KW;exact⟨by omega,by omega⟩
theorem Es{ss}{k n}(h:k<=3)(D:n<=6):Bx (Fo ss k n):=by
 have:=Jd (ss:=ss) h D;exact⟨by omega,by omega⟩
theorem FD{ss}{k}(h:k<=3):(QB ss k).size<=1000:=by
 unfold QB;rw[sd];have:=lX (xs:=fz (KW ss k) 0 7) (λx D=>by obtain⟨i,E,F,rfl⟩:=lv D;exact ES h (by omega)) (sep:=⟨#[44]⟩) rfl;rw[od] at this;omega
theorem Gs{ss}{k}(h:k<=3):(QE ss k).size<=1000:=by
 unfold QE;rw[sd];have:=lX (xs:=fz (Fo ss k) 1 5) (λx D=>by obtain⟨i,E,F,rfl⟩:=lv D;exact Es h (by omega)) (sep:=⟨#[44]⟩) rfl;rw[od] at this;omega
theorem Ag(f)(lo m)(h:0<m):pG (fz f lo m)=dv ((fz f lo m).map cF) ⟨#[44]⟩:=by
 unfold pG;rw[od,if_neg (by omega)]
noncomputable def Nt(ss:List ByteArray)(k:Nat):ByteArray:=PQ (QB ss k) (cF ((iu ss k).length:Int)) (DY (wl ss k)) (QE ss k)
theorem Pn(b)(w):Calls prog 67 #[.bool b] w λe w'=>e= .returned (.string (DY b))/\w=w':=by
 cases b<;>{
  go_enter func67,ntmps67
  go_wp2
  go_ret
  exact⟨rfl,rfl⟩}
theorem To(b)(w):Calls prog 62 #[.bool b] w λe w'=>e= .returned (.string (DY b))/\w=w':=by
 cases b<;>{
  go_enter func62,ntmps62
  go_wp2
  go_ret
  exact⟨rfl,rfl⟩}
theorem QG{w}{E}{N cr}{r}(h:aO w E N (af r))(I:r.length=N):bZ (w.alloc (.cells #[.slice E N cr] 37)) (some ⟨w.1.size,0,none⟩) 1 [r]:=by
 have J:Below w.1.size w (w.alloc (.cells #[.slice E N cr] 37)):=aZ.alloc aQ _;refine⟨[.slice E N cr],⟨rfl,by omega,λ_=>⟨w.1.size,0,rfl,by simp,λq x D=> ?_⟩⟩,rfl,λi x O D F=> ?_⟩
 ·match q,D with
  |0,D=>
   simp at D;subst D;exact(aL _ _ _ _ rfl).trans rfl
 ·match i,D,F with
  |0,D,F=>
   simp at D F;subst D F;exact⟨E,cr,by rw[I],by rw[I];exact h.below J aQ⟩
theorem vu(k h:Nat)(a)(n c)(ss)(w)(O:aO w a n (ap ss))(a9:iO k ss=true)(l3:h<=6):
 Calls prog 64 #[.agg #[Ud k,.slice a n c],Ud h] w λe w'=>e= .returned (Ud (KU ss k h))/\Below w.1.size w w':=by
 obtain⟨a1,l0,i6,_⟩:=dD a9;have i3:ss.length=n:=by simpa[ap] using O.len
 obtain⟨I,a0⟩:=aB (w.alloc (.cells #[Ud k,.slice a n c] 28));have Z:Below w.1.size w I:=by rw[a0];exact aZ.alloc aQ _
 have l6:I.1.size=w.1.size+1:=by rw[a0];simp
 have a8:bA I w.1.size #[Ud k,.slice a n c]:=by rw[a0];exact bA.new _ _ _
 have e3:=aa (iW k a n c ss I (O.below Z aQ) a9);have e5:=aa (λw=>eB (h:Int) 0 20 w);rw[fj (show(0:Int)<=(h:Int)/\(h:Int)<=20 by omega)] at e5;have b3:=aa (λ(V:World) (U:Below I.1.size I V)=>lg k a n c ss V (O.below (Z.trans (U.mono (by omega))) aQ) a9);have a5:=aa (λ(V:World) (U:Below I.1.size I V)=>lf k h a n c ss V (O.below (Z.trans (U.mono (by omega))) aQ) a9 (by omega));have e0:=aa (λ(V:World) (U:Below I.1.size I V)=>show(V.cell? ⟨w.1.size,0,none⟩=some (Ud k)/\V.cell? ⟨w.1.size,1,none⟩=some (.slice a n c))/\Below w.1.size w V from⟨⟨(a8.below U).cell 0,(a8.below U).cell 1⟩,Z.trans (U.mono (by omega))⟩);have e4:=aa (eN (ss:=ss) a1.2);have c2:=aa (λa6=>Hu (ss:=ss) (k:=k) (n:=h) a6);have c3:=aa (λa6:h<2=>show KU ss k h=(((List.range (k^h)).filter (ub ss k h)).length:Int) from if_pos a6);have c4:=aa (λa6:¬h<2=>show KU ss k h=cd (vS (gM ss k) (iu ss k).length (h-2)) (iu ss k).length from if_neg a6);have b5:=aa (oN ss k);have d9:=aa (λp q Q D=>xE ss k p q Q D);have a3:=aa (λ(t q:Nat) (D:q<(iu ss k).length)=>NO (eN (ss:=ss) a1.2) (λp q Q D=>xE ss k p q Q D) t q D);have d3:=bz (ub ss k h) (List.range (k^h));rw[cD] at d3;have i5:=eb a1.2 (show h<=8 by omega);unfold ns at b3;unfold dC at a5;obtain⟨M,f3⟩:=aB (gM ss k);obtain⟨N,c9⟩:=aB ((iu ss k).length);obtain⟨d,f8⟩:=aB (((List.range (k^h)).filter (ub ss k h)).length);obtain⟨R,d0⟩:=aB (KU ss k h);rw[<-f3,<-c9] at b3 b5 d9 a3 c4;rw[<-c9] at e4 c2;rw[<-f8] at c3 a5 d3;rw[<-d0] at c2 c3 c4;rw[<-d0];have k7:d<=6561:=(by omega);have e6:=aa (b5.o.len)
 have j8:=aa Z;have i8:=a8.cell 0;have i9:=a8.cell 1;clear O Z a8 a9 i6 i3 c9 f3 f8 d0 a1 d3 i5;go_enter func64,ntmps64;go_wp2_with(rw[<-a0]);first|rw[<-a0]|skip
 clear a0;refine e3.o.mono ?_;rintro e j6 ⟨rfl,b9⟩;obtain⟨⟨j0,j1⟩,_⟩:=e0.o _ b9;have e2:=aa (b3.o j6 b9);have d8:=aa b9;clear i8 i9 b9 e3 b3;go_wp2_with(go_at_call 96;refine(e5.o _).mono ?_;rintro e w' ⟨rfl,rfl⟩);refine e2.o.mono ?_;rintro e E ⟨v,rfl,f9,f4⟩;have d2:=d8.o.trans (f4.mono d8.o.size);obtain⟨⟨j2,j3⟩,f6⟩:=e0.o _ d2;have g6:=aa d2;have a4:=aa f6;have c5:=aa f9;clear j0 j1 f4 d2 f6 f9 e2;by_cases b8:N=0
 ·have h1:=aa (c2.o b8);have d4:decide (N≠0)=false:=by rw[b8];rfl
  rw[d4];go_wp2;go_ret;exact⟨by rw[h1.o];rfl,a4.o⟩
 ·have d4:decide (N≠0)=true:=decide_eq_true b8;rw[d4];by_cases g1:h<2
  ·have h2:=aa (c3.o g1);have i4:(h:Int)<2:=(by omega);have g8:=aa (a5.o E g6.o);clear a5 c5;go_wp2_with fail;refine g8.o.mono ?_;rintro e j7 ⟨j4,rfl,g2,a7⟩;obtain⟨k1,j9,rfl,_⟩:=aS g2 (by omega);have c1:=aa (a4.o.trans (a7.mono a4.o.size));clear g2 a7;go_wp2;go_ret;exact⟨by rw[h2.o];rfl,c1.o⟩
  ·have h3:=aa (c4.o g1);have i4:¬((h:Int)<2):=(by omega);have k4:=e4.o;have d1:=c5.o b8;obtain⟨i0,cv,rfl,_,_⟩:=cT d1 e6.o (by omega);have h6:=aa (iH d1 b5.o (by omega) (by omega));have e7:=aa (bd (w:=E) (base:=E.1.size) (e:=3) #[] [] rfl aQ (by unfold maxLen;simp));have e1:=aa (show Below E.1.size E (E.alloc (.cells #[] 3)) from aZ.alloc aQ _);have h9:=aa (λj:Nat=>show af (ju (vS M N 0) (j+1))=af (ju (vS M N 0) j)++[Ud 1] from by simp[ju,bh,af,vS]);clear d1 c5 a5 j2 j3;go_wp2;go_loopw[7,8] (λv i wr=>∃j:Nat,j<=N/\i= Ud j/\wr.ownsRow E.1.size 3 1 v j (af (ju (vS M N 0) j))/\Below E.1.size E wr) (λ_ i _=>N-(intOf i).toNat);exact⟨0,by omega,rfl,e7.o,e1.o⟩;clear e7 e1;obtain⟨j,k8,rfl,J,F⟩:=hrel;by_cases l1:j<N
   ·have k9:(j:Int)<(N:Int):=by omega
    have h8:=aa (h9.o j);go_wp2_with(first|(at_builtin;go_must(refine ow rfl _ _ 37 rfl E.1.size 3 (Ud 0) 8 underlying37 bK rfl _ j _ _ J rfl rfl rfl (by omega) (by unfold maxLen;omega) F.size ?_);intro v' m1 g3 g0 _));have h0:=aa g3;have g7:=aa (F.grown g0 F.size (λk a1=>(J.lt k a1).1));clear g3 g0 J F;go_roundw;exact⟨j+1,by omega,by go_num,by rw[h8.o];exact h0.o,g7.o⟩;simp[intOf];omega
   ·obtain rfl:j=N:=by omega
    have e8:=aa J;have Y:=aa F;clear J F;go_wp2;go_loopw[7,9] (λv i wr=>∃t:Nat,t+2<=h/\i= Ud ((t+2:Nat):Int)/\wr.ownsRow E.1.size 3 1 v j (af (ju (vS M j t) j))/\Below E.1.size E wr) (λ_ i _=>h-(intOf i).toNat);exact⟨0,by omega,rfl,e8.o,Y.o⟩;clear e8 Y;obtain⟨t,l7,rfl,J,F⟩:=hrel;by_cases l2:t+2<h
    ·obtain⟨u,W⟩:=aB (t+2);have c6:=aa W;have i7:(u:Int)<(h:Int):=(by omega);rw[<-W];obtain⟨f1,cr,rfl,b0⟩:=aS J (by omega);have f0:=aa (QG (cr:=cr) b0 (zT _ _));have c8:Below E.1.size E (wr.alloc (.cells #[.slice f1 j cr] 37)):=F.alloc F.size _;have b4:=aa (rH (some ⟨wr.1.size,0,none⟩) (some ⟨i0,0,none⟩) 1 j 1 cv j [ju (vS M j t) j] M ((9^t:Nat):Int) 1 _ f0.o (h6.o.below c8 aQ)
      (λr O=>by simp at O;subst O;rw[zT];omega) (λr O=>by rw[b5.o.row r O];omega)
      (λi q hi D=>by
       obtain rfl:i=0:=(by omega);rw[show cB [ju (vS M j t) j] 0 q=mP (ju (vS M j t) j) q from rfl,za _ D];exact a3.o t q D)
      (λp q Q D=>d9.o p q Q D)
      (by
       have c7:=Oz (show t<=4 by omega);have k3:(j:Int)*(((9^t:Nat):Int)*1)<=9*6561:=by
        rw[Int.mul_one];exact lG (by omega) (nr.2 c7) (kF _) (by omega)
       omega) (by omega) (by omega))
     rw[Re M e6.o t] at b4;unfold cK at b4;have b1:=aa c8;have Y:=aa F;have l5:=F.size;clear J F c8 W b0 f0;go_wp2_with fail;refine b4.o.mono ?_;rintro e j7 ⟨j4,rfl,i2,a7⟩;have f5:=b1.o.trans (a7.mono b1.o.size);obtain⟨j5,c0,g4⟩:=i2;obtain⟨x,a2⟩:=aE (l:=j5) (n:=0) (by rw[c0.1];simp);have d6:=g4.own 0 x (ju (vS M j (t+1)) j) a2 rfl;rw[zT] at d6;obtain⟨k2,k0,rfl,_,_⟩:=dP c0 (by simp);have k6:=(c0.cellAt 0 (by simp)).trans a2;have g9:=aa (aT (base':=E.1.size) d6 (by have:=b1.o.size;omega));have c1:=aa f5;clear c0 g4 d6 a2 a7 f5 b4 b1 Y;go_wp2;go_roundw;exact⟨t+1,by have:=c6.o;omega,by have:=c6.o;go_num,g9.o,c1.o⟩;have:=c6.o;simp[intOf];omega
    ·obtain⟨u,W⟩:=aB (t+2);have i7:¬((u:Int)<(h:Int)):=(by omega);have g5:t=h-2:=(by omega);rw[<-W];obtain⟨f1,cr,rfl,b0⟩:=aS J (by omega);have h5:=aa b0;have Y:=aa (a4.o.trans (F.mono a4.o.size));have h7:=aa (λq D=>a3.o t q D);have f2:=Oz (show t<=4 by omega);have e9:=aa (λ(q:Nat) (D:q<=j)=>iV (f:=vS M j t) (n:=j) (B:=6561) (λp Q=>⟨(a3.o t p Q).1,ir (a3.o t p Q).2 (nr.2 f2)⟩) q D);have h4:=aa (show R=cd (vS M j t) j by rw[h3.o,g5]);clear J F b0 W f2 g5;go_wp2;go_loop[10,11] (λx i=>∃q:Nat,q<=j/\i= Ud q/\x= Ud (cd (vS M j t) q)) (λ_ i=>j-(intOf i).toNat);exact⟨0,by omega,rfl,rfl⟩;obtain⟨q,D,rfl,rfl⟩:=hrel;by_cases d5:q<j
     ·have l4:(q:Int)<(j:Int):=by omega
      obtain⟨b,m0,rfl,k5,f7⟩:=h5.o.at_ (by omega);have i1:=f7 q (Ud (vS M j t q)) (aP (by simp[ju,d5]));have b6:=e9.o q D;have b7:=e9.o (q+1) d5;have b2:=aa (show cd (vS M j t) (q+1)=cd (vS M j t) q+vS M j t q from rfl);rw[b2.o] at b7;have c7:=(h7.o q d5).1;obtain⟨x,a2⟩:=aB (vS M j t q);obtain⟨y,d7⟩:=aB (cd (vS M j t) q);rw[<-a2] at i1 b7 c7 b2;rw[<-d7] at b6 b7 b2;rw[<-d7];have W:x+y<=4611686018427387904:=(by omega);have l8:=b6.1;have l9:=b6.2;clear a2 d7 b6 b7 f7;go_wp2;go_round;exact⟨q+1,by omega,by go_num,by rw[b2.o]⟩;simp[intOf];omega
     ·obtain rfl:q=j:=by omega
      go_wp2;go_ret;exact⟨by rw[h4.o];rfl,Y.o⟩
def qi(s:ByteArray)(w:World)(e:Ending)(w':World):Prop:=∃(r:ByteArray) (m:Int),e= .returned (.tuple #[.string r,Ud m])/\decide (r=s)=qW s/\Below w.1.size w w'
theorem ML{k:Nat}(E:k<=3){l}(h:fb k l=true):fb (3:Nat) l=true:=by
 unfold fb at*;rw[bm] at*;intro c D;have:=h c D;rw[eT] at*;omega
theorem ni{x:ByteArray}(h:0<x.size):x.toList.isEmpty=false:=by
 rw[Lib.toList_data];cases hl:x.1.1 with
 |nil=>
  have:=congrArg List.length hl;rw[bM] at this;have D:([]:List UInt8).length=0:=rfl;omega
 |cons a l=>rfl
theorem oe{a b:ByteArray}:(a.toList==b.toList)=decide (a=b):=by
 rw[bF,beq_iff_eq,decide_eq_true_iff,Lib.toList_data,Lib.toList_data];exact⟨λh=>tF h,λh=>by rw[h]⟩
theorem Dl(s)(m:Nat)(w)(I:s.size<=1000)(Y:m<=1000):
 Calls prog 153 #[.string s,Ud m] w λe w'=>e= .returned (.string ⟨(Lib.repeatL s.1.1 m).toArray⟩)/\w=w':=by
 go_enter func153,ntmps153;go_wp2;go_loop[5,6] (λv i=>∃(j:Nat) (o:ByteArray),j<=m/\i= Ud j/\v= .string o/\bv (o.1.1=Lib.repeatL s.1.1 j)/\o.size=j*s.size) (λ_ i=>m-(intOf i).toNat);exact⟨0,⟨#[]⟩,by omega,rfl,rfl,aa rfl,by show 0=_;omega⟩;obtain⟨j,o,O,rfl,rfl,h,J⟩:=hrel;by_cases W:j<m
 ·have Q:(j:Int)<(m:Int):=by omega
  have U:j*s.size<=1000*1000:=bX (by omega) I;have Z:¬(9223372036854775807<o.size+s.size):=(by omega);have D:=aa (show(o++s).1.1=Lib.repeatL s.1.1 (j+1) from by
   rw[fm,iA,h.o,Lib.repeatL_add,Lib.repeatL_one])
  have F:=aa (show(o++s).size=(j+1)*s.size from by rw[aK,J,ik]);go_wp2;go_round;exact⟨j+1,o++s,by omega,by go_num,rfl,D,F.o⟩;simp[intOf];omega
 ·obtain rfl:j=m:=by omega
  have E:=aa (show o=⟨(Lib.repeatL s.1.1 j).toArray⟩ from tF h.o);go_wp2;go_ret;exact⟨by rw[<-E.o];rfl,rfl⟩
theorem BN(s)(w)(c1:fb (3:Nat) s.1.1=true)(c5:1<=s.size)(c6:s.size<=16):
 Calls prog 150 #[.string s] w (qi s w):=by
 have b2:=aa (λw:World=>mu 3 s w (by omega) (by unfold maxLen;omega));rw[c1,decide_eq_true c6] at b2;have e1:=ni (x:=s) (by omega);have b7:=aa (λ(q:Nat) (W:1<=q) (e2:q<=s.size) (w:World)=>Dl (s.extract 0 q) (s.size/q) w (by rw[bl];omega) (by have:=ei s.size q;omega));have b0:=aa (λq:Nat=>show(s.extract 0 q).1.1=s.1.1.take q from by rw[wh];rfl);have c3:=aa (λq:Nat=>show jl s q=(decide (s.size%q=0)&&decide (Lib.repeatL (s.1.1.take q) (s.size/q)=s.1.1)) from rfl);have b6:=aa (yb (s:=s) c5);have a1:=aa (λ(q:Nat) (h:li s q=true) (a7:jl s (q+1)=false)=>ye h a7);have Y:=aa (λ(q:Nat) (d1:li s q=true) (W:q+1<=s.size) (a7:jl s (q+1)=true)=>Gm d1 W a7);have b3:=aa (show li s 0=true from rfl);unfold qi;obtain⟨d3,a3⟩:=aB (qW s);rw[<-a3] at Y;rw[<-a3];obtain⟨c4,b8⟩:=aB (li s);rw[<-b8] at a1 Y b3;clear b8 a3 c1;go_enter func150,ntmps150;go_wp2_with fail;refine(b2.o _).mono ?_;rintro e w' ⟨rfl,rfl⟩;go_wp2;go_loopw[4] (λi wr=>∃q:Nat,q+1<=s.size/\i= Ud ((q+1:Nat):Int)/\bv (c4 q=true)/\Below w.1.size w wr) (λi _=>s.size-(intOf i).toNat);exact⟨0,by omega,rfl,b3,aZ⟩;obtain⟨q,W,rfl,a0,a5⟩:=hrel;obtain⟨Q,F⟩:=aB (q+1);have E:=aa F;have b4:=aa (show(Q:Int)+1=((q+1+1:Nat):Int) by rw[F];rfl);have d2:=aa (show s.size-(Q+1)<s.size-Q\/¬Q<s.size by omega);have b5:=aa (c3.o Q);have a6:Int.tmod (s.size:Int) (Q:Int)=((s.size%Q:Nat):Int):=eg s.size Q;have c0:Int.tdiv (s.size:Int) (Q:Int)=((s.size/Q:Nat):Int):=lF s.size Q;have d5:((Q:Int)==0)=false:=by simp;omega
 have c9:Q<=s.size:=(by omega);have d8:(Q:Int)<=(s.size:Int):=(by omega);have c8:1<=Q:=(by omega);rw[<-F];by_cases U:s.size%Q=0
 ·have d9:Int.tmod (s.size:Int) (Q:Int)=0:=by rw[a6,U];rfl
  obtain⟨a9,O⟩:=aB (s.size/Q);have d4:a9<=16:=by rw[O];have:=ei s.size Q;omega
  rw[<-O] at c0;have a2:=aa (λw=>b7.o Q c8 c9 w);obtain⟨X,a4⟩:=aB (α:=ByteArray) (⟨(Lib.repeatL (s.extract 0 Q).1.1 a9).toArray⟩);rw[<-O,<-a4] at a2;have b9:(X.toList==s.toList)=jl s Q:=by
   rw[b5.o,decide_eq_true U,dK,<-O,<-b0.o Q,bF,beq_iff_eq,decide_eq_true_iff,Lib.toList_data,Lib.toList_data,a4]
  have e0:=(b0.o Q);clear a4 O a6 U b7;cases D:jl s Q with
  |true=>
   rw[D] at b9;have b1:=aa (Y.o q a0.o W (by rw[<-E.o];exact D));rw[<-F] at b1;clear D E F;go_wp2;go_quiet((go_at_call 153;exact aF ((a2.o _).mono (λe w' h=>⟨h.1,h.2.symm⟩))));have I:=aA a5 nq;obtain⟨e8,a8⟩:=aB (wr.drewN nq);rw[<-a8] at I;rw[<-a8];clear a8;go_wp2;go_quiet(fail);have d0:=aA I nq;go_wp2;go_ret2;exact⟨_,_,rfl,b1.o,d0⟩
  |false=>
   rw[D] at b9;have Z:=aa (a1.o q a0.o (by rw[<-E.o];exact D));have c7:Q<s.size:=by
    rcases eE Q s.size with h|h
    ·exact h
    ·have:Q=s.size:=by omega
     rw[this,b6.o] at D;cases D
   clear D F;go_wp2;go_quiet((go_at_call 153;exact aF ((a2.o _).mono (λe w' h=>⟨h.1,h.2.symm⟩))));have I:=aA a5 nq;go_wp2;go_roundw;exact⟨q+1,by have:=E.o;omega,congrArg (Value.int .i64) b4.o,Z,I⟩;have:=E.o;simp[intOf];omega
 ·have D:jl s Q=false:=by rw[b5.o,decide_eq_false U];rfl
  obtain⟨J,c2⟩:=aB (s.size%Q);have e5:J<=16:=by have:=dI s.size (show 0<Q by omega);omega
  rw[<-c2] at a6;have e3:((J:Int)==0)=false:=by simp;omega
  have e4:¬(J=0):=(by omega);have e6:¬((J:Int)=0):=(by omega);have e7:IntKind.i64.wrap (J:Int)=(J:Int):=au _ (by omega);have d6:¬(Q=0):=(by omega);have d7:¬((Q:Int)=0):=(by omega);have Z:=aa (a1.o q a0.o (by rw[<-E.o];exact D));have c7:Q<s.size:=by
   rcases eE Q s.size with h|h
   ·exact h
   ·have:Q=s.size:=by omega
    rw[this,b6.o] at D;cases D
  clear D c0 F c2 U;go_wp2;go_quiet(fail);have I:=aA a5 nq;go_wp2;go_roundw;exact⟨q+1,by have:=E.o;omega,congrArg (Value.int .i64) b4.o,Z,I⟩;have:=E.o;simp[intOf];omega
end Go.Proofs.YtbdlbckeffakjaaGreatDoor
