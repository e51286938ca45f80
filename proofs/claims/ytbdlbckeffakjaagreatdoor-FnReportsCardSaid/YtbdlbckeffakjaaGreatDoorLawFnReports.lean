/- The law FnReports returns true for all bytes, as a tied card. No condition but what the card ties. -/
import Derived.LaidMore
import Derived.Lay
import Derived.Test.YtbdlbckeffakjaaGreatDoorDrawL
import Derived.Test.YtbdlbckeffakjaaGreatDoorTie
import Derived.Test.YtbdlbckeffakjaaGreatDoorCards
namespace Go.Proofs.YtbdlbckeffakjaaGreatDoor
set_option maxHeartbeats 8000000
set_option maxRecDepth 100000
open Go.Proofs.Tryz Go.RowKit
theorem zY{w:World}{B e n b}{v}{xs}(h:w.ownsRow B e 3 v n xs)(D:v.ownBlock≠some b)(q)(y):(w.setCell ⟨b,q,none⟩ y).ownsRow B e 3 v n xs:=
 h.kept (row:=some b) ⟨rfl,rfl,rfl,by simp,λp F E=>dE _ _ _ _ (λe=>E (by rw[show p=b from e]))⟩ (by
  cases hv:v.ownBlock with
  |none=>exact .inl rfl
  |some q=>exact .inr (λe=>D (by rw[hv,<-e])))
theorem ID{P}{wr:World}{b4}{o}{a}{K}{Q}{E}
 (a0:o.guard=none)(s x)(t)(a4:o.op=Op.call {callee:=Callee.builtin Builtin.append,args:=#[s,x],argTypes:=#[t,t]})
 (B)(e)(W:P.underlying t=some (.slice e))(a2:(P.info? e).map (λi=>(i.zero,i.size,i.bytes))=some (some (.agg #[Ud 0,Ud 0,Ud 0]),3,24))
 (v)(m)(xs)(I J O)(a6:wr.ownsRow B e 3 v m xs)(a8:a.eval s=v)(b0:a.eval x= .slice (some ⟨wr.1.size,0,none⟩) 1 1)
 (b6:m<=1048576)(b5:B<=wr.1.size)
 (Y:∀F c' D,D.ownsRow B e 3 (.slice (some ⟨F,0,none⟩) (m+1) c') (m+1) (xs++af [I,J,O])->wr.grownBy D v.ownBlock->(v.ownBlock=some F\/wr.1.size<=F)->K (a.put o.dst (.slice (some ⟨F,0,none⟩) (m+1) c')) D):
 if Region.wanted o (yielded b4 a.tmps)=true then Oper.wp P o a (wr.alloc (.cells #[Ud I,Ud J,Ud O] e)) K Q else E:=by
 obtain⟨i,hi,b1,b2,b3⟩:=info_parts a2;refine step_append_lies _ a0 s x t a4 B e i _ 3 24 W hi b1 b2 b3 rfl (by decide) v m xs a8 (a6.alloc _) ⟨wr.1.size,0,none⟩ 1 1 (af [I,J,O]) b0 rfl ?_ (by intro u a9;obtain⟨x,_,rfl⟩:=bi.1 a9;rfl) (by omega) (by unfold maxLen;omega) (by omega) (by simp;omega) (wr.1.size+1) (by simp) ?_
 ·intro j y a3;have Z:(⟨wr.1.size,0,none⟩:Addr).add j=⟨wr.1.size,j,none⟩:=by
   unfold Addr.add;split
   ·rename_i U;subst U;rfl
   ·simp
  rw[Z,aL _ _ _ _ rfl];simpa[af] using a3
 ·intro g cap D a7 a1 a5 _;refine Y g cap D a7 (dd (cC _ _ _) a1) ?_;rcases a5 with h|h
  ·exact .inl h
  ·exact .inr (by omega)
theorem Nc(a0 w)(g)(a)(n c)(bs)(h:Bz a0 w g a n c bs):
 Calls prog 31 #[.pointer (some ⟨g,0,none⟩)] w (tH 101 a0 w g a n c bs):=by
 have d8:g<w.1.size/\a0.1.size<=w.1.size:=by obtain⟨i,k,x⟩:=h;exact⟨x.hi,x.bel.size⟩
 have a6:=d8.1;have a7:=d8.2;have c9:=aa (h.drew0.alloc (.cells #[Ud 0,Ud 0,.slice none 0 0] 35));have e2:=aa (bA.new w #[Ud 0,Ud 0,.slice none 0 0] 35);have c2:=aa (Nb a0 _ g a n c bs c9.o.1);have g0:(w.alloc (.cells #[Ud 0,Ud 0,.slice none 0 0] 35)).1.size=w.1.size+1:=(by simp);unfold tH at c2;rw[g0] at c2;unfold tH;clear h d8 g0;go_enter func31,ntmps31;go_wp2_with fail;refine c2.o.mono ?_;rintro e g8 ⟨L,S,D,cv,m,xs,rfl,d9,g1,j5,E⟩;have d3:=aa g1;obtain⟨q,c6⟩:=aB g8.1.size;have a8:=aa (show(Value.slice D m cv).ownBlock≠some q fromλe=>by have:=(d9.lt q e).2;omega);have d4:=e2.o.grown E.2 (by omega);have j8:w.1.size<q:=by rw[c6];exact d4.lt
 have e3:=aa (d4.alloc (.cells #[Ud L,Ud S,.slice D m cv] 35));have d2:=aa (bA.new g8 #[Ud L,Ud S,.slice D m cv] 35);have e8:=aa (d9.alloc (.cells #[Ud L,Ud S,.slice D m cv] 35));have d0:=aa ((c9.o.trans E).alloc (.cells #[Ud L,Ud S,.slice D m cv] 35));rw[<-c6] at d2;have j4:g<q:=(by omega);have e6:=aa (dF a0 _ g a n c bs 18 d0.o.1 (by omega) (by omega));clear d9 E d4 g1 c2 c9 e2;go_wp2_with fail;rw[<-c6];clear c6;refine e6.o.mono ?_;rintro e c7 ⟨y,rfl,k0,E⟩;have a3:=aa (d0.o.trans E);have a2:=aa (e3.o.grown E.2 (by omega));have Z:=aa (d2.o.grown E.2 (by omega));have a9:=aa (kK e8.o E.2 (by omega));have j3:=a3.o.gW;have j6:=Z.o.lt;clear E e6 d0 e3 d2 e8;by_cases i1:y=0
 ·subst i1;obtain⟨c3,d6⟩:=aB (α:=World->Prop) (λV=>V.cell? ⟨q,2,none⟩=some (.slice D m cv));have b5:=aa (show∀V,c3 V->V.cell? ⟨q,2,none⟩=some (.slice D m cv) fromλV f7=>by rw[d6] at f7;exact f7);have a5:=aa (show∀V,bA V q #[Ud L,Ud S,.slice D m cv]->c3 V fromλV h4=>by rw[d6];exact h4.cell 2);have j2:c3 c7.drew:=a5.o _ (Z.o.below aZ.drew);have Q:=aa (a3.o.app aZ.drew a6 a7);have J:=aa (Z.o.below aZ.drew);have W:=aa (a2.o.below aZ.drew);have U:=aa (show c7.drew.ownsRow (w.1.size+1) 90 3 (.slice D m cv) m (af xs) from a9.o);clear d6 a3 a2 Z a9;go_wp2_with fail;refine dr (S:=c3) 11 (by kernel_rfl) ?_;iterate 3 (refine kG rfl (by kernel_rfl) (λ_ _ _ h=>h) (by rfl) (by assumption) (λV I=>by have I:=b5.o V I;go_split_ands;go_simp;first|done|with_reducible rfl) ?_;try simp only[Act.put,ab,ac,ae])
  (refine jw 5 rfl (by kernel_rfl) (λ_ _ _ h=>h) (by rfl) (by assumption) (λV I=>by have I:=b5.o V I;go_split_ands;go_simp;first|done|with_reducible rfl) ?_;try simp only[Act.put,ab,ac,ae]);have b0:=aa (dF a0 _ g a n c bs 4 Q.o.1 (by omega) (by omega));refine aY (i:=3) rfl (by kernel_rfl) (by decide) (λK F=> ?_);go_simp;go_at_call 34;refine b0.o.mono ?_;rintro e k2 ⟨c1,rfl,i0,O⟩;have b2:=aa (Q.o.trans O);have a4:=aa (J.o.grown O.2 (by omega));have b6:=aa (W.o.grown O.2 (by omega));have b4:=aa (kK U.o O.2 (by omega));have d7:=a5.o _ a4.o;clear O b0 Q J W U;go_wp2_with fail;refine F.out _ _ d7 ?_;clear F K;try simp only[Act.put,ab,ac,ae]
  obtain⟨Q,J,W,U⟩:=And.intro b2 (And.intro a4 (And.intro b6 b4));clear b2 a4 b6 b4;have j7:IntKind.i64.wrap ((c1:Int)-1)=(c1:Int)-1:=au _ (by omega);have h7:=a5.o _ J.o;(refine jw 4 rfl (by kernel_rfl) (λ_ _ _ h=>h) (by rfl) (by assumption) (λV I=>by have I:=b5.o V I;go_split_ands;go_simp;first|done|with_reducible rfl) ?_;try simp only[Act.put,ab,ac,ae]);have b0:=aa (dF a0 _ g a n c bs 3 Q.o.1 (by omega) (by omega));refine aY (i:=6) rfl (by kernel_rfl) (by decide) (λK F=> ?_);go_simp;go_at_call 34;refine b0.o.mono ?_;rintro e i7 ⟨e1,rfl,i0,O⟩;have b2:=aa (Q.o.trans O);have a4:=aa (J.o.grown O.2 (by omega));have b6:=aa (W.o.grown O.2 (by omega));have b4:=aa (kK U.o O.2 (by omega));have d7:=a5.o _ a4.o;clear O b0 Q J W U;go_wp2_with fail;refine F.out _ _ d7 ?_;clear F K;try simp only[Act.put,ab,ac,ae]
  obtain⟨Q,J,W,U⟩:=And.intro b2 (And.intro a4 (And.intro b6 b4));clear b2 a4 b6 b4;have h7:=a5.o _ J.o;(refine jw 7 rfl (by kernel_rfl) (λ_ _ _ h=>h) (by rfl) (by assumption) (λV I=>by have I:=b5.o V I;go_split_ands;go_simp;first|done|with_reducible rfl) ?_;try simp only[Act.put,ab,ac,ae]);have h6:=a5.o _ (J.o.alloc (.cells #[Ud ((c1:Int)-1),Ud 0,Ud e1] 90));refine aY (i:=8) rfl (by kernel_rfl) (by decide) (λK F=> ?_);go_simp;refine F.out _ _ h6 ?_;clear F K;try simp only[Act.put,ab,ac,ae]
  refine aY (i:=9) rfl (by kernel_rfl) (by decide) (λK F=> ?_);refine ID (by rfl) _ _ 33 (by rfl) (w.1.size+1) 90 underlying33 pU (.slice D m cv) m _ ((c1:Int)-1) 0 e1 U.o (by rfl) (by rfl) (by omega) W.o.lt ?_;intro Y a1 e0 f9 c5 f8;have c4:=J.o.keep c5 a8.o;have d5:=W.o.keep c5 (λe=>by have:=(U.o.lt _ e).1;omega);have j9:=W.o.lt;have f6:=Q.o.app (show Below w.1.size i7 e0 from aZ.grown c5 (by omega) (λk h9=>by have:=(U.o.lt k h9).1;omega)) a6 a7;have e7:=aa (show(Value.slice (some ⟨Y,0,none⟩) (m+1) a1).ownBlock≠some q fromλe=>by
   have e:some Y=some q:=e;injection e with e
   subst e;rcases f8 with h|h
   ·exact a8.o h
   ·have:=J.o.lt;omega)
  have h5:=a5.o _ c4;have h0:=aa (show(xs++[(c1:Int)-1,0,(e1:Int)]).length=(m+1)*3 by rw[az,d3.o];simp;omega);refine F.out _ _ h5 ?_;clear F K;try simp only[Act.put,ab,ac,ae]
  (refine jw 10 rfl (by kernel_rfl) (λ_ _ _ h=>h) (by rfl) (by assumption) (λV I=>by have I:=b5.o V I;go_split_ands;go_simp;first|done|with_reducible rfl) ?_;try simp only[Act.put,ab,ac,ae]);obtain⟨⟨g2,g3,g4⟩,g5,g6,g7⟩:=c4.c3;have h2:=aa (c4.set2 (.slice (some ⟨Y,0,none⟩) (m+1) a1));have f5:=d5.other (i:=2) (q:=q) (by omega) (.slice (some ⟨Y,0,none⟩) (m+1) a1);obtain⟨⟨i4,i5,i6⟩,i8,i9,j0⟩:=h2.o.c3;obtain⟨⟨b8,b9,c0⟩,u0,u1,u2⟩:=f5.c3;have b7:=d5.lt;have b3:=aa (aT (pF (zY f9 e7.o 2 (.slice (some ⟨Y,0,none⟩) (m+1) a1)) (cG w.1.size) (Ud L) (Ud S) (.slice (some ⟨Y,0,none⟩) (m+1) a1)) (kW w.1.size));have b1:=aa ((f6.app (show Below w.1.size e0 (e0.setCell ⟨q,2,none⟩ (.slice (some ⟨Y,0,none⟩) (m+1) a1)) from aZ.setCell (show w.1.size<=q by omega) _) a6 a7).app (dM (aV w.1.size _) aQ (Ud L) (Ud S) (.slice (some ⟨Y,0,none⟩) (m+1) a1)) a6 a7);clear f9 c5 f8 c4 d5 f6 f5 W U Q J a8 e7;refine cU rfl (by kernel_rfl) (by kernel_rfl) (λK F=> ?_);go_simp;refine F.out _ _ ?_;clear F K;go_wp2;refine bodyPost_ret (v:=.agg #[Ud L,Ud S,.slice (some (Addr.mk Y 0 none)) (m+1) a1]) (by simp[results,results31,go_sem,b8,b9,c0,b7]) rfl ?_;exact⟨_,_,_,_,m+1,_,rfl,by rw[kQ];exact b3.o,h0.o,by omega,b1.o⟩
 ·have j1:((y:Int)==0)=false:=by simp;omega
  by_cases i2:y=1
  ·subst i2;have d1:=aa (a3.o.alloc (.cells #[Ud 0,Ud 4,Ud 1,Ud 3] 3));have e4:=aa (a2.o.alloc (.cells #[Ud 0,Ud 4,Ud 1,Ud 3] 3));have f2:=aa (Z.o.alloc (.cells #[Ud 0,Ud 4,Ud 1,Ud 3] 3));have e9:=aa (a9.o.alloc (.cells #[Ud 0,Ud 4,Ud 1,Ud 3] 3));have f1:=aa (jC a0 _ g a n c bs (some ⟨c7.1.size,0,none⟩) 4 4 [0,4,1,3] d1.o.1 (by omega) (by omega) (nV (w:=c7) #[Ud 0,Ud 4,Ud 1,Ud 3] _ _ rfl (λj v h8=>by simpa[af] using h8) (by omega)) (λq k1 e=>by
    injection e with e
    injection e with h3
    omega))
   clear a3 a2 Z a9;go_wp2_with fail;refine f1.o.mono ?_;rintro e g9 ⟨z,rfl,i3,E⟩;have c8:=aa (e4.o.grown E.2 (by omega));have f3:=aa (f2.o.grown E.2 (by omega));have f0:=aa (kK e9.o E.2 (by omega));have e5:=aa (d1.o.trans E);have h1:=aa (f3.o.set0 (Ud z));have f4:=c8.o.other (i:=0) (q:=q) (by omega) (Ud z);obtain⟨⟨g2,g3,g4⟩,g5,g6,g7⟩:=f3.o.c3;obtain⟨⟨i4,i5,i6⟩,i8,i9,j0⟩:=h1.o.c3;obtain⟨⟨b8,b9,c0⟩,u0,u1,u2⟩:=f4.c3;have b7:=c8.o.lt;have b3:=aa (aT (pF (zY f0.o a8.o 0 (Ud z)) (cG w.1.size) (Ud z) (Ud S) (.slice D m cv)) (kW w.1.size));have b1:=aa ((e5.o.app (show Below w.1.size g9 (g9.setCell ⟨q,0,none⟩ (Ud z)) from aZ.setCell (show w.1.size<=q by omega) _) a6 a7).app (dM (aV w.1.size _) aQ (Ud z) (Ud S) (.slice D m cv)) a6 a7);clear E i3 f1 d1 e4 f2 e9 c8 f0 e5 f4 a8;go_wp2;refine bodyPost_ret (v:=.agg #[Ud z,Ud S,.slice D m cv]) (by simp[results,results31,go_sem,b8,b9,c0,b7]) rfl ?_;exact⟨_,_,_,_,m,xs,rfl,b3.o,d3.o,by omega,b1.o⟩
  ·have h3:((y:Int)==1)=false:=by simp;omega
   obtain⟨⟨g2,g3,g4⟩,g5,g6,g7⟩:=Z.o.c3;obtain⟨⟨b8,b9,c0⟩,u0,u1,u2⟩:=a2.o.c3;have b7:=a2.o.lt;have b3:=aa (aT (pF a9.o (cG w.1.size) (Ud L) (Ud S) (.slice D m cv)) (kW w.1.size));have b1:=aa (a3.o.app (dM (aV w.1.size _) aQ (Ud L) (Ud S) (.slice D m cv)) a6 a7);clear a9 Z a2 a3 a8;go_wp2;refine bodyPost_ret (v:=.agg #[Ud L,Ud S,.slice D m cv]) (by simp[results,results31,go_sem,b8,b9,c0,b7]) rfl ?_;exact⟨_,_,_,_,m,xs,rfl,b3.o,d3.o,by omega,b1.o⟩
def Qw(w:World)(e:Ending)(w':World):Prop:=∃(L S:Int) (h:Option Addr) (cv m:Nat) (xs:List Int),e= .returned (.agg #[Ud L,Ud S,.slice h m cv])/\w'.ownsRow w.1.size 90 3 (.slice h m cv) m (af xs)/\xs.length=m*3/\m<=101/\Below w.1.size w w'
theorem sQ(a)(n c)(bs)(w)(a1:aO w a n (bo bs)):
 Calls prog 8 #[.slice a n c] w (Qw w):=by
 have J:Below w.1.size w (w.alloc (.cells #[Ud 0,Ud 0,.slice none 0 0] 35)):=aZ.alloc aQ _;have Y:=aa (tn a n c bs _ (a1.below J aQ));have U:=aa (bA.new w #[Ud 0,Ud 0,.slice none 0 0] 35);have E:=aa J;unfold Qw;clear a1 J;go_enter func8,ntmps8;go_wp2_with fail;refine Y.o.mono ?_;rintro e a9 ⟨g,rfl,O,Z⟩;have h:=aa (U.o.below Z);have b0:w.1.size<g:=by obtain⟨i,k,x⟩:=O;have:=x.lo;simp at this;omega
 have W:=aa (Nc _ a9 g a n c bs O);unfold tH at W;clear O Z Y U;go_wp2_with fail;refine W.o.mono ?_;rintro e b1 ⟨L,S,F,cv,m,xs,rfl,a0,a3,a4,Q⟩;have I:=h.o.grown Q.2 (by omega);obtain⟨⟨a6,a7,a8⟩,u0,u1,u2⟩:=I.c3;have a5:=I.lt;have a2:=h.o.lt;have D:=aa (And.intro (aT (pF a0 a2 (Ud L) (Ud S) (.slice F m cv)) (io a2)) (And.intro a3 (dM (E.o.trans (Q.bel.mono E.o.size)) (aN w.1.size) (Ud L) (Ud S) (.slice F m cv))));clear a0 a3 Q I h E;go_wp2;refine bodyPost_ret (v:=.agg #[Ud L,Ud S,.slice F m cv]) (by simp[results,results8,go_sem,a6,a7,a8,a5]) rfl ?_;exact⟨_,_,_,_,m,xs,rfl,D.o.1,D.o.2.1,a4,D.o.2.2⟩
theorem Sw(a)(n c)(w)(E:n<=140737488351232):Calls prog 4 #[.slice a n c] w λe w'=>e= .returned (.bool (decide (1048576<n)))/\w=w':=by
 by_cases h:1048576<n
 ·have D:(1048576:Int)<(n:Int):=by omega
  go_enter func4,ntmps4;go_wp2;go_ret;exact⟨by simp[h],rfl⟩
 ·have D:¬((1048576:Int)<(n:Int)):=by omega
  go_enter func4,ntmps4;go_wp2;go_ret;exact⟨by simp[h],rfl⟩
section
open Go.ChangeShapes Go.WideShapes Go.ChangeAt
open Go.ChangeMaps (open_string shut_string)
def Lr(W:World)(v:Value):Prop:=∃a n c bs,v= .slice a n c/\aO W a n (bo bs)
theorem Qh:prog.cellsOf 5=1:=by kernel_rfl
theorem Qk:prog.bytesOf 5=1:=by kernel_rfl
theorem ui:∀{zs:List Int},(∀z∈zs,(Lit.int .u8 z).wf=true)->∃bs:List UInt8,zs.map (Value.int .u8)=bo bs
 |[],_=>⟨[],rfl⟩
 |z::zs,h=>by
  obtain⟨bs,D⟩:=ui (zs:=zs) λx E=>h x (ip _ E)
  have F:=h z (kE ..);have J:0<=z/\z<=255:=by simpa[Lit.wf,IntKind.min,IntKind.max,IntKind.bits,IntKind.signed] using F
  refine⟨UInt8.ofNat z.toNat::bs,?_⟩;have I:((UInt8.ofNat z.toNat).toNat:Int)=z:=by rw[gJ];omega
  simp only[ej,D,bo,I]
theorem Ja{H}{enc}{W}{base}{v}{d:DataW H}{p}{Y:List Nat}
 (a9:Value.okWide Tryz.prog W .any base 22 v)(h:DataW.Trod enc Tryz.prog W 0 (λ_=>true) true 22 v d p)
 (a6:∀x∈d.weights Tryz.prog 22,x∈Y)(a1:Y.all (·<=reachBytes)=true):Lr W v:=by
 obtain⟨b3,E,Z,rfl⟩:=okWide_slice Tryz.underlying22 a9;obtain⟨b4,a3⟩:=h;rcases open_ints Tryz.underlying22 Tryz.underlying5 Qh a3 with⟨F,D⟩|⟨a,b8,cap,zs,F,_,a5,b5,J,D,O,b0⟩
 ·simp[Value.cells] at F;obtain⟨rfl,rfl,rfl⟩:=F;exact⟨none,0,0,[],rfl,⟨rfl,by omega,λh=>by omega⟩⟩
 ·simp[Value.cells] at F;obtain⟨rfl,rfl,rfl⟩:=F;simp only[Prod.mk.injEq] at D;obtain⟨rfl,rfl⟩:=D;simp only[if_true] at J;have b7:E<=140737488351232:=by
   have a0:=a6 ((E+(zs.length-E))*Tryz.prog.bytesOf 5) (by simp[DataW.weights,Tryz.underlying22,lits,J,a5]);have I:=bm.1 a1 _ a0;rw[Qk] at I;have I:=of_decide_eq_true I;simp only[reachBytes] at I;omega
  obtain⟨bs,Q⟩:=ui (zs:=zs.take E) λz J=>b0 z (dh J)
  refine⟨some a,E,Z,bs,rfl,⟨by rw[<-Q];simp;omega,by omega,λb6=> ?_⟩⟩;obtain⟨b,b1,b2⟩:=a;have a8:b2=none:=by simpa[Addr.add] using World.cell?_spot (O 0 (by omega))
  subst a8;have a2:b<W.1.size:=by
   have:=kU W _ (O 0 (by omega));simpa[Addr.add] using this
  refine⟨b,b1,rfl,a2,λk x D=> ?_⟩;rw[<-Q] at D;have a4:k<E:=by
   have:=(aw.1 D).1;simp at this;omega
  have U:=O k (by omega);rw[add_plain] at U;rw[U];simp only[dl,cP,a4,if_true] at D;obtain⟨s,a7,rfl⟩:=eV.1 D;simp[List.getD,a7]
end
theorem Li:∀(n:Nat) (xs:List Int),xs.length=n*3->∃A:List (Int×Int×Int),A.length=n/\bC A=af xs
 |0,xs,h=>⟨[],rfl,by rw[ey (by omega:xs.length=0)];rfl⟩
 |n+1,x::y::z::xs,h=>by
  obtain⟨A,D,E⟩:=Li n xs (by simp at h;omega);exact⟨(x,y,z)::A,by simp[D],by rw[show af (x::y::z::xs)= Ud x:: Ud y:: Ud z::af xs from rfl,<-E];rfl⟩
 |n+1,[],h=>by simp at h
 |n+1,[_],h=>by simp at h;omega
 |n+1,[_,_],h=>by simp at h;omega
theorem TH(b):((!b)==b)=false:=by cases b<;>rfl
theorem EP{t:ByteArray}{b}(h:(t.toList==ByteArray.toList ⟨#[]⟩)=b):t.toList.isEmpty=b:=by
 rw[<-h,Lib.toList_data,Lib.toList_data];cases t.1.1<;>rfl
theorem zt(b2)(v)(h:Lr b2 v)(d6:Bu b2):
 Calls prog 3 #[v] b2 λe k6=>e= .returned (.bool true)/\Below b2.1.size b2 k6:=by
 obtain⟨a,n,c,b4,rfl,b5⟩:=h;have i0:=b5.lim;by_cases h4:1048576<n
 ·clear d6;go_enter func3,ntmps3;go_wp2_with fail;refine(Sw a n c _ i0).mono ?_;rintro e i7 ⟨rfl,rfl⟩;rw[decide_eq_true h4];go_wp2;go_ret;exact⟨rfl,aZ⟩
 have Q:=aa ((Aw b5).and ((RA d6).and (SZ b2)));clear b5 d6;go_enter func3,ntmps3;go_wp2_with fail;refine(Sw a n c _ i0).mono ?_;rintro e i7 ⟨rfl,rfl⟩;rw[decide_eq_false h4];go_wp2_with fail;refine(sP a n c b4 _ Q.o.now.1).mono ?_;rintro e i7 ⟨o4,M,rfl,h6,l1,g4,E⟩;obtain⟨b7,d0,rfl,e0⟩:=iw h6 (by omega) (λr b5=>by have:=g4 r b5;omega);obtain⟨e1,d8⟩:=aB M.length;rw[<-d8] at e0;rw[<-d8];obtain⟨n4,d1,g5,g0⟩:=PX M e1;have c7:=aa (λ(w:World) (h:bZ w b7 e1 M)=>fu b7 e1 d0 M w h);obtain⟨k7,g9⟩:=aB (kX M);rw[<-g9] at d1 c7;have f1:=aa g5;have e6:=aa g0;have j7:=aa d1;have a1:=aa (SY e0);have Q:=aa (Q.o.mv E);clear h6 l1 g4 E e0 d8 d1 g5 g0 g9;go_wp2_with fail;refine(tV a n c b4 _ Q.o.now.1).mono ?_;rintro e b0 ⟨k,a3,cv,ss,rfl,W,h7,b3,E⟩;obtain⟨m,d7⟩:=aB ss.length;rw[<-d7] at W h7;rw[<-d7];obtain⟨a',c',h5,Y⟩:=aS W (by omega);simp only[aJ,true_and] at h5;obtain⟨rfl,rfl⟩:=h5;obtain⟨n5,d2,g6,g1⟩:=PW k ss m (λs d9=>by have:=b3 s d9;unfold maxLen;omega);have c5:=aa (λ(w:World) (h:aO w a3 m (ap ss))=>nM k a3 m cv ss w h (λs d9=>by have:=b3 s d9;unfold maxLen;omega));obtain⟨k8,h0⟩:=aB (iE k ss);rw[<-h0] at d2 c5;have f2:=aa g6;have e7:=aa g1;have j8:=aa d2;have U:=JI b0 (.cells #[Ud k,.slice a3 m cv] 28);have a5:=aa (((Aw Y).mv U).and (RB b0 (Ud k) (.slice a3 m cv) 28));have a1:=aa ((a1.o.mv E).mv U);have Q:=aa ((Q.o.mv E).mv U);clear W h7 b3 E d7 Y d2 g6 g1 h0 U;go_wp2_with fail;refine(vb a n c b4 _ Q.o.now.1).mono ?_;rintro e Z ⟨a7,a8,a9,rfl,l3,E⟩;obtain⟨n6,d3,g7,g2⟩:=RS a7 a8 a9 (by unfold maxLen;omega)
 have c2:=aa (λ(w:World)=>gh a7 a8 a9 w (by unfold maxLen;omega));obtain⟨k9,h1⟩:=aB (du a7 a8 a9);rw[<-h1] at d3 c2;have f3:=aa g7;have e8:=aa g2;have j9:=aa d3;have U:=JI Z (.cells #[Ud a7,Ud a8,.string a9] 31);have b1:=aa (KB Z (Ud a7) (Ud a8) (.string a9) 31);have a1:=aa ((a1.o.mv E).mv U);have a5:=aa ((a5.o.mv E).mv U);have Q:=aa ((Q.o.mv E).mv U);clear l3 E d3 g7 g2 h1 U;go_wp2_with fail;refine(sQ a n c b4 _ Q.o.now.1).mono ?_;rintro e a0 ⟨L,S,a2,a6,a4,xs,rfl,W,i5,l2,E⟩;obtain⟨A,f8,f9⟩:=Li a4 xs i5;have Y:=xx W (by omega);rw[<-f9] at Y;obtain⟨n7,d4,g8,g3⟩:=PY L S A a4 f8 (by omega);have c3:=aa (λ(w:World) (h:aO w a2 (a4*3) (bC A))=>fJ L S a2 a4 a6 A w h (by omega));obtain⟨l0,h2⟩:=aB (fy L S A);rw[<-h2] at d4 c3;have f4:=aa g8;have e9:=aa g3;have k0:=aa d4;have U:=JI a0 (.cells #[Ud L,Ud S,.slice a2 a4 a6] 35);have b6:=aa (((Aw Y).mv U).and (KB a0 (Ud L) (Ud S) (.slice a2 a4 a6) 35));have a1:=aa ((a1.o.mv E).mv U);have a5:=aa ((a5.o.mv E).mv U);have b1:=aa ((b1.o.mv E).mv U);have Q:=aa ((Q.o.mv E).mv U);clear W i5 l2 E f8 f9 Y d4 g8 g3 h2 U;go_wp2_with fail;refine(wK a n c b4 _ Q.o.now.1).mono ?_;rintro e o7 ⟨o5,ys,rfl,W,h9,i6,E⟩;obtain⟨c0,i1⟩:=aB ys.length;rw[<-i1] at W h9;obtain⟨b8,f6,rfl,Y⟩:=aS W (by omega);have d5:∀x∈ys,Bx x:=λx l6=>by have:=i6 x l6;unfold Bx;omega
 have c8:=aa (λ(w:World) (h:aO w b8 c0 (af ys))=>fp b8 c0 f6 ys w h d5 (by omega));have c4:=aa (λ(w:World) (h:aO w b8 c0 (af ys)) (l5:qP w)=>uP b8 c0 f6 ys w h d5 (by omega) l5);obtain⟨n8,i3⟩:=aB (pG ys);rw[<-i3] at c8 c4;have f5:=aa (Aw Y);have a1:=aa (a1.o.mv E);have a5:=aa (a5.o.mv E);have b1:=aa (b1.o.mv E);have b6:=aa (b6.o.mv E);have Q:=aa (Q.o.mv E);clear W h9 i6 E Y i1 d5 i3;go_wp2_with fail;refine(yW a n c b4 _ Q.o.now.1).mono ?_;rintro e F ⟨o6,zs,rfl,W,h8,b3,E⟩;have l4:=Oe b3;obtain⟨c1,i2⟩:=aB zs.length;rw[<-i2] at W h8;obtain⟨b9,f7,rfl,Y⟩:=aS W (by omega);have c9:=aa (λ(w:World) (h:aO w b9 c1 (ap zs))=>wS b9 c1 f7 zs w h (by omega));have c6:=aa (λ(w:World) (h:aO w b9 c1 (ap zs))=>xz b9 c1 f7 zs w h (by omega));obtain⟨n9,i4⟩:=aB (NI zs);rw[<-i4] at c9 c6;have J:=aa (((a1.o.mv E).and ((a5.o.mv E).and ((b1.o.mv E).and ((b6.o.mv E).and ((f5.o.mv E).and ((Aw Y).and (Q.o.mv E))))))));clear W h8 b3 E Y i2 l4 i4 a1 a5 b1 b6 f5 Q;have f0:=aa (λ(V:World) (I:Below F.1.size F V)=>show V.cell? ⟨b0.1.size,0,none⟩=some (Ud k)/\V.cell? ⟨b0.1.size,1,none⟩=some (.slice a3 m cv)/\V.cell? ⟨Z.1.size,0,none⟩=some (Ud a7)/\V.cell? ⟨Z.1.size,1,none⟩=some (Ud a8)/\V.cell? ⟨Z.1.size,2,none⟩=some (.string a9)/\V.cell? ⟨a0.1.size,0,none⟩=some (Ud L)/\V.cell? ⟨a0.1.size,1,none⟩=some (Ud S)/\V.cell? ⟨a0.1.size,2,none⟩=some (.slice a2 a4 a6)/\Below F.1.size F V from by
  obtain⟨_,⟨_,l7,l8⟩,⟨l9,m0,m1⟩,⟨_,m2,m3,m4⟩,_⟩:=J.o V I;exact⟨l7,l8,l9,m0,m1,m2,m3,m4,I⟩)
 have k1:=aa (λ(V:World) (I:Below F.1.size F V)=>(J.o V I).2.2.2.2.2.2.2.2);have e2:=aa (λ(V:World) (I:Below F.1.size F V)=>e6.o V b7 d0 (J.o V I).1 (J.o V I).2.2.2.2.2.2.2.1.tab);have i8:=aa (λ(V:World) (I:Below F.1.size F V)=>f1.o V b7 d0 (J.o V I).1);have e3:=aa (λ(V:World) (I:Below F.1.size F V)=>e7.o V a3 cv (J.o V I).2.1.1 (J.o V I).2.2.2.2.2.2.2.1);have i9:=aa (λ(V:World) (I:Below F.1.size F V)=>f2.o V a3 cv (J.o V I).2.1.1);have e4:=aa (λ(V:World) (I:Below F.1.size F V)=>e8.o V (J.o V I).2.2.2.2.2.2.2.1.tab);have j0:=aa (λ(V:World) (I:Below F.1.size F V)=>f3.o V);have e5:=aa (λ(V:World) (I:Below F.1.size F V)=>e9.o V a2 a6 (J.o V I).2.2.2.1.1 (J.o V I).2.2.2.2.2.2.2.1.tab);have j1:=aa (λ(V:World) (I:Below F.1.size F V)=>f4.o V a2 a6 (J.o V I).2.2.2.1.1);have j4:=aa (λ(V:World) (I:Below F.1.size F V)=>c4.o V (J.o V I).2.2.2.2.1 (J.o V I).2.2.2.2.2.2.2.1.tab);have j2:=aa (λ(V:World) (I:Below F.1.size F V)=>c8.o V (J.o V I).2.2.2.2.1);have j5:=aa (λ(V:World) (I:Below F.1.size F V)=>c6.o V (J.o V I).2.2.2.2.2.1);have j3:=aa (λ(V:World) (I:Below F.1.size F V)=>c9.o V (J.o V I).2.2.2.2.2.1);have k2:=aa (λ(V:World) (I:Below F.1.size F V)=>c7.o V (J.o V I).1);have k3:=aa (λ(V:World) (I:Below F.1.size F V)=>c5.o V (J.o V I).2.1.1);have k4:=aa (λ(V:World) (I:Below F.1.size F V)=>c2.o V);have k5:=aa (λ(V:World) (I:Below F.1.size F V)=>c3.o V (J.o V I).2.2.2.1.1);clear J e6 e7 e8 e9 f1 f2 f3 f4 c4 c8 c6 c9 c7 c5 c2 c3;go_upto_region 9 with fail
 go_cut[62] from 23 to 62 (λt m5=>t= .bool false/\bv (Below F.1.size F m5))
 case first=>
  have D:Below F.1.size F F.drew:=aZ.drew;go_wp2;go_region_held3(λV=>V.cell? ⟨b0.1.size,0,none⟩=some (Ud k)/\V.cell? ⟨b0.1.size,1,none⟩=some (.slice a3 m cv)/\V.cell? ⟨Z.1.size,0,none⟩=some (Ud a7)/\V.cell? ⟨Z.1.size,1,none⟩=some (Ud a8)/\V.cell? ⟨Z.1.size,2,none⟩=some (.string a9)/\V.cell? ⟨a0.1.size,0,none⟩=some (Ud L)/\V.cell? ⟨a0.1.size,1,none⟩=some (Ud S)/\V.cell? ⟨a0.1.size,2,none⟩=some (.slice a2 a4 a6)/\Below F.1.size F V)
   (first|with_reducible exact f0.o _ D)
   (first
    |(go_at_call 11;refine(e2.o _ D).mono ?_;rintro e O ⟨rfl,E⟩;have D:=D.trans (E.mono D.size))
    |(go_at_call 12;refine(i8.o _ D).mono ?_;rintro e O ⟨rfl,E⟩;have D:=D.trans (E.mono D.size))
    |(go_at_call 13;refine(e3.o _ D).mono ?_;rintro e O ⟨rfl,E⟩;have D:=D.trans (E.mono D.size))
    |(go_at_call 14;refine(i9.o _ D).mono ?_;rintro e O ⟨rfl,E⟩;have D:=D.trans (E.mono D.size))
    |(go_at_call 15;refine(e4.o _ D).mono ?_;rintro e O ⟨rfl,E⟩;have D:=D.trans (E.mono D.size))
    |(go_at_call 16;refine(j0.o _ D).mono ?_;rintro e O ⟨rfl,E⟩;have D:=D.trans (E.mono D.size))
    |(go_at_call 17;refine(e5.o _ D).mono ?_;rintro e O ⟨rfl,E⟩;have D:=D.trans (E.mono D.size))
    |(go_at_call 18;refine(j1.o _ D).mono ?_;rintro e O ⟨rfl,E⟩;have D:=D.trans (E.mono D.size))
    |(go_at_call 19;refine(j4.o _ D).mono ?_;rintro e O ⟨rfl,E⟩;have D:=D.trans (E.mono D.size))
    |(go_at_call 20;refine(j2.o _ D).mono ?_;rintro e O ⟨rfl,E⟩;have D:=D.trans (E.mono D.size))
    |(go_at_call 21;refine(j5.o _ D).mono ?_;rintro e O ⟨rfl,E⟩;have D:=D.trans (E.mono D.size))
    |(go_at_call 22;refine(j3.o _ D).mono ?_;rintro e O ⟨rfl,E⟩;have D:=D.trans (E.mono D.size)))
  go_wp2;go_meet;case rel=>exact⟨rfl,aa D⟩
 case rest=>
  obtain⟨rfl,j6⟩:=hcut;have h3:=j6.o;have D:Below F.1.size F wc.drew:=h3.drew;have n0:=TH k7;have n1:=TH k8;have n2:=TH k9;have n3:=TH l0;have m6:=EP j7.o;have m7:=EP j8.o;have m8:=EP j9.o;have m9:=EP k0.o;clear h3;go_wp2;go_region_held3(λV=>V.cell? ⟨b0.1.size,0,none⟩=some (Ud k)/\V.cell? ⟨b0.1.size,1,none⟩=some (.slice a3 m cv)/\V.cell? ⟨Z.1.size,0,none⟩=some (Ud a7)/\V.cell? ⟨Z.1.size,1,none⟩=some (Ud a8)/\V.cell? ⟨Z.1.size,2,none⟩=some (.string a9)/\V.cell? ⟨a0.1.size,0,none⟩=some (Ud L)/\V.cell? ⟨a0.1.size,1,none⟩=some (Ud S)/\V.cell? ⟨a0.1.size,2,none⟩=some (.slice a2 a4 a6)/\Below F.1.size F V)
   (first|with_reducible exact f0.o _ D)
   (first
    |(go_at_call 11;refine(e2.o _ D).mono ?_;rintro e O ⟨rfl,E⟩;have D:=D.trans (E.mono D.size))
    |(go_at_call 23;refine(k2.o _ D).mono ?_;rintro e O ⟨rfl,rfl⟩)
    |(go_at_call 13;refine(e3.o _ D).mono ?_;rintro e O ⟨rfl,E⟩;have D:=D.trans (E.mono D.size))
    |(go_at_call 24;refine(k3.o _ D).mono ?_;rintro e O ⟨rfl,E⟩;have D:=D.trans (E.mono D.size))
    |(go_at_call 15;refine(e4.o _ D).mono ?_;rintro e O ⟨rfl,E⟩;have D:=D.trans (E.mono D.size))
    |(go_at_call 25;refine(k4.o _ D).mono ?_;rintro e O ⟨rfl,E⟩;have D:=D.trans (E.mono D.size))
    |(go_at_call 17;refine(e5.o _ D).mono ?_;rintro e O ⟨rfl,E⟩;have D:=D.trans (E.mono D.size))
    |(go_at_call 26;refine(k5.o _ D).mono ?_;rintro e O ⟨rfl,E⟩;have D:=D.trans (E.mono D.size)))
  go_wp2;go_ret;exact⟨rfl,k1.o _ D⟩
section
open Go
theorem wn{H}{enc}{a}{C}{os}{f}{fn}{s}{I}{apart Q U O}{X:World->Array Value->Prop}
 (a1:∀(w w':World) (args:Array Value),w.1=w'.1->X w args->X w' args)
 (own:ownKnob C.prog.godebug=none)(b6:os.Started)(b5:C.prog.inits.idxOf? f=none)(a4:C.prog.funcs[f]? =some fn)
 (b7:∃(w:World) (h:Tape) (i:Input),w.os=os/\(w.forCall h i).Shaped C.prog/\i.vars=[]/\Input.okWide C.prog (w.forCall h i) .any w.1.size f i/\
  ((s.pre enc C.prog fn I apart (w.forCall h i).memory i.args/\X (w.forCall h i).memory i.args)/\sizedMet enc C.prog fn (OpenSpec.ofChange s) apart (w.forCall h i).memory i.args)/\a.holds C.prog (lone (Frame.enter C.prog f i.args .normal) [] (w.forCall h i)))
 (Z:∀(W:World) (base:Nat) (args:Array Value) (D E:List (DataW H)) (F:List MemPlace),
  (∀(j:Nat) t v,fn.params[j]? =some t->args[j]? =some v->Value.okWide C.prog W .any base t v)->
  DataW.Whole enc C.prog fn.params.toList s.vars apart W args.toList D E F->
  I.all (PathCond.test C.prog ⟨fn.params.toList,D,s.plain.varTypes C.prog,E⟩)=true->
  (DataW.weightsEach C.prog (fn.params.toList++s.plain.varTypes C.prog) (D++E)).all (·<=reachBytes)=true->X W args->
  W.ShapedOpen C.prog->
  a.holds C.prog (lone (Frame.enter C.prog f args .normal) [] W)->
  Calls C.prog f args W λe J=>∃v,e= .returned v/\s.post enc C.prog fn apart Q U O W args v J):
 ReturnsInHanded a C os f .any (λw args=>(s.pre enc C.prog fn I apart w args/\X w args)/\sizedMet enc C.prog fn (OpenSpec.ofChange s) apart w args) (s.post enc C.prog fn apart Q U O):=by
 refine returnsInHanded_of_calls own b6 b5 b7 ?_;intro w h i _ b0 _ a7 a9 a6;obtain⟨_,_,_,a0,a5,_,_,_,_,b1⟩:=a7;have e:a0=fn:=Option.some.inj (a5.symm.trans a4);subst e;obtain⟨⟨⟨D,E,F,Y,a2⟩,b3⟩,b4⟩:=a9;have b2:=DataW.Whole.of_heap (w':=w.forCall h i) (by rfl) Y;refine(Z (w.forCall h i) w.1.size i.args D E F b1 b2 a2 (b4.weights Y) (a1 _ _ _ (by rfl) b3) b0 a6).mono λe J ⟨v,a3,a8⟩=> ?_
 subst a3;exact ChangeSpec.post_blind a8
end
section
open Go.ChangeShapes Go.WideShapes Go.ChangeAt
open Go.ChangeMaps (open_string shut_string)
theorem TS:prog.globalNamed "internal/strconv.uint64pow10" =some ((prog.globalNamed "internal/strconv.uint64pow10").getD 0):=by kernel_rfl
theorem TL:(prog.globals[(prog.globalNamed "internal/strconv.uint64pow10").getD 0]?).map (·.type)=some 216:=by kernel_rfl
theorem Qi:prog.cellsOf 185=1:=by kernel_rfl
theorem Qj:prog.cellsOf 216=20:=by kernel_rfl
theorem Rt:(Rows.laid_internal_strconv_uint64pow10:DataW Unit)=Lib.tabData .u64 Lib.pow10Tab:=by kernel_rfl
theorem Pi{W}(h:laidMetH prog [("math/bits.deBruijn32tab",Rows.laid_math_bits_deBruijn32tab),("math/bits.deBruijn64tab",Rows.laid_math_bits_deBruijn64tab),("internal/strconv.uint64pow10",Rows.laid_internal_strconv_uint64pow10)] W)(F:W.ShapedOpen prog):Bu W:=by
 refine⟨?_,Go.Proofs.cell_of_shapedOpen_int (zero:=#[Ud 0]) (t:=3) F (of_decide_eq_true (by kernel_rfl)) (by kernel_rfl) rfl (by kernel_rfl) (by kernel_rfl) underlying3⟩;rw[MakeChecks.laidMetH_plain _ _ _ (by kernel_rfl)] at h;obtain⟨b5,⟨a1,b9,O,Y,b2,b6,a6,a8,b0,a4,⟨a2,c0,Q,Z,b3,b7,a7,a9,b1,a5,⟨a3,c1,U,a0,b4,b8,E,I,J,D,_,_⟩,_⟩,_⟩,_,_⟩:=h;obtain rfl:=gX (TS.symm.trans E);obtain rfl:=gX (TL.symm.trans I);rw[Rt] at D;unfold qP Lib.TabIs;rw[J,<-Lib.cells_of_tab underlying216 underlying185 Qi Qj D]
theorem Be(os)(args):laidMetH prog Rows.fnReportsRow.laid ((World.laidAll prog os Rows.fnReportsRow.laid).forCall (λ_ _=>0) ⟨#[],args,[]⟩).memory:=
 by rw[MakeChecks.laidMetH_plain _ _ _ (by kernel_rfl)];exact laidMet_laidAll _ (by kernel_rfl) (by kernel_rfl)
theorem xq(os)(b5:os.Started)(H)(enc:TypeId×Value->H):
 ReturnsInHanded {} Tryz.checked os 3 .any (λw args=>(Rows.fnReportsSpec.pre enc prog Tryz.f3 Rows.fnReportsRow.domain false w args/\laidMetH prog Rows.fnReportsRow.laid w)/\sizedMet enc prog Tryz.f3 (OpenSpec.ofChange Rows.fnReportsSpec) false w args) (Rows.fnReportsSpec.post enc prog Tryz.f3 false true false false):=by
 refine wn (C:=Tryz.checked) (X:=λw _=>laidMetH prog Rows.fnReportsRow.laid w) (λ_ _ _ a7 h=>h.of_heap a7) own b5 (by kernel_rfl) func3
  (ChangeSpec.witness_shaped (enc:=enc) (C:=Tryz.checked) (os:=os) (X:=λw _=>laidMetH prog Rows.fnReportsRow.laid w) false (World.laidAll prog os Rows.fnReportsRow.laid) #[.slice none 0 0] 8 (World.laidAll_os _ _ _) (World.shaped_of_ZipB (by kernel_rfl) (by kernel_rfl)) (by kernel_rfl) (by kernel_rfl) (by kernel_rfl) (Be os _)) ?_
 intro W base args F a2 b7 a0 Q c1 Y a3 a9 _;have b0:=Pi a3 a9;have U:(DataW.weightsEach prog (Tryz.f3.params.toList++Rows.fnReportsSpec.plain.varTypes prog) (F++a2)).all (·<=reachBytes)=true:=Y;have Z:∀(j:Nat) t v,Tryz.f3.params[j]? =some t->args[j]? =some v->Value.okWide prog W .any base t v:=a0;have a5:=Q;obtain⟨p,q,O,a4,rfl,c2,c3⟩:=Q;have J:DataW.TrodAll enc prog W 0 (λ_=>true) true Tryz.f3.params.toList args.toList F p:=O;rw[Tryz.params3] at J Z U;obtain⟨D,c5,b8,b9,b3,c4,c0,rfl,rfl,I,b4⟩:=trodAll_cons J;obtain⟨rfl,rfl,rfl⟩:=trodAll_nil b4;obtain rfl:args=#[D]:=by cases args;simp_all
 obtain⟨rfl,rfl⟩:=trodVars_none a4;have a1:=I;have b2:∀x∈b3,x.block<W.1.size:=by obtain⟨m,a8⟩:=a1;exact DataW.trod_lt m _ _ _ a8
 have w0:=Ja (enc:=enc) (Z 0 22 D rfl rfl) I (λx b1=>DataW.weights_mem_each (j:=0) rfl rfl x b1) U;refine(zt W D w0 b0).mono λe b6 ⟨a6,E⟩=> ?_
 subst a6;exact⟨_,rfl,_,_,_,[],_,[],a5,trodAll_mk1 (shut_bool underlying4 _),(trodAll_cons_mk (Below.trod Ru (by kernel_rfl) (of_decide_eq_true (by kernel_rfl)) a1 E b2) trodAll_mk0),rfl,E.frame _,λh=>by cases h⟩
theorem xJ:joinedFacts prog 3 Tryz.f3 Rows.fnReportsSpec Rows.fnReportsRow=true:=by
 unfold joinedFacts;rw[EM,AN,Pz];kernel_rfl
theorem yS:Rows.FnReportsSaid:=
 OpenClaim.holds_of_wide 3 Tryz.f3 rfl rfl rfl rfl rfl rfl rfl ⟨rfl,rfl,rfl,rfl,rfl⟩ rfl rfl rfl rfl rfl (by as_aux_lemma=>kernel_rfl) func3 xJ
  (by as_aux_lemma=>exact of_decide_eq_true (by kernel_rfl)) (by unfold Func.isWrapper;first|(rw[if_pos (by decide+kernel)];kernel_rfl)|(rw[if_neg (by decide+kernel)];exact⟨rfl,rfl⟩))
  (λos h H enc _=>xq os h H enc)
theorem fnReports_card:Rows.FnReportsCardSaid:=
 Claim7.holds_tied_plain_at .later [] [.data,.data,.data] true (true, "569cc35b4ad1ba6f07f67a8df50791d9d7fd364389c9f1a37be28b411e36ada4") false
  yS (λ_ h=>by cases h) (by kernel_rfl) (λ_ h=>by cases h) fnReports_row_tie rfl ⟨rfl,rfl⟩ (by kernel_rfl) rfl
  (λf fn F I=>by
   obtain rfl:f=3:=gX ((show prog.funcNamed "loop.example/g03103/laws.FnReports" =some 3 by kernel_rfl).symm.trans F)|>.symm;obtain rfl:fn=Tryz.f3:=(gX (func3.symm.trans I)).symm;exact⟨by kernel_rfl,λj t D=>by
    rw[Tryz.params3] at D;have J:t∈[22]:=by simpa using Array.mem_of_getElem? D
    have E:([22].all λu=> !prog.wantsStandIn u)=true:=by kernel_rfl
    exact(show prog.wantsStandIn t=false by simpa using bm.1 E t J)⟩)
  (by kernel_rfl)
#print axioms fnReports_card
end
end Go.Proofs.YtbdlbckeffakjaaGreatDoor
