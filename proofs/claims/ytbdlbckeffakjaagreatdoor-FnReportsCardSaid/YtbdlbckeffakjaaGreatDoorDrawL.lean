/- Labelled graphs drawn. Conditions: the bytes lie in memory. -/
import Derived.Test.YtbdlbckeffakjaaGreatDoorDrawS
namespace Go.Proofs.YtbdlbckeffakjaaGreatDoor
set_option maxHeartbeats 8000000
set_option maxRecDepth 100000
open Go.Proofs.Tryz Go.RowKit
theorem LJ{P}{wr:World}{b4}{o}{a}{K}{Q}{E}
 (Y:o.guard=none)(s x)(t)(a3:o.op=Op.call {callee:=Callee.builtin Builtin.append,args:=#[s,x],argTypes:=#[t,t]})
 (B)(e)(z)(J)(U:P.underlying t=some (.slice e))(a0:(P.info? e).map (λi=>(i.zero,i.size,i.bytes))=some (some z,1,J))(b3:z.cells.size=1)
 (v)(m)(xs)(u)(a5:wr.ownsRow B e 1 v m xs)(a7:a.eval s=v)(a9:a.eval x= .slice (some ⟨wr.1.size,0,none⟩) 1 1)
 (a8:u.oneCell'=true)(a1:(m+1)*J<=140737488355328)(a2:m+1<=maxLen)(b5:B<=wr.1.size)
 (W:∀I c' F,F.ownsRow B e 1 (.slice (some ⟨I,0,none⟩) (m+1) c') (m+1) (xs++[u])->wr.grownBy F v.ownBlock->(v.ownBlock=some I\/wr.1.size<=I)->K (a.put o.dst (.slice (some ⟨I,0,none⟩) (m+1) c')) F):
 if Region.wanted o (yielded b4 a.tmps)=true then Oper.wp P o a (wr.alloc (.cells #[u] e)) K Q else E:=by
 obtain⟨i,hi,b0,b1,b2⟩:=info_parts a0;refine step_append_lies _ Y s x t a3 B e i _ 1 J U hi b0 b1 b2 b3 (by decide) v m xs a7 (a5.alloc _) ⟨wr.1.size,0,none⟩ 1 1 [u] a9 rfl ?_ (by intro y O;simp at O;subst O;exact a8) (by omega) a2 a1 (by simp;omega) (wr.1.size+1) (by simp) ?_
 ·intro j y D;match j,D with
  |0,D=>
   simp at D;subst D;show(wr.alloc (.cells #[u] e)).cell? _=_
   simp[Addr.add]
  |j+1,D=>simp at D
 ·intro g cap F a6 Z a4 _;refine W g cap F a6 (dd (cC _ _ _) Z) ?_;rcases a4 with h|h
  ·exact .inl h
  ·exact .inr (by omega)
theorem CV{w:World}{B e n b}{v}{xs}(h:w.ownsRow B e 1 v n xs)(D:v.ownBlock≠some b)(q)(y):(w.setCell ⟨b,q,none⟩ y).ownsRow B e 1 v n xs:=
 h.kept (row:=some b) ⟨rfl,rfl,rfl,by simp,λp F E=>dE _ _ _ _ (λe=>E (by rw[show p=b from e]))⟩ (by
  cases hv:v.ownBlock with
  |none=>exact .inl rfl
  |some q=>exact .inr (λe=>D (by rw[hv,<-e])))
theorem GN(a3 w)(g)(a)(n c)(bs)(h:Bz a3 w g a n c bs):
 Calls prog 29 #[.pointer (some ⟨g,0,none⟩)] w (oU 21 a3 w g a n c bs):=by
 have e1:g<w.1.size/\a3.1.size<=w.1.size:=by obtain⟨i,k,x⟩:=h;exact⟨x.hi,x.bel.size⟩
 have a4:=e1.1;have a5:=e1.2;have d3:=aa (h.drew0.alloc (.cells #[Ud 0,.slice none 0 0] 28));have e5:=aa (bA.new w #[Ud 0,.slice none 0 0] 28);have c4:=aa (GM a3 _ g a n c bs d3.o.1);have f9:(w.alloc (.cells #[Ud 0,.slice none 0 0] 28)).1.size=w.1.size+1:=(by simp);unfold oU at c4;rw[f9] at c4;unfold oU;clear h e1 f9;go_enter func29,ntmps29;go_wp2_with fail;refine c4.o.mono ?_;rintro e g2 ⟨k,D,cv,ss,rfl,c7,h2,g0,E⟩;obtain⟨m,c6⟩:=aB ss.length;rw[<-c6] at c7 h2;rw[<-c6];have I:=aa c6;obtain⟨q,c8⟩:=aB g2.1.size;have a6:=aa (show(Value.slice D m cv).ownBlock≠some q fromλe=>by have:=(c7.lt q e).2;omega);have d8:=e5.o.grown E.2 (by omega);have i6:w.1.size<q:=by rw[c8];exact d8.lt
 have e6:=aa (d8.alloc (.cells #[Ud k,.slice D m cv] 28));have d6:=aa (bA.new g2 #[Ud k,.slice D m cv] 28);have e9:=aa (c7.alloc (.cells #[Ud k,.slice D m cv] 28));have d4:=aa ((d3.o.trans E).alloc (.cells #[Ud k,.slice D m cv] 28));have d7:=aa g0;rw[<-c8] at d6;have i4:g<q:=(by omega);have e7:=aa (dF a3 _ g a n c bs 16 d4.o.1 (by omega) (by omega));clear c7 E d8 c6 g0 c4 d3 e5;go_wp2_with fail;rw[<-c8];clear c8;refine e7.o.mono ?_;rintro e U ⟨y,rfl,i7,E⟩;have W:=aa (d4.o.trans E);have Z:=aa (e6.o.grown E.2 (by omega));have J:=aa (d6.o.grown E.2 (by omega));have a7:=aa (fh e9.o E.2 (by omega));have h0:=W.o.gW;have i5:=J.o.lt;clear E e7 d4 e6 d6 e9;by_cases h4:y=0
 ·subst h4;have a1:=aa (W.o.alloc (.cells #[Ud 0,Ud 4,Ud 1] 3));have b2:=aa (Z.o.alloc (.cells #[Ud 0,Ud 4,Ud 1] 3));have a8:=aa (J.o.alloc (.cells #[Ud 0,Ud 4,Ud 1] 3));have b5:=aa (a7.o.alloc (.cells #[Ud 0,Ud 4,Ud 1] 3));have b6:=aa (jC a3 _ g a n c bs (some ⟨U.1.size,0,none⟩) 3 3 [0,4,1] a1.o.1 (by omega) (by omega) (nV (w:=U) #[Ud 0,Ud 4,Ud 1] _ _ rfl (λj v e2=>by simpa[af] using e2) (by omega)) (λq h7 e=>by
   injection e with e
   injection e with f1
   omega))
  clear W Z J a7;go_wp2_with fail;refine b6.o.mono ?_;rintro e b1 ⟨z,rfl,h6,E⟩;have a0:=aa (b2.o.grown E.2 (by omega));have Y:=aa (a8.o.grown E.2 (by omega));have a2:=aa (fh b5.o E.2 (by omega));have b3:=aa (a1.o.trans E);have g4:=aa (show bA (b1.setCell ⟨q,0,none⟩ (Ud z)) q #[Ud z,.slice D m cv] from Y.o.set _ (by simp) λk=>match k with|0=>rfl|1=>rfl|k+2=>by simp);have f2:=a0.o.other (i:=0) (q:=q) (by omega) (Ud z);obtain⟨⟨c9,d0⟩,d1,d2⟩:=Y.o.c2;obtain⟨⟨h8,h9⟩,i0,i1⟩:=g4.o.c2;obtain⟨⟨c2,c3⟩,u0,u1⟩:=f2.c2;have c1:=a0.o.lt;have b4:=aa (aT (nE (CV a2.o a6.o 0 (Ud z)) (cG w.1.size) (Ud z) (.slice D m cv)) (kW w.1.size));have d5:=aa ((b3.o.app (show Below w.1.size b1 (b1.setCell ⟨q,0,none⟩ (Ud z)) from aZ.setCell (by show w.1.size<=q;omega) _) a4 a5).app (mo (aV w.1.size _) aQ (Ud z) (.slice D m cv)) a4 a5);clear E h6 b6 a1 b2 a8 b5 a0 a2 b3 f2 a6;go_wp2;refine bodyPost_ret (v:=.agg #[Ud z,.slice D m cv]) (by simp[results,results29,go_sem,c2,c3,c1]) rfl ?_;exact⟨_,D,cv,ss,by rw[<-I.o],by rw[<-I.o];exact b4.o,by rw[<-I.o];omega,d7.o,d5.o⟩
 ·have i2:((y:Int)==0)=false:=by simp;omega
  by_cases h5:y=1
  ·subst h5;obtain⟨⟨c9,d0⟩,d1,d2⟩:=J.o.c2;obtain⟨S,e0⟩:=aB (α:=World->Prop) (λV=>V.cell? ⟨q,1,none⟩=some (.slice D m cv));have f0:=aa (show∀V,S V->V.cell? ⟨q,1,none⟩=some (.slice D m cv) fromλV f6=>by rw[e0] at f6;exact f6);have a9:=aa (show∀V,bA V q #[Ud k,.slice D m cv]->S V fromλV g7=>by rw[e0];exact g7.cell 1);have b9:Below U.1.size U (U.drew.alloc (.cells #[.string ⟨#[97]⟩,.string ⟨#[]⟩,.string ⟨#[100]⟩,.string ⟨#[97,97,97,97]⟩] 9)):=aZ.drew.alloc aQ _;have a8:=aa (J.o.below b9);have b2:=aa (Z.o.below b9);have b5:=aa (ai a7.o b9);have a1:=aa (W.o.app (b9.mono W.o.2.size) a4 a5);have i3:S U.drew:=a9.o _ (J.o.below aZ.drew);have g8:=a9.o _ a8.o;have b6:=aa (kf a3 _ g a n c bs (some ⟨U.drew.1.size,0,none⟩) 4 4 [⟨#[97]⟩,⟨#[]⟩,⟨#[100]⟩,⟨#[97,97,97,97]⟩] a1.o.1 (by omega) (by omega) (my (w:=U.drew) _ _ _ rfl (λj v e2=>by simpa[ap] using e2) (by omega)) (λz h7 e=>by
    injection e with e
    injection e with f1
    have:g<U.drew.1.size:=h0;omega))
   clear e0 c9 d0 d1 d2 J Z a7 W b9;go_wp2_with fail;refine dr (S:=S) 8 (by kernel_rfl) ?_;iterate 3 (refine kG rfl (by kernel_rfl) (λ_ _ _ h=>h) (by rfl) (by assumption) (λV b8=>by have b8:=f0.o V b8;go_split_ands;go_simp;first|done|with_reducible rfl) ?_;try simp only[Act.put,ab,ac,ae])
   refine aY (i:=3) rfl (by kernel_rfl) (by decide) (λK F=> ?_);go_simp;refine F.out _ _ g8 ?_;clear F K;try simp only[Act.put,ab,ac,ae]
   refine aY (i:=4) rfl (by kernel_rfl) (by decide) (λK F=> ?_);go_simp;go_at_call 102;refine b6.o.mono ?_;rintro e b1 ⟨x,rfl,e3,c0⟩;have g1:x.size<=20:=by
    simp at e3;rcases e3 with rfl|rfl|rfl|rfl<;>decide
   have g6:=aa g1;have Y:=aa (a8.o.grown c0.2 (by omega));have a0:=aa (b2.o.grown c0.2 (by omega));have a2:=aa (fh b5.o c0.2 (by omega));have b3:=aa (a1.o.trans c0);have f5:=a9.o _ Y.o;have g9:=a9.o _ (Y.o.alloc (.cells #[.string x] 9));have h3:w.1.size+1<=b1.1.size:=a0.o.lt;clear c0 e3 g1 b6 a8 b2 b5 a1;go_wp2_with fail;refine F.out _ _ f5 ?_;clear F K;try simp only[Act.put,ab,ac,ae]
   refine aY (i:=5) rfl (by kernel_rfl) (by decide) (λK F=> ?_);go_simp;refine F.out _ _ g9 ?_;clear F K;try simp only[Act.put,ab,ac,ae]
   refine aY (i:=6) rfl (by kernel_rfl) (by decide) (λK F=> ?_);refine LJ (by rfl) _ _ 26 (by rfl) (w.1.size+1) 9 (.string ByteArray.empty) 16 underlying26 iF rfl (.slice D m cv) m _ (.string x) a2.o (by rfl) (by rfl) rfl (by omega) (by unfold maxLen;omega) h3 ?_;intro Q O e4 f8 c5 f7;have b7:=Y.o.keep c5 a6.o;have d9:=a0.o.keep c5 (λe=>by have:=(a2.o.lt _ e).1;omega);have f4:=b3.o.app (show Below w.1.size b1 e4 from aZ.grown c5 (by omega) (λk h1=>by have:=(a2.o.lt k h1).1;omega)) a4 a5;have e8:=aa (show(Value.slice (some ⟨Q,0,none⟩) (m+1) O).ownBlock≠some q fromλe=>by
    have e:some Q=some q:=e;injection e with e
    subst e;rcases f7 with h|h
    ·exact a6.o h
    ·have:=Y.o.lt;omega)
   refine F.out _ _ (a9.o _ b7) ?_;clear F K;try simp only[Act.put,ab,ac,ae]
   have f5:=a9.o _ b7;(refine jw 7 rfl (by kernel_rfl) (λ_ _ _ h=>h) (by rfl) (by assumption) (λV b8=>by have b8:=f0.o V b8;go_split_ands;go_simp;first|done|with_reducible rfl) ?_;try simp only[Act.put,ab,ac,ae]);obtain⟨⟨c9,d0⟩,d1,d2⟩:=b7.c2;have g5:=aa (b7.setSh (.slice (some ⟨Q,0,none⟩) (m+1) O));have f3:=d9.other (i:=1) (q:=q) (by omega) (.slice (some ⟨Q,0,none⟩) (m+1) O);obtain⟨⟨h8,h9⟩,i0,i1⟩:=g5.o.c2;obtain⟨⟨c2,c3⟩,u0,u1⟩:=f3.c2;have c1:=d9.lt;have b4:=aa (aT (nE (CV f8 e8.o 1 (.slice (some ⟨Q,0,none⟩) (m+1) O)) (cG w.1.size) (Ud k) (.slice (some ⟨Q,0,none⟩) (m+1) O)) (kW w.1.size));have g3:=aa ((f4.app (show Below w.1.size e4 (e4.setCell ⟨q,1,none⟩ (.slice (some ⟨Q,0,none⟩) (m+1) O)) from aZ.setCell (by show w.1.size<=q;omega) _) a4 a5).app (mo (aV w.1.size _) aQ (Ud k) (.slice (some ⟨Q,0,none⟩) (m+1) O)) a4 a5);clear f8 c5 f7 b7 d9 f4 f3 a0 a2 b3 Y a6 e8;refine cU rfl (by kernel_rfl) (by kernel_rfl) (λK F=> ?_);go_simp;refine F.out _ _ ?_;clear F K;go_wp2;refine bodyPost_ret (v:=.agg #[Ud k,.slice (some (Addr.mk Q 0 none)) (m+1) O]) (by simp[results,results29,go_sem,c2,c3,c1]) rfl ?_;exact⟨_,_,O,ss++[x],by rw[az,<-I.o];rfl,by rw[az,<-I.o];simpa[ap] using b4.o,by rw[az,<-I.o];simp;omega,λs b0=>by
    rcases cH.1 b0 with b0|b0
    ·exact d7.o s b0
    ·simp at b0;subst b0;exact g6.o,g3.o⟩
  ·have f1:((y:Int)==1)=false:=by simp;omega
   obtain⟨⟨c9,d0⟩,d1,d2⟩:=J.o.c2;obtain⟨⟨c2,c3⟩,u0,u1⟩:=Z.o.c2;have c1:=Z.o.lt;have b4:=aa (aT (nE a7.o (cG w.1.size) (Ud k) (.slice D m cv)) (kW w.1.size));have d5:=aa (W.o.app (mo (aV w.1.size _) aQ (Ud k) (.slice D m cv)) a4 a5);clear a7 J Z W a6;go_wp2;refine bodyPost_ret (v:=.agg #[Ud k,.slice D m cv]) (by simp[results,results29,go_sem,c2,c3,c1]) rfl ?_;exact⟨_,D,cv,ss,by rw[<-I.o],by rw[<-I.o];exact b4.o,by rw[<-I.o];omega,d7.o,d5.o⟩
def Fk(W:World)(e:Ending)(w':World):Prop:=
 ∃(k m:Int) (o:ByteArray) (z:Nat),e= .returned (.tuple #[.agg #[Ud k,Ud m,.string o],Ud z])/\o.size<=101/\Below W.1.size W w'
def Iv(W:World)(e:Ending)(w':World):Prop:=
 ∃(k m:Int) (o:ByteArray),e= .returned (.agg #[Ud k,Ud m,.string o])/\o.size<=101/\Below W.1.size W w'
def xK:List ByteArray:=[⟨#[50,32,49,32,98,97]⟩,⟨#[51,32,49,32,98,99,97]⟩,⟨#[50,32,51,32,97,97,98,98,97,97,98,98]⟩,⟨#[50,32,52,32,97,97,98,98,97,97,98,98,97,97,98,98,97,97,98,98]⟩,⟨#[50,32,50,32,98,98,97,97]⟩,⟨#[51,32,49,32,97,99,98]⟩,⟨#[50,32,52,32,97,97,98,97,97,98,98,98,97,97,98,98,97,97,98,98]⟩]
theorem Bk:∀t∈xK,t.size<=100:=by decide
theorem Nd(a)(n c)(bs)(w)(d4:aO w a n (bo bs)):
 Calls prog 30 #[.slice a n c] w (Fk w):=by
 unfold Fk;have b3:Below w.1.size w (w.alloc (.cells #[Ud 0,Ud 0,.string ⟨#[]⟩] 31)):=aZ.alloc aQ _;have c8:=aa (tn a n c bs _ (d4.below b3 aQ));have c1:=aa (bA.new w #[Ud 0,Ud 0,.string ⟨#[]⟩] 31);have a2:=aa b3;go_enter func30,ntmps30;go_wp2_with fail;refine c8.o.mono ?_;rintro e a1 ⟨g,rfl,a4,b2⟩;have a6:=aa (c1.o.below b2);have f6:w.1.size<g:=by obtain⟨i,k,x⟩:=a4;have:=x.lo;simp at this;omega
 have c6:=aa a4.drew0;have F:g<a1.1.size/\(w.alloc (.cells #[Ud 0,Ud 0,.string ⟨#[]⟩] 31)).1.size<=a1.1.size:=⟨c6.o.gW,b2.size⟩;have c0:=aa (Ng _ a1 g a n c bs a4);go_wp2_with fail;refine c0.o.mono ?_;rintro e E ⟨k,m,o,rfl,d3,h⟩;have f7:=h.gW;have f8:=a6.o.lt;have e9:=h.2.size;have b1:=aa d3;have c2:=aa ((a6.o.grown h.2 (by omega)).alloc (.cells #[Ud k,Ud m,.string o] 31));have d1:=aa (bA.new E #[Ud k,Ud m,.string o] 31);have a7:=aa (h.alloc (.cells #[Ud k,Ud m,.string o] 31));have c5:=aa (lq _ (E.alloc (.cells #[Ud k,Ud m,.string o] 31)) g a n c bs 3 a7.o.1 (by omega) (by omega));go_wp2_with fail;refine c5.o.mono ?_;rintro e e5 ⟨b,rfl,h⟩;have J:=aa (c2.o.grown h.2 (by omega));have Q:=aa (d1.o.grown h.2 (by omega));have O:=aa (a7.o.trans h);have e8:=Q.o.lt;obtain⟨⟨d8,d9,e0⟩,e2,e3,e4⟩:=Q.o.c3;obtain⟨⟨f1,f2,f3⟩,u0,u1,u2⟩:=J.o.c3;have d7:=J.o.lt;cases b
 ·skip;have b0:=aa (dF _ _ g a n c bs 6 (O.o.app aZ.drew F.1 F.2).1 (by omega) (by omega));have Z:=aa (J.o.below aZ.drew);have a0:=aa (Q.o.below aZ.drew);have a8:=aa (O.o.app aZ.drew F.1 F.2);go_wp2_with fail;go_region_held3(λV=>(V.cell? ⟨E.1.size,0,none⟩=some (Ud k)/\V.cell? ⟨E.1.size,1,none⟩=some (Ud m)/\V.cell? ⟨E.1.size,2,none⟩=some (.string o))/\(V.frozen? ⟨w.1.size,0,none⟩=false/\V.frozen? ⟨w.1.size,1,none⟩=false/\V.frozen? ⟨w.1.size,2,none⟩=false))
   (first|exact⟨a0.o.c3.1,Z.o.c3.2⟩|exact⟨W.o.c3.1,D.o.c3.2⟩|exact Dw W.o D.o (by omega))
   (first|(go_at_call 34;refine b0.o.mono ?_;rintro e a5 ⟨s,rfl,b5,h⟩;have D:=aa (Z.o.grown h.2 (by omega));have W:=aa (a0.o.grown h.2 (by omega));have Y:=aa (a8.o.trans h);have b7:=D.o.c3.1.1;have b8:=D.o.c3.1.2.1;have b9:=D.o.c3.1.2.2;have b6:=D.o.lt;clear b5 h))
  all_goals
   go_wp2
   refine bodyPost_ret (v:=.tuple #[.agg #[Ud k,Ud m,.string o],Ud s]) (by simp[results,results30,go_sem,b7,b8,b9,b6]) rfl ?_
   exact⟨_,_,_,_,rfl,b1.o,a2.o.trans ((dM (Y.o.bel.mono a2.o.size) (by omega) (Ud k) (Ud m) (.string o)).mono aQ)⟩
 ·have f0:=aa Bk;have W:=aa (Q.o.alloc (.cells #[.string ⟨#[50,32,49,32,98,97]⟩,.string ⟨#[51,32,49,32,98,99,97]⟩,.string ⟨#[50,32,51,32,97,97,98,98,97,97,98,98]⟩,.string ⟨#[50,32,52,32,97,97,98,98,97,97,98,98,97,97,98,98,97,97,98,98]⟩,.string ⟨#[50,32,50,32,98,98,97,97]⟩,.string ⟨#[51,32,49,32,97,99,98]⟩,.string ⟨#[50,32,52,32,97,97,98,97,97,98,98,98,97,97,98,98,97,97,98,98]⟩] 9));have D:=aa (J.o.alloc (.cells #[.string ⟨#[50,32,49,32,98,97]⟩,.string ⟨#[51,32,49,32,98,99,97]⟩,.string ⟨#[50,32,51,32,97,97,98,98,97,97,98,98]⟩,.string ⟨#[50,32,52,32,97,97,98,98,97,97,98,98,97,97,98,98,97,97,98,98]⟩,.string ⟨#[50,32,50,32,98,98,97,97]⟩,.string ⟨#[51,32,49,32,97,99,98]⟩,.string ⟨#[50,32,52,32,97,97,98,97,97,98,98,98,97,97,98,98,97,97,98,98]⟩] 9));have Y:=aa (O.o.alloc (.cells #[.string ⟨#[50,32,49,32,98,97]⟩,.string ⟨#[51,32,49,32,98,99,97]⟩,.string ⟨#[50,32,51,32,97,97,98,98,97,97,98,98]⟩,.string ⟨#[50,32,52,32,97,97,98,98,97,97,98,98,97,97,98,98,97,97,98,98]⟩,.string ⟨#[50,32,50,32,98,98,97,97]⟩,.string ⟨#[51,32,49,32,97,99,98]⟩,.string ⟨#[50,32,52,32,97,97,98,97,97,98,98,98,97,97,98,98,97,97,98,98]⟩] 9));have f5:=O.o.gW;have c9:=aa (kf _ _ g a n c bs (some ⟨e5.1.size,0,none⟩) 7 7 xK Y.o.1 (by omega) (by omega) (my (w:=e5) _ _ _ rfl (λj v e6=>by simpa[ap,xK] using e6) (by omega)) (λz g0 e=>by
   injection e with e
   injection e with e1
   omega))
  go_wp2_with fail;refine c9.o.mono ?_;rintro e a5 ⟨t,rfl,d6,h⟩;have d2:=aa (W.o.grown h.2 (by omega));have c3:=aa (D.o.grown h.2 (by omega));have a9:=aa (Y.o.trans h);have d0:=aa (nK t a5 (f0.o t d6));unfold Fl at d0;have d5:=a9.o.2.size;go_wp2_with fail;refine d0.o.mono ?_;rintro e g1 ⟨U,I,o2,f4,rfl,e7,a3⟩;have b1:=aa (show o2.size<=101 by omega);have b4:=(d2.o.below a3).alloc (.cells #[Ud U,Ud I,.string o2] 31);have c4:=aa ((c3.o.below a3).alloc (.cells #[Ud U,Ud I,.string o2] 31));have c7:=aa ((a9.o.app (a3.mono d5) F.1 F.2).alloc (.cells #[Ud U,Ud I,.string o2] 31));obtain⟨⟨d8,d9,e0⟩,e2,e3,e4⟩:=b4.c3;have Q:=aa (show bA (((_:World).setCell ⟨E.1.size,1,none⟩ (Ud I)).setCell ⟨E.1.size,2,none⟩ (.string o2)) E.1.size #[Ud U,Ud I,.string o2] from((b4.set0 (Ud U)).set1 (Ud I)).set2 (.string o2));have J:=aa (((c4.o.other (i:=0) (q:=E.1.size) (by omega) (Ud U)).other (i:=1) (q:=E.1.size) (by omega) (Ud I)).other (i:=2) (q:=E.1.size) (by omega) (.string o2));have O:=aa (c7.o.app (dM (aV a1.1.size _) e9 (Ud U) (Ud I) (.string o2)) F.1 F.2);have e8:=Q.o.lt;have f9:a1.1.size<=a5.1.size:=d5;have d7:=J.o.lt;have b0:=aa (dF _ _ g a n c bs 6 (O.o.app aZ.drew F.1 F.2).1 (by omega) (by omega));have Z:=aa (J.o.below aZ.drew);have a0:=aa (Q.o.below aZ.drew);have a8:=aa (O.o.app aZ.drew F.1 F.2);go_wp2_with fail;go_region_held3(λV=>(V.cell? ⟨E.1.size,0,none⟩=some (Ud U)/\V.cell? ⟨E.1.size,1,none⟩=some (Ud I)/\V.cell? ⟨E.1.size,2,none⟩=some (.string o2))/\(V.frozen? ⟨w.1.size,0,none⟩=false/\V.frozen? ⟨w.1.size,1,none⟩=false/\V.frozen? ⟨w.1.size,2,none⟩=false))
   (first|exact⟨a0.o.c3.1,Z.o.c3.2⟩|exact⟨W.o.c3.1,D.o.c3.2⟩|exact Dw W.o D.o (by omega))
   (first|(go_at_call 34;refine b0.o.mono ?_;rintro e a5 ⟨s,rfl,b5,h⟩;have D:=aa (Z.o.grown h.2 (by omega));have W:=aa (a0.o.grown h.2 (by omega));have Y:=aa (a8.o.trans h);have b7:=D.o.c3.1.1;have b8:=D.o.c3.1.2.1;have b9:=D.o.c3.1.2.2;have b6:=D.o.lt;clear b5 h))
  all_goals
   go_wp2
   refine bodyPost_ret (v:=.tuple #[.agg #[Ud U,Ud I,.string o2],Ud s]) (by simp[results,results30,go_sem,b7,b8,b9,b6]) rfl ?_
   exact⟨_,_,_,_,rfl,b1.o,a2.o.trans ((dM (Y.o.bel.mono a2.o.size) (by omega) (Ud U) (Ud I) (.string o2)).mono aQ)⟩
theorem vb(a)(n c)(bs)(w)(Q:aO w a n (bo bs)):
 Calls prog 7 #[.slice a n c] w (Iv w):=by
 unfold Iv;have I:Below w.1.size w (w.alloc (.cells #[Ud 0,Ud 0,.string ⟨#[]⟩] 31)):=aZ.alloc aQ _;have h:=aa (Nd a n c bs _ (Q.below I aQ));have J:=aa (bA.new w #[Ud 0,Ud 0,.string ⟨#[]⟩] 31);have D:=aa I;unfold Fk at h;go_enter func7,ntmps7;go_wp2_with fail;refine h.o.mono ?_;rintro e a2 ⟨k,m,o,z,rfl,O,F⟩;have W:=aa O;have E:=J.o.below F;obtain⟨⟨Z,a0,a1⟩,u0,u1,u2⟩:=E.c3;have Y:=E.lt;have U:=aa ((dM (D.o.trans (F.mono D.o.size)) (aN w.1.size) (Ud k) (Ud m) (.string o)).alloc (by simp;omega) (.cells #[Ud k,Ud m,.string o] 31));go_wp2;refine bodyPost_ret (v:=.agg #[Ud k,Ud m,.string o]) (by simp[results,results7,go_sem,Z,a0,a1,Y]) rfl ?_;exact⟨_,_,_,rfl,W.o,U.o⟩
def Lq(w:World)(e:Ending)(w':World):Prop:=∃v xs,e= .returned v/\w'.ownsRow w.1.size 3 1 v xs.length (af xs)/\xs.length<=6/\(∀x∈xs,-1000001<=x/\x<=1000000)/\Below w.1.size w w'
theorem wK(a)(n c)(bs)(w)(U:aO w a n (bo bs)):
 Calls prog 9 #[.slice a n c] w (Lq w):=by
 have E:=aa (tn a n c bs w U);unfold Lq;go_enter func9,ntmps9;go_wp2_with fail;refine E.o.mono ?_;rintro e Z ⟨g,rfl,I,F⟩;have Y:=aa F;have D:=aa (Pk _ Z g a n c bs I);unfold Bw at D;go_wp2_with fail;refine D.o.mono ?_;rintro e a0 ⟨v,xs,rfl,Q,O,W,J⟩;have h:=aa (And.intro (aT Q Y.o.size) (And.intro O (And.intro W J.bel)));go_wp2;go_ret;exact⟨v,xs,rfl,h.o.1,h.o.2.1,h.o.2.2.1,h.o.2.2.2⟩
def Qu(w:World)(e:Ending)(w':World):Prop:=∃v h,e= .returned v/\ct 37 3 w' w.1.size v h/\h.length<=6/\(∀r∈h,r.length<=4)/\Below w.1.size w w'
theorem sP(a)(n c)(bs)(w)(U:aO w a n (bo bs)):
 Calls prog 5 #[.slice a n c] w (Qu w):=by
 have E:=aa (tn a n c bs w U);unfold Qu;go_enter func5,ntmps5;go_wp2_with fail;refine E.o.mono ?_;rintro e Z ⟨g,rfl,I,F⟩;have Y:=aa F;have D:=aa (Pm _ Z g a n c bs I);unfold BC at D;go_wp2_with fail;refine D.o.mono ?_;rintro e a0 ⟨v,xs,rfl,Q,O,W,J⟩;have h:=aa (And.intro (Q.base Y.o.size) (And.intro O (And.intro W J.bel)));go_wp2;go_ret;exact⟨v,xs,rfl,h.o.1,h.o.2.1,h.o.2.2.1,h.o.2.2.2⟩
def Qp(w:World)(e:Ending)(w':World):Prop:=∃(k:Int) (h:Option Addr) (cv:Nat) (ss:List ByteArray),e= .returned (.agg #[Ud k,.slice h ss.length cv])/\w'.ownsRow w.1.size 9 1 (.slice h ss.length cv) ss.length (ap ss)/\ss.length<=21/\(∀s∈ss,s.size<=20)/\Below w.1.size w w'
theorem tV(a)(n c)(bs)(w)(a4:aO w a n (bo bs)):
 Calls prog 6 #[.slice a n c] w (Qp w):=by
 have U:Below w.1.size w (w.alloc (.cells #[Ud 0,.slice none 0 0] 28)):=aZ.alloc aQ _;have a3:=aa (tn a n c bs _ (a4.below U aQ));have a1:=aa (bA.new w #[Ud 0,.slice none 0 0] 28);have h:=aa U;unfold Qp;clear a4 U;go_enter func6,ntmps6;go_wp2_with fail;refine a3.o.mono ?_;rintro e b0 ⟨g,rfl,W,Q⟩;have I:=aa (a1.o.below Q);have b2:w.1.size<g:=by obtain⟨i,k,x⟩:=W;have:=x.lo;simp at this;omega
 have b1:=aa (h.o.trans (Q.mono h.o.size));have a2:=aa (GN _ b0 g a n c bs W);unfold oU at a2;clear W Q a3 a1;go_wp2_with fail;refine a2.o.mono ?_;rintro e b3 ⟨k,E,cv,ss,rfl,a0,Z,a6,Y⟩;obtain⟨m,F⟩:=aB ss.length;rw[<-F] at a0 Z;rw[<-F];have J:=aa F;have O:=I.o.grown Y.2 (by omega);obtain⟨⟨a8,a9⟩,u0,u1⟩:=O.c2;have a7:=O.lt;have a5:=I.o.lt;have D:=aa (And.intro (aT (nE a0 a5 (Ud k) (.slice E m cv)) (io a5)) (And.intro Z (And.intro a6 (mo (h.o.trans (Y.bel.mono h.o.size)) (aN w.1.size) (Ud k) (.slice E m cv)))));clear a0 Z a6 Y O F I h;go_wp2;refine bodyPost_ret (v:=.agg #[Ud k,.slice E m cv]) (by simp[results,results6,go_sem,a8,a9,a7]) rfl ?_;exact⟨_,E,cv,ss,by rw[<-J.o],by rw[<-J.o];exact D.o.1,by rw[<-J.o];exact D.o.2.1,D.o.2.2.1,D.o.2.2.2⟩
theorem Oe{xs}{b}(h:∀s∈xs,s.size<=b):ya xs<=xs.length*b:=by
 induction xs with
 |nil=>simp[ya]
 |cons x xs ih=>
  have F:=h x (by simp);have D:=ih (λs E=>h s (by simp[E]));simp only[ya,ej,jh,cZ] at D⊢;rw[mO];omega
theorem Rz{p}{k n}{s}(h:s∈kp p k n (k^n)):s.size=n:=by
 unfold kp at h;obtain⟨i,_,rfl⟩:=bi.1 h;rw[ce]
def It(w:World)(e:Ending)(w':World):Prop:=∃v xs,e= .returned v/\w'.ownsRow w.1.size 9 1 v xs.length (ap xs)/\xs.length<=28/\(∀s∈xs,s.size<=3)/\Below w.1.size w w'
theorem nL(L)(Z:Nat)(a)(n c)(ss)(w)(O:aO w a n (ap ss))(Y:∀s∈ss,s.size<=20)(U:iE L ss=false):
 Calls prog 33 #[.agg #[Ud L,.slice a n c],Ud Z] w λe w'=>∃g,e= .returned (.slice (some ⟨g,0,none⟩) 0 0)/\w'.ownsRow w.1.size 9 1 (.slice (some ⟨g,0,none⟩) 0 0) 0 []/\Below w.1.size w w':=by
 have h:Below w.1.size w ((w.alloc (.cells #[Ud L,.slice a n c] 28)).alloc (.cells #[] 9)):=(aZ.alloc aQ _).alloc (by simp) _;have E:=aa (nM L a n c ss _ (O.below h aQ) (λs W=>by have:=Y s W;unfold maxLen;omega));rw[U] at E;have F:=xg (w:=w.alloc (.cells #[Ud L,.slice a n c] 28)) (base:=w.1.size) (e:=9) #[] [] rfl (by simp) (by unfold maxLen;simp);have Q:=aa (λ(V:World) (I:Below ((w.alloc (.cells #[Ud L,.slice a n c] 28)).alloc (.cells #[] 9)).1.size ((w.alloc (.cells #[Ud L,.slice a n c] 28)).alloc (.cells #[] 9)) V)=>And.intro (ai F I) (h.trans (I.mono h.size)));obtain⟨a1,a2⟩:=((bA.new w #[Ud L,.slice a n c] 28).alloc (.cells #[] 9)).c2.1;go_enter func33,ntmps33;go_wp2_with fail;refine E.o.mono ?_;rintro e a0 ⟨rfl,J⟩;have D:=aa (Q.o a0 J);go_wp2;go_ret;exact⟨_,rfl,by simpa using D.o.1,D.o.2⟩
theorem tK(L)(h:Nat)(a)(n c)(ss)(w)(O:aO w a n (ap ss))(Y:∀s∈ss,s.size<=20)(I:h<=3):
 Calls prog 33 #[.agg #[Ud L,.slice a n c],Ud h] w λe w'=>∃v xs,e= .returned v/\w'.ownsRow w.1.size 9 1 v xs.length (ap xs)/\xs.length<=27/\(∀s∈xs,s.size<=3)/\Below w.1.size w w':=by
 cases hok:iE L ss
 ·refine(nL L h a n c ss w O Y hok).mono ?_;rintro e w' ⟨g,rfl,D,E⟩;exact⟨_,[],rfl,D,by simp,by simp,E⟩
 ·obtain⟨k,rfl,J⟩:=Ad hok;obtain⟨U,_⟩:=dD J;refine(lf k h a n c ss w O J (by omega)).mono ?_;rintro e w' ⟨v,rfl,D,E⟩;have F:=D.1;refine⟨v,kp (ub ss k h) k h (k^h),rfl,?_,?_,λs W=>by rw[Rz W];exact I,E⟩
  ·rw[show(kp (ub ss k h) k h (k^h)).length=((List.range (k^h)).filter (ub ss k h)).length from by simpa[ap] using F];exact D
  ·have Z:(kp (ub ss k h) k h (k^h)).length=((List.range (k^h)).filter (ub ss k h)).length:=by simpa[ap] using F
   have Q:=bz (ub ss k h) (List.range (k^h));rw[cD] at Q;have a0:k^h<=3^3:=bn (fa U.2 h) (bG (by decide) I);omega
theorem yW(a)(n c)(bs)(w)(b4:aO w a n (bo bs)):
 Calls prog 10 #[.slice a n c] w (It w):=by
 have a6:=aa (tn a n c bs w b4);unfold It;clear b4;go_enter func10,ntmps10;go_wp2_with fail;refine a6.o.mono ?_;rintro e Z ⟨g,rfl,W,b1⟩;have b8:=aa b1;have b3:g<Z.1.size:=W.drew0.gW;have I:=aa (GN _ Z g a n c bs W);unfold oU at I;clear W b1 a6;go_wp2_with fail;refine I.o.mono ?_;rintro e d0 ⟨k,c0,cv,ss,rfl,D,c3,b6,h⟩;obtain⟨m,Y⟩:=aB ss.length;rw[<-Y] at D c3;rw[<-Y];have a1:=aa h;have a7:=aa D;have b9:=aa b6;have a3:=aa (dF _ d0 g a n c bs 4 h.1 (by omega) (by omega));have c7:=b8.o.size;have c6:=h.2.size;clear D h b6 Y I;go_wp2_with fail;refine a3.o.mono ?_;rintro e a0 ⟨c9,rfl,d3,h⟩;have J:=aa (a1.o.trans h);obtain⟨a',c',b2,b5⟩:=aS (fh a7.o h.2 b3) (by omega);simp only[aJ,true_and] at b2;obtain⟨rfl,rfl⟩:=b2;have a5:=aa (tK k c9 c0 m cv ss a0 b5 b9.o (by omega));have c8:=h.2.size;clear h b5 a1 a7 a3;go_wp2_with fail;refine a5.o.mono ?_;rintro e d1 ⟨v,xs,rfl,D,c4,b7,U⟩;have O:=aa (J.o.app (U.mono (bn c6 c8)) b3 (show w.1.size<=Z.1.size from c7));obtain⟨N,Q⟩:=aB xs.length;rw[<-Q] at D c4;have F:=aa Q;have a8:=aa D;have b0:=aa b7;have a4:=aa (lq _ d1 g a n c bs 4 O.o.1 (by omega) (by omega));have d4:=U.size;have c2:g<a0.1.size:=J.o.gW;clear D b7 U Q a5 J;go_wp2_with fail;refine a4.o.mono ?_;rintro e d2 ⟨b,rfl,h⟩;have a9:=aa (fh a8.o h.2 c2);have a2:=aa (O.o.trans h);have d5:=h.2.size;clear h a4 O a8;cases b
 ·go_wp2;go_ret;exact⟨v,xs,rfl,aT (by rw[<-F.o];exact a9.o) (by omega),by rw[<-F.o];omega,b0.o,a2.o.bel⟩
 ·go_wp2_with(first
   |(at_builtin;go_must(refine jx (w0:=d2) rfl _ _ 26 rfl a0.1.size 9 (.string ByteArray.empty) 16 underlying26 Pv rfl v N (ap xs) (.string ⟨#[]⟩) a9.o rfl rfl rfl (by omega) (by unfold maxLen;omega) aZ (by omega) ?_);intro v' d6 c5 c1))
  go_ret;refine⟨v',xs++[⟨#[]⟩],rfl,aT (by rw[az,<-F.o];simpa[ap] using c5) (by omega),by rw[az,<-F.o];simp;omega,λs E=> ?_,a2.o.bel.trans (c1.mono (by omega))⟩;rcases cH.1 E with E|E
  ·exact b0.o s E
  ·simp at E;subst E;decide
theorem Mk{w:World}{B e g n m cap}{xs ys}(h:w.ownsRow B e 3 (.slice (some ⟨g,0,none⟩) n cap) n (xs++ys))(Y:xs.length=m*3):w.ownsRow B e 3 (.slice (some ⟨g,0,none⟩) m cap) m xs:=by
 have W:=h.1;simp at W;refine⟨by omega,?_⟩;rcases h.2 with⟨F,_⟩|⟨a1,a0,E,Z,Q,U,a2,I,J,O⟩
 ·cases F
 ·cases Z;refine Or.inr ⟨g,cap,E,rfl,Q,U,by omega,I,J,?_⟩;have D:=congrArg (List.take (m*3)) O;rw[List.take_take,List.take_left' Y] at D;rwa[show min (m*3) (n*3)=m*3 by omega] at D
theorem OC{w:World}{B e g m c}{xs}(h:w.ownsRow B e 3 (.slice (some ⟨g,0,none⟩) m c) m xs):m<=c:=by
 rcases h.2 with⟨D,_⟩|⟨O,I,J,F,_,_,E,_⟩
 ·cases D
 ·cases F;exact E
def zo(n:Nat)(w:World)(e:Ending)(w':World):Prop:=
 ∃g c m xs,e= .returned (.slice (some ⟨g,0,none⟩) m c)/\w'.ownsRow w.1.size 90 3 (.slice (some ⟨g,0,none⟩) m c) m (af xs)/\xs.length=m*3/\m<=n/\Below w.1.size w w'
theorem Fx{P}{wr}{o}{a}{K}{Q}(s x)(t)
 (a6:o.op=Op.call {callee:=Callee.builtin Builtin.append,args:=#[s,x],argTypes:=#[t,t]})
 (B)(e)(W:P.underlying t=some (.slice e))(a2:(P.info? e).map (λi=>(i.zero,i.size,i.bytes))=some (some (.agg #[Ud 0,Ud 0,Ud 0]),3,24))
 (F m O)(xs)(a7:wr.ownsRow B e 3 (.slice (some ⟨F,0,none⟩) m O) m xs)(a8:a.eval s= .slice (some ⟨F,0,none⟩) m O)(b J k c)(E)(b0:a.eval x= .slice (some ⟨b,J,none⟩) k c)
 (a4:E.length=k*3)(a0:∀j u,(af E)[j]? =some u->wr.cell? ⟨b,J+j,none⟩=some u)(b5:m+k<=1000000)(Y:B<=wr.1.size)
 (Z:∀D c' h,h.ownsRow B e 3 (.slice (some ⟨D,0,none⟩) (m+k) c') (m+k) (xs++af E)->wr.grownBy h (some F)->K (a.put o.dst (.slice (some ⟨D,0,none⟩) (m+k) c')) h):Oper.wp P o a wr K Q:=by
 obtain⟨i,hi,b1,b2,b3⟩:=info_parts a2;refine wp_append_own _ s x t a6 B e i _ 3 24 W hi b1 b2 b3 rfl (by decide) _ m xs a8 a7 ⟨b,J,none⟩ k c (af E) b0 (by simpa[af] using a4) ?_ (by intro u a9;obtain⟨x,_,rfl⟩:=bi.1 a9;rfl) (by unfold maxLen;omega) (by omega) Y ?_
 ·intro j u a3;have:=a0 j u a3;unfold Addr.add;split
  ·rename_i I;subst I;exact this
  ·exact this
 ·intro v' h U a1 a5;rcases U.2 with⟨I,_⟩|⟨D,cap,b4,rfl,_⟩
  ·have:=a5.1 I;cases this.1
  ·exact Z D cap h U a1
theorem IE{P}{wr}{o}{a}{K}{Q}{E}{F}(D:o.guard=none)
 (h:Oper.wp P o a wr K Q):if Region.wanted o (yielded F a.tmps)=true then Oper.wp P o a wr K Q else E:=by
 rw[if_pos (by simp[Region.wanted,D])];exact h
theorem pU:(prog.info? 90).map (λi=>(i.zero,i.size,i.bytes))=some (some (.agg #[Ud 0,Ud 0,Ud 0]),3,24):=by kernel_rfl
theorem Do(a)(n c)(ys)(w)(c9:aO w a (n*3) (af ys))(m1:n<=1000):
 Calls prog 194 #[.slice a n c] w (zo n w):=by
 have h8:ys.length=n*3:=by simpa[af] using c9.len
 have i2:=aa c9.at_;have i9:=aa h8;have e4:=aa (show(w.alloc (.cells #[] 90)).ownsRow w.1.size 90 3 (.slice (some ⟨w.1.size,0,none⟩) 0 0) 0 (af []) from(ew (base:=w.1.size) (e:=90) (size:=3) w #[] 0 aQ (by unfold maxLen;simp) (by simp)));have d9:=aa ((aV w.1.size w).alloc aQ (.cells #[] 90));unfold zo;clear h8 c9;go_enter func194,ntmps194;go_wp2;go_loopw[3,4] (λv i wr=>∃(k m h U:Nat) (zs:List Int),k<=n/\i= Ud k/\v= .slice (some ⟨h,0,none⟩) m U/\m<=k/\zs.length=m*3/\bv (wr.ownsRow w.1.size 90 3 (.slice (some ⟨h,0,none⟩) m U) m (af zs))/\bv (Below w.1.size w wr)) (λ_ i _=>n-(intOf i).toNat);exact⟨0,0,w.1.size,0,[],by omega,rfl,rfl,by omega,rfl,e4,d9⟩;clear e4 d9;obtain⟨k,m,h,U,zs,l8,rfl,rfl,j8,h9,a9,a3⟩:=hrel;have Z:=aa h9;obtain⟨a0,k5⟩:=aB wr;subst k5;by_cases j7:k<n
 ·have l9:(k:Int)<(n:Int):=by omega
  obtain⟨b,D,rfl,j4,g3⟩:=i2.o (by omega);obtain⟨x,y,z,f8,d1,d2,d3⟩:=TM g3 i9.o j7;have d8:=aa (λ(V:World) (Q:Below w.1.size w V)=>f8.below Q j4);have l4:h<a0.1.size:=(a9.o.lt h rfl).2;clear d1 d2 d3 f8 g3 h9;go_wp2;have e9:=aa (λ(q:Nat) (l1:0<q) (c8:q<=m)=>show∃(p:Nat) (I J O:Int),(q:Int)-1=(p:Int)/\q=p+1/\∀V,Below a0.1.size a0 V->V.cell? ⟨b,D+k*3,none⟩=some (Ud x)/\V.cell? ⟨b,D+k*3+1,none⟩=some (Ud y)/\V.cell? ⟨b,D+k*3+2,none⟩=some (Ud z)/\V.cell? ⟨h,p*3,none⟩=some (Ud I)/\V.cell? ⟨h,p*3+1,none⟩=some (Ud J)/\V.cell? ⟨h,p*3+2,none⟩=some (Ud O) from by
   obtain⟨p,rfl⟩:∃p,q=p+1:=⟨q-1,by omega⟩;obtain⟨I,J,O,d1,d2,d3⟩:=Cu Z.o (show p<m by omega);refine⟨p,I,J,O,by omega,rfl,λV Q=> ?_⟩;obtain⟨d4,d5,d6⟩:=d8.o V (a3.o.trans (Q.mono a3.o.size));have c6:=ai a9.o Q;exact⟨d4,d5,d6,(c6.cellAt (p*3) (by omega)).trans (aP d1),(c6.cellAt (p*3+1) (by omega)).trans (aP d2),(c6.cellAt (p*3+2) (by omega)).trans (aP d3)⟩)
  go_loopw[5] (λi wr=>∃q:Nat,q<=m/\i= Ud q/\bv (Below a0.1.size a0 wr)) (λi _=>(intOf i).toNat);exact⟨m,by omega,rfl,aa aZ⟩;obtain⟨q,c8,rfl,a7⟩:=hrel;go_upto_region 6 with fail
  go_cut[29] from 16 to 29 (λt d7=>∃u:Bool,t= .bool u/\(u=true->0<q)/\bv (Below a0.1.size a0 d7))
  case first=>
   by_cases b8:q=0
   ·have a6:¬0<q:=by omega
    clear b8;go_wp2;go_quiet(fail);go_wp2;go_meet;case rel=>exact⟨_,rfl,(λb0=>by cases b0),aa (aA a7.o _)⟩
   ·skip;have a6:0<q:=(by omega);obtain⟨p,I,J,O,b7,a2,a8⟩:=e9.o q a6 c8;have b5:=aa a2;have k1:p<m:=(by omega);have k2:(p:Int)<(m:Int):=(by omega);have d0:IntKind.i64.wrap ((q:Int)-1)=(p:Int):=by rw[b7];exact au _ (by omega)
    have k6:IntKind.i64.wrap (p:Int)=(p:Int):=au _ (by omega);have k0:(0:Int)<=(p:Int):=(by omega);have i6:=aa (λ(V:World) (Q:Below wr.1.size wr V)=>show V.cell? ⟨b,D+k*3,none⟩=some (Ud x)/\V.cell? ⟨b,D+k*3+1,none⟩=some (Ud y)/\V.cell? ⟨b,D+k*3+2,none⟩=some (Ud z)/\V.cell? ⟨h,p*3,none⟩=some (Ud I)/\V.cell? ⟨h,p*3+1,none⟩=some (Ud J)/\V.cell? ⟨h,p*3+2,none⟩=some (Ud O)/\Below wr.1.size wr V from by
     obtain⟨d4,d5,d6,k7,k8,k9⟩:=a8 V (a7.o.trans (Q.mono a7.o.size));exact⟨d4,d5,d6,k7,k8,k9,Q⟩)
    have b2:Below wr.1.size wr wr.drew:=aZ.drew;have e1:=aa (λV=>show Calls prog 98 #[.agg #[Ud x,Ud y,Ud z],.agg #[Ud I,Ud J,Ud O]] V λe w'=>e= .returned (.bool (wt (x,y,z) (I,J,O)))/\Below V.1.size V w' from yj (x,y,z) (I,J,O) V);obtain⟨u,W⟩:=aB (wt (x,y,z) (I,J,O));rw[<-W] at e1;clear W a2 b8 a8;go_wp2;go_region_held3(λV=>V.cell? ⟨b,D+k*3,none⟩=some (Ud x)/\V.cell? ⟨b,D+k*3+1,none⟩=some (Ud y)/\V.cell? ⟨b,D+k*3+2,none⟩=some (Ud z)/\V.cell? ⟨h,p*3,none⟩=some (Ud I)/\V.cell? ⟨h,p*3+1,none⟩=some (Ud J)/\V.cell? ⟨h,p*3+2,none⟩=some (Ud O)/\Below wr.1.size wr V)
     (first|with_reducible exact i6.o _ b2)
     (first|(go_at_call 98;refine(e1.o _).mono ?_;rintro e i0 ⟨rfl,j5⟩;have b2:=b2.trans (j5.mono b2.size)))
    have Y:=aa (a7.o.trans (b2.mono a7.o.size));go_wp2;go_meet;case rel=>exact⟨u,rfl,λ_=>a6,Y⟩
  case rest=>
   obtain⟨u,rfl,k3,Y⟩:=hcut;obtain⟨i0,k4⟩:=aB wc;subst k4;cases u
   ·go_wp2;go_cut[45] from 32 to 45 (λt d7=>∃u:Bool,t= .bool u/\bv (Below a0.1.size a0 d7))
    case first=>
     by_cases b8:q=0
     ·have a6:¬0<q:=by omega
      clear b8;go_wp2;go_quiet(fail);go_wp2;go_meet;case rel=>exact⟨_,rfl,aa (aA Y.o _)⟩
     ·skip;have a6:0<q:=(by omega);obtain⟨p,I,J,O,b7,a2,a8⟩:=e9.o q a6 c8;have b5:=aa a2;have k1:p<m:=(by omega);have k2:(p:Int)<(m:Int):=(by omega);have d0:IntKind.i64.wrap ((q:Int)-1)=(p:Int):=by rw[b7];exact au _ (by omega)
      have k6:IntKind.i64.wrap (p:Int)=(p:Int):=au _ (by omega);have k0:(0:Int)<=(p:Int):=(by omega);obtain⟨m7,m8,m9,n0,n1,n2⟩:=a8 i0 Y.o;clear a8 a2;by_cases f6:x=I
      ·subst f6;by_cases f7:y=J
       ·subst f7;by_cases f9:z=O
        ·subst f9;go_wp2;go_quiet(fail);go_wp2;go_meet;case rel=>exact⟨_,rfl,aa (aA Y.o _)⟩
        ·have g0:(z==O)=false:=by simp[f9]
         go_wp2;go_quiet(fail);go_wp2;go_meet;case rel=>exact⟨_,rfl,aa (aA Y.o _)⟩
       ·have g0:(y==J)=false:=by simp[f7]
        go_wp2;go_quiet(fail);go_wp2;go_meet;case rel=>exact⟨_,rfl,aa (aA Y.o _)⟩
      ·have g0:(x==I)=false:=by simp[f6]
       go_wp2;go_quiet(fail);go_wp2;go_meet;case rel=>exact⟨_,rfl,aa (aA Y.o _)⟩
    case rest=>
     obtain⟨u,rfl,a5⟩:=hcut;obtain⟨F,d0⟩:=aB wc;subst d0;cases u
     ·skip;have c7:=ai a9.o a5.o;have c2:=aa c7;have h6:af zs=af (zs.take (q*3))++af (zs.drop (q*3)):=by rw[<-kQ,dX]
      have h0:(zs.drop (q*3)).length=(m-q)*3:=by rw[List.length_drop,Z.o];omega
      have g9:(af (zs.take (q*3))).length=q*3:=by simp[af,Z.o];omega
      have m0:=OC c7;have m2:q<=U:=(by omega);have f1:=aa h6;have c1:=aa g9;obtain⟨b9,j9,g5⟩:∃b9,(if U=q then(some ⟨h,0,none⟩:Option Addr) else some ⟨h,q*3,none⟩)=some ⟨h,b9,none⟩/\∀(j:Nat) (u:Value),(af (zs.drop (q*3)))[j]? =some u->(F.alloc (.cells #[] 90)).cell? ⟨h,b9+j,none⟩=some u:=by
       by_cases g4:U=q
       ·refine⟨0,if_pos g4,λj u W=> ?_⟩;exfalso;have:=(aw.1 W).1;simp[af,Z.o] at this;omega
       ·refine⟨q*3,if_neg g4,λj u W=> ?_⟩;have j6:=(aw.1 W).1;rw[(c2.o.alloc _).cellAt (q*3+j) (by simp[af,Z.o] at j6;omega),f1.o,bj (by rw[c1.o];omega),c1.o,eL];exact W
      have e2:=aa g5;have e3:=aa h0;have g1:(F.alloc (.cells #[] 90)).ownsRow F.1.size 90 3 (.slice (some ⟨F.1.size,0,none⟩) 0 0) 0 (af []):=ew (base:=F.1.size) (e:=90) (size:=3) F #[] 0 aQ (by unfold maxLen;simp) (by simp);have e7:=aa g1;have m3:(q:Int)<=(U:Int):=(by omega);have m4:(q:Int)<=(m:Int):=(by omega);have l2:=a5.o.size;clear c7 h6 g5 h0 g9 g1;go_wp2_with(first|(at_builtin;go_must(refine wpList_plain rfl λK E=> ?_;refine Fx _ _ 33 rfl F.1.size 90 underlying33 pU F.1.size 0 0 _ e7.o rfl h b9 (m-q) _ (zs.drop (q*3)) rfl e3.o e2.o (by omega) (by simp) ?_);intro a1 f2 a4 b3 g6;refine E _ _ ?_;clear E K));have l7:h<F.1.size:=(c2.o.lt h rfl).2;have c5:Below F.1.size F a4:=(aZ.alloc aQ _).grown g6 (by simp) (by rintro k ⟨⟩;exact aN _);have e0:=aa (a3.o.trans ((a5.o.trans (c5.mono a5.o.size)).mono a3.o.size));rw[show 0+(m-q)=m-q by omega,show af []++af (zs.drop (q*3))=af (zs.drop (q*3)) from rfl] at b3;try rw[show 0+(m-q)=m-q by omega]
      have l5:F.1.size<=a1:=(b3.lt a1 rfl).1;have l6:a1<a4.1.size:=(b3.lt a1 rfl).2;have h2:=Mk (by rw[<-f1.o];exact ai c2.o c5) c1.o;have m6:=e0.o.size;have e6:=aa (show a4.drew.ownsRow w.1.size 90 3 (.slice (some ⟨h,0,none⟩) q U) q (af (zs.take (q*3))) from h2);have e8:=aa b3;have b4:=aa (show Below w.1.size w a4.drew from e0.o.drew);obtain⟨S,c3⟩:=aB (α:=World->Prop) (λV=>V.cell? ⟨b,D+k*3,none⟩=some (Ud x)/\V.cell? ⟨b,D+k*3+1,none⟩=some (Ud y)/\V.cell? ⟨b,D+k*3+2,none⟩=some (Ud z));have f0:=aa (show∀V,S V->V.cell? ⟨b,D+k*3,none⟩=some (Ud x)/\V.cell? ⟨b,D+k*3+1,none⟩=some (Ud y)/\V.cell? ⟨b,D+k*3+2,none⟩=some (Ud z) fromλV Q=>by rw[c3] at Q;exact Q);have b6:=aa (show∀V,Below w.1.size w V->S V fromλV Q=>by rw[c3];exact d8.o V Q);have l3:S a4.drew:=b6.o _ b4.o;have i4:=aa (b4.o.alloc b4.o.size (.cells #[Ud x,Ud y,Ud z] 90));have j3:=b6.o _ i4.o;clear c3 h2 b3 g6 c5 e7 e2 j9;go_wp2;refine dr (S:=S) 11 (by kernel_rfl) ?_;iterate 7 (refine kG rfl (by kernel_rfl) (λ_ _ _ b0=>b0) (by rfl) (by assumption) (λV b1=>by have b1:=f0.o V b1;go_split_ands;go_simp;first|done|with_reducible rfl) ?_;try simp only[Act.put,ab,ac,ae])
      (refine jw 9 rfl (by kernel_rfl) (λ_ _ _ b0=>b0) (by rfl) (by assumption) (λV b1=>by have b1:=f0.o V b1;go_split_ands;go_simp;first|done|with_reducible rfl) ?_;try simp only[Act.put,ab,ac,ae]);refine aY (i:=7) rfl (by kernel_rfl) (by decide) (λK E=> ?_);go_simp;refine E.out _ _ j3 ?_;clear E K;try simp only[Act.put,ab,ac,ae]
      refine aY (i:=8) rfl (by kernel_rfl) (by decide) (λK E=> ?_);refine kJ (by rfl) _ _ 33 (by rfl) w.1.size 90 underlying33 pU (.slice (some ⟨h,0,none⟩) q U) q _ x y z e6.o (by rfl) (by rfl) (by omega) (by show w.1.size<=a4.1.size;omega) ?_;intro f4 j0 l0 h3 g2 g7;have c0:=aa (b4.o.trans (g2.mono aQ));have h5:=(show a4.drew.ownsRow F.1.size 90 3 (.slice (some ⟨a1,0,none⟩) (m-q) f2) (m-q) (af (zs.drop (q*3))) from e8.o).kept g7 (Or.inr (by intro e;injection e with e;have:h=a1:=e.symm;omega));have i5:=aa (show∀(j:Nat) (u:Value),(af (zs.drop (q*3)))[j]? =some u->l0.cell? ⟨a1,0+j,none⟩=some u fromλj u W=>by
       rw[aW,h5.cellAt j (by have:=(aw.1 W).1;simp[af,Z.o] at this;omega)];exact W)
      have j1:=b6.o _ c0.o;have e5:=aa h3;have h7:=c0.o.size;clear h3 g2 g7 h5 e6 e8;refine E.out _ _ j1 ?_;clear E K;try simp only[Act.put,ab,ac,ae]
      refine aY (i:=10) rfl (by kernel_rfl) (by decide) (λK E=> ?_);refine IE (by rfl) ?_;refine Fx _ _ 33 (by rfl) w.1.size 90 underlying33 pU f4 (q+1) j0 _ e5.o (by rfl) a1 0 (m-q) f2 (zs.drop (q*3)) (by rfl) e3.o i5.o (by omega) h7 ?_;intro f5 f3 i1 h4 g8;have c4:Below w.1.size w i1:=c0.o.grown g8 h7 (by rintro k ⟨⟩;exact(e5.o.lt f4 rfl).1);have j2:=b6.o _ c4;have i3:=aa c4;have h1:(zs.take (q*3)++[x,y,z]++zs.drop (q*3)).length=(q+1+(m-q))*3:=by simp[Z.o];omega
      have i8:=aa (show i1.ownsRow w.1.size 90 3 (.slice (some ⟨f5,0,none⟩) (q+1+(m-q)) f3) (q+1+(m-q)) (af (zs.take (q*3)++[x,y,z]++zs.drop (q*3))) from by rw[kQ,kQ];exact h4);have i7:=aa h1;clear h4 g8 c4 h1;refine E.out _ _ j2 ?_;clear E K;try simp only[Act.put,ab,ac,ae]
      refine cU rfl (by kernel_rfl) (by kernel_rfl) (λK E=> ?_);go_simp;refine E.out _ _ ?_;clear E K;go_wp2;go_roundw;exact⟨k+1,q+1+(m-q),f5,f3,_,by omega,by go_num,rfl,by omega,i7.o,i8,i3⟩;simp[intOf]<;>omega
     ·go_wp2;go_roundw;exact⟨k+1,m,h,U,zs,by omega,by go_num,rfl,by omega,Z.o,aa (ai a9.o a5.o),aa (a3.o.trans (a5.o.mono a3.o.size))⟩;simp[intOf]<;>omega
   ·have m5:=k3 rfl;obtain⟨p,b7,a2⟩:∃p:Nat,(q:Int)-1=(p:Int)/\q=p+1:=⟨q-1,by omega,by omega⟩;have b5:=aa a2;clear a2;go_wp2;go_roundw;exact⟨p,by have:=b5.o;omega,by go_num,Y⟩;have:=b5.o;simp[intOf]<;>omega
 ·obtain rfl:k=n:=by omega
  go_wp2;go_ret;exact⟨h,U,m,zs,rfl,a9.o,Z.o,j8,a3.o⟩
theorem xx{w}{B e m c}{a}{xs}(h:w.ownsRow B e 3 (.slice a m c) m xs)(U:m<=1000000):aO w a (m*3) xs:=by
 refine⟨h.1,by omega,λW=> ?_⟩;rcases h.2 with⟨J,O⟩|⟨g,cap,I,F,Q,E,_⟩
 ·omega
 ·cases F;exact⟨g,0,rfl,(bD.1 E).1,λj v D=>by rw[aW,h.cellAt j (by have:=(aw.1 D).1;have:=h.1;omega)];exact D⟩
def tG(w:World)(e:Ending)(w':World):Prop:=
 ∃(L S:Int) (a:Option Addr) (c m:Nat) (xs:List Int) (b:Bool),e= .returned (.tuple #[.agg #[Ud L,Ud S,.slice a m c],.bool b])/\w'.ownsRow w.1.size 90 3 (.slice a m c) m (af xs)/\xs.length=m*3/\m<=100/\Below w.1.size w w'
theorem wT(L)(a)(n c)(ss)(w)(I:aO w a n (ap ss))(Q:∀s∈ss,s.size<=20)(F:iE L ss=false):
 Calls prog 66 #[.agg #[Ud L,.slice a n c]] w λe w'=>∃g,e= .returned (.slice (some ⟨g,0,none⟩) 0 0)/\Below w.1.size w w':=by
 have h:=(aV w.1.size w).alloc aQ (.cells #[Ud L,.slice a n c] 28);have O:=aa (nL L 2 a n c ss _ (I.below h aQ) Q F);have D:=aa h;clear h I F;go_enter func66,ntmps66;go_wp2_with fail;refine O.o.mono ?_;rintro e U ⟨g,rfl,_,E⟩;have J:=aa (D.o.trans (E.mono D.o.size));clear E;go_wp2;go_ret;exact⟨_,rfl,J.o⟩
theorem yH(L)(a)(n c)(ss)(w)(J:aO w a n (ap ss))(Q:∀s∈ss,s.size<=20)(I:iE L ss=false):
 Calls prog 148 #[.agg #[Ud L,.slice a n c]] w λe w'=>∃v,e= .returned (.tuple #[v,.bool false])/\Below w.1.size w w':=by
 have h:=(aV w.1.size w).alloc aQ (.cells #[Ud L,.slice a n c] 28);have O:=aa (wT L a n c ss _ (J.below h aQ) Q I);have D:=aa h;clear h J I;go_enter func148,ntmps148;go_wp2_with fail;refine O.o.mono ?_;rintro e U ⟨g,rfl,F⟩;have E:=aa (D.o.trans (F.mono D.o.size));clear F;go_wp2;go_ret2;exact⟨_,rfl,E.o.alloc E.o.size _⟩
theorem qU(L)(a)(n c)(w)(O:∀V,Below w.1.size w V->Calls prog 148 #[.agg #[Ud L,.slice a n c]] V λe w'=>∃v,e= .returned (.tuple #[v,.bool false])/\Below V.1.size V w'):
 Calls prog 193 #[.agg #[Ud L,.slice a n c]] w (tG w):=by
 obtain⟨D,h⟩:=aB ((w.alloc (.cells #[Ud L,.slice a n c] 28)).alloc (.cells #[Ud 0,Ud 0,.slice none 0 0] 35));have J:Below w.1.size w D:=by rw[h];exact(aZ.alloc aQ _).alloc (by simp) _
 have Q:bA D w.1.size #[Ud L,.slice a n c]:=by rw[h];exact(bA.new _ _ _).alloc _
 have U:bA D (w.1.size+1) #[Ud 0,Ud 0,.slice none 0 0]:=by
  rw[h];have:=bA.new (w.alloc (.cells #[Ud L,.slice a n c] 28)) #[Ud 0,Ud 0,.slice none 0 0] 35;simpa using this
 have Y:=aa (O D J);have F:=aa J;have I:=aa U;obtain⟨⟨a0,a1⟩,_⟩:=Q.c2;unfold tG;clear Q U J O;go_enter func193,ntmps193;go_wp2_with(rw[<-h]);first|rw[<-h]|skip
 clear h;refine Y.o.mono ?_;rintro e a8 ⟨v,rfl,E⟩;obtain⟨⟨a2,a3,a4⟩,a5,a6,a7⟩:=(I.o.below E).c3;have Z:=(I.o.below E).lt;have W:=aa (dM (F.o.trans (E.mono F.o.size)) (show w.1.size<=w.1.size+1 by omega) (Ud 0) (Ud 0) (.slice none 0 0));clear E I F a0 a1;go_wp2;refine bodyPost_ret (v:=.tuple #[.agg #[Ud 0,Ud 0,.slice none 0 0],.bool false]) (by simp[results,results193,go_sem,a2,a3,a4,Z]) rfl ?_;exact⟨_,_,none,0,0,[],_,rfl,dk _ _ _ _,rfl,by omega,W.o⟩
theorem yE(k)(a)(n c)(ss)(w)(c1:aO w a n (ap ss))(d1:iO k ss=true)(c6:(iu ss k).length≠0):
 Calls prog 193 #[.agg #[Ud k,.slice a n c]] w (tG w):=by
 obtain⟨h7,_⟩:=dD d1;obtain⟨b4,a4⟩:=aB ((w.alloc (.cells #[Ud k,.slice a n c] 28)).alloc (.cells #[Ud 0,Ud 0,.slice none 0 0] 35));have e4:Below w.1.size w b4:=by rw[a4];exact(aZ.alloc aQ _).alloc (by simp) _
 have o7:b4.1.size=w.1.size+1+1:=by rw[a4];simp
 have f3:bA b4 w.1.size #[Ud k,.slice a n c]:=by rw[a4];exact(bA.new _ _ _).alloc _
 have i5:bA b4 (w.1.size+1) #[Ud 0,Ud 0,.slice none 0 0]:=by
  rw[a4];have:=bA.new (w.alloc (.cells #[Ud k,.slice a n c] 28)) #[Ud 0,Ud 0,.slice none 0 0] 35;simpa using this
 have a2:=aa (lg k a n c ss b4 (c1.below e4 aQ) d1);have b2:=aa (λ(V:World) (W:Below w.1.size w V)=>mR k a n c ss V (c1.below W aQ) d1);have f7:=aa (λ(t q:Nat) (h:(iu ss k)[t]? =some q)=>Eg h);have k5:=aa (λ(i:Nat) (hi:i<k^2) (h:1<(db k 2 i).size)=>nD h7 hi h);have a5:=aa (oN ss k);have b6:=eN (ss:=ss) h7.2;have c3:=aa e4;have e2:=aa i5;have e0:=aa f3;unfold ns at a2;unfold sO at b2;obtain⟨g3,g7⟩:=aB (iu ss k);rw[<-g7] at a2 b2 f7 b6 c6 a5;obtain⟨M,g8⟩:=aB (gM ss k);rw[<-g8] at a2 a5;obtain⟨N,e6⟩:=aB g3.length;rw[<-e6] at a2 b2 b6 c6 a5;have j6:=aa e6;rw[decide_eq_true (show N≠0 from c6)] at a2;obtain⟨⟨m5,m7⟩,_⟩:=f3.c2;unfold tG;clear f3 i5 e4 c1 d1 g7 g8 e6;go_enter func193,ntmps193;go_wp2_with(rw[<-a4]);first|rw[<-a4]|skip
 clear a4;refine a2.o.mono ?_;rintro e n2 ⟨v,rfl,h6,b8⟩;have f1:=h6 c6;obtain⟨e3,cv,rfl,l3,_⟩:=cT f1 a5.o.len (by omega);have g1:=aa (iH f1 a5.o (by omega) (by omega));have d6:=aa b8;obtain⟨⟨m6,m8⟩,_⟩:=(e0.o.below b8).c2;have g0:=aa (b2.o n2 (c3.o.trans (b8.mono c3.o.size)));clear h6 f1 b8 m5 m7 a2 b2 l3;go_wp2_with fail;refine g0.o.mono ?_;rintro e Y ⟨v,rfl,i1,e8⟩;obtain⟨n5,n4,rfl,i4⟩:=aS i1 (by omega);have b1:=aa (d6.o.trans (e8.mono d6.o.size));have k2:=aa i4;have k4:=aa (g1.o.below e8 aQ);have g4:=c3.o.trans (b1.o.mono c3.o.size);have j0:=aa g4;obtain⟨⟨a9,b0⟩,_⟩:=(e0.o.below b1.o).c2;obtain⟨q,c0⟩:=aB Y.1.size;have o6:w.1.size+1<q:=by rw[c0];exact(e2.o.below b1.o).lt
 have g2:=aa ((e2.o.below b1.o).alloc (.cells #[Ud k,Ud N,.slice none 0 0] 35));have f8:=aa (show bA (Y.alloc (.cells #[Ud k,Ud N,.slice none 0 0] 35)) q #[Ud k,Ud N,.slice none 0 0] by rw[c0];exact bA.new _ _ _);have f6:=aa (show Below q Y (Y.alloc (.cells #[Ud k,Ud N,.slice none 0 0] 35)) by rw[c0];exact aZ.alloc aQ _);have j1:=aa (λ(i j:Nat) (hi:i<N) (b9:j<N)=>show∃(a3 a8 c5:Nat) (x:Int),∀V,Below q Y V->V.cell? ⟨e3,i,none⟩=some (.slice (some ⟨a3,a8,none⟩) N c5)/\V.cell? ⟨a3,a8+j,none⟩=some (Ud x) from by
  obtain⟨r,c1,l6,_⟩:=a5.o.get hi;obtain⟨b,c2,a3,a8,c5,f0,n7,b5,n8,k7⟩:=pg k4.o hi c1 (by omega:j<r.length);injection f0 with f0
  injection f0 with he1 he2
  subst he1 he2;rw[l6,aW] at b5;exact⟨a3,a8,c5,_,λV W=>⟨(W.cell (p:=⟨e3,i,none⟩) (show e3<q by omega)).trans b5,(W.cell (p:=⟨a3,a8+j,none⟩) (show a3<q by omega)).trans k7⟩⟩)
 obtain⟨b,c2,rfl,n9,h5⟩:=k2.o.at_ (by omega);have k3:=aa (λ(j:Nat) (b9:j<N)=>show∃(a1:ByteArray) (y:Nat),y<3/\a1.size=2/\(∀h:1<a1.size,(a1[1].toNat:Int)=97+(y:Int))/\∀V,Below q Y V->V.cell? ⟨b,c2+j,none⟩=some (.string a1) from by
  obtain⟨i,hi⟩:=aE (l:=g3) (n:=j) (by rw[<-j6.o];exact b9);have l4:=f7.o j i hi;refine⟨db k 2 i,i%k,?_,ce k 2 i,λh=>k5.o i l4 h,λV W=> ?_⟩
  ·have:=dI i (show 0<k by omega);omega
  ·exact(W.cell (p:=⟨b,c2+j,none⟩) (show b<q by omega)).trans (h5 j _ (by simp[ap,hi])))
 clear i1 e8 i4 h5 g4 d6 g1 g0 m6 m8 e0 e2 b1;go_wp2_with fail;rw[<-c0];clear c0 a9 b0;go_loopw[8] (λf4 wr=>∃(i m E:Nat) (D:Option Addr) (xs:List Int),i<=N/\f4= Ud i/\m<=i*N/\xs.length=m*3/\bv (wr.ownsRow (q+1) 90 3 (.slice D m E) m (af xs))/\bv (bA wr q #[Ud k,Ud N,.slice D m E])/\bv (bA wr (w.1.size+1) #[Ud 0,Ud 0,.slice none 0 0])/\bv (Below q Y wr)) (λf4 _=>N-(intOf f4).toNat);exact⟨0,0,0,none,[],by omega,rfl,by omega,rfl,aa (dk _ _ _ _),f8,g2,f6⟩;clear f8 g2 f6;obtain⟨i,m,E,D,xs,hi,rfl,d0,a7,Q,F,U,O⟩:=hrel;by_cases l7:i<N
 ·have o8:(i:Int)<(N:Int):=by omega
  have j2:=aa (λj b9=>j1.o i j l7 b9);have l5:i*N+N<=81:=by
   have b5:(i+1)*N<=9*9:=bX (by omega) b6;rw[mO] at b5;omega
  obtain⟨m2,f2⟩:=aB (i*N);rw[<-f2] at l5 d0;have j5:=aa f2;clear f2;go_wp2;go_loopw[9] (λf5 wr=>∃(j m E:Nat) (D:Option Addr) (xs:List Int),j<=N/\f5= Ud j/\m<=m2+j/\xs.length=m*3/\bv (wr.ownsRow (q+1) 90 3 (.slice D m E) m (af xs))/\bv (bA wr q #[Ud k,Ud N,.slice D m E])/\bv (bA wr (w.1.size+1) #[Ud 0,Ud 0,.slice none 0 0])/\bv (Below q Y wr)) (λf5 _=>N-(intOf f5).toNat);exact⟨0,m,E,D,xs,by omega,rfl,by omega,a7,Q,F,U,O⟩;clear Q F U O d0 a7;obtain⟨j,m,E,D,xs,b9,rfl,d0,a7,Q,F,U,O⟩:=hrel;have e1:=aa a7;clear a7;by_cases h9:j<N
  ·have o9:(j:Int)<(N:Int):=by omega
   obtain⟨a3,a8,c5,x,h3⟩:=j2.o j h9;obtain⟨m3,m4⟩:=h3 wr O.o;by_cases p3:0<x
   ·obtain⟨a1,y,p4,m0,h2,h4⟩:=k3.o j h9;have b8:=h2 (by rw[m0];omega);have j3:=aa h4;obtain⟨⟨a9,b0,d2⟩,d3,d4,d5⟩:=F.o.c3;clear h3 h2 h4;have p2:(1:Int)<(a1.size:Int):=(by omega);obtain⟨S,e7⟩:=aB (α:=World->Prop) (λV=>V.cell? ⟨q,2,none⟩=some (.slice D m E)/\V.cell? ⟨b,c2+j,none⟩=some (.string a1));have f9:=aa (show∀V,S V->V.cell? ⟨q,2,none⟩=some (.slice D m E)/\V.cell? ⟨b,c2+j,none⟩=some (.string a1) fromλV W=>by rw[e7] at W;exact W);have d9:=aa (show∀V,bA V q #[Ud k,Ud N,.slice D m E]->Below q Y V->S V fromλV k8 k9=>by rw[e7];exact⟨k8.cell 2,j3.o V k9⟩);have a6:=F.o.lt;have e9:Below wr.1.size wr (wr.drew.alloc (.cells #[Ud i,Ud j,Ud y] 90)):=aZ.drew.alloc aQ _;have n6:S wr.drew:=d9.o _ (F.o.below aZ.drew) (O.o.trans (aZ.drew.mono (io a6)));have j9:=aa (F.o.below e9);have l0:=d9.o _ j9.o (O.o.trans (e9.mono (io a6)));have j8:=aa (show wr.drew.ownsRow (q+1) 90 3 (.slice D m E) m (af xs) from Q.o);have k6:=aa (U.o.below aZ.drew);have k1:=aa (F.o.below aZ.drew);have i9:=aa (O.o.trans (aZ.drew.mono (io a6)));have l9:q+1<=wr.drew.1.size:=a6;have p0:IntKind.i64.wrap (97+(y:Int))=97+(y:Int):=au _ (by omega);have p1:IntKind.i64.wrap (97+(y:Int)-97)=(y:Int):=by rw[show(97:Int)+(y:Int)-97=(y:Int) by omega];exact au _ (by omega)
    clear e7 a9 b0 d2 d3 d4 d5 Q U F O e9;go_wp2;clear m3 m4;refine dr (S:=S) 15 (by kernel_rfl) ?_;iterate 12 (refine kG rfl (by kernel_rfl) (λ_ _ _ h=>h) (by rfl) (by assumption) (λV b7=>by have b7:=f9.o V b7;go_split_ands;go_simp;first|done|with_reducible rfl) ?_;try simp only[Act.put,ab,ac,ae])
    refine aY (i:=12) rfl (by kernel_rfl) (by decide) (λK Z=> ?_);go_simp;refine Z.out _ _ l0 ?_;clear Z K;try simp only[Act.put,ab,ac,ae]
    refine aY (i:=13) rfl (by kernel_rfl) (by decide) (λK Z=> ?_);refine kJ (by rfl) _ _ 33 (by rfl) (q+1) 90 underlying33 pU (.slice D m E) m _ i j y j8.o (by rfl) (by rfl) (by omega) l9 ?_;intro J I i6 i2 c9 l2;have c7:=k1.o.at_ c9 (cG q);have g9:=k6.o.at_ c9 (by omega);have e5:=i9.o.trans (c9.mono (kW q));have l1:=d9.o _ c7 e5;refine Z.out _ _ l1 ?_;clear Z K;try simp only[Act.put,ab,ac,ae]
    (refine jw 14 rfl (by kernel_rfl) (λ_ _ _ h=>h) (by rfl) (by assumption) (λV b7=>by have b7:=f9.o V b7;go_split_ands;go_simp;first|done|with_reducible rfl) ?_;try simp only[Act.put,ab,ac,ae]);obtain⟨⟨a9,b0,d2⟩,d3,d4,d5⟩:=c7.c3;have j7:=aa (cE i2 (cG q) 2 (.slice (some ⟨J,0,none⟩) (m+1) I));have c4:=aa (c7.set2 (.slice (some ⟨J,0,none⟩) (m+1) I));have b3:=aa (g9.other (i:=2) (q:=q) (by omega) (.slice (some ⟨J,0,none⟩) (m+1) I));have i7:=aa (e5.setCell (p:=⟨q,2,none⟩) (aN q) (.slice (some ⟨J,0,none⟩) (m+1) I));have d7:=aa (show(xs++[(i:Int),(j:Int),(y:Int)]).length=(m+1)*3 by rw[az,e1.o];simp;omega);clear i2 c9 l2 c7 g9 e5;refine cU rfl (by kernel_rfl) (by kernel_rfl) (λK Z=> ?_);go_simp;refine Z.out _ _ ?_;clear Z K;go_wp2;go_roundw;exact⟨j+1,m+1,I,some ⟨J,0,none⟩,_,by omega,by go_num,by omega,d7.o,aa (by rw[kQ];exact j7.o),c4,b3,i7⟩;simp[intOf];omega
   ·go_wp2;go_roundw;exact⟨j+1,m,E,D,xs,by omega,by go_num,by omega,e1.o,Q,F,U,O⟩;simp[intOf];omega
  ·obtain rfl:j=N:=by omega
   go_wp2;go_roundw;exact⟨i+1,m,E,D,xs,by omega,by go_num,by have:=j5.o;rw[mO];omega,e1.o,Q,F,U,O⟩;simp[intOf];omega
 ·obtain rfl:i=N:=by omega
  have o5:m<=81:=by
   have b5:i*i<=9*9:=bX b6 b6;omega
  have a6:=F.o.lt;obtain⟨⟨a9,b0,d2⟩,d3,d4,d5⟩:=F.o.c3;have i3:aO wr D (m*3) (af xs):=xx Q.o (by omega);have d8:=aa (Do D m E xs wr i3 (by omega));unfold zo at d8;clear i3 d0 a7;go_wp2_with fail;refine d8.o.mono ?_;rintro e i6 ⟨J,I,a0,n3,rfl,i0,h8,o4,c8⟩;have c4:=aa (F.o.below c8);have b3:=aa (U.o.below c8);obtain⟨⟨a9,b0,d2⟩,d3,d4,d5⟩:=c4.o.c3;have k0:=aa (c4.o.set2 (.slice (some ⟨J,0,none⟩) a0 I));have h0:=b3.o.other (i:=2) (q:=q) (by omega) (.slice (some ⟨J,0,none⟩) a0 I);obtain⟨⟨p5,p6,p7⟩,p8,p9,q0⟩:=k0.o.c3;obtain⟨⟨m9,n0,n1⟩,u0,u1,u2⟩:=h0.c3;have m1:=b3.o.lt;have l8:q<wr.1.size:=a6;have g5:=cE i0 l8 2 (.slice (some ⟨J,0,none⟩) a0 I);have g6:=cE (cE (cE g5 (by omega:w.1.size+1<wr.1.size) 0 (Ud k)) (by omega:w.1.size+1<wr.1.size) 1 (Ud i)) (by omega:w.1.size+1<wr.1.size) 2 (.slice (some ⟨J,0,none⟩) a0 I);have j4:=aa (aT g6 (by omega:w.1.size<=wr.1.size));have h1:Below w.1.size w (i6.setCell ⟨q,2,none⟩ (.slice (some ⟨J,0,none⟩) a0 I)):=(j0.o.trans ((O.o.trans (c8.mono (by omega))).mono (by omega))).setCell (show w.1.size<=q by omega) _;have i8:=aa (dM h1 (show w.1.size<=w.1.size+1 by omega) (Ud k) (Ud i) (.slice (some ⟨J,0,none⟩) a0 I));have d7:=aa h8;clear i0 h8 c8 h1 g5 g6 h0 b3 F Q U d8 O;go_wp2;refine bodyPost_ret (v:=.tuple #[.agg #[Ud k,Ud i,.slice (some (Addr.mk J 0 none)) a0 I],.bool true]) (by simp[results,results193,go_sem,m9,n0,n1,m1]) rfl ?_;exact⟨_,_,_,_,a0,n3,_,rfl,j4.o,d7.o,by omega,i8.o⟩
theorem kK{w w':World}{B e m g}{v}{xs}(h:w.ownsRow B e 3 v m xs)(D:w.grownBy w' (some g))(E:g<B):w'.ownsRow B e 3 v m xs:=
 h.kept D (by
  cases hv:v.ownBlock with
  |none=>exact .inl rfl
  |some q=>exact .inr (λe=>by injection e with e;have:=(h.lt q hv).1;omega))
def tH(D:Nat)(W w:World)(g:Nat)(a:Option Addr)(n c:Nat)(bs:List UInt8)(e:Ending)(w':World):Prop:=
 ∃(L S:Int) (h:Option Addr) (cv m:Nat) (xs:List Int),e= .returned (.agg #[Ud L,Ud S,.slice h m cv])/\w'.ownsRow w.1.size 90 3 (.slice h m cv) m (af xs)/\xs.length=m*3/\m<=D/\je W w w' g a n c bs
theorem pF{wr:World}{B e n b}{v}{xs}(h:wr.ownsRow B e 3 v n xs)(D:b<B)(x y z):(((wr.setCell ⟨b,0,none⟩ x).setCell ⟨b,1,none⟩ y).setCell ⟨b,2,none⟩ z).ownsRow B e 3 v n xs:=
 cE (cE (cE h D 0 x) D 1 y) D 2 z
theorem vq(L)(a)(n c)(ss)(w)(D:aO w a n (ap ss))(J:∀s∈ss,s.size<=20):
 Calls prog 193 #[.agg #[Ud L,.slice a n c]] w (tG w):=by
 cases hok:iE L ss
 ·exact qU L a n c w (λV h=>yH L a n c ss V (D.below h aQ) J hok)
 ·obtain⟨k,rfl,F⟩:=Ad hok;by_cases E:(iu ss k).length=0
  ·refine qU k a n c w (λV h=>(lg k a n c ss V (D.below h aQ) F).mono ?_);rintro e w' ⟨v,rfl,_,I⟩;exact⟨v,by rw[E];rfl,I⟩
  ·exact yE k a n c ss w D F E
theorem Nb(W w)(g)(a)(n c)(bs)(h:Bz W w g a n c bs):
 Calls prog 105 #[.pointer (some ⟨g,0,none⟩)] w (tH 100 W w g a n c bs):=by
 have f9:g<w.1.size/\W.1.size<=w.1.size:=by obtain⟨i,k,x⟩:=h;exact⟨x.hi,x.bel.size⟩
 have b1:=f9.1;have b2:=f9.2;have e9:=aa (h.drew0.alloc (.cells #[Ud 0,Ud 0,.slice none 0 0] 35));have g8:=aa (bA.new w #[Ud 0,Ud 0,.slice none 0 0] 35);have g7:=aa (lq W _ g a n c bs 4 e9.o.1 (by omega) (by omega));unfold tH;clear h f9;go_enter func105,ntmps105;go_wp2_with fail;refine g7.o.mono ?_;rintro e g2 ⟨k0,rfl,D⟩;have a3:=aa (g8.o.grown D.2 (by omega));have a0:=aa (e9.o.trans D);have j2:=a3.o.lt;clear D g7 g8 e9;go_upto_if 9 with fail
 go_cut[3,4] from 8 to 22 (λ_ _ j6=>bv (bA j6 w.1.size #[Ud 0,Ud 0,.slice none 0 0])/\bv (je W w j6 g a n c bs))
 case first=>
  cases k0
  ·go_wp2;go_meet;case rel=>exact⟨a3,a0⟩
  ·have f4:=aa (GM W g2 g a n c bs a0.o.1);unfold oU at f4;go_wp2_with fail;refine f4.o.mono ?_;rintro e Z ⟨k,j9,cv,ss,rfl,c5,k6,j5,D⟩;obtain⟨m,g0⟩:=aB ss.length;rw[<-g0] at c5 k6;rw[<-g0];obtain⟨a',c',i8,d3⟩:=aS c5 (by omega);simp only[aJ,true_and] at i8;obtain⟨rfl,rfl⟩:=i8;have U:=aa (a0.o.trans D);have Q:=aa (a3.o.grown D.2 (by omega));have f2:=aa (vq k j9 m cv ss Z d3 j5);unfold tG at f2;have j3:=U.o.2.size;clear c5 d3 D j5 g0 f4 a3 a0;go_wp2_with fail;refine f2.o.mono ?_;rintro e c8 ⟨L,S,c2,c3,b8,xs,l3,rfl,c5,d5,k7,e6⟩;have b4:=aa ((U.o.app (e6.mono j3) b1 b2).alloc (.cells #[Ud L,Ud S,.slice c2 b8 c3] 35));have a6:=aa ((Q.o.below e6).alloc (.cells #[Ud L,Ud S,.slice c2 b8 c3] 35));have h1:=aa (Q.o.below e6);have h5:=aa (c5.alloc (.cells #[Ud L,Ud S,.slice c2 b8 c3] 35));have f5:=aa d5;have n4:w.1.size<Z.1.size:=Q.o.lt;clear c5 d5 e6 f2 Q U;cases l3
   ·go_wp2;go_meet;case rel=>exact⟨a6,b4⟩
   ·by_cases i5:S<=4
    ·obtain⟨⟨d7,d8,d9⟩,u0,u1,u2⟩:=a6.o.c3;obtain⟨⟨l4,l5,l6⟩,l7,l8,l9⟩:=h1.o.c3;have d6:=a6.o.lt;have d0:=aa (aT (pF h5.o (show w.1.size<Z.1.size by omega) (Ud L) (Ud S) (.slice c2 b8 c3)) (show w.1.size<=Z.1.size by omega));have c9:=aa (b4.o.app (dM (aV w.1.size _) aQ (Ud L) (Ud S) (.slice c2 b8 c3)) b1 b2);clear a6 h1 b4 h5;go_wp2;refine bodyPost_ret (v:=.agg #[Ud L,Ud S,.slice c2 b8 c3]) (by simp[results,results105,go_sem,d7,d8,d9,d6]) rfl ?_;exact⟨_,_,_,_,b8,xs,rfl,d0.o,f5.o,k7,c9.o⟩
    ·have m3:4<S:=by omega
     go_wp2;go_meet;case rel=>exact⟨a6,b4⟩
 case rest=>
  clear a3 a0 j2;obtain⟨a3,a0⟩:=hcut;obtain⟨g2,l1⟩:=aB wc;subst l1;have j2:=a3.o.lt;have m8:=a0.o.gW;have b5:=aa (lq W g2 g a n c bs 4 a0.o.1 (by omega) (by omega));go_wp2_with fail;refine b5.o.mono ?_;rintro e Z ⟨k1,rfl,D⟩;have U:=aa (a0.o.trans D);have Q:=aa (a3.o.grown D.2 (by omega));have j3:=Q.o.lt;have m9:=U.o.gW;clear D b5 a3 a0;cases k1
  ·have h3:=aa (dF W Z g a n c bs 4 U.o.1 (by omega) (by omega));go_wp2_with fail;refine h3.o.mono ?_;rintro e c8 ⟨g1,rfl,k9,D⟩;obtain⟨S,i5⟩:=aB (1+g1);have l0:(1:Int)+(g1:Int)=(S:Int):=(by omega);have m2:1<=S/\S<=4:=(by omega);have b4:=aa ((U.o.trans D).alloc (.cells #[Ud 2,Ud S,.slice none 0 0] 35));have a6:=aa ((Q.o.grown D.2 (by omega)).alloc (.cells #[Ud 2,Ud S,.slice none 0 0] 35));have n6:=(Q.o.grown D.2 (by omega)).lt;obtain⟨q,c6⟩:=aB c8.1.size;have h8:=aa (show bA (c8.alloc (.cells #[Ud 2,Ud S,.slice none 0 0] 35)) q #[Ud 2,Ud S,.slice none 0 0] by rw[c6];exact bA.new _ _ _);have n5:w.1.size<q:=(by omega);have m6:g<q:=by rw[c6];exact(U.o.trans D).gW
   obtain⟨e0,c7⟩:=aB ((c8.alloc (.cells #[Ud 2,Ud S,.slice none 0 0] 35)).alloc (.cells #[] 90));have f0:=aa (show je W w e0 g a n c bs by rw[c7];exact b4.o.alloc _);have g9:=aa (show bA e0 w.1.size #[Ud 0,Ud 0,.slice none 0 0] by rw[c7];exact a6.o.alloc _);have h9:=aa (show bA e0 q #[Ud 2,Ud S,.slice none 0 0] by rw[c7];exact h8.o.alloc _);have h6:=aa (show e0.ownsRow (q+1) 90 3 (.slice (some ⟨q+1,0,none⟩) 0 0) 0 (af []) by
    rw[c7];have:=ew (base:=q+1) (e:=90) (size:=3) (c8.alloc (.cells #[Ud 2,Ud S,.slice none 0 0] 35)) #[] 0 (by rw[c6];simp) (by unfold maxLen;simp) (by simp);rw[show(c8.alloc (.cells #[Ud 2,Ud S,.slice none 0 0] 35)).1.size=q+1 by rw[c6];simp] at this;exact this)
   have h4:=aa (dF W e0 g a n c bs 8 f0.o.1 (by omega) (by omega));have i1:=aa c6;have i2:=aa c7;clear D h3 U Q b4 a6 h8 c7 c6 i5 k9;go_wp2_with fail;rw[<-i2.o,<-i1.o];clear l0 i2 i1;refine h4.o.mono ?_;rintro e o6 ⟨l2,rfl,n3,D⟩;have h2:=aa (f0.o.trans D);have h0:=aa (g9.o.grown D.2 (by omega));have i0:=aa (h9.o.grown D.2 (by omega));have h7:=aa (kK h6.o D.2 (by omega));clear D h4 f0 g9 h9 h6;go_wp2;go_loopw[6,7] (λv i wr=>∃(j m c4 cv:Nat) (xs:List Int),i= Ud j/\v= .slice (some ⟨c4,0,none⟩) m cv/\j+m<=8/\xs.length=m*3/\bv (wr.ownsRow (q+1) 90 3 (.slice (some ⟨c4,0,none⟩) m cv) m (af xs))/\bv (bA wr q #[Ud 2,Ud S,.slice none 0 0])/\bv (bA wr w.1.size #[Ud 0,Ud 0,.slice none 0 0])/\bv (je W w wr g a n c bs)) (λ_ i _=>(intOf i).toNat);exact⟨l2,0,q+1,0,[],rfl,rfl,by omega,rfl,h7,i0,h0,h2⟩;clear h7 i0 h0 h2;obtain⟨j,m,c4,cv,xs,rfl,rfl,n0,d5,b5,c0,e1,b9⟩:=hrel;have f5:=aa d5;have k8:=c0.o.lt;have j4:=b9.o.2.size;have m7:=b9.o.gW;clear d5;by_cases n1:0<j
   ·have m4:(0:Int)<(S:Int):=by omega
    obtain⟨e4,f8⟩:=aB (α:=World->Prop) (λV=>V.cell? ⟨q,1,none⟩=some (Ud S));have c1:=aa (show∀V,e4 V->V.cell? ⟨q,1,none⟩=some (Ud S) fromλV b7=>by rw[f8] at b7;exact b7);have b6:=aa (show∀V,bA V q #[Ud 2,Ud S,.slice none 0 0]->e4 V fromλV k2=>by rw[f8];exact k2.cell 1);have m1:e4 wr.drew:=b6.o _ (c0.o.below aZ.drew);have J:=aa (b9.o.app aZ.drew b1 b2);have O:=aa (c0.o.below aZ.drew);have a2:=aa (e1.o.below aZ.drew);have a1:=aa (show wr.drew.ownsRow (q+1) 90 3 (.slice (some ⟨c4,0,none⟩) m cv) m (af xs) from b5.o);clear f8 b5 c0 e1 b9;go_wp2_with fail;refine dr (S:=e4) 14 (by kernel_rfl) ?_;iterate 4 (refine kG rfl (by kernel_rfl) (λ_ _ _ h=>h) (by rfl) (by assumption) (λV F=>by have F:=c1.o V F;go_split_ands;go_simp;first|done|with_reducible rfl) ?_;try simp only[Act.put,ab,ac,ae])
    (refine jw 5 rfl (by kernel_rfl) (λ_ _ _ h=>h) (by rfl) (by assumption) (λV F=>by have F:=c1.o V F;go_split_ands;go_simp;first|done|with_reducible rfl) ?_;try simp only[Act.put,ab,ac,ae]);(refine jw 6 rfl (by kernel_rfl) (λ_ _ _ h=>h) (by rfl) (by assumption) (λV F=>by have F:=c1.o V F;go_split_ands;go_simp;first|done|with_reducible rfl) ?_;try simp only[Act.put,ab,ac,ae]);(refine jw 7 rfl (by kernel_rfl) (λ_ _ _ h=>h) (by rfl) (by assumption) (λV F=>by have F:=c1.o V F;go_split_ands;go_simp;first|done|with_reducible rfl) ?_;try simp only[Act.put,ab,ac,ae]);(refine jw 9 rfl (by kernel_rfl) (λ_ _ _ h=>h) (by rfl) (by assumption) (λV F=>by have F:=c1.o V F;go_split_ands;go_simp;first|done|with_reducible rfl) ?_;try simp only[Act.put,ab,ac,ae]);have a7:=aa (dF W _ g a n c bs S J.o.1 (by omega) (by omega));refine aY (i:=4) rfl (by kernel_rfl) (by decide) (λK E=> ?_);go_simp;go_at_call 34;refine a7.o.mono ?_;rintro e g3 ⟨g4,rfl,d4,I⟩;have a8:=aa (J.o.trans I);have Y:=aa (O.o.grown I.2 (by omega));have b0:=aa (a2.o.grown I.2 (by omega));have a9:=aa (kK a1.o I.2 (by omega));have d2:=b6.o _ Y.o;clear I d4 a7 J O a2 a1;go_wp2_with fail;refine E.out _ _ d2 ?_;clear E K;try simp only[Act.put,ab,ac,ae]
    obtain⟨J,O,a2,a1⟩:=And.intro a8 (And.intro Y (And.intro b0 a9));clear a8 Y b0 a9;have a7:=aa (dF W _ g a n c bs S J.o.1 (by omega) (by omega));refine aY (i:=8) rfl (by kernel_rfl) (by decide) (λK E=> ?_);go_simp;go_at_call 34;refine a7.o.mono ?_;rintro e o7 ⟨g5,rfl,d4,I⟩;have a8:=aa (J.o.trans I);have Y:=aa (O.o.grown I.2 (by omega));have b0:=aa (a2.o.grown I.2 (by omega));have a9:=aa (kK a1.o I.2 (by omega));have d2:=b6.o _ Y.o;clear I d4 a7 J O a2 a1;go_wp2_with fail;refine E.out _ _ d2 ?_;clear E K;try simp only[Act.put,ab,ac,ae]
    obtain⟨J,O,a2,a1⟩:=And.intro a8 (And.intro Y (And.intro b0 a9));clear a8 Y b0 a9;have a7:=aa (dF W _ g a n c bs 2 J.o.1 (by omega) (by omega));refine aY (i:=10) rfl (by kernel_rfl) (by decide) (λK E=> ?_);go_simp;go_at_call 34;refine a7.o.mono ?_;rintro e o8 ⟨g6,rfl,d4,I⟩;have a8:=aa (J.o.trans I);have Y:=aa (O.o.grown I.2 (by omega));have b0:=aa (a2.o.grown I.2 (by omega));have a9:=aa (kK a1.o I.2 (by omega));have d2:=b6.o _ Y.o;clear I d4 a7 J O a2 a1;go_wp2_with fail;refine E.out _ _ d2 ?_;clear E K;try simp only[Act.put,ab,ac,ae]
    obtain⟨J,O,a2,a1⟩:=And.intro a8 (And.intro Y (And.intro b0 a9));clear a8 Y b0 a9;have m5:=b6.o _ O.o;(refine jw 11 rfl (by kernel_rfl) (λ_ _ _ h=>h) (by rfl) (by assumption) (λV F=>by have F:=c1.o V F;go_split_ands;go_simp;first|done|with_reducible rfl) ?_;try simp only[Act.put,ab,ac,ae]);have k4:=b6.o _ (O.o.alloc (.cells #[Ud g4,Ud g5,Ud g6] 90));refine aY (i:=12) rfl (by kernel_rfl) (by decide) (λK E=> ?_);go_simp;refine E.out _ _ k4 ?_;clear E K;try simp only[Act.put,ab,ac,ae]
    refine aY (i:=13) rfl (by kernel_rfl) (by decide) (λK E=> ?_);refine kJ (by rfl) _ _ 33 (by rfl) (q+1) 90 underlying33 pU (.slice (some ⟨c4,0,none⟩) m cv) m _ g4 g5 g6 a1.o (by rfl) (by rfl) (by omega) O.o.lt ?_;intro a5 a4 o9 j1 e8 k5;have f7:=O.o.at_ e8 (cG q);have e3:=aa f7;have d1:=aa (a2.o.at_ e8 (by omega));have e2:=aa (J.o.app (e8.mono (show w.1.size<=q+1 by omega)) b1 b2);have k3:=b6.o _ f7;have f1:=aa (show(xs++[(g4:Int),(g5:Int),(g6:Int)]).length=(m+1)*3 by rw[az,f5.o];simp;omega);have j7:=aa j1;clear j1 e8 k5 f7;refine E.out _ _ k3 ?_;clear E K;try simp only[Act.put,ab,ac,ae]
    refine cU rfl (by kernel_rfl) (by kernel_rfl) (λK E=> ?_);go_simp;refine E.out _ _ ?_;clear E K;go_wp2;go_roundw;exact⟨j-1,m+1,a5,a4,_,by go_num,rfl,by omega,f1.o,aa (by rw[kQ];exact j7.o),e3,d1,e2⟩;simp[intOf]<;>omega
   ·obtain rfl:j=0:=by omega
    have d3:=xx b5.o (by omega);have f3:=aa (Do (some ⟨c4,0,none⟩) m cv xs wr d3 (by omega));unfold zo at f3;clear d3;go_wp2_with fail;refine f3.o.mono ?_;rintro e g3 ⟨a5,a4,b3,m0,rfl,j0,i9,n2,e7⟩;have e3:=aa (c0.o.below e7);have d1:=aa (e1.o.below e7);have e2:=aa (b9.o.app (e7.mono j4) b1 b2);obtain⟨⟨g1,n7,n8⟩,n9,o4,o5⟩:=e3.o.c3;have j8:=aa (e3.o.set2 (.slice (some ⟨a5,0,none⟩) b3 a4));have i7:=d1.o.other (i:=2) (q:=q) (by omega) (.slice (some ⟨a5,0,none⟩) b3 a4);obtain⟨⟨l4,l5,l6⟩,l7,l8,l9⟩:=j8.o.c3;obtain⟨⟨d7,d8,d9⟩,u0,u1,u2⟩:=i7.c3;have d6:=d1.o.lt;have i4:=pF (cE j0 k8 2 (.slice (some ⟨a5,0,none⟩) b3 a4)) (show w.1.size<wr.1.size by omega) (Ud 2) (Ud S) (.slice (some ⟨a5,0,none⟩) b3 a4);have d0:=aa (aT i4 j4);have c9:=aa ((e2.o.app (show Below w.1.size g3 (g3.setCell ⟨q,2,none⟩ (.slice (some ⟨a5,0,none⟩) b3 a4)) from aZ.setCell (show w.1.size<=q by omega) _) b1 b2).app (dM (aV w.1.size _) aQ (Ud 2) (Ud S) (.slice (some ⟨a5,0,none⟩) b3 a4)) b1 b2);have f1:=aa i9;clear j0 i9 e7 i4 i7 d1 c0 b5 e1 f3 b9 e2;go_wp2;refine bodyPost_ret (v:=.agg #[Ud 2,Ud S,.slice (some (Addr.mk a5 0 none)) b3 a4]) (by simp[results,results105,go_sem,d7,d8,d9,d6]) rfl ?_;exact⟨_,_,_,_,b3,m0,rfl,d0.o,f1.o,by omega,c9.o⟩
  ·obtain⟨⟨d7,d8,d9⟩,u0,u1,u2⟩:=Q.o.c3;have d6:=Q.o.lt;obtain⟨V,b7⟩:=aB (((Z.setCell ⟨w.1.size,0,none⟩ (Ud 2)).setCell ⟨w.1.size,1,none⟩ (Ud 2)).setCell ⟨w.1.size,2,none⟩ (.slice (some ⟨Z.1.size,0,none⟩) 3 3));have i6:V.1.size=Z.1.size:=by rw[b7];simp
   have e5:=ew (base:=w.1.size) (e:=90) (size:=3) V #[Ud 0,Ud 0,Ud 0,Ud 0,Ud 1,Ud 1,Ud 1,Ud 0,Ud 1] 3 (by omega) (by unfold maxLen;simp) (by simp);rw[i6] at e5;have i3:je W w V g a n c bs:=by rw[b7];exact U.o.app (dM (aV w.1.size _) aQ (Ud 2) (Ud 2) (.slice (some ⟨Z.1.size,0,none⟩) 3 3)) b1 b2
   have f6:=i3.alloc (.cells #[Ud 0,Ud 0,Ud 0,Ud 0,Ud 1,Ud 1,Ud 1,Ud 0,Ud 1] 90);rw[b7] at e5 f6;have d0:=aa e5;have c9:=aa f6;clear b7 i6 e5 i3 f6 U Q;go_wp2;refine bodyPost_ret (v:=.agg #[Ud 2,Ud 2,.slice (some (Addr.mk Z.1.size 0 none)) 3 3]) (by simp[results,results105,go_sem,d7,d8,d9,d6]) rfl ?_;exact⟨_,_,_,_,3,[0,0,0,0,1,1,1,0,1],rfl,d0.o,rfl,by omega,c9.o⟩
end Go.Proofs.YtbdlbckeffakjaaGreatDoor
