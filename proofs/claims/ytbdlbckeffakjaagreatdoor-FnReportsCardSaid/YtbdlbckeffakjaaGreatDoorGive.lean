/- The letter that a code gives to a word: both functions. Conditions: a word of the code's letters, at most 4 places, the code's letters for each. -/
import Derived.Test.YtbdlbckeffakjaaGreatDoorCmpI
namespace Go.Proofs.YtbdlbckeffakjaaGreatDoor
set_option maxHeartbeats 8000000
set_option maxRecDepth 100000
open Go.Proofs.Tryz Go.RowKit
theorem BZ(a e0)(n c m h0)(t)(C)(w)(e1:bZ w a n t)(e4:cS t n n)(b3:aO w e0 m (eO C))(e2:∀i∈C,i<n)(i3:C.length<=9):
 Calls prog 205 #[.slice a n c,.slice e0 m h0] w (cK (dn t C C) w):=by
 have g8:=aa (λ(i:Nat) (hi:i<n)=>fQ e1 e4 hi);have g1:=aa b3;have c8:=aa (λ(i x:Nat) (I:C[i]? =some x)=>e2 x (aj I));have b1:C.length=m:=by have:=b3.len;rw[vM] at this;exact this
 have g6:=aa b3;have g7:=c8;have c2:=b1;have a9:=aa (λ(i x:Nat) (I:C[i]? =some x)=>oG (t:=t) (C:=C) I);have d7:=aa (λ(i:Nat) (hi:i<=m)=>qB (t:=t) (R:=C) (C:=C) (i:=i) (by omega));have d1:=aa (λ(x j y:Nat) (Y:C[j]? =some y)=>qz (t:=t) (i:=x) Y);have b6:=aa (λ(x j:Nat) (h9:j<=m)=>sZ (t:=t) (C:=C) (i:=x) (j:=j) (by omega));have d3:=aa (λx=>qy t C x);have a8:=aa (show iv t C C m=dn t C C by rw[<-c2];exact qC t C C);rw[b1] at a9;have g4:=aa b1;have g3:=aa c2;have d8:=aa (oF t C C);have j6:m<=9:=(by omega);have j5:m<=9:=(by omega);obtain⟨d9,e5⟩:=aB (iv t C C);rw[<-e5] at a9 d7 a8 d8;obtain⟨b0,e3⟩:=aB (nP t C);rw[<-e3] at a9 d1 b6 d3;obtain⟨g0,c1⟩:=aB (dn t C C);rw[<-c1] at a8;rw[<-c1];have c9:=aa (show(w.alloc (.cells #[] 37)).ownsRow w.1.size 37 1 (.slice (some ⟨w.1.size,0,none⟩) 0 0) 0 [] from bd #[] _ rfl aQ (by unfold maxLen;simp));have d6:=aa (show bS 3 (w.alloc (.cells #[] 37)) w.1.size [] (d9 0) from by rw[d8.o];exact bS.nil _ _ _);have c6:=aa (show Below w.1.size w (w.alloc (.cells #[] 37)) from aZ.alloc aQ _);clear e1 e4 b3 e2 b1 c2 e5 e3 c1 i3;go_enter func205,ntmps205;go_wp2;go_loopw[5,14] (λv i wr=>∃(p go a1:Nat) (a5:List Value),p<=m/\i= Ud p/\v= .slice (some ⟨go,0,none⟩) p a1/\bv (wr.ownsRow w.1.size 37 1 (.slice (some ⟨go,0,none⟩) p a1) p a5)/\bv (bS 3 wr w.1.size a5 (d9 p))/\bv (Below w.1.size w wr)) (λ_ i _=>m-(intOf i).toNat);exact⟨0,w.1.size,0,[],by omega,rfl,rfl,c9,d6,c6⟩;clear c9 d6 c6;obtain⟨p,go,a1,a5,j7,rfl,rfl,d0,d5,Z⟩:=hrel;obtain⟨h,i6⟩:=aB wr;subst i6
 by_cases i2:p<m
 ·have j8:(p:Int)<(m:Int):=by omega
  obtain⟨x,I⟩:=aE (l:=C) (n:=p) (by rw[g3.o];exact i2);have i8:=g7.o p x I;obtain⟨a0,a4,rfl,e9,f3⟩:=g6.o.at_ (by omega);have f4:=f3 p _ (ll I);have h6:=(Z.o.cell (p:=⟨a0,a4+p,none⟩) e9).trans f4;have g9:=aa (a9.o p x I);have c4:=Z.o.size;have e8:Below h.1.size h (h.alloc (.cells #[] 3)):=aZ.alloc aQ _;have J:=aa (show(h.alloc (.cells #[] 3)).ownsRow h.1.size 3 1 (.slice (some ⟨h.1.size,0,none⟩) 0 0) 0 (af (b0 x 0)) from by rw[d3.o];exact bd (w:=h) (base:=h.1.size) (e:=3) #[] [] rfl aQ (by unfold maxLen;simp));have c7:=aa e8;obtain⟨S,h1⟩:=aB h.1.size;have D:=aa h1;clear e8 I f3;go_wp2;go_loopw[8,21] (λv i O=>∃(j E Q:Nat),j<=m/\i= Ud j/\v= .slice (some ⟨E,0,none⟩) j Q/\bv (O.ownsRow S 3 1 (.slice (some ⟨E,0,none⟩) j Q) j (af (b0 x j)))/\bv (Below S h O)) (λ_ i _=>m-(intOf i).toNat);exact⟨0,S,0,by omega,rfl,by rw[D.o],by rw[D.o];exact J,by rw[D.o];exact c7⟩;clear J c7 h6;obtain⟨j,E,Q,h9,rfl,rfl,J,a6⟩:=hrel;obtain⟨O,i7⟩:=aB wr;subst i7;by_cases i1:j<m
  ·have j4:(j:Int)<(m:Int):=by omega
   obtain⟨y,Y⟩:=aE (l:=C) (n:=j) (by rw[g4.o];exact i1);have k4:=c8.o j y Y;obtain⟨j3,k5,f5,h5,f2⟩:=g1.o.at_ (by omega);obtain⟨b,f8,a',c',r,rfl,h3,f0,c3,i4,e6⟩:=g8.o x i8;obtain⟨b8,c5,rfl,h4,f1⟩:=c3.at_ (by omega);have j9:r.length=n:=by simpa[af] using c3.len
   have h2:w.1.size<=S:=by rw[D.o];exact c4
   have a7:=aa (λ(V:World) (U:Below S h V)=>show Below w.1.size w V from Z.o.trans (U.mono h2));simp only[aI,cA,and_true] at f5;obtain⟨rfl,rfl⟩:=f5;have b5:=aa (λ(V:World) (U:Below S h V)=>show V.cell? ⟨a0,a4+p,none⟩=some (Ud (x:Int))/\V.cell? ⟨a0,a4+j,none⟩=some (Ud (y:Int))/\V.cell? ⟨b,f8+x,none⟩=some (.slice (some ⟨b8,c5,none⟩) n c')/\V.cell? ⟨b8,c5+y,none⟩=some (Ud (cB t x y)) from
    ⟨((a7.o V U).cell (p:=⟨a0,a4+p,none⟩) e9).trans f4,((a7.o V U).cell (p:=⟨a0,a4+j,none⟩) h5).trans (f2 j _ (ll Y)),((a7.o V U).cell (p:=⟨b,f8+x,none⟩) h3).trans f0,((a7.o V U).cell (p:=⟨b8,c5+y,none⟩) h4).trans ((f1 y (Ud (mP r y)) (aP (dR (by omega)))).trans (by rw[e6 y]))⟩)
   obtain⟨j0,j1,j2,f9⟩:=b5.o _ a6.o;have d2:=aa (d1.o x j y Y);obtain⟨u,F⟩:=aB (cB t x y);rw[<-F] at b5 d2 f9;have k0:(x:Int)<(n:Int):=(by omega);have k2:(y:Int)<(n:Int):=(by omega);have f7:=a6.o.size;have i5:S<=O.1.size:=by rw[D.o];exact f7
   have k1:(0:Int)<=(x:Int):=(by omega);have k3:(0:Int)<=(y:Int):=(by omega);clear F f0 f1 f2 c3 i4 e6 Y;have h8:=(J.o.lt E rfl).1;go_wp2_with(first|(at_builtin;go_must(refine aX rfl _ _ 37 rfl S 3 (Ud 0) 8 underlying37 bK rfl E Q j (af (b0 x j)) (J.o.alloc _) rfl O.1.size 0 1 1 [Ud u] rfl rfl (cz rfl) (by intro u F;simp at F;subst F;rfl) (by omega) (by unfold maxLen;omega) (by simp;omega) ?_);intro c0 b9 i9 a3 W f6 i0));have e7:=(a6.o.alloc i5 (.cells #[Ud u] 3)).grown W (by simp;omega) (by rintro k ⟨⟩;exact h8);have b7:=aa a3;have b4:=aa e7;clear a3 W f6 e7 j0 j1 j2 f9 b5;go_roundw;exact⟨j+1,c0,b9,by omega,by go_num,rfl,aa (by rw[d2.o];exact b7.o),b4⟩;simp[intOf];omega
  ·obtain rfl:j=m:=by omega
   have a2:Below h.1.size h O:=by rw[<-D.o];exact a6.o
   have h7:h.1.size<=E:=by rw[<-D.o];exact(J.o.lt E rfl).1
   have b2:=ai d0.o a2;have f7:=a2.size;have d4:=aa (d5.o.moreAt (r:=b0 x j) (c:=Q) (eU a2) h7 (by rw[b6.o x j aQ];exact aT J.o (by rw[D.o];exact c4)));rw[b6.o x j aQ] at d4;go_wp2_with(first|(at_builtin;go_must(refine aX rfl _ _ 24 rfl w.1.size 37 (.slice none 0 0) 24 underlying24 eS rfl go a1 p a5 (b2.alloc _) rfl O.1.size 0 1 1 [.slice (some ⟨E,0,none⟩) j Q] rfl rfl (cz rfl) (by intro u F;simp at F;subst F;rfl) (by omega) (by unfold maxLen;omega) (by simp;omega) ?_);intro c0 b9 i9 a3 W f6 i0));have b7:=aa ((d4.o.below (aZ.alloc aQ _)).kept (b2.alloc _) (by decide) W);have g5:=aa a3;have b4:=aa (((Z.o.trans (a2.mono c4)).alloc (by omega) _).grown W (by simp;omega) (by rintro k ⟨⟩;exact(b2.lt go rfl).1));clear a3 W b2 a2;go_roundw;exact⟨p+1,c0,b9,_,by omega,by go_num,rfl,g5,aa (by rw[g9.o];exact b7.o),b4⟩;simp[intOf];omega
 ·obtain rfl:p=m:=by omega
  have g2:=aa (show ct 37 3 h w.1.size (.slice (some ⟨go,0,none⟩) p a1) g0 from⟨a5,by rw[<-a8.o,d7.o p aQ];exact d0.o,by rw[<-a8.o];exact d5.o⟩);go_wp2;go_ret;exact⟨_,rfl,g2.o,Z.o⟩
section
variable {P : Program} {ops : Array Oper} {Q : Exit → Act → World → Prop} {md : Region.Mode} {S : World → Prop} {n : Nat}
def jy(P:Program)(E:Region.Mode)(D:Array Oper)(Q:Exit->Act->World->Prop)(S:World->Prop)(n:Nat):Nat->Array Bool->Act->World->Prop
 |0,h,a,w=>Region.ready E D h=[]/\Q .normal a w
 |fuel+1,h,a,w=>
  (Region.ready E D h=[]->Q .normal a w)/\
  ∀i∈Region.ready E D h,wpOp P D Q i (λa' w'=>(i≠n->S w')/\jy P E D Q S n fuel (h.setIfInBounds i true) a' w') a w
theorem zr:∀(D:Nat) (E:Array Bool) (a:Act) (w:World),jy P md ops Q S n D E a w->wpAny P md ops Q D E a w
 |0,_,_,_,h=>h
 |D+1,_,_,_,h=>⟨h.1,λi hi=>wpOp_mono (λa' w' F=>zr D _ a' w' F.2) (h.2 i hi)⟩
theorem Ea{i:Nat}{I:Oper}{v:Value}(hi:ops[i]? =some I)(a8:∀(j:Nat) (o:Oper) cs b,ops[j]? =some o->o.op≠ .select cs b)
 (b1:∀c a w,Q (.panic c) (a.put I.dst v) w->Q (.panic c) a w)
 (c5:Region.sinkB md ops n=true)(b4:Region.chainB md ops n=true)(c2:n<ops.size)(b8:i<n):
 ∀(U:Nat) (D:Array Bool) (a:Act) (w:World),HeadInv md ops n D->
  (∀j J,ops[j]? =some J->j≠i->D.getD j true=false->(∀e∈J.after,Region.binds md e=true->e.on≠i)->I.apart ops J=true)->
  i∈Region.ready md ops D->YieldsIf P ops S I v a->S w->
  jy P md ops Q S n U (D.setIfInBounds i true) (a.put I.dst v) w->jy P md ops Q S n (U+1) D a w:=by
 intro U;induction U with
 |zero=>
  intro D a w _ _ F a1 W H;refine⟨λh=>(by rw[h] at F;cases F),λj O=> ?_⟩;by_cases E:j=i
  ·subst E;exact a1.wpOp hi W ⟨λ_=>W,H⟩
  ·have:=ready_mono O E;rw[H.1] at this;cases this
 |succ U ih=>
  intro D a w a9 a5 F a1 W H;have Y:=(mem_ready.1 F).1;refine⟨λh=>(by rw[h] at F;cases F),λj O=> ?_⟩;by_cases E:j=i
  ·subst E;exact a1.wpOp hi W ⟨λ_=>W,H⟩
  ·have b9:j<n:=by
    rcases eE j n with h|h
    ·exact h
    ·exact absurd O (tail_waits c5 b4 c2 a9 _ i rfl b8 Y j h)
   have a0:=H.2 j (ready_mono O E);obtain⟨a7,J,a3,b2⟩:=mem_ready.1 O;have c4:∀e∈J.after,Region.binds md e=true->e.on≠i:=λe b5 b3 b6=>by
    have a0:=b2 e b5 b3;rw[b6,getD_both Y] at a0;cases a0
   have b0:=wpOp_putIf a3 (a5 j J a3 E a7 c4) (λcs b=>a8 i I cs b hi) (λcs b=>a8 j J cs b a3) b1 a1 a0;have b7:∀k Z,ops[k]? =some Z->k≠i->(D.setIfInBounds j true).getD k true=false->
    (∀e∈Z.after,Region.binds md e=true->e.on≠i)->I.apart ops Z=true:=λk Z c0 c1 Y c3=>by
    refine a5 k Z c0 c1 ?_ c3;by_cases a6:j=k
    ·subst a6;exact a7
    ·rw[getD_set_ne true a6] at Y;exact Y
   refine wpOp_mono (λa' w' a2=> ?_) b0;have a4:=a2.2.1 (by omega);refine⟨λ_=>a4,ih (D.setIfInBounds j true) a' w' (a9.set O b9) b7 (ready_mono F (Ne.symm E)) a2.1 a4 ?_⟩;rw[Array.setIfInBounds_comm _ _ E];exact a2.2.2
theorem FA{i:Nat}{E:Oper}{v:Value}{F:Nat}{D:Array Bool}{a:Act}{w:World}(hi:ops[i]? =some E)
 (a4:Region.noSelect ops=true)(J:(Region.sinkB md ops n&&Region.chainB md ops n&&decide (n<ops.size)&&decide (i<n))=true)
 (a2:Region.free md ops D i=true)(a3:(Region.ready md ops D).contains i=true)
 (a0:∀c a w,Q (.panic c) (a.put E.dst v) w->Q (.panic c) a w)(a5:YieldsIf P ops S E v a)(a1:S w)
 (h:HeadInv md ops n (D.setIfInBounds i true)->jy P md ops Q S n F (D.setIfInBounds i true) (a.put E.dst v) w):HeadInv md ops n D->jy P md ops Q S n (F+1) D a w:=λU=>by
 simp only[aC,decide_eq_true_eq] at J;obtain⟨⟨⟨W,Y⟩,Z⟩,I⟩:=J;have O:i∈Region.ready md ops D:=by simpa using a3
 exact Ea hi (Region.noSelect_spec a4) a0 W Y Z I F D a w U (Region.free_spec hi a2) O a5 a1 (h (U.set O I))
theorem jw(i:Nat){F:Oper}{v:Value}{I:Nat}{D:Array Bool}{a:Act}{w:World}(hi:ops[i]? =some F)
 (E:(Region.noSelect ops&&(Region.sinkB md ops n&&Region.chainB md ops n&&decide (n<ops.size)&&decide (i<n))&&Region.free md ops D i&&(Region.ready md ops D).contains i)=true)
 (J:∀c a w,Q (.panic c) (a.put F.dst v) w->Q (.panic c) a w)(U:Region.wanted F (yielded ops a.tmps)=true)(O:S w)(W:∀V,S V->(execOp a.eval F).run P V= .ok (.value v) V)
 (h:HeadInv md ops n (D.setIfInBounds i true)->jy P md ops Q S n I (D.setIfInBounds i true) (a.put F.dst v) w):HeadInv md ops n D->jy P md ops Q S n (I+1) D a w:=by
 simp only[aC] at E;exact FA hi E.1.1.1 (by simp only[aC];exact E.1.1.2) E.1.2 E.2 J (Or.inl ⟨U,W⟩) O h
theorem kG{F:Oper}{v:Value}{D:Nat}{E:Array Bool}{a:Act}{w:World}(hi:ops[ops.size-(D+1)]? =some F)
 (O:(Region.noSelect ops&&(Region.sinkB md ops n&&Region.chainB md ops n&&decide (n<ops.size)&&decide (ops.size-(D+1)<n))&&Region.free md ops E (ops.size-(D+1))&&(Region.ready md ops E).contains (ops.size-(D+1)))=true)
 (I:∀c a w,Q (.panic c) (a.put F.dst v) w->Q (.panic c) a w)(U:Region.wanted F (yielded ops a.tmps)=true)(J:S w)(W:∀V,S V->(execOp a.eval F).run P V= .ok (.value v) V)
 (h:HeadInv md ops n (E.setIfInBounds (ops.size-(D+1)) true)->jy P md ops Q S n D (E.setIfInBounds (ops.size-(D+1)) true) (a.put F.dst v) w):HeadInv md ops n E->jy P md ops Q S n (D+1) E a w:=
 jw _ hi O I U J W h
theorem aY{i:Nat}{o:Oper}{I:Nat}{D:Array Bool}{a:Act}{w:World}(a0:ops[i]? =some o)(F:Region.ready md ops D=[i])(Z:i<n)
 (h:∀E:Act->World->Prop,Shut (∀a w,S w->(HeadInv md ops n (D.setIfInBounds i true)->jy P md ops Q S n I (D.setIfInBounds i true) a w)->E a w)->if Region.wanted o (yielded ops a.tmps)=true then Oper.wp P o a w E Q else E (a.put o.dst undef) w):
 HeadInv md ops n D->jy P md ops Q S n (I+1) D a w:=λa1=>by
 have hi:i∈Region.ready md ops D:=by rw[F];exact eH.2 rfl
 refine⟨λJ=>(by rw[F] at J;cases J),λj O=> ?_⟩;rw[F] at O;obtain rfl:=eH.1 O;exact wpOp_step a0 (λE U=>h E (λa w W Y=>U a w ⟨λ_=>W,Y (a1.set hi Z)⟩))
theorem cU{o:Oper}{F:Nat}{E:Array Bool}{a:Act}{w:World}(Z:ops[n]? =some o)(W:Region.ready md ops E=[n])(J:Region.ready md ops (E.setIfInBounds n true)=[])
 (h:∀D:Act->World->Prop,Shut (∀a w,Q .normal a w->D a w)->if Region.wanted o (yielded ops a.tmps)=true then Oper.wp P o a w D Q else D (a.put o.dst undef) w):
 HeadInv md ops n E->jy P md ops Q S n (F+1) E a w:=λ_=>by
 refine⟨λI=>(by rw[W] at I;cases I),λj O=> ?_⟩;rw[W] at O;obtain rfl:=eH.1 O;refine wpOp_step Z (λD Y=>h D (λa w U=>Y a w ⟨λh=>absurd rfl h,?_⟩));cases F with
 |zero=>exact⟨J,U⟩
 |succ f=>exact⟨λ_=>U,by rw[J];simp⟩
theorem dr{id:Nat}{a:Act}{w:World}(n:Nat)(E:P.follows .mixedOrders=true)
 (h:HeadInv .any ops n (Array.replicate ops.size false)->jy P .any ops Q S n ops.size (Array.replicate ops.size false) a w.drew):(Code.region id ops true).wp P Q a w:=by
 have I:HeadInv .any ops n (Array.replicate ops.size false):=
  ⟨by simp,λj J _ D=>(by rw[getD_replicate_false] at D;cases D),λt _ F=>getD_in (by simpa using F) (getD_replicate_false _ _)⟩
 exact wp_region_any E (zr _ _ _ _ (h I))
end
theorem yN(a)(n c)(M)(w)(h:bZ w a n M)(a8:cS M n n)(c5:n<=4)(c2:Bd 9 M):
 Calls prog 119 #[.slice a n c] w λe w'=>∃g,e= .returned (.slice (some ⟨g,0,none⟩) (n+1) (n+1))/\aO w' (some ⟨g,0,none⟩) (n+1) (af (BD n (uH M n) (n+1) 0))/\Below w.1.size w w':=by
 have j5:=aa (λ(k:Nat) (I:k<=n) (V:World)=>sn n k V c5 (by omega));have k8:=aa (λ(k:Nat) (I:k<=n) (g7:Option Addr) (l5:Nat) (C:List Nat) (V:World) (E:Below w.1.size w V) (m7:aO V g7 k (eO C)) (l7:∀i∈C,i<n) (b1:C.length=k)=>(BZ a g7 n c k l5 M C V (by
  obtain⟨a2,a4,d5,l6⟩:=h;exact⟨a2,a4.below E aQ,d5,λi x r b2 m6=>let⟨a',c',e,q⟩:=l6 i x r b2 m6;⟨a',c',e,q.below E aQ⟩⟩) a8 m7 l7 (by omega)).mono (R':=λe w'=>∃F O,e= .returned (.slice F k O)/\gU w' F k (dn M C C)/\Below V.1.size V w') (by
  rintro e w' ⟨v,rfl,a9,m2⟩;obtain⟨F,O,rfl,_,e9⟩:=fH a9 (show cS (dn M C C) k k by rw[<-b1];exact fc M C C) (by omega);exact⟨F,O,rfl,e9,m2⟩))
 have j9:=aa (λ(k:Nat) (I:k<=n) (F:Option Addr) (O:Nat) (C:List Nat) (V:World) (b1:C.length=k) (b8:∀i∈C,i<n) (e8:gU V F k (dn M C C))=>show Calls prog 204 #[.slice F k O] V λe w'=>e= .returned (Ud (rl M C))/\Below V.1.size V w' from by
  have:=gH 9 (by omega) (by omega) k (by omega) (dn M C C) F O V e8 (by rw[<-b1];exact fc M C C) (lU a8 c2 b8 b8);unfold rl;rw[b1];exact this)
 have j6:=aa (λ(k:Nat) (I:k<=n) (C:List Nat) (b1:C.length=k) (b8:∀i∈C,i<n)=>KT (L:=C) c5 a8 c2 (by omega) b8);have g2:=aa (λk=>show rO (k+1)= -rO k from rfl);have l3:=aa (λk=>rP n k (2^n));have p0:=Eq n c5;have l1:=aa (λ(k:Nat) (I:k<=n)=>zP n (by omega) k (by omega) I);have k2:=aa (λ(k i:Nat) (hi:i<(dY n k (2^n)).length)=>show∃L,(iX n k (2^n))[i]? =some (sf L)/\L.length=k/\(∀x∈L,x<n)/\rW M n k (i+1)=rW M n k i+rO k*rl M L from by
  obtain⟨L,d8⟩:=aE hi;obtain⟨a4,d5⟩:=nw (aj d8);exact⟨L,wX d8,a4,d5,Mh d8⟩)
 have l0:=aa (λ(k i:Nat) (I:k<=n)=>QV (i:=i) c5 a8 c2 I);have d1:=aa (λk=>Mg M n k);have f9:=aa (λ(k:Nat)=>OB M n k);obtain⟨g,a9⟩:=aB (uH M n);rw[<-a9] at f9;rw[<-a9];have j2:=aa (λ(k:Nat) (u:Int) (I:k<=n)=>SR g u I);have j4:=aa (λ(k:Nat) (u J:Int) (I:k<=n)=>Rm g u J I);have j3:=aa (λ(k:Nat) (I:k<=n)=>OX g I);obtain⟨N,a7⟩:=aB (n+1);have n9:N<=9:=(by omega);have o8:n<N:=(by omega);have p9:IntKind.i64.wrap ((n:Int)+1)=(N:Int):=by rw[au _ (by omega)];omega
 have l4:=aa (show BD n g 0 0=List.replicate N 0 from by rw[OW,a7]);have n7:=aa (λk u=>show(BD n g k u).length=N from by rw[ze,a7]);have k5:=aa a7;rw[<-a7];clear a7;obtain⟨n5,n0,n2,n3,n4⟩:=info_parts bK;clear h a8 c2 a9;go_enter func119,ntmps119;go_wp2_with(first|(at_make;refine wpList_make_full _ rfl _ _ 37 rfl w.1.size 3 n5 (Ud 0) 1 underlying37 n0 n2 n3 .i64 .i64 _ _ N rfl rfl rfl rfl (by rw[n4];omega) (by unfold maxLen;omega) aQ ?_;intro f1 e3 h7));have b6:=aa (show f1.ownsRow w.1.size 3 1 (.slice (some ⟨w.1.size,0,none⟩) N N) N (af (BD n g 0 (rW M n 0 0))) from by rw[d1.o,l4.o,<-kC N];exact e3);have f4:=aa (show Below w.1.size w f1 from aZ.grown h7 aQ (by intro k h;cases h));have e7:w.1.size<f1.1.size:=(e3.lt _ rfl).2;obtain⟨go,e1⟩:=aB w.1.size;have m3:w.1.size<=go:=(by omega);rw[<-e1] at e7 b6;rw[<-e1];clear e3 h7 e1;go_loopw[5,6] (λs i wr=>∃k:Nat,k<=N/\i= Ud k/\s= Ud (rO k)/\bv (wr.ownsRow go 3 1 (.slice (some ⟨go,0,none⟩) N N) N (af (BD n g k 0)))/\bv (Below w.1.size w wr)/\go<wr.1.size) (λ_ i _=>N-(intOf i).toNat);exact⟨0,by omega,rfl,rfl,by rw[d1.o] at b6;exact b6,f4,e7⟩;clear b6 f4 e7;obtain⟨k,I,rfl,rfl,d0,b3,e2⟩:=hrel;obtain⟨f2,n1⟩:=aB wr;subst n1;by_cases U:k<=n
 ·have m4:(k:Int)<=(n:Int):=by omega
  have c9:=aa (j5.o k U f2);have k9:=aa (k8.o k U);have k0:=aa (j9.o k U);have j7:=aa (j6.o k U);have b5:=aa (k2.o k);have f8:=aa (λi=>l0.o k i U);have k6:=aa (j3.o k U);have f3:=aa (λu=>j2.o k u U);have g1:=aa (λu J=>j4.o k u J U);have g0:=aa (f9.o k);have m9:=l3.o k;have h9:=l1.o k U;have d2:=g2;have d2:=aa (g2.o k);have i2:=oB k;obtain⟨D,d6⟩:=aB ((dY n k (2^n)).length);have b4:=aa (show D=(iX n k (2^n)).length by rw[wW];exact d6);rw[<-d6] at b5 g0 m9 h9;obtain⟨g3,h0⟩:=aB (iX n k (2^n));rw[<-h0] at c9 b5 b4;obtain⟨s,e6⟩:=aB (rO k);rw[<-e6] at b5 d2 i2;rw[<-e6];clear d6 h0 e6;obtain⟨q,i0⟩:=aB (n-k);have m5:(n:Int)-(k:Int)=(q:Int):=(by omega);have q0:IntKind.i64.wrap ((n:Int)-(k:Int))=(q:Int):=by rw[m5];exact au _ (by omega)
  have p2:q<N:=(by omega);have p3:(q:Int)<(N:Int):=(by omega);have q1:IntKind.i64.wrap (q:Int)=(q:Int):=au _ (by omega);rw[<-i0] at f3 g1;clear i0;have p7:IntKind.i64.wrap (-s)= -s:=au _ (by omega);go_wp2_with(go_at_call 203;refine c9.o.mono ?_;rintro e n6 ⟨q2,rfl,⟨a2,c6,e4⟩,c1⟩;obtain⟨g8,g5,rfl,p5,_⟩:=cT ⟨a2,c6,e4⟩ (n:=D) (by rw[b4.o]) h9);rw[<-b4.o] at c6;have c7:=c1.size;have Y:=aa (ai d0.o c1);have a3:=aa (c6);have Z:=aa e4;have W:=aa (b3.o.trans (c1.mono b3.o.size));have b0:go<n6.1.size:=(by omega);have i4:=d1.o k;obtain⟨S,h1⟩:=aB f2.1.size;rw[<-h1] at a3 Z e2 c7;clear d0 c6 e4 c1 b3 h1 c9;go_loopw[23] (λi wr=>∃p:Nat,p<=D/\i= Ud p/\bv (wr.ownsRow go 3 1 (.slice (some ⟨go,0,none⟩) N N) N (af (BD n g k (rW M n k p))))/\bv (wr.ownsRow S 37 1 (.slice (some ⟨g8,0,none⟩) D g5) D a2)/\bv (bS 3 wr S a2 g3)/\bv (Below w.1.size w wr)/\go<wr.1.size/\S<=wr.1.size) (λi _=>D-(intOf i).toNat);exact⟨0,by omega,rfl,by rw[i4];exact Y,a3,Z,W,b0,c7⟩;clear Y a3 Z W b0 c7 i4;obtain⟨p,o9,rfl,Y,a3,Z,W,b0,c7⟩:=hrel;by_cases h8:p<D
  ·have p1:(p:Int)<(D:Int):=by omega
   obtain⟨L,g9,a6,b9,d9⟩:=b5.o p h8;obtain⟨x,b2⟩:=aE (l:=a2) (n:=p) (by rw[Z.o.len,<-b4.o];exact h8);have e5:=Z.o.own p x (sf L) b2 g9;rw[pT,a6,nF] at e5;obtain⟨g4,g6,rfl,i1⟩:=aS e5 (by omega);have o6:=(a3.o.cellAt p (by omega)).trans b2;have h2:=f8.o p;have e0:=f8.o (p+1);have h5:=j7.o L a6 b9;have f7:=aa d9;rw[d9] at e0;obtain⟨u,c8⟩:=aB (rW M n k p);obtain⟨d,c4⟩:=aB (rl M L);have j8:=aa (λ(F:Option Addr) (O:Nat) (V:World) (e8:gU V F k (dn M L L))=>show Calls prog 204 #[.slice F k O] V λe w'=>e= .returned (Ud d)/\Below V.1.size V w' from by rw[c4];exact k0.o F O L V a6 b9 e8);have l2:=aa (λ(V:World) (E:Below wr.1.size wr V)=>k9.o g4 g6 L V (W.o.trans (E.mono W.o.size)) (i1.below E aQ) b9 a6);have c3:=(Y.o.cellAt q (by omega)).trans (aP (f3.o (rW M n k p)));have n8:=aa c8;have f6:=aa (λ(V:World) (E:Below wr.1.size wr V) (J:Int)=>show(V.setCell ⟨go,q,none⟩ (Ud J)).ownsRow go 3 1 (.slice (some ⟨go,0,none⟩) N N) N (af (BD n g k J))/\(V.setCell ⟨go,q,none⟩ (Ud J)).ownsRow S 37 1 (.slice (some ⟨g8,0,none⟩) D g5) D a2/\bS 3 (V.setCell ⟨go,q,none⟩ (Ud J)) S a2 g3/\Below w.1.size w (V.setCell ⟨go,q,none⟩ (Ud J))/\go<(V.setCell ⟨go,q,none⟩ (Ud J)).1.size/\S<=(V.setCell ⟨go,q,none⟩ (Ud J)).1.size from by
    have a4:=(ai Y.o E).stored q (Ud J);rw[se,g1.o] at a4;have p4:=E.size;refine⟨a4.1,cE (ai a3.o E) e2 _ _,(Z.o.below E).setC e2 _,(W.o.trans (E.mono W.o.size)).setCell m3 _,?_,?_⟩
    ·show go<(V.setCell ⟨go,q,none⟩ (Ud J)).1.size
     simp;omega
    ·show S<=(V.setCell ⟨go,q,none⟩ (Ud J)).1.size
     simp;omega)
   have f5:=aa (λ(V:World) (E:Below wr.1.size wr V)=>(ai Y.o E).frozenAt q);rw[<-c8,<-c4] at e0 f7;rw[<-c8] at c3 h2;rw[<-c4] at h5;have p6:IntKind.i64.wrap (s*d)=s*d:=au _ (by rcases i2 with h|h<;>rw[h]<;>omega);have i3:IntKind.i64.wrap (u+s*d)=u+s*d:=au _ (by omega);obtain⟨z,f0⟩:=aB (u+s*d);have d4:=aa (show rW M n k (p+1)=z by rw[f7.o,f0]);have p8:IntKind.i64.wrap (u+s*d)=z:=by rw[f0];exact i3
   have h3:=c3;clear e5 i1 d9 c8 c4 h2 e0 h5 i3 f0 b2 g9 b9 a6;go_wp2;have h4:wr.drew.cell? ⟨go,q,none⟩=some (Ud u):=c3;obtain⟨b7,c0⟩:=aB (α:=World->Prop) (λV=>V.cell? ⟨go,q,none⟩=some (Ud u));have a5:=aa (show∀V,b7 V->V.cell? ⟨go,q,none⟩=some (Ud u) fromλV E=>by rw[c0] at E;exact E);have o4:b7 wr.drew:=by rw[c0];exact h4
   have d3:=aa (show∀V,Below wr.1.size wr V->b7 V fromλV l9=>by
    rw[c0];exact(l9.cell (p:=⟨go,q,none⟩) b0).trans h3)
   clear c0 h4;refine dr (S:=b7) 14 (by kernel_rfl) ?_;iterate 9 (refine kG rfl (by kernel_rfl) (λ_ _ _ h=>h) (by rfl) (by assumption) (λV Q=>by have Q:=a5.o V Q;go_split_ands;go_simp;first|done|with_reducible rfl) ?_;try simp only[Act.put,ab,ac,ae])
   refine aY (i:=9) rfl (by kernel_rfl) (by decide) (λK a0=> ?_);go_simp;go_at_call 205;refine(l2.o _ aZ.drew).mono ?_;rintro e q3 ⟨F,O,rfl,e9,m0⟩;have a1:=(aV wr.1.size wr).drew.trans m0;go_wp2_with fail;refine a0.out _ _ (d3.o _ a1) ?_;clear a0 K;try simp only[Act.put,ab,ac,ae]
   refine aY (i:=10) rfl (by kernel_rfl) (by decide) (λK a0=> ?_);go_simp;go_at_call 204;refine(j8.o F O _ e9).mono ?_;rintro e j1 ⟨rfl,m1⟩;have a1:=a1.trans (m1.mono a1.size);go_wp2_with fail;have l8:=d3.o _ a1;refine a0.out _ _ l8 ?_;clear a0 K;try simp only[Act.put,ab,ac,ae]
   (refine jw 11 rfl (by kernel_rfl) (λ_ _ _ h=>h) (by rfl) (by assumption) (λV Q=>by have Q:=a5.o V Q;go_split_ands;go_simp;first|done|with_reducible rfl) ?_;try simp only[Act.put,ab,ac,ae]);(refine jw 12 rfl (by kernel_rfl) (λ_ _ _ h=>h) (by rfl) (by assumption) (λV Q=>by have Q:=a5.o V Q;go_split_ands;go_simp;first|done|with_reducible rfl) ?_;try simp only[Act.put,ab,ac,ae]);(refine jw 13 rfl (by kernel_rfl) (λ_ _ _ h=>h) (by rfl) (by assumption) (λV Q=>by have Q:=a5.o V Q;go_split_ands;go_simp;first|done|with_reducible rfl) ?_;try simp only[Act.put,ab,ac,ae]);have d7:=f6.o j1 a1 z;have o7:=f5.o j1 a1;have o5:=a5.o _ (d3.o _ a1);rw[<-d4.o] at d7;have k3:=aa d7;clear d7 f6 f5 c3 h3;refine cU rfl (by kernel_rfl) (by kernel_rfl) (λK a0=> ?_);go_simp;refine a0.out _ _ ?_;clear a0 K;go_wp2;go_roundw;obtain⟨i5,i6,i7,i8,i9,j0⟩:=k3.o;rw[d4.o] at i5 i6 i7 i8 i9 j0;exact⟨p+1,by omega,by go_num,by rw[d4.o];exact aa i5,aa i6,aa i7,aa i8,i9,j0⟩;simp[intOf];omega
  ·obtain rfl:p=D:=by omega
   have k7:=aa (show wr.ownsRow go 3 1 (.slice (some ⟨go,0,none⟩) N N) N (af (BD n g (k+1) 0)) from by rw[<-k6.o,<-g0.o];exact Y.o);clear Y a3 Z;go_wp2;go_roundw;exact⟨k+1,by omega,by go_num,by rw[d2.o],k7,W,b0⟩;simp[intOf];omega
 ·have k4:=aa (show k=N by have:=k5.o;omega);have m4:(n:Int)<(k:Int):=(by omega);have k1:=aa (show aO f2 (some ⟨go,0,none⟩) N (af (BD n g N 0)) from by
   have:=k4.o;subst this;obtain⟨g4,g6,h6,m8⟩:=aS d0.o (by omega);simp only[aJ] at h6;obtain⟨rfl,-,-⟩:=h6;exact m8)
  go_wp2;go_ret;exact⟨go,rfl,k1.o,b3.o⟩
theorem AF(a)(n c)(xs)(w)(h:aO w a n (af xs))(b2:1<=n/\n<=9)(b7:n<=c)(Y:mP xs 0≠0):
 Calls prog 120 #[.slice a n c] w λe w'=>∃a' c',e= .returned (.slice a' (mX xs n) c')/\aO w' a' (mX xs n) (af (xs.take (mX xs n)))/\Below w.1.size w w':=by
 have c5:xs.length=n:=by have:=h.len;rw[show(af xs).length=xs.length by simp[af]] at this;exact this
 have a7:=aa (λ(q:Nat) (h:mP xs q=0)=>Bi (p:=xs) h);have a4:=aa (λ(q:Nat) (h:¬mP xs q=0)=>zk (p:=xs) h);have a8:=aa (show mX xs 0=0 from rfl);have b1:=oP xs n;have b4:1<=mX xs n:=by
  obtain⟨q,rfl⟩:∃q,n=q+1:=⟨n-1,by omega⟩;exact wj Y q
 obtain⟨b,a0,rfl,a9,U⟩:=h.at_ b2.1;have a1:=aa (λ(q:Nat) (D:q<n)=>U q (Ud (mP xs q)) (aP (dR (by omega))));have a6:=aa (λ(m:Nat) (I:m<=n)=>show aO w (some ⟨b,a0,none⟩) m (af (xs.take m)) from⟨by simp[af];omega,by omega,λb6=>⟨b,a0,rfl,a9,λq v D=>U q v (by
  rw[jL] at D;rw[cP] at D;split at D
  ·exact D
  ·cases D)⟩⟩)
 obtain⟨m,I⟩:=aB (mX xs n);have a3:=aa I.symm;rw[<-I] at b1 b4;rw[<-I];clear I U h Y;go_enter func120,ntmps120;go_wp2;go_loopw[3] (λv wr=>∃(p:Nat),p<=n/\v= Ud p/\bv (mX xs p=m)/\wr=w) (λv _=>(intOf v).toNat);exact⟨n,by omega,rfl,a3,rfl⟩;obtain⟨p,b8,rfl,Q,rfl⟩:=hrel;by_cases b9:0<p
 ·obtain⟨q,D⟩:=aB (p-1);have b5:(p:Int)-1=(q:Int):=(by omega);have W:p=q+1:=(by omega);have c3:IntKind.i64.wrap ((p:Int)-1)=(q:Int):=by rw[b5];exact au _ (by omega)
  have b0:=a1.o q (by omega);have F:=aa (a7.o q);have E:=aa (a4.o q);rw[<-W] at F E;have c0:(0:Int)<(p:Int):=(by omega);have c1:q<n:=(by omega);have c2:q<p:=(by omega);obtain⟨x,Z⟩:=aB (mP xs q);rw[<-Z] at b0 F E;have a5:=aa W;clear Z D W;by_cases J:x=0
  ·have O:=aa (F.o J);subst J;clear E F;go_wp2;go_roundw;exact⟨q,by omega,by go_num,aa (by rw[<-O.o];exact Q.o),trivial⟩;simp[intOf];omega
  ·have O:=aa (E.o J);have c4:(x==0)=false:=by simp[J]
   have b3:p=m:=by rw[<-Q.o,O.o]
   clear E F;subst b3;have a2:=aa (a6.o p (by omega));clear a5;go_wp2;go_ret;exact⟨_,_,rfl,a2.o,aZ⟩
 ·exfalso;have:p=0:=(by omega);subst this;have:=Q.o;rw[a8.o] at this;omega
theorem vV(a)(n c)(M)(w)(h:bZ w a n M)(a1:kX M=true):
 Calls prog 46 #[.slice a n c] w λe w'=>∃a' c',e= .returned (.slice a' (ia M n).length c')/\aO w' a' (ia M n).length (af (ia M n))/\Below w.1.size w w':=by
 obtain⟨_,c3,a0,b4⟩:=fL a1 (dp h).1;have b5:=TK a0 b4;have Y:=aa (gI a n c M w h);rw[a1] at Y;have Q:=aa (yN a n c M w h a0 c3.2 b5);have W:=aa (λ(g b2:Nat) (V:World) (e4:aO V (some ⟨g,0,none⟩) (n+1) (af (ky M n (n+1)))) (e2:n+1<=b2)=>(AF (some ⟨g,0,none⟩) (n+1) b2 (ky M n (n+1)) V e4 (by omega) e2 (by
  have:=jq (zW (M:=M) (n:=n) (K:=n+1) (k:=0) (by omega));rw[this,xe M c3.2];decide)).mono (R':=λe w'=>∃a' c',e= .returned (.slice a' (ia M n).length c')/\aO w' a' (ia M n).length (af (ia M n))/\Below V.1.size V w') (by rw[pe];rintro e w' ⟨a',c',d7,d8,d9⟩;exact⟨a',c',d7,d8,d9⟩))
 have b1:=aa (λK=>show af (ky M n (K+1))=af (ky M n K)++[Ud (uH M n K)] from by rw[CS];simp[af]);have f1:=aa (λK=>vF M n K);obtain⟨a6,b3⟩:=aB (uH M n);rw[<-b3] at Q b1;have a9:=aa (λ(j:Nat) (e6:j<=n)=>aP (Rn a6 e6));have f0:IntKind.i64.wrap ((n+1:Nat):Int)=((n+1:Nat):Int):=au _ (by omega);clear h a1 a0 b4 b5 b3;go_enter func46,ntmps46;go_wp2_with fail;refine Y.o.mono ?_;rintro e w' ⟨rfl,rfl⟩;obtain⟨N,Z⟩:=aB (n+1);have f4:N<=9:=(by omega);have E:=aa Z;have g5:IntKind.i64.wrap ((N:Int)-1)=(n:Int):=by rw[au _ (by omega)];omega
 have e0:(N:Int)-1=(n:Int):=(by omega);rw[<-Z] at Q W a9;clear Z f0;go_wp2_with(go_at_call 119;refine Q.o.mono ?_;rintro e D ⟨g,rfl,c6,a2⟩);have d4:=aa c6;have e9:=a2.size;have F:=aa (show(D.alloc (.cells #[] 3)).ownsRow D.1.size 3 1 (.slice (some ⟨D.1.size,0,none⟩) 0 0) 0 (af (ky M n 0)) from bd (w:=D) (base:=D.1.size) (e:=3) #[] [] rfl aQ (by unfold maxLen;simp));have a7:=aa (show Below D.1.size D (D.alloc (.cells #[] 3)) from aZ.alloc aQ _);have c9:=aa a2;clear c6 a2 Q Y;try rw[e0]
 go_loopw[4,5] (λv i wr=>∃(k I O:Nat) (e:Int),k<=N/\bv (e=(n:Int)-(k:Int))/\i= Ud e/\v= .slice (some ⟨I,0,none⟩) k O/\bv (wr.ownsRow D.1.size 3 1 (.slice (some ⟨I,0,none⟩) k O) k (af (ky M n k)))/\bv (Below D.1.size D wr)) (λ_ i _=>(intOf i+1).toNat);exact⟨0,D.1.size,0,(n:Int),by omega,aa (by simp),rfl,rfl,F,a7⟩;clear F a7;obtain⟨k,I,O,e,f7,a8,rfl,rfl,F,J⟩:=hrel;have f2:=E;by_cases f8:k<N
 ·obtain⟨q,c5⟩:=aB (n-k);have c2:k<=n:=by have:=E.o;omega
  have e3:e=(q:Int):=by rw[a8.o];omega
  have g2:q<N:=(by omega);have d3:=aa (show(q:Int)-1=(n:Int)-((k+1:Nat):Int) by omega);subst e3;have g6:IntKind.i64.wrap ((q:Int)-1)=(q:Int)-1:=au _ (by omega);have g1:(0:Int)<=(q:Int):=(by omega);have g3:(q:Int)<(N:Int):=(by omega);have a5:=a9.o k c2;rw[<-c5] at a5;obtain⟨b,g7,b6,b7,b8⟩:=d4.o.at_ (by omega);simp only[aI,cA] at b6;obtain⟨rfl,rfl,-⟩:=b6;have a4:=(J.o.cell (p:=⟨g,0+q,none⟩) b7).trans (b8 q _ a5);rw[aW] at a4;have b0:=aa (b1.o k);obtain⟨d,b9⟩:=aB (a6 k);rw[<-b9] at b0 a4;have e5:=(F.o.lt I rfl).1;have g4:=J.o.size;clear b9 a5 b8 b7 c5 c2;go_wp2_with(first|(at_builtin;go_must(refine aX rfl _ _ 37 rfl D.1.size 3 (Ud 0) 8 underlying37 bK rfl I O k (af (ky M n k)) (F.o.alloc _) rfl wr.1.size 0 1 1 [Ud d] rfl rfl (cz rfl) (by intro u c8;simp at c8;subst c8;rfl) (by omega) (by unfold maxLen;omega) (by simp;omega) ?_);intro d6 d5 g9 c4 c1 g0 f9));have d2:=aa c4;have d0:=aa ((J.o.alloc (by omega) (.cells #[Ud d] 3)).grown c1 (by simp;omega) (by rintro k ⟨⟩;exact e5));clear c4 c1 a4;go_roundw;exact⟨k+1,d6,d5,(q:Int)-1,by omega,d3,by go_num,rfl,aa (by rw[b0.o];exact d2.o),d0⟩;simp[intOf]
 ·have e7:k=N:=by omega
  have f6:e<0:=by rw[a8.o];have:=E.o;omega
  have f5:¬(0<=e):=(by omega);subst e7;obtain⟨f3,cr,c0,a3,U⟩:=nR F.o (by omega);simp only[aJ] at c0;obtain⟨rfl,-,rfl⟩:=c0;have c7:=U;rw[E.o] at c7 a3;have d1:=aa (W.o I O wr (by rw[E.o] at U⊢;exact U) (by rw[E.o];exact a3));clear W U c7 a3;go_wp2_with(go_at_call 120;refine d1.o.mono ?_;rintro e g8 ⟨a',c',rfl,e8,e1⟩);go_ret;exact⟨a',c',rfl,e8,c9.o.trans ((J.o.trans (e1.mono J.o.size)).mono e9)⟩
structure bA (w : World) (b : Nat) (A : Array Value) : Prop where
  lt : b < w.1.size
  cell : ∀ k, w.cell? ⟨b, k, none⟩ = A[k]?
  froz : ∀ k, w.frozen? ⟨b, k, none⟩ = false
theorem bA.new(w:World)(A)(T):bA (w.alloc (.cells A T)) w.1.size A:=
 ⟨by simp,λk=>aL _ _ _ _ rfl,λk=>eo _ _ _ _ rfl⟩
theorem bA.below{w w'}{b}{A}(h:bA w b A)(D:Below w.1.size w w'):bA w' b A:=
 ⟨aH h.lt D.size,λk=>(D.cell (p:=⟨b,k,none⟩) h.lt).trans (h.cell k),λk=>(D.frozen (p:=⟨b,k,none⟩) h.lt).trans (h.froz k)⟩
theorem bA.grown{w w'}{b g}{A}(h:bA w b A)(D:w.grownBy w' (some g))(E:b≠g):bA w' b A:=
 ⟨aH h.lt D.size,λk=>(World.cell?_of_block (a:=⟨b,k,none⟩) (D.block b h.lt (by simpa using E))).trans (h.cell k),λk=>(World.frozen?_of_block (a:=⟨b,k,none⟩) (D.block b h.lt (by simpa using E))).trans (h.froz k)⟩
theorem bA.other{w}{b q i}{A}(h:bA w b A)(D:q≠b)(v):bA (w.setCell ⟨q,i,none⟩ v) b A:=
 ⟨by simpa using h.lt,λk=>(bQ _ _ _ _ (λe=>D (by injection e))).trans (h.cell k),λk=>(dG _ _ _ _).trans (h.froz k)⟩
theorem bA.alloc{w}{b}{A}(h:bA w b A)(o):bA (w.alloc o) b A:=h.below (aZ.alloc aQ _)
theorem bA.c3{w}{b}{x y z}(h:bA w b #[x,y,z]):(w.cell? ⟨b,0,none⟩=some x/\w.cell? ⟨b,1,none⟩=some y/\w.cell? ⟨b,2,none⟩=some z)/\(w.frozen? ⟨b,0,none⟩=false/\w.frozen? ⟨b,1,none⟩=false/\w.frozen? ⟨b,2,none⟩=false):=
 ⟨⟨h.cell 0,h.cell 1,h.cell 2⟩,h.froz 0,h.froz 1,h.froz 2⟩
theorem bA.set{w}{b i}{A A'}(h:bA w b A)(v)(hi:i<A.size)(E:∀k,A'[k]? =if k=i then some v else A[k]?):bA (w.setCell ⟨b,i,none⟩ v) b A':=by
 refine⟨by simpa using h.lt,λk=> ?_,λk=>(dG _ _ _ _).trans (h.froz k)⟩;rw[E k];by_cases D:k=i
 ·subst D;rw[if_pos rfl];exact dV _ _ _ ((h.cell k).trans (Array.getElem?_eq_getElem hi))
 ·rw[if_neg D];exact(bQ _ _ _ _ (λe=>D (by injection e with _ e2;exact e2.symm))).trans (h.cell k)
theorem Sc{w wr}{A}{T}(h:Below (w.alloc (.cells A T)).1.size (w.alloc (.cells A T)) wr):
 (∀k,wr.cell? ⟨w.1.size,k,none⟩=A[k]?)/\(∀k,wr.frozen? ⟨w.1.size,k,none⟩=false)/\w.1.size<wr.1.size/\Below w.1.size w wr:=
 let h1:=(bA.new w A T).below h
 ⟨h1.cell,h1.froz,h1.lt,(aZ.alloc aQ _).trans (h.mono (by simp))⟩
theorem bA.at_{w w'}{b B}{A}(h:bA w b A)(D:Below B w w')(E:b<B):bA w' b A:=
 ⟨aH h.lt D.size,λk=>(D.cell (p:=⟨b,k,none⟩) E).trans (h.cell k),λk=>(D.frozen (p:=⟨b,k,none⟩) E).trans (h.froz k)⟩
theorem bA.keep{w w'}{b}{row}{A}(h:bA w b A)(D:w.grownBy w' row)(E:row≠some b):bA w' b A:=
 ⟨aH h.lt D.size,λk=>(World.cell?_of_block (a:=⟨b,k,none⟩) (D.block b h.lt (λe=>E e.symm))).trans (h.cell k),λk=>(World.frozen?_of_block (a:=⟨b,k,none⟩) (D.block b h.lt (λe=>E e.symm))).trans (h.froz k)⟩
theorem bA.set0{w}{b}{x y z}(h:bA w b #[x,y,z])(v):bA (w.setCell ⟨b,0,none⟩ v) b #[v,y,z]:=
 h.set v (by simp) λk=>match k with|0=>rfl|1=>rfl|2=>rfl|k+3=>by simp
theorem bA.set1{w}{b}{x y z}(h:bA w b #[x,y,z])(v):bA (w.setCell ⟨b,1,none⟩ v) b #[x,v,z]:=
 h.set v (by simp) λk=>match k with|0=>rfl|1=>rfl|2=>rfl|k+3=>by simp
theorem bA.set2{w}{b}{x y z}(h:bA w b #[x,y,z])(v):bA (w.setCell ⟨b,2,none⟩ v) b #[x,y,v]:=
 h.set v (by simp) λk=>match k with|0=>rfl|1=>rfl|2=>rfl|k+3=>by simp
theorem PU(a)(n c k b:Nat)(M)(w)(h:bZ w a n M)(F:dB M=true)(O:w.cell? ⟨b,0,none⟩=some (.slice a n c))(J:1<=k/\k<=5):
 Calls prog 38 #[Ud k,.pointer (some ⟨b,0,none⟩)] w λe w'=>e= .returned (Ud (ND M n k))/\Below w.1.size w w':=by
 have E:=aa (show Calls prog 39 #[.slice a n c,Ud k] w λe w'=>e= .returned (Ud (ND M n k))/\Below w.1.size w w' from uS a n c k M w h F J.1 (by omega));obtain⟨y,D⟩:=aB (ND M n k);rw[<-D] at E;rw[<-D];clear h F D;go_enter func38,ntmps38;go_wp2_with fail;refine E.o.mono ?_;rintro e Q ⟨rfl,I⟩;go_wp2;go_ret;exact⟨rfl,I⟩
theorem pX(a)(n c)(M)(w)(a6:bZ w a n M)(a0:kX M=true)(d7:qP w):
 Calls prog 11 #[.slice a n c] w λe w'=>e= .returned (.string (Nv M n))/\Below w.1.size w w':=by
 obtain⟨b8,a2,b9,a8⟩:=fL a0 (dp a6).1;have a9:=TK b9 a8;obtain⟨D,a1⟩:∃D,D=w.alloc (.cells #[.slice a n c] 24):=⟨_,rfl⟩;have a3:Below w.1.size w D:=by rw[a1];exact(aV _ _).alloc (aN _) _
 have i2:D.1.size=w.1.size+1:=by rw[a1];simp
 have c2:bA D w.1.size #[.slice a n c]:=by rw[a1];exact bA.new _ _ _
 have b0:=aa (λ(V:World) (E:Below D.1.size D V)=>show V.cell? ⟨w.1.size,0,none⟩=some (.slice a n c)/\Below w.1.size w V from⟨(c2.below E).cell 0,a3.trans (E.mono (by omega))⟩);have W:=λ(V:World) (E:Below D.1.size D V)=>a6.below (a3.trans (E.mono (by omega))) (aN _)
 have Z:=λ(V:World) (E:Below D.1.size D V)=>gt d7 (a3.trans (E.mono (by omega))) (aN _)
 have b3:=aa (gI a n c M D (W D (aV _ _)));rw[a0] at b3;have a4:=aa (tE 1 5 5 38 (.pointer (some ⟨w.1.size,0,none⟩)) (ND M n) D rfl (by omega)
  (λi V a7 f5 E=>PU a n c i w.1.size M V (W V E) b8 (b0.o V E).1 (by omega))
  (λx w=>Tryz.call38 _ w) (λi a7 f5=>sG a2.1 (by omega)) (Z D (aV _ _)))
 rw[show dv ((fz (ND M n) 1 5).map cF) ⟨#[44]⟩=EU M n from rfl] at a4;have c6:=aa (λ(V:World) (E:Below D.1.size D V)=>show Calls prog 41 #[.slice a n c,Ud 100] V λe w'=>e= .returned (.string (uU M n 100))/\Below V.1.size V w' from vY a n c 100 M V (W V E) a0 (by omega) (Z V E));have c8:=aa (λ(V:World) (E:Below D.1.size D V)=>yP a n c M V (W V E));have c5:=aa (λ(V:World) (E:Below D.1.size D V)=>tS a n c M V (W V E) b8);have b6:=aa (λ(V:World) (E:Below D.1.size D V)=>vV a n c M V (W V E) a0);have c7:=aa (λ(V:World) (E:Below D.1.size D V)=>AK a n c M V (W V E) a0 (Z V E));have g7:=yf M (dp a6).1;have g4:=zl (cI M n) n;have b1:=aa (λ(V:World) (E:Below D.1.size D V)=>dU ((ed M:Nat):Int) V ⟨by omega,by omega⟩ (Z V E));have b2:=aa (λ(V:World) (E:Below D.1.size D V)=>dU ((lK (cI M n) n:Nat):Int) V ⟨by omega,by omega⟩ (Z V E));have c3:∀x∈ia M n,Bx x:=λx h2=>by have:=FG a2.2 b9 a9 x h2;exact⟨by omega,by omega⟩
 have h0:=pe M n;have h1:=oP (ky M n (n+1)) (n+1);have a5:=aa (λ(V:World) (E:Below D.1.size D V) (b7:Option Addr) (cr:Nat) (g9:aO V b7 (ia M n).length (af (ia M n)))=>show Calls prog 45 #[.slice b7 (ia M n).length cr,.string ⟨#[44]⟩] V λe w'=>e= .returned (.string (BT M n))/\Below V.1.size V w' from nW b7 _ cr _ ⟨#[44]⟩ V g9 c3 rfl (by omega) (Z V E));have b5:=aa (λ(B g:Nat) (V:World) (g5:bv (V.ownsRow B 9 1 (.slice (some ⟨g,0,none⟩) 2 2) 2 (ap (Fq M n))))=>show Calls prog 40 #[.slice (some ⟨g,0,none⟩) 2 2] V λe w'=>e= .returned (.string (Ez M n))/\Below V.1.size V w' from xp B g 2 2 (Fq M n) V rfl g5.o (by omega) (bn (Am a2.2 a8) (by omega)));have e5:=Dy (M:=M) (n:=n);have e6:=iJ (x:=((ed M:Nat):Int)) ⟨by omega,by omega⟩;have e7:=iJ (x:=((lK (cI M n) n:Nat):Int)) ⟨by omega,by omega⟩;have e8:=CR a2.2 c3;have e9:=Dh a2.2 a8;have f0:=DJ (M:=M) a2.1 (by omega);have Y:=aa (show Nv M n=Nw (uU M n 100) (cF ((ed M:Nat):Int)) (cF ((lK (cI M n) n:Nat):Int)) (BT M n) (Ez M n) (EU M n) from rfl);obtain⟨c9,c0⟩:∃T,T=Nv M n:=⟨_,rfl⟩;rw[<-c0] at Y;rw[<-c0];obtain⟨I,d9⟩:∃t,t=uU M n 100:=⟨_,rfl⟩;rw[<-d9] at Y c6 e5;obtain⟨Q,e2⟩:∃t,t=cF ((ed M:Nat):Int):=⟨_,rfl⟩;rw[<-e2] at Y b1 e6;obtain⟨F,d8⟩:∃t,t=cF ((lK (cI M n) n:Nat):Int):=⟨_,rfl⟩;rw[<-d8] at Y b2 e7;obtain⟨U,e3⟩:∃t,t=BT M n:=⟨_,rfl⟩;rw[<-e3] at Y a5 e8;obtain⟨O,e1⟩:∃t,t=Ez M n:=⟨_,rfl⟩;rw[<-e1] at Y b5 e9;obtain⟨J,e0⟩:∃t,t=EU M n:=⟨_,rfl⟩;rw[<-e0] at Y a4 f0;obtain⟨i4,d6⟩:∃v,v=ed M:=⟨_,rfl⟩;rw[<-d6] at c8 b1;obtain⟨i3,d5⟩:∃v,v=lK (cI M n) n:=⟨_,rfl⟩
 rw[<-d5] at c5 b2 g4;obtain⟨h6,d2⟩:∃v,v=Fq M n:=⟨_,rfl⟩;rw[<-d2] at c7 b5;obtain⟨f4,d3⟩:∃v,v=ia M n:=⟨_,rfl⟩;rw[<-d3] at b6 a5;obtain⟨K,d1⟩:∃v,v=f4.length:=⟨_,rfl⟩;rw[<-d1] at b6 a5;have f3:=aa (λV:World=>show Calls prog 40 #[.slice (some ⟨V.1.size,0,none⟩) 12 12] (V.alloc (.cells #[.string ⟨#[103,114,111,119,116,104]⟩,.string I,.string ⟨#[112,101,114,105,111,100]⟩,.string Q,.string ⟨#[99,111,109,112,111,110,101,110,116,115]⟩,.string F,.string ⟨#[112,111,108,121]⟩,.string U,.string ⟨#[103,114,111,117,112]⟩,.string O,.string ⟨#[99,108,111,115,101,100]⟩,.string J] 9)) λe w'=>e= .returned (.string c9)/\Below (V.1.size+1) (V.alloc (.cells #[.string ⟨#[103,114,111,119,116,104]⟩,.string I,.string ⟨#[112,101,114,105,111,100]⟩,.string Q,.string ⟨#[99,111,109,112,111,110,101,110,116,115]⟩,.string F,.string ⟨#[112,111,108,121]⟩,.string U,.string ⟨#[103,114,111,117,112]⟩,.string O,.string ⟨#[99,108,111,115,101,100]⟩,.string J] 9)) w' from by
  have d0:=KO I Q F U O J;have:=xp V.1.size V.1.size 12 12 (JC I Q F U O J) _ rfl (bd (w:=V) (base:=V.1.size) (e:=9) #[.string ⟨#[103,114,111,119,116,104]⟩,.string I,.string ⟨#[112,101,114,105,111,100]⟩,.string Q,.string ⟨#[99,111,109,112,111,110,101,110,116,115]⟩,.string F,.string ⟨#[112,111,108,121]⟩,.string U,.string ⟨#[103,114,111,117,112]⟩,.string O,.string ⟨#[99,108,111,115,101,100]⟩,.string J] (ap (JC I Q F U O J)) rfl (aN _) (by unfold maxLen;simp)) (by omega) (by
   have a7:=mK (JC I Q F U O J) ⟨#[32]⟩;unfold Nw at d0;rw[d0] at a7;show(Lib.join ((JC I Q F U O J).map mW) (⟨#[32]⟩:ByteArray).1.1).length<=1000000000
   rw[<-a7];simp only[aK];show 7+I.size+8+Q.size+12+F.size+6+U.size+7+O.size+8+J.size<=1000000000
   omega)
  rw[show dv (JC I Q F U O J) ⟨#[32]⟩=c9 from by rw[Y.o];rfl] at this;rw[dj] at this;exact this)
 have h5:=aa a3;have e4:=c2.cell 0;clear a6 b8 b9 a8 a9 a0 d7 W Z a3 c2 c0 d9 e2 d8 e3 e1 e0 d6 d5 d2 d3 d1 c3 h0 h1 g7 e5 e6 e7 e8 e9 f0;go_enter func11,ntmps11;go_wp2_with(rw[<-a1]);first|rw[<-a1]|skip
 clear a1;refine b3.o.mono ?_;rintro e i5 ⟨rfl,rfl⟩;clear b3;go_wp2_with fail;refine a4.o.mono ?_;rintro e h3 ⟨rfl,d4⟩;have c4:=aa d4;clear d4 a4 e4;have h:Below D.1.size D h3.drew:=c4.o.drew;have b4:=aa (λ(V:World) (E:Below D.1.size D V)=>show V.cell? ⟨w.1.size,0,none⟩=some (.slice a n c)/\Below D.1.size D V from⟨(b0.o V E).1,E⟩);have f2:=aa (λ(V:World) (E:Below D.1.size D V) (cs:Array Value) (T:TypeId)=>b4.o (V.alloc (.cells cs T)) (E.alloc E.size _));obtain⟨e4,_⟩:=b4.o _ c4.o;go_wp2;go_region_held3(λV=>V.cell? ⟨w.1.size,0,none⟩=some (.slice a n c)/\Below D.1.size D V)
  (first|with_reducible exact b4.o _ h|with_reducible exact f2.o _ h _ _)
  (first|(go_at_call 41;refine(c6.o _ h).mono ?_;rintro e i6 ⟨rfl,f6⟩;have h:=h.trans (f6.mono h.size))|(go_at_call 43;refine(c8.o _ h).mono ?_;rintro e i7 ⟨rfl,f7⟩;have h:=h.trans (f7.mono h.size))|(go_at_call 42;first|(refine(b1.o _ h).mono ?_;rintro e h4 ⟨rfl,c1⟩;have h:=h.trans (c1.mono h.size))|(refine(b2.o _ h).mono ?_;rintro e h4 ⟨rfl,c1⟩;have h:=h.trans (c1.mono h.size)))|(go_at_call 44;refine(c5.o _ h).mono ?_;rintro e i8 ⟨i1,h7,rfl,f8⟩;have h:=h.trans (f8.mono h.size))|(go_at_call 46;refine(b6.o _ h).mono ?_;rintro e i9 ⟨h9,i0,rfl,g8,f9⟩;have h:=h.trans (f9.mono h.size))|(go_at_call 45;refine(a5.o _ h _ _ g8).mono ?_;rintro e j0 ⟨rfl,a9⟩;have h:=h.trans (a9.mono h.size))|(go_at_call 47;refine(c7.o _ h).mono ?_;rintro e j1 ⟨h8,rfl,g6,g0⟩;have h:=h.trans (g0.mono h.size))|(go_at_call 40;first|(refine(b5.o _ _ _ g6).mono ?_;rintro e j2 ⟨rfl,g1⟩;have h:=h.trans (g1.mono h.size))|(refine(f3.o _).mono ?_;rintro e j3 ⟨rfl,g2⟩;have g3:=h.alloc h.size (.cells #[.string ⟨#[103,114,111,119,116,104]⟩,.string I,.string ⟨#[112,101,114,105,111,100]⟩,.string Q,.string ⟨#[99,111,109,112,111,110,101,110,116,115]⟩,.string F,.string ⟨#[112,111,108,121]⟩,.string U,.string ⟨#[103,114,111,117,112]⟩,.string O,.string ⟨#[99,108,111,115,101,100]⟩,.string J] 9);have h:=g3.trans (g2.mono (by have:=h.size;omega)))))
 have f1:=aa (b0.o _ h).2;clear h;go_wp2;go_ret;exact⟨rfl,f1.o⟩
def dO(x:Nat):UInt8:=UInt8.ofNat (97+x)
theorem fx{x}(h:x<100):((dO x).toNat:Int)=97+(x:Int):=by unfold dO;simp[gJ];omega
def pd(k:Nat):Nat->Nat->List UInt8|0,_=>[]|n+1,x=>pd k n (x/k)++[dO (x%k)]
theorem Eb(k:Nat):∀n x,(pd k n x).length=n
 |0,_=>rfl
 |n+1,x=>by simp[pd,Eb k n]
theorem KE:(prog.info? 5).map (λi=>(i.zero,i.size,i.bytes))=some (some (.int .u8 0),1,1):=by kernel_rfl
theorem iG:(prog.info? 9).map (λi=>(i.zero,i.size,i.bytes))=some (some (.string ByteArray.empty),1,16):=by kernel_rfl
theorem Og(d)(S)(z u:Value):(List.replicate (d+1) z++S).set d u=List.replicate d z++u::S:=by
 rw[List.replicate_succ',cJ,lR _ _ (by simp)];simp
theorem Cl(c)(l):bo (c::l)= .int .u8 (c.toNat:Int)::bo l:=rfl
theorem NL(k n E:Nat)(w)(a7:1<=k/\k<=3)(c2:n<=16)(c6:E<=1048576):
 Calls prog 254 #[Ud k,Ud n,Ud E] w λe w'=>e= .returned (.string ⟨(pd k n E).toArray⟩)/\Below w.1.size w w':=by
 obtain⟨b9,c0⟩:=a7;obtain⟨i,hi,b0,b1,b2⟩:=info_parts KE;go_enter func254,ntmps254;go_wp2_with(first|(at_make;refine wpList_make_full _ rfl _ _ 22 rfl w.1.size 5 i (.int .u8 0) 1 underlying22 hi b0 b1 .i64 .i64 _ _ n rfl rfl rfl rfl (by rw[b2];omega) (by unfold maxLen;omega) aQ ?_;intro b3 W U));have a6:Below w.1.size w b3:=aZ.grown U aQ (by intro k a5;cases a5);rw[show(madeCells (Value.int .u8 0).cells (n*1)).toList=List.replicate n (.int .u8 0) by rw[kV];exact toList_madeCells_one _ _] at W;clear U;go_loopw[2,8] (λx i wr=>∃(d y:Nat) (D:List UInt8),d<=n/\i= Ud ((d:Int)-1)/\x= Ud y/\y<=E/\bv (pd k n E=pd k d y++D)/\wr.ownsRow w.1.size 5 1 (.slice (some ⟨w.1.size,0,none⟩) n n) n (List.replicate d (.int .u8 0)++bo D)/\Below w.1.size w wr) (λ_ i _=>(intOf i+1).toNat);exact⟨n,E,[],by omega,by go_num,rfl,by omega,by show _=_;simp,by simpa[bo] using W,a6⟩;obtain⟨d,y,D,b6,rfl,rfl,c7,O,F,Q⟩:=hrel;by_cases c1:0<d
 ·obtain⟨h,rfl⟩:∃h,d=h+1:=⟨d-1,by omega⟩;have b7:((h+1:Nat):Int)-1=(h:Int):=(by omega);have a9:y%k<k:=dI _ (by omega);have a8:y/k<=y:=ei _ _;obtain⟨u,a0⟩:=aE (l:=List.replicate (h+1) (Value.int .u8 0)++bo D) (n:=h) (by simp;omega);have b5:wr.cell? ⟨w.1.size,h,none⟩=some u:=(F.cellAt h (by omega)).trans a0;clear a0;have b8:=F.frozenAt h;obtain⟨q,J⟩:=aB (y%k);have c4:(y:Int)%(k:Int)=(q:Int):=by rw[J];omega
  have c3:q<3:=(by omega);have a3:=aa J;clear J a9;obtain⟨r,I⟩:=aB (y/k);have c5:(y:Int)/(k:Int)=(r:Int):=by rw[I];omega
  rw[<-I] at a8;have a4:=aa (show pd k n E=pd k h r++(dO q::D) by rw[O.o,pd,a3.o,I,cJ];rfl);clear I;go_wp2;go_roundw;have Z:=F.stored h (.int .u8 (97+(q:Int)));rw[Og,<-fx (show q<100 by omega),<-Cl] at Z;rw[<-fx (show q<100 by omega)];exact⟨h,r,dO q::D,by omega,by go_num,by go_num,by omega,a4.o,Z.1,Q.setCell aQ _⟩;first|(simp[intOf];done)|(simp[intOf];omega)
 ·obtain rfl:d=0:=by omega
  have a2:=aa (show pd k n E=D by rw[O.o];rfl);obtain⟨b4,c,a1,Y⟩:=aS F (by omega);simp only[aJ,true_and] at a1;obtain⟨rfl,rfl⟩:=a1;simp only[List.replicate_zero,fe] at Y;go_wp2_with(with_reducible refine fT rfl _ 22 9 5 rfl underlying22 underlying5 underlying9 _ n _ D rfl Y ?_);go_ret;exact⟨sX (by rw[a2.o]),Q⟩
def fG(k:Nat)(l:List UInt8):Nat:=l.foldl (λa c=>a*k+(c.toNat-97)) 0
theorem qK{k}{l:List UInt8}{j}{c}(h:l[j]? =some c):fG k (l.take (j+1))=fG k (l.take j)*k+(c.toNat-97):=by
 rw[bg,h];simp[fG,jt]
theorem sA{k:Nat}{l:List UInt8}(E:fb k l=true)(J:k<=3):∀j,j<=l.length->fG k (l.take j)<k^j
 |0,_=>by simp[fG]
 |j+1,h=>by
  obtain⟨c,D⟩:=aE (l:=l) (n:=j) (by omega);have O:=sA E J j (by omega);have F:=bm.1 E c (aj D);rw[eT] at F;rw[qK D,ft];have I:(fG k (l.take j)+1)*k<=k^j*k:=eK _ O;rw[mO] at I;omega
theorem Dv(k:Nat)(s)(w)(E:k<=3)(I:fb k s.1.1=true)(a6:s.size<=16):
 Calls prog 260 #[Ud k,.string s] w λe w'=>e= .returned (Ud (fG k s.1.1:Int))/\w=w':=by
 have F:=aa I;clear I;go_enter func260,ntmps260;go_wp2;go_loop[5,6,9] (λo _ i=>∃j q:Nat,j<=s.size/\i= Ud j/\o= Ud q/\bv (q=fG k (s.1.1.take j))) (λ_ _ i=>s.size-(intOf i).toNat);exact⟨0,0,by omega,rfl,rfl,by show _=_;simp[fG]⟩;obtain⟨j,q,a3,rfl,rfl,D⟩:=hrel;by_cases O:j<s.size
 ·have a4:(j:Int)<(s.size:Int):=by omega
  have J:=bm.1 F.o _ (aj (dq s j O));rw[eT] at J;obtain⟨t,a1⟩:∃t:Nat,s[j].toNat=97+t:=⟨s[j].toNat-97,by omega⟩;have a7:t<3:=(by omega);have W:q<k^j:=by rw[D.o];exact sA F.o E j (by rw[bM];omega)
  have Y:k^j<=3^16:=bn (fa E j) (bG (by omega) (by omega));have a2:(3:Nat)^16=43046721:=(by decide);have Z:q<=43046721:=(by omega);have a0:q*k<=43046721*3:=bX Z E;obtain⟨m,h⟩:=aB (q*k);have a5:(q:Int)*(k:Int)=(m:Int):=by rw[h];simp
  rw[<-h] at a0;have Q:=aa (show fG k (s.1.1.take (j+1))=m+t by rw[qK (dq s j O),<-D.o,a1,h];omega);clear W Y J h;go_wp2;go_round;exact⟨j+1,m+t,by omega,by go_num,by go_num,by show _=_;rw[Q.o]⟩;simp[intOf];omega
 ·have U:=aa (show s.1.1.take j=s.1.1 from aM (by rw[bM];omega));go_wp2;go_ret;exact⟨cW (by rw[D.o,U.o]),rfl⟩
def eC(k n:Nat):Nat:=k^n
theorem td(k n):eC k (n+1)=eC k n*k:=rfl
theorem zc:∀k,k<=3->∀j,j<=4->eC k j<=81:=by decide
theorem dw(k n:Nat)(h:k<=3)(O:n<=4)(w):
 Calls prog 97 #[Ud k,Ud n] w λe w'=>e= .returned (Ud (eC k n:Int))/\w=w':=by
 go_enter func97,ntmps97;go_wp2;go_loop[5,6] (λo i=>∃j q:Nat,j<=n/\i= Ud j/\o= Ud q/\bv (q=eC k j)) (λ_ i=>n-(intOf i).toNat);exact⟨0,1,by omega,rfl,rfl,rfl⟩;obtain⟨j,q,F,rfl,rfl,H⟩:=hrel;by_cases I:j<n
 ·have D:=zc k h j (by omega);have E:=zc k h (j+1) (by omega);rw[td,<-H.o] at E;rw[<-H.o] at D;have J:(0:Int)<=(q:Int)*k/\(q:Int)*k<=81:=by
   have:((q*k:Nat):Int)<=81:=(by omega);rw[fP] at this;exact⟨by rw[<-fP];omega,this⟩
  go_wp2;go_round;exact⟨j+1,q*k,by omega,by go_num,by go_num,by show _=_;rw[H.o,td]⟩;simp[intOf];omega
 ·obtain rfl:j=n:=by omega
  go_wp2;go_ret;exact⟨cW (by rw[H.o]),rfl⟩
theorem jM(k n:Nat)(h:k<=3)(O:n<=4)(w):
 Calls prog 155 #[Ud k,Ud n] w λe w'=>e= .returned (Ud (eC k n:Int))/\w=w':=by
 go_enter func155,ntmps155;go_wp2;go_loop[5,7] (λo i=>∃j q:Nat,j<=n/\i= Ud j/\o= Ud q/\bv (q=eC k j)) (λ_ i=>n-(intOf i).toNat);exact⟨0,1,by omega,rfl,rfl,rfl⟩;obtain⟨j,q,F,rfl,rfl,H⟩:=hrel;by_cases I:j<n
 ·have D:=zc k h j (by omega);have E:=zc k h (j+1) (by omega);rw[td,<-H.o] at E;rw[<-H.o] at D;have J:(0:Int)<=(q:Int)*k/\(q:Int)*k<=81:=by
   have:((q*k:Nat):Int)<=81:=(by omega);rw[fP] at this;exact⟨by rw[<-fP];omega,this⟩
  go_wp2;go_round;exact⟨j+1,q*k,by omega,by go_num,by go_num,by show _=_;rw[H.o,td]⟩;simp[intOf];omega
 ·obtain rfl:j=n:=by omega
  go_wp2;go_ret;exact⟨cW (by rw[H.o]),rfl⟩
def du(k n:Int)(o:ByteArray):Bool:=
 decide ((k=2\/k=3)/\(1<=n/\n<=4)/\eC k.toNat n.toNat<=27/\o.size=eC k.toNat n.toNat)&&fb k o.1.1
theorem jf(k n)(o)(w)(U:o.size<=maxLen):
 Calls prog 69 #[.agg #[Ud k,Ud n,.string o]] w λe w'=>e= .returned (.bool (du k n o))/\Below w.1.size w w':=by
 by_cases I:k=2\/k=3
 ·have Y:(k==2)=true\/(k==2)=false/\(k==3)=true:=by rcases I with rfl|rfl<;>simp
  by_cases a1:1<=n
  ·by_cases a2:n<=4
   ·obtain⟨D,rfl⟩:∃D:Nat,k=D:=⟨k.toNat,by omega⟩;obtain⟨E,rfl⟩:∃E:Nat,n=E:=⟨n.toNat,by omega⟩;have O:D<=3:=(by omega);have Q:E<=4:=(by omega);have J:du D E o=(decide (eC D E<=27/\o.size=eC D E)&&fb D o.1.1):=by
     rw[du,eZ,eZ];congr 1;simp only[decide_eq_decide];exact⟨λh=>h.2.2,λh=>⟨I,⟨a1,a2⟩,h⟩⟩
    by_cases Z:eC D E<=27
    ·have a5:decide ((eC D E:Int)<=27)=true:=by simp;omega
     by_cases a0:o.size=eC D E
     ·have a4:((o.size:Int)==(eC D E:Int))=true:=by simp;omega
      have H:=aa (show du D E o=fb D o.1.1 by rw[J];simp[Z,a0]);rcases Y with F|⟨F,W⟩
      all_goals
       go_enter func69,ntmps69
       go_wp2_with fail
       go_quiet((first|(go_at_call 155;exact aF ((jM _ _ O Q _).mono (λe w' h=>⟨h.1,h.2.symm⟩)))|(go_at_call 137;exact aF ((fs _ _ _ U (by omega)).mono (λe w' h=>⟨h.1,h.2.symm⟩)))))
       go_wp2
       go_ret
       exact⟨aG H.o.symm,aA (aZ.alloc aQ _) _⟩
     ·have a4:((o.size:Int)==(eC D E:Int))=false:=by simp;omega
      have H:=aa (show du D E o=false by rw[J];simp[a0]);rcases Y with F|⟨F,W⟩
      all_goals
       go_enter func69,ntmps69
       go_wp2_with fail
       go_quiet((first|(go_at_call 155;exact aF ((jM _ _ O Q _).mono (λe w' h=>⟨h.1,h.2.symm⟩)))|(go_at_call 137;exact aF ((fs _ _ _ U (by omega)).mono (λe w' h=>⟨h.1,h.2.symm⟩)))))
       go_wp2
       go_ret
       exact⟨aG H.o.symm,aA (aZ.alloc aQ _) _⟩
    ·have a5:decide ((eC D E:Int)<=27)=false:=by simp;omega
     have H:=aa (show du D E o=false by rw[J];simp[Z]);rcases Y with F|⟨F,W⟩
     all_goals
      go_enter func69,ntmps69
      go_wp2_with fail
      go_quiet((first|(go_at_call 155;exact aF ((jM _ _ O Q _).mono (λe w' h=>⟨h.1,h.2.symm⟩)))|(go_at_call 137;exact aF ((fs _ _ _ U (by omega)).mono (λe w' h=>⟨h.1,h.2.symm⟩)))))
      go_wp2
      go_ret
      exact⟨aG H.o.symm,aA (aZ.alloc aQ _) _⟩
   ·have a3:decide (n<=4)=false:=by simp;omega
    have H:=aa (show du k n o=false by rw[du];simp[a2]);rcases Y with F|⟨F,W⟩
    all_goals
     go_enter func69,ntmps69
     go_wp2_with fail
     go_quiet((first|(go_at_call 155;exact aF ((jM _ _ O Q _).mono (λe w' h=>⟨h.1,h.2.symm⟩)))|(go_at_call 137;exact aF ((fs _ _ _ U (by omega)).mono (λe w' h=>⟨h.1,h.2.symm⟩)))))
     go_wp2
     go_ret
     exact⟨aG H.o.symm,aA (aZ.alloc aQ _) _⟩
  ·have a3:decide (1<=n)=false:=by simp;omega
   have H:=aa (show du k n o=false by rw[du];simp[a1]);rcases Y with F|⟨F,W⟩
   all_goals
    go_enter func69,ntmps69
    go_wp2_with fail
    go_quiet((first|(go_at_call 155;exact aF ((jM _ _ O Q _).mono (λe w' h=>⟨h.1,h.2.symm⟩)))|(go_at_call 137;exact aF ((fs _ _ _ U (by omega)).mono (λe w' h=>⟨h.1,h.2.symm⟩)))))
    go_wp2
    go_ret
    exact⟨aG H.o.symm,aA (aZ.alloc aQ _) _⟩
 ·have F:(k==2)=false:=by simp;omega
  have W:(k==3)=false:=by simp;omega
  have H:=aa (show du k n o=false by rw[du];simp[I]);go_enter func69,ntmps69;go_wp2_with fail;go_quiet((first|(go_at_call 155;exact aF ((jM _ _ O Q _).mono (λe w' h=>⟨h.1,h.2.symm⟩)))|(go_at_call 137;exact aF ((fs _ _ _ U (by omega)).mono (λe w' h=>⟨h.1,h.2.symm⟩)))));go_wp2;go_ret;exact⟨aG H.o.symm,aA (aZ.alloc aQ _) _⟩
def db(k n i:Nat):ByteArray:=⟨(pd k n i).toArray⟩
def wds(k n m:Nat):List ByteArray:=(List.range m).map (db k n)
theorem FC(k n m):ap (wds k n (m+1))=ap (wds k n m)++[.string (db k n m)]:=by simp[wds,ap,bh]
theorem mt{k n m i}(h:i<m):(wds k n m)[i]? =some (db k n i):=by simp[wds,h]
theorem eq(k n i):(db k n i).1.1=pd k n i:=rfl
theorem ce(k n i):(db k n i).size=n:=by
 simp[db,ByteArray.size,Eb]
theorem NN{k n j x}(h:x<k):pd k (n+1) (j*k+x)=pd k n j++[dO x]:=by
 have D:(j*k+x)/k=j:=by rw[fX,Nat.add_mul_div_right _ _ (by omega),Nat.div_eq_of_lt h,aW]
 have E:(j*k+x)%k=x:=by rw[fX,Nat.add_mul_mod_self_right,gu h]
 rw[pd,D,E]
theorem NM{k n j x}(h:x<k):db k (n+1) (j*k+x)=db k n j++⟨#[dO x]⟩:=by
 unfold db;rw[NN h,show(ByteArray.mk #[dO x])=⟨[dO x].toArray⟩ from rfl,lH];first|done|simp
theorem rC{k:Nat}(E:1<=k/\k<=3):∀n x,fb k (pd k n x)=true
 |0,_=>rfl
 |n+1,x=>by
  unfold pd fb;rw[jd,show(pd k n (x/k)).all (λc=>jZ ((c.toNat:Int)-97) 0 ((k:Int)-1))=true from rC E n (x/k)];have h:x%k<k:=dI _ (by omega);have D:=fx (show x%k<100 by omega);simp only[List.all_cons,List.all_nil,mC,dK];rw[eT,D];omega
theorem eb{k n}(h:k<=3)(D:n<=8):k^n<=6561:=by
 have E:=fa h n;have F:=bG (n:=3) (by decide) D;have e:3^8=6561:=(by decide);omega
def iK(k n:Nat)(w:World)(e:Ending)(w':World):Prop:=∃v,e= .returned v/\w'.ownsRow w.1.size 9 1 v (k^n) (ap (wds k n (k^n)))/\Below w.1.size w w'
theorem mL(k n:Nat)(h:k<=3)(O:n<=8)(w):
 Calls prog 155 #[Ud k,Ud n] w λe w'=>e= .returned (Ud ((k^n:Nat):Int))/\w=w':=by
 go_enter func155,ntmps155;go_wp2;go_loop[5,7] (λo i=>∃j q:Nat,j<=n/\i= Ud j/\o= Ud q/\bv (q=k^j)) (λ_ i=>n-(intOf i).toNat);exact⟨0,1,by omega,rfl,rfl,rfl⟩;obtain⟨j,q,F,rfl,rfl,H⟩:=hrel;by_cases I:j<n
 ·have D:=eb h (show j<=8 by omega);have E:=eb h (show j+1<=8 by omega);rw[ft,<-H.o] at E;rw[<-H.o] at D;have J:(0:Int)<=(q:Int)*k/\(q:Int)*k<=6561:=by
   have:((q*k:Nat):Int)<=6561:=(by omega);rw[fP] at this;exact⟨by rw[<-fP];omega,this⟩
  go_wp2;go_round;exact⟨j+1,q*k,by omega,by go_num,by go_num,by show _=_;rw[H.o,ft]⟩;simp[intOf];omega
 ·obtain rfl:j=n:=by omega
  go_wp2;go_ret;exact⟨cW (by rw[H.o];first|done|simp),rfl⟩
theorem ls(k n:Nat)(w)(h:1<=k/\k<=3)(E:n<=8):
 Calls prog 222 #[Ud k,Ud n] w (iK k n w):=by
 have a2:=eb h.2 E;obtain⟨m,D⟩:=aB (k^n);have W:=aa D;rw[<-D] at a2;have U:=aa h;have Y:=aa E;have I:=aa (λw:World=>mL k n h.2 E w);rw[<-D] at I;clear D h E;go_enter func222,ntmps222;go_wp2_with fail;refine(I.o _).mono ?_;rintro e w' ⟨rfl,rfl⟩;go_wp2;go_loopw[5,11] (λv i wr=>∃j:Nat,j<=m/\i= Ud j/\wr.ownsRow w.1.size 9 1 v j (ap (wds k n j))/\Below w.1.size w wr) (λ_ i _=>m-(intOf i).toNat);exact⟨0,by omega,rfl,bd #[] _ rfl aQ (by unfold maxLen;simp),aZ.alloc aQ _⟩;obtain⟨j,a3,rfl,Q,F⟩:=hrel;by_cases a4:j<m
 ·go_wp2_with fail;refine(NL k n j _ U.o (by have:=Y.o;omega) (by omega)).mono ?_;rintro e a5 ⟨rfl,J⟩;have a1:=ai Q J;have O:=F.trans (J.mono F.size);go_wp2_with(first|(at_builtin;go_must(refine jx rfl _ _ 26 rfl w.1.size 9 (.string ByteArray.empty) 16 underlying26 iG rfl _ j (ap (wds k n j)) _ a1 rfl rfl rfl (by omega) (by unfold maxLen;omega) O O.size ?_);intro v' a6 a0 Z));go_roundw;exact⟨j+1,by omega,by go_num,by rw[FC];exact a0,Z⟩;simp[intOf];omega
 ·obtain rfl:j=m:=by omega
  go_wp2;go_ret;exact⟨_,rfl,by rw[<-W.o];exact Q,F⟩
theorem JN{x}(h:x<3):(ByteArray.mk #[97,98,99]).extract x (x+1)=⟨#[dO x]⟩:=by
 have:x=0\/x=1\/x=2:=(by omega);rcases this with rfl|rfl|rfl<;>rfl
theorem le(k n:Nat)(w)(c4:1<=k/\k<=3)(e0:n<=8):
 Calls prog 107 #[Ud k,Ud n] w (iK k n w):=by
 obtain⟨d6,b1⟩:=c4;go_enter func107,ntmps107;go_wp2;go_loopw[5,6] (λv i wr=>∃(D:Nat) (a0:Value),D<=n/\i= Ud D/\v=a0/\wr.ownsRow w.1.size 9 1 a0 (k^D) (ap (wds k D (k^D)))/\Below w.1.size w wr) (λ_ i _=>n-(intOf i).toNat);exact⟨0,_,by omega,rfl,rfl,bd #[.string ⟨#[]⟩] _ rfl aQ (by unfold maxLen;simp),aZ.alloc aQ _⟩;obtain⟨D,a0,hi,rfl,rfl,O,F⟩:=hrel;have b4:=eb b1 (show D<=8 by omega);obtain⟨m,J⟩:=aB (k^D);rw[<-J] at O b4;have a4:=aa J;have d8:1<=m:=by rw[J];exact gK _ _ (by omega)
 obtain⟨c8,c9,rfl,b5⟩:=aS O (by omega);have b7:=aa O;clear J O;by_cases d7:D<n
 ·obtain⟨Y,Z,rfl,a6,b0⟩:=b5.at_ (by omega);have b6:=aa b0;have b8:=aa (show m*k=k^(D+1) by rw[a4.o,ft]);have d9:m*k<=19683:=by have:=bX b4 b1;omega
  clear b0 b5;obtain⟨E,rfl⟩:=aB (α:=World) wr;go_wp2;go_loopw[7,8] (λv i wr=>∃h:Nat,h<=m/\i= Ud h/\wr.ownsRow E.1.size 9 1 v (h*k) (ap (wds k (D+1) (h*k)))/\Below E.1.size E wr) (λ_ i _=>m-(intOf i).toNat);exact⟨0,by omega,rfl,by rw[Nat.zero_mul];exact bd #[] _ rfl aQ (by unfold maxLen;simp),aZ.alloc aQ _⟩;obtain⟨h,d4,rfl,b3,a8⟩:=hrel;have a3:=aa b3;clear b3;by_cases b2:h<m
  ·have d5:h*k+k<=m*k:=by have:=eK k (show h+1<=m from b2);rw[mO] at this;omega
   have a9:=b6.o h _ (bJ (mt b2));have a2:=aa a9;clear a9;go_wp2;go_loopw[7,9] (λv i wr=>∃x:Nat,x<=k/\i= Ud x/\wr.ownsRow E.1.size 9 1 v (h*k+x) (ap (wds k (D+1) (h*k+x)))/\Below E.1.size E wr) (λ_ i _=>k-(intOf i).toNat);exact⟨0,by omega,rfl,a3.o,a8⟩;obtain⟨x,e4,rfl,Q,I⟩:=hrel;by_cases c5:x<k
   ·have c3:=(I.cell (p:=⟨Y,Z+h,none⟩) a6).trans a2.o;have c7:x<3:=(by omega);have d2:=JN c7;have e2:IntKind.i64.wrap ((x:Int)+1)=(x:Int)+1:=au _ (by omega);have e3:((x:Int)+1).toNat=x+1:=(by omega);have d0:(x:Int)<=(x:Int)+1:=(by omega);have d1:(x:Int)+1<=3:=(by omega);obtain⟨y,W⟩:=aB (h*k+x);have e5:y<=19683:=(by omega);rw[<-W] at Q;have a5:=aa (show db k D h++⟨#[dO x]⟩=db k (D+1) y by rw[W,NM c5]);have c0:=aa W;obtain⟨u,U⟩:=aB (db k D h);rw[<-U] at c3 a5;have e1:¬(9223372036854775807<u.size+1):=by rw[U,ce];omega
    have c2:=I.size;have a1:=aa a2.o;rw[<-U] at a1;clear W U;go_wp2;go_region_held3(λc1=>c1.cell? ⟨Y,Z+h,none⟩=some (.string u)) (first|go_keep|exact(a7.cell (p:=⟨Y,Z+h,none⟩) a6).trans a1.o)
     ((refine CA (by rfl) _ _ 26 (by rfl) E.1.size 9 (.string ByteArray.empty) 16 underlying26 iG rfl _ y (ap (wds k (D+1) y)) _ Q (by rfl) (by rfl) rfl (by omega) (by unfold maxLen;omega) I c2 ?_;intro v' e6 c6 a7 d3))
    go_wp2;go_roundw;exact⟨x+1,by omega,by go_num,by rw[<-kh,<-c0.o,FC,<-a5.o];exact c6,a7⟩;simp[intOf];omega
   ·obtain rfl:x=k:=by omega
    have b9:=aa Q;clear Q;go_wp2;go_roundw;exact⟨h+1,by omega,by go_num,by rw[mO,Nat.one_mul];exact b9.o,I⟩;simp[intOf];omega
  ·obtain rfl:h=m:=by omega
   go_wp2;go_roundw;exact⟨D+1,_,by omega,by go_num,rfl,by rw[<-b8.o];exact aT a3.o F.size,F.trans (a8.mono F.size)⟩;simp[intOf];omega
 ·obtain rfl:D=n:=by omega
  go_wp2;go_ret;exact⟨_,rfl,by rw[<-a4.o];exact b7.o,F⟩
def ef(o:ByteArray)(q:Nat):UInt8:=o.1.1.getD q 0
theorem iI{o}{q}(h:q<o.size):ef o q=o[q]:=by
 unfold ef;rw[ah,dq o q h];rfl
theorem QZ{o:ByteArray}{q}(h:q<o.size):o.extract q (q+1)=⟨#[ef o q]⟩:=by
 rw[iI h];have E:q<o.1.size:=h;apply jk;rw[ep];apply Array.ext
 ·simp;omega
 ·intro i F D;have hi:i=0:=by simp at D;omega
  subst hi;simp;rfl
theorem Py{k:Nat}{l}(D:fb k l=true)(h:k<=3):fG k l<k^l.length:=by
 have:=sA D h l.length aQ;rwa[gB] at this
theorem mj{k n}{o}(h:du k n o=true):∃D E:Nat,k=D/\n=E/\(D=2\/D=3)/\(1<=E/\E<=4)/\D^E<=27/\o.size=D^E/\fb D o.1.1=true:=by
 simp only[du,aC,decide_eq_true_eq] at h;obtain⟨⟨O,Q,F,I⟩,J⟩:=h;obtain⟨D,rfl⟩:∃D:Nat,k=D:=⟨k.toNat,by omega⟩;obtain⟨E,rfl⟩:∃E:Nat,n=E:=⟨n.toNat,by omega⟩;rw[eZ,eZ] at F I;exact⟨D,E,rfl,rfl,by omega,by omega,F,I,J⟩
theorem RG(k n:Nat)(o s)(w)(J:k<=3)(D:fb k s.1.1=true)(O:s.size<=16)(U:k^s.size<=o.size):
 Calls prog 279 #[.agg #[Ud k,Ud n,.string o],.string s] w λe w'=>e= .returned (.int .u8 ((ef o (fG k s.1.1)).toNat:Int))/\Below w.1.size w w':=by
 have E:=Py D J;rw[bM] at E;obtain⟨q,F⟩:=aB (fG k s.1.1);have I:=aa (λw:World=>Dv k s w J D O);rw[<-F] at E I;rw[<-F];have W:q<o.size:=(by omega);have Y:(q:Int)<(o.size:Int):=(by omega);have Q:=aa (iI W);clear D F U E O;go_enter func279,ntmps279;go_wp2_with fail;go_quiet((go_at_call 260;exact aF ((I.o _).mono (λe w' h=>⟨h.1,h.2.symm⟩))));go_wp2;go_ret;exact⟨cW (by rw[Q.o]),aA (aZ.alloc aQ _) _⟩
theorem GS(k n:Nat)(o s)(w)(D:k<=3)(Q:fb k s.1.1=true)(c3:s.size<=16)(a6:k^s.size<=o.size)(c2:o.size<=1048576):
 Calls prog 280 #[.agg #[Ud k,Ud n,.string o],.string s] w λe w'=>e= .returned (.string ⟨#[ef o (fG k s.1.1)]⟩)/\Below w.1.size w w':=by
 have a1:=Py Q D;rw[bM] at a1;have F:fG k s.1.1<o.size:=(by omega);have a2:=aa F;have W:=aa Q;have b8:o.size<=9223372036854775806:=(by omega);clear Q a6 a1 F;go_enter func280,ntmps280;go_wp2;go_loopw[5,6] (λb1 i wr=>∃j q:Nat,j<=s.size/\i= Ud j/\b1= Ud q/\bv (q=fG k (s.1.1.take j))/\Below (w.1.size+1) (w.alloc (.cells #[Ud k,Ud n,.string o] 31)) wr) (λ_ i _=>s.size-(intOf i).toNat);exact⟨0,0,by omega,rfl,rfl,by show _=_;simp[fG],aZ⟩;obtain⟨j,q,b9,rfl,rfl,h,J⟩:=hrel;have O:=cV J;have b6:wr.cell? ⟨w.1.size,0,none⟩=some (Ud k):=(O 0).1;have b7:wr.cell? ⟨w.1.size,2,none⟩=some (.string o):=(O 2).1;clear O;by_cases a0:j<s.size
 ·have c0:(j:Int)<(s.size:Int):=by omega
  have Z:=bm.1 W.o _ (aj (dq s j a0));rw[eT] at Z;obtain⟨t,I⟩:∃t:Nat,s[j].toNat=97+t:=⟨s[j].toNat-97,by omega⟩;have c4:t<3:=(by omega);have a7:q<k^j:=by rw[h.o];exact sA W.o D j (by rw[bM];omega)
  have a8:k^j<=3^16:=bn (fa D j) (bG (by omega) (by omega));have b3:(3:Nat)^16=43046721:=(by decide);have a9:q<=43046721:=(by omega);have b0:q*k<=43046721*3:=bX a9 D;obtain⟨m,E⟩:=aB (q*k);have c1:(q:Int)*(k:Int)=(m:Int):=by rw[E];simp
  rw[<-E] at b0;have a3:=aa (show fG k (s.1.1.take (j+1))=m+t by rw[qK (dq s j a0),<-h.o,I,E];omega);have a4:=aa I;obtain⟨b,a5⟩:=aB (α:=Nat) (s[j].toNat);have Y:b=97+t:=by rw[a5,I]
  have b2:=aa Y;have b5:b<100:=(by omega);have c5:IntKind.i64.wrap ((m:Int))=(m:Int):=au _ (by omega);have c6:IntKind.i64.wrap ((m:Int)+(s[j].toNat:Int))=(m:Int)+(s[j].toNat:Int):=au _ (by omega);have c7:IntKind.i64.wrap ((m:Int)+(s[j].toNat:Int)-97)=(m:Int)+(s[j].toNat:Int)-97:=au _ (by omega);clear a7 a8 Z E Y I;go_wp2;go_quiet(fail);go_wp2;go_roundw;exact⟨j+1,m+t,by omega,by go_num,by(have:=a4.o;go_num),by show _=_;rw[a3.o],aA J _⟩;simp[intOf];omega
 ·have U:=aa (show s.1.1.take j=s.1.1 from aM (by rw[bM];omega));have F:q<o.size:=by rw[h.o,U.o];exact a2.o
  have b4:(q:Int)+1<=(o.size:Int):=(by omega);have c8:=QZ F;go_wp2;go_ret;exact⟨sX (by rw[h.o,U.o]),(aZ.alloc aQ _).trans (J.mono (by omega))⟩
end Go.Proofs.YtbdlbckeffakjaaGreatDoor
