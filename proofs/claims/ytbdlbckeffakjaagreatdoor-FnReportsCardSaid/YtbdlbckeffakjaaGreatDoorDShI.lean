/- A report of a shift, the program's function. Conditions: a shift that is one, in memory; the laid tables. -/
import Derived.Sort.Walk0
import Derived.Test.YtbdlbckeffakjaaGreatDoorRoot
namespace Go.Proofs.YtbdlbckeffakjaaGreatDoor
set_option maxHeartbeats 8000000
set_option maxRecDepth 100000
open Go.Proofs.Tryz Go.RowKit
theorem LD(s):ix s 0=s:=by
 unfold ix;simp
theorem yA(s)(w)(F:fb (3:Nat) s.1.1=true)(J:1<=s.size)(I:s.size<=16):
 Calls prog 228 #[.string s,Ud 0] w λe w'=>e= .returned (.string (ix s 0))/\∃q,w'=w.drewN q:=by
 have D:=aa (λw:World=>mu 3 s w (by omega) (by unfold maxLen;omega));rw[F,decide_eq_true I] at D;have Y:=ni (x:=s) (by omega);have W:Int.tmod (0:Int) (s.size:Int)=0:=Int.zero_tmod _;have O:((s.size:Int)==0)=false:=by rw[beq_eq_false_iff_ne];omega
 have Q:¬(s.size=0):=(by omega);have U:¬((s.size:Int)=0):=(by omega);have a1:(s.extract 0 s.size).size=s.size:=by rw[bl];omega
 have a2:(s.extract 0 0).size=0:=by rw[bl];omega
 have Z:¬(9223372036854775807<s.size):=(by omega);have a0:¬(9223372036854775807<(s.extract 0 s.size).size+(s.extract 0 0).size):=(by omega);have E:=aa (LD s);obtain⟨T,h⟩:=aB (ix s 0);rw[<-h] at E;rw[<-h];go_enter func228,ntmps228;go_wp2_with fail;refine(D.o _).mono ?_;rintro e w' ⟨rfl,rfl⟩;go_wp2;go_quiet(fail);go_wp2;go_ret;exact⟨by rw[E.o];rfl,nq,rfl⟩
theorem yO(s)(q:Nat)(w:World)(F:fb (3:Nat) s.1.1=true)(Q:1<=s.size)(J:s.size<=16)(I:q<s.size):
 Calls prog 225 #[.string s,Ud q] w λe w'=>e= .returned (.string (ix s q))/\Below w.1.size w w':=by
 have D:=aa (λw:World=>ue 3 s w (by omega) (by unfold maxLen;omega));rw[F,decide_eq_true J] at D;have a1:=ni (x:=s) (by omega);have Z:Int.tmod (q:Int) (s.size:Int)=(q:Int):=(show Int.tmod (q:Int) (s.size:Int)=((q%s.size:Nat):Int) from rfl).trans (by rw[gu I]);have a0:Int.tmod ((q:Int)+(s.size:Int)) (s.size:Int)=(q:Int):=by
  have:Int.tmod ((q:Int)+(s.size:Int)) (s.size:Int)=(((q+s.size)%s.size:Nat):Int):=rfl;rw[Nat.add_mod_right,gu I] at this;exact this
 have U:((s.size:Int)==0)=false:=by rw[beq_eq_false_iff_ne];omega
 have W:¬(s.size=0):=(by omega);have Y:¬((s.size:Int)=0):=(by omega);have a6:IntKind.i64.wrap (q:Int)=(q:Int):=au _ (by omega);have a7:(s.extract q s.size).size=s.size-q:=by rw[bl];omega
 have a8:(s.extract 0 q).size=q:=by rw[bl];omega
 have a4:¬(9223372036854775807<(s.extract q s.size).size+(s.extract 0 q).size):=(by omega);have a5:¬(9223372036854775807<s.size-q+q):=(by omega);have a2:q<=s.size:=(by omega);have a3:(q:Int)<=(s.size:Int):=(by omega);have E:=aa (show ix s q=s.extract q s.size++s.extract 0 q from rfl);obtain⟨T,h⟩:=aB (ix s q);rw[<-h] at E;rw[<-h];go_enter func225,ntmps225;go_wp2_with fail;refine(D.o _).mono ?_;rintro e w' ⟨rfl,rfl⟩;go_wp2;go_quiet(fail);have O:=aA (aV w.1.size w) nq;go_wp2;go_ret;exact⟨by rw[E.o];rfl,O⟩
section
open Go.Lib Go.Sort
structure TY {α : Type} (lt : α → α → Bool) : Prop where
  irr : ∀ a, lt a a = false
  tr : ∀ a b c, lt a b = true → lt b c = true → lt a c = true
  tot : ∀ a b, lt a b = false → lt b a = false → a = b
section
variable {α : Type} (lt : α → α → Bool)
def NB(xs:List α)(x:α):Nat:=(xs.takeWhile λy=>lt y x).length
variable {lt}
theorem Fd:∀{xs:List α} {x:α} {q:Nat},(xs.take q).all (λy=>lt y x)=true->(∀y,xs[q]? =some y->lt y x=false)->q<=xs.length->NB lt xs x=q
 |[],x,q,_,_,h=>by simp at h;subst h;rfl
 |y::xs,x,0,_,h2,_=>by simp[NB,h2 y rfl]
 |y::xs,x,q+1,h1,h2,h3=>by
  simp only[List.take_succ_cons,List.all_cons,Bool.and_eq_true] at h1;have:=Fd (xs:=xs) (x:=x) (q:=q) h1.2 (λz D=>h2 z (by simpa using D)) (by simpa using h3);simp[NB,h1.1] at this⊢;exact this
end
section
variable {α : Type} [DecidableEq α] (lt : α → α → Bool)
def Ds(xs:List α)(x:α):List α:=if xs[NB lt xs x]? =some x then xs else xs.take (NB lt xs x)++x::xs.drop (NB lt xs x)
variable {lt}
end
def Tm(a b:List UInt8):Bool:=decide (a<b)
theorem SL:TY Tm:=⟨λa=>by simp[Tm],λa b c h D=>by simp only[Tm,decide_eq_true_eq] at*;exact List.lt_trans h D,λa b h D=>by
 simp only[Tm,decide_eq_false_iff_not] at*;exact List.le_antisymm (List.not_lt.1 D) (List.not_lt.1 h)⟩
end
theorem iF:(prog.info? 9).map (λi=>(i.zero,i.size,i.bytes))=some (some (.string ByteArray.empty),1,16):=by kernel_rfl
theorem kH(xs):∀u∈ap xs,u.oneCell'=true:=by
 intro u h;obtain⟨x,_,rfl⟩:=bi.1 h;rfl
theorem xf(w:World)(e):(w.alloc (.cells #[] e)).ownsRow w.1.size e 1 (.slice (some ⟨w.1.size,0,none⟩) 0 0) 0 []:=
 ⟨rfl,Or.inr ⟨w.1.size,0,#[],rfl,aN _,by show(w.1.push _)[w.1.size]? =_;simp,aN _,by unfold maxLen;omega,rfl,rfl⟩⟩
def BE(a b:ByteArray):Bool:=Op.bytesLess a.toList b.toList
theorem Jk(a b):BE a b=Tm a.1.1 b.1.1:=by unfold BE Tm;rw[Go.Proofs.bytesLess_eq,Lib.toList_data,Lib.toList_data]
theorem Ia{a b:ByteArray}(h:a.1.1=b.1.1):a=b:=by
 cases a;cases b;simp at h;rw[h]
theorem SM:TY BE:=⟨λa=>by rw[Jk];exact SL.irr _,λa b c h D=>by rw[Jk] at*;exact SL.tr _ _ _ h D,λa b h D=>by rw[Jk] at*;exact Ia (SL.tot _ _ h D)⟩
def Lp(B g:Nat)(xs:List ByteArray)(x:ByteArray)(w:World)(e:Ending)(w':World):Prop:=
 ∃h c',e= .returned (.slice (some ⟨h,0,none⟩) (Ds BE xs x).length c')/\w'.ownsRow B 9 1 (.slice (some ⟨h,0,none⟩) (Ds BE xs x).length c') (Ds BE xs x).length (ap (Ds BE xs x))/\w.grownBy w' (some g)/\(h=g\/w.1.size<=h)
theorem vn(B g cap n)(xs)(x)(w)(e6:xs.length=n)(e7:w.ownsRow B 9 1 (.slice (some ⟨g,0,none⟩) n cap) n (ap xs))(f7:B<=w.1.size)(f9:n<=1000000):
 Calls prog 189 #[.slice (some ⟨g,0,none⟩) n cap,.string x] w (Lp B g xs x w):=by
 have E:=aa e7;unfold Lp;have D:=aa e6;have f6:n<=cap:=(gG E.o).choose_spec.2.2.1;clear e7 e6;go_enter func189,ntmps189;go_wp2;go_loop[5] (λi=>∃q:Nat,q<=n/\i= Ud q/\bv ((xs.take q).all (λy=>BE y x)=true)) (λi=>n-(intOf i).toNat);exact⟨0,by omega,rfl,show _=_ by simp⟩;obtain⟨q,e8,rfl,d2⟩:=hrel;by_cases f5:q<n
 ·obtain⟨y,d7⟩:=aE (l:=xs) (n:=q) (by rw[D.o];exact f5);have f8:w.cell? ⟨g,q,none⟩=some (.string y):=(E.o.cellAt q (by omega)).trans (bJ d7);have d1:=aa d7;clear d7;cases hyx:Op.bytesLess y.toList x.toList;case true=>
   have d5:=aa hyx;go_wp2;go_round;exact⟨q+1,by omega,by go_num,fl d1.o d2.o d5.o⟩;simp[intOf];omega
  case false=>
   have d5:=aa hyx;have d8:=aa (Fd (lt:=BE) (xs:=xs) (x:=x) (q:=q) d2.o (λz d0=>by rw[d1.o] at d0;cases d0;exact d5.o) (by rw[D.o];exact e8));cases he:(y.toList==x.toList);case true=>
    have d3:=aa (show y=x by rw[beq_iff_eq,Lib.toList_data,Lib.toList_data] at he;exact Ia he);have b4:=aa (show Ds BE xs x=xs by unfold Ds;rw[d8.o,d1.o,d3.o,if_pos rfl]);go_wp2;go_ret;refine⟨g,cap,?_,?_,World.grownBy.refl _ _,Or.inl rfl⟩
    ·rw[b4.o,D.o];rfl
    ·rw[b4.o,D.o];exact E.o
   case false=>
    have d3:=aa (show y≠x by intro e;rw[e] at he;simp at he);have b4:=aa (show Ds BE xs x=xs.take q++x::xs.drop q by unfold Ds;rw[d8.o,d1.o,if_neg (by intro e;injection e with e;exact d3.o e)]);have d6:¬(cap=q):=(by omega);have J:Ds BE xs x=xs.take q++x::xs.drop q:=b4.o;have Z:(Ds BE xs x).length=q+1+(n-q):=by rw[J];have:=D.o;simp;omega
    have W:ap xs=ap (xs.take q)++ap (xs.drop q):=by rw[<-dX q xs];simp[ap]
    have a7:(ap (xs.drop q)).length=n-q:=by have:=D.o;simp[ap];omega
    have a6:(ap (xs.take q)).length=q:=by have:=D.o;simp[ap];omega
    have e2:(ap (xs.take q)).length=q*1:=(by omega);have a4:∀j u,(ap (xs.drop q))[j]? =some u->(w.alloc (.cells #[] 9)).cell? ⟨g,q+j,none⟩=some u:=by
     intro j u h;have c7:=(aw.1 h).1;first
      |exact absurd d4.o (by omega)
      |(rw[(E.o.alloc _).cellAt (q+j) (by omega),W,bj (by omega),a6,eL];exact h)
    have e1:g<w.1.size:=(E.o.lt g rfl).2;have F:=aa (And.intro Z J);have b7:=aa W;have d9:B<=g:=(E.o.lt g rfl).1;have e9:q<=cap:=(by omega);have a9:True:=trivial;clear J Z W;go_wp2_with(first
     |(at_builtin;have _t:=a9;go_must(refine aX rfl _ _ 26 rfl w.1.size 9 (.string ByteArray.empty) 16 underlying26 iF rfl w.1.size 0 0 [] (xf w _) rfl g q (n-q) (cap-q) (ap (xs.drop q)) rfl a7 a4 (kH _) (by omega) (by unfold maxLen;omega) (by simp) ?_);intro Y b8 b2 U a5 c2 e3;rw[aW] at U;clear a9;have O:Below w.1.size w b2:=(aZ.alloc aQ _).grown a5 (by simp) (by rintro k ⟨⟩;exact aN _);have a0:=ai E.o O;have a1:=zX (by rw[<-b7.o];exact a0) a6;have b5:=aa (a1.alloc (.cells #[.string x] 9));have b6:=aa (U.alloc (.cells #[.string x] 9));have b0:True:=trivial;have f1:=O.size;clear a5 U a0 a1 a4)
     |(at_builtin;have _t:=b0;go_must(refine aX rfl _ _ 26 rfl B 9 (.string ByteArray.empty) 16 underlying26 iF rfl g cap q (ap (xs.take q)) b5.o rfl b2.1.size 0 1 1 [.string x] rfl rfl (by intro j u h;match j,h with|0,h=>simp at h;subst h;simp) (by intro u a8;simp at a8;subst a8;rfl) (by omega) (by unfold maxLen;omega) (by simp;omega) ?_);intro I b9 b3 c8 Q c3 e4;clear b0;have a2:=b6.o.kept Q (Or.inr (by simp[Value.ownBlock];simp at c2;omega));have c4:∀j u,(ap (xs.drop q))[j]? =some u->b3.cell? ⟨Y,0+j,none⟩=some u:=by
        intro j u h;have c7:=(aw.1 h).1;rw[aW,a2.cellAt j (by omega),fe];exact h
       have a3:w.grownBy b3 (some g):=kR (sC (O.alloc (by omega) _) aQ) Q (Or.inl rfl);have f2:=a3.size;have c5:I=g\/w.1.size<=I:=by simp at c3;omega
       have b1:True:=trivial;clear Q a2)
     |(at_builtin;have _t:=b1;go_must(refine aX rfl _ _ 26 rfl B 9 (.string ByteArray.empty) 16 underlying26 iF rfl I b9 (q+1) (ap (xs.take q)++[.string x]) c8 rfl Y 0 (n-q) b8 (ap (xs.drop q)) rfl a7 c4 (kH _) (by omega) (by unfold maxLen;omega) (by omega) ?_);intro c1 c0 f3 c9 c6 e0 e5;clear b1))
    go_ret;refine⟨c1,c0,?_,?_,kR a3 c6 c5,by omega⟩
    ·rw[F.o.1];rfl
    ·rw[F.o.1,F.o.2,show ap (xs.take q++x::xs.drop q)=ap (xs.take q)++[.string x]++ap (xs.drop q) by simp[ap]];exact c9
 ·have f0:n=q:=by omega
  have b4:=aa (show Ds BE xs x=xs.take q++x::xs.drop q by
   have f4:=Fd (lt:=BE) (xs:=xs) (x:=x) (q:=q) d2.o (λz d0=>by rw[aU (by rw[D.o];omega)] at d0;cases d0) (by rw[D.o];exact e8);unfold Ds;rw[f4,aU (by rw[D.o];omega),if_neg (by intro e;cases e)])
  have d4:=aa f0;clear f0;by_cases d6:cap=q
  ·obtain rfl:q=cap:=d6.symm;clear d6 f6;have J:Ds BE xs x=xs.take q++x::xs.drop q:=b4.o;have Z:(Ds BE xs x).length=q+1+(n-q):=by rw[J];have:=D.o;simp;omega
   have W:ap xs=ap (xs.take q)++ap (xs.drop q):=by rw[<-dX q xs];simp[ap]
   have a7:(ap (xs.drop q)).length=n-q:=by have:=D.o;simp[ap];omega
   have a6:(ap (xs.take q)).length=q:=by have:=D.o;simp[ap];omega
   have e2:(ap (xs.take q)).length=q*1:=(by omega);have a4:∀j u,(ap (xs.drop q))[j]? =some u->(w.alloc (.cells #[] 9)).cell? ⟨g,0+j,none⟩=some u:=by
    intro j u h;have c7:=(aw.1 h).1;first
     |exact absurd d4.o (by omega)
     |(rw[(E.o.alloc _).cellAt (q+j) (by omega),W,bj (by omega),a6,eL];exact h)
   have e1:g<w.1.size:=(E.o.lt g rfl).2;have F:=aa (And.intro Z J);have b7:=aa W;have d9:B<=g:=(E.o.lt g rfl).1;have e9:q<=q:=(by omega);have a9:True:=trivial;clear J Z W;go_wp2_with(first
    |(at_builtin;have _t:=a9;go_must(refine aX rfl _ _ 26 rfl w.1.size 9 (.string ByteArray.empty) 16 underlying26 iF rfl w.1.size 0 0 [] (xf w _) rfl g 0 (n-q) 0 (ap (xs.drop q)) rfl a7 a4 (kH _) (by omega) (by unfold maxLen;omega) (by simp) ?_);intro Y b8 b2 U a5 c2 e3;rw[aW] at U;clear a9;have O:Below w.1.size w b2:=(aZ.alloc aQ _).grown a5 (by simp) (by rintro k ⟨⟩;exact aN _);have a0:=ai E.o O;have a1:=zX (by rw[<-b7.o];exact a0) a6;have b5:=aa (a1.alloc (.cells #[.string x] 9));have b6:=aa (U.alloc (.cells #[.string x] 9));have b0:True:=trivial;have f1:=O.size;clear a5 U a0 a1 a4)
    |(at_builtin;have _t:=b0;go_must(refine aX rfl _ _ 26 rfl B 9 (.string ByteArray.empty) 16 underlying26 iF rfl g q q (ap (xs.take q)) b5.o rfl b2.1.size 0 1 1 [.string x] rfl rfl (by intro j u h;match j,h with|0,h=>simp at h;subst h;simp) (by intro u a8;simp at a8;subst a8;rfl) (by omega) (by unfold maxLen;omega) (by simp;omega) ?_);intro I b9 b3 c8 Q c3 e4;clear b0;have a2:=b6.o.kept Q (Or.inr (by simp[Value.ownBlock];simp at c2;omega));have c4:∀j u,(ap (xs.drop q))[j]? =some u->b3.cell? ⟨Y,0+j,none⟩=some u:=by
       intro j u h;have c7:=(aw.1 h).1;rw[aW,a2.cellAt j (by omega),fe];exact h
      have a3:w.grownBy b3 (some g):=kR (sC (O.alloc (by omega) _) aQ) Q (Or.inl rfl);have f2:=a3.size;have c5:I=g\/w.1.size<=I:=by simp at c3;omega
      have b1:True:=trivial;clear Q a2)
    |(at_builtin;have _t:=b1;go_must(refine aX rfl _ _ 26 rfl B 9 (.string ByteArray.empty) 16 underlying26 iF rfl I b9 (q+1) (ap (xs.take q)++[.string x]) c8 rfl Y 0 (n-q) b8 (ap (xs.drop q)) rfl a7 c4 (kH _) (by omega) (by unfold maxLen;omega) (by omega) ?_);intro c1 c0 f3 c9 c6 e0 e5;clear b1))
   go_ret;refine⟨c1,c0,?_,?_,kR a3 c6 c5,by omega⟩
   ·rw[F.o.1];rfl
   ·rw[F.o.1,F.o.2,show ap (xs.take q++x::xs.drop q)=ap (xs.take q)++[.string x]++ap (xs.drop q) by simp[ap]];exact c9
  ·skip;have J:Ds BE xs x=xs.take q++x::xs.drop q:=b4.o;have Z:(Ds BE xs x).length=q+1+(n-q):=by rw[J];have:=D.o;simp;omega
   have W:ap xs=ap (xs.take q)++ap (xs.drop q):=by rw[<-dX q xs];simp[ap]
   have a7:(ap (xs.drop q)).length=n-q:=by have:=D.o;simp[ap];omega
   have a6:(ap (xs.take q)).length=q:=by have:=D.o;simp[ap];omega
   have e2:(ap (xs.take q)).length=q*1:=(by omega);have a4:∀j u,(ap (xs.drop q))[j]? =some u->(w.alloc (.cells #[] 9)).cell? ⟨g,q+j,none⟩=some u:=by
    intro j u h;have c7:=(aw.1 h).1;first
     |exact absurd d4.o (by omega)
     |(rw[(E.o.alloc _).cellAt (q+j) (by omega),W,bj (by omega),a6,eL];exact h)
   have e1:g<w.1.size:=(E.o.lt g rfl).2;have F:=aa (And.intro Z J);have b7:=aa W;have d9:B<=g:=(E.o.lt g rfl).1;have e9:q<=cap:=(by omega);have a9:True:=trivial;clear J Z W;go_wp2_with(first
    |(at_builtin;have _t:=a9;go_must(refine aX rfl _ _ 26 rfl w.1.size 9 (.string ByteArray.empty) 16 underlying26 iF rfl w.1.size 0 0 [] (xf w _) rfl g q (n-q) (cap-q) (ap (xs.drop q)) rfl a7 a4 (kH _) (by omega) (by unfold maxLen;omega) (by simp) ?_);intro Y b8 b2 U a5 c2 e3;rw[aW] at U;clear a9;have O:Below w.1.size w b2:=(aZ.alloc aQ _).grown a5 (by simp) (by rintro k ⟨⟩;exact aN _);have a0:=ai E.o O;have a1:=zX (by rw[<-b7.o];exact a0) a6;have b5:=aa (a1.alloc (.cells #[.string x] 9));have b6:=aa (U.alloc (.cells #[.string x] 9));have b0:True:=trivial;have f1:=O.size;clear a5 U a0 a1 a4)
    |(at_builtin;have _t:=b0;go_must(refine aX rfl _ _ 26 rfl B 9 (.string ByteArray.empty) 16 underlying26 iF rfl g cap q (ap (xs.take q)) b5.o rfl b2.1.size 0 1 1 [.string x] rfl rfl (by intro j u h;match j,h with|0,h=>simp at h;subst h;simp) (by intro u a8;simp at a8;subst a8;rfl) (by omega) (by unfold maxLen;omega) (by simp;omega) ?_);intro I b9 b3 c8 Q c3 e4;clear b0;have a2:=b6.o.kept Q (Or.inr (by simp[Value.ownBlock];simp at c2;omega));have c4:∀j u,(ap (xs.drop q))[j]? =some u->b3.cell? ⟨Y,0+j,none⟩=some u:=by
       intro j u h;have c7:=(aw.1 h).1;rw[aW,a2.cellAt j (by omega),fe];exact h
      have a3:w.grownBy b3 (some g):=kR (sC (O.alloc (by omega) _) aQ) Q (Or.inl rfl);have f2:=a3.size;have c5:I=g\/w.1.size<=I:=by simp at c3;omega
      have b1:True:=trivial;clear Q a2)
    |(at_builtin;have _t:=b1;go_must(refine aX rfl _ _ 26 rfl B 9 (.string ByteArray.empty) 16 underlying26 iF rfl I b9 (q+1) (ap (xs.take q)++[.string x]) c8 rfl Y 0 (n-q) b8 (ap (xs.drop q)) rfl a7 c4 (kH _) (by omega) (by unfold maxLen;omega) (by omega) ?_);intro c1 c0 f3 c9 c6 e0 e5;clear b1))
   go_ret;refine⟨c1,c0,?_,?_,kR a3 c6 c5,by omega⟩
   ·rw[F.o.1];rfl
   ·rw[F.o.1,F.o.2,show ap (xs.take q++x::xs.drop q)=ap (xs.take q)++[.string x]++ap (xs.drop q) by simp[ap]];exact c9
theorem wU(s)(w)(U:fb (3:Nat) s.1.1=true)(a4:1<=s.size)(a5:s.size<=16):
 Calls prog 151 #[.string s] w λe w'=>e= .returned (.string (kB s (s.size-1)))/\∃q,w'=w.drewN q:=by
 have a2:=aa (λw:World=>yA s w U a4 a5);have a0:=aa (λ(q:Nat) (Y:q<s.size)=>xn Y);have Z:=aa (λq:Nat=>show kB s (q+1)=(if Op.bytesLess (ix s (q+1)).toList (kB s q).toList=true then ix s (q+1) else kB s q) from rfl);have a1:=aa (λq:Nat=>show ix s q=s.extract q s.size++s.extract 0 q from rfl);clear U;go_enter func151,ntmps151;go_wp2_with fail;refine(a2.o _).mono ?_;rintro e b9 ⟨rfl,a8,rfl⟩;have a3:=aa (show ix s 0=kB s 0 from rfl);rw[a3.o];go_wp2;go_loopw[3,4] (λv i wr=>∃q:Nat,q+1<=s.size/\i= Ud ((q+1:Nat):Int)/\v= .string (kB s q)/\∃z,wr=w.drewN z) (λ_ i _=>s.size-(intOf i).toNat);exact⟨0,by omega,rfl,rfl,a8,rfl⟩;obtain⟨q,Y,rfl,rfl,z,rfl⟩:=hrel;have a7:=a0.o q (by omega);obtain⟨Q,D⟩:=aB (q+1);have I:=aa (Z.o q);have J:=aa (a1.o Q);rw[<-D] at I;have E:=aa D;rw[<-D];have b0:Q<=s.size:=(by omega);have b1:(Q:Int)<=(s.size:Int):=(by omega);obtain⟨B,h⟩:=aB (kB s q);rw[<-h] at a7 I;rw[<-h];have b3:(B.size:Int)=(s.size:Int):=(by omega);have a9:=aa h;by_cases b2:Q<s.size
 ·have a6:(Q:Int)<(s.size:Int):=by omega
  have O:=aa (show(Q:Int)+1=((q+1+1:Nat):Int) by rw[D];rfl);have b6:(s.extract Q s.size).size=s.size-Q:=by rw[bl];omega
  have b7:(s.extract 0 Q).size=Q:=by rw[bl];omega
  have b4:¬(9223372036854775807<(s.extract Q s.size).size+(s.extract 0 Q).size):=(by omega);have b5:¬(9223372036854775807<s.size-Q+Q):=(by omega);cases hless:Op.bytesLess (ix s Q).toList B.toList with
  |true=>
   have F:=aa (show kB s Q=s.extract Q s.size++s.extract 0 Q by rw[I.o,if_pos hless,J.o]);rw[J.o] at hless;clear D h;go_wp2;go_quiet(fail);obtain⟨b8,W⟩:=aB nq;try rw[<-W]
   clear W;try rw[World.drewN_drewN]
   go_wp2;go_quiet(fail);go_wp2;go_roundw;exact⟨q+1,by have:=E.o;omega,congrArg (Value.int .i64) O.o,by rw[<-E.o,F.o],_,by first|rfl|rw[World.drewN_drewN]⟩;have:=E.o;simp[intOf];omega
  |false=>
   have F:=aa (show kB s Q=B by rw[I.o,if_neg (by rw[hless];decide)]);rw[J.o] at hless;clear D h;go_wp2;go_quiet(fail);go_wp2;go_roundw;exact⟨q+1,by have:=E.o;omega,congrArg (Value.int .i64) O.o,by rw[<-E.o,F.o],_,by first|rfl|rw[World.drewN_drewN]⟩;have:=E.o;simp[intOf];omega
 ·have a6:¬((Q:Int)<(s.size:Int)):=by omega
  have F:=aa (show B=kB s (s.size-1) by rw[h];congr 1;omega);clear D h;go_wp2;go_ret;exact⟨by rw[<-F.o];rfl,z,rfl⟩
theorem MC(s:ByteArray):∀q:Nat,kB s q=if Op.bytesLess (ix s q).toList (kB s (q-1)).toList=true then ix s q else kB s (q-1)
 |0=>by
  show ix s 0=if Op.bytesLess (ix s 0).toList (ix s 0).toList=true then ix s 0 else ix s 0
  split<;>rfl
 |q+1=>rfl
theorem Pg(a b:ByteArray):(Op.bytesLess a.toList b.toList||a.toList==b.toList)= !Op.bytesLess b.toList a.toList:=by
 have h:=SM.irr a;have D:=SM.tr a b a;have E:=SM.tot a b;unfold BE at h D E;rw[oe];cases ha:Op.bytesLess a.toList b.toList<;>cases hb:Op.bytesLess b.toList a.toList
 ·rw[decide_eq_true (E ha hb)];rfl
 ·rw[decide_eq_false (λe=>by subst e;rw[h] at hb;cases hb)];rfl
 ·rfl
 ·have:=D ha hb;rw[h] at this;cases this
theorem Oj{P}(w)(u v)(D)(E):(Builtin.min_ D E #[.string u,.string v]).run P w= .ok (.string (if Op.bytesLess v.toList u.toList=true then v else u)) w:=by
 have h:=Pg u v;cases hb:Op.bytesLess v.toList u.toList<;>(rw[hb] at h;simp[Builtin.min_,Builtin.min2,go_sem,h,Op.stringOp,Result.andThen])
theorem xA(s)(w)(Z:fb (3:Nat) s.1.1=true)(a4:1<=s.size)(a5:s.size<=16):
 Calls prog 144 #[.string s] w λe w'=>e= .returned (.string (kB s (s.size-1)))/\Below w.1.size w w':=by
 have U:=aa (λ(q:Nat) (D:q<s.size) (w:World)=>yO s q w Z a4 a5 D);have b1:=aa (λ(q:Nat) (D:q<s.size)=>xn D);have b0:=aa (λq:Nat=>show kB s (q+1)=(if Op.bytesLess (ix s (q+1)).toList (kB s q).toList=true then ix s (q+1) else kB s q) from rfl);have a3:=aa (U.o 0 (by omega));have a0:=uo (s:=s) (q:=0) (by omega);clear Z;go_enter func144,ntmps144;go_wp2_with fail;refine(a3.o _).mono ?_;rintro e b4 ⟨rfl,Y⟩;have a1:=aa Y;have W:=aa (show ix s 0=kB s 0 from rfl);rw[W.o] at a0;rw[W.o];clear Y;go_wp2;try rw[a0]
 go_loopw[3,9] (λv i wr=>∃q:Nat,q<=s.size/\i= Ud (q:Int)/\v= .string (kB s (q-1))/\Below w.1.size w wr) (λ_ i _=>s.size-(intOf i).toNat);exact⟨0,by omega,rfl,rfl,a1.o⟩;obtain⟨q,D,rfl,rfl,I⟩:=hrel;by_cases a8:q<s.size
 ·have b2:(q:Int)<(s.size:Int):=by omega
  have Q:=aa (U.o q a8);obtain⟨B,E⟩:=aB (kB s (q-1));obtain⟨T,F⟩:=aB (ix s q);rw[<-F] at Q;have O:=aa (show kB s q=(if Op.bytesLess T.toList B.toList=true then T else B) from by
   rw[E,F];exact MC s q)
  rw[<-E];clear E F;have h:=λ(w:World)=>Oj (P:=prog) w B T #[9,9] 9
  rw[<-O.o] at h;obtain⟨m,J⟩:=aB (kB s q);rw[<-J] at h;have a2:=aa J;clear J O
  ·go_wp2_with fail;refine(Q.o _).mono ?_;rintro e a9 ⟨rfl,a6⟩;have a7:=I.trans (a6.mono I.size);have b3:=h a9;clear h;go_wp2;go_roundw;exact⟨q+1,by omega,by go_num,by rw[eG,<-a2.o],a7⟩;simp[intOf];omega
 ·obtain rfl:q=s.size:=by omega
  go_wp2;go_ret;exact⟨rfl,I⟩
theorem Cc(s)(w)(c4:fb (3:Nat) s.1.1=true)(a7:1<=s.size)(c8:s.size<=16):
 Calls prog 143 #[.string s] w (qi s w):=by
 have b5:=aa (λw:World=>ue 3 s w (by omega) (by unfold maxLen;omega));rw[c4,decide_eq_true c8] at b5;have e7:=ni (x:=s) (by omega);have c0:=aa (λ(q:Nat) (a1:1<=q) (e8:q<=s.size) (w:World)=>show Calls prog 224 #[.string (s.extract 0 q),Ud ((s.size/q:Nat):Int)] w λe w'=>e= .returned (.string ⟨(Lib.repeatL (s.extract 0 q).1.1 (s.size/q)).toArray⟩)/\Below w.1.size w w' from Tryz.strings_Repeat (s.extract 0 q) (s.size/q) w (by have:=ei s.size q;omega) (by
  have a7:(s.extract 0 q).size<=16:=by rw[bl];omega
  have c9:s.size/q<=16:=by have:=ei s.size q;omega
  have:=bX a7 c9;omega))
 have b3:=aa (λq:Nat=>show(s.extract 0 q).1.1=s.1.1.take q from by rw[wh];rfl);have c6:=aa (λq:Nat=>show jl s q=(decide (s.size%q=0)&&decide (Lib.repeatL (s.1.1.take q) (s.size/q)=s.1.1)) from rfl);have b9:=aa (yb (s:=s) a7);have a5:=aa (λ(q:Nat) (h:li s q=true) (b1:jl s (q+1)=false)=>ye h b1);have a2:=aa (λ(q:Nat) (d4:li s q=true) (a1:q+1<=s.size) (b1:jl s (q+1)=true)=>Gm d4 a1 b1);have b6:=aa (show li s 0=true from rfl);unfold qi;obtain⟨d7,a8⟩:=aB (qW s);rw[<-a8] at a2;rw[<-a8];obtain⟨c7,c1⟩:=aB (li s);rw[<-c1] at a5 a2 b6;clear c1 a8 c4;go_enter func143,ntmps143;go_wp2_with fail;refine(b5.o _).mono ?_;rintro e w' ⟨rfl,rfl⟩;go_wp2;go_loopw[4] (λi wr=>∃q:Nat,q+1<=s.size/\i= Ud ((q+1:Nat):Int)/\bv (c7 q=true)/\Below w.1.size w wr) (λi _=>s.size-(intOf i).toNat);exact⟨0,by omega,rfl,b6,aZ⟩;obtain⟨q,a1,rfl,a4,Y⟩:=hrel;obtain⟨Q,J⟩:=aB (q+1);have I:=aa J;have b7:=aa (show(Q:Int)+1=((q+1+1:Nat):Int) by rw[J];rfl);have d6:=aa (show s.size-(Q+1)<s.size-Q\/¬Q<s.size by omega);have b8:=aa (c6.o Q);have b0:Int.tmod (s.size:Int) (Q:Int)=((s.size%Q:Nat):Int):=eg s.size Q;have c3:Int.tdiv (s.size:Int) (Q:Int)=((s.size/Q:Nat):Int):=lF s.size Q;have d9:((Q:Int)==0)=false:=by simp;omega
 have d2:Q<=s.size:=(by omega);have e2:¬(Q=0):=(by omega);have e3:¬((Q:Int)=0):=(by omega);have f3:IntKind.i64.wrap (0:Int)=0:=au _ (by omega);have e4:(Q:Int)<=(s.size:Int):=(by omega);have d1:1<=Q:=(by omega);rw[<-J];by_cases Z:s.size%Q=0
 ·have e5:Int.tmod (s.size:Int) (Q:Int)=0:=by rw[b0,Z];rfl
  obtain⟨D,U⟩:=aB (s.size/Q);have d8:D<=16:=by rw[U];have:=ei s.size Q;omega
  have f4:IntKind.i64.wrap (D:Int)=(D:Int):=au _ (by omega);rw[<-U] at c3;have a6:=aa (λw=>c0.o Q d1 d2 w);obtain⟨X,a9⟩:=aB (α:=ByteArray) (⟨(Lib.repeatL (s.extract 0 Q).1.1 D).toArray⟩);rw[<-U,<-a9] at a6;have c2:(X.toList==s.toList)=jl s Q:=by
   rw[b8.o,decide_eq_true Z,dK,<-U,<-b3.o Q,bF,beq_iff_eq,decide_eq_true_iff,Lib.toList_data,Lib.toList_data,a9]
  have e6:=(b3.o Q);clear a9 U b0 Z c0;cases E:jl s Q with
  |true=>
   rw[E] at c2;have b4:=aa (a2.o q a4.o a1 (by rw[<-I.o];exact E));rw[<-J] at b4;clear E I J;go_wp2;have F:Below wr.1.size wr wr.drew:=aZ.drew;have b2:=Y.size;go_region_held3(λV=>Below wr.1.size wr V)
    (first|with_reducible exact F)
    (first|(go_at_call 224;refine(a6.o _).mono ?_;rintro e d5 ⟨rfl,a0⟩;have F:=F.trans (a0.mono F.size)))
   have W:=Y.trans (F.mono b2);clear F a0;go_wp2;go_quiet(fail);have d3:=aA W nq;go_wp2;go_ret2;exact⟨_,_,rfl,b4.o,d3⟩
  |false=>
   rw[E] at c2;have a3:=aa (a5.o q a4.o (by rw[<-I.o];exact E));have d0:Q<s.size:=by
    rcases eE Q s.size with h|h
    ·exact h
    ·have:Q=s.size:=by omega
     rw[this,b9.o] at E;cases E
   clear E J;go_wp2;have F:Below wr.1.size wr wr.drew:=aZ.drew;have b2:=Y.size;go_region_held3(λV=>Below wr.1.size wr V)
    (first|with_reducible exact F)
    (first|(go_at_call 224;refine(a6.o _).mono ?_;rintro e d5 ⟨rfl,a0⟩;have F:=F.trans (a0.mono F.size)))
   have W:=Y.trans (F.mono b2);go_wp2;go_roundw;exact⟨q+1,by have:=I.o;omega,congrArg (Value.int .i64) b7.o,a3,W⟩;have:=I.o;simp[intOf];omega
 ·have E:jl s Q=false:=by rw[b8.o,decide_eq_false Z];rfl
  obtain⟨O,c5⟩:=aB (s.size%Q);have f1:O<=16:=by have:=dI s.size (show 0<Q by omega);omega
  rw[<-c5] at b0;have e9:((O:Int)==0)=false:=by simp;omega
  have f0:¬(O=0):=(by omega);have f2:¬((O:Int)=0):=(by omega);have f5:IntKind.i64.wrap (O:Int)=(O:Int):=au _ (by omega);have e0:¬(Q=0):=(by omega);have e1:¬((Q:Int)=0):=(by omega);have a3:=aa (a5.o q a4.o (by rw[<-I.o];exact E));have d0:Q<s.size:=by
   rcases eE Q s.size with h|h
   ·exact h
   ·have:Q=s.size:=by omega
    rw[this,b9.o] at E;cases E
  clear E c3 J c5 Z;go_wp2;go_quiet(fail);have W:=aA Y nq;go_wp2;go_roundw;exact⟨q+1,by have:=I.o;omega,congrArg (Value.int .i64) b7.o,a3,W⟩;have:=I.o;simp[intOf];omega
theorem EA{k n i}(h:1<=k/\k<=3):fb (3:Nat) (db k n i).1.1=true:=by
 rw[eq];exact ML h.2 (rC h n i)
theorem Jx(x:ByteArray):(x++x++x++x).1.1=Lib.repeatL x.1.1 4:=by
 simp[fm,iA,Lib.repeatL]
theorem QX(k n c E h i:Nat)(a)(ss)(V)(b9:1<=k/\k<=3)(b1:aO V a n (ap ss))(c0:n<=1048576)(c4:1<=h/\h<=6)(Y:ru V)
 (b6:V.cell? ⟨E,0,none⟩=some (Ud k))(b7:V.cell? ⟨E,1,none⟩=some (.slice a n c))(O:E<V.1.size):
 Calls prog 142 #[.string (db k h i),.pointer (some ⟨E,0,none⟩)] V λe w'=>e= .returned (.bool (oV ss k h i))/\Below V.1.size V w':=by
 have b3:=ce k h i;have a3:=EA (n:=h) (i:=i) b9;have U:=aa (Cc (db k h i) V a3 (by omega) (by omega));have a1:=aa (λW=>xA (db k h i) W a3 (by omega) (by omega));have Z:=aa (λ(W:World) (J:Below V.1.size V W)=>wu (k:Int) a n c ss (db k h i++db k h i++db k h i++db k h i) W (b1.below J aQ) (by rw[aK,aK,aK];omega) c0 (em Y J aQ));have b5:=aa (λ(W:World) (J:Below V.1.size V W)=>show W.cell? ⟨E,0,none⟩=some (Ud k)/\W.cell? ⟨E,1,none⟩=some (.slice a n c) from⟨(J.cell O).trans b6,(J.cell O).trans b7⟩);have D:=aa (show oV ss k h i=(uK (db k h i)&&qW (db k h i)&&oS ss (db k h i++db k h i++db k h i++db k h i).1.1) from by rw[Jx,eq];rfl);have Q:=aa (show uK (db k h i)=decide (kB (db k h i) ((db k h i).size-1)=db k h i) from rfl);unfold qi at U;obtain⟨x,a4⟩:=aB (db k h i);rw[<-a4] at U a1 Z D b3 Q;rw[<-a4];have c6:¬(9223372036854775807<x.size+x.size):=(by omega);have c7:=(by rw[aK];omega:¬(9223372036854775807<(x++x).size+x.size));have c8:=(by rw[aK,aK];omega:¬(9223372036854775807<(x++x++x).size+x.size));have c9:¬(9223372036854775807<x.size+x.size+x.size):=(by omega);have d0:¬(9223372036854775807<x.size+x.size+x.size+x.size):=(by omega);obtain⟨A,a7⟩:=aB (oS ss (x++x++x++x).1.1);rw[<-a7] at Z D;obtain⟨a6,a9⟩:=aB (qW x);rw[<-a9] at U D;obtain⟨R,a2⟩:=aB (oV ss k h i);rw[<-a2] at D;rw[<-a2];obtain⟨a5,a8⟩:=aB (uK x);rw[<-a8] at D Q;obtain⟨m,Y⟩:=aB (kB x (x.size-1));rw[<-Y] at a1 Q;clear a7 a9 a2 a8 a4 Y b1 a3 b3;go_enter func142,ntmps142;go_wp2_with fail;refine U.o.mono ?_;rintro e d2 ⟨r,d1,rfl,b2,O⟩
 have c5:(r.toList==x.toList)=a6:=by rw[oe,b2]
 have c3:(m.toList==x.toList)=a5:=by rw[oe,Q.o]
 have a0:=aa O;clear b2 O;cases a6 with
 |false=>
  have I:=aa (show R=false by rw[D.o];simp);go_wp2;go_ret;exact⟨aG I.o.symm,a0.o⟩
 |true=>
  go_wp2_with fail;refine(a1.o _).mono ?_;rintro e d3 ⟨rfl,b0⟩;have F:=aa (a0.o.trans (b0.mono a0.o.size));obtain⟨c1,c2⟩:=b5.o _ F.o;clear b0;cases a5 with
  |false=>
   have I:=aa (show R=false by rw[D.o];rfl);go_wp2;go_ret;exact⟨aG I.o.symm,F.o⟩
  |true=>
   have I:=aa (show R=A by rw[D.o];rfl);go_wp2_with fail;refine(Z.o _ F.o).mono ?_;rintro e d4 ⟨rfl,b8⟩;have b4:=aa (F.o.trans (b8.mono F.o.size));go_wp2;go_ret;exact⟨aG I.o.symm,b4.o⟩
theorem vW(k h:Nat)(a)(n c)(ss)(w)(a3:aO w a n (ap ss))(a2:iO k ss=true)(a8:ru w)(b0:1<=h/\h<=6):
 Calls prog 60 #[.agg #[Ud k,.slice a n c],Ud h] w (dC (oV ss k h) k h w):=by
 obtain⟨a1,b7,b9,_⟩:=dD a2;have b8:ss.length=n:=by simpa[ap] using a3.len
 obtain⟨E,F⟩:=aB (w.alloc (.cells #[Ud k,.slice a n c] 28));have U:Below w.1.size w E:=by rw[F];exact aZ.alloc aQ _
 have c3:E.1.size=w.1.size+1:=by rw[F];simp
 have O:bA E w.1.size #[Ud k,.slice a n c]:=by rw[F];exact bA.new _ _ _
 have b2:=O.cell 0;have b3:=O.cell 1;have a4:=a3.below U aQ;have a9:=em a8 U aQ;have a5:=aa (kt k a n c ss E a4 a2);have Q:=aa (λ(a6:World) (D:Below E.1.size E a6)=>
  AY k h 142 (.pointer (some ⟨w.1.size,0,none⟩)) (oV ss k h) a6 a1 (by omega)
   (λi V _ I=>QX k n c w.1.size h i a ss V a1 (a4.below (D.trans (I.mono D.size)) aQ) (by omega) b0 (em a9 (D.trans (I.mono D.size)) aQ)
    ((O.below (D.trans (I.mono D.size))).cell 0) ((O.below (D.trans (I.mono D.size))).cell 1) (by have:=D.size;have:=I.size;omega))
   (λx w=>Tryz.call142 _ w))
 unfold dC at Q;unfold dC;obtain⟨d,a0⟩:=aB (((List.range (k^h)).filter (oV ss k h)).length);obtain⟨c0,Z⟩:=aB (ap (kp (oV ss k h) k h (k^h)));rw[<-a0,<-Z] at Q;rw[<-a0,<-Z];have W:=aa U;have c1:¬((h:Int)<1):=(by omega);have c2:¬((6:Int)<(h:Int)):=(by omega);clear U a3 a8 O a0 Z a1 b0 a2 b9 b8 b7 a4 a9;go_enter func60,ntmps60;go_wp2_with(rw[<-F]);first|rw[<-F]|skip
 clear F;refine a5.o.mono ?_;rintro e c7 ⟨rfl,J⟩;have c4:=(J.cell (p:=⟨w.1.size,0,none⟩) (by show w.1.size<_;omega)).trans b2;have c5:=(J.cell (p:=⟨w.1.size,1,none⟩) (by show w.1.size<_;omega)).trans b3;have Y:=aa (W.o.trans (J.mono W.o.size));have b5:=aa (Q.o _ J);clear b2 b3 Q a5 W J;go_wp2_with fail;refine b5.o.mono ?_;rintro e c8 ⟨c6,rfl,b1,a7⟩;have b6:=aa (aT (base':=w.1.size) b1 Y.o.size);have b4:=aa (Y.o.trans (a7.mono Y.o.size));clear b1 a7;go_wp2;go_ret;exact⟨_,rfl,b6.o,b4.o⟩
theorem vp(k D:Nat)(a)(n c)(ss)(w)(c8:aO w a n (ap ss))(e2:iO k ss=true)(m0:1<=D/\D<=6):
 Calls prog 65 #[.agg #[Ud k,.slice a n c],Ud D] w (dC (oV ss k D) k D w):=by
 obtain⟨b0,l7,h8,_⟩:=dD e2;have j7:ss.length=n:=by simpa[ap] using c8.len
 have e5:∀t∈ss,t.size<=3:=λt e6=>by
  obtain⟨i,hi⟩:=cf.1 e6;exact(h8 i t hi).2.2
 have h7:∀t∈ss,t.size<=1048576:=λt e6=>by have:=e5 t e6;omega
 have k0:=eb b0.2 (show D<=8 by omega);have c4:=aa (λw:World=>le k D w b0 (by omega));have f0:=aa (λ(V:World) (O:Below w.1.size w V)=>iW k a n c ss V (c8.below O aQ) e2);have f2:=aa (λw=>eB (D:Int) 1 6 w);rw[fj (show(1:Int)<=(D:Int)/\(D:Int)<=6 by omega)] at f2;have j1:=aa (λi:Nat=>ce k D i);have f7:=aa (λ(i:Nat) (V:World)=>BN (db k D i) V (EA b0) (by rw[ce];omega) (by rw[ce];omega));have i8:=aa (λ(i:Nat) (V:World)=>wU (db k D i) V (EA b0) (by rw[ce];omega) (by rw[ce];omega));have j0:=aa (λ(i:Nat) (V:World)=>Dl (db k D i) 5 V (by rw[ce];omega) (by omega));have i1:=aa (λ(i:Nat) (V:World) (O:Below w.1.size w V)=>show Calls prog 152 #[.slice a n c,.string ⟨(Lib.repeatL (db k D i).1.1 5).toArray⟩] V λe w'=>e= .returned (.bool (oS ss (Lib.repeatL (db k D i).1.1 5)))/\V=w' from me a n c ss ⟨(Lib.repeatL (db k D i).1.1 5).toArray⟩ V (c8.below O aQ) h7 (by
  show(Lib.repeatL (db k D i).1.1 5).toArray.size<=_
  rw[List.size_toArray,Lib.repeatL_length,bM,ce];omega) (by omega))
 have f6:=aa (λi:Nat=>show oV ss k D i=(uK (db k D i)&&qW (db k D i)&&oS ss (Lib.repeatL (db k D i).1.1 5)) from by
  rw[Si (by rw[bM,ce];omega) e5,eq];rfl)
 have i7:=aa (λi:Nat=>show uK (db k D i)=decide (kB (db k D i) ((db k D i).size-1)=db k D i) from rfl);unfold qi at f7;unfold iK at c4;unfold dC;obtain⟨p,e4⟩:=aB (oV ss k D);rw[<-e4] at f6;rw[<-e4];obtain⟨m,c7⟩:=aB (k^D);rw[<-c7] at c4 k0;rw[<-c7];have l8:1<=m:=by rw[c7];exact gK _ _ (by omega)
 obtain⟨F,b2⟩:=aB (w.alloc (.cells #[Ud k,.slice a n c] 28));have d5:Below w.1.size w F:=by rw[b2];exact aZ.alloc aQ _
 have h9:F.1.size=w.1.size+1:=by rw[b2];simp
 have d9:bA F w.1.size #[Ud k,.slice a n c]:=by rw[b2];exact bA.new _ _ _
 have b3:=aa (λ(V:World) (O:Below F.1.size F V)=>show(V.cell? ⟨w.1.size,0,none⟩=some (Ud k)/\V.cell? ⟨w.1.size,1,none⟩=some (.slice a n c))/\Below w.1.size w V from⟨⟨(d9.below O).cell 0,(d9.below O).cell 1⟩,d5.trans (O.mono (by omega))⟩);have f4:=aa (bd (w:=F) (base:=F.1.size) (e:=9) #[] [] rfl aQ (by unfold maxLen;simp));have c2:=aa (show Below F.1.size F (F.alloc (.cells #[] 9)) from aZ.alloc aQ _);have k1:=d5.size;obtain⟨⟨k4,k5⟩,g5⟩:=b3.o _ c2.o;have f1:=aa (f0.o _ g5);clear d5 d9 e4 c7 b0 c8 h7 e5 e2 h8 j7 g5 f0;go_enter func65,ntmps65;go_wp2_with(first|rw[<-b2]);first|rw[<-b2]|skip
 clear b2;refine f1.o.mono ?_;rintro e k8 ⟨rfl,d6⟩;have d7:Below F.1.size F k8:=c2.o.trans (d6.mono c2.o.size);obtain⟨⟨k6,k7⟩,j4⟩:=b3.o _ d7;have d2:=aa (ai f4.o d6);have e8:=aa d7;have m2:=(d2.o.lt F.1.size rfl).2;clear d6 d7 j4 k4 k5 f1 f4 c2;go_wp2_with(go_at_call 96;refine(f2.o _).mono ?_;rintro e w' ⟨rfl,rfl⟩);refine(c4.o _).mono ?_;rintro e k9 ⟨v,rfl,e3,a4⟩;obtain⟨b1,j3,rfl,j6,j9⟩:=e3.form (by omega);have l4:b1≠F.1.size:=(by omega);have f8:=aa (aT (base':=F.1.size) e3 (by omega));have f5:=aa (show k9.ownsRow F.1.size 9 1 (.slice (some ⟨F.1.size,0,none⟩) 0 0) ((List.range 0).filter p).length (ap (kp p k D 0)) from ai d2.o a4);have f3:=aa (show(Value.slice (some ⟨F.1.size,0,none⟩) 0 0).ownBlock≠some b1 by simp[Value.ownBlock];omega);have e9:=aa (e8.o.trans (a4.mono (by omega)));clear e3 a4 j9 j6 d2 e8 c4 k6 k7;go_wp2;go_loopw[5,7] (λv i wr=>∃j:Nat,j<=m/\i= Ud j/\bv (wr.ownsRow F.1.size 9 1 v ((List.range j).filter p).length (ap (kp p k D j)))/\bv (v.ownBlock≠some b1)/\bv (wr.ownsRow F.1.size 9 1 (.slice (some ⟨b1,0,none⟩) m j3) m (ap (wds k D m)))/\bv (Below F.1.size F wr)) (λ_ i _=>m-(intOf i).toNat);refine⟨0,by omega,rfl,?_,?_,f8,e9⟩
 ·rw[<-h9];exact f5
 ·rw[<-h9];exact f3
 clear f5 f3 f8 e9;obtain⟨j,l5,rfl,Y,b8,a3,J⟩:=hrel;have j5:=yk p j;by_cases j8:j<m
 ·have l6:(j:Int)<(m:Int):=by omega
  obtain⟨l1,l3,h0,h5⟩:=aS a3.o (by omega);simp only[aJ,true_and] at h0;obtain⟨rfl,rfl⟩:=h0;obtain⟨l2,m4,g9,a4,g7⟩:=h5.at_ (by omega);simp only[aI,cA,and_true] at g9;obtain⟨rfl,rfl⟩:=g9;have c6:=g7 j _ (bJ (mt j8));rw[aW] at c6;have b5:=aa (λ(V:World) (O:Below wr.1.size wr V)=>show V.cell? ⟨w.1.size,0,none⟩=some (Ud k)/\V.cell? ⟨w.1.size,1,none⟩=some (.slice a n c) from(b3.o _ (J.o.trans (O.mono J.o.size))).1);have c3:=aa (f7.o j wr);have a0:=aa (i8.o j);have a1:=aa (j0.o j);have U:=aa (λ(V:World) (O:Below wr.1.size wr V)=>i1.o j V (b3.o _ (J.o.trans (O.mono J.o.size))).2);have Z:=aa (f6.o j);have b6:=aa (i7.o j);have k2:=j1.o j;clear h5 g7;obtain⟨d,g8⟩:=aB (((List.range j).filter p).length);have a9:=aa (λh:p j=true=>uL (k:=k) (n:=D) h);have a5:=aa (λh:p j=false=>Ax (k:=k) (n:=D) h);have a6:=aa (λh:p j=true=>uV h);have a2:=aa (λh:p j=false=>Bj h);have c9:=J.o.size;have d3:=Y.o;rw[<-g8] at d3 j5 a6 a2;have Y:=aa d3;clear d3 g8;obtain⟨o,h3⟩:=aB (p j);rw[<-h3] at Z a9 a5 a6 a2;obtain⟨x,i0⟩:=aB (db k D j);rw[<-i0] at c3 a0 a1 U Z b6 k2 c6 a9;obtain⟨l0,g4⟩:=aB (α:=ByteArray) (⟨(Lib.repeatL x.1.1 5).toArray⟩);rw[<-g4] at a1 U;obtain⟨A,g1⟩:=aB (oS ss (Lib.repeatL x.1.1 5));rw[<-g1] at U Z;obtain⟨g0,g3⟩:=aB (qW x);rw[<-g3] at c3 Z;obtain⟨f9,g2⟩:=aB (uK x);rw[<-g2] at Z b6;obtain⟨k3,h1⟩:=aB (kB x (x.size-1));rw[<-h1] at a0 b6;clear h3 i0 g4 g1 g3 g2 h1;go_wp2_with fail;refine c3.o.mono ?_;rintro e c0 ⟨r,m3,rfl,h6,d8⟩;have m1:(r.toList==x.toList)=g0:=by rw[oe,h6]
  have l9:(k3.toList==x.toList)=f9:=by rw[oe,b6.o]
  have Q:=aa d8;have g6:=λ(V:World) (O:Below wr.1.size wr V)=>(O.cell (p:=⟨b1,j,none⟩) a4).trans c6
  have c1:=aa g6;obtain⟨d0,d1⟩:=b5.o c0 d8;clear h6 d8 g6 c6 c3 b6;cases f9 with
  |false=>
   obtain rfl:o=false:=by rw[Z.o];rfl
   clear Z;go_wp2;go_quiet((first|(go_at_call 151;exact Calls.quiet_of (a0.o _))|(go_at_call 153;exact aF ((a1.o _).mono (λe w' h=>⟨h.1,h.2.symm⟩)))|(go_at_call 152;exact aF ((U.o _ (aA Q.o _)).mono (λe w' h=>⟨h.1,h.2.symm⟩)))));have E:=aA Q.o nq;obtain⟨e7,I⟩:=aB (c0.drewN nq);rw[<-I] at E;rw[<-I];clear I
   ·have W:=aa (J.o.trans (E.mono c9));have a7:=aa (ai Y.o E);have a8:=aa (ai a3.o E);have b9:=W.o.size;have c5:=aH a4 E.size;have e0:=c1.o _ E;clear E b5 Y a3 J a0 a1 U Q d0 d1;have b7:=aa (a5.o (by first|rfl|trivial));have b4:=aa (a2.o (by first|rfl|trivial));clear a9 a5 a6 a2;go_wp2;go_roundw;exact⟨j+1,by omega,by go_num,aa (by rw[b7.o,b4.o];exact a7.o),b8,a8,W⟩;simp[intOf];omega
  |true=>
   cases g0 with
   |false=>
    obtain rfl:o=false:=by rw[Z.o];rfl
    clear Z;go_wp2;go_quiet((first|(go_at_call 151;exact Calls.quiet_of (a0.o _))|(go_at_call 153;exact aF ((a1.o _).mono (λe w' h=>⟨h.1,h.2.symm⟩)))|(go_at_call 152;exact aF ((U.o _ (aA Q.o _)).mono (λe w' h=>⟨h.1,h.2.symm⟩)))));have E:=aA Q.o nq;obtain⟨e7,I⟩:=aB (c0.drewN nq);rw[<-I] at E;rw[<-I];clear I
    ·have W:=aa (J.o.trans (E.mono c9));have a7:=aa (ai Y.o E);have a8:=aa (ai a3.o E);have b9:=W.o.size;have c5:=aH a4 E.size;have e0:=c1.o _ E;clear E b5 Y a3 J a0 a1 U Q d0 d1;have b7:=aa (a5.o (by first|rfl|trivial));have b4:=aa (a2.o (by first|rfl|trivial));clear a9 a5 a6 a2;go_wp2;go_roundw;exact⟨j+1,by omega,by go_num,aa (by rw[b7.o,b4.o];exact a7.o),b8,a8,W⟩;simp[intOf];omega
   |true=>
    obtain rfl:o=A:=by rw[Z.o];rfl
    clear Z;cases o with
    |false=>
     go_wp2;go_quiet((first|(go_at_call 151;exact Calls.quiet_of (a0.o _))|(go_at_call 153;exact aF ((a1.o _).mono (λe w' h=>⟨h.1,h.2.symm⟩)))|(go_at_call 152;exact aF ((U.o _ (aA Q.o _)).mono (λe w' h=>⟨h.1,h.2.symm⟩)))));have E:=aA Q.o nq;obtain⟨e7,I⟩:=aB (c0.drewN nq);rw[<-I] at E;rw[<-I];clear I
     ·have W:=aa (J.o.trans (E.mono c9));have a7:=aa (ai Y.o E);have a8:=aa (ai a3.o E);have b9:=W.o.size;have c5:=aH a4 E.size;have e0:=c1.o _ E;clear E b5 Y a3 J a0 a1 U Q d0 d1;have b7:=aa (a5.o (by first|rfl|trivial));have b4:=aa (a2.o (by first|rfl|trivial));clear a9 a5 a6 a2;go_wp2;go_roundw;exact⟨j+1,by omega,by go_num,aa (by rw[b7.o,b4.o];exact a7.o),b8,a8,W⟩;simp[intOf];omega
    |true=>
     go_wp2;go_quiet((first|(go_at_call 151;exact Calls.quiet_of (a0.o _))|(go_at_call 153;exact aF ((a1.o _).mono (λe w' h=>⟨h.1,h.2.symm⟩)))|(go_at_call 152;exact aF ((U.o _ (aA Q.o _)).mono (λe w' h=>⟨h.1,h.2.symm⟩)))));have E:=aA Q.o nq;obtain⟨e7,I⟩:=aB (c0.drewN nq);rw[<-I] at E;rw[<-I];clear I
     ·have W:=aa (J.o.trans (E.mono c9));have a7:=aa (ai Y.o E);have a8:=aa (ai a3.o E);have b9:=W.o.size;have c5:=aH a4 E.size;have e0:=c1.o _ E;clear E b5 Y a3 J a0 a1 U Q d0 d1;have j2:=aa (a9.o (by first|rfl|trivial));have i3:=aa (a6.o (by first|rfl|trivial));clear a9 a5 a6 a2;have d4:=a7.o;go_wp2_with(first|(at_builtin;go_must(refine iM rfl _ _ 26 rfl F.1.size 9 (.string ByteArray.empty) 16 underlying26 iG rfl _ d _ _ d4 rfl rfl rfl (by omega) (by unfold maxLen;omega) b9 b1 b8.o c5 ?_);intro v' m5 h4 e1 h2));have i9:=aa h4;have i4:=aa h2;have i6:=aa (a8.o.kept e1 (Or.inr λe=>b8.o (by rw[<-e];rfl)));have i2:=aa (W.o.grown e1 b9 (λk b0=>(d4.lt k b0).1));clear h4 e1 h2 d4;go_roundw;exact⟨j+1,by omega,by go_num,aa (by rw[j2.o,i3.o];exact i9.o),i4,i6,i2⟩;simp[intOf];omega
 ·obtain rfl:j=m:=by omega
  have i5:=aa (aT (base':=w.1.size) Y.o k1);go_wp2;go_ret;exact⟨_,rfl,i5.o,(b3.o _ J.o).2⟩
theorem qu(k)(a)(n c)(ss)(w)(e9:aO w a n (ap ss))(a7:iO k ss=true):
 Calls prog 14 #[.agg #[Ud k,.slice a n c]] w λe w'=>e= .returned (.string (Nt ss k))/\Below w.1.size w w':=by
 obtain⟨O,l3,l4,_⟩:=dD a7;obtain⟨F,b3⟩:=aB (w.alloc (.cells #[Ud k,.slice a n c] 28));have c2:Below w.1.size w F:=by rw[b3];exact aZ.alloc aQ _
 have n1:F.1.size=w.1.size+1:=by rw[b3];simp
 have c3:bA F w.1.size #[Ud k,.slice a n c]:=by rw[b3];exact bA.new _ _ _
 have b7:=aa (λ(V:World) (D:Below F.1.size F V)=>show(V.cell? ⟨w.1.size,0,none⟩=some (Ud k)/\V.cell? ⟨w.1.size,1,none⟩=some (.slice a n c))/\Below w.1.size w V from⟨⟨(c3.below D).cell 0,(c3.below D).cell 1⟩,c2.trans (D.mono (by omega))⟩);have b8:=λ(V:World) (D:Below F.1.size F V)=>e9.below (c2.trans (D.mono (by omega))) aQ
 have g1:=aa (iW k a n c ss F (e9.below c2 aQ) a7);have g0:=aa (λ(j:Nat) (a6:j<=6) (V:World) (D:Below F.1.size F V)=>show Calls prog 64 #[.agg #[Ud k,.slice a n c],Ud j] V λe w'=>e= .returned (Ud (KW ss k j))/\Below V.1.size V w' from vu k j a n c ss V (b8 V D) a7 a6);have g8:=aa (λ(j:Nat) (a6:1<=j/\j<=6) (V:World) (D:Below F.1.size F V)=>show Calls prog 65 #[.agg #[Ud k,.slice a n c],Ud j] V λe w'=>∃g a3 d,e= .returned (.slice g d a3)/\(d:Int)=Fo ss k j/\d<=6561/\Below V.1.size V w' from(vp k j a n c ss V (b8 V D) a7 a6).mono (by
  rintro e w' ⟨v,rfl,e8,e6⟩;have d4:=Jd (ss:=ss) O.2 a6.2;unfold Fo at d4;obtain⟨g,a3,rfl,_⟩:=aS e8 (by omega);exact⟨g,a3,_,rfl,rfl,by omega,e6⟩))
 have g9:=aa (λ(V:World) (D:Below F.1.size F V)=>show Calls prog 66 #[.agg #[Ud k,.slice a n c]] V λe w'=>∃g a3,e= .returned (.slice g (iu ss k).length a3)/\Below V.1.size V w' from(mR k a n c ss V (b8 V D) a7).mono (by
  rintro e w' ⟨v,rfl,e8,e6⟩;have d4:=eN (ss:=ss) O.2;obtain⟨g,a3,rfl,_⟩:=aS e8 (by omega);exact⟨g,a3,rfl,e6⟩))
 have f9:=aa (λ(V:World) (D:Below F.1.size F V)=>uv k a n c ss V (b8 V D) a7);have g3:=aa (eN (ss:=ss) O.2);have c8:=aa (λW=>dy ((iu ss k).length:Int) W (by have:=eN (ss:=ss) O.2;omega) (by have:=eN (ss:=ss) O.2;omega));have c9:=aa (λ(W:World) (a2:Option Addr) (cr:Nat) (f0:aO W a2 7 (af (fz (KW ss k) 0 7)))=>fp a2 7 cr _ W f0 (λx f2=>by obtain⟨i,d4,k6,rfl⟩:=lv f2;exact ES O.2 (by omega)) (by omega));rw[Ag _ _ _ (by omega),show dv ((fz (KW ss k) 0 7).map cF) ⟨#[44]⟩=QB ss k from rfl] at c9;have d0:=aa (λ(W:World) (a2:Option Addr) (cr:Nat) (f0:aO W a2 5 (af (fz (Fo ss k) 1 5)))=>fp a2 5 cr _ W f0 (λx f2=>by obtain⟨i,d4,k6,rfl⟩:=lv f2;exact Es O.2 (by omega)) (by omega));rw[Ag _ _ _ (by omega),show dv ((fz (Fo ss k) 1 5).map cF) ⟨#[44]⟩=QE ss k from rfl] at d0;have f7:=aa (λj=>qc (KW ss k) 0 j);have f8:=aa (λj=>qc (Fo ss k) 1 j);have l5:=FD (ss:=ss) O.2;have l6:=Gs (ss:=ss) O.2;have l7:=Hi (x:=((iu ss k).length:Int)) ⟨by omega,by have:=eN (ss:=ss) O.2;omega⟩;have j1:=Co (wl ss k);have e3:=aa (λW=>Pn (wl ss k) W);have Z:=aa (show Nt ss k=PQ (QB ss k) (cF ((iu ss k).length:Int)) (DY (wl ss k)) (QE ss k) from rfl);rw[KJ] at Z;obtain⟨m2,e5⟩:=aB (Nt ss k);rw[<-e5] at Z;rw[<-e5];obtain⟨a0,i9⟩:=aB (QB ss k);rw[<-i9] at Z c9 l5;obtain⟨j2,i8⟩:=aB (QE ss k);rw[<-i8] at Z d0 l6;obtain⟨d6,i7⟩:=aB (cF ((iu ss k).length:Int));rw[<-i7] at Z c8 l7;obtain⟨N,h8⟩:=aB ((iu ss k).length);rw[<-h8] at c8 g9 g3;obtain⟨cv,i0⟩:=aB (wl ss k);rw[<-i0] at Z f9 e3 j1;obtain⟨b4,j0⟩:=aB (DY cv);rw[<-j0] at Z e3 j1
 obtain⟨c0,i3⟩:=aB (KW ss k);rw[<-i3] at f7 g0 c9;obtain⟨a4,i2⟩:=aB (Fo ss k);rw[<-i2] at f8 g8 d0;have m1:=aa c2;have l9:=c3.cell 0;have m0:=c3.cell 1;clear e9 b8 c2 c3 O a7 l4 l3 e5 i9 i8 i7 h8 i0 j0 i3 i2;go_enter func14,ntmps14;go_wp2_with(rw[<-b3]);first|rw[<-b3]|skip
 clear b3;refine g1.o.mono ?_;rintro e h ⟨rfl,h9⟩;have a8:=aa h9;have g5:=aa (show((h.alloc (.cells #[] 3)).alloc (.cells #[] 3)).ownsRow h.1.size 3 1 (.slice (some ⟨h.1.size,0,none⟩) 0 0) 0 (af (fz c0 0 0)) from(bd (w:=h) (base:=h.1.size) (e:=3) #[] [] rfl aQ (by unfold maxLen;simp)).alloc _);have g6:=aa (show((h.alloc (.cells #[] 3)).alloc (.cells #[] 3)).ownsRow h.1.size 3 1 (.slice (some ⟨h.1.size+1,0,none⟩) 0 0) 0 (af (fz a4 1 0)) from by
  have:=bd (w:=h.alloc (.cells #[] 3)) (base:=h.1.size) (e:=3) #[] [] rfl (by simp) (by unfold maxLen;simp);rw[dj] at this;exact this)
 have f5:=aa (show Below h.1.size h ((h.alloc (.cells #[] 3)).alloc (.cells #[] 3)) from(aZ.alloc aQ _).alloc (by simp) _);clear l9 m0 h9 g1;go_wp2;go_loopw[3,5] (λv i wr=>∃j:Nat,j<=7/\i= Ud j/\bv (wr.ownsRow h.1.size 3 1 v j (af (fz c0 0 j)))/\bv (v.ownBlock≠some (h.1.size+1))/\bv (wr.ownsRow h.1.size 3 1 (.slice (some ⟨h.1.size+1,0,none⟩) 0 0) 0 (af (fz a4 1 0)))/\bv (Below h.1.size h wr)) (λ_ i _=>7-(intOf i).toNat);exact⟨0,by omega,rfl,g5,aa (by simp[Value.ownBlock]),g6,f5⟩;clear g5 g6 f5;obtain⟨j,a6,rfl,Y,d1,d3,Q⟩:=hrel;by_cases i4:j<7
 ·have e7:(j:Int)<=6:=by omega
  have E:=aa (a8.o.trans (Q.o.mono a8.o.size));obtain⟨f3,f4⟩:=(b7.o _ E.o).1;have d8:=aa (g0.o j (by omega) wr E.o);have a9:=aa (f7.o j);rw[aW] at a9;obtain⟨y,c7⟩:=aB (c0 j);rw[<-c7] at d8 a9;have f1:=Q.o.size;clear c7;go_wp2_with fail;refine d8.o.mono ?_;rintro e j3 ⟨rfl,U⟩;have e0:=aa (ai Y.o U);have b9:=aa (ai d3.o U);have b5:=aa (Q.o.trans (U.mono f1));have c6:=b5.o.size;have l8:=(b9.o.lt _ rfl).2;have a1:=e0.o;clear U Y d3 Q d8 f3 f4;go_wp2_with(first|(at_builtin;go_must(refine ow rfl _ _ 37 rfl h.1.size 3 (Ud 0) 8 underlying37 bK rfl _ j _ _ a1 rfl rfl rfl (by omega) (by unfold maxLen;omega) c6 ?_);intro v' j4 c5 a5 c4));have e1:=aa c5;have d9:=aa (c4 _ d1.o l8);have e4:=aa (b9.o.kept a5 (Or.inr λe=>d1.o (by rw[<-e];rfl)));have b6:=aa (b5.o.grown a5 c6 (λk O=>(a1.lt k O).1));clear c5 a5 c4 a1;go_roundw;exact⟨j+1,by omega,by go_num,aa (by rw[a9.o];exact e1.o),d9,e4,b6⟩;simp[intOf];omega
 ·have h7:j=7:=by omega
  have e7:¬((j:Int)<=6):=(by omega);have g7:=aa (show wr.ownsRow h.1.size 3 1 u3 7 (af (fz c0 0 7)) from by
   have:=Y.o;rw[h7] at this;exact this)
  clear h7 i4 a6;have b0:=aa (show∀J,u3.ownBlock=some J->(Value.slice (some ⟨h.1.size+1,0,none⟩) 0 0).ownBlock≠some J fromλJ c1 e=>by
   rw[<-e] at c1;exact d1.o (c1.trans rfl))
  clear Y d1;go_wp2;go_loopw[4,6] (λv i wr=>∃j:Nat,j<=5/\i= Ud ((j+1:Nat):Int)/\bv (wr.ownsRow h.1.size 3 1 v j (af (fz a4 1 j)))/\bv (∀J,u3.ownBlock=some J->v.ownBlock≠some J)/\bv (wr.ownsRow h.1.size 3 1 u3 7 (af (fz c0 0 7)))/\bv (Below h.1.size h wr)) (λ_ i _=>7-(intOf i).toNat);exact⟨0,by omega,rfl,d3,b0,g7,Q⟩;clear d3 b0 g7 Q;obtain⟨j,a6,rfl,Y,b0,d2,Q⟩:=hrel;obtain⟨b1,b2⟩:=aB (j+1);rw[<-b2];have j8:=aa b2;by_cases i4:j<5
  ·have e7:(b1:Int)<=5:=by omega
   have j9:=aa (show(b1:Int)+1=((j+1+1:Nat):Int) by rw[b2];rfl);have E:=aa (a8.o.trans (Q.o.mono a8.o.size));obtain⟨f3,f4⟩:=(b7.o _ E.o).1;have e2:=aa (g8.o b1 (by omega) wr E.o);have a9:=aa (show af (fz a4 1 (j+1))=af (fz a4 1 j)++[Ud (a4 b1)] from by rw[f8.o j,fX 1 j,<-b2]);obtain⟨y,c7⟩:=aB (a4 b1);rw[<-c7] at e2 a9;have f1:=Q.o.size;clear c7 b2;go_wp2_with fail;refine e2.o.mono ?_;rintro e j3 ⟨m7,m4,m5,rfl,i1,n0,U⟩;have e0:=aa (ai Y.o U);have b9:=aa (ai d2.o U);have b5:=aa (Q.o.trans (U.mono f1));have c6:=b5.o.size;have a1:=e0.o;have j7:=aa i1;clear U Y d2 Q e2 f3 f4 i1;go_wp2_with(first|(at_builtin;go_must(refine ow rfl _ _ 37 rfl h.1.size 3 (Ud 0) 8 underlying37 bK rfl _ j _ _ a1 rfl rfl rfl (by omega) (by unfold maxLen;omega) c6 ?_);intro v' j4 c5 a5 c4));have e1:=aa c5;have d9:=aa (show∀J,u3.ownBlock=some J->v'.ownBlock≠some J fromλJ c1=>c4 J (b0.o J c1) (b9.o.lt J c1).2);have e4:=aa (b9.o.kept a5 (by
    cases hv:u3.ownBlock with
    |none=>exact Or.inl rfl
    |some J=>exact Or.inr λe=>b0.o J hv e.symm))
   have b6:=aa (b5.o.grown a5 c6 (λk O=>(a1.lt k O).1));clear c5 a5 c4 a1;go_roundw;exact⟨j+1,by omega,congrArg (Value.int .i64) j9.o,aa (by rw[a9.o,<-j7.o];exact e1.o),d9,e4,b6⟩;have:=j8.o;simp[intOf];omega
  ·obtain rfl:j=5:=by omega
   have e7:¬((b1:Int)<=5):=(by omega);have E:=aa (a8.o.trans (Q.o.mono a8.o.size));obtain⟨a2,cr,k8,i6⟩:=aS d2.o (by omega);obtain⟨k3,k4,k7,i5⟩:=aS Y.o (by omega);subst k8 k7;have k2:=aa i6;have k1:=aa i5;clear i6 i5 Y d2 b0 b2;have I:Below wr.1.size wr wr.drew:=aZ.drew;have g2:=aa (λ(V:World) (D:Below wr.1.size wr V)=>show V.cell? ⟨w.1.size,0,none⟩=some (Ud k)/\V.cell? ⟨w.1.size,1,none⟩=some (.slice a n c)/\Below wr.1.size wr V from⟨(b7.o V (E.o.trans (D.mono E.o.size))).1.1,(b7.o V (E.o.trans (D.mono E.o.size))).1.2,D⟩);have h0:=aa (λ(V:World) (D:Below wr.1.size wr V)=>g9.o V (E.o.trans (D.mono E.o.size)));have j6:=aa (λ(V:World) (D:Below wr.1.size wr V)=>f9.o V (E.o.trans (D.mono E.o.size)));have g4:=aa (λ(V:World) (D:Below wr.1.size wr V)=>c9.o V a2 cr (k2.o.below D aQ));have k0:=aa (λ(V:World) (D:Below wr.1.size wr V)=>d0.o V k3 k4 (k1.o.below D aQ));have m8:=g3.o;have h1:¬((9223372036854775807:Int)<6+(a0.size:Int)):=(by omega);have h3:¬((9223372036854775807:Int)<6+(a0.size:Int)+8):=(by omega);have h5:¬((9223372036854775807:Int)<6+(a0.size:Int)+8+(d6.size:Int)):=(by omega);have h2:¬(9223372036854775807<6+a0.size):=(by omega);have h4:¬(9223372036854775807<6+a0.size+8):=(by omega);have h6:¬(9223372036854775807<6+a0.size+8+d6.size):=(by omega);go_wp2;go_region_held3(λV=>V.cell? ⟨w.1.size,0,none⟩=some (Ud k)/\V.cell? ⟨w.1.size,1,none⟩=some (.slice a n c)/\Below wr.1.size wr V)
    (first|with_reducible exact g2.o _ I)
    (first|(go_at_call 20;refine(g4.o _ I).mono ?_;rintro e n4 ⟨rfl,k9⟩;have I:=I.trans (k9.mono I.size))|(go_at_call 66;refine(h0.o _ I).mono ?_;rintro e n5 ⟨k5,m3,rfl,l0⟩;have I:=I.trans (l0.mono I.size))|(go_at_call 50;refine(c8.o _).mono ?_;rintro e j3 ⟨rfl,U⟩;have I:=I.trans (U.mono I.size)))
   have f6:=aa I;obtain⟨X,d5⟩:=aB (α:=ByteArray) (⟨#[119,111,114,100,115,32]⟩++a0++⟨#[32,115,116,97,116,101,115,32]⟩++d6);have m9:X.size<=2000:=by
    rw[d5];simp only[aK];show 6+a0.size+8+d6.size<=2000
    omega
   rw[<-d5] at Z;rw[<-d5];obtain⟨n2,n3,_⟩:=g2.o _ I;clear d5 h1 h3 h5 h2 h4 h6 g4 h0 c8;have h1:¬((9223372036854775807:Int)<(X.size:Int)+11):=(by omega);have h3:¬((9223372036854775807:Int)<(X.size:Int)+11+(b4.size:Int)):=(by omega);have h5:¬((9223372036854775807:Int)<(X.size:Int)+11+(b4.size:Int)+8):=(by omega);have k5:¬((9223372036854775807:Int)<(X.size:Int)+11+(b4.size:Int)+8+(j2.size:Int)):=(by omega);have h2:¬(9223372036854775807<X.size+11):=(by omega);have h4:¬(9223372036854775807<X.size+11+b4.size):=(by omega);have h6:¬(9223372036854775807<X.size+11+b4.size+8):=(by omega);have m6:¬(9223372036854775807<X.size+11+b4.size+8+j2.size):=(by omega);have j5:=aa (j6.o _ I);clear I;go_wp2_with fail;refine j5.o.mono ?_;rintro e n6 ⟨rfl,l1⟩;have d7:=aa (f6.o.trans (l1.mono f6.o.size));go_wp2_with fail;refine(e3.o _).mono ?_;rintro e n7 ⟨rfl,rfl⟩;go_wp2_with fail;refine(k0.o _ d7.o).mono ?_;rintro e j4 ⟨rfl,l2⟩;have b6:=aa ((b7.o _ (E.o.trans ((d7.o.trans (l2.mono d7.o.size)).mono E.o.size))).2);go_wp2;go_ret;exact⟨by rw[Z.o];rfl,b6.o⟩
theorem ym(xs)(j)(u):(af xs).set j (Ud u)=af (xs.set j u):=by simp[af,List.map_set]
theorem vZ(k E:Nat)(a)(n c)(ss)(w)(b0:aO w a n (ap ss))(c0:iO k ss=true)(p5:E<=6)(e5:ru w):
 Calls prog 58 #[.agg #[Ud k,.slice a n c],Ud E] w λe w'=>e= .returned (Ud (KU ss k E))/\Below w.1.size w w':=by
 obtain⟨a1,m3,m9,_⟩:=dD c0;have m4:ss.length=n:=by simpa[ap] using b0.len
 obtain⟨W,a5⟩:=aB (w.alloc (.cells #[Ud k,.slice a n c] 28));have a0:Below w.1.size w W:=by rw[a5];exact aZ.alloc aQ _
 have q0:W.1.size=w.1.size+1:=by rw[a5];simp
 have a9:bA W w.1.size #[Ud k,.slice a n c]:=by rw[a5];exact bA.new _ _ _
 have f4:=aa (kt k a n c ss W (b0.below a0 aQ) c0);have b2:=aa (λ(V:World) (U:Below W.1.size W V)=>sr k a n c ss V (b0.below (a0.trans (U.mono (by omega))) aQ) c0 (em e5 (a0.trans (U.mono (by omega))) aQ));have b3:=aa (λ(V:World) (U:Below W.1.size W V)=>Au k E a n c ss V (b0.below (a0.trans (U.mono (by omega))) aQ) a1 (by omega) (em e5 (a0.trans (U.mono (by omega))) aQ) (by omega));have f0:=aa (λ(V:World) (U:Below W.1.size W V)=>show(V.cell? ⟨w.1.size,0,none⟩=some (Ud k)/\V.cell? ⟨w.1.size,1,none⟩=some (.slice a n c))/\Below w.1.size w V from⟨⟨(a9.below U).cell 0,(a9.below U).cell 1⟩,a0.trans (U.mono (by omega))⟩);have f6:=aa (eN (ss:=ss) a1.2);have c5:=aa (λh=>Hu (ss:=ss) (k:=k) (n:=E) h);have c6:=aa (λh:E<2=>show KU ss k E=(((List.range (k^E)).filter (ub ss k E)).length:Int) from if_pos h);have c7:=aa (λh:¬E<2=>show KU ss k E=cd (vI (gM ss k) (iu ss k).length (E-2)) (iu ss k).length from(if_neg h).trans (TZ _ _ _));have b4:=aa (oN ss k);have c3:=aa (λp q c1 I=>xE ss k p q c1 I);have a6:=aa (λ(t q:Nat) (I:q<(iu ss k).length)=>So (eN (ss:=ss) a1.2) (λp q c1 I=>xE ss k p q c1 I) t q I);have e0:=bz (ub ss k E) (List.range (k^E));rw[cD] at e0;have m8:=eb a1.2 (show E<=8 by omega);unfold ns at b2;unfold dC at b3;obtain⟨M,g3⟩:=aB (gM ss k);obtain⟨N,d6⟩:=aB ((iu ss k).length);obtain⟨d,h4⟩:=aB (((List.range (k^E)).filter (ub ss k E)).length);obtain⟨R,d7⟩:=aB (KU ss k E);rw[<-g3,<-d6] at b2 b4 c3 a6 c7;rw[<-d6] at f6 c5;rw[<-h4] at c6 b3 e0;rw[<-d7] at c5 c6 c7;rw[<-d7];have o6:d<=6561:=(by omega)
 have k5:=aa (b4.o.len);have p3:¬((E:Int)<0):=(by omega);have p4:¬((20:Int)<(E:Int)):=(by omega);have n5:=aa a0;have n1:=a9.cell 0;have n2:=a9.cell 1;clear b0 a0 a9 c0 m9 m4 d6 g3 h4 d7 a1 e0 m8 e5 m3;obtain⟨j5,i8,j2,j3,j4⟩:=info_parts bK;go_enter func58,ntmps58;go_wp2_with(rw[<-a5]);first|rw[<-a5]|skip
 clear a5;refine f4.o.mono ?_;rintro e j6 ⟨rfl,a8⟩;obtain⟨⟨n3,n4⟩,g8⟩:=f0.o _ a8;have c8:=aa (b2.o j6 a8);have e6:=aa a8;have e9:=aa g8;have f5:=aa (b3.o j6 a8);clear n1 n2 a8 f4 b2 g8 b3;by_cases h9:E<2
 ·have k7:=aa (c6.o h9);have m6:(E:Int)<2:=(by omega);clear c8;go_wp2_with fail;refine f5.o.mono ?_;rintro e q6 ⟨q5,rfl,i1,g7⟩;obtain⟨n9,n7,rfl,_⟩:=aS i1 (by omega);have k0:=aa (e9.o.trans (g7.mono e9.o.size));clear i1 g7;go_wp2;go_ret;exact⟨by rw[k7.o];rfl,k0.o⟩
 ·have g0:=aa (c7.o h9);have m6:¬((E:Int)<2):=(by omega);clear f5;go_wp2_with fail;refine c8.o.mono ?_;rintro e D ⟨v,rfl,h7,g5⟩;have g6:=e6.o.trans (g5.mono e6.o.size);obtain⟨_,g9⟩:=f0.o _ g6;have c4:=aa g9;have f3:=aa h7;clear n3 n4 g5 g6 g9 h7 c8;by_cases b7:N=0
  ·have k6:=aa (c5.o b7);have e1:decide (N≠0)=false:=by rw[b7];rfl
   rw[e1];go_wp2;go_ret;exact⟨by rw[k6.o];rfl,c4.o⟩
  ·have e1:decide (N≠0)=true:=decide_eq_true b7;rw[e1];have o4:=f6.o;have d9:=f3.o b7;obtain⟨l3,cv,rfl,_,_⟩:=cT d9 k5.o (by omega);have l0:=aa (iH d9 b4.o (by omega) (by omega));clear d9 f3;go_wp2_with(first|(at_make;refine wpList_make_full _ rfl _ _ 37 rfl D.1.size 3 j5 (Ud 0) 1 underlying37 i8 j2 j3 .i64 .i64 _ _ N rfl rfl rfl rfl (by rw[j4];omega) (by unfold maxLen;omega) aQ ?_;intro j7 i0 h8));have f8:=aa (show j7.ownsRow D.1.size 3 1 (.slice (some ⟨D.1.size,0,none⟩) N N) N (af (xm N (λ_=>1) 0 0)) from by rw[GE,<-kC N];exact i0);have e7:=aa (show Below D.1.size D j7 from aZ.grown h8 aQ (by intro k h;cases h));clear i0 h8;go_loopw[43] (λi wr=>∃j:Nat,j<=N/\i= Ud j/\wr.ownsRow D.1.size 3 1 (.slice (some ⟨D.1.size,0,none⟩) N N) N (af (xm N (λ_=>1) j 0))/\Below D.1.size D wr) (λi _=>N-(intOf i).toNat);exact⟨0,by omega,rfl,f8.o,e7.o⟩;clear f8 e7;obtain⟨j,o8,rfl,O,Y⟩:=hrel;by_cases m5:j<N
   ·have o9:(j:Int)<(N:Int):=by omega
    have o5:=(O.cellAt j (by omega)).trans (aP (OV m5));have m1:=O.frozenAt j;have a2:=O.stored j (Ud 1);rw[ym,Kq,GF N (λ_=>1) j] at a2;have b5:=aa a2;have F:=aa Y;clear a2 O Y;go_wp2;go_roundw;exact⟨j+1,by omega,by go_num,b5.o.1,F.o.setCell aQ _⟩;simp[intOf];omega
   ·obtain rfl:j=N:=by omega
    have f9:=aa (show wr.ownsRow D.1.size 3 1 (.slice (some ⟨D.1.size,0,none⟩) j j) j (af (ju (vI M j 0) j)) from by rw[Ks] at O;exact O);have F:=aa Y;have i7:((E:Int)-2)=((E-2:Nat):Int):=(by omega);clear O Y;go_wp2;try rw[i7]
    obtain⟨T,d8⟩:=aB (E-2);rw[<-d8];have l6:T<=4:=(by omega);rw[<-d8] at g0;clear i7 d8;go_loopw[7,52] (λv i wr=>∃(t Z a4:Nat),t<=T/\i= Ud t/\v= .slice (some ⟨Z,0,none⟩) j a4/\wr.ownsRow D.1.size 3 1 (.slice (some ⟨Z,0,none⟩) j a4) j (af (ju (vI M j t) j))/\Below D.1.size D wr) (λ_ i _=>T-(intOf i).toNat);exact⟨0,D.1.size,j,by omega,rfl,rfl,f9.o,F.o⟩;clear f9 F;obtain⟨t,Z,a4,q1,rfl,rfl,O,Y⟩:=hrel;by_cases p0:t<T
    ·have q2:(t:Int)<(T:Int):=by omega
     have m2:=O.lt Z rfl;have f2:=aa O;have F:=aa Y;have i6:=Y.size;have a7:=Oz (show t<=4 by omega);have g2:=aa (λ(q:Nat) (I:q<j)=>show 0<=vI M j t q/\vI M j t q<=6561 from⟨(a6.o t q I).1,ir (a6.o t q I).2 (nr.2 a7)⟩);clear O Y a7;obtain⟨g,e2⟩:=aB (vI M j (t+1));have k3:=aa (λ(p:Nat)=>show g p=cd (λq=>cB M p q*vI M j t q) j by rw[e2];rfl);go_wp2_with(first|(at_make;refine wpList_make_full _ rfl _ _ 37 rfl D.1.size 3 j5 (Ud 0) 1 underlying37 i8 j2 j3 .i64 .i64 _ _ j rfl rfl rfl rfl (by rw[j4];omega) (by unfold maxLen;omega) i6 ?_;intro j8 i2 e4));have d0:=aa (show j8.ownsRow D.1.size 3 1 (.slice (some ⟨wr.1.size,0,none⟩) j j) j (af (xm j g 0 0)) from by rw[GE,<-kC j];exact i2);have f1:=aa (xt f2.o e4);have e8:=aa (show Below D.1.size D j8 from F.o.grown e4 i6 (by intro k h;cases h));have m7:¬(Z=wr.1.size):=(by omega);obtain⟨J,e3⟩:=aB wr.1.size;rw[<-e3] at d0 m7;rw[<-e3];have o7:D.1.size<=J:=(by omega);have k2:=aa (show ju g j=ju (vI M j (t+1)) j by rw[e2]);clear i2 e4 f2 F e3 e2 m2;go_loopw[59] (λi wr=>∃p:Nat,p<=j/\i= Ud p/\bv (wr.ownsRow D.1.size 3 1 (.slice (some ⟨J,0,none⟩) j j) j (af (xm j g p 0)))/\bv (wr.ownsRow D.1.size 3 1 (.slice (some ⟨Z,0,none⟩) j a4) j (af (ju (vI M j t) j)))/\bv (Below D.1.size D wr)) (λi _=>j-(intOf i).toNat);exact⟨0,by omega,rfl,d0,f1,e8⟩;clear d0 f1 e8;obtain⟨p,c1,rfl,Q,a3,F⟩:=hrel;by_cases b8:p<j
     ·have p6:(p:Int)<(j:Int):=by omega
      obtain⟨b,q4,a',c',r,h5,l7,h2,i5,_,g4⟩:=fQ l0.o b4.o b8;simp only[aI,cA,and_true] at h5;obtain⟨rfl,rfl⟩:=h5;have h3:=(F.o.cell (p:=⟨l3,0+p,none⟩) l7).trans h2;have g1:=aa i5;have j9:=aa g4;have f7:=aa (show wr.ownsRow D.1.size 3 1 (.slice (some ⟨J,0,none⟩) j j) j (af (xm j g p (cd (λq=>cB M p q*vI M j t q) 0))) from Q.o);rw[aW] at h3;clear h2 i5 g4 Q;go_wp2;clear h3;go_loopw[66] (λi wr=>∃q:Nat,q<=j/\i= Ud q/\bv (wr.ownsRow D.1.size 3 1 (.slice (some ⟨J,0,none⟩) j j) j (af (xm j g p (cd (λq=>cB M p q*vI M j t q) q))))/\bv (wr.ownsRow D.1.size 3 1 (.slice (some ⟨Z,0,none⟩) j a4) j (af (ju (vI M j t) j)))/\bv (Below D.1.size D wr)) (λi _=>j-(intOf i).toNat);exact⟨0,by omega,rfl,f7,a3,F⟩;clear f7 a3 F;obtain⟨q,I,rfl,Q,a3,F⟩:=hrel;by_cases b9:q<j
      ·have p7:(q:Int)<(j:Int):=by omega
       obtain⟨l2,n0,rfl,l8,h0⟩:=g1.o.at_ (by omega);have i3:=g1.o.len;have h1:=(F.o.cell (p:=⟨l2,n0+q,none⟩) l8).trans (h0 q (Ud (mP r q)) (aP (dR (by simpa[af] using (by rw[i3];exact b9:q<(af r).length)))));rw[<-j9.o q] at h1;have l9:=(a3.o.cellAt q (by omega)).trans (aP (show(ju (vI M j t) j)[q]? =some (vI M j t q) by simp[ju,b9]));have m0:=(Q.o.cellAt p (by omega)).trans (aP (OV b8));have m1:=Q.o.frozenAt p;have d3:=c3.o p q b8 b9;have d4:=g2.o q b9;have d5:=iV (f:=λq=>cB M p q*vI M j t q) (n:=j) (B:=1*6561) (λq I=>qA (c3.o p q b8 I) (g2.o q I)) q I;have b6:=qA d3 d4;have b1:=aa (show cd (λq=>cB M p q*vI M j t q) (q+1)=cd (λq=>cB M p q*vI M j t q) q+cB M p q*vI M j t q from rfl);have b5:=aa (λu c2:Int=>λ(h:wr.ownsRow D.1.size 3 1 (.slice (some ⟨J,0,none⟩) j j) j (af (xm j g p u)))=>show wr.ownsRow D.1.size 3 1 (.slice (some ⟨J,0,none⟩) j j) j (af (xm j g p u))/\(wr.setCell ⟨J,p,none⟩ (Ud c2)).ownsRow D.1.size 3 1 (.slice (some ⟨J,0,none⟩) j j) j (af (xm j g p c2))/\wr.grownBy (wr.setCell ⟨J,p,none⟩ (Ud c2)) (some J) from by
        have a2:=h.stored p (Ud c2);rw[ym,Kq] at a2;exact⟨h,by simpa using a2.1,by simpa using a2.2⟩)
       obtain⟨u,i9⟩:=aB (cd (λq=>cB M p q*vI M j t q) q);obtain⟨x,j0⟩:=aB (cB M p q);obtain⟨y,j1⟩:=aB (vI M j t q);have c9:=Q.o;rw[<-i9] at b1 d5 m0 c9;rw[<-j0] at b1 b6 h1 d3;rw[<-j1] at b1 b6 l9 d4;have d2:=aa (b5.o u (u+x*y) c9);have l4:(j:Int)*(1*6561)<=59049:=(by omega);have l5:(q:Int)*(1*6561)<=59049:=(by omega);have p9:u+x*y<=4611686018427387904:=(by omega);have p8:0<=u+x*y:=(by omega);have p1:=b6.1;have p2:x*y<=6561:=(by omega);have q3:=d5.1;clear i9 j0 j1 h0 i3 d3 d4 d5 b6 l4 l5 b5 c9 Q;go_wp2;go_region;all_goals
        go_wp2
       go_roundw;have k4:=a3.o.kept d2.o.2.2 (Or.inr (by simp[Value.ownBlock];omega));have k1:=F.o.grown d2.o.2.2 (F.o.size) (λk a1=>by injection a1 with a1;omega);exact⟨q+1,by omega,by go_num,aa (by rw[b1.o];exact ai d2.o.2.1 aZ.drew),aa (ai k4 aZ.drew),aa k1.drew⟩;simp[intOf];omega
      ·obtain rfl:q=j:=by omega
       have d1:=aa (show wr.ownsRow D.1.size 3 1 (.slice (some ⟨J,0,none⟩) q q) q (af (xm q g (p+1) 0)) from by
        have:=Q.o;rw[<-k3.o p,GF] at this;exact this)
       clear Q;go_wp2;go_roundw;exact⟨p+1,by omega,by go_num,d1,a3,F⟩;simp[intOf];omega
     ·obtain rfl:p=j:=by omega
      have d1:=aa (show wr.ownsRow D.1.size 3 1 (.slice (some ⟨J,0,none⟩) p p) p (af (ju (vI M p (t+1)) p)) from by
       have:=Q.o;rw[Ks,k2.o] at this;exact this)
      clear Q;go_wp2;go_roundw;exact⟨t+1,J,p,by omega,by go_num,rfl,d1.o,F.o⟩;simp[intOf];omega
    ·obtain rfl:t=T:=by omega
     obtain⟨n6,n8,h6,i4⟩:=aS O (by omega);simp only[aJ,true_and] at h6;obtain⟨rfl,rfl⟩:=h6;have k9:=aa i4;have F:=aa (c4.o.trans (Y.mono c4.o.size));have a7:=Oz l6;have l1:=aa (λV=>λU:aO V (some ⟨Z,0,none⟩) j (af (ju (vI M j t) j))=>EI (some ⟨Z,0,none⟩) j a4 (ju (vI M j t) j) 6561 V U (λq I=>by
      rw[za _ I];exact⟨(a6.o t q I).1,ir (a6.o t q I).2 (nr.2 a7)⟩) (by omega))
     have k8:=aa (show R=cd (mP (ju (vI M j t) j)) j by rw[g0.o];exact ic λq I=>(za _ I).symm);clear O Y i4 a7;go_wp2_with fail;refine(l1.o _ k9.o).mono ?_;rintro e q7 ⟨rfl,rfl⟩;go_wp2;go_ret;exact⟨by rw[k8.o];rfl,F.o⟩
theorem Th(k n c b j:Nat)(a)(ss)(w)(E:bA w b #[Ud k,.slice a n c])(J:aO w a n (ap ss))(I:iO k ss=true)(F:ru w)(Q:j<=6):
 Calls prog 57 #[Ud j,.pointer (some ⟨b,0,none⟩)] w λe w'=>e= .returned (Ud (KW ss k j))/\Below w.1.size w w':=by
 have D:=aa (show Calls prog 58 #[.agg #[Ud k,.slice a n c],Ud j] w λe w'=>e= .returned (Ud (KW ss k j))/\Below w.1.size w w' from vZ k j a n c ss w J I Q F);obtain⟨y,h⟩:=aB (KW ss k j);rw[<-h] at D;rw[<-h];have U:=E.cell 0;have W:=E.cell 1;clear J I F h;go_enter func57,ntmps57;go_wp2_with fail;refine D.o.mono ?_;rintro e Y ⟨rfl,O⟩;go_wp2;go_ret;exact⟨rfl,O⟩
theorem Tg(k n c b j:Nat)(a)(ss)(w)(J:bA w b #[Ud k,.slice a n c])(W:aO w a n (ap ss))(E:iO k ss=true)(U:ru w)(Q:1<=j/\j<=6):
 Calls prog 59 #[Ud j,.pointer (some ⟨b,0,none⟩)] w λe w'=>e= .returned (Ud (Fo ss k j))/\Below w.1.size w w':=by
 have a0:=(dD E).1;have I:=aa (show Calls prog 60 #[.agg #[Ud k,.slice a n c],Ud j] w λe w'=>∃g h d,e= .returned (.slice g d h)/\(d:Int)=Fo ss k j/\d<=6561/\Below w.1.size w w' from(vW k j a n c ss w W E U Q).mono (by
  rintro e w' ⟨v,rfl,a1,D⟩;have Z:=Jd (ss:=ss) a0.2 Q.2;unfold Fo at Z;obtain⟨g,h,rfl,_⟩:=aS a1 (by omega);exact⟨g,h,_,rfl,rfl,by omega,D⟩))
 obtain⟨y,F⟩:=aB (Fo ss k j);rw[<-F] at I;rw[<-F];have a3:=J.cell 0;have a4:=J.cell 1;clear W E U F;go_enter func59,ntmps59;go_wp2_with fail;refine I.o.mono ?_;rintro e a5 ⟨g,h,d,rfl,O,a2,D⟩;have Y:=aa O;clear O;go_wp2;go_ret;exact⟨by rw[<-Y.o];rfl,D⟩
theorem qG(k)(a)(n c)(ss)(w)(b8:aO w a n (ap ss))(a3:iO k ss=true)(d2:ru w)(d3:qP w):
 Calls prog 13 #[.agg #[Ud k,.slice a n c]] w λe w'=>e= .returned (.string (Nt ss k))/\Below w.1.size w w':=by
 obtain⟨I,f2,f4,_⟩:=dD a3;obtain⟨h,a4⟩:=aB (w.alloc (.cells #[Ud k,.slice a n c] 28));have a1:Below w.1.size w h:=by rw[a4];exact aZ.alloc aQ _
 have g4:h.1.size=w.1.size+1:=by rw[a4];simp
 have a2:bA h w.1.size #[Ud k,.slice a n c]:=by rw[a4];exact bA.new _ _ _
 have b1:=aa (λ(V:World) (D:Below h.1.size h V)=>show(V.cell? ⟨w.1.size,0,none⟩=some (Ud k)/\V.cell? ⟨w.1.size,1,none⟩=some (.slice a n c))/\Below w.1.size w V from⟨⟨(a2.below D).cell 0,(a2.below D).cell 1⟩,a1.trans (D.mono (by omega))⟩);have a6:=λ(V:World) (D:Below h.1.size h V)=>b8.below (a1.trans (D.mono (by omega))) aQ
 have a5:=λ(V:World) (D:Below h.1.size h V)=>em d2 (a1.trans (D.mono (by omega))) aQ
 have a9:=λ(V:World) (D:Below h.1.size h V)=>gt d3 (a1.trans (D.mono (by omega))) aQ
 have c4:=aa (kt k a n c ss h (b8.below a1 aQ) a3);have a7:=aa (λ(W:World) (F:Below h.1.size h W)=>tE 0 6 7 57 (.pointer (some ⟨w.1.size,0,none⟩)) (KW ss k) W rfl (by omega)
  (λi V a0 b5 D=>Th k n c w.1.size i a ss V ((a2.below F).below D) (a6 V (F.trans (D.mono F.size))) a3 (a5 V (F.trans (D.mono F.size))) (by omega))
  (λx w=>Tryz.call57 _ w) (λi a0 b5=>ES I.2 (by omega)) (a9 W F))
 rw[show dv ((fz (KW ss k) 0 7).map cF) ⟨#[44]⟩=QB ss k from rfl] at a7;have a8:=aa (λ(W:World) (F:Below h.1.size h W)=>tE 1 5 5 59 (.pointer (some ⟨w.1.size,0,none⟩)) (Fo ss k) W rfl (by omega)
  (λi V a0 b5 D=>Tg k n c w.1.size i a ss V ((a2.below F).below D) (a6 V (F.trans (D.mono F.size))) a3 (a5 V (F.trans (D.mono F.size))) (by omega))
  (λx w=>Tryz.call59 _ w) (λi a0 b5=>Es I.2 (by omega)) (a9 W F))
 rw[show dv ((fz (Fo ss k) 1 5).map cF) ⟨#[44]⟩=QE ss k from rfl] at a8;have c7:=aa (λ(V:World) (D:Below h.1.size h V)=>show Calls prog 61 #[.agg #[Ud k,.slice a n c]] V λe w'=>∃g b4,e= .returned (.slice g (iu ss k).length b4)/\Below V.1.size V w' from(qX k a n c ss V (a6 V D) a3 (a5 V D)).mono (by
  rintro e w' ⟨v,rfl,f3,e6⟩;have a0:=eN (ss:=ss) I.2;obtain⟨g,b4,rfl,_⟩:=aS f3 (by omega);exact⟨g,b4,rfl,e6⟩))
 have c3:=aa (λ(V:World) (D:Below h.1.size h V)=>uQ k a n c ss V (a6 V D) a3 (a5 V D));have c6:=aa (eN (ss:=ss) I.2);have b2:=aa (λ(V:World) (D:Below h.1.size h V)=>dU ((iu ss k).length:Int) V ⟨by omega,by have:=eN (ss:=ss) I.2;omega⟩ (a9 V D));have d8:=FD (ss:=ss) I.2;have d9:=Gs (ss:=ss) I.2;have e0:=Hi (x:=((iu ss k).length:Int)) ⟨by omega,by have:=eN (ss:=ss) I.2;omega⟩;have b9:=Co (wl ss k);have b3:=aa (λW=>To (wl ss k) W);have Z:=aa (show Nt ss k=dv (JB (QB ss k) (cF ((iu ss k).length:Int)) (DY (wl ss k)) (QE ss k)) ⟨#[32]⟩ from rfl);have Y:=KJ (QB ss k) (cF ((iu ss k).length:Int)) (DY (wl ss k)) (QE ss k);obtain⟨e5,b6⟩:=aB (Nt ss k);rw[<-b6] at Z;rw[<-b6];obtain⟨Q,d6⟩:=aB (QB ss k);rw[<-d6] at Z a7 d8 Y;obtain⟨O,d5⟩:=aB (QE ss k);rw[<-d5] at Z a8 d9 Y;obtain⟨J,d4⟩:=aB (cF ((iu ss k).length:Int));rw[<-d4] at Z b2 e0 Y;obtain⟨N,c8⟩:=aB ((iu ss k).length);rw[<-c8] at b2 c7 c6;obtain⟨cv,d1⟩:=aB (wl ss k);rw[<-d1] at Z c3 b3 b9 Y;obtain⟨U,d7⟩:=aB (DY cv);rw[<-d7] at Z b3 b9 Y;have e4:=aa (λV:World=>show Calls prog 40 #[.slice (some ⟨V.1.size,0,none⟩) 8 8] (V.alloc (.cells #[.string ⟨#[119,111,114,100,115]⟩,.string Q,.string ⟨#[115,116,97,116,101,115]⟩,.string J,.string ⟨#[99,111,110,110,101,99,116,101,100]⟩,.string U,.string ⟨#[111,114,98,105,116,115]⟩,.string O] 9)) λe w'=>e= .returned (.string e5)/\Below (V.1.size+1) (V.alloc (.cells #[.string ⟨#[119,111,114,100,115]⟩,.string Q,.string ⟨#[115,116,97,116,101,115]⟩,.string J,.string ⟨#[99,111,110,110,101,99,116,101,100]⟩,.string U,.string ⟨#[111,114,98,105,116,115]⟩,.string O] 9)) w' from by
  have:=xp V.1.size V.1.size 8 8 (JB Q J U O) _ rfl (bd (w:=V) (base:=V.1.size) (e:=9) #[.string ⟨#[119,111,114,100,115]⟩,.string Q,.string ⟨#[115,116,97,116,101,115]⟩,.string J,.string ⟨#[99,111,110,110,101,99,116,101,100]⟩,.string U,.string ⟨#[111,114,98,105,116,115]⟩,.string O] (ap (JB Q J U O)) rfl aQ (by unfold maxLen;simp)) (by omega) (by
   have a0:=sd (JB Q J U O) ⟨#[32]⟩;unfold PQ at Y;rw[Y] at a0;show(Lib.join ((JB Q J U O).map mW) (⟨#[32]⟩:ByteArray).1.1).length<=1000000000
   rw[<-a0];simp only[aK];show 6+Q.size+8+J.size+11+U.size+8+O.size<=1000000000
   omega)
  rw[<-Z.o] at this;rw[dj] at this;exact this)
 have g0:=aa a1;have f5:=a2.cell 0;have f6:=a2.cell 1;clear b8 a6 a5 a9 a1 a2 I a3 f4 f2 b6 d6 d5 d4 c8 d1 d7 d2 d3 Y d8 d9 e0 b9;go_enter func13,ntmps13;go_wp2_with(rw[<-a4]);first|rw[<-a4]|skip
 clear a4;refine c4.o.mono ?_;rintro e f7 ⟨rfl,b7⟩;have c0:=aa b7;have c1:=aa (a7.o f7 b7);clear f5 f6 b7 c4 a7;go_wp2_with fail;refine c1.o.mono ?_;rintro e f8 ⟨rfl,c9⟩;have b0:=aa (c0.o.trans (c9.mono c0.o.size));have c2:=aa (a8.o f8 b0.o);clear c9 a8 c1;go_wp2_with fail;refine c2.o.mono ?_;rintro e f9 ⟨rfl,d0⟩;have e1:=aa (b0.o.trans (d0.mono b0.o.size));clear d0 c2;have E:Below h.1.size h f9.drew:=e1.o.drew;have c5:=aa (λ(V:World) (D:Below h.1.size h V)=>show V.cell? ⟨w.1.size,0,none⟩=some (Ud k)/\V.cell? ⟨w.1.size,1,none⟩=some (.slice a n c)/\Below h.1.size h V from⟨(b1.o V D).1.1,(b1.o V D).1.2,D⟩);have e3:=aa (λ(V:World) (D:Below h.1.size h V) (cs:Array Value) (T:TypeId)=>c5.o (V.alloc (.cells cs T)) (D.alloc D.size _));have g3:=c6.o;go_wp2;go_region_held3(λV=>V.cell? ⟨w.1.size,0,none⟩=some (Ud k)/\V.cell? ⟨w.1.size,1,none⟩=some (.slice a n c)/\Below h.1.size h V)
  (first|with_reducible exact c5.o _ E|with_reducible exact e3.o _ E _ _)
  (first|(go_at_call 61;refine(c7.o _ E).mono ?_;rintro e g5 ⟨g2,g1,rfl,e7⟩;have E:=E.trans (e7.mono E.size))|(go_at_call 42;refine(b2.o _ E).mono ?_;rintro e g6 ⟨rfl,e8⟩;have E:=E.trans (e8.mono E.size))|(go_at_call 63;refine(c3.o _ E).mono ?_;rintro e g7 ⟨rfl,e9⟩;have E:=E.trans (e9.mono E.size))|(go_at_call 62;refine(b3.o _).mono ?_;rintro e g8 ⟨rfl,rfl⟩)|(go_at_call 40;refine(e4.o _).mono ?_;rintro e g9 ⟨rfl,f0⟩;have f1:=E.alloc E.size (.cells #[.string ⟨#[119,111,114,100,115]⟩,.string Q,.string ⟨#[115,116,97,116,101,115]⟩,.string J,.string ⟨#[99,111,110,110,101,99,116,101,100]⟩,.string U,.string ⟨#[111,114,98,105,116,115]⟩,.string O] 9);have E:=f1.trans (f0.mono (by have:=E.size;omega))))
 have e2:=aa (b1.o _ E).2;clear E;go_wp2;go_ret;exact⟨rfl,e2.o⟩
end Go.Proofs.YtbdlbckeffakjaaGreatDoor
