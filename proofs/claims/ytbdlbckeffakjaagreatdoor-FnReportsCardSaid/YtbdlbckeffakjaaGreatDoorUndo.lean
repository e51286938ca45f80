/- Codes that undo another one, the least width of one: both functions. Conditions: a code, a width from 1 to 4. -/
import Derived.Sort.OwnSortedInts
import Derived.Test.YtbdlbckeffakjaaGreatDoorDShI
namespace Go.Proofs.YtbdlbckeffakjaaGreatDoor
set_option maxHeartbeats 8000000
set_option maxRecDepth 100000
open Go.Proofs.Tryz Go.RowKit
def rF(k S u v x y:Nat):Nat:=(u*k+x)%S*S+(v*k+y)%S
def kw(o:ByteArray)(k S u v x:Nat):Nat->List Int
 |0=>[]
 |y+1=>kw o k S u v x y++(if ef o (u*k+x)=ef o (v*k+y) then[(rF k S u v x y:Int)] else[])
def iy(o:ByteArray)(k S u v:Nat):Nat->List Int
 |0=>[]
 |x+1=>iy o k S u v x++kw o k S u v x k
def sT(o:ByteArray)(k S p:Nat):List Int:=iy o k S (p/S) (p%S) k
def dH(o:ByteArray)(k S m:Nat):List (List Int):=(List.range m).map (sT o k S)
theorem qp(o:ByteArray)(k S u v x:Nat):∀y,(kw o k S u v x y).length<=y
 |0=>aN _
 |y+1=>by
  unfold kw;have:=qp o k S u v x y;rw[az];split<;>simp<;>omega
theorem mD(o:ByteArray)(k S u v:Nat):∀x,(iy o k S u v x).length<=x*k
 |0=>by simp[iy]
 |x+1=>by
  unfold iy;have h:=mD o k S u v x;have D:=qp o k S u v x k;rw[az,ik];omega
theorem zA{o:ByteArray}{k S u v x:Nat}{e:Int}:∀{y:Nat},e∈kw o k S u v x y↔∃z,z<y/\ef o (u*k+x)=ef o (v*k+z)/\e=(rF k S u v x z:Int)
 |0=>by simp[kw]
 |y+1=>by
  unfold kw;rw[cH,zA];constructor
  ·rintro(⟨z,E,h⟩|h)
   ·exact⟨z,by omega,h⟩
   ·split at h
    ·rename_i D;simp at h;exact⟨y,by omega,D,h⟩
    ·cases h
  ·rintro⟨z,E,D,h⟩;by_cases F:z=y
   ·subst F;right;rw[if_pos D];simp[h]
   ·exact Or.inl ⟨z,by omega,D,h⟩
theorem xU{o:ByteArray}{k S u v:Nat}{e:Int}:∀{x:Nat},e∈iy o k S u v x↔∃t z,t<x/\z<k/\ef o (u*k+t)=ef o (v*k+z)/\e=(rF k S u v t z:Int)
 |0=>by simp[iy]
 |x+1=>by
  unfold iy;rw[cH,xU,zA];constructor
  ·rintro(⟨t,z,E,h⟩|⟨z,D,h⟩)
   ·exact⟨t,z,by omega,h⟩
   ·exact⟨x,z,by omega,D,h⟩
  ·rintro⟨t,z,E,D,h⟩;by_cases F:t=x
   ·subst F;exact Or.inr ⟨z,D,h⟩
   ·exact Or.inl ⟨t,z,by omega,D,h⟩
theorem zB{k S u v x y}(h:0<S):rF k S u v x y<S*S:=by
 have D:=dI (u*k+x) h;have E:=dI (v*k+y) h;unfold rF;have F:(u*k+x)%S*S+S<=S*S:=by
  have:=eK S (show(u*k+x)%S+1<=S by omega);rwa[ik] at this
 omega
theorem lc(o)(k S m):(dH o k S m).length=m:=by simp[dH]
theorem tX(o)(k S m):dH o k S (m+1)=dH o k S m++[sT o k S m]:=by simp[dH,bh]
theorem xT{o}{k S m}(E:0<S):∀(i:Nat) (r:List Int),(dH o k S m)[i]? =some r->∀x∈r,0<=x/\x<((S*S:Nat):Int):=by
 intro i r h x D;unfold dH at h;rw[dl] at h;cases hg:(List.range m)[i]? with
 |none=>rw[hg] at h;cases h
 |some p=>
  rw[hg] at h;simp at h;subst h;unfold sT at D;rw[xU] at D;obtain⟨t,z,_,_,_,rfl⟩:=D;have:=zB (k:=k) (u:=p/S) (v:=p%S) (x:=t) (y:=z) E;omega
theorem IG(o)(k){S u v}(h:v<S):sT o k S (u*S+v)=iy o k S u v k:=by
 unfold sT;rw[show(u*S+v)/S=u by rw[fX,Nat.add_mul_div_right _ _ (by omega),Nat.div_eq_of_lt h,aW],show(u*S+v)%S=v by rw[fX,Nat.add_mul_mod_self_right,gu h]]
def xN(o:ByteArray)(k S:Nat)(w:World)(e:Ending)(w':World):Prop:=
 ∃v,e= .returned v/\ct 37 3 w' w.1.size v (dH o k S (S*S))/\Below w.1.size w w'
theorem pZ{k S P u x:Nat}(h:P=S*k)(D:u<S)(E:x<k):u*k+x<P:=by
 have:=eK k (show u+1<=S by omega);rw[ik] at this;omega
theorem AB:(prog.info? 3).map (λi=>(i.zero,i.size,i.bytes))=some (some (Ud 0),1,8):=by kernel_rfl
theorem Dt:(prog.info? 37).map (λi=>(i.zero,i.size,i.bytes))=some (some (.slice none 0 0),1,24):=by kernel_rfl
theorem yy(k n)(o)(w)(b2:k=2\/k=3)(l2:1<=n)(l3:n<=4)(S)(c9:S=eC k (n-1))(b0:S<=9)(k0:1<=S)(f2:o.size=S*k):
 Calls prog 161 #[.agg #[.int .i64 k,.int .i64 n,.string o]] w (xN o k S w):=by
 have d2:k<=3:=(by omega);have k9:2<=k:=(by omega);have k1:S*k<=27:=by
  have:=bX b0 d2;omega
 have i2:=aa c9;have c4:=aa (λw=>dw k (n-1) d2 (by omega) w);rw[<-c9] at c4;have h8:((n:Int)-1)=((n-1:Nat):Int):=(by omega);obtain⟨m8,f1⟩:=aB (n-1);rw[<-f1] at c4 h8;have e0:=aa f2;clear c9 b2 f1 f2;unfold xN;go_enter func161,ntmps161;go_wp2_with fail;refine(c4.o _).mono ?_;rintro e m9 ⟨rfl,rfl⟩;have c1:=aa (show∀V,Below (w.1.size+1) (w.alloc (.cells #[.int .i64 k,.int .i64 n,.string o] 31)) V->V.cell? ⟨w.1.size,0,none⟩=some (.int .i64 k)/\V.cell? ⟨w.1.size,1,none⟩=some (.int .i64 n)/\V.cell? ⟨w.1.size,2,none⟩=some (.string o) fromλV J=>⟨(cV J 0).1,(cV J 1).1,(cV J 2).1⟩);have f7:=aa (show Below (w.1.size+1) (w.alloc (.cells #[.int .i64 k,.int .i64 n,.string o] 31)) ((w.alloc (.cells #[.int .i64 k,.int .i64 n,.string o] 31)).alloc (.cells #[] 37)) from aZ.alloc (by simp) _);have d9:=aa (lj (w.alloc (.cells #[.int .i64 k,.int .i64 n,.string o] 31)) 37 (B:=(w.1.size+1)) (by simp));rw[dj] at d9;go_wp2;go_loopw[4,5] (λv i wr=>∃(u p:Nat) (F:List Value),u<=S/\i= .int .i64 u/\bv (p=u*S)/\p<=81/\bv (wr.ownsRow (w.1.size+1) 37 1 v p F)/\bv (bS 3 wr (w.1.size+1) F (dH o k S p))/\bv (Below (w.1.size+1) (w.alloc (.cells #[.int .i64 k,.int .i64 n,.string o] 31)) wr)) (λ_ i _=>S-(intOf i).toNat);exact⟨0,0,[],by omega,rfl,aa (by omega),by omega,d9,aa (bS.nil _ _ _),f7⟩;obtain⟨u,p,F,l6,rfl,a1,d4,a4,a7,O⟩:=hrel;by_cases f0:u<S
 ·have k5:(u:Int)<(S:Int):=by omega
  go_wp2;go_loopw[4,6] (λv i wr=>∃(y p:Nat) (F:List Value),y<=S/\i= .int .i64 y/\bv (p=u*S+y)/\p<=81/\bv (wr.ownsRow (w.1.size+1) 37 1 v p F)/\bv (bS 3 wr (w.1.size+1) F (dH o k S p))/\bv (Below (w.1.size+1) (w.alloc (.cells #[.int .i64 k,.int .i64 n,.string o] 31)) wr)) (λ_ i _=>S-(intOf i).toNat);exact⟨0,p,F,by omega,rfl,aa (by rw[a1.o];omega),d4,a4,a7,O⟩;obtain⟨y,p,F,m6,rfl,a1,d4,a4,a7,O⟩:=hrel;obtain⟨h,rfl⟩:=aB wr;have a6:(w.1.size+1)<=h.1.size:=by have:=O.o.size;simpa using this
  by_cases d3:y<S
  ·have k6:(y:Int)<(S:Int):=by omega
   have h2:=aa ((aV h.1.size h).alloc aQ (.cells #[] 3));have g7:=aa (lj h 3 (aN h.1.size));go_wp2;go_loopw[7,8] (λv i wr=>∃(x c g I:Nat) (ys:List Int),x<=k/\i= .int .i64 x/\v= .slice (some ⟨g,0,none⟩) c I/\bv (ys=iy o k S u y x)/\bv (c=ys.length)/\bv (wr.ownsRow h.1.size 3 1 (.slice (some ⟨g,0,none⟩) c I) c (af ys))/\bv (Below h.1.size h wr)) (λ_ i _=>k-(intOf i).toNat);exact⟨0,0,h.1.size,0,[],by omega,rfl,rfl,aa rfl,aa rfl,g7,h2⟩;obtain⟨x,c,g,I,ys,m5,rfl,rfl,a3,Q,a2,D⟩:=hrel;obtain⟨b3,f5,f6⟩:=c1.o _ (O.o.trans (D.o.mono a6));by_cases h5:x<k
   ·have k7:(x:Int)<(k:Int):=by omega
    go_wp2;go_loopw[7,9] (λv i wr=>∃(z c g I:Nat) (ys:List Int),z<=k/\i= .int .i64 z/\v= .slice (some ⟨g,0,none⟩) c I/\bv (ys=iy o k S u y x++kw o k S u y x z)/\bv (c=ys.length)/\bv (wr.ownsRow h.1.size 3 1 (.slice (some ⟨g,0,none⟩) c I) c (af ys))/\bv (Below h.1.size h wr)) (λ_ i _=>k-(intOf i).toNat);exact⟨0,c,g,I,ys,by omega,rfl,rfl,aa (by rw[a3.o];simp[kw]),Q,a2,D⟩;obtain⟨z,c,g,I,ys,m7,rfl,rfl,a3,Q,a2,D⟩:=hrel;obtain⟨b3,f5,f6⟩:=c1.o _ (O.o.trans (D.o.mono a6));by_cases h6:z<k
    ·have k8:(z:Int)<(k:Int):=by omega
     have d6:h.1.size<=wr.1.size:=D.o.size;have k4:c<=20:=by
      have i5:=mD o k S u y x;have i6:=qp o k S u y x z;have e2:x*k<=2*3:=bX (by omega) d2;rw[Q.o,a3.o,az];omega
     obtain⟨a9,d0⟩:=aB (u*k);obtain⟨V,J⟩:=aB (y*k);have e4:=pZ (P:=S*k) rfl f0 h5;have e6:=pZ (P:=S*k) rfl d3 h6;have Y:=aa (show rF k S u y x z=(u*k+x)%S*S+(y*k+z)%S from rfl);have d8:=aa (zB (k:=k) (u:=u) (v:=y) (x:=x) (y:=z) (S:=S) (by omega));have g9:S*S<=81:=bX b0 b0;have U:=aa (show kw o k S u y x (z+1)=kw o k S u y x z++(if ef o (u*k+x)=ef o (y*k+z) then[(rF k S u y x z:Int)] else[]) from rfl);rw[<-d0] at e4 Y U;rw[<-J] at e6 Y U;have k2:(u:Int)*(k:Int)=(a9:Int):=by rw[d0];simp
     have k3:(y:Int)*(k:Int)=(V:Int):=by rw[J];simp
     obtain⟨A,e3⟩:=aB (a9+x);obtain⟨B,e5⟩:=aB (V+z);rw[<-e3] at e4 Y U;rw[<-e5] at e6 Y U;have i9:(a9:Int)+(x:Int)=(A:Int):=(by omega);have j3:(V:Int)+(z:Int)=(B:Int):=(by omega);have g5:A<o.size:=by rw[e0.o];omega
     have g6:B<o.size:=by rw[e0.o];omega
     have j0:(A:Int)<(o.size:Int):=(by omega);have j4:(B:Int)<(o.size:Int):=(by omega);have i7:(0:Int)<=(A:Int):=(by omega);have j1:(0:Int)<=(B:Int):=(by omega);have i8:A<=27:=(by omega);have j2:B<=27:=(by omega);have b4:=aa (show ef o A=ef o B↔o[A].toNat=o[B].toNat by rw[iI g5,iI g6];exact dz.symm);obtain⟨E,e7⟩:=aB (rF k S u y x z);rw[<-e7] at Y d8 U;obtain⟨a5,b7⟩:=aB (A%S);obtain⟨b6,c7⟩:=aB (B%S);have l4:Int.tmod (A:Int) (S:Int)=(a5:Int):=by rw[b7];exact eg A S
     have l5:Int.tmod (B:Int) (S:Int)=(b6:Int):=by rw[c7];exact eg B S
     rw[<-b7,<-c7] at Y;obtain⟨b5,c6⟩:=aB (a5*S);have j7:(a5:Int)*(S:Int)=(b5:Int):=by rw[c6];simp
     rw[<-c6] at Y;have j6:(b5:Int)+(b6:Int)=(E:Int):=by have:=Y.o;omega
     have j5:E<81:=by have:=d8.o;omega
     have l0:¬((S:Int)=0):=(by omega);have h7:¬(S=0):=(by omega);have l1:((S:Int)==0)=false:=by simpa using h7
     have m3:IntKind.i64.wrap (a9:Int)=(a9:Int):=au _ (by omega);have m4:IntKind.i64.wrap (V:Int)=(V:Int):=au _ (by omega);have l7:IntKind.i64.wrap (A:Int)=(A:Int):=au _ (by omega);have l8:IntKind.i64.wrap (B:Int)=(B:Int):=au _ (by omega);have m0:IntKind.i64.wrap (b5:Int)=(b5:Int):=au _ (by omega);have l9:IntKind.i64.wrap (E:Int)=(E:Int):=au _ (by omega);have j8:a5<S:=by rw[b7];exact dI _ (by omega)
     have m1:IntKind.i64.wrap (a5:Int)=(a5:Int):=au _ (by omega);have m2:IntKind.i64.wrap (b6:Int)=(b6:Int):=au _ (by omega);clear d0 J e3 e5 e7 b7 c7 c6;by_cases d1:o[A].toNat=o[B].toNat
     ·have h4:((o[A].toNat:Int)==(o[B].toNat:Int))=true:=by simp[d1]
      have a0:=U.o;rw[if_pos (b4.o.2 d1)] at a0;have c2:=aa a0;clear a0 U b4;go_wp2;go_quiet(fail);obtain⟨W,d5⟩:=aB (wr.drewN nq);rw[<-d5];have b8:Below wr.1.size wr W:=by rw[d5];exact aA aZ _
      have e1:=aa (ai a2.o (b8.trans aZ.drew));have d7:=aa (D.o.trans ((b8.trans aZ.drew).mono d6));obtain⟨b3,f5,f6⟩:=c1.o W (O.o.trans ((D.o.trans (b8.mono d6)).mono a6));have f4:h.1.size<=W.drew.1.size:=d7.o.size;clear d5 b8;go_wp2_with fail;obtain⟨a8,b1⟩:=aB (α:=World->Prop) (λV=>V.cell? ⟨w.1.size,0,none⟩=some (.int .i64 k));have g1:=aa (show∀V,a8 V->V.cell? ⟨w.1.size,0,none⟩=some (.int .i64 k) fromλV J=>by rw[b1] at J;exact J);have j9:a8 W.drew:=by rw[b1];exact b3
      have g8:a8 (W.drew.alloc (.cells #[.int .i64 E] 3)):=by
       have e2:=((aV W.drew.1.size W.drew).alloc aQ (.cells #[.int .i64 E] 3)).cell (p:=⟨w.1.size,0,none⟩) (by show w.1.size<W.drew.1.size;omega);rw[b1];exact e2.trans b3
      have g0:=aa (show∀V,Below h.1.size W.drew V->a8 V fromλV h0=>by
       rw[b1];exact(h0.cell (p:=⟨w.1.size,0,none⟩) (by show w.1.size<h.1.size;omega)).trans b3)
      clear b1;refine dr (S:=a8) 22 (by kernel_rfl) ?_;iterate 20 (refine kG rfl (by kernel_rfl) (λ_ _ _ c5=>c5) (by rfl) (by assumption) (λV e9=>by have e9:=g1.o V e9;go_split_ands;go_simp;first|done|with_reducible rfl) ?_;try simp only[Act.put,ab,ac,ae])
      refine aY (i:=20) rfl (by kernel_rfl) (by decide) (λK Z=> ?_);go_simp;refine Z.out _ _ g8 ?_;clear Z K;try simp only[Act.put,ab,ac,ae]
      refine aY (i:=21) rfl (by kernel_rfl) (by decide) (λK Z=> ?_);refine Cz (by rfl) _ _ 37 (by rfl) h.1.size 3 (.int .i64 0) 8 underlying37 AB rfl _ c (af ys) _ e1.o (by rfl) (by rfl) rfl (by omega) (by unfold maxLen;omega) d7.o f4 ?_;intro v' n1 c0 h1 b9;refine Z.out _ _ (g0.o _ (aZ.grown b9 f4 (λk b2=>(e1.o.lt k b2).1))) ?_;clear Z K;try simp only[Act.put,ab,ac,ae]
      refine cU rfl (by kernel_rfl) (by kernel_rfl) (λK Z=> ?_);go_simp;refine Z.out _ _ ?_;clear Z K;obtain⟨g4,g3,rfl,_,_⟩:=dP c0 (by omega);go_wp2;go_roundw;exact⟨z+1,c+1,g4,g3,ys++[(E:Int)],by omega,by go_num,rfl,aa (by rw[c2.o,<-cJ,<-a3.o]),aa (by rw[az,<-Q.o];rfl),aa (by simpa[af] using c0),aa h1⟩;simp[intOf];omega
     ·have h4:((o[A].toNat:Int)==(o[B].toNat:Int))=false:=by simp;omega
      have a0:=U.o;rw[if_neg (λc5=>d1 (b4.o.1 c5)),jc] at a0;have c2:=aa a0;clear a0 U b4;go_wp2;go_quiet(fail);go_wp2;go_roundw;exact⟨z+1,c,g,I,ys,by omega,by go_num,rfl,aa (by rw[c2.o];exact a3.o),Q,aa (ai a2.o (aA aZ _)),aa (D.o.trans ((aA aZ _).mono d6))⟩;simp[intOf];omega
    ·obtain rfl:z=k:=by omega
     go_wp2;go_roundw;exact⟨x+1,c,g,I,ys,by omega,by go_num,rfl,a3,Q,a2,D⟩;simp[intOf];omega
   ·obtain rfl:x=k:=by omega
    have i0:=pZ (k:=S) (P:=S*S) rfl f0 d3;have g9:S*S<=81:=bX b0 b0;have e8:=a1.o;have h9:p+1<=81:=(by omega);have h3:h.1.size<=g:=(a2.o.lt g rfl).1;have c8:=a2.o;have i1:=Q;rw[Q.o] at c8;have c3:=aa (ai a4.o D.o);have g2:=aa (a7.o.moreAt (eU D.o) h3 (aT c8 a6));have f8:=aa (O.o.trans (D.o.mono a6));have f3:(w.1.size+1)<=wr.1.size:=bn a6 D.o.size;have f9:=aa (show dH o x S (p+1)=dH o x S p++[ys] by rw[tX,e8,IG o x d3,a3.o]);clear c8 i0 e8;go_wp2_with(first|(at_builtin;go_must(refine eu rfl _ _ 24 rfl (w.1.size+1) 37 (.slice none 0 0) 24 underlying24 Dt rfl _ p F _ c3.o rfl rfl rfl (by omega) (by unfold maxLen;omega) f3 ?_);intro v' n0 c0 b9));go_roundw;exact⟨y+1,p+1,F++[.slice (some ⟨g,0,none⟩) c I],by omega,by go_num,aa (by rw[a1.o];omega),h9,aa c0,aa (by have:=g2.o.kept c3.o (by decide) b9;rw[<-Q.o] at this;rw[f9.o];exact this),aa (f8.o.grown b9 f3 (λk b2=>(c3.o.lt k b2).1))⟩;simp[intOf];omega
  ·obtain rfl:y=S:=by omega
   go_wp2;go_roundw;exact⟨u+1,p,F,by omega,by go_num,aa (by rw[a1.o,ik]),d4,a4,a7,O⟩;simp[intOf];omega
 ·obtain rfl:u=S:=by omega
  obtain⟨i3,i4,rfl,_⟩:=aS a4.o (by omega);go_wp2;go_ret;exact⟨_,rfl,ct.base (base:=(w.1.size+1)) ⟨F,by rw[lc,<-a1.o];exact a4.o,by rw[<-a1.o];exact a7.o⟩ (by omega),(aZ.alloc aQ _).trans (O.o.mono (by omega))⟩
def tU(o:ByteArray)(k n:Nat):Prop:=
 if n=1 then∀x y,y<x->x<o.size->ef o x≠ef o y
 else∀p,p<eC k (n-1)*eC k (n-1)->jb (dH o k (eC k (n-1)) (eC k (n-1)*eC k (n-1))) (eC k (n-1)*eC k (n-1)) p->p/eC k (n-1)=p%eC k (n-1)
def wI(P:Prop)(w:World)(e:Ending)(w':World):Prop:=∃b:Bool,e= .returned (.bool b)/\(b=true↔P)/\Below w.1.size w w'
theorem lT{k n}(J:k=2\/k=3)(h:1<=n)(D:n<=4)(F:k^n<=27):1<=eC k (n-1)/\eC k (n-1)<=9/\k^n=eC k (n-1)*k:=by
 have E:∀n,n<=4->1<=n->(1<=eC 2 (n-1)/\eC 2 (n-1)<=9/\2^n=eC 2 (n-1)*2):=(by decide);have I:∀n,n<=4->1<=n->3^n<=27->(1<=eC 3 (n-1)/\eC 3 (n-1)<=9/\3^n=eC 3 (n-1)*3):=(by decide);rcases J with rfl|rfl
 ·exact E n D h
 ·exact I n D h F
theorem mZ(k n:Nat)(o)(w)(h5:o.size<=maxLen)(h:du k n o=true):
 Calls prog 76 #[.agg #[Ud k,Ud n,.string o]] w (wI (tU o k n) w):=by
 obtain⟨E,I,e7,f1,O,⟨e8,f0⟩,a2,b6,b5⟩:=mj h;obtain rfl:E=k:=(by omega);obtain rfl:I=n:=(by omega);have a3:=aa (λw:World=>gh E I o w h5);rw[h] at a3;obtain⟨a0,a6,b4⟩:=lT O e8 f0 a2;have c5:E<=3:=(by omega);have d8:=aa (show tU o E I↔tU o E I from Iff.rfl);have h8:=aa b6;have j0:o.size<=27:=(by omega);unfold wI;by_cases b1:I=1
 ·subst b1;have U:=aa (show tU o E 1↔∀x y,y<x->x<o.size->ef o x≠ef o y by unfold tU;rw[if_pos rfl]);clear h b6 b5 e7 f1 d8 b4 a2 a0 a6;go_enter func76,ntmps76;go_wp2_with fail;refine(a3.o _).mono ?_;rintro e W ⟨rfl,J⟩;obtain⟨⟨f5,f6,a7⟩,_,d1⟩:=yV J;have Q:Below w.1.size w W:=(aZ.alloc aQ _).trans (J.mono (by simp));have d2:=aa a7;have Y:=aa Q;clear J Q a3;go_wp2;go_loopw[3] (λi wr=>∃x:Nat,x<=o.size/\i= Ud x/\bv (∀a b,b<a->a<x->ef o a≠ef o b)/\bv (Below W.1.size W wr)) (λi _=>o.size-(intOf i).toNat);exact⟨0,by omega,rfl,aa (λa b _ h=>by omega),aa aZ⟩;obtain⟨x,j4,rfl,Z,F⟩:=hrel;have a7:=(F.o.cell (p:=⟨w.1.size,2,none⟩) d1).trans d2.o;by_cases a1:x<o.size
  ·have j5:(x:Int)<(o.size:Int):=by omega
   go_wp2;go_loopw[4] (λi wr=>∃y:Nat,y<=x/\i= Ud y/\bv (∀b,b<y->ef o x≠ef o b)/\bv (Below W.1.size W wr)) (λi _=>x-(intOf i).toNat);exact⟨0,by omega,rfl,aa (λb h=>by omega),F⟩;obtain⟨y,j6,rfl,d3,F⟩:=hrel;have a7:=(F.o.cell (p:=⟨w.1.size,2,none⟩) d1).trans d2.o;by_cases h1:y<x
   ·have j7:(y:Int)<(x:Int):=by omega
    have h6:y<o.size:=(by omega);have j8:(y:Int)<(o.size:Int):=(by omega);have a9:=aa (show ef o x=ef o y↔o[x].toNat=o[y].toNat by rw[iI a1,iI h6];exact dz.symm);by_cases c4:o[x].toNat=o[y].toNat
    ·have h0:((o[x].toNat:Int)==(o[y].toNat:Int))=true:=by simp[c4]
     have b9:=aa (a9.o.2 c4);clear a9;go_wp2;go_quiet(fail);go_wp2;go_ret;exact⟨false,rfl,by simp only[eI,false_iff];exactλa2=>(U.o.1 a2) x y h1 a1 b9.o,aA (Y.o.trans (F.o.mono Y.o.size)) _⟩
    ·have h0:((o[x].toNat:Int)==(o[y].toNat:Int))=false:=by simp;omega
     have b9:=aa (λh=>c4 (a9.o.1 h));clear a9;go_wp2;go_quiet(fail);go_wp2;go_roundw;exact⟨y+1,by omega,by go_num,aa (λb J=>by
      by_cases g8:b=y
      ·rw[g8];exact b9.o
      ·exact d3.o b (by omega)),aa (aA F.o _)⟩
     simp[intOf];omega
   ·obtain rfl:y=x:=by omega
    go_wp2;go_roundw;exact⟨y+1,by omega,by go_num,aa (λa b J i3=>by
     by_cases g7:a=y
     ·rw[g7];exact d3.o b (by omega)
     ·exact Z.o a b J (by omega)),F⟩
    simp[intOf];omega
  ·obtain rfl:x=o.size:=by omega
   go_wp2;go_ret;exact⟨true,rfl,by simp only[true_iff];exact U.o.2 Z.o,Y.o.trans (F.o.mono Y.o.size)⟩
 ·obtain⟨S,a5⟩:=aB (eC E (I-1));have U:=aa (show tU o E I↔∀p,p<S*S->jb (dH o E S (S*S)) (S*S) p->p/S=p%S by unfold tU;rw[if_neg b1,<-a5]);rw[<-a5] at a0 a6 b4;have b0:=aa (λw:World=>yy E I o w O e8 f0 S a5 a6 a0 (by rw[b6,b4]));have c0:=aa (λw=>dw E (I-1) c5 (by omega) w);rw[<-a5] at c0;have g5:S*S<=81:=bX a6 a6;have e3:1<=S*S:=bX a0 a0;have a4:=aa (λ(a:Option Addr) (c:Nat) (w:World) (g6:bZ w a (S*S) (dH o E S (S*S)))=>zJ (S*S) (dH o E S (S*S)) a c w g6 (xT a0) (by omega) e3);unfold oh at a4;unfold xN at b0;have h3:((I:Int)-1)=((I-1:Nat):Int):=(by omega);obtain⟨j9,e9⟩:=aB (I-1);rw[<-e9] at c0 h3;have i9:((I:Int)==1)=false:=by simp;omega
  obtain⟨M,b3⟩:=aB (S*S);have h7:=aa b3;obtain⟨f4,b8⟩:=aB (dH o E S (S*S));have f2:f4.length=M:=by rw[b8,lc,b3]
  have f3:∀r∈f4,r.length<=140737488351232:=λr c8=>by
   rw[b8] at c8;unfold dH at c8;obtain⟨p,_,rfl⟩:=bi.1 c8;have b1:=mD o E S (p/S) (p%S) E;have i0:E*E<=3*3:=bX c5 c5;show(iy o E S (p/S) (p%S) E).length<=_
   omega
  rw[<-b8] at b0 a4 U;rw[<-b3] at a4 U g5 e3;have e0:=aa f2;have g1:=aa f3;clear h b6 b5 e7 f1 d8 b4 a2 e9 a5 b3 b1 b8 f2 f3 O;go_enter func76,ntmps76;go_wp2_with fail;refine(a3.o _).mono ?_;rintro e W ⟨rfl,J⟩;obtain⟨⟨f5,f6,a7⟩,_,d1⟩:=yV J;have Q:Below w.1.size w W:=(aZ.alloc aQ _).trans (J.mono (by simp));have Y:=aa Q;clear J Q a3;go_wp2_with fail;refine(c0.o _).mono ?_;rintro e f7 ⟨rfl,rfl⟩;go_wp2_with fail;refine(b0.o _).mono ?_;rintro e f7 ⟨v,rfl,e6,Q⟩;obtain⟨g2,g3,e5,c9⟩:=iw e6 (by rw[e0.o];omega) g1.o;rw[e0.o] at e5 c9;subst e5;have d6:=aa (a4.o g2 g3 f7 c9);have f9:=aa (bs Y.o Q);clear e6 Q c9 b0 a4 f5 f6 a7;go_wp2_with fail;refine d6.o.mono ?_;rintro e f8 ⟨k0,K,rfl,c6,e4,e2⟩;obtain⟨c1,h9,rfl,i6,_⟩:=dP c6 (by omega);have d7:=aa c6;have a8:=aa (bs f9.o e4);have d5:=aa e2;clear c6 e4 e2 d6;go_wp2;go_loopw[7] (λi wr=>∃p:Nat,p<=M/\i= Ud p/\bv (∀q,q<p->K q=true->q/S=q%S)/\bv (Below f8.1.size f8 wr)) (λi _=>M-(intOf i).toNat);exact⟨0,by omega,rfl,aa (λq h=>by omega),aa aZ⟩;obtain⟨p,a2,rfl,Z,F⟩:=hrel;by_cases a1:p<M
  ·have j1:(p:Int)<(M:Int):=by omega
   have g9:wr.cell? ⟨c1,p,none⟩=some (.bool (K p)):=(F.o.cell (p:=⟨c1,p,none⟩) (d7.o.lt c1 rfl).2).trans ((d7.o.cellAt p (by omega)).trans (dL a1));obtain⟨u,d0⟩:=aB (K p);rw[<-d0] at g9;have e1:=aa d0;clear d0;cases u
   ·go_wp2;go_quiet(fail);go_wp2;go_roundw;exact⟨p+1,by omega,by go_num,aa (λq b7 O=>by
     by_cases c7:q=p
     ·rw[c7,<-e1.o] at O;cases O
     ·exact Z.o q (by omega) O),aa (aA F.o _)⟩
    simp[intOf];omega
   ·obtain⟨D,c2⟩:=aB (p/S);obtain⟨R,c3⟩:=aB (p%S);have i4:Int.tdiv (p:Int) (S:Int)=(D:Int):=by rw[c2];exact lF p S
    have i5:Int.tmod (p:Int) (S:Int)=(R:Int):=by rw[c3];exact eg p S
    have i7:¬((S:Int)=0):=(by omega);have h2:¬(S=0):=(by omega);have i8:((S:Int)==0)=false:=by simpa using h2
    have i1:D<=81:=by have:=ei p S;omega
    have i2:R<=81:=by have:=Nat.mod_le p S;omega
    have j2:IntKind.i64.wrap (D:Int)=(D:Int):=au _ (by omega);have j3:IntKind.i64.wrap (R:Int)=(R:Int):=au _ (by omega);have d4:=aa c2;have d9:=aa c3;clear c2 c3;by_cases b2:D=R
    ·have h4:((D:Int) !=(R:Int))=false:=by simp[b2]
     have g0:=aa b2;clear b2;go_wp2;go_quiet(fail);go_wp2;go_roundw;exact⟨p+1,by omega,by go_num,aa (λq b7 O=>by
      by_cases c7:q=p
      ·rw[c7,<-d4.o,<-d9.o];exact g0.o
      ·exact Z.o q (by omega) O),aa (aA F.o _)⟩
     simp[intOf];omega
    ·have h4:((D:Int) !=(R:Int))=true:=by simp;omega
     go_wp2;go_quiet(fail);go_wp2;go_ret;refine⟨false,rfl,?_,aA (a8.o.trans (F.o.mono a8.o.size)) _⟩;simp only[eI,false_iff];intro g4;exact b2 (by rw[d4.o,d9.o];exact(U.o.1 g4) p a1 ((d5.o p a1).1 e1.o.symm))
  ·obtain rfl:p=M:=by omega
   go_wp2;go_ret;refine⟨true,rfl,?_,a8.o.trans (F.o.mono a8.o.size)⟩;simp only[true_iff];exact U.o.2 λq b7 b5=>Z.o q b7 ((d5.o q b7).2 b5)





section
open Go.Sort Go.Lib

end

def o0(n:Nat):ByteArray:=⟨(QO n 8).toArray⟩
def o1(n:Nat):ByteArray:=OY (o0 n) 2 3
def o2(n:Nat):ByteArray:=TD (o0 n) 3
def o3(n:Nat):ByteArray:=OY (o2 n) 2 3
def nums(n:Nat):List Int:=[(n:Int),(OL (o1 n).1.1 8:Int),(OL (o2 n).1.1 8:Int),(OL (o3 n).1.1 8:Int)]
def Fn(w:World)(b:Nat)(o:ByteArray):Prop:=w.cell? ⟨b,0,none⟩=some (Ud 2)/\w.cell? ⟨b,1,none⟩=some (Ud 3)/\w.cell? ⟨b,2,none⟩=some (.string o)/\b<w.1.size
theorem Fn.below{B}{w w'}{b}{o}(h:Fn w b o)(D:Below B w w')(E:b<B):Fn w' b o:=
 ⟨(D.cell (p:=⟨b,0,none⟩) E).trans h.1,(D.cell (p:=⟨b,1,none⟩) E).trans h.2.1,(D.cell (p:=⟨b,2,none⟩) E).trans h.2.2.1,aH h.2.2.2 D.size⟩
theorem Fn.bel{w w'}{b}{o}(h:Fn w b o)(D:Below w.1.size w w'):Fn w' b o:=h.below D h.2.2.2
theorem Fn.grown{w w'}{b g}{o}(h:Fn w b o)(D:w.grownBy w' (some g))(E:b≠g):Fn w' b o:=
 ⟨D.cell h.1 (λe=>E (by injection e)),D.cell h.2.1 (λe=>E (by injection e)),D.cell h.2.2.1 (λe=>E (by injection e)),aH h.2.2.2 D.size⟩

theorem MM{c}{a}(h:c.toNat=97+a):c=dO a:=by
 apply dz.1;have:=UInt8.toNat_lt c;unfold dO;rw[gJ];omega
theorem Rs{k:Nat}{l}(h:fb k l=true):LW k l:=λc D=>by
 have:=bm.1 h c D;rw[eT] at this;exact⟨c.toNat-97,by omega,MM (by omega)⟩
theorem Fj{k}(F:k<=3){l}(h:LW k l):fb k l=true:=by
 unfold fb;rw[bm];intro c D;obtain⟨a,E,e⟩:=h c D;have:=fx (show a<100 by omega);rw[eT,e];omega
structure yu (o : ByteArray) (k n : Nat) : Prop where
  k23 : k = 2 ∨ k = 3
  n1 : 1 ≤ n
  n4 : n ≤ 4
  fits : k ^ n ≤ 27
  size : o.size = k ^ n
  lw : LW k o.1.1
theorem xI{k n:Nat}{o}(h:du k n o=true):yu o k n:=by
 obtain⟨Q,U,W,Y,D,⟨F,I⟩,O,J,E⟩:=mj h;obtain rfl:Q=k:=(by omega);obtain rfl:U=n:=(by omega);exact⟨D,F,I,O,J,Rs E⟩
theorem yu.code{k n}{o}(h:yu o k n):du k n o=true:=by
 have F:=h.k23;have D:=h.n1;have E:=h.n4;simp only[du,aC,decide_eq_true_eq,eZ];exact⟨⟨by omega,by omega,h.fits,h.size⟩,Fj (by omega) h.lw⟩
theorem yu.give{k n}{o}(h:yu o k n){i}(hi:i<k^n):∃a,a<k/\ef o i=dO a:=by
 have D:i<o.size:=by rw[h.size];exact hi
 rw[iI D];exact h.lw _ (aj (dq o i D))
theorem vD(k:Nat):∀m,eC k m=k^m
 |0=>rfl
 |m+1=>by
  first
  |(show eC k m*k=k^(m+1);rw[vD k m,ft])
  |(show k*eC k m=k^(m+1);rw[vD k m,ft,nj])
def oW(o:ByteArray)(k n m j:Nat):Nat:=fG k (dZ (JK o k n (pd k (n+m-1) j)) m)
def vf(k n m h j:Nat):UInt8:=(pd k (n+m-1) j).getD h 0
def rD(o:ByteArray)(k n m h:Nat):Nat->Option (Nat->UInt8)
 |0=>some λ_=>0
 |j+1=>match rD o k n m h j with
  |none=>none
  |some f=>if f (oW o k n m j)≠0/\f (oW o k n m j)≠vf k n m h j then none else some λi=>if i=oW o k n m j then vf k n m h j else f i
theorem FH{o:ByteArray}{k n m D j:Nat}{f:Nat->UInt8}(h:rD o k n m D j=some f)(E:f (oW o k n m j)≠0/\f (oW o k n m j)≠vf k n m D j):∀q,rD o k n m D (j+1+q)=none
 |0=>by rw[ea,rD,h];simp only[if_pos E]
 |q+1=>by
  show rD o k n m D ((j+1+q)+1)=none
  rw[rD,FH h E q]
theorem JU{o}{k n m D j}{f}(h:rD o k n m D j=some f)(E:¬(f (oW o k n m j)≠0/\f (oW o k n m j)≠vf k n m D j)):rD o k n m D (j+1)=some λi=>if i=oW o k n m j then vf k n m D j else f i:=by
 rw[rD,h];simp only[if_neg E]
def jT(f:Nat->UInt8)(r i:Nat):UInt8:=if i<r/\f i=0 then 97 else f i
def pf(o:ByteArray)(k n m h:Nat):Option ByteArray:=(rD o k n m h (k^(n+m-1))).map λf=>⟨(dZ (jT f (k^m)) (k^m)).toArray⟩
theorem Ct{o}{k n m D j}{f}(h:rD o k n m D j=some f)(E:f (oW o k n m j)≠0/\f (oW o k n m j)≠vf k n m D j)(F:j<k^(n+m-1)):pf o k n m D=none:=by
 have:=FH h E (k^(n+m-1)-(j+1));rw[show j+1+(k^(n+m-1)-(j+1))=k^(n+m-1) by omega] at this;unfold pf;rw[this];rfl
theorem kN{f}{m i}(h:i<m):(dZ f m)[i]? =some (f i):=by simp[dZ,h]
theorem kT{l}{i:Nat}{c}(h:l[i]? =some c):(bo l)[i]? =some (.int .u8 (c.toNat:Int)):=by simp[bo,h]
theorem qe(f)(m i)(c):(bo (dZ f m)).set i (.int .u8 (c.toNat:Int))=bo (dZ (λq=>if q=i then c else f q) m):=by
 apply ex;intro q;rw[bU];by_cases D:q<m
 ·by_cases e:i=q
  ·subst e;rw[if_pos rfl,if_pos (by simp[bo,kM,D]),kT (kN D)];simp
  ·rw[if_neg e,kT (kN D),kT (kN D),if_neg (λh=>e h.symm)]
 ·have E:(bo (dZ (λq=>if q=i then c else f q) m))[q]? =none:=aU (by simp[bo,kM];omega);have F:(bo (dZ f m))[q]? =none:=aU (by simp[bo,kM];omega);rw[E];split
  ·rename_i e;subst e;rw[if_neg (by simp[bo,kM];omega)]
  ·exact F
theorem DF(f)(m r)(D:f r=0):(bo (dZ (jT f r) m)).set r (.int .u8 97)=bo (dZ (jT f (r+1)) m):=by
 rw[show(Value.int .u8 97)= .int .u8 (((97:UInt8).toNat:Nat):Int) from rfl,qe];congr 2;funext q;unfold jT;by_cases e:q=r
 ·subst e;simp[D]
 ·rw[if_neg e];by_cases h:q<r/\f q=0
  ·rw[if_pos h,if_pos ⟨by omega,h.2⟩]
  ·rw[if_neg h,if_neg (λE=>h ⟨by omega,E.2⟩)]
theorem Bb(f)(r)(F:f r≠0):jT f r=jT f (r+1):=by
 funext q;unfold jT;by_cases h:q<r/\f q=0
 ·rw[if_pos h,if_pos ⟨by omega,h.2⟩]
 ·rw[if_neg h,if_neg (λD=>h ⟨by rcases eE q r with E|E;exact E;exact absurd (by rw[show r=q by omega];exact D.2) F,D.2⟩)]
theorem Ba(f):jT f 0=f:=by funext q;simp[jT]
theorem Ju{o}{k n m}(h:yu o k n)(J:1<=m)(j):LW k (dZ (JK o k n (pd k (n+m-1) j)) m):=λc E=>by
 obtain⟨i,hi,rfl⟩:=bi.1 E;have hi:=aD.1 hi;have I:=h.k23;have O:=h.n1;unfold JK;have F:((pd k (n+m-1) j).drop i|>.take n).length=n:=by rw[cY,List.length_drop,Eb];omega
 have D:=LW.lt (show k<=3 by omega) (((Ec (show 0<k by omega) (n+m-1) j).drop i).take n);rw[F] at D;exact h.give D
theorem JV{o}{k n m}(h:yu o k n)(D:1<=m)(j):oW o k n m j<k^m:=by
 have E:=h.k23;have:=LW.lt (show k<=3 by omega) (Ju h D j);rwa[kM] at this
theorem xy:(prog.info? 5).map (λi=>(i.zero,i.size,i.bytes))=some (some (.int .u8 0),1,1):=by kernel_rfl
def LF(r:Option ByteArray):Value:=match r with
 |some s=> .tuple #[.string s,.bool true]
 |none=> .tuple #[.string ⟨#[]⟩,.bool false]
structure TG (o : ByteArray) (k n m at_ : Nat) : Prop where
  code : yu o k n
  m1 : 1 ≤ m
  m4 : m ≤ 4
  few : k ^ m ≤ 27
  at_lt : at_ < n + m - 1
theorem BL(k n m E)(o)(w)(h:TG o k n m E):
 Calls prog 231 #[.agg #[Ud k,Ud n,.string o],Ud m,Ud E] w λe w'=>e= .returned (LF (pf o k n m E))/\Below w.1.size w w':=by
 obtain⟨Y,h6,j9,g8,j0⟩:=h;have j6:=Y.k23;have k0:=Y.n1;have k1:=Y.n4;have a4:k<=3:=(by omega);have l7:o.size<=27:=by rw[Y.size];exact Y.fits
 have d0:=aa (λw=>dw k m a4 j9 w);obtain⟨P,b6⟩:=aB (k^m);rw[show eC k m=k^m from rfl,<-b6] at d0;obtain⟨L,a8⟩:=aB (n+m-1);have l1:(n:Int)+(m:Int)-1=(L:Int):=(by omega);have l0:L<=7:=(by omega);have l2:n<=L:=(by omega);have c8:=aa (λw=>le k L w ⟨by omega,a4⟩ (by omega));unfold iK at c8;obtain⟨T,b7⟩:=aB (k^L);have l3:T<=6561:=by rw[b7];exact eb a4 (by omega)
 rw[<-b7] at c8;have h8:=aa (λ(j:Nat) (w:World)=>show Calls prog 263 #[.agg #[Ud k,Ud n,.string o],.string (db k L j)] w λe w'=>e= .returned (.string ⟨(dZ (JK o k n (pd k (n+m-1) j)) m).toArray⟩)/\Below w.1.size w w' from by
  have a2:=yz k n o (db k L j) w a4 k0 k1 (Nat.le_of_eq Y.size.symm) (by omega) (rC ⟨by omega,a4⟩ L j) (by rw[ce];omega) (by rw[ce];omega);rw[ce,eq,show L+1-n=m by omega,a8] at a2;rw[a8];exact a2)
 have i1:=aa (λ(j:Nat) (w:World)=>show Calls prog 262 #[Ud k,.string ⟨(dZ (JK o k n (pd k (n+m-1) j)) m).toArray⟩] w λe w'=>e= .returned (Ud (oW o k n m j:Int))/\w=w' from
  GR k _ w a4 (Fj a4 (Ju Y h6 j)) (by show(dZ _ m).toArray.size<=16;simp[kM];omega))
 have f8:=aa (λ(j:Nat)=>show oW o k n m j<P from by rw[b6];exact JV Y h6 j);have i0:=aa (λ(j:Nat) (d8:E<(db k L j).size)=>show(db k L j)[E].toNat=(vf k n m E j).toNat from by
  unfold vf;rw[<-a8,ah,<-eq,dq _ _ d8];rfl)
 have f9:=aa (λ(j:Nat) (f:Nat->UInt8) (h:rD o k n m E j=some f) (b9:f (oW o k n m j)≠0/\f (oW o k n m j)≠vf k n m E j) (d8:j<T)=>show LF (pf o k n m E)= .tuple #[.string ⟨#[]⟩,.bool false] from by
  rw[Ct h b9 (by rw[<-a8,<-b7];exact d8)];rfl)
 have g4:=aa (λ(f:Nat->UInt8) (h:rD o k n m E T=some f)=>show LF (pf o k n m E)= .tuple #[.string ⟨(dZ (jT f P) P).toArray⟩,.bool true] from by
  unfold pf;rw[<-a8,<-b7,h,<-b6];rfl)
 obtain⟨V,U⟩:=aB (LF (pf o k n m E));rw[<-U] at f9 g4;rw[<-U];have g8:P<=27:=by rw[b6];exact g8
 have j1:E<L:=(by omega);clear U b7 a8 b6 Y j6 j0;go_enter func231,ntmps231;go_wp2;obtain⟨D,b8⟩:=aB (w.alloc (.cells #[Ud k,Ud n,.string o] 31));have i2:=aa (iS D #[] 0 (e:=5) (size:=1) (base:=D.1.size) aQ (by omega) rfl);have e7:D.1.size=w.1.size+1:=by rw[b8];simp
 have b2:=aa (λ(V:World) (U:Below D.1.size D V)=>show(V.cell? ⟨w.1.size,0,none⟩=some (Ud k)/\V.cell? ⟨w.1.size,1,none⟩=some (Ud n)/\V.cell? ⟨w.1.size,2,none⟩=some (.string o)) from by
  have j7:w.1.size<D.1.size:=(by omega);rw[b8] at U;exact⟨(U.cell (p:=⟨w.1.size,0,none⟩) (by simp)).trans (aL _ _ _ _ rfl),(U.cell (p:=⟨w.1.size,1,none⟩) (by simp)).trans (aL _ _ _ _ rfl),(U.cell (p:=⟨w.1.size,2,none⟩) (by simp)).trans (aL _ _ _ _ rfl)⟩)
 have f6:=aa (λ(V:World) (U:Below D.1.size D V)=>show Below w.1.size w V from by
  rw[b8] at U;exact(aZ.alloc aQ _).trans (U.mono (by simp)))
 have h9:=aa ((aV D.1.size D).alloc aQ (.cells #[] 5));rw[<-e7,<-b8];have k7:=aa e7;clear b8 e7;go_loopw[8,9] (λv i wr=>∃j:Nat,j<=P/\i= Ud j/\bv (wr.ownsRow D.1.size 5 1 v j (bo (dZ (λ_=>0) j)))/\bv (Below D.1.size D wr)) (λ_ i _=>P-(intOf i).toNat);exact⟨0,by omega,rfl,i2,h9⟩;obtain⟨j,d8,rfl,b3,F⟩:=hrel;obtain⟨d1,a2,d2⟩:=b2.o _ F.o;by_cases j7:j<P
 ·have l6:(j:Int)<(P:Int):=by omega
  have b0:D.1.size<=wr.1.size:=F.o.size;go_wp2_with(first|(go_at_call 97;refine(d0.o _).mono ?_;rintro e w' ⟨rfl,rfl⟩)|(at_builtin;go_must(refine eu rfl _ _ 22 rfl D.1.size 5 (.int .u8 0) 1 underlying22 xy rfl _ j (bo (dZ (λ_=>0) j)) _ b3.o rfl rfl rfl (by omega) (by unfold maxLen;omega) b0 ?_);intro v' k6 k2 j5));go_roundw;exact⟨j+1,by omega,by go_num,aa (by rw[sH];exact k2),aa (F.o.grown j5 b0 (λz a1=>(b3.o.lt z a1).1))⟩;simp[intOf];omega
 ·obtain rfl:j=P:=by omega
  have i9:0<j:=by have:=f8.o 0;omega
  obtain⟨g,c,rfl,f0,l5⟩:=dP b3.o i9;obtain⟨h7,rfl⟩:=aB (α:=World) wr;have b0:D.1.size<=h7.1.size:=F.o.size;go_wp2_with(first|(go_at_call 97;refine(d0.o _).mono ?_;rintro e w' ⟨rfl,rfl⟩)|(go_at_call 107;refine(c8.o _).mono ?_;rintro e m8 ⟨m7,rfl,f3,a3⟩;obtain⟨i5,i7,rfl,k3⟩:=aS f3 (by omega)));have I:=aa (ai b3.o a3);have a6:=aa f3;have f7:=aa (F.o.trans (a3.mono b0));clear b3 F f3 a3 k3 d1 a2 d2 c8 d0;go_loopw[11] (λi wr=>∃(q:Nat) (f:Nat->UInt8),q<=T/\i= Ud q/\bv (rD o k n m E q=some f)/\bv (wr.ownsRow D.1.size 5 1 (.slice (some ⟨g,0,none⟩) j c) j (bo (dZ f j)))/\bv (wr.ownsRow h7.1.size 9 1 (.slice i5 T i7) T (ap (wds k L T)))/\bv (Below D.1.size D wr)) (λi _=>T-(intOf i).toNat);exact⟨0,λ_=>0,by omega,rfl,aa rfl,I,a6,f7⟩;clear I a6 f7;obtain⟨q,f,l8,rfl,e3,I,a6,F⟩:=hrel;by_cases h5:q<T
  ·obtain⟨d1,a2,d2⟩:=b2.o _ F.o;have l9:(q:Int)<(T:Int):=(by omega);obtain⟨i6,i8,a0,d9⟩:=aS a6.o (by omega);simp only[aJ,true_and] at a0;obtain⟨rfl,rfl⟩:=a0;obtain⟨a7,o2,rfl,a3,h2⟩:=d9.at_ (by omega);have c2:=h2 q _ (bJ (mt h5));have f5:=aa (h8.o q);have g1:=aa (i1.o q);have g7:=f8.o q;have g6:=i0.o q (by rw[ce];exact j1);have d3:=λb9=>f9.o q f e3.o b9 h5
   obtain⟨m6,f2⟩:=aB (α:=ByteArray) (⟨(dZ (JK o k n (pd k (n+m-1) q)) m).toArray⟩);obtain⟨u,c3⟩:=aB (db k L q);have m4:u.size=L:=by rw[c3,ce]
   obtain⟨x,c4⟩:=aB (oW o k n m q);obtain⟨y,c5⟩:=aB (vf k n m E q);rw[<-f2,<-c3] at f5;rw[<-f2,<-c4] at g1;rw[<-c4] at g7 d3;rw[<-c5] at d3;rw[<-c3] at c2;have m2:E<u.size:=(by omega);have h1:u[E].toNat=y.toNat:=by rw[c5];subst c3;exact g6
   have e6:=λb9=>JU e3.o (by rw[<-c4,<-c5];exact b9)
   rw[<-c4,<-c5] at e6;have g0:=aa d3;have e2:=aa e6;have c0:wr.cell? ⟨g,x,none⟩=some (.int .u8 ((f x).toNat:Int)):=(I.o.cellAt x (by omega)).trans (kT (kN g7));have e9:=I.o.frozenAt x;have m5:(x:Int)<(j:Int):=(by omega);have a9:D.1.size<=wr.1.size:=F.o.size;have f1:g<wr.1.size:=(I.o.lt g rfl).2;have d4:=(aV wr.1.size wr).drew;have m3:(E:Int)<(u.size:Int):=(by omega);have l4:(0:Int)<=(E:Int):=(by omega);clear f2 c3 c4 c5 g6 d3 e6 d9 h2;go_wp2;go_region_held3(λV=>V.cell? ⟨w.1.size,0,none⟩=some (Ud k)/\V.cell? ⟨w.1.size,1,none⟩=some (Ud n)/\V.cell? ⟨w.1.size,2,none⟩=some (.string o)/\V.cell? ⟨a7,o2+q,none⟩=some (.string u)/\Below wr.1.size wr V)
    (first|exact⟨d1,a2,d2,c2,d4⟩|exact⟨(b2.o _ (F.o.trans (O.mono a9))).1,(b2.o _ (F.o.trans (O.mono a9))).2.1,(b2.o _ (F.o.trans (O.mono a9))).2.2,(O.cell (p:=⟨a7,o2+q,none⟩) a3).trans c2,O⟩)
    (first|(go_at_call 263;refine(f5.o _).mono ?_;rintro e Z ⟨rfl,g9⟩;have O:=d4.trans (g9.mono d4.size))|(go_at_call 262;refine(g1.o _).mono ?_;rintro e k6 ⟨rfl,rfl⟩))
   have d5:=(O.cell (p:=⟨a7,o2+q,none⟩) a3).trans c2;have c1:=(O.cell (p:=⟨g,x,none⟩) f1).trans c0;have d6:=(O.frozen (p:=⟨g,x,none⟩) f1).trans e9;have g2:=aa (ai I.o O);have g3:=aa (ai a6.o O);have c9:=aa (F.o.trans (O.mono a9));have h4:a7<Z.1.size:=aH a3 O.size;have d7:g<Z.1.size:=aH f1 O.size;have h0:D.1.size<=Z.1.size:=c9.o.size;clear g9 d4 O d1 a2 d2 c2 c0 e9;obtain⟨z,a1⟩:=aB (f x);rw[<-a1] at c1 g0 e2;clear a1;by_cases Q:z=0
   ·have f4:((z.toNat:Int) !=0)=false:=by rw[Q];rfl
    have e1:=aa (e2.o λh=>h.1 Q);clear Q;go_wp2;go_quiet(fail);obtain⟨c7,a5⟩:=aB (Z.drewN nq);rw[<-a5];have J:Below Z.1.size Z c7:=by rw[a5];exact aA aZ _
    have j3:=(J.cell (p:=⟨a7,o2+q,none⟩) h4).trans d5;have j4:=(J.frozen (p:=⟨g,x,none⟩) d7).trans d6;have b4:=aa (ai g2.o J);have b5:=aa (ai g3.o J);have b1:=aa (c9.o.trans (J.mono h0));have e8:D.1.size<=c7.1.size:=b1.o.size;have j2:=(J.cell (p:=⟨g,x,none⟩) d7).trans c1;clear a5 d5 d6 c1 J;have W:=aa (b4.o.stored x (.int .u8 (y.toNat:Int)));have e4:=aa (b5.o.kept W.o.2 (eD (aT b5.o b0) b4.o (by decide)));go_wp2;go_roundw;exact⟨q+1,_,by omega,by go_num,e1,aa (by rw[<-qe];exact W.o.1),e4,aa (b1.o.grown W.o.2 e8 (by rintro q ⟨⟩;exact f0))⟩;simp[intOf];omega
   ·have f4:((z.toNat:Int) !=0)=true:=by
     have:z.toNat≠0:=λe=>Q (dz.1 e)
     simp[this]
    by_cases c6:z=y
    ·have k5:((z.toNat:Int) !=(u[E].toNat:Int))=false:=by rw[h1,c6];simp
     have e1:=aa (e2.o λh=>h.2 c6);clear c6;go_wp2;go_quiet(fail);obtain⟨c7,a5⟩:=aB (Z.drewN nq);rw[<-a5];have J:Below Z.1.size Z c7:=by rw[a5];exact aA aZ _
     have j3:=(J.cell (p:=⟨a7,o2+q,none⟩) h4).trans d5;have j4:=(J.frozen (p:=⟨g,x,none⟩) d7).trans d6;have b4:=aa (ai g2.o J);have b5:=aa (ai g3.o J);have b1:=aa (c9.o.trans (J.mono h0));have e8:D.1.size<=c7.1.size:=b1.o.size;have j2:=(J.cell (p:=⟨g,x,none⟩) d7).trans c1;clear a5 d5 d6 c1 J;have W:=aa (b4.o.stored x (.int .u8 (y.toNat:Int)));have e4:=aa (b5.o.kept W.o.2 (eD (aT b5.o b0) b4.o (by decide)));go_wp2;go_roundw;exact⟨q+1,_,by omega,by go_num,e1,aa (by rw[<-qe];exact W.o.1),e4,aa (b1.o.grown W.o.2 e8 (by rintro q ⟨⟩;exact f0))⟩;simp[intOf];omega
    ·have k5:((z.toNat:Int) !=(u[E].toNat:Int))=true:=by
      have:z.toNat≠y.toNat:=λe=>c6 (dz.1 e)
      rw[h1];simp;omega
     have i3:=aa (g0.o ⟨Q,c6⟩);have e5:=aa (f6.o _ c9.o);go_wp2;go_quiet(fail);go_wp2;go_ret2;exact⟨by rw[i3.o];rfl,aA e5.o _⟩
  ·obtain rfl:q=T:=by omega
   have i4:=aa (g4.o f e3.o);obtain⟨i6,i8,a0,d9⟩:=aS a6.o (by omega);simp only[aJ,true_and] at a0;obtain⟨rfl,rfl⟩:=a0;clear d9;go_wp2;go_loopw[13] (λi wr=>∃r:Nat,r<=j/\i= Ud r/\bv (wr.ownsRow D.1.size 5 1 (.slice (some ⟨g,0,none⟩) j c) j (bo (dZ (jT f r) j)))/\bv (Below D.1.size D wr)) (λi _=>j-(intOf i).toNat);exact⟨0,by omega,rfl,aa (by rw[Ba];exact I.o),F⟩;clear I F;obtain⟨r,m0,rfl,I,F⟩:=hrel;by_cases j8:r<j
   ·have m1:(r:Int)<(j:Int):=by omega
    have c0:wr.cell? ⟨g,r,none⟩=some (.int .u8 ((jT f r r).toNat:Int)):=(I.o.cellAt r (by omega)).trans (kT (kN j8));have e9:=I.o.frozenAt r;have h3:jT f r r=f r:=by unfold jT;rw[if_neg (by omega)]
    rw[h3] at c0;have W:=aa (I.o.stored r (.int .u8 97));obtain⟨z,a1⟩:=aB (f r);rw[<-a1] at c0;have g5:=aa a1;have a9:D.1.size<=wr.1.size:=F.o.size;clear h3 a1;by_cases Q:z=0
    ·have f4:((z.toNat:Int)==0)=true:=by rw[Q];rfl
     have e0:=aa (DF f j r (by rw[<-g5.o];exact Q));clear Q;go_wp2;go_roundw;exact⟨r+1,by omega,by go_num,aa (by rw[<-e0.o];exact W.o.1),aa (F.o.grown W.o.2 a9 (by rintro q ⟨⟩;exact f0))⟩;simp[intOf];omega
    ·have f4:((z.toNat:Int)==0)=false:=by
      have:z.toNat≠0:=λe=>Q (dz.1 e)
      simp[this]
     have e0:=aa (Bb f r (by rw[<-g5.o];exact Q));clear Q;go_wp2;go_roundw;exact⟨r+1,by omega,by go_num,aa (by rw[<-e0.o];exact I.o),F⟩;simp[intOf];omega
   ·obtain rfl:r=j:=by omega
    obtain⟨k8,k9,a0,k4⟩:=aS I.o (by omega);simp only[aJ,true_and] at a0;obtain⟨rfl,rfl⟩:=a0;have e5:=aa (f6.o _ F.o);go_wp2_with(with_reducible refine fT rfl _ 22 9 5 rfl underlying22 underlying5 underlying9 _ r _ (dZ (jT f r) r) rfl k4 ?_);go_ret2;exact⟨by rw[i4.o];rfl,e5.o⟩
theorem JG(M):(madeCells (Value.int .u8 0).cells (M*1)).toList=bo (dZ (λ_=>0) M):=by
 rw[kV];show(madeCells #[Value.int .u8 0] M).toList=_
 rw[toList_madeCells_one];refine ex λi=> ?_
 by_cases hi:i<M
 ·rw[kT (kN hi),eM,if_pos hi];rfl
 ·rw[aU (by simp;omega),aU (by simp[bo,dZ];omega)]
theorem MG(w)(M)(U:M<=6561):(w.alloc (.cells (madeCells #[.int .u8 0] M) 5)).ownsRow w.1.size 5 1 (.slice (some ⟨w.1.size,0,none⟩) M M) M (bo (dZ (λ_=>0) M))/\Below w.1.size w (w.alloc (.cells (madeCells #[.int .u8 0] M) 5)):=by
 obtain⟨J,hi,E,F,I⟩:=info_parts xy;obtain⟨w',h,D,Q⟩:=run_make_full (P:=prog) w w.1.size 22 5 J (.int .u8 0) 1 underlying22 hi E F .i64 .i64 M (by rw[I];omega) (by unfold maxLen;omega) aQ;have O:=run_make_row (P:=prog) 22 5 J (.int .u8 0) underlying22 hi E F rfl .i64 .i64 M (by rw[I];omega) (by omega) w;rw[O] at h;injection h with _ h
 subst h;rw[JG] at D;exact⟨D,aZ.alloc aQ _⟩
def LA(k m:Nat)(r:Option ByteArray):Value:=match r with
 |some s=> .tuple #[.agg #[Ud k,Ud m,.string s],.bool true]
 |none=> .tuple #[.agg #[Ud 0,Ud 0,.string ⟨#[]⟩],.bool false]
theorem AE(k n m E)(o)(w)(h:TG o k n m E):
 Calls prog 229 #[.agg #[Ud k,Ud n,.string o],Ud m,Ud E] w λe w'=>e= .returned (LA k m (pf o k n m E))/\Below w.1.size w w':=by
 obtain⟨a1,h8,l9,g9,j4⟩:=h;have j8:=a1.k23;have k1:=a1.n1;have k2:=a1.n4;have a4:k<=3:=(by omega);have m1:o.size<=27:=by rw[a1.size];exact a1.fits
 have e0:=aa (λw=>mL k m a4 (by omega) w);obtain⟨P,b6⟩:=aB (k^m);rw[<-b6] at e0;obtain⟨L,a7⟩:=aB (n+m-1);have l5:(n:Int)+(m:Int)-1=(L:Int):=(by omega);have l4:L<=7:=(by omega);have l6:n<=L:=(by omega);have c8:=aa (λw=>ls k L w ⟨by omega,a4⟩ (by omega));unfold iK at c8;obtain⟨T,b7⟩:=aB (k^L);have l7:T<=6561:=by rw[b7];exact eb a4 (by omega)
 rw[<-b7] at c8;have i3:=aa (λ(j:Nat) (w:World)=>show Calls prog 261 #[.agg #[Ud k,Ud n,.string o],.string (db k L j)] w λe w'=>e= .returned (.string ⟨(dZ (JK o k n (pd k (n+m-1) j)) m).toArray⟩)/\Below w.1.size w w' from by
  have Z:=EL k n o (db k L j) w a4 k1 k2 (Nat.le_of_eq a1.size.symm) (rC ⟨by omega,a4⟩ L j) (by rw[ce];omega) (by rw[ce];omega);rw[ce,eq,show L+1-n=m by omega,a7] at Z;rw[a7];exact Z)
 have i6:=aa (λ(j:Nat) (w:World)=>show Calls prog 260 #[Ud k,.string ⟨(dZ (JK o k n (pd k (n+m-1) j)) m).toArray⟩] w λe w'=>e= .returned (Ud (oW o k n m j:Int))/\w=w' from
  Dv k _ w a4 (Fj a4 (Ju a1 h8 j)) (by show(dZ _ m).toArray.size<=16;simp[kM];omega))
 have i5:=aa (λ(j:Nat)=>show oW o k n m j<P from by rw[b6];exact JV a1 h8 j);have i4:=aa (λ(j:Nat) (f2:E<(db k L j).size)=>show(db k L j)[E].toNat=(vf k n m E j).toNat from by
  unfold vf;rw[<-a7,ah,<-eq,dq _ _ f2];rfl)
 have g0:=aa (λ(j:Nat) (f:Nat->UInt8) (h:rD o k n m E j=some f) (b8:f (oW o k n m j)≠0/\f (oW o k n m j)≠vf k n m E j) (f2:j<T)=>show LA k m (pf o k n m E)= .tuple #[.agg #[Ud 0,Ud 0,.string ⟨#[]⟩],.bool false] from by
  rw[Ct h b8 (by rw[<-a7,<-b7];exact f2)];rfl)
 have g5:=aa (λ(f:Nat->UInt8) (h:rD o k n m E T=some f)=>show LA k m (pf o k n m E)= .tuple #[.agg #[Ud k,Ud m,.string ⟨(dZ (jT f P) P).toArray⟩],.bool true] from by
  unfold pf;rw[<-a7,<-b7,h,<-b6];rfl)
 obtain⟨V,a8⟩:=aB (LA k m (pf o k n m E));rw[<-a8] at g0 g5;rw[<-a8];have g9:P<=27:=by rw[b6];exact g9
 have j5:E<L:=(by omega);clear a8 b7 a7 b6 a1 j8 j4;obtain⟨k6,hi,a2,i1,i2⟩:=info_parts xy;have h9:=λw=>run_make_row (P:=prog) 22 5 k6 (.int .u8 0) underlying22 hi a2 i1 rfl .i64 .i64 P (by rw[i2];omega) (by omega) w
 obtain⟨cs,h4⟩:=aB (madeCells #[.int .u8 0] P);have d7:=aa (λ(w:World)=>MG w P (by omega));rw[<-h4] at d7 h9;clear hi a2 i1 i2 h4;obtain⟨D,d2⟩:=aB ((w.alloc (.cells #[Ud k,Ud n,.string o] 31)).alloc (.cells #[Ud 0,Ud 0,.string ⟨#[]⟩] 31));have h0:D.1.size=w.1.size+1+1:=by rw[d2];simp
 have a6:=aa (λ(V:World) (a8:Below D.1.size D V)=>show(V.cell? ⟨w.1.size,0,none⟩=some (Ud k)/\V.cell? ⟨w.1.size,1,none⟩=some (Ud n)/\V.cell? ⟨w.1.size,2,none⟩=some (.string o))/\(∀q,V.cell? ⟨w.1.size+1,q,none⟩=(#[Ud 0,Ud 0,.string ⟨#[]⟩]:Array Value)[q]?)/\(∀q,V.frozen? ⟨w.1.size+1,q,none⟩=false)/\w.1.size+1<V.1.size/\Below w.1.size w V from by
  rw[d2] at a8;obtain⟨⟨Z,_⟩,⟨b4,j1⟩,j2,j3⟩:=Bl a8;exact⟨⟨Z 0,Z 1,Z 2⟩,b4,j1,j2,j3⟩)
 go_enter func229,ntmps229;go_wp2_with(first|(go_at_call 155;refine(e0.o _).mono ?_;rintro e w' ⟨rfl,rfl⟩)|(go_at_call 222;refine(c8.o _).mono ?_;rintro e k7 ⟨n1,rfl,c3,b9⟩;obtain⟨i9,j0,rfl,k3⟩:=aS c3 (by omega)));rw[<-d2] at c3 b9;have a3:=d7.o D;have e6:D.1.size<=(D.alloc (.cells cs 5)).1.size:=(by simp);have f9:=aa (bs a3.2 b9);obtain⟨k8,f3⟩:=aB (D.alloc (.cells cs 5));rw[<-f3] at c3 e6;have b2:=aa c3;obtain⟨g,f0⟩:=aB D.1.size;have e8:D.1.size<=g:=(by omega);have I:=aa (show k7.ownsRow D.1.size 5 1 (.slice (some ⟨g,0,none⟩) P P) P (bo (dZ (λ_=>0) P)) from by rw[f0];exact ai a3.1 (by rw[f3] at*;exact b9));rw[<-h0,<-f0];clear a3 c3 b9 k3 c8 e0 h9 d7 f3 d2 f0 h0;go_loopw[28] (λi wr=>∃(q:Nat) (f:Nat->UInt8),q<=T/\i= Ud q/\bv (rD o k n m E q=some f)/\bv (wr.ownsRow D.1.size 5 1 (.slice (some ⟨g,0,none⟩) P P) P (bo (dZ f P)))/\bv (wr.ownsRow k8.1.size 9 1 (.slice i9 T j0) T (ap (wds k L T)))/\bv (Below D.1.size D wr)) (λi _=>T-(intOf i).toNat);exact⟨0,λ_=>0,by omega,rfl,aa rfl,I,b2,f9⟩;clear I b2 f9;obtain⟨q,f,m2,rfl,e1,I,b2,J⟩:=hrel;by_cases h7:q<T
 ·obtain⟨a3,Z,b4⟩:=(a6.o _ J.o).1;have m3:(q:Int)<(T:Int):=(by omega);obtain⟨k9,l2,c2,i0⟩:=aS b2.o (by omega);simp only[aJ,true_and] at c2;obtain⟨rfl,rfl⟩:=c2;obtain⟨l1,o2,rfl,b9,h3⟩:=i0.at_ (by omega);have h5:=h3 q _ (bJ (mt h7));have f8:=aa (i3.o q);have g2:=aa (i6.o q);have g8:=i5.o q;have g7:=i4.o q (by rw[ce];exact j5);have d1:=λb8=>g0.o q f e1.o b8 h7
  obtain⟨n0,f1⟩:=aB (α:=ByteArray) (⟨(dZ (JK o k n (pd k (n+m-1) q)) m).toArray⟩);obtain⟨u,c4⟩:=aB (db k L q);have m8:u.size=L:=by rw[c4,ce]
  obtain⟨x,c5⟩:=aB (oW o k n m q);obtain⟨y,c6⟩:=aB (vf k n m E q);rw[<-f1,<-c4] at f8;rw[<-f1,<-c5] at g2;rw[<-c5] at g8 d1;rw[<-c6] at d1;rw[<-c4] at h5;have m6:E<u.size:=(by omega);have h2:u[E].toNat=y.toNat:=by rw[c6];subst c4;exact g7
  have e3:=λb8=>JU e1.o (by rw[<-c5,<-c6];exact b8)
  rw[<-c5,<-c6] at e3;have g1:=aa d1;have d9:=aa e3;have c0:wr.cell? ⟨g,x,none⟩=some (.int .u8 ((f x).toNat:Int)):=(I.o.cellAt x (by omega)).trans (kT (kN g8));have e7:=I.o.frozenAt x;have m9:(x:Int)<(P:Int):=(by omega);have a9:D.1.size<=wr.1.size:=J.o.size;have e9:g<wr.1.size:=(I.o.lt g rfl).2;have d3:=(aV wr.1.size wr).drew;have m7:(E:Int)<(u.size:Int):=(by omega);have l8:(0:Int)<=(E:Int):=(by omega);clear f1 c4 c5 c6 g7 d1 e3 i0 h3;go_wp2;go_region_held3(λV=>V.cell? ⟨w.1.size,0,none⟩=some (Ud k)/\V.cell? ⟨w.1.size,1,none⟩=some (Ud n)/\V.cell? ⟨w.1.size,2,none⟩=some (.string o)/\Below wr.1.size wr V)
   (first|exact⟨a3,Z,b4,d3⟩|exact⟨(a6.o _ (J.o.trans (Q.mono a9))).1.1,(a6.o _ (J.o.trans (Q.mono a9))).1.2.1,(a6.o _ (J.o.trans (Q.mono a9))).1.2.2,Q⟩)
   (first|(go_at_call 261;refine(f8.o _).mono ?_;rintro e W ⟨rfl,h1⟩;have Q:=d3.trans (h1.mono d3.size))|(go_at_call 260;refine(g2.o _).mono ?_;rintro e n2 ⟨rfl,rfl⟩))
  have c1:=(Q.cell (p:=⟨g,x,none⟩) e9).trans c0;have d4:=(Q.frozen (p:=⟨g,x,none⟩) e9).trans e7;have g3:=aa (ai I.o Q);have g4:=aa (ai b2.o Q);have c9:=aa (J.o.trans (Q.mono a9));have d5:g<W.1.size:=aH e9 Q.size;have e4:D.1.size<=W.1.size:=c9.o.size;clear h1 d3 Q a3 Z b4 h5 c0 e7;obtain⟨z,a2⟩:=aB (f x);rw[<-a2] at c1 g1 d9;clear a2;by_cases O:z=0
  ·have f4:((z.toNat:Int) !=0)=false:=by rw[O];rfl
   have d8:=aa (d9.o λh=>h.1 O);clear O;go_wp2;go_quiet(fail);obtain⟨a5,U⟩:=aB (W.drewN nq);rw[<-U];have F:Below W.1.size W a5:=by rw[U];exact aA aZ _
   have j7:=(F.frozen (p:=⟨g,x,none⟩) d5).trans d4;have b1:=aa (ai g3.o F);have b3:=aa (ai g4.o F);have b0:=aa (c9.o.trans (F.mono e4));have e5:D.1.size<=a5.1.size:=b0.o.size;have j6:=(F.cell (p:=⟨g,x,none⟩) d5).trans c1;clear U d4 c1 F;have Y:=aa (b1.o.stored x (.int .u8 (y.toNat:Int)));have e2:=aa (b3.o.kept Y.o.2 (eD (aT b3.o e6) b1.o (by decide)));go_wp2;go_roundw;exact⟨q+1,_,by omega,by go_num,d8,aa (by rw[<-qe];exact Y.o.1),e2,aa (b0.o.grown Y.o.2 e5 (by rintro q ⟨⟩;exact e8))⟩;simp[intOf];omega
  ·have f4:((z.toNat:Int) !=0)=true:=by
    have:z.toNat≠0:=λe=>O (dz.1 e)
    simp[this]
   by_cases c7:z=y
   ·have k5:((z.toNat:Int) !=(u[E].toNat:Int))=false:=by rw[h2,c7];simp
    have d8:=aa (d9.o λh=>h.2 c7);clear c7;go_wp2;go_quiet(fail);obtain⟨a5,U⟩:=aB (W.drewN nq);rw[<-U];have F:Below W.1.size W a5:=by rw[U];exact aA aZ _
    have j7:=(F.frozen (p:=⟨g,x,none⟩) d5).trans d4;have b1:=aa (ai g3.o F);have b3:=aa (ai g4.o F);have b0:=aa (c9.o.trans (F.mono e4));have e5:D.1.size<=a5.1.size:=b0.o.size;have j6:=(F.cell (p:=⟨g,x,none⟩) d5).trans c1;clear U d4 c1 F;have Y:=aa (b1.o.stored x (.int .u8 (y.toNat:Int)));have e2:=aa (b3.o.kept Y.o.2 (eD (aT b3.o e6) b1.o (by decide)));go_wp2;go_roundw;exact⟨q+1,_,by omega,by go_num,d8,aa (by rw[<-qe];exact Y.o.1),e2,aa (b0.o.grown Y.o.2 e5 (by rintro q ⟨⟩;exact e8))⟩;simp[intOf];omega
   ·have k5:((z.toNat:Int) !=(u[E].toNat:Int))=true:=by
     have:z.toNat≠y.toNat:=λe=>c7 (dz.1 e)
     rw[h2];simp;omega
    have i7:=aa (g1.o ⟨O,c7⟩);go_wp2;go_quiet(fail);obtain⟨a5,U⟩:=aB (W.drewN nq);rw[<-U];have F:Below W.1.size W a5:=by rw[U];exact aA aZ _
    obtain⟨_,b5,a0,j9,d0⟩:=a6.o _ (c9.o.trans (F.mono e4));obtain⟨f5,f6,f7⟩:=xQ b5;have u0:=a0 0;have u1:=a0 1;have u2:=a0 2;clear b5 a0 U F;go_wp2;refine bodyPost_ret (v:=.tuple #[.agg #[Ud 0,Ud 0,.string ⟨#[]⟩],.bool false]) (by simp[results,results229,go_sem,f5,f6,f7]) rfl ⟨by rw[i7.o],?_⟩;first|exact d0|exact((d0.setCell (by simp) _).setCell (by simp) _).setCell (by simp) _
 ·obtain rfl:q=T:=by omega
  have i8:=aa (g5.o f e1.o);go_wp2;go_loopw[63] (λi wr=>∃r:Nat,r<=P/\i= Ud r/\bv (wr.ownsRow D.1.size 5 1 (.slice (some ⟨g,0,none⟩) P P) P (bo (dZ (jT f r) P)))/\bv (Below D.1.size D wr)) (λi _=>P-(intOf i).toNat);exact⟨0,by omega,rfl,aa (by rw[Ba];exact I.o),J⟩;clear I J;obtain⟨r,m4,rfl,I,J⟩:=hrel;by_cases k0:r<P
  ·have m5:(r:Int)<(P:Int):=by omega
   have c0:wr.cell? ⟨g,r,none⟩=some (.int .u8 ((jT f r r).toNat:Int)):=(I.o.cellAt r (by omega)).trans (kT (kN k0));have e7:=I.o.frozenAt r;have h6:jT f r r=f r:=by unfold jT;rw[if_neg (by omega)]
   rw[h6] at c0;have Y:=aa (I.o.stored r (.int .u8 97));obtain⟨z,a2⟩:=aB (f r);rw[<-a2] at c0;have g6:=aa a2;have a9:D.1.size<=wr.1.size:=J.o.size;clear h6 a2;by_cases O:z=0
   ·have f4:((z.toNat:Int)==0)=true:=by rw[O];rfl
    have d6:=aa (DF f P r (by rw[<-g6.o];exact O));clear O;go_wp2;go_roundw;exact⟨r+1,by omega,by go_num,aa (by rw[<-d6.o];exact Y.o.1),aa (J.o.grown Y.o.2 a9 (by rintro q ⟨⟩;exact e8))⟩;simp[intOf];omega
   ·have f4:((z.toNat:Int)==0)=false:=by
     have:z.toNat≠0:=λe=>O (dz.1 e)
     simp[this]
    have d6:=aa (Bb f r (by rw[<-g6.o];exact O));clear O;go_wp2;go_roundw;exact⟨r+1,by omega,by go_num,aa (by rw[<-d6.o];exact I.o),J⟩;simp[intOf];omega
  ·obtain rfl:r=P:=by omega
   obtain⟨l0,l3,c2,k4⟩:=aS I.o (by omega);simp only[aJ,true_and] at c2;obtain⟨rfl,rfl⟩:=c2;obtain⟨⟨a3,Z,b4⟩,b5,a0,j9,d0⟩:=a6.o _ J.o;obtain⟨f5,f6,f7⟩:=xQ b5;have u0:=a0 0;have u1:=a0 1;have u2:=a0 2;have m0:¬(w.1.size=w.1.size+1):=(by omega);clear b5 a0;go_wp2_with(with_reducible refine fT rfl _ 22 9 5 rfl underlying22 underlying5 underlying9 _ r _ (dZ (jT f r) r) rfl k4 ?_);refine bodyPost_ret (v:=.tuple #[.agg #[Ud k,Ud m,.string ⟨(dZ (jT f r) r).toArray⟩],.bool true]) (by simp[results,results229,go_sem,f5,f6,f7]) rfl ⟨by rw[i8.o],?_⟩;exact((d0.setCell (by simp) _).setCell (by simp) _).setCell (by simp) _
def lh(o:ByteArray)(k n m:Nat):Nat->Option (Nat×ByteArray)
 |0=>none
 |j+1=>match lh o k n m j with
  |some r=>some r
  |none=>(pf o k n m j).map λs=>(j,s)
theorem CK{o:ByteArray}{k n m j:Nat}{r:Nat×ByteArray}(h:lh o k n m j=some r):∀q,lh o k n m (j+q)=some r
 |0=>h
 |q+1=>by
  show lh o k n m ((j+q)+1)=_
  rw[lh,CK h q]
theorem Oh{o}{k n m j}{s}(h:lh o k n m j=none)(D:pf o k n m j=some s):lh o k n m (j+1)=some (j,s):=by rw[lh,h,D];rfl
theorem Kf{o}{k n m j}(h:lh o k n m j=none)(D:pf o k n m j=none):lh o k n m (j+1)=none:=by rw[lh,h,D];rfl
def nG(o:ByteArray)(k n m:Nat):Option (Nat×ByteArray):=if k^m<=27 then lh o k n m (n+m-1) else none
theorem FF{o}{k n m j}{s}(D:k^m<=27)(h:lh o k n m j=none)(E:pf o k n m j=some s)(F:j<n+m-1):nG o k n m=some (j,s):=by
 have:=CK (Oh h E) (n+m-1-(j+1));rw[show j+1+(n+m-1-(j+1))=n+m-1 by omega] at this;unfold nG;rw[if_pos D,this]
def LC(k m:Nat)(r:Option (Nat×ByteArray)):Value:=match r with
 |some (a,s)=> .tuple #[.agg #[Ud k,Ud m,.string s],Ud a,.bool true]
 |none=> .tuple #[.agg #[Ud 0,Ud 0,.string ⟨#[]⟩],Ud 0,.bool false]
theorem rJ(k n m:Nat)(o)(w)(d3:o.size<=maxLen)(h:du k n o=true)(d2:1<=m)(c4:m<=4):
 Calls prog 162 #[.agg #[Ud k,Ud n,.string o],Ud m] w λe w'=>e= .returned (LC k m (nG o k n m))/\Below w.1.size w w':=by
 have W:=xI h;have c1:=W.k23;have c5:=W.n1;have c6:=W.n4;have c2:k<=3:=(by omega);obtain⟨L,b5⟩:=aB (n+m-1);have d7:(n:Int)+(m:Int)-1=(L:Int):=(by omega);have d6:L<=7:=(by omega);have e1:¬((m:Int)<1):=(by omega);have e2:¬((4:Int)<(m:Int)):=(by omega);have d9:=fj (x:=(m:Int)) (lo:=1) (hi:=4) (by omega);obtain⟨P,F⟩:=aB (k^m);have d8:P<=6561:=by rw[F];exact eb c2 (by omega)
 have b0:=aa (λw:World=>gh k n o w d3);rw[h] at b0;have Z:=aa (λw=>dw k m c2 c4 w);try rw[show eC k m=k^m from rfl] at Z
 rw[<-F] at Z;have Y:=aa (λ(V:World) (a1:Below ((w.alloc (.cells #[Ud k,Ud n,.string o] 31)).alloc (.cells #[Ud 0,Ud 0,.string ⟨#[]⟩] 31)).1.size ((w.alloc (.cells #[Ud k,Ud n,.string o] 31)).alloc (.cells #[Ud 0,Ud 0,.string ⟨#[]⟩] 31)) V)=>show(V.cell? ⟨w.1.size,0,none⟩=some (Ud k)/\V.cell? ⟨w.1.size,1,none⟩=some (Ud n)/\V.cell? ⟨w.1.size,2,none⟩=some (.string o))/\(∀q,V.cell? ⟨w.1.size+1,q,none⟩=(#[Ud 0,Ud 0,.string ⟨#[]⟩]:Array Value)[q]?)/\(∀q,V.frozen? ⟨w.1.size+1,q,none⟩=false)/\w.1.size+1<V.1.size/\Below w.1.size w V from by
  obtain⟨⟨a0,_⟩,⟨b4,c9⟩,d0,d1⟩:=Bl a1;exact⟨⟨a0 0,a0 1,a0 2⟩,b4,c9,d0,d1⟩)
 by_cases b1:P<=27
 ·have d4:¬((27:Int)<(P:Int)):=by omega
  have c7:=aa (λ(j:Nat) (w:World) (c0:j<L)=>BL k n m j o w ⟨W,d2,c4,by rw[<-F];exact b1,by omega⟩);have b9:=aa (λ(j:Nat) (s:ByteArray) (h:lh o k n m j=none) (I:pf o k n m j=some s) (c0:j<L)=>show nG o k n m=some (j,s) from FF (by rw[<-F];exact b1) h I (by omega));have b8:=aa (λ(h:lh o k n m L=none)=>show nG o k n m=none from by unfold nG;rw[<-F,if_pos b1,<-b5];exact h);obtain⟨V,a1⟩:=aB (nG o k n m);rw[<-a1] at b9 b8;rw[<-a1];clear h W c1 c5 c6 b5 F a1;go_enter func162,ntmps162;go_wp2_with(first|(go_at_call 25;refine(b0.o _).mono ?_;rintro e b7 ⟨rfl,a2⟩;obtain⟨⟨a7,a8,a9⟩,_⟩:=Y.o b7 a2)|(go_at_call 96;refine(eB _ _ _ _).mono ?_;rintro e w' ⟨rfl,rfl⟩)|(go_at_call 97;refine(Z.o _).mono ?_;rintro e w' ⟨rfl,rfl⟩));have E:=aa a2;clear a2 b0 Z a7 a8 a9;go_loopw[7] (λi wr=>∃j:Nat,j<=L/\i= Ud j/\bv (lh o k n m j=none)/\bv (Below ((w.alloc (.cells #[Ud k,Ud n,.string o] 31)).alloc (.cells #[Ud 0,Ud 0,.string ⟨#[]⟩] 31)).1.size ((w.alloc (.cells #[Ud k,Ud n,.string o] 31)).alloc (.cells #[Ud 0,Ud 0,.string ⟨#[]⟩] 31)) wr)) (λi _=>L-(intOf i).toNat);exact⟨0,by omega,rfl,aa rfl,E⟩;clear E;obtain⟨j,c0,rfl,b3,E⟩:=hrel;by_cases b6:j<L
  ·have e0:(j:Int)<(L:Int):=by omega
   obtain⟨⟨a7,a8,a9⟩,_⟩:=Y.o wr E.o;have U:=aa (c7.o j);cases I:pf o k n m j with
   |none=>
    rw[I] at U;simp only[LF] at U;have J:=aa (Kf b3.o I);clear I;go_wp2_with fail;refine(U.o _ b6).mono ?_;rintro e d5 ⟨rfl,a3⟩;have b2:=aa (E.o.trans (a3.mono E.o.size));clear a3 a7 a8 a9;go_wp2;go_roundw;exact⟨j+1,by omega,by go_num,J,b2⟩;simp[intOf];omega
   |some s=>
    rw[I] at U;simp only[LF] at U;have J:=aa (b9.o j s b3.o I b6);clear I;go_wp2_with fail;refine(U.o _ b6).mono ?_;rintro e d5 ⟨rfl,a3⟩;have b2:=aa (E.o.trans (a3.mono E.o.size));clear a3 a7 a8 a9;obtain⟨⟨c8,a0,b4⟩,Q,D,c3,O⟩:=Y.o _ b2.o;obtain⟨a4,a5,a6⟩:=xQ Q;have u0:=D 0;have u1:=D 1;have u2:=D 2;clear Q D;go_wp2;refine bodyPost_ret (v:=.tuple #[.agg #[Ud k,Ud m,.string s],Ud j,.bool true]) (by simp[results,results162,go_sem,a4,a5,a6]) rfl ⟨by rw[J.o];rfl,?_⟩;exact((O.setCell (by simp) _).setCell (by simp) _).setCell (by simp) _
  ·obtain rfl:j=L:=by omega
   have J:=aa (b8.o b3.o);obtain⟨⟨c8,a0,b4⟩,Q,D,c3,O⟩:=Y.o _ E.o;obtain⟨a4,a5,a6⟩:=xQ Q;have u0:=D 0;have u1:=D 1;have u2:=D 2;clear Q D;go_wp2;refine bodyPost_ret (v:=.tuple #[.agg #[Ud 0,Ud 0,.string ⟨#[]⟩],Ud 0,.bool false]) (by simp[results,results162,go_sem,a4,a5,a6]) rfl ⟨by rw[J.o];rfl,?_⟩;first|exact O|exact((O.setCell (by simp) _).setCell (by simp) _).setCell (by simp) _
 ·have d4:(27:Int)<(P:Int):=by omega
  have J:=aa (show nG o k n m=none by unfold nG;rw[<-F,if_neg b1]);clear h W c1 c5 c6 b5 F;go_enter func162,ntmps162;go_wp2_with(first|(go_at_call 25;refine(b0.o _).mono ?_;rintro e b7 ⟨rfl,a2⟩;obtain⟨⟨a7,a8,a9⟩,Q,D,c3,O⟩:=Y.o b7 a2;obtain⟨a4,a5,a6⟩:=xQ Q;have u0:=D 0;have u1:=D 1;have u2:=D 2)|(go_at_call 96;refine(eB _ _ _ _).mono ?_;rintro e w' ⟨rfl,rfl⟩)|(go_at_call 97;refine(Z.o _).mono ?_;rintro e w' ⟨rfl,rfl⟩));refine bodyPost_ret (v:=.tuple #[.agg #[Ud 0,Ud 0,.string ⟨#[]⟩],Ud 0,.bool false]) (by simp[results,results162,go_sem,a4,a5,a6]) rfl ⟨by rw[J.o];rfl,?_⟩;first|exact O|exact((O.setCell (by simp) _).setCell (by simp) _).setCell (by simp) _
theorem sp(k n m:Nat)(o)(w)(d2:o.size<=maxLen)(h:du k n o=true)(d0:1<=m)(d1:m<=4):
 Calls prog 158 #[.agg #[Ud k,Ud n,.string o],Ud m] w λe w'=>e= .returned (LC k m (nG o k n m))/\Below w.1.size w w':=by
 have Y:=xI h;have c1:=Y.k23;have c4:=Y.n1;have c5:=Y.n4;have c2:k<=3:=(by omega);obtain⟨L,b4⟩:=aB (n+m-1);have d7:(n:Int)+(m:Int)-1=(L:Int):=(by omega);have d6:L<=7:=(by omega);have e1:¬((m:Int)<1):=(by omega);have e2:¬((4:Int)<(m:Int)):=(by omega);have d9:=fj (x:=(m:Int)) (lo:=1) (hi:=4) (by omega);obtain⟨P,F⟩:=aB (k^m);have d8:P<=6561:=by rw[F];exact eb c2 (by omega)
 have a9:=aa (λw:World=>jf k n o w d2);rw[h] at a9;have a0:=aa (λw=>mL k m c2 (by omega) w);try rw[show eC k m=k^m from rfl] at a0
 rw[<-F] at a0;have Z:=aa (λ(V:World) (a1:Below ((w.alloc (.cells #[Ud k,Ud n,.string o] 31)).alloc (.cells #[Ud 0,Ud 0,.string ⟨#[]⟩] 31)).1.size ((w.alloc (.cells #[Ud k,Ud n,.string o] 31)).alloc (.cells #[Ud 0,Ud 0,.string ⟨#[]⟩] 31)) V)=>show(V.cell? ⟨w.1.size,0,none⟩=some (Ud k)/\V.cell? ⟨w.1.size,1,none⟩=some (Ud n)/\V.cell? ⟨w.1.size,2,none⟩=some (.string o))/\(∀q,V.cell? ⟨w.1.size+1,q,none⟩=(#[Ud 0,Ud 0,.string ⟨#[]⟩]:Array Value)[q]?)/\(∀q,V.frozen? ⟨w.1.size+1,q,none⟩=false)/\w.1.size+1<V.1.size/\Below w.1.size w V from by
  obtain⟨⟨b0,_⟩,⟨b9,c7⟩,c8,c9⟩:=Bl a1;exact⟨⟨b0 0,b0 1,b0 2⟩,b9,c7,c8,c9⟩)
 by_cases b1:P<=27
 ·have d3:¬((27:Int)<(P:Int)):=by omega
  have c6:=aa (λ(j:Nat) (w:World) (c0:j<L)=>AE k n m j o w ⟨Y,d0,d1,by rw[<-F];exact b1,by omega⟩);have b8:=aa (λ(j:Nat) (s:ByteArray) (h:lh o k n m j=none) (I:pf o k n m j=some s) (c0:j<L)=>show nG o k n m=some (j,s) from FF (by rw[<-F];exact b1) h I (by omega));have b7:=aa (λ(h:lh o k n m L=none)=>show nG o k n m=none from by unfold nG;rw[<-F,if_pos b1,<-b4];exact h);obtain⟨V,a1⟩:=aB (nG o k n m);rw[<-a1] at b8 b7;rw[<-a1];clear h Y c1 c4 c5 b4 F a1;go_enter func158,ntmps158;go_wp2_with(first|(go_at_call 69;refine(a9.o _).mono ?_;rintro e b6 ⟨rfl,a2⟩;obtain⟨⟨a6,a7,a8⟩,_⟩:=Z.o b6 a2)|(go_at_call 155;refine(a0.o _).mono ?_;rintro e w' ⟨rfl,rfl⟩));have D:=aa a2;clear a2 a9 a0 a6 a7 a8;go_loopw[34] (λi wr=>∃j:Nat,j<=L/\i= Ud j/\bv (lh o k n m j=none)/\bv (Below ((w.alloc (.cells #[Ud k,Ud n,.string o] 31)).alloc (.cells #[Ud 0,Ud 0,.string ⟨#[]⟩] 31)).1.size ((w.alloc (.cells #[Ud k,Ud n,.string o] 31)).alloc (.cells #[Ud 0,Ud 0,.string ⟨#[]⟩] 31)) wr)) (λi _=>L-(intOf i).toNat);exact⟨0,by omega,rfl,aa rfl,D⟩;clear D;obtain⟨j,c0,rfl,b3,D⟩:=hrel;by_cases b5:j<L
  ·have e0:(j:Int)<(L:Int):=by omega
   obtain⟨⟨a6,a7,a8⟩,_⟩:=Z.o wr D.o;have W:=aa (c6.o j);cases I:pf o k n m j with
   |none=>
    rw[I] at W;simp only[LA] at W;have J:=aa (Kf b3.o I);clear I;go_wp2_with fail;refine(W.o _ b5).mono ?_;rintro e d4 ⟨rfl,U⟩;have b2:=aa ((D.o.trans (U.mono D.o.size)).alloc (D.o.trans (U.mono D.o.size)).size (.cells #[Ud 0,Ud 0,.string ⟨#[]⟩] 31));clear U a6 a7 a8;go_wp2;go_roundw;exact⟨j+1,by omega,by go_num,J,b2⟩;simp[intOf];omega
   |some s=>
    rw[I] at W;simp only[LA] at W;have J:=aa (b8.o j s b3.o I b5);clear I;go_wp2_with fail;refine(W.o _ b5).mono ?_;rintro e d4 ⟨rfl,U⟩;have b2:=aa ((D.o.trans (U.mono D.o.size)).alloc (D.o.trans (U.mono D.o.size)).size (.cells #[Ud k,Ud m,.string s] 31));clear U a6 a7 a8;obtain⟨_,Q,E,c3,O⟩:=Z.o _ b2.o;obtain⟨a3,a4,a5⟩:=xQ Q;have u0:=E 0;have u1:=E 1;have u2:=E 2;clear Q E;go_wp2;refine bodyPost_ret (v:=.tuple #[.agg #[Ud k,Ud m,.string s],Ud j,.bool true]) (by simp[results,results158,go_sem,a3,a4,a5]) rfl ⟨by rw[J.o];rfl,?_⟩;exact((O.setCell (by simp) _).setCell (by simp) _).setCell (by simp) _
  ·obtain rfl:j=L:=by omega
   have J:=aa (b7.o b3.o);obtain⟨⟨d5,b0,b9⟩,Q,E,c3,O⟩:=Z.o _ D.o;obtain⟨a3,a4,a5⟩:=xQ Q;have u0:=E 0;have u1:=E 1;have u2:=E 2;clear Q E;go_wp2;refine bodyPost_ret (v:=.tuple #[.agg #[Ud 0,Ud 0,.string ⟨#[]⟩],Ud 0,.bool false]) (by simp[results,results158,go_sem,a3,a4,a5]) rfl ⟨by rw[J.o];rfl,?_⟩;first|exact O|exact((O.setCell (by simp) _).setCell (by simp) _).setCell (by simp) _
 ·have d3:(27:Int)<(P:Int):=by omega
  have J:=aa (show nG o k n m=none by unfold nG;rw[<-F,if_neg b1]);clear h Y c1 c4 c5 b4 F;go_enter func158,ntmps158;go_wp2_with(first|(go_at_call 69;refine(a9.o _).mono ?_;rintro e b6 ⟨rfl,a2⟩;obtain⟨⟨a6,a7,a8⟩,Q,E,c3,O⟩:=Z.o b6 a2;obtain⟨a3,a4,a5⟩:=xQ Q;have u0:=E 0;have u1:=E 1;have u2:=E 2)|(go_at_call 155;refine(a0.o _).mono ?_;rintro e w' ⟨rfl,rfl⟩));refine bodyPost_ret (v:=.tuple #[.agg #[Ud 0,Ud 0,.string ⟨#[]⟩],Ud 0,.bool false]) (by simp[results,results158,go_sem,a3,a4,a5]) rfl ⟨by rw[J.o];rfl,?_⟩;first|exact O|exact((O.setCell (by simp) _).setCell (by simp) _).setCell (by simp) _
end Go.Proofs.YtbdlbckeffakjaaGreatDoor
