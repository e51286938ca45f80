/- Labelled graphs: the labelled graph of sets, the program's function. Conditions: the arcs lie in memory. -/
import Derived.Deep.Upon
import Derived.Test.YtbdlbckeffakjaaGreatDoorNamM
namespace Go.Proofs.YtbdlbckeffakjaaGreatDoor
set_option maxHeartbeats 8000000
set_option maxRecDepth 100000
open Go.RowKit Go.Proofs.Tryz
def pk(zs:List (Nat×Value)):List Value:=zs.flatMap λz=>[Ud (z.1:Int),z.2]
theorem IF(zs)(z):pk (zs++[z])=pk zs++[Ud (z.1:Int),z.2]:=by simp[pk]
theorem pj{z:Nat×Value}:∀{zs:List (Nat×Value)} {k:Nat},zs[k]? =some z->(pk zs)[k*2]? =some (Ud (z.1:Int))/\(pk zs)[k*2+1]? =some z.2
 |[],k,h=>by simp at h
 |q::ys,0,h=>by
  simp at h;subst h;exact⟨rfl,rfl⟩
 |q::ys,k+1,h=>by
  have D:=pj (zs:=ys) (k:=k) (by simpa using h);have e:pk (q::ys)= Ud (q.1:Int)::q.2::pk ys:=by simp[pk]
  rw[e,show(k+1)*2=k*2+1+1 by omega];exact⟨D.1,D.2⟩
theorem Cj(l)(c):bo (l++[c])=bo l++[.int .u8 (c.toNat:Int)]:=by simp[bo]
theorem Ck(l):∀u∈bo l,u.oneCell'=true:=by
 intro u h;obtain⟨x,_,rfl⟩:=bi.1 h;rfl
theorem Fy{P}{wr:World}{I}{J}{o}{a}{Q}
 (Z:o.guard=none)(s x)(t)(a4:o.op=Op.call {callee:=Callee.builtin Builtin.append,args:=#[s,x],argTypes:=#[t,t]})
 (B)(e)(D)(U:P.underlying t=some (.slice e))(a1:(P.info? e).map (λi=>(i.zero,i.size,i.bytes))=some (some (.agg #[Ud 0,.slice none 0 0]),2,D))
 (v)(m)(zs)(z:Nat×Value)(b0:z.2.oneCell'=true)(a5:wr.ownsRow B e 2 v m (pk zs))(a7:a.eval s=v)(a8:a.eval x= .slice (some ⟨wr.1.size,0,none⟩) 1 1)
 (a3:(m+1)*D<=140737488355328)(b4:(m+1)*2<=maxLen)(b3:B<=wr.1.size)
 (W:∀E c' h,h.ownsRow B e 2 (.slice (some ⟨E,0,none⟩) (m+1) c') (m+1) (pk (zs++[z]))->wr.grownBy h v.ownBlock->wpList P I Q J (a.put o.dst (.slice (some ⟨E,0,none⟩) (m+1) c')) h):
 wpList P I Q (o::J) a (wr.alloc (.cells #[Ud (z.1:Int),z.2] e)):=by
 obtain⟨i,hi,a9,b2,b1⟩:=info_parts a1;refine wpList_append_lies _ Z s x t a4 B e i _ 2 D U hi a9 b2 b1 rfl (by decide) v m (pk zs) a7 (a5.alloc _) ⟨wr.1.size,0,none⟩ 1 1 [Ud (z.1:Int),z.2] a8 rfl ?_ (by intro u F;simp at F;rcases F with rfl|rfl;rfl;exact b0) (by omega) (by omega) a3 (by simp;omega) (wr.1.size+1) (by simp) ?_
 ·intro j y a2;have Y:(⟨wr.1.size,0,none⟩:Addr).add j=⟨wr.1.size,j,none⟩:=by
   unfold Addr.add;split
   ·rename_i O;subst O;rfl
   ·simp
  rw[Y,aL _ _ _ _ rfl];rw[<-a2];simp
 ·intro g c h a6 a0 _ _;exact W g c h (by rw[IF];exact a6) (dd (cC _ _ _) a0)
theorem Fz{P}{wr}{a5}{a6}{o}{a}{Q}
 (W:o.guard=none)(s x)(t)(a2:o.op=Op.call {callee:=Callee.builtin Builtin.append,args:=#[s,x],argTypes:=#[t,t]})
 (B)(e)(I:P.underlying t=some (.slice e))(Y:(P.info? e).map (λi=>(i.zero,i.size,i.bytes))=some (some (.int .u8 0),1,1))
 (D)(J:wr.ownsRow B e 1 (.slice (some ⟨D,0,none⟩) 0 0) 0 [])(a3:a.eval s= .slice (some ⟨D,0,none⟩) 0 0)(a7)(n)(E)(a4:a.eval x=a7)(O:wr.ownsRow B e 1 a7 n E)(b6:∀u∈E,u.oneCell'=true)(c4:n<=1000000)(a8:B<=wr.1.size)
 (U:∀h c' F,F.ownsRow B e 1 (.slice (some ⟨h,0,none⟩) n c') n E->wr.grownBy F (some D)->(h=D\/wr.1.size<=h)->h<F.1.size->wpList P a5 Q a6 (a.put o.dst (.slice (some ⟨h,0,none⟩) n c')) F):
 wpList P a5 Q (o::a6) a wr:=by
 have a0:=O.1;rcases O.2 with⟨rfl,rfl⟩|⟨g,cap,b7,rfl,c2,c3,b8,b9,c0,c1⟩
 ·obtain rfl:E=[]:=ey (by simpa using a0);obtain⟨i,hi,c5,c6,c7⟩:=info_parts Y;refine wpList_plain W λK a9=> ?_
  have b5:=run_append_nothing (P:=P) wr t t o.type e i I hi (some ⟨D,0,none⟩) 0 0 aQ (.slice none 0 0) (Src.ofNil wr I 0);unfold Oper.wp execOp;simp only[a2,resolve,invoke,builtin,Sem.run_bind,Sem.run_pure,Result.andThen_ok,List.map_toArray,ej,lD,a3,a4,b5];exact a9 _ _ (U D 0 wr J ⟨rfl,rfl,rfl,aN _,λ_ _ _=>rfl⟩ (.inl rfl) (J.lt _ rfl).2)
 ·have b2:E.length=n:=by simpa using a0
  have b0:∀(j:Nat) (u:Value),E[j]? =some u->wr.cell? ⟨g,0+j,none⟩=some u:=by
   intro j u Z;rw[aW];exact(O.cellAt j (by have:=(aw.1 Z).1;omega)).trans Z
  refine aX W s x t a2 B e (.int .u8 0) 1 I Y rfl D 0 0 [] J a3 g 0 n cap E a4 b2 b0 b6 (by omega) (by unfold maxLen;omega) a8 ?_;intro h c' F a1 b1 b4 b3;rw[aW] at a1;have:=U h c' F (by simpa using a1) b1 b4 b3;rw[aW];exact this
theorem Lu(w):(zeroValue 4).run prog w= .ok (.bool false) w:=by kernel_rfl
theorem Nk:(prog.info? 180).map (λi=>(i.zero,i.size,i.bytes))=some (some (.agg #[Ud 0,.slice none 0 0]),2,32):=by kernel_rfl
theorem Du:(prog.info? 5).map (λi=>(i.zero,i.size,i.bytes))=some (some (.int .u8 0),1,1):=by kernel_rfl
structure Sm (W1 : World) (B mb : Nat) (ys : List (Nat × List UInt8)) (zs : List (Nat × Value)) (v : Value) (m : Nat) (wr : World) : Prop where
  len : ys.length = m
  fst : zs.map (·.1) = gi ys
  wds : ∀ (i : Nat) (p : Nat × List UInt8) (z : Nat × Value), ys[i]? = some p → zs[i]? = some z → wr.ownsRow B 5 1 z.2 p.2.length (bo p.2)
  list : wr.ownsRow B 180 2 v m (pk zs)
  map : wr.ownsMap Tryz.prog 3 (plainElem Tryz.prog 4) mb m (vx (gi ys))
  bel : Below B W1 wr
theorem Sm.below{E}{B F m}{ys}{zs}{v}{wr w'}(h:Sm E B F ys zs v m wr)(D:Below wr.1.size wr w')(I:B<=wr.1.size):Sm E B F ys zs v m w':=
 ⟨h.len,h.fst,λi p z J O=>ai (h.wds i p z J O) D,ai h.list D,gE h.map D,h.bel.trans (D.mono I)⟩
theorem Sm.at_{F}{B I m}{ys}{zs}{v}{wr}(h:Sm F B I ys zs v m wr){i:Nat}{p}(E:ys[i]? =some p):∃z,zs[i]? =some (p.1,z)/\wr.ownsRow B 5 1 z p.2.length (bo p.2):=by
 have D:=congrArg (λl=>l[i]?) h.fst;simp only[dl,gi,E,mY] at D;cases hz:zs[i]? with
 |none=>rw[hz] at D;cases D
 |some z=>
  rw[hz] at D;simp only[mY,aI] at D;exact⟨z.2,by rw[<-D],h.wds i p z E hz⟩
def JP(D h:Nat)(o:Option (List UInt8))(w:World)(e:Ending)(w':World):Prop:=
 e= .returned (.tuple #[])/\match o with
  |none=>Below w.1.size w w'
  |some l=>∃V,Below w.1.size w V/\w'=(V.setCell ⟨D,0,none⟩ (.string ⟨l.toArray⟩)).setCell ⟨h,0,none⟩ (.bool true)
theorem Gj{E D}{l}{w V}(h:Below w.1.size w V){o}(F:o=some l):JP E D o w (.returned (.tuple #[])) ((V.setCell ⟨E,0,none⟩ (.string ⟨l.toArray⟩)).setCell ⟨D,0,none⟩ (.bool true)):=by
 subst F;exact⟨rfl,V,h,rfl⟩
theorem Gk{E D}{w V}(h:Below w.1.size w V){o}(F:o=none):JP E D o w (.returned (.tuple #[])) V:=by
 subst F;exact⟨rfl,h⟩
theorem Gi(L S)(a)(n c a1 a0)(G)(w)(q5:aO w a (n*3) (bC (dg G)))(b5:fZ L S G)(u2:n<=1048576)(o7:w.cell? ⟨a1,0,none⟩=some (.string ⟨#[]⟩))(p1:w.frozen? ⟨a1,0,none⟩=false)(o6:w.cell? ⟨a0,0,none⟩=some (.bool false))(p0:w.frozen? ⟨a0,0,none⟩=false)(o4:a1<w.1.size)(n9:a0<w.1.size)(u8:¬(a1=a0)):
 Calls prog 165 #[.agg #[.int .i64 L,.int .i64 S,.slice a n c],.int .i64 16,.func (.func 166) #[] #[.pointer (some ⟨a1,0,none⟩),.pointer (some ⟨a0,0,none⟩)]] w (JP a1 a0 (QC G L (2^S-1)) w):=by
 have r9:=aa (λ(g4:World) (set x:Nat) (s9:Below w.1.size w g4) (j3:set<4096) (s4:x<1000)=>si L S a n c G set x g4 (q5.below s9 aQ) b5 j3 s4 u2);have h4:=aa (λ(g4:World)=>uM (L:Int) S (.slice a n c) g4 b5.s12);have c1:=aa (λ(V:World) (I:Below (w.1.size+1) (w.alloc (.cells #[.int .i64 L,.int .i64 S,.slice a n c] 35)) V)=>dT I);obtain⟨E,d0⟩:=aB (w.alloc (.cells #[.int .i64 L,.int .i64 S,.slice a n c] 35));have n2:Below w.1.size w E:=by rw[d0];exact aZ.alloc aQ _
 have u7:E.1.size=w.1.size+1:=by rw[d0];simp
 rw[<-d0,<-u7] at c1;have l4:=aa (λ(V:World) (I:Below w.1.size w V)=>show V.cell? ⟨a1,0,none⟩=some (.string ⟨#[]⟩)/\V.frozen? ⟨a1,0,none⟩=false/\V.cell? ⟨a0,0,none⟩=some (.bool false)/\V.frozen? ⟨a0,0,none⟩=false from
  ⟨(I.cell (p:=⟨a1,0,none⟩) o4).trans o7,(I.frozen (p:=⟨a1,0,none⟩) o4).trans p1,(I.cell (p:=⟨a0,0,none⟩) n9).trans o6,(I.frozen (p:=⟨a0,0,none⟩) n9).trans p0⟩)
 have s5:=iB b5.s12;have u4:1<=2^S:=gY S;have c0:2<=2^S:=by have:=bG (n:=2) (by omega) b5.s1;simpa using this
 have d9:=aa (λ(set x:Nat)=>show gV G set x<2^S from rE b5);have v8:=b5.k1;have v9:=b5.k3;have w1:=b5.s12;obtain⟨F,g6⟩:=aB (2^S-1);obtain⟨N,j4⟩:=aB (2^S);rw[<-g6] at h4;rw[<-g6];rw[<-j4] at u4 c0 s5 d9;have s7:F=N-1:=by rw[g6,j4]
 clear g6;have o9:0<F/\F<N:=(by omega);have i3:=aa (λk=>(Ed (G:=G) (L:=L) o9 d9.o k).1);have m5:=aa (λ(k:Nat) (p:Nat×List UInt8) (f1:k<=4096)=>FN (L:=L) (k:=k) (p:=p) o9 d9.o f1);have r8:=aa (λ(k:Nat) (f1:k<=4096)=>FO (G:=G) (L:=L) (full:=F) (k:=k) f1);obtain⟨⟨b1,b2,b3⟩,_⟩:=c1.o E aZ;have l2:=aa n2;have p6:= @run_makeMap prog;have k1:Maps.Keyed prog 3:=Maps.int_keyed underlying3;have p4:keyOf prog 3 (.int .i64 (F:Int))=some (.int .i64 (F:Int)):=Maps.keyOf_int_mk underlying3 (ka F (by omega));clear q5 n2 b5 j4 s7 o7 p1 o6 p0;go_enter func165,ntmps165;go_wp2_with(rw[<-d0]);first|rw[<-d0]|skip
 clear d0;refine(h4.o E).mono ?_;rintro e b4 ⟨rfl,e8⟩;obtain⟨a9,e7⟩:=aB (b4.alloc (.cells #[.int .i64 F,.slice none 0 0] 180));obtain⟨e3,g7⟩:=aB (a9.alloc (.map #[] 0));have d1:Below b4.1.size b4 a9:=by rw[e7];exact aZ.alloc aQ _
 have j6:Below a9.1.size a9 e3:=by rw[g7];exact aZ.alloc aQ _
 have q9:a9.1.size=b4.1.size+1:=by rw[e7];simp
 have l3:=aa e8;have f5:=aa (e8.trans ((bs d1 j6).mono e8.size));have l6:=aa (show e3.ownsRow E.1.size 180 2 (.slice (some ⟨b4.1.size,0,none⟩) 1 1) 1 (pk [(F,.slice none 0 0)]) from by
  have j3:a9.ownsRow b4.1.size 180 2 (.slice (some ⟨b4.1.size,0,none⟩) 1 1) 1 [.int .i64 (F:Int),.slice none 0 0]:=by
   rw[e7];have:=ew (base:=b4.1.size) (e:=180) (size:=2) b4 #[.int .i64 (F:Int),.slice none 0 0] 1 aQ (by unfold maxLen;simp) (by simp);simpa using this
  exact ai (aT j3 e8.size) j6)
 have m0:=aa (show e3.ownsMap prog 3 (plainElem (H:=Unit) prog 4) a9.1.size 0 (.map []) from by
  rw[g7];exact World.ownsMap_made a9 prog 3 (plainElem (H:=Unit) prog 4))
 have m8:=aa e7;have g1:=aa g7;have g3:=aa q9;clear b1 b2 b3 e8 d1 j6 e7 g7 q9;obtain⟨⟨b1,b2,b3⟩,_⟩:=c1.o e3 f5.o;go_upto_region 2 with fail
 rw[<-m8.o];rw[g1.o] at b1 b2 b3;go_wp2_with fail;rw[<-g1.o];refine(h4.o e3).mono ?_;rintro e l0 ⟨rfl,c5⟩;rw[<-g1.o] at b1 b2 b3;have h5:=aa (f5.o.trans (c5.mono f5.o.size));have h0:=gE m0.o c5;have k0:=ai l6.o c5;have i0:=aa (show E.1.size<=a9.1.size from by have:=l3.o.size;have:=g3.o;omega);obtain⟨c6,k3⟩:=aB a9.1.size;rw[<-k3] at h0 i0;have l8:=aa (gm k0 h0);have m1:=aa h0;have l7:=aa k0;clear m0 l6 h0 k0 c5 b1 b2 b3 p6;first|rw[<-k3]|skip
 clear k3;go_wp2_with(first|(refine vc _ rfl _ _ _ 174 rfl 3 4 k1 underlying174 (plainElem (H:=Unit) prog 4) c6 0 _ rfl m1.o (by unfold maxLen;omega) (.int .i64 (F:Int)) (.bool true) _ rfl rfl p4 _ _ (plainElem_bool underlying4 true) ?_;intro h2 f3 d3));have l1:=aa (show Sm E E.1.size c6 (oq G L F 0) [(F,.slice none 0 0)] (.slice (some ⟨b4.1.size,0,none⟩) 1 1) 1 h2 from by
  refine⟨rfl,rfl,λi p z Y J=> ?_,l7.o.kept d3 (.inr l8.o),f3,(h5.o).grown d3 h5.o.size (by rintro k ⟨⟩;exact i0.o)⟩;match i,Y,J with
  |0,Y,J=>
   simp[oq] at Y J;subst Y J;exact dk _ _ _ _)
 clear f3 d3 m1 l7 l8 m8 g1 g3 l3 f5 h5 p4;go_loopw[6,8] (λi9 i wr=>∃(K m D cs:Nat) (zs:List (Nat×Value)),bv (.slice (some ⟨D,0,none⟩) m cs=i9)/\i= .int .i64 K/\bv (K<=m)/\bv (Sm E E.1.size c6 (oq G L F K) zs (.slice (some ⟨D,0,none⟩) m cs) m wr)/\bv (∀(j:Nat) (q:Nat×List UInt8),j<K->(oq G L F K)[j]? =some q->jo q.1=false)) (λ_ i _=>4097-(intOf i).toNat);exact⟨0,1,_,_,_,aa rfl,rfl,aa (dW _),l1,aa (λj q t8 _=>by omega)⟩;clear l1;obtain⟨K,m,D,cs,zs,k7,rfl,r3,Z,f7⟩:=hrel;have k7:=k7.o;subst k7;have v5:=r3.o;have w4:m<=N:=by rw[<-Z.o.len];exact(i3.o K).few
 by_cases t9:K<m
 ·have v6:(K:Int)<(m:Int):=by omega
  obtain⟨q,a6⟩:=aE (l:=oq G L F K) (n:=K) (by rw[Z.o.len];exact t9);have q3:=(i3.o K).pos q (aj a6);have h1:q.1<4096:=(by omega);have u5:=q3.2.2;have a8:=aa (zx a6);have g0:=aa (λ(Y:jo q.1=true)=>m5.o K q (by omega) a6 Y f7.o);have e0:=aa (λ(Y:jo q.1=false) (a5:List (Nat×List UInt8)) (g8:∃l,a5=oq G L F K++l)=>show∀(j:Nat) (p:Nat×List UInt8),j<K+1->a5[j]? =some p->jo p.1=false fromλj p t8 c0=>by
   obtain⟨l,rfl⟩:=g8;rw[aR (by rw[Z.o.len];omega)] at c0;rcases eE j K with h|h
   ·exact f7.o j p h c0
   ·obtain rfl:j=K:=by omega
    rw[a6] at c0;injection c0 with c0
    rw[<-c0];exact Y)
  have c3:=aa (λ(e6:q.2.length<16)=>(i3.o K).xs (G:=G) (p:=q) e6 (d9.o q.1));obtain⟨z,J,b6⟩:=Z.o.at_ a6;obtain⟨b7,c4,rfl⟩:=dm b6;have b8:=(Z.o.list.cellAt (K*2) (by omega)).trans (pj J).1;have b0:=(Z.o.list.cellAt (K*2+1) (by omega)).trans (pj J).2;have m4:=aa a6;obtain⟨a5,g8⟩:=aB (oq G L F K);rw[<-g8] at Z a8 e0 c3 m4;obtain⟨b,j5⟩:=aB (jo q.1);rw[<-j5] at g0 e0;have h6:=aa j5.symm;have t3:=Z.o.bel.size;have b9:D<wr.1.size:=(Z.o.list.lt _ rfl).2;have j9:¬(a1=D):=by have:=(Z.o.list.lt D rfl).1;omega
  have j7:¬(a0=D):=by have:=(Z.o.list.lt D rfl).1;omega
  obtain⟨⟨b1,b2,b3⟩,_,n8⟩:=c1.o wr Z.o.bel;have h7:=aa n8;clear a6 g8 q3 f7 m5 J j5 n8;have i4:=aa (show∀V,Below wr.1.size wr V->aO V b7 q.2.length (bo q.2) fromλV I=>by
   obtain⟨a',c',o8,u6⟩:=aS (ai b6 I) (by omega);simp only[aJ,true_and] at o8;obtain⟨rfl,rfl⟩:=o8;exact u6)
  have c8:=aa b6;have c2:=aa (λ(V:World) (I:Below wr.1.size wr V)=>show V.cell? ⟨D,K*2,none⟩=some (.int .i64 (q.1:Nat))/\V.cell? ⟨D,K*2+1,none⟩=some (.slice b7 q.2.length c4) from⟨(I.cell (p:=⟨D,K*2,none⟩) b9).trans b8,(I.cell (p:=⟨D,K*2+1,none⟩) b9).trans b0⟩);have i7:=aa (show Below w.1.size w wr.drew from h7.o.drew);have d5:=aa (l4.o wr.drew i7.o);have c9:=c2.o wr.drew aZ.drew;obtain⟨set,k6⟩:=aB q.1;obtain⟨Q,k4⟩:=aB q.2.length;rw[<-k6] at h6 b8 c2 c9 h1;rw[<-k4] at i4 b0 c2 c9 a8 c3 u5;have f9:=aa k6;have m2:=aa k4;clear b6 k6 k4;cases b with
  |true=>
   have i6:=aa (g0.o rfl);have f6:=aa (FK set b7 Q c4 q.2 a1 a0 _ _ wr.drew h1 h6.o (i4.o _ aZ.drew) d5.o.1 d5.o.2.1 d5.o.2.2.1 d5.o.2.2.2 u8);have n5:∀x y:Value,((wr.drew.setCell ⟨a1,0,none⟩ x).setCell ⟨a0,0,none⟩ y).cell? ⟨D,K*2,none⟩=some (.int .i64 set)/\((wr.drew.setCell ⟨a1,0,none⟩ x).setCell ⟨a0,0,none⟩ y).cell? ⟨D,K*2+1,none⟩=some (.slice b7 Q c4):=λx y=>by
    refine⟨?_,?_⟩
    ·rw[bQ _ _ _ _ (λe=>j7 (by injection e)),bQ _ _ _ _ (λe=>j9 (by injection e))];exact c9.1
    ·rw[bQ _ _ _ _ (λe=>j7 (by injection e)),bQ _ _ _ _ (λe=>j9 (by injection e))];exact c9.2
   have r7:=aa (show∀(V:World) (x y:Value),V=(wr.drew.setCell ⟨a1,0,none⟩ x).setCell ⟨a0,0,none⟩ y->V.cell? ⟨D,K*2,none⟩=some (.int .i64 set)/\V.cell? ⟨D,K*2+1,none⟩=some (.slice b7 Q c4) fromλV x y h=>by rw[h];exact n5 x y);clear n5 g0 e0 c3 a8 c2;go_wp2;go_region_held3(λV=>V.cell? ⟨D,K*2,none⟩=some (.int .i64 set)/\V.cell? ⟨D,K*2+1,none⟩=some (.slice b7 Q c4))
    (first|with_reducible exact c9|with_reducible exact s8)
    (first|(go_at_call 166;refine f6.o.mono ?_;rintro e h3 ⟨rfl,k9⟩;have s8:=r7.o h3 _ _ k9;have s0:=aa k9;clear k9))
   go_wp2;rw[s0.o];refine bodyPost_ret (v:=.tuple #[]) (by simp[results,results165,go_sem]) rfl (Gj i7.o i6.o)
  |false=>
   have i2:=aa (e0.o rfl);have W:Below wr.1.size wr wr.drew:=aZ.drew;have f6:=aa (λ(V:World) (I:Below w.1.size w V)=>IB set (.slice b7 Q c4) a1 a0 V h1 h6.o (l4.o V I).2.2.1);have m7:=aa (λ(V:World) (I:Below wr.1.size wr V)=>show Below w.1.size w V from h7.o.trans (I.mono h7.o.size));clear g0 e0;go_wp2;go_region_held3(λV=>V.cell? ⟨D,K*2,none⟩=some (.int .i64 set)/\V.cell? ⟨D,K*2+1,none⟩=some (.slice b7 Q c4))
    (first|with_reducible exact c2.o _ W)
    (first|(go_at_call 166;refine(f6.o _ (m7.o _ W)).mono ?_;rintro e h3 ⟨rfl,n7⟩;have W:=W.trans (n7.mono W.size)))
   have e1:=aa (Z.o.below W t3);have t0:=c8.o;have s2:=aa (ai c8.o W);obtain⟨b8,b0⟩:=c2.o h3 W;obtain⟨⟨b1,b2,b3⟩,_,t2⟩:=c1.o h3 e1.o.bel;clear c2 f6 m7 i4 t0 c8 Z n7 c9 i7 d5;by_cases e6:Q<16
   ·have a8:=aa (a8.o.trans (if_pos e6));have c3:=aa (c3.o e6);have x0:((Q:Int)==16)=false:=by simp;omega
    go_wp2;go_loopw[6,47] (λi9 i wr=>∃(x O D cs:Nat) (zs:List (Nat×Value)),x<=L/\i= .int .i64 x/\bv (.slice (some ⟨D,0,none⟩) O cs=i9)/\bv (Sm E E.1.size c6 (BG G q a5 x) zs (.slice (some ⟨D,0,none⟩) O cs) O wr)) (λ_ i _=>L-(intOf i).toNat);exact⟨0,m,D,cs,zs,by omega,rfl,aa rfl,e1⟩;clear b1 b2 b3 b8 b0 b9 j9 j7 t2 s2;obtain⟨x,O,U,g5,c7,x5,rfl,k5,a3⟩:=hrel;have k5:=k5.o;subst k5;obtain⟨p9,v0,g9⟩:=c3.o x;have w8:O<=N:=by rw[<-a3.o.len];exact p9.few
    have p6:m<=O:=by rw[<-a3.o.len,g9,az,e1.o.len];omega
    have q4:(BG G q a5 x)[K]? =some q:=by rw[g9,aR (by rw[e1.o.len];omega)];exact m4.o
    have m3:=aa (show∃l,BG G q a5 x=a5++l from⟨v0,g9⟩);obtain⟨z,J,b6⟩:=a3.o.at_ q4;obtain⟨e5,e4,rfl⟩:=dm b6;have b8:=(a3.o.list.cellAt (K*2) (by omega)).trans (pj J).1;have b0:=(a3.o.list.cellAt (K*2+1) (by omega)).trans (pj J).2;rw[<-f9.o] at b8;rw[<-m2.o] at b0 b6;have v7:(K:Int)<(O:Int):=(by omega);have b9:U<wr.1.size:=(a3.o.list.lt _ rfl).2;have o5:=a3.o.bel.size;obtain⟨⟨b1,b2,b3⟩,_,j8⟩:=c1.o wr a3.o.bel;by_cases w7:x<L
    ·have x7:(x:Int)<(L:Int):=by omega
     have i5:=aa (λ(V:World) (I:Below wr.1.size wr V)=>r9.o V set x (j8.trans (I.mono j8.size)) h1 (by omega));have m6:=aa (show gV G set x<N from d9.o set x);have d7:=aa (show∀ys:List (Nat×List UInt8),decide (gV G set x=0\/gV G set x∈gi ys)=true->oz G q x ys=ys fromλys h=>xR (by rw[<-f9.o];exact h));have f8:=aa (show∀ys:List (Nat×List UInt8),decide (gV G set x=0\/gV G set x∈gi ys)=false->oz G q x ys=ys++[(gV G set x,q.2++[dO x])] fromλys h=>by rw[Cv (by rw[<-f9.o];exact h),<-f9.o]);have g2:=aa (FM G q a5 x);obtain⟨a7,q6⟩:=aB (gV G set x);rw[<-q6] at i5 m6 d7 f8;have x4:a7<N:=m6.o;obtain⟨ys,q8⟩:=aB (BG G q a5 x);rw[<-q8] at a3 g2 m3;have W:Below wr.1.size wr wr.drew:=aZ.drew;have h8:=aa (λ(V:World) (I:Below wr.1.size wr V)=>show V.cell? ⟨w.1.size,0,none⟩=some (.int .i64 L)/\V.cell? ⟨w.1.size,1,none⟩=some (.int .i64 S)/\V.cell? ⟨w.1.size,2,none⟩=some (.slice a n c)/\V.cell? ⟨U,K*2,none⟩=some (.int .i64 set)/\V.cell? ⟨U,K*2+1,none⟩=some (.slice e5 Q e4)/\Below wr.1.size wr V from by
      obtain⟨⟨v1,v2,v3⟩,_⟩:=c1.o V (a3.o.bel.trans (I.mono o5));exact⟨v1,v2,v3,(I.cell (p:=⟨U,K*2,none⟩) b9).trans b8,(I.cell (p:=⟨U,K*2+1,none⟩) b9).trans b0,I⟩)
     have c8:=aa b6;clear q6 q8 p9 g9 q4 J b6;go_wp2;go_region_held3(λV=>V.cell? ⟨w.1.size,0,none⟩=some (.int .i64 L)/\V.cell? ⟨w.1.size,1,none⟩=some (.int .i64 S)/\V.cell? ⟨w.1.size,2,none⟩=some (.slice a n c)/\V.cell? ⟨U,K*2,none⟩=some (.int .i64 set)/\V.cell? ⟨U,K*2+1,none⟩=some (.slice e5 Q e4)/\Below wr.1.size wr V)
      (first|with_reducible exact h8.o _ W)
      (first|(go_at_call 170;refine(i5.o _ W).mono ?_;rintro e f4 ⟨rfl,n6⟩;have W:=W.trans (n6.mono W.size)))
     have a4:=aa (a3.o.below W o5);have i8:=aa (ai c8.o W);obtain⟨_,_,_,_,b0,_⟩:=h8.o f4 W;have t6:U<f4.1.size:=aH b9 W.size;clear h8 i5 b1 b2 b3 b8 n6 j8 a3 c8 b9;by_cases j2:a7=0
     ·have e2:=aa (show BG G q a5 (x+1)=ys from by rw[g2.o];exact d7.o ys (decide_eq_true (.inl j2)));subst j2;go_wp2;go_roundw;exact⟨x+1,O,U,g5,c7,by omega,by go_num,aa rfl,aa (by rw[e2.o];exact a4.o)⟩;simp[intOf]<;>omega
     ·have x3:(0:Int)<(a7:Int):=by omega
      have p5:=GJ k1 underlying3 underlying174 underlying4 (Lu f4) a4.o.map (s:=a7) (by omega);by_cases d4:a7∈gi ys
      ·rw[decide_eq_true d4] at p5;have e2:=aa (show BG G q a5 (x+1)=ys from by rw[g2.o];exact d7.o ys (decide_eq_true (.inr d4)));clear d4 d7 f8;go_wp2;go_roundw;exact⟨x+1,O,U,g5,c7,by omega,by go_num,aa rfl,aa (by rw[e2.o];exact a4.o)⟩;simp[intOf]<;>omega
      ·rw[decide_eq_false d4] at p5;have e2:=aa (show BG G q a5 (x+1)=ys++[(a7,q.2++[dO x])] from by rw[g2.o];exact f8.o ys (decide_eq_false (by intro h;rcases h with h|h;exact j2 h;exact d4 h)));clear d4 d7 f8;have f2:=a4.o.map;obtain⟨a2,x2,q0,d2⟩:=f2.update k1 underlying174 (by unfold maxLen;omega) (Maps.keyOf_int_mk underlying3 (ka a7 (by omega))) (plainElem_bool underlying4 true);have n3:E.1.size<=f4.1.size:=a4.o.bel.size;have d1:Below E.1.size f4 a2:=aZ.grown d2 n3 (by rintro z ⟨⟩;exact i0.o);have n4:E.1.size<=a2.1.size:=bn n3 d1.size;have h9:=aa (a4.o.list.kept d2 (.inr (gm a4.o.list f2)));have r2:=aa (λ(i:Nat) (p:Nat×List UInt8) (z:Nat×Value) (Y:ys[i]? =some p) (J:c7[i]? =some z)=>(a4.o.wds i p z Y J).kept d2 (.inr (gm (a4.o.wds i p z Y J) f2)));have g3:=aa (i8.o.kept d2 (.inr (gm i8.o f2)));have l9:=aa q0;have r0:=aa (a4.o.bel.trans d1);have t7:U<a2.1.size:=(h9.o.lt _ rfl).2;have u0:¬(U=c6):=λe=>gm h9.o l9.o (by rw[e];rfl)
       have t4:a2.cell? ⟨U,K*2+1,none⟩=some (.slice e5 Q e4):=(d2.cell_far ⟨U,K*2+1,none⟩ t6 (by simpa using u0)).trans b0;have w3:(a2.alloc (.cells #[] 5)).cell? ⟨U,K*2+1,none⟩=some (.slice e5 Q e4):=((aV a2.1.size a2).alloc aQ _).cell (p:=⟨U,K*2+1,none⟩) t7|>.trans t4;have r4:=aa (bd (w:=a2) (base:=E.1.size) (e:=5) #[] [] rfl n4 (by unfold maxLen;simp));have s1:=aa (g3.o.alloc (.cells #[] 5));have s6:E.1.size<=(a2.alloc (.cells #[] 5)).1.size:=by simp;omega
       have d6:=aa (show ys.length=O from a4.o.len);have l5:=aa a4.o.fst;have w9:(97+(x:Int))%256=97+(x:Int):=(by omega);clear f2 q0 d1 d2 b0 a4 i8;go_wp2_with(first|(at_builtin;refine Fz rfl _ _ 22 rfl E.1.size 5 underlying22 Du a2.1.size r4.o rfl (.slice e5 Q e4) Q (bo q.2) rfl s1.o (Ck _) (by omega) s6 ?_;intro n0 s3 l0 q1 p2 u3 w5;have c5:Below a2.1.size a2 l0:=(aZ.alloc aQ _).grown p2 (by simp) (by rintro k ⟨⟩;exact aN _);have t1:=c5.size;have t5:a2.1.size<=n0:=(by rcases u3 with h|h;omega;simp at h;omega);have r5:=aa (q1.alloc (.cells #[.int .u8 (97+(x:Int))] 5)))|(at_builtin;refine aX rfl _ _ 22 rfl E.1.size 5 (.int .u8 0) 1 underlying22 Du rfl n0 s3 Q (bo q.2) r5.o rfl l0.1.size 0 1 1 [.int .u8 (97+(x:Int))] rfl rfl (by intro q u a6;match q,a6 with|0,a6=>simp at a6;subst a6;simp) (by intro u q7;simp at q7;subst q7;rfl) (by omega) (by unfold maxLen;omega) (by simp;omega) ?_;intro j1 j0 h2 f3 d3 x1 w6;have e9:Below a2.1.size a2 h2:=(c5.alloc t1 _).grown d3 (by simp;omega) (by rintro k ⟨⟩;exact t5);have w2:=e9.size;have d8:=aa (ai h9.o e9))|(at_builtin;go_must(refine Fy rfl _ _ 181 rfl E.1.size 180 32 underlying181 Nk _ O c7 (a7,.slice (some ⟨j1,0,none⟩) (Q+1) j0) rfl d8.o rfl rfl (by omega) (by unfold maxLen;omega) (by omega) ?_);intro n1 m9 v4 q2 f0));have k2:=gE l9.o e9;have p7:some c6≠(Value.slice (some ⟨U,0,none⟩) O g5).ownBlock:=λe=>gm d8.o k2 e.symm
       have k8:h2.ownsRow E.1.size 5 1 (.slice (some ⟨j1,0,none⟩) (Q+1) j0) (q.2++[dO x]).length (bo (q.2++[dO x])):=by
        rw[Cj,az,<-m2.o,show(((dO x).toNat:Nat):Int)=97+(x:Int) from fx (by omega)];exact f3
       have r6:=aa (show Sm E E.1.size c6 (ys++[(a7,q.2++[dO x])]) (c7++[(a7,.slice (some ⟨j1,0,none⟩) (Q+1) j0)]) (.slice (some ⟨n1,0,none⟩) (O+1) m9) (O+1) v4 from by
        refine⟨by rw[az,d6.o];rfl,by rw[ek,l5.o];simp[gi],λi p z Y J=> ?_,q2,?_,(r0.o.trans (e9.mono n4)).grown f0 (by omega) (by rintro k f1;exact(d8.o.lt k f1).1)⟩
        ·have u9:c7.length=O:=by have:=congrArg List.length l5.o;simpa[gi,d6.o] using this
         have x8:ys.length=O:=d6.o;rcases eE i O with h|h
         ·rw[aR (by omega)] at Y J;have p8:=ai (r2.o i p z Y J) e9;exact p8.kept f0 (vJ p8 d8.o (by decide))
         ·have p3:=(aw.1 Y).1;rw[az,d6.o] at p3;obtain rfl:i=O:=by simp at p3;omega
          rw[bj (by omega),d6.o,lB] at Y;rw[bj (by omega),u9,lB] at J;simp at Y J;subst Y J;exact k8.kept f0 (vJ k8 d8.o (by decide))
        ·have u1:=tB k2 f0 p7;have e:gi (ys++[(a7,q.2++[dO x])])=gi ys++[a7]:=by simp[gi]
         rw[e,pv];exact u1)
       clear k2 p7 k8 q2 f0 f3 d3 q1 p2;go_roundw;exact⟨x+1,O+1,n1,m9,_,by omega,by go_num,aa rfl,aa (by rw[e2.o];exact r6.o)⟩;simp[intOf]<;>omega
    ·obtain rfl:x=L:=by omega
     have i1:=aa (i2.o _ m3.o);have x6:¬((x:Int)<(x:Int)):=(by omega);go_wp2;go_roundw;exact⟨K+1,O,U,g5,c7,aa rfl,by go_num,aa (by omega),aa (by rw[a8.o];exact a3.o),aa (by rw[a8.o];exact i1.o)⟩;simp[intOf]<;>omega
   ·have a8:=aa (a8.o.trans (if_neg e6));obtain rfl:Q=16:=(by omega);have i1:=aa (i2.o a5 ⟨[],by simp⟩);clear c3 i2;go_wp2;go_roundw;exact⟨K+1,m,D,cs,zs,aa rfl,by go_num,aa (by omega),aa (by rw[a8.o];exact e1.o),aa (by rw[a8.o];exact i1.o)⟩;simp[intOf]<;>omega
 ·obtain rfl:K=m:=by omega
  have i6:=aa (r8.o K (by omega) (by rw[Z.o.len];exact aN _) f7.o);have r1:=aa (l2.o.trans (Z.o.bel.mono l2.o.size));go_wp2;refine bodyPost_ret (v:=.tuple #[]) (by simp[results,results165,go_sem]) rfl (Gk r1.o i6.o)
theorem sq(L S)(a)(n c)(A)(w)(Q:aO w a (n*3) (bC A))(a0:n<=1048576)(h:ev L S A=false):
 Calls prog 80 #[.agg #[Ud L,Ud S,.slice a n c]] w λe w'=>e= .returned (FL none)/\Below w.1.size w w':=by
 have I:=aa (λ(V:World) (U:Below (w.1.size+1) (w.alloc (.cells #[Ud L,Ud S,.slice a n c] 35)) V)=>dT U);obtain⟨F,D⟩:=aB (w.alloc (.cells #[Ud L,Ud S,.slice a n c] 35));have O:Below w.1.size w F:=by rw[D];exact aZ.alloc aQ _
 have a1:F.1.size=w.1.size+1:=by rw[D];simp
 rw[<-D,<-a1] at I;have J:=aa (λ(W:World) (Y:Below w.1.size w W)=>kD L S a n c A W (Q.below Y aQ) a0);rw[h] at J;obtain⟨⟨a2,a3,a4⟩,_⟩:=I.o F aZ;have E:=aa O;go_enter func80,ntmps80;go_wp2_with(rw[<-D]);first|rw[<-D]|skip
 refine(J.o _ E.o).mono ?_;rintro e a5 ⟨rfl,Z⟩;go_wp2;go_ret2;exact⟨rfl,E.o.trans (Z.mono E.o.size)⟩
theorem rf(L S)(a)(n c)(G)(w)(b4:aO w a (n*3) (bC (dg G)))(b8:fZ L S G)(c0:n<=1048576)(b6:ev L S (dg G)=true):
 Calls prog 80 #[.agg #[Ud L,Ud S,.slice a n c]] w λe w'=>e= .returned (FL (QC G L (2^S-1)))/\Below w.1.size w w':=by
 have a5:=aa (λ(V:World) (c9:Below (w.1.size+1) (w.alloc (.cells #[Ud L,Ud S,.slice a n c] 35)) V)=>dT c9);obtain⟨a7,F⟩:=aB (w.alloc (.cells #[Ud L,Ud S,.slice a n c] 35));have b7:Below w.1.size w a7:=by rw[F];exact aZ.alloc aQ _
 have d3:a7.1.size=w.1.size+1:=by rw[F];simp
 rw[<-F,<-d3] at a5;have b5:=aa (λ(W:World) (a8:Below w.1.size w W)=>kD L S a n c (dg G) W (b4.below a8 aQ) c0);rw[b6] at b5;have a6:=aa (λ(W:World) (c8 c7:Nat) (a8:Below w.1.size w W)=>Gi L S a n c c8 c7 G W (b4.below a8 aQ) b8 c0);obtain⟨o,b2⟩:=aB (QC G L (2^S-1));rw[<-b2] at a6;rw[<-b2];obtain⟨⟨a1,a2,a3⟩,_⟩:=a5.o a7 aZ;have c2:=aa b7;clear b4 b7 b6 b8 b2;go_enter func80,ntmps80;go_wp2_with(rw[<-F]);first|rw[<-F]|skip
 clear F;refine(b5.o _ c2.o).mono ?_;rintro e h ⟨rfl,a9⟩;clear a1 a2 a3;have d2:=a9.size;obtain⟨E,O⟩:=aB (h.alloc (.cells #[.string ⟨#[]⟩] 9));obtain⟨D,Q⟩:=aB (E.alloc (.cells #[.bool false] 4));have b9:Below h.1.size h E:=by rw[O];exact aZ.alloc aQ _
 have b0:Below E.1.size E D:=by rw[Q];exact aZ.alloc aQ _
 have c1:E.1.size=h.1.size+1:=by rw[O];simp
 have d5:D.1.size=h.1.size+1+1:=by rw[Q];simp[c1]
 have U:=aa ((show bA E h.1.size #[.string ⟨#[]⟩] by rw[O];exact bA.new _ _ _).below b0);have Y:=aa (show bA D (h.1.size+1) #[.bool false] by rw[Q,<-c1];exact bA.new _ _ _);have c3:=aa (a9.trans ((bs b9 b0).mono d2));have c5:=aa O;have c6:=aa Q;obtain⟨⟨a1,a2,a3⟩,_,I⟩:=a5.o D c3.o;have c4:=aa (a6.o D h.1.size (h.1.size+1) I (U.o.cell 0) (U.o.froz 0) (Y.o.cell 0) (Y.o.froz 0) (by omega) (by omega) (by omega));clear O Q b9 b0 a9 a6;go_upto_region 4 with fail
 rw[<-c5.o,<-c6.o];go_wp2_with fail;refine c4.o.mono ?_;rintro e J ⟨rfl,b3⟩;cases o with
 |none=>
  have b1:Below D.1.size D J:=b3;have d0:J.cell? ⟨h.1.size,0,none⟩=some (.string ⟨#[]⟩):=(U.o.below b1).cell 0;have d1:J.cell? ⟨h.1.size+1,0,none⟩=some (.bool false):=(Y.o.below b1).cell 0;have a4:=aa (I.trans (b1.mono I.size));clear b3 a1 a2 a3;go_wp2;go_quiet(fail);go_wp2;go_ret2;exact⟨rfl,aA a4.o _⟩
 |some l=>
  obtain⟨V,Z,a0⟩:=b3;have d0:J.cell? ⟨h.1.size,0,none⟩=some (.string ⟨l.toArray⟩):=by
   rw[a0,bQ _ _ _ _ (λe=>by injection e;omega)];exact dV _ _ _ ((U.o.below Z).cell 0)
  have d1:J.cell? ⟨h.1.size+1,0,none⟩=some (.bool true):=by
   rw[a0];exact dV _ _ _ ((bQ _ _ _ _ (λe=>by injection e;omega)).trans ((Y.o.below Z).cell 0))
  have d4:=I.size;have a4:=aa (show Below w.1.size w J from by
   rw[a0];exact((I.trans (Z.mono I.size)).setCell (by show w.1.size<=h.1.size;omega) _).setCell (by show w.1.size<=h.1.size+1;omega) _)
  clear a0 Z a1 a2 a3;go_wp2;go_quiet(fail);go_wp2;go_ret2;exact⟨rfl,aA a4.o _⟩
theorem Gr{wr:World}{B e s n b}{v}{xs}(h:wr.ownsRow B e s v n xs)(D:v.ownBlock≠some b)(q)(y):(wr.setCell ⟨b,q,none⟩ y).ownsRow B e s v n xs:=
 h.kept (row:=some b) ⟨rfl,rfl,rfl,by simp,λp F E=>dE _ _ _ _ (λe=>E (by rw[show p=b from e]))⟩ (Or.inr D)
theorem vd{P}{wr:World}{U}{W}{o}{a}{Q}
 (a3:o.guard=none)(s x)(t)(a9:o.op=Op.call {callee:=Callee.builtin Builtin.append,args:=#[s,x],argTypes:=#[t,t]})
 (B)(e)(Y:P.underlying t=some (.slice e))(a6:(P.info? e).map (λi=>(i.zero,i.size,i.bytes))=some (some (.agg #[Ud 0,Ud 0,Ud 0]),3,24))
 (v)(m)(xs)(F I J)(b0:wr.ownsRow B e 3 v m xs)(b1:a.eval s=v)(H)(Z:wr.1.size=H)(b3:a.eval x= .slice (some ⟨H,0,none⟩) 1 1)
 (b9:m<=1000000)(b8:B<=wr.1.size)
 (a0:∀h c' D,D.ownsRow B e 3 (.slice (some ⟨h,0,none⟩) (m+1) c') (m+1) (xs++[Ud F,Ud I,Ud J])->wr.grownBy D v.ownBlock->wpList P U Q W (a.put o.dst (.slice (some ⟨h,0,none⟩) (m+1) c')) D):
 wpList P U Q (o::W) a (wr.alloc (.cells #[Ud F,Ud I,Ud J] e)):=by
 subst Z;obtain⟨i,hi,b4,b5,b6⟩:=info_parts a6;refine wpList_append_own _ a3 s x t a9 B e i _ 3 24 Y hi b4 b5 b6 rfl (by decide) v m xs b1 (b0.alloc _) ⟨wr.1.size,0,none⟩ 1 1 (af [F,I,J]) b3 rfl ?_ (by intro u b2;obtain⟨x,_,rfl⟩:=bi.1 b2;rfl) (by unfold maxLen;omega) (by omega) (by simp;omega) ?_
 ·intro j y a7;have a1:(⟨wr.1.size,0,none⟩:Addr).add j=⟨wr.1.size,j,none⟩:=by
   unfold Addr.add;split
   ·rename_i E;subst E;rfl
   ·simp
  rw[a1,aL _ _ _ _ rfl];rw[<-a7];simp[af]
 ·intro v' D O a4 a5;have a8:v'≠ .slice none 0 0:=λe=>by have:=(a5.1 e).2;omega
  obtain⟨h,c',rfl⟩:∃h c',v'= .slice (some ⟨h,0,none⟩) (m+1) c':=by
   rcases O.2 with⟨E,_⟩|⟨g,cap,b7,a2,_⟩
   ·exact absurd E a8
   ·exact⟨g,cap,a2⟩
  exact a0 h c' D O (dd (cC _ _ _) a4)
structure lQ (w w5 wr : World) (bR mb bO : Nat) (A1 : Array Value) (x0 x1 sv : Value) (l lm : List Nat) (v : Value) (m : Nat) (A : List Value) : Prop where
  bel : Below w.1.size w wr
  bel5 : Below w5.1.size w5 wr
  ord : w.1.size ≤ bR ∧ bR < w5.1.size ∧ w5.1.size ≤ mb ∧ w5.1.size ≤ bO ∧ mb < bO ∧ w.1.size ≤ w5.1.size
  b1 : bA wr bR A1
  b3 : bA wr bO #[x0, x1, v]
  sets : wr.ownsRow w5.1.size 3 1 sv l.length (af (ne l))
  svne : sv.ownBlock ≠ some bO
  map : wr.ownsMap Tryz.prog 3 (plainElem Tryz.prog 3) mb lm.length (mH lm)
  own : wr.ownsRow (bO + 1) 90 3 v m A
section
variable {w w5 wr w' : World} {bR mb bO m : Nat} {A1 : Array Value} {x0 x1 sv v : Value} {l lm : List Nat} {A : List Value}
theorem lQ.below(h:lQ w w5 wr bR mb bO A1 x0 x1 sv l lm v m A)(D:Below wr.1.size wr w'):lQ w w5 w' bR mb bO A1 x0 x1 sv l lm v m A:=
 ⟨h.bel.trans (D.mono h.bel.size),h.bel5.trans (D.mono h.bel5.size),h.ord,h.b1.below D,h.b3.below D,ai h.sets D,h.svne,gE h.map D,ai h.own D⟩
theorem lQ.put(h:lQ w w5 wr bR mb bO A1 x0 x1 sv l lm v m A){s:Nat}(E:w'.ownsMap prog 3 (plainElem prog 3) mb (lm.length+1) ((mH lm).put (.int .i64 (s:Int)) (.lit (.int .i64 (lm.length:Int)))))(D:wr.grownBy w' (some mb)):lQ w w5 w' bR mb bO A1 x0 x1 sv l (lm++[s]) v m A:=by
 have F:=h.ord;refine⟨h.bel.grown D h.bel.size (by rintro q ⟨⟩;omega),h.bel5.grown D h.bel5.size (by rintro q ⟨⟩;omega),F,h.b1.keep D (by intro e;injection e with e;omega),h.b3.keep D (by intro e;injection e with e;omega),h.sets.kept D (Or.inr (gm h.sets h.map)),h.svne,?_,h.own.kept D (Or.inr (gm h.own h.map))⟩;rw[nU,az];exact E
theorem lQ.app(h:lQ w w5 wr bR mb bO A1 x0 x1 sv l lm v m A){s:Nat}{sv':Value}(O:w'.ownsRow w5.1.size 3 1 sv' (l.length+1) (af (ne l)++[Ud (s:Int)]))(D:wr.grownBy w' sv.ownBlock)(J:∀g,sv'.ownBlock=some g->sv.ownBlock=some g\/wr.1.size<=g):lQ w w5 w' bR mb bO A1 x0 x1 sv' (l++[s]) lm v m A:=by
 have I:=h.ord;refine⟨h.bel.grown D h.bel.size (λk E=>by have:=(h.sets.lt k E).1;omega),h.bel5.grown D h.bel5.size (λk E=>(h.sets.lt k E).1),I,h.b1.keep D (λe=>by have:=(h.sets.lt _ e).1;omega),h.b3.keep D h.svne,?_,?_,tB h.map D (λe=>gm h.sets h.map e.symm),h.own.kept D (vJ h.own h.sets (by decide))⟩
 ·rw[az,CZ];simpa[af] using O
 ·intro e;rcases J _ e with F|F
  ·exact h.svne F
  ·have:=h.b3.lt;omega
theorem lQ.arc(h:lQ w w5 wr bR mb bO A1 x0 x1 sv l lm v m A){v':Value}{F:Nat}{A':List Value}(Z:w'.ownsRow (bO+1) 90 3 v' F A')(D:wr.grownBy w' v.ownBlock):lQ w w5 (w'.setCell ⟨bO,2,none⟩ v') bR mb bO A1 x0 x1 sv l lm v' F A':=by
 have Y:=h.ord;have U:=h.bel.grown D h.bel.size (λk E=>by have:=(h.own.lt k E).1;omega);have W:=h.bel5.grown D h.bel5.size (λk E=>by have:=(h.own.lt k E).1;omega);have I:=h.b1.keep D (λe=>by have:=(h.own.lt _ e).1;omega);have J:=h.b3.keep D (λe=>by have:=(h.own.lt _ e).1;omega);have O:=h.sets.kept D (vJ h.sets h.own (by decide));have Q:=tB h.map D (λe=>gm h.own h.map e.symm);exact⟨U.setCell (by show w.1.size<=bO;omega) _,W.setCell (by show w5.1.size<=bO;omega) _,Y,I.other (by omega) _,J.set2 _,Gr O h.svne _ _,h.svne,Q.setCell (by show mb≠bO;omega) _,cE Z (by omega) _ _⟩
theorem lQ.set1(h:lQ w w5 wr bR mb bO A1 x0 x1 sv l lm v m A)(u:Value):lQ w w5 (wr.setCell ⟨bO,1,none⟩ u) bR mb bO A1 x0 u sv l lm v m A:=by
 have D:=h.ord;exact⟨h.bel.setCell (by show w.1.size<=bO;omega) _,h.bel5.setCell (by show w5.1.size<=bO;omega) _,D,h.b1.other (by omega) _,h.b3.set1 _,Gr h.sets h.svne _ _,h.svne,h.map.setCell (by show mb≠bO;omega) _,cE h.own (by omega) _ _⟩
end
theorem tQ(L S:Nat)(a)(n c)(G)(w)(b3:aO w a (n*3) (bC (dg G)))(u8:n<=1000000)(h:fy L S (dg G)=true)(h4:fZ L S G):
 Calls prog 168 #[.agg #[Ud L,Ud S,.slice a n c]] w (qh L S G w):=by
 obtain⟨b7,f5⟩:=aB ((w.alloc (.cells #[Ud L,Ud S,.slice a n c] 35)).alloc (.cells #[Ud 0,Ud 0,.slice none 0 0] 35));have v5:b7.1.size=w.1.size+1+1:=by rw[f5];simp
 have c4:=aa (λ(V:World) (b4:Below b7.1.size b7 V)=>show bA V w.1.size #[Ud L,Ud S,.slice a n c]/\bA V (w.1.size+1) #[Ud 0,Ud 0,.slice none 0 0]/\Below w.1.size w V from by
  rw[f5] at b4;obtain⟨⟨q0,d2⟩,⟨q1,d3⟩,q2,q3⟩:=Bl b4;exact⟨⟨by omega,q0,d2⟩,⟨q2,q1,d3⟩,q3⟩)
 have l1:=aa (λ(l9:World) (q6:Below w.1.size w l9)=>iZ L S a n c (dg G) l9 (b3.below q6 aQ) (by omega));rw[h] at l1;obtain⟨F,a0,a9⟩:=c4.o b7 aZ;obtain⟨a6,a7,a8⟩:=F.c3.1;have b9:=aa (mN b3 aZ);have u1:=h4.s12;have d4:=h4.s1;have i9:=aa h4;obtain⟨t1,hi,i3,s6,s8⟩:=info_parts bK;obtain⟨t2,r4,s5,s7,s9⟩:=info_parts eS;clear b3 h F a0 h4;unfold qh nm yL;go_enter func168,ntmps168;go_wp2_with(rw[<-f5]);first|rw[<-f5]|skip
 refine(l1.o _ a9).mono ?_;rintro e g3 ⟨rfl,f6⟩;obtain⟨F,a0,n0⟩:=c4.o g3 f6;clear f5 a6 a7 a8 a9;obtain⟨a6,a7,a8⟩:=F.c3.1;have o9:=aa n0;have g6:=aa f6;clear f6 n0 F a0;go_wp2_with(first|(at_make;refine wpList_make_full _ rfl _ _ 24 rfl g3.1.size 37 t2 (.slice none 0 0) 1 underlying24 r4 s5 s7 .i64 .i64 _ _ S rfl rfl rfl rfl (by rw[s9];omega) (by unfold maxLen;omega) aQ ?_;intro k6 n9 n2;have m7:Below g3.1.size g3 k6:=aZ.grown n2 aQ (by intro k h;cases h);have j8:=g6.o.trans (m7.mono g6.o.size);obtain⟨F,a0,r2⟩:=c4.o k6 j8;obtain⟨a6,a7,a8⟩:=F.c3.1));have k1:=g6.o.size;have h6:=n9;rw[MF] at h6;obtain⟨U,k0⟩:=aB g3.1.size;rw[<-k0] at h6 k1;rw[<-k0];have q9:b7.1.size<=U:=k1;have j6:=bS.nils 3 k6 U S;rw[<-IU G S] at j6;have l4:=aa h6;have l6:=aa j6;have k7:=aa j8;clear h6 j6 n9 n2 m7 j8 r2 F a0 a6 a7 a8 k0 k1 g6 o9;go_loopw[24] (λi wr=>∃(k:Nat) (g2:List Value),k<=n/\i= Ud k/\wr.ownsRow U 37 1 (.slice (some ⟨U,0,none⟩) S S) S g2/\bS 3 wr U g2 (tZ G S k)/\Below b7.1.size b7 wr) (λi _=>n-(intOf i).toNat);exact⟨0,_,by omega,rfl,l4.o,l6.o,k7.o⟩;clear l4 l6 k7;obtain⟨k,g2,i1,rfl,e0,d5,d8⟩:=hrel;obtain⟨F,a0,a9⟩:=c4.o wr d8;obtain⟨a6,a7,a8⟩:=F.c3.1;by_cases c6:k<n
 ·obtain⟨y,a4⟩:=aE (l:=G) (n:=k) (by rw[b9.o.1];exact c6);obtain⟨p9,t0,rfl,f6,f8⟩:=b9.o.2 k y a4;have a5:=i9.o.arc y (aj a4);have l5:=aa (IV (S:=S) a4 a5.1);obtain⟨f,t,l⟩:=y;obtain⟨j2,j3,j4⟩:=f8 wr a9;have r9:(k:Int)<(n:Int):=(by omega);simp only[] at j2 j3 j4 a5 l5;have k2:f<S:=a5.1;have r3:(f:Int)<(S:Int):=(by omega);obtain⟨E,b1⟩:=aB (wr.alloc (.cells #[Ud f,Ud t,Ud l] 90));have c1:Below wr.1.size wr E:=by rw[b1];exact aZ.alloc aQ _
  have g8:=aa (ai e0 c1);have l7:=aa (d5.below c1);have c3:=aa (show bA E wr.1.size #[Ud f,Ud t,Ud l] by rw[b1];exact bA.new _ _ _);have c9:=aa (d8.trans (c1.mono d8.size));obtain⟨x,a3⟩:=aE (l:=g2) (n:=f) (by have:=e0.1;omega);have l8:=aa a3;have p8:=aa ((g8.o.cellAt f (by omega)).trans a3);have p4:=aa (l7.o.own f x _ a3 (nA k2));have p0:=aa (show x.ownBlock≠some wr.1.size fromλe=>by have:=((d5.own f x _ a3 (nA k2)).lt _ e).2;omega);have v4:=IW G k f;have u4:U<E.1.size:=(g8.o.lt _ rfl).2;have f0:=aa b1;clear a3 a4 f8 a5 b1 c1 e0 d5 d8 F a0 a9;go_wp2_with fail;rw[<-f0.o];obtain⟨⟨t3,t4,t5⟩,_⟩:=c3.o.c3;obtain⟨a2,b8⟩:=aB (α:=World->Prop) (λV=>V.cell? ⟨wr.1.size,0,none⟩=some (Ud f)/\V.cell? ⟨wr.1.size,1,none⟩=some (Ud t)/\V.cell? ⟨U,f,none⟩=some x);have d1:=aa (show∀V,a2 V->V.cell? ⟨wr.1.size,0,none⟩=some (Ud f)/\V.cell? ⟨wr.1.size,1,none⟩=some (Ud t)/\V.cell? ⟨U,f,none⟩=some x fromλV b4=>by rw[b8] at b4;exact b4);have n6:U<E.1.size:=(g8.o.lt _ rfl).2;have e9:=aa (show∀V,Below E.1.size E V->a2 V fromλV b2=>by
   obtain⟨⟨c2,c8,g5⟩,_⟩:=(c3.o.below b2).c3;rw[b8];exact⟨c2,c8,(b2.cell (p:=⟨U,f,none⟩) n6).trans p8.o⟩)
  have q5:a2 E.drew:=e9.o _ aZ.drew;have j5:a2 (E.drew.alloc (.cells #[Ud t] 3)):=e9.o _ (aZ.drew.alloc aQ _);have h0:=aa (ai p4.o aZ.drew);have g9:=aa (ai g8.o aZ.drew);have p6:=aa (l7.o.below aZ.drew);have k4:U<=E.drew.1.size:=io n6;have e8:=aa (show∀V,E.drew.grownBy V x.ownBlock->a2 V fromλV i0=>by
   obtain⟨⟨c2,c8,g5⟩,_⟩:=((c3.o.below aZ.drew).keep i0 p0.o).c3;have d4:=g9.o.kept i0 (eD g9.o h0.o (by decide));rw[b8];exact⟨c2,c8,(d4.cellAt f (by omega)).trans l8.o⟩)
  clear b8;refine dr (S:=a2) 13 (by kernel_rfl) ?_;iterate 10 (refine kG rfl (by kernel_rfl) (λ_ _ _ h=>h) (by rfl) (by assumption) (λV b0=>by have b0:=d1.o V b0;go_split_ands;go_simp;first|done|with_reducible rfl) ?_;try simp only[Act.put,ab,ac,ae])
  refine aY (i:=10) rfl (by kernel_rfl) (by decide) (λK O=> ?_);go_simp;refine O.out _ _ j5 ?_;clear O K;try simp only[Act.put,ab,ac,ae]
  refine aY (i:=11) rfl (by kernel_rfl) (by decide) (λK O=> ?_);refine LH (by rfl) _ _ 37 (by rfl) U 3 underlying37 bK x _ _ _ h0.o (by rfl) (by rfl) (by omega) k4 ?_;intro f3 f2 o6 g1 b5 s3;refine O.out _ _ (e8.o _ b5) ?_;clear O K;try simp only[Act.put,ab,ac,ae]
  have m6:=e8.o _ b5;have h7:=g9.o.kept b5 (eD g9.o h0.o (by decide));have j7:=p6.o.replace (v':=.slice (some ⟨f3,0,none⟩) ((oX G k f).length+1) f2) (x:=(t:Int)) l8.o (nA k2) (by simpa[af] using g1) b5 (by rintro g ⟨⟩;exact s3);rw[l5.o] at j7;have i2:=h7.stored f (.slice (some ⟨f3,0,none⟩) ((oX G k f).length+1) f2);have p1:=aa i2.1;have p5:=aa (j7.kept h7 (by decide) i2.2);have c0:Below b7.1.size b7 o6:=(c9.o.drew).grown b5 c9.o.drew.size (λk i1=>by have:=(h0.o.lt k i1).1;omega);have o8:=aa (c0.grown i2.2 c0.size (by rintro k ⟨⟩;exact q9));obtain⟨v9,w1,g4⟩:=d1.o _ m6;have u5:=h7.frozenAt f;clear i2 j7 h7 b5 g1 c0;(refine jw 12 rfl (by kernel_rfl) (λ_ _ _ h=>h) (by rfl) (by assumption) (λV b0=>by have b0:=d1.o V b0;go_split_ands;go_simp;first|done|with_reducible rfl) ?_;try simp only[Act.put,ab,ac,ae]);refine cU rfl (by kernel_rfl) (by kernel_rfl) (λK O=> ?_);go_simp;refine O.out _ _ ?_;clear O K;go_wp2;go_roundw;exact⟨k+1,_,by omega,by go_num,p1.o,p5.o,o8.o⟩;simp[intOf]<;>omega
 ·obtain rfl:k=n:=by omega
  have f4:G.take k=G:=aM (by rw[b9.o.1];omega);have o5:tZ G S k=rS G S:=by unfold tZ;rw[f4]
  rw[o5] at d5;have d9:(rS G S).length=S:=by simp[rS]
  have n4:∀(i:Nat) (r:List Int),(rS G S)[i]? =some r->∀x∈r,0<=x/\x<(S:Int):=λi r b3 x a3=>by
   have hi:i<S:=by rw[<-d9];exact(aw.1 b3).1
   rw[sV hi] at b3;injection b3 with b3
   subst b3;obtain⟨a,q7,rfl⟩:=bi.1 a3;have:=(i9.o.arc a (bY.1 q7).1).2.1;omega
  obtain⟨t7,t9,m1,k5⟩:=iw (T1:=37) (T0:=3) (base:=U) ⟨g2,by rw[d9];exact e0,d5⟩ (by rw[d9];omega) (λr b3=>by
   obtain⟨i,hi⟩:=cf.1 b3;have r5:i<S:=by rw[<-d9];exact(aw.1 hi).1
   rw[sV r5] at hi;injection hi with hi
   subst hi;have:=bz (λa:Nat×Nat×Nat=>decide (a.1=i)) G;rw[b9.o.1] at this;simp;omega)
  rw[d9] at m1 k5;injection m1 with e1 e2 e3
  subst e1 e3;have j1:=aa (show Calls prog 157 #[.slice (some ⟨U,0,none⟩) S S] wr (qj G S wr) from oZ S (rS G S) (some ⟨U,0,none⟩) S wr k5 n4 (by omega));unfold qj at j1;have c9:=aa d8;clear f4 o5 d5 d9 n4 e0 d8 k5 F a0 a9;go_wp2_with fail;clear a6 a7 a8;refine j1.o.mono ?_;rintro e Q ⟨v8,K,rfl,n8,Y,m3⟩;have m4:=aa m3;obtain⟨t8,u0,rfl,o4⟩:=aS n8 (by omega);obtain⟨h2,i4,rfl,r1,n1⟩:=xu o4 d4;have j0:=aa (λ(V:World) (b4:Below Q.1.size Q V) (j:Nat) (r6:j<S)=>show V.cell? ⟨h2,i4+j,none⟩=some (.bool (K j)) from(b4.cell (p:=⟨h2,i4+j,none⟩) r1).trans (n1 j r6));have g7:=aa (c9.o.trans (Y.mono c9.o.size));obtain⟨F,a0,a9⟩:=c4.o Q g7.o;obtain⟨a6,a7,a8⟩:=F.c3.1;clear n8 o4 n1 m3 j1 Y;go_wp2_with(first|(at_make;refine wpList_make_full _ rfl _ _ 37 rfl Q.1.size 3 t1 (Ud 0) 1 underlying37 hi i3 s6 .i64 .i64 _ _ S rfl rfl rfl rfl (by rw[s8];omega) (by unfold maxLen;omega) aQ ?_;intro c7 g0 n3;have h8:Below Q.1.size Q c7:=aZ.grown n3 aQ (by intro k h;cases h);clear F a0 a9 a6 a7 a8;obtain⟨F,a0,a9⟩:=c4.o c7 (g7.o.trans (h8.mono g7.o.size));obtain⟨a6,a7,a8⟩:=F.c3.1));have u3:Q.1.size<c7.1.size:=(g0.lt _ rfl).2;rw[<-xi K S] at g0;obtain⟨h1,d7⟩:=aB (c7.alloc (.cells #[Ud L,Ud 0,.slice none 0 0] 35));obtain⟨I,h9⟩:=aB c7.1.size;obtain⟨J,j9⟩:=aB Q.1.size;rw[<-j9] at g0;have u2:=g7.o.size;have m8:Below Q.1.size Q h1:=by rw[d7];exact h8.alloc h8.size _
  have d0:=aa (show ki 3 90 w h1 w.1.size (w.1.size+1) J I (I+1) #[Ud L,Ud S,.slice a k c] #[Ud 0,Ud 0,.slice none 0 0] S (pH K S 0) (Ud L) (Ud ((bW K 0:Nat):Int)) (.slice none 0 0) 0 (bC (dg (dQ K (G.take 0)))) from by
   have v7:h1.1.size=I+1:=by rw[d7,h9];simp
   have c0:Below c7.1.size c7 h1:=by rw[d7];exact aZ.alloc aQ _
   exact⟨a9.trans (c0.mono a9.size),by omega,by omega,F.below c0,a0.below c0,ai g0 c0,by rw[d7,h9];exact bA.new _ _ _,dk _ _ _ _⟩)
  have k9:=aa m8;have m9:Q.1.size<=I:=(by omega);have q8:Q.1.size<=J:=(by omega);rw[<-d7,<-h9,<-j9];clear d7 h9 j9 g0 n3 h8 a9 F a0 a6 a7 a8 m8 c4 c9;go_loopw[52] (λi wr=>∃q:Nat,q<=S/\i= Ud q/\ki 3 90 w wr w.1.size (w.1.size+1) J I (I+1) #[Ud L,Ud S,.slice a k c] #[Ud 0,Ud 0,.slice none 0 0] S (pH K S q) (Ud L) (Ud ((bW K q:Nat):Int)) (.slice none 0 0) 0 (bC (dg (dQ K (G.take 0))))/\Below Q.1.size Q wr) (λi _=>S-(intOf i).toNat);exact⟨0,by omega,rfl,d0.o,k9.o⟩;clear d0 k9;obtain⟨q,v2,rfl,D,Y⟩:=hrel;obtain⟨a6,a7,a8⟩:=D.b0.c3.1;by_cases c6:q<S
  ·have r7:=j0.o wr Y q c6;obtain⟨⟨o0,o1,o2⟩,d2,d3,h3⟩:=D.b3.c3;have v3:(q:Int)<(S:Int):=(by omega);have s2:=(D.num.cellAt q (by omega)).trans (lk c6);rw[if_neg (by omega)] at s2;have k3:=D.num.frozenAt q;have s4:=D.ord;have u9:¬(I=J):=(by omega);have v0:¬(J=I):=(by omega);have s1:=nS K q;have c5:=aa D;have l0:=aa Y;have a1:=aa (λh:K q=true=>Ah (S:=S) h c6);have Z:=aa (λh:K q=false=>Eu (S:=S) h);have f1:=aa (λh:K q=true=>lY h);have e5:=aa (λh:K q=false=>pI h);obtain⟨x,a3⟩:=aB (K q);obtain⟨y,a4⟩:=aB (bW K q);rw[<-a3] at r7 a1 Z f1 e5;rw[<-a4] at o1 f1 e5 s1 a1 c5;clear a3 a4 D s4 Y;cases x
   ·have b6:=aa (Z.o rfl);have i8:=aa (e5.o rfl);clear a1 Z f1 e5;go_wp2;go_roundw;exact⟨q+1,by omega,by go_num,by rw[b6.o,i8.o];exact c5.o,l0.o⟩;simp[intOf]<;>omega
   ·have b6:=aa (a1.o rfl);have i8:=aa (f1.o rfl);clear a1 Z f1 e5;go_wp2;go_roundw;exact⟨q+1,by omega,by go_num,by
     have d4:=(c5.o.setNum q (Ud (y:Int))).setQ (Ud ((y:Int)+1));rw[b6.o] at d4;rw[i8.o];exact d4,(l0.o.setCell (p:=⟨J,q,none⟩) q8 _).setCell (p:=⟨I,1,none⟩) m9 _⟩
    simp[intOf]<;>omega
  ·obtain rfl:q=S:=by omega
   obtain⟨⟨o0,o1,o2⟩,_⟩:=D.b3.c3;obtain⟨⟨i5,i6,i7⟩,d2,d3,h3⟩:=D.b1.c3;have d0:=aa D;have k8:=aa Y;have d6:=aa (show nH K q G=if bW K q=0 then none else some (bW K q,dQ K G) from rfl);have t6:=aa (rfl:bW K q=bW K q);by_cases h5:bW K q=0
   ·have d6:=aa (d6.o.trans (if_pos h5));have q4:(((bW K q:Nat):Int)==0)=true:=by simp[h5]
    clear D Y;go_wp2;refine bodyPost_ret (v:=.tuple #[.agg #[Ud 0,Ud 0,.slice none 0 0],.bool false]) (by simp[results,results168,go_sem,i5,i6,i7]) rfl ⟨K,m4.o,?_⟩;rw[d6.o];exact ig (((d0.o.bel.setCell (by show w.1.size<=w.1.size+1;omega) _).setCell (by show w.1.size<=w.1.size+1;omega) _).setCell (by show w.1.size<=w.1.size+1;omega) _)
   ·have d6:=aa (d6.o.trans (if_neg h5));have q4:(((bW K q:Nat):Int)==0)=false:=by simp[h5]
    clear D Y;go_wp2;go_loopw[75] (λi wr=>∃(m:Nat) (v:Value),m<=k/\i= Ud m/\ki 3 90 w wr w.1.size (w.1.size+1) J I (I+1) #[Ud L,Ud q,.slice a k c] #[Ud 0,Ud 0,.slice none 0 0] q (pH K q q) (Ud L) (Ud ((bW K q:Nat):Int)) v (dQ K (G.take m)).length (bC (dg (dQ K (G.take m))))/\Below Q.1.size Q wr) (λi _=>k-(intOf i).toNat);exact⟨0,_,by omega,rfl,d0.o,k8.o⟩;clear d0 k8 a6 a7 a8 o0 o1 o2 i5 i6 i7 d2 d3 h3 i1;obtain⟨m,v,i1,rfl,D,Y⟩:=hrel;obtain⟨a6,a7,a8⟩:=D.b0.c3.1;by_cases c6:m<k
    ·obtain⟨y,a4⟩:=aE (l:=G) (n:=m) (by rw[b9.o.1];exact c6);obtain⟨p9,t0,rfl,f6,f8⟩:=b9.o.2 m y a4;have a5:=i9.o.arc y (aj a4);have a1:=aa (λh:ks K y=true=>Dp a4 h);have Z:=aa (λh:ks K y=false=>GU a4 h);obtain⟨f,t,l⟩:=y;obtain⟨j2,j3,j4⟩:=f8 wr D.bel;have r9:(m:Int)<(k:Int):=(by omega);simp only[] at j2 j3 j4 a5;have r3:(f:Int)<(q:Int):=(by omega);have v6:(t:Int)<(q:Int):=(by omega);obtain⟨E,b1⟩:=aB (wr.alloc (.cells #[Ud f,Ud t,Ud l] 90));have c1:Below wr.1.size wr E:=by rw[b1];exact aZ.alloc aQ _
     have W:=aa (D.below c1);have e4:=aa (Y.trans (c1.mono Y.size));have c3:=aa (show bA E wr.1.size #[Ud f,Ud t,Ud l] by rw[b1];exact bA.new _ _ _);have r8:(wr.alloc (.cells #[Ud f,Ud t,Ud l] 90)).cell? ⟨h2,i4+f,none⟩=some (.bool (K f)):=by rw[<-b1];exact j0.o E e4.o f a5.1
     have s0:(wr.alloc (.cells #[Ud f,Ud t,Ud l] 90)).cell? ⟨h2,i4+t,none⟩=some (.bool (K t)):=by rw[<-b1];exact j0.o E e4.o t a5.2.1
     have u6:=tq K (G.take m);have u7:(G.take m).length<=k:=by rw[cY,b9.o.1];omega
     have k3:=λh:K f=true=>(W.o.num.cellAt f (by omega)).trans (lk (K:=K) (i:=q) a5.1)|>.trans (by rw[if_pos ⟨h,a5.1⟩])
     have n7:=λh:K t=true=>(W.o.num.cellAt t (by omega)).trans (lk (K:=K) (i:=q) a5.2.1)|>.trans (by rw[if_pos ⟨h,a5.2.1⟩])
     have n5:ks K (f,t,l)=(K f&&K t):=rfl;rw[n5] at a1 Z;have e6:=aa k3;have e7:=aa n7;obtain⟨x,a3⟩:=aB (K f);obtain⟨z,i3⟩:=aB (K t);rw[<-a3] at r8 a1 Z e6;rw[<-i3] at s0 a1 Z e7;have f0:=aa b1;have p7:=aa (λ(g:Nat) (h:v.ownBlock=some g)=>(D.own.lt g h).2);clear a3 i3 a4 f8 a5 k3 n7 n5 b1 c1 D Y;cases x
     ·have b6:=aa (Z.o rfl);clear a1 Z e6 e7;go_wp2;rw[<-f0.o];go_roundw;exact⟨m+1,v,by omega,by go_num,by rw[b6.o];exact W.o,e4.o⟩;simp[intOf]<;>omega
     ·cases z
      ·have b6:=aa (Z.o rfl);clear a1 Z e6 e7;go_wp2;rw[<-f0.o];go_roundw;exact⟨m+1,v,by omega,by go_num,by rw[b6.o];exact W.o,e4.o⟩;simp[intOf]<;>omega
      ·have b6:=aa (a1.o rfl);have l2:=aa (e6.o rfl);have l3:=aa (e7.o rfl);clear a1 Z e6 e7;obtain⟨⟨o0,o1,o2⟩,d2,d3,h3⟩:=W.o.b3.c3;obtain⟨⟨t3,t4,t5⟩,_⟩:=c3.o.c3;go_wp2_with fail;rw[<-f0.o];obtain⟨a2,b8⟩:=aB (α:=World->Prop) (λV=>V.cell? ⟨I,2,none⟩=some v/\V.cell? ⟨J,f,none⟩=some (Ud (bW K f:Nat))/\V.cell? ⟨J,t,none⟩=some (Ud (bW K t:Nat))/\V.cell? ⟨wr.1.size,0,none⟩=some (Ud f)/\V.cell? ⟨wr.1.size,1,none⟩=some (Ud t)/\V.cell? ⟨wr.1.size,2,none⟩=some (Ud l));have d1:=aa (show∀V,a2 V->V.cell? ⟨I,2,none⟩=some v/\V.cell? ⟨J,f,none⟩=some (Ud (bW K f:Nat))/\V.cell? ⟨J,t,none⟩=some (Ud (bW K t:Nat))/\V.cell? ⟨wr.1.size,0,none⟩=some (Ud f)/\V.cell? ⟨wr.1.size,1,none⟩=some (Ud t)/\V.cell? ⟨wr.1.size,2,none⟩=some (Ud l) fromλV b4=>by rw[b8] at b4;exact b4);have e9:=aa (show∀V,Below E.1.size E V->a2 V fromλV b2=>by
        obtain⟨⟨_,_,g4⟩,_⟩:=(W.o.b3.below b2).c3;obtain⟨⟨c2,c8,g5⟩,_⟩:=(c3.o.below b2).c3;have f9:J<E.1.size:=(W.o.num.lt _ rfl).2;rw[b8];exact⟨g4,(b2.cell (p:=⟨J,f,none⟩) f9).trans l2.o,(b2.cell (p:=⟨J,t,none⟩) f9).trans l3.o,c2,c8,g5⟩)
       have q5:a2 E.drew:=e9.o _ aZ.drew;have j5:a2 (E.drew.alloc (.cells #[Ud (bW K f:Nat),Ud (bW K t:Nat),Ud l] 90)):=e9.o _ (aZ.drew.alloc aQ _);have k4:I+1<=E.drew.1.size:=W.o.sz;have p2:=aa (ai W.o.own aZ.drew);have e8:=aa (show∀V,E.drew.grownBy V v.ownBlock->Below (I+1) E.drew V->a2 V fromλV i0 b2=>by
        have r0:=c3.o.below aZ.drew;have e0:=W.o.ord;obtain⟨⟨_,_,g4⟩,_⟩:=((W.o.b3.below aZ.drew).at_ b2 (by omega)).c3;obtain⟨⟨c2,c8,g5⟩,_⟩:=(r0.keep i0 (λe=>by have:=p7.o _ e;omega)).c3;have f9:J<I+1:=(by omega);rw[b8];exact⟨g4,(b2.cell (p:=⟨J,f,none⟩) f9).trans l2.o,(b2.cell (p:=⟨J,t,none⟩) f9).trans l3.o,c2,c8,g5⟩)
       clear b8;refine dr (S:=a2) 18 (by kernel_rfl) ?_;iterate 15 (refine kG rfl (by kernel_rfl) (λ_ _ _ h=>h) (by rfl) (by assumption) (λV b0=>by have b0:=d1.o V b0;go_split_ands;go_simp;first|done|with_reducible rfl) ?_;try simp only[Act.put,ab,ac,ae])
       refine aY (i:=15) rfl (by kernel_rfl) (by decide) (λK O=> ?_);go_simp;refine O.out _ _ j5 ?_;clear O K;try simp only[Act.put,ab,ac,ae]
       refine aY (i:=16) rfl (by kernel_rfl) (by decide) (λK O=> ?_);refine kJ (by rfl) _ _ 33 (by rfl) (I+1) 90 underlying33 qE v _ _ _ _ _ p2.o (by rfl) (by rfl) (by omega) k4 ?_;intro f3 f2 o6 g1 f7 b5;refine O.out _ _ (e8.o _ b5 f7) ?_;clear O K;try simp only[Act.put,ab,ac,ae]
       have m6:=e8.o _ b5 f7;have m5:=(W.o.below aZ.drew).app f7 g1;obtain⟨⟨_,_,g4⟩,_,_,c2⟩:=((W.o.b3.below aZ.drew).at_ f7 (cG _)).c3;have p3:=aa m5;have o7:=aa (((e4.o.drew).trans (f7.mono (by have:=W.o.ord;omega))).setCell (p:=⟨I,2,none⟩) m9 (.slice (some ⟨f3,0,none⟩) ((dQ K (G.take m)).length+1) f2));clear m5 g1 b5;(refine jw 17 rfl (by kernel_rfl) (λ_ _ _ h=>h) (by rfl) (by assumption) (λV b0=>by have b0:=d1.o V b0;go_split_ands;go_simp;first|done|with_reducible rfl) ?_;try simp only[Act.put,ab,ac,ae]);refine cU rfl (by kernel_rfl) (by kernel_rfl) (λK O=> ?_);go_simp;refine O.out _ _ ?_;clear O K;go_wp2;go_roundw;exact⟨m+1,.slice (some ⟨f3,0,none⟩) ((dQ K (G.take m)).length+1) f2,by omega,by go_num,by rw[b6.o,az,qf,lA];exact p3.o,o7.o⟩;simp[intOf]<;>omega
    ·obtain rfl:m=k:=by omega
     have f4:G.take m=G:=aM (by rw[b9.o.1];omega);rw[f4] at D;obtain⟨⟨o0,o1,o2⟩,_⟩:=D.b3.c3;obtain⟨⟨i5,i6,i7⟩,d2,d3,h3⟩:=D.b1.c3;have c5:=aa D;obtain⟨m2,m0,rfl⟩:=dm D.own;clear D f4 Y;go_wp2;have v1:=c5.o.ord;refine bodyPost_ret (v:=.tuple #[.agg #[Ud L,Ud ((bW K q:Nat):Int),.slice m2 (dQ K G).length m0],.bool true]) (by simp[results,results168,go_sem,i5,i6,i7]) rfl ⟨K,m4.o,?_⟩;rw[d6.o];exact⟨m2,m0,rfl,aT (cE (cE (cE c5.o.own (by omega) _ _) (by omega) _ _) (by omega) _ _) (by omega),((c5.o.bel.setCell (by show w.1.size<=w.1.size+1;omega) _).setCell (by show w.1.size<=w.1.size+1;omega) _).setCell (by show w.1.size<=w.1.size+1;omega) _⟩
theorem QQ{G}{L full K}(D:K<=(jY G L full K).1.length):(jY G L full K).2.length<=K*L:=by
 rw[(Et K D).2];refine qN (λr F=> ?_) K;obtain⟨i,hi⟩:=cf.1 F;rcases vL (G:=G) (L:=L) (full:=full) K i with h|⟨q,h,E⟩
 ·exact absurd (hi.symm.trans h) (Option.some_ne_none r)
 ·rw[<-gX (h.symm.trans hi)];exact E
theorem QP(G)(k set)(st:zp)(x):(sU G k set st x).2.length<=st.2.length+x:=by
 have:=oT k (Gw G k set st x) x;rw[zS,az];omega
theorem IP{G}{k set x}{st:zp}(h:gV G set x=0):lN G k set x st=st:=by unfold lN;rw[if_pos h]
theorem LY{G}{k set x}{st:zp}(h:¬gV G set x=0)(D:gV G set x∈st.1):lN G k set x st=(st.1,st.2++[(k,ie (gV G set x) st.1,x)]):=by unfold lN;rw[if_neg h,if_pos D]
theorem LZ{G}{k set x}{st:zp}(h:¬gV G set x=0)(D:gV G set x∉st.1):lN G k set x st=(st.1++[gV G set x],st.2++[(k,st.1.length,x)]):=by unfold lN;rw[if_neg h,if_neg D]
theorem qF(L S:Nat)(a)(n c)(G)(w)(k4:aO w a (n*3) (bC (dg G)))(s9:n<=1000000)(a3:fy L S (dg G)=true)(i6:fZ L S G):
 Calls prog 82 #[.agg #[.int .i64 L,.int .i64 S,.slice a n c]] w (wH L S G w):=by
 obtain⟨f3,c6⟩:=aB ((w.alloc (.cells #[.int .i64 L,.int .i64 S,.slice a n c] 35)).alloc (.cells #[.int .i64 0,.int .i64 0,.slice none 0 0] 35));have w2:f3.1.size=w.1.size+1+1:=by rw[c6];simp
 have h5:=aa (λ(V:World) (c5:Below f3.1.size f3 V)=>show bA V w.1.size #[.int .i64 L,.int .i64 S,.slice a n c]/\bA V (w.1.size+1) #[.int .i64 0,.int .i64 0,.slice none 0 0]/\Below w.1.size w V from by
  rw[c6] at c5;obtain⟨⟨q9,b1⟩,⟨J,b2⟩,r6,r7⟩:=Bl c5;exact⟨⟨by omega,q9,b1⟩,⟨r6,J,b2⟩,r7⟩)
 have i3:=aa (λ(d5:World) (i9:Below w.1.size w d5)=>tQ L S a n c G d5 (k4.below i9 aQ) s9 a3 i6);unfold qh nm yL at i3;obtain⟨f2,c1,s4⟩:=h5.o f3 aZ;obtain⟨g7,g8,g9⟩:=f2.c3.1;have p4:=aa i6;have p2:=aa (show G.length=n from by have:=k4.len;rw[jF,wE] at this;omega);have e0:Maps.Keyed prog 3:=Maps.int_keyed underlying3;have v7:= @run_makeMap prog;clear k4 a3 f2 c1 i6;unfold wH nm yL;go_enter func82,ntmps82;go_wp2_with(rw[<-c6]);first|rw[<-c6]|skip
 refine(i3.o _ s4).mono ?_;rintro e Q ⟨K,s1,a0,J,rfl,e3,f7⟩;obtain⟨f2,c1,g0⟩:=h5.o Q f7;obtain⟨⟨a7,a8,a9⟩,b1,b2,b3⟩:=c1.c3;have i4:=aa s1;have u8:=aa f7;have v1:=aa e3;cases E:nH K S G with
 |none=>
  have p7:=aa (uD (L:=L) E);clear E c6 g7 g8 g9 f7 e3;simp only[iT,Option.getD_none,gZ];have l7:=c1.alloc (.cells #[.int .i64 0,.int .i64 0,.slice a0 0 J] 35);obtain⟨⟨a7,a8,a9⟩,b1,b2,b3⟩:=l7.c3;have b7:=g0.alloc g0.size (.cells #[.int .i64 0,.int .i64 0,.slice a0 0 J] 35);obtain⟨a2,b6⟩:=aB (Q.alloc (.cells #[.int .i64 0,.int .i64 0,.slice a0 0 J] 35));rw[<-b6] at a7 a8 a9 b1 b2 b3 b7;have i5:=aa b6;clear b6 l7;go_upto_region 2 with fail
  first|rw[<-i5.o]|trace_state
  go_wp2;refine bodyPost_ret (v:=.tuple #[.agg #[.int .i64 0,.int .i64 0,.slice none 0 0],.bool false]) (by simp[results,results82,go_sem,a7,a8,a9]) rfl ⟨K,i4.o,?_⟩;rw[p7.o];exact ig ((((b7.setCell (by show w.1.size<=w.1.size+1;omega) _).setCell (by show w.1.size<=w.1.size+1;omega) _).setCell (by show w.1.size<=w.1.size+1;omega) _))
 |some p=>
  obtain⟨s,A⟩:=p;have i1:=aa (uC (L:=L) E);have s0:fZ L s A/\A.length<=n:=by
   unfold nH at E;by_cases a1:bW K S=0
   ·rw[if_pos a1] at E;cases E
   ·rw[if_neg a1] at E;injection E with E
    injection E with e1 e2
    subst e1 e2;exact⟨xw p4.o a1,by rw[<-p2.o];exact tq K G⟩
  obtain⟨b5,v3⟩:=s0;have m3:=b5.s12;have s2:=b5.k3;simp only[E,ci] at e3;have n8:=oI e3 (by show A.length*3<=_;omega);have v0:=aa b5;have v2:=iB m3;obtain⟨F,f5⟩:=aB (2^s-1);have n1:0<F/\F<2^s:=by
   have:=bG (n:=2) (by omega) b5.s1;omega
  have e9:=aa (λ(set x:Nat)=>show gV A set x<2^s from rE b5);have q0:=aa (λk=>wZ (G:=A) (L:=L) n1 e9.o k);have h3:=aa (λ(V:World)=>uM L s (.slice a0 A.length J) V m3);rw[<-f5] at h3;simp only[eF,ci,if_true];have b7:=g0.alloc g0.size (.cells #[.int .i64 L,.int .i64 s,.slice a0 A.length J] 35);have j1:Below Q.1.size Q (Q.alloc (.cells #[.int .i64 L,.int .i64 s,.slice a0 A.length J] 35)):=aZ.alloc aQ _;have m5:=bA.new Q #[.int .i64 L,.int .i64 s,.slice a0 A.length J] 35;obtain⟨a2,b6⟩:=aB (Q.alloc (.cells #[.int .i64 L,.int .i64 s,.slice a0 A.length J] 35));rw[<-b6] at b7 j1 m5;have q5:=aa (λ(d5:World) (set x:Nat) (i9:Below a2.1.size a2 d5) (I:set<4096) (m2:x<1000)=>si L s a0 A.length J A set x d5 (n8.below (bs j1 i9) aQ) b5 I m2 (by omega));have i5:=aa b6;have f1:=aa m5;have l6:=aa (c1.below j1);have q2:=aa (λ(st:zp) (a3:fV A L F=st)=>i1.o.trans (Kh f5 a3));have q1:=aa (λ(j:Nat) (s7:j<=4096) (s6:12<(jY A L F j).1.length)=>show nO K S G L=none from i1.o.trans (by show Gc A L (2^s-1)=none;rw[<-f5];exact Mb n1 e9.o s7 s6));clear i1 b6 f2 c1 f5 E c6 g7 g8 g9 f7 e3 n8 b5 a7 a8 a9 b1 b2 b3;go_wp2_with fail;first|rw[<-i5.o]|trace_state
  refine(h3.o _).mono ?_;rintro e Y ⟨rfl,f9⟩;obtain⟨c3,c7⟩:=aB (Y.alloc (.cells #[.int .i64 F] 3));obtain⟨f4,c8⟩:=aB (c3.alloc (.map #[] 0));have m9:Below Y.1.size Y c3:=by rw[c7];exact aZ.alloc aQ _
  have j4:Below c3.1.size c3 f4:=by rw[c8];exact aZ.alloc aQ _
  have e7:=aa (bs f9 (bs m9 j4));obtain⟨⟨e5,W,a6⟩,_⟩:=(f1.o.below e7.o).c3;have o9:c3.1.size=Y.1.size+1:=by rw[c7];simp
  have t9:f4.1.size=Y.1.size+1+1:=by rw[c8];simp;omega
  have l2:=aa (show f4.ownsRow a2.1.size 3 1 (.slice (some ⟨Y.1.size,0,none⟩) 1 1) 1 (af (ne [F])) from by
   have I:=bd (w:=Y) (base:=Y.1.size) (e:=3) #[.int .i64 F] (af (ne [F])) rfl aQ (by unfold maxLen;simp);rw[<-c7] at I;exact aT (ai I j4) f9.size)
  have l1:=aa (show f4.ownsMap prog 3 (plainElem (H:=Unit) prog 3) (Y.1.size+1) 0 (mH []) from by
   have I:=World.ownsMap_made c3 prog 3 (plainElem (H:=Unit) prog 3);rw[o9,<-c8] at I;exact I)
  rw[c8,c7] at e5 W a6;have q7:=aa (c8.trans (by rw[c7]));have t3:=f9.size;clear c8 c7 m9 j4 f9;go_wp2_with fail;first|rw[<-q7.o]|trace_state
  refine(h3.o _).mono ?_;rintro e x4 ⟨rfl,d6⟩;have n4:keyOf prog 3 (.int .i64 (F:Int))=some (.int .i64 (F:Int)):=Maps.keyOf_int_mk underlying3 (ka F (by omega));obtain⟨h1,n9,n6,g1⟩:=(gE l1.o d6).update e0 underlying131 (by unfold maxLen;omega) n4 (plainElem_int underlying3 (show(Lit.int .i64 0).wf=true by decide));have j2:=e7.o.trans (d6.mono e7.o.size);have f8:=j2.grown g1 j2.size (by rintro q ⟨⟩;omega);obtain⟨⟨e5,W,a6⟩,_⟩:=(f1.o.below f8).c3;have r9:=g1.size;have r8:=d6.size;obtain⟨l9,f6⟩:=aB (h1.alloc (.cells #[.int .i64 L,.int .i64 0,.slice none 0 0] 35));obtain⟨a5,j5⟩:=aB h1.1.size;have o7:=l6.o.lt;have t8:=b7.size;have h8:=aa (show lQ w a2 l9 (w.1.size+1) (Y.1.size+1) a5 #[.int .i64 0,.int .i64 0,.slice none 0 0] (.int .i64 L) (.int .i64 0) (.slice (some ⟨Y.1.size,0,none⟩) 1 1) [F] [F] (.slice none 0 0) 0 (bC (dg [])) from by
   have j0:Below h1.1.size h1 l9:=by rw[f6];exact aZ.alloc aQ _
   have j3:=f8.trans (j0.mono f8.size);refine⟨b7.trans (j3.mono b7.size),j3,by omega,l6.o.below j3,by rw[f6,j5];exact bA.new _ _ _,ai ((ai l2.o d6).kept g1 (Or.inr (by simp[Value.ownBlock]))) j0,by simp[Value.ownBlock];omega,?_,dk _ _ _ _⟩;have e:mH [F]=(mH []).put (.int .i64 (F:Int)) (.lit (.int .i64 0)):=nU [] F;rw[e];exact gE n6 j0)
  have q6:=aa f6;have p3:=aa j5;clear f6 j5 n6 g1 d6 n4 l2 l1;go_upto_region 8 with fail
  first|rw[<-q6.o,<-p3.o]|trace_state
  clear n9 e5 W a6;obtain⟨p0,j8⟩:=aB (Y.1.size+1);rw[<-j8] at h8;rw[<-j8];have u9:=aa o7;clear r9 r8 o7 t8 o9 t9 t3 j8 j2 f8 e7 h5 i3;go_wp2;go_loopw[6,9] (λsv' i wr=>∃(K:Nat) (d2 v:Value),bv (d2=sv')/\i= .int .i64 K/\bv (K<=(jY A L F K).1.length)/\bv ((jY A L F K).1.length<=12)/\lQ w a2 wr (w.1.size+1) p0 a5 #[.int .i64 0,.int .i64 0,.slice none 0 0] (.int .i64 L) (.int .i64 0) d2 (jY A L F K).1 (jY A L F K).1 v (jY A L F K).2.length (bC (dg (jY A L F K).2))) (λ_ i _=>13-(intOf i).toNat);exact⟨0,_,_,aa rfl,rfl,aa (dW _),aa (show 1<=12 by omega),h8.o⟩;clear h8;obtain⟨h,d2,v,k6,rfl,h6,e8,D⟩:=hrel;have k6:=k6.o;subst k6;have g3:=(q0.o h).1;by_cases c9:h<(jY A L F h).1.length
  ·obtain⟨set,g5⟩:=aE c9;have w3:=(g3.pos set (aj g5)).2;have l8:=aa (λx (k7:x<=L)=>g3.xs (G:=A) (set:=set) c9 (e9.o set) x k7);have d3:=aa (px g5);have l5:=aa g5;have k9:=aa (QQ h6.o);obtain⟨st,o6⟩:=aB (jY A L F h);rw[<-o6] at l8 d3 l5 c9 h6 e8 D k9;obtain⟨u1,u0,e4⟩:=dm D.sets;have U:=aa D;obtain⟨q,k1⟩:=aB st.1.length;have l4:=aa k1;rw[<-k1] at c9 e4 e8;have v4:(h:Int)<(q:Int):=(by omega);have w1:=e8.o;obtain⟨⟨e5,W,a6⟩,_⟩:=(f1.o.below D.bel5).c3;clear o6 g3 g5 k1 D;subst e4;go_wp2;go_loopw[6,40] (λq8 i wr=>∃(x:Nat) (d2 v:Value),x<=L/\i= .int .i64 x/\bv (d2=q8)/\lQ w a2 wr (w.1.size+1) p0 a5 #[.int .i64 0,.int .i64 0,.slice none 0 0] (.int .i64 L) (.int .i64 0) d2 (sU A h set st x).1 (sU A h set st x).1 v (sU A h set st x).2.length (bC (dg (sU A h set st x).2))) (λ_ i _=>L-(intOf i).toNat);exact⟨0,_,_,by omega,rfl,aa rfl,U.o⟩;clear U e5 W a6;obtain⟨x,x3,h0,k7,rfl,k5,D⟩:=hrel;have k5:=k5.o;subst k5;obtain⟨g4,w9,g2⟩:=l8.o x k7;have d1:(sU A h set st x).1[h]? =some set:=by rw[g2,aR (by rw[<-l4.o];exact c9)];exact l5.o
   have o8:=QP A h set st x;have j6:(sU A h set st x).1.length<=4096:=by have:=g4.few;omega
   by_cases v6:x<L
   ·have d0:=D.sets;obtain⟨c4,cs,d8,_,_⟩:=dP d0 (fY (aj d1));have n0:wr.cell? ⟨c4,h,none⟩=some (.int .i64 set):=by
     rw[d8] at d0;exact(d0.cellAt h (by have:=(aw.1 d1).1;omega)).trans (aP (pM d1))
    have n2:c4<wr.1.size:=by rw[d8] at d0;exact(d0.lt _ rfl).2
    have m4:h<(sU A h set st x).1.length:=(aw.1 d1).1;have f0:=aa (show sU A h set st (x+1)=lN A h set x (sU A h set st x) from rfl);have c2:=aa (λa3=>IP (G:=A) (k:=h) (set:=set) (x:=x) (st:=sU A h set st x) a3);have b9:=aa (λa3 O=>LY (G:=A) (k:=h) (set:=set) (x:=x) (st:=sU A h set st x) a3 O);have b8:=aa (λa3 O=>LZ (G:=A) (k:=h) (set:=set) (x:=x) (st:=sU A h set st x) a3 O);have h7:=aa g4.new;have h4:=aa (show(sU A h set st x).2.length<=1000 from by
     have I:=k9.o;have m2:h*L<=12*3:=bX (by omega) s2;omega)
    obtain⟨e6,o4⟩:=aB (sU A h set st x);rw[<-o4] at D d8 f0 c2 b9 b8 h7 h4 m4 j6;obtain⟨W,k2⟩:=aB e6.1.length;have c0:=aa k2;rw[<-k2] at d8 m4 j6;subst d8;have v5:(h:Int)<(W:Int):=(by omega);have w4:(x:Int)<(L:Int):=(by omega);have i8:=f1.o.below D.bel5;obtain⟨⟨g7,g8,g9⟩,_⟩:=i8.c3;have i2:=aa (q5.o wr.drew set x D.bel5.drew (by omega) (by omega));have d4:=aa (show gV A set x<2^s from e9.o set x);obtain⟨a4,E⟩:=aB (gV A set x);rw[<-E] at i2 d4 c2 b9 b8;have U:=aa D;have d7:Below wr.1.size wr wr.drew:=aZ.drew;have l0:=aa (λ(V:World) (c5:Below wr.1.size wr V)=>show V.cell? ⟨Q.1.size,0,none⟩=some (.int .i64 L)/\V.cell? ⟨Q.1.size,1,none⟩=some (.int .i64 s)/\V.cell? ⟨Q.1.size,2,none⟩=some (.slice a0 A.length J)/\V.cell? ⟨c4,h,none⟩=some (.int .i64 set)/\Below wr.1.size wr V from by
     obtain⟨⟨u4,u5,u6⟩,_⟩:=(i8.below c5).c3;exact⟨u4,u5,u6,(c5.cell (p:=⟨c4,h,none⟩) n2).trans n0,c5⟩)
    clear E o4 k2 d0 D g4 g2 d1 o8 i8;go_wp2;go_region_held3(λV=>V.cell? ⟨Q.1.size,0,none⟩=some (.int .i64 L)/\V.cell? ⟨Q.1.size,1,none⟩=some (.int .i64 s)/\V.cell? ⟨Q.1.size,2,none⟩=some (.slice a0 A.length J)/\V.cell? ⟨c4,h,none⟩=some (.int .i64 set)/\Below wr.1.size wr V)
     (first|with_reducible exact l0.o _ d7)
     (first|(go_at_call 170;refine i2.o.mono ?_;rintro e h2 ⟨rfl,m8⟩;have d7:=d7.trans (m8.mono d7.size)))
    have Z:=aa (U.o.below d7);clear l0 i2 g7 g8 g9 n0 m8 n2 U;by_cases a1:a4=0
    ·have b4:=aa (f0.o.trans (c2.o a1));clear c2 b9 b8 d4;subst a1;go_wp2;go_roundw;exact⟨x+1,_,h0,by omega,by go_num,aa rfl,by rw[b4.o];exact Z.o⟩;simp[intOf]<;>omega
    ·have w5:((a4:Int)==0)=false:=by simp[a1]
     have g6:a4<=1000000:=by have:=d4.o;omega
     obtain⟨u,n5⟩:=Ey e0 underlying3 underlying131 underlying3 (DX h2) Z.o.map g6;have t5:a5+1<=h2.1.size:=Z.o.b3.lt;by_cases O:a4∈e6.1
     ·rw[decide_eq_true O] at n5;have j7:=Dd e0 underlying3 underlying131 underlying3 (DX h2) Z.o.map g6 h7.o O;have b4:=aa (f0.o.trans (b9.o a1 O));obtain⟨x0,n7⟩:=aB (ie a4 e6.1);rw[<-n7] at j7 b4;obtain⟨⟨_,_,o2⟩,_,_,b3⟩:=Z.o.b3.c3;clear c2 b9 b8 d4 O n7 a1;go_wp2_with(first
       |(at_builtin;go_must(refine vd rfl _ _ 33 rfl (a5+1) 90 underlying33 qE h0 _ _ _ _ _ Z.o.own rfl h2.1.size rfl rfl (by have:=h4.o;omega) t5 ?_);intro r3 r1 u2 k0 d9;obtain⟨⟨_,_,u3⟩,_,_,u7⟩:=(Z.o.b3.keep d9 (λe=>by have:=(Z.o.own.lt _ e).1;omega)).c3))
      have i0:=aa (Z.o.arc k0 d9);go_roundw;exact⟨x+1,_,_,by omega,by go_num,aa rfl,by rw[b4.o,az,qf,lA];exact i0.o⟩;simp[intOf]<;>omega
     ·rw[decide_eq_false O] at n5;have b4:=aa (f0.o.trans (b8.o a1 O));rw[<-c0.o] at b4;obtain⟨p1,n9,j9,n3⟩:=Z.o.map.update e0 underlying131 (by rw[<-c0.o];unfold maxLen;omega) (Maps.keyOf_int_mk underlying3 (ka a4 g6)) (plainElem_int underlying3 (ka W (by omega)));have h9:=aa (Z.o.put (s:=a4) (by rw[<-c0.o] at j9⊢;exact j9) n3);have q4:=aa (show p1.ownsRow a2.1.size 3 1 (.slice (some ⟨c4,0,none⟩) W cs) W (af (ne e6.1)) from by
       have I:=h9.o.sets;rw[<-c0.o] at I;exact I)
      have t4:a2.1.size<=p1.1.size:=h9.o.bel5.size;have p9:=aa O;have p8:=aa (show(e6.1++[a4]).Nodup from js.2 ⟨h7.o,by simp,λa s3 b m7=>by simp at m7;subst m7;exactλe=>O (e▸s3)⟩);clear c2 b9 b8 d4 a1 j9 n3 O;go_wp2_with(first
       |(at_builtin;refine jH rfl _ _ 37 rfl a2.1.size 3 underlying37 bK _ W _ (a4:Int) q4.o rfl rfl (by omega) t4 ?_;intro r2 r0 k8 t2 s5 t0;have b0:=aa (h9.o.app (s:=a4) (sv':=.slice (some ⟨r2,0,none⟩) (W+1) r0) (by rw[<-c0.o];exact t2) s5 (tm t0));have j7:=Dd e0 underlying3 underlying131 underlying3 (DX k8) b0.o.map g6 p8.o (by simp);rw[uG p9.o,<-c0.o] at j7;obtain⟨⟨_,_,o2⟩,_,_,b3⟩:=b0.o.b3.c3;have t6:a5+1<=k8.1.size:=b0.o.b3.lt)
       |(at_builtin;go_must(refine vd rfl _ _ 33 rfl (a5+1) 90 underlying33 qE h0 _ _ _ _ _ b0.o.own rfl k8.1.size rfl rfl (by have:=h4.o;omega) t6 ?_);intro r3 r1 u2 k0 d9;obtain⟨⟨_,_,u3⟩,_,_,u7⟩:=(b0.o.b3.keep d9 (λe=>by have:=(b0.o.own.lt _ e).1;omega)).c3))
      have i0:=aa (b0.o.arc k0 d9);go_roundw;exact⟨x+1,_,_,by omega,by go_num,aa rfl,by rw[b4.o,az,qf,lA];exact i0.o⟩;simp[intOf]<;>omega
   ·obtain rfl:x=L:=by omega
    obtain⟨x2,x1,o5⟩:=dm D.sets;have U:=aa D;have p6:=aa g2;obtain⟨a6,k3⟩:=aB ((sU A h set st x).1.length);have l3:=aa k3;rw[<-k3] at o5 j6;obtain⟨⟨a7,a8,a9⟩,b1,b2,b3⟩:=D.b1.c3;clear D g2 d1 g4 k3 o8;subst o5;by_cases r4:a6<=12
    ·have r5:¬(12<(a6:Int)):=by omega
     go_wp2;go_roundw;exact⟨h+1,_,h0,aa rfl,by go_num,aa (by rw[d3.o,p6.o,az,<-l4.o];omega),aa (by rw[d3.o,<-l3.o];exact r4),by rw[d3.o];exact U.o⟩;simp[intOf];omega
    ·have r5:(12<(a6:Int)):=by omega
     go_wp2;have t1:=U.o.ord;refine bodyPost_ret (v:=.tuple #[.agg #[.int .i64 0,.int .i64 0,.slice none 0 0],.bool false]) (by simp[results,results82,go_sem,a7,a8,a9]) rfl ⟨K,i4.o,?_⟩;rw[q1.o (h+1) (by omega) (by rw[d3.o,<-l3.o];omega)];exact ig (((U.o.bel.setCell (by show w.1.size<=w.1.size+1;omega) _).setCell (by show w.1.size<=w.1.size+1;omega) _).setCell (by show w.1.size<=w.1.size+1;omega) _)
  ·have i7:(jY A L F h).1.length=h:=by have:=h6.o;omega
   have s8:h<=12:=by have:=e8.o;omega
   have m6:=xc (G:=A) (L:=L) (full:=F) (k:=h) (by omega) (by omega);have q3:=aa (q2.o _ m6);obtain⟨u1,u0,e4⟩:=dm D.sets;obtain⟨m1,m0,t7⟩:=dm D.own;have p5:=aa i7;rw[i7] at e4;have U:=aa D;obtain⟨⟨o0,o1,o2⟩,w6,w7,w8⟩:=D.b3.c3;obtain⟨⟨a7,a8,a9⟩,b1,b2,b3⟩:=D.b1.c3;have t1:=U.o.ord;have v8:¬(a5=w.1.size+1):=(by omega);have v9:¬(w.1.size+1=a5):=(by omega);clear D g3 c9 m6 i7;subst e4;subst t7;go_wp2;refine bodyPost_ret (v:=.tuple #[.agg #[.int .i64 L,.int .i64 h,.slice m1 (jY A L F h).2.length m0],.bool true]) (by simp[results,results82,go_sem,a7,a8,a9]) rfl ⟨K,i4.o,?_⟩;rw[q3.o,p5.o,if_pos s8];have I:=U.o.set1 (.int .i64 h);exact⟨m1,m0,rfl,aT (cE (cE (cE I.own (by omega) _ _) (by omega) _ _) (by omega) _ _) (by omega),((I.bel.setCell (by show w.1.size<=w.1.size+1;omega) _).setCell (by show w.1.size<=w.1.size+1;omega) _).setCell (by show w.1.size<=w.1.size+1;omega) _⟩
end Go.Proofs.YtbdlbckeffakjaaGreatDoor
