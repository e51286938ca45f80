/- Labelled graphs: the reference's test of validity. Conditions: the arcs lie in memory. -/
import Derived.Test.YtbdlbckeffakjaaGreatDoorLiveM
namespace Go.Proofs.YtbdlbckeffakjaaGreatDoor
set_option maxHeartbeats 4000000
set_option maxRecDepth 100000
open Go.RowKit Go.Proofs.Tryz
def fU(G:List (Nat×Nat×Nat))(p x:Nat):Option Nat:=(G.find? λa=>decide (a.1=p/\a.2.2=x)).map (·.2.1)
def jX(r:Nat->Nat->Bool):Option Nat->Option Nat->Bool|none,none=>true|some a,some b=>r a b|_,_=>false
def ez(G:List (Nat×Nat×Nat))(L:Nat):Nat->Nat->Nat->Bool
 |0,_,_=>true
 |t+1,p,q=>ez G L t p q&&(List.range L).all λx=>jX (ez G L t) (fU G p x) (fU G q x)
structure Cm (r : Nat → Nat → Bool) : Prop where
  refl : ∀ p, r p p = true
  symm : ∀ p q, r p q = true → r q p = true
  trans : ∀ p q s, r p q = true → r q s = true → r p s = true
theorem JM{r:Nat->Nat->Bool}(h:Cm r):∀a,jX r a a=true|none=>rfl|some a=>h.refl a
theorem JL{r:Nat->Nat->Bool}(h:Cm r):∀a b,jX r a b=true->jX r b a=true
 |none,none,_=>rfl
 |some a,some b,e=>h.symm a b e
 |none,some _,e=>by cases e
 |some _,none,e=>by cases e
theorem Ip{r:Nat->Nat->Bool}(h:Cm r):∀a b c,jX r a b=true->jX r b c=true->jX r a c=true
 |none,none,none,_,_=>rfl
 |some a,some b,some c,e,f=>h.trans a b c e f
 |none,some _,_,e,_=>by cases e
 |some _,none,_,e,_=>by cases e
 |none,none,some _,_,f=>by cases f
 |some _,some _,none,_,f=>by cases f
theorem fg(G:List (Nat×Nat×Nat))(L:Nat):∀t,Cm (ez G L t)
 |0=>⟨λ_=>rfl,λ_ _ _=>rfl,λ_ _ _ _ _=>rfl⟩
 |t+1=>by
  have D:=fg G L t;refine⟨λp=> ?_,λp q h=> ?_,λp q s h k=> ?_⟩
  ·unfold ez;rw[D.refl p,dK,bm];exactλx _=>JM D _
  ·unfold ez at h⊢;rw[aC,bm] at h⊢;exact⟨D.symm _ _ h.1,λx E=>JL D _ _ (h.2 x E)⟩
  ·unfold ez at h k⊢;rw[aC,bm] at h k⊢;exact⟨D.trans _ _ _ h.1 k.1,λx E=>Ip D _ _ _ (h.2 x E) (k.2 x E)⟩
theorem pz{G}{L t p q}(h:ez G L (t+1) p q=true):ez G L t p q=true:=by
 unfold ez at h;rw[aC] at h;exact h.1
def fW(r:Nat->Nat->Bool)(p:Nat):Nat:=((List.range p).find? λq=>r p q).getD p
theorem Jz{f}:∀{p q:Nat},(List.range p).find? f=some q->q<p/\f q=true/\∀j,j<q->f j=false:=by
 intro p q h;rw[List.find?_range_eq_some] at h;obtain⟨D,E,F⟩:=h;exact⟨aD.1 E,D,λj I=>by simpa using F j I⟩
theorem fK{r}(h:Cm r)(p):fW r p<=p/\r p (fW r p)=true/\∀j,j<fW r p->r p j=false:=by
 unfold fW;cases hf:(List.range p).find? λq=>r p q with
 |none=>
  rw[List.find?_eq_none] at hf;exact⟨aN _,h.refl p,λj I=>by have:=hf j (aD.2 I);simpa using this⟩
 |some q=>
  obtain⟨D,E,F⟩:=Jz hf;exact⟨io D,E,F⟩
theorem zb{r}(h:Cm r){p q}(D:r p q=true)(F:∀j,j<q->r p j=false):fW r p=q:=by
 obtain⟨_,E,I⟩:=fK h p;rcases Nat.lt_trichotomy (fW r p) q with e|e|e
 ·rw[F _ e] at E;cases E
 ·exact e
 ·rw[I _ e] at D;cases D
theorem mw{r}(h:Cm r){p q}:fW r p=fW r q↔r p q=true:=by
 obtain⟨_,F,J⟩:=fK h p;obtain⟨_,D,I⟩:=fK h q;constructor
 ·intro e;exact h.trans _ _ _ F (h.symm _ _ (by rw[e];exact D))
 ·intro e;refine zb h (h.trans _ _ _ e D) λj E=> ?_
  cases hb:r p j
  ·rfl
  ·have:=h.trans _ _ _ (h.symm _ _ e) hb;rw[I j E] at this;cases this
def cX(r:Nat->Nat->Bool)(p:Nat):Bool:=decide (fW r p=p)
theorem rT{r}(h:Cm r)(p):fW r (fW r p)=fW r p:=(mw h).2 (h.symm _ _ (fK h p).2.1)
def nh(r:Nat->Nat->Bool)(p:Nat):Nat:=bW (cX r) (fW r p)
theorem zm{r}(h:Cm r){p q}:nh r p=nh r q↔r p q=true:=by
 constructor
 ·intro e;refine(mw h).1 ?_;unfold nh at e;rcases Nat.lt_trichotomy (fW r p) (fW r q) with g|g|g
  ·have:=rY (K:=cX r) g (by unfold cX;rw[decide_eq_true_eq];exact rT h p);omega
  ·exact g
  ·have:=rY (K:=cX r) g (by unfold cX;rw[decide_eq_true_eq];exact rT h q);omega
 ·intro e;unfold nh;rw[(mw h).2 e]
def jR(G:List (Nat×Nat×Nat))(L S t:Nat):Prop:=∀p q,p<S->q<S->ez G L t p q=true->ez G L (t+1) p q=true
theorem zC{G:List (Nat×Nat×Nat)}{L S t:Nat}(J:∀a∈G,a.2.1<S)(h:jR G L S t):∀j p q,p<S->q<S->ez G L t p q=true->ez G L (t+j) p q=true
 |0,_,_,_,_,e=>e
 |j+1,p,q,hp,hq,e=>by
  have I:=h p q hp hq e;show ez G L ((t+j)+1) p q=true
  unfold ez at I⊢;rw[aC,bm] at I⊢;refine⟨zC J h j p q hp hq e,λx Q=> ?_⟩;have D:=I.2 x Q;have O:∀p b,fU G p x=some b->b<S:=λp b E=>by
   unfold fU at E;obtain⟨a,F,rfl⟩:=eV.1 E;exact J a (jV F)
  cases F:fU G p x with
  |none=>rw[F] at D;cases E:fU G q x with
   |none=>rfl
   |some b=>rw[E] at D;cases D
  |some a=>rw[F] at D;cases E:fU G q x with
   |none=>rw[E] at D;cases D
   |some b=>rw[E] at D;exact zC J h j a b (O p a F) (O q b E) D
theorem Gg{G:List (Nat×Nat×Nat)}{L t p q:Nat}:∀j,ez G L (t+j) p q=true->ez G L t p q=true
 |0,e=>e
 |j+1,e=>Gg j (pz (t:=t+j) e)
def ot(G:List (Nat×Nat×Nat))(L S t:Nat):Nat:=bW (cX (ez G L t)) S
theorem Ep{r q}(I:Cm r)(F:Cm q){S}(h:∀a b,a<S->b<S->(r a b=true↔q a b=true)){p}(D:p<S):fW r p=fW q p:=by
 obtain⟨Q,J,O⟩:=fK F p;refine zb I ((h p _ D (by omega)).2 J) λj E=> ?_
 cases hb:r p j
 ·rfl
 ·have:=(h p j D (by omega)).1 hb;rw[O j E] at this;cases this
theorem Qa{G}{L S t u}(E:∀a∈G,a.2.1<S)(h:jR G L S t)(k:jR G L S u):ot G L S t=ot G L S u:=by
 have D:∀t u,t<=u->jR G L S t->ot G L S t=ot G L S u:=by
  intro t u O h;refine pJ λp J=> ?_
  unfold cX;rw[Ep (fg G L t) (fg G L u) (S:=S) (λa b F I=> ?_) J];obtain⟨j,rfl⟩:=Nat.exists_eq_add_of_le O;exact⟨zC E h j a b F I,Gg j⟩
 rcases Nat.le_total t u with e|e
 ·exact D t u e h
 ·exact(D u t e k).symm
theorem Qb{G}{L S t}(h:¬jR G L S t):ot G L S t<ot G L S (t+1):=by
 have F:=fg G L t;have E:=fg G L (t+1);have a0:∀p,cX (ez G L t) p=true->cX (ez G L (t+1)) p=true:=λp D=>by
  unfold cX at D⊢;rw[decide_eq_true_eq] at D⊢;obtain⟨a1,_,J⟩:=fK F p;refine zb E (E.refl p) λj a3=> ?_
  cases hb:ez G L (t+1) p j
  ·rfl
  ·have:=pz hb;rw[J j (by omega)] at this;cases this
 have U:∃p,p<S/\cX (ez G L (t+1)) p=true/\cX (ez G L t) p=false:=by
  refine Classical.byContradiction λW=>h λp q D Y e=> ?_
  have I:∀p,p<S->fW (ez G L (t+1)) p=fW (ez G L t) p:=λp D=>by
   obtain⟨a1,a2,J⟩:=fK E p;have Z:cX (ez G L (t+1)) (fW (ez G L (t+1)) p)=true:=by
    unfold cX;rw[decide_eq_true_eq];exact rT E p
   cases hb:cX (ez G L t) (fW (ez G L (t+1)) p)
   ·exact absurd ⟨_,by omega,Z,hb⟩ W
   ·unfold cX at hb;rw[decide_eq_true_eq] at hb;rw[<-hb];exact(mw F).2 (F.symm _ _ (pz a2))
  refine(mw E).1 ?_;rw[I p D,I q Y];exact(mw F).2 e
 obtain⟨p,D,O,Q⟩:=U;unfold ot bW;have:=oO (K:=cX (ez G L (t+1))) (L:=cX (ez G L t)) (M:=S) a0 D O Q;exact this
theorem JE(G)(L S t):ot G L S t<=S:=nS _ _
theorem NW{G}{L S t}:jR G L S t↔∀p,p<S->nh (ez G L t) p=nh (ez G L (t+1)) p:=by
 have F:=fg G L t;have E:=fg G L (t+1);constructor
 ·intro h p D;unfold nh;have I:∀p,p<S->fW (ez G L t) p=fW (ez G L (t+1)) p:=λp D=>Ep F E (S:=S) (λa b J O=>⟨h a b J O,pz⟩) D
  rw[I p D];refine pJ λj U=> ?_
  have:=(fK E p).1;unfold cX;rw[I j (by omega)]
 ·intro h p q D Q e;refine(zm E).1 ?_;rw[<-h p D,<-h q Q];exact(zm F).2 e
theorem FR{G}{L S t}:jR G L S t↔∀p,p<S->fW (ez G L t) p=fW (ez G L (t+1)) p:=by
 have E:=fg G L t;have F:=fg G L (t+1);constructor
 ·intro h p D;exact Ep E F (S:=S) (λa b I J=>⟨h a b I J,pz⟩) D
 ·intro h p q D O e;refine(mw F).1 ?_;rw[<-h p D,<-h q O];exact(mw E).2 e
theorem Cu{xs:List Int}{n j}(I:xs.length=n*3)(F:j<n):∃x y z,xs[j*3]? =some x/\xs[j*3+1]? =some y/\xs[j*3+2]? =some z:=by
 obtain⟨x,h⟩:=aE (l:=xs) (n:=j*3) (by omega);obtain⟨y,D⟩:=aE (l:=xs) (n:=j*3+1) (by omega);obtain⟨z,E⟩:=aE (l:=xs) (n:=j*3+2) (by omega);exact⟨x,y,z,h,D,E⟩
def BB(w:World)(b o:Nat)(x y z:Int):Prop:=w.cell? ⟨b,o,none⟩=some (Ud x)/\w.cell? ⟨b,o+1,none⟩=some (Ud y)/\w.cell? ⟨b,o+2,none⟩=some (Ud z)
theorem BB.below{B}{w w'}{b o}{x y z}(h:BB w b o x y z)(E:Below B w w')(D:b<B):BB w' b o x y z:=
 ⟨(E.cell (p:=⟨b,o,none⟩) D).trans h.1,(E.cell (p:=⟨b,o+1,none⟩) D).trans h.2.1,(E.cell (p:=⟨b,o+2,none⟩) D).trans h.2.2⟩
theorem TM{w}{b I n}{xs}{j}(h:∀k v,(af xs)[k]? =some v->w.cell? ⟨b,I+k,none⟩=some v)(O:xs.length=n*3)(J:j<n):∃x y z,BB w b (I+j*3) x y z/\xs[j*3]? =some x/\xs[j*3+1]? =some y/\xs[j*3+2]? =some z:=by
 obtain⟨x,y,z,D,E,F⟩:=Cu O J;refine⟨x,y,z,⟨h _ _ (aP D),?_,?_⟩,D,E,F⟩
 ·have:=h _ _ (aP E);rwa[<-kh] at this
 ·have:=h _ _ (aP F);rwa[<-kh] at this
theorem Sj{w}{b I k}{A}{a}(D:∀k v,(bC A)[k]? =some v->w.cell? ⟨b,I+k,none⟩=some v)(h:A[k]? =some a):BB w b (I+k*3) a.1 a.2.1 a.2.2:=by
 obtain⟨J,O,Q⟩:=yt h;have E:=D _ _ O;have F:=D _ _ Q;rw[<-kh] at E F;exact⟨D _ _ J,E,F⟩
theorem Ig{a b}:wt a b=true↔a.1<b.1\/(a.1=b.1/\(a.2.2<b.2.2\/(a.2.2=b.2.2/\a.2.1<b.2.1))):=by unfold wt;rw[decide_eq_true_eq]
theorem yj(a b)(w):
 Calls prog 98 #[.agg #[Ud a.1,Ud a.2.1,Ud a.2.2],.agg #[Ud b.1,Ud b.2.1,Ud b.2.2]] w λe w'=>e= .returned (.bool (wt a b))/\Below w.1.size w w':=by
 obtain⟨f,t,l⟩:=a;obtain⟨h,F,D⟩:=b;have E:Below w.1.size w ((w.alloc (.cells #[Ud f,Ud t,Ud l] 90)).alloc (.cells #[Ud h,Ud F,Ud D] 90)):=(aZ.alloc aQ _).alloc (by simp) _;unfold wt;show Calls prog 98 #[.agg #[Ud f,Ud t,Ud l],.agg #[Ud h,Ud F,Ud D]] w λe w'=>e= .returned (.bool (decide (f<h\/(f=h/\(l<D\/(l=D/\t<F))))))/\Below w.1.size w w'
 by_cases I:f=h
 ·subst I;have O:(f !=f)=false:=(by simp);by_cases J:l=D
  ·subst J;have Q:(l !=l)=false:=(by simp);go_enter func98,ntmps98;go_wp2;go_ret;exact⟨aG (by first|(simp;done)|(simp;omega)),E⟩
  ·have Q:(l !=D)=true:=by simp[J]
   go_enter func98,ntmps98;go_wp2;go_ret;exact⟨aG (by first|(simp;done)|(simp;omega)),E⟩
 ·have O:(f !=h)=true:=by simp[I]
  go_enter func98,ntmps98;go_wp2;go_ret;exact⟨aG (by first|(simp;done)|(simp;omega)),E⟩
def yT(x y:Int):Int:=if x<y then-1 else if y<x then 1 else 0
theorem qL(x y)(w):Calls prog 233 #[Ud x,Ud y] w λe w'=>e= .returned (Ud (yT x y))/\w=w':=by
 have E:(x !=x)=false:=(by simp);have F:(y !=y)=false:=(by simp);unfold yT;by_cases h:x<y
 ·go_enter func233,ntmps233;go_wp2;go_ret;exact⟨rfl,rfl⟩
 ·by_cases D:y<x
  ·go_enter func233,ntmps233;go_wp2;go_ret;exact⟨rfl,rfl⟩
  ·go_enter func233,ntmps233;go_wp2;go_ret;exact⟨rfl,rfl⟩
def Tu(x y z:Int):Int:=if x=0 then(if y=0 then z else y) else x
theorem RT(x y z)(g)(w)(h:w.cell? ⟨g,0,none⟩=some (Ud x)/\w.cell? ⟨g,1,none⟩=some (Ud y)/\w.cell? ⟨g,2,none⟩=some (Ud z)):
 Calls prog 232 #[.slice (some ⟨g,0,none⟩) 3 3] w λe w'=>e= .returned (Ud (Tu x y z))/\w=w':=by
 obtain⟨Q,U,W⟩:=h;unfold Tu;by_cases D:x=0
 ·have I:(x !=0)=false:=by simp[D]
  by_cases E:y=0
  ·have J:(y !=0)=false:=by simp[E]
   by_cases F:z=0
   ·have O:(z !=0)=false:=by simp[F]
    go_enter func232,ntmps232;go_wp2;refine wp_loop_rounds 4 ?_;rw[rounds_succ];go_wp2;rw[rounds_succ];go_wp2;rw[rounds_succ];go_wp2;rw[rounds_succ];go_wp2;go_ret;exact⟨cW (by simp[D,E,F]),rfl⟩
   ·have O:(z !=0)=true:=by simp[F]
    go_enter func232,ntmps232;go_wp2;refine wp_loop_rounds 4 ?_;rw[rounds_succ];go_wp2;rw[rounds_succ];go_wp2;rw[rounds_succ];go_wp2;go_ret;exact⟨cW (by simp[D,E]),rfl⟩
  ·have J:(y !=0)=true:=by simp[E]
   go_enter func232,ntmps232;go_wp2;refine wp_loop_rounds 4 ?_;rw[rounds_succ];go_wp2;rw[rounds_succ];go_wp2;go_ret;exact⟨cW (by simp[D,E]),rfl⟩
 ·have I:(x !=0)=true:=by simp[D]
  go_enter func232,ntmps232;go_wp2;refine wp_loop_rounds 4 ?_;rw[rounds_succ];go_wp2;go_ret;exact⟨cW (by simp[D]),rfl⟩
def Qd(a b:Int×Int×Int):Int:=Tu (yT a.1 b.1) (yT a.2.2 b.2.2) (yT a.2.1 b.2.1)
theorem Qc{a b}:0<=Qd a b↔wt a b=false:=by
 unfold Qd Tu yT wt;rw[decide_eq_false_iff_not];repeat' split;all_goals omega
theorem Ch(a b)(w):
 Calls prog 163 #[.agg #[Ud a.1,Ud a.2.1,Ud a.2.2],.agg #[Ud b.1,Ud b.2.1,Ud b.2.2]] w λe w'=>e= .returned (Ud (Qd a b))/\Below w.1.size w w':=by
 obtain⟨f,t,l⟩:=a;obtain⟨D,F,E⟩:=b;unfold Qd;have a2:=aa (λw=>qL f D w);have a5:=aa (λw=>qL t F w);have a4:=aa (λw=>qL l E w);obtain⟨x,W⟩:=aB (yT f D);obtain⟨y,Y⟩:=aB (yT l E);obtain⟨z,J⟩:=aB (yT t F);show Calls prog 163 #[.agg #[Ud f,Ud t,Ud l],.agg #[Ud D,Ud F,Ud E]] w λe w'=>e= .returned (Ud (Tu (yT f D) (yT l E) (yT t F)))/\Below w.1.size w w'
 rw[<-W,<-Y,<-J];rw[<-W] at a2;rw[<-Y] at a4;rw[<-J] at a5;clear W Y J;obtain⟨h,O⟩:=aB ((w.alloc (.cells #[Ud f,Ud t,Ud l] 90)).alloc (.cells #[Ud D,Ud F,Ud E] 90));have a7:Below w.1.size w h:=by rw[O];exact(aZ.alloc aQ _).alloc (by simp) _
 have a6:=aa (show(h.cell? ⟨w.1.size,0,none⟩=some (Ud f)/\h.cell? ⟨w.1.size,1,none⟩=some (Ud t)/\h.cell? ⟨w.1.size,2,none⟩=some (Ud l))/\(h.cell? ⟨w.1.size+1,0,none⟩=some (Ud D)/\h.cell? ⟨w.1.size+1,1,none⟩=some (Ud F)/\h.cell? ⟨w.1.size+1,2,none⟩=some (Ud E))/\w.1.size+1<h.1.size from by
  obtain⟨⟨Q,_⟩,⟨U,_⟩,b1,_⟩:=Bl (aV ((w.alloc (.cells #[Ud f,Ud t,Ud l] 90)).alloc (.cells #[Ud D,Ud F,Ud E] 90)).1.size _);rw[O];exact⟨⟨Q 0,Q 1,Q 2⟩,⟨U 0,U 1,U 2⟩,b1⟩)
 have J:=a6.o.2.2;have a3:=aa (λ(V:World) (I:Below h.1.size h V)=>show V.cell? ⟨w.1.size,0,none⟩=some (Ud f)/\V.cell? ⟨w.1.size,1,none⟩=some (Ud t)/\V.cell? ⟨w.1.size,2,none⟩=some (Ud l)/\V.cell? ⟨w.1.size+1,0,none⟩=some (Ud D)/\V.cell? ⟨w.1.size+1,1,none⟩=some (Ud F)/\V.cell? ⟨w.1.size+1,2,none⟩=some (Ud E)/\Below h.1.size h V from by
  obtain⟨⟨b3,b4,b5⟩,⟨b6,b7,b8⟩,_⟩:=a6.o;have Z:w.1.size<h.1.size:=(by omega);exact⟨(I.cell (p:=⟨w.1.size,0,none⟩) Z).trans b3,(I.cell (p:=⟨w.1.size,1,none⟩) Z).trans b4,(I.cell (p:=⟨w.1.size,2,none⟩) Z).trans b5,(I.cell (p:=⟨w.1.size+1,0,none⟩) J).trans b6,(I.cell (p:=⟨w.1.size+1,1,none⟩) J).trans b7,(I.cell (p:=⟨w.1.size+1,2,none⟩) J).trans b8,I⟩)
 have a9:=aa (λ(V:World)=>RT x y z V.1.size (V.alloc (.cells #[Ud x,Ud y,Ud z] 3)).drew ⟨aL _ _ _ _ rfl,aL _ _ _ _ rfl,aL _ _ _ _ rfl⟩);have a8:Below h.1.size h (h.alloc (.cells #[Ud x,Ud y,Ud z] 3)).drew:=(aZ.alloc aQ _).drew;have b2:Below h.1.size h h.drew:=aZ.drew;have b0:=aa O;have a1:=aa a7;clear O a7;go_enter func163,ntmps163;go_wp2;rw[<-b0.o];go_region_held3(λV=>V.cell? ⟨w.1.size,0,none⟩=some (Ud f)/\V.cell? ⟨w.1.size,1,none⟩=some (Ud t)/\V.cell? ⟨w.1.size,2,none⟩=some (Ud l)/\V.cell? ⟨w.1.size+1,0,none⟩=some (Ud D)/\V.cell? ⟨w.1.size+1,1,none⟩=some (Ud F)/\V.cell? ⟨w.1.size+1,2,none⟩=some (Ud E)/\Below h.1.size h V)
  (first|with_reducible exact a3.o _ b2|with_reducible exact a3.o _ a8)
  (first|(go_at_call_of 233 f;refine(a2.o _).mono ?_;rintro e a0 ⟨rfl,rfl⟩)|(go_at_call_of 233 l;refine(a4.o _).mono ?_;rintro e a0 ⟨rfl,rfl⟩)|(go_at_call_of 233 t;refine(a5.o _).mono ?_;rintro e a0 ⟨rfl,rfl⟩)|(go_at_call 232;refine(a9.o _).mono ?_;rintro e a0 ⟨rfl,rfl⟩))
 go_wp2;go_ret;exact⟨rfl,a1.o.trans (a8.mono a1.o.size)⟩
theorem dT{w V}{L S}{v}{T}(h:Below (w.1.size+1) (w.alloc (.cells #[Ud L,Ud S,v] T)) V):(V.cell? ⟨w.1.size,0,none⟩=some (Ud L)/\V.cell? ⟨w.1.size,1,none⟩=some (Ud S)/\V.cell? ⟨w.1.size,2,none⟩=some v)/\w.1.size<V.1.size/\Below w.1.size w V:=by
 refine⟨⟨(cV h 0).1,(cV h 1).1,(cV h 2).1⟩,?_,(aZ.alloc aQ _).trans (h.mono (by omega))⟩;have:=h.size;simp at this;omega
theorem wy{w h}{a}{n}{A}(I:aO w a (n*3) (bC A))(E:Below w.1.size w h):A.length=n/\∀k x,A[k]? =some x->∃b D,a=some ⟨b,D,none⟩/\b<h.1.size/\∀V,Below h.1.size h V->BB V b (D+k*3) x.1 x.2.1 x.2.2:=by
 have U:=I.len;rw[jF] at U;refine⟨by omega,λk x J=> ?_⟩;obtain⟨b,D,rfl,F,Q⟩:=I.at_ (by have:=(aw.1 J).1;omega);exact⟨b,D,rfl,aH F E.size,λV O=>(Sj Q J).below (E.trans (O.mono E.size)) F⟩
theorem AC{x S}:jZ x 0 (S+1-1)=jZ x 0 S:=by rw[Int.add_sub_cancel]
theorem JH:∀i,i<12->∀n,n<64->∀m,m<64->bits BinOp.and IntKind.i64 (((64*n+m:Nat):Int)/2^i) 1=(((64*n+m)/2^i%2:Nat):Int):=by decide+kernel
theorem NA:∀i,i<12->∀n,n<64->∀m,m<64->bits BinOp.or IntKind.i64 ((64*n+m:Nat):Int) (wrap64 (2^i))=((64*n+m|||2^i:Nat):Int):=by decide+kernel
theorem DL(i)(hi:i<12)(n:Nat)(h:n<4096):bits BinOp.and IntKind.i64 ((n:Int)/2^i) 1=((n/2^i%2:Nat):Int):=by
 have:=JH i hi (n/64) (by omega) (n%64) (by omega);rwa[ja] at this
theorem Ib(i)(hi:i<12)(n:Nat)(h:n<4096):bits BinOp.or IntKind.i64 (n:Int) (wrap64 (2^i))=((n|||2^i:Nat):Int):=by
 have:=NA i hi (n/64) (by omega) (n%64) (by omega);rwa[ja] at this
theorem vC:∀S,S<13->wrap64 (2^S)=((2^S:Nat):Int):=by decide+kernel
theorem Lf(s v):s/2^v%2=0\/s/2^v%2=1:=by omega
theorem mN{w h}{a}{n}{G}(J:aO w a (n*3) (bC (dg G)))(I:Below w.1.size w h):G.length=n/\∀k x,G[k]? =some x->∃b E,a=some ⟨b,E,none⟩/\b<h.1.size/\∀V,Below h.1.size h V->BB V b (E+k*3) (x.1:Int) (x.2.1:Int) (x.2.2:Int):=by
 obtain⟨D,F⟩:=wy J I;rw[wE] at D;exact⟨D,λk x O=>F k _ (Im O)⟩
theorem xr(L S)(a)(n c)(G)(set x:Nat)(w)(b4:aO w a (n*3) (bC (dg G)))(Y:fZ L S G)(c7:set<4096)(d7:x<1000)(d6:n<=1048576):
 Calls prog 177 #[.agg #[Ud L,Ud S,.slice a n c],Ud set,Ud x] w λe w'=>e= .returned (Ud (gV G set x:Nat))/\Below w.1.size w w':=by
 have a9:=aa (λ(V:World) (c2:Below (w.1.size+1) (w.alloc (.cells #[Ud L,Ud S,.slice a n c] 35)) V)=>dT c2);obtain⟨U,Z⟩:=aB (w.alloc (.cells #[Ud L,Ud S,.slice a n c] 35));have a2:Below w.1.size w U:=by rw[Z];exact aZ.alloc aQ _
 have c8:U.1.size=w.1.size+1:=by rw[Z];simp
 rw[<-Z,<-c8] at a9;have a4:=aa (mN b4 a2);have b5:=aa a2;have d0:w.1.size<=U.1.size:=a2.size;have b6:=aa Y;have b0:=aa (λk=>show lM G set x k<4096 from aH (pi (s:=S) (λa c3=>(Y.arc a c3).2.1) k) (iB Y.s12));have b2:=aa (λ(k:Nat) (y:Nat×Nat×Nat) (h:G[k]? =some y) (E:y.2.2=x/\set/2^y.1%2=1)=>Cy h E);have b1:=aa (λ(k:Nat) (y:Nat×Nat×Nat) (h:G[k]? =some y) (E:¬(y.2.2=x/\set/2^y.1%2=1))=>FP h E);have a5:=aa (show lM G set x n=gV G set x by unfold gV;rw[a4.o.1]);obtain⟨a1,a7⟩:=aB (α:=Nat->Nat) (lM G set x);obtain⟨R,a6⟩:=aB (gV G set x);have b7:=aa (show a1 0=0 by rw[a7];rfl);rw[<-a7] at b0 b2 b1 a5;rw[<-a6] at a5;rw[<-a6];have d2:=Y.s12;clear b4 a2 a7 Y a6;go_enter func177,ntmps177;go_wp2;rw[<-Z];clear Z;go_loopw[7,8] (λo i wr=>∃k:Nat,k<=n/\i= Ud k/\o= Ud (a1 k:Nat)/\Below U.1.size U wr) (λ_ i _=>n-(intOf i).toNat);exact⟨0,by omega,rfl,by rw[b7.o];rfl,aZ⟩;obtain⟨k,d4,rfl,rfl,D⟩:=hrel;obtain⟨⟨d9,e0,e1⟩,O,_⟩:=a9.o wr D;by_cases c6:k<n
 ·obtain⟨y,a0⟩:=aE (l:=G) (n:=k) (by rw[a4.o.1];exact c6);obtain⟨d1,d8,rfl,d3,b3⟩:=a4.o.2 k y a0;have a8:=b6.o.arc y (aj a0);have I:=aa (b2.o k y a0);have F:=aa (b1.o k y a0);obtain⟨f,t,l⟩:=y;obtain⟨b8,b9,c0⟩:=b3 wr D;have d5:(k:Int)<(n:Int):=(by omega);have c5:f<12:=by have:=a8.1;simp only[] at this;omega
  have c9:t<12:=by have:=a8.2.1;simp only[] at this;omega
  have a3:=DL f c5 set c7;have c4:=Ib t c9 (a1 k) (b0.o k);clear a0 a8 b3;obtain⟨z,O⟩:=aB (a1 k);rw[<-O] at c4 I F;rw[<-O];simp only[] at b8 b9 c0 I F;by_cases J:l=x
  ·have c1:((l:Int)==(x:Int))=true:=by simp[J]
   rcases Lf set f with W|E
   ·rw[W] at a3;have Q:=aa (F.o (by omega));clear I F J W O;go_wp2;go_roundw;exact⟨k+1,by omega,by go_num,by rw[Q.o],D.alloc D.size _⟩;simp[intOf]<;>omega
   ·rw[E] at a3;have Q:=aa (I.o ⟨J,E⟩);clear I F J E O;go_wp2;go_roundw;exact⟨k+1,by omega,by go_num,by rw[Q.o],D.alloc D.size _⟩;simp[intOf]<;>omega
  ·have c1:((l:Int)==(x:Int))=false:=by simp;omega
   have Q:=aa (F.o (λh=>J h.1));rcases Lf set f with W|E
   ·rw[W] at a3;clear I F J W O;go_wp2;go_roundw;exact⟨k+1,by omega,by go_num,by rw[Q.o],D.alloc D.size _⟩;simp[intOf]<;>omega
   ·rw[E] at a3;clear I F J E O;go_wp2;go_roundw;exact⟨k+1,by omega,by go_num,by rw[Q.o],D.alloc D.size _⟩;simp[intOf]<;>omega
 ·obtain rfl:k=n:=by omega
  go_wp2;go_ret;exact⟨cW (by rw[a5.o]),b5.o.trans (D.mono d0)⟩
theorem si(L S)(a)(n c)(G)(set x:Nat)(w)(b4:aO w a (n*3) (bC (dg G)))(Y:fZ L S G)(c7:set<4096)(d7:x<1000)(d6:n<=1048576):
 Calls prog 170 #[.agg #[Ud L,Ud S,.slice a n c],Ud set,Ud x] w λe w'=>e= .returned (Ud (gV G set x:Nat))/\Below w.1.size w w':=by
 have a9:=aa (λ(V:World) (c2:Below (w.1.size+1) (w.alloc (.cells #[Ud L,Ud S,.slice a n c] 35)) V)=>dT c2);obtain⟨U,Z⟩:=aB (w.alloc (.cells #[Ud L,Ud S,.slice a n c] 35));have a2:Below w.1.size w U:=by rw[Z];exact aZ.alloc aQ _
 have c8:U.1.size=w.1.size+1:=by rw[Z];simp
 rw[<-Z,<-c8] at a9;have a4:=aa (mN b4 a2);have b5:=aa a2;have d0:w.1.size<=U.1.size:=a2.size;have b6:=aa Y;have b0:=aa (λk=>show lM G set x k<4096 from aH (pi (s:=S) (λa c3=>(Y.arc a c3).2.1) k) (iB Y.s12));have b2:=aa (λ(k:Nat) (y:Nat×Nat×Nat) (h:G[k]? =some y) (E:y.2.2=x/\set/2^y.1%2=1)=>Cy h E);have b1:=aa (λ(k:Nat) (y:Nat×Nat×Nat) (h:G[k]? =some y) (E:¬(y.2.2=x/\set/2^y.1%2=1))=>FP h E);have a5:=aa (show lM G set x n=gV G set x by unfold gV;rw[a4.o.1]);obtain⟨a1,a7⟩:=aB (α:=Nat->Nat) (lM G set x);obtain⟨R,a6⟩:=aB (gV G set x);have b7:=aa (show a1 0=0 by rw[a7];rfl);rw[<-a7] at b0 b2 b1 a5;rw[<-a6] at a5;rw[<-a6];have d2:=Y.s12;clear b4 a2 a7 Y a6;go_enter func170,ntmps170;go_wp2;rw[<-Z];clear Z;go_loopw[7,13] (λo i wr=>∃k:Nat,k<=n/\i= Ud k/\o= Ud (a1 k:Nat)/\Below U.1.size U wr) (λ_ i _=>n-(intOf i).toNat);exact⟨0,by omega,rfl,by rw[b7.o];rfl,aZ⟩;obtain⟨k,d4,rfl,rfl,D⟩:=hrel;obtain⟨⟨d9,e0,e1⟩,O,_⟩:=a9.o wr D;by_cases c6:k<n
 ·obtain⟨y,a0⟩:=aE (l:=G) (n:=k) (by rw[a4.o.1];exact c6);obtain⟨d1,d8,rfl,d3,b3⟩:=a4.o.2 k y a0;have a8:=b6.o.arc y (aj a0);have I:=aa (b2.o k y a0);have F:=aa (b1.o k y a0);obtain⟨f,t,l⟩:=y;obtain⟨b8,b9,c0⟩:=b3 wr D;have d5:(k:Int)<(n:Int):=(by omega);have c5:f<12:=by have:=a8.1;simp only[] at this;omega
  have c9:t<12:=by have:=a8.2.1;simp only[] at this;omega
  have a3:=DL f c5 set c7;have c4:=Ib t c9 (a1 k) (b0.o k);clear a0 a8 b3;obtain⟨z,O⟩:=aB (a1 k);rw[<-O] at c4 I F;rw[<-O];simp only[] at b8 b9 c0 I F;by_cases J:l=x
  ·have c1:((l:Int)==(x:Int))=true:=by simp[J]
   rcases Lf set f with W|E
   ·rw[W] at a3;have Q:=aa (F.o (by omega));clear I F J W O;go_wp2;go_roundw;exact⟨k+1,by omega,by go_num,by rw[Q.o],D.alloc D.size _⟩;simp[intOf]<;>omega
   ·rw[E] at a3;have Q:=aa (I.o ⟨J,E⟩);clear I F J E O;go_wp2;go_roundw;exact⟨k+1,by omega,by go_num,by rw[Q.o],D.alloc D.size _⟩;simp[intOf]<;>omega
  ·have c1:((l:Int)==(x:Int))=false:=by simp;omega
   have Q:=aa (F.o (λh=>J h.1));rcases Lf set f with W|E
   ·rw[W] at a3;clear I F J W O;go_wp2;go_roundw;exact⟨k+1,by omega,by go_num,by rw[Q.o],D.alloc D.size _⟩;simp[intOf]<;>omega
   ·rw[E] at a3;clear I F J E O;go_wp2;go_roundw;exact⟨k+1,by omega,by go_num,by rw[Q.o],D.alloc D.size _⟩;simp[intOf]<;>omega
 ·obtain rfl:k=n:=by omega
  go_wp2;go_ret;exact⟨cW (by rw[a5.o]),b5.o.trans (D.mono d0)⟩
def qS(G:List (Nat×Nat×Nat))(k i j:Nat):Int:=if(G.take k).any λa=>decide (a.1=i/\a.2.1=j) then 1 else 0
theorem IA{G}{S k}{y}(h:G[k]? =some y)(D:y.1<S)(E:y.2.1<S):put2 (el S S (qS G k)) y.1 y.2.1 1=el S S (qS G (k+1)):=
 nI D E (by unfold qS;rw[bg,h];simp) λp q _ _ F=>by
  unfold qS;rw[bg,h];simp only[Option.toList_some,fO,List.any_cons,nk,eR];rw[decide_eq_false (p:=y.1=p/\y.2.1=q) (by omega),eR]
theorem Cq{G}{S i j}(hi:i<S)(I:j<S):yv (el S S (qS G G.length)) i j=true↔RL G i j:=by
 unfold yv;rw[km _ hi I,decide_eq_true_eq];unfold qS RL;rw[gB];constructor
 ·intro h;split at h
  ·rename_i E;rw[bB] at E;obtain⟨a,F,D⟩:=E;rw[decide_eq_true_eq] at D;exact⟨a.2.2,by rw[<-D.1,<-D.2];exact F⟩
  ·omega
 ·rintro⟨l,J⟩;rw[if_pos (bB.2 ⟨_,J,by simp⟩)];omega
def qR(G:List (Nat×Nat×Nat))(S i:Nat):Prop:=jb (rS G S) S i
theorem Jl{G}{S i}:jb (rR (el S S (qS G G.length)) S) S i↔qR G S i:=
 ⟨λh=>De (λp q D E=>(ny D E).trans ((Cq D E).trans (CL D).symm)) h,
  λh=>De (λp q D E=>(CL D).trans ((Cq D E).symm.trans (ny D E).symm)) h⟩
def qj(G:List (Nat×Nat×Nat))(S:Nat)(w:World)(e:Ending)(w':World):Prop:=
 ∃v K,e= .returned v/\w'.ownsRow w.1.size 4 1 v S (bP (fq K S))/\Below w.1.size w w'/\(∀i,i<S->(K i=true↔qR G S i))
theorem MZ(L S)(a)(n c)(G)(w)(b3:aO w a (n*3) (bC (dg G)))(O:fZ L S G)(f2:n<=1048576):
 Calls prog 238 #[.agg #[Ud L,Ud S,.slice a n c]] w (qj G S w):=by
 have a0:=aa (λ(V:World) (c9:Below (w.1.size+1) (w.alloc (.cells #[Ud L,Ud S,.slice a n c] 35)) V)=>dT c9);obtain⟨h,D⟩:=aB (w.alloc (.cells #[Ud L,Ud S,.slice a n c] 35));have J:Below w.1.size w h:=by rw[D];exact aZ.alloc aQ _
 have d5:h.1.size=w.1.size+1:=by rw[D];simp
 rw[<-D,<-d5] at a0;have Z:=aa (mN b3 J);have d8:=aa J;have f6:w.1.size<=h.1.size:=J.size;have c0:=aa O;have e7:=O.s12;have I:=O.s1;have a7:=aa (λw:World=>gg S S w (by omega) (by omega));unfold cK at a7;unfold qj;obtain⟨⟨b6,b7,b8⟩,_⟩:=a0.o h aZ;go_enter func238,ntmps238;go_wp2_with(rw[<-D]);first|rw[<-D]|skip
 refine(a7.o _).mono ?_;rintro e f8 ⟨v,rfl,W,d1⟩;obtain⟨c6,cv,rfl,e9,f4⟩:=cT W (ec S S) (by omega);rw[<-ph,show(λ_ _=>(0:Int))=qS G 0 from by funext i j;simp[qS]] at W;have b9:=aa W;go_wp2;go_loopw[4] (λi wr=>∃k:Nat,k<=n/\i= Ud k/\ct 37 3 wr h.1.size (.slice (some ⟨c6,0,none⟩) S cv) (el S S (qS G k))/\Below h.1.size h wr) (λi _=>n-(intOf i).toNat);exact⟨0,by omega,rfl,b9.o,d1⟩;obtain⟨k,b2,rfl,U,Q⟩:=hrel;obtain⟨⟨b6,b7,b8⟩,f5,a1⟩:=a0.o wr Q;by_cases d3:k<n
 ·obtain⟨y,Y⟩:=aE (l:=G) (n:=k) (by rw[Z.o.1];exact d3);obtain⟨e4,f7,rfl,e8,b1⟩:=Z.o.2 k y Y;have E:=c0.o.arc y (aj Y);have a5:=aa (IA (S:=S) Y E.1 E.2.1);obtain⟨f,t,l⟩:=y;obtain⟨c3,c4,c5⟩:=b1 wr Q;obtain⟨g,e5,c8,a8,d2,b0,b4⟩:=en U (by decide) (df S S _) E.1 E.2.1;have a6:=aa (b4 1);obtain⟨x,a2⟩:=aB (cB (el S S (qS G k)) f t);simp only[] at c8 a8 d2 b0 a5 a6 c3 c4 c5 E a2;rw[<-a2] at a8;have f1:(k:Int)<(n:Int):=(by omega);have f0:(f:Int)<(S:Int):=(by omega);have f3:(t:Int)<(S:Int):=(by omega);go_wp2;go_region;all_goals
   go_wp2
   go_roundw
   have I:=a6.o
   rw[a5.o] at I
   exact⟨k+1,by omega,by go_num,I.1.below aZ.drew,(Q.grown I.2 Q.size (λk b2=>by cases b2;exact b0)).drew⟩
   simp[intOf];omega
 ·obtain rfl:k=n:=by omega
  have d6:=mg (n:=S) U (df S S _) (by omega);obtain⟨e0,e6,c2,b5⟩:=d6;injection c2 with e1 e2 e3
  subst e1 e3;have F:=aa (BK S _ _ cv wr b5 (df S S _).row (by omega));unfold oh at F;have a3:=Z.o.1;rw[<-a3] at F;have a4:=aa (λi=>Jl (G:=G) (S:=S) (i:=i));obtain⟨d9,a9⟩:=aB (rR (el S S (qS G G.length)) S);rw[<-a9] at F a4;go_wp2_with fail;refine F.o.mono ?_;rintro e f9 ⟨d7,c1,rfl,d4,d0,c7⟩;go_wp2;go_ret;exact⟨d7,c1,rfl,aT d4 (by have:=a1.size;exact this),a1.trans (d0.mono a1.size),λi hi=>(c7 i hi).trans (a4.o i)⟩
theorem QW{w w'}{base e size D}{v}{n}{xs}(h:w.ownsRow base e size v n xs)(J:Below D w w')(U:∀g,v.ownBlock=some g->g<D):w'.ownsRow base e size v n xs:=by
 obtain⟨I,E⟩:=h;refine⟨I,?_⟩;rcases E with E|⟨g,cap,F,rfl,O,Q,r⟩
 ·exact Or.inl E
 ·exact Or.inr ⟨g,cap,F,rfl,O,by rw[J.block g (U g rfl)];exact Q,r⟩
structure ki (T1 T3 : TypeId) (w wr : World) (bL bR bN bO D : Nat) (A0 A1 : Array Value) (S : Nat) (nums : List Value) (x0 x1 : Value) (v : Value) (m : Nat) (A : List Value) : Prop where
  bel : Below w.1.size w wr
  ord : w.1.size ≤ bL ∧ bL < bR ∧ bR < bN ∧ bN < bO ∧ bO < D
  sz : D ≤ wr.1.size
  b0 : bA wr bL A0
  b1 : bA wr bR A1
  num : wr.ownsRow bN T1 1 (.slice (some ⟨bN, 0, none⟩) S S) S nums
  b3 : bA wr bO #[x0, x1, v]
  own : wr.ownsRow D T3 3 v m A
section
variable {T1 T3 : TypeId} {w wr w' : World} {bL bR bN bO D S m : Nat} {A0 A1 : Array Value} {nums A : List Value} {x0 x1 v : Value}
theorem ki.below(h:ki T1 T3 w wr bL bR bN bO D A0 A1 S nums x0 x1 v m A)(E:Below wr.1.size wr w'):ki T1 T3 w w' bL bR bN bO D A0 A1 S nums x0 x1 v m A:=
 ⟨h.bel.trans (E.mono h.bel.size),h.ord,bn h.sz E.size,h.b0.below E,h.b1.below E,ai h.num E,h.b3.below E,ai h.own E⟩
theorem ki.setNum(h:ki T1 T3 w wr bL bR bN bO D A0 A1 S nums x0 x1 v m A)(i:Nat)(u:Value):ki T1 T3 w (wr.setCell ⟨bN,i,none⟩ u) bL bR bN bO D A0 A1 S (nums.set i u) x0 x1 v m A:=by
 have E:=h.ord;exact⟨h.bel.setCell (by show w.1.size<=bN;omega) _,E,by simpa using h.sz,h.b0.other (by omega) _,h.b1.other (by omega) _,(h.num.stored i u).1,h.b3.other (by omega) _,cE h.own (by omega) _ _⟩
theorem ki.setQ(h:ki T1 T3 w wr bL bR bN bO D A0 A1 S nums x0 x1 v m A)(u:Value):ki T1 T3 w (wr.setCell ⟨bO,1,none⟩ u) bL bR bN bO D A0 A1 S nums x0 u v m A:=by
 have F:=h.ord;have E:wr.grownBy (wr.setCell ⟨bO,1,none⟩ u) (some bO):=⟨rfl,rfl,rfl,by simp,λp J I=>dE _ _ _ _ (λe=>I (by rw[show p=bO from e]))⟩;exact⟨h.bel.setCell (by show w.1.size<=bO;omega) _,F,by simpa using h.sz,h.b0.other (by omega) _,h.b1.other (by omega) _,h.num.kept E (.inr (by simp[Value.ownBlock];omega)),h.b3.set1 _,cE h.own (by omega) _ _⟩
theorem ki.app{E:World}{v':Value}{I:Nat}{A':List Value}(h:ki T1 T3 w wr bL bR bN bO D A0 A1 S nums x0 x1 v m A)(F:Below D wr E)(W:E.ownsRow D T3 3 v' I A'):ki T1 T3 w (E.setCell ⟨bO,2,none⟩ v') bL bR bN bO D A0 A1 S nums x0 x1 v' I A':=by
 have U:=h.ord;have O:E.grownBy (E.setCell ⟨bO,2,none⟩ v') (some bO):=⟨rfl,rfl,rfl,by simp,λp Z Y=>dE _ _ _ _ (λe=>Y (by rw[show p=bO from e]))⟩;have J:Below w.1.size w E:=h.bel.trans (F.mono (by omega));have Q:E.ownsRow bN T1 1 (.slice (some ⟨bN,0,none⟩) S S) S nums:=QW h.num F (by rintro g ⟨⟩;show bN<D;omega);exact⟨J.setCell (by show w.1.size<=bO;omega) _,U,by simpa using bn h.sz F.size,(h.b0.at_ F (by omega)).other (by omega) _,(h.b1.at_ F (by omega)).other (by omega) _,Q.kept O (.inr (by simp[Value.ownBlock];omega)),(h.b3.at_ F (by omega)).set2 _,cE W (by omega) _ _⟩
end
def pH(K:Nat->Bool)(S i:Nat):List Value:=(List.range S).map λj=> Ud ((if K j=true/\j<i then bW K j else 0:Nat):Int)
theorem lk{K}{S i j}(h:j<S):(pH K S i)[j]? =some (Ud ((if K j=true/\j<i then bW K j else 0:Nat):Int)):=by simp[pH,h]
theorem xi(K)(S):pH K S 0=(madeCells (Value.int .i64 0).cells (S*1)).toList:=by
 rw[kC];unfold pH af;rw[List.map_replicate];refine da (by simp) λi h D=>by simp
theorem Ah{K}{S i}(h:K i=true)(hi:i<S):(pH K S i).set i (Ud ((bW K i:Nat):Int))=pH K S (i+1):=by
 refine da (by simp[pH]) λj E F=> ?_
 rw[ms];simp only[pH,jP,iU];by_cases e:i=j
 ·subst e;rw[if_pos rfl,if_pos ⟨h,by omega⟩]
 ·rw[if_neg e];by_cases k:K j=true/\j<i
  ·rw[if_pos k,if_pos ⟨k.1,by omega⟩]
  ·rw[if_neg k,if_neg (λD=>k ⟨D.1,by omega⟩)]
theorem Eu{K}{S i}(h:K i=false):pH K S (i+1)=pH K S i:=by
 unfold pH;refine bp λj _=> ?_
 by_cases e:j=i
 ·subst e;rw[if_neg (by rw[h];simp),if_neg (by rw[h];simp)]
 ·by_cases k:K j=true/\j<i
  ·rw[if_pos k,if_pos ⟨k.1,by omega⟩]
  ·rw[if_neg k,if_neg (λD=>k ⟨D.1,by omega⟩)]
theorem qE:(prog.info? 90).map (λi=>(i.zero,i.size,i.bytes))=some (some (.agg #[Ud 0,Ud 0,Ud 0]),3,24):=by kernel_rfl
theorem kQ(a b):af (a++b)=af a++af b:=by simp[af]
structure Qr (w wr : World) (k n : Nat) (xs : List Int) (v : Value) : Prop where
  size : w.1.size + 2 ≤ wr.1.size
  os : Below w.1.size w wr
  r0 : wr.cell? ⟨w.1.size, 0, none⟩ = some (.int .i64 0)
  r1 : wr.cell? ⟨w.1.size, 1, none⟩ = some (.int .i64 0)
  r2 : wr.cell? ⟨w.1.size, 2, none⟩ = some (.slice none 0 0)
  f0 : wr.frozen? ⟨w.1.size, 0, none⟩ = false
  f1 : wr.frozen? ⟨w.1.size, 1, none⟩ = false
  f2 : wr.frozen? ⟨w.1.size, 2, none⟩ = false
  c0 : wr.cell? ⟨w.1.size + 1, 0, none⟩ = some (.int .i64 2)
  c1 : wr.cell? ⟨w.1.size + 1, 1, none⟩ = some (.int .i64 ((k : Int) + 1))
  g2 : wr.frozen? ⟨w.1.size + 1, 2, none⟩ = false
  c2 : wr.cell? ⟨w.1.size + 1, 2, none⟩ = some v
  own : wr.ownsRow (w.1.size + 2) 90 3 v n (af xs)
theorem Qr.step{w wr F}{k n U}{xs W}{v v'}(h:Qr w wr k n xs v)(E:Below (w.1.size+2) wr F)(Q:F.ownsRow (w.1.size+2) 90 3 v' U (af W)):Qr w (F.setCell ⟨w.1.size+1,2,none⟩ v') k U W v':=by
 have a2:=E.size;have a3:=h.size;have D:∀b o v,b<w.1.size+2->(b≠w.1.size+1\/o≠2)->wr.cell? ⟨b,o,none⟩=some v->(F.setCell ⟨w.1.size+1,2,none⟩ v').cell? ⟨b,o,none⟩=some v:=λb o v O Z J=>by
  rw[bQ _ _ _ _ (λe=>by injection e with e1 e2;rcases Z with h|h;exact h e1.symm;exact h e2.symm)];exact(E.cell (p:=⟨b,o,none⟩) O).trans J
 have I:∀b o,b<w.1.size+2->wr.frozen? ⟨b,o,none⟩=false->(F.setCell ⟨w.1.size+1,2,none⟩ v').frozen? ⟨b,o,none⟩=false:=λb o O J=>by
  rw[dG];exact(E.frozen (p:=⟨b,o,none⟩) O).trans J
 have Y:=h.c2;refine⟨by simp;omega,(h.os.trans (E.mono (by omega))).setCell (by simp) _,D _ _ _ (by omega) (.inl (by omega)) h.r0,D _ _ _ (by omega) (.inl (by omega)) h.r1,D _ _ _ (by omega) (.inl (by omega)) h.r2,I _ _ (by omega) h.f0,I _ _ (by omega) h.f1,I _ _ (by omega) h.f2,D _ _ _ (by omega) (.inr (by omega)) h.c0,D _ _ _ (by omega) (.inr (by omega)) h.c1,I _ _ (by omega) h.g2,?_,?_⟩
 ·exact dV _ _ _ ((E.cell (p:=⟨w.1.size+1,2,none⟩) (by show w.1.size+1<_;omega)).trans Y)
 ·exact Q.kept (row:=some (w.1.size+1)) ⟨rfl,rfl,rfl,by simp,λq a1 a0=>dE _ _ _ _ (λe=>a0 (by rw[show q=w.1.size+1 from e]))⟩ (by
   cases hv:v'.ownBlock with
   |none=>exact .inl rfl
   |some q=>
    refine .inr λe=> ?_
    injection e with e
    have:=(Q.lt q hv).1;omega)
def yL(L S:Nat)(g:Option Addr)(m c:Nat):Value:=.agg #[Ud L,Ud S,.slice g m c]
def Bv(L S:Nat)(A:List (Nat×Nat×Nat))(w:World)(e:Ending)(w':World):Prop:=
 ∃g c,e= .returned (yL L S g A.length c)/\w'.ownsRow w.1.size 90 3 (.slice g A.length c) A.length (bC (dg A))/\Below w.1.size w w'
theorem dm{w:World}{base e s n}{v}{xs}(h:w.ownsRow base e s v n xs):∃g c,v= .slice g n c:=by
 rcases h.2 with⟨rfl,rfl⟩|⟨g,cap,D,rfl,_⟩
 ·exact⟨none,0,rfl⟩
 ·exact⟨_,cap,rfl⟩
theorem xu{w}{a}{S i}{K}(h:aO w a S (bP (fq K S)))(hi:i<S):∃b D,a=some ⟨b,D,none⟩/\b<w.1.size/\∀j,j<S->w.cell? ⟨b,D+j,none⟩=some (.bool (K j)):=by
 obtain⟨b,D,rfl,E,F⟩:=h.at_ (by omega);exact⟨b,D,rfl,E,λj I=>F j _ (dL I)⟩
theorem kJ{P}{wr}{b4}{o}{a}{K}{Q}{E}
 (a2:o.guard=none)(s x)(t)(a6:o.op=Op.call {callee:=Callee.builtin Builtin.append,args:=#[s,x],argTypes:=#[t,t]})
 (B)(e)(Y:P.underlying t=some (.slice e))(a3:(P.info? e).map (λi=>(i.zero,i.size,i.bytes))=some (some (.agg #[Ud 0,Ud 0,Ud 0]),3,24))
 (v)(m)(xs)(D F I)(U:wr.ownsRow B e 3 v m xs)(a8:a.eval s=v)(b0:a.eval x= .slice (some ⟨wr.1.size,0,none⟩) 1 1)
 (b5:m<=1048576)(Z:B<=wr.1.size)
 (a0:∀J c' h,h.ownsRow B e 3 (.slice (some ⟨J,0,none⟩) (m+1) c') (m+1) (xs++[Ud D,Ud F,Ud I])->Below B wr h->wr.grownBy h v.ownBlock->K (a.put o.dst (.slice (some ⟨J,0,none⟩) (m+1) c')) h):
 if Region.wanted o (yielded b4 a.tmps)=true then Oper.wp P o a (wr.alloc (.cells #[Ud D,Ud F,Ud I] e)) K Q else E:=by
 obtain⟨i,hi,b1,b2,b3⟩:=info_parts a3;refine step_append_lies _ a2 s x t a6 B e i _ 3 24 Y hi b1 b2 b3 rfl (by decide) v m xs a8 (U.alloc _) ⟨wr.1.size,0,none⟩ 1 1 (af [D,F,I]) b0 rfl ?_ (by intro u a9;obtain⟨x,_,rfl⟩:=bi.1 a9;rfl) (by omega) (by unfold maxLen;omega) (by omega) (by simp;omega) (wr.1.size+1) (by simp) ?_
 ·intro j y a4;have a1:(⟨wr.1.size,0,none⟩:Addr).add j=⟨wr.1.size,j,none⟩:=by
   unfold Addr.add;split
   ·rename_i W;subst W;rfl
   ·simp
  rw[a1,aL _ _ _ _ rfl];rw[<-a4];simp[af]
 ·intro g cap h a7 O _ _;exact a0 g cap h a7 ((aZ.alloc Z _).grown O (by simp;omega) (λk a5=>(U.lt k a5).1)) (dd (cC _ _ _) O)
theorem Na(L S)(a f6)(n c h4)(G)(K)(w)(g6:aO w a (n*3) (bC (dg G)))(e5:aO w f6 S (bP (fq K S)))(c2:fZ L S G)(l2:n<=1000000):
 Calls prog 237 #[.agg #[Ud L,Ud S,.slice a n c],.slice f6 S h4] w (Bv L (bW K S) (dQ K G) w):=by
 have k4:=c2.s12;have c1:=c2.s1;have b6:=aa (mN g6 aZ);obtain⟨b8,c9,rfl,i5,g2⟩:=xu e5 c1;have d7:=aa (λ(V:World) (a1:Below w.1.size w V) (j:Nat) (i7:j<S)=>show V.cell? ⟨b8,c9+j,none⟩=some (.bool (K j)) from(a1.cell (p:=⟨b8,c9+j,none⟩) i5).trans (g2 j i7));have g7:=aa c2;obtain⟨k1,hi,c8,j6,j7⟩:=info_parts bK;unfold Bv yL;clear g6 e5 c2 g2;obtain⟨b0,c4⟩:=aB ((w.alloc (.cells #[Ud L,Ud S,.slice a n c] 35)).alloc (.cells #[Ud 0,Ud 0,.slice none 0 0] 35));have j4:b0.1.size=w.1.size+1+1:=by rw[c4];simp
 have e9:=aa (λ(V:World) (a1:Below b0.1.size b0 V)=>show bA V w.1.size #[Ud L,Ud S,.slice a n c]/\bA V (w.1.size+1) #[Ud 0,Ud 0,.slice none 0 0]/\Below w.1.size w V from by
  rw[c4] at a1;obtain⟨⟨h1,b9⟩,⟨h2,c0⟩,i1,i2⟩:=Bl a1;exact⟨⟨by omega,h1,b9⟩,⟨i1,h2,c0⟩,i2⟩)
 go_enter func237,ntmps237;go_wp2_with(first|(at_make;refine wpList_make_full _ rfl _ _ 37 rfl (w.1.size+1+1) 3 k1 (Ud 0) 1 underlying37 hi c8 j6 .i64 .i64 _ _ S rfl rfl rfl rfl (by rw[j7];omega) (by unfold maxLen;omega) (by simp) ?_;intro a2 a5 e3;rw[<-c4] at e3 a5;rw[j4] at a5;have e1:Below b0.1.size b0 a2:=aZ.grown e3 aQ (by intro k h;cases h);obtain⟨d9,f5,e2⟩:=e9.o a2 e1;obtain⟨d0,d1,d2⟩:=d9.c3.1));have k5:w.1.size+1+1<a2.1.size:=(a5.lt _ rfl).2;rw[<-xi K S] at a5;obtain⟨e0,b2⟩:=aB (a2.alloc (.cells #[Ud L,Ud 0,.slice none 0 0] 35));obtain⟨F,c6⟩:=aB a2.1.size;have b7:=aa (show ki 3 90 w e0 w.1.size (w.1.size+1) (w.1.size+1+1) F (F+1) #[Ud L,Ud S,.slice a n c] #[Ud 0,Ud 0,.slice none 0 0] S (pH K S 0) (Ud L) (Ud ((bW K 0:Nat):Int)) (.slice none 0 0) 0 (bC (dg (dQ K (G.take 0)))) from by
  have m0:e0.1.size=F+1:=by rw[b2,c6];simp
  have c5:Below a2.1.size a2 e0:=by rw[b2];exact aZ.alloc aQ _
  exact⟨e2.trans (c5.mono e2.size),by omega,by omega,d9.below c5,f5.below c5,ai a5 c5,by rw[b2,c6];exact bA.new _ _ _,dk _ _ _ _⟩)
 rw[<-b2,<-c6];clear b2 c6 a5 e3 e1 e2 d9 f5 d0 d1 d2 e9 c4;go_loopw[7] (λi wr=>∃q:Nat,q<=S/\i= Ud q/\ki 3 90 w wr w.1.size (w.1.size+1) (w.1.size+1+1) F (F+1) #[Ud L,Ud S,.slice a n c] #[Ud 0,Ud 0,.slice none 0 0] S (pH K S q) (Ud L) (Ud ((bW K q:Nat):Int)) (.slice none 0 0) 0 (bC (dg (dQ K (G.take 0))))) (λi _=>S-(intOf i).toNat);exact⟨0,by omega,rfl,b7.o⟩;obtain⟨q,l7,rfl,D⟩:=hrel;obtain⟨d0,d1,d2⟩:=D.b0.c3.1;by_cases b4:q<S
 ·have i8:=d7.o wr D.bel q b4;obtain⟨⟨o0,o1,o2⟩,b9,c0,f7⟩:=D.b3.c3;have l8:(q:Int)<(S:Int):=(by omega);have j2:=(D.num.cellAt q (by omega)).trans (lk b4);rw[if_neg (by omega)] at j2;have e6:=D.num.frozenAt q;have j3:=D.ord;have l3:¬(F=w.1.size+1+1):=(by omega);have l4:¬(w.1.size+1+1=F):=(by omega);have j1:=nS K q;have U:=aa D;have J:=aa (λh:K q=true=>Ah (S:=S) h b4);have I:=aa (λh:K q=false=>Eu (S:=S) h);have a9:=aa (λh:K q=true=>lY h);have a6:=aa (λh:K q=false=>pI h);obtain⟨x,b5⟩:=aB (K q);obtain⟨y,Z⟩:=aB (bW K q);rw[<-b5] at i8 J I a9 a6;rw[<-Z] at o1 a9 a6 j1 J U;clear b5 Z D j3;cases x
  ·have Q:=aa (I.o rfl);have d5:=aa (a6.o rfl);clear J I a9 a6;go_wp2;go_roundw;exact⟨q+1,by omega,by go_num,by rw[Q.o,d5.o];exact U.o⟩;simp[intOf]<;>omega
  ·have Q:=aa (J.o rfl);have d5:=aa (a9.o rfl);clear J I a9 a6;go_wp2;go_roundw;exact⟨q+1,by omega,by go_num,by
    have c1:=(U.o.setNum q (Ud (y:Int))).setQ (Ud ((y:Int)+1));rw[Q.o] at c1;rw[d5.o];exact c1⟩
   simp[intOf]<;>omega
 ·obtain rfl:q=S:=by omega
  have b7:=aa D;clear D;go_wp2;go_loopw[8] (λi wr=>∃(k:Nat) (v:Value),k<=n/\i= Ud k/\ki 3 90 w wr w.1.size (w.1.size+1) (w.1.size+1+1) F (F+1) #[Ud L,Ud q,.slice a n c] #[Ud 0,Ud 0,.slice none 0 0] q (pH K q q) (Ud L) (Ud ((bW K q:Nat):Int)) v (dQ K (G.take k)).length (bC (dg (dQ K (G.take k))))) (λi _=>n-(intOf i).toNat);exact⟨0,_,by omega,rfl,b7.o⟩;clear b7 d0 d1 d2;obtain⟨k,v,e5,rfl,D⟩:=hrel;obtain⟨d0,d1,d2⟩:=D.b0.c3.1;by_cases b4:k<n
  ·obtain⟨y,Z⟩:=aE (l:=G) (n:=k) (by rw[b6.o.1];exact b4);obtain⟨k3,m1,rfl,e1,g1⟩:=b6.o.2 k y Z;have a0:=g7.o.arc y (aj Z);have J:=aa (λh:ks K y=true=>Dp Z h);have I:=aa (λh:ks K y=false=>GU Z h);obtain⟨f,t,l⟩:=y;obtain⟨h6,h7,h8⟩:=g1 wr D.bel;have k9:(k:Int)<(n:Int):=(by omega);simp only[] at h6 h7 h8 a0;have k8:(f:Int)<(q:Int):=(by omega);have l9:(t:Int)<(q:Int):=(by omega);obtain⟨O,a4⟩:=aB (wr.alloc (.cells #[Ud f,Ud t,Ud l] 90));have g0:Below wr.1.size wr O:=by rw[a4];exact aZ.alloc aQ _
   have E:=aa (D.below g0);have d6:=aa (show bA O wr.1.size #[Ud f,Ud t,Ud l] by rw[a4];exact bA.new _ _ _);have i9:(wr.alloc (.cells #[Ud f,Ud t,Ud l] 90)).cell? ⟨b8,c9+f,none⟩=some (.bool (K f)):=by rw[<-a4];exact d7.o O E.o.bel f a0.1
   have j0:(wr.alloc (.cells #[Ud f,Ud t,Ud l] 90)).cell? ⟨b8,c9+t,none⟩=some (.bool (K t)):=by rw[<-a4];exact d7.o O E.o.bel t a0.2.1
   have l0:=tq K (G.take k);have l1:(G.take k).length<=n:=by rw[cY,b6.o.1];omega
   have e6:=λh:K f=true=>(E.o.num.cellAt f (by omega)).trans (lk (K:=K) (i:=q) a0.1)|>.trans (by rw[if_pos ⟨h,a0.1⟩])
   have g4:=λh:K t=true=>(E.o.num.cellAt t (by omega)).trans (lk (K:=K) (i:=q) a0.2.1)|>.trans (by rw[if_pos ⟨h,a0.2.1⟩])
   have g3:ks K (f,t,l)=(K f&&K t):=rfl;rw[g3] at J I;have a7:=aa e6;have a8:=aa g4;obtain⟨x,b5⟩:=aB (K f);obtain⟨z,c8⟩:=aB (K t);rw[<-b5] at i9 J I a7;rw[<-c8] at j0 J I a8;have d8:=aa a4;have h0:=aa (λ(g:Nat) (h:v.ownBlock=some g)=>(D.own.lt g h).2);clear b5 c8 Z g1 a0 e6 g4 g3 a4 g0 D;cases x
   ·have Q:=aa (I.o rfl);clear J I a7 a8;go_wp2;rw[<-d8.o];go_roundw;exact⟨k+1,v,by omega,by go_num,by rw[Q.o];exact E.o⟩;simp[intOf]<;>omega
   ·cases z
    ·have Q:=aa (I.o rfl);clear J I a7 a8;go_wp2;rw[<-d8.o];go_roundw;exact⟨k+1,v,by omega,by go_num,by rw[Q.o];exact E.o⟩;simp[intOf]<;>omega
    ·have Q:=aa (J.o rfl);have f0:=aa (a7.o rfl);have f1:=aa (a8.o rfl);clear J I a7 a8;obtain⟨⟨o0,o1,o2⟩,b9,c0,f7⟩:=E.o.b3.c3;obtain⟨⟨m3,m4,m5⟩,_⟩:=d6.o.c3;go_wp2_with fail;rw[<-d8.o];obtain⟨a3,c3⟩:=aB (α:=World->Prop) (λV=>V.cell? ⟨F,2,none⟩=some v/\V.cell? ⟨w.1.size+1+1,f,none⟩=some (Ud (bW K f:Nat))/\V.cell? ⟨w.1.size+1+1,t,none⟩=some (Ud (bW K t:Nat))/\V.cell? ⟨wr.1.size,0,none⟩=some (Ud f)/\V.cell? ⟨wr.1.size,1,none⟩=some (Ud t)/\V.cell? ⟨wr.1.size,2,none⟩=some (Ud l));have f4:=aa (show∀V,a3 V->V.cell? ⟨F,2,none⟩=some v/\V.cell? ⟨w.1.size+1+1,f,none⟩=some (Ud (bW K f:Nat))/\V.cell? ⟨w.1.size+1+1,t,none⟩=some (Ud (bW K t:Nat))/\V.cell? ⟨wr.1.size,0,none⟩=some (Ud f)/\V.cell? ⟨wr.1.size,1,none⟩=some (Ud t)/\V.cell? ⟨wr.1.size,2,none⟩=some (Ud l) fromλV a1=>by rw[c3] at a1;exact a1);have f3:=aa (show∀V,Below O.1.size O V->a3 V fromλV Y=>by
      obtain⟨⟨_,_,d3⟩,_⟩:=(E.o.b3.below Y).c3;obtain⟨⟨d4,e7,e8⟩,_⟩:=(d6.o.below Y).c3;have b3:w.1.size+1+1<O.1.size:=(E.o.num.lt _ rfl).2;rw[c3];exact⟨d3,(Y.cell (p:=⟨w.1.size+1+1,f,none⟩) b3).trans f0.o,(Y.cell (p:=⟨w.1.size+1+1,t,none⟩) b3).trans f1.o,d4,e7,e8⟩)
     have k6:a3 O.drew:=f3.o _ aZ.drew;have i3:a3 (O.drew.alloc (.cells #[Ud (bW K f:Nat),Ud (bW K t:Nat),Ud l] 90)):=f3.o _ (aZ.drew.alloc aQ _);have j5:F+1<=O.drew.1.size:=E.o.sz;have g8:=aa (ai E.o.own aZ.drew);have f2:=aa (show∀V,O.drew.grownBy V v.ownBlock->Below (F+1) O.drew V->a3 V fromλV i6 Y=>by
      have i4:=d6.o.below aZ.drew;have l5:=E.o.ord;obtain⟨⟨_,_,d3⟩,_⟩:=((E.o.b3.below aZ.drew).at_ Y (by omega)).c3;obtain⟨⟨d4,e7,e8⟩,_⟩:=(i4.keep i6 (λe=>by have:=h0.o _ e;omega)).c3;have b3:w.1.size+1+1<F+1:=(by omega);rw[c3];exact⟨d3,(Y.cell (p:=⟨w.1.size+1+1,f,none⟩) b3).trans f0.o,(Y.cell (p:=⟨w.1.size+1+1,t,none⟩) b3).trans f1.o,d4,e7,e8⟩)
     clear c3;refine dr (S:=a3) 18 (by kernel_rfl) ?_;iterate 15 (refine kG rfl (by kernel_rfl) (λ_ _ _ h=>h) (by rfl) (by assumption) (λV b1=>by have b1:=f4.o V b1;go_split_ands;go_simp;first|done|with_reducible rfl) ?_;try simp only[Act.put,ab,ac,ae])
     refine aY (i:=15) rfl (by kernel_rfl) (by decide) (λK W=> ?_);go_simp;refine W.out _ _ i3 ?_;clear W K;try simp only[Act.put,ab,ac,ae]
     refine aY (i:=16) rfl (by kernel_rfl) (by decide) (λK W=> ?_);refine kJ (by rfl) _ _ 33 (by rfl) (F+1) 90 underlying33 qE v _ _ _ _ _ g8.o (by rfl) (by rfl) (by omega) j5 ?_;intro h9 h3 m2 g5 c7 e4;refine W.out _ _ (f2.o _ e4 c7) ?_;clear W K;try simp only[Act.put,ab,ac,ae]
     have k7:=f2.o _ e4 c7;have f9:=(E.o.below aZ.drew).app c7 g5;obtain⟨⟨_,_,d3⟩,_,_,d4⟩:=((E.o.b3.below aZ.drew).at_ c7 (cG _)).c3;have g9:=aa f9;clear f9 g5 e4;(refine jw 17 rfl (by kernel_rfl) (λ_ _ _ h=>h) (by rfl) (by assumption) (λV b1=>by have b1:=f4.o V b1;go_split_ands;go_simp;first|done|with_reducible rfl) ?_;try simp only[Act.put,ab,ac,ae]);refine cU rfl (by kernel_rfl) (by kernel_rfl) (λK W=> ?_);go_simp;refine W.out _ _ ?_;clear W K;go_wp2;go_roundw;exact⟨k+1,.slice (some ⟨h9,0,none⟩) ((dQ K (G.take k)).length+1) h3,by omega,by go_num,by rw[Q.o,az,qf,lA];exact g9.o⟩;simp[intOf]<;>omega
  ·obtain rfl:k=n:=by omega
   have f8:G.take k=G:=aM (by rw[b6.o.1];omega);rw[f8] at D;obtain⟨⟨o0,o1,o2⟩,_⟩:=D.b3.c3;obtain⟨⟨j8,j9,k0⟩,b9,c0,f7⟩:=D.b1.c3;have U:=aa D;obtain⟨i0,h5,rfl⟩:=dm D.own;clear D f8;go_wp2;have l6:=U.o.ord;have k2:=aa ((U.o.own.lt));refine bodyPost_ret (v:=.agg #[Ud L,Ud ((bW K q:Nat):Int),.slice i0 (dQ K G).length h5]) (by simp[results,results237,go_sem,j8,j9,k0]) rfl ⟨_,_,rfl,?_,?_⟩
   ·exact aT (cE (cE (cE U.o.own (by omega) _ _) (by omega) _ _) (by omega) _ _) (by omega)
   ·exact((U.o.bel.setCell (by show w.1.size<=w.1.size+1;omega) _).setCell (by show w.1.size<=w.1.size+1;omega) _).setCell (by show w.1.size<=w.1.size+1;omega) _
def wY(a b:Int×Int×Int):Bool:=decide (b.1=a.1)&&decide (b.2.2=a.2.2)
def jn(A:List (Int×Int×Int))(k:Nat):Bool:=k==0|| !wY (qg A (k-1)) (qg A k)
def jS(A:List (Int×Int×Int)):Nat->Bool|0=>true|k+1=>jS A k&&jn A k
theorem uB{A:List (Int×Int×Int)}{k:Nat}(h:jn A k=false):∀j,jS A (k+1+j)=false
 |0=>by show(jS A k&&jn A k)=false;rw[h];simp
 |j+1=>by show(jS A (k+1+j)&&_)=false;rw[uB h j];rfl
def ev(L S:Int)(A:List (Int×Int×Int)):Bool:=fy L S A&&jS A A.length
theorem BP{L S}{G}(h:fZ L S G)(a4:Ln G):ev L S (dg G)=true:=by
 have a5:=h.k1;have a6:=h.k3;have a7:=h.s1;have a8:=h.s12;have Y:∀k,k<G.length->∃a,G[k]? =some a/\qg (dg G) k=((a.1:Int),(a.2.1:Int),(a.2.2:Int))/\a.1<S/\a.2.1<S/\a.2.2<L:=λk F=>by
  obtain⟨a,D⟩:=aE F;exact⟨a,D,jg (Im D),h.arc a (aj D)⟩
 have a3:∀k a b,G[k]? =some a->G[k+1]? =some b->a.1<b.1\/(a.1=b.1/\a.2.2<b.2.2):=λk a b D E=>by
  have U:=aw.1 D;have W:=aw.1 E;have:=List.pairwise_iff_getElem.1 a4 k (k+1) U.1 W.1 (by omega);rw[U.2,W.2] at this;exact this
 have Z:∀k,k<G.length->∃a,G[k]? =some a/\qg (dg G) k=((a.1:Int),(a.2.1:Int),(a.2.2:Int))/\(a.1<S/\a.2.1<S/\a.2.2<L)/\(k=0\/∃b:Nat×Nat×Nat,qg (dg G) (k-1)=((b.1:Int),(b.2.1:Int),(b.2.2:Int))/\(b.1<a.1\/(b.1=a.1/\b.2.2<a.2.2))):=λk F=>by
  obtain⟨a,D,O,Q⟩:=Y k F;refine⟨a,D,O,Q,?_⟩;rcases dN k with J|J
  ·exact .inl J
  ·obtain⟨b,E,a1,_⟩:=Y (k-1) (by omega);exact .inr ⟨b,a1,a3 (k-1) b a E (by rw[Nat.sub_add_cancel J];exact D)⟩
 have O:∀n,n<=G.length->gS L S (dg G) n=true:=λn=>by
  induction n with
  |zero=>intro _;rfl
  |succ k ih=>
   intro F;unfold gS;rw[ih (by omega),dK];obtain⟨a,D,e,a0,E⟩:=Z k (by omega);unfold ij sM;rw[e,fj (by simp only[];omega),fj (by simp only[];omega),fj (by simp only[];omega)];rcases E with rfl|⟨b,I,E⟩
   ·rfl
   ·rw[I];have:wt ((b.1:Int),(b.2.1:Int),(b.2.2:Int)) ((a.1:Int),(a.2.1:Int),(a.2.2:Int))=true:=by
     rw[Ig];simp only[];omega
    rw[this];simp
 have Q:∀n,n<=G.length->jS (dg G) n=true:=λn=>by
  induction n with
  |zero=>intro _;rfl
  |succ k ih=>
   intro F;unfold jS;rw[ih (by omega),dK];obtain⟨a,D,e,a0,E⟩:=Z k (by omega);unfold jn wY;rw[e];rcases E with rfl|⟨b,I,E⟩
   ·rfl
   ·rw[I];simp only[];by_cases a2:(a.1:Int)=(b.1:Int)
    ·rw[decide_eq_false (p:=(a.2.2:Int)=(b.2.2:Int)) (by omega)];simp
    ·rw[decide_eq_false a2];simp
 unfold ev fy;rw[wE,O _ aQ,Q _ aQ,fj (by omega),fj (by omega)];rfl
theorem Rv{L S}{n}{A}(h:A.length=n):(gS (IntKind.i64.wrap (L-1)+1) (IntKind.i64.wrap (S-1)+1) A n&&jZ L 1 3&&jZ S 1 12)=fy L S A:=by
 unfold fy;rw[h];by_cases D:1<=L/\L<=3
 ·by_cases E:1<=S/\S<=12
  ·rw[au (L-1) (by omega),au (S-1) (by omega),Int.sub_add_cancel,Int.sub_add_cancel];cases gS L S A n<;>cases jZ L 1 3<;>cases jZ S 1 12<;>rfl
  ·rw[lP (x:=S) (by omega)];simp
 ·rw[lP (x:=L) (by omega)];simp
theorem Av(L S)(a)(n c)(A)(w)(b5:aO w a (n*3) (bC A))(d9:n<=1048576):
 Calls prog 175 #[.agg #[Ud L,Ud S,.slice a n c]] w λe w'=>e= .returned (.bool (jS A n))/\Below w.1.size w w':=by
 have a9:=aa (λ(V:World) (c7:Below (w.1.size+1) (w.alloc (.cells #[Ud L,Ud S,.slice a n c] 35)) V)=>dT c7);obtain⟨F,I⟩:=aB (w.alloc (.cells #[Ud L,Ud S,.slice a n c] 35));have W:Below w.1.size w F:=by rw[I];exact aZ.alloc aQ _
 have c9:F.1.size=w.1.size+1:=by rw[I];simp
 rw[<-I,<-c9] at a9;have Q:=aa (wy b5 W);have d2:=aa W;have e1:w.1.size<=F.1.size:=W.size;have b0:=aa (λ(k:Nat) (c8:k<n) (h:jn A k=false)=>show jS A n=false from by
  have:=uB h (n-(k+1));rw[show k+1+(n-(k+1))=n by omega] at this;exact this)
 have a2:=aa (λ(k:Nat)=>show jS A (k+1)=(jS A k&&jn A k) from rfl);obtain⟨Z,J⟩:=aB (α:=Nat->Bool) (jS A);rw[<-J] at b0 a2;rw[<-J];have b7:=aa (show Z 0=true by rw[J];rfl);have b8:=aa (show Z 1=true by rw[J];rfl);clear b5 W J;go_enter func175,ntmps175;go_wp2;rw[<-I];clear I;go_loopw[3] (λi wr=>∃k:Nat,k<=n/\i= Ud ((k:Int)+1)/\bv (Z (k+1)=true\/n=k)/\bv (Z k=true)/\Below F.1.size F wr) (λi _=>n-(intOf i).toNat);exact⟨0,by omega,rfl,aa (.inl b8.o),b7,aZ⟩;obtain⟨j,c8,rfl,E,b9,O⟩:=hrel;obtain⟨⟨e4,e5,e6⟩,e0,b1⟩:=a9.o wr O;by_cases b4:j+1<n
 ·obtain⟨x,a6⟩:=aE (l:=A) (n:=j+1) (by rw[Q.o.1];exact b4);obtain⟨d3,e2,rfl,d5,b2⟩:=Q.o.2 (j+1) x a6;obtain⟨y,a7⟩:=aE (l:=A) (n:=j) (by rw[Q.o.1];omega);obtain⟨d4,e3,a4,_,b3⟩:=Q.o.2 j y a7;injection a4 with a4
  injection a4 with he1 he2
  subst he1 he2;have b6:jn A (j+1)= !wY y x:=by
   unfold jn;rw[eG,jg a7,jg a6];rfl
  obtain⟨f,t,l⟩:=y;obtain⟨a3,e7,a8⟩:=x;obtain⟨c0,c1,c2⟩:=b3 wr O;obtain⟨c3,c4,c5⟩:=b2 wr O;have d7:(j:Int)+1<(n:Int):=(by omega);have d8:(j:Int)<(n:Int):=(by omega);simp only[] at c0 c1 c2 c3 c4 c5;have D:jn A (j+1)= !((a3==f)&&(a8==l)):=by
   rw[b6];unfold wY;simp only[];by_cases c6:a3=f<;>by_cases U:a8=l<;>simp[c6,U]
  clear b6 a6 a7 b2 b3;obtain⟨d0,a5⟩:=aB ((a3==f));obtain⟨d1,Y⟩:=aB ((a8==l));rw[<-a5,<-Y] at D;replace a5:=a5.symm;replace Y:=Y.symm;cases d0
  ·have a0:=aa (show Z (j+1+1)=true by rw[a2.o,D];rcases E.o with h|h;rw[h];rfl;omega);clear D Y;go_wp2;go_quiet(fail);go_wp2;go_roundw;exact⟨j+1,by omega,by go_num,aa (.inl a0.o),aa (by rcases E.o with h|h;exact h;omega),aA O _⟩;simp[intOf]<;>omega
  ·cases d1
   ·have a0:=aa (show Z (j+1+1)=true by rw[a2.o,D];rcases E.o with h|h;rw[h];rfl;omega);clear D;go_wp2;go_quiet(fail);go_wp2;go_roundw;exact⟨j+1,by omega,by go_num,aa (.inl a0.o),aa (by rcases E.o with h|h;exact h;omega),aA O _⟩;simp[intOf]<;>omega
   ·have a1:=aa (b0.o (j+1) b4 (by rw[D];rfl));clear D;go_wp2;go_quiet(fail);go_wp2;go_ret;exact⟨aG a1.o.symm,aA b1 _⟩
 ·have a1:=aa (show Z n=true by rcases eE j n with h|h;rcases E.o with U|U;rw[show n=j+1 by omega];exact U;omega;rw[show n=j by omega];exact b9.o);have d6:¬((j:Int)+1<(n:Int)):=(by omega);go_wp2;go_ret;exact⟨aG a1.o.symm,b1⟩
theorem nX(L S)(a)(n c)(A)(w)(b7:aO w a (n*3) (bC A))(e4:n<=1048576):
 Calls prog 79 #[.agg #[Ud L,Ud S,.slice a n c]] w λe w'=>e= .returned (.bool (jS A n))/\Below w.1.size w w':=by
 have b2:=aa (λ(V:World) (d1:Below (w.1.size+1) (w.alloc (.cells #[Ud L,Ud S,.slice a n c] 35)) V)=>dT d1);obtain⟨F,J⟩:=aB (w.alloc (.cells #[Ud L,Ud S,.slice a n c] 35));have U:Below w.1.size w F:=by rw[J];exact aZ.alloc aQ _
 have d7:F.1.size=w.1.size+1:=by rw[J];simp
 rw[<-J,<-d7] at b2;have Q:=aa (wy b7 U);have d8:=aa U;have e6:w.1.size<=F.1.size:=U.size;have b3:=aa (λ(k:Nat) (d5:k<n) (c8:jn A k=false)=>show jS A n=false from by
  have:=uB c8 (n-(k+1));rw[show k+1+(n-(k+1))=n by omega] at this;exact this)
 have a3:=aa (λ(k:Nat)=>show jS A (k+1)=(jS A k&&jn A k) from rfl);obtain⟨Z,O⟩:=aB (α:=Nat->Bool) (jS A);rw[<-O] at b3 a3;rw[<-O];have c2:=aa (show Z 0=true by rw[O];rfl);have c3:=aa (show Z 1=true by rw[O];rfl);go_enter func79,ntmps79;go_wp2;rw[<-J];go_loopw[8] (λi wr=>∃k:Nat,k<=n/\i= Ud k/\bv (Z k=true)/\Below F.1.size F wr) (λi _=>n-(intOf i).toNat);exact⟨0,by omega,rfl,c2,aZ⟩;obtain⟨k,d5,rfl,a4,h⟩:=hrel;obtain⟨⟨e9,f0,f1⟩,e5,a8⟩:=b2.o wr h;by_cases b6:k<n
 ·obtain⟨x,a0⟩:=aE (l:=A) (n:=k) (by rw[Q.o.1];exact b6);obtain⟨c4,e7,rfl,d3,W⟩:=Q.o.2 k x a0;by_cases d6:k=0
  ·subst d6;obtain⟨D,a1,E⟩:=x;obtain⟨a5,a6,a7⟩:=W wr h;simp only[Nat.zero_mul,ea] at a5 a6 a7;go_wp2;go_quiet(fail);go_wp2;go_roundw;exact⟨0+1,by omega,by go_num,aa c3.o,aA (h.alloc h.size _) _⟩;simp[intOf]<;>omega
  ·obtain⟨j,rfl⟩:∃j,k=j+1:=⟨k-1,by omega⟩;obtain⟨y,b1⟩:=aE (l:=A) (n:=j) (by rw[Q.o.1];omega);obtain⟨e0,e8,a9,_,b5⟩:=Q.o.2 j y b1;injection a9 with a9
   injection a9 with he1 he2
   subst he1 he2;have b8:jn A (j+1)= !wY y x:=by
    unfold jn;rw[eG,jg b1,jg a0];rfl
   obtain⟨f,t,l⟩:=y;obtain⟨D,a1,E⟩:=x;obtain⟨c5,c6,c7⟩:=b5 wr h;obtain⟨a5,a6,a7⟩:=W wr h;have e2:(j:Int)+1<(n:Int):=(by omega);have e3:(j:Int)<(n:Int):=(by omega);simp only[] at c5 c6 c7 a5 a6 a7;have I:jn A (j+1)= !((D==f)&&(E==l)):=by
    rw[b8];unfold wY;simp only[];by_cases c9:D=f<;>by_cases d0:E=l<;>simp[c9,d0]
   obtain⟨b9,b0⟩:=aB ((D==f));obtain⟨c0,Y⟩:=aB ((E==l));rw[<-b0,<-Y] at I;replace b0:(f==D)=b9:=by rw[b0];exact bF.2 (by simp only[beq_iff_eq];exact eq_comm)
   replace Y:(l==E)=c0:=by rw[Y];exact bF.2 (by simp only[beq_iff_eq];exact eq_comm)
   obtain⟨d9,d2⟩:=aB (wr.alloc (.cells #[Ud D,Ud a1,Ud E] 90));have b4:Below F.1.size F (wr.alloc (.cells #[Ud D,Ud a1,Ud E] 90)):=h.alloc h.size _;have d4:Below w.1.size w (wr.alloc (.cells #[Ud D,Ud a1,Ud E] 90)):=a8.alloc (by have:=a8.size;omega) _;have e1:c4<wr.1.size:=aH d3 h.size;cases b9
   ·have a2:=aa (show Z (j+1+1)=true by rw[a3.o,I,a4.o];rfl);go_wp2;go_quiet(fail);go_wp2;go_roundw;exact⟨j+1+1,by omega,by go_num,a2,aA b4 _⟩;simp[intOf]<;>omega
   ·cases c0
    ·have a2:=aa (show Z (j+1+1)=true by rw[a3.o,I,a4.o];rfl);go_wp2;go_quiet(fail);go_wp2;go_roundw;exact⟨j+1+1,by omega,by go_num,a2,aA b4 _⟩;simp[intOf]<;>omega
    ·have c1:=aa (b3.o (j+1) b6 (by rw[I];rfl));go_wp2;go_quiet(fail);go_wp2;go_ret;exact⟨aG c1.o.symm,aA d4 _⟩
 ·obtain rfl:k=n:=by omega
  go_wp2;go_ret;exact⟨aG a4.o.symm,a8⟩
theorem yG(L S Q J)(a)(n c)(A)(w)(e6:aO w a (n*3) (bC A))(g9:IntKind.i64.wrap (L-1)=Q)(h0:IntKind.i64.wrap (S-1)=J)(h6:n<=1048576):
 Calls prog 26 #[.agg #[Ud L,Ud S,.slice a n c]] w λe w'=>e= .returned (.bool (gS (Q+1) (J+1) A n&&jZ L 1 3&&jZ S 1 12))/\Below w.1.size w w':=by
 have c4:=aa (λ(V:World) (Y:Below (w.1.size+1) (w.alloc (.cells #[Ud L,Ud S,.slice a n c] 35)) V)=>dT Y);obtain⟨a9,b3⟩:=aB (w.alloc (.cells #[Ud L,Ud S,.slice a n c] 35));have c0:Below w.1.size w a9:=by rw[b3];exact aZ.alloc aQ _
 have g1:a9.1.size=w.1.size+1:=by rw[b3];simp
 rw[<-b3,<-g1] at c4;have b7:=aa (wy e6 c0);have c2:=aa c0;have c5:=aa (λw=>eB L 1 3 w);have e2:=aa (λw=>eB S 1 12 w);have a8:=aa (λ(k:Nat) (f9:k<n) (h:ij (Q+1) (J+1) A k=false)=>show(gS (Q+1) (J+1) A n&&jZ L 1 3&&jZ S 1 12)=false from by
  have:=sL h (n-(k+1));rw[show k+1+(n-(k+1))=n by omega] at this;rw[this];rfl)
 have c7:=aa (λ(k:Nat)=>show gS (Q+1) (J+1) A (k+1)=(gS (Q+1) (J+1) A k&&ij (Q+1) (J+1) A k) from rfl);obtain⟨b9,c1⟩:=aB (α:=Nat->Bool) (gS (Q+1) (J+1) A);rw[<-c1] at a8 c7;rw[<-c1];have f6:=aa (show b9 0=true by rw[c1];rfl);have d5:w.1.size<=a9.1.size:=c0.size;obtain⟨f7,c8⟩:=aB (jZ L 1 3);obtain⟨f8,c9⟩:=aB (jZ S 1 12);rw[<-c8] at c5 a8;rw[<-c9] at e2 a8;rw[<-c8,<-c9];clear e6 c0 c1 c8 c9;go_enter func26,ntmps26;go_wp2;rw[<-b3];clear b3;go_loopw[3] (λi wr=>∃k:Nat,k<=n/\i= Ud k/\bv (b9 k=true)/\Below a9.1.size a9 wr) (λi _=>n-(intOf i).toNat);exact⟨0,by omega,rfl,f6,aZ⟩;obtain⟨k,f9,rfl,b8,a0⟩:=hrel;obtain⟨⟨f2,f3,f4⟩,h9,_⟩:=c4.o wr a0;by_cases b6:k<n
 ·obtain⟨x,d3⟩:=aE (l:=A) (n:=k) (by rw[b7.o.1];exact b6);obtain⟨U,W,rfl,h1,e5⟩:=b7.o.2 k x d3;have f1:=jg d3;obtain⟨D,F,E⟩:=x;obtain⟨a1,a2,a3⟩:=e5 wr a0;have h5:(k:Int)<(n:Int):=(by omega);have a4:=aa (λw=>eB D 0 J w);have a5:=aa (λw=>eB F 0 J w);have a6:=aa (λw=>eB E 0 Q w);have I:ij (Q+1) (J+1) A k=(jZ D 0 J&&jZ F 0 J&&jZ E 0 Q&&(k==0||wt (qg A (k-1)) (D,F,E))):=by
   unfold ij sM;rw[f1,AC,AC,AC]
  obtain⟨u1,e7⟩:=aB (jZ D 0 J);obtain⟨u2,e8⟩:=aB (jZ F 0 J);obtain⟨u3,e9⟩:=aB (jZ E 0 Q);rw[<-e7] at a4 I;rw[<-e8] at a5 I;rw[<-e9] at a6 I;clear e7 e8 e9 d3 f1 e5;have b5:Below w.1.size w (wr.alloc (.cells #[Ud D,Ud F,Ud E] 90)):=c2.o.trans ((a0.alloc a0.size _).mono d5);cases u1
  ·have a7:=aa (a8.o k b6 (by rw[I];rfl));clear I;simp only[] at a1 a2 a3;go_wp2;go_quiet((first|(go_at_call_of 96 D;exact aF ((a4.o _).mono (λe w' h=>⟨h.1,h.2.symm⟩)))|(go_at_call_of 96 F;exact aF ((a5.o _).mono (λe w' h=>⟨h.1,h.2.symm⟩)))|(go_at_call_of 96 E;exact aF ((a6.o _).mono (λe w' h=>⟨h.1,h.2.symm⟩)))));go_wp2;go_ret;exact⟨aG a7.o.symm,aA b5 _⟩
  cases u2
  ·have a7:=aa (a8.o k b6 (by rw[I];rfl));clear I;simp only[] at a1 a2 a3;go_wp2;go_quiet((first|(go_at_call_of 96 D;exact aF ((a4.o _).mono (λe w' h=>⟨h.1,h.2.symm⟩)))|(go_at_call_of 96 F;exact aF ((a5.o _).mono (λe w' h=>⟨h.1,h.2.symm⟩)))|(go_at_call_of 96 E;exact aF ((a6.o _).mono (λe w' h=>⟨h.1,h.2.symm⟩)))));go_wp2;go_ret;exact⟨aG a7.o.symm,aA b5 _⟩
  cases u3
  ·have a7:=aa (a8.o k b6 (by rw[I];rfl));clear I;simp only[] at a1 a2 a3;go_wp2;go_quiet((first|(go_at_call_of 96 D;exact aF ((a4.o _).mono (λe w' h=>⟨h.1,h.2.symm⟩)))|(go_at_call_of 96 F;exact aF ((a5.o _).mono (λe w' h=>⟨h.1,h.2.symm⟩)))|(go_at_call_of 96 E;exact aF ((a6.o _).mono (λe w' h=>⟨h.1,h.2.symm⟩)))));go_wp2;go_ret;exact⟨aG a7.o.symm,aA b5 _⟩
  by_cases g0:k=0
  ·subst g0;have c6:=aa (show b9 (0+1)=true by rw[c7.o,I,b8.o];rfl);simp only[Nat.zero_mul,ea] at a1 a2 a3;clear I;go_wp2;go_quiet((first|(go_at_call_of 96 D;exact aF ((a4.o _).mono (λe w' h=>⟨h.1,h.2.symm⟩)))|(go_at_call_of 96 F;exact aF ((a5.o _).mono (λe w' h=>⟨h.1,h.2.symm⟩)))|(go_at_call_of 96 E;exact aF ((a6.o _).mono (λe w' h=>⟨h.1,h.2.symm⟩)))));go_wp2;go_roundw;exact⟨0+1,by omega,by go_num,c6,aA (a0.alloc a0.size _) _⟩;simp[intOf]<;>omega
  ·obtain⟨j,rfl⟩:∃j,k=j+1:=⟨k-1,by omega⟩;obtain⟨y,d4⟩:=aE (l:=A) (n:=j) (by rw[b7.o.1];omega);obtain⟨g8,i0,d2,_,d1⟩:=b7.o.2 j y d4;injection d2 with d2
   injection d2 with he1 he2
   subst he1 he2;rw[eG,jg d4] at I;have c3:=aa (λV=>yj y (D,F,E) V);obtain⟨f,t,l⟩:=y;obtain⟨u4,f0⟩:=aB (wt (f,t,l) (D,F,E));rw[<-f0] at c3 I;clear d4 f0;obtain⟨O,b4⟩:=aB (wr.alloc (.cells #[Ud D,Ud F,Ud E] 90));have b2:Below a9.1.size a9 O:=by rw[b4];exact a0.alloc a0.size _
   have f5:=aa (λ(V:World) (Y:Below O.1.size O V)=>show V.cell? ⟨wr.1.size,0,none⟩=some (Ud D)/\V.cell? ⟨wr.1.size,1,none⟩=some (Ud F)/\V.cell? ⟨wr.1.size,2,none⟩=some (Ud E) from by
    rw[b4] at Y;obtain⟨⟨d6,_⟩,⟨d7,_⟩,d8,_⟩:(V.cell? ⟨wr.1.size,0,none⟩=_/\_)/\(V.cell? ⟨wr.1.size,1,none⟩=_/\_)/\(V.cell? ⟨wr.1.size,2,none⟩=_/\_):=⟨cV (by simpa using Y) 0,cV (by simpa using Y) 1,cV (by simpa using Y) 2⟩;exact⟨d6,d7,d8⟩)
   have e3:=aa b4;have b1:Below w.1.size w O:=c2.o.trans (b2.mono d5);have e1:=aa (λ(V:World) (Y:Below O.1.size O V)=>
    show V.cell? ⟨w.1.size,0,none⟩=some (Ud L)/\V.cell? ⟨w.1.size,1,none⟩=some (Ud S)/\V.cell? ⟨w.1.size,2,none⟩=some (.slice (some ⟨U,W,none⟩) n c)/\V.cell? ⟨wr.1.size,0,none⟩=some (Ud D)/\V.cell? ⟨wr.1.size,1,none⟩=some (Ud F)/\V.cell? ⟨wr.1.size,2,none⟩=some (Ud E)/\V.cell? ⟨U,W+j*3,none⟩=some (Ud f)/\V.cell? ⟨U,W+j*3+1,none⟩=some (Ud t)/\V.cell? ⟨U,W+j*3+2,none⟩=some (Ud l)/\Below O.1.size O V from by
     have e4:=b2.trans (Y.mono b2.size);obtain⟨g2,g3,g4⟩:=(c4.o V e4).1;obtain⟨g5,g6,g7⟩:=d1 V e4;obtain⟨d6,d7,d8⟩:=f5.o V Y;exact⟨g2,g3,g4,d6,d7,d8,g5,g6,g7,Y⟩)
   have Z:Below O.1.size O O.drew:=aZ.drew;have h3:(j:Int)+1<(n:Int):=(by omega);have h4:(j:Int)<(n:Int):=(by omega);have h7:IntKind.i64.wrap ((j:Int)+1-1)=(j:Int):=by rw[show(j:Int)+1-1=(j:Int) by omega];exact au _ (by omega)
   have h8:IntKind.i64.wrap (j:Int)=(j:Int):=au _ (by omega);have h2:(0:Int)<(j:Int)+1:=(by omega);have e0:=aa b2;have d9:=aa b1;cases u4
   ·have a7:=aa (a8.o (j+1) b6 (by rw[I];rfl));clear I b4 b2 b1 d1 b5;simp only[] at a1 a2 a3;go_wp2;rw[<-e3.o];clear f2 f3 f4 a1 a2 a3;go_region_held3(λV=>V.cell? ⟨w.1.size,0,none⟩=some (Ud L)/\V.cell? ⟨w.1.size,1,none⟩=some (Ud S)/\V.cell? ⟨w.1.size,2,none⟩=some (.slice (some ⟨U,W,none⟩) n c)/\V.cell? ⟨wr.1.size,0,none⟩=some (Ud D)/\V.cell? ⟨wr.1.size,1,none⟩=some (Ud F)/\V.cell? ⟨wr.1.size,2,none⟩=some (Ud E)/\V.cell? ⟨U,W+j*3,none⟩=some (Ud f)/\V.cell? ⟨U,W+j*3+1,none⟩=some (Ud t)/\V.cell? ⟨U,W+j*3+2,none⟩=some (Ud l)/\Below O.1.size O V)
     (first|with_reducible exact e1.o _ Z)
     (first|(go_at_call_of 96 D;refine(a4.o _).mono ?_;rintro e b0 ⟨rfl,rfl⟩)|(go_at_call_of 96 F;refine(a5.o _).mono ?_;rintro e b0 ⟨rfl,rfl⟩)|(go_at_call_of 96 E;refine(a6.o _).mono ?_;rintro e b0 ⟨rfl,rfl⟩)|(go_at_call 98;refine(c3.o _).mono ?_;rintro e b0 ⟨rfl,d0⟩;have Z:=Z.trans (d0.mono Z.size)))
    all_goals
     go_wp2
     go_ret
     exact⟨aG a7.o.symm,d9.o.trans (Z.mono d9.o.size)⟩
   ·have c6:=aa (show b9 (j+1+1)=true by rw[c7.o,I,b8.o];simp);clear I b4 b2 b1 d1 b5;simp only[] at a1 a2 a3;go_wp2;rw[<-e3.o];clear f2 f3 f4 a1 a2 a3;go_region_held3(λV=>V.cell? ⟨w.1.size,0,none⟩=some (Ud L)/\V.cell? ⟨w.1.size,1,none⟩=some (Ud S)/\V.cell? ⟨w.1.size,2,none⟩=some (.slice (some ⟨U,W,none⟩) n c)/\V.cell? ⟨wr.1.size,0,none⟩=some (Ud D)/\V.cell? ⟨wr.1.size,1,none⟩=some (Ud F)/\V.cell? ⟨wr.1.size,2,none⟩=some (Ud E)/\V.cell? ⟨U,W+j*3,none⟩=some (Ud f)/\V.cell? ⟨U,W+j*3+1,none⟩=some (Ud t)/\V.cell? ⟨U,W+j*3+2,none⟩=some (Ud l)/\Below O.1.size O V)
     (first|with_reducible exact e1.o _ Z)
     (first|(go_at_call_of 96 D;refine(a4.o _).mono ?_;rintro e b0 ⟨rfl,rfl⟩)|(go_at_call_of 96 F;refine(a5.o _).mono ?_;rintro e b0 ⟨rfl,rfl⟩)|(go_at_call_of 96 E;refine(a6.o _).mono ?_;rintro e b0 ⟨rfl,rfl⟩)|(go_at_call 98;refine(c3.o _).mono ?_;rintro e b0 ⟨rfl,d0⟩;have Z:=Z.trans (d0.mono Z.size)))
    all_goals
     go_wp2
     go_roundw
     exact⟨j+1+1,by omega,by go_num,c6,e0.o.trans (Z.mono e0.o.size)⟩
     simp[intOf]<;>omega
 ·obtain rfl:k=n:=by omega
  have b1:=c2.o.trans (a0.mono d5);cases f7
  ·go_wp2_with(first|(go_at_call_of 96 L;refine(c5.o _).mono ?_;rintro e w' ⟨rfl,rfl⟩));go_ret;exact⟨aG (by rw[b8.o];rfl),b1⟩
  ·go_wp2_with(first|(go_at_call_of 96 L;refine(c5.o _).mono ?_;rintro e w' ⟨rfl,rfl⟩)|(go_at_call_of 96 S;refine(e2.o _).mono ?_;rintro e w' ⟨rfl,rfl⟩));go_ret;exact⟨aG (by rw[b8.o];cases f8<;>rfl),b1⟩
end Go.Proofs.YtbdlbckeffakjaaGreatDoor
