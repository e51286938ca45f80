/- The cursor that draws, as it lies in memory; what it draws. Conditions: the bytes lie in memory. -/
import Derived.Test.YtbdlbckeffakjaaGreatDoorUndo
namespace Go.Proofs.YtbdlbckeffakjaaGreatDoor
set_option maxHeartbeats 8000000
set_option maxRecDepth 100000
open Go.RowKit Go.Proofs.Tryz
theorem xZ{st:Nat->Nat->Nat}{p:Nat×List UInt8}{xs ys:List (Nat×List UInt8)}{r:List UInt8}{a:Nat}(h:iC st p xs a=(some r,ys)):∀j,iC st p xs (a+j)=(some r,ys)
 |0=>h
 |j+1=>by
  show iC st p xs ((a+j)+1)=_
  rw[iC,xZ h j]
theorem xW{st}{K full k}{ys}{p}(h:ff st K full k=(none,ys))(D:ys[k]? =some p):ff st K full (k+1)=iC st p ys K:=by
 rw[ff,h];simp only[D]
theorem xX{st:Nat->Nat->Nat}{K full k:Nat}{ys:List (Nat×List UInt8)}{r:List UInt8}(h:ff st K full k=(some r,ys)):∀j,ff st K full (k+j)=(some r,ys)
 |0=>h
 |j+1=>by
  show ff st K full ((k+j)+1)=_
  rw[ff,xX h j]
theorem xV{st:Nat->Nat->Nat}{K full k:Nat}{ys:List (Nat×List UInt8)}(h:ff st K full k=(none,ys))(D:ys.length<=k):∀j,ff st K full (k+j)=(none,ys)
 |0=>h
 |j+1=>by
  show ff st K full ((k+j)+1)=_
  rw[ff,xV h D j];simp only[aU (show ys.length<=k+j by omega)]
def jI(st:Nat->Nat->Nat)(K full:Nat):Option (List UInt8):=(ff st K full 600).1
theorem Eh{st}{K full k}{ys}{r}(h:ff st K full k=(some r,ys))(D:k<=600):jI st K full=some r:=by
 have:=xX h (600-k);rw[show k+(600-k)=600 by omega] at this;unfold jI;rw[this]
theorem vl{st}{K full k}{ys}(h:ff st K full k=(none,ys))(D:ys.length<=k)(E:k<=600):jI st K full=none:=by
 have:=xV h D (600-k);rw[show k+(600-k)=600 by omega] at this;unfold jI;rw[this]
theorem qq{st}{K full N}{ys}(h:Fg st K full ys)(F:full<N)(D:∀s a,st s a<N):ys.length<=N:=by
 have E:∀x∈ys.map (·.1),x∈List.range N:=λx J=>by
  obtain⟨p,I,rfl⟩:=bi.1 J;rw[aD];have:=(h.reach p I).1;rw[<-this];unfold rU;have O:∀(w:List UInt8) (s:Nat),s<N->w.foldl (λs c=>st s (c.toNat-97)) s<N:=λw=>by
   induction w with
   |nil=>intro s D;exact D
   |cons c w ih=>intro s _;exact ih _ (D _ _)
  exact O _ _ F
 have:=pK _ _ h.new E;simpa using this
def Qv(ys:List (Nat×List UInt8)):Prop:=∀p∈ys,p.2.length<ys.length
theorem rG{st:Nat->Nat->Nat}{p:Nat×List UInt8}{xs:List (Nat×List UInt8)}(h:Qv xs)(F:p∈xs):∀a,Qv (iC st p xs a).2/\xs.length<=(iC st p xs a).2.length
 |0=>⟨h,aN _⟩
 |a+1=>by
  have E:=rG (st:=st) h F a;unfold iC;cases hs:iC st p xs a with
  |mk f ys=>
   rw[hs] at E;cases f with
   |some r=>exact E
   |none=>
    obtain⟨I,J⟩:Qv ys/\xs.length<=ys.length:=E;have E:Qv ys/\xs.length<=ys.length:=⟨I,J⟩;simp only;split
    ·exact E
    ·split
     ·exact E
     ·refine⟨λq D=> ?_,?_⟩
      ·rcases cH.1 D with D|D
       ·have:=I q D;show _<(ys++_).length
        rw[az];omega
       ·simp at D;subst D;have O:=h p F;show(p.2++[dO a]).length<(ys++_).length
        simp;omega
      ·show xs.length<=(ys++_).length
       simp;omega
theorem xY{st:Nat->Nat->Nat}{K full:Nat}:∀k,Qv (ff st K full k).2
 |0=>λp D=>by
  simp[ff] at D;subst D;simp[ff]
 |k+1=>by
  have h:=xY (st:=st) (K:=K) (full:=full) k;unfold ff;cases hs:ff st K full k with
  |mk f ys=>
   rw[hs] at h;cases f with
   |some r=>exact h
   |none=>
    simp only;cases hg:ys[k]? with
    |none=>exact h
    |some p=>exact(rG h (aj hg) K).1
structure At (st : Nat → Nat → Nat) (K full k : Nat) (p : Nat × List UInt8) (xs : List (Nat × List UInt8)) (a : Nat) (ys : List (Nat × List UInt8)) : Prop where
  to_ : ff st K full k = (none, xs)
  get : xs[k]? = some p
  now : iC st p xs a = (none, ys)
theorem At.facts{st}{K full k N a}{p}{xs ys}(h:At st K full k p xs a ys)(O:K<=3)(a1:full≠0)(Z:a<=K)(Q:full<N)(E:∀s a,st s a<N):
 ys.length<=N/\k<ys.length/\ys[k]? =some p/\p.2.length<ys.length/\p.1<N/\(ys.map (·.1)).Nodup:=by
 have I:=pl (st:=st) O a1 k;rw[h.to_] at I;obtain⟨Y,_⟩:=I;have J:=wQ O Y (aj h.get) a Z;rw[h.now] at J;obtain⟨F,⟨zs,a4⟩,_⟩:=J;have a2:k<xs.length:=(aw.1 h.get).1;have U:=xY (st:=st) (K:=K) (full:=full) k;rw[h.to_] at U;have W:=rG (st:=st) U (aj h.get) a;rw[h.now] at W;have D:ys[k]? =some p:=by rw[a4,aR a2];exact h.get
 have a0:=qq F Q E;refine⟨a0,(aw.1 D).1,D,W.1 p (aj D),?_,F.new⟩;have a3:=(F.reach p (aj D)).1;rw[<-a3];have a5:∀(w:List UInt8) (s:Nat),s<N->w.foldl (λs c=>st s (c.toNat-97)) s<N:=λw=>by
  induction w with
  |nil=>intro s E;exact E
  |cons c w ih=>intro s _;exact ih _ (E _ _)
 exact a5 _ _ Q
theorem At.found{st}{K full k a}{p}{xs ys}(h:At st K full k p xs a ys)(I:a<K)(J:k<600)(E:st p.1 a=0):jI st K full=some (p.2++[dO a]):=by
 have F:iC st p xs (a+1)=(some (p.2++[dO a]),ys):=by rw[iC,h.now];simp only[E,if_true]
 have D:=xZ F (K-(a+1));rw[show a+1+(K-(a+1))=K by omega] at D;exact Eh ((xW h.to_ h.get).trans D) (by omega)
theorem At.old{st}{K full k a}{p}{xs ys}(h:At st K full k p xs a ys)(D:st p.1 a≠0)(E:st p.1 a∈ys.map (·.1)):At st K full k p xs (a+1) ys:=
 ⟨h.to_,h.get,by rw[iC,h.now];simp only[if_neg D,if_pos E]⟩
theorem At.fresh{st}{K full k a}{p}{xs ys}(h:At st K full k p xs a ys)(D:st p.1 a≠0)(E:st p.1 a∉ys.map (·.1)):At st K full k p xs (a+1) (ys++[(st p.1 a,p.2++[dO a])]):=
 ⟨h.to_,h.get,by rw[iC,h.now];simp only[if_neg D,if_neg E]⟩
theorem At.next{st}{K full k}{p}{xs ys}(h:At st K full k p xs K ys):ff st K full (k+1)=(none,ys):=(xW h.to_ h.get).trans h.now
theorem At.start{st}{K full k}{xs}(h:ff st K full k=(none,xs))(D:k<xs.length):∃p,At st K full k p xs 0 xs:=⟨xs[k],h,by simp[D],rfl⟩
def zQ(ys:List (Nat×List UInt8)):List Value:=af (ys.map λp=>(p.1:Int))
def gQ(l:List UInt8):ByteArray:=⟨l.toArray⟩
theorem ku(l):(gQ l).size=l.length:=by simp[gQ,ByteArray.size]
theorem qm(l)(c):gQ l++⟨#[c]⟩=gQ (l++[c]):=by
 unfold gQ;rw[show(ByteArray.mk #[c])=⟨[c].toArray⟩ from rfl,lH];first|done|simp
def un(ys:List (Nat×List UInt8)):List Value:=ap (ys.map λp=>gQ p.2)
theorem CG{ys}{k:Nat}{p}(h:ys[k]? =some p):(zQ ys)[k]? =some (Ud p.1):=by simp[zQ,af,h]
theorem Iz{ys}{k:Nat}{p}(h:ys[k]? =some p):(un ys)[k]? =some (.string (gQ p.2)):=by simp[un,ap,h]
theorem IK(ys)(p):zQ (ys++[p])=zQ ys++[Ud p.1]:=by simp[zQ,af]
theorem FB(ys)(p):un (ys++[p])=un ys++[.string (gQ p.2)]:=by simp[un,ap]
theorem oI{w}{base e s}{a}{n c}{xs}(h:w.ownsRow base e s (.slice a n c) n xs)(J:n*s<=140737488351232):aO w a (n*s) xs:=by
 have I:=h.1;rcases h.2 with⟨E,Q⟩|⟨g,cap,O,E,W,F,a1,Y,Z,U⟩
 ·refine⟨by simpa using I,J,λh=>by subst Q;simp at h⟩
 ·simp only[aJ,true_and] at E;obtain⟨rfl,rfl⟩:=E;refine⟨by simpa using I,J,λa0=>⟨g,0,rfl,(bD.1 F).1,λk x D=> ?_⟩⟩;rw[cell_of_row w g (0+k) O e (0,0) F];rw[<-U,cP] at D;split at D
  ·simpa using D
  ·cases D
theorem Mf{H}{P}{e}(D:P.underlying e=some .bool){v}{z:DataW H×List MemPlace}(h:plainElem P e v=some z):∃x,v= .bool x/\z=(.lit (.bool x),[]):=by
 unfold plainElem at h;rw[D] at h;cases v<;>simp at h;subst h;exact⟨_,rfl,rfl⟩
def vx(xs:List Nat):DataW Unit:=xs.foldl (λ(D:DataW Unit) (s:Nat)=>D.put (.int .i64 (s:Int)) (.lit (.bool true))) (.map [])
theorem pv(xs)(s:Nat):vx (xs++[s])=(vx xs).put (.int .i64 (s:Int)) (.lit (.bool true)):=by simp[vx,jt]
theorem IM(xs):Maps.IsMap (vx xs):=by
 refine pt (P:=λxs=>Maps.IsMap (vx xs)) ⟨[],rfl⟩ ?_ xs;intro l c h;rw[pv];exact h.put _ _
theorem Js(x):WideAt.IsKeyLit (.int .i64 x):=trivial
theorem QM(xs)(s:Nat):(vx xs).atKey (.int .i64 (s:Int)) (.lit (.bool false))= .lit (.bool (decide (s∈xs))):=by
 refine pt (P:=λxs=>(vx xs).atKey (.int .i64 (s:Int)) (.lit (.bool false))= .lit (.bool (decide (s∈xs)))) ?_ ?_ xs
 ·simp[vx,DataW.atKey]
 ·intro l c h;rw[pv];by_cases e:c=s
  ·subst e;rw[Maps.atKey_put_same (IM l) (Js _)];simp
  ·rw[Maps.atKey_put_other (by intro D;injection D with _ D;omega),h];simp[show¬s=c fromλh=>e h.symm]
theorem GJ{P}{w}{t k e}(K:Maps.Keyed P k)(J:P.underlying k=some (.int .i64))(Q:P.underlying t=some (.map k e))(E:P.underlying e=some .bool)(U:(zeroValue e).run P w= .ok (.bool false) w){b n}{xs}(h:w.ownsMap P k (plainElem P e) b n (vx xs)){s:Nat}(O:s<=1000000):
 (Instr.lookup t (.map (some b)) (Ud (s:Int)) false).run P w= .ok (.bool (decide (s∈xs))) w:=by
 obtain⟨v,W,F,I⟩:=h.lookup K Q U (plainElem_bool E false) (Maps.keyOf_int_mk J (ka s O));obtain⟨x,rfl,D⟩:=Mf E I;simp only[Prod.mk.injEq] at D;rw[QM] at D;obtain⟨D,_⟩:=D;injection D with D
 injection D with D
 rw[F,D]
theorem vc{H}{P}(w){F}{I}{o}{a}{Q}
 (W:o.guard=none)(m x v)(t)(a1:o.op=Op.insert t m x v)
 (k e)(K:Maps.Keyed P k)(a4:P.underlying t=some (.map k e))(R)(b n)(D:DataW H)
 (Z:a.eval m= .map (some b))(a2:w.ownsMap P k R b n D)(a0:n<maxLen)(h J)(E)(a7:a.eval x=h)(a5:a.eval v=J)(Y:keyOf P k h=some E)
 (d:DataW H)(a8)(a6:R J=some (d,a8))
 (O:∀w',w'.ownsMap P k R b (n+1) (D.put E d)->w.grownBy w' (some b)->wpList P F Q I (a.put o.dst undef) w'):
 wpList P F Q (o::I) a w:=by
 refine wpList_plain W λb1 U=> ?_
 obtain⟨w',a3,a9,b0⟩:=a2.update K a4 a0 Y a6;unfold Oper.wp;simp[execOp,a1,Z,a7,a5,a3,Result.andThen];exact U _ _ (O w' a9 b0)
def mT(ys:List (Nat×List UInt8)):List Value:=ys.flatMap λp=>[Ud (p.1:Int),.string (gQ p.2)]
theorem Gp(ys)(p):mT (ys++[p])=mT ys++[Ud (p.1:Int),.string (gQ p.2)]:=by simp[mT]
theorem uI{p:Nat×List UInt8}:∀{ys:List (Nat×List UInt8)} {k:Nat},ys[k]? =some p->(mT ys)[k*2]? =some (Ud (p.1:Int))/\(mT ys)[k*2+1]? =some (.string (gQ p.2))
 |[],k,h=>by simp at h
 |q::ys,0,h=>by
  simp at h;subst h;exact⟨rfl,rfl⟩
 |q::ys,k+1,h=>by
  have D:=uI (ys:=ys) (k:=k) (by simpa using h);have e:mT (q::ys)= Ud (q.1:Int):: .string (gQ q.2)::mT ys:=by simp[mT]
  rw[e,show(k+1)*2=k*2+1+1 by omega];exact⟨D.1,D.2⟩
theorem DZ{P}{wr:World}{F}{I}{o}{a}{Q}
 (a0:o.guard=none)(s x)(t)(a5:o.op=Op.call {callee:=Callee.builtin Builtin.append,args:=#[s,x],argTypes:=#[t,t]})
 (B)(e)(D)(W:P.underlying t=some (.slice e))(a2:(P.info? e).map (λi=>(i.zero,i.size,i.bytes))=some (some (.agg #[Ud 0,.string ⟨#[]⟩]),2,D))
 (v)(m)(ys)(p)(J O)(b0:J= Ud (p.1:Int))(b1:O= .string (gQ p.2))(a6:wr.ownsRow B e 2 v m (mT ys))(a8:a.eval s=v)(a9:a.eval x= .slice (some ⟨wr.1.size,0,none⟩) 1 1)
 (a4:(m+1)*D<=140737488355328)(b6:(m+1)*2<=maxLen)(b5:B<=wr.1.size)
 (Y:∀v' h,h.ownsRow B e 2 v' (m+1) (mT (ys++[p]))->wr.grownBy h v.ownBlock->wpList P F Q I (a.put o.dst v') h):
 wpList P F Q (o::I) a (wr.alloc (.cells #[J,O] e)):=by
 subst b0;subst b1;obtain⟨i,hi,b2,b3,b4⟩:=info_parts a2;refine wpList_append_own _ a0 s x t a5 B e i _ 2 D W hi b2 b3 b4 rfl (by decide) v m (mT ys) a8 (a6.alloc _) ⟨wr.1.size,0,none⟩ 1 1 [Ud (p.1:Int),.string (gQ p.2)] a9 rfl ?_ (by intro u E;simp at E;rcases E with rfl|rfl<;>rfl) (by omega) a4 (by simp;omega) ?_
 ·intro j y a3;have Z:(⟨wr.1.size,0,none⟩:Addr).add j=⟨wr.1.size,j,none⟩:=by
   unfold Addr.add;split
   ·rename_i U;subst U;rfl
   ·simp
  rw[Z,aL _ _ _ _ rfl];rw[<-a3];simp
 ·intro v' h a7 a1 _;exact Y v' h (by rw[Gp];exact a7) (dd (cC _ _ _) a1)
theorem tB{w w':World}{P}{k}{R}{b n}{D:DataW Unit}{row}(h:w.ownsMap P k R b n D)(O:w.grownBy w' row)(Q:some b≠row):w'.ownsMap P k R b n D:=by
 obtain⟨I,F,E,J⟩:=h;exact⟨I,F,by rw[O.block b (bD.1 E).1 Q];exact E,J⟩
theorem Ic:∀i,i<9->∀n:Nat,n<512->bits BinOp.and IntKind.i64 ((n:Int)/2^i) 1=((n/2^i%2:Nat):Int):=by decide+kernel
theorem Lb:∀i,i<9->∀n:Nat,n<512->bits BinOp.or IntKind.i64 (n:Int) (wrap64 (2^i))=((n|||2^i:Nat):Int):=by decide+kernel
theorem Aq{c}{a}(h:c.toNat=97+a):c=dO a:=by
 apply dz.1;have:=UInt8.toNat_lt c;unfold dO;rw[gJ];omega
theorem La(s v):s/2^v%2=0\/s/2^v%2=1:=by omega
theorem vk{o:ByteArray}{L n a s v acc:Nat}(h:s/2^v%2=0):∀x,CB o L n a s v x acc=acc
 |0=>rfl
 |x+1=>by
  unfold CB;rw[if_neg (by unfold Ld;rw[h];simp),vk h x]
theorem FS{o}{L n a s v acc x}(h:s/2^v%2=1):CB o L n a s v (x+1) acc=if ef o (v*L+x)=dO a then CB o L n a s v x acc|||2^((v*L+x)%n) else CB o L n a s v x acc:=by
 have e:Ld s v=true:=by unfold Ld;rw[h];rfl
 rw[CB,e,dK];by_cases D:ef o (v*L+x)=dO a
 ·rw[if_pos D,if_pos (decide_eq_true D)]
 ·rw[if_neg D,if_neg (by rw[decide_eq_false D];simp)]
theorem KF{k v x P S:Nat}(h:P=S*k)(D:v<S)(E:x<k):v*k+x<P:=by
 have:=eK k (show v+1<=S by omega);rw[ik] at this;omega
theorem zK(k n)(o)(s a:Nat)(w)(b5:k=2\/k=3)(b9:1<=n)(c1:n<=4)(S)(a2:S=eC k (n-1))(a3:S<=9)(c8:1<=S)(a7:o.size=S*k)(c2:s<512)(d0:a<3):
 Calls prog 230 #[.agg #[Ud k,Ud n,.string o],Ud s,.int .u8 (97+a)] w λe w'=>e= .returned (Ud (tW o k S s a))/\Below w.1.size w w':=by
 have a5:k<=3:=(by omega);have I:=aa (λw=>dw k (n-1) a5 (by omega) w);rw[<-a2] at I;have c0:((n:Int)-1)=((n-1:Nat):Int):=(by omega);obtain⟨c3,a6⟩:=aB (n-1);rw[<-a6] at I c0;have d4:c3<=3:=(by omega);have b2:=aa (show tW o k S s a=BH o k S a s S from rfl);have a9:=aa a7;have b1:=aa (λ(v x:Nat)=>show CB o k S a s v x (BH o k S a s v)<2^S from Ee (by omega) (Ef (by omega) v) x);have b0:=aa (bn (bG (n:=2) (by omega) a3) (show(2:Nat)^9<=512 by decide));have d1:0<k:=(by omega);have d6:o.size<=27:=by
  have:S*k<=9*3:=bX a3 a5;omega
 clear a2 a6 a7 b9 c1 b5;go_enter func230,ntmps230;go_wp2_with fail;refine(I.o _).mono ?_;rintro e e5 ⟨rfl,rfl⟩;go_wp2;go_loop[8,9] (λq i=>∃v:Nat,v<=S/\i= Ud v/\q= Ud (BH o k S a s v)) (λ_ i=>S-(intOf i).toNat);exact⟨0,by omega,rfl,rfl⟩;obtain⟨v,d8,rfl,rfl⟩:=hrel;by_cases b6:v<S
 ·have d9:(v:Int)<(S:Int):=by omega
  have a4:=Ic v (by omega) s c2;go_wp2;go_loop[8,10] (λq i=>∃x:Nat,x<=k/\i= Ud x/\q= Ud (CB o k S a s v x (BH o k S a s v))) (λ_ i=>k-(intOf i).toNat);exact⟨0,by omega,rfl,rfl⟩;obtain⟨x,e3,rfl,rfl⟩:=hrel;by_cases b7:x<k
  ·have e4:(x:Int)<(k:Int):=by omega
   rcases La s v with E|O
   ·rw[E] at a4;have a8:=aa (show CB o k S a s v x (BH o k S a s v)=BH o k S a s (v+1) by rw[vk E,BH,vk E]);clear E;go_wp2;go_round;exact⟨v+1,by omega,by go_num,by rw[a8.o]⟩;simp[intOf];omega
   ·rw[O] at a4;have h:=aa (FS (o:=o) (L:=k) (n:=S) (a:=a) (acc:=BH o k S a s v) (x:=x) O);clear O;have a0:=aa (aH (b1.o v x) b0.o);obtain⟨q,Z⟩:=aB (CB o k S a s v x (BH o k S a s v));rw[<-Z] at h a0;rw[<-Z];obtain⟨U,W⟩:=aB (v*k);have Q:=KF a9.o b6 b7;rw[<-W] at Q h;have c9:(v:Int)*(k:Int)=(U:Int):=by rw[W];simp
    obtain⟨A,a1⟩:=aB (U+x);rw[<-a1] at Q h;have c5:(U:Int)+(x:Int)=(A:Int):=(by omega);have c6:(A:Int)<(o.size:Int):=(by omega);have c4:(0:Int)<=(A:Int):=(by omega);have D:=aa (show ef o A=dO a↔o[A].toNat=97+a by
     rw[iI Q];constructor
     ·intro e;have:=fx (show a<100 by omega);rw[e];omega
     ·intro e;exact Aq e)
    obtain⟨R,F⟩:=aB (A%S);have d7:Int.tmod (A:Int) (S:Int)=(R:Int):=by rw[F];exact eg A S
    have c7:R<S:=by rw[F];exact dI _ (by omega)
    rw[<-F] at h;have d2:¬((S:Int)=0):=(by omega);have b8:¬(S=0):=(by omega);have d3:((S:Int)==0)=false:=by simpa using b8
    have e2:IntKind.i64.wrap (U:Int)=(U:Int):=au _ (by omega);have e0:IntKind.i64.wrap (A:Int)=(A:Int):=au _ (by omega);have e1:IntKind.i64.wrap (R:Int)=(R:Int):=au _ (by omega);have d5:=Lb R (by omega) q a0.o;clear W a1 F Z;by_cases Y:o[A].toNat=97+a
    ·have b4:((o[A].toNat:Int)==97+(a:Int))=true:=by simp[Y]
     have J:=aa (h.o.trans (if_pos (D.o.2 Y)));clear h D;go_wp2;go_round;exact⟨x+1,by omega,by go_num,by rw[J.o]⟩;simp[intOf];omega
    ·have b4:((o[A].toNat:Int)==97+(a:Int))=false:=by simp;omega
     have J:=aa (h.o.trans (if_neg λb3=>Y (D.o.1 b3)));clear h D;go_wp2;go_round;exact⟨x+1,by omega,by go_num,by rw[J.o]⟩;simp[intOf];omega
  ·obtain rfl:x=k:=by omega
   go_wp2;go_round;exact⟨v+1,by omega,by go_num,rfl⟩;simp[intOf];omega
 ·obtain rfl:v=S:=by omega
  go_wp2;go_ret;exact⟨cW (by rw[b2.o]),aZ.alloc aQ _⟩
def oJ(o:ByteArray)(k S:Nat):Value:=match jI (λs a=>tW o k S s a) k (2^S-1) with
 |some r=> .tuple #[.string (gQ r),.bool true]
 |none=> .tuple #[.string ⟨#[]⟩,.bool false]
theorem lV{o}{k S}{r}(h:jI (λs a=>tW o k S s a) k (2^S-1)=some r):oJ o k S= .tuple #[.string (gQ r),.bool true]:=by unfold oJ;rw[h]
theorem lW{o}{k S}(h:jI (λs a=>tW o k S s a) k (2^S-1)=none):oJ o k S= .tuple #[.string ⟨#[]⟩,.bool false]:=by unfold oJ;rw[h]
theorem Sk:∀a:Nat,(h:a<3)->((ByteArray.mk #[97,98,99])[a]'h).toNat=97+a
 |0,_=>rfl
 |1,_=>rfl
 |2,_=>rfl
theorem IX:∀S,S<10->wrap64 (2^S)=((2^S:Nat):Int):=by decide+kernel
theorem CQ(S)(_h1:1<=S)(h:S<=9):wrap64 (2^S)=((2^S:Nat):Int):=IX S (by omega)
structure DV (W1 : World) (B : Nat) (ys : List (Nat × List UInt8)) (sv wv : Value) (wr : World) : Prop where
  sets : wr.ownsRow B 3 1 sv ys.length (zQ ys)
  words : wr.ownsRow B 9 1 wv ys.length (un ys)
  bel : Below B W1 wr
theorem DV.below{E}{B}{ys}{F I}{wr w'}(h:DV E B ys F I wr)(D:Below wr.1.size wr w')(J:B<=wr.1.size):DV E B ys F I w':=
 ⟨ai h.sets D,ai h.words D,h.bel.trans (D.mono J)⟩
def AP(s:Nat)(l:List Nat)(j:Nat):Bool:=decide (s∈l.take j)
theorem Nq{s x}{l}{j}(h:l[j]? =some x):AP s l (j+1)=(AP s l j||decide (s=x)):=by
 unfold AP;rw[bg,h];by_cases D:s∈l.take j<;>by_cases E:s=x<;>simp[D,E]
theorem PD(s)(l):AP s l l.length=decide (s∈l):=by unfold AP;rw[gB]
theorem pm(k n)(o)(w)(a4:k=2\/k=3)(h5:1<=n)(h7:n<=4)(S)(e5:S=eC k (n-1))(e7:S<=9)(e6:1<=S)(h8:o.size=S*k):
 Calls prog 159 #[.agg #[Ud k,Ud n,.string o]] w λe w'=>e= .returned (oJ o k S)/\Below w.1.size w w':=by
 have b6:k<=3:=(by omega);have d6:=aa (λw=>dw k (n-1) b6 (by omega) w);rw[<-e5] at d6;have k4:((n:Int)-1)=((n-1:Nat):Int):=(by omega);obtain⟨l5,h6⟩:=aB (n-1);rw[<-h6] at d6 k4;have n2:l5<=3:=(by omega);have i8:=aa (λ(s a:Nat) (w:World) (k9:s<512) (e8:a<3)=>zK k n o s a w a4 h5 h7 S e5 e7 e6 h8 k9 e8);have j0:2^S<=512:=bn (bG (n:=2) (by omega) e7) (show(2:Nat)^9<=512 by decide);obtain⟨st,b9⟩:=aB (λs a=>tW o k S s a);obtain⟨N,a3⟩:=aB (2^S);have m3:2<=N:=by rw[a3];have:=bG (n:=2) (show 0<2 by omega) e6;simpa using this
 have a9:=aa (show∀s a,st s a<N fromλs a=>by rw[b9,a3];exact FQ (by omega));have i7:=aa (λ(s a:Nat)=>show tW o k S s a=st s a by rw[b9]);have g4:=aa (CQ S e6 e7);rw[<-a3] at g4 j0;have d9:=aa (λ(r:List UInt8) (e0:jI st k (N-1)=some r)=>show oJ o k S= .tuple #[.string (gQ r),.bool true] from lV (by rw[<-b9,<-a3];exact e0));have d8:=aa (λ(e0:jI st k (N-1)=none)=>show oJ o k S= .tuple #[.string ⟨#[]⟩,.bool false] from lW (by rw[<-b9,<-a3];exact e0));obtain⟨V,J⟩:=aB (oJ o k S);rw[<-J] at d9 d8;rw[<-J];clear J a3 b9 e5 h6 h8 a4 h5 h7;go_enter func159,ntmps159;go_wp2_with fail;refine(d6.o _).mono ?_;rintro e n8 ⟨rfl,rfl⟩;have k8:=g4.o;obtain⟨F,g8⟩:=aB (N-1);have c5:F<N:=(by omega);have c4:F≠0:=(by omega);have j4:(N:Int)-1=(F:Int):=(by omega);rw[<-g8] at d9 d8;clear g8;go_wp2;clear k8 j4;obtain⟨B,c3⟩:=aB (w.1.size+1);obtain⟨h,b5⟩:=aB (w.alloc (.cells #[Ud k,Ud n,.string o] 31));have c7:h.1.size=B:=by rw[b5,c3];simp
 have a7:=aa (λ(V:World) (J:Below B h V)=>show(V.cell? ⟨w.1.size,0,none⟩=some (Ud k)/\V.cell? ⟨w.1.size,1,none⟩=some (Ud n)/\V.cell? ⟨w.1.size,2,none⟩=some (.string o)) from by
  rw[b5] at J;have a0:w.1.size<B:=by rw[c3];exact cG _
  exact⟨(J.cell (p:=⟨w.1.size,0,none⟩) a0).trans (aL _ _ _ _ rfl),(J.cell (p:=⟨w.1.size,1,none⟩) a0).trans (aL _ _ _ _ rfl),(J.cell (p:=⟨w.1.size,2,none⟩) a0).trans (aL _ _ _ _ rfl)⟩)
 have g2:=aa (λ(V:World) (J:Below B h V)=>show Below w.1.size w V from by
  rw[b5] at J;exact(aZ.alloc aQ _).trans (J.mono (by rw[c3];omega)))
 have i4:=aa (show DV h B [(F,[])] (.slice (some ⟨w.1.size+1,0,none⟩) 1 1) (.slice (some ⟨w.1.size+1+1,0,none⟩) 1 1) ((h.alloc (.cells #[Ud F] 3)).alloc (.cells #[.string ⟨#[]⟩] 9)) from by
  have e:w.1.size+1=h.1.size:=by rw[c7,c3]
  have h0:Below h.1.size h (h.alloc (.cells #[Ud F] 3)):=aZ.alloc aQ _;have Z:Below (h.alloc (.cells #[Ud F] 3)).1.size (h.alloc (.cells #[Ud F] 3)) ((h.alloc (.cells #[Ud F] 3)).alloc (.cells #[.string ⟨#[]⟩] 9)):=aZ.alloc aQ _;have b2:=bd (w:=h) (base:=B) (e:=3) #[Ud F] [Ud F] rfl (by omega) (by unfold maxLen;simp);have b3:=bd (w:=h.alloc (.cells #[Ud F] 3)) (base:=B) (e:=9) #[.string ⟨#[]⟩] [.string ⟨#[]⟩] rfl (by simp;omega) (by unfold maxLen;simp);rw[e];refine⟨ai b2 Z,?_,c7▸(bs h0 Z)⟩;have i9:(h.alloc (.cells #[Ud F] 3)).1.size=h.1.size+1:=(by simp);rw[<-i9];exact b3)
 have g3:=aa c7;rw[<-b5];clear b5 c7;go_loopw[4,5,6] (λf7 g0 i wr=>∃(K:Nat) (ys:List (Nat×List UInt8)),bv (ff st k F K=(none,ys))/\i= Ud K/\bv (K<=ys.length)/\bv (DV h B ys f7 g0 wr)) (λ_ _ i _=>600-(intOf i).toNat);exact⟨0,[(F,[])],aa rfl,rfl,aa (by simp),i4⟩;obtain⟨K,ys,c2,rfl,e4,E⟩:=hrel;by_cases a0:K<ys.length
 ·obtain⟨p,e2⟩:=At.start c2.o a0;have Y:=aa e2;have j1:=At.facts (N:=N) e2 b6 c4 (dW _) c5 a9.o;have m1:K<600:=(by omega);obtain⟨m,b7⟩:=aB ys.length;have D:=E.o.sets;rw[<-b7] at D;obtain⟨b1,cs,rfl,_,_⟩:=dP D (by omega);have j6:(K:Int)<(m:Int):=(by omega);have i6:=aa b7;clear e2 j1 D b7 e4;go_wp2;go_loopw[4,5,7] (λf7 g0 i wr=>∃(a:Nat) (zs:List (Nat×List UInt8)),a<=k/\i= Ud a/\bv (At st k F K p ys a zs)/\bv (DV h B zs f7 g0 wr)) (λ_ _ i _=>k-(intOf i).toNat);exact⟨0,ys,by omega,rfl,Y,E⟩;obtain⟨a,zs,e8,rfl,Y,E⟩:=hrel;obtain⟨l1,l2,f6,i2,l3,l4⟩:=At.facts (N:=N) Y.o b6 c4 e8 c5 a9.o;clear i6 j6 a0;obtain⟨q,d1⟩:=aB zs.length;rw[<-d1] at l1 l2 i2;have D:=E.o.sets;have Q:=E.o.words;rw[<-d1] at D Q;have a2:=aa d1;obtain⟨b1,cs,rfl,m8,k0⟩:=dP D (by omega);obtain⟨g6,m0,rfl,m9,k1⟩:=dP Q (by omega);by_cases k2:a<k
  ·have m6:(a:Int)<(k:Int):=by omega
   obtain⟨O,b2,b3⟩:=a7.o _ E.o.bel;have e9:a<3:=(by omega);have m4:(a:Int)<3:=(by omega);have m5:=Sk a e9;have c9:wr.cell? ⟨b1,K,none⟩=some (Ud p.1):=(D.cellAt K (by omega)).trans (CG f6);have f0:wr.cell? ⟨g6,K,none⟩=some (.string (gQ p.2)):=(Q.cellAt K (by omega)).trans (Iz f6);have m2:(K:Int)<(q:Int):=(by omega);have b4:B<=wr.1.size:=by have:=E.o.bel.size;rw[<-g3.o];omega
   have c1:=aa (λ(w:World)=>i8.o p.1 a w (by omega) e9);rw[i7.o] at c1;obtain⟨I,d0⟩:=aB (st p.1 a);have n3:I<N:=by rw[d0];exact a9.o _ _
   rw[<-d0] at c1;obtain⟨l6,i0⟩:=aB p.1;obtain⟨u,d2⟩:=aB (gQ p.2);have n4:¬(9223372036854775807<u.size+1):=by rw[d2,ku];omega
   have g5:=aa d2;rw[<-i0] at c1 c9;rw[<-d2] at f0;have m7:=JN e9;have n5:IntKind.i64.wrap ((a:Int)+1)=(a:Int)+1:=au _ (by omega);have n6:((a:Int)+1).toNat=a+1:=(by omega);have h0:(a:Int)<=(a:Int)+1:=(by omega);have Z:(a:Int)+1<=3:=(by omega);have a1:=aa d0;have d3:=aa Q;have a6:=aa D;have c8:=(aV wr.1.size wr).drew;clear d0 i0 d2 D Q d1 f6 i2 l3 l4;go_wp2;go_region_held3(λV=>V.cell? ⟨w.1.size,0,none⟩=some (Ud k)/\V.cell? ⟨w.1.size,1,none⟩=some (Ud n)/\V.cell? ⟨w.1.size,2,none⟩=some (.string o)/\V.cell? ⟨b1,K,none⟩=some (Ud l6)/\Below wr.1.size wr V)
    (first|exact⟨O,b2,b3,c9,c8⟩|exact⟨(a7.o _ (E.o.bel.trans (U.mono b4))).1,(a7.o _ (E.o.bel.trans (U.mono b4))).2.1,(a7.o _ (E.o.bel.trans (U.mono b4))).2.2,(U.cell (p:=⟨b1,K,none⟩) k0).trans c9,U⟩)
    (first|(go_at_call 230;refine(c1.o _).mono ?_;rintro e i3 ⟨rfl,Z⟩;have U:=c8.trans (Z.mono c8.size)))
   have j8:=(U.cell (p:=⟨g6,K,none⟩) k1).trans f0;have g1:=aa (E.o.below U b4);have j3:B<=i3.1.size:=bn b4 U.size;clear Z c8 U O b2 b3 c9 f0;have Z:(a:Int)+1<=3:=(by omega);go_wp2;go_quiet(fail);have W:=aa (g1.o.below (aA aZ nq) j3);obtain⟨f8,f4⟩:=aB (i3.drewN nq);rw[<-f4] at W;rw[<-f4];have e3:B<=f8.1.size:=by have:=W.o.bel.size;rw[<-g3.o];omega
   clear f4 g1 j8;by_cases b8:I=0
   ·have k5:((I:Int)==0)=true:=by simp[b8]
    have d7:=aa (d9.o _ (At.found Y.o k2 (by omega) (by rw[<-a1.o];exact b8)));go_wp2;go_ret2;exact⟨by rw[d7.o,g5.o,qm];rfl,g2.o _ W.o.bel⟩
   ·have k5:((I:Int)==0)=false:=by simp[b8]
    have D:=W.o.sets;have Q:=W.o.words;rw[<-a2.o] at D Q;have a6:=aa D;have d3:=aa Q;obtain⟨l,f2⟩:=aB (zs.map (·.1));have h4:l.length=q:=by rw[f2,dc,a2.o]
    have d5:=aa f2;have i5:=aa h4;clear D Q f2 h4;go_wp2;go_loop[11,12] (λf i=>∃j:Nat,j<=q/\i= Ud j/\f= .bool (AP I l j)) (λ_ i=>q-(intOf i).toNat);exact⟨0,by omega,rfl,by simp[AP]⟩;obtain⟨j,n0,rfl,rfl⟩:=hrel;by_cases k3:j<q
    ·have n1:(j:Int)<(q:Int):=by omega
     obtain⟨y,f5⟩:∃y,zs[j]? =some y:=⟨zs[j]'(by rw[<-a2.o];exact k3),by simp⟩;have j9:f8.cell? ⟨b1,j,none⟩=some (Ud y.1):=(a6.o.cellAt j (by omega)).trans (CG f5);have c6:=Nq (s:=I) (l:=l) (j:=j) (x:=y.1) (by rw[d5.o,dl,f5];rfl);obtain⟨x,i1⟩:=aB y.1;rw[<-i1] at j9 c6;obtain⟨f,f1⟩:=aB (AP I l j);rw[<-f1] at c6;rw[<-f1];have d4:=aa c6;clear c6 f5 i1 f1;cases f
     ·by_cases c0:x=I
      ·have l0:((x:Int)==(I:Int))=true:=by simp[c0]
       have b0:=aa (show AP I l (j+1)=true by rw[d4.o,c0];simp);clear c0;go_wp2;go_round;exact⟨j+1,by omega,by go_num,by rw[b0.o]⟩;simp[intOf];omega
      ·have l0:((x:Int)==(I:Int))=false:=by simp;omega
       have b0:=aa (show AP I l (j+1)=false by rw[d4.o,decide_eq_false (λe=>c0 e.symm)];rfl);clear c0;go_wp2;go_round;exact⟨j+1,by omega,by go_num,by rw[b0.o]⟩;simp[intOf];omega
     ·have b0:=aa (show AP I l (j+1)=true by rw[d4.o];rfl);go_wp2;go_round;exact⟨j+1,by omega,by go_num,by rw[b0.o]⟩;simp[intOf];omega
    ·obtain rfl:j=q:=by omega
     have e1:=PD I l;rw[i5.o] at e1;rw[e1];clear e1;by_cases a5:I∈l
     ·have b7:=decide_eq_true a5;have a8:=aa (At.old Y.o (by rw[<-a1.o];exact b8) (by rw[<-a1.o,<-d5.o];exact a5));clear a5;go_wp2;go_roundw;exact⟨a+1,zs,by omega,by go_num,a8,W⟩;simp[intOf];omega
     ·have b7:=decide_eq_false a5;have a8:=aa (At.fresh Y.o (by rw[<-a1.o];exact b8) (by rw[<-a1.o,<-d5.o];exact a5));clear a5;go_wp2_with(first|(at_builtin;refine eu rfl _ _ 37 rfl B 3 (Ud 0) 8 underlying37 AB rfl _ j (zQ zs) _ a6.o rfl rfl rfl (by omega) (by unfold maxLen;omega) e3 ?_;intro v' f9 h9 h2;have f3:=d3.o.kept h2 (eD d3.o a6.o (by decide));have h1:Below B f8 f9:=aZ.grown h2 e3 (λk a4=>(a6.o.lt k a4).1);have g7:B<=f9.1.size:=bn e3 h1.size)|(at_builtin;refine eu rfl _ _ 26 rfl B 9 (.string ByteArray.empty) 16 underlying26 iG rfl _ j (un zs) _ f3 rfl rfl rfl (by omega) (by unfold maxLen;omega) g7 ?_;intro n7 l7 k7 h3));have k6:=h9.kept h3 (eD h9 f3 (by decide));have j7:Below B f9 l7:=aZ.grown h3 g7 (λk a4=>(f3.lt k a4).1);go_roundw;exact⟨a+1,_,by omega,by go_num,a8,aa ⟨by rw[IK,<-a1.o,az,<-a2.o];exact k6,by rw[FB,<-qm,<-g5.o,az,<-a2.o];exact k7,(W.o.bel.trans h1).trans j7⟩⟩;simp[intOf];omega
  ·obtain rfl:a=k:=by omega
   have a8:=aa (At.next Y.o);obtain⟨O,b2,b3⟩:=a7.o _ E.o.bel;go_wp2;go_roundw;exact⟨K+1,zs,a8,by go_num,aa (by rw[<-a2.o];omega),aa (by have:=E.o;exact this)⟩;simp[intOf];omega
 ·have j5:=e4.o;have g9:ys.length=K:=(by omega);have d7:=aa (d8.o (vl c2.o (by omega) (by
   have O:=pl (st:=st) (K:=k) (full:=F) b6 c4 K;rw[c2.o] at O;have:=qq O.1 c5 a9.o;omega)))
  have D:=E.o.sets;rw[g9] at D;have j2:=aS D (by
   have O:=pl (st:=st) (K:=k) (full:=F) b6 c4 K;rw[c2.o] at O;have:=qq O.1 c5 a9.o;omega)
  obtain⟨l8,l9,rfl,_⟩:=j2;clear g9 D j5 a0 e4;go_wp2;go_ret2;exact⟨by rw[d7.o];rfl,g2.o _ E.o.bel⟩
theorem Lt(w):(zeroValue 4).run prog w= .ok (.bool false) w:=by kernel_rfl
theorem Nl:(prog.info? 172).map (λi=>(i.zero,i.size,i.bytes))=some (some (.agg #[Ud 0,.string ⟨#[]⟩]),2,24):=by kernel_rfl
theorem zZ{w:World}{P}{k e B s n m}{R}{b}{D:DataW Unit}{v}{xs}(h:w.ownsRow B e s v n xs)(I:w.ownsMap P k R b m D):v.ownBlock≠some b:=by
 intro E;obtain⟨U,O,F,_⟩:=I;rcases h.2 with⟨rfl,_⟩|⟨g,cap,Q,rfl,_,J,_⟩
 ·cases E
 ·simp only[Value.ownBlock,aI] at E;subst E;rw[J] at F;cases F
structure NC (W1 : World) (B mb : Nat) (ys : List (Nat × List UInt8)) (v : Value) (wr : World) : Prop where
  list : wr.ownsRow B 172 2 v ys.length (mT ys)
  map : wr.ownsMap Tryz.prog 3 (plainElem Tryz.prog 4) mb ys.length (vx (ys.map (·.1)))
  bel : Below B W1 wr
theorem NC.below{E}{B F}{ys}{v}{wr w'}(h:NC E B F ys v wr)(D:Below wr.1.size wr w')(I:B<=wr.1.size):NC E B F ys v w':=
 ⟨ai h.list D,gE h.map D,h.bel.trans (D.mono I)⟩
theorem CW{w:World}{base e s n}{v}{xs}(h:w.ownsRow base e s v n xs)(J:0<n):∃g cap,v= .slice (some ⟨g,0,none⟩) n cap/\base<=g/\g<w.1.size:=by
 rcases h.2 with⟨rfl,I⟩|⟨g,cap,F,rfl,D,E,_⟩
 ·omega
 ·exact⟨g,cap,rfl,D,(bD.1 E).1⟩
theorem ud(k n)(o)(w)(m1:k=2\/k=3)(m9:1<=n)(n1:n<=4)(S)(i8:S=eC k (n-1))(e7:S<=9)(d2:1<=S)(j6:o.size=S*k)(j4:LW k o.1.1):
 Calls prog 156 #[.agg #[.int .i64 k,.int .i64 n,.string o]] w λe w'=>e= .returned (oJ o k S)/\Below w.1.size w w':=by
 have b7:k<=3:=(by omega);have c4:=aa (λw=>mL k (n-1) b7 (by omega) w);rw[<-vD,<-i8] at c4;have n0:((n:Int)-1)=((n-1:Nat):Int):=(by omega);obtain⟨o5,j5⟩:=aB (n-1);rw[<-j5] at c4 n0;have q5:o5<=3:=(by omega);have i1:2^S<=512:=bn (bG (n:=2) (by omega) e7) (show(2:Nat)^9<=512 by decide);have q0:0<k:=(by omega);obtain⟨st,b9⟩:=aB (λs a=>tW o k S s a);obtain⟨N,a1⟩:=aB (2^S);have p3:2<=N:=by rw[a1];have:=bG (n:=2) (show 0<2 by omega) d2;simpa using this
 have b0:=aa (show∀s a,st s a<N fromλs a=>by rw[b9,a1];exact FQ (by omega));have h6:=aa (λ(s a:Nat)=>show BH o k S a s S=st s a by rw[b9];rfl);have h8:=aa (λ(a s v x:Nat)=>show CB o k S a s v x (BH o k S a s v)<N from by rw[a1];exact Ee d2 (Ef d2 v) x);have h4:=aa (CQ S d2 e7);rw[<-a1] at h4 i1;have c7:=aa (λ(r:List UInt8) (b3:jI st k (N-1)=some r)=>show oJ o k S= .tuple #[.string (gQ r),.bool true] from lV (by rw[<-b9,<-a1];exact b3));have c6:=aa (λ(b3:jI st k (N-1)=none)=>show oJ o k S= .tuple #[.string ⟨#[]⟩,.bool false] from lW (by rw[<-b9,<-a1];exact b3));obtain⟨V,I⟩:=aB (oJ o k S);rw[<-I] at c7 c6;rw[<-I];have h3:=aa j6;have q8:o.size<=27:=by
  have:S*k<=9*3:=bX e7 b7;omega
 have k5:=aa j4;have q3:= @run_makeMap prog;have f8:Maps.Keyed prog 3:=Maps.int_keyed underlying3;clear I a1 b9 i8 j5 j6 m1 m9 n1 j4;go_enter func156,ntmps156;go_wp2_with fail;refine(c4.o _).mono ?_;rintro e s0 ⟨rfl,rfl⟩;have n5:=h4.o;obtain⟨F,i6⟩:=aB (N-1);have e5:F<N:=(by omega);have e4:F≠0:=(by omega);have l2:(N:Int)-1=(F:Int):=(by omega);rw[<-i6] at c7 c6;have j3:keyOf prog 3 (.int .i64 (F:Int))=some (.int .i64 (F:Int)):=Maps.keyOf_int_mk underlying3 (ka F (by omega));clear i6;obtain⟨D,a4⟩:=aB (w.alloc (.cells #[.int .i64 k,.int .i64 n,.string o] 31));obtain⟨Q,b5⟩:=aB (D.alloc (.cells #[.int .i64 F,.string ⟨#[]⟩] 172));have a2:Q.1.size=w.1.size+1+1:=by rw[b5,a4];simp
 obtain⟨c1,g5,j7,f3⟩:=(World.ownsMap_made Q prog 3 (plainElem (H:=Unit) prog 4)).update f8 underlying174 (by unfold maxLen;omega) j3 (plainElem_bool underlying4 true);rw[a2,b5,a4] at g5;have b6:D.1.size=w.1.size+1:=by rw[a4];simp
 have d6:=aa (show NC D (w.1.size+1) (w.1.size+1+1) [(F,[])] (.slice (some ⟨w.1.size+1,0,none⟩) 1 1) c1 from by
  rw[<-a2,<-b6];have b4:Q.ownsRow D.1.size 172 2 (.slice (some ⟨D.1.size,0,none⟩) 1 1) 1 [.int .i64 (F:Int),.string ⟨#[]⟩]:=by
   rw[b5];have:=ew (base:=D.1.size) (e:=172) (size:=2) D #[.int .i64 (F:Int),.string ⟨#[]⟩] 1 aQ (by unfold maxLen;simp) (by simp);simpa using this
  have e9:Below Q.1.size Q (Q.alloc (.map #[] 0)):=aZ.alloc aQ _;have U:=ai b4 e9;have n2:(Value.slice (some ⟨D.1.size,0,none⟩) 1 1).ownBlock≠some Q.1.size:=by
   simp[Value.ownBlock,a2,b6]
  have k9:=U.kept f3 (Or.inr n2);have i9:Below D.1.size D Q:=by rw[b5];exact aZ.alloc aQ _
  refine⟨k9,?_,(bs i9 e9).grown f3 (by have:=(bs i9 e9).size;exact this) (by rintro q ⟨⟩;rw[a2,b6];omega)⟩;have e:vx ([(F,([]:List UInt8))].map (·.1))=(vx []).put (.int .i64 (F:Int)) (.lit (.bool true)):=pv [] F;rw[e];exact j7)
 have a7:=aa (λ(V:World) (I:Below (w.1.size+1) D V)=>show(V.cell? ⟨w.1.size,0,none⟩=some (.int .i64 k)/\V.cell? ⟨w.1.size,2,none⟩=some (.string o)) from by
  rw[a4] at I;have a5:w.1.size<w.1.size+1:=cG _;exact⟨(I.cell (p:=⟨w.1.size,0,none⟩) a5).trans (aL _ _ _ _ rfl),(I.cell (p:=⟨w.1.size,2,none⟩) a5).trans (aL _ _ _ _ rfl)⟩)
 have c2:=aa (λ(V:World) (I:Below (w.1.size+1) D V)=>show Below w.1.size w V from by
  rw[a4] at I;exact(aZ.alloc aQ _).trans (I.mono (by omega)))
 have g9:=aa b6;go_wp2;obtain⟨B,d0⟩:=aB (w.1.size+1);obtain⟨c0,g2⟩:=aB (w.1.size+1+1);rw[<-g2,<-d0] at d6;rw[<-d0] at a7 c2 g9;rw[<-g2];have l1:B<=c0:=(by omega);clear n5 l2 g5 j7 f3 a2 a4 b5 b6 j3 g2;have k7:=h3;clear h3;go_loopw[5,7] (λv i wr=>∃(K:Nat) (ys:List (Nat×List UInt8)),bv (ff st k F K=(none,ys))/\i= .int .i64 K/\bv (K<=ys.length)/\bv (NC D B c0 ys v wr)) (λ_ i _=>600-(intOf i).toNat);exact⟨0,[(F,[])],aa rfl,rfl,aa (by simp),by rw[d0];rw[d0] at d6;exact d6⟩;obtain⟨K,ys,c5,rfl,e6,h⟩:=hrel;by_cases a5:K<ys.length
 ·obtain⟨p,e2⟩:=At.start c5.o a5;have J:=aa e2;have l0:=At.facts (N:=N) e2 b7 e4 (dW _) e5 b0.o;have p1:K<600:=(by omega);obtain⟨m,g0⟩:=aB ys.length;have E:=h.o.list;rw[<-g0] at E;obtain⟨b2,cs,rfl,_,_⟩:=CW E (by omega);have l4:(K:Int)<(m:Int):=(by omega);obtain⟨a0,U⟩:=a7.o _ h.o.bel;have k6:=aa g0;clear e2 l0 E g0 e6;go_wp2;go_loopw[5,37] (λv i wr=>∃(a:Nat) (zs:List (Nat×List UInt8)),a<=k/\i= .int .i64 a/\bv (At st k F K p ys a zs)/\bv (NC D B c0 zs v wr)) (λ_ i _=>k-(intOf i).toNat);exact⟨0,ys,by omega,rfl,J,h⟩;obtain⟨a,zs,l5,rfl,J,h⟩:=hrel;obtain⟨n8,a2,g7,k1,n9,o4⟩:=At.facts (N:=N) J.o b7 e4 l5 e5 b0.o;clear k6 l4 a5 a0 U;obtain⟨q,d4⟩:=aB zs.length;rw[<-d4] at n8 a2 k1;have E:=h.o.list;rw[<-d4] at E;have a9:=aa d4;obtain⟨b2,cs,rfl,p8,p9⟩:=CW E (by omega);by_cases m3:a<k
  ·have p7:(a:Int)<(k:Int):=by omega
   obtain⟨a0,U⟩:=a7.o _ h.o.bel;have j1:wr.cell? ⟨b2,K*2,none⟩=some (.int .i64 p.1):=(E.cellAt (K*2) (by omega)).trans (uI g7).1;have f1:wr.cell? ⟨b2,K*2+1,none⟩=some (.string (gQ p.2)):=(E.cellAt (K*2+1) (by omega)).trans (uI g7).2;have p2:(K:Int)<(q:Int):=(by omega);have i3:B<=wr.1.size:=by have:=h.o.bel.size;rw[<-g9.o];omega
   obtain⟨s,g6⟩:=aB p.1;have n6:s<512:=(by omega);obtain⟨u,d5⟩:=aB (gQ p.2);have r1:¬(9223372036854775807<u.size+1):=by rw[d5,ku];omega
   have e0:=aa d5;have h7:=aa g6;rw[<-g6] at j1;rw[<-d5] at f1;clear d5 g6 g7 k1 n9 o4 E d4;have p6:a<3:=(by omega);go_wp2;go_loop[9,41] (λt i=>∃v:Nat,v<=S/\i= .int .i64 v/\t= .int .i64 (BH o k S a s v)) (λ_ i=>S-(intOf i).toNat);exact⟨0,by omega,rfl,rfl⟩;obtain⟨v,r2,rfl,rfl⟩:=hrel;by_cases m4:v<S
   ·have r3:(v:Int)<(S:Int):=by omega
    have j0:=Ic v (by omega) s n6;go_wp2;go_loop[9,46] (λt i=>∃x:Nat,x<=k/\i= .int .i64 x/\t= .int .i64 (CB o k S a s v x (BH o k S a s v))) (λ_ i=>k-(intOf i).toNat);exact⟨0,by omega,rfl,rfl⟩;obtain⟨x,r7,rfl,rfl⟩:=hrel;by_cases m5:x<k
    ·have r8:(x:Int)<(k:Int):=by omega
     rcases La s v with c8|e1
     ·rw[c8] at j0;have k4:=aa (show CB o k S a s v (x+1) (BH o k S a s v)=CB o k S a s v x (BH o k S a s v) by rw[vk c8,vk c8]);clear c8;go_wp2;go_round;exact⟨x+1,by omega,by go_num,by rw[k4.o]⟩;simp[intOf];omega
     ·rw[e1] at j0;have O:=aa (FS (o:=o) (L:=k) (n:=S) (a:=a) (acc:=BH o k S a s v) (x:=x) e1);clear e1;have h5:=aa (aH (h8.o a s v x) i1);obtain⟨r,g4⟩:=aB (CB o k S a s v x (BH o k S a s v));rw[<-g4] at O h5;rw[<-g4];obtain⟨b1,e8⟩:=aB (v*k);have c9:=KF k7.o m4 m5;rw[<-e8] at c9 O;have p5:(v:Int)*(k:Int)=(b1:Int):=by rw[e8];simp
      obtain⟨A,i2⟩:=aB (b1+x);rw[<-i2] at c9 O;have o9:(b1:Int)+(x:Int)=(A:Int):=(by omega);have p0:(A:Int)<(o.size:Int):=(by omega);have o8:(0:Int)<=(A:Int):=(by omega);obtain⟨y,k0,j9⟩:∃y,y<k/\o[A].toNat=97+y:=by
       obtain⟨y,k0,e⟩:=k5.o _ (aj (dq o A c9));have:=fx (show y<100 by omega);exact⟨y,k0,by rw[e];omega⟩
      have c3:=aa (show ef o A=dO a↔y=a by
       rw[iI c9];constructor
       ·intro e;have:=fx (show a<100 by omega);rw[e] at j9;omega
       ·intro e;exact Aq (by omega))
      obtain⟨R,d1⟩:=aB (A%S);have q9:Int.tmod (A:Int) (S:Int)=(R:Int):=by rw[d1];exact eg A S
      have p4:R<S:=by rw[d1];exact dI _ (by omega)
      rw[<-d1] at O;have q1:¬((S:Int)=0):=(by omega);have m6:¬(S=0):=(by omega);have q2:((S:Int)==0)=false:=by simpa using m6
      have r6:IntKind.i64.wrap (b1:Int)=(b1:Int):=au _ (by omega);have r4:IntKind.i64.wrap (A:Int)=(A:Int):=au _ (by omega);have r5:IntKind.i64.wrap (R:Int)=(R:Int):=au _ (by omega);have q7:=Lb R (by omega) r h5.o;have r0:((o[A].toNat:Int)-97)%256=(y:Int):=by rw[j9];omega
      clear e8 i2 d1 g4;by_cases f2:y=a
      ·have m0:((y:Int)==(a:Int))=true:=by simp[f2]
       have d9:=aa (O.o.trans (if_pos (c3.o.2 f2)));clear O c3;go_wp2;go_round;exact⟨x+1,by omega,by go_num,by rw[d9.o]⟩;simp[intOf];omega
      ·have m0:((y:Int)==(a:Int))=false:=by simp;omega
       have d9:=aa (O.o.trans (if_neg λb3=>f2 (c3.o.1 b3)));clear O c3;go_wp2;go_round;exact⟨x+1,by omega,by go_num,by rw[d9.o]⟩;simp[intOf];omega
    ·obtain rfl:x=k:=by omega
     go_wp2;go_round;exact⟨v+1,by omega,by go_num,rfl⟩;simp[intOf];omega
   ·obtain rfl:v=S:=by omega
    have d3:=h6.o s a;have Y:=aa (show st p.1 a=st s a by rw[h7.o]);obtain⟨W,g3⟩:=aB (BH o k v a s v);rw[<-g3] at d3;rw[<-g3];have q6:W<N:=by rw[d3];exact b0.o _ _
    have Z:=aa d3;clear g3 d3;have q4:(97+(a:Int))%256=97+(a:Int):=(by omega);have l8:(convert 22 9 (.slice (some ⟨wr.1.size,0,none⟩) 1 1)).run prog (wr.alloc (.cells #[.int .u8 (97+(a:Int))] 5)).drew= .ok (.string ⟨#[dO a]⟩) (wr.alloc (.cells #[.int .u8 (97+(a:Int))] 5)).drew:=
     vA 22 9 5 underlying22 underlying5 underlying9 _ 1 1 [dO a] ((oC _ _ _ _ (fx (by omega))).below aZ.drew aQ)
    have l7:(wr.drew).cell? ⟨b2,K*2+1,none⟩=some (.string u):=f1;go_upto_region 21 with fail
    go_cut[12] from 86 to 96 (λx o6=>x= .string (u++⟨#[dO a]⟩)/\bv (Below wr.1.size wr o6))
    case first=>
     clear a7 c2 h J e0 h7 Y Z b0 h6 h8 c4 c7 c6 a9 c5;go_region;all_goals
      go_wp2
      go_meet
      case rel=>exact⟨rfl,aa (((aV wr.1.size wr).alloc aQ _).drew)⟩
    case rest=>
     obtain⟨rfl,hcut⟩:=hcut;obtain⟨c1,rfl⟩:=aB wc;have a3:=aa (h.o.below hcut.o i3);have i4:B<=c1.1.size:=bn i3 hcut.o.size;clear hcut l8 l7 j1 f1 a0 U h;by_cases b8:W=0
     ·have n3:((W:Int)==0)=true:=by simp[b8]
      have d8:=aa (c7.o _ (At.found J.o m3 (by omega) (by rw[Y.o,<-Z.o];exact b8)));have e3:=aa (c2.o _ a3.o.bel);go_wp2;go_ret2;exact⟨by rw[d8.o,e0.o,qm];rfl,e3.o⟩
     ·have n3:((W:Int)==0)=false:=by simp[b8]
      obtain⟨l,f5⟩:=aB (zs.map (·.1));have f9:=GJ f8 underlying3 underlying174 underlying4 (Lt c1) a3.o.map (s:=W) (by omega);rw[<-f5] at f9;have h0:=aa f5;clear f5;by_cases a6:W∈l
      ·rw[decide_eq_true a6] at f9;have a8:=aa (At.old J.o (by rw[Y.o,<-Z.o];exact b8) (by rw[Y.o,<-Z.o,<-h0.o];exact a6));clear a6;go_wp2;go_roundw;exact⟨a+1,zs,by omega,by go_num,a8,a3⟩;simp[intOf];omega
      ·rw[decide_eq_false a6] at f9;have a8:=aa (At.fresh J.o (by rw[Y.o,<-Z.o];exact b8) (by rw[Y.o,<-Z.o,<-h0.o];exact a6));clear a6;have g1:=a3.o.map;obtain⟨g8,g5,j8,f4⟩:=g1.update f8 underlying174 (by rw[<-a9.o];unfold maxLen;omega) (Maps.keyOf_int_mk underlying3 (ka W (by omega))) (plainElem_bool underlying4 true);have f6:=a3.o.list;have f7:=f6.kept f4 (Or.inr (zZ f6 g1));have f0:Below B c1 g8:=aZ.grown f4 i4 (by rintro z ⟨⟩;exact l1);have i5:B<=g8.1.size:=bn i4 f0.size;rw[<-a9.o] at f7;have d7:=aa f7;have h2:=aa j8;have k3:=aa f0;have k8:=aa (show u++⟨#[dO a]⟩=gQ (p.2++[dO a]) by rw[e0.o,qm]);have h1:=aa (show((W:Nat):Int)=((st p.1 a:Nat):Int) by rw[Y.o,<-Z.o]);clear g1 f6 f7 j8 f0 f4;go_wp2_with(first|(at_builtin;refine DZ rfl _ _ 173 rfl B 172 24 underlying173 Nl _ q zs (st p.1 a,p.2++[dO a]) _ _ (by rw[h1.o]) (by rw[k8.o]) d7.o rfl rfl (by omega) (by unfold maxLen;omega) i5 ?_;intro r9 k2 n4 j2));have m8:some c0≠(Value.slice (some ⟨b2,0,none⟩) q cs).ownBlock:=λe=>zZ d7.o h2.o e.symm
       have m7:=tB h2.o j2 m8;have l6:Below B g8 k2:=aZ.grown j2 i5 (λz n7=>(d7.o.lt z n7).1);go_roundw;exact⟨a+1,_,by omega,by go_num,a8,aa ⟨by rw[az,<-a9.o];exact n4,by
        rw[ek,az];show k2.ownsMap _ _ _ c0 (zs.length+1) (vx (zs.map (·.1)++[st p.1 a]))
        rw[pv,<-h1.o];exact m7,(a3.o.bel.trans k3.o).trans l6⟩⟩
       simp[intOf];omega
  ·obtain rfl:a=k:=by omega
   have a8:=aa (At.next J.o);obtain⟨a0,U⟩:=a7.o _ h.o.bel;go_wp2;go_roundw;exact⟨K+1,zs,a8,by go_num,aa (by rw[<-a9.o];omega),h⟩;simp[intOf];omega
 ·have l3:=e6.o;have i7:ys.length=K:=(by omega);have m2:ys.length<=512:=by
   have a0:=pl (st:=st) (K:=k) (full:=F) b7 e4 K;rw[c5.o] at a0;have:=qq a0.1 e5 b0.o;omega
  have d8:=aa (c6.o (vl c5.o (by omega) (by omega)));have E:=h.o.list;rw[i7] at E;have l9:∃h9 i0,u5= .slice h9 K i0:=by
   rcases E.2 with⟨b4,U⟩|⟨g,cap,o7,b4,_⟩
   ·exact⟨none,0,by rw[U];exact b4⟩
   ·exact⟨_,_,b4⟩
  obtain⟨h9,i0,rfl⟩:=l9;have e3:=aa (c2.o _ h.o.bel);clear i7 E l3 a5 e6 h m2;go_wp2;go_ret2;exact⟨by rw[d8.o];rfl,e3.o⟩
theorem tR(k n:Nat)(o)(w)(o6:o.size<=maxLen)(h:du k n o=true):
 Calls prog 72 #[.agg #[Ud k,Ud n,.string o]] w (wI (tU o k n) w):=by
 obtain⟨D,Q,j9,k1,a0,⟨n8,o4⟩,c0,g7,e5⟩:=mj h;obtain rfl:D=k:=(by omega);obtain rfl:Q=n:=(by omega);have c4:=aa (λw:World=>jf D Q o w o6);rw[h] at c4;obtain⟨c8,e1,e2⟩:=lT a0 n8 o4 c0;have e4:D<=3:=(by omega);have s2:2<=D:=(by omega);have i2:=aa (show tU o D Q↔tU o D Q from Iff.rfl);have i0:=aa g7;have s5:o.size<=27:=(by omega);unfold wI;by_cases c7:Q=1
 ·subst c7;have b5:=aa (show tU o D 1↔∀x y,y<x->x<o.size->ef o x≠ef o y by unfold tU;rw[if_pos rfl]);clear h g7 e5 j9 k1 i2 e2 c0 c8 e1;go_enter func72,ntmps72;go_wp2_with fail;refine(c4.o _).mono ?_;rintro e E ⟨rfl,Z⟩;obtain⟨⟨a5,k5,J⟩,_,a1⟩:=yV Z;have c9:Below w.1.size w E:=(aZ.alloc aQ _).trans (Z.mono (by simp));have W:=aa J;have a9:=aa c9;clear Z c9 c4;go_wp2;go_loopw[26] (λi wr=>∃x:Nat,x<=o.size/\i= Ud x/\bv (∀a b,b<a->a<x->ef o a≠ef o b)/\bv (Below E.1.size E wr)) (λi _=>o.size-(intOf i).toNat);exact⟨0,by omega,rfl,aa (λa b _ h=>by omega),aa aZ⟩;obtain⟨x,p2,rfl,b4,F⟩:=hrel;have J:=(F.o.cell (p:=⟨w.1.size,2,none⟩) a1).trans W.o;by_cases b9:x<o.size
  ·have u1:(x:Int)<(o.size:Int):=by omega
   go_wp2;go_loopw[30] (λi wr=>∃y:Nat,y<=x/\i= Ud y/\bv (∀b,b<y->ef o x≠ef o b)/\bv (Below E.1.size E wr)) (λi _=>x-(intOf i).toNat);exact⟨0,by omega,rfl,aa (λb h=>by omega),F⟩;obtain⟨y,d0,rfl,h4,F⟩:=hrel;have J:=(F.o.cell (p:=⟨w.1.size,2,none⟩) a1).trans W.o;by_cases n4:y<x
   ·have u2:(y:Int)<(x:Int):=by omega
    have p4:y<o.size:=(by omega);have u3:(y:Int)<(o.size:Int):=(by omega);have a2:=aa (show ef o x=ef o y↔o[x].toNat=o[y].toNat by rw[iI b9,iI p4];exact dz.symm);by_cases b2:o[x].toNat=o[y].toNat
    ·have g3:((o[x].toNat:Int)==(o[y].toNat:Int))=true:=by simp[b2]
     have O:=aa (a2.o.2 b2);clear a2;go_wp2;go_quiet(fail);go_wp2;go_ret;exact⟨false,rfl,by simp only[eI,false_iff];exactλc0=>(b5.o.1 c0) x y n4 b9 O.o,aA (a9.o.trans (F.o.mono a9.o.size)) _⟩
    ·have g3:((o[x].toNat:Int)==(o[y].toNat:Int))=false:=by simp;omega
     have O:=aa (λh=>b2 (a2.o.1 h));clear a2;go_wp2;go_quiet(fail);go_wp2;go_roundw;exact⟨y+1,by omega,by go_num,aa (λb Z=>by
      by_cases m9:b=y
      ·rw[m9];exact O.o
      ·exact h4.o b (by omega)),aa (aA F.o _)⟩
     simp[intOf];omega
   ·obtain rfl:y=x:=by omega
    go_wp2;go_roundw;exact⟨y+1,by omega,by go_num,aa (λa b Z r7=>by
     by_cases m8:a=y
     ·rw[m8];exact h4.o b (by omega)
     ·exact b4.o a b Z (by omega)),F⟩
    simp[intOf];omega
  ·obtain rfl:x=o.size:=by omega
   go_wp2;go_ret;exact⟨true,rfl,by simp only[true_iff];exact b5.o.2 b4.o,a9.o.trans (F.o.mono a9.o.size)⟩
 ·obtain⟨S,e0⟩:=aB (eC D (Q-1));have b5:=aa (show tU o D Q↔∀p,p<S*S->jb (dH o D S (S*S)) (S*S) p->p/S=p%S by unfold tU;rw[if_neg c7,<-e0]);rw[<-e0] at c8 e1 e2;have f0:=aa (λw=>mL D (Q-1) e4 (by omega) w);rw[<-vD,<-e0] at f0;have m4:S*S<=81:=bX e1 e1;have m5:1<=S*S:=bX c8 c8;have d3:=aa (λ(a:Option Addr) (c:Nat) (w:World) (m6:bZ w a (S*S) (dH o D S (S*S)))=>oZ (S*S) (dH o D S (S*S)) a c w m6 (xT c8) (by omega));unfold oh at d3;have n9:((Q:Int)-1)=((Q-1:Nat):Int):=(by omega);obtain⟨p5,k0⟩:=aB (Q-1);rw[<-k0] at f0 n9;have s3:p5<=3:=(by omega);have s4:((Q:Int)==1)=false:=by simp;omega
  obtain⟨M,d8⟩:=aB (S*S);have h8:=aa d8;have r1:(S:Int)*(S:Int)=(M:Int):=by rw[d8];simp
  have g9:∀r∈dH o D S (S*S),r.length<=140737488351232:=λr k2=>by
   unfold dH at k2;obtain⟨p,_,rfl⟩:=bi.1 k2;have c7:=mD o D S (p/S) (p%S) D;have m0:D*D<=3*3:=bX e4 e4;show(iy o D S (p/S) (p%S) D).length<=_
   omega
  rw[<-d8] at d3 b5 m4 m5 g9;have l5:=aa g9;have i1:=aa (show o.size=S*D by rw[i0.o,e2]);clear h g7 e5 j9 k1 i2 e2 c0 k0 e0 d8 c7 g9 a0 i0;go_enter func72,ntmps72;go_wp2_with fail;refine(c4.o _).mono ?_;rintro e E ⟨rfl,Z⟩;obtain⟨⟨a5,k5,J⟩,_,a1⟩:=yV Z;have c9:Below w.1.size w E:=(aZ.alloc aQ _).trans (Z.mono (by simp));have a9:=aa c9;have b3:=aa (λ(V:World) (b8:Below E.1.size E V)=>(⟨(b8.cell (p:=⟨w.1.size,0,none⟩) a1).trans a5,(b8.cell (p:=⟨w.1.size,2,none⟩) a1).trans J⟩:V.cell? ⟨w.1.size,0,none⟩=some (Ud D)/\V.cell? ⟨w.1.size,2,none⟩=some (.string o)));clear Z c9 c4;go_wp2_with fail;refine(f0.o _).mono ?_;rintro e u6 ⟨rfl,rfl⟩;have l2:=aa (lj E 37 (aN E.1.size));have k8:=aa ((aV E.1.size E).alloc aQ (.cells #[] 37));clear a5 k5 J;go_wp2;go_loopw[6,54] (λv i wr=>∃(p:Nat) (c1:List Value),p<=M/\i= Ud p/\bv (wr.ownsRow E.1.size 37 1 v p c1)/\bv (bS 3 wr E.1.size c1 (dH o D S p))/\bv (Below E.1.size E wr)) (λ_ i _=>M-(intOf i).toNat);exact⟨0,[],by omega,rfl,l2,aa (bS.nil _ _ _),k8⟩;obtain⟨p,c1,c0,rfl,c5,d4,F⟩:=hrel;by_cases n2:p<M
  ·have o8:(p:Int)<(M:Int):=by omega
   obtain⟨u,a7⟩:=aB (p/S);obtain⟨y,d0⟩:=aB (p%S);have j5:Int.tdiv (p:Int) (S:Int)=(u:Int):=by rw[a7];exact lF p S
   have j6:Int.tmod (p:Int) (S:Int)=(y:Int):=by rw[d0];exact eg p S
   have p0:u<S:=by rw[a7];exact fB (by rw[<-h8.o];exact n2)
   have p3:y<S:=by rw[d0];exact dI _ (by omega)
   have l4:=aa (show dH o D S (p+1)=dH o D S p++[iy o D S u y D] by rw[tX,sT,a7,d0]);have n6:¬((S:Int)=0):=(by omega);have g5:¬(S=0):=(by omega);have n7:((S:Int)==0)=false:=by simpa using g5
   have t9:IntKind.i64.wrap (u:Int)=(u:Int):=au _ (by omega);have u0:IntKind.i64.wrap (y:Int)=(y:Int):=au _ (by omega);clear a7 d0;go_wp2;go_quiet(fail);obtain⟨I,h3⟩:=aB (wr.drewN nq);rw[<-h3];have e3:Below wr.1.size wr I:=by rw[h3];exact aA aZ _
   have m7:E.1.size<=wr.1.size:=F.o.size;have l3:=aa (ai c5.o e3);have l6:=aa (d4.o.below e3);have a6:=aa (F.o.trans (e3.mono m7));have a4:E.1.size<=I.1.size:=a6.o.size;clear h3 e3 c5 d4 F j5 j6;have j4:=aa ((aV I.1.size I).alloc aQ (.cells #[] 3));have m3:=aa (lj I 3 (aN I.1.size));obtain⟨p6,p7⟩:=b3.o _ (a6.o.trans (j4.o.mono a4));go_wp2;go_loopw[10,66] (λv i wr=>∃(x c g Y:Nat) (ys:List Int),x<=D/\i= Ud x/\v= .slice (some ⟨g,0,none⟩) c Y/\bv (ys=iy o D S u y x)/\bv (c=ys.length)/\bv (wr.ownsRow I.1.size 3 1 (.slice (some ⟨g,0,none⟩) c Y) c (af ys))/\bv (Below I.1.size I wr)) (λ_ i _=>D-(intOf i).toNat);exact⟨0,0,I.1.size,0,[],by omega,rfl,rfl,aa rfl,aa rfl,m3,j4⟩;obtain⟨x,c,g,Y,ys,p2,rfl,rfl,b1,W,b6,U⟩:=hrel;obtain⟨a5,J⟩:=b3.o _ (a6.o.trans (U.o.mono a4));clear p6 p7;by_cases n3:x<D
   ·have s0:(x:Int)<(D:Int):=by omega
    go_wp2;go_loopw[10,71] (λv i wr=>∃(z c g Y:Nat) (ys:List Int),z<=D/\i= Ud z/\v= .slice (some ⟨g,0,none⟩) c Y/\bv (ys=iy o D S u y x++kw o D S u y x z)/\bv (c=ys.length)/\bv (wr.ownsRow I.1.size 3 1 (.slice (some ⟨g,0,none⟩) c Y) c (af ys))/\bv (Below I.1.size I wr)) (λ_ i _=>D-(intOf i).toNat);exact⟨0,c,g,Y,ys,by omega,rfl,rfl,aa (by rw[b1.o];simp[kw]),W,b6,U⟩;obtain⟨z,c,g,Y,ys,u4,rfl,rfl,b1,W,b6,U⟩:=hrel;obtain⟨a5,J⟩:=b3.o _ (a6.o.trans (U.o.mono a4));by_cases n5:z<D
    ·have s1:(z:Int)<(D:Int):=by omega
     have p1:I.1.size<=wr.1.size:=U.o.size;have r8:c<=20:=by
      have c7:=mD o D S u y x;have m0:=qp o D S u y x z;have q1:x*D<=2*3:=bX (by omega) e4;rw[W.o,b1.o,az];omega
     obtain⟨c6,f9⟩:=aB (u*D);obtain⟨V,b8⟩:=aB (y*D);have f2:=pZ i1.o p0 n3;have f3:=pZ i1.o p3 n5;have O:=aa (show rF D S u y x z=(u*D+x)%S*S+(y*D+z)%S from rfl);have e7:=aa (zB (k:=D) (u:=u) (v:=y) (x:=x) (y:=z) (S:=S) (by omega));rw[<-h8.o] at e7;have a3:=aa (show kw o D S u y x (z+1)=kw o D S u y x z++(if ef o (u*D+x)=ef o (y*D+z) then[(rF D S u y x z:Int)] else[]) from rfl);rw[<-f9] at f2 O a3;rw[<-b8] at f3 O a3;have r5:(u:Int)*(D:Int)=(c6:Int):=by rw[f9];simp
     have r6:(y:Int)*(D:Int)=(V:Int):=by rw[b8];simp
     obtain⟨A,i8⟩:=aB (c6+x);obtain⟨B,i9⟩:=aB (V+z);rw[<-i8] at f2 O a3;rw[<-i9] at f3 O a3;have q3:(c6:Int)+(x:Int)=(A:Int):=(by omega);have q6:(V:Int)+(z:Int)=(B:Int):=(by omega);have q4:(A:Int)<(o.size:Int):=(by omega);have q7:(B:Int)<(o.size:Int):=(by omega);have q2:(0:Int)<=(A:Int):=(by omega);have q5:(0:Int)<=(B:Int):=(by omega);have a2:=aa (show ef o A=ef o B↔o[A].toNat=o[B].toNat by rw[iI f2,iI f3];exact dz.symm);obtain⟨c3,j0⟩:=aB (rF D S u y x z);rw[<-j0] at O e7 a3;obtain⟨b7,d9⟩:=aB (A%S);obtain⟨d6,f6⟩:=aB (B%S);have s7:Int.tmod (A:Int) (S:Int)=(b7:Int):=by rw[d9];exact eg A S
     have s8:Int.tmod (B:Int) (S:Int)=(d6:Int):=by rw[f6];exact eg B S
     rw[<-d9,<-f6] at O;obtain⟨d5,f5⟩:=aB (b7*S);have r2:(b7:Int)*(S:Int)=(d5:Int):=by rw[f5];simp
     rw[<-f5] at O;have r0:(d5:Int)+(d6:Int)=(c3:Int):=by have:=O.o;omega
     have q9:c3<81:=by have:=e7.o;omega
     have t7:IntKind.i64.wrap (c6:Int)=(c6:Int):=au _ (by omega);have t8:IntKind.i64.wrap (V:Int)=(V:Int):=au _ (by omega);have s9:IntKind.i64.wrap (A:Int)=(A:Int):=au _ (by omega);have t0:IntKind.i64.wrap (B:Int)=(B:Int):=au _ (by omega);have t3:IntKind.i64.wrap (d5:Int)=(d5:Int):=au _ (by omega);have t2:IntKind.i64.wrap (c3:Int)=(c3:Int):=au _ (by omega);have r3:b7<S:=by rw[d9];exact dI _ (by omega)
     have t5:IntKind.i64.wrap (b7:Int)=(b7:Int):=au _ (by omega);have t6:IntKind.i64.wrap (d6:Int)=(d6:Int):=au _ (by omega);clear f9 b8 i8 i9 j0 d9 f6 f5;go_wp2;go_quiet(fail);obtain⟨c2,h1⟩:=aB (wr.drewN nq);rw[<-h1];have g0:Below wr.1.size wr c2:=by rw[h1];exact aA aZ _
     have i4:=aa (ai b6.o g0);have d2:=aa (U.o.trans (g0.mono p1));have k4:I.1.size<=c2.1.size:=d2.o.size;clear h1 g0 a5 J;obtain⟨a5,J⟩:=b3.o _ (a6.o.trans (d2.o.mono a4));by_cases b2:o[A].toNat=o[B].toNat
     ·have g3:((o[A].toNat:Int)==(o[B].toNat:Int))=true:=by simp[b2]
      have b0:=a3.o;rw[if_pos (a2.o.2 b2)] at b0;have e8:=aa b0;clear b0 a3 a2;go_wp2;go_quiet(fail);obtain⟨k7,h2⟩:=aB (c2.drewN nq);rw[<-h2];have g1:Below c2.1.size c2 k7:=by rw[h2];exact aA aZ _
      have o7:=ai i4.o g1;have g2:=d2.o.trans (g1.mono k4);have m1:I.1.size<=k7.1.size:=g2.size;clear h2 g1 a5 J;obtain⟨a5,J⟩:=b3.o _ (a6.o.trans (g2.mono a4));clear J;go_wp2;go_region_held3(λV=>V.cell? ⟨w.1.size,0,none⟩=some (Ud D)) (first|go_keep|exact(b3.o _ (a6.o.trans (j3.mono a4))).1)
       ((refine CA (by rfl) _ _ 37 (by rfl) I.1.size 3 (Ud 0) 8 underlying37 AB rfl _ c (af ys) _ o7 (by rfl) (by rfl) rfl (by omega) (by unfold maxLen;omega) g2 m1 ?_;intro v' u7 e6 j3 g4))
      obtain⟨l9,l8,rfl,_,_⟩:=dP e6 (by omega);go_wp2;go_roundw;exact⟨z+1,c+1,l9,l8,ys++[(c3:Int)],by omega,by go_num,rfl,aa (by rw[e8.o,<-cJ,<-b1.o]),aa (by rw[az,<-W.o];rfl),aa (by simpa[af] using e6),aa j3⟩;simp[intOf];omega
     ·have g3:((o[A].toNat:Int)==(o[B].toNat:Int))=false:=by simp;omega
      have b0:=a3.o;rw[if_neg (λh=>b2 (a2.o.1 h)),jc] at b0;have e8:=aa b0;clear b0 a3 a2;go_wp2;go_quiet(fail);go_wp2;go_roundw;exact⟨z+1,c,g,Y,ys,by omega,by go_num,rfl,aa (by rw[e8.o];exact b1.o),W,aa (ai i4.o (aA aZ _)),aa (d2.o.trans ((aA aZ _).mono k4))⟩;simp[intOf];omega
    ·obtain rfl:z=D:=by omega
     go_wp2;go_roundw;exact⟨x+1,c,g,Y,ys,by omega,by go_num,rfl,b1,W,b6,U⟩;simp[intOf];omega
   ·obtain rfl:x=D:=by omega
    have n1:I.1.size<=g:=(b6.o.lt g rfl).1;have f7:=b6.o;rw[W.o] at f7;have e9:=aa (ai l3.o U.o);have l7:=aa (l6.o.moreAt (eU U.o) n1 (aT f7 a4));have l0:=aa (a6.o.trans (U.o.mono a4));have k3:E.1.size<=wr.1.size:=bn a4 U.o.size;clear f7;go_wp2_with(first|(at_builtin;go_must(refine eu rfl _ _ 24 rfl E.1.size 37 (.slice none 0 0) 24 underlying24 Dt rfl _ p c1 _ e9.o rfl rfl rfl (by omega) (by unfold maxLen;omega) k3 ?_);intro v' c2 e6 g4));go_roundw;exact⟨p+1,c1++[.slice (some ⟨g,0,none⟩) c Y],by omega,by go_num,aa e6,aa (by have:=l7.o.kept e9.o (by decide) g4;rw[l4.o,<-b1.o,W.o];exact this),aa (l0.o.grown g4 k3 (λk a0=>(e9.o.lt k a0).1))⟩;simp[intOf];omega
  ·obtain rfl:p=M:=by omega
   obtain⟨i6,i7,rfl,o9⟩:=aS c5.o (by omega);have j8:ct 37 3 wr E.1.size (.slice i6 p i7) (dH o D S p):=⟨c1,by rw[lc];exact c5.o,d4.o⟩;obtain⟨p8,p9,j7,h0⟩:=iw j8 (by rw[lc];omega) l5.o;rw[lc] at j7 h0;injection j7 with he1 _ he2
   subst he1;subst he2;have h7:=aa (d3.o i6 i7 wr h0);have k9:=aa (a9.o.trans (F.o.mono a9.o.size));clear o9 j8 h0 d3 c5 d4 F;go_wp2_with fail;refine h7.o.mono ?_;rintro e k6 ⟨u5,K,rfl,g6,j2,j1⟩;obtain⟨f1,q0,rfl,r9,_⟩:=dP g6 (by omega);have h9:=aa g6;have d1:=aa (bs k9.o j2);have h6:=aa j1;clear g6 j2 j1 h7;go_wp2;go_loopw[117] (λi wr=>∃q:Nat,q<=p/\i= Ud q/\bv (∀z,z<q->K z=true->z/S=z%S)/\bv (Below k6.1.size k6 wr)) (λi _=>p-(intOf i).toNat);exact⟨0,by omega,rfl,aa (λq h=>by omega),aa aZ⟩;obtain⟨q,s6,rfl,b4,F⟩:=hrel;by_cases b9:q<p
   ·have o8:(q:Int)<(p:Int):=by omega
    have n0:wr.cell? ⟨f1,q,none⟩=some (.bool (K q)):=(F.o.cell (p:=⟨f1,q,none⟩) (h9.o.lt f1 rfl).2).trans ((h9.o.cellAt q (by omega)).trans (dL b9));obtain⟨u,a7⟩:=aB (K q);rw[<-a7] at n0;have i5:=aa a7;clear a7;cases u
    ·go_wp2;go_quiet(fail);go_wp2;go_roundw;exact⟨q+1,by omega,by go_num,aa (λz a1 a0=>by
      by_cases g8:z=q
      ·rw[g8,<-i5.o] at a0;cases a0
      ·exact b4.o z (by omega) a0),aa (aA F.o _)⟩
     simp[intOf];omega
    ·obtain⟨a8,f4⟩:=aB (q/S);obtain⟨R,f8⟩:=aB (q%S);have j5:Int.tdiv (q:Int) (S:Int)=(a8:Int):=by rw[f4];exact lF q S
     have j6:Int.tmod (q:Int) (S:Int)=(R:Int):=by rw[f8];exact eg q S
     have n6:¬((S:Int)=0):=(by omega);have g5:¬(S=0):=(by omega);have n7:((S:Int)==0)=false:=by simpa using g5
     have q8:a8<=81:=by have:=ei q S;omega
     have r4:R<=81:=by have:=Nat.mod_le q S;omega
     have t1:IntKind.i64.wrap (a8:Int)=(a8:Int):=au _ (by omega);have t4:IntKind.i64.wrap (R:Int)=(R:Int):=au _ (by omega);have h5:=aa f4;have i3:=aa f8;clear f4 f8;by_cases d7:a8=R
     ·have o5:((a8:Int) !=(R:Int))=false:=by simp[d7]
      have l1:=aa d7;clear d7;go_wp2;go_quiet(fail);go_wp2;go_roundw;exact⟨q+1,by omega,by go_num,aa (λz a1 a0=>by
       by_cases g8:z=q
       ·rw[g8,<-h5.o,<-i3.o];exact l1.o
       ·exact b4.o z (by omega) a0),aa (aA F.o _)⟩
      simp[intOf];omega
     ·have o5:((a8:Int) !=(R:Int))=true:=by simp;omega
      go_wp2;go_quiet(fail);go_wp2;go_ret;refine⟨false,rfl,?_,aA (d1.o.trans (F.o.mono d1.o.size)) _⟩;simp only[eI,false_iff];intro m2;exact d7 (by rw[h5.o,i3.o];exact(b5.o.1 m2) q b9 ((h6.o q b9).1 i5.o.symm))
   ·obtain rfl:q=p:=by omega
    go_wp2;go_ret;refine⟨true,rfl,?_,d1.o.trans (F.o.mono d1.o.size)⟩;simp only[true_iff];exact b5.o.2 λz a1 e5=>b4.o z a1 ((h6.o z a1).2 e5)



theorem GH(x)(m:Nat)(E:m<9223372036854775808):∃n:Nat,bits BinOp.and IntKind.i64 x (m:Int)=(n:Int)/\n<=m:=by
 have D:(BitVec.ofInt 64 (m:Int)).toNat=m:=by
  rw[BitVec.ofInt_natCast,BitVec.toNat_ofNat];exact gu (by omega)
 have h:(BitVec.ofInt 64 x).toNat&&&m<=m:=Nat.and_le_right;refine⟨(BitVec.ofInt 64 x).toNat&&&m,?_,h⟩;show IntKind.i64.wrap ((BitVec.ofInt 64 x&&&BitVec.ofInt 64 (m:Int)).toNat:Int)=_
 rw[BitVec.toNat_and,D];generalize (BitVec.ofInt 64 x).toNat&&&m=n at h;simp only[IntKind.wrap,IntKind.bits,IntKind.signed];simp;split<;>omega
theorem Ku(x):∃n:Nat,bits BinOp.and IntKind.i64 x 255=(n:Int)/\n<=255:=GH x 255 (by omega)
structure yX (W w : World) (g : Nat) (a : Option Addr) (n c : Nat) (bs : List UInt8) (i : Nat) (h : Int) : Prop where
  row : aO W a n (bo bs)
  bel : Below W.1.size W w
  lo : W.1.size ≤ g
  hi : g < w.1.size
  f1 : w.frozen? ⟨g, 1, none⟩ = false
  f2 : w.frozen? ⟨g, 2, none⟩ = false
  c0 : w.cell? ⟨g, 0, none⟩ = some (.slice a n c)
  il : i ≤ n
  c1 : w.cell? ⟨g, 1, none⟩ = some (.int .i64 i)
  c2 : w.cell? ⟨g, 2, none⟩ = some (.int .i64 h)
def Bz(W w:World)(g:Nat)(a:Option Addr)(n c:Nat)(bs:List UInt8):Prop:=∃i h,yX W w g a n c bs i h
theorem yX.below{W w w'}{g}{a}{n c}{bs}{i}{h}(x:yX W w g a n c bs i h)(D:Below w.1.size w w'):yX W w' g a n c bs i h:=
 ⟨x.row,x.bel.trans (D.mono x.bel.size),x.lo,aH x.hi D.size,(D.frozen (p:=⟨g,1,none⟩) x.hi).trans x.f1,(D.frozen (p:=⟨g,2,none⟩) x.hi).trans x.f2,(D.cell (p:=⟨g,0,none⟩) x.hi).trans x.c0,x.il,(D.cell (p:=⟨g,1,none⟩) x.hi).trans x.c1,(D.cell (p:=⟨g,2,none⟩) x.hi).trans x.c2⟩
theorem Bz.below{W w w'}{g}{a}{n c}{bs}(x:Bz W w g a n c bs)(D:Below w.1.size w w'):Bz W w' g a n c bs:=by
 obtain⟨i,h,x⟩:=x;exact⟨i,h,x.below D⟩
theorem yX.set2{W w}{g}{a}{n c}{bs}{i}{h}(x:yX W w g a n c bs i h)(D):yX W (w.setCell ⟨g,2,none⟩ (Ud D)) g a n c bs i D/\w.grownBy (w.setCell ⟨g,2,none⟩ (Ud D)) (some g):=by
 refine⟨⟨x.row,x.bel.setCell x.lo _,x.lo,by simpa using x.hi,by rw[dG];exact x.f1,by rw[dG];exact x.f2,?_,x.il,?_,dV _ _ _ x.c2⟩,rfl,rfl,rfl,by simp,λp F E=>dE _ _ _ _ (λe=>E (by rw[show p=g from e]))⟩
 ·rw[bQ _ _ _ _ (λe=>by injection e with _ e2;simp at e2)];exact x.c0
 ·rw[bQ _ _ _ _ (λe=>by injection e with _ e2;simp at e2)];exact x.c1
theorem yX.set1{W w}{g}{a}{n c}{bs}{i}{h}(x:yX W w g a n c bs i h)(D)(E:D<=n):yX W (w.setCell ⟨g,1,none⟩ (Ud D)) g a n c bs D h/\w.grownBy (w.setCell ⟨g,1,none⟩ (Ud D)) (some g):=by
 refine⟨⟨x.row,x.bel.setCell x.lo _,x.lo,by simpa using x.hi,by rw[dG];exact x.f1,by rw[dG];exact x.f2,?_,E,dV _ _ _ x.c1,?_⟩,rfl,rfl,rfl,by simp,λp I F=>dE _ _ _ _ (λe=>F (by rw[show p=g from e]))⟩
 ·rw[bQ _ _ _ _ (λe=>by injection e with _ e2;simp at e2)];exact x.c0
 ·rw[bQ _ _ _ _ (λe=>by injection e with _ e2;simp at e2)];exact x.c2
theorem kS(w)(m):Below w.1.size w (w.drewN m):=aA aZ m
theorem Pr(W w)(g)(a)(n c)(bs)(h:Bz W w g a n c bs):
 Calls prog 109 #[.pointer (some ⟨g,0,none⟩)] w λe w'=>∃x:Nat,e= .returned (Ud x)/\x<=255/\Bz W w' g a n c bs/\w.grownBy w' (some g):=by
 obtain⟨i,k,h⟩:=h;obtain⟨E,a6⟩:=aB (wrap64 (wrap64 (k*6364136223846793005)+1442695040888963407));obtain⟨x,a8,b4⟩:=Ku (bits BinOp.xor IntKind.i64 (E/8589934592) (E/35184372088832));obtain⟨b1,b2⟩:=h.set2 E;have Y:=aa a8;have U:=aa a6;have J:=aa b1;have O:=aa b2;have a2:=h.c1;have a3:=h.c2;have a1:=h.c0;have Z:=h.f1;have a0:=h.f2;have a5:=h.hi;clear h a8 a6 b1 b2;go_enter func109,ntmps109;go_wp2;go_quiet(fail);rw[<-U.o,Y.o];obtain⟨I,F⟩:=aB ((w.setCell ⟨g,2,none⟩ (Ud E)).drewN nq);rw[<-F];have D:=aa (show yX W I g a n c bs i E by rw[F];exact J.o.below (kS _ _));have Q:=aa (show w.grownBy I (some g) by rw[F];exact dd O.o (oR (kS _ _) _));clear F J O a2 a3 a1 Z a0 a5 U Y;have a2:=D.o.c1;have a3:=D.o.c2;have a1:=D.o.c0;have Z:=D.o.f1;have a0:=D.o.f2;have a5:=D.o.hi;have b8:=D.o.il;have b9:=D.o.row.lim;by_cases c0:i<n
 ·obtain⟨b,c2,rfl,b6,a4⟩:=(D.o.row.below D.o.bel aQ).at_ (by omega);obtain⟨u,a7⟩:=aE (l:=bs) (n:=i) (by have:=D.o.row.len;simp[bo] at this;omega);have b7:=a4 i (.int .u8 (u.toNat:Int)) (by simp[bo,a7]);have c1:=u.toNat_lt;obtain⟨y,a9,b5⟩:=Ku ((x:Int)+(u.toNat:Int));have b3:=aa a9;clear a4 a7 a9;go_wp2;go_quiet(fail);go_wp2;go_quiet(fail);rw[b3.o];go_wp2;go_ret;have b0:=λz=>(D.o.below (kS I z)).set1 (i+1) (by omega)
  exact⟨y,rfl,b5,⟨i+1,E,(b0 _).1⟩,dd Q.o (dd (oR (kS I _) _) (b0 _).2)⟩
 ·go_wp2;go_quiet(fail);go_wp2;go_ret;exact⟨x,rfl,b4,⟨i,E,D.o.below (kS _ _)⟩,dd Q.o (oR (kS _ _) _)⟩
def je(W w w':World)(g:Nat)(a:Option Addr)(n c:Nat)(bs:List UInt8):Prop:=Bz W w' g a n c bs/\w.grownBy w' (some g)
theorem dF(W w)(g)(a)(n c)(bs)(m:Nat)(h:Bz W w g a n c bs)(E:0<m)(J:m<=256):
 Calls prog 34 #[.pointer (some ⟨g,0,none⟩),Ud m] w λe w'=>∃x:Nat,e= .returned (Ud x)/\x<m/\je W w w' g a n c bs:=by
 have D:=aa (Pr W w g a n c bs h);go_enter func34,ntmps34;go_wp2_with fail;refine D.o.mono ?_;rintro e Y ⟨x,rfl,U,F,I⟩;have Q:(x:Int).tmod (m:Int)=((x%m:Nat):Int):=eg x m;have O:¬((m:Int)=0):=(by omega);go_wp2;go_ret;exact⟨x%m,rfl,dI _ E,F,I⟩
theorem lq(W w)(g)(a)(n c)(bs)(m:Nat)(h:Bz W w g a n c bs)(E:0<m)(I:m<=256):
 Calls prog 35 #[.pointer (some ⟨g,0,none⟩),Ud m] w λe w'=>∃b,e= .returned (.bool b)/\je W w w' g a n c bs:=by
 have D:=aa (dF W w g a n c bs m h E I);go_enter func35,ntmps35;go_wp2_with fail;refine D.o.mono ?_;rintro e O ⟨x,rfl,J,F⟩;go_wp2;go_ret;exact⟨_,rfl,F⟩
theorem jC(W w)(g)(a)(n c)(bs)(b)(m d)(zs)(h:Bz W w g a n c bs)(J:0<m)(a2:m<=256)(F:aO w b m (af zs))(O:∀q D,b=some ⟨q,D,none⟩->q≠g):
 Calls prog 100 #[.pointer (some ⟨g,0,none⟩),.slice b m d] w λe w'=>∃x,e= .returned (Ud x)/\x∈zs/\je W w w' g a n c bs:=by
 have U:=aa (dF W w g a n c bs m h J a2);obtain⟨q,D,rfl,a4,Q⟩:=F.at_ J;have a3:=O q D rfl;have a1:=aa (show zs.length=m by have:=F.len;simpa[af] using this);have Y:=aa Q;go_enter func100,ntmps100;go_wp2_with fail;refine U.o.mono ?_;rintro e a6 ⟨x,rfl,a5,E⟩;obtain⟨z,I⟩:=aE (l:=zs) (n:=x) (by rw[a1.o];exact a5);have a7:a6.cell? ⟨q,D+x,none⟩=some (Ud z):=(E.2.cell_far ⟨q,D+x,none⟩ a4 (by simpa using a3)).trans (Y.o x _ (aP I));have a0:=aa (aj I);have Z:=aa E;go_wp2;go_ret;exact⟨z,rfl,a0.o,Z.o⟩
theorem kf(W w)(g)(a)(n c)(bs)(b)(m d)(zs)(h:Bz W w g a n c bs)(J:0<m)(a2:m<=256)(F:aO w b m (ap zs))(O:∀q D,b=some ⟨q,D,none⟩->q≠g):
 Calls prog 102 #[.pointer (some ⟨g,0,none⟩),.slice b m d] w λe w'=>∃x,e= .returned (.string x)/\x∈zs/\je W w w' g a n c bs:=by
 have U:=aa (dF W w g a n c bs m h J a2);obtain⟨q,D,rfl,a4,Q⟩:=F.at_ J;have a3:=O q D rfl;have a1:=aa (show zs.length=m by have:=F.len;simpa[ap] using this);have Y:=aa Q;go_enter func102,ntmps102;go_wp2_with fail;refine U.o.mono ?_;rintro e a6 ⟨x,rfl,a5,E⟩;obtain⟨z,I⟩:=aE (l:=zs) (n:=x) (by rw[a1.o];exact a5);have a7:a6.cell? ⟨q,D+x,none⟩=some (.string z):=(E.2.cell_far ⟨q,D+x,none⟩ a4 (by simpa using a3)).trans (Y.o x _ (bJ I));have a0:=aa (aj I);have Z:=aa E;go_wp2;go_ret;exact⟨z,rfl,a0.o,Z.o⟩
end Go.Proofs.YtbdlbckeffakjaaGreatDoor
