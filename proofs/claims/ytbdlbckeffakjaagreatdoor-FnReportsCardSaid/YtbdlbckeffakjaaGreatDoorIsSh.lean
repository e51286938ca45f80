/- Whether a shift is one: IsShift of both, for every shift. Conditions: its words lie in memory. -/
import Derived.Test.YtbdlbckeffakjaaGreatDoorResB
namespace Go.Proofs.YtbdlbckeffakjaaGreatDoor
set_option maxHeartbeats 8000000
set_option maxRecDepth 100000
open Go.Proofs.Tryz Go.RowKit
def uA(ss:List ByteArray)(k i j:Nat):List Int:=((List.range j).filter λt=>eP ss k i ((gD ss k).getD t 0)).map λ(t:Nat)=>((t:Nat):Int)
theorem Oo{ss}{k i j q}(D:(gD ss k)[j]? =some q)(h:eP ss k i q=true):uA ss k i (j+1)=uA ss k i j++[(j:Int)]:=by
 unfold uA;rw[bh,bE,ek];simp[ah,D,h]
theorem QR{ss}{k i j q}(D:(gD ss k)[j]? =some q)(h:eP ss k i q=false):uA ss k i (j+1)=uA ss k i j:=by
 unfold uA;rw[bh,bE,ek];simp[ah,D,h]
theorem Gb(ss)(k i j):(uA ss k i j).length<=j:=by
 unfold uA;rw[dc];have:=bz (λt=>eP ss k i ((gD ss k).getD t 0)) (List.range j);rwa[cD] at this
theorem Ma{ss}{k t i}(h:(gD ss k)[t]? =some i):(kd ss k).take (t+1)=(kd ss k).take t++[uA ss k i (gD ss k).length]:=by
 rw[bg];congr 1;unfold kd;rw[dl,h];rfl
theorem Ga(ss)(k):(kd ss k).length=(gD ss k).length:=by simp[kd]
theorem CT{ss}{k}(D:k<=3):(gD ss k).length<=9:=by
 have h:=bz (Jb ss k) (List.range (k^2));rw[cD] at h;have E:k^2<=3^2:=fa D 2;unfold gD;omega
theorem nQ{k i}(D:1<=k/\k<=3)(hi:i<k^2):pd k 2 i=[dO (i/k),dO (i%k)]:=by
 have h:i/k<k:=by
  rw[Nat.pow_two] at hi;exact fB hi
 simp[pd,gu h]
theorem pB{k i}(E:1<=k/\k<=3)(hi:i<k^2)(h:0<(db k 2 i).size):((db k 2 i)[0].toNat:Int)=97+((i/k:Nat):Int):=by
 have D:=dq (db k 2 i) 0 h;rw[eq,nQ E hi] at D;simp only[cM,aI] at D;rw[<-D];have F:i/k<k:=by
  rw[Nat.pow_two] at hi;exact fB hi
 exact fx (by omega)
theorem nD{k i}(E:1<=k/\k<=3)(hi:i<k^2)(h:1<(db k 2 i).size):((db k 2 i)[1].toNat:Int)=97+((i%k:Nat):Int):=by
 have D:=dq (db k 2 i) 1 h;rw[eq,nQ E hi] at D;simp only[List.getElem?_cons_succ,cM,aI] at D;rw[<-D];have:i%k<k:=dI _ (by omega);exact fx (by omega)
theorem pA{k i j}(F:1<=k/\k<=3)(E:j<k^2):(db k 2 i++(db k 2 j).extract 1 2).1.1=oH k i++[dO (j%k)]:=by
 rw[fm,iA,eq];have h:((db k 2 j).extract 1 2).1.1=[dO (j%k)]:=by
  have D:((db k 2 j).extract 1 2).1.1=((db k 2 j).1.1.drop 1).take 1:=by
   simp[ep,fD,er]
  rw[D,eq,nQ F E];rfl
 rw[h];rfl
theorem Ka(ss)(k):kp (Jb ss k) k 2 (k^2)=(gD ss k).map (db k 2):=rfl
theorem RC{ss}{k s i}{D:List Nat}(h:D[s]? =some i)(E:mI ss k i=true):(D.take (s+1)).filter (mI ss k)=(D.take s).filter (mI ss k)++[i]:=by
 rw[bg,h,bE];simp[E]
theorem Ta{ss}{k s i}{D:List Nat}(h:D[s]? =some i)(E:mI ss k i=false):(D.take (s+1)).filter (mI ss k)=(D.take s).filter (mI ss k):=by
 rw[bg,h,bE];simp[E]
def sO(ss:List ByteArray)(k:Nat)(w:World)(e:Ending)(w':World):Prop:=∃v,e= .returned v/\w'.ownsRow w.1.size 9 1 v (iu ss k).length (ap ((iu ss k).map (db k 2)))/\Below w.1.size w w'
theorem BX(k:Nat)(a)(n c)(ss)(w)(U:aO w a n (ap ss))(a7:1<=k/\k<=3)(q2:n<=1048576)(j9:ru w):
 Calls prog 219 #[.agg #[Ud k,.slice a n c]] w (sO ss k w):=by
 obtain⟨a0,b2⟩:=aB (w.alloc (.cells #[Ud k,.slice a n c] 28));have c3:Below w.1.size w a0:=by rw[b2];exact aZ.alloc aQ _
 have t3:a0.1.size=w.1.size+1:=by rw[b2];simp
 have f6:bA a0 w.1.size #[Ud k,.slice a n c]:=by rw[b2];exact bA.new _ _ _
 have g8:=aa (λ(V:World) (E:Below a0.1.size a0 V)=>show(V.cell? ⟨w.1.size,0,none⟩=some (Ud k)/\V.cell? ⟨w.1.size,1,none⟩=some (.slice a n c))/\Below w.1.size w V from⟨⟨(f6.below E).cell 0,(f6.below E).cell 1⟩,c3.trans (E.mono (by omega))⟩);have g5:=aa (λ(V:World) (d0:ByteArray) (g1:d0.size<=1048576) (E:Below w.1.size w V)=>wu (k:Int) a n c ss d0 V (U.below E aQ) g1 q2 (em j9 E aQ));have b7:=aa (λ(V:World) (E:Below a0.1.size a0 V)=>Hl k 2 145 (.agg #[Ud k,.slice a n c]) (Jb ss k) V a7 (by omega) (λi o6 _ p3=>by
  have:=g5.o o6 (db k 2 i) (by rw[ce];omega) (c3.trans ((E.trans (p3.mono E.size)).mono c3.size));rw[eq] at this;exact this) (λx w=>Tryz.call145 _ w))
 unfold dC at b7;rw[Ka] at b7;have i8:=CT (ss:=ss) a7.2;have e5:=aa (λ(t i:Nat) (h:(gD ss k)[t]? =some i)=>CU h);obtain⟨I,c5⟩:=aB (gD ss k);obtain⟨M,f3⟩:=aB (((List.range (k^2)).filter (Jb ss k)).length);have d5:I.length=M:=by rw[c5,f3];rfl
 rw[<-f3,<-c5] at b7;rw[<-c5] at i8 e5;have Q:=aa c5;have r6:=aa c3;clear U c3 j9 f3 f6 c5;go_enter func219,ntmps219;obtain⟨⟨r1,r2⟩,_⟩:=g8.o a0 aZ;go_wp2_with(rw[<-b2]);first|rw[<-b2]|skip
 clear b2;refine(b7.o a0 aZ).mono ?_;rintro e D ⟨v,rfl,a1,i9⟩;obtain⟨p2,s1,rfl⟩:=dm a1;have e1:aO D p2 M (ap (I.map (db k 2))):=by
  obtain⟨a',c',j4,e1⟩:=aS a1 (by omega);simp only[aJ,true_and] at j4;obtain⟨rfl,rfl⟩:=j4;exact e1
 have h7:=aa e1;have g6:=aa i9;have d4:=aa (λ(V:World) (E:Below D.1.size D V)=>g8.o V (g6.o.trans (E.mono g6.o.size)));have m0:=aa (λ(V:World) (d0:ByteArray) (g1:d0.size<=1048576) (E:Below D.1.size D V)=>g5.o V d0 g1 (d4.o V E).2);obtain⟨J,f4⟩:=aB (kd ss k);have n5:=aa (λ(t i:Nat) (h:I[t]? =some i)=>show J.take (t+1)=J.take t++[uA ss k i M] from by
  rw[f4,Ma (by rw[<-Q.o];exact h),<-Q.o,d5])
 have b9:=aa f4;have s5:M<=9:=by rw[<-d5];exact i8
 have Y:=aa d5;have b8:=aa (bd (w:=D) (base:=D.1.size) (e:=37) #[] [] rfl aQ (by unfold maxLen;simp));have h8:=aa (show bS 3 (D.alloc (.cells #[] 37)) D.1.size [] (J.take 0) from bS.nils 3 _ _ 0);have h0:=aa (show Below D.1.size D (D.alloc (.cells #[] 37)) from aZ.alloc aQ _);clear a1 i9 e1 f4 d5 b7 r1 r2;go_wp2;go_loopw[4,21] (λr0 i wr=>∃(t:Nat) (a5:List Value),t<=M/\i= Ud t/\wr.ownsRow D.1.size 37 1 r0 t a5/\bS 3 wr D.1.size a5 (J.take t)/\Below D.1.size D wr) (λ_ i _=>M-(intOf i).toNat);exact⟨0,[],by omega,rfl,b8.o,h8.o,h0.o⟩;clear b8 h8 h0;obtain⟨t,a5,t4,rfl,a1,W,F⟩:=hrel;by_cases p9:t<M
 ·have t5:(t:Int)<(M:Int):=by omega
  obtain⟨i,hi⟩:=aE (l:=I) (n:=t) (by rw[Y.o];exact p9);obtain⟨b,c9,rfl,c6,b3⟩:=h7.o.at_ (by omega);have f7:=(F.cell (p:=⟨b,c9+t,none⟩) c6).trans (b3 t (.string (db k 2 i)) (by simp[ap,hi]));have p8:=(e5.o t i hi).1;have q7:(db k 2 i).size=2:=ce k 2 i;have q6:=nD a7 p8 (by rw[q7];omega);have n6:=aa (n5.o t i hi);have m4:=aa (λ(V:World) (E:Below D.1.size D V) (j q:Nat) (O:I[j]? =some q)=>show V.cell? ⟨b,c9+j,none⟩=some (.string (db k 2 q)) from(E.cell (p:=⟨b,c9+j,none⟩) c6).trans (b3 j (.string (db k 2 q)) (by simp[ap,O])));have m7:=aa (λ(q:Nat) (O:q<k^2)=>pA (i:=i) a7 O);obtain⟨u,t6⟩:=aB (db k 2 i);have n3:=aa a1;have o4:=aa W;have m3:=aa F;have l1:=F.size;have h9:=aa (show bS 3 (wr.alloc (.cells #[] 3)) D.1.size (a5++[.slice (some ⟨wr.1.size,0,none⟩) 0 0]) (J.take t++[uA ss k i 0]) from bS.snoc o4.o l1 [] #[] rfl (by unfold maxLen;simp));have h5:=aa (ai n3.o (aZ.alloc aQ (.cells #[] 3)));have g7:=aa (m3.o.alloc l1 (.cells #[] 3));clear a1 W F hi b3;go_wp2;go_loopw[7,28] (λo7 g3 wr=>∃(j:Nat) (g4:Value),j<=M/\g3= Ud j/\bv (g4=o7)/\wr.ownsRow D.1.size 37 1 u4 t a5/\bS 3 wr D.1.size (a5++[g4]) (J.take t++[uA ss k i j])/\Below D.1.size D wr) (λ_ g3 _=>M-(intOf g3).toNat);exact⟨0,_,by omega,rfl,aa rfl,h5.o,h9.o,g7.o⟩;clear h5 h9 g7 f7;obtain⟨j,g4,s9,rfl,f9,d9,W,F⟩:=hrel;have f9:=f9.o;subst f9;have t1:=Gb ss k i j;obtain⟨s3,cr,q5⟩:=dm (vK W);subst q5;by_cases q1:j<M
  ·have t0:(j:Int)<(M:Int):=by omega
   obtain⟨q,O⟩:=aE (l:=I) (n:=j) (by rw[Y.o];exact q1);have k6:=(e5.o j q O).1;have f7:=m4.o wr F j q O;have l6:(db k 2 q).size=2:=ce k 2 q;have q8:=pB a7 k6 (by rw[l6];omega);have n4:=aa (m7.o q k6);have c1:=aa (λh:eP ss k i q=true=>Oo (i:=i) (by rw[<-Q.o];exact O) h);have b0:=aa (λh:eP ss k i q=false=>QR (i:=i) (by rw[<-Q.o];exact O) h);have a2:=aa (show eP ss k i q=(decide (i%k=q/k)&&oS ss (oH k i++[dO (q%k)])) from rfl);have b1:=aa d9;have d3:=aa W;have a8:=aa F;have b4:=F.size;obtain⟨v,t9⟩:=aB (db k 2 q);obtain⟨x,e2⟩:=aB (i%k);obtain⟨y,l7⟩:=aB (q/k);obtain⟨d1,i6⟩:=aB (eP ss k i q);have t7:¬(9223372036854775807<(db k 2 i).size+1):=(by omega);rw[<-i6] at a2 c1 b0;rw[<-e2] at q6 a2;rw[<-l7] at q8 a2;clear i6 d9 W F O e2 l7;by_cases g2:x=y
   ·have h1:=aa (show d1=oS ss (oH k i++[dO (q%k)]) from by rw[a2.o,decide_eq_true g2];rfl);have g9:=aa (λ(V:World) (E:Below wr.1.size wr V)=>show Calls prog 145 #[.agg #[Ud k,.slice a n c],.string (db k 2 i++(db k 2 q).extract 1 2)] V λe w'=>e= .returned (.bool d1)/\Below V.1.size V w' from by
     have:=m0.o V (db k 2 i++(db k 2 q).extract 1 2) (by rw[aK,bl];omega) (a8.o.trans (E.mono b4));rw[n4.o,<-h1.o] at this;exact this)
    have a3:Below wr.1.size wr wr.drew:=aZ.drew;have h4:=aa (λ(V:World) (E:Below wr.1.size wr V)=>show V.cell? ⟨w.1.size,0,none⟩=some (Ud k)/\V.cell? ⟨w.1.size,1,none⟩=some (.slice a n c)/\Below wr.1.size wr V from by
     obtain⟨⟨r4,r5⟩,_⟩:=d4.o V (a8.o.trans (E.mono b4));exact⟨r4,r5,E⟩)
    clear a2 h1;subst g2;have s7:((db k 2 q).extract 1 2).size=1:=by rw[bl,l6];rfl
    have t8:¬(9223372036854775807<(db k 2 i).size+((db k 2 q).extract 1 2).size):=(by omega);go_wp2;go_region_held3(λV=>V.cell? ⟨w.1.size,0,none⟩=some (Ud k)/\V.cell? ⟨w.1.size,1,none⟩=some (.slice a n c)/\Below wr.1.size wr V)
     (first|with_reducible exact h4.o _ a3)
     (first|(go_at_call 145;refine(g9.o _ a3).mono ?_;rintro e u3 ⟨rfl,j0⟩;have a3:=a3.trans (j0.mono a3.size)))
    all_goals
     have c0:=aa (d3.o.below a3)
     have e8:=aa (ai b1.o a3)
     have a9:=aa (a8.o.trans (a3.mono b4))
     have l2:=a9.o.size
     clear h4 g9 j0
     cases d1 with
     |false=>
      have Z:=aa (b0.o rfl);clear c1 b0;go_wp2;go_roundw;exact⟨j+1,_,by omega,by go_num,aa rfl,e8.o,by rw[Z.o];exact c0.o,a9.o⟩;simp[intOf];omega
     |true=>
      have Z:=aa (c1.o rfl);clear c1 b0;go_wp2_with(first|(at_builtin;go_must(refine jH rfl _ _ 37 rfl D.1.size 3 underlying37 bK _ _ _ (Nat.cast j) (vK (c0.o)) rfl rfl (by omega) l2 ?_);intro i2 i1 r3 c8 a4 k4));have n8:=aa (vB (v':=.slice (some ⟨i2,0,none⟩) ((uA ss k i j).length+1) i1) (x:=(Nat.cast j)) c0.o (by simpa[af] using c8) a4 (tm k4));have e9:=aa (e8.o.kept a4 (eD e8.o (vK c0.o) (by decide)));have e3:=aa (a9.o.grown a4 l2 (λq O=>((vK c0.o).lt q O).1));clear c8 a4 k4;go_roundw;exact⟨j+1,.slice (some ⟨i2,0,none⟩) ((uA ss k i j).length+1) i1,by omega,by go_num,aa rfl,e9.o,by rw[Z.o];exact n8.o,e3.o⟩;simp[intOf];omega
   ·have a2:=aa (show d1=false from by rw[a2.o,decide_eq_false g2];rfl);have Z:=aa (b0.o a2.o);have c2:((x:Int)==(y:Int))=false:=by simp;omega
    have s4:((97+(x:Int))==(97+(y:Int)))=false:=by simp;omega
    have i3:decide ((x:Int)=(y:Int))=false:=decide_eq_false (by omega);clear c1 b0;go_wp2;go_quiet(fail);go_wp2;go_roundw;exact⟨j+1,_,by omega,by go_num,aa rfl,b1.o,by rw[Z.o];exact d3.o.below (aA aZ _),aA a8.o _⟩;simp[intOf];omega
  ·obtain rfl:j=M:=by omega
   have b1:=aa d9;have d3:=aa W;have a8:=aa F;have b4:=F.size;clear d9 W F;go_wp2_with(first|(at_builtin;go_must(refine eu rfl _ _ 24 rfl D.1.size 37 (.slice none 0 0) 24 underlying24 eS rfl u4 t a5 _ b1.o rfl rfl rfl (by omega) (by unfold maxLen;omega) b4 ?_);intro u2 u5 q4 j7));have n9:=aa (d3.o.kept b1.o (by decide) j7);have m1:=aa (a8.o.grown j7 b4 (λq O=>(b1.o.lt q O).1));go_roundw;exact⟨t+1,_,by omega,by go_num,q4,by rw[n6.o];exact n9.o,m1.o⟩;simp[intOf];omega
 ·obtain rfl:t=M:=by omega
  have j6:J.take t=J:=aM (by rw[b9.o,Ga,<-Q.o,Y.o];exact aN _);rw[j6] at W;have l3:=F.size;have d6:J.length=t:=by rw[b9.o,Ga,<-Q.o,Y.o]
  obtain⟨s2,s0,q3⟩:=dm a1;have j8:ct 37 3 wr D.1.size u4 J:=⟨a5,by rw[d6];exact a1,W⟩;have k8:∀(r:List Int),r∈J->r.length<=9:=λr U=>by
   rw[b9.o] at U;obtain⟨i,_,rfl⟩:=bi.1 U;have c2:=Gb ss k i (gD ss k).length;unfold uA at c2;rw[<-Q.o,Y.o] at c2;rw[<-Q.o,Y.o];omega
  have k9:∀(i:Nat) (r:List Int),J[i]? =some r->∀x∈r,0<=x/\x<(t:Int):=λi r U x e2=>by
   rw[b9.o] at U;unfold kd at U;rw[dl,eV] at U;obtain⟨y,_,rfl⟩:=U;obtain⟨z,q9,rfl⟩:=bi.1 e2;have i3:=aD.1 (bY.1 q9).1;rw[<-Q.o,Y.o] at i3;omega
  obtain⟨o8,p0,k2,g0⟩:=iw j8 (by rw[d6];omega) (λr U=>by have:=k8 r U;omega);rw[d6] at k2 g0;have e6:=aa (λ(V:World) (E:Below wr.1.size wr V)=>oZ t J o8 p0 V (g0.below E aQ) k9 (by omega));unfold oh at e6;have m2:=aa F;have n0:=aa (λ(s i:Nat) (h:I[s]? =some i)=>show jb J t s↔mI ss k i=true from by
   rw[b9.o,sa];have i4:=Mi (ss:=ss) (k:=k) (s:=s) (i:=i) (by rw[<-Q.o];exact h);rw[<-Q.o,Y.o] at i4;exact i4)
  have n7:=aa (show iu ss k=(I.take t).filter (mI ss k) from by rw[SB,<-Q.o,aM (by rw[Y.o];exact aN _)]);have h6:=aa (bd (w:=wr) (base:=D.1.size) (e:=9) #[] [] rfl l3 (by unfold maxLen;simp));subst k2;have j1:Below wr.1.size wr (wr.alloc (.cells #[] 9)):=aZ.alloc aQ _;have b5:=aa j1;clear j6 a1 W F d6 q3 j8 k8 k9 g0 j1;go_wp2_with fail;refine(e6.o _ b5.o).mono ?_;rintro e l9 ⟨u1,K,rfl,e0,f5,i7⟩;have i5:Below D.1.size D l9:=(m2.o.trans (b5.o.mono l3)).trans (f5.mono (by have:=b5.o.size;omega));have k5:=ai h6.o f5;have k3:=aT (base':=D.1.size) e0 (by have:=b5.o.size;omega);obtain⟨i0,o9,rfl⟩:=dm e0;have d7:∃a6,(0<t->i0=some ⟨a6,0,none⟩/\a6<l9.1.size)/\a6≠wr.1.size:=by
   by_cases l5:0<t
   ·obtain⟨p1,f2,c7,p6,q0⟩:=e0.form l5;simp only[aJ,true_and] at c7;simp at p6;exact⟨p1,λ_=>⟨c7.1,q0⟩,by omega⟩
   ·exact⟨wr.1.size+1,λh=>absurd h l5,by omega⟩
  obtain⟨a6,d7,p7⟩:=d7;have m6:=aa d7;have m9:=aa (λ(s i:Nat) (l0:s<t) (h:I[s]? =some i)=>show K s=mI ss k i from bF.2 ((i7 s l0).trans (n0.o s i h)));have b8:=aa k5;have h3:=aa k3;have a9:=aa i5;have k0:=aa (show(Value.slice (some ⟨wr.1.size,0,none⟩) 0 0).ownBlock≠some a6 by simp[Value.ownBlock];omega);clear e0 f5 i7 i5 k5 k3 d7 p7 e6 h6 b5;go_wp2;go_loopw[10,60] (λl8 i wr=>∃s:Nat,s<=t/\i= Ud s/\bv (wr.ownsRow D.1.size 9 1 l8 ((I.take s).filter (mI ss k)).length (ap (((I.take s).filter (mI ss k)).map (db k 2))))/\bv (l8.ownBlock≠some a6)/\bv (wr.ownsRow D.1.size 4 1 (.slice i0 t o9) t (bP (fq K t)))/\bv (Below D.1.size D wr)) (λ_ i _=>t-(intOf i).toNat);exact⟨0,by omega,rfl,aa b8.o,k0,h3,a9⟩;clear b8 k0 h3 a9;obtain⟨s,l0,rfl,f0,e7,e4,b6⟩:=hrel;obtain⟨f2,j2⟩:=aB (((I.take s).filter (mI ss k)).length);have s6:f2<=9:=by
   have c2:=bz (mI ss k) (I.take s);rw[cY] at c2;omega
  by_cases d8:s<t
  ·have t2:(s:Int)<(t:Int):=by omega
   obtain⟨i,hi⟩:=aE (l:=I) (n:=s) (by rw[Y.o];exact d8);obtain⟨p4,s8⟩:=m6.o (by omega);subst p4;obtain⟨r7,r9,j5,k7⟩:=aS e4.o (by omega);simp only[aJ,true_and] at j5;obtain⟨rfl,rfl⟩:=j5;obtain⟨r8,u0,c7,p5,j3⟩:=xu k7 d8;simp only[aI,cA,and_true] at c7;obtain⟨rfl,rfl⟩:=c7;have f8:=j3 s d8;rw[aW] at f8;obtain⟨b,c9,rfl,c6,b3⟩:=h7.o.at_ (by omega);have f7:=(b6.o.cell (p:=⟨b,c9+s,none⟩) c6).trans (b3 s (.string (db k 2 i)) (by simp[ap,hi]));have n1:=aa (m9.o s i d8 hi);have f1:=aa (λh:mI ss k i=true=>RC (ss:=ss) (k:=k) hi h);have Z:=aa (λh:mI ss k i=false=>Ta (ss:=ss) (k:=k) hi h);have l4:=b6.o.size;clear k7 j3 c6 b3 hi;rw[n1.o] at f8;obtain⟨L,c4⟩:=aB (mI ss k i);rw[<-c4] at f8;cases L with
   |false=>
    have n2:=aa (Z.o c4.symm);clear f1 Z c4;go_wp2;go_roundw;exact⟨s+1,by omega,by go_num,aa (by rw[n2.o];exact f0.o),e7,e4,b6⟩;simp[intOf];omega
   |true=>
    have o5:=aa (f1.o c4.symm);clear f1 Z c4;have d2:=f0.o;rw[<-j2] at d2;go_wp2_with(first|(at_builtin;go_must(refine iM rfl _ _ 26 rfl D.1.size 9 (.string ByteArray.empty) 16 underlying26 iG rfl _ f2 _ _ d2 rfl rfl rfl (by omega) (by unfold maxLen;omega) l4 a6 e7.o p5 ?_);intro v' r3 c8 a4 k1));have e9:=aa c8;have m8:=aa (e4.o.kept a4 (Or.inr λe=>e7.o (by rw[<-e];rfl)));have e3:=aa (b6.o.grown a4 l4 (λk a7=>(d2.lt k a7).1));have m5:=aa k1;clear c8 a4 k1 d2;go_roundw;exact⟨s+1,by omega,by go_num,aa (by rw[o5.o,az,ek,<-j2];simpa[ap] using e9.o),m5,m8,e3⟩;simp[intOf];omega
  ·obtain rfl:s=t:=by omega
   have h2:=aa (aT (base':=w.1.size) f0.o (d4.o D aZ).2.size);rw[<-n7.o] at h2;go_wp2;go_ret;exact⟨_,rfl,h2.o,(d4.o wr b6.o).2⟩
theorem DO{L:List Nat}{f}{t q:Nat}(D:L[t]? =some q)(h:f q=true):L.any f=true:=bB.2 ⟨q,aj D,h⟩
theorem DP{L:List Nat}{f}{t q}(D:L[t]? =some q)(h:f q=false)(E:(L.take t).any f=false):(L.take (t+1)).any f=false:=by
 rw[bg,D,fO,E];simp[h]
theorem MT(k i M)(a)(n c)(ss)(b0)(d6)(L:List Nat)(w)(b8:aO w a n (ap ss))(b9:∀t∈ss,t.size<=1048576)(a2:1<=k/\k<=3)(d8:n<=1048576)(hi:i<k^2)(b3:∀q∈L,q<k^2)(e7:M<=1048576)(a3:aO w b0 M (ap (L.map (db k 2)))):
 Calls prog 196 #[.agg #[Ud k,.slice a n c],.slice b0 M d6,.string (db k 2 i),.bool true] w λe w'=>e= .returned (.bool (L.any (eP ss k i)))/\Below w.1.size w w':=by
 have b4:L.length=M:=by simpa[ap] using a3.len
 have d2:=aa b4;have c6:=aa (λ(V:World) (c5:ByteArray) (e2:c5.size<=1048576) (Q:Below w.1.size w V)=>me a n c ss c5 V (b8.below Q aQ) b9 e2 d8);obtain⟨F,O⟩:=aB (w.alloc (.cells #[Ud k,.slice a n c] 28));have b1:Below w.1.size w F:=by rw[O];exact aZ.alloc aQ _
 have f0:F.1.size=w.1.size+1:=by rw[O];simp
 have a0:bA F w.1.size #[Ud k,.slice a n c]:=by rw[O];exact bA.new _ _ _
 have U:=aa (λ(V:World) (Q:Below F.1.size F V)=>show(V.cell? ⟨w.1.size,0,none⟩=some (Ud k)/\V.cell? ⟨w.1.size,1,none⟩=some (.slice a n c))/\Below w.1.size w V from⟨⟨(a0.below Q).cell 0,(a0.below Q).cell 1⟩,b1.trans (Q.mono (by omega))⟩);have d1:=aa (λ(t q:Nat) (h:L[t]? =some q)=>b3 q (aj h));have d5:=aa a3;have e0:(db k 2 i).size=2:=ce k 2 i;have c0:=nD a2 hi (by rw[e0];omega);have d0:=aa (λ(q:Nat) (I:q<k^2)=>pA (i:=i) a2 I);obtain⟨f,a1⟩:=aB (eP ss k i);have c9:=aa a1;have c8:=aa (show L.any f=(L.take M).any f by rw[aM (by omega)]);rw[<-a1];clear b8 b9 a1 b3 a3 b1 a0 b4;go_enter func196,ntmps196;go_wp2_with(rw[<-O]);first|rw[<-O]|skip
 clear O;go_loopw[9] (λa4 wr=>∃t:Nat,t<=M/\a4= Ud t/\bv ((L.take t).any f=false)/\bv (Below F.1.size F wr)) (λa4 _=>M-(intOf a4).toNat);exact⟨0,by omega,rfl,aa rfl,aa aZ⟩;obtain⟨t,f1,rfl,a9,J⟩:=hrel;by_cases d7:t<M
 ·have f2:(t:Int)<(M:Int):=by omega
  obtain⟨q,I⟩:=aE (l:=L) (n:=t) (by rw[d2.o];exact d7);obtain⟨b,e3,rfl,b5,b6⟩:=d5.o.at_ (by omega);obtain⟨⟨f5,f6⟩,Z⟩:=U.o _ J.o;have e8:=(Z.cell (p:=⟨b,e3+t,none⟩) b5).trans (b6 t (.string (db k 2 q)) (by simp[ap,I]));have b7:=d1.o t q I;have c1:(db k 2 q).size=2:=ce k 2 q;have e1:=pB a2 b7 (by rw[c1];omega);have d3:=aa (d0.o q b7);have a8:=aa (λh:f q=true=>DO (f:=f) I h);have Y:=aa (λh:f q=false=>DP (f:=f) I h a9.o);have D:=aa (show f q=(decide (i%k=q/k)&&oS ss (oH k i++[dO (q%k)])) from by rw[c9.o];rfl);have c7:=aa Z;obtain⟨x,c2⟩:=aB (i%k);obtain⟨y,c4⟩:=aB (q/k);obtain⟨E,b2⟩:=aB (f q);rw[<-b2] at D a8 Y;have d9:=c0;rw[<-c2] at d9 D;rw[<-c4] at e1 D;clear b2 I c2 c4 b6 b5 Z c0;by_cases c3:x=y
  ·subst c3;have e9:((db k 2 q).extract 1 2).size=1:=by rw[bl,c1];rfl
   have f3:¬(9223372036854775807<(db k 2 i).size+1):=(by omega);have f4:¬(9223372036854775807<(db k 2 i).size+((db k 2 q).extract 1 2).size):=(by omega);have a7:=aa (show E=oS ss (oH k i++[dO (q%k)]) from by rw[D.o,decide_eq_true rfl];rfl);have a6:=aa (λr:Nat=>show Calls prog 152 #[.slice a n c,.string (db k 2 i++(db k 2 q).extract 1 2)] (wr.drewN r) λe w'=>e= .returned (.bool E)/\wr.drewN r=w' from by
    have:=c6.o (wr.drewN r) (db k 2 i++(db k 2 q).extract 1 2) (by rw[aK,bl];omega) (c7.o.trans (aA aZ _));rw[d3.o,<-a7.o] at this;exact this)
   clear D a7;go_wp2;go_quiet((go_at_call 152;exact aF ((a6.o _).mono (λe w' h=>⟨h.1,h.2.symm⟩))));have a5:=aa (aA J.o nq);clear a6;cases E with
   |true=>
    have d4:=aa (a8.o rfl);go_wp2;go_ret;exact⟨aG d4.o.symm,(U.o _ a5.o).2⟩
   |false=>
    have W:=aa (Y.o rfl);go_wp2;go_quiet(fail);go_wp2;go_roundw;exact⟨t+1,by omega,by go_num,W,aa (aA J.o _)⟩;simp[intOf];omega
  ·have D:=aa (show E=false from by rw[D.o,decide_eq_false c3];rfl);have W:=aa (Y.o D.o);have e4:((x:Int)==(y:Int))=false:=by simp;omega
   have e5:((97+(y:Int))==(97+(x:Int)))=false:=by simp;omega
   have e6:decide ((y:Int)=(x:Int))=false:=decide_eq_false (by omega);go_wp2;go_quiet(fail);have a5:=aa (aA J.o nq);go_wp2;go_quiet(fail);go_wp2;go_roundw;exact⟨t+1,by omega,by go_num,W,aa (aA J.o _)⟩;simp[intOf];omega
 ·obtain rfl:t=M:=by omega
  go_wp2;go_ret;exact⟨aG (a9.o.symm.trans c8.o.symm),(U.o _ J.o).2⟩
theorem MU(k i M)(a)(n c)(ss)(b1)(e3)(L:List Nat)(w)(c2:aO w a n (ap ss))(c3:∀t∈ss,t.size<=1048576)(a3:1<=k/\k<=3)(e5:n<=1048576)(hi:i<k^2)(b6:∀q∈L,q<k^2)(f5:M<=1048576)(a4:aO w b1 M (ap (L.map (db k 2)))):
 Calls prog 196 #[.agg #[Ud k,.slice a n c],.slice b1 M e3,.string (db k 2 i),.bool false] w λe w'=>e= .returned (.bool (L.any λr=>eP ss k r i))/\Below w.1.size w w':=by
 have b7:L.length=M:=by simpa[ap] using a4.len
 have d8:=aa b7;have d1:=aa (λ(V:World) (d0:ByteArray) (e9:d0.size<=1048576) (J:Below w.1.size w V)=>me a n c ss d0 V (c2.below J aQ) c3 e9 e5);obtain⟨F,O⟩:=aB (w.alloc (.cells #[Ud k,.slice a n c] 28));have b2:Below w.1.size w F:=by rw[O];exact aZ.alloc aQ _
 have f8:F.1.size=w.1.size+1:=by rw[O];simp
 have a1:bA F w.1.size #[Ud k,.slice a n c]:=by rw[O];exact bA.new _ _ _
 have W:=aa (λ(V:World) (J:Below F.1.size F V)=>show(V.cell? ⟨w.1.size,0,none⟩=some (Ud k)/\V.cell? ⟨w.1.size,1,none⟩=some (.slice a n c))/\Below w.1.size w V from⟨⟨(a1.below J).cell 0,(a1.below J).cell 1⟩,b2.trans (J.mono (by omega))⟩);have d7:=aa (λ(t q:Nat) (h:L[t]? =some q)=>b6 q (aj h));have e2:=aa a4;have c5:(db k 2 i).size=2:=ce k 2 i;have c4:=pB a3 hi (by rw[c5];omega);have d6:=aa (λ(q:Nat) (U:q<k^2)=>pA (i:=q) (j:=i) a3 hi);obtain⟨f,a2⟩:=aB (α:=Nat->Bool) ((λr=>eP ss k r i));have d5:=aa a2;have d4:=aa (show L.any f=(L.take M).any f by rw[aM (by omega)]);rw[<-a2];clear c2 c3 a2 b6 a4 b2 a1 b7;go_enter func196,ntmps196;go_wp2_with(rw[<-O]);first|rw[<-O]|skip
 clear O;go_loopw[9] (λa5 wr=>∃t:Nat,t<=M/\a5= Ud t/\bv ((L.take t).any f=false)/\bv (Below F.1.size F wr)) (λa5 _=>M-(intOf a5).toNat);exact⟨0,by omega,rfl,aa rfl,aa aZ⟩;obtain⟨t,f9,rfl,b0,D⟩:=hrel;by_cases e4:t<M
 ·have g0:(t:Int)<(M:Int):=by omega
  obtain⟨q,U⟩:=aE (l:=L) (n:=t) (by rw[d8.o];exact e4);obtain⟨b,c9,rfl,b8,b9⟩:=e2.o.at_ (by omega);obtain⟨⟨f0,f1⟩,Q⟩:=W.o _ D.o;have c0:=(Q.cell (p:=⟨b,c9+t,none⟩) b8).trans (b9 t (.string (db k 2 q)) (by simp[ap,U]));have c1:=d7.o t q U;have e8:(db k 2 q).size=2:=ce k 2 q;have e7:=nD a3 c1 (by rw[e8];omega);have d9:=aa (d6.o q c1);have a9:=aa (λh:f q=true=>DO (f:=f) U h);have a0:=aa (λh:f q=false=>DP (f:=f) U h b0.o);have I:=aa (show f q=(decide (q%k=i/k)&&oS ss (oH k q++[dO (i%k)])) from by rw[d5.o];rfl);have d3:=aa Q;obtain⟨x,c6⟩:=aB (i/k);obtain⟨y,c8⟩:=aB (q%k);obtain⟨E,b5⟩:=aB (f q);rw[<-b5] at I a9 a0;have e6:=c4;rw[<-c6] at e6 I;rw[<-c8] at e7 I;clear b5 U c6 c8 b9 b8 Q c4;by_cases c7:x=y
  ·subst c7;have f7:((db k 2 i).extract 1 2).size=1:=by rw[bl,c5];rfl
   have g1:¬(9223372036854775807<(db k 2 q).size+1):=(by omega);have g2:¬(9223372036854775807<(db k 2 q).size+((db k 2 i).extract 1 2).size):=(by omega);have a8:=aa (show E=oS ss (oH k q++[dO (i%k)]) from by rw[I.o,decide_eq_true rfl];rfl);have a7:=aa (λV:World=>λJ:Below w.1.size w V=>show Calls prog 152 #[.slice a n c,.string (db k 2 q++(db k 2 i).extract 1 2)] V λe w'=>e= .returned (.bool E)/\V=w' from by
    have:=d1.o V (db k 2 q++(db k 2 i).extract 1 2) (by rw[aK,bl];omega) J;rw[d9.o,<-a8.o] at this;exact this)
   clear I a8;go_wp2;go_quiet(fail);obtain⟨a6,Y⟩:=aB (wr.drewN nq);rw[<-Y];have b4:Below F.1.size F a6:=by rw[Y];exact aA D.o _
   have b3:=b4;clear D;have D:=aa b3;have f6:a6.cell? ⟨b,c9+t,none⟩=some (.string (db k 2 q)):=by rw[Y];simpa using c0
   obtain⟨⟨f0,f1⟩,Q⟩:=W.o _ D.o;have e0:=aa (λr:Nat=>a7.o (a6.drewN r) (aA Q _));clear c0 Y b4 b3 Q d3;go_wp2;go_quiet((go_at_call 152;exact aF ((e0.o _).mono (λe w' h=>⟨h.1,h.2.symm⟩))));have d2:=aa (aA D.o nq);clear a7;cases E with
   |true=>
    have e1:=aa (a9.o rfl);go_wp2;go_ret;exact⟨aG e1.o.symm,(W.o _ d2.o).2⟩
   |false=>
    have Z:=aa (a0.o rfl);go_wp2;go_roundw;exact⟨t+1,by omega,by go_num,Z,aa (aA D.o _)⟩;simp[intOf];omega
  ·have I:=aa (show E=false from by rw[I.o,decide_eq_false (λe=>c7 e.symm)];rfl);have Z:=aa (a0.o I.o);have f2:((x:Int)==(y:Int))=false:=by simp;omega
   have f3:((97+(y:Int))==(97+(x:Int)))=false:=by simp;omega
   have f4:decide ((y:Int)=(x:Int))=false:=decide_eq_false (by omega);go_wp2;go_quiet(fail);go_wp2;go_quiet(fail);go_wp2;go_roundw;exact⟨t+1,by omega,by go_num,Z,aa (aA D.o _)⟩;simp[intOf];omega
 ·obtain rfl:t=M:=by omega
  go_wp2;go_ret;exact⟨aG (b0.o.symm.trans d4.o.symm),(W.o _ D.o).2⟩
def Tw(ss:List ByteArray)(k:Nat)(L:List Nat):List Nat:=L.filter λi=>L.any (eP ss k i)&&L.any λr=>eP ss k r i
def Tn(ss:List ByteArray)(k:Nat)(L:List Nat):Prop:=∃K:Nat->Bool,L=(List.range (k^2)).filter K/\(∀i,i<k^2->yK ss k i->K i=true)/\∀i,i<k^2->K i=true->Jb ss k i=true
theorem Ts(ss)(k):Tn ss k (gD ss k):=⟨Jb ss k,rfl,λ_ _ h=>(kq h).2,λ_ _ h=>h⟩
theorem SC{ss}{k}{L}(h:Tn ss k L):∀q∈L,q<k^2:=by
 obtain⟨K,rfl,_,_⟩:=h;intro q D;exact aD.1 (bY.1 D).1
theorem Hd(ss)(k)(K)(i):(((List.range (k^2)).filter K).any (eP ss k i)&&((List.range (k^2)).filter K).any λr=>eP ss k r i)=AV ss k K i:=by
 unfold AV;rw[List.any_filter,List.any_filter]
theorem Of{ss}{k}{L}(h:Tn ss k L):Tn ss k (Tw ss k L):=by
 obtain⟨K,rfl,D,I⟩:=h;refine⟨λi=>K i&&AV ss k K i,?_,λi hi F=>by rw[aC];exact⟨D i hi F,PH D F⟩,λi hi E=>I i hi (by rw[aC] at E;exact E.1)⟩;unfold Tw;rw[List.filter_filter];refine eX λi _=> ?_
 rw[Hd,Bool.and_comm]
theorem QL{ss}{k}{L}(h:Tn ss k L)(O:(Tw ss k L).length=L.length):L=iu ss k:=by
 obtain⟨K,rfl,E,F⟩:=h;have I:=List.length_filter_eq_length_iff.1 O;refine eX λi hi=> ?_
 have D:=aD.1 hi;rw[bF,sa];refine⟨λJ=>PI F (λj Q U=> ?_) D J,E i D⟩;have:=I j (bY.2 ⟨aD.2 Q,U⟩);rwa[Hd] at this
theorem SP(ss)(k)(L):(Tw ss k L).length<=L.length:=bz _ _
theorem SO{L:List Nat}{f}{t q}(D:L[t]? =some q)(h:f q=true):(L.take (t+1)).filter f=(L.take t).filter f++[q]:=by
 rw[bg,D,bE];simp[h]
theorem Tv{L:List Nat}{f}{t q}(D:L[t]? =some q)(h:f q=false):(L.take (t+1)).filter f=(L.take t).filter f:=by
 rw[bg,D,bE];simp[h]
def Qs(ss:List ByteArray)(k:Nat)(w:World)(e:Ending)(w':World):Prop:=∃v,e= .returned v/\w'.ownsRow w.1.size 9 1 v (iu ss k).length (ap ((iu ss k).map (db k 2)))/\Below w.1.size w w'
theorem MS(k:Nat)(a)(n c)(ss)(w)(c6:aO w a n (ap ss))(c7:∀t∈ss,t.size<=1048576)(a4:1<=k/\k<=3)(e7:n<=1048576):
 Calls prog 106 #[.agg #[Ud k,.slice a n c]] w (Qs ss k w):=by
 obtain⟨D,a3⟩:=aB (w.alloc (.cells #[Ud k,.slice a n c] 28));have c4:Below w.1.size w D:=by rw[a3];exact aZ.alloc aQ _
 have m2:D.1.size=w.1.size+1:=by rw[a3];simp
 have e2:bA D w.1.size #[Ud k,.slice a n c]:=by rw[a3];exact bA.new _ _ _
 have a5:=aa (λ(V:World) (I:Below D.1.size D V)=>show(V.cell? ⟨w.1.size,0,none⟩=some (Ud k)/\V.cell? ⟨w.1.size,1,none⟩=some (.slice a n c))/\Below w.1.size w V from⟨⟨(e2.below I).cell 0,(e2.below I).cell 1⟩,c4.trans (I.mono (by omega))⟩);have a2:=aa (show Calls prog 195 #[.agg #[Ud k,.slice a n c],Ud (2:Nat)] D (dC (Jb ss k) k 2 D) from MR k 2 a n c ss D (c6.below c4 aQ) c7 a4 (by omega) e7);unfold dC at a2;rw[Ka] at a2;have i3:=aa (λ(V:World) (L:List Nat) (M i:Nat) (W:Option Addr) (a9:Nat) (I:Below D.1.size D V) (hi:i<k^2) (d7:∀q∈L,q<k^2) (U:M<=1048576) (f0:aO V W M (ap (L.map (db k 2))))=>MT k i M a n c ss W a9 L V (c6.below (a5.o V I).2 aQ) c7 a4 e7 hi d7 U f0);have i2:=aa (λ(V:World) (L:List Nat) (M i:Nat) (W:Option Addr) (a9:Nat) (I:Below D.1.size D V) (hi:i<k^2) (d7:∀q∈L,q<k^2) (U:M<=1048576) (f0:aO V W M (ap (L.map (db k 2))))=>MU k i M a n c ss W a9 L V (c6.below (a5.o V I).2 aQ) c7 a4 e7 hi d7 U f0);have d9:=CT (ss:=ss) a4.2;have d4:=aa (Ts ss k);have h1:((List.range (k^2)).filter (Jb ss k)).length=(gD ss k).length:=rfl;rw[h1] at a2;obtain⟨i9,g1⟩:=aB (gD ss k);rw[<-g1] at a2 d9 d4;have k7:=c4.size;have h8:=aa (aV D.1.size D);clear c6 c7 c4 e2 h1 g1;go_enter func106,ntmps106;obtain⟨⟨k9,l0⟩,_⟩:=a5.o D h8.o;go_wp2_with(rw[<-a3]);first|rw[<-a3]|skip
 clear a3;refine(a2.o).mono ?_;rintro e m6 ⟨v,rfl,e8,g2⟩;obtain⟨W,a9,rfl⟩:=dm e8;have f8:=aa e8;have f1:=aa g2;clear e8 g2 k9 l0 a2;go_wp2;go_loopg[3] 9 (λk8 out wr=>∃(L:List Nat) (b0:Option Addr) (O:Nat),out= .slice b0 L.length O/\bv (wr.ownsRow D.1.size 9 1 (.slice b0 L.length O) L.length (ap (L.map (db k 2))))/\bv (Tn ss k L)/\bv (Below D.1.size D wr)/\L.length<=k8/\L.length<=9);exact⟨i9,W,a9,rfl,f8,d4,f1,d9,d9⟩;clear f8 d4 f1;obtain⟨L,b0,O,rfl,b8,c0,d0,j8,j7⟩:=hrel;obtain⟨M,U⟩:=aB L.length;have f4:=aa U.symm;have d8:=SC c0.o;have i5:=aa (λ(t q:Nat) (h:L[t]? =some q)=>d8 q (aj h));have f3:=aa d8;have f6:=aa (Of c0.o);have b6:=aa (λh=>QL c0.o h);have e6:=SP ss k L;obtain⟨f,e4⟩:=aB (α:=Nat->Bool) ((λi=>L.any (eP ss k i)&&L.any λr=>eP ss k r i));have i0:=aa e4;have g9:Tw ss k L=(L.take M).filter f:=by rw[aM (by omega),e4];rfl
 rw[g9] at f6 b6 e6;rw[<-U] at b8 b6 e6 j8 j7;rw[<-U];have h3:=d0.o.size;have c5:∃F,(0<M->b0=some ⟨F,0,none⟩/\F<wr.1.size)/\F≠wr.1.size:=by
  by_cases h5:0<M
  ·obtain⟨j1,l6,b1,m0,k5⟩:=b8.o.form h5;simp only[aJ,true_and] at b1;exact⟨j1,λ_=>⟨b1.1,k5⟩,by omega⟩
  ·exact⟨wr.1.size+1,λh=>absurd h h5,by omega⟩
 obtain⟨F,c5,k3⟩:=c5;have i1:=aa c5;have f7:=aa (bd (w:=wr) (base:=D.1.size) (e:=9) #[] [] rfl h3 (by unfold maxLen;simp));have e1:=(aV wr.1.size wr).alloc aQ (.cells #[] 9);have g0:=aa (ai b8.o e1);have f2:=aa (d0.o.trans (e1.mono h3));have f5:=aa (show(Value.slice (some ⟨wr.1.size,0,none⟩) 0 0).ownBlock≠some F by simp[Value.ownBlock];omega);clear U d8 c0 e4 g9 c5 k3 e1 b8 d0;go_wp2;go_loopw[4,5] (λv i wr=>∃t:Nat,t<=M/\i= Ud t/\bv (wr.ownsRow D.1.size 9 1 v ((L.take t).filter f).length (ap (((L.take t).filter f).map (db k 2))))/\bv (v.ownBlock≠some F)/\bv (wr.ownsRow D.1.size 9 1 (.slice b0 M O) M (ap (L.map (db k 2))))/\bv (Below D.1.size D wr)) (λ_ i _=>M-(intOf i).toNat);exact⟨0,by omega,rfl,f7,f5,g0,f2⟩;clear f7 f5 g0 f2;obtain⟨t,m3,rfl,a8,b7,c1,Q⟩:=hrel;have b3:=Q.o.size;by_cases k4:t<M
 ·have m4:(t:Int)<(M:Int):=by omega
  obtain⟨q,b2⟩:=aE (l:=L) (n:=t) (by rw[f4.o];exact k4);obtain⟨j9,m1⟩:=i1.o (by omega);subst j9;have h2:=i5.o t q b2;obtain⟨l4,l7,g5,e9⟩:=aS c1.o (by omega);simp only[aJ,true_and] at g5;obtain⟨rfl,rfl⟩:=g5;have f9:=aa e9;obtain⟨l5,m5,b1,k0,g3⟩:=e9.at_ (by omega);simp only[aI,cA,and_true] at b1;obtain⟨rfl,rfl⟩:=b1;have e3:=g3 t (.string (db k 2 q)) (by simp[ap,b2]);rw[aW] at e3;have E:Below wr.1.size wr wr.drew:=aZ.drew;have a0:=aa (λ(V:World) (I:Below wr.1.size wr V)=>show V.cell? ⟨w.1.size,0,none⟩=some (Ud k)/\V.cell? ⟨w.1.size,1,none⟩=some (.slice a n c)/\V.cell? ⟨F,t,none⟩=some (.string (db k 2 q))/\Below wr.1.size wr V from by
   obtain⟨⟨l1,l2⟩,_⟩:=a5.o V (Q.o.trans (I.mono b3));exact⟨l1,l2,(I.cell (p:=⟨F,t,none⟩) k0).trans e3,I⟩)
  obtain⟨c8,d5⟩:=aB (L.any (eP ss k q));obtain⟨c9,d6⟩:=aB (L.any λr=>eP ss k r q);have Z:=aa (show f q=(c8&&c9) from by rw[i0.o,d5,d6]);have b4:=aa (λ(V:World) (I:Below wr.1.size wr V)=>show Calls prog 196 #[.agg #[Ud k,.slice a n c],.slice (some ⟨F,0,none⟩) M O,.string (db k 2 q),.bool true] V λe w'=>e= .returned (.bool c8)/\Below V.1.size V w' from by
   have:=i3.o V L M q (some ⟨F,0,none⟩) O (Q.o.trans (I.mono b3)) h2 f3.o (by omega) (f9.o.below I aQ);rwa[<-d5] at this)
  have d1:=aa (λ(V:World) (I:Below wr.1.size wr V)=>show Calls prog 196 #[.agg #[Ud k,.slice a n c],.slice (some ⟨F,0,none⟩) M O,.string (db k 2 q),.bool false] V λe w'=>e= .returned (.bool c9)/\Below V.1.size V w' from by
   have:=i2.o V L M q (some ⟨F,0,none⟩) O (Q.o.trans (I.mono b3)) h2 f3.o (by omega) (f9.o.below I aQ);rwa[<-d6] at this)
  have c3:=aa (λh:f q=true=>SO (f:=f) b2 h);have a7:=aa (λh:f q=false=>Tv (f:=f) b2 h);clear e9 g3 e3 d5 d6 b2;cases c8 with
  |false=>
   have d2:=aa (a7.o (Z.o.trans rfl));clear c3 a7 Z d1;go_wp2;refine wp_region_held_drew (S:=(λV=>V.cell? ⟨w.1.size,0,none⟩=some (Ud k)/\V.cell? ⟨w.1.size,1,none⟩=some (.slice a n c)/\V.cell? ⟨F,t,none⟩=some (.string (db k 2 q))/\Below wr.1.size wr V)) (by kernel_rfl) (a0.o _ E) (λj4=> ?_);simp only[List.size_toArray,cZ,gZ,aW,Nat.reduceAdd];refine wpAnyH_take (i:=0) (v:=.agg #[Ud k,.slice a n c]) rfl (by kernel_rfl) (by kernel_rfl) (by kernel_rfl) (λ_ _ _ h=>h) (Or.inl ⟨by rfl,by intro w' J;(try dsimp only at J);go_simp⟩) (by assumption) ?_;try simp only[Act.put,bu,bV,bI,bH,ab,ac,ae]
   refine wpAnyH_take (i:=1) (v:=.slice (some ⟨F,0,none⟩) M O) rfl (by kernel_rfl) (by kernel_rfl) (by kernel_rfl) (λ_ _ _ h=>h) (Or.inl ⟨by rfl,by intro w' J;(try dsimp only at J);go_simp⟩) (by assumption) ?_;try simp only[Act.put,bu,bV,bI,bH,ab,ac,ae]
   refine wpAnyH_take (i:=2) (v:=.slice (some ⟨F,0,none⟩) M O) rfl (by kernel_rfl) (by kernel_rfl) (by kernel_rfl) (λ_ _ _ h=>h) (Or.inl ⟨by rfl,by intro w' J;(try dsimp only at J);go_simp⟩) (by assumption) ?_;try simp only[Act.put,bu,bV,bI,bH,ab,ac,ae]
   refine wpAnyH_take (i:=3) (v:=Ud t) rfl (by kernel_rfl) (by kernel_rfl) (by kernel_rfl) (λ_ _ _ h=>h) (Or.inl ⟨by rfl,by intro w' J;(try dsimp only at J);go_simp⟩) (by assumption) ?_;try simp only[Act.put,bu,bV,bI,bH,ab,ac,ae]
   refine wpAnyH_take (i:=4) (v:=.pointer (some ⟨F,t,none⟩)) rfl (by kernel_rfl) (by kernel_rfl) (by kernel_rfl) (λ_ _ _ h=>h) (Or.inl ⟨by rfl,by intro w' J;(try dsimp only at J);go_simp⟩) (by assumption) ?_;try simp only[Act.put,bu,bV,bI,bH,ab,ac,ae]
   refine wpAnyH_take (i:=5) (v:=.string (db k 2 q)) rfl (by kernel_rfl) (by kernel_rfl) (by kernel_rfl) (λ_ _ _ h=>h) (Or.inl ⟨by rfl,by intro w' J;(try dsimp only at J);go_simp⟩) (by assumption) ?_;try simp only[Act.put,bu,bV,bI,bH,ab,ac,ae]
   refine wpAnyH_ready (rs:=[6]) (by kernel_rfl) (by simp) ?_;refine AllReadyH.cons rfl (λK j6=> ?_) AllReadyH.nil;try simp only[bu,bV,bI,bH]
   go_simp;refine(b4.o _ E).mono ?_;rintro e h6 ⟨rfl,e0⟩;have E:=E.trans (e0.mono E.size);dsimp only;refine j6.out _ _ (a0.o _ E) (λj5=> ?_);try simp only[Act.put,bu,bV,bI,bH,ab,ac,ae]
   refine wpAnyH_take (i:=7) (v:=.bool false) rfl (by kernel_rfl) (by kernel_rfl) (by kernel_rfl) (λ_ _ _ h=>h) (Or.inl ⟨by rfl,by intro w' J;(try dsimp only at J);go_simp⟩) (by assumption) ?_;try simp only[Act.put,bu,bV,bI,bH,ab,ac,ae]
   refine wpAnyH_take (i:=8) (v:=undef) rfl (by kernel_rfl) (by kernel_rfl) (by kernel_rfl) (λ_ _ _ h=>h) (Or.inr ⟨by rfl,rfl⟩) (by assumption) ?_;try simp only[Act.put,bu,bV,bI,bH,ab,ac,ae]
   refine wpAnyH_take (i:=9) (v:=undef) rfl (by kernel_rfl) (by kernel_rfl) (by kernel_rfl) (λ_ _ _ h=>h) (Or.inr ⟨by rfl,rfl⟩) (by assumption) ?_;try simp only[Act.put,bu,bV,bI,bH,ab,ac,ae]
   refine wpAnyH_take (i:=10) (v:=undef) rfl (by kernel_rfl) (by kernel_rfl) (by kernel_rfl) (λ_ _ _ h=>h) (Or.inr ⟨by rfl,rfl⟩) (by assumption) ?_;try simp only[Act.put,bu,bV,bI,bH,ab,ac,ae]
   refine wpAnyH_take (i:=11) (v:=undef) rfl (by kernel_rfl) (by kernel_rfl) (by kernel_rfl) (λ_ _ _ h=>h) (Or.inr ⟨by rfl,rfl⟩) (by assumption) ?_;try simp only[Act.put,bu,bV,bI,bH,ab,ac,ae]
   refine wpAnyH_take (i:=12) (v:=undef) rfl (by kernel_rfl) (by kernel_rfl) (by kernel_rfl) (λ_ _ _ h=>h) (Or.inr ⟨by rfl,rfl⟩) (by assumption) ?_;try simp only[Act.put,bu,bV,bI,bH,ab,ac,ae]
   refine wpAnyH_take (i:=13) (v:=undef) rfl (by kernel_rfl) (by kernel_rfl) (by kernel_rfl) (λ_ _ _ h=>h) (Or.inr ⟨by rfl,rfl⟩) (by assumption) ?_;try simp only[Act.put,bu,bV,bI,bH,ab,ac,ae]
   refine wpAnyH_take (i:=14) (v:=undef) rfl (by kernel_rfl) (by kernel_rfl) (by kernel_rfl) (λ_ _ _ h=>h) (Or.inr ⟨by rfl,rfl⟩) (by assumption) ?_;try simp only[Act.put,bu,bV,bI,bH,ab,ac,ae]
   refine wpAnyH_take (i:=15) (v:=.bool false) rfl (by kernel_rfl) (by kernel_rfl) (by kernel_rfl) (λ_ _ _ h=>h) (Or.inl ⟨by rfl,by intro w' J;(try dsimp only at J);go_simp⟩) (by assumption) ?_;try simp only[Act.put,bu,bV,bI,bH,ab,ac,ae]
   refine wpAnyH_done (by kernel_rfl) ?_ _;have a6:=aa (Q.o.trans (E.mono b3));have b9:=aa (ai a8.o E);have c2:=aa (ai c1.o E);clear E b4 a0 j4 j5;go_wp2;go_roundw;exact⟨t+1,by omega,by go_num,aa (by rw[d2.o];exact b9.o),b7,c2,a6⟩;simp[intOf];omega
  |true=>
   go_wp2;go_region_held3(λV=>V.cell? ⟨w.1.size,0,none⟩=some (Ud k)/\V.cell? ⟨w.1.size,1,none⟩=some (.slice a n c)/\V.cell? ⟨F,t,none⟩=some (.string (db k 2 q))/\Below wr.1.size wr V)
    (first|with_reducible exact a0.o _ E)
    (first|(go_at_call 196;(first|(with_reducible refine(b4.o _ E).mono ?_)|(with_reducible refine(d1.o _ E).mono ?_));rintro e h6 ⟨rfl,e0⟩;have E:=E.trans (e0.mono E.size)))
   have l3:=aa E;have a6:=aa (Q.o.trans (E.mono b3));have b9:=aa (ai a8.o E);have c2:=aa (ai c1.o E);have h4:=a6.o.size;have k1:F<h6.1.size:=by have:=E.size;omega
   have l8:=(a0.o _ E).2.2.1;have k2:((L.take t).filter f).length<=9:=by
    have j3:=bz f (L.take t);rw[cY] at j3;omega
   clear E b4 d1 a0;cases c9 with
   |false=>
    have d2:=aa (a7.o (Z.o.trans rfl));clear c3 a7 Z;go_wp2;go_roundw;exact⟨t+1,by omega,by go_num,aa (by rw[d2.o];exact b9.o),b7,c2,a6⟩;simp[intOf];omega
   |true=>
    have i8:=aa (c3.o (Z.o.trans rfl));clear c3 a7 Z;have a1:=b9.o;obtain⟨d,Y⟩:=aB (((L.take t).filter f).length);rw[<-Y] at a1 k2;go_wp2_with(first|(at_builtin;go_must(refine iM rfl _ _ 26 rfl D.1.size 9 (.string ByteArray.empty) 16 underlying26 iG rfl _ d _ _ a1 rfl rfl rfl (by omega) (by unfold maxLen;omega) h4 F b7.o k1 ?_);intro v' m7 h0 e5 g8));have i6:=aa h0;have i4:=aa (c2.o.kept e5 (Or.inr λe=>b7.o (by rw[<-e];rfl)));have h7:=aa (a6.o.grown e5 h4 (λk a4=>(a1.lt k a4).1));have h9:=aa g8;clear h0 e5 g8 a1;go_roundw;exact⟨t+1,by omega,by go_num,aa (by rw[i8.o,az,ek,<-Y];simpa[ap] using i6.o),h9,i4,h7⟩;simp[intOf];omega
 ·obtain rfl:t=M:=by omega
  obtain⟨j2,j0,k6⟩:=dm a8.o;subst k6;obtain⟨d,Y⟩:=aB (((L.take t).filter f).length);have b5:=aa Y;have d3:=a8.o;rw[<-Y] at d3 b6 e6;rw[<-Y];have a1:=aa d3;clear a8 d3 Y;by_cases g4:d=t
  ·have i7:=aa (b6.o g4);subst g4;go_wp2;go_ret;have g6:=aT (base':=w.1.size) c1.o k7;have g7:=f4.o;rw[i7.o] at g7 g6;exact⟨_,rfl,by rw[g7];exact g6,(a5.o _ Q.o).2⟩
  ·have l9:((d:Int)==(t:Int))=false:=by simp;omega
   go_wp2;go_roundg d;case measure=>omega
   case rel=>exact⟨(L.take t).filter f,j2,j0,by rw[<-b5.o],by rw[<-b5.o];exact a1,f6,Q,by rw[<-b5.o];exact aN _,by rw[<-b5.o];omega⟩

def kY(ss:List ByteArray)(x:ByteArray):Bool:=ss.any λy=>y.toList==x.toList
def Hb(ss:List ByteArray)(x:ByteArray):Bool:=ss.all λy=> !(y.toList==x.toList)
theorem KG(ss)(x):kY ss x= !Hb ss x:=by
 unfold kY Hb;induction ss with
 |nil=>rfl
 |cons a l ih=>simp[ih,Bool.not_and]
theorem GP(a)(n cap)(ss)(x)(w)(W:aO w a n (ap ss)):
 Calls prog 197 #[.slice a n cap,.string x] w λe w'=>e= .returned (.bool (kY ss x))/\w=w':=by
 obtain⟨O,a1,I⟩:=W;have Q:=aa (show ss.length=n by simpa[ap] using O);have E:=aa I;clear O I;go_enter func197,ntmps197;go_wp2;go_loop[5] (λi=>∃k:Nat,k<=n/\i= Ud k/\bv (Hb (ss.take k) x=true)) (λi=>n-(intOf i).toNat);exact⟨0,by omega,rfl,rfl⟩;obtain⟨k,a0,rfl,H⟩:=hrel;by_cases U:k<n
 ·obtain⟨b,a2,rfl,Y,J⟩:=E.o (by omega);clear E;obtain⟨s,D⟩:=aE (l:=ss) (n:=k) (by rw[Q.o];exact U);have Z:=J k _ (bJ D);have F:=aa D;clear D J;cases hq:s.toList==x.toList
  ·have h:=aa hq;go_wp2;go_round;exact⟨k+1,by omega,by go_num,fl F.o H.o (by rw[h.o];rfl)⟩;simp[intOf];omega
  ·have h:=aa hq;go_wp2;go_ret;exact⟨aG (by rw[KG,show Hb ss x=false from fA F.o (by rw[h.o];rfl)];rfl),rfl⟩
 ·go_wp2;go_ret;exact⟨aG (by rw[KG,show Hb ss x=true from iz H.o (by rw[Q.o];omega)];rfl),rfl⟩
def EH(ss D:List ByteArray)(h:ByteArray):Bool:=
 if D.length=0 then false else if oS ss h.1.1=false then false
 else if 2<=h.size then kY D (h.extract 0 2)&&kY D (h.extract (h.size-2) h.size)
 else D.any λu=>ke h.1.1 u.1.1
theorem DQ{L:List ByteArray}{f}{t:Nat}{q}(D:L[t]? =some q)(h:f q=true):L.any f=true:=bB.2 ⟨q,aj D,h⟩
theorem DR{L:List ByteArray}{f}{t}{q}(D:L[t]? =some q)(h:f q=false)(E:(L.take t).any f=false):(L.take (t+1)).any f=false:=by
 rw[bg,D,fO,E];simp[h]
theorem SW(k M:Nat)(a)(n c)(ss D)(Z)(b7)(h)(w)(c4:aO w a n (ap ss))(c5:∀t∈ss,t.size<=1048576)(d7:n<=1048576)(c3:∀t∈D,t.size<=1048576)(e0:M<=1048576)(a6:aO w Z M (ap D))(c6:h.size<=1048576):
 Calls prog 108 #[.agg #[Ud k,.slice a n c],.slice Z M b7,.string h] w λe w'=>e= .returned (.bool (EH ss D h))/\Below w.1.size w w':=by
 have a1:D.length=M:=by simpa[ap] using a6.len
 have d0:=aa a1;obtain⟨O,F⟩:=aB (w.alloc (.cells #[Ud k,.slice a n c] 28));have Y:Below w.1.size w O:=by rw[F];exact aZ.alloc aQ _
 have e5:O.1.size=w.1.size+1:=by rw[F];simp
 have a3:bA O w.1.size #[Ud k,.slice a n c]:=by rw[F];exact bA.new _ _ _
 have e9:=a3.cell 0;have f0:=a3.cell 1;have J:=aa Y;have a7:=a6.below Y aQ;have b1:=aa (me a n c ss h O (c4.below Y aQ) c5 c6 d7);have b2:=aa (λx:ByteArray=>GP Z M b7 D x O a7);have d2:=aa (λ(t:Nat) (u:ByteArray) (I:D[t]? =some u)=>Bt u h O (c3 u (aj I)) c6);have d4:=aa a7;obtain⟨A,W⟩:=aB (oS ss h.1.1);have d9:=aa W;rw[<-W] at b1;obtain⟨f,a4⟩:=aB (α:=ByteArray->Bool) ((λu=>ke h.1.1 u.1.1));have c9:=aa a4;have Q:=aa (show EH ss D h=(if M=0 then false else if A=false then false else if 2<=h.size then kY D (h.extract 0 2)&&kY D (h.extract (h.size-2) h.size) else D.any f) from by unfold EH;rw[a1,W,a4]);obtain⟨R,a2⟩:=aB (EH ss D h);rw[<-a2] at Q;rw[<-a2];have c8:=aa (show D.any f=(D.take M).any f by rw[aM (by omega)]);clear c4 c5 a6 Y a3 W a4 a1 c3 a7 a2;go_enter func108,ntmps108;by_cases U:M=0
 ·have E:=aa (show R=false by rw[Q.o,if_pos U]);subst U;go_wp2_with(rw[<-F]);first|rw[<-F]|skip
  clear F;go_ret;exact⟨aG E.o.symm,J.o⟩
 ·have e1:((M:Int)==0)=false:=by simp;omega
  go_wp2_with(rw[<-F]);first|rw[<-F]|skip
  clear F;refine b1.o.mono ?_;rintro e a8 ⟨rfl,rfl⟩;cases A with
  |false=>
   have E:=aa (show R=false by rw[Q.o,if_neg U,if_pos rfl]);go_wp2;go_ret;exact⟨aG E.o.symm,J.o⟩
  |true=>
   by_cases b8:2<=h.size
   ·have E:=aa (show R=(kY D (h.extract 0 2)&&kY D (h.extract (h.size-2) h.size)) by rw[Q.o,if_neg U,if_neg (by decide),if_pos b8]);have d5:(2:Int)<=(h.size:Int):=(by omega);have e4:((h.size:Int)-2)=((h.size-2:Nat):Int):=(by omega);obtain⟨c7,b9⟩:=aB (kY D (h.extract 0 2));obtain⟨d8,c0⟩:=aB (kY D (h.extract (h.size-2) h.size));have a9:=aa (b2.o (h.extract 0 2));have b0:=aa (b2.o (h.extract (h.size-2) h.size));rw[<-b9] at a9 E;rw[<-c0] at b0 E;clear b9 c0;go_wp2_with fail;refine a9.o.mono ?_;rintro e a8 ⟨rfl,rfl⟩;cases c7 with
    |false=>
     go_wp2;go_ret;exact⟨aG E.o.symm,J.o⟩
    |true=>
     go_wp2_with fail;refine b0.o.mono ?_;rintro e a8 ⟨rfl,rfl⟩;go_wp2;go_ret;exact⟨aG E.o.symm,J.o⟩
   ·have E:=aa (show R=D.any f by rw[Q.o,if_neg U,if_neg (by decide),if_neg b8]);have d5:(h.size:Int)<2:=(by omega);go_wp2;go_loop[7] (λi=>∃t:Nat,t<=M/\i= Ud t/\bv ((D.take t).any f=false)) (λi=>M-(intOf i).toNat);exact⟨0,by omega,rfl,aa rfl⟩;obtain⟨t,e6,rfl,b6⟩:=hrel;by_cases d6:t<M
    ·obtain⟨u,I⟩:=aE (l:=D) (n:=t) (by rw[d0.o];exact d6);obtain⟨b,e8,rfl,e2,c1⟩:=d4.o.at_ (by omega);have e3:=c1 t _ (bJ I);have e7:(t:Int)<(M:Int):=(by omega);have b3:=aa (d2.o t u I);have b4:=aa (λa0:f u=true=>DQ (f:=f) I a0);have b5:=aa (λa0:f u=false=>DR (f:=f) I a0 b6.o);obtain⟨o,a5⟩:=aB (ke h.1.1 u.1.1);have c2:f u=o:=by rw[c9.o,a5]
     rw[<-a5] at b3;rw[c2] at b4 b5;clear I c1 a5 c2;go_wp2_with fail;refine b3.o.mono ?_;rintro e a8 ⟨rfl,rfl⟩;cases o with
     |true=>
      have d3:=aa (b4.o rfl);go_wp2;go_ret;exact⟨aG (E.o.trans d3.o).symm,J.o⟩
     |false=>
      have d1:=aa (b5.o rfl);go_wp2;go_round;exact⟨t+1,by omega,by go_num,d1⟩;simp[intOf];omega
    ·obtain rfl:t=M:=by omega
     go_wp2;go_ret;exact⟨aG (E.o.trans (c8.o.trans b6.o)).symm,J.o⟩
def Jw(ss D:List ByteArray)(h:ByteArray):Bool:=
 if h.size<2 then D.any λu=>ke h.1.1 u.1.1
 else if oS ss h.1.1=false then false
 else kY D (h.extract 0 2)&&kY D (h.extract (h.size-2) h.size)
theorem RE{ss E}{F}(h:∀u∈E,oS ss u.1.1=true):Jw ss E F=EH ss E F:=by
 unfold Jw EH;by_cases J:2<=F.size
 ·rw[if_neg (by omega)];by_cases D:E.length=0
  ·rw[if_pos D];have:E=[]:=fI.1 D;subst this;split<;>rfl
  ·rw[if_neg D,if_pos J]
 ·rw[if_pos (by omega)];by_cases D:E.length=0
  ·rw[if_pos D];have:E=[]:=fI.1 D;subst this;rfl
  ·rw[if_neg D,if_neg J];by_cases I:oS ss F.1.1=false
   ·rw[if_pos I,lI];intro O;obtain⟨u,U,Q⟩:=bB.1 O;have:=Qn (h u U) (rX.1 Q);rw[I] at this;cases this
   ·rw[if_neg I]
theorem SA{ss}{k}:∀u∈(iu ss k).map (db k 2),oS ss u.1.1=true:=by
 intro u h;obtain⟨i,hi,rfl⟩:=bi.1 h;rw[eq];exact(kq (sa.1 (bY.1 hi).2)).2
theorem LV{h:List ByteArray}{x q}{t}(D:h[t]? =some q):kY (h.take (t+1)) x=(kY (h.take t) x||(q.toList==x.toList)):=by
 unfold kY;rw[bg,D,fO];simp
theorem RF{ss}{k i}(F:1<=k/\k<=3)(hi:i<k^2):kY ((iu ss k).map (db k 2)) (db k 2 i)=mI ss k i:=by
 rw[bF];unfold kY;rw[bB];constructor
 ·rintro⟨u,W,Q⟩;obtain⟨j,U,rfl⟩:=bi.1 W;have E:=bY.1 U;have D:(db k 2 j).1.1=(db k 2 i).1.1:=by
   rw[<-Lib.toList_data,<-Lib.toList_data];exact beq_iff_eq.1 Q
  rw[eq,eq,nQ F (aD.1 E.1),nQ F hi] at D;have Y:i/k<k:=by
   rw[Nat.pow_two] at hi;exact fB hi
  have Z:j/k<k:=by
   have:=aD.1 E.1;rw[Nat.pow_two] at this;exact fB this
  have a0:i%k<k:=dI _ (by omega);have a1:j%k<k:=dI _ (by omega);simp only[List.cons.injEq,and_true] at D;have I:j/k=i/k:=by
   have a:=fx (x:=j/k) (by omega);have b:=fx (x:=i/k) (by omega);rw[D.1] at a;omega
  have J:j%k=i%k:=by
   have a:=fx (x:=j%k) (by omega);have b:=fx (x:=i%k) (by omega);rw[D.2] at a;omega
  have a2:=ja i k;have O:=ja j k;rw[I,J] at O;have:j=i:=(by omega);subst this;exact E.2
 ·intro h;exact⟨db k 2 i,bi.2 ⟨i,bY.2 ⟨aD.2 hi,h⟩,rfl⟩,by simp⟩
theorem Ty(k M:Nat)(a)(n c)(ss D)(a5)(e3)(h)(w)(d4:aO w a n (ap ss))(e7:n<=1048576)(d3:∀t∈D,t.size<=1048576)(f6:M<=1048576)(b2:aO w a5 M (ap D))(f2:h.size<=1048576)(d0:ru w):
 Calls prog 221 #[.agg #[Ud k,.slice a n c],.slice a5 M e3,.string h] w λe w'=>e= .returned (.bool (Jw ss D h))/\Below w.1.size w w':=by
 have c5:D.length=M:=by simpa[ap] using b2.len
 have c2:=aa c5;obtain⟨F,I⟩:=aB (w.alloc (.cells #[Ud k,.slice a n c] 28));have Z:Below w.1.size w F:=by rw[I];exact aZ.alloc aQ _
 have f8:F.1.size=w.1.size+1:=by rw[I];simp
 have a9:bA F w.1.size #[Ud k,.slice a n c]:=by rw[I];exact bA.new _ _ _
 have f9:=a9.cell 0;have g0:=a9.cell 1;have b7:=aa Z;have b3:=b2.below Z aQ;have d1:=em d0 Z aQ;have b6:=aa (wu (k:Int) a n c ss h F (d4.below Z aQ) f2 e7 d1);obtain⟨f3,d2⟩:=d1;have a4:=aa (λ(f:ByteArray) (a3:f.size<=1) (a2:f=h) (t:Nat) (u:ByteArray) (E:D[t]? =some u)=>show Calls prog 226 #[.string u,.string f] F λe w'=>e= .returned (.bool (ke f.1.1 u.1.1))/\w'=F from by
  rw[<-wk];exact Tryz.strings_Contains u f f3 F (by have:=d3 u (aj E);omega) d2)
 have e0:=aa b3;have e1:=aa (λ(V:World) (c6:Below F.1.size F V)=>show aO V a5 M (ap D)/\Below w.1.size w V from⟨b3.below c6 aQ,Z.trans (c6.mono (by omega))⟩);obtain⟨A,a7⟩:=aB (oS ss h.1.1);rw[<-a7] at b6;obtain⟨f,a3⟩:=aB (α:=ByteArray->Bool) ((λu=>ke h.1.1 u.1.1));have c1:=aa a3;have W:=aa (show Jw ss D h=(if h.size<2 then D.any f else if A=false then false else kY D (h.extract 0 2)&&kY D (h.extract (h.size-2) h.size)) from by unfold Jw;rw[a7,a3]);obtain⟨R,a8⟩:=aB (Jw ss D h);rw[<-a8] at W;rw[<-a8];have b9:=aa (show D.any f=(D.take M).any f by rw[aM (by omega)]);have c0:=aa (λx:ByteArray=>show kY D x=kY (D.take M) x by rw[aM (by omega)]);clear d4 b2 Z a9 a7 a3 c5 b3 a8 d2 d0 d3;go_enter func221,ntmps221;by_cases a6:h.size<2
 ·have Y:=aa (show R=D.any f by rw[W.o,if_pos a6]);have e4:(h.size:Int)<2:=(by omega);have d8:=aa (a4.o h (by omega) rfl);clear a4 W;go_wp2_with(rw[<-I]);first|rw[<-I]|skip
  clear I;go_loop[18] (λi=>∃t:Nat,t<=M/\i= Ud t/\bv ((D.take t).any f=false)) (λi=>M-(intOf i).toNat);exact⟨0,by omega,rfl,aa rfl⟩;obtain⟨t,e9,rfl,c4⟩:=hrel;by_cases b0:t<M
  ·obtain⟨u,E⟩:=aE (l:=D) (n:=t) (by rw[c2.o];exact b0);obtain⟨b,f4,rfl,e5,a0⟩:=e0.o.at_ (by omega);have e6:=a0 t _ (bJ E);have f0:(t:Int)<(M:Int):=(by omega);have c3:=aa (d8.o t u E);have J:=aa (λa2:f u=true=>DQ (f:=f) E a2);have O:=aa (λa2:f u=false=>DR (f:=f) E a2 c4.o);obtain⟨o,b1⟩:=aB (ke h.1.1 u.1.1);have c9:f u=o:=by rw[c1.o,b1]
   rw[<-b1] at c3;rw[c9] at J O;clear E a0 b1 c9;go_wp2_with fail;refine c3.o.mono ?_;rintro e b4 ⟨rfl,f1⟩;obtain rfl:b4=F:=f1;cases o with
   |true=>
    have d9:=aa (J.o rfl);go_wp2;go_ret;exact⟨aG (Y.o.trans d9.o).symm,b7.o⟩
   |false=>
    have d7:=aa (O.o rfl);go_wp2;go_round;exact⟨t+1,by omega,by go_num,d7⟩;simp[intOf];omega
  ·obtain rfl:t=M:=by omega
   go_wp2;go_ret;exact⟨aG (Y.o.trans (b9.o.trans c4.o)).symm,b7.o⟩
 ·have e4:¬((h.size:Int)<2):=by omega
  clear a4;go_wp2_with(rw[<-I]);first|rw[<-I]|skip
  clear I;refine b6.o.mono ?_;rintro e b4 ⟨rfl,c7⟩;obtain⟨d5,c8⟩:=e1.o b4 c7;have e2:=aa d5;have b8:=aa c8;clear d5 c8 c7;cases A with
  |false=>
   have Y:=aa (show R=false by rw[W.o,if_neg a6,if_pos rfl]);go_wp2;go_ret;exact⟨aG Y.o.symm,b8.o⟩
  |true=>
   have Y:=aa (show R=(kY D (h.extract 0 2)&&kY D (h.extract (h.size-2) h.size)) by rw[W.o,if_neg a6,if_neg (by decide)]);have f7:((h.size:Int)-2)=((h.size-2:Nat):Int):=(by omega);have f5:(2:Int)<=(h.size:Int):=(by omega);have a1:=aa (λ(t:Nat) (q x:ByteArray) (e8:D[t]? =some q)=>LV (x:=x) e8);clear W b9 c1;go_wp2;go_loop[9,10,32] (λx y i=>∃t:Nat,t<=M/\i= Ud t/\x= .bool (kY (D.take t) (h.extract 0 2))/\y= .bool (kY (D.take t) (h.extract (h.size-2) h.size))) (λ_ _ i=>M-(intOf i).toNat);exact⟨0,by omega,rfl,rfl,rfl⟩;obtain⟨t,e9,rfl,rfl,rfl⟩:=hrel;by_cases b0:t<M
   ·obtain⟨u,E⟩:=aE (l:=D) (n:=t) (by rw[c2.o];exact b0);obtain⟨b,f4,rfl,e5,a0⟩:=e2.o.at_ (by omega);have e6:=a0 t _ (bJ E);have f0:(t:Int)<(M:Int):=(by omega);have J:=aa (a1.o t u (h.extract 0 2) E);have O:=aa (a1.o t u (h.extract (h.size-2) h.size) E);obtain⟨b5,Q⟩:=aB (kY (D.take t) (h.extract 0 2));obtain⟨d6,U⟩:=aB (kY (D.take t) (h.extract (h.size-2) h.size));rw[<-Q] at J;rw[<-U] at O;rw[<-Q,<-U];clear E a0 Q U a1;cases b5<;>cases d6<;>{
     go_wp2
     go_round
     exact⟨t+1,by omega,by go_num,by rw[J.o];rfl,by rw[O.o];rfl⟩
     simp[intOf];omega}
   ·obtain rfl:t=M:=by omega
    have J:=aa (c0.o (h.extract 0 2));have O:=aa (c0.o (h.extract (h.size-2) h.size));obtain⟨b5,Q⟩:=aB (kY (D.take t) (h.extract 0 2));obtain⟨d6,U⟩:=aB (kY (D.take t) (h.extract (h.size-2) h.size));rw[<-Q] at J;rw[<-U] at O;rw[<-Q,<-U];clear Q U a1;cases b5<;>{
     go_wp2
     go_ret
     exact⟨aG (by rw[Y.o,J.o,O.o];rfl),b8.o⟩}
def Qy(F:FuncId)(h D:Value)(k n:Nat)(p:Nat->Bool)(W:World):Prop:=
 ∀i w,i<k^n->Below W.1.size W w->Calls prog F #[.string (db k n i),h,D] w λe w'=>e= .returned (.bool (p i))/\Below w.1.size w w'
theorem Hm(k n)(F)(W Y)(p)(w)(Q:1<=k/\k<=3)(b7:n<=8)(b0:Qy F W Y k n p w)(d9:∀x w,(callFunc F #[x,W,Y]).run prog w= .ok (.enter F #[x,W,Y]) w):
 Calls prog 141 #[Ud k,Ud n,.func (.func F) #[] #[W,Y]] w (dC p k n w):=by
 have d2:=eb Q.2 b7;have a4:=aa (λw:World=>ls k n w Q b7);obtain⟨m,a0⟩:=aB (k^n);have a2:=aa b0;unfold Qy at a2;unfold iK at a4;unfold dC;rw[<-a0] at a4 a2 d2;rw[<-a0];have e4:1<=m:=by rw[a0];exact gK _ _ (by omega)
 clear b0 a0 Q;go_enter func141,ntmps141;go_wp2_with fail;refine(a4.o _).mono ?_;rintro e b9 ⟨v,rfl,E,b1⟩;have D:=aT (base':=w.1.size) E (by simp);obtain⟨Z,c1,rfl,e0,e3⟩:=D.form (by omega);have e1:w.1.size+1<=Z:=by
  obtain⟨d8,d7,c7,c8,_⟩:=E.form (by omega);simp at c7 c8;omega
 have c0:=aa D;have c4:Below w.1.size w b9:=(aZ.alloc aQ _).trans (b1.mono (by simp));have d1:b9.ownsRow w.1.size 9 1 (.slice (some ⟨w.1.size,0,none⟩) 0 0) 0 (ap (kp p k n 0)):=ai (show(w.alloc (.cells #[] 9)).ownsRow w.1.size 9 1 (.slice (some ⟨w.1.size,0,none⟩) 0 0) 0 (ap (kp p k n 0)) from bd #[] _ rfl aQ (by unfold maxLen;simp)) b1;clear E D;go_wp2;go_loopw[7,15] (λv i wr=>∃j:Nat,j<=m/\i= Ud j/\wr.ownsRow w.1.size 9 1 v ((List.range j).filter p).length (ap (kp p k n j))/\v.ownBlock≠some Z/\wr.ownsRow w.1.size 9 1 (.slice (some ⟨Z,0,none⟩) m c1) m (ap (wds k n m))/\Below w.1.size w wr) (λ_ i _=>m-(intOf i).toNat);exact⟨0,by omega,rfl,d1,by simp[Value.ownBlock];omega,c0.o,c4⟩;obtain⟨j,e2,rfl,E,a6,a1,I⟩:=hrel;have c6:=yk p j;by_cases b6:j<m
 ·obtain⟨d4,d6,b4,b8⟩:=aS a1 (by omega);simp only[aJ,true_and] at b4;obtain⟨rfl,rfl⟩:=b4;obtain⟨d5,e5,b3,c2,b2⟩:=b8.at_ (by omega);simp only[aI,cA,and_true] at b3;obtain⟨rfl,rfl⟩:=b3;have c5:=b2 j _ (bJ (mt b6));rw[aW] at c5;have a3:=aa E;have a9:=aa a1;have U:=aa (a2.o j wr b6 I);clear b8 b2 E a1;obtain⟨c,a5⟩:=aB (((List.range j).filter p).length);have a8:=aa a5;rw[<-a5] at a3 c6;clear a5;cases hpj:p j
  ·rw[hpj] at U;have J:=aa hpj;clear hpj;go_wp2_with fail;refine U.o.mono ?_;rintro e d3 ⟨rfl,h⟩;have D:=ai a3.o h;have a7:=ai a9.o h;have O:=I.trans (h.mono I.size);go_wp2;go_roundw;exact⟨j+1,by omega,by go_num,by rw[Ax J.o,Bj J.o,<-a8.o];exact D,a6,a7,O⟩;simp[intOf];omega
  ·rw[hpj] at U;have J:=aa hpj;clear hpj;go_wp2_with fail;refine U.o.mono ?_;rintro e d3 ⟨rfl,h⟩;have D:=ai a3.o h;have a7:=ai a9.o h;have O:=I.trans (h.mono I.size);have c3:=aH c2 h.size;go_wp2_with(first|(at_builtin;go_must(refine iM rfl _ _ 26 rfl w.1.size 9 (.string ByteArray.empty) 16 underlying26 iG rfl _ c (ap (kp p k n j)) _ D rfl rfl rfl (by omega) (by unfold maxLen;omega) O.size Z a6 c3 ?_);intro v' e6 d0 b5 c9));go_roundw;exact⟨j+1,by omega,by go_num,by rw[uL J.o,uV J.o,<-a8.o];exact d0,c9,a7.kept b5 (Or.inr λe=>a6 (by rw[<-e];rfl)),O.grown b5 O.size (λk Q=>(D.lt k Q).1)⟩;simp[intOf];omega
 ·obtain rfl:j=m:=by omega
  clear a1;go_wp2;go_ret;exact⟨_,rfl,E,I⟩
theorem pD{wr:World}{B e s n b}{v}{xs}(h:wr.ownsRow B e s v n xs)(E:b<B)(q)(y):(wr.setCell ⟨b,q,none⟩ y).ownsRow B e s v n xs:=
 h.kept (row:=some b) ⟨rfl,rfl,rfl,by simp,λp F D=>dE _ _ _ _ (λe=>D (by rw[show p=b from e]))⟩ (by
  cases hv:v.ownBlock with
  |none=>exact .inl rfl
  |some q=>
   refine .inr λe=> ?_
   injection e with e
   have:=(h.lt q hv).1;omega)
theorem TF{w wr}{A}{T}(h:Below (w.alloc (.cells A T)).1.size (w.alloc (.cells A T)) wr):
 (∀k,wr.cell? ⟨w.1.size,k,none⟩=A[k]?)/\(∀k,wr.frozen? ⟨w.1.size,k,none⟩=false)/\w.1.size<wr.1.size/\Below w.1.size w wr:=by
 have D:=h.size;simp at D;refine⟨λk=> ?_,λk=> ?_,by omega,(aZ.alloc aQ _).trans (h.mono (by simp))⟩
 ·exact(h.cell (p:=⟨w.1.size,k,none⟩) (by simp)).trans (aL _ _ _ _ rfl)
 ·exact(h.frozen (p:=⟨w.1.size,k,none⟩) (by simp)).trans (eo _ _ _ _ rfl)
def iO(k:Nat)(ss:List ByteArray):Bool:=
 decide (1<=k/\k<=3)&&decide (ss.length<=8)&&(ss.all λs=>fb k s.1.1&&decide (1<=s.size/\s.size<=3))&&(List.range (ss.length-1)).all λi=>Op.bytesLess (ss.getD i ByteArray.empty).1.1 (ss.getD (i+1) ByteArray.empty).1.1
theorem dD{k}{ss}(h:iO k ss=true):(1<=k/\k<=3)/\ss.length<=8/\(∀(i:Nat) (s:ByteArray),ss[i]? =some s->fb k s.1.1=true/\1<=s.size/\s.size<=3)/\∀(i:Nat) (s t:ByteArray),ss[i]? =some s->ss[i+1]? =some t->Op.bytesLess s.toList t.toList=true:=by
 unfold iO at h;simp only[aC,decide_eq_true_eq,bm] at h;obtain⟨⟨⟨F,I⟩,J⟩,O⟩:=h;refine⟨F,I,λi s D=> ?_,λi s t D E=> ?_⟩
 ·exact J s (aj D)
 ·have Q:=(aw.1 E).1;have:=O i (aD.2 (by omega));rw[ah,D,ah,E] at this;rw[Lib.toList_data,Lib.toList_data];exact this
theorem iW(k)(a)(n c)(ss)(w)(O:aO w a n (ap ss))(h:iO k ss=true):
 Calls prog 24 #[.agg #[Ud k,.slice a n c]] w λe w'=>e= .returned (.bool true)/\Below w.1.size w w':=by
 obtain⟨a8,a9,a1,Z⟩:=dD h;have J:=(aV w.1.size w).alloc aQ (.cells #[Ud k,.slice a n c] 28);have a0:ss.length=n:=by simpa[ap] using O.len
 have a4:=aa (O.below J aQ);have a5:=aa a1;have a2:=aa Z;have Y:=aa a0;have b8:(n:Int)<=8:=(by omega);have W:=aa (λw=>eB (k:Int) 1 3 w);rw[fj (show(1:Int)<=(k:Int)/\(k:Int)<=3 by omega)] at W;have a3:=aa J;go_enter func24,ntmps24;go_wp2;go_loop[3] (λi=>∃j:Nat,j<=n/\i= Ud j) (λi=>n-(intOf i).toNat);exact⟨0,by omega,rfl⟩;obtain⟨j,b4,rfl⟩:=hrel;by_cases b0:j<n
 ·obtain⟨s,D⟩:=aE (l:=ss) (n:=j) (by rw[Y.o];exact b0);obtain⟨Q,b9,c0⟩:=a5.o j s D;obtain⟨b,c1,rfl,b1,E⟩:=a4.o.at_ (by omega);have a6:=E j _ (bJ D);have b5:(j:Int)<(n:Int):=(by omega);have F:=aa (λw=>mu k s w a8 (by unfold maxLen;omega));rw[Q,decide_eq_true (show s.size<=16 by omega)] at F;have I:=aa (λw=>eB (s.size:Int) 1 3 w);rw[fj (show(1:Int)<=(s.size:Int)/\(s.size:Int)<=3 by omega)] at I;by_cases a7:j=0
  ·subst a7;simp only[ea] at a6;go_wp2_with(first|(go_at_call 95;refine(F.o _).mono ?_;rintro e w' ⟨rfl,rfl⟩)|(go_at_call 96;refine(I.o _).mono ?_;rintro e w' ⟨rfl,rfl⟩));go_round;exact⟨0+1,by omega,by go_num⟩;simp[intOf]<;>omega
  ·obtain⟨i,rfl⟩:∃i,j=i+1:=⟨j-1,by omega⟩;obtain⟨t,U⟩:=aE (l:=ss) (n:=i) (by rw[Y.o];omega);have b2:=E i _ (bJ U);have b7:=a2.o i t s U D;have b6:(i:Int)<(n:Int):=(by omega);have b3:(0:Int)<(i:Int)+1:=(by omega);go_wp2_with(first|(go_at_call 95;refine(F.o _).mono ?_;rintro e w' ⟨rfl,rfl⟩)|(go_at_call 96;refine(I.o _).mono ?_;rintro e w' ⟨rfl,rfl⟩));go_round;exact⟨i+1+1,by omega,by go_num⟩;simp[intOf]<;>omega
 ·go_wp2_with(first|(go_at_call 96;refine(W.o _).mono ?_;rintro e w' ⟨rfl,rfl⟩));go_ret;exact⟨rfl,a3.o⟩
theorem kt(k)(a)(n c)(ss)(w)(J:aO w a n (ap ss))(h:iO k ss=true):
 Calls prog 56 #[.agg #[Ud k,.slice a n c]] w λe w'=>e= .returned (.bool true)/\Below w.1.size w w':=by
 obtain⟨b3,a6,Z,W⟩:=dD h;have b4:(1:Int)<=(k:Int):=(by omega);have b5:(k:Int)<=3:=(by omega);have I:=(aV w.1.size w).alloc aQ (.cells #[Ud k,.slice a n c] 28);have Y:ss.length=n:=by simpa[ap] using J.len
 have a2:=aa (J.below I aQ);have a3:=aa Z;have a0:=aa W;have U:=aa Y;have b8:¬((8:Int)<(n:Int)):=(by omega);have a1:=aa I;go_enter func56,ntmps56;go_wp2_with go_in;go_loop[18] (λi=>∃j:Nat,j<=n/\i= Ud j) (λi=>n-(intOf i).toNat);exact⟨0,by omega,rfl⟩;obtain⟨j,b1,rfl⟩:=hrel;by_cases a7:j<n
 ·obtain⟨s,D⟩:=aE (l:=ss) (n:=j) (by rw[U.o];exact a7);obtain⟨O,b9,c0⟩:=a3.o j s D;obtain⟨b,c3,rfl,a8,E⟩:=a2.o.at_ (by omega);have a4:=E j _ (bJ D);have b2:(j:Int)<(n:Int):=(by omega);have F:=aa (λw=>fs k s w (by unfold maxLen;omega) (by omega));rw[O] at F;have c1:¬((s.size:Int)<1):=(by omega);have c2:¬((3:Int)<(s.size:Int)):=(by omega);by_cases a5:j=0
  ·subst a5;simp only[ea] at a4;go_wp2_with(first|(go_at_call 137;refine(F.o _).mono ?_;rintro e w' ⟨rfl,rfl⟩));go_round;exact⟨0+1,by omega,by go_num⟩;simp[intOf]<;>omega
  ·obtain⟨i,rfl⟩:∃i,j=i+1:=⟨j-1,by omega⟩;obtain⟨t,Q⟩:=aE (l:=ss) (n:=i) (by rw[U.o];omega);have a9:=E i _ (bJ Q);have b7:=a0.o i t s Q D;have b6:(i:Int)<(n:Int):=(by omega);have b0:(0:Int)<(i:Int)+1:=(by omega);go_wp2_with(first|(go_at_call 137;refine(F.o _).mono ?_;rintro e w' ⟨rfl,rfl⟩));go_round;exact⟨i+1+1,by omega,by go_num⟩;simp[intOf]<;>omega
 ·go_wp2;go_ret;exact⟨rfl,a1.o⟩
def BF(L:Int)(ss:List ByteArray)(j:Nat):Bool:=
 fb L (ss.getD j ByteArray.empty).1.1&&jZ ((ss.getD j ByteArray.empty).size:Int) 1 3&&(decide (j=0)||Op.bytesLess (ss.getD (j-1) ByteArray.empty).toList (ss.getD j ByteArray.empty).toList)
def iE(L:Int)(ss:List ByteArray):Bool:=jZ L 1 3&&decide (ss.length<=8)&&(List.range ss.length).all (BF L ss)
theorem Hh{L}{ss}{s}(h:ss[0]? =some s):BF L ss 0=(fb L s.1.1&&jZ (s.size:Int) 1 3):=by
 unfold BF;rw[ah,h];simp
theorem AW{L}{ss}{i}{s t}(h:ss[i]? =some t)(D:ss[i+1]? =some s):BF L ss (i+1)=(fb L s.1.1&&jZ (s.size:Int) 1 3&&Op.bytesLess t.toList s.toList):=by
 unfold BF;rw[eG,ah,ah,h,D];simp
theorem Ac{L}{ss}{j}(E:j<ss.length)(h:BF L ss j=false):iE L ss=false:=by
 unfold iE;rw[show(List.range ss.length).all (BF L ss)=false from by
  rw[lI];intro D;rw[bm] at D;have:=D j (aD.2 E);rw[h] at this;cases this]
 simp
theorem Ae{L}{ss}(h:jZ L 1 3=false):iE L ss=false:=by
 unfold iE;rw[h];rfl
theorem CY{L}{ss}(h:(List.range ss.length).all (BF L ss)=true):iE L ss=(jZ L 1 3&&decide (ss.length<=8)):=by
 unfold iE;rw[h,mC]
theorem Hg{L}{ss}{j}(h:BF L ss j=true)(D:(List.range j).all (BF L ss)=true):(List.range (j+1)).all (BF L ss)=true:=by
 rw[bh,jd,D];simp[h]
theorem Ad{L}{ss}(h:iE L ss=true):∃k:Nat,L=(k:Int)/\iO k ss=true:=by
 unfold iE at h;rw[aC,aC,eT,decide_eq_true_iff,bm] at h;obtain⟨⟨W,O⟩,E⟩:=h;refine⟨L.toNat,by omega,?_⟩;have Q:((L.toNat:Nat):Int)=L:=(by omega);unfold iO;rw[Q];simp only[aC,decide_eq_true_eq,bm];refine⟨⟨⟨by omega,O⟩,λs D=> ?_⟩,λi hi=> ?_⟩
 ·obtain⟨j,F⟩:=cf.1 D;have:=E j (aD.2 (aw.1 F).1);unfold BF at this;rw[ah,F,aC,aC,eT] at this;obtain⟨⟨J,U⟩,_⟩:=this;simp only[ci] at J U;exact⟨J,by omega⟩
 ·have Y:=aD.1 hi;obtain⟨t,I⟩:=aE (l:=ss) (n:=i) (by omega);obtain⟨s,D⟩:=aE (l:=ss) (n:=i+1) (by omega);have:=E (i+1) (aD.2 (by omega));rw[AW I D,aC] at this;rw[ah,ah,I,D];rw[Lib.toList_data,Lib.toList_data] at this;exact this.2
theorem yF(L)(s)(w)(I:s.size<=maxLen):
 Calls prog 95 #[Ud L,.string s] w λe w'=>e= .returned (.bool (jZ L 1 3&&decide (s.size<=16)&&fb L s.1.1))/\w=w':=by
 unfold maxLen at I;have D:=aa (λw=>eB L 1 3 w);obtain⟨b,h⟩:=aB (jZ L 1 3);rw[<-h] at D;rw[<-h];clear h;go_enter func95,ntmps95;go_wp2;go_loop[5] (λi=>∃n:Nat,n<=s.size/\i= Ud n/\bv (fb L (s.1.1.take n)=true)) (λi=>s.size-(intOf i).toNat);exact⟨0,dW _,rfl,rfl⟩;obtain⟨n,Q,rfl,H⟩:=hrel;by_cases E:n<s.size
 ·have h:s[n].toNat<256:=s[n].toNat_lt;by_cases J:s[n].toNat<97
  ·go_wp2;go_ret;exact⟨aG (by rw[show fb L s.1.1=false from fA (dq s n E) (lP (by omega)),dJ]),rfl⟩
  ·by_cases O:L<=(s[n].toNat:Int)-97
   ·go_wp2;go_ret;exact⟨aG (by rw[show fb L s.1.1=false from fA (dq s n E) (lP (by omega)),dJ]),rfl⟩
   ·go_wp2;go_round;exact⟨n+1,by omega,by go_num,fl (dq s n E) H.o (fj (by omega))⟩;simp[intOf];omega
 ·have F:=aa (show fb L s.1.1=true from iz H.o (by rw[bM];omega));cases b with
  |false=>
   go_wp2_with(go_at_call 96;refine(D.o _).mono ?_;rintro e w' ⟨rfl,rfl⟩);go_ret;exact⟨rfl,rfl⟩
  |true=>
   go_wp2_with(go_at_call 96;refine(D.o _).mono ?_;rintro e w' ⟨rfl,rfl⟩);go_ret;exact⟨aG (by rw[F.o,mC,dK];congr 1;rw[eq_iff_iff];omega),rfl⟩
theorem nM(L)(a)(n c)(ss)(w)(a8:aO w a n (ap ss))(O:∀s∈ss,s.size<=maxLen):
 Calls prog 24 #[.agg #[Ud L,.slice a n c]] w λe w'=>e= .returned (.bool (iE L ss))/\Below w.1.size w w':=by
 have b4:=(aV w.1.size w).alloc aQ (.cells #[Ud L,.slice a n c] 28);have a7:ss.length=n:=by simpa[ap] using a8.len
 have d3:=a8.lim;have c4:=aa (a8.below b4 aQ);have b6:=aa a7;have J:=aa b4;have b0:=aa (λw=>eB L 1 3 w);have a3:=aa (λ(j:Nat) (s:ByteArray) (I:ss[j]? =some s) (w:World)=>yF L s w (O s (aj I)));have Y:=aa (λ(j:Nat) (c6:j<n) (h:BF L ss j=false)=>Ac (by omega) h);have a4:=aa (λh:jZ L 1 3=false=>Ae (ss:=ss) h);have U:=aa (λh:(List.range n).all (BF L ss)=true=>CY (L:=L) (ss:=ss) (by rw[a7];exact h));have a1:=aa (λ(s:ByteArray) (I:ss[0]? =some s)=>Hh (L:=L) I);have a2:=aa (λ(i:Nat) (t s:ByteArray) (a0:ss[i]? =some t) (I:ss[i+1]? =some s)=>AW (L:=L) a0 I);have a5:=aa (λ(j:Nat) (h:BF L ss j=true) (O:(List.range j).all (BF L ss)=true)=>Hg h O);rw[a7] at U;obtain⟨R,b5⟩:=aB (iE L ss);rw[<-b5] at Y a4 U;rw[<-b5];obtain⟨G,c0⟩:=aB (BF L ss);rw[<-c0] at Y U a1 a2 a5;obtain⟨b3,c1⟩:=aB (jZ L 1 3);rw[<-c1] at b0 a3 a4 U;clear a8 O b4 a7 b5 c0 c1;go_enter func24,ntmps24;go_wp2;go_loop[3] (λi=>∃j:Nat,j<=n/\i= Ud j/\bv ((List.range j).all G=true)) (λi=>n-(intOf i).toNat);exact⟨0,by omega,rfl,aa rfl⟩;obtain⟨j,c6,rfl,b9⟩:=hrel;by_cases c2:j<n
 ·obtain⟨s,I⟩:=aE (l:=ss) (n:=j) (by rw[b6.o];exact c2);obtain⟨b,d4,rfl,c8,a6⟩:=c4.o.at_ (by omega);have c5:=a6 j _ (bJ I);have d1:(j:Int)<(n:Int):=(by omega);have F:=aa (a3.o j s I);have Q:=aa (Y.o j c2);have b8:=aa (λh=>a5.o j h b9.o);have W:=aa (λw=>eB (s.size:Int) 1 3 w);obtain⟨l,Z⟩:=aB (fb L s.1.1);obtain⟨z,O⟩:=aB (jZ (s.size:Int) 1 3);have b2:=aa (λh:z=true=>show decide (s.size<=16)=true from decide_eq_true (by rw[O,eT] at h;omega));obtain⟨c3,a9⟩:=aB (decide (s.size<=16));rw[<-Z,<-a9] at F;rw[<-O] at W;rw[<-a9] at b2;by_cases c7:j=0
  ·subst c7;have E:=aa (a1.o s I);rw[<-Z,<-O] at E;simp only[ea] at c5;clear I a6 Z O a9 a3 Y a1 a2 a5 U;cases b3 with
   |false=>
    have D:=aa (a4.o rfl);go_wp2_with fail;refine(F.o _).mono ?_;rintro e w' ⟨rfl,rfl⟩;go_wp2;go_ret;exact⟨aG D.o.symm,J.o⟩
   |true=>
    cases l with
    |false=>
     have D:=aa (Q.o E.o);go_wp2_with fail;refine(F.o _).mono ?_;rintro e w' ⟨rfl,rfl⟩;rw[dJ];go_wp2;go_ret;exact⟨aG D.o.symm,J.o⟩
    |true=>
     cases c3 with
     |false=>
      have D:=aa (Q.o (E.o.trans (by cases z with|false=>rfl|true=>exact absurd (b2.o rfl) (by decide))));go_wp2_with fail;refine(F.o _).mono ?_;rintro e w' ⟨rfl,rfl⟩;go_wp2;go_ret;exact⟨aG D.o.symm,J.o⟩
     |true=>
      cases z with
      |false=>
       have D:=aa (Q.o E.o);go_wp2_with(first|(go_at_call 95;refine(F.o _).mono ?_;rintro e w' ⟨rfl,rfl⟩)|(go_at_call 96;refine(W.o _).mono ?_;rintro e w' ⟨rfl,rfl⟩));go_ret;exact⟨aG D.o.symm,J.o⟩
      |true=>
       have b1:=aa (b8.o E.o);go_wp2_with(first|(go_at_call 95;refine(F.o _).mono ?_;rintro e w' ⟨rfl,rfl⟩)|(go_at_call 96;refine(W.o _).mono ?_;rintro e w' ⟨rfl,rfl⟩));go_round;exact⟨0+1,by omega,by go_num,b1⟩;simp[intOf]<;>omega
  ·obtain⟨i,rfl⟩:∃i,j=i+1:=⟨j-1,by omega⟩;obtain⟨t,a0⟩:=aE (l:=ss) (n:=i) (by rw[b6.o];omega);have c9:=a6 i _ (bJ a0);have E:=aa (a2.o i t s a0 I);rw[<-Z,<-O] at E;have d2:(i:Int)<(n:Int):=(by omega);have d0:(0:Int)<(i:Int)+1:=(by omega);clear I a0 a6 Z O a9 a3 Y a1 a2 a5 U;cases b3 with
   |false=>
    have D:=aa (a4.o rfl);go_wp2_with fail;refine(F.o _).mono ?_;rintro e w' ⟨rfl,rfl⟩;go_wp2;go_ret;exact⟨aG D.o.symm,J.o⟩
   |true=>
    cases l with
    |false=>
     have D:=aa (Q.o E.o);go_wp2_with fail;refine(F.o _).mono ?_;rintro e w' ⟨rfl,rfl⟩;rw[dJ];go_wp2;go_ret;exact⟨aG D.o.symm,J.o⟩
    |true=>
     cases c3 with
     |false=>
      have D:=aa (Q.o (E.o.trans (by cases z with|false=>rfl|true=>exact absurd (b2.o rfl) (by decide))));go_wp2_with fail;refine(F.o _).mono ?_;rintro e w' ⟨rfl,rfl⟩;go_wp2;go_ret;exact⟨aG D.o.symm,J.o⟩
     |true=>
      cases z with
      |false=>
       have D:=aa (Q.o E.o);go_wp2_with(first|(go_at_call 95;refine(F.o _).mono ?_;rintro e w' ⟨rfl,rfl⟩)|(go_at_call 96;refine(W.o _).mono ?_;rintro e w' ⟨rfl,rfl⟩));go_ret;exact⟨aG D.o.symm,J.o⟩
      |true=>
       cases hlss:Op.bytesLess t.toList s.toList with
       |false=>
        have D:=aa (Q.o (E.o.trans (by rw[hlss];rfl)));go_wp2_with(first|(go_at_call 95;refine(F.o _).mono ?_;rintro e w' ⟨rfl,rfl⟩)|(go_at_call 96;refine(W.o _).mono ?_;rintro e w' ⟨rfl,rfl⟩));go_ret;exact⟨aG D.o.symm,J.o⟩
       |true=>
        have b1:=aa (b8.o (E.o.trans (by rw[hlss];rfl)));go_wp2_with(first|(go_at_call 95;refine(F.o _).mono ?_;rintro e w' ⟨rfl,rfl⟩)|(go_at_call 96;refine(W.o _).mono ?_;rintro e w' ⟨rfl,rfl⟩));go_round;exact⟨i+1+1,by omega,by go_num,b1⟩;simp[intOf]<;>omega
 ·obtain rfl:j=n:=by omega
  have b7:=aa (U.o b9.o);cases b3 with
  |false=>
   go_wp2_with(first|(go_at_call 96;refine(b0.o _).mono ?_;rintro e w' ⟨rfl,rfl⟩));go_ret;exact⟨aG (b7.o.trans (by simp)).symm,J.o⟩
  |true=>
   go_wp2_with(first|(go_at_call 96;refine(b0.o _).mono ?_;rintro e w' ⟨rfl,rfl⟩));go_ret;exact⟨aG (by rw[b7.o,dK];congr 1;rw[eq_iff_iff];omega),J.o⟩
theorem AL(L)(a)(n c)(ss)(w)(W:aO w a n (ap ss))(E:∀s∈ss,s.size<=maxLen):
 Calls prog 56 #[.agg #[Ud L,.slice a n c]] w λe w'=>e= .returned (.bool (iE L ss))/\Below w.1.size w w':=by
 have a0:=(aV w.1.size w).alloc aQ (.cells #[Ud L,.slice a n c] 28);have a2:ss.length=n:=by simpa[ap] using W.len
 have d6:=W.lim;have c1:=aa (W.below a0 aQ);have b3:=aa a2;have J:=aa a0;by_cases b2:1<=L/\L<=3
 ·obtain⟨c4,c5⟩:=b2;by_cases d7:n<=8
  ·have c9:¬((8:Int)<(n:Int)):=by omega
   have b0:=aa (λ(j:Nat) (s:ByteArray) (I:ss[j]? =some s) (w:World)=>fs L s w (E s (aj I)) (by omega));have Y:=aa (λ(j:Nat) (c7:j<n) (h:BF L ss j=false)=>Ac (by omega) h);have Z:=aa (λh:(List.range n).all (BF L ss)=true=>show iE L ss=true from(CY (L:=L) (ss:=ss) (by rw[a2];exact h)).trans (by rw[fj ⟨c4,c5⟩,decide_eq_true (by omega)];rfl));have a6:=aa (λ(s:ByteArray) (I:ss[0]? =some s)=>Hh (L:=L) I);have a7:=aa (λ(i:Nat) (t s:ByteArray) (a5:ss[i]? =some t) (I:ss[i+1]? =some s)=>AW (L:=L) a5 I);have a8:=aa (λ(j:Nat) (h:BF L ss j=true) (E:(List.range j).all (BF L ss)=true)=>Hg h E);obtain⟨R,O⟩:=aB (iE L ss);rw[<-O] at Y Z;rw[<-O];obtain⟨G,b9⟩:=aB (BF L ss);rw[<-b9] at Y Z a6 a7 a8;clear W E a0 a2 O b9;go_enter func56,ntmps56;go_wp2_with go_in;go_loop[18] (λi=>∃j:Nat,j<=n/\i= Ud j/\bv ((List.range j).all G=true)) (λi=>n-(intOf i).toNat);exact⟨0,by omega,rfl,aa rfl⟩;obtain⟨j,c7,rfl,b5⟩:=hrel;by_cases c0:j<n
   ·obtain⟨s,I⟩:=aE (l:=ss) (n:=j) (by rw[b3.o];exact c0);obtain⟨b,d8,rfl,d1,a9⟩:=c1.o.at_ (by omega);have c6:=a9 j _ (bJ I);have d4:(j:Int)<(n:Int):=(by omega);have Q:=aa (b0.o j s I);have U:=aa (Y.o j c0);have b4:=aa (λh=>a8.o j h b5.o);obtain⟨l,a1⟩:=aB (fb L s.1.1);obtain⟨z,E⟩:=aB (jZ (s.size:Int) 1 3);rw[<-a1] at Q;have b6:=aa (λh:(s.size:Int)<1=>show z=false by rw[E];exact lP (by omega));have b7:=aa (λh:(3:Int)<(s.size:Int)=>show z=false by rw[E];exact lP (by omega));have b8:=aa (λ(h:¬((s.size:Int)<1)) (c3:¬((3:Int)<(s.size:Int)))=>show z=true by rw[E];exact fj (by omega));by_cases c8:j=0
    ·subst c8;have F:=aa (a6.o s I);rw[<-a1,<-E] at F;simp only[ea] at c6;clear I a9 a1 E b0 Y a6 a7 a8 Z;cases l with
     |false=>
      have D:=aa (U.o F.o);go_wp2_with fail;refine(Q.o _).mono ?_;rintro e w' ⟨rfl,rfl⟩;go_wp2;go_ret;exact⟨aG D.o.symm,J.o⟩
     |true=>
      by_cases a3:(s.size:Int)<1
      ·have D:=aa (U.o (F.o.trans (by rw[b6.o a3];rfl)));go_wp2_with fail;refine(Q.o _).mono ?_;rintro e w' ⟨rfl,rfl⟩;go_wp2;go_ret;exact⟨aG D.o.symm,J.o⟩
      ·by_cases a4:(3:Int)<(s.size:Int)
       ·have D:=aa (U.o (F.o.trans (by rw[b7.o a4];rfl)));go_wp2_with fail;refine(Q.o _).mono ?_;rintro e w' ⟨rfl,rfl⟩;go_wp2;go_ret;exact⟨aG D.o.symm,J.o⟩
       ·have b1:=aa (b4.o (F.o.trans (by rw[b8.o a3 a4];rfl)));go_wp2_with fail;refine(Q.o _).mono ?_;rintro e w' ⟨rfl,rfl⟩;go_wp2;go_round;exact⟨0+1,by omega,by go_num,b1⟩;simp[intOf]<;>omega
    ·obtain⟨i,rfl⟩:∃i,j=i+1:=⟨j-1,by omega⟩;obtain⟨t,a5⟩:=aE (l:=ss) (n:=i) (by rw[b3.o];omega);have d2:=a9 i _ (bJ a5);have F:=aa (a7.o i t s a5 I);rw[<-a1,<-E] at F;have d5:(i:Int)<(n:Int):=(by omega);have d3:(0:Int)<(i:Int)+1:=(by omega);clear I a5 a9 a1 E b0 Y a6 a7 a8 Z;cases l with
     |false=>
      have D:=aa (U.o F.o);go_wp2_with fail;refine(Q.o _).mono ?_;rintro e w' ⟨rfl,rfl⟩;go_wp2;go_ret;exact⟨aG D.o.symm,J.o⟩
     |true=>
      by_cases a3:(s.size:Int)<1
      ·have D:=aa (U.o (F.o.trans (by rw[b6.o a3];rfl)));go_wp2_with fail;refine(Q.o _).mono ?_;rintro e w' ⟨rfl,rfl⟩;go_wp2;go_ret;exact⟨aG D.o.symm,J.o⟩
      ·by_cases a4:(3:Int)<(s.size:Int)
       ·have D:=aa (U.o (F.o.trans (by rw[b7.o a4];rfl)));go_wp2_with fail;refine(Q.o _).mono ?_;rintro e w' ⟨rfl,rfl⟩;go_wp2;go_ret;exact⟨aG D.o.symm,J.o⟩
       ·cases hlss:Op.bytesLess t.toList s.toList with
        |false=>
         have D:=aa (U.o (F.o.trans (by rw[hlss];simp)));go_wp2_with fail;refine(Q.o _).mono ?_;rintro e w' ⟨rfl,rfl⟩;go_wp2;go_ret;exact⟨aG D.o.symm,J.o⟩
        |true=>
         have b1:=aa (b4.o (F.o.trans (by rw[b8.o a3 a4,hlss];rfl)));go_wp2_with fail;refine(Q.o _).mono ?_;rintro e w' ⟨rfl,rfl⟩;go_wp2;go_round;exact⟨i+1+1,by omega,by go_num,b1⟩;simp[intOf]<;>omega
   ·obtain rfl:j=n:=by omega
    have c2:=aa (Z.o b5.o);go_wp2;go_ret;exact⟨aG c2.o.symm,J.o⟩
  ·have c9:(8:Int)<(n:Int):=by omega
   have D:=aa (show iE L ss=false by unfold iE;rw[show decide (ss.length<=8)=false from decide_eq_false (by omega),dJ,gO]);obtain⟨R,O⟩:=aB (iE L ss);rw[<-O] at D;rw[<-O];clear W E a0 a2 O;go_enter func56,ntmps56;go_wp2_with go_in;go_ret;exact⟨aG D.o.symm,J.o⟩
 ·have D:=aa (Ae (L:=L) (ss:=ss) (lP (by omega)));obtain⟨R,O⟩:=aB (iE L ss);rw[<-O] at D;rw[<-O];clear W E a0 a2 O;by_cases d0:1<=L
  ·have c3:¬(L<=3):=by omega
   clear b2;go_enter func56,ntmps56;go_wp2_with go_in;go_ret;exact⟨aG D.o.symm,J.o⟩
  ·clear b2;go_enter func56,ntmps56;go_wp2_with go_in;go_ret;exact⟨aG D.o.symm,J.o⟩
end Go.Proofs.YtbdlbckeffakjaaGreatDoor
