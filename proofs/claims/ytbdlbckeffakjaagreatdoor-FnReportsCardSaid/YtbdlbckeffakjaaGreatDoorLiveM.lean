/- Which vertices of a matrix lie on paths that are infinite in both directions: the reference's way. Conditions: a square table. -/
import Derived.Lib.Split
import Derived.Deep.OwnRows
import Derived.Test.YtbdlbckeffakjaaGreatDoorReadN
namespace Go.Proofs.YtbdlbckeffakjaaGreatDoor
set_option maxHeartbeats 4000000
set_option maxRecDepth 100000
open Go.Proofs.Tryz Go.RowKit
def En(p:ByteArray):Option (List Int):=jG (λq=>gC q 12) (pc p 44)
def Tq(t:ByteArray):Option (List (List Int)):=jG En (pc t 47)
def nb(t:ByteArray):Option (List (List Int)):=(Tq t).bind λM=>if dB M=true then some M else none
theorem Oq{p}{r}(h:En p=some r):1<=r.length/\r.length<=p.size+1:=by
 have D:=Io h;have E:=nZ p 44;omega
def va(t:ByteArray)(w:World)(e:Ending)(w':World):Prop:=
 ∃v,e= .returned (.tuple #[v,.bool (nb t).isSome])/\ct 37 3 w' w.1.size v ((nb t).getD [])/\Below w.1.size w w'
theorem ko(s)(w)(F:s.size<=1048576):
 Calls prog 192 #[.string s] w λe w'=>e= .returned (.tuple #[Ud ((gC s 12).getD 0),.bool (gC s 12).isSome])/\Below w.1.size w w':=by
 have E:=aa (Pq s 12 w F (by omega));obtain⟨x,D⟩:=aB ((gC s 12).getD 0);obtain⟨b,h⟩:=aB ((gC s 12).isSome);rw[<-D,<-h] at E;rw[<-D,<-h];clear D h;go_enter func192,ntmps192;go_wp2_with fail;refine E.o.mono ?_;rintro e I ⟨rfl,h⟩;go_wp2;go_ret2;exact⟨rfl,h⟩
theorem Pw:(prog.info? 3).map (λi=>(i.zero,i.size,i.bytes))=some (some (Ud 0),1,8):=by kernel_rfl
theorem Nm:(prog.info? 37).map (λi=>(i.zero,i.size,i.bytes))=some (some (.slice none 0 0),1,24):=by kernel_rfl
theorem lj(w:World)(T){B}(h:B<=w.1.size):(w.alloc (.cells #[] T)).ownsRow B T 1 (.slice (some ⟨w.1.size,0,none⟩) 0 0) 0 []:=iS w #[] 0 h (dW _) rfl
theorem uu(t)(w)(i1:t.size<=1048576):
 Calls prog 185 #[.string t] w (va t w):=by
 unfold va;have a2:=aa (jJ t 47 (w.alloc (.cells #[] 37)) i1);have d3:=aa (lj w 37 (aN w.1.size));have b1:=aa ((aV w.1.size w).alloc aQ (.cells #[] 37));unfold wL at a2;have e3:=nZ t 47;have b3:=aa (show nb t=(jG En (pc t 47)).bind λM=>if dB M=true then some M else none from rfl);obtain⟨D,e5⟩:=aB (pc t 47);rw[<-e5] at a2 e3 b3;obtain⟨j0,j1,e4⟩:=e3;have d7:=aa e4;clear e5 e4;go_enter func185,ntmps185;go_wp2_with fail;refine a2.o.mono ?_;rintro e j9 ⟨j7,rfl,c6,c2⟩;obtain⟨W,g3,rfl,_,_⟩:=dP c6 (by omega);have h1:=aa (aT c6 (b1.o.size));have h0:=aa (ai d3.o c2);have g9:=aa (bs b1.o c2);clear c6 c2 a2 d3 b1;go_wp2;go_loopw[4,6] (λv i wr=>∃(j:Nat) (M:List (List Int)) (Z:List Value),j<=D.length/\i= Ud j/\M.length=j/\bv (jG En (D.take j)=some M)/\bv (wr.ownsRow w.1.size 37 1 v j Z)/\bv (bS 3 wr w.1.size Z M)/\bv (wr.ownsRow w.1.size 9 1 (.slice (some ⟨W,0,none⟩) D.length g3) D.length (ap D))/\bv (Below w.1.size w wr)) (λ_ i _=>D.length-(intOf i).toNat);exact⟨0,[],[],by omega,rfl,rfl,by show _=_;simp[jG],h0,aa (bS.nil _ _ _),h1,g9⟩;obtain⟨j,M,Z,i7,rfl,a7,a5,d4,b7,b4,a0⟩:=hrel;obtain⟨h,rfl⟩:=aB wr;have c1:w.1.size<=h.1.size:=a0.o.size;by_cases h9:j<D.length
 ·obtain⟨p,U⟩:=aE (l:=D) (n:=j) h9;have j2:=d7.o p (aj U);have h5:h.cell? ⟨W,j,none⟩=some (.string p):=(b4.o.cellAt j (by omega)).trans (bJ U);have i8:(j:Int)<(D.length:Int):=(by omega);have h7:W<h.1.size:=(b4.o.lt W rfl).2;have i6:(h.alloc (.cells #[] 3)).cell? ⟨W,j,none⟩=some (.string p):=(((aV h.1.size h).alloc aQ (.cells #[] 3)).cell (p:=⟨W,j,none⟩) h7).trans h5;have a3:=aa (jJ p 44 (h.alloc (.cells #[] 3)) (by omega));unfold wL at a3;have e6:=nZ p 44;have b5:=aa (show En p=jG (λq=>gC q 12) (pc p 44) from rfl);obtain⟨E,f0⟩:=aB (pc p 44);rw[<-f0] at a3 e6 b5;obtain⟨j3,j4,e7⟩:=e6;have f8:=aa e7;have d5:=aa U;clear f0 e7 U;go_wp2_with fail;refine a3.o.mono ?_;rintro e k0 ⟨j8,rfl,c7,c3⟩;obtain⟨e0,g4,rfl,_,_⟩:=dP c7 (by omega);have c4:=(aV h.1.size h).alloc aQ (.cells #[] 3);have h2:=aa (aT c7 c4.size);have h3:=aa (ai (lj h 3 (aN h.1.size)) c3);have h4:=aa (bs c4 c3);clear c7 c3 a3 c4;go_wp2;go_loopw[7,9] (λv i wr=>∃(k g a6:Nat) (ys:List Int),k<=E.length/\i= Ud k/\v= .slice (some ⟨g,0,none⟩) k a6/\ys.length=k/\bv (jG (λq=>gC q 12) (E.take k)=some ys)/\bv (wr.ownsRow h.1.size 3 1 (.slice (some ⟨g,0,none⟩) k a6) k (af ys))/\bv (wr.ownsRow h.1.size 9 1 (.slice (some ⟨e0,0,none⟩) E.length g4) E.length (ap E))/\bv (Below h.1.size h wr)) (λ_ i _=>E.length-(intOf i).toNat);exact⟨0,h.1.size,0,[],by omega,rfl,rfl,rfl,by show _=_;simp[jG],h3,h2,h4⟩;obtain⟨k,g,a6,ys,a8,rfl,rfl,c8,b8,b6,d9,J⟩:=hrel;have j6:h.1.size<=wr.1.size:=J.o.size;by_cases h8:k<E.length
  ·obtain⟨q,b0⟩:=aE (l:=E) (n:=k) h8;have j5:=f8.o q (aj b0);have i5:wr.cell? ⟨e0,k,none⟩=some (.string q):=(d9.o.cellAt k (by omega)).trans (bJ b0);have i9:(k:Int)<(E.length:Int):=(by omega);have O:=aa (ko q wr (by omega));have d8:=aa b0;clear b0;cases hrd:gC q 12 with
   |none=>
    have I:=aa (show nb t=none by
     have e1:En p=none:=by rw[b5.o];exact Bs (f:=λq=>gC q 12) hrd (aj d8.o)
     rw[b3.o,Bs e1 (aj d5.o)];rfl)
    have F:=O.o;rw[hrd] at F;simp only[Option.getD_none,iT] at F;have O:=aa F;clear F hrd;go_wp2_with fail;refine O.o.mono ?_;rintro e a1 ⟨rfl,Q⟩;have b9:=aa (bs (bs a0.o J.o) Q);clear Q;go_wp2;go_ret2;exact⟨_,by rw[I.o];rfl,by rw[I.o];exact⟨[],lj a1 _ (b9.o.size),bS.nil _ _ _⟩,b9.o.alloc b9.o.size _⟩
   |some x=>
    have g1:=aa (DS (f:=λq=>gC q 12) b8.o d8.o hrd);have F:=O.o;rw[hrd] at F;simp only[ci,eF] at F;have O:=aa F;clear F hrd;go_wp2_with fail;refine O.o.mono ?_;rintro e a1 ⟨rfl,Q⟩;have c9:=aa (bs J.o Q);have f2:=ai b6.o Q;have e8:=ai d9.o Q;have f6:h.1.size<=a1.1.size:=c9.o.size;have f3:=aa f2;have e9:=aa e8;clear Q O e8;go_wp2_with(first|(at_builtin;go_must(refine eu rfl _ _ 37 rfl h.1.size 3 (Ud 0) 8 underlying37 Pw rfl _ k (af ys) _ f2 rfl rfl rfl (by omega) (by unfold maxLen;omega) f6 ?_);intro v' i2 a9 Y));obtain⟨g5,g2,rfl,_,_⟩:=dP a9 (by omega);go_roundw;exact⟨k+1,g5,g2,ys++[x],by omega,by go_num,rfl,by simp[c8],g1,aa (by simpa[af] using a9),aa (e9.o.kept Y (eD e9.o f3.o (by decide))),aa (c9.o.grown Y f6 (λk a8=>(f3.o.lt k a8).1))⟩;simp[intOf]<;>omega
  ·obtain rfl:k=E.length:=by omega
   have f1:En p=some ys:=by
    have:=b8.o;rw[aM aQ] at this;rw[b5.o];exact this
   have f7:=aa (DS a5.o d5.o f1);have h6:h.1.size<=g:=(b6.o.lt g rfl).1;have e2:=ai d4.o J.o;have b2:=aa e2;have g0:=aa (b7.o.moreAt (eU J.o) h6 (by rw[c8];exact aT b6.o c1));have d6:=aa (ai b4.o J.o);have d0:=aa (bs a0.o J.o);have f5:w.1.size<=wr.1.size:=d0.o.size;clear f1 b8 b7 a5;go_wp2_with(first|(at_builtin;go_must(refine eu rfl _ _ 24 rfl w.1.size 37 (.slice none 0 0) 24 underlying24 Nm rfl _ j Z _ e2 rfl rfl rfl (by omega) (by unfold maxLen;omega) f5 ?_);intro v' i2 a9 Y));go_roundw;exact⟨j+1,M++[ys],Z++[.slice (some ⟨g,0,none⟩) E.length a6],by omega,by go_num,by simp[a7],f7,aa a9,aa (by have:=g0.o.kept b2.o (by decide) Y;rw[c8] at this;exact this),aa (d6.o.kept Y (eD d6.o b2.o (by decide))),aa (d0.o.grown Y f5 (λk a8=>(b2.o.lt k a8).1))⟩;simp[intOf]<;>omega
 ·obtain rfl:j=D.length:=by omega
  have c5:jG En D=some M:=by
   have:=a5.o;rw[aM aQ] at this;exact this
  have d1:=aa (show nb t=if dB M=true then some M else none by rw[b3.o,c5];rfl);have f9:=aa (show∀r∈M,r.length<=140737488351232 fromλr i0=>by
   obtain⟨i,hi,e⟩:=List.getElem_of_mem i0;obtain⟨p,U⟩:=aE (l:=D) (n:=i) (by omega);have e1:=d7.o p (aj U);have g8:=Lj c5 U (aw.2 ⟨hi,e⟩);have i4:=Oq g8;omega)
  have c0:=d4.o;rw[<-a7] at c0;have d2:=aa (show ct 37 3 h w.1.size _ M from⟨Z,c0,b7.o⟩);clear c0;obtain⟨g6,g7,rfl,f4⟩:=iw d2.o (by omega) f9.o;have a4:=aa (dx g6 M.length g7 M h f4);have i3:=aa a7;clear c5 f4 a5 a7;cases him:dB M
  ·rw[him] at a4;have I:=aa (show nb t=none by rw[d1.o,him];rfl);clear him;go_wp2_with fail;refine a4.o.mono ?_;rintro e a1 ⟨rfl,rfl⟩;go_wp2;go_ret2;exact⟨_,by rw[I.o];rfl,by rw[I.o];exact⟨[],lj h _ c1,bS.nil _ _ _⟩,a0.o.alloc c1 _⟩
  ·rw[him] at a4;have I:=aa (show nb t=some M by rw[d1.o,him];rfl);clear him;go_wp2_with fail;refine a4.o.mono ?_;rintro e a1 ⟨rfl,rfl⟩;go_wp2;go_ret2;exact⟨_,by rw[I.o];rfl,by rw[I.o];exact d2.o,a0.o⟩

def ru(w:World):Prop:=∃m:Int,w.cell? ⟨0,0,none⟩=some (Ud m)
theorem em{B}{w w'}(h:ru w)(F:Below B w w')(E:w.1.size<=B):ru w':=by
 obtain⟨m,D⟩:=h;exact⟨m,(F.cell (p:=⟨_,0,none⟩) (aH (kU w _ D) E)).trans D⟩
structure Bu (w : World) : Prop where
  tab : qP w
  max : ru w
theorem Jo{B}{w w'}(h:Bu w)(E:Below B w w')(D:w.1.size<=B):Bu w':=⟨gt h.tab E D,em h.max E D⟩

theorem wk(s p):Lib.contains s p=ke p s:=by
 rw[bF,rX];unfold Lib.contains;rw[decide_eq_true_iff];constructor
 ·intro h;rcases Lib.index_spec s p with⟨D,_⟩|⟨i,D,E,F,_⟩
  ·omega
  ·unfold Lib.occAt at F;obtain⟨t,J⟩:=List.isPrefixOf_iff_prefix.1 F;refine⟨s.take i,t,?_⟩;rw[cJ,J,dX]
 ·rintro⟨a,b,rfl⟩;rcases Lib.index_spec (a++p++b) p with⟨_,E⟩|⟨i,D,_⟩
  ·have:=E a.length (by simp);unfold Lib.occAt at this;rw[cJ,List.drop_left] at this;have I:p.isPrefixOf (p++b)=true:=List.isPrefixOf_iff_prefix.2 ⟨b,rfl⟩;rw[I] at this;cases this
  ·omega
theorem tF{a b:ByteArray}(h:a.1.1=b.1.1):a=b:=by
 cases a;cases b;simp at h;rw[h]
theorem PP(s p:ByteArray)(k):decide (s.extract k (k+p.size)=p)=decide ((s.1.1.drop k).take p.1.1.length=p.1.1):=by
 have D:(s.extract k (k+p.size)).1.1=(s.1.1.drop k).take p.size:=by
  simp[ep,fD,er]
 rw[bF,decide_eq_true_iff,decide_eq_true_iff,bM];constructor
 ·intro h;rw[<-D,h]
 ·intro h;exact tF (by rw[D,h])
def ua(p w:List UInt8)(j:Nat):Bool:=(List.range j).any λi=>decide (i+p.length<=w.length)&&decide ((w.drop i).take p.length=p)
theorem Mn{p w}{j}(h:j+p.length<=w.length)(D:decide ((w.drop j).take p.length=p)=true):ke p w=true:=by
 unfold ke;rw[bB];exact⟨j,aD.2 (by omega),by rw[decide_eq_true h,D];rfl⟩
theorem Jc{p w}{j}(h:ua p w j=false)(D:decide ((w.drop j).take p.length=p)=false):ua p w (j+1)=false:=by
 unfold ua at h⊢;rw[bh,fO,h];simp only[List.any_cons,nk,D,dJ,eR]
theorem Mo{p w}{j}(h:ua p w j=false)(E:w.length<j+p.length):ke p w=false:=by
 cases hb:ke p w
 ·rfl
 ·unfold ke at hb;rw[bB] at hb;obtain⟨i,_,hi⟩:=hb;have D:=hi;rw[aC,decide_eq_true_iff] at D;have:ua p w j=true:=by
   unfold ua;rw[bB];exact⟨i,aD.2 (by omega),hi⟩
  rw[h] at this;cases this
theorem Bt(s p)(w)(a7:s.size<=1048576)(a6:p.size<=1048576):
 Calls prog 198 #[.string s,.string p] w λe w'=>e= .returned (.bool (ke p.1.1 s.1.1))/\w=w':=by
 have Q:=aa (λ(j:Nat) (a2:j+p.size<=s.size) (h:s.extract j (j+p.size)=p)=>show ke p.1.1 s.1.1=true from Mn (j:=j) (by rw[bM,bM];exact a2) (by rw[<-PP];exact decide_eq_true h));have U:=aa (λ(j:Nat) (I:ua p.1.1 s.1.1 j=false) (h:¬s.extract j (j+p.size)=p)=>show ua p.1.1 s.1.1 (j+1)=false from Jc I (by rw[<-PP];exact decide_eq_false h));have E:=aa (λ(j:Nat) (I:ua p.1.1 s.1.1 j=false) (h:s.size<j+p.size)=>show ke p.1.1 s.1.1=false from Mo I (by rw[bM,bM];exact h));obtain⟨Z,O⟩:=aB (ua p.1.1 s.1.1);obtain⟨R,J⟩:=aB (ke p.1.1 s.1.1);have a1:=aa (show Z 0=false by rw[O];rfl);rw[<-O] at U E;rw[<-J] at Q E;rw[<-J];clear O J;go_enter func198,ntmps198;go_wp2;go_loop[5] (λv=>∃k:Nat,k<=s.size+1/\v= Ud k/\bv (Z k=false)) (λv=>s.size+1-(intOf v).toNat);exact⟨0,by omega,rfl,a1⟩;obtain⟨k,a5,rfl,W⟩:=hrel;by_cases a3:k+p.size<=s.size
 ·have a4:(k:Int)+(p.size:Int)<=(s.size:Int):=by omega
  have Y:((s.extract k (k+p.size)).toList==p.toList)=decide (s.extract k (k+p.size)=p):=by
   by_cases D:s.extract k (k+p.size)=p
   ·rw[D];simp
   ·rw[decide_eq_false D];simp only[beq_eq_false_iff_ne,ne_eq];intro e;rw[Lib.toList_data,Lib.toList_data] at e;exact D (tF e)
  by_cases D:s.extract k (k+p.size)=p
  ·rw[decide_eq_true D] at Y;have F:=aa (Q.o k a3 D);clear D;go_wp2;go_ret;exact⟨aG F.o.symm,rfl⟩
  ·rw[decide_eq_false D] at Y;have a0:=aa (U.o k W.o D);clear D;go_wp2;go_round;exact⟨k+1,by omega,by go_num,a0⟩;simp[intOf];omega
 ·have a4:¬((k:Int)+(p.size:Int)<=(s.size:Int)):=by omega
  have F:=aa (E.o k W.o (by omega));go_wp2;go_ret;exact⟨aG F.o.symm,rfl⟩
theorem me(a)(n c)(ss)(D)(w)(W:aO w a n (ap ss))(a7:∀t∈ss,t.size<=1048576)(b5:D.size<=1048576)(c0:n<=1048576):
 Calls prog 152 #[.slice a n c,.string D] w λe w'=>e= .returned (.bool (oS ss D.1.1))/\w=w':=by
 have U:ss.length=n:=by simpa[ap] using W.len
 have J:=aa (λ(k:Nat) (f:ByteArray) (E:ss[k]? =some f) (h:ke f.1.1 D.1.1=true)=>DM (w:=D.1.1) E h);have I:=aa (λ(k:Nat) (f:ByteArray) (E:ss[k]? =some f) (h:ke f.1.1 D.1.1=false) (b4:ww ss D.1.1 k=true)=>DN E h b4);have F:=aa (show ww ss D.1.1 n=oS ss D.1.1 from by rw[<-U];exact Ik);have Z:=aa (λ(k:Nat) (f:ByteArray) (E:ss[k]? =some f) (b2:World)=>Bt D f b2 b5 (a7 f (aj E)));obtain⟨a4,Q⟩:=aB (ww ss D.1.1);have b1:=aa (show a4 0=true by rw[Q];rfl);rw[<-Q] at I F;obtain⟨R,O⟩:=aB (oS ss D.1.1);rw[<-O] at J F;rw[<-O];have Y:=aa W.at_;have a8:=aa U;clear W a7 Q O U;go_enter func152,ntmps152;go_wp2;go_loop[5] (λi=>∃k:Nat,k<=n/\i= Ud k/\bv (a4 k=true)) (λi=>n-(intOf i).toNat);exact⟨0,by omega,rfl,b1⟩;obtain⟨k,b8,rfl,a3⟩:=hrel;by_cases b3:k<n
 ·obtain⟨f,E⟩:=aE (l:=ss) (n:=k) (by rw[a8.o];exact b3);obtain⟨b,c1,rfl,b6,a5⟩:=Y.o (by omega);have b7:=a5 k _ (bJ E);have b9:(k:Int)<(n:Int):=(by omega);have a0:=aa (Z.o k f E);have a1:=aa (J.o k f E);have a2:=aa (I.o k f E);obtain⟨o,a6⟩:=aB (ke f.1.1 D.1.1);rw[<-a6] at a0 a1 a2;clear E a5 a6 Y Z J I;go_wp2_with fail;refine(a0.o _).mono ?_;rintro e c2 ⟨rfl,rfl⟩;cases o with
  |true=>
   have b0:=aa (a1.o rfl);go_wp2;go_ret;exact⟨aG b0.o.symm,rfl⟩
  |false=>
   have a9:=aa (a2.o rfl a3.o);go_wp2;go_round;exact⟨k+1,by omega,by go_num,a9⟩;simp[intOf];omega
 ·obtain rfl:k=n:=by omega
  go_wp2;go_ret;exact⟨aG (a3.o.symm.trans F.o),rfl⟩
theorem wu(L)(a)(n c)(ss)(D)(w)(a0:aO w a n (ap ss))(c8:D.size<=1048576)(c7:n<=1048576)(b0:ru w):
 Calls prog 145 #[.agg #[Ud L,.slice a n c],.string D] w λe w'=>e= .returned (.bool (oS ss D.1.1))/\Below w.1.size w w':=by
 have Z:ss.length=n:=by simpa[ap] using a0.len
 have Q:=aa (λ(k:Nat) (f:ByteArray) (E:ss[k]? =some f) (h:ke f.1.1 D.1.1=true)=>DM (w:=D.1.1) E h);have O:=aa (λ(k:Nat) (f:ByteArray) (E:ss[k]? =some f) (h:ke f.1.1 D.1.1=false) (b9:ww ss D.1.1 k=true)=>DN E h b9);have J:=aa (show ww ss D.1.1 n=oS ss D.1.1 from by rw[<-Z];exact Ik);obtain⟨F,W⟩:=aB (w.alloc (.cells #[Ud L,.slice a n c] 28));have I:Below w.1.size w F:=by rw[W];exact aZ.alloc aQ _
 have b8:=em b0 I aQ;obtain⟨c1,b1⟩:=b8;have a3:=aa (λ(f:ByteArray)=>show Calls prog 226 #[.string D,.string f] F λe w'=>e= .returned (.bool (ke f.1.1 D.1.1))/\w'=F from by
  rw[<-wk];exact Tryz.strings_Contains D f c1 F (by omega) b1)
 obtain⟨a8,Y⟩:=aB (ww ss D.1.1);have b6:=aa (show a8 0=true by rw[Y];rfl);rw[<-Y] at O J;obtain⟨R,U⟩:=aB (oS ss D.1.1);rw[<-U] at Q J;rw[<-U];have a1:=aa (a0.below I aQ).at_;have b3:=aa Z;have a2:=aa I;clear a0 Y U Z b1 b0 I;go_enter func145,ntmps145;go_wp2;rw[<-W];clear W;go_loop[10] (λi=>∃k:Nat,k<=n/\i= Ud k/\bv (a8 k=true)) (λi=>n-(intOf i).toNat);exact⟨0,by omega,rfl,b6⟩;obtain⟨k,c5,rfl,a7⟩:=hrel;by_cases b7:k<n
 ·obtain⟨f,E⟩:=aE (l:=ss) (n:=k) (by rw[b3.o];exact b7);obtain⟨b,c9,rfl,c3,a9⟩:=a1.o (by omega);have c4:=a9 k _ (bJ E);have c6:(k:Int)<(n:Int):=(by omega);have a4:=aa (a3.o f);have a5:=aa (Q.o k f E);have a6:=aa (O.o k f E);obtain⟨o,b2⟩:=aB (ke f.1.1 D.1.1);rw[<-b2] at a4 a5 a6;clear E a9 b2 a1 a3 Q O;go_wp2_with fail;refine a4.o.mono ?_;rintro e c2 ⟨rfl,c0⟩;obtain rfl:c2=F:=c0;cases o with
  |true=>
   have b5:=aa (a5.o rfl);go_wp2;go_ret;exact⟨aG b5.o.symm,a2.o⟩
  |false=>
   have b4:=aa (a6.o rfl a7.o);go_wp2;go_round;exact⟨k+1,by omega,by go_num,b4⟩;simp[intOf];omega
 ·obtain rfl:k=n:=by omega
  go_wp2;go_ret;exact⟨aG (a7.o.symm.trans J.o),a2.o⟩
def Qx(F:FuncId)(cap:Value)(k n:Nat)(p:Nat->Bool)(W:World):Prop:=
 ∀i w,i<k^n->Below W.1.size W w->Calls prog F #[cap,.string (db k n i)] w λe w'=>e= .returned (.bool (p i))/\Below w.1.size w w'
theorem Hl(k n)(F)(cap)(p)(w)(Q:1<=k/\k<=3)(b5:n<=8)(a8:Qx F cap k n p w)(d7:∀x w,(callFunc F #[cap,x]).run prog w= .ok (.enter F #[cap,x]) w):
 Calls prog 141 #[Ud k,Ud n,.func (.func F) #[cap] #[]] w (dC p k n w):=by
 have d0:=eb Q.2 b5;have a2:=aa (λw:World=>ls k n w Q b5);obtain⟨m,Y⟩:=aB (k^n);have a0:=aa a8;unfold Qx at a0;unfold iK at a2;unfold dC;rw[<-Y] at a2 a0 d0;rw[<-Y];have e2:1<=m:=by rw[Y];exact gK _ _ (by omega)
 clear a8 Y Q;go_enter func141,ntmps141;go_wp2_with fail;refine(a2.o _).mono ?_;rintro e b7 ⟨v,rfl,E,a9⟩;have D:=aT (base':=w.1.size) E (by simp);obtain⟨W,b9,rfl,d8,e1⟩:=D.form (by omega);have d9:w.1.size+1<=W:=by
  obtain⟨d6,d5,c5,c6,_⟩:=E.form (by omega);simp at c5 c6;omega
 have b8:=aa D;have c2:Below w.1.size w b7:=(aZ.alloc aQ _).trans (a9.mono (by simp));have c9:b7.ownsRow w.1.size 9 1 (.slice (some ⟨w.1.size,0,none⟩) 0 0) 0 (ap (kp p k n 0)):=ai (show(w.alloc (.cells #[] 9)).ownsRow w.1.size 9 1 (.slice (some ⟨w.1.size,0,none⟩) 0 0) 0 (ap (kp p k n 0)) from bd #[] _ rfl aQ (by unfold maxLen;simp)) a9;clear E D;go_wp2;go_loopw[7,15] (λv i wr=>∃j:Nat,j<=m/\i= Ud j/\wr.ownsRow w.1.size 9 1 v ((List.range j).filter p).length (ap (kp p k n j))/\v.ownBlock≠some W/\wr.ownsRow w.1.size 9 1 (.slice (some ⟨W,0,none⟩) m b9) m (ap (wds k n m))/\Below w.1.size w wr) (λ_ i _=>m-(intOf i).toNat);exact⟨0,by omega,rfl,c9,by simp[Value.ownBlock];omega,b8.o,c2⟩;obtain⟨j,e0,rfl,E,a4,Z,I⟩:=hrel;have c4:=yk p j;by_cases b4:j<m
 ·obtain⟨d2,d4,b2,b6⟩:=aS Z (by omega);simp only[aJ,true_and] at b2;obtain⟨rfl,rfl⟩:=b2;obtain⟨d3,e3,b1,c0,b0⟩:=b6.at_ (by omega);simp only[aI,cA,and_true] at b1;obtain⟨rfl,rfl⟩:=b1;have c3:=b0 j _ (bJ (mt b4));rw[aW] at c3;have a1:=aa E;have a7:=aa Z;have U:=aa (a0.o j wr b4 I);clear b6 b0 E Z;obtain⟨c,a3⟩:=aB (((List.range j).filter p).length);have a6:=aa a3;rw[<-a3] at a1 c4;clear a3;cases hpj:p j
  ·rw[hpj] at U;have J:=aa hpj;clear hpj;go_wp2_with fail;refine U.o.mono ?_;rintro e d1 ⟨rfl,h⟩;have D:=ai a1.o h;have a5:=ai a7.o h;have O:=I.trans (h.mono I.size);go_wp2;go_roundw;exact⟨j+1,by omega,by go_num,by rw[Ax J.o,Bj J.o,<-a6.o];exact D,a4,a5,O⟩;simp[intOf];omega
  ·rw[hpj] at U;have J:=aa hpj;clear hpj;go_wp2_with fail;refine U.o.mono ?_;rintro e d1 ⟨rfl,h⟩;have D:=ai a1.o h;have a5:=ai a7.o h;have O:=I.trans (h.mono I.size);have c1:=aH c0 h.size;go_wp2_with(first|(at_builtin;go_must(refine iM rfl _ _ 26 rfl w.1.size 9 (.string ByteArray.empty) 16 underlying26 iG rfl _ c (ap (kp p k n j)) _ D rfl rfl rfl (by omega) (by unfold maxLen;omega) O.size W a4 c1 ?_);intro v' e4 c8 b3 c7));go_roundw;exact⟨j+1,by omega,by go_num,by rw[uL J.o,uV J.o,<-a6.o];exact c8,c7,a5.kept b3 (Or.inr λe=>a4 (by rw[<-e];rfl)),O.grown b3 O.size (λk Q=>(D.lt k Q).1)⟩;simp[intOf];omega
 ·obtain rfl:j=m:=by omega
  clear Z;go_wp2;go_ret;exact⟨_,rfl,E,I⟩
theorem MR(k E:Nat)(a)(n c)(ss)(w)(e1:aO w a n (ap ss))(e3:∀t∈ss,t.size<=1048576)(a0:1<=k/\k<=3)(d6:E<=8)(g5:n<=1048576):
 Calls prog 195 #[.agg #[Ud k,.slice a n c],Ud E] w (dC (λi=>oS ss (pd k E i)) k E w):=by
 have g6:=eb a0.2 d6;have b3:=aa (λw:World=>le k E w a0 d6);obtain⟨p,c1⟩:=aB ((λi=>oS ss (pd k E i)));have e7:=aa (λ(V:World) (i:Nat) (Y:Below w.1.size w V)=>show Calls prog 152 #[.slice a n c,.string (db k E i)] V λe w'=>e= .returned (.bool (p i))/\V=w' from by
  have:=me a n c ss (db k E i) V (e1.below Y aQ) e3 (by rw[ce];omega) g5;rw[eq] at this;rw[c1];exact this)
 rw[<-c1];obtain⟨m,a3⟩:=aB (k^E);unfold iK at b3;unfold dC;rw[<-a3] at b3 g6;rw[<-a3];have i0:1<=m:=by rw[a3];exact gK _ _ (by omega)
 obtain⟨D,I⟩:=aB (w.alloc (.cells #[Ud k,.slice a n c] 28));have b4:Below w.1.size w D:=by rw[I];exact aZ.alloc aQ _
 have e4:D.1.size=w.1.size+1:=by rw[I];simp
 have b6:bA D w.1.size #[Ud k,.slice a n c]:=by rw[I];exact bA.new _ _ _
 have a6:=aa (λ(V:World) (Y:Below D.1.size D V)=>show(V.cell? ⟨w.1.size,0,none⟩=some (Ud k)/\V.cell? ⟨w.1.size,1,none⟩=some (.slice a n c))/\Below w.1.size w V from⟨⟨(b6.below Y).cell 0,(b6.below Y).cell 1⟩,b4.trans (Y.mono (by omega))⟩);have c4:=aa (bd (w:=D) (base:=D.1.size) (e:=9) #[] [] rfl aQ (by unfold maxLen;simp));have U:=aa (show Below D.1.size D (D.alloc (.cells #[] 9)) from aZ.alloc aQ _);have g8:=b4.size;obtain⟨⟨g9,h0⟩,_⟩:=a6.o _ U.o;clear b4 b6 c1 a3 a0 e1 e3;go_enter func195,ntmps195;go_wp2_with(first|rw[<-I]);first|rw[<-I]|skip
 clear I;refine(b3.o _).mono ?_;rintro e e6 ⟨v,rfl,c0,b5⟩;have d8:=ai c4.o b5;have c9:Below D.1.size D e6:=U.o.trans (b5.mono U.o.size);obtain⟨F,f8,rfl,d4,g4⟩:=c0.form (by omega);have g2:F≠D.1.size:=by simp at d4;omega
 have d9:=aT (base':=D.1.size) c0 U.o.size;have c5:=aa (show e6.ownsRow D.1.size 9 1 (.slice (some ⟨D.1.size,0,none⟩) 0 0) ((List.range 0).filter p).length (ap (kp p k E 0)) from d8);have c3:=aa (show(Value.slice (some ⟨D.1.size,0,none⟩) 0 0).ownBlock≠some F by simp[Value.ownBlock];omega);have c7:=aa d9;have c2:=aa c9;clear d8 c9 c0 d9 b5 g4 d4 g9 h0 c4 U g2;go_wp2;go_loopw[5,7] (λv i wr=>∃j:Nat,j<=m/\i= Ud j/\bv (wr.ownsRow D.1.size 9 1 v ((List.range j).filter p).length (ap (kp p k E j)))/\bv (v.ownBlock≠some F)/\bv (wr.ownsRow D.1.size 9 1 (.slice (some ⟨F,0,none⟩) m f8) m (ap (wds k E m)))/\bv (Below D.1.size D wr)) (λ_ i _=>m-(intOf i).toNat);refine⟨0,by omega,rfl,?_,?_,c7,c2⟩
 ·rw[<-e4];exact c5
 ·rw[<-e4];exact c3
 clear c5 c3 c7 c2;obtain⟨j,h8,rfl,W,a8,b2,J⟩:=hrel;have g1:=yk p j;by_cases g3:j<m
 ·have h9:(j:Int)<(m:Int):=by omega
  obtain⟨h4,h6,d3,e2⟩:=aS b2.o (by omega);simp only[aJ,true_and] at d3;obtain⟨rfl,rfl⟩:=d3;obtain⟨h5,i2,d2,f9,d1⟩:=e2.at_ (by omega);simp only[aI,cA,and_true] at d2;obtain⟨rfl,rfl⟩:=d2;have b7:=d1 j _ (bJ (mt g3));rw[aW] at b7;obtain⟨⟨h1,h2⟩,d0⟩:=a6.o _ J.o;have e9:=aa d0;clear e2 d1 d0;obtain⟨d,b8⟩:=aB (((List.range j).filter p).length);have h3:=aa b8;have b1:=aa (λq:Nat=>show Calls prog 152 #[.slice a n c,.string (db k E j)] (wr.drewN q) λe w'=>e= .returned (.bool (p j))/\wr.drewN q=w' from e7.o _ j (e9.o.trans (aA aZ _)));have a2:=aa (λh:p j=true=>uL (k:=k) (n:=E) h);have a1:=aa (λh:p j=false=>Ax (k:=k) (n:=E) h);have Q:=aa (λh:p j=true=>uV h);have O:=aa (λh:p j=false=>Bj h);have g7:=J.o.size;have a9:=W.o;rw[<-b8] at a9 g1 Q O;have W:=aa a9;clear a9 b8;obtain⟨o,d7⟩:=aB (p j);rw[<-d7] at b1 a2 a1 Q O;clear d7;go_wp2;go_quiet((go_at_call 152;exact aF ((b1.o _).mono (λe w' h=>⟨h.1,h.2.symm⟩))));obtain⟨a5,a4⟩:=aB (wr.drewN nq);rw[<-a4];have Z:Below wr.1.size wr a5:=by rw[a4];exact aA aZ _
  have i1:wr.1.size=a5.1.size:=by rw[a4];simp
  have g0:F<a5.1.size:=(by omega);have h7:=(Z.cell (p:=⟨F,j,none⟩) f9).trans b7;have c6:=aa (ai W.o Z);have c8:=aa (ai b2.o Z);have a7:=aa (J.o.trans (Z.mono g7));have e5:D.1.size<=a5.1.size:=a7.o.size;clear a4 Z b7 W b2 J h1 h2 b1;cases o with
  |false=>
   have f5:=aa (a1.o rfl);have f0:=aa (O.o rfl);clear a2 a1 Q O;go_wp2;go_roundw;exact⟨j+1,by omega,by go_num,aa (by rw[f5.o,f0.o];exact c6.o),a8,c8,a7⟩;simp[intOf];omega
  |true=>
   have f7:=aa (a2.o rfl);have f1:=aa (Q.o rfl);clear a2 a1 Q O;have b0:=c6.o;go_wp2_with(first|(at_builtin;go_must(refine iM rfl _ _ 26 rfl D.1.size 9 (.string ByteArray.empty) 16 underlying26 iG rfl _ d _ _ b0 rfl rfl rfl (by omega) (by unfold maxLen;omega) e5 F a8.o g0 ?_);intro v' i3 e0 b9 d5));have f6:=aa e0;have f4:=aa (c8.o.kept b9 (Or.inr λe=>a8.o (by rw[<-e];rfl)));have e8:=aa (a7.o.grown b9 e5 (λk a0=>(b0.lt k a0).1));have f2:=aa d5;clear e0 b9 d5 b0;go_roundw;exact⟨j+1,by omega,by go_num,aa (by rw[f7.o,f1.o];exact f6.o),f2,f4,e8⟩;simp[intOf];omega
 ·obtain rfl:j=m:=by omega
  have f3:=aa (aT (base':=w.1.size) W.o g8);go_wp2;go_ret;exact⟨_,rfl,f3.o,(a6.o _ J.o).2⟩
theorem MH(w)(M)(U:M<=6561):(w.alloc (.cells (madeCells #[.bool false] M) 4)).ownsRow w.1.size 4 1 (.slice (some ⟨w.1.size,0,none⟩) M M) M (bP (fq (λ_=>false) M))/\Below w.1.size w (w.alloc (.cells (madeCells #[.bool false] M) 4)):=by
 obtain⟨J,hi,E,F,I⟩:=info_parts vR;obtain⟨w',h,D,Q⟩:=run_make_full (P:=prog) w w.1.size 107 4 J (.bool false) 1 underlying107 hi E F .i64 .i64 M (by rw[I];omega) (by unfold maxLen;omega) aQ;have O:=run_make_row (P:=prog) 107 4 J (.bool false) underlying107 hi E F rfl .i64 .i64 M (by rw[I];omega) (by omega) w;rw[O] at h;injection h with _ h
 subst h;rw[sW] at D;exact⟨D,aZ.alloc aQ _⟩
def Sp(h:List (List Int))(M:Nat)(K:Nat->Bool):Prop:=∀i,i<M->K i=true->(rp K h M 0 i&&rr K h M 0 i)=true
def Jv(h:List (List Int))(M:Nat)(K:Nat->Bool)(i:Nat):Bool:=rp K h M 0 i&&rr K h M 0 i
def kz(h:List (List Int))(M:Nat)(K:Nat->Bool)(r i:Nat):Bool:=K i&&(!decide (i<r)||Jv h M K i)
def Hw(M:Nat)(K:Nat->Bool):Nat:=((List.range M).filter K).length
theorem QI{D}{M}{K}(h:Sp D M K):kz D M K M=K:=by
 funext i;unfold kz;by_cases hi:i<M
 ·cases hk:K i
  ·rfl
  ·have E:Jv D M K i=true:=h i hi hk;rw[E];simp
 ·simp[hi]
theorem Rq{D}{M t}{K}(W:t<M)(h:Sp D M K\/Hw M K<=M-t):Sp D M (kz D M K M)\/Hw M (kz D M K M)<=M-(t+1):=by
 by_cases E:Sp D M K
 ·left;rw[QI E];exact E
 ·right;rcases h with h|h
  ·exact absurd h E
  ·have J:∃i,i<M/\K i=true/\Jv D M K i=false:=Classical.byContradiction λU=>E λi hi Q=>by
    cases hh:(rp K D M 0 i&&rr K D M 0 i)
    ·exact absurd ⟨i,hi,Q,hh⟩ U
    ·rfl
   obtain⟨x,I,F,O⟩:=J;have:=oO (K:=K) (L:=kz D M K M) (M:=M) (λi hi=>by unfold kz at hi;rw[aC] at hi;exact hi.1) I F (by unfold kz;rw[F,O];simp[I]);unfold Hw at h⊢;omega
theorem MJ{D}{M}{K}(h:Sp D M K\/Hw M K<=M-M):Sp D M K:=by
 rcases h with h|h
 ·exact h
 ·intro i hi E;have:i∈(List.range M).filter K:=bY.2 ⟨aD.2 hi,E⟩;have:=fY this;unfold Hw at h;omega
theorem Rr{h}{M:Nat}{K}(F:∀(i:Nat) (r:List Int),h[i]? =some r->∀x∈r,0<=x/\x<(M:Int))(D:∀i,i<M->jb h M i->K i=true):∀i,i<M->jb h M i->kz h M K M i=true:=λi hi E=>by
 have:=Df F D i hi E;unfold kz Jv;rw[aC] at this⊢;exact⟨this.1,by rw[this.2];simp⟩
theorem Pc(h)(M):Sp h M (λi=>decide (i<M))\/Hw M (λi=>decide (i<M))<=M-0:=by
 right;unfold Hw;have:=bz (λi=>decide (i<M)) (List.range M);simp at this⊢;exact this
theorem Jh{D}{M r}{K}:(bP (fq (kz D M K r) M)).set r (.bool (K r&&Jv D M K r))=bP (fq (kz D M K (r+1)) M):=by
 rw[kb];refine congrArg bP (dA λi _=> ?_);unfold kz;by_cases h:i=r
 ·subst h;simp
 ·rw[if_neg h,show decide (i<r+1)=decide (i<r) by rw[decide_eq_decide];omega]
theorem oZ(M)(h)(a)(c)(w)(c9:bZ w a M h)(f6:∀(i:Nat) (r:List Int),h[i]? =some r->∀x∈r,0<=x/\x<(M:Int))(g9:M<=6561):
 Calls prog 157 #[.slice a M c] w (oh h M w):=by
 have e5:=aa c9;have c3:=aa (dp c9).1;have b1:=aa f6;clear f6 c9;obtain⟨i6,hi,Q,f8,f9⟩:=info_parts vR;have i0:=λw=>run_make_row (P:=prog) 107 4 i6 (.bool false) underlying107 hi Q f8 rfl .i64 .i64 M (by rw[f9];omega) (by omega) w
 obtain⟨cs,f4⟩:=aB (madeCells #[.bool false] M);have a7:=aa (λ(w:World)=>MH w M g9);rw[<-f4] at a7 i0;clear hi Q f8 f9 f4;go_enter func157,ntmps157;go_wp2;have c6:=a7.o w;have d5:=c6.1;have d0:=c6.2;obtain⟨k6,d7⟩:=aB (w.alloc (.cells cs 4));rw[<-d7] at d5 d0;rw[<-d7];clear c6 d7;go_loopw[17] (λi wr=>∃j:Nat,j<=M/\i= Ud j/\wr.ownsRow w.1.size 4 1 (.slice (some ⟨w.1.size,0,none⟩) M M) M (bP (fq (λi=>decide (i<j)) M))/\Below w.1.size w wr) (λi _=>M-(intOf i).toNat);exact⟨0,by omega,rfl,by simpa using d5,d0⟩;obtain⟨j,j8,rfl,O,E⟩:=hrel;by_cases h9:j<M
 ·have f1:wr.cell? ⟨w.1.size,j,none⟩=some (.bool (decide (j<j))):=(O.cellAt j (by omega)).trans (dL h9);have h7:=O.frozenAt j;have a8:=aa O;clear O;go_wp2;go_roundw;have W:=a8.o.stored j (.bool true);rw[kb,dA (L:=λi=>decide (i<j+1)) (λi _=>by by_cases c5:i=j<;>simp[c5]<;>omega)] at W;exact⟨j+1,by omega,by go_num,W.1,E.grown W.2 E.size (by rintro k ⟨⟩;exact aN _)⟩;simp[intOf];omega
 ·obtain rfl:j=M:=by omega
  have a8:=aa O;clear O d5 d0;go_wp2;go_loopw[26] (λi wr=>∃(t:Nat) (K:Nat->Bool),t<=j/\i= Ud t/\wr.ownsRow w.1.size 4 1 (.slice (some ⟨w.1.size,0,none⟩) j j) j (bP (fq K j))/\Below w.1.size w wr/\bv (∀i,i<j->jb h j i->K i=true)/\bv (Sp h j K\/Hw j K<=j-t)) (λi _=>j-(intOf i).toNat);exact⟨0,_,by omega,rfl,a8.o,E,aa (λi hi _=>by simp[hi]),aa (Pc h j)⟩;obtain⟨t,K,i3,rfl,O,E,c4,c0⟩:=hrel;by_cases d4:t<j
  ·obtain⟨D,rfl⟩:=aB (α:=World) wr;have b0:=aa O;have k3:(t:Int)<(j:Int):=(by omega);clear O;go_upto_region 9 with fail
   go_cut[5,6] from 28 to 33 (λx y d9=>∃f g:Nat,x= .slice (some ⟨f,0,none⟩) j j/\y= .slice (some ⟨g,0,none⟩) j j/\f≠g/\D.1.size<=f/\D.1.size<=g/\bv (d9.ownsRow D.1.size 4 1 (.slice (some ⟨f,0,none⟩) j j) j (bP (fq (λ_=>false) j)))/\bv (d9.ownsRow D.1.size 4 1 (.slice (some ⟨g,0,none⟩) j j) j (bP (fq (λ_=>false) j)))/\bv (Below D.1.size D d9))
   case first=>
    have g2:=aa (λ(w:World)=>by
     have e8:=a7.o w;have c7:=a7.o (w.alloc (.cells cs 4));exact(⟨ai e8.1 c7.2,aT c7.1 (by simp),bs e8.2 c7.2⟩:((w.alloc (.cells cs 4)).alloc (.cells cs 4)).ownsRow w.1.size 4 1 (.slice (some ⟨w.1.size,0,none⟩) j j) j (bP (fq (λ_=>false) j))/\((w.alloc (.cells cs 4)).alloc (.cells cs 4)).ownsRow w.1.size 4 1 (.slice (some ⟨(w.alloc (.cells cs 4)).1.size,0,none⟩) j j) j (bP (fq (λ_=>false) j))/\Below w.1.size w ((w.alloc (.cells cs 4)).alloc (.cells cs 4))))
    clear a7 e5 c3 b1 c4 c0 b0 a8;go_region;all_goals
     go_wp2
     go_meet
     case rel=>
      obtain⟨o1,o2,e7⟩:=g2.o D;have a5:=(aV ((D.alloc (.cells cs 4)).alloc (.cells cs 4)).1.size ((D.alloc (.cells cs 4)).alloc (.cells cs 4))).drew;have Q:(D.alloc (.cells cs 4)).1.size=D.1.size+1:=(by simp);rw[Q] at o2;first
      |exact⟨D.1.size,D.1.size+1,rfl,rfl,by omega,by omega,by omega,aa (ai o1 a5),aa (ai o2 a5),aa (bs e7 a5)⟩
      |exact⟨D.1.size+1,D.1.size,rfl,rfl,by omega,by omega,by omega,aa (ai o2 a5),aa (ai o1 a5),aa (bs e7 a5)⟩
   case rest=>
    obtain⟨gF,a4,rfl,rfl,i1,j6,j7,e0,e6,b8⟩:=hcut;obtain⟨i7,rfl⟩:=aB wc;have d2:Below w.1.size w i7:=E.trans (b8.o.mono E.size);have e2:=aa (ai b0.o b8.o);have k4:w.1.size<D.1.size:=(gG b0.o).choose_spec.2.1|>λc5=>(bD.1 c5).1
    have i8:=aa E;clear a8 b0 b8 E;go_wp2;go_loopw[36] (λi wr=>∃q:Nat,q<=j/\i= Ud q/\wr.ownsRow w.1.size 4 1 (.slice (some ⟨w.1.size,0,none⟩) j j) j (bP (fq K j))/\wr.ownsRow D.1.size 4 1 (.slice (some ⟨gF,0,none⟩) j j) j (bP (fq (rp K h q 0) j))/\wr.ownsRow D.1.size 4 1 (.slice (some ⟨a4,0,none⟩) j j) j (bP (fq (rr K h q 0) j))/\Below w.1.size w wr) (λi _=>j-(intOf i).toNat);exact⟨0,by omega,rfl,e2.o,by rw[dA (K:=rp K h 0 0) (L:=λ_=>false) (λi _=>Id K h i)];exact e0.o,by rw[dA (K:=rr K h 0 0) (L:=λ_=>false) (λi _=>Is K h i)];exact e6.o,d2⟩;obtain⟨q,k0,rfl,F,J,I,E⟩:=hrel;by_cases b4:q<j
    ·obtain⟨r,a9⟩:=aE (l:=h) (n:=q) (by rw[c3.o];exact b4);have U:=aa a9;obtain⟨g4,i4,i9,j0,rfl,h0,f2,d6⟩:=qn e5.o b4 a9;have i2:=d6.lim;have e3:=aa d6;have e4:=aa (b1.o q r a9);have h8:(af r).length=r.length:=by simp[af]
     have c1:=aa F;have b9:=aa J;have b7:=aa I;have f1:=(E.cell (p:=⟨g4,i4+q,none⟩) h0).trans f2;have k1:(q:Int)<(j:Int):=(by omega);clear a9 d6 F J I d2 f2;obtain⟨L,c8⟩:=aB r.length;rw[<-c8] at f1 i2 e3;have c2:=aa c8;clear c8 h8;go_wp2;go_loopw[43] (λi wr=>∃t:Nat,t<=L/\i= Ud t/\wr.ownsRow w.1.size 4 1 (.slice (some ⟨w.1.size,0,none⟩) j j) j (bP (fq K j))/\wr.ownsRow D.1.size 4 1 (.slice (some ⟨gF,0,none⟩) j j) j (bP (fq (rp K h q t) j))/\wr.ownsRow D.1.size 4 1 (.slice (some ⟨a4,0,none⟩) j j) j (bP (fq (rr K h q t) j))/\Below w.1.size w wr) (λi _=>L-(intOf i).toNat);exact⟨0,by omega,rfl,c1.o,b9.o,b7.o,E⟩;obtain⟨t,i3,rfl,F,J,I,E⟩:=hrel;by_cases d4:t<L
     ·obtain⟨z,Q⟩:=aE (l:=r) (n:=t) (by rw[<-c2.o];exact d4);obtain⟨x,rfl⟩:∃x:Nat,z=(x:Int):=⟨z.toNat,by have:=e4.o z (aj Q);omega⟩;have f7:x<j:=by have:=e4.o x (aj Q);omega
      have a3:=aa Q;obtain⟨g5,i5,rfl,h1,f3⟩:=e3.o.at_ (by omega);have j3:=(E.cell (p:=⟨g5,i5+t,none⟩) h1).trans (f3 t _ (aP Q));have h4:wr.cell? ⟨w.1.size,q,none⟩=some (.bool (K q)):=(F.cellAt q (by omega)).trans (dL b4);have h5:wr.cell? ⟨w.1.size,x,none⟩=some (.bool (K x)):=(F.cellAt x (by omega)).trans (dL f7);have j2:wr.cell? ⟨gF,q,none⟩=some (.bool (rp K h q t q)):=(J.cellAt q (by omega)).trans (dL b4);have j1:wr.cell? ⟨a4,x,none⟩=some (.bool (rr K h q t x)):=(I.cellAt x (by omega)).trans (dL f7);have j5:=J.frozenAt q;have j4:=I.frozenAt x;have j9:¬(a4=gF):=λe=>i1 e.symm
      have k5:(x:Int)<(j:Int):=(by omega);have a6:=aa F;have Z:=aa J;have Y:=aa I;obtain⟨u,a0⟩:=aB (K q);obtain⟨y,a1⟩:=aB (K x);rw[<-a0] at h4;rw[<-a1] at h5;have a2:=aa a0;have b3:=aa a1;clear F J I Q f3 a0 a1;cases u
      ·go_wp2;go_roundw;exact⟨t+1,by omega,by go_num,a6.o,by rw[<-dA (λi _=>Lg U.o a3.o (by rw[<-a2.o];rfl) i)];exact Z.o,by rw[<-dA (λi _=>Lk U.o a3.o (by rw[<-a2.o];rfl) i)];exact Y.o,E⟩;simp[intOf];omega
      ·cases y
       ·go_wp2;go_roundw;exact⟨t+1,by omega,by go_num,a6.o,by rw[<-dA (λi _=>Lg U.o a3.o (by rw[<-a2.o,<-b3.o];rfl) i)];exact Z.o,by rw[<-dA (λi _=>Lk U.o a3.o (by rw[<-a2.o,<-b3.o];rfl) i)];exact Y.o,E⟩;simp[intOf];omega
       ·go_wp2;go_roundw;have b5:=Z.o.stored q (.bool true);have g6:=Y.o.kept b5.2 (Or.inr (by simp[Value.ownBlock];omega));have g7:=a6.o.kept b5.2 (Or.inr (by simp[Value.ownBlock];omega));have b6:=g6.stored x (.bool true);have f0:=b5.1.kept b6.2 (Or.inr (by simp[Value.ownBlock];omega));have g8:=g7.kept b6.2 (Or.inr (by simp[Value.ownBlock];omega));rw[kb,dA (λi _=>Ql U.o a3.o a2.o.symm b3.o.symm i)] at f0;have e9:=b6.1;rw[kb,dA (λi _=>Qo U.o a3.o a2.o.symm b3.o.symm i)] at e9;exact⟨t+1,by omega,by go_num,g8,f0,e9,(E.grown b5.2 E.size (by rintro k ⟨⟩;omega)).grown b6.2 (by simpa using E.size) (by rintro k ⟨⟩;omega)⟩;simp[intOf];omega
     ·obtain rfl:t=L:=by omega
      have a6:=aa F;have Z:=aa J;have Y:=aa I;clear F J I;go_wp2;go_roundw;exact⟨q+1,by omega,by go_num,a6.o,by rw[<-dA (λi _=>Lh K U.o i),<-c2.o];exact Z.o,by rw[<-dA (λi _=>Ll K U.o i),<-c2.o];exact Y.o,E⟩;simp[intOf];omega
    ·obtain rfl:q=j:=by omega
     have c1:=aa F;have b9:=aa J;have b7:=aa I;clear F J I e0 e6 e2 d2;go_wp2;go_loopw[67] (λi wr=>∃r:Nat,r<=q/\i= Ud r/\wr.ownsRow w.1.size 4 1 (.slice (some ⟨w.1.size,0,none⟩) q q) q (bP (fq (kz h q K r) q))/\wr.ownsRow D.1.size 4 1 (.slice (some ⟨gF,0,none⟩) q q) q (bP (fq (rp K h q 0) q))/\wr.ownsRow D.1.size 4 1 (.slice (some ⟨a4,0,none⟩) q q) q (bP (fq (rr K h q 0) q))/\Below w.1.size w wr) (λi _=>q-(intOf i).toNat);exact⟨0,by omega,rfl,by rw[dA (L:=K) (λi _=>by simp[kz])];exact c1.o,b9.o,b7.o,E⟩;obtain⟨r,a9,rfl,F,J,I,d1⟩:=hrel;by_cases d3:r<q
     ·have h6:wr.cell? ⟨w.1.size,r,none⟩=some (.bool (K r)):=by
       rw[F.cellAt r (by omega),dL d3];simp[kz]
      have h3:wr.cell? ⟨gF,r,none⟩=some (.bool (rp K h q 0 r)):=(J.cellAt r (by omega)).trans (dL d3);have h2:wr.cell? ⟨a4,r,none⟩=some (.bool (rr K h q 0 r)):=(I.cellAt r (by omega)).trans (dL d3);have h7:=F.frozenAt r;have e1:=aa F;have Z:=aa J;have Y:=aa I;have W:=F.stored r (.bool (K r&&Jv h q K r));rw[Jh] at W;have f5:Jv h q K r=(rp K h q 0 r&&rr K h q 0 r):=rfl;obtain⟨u,a0⟩:=aB (K r);obtain⟨x,d8⟩:=aB (rp K h q 0 r);obtain⟨y,a1⟩:=aB (rr K h q 0 r);rw[f5,<-a0,<-d8,<-a1] at W;rw[<-a0] at h6;rw[<-d8] at h3;rw[<-a1] at h2;have k2:(r:Int)<(q:Int):=(by omega);have b2:=aa W;clear F J I a0 d8 a1 f5 W;cases u<;>cases x<;>cases y;all_goals
       go_wp2
       go_roundw
       exact⟨r+1,by omega,by go_num,b2.o.1,Z.o.kept b2.o.2 (Or.inr (by simp[Value.ownBlock];omega)),Y.o.kept b2.o.2 (Or.inr (by simp[Value.ownBlock];omega)),d1.grown b2.o.2 d1.size (by rintro k ⟨⟩;exact aN _)⟩
       simp[intOf];omega
     ·obtain rfl:r=q:=by omega
      have e1:=aa F;clear F J I;have g3:=aa (Rr b1.o c4.o);have g0:=aa (Rq d4 c0.o);go_wp2;go_roundw;exact⟨t+1,_,by omega,by go_num,e1.o,d1,g3,g0⟩;simp[intOf];omega
  ·obtain rfl:t=j:=by omega
   have g1:=aa (GK b1.o c3.o c4.o (MJ c0.o));go_wp2;go_ret;exact⟨_,K,rfl,O,E,g1.o⟩
def bC(A:List (Int×Int×Int)):List Value:=A.flatMap λa=>[Ud a.1,Ud a.2.1,Ud a.2.2]
def dg(G:List (Nat×Nat×Nat)):List (Int×Int×Int):=G.map λa=>((a.1:Int),(a.2.1:Int),(a.2.2:Int))
theorem jF(A):(bC A).length=A.length*3:=by
 induction A with
 |nil=>rfl
 |cons p ys ih=>simp only[bC,List.flatMap_cons,az,cZ,gZ] at ih⊢;omega
theorem lA(A)(p):bC (A++[p])=bC A++[Ud p.1,Ud p.2.1,Ud p.2.2]:=by simp[bC]
theorem yt{p:Int×Int×Int}:∀{A:List (Int×Int×Int)} {k:Nat},A[k]? =some p->(bC A)[k*3]? =some (Ud p.1)/\(bC A)[k*3+1]? =some (Ud p.2.1)/\(bC A)[k*3+2]? =some (Ud p.2.2)
 |[],k,h=>by simp at h
 |q::ys,0,h=>by
  simp at h;subst h;exact⟨rfl,rfl,rfl⟩
 |q::ys,k+1,h=>by
  have D:=yt (A:=ys) (k:=k) (by simpa using h);have e:bC (q::ys)= Ud q.1:: Ud q.2.1:: Ud q.2.2::bC ys:=by simp[bC]
  rw[e,show(k+1)*3=k*3+1+1+1 by omega];exact⟨D.1,D.2.1,D.2.2⟩
theorem Im{G}{k:Nat}{a}(h:G[k]? =some a):(dg G)[k]? =some ((a.1:Int),(a.2.1:Int),(a.2.2:Int)):=by simp[dg,h]
theorem wE(G):(dg G).length=G.length:=by simp[dg]
theorem qf(G)(a):dg (G++[a])=dg G++[((a.1:Int),(a.2.1:Int),(a.2.2:Int))]:=by simp[dg]
def wt(a b:Int×Int×Int):Bool:=decide (a.1<b.1\/(a.1=b.1/\(a.2.2<b.2.2\/(a.2.2=b.2.2/\a.2.1<b.2.1))))
def sM(L S:Int)(a:Int×Int×Int):Bool:=jZ a.1 0 (S-1)&&jZ a.2.1 0 (S-1)&&jZ a.2.2 0 (L-1)
def qg(A:List (Int×Int×Int))(k:Nat):Int×Int×Int:=A.getD k (0,0,0)
def ij(L S:Int)(A:List (Int×Int×Int))(k:Nat):Bool:=sM L S (qg A k)&&(k==0||wt (qg A (k-1)) (qg A k))
def gS(L S:Int)(A:List (Int×Int×Int)):Nat->Bool|0=>true|k+1=>gS L S A k&&ij L S A k
def fy(L S:Int)(A:List (Int×Int×Int)):Bool:=jZ L 1 3&&jZ S 1 12&&gS L S A A.length
theorem sL{L S:Int}{A:List (Int×Int×Int)}{k:Nat}(h:ij L S A k=false):∀j,gS L S A (k+1+j)=false
 |0=>by show(gS L S A k&&ij L S A k)=false;rw[h];simp
 |j+1=>by show(gS L S A (k+1+j)&&_)=false;rw[sL h j];rfl
theorem mp{L S:Int}{A:List (Int×Int×Int)}:∀{n:Nat},gS L S A n=true->∀k,k<n->ij L S A k=true
 |0,_,k,hk=>by omega
 |n+1,h,k,hk=>by
  unfold gS at h;rw[aC] at h;by_cases e:k=n
  ·subst e;exact h.2
  ·exact mp h.1 k (by omega)
theorem jg{A}{k}{a}(h:A[k]? =some a):qg A k=a:=by unfold qg;rw[ah,h];rfl
structure fZ (k s : Nat) (G : List (Nat × Nat × Nat)) : Prop where
  k1 : 1 ≤ k
  k3 : k ≤ 3
  s1 : 1 ≤ s
  s12 : s ≤ 12
  arc : ∀ a ∈ G, a.1 < s ∧ a.2.1 < s ∧ a.2.2 < k
theorem MQ{L S}{A}(h:fy L S A=true):∃(k s:Nat) (G:List (Nat×Nat×Nat)),L=(k:Int)/\S=(s:Int)/\A=dg G/\fZ k s G:=by
 unfold fy at h;simp only[aC] at h;obtain⟨⟨F,I⟩,J⟩:=h;rw[eT] at F I;have E:∀a∈A,(0<=a.1/\a.1<=S-1)/\(0<=a.2.1/\a.2.1<=S-1)/\0<=a.2.2/\a.2.2<=L-1:=by
  intro a D;obtain⟨i,hi⟩:=cf.1 D;have:=mp J i (aw.1 hi).1;unfold ij sM at this;rw[jg hi] at this;simp only[aC,eT] at this;exact⟨this.1.1.1,this.1.1.2,this.1.2⟩
 refine⟨L.toNat,S.toNat,A.map λa=>(a.1.toNat,a.2.1.toNat,a.2.2.toNat),by omega,by omega,?_,⟨by omega,by omega,by omega,by omega,λa D=> ?_⟩⟩
 ·unfold dg;rw[List.map_map];symm;conv=>rhs;rw[<-List.map_id A]
  refine bp λa D=> ?_
  obtain⟨Q,U,W⟩:=E a D;simp only[Function.comp];rw[show((a.1.toNat:Nat):Int)=a.1 by omega,show((a.2.1.toNat:Nat):Int)=a.2.1 by omega,show((a.2.2.toNat:Nat):Int)=a.2.2 by omega];rfl
 ·obtain⟨b,O,rfl⟩:=bi.1 D;obtain⟨Q,U,W⟩:=E b O;simp only;omega
def lM(G:List (Nat×Nat×Nat))(set x:Nat):Nat->Nat
 |0=>0
 |k+1=>match G[k]? with
  |none=>lM G set x k
  |some a=>if a.2.2=x/\set/2^a.1%2=1 then lM G set x k|||2^a.2.1 else lM G set x k
def gV(G:List (Nat×Nat×Nat))(set x:Nat):Nat:=lM G set x G.length
theorem Cy{G}{set x k}{a}(h:G[k]? =some a)(D:a.2.2=x/\set/2^a.1%2=1):lM G set x (k+1)=lM G set x k|||2^a.2.1:=by
 conv=>lhs;unfold lM
 rw[h];simp only;rw[if_pos D]
theorem FP{G}{set x k}{a}(h:G[k]? =some a)(D:¬(a.2.2=x/\set/2^a.1%2=1)):lM G set x (k+1)=lM G set x k:=by
 conv=>lhs;unfold lM
 rw[h];simp only;rw[if_neg D]
theorem pi{G:List (Nat×Nat×Nat)}{set x s:Nat}(h:∀a∈G,a.2.1<s):∀k,lM G set x k<2^s
 |0=>gY s
 |k+1=>by
  unfold lM;cases hg:G[k]? with
  |none=>exact pi h k
  |some a=>
   simp only;split
   ·exact Nat.or_lt_two_pow (pi h k) (Nat.pow_lt_pow_right (by omega) (h a (aj hg)))
   ·exact pi h k
theorem rE{G}{set x k s}(h:fZ k s G):gV G set x<2^s:=pi (λa D=>(h.arc a D).2.1) _
theorem iB{s}(h:s<=12):2^s<=4096:=bn (bG (n:=2) (by omega) h) (show(2:Nat)^12<=4096 by decide)
def uF(G:List (Nat×Nat×Nat))(set:Nat)(w:List UInt8):Nat->Nat
 |0=>set
 |i+1=>gV G (uF G set w i) ((w.getD i 0).toNat-97)
theorem Ki{G:List (Nat×Nat×Nat)}{set k s:Nat}(h:fZ k s G)(D:set<2^s)(w:List UInt8):∀i,uF G set w i<2^s
 |0=>D
 |_+1=>rE h
def bW(K:Nat->Bool)(i:Nat):Nat:=((List.range i).filter K).length
theorem lY{K}{i}(h:K i=true):bW K (i+1)=bW K i+1:=by simp[bW,bh,bE,h]
theorem pI{K}{i}(h:K i=false):bW K (i+1)=bW K i:=by simp[bW,bh,bE,h]
theorem nS(K)(i):bW K i<=i:=by have:=bz K (List.range i);rwa[cD] at this
theorem Jf(K){i j}(h:i<=j):bW K i<=bW K j:=by
 induction h with
 |refl=>exact aN _
 |step h ih=>
  refine bn ih ?_;rename_i m;cases hk:K m
  ·rw[pI hk];exact aN _
  ·rw[lY hk];omega
theorem rY{K}{i j}(h:i<j)(D:K i=true):bW K i<bW K j:=by
 have:=Jf K (show i+1<=j from h);rw[lY D] at this;omega
def ks(K:Nat->Bool)(a:Nat×Nat×Nat):Bool:=K a.1&&K a.2.1
def dQ(K:Nat->Bool)(G:List (Nat×Nat×Nat)):List (Nat×Nat×Nat):=(G.filter (ks K)).map λa=>(bW K a.1,bW K a.2.1,a.2.2)
theorem Dp{K}{G:List (Nat×Nat×Nat)}{k}{a}(h:G[k]? =some a)(D:ks K a=true):dQ K (G.take (k+1))=dQ K (G.take k)++[(bW K a.1,bW K a.2.1,a.2.2)]:=by
 rw[bg,h];simp[dQ,D]
theorem GU{K}{G:List (Nat×Nat×Nat)}{k}{a}(h:G[k]? =some a)(D:ks K a=false):dQ K (G.take (k+1))=dQ K (G.take k):=by
 rw[bg,h];simp[dQ,D]
theorem tq(K)(G):(dQ K G).length<=G.length:=by unfold dQ;rw[dc];exact bz _ _
theorem xw{K}{G}{k s}(h:fZ k s G)(U:bW K s≠0):fZ k (bW K s) (dQ K G):=
 ⟨h.k1,h.k3,by omega,bn (nS K s) h.s12,λa E=>by
  obtain⟨b,F,rfl⟩:=bi.1 E;obtain⟨I,D⟩:=bY.1 F;unfold ks at D;rw[aC] at D;obtain⟨J,O,Q⟩:=h.arc b I;exact⟨rY J D.1,rY O D.2,Q⟩⟩
theorem pJ{K L}{i}(h:∀j,j<i->K j=L j):bW K i=bW L i:=by
 unfold bW;rw[eX λj D=>h j (aD.1 D)]
theorem Ni{K L}{G}{k s}(h:fZ k s G)(E:∀j,j<s->K j=L j):dQ K G=dQ L G:=by
 unfold dQ;rw[eX (q:=ks L) λa D=>by
  unfold ks;rw[E _ (h.arc a D).1,E _ (h.arc a D).2.1]]
 refine bp λa D=> ?_
 obtain⟨I,J,_⟩:=h.arc a (bY.1 D).1;rw[pJ (K:=K) (L:=L) λj F=>E j (by omega),pJ (K:=K) (L:=L) (i:=a.2.1) λj F=>E j (by omega)]
def RL(G:List (Nat×Nat×Nat))(i j:Nat):Prop:=∃l,(i,j,l)∈G
def rS(G:List (Nat×Nat×Nat))(s:Nat):List (List Int):=(List.range s).map λi=>(G.filter λa=>decide (a.1=i)).map λa=>(a.2.1:Int)
theorem sV{G}{s i}(h:i<s):(rS G s)[i]? =some ((G.filter λa=>decide (a.1=i)).map λa=>(a.2.1:Int)):=by simp[rS,h]
theorem CL{G}{s i j}(h:i<s):Ix (rS G s) i j↔RL G i j:=by
 unfold Ix RL;rw[ah,sV h];simp only[ci,bi,bY,decide_eq_true_eq];constructor
 ·rintro⟨a,⟨D,rfl⟩,F⟩;exact⟨a.2.2,by rw[show j=a.2.1 by omega];exact D⟩
 ·rintro⟨l,E⟩;exact⟨_,⟨E,rfl⟩,rfl⟩
theorem De{R Q}{M}(h:∀i j,i<M->j<M->(Ix R i j↔Ix Q i j)){i}(J:jb R M i):jb Q M i:=by
 obtain⟨T,W,E⟩:=J;refine⟨T,W,λq O=> ?_⟩;obtain⟨D,⟨r,U,F⟩,⟨u,Y,I⟩⟩:=E q O;exact⟨D,⟨r,(h q r D (E r F).1).1 U,F⟩,⟨u,(h u q (E u I).1 D).1 Y,I⟩⟩
def ie(x:Nat):List Nat->Nat|[]=>0|y::l=>if y=x then 0 else ie x l+1
theorem vE{x:Nat}:∀{l:List Nat},x∈l->ie x l<l.length
 |y::l,h=>by
  unfold ie;by_cases e:y=x
  ·rw[if_pos e];simp
  ·rw[if_neg e];have:=vE (l:=l) (by rcases ji.1 h with h|h;exact absurd h.symm e;exact h);simp;exact this
theorem zV{x:Nat}:∀{l:List Nat},x∈l->l[ie x l]? =some x
 |y::l,h=>by
  unfold ie;by_cases e:y=x
  ·rw[if_pos e,e];rfl
  ·rw[if_neg e];exact zV (l:=l) (by rcases ji.1 h with h|h;exact absurd h.symm e;exact h)
theorem OA{x i}{l}(F:l.Nodup)(h:l[i]? =some x):ie x l=i:=by
 have E:=aj h;have D:=zV E;have hi:=(aw.1 h).1;exact(List.getElem?_inj hi F).1 (h.trans D.symm)|>.symm
abbrev zp:=List Nat×List (Nat×Nat×Nat)
def lN(G:List (Nat×Nat×Nat))(k set x:Nat)(st:zp):zp:=
 if gV G set x=0 then st else if gV G set x∈st.1 then(st.1,st.2++[(k,ie (gV G set x) st.1,x)]) else(st.1++[gV G set x],st.2++[(k,st.1.length,x)])
def sU(G:List (Nat×Nat×Nat))(k set:Nat)(st:zp):Nat->zp|0=>st|x+1=>lN G k set x (sU G k set st x)
def jY(G:List (Nat×Nat×Nat))(L full:Nat):Nat->zp|0=>([full],[])|k+1=>match(jY G L full k).1[k]? with|none=>jY G L full k|some set=>sU G k set (jY G L full k) L
theorem px{G}{L full k set}(h:(jY G L full k).1[k]? =some set):jY G L full (k+1)=sU G k set (jY G L full k) L:=by
 conv=>lhs;unfold jY
 rw[h]
theorem rQ{G:List (Nat×Nat×Nat)}{L full k:Nat}(h:(jY G L full k).1.length<=k):∀j,jY G L full (k+j)=jY G L full k
 |0=>rfl
 |j+1=>by
  show jY G L full ((k+j)+1)=_
  have D:=rQ h j;conv=>lhs;unfold jY
  rw[D,aU (by omega)]
structure uZ (L N k x : Nat) (st : zp) : Prop where
  new : st.1.Nodup
  pos : ∀ s ∈ st.1, 0 < s ∧ s < N
  arc : ∀ a ∈ st.2, (a.1 < k ∨ (a.1 = k ∧ a.2.2 < x)) ∧ a.1 < st.1.length ∧ a.2.1 < st.1.length ∧ a.2.2 < L
  sort : st.2.Pairwise fun a b => a.1 < b.1 ∨ (a.1 = b.1 ∧ a.2.2 < b.2.2)
theorem uZ.let_{G}{L N k x set}{st:zp}(h:uZ L N k x st)(Q:x<L)(W:k<st.1.length)(U:gV G set x<N):uZ L N k (x+1) (lN G k set x st)/\∃l,(lN G k set x st).1=st.1++l:=by
 unfold lN;by_cases O:gV G set x=0
 ·rw[if_pos O];exact⟨⟨h.new,h.pos,λa D=>by have:=h.arc a D;omega,h.sort⟩,[],by simp⟩
 ·rw[if_neg O];by_cases J:gV G set x∈st.1
  ·rw[if_pos J];have Y:=vE J;refine⟨⟨h.new,h.pos,λa D=> ?_,?_⟩,[],by simp⟩
   ·show _/\a.1<st.1.length/\a.2.1<st.1.length/\_
    rcases cH.1 D with D|D
    ·have:=h.arc a D;omega
    ·simp at D;subst D;exact⟨.inr ⟨rfl,by simp⟩,W,Y,Q⟩
   ·rw[List.pairwise_append];exact⟨h.sort,by simp,λa D b E=>by
     simp at E;subst E;rcases(h.arc a D).1 with F|F
     ·exact .inl F
     ·exact .inr F⟩
  ·rw[if_neg J];refine⟨⟨?_,λs I=> ?_,λa D=> ?_,?_⟩,[gV G set x],rfl⟩
   ·rw[js];exact⟨h.new,by simp,λa D b E=>by simp at E;subst E;exactλe=>J (e▸D)⟩
   ·rcases cH.1 I with I|I
    ·exact h.pos s I
    ·simp at I;subst I;exact⟨by omega,U⟩
   ·show _/\_<(st.1++[gV G set x]).length/\_<(st.1++[gV G set x]).length/\_
    rw[az];rcases cH.1 D with D|D
    ·have:=h.arc a D;simp;omega
    ·simp at D;subst D;exact⟨.inr ⟨rfl,by simp⟩,by simp;omega,by simp,Q⟩
   ·show(st.2++_).Pairwise _
    rw[List.pairwise_append];exact⟨h.sort,by simp,λa D b E=>by
     simp at E;subst E;rcases(h.arc a D).1 with F|F
     ·exact .inl F
     ·exact .inr F⟩
theorem uZ.xs{G:List (Nat×Nat×Nat)}{L N k set:Nat}{st:zp}(h:uZ L N k 0 st)(J:k<st.1.length)(D:∀x,gV G set x<N):∀x,x<=L->uZ L N k x (sU G k set st x)/\∃l,(sU G k set st x).1=st.1++l
 |0,_=>⟨h,[],by simp[sU]⟩
 |x+1,hx=>by
  obtain⟨F,l,E⟩:=uZ.xs h J D x (by omega);obtain⟨I,m,O⟩:=F.let_ (G:=G) (set:=set) (by omega) (by rw[E];simp;omega) (D x);exact⟨I,l++m,by show(lN G k set x _).1=_;rw[O,E,cJ]⟩
theorem uZ.next{L N k}{st:zp}(h:uZ L N k L st):uZ L N (k+1) 0 st:=⟨h.new,h.pos,λa D=>by have:=h.arc a D;omega,h.sort⟩
theorem wZ{G:List (Nat×Nat×Nat)}{L N full:Nat}(J:0<full/\full<N)(D:∀set x,gV G set x<N):∀k,uZ L N k 0 (jY G L full k)/\∃l,(jY G L full (k+1)).1=(jY G L full k).1++l
 |0=>by
  have F:uZ L N 0 0 (jY G L full 0):=⟨by simp[jY],λs O=>by simp[jY] at O;subst O;exact J,λa E=>by simp[jY] at E,by simp[jY]⟩;exact⟨F,by rw[px (set:=full) rfl];exact(F.xs (by simp[jY]) (D _) L aQ).2⟩
 |k+1=>by
  obtain⟨h,_⟩:=wZ (L:=L) J D k;have I:uZ L N (k+1) 0 (jY G L full (k+1)):=by
   cases hg:(jY G L full k).1[k]? with
   |none=>
    rw[rQ (k:=k) (by rw[jW] at hg;exact hg) 1];exact⟨h.new,h.pos,λa E=>by have:=h.arc a E;omega,h.sort⟩
   |some set=>
    rw[px hg];exact(h.xs (aw.1 hg).1 (D _) L aQ).1.next
  refine⟨I,?_⟩;cases hg:(jY G L full (k+1)).1[k+1]? with
  |none=>exact⟨[],by rw[rQ (k:=k+1) (by rw[jW] at hg;exact hg) 1];simp⟩
  |some set=>rw[px hg];exact(I.xs (aw.1 hg).1 (D _) L aQ).2
theorem Em{G}{L N full}(D:0<full/\full<N)(h:∀set x,gV G set x<N)(k j):(jY G L full k).1.length<=(jY G L full (k+j)).1.length:=by
 induction j with
 |zero=>exact aN _
 |succ j ih=>
  obtain⟨l,E⟩:=(wZ (L:=L) D h (k+j)).2;refine bn ih ?_;show _<=(jY G L full ((k+j)+1)).1.length
  rw[E,az];omega
theorem uZ.few{L N k x}{st:zp}(h:uZ L N k x st):st.1.length<=N:=by
 have:=pK st.1 (List.range N) h.new λs D=>aD.2 (h.pos s D).2
 simpa using this
def fV(G:List (Nat×Nat×Nat))(L full:Nat):zp:=jY G L full 4096
def Gc(G:List (Nat×Nat×Nat))(L full:Nat):Option (Nat×List (Nat×Nat×Nat)):=if(fV G L full).1.length<=12 then some ((fV G L full).1.length,(fV G L full).2) else none
theorem xc{G}{L full k}(h:(jY G L full k).1.length<=k)(D:k<=4096):fV G L full=jY G L full k:=by
 have:=rQ h (4096-k);rw[show k+(4096-k)=4096 by omega] at this;exact this
theorem Mb{G}{L N full k}(E:0<full/\full<N)(D:∀set x,gV G set x<N)(F:k<=4096)(h:12<(jY G L full k).1.length):Gc G L full=none:=by
 have:=Em (L:=L) E D k (4096-k);rw[show k+(4096-k)=4096 by omega] at this;unfold Gc fV;rw[if_neg (by omega)]
def Ln(G:List (Nat×Nat×Nat)):Prop:=G.Pairwise λa b=>a.1<b.1\/(a.1=b.1/\a.2.2<b.2.2)
theorem Ou{G A}{L N full n}(I:1<=L/\L<=3)(O:0<full/\full<N)(J:∀set x,gV G set x<N)(h:Gc G L full=some (n,A)):fZ L n A/\Ln A:=by
 unfold Gc at h;have Q:=(wZ (L:=L) O J 4096).1;by_cases E:(fV G L full).1.length<=12
 ·rw[if_pos E] at h;injection h with h
  injection h with D F
  subst D F;have D:1<=(fV G L full).1.length:=by
   have D:=Em (L:=L) O J 0 4096;have F:(jY G L full 0).1.length=1:=rfl;rw[F,aW] at D;exact D
  exact⟨⟨I.1,I.2,D,E,λa U=>(Q.arc a U).2⟩,Q.sort⟩
 ·rw[if_neg E] at h;cases h
def jo(s:Nat):Bool:=(List.range 12).any λp=>decide (s=2^p)
def oz(G:List (Nat×Nat×Nat))(p:Nat×List UInt8)(x:Nat)(ys:List (Nat×List UInt8)):List (Nat×List UInt8):=
 if gV G p.1 x=0\/gV G p.1 x∈ys.map (·.1) then ys else ys++[(gV G p.1 x,p.2++[dO x])]
def BG(G:List (Nat×Nat×Nat))(p:Nat×List UInt8)(ys:List (Nat×List UInt8)):Nat->List (Nat×List UInt8)|0=>ys|x+1=>oz G p x (BG G p ys x)
def oq(G:List (Nat×Nat×Nat))(L full:Nat):Nat->List (Nat×List UInt8)
 |0=>[(full,[])]
 |k+1=>match(oq G L full k)[k]? with|none=>oq G L full k|some p=>if p.2.length<16 then BG G p (oq G L full k) L else oq G L full k
structure xM (N : Nat) (ys : List (Nat × List UInt8)) : Prop where
  new : (ys.map (·.1)).Nodup
  pos : ∀ p ∈ ys, 0 < p.1 ∧ p.1 < N ∧ p.2.length ≤ 16
theorem xM.let_{G}{N x}{p}{ys}(h:xM N ys)(O:p.2.length<16)(I:gV G p.1 x<N):xM N (oz G p x ys)/\∃l,oz G p x ys=ys++l:=by
 unfold oz;by_cases E:gV G p.1 x=0\/gV G p.1 x∈ys.map (·.1)
 ·rw[if_pos E];exact⟨h,[],by simp⟩
 ·rw[if_neg E];refine⟨⟨?_,λq D=> ?_⟩,_,rfl⟩
  ·rw[ek,js];exact⟨h.new,by simp,λa J b F=>by simp at F;subst F;exactλe=>E (.inr (e▸J))⟩
  ·rcases cH.1 D with D|D
   ·exact h.pos q D
   ·simp at D;subst D;exact⟨by show 0<gV G p.1 x;omega,I,by simp;omega⟩
theorem xM.xs{G:List (Nat×Nat×Nat)}{N:Nat}{p:Nat×List UInt8}{ys:List (Nat×List UInt8)}(h:xM N ys)(E:p.2.length<16)(D:∀x,gV G p.1 x<N):∀x,xM N (BG G p ys x)/\∃l,BG G p ys x=ys++l
 |0=>⟨h,[],by simp[BG]⟩
 |x+1=>by
  obtain⟨F,l,J⟩:=xM.xs h E D x;obtain⟨I,m,O⟩:=F.let_ (G:=G) E (D x);exact⟨I,l++m,by show oz G p x _=_;rw[O,J,cJ]⟩
theorem zx{G}{L full k}{p}(h:(oq G L full k)[k]? =some p):oq G L full (k+1)=if p.2.length<16 then BG G p (oq G L full k) L else oq G L full k:=by
 conv=>lhs;unfold oq
 rw[h]
theorem zw{G:List (Nat×Nat×Nat)}{L full k:Nat}(h:(oq G L full k).length<=k):∀j,oq G L full (k+j)=oq G L full k
 |0=>rfl
 |j+1=>by
  show oq G L full ((k+j)+1)=_
  have D:=zw h j;conv=>lhs;unfold oq
  rw[D,aU (by omega)]
theorem Ed{G}{L N full}(F:0<full/\full<N)(J:∀set x,gV G set x<N):∀k,xM N (oq G L full k)/\∃l,oq G L full (k+1)=oq G L full k++l:=by
 have next:∀k,xM N (oq G L full k)->xM N (oq G L full (k+1))/\∃l,oq G L full (k+1)=oq G L full k++l:=by
  intro k h;cases hg:(oq G L full k)[k]? with
  |none=>
   rw[zw (k:=k) (by rw[jW] at hg;exact hg) 1];exact⟨h,[],by simp⟩
  |some p=>
   rw[zx hg];by_cases D:p.2.length<16
   ·rw[if_pos D];exact h.xs D (J _) L
   ·rw[if_neg D];exact⟨h,[],by simp⟩
 intro k;have E:∀k,xM N (oq G L full k):=λk=>by
  induction k with
  |zero=>exact⟨by simp[oq],λp I=>by simp[oq] at I;subst I;exact⟨F.1,F.2,by simp⟩⟩
  |succ k O=>exact(next k O).1
 exact⟨E k,(next k (E k)).2⟩
theorem xM.few{N}{ys}(h:xM N ys):ys.length<=N:=by
 have:=pK (ys.map (·.1)) (List.range N) h.new λs E=>by
  obtain⟨p,D,rfl⟩:=bi.1 E;exact aD.2 (h.pos p D).2.1
 simpa using this
theorem NS{G}{L N full}(D:0<full/\full<N)(h:∀set x,gV G set x<N)(k j):∃l,oq G L full (k+j)=oq G L full k++l:=by
 induction j with
 |zero=>exact⟨[],by simp⟩
 |succ j ih=>
  obtain⟨l,E⟩:=ih;obtain⟨m,F⟩:=(Ed (L:=L) D h (k+j)).2;exact⟨l++m,by show oq G L full ((k+j)+1)=_;rw[F,E,cJ]⟩
def QC(G:List (Nat×Nat×Nat))(L full:Nat):Option (List UInt8):=((oq G L full 4096).find? λp=>jo p.1).map (·.2)
theorem AX{α:Type}{f:α->Bool}:∀{l:List α} {k:Nat} {x:α},l[k]? =some x->f x=true->(∀(j:Nat) (y:α),j<k->l[j]? =some y->f y=false)->l.find? f=some x
 |[],k,x,h,_,_=>by simp at h
 |y::l,0,x,h,hx,_=>by
  simp at h;subst h;simp[hx]
 |y::l,k+1,x,h,hx,hb=>by
  rw[List.find?_cons_of_neg (by rw[hb 0 y (by omega) rfl];simp)];exact AX (l:=l) (k:=k) (by simpa using h) hx λj z E D=>hb (j+1) z (by omega) (by simpa using D)
theorem JA{α:Type}{f}{l:List α}(h:∀(j:Nat) (y:α),l[j]? =some y->f y=false):l.find? f=none:=by
 rw[List.find?_eq_none];intro x E;obtain⟨j,D⟩:=cf.1 E;rw[h j x D];simp
theorem FN{G}{L N full k}{p}(I:0<full/\full<N)(E:∀set x,gV G set x<N)(W:k<=4096)(h:(oq G L full k)[k]? =some p)(Q:jo p.1=true)(F:∀j q,j<k->(oq G L full k)[j]? =some q->jo q.1=false):QC G L full=some p.2:=by
 obtain⟨l,D⟩:=NS (L:=L) I E k (4096-k);rw[show k+(4096-k)=4096 by omega] at D;have O:=(aw.1 h).1;unfold QC;rw[D,AX (k:=k) (x:=p) (by rw[aR O];exact h) Q λj q J U=>F j q J (by rwa[aR (by omega)] at U)];rfl
theorem FO{G}{L full k}(F:k<=4096)(h:(oq G L full k).length<=k)(E:∀j q,j<k->(oq G L full k)[j]? =some q->jo q.1=false):QC G L full=none:=by
 have:=zw h (4096-k);rw[show k+(4096-k)=4096 by omega] at this;unfold QC;rw[this,JA λj q D=>E j q (by have:=(aw.1 D).1;omega) D];rfl
def yv(M:List (List Int))(i j:Nat):Bool:=decide (0<cB M i j)
def rR(M:List (List Int))(n:Nat):List (List Int):=(List.range n).map λi=>((List.range n).filter (yv M i)).map λj=>((j:Nat):Int)
theorem ny{M}{n i j}(hi:i<n)(D:j<n):Ix (rR M n) i j↔yv M i j=true:=by
 unfold Ix rR;rw[ah,dl,fR hi];simp only[mY,ci,bi,bY,aD];constructor
 ·rintro⟨a,⟨_,h⟩,e⟩;rw[show j=a by omega];exact h
 ·intro h;exact⟨j,⟨D,h⟩,rfl⟩
def tO(K:Nat->Bool)(M:List (List Int))(i j:Nat):Bool:=(List.range j).any λt=>K t&&yv M i t
def Iw(K:Nat->Bool)(M:List (List Int))(i j:Nat):Bool:=(List.range j).any λt=>K t&&yv M t i
theorem MI(K)(M)(i j):tO K M i (j+1)=(tO K M i j||(K j&&yv M i j)):=by simp[tO,bh]
theorem Pb(K)(M)(i j):Iw K M i (j+1)=(Iw K M i j||(K j&&yv M j i)):=by simp[Iw,bh]
theorem GI{K}{M}{i n}:tO K M i n=true↔∃t,t<n/\K t=true/\yv M i t=true:=by
 unfold tO;rw[bB];constructor
 ·rintro⟨t,D,h⟩;rw[aC] at h;exact⟨t,aD.1 D,h⟩
 ·rintro⟨t,D,h⟩;exact⟨t,aD.2 D,by rw[aC];exact h⟩
theorem Kv{K}{M}{i n}:Iw K M i n=true↔∃t,t<n/\K t=true/\yv M t i=true:=by
 unfold Iw;rw[bB];constructor
 ·rintro⟨t,D,h⟩;rw[aC] at h;exact⟨t,aD.1 D,h⟩
 ·rintro⟨t,D,h⟩;exact⟨t,aD.2 D,by rw[aC];exact h⟩
theorem Jj{K}{M}{n i}(O:∀q,q<n->jb (rR M n) n q->K q=true)(W:(tO K M i n&&Iw K M i n)=false):∀q,q<n->jb (rR M n) n q->(if q=i then false else K q)=true:=by
 intro q F U;by_cases h:q=i
 ·subst h;obtain⟨T,a1,D⟩:=U;have Q:∀r,T r->K r=true:=λr E=>O r (D r E).1 ⟨T,E,D⟩
  obtain⟨_,⟨r,E,I⟩,⟨s,a0,J⟩⟩:=D q a1;have Y:tO K M q n=true:=GI.2 ⟨r,(D r I).1,Q r I,(ny F (D r I).1).1 E⟩;have Z:Iw K M q n=true:=Kv.2 ⟨s,(D s J).1,Q s J,(ny (D s J).1 F).1 a0⟩;rw[Y,Z] at W;cases W
 ·rw[if_neg h];exact O q F U
theorem MB{K}{M}{n}(O:∀q,q<n->jb (rR M n) n q->K q=true)(J:∀i,i<n->K i=true->(tO K M i n&&Iw K M i n)=true):∀i,i<n->(K i=true↔jb (rR M n) n i):=by
 intro i hi;refine⟨λQ=>⟨λj=>j<n/\K j=true,⟨hi,Q⟩,λq h=>⟨h.1,?_,?_⟩⟩,O i hi⟩
 ·have E:=J q h.1 h.2;rw[aC,GI] at E;obtain⟨⟨t,D,F,I⟩,_⟩:=E;exact⟨t,(ny h.1 D).2 I,D,F⟩
 ·have E:=J q h.1 h.2;rw[aC,Kv] at E;obtain⟨_,t,D,F,I⟩:=E;exact⟨t,(ny D h.1).2 I,D,F⟩
theorem JD{K}{n i}(hi:i<n)(E:K i=true):((List.range n).filter λq=>if q=i then false else K q).length<((List.range n).filter K).length:=
 oO (λq D=>by by_cases h:q=i;·rw[if_pos h] at D;cases D
              rw[if_neg h] at D;exact D) hi E (by rw[if_pos rfl])
theorem BK(n)(M)(a)(c)(w)(b9:bZ w a n M)(e5:∀r∈M,r.length=n)(h1:n<=1000):
 Calls prog 265 #[.slice a n c] w (oh (rR M n) n w):=by
 have d6:=aa b9;have d3:=aa (dp b9).1;have d5:=aa e5;clear e5 b9;obtain⟨g2,hi,f7,f8,f9⟩:=info_parts vR;go_enter func265,ntmps265;go_wp2_with(first|(at_make;refine wpList_make_full _ rfl _ _ 107 rfl w.1.size 4 g2 (.bool false) 1 underlying107 hi f7 f8 .i64 .i64 _ _ n rfl rfl rfl rfl (by rw[f9];omega) (by unfold maxLen;omega) aQ ?_;intro g3 c5 e1));rw[sW] at c5;have b3:Below w.1.size w g3:=aZ.grown e1 aQ (by intro k h;cases h);clear e1;go_loopw[4] (λi wr=>∃j:Nat,j<=n/\i= Ud j/\wr.ownsRow w.1.size 4 1 (.slice (some ⟨w.1.size,0,none⟩) n n) n (bP (fq (λi=>decide (i<j)) n))/\Below w.1.size w wr) (λi _=>n-(intOf i).toNat);exact⟨0,by omega,rfl,by simpa using c5,b3⟩;obtain⟨j,f4,rfl,E,D⟩:=hrel;by_cases f5:j<n
 ·have g8:wr.cell? ⟨w.1.size,j,none⟩=some (.bool (decide (j<j))):=(E.cellAt j (by omega)).trans (dL f5);have c3:=E.frozenAt j;have b1:=aa E;clear E;go_wp2;go_roundw;have a2:=b1.o.stored j (.bool true);rw[kb,dA (L:=λi=>decide (i<j+1)) (λi _=>by by_cases h:i=j<;>simp[h]<;>omega)] at a2;exact⟨j+1,by omega,by go_num,a2.1,D.grown a2.2 D.size (by rintro k ⟨⟩;exact aN _)⟩;simp[intOf];omega
 ·obtain rfl:j=n:=by omega
  have b1:=aa E;clear E c5 b3;go_wp2;go_loopw[5] (λa8 wr=>∃(K:Nat->Bool) (b:Bool),a8= .bool b/\wr.ownsRow w.1.size 4 1 (.slice (some ⟨w.1.size,0,none⟩) j j) j (bP (fq K j))/\Below w.1.size w wr/\bv (∀i,i<j->jb (rR M j) j i->K i=true)/\bv (b=false->∀i,i<j->K i=true->(tO K M i j&&Iw K M i j)=true)) (λa8 wr=>xP w.1.size j wr+(match a8 with| .bool true=>1|_=>0));exact⟨_,true,rfl,b1.o,D,λi hi _=>by simp[hi],λh=>by cases h⟩;obtain⟨K,b,rfl,E,D,O,F⟩:=hrel;obtain⟨m,rfl⟩:=aB j;cases b
  ·have e6:=aa (MB O.o (F.o rfl));go_wp2;go_ret;exact⟨_,K,rfl,E,D,e6.o⟩
  ·obtain⟨g4,rfl⟩:=aB (α:=World) wr;have d4:=aa E;clear E F b1;go_wp2;go_loopw[5,6] (λa8 i wr=>∃(q:Nat) (L:Nat->Bool) (b:Bool),q<=m/\i= Ud q/\a8= .bool b/\wr.ownsRow w.1.size 4 1 (.slice (some ⟨w.1.size,0,none⟩) m m) m (bP (fq L m))/\Below w.1.size w wr/\bv (∀i,i<m->jb (rR M m) m i->L i=true)/\bv (b=false->L=K/\∀i,i<q->K i=true->(tO K M i m&&Iw K M i m)=true)/\bv (b=true->((List.range m).filter L).length<((List.range m).filter K).length)) (λ_ i _=>m-(intOf i).toNat);exact⟨0,K,false,by omega,rfl,rfl,d4.o,D,O,aa (λ_=>⟨rfl,λi hi=>by omega⟩),aa (λh=>by cases h)⟩;clear O D;obtain⟨i,L,b,hi,rfl,rfl,E,D,O,F,Z⟩:=hrel;by_cases b4:i<m
   ·have a3:=aa E;have g9:(i:Int)<(m:Int):=(by omega);clear E;go_wp2;go_loop[7,8,9] (λu v x=>∃t:Nat,t<=m/\x= Ud t/\u= .bool (tO L M i t)/\v= .bool (Iw L M i t)) (λ_ _ x=>m-(intOf x).toNat);exact⟨0,by omega,rfl,rfl,rfl⟩;obtain⟨j,f4,rfl,rfl,rfl⟩:=hrel;by_cases c4:j<m
    ·skip;obtain⟨g0,c6⟩:=aE (l:=M) (n:=i) (by rw[d3.o];exact b4);obtain⟨g1,c7⟩:=aE (l:=M) (n:=j) (by rw[d3.o];exact c4);have e3:=d5.o g0 (aj c6);have e4:=d5.o g1 (aj c7);obtain⟨d7,o0,e9,o1,g6,e0,d9,c8,b3,c9⟩:=pg d6.o b4 c6 (j:=j) (by omega);obtain⟨g5,h2,f0,o2,g7,Q,_,d0,f3,d1⟩:=pg d6.o c4 c7 (j:=i) (by omega);rw[e0] at Q;injection Q with Q
     injection Q with b2 e2
     subst b2 e2;subst e0;have c8:=(D.cell (p:=⟨d7,o0+i,none⟩) d9).trans c8;have c9:=(D.cell (p:=⟨e9,o1+j,none⟩) b3).trans c9;have d0:=(D.cell (p:=⟨d7,o0+j,none⟩) d9).trans d0;have d1:=(D.cell (p:=⟨f0,o2+i,none⟩) f3).trans d1;rw[e3] at c8;rw[e4] at d0;clear c6 c7 e3 e4;have h0:(j:Int)<(m:Int):=(by omega);have d2:wr.cell? ⟨w.1.size,j,none⟩=some (.bool (L j)):=(a3.o.cellAt j (by omega)).trans (dL c4);have b7:=aa (MI L M i j);have b8:=aa (Pb L M i j);obtain⟨x,W⟩:=aB (tO L M i j);obtain⟨y,Y⟩:=aB (Iw L M i j);obtain⟨k,U⟩:=aB (L j);obtain⟨d,c0⟩:=aB (cB M i j);obtain⟨e,c2⟩:=aB (cB M j i);obtain⟨d8,c1⟩:=aB (yv M i j);obtain⟨b2,Q⟩:=aB (yv M j i);have f1:decide (0<d)=d8:=by rw[c0,c1];rfl
     have f2:decide (0<e)=b2:=by rw[c2,Q];rfl
     rw[<-W,<-U,<-c1] at b7;rw[<-Y,<-U,<-Q] at b8;rw[<-W,<-Y];rw[<-c0] at c9;rw[<-c2] at d1;rw[<-U] at d2;clear W Y U c0 c2 c1 Q;cases k
     ·clear f1 f2;cases x<;>cases y;all_goals
       go_wp2
       go_round
       exact⟨j+1,by omega,by go_num,by rw[b7.o];rfl,by rw[b8.o];rfl⟩
       simp[intOf];omega
     ·cases x<;>cases y<;>cases d8<;>cases b2;all_goals
       go_wp2
       go_round
       exact⟨j+1,by omega,by go_num,by rw[b7.o];rfl,by rw[b8.o];rfl⟩
       simp[intOf];omega
    ·obtain rfl:j=m:=by omega
     have d2:wr.cell? ⟨w.1.size,i,none⟩=some (.bool (L i)):=(a3.o.cellAt i (by omega)).trans (dL b4);have c3:=a3.o.frozenAt i;have a2:=a3.o.stored i (.bool false);rw[kb] at a2;have a4:=aa a2;have a1:=aa (Jj (i:=i) O.o);have a0:=aa (JD (K:=L) (n:=j) b4);obtain⟨x,W⟩:=aB (tO L M i j);obtain⟨y,Y⟩:=aB (Iw L M i j);have a6:=aa W;have a7:=aa Y;rw[<-W,<-Y] at a1;rw[<-W,<-Y];obtain⟨k,U⟩:=aB (L i);rw[<-U] at d2 a0;have e7:=aa U;clear a2 W Y U;cases k
     ·have a5:=aa (show b=false->L=K/\∀p,p<i+1->K p=true->(tO K M p j&&Iw K M p j)=true fromλJ=>by
       obtain⟨I,a9⟩:=F.o J;refine⟨I,λp f6 b0=> ?_⟩;by_cases e:p=i
       ·subst e;rw[<-I,<-e7.o] at b0;cases b0
       ·exact a9 p (by omega) b0)
      clear F a1 a0 a4 c3 a6 a7;go_wp2;go_roundw;exact⟨i+1,L,b,by omega,by go_num,rfl,a3.o,D,O,a5,Z⟩;simp[intOf];omega
     ·cases x
      ·have b6:=aa (a1.o rfl);have b5:=aa (show((List.range j).filter λq=>if q=i then false else L q).length<((List.range j).filter K).length from by
        have I:=a0.o rfl;cases J:b
        ·have:=(F.o J).1;rw[<-this];exact I
        ·exact Nat.lt_trans I (Z.o J))
       clear F a1 a0 Z a6 a7 O;go_wp2;go_roundw;exact⟨i+1,_,true,by omega,by go_num,rfl,a4.o.1,D.grown a4.o.2 D.size (by rintro k ⟨⟩;exact aN _),b6,aa (λh=>by cases h),aa (λ_=>b5.o)⟩;simp[intOf];omega
      ·cases y
       ·have b6:=aa (a1.o rfl);have b5:=aa (show((List.range j).filter λq=>if q=i then false else L q).length<((List.range j).filter K).length from by
         have I:=a0.o rfl;cases J:b
         ·have:=(F.o J).1;rw[<-this];exact I
         ·exact Nat.lt_trans I (Z.o J))
        clear F a1 a0 Z a6 a7 O;go_wp2;go_roundw;exact⟨i+1,_,true,by omega,by go_num,rfl,a4.o.1,D.grown a4.o.2 D.size (by rintro k ⟨⟩;exact aN _),b6,aa (λh=>by cases h),aa (λ_=>b5.o)⟩;simp[intOf];omega
       ·have a5:=aa (show b=false->L=K/\∀p,p<i+1->K p=true->(tO K M p j&&Iw K M p j)=true fromλJ=>by
         obtain⟨I,a9⟩:=F.o J;refine⟨I,λp f6 b0=> ?_⟩;by_cases e:p=i
         ·subst e;rw[<-I,<-a6.o,<-a7.o];rfl
         ·exact a9 p (by omega) b0)
        clear F a1 a0 a4 c3 a6 a7;go_wp2;go_roundw;exact⟨i+1,L,b,by omega,by go_num,rfl,a3.o,D,O,a5,Z⟩;simp[intOf];omega
   ·obtain rfl:i=m:=by omega
    have e8:=aa (show xP w.1.size i wr+(match Value.bool b with| .bool true=>1|_=>0)<xP w.1.size i g4+1 by
     rw[sS E,sS d4.o];cases b
     ·have:=(F.o rfl).1;rw[this];simp only[];omega
     ·have:=Z.o rfl;simp only[];omega)
    have a5:=aa (show b=false->∀p,p<i->L p=true->(tO L M p i&&Iw L M p i)=true fromλJ=>by
     obtain⟨I,a9⟩:=F.o J;rw[I];exact a9)
    go_wp2;go_roundw;exact⟨L,b,rfl,E,D,O.o,a5.o⟩;exact e8.o
end Go.Proofs.YtbdlbckeffakjaaGreatDoor
