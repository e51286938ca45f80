/- Labelled graphs: where a letter leads from a state, both sides. Conditions: the arcs lie in memory. -/
import Derived.Test.YtbdlbckeffakjaaGreatDoorDraw
namespace Go.Proofs.YtbdlbckeffakjaaGreatDoor
set_option maxHeartbeats 4000000
set_option maxRecDepth 100000
open Go.Proofs.Tryz Go.RowKit
theorem OM{w:World}{a:Option Addr}{n c:Nat}{bs:List UInt8}(D:aO w a n (bo bs))(T:TypeId)(h:Int):yX w (w.alloc (.cells #[.slice a n c,Ud 0,Ud h] T)) w.1.size a n c bs 0 h where
 row:=D
 bel:=aZ.alloc aQ _
 lo:=aN _
 hi:=by simp
 f1:=eo _ _ _ _ rfl
 f2:=eo _ _ _ _ rfl
 c0:=aL _ _ _ _ rfl
 il:=dW _
 c1:=aL _ _ _ _ rfl
 c2:=aL _ _ _ _ rfl
theorem tn(a)(n c)(bs)(w)(D:aO w a n (bo bs)):
 Calls prog 28 #[.slice a n c] w λe w'=>∃g,e= .returned (.pointer (some ⟨g,0,none⟩))/\Bz w w' g a n c bs/\Below w.1.size w w':=by
 have I:=aa D;have a3:=D.lim;have U:=aa (show bs.length=n by have:=D.len;simpa[bo] using this);have F:=aa D.at_;go_enter func28,ntmps28;go_wp2;go_loop[3,4] (λh i=>∃j k:Nat,j<=n/\i= Ud j/\h= Ud k/\k<=140737488400000) (λ_ i=>n-(intOf i).toNat);exact⟨0,26583+n,by omega,rfl,by go_num,by omega⟩;obtain⟨j,k,a1,rfl,rfl,a2⟩:=hrel;by_cases W:j<n
 ·by_cases Y:j<4000
  ·have Q:(j:Int)<4000:=by omega
   obtain⟨b,a6,rfl,Z,J⟩:=F.o (by omega);obtain⟨u,O⟩:=aE (l:=bs) (n:=j) (by rw[U.o];exact W);have a0:=J j (.int .u8 (u.toNat:Int)) (by simp[bo,O]);have a4:=u.toNat_lt;obtain⟨y,E,a5⟩:=GH ((k:Int)*131+(u.toNat:Int)+7) 1073741823 (by omega);have E:bits BinOp.and IntKind.i64 ((k:Int)*131+(u.toNat:Int)+7) 1073741823=(y:Int):=E;go_wp2;go_round;exact⟨j+1,y,by omega,by go_num,by first|rw[E]|go_num,by omega⟩;simp[intOf]<;>omega
  ·have Q:¬((j:Int)<4000):=by omega
   go_wp2;go_ret;exact⟨w.1.size,rfl,⟨0,_,OM I.o _ _⟩,aZ.alloc aQ _⟩
 ·go_wp2;go_ret;exact⟨w.1.size,rfl,⟨0,_,OM I.o _ _⟩,aZ.alloc aQ _⟩
def Fr:List ByteArray:=[⟨#[97]⟩,⟨#[98]⟩,⟨#[99]⟩]
theorem sN{k}{s}(h:s∈Fr.take k):s.size=1:=by
 have:=dh h;simp[Fr] at this;rcases this with rfl|rfl|rfl<;>rfl
theorem my{w:World}{e}(cs)(zs)(k)(E:zs.length=k)(h:∀(j:Nat) (v:Value),(ap zs)[j]? =some v->cs[j]? =some v)(F:k<=1000):
 aO (w.alloc (.cells cs e)) (some ⟨w.1.size,0,none⟩) k (ap zs):=
 ⟨by simp[ap,E],by omega,λ_=>⟨w.1.size,0,rfl,by simp,λj v D=>by
  rw[aL _ _ _ _ rfl,aW];exact h j v D⟩⟩
theorem je.trans{W w D E}{g}{a}{n c}{bs}(h:je W w D g a n c bs)(k:je W D E g a n c bs):je W w E g a n c bs:=⟨k.1,dd h.2 k.2⟩
theorem je.alloc{W w D}{g}{a}{n c}{bs}(h:je W w D g a n c bs)(o):je W w (D.alloc o) g a n c bs:=
 ⟨h.1.below (aZ.alloc aQ _),dd h.2 (cC _ _ _)⟩
theorem GQ(W w)(g)(a)(n c)(bs)(k most:Nat)(h:Bz W w g a n c bs)(a0:1<=k)(a1:k<=3)(a4:most<=250):
 Calls prog 188 #[.pointer (some ⟨g,0,none⟩),Ud k,Ud most] w λe w'=>∃s,e= .returned (.string s)/\s.size<=most/\je W w w' g a n c bs:=by
 have Q:=aa (dF W w g a n c bs (most+1) h (by omega) (by omega));go_enter func188,ntmps188;go_wp2_with fail;refine Q.o.mono ?_;rintro e a9 ⟨x,rfl,a7,D⟩;have U:=aa D;go_wp2;go_loopw[7,8] (λs i wr=>∃(j:Nat) (o:ByteArray),j+o.size<=most/\i= Ud j/\s= .string o/\je W w wr g a n c bs) (λ_ i _=>(intOf i).toNat);exact⟨x,⟨#[]⟩,by show x+0<=most;omega,rfl,rfl,U.o⟩;obtain⟨j,o,E,rfl,rfl,D⟩:=hrel;by_cases a3:0<j
 ·have I:=aa (D.alloc (.cells #[.string ⟨#[97]⟩,.string ⟨#[98]⟩,.string ⟨#[99]⟩] 9));have Y:=aa (kf W (wr.alloc (.cells #[.string ⟨#[97]⟩,.string ⟨#[98]⟩,.string ⟨#[99]⟩] 9)) g a n c bs (some ⟨wr.1.size,0,none⟩) k 3 (Fr.take k) I.o.1 (by omega) (by omega) (my _ _ _ (by simp[Fr];omega) (λj v E=>by
   unfold ap at E;rw[mB] at E;rw[cP] at E;split at E
   ·simpa[Fr] using E
   ·cases E) (by omega)) (λq a8 e=>by
   obtain⟨i,h,Z⟩:=D.1;have:=Z.hi;injection e with e
   injection e with e1
   omega))
  have a2:(k:Int)<=3:=(by omega);go_wp2_with fail;refine Y.o.mono ?_;rintro e b0 ⟨s,rfl,O,J⟩;have a6:=sN O;have F:=aa (I.o.trans J);have a5:o.size+s.size<=1000:=(by omega);go_wp2;go_roundw;exact⟨j-1,o++s,by rw[aK];omega,by go_num,rfl,F.o⟩;simp[intOf]<;>omega
 ·obtain rfl:j=0:=by omega
  have F:=aa D;go_wp2;go_ret;exact⟨o,rfl,by omega,F.o⟩
theorem je.app{W w wr J}{g}{a}{n c}{bs}(h:je W w wr g a n c bs)(D:Below w.1.size wr J)(E:g<w.1.size)(O:W.1.size<=w.1.size):je W w J g a n c bs:=by
 obtain⟨⟨i,k,x⟩,F⟩:=h;refine⟨⟨i,k,x.row,x.bel.trans (D.mono O),x.lo,aH x.hi D.size,(D.frozen (p:=⟨g,1,none⟩) E).trans x.f1,(D.frozen (p:=⟨g,2,none⟩) E).trans x.f2,(D.cell (p:=⟨g,0,none⟩) E).trans x.c0,x.il,(D.cell (p:=⟨g,1,none⟩) E).trans x.c1,(D.cell (p:=⟨g,2,none⟩) E).trans x.c2⟩,?_⟩;exact⟨D.os.trans F.os,D.tape.trans F.tape,D.output.trans F.output,bn F.size D.size,λk I Q=>(D.block k I).trans (F.block k I Q)⟩
def BA(W w:World)(g:Nat)(a:Option Addr)(n c:Nat)(bs:List UInt8)(e:Ending)(w':World):Prop:=
 ∃(k m:Int) (o:ByteArray),e= .returned (.agg #[Ud k,Ud m,.string o])/\o.size<=100/\je W w w' g a n c bs
def Fl(w:World)(e:Ending)(w':World):Prop:=
 ∃(k m:Int) (o:ByteArray) (b:Bool),e= .returned (.tuple #[.agg #[Ud k,Ud m,.string o],.bool b])/\o.size<=100/\Below w.1.size w w'
theorem nK(s)(w)(d6:s.size<=100):Calls prog 104 #[.string s] w (Fl w):=by
 have J:=aa (jJ s 32 (w.alloc (.cells #[.int .i64 0,.int .i64 0,.string ⟨#[]⟩] 31)) (by omega));have O:=aa (nZ s 32);unfold wL at J;obtain⟨xs,c3⟩:=aB (pc s 32);rw[show(Value.int .u8 ((32:UInt8).toNat:Int))=Value.int .u8 32 from rfl] at J;rw[<-c3] at J O;clear c3;unfold Fl;by_cases a4:xs.length=3
 ·obtain⟨x,y,z,rfl⟩:∃x y z,xs=[x,y,z]:=by
   match xs,a4 with
   |[x,y,z],_=>exact⟨x,y,z,rfl⟩
  have d7:=O.o.2.2 x (by simp);have d8:=O.o.2.2 y (by simp);have d9:=O.o.2.2 z (by simp);have b0:=aa (λw=>ko x w (by omega));have b1:=aa (λw=>ko y w (by omega));obtain⟨i,hi⟩:=aB ((gC x 12).getD 0);obtain⟨p,c0⟩:=aB ((gC x 12).isSome);obtain⟨j,b9⟩:=aB ((gC y 12).getD 0);obtain⟨q,c1⟩:=aB ((gC y 12).isSome);rw[<-hi,<-c0] at b0;rw[<-b9,<-c1] at b1;have a9:=aa (λw=>gh i j z w (by unfold maxLen;omega));obtain⟨r,c2⟩:=aB (du i j z);rw[<-c2] at a9;clear hi c0 b9 c1 c2 O a4;go_enter func104,ntmps104;go_wp2_with fail;refine J.o.mono ?_;rintro e a3 ⟨c9,rfl,I,a0⟩;obtain⟨Z,d3,rfl,d5,a7⟩:=dP I (by simp);have e7:a3.cell? ⟨Z,0,none⟩=some (.string x):=(I.cellAt 0 (by simp)).trans rfl;have b2:=aa (show a3.cell? ⟨Z,1,none⟩=some (.string y) from(I.cellAt 1 (by simp)).trans rfl);have b3:=aa (show a3.cell? ⟨Z,2,none⟩=some (.string z) from(I.cellAt 2 (by simp)).trans rfl);have c4:=aa a0;clear I a0 J;go_wp2_with fail;refine(b0.o _).mono ?_;rintro e e4 ⟨rfl,a1⟩;have e8:=(a1.cell (p:=⟨Z,1,none⟩) a7).trans b2.o;have d0:=aa ((a1.cell (p:=⟨Z,2,none⟩) a7).trans b3.o);have c8:=aH a7 a1.size;have c5:=aa (bs c4.o a1);clear a1 b2 b3;go_wp2_with fail;refine(b1.o _).mono ?_;rintro e e5 ⟨rfl,a6⟩;have e9:=(a6.cell (p:=⟨Z,2,none⟩) c8).trans d0.o;have a8:=aa (bs c5.o a6);clear a6;obtain⟨h,D,Q,F⟩:=Sc a8.o;have U:=(h 0).trans (show _=some (Value.int .i64 0) from rfl);have W:=(h 1).trans (show _=some (Value.int .i64 0) from rfl);have Y:=(h 2).trans (show _=some (Value.string ⟨#[]⟩) from rfl);have b4:=D 0;have b5:=D 1;have b6:=D 2
  have E:=aa F;clear h D F;cases p
  ·go_wp2;refine bodyPost_ret (v:=.tuple #[.agg #[.int .i64 0,.int .i64 0,.string ⟨#[]⟩],.bool false]) (by simp[results,results104,go_sem,U,W,Y,Q]) rfl ⟨_,_,_,_,rfl,by show 0<=100;omega,?_⟩;exact(((E.o.setCell aQ _).setCell aQ _).setCell aQ _).alloc (by simpa using E.o.size) _
  ·cases q
   ·go_wp2;refine bodyPost_ret (v:=.tuple #[.agg #[.int .i64 0,.int .i64 0,.string ⟨#[]⟩],.bool false]) (by simp[results,results104,go_sem,U,W,Y,Q]) rfl ⟨_,_,_,_,rfl,by show 0<=100;omega,?_⟩;exact(((E.o.setCell aQ _).setCell aQ _).setCell aQ _).alloc (by simpa using E.o.size) _
   ·go_wp2_with fail;refine(a9.o _).mono ?_;rintro e e6 ⟨rfl,b8⟩;obtain⟨a2,c7,e0,b7⟩:=Sc b8;have e1:=(a2 0).trans (show _=some (Value.int .i64 i) from rfl);have e2:=(a2 1).trans (show _=some (Value.int .i64 j) from rfl);have e3:=(a2 2).trans (show _=some (Value.string z) from rfl);obtain⟨h,D,Q,F⟩:=Sc (bs a8.o b7);have U:=(h 0).trans (show _=some (Value.int .i64 0) from rfl);have W:=(h 1).trans (show _=some (Value.int .i64 0) from rfl);have Y:=(h 2).trans (show _=some (Value.string ⟨#[]⟩) from rfl);have b4:=D 0;have b5:=D 1;have b6:=D 2;have E:=aa F;clear a2 c7 b7 h D F b8;cases r
    ·go_wp2;refine bodyPost_ret (v:=.tuple #[.agg #[.int .i64 0,.int .i64 0,.string ⟨#[]⟩],.bool false]) (by simp[results,results104,go_sem,U,W,Y,Q]) rfl ⟨_,_,_,_,rfl,by show 0<=100;omega,?_⟩;exact((E.o.setCell (by simp) _).setCell (by simp) _).setCell (by simp) _
    ·go_wp2;refine bodyPost_ret (v:=.tuple #[.agg #[.int .i64 i,.int .i64 j,.string z],.bool true]) (by simp[results,results104,go_sem,U,W,Y,Q]) rfl ⟨_,_,_,_,rfl,by omega,?_⟩;exact((E.o.setCell (by simp) _).setCell (by simp) _).setCell (by simp) _
 ·obtain⟨N,a5⟩:=aB xs.length;have d4:((N:Int) !=3)=true:=by simp;omega
  rw[<-a5] at J;have c6:=O.o.2.1;rw[<-a5] at c6;clear a5 a4 O;go_enter func104,ntmps104;go_wp2_with fail;refine J.o.mono ?_;rintro e a3 ⟨c9,rfl,I,a0⟩;obtain⟨d1,d2,rfl,_⟩:=aS I (by omega);obtain⟨h,D,Q,F⟩:=Sc a0;have U:=(h 0).trans (show _=some (Value.int .i64 0) from rfl);have W:=(h 1).trans (show _=some (Value.int .i64 0) from rfl);have Y:=(h 2).trans (show _=some (Value.string ⟨#[]⟩) from rfl);have b4:=D 0;have b5:=D 1;have b6:=D 2;have E:=aa F;clear h D F I a0;go_wp2;refine bodyPost_ret (v:=.tuple #[.agg #[.int .i64 0,.int .i64 0,.string ⟨#[]⟩],.bool false]) (by simp[results,results104,go_sem,U,W,Y,Q]) rfl ⟨_,_,_,_,rfl,by show 0<=100;omega,?_⟩;exact((E.o.setCell (by simp) _).setCell (by simp) _).setCell (by simp) _
def zi:List ByteArray:=[⟨#[50,32,50,32,97,98,98,97]⟩,⟨#[50,32,49,32,98,97]⟩,⟨#[50,32,51,32,97,97,98,98,97,97,98,98]⟩,⟨#[50,32,51,32,97,98,98,97,98,97,97,98]⟩,⟨#[50,32,51,32,97,98,97,98,97,98,97,98]⟩,⟨#[50,32,51,32,97,98,98,98,98,98,98,97]⟩,⟨#[50,32,50,32,97,97,98,98]⟩,⟨#[50,32,50,32,97,97,97,98]⟩,⟨#[51,32,49,32,98,99,97]⟩,⟨#[51,32,50,32,97,98,99,98,99,97,99,97,98]⟩,⟨#[50,32,51,32,97,98,98,97,97,98,98,97]⟩,⟨#[50,32,52,32,97,97,98,97,98,98,97,98,97,97,98,97,98,98,97,98]⟩]
theorem EO{s}(h:s∈zi):s.size<=100:=by
 have:∀s∈zi,s.size<=100:=(by decide);exact this s h
theorem nV{w:World}{e}(cs)(zs)(k)(E:zs.length=k)(h:∀(j:Nat) (v:Value),(af zs)[j]? =some v->cs[j]? =some v)(F:k<=1000):
 aO (w.alloc (.cells cs e)) (some ⟨w.1.size,0,none⟩) k (af zs):=
 ⟨by simp[af,E],by omega,λ_=>⟨w.1.size,0,rfl,by simp,λj v D=>by
  rw[aL _ _ _ _ rfl,aW];exact h j v D⟩⟩
theorem je.gW{W w D}{g}{a}{n c}{bs}(h:je W w D g a n c bs):g<D.1.size:=by
 obtain⟨⟨i,k,x⟩,_⟩:=h;exact x.hi
theorem Bz.drew0{W w}{g}{a}{n c}{bs}(h:Bz W w g a n c bs):je W w w g a n c bs:=⟨h,World.grownBy.refl _ _⟩
theorem Ss{k m}(h:(k=2/\m<=3)\/(k=3/\m<=2)):eC k m<=9:=by
 have D:∀m,m<=3->eC 2 m<=9:=(by decide);have E:∀m,m<=2->eC 3 m<=9:=(by decide);rcases h with⟨rfl,h⟩|⟨rfl,h⟩
 ·exact D m h
 ·exact E m h
theorem dM{base b}{w wr}(h:Below base w wr)(D:base<=b)(x y z):Below base w (((wr.setCell ⟨b,0,none⟩ x).setCell ⟨b,1,none⟩ y).setCell ⟨b,2,none⟩ z):=by
 have E:Below base w (wr.setCell ⟨b,0,none⟩ x):=h.setCell D x;have F:Below base w ((wr.setCell ⟨b,0,none⟩ x).setCell ⟨b,1,none⟩ y):=E.setCell D y;exact F.setCell D z
theorem Nf(W w)(g)(a)(n c)(bs)(h:Bz W w g a n c bs):
 Calls prog 190 #[.pointer (some ⟨g,0,none⟩)] w (BA W w g a n c bs):=by
 have J:g<w.1.size/\W.1.size<=w.1.size:=by obtain⟨i,k,x⟩:=h;exact⟨x.hi,x.bel.size⟩
 have d8:=aa (h.drew0.alloc (.cells #[Ud 0,Ud 0,.string ⟨#[]⟩] 31));have a4:=aa (bA.new w #[Ud 0,Ud 0,.string ⟨#[]⟩] 31);have e9:=aa (lq W (w.alloc (.cells #[Ud 0,Ud 0,.string ⟨#[]⟩] 31)) g a n c bs 3 d8.o.1 (by omega) (by omega));unfold BA;clear h;go_enter func190,ntmps190;go_wp2_with fail;refine e9.o.mono ?_;rintro e e8 ⟨b,rfl,D⟩;have d5:=aa (a4.o.grown D.2 (by omega));have a5:=aa (d8.o.trans D);have i2:=a5.o.2.size;have h9:=D.gW;clear D e9 a4 d8;cases b
 ·have c0:=aa (dF W e8 g a n c bs 3 a5.o.1 (by omega) (by omega));go_wp2_with fail;refine c0.o.mono ?_;rintro e E ⟨y,rfl,h4,D⟩;have i3:=D.2.size;obtain⟨m,g3⟩:=aB (1+y);have g4:1<=m/\m<=3:=(by omega);have f2:(1:Int)+(y:Int)=(m:Int):=(by omega);clear g3 h4;have Y:=aa (d5.o.grown D.2 (by omega));have Q:=aa (a5.o.trans D);have i0:=D.gW;have Z:=aa (Q.o.alloc (.cells #[Ud 2,Ud (m:Int),.string ⟨#[]⟩] 31));have U:=aa (bA.new E #[Ud 2,Ud (m:Int),.string ⟨#[]⟩] 31);have d7:=aa (lq W (E.alloc (.cells #[Ud 2,Ud (m:Int),.string ⟨#[]⟩] 31)) g a n c bs 5 Z.o.1 (by omega) (by omega));clear D c0 d5 a5;go_wp2_with fail;refine d7.o.mono ?_;rintro e a3 ⟨b,rfl,D⟩;have h0:=D.2.size;simp only[dj] at h0;have c1:=aa ((Y.o.alloc (.cells #[Ud 2,Ud (m:Int),.string ⟨#[]⟩] 31)).grown (D.2) (by omega));have b0:=aa (Z.o.trans (D));have c3:=aa (U.o.grown (D.2) (by omega));have g2:=Y.o.lt;have i4:w.1.size<E.1.size:=g2;clear D d7 Y Q Z U;obtain⟨⟨a2,d0,b9⟩,d1,d2,d3⟩:=c3.o.c3;cases b
  ·have d4:=c1.o;have b2:=c3.o;have c2:=b0;have a4:=c1;obtain⟨k,c8⟩:=aB (α:=Nat) 2;rw[show((2:Int))=((2:Nat):Int) from rfl] at a2 b2;have c9:(k=2/\m<=3)\/(k=3/\m<=2):=(by omega);rw[<-c8] at a2 b2;clear c8 f2 c3 b0 c1;have b5:=Ss c9;have c7:g≠E.1.size:=(by omega);go_wp2_with fail;refine(dw k m (by omega) (by omega) _).mono ?_;rintro e h8 ⟨rfl,rfl⟩;obtain⟨N,b4⟩:=aB (eC k m);rw[<-b4];rw[<-b4] at b5;clear b4;go_wp2;go_loopw[6] (λi wr=>∃(j:Nat) (o:ByteArray),i= Ud j/\j+o.size<=9/\bA wr E.1.size #[Ud k,Ud m,.string o]/\bA wr w.1.size #[Ud 0,Ud 0,.string ⟨#[]⟩]/\je W w wr g a n c bs) (λi _=>(intOf i).toNat);exact⟨N,⟨#[]⟩,rfl,b5,b2,d4,c2.o⟩;obtain⟨j,o,rfl,O,a8,a7,D⟩:=hrel;have a4:=aa a7;have b3:=aa a8;obtain⟨⟨a2,d0,b9⟩,d1,d2,d3⟩:=a8.c3;obtain⟨⟨b6,b7,b8⟩,u0,u1,u2⟩:=a7.c3;have e5:=a8.lt;have e7:=a7.lt;clear a8 a7;by_cases g1:0<j
   ·have a5:=aa D;have h2:=D.2.size;have e3:=D.gW;clear D b6 b7 b8 u0 u1 u2;have g0:(k:Int)<=3:=(by omega);have f9:(0:Int)<=(k:Int):=(by omega);have g8:E.1.size<wr.drew.1.size:=e5;have g6:o.size<=9:=(by omega);obtain⟨S,a1⟩:=aB (α:=World->Prop) (λV=>V.cell? ⟨E.1.size,0,none⟩=some (Ud k)/\V.cell? ⟨E.1.size,2,none⟩=some (.string o));have a6:=aa (show∀V,S V->V.cell? ⟨E.1.size,0,none⟩=some (Ud k)/\V.cell? ⟨E.1.size,2,none⟩=some (.string o) fromλV c6=>by rw[a1] at c6;exact c6);have f7:S wr.drew:=by rw[a1];exact⟨a2,b9⟩
    have c4:S (wr.drew.alloc (.cells #[.string ⟨#[97]⟩,.string ⟨#[98]⟩,.string ⟨#[99]⟩] 9)):=by
     have a0:=(b3.o.below aZ.drew).alloc (.cells #[.string ⟨#[97]⟩,.string ⟨#[98]⟩,.string ⟨#[99]⟩] 9);rw[a1];exact⟨a0.cell 0,a0.cell 2⟩
    have e0:=aa (show∀V,bA V E.1.size #[Ud k,Ud m,.string o]->S V fromλV a0=>by rw[a1];exact⟨a0.cell 0,a0.cell 2⟩);clear a1 a2 d0 b9 d1 d2 d3;have Q:=aa ((a5.o.app aZ.drew J.1 J.2).alloc (.cells #[.string ⟨#[97]⟩,.string ⟨#[98]⟩,.string ⟨#[99]⟩] 9));have b1:=aa (kf W (wr.drew.alloc (.cells #[.string ⟨#[97]⟩,.string ⟨#[98]⟩,.string ⟨#[99]⟩] 9)) g a n c bs (some ⟨wr.drew.1.size,0,none⟩) k 3 (Fr.take k) Q.o.1 (by omega) (by omega) (my _ _ _ (by simp[Fr];omega) (λj v O=>by
     unfold ap at O;rw[mB] at O;rw[cP] at O;split at O
     ·simpa[Fr] using O
     ·cases O) (by omega)) (λz f3 e=>by
     injection e with e
     injection e with e1
     have:g<wr.drew.1.size:=e3;omega))
    go_wp2_with fail;refine dr (S:=S) 10 (by kernel_rfl) ?_;iterate 3 (refine kG rfl (by kernel_rfl) (λ_ _ _ h=>h) (by rfl) (by assumption) (λV I=>by have I:=a6.o V I;go_split_ands;go_simp;first|done|with_reducible rfl) ?_;try simp only[Act.put,ab,ac,ae])
    (refine jw 4 rfl (by kernel_rfl) (λ_ _ _ h=>h) (by rfl) (by assumption) (λV I=>by have I:=a6.o V I;go_split_ands;go_simp;first|done|with_reducible rfl) ?_;try simp only[Act.put,ab,ac,ae]);(refine jw 5 rfl (by kernel_rfl) (λ_ _ _ h=>h) (by rfl) (by assumption) (λV I=>by have I:=a6.o V I;go_split_ands;go_simp;first|done|with_reducible rfl) ?_;try simp only[Act.put,ab,ac,ae]);refine aY (i:=3) rfl (by kernel_rfl) (by decide) (λK F=> ?_);go_simp;refine F.out _ _ c4 ?_;clear F K;try simp only[Act.put,ab,ac,ae]
    refine aY (i:=6) rfl (by kernel_rfl) (by decide) (λK F=> ?_);go_simp;refine F.out _ _ c4 ?_;clear F K;try simp only[Act.put,ab,ac,ae]
    refine aY (i:=7) rfl (by kernel_rfl) (by decide) (λK F=> ?_);go_simp;go_at_call 102;refine b1.o.mono ?_;rintro e a3 ⟨x,rfl,e6,a9⟩;have h3:=sN e6;have U:=aa (((b3.o.below aZ.drew).alloc (.cells #[.string ⟨#[97]⟩,.string ⟨#[98]⟩,.string ⟨#[99]⟩] 9)).grown a9.2 (λe=>c7 e.symm));have Y:=aa (((a4.o.below aZ.drew).alloc (.cells #[.string ⟨#[97]⟩,.string ⟨#[98]⟩,.string ⟨#[99]⟩] 9)).grown a9.2 (by omega));have Z:=aa (Q.o.trans a9);have c5:=e0.o _ U.o;have f5:=U.o.froz 2;have f6:=U.o.cell 2;clear a9 b1 Q;go_wp2_with fail;refine F.out _ _ c5 ?_;clear F K;try simp only[Act.put,ab,ac,ae]
    have f8:¬(9223372036854775807<o.size+1):=(by omega);refine aY (i:=8) rfl (by kernel_rfl) (by decide) (λK F=> ?_);go_simp;refine F.out _ _ c5 ?_;clear F K;try simp only[Act.put,ab,ac,ae]
    (refine jw 9 rfl (by kernel_rfl) (λ_ _ _ h=>h) (by rfl) (by assumption) (λV I=>by have I:=a6.o V I;go_split_ands;go_simp;first|done|with_reducible rfl) ?_;try simp only[Act.put,ab,ac,ae]);refine cU rfl (by kernel_rfl) (by kernel_rfl) (λK F=> ?_);go_simp;refine F.out _ _ ?_;clear F K;go_wp2;go_roundw;refine⟨j-1,o++x,by go_num,by rw[aK];omega,?_,Y.o.other (by omega) _,Z.o.app (show Below w.1.size a3 (a3.setCell ⟨E.1.size,2,none⟩ (.string (o++x))) from aZ.setCell (by show w.1.size<=E.1.size;omega) _) J.1 J.2⟩;exact U.o.set _ (by show 2<3;omega) (λk=>match k with|0=>rfl|1=>rfl|2=>rfl|k+3=>rfl);simp[intOf]<;>omega
   ·obtain rfl:j=0:=by omega
    have Q:=aa (D.app (dM (aV w.1.size wr) aQ (Ud k) (Ud m) (.string o)) J.1 J.2);have e4:o.size<=100:=(by omega);clear D O c9 b5 a4 b3 c2 c7;go_wp2;refine bodyPost_ret (v:=.agg #[Ud k,Ud m,.string o]) ?_ rfl ⟨_,_,_,rfl,e4,Q.o⟩;simp[results,results190,go_sem,b6,b7,b8,e7]
  ·have d6:=aa (b0.o.app (show Below w.1.size a3 (a3.setCell ⟨E.1.size,0,none⟩ (Ud 3)) from aZ.setCell (by show w.1.size<=E.1.size;omega) _) J.1 J.2);have f0:=aa (dF W (a3.setCell ⟨E.1.size,0,none⟩ (Ud 3)) g a n c bs 2 d6.o.1 (by omega) (by omega));go_wp2_with fail;refine f0.o.mono ?_;rintro e f4 ⟨z,rfl,h5,D⟩;obtain⟨p,g7⟩:=aB (1+z);have i1:1<=p/\p<=2:=(by omega);have h7:(1:Int)+(z:Int)=(p:Int):=(by omega);clear g7 h5;have d9:=aa ((c3.o.set (A':=#[Ud 3,Ud (m:Int),.string ⟨#[]⟩]) (Ud 3) (i:=0) (by show 0<3;omega) (λk=>match k with|0=>rfl|1=>rfl|2=>rfl|k+3=>rfl)).grown D.2 (by omega));have b2:=d9.o.set (A':=#[Ud 3,Ud (p:Int),.string ⟨#[]⟩]) (Ud (p:Int)) (i:=1) (by show 1<3;omega) (λk=>match k with|0=>rfl|1=>rfl|2=>rfl|k+3=>rfl);have d4:=((c1.o.other (q:=E.1.size) (i:=0) (by omega) (Ud 3)).grown D.2 (by omega)).other (q:=E.1.size) (i:=1) (by omega) (Ud (p:Int));have c2:=aa ((d6.o.trans D).app (show Below w.1.size f4 (f4.setCell ⟨E.1.size,1,none⟩ (Ud (p:Int))) from aZ.setCell (by show w.1.size<=E.1.size;omega) _) J.1 J.2);obtain⟨⟨a2,d0,b9⟩,d1,d2,d3⟩:=d9.o.c3;have a4:=aa d4;clear D f0 b0 c1 c3 d6 d9;go_wp2_with fail;obtain⟨k,c8⟩:=aB (α:=Nat) 3;rw[show((3:Int))=((3:Nat):Int) from rfl] at a2 b2⊢;have c9:(k=2/\p<=3)\/(k=3/\p<=2):=(by omega);rw[<-c8] at a2 b2⊢;clear c8 f2 h7;clear g4;obtain⟨m,rfl⟩:=aB p;have b5:=Ss c9;have c7:g≠E.1.size:=(by omega);go_wp2_with fail;refine(dw k m (by omega) (by omega) _).mono ?_
   rintro e h8 ⟨rfl,rfl⟩;obtain⟨N,b4⟩:=aB (eC k m);rw[<-b4];rw[<-b4] at b5;clear b4;go_wp2;go_loopw[6] (λi wr=>∃(j:Nat) (o:ByteArray),i= Ud j/\j+o.size<=9/\bA wr E.1.size #[Ud k,Ud m,.string o]/\bA wr w.1.size #[Ud 0,Ud 0,.string ⟨#[]⟩]/\je W w wr g a n c bs) (λi _=>(intOf i).toNat);exact⟨N,⟨#[]⟩,rfl,b5,b2,d4,c2.o⟩;obtain⟨j,o,rfl,O,a8,a7,D⟩:=hrel;have a4:=aa a7;have b3:=aa a8;obtain⟨⟨a2,d0,b9⟩,d1,d2,d3⟩:=a8.c3;obtain⟨⟨b6,b7,b8⟩,u0,u1,u2⟩:=a7.c3;have e5:=a8.lt;have e7:=a7.lt;clear a8 a7;by_cases g1:0<j
   ·have a5:=aa D;have h2:=D.2.size;have e3:=D.gW;clear D b6 b7 b8 u0 u1 u2;have g0:(k:Int)<=3:=(by omega);have f9:(0:Int)<=(k:Int):=(by omega);have g8:E.1.size<wr.drew.1.size:=e5;have g6:o.size<=9:=(by omega);obtain⟨S,a1⟩:=aB (α:=World->Prop) (λV=>V.cell? ⟨E.1.size,0,none⟩=some (Ud k)/\V.cell? ⟨E.1.size,2,none⟩=some (.string o));have a6:=aa (show∀V,S V->V.cell? ⟨E.1.size,0,none⟩=some (Ud k)/\V.cell? ⟨E.1.size,2,none⟩=some (.string o) fromλV c6=>by rw[a1] at c6;exact c6);have f7:S wr.drew:=by rw[a1];exact⟨a2,b9⟩
    have c4:S (wr.drew.alloc (.cells #[.string ⟨#[97]⟩,.string ⟨#[98]⟩,.string ⟨#[99]⟩] 9)):=by
     have a0:=(b3.o.below aZ.drew).alloc (.cells #[.string ⟨#[97]⟩,.string ⟨#[98]⟩,.string ⟨#[99]⟩] 9);rw[a1];exact⟨a0.cell 0,a0.cell 2⟩
    have e0:=aa (show∀V,bA V E.1.size #[Ud k,Ud m,.string o]->S V fromλV a0=>by rw[a1];exact⟨a0.cell 0,a0.cell 2⟩);clear a1 a2 d0 b9 d1 d2 d3;have Q:=aa ((a5.o.app aZ.drew J.1 J.2).alloc (.cells #[.string ⟨#[97]⟩,.string ⟨#[98]⟩,.string ⟨#[99]⟩] 9));have b1:=aa (kf W (wr.drew.alloc (.cells #[.string ⟨#[97]⟩,.string ⟨#[98]⟩,.string ⟨#[99]⟩] 9)) g a n c bs (some ⟨wr.drew.1.size,0,none⟩) k 3 (Fr.take k) Q.o.1 (by omega) (by omega) (my _ _ _ (by simp[Fr];omega) (λj v O=>by
     unfold ap at O;rw[mB] at O;rw[cP] at O;split at O
     ·simpa[Fr] using O
     ·cases O) (by omega)) (λz f3 e=>by
     injection e with e
     injection e with e1
     have:g<wr.drew.1.size:=e3;omega))
    go_wp2_with fail;refine dr (S:=S) 10 (by kernel_rfl) ?_;iterate 3 (refine kG rfl (by kernel_rfl) (λ_ _ _ h=>h) (by rfl) (by assumption) (λV I=>by have I:=a6.o V I;go_split_ands;go_simp;first|done|with_reducible rfl) ?_;try simp only[Act.put,ab,ac,ae])
    (refine jw 4 rfl (by kernel_rfl) (λ_ _ _ h=>h) (by rfl) (by assumption) (λV I=>by have I:=a6.o V I;go_split_ands;go_simp;first|done|with_reducible rfl) ?_;try simp only[Act.put,ab,ac,ae]);(refine jw 5 rfl (by kernel_rfl) (λ_ _ _ h=>h) (by rfl) (by assumption) (λV I=>by have I:=a6.o V I;go_split_ands;go_simp;first|done|with_reducible rfl) ?_;try simp only[Act.put,ab,ac,ae]);refine aY (i:=3) rfl (by kernel_rfl) (by decide) (λK F=> ?_);go_simp;refine F.out _ _ c4 ?_;clear F K;try simp only[Act.put,ab,ac,ae]
    refine aY (i:=6) rfl (by kernel_rfl) (by decide) (λK F=> ?_);go_simp;refine F.out _ _ c4 ?_;clear F K;try simp only[Act.put,ab,ac,ae]
    refine aY (i:=7) rfl (by kernel_rfl) (by decide) (λK F=> ?_);go_simp;go_at_call 102;refine b1.o.mono ?_;rintro e a3 ⟨x,rfl,e6,a9⟩;have h3:=sN e6;have U:=aa (((b3.o.below aZ.drew).alloc (.cells #[.string ⟨#[97]⟩,.string ⟨#[98]⟩,.string ⟨#[99]⟩] 9)).grown a9.2 (λe=>c7 e.symm));have Y:=aa (((a4.o.below aZ.drew).alloc (.cells #[.string ⟨#[97]⟩,.string ⟨#[98]⟩,.string ⟨#[99]⟩] 9)).grown a9.2 (by omega));have Z:=aa (Q.o.trans a9);have c5:=e0.o _ U.o;have f5:=U.o.froz 2;have f6:=U.o.cell 2;clear a9 b1 Q;go_wp2_with fail;refine F.out _ _ c5 ?_;clear F K;try simp only[Act.put,ab,ac,ae]
    have f8:¬(9223372036854775807<o.size+1):=(by omega);refine aY (i:=8) rfl (by kernel_rfl) (by decide) (λK F=> ?_);go_simp;refine F.out _ _ c5 ?_;clear F K;try simp only[Act.put,ab,ac,ae]
    (refine jw 9 rfl (by kernel_rfl) (λ_ _ _ h=>h) (by rfl) (by assumption) (λV I=>by have I:=a6.o V I;go_split_ands;go_simp;first|done|with_reducible rfl) ?_;try simp only[Act.put,ab,ac,ae]);refine cU rfl (by kernel_rfl) (by kernel_rfl) (λK F=> ?_);go_simp;refine F.out _ _ ?_;clear F K;go_wp2;go_roundw;refine⟨j-1,o++x,by go_num,by rw[aK];omega,?_,Y.o.other (by omega) _,Z.o.app (show Below w.1.size a3 (a3.setCell ⟨E.1.size,2,none⟩ (.string (o++x))) from aZ.setCell (by show w.1.size<=E.1.size;omega) _) J.1 J.2⟩;exact U.o.set _ (by show 2<3;omega) (λk=>match k with|0=>rfl|1=>rfl|2=>rfl|k+3=>rfl);simp[intOf]<;>omega
   ·obtain rfl:j=0:=by omega
    have Q:=aa (D.app (dM (aV w.1.size wr) aQ (Ud k) (Ud m) (.string o)) J.1 J.2);have e4:o.size<=100:=(by omega);clear D O c9 b5 a4 b3 c2 c7;go_wp2;refine bodyPost_ret (v:=.agg #[Ud k,Ud m,.string o]) ?_ rfl ⟨_,_,_,rfl,e4,Q.o⟩;simp[results,results190,go_sem,b6,b7,b8,e7]
 ·have Q:=aa (a5.o.alloc (.cells #[.string ⟨#[50,32,50,32,97,98,98,97]⟩,.string ⟨#[50,32,49,32,98,97]⟩,.string ⟨#[50,32,51,32,97,97,98,98,97,97,98,98]⟩,.string ⟨#[50,32,51,32,97,98,98,97,98,97,97,98]⟩,.string ⟨#[50,32,51,32,97,98,97,98,97,98,97,98]⟩,.string ⟨#[50,32,51,32,97,98,98,98,98,98,98,97]⟩,.string ⟨#[50,32,50,32,97,97,98,98]⟩,.string ⟨#[50,32,50,32,97,97,97,98]⟩,.string ⟨#[51,32,49,32,98,99,97]⟩,.string ⟨#[51,32,50,32,97,98,99,98,99,97,99,97,98]⟩,.string ⟨#[50,32,51,32,97,98,98,97,97,98,98,97]⟩,.string ⟨#[50,32,52,32,97,97,98,97,98,98,97,98,97,97,98,97,98,98,97,98]⟩] 9));have b1:=aa (kf W (e8.alloc (.cells #[.string ⟨#[50,32,50,32,97,98,98,97]⟩,.string ⟨#[50,32,49,32,98,97]⟩,.string ⟨#[50,32,51,32,97,97,98,98,97,97,98,98]⟩,.string ⟨#[50,32,51,32,97,98,98,97,98,97,97,98]⟩,.string ⟨#[50,32,51,32,97,98,97,98,97,98,97,98]⟩,.string ⟨#[50,32,51,32,97,98,98,98,98,98,98,97]⟩,.string ⟨#[50,32,50,32,97,97,98,98]⟩,.string ⟨#[50,32,50,32,97,97,97,98]⟩,.string ⟨#[51,32,49,32,98,99,97]⟩,.string ⟨#[51,32,50,32,97,98,99,98,99,97,99,97,98]⟩,.string ⟨#[50,32,51,32,97,98,98,97,97,98,98,97]⟩,.string ⟨#[50,32,52,32,97,97,98,97,98,98,97,98,97,97,98,97,98,98,97,98]⟩] 9)) g a n c bs (some ⟨e8.1.size,0,none⟩) 12 12 zi Q.o.1 (by omega) (by omega) (my _ _ _ rfl (λj v O=>by simpa[ap,zi] using O) (by omega)) (λq f3 e=>by
   injection e with e
   injection e with e1
   omega))
  go_wp2_with fail;refine b1.o.mono ?_;rintro e E ⟨s,rfl,f1,D⟩;have g9:=EO f1;have c0:=aa ((d5.o.alloc (.cells #[.string ⟨#[50,32,50,32,97,98,98,97]⟩,.string ⟨#[50,32,49,32,98,97]⟩,.string ⟨#[50,32,51,32,97,97,98,98,97,97,98,98]⟩,.string ⟨#[50,32,51,32,97,98,98,97,98,97,97,98]⟩,.string ⟨#[50,32,51,32,97,98,97,98,97,98,97,98]⟩,.string ⟨#[50,32,51,32,97,98,98,98,98,98,98,97]⟩,.string ⟨#[50,32,50,32,97,97,98,98]⟩,.string ⟨#[50,32,50,32,97,97,97,98]⟩,.string ⟨#[51,32,49,32,98,99,97]⟩,.string ⟨#[51,32,50,32,97,98,99,98,99,97,99,97,98]⟩,.string ⟨#[50,32,51,32,97,98,98,97,97,98,98,97]⟩,.string ⟨#[50,32,52,32,97,97,98,97,98,98,97,98,97,97,98,97,98,98,97,98]⟩] 9)).grown D.2 (by omega));have Z:=aa (Q.o.trans D);clear D f1 b1 Q d5 a5;go_wp2_with fail;refine(nK s _ g9).mono ?_;rintro e a3 ⟨k,m,o,p,rfl,g5,e2⟩;have Y:=aa (c0.o.below e2);have b0:=aa (Z.o.app (e2.mono Z.o.2.size) J.1 J.2);have d7:=aa (Y.o.alloc (.cells #[Ud k,Ud m,.string o] 31));have h1:=b0.o.2.size;have d6:=aa (b0.o.alloc (.cells #[Ud k,Ud m,.string o] 31));obtain⟨⟨b6,b7,b8⟩,u0,u1,u2⟩:=Y.o.c3;have h6:=Y.o.lt;clear c0 Z e2;go_wp2;refine bodyPost_ret (v:=.agg #[Ud k,Ud m,.string o]) (by simp[results,results190,go_sem,b6,b7,b8,h6]) rfl ⟨_,_,_,rfl,g5,b0.o.app ?_ J.1 J.2⟩;exact(dM (aV w.1.size a3) aQ (Ud k) (Ud m) (.string o)).alloc (by simpa using h1) _
theorem Ng(W w)(g)(a)(n c)(bs)(a8:Bz W w g a n c bs):
 Calls prog 103 #[.pointer (some ⟨g,0,none⟩)] w λe w'=>∃(k m:Int) (o:ByteArray),e= .returned (.agg #[Ud k,Ud m,.string o])/\o.size<=101/\je W w w' g a n c bs:=by
 have E:g<w.1.size/\W.1.size<=w.1.size:=by obtain⟨i,k,x⟩:=a8;exact⟨x.hi,x.bel.size⟩
 have a5:=aa (a8.drew0.alloc (.cells #[Ud 0,Ud 0,.string ⟨#[]⟩] 31));have b2:=aa (bA.new w #[Ud 0,Ud 0,.string ⟨#[]⟩] 31);have a2:=aa (Nf W (w.alloc (.cells #[Ud 0,Ud 0,.string ⟨#[]⟩] 31)) g a n c bs a5.o.1);unfold BA at a2;go_enter func103,ntmps103;go_wp2_with fail;refine a2.o.mono ?_;rintro e D ⟨k,m,o,rfl,d9,h⟩;have a3:=aa (b2.o.grown h.2 (by omega));have b5:=aa (a5.o.trans h);have a9:=h.gW;have b1:=a3.o.lt;have a6:=aa (b5.o.alloc (.cells #[Ud k,Ud m,.string o] 31));have b8:=aa (bA.new D #[Ud k,Ud m,.string o] 31);have b3:=aa (a3.o.alloc (.cells #[Ud k,Ud m,.string o] 31));have b4:=aa (dF W (D.alloc (.cells #[Ud k,Ud m,.string o] 31)) g a n c bs 18 a6.o.1 (by omega) (by omega));go_wp2_with fail;refine b4.o.mono ?_;rintro e a1 ⟨x,rfl,d3,h⟩;have F:=aa (b3.o.grown h.2 (by omega));have I:=aa (b8.o.grown h.2 (by omega));have J:=aa (a6.o.trans h);have b0:=h.gW;by_cases d4:x=0
 ·subst d4;obtain⟨⟨c0,c1,c2⟩,c3,c4,c5⟩:=I.o.c3;have d8:¬(9223372036854775807<o.size+1):=(by omega);have d2:=I.o.set (A':=#[Ud k,Ud m,.string (o++⟨#[97]⟩)]) (.string (o++⟨#[97]⟩)) (i:=2) (by show 2<3;omega) (λk=>match k with|0=>rfl|1=>rfl|2=>rfl|k+3=>rfl);have c8:=F.o.other (q:=D.1.size) (i:=2) (by omega) (.string (o++⟨#[97]⟩));have O:=aa (J.o.app (show Below w.1.size a1 (a1.setCell ⟨D.1.size,2,none⟩ (.string (o++⟨#[97]⟩))) from aZ.setCell (by show w.1.size<=D.1.size;omega) _) E.1 E.2);have Q:(o++⟨#[97]⟩:ByteArray).size<=101:=by rw[aK];show o.size+1<=101;omega
  obtain⟨⟨Y,Z,a0⟩,u0,u1,u2⟩:=F.o.c3;have U:=F.o.lt;have d0:¬(D.1.size=w.1.size):=(by omega);have d1:¬(w.1.size=D.1.size):=(by omega);go_wp2;refine bodyPost_ret (v:=.agg #[Ud k,Ud m,.string (o++⟨#[97]⟩)]) ?_ rfl ⟨_,_,_,rfl,Q,O.o.app (dM (aV w.1.size _) aQ (Ud k) (Ud m) (.string (o++⟨#[97]⟩))) E.1 E.2⟩;simp[results,results103,go_sem,Y,Z,a0,U]
 ·have d7:((x:Int)==0)=false:=by simp;omega
  by_cases d5:x=1
  ·subst d5;have a7:=aa (J.o.alloc (.cells #[Ud 1,Ud 4,Ud 3,Ud 2] 3));have b7:=aa (jC W (a1.alloc (.cells #[Ud 1,Ud 4,Ud 3,Ud 2] 3)) g a n c bs (some ⟨a1.1.size,0,none⟩) 4 4 [1,4,3,2] a7.o.1 (by omega) (by omega) (nV _ _ _ rfl (λj v c9=>by simpa[af] using c9) (by omega)) (λq e0 e=>by
    injection e with e
    injection e with c7
    omega))
   go_wp2_with fail;refine b7.o.mono ?_;rintro e c6 ⟨y,rfl,d6,h⟩;have a4:=aa ((F.o.alloc (.cells #[Ud 1,Ud 4,Ud 3,Ud 2] 3)).grown h.2 (by omega));have b9:=aa ((I.o.alloc (.cells #[Ud 1,Ud 4,Ud 3,Ud 2] 3)).grown h.2 (by omega));have b6:=aa (a7.o.trans h);have O:=aa (b6.o.app (show Below w.1.size c6 (c6.setCell ⟨D.1.size,0,none⟩ (Ud y)) from aZ.setCell (by show w.1.size<=D.1.size;omega) _) E.1 E.2);obtain⟨⟨c0,c1,c2⟩,c3,c4,c5⟩:=b9.o.c3;obtain⟨⟨Y,Z,a0⟩,u0,u1,u2⟩:=a4.o.c3;have U:=a4.o.lt;have Q:o.size<=101:=(by omega);have d0:¬(D.1.size=w.1.size):=(by omega);have d1:¬(w.1.size=D.1.size):=(by omega);go_wp2;refine bodyPost_ret (v:=.agg #[Ud y,Ud m,.string o]) ?_ rfl ⟨_,_,_,rfl,Q,O.o.app (dM (aV w.1.size _) aQ (Ud y) (Ud m) (.string o)) E.1 E.2⟩;simp[results,results103,go_sem,Y,Z,a0,U]
  ·have c7:((x:Int)==1)=false:=by simp;omega
   obtain⟨⟨c0,c1,c2⟩,c3,c4,c5⟩:=I.o.c3;obtain⟨⟨Y,Z,a0⟩,u0,u1,u2⟩:=F.o.c3;have U:=F.o.lt;have Q:o.size<=101:=(by omega);have O:=J;go_wp2;refine bodyPost_ret (v:=.agg #[Ud k,Ud m,.string o]) ?_ rfl ⟨_,_,_,rfl,Q,O.o.app (dM (aV w.1.size _) aQ (Ud k) (Ud m) (.string o)) E.1 E.2⟩;simp[results,results103,go_sem,Y,Z,a0,U]
theorem je.bel{W w D}{g}{a}{n c}{bs}(h:je W w D g a n c bs):Below W.1.size W D:=by
 obtain⟨⟨i,k,x⟩,_⟩:=h;exact x.bel
theorem Dw{w}{b q}{x y z h D E}{B}(J:bA w q #[x,y,z])(F:bA w b B)(I:b≠q):
 ((((w.setCell ⟨b,0,none⟩ h).setCell ⟨b,1,none⟩ D).setCell ⟨b,2,none⟩ E).cell? ⟨q,0,none⟩=some x/\(((w.setCell ⟨b,0,none⟩ h).setCell ⟨b,1,none⟩ D).setCell ⟨b,2,none⟩ E).cell? ⟨q,1,none⟩=some y/\(((w.setCell ⟨b,0,none⟩ h).setCell ⟨b,1,none⟩ D).setCell ⟨b,2,none⟩ E).cell? ⟨q,2,none⟩=some z)/\
 ((((w.setCell ⟨b,0,none⟩ h).setCell ⟨b,1,none⟩ D).setCell ⟨b,2,none⟩ E).frozen? ⟨b,0,none⟩=false/\(((w.setCell ⟨b,0,none⟩ h).setCell ⟨b,1,none⟩ D).setCell ⟨b,2,none⟩ E).frozen? ⟨b,1,none⟩=false/\(((w.setCell ⟨b,0,none⟩ h).setCell ⟨b,1,none⟩ D).setCell ⟨b,2,none⟩ E).frozen? ⟨b,2,none⟩=false):=
 ⟨(((J.other (i:=0) I h).other (i:=1) I D).other (i:=2) I E).c3.1,by simp only[dG];exact⟨F.froz 0,F.froz 1,F.froz 2⟩⟩

theorem SN{F}{args}{P}(h:∀w,Calls prog F args w (wI P w)):∃b,(b=true↔P)/\∀w,Calls prog F args w λe w'=>e= .returned (.bool b)/\Below w.1.size w w':=by
 by_cases D:P
 ·refine⟨true,by simp[D],λw=>(h w).mono ?_⟩;rintro e w' ⟨b,rfl,E,I⟩;have:b=true:=E.2 D;subst this;exact⟨rfl,I⟩
 ·refine⟨false,by simp[D],λw=>(h w).mono ?_⟩;rintro e w' ⟨b,rfl,E,I⟩;have:b=false:=by
   cases b
   ·rfl
   ·exact absurd (E.1 rfl) D
  subst this;exact⟨rfl,I⟩
def jA(o:ByteArray)(k n:Nat):Nat->Option Nat
 |0=>none
 |j+1=>match jA o k n j with
  |some r=>some r
  |none=>if(nG o k n (j+1)).isSome then some (j+1) else none
theorem zR{o:ByteArray}{k n j r:Nat}(h:jA o k n j=some r):∀q,jA o k n (j+q)=some r
 |0=>h
 |q+1=>by
  show jA o k n ((j+q)+1)=_
  rw[jA,zR h q]
theorem FZ{o:ByteArray}{k n r:Nat}:∀{j:Nat},jA o k n j=some r->r<=j
 |0,h=>by cases h
 |j+1,h=>by
  rw[jA] at h;cases hs:jA o k n j with
  |some q=>
   rw[hs] at h;injection h with h
   have:=FZ hs;omega
  |none=>
   rw[hs] at h;simp only at h;split at h
   ·injection h with h;omega
   ·cases h
def lp(o:ByteArray)(k n:Nat):Nat:=(jA o k n 4).getD 0
theorem Ar{o}{k n j}(h:jA o k n j=none)(F:(nG o k n (j+1)).isSome=true)(I:j<4):lp o k n=j+1:=by
 have E:jA o k n (j+1)=some (j+1):=by rw[jA,h];simp only[F,if_true]
 have D:=zR E (4-(j+1));rw[show j+1+(4-(j+1))=4 by omega] at D;unfold lp;rw[D];rfl
theorem Dj{o}{k n}(h:jA o k n 4=none):lp o k n=0:=by unfold lp;rw[h];rfl
theorem FY{o}{k n j}(h:jA o k n j=none)(D:nG o k n (j+1)=none):jA o k n (j+1)=none:=by rw[jA,h,D];rfl
theorem Dk(o)(k n):lp o k n<=4:=by
 unfold lp;cases h:jA o k n 4 with
 |none=>simp
 |some r=>exact FZ h
def mh(r:Option (List UInt8)):Value:=match r with
 |some l=>if l.length<=8 then .tuple #[.string (gQ l),.bool true] else .tuple #[.string ⟨#[]⟩,.bool false]
 |none=> .tuple #[.string ⟨#[]⟩,.bool false]
def uJ(o:ByteArray)(k n:Nat):Option (List UInt8):=jI (λs a=>tW o k (eC k (n-1)) s a) k (2^eC k (n-1)-1)
theorem qZ(k n:Nat)(o)(w)(b3:o.size<=maxLen)(h:du k n o=true):
 Calls prog 77 #[.agg #[Ud k,Ud n,.string o]] w λe w'=>e= .returned (Ud (lp o k n:Int))/\Below w.1.size w w':=by
 obtain⟨b6,b7,b0,b2,_⟩:=mj h;have a7:=aa (λ(m:Nat) (w:World) (a8:1<=m) (a9:m<=4)=>rJ k n m o w b3 h a8 a9);have a1:=aa (λ(j:Nat) (a0:jA o k n j=none) (E:(nG o k n (j+1)).isSome=true) (a3:j<4)=>Ar a0 E a3);have a2:=aa (λ(a0:jA o k n 4=none)=>Dj a0);obtain⟨V,D⟩:=aB (lp o k n);rw[<-D] at a1 a2;rw[<-D];clear h b0 b2 D;go_enter func77,ntmps77;have Y:=aa (λ(V:World) (D:Below (w.1.size+1) (w.alloc (.cells #[Ud k,Ud n,.string o] 31)) V)=>show(V.cell? ⟨w.1.size,0,none⟩=some (Ud k)/\V.cell? ⟨w.1.size,1,none⟩=some (Ud n)/\V.cell? ⟨w.1.size,2,none⟩=some (.string o))/\Below w.1.size w V from⟨⟨(cV D 0).1,(cV D 1).1,(cV D 2).1⟩,(aZ.alloc aQ _).trans (D.mono (by omega))⟩);go_wp2;go_loopw[3] (λi wr=>∃j:Nat,j<=4/\i= Ud ((j:Int)+1)/\bv (jA o k n j=none)/\bv (Below (w.1.size+1) (w.alloc (.cells #[Ud k,Ud n,.string o] 31)) wr)) (λi _=>5-(intOf i).toNat);exact⟨0,by omega,rfl,aa rfl,aa (by have:=aV (w.alloc (.cells #[Ud k,Ud n,.string o] 31)).1.size (w.alloc (.cells #[Ud k,Ud n,.string o] 31));rw[dj] at this;exact this)⟩;obtain⟨j,a3,rfl,Z,J⟩:=hrel;by_cases b1:j<4
 ·have b5:(j:Int)+1<=4:=by omega
  obtain⟨⟨a4,a5,a6⟩,_⟩:=Y.o wr J.o;have F:=aa (λw=>a7.o (j+1) w (by omega) (by omega));have Q:((j+1:Nat):Int)=(j:Int)+1:=(by omega);have U:w.1.size+1<=wr.1.size:=by have:=J.o.size;rw[dj] at this;exact this
  cases E:nG o k n (j+1) with
  |none=>
   rw[E,Q] at F;simp only[LC] at F;have O:=aa (FY Z.o E);clear E Q;go_wp2_with fail;refine(F.o _).mono ?_;rintro e b4 ⟨rfl,I⟩;have W:=aa ((J.o.trans (I.mono U)).alloc (bn U I.size) (.cells #[Ud 0,Ud 0,.string ⟨#[]⟩] 31));clear I a4 a5 a6;go_wp2;go_roundw;exact⟨j+1,by omega,by go_num,O,W⟩;simp[intOf];omega
  |some r=>
   obtain⟨q,s⟩:=r;have O:=aa (a1.o j Z.o (by rw[E];rfl) b1);rw[E,Q] at F;simp only[LC] at F;rw[Q] at F;clear E Q;go_wp2_with fail;refine(F.o _).mono ?_;rintro e b4 ⟨rfl,I⟩;have W:=aa ((J.o.trans (I.mono U)).alloc (bn U I.size) (.cells #[Ud k,Ud ((j:Int)+1),.string s] 31));clear I a4 a5 a6;go_wp2;go_ret;exact⟨cW (by rw[O.o];first|done|omega),(Y.o _ W.o).2⟩
 ·obtain rfl:j=4:=by omega
  have O:=aa (a2.o Z.o);go_wp2;go_ret;exact⟨cW (by rw[O.o];rfl),(Y.o _ J.o).2⟩
theorem rg(k n:Nat)(o)(w)(b3:o.size<=maxLen)(h:du k n o=true):
 Calls prog 73 #[.agg #[Ud k,Ud n,.string o]] w λe w'=>e= .returned (Ud (lp o k n:Int))/\Below w.1.size w w':=by
 obtain⟨b6,b7,b0,b2,_⟩:=mj h;have a7:=aa (λ(m:Nat) (w:World) (a8:1<=m) (a9:m<=4)=>sp k n m o w b3 h a8 a9);have a1:=aa (λ(j:Nat) (a0:jA o k n j=none) (E:(nG o k n (j+1)).isSome=true) (a3:j<4)=>Ar a0 E a3);have a2:=aa (λ(a0:jA o k n 4=none)=>Dj a0);obtain⟨V,D⟩:=aB (lp o k n);rw[<-D] at a1 a2;rw[<-D];clear h b0 b2 D;go_enter func73,ntmps73;have Y:=aa (λ(V:World) (D:Below (w.1.size+1) (w.alloc (.cells #[Ud k,Ud n,.string o] 31)) V)=>show(V.cell? ⟨w.1.size,0,none⟩=some (Ud k)/\V.cell? ⟨w.1.size,1,none⟩=some (Ud n)/\V.cell? ⟨w.1.size,2,none⟩=some (.string o))/\Below w.1.size w V from⟨⟨(cV D 0).1,(cV D 1).1,(cV D 2).1⟩,(aZ.alloc aQ _).trans (D.mono (by omega))⟩);go_wp2;go_loopw[3] (λi wr=>∃j:Nat,j<=4/\i= Ud ((j:Int)+1)/\bv (jA o k n j=none)/\bv (Below (w.1.size+1) (w.alloc (.cells #[Ud k,Ud n,.string o] 31)) wr)) (λi _=>5-(intOf i).toNat);exact⟨0,by omega,rfl,aa rfl,aa (by have:=aV (w.alloc (.cells #[Ud k,Ud n,.string o] 31)).1.size (w.alloc (.cells #[Ud k,Ud n,.string o] 31));rw[dj] at this;exact this)⟩;obtain⟨j,a3,rfl,Z,J⟩:=hrel;by_cases b1:j<4
 ·have b5:(j:Int)+1<=4:=by omega
  obtain⟨⟨a4,a5,a6⟩,_⟩:=Y.o wr J.o;have F:=aa (λw=>a7.o (j+1) w (by omega) (by omega));have Q:((j+1:Nat):Int)=(j:Int)+1:=(by omega);have U:w.1.size+1<=wr.1.size:=by have:=J.o.size;rw[dj] at this;exact this
  cases E:nG o k n (j+1) with
  |none=>
   rw[E,Q] at F;simp only[LC] at F;have O:=aa (FY Z.o E);clear E Q;go_wp2_with fail;refine(F.o _).mono ?_;rintro e b4 ⟨rfl,I⟩;have W:=aa ((J.o.trans (I.mono U)).alloc (bn U I.size) (.cells #[Ud 0,Ud 0,.string ⟨#[]⟩] 31));clear I a4 a5 a6;go_wp2;go_roundw;exact⟨j+1,by omega,by go_num,O,W⟩;simp[intOf];omega
  |some r=>
   obtain⟨q,s⟩:=r;have O:=aa (a1.o j Z.o (by rw[E];rfl) b1);rw[E,Q] at F;simp only[LC] at F;rw[Q] at F;clear E Q;go_wp2_with fail;refine(F.o _).mono ?_;rintro e b4 ⟨rfl,I⟩;have W:=aa ((J.o.trans (I.mono U)).alloc (bn U I.size) (.cells #[Ud k,Ud ((j:Int)+1),.string s] 31));clear I a4 a5 a6;go_wp2;go_ret;exact⟨cW (by rw[O.o];first|done|omega),(Y.o _ W.o).2⟩
 ·obtain rfl:j=4:=by omega
  have O:=aa (a2.o Z.o);go_wp2;go_ret;exact⟨cW (by rw[O.o];rfl),(Y.o _ J.o).2⟩
theorem BO(k n:Nat)(o)(w)(a3:o.size<=maxLen)(h:du k n o=true):
 Calls prog 74 #[.agg #[Ud k,Ud n,.string o]] w λe w'=>e= .returned (.bool (uJ o k n).isNone)/\Below w.1.size w w':=by
 have D:=xI h;have J:=D.k23;have O:=D.n1;have Q:=D.n4;obtain⟨U,W,Y⟩:=lT J O Q D.fits;have F:=aa (λw:World=>gh k n o w a3);rw[h] at F;have I:=aa (λw:World=>pm k n o w J O Q _ rfl W U (by rw[D.size,Y]));obtain⟨b,v,Z,E⟩:∃(b:Bool) (v:ByteArray),oJ o k (eC k (n-1))= .tuple #[.string v,.bool b]/\(uJ o k n).isNone= !b:=by
  cases hs:uJ o k n with
  |some r=>exact⟨true,_,lV hs,rfl⟩
  |none=>exact⟨false,_,lW hs,rfl⟩
 rw[Z] at I;rw[E];clear E Z U W Y D h J O Q;go_enter func74,ntmps74;go_wp2_with fail;refine(F.o _).mono ?_;rintro e a7 ⟨rfl,E⟩;obtain⟨⟨a4,a5,a6⟩,_,a8⟩:=yV E;have a0:Below w.1.size w a7:=(aZ.alloc aQ _).trans (E.mono (by simp));clear E F;go_wp2_with fail;refine(I.o _).mono ?_;rintro e a9 ⟨rfl,a1⟩;have a2:=bs a0 a1;clear I a4 a5 a6;cases b;all_goals
  go_wp2
  go_ret
  exact⟨rfl,a2⟩
theorem Cd(k n:Nat)(o)(w)(a3:o.size<=maxLen)(h:du k n o=true):
 Calls prog 70 #[.agg #[Ud k,Ud n,.string o]] w λe w'=>e= .returned (.bool (uJ o k n).isNone)/\Below w.1.size w w':=by
 have D:=xI h;have J:=D.k23;have O:=D.n1;have Q:=D.n4;obtain⟨U,W,Y⟩:=lT J O Q D.fits;have F:=aa (λw:World=>jf k n o w a3);rw[h] at F;have I:=aa (λw:World=>ud k n o w J O Q _ rfl W U (by rw[D.size,Y]) D.lw);obtain⟨b,v,Z,E⟩:∃(b:Bool) (v:ByteArray),oJ o k (eC k (n-1))= .tuple #[.string v,.bool b]/\(uJ o k n).isNone= !b:=by
  cases hs:uJ o k n with
  |some r=>exact⟨true,_,lV hs,rfl⟩
  |none=>exact⟨false,_,lW hs,rfl⟩
 rw[Z] at I;rw[E];clear E Z U W Y D h J O Q;go_enter func70,ntmps70;go_wp2_with fail;refine(F.o _).mono ?_;rintro e a7 ⟨rfl,E⟩;obtain⟨⟨a4,a5,a6⟩,_,a8⟩:=yV E;have a0:Below w.1.size w a7:=(aZ.alloc aQ _).trans (E.mono (by simp));clear E F;go_wp2_with fail;refine(I.o _).mono ?_;rintro e a9 ⟨rfl,a1⟩;have a2:=bs a0 a1;clear I a4 a5 a6;cases b;all_goals
  go_wp2
  go_ret
  exact⟨rfl,a2⟩
theorem uy(k n:Nat)(o)(w)(b3:o.size<=maxLen)(h:du k n o=true):
 Calls prog 75 #[.agg #[Ud k,Ud n,.string o]] w λe w'=>e= .returned (mh (uJ o k n))/\Below w.1.size w w':=by
 have F:=xI h;have Y:=F.k23;have Z:=F.n1;have a0:=F.n4;obtain⟨a7,a8,a9⟩:=lT Y Z a0 F.fits;have I:=aa (λw:World=>gh k n o w b3);rw[h] at I;have E:=aa (λw:World=>pm k n o w Y Z a0 _ rfl a8 a7 (by rw[F.size,a9]));cases hs:uJ o k n with
 |none=>
  have J:=lW hs;rw[J] at E;have O:=aa (show mh none= .tuple #[.string ⟨#[]⟩,.bool false] from rfl);clear J hs a7 a8 a9 F h Y Z a0;go_enter func75,ntmps75;go_wp2_with fail;refine(I.o _).mono ?_;rintro e a5 ⟨rfl,D⟩;obtain⟨⟨a2,a3,a4⟩,_,b1⟩:=yV D;have Q:Below w.1.size w a5:=(aZ.alloc aQ _).trans (D.mono (by simp));clear D I;go_wp2_with fail;refine(E.o _).mono ?_;rintro e b2 ⟨rfl,U⟩;have W:=bs Q U;clear E a2 a3 a4;go_wp2;go_ret2;exact⟨by rw[O.o];rfl,W⟩
 |some r=>
  have J:=lV hs;rw[J] at E;obtain⟨x,a1⟩:=aB (gQ r);have b0:x.size=r.length:=by rw[a1,ku]
  rw[<-a1] at E;by_cases a6:r.length<=8
  ·have O:=aa (show mh (some r)= .tuple #[.string x,.bool true] by rw[mh,if_pos a6,a1]);have b4:¬((8:Int)<(x.size:Int)):=(by omega);clear J hs a7 a8 a9 F h Y Z a0 a1 b0 a6;go_enter func75,ntmps75;go_wp2_with fail;refine(I.o _).mono ?_;rintro e a5 ⟨rfl,D⟩;obtain⟨⟨a2,a3,a4⟩,_,b1⟩:=yV D;have Q:Below w.1.size w a5:=(aZ.alloc aQ _).trans (D.mono (by simp));clear D I;go_wp2_with fail;refine(E.o _).mono ?_;rintro e b2 ⟨rfl,U⟩;have W:=bs Q U;clear E a2 a3 a4;go_wp2;go_ret2;exact⟨by rw[O.o];rfl,W⟩
  ·have O:=aa (show mh (some r)= .tuple #[.string ⟨#[]⟩,.bool false] by rw[mh,if_neg a6]);have b4:(8:Int)<(x.size:Int):=(by omega);clear J hs a7 a8 a9 F h Y Z a0 a1 b0 a6;go_enter func75,ntmps75;go_wp2_with fail;refine(I.o _).mono ?_;rintro e a5 ⟨rfl,D⟩;obtain⟨⟨a2,a3,a4⟩,_,b1⟩:=yV D;have Q:Below w.1.size w a5:=(aZ.alloc aQ _).trans (D.mono (by simp));clear D I;go_wp2_with fail;refine(E.o _).mono ?_;rintro e b2 ⟨rfl,U⟩;have W:=bs Q U;clear E a2 a3 a4;go_wp2;go_ret2;exact⟨by rw[O.o];rfl,W⟩
theorem uR(k n:Nat)(o)(w)(b3:o.size<=maxLen)(h:du k n o=true):
 Calls prog 71 #[.agg #[Ud k,Ud n,.string o]] w λe w'=>e= .returned (mh (uJ o k n))/\Below w.1.size w w':=by
 have F:=xI h;have Y:=F.k23;have Z:=F.n1;have a0:=F.n4;obtain⟨a7,a8,a9⟩:=lT Y Z a0 F.fits;have I:=aa (λw:World=>jf k n o w b3);rw[h] at I;have E:=aa (λw:World=>ud k n o w Y Z a0 _ rfl a8 a7 (by rw[F.size,a9]) F.lw);cases hs:uJ o k n with
 |none=>
  have J:=lW hs;rw[J] at E;have O:=aa (show mh none= .tuple #[.string ⟨#[]⟩,.bool false] from rfl);clear J hs a7 a8 a9 F h Y Z a0;go_enter func71,ntmps71;go_wp2_with fail;refine(I.o _).mono ?_;rintro e a5 ⟨rfl,D⟩;obtain⟨⟨a2,a3,a4⟩,_,b1⟩:=yV D;have Q:Below w.1.size w a5:=(aZ.alloc aQ _).trans (D.mono (by simp));clear D I;go_wp2_with fail;refine(E.o _).mono ?_;rintro e b2 ⟨rfl,U⟩;have W:=bs Q U;clear E a2 a3 a4;go_wp2;go_ret2;exact⟨by rw[O.o];rfl,W⟩
 |some r=>
  have J:=lV hs;rw[J] at E;obtain⟨x,a1⟩:=aB (gQ r);have b0:x.size=r.length:=by rw[a1,ku]
  rw[<-a1] at E;by_cases a6:r.length<=8
  ·have O:=aa (show mh (some r)= .tuple #[.string x,.bool true] by rw[mh,if_pos a6,a1]);have b4:¬((8:Int)<(x.size:Int)):=(by omega);clear J hs a7 a8 a9 F h Y Z a0 a1 b0 a6;go_enter func71,ntmps71;go_wp2_with fail;refine(I.o _).mono ?_;rintro e a5 ⟨rfl,D⟩;obtain⟨⟨a2,a3,a4⟩,_,b1⟩:=yV D;have Q:Below w.1.size w a5:=(aZ.alloc aQ _).trans (D.mono (by simp));clear D I;go_wp2_with fail;refine(E.o _).mono ?_;rintro e b2 ⟨rfl,U⟩;have W:=bs Q U;clear E a2 a3 a4;go_wp2;go_ret2;exact⟨by rw[O.o];rfl,W⟩
  ·have O:=aa (show mh (some r)= .tuple #[.string ⟨#[]⟩,.bool false] by rw[mh,if_neg a6]);have b4:(8:Int)<(x.size:Int):=(by omega);clear J hs a7 a8 a9 F h Y Z a0 a1 b0 a6;go_enter func71,ntmps71;go_wp2_with fail;refine(I.o _).mono ?_;rintro e a5 ⟨rfl,D⟩;obtain⟨⟨a2,a3,a4⟩,_,b1⟩:=yV D;have Q:Below w.1.size w a5:=(aZ.alloc aQ _).trans (D.mono (by simp));clear D I;go_wp2_with fail;refine(E.o _).mono ?_;rintro e b2 ⟨rfl,U⟩;have W:=bs Q U;clear E a2 a3 a4;go_wp2;go_ret2;exact⟨by rw[O.o];rfl,W⟩
def ug(r:Option (List UInt8)):ByteArray:=match r with
 |none=>⟨#[111,110,116,111]⟩
 |some l=>⟨#[110,111,116,32,111,110,116,111,32]⟩++(if l.length<=8 then gQ l else⟨#[63]⟩)
def TQ(b:Bool):ByteArray:=if b then⟨#[111,110,101,32,116,111,32,111,110,101]⟩ else⟨#[110,111,116,32,111,110,101,32,116,111,32,111,110,101]⟩
theorem Az(a b d):dv [a,b,⟨#[117,110,100,111]⟩,d] ⟨#[32]⟩=a++(⟨#[32]⟩++b)++⟨#[32,117,110,100,111,32]⟩++d:=by
 apply Fb;simp[dv,Lib.join,mW,Fc]
def uh(r:Option (List UInt8))(b:Bool)(u:Nat):ByteArray:=dv [ug r,TQ b,⟨#[117,110,100,111]⟩,cF (u:Int)] ⟨#[32]⟩
theorem AO(r):(ug r).size<=17:=by
 cases r with
 |none=>show 4<=17;omega
 |some l=>
  unfold ug;simp only;split
  ·rw[aK,ku];show 9+_<=_
   omega
  ·rw[aK];show 9+1<=_
   omega
theorem DE(u:Nat)(h:u<=4):(cF (u:Int)).size=1:=by
 have:∀u:Nat,u<5->(cF (u:Int)).size=1:=by decide+kernel
 exact this u (by omega)
theorem yr(l):mh (some l)=if l.length<=8 then .tuple #[.string (gQ l),.bool true] else .tuple #[.string ⟨#[]⟩,.bool false]:=rfl
theorem re(k n)(o)(b)(b5:b=true↔tU o k n)(w)(a1:o.size<=maxLen)(h:du k n o=true):
 Calls prog 16 #[.agg #[Ud k,Ud n,.string o]] w λe w'=>e= .returned (.string (uh (uJ o k n) b (lp o k n)))/\Below w.1.size w w':=by
 have a8:=aa (λw:World=>gh k n o w a1);rw[h] at a8;have a3:=aa (λw:World=>BO k n o w a1 h);have U:=aa (λw:World=>uy k n o w a1 h);have b3:=aa (λw:World=>show Calls prog 76 #[.agg #[Ud k,Ud n,.string o]] w λe w'=>e= .returned (.bool b)/\Below w.1.size w w' from(mZ k n o w a1 h).mono (by
  rintro e w' ⟨b7,rfl,c1,c2⟩;have:b7=b:=by rw[bF,c1,b5]
  subst this;exact⟨rfl,c2⟩))
 have a4:=aa (λw:World=>qZ k n o w a1 h);obtain⟨u,a6⟩:=aB (lp o k n);have c3:u<=4:=by rw[a6];exact Dk o k n
 rw[<-a6] at a4;rw[<-a6];have a2:=aa (λw:World=>dy (u:Int) w (by omega) (by omega));obtain⟨f,a5⟩:=aB (cF (u:Int));have d0:f.size=1:=by rw[a5];exact DE u c3
 rw[<-a5] at a2;have b4:=aa a5;obtain⟨r,b0⟩:=aB (uJ o k n);rw[<-b0] at a3 U;rw[<-b0];have O:=aa (λ(V:World) (Y:Below (w.1.size+1) (w.alloc (.cells #[Ud k,Ud n,.string o] 31)) V)=>show(V.cell? ⟨w.1.size,0,none⟩=some (Ud k)/\V.cell? ⟨w.1.size,1,none⟩=some (Ud n)/\V.cell? ⟨w.1.size,2,none⟩=some (.string o))/\Below w.1.size w V from⟨⟨(cV Y 0).1,(cV Y 1).1,(cV Y 2).1⟩,(aZ.alloc aQ _).trans (Y.mono (by omega))⟩);have Q:=aa (λ(V:World) (Y:Below (w.1.size+1) (w.alloc (.cells #[Ud k,Ud n,.string o] 31)) V)=>show w.1.size+1<=V.1.size from by have:=Y.size;rw[dj] at this;exact this);clear b0 a5 a6 h b5;go_enter func16,ntmps16;go_wp2_with fail;refine(a8.o _).mono ?_;rintro e c4 ⟨rfl,E⟩;have D:=aa (show Below (w.1.size+1) (w.alloc (.cells #[Ud k,Ud n,.string o] 31)) c4 from E.mono (by simp));clear E a8;obtain⟨x,b1⟩:=aB (ug r);have b2:x.size<=17:=by rw[b1];exact AO r
 have Z:=aa b1;clear b1;obtain⟨F,I,J⟩:=(O.o _ D.o).1;go_wp2_with fail;clear F I J;refine(a3.o _).mono ?_;rintro e d3 ⟨rfl,E⟩;have D:=aa (D.o.trans (E.mono (Q.o _ D.o)));clear E;go_upto_if 11 with fail
 go_cut[3,4,5] from 12 to 20 (λc9 _ _ c8=>c9= .string x/\bv (Below (w.1.size+1) (w.alloc (.cells #[Ud k,Ud n,.string o] 31)) c8))
 case first=>
  clear a3 b3 a4 a2;cases r with
  |none=>
   have b6:x=⟨#[111,110,116,111]⟩:=Z.o;have a0:=aa b6;clear b6 b2;go_wp2;go_meet;case rel=>exact⟨by rw[a0.o],D⟩
  |some l=>
   rw[yr] at U;by_cases W:l.length<=8
   ·rw[if_pos W] at U;obtain⟨y,a7⟩:=aB (gQ l);have d2:y.size<=8:=by rw[a7,ku];exact W
    have d1:¬((9223372036854775807:Int)<9+(y.size:Int)):=(by omega);rw[<-a7] at U;have a0:=aa (show x=⟨#[110,111,116,32,111,110,116,111,32]⟩++y by rw[Z.o,ug,if_pos W,a7]);clear b2 a7 W;obtain⟨F,I,J⟩:=(O.o _ D.o).1;go_wp2_with fail;clear F I J;refine(U.o _).mono ?_;rintro e c5 ⟨rfl,E⟩;have D:=aa (D.o.trans (E.mono (Q.o _ D.o)));clear E;go_wp2;go_meet;case rel=>exact⟨by rw[a0.o],D⟩
   ·rw[if_neg W] at U;have a0:=aa (show x=⟨#[110,111,116,32,111,110,116,111,32,63]⟩ by rw[Z.o,ug,if_neg W];rfl);clear b2 W;obtain⟨F,I,J⟩:=(O.o _ D.o).1;go_wp2_with fail;clear F I J;refine(U.o _).mono ?_;rintro e c5 ⟨rfl,E⟩;have D:=aa (D.o.trans (E.mono (Q.o _ D.o)));clear E;go_wp2;go_meet;case rel=>exact⟨by rw[a0.o];first|done|rfl,D⟩
 case rest=>
  obtain⟨rfl,D⟩:=hcut;clear U a3;obtain⟨F,I,J⟩:=(O.o _ D.o).1;go_wp2_with fail;clear F I J;refine(b3.o _).mono ?_;rintro e d4 ⟨rfl,E⟩;have D:=aa (D.o.trans (E.mono (Q.o _ D.o)));clear E;cases b
  ·have b8:¬((9223372036854775807:Int)<(x.size:Int)+15):=by omega
   have b9:¬((9223372036854775807:Int)<(x.size:Int)+15+6):=(by omega);have c0:¬((9223372036854775807:Int)<(x.size:Int)+15+6+1):=(by omega);have a9:=aa (show uh r false u=x++⟨#[32,110,111,116,32,111,110,101,32,116,111,32,111,110,101]⟩++⟨#[32,117,110,100,111,32]⟩++f by unfold uh;rw[Az,<-Z.o,<-b4.o];rfl);obtain⟨F,I,J⟩:=(O.o _ D.o).1;go_wp2_with fail;clear F I J;refine(a4.o _).mono ?_;rintro e c6 ⟨rfl,E⟩;have D:=aa (D.o.trans (E.mono (Q.o _ D.o)));clear E;go_wp2_with fail;refine(a2.o _).mono ?_;rintro e c7 ⟨rfl,E⟩;have D:=aa (D.o.trans (E.mono (Q.o _ D.o)));clear E;go_wp2;go_ret;exact⟨by rw[a9.o];rfl,(O.o _ D.o).2⟩
  ·have b8:¬((9223372036854775807:Int)<(x.size:Int)+11):=by omega
   have b9:¬((9223372036854775807:Int)<(x.size:Int)+11+6):=(by omega);have c0:¬((9223372036854775807:Int)<(x.size:Int)+11+6+1):=(by omega);have a9:=aa (show uh r true u=x++⟨#[32,111,110,101,32,116,111,32,111,110,101]⟩++⟨#[32,117,110,100,111,32]⟩++f by unfold uh;rw[Az,<-Z.o,<-b4.o];rfl);obtain⟨F,I,J⟩:=(O.o _ D.o).1;go_wp2_with fail;clear F I J;refine(a4.o _).mono ?_;rintro e c6 ⟨rfl,E⟩;have D:=aa (D.o.trans (E.mono (Q.o _ D.o)));clear E;go_wp2_with fail;refine(a2.o _).mono ?_;rintro e c7 ⟨rfl,E⟩;have D:=aa (D.o.trans (E.mono (Q.o _ D.o)));clear E;go_wp2;go_ret;exact⟨by rw[a9.o];rfl,(O.o _ D.o).2⟩
theorem rk(k n)(o)(b)(b9:b=true↔tU o k n)(w)(a2:o.size<=maxLen)(h:du k n o=true)(c0:qP w):
 Calls prog 15 #[.agg #[Ud k,Ud n,.string o]] w λe w'=>e= .returned (.string (uh (uJ o k n) b (lp o k n)))/\Below w.1.size w w':=by
 have b0:=aa (λw:World=>jf k n o w a2);rw[h] at b0;have a4:=aa (λw:World=>Cd k n o w a2 h);have W:=aa (λw:World=>uR k n o w a2 h);have b7:=aa (λw:World=>show Calls prog 72 #[.agg #[Ud k,Ud n,.string o]] w λe w'=>e= .returned (.bool b)/\Below w.1.size w w' from(tR k n o w a2 h).mono (by
  rintro e w' ⟨c2,rfl,c5,c6⟩;have:c2=b:=by rw[bF,c5,b9]
  subst this;exact⟨rfl,c6⟩))
 have a5:=aa (λw:World=>rg k n o w a2 h);obtain⟨u,a7⟩:=aB (lp o k n);have c7:u<=4:=by rw[a7];exact Dk o k n
 rw[<-a7] at a5;rw[<-a7];have F:=aa (λ(V:World) (Y:Below (w.1.size+1) (w.alloc (.cells #[Ud k,Ud n,.string o] 31)) V)=>show(V.cell? ⟨w.1.size,0,none⟩=some (Ud k)/\V.cell? ⟨w.1.size,1,none⟩=some (Ud n)/\V.cell? ⟨w.1.size,2,none⟩=some (.string o))/\Below w.1.size w V from⟨⟨(cV Y 0).1,(cV Y 1).1,(cV Y 2).1⟩,(aZ.alloc aQ _).trans (Y.mono (by omega))⟩);have a3:=aa (λ(V:World) (Y:Below (w.1.size+1) (w.alloc (.cells #[Ud k,Ud n,.string o] 31)) V)=>dU (u:Int) V ⟨by omega,by omega⟩ (gt c0 (F.o V Y).2 aQ));obtain⟨f,a6⟩:=aB (cF (u:Int));have d4:f.size=1:=by rw[a6];exact DE u c7
 rw[<-a6] at a3;have b8:=aa a6;obtain⟨r,b4⟩:=aB (uJ o k n);rw[<-b4] at a4 W;rw[<-b4];have U:=aa (λ(V:World) (Y:Below (w.1.size+1) (w.alloc (.cells #[Ud k,Ud n,.string o] 31)) V)=>show w.1.size+1<=V.1.size from by have:=Y.size;rw[dj] at this;exact this);clear b4 a6 a7 h b9 c0;go_enter func15,ntmps15;go_wp2_with fail;refine(b0.o _).mono ?_;rintro e c8 ⟨rfl,E⟩;have D:=aa (show Below (w.1.size+1) (w.alloc (.cells #[Ud k,Ud n,.string o] 31)) c8 from E.mono (by simp));clear E b0;obtain⟨x,b5⟩:=aB (ug r);have b6:x.size<=17:=by rw[b5];exact AO r
 have a0:=aa b5;clear b5;obtain⟨I,J,O⟩:=(F.o _ D.o).1;go_wp2_with fail;clear I J O;refine(a4.o _).mono ?_;rintro e d7 ⟨rfl,E⟩;have D:=aa (D.o.trans (E.mono (U.o _ D.o)));clear E;go_upto_if 12 with fail
 go_cut[3,4,5] from 13 to 21 (λd3 _ _ d2=>d3= .string x/\bv (Below (w.1.size+1) (w.alloc (.cells #[Ud k,Ud n,.string o] 31)) d2))
 case first=>
  clear a4 b7 a5 a3;cases r with
  |none=>
   have c1:x=⟨#[111,110,116,111]⟩:=a0.o;have a1:=aa c1;clear c1 b6;go_wp2;go_meet;case rel=>exact⟨by rw[a1.o],D⟩
  |some l=>
   rw[yr] at W;by_cases Z:l.length<=8
   ·rw[if_pos Z] at W;obtain⟨y,a8⟩:=aB (gQ l);have d6:y.size<=8:=by rw[a8,ku];exact Z
    have d5:¬((9223372036854775807:Int)<9+(y.size:Int)):=(by omega);rw[<-a8] at W;have a1:=aa (show x=⟨#[110,111,116,32,111,110,116,111,32]⟩++y by rw[a0.o,ug,if_pos Z,a8]);clear b6 a8 Z;obtain⟨I,J,O⟩:=(F.o _ D.o).1;go_wp2_with fail;clear I J O;refine(W.o _).mono ?_;rintro e c9 ⟨rfl,E⟩;have D:=aa (D.o.trans (E.mono (U.o _ D.o)));clear E;go_wp2;go_meet;case rel=>exact⟨by rw[a1.o],D⟩
   ·rw[if_neg Z] at W;have a1:=aa (show x=⟨#[110,111,116,32,111,110,116,111,32,63]⟩ by rw[a0.o,ug,if_neg Z];rfl);clear b6 Z;obtain⟨I,J,O⟩:=(F.o _ D.o).1;go_wp2_with fail;clear I J O;refine(W.o _).mono ?_;rintro e c9 ⟨rfl,E⟩;have D:=aa (D.o.trans (E.mono (U.o _ D.o)));clear E;go_wp2;go_meet;case rel=>exact⟨by rw[a1.o];first|done|rfl,D⟩
 case rest=>
  obtain⟨rfl,D⟩:=hcut;clear W a4;obtain⟨I,J,O⟩:=(F.o _ D.o).1;go_wp2_with fail;clear I J O;refine(b7.o _).mono ?_;rintro e d8 ⟨rfl,E⟩;have D:=aa (D.o.trans (E.mono (U.o _ D.o)));clear E;cases b
  ·have b1:=aa (show uh r false u=dv [x,⟨#[110,111,116,32,111,110,101,32,116,111,32,111,110,101]⟩,⟨#[117,110,100,111]⟩,f] ⟨#[32]⟩ by unfold uh;rw[<-a0.o,<-b8.o];rfl);obtain⟨I,J,O⟩:=(F.o _ D.o).1;go_wp2_with fail;clear I J O;refine(a5.o _).mono ?_;rintro e d0 ⟨rfl,E⟩;have D:=aa (D.o.trans (E.mono (U.o _ D.o)));clear E;go_wp2_with fail;refine(a3.o _ D.o).mono ?_;rintro e Q ⟨rfl,E⟩;have D:=aa (D.o.trans (E.mono (U.o _ D.o)));clear E;have b3:=bd (w:=Q) (base:=Q.1.size) (e:=9) #[.string x,.string ⟨#[110,111,116,32,111,110,101,32,116,111,32,111,110,101]⟩,.string ⟨#[117,110,100,111]⟩,.string f] (ap [x,⟨#[110,111,116,32,111,110,101,32,116,111,32,111,110,101]⟩,⟨#[117,110,100,111]⟩,f]) rfl aQ (by unfold maxLen;simp);go_wp2_with fail;refine(xp Q.1.size Q.1.size 4 4 [x,⟨#[110,111,116,32,111,110,101,32,116,111,32,111,110,101]⟩,⟨#[117,110,100,111]⟩,f] _ rfl b3 (by omega) (by
    have b2:=ts ([x,⟨#[110,111,116,32,111,110,101,32,116,111,32,111,110,101]⟩,(⟨#[117,110,100,111]⟩:ByteArray),f].map mW) [32];simp only[ej,lD,Lib.lens,jh,List.sum_nil,mW,bM,cZ,gZ] at b2⊢;have c3:(ByteArray.mk #[117,110,100,111]).size=4:=rfl;have c4:(⟨#[110,111,116,32,111,110,101,32,116,111,32,111,110,101]⟩:ByteArray).size<=14:=(by decide);omega)).mono ?_
   rintro e d1 ⟨rfl,E⟩;have a9:=aa (((F.o _ D.o).2.alloc ((F.o _ D.o).2.size) _).trans (E.mono (by have:=(F.o _ D.o).2.size;simp;omega)));go_wp2;go_ret;exact⟨by rw[b1.o];rfl,a9.o⟩
  ·have b1:=aa (show uh r true u=dv [x,⟨#[111,110,101,32,116,111,32,111,110,101]⟩,⟨#[117,110,100,111]⟩,f] ⟨#[32]⟩ by unfold uh;rw[<-a0.o,<-b8.o];rfl);obtain⟨I,J,O⟩:=(F.o _ D.o).1;go_wp2_with fail;clear I J O;refine(a5.o _).mono ?_;rintro e d0 ⟨rfl,E⟩;have D:=aa (D.o.trans (E.mono (U.o _ D.o)));clear E;go_wp2_with fail;refine(a3.o _ D.o).mono ?_;rintro e Q ⟨rfl,E⟩;have D:=aa (D.o.trans (E.mono (U.o _ D.o)));clear E;have b3:=bd (w:=Q) (base:=Q.1.size) (e:=9) #[.string x,.string ⟨#[111,110,101,32,116,111,32,111,110,101]⟩,.string ⟨#[117,110,100,111]⟩,.string f] (ap [x,⟨#[111,110,101,32,116,111,32,111,110,101]⟩,⟨#[117,110,100,111]⟩,f]) rfl aQ (by unfold maxLen;simp);go_wp2_with fail;refine(xp Q.1.size Q.1.size 4 4 [x,⟨#[111,110,101,32,116,111,32,111,110,101]⟩,⟨#[117,110,100,111]⟩,f] _ rfl b3 (by omega) (by
    have b2:=ts ([x,⟨#[111,110,101,32,116,111,32,111,110,101]⟩,(⟨#[117,110,100,111]⟩:ByteArray),f].map mW) [32];simp only[ej,lD,Lib.lens,jh,List.sum_nil,mW,bM,cZ,gZ] at b2⊢;have c3:(ByteArray.mk #[117,110,100,111]).size=4:=rfl;have c4:(⟨#[111,110,101,32,116,111,32,111,110,101]⟩:ByteArray).size<=14:=(by decide);omega)).mono ?_
   rintro e d1 ⟨rfl,E⟩;have a9:=aa (((F.o _ D.o).2.alloc ((F.o _ D.o).2.size) _).trans (E.mono (by have:=(F.o _ D.o).2.size;simp;omega)));go_wp2;go_ret;exact⟨by rw[b1.o];rfl,a9.o⟩
def yI:Option Nat->Int|none=> -1|some t=>(t:Int)
theorem JX{G}{p x k}{y}(h:fU (G.take k) p x=none)(I:G[k]? =some y)(E:y.1=p/\y.2.2=x):fU G p x=some y.2.1:=by
 unfold fU at h⊢;rw[Option.map_eq_none_iff] at h;have D:=(aw.1 I);obtain⟨D,e⟩:=D;have F:G=G.take k++y::G.drop (k+1):=by
  conv=>lhs;rw[<-dX k G]
  rw[List.drop_eq_getElem_cons D,e]
 rw[F,List.find?_append,h];simp[E]
theorem FI{G:List (Nat×Nat×Nat)}{p x k}{y}(h:fU (G.take k) p x=none)(E:G[k]? =some y)(D:¬(y.1=p/\y.2.2=x)):fU (G.take (k+1)) p x=none:=by
 unfold fU at h⊢;rw[Option.map_eq_none_iff] at h⊢;rw[bg,List.find?_append,h,E];simpa using D
theorem Ry(L S)(a)(n c)(G)(p x:Nat)(w)(a4:aO w a (n*3) (bC (dg G)))(c5:n<=1048576):
 Calls prog 266 #[.agg #[Ud L,Ud S,.slice a n c],Ud p,Ud x] w λe w'=>e= .returned (Ud (yI (fU G p x)))/\Below w.1.size w w':=by
 have a2:=aa (λ(V:World) (b6:Below (w.1.size+1) (w.alloc (.cells #[Ud L,Ud S,.slice a n c] 35)) V)=>dT b6);obtain⟨Q,U⟩:=aB (w.alloc (.cells #[Ud L,Ud S,.slice a n c] 35));have Y:Below w.1.size w Q:=by rw[U];exact aZ.alloc aQ _
 have c0:Q.1.size=w.1.size+1:=by rw[U];simp
 rw[<-U,<-c0] at a2;have Z:=aa (mN a4 Y);have a6:=aa Y;have c1:w.1.size<=Q.1.size:=Y.size;have a7:=aa (λ(k:Nat) (y:Nat×Nat×Nat) (h:fU (G.take k) p x=none) (D:G[k]? =some y) (a1:y.1=p/\y.2.2=x)=>JX h D a1);have a8:=aa (λ(k:Nat) (y:Nat×Nat×Nat) (h:fU (G.take k) p x=none) (D:G[k]? =some y) (a1:¬(y.1=p/\y.2.2=x))=>FI h D a1);have a5:=aa (show G.take n=G from aM (by rw[Z.o.1];omega));have a9:=aa (show fU (G.take 0) p x=none from by simp[fU]);go_enter func266,ntmps266;go_wp2;rw[<-U];go_loopw[7] (λi wr=>∃k:Nat,k<=n/\i= Ud k/\bv (fU (G.take k) p x=none)/\Below Q.1.size Q wr) (λi _=>n-(intOf i).toNat);exact⟨0,by omega,rfl,a9,aZ⟩;obtain⟨k,c3,rfl,a0,F⟩:=hrel;obtain⟨⟨c8,c9,d0⟩,c6,b8⟩:=a2.o wr F;by_cases b9:k<n
 ·obtain⟨y,D⟩:=aE (l:=G) (n:=k) (by rw[Z.o.1];exact b9);obtain⟨b0,c7,rfl,b7,a3⟩:=Z.o.2 k y D;have O:=aa (a7.o k y a0.o D);have E:=aa (a8.o k y a0.o D);obtain⟨f,t,l⟩:=y;obtain⟨b1,b2,b3⟩:=a3 wr F;have c4:(k:Int)<(n:Int):=(by omega);have c2:b0<wr.1.size:=aH b7 F.size;simp only[] at b1 b2 b3 O E;by_cases I:f=p
  ·have b4:((f:Int)==(p:Int))=true:=by simp[I]
   by_cases W:l=x
   ·have b5:((l:Int)==(x:Int))=true:=by simp[W]
    have J:=aa (O.o ⟨I,W⟩);go_wp2;go_ret;exact⟨cW (by rw[J.o];rfl),b8⟩
   ·have b5:((l:Int)==(x:Int))=false:=by simp;omega
    have J:=aa (E.o (λh=>W h.2));go_wp2;go_roundw;exact⟨k+1,by omega,by go_num,J,F⟩;simp[intOf]<;>omega
  ·have b4:((f:Int)==(p:Int))=false:=by simp;omega
   have J:=aa (E.o (λh=>I h.1));go_wp2;go_roundw;exact⟨k+1,by omega,by go_num,J,F⟩;simp[intOf]<;>omega
 ·obtain rfl:k=n:=by omega
  go_wp2;go_ret;exact⟨cW (by rw[<-a5.o,a0.o];rfl),a6.o.trans (F.mono c1)⟩
theorem uc(L S)(a)(n c)(G)(p x:Nat)(w)(a5:aO w a (n*3) (bC (dg G)))(c5:n<=1048576):
 Calls prog 172 #[.agg #[Ud L,Ud S,.slice a n c],Ud p,Ud x] w λe w'=>e= .returned (Ud (yI (fU G p x)))/\Below w.1.size w w':=by
 have a2:=aa (λ(V:World) (b7:Below (w.1.size+1) (w.alloc (.cells #[Ud L,Ud S,.slice a n c] 35)) V)=>dT b7);obtain⟨Q,U⟩:=aB (w.alloc (.cells #[Ud L,Ud S,.slice a n c] 35));have Y:Below w.1.size w Q:=by rw[U];exact aZ.alloc aQ _
 have c0:Q.1.size=w.1.size+1:=by rw[U];simp
 rw[<-U,<-c0] at a2;have Z:=aa (mN a5 Y);have a7:=aa Y;have c1:w.1.size<=Q.1.size:=Y.size;have a8:=aa (λ(k:Nat) (y:Nat×Nat×Nat) (h:fU (G.take k) p x=none) (E:G[k]? =some y) (a1:y.1=p/\y.2.2=x)=>JX h E a1);have a9:=aa (λ(k:Nat) (y:Nat×Nat×Nat) (h:fU (G.take k) p x=none) (E:G[k]? =some y) (a1:¬(y.1=p/\y.2.2=x))=>FI h E a1);have a6:=aa (show G.take n=G from aM (by rw[Z.o.1];omega));have b0:=aa (show fU (G.take 0) p x=none from by simp[fU]);go_enter func172,ntmps172;go_wp2;rw[<-U];go_loopw[12] (λi wr=>∃k:Nat,k<=n/\i= Ud k/\bv (fU (G.take k) p x=none)/\Below Q.1.size Q wr) (λi _=>n-(intOf i).toNat);exact⟨0,by omega,rfl,b0,aZ⟩;obtain⟨k,c3,rfl,a0,D⟩:=hrel;obtain⟨⟨c8,c9,d0⟩,c6,a3⟩:=a2.o wr D;by_cases b9:k<n
 ·obtain⟨y,E⟩:=aE (l:=G) (n:=k) (by rw[Z.o.1];exact b9);obtain⟨b1,c7,rfl,b8,a4⟩:=Z.o.2 k y E;have O:=aa (a8.o k y a0.o E);have F:=aa (a9.o k y a0.o E);obtain⟨f,t,l⟩:=y;obtain⟨b2,b3,b4⟩:=a4 wr D;have c4:(k:Int)<(n:Int):=(by omega);have c2:b1<wr.1.size:=aH b8 D.size;simp only[] at b2 b3 b4 O F;by_cases I:f=p
  ·have b5:((f:Int)==(p:Int))=true:=by simp[I]
   by_cases W:l=x
   ·have b6:((l:Int)==(x:Int))=true:=by simp[W]
    have J:=aa (O.o ⟨I,W⟩);go_wp2;go_ret;exact⟨cW (by rw[J.o];rfl),(a3.alloc a3.size _)⟩
   ·have b6:((l:Int)==(x:Int))=false:=by simp;omega
    have J:=aa (F.o (λh=>W h.2));go_wp2;go_roundw;exact⟨k+1,by omega,by go_num,J,(D.alloc D.size _)⟩;simp[intOf]<;>omega
  ·have b5:((f:Int)==(p:Int))=false:=by simp;omega
   have J:=aa (F.o (λh=>I h.1));go_wp2;go_roundw;exact⟨k+1,by omega,by go_num,J,(D.alloc D.size _)⟩;simp[intOf]<;>omega
 ·obtain rfl:k=n:=by omega
  go_wp2;go_ret;exact⟨cW (by rw[<-a6.o,a0.o];rfl),a7.o.trans (D.mono c1)⟩
end Go.Proofs.YtbdlbckeffakjaaGreatDoor
