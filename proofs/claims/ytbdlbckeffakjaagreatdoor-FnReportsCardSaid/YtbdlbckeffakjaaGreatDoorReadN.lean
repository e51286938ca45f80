/- A number read: the reference's functions. Conditions: sizes of at most 1048576 bytes. -/
import Derived.Lib.SlicesCompact
import Derived.Lib.Atoi
import Derived.Test.YtbdlbckeffakjaaGreatDoorGive
namespace Go.Proofs.YtbdlbckeffakjaaGreatDoor
set_option maxHeartbeats 4000000
set_option maxRecDepth 100000
open Go.Proofs.Tryz Go.RowKit
theorem gh(k n)(o)(w)(b5:o.size<=maxLen):
 Calls prog 25 #[.agg #[Ud k,Ud n,.string o]] w λe w'=>e= .returned (.bool (du k n o))/\Below w.1.size w w':=by
 by_cases U:k=2\/k=3
 ·have a5:=fj (x:=k) (lo:=2) (hi:=3) (by omega);by_cases W:1<=n/\n<=4
  ·have a6:=fj (x:=n) (lo:=1) (hi:=4) W;obtain⟨D,rfl⟩:∃D:Nat,k=D:=⟨k.toNat,by omega⟩;obtain⟨E,rfl⟩:∃E:Nat,n=E:=⟨n.toNat,by omega⟩;have I:D<=3:=(by omega);have J:E<=4:=(by omega);have b4:2<=D:=(by omega);have F:du D E o=(decide (eC D E<=27/\o.size=eC D E)&&fb D o.1.1):=by
    rw[du,eZ,eZ];congr 1;simp only[decide_eq_decide];exact⟨λh=>h.2.2,λh=>⟨U,W,h⟩⟩
   by_cases O:eC D E<=27
   ·have a7:decide ((27:Int)<(eC D E:Int))=false:=by simp;omega
    by_cases Y:o.size=eC D E
    ·have a4:((o.size:Int) !=(eC D E:Int))=false:=by simp;omega
     have H:=aa (show du D E o=fb D o.1.1 by rw[F];simp[O,Y]);have b6:o.size<=27:=(by omega);go_enter func25,ntmps25;go_wp2_with fail;go_quiet((first|(go_at_call 96;exact aF ((eB _ _ _ _).mono (λe w' h=>⟨h.1,h.2.symm⟩)))|(go_at_call 97;exact aF ((dw _ _ I J _).mono (λe w' h=>⟨h.1,h.2.symm⟩)))));go_wp2_with fail;go_loopw[3] (λi wr=>∃j:Nat,j<=o.size/\i= Ud j/\Below (w.1.size+1) (w.alloc (.cells #[Ud D,Ud E,.string o] 31)) wr/\bv (fb D (o.1.1.take j)=true)) (λi _=>o.size-(intOf i).toNat);exact⟨0,by omega,rfl,aA aZ _,rfl⟩;obtain⟨j,b2,rfl,Q,a1⟩:=hrel;have Z:=cV Q;have b0:wr.cell? ⟨w.1.size,0,none⟩=some (Ud D):=(Z 0).1;have b1:wr.cell? ⟨w.1.size,2,none⟩=some (.string o):=(Z 2).1;by_cases a2:j<o.size
     ·have a9:o[j].toNat<256:=o[j].toNat_lt;have b3:(j:Int)<(o.size:Int):=(by omega);go_wp2_with fail;go_quiet((go_at_call 96;exact aF ((eB _ _ _ _).mono (λe w' h=>⟨h.1,h.2.symm⟩))));go_wp2
      ·go_ret;have a0:jZ ((o[j].toNat:Int)-97) 0 ((D:Int)-1)=false:=by simp_all
       exact⟨aG (by rw[H.o,show fb D o.1.1=false from fA (dq o j a2) a0]),aA ((aZ.alloc aQ _).trans (Q.mono (by omega))) _⟩
      ·have a0:jZ ((o[j].toNat:Int)-97) 0 ((D:Int)-1)=true:=by simp_all
       go_roundw;exact⟨j+1,by omega,by go_num,aA Q _,fl (dq o j a2) a1.o a0⟩;simp[intOf];omega
     ·go_wp2;go_ret;exact⟨aG (by rw[H.o,show fb D o.1.1=true from iz a1.o (by rw[bM];omega)]),(aZ.alloc aQ _).trans (Q.mono (by omega))⟩
    ·have a4:((o.size:Int) !=(eC D E:Int))=true:=by simp;omega
     have H:=aa (show du D E o=false by rw[F];simp[Y]);go_enter func25,ntmps25;go_wp2_with fail;go_quiet((first|(go_at_call 96;exact aF ((eB _ _ _ _).mono (λe w' h=>⟨h.1,h.2.symm⟩)))|(go_at_call 97;exact aF ((dw _ _ I J _).mono (λe w' h=>⟨h.1,h.2.symm⟩)))));go_wp2;go_ret;exact⟨aG H.o.symm,aA (aZ.alloc aQ _) _⟩
   ·have a7:decide ((27:Int)<(eC D E:Int))=true:=by simp;omega
    have H:=aa (show du D E o=false by rw[F];simp[O]);go_enter func25,ntmps25;go_wp2_with fail;go_quiet((first|(go_at_call 96;exact aF ((eB _ _ _ _).mono (λe w' h=>⟨h.1,h.2.symm⟩)))|(go_at_call 97;exact aF ((dw _ _ I J _).mono (λe w' h=>⟨h.1,h.2.symm⟩)))));go_wp2;go_ret;exact⟨aG H.o.symm,aA (aZ.alloc aQ _) _⟩
  ·have a6:=lP (x:=n) (lo:=1) (hi:=4) (by omega);have H:=aa (show du k n o=false by rw[du];simp;intro _ a3 a8;omega);go_enter func25,ntmps25;go_wp2_with fail;go_quiet((first|(go_at_call 96;exact aF ((eB _ _ _ _).mono (λe w' h=>⟨h.1,h.2.symm⟩)))|(go_at_call 97;exact aF ((dw _ _ I J _).mono (λe w' h=>⟨h.1,h.2.symm⟩)))));go_wp2;go_ret;exact⟨aG H.o.symm,aA (aZ.alloc aQ _) _⟩
 ·have a5:=lP (x:=k) (lo:=2) (hi:=3) (by omega);have H:=aa (show du k n o=false by rw[du];simp;intro a3;omega);go_enter func25,ntmps25;go_wp2_with fail;go_quiet((first|(go_at_call 96;exact aF ((eB _ _ _ _).mono (λe w' h=>⟨h.1,h.2.symm⟩)))|(go_at_call 97;exact aF ((dw _ _ I J _).mono (λe w' h=>⟨h.1,h.2.symm⟩)))));go_wp2;go_ret;exact⟨aG H.o.symm,aA (aZ.alloc aQ _) _⟩
def OL(o:List UInt8)(i:Nat):Nat:=((List.range i).map λj=>if o.getD j 0=98 then 2^j else 0).sum
theorem Cz{P}{w0 wr}{b5}{o}{a}{K}{Q}{E}
 (a0:o.guard=none)(s x)(t)(a6:o.op=Op.call {callee:=Callee.builtin Builtin.append,args:=#[s,x],argTypes:=#[t,t]})
 (B)(e)(z)(F)(U:P.underlying t=some (.slice e))(a2:(P.info? e).map (λi=>(i.zero,i.size,i.bytes))=some (some z,1,F))(b4:z.cells.size=1)
 (v)(m)(xs)(u)(J:wr.ownsRow B e 1 v m xs)(a8:a.eval s=v)(b0:a.eval x= .slice (some ⟨wr.1.size,0,none⟩) 1 1)
 (a9:u.oneCell'=true)(a4:(m+1)*F<=140737488355328)(a5:m+1<=maxLen)(Z:Below B w0 wr)(W:B<=wr.1.size)
 (Y:∀v' h,h.ownsRow B e 1 v' (m+1) (xs++[u])->Below B w0 h->wr.grownBy h v.ownBlock->K (a.put o.dst v') h):
 if Region.wanted o (yielded b5 a.tmps)=true then Oper.wp P o a (wr.alloc (.cells #[u] e)) K Q else E:=by
 obtain⟨i,hi,b1,b2,b3⟩:=info_parts a2;refine step_append_lies _ a0 s x t a6 B e i z 1 F U hi b1 b2 b3 b4 (by decide) v m xs a8 (J.alloc _) ⟨wr.1.size,0,none⟩ 1 1 [u] b0 rfl ?_ ?_ (by decide) a5 a4 (by simp;omega) (wr.1.size+1) (by simp) ?_
 ·intro j y D;match j,D with
  |0,D=>simp at D;subst D;simp[Addr.add]
 ·intro y O;simp at O;subst O;exact a9
 ·intro g cap h a7 a1 _ _;have I:wr.grownBy h v.ownBlock:=dd (cC _ _ _) a1;exact Y _ h a7 (Z.grown I W (λk a3=>(J.lt k a3).1)) I
theorem ue(k:Nat)(s)(w)(F:1<=k/\k<=3)(D:s.size<=maxLen):
 Calls prog 223 #[Ud k,.string s] w λe w'=>e= .returned (.bool (decide (s.size<=16)&&fb k s.1.1))/\w=w':=by
 have I:(1:Int)<=(k:Int):=(by omega);have J:(k:Int)<=3:=(by omega);by_cases h:s.size<=16
 ·have E:(s.size:Int)<=16:=by omega
  go_enter func223,ntmps223;go_wp2_with(first|(go_at_call 137;refine(fs _ _ _ D (by omega)).mono ?_;rintro e w' ⟨rfl,rfl⟩)|go_in);go_ret;exact⟨aG (by simp[h]),rfl⟩
 ·have E:¬((s.size:Int)<=16):=by omega
  go_enter func223,ntmps223;go_wp2_with(first|(go_at_call 137;refine(fs _ _ _ D (by omega)).mono ?_;rintro e w' ⟨rfl,rfl⟩)|go_in);go_ret;exact⟨aG (by simp[h]),rfl⟩
theorem mu(k:Nat)(s)(w)(Q:1<=k/\k<=3)(E:s.size<=maxLen):
 Calls prog 95 #[Ud k,.string s] w λe w'=>e= .returned (.bool (decide (s.size<=16)&&fb k s.1.1))/\w=w':=by
 unfold maxLen at E;have O:=fj (x:=(k:Int)) (lo:=1) (hi:=3) (by omega);go_enter func95,ntmps95;go_wp2;go_loop[5] (λi=>∃n:Nat,n<=s.size/\i= Ud n/\bv (fb k (s.1.1.take n)=true)) (λi=>s.size-(intOf i).toNat);exact⟨0,dW _,rfl,rfl⟩;obtain⟨n,U,rfl,H⟩:=hrel;by_cases h:n<s.size
 ·have J:s[n].toNat<256:=s[n].toNat_lt;by_cases F:s[n].toNat<97
  ·go_wp2;go_ret;exact⟨aG (by rw[show fb k s.1.1=false from fA (dq s n h) (lP (by omega)),dJ]),rfl⟩
  ·by_cases I:(k:Int)<=(s[n].toNat:Int)-97
   ·go_wp2;go_ret;exact⟨aG (by rw[show fb k s.1.1=false from fA (dq s n h) (lP (by omega)),dJ]),rfl⟩
   ·go_wp2;go_round;exact⟨n+1,by omega,by go_num,fl (dq s n h) H.o (fj (by omega))⟩;simp[intOf];omega
 ·have D:=aa (show fb k s.1.1=true from iz H.o (by rw[bM];omega));go_wp2_with(go_at_call 96;refine(eB _ _ _ _).mono ?_;rintro e w' ⟨rfl,rfl⟩);go_ret;exact⟨aG (by rw[D.o,mC];congr 1;rw[eq_iff_iff];omega),rfl⟩
def dZ(f:Nat->UInt8)(m:Nat):List UInt8:=(List.range m).map f
theorem Al(f)(m):dZ f (m+1)=dZ f m++[f m]:=by simp[dZ,bh]
theorem kM(f)(m):(dZ f m).length=m:=by simp[dZ]
def JK(o:ByteArray)(k n:Nat)(l:List UInt8)(i:Nat):UInt8:=ef o (fG k ((l.drop i).take n))
theorem Di{k}{l}(h:fb k l=true)(i n):fb k ((l.drop i).take n)=true:=by
 unfold fb at*;rw[bm] at*;exactλc D=>h c (fC (dh D))
theorem vH{s:ByteArray}{i n}:(s.extract i (i+n)).1.1=(s.1.1.drop i).take n:=by
 rw[ep,fD];simp[er]
theorem te{s:ByteArray}{i n}(h:i+n<=s.size):(s.extract i (i+n)).size=n:=by rw[bl];omega
theorem sH(f)(m):bo (dZ f (m+1))=bo (dZ f m)++[.int .u8 ((f m).toNat:Int)]:=by rw[Al];simp[bo]
theorem EL(k n)(o s:ByteArray)(w:World)(a9:k<=3)(c7:1<=n)(c6:n<=4)(b0:k^n<=o.size)(Z:fb k s.1.1=true)(c8:n<=s.size)(c9:s.size<=1048576):
 Calls prog 261 #[.agg #[Ud k,Ud n,.string o],.string s] w λe w'=>e= .returned (.string ⟨(dZ (JK o k n s.1.1) (s.size+1-n)).toArray⟩)/\Below w.1.size w w':=by
 have U:=aa (λ(i:Nat) (w:World) (hi:i+n<=s.size)=>show Calls prog 279 #[.agg #[Ud k,Ud n,.string o],.string (s.extract i (i+n))] w λe w'=>e= .returned (.int .u8 ((JK o k n s.1.1 i).toNat:Int))/\Below w.1.size w w' from by
  have:=RG k n o (s.extract i (i+n)) w a9 (by rw[vH];exact Di Z i n) (by rw[te hi];omega) (by rw[te hi];exact b0);rw[vH] at this;exact this)
 obtain⟨f,Q⟩:=aB (JK o k n s.1.1);rw[<-Q] at U;rw[<-Q];obtain⟨m,a0⟩:∃m,s.size+1=m+n:=⟨s.size+1-n,by omega⟩;have a1:s.size+1-n=m:=(by omega);rw[a1];have a6:=aa a0;clear Q a0 a1 Z;go_enter func261,ntmps261;go_wp2;go_loopw[5,6] (λv i wr=>∃j:Nat,j<=m/\i= Ud j/\wr.ownsRow (w.1.size+1) 5 1 v j (bo (dZ f j))/\Below (w.1.size+1) (w.alloc (.cells #[Ud k,Ud n,.string o] 31)) wr) (λ_ i _=>m-(intOf i).toNat);exact⟨0,by omega,rfl,by simpa[dZ,bo] using iS (w.alloc (.cells #[Ud k,Ud n,.string o] 31)) #[] 0 (e:=5) (size:=1) (base:=w.1.size+1) (by simp) (by omega) rfl,aZ.alloc (by simp) _⟩;obtain⟨j,c1,rfl,I,E⟩:=hrel;have F:=cV E;have b7:wr.cell? ⟨w.1.size,0,none⟩=some (Ud k):=(F 0).1;have b8:wr.cell? ⟨w.1.size,1,none⟩=some (Ud n):=(F 1).1;have b9:wr.cell? ⟨w.1.size,2,none⟩=some (.string o):=(F 2).1;have a4:w.1.size+1<=wr.1.size:=by have:=E.size;simpa using this
 clear F;have a3:=a6.o;by_cases c5:j<m
 ·have a8:(j:Int)+(n:Int)<=(s.size:Int):=by omega
  have c2:(0:Int)<=(j:Int):=(by omega);have c4:(j:Int)<=(j:Int)+(n:Int):=(by omega);have d0:IntKind.i64.wrap ((j:Int)+(n:Int))=(j:Int)+(n:Int):=au _ (by omega);have d1:((j:Int)+(n:Int)).toNat=j+n:=(by omega);have a5:=aa (λw=>U.o j w (by omega));have h:=aa (show∀V,Below (w.1.size+1) (w.alloc (.cells #[Ud k,Ud n,.string o] 31)) V->V.cell? ⟨w.1.size,0,none⟩=some (Ud k)/\V.cell? ⟨w.1.size,1,none⟩=some (Ud n)/\V.cell? ⟨w.1.size,2,none⟩=some (.string o)/\Below (w.1.size+1) (w.alloc (.cells #[Ud k,Ud n,.string o] 31)) V fromλV D=>⟨(cV D 0).1,(cV D 1).1,(cV D 2).1,D⟩);have a2:=ai I aZ.drew;have Y:=E.drew;have a7:=aa a2;clear I a2 a3;go_wp2;go_region_held3(λV=>V.cell? ⟨w.1.size,0,none⟩=some (Ud k)/\V.cell? ⟨w.1.size,1,none⟩=some (Ud n)/\V.cell? ⟨w.1.size,2,none⟩=some (.string o)/\Below (w.1.size+1) (w.alloc (.cells #[Ud k,Ud n,.string o] 31)) V)
   (first|exact h.o _ Y|exact h.o _ W|exact h.o _ (O.alloc (by omega) _)|exact h.o _ O)
   (first|(go_at_call 279;refine(a5.o _).mono ?_;rintro e b5 ⟨rfl,J⟩;have O:=Y.trans (J.mono a4);have b2:=ai a7.o J;have b4:w.1.size+1<=b5.1.size:=bn a4 J.size)|(refine Cz (by rfl) _ _ 22 (by rfl) (w.1.size+1) 5 (.int .u8 0) 1 underlying22 KE rfl _ j (bo (dZ f j)) _ b2 (by rfl) (by rfl) rfl (by omega) (by unfold maxLen;omega) O b4 ?_;intro v' d2 b1 W c0))
  go_wp2;go_roundw;exact⟨j+1,by omega,by go_num,by rw[sH];exact b1,W⟩;simp[intOf];omega
 ·obtain rfl:j=m:=by omega
  have a8:¬((j:Int)+(n:Int)<=(s.size:Int)):=(by omega);have c3:j<=1048577:=(by omega);obtain⟨b6,c,rfl,b3⟩:=aS I (by omega);clear I a3;go_wp2_with(with_reducible refine fT rfl _ 22 9 5 rfl underlying22 underlying5 underlying9 _ j _ (dZ f j) rfl b3 ?_);go_ret;exact⟨rfl,(aZ.alloc aQ _).trans (E.mono (by omega))⟩
theorem yz(k n)(o s:ByteArray)(w:World)(a6:k<=3)(c0:1<=n)(b9:n<=4)(a7:k^n<=o.size)(a8:o.size<=1048576)(W:fb k s.1.1=true)(c1:n<=s.size)(c2:s.size<=1048576):
 Calls prog 263 #[.agg #[Ud k,Ud n,.string o],.string s] w λe w'=>e= .returned (.string ⟨(dZ (JK o k n s.1.1) (s.size+1-n)).toArray⟩)/\Below w.1.size w w':=by
 have J:=aa (λ(i:Nat) (w:World) (hi:i+n<=s.size)=>show Calls prog 280 #[.agg #[Ud k,Ud n,.string o],.string (s.extract i (i+n))] w λe w'=>e= .returned (.string ⟨#[JK o k n s.1.1 i]⟩)/\Below w.1.size w w' from by
  have:=GS k n o (s.extract i (i+n)) w a6 (by rw[vH];exact Di W i n) (by rw[te hi];omega) (by rw[te hi];exact a7) a8;rw[vH] at this;exact this)
 obtain⟨f,I⟩:=aB (JK o k n s.1.1);rw[<-I] at J;rw[<-I];obtain⟨m,Y⟩:∃m,s.size+1=m+n:=⟨s.size+1-n,by omega⟩;have Z:s.size+1-n=m:=(by omega);rw[Z];have a2:=aa Y;clear I Y Z W;go_enter func263,ntmps263;go_wp2;go_loopw[5,6] (λv i wr=>∃(j:Nat) (x:ByteArray),j<=m/\i= Ud j/\v= .string x/\bv (x=⟨(dZ f j).toArray⟩)/\Below (w.1.size+1) (w.alloc (.cells #[Ud k,Ud n,.string o] 31)) wr) (λ_ i _=>m-(intOf i).toNat);exact⟨0,_,by omega,rfl,rfl,rfl,aZ⟩;obtain⟨j,x,b4,rfl,rfl,F,D⟩:=hrel;have E:=cV D;have b0:wr.cell? ⟨w.1.size,0,none⟩=some (Ud k):=(E 0).1;have b1:wr.cell? ⟨w.1.size,1,none⟩=some (Ud n):=(E 1).1;have b2:wr.cell? ⟨w.1.size,2,none⟩=some (.string o):=(E 2).1;have a9:w.1.size+1<=wr.1.size:=by have:=D.size;simpa using this
 clear E;have a0:=a2.o;by_cases b8:j<m
 ·have a5:(j:Int)+(n:Int)<=(s.size:Int):=by omega
  have b5:(0:Int)<=(j:Int):=(by omega);have b7:(j:Int)<=(j:Int)+(n:Int):=(by omega);have c3:IntKind.i64.wrap ((j:Int)+(n:Int))=(j:Int)+(n:Int):=au _ (by omega);have c4:((j:Int)+(n:Int)).toNat=j+n:=(by omega);have b3:¬(9223372036854775807<x.size+1):=by rw[F.o];show¬(9223372036854775807<(List.toArray _).size+1);simp[kM];first|done|omega
  have a1:=aa (λw=>J.o j w (by omega));have a3:=aa (show x++⟨#[f j]⟩=⟨(dZ f (j+1)).toArray⟩ by
   rw[F.o,Al,show(ByteArray.mk #[f j])=⟨[f j].toArray⟩ from rfl,lH];first|done|simp)
  have O:=aa (show∀V,Below (w.1.size+1) (w.alloc (.cells #[Ud k,Ud n,.string o] 31)) V->V.cell? ⟨w.1.size,0,none⟩=some (Ud k)/\V.cell? ⟨w.1.size,1,none⟩=some (Ud n)/\V.cell? ⟨w.1.size,2,none⟩=some (.string o)/\Below (w.1.size+1) (w.alloc (.cells #[Ud k,Ud n,.string o] 31)) V fromλV h=>⟨(cV h 0).1,(cV h 1).1,(cV h 2).1,h⟩);have Q:=D.drew;clear a0;go_wp2;go_region_held3(λV=>V.cell? ⟨w.1.size,0,none⟩=some (Ud k)/\V.cell? ⟨w.1.size,1,none⟩=some (Ud n)/\V.cell? ⟨w.1.size,2,none⟩=some (.string o)/\Below (w.1.size+1) (w.alloc (.cells #[Ud k,Ud n,.string o] 31)) V)
   (first|exact O.o _ Q|exact O.o _ U)
   (first|(go_at_call 280;refine(a1.o _).mono ?_;rintro e c5 ⟨rfl,a4⟩;have U:=Q.trans (a4.mono a9)))
  go_wp2;go_roundw;exact⟨j+1,_,by omega,by go_num,rfl,by show _=_;rw[a3.o],U⟩;simp[intOf];omega
 ·obtain rfl:j=m:=by omega
  have a5:¬((j:Int)+(n:Int)<=(s.size:Int)):=(by omega);have b6:j<=1048577:=(by omega);clear a0;go_wp2;go_ret;exact⟨sX F.o,(aZ.alloc aQ _).trans (D.mono (by omega))⟩
def Ua(l:List UInt8):ByteArray:=⟨l.toArray⟩
theorem wh(s:ByteArray)(m):s.extract 0 m=Ua (s.1.1.take m):=by
 apply jk;rw[ep];show _=(s.1.1.take m).toArray
 apply jQ.1;rw[fD];simp[er]
theorem ka(j:Nat)(h:j<=1000000):(Lit.int .i64 (j:Int)).wf=true:=by
 exact Go.WalkArith.wf_i64 (by omega)
theorem gE{w w'}{P}{k}{R}{b n}{D:DataW Unit}(h:w.ownsMap P k R b n D)(O:Below w.1.size w w'):w'.ownsMap P k R b n D:=by
 obtain⟨I,F,E,J⟩:=h;exact⟨I,F,by rw[O.block b (bD.1 E).1];exact E,J⟩
theorem DX(w):(zeroValue 3).run prog w= .ok (Ud 0) w:=by kernel_rfl


theorem iM{P}{wr:World}{O}{U}{o}{a}{Q}
 (Z:o.guard=none)(s x)(t)(a5:o.op=Op.call {callee:=Callee.builtin Builtin.append,args:=#[s,x],argTypes:=#[t,t]})
 (B)(e)(z)(I)(W:P.underlying t=some (.slice e))(a1:(P.info? e).map (λi=>(i.zero,i.size,i.bytes))=some (some z,1,I))(b5:z.cells.size=1)
 (v)(m)(xs)(u)(a7:wr.ownsRow B e 1 v m xs)(a9:a.eval s=v)(b1:a.eval x= .slice (some ⟨wr.1.size,0,none⟩) 1 1)
 (b0:u.oneCell'=true)(a2:(m+1)*I<=140737488355328)(a3:m+1<=maxLen)(b6:B<=wr.1.size)(E)(a4:v.ownBlock≠some E)(b7:E<wr.1.size)
 (Y:∀v' D,D.ownsRow B e 1 v' (m+1) (xs++[u])->wr.grownBy D v.ownBlock->v'.ownBlock≠some E->wpList P O Q U (a.put o.dst v') D):
 wpList P O Q (o::U) a (wr.alloc (.cells #[u] e)):=by
 obtain⟨i,hi,b2,b3,b4⟩:=info_parts a1;refine wpList_append_lies _ Z s x t a5 B e i z 1 I W hi b2 b3 b4 b5 (by decide) v m xs a9 (a7.alloc _) ⟨wr.1.size,0,none⟩ 1 1 [u] b1 rfl ?_ ?_ (by decide) a3 a2 (by simp;omega) (wr.1.size+1) (by simp) ?_
 ·intro j y F;match j,F with
  |0,F=>simp at F;subst F;simp[Addr.add]
 ·intro y J;simp at J;subst J;exact b0
 ·intro g cap D a8 a0 a6 _;refine Y _ D a8 (dd (cC _ _ _) a0) ?_;rcases a6 with h|h
  ·intro e;apply a4;rw[h];simpa[Value.ownBlock] using e
  ·intro e;have:g=E:=by simpa[Value.ownBlock] using e
   omega
def Sx(F:FuncId)(cap:Value)(k n:Nat)(p:Nat->Bool)(W:World):Prop:=
 ∀i w,i<k^n->Below W.1.size W w->Calls prog F #[.string (db k n i),cap] w λe w'=>e= .returned (.bool (p i))/\Below w.1.size w w'
def kp(p:Nat->Bool)(k n j:Nat):List ByteArray:=((List.range j).filter p).map (db k n)
theorem yk(p)(j):((List.range j).filter p).length<=j:=by have:=bz p (List.range j);rwa[cD] at this
theorem uL{p}{k n j}(h:p j=true):ap (kp p k n (j+1))=ap (kp p k n j)++[.string (db k n j)]:=by simp[kp,ap,bh,bE,h]
theorem Ax{p}{k n j}(h:p j=false):kp p k n (j+1)=kp p k n j:=by simp[kp,bh,bE,h]
theorem uV{p}{j}(h:p j=true):((List.range (j+1)).filter p).length=((List.range j).filter p).length+1:=by simp[bh,bE,h]
theorem Bj{p}{j}(h:p j=false):((List.range (j+1)).filter p).length=((List.range j).filter p).length:=by simp[bh,bE,h]
def dC(p:Nat->Bool)(k n:Nat)(w:World)(e:Ending)(w':World):Prop:=∃v,e= .returned v/\w'.ownsRow w.1.size 9 1 v ((List.range (k^n)).filter p).length (ap (kp p k n (k^n)))/\Below w.1.size w w'
theorem AY(k n)(F)(cap)(p)(w)(Q:1<=k/\k<=3)(b5:n<=8)(a8:Sx F cap k n p w)(d7:∀x w,(callFunc F #[x,cap]).run prog w= .ok (.enter F #[x,cap]) w):
 Calls prog 141 #[Ud k,Ud n,.func (.func F) #[] #[cap]] w (dC p k n w):=by
 have d0:=eb Q.2 b5;have a2:=aa (λw:World=>ls k n w Q b5);obtain⟨m,Y⟩:=aB (k^n);have a0:=aa a8;unfold Sx at a0;unfold iK at a2;unfold dC;rw[<-Y] at a2 a0 d0;rw[<-Y];have e2:1<=m:=by rw[Y];exact gK _ _ (by omega)
 clear a8 Y Q;go_enter func141,ntmps141;go_wp2_with fail;refine(a2.o _).mono ?_;rintro e b7 ⟨v,rfl,E,a9⟩;have D:=aT (base':=w.1.size) E (by simp);obtain⟨W,b9,rfl,d8,e1⟩:=D.form (by omega);have d9:w.1.size+1<=W:=by
  obtain⟨d6,d5,c5,c6,_⟩:=E.form (by omega);simp at c5 c6;omega
 have b8:=aa D;have c2:Below w.1.size w b7:=(aZ.alloc aQ _).trans (a9.mono (by simp));have c9:b7.ownsRow w.1.size 9 1 (.slice (some ⟨w.1.size,0,none⟩) 0 0) 0 (ap (kp p k n 0)):=ai (show(w.alloc (.cells #[] 9)).ownsRow w.1.size 9 1 (.slice (some ⟨w.1.size,0,none⟩) 0 0) 0 (ap (kp p k n 0)) from bd #[] _ rfl aQ (by unfold maxLen;simp)) a9;clear E D;go_wp2;go_loopw[7,15] (λv i wr=>∃j:Nat,j<=m/\i= Ud j/\wr.ownsRow w.1.size 9 1 v ((List.range j).filter p).length (ap (kp p k n j))/\v.ownBlock≠some W/\wr.ownsRow w.1.size 9 1 (.slice (some ⟨W,0,none⟩) m b9) m (ap (wds k n m))/\Below w.1.size w wr) (λ_ i _=>m-(intOf i).toNat);exact⟨0,by omega,rfl,c9,by simp[Value.ownBlock];omega,b8.o,c2⟩;obtain⟨j,e0,rfl,E,a4,Z,I⟩:=hrel;have c4:=yk p j;by_cases b4:j<m
 ·obtain⟨d2,d4,b2,b6⟩:=aS Z (by omega);simp only[aJ,true_and] at b2;obtain⟨rfl,rfl⟩:=b2;obtain⟨d3,e3,b1,c0,b0⟩:=b6.at_ (by omega);simp only[aI,cA,and_true] at b1;obtain⟨rfl,rfl⟩:=b1;have c3:=b0 j _ (bJ (mt b4));rw[aW] at c3;have a1:=aa E;have a7:=aa Z;have U:=aa (a0.o j wr b4 I);clear b6 b0 E Z;obtain⟨c,a3⟩:=aB (((List.range j).filter p).length);have a6:=aa a3;rw[<-a3] at a1 c4;clear a3;cases hpj:p j
  ·rw[hpj] at U;have J:=aa hpj;clear hpj;go_wp2_with fail;refine U.o.mono ?_;rintro e d1 ⟨rfl,h⟩;have D:=ai a1.o h;have a5:=ai a7.o h;have O:=I.trans (h.mono I.size);go_wp2;go_roundw;exact⟨j+1,by omega,by go_num,by rw[Ax J.o,Bj J.o,<-a6.o];exact D,a4,a5,O⟩;simp[intOf];omega
  ·rw[hpj] at U;have J:=aa hpj;clear hpj;go_wp2_with fail;refine U.o.mono ?_;rintro e d1 ⟨rfl,h⟩;have D:=ai a1.o h;have a5:=ai a7.o h;have O:=I.trans (h.mono I.size);have c1:=aH c0 h.size;go_wp2_with(first|(at_builtin;go_must(refine iM rfl _ _ 26 rfl w.1.size 9 (.string ByteArray.empty) 16 underlying26 iG rfl _ c (ap (kp p k n j)) _ D rfl rfl rfl (by omega) (by unfold maxLen;omega) O.size W a4 c1 ?_);intro v' e4 c8 b3 c7));go_roundw;exact⟨j+1,by omega,by go_num,by rw[uL J.o,uV J.o,<-a6.o];exact c8,c7,a5.kept b3 (Or.inr λe=>a4 (by rw[<-e];rfl)),O.grown b3 O.size (λk Q=>(D.lt k Q).1)⟩;simp[intOf];omega
 ·obtain rfl:j=m:=by omega
  clear Z;go_wp2;go_ret;exact⟨_,rfl,E,I⟩
theorem GR(k:Nat)(s)(w)(E:k<=3)(I:fb k s.1.1=true)(a6:s.size<=16):
 Calls prog 262 #[Ud k,.string s] w λe w'=>e= .returned (Ud (fG k s.1.1:Int))/\w=w':=by
 have F:=aa I;clear I;go_enter func262,ntmps262;go_wp2;go_loop[5,6] (λo i=>∃j q:Nat,j<=s.size/\i= Ud j/\o= Ud q/\bv (q=fG k (s.1.1.take j))) (λ_ i=>s.size-(intOf i).toNat);exact⟨0,0,by omega,rfl,rfl,by show _=_;simp[fG]⟩;obtain⟨j,q,a3,rfl,rfl,D⟩:=hrel;by_cases O:j<s.size
 ·have a4:(j:Int)<(s.size:Int):=by omega
  have J:=bm.1 F.o _ (aj (dq s j O));rw[eT] at J;obtain⟨t,a1⟩:∃t:Nat,s[j].toNat=97+t:=⟨s[j].toNat-97,by omega⟩;have a7:t<3:=(by omega);have W:q<k^j:=by rw[D.o];exact sA F.o E j (by rw[bM];omega)
  have Y:k^j<=3^16:=bn (fa E j) (bG (by omega) (by omega));have a2:(3:Nat)^16=43046721:=(by decide);have Z:q<=43046721:=(by omega);have a0:q*k<=43046721*3:=bX Z E;obtain⟨m,h⟩:=aB (q*k);have a5:(q:Int)*(k:Int)=(m:Int):=by rw[h];simp
  rw[<-h] at a0;have Q:=aa (show fG k (s.1.1.take (j+1))=m+t by rw[qK (dq s j O),<-D.o,a1,h];omega);clear W Y J h;go_wp2;go_round;exact⟨j+1,m+t,by omega,by go_num,by go_num,by show _=_;rw[Q.o]⟩;simp[intOf];omega
 ·have U:=aa (show s.1.1.take j=s.1.1 from aM (by rw[bM];omega));go_wp2;go_ret;exact⟨cW (by rw[D.o,U.o]),rfl⟩
theorem Bl{w wr}{A B}{S T}(h:Below ((w.alloc (.cells A S)).alloc (.cells B T)).1.size ((w.alloc (.cells A S)).alloc (.cells B T)) wr):
 ((∀k,wr.cell? ⟨w.1.size,k,none⟩=A[k]?)/\(∀k,wr.frozen? ⟨w.1.size,k,none⟩=false))/\((∀k,wr.cell? ⟨w.1.size+1,k,none⟩=B[k]?)/\(∀k,wr.frozen? ⟨w.1.size+1,k,none⟩=false))/\w.1.size+1<wr.1.size/\Below w.1.size w wr:=by
 have D:=h.size;simp at D;refine⟨⟨λk=> ?_,λk=> ?_⟩,⟨λk=> ?_,λk=> ?_⟩,by omega,((aZ.alloc aQ _).alloc (by simp) _).trans (h.mono (by simp;omega))⟩
 ·refine(h.cell (p:=⟨w.1.size,k,none⟩) (by simp;omega)).trans ?_;rw[World.cell?_alloc_past _ _ _ (by simp),aL _ _ _ _ rfl]
 ·refine(h.frozen (p:=⟨w.1.size,k,none⟩) (by simp;omega)).trans ?_;rw[World.frozen?_alloc_past _ _ _ (by simp),eo _ _ _ _ rfl]
 ·refine(h.cell (p:=⟨w.1.size+1,k,none⟩) (by simp)).trans ?_;rw[aL _ _ _ _ (by simp)]
 ·refine(h.frozen (p:=⟨w.1.size+1,k,none⟩) (by simp)).trans ?_;rw[eo _ _ _ _ (by simp)]
theorem xQ{wr:World}{b}{x y z}(h:∀k,wr.cell? ⟨b,k,none⟩=(#[x,y,z]:Array Value)[k]?):wr.cell? ⟨b,0,none⟩=some x/\wr.cell? ⟨b,1,none⟩=some y/\wr.cell? ⟨b,2,none⟩=some z:=⟨h 0,h 1,h 2⟩

section
open Go.Lib Go.Sort
theorem pK{α:Type} [DecidableEq α]:∀(l m:List α),l.Nodup->(∀x∈l,x∈m)->l.length<=m.length
 |[],_,_,_=>Nat.zero_le _
 |x::l,m,hd,hs=>by
  have h:x∈m:=hs x (by simp);rw[List.nodup_cons] at hd;have E:=pK l (m.erase x) hd.2 (λy D=>(List.mem_erase_of_ne (λe:y=x=>hd.1 (by rw[<-e];exact D))).2 (hs y (by simp[D])));rw[List.length_erase_of_mem h] at E;have:0<m.length:=List.length_pos_of_mem h;simp;omega
end

section
open Go.Sort Go.Lib

end
def bP(l:List Bool):List Value:=l.map Value.bool
theorem vR:(prog.info? 4).map (λi=>(i.zero,i.size,i.bytes))=some (some (.bool false),1,1):=by kernel_rfl
def fq(K:Nat->Bool)(M:Nat):List Bool:=(List.range M).map K
theorem dL{K}{M i}(h:i<M):(bP (fq K M))[i]? =some (.bool (K i)):=by simp[bP,fq,h]
theorem dA{K L}{M}(h:∀i,i<M->K i=L i):fq K M=fq L M:=bp λi hi=>h i (aD.1 hi)
theorem kb(K)(M x)(b):(bP (fq K M)).set x (.bool b)=bP (fq (λi=>if i=x then b else K i) M):=by
 refine ex λi=> ?_
 by_cases hi:i<M
 ·rw[dL hi];by_cases h:x=i
  ·subst h;rw[List.getElem?_set_self (by simp[bP,fq];exact hi)];simp
  ·rw[List.getElem?_set_ne h,dL hi,if_neg (λe=>h e.symm)]
 ·rw[aU (by simp[bP,fq];omega),aU (by simp[bP,fq];omega)]
theorem sW(M):(madeCells (Value.bool false).cells (M*1)).toList=bP (fq (λ_=>false) M):=by
 rw[kV];show(madeCells #[Value.bool false] M).toList=_
 rw[toList_madeCells_one];refine ex λi=> ?_
 by_cases hi:i<M
 ·rw[dL hi,eM,if_pos hi]
 ·rw[aU (by simp;omega),aU (by simp[bP,fq];omega)]
noncomputable def xP(b M:Nat)(w:World):Nat:=((List.range M).filter λi=> @decide (w.cell? ⟨b,i,none⟩=some (.bool true)) (Classical.propDecidable _)).length
theorem sS{w}{B e b M c}{K}(h:w.ownsRow B e 1 (.slice (some ⟨b,0,none⟩) M c) M (bP (fq K M))):xP b M w=((List.range M).filter K).length:=by
 unfold xP;congr 1;refine eX λi hi=> ?_
 have D:=aD.1 hi;rw[(h.cellAt i (by omega)).trans (dL D)];rw[bF,@decide_eq_true_iff _ (Classical.propDecidable _)];simp
theorem oO{K L}{M}(h:∀i,L i=true->K i=true){x}(O:x<M)(I:K x=true)(J:L x=false):((List.range M).filter L).length<((List.range M).filter K).length:=by
 have F:=pK ((List.range M).filter L) (((List.range M).filter K).erase x) (List.nodup_range.sublist List.filter_sublist) (λy Q=>by
  obtain⟨D,E⟩:=bY.1 Q;exact(List.mem_erase_of_ne (λe=>by rw[e,J] at E;cases E)).2 (bY.2 ⟨D,h y E⟩))
 have D:x∈(List.range M).filter K:=bY.2 ⟨aD.2 O,I⟩;rw[List.length_erase_of_mem D] at F;have:=fY D;omega
theorem Hn{K L}{M}(h:∀i,i<M->K i=L i):((List.range M).filter L).length=((List.range M).filter K).length:=by
 congr 1;exact eX λi hi=>(h i (aD.1 hi)).symm
def Ix(h:List (List Int))(p q:Nat):Prop:=(q:Int)∈h.getD p []
def jb(h:List (List Int))(M i:Nat):Prop:=∃T:Nat->Prop,T i/\∀q,T q->q<M/\(∃r,Ix h q r/\T r)/\∃r,Ix h r q/\T r
def TI(K:Nat->Bool)(x:Int):Bool:=K x.toNat
def rp(K:Nat->Bool)(h:List (List Int))(k i p:Nat):Bool:=K p&&(if p<k then(h.getD p []).any (TI K) else if p=k then((h.getD p []).take i).any (TI K) else false)
def rr(K:Nat->Bool)(h:List (List Int))(k i q:Nat):Bool:=K q&&((List.range k).any (λp=>K p&&(h.getD p []).any λe=>decide (e=(q:Int)))||(K k&&((h.getD k []).take i).any λe=>decide (e=(q:Int))))
theorem Id(K)(D)(p):rp K D 0 0 p=false:=by
 unfold rp;rw[if_neg (by omega)];by_cases h:p=0<;>simp[h]
theorem Is(K)(h)(q):rr K h 0 0 q=false:=by simp[rr]
theorem Lh(K){h}{k}{r}(I:h[k]? =some r)(p):rp K h k r.length p=rp K h (k+1) 0 p:=by
 have e:h.getD k []=r:=by rw[ah,I];rfl
 unfold rp;by_cases D:p<k
 ·rw[if_pos D,if_pos (by omega)]
 ·by_cases E:p=k
  ·subst E;rw[if_neg D,if_pos rfl,if_pos (by omega),e,gB]
  ·rw[if_neg D,if_neg E,if_neg (by omega)];by_cases F:p=k+1
   ·rw[if_pos F];simp
   ·rw[if_neg F]
theorem Ll(K){h}{k}{r}(D:h[k]? =some r)(q):rr K h k r.length q=rr K h (k+1) 0 q:=by
 have e:h.getD k []=r:=by rw[ah,D];rfl
 unfold rr;rw[e,gB,bh,fO,List.any_cons,nk,eR,e,eW,nk,dJ,eR]
theorem vi{α:Type}{r:List α}{i}{x:α}(h:r[i]? =some x)(f):(r.take (i+1)).any f=((r.take i).any f||f x):=by
 rw[bg,h,fO];simp
theorem Ql{K}{D}{k i x:Nat}{r}(I:D[k]? =some r)(J:r[i]? =some (x:Int))(E:K k=true)(F:K x=true)(p):
 (if p=k then true else rp K D k i p)=rp K D k (i+1) p:=by
 have e:D.getD k []=r:=by rw[ah,I];rfl
 unfold rp;by_cases h:p=k
 ·subst h;rw[if_pos rfl,if_neg (by omega),if_pos rfl,e,vi J,show TI K (x:Int)=true from F,E];simp
 ·rw[if_neg h,if_neg h,if_neg h]
theorem Qo{K}{h}{k i x:Nat}{r}(I:h[k]? =some r)(J:r[i]? =some (x:Int))(E:K k=true)(F:K x=true)(q):
 (if q=x then true else rr K h k i q)=rr K h k (i+1) q:=by
 have e:h.getD k []=r:=by rw[ah,I];rfl
 unfold rr;rw[e,vi J];by_cases D:q=x
 ·subst D;rw[if_pos rfl,E,F];simp
 ·rw[if_neg D,show decide ((x:Int)=(q:Int))=false by simp;omega,eR]
theorem Lg{K}{D}{k i x:Nat}{r}(F:D[k]? =some r)(I:r[i]? =some (x:Int))(h:(K k&&K x)=false)(p):rp K D k i p=rp K D k (i+1) p:=by
 have e:D.getD k []=r:=by rw[ah,F];rfl
 unfold rp;by_cases E:p=k
 ·subst E;rw[if_neg (eQ p),if_pos rfl,if_neg (eQ p),if_pos rfl,e,vi I,show TI K (x:Int)=K x from rfl];cases hk:K p
  ·rfl
  ·rw[hk,dK] at h;rw[h,eR]
 ·rw[if_neg E,if_neg E]
theorem Lk{K}{D}{k i x:Nat}{r}(F:D[k]? =some r)(I:r[i]? =some (x:Int))(h:(K k&&K x)=false)(q):rr K D k i q=rr K D k (i+1) q:=by
 have e:D.getD k []=r:=by rw[ah,F];rfl
 unfold rr;rw[e,vi I];by_cases E:q=x
 ·subst E;cases hk:K q
  ·rfl
  ·rw[hk,mC] at h;rw[h,gO,gO]
 ·rw[show decide ((x:Int)=(q:Int))=false by simp;omega,eR]
theorem EZ{K}{D}{M p:Nat}(J:∀(i:Nat) (r:List Int),D[i]? =some r->∀x∈r,0<=x/\x<(M:Int))(F:p<M):rp K D M 0 p=true↔K p=true/\∃r,Ix D p r/\K r=true:=by
 unfold rp Ix;rw[if_pos F,aC,bB];refine and_congr Iff.rfl ⟨λ⟨x,E,h⟩=> ?_,λ⟨r,I,h⟩=>⟨_,I,h⟩⟩;cases hg:D[p]? with
 |none=>rw[ah,hg] at E;cases E
 |some r=>
  have e:D.getD p []=r:=by rw[ah,hg];rfl
  have O:=J p r hg x (by rw[<-e];exact E);exact⟨x.toNat,by rw[show((x.toNat:Nat):Int)=x by omega];exact E,h⟩
theorem Ff{K}{E}{M q}:rr K E M 0 q=true↔K q=true/\∃r,r<M/\Ix E r q/\K r=true:=by
 unfold rr Ix;rw[aC,eW,nk,dJ,eR,bB];refine and_congr Iff.rfl ⟨λ⟨x,O,h⟩=> ?_,λ⟨r,J,h,I⟩=>⟨r,aD.2 J,?_⟩⟩
 ·rw[aC,bB] at h;obtain⟨F,y,Q,D⟩:=h;rw[decide_eq_true_eq] at D;exact⟨x,aD.1 O,by rw[<-D];exact Q,F⟩
 ·rw[aC,bB];exact⟨I,_,h,by simp⟩
def Sb(K H:Nat->Bool)(r:Nat):Bool:=(List.range r).any λi=>K i&& !H i
theorem Qg(K H)(r):Sb K H (r+1)=(Sb K H r||(K r&& !H r)):=by simp[Sb,bh]
theorem JF{K H}{M}(h:Sb K H M=false){i}(hi:i<M)(D:K i=true):H i=true:=by
 cases hh:H i
 ·have:Sb K H M=true:=by
   unfold Sb;rw[bB];exact⟨i,aD.2 hi,by simp[D,hh]⟩
  rw[h] at this;cases this
 ·rfl
theorem Sa{K H}{M}(h:Sb K H M=true):∃i,i<M/\K i=true/\H i=false:=by
 unfold Sb at h;rw[bB] at h;obtain⟨i,hi,D⟩:=h;simp at D;exact⟨i,aD.1 hi,D⟩
def oh(h:List (List Int))(M:Nat)(w:World)(e:Ending)(w':World):Prop:=
 ∃v K,e= .returned v/\w'.ownsRow w.1.size 4 1 v M (bP (fq K M))/\Below w.1.size w w'/\(∀i,i<M->(K i=true↔jb h M i))
theorem GK{K}{h}{M:Nat}(O:∀(i:Nat) (r:List Int),h[i]? =some r->∀x∈r,0<=x/\x<(M:Int))(Y:h.length=M)(Q:∀i,i<M->jb h M i->K i=true)
 (J:∀i,i<M->K i=true->(rp K h M 0 i&&rr K h M 0 i)=true):∀i,i<M->(K i=true↔jb h M i):=by
 intro i hi;refine⟨λW=>⟨λj=>j<M/\K j=true,⟨hi,W⟩,λq E=>⟨E.1,?_,?_⟩⟩,Q i hi⟩
 ·have F:=J q E.1 E.2;rw[aC,EZ O E.1] at F;obtain⟨⟨_,r,D,I⟩,_⟩:=F;refine⟨r,D,?_,I⟩;unfold Ix at D;cases hg:h[q]? with
  |none=>rw[ah,hg] at D;cases D
  |some r'=>
   have e:h.getD q []=r':=by rw[ah,hg];rfl
   have:=O q r' hg _ (by rw[<-e];exact D);omega
 ·have F:=J q E.1 E.2;rw[aC,Ff] at F;obtain⟨_,_,r,D,U,I⟩:=F;exact⟨r,U,D,I⟩
theorem Df{K}{h}{M:Nat}(W:∀(i:Nat) (r:List Int),h[i]? =some r->∀x∈r,0<=x/\x<(M:Int))(F:∀i,i<M->jb h M i->K i=true):
 ∀i,i<M->jb h M i->(K i&&(rp K h M 0 i&&rr K h M 0 i))=true:=by
 intro i hi J;have E:=F i hi J;obtain⟨T,Z,D⟩:=J;have I:∀q,T q->K q=true:=λq O=>F q (D q O).1 ⟨T,O,D⟩
 obtain⟨_,⟨r,U,a0⟩,⟨s,Y,Q⟩⟩:=D i Z;rw[aC,aC,EZ W hi,Ff];exact⟨E,⟨E,r,U,I r a0⟩,E,s,(D s Q).1,Y,I s Q⟩
theorem zJ(M)(D)(a)(c)(w)(d6:bZ w a M D)(g5:∀(i:Nat) (r:List Int),D[i]? =some r->∀x∈r,0<=x/\x<(M:Int))(k7:M<=6561)(k8:1<=M):
 Calls prog 160 #[.slice a M c] w (oh D M w):=by
 have h2:=aa d6;have e9:=aa (dp d6).1;have a7:=aa g5;clear g5 d6;obtain⟨e7,hi,a2,e5,e6⟩:=info_parts vR;go_enter func160,ntmps160;go_wp2_with(first|(at_make;refine wpList_make_full _ rfl _ _ 107 rfl w.1.size 4 e7 (.bool false) 1 underlying107 hi a2 e5 .i64 .i64 _ _ M rfl rfl rfl rfl (by rw[e6];omega) (by unfold maxLen;omega) aQ ?_;intro k4 g4 g0));rw[sW] at g4;have i1:Below w.1.size w k4:=aZ.grown g0 aQ (by intro k h;cases h);clear g0;go_loopw[4] (λi wr=>∃j:Nat,j<=M/\i= Ud j/\wr.ownsRow w.1.size 4 1 (.slice (some ⟨w.1.size,0,none⟩) M M) M (bP (fq (λi=>decide (i<j)) M))/\Below w.1.size w wr) (λi _=>M-(intOf i).toNat);exact⟨0,by omega,rfl,by simpa using g4,i1⟩;obtain⟨j,l6,rfl,a0,E⟩:=hrel;by_cases j5:j<M
 ·have i6:wr.cell? ⟨w.1.size,j,none⟩=some (.bool (decide (j<j))):=(a0.cellAt j (by omega)).trans (dL j5);have j0:=a0.frozenAt j;have b9:=aa a0;clear a0;go_wp2;go_roundw;have U:=b9.o.stored j (.bool true);rw[kb,dA (L:=λi=>decide (i<j+1)) (λi _=>by by_cases h:i=j<;>simp[h]<;>omega)] at U;exact⟨j+1,by omega,by go_num,U.1,E.grown U.2 E.size (by rintro k ⟨⟩;exact aN _)⟩;simp[intOf];omega
 ·obtain rfl:j=M:=by omega
  have b9:=aa a0;clear a0;go_wp2;go_loopw[5] (λd3 wr=>∃(K:Nat->Bool) (b:Bool),d3= .bool b/\wr.ownsRow w.1.size 4 1 (.slice (some ⟨w.1.size,0,none⟩) j j) j (bP (fq K j))/\Below w.1.size w wr/\w.1.size<wr.1.size/\bv (∀i,i<j->jb D j i->K i=true)/\bv (b=false->∀i,i<j->K i=true->(rp K D j 0 i&&rr K D j 0 i)=true)) (λd3 wr=>xP w.1.size j wr+(match d3 with| .bool true=>1|_=>0));exact⟨_,true,rfl,b9.o,E,((gG b9.o).choose_spec.2.1|>λh=>(bD.1 h).1),λi hi _=>by simp[hi],λh=>by cases h⟩;obtain⟨K,b,rfl,a0,E,m2,f1,e8⟩:=hrel;cases b
  ·have g9:=aa (GK a7.o e9.o f1.o (e8.o rfl));go_wp2;go_ret;exact⟨_,K,rfl,a0,E,g9.o⟩
  ·obtain⟨I,rfl⟩:=aB (α:=World) wr;have f0:=aa a0;clear a0 e8;go_wp2_with(first|(at_make;refine wpList_make_full _ rfl _ _ 107 rfl I.1.size 4 e7 (.bool false) 1 underlying107 hi a2 e5 .i64 .i64 _ _ j rfl rfl rfl rfl (by rw[e6];omega) (by unfold maxLen;omega) aQ ?_;intro Q c3 g1)|(at_make;refine wpList_make_full _ rfl _ _ 107 rfl Q.1.size 4 e7 (.bool false) 1 underlying107 hi a2 e5 .i64 .i64 _ _ j rfl rfl rfl rfl (by rw[e6];omega) (by unfold maxLen;omega) aQ ?_;intro c6 b5 g2));rw[sW] at c3 b5;have f7:Below I.1.size I Q:=aZ.grown g1 aQ (by intro k h;cases h);have d8:Below Q.1.size Q c6:=aZ.grown g2 aQ (by intro k h;cases h);have l5:I.1.size<Q.1.size:=(gG c3).choose_spec.2.1|>λh=>(bD.1 h).1
   have l4:Q.1.size<c6.1.size:=(gG b5).choose_spec.2.1|>λh=>(bD.1 h).1
   have e2:=ai c3 d8;have d7:Below I.1.size I c6:=bs f7 d8;have h0:=aa (ai f0.o d7);have d9:Below w.1.size w c6:=E.trans (d7.mono E.size);clear g1 g2 c3 f7 d8 d7 E;go_loopw[8] (λi wr=>∃q:Nat,q<=j/\i= Ud q/\wr.ownsRow w.1.size 4 1 (.slice (some ⟨w.1.size,0,none⟩) j j) j (bP (fq K j))/\wr.ownsRow I.1.size 4 1 (.slice (some ⟨I.1.size,0,none⟩) j j) j (bP (fq (rp K D q 0) j))/\wr.ownsRow Q.1.size 4 1 (.slice (some ⟨Q.1.size,0,none⟩) j j) j (bP (fq (rr K D q 0) j))/\Below w.1.size w wr) (λi _=>j-(intOf i).toNat);exact⟨0,by omega,rfl,h0.o,by rw[dA (K:=rp K D 0 0) (L:=λ_=>false) (λi _=>Id K D i)];exact e2,by rw[dA (K:=rr K D 0 0) (L:=λ_=>false) (λi _=>Is K D i)];exact b5,d9⟩;obtain⟨q,l9,rfl,F,O,J,E⟩:=hrel;by_cases c2:q<j
   ·obtain⟨r,b6⟩:=aE (l:=D) (n:=q) (by rw[e9.o];exact c2);have a4:=aa b6;obtain⟨h4,k2,k5,k6,rfl,i2,f8,e3⟩:=qn h2.o c2 b6;have j7:=e3.lim;have f2:=aa e3;have f3:=aa (a7.o q r b6);have j4:(af r).length=r.length:=by simp[af]
    have d0:=aa F;have c8:=aa O;have c7:=aa J;clear b6 e3 F O J e2 b5 d9;obtain⟨L,d5⟩:=aB r.length;rw[<-d5] at f8 j7 f2;have d1:=aa d5;clear d5 j4;go_wp2;go_loopw[9] (λi wr=>∃t:Nat,t<=L/\i= Ud t/\wr.ownsRow w.1.size 4 1 (.slice (some ⟨w.1.size,0,none⟩) j j) j (bP (fq K j))/\wr.ownsRow I.1.size 4 1 (.slice (some ⟨I.1.size,0,none⟩) j j) j (bP (fq (rp K D q t) j))/\wr.ownsRow Q.1.size 4 1 (.slice (some ⟨Q.1.size,0,none⟩) j j) j (bP (fq (rr K D q t) j))/\Below w.1.size w wr) (λi _=>L-(intOf i).toNat);exact⟨0,by omega,rfl,d0.o,c8.o,c7.o,E⟩;obtain⟨t,m3,rfl,F,O,J,E⟩:=hrel;have i6:=(E.cell (p:=⟨h4,k2+q,none⟩) i2).trans f8;have m0:(q:Int)<(j:Int):=(by omega);by_cases j6:t<L
    ·obtain⟨z,a2⟩:=aE (l:=r) (n:=t) (by rw[<-d1.o];exact j6);obtain⟨x,rfl⟩:∃x:Nat,z=(x:Int):=⟨z.toNat,by have:=f3.o z (aj a2);omega⟩;have g7:x<j:=by have:=f3.o x (aj a2);omega
     have a9:=aa a2;obtain⟨h5,k3,rfl,i3,f9⟩:=f2.o.at_ (by omega);have l1:=(E.cell (p:=⟨h5,k3+t,none⟩) i3).trans (f9 t _ (aP a2));have i7:wr.cell? ⟨w.1.size,q,none⟩=some (.bool (K q)):=(F.cellAt q (by omega)).trans (dL c2);have i8:wr.cell? ⟨w.1.size,x,none⟩=some (.bool (K x)):=(F.cellAt x (by omega)).trans (dL g7);have l0:wr.cell? ⟨I.1.size,q,none⟩=some (.bool (rp K D q t q)):=(O.cellAt q (by omega)).trans (dL c2);have k9:wr.cell? ⟨Q.1.size,x,none⟩=some (.bool (rr K D q t x)):=(J.cellAt x (by omega)).trans (dL g7);have l3:=O.frozenAt q;have l2:=J.frozenAt x;have l7:¬(I.1.size=Q.1.size):=(by omega);have l8:¬(Q.1.size=I.1.size):=(by omega);have m4:(x:Int)<(j:Int):=(by omega);have b3:=aa F;have Z:=aa O;have Y:=aa J;obtain⟨u,b0⟩:=aB (K q);obtain⟨y,b1⟩:=aB (K x);rw[<-b0] at i7;rw[<-b1] at i8;have a8:=aa b0;have c1:=aa b1;clear F O J a2 f9 b0 b1;cases u
     ·go_wp2;go_roundw;exact⟨t+1,by omega,by go_num,b3.o,by rw[<-dA (λi _=>Lg a4.o a9.o (by rw[<-a8.o];rfl) i)];exact Z.o,by rw[<-dA (λi _=>Lk a4.o a9.o (by rw[<-a8.o];rfl) i)];exact Y.o,E⟩;simp[intOf];omega
     ·cases y
      ·go_wp2;go_roundw;exact⟨t+1,by omega,by go_num,b3.o,by rw[<-dA (λi _=>Lg a4.o a9.o (by rw[<-a8.o,<-c1.o];rfl) i)];exact Z.o,by rw[<-dA (λi _=>Lk a4.o a9.o (by rw[<-a8.o,<-c1.o];rfl) i)];exact Y.o,E⟩;simp[intOf];omega
      ·go_wp2;go_roundw;have c4:=Z.o.stored q (.bool true);have h6:=Y.o.kept c4.2 (Or.inr (by simp[Value.ownBlock];omega));have h8:=b3.o.kept c4.2 (Or.inr (by simp[Value.ownBlock];omega));have c5:=h6.stored x (.bool true);have f5:=c4.1.kept c5.2 (Or.inr (by simp[Value.ownBlock];omega));have h9:=h8.kept c5.2 (Or.inr (by simp[Value.ownBlock];omega));rw[kb,dA (λi _=>Ql a4.o a9.o a8.o.symm c1.o.symm i)] at f5;have f4:=c5.1;rw[kb,dA (λi _=>Qo a4.o a9.o a8.o.symm c1.o.symm i)] at f4;exact⟨t+1,by omega,by go_num,h9,f5,f4,(E.grown c4.2 E.size (by rintro k ⟨⟩;omega)).grown c5.2 (by simpa using E.size) (by rintro k ⟨⟩;omega)⟩;simp[intOf];omega
    ·obtain rfl:t=L:=by omega
     have b3:=aa F;have Z:=aa O;have Y:=aa J;clear F O J;go_wp2;go_roundw;exact⟨q+1,by omega,by go_num,b3.o,by rw[<-dA (λi _=>Lh K a4.o i),<-d1.o];exact Z.o,by rw[<-dA (λi _=>Ll K a4.o i),<-d1.o];exact Y.o,E⟩;simp[intOf];omega
   ·obtain rfl:q=j:=by omega
    have d0:=aa F;have c8:=aa O;have c7:=aa J;obtain⟨H,f6⟩:=aB (α:=Nat->Bool) (λi=>rp K D q 0 i&&rr K D q 0 i);have c9:=aa f6;clear F O J e2 b5 d9 f6;go_wp2;go_loopw[5,10] (λc i wr=>∃(r:Nat) (b:Bool),r<=q/\i= Ud r/\c= .bool b/\bv (b=Sb K H r)/\wr.ownsRow w.1.size 4 1 (.slice (some ⟨w.1.size,0,none⟩) q q) q (bP (fq (λi=>K i&&(!decide (i<r)||H i)) q))/\wr.ownsRow I.1.size 4 1 (.slice (some ⟨I.1.size,0,none⟩) q q) q (bP (fq (rp K D q 0) q))/\wr.ownsRow Q.1.size 4 1 (.slice (some ⟨Q.1.size,0,none⟩) q q) q (bP (fq (rr K D q 0) q))/\Below w.1.size w wr) (λ_ i _=>q-(intOf i).toNat);exact⟨0,false,by omega,rfl,rfl,rfl,by rw[dA (L:=K) (λi _=>by simp)];exact d0.o,c8.o,c7.o,E⟩;obtain⟨r,b,b6,rfl,rfl,a3,F,O,J,a5⟩:=hrel;by_cases e1:r<q
    ·have i9:wr.cell? ⟨w.1.size,r,none⟩=some (.bool (K r)):=by
      rw[F.cellAt r (by omega),dL e1];simp
     have i5:wr.cell? ⟨I.1.size,r,none⟩=some (.bool (rp K D q 0 r)):=(O.cellAt r (by omega)).trans (dL e1);have i4:wr.cell? ⟨Q.1.size,r,none⟩=some (.bool (rr K D q 0 r)):=(J.cellAt r (by omega)).trans (dL e1);have j0:=F.frozenAt r;have b8:=aa F;have Z:=aa O;have Y:=aa J;have b4:=aa (show(bP (fq (λi=>K i&&(!decide (i<r)||H i)) q)).set r (.bool (K r&&H r))=bP (fq (λi=>K i&&(!decide (i<r+1)||H i)) q) by
      rw[kb];refine congrArg bP (dA λi _=> ?_);by_cases h:i=r
      ·subst h;simp
      ·rw[if_neg h,show decide (i<r+1)=decide (i<r) by rw[decide_eq_decide];omega])
     have c0:=aa (show(K r&& !H r)=false->fq (λi=>K i&&(!decide (i<r)||H i)) q=fq (λi=>K i&&(!decide (i<r+1)||H i)) q fromλa6=>dA λi _=>by
      by_cases h:i=r
      ·subst h;cases a1:K i
       ·rfl
       ·rw[a1,dK] at a6;have:H i=true:=by simpa using a6
        rw[this];simp
      ·rw[show decide (i<r+1)=decide (i<r) by rw[decide_eq_decide];omega])
     have W:=aa (Qg K H r);rw[<-a3.o] at W;have b2:=aa (show H r=(rp K D q 0 r&&rr K D q 0 r) by rw[c9.o]);obtain⟨u,b0⟩:=aB (K r);obtain⟨x,a6⟩:=aB (rp K D q 0 r);obtain⟨y,b1⟩:=aB (rr K D q 0 r);rw[<-b0] at i9 b4 c0 W;rw[<-a6] at i5 b2;rw[<-b1] at i4 b2;have m1:(r:Int)<(q:Int):=(by omega);clear F O J b0 a6 b1 a3;cases u
     ·rw[gO,eR] at W;have d2:=aa (c0.o rfl);go_wp2;go_roundw;exact⟨r+1,_,by omega,by go_num,rfl,aa W.o.symm,by rw[<-d2.o];exact b8.o,Z.o,Y.o,a5⟩;simp[intOf];omega
     ·cases x
      ·have d4:H r=false:=b2.o;rw[d4] at W b4;rw[show(b||(true&& !false))=true by simp] at W;go_wp2;go_roundw;have U:=b8.o.stored r (.bool false);rw[show(Value.bool false)= .bool (true&&false) from rfl,b4.o] at U;exact⟨r+1,_,by omega,by go_num,rfl,aa W.o.symm,U.1,Z.o.kept U.2 (Or.inr (by simp[Value.ownBlock];omega)),Y.o.kept U.2 (Or.inr (by simp[Value.ownBlock];omega)),a5.grown U.2 a5.size (by rintro k ⟨⟩;exact aN _)⟩;simp[intOf];omega
      ·cases y
       ·have d4:H r=false:=b2.o;rw[d4] at W b4;rw[show(b||(true&& !false))=true by simp] at W;go_wp2;go_roundw;have U:=b8.o.stored r (.bool false);rw[show(Value.bool false)= .bool (true&&false) from rfl,b4.o] at U;exact⟨r+1,_,by omega,by go_num,rfl,aa W.o.symm,U.1,Z.o.kept U.2 (Or.inr (by simp[Value.ownBlock];omega)),Y.o.kept U.2 (Or.inr (by simp[Value.ownBlock];omega)),a5.grown U.2 a5.size (by rintro k ⟨⟩;exact aN _)⟩;simp[intOf];omega
       ·have h7:H r=true:=b2.o;rw[h7] at W c0;rw[show(b||(true&& !true))=b by simp] at W;have d2:=aa (c0.o rfl);go_wp2;go_roundw;exact⟨r+1,_,by omega,by go_num,rfl,aa W.o.symm,by rw[<-d2.o];exact b8.o,Z.o,Y.o,a5⟩;simp[intOf];omega
    ·obtain rfl:r=q:=by omega
     have g3:wr.ownsRow w.1.size 4 1 (.slice (some ⟨w.1.size,0,none⟩) r r) r (bP (fq (λi=>K i&&H i) r)):=by
      rw[dA (L:=λi=>K i&&(!decide (i<r)||H i)) (λi hi=>by simp[hi])];exact F
     have j9:w.1.size<wr.1.size:=(gG F).choose_spec.2.1|>λh=>(bD.1 h).1
     have h3:=aa (show xP w.1.size r wr+(match Value.bool b with| .bool true=>1|_=>0)<xP w.1.size r I+1 by
      rw[sS g3,sS f0.o];cases b
      ·have:=Hn (K:=K) (L:=λi=>K i&&H i) (M:=r) (λi hi=>by
        cases a1:K i
        ·rfl
        ·rw[JF a3.o.symm hi a1];rfl)
       simp only[];omega
      ·obtain⟨x,a6,j3,j1⟩:=Sa a3.o.symm;have:=oO (K:=K) (L:=λi=>K i&&H i) (M:=r) (λi hi=>by rw[aC] at hi;exact hi.1) a6 j3 (by simp[j1]);simp only[];omega)
     have g8:=aa (show b=false->∀i,i<r->(K i&&H i)=true->(rp (λi=>K i&&H i) D r 0 i&&rr (λi=>K i&&H i) D r 0 i)=true fromλi0 i hi a1=>by
      rw[i0] at a3;have e4:∀i,i<r->(K i&&H i)=K i:=λi hi=>by
       cases a1:K i
       ·rfl
       ·rw[JF a3.o.symm hi a1];rfl
      have j2:K i=true:=by rw[<-e4 i hi];exact a1
      have e0:=JF a3.o.symm hi j2;rw[c9.o] at e0;rw[aC,EZ a7.o hi,Ff] at e0;rw[aC,EZ a7.o hi,Ff];obtain⟨⟨_,s,b7,j8⟩,_,t,g6,k0,k1⟩:=e0;refine⟨⟨a1,s,b7,?_⟩,a1,t,g6,k0,by show(K t&&H t)=true;rw[e4 t g6];exact k1⟩;show(K s&&H s)=true
      rw[e4 s ?_]
      ·exact j8
      ·unfold Ix at b7;cases hg:D[i]? with
       |none=>rw[ah,hg] at b7;cases b7
       |some r'=>
        have e:D.getD i []=r':=by rw[ah,hg];rfl
        have:=a7.o i r' hg _ (by rw[<-e];exact b7);omega)
     have h1:=aa (show∀i,i<r->jb D r i->(K i&&H i)=true by
      rw[c9.o];exact Df a7.o f1.o)
     clear F O J a3;go_wp2;go_roundw;exact⟨_,b,rfl,g3,a5,j9,h1.o,g8.o⟩;exact h3.o
def Fs(p w:List UInt8):Prop:=∃a b,w=a++p++b
theorem Fs.refl(w):Fs w w:=⟨[],[],by simp⟩
theorem Fs.trans{p q w}(h:Fs p q)(k:Fs q w):Fs p w:=by
 obtain⟨a,b,rfl⟩:=h;obtain⟨c,d,rfl⟩:=k;exact⟨c++a,b++d,by simp⟩
theorem Fs.left(p b):Fs p (p++b):=⟨[],b,by simp⟩
theorem Fs.right(a p):Fs p (a++p):=⟨a,[],by simp⟩
theorem Fs.nil(w):Fs [] w:=⟨[],w,by simp⟩
def ke(p w:List UInt8):Bool:=(List.range (w.length+1)).any λi=>decide (i+p.length<=w.length)&&decide ((w.drop i).take p.length=p)
theorem rX{p w}:ke p w=true↔Fs p w:=by
 unfold ke;rw[bB];constructor
 ·rintro⟨i,_,h⟩;rw[aC,decide_eq_true_iff,decide_eq_true_iff] at h;refine⟨w.take i,(w.drop i).drop p.length,?_⟩;have D:=dX p.length (w.drop i);rw[h.2] at D;rw[cJ,D,dX]
 ·rintro⟨a,b,rfl⟩;refine⟨a.length,aD.2 (by simp;omega),?_⟩;rw[aC,decide_eq_true_iff,decide_eq_true_iff];refine⟨by simp,?_⟩;rw[cJ,List.drop_left,List.take_left]
def oS(ss:List ByteArray)(w:List UInt8):Bool:=ss.all λf=> !ke f.1.1 w
theorem zn{ss}{w}:oS ss w=true↔∀f∈ss,¬Fs f.1.1 w:=by
 unfold oS;rw[bm];constructor
 ·intro h f D k;have:=h f D;rw[rX.2 k] at this;cases this
 ·intro h f D;cases hb:ke f.1.1 w
  ·rfl
  ·exact absurd (rX.1 hb) (h f D)
theorem Qn{ss}{p w}(h:oS ss w=true)(k:Fs p w):oS ss p=true:=by
 rw[zn] at h⊢;exactλf D E=>h f D (E.trans k)
def ww(ss:List ByteArray)(w:List UInt8):Nat->Bool|0=>true|j+1=>ww ss w j&& !ke (ss.getD j ByteArray.empty).1.1 w
theorem Ij{ss:List ByteArray}{w:List UInt8}:∀{n},n<=ss.length->(ww ss w n=true↔∀(j:Nat) (f:ByteArray),j<n->ss[j]? =some f->ke f.1.1 w=false)
 |0,_=>by simp[ww]
 |n+1,hn=>by
  obtain⟨g,E⟩:=aE (l:=ss) (n:=n) (by omega);have O:=Ij (ss:=ss) (w:=w) (n:=n) (by omega);unfold ww;rw[aC,O,ah,E];constructor
  ·rintro⟨F,I⟩ j f J D;rcases eE j n with h|h
   ·exact F j f h D
   ·obtain rfl:j=n:=by omega
    rw[E] at D;injection D with D
    subst D;simpa using I
  ·intro h;exact⟨λj f J D=>h j f (by omega) D,by simpa using h n g (by omega) E⟩
theorem Ik{ss}{w}:ww ss w ss.length=oS ss w:=by
 rw[bF,Ij aQ,oS];rw[bm];constructor
 ·intro h f D;obtain⟨j,E⟩:=cf.1 D;rw[h j f (aw.1 E).1 E];rfl
 ·intro h j f _ D;have:=h f (aj D);simpa using this
theorem DM{ss}{w}{k:Nat}{f}(D:ss[k]? =some f)(h:ke f.1.1 w=true):oS ss w=false:=by
 cases hb:oS ss w
 ·rfl
 ·exact absurd (rX.1 h) (zn.1 hb f (aj D))
theorem DN{ss}{w}{k}{f}(D:ss[k]? =some f)(h:ke f.1.1 w=false)(E:ww ss w k=true):ww ss w (k+1)=true:=by
 unfold ww;rw[E,ah,D];simp[h]
def oH(k i:Nat):List UInt8:=pd k 2 i
def Jb(ss:List ByteArray)(k i:Nat):Bool:=oS ss (oH k i)
def eP(ss:List ByteArray)(k i j:Nat):Bool:=decide (i%k=j/k)&&oS ss (oH k i++[dO (j%k)])
def yK(ss:List ByteArray)(k i:Nat):Prop:=∃T:Nat->Prop,T i/\∀q,T q->(q<k^2/\Jb ss k q=true)/\(∃r,eP ss k q r=true/\T r)/\∃r,eP ss k r q=true/\T r
noncomputable def mI(ss:List ByteArray)(k i:Nat):Bool:= @decide (yK ss k i) (Classical.propDecidable _)
theorem sa{ss}{k i}:mI ss k i=true↔yK ss k i:=by
 unfold mI;exact @decide_eq_true_iff _ (Classical.propDecidable _)
theorem kq{ss}{k i}(h:yK ss k i):i<k^2/\Jb ss k i=true:=by
 obtain⟨T,hi,D⟩:=h;exact(D i hi).1
theorem Kw{ss}{k i}(h:yK ss k i):(∃r,eP ss k i r=true/\yK ss k r)/\∃r,eP ss k r i=true/\yK ss k r:=by
 obtain⟨T,hi,D⟩:=h;obtain⟨_,⟨r,E,F⟩,⟨u,J,I⟩⟩:=D i hi;exact⟨⟨r,E,T,F,D⟩,⟨u,J,T,I,D⟩⟩
def AV(ss:List ByteArray)(k:Nat)(K:Nat->Bool)(i:Nat):Bool:=(List.range (k^2)).any (λr=>K r&&eP ss k i r)&&(List.range (k^2)).any λr=>K r&&eP ss k r i
theorem PH{ss}{k}{K}(h:∀i,i<k^2->yK ss k i->K i=true){i}(hi:yK ss k i):AV ss k K i=true:=by
 obtain⟨⟨r,F,D⟩,⟨u,I,E⟩⟩:=Kw hi;unfold AV;rw[aC,bB,bB];exact⟨⟨r,aD.2 (kq D).1,by rw[aC];exact⟨h r (kq D).1 D,F⟩⟩,⟨u,aD.2 (kq E).1,by rw[aC];exact⟨h u (kq E).1 E,I⟩⟩⟩
theorem PI{ss}{k}{K}(O:∀i,i<k^2->K i=true->Jb ss k i=true)(h:∀i,i<k^2->K i=true->AV ss k K i=true){i}(hi:i<k^2)(J:K i=true):yK ss k i:=by
 refine⟨λq=>q<k^2/\K q=true,⟨hi,J⟩,λq D=> ?_⟩;have I:=h q D.1 D.2;unfold AV at I;rw[aC,bB,bB] at I;obtain⟨⟨r,Q,E⟩,⟨u,U,F⟩⟩:=I;rw[aC] at E F;exact⟨⟨D.1,O q D.1 D.2⟩,⟨r,E.2,aD.1 Q,E.1⟩,⟨u,F.2,aD.1 U,F.1⟩⟩
def gD(ss:List ByteArray)(k:Nat):List Nat:=(List.range (k^2)).filter (Jb ss k)
def kd(ss:List ByteArray)(k:Nat):List (List Int):=(gD ss k).map λi=>((List.range (gD ss k).length).filter λt=>eP ss k i ((gD ss k).getD t 0)).map λ(t:Nat)=>((t:Nat):Int)
theorem CU{ss}{k t i:Nat}(h:(gD ss k)[t]? =some i):i<k^2/\Jb ss k i=true:=by
 have:=bY.1 (aj h);exact⟨aD.1 this.1,this.2⟩
theorem Gq{ss}{k i}(h:i<k^2)(D:Jb ss k i=true):∃t:Nat,(gD ss k)[t]? =some i:=cf.1 (bY.2 ⟨aD.2 h,D⟩)
theorem nd{ss}{k s t i j}(F:(gD ss k)[s]? =some i)(D:(gD ss k)[t]? =some j):Ix (kd ss k) s t↔eP ss k i j=true:=by
 unfold Ix kd;rw[ah,dl,F];simp only[mY,ci,bi,bY,aD];have I:=(aw.1 D).1;constructor
 ·rintro⟨u,⟨_,E⟩,J⟩;obtain rfl:u=t:=(by omega);rw[ah,D] at E;exact E
 ·intro h;exact⟨t,⟨I,by rw[ah,D];exact h⟩,rfl⟩
theorem Mi{ss}{k s i}(Z:(gD ss k)[s]? =some i):jb (kd ss k) (gD ss k).length s↔yK ss k i:=by
 constructor
 ·rintro⟨T,a0,E⟩;refine⟨λq=>∃u,(gD ss k)[u]? =some q/\T u,⟨s,Z,a0⟩,?_⟩;rintro q ⟨u,Q,a3⟩;obtain⟨_,⟨r,O,h⟩,⟨v,U,D⟩⟩:=E u a3;obtain⟨a4,W⟩:=aE (l:=gD ss k) (n:=r) (E r h).1;obtain⟨a5,Y⟩:=aE (l:=gD ss k) (n:=v) (E v D).1;exact⟨CU Q,⟨a4,(nd Q W).1 O,r,W,h⟩,⟨a5,(nd Y Q).1 U,v,Y,D⟩⟩
 ·intro a1;refine⟨λu=>∃q,(gD ss k)[u]? =some q/\yK ss k q,⟨i,Z,a1⟩,?_⟩;rintro u ⟨q,J,a2⟩;obtain⟨⟨r,O,F⟩,⟨v,U,I⟩⟩:=Kw a2;obtain⟨a6,h⟩:=Gq (kq F).1 (kq F).2;obtain⟨a7,D⟩:=Gq (kq I).1 (kq I).2;exact⟨(aw.1 J).1,⟨a6,(nd J h).2 O,r,h,F⟩,⟨a7,(nd D J).2 U,v,D,I⟩⟩
noncomputable def iu(ss:List ByteArray)(k:Nat):List Nat:=(List.range (k^2)).filter (mI ss k)
theorem SB{ss}{k}:iu ss k=(gD ss k).filter (mI ss k):=by
 unfold iu gD;rw[List.filter_filter];refine eX λi hi=> ?_
 cases h:mI ss k i
 ·rfl
 ·rw[(kq (sa.1 h)).2];rfl
def lu(s:ByteArray)(b:UInt8):Nat->List ByteArray×Nat
 |0=>([],0)
 |i+1=>if i=s.size\/s.1.1[i]? =some b then((lu s b i).1++[s.extract (lu s b i).2 i],i+1) else lu s b i
def pc(s:ByteArray)(b:UInt8):List ByteArray:=(lu s b (s.size+1)).1
theorem KX{s}{b}{i q}{xs}(h:lu s b i=(xs,q))(D:i=s.size\/s.1.1[i]? =some b):lu s b (i+1)=(xs++[s.extract q i],i+1):=by
 rw[lu,if_pos D,h]
theorem PZ{s}{b}{i q}{xs}(h:lu s b i=(xs,q))(D:¬(i=s.size\/s.1.1[i]? =some b)):lu s b (i+1)=(xs,q):=by
 rw[lu,if_neg D,h]
theorem sE(s:ByteArray)(b:UInt8):∀i,(lu s b i).1.length<=i/\(lu s b i).2<=i/\∀x∈(lu s b i).1,x.size<=s.size
 |0=>⟨by simp[lu],by simp[lu],by simp[lu]⟩
 |i+1=>by
  obtain⟨E,F,D⟩:=sE s b i;unfold lu;split
  ·refine⟨by simp;omega,by simp,λx h=> ?_⟩;rcases cH.1 h with h|h
   ·exact D x h
   ·simp at h;subst h;rw[bl];omega
  ·exact⟨by omega,by omega,D⟩
theorem nZ(s)(b):1<=(pc s b).length/\(pc s b).length<=s.size+1/\∀x∈pc s b,x.size<=s.size:=by
 refine⟨?_,(sE s b _).1,(sE s b _).2.2⟩;unfold pc;rw[lu,if_pos (Or.inl rfl)];simp
theorem GV:(prog.info? 9).map (λi=>(i.zero,i.size,i.bytes))=some (some (.string ByteArray.empty),1,16):=by kernel_rfl
def wL(s:ByteArray)(b:UInt8)(w:World)(e:Ending)(w':World):Prop:=
 ∃v,e= .returned v/\w'.ownsRow w.1.size 9 1 v (pc s b).length (ap (pc s b))/\Below w.1.size w w'
theorem jJ(s)(b)(w)(b2:s.size<=1048576):
 Calls prog 191 #[.string s,.int .u8 b.toNat] w (wL s b w):=by
 have U:World.ownsRow (w.alloc (.cells #[] 9)) w.1.size 9 1 (.slice (some ⟨w.1.size,0,none⟩) 0 0) 0 []:=
  iS w #[] 0 aQ (dW _) rfl
 have Z:=aa U;have Y:=aa (show Below w.1.size w (w.alloc (.cells #[] 9)) from aZ.alloc aQ _);have a4:=b.toNat_lt;go_enter func191,ntmps191;go_wp2;go_loopw[5,6,7] (λv f i wr=>∃(j q:Nat) (xs:List ByteArray),j<=s.size+1/\i= Ud j/\f= Ud q/\q<=j/\xs.length<=j/\bv (lu s b j=(xs,q))/\wr.ownsRow w.1.size 9 1 v xs.length (ap xs)/\Below w.1.size w wr) (λ_ _ i _=>s.size+1-(intOf i).toNat);exact⟨0,0,[],by omega,rfl,rfl,by omega,by simp,rfl,Z.o,Y.o⟩;obtain⟨j,q,xs,a6,rfl,rfl,b0,b4,D,J,F⟩:=hrel;have b1:(q:Int)<=(j:Int):=(by omega);by_cases W:j<s.size
 ·have a7:(j:Int)<(s.size:Int):=by omega
  have a8:(j:Int)<=(s.size:Int):=(by omega);have a9:((j:Int)==(s.size:Int))=false:=by rw[beq_eq_false_iff_ne];omega
  by_cases E:s[j]=b
  ·have I:=aa (KX D.o (Or.inr (by rw[dq s j W,E])));have a2:((s[j].toNat:Int)==(b.toNat:Int))=true:=by rw[E];simp
   have b3:(s[j].toNat:Int)=(b.toNat:Int):=by rw[E]
   go_wp2_with(first|(at_builtin;go_must(refine jx rfl _ _ 26 rfl w.1.size 9 (.string ByteArray.empty) 16 underlying26 GV rfl _ xs.length (ap xs) _ J rfl rfl rfl (by omega) (by unfold maxLen;omega) F F.size ?_);intro v' a3 Q O));go_roundw;exact⟨j+1,j+1,xs++[s.extract q j],by omega,by go_num,by go_num,by omega,by simp;omega,I,by rw[az];simpa[ap] using Q,O⟩;simp[intOf]<;>omega
  ·have I:=aa (PZ D.o (λh=>h.elim (λe=>by omega) (λe=>by
    rw[dq s j W] at e;injection e with e
    exact E e)))
   have a2:((s[j].toNat:Int)==(b.toNat:Int))=false:=by
    rw[beq_eq_false_iff_ne];intro e;exact E (dz.1 (by omega))
   go_wp2;go_roundw;exact⟨j+1,q,xs,by omega,by go_num,rfl,by omega,by omega,I,J,F⟩;simp[intOf]<;>omega
 ·by_cases a0:j=s.size
  ·subst a0;have I:=aa (KX D.o (Or.inl rfl));go_wp2_with(first|(at_builtin;go_must(refine jx rfl _ _ 26 rfl w.1.size 9 (.string ByteArray.empty) 16 underlying26 GV rfl _ xs.length (ap xs) _ J rfl rfl rfl (by omega) (by unfold maxLen;omega) F F.size ?_);intro v' a3 Q O));go_roundw;exact⟨s.size+1,s.size+1,xs++[s.extract q s.size],by omega,by go_num,by go_num,by omega,by simp;omega,I,by rw[az];simpa[ap] using Q,O⟩;simp[intOf]<;>omega
  ·obtain rfl:j=s.size+1:=by omega
   have a5:¬(((s.size+1:Nat):Int)<=(s.size:Int)):=(by omega);have a1:xs=pc s b:=by unfold pc;rw[D.o]
   go_wp2;go_ret;exact⟨_,rfl,by rw[<-a1];exact J,F⟩
def qV(s:ByteArray):Bool:=s.1.1.head? ==some 45
def oD(s:ByteArray):List UInt8:=if qV s then s.1.1.drop 1 else s.1.1
def gC(s:ByteArray)(most:Nat):Option Int:=
 if 1<=(oD s).length/\(oD s).length<=most then
  match Lib.decFrom 0 (oD s) with
  |none=>none
  |some n=>if cF (if qV s then-(n:Int) else n)=s then some (if qV s then-(n:Int) else n) else none
 else none
theorem KP{l:List UInt8}{j acc}{c}(h:Lib.decFrom 0 (l.take j)=some acc)(F:l[j]? =some c)(D:48<=c.toNat)(E:c.toNat<=57):Lib.decFrom 0 (l.take (j+1))=some (acc*10+(c.toNat-48)):=
 Lib.decFrom_take l j 0 acc c (c.toNat-48) h F (by unfold Lib.digitVal;rw[if_pos ⟨D,E⟩])
theorem zj{l}{j:Nat}{c}(D:l[j]? =some c)(h:c.toNat<48\/57<c.toNat):Lib.decFrom 0 l=none:=by
 cases hd:Lib.decFrom 0 l with
 |none=>rfl
 |some n=>
  obtain⟨d,E⟩:=Lib.digit_of_decFrom l 0 n hd j c D;have:=Lib.digitVal_eq E;omega
theorem iQ{s}{most}(h:¬(1<=(oD s).length/\(oD s).length<=most)\/Lib.decFrom 0 (oD s)=none):gC s most=none:=by
 unfold gC;rcases h with h|h
 ·rw[if_neg h]
 ·rw[h];simp
theorem nB{s}{most n}{m}(h:1<=(oD s).length/\(oD s).length<=most)(E:Lib.decFrom 0 (oD s)=some n)(D:m=if qV s then-(n:Int) else n):gC s most=if cF m=s then some m else none:=by
 unfold gC;rw[if_pos h,E,D]
theorem JY(a b:ByteArray):(a.toList==b.toList)=decide (a=b):=by
 by_cases h:a=b
 ·rw[h];simp
 ·rw[decide_eq_false h,beq_eq_false_iff_ne];intro e;rw[Lib.toList_data,Lib.toList_data] at e;refine h ?_;cases a;cases b;simp at e;rw[e]
theorem Pq(s)(most:Nat)(w)(c7:s.size<=1048576)(D:most<=12):
 Calls prog 243 #[.string s,Ud most] w λe w'=>e= .returned (.tuple #[Ud ((gC s most).getD 0),.bool (gC s most).isSome])/\Below w.1.size w w':=by
 by_cases b1:s.size=0
 ·have h:=aa (iQ (s:=s) (most:=most) (Or.inl (by
   have:s.1.1=[]:=ey (by rw[bM];exact b1);unfold oD;rw[this];split<;>simp)))
  have c4:¬((0:Int)<(s.size:Int)):=(by omega);have c5:(s.size:Int)<1:=(by omega);go_enter func243,ntmps243;go_wp2;go_ret2;exact⟨by rw[h.o];rfl,aZ⟩
 ·have c1:0<s.size:=by omega
  have c6:(0:Int)<(s.size:Int):=(by omega);have a2:s.1.1.head? =some s[0]:=by rw[<-dq s 0 c1,List.head?_eq_getElem?]
  by_cases U:s[0]=45
  ·have W:=aa (show qV s=true by unfold qV;rw[a2,U];rfl);have c2:(s[0].toNat:Int)=45:=by rw[U];rfl
   obtain⟨t,a3⟩:=aB (s.extract 1 s.size);have E:=aa (show t.1.1=oD s by
    unfold oD;rw[W.o,if_pos rfl,a3,Lib.extract_data,aM (by rw[List.length_drop,bM];exact aN _)])
   have b0:=aa a3;have c8:t.size<=s.size:=by rw[a3,bl];omega
   clear a2 U a3;go_enter func243,ntmps243;go_upto_region 5 with fail
   rw[<-b0.o];by_cases b9:1<=t.size
   ·by_cases c0:t.size<=most
    ·have a9:(t.size:Int)<=(most:Int):=by omega
     have a0:¬((t.size:Int)<1):=(by omega);go_wp2;go_loop[8,9] (λn i=>∃j acc:Nat,j<=t.size/\i= Ud j/\n= Ud acc/\bv (Lib.decFrom 0 (t.1.1.take j)=some acc)) (λ_ i=>t.size-(intOf i).toNat);exact⟨0,0,by omega,rfl,rfl,by show _=_;simp[Lib.decFrom]⟩;obtain⟨j,acc,b7,rfl,rfl,I⟩:=hrel;have b2:=Lib.decFrom_take_lt I.o (by omega);by_cases Q:j<t.size
     ·have b8:(j:Int)<(t.size:Int):=by omega
      have b4:=(t[j]).toNat_lt;by_cases a6:t[j].toNat<48
      ·have h:=aa (iQ (s:=s) (most:=most) (Or.inr (by rw[<-E.o];exact zj (dq t j Q) (Or.inl a6))));have a7:(t[j].toNat:Int)<48:=(by omega);go_wp2;go_ret2;exact⟨by rw[h.o];rfl,aZ⟩
      ·by_cases a8:57<t[j].toNat
       ·have h:=aa (iQ (s:=s) (most:=most) (Or.inr (by rw[<-E.o];exact zj (dq t j Q) (Or.inr a8))));have a7:¬((t[j].toNat:Int)<48):=(by omega);have b3:(57:Int)<(t[j].toNat:Int):=(by omega);go_wp2;go_ret2;exact⟨by rw[h.o];rfl,aZ⟩
       ·have h:=aa (KP I.o (dq t j Q) (by omega) (by omega));obtain⟨d,b5⟩:∃d,t[j].toNat=48+d:=⟨t[j].toNat-48,by omega⟩;rw[show t[j].toNat-48=d by omega] at h;have b6:d<=9:=(by omega);go_wp2;go_round;exact⟨j+1,acc*10+d,by omega,by go_num,by go_num,h⟩;simp[intOf]<;>omega
     ·obtain rfl:j=t.size:=by omega
      have O:=I.o;rw[aM (by rw[bM];exact aN _),E.o] at O;have a5:=aa (λ(m:Int) (D:m=if qV s then-(acc:Int) else acc)=>nB (s:=s) (most:=most) (by rw[<-E.o,bM];omega) O D);clear O I;obtain⟨m,D⟩:=aB (α:=Int) (if qV s then-(acc:Int) else acc);have Y:=aa (a5.o m D);rw[W.o] at D;simp only[if_true,if_false,eI,reduceIte] at D;have a4:=aa (λw=>dy m w (by omega) (by omega));subst D;go_wp2_with fail;refine(a4.o _).mono ?_;rintro e c3 ⟨rfl,Z⟩;have a1:=JY (cF (-↑acc)) s;by_cases F:cF (-↑acc)=s
      ·rw[decide_eq_true F] at a1;have J:=aa (show gC s most=some (-↑acc) by rw[Y.o,if_pos F]);clear F;go_wp2;go_ret2;exact⟨by rw[J.o];rfl,Z⟩
      ·rw[decide_eq_false F] at a1;have J:=aa (show gC s most=none by rw[Y.o,if_neg F]);clear F;go_wp2;go_ret2;exact⟨by rw[J.o];rfl,Z⟩
    ·have h:=aa (iQ (s:=s) (most:=most) (Or.inl (by rw[<-E.o,bM];omega)));have a9:(most:Int)<(t.size:Int):=(by omega);have a0:¬((t.size:Int)<1):=(by omega);go_wp2;go_ret2;exact⟨by rw[h.o];rfl,aZ⟩
   ·have h:=aa (iQ (s:=s) (most:=most) (Or.inl (by rw[<-E.o,bM];omega)));have a0:(t.size:Int)<1:=(by omega);go_wp2;go_ret2;exact⟨by rw[h.o];rfl,aZ⟩
  ·have W:=aa (show qV s=false by unfold qV;rw[a2];simp[U]);have c2:((s[0].toNat:Int)==45)=false:=by
    rw[beq_eq_false_iff_ne];intro e;exact U (dz.1 (by show _=45;omega))
   have E:=aa (show s.1.1=oD s by unfold oD;rw[W.o];rfl);clear a2 U;go_enter func243,ntmps243;by_cases b9:1<=s.size
   ·by_cases c0:s.size<=most
    ·have a9:(s.size:Int)<=(most:Int):=by omega
     have a0:¬((s.size:Int)<1):=(by omega);go_wp2;go_loop[8,9] (λn i=>∃j acc:Nat,j<=s.size/\i= Ud j/\n= Ud acc/\bv (Lib.decFrom 0 (s.1.1.take j)=some acc)) (λ_ i=>s.size-(intOf i).toNat);exact⟨0,0,by omega,rfl,rfl,by show _=_;simp[Lib.decFrom]⟩;obtain⟨j,acc,b7,rfl,rfl,I⟩:=hrel;have b2:=Lib.decFrom_take_lt I.o (by omega);by_cases Q:j<s.size
     ·have b8:(j:Int)<(s.size:Int):=by omega
      have b4:=(s[j]).toNat_lt;by_cases a6:s[j].toNat<48
      ·have h:=aa (iQ (s:=s) (most:=most) (Or.inr (by rw[<-E.o];exact zj (dq s j Q) (Or.inl a6))));have a7:(s[j].toNat:Int)<48:=(by omega);go_wp2;go_ret2;exact⟨by rw[h.o];rfl,aZ⟩
      ·by_cases a8:57<s[j].toNat
       ·have h:=aa (iQ (s:=s) (most:=most) (Or.inr (by rw[<-E.o];exact zj (dq s j Q) (Or.inr a8))));have a7:¬((s[j].toNat:Int)<48):=(by omega);have b3:(57:Int)<(s[j].toNat:Int):=(by omega);go_wp2;go_ret2;exact⟨by rw[h.o];rfl,aZ⟩
       ·have h:=aa (KP I.o (dq s j Q) (by omega) (by omega));obtain⟨d,b5⟩:∃d,s[j].toNat=48+d:=⟨s[j].toNat-48,by omega⟩;rw[show s[j].toNat-48=d by omega] at h;have b6:d<=9:=(by omega);go_wp2;go_round;exact⟨j+1,acc*10+d,by omega,by go_num,by go_num,h⟩;simp[intOf]<;>omega
     ·obtain rfl:j=s.size:=by omega
      have O:=I.o;rw[aM (by rw[bM];exact aN _),E.o] at O;have a5:=aa (λ(m:Int) (D:m=if qV s then-(acc:Int) else acc)=>nB (s:=s) (most:=most) (by rw[<-E.o,bM];omega) O D);clear O I;obtain⟨m,D⟩:=aB (α:=Int) (if qV s then-(acc:Int) else acc);have Y:=aa (a5.o m D);rw[W.o] at D;simp only[if_true,if_false,eI,reduceIte] at D;have a4:=aa (λw=>dy m w (by omega) (by omega));subst D;go_wp2_with fail;refine(a4.o _).mono ?_;rintro e c3 ⟨rfl,Z⟩;have a1:=JY (cF (↑acc)) s;by_cases F:cF (↑acc)=s
      ·rw[decide_eq_true F] at a1;have J:=aa (show gC s most=some (↑acc) by rw[Y.o,if_pos F]);clear F;go_wp2;go_ret2;exact⟨by rw[J.o];rfl,Z⟩
      ·rw[decide_eq_false F] at a1;have J:=aa (show gC s most=none by rw[Y.o,if_neg F]);clear F;go_wp2;go_ret2;exact⟨by rw[J.o];rfl,Z⟩
    ·have h:=aa (iQ (s:=s) (most:=most) (Or.inl (by rw[<-E.o,bM];omega)));have a9:(most:Int)<(s.size:Int):=(by omega);have a0:¬((s.size:Int)<1):=(by omega);go_wp2;go_ret2;exact⟨by rw[h.o];rfl,aZ⟩
   ·have h:=aa (iQ (s:=s) (most:=most) (Or.inl (by rw[<-E.o,bM];omega)));have a0:(s.size:Int)<1:=(by omega);go_wp2;go_ret2;exact⟨by rw[h.o];rfl,aZ⟩
end Go.Proofs.YtbdlbckeffakjaaGreatDoor
