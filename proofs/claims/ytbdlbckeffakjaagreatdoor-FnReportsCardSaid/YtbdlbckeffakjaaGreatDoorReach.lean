/- Which vertices reach which: both functions, and irreducible tables. Conditions: a matrix. -/
import Derived.WalkSpells
import Derived.WalkLawsBesides
import Derived.BigQuiet
import Derived.Deep.RegionHeld3
import Derived.Lib.SmallJoins
import Derived.Lib.Slices
import Derived.Lib.Walk
import Derived.Lib.Bytealg
import Derived.StillTailTactics
import Derived.Test.YtbdlbckeffakjaaGreatDoorRows
namespace Go.Proofs.YtbdlbckeffakjaaGreatDoor
set_option maxHeartbeats 4000000
set_option maxRecDepth 100000
open Go.RowKit Go.Proofs.Tryz
def bv(p:Prop):Prop:=p
theorem bv.o{p}(h:bv p):p:=h
theorem aa{p}(h:p):bv p:=h
abbrev Ud(x:Int):Value:= .int .i64 x
abbrev aC:=@Bool.and_eq_true
abbrev aD:=@List.mem_range
abbrev aF:=@Calls.quiet_of_same
abbrev aH:=@Nat.lt_of_lt_of_le
abbrev aI:=@Option.some.injEq
abbrev aJ:=@Value.slice.injEq
abbrev aK:=@ByteArray.size_append
abbrev aL:=@World.cell?_alloc_at
abbrev aM:=@List.take_of_length_le
abbrev aN:=@Nat.le_refl
abbrev aR:=@List.getElem?_append_left
abbrev aU:=@List.getElem?_eq_none
abbrev aV:=@Below.refl
abbrev aW:=@Nat.zero_add
abbrev ab:=@List.setIfInBounds_toArray
abbrev ac:=@List.set_cons_zero
abbrev ae:=@List.set_cons_succ
abbrev ah:=@List.getD_eq_getElem?_getD
abbrev aj:=@List.mem_of_getElem?
abbrev au:=@IntWalk.i64_in
abbrev aw:=@List.getElem?_eq_some_iff
abbrev az:=@List.length_append
abbrev bB:=@List.any_eq_true
abbrev bD:=@Array.getElem?_eq_some_iff
abbrev bE:=@List.filter_append
abbrev bF:=@Bool.eq_iff_iff
abbrev bG:=@Nat.pow_le_pow_right
abbrev bH:=@List.getElem_cons_zero
abbrev bI:=@List.getElem_cons_succ
abbrev bQ:=@World.cell?_setCell_other
abbrev bU:=@List.getElem?_set
abbrev bV:=@List.getElem_toArray
abbrev bX:=@Nat.mul_le_mul
abbrev bY:=@List.mem_filter
abbrev bg:=@List.take_add_one
abbrev bh:=@List.range_succ
abbrev bi:=@List.mem_map
abbrev bj:=@List.getElem?_append_right
abbrev bl:=@ByteArray.size_extract
abbrev bm:=@List.all_eq_true
abbrev bn:=@Nat.le_trans
abbrev bp:=@List.map_congr_left
abbrev bu:=@Array.getInternal_eq_getElem
abbrev bz:=@List.length_filter_le
abbrev cA:=@Addr.mk.injEq
abbrev cC:=@World.grownBy_alloc
abbrev cD:=@List.length_range
abbrev cG:=@Nat.lt_succ_self
abbrev cH:=@List.mem_append
abbrev cJ:=@List.append_assoc
abbrev cM:=@List.getElem?_cons_zero
abbrev cP:=@List.getElem?_take
abbrev cQ:=@Int.mul_le_mul_of_nonneg_right
abbrev cY:=@List.length_take
abbrev cZ:=@List.length_cons
abbrev cf:=@List.mem_iff_getElem?
abbrev ci:=@Option.getD_some
abbrev dE:=@Below.heap_setCell
abbrev dG:=@World.frozen?_setCell
abbrev dI:=@Nat.mod_lt
abbrev dJ:=@Bool.and_false
abbrev dK:=@Bool.true_and
abbrev dN:=@Nat.eq_zero_or_pos
abbrev dS:=@IntWalk.u64_in
abbrev dV:=@World.cell?_setCell_same
abbrev dW:=@Nat.zero_le
abbrev dX:=@List.take_append_drop
abbrev da:=@List.ext_getElem
abbrev dc:=@List.length_map
abbrev de:=@List.take_succ_cons
abbrev dh:=@List.mem_of_mem_take
abbrev di:=@List.getElem?_eq_getElem
abbrev dj:=@World.size_alloc
abbrev dk:=@World.ownsRow_nil
abbrev dl:=@List.getElem?_map
abbrev dz:=@UInt8.toNat_inj
abbrev eE:=@Nat.lt_or_ge
abbrev eF:=@Option.isSome_some
abbrev eG:=@Nat.add_sub_cancel
abbrev eH:=@List.mem_singleton
abbrev eI:=@Bool.false_eq_true
abbrev eK:=@Nat.mul_le_mul_right
abbrev eL:=@Nat.add_sub_cancel_left
abbrev eM:=@List.getElem?_replicate
abbrev eQ:=@Nat.lt_irrefl
abbrev eR:=@Bool.or_false
abbrev eV:=@Option.map_eq_some_iff
abbrev eW:=@List.take_zero
abbrev eX:=@List.filter_congr
abbrev eY:=@List.drop_zero
abbrev eZ:=@Int.toNat_natCast
abbrev ea:=@Nat.add_zero
abbrev eg:=@Int.ofNat_tmod
abbrev eh:=@Nat.not_lt_zero
abbrev ei:=@Nat.div_le_self
abbrev ej:=@List.map_cons
abbrev ek:=@List.map_append
abbrev eo:=@World.frozen?_alloc_at
abbrev ep:=@ByteArray.data_extract
abbrev er:=@List.extract_eq_take_drop
abbrev et:=@List.drop_succ_cons
abbrev ew:=@World.ownsRow_lit
abbrev ex:=@List.ext_getElem?
abbrev ey:=@List.eq_nil_of_length_eq_zero
abbrev fB:=@Nat.div_lt_of_lt_mul
abbrev fC:=@List.mem_of_mem_drop
abbrev fD:=@Array.toList_extract
abbrev fI:=@List.length_eq_zero_iff
abbrev fM:=@List.length_set
abbrev fO:=@List.any_append
abbrev fP:=@Int.natCast_mul
abbrev fR:=@List.getElem?_range
abbrev fX:=@Nat.add_comm
abbrev fY:=@List.length_pos_of_mem
abbrev fa:=@Nat.pow_le_pow_left
abbrev fe:=@List.nil_append
abbrev fm:=@ByteArray.data_append
abbrev ft:=@Nat.pow_succ
abbrev gB:=@List.take_length
abbrev gJ:=@UInt8.toNat_ofNat'
abbrev gK:=@Nat.one_le_pow
abbrev gO:=@Bool.false_and
abbrev gX:=@Option.some.inj
abbrev gY:=@Nat.two_pow_pos
abbrev gZ:=@List.length_nil
abbrev gu:=@Nat.mod_eq_of_lt
abbrev iA:=@Array.toList_append
abbrev iL:=@Int.mul_nonneg
abbrev iS:=@World.ownsRow_made
abbrev iT:=@Option.isSome_none
abbrev iU:=@List.getElem_range
abbrev ik:=@Nat.succ_mul
abbrev io:=@Nat.le_of_lt
abbrev ip:=@List.mem_cons_of_mem
abbrev iq:=@List.mem_append_left
abbrev ir:=@Int.le_trans
abbrev jO:=@List.getElem_mem
abbrev jP:=@List.getElem_map
abbrev jQ:=@Array.toList_inj
abbrev jU:=@List.mem_or_eq_of_mem_set
abbrev jV:=@List.mem_of_find?_eq_some
abbrev jW:=@List.getElem?_eq_none_iff
abbrev ja:=@Nat.div_add_mod
abbrev jc:=@List.append_nil
abbrev jd:=@List.all_append
abbrev jh:=@List.sum_cons
abbrev ji:=@List.mem_cons
abbrev jk:=@ByteArray.ext
abbrev js:=@List.nodup_append
abbrev jt:=@List.foldl_append
abbrev kE:=@List.mem_cons_self
abbrev kF:=@Int.natCast_nonneg
abbrev kU:=@World.block_lt_of_cell?
abbrev kV:=@Nat.mul_one
abbrev kW:=@Nat.le_succ
abbrev kh:=@Nat.add_assoc
abbrev lB:=@Nat.sub_self
abbrev lC:=@Nat.gcd_comm
abbrev lD:=@List.map_nil
abbrev lE:=@List.getElem_replicate
abbrev lF:=@Int.ofNat_tdiv
abbrev lG:=@Int.mul_le_mul
abbrev lH:=@ByteArray.mk_append_mk
abbrev lI:=@Bool.eq_false_iff
abbrev lR:=@List.set_append_right
abbrev lS:=@List.length_replicate
abbrev mB:=@List.map_take
abbrev mC:=@Bool.and_true
abbrev mO:=@Nat.add_mul
abbrev mY:=@Option.map_some
abbrev ms:=@List.getElem_set
abbrev nj:=@Nat.mul_comm
abbrev nk:=@List.any_nil
abbrev nr:=@Int.ofNat_le
theorem aB{α:Sort _}(x:α):∃y,y=x:=⟨x,rfl⟩
theorem aZ{n}{w}:Below n w w:=aV _ _
theorem aQ{n:Nat}:n<=n:=aN n
theorem aG{a b}(h:a=b):Ending.returned (.bool a)= .returned (.bool b):=by rw[h]
theorem cW{k}{a b}(h:a=b):Ending.returned (.int k a)= .returned (.int k b):=by rw[h]
theorem sX{a b}(h:a=b):Ending.returned (.string a)= .returned (.string b):=by rw[h]
theorem aA{B}{a w}(h:Below B a w)(n):Below B a (w.drewN n):=⟨h.os,h.tape,h.output,h.size,h.block⟩
def jZ(x lo hi:Int):Bool:=decide (lo<=x/\x<=hi)
theorem fj{x lo hi}(h:lo<=x/\x<=hi):jZ x lo hi=true:=by simp[jZ,h]
theorem lP{x lo hi}(h:x<lo\/hi<x):jZ x lo hi=false:=by simp[jZ];omega
theorem eT{x lo hi}:jZ x lo hi=true↔lo<=x/\x<=hi:=by simp[jZ]
section
variable {α : Type} {p : α → Bool} {l : List α} {n : Nat}
theorem fA{x:α}(h:l[n]? =some x)(E:p x=false):l.all p=false:=by
 have D:=aj h;rw[List.all_eq_false];exact⟨x,D,by simp[E]⟩
theorem fl{x:α}(h:l[n]? =some x)(E:(l.take n).all p=true)(D:p x=true):(l.take (n+1)).all p=true:=by
 rw[bg,h];simp[jd,E,D]
theorem iz(h:(l.take n).all p=true)(D:l.length<=n):l.all p=true:=by rwa[aM D] at h
end
theorem dq(s:ByteArray)(n)(h:n<s.size):s.1.1[n]? =some s[n]:=by
 have D:n<s.1.size:=h;rw[Array.getElem?_toList,Array.getElem?_eq_getElem D];rfl
theorem bM(s:ByteArray):s.1.1.length=s.size:=by simp
theorem aE{α:Type}{l:List α}{n}(h:n<l.length):∃x,l[n]? =some x:=⟨l[n],di h⟩
structure aO (w : World) (a : Option Addr) (n : Nat) (xs : List Value) : Prop where
  len : xs.length = n
  lim : n ≤ 140737488351232
  at_ : 0 < n → ∃ b off, a = some ⟨b, off, none⟩ ∧ b < w.1.size ∧ ∀ k x, xs[k]? = some x → w.cell? ⟨b, off + k, none⟩ = some x
theorem aO.below{B}{w w'}{a}{n}{xs}(h:aO w a n xs)(D:Below B w w')(I:w.1.size<=B):aO w' a n xs:=
 ⟨h.len,h.lim,λE=>let⟨b,off,ha,hlt,hc⟩:=h.at_ E
  ⟨b,off,ha,aH hlt D.size,λk x F=>(D.cell (p:=⟨b,off+k,none⟩) (by show b<B;omega)).trans (hc k x F)⟩⟩
theorem aS{w}{base e}{v}{n}{xs}(h:w.ownsRow base e 1 v n xs)(I:n<=140737488351232):
 ∃a cap,v= .slice a n cap/\aO w a n xs:=by
 have F:=h.1;rcases h.2 with⟨rfl,rfl⟩|⟨g,cap,J,rfl,Q,E,Z,U,W,O⟩
 ·exact⟨none,0,rfl,by simpa using F,I,λh=>by omega⟩
 ·refine⟨_,cap,rfl,by simpa using F,I,λY=>⟨g,0,rfl,(bD.1 E).1,λk x D=> ?_⟩⟩;rw[cell_of_row w g (0+k) J e (0,0) E];rw[<-O,cP] at D;split at D
  ·simpa using D
  ·cases D
theorem jx{P}{w0 wr}{J}{O}{o}{a}{Q}
 (a0:o.guard=none)(s x)(t)(a6:o.op=Op.call {callee:=Callee.builtin Builtin.append,args:=#[s,x],argTypes:=#[t,t]})
 (B)(e)(z)(E)(U:P.underlying t=some (.slice e))(a2:(P.info? e).map (λi=>(i.zero,i.size,i.bytes))=some (some z,1,E))(b4:z.cells.size=1)
 (v)(m)(xs)(u)(F:wr.ownsRow B e 1 v m xs)(a8:a.eval s=v)(b0:a.eval x= .slice (some ⟨wr.1.size,0,none⟩) 1 1)
 (a9:u.oneCell'=true)(a4:(m+1)*E<=140737488355328)(a5:m+1<=maxLen)(Z:Below B w0 wr)(W:B<=wr.1.size)
 (Y:∀v' h,h.ownsRow B e 1 v' (m+1) (xs++[u])->Below B w0 h->wpList P J Q O (a.put o.dst v') h):
 wpList P J Q (o::O) a (wr.alloc (.cells #[u] e)):=by
 obtain⟨i,hi,b1,b2,b3⟩:=info_parts a2;refine wpList_append_own _ a0 s x t a6 B e i z 1 E U hi b1 b2 b3 b4 (by decide) v m xs a8 (F.alloc _) ⟨wr.1.size,0,none⟩ 1 1 [u] b0 rfl ?_ ?_ a5 a4 (by simp;omega) ?_
 ·intro j y D;match j,D with
  |0,D=>simp at D;subst D;simp[Addr.add]
 ·intro y I;simp at I;subst I;exact a9
 ·intro v' h a7 a1 _;exact Y v' h a7 ((Z.alloc W _).grown a1 (by simp;omega) (λk a3=>(F.lt k a3).1))
theorem cV{w wr:World}{cs}{T}(h:Below (w.1.size+1) (w.alloc (.cells cs T)) wr)(k):
 wr.cell? ⟨w.1.size,k,none⟩=cs[k]?/\wr.frozen? ⟨w.1.size,k,none⟩=false:=
 ⟨(h.cell (p:=⟨w.1.size,k,none⟩) (by simp)).trans (aL _ _ _ _ rfl),(h.frozen (p:=⟨w.1.size,k,none⟩) (by simp)).trans (eo _ _ _ _ rfl)⟩
def bo(xs:List UInt8):List Value:=xs.map λc=> .int .u8 (c.toNat:Int)
theorem vA{P}{w}(S D E)(O:P.underlying S=some (.slice E))(J:P.underlying E=some (.int .u8))(I:P.underlying D=some .string)
 (F)(n c)(xs)(a1:aO w F n (bo xs)):(convert S D (.slice F n c)).run P w= .ok (.string ⟨xs.toArray⟩) w:=by
 obtain⟨Z,_,W⟩:=a1;have Q:xs.length=n:=by simpa[bo] using Z
 by_cases a0:n=0
 ·subst a0;obtain rfl:xs=[]:=ey Q;cases F with
  |none=>rw[run_convert_bytes_nil w S E O J 0 c D I];rfl
  |some F=>
   rw[run_convert_bytes_string w S D E _ 0 c O J I,run_bytesToString w F 0 c [] (run_loadCells_list (P:=P) w F [] (by intro j v h;simp at h))];rfl
 ·obtain⟨b,a2,rfl,_,Y⟩:=W (by omega);rw[run_convert_bytes_arg w S E O J b a2 n c (xs.map λc=>(c.toNat:Int)) (by simpa using Q) (λi hi=> ?_) D I]
  ·congr 2;simp only[strOfNums,List.map_map];congr 2;rw[bp (g:=id) (by intro c _;simp),List.map_id]
  ·obtain⟨x,U⟩:=aE (l:=xs) (n:=i) (by omega);rw[Y i (.int .u8 (x.toNat:Int)) (by simp[bo,U])];simp[List.getD,U]
theorem fT{P}{w}{F}{I}{o}{a}{Q}
 (Y:o.guard=none)(x)(S D E)(Z:o.op=Op.convert S D x)(a2:P.underlying S=some (.slice E))(W:P.underlying E=some (.int .u8))(U:P.underlying D=some .string)
 (h)(n c)(xs)(a3:a.eval x= .slice h n c)(a0:aO w h n (bo xs))(J:wpList P F Q I (a.put o.dst (.string ⟨xs.toArray⟩)) w):
 wpList P F Q (o::I) a w:=by
 refine wpList_plain Y λK O=> ?_
 have a1:=vA (P:=P) (w:=w) S D E a2 W U h n c xs a0;unfold Oper.wp;simp[execOp,Z,a3,a1,Result.andThen];exact O _ _ J
theorem oC(w:World)(E)(x)(c)(h:(c.toNat:Int)=x):aO (w.alloc (.cells #[.int .u8 x] E)) (some ⟨w.1.size,0,none⟩) 1 (bo [c]):=by
 refine⟨rfl,by omega,λ_=>⟨_,0,rfl,by simp,λk y D=> ?_⟩⟩;match k,D with
 |0,D=>
  simp only[bo,ej,lD,cM,aI] at D;rw[<-D,aL _ _ _ _ rfl,<-h];rfl
def fb(k:Int)(l:List UInt8):Bool:=l.all λc=>jZ ((c.toNat:Int)-97) 0 (k-1)
def ap(ss:List ByteArray):List Value:=ss.map Value.string
theorem bJ{ss}{k:Nat}{s}(h:ss[k]? =some s):(ap ss)[k]? =some (.string s):=by simp[ap,h]
theorem eB(x lo hi)(w):
 Calls prog 96 #[Ud x,Ud lo,Ud hi] w λe w'=>e= .returned (.bool (jZ x lo hi))/\w=w':=by
 by_cases h:lo<=x<;>by_cases D:x<=hi<;>{
  go_enter func96,ntmps96
  go_wp2
  go_ret
  exact⟨by simp[jZ,h,D],rfl⟩}
theorem fs(k)(s)(w)(E:s.size<=maxLen)(I: -100<=k/\k<=140737488355328):
 Calls prog 137 #[Ud k,.string s] w λe w'=>e= .returned (.bool (fb k s.1.1))/\w=w':=by
 unfold maxLen at E;go_enter func137,ntmps137;go_wp2;go_loop[8] (λi=>∃n:Nat,n<=s.size/\i= Ud n/\bv (fb k (s.1.1.take n)=true)) (λi=>s.size-(intOf i).toNat);exact⟨0,dW _,rfl,rfl⟩;obtain⟨n,J,rfl,H⟩:=hrel;by_cases h:n<s.size
 ·have F:s[n].toNat<256:=s[n].toNat_lt;go_wp2
  ·have D:k<=(s[n].toNat:Int)-97:=by omega
   go_ret;exact⟨aG (by rw[show fb k s.1.1=false from fA (dq s n h) (lP (by omega))]),rfl⟩
  ·have D:(s[n].toNat:Int)-97<k:=by omega
   go_round;exact⟨n+1,by omega,by go_num,fl (dq s n h) H.o (fj (by omega))⟩;simp[intOf];omega
  ·go_ret;exact⟨aG (by rw[show fb k s.1.1=false from fA (dq s n h) (lP (by omega))]),rfl⟩
 ·go_wp2;go_ret;exact⟨aG (iz H.o (by rw[bM];omega)).symm,rfl⟩
def af(xs:List Int):List Value:=xs.map (Value.int .i64)
theorem aP{ss}{k:Nat}{s}(h:ss[k]? =some s):(af ss)[k]? =some (Ud s):=by simp[af,h]
theorem ai{w w'}{base e size}{v}{n}{xs}(h:w.ownsRow base e size v n xs)(J:Below w.1.size w w'):w'.ownsRow base e size v n xs:=by
 obtain⟨I,D⟩:=h;refine⟨I,?_⟩;rcases D with D|⟨g,cap,F,Q,O,E,r⟩
 ·exact Or.inl D
 ·exact Or.inr ⟨g,cap,F,Q,O,by rw[J.block g (bD.1 E).1];exact E,r⟩
theorem aT{w:World}{base base' e size}{v}{n}{xs}(h:w.ownsRow base e size v n xs)(I:base'<=base):w.ownsRow base' e size v n xs:=by
 obtain⟨F,D⟩:=h;refine⟨F,?_⟩;rcases D with D|⟨g,cap,E,Q,J,O,r⟩
 ·exact Or.inl D
 ·exact Or.inr ⟨g,cap,E,Q,bn I J,O,r⟩
theorem dd{a b c:World}{row}(h:a.grownBy b row)(k:b.grownBy c row):a.grownBy c row:=
 ⟨k.os.trans h.os,k.tape.trans h.tape,k.output.trans h.output,bn h.size k.size,λi hi D=>(k.block i (aH hi h.size) D).trans (h.block i hi D)⟩
theorem oR{a b}(h:Below a.1.size a b)(row):a.grownBy b row:=⟨h.os,h.tape,h.output,h.size,λk D _=>h.block k D⟩
def sD(k:Nat):UInt8:=UInt8.ofNat (48+k%10)
theorem Hp(k):((sD k).toNat:Int)=48+(k:Int)%10:=by unfold sD;simp[gJ];omega
def kA(k:Nat)(out:ByteArray):ByteArray:=if h:k=0 then out else kA (k/10) (⟨#[sD k]⟩++out)
termination_by k
decreasing_by omega
theorem mz:(prog.info? 9).map (λi=>(i.zero,i.size,i.bytes))=some (some (.string ByteArray.empty),1,16):=by kernel_rfl
def ya(ss:List ByteArray):Nat:=(ss.map (·.size)).sum
def Tc:List Char:=[104,97,114,110,101,115,115].map Char.ofNat
def Tb:List Char:=[53,54,57,99,99,51,53,98,52,97,100,49,98,97,54,102,48,55,102,54,55,97,56,100,102,53,48,55,57,49,100,57,100,55,102,100,51,54,52,51,56,57,99,57,102,49,97,51,55,98,101,50,56,98,52,49,49,101,51,54,97,100,97,52].map Char.ofNat
def yR:List Char:=[99,117,116].map Char.ofNat
def PC:List Char:=[97,116,32,108,111,111,112,46,101,120,97,109,112,108,101,47,103,48,51,49,48,51,47,108,97,119,115,46,70,110,82,101,112,111,114,116,115].map Char.ofNat
def DK:Char:=Char.ofNat 32
theorem Lw(c)(r w)(D)(E:c≠DK)(h:wordsSigns r=w::D):wordsSigns (c::r)=(c::w)::D:=by
 rw[wordsSigns,h];exact E
theorem sR:∀(w r:List Char),w.all (λc=> !(c==DK))=true->wordsSigns (w++DK::r)=w::wordsSigns r
 |[],r,_=>rfl
 |c::w,r,h=>by
  simp only[List.all_cons,Bool.and_eq_true,Bool.not_eq_true',beq_eq_false_iff_ne] at h;exact Lw _ _ _ _ h.1 (sR w r h.2)
theorem Ub:prog.initOrder=String.ofList (Tc++DK::(Tb++DK::(yR++DK::PC))):=by kernel_rfl
theorem PA:wordsSigns prog.initOrder.toList=Tc::Tb::yR::wordsSigns PC:=by
 rw[Ub,String.toList_ofList,sR _ _ (by kernel_rfl),sR _ _ (by kernel_rfl),sR _ _ (by kernel_rfl)]
theorem Sf(X):behindMainWord (Tc::Tb::yR::X)=yR::X:=by kernel_rfl
theorem tA:behindMainWord (wordsSigns prog.initOrder.toList)=yR::wordsSigns PC:=by rw[PA,Sf]
theorem MK(P:Program)(c)(X)(D:behindMainWord (wordsSigns P.initOrder.toList)=c::X)
 (h:(if(stripLifts liftWords (c::X)).2.head? ==some "cut".toList then(stripLifts liftWords (c::X)).1 else[])=[]):P.headLifts=[]:=by
 unfold Program.headLifts;rw[D];exact h
theorem Ap(P:Program)(c)(X)(D:behindMainWord (wordsSigns P.initOrder.toList)=c::X)(E:P.headLifts=[])
 (h:((c::X).head? ==some "carried".toList&&(c::X).take 3 !=["carried".toList, "gc".toList, "cut".toList])=false):P.liftsFinal=false:=by
 unfold Program.liftsFinal;rw[D,E];simp only[h,Bool.false_or];rfl
theorem Pa(P:Program)(c)(X)(E:behindMainWord (wordsSigns P.initOrder.toList)=c::X)
 (h:(c== "gc".toList||c== "spec".toList)=false)(D:(c== "cut".toList||(c== "finals".toList&&X.head? ==some "cut".toList))=true):P.make=some .cut:=by
 unfold Program.make;rw[E];simp only[h,D,if_true,Bool.false_eq_true,if_false]
theorem Ex(P:Program)(c)(X)(D:behindMainWord (wordsSigns P.initOrder.toList)=c::X)
 (h:((stripLifts liftWords (c::X)).2.head? ==some "cut".toList&&
  ((stripLifts liftWords (c::X)).1.contains "finals" || !P.laysLater)&&((stripLifts liftWords (c::X)).1.contains "reflectrows" || !P.bearsReflect)&&
  ((stripLifts liftWords (c::X)).1.contains "reflectrows" || !(stripLifts liftWords (c::X)).1.contains "leanrows")&&
  P.doorFits (stripLifts liftWords (c::X)).1)=true):P.mayEnter=true:=by
 unfold Program.mayEnter;rw[D];simp only[h,Bool.or_true]
theorem NU(X):stripLifts liftWords (yR::X)=([],yR::X):=by kernel_rfl
theorem Tx:((yR::wordsSigns PC).head? ==some "cut".toList)=true:=by
 show((some yR:Option (List Char))==some "cut".toList)=true
 kernel_rfl
theorem Ce:prog.headLifts=[]:=MK _ _ _ tA (by rw[NU];exact ite_self _)
theorem AN:prog.liftsFinal=false:=Ap _ _ _ tA Ce (by
 rw[show((yR::wordsSigns PC).head? ==some "carried".toList)=false from by
  show((some yR:Option (List Char))==some "carried".toList)=false
  kernel_rfl]
 rfl)
theorem Pz:prog.make=some .cut:=Pa _ _ _ tA (by kernel_rfl) (by
 rw[show(yR== "cut".toList)=true from by kernel_rfl];rfl)
theorem Rc:prog.laysLater=false:=by kernel_rfl
theorem Mu:prog.bearsReflect=false:=by kernel_rfl
theorem Nu:prog.doorFits []=true:=by kernel_rfl
theorem EM:prog.mayEnter=true:=Ex _ _ _ tA (by
 rw[NU,Tx,Rc,Mu,Nu];rfl)
section
open Go.ChangeShapes Go.WideShapes Go.ChangeAt
open Go.ChangeMaps (open_string shut_string)
theorem bs{a b c}(h:Below a.1.size a b)(k:Below b.1.size b c):Below a.1.size a c:=h.trans (k.mono h.size)
theorem own:ownKnob prog.godebug=none:=by kernel_rfl
theorem Ru:laidOutB prog=true:=by kernel_rfl
end
theorem eD{w:World}{base e E n m}{v v'}{xs ys}(h:w.ownsRow base e 1 v n xs)(I:w.ownsRow base E 1 v' m ys)(O:e≠E):v.ownBlock=none\/v.ownBlock≠v'.ownBlock:=by
 rcases h.2 with⟨rfl,_⟩|⟨g,cap,U,rfl,_,J,_⟩
 ·exact Or.inl rfl
 ·refine Or.inr ?_;rcases I.2 with⟨rfl,_⟩|⟨Y,Q,W,rfl,_,D,_⟩
  ·simp[Value.ownBlock]
  ·intro F;simp only[Value.ownBlock,aI] at F;subst F;rw[J] at D;simp only[aI,Obj.cells.injEq] at D;exact O D.2.1
structure bS (T0 : TypeId) (w : World) (base : Nat) (vs : List Value) (rows : List (List Int)) : Prop where
  len : vs.length = rows.length
  own : ∀ (i : Nat) (x : Value) (r : List Int), vs[i]? = some x → rows[i]? = some r → w.ownsRow base T0 1 x r.length (af r)
  apart : ∀ (i j : Nat) (x y : Value) (g : Nat), vs[i]? = some x → vs[j]? = some y → x.ownBlock = some g → y.ownBlock = some g → i = j
def ct(T1 T0:TypeId)(w:World)(base:Nat)(v:Value)(h:List (List Int)):Prop:=
 ∃D,w.ownsRow base T1 1 v h.length D/\bS T0 w base D h
theorem bS.get{T0}{w}{base}{E}{D}(h:bS T0 w base E D){i}(hi:i<D.length):∃x r,E[i]? =some x/\D[i]? =some r/\w.ownsRow base T0 1 x r.length (af r):=by
 obtain⟨r,F⟩:=aE hi;obtain⟨x,I⟩:=aE (l:=E) (n:=i) (by rw[h.len];exact hi);exact⟨x,r,I,F,h.own i x r I F⟩
theorem bS.kept{T0 T1}{w w'}{base n}{v}{I}{ys}{F}(h:bS T0 w base I F)(Q:w.ownsRow base T1 1 v n ys)(J:T0≠T1)(O:w.grownBy w' v.ownBlock):bS T0 w' base I F:=
 ⟨h.len,λi x r E D=>(h.own i x r E D).kept O (eD (h.own i x r E D) Q J),h.apart⟩
theorem bS.below{T0}{w w'}{base}{E}{D}(h:bS T0 w base E D)(F:Below w.1.size w w'):bS T0 w' base E D:=
 ⟨h.len,λi x r J I=>ai (h.own i x r J I) F,h.apart⟩
theorem ct.below{T1 T0}{w w'}{base}{v}{E}(h:ct T1 T0 w base v E)(D:Below w.1.size w w'):ct T1 T0 w' base v E:=by
 obtain⟨J,F,I⟩:=h;exact⟨J,ai F D,I.below D⟩
theorem ct.base{T1 T0}{w}{base base'}{v}{F}(h:ct T1 T0 w base v F)(E:base'<=base):ct T1 T0 w base' v F:=by
 obtain⟨Q,I,D⟩:=h;exact⟨Q,aT I E,D.len,λi x r O J=>aT (D.own i x r O J) E,D.apart⟩
theorem bS.nil(T0)(w)(base):bS T0 w base [] []:=⟨rfl,λi x r h=>by simp at h,λi j x y g h=>by simp at h⟩
theorem bS.snoc{T0}{w}{base}{D}{U}(h:bS T0 w base D U)(a7:base<=w.1.size)(r)(cs)(Z:cs.toList=af r)(a8:r.length<=maxLen):
 bS T0 (w.alloc (.cells cs T0)) base (D++[.slice (some ⟨w.1.size,0,none⟩) r.length r.length]) (U++[r]):=by
 have a3:=h.len;refine⟨by simp[a3],λi x b1 E I=> ?_,λi j x y g E b0 a0 a1=> ?_⟩
 ·by_cases hi:i<D.length
  ·rw[aR hi] at E;rw[aR (by omega)] at I;exact(h.own i x b1 E I).alloc _
  ·rw[bj (by omega)] at E;rw[bj (by omega)] at I;have O:i-D.length=0:=by
    rcases dN (i-D.length) with J|J
    ·exact J
    ·rw[aU (by simp;omega)] at E;cases E
   rw[O] at E;rw[<-a3,O] at I;simp only[cM,aI] at E I;subst E I;have b5:cs.size=r.length:=by have:=congrArg List.length Z;simpa[af] using this
   have:=ew (base:=base) (e:=T0) (size:=1) w cs r.length a7 a8 (by omega);rw[Z] at this;exact this
 ·have a4:∀k z,(D++[Value.slice (some ⟨w.1.size,0,none⟩) r.length r.length])[k]? =some z->z.ownBlock=some g->(k<D.length/\D[k]? =some z/\g<w.1.size)\/(k=D.length/\g=w.1.size):=by
   intro k z F Q;by_cases a2:k<D.length
   ·rw[aR a2] at F;obtain⟨b2,a9⟩:=aE (l:=U) (n:=k) (by omega);exact Or.inl ⟨a2,F,((h.own k z b2 F a9).lt g Q).2⟩
   ·rw[bj (by omega)] at F;have O:k-D.length=0:=by
     rcases dN (k-D.length) with J|J
     ·exact J
     ·rw[aU (by simp;omega)] at F;cases F
    rw[O] at F;simp only[cM,aI] at F;subst F;simp only[Value.ownBlock,aI] at Q;exact Or.inr ⟨by omega,Q.symm⟩
  rcases a4 i x E a0 with⟨a5,W,b3⟩|⟨a5,W⟩<;>rcases a4 j y b0 a1 with⟨a6,Y,b4⟩|⟨a6,Y⟩
  ·exact h.apart i j x y g W Y a0 a1
  ·omega
  ·omega
  ·omega
theorem bS.stored{T0}{w}{base g cap i}{W}{F}{r}(h:bS T0 w base W F)(O:F[i]? =some r)(U:W[i]? =some (.slice (some ⟨g,0,none⟩) r.length cap))(j)(u):
 bS T0 (w.setCell ⟨g,j,none⟩ (Ud u)) base W (F.set i (r.set j u))/\w.grownBy (w.setCell ⟨g,j,none⟩ (Ud u)) (some g):=by
 have a1:=h.own i _ r U O;have Q:=a1.stored j (Ud u);refine⟨⟨by simp[h.len],λk y q E D=> ?_,h.apart⟩,Q.2⟩;by_cases J:k=i
 ·subst J;rw[U] at E;simp only[aI] at E;subst E;rw[bU] at D;have a0:k<F.length:=by
   rcases eE k F.length with I|I
   ·exact I
   ·rw[aU I] at O;cases O
  simp only[a0,if_true,aI] at D;subst D;have Y:(af r).set j (Ud u)=af (r.set j u):=by simp[af,List.map_set]
  rw[<-Y,fM];exact Q.1
 ·rw[bU,if_neg (λh=>J h.symm)] at D;refine(h.own k y q E D).kept Q.2 ?_;cases hyb:y.ownBlock with
  |none=>exact Or.inl rfl
  |some b=>exact Or.inr λZ=>J (h.apart k i y _ g E U (by rw[hyb,Z]) rfl)
def bZ(w:World)(a:Option Addr)(n:Nat)(D:List (List Int)):Prop:=
 ∃h,aO w a n h/\h.length=D.length/\∀(i:Nat) (x:Value) (r:List Int),h[i]? =some x->D[i]? =some r->∃a' c',x= .slice a' r.length c'/\aO w a' r.length (af r)
theorem bZ.below{B}{w w'}{a}{n}{F}(h:bZ w a n F)(E:Below B w w')(D:w.1.size<=B):bZ w' a n F:=by
 obtain⟨W,I,J,O⟩:=h;exact⟨W,I.below E D,J,λi x r U Q=>let⟨a',c',e,q⟩:=O i x r U Q;⟨a',c',e,q.below E D⟩⟩
theorem dp{w}{a}{n}{E}(h:bZ w a n E):E.length=n/\n<=140737488351232:=by
 obtain⟨J,D,F,I⟩:=h;exact⟨by rw[<-F,D.len],D.lim⟩
theorem iw{T1 T0}{w}{base}{v}{D}(h:ct T1 T0 w base v D)(I:D.length<=140737488351232)(Q:∀r∈D,r.length<=140737488351232):
 ∃a cap,v= .slice a D.length cap/\bZ w a D.length D:=by
 obtain⟨W,J,E⟩:=h;obtain⟨a,cap,rfl,O⟩:=aS J I;exact⟨a,cap,rfl,W,O,E.len,λi x r U F=>aS (E.own i x r U F) (Q r (aj F))⟩
theorem eu{P}{wr:World}{I}{J}{o}{a}{Q}
 (W:o.guard=none)(s x)(t)(a2:o.op=Op.call {callee:=Callee.builtin Builtin.append,args:=#[s,x],argTypes:=#[t,t]})
 (B)(e)(z)(E)(O:P.underlying t=some (.slice e))(Z:(P.info? e).map (λi=>(i.zero,i.size,i.bytes))=some (some z,1,E))(b1:z.cells.size=1)
 (v)(m)(xs)(u)(a3:wr.ownsRow B e 1 v m xs)(a5:a.eval s=v)(a7:a.eval x= .slice (some ⟨wr.1.size,0,none⟩) 1 1)
 (a6:u.oneCell'=true)(a0:(m+1)*E<=140737488355328)(a1:m+1<=maxLen)(b2:B<=wr.1.size)
 (U:∀v' h,h.ownsRow B e 1 v' (m+1) (xs++[u])->wr.grownBy h v.ownBlock->wpList P I Q J (a.put o.dst v') h):
 wpList P I Q (o::J) a (wr.alloc (.cells #[u] e)):=by
 obtain⟨i,hi,a8,a9,b0⟩:=info_parts Z;refine wpList_append_own _ W s x t a2 B e i z 1 E O hi a8 a9 b0 b1 (by decide) v m xs a5 (a3.alloc _) ⟨wr.1.size,0,none⟩ 1 1 [u] a7 rfl ?_ ?_ a1 a0 (by simp;omega) ?_
 ·intro j y D;match j,D with
  |0,D=>simp at D;subst D;simp[Addr.add]
 ·intro y F;simp at F;subst F;exact a6
 ·intro v' h a4 Y _;exact U v' h a4 (dd (cC _ _ _) Y)
theorem aO.drewN{w}{a}{n}{xs}(h:aO w a n xs)(m):aO (w.drewN m) a n xs:=h.below (aA (aV w.1.size w) m) aQ
def cells(h:List (List Int)):Nat:=(h.map List.length).sum
theorem xt{w w':World}{base e n}{v}{xs}(h:w.ownsRow base e 1 v n xs)(D:w.grownBy w' none):w'.ownsRow base e 1 v n xs:=h.kept D (by cases hv:v.ownBlock<;>simp)
theorem bK:(prog.info? 3).map (λi=>(i.zero,i.size,i.bytes))=some (some (Ud 0),1,8):=by kernel_rfl
theorem bd{w:World}{base e}(cs)(xs)(h:cs.toList=xs)(D:base<=w.1.size)(E:cs.size<=maxLen):
 (w.alloc (.cells cs e)).ownsRow base e 1 (.slice (some ⟨w.1.size,0,none⟩) cs.size cs.size) xs.length xs:=by
 subst h;have:=ew (base:=base) (e:=e) (size:=1) w cs cs.size D E (by simp);simpa using this
theorem ct.grown{T1 T0}{w w'}{base}{v}{I}{row}(h:ct T1 T0 w base v I)(J:w.grownBy w' row)(Q:∀k,row=some k->k<base):ct T1 T0 w' base v I:=by
 obtain⟨Y,U,E⟩:=h;have F:∀{e n:Nat} {x:Value} {xs:List Value},w.ownsRow base e 1 x n xs->w'.ownsRow base e 1 x n xs:=by
  intro e n x xs D;refine D.kept J ?_;cases hb:x.ownBlock with
  |none=>exact Or.inl rfl
  |some b=>
   refine Or.inr λO=> ?_
   have Z:=(D.lt b hb).1;have a0:=Q b O.symm;omega
 exact⟨Y,F U,E.len,λi x r D W=>F (E.own i x r D W),E.apart⟩
theorem bS.more{T0}{w w'}{base c}{D}{U}{r}(h:bS T0 w base D U)(a6:w.grownBy w' none)(a7:w'.ownsRow base T0 1 (.slice (some ⟨w.1.size,0,none⟩) r.length c) r.length (af r)):
 bS T0 w' base (D++[.slice (some ⟨w.1.size,0,none⟩) r.length c]) (U++[r]):=by
 have a2:=h.len;refine⟨by simp[a2],λi x b0 E I=> ?_,λi j x y g E a9 Z a0=> ?_⟩
 ·by_cases hi:i<D.length
  ·rw[aR hi] at E;rw[aR (by omega)] at I;exact(h.own i x b0 E I).kept a6 (by cases hv:x.ownBlock<;>simp)
  ·rw[bj (by omega)] at E;rw[bj (by omega)] at I;have O:i-D.length=0:=by
    rcases dN (i-D.length) with J|J
    ·exact J
    ·rw[aU (by simp;omega)] at E;cases E
   rw[O] at E;rw[<-a2,O] at I;simp only[cM,aI] at E I;subst E I;exact a7
 ·have a3:∀k z,(D++[Value.slice (some ⟨w.1.size,0,none⟩) r.length c])[k]? =some z->z.ownBlock=some g->(k<D.length/\D[k]? =some z/\g<w.1.size)\/(k=D.length/\g=w.1.size):=by
   intro k z F Q;by_cases a1:k<D.length
   ·rw[aR a1] at F;obtain⟨b1,a8⟩:=aE (l:=U) (n:=k) (by omega);exact Or.inl ⟨a1,F,((h.own k z b1 F a8).lt g Q).2⟩
   ·rw[bj (by omega)] at F;have O:k-D.length=0:=by
     rcases dN (k-D.length) with J|J
     ·exact J
     ·rw[aU (by simp;omega)] at F;cases F
    rw[O] at F;simp only[cM,aI] at F;subst F;simp only[Value.ownBlock,aI] at Q;exact Or.inr ⟨by omega,Q.symm⟩
  rcases a3 i x E Z with⟨a4,W,b2⟩|⟨a4,W⟩<;>rcases a3 j y a9 a0 with⟨a5,Y,b3⟩|⟨a5,Y⟩
  ·exact h.apart i j x y g W Y Z a0
  ·omega
  ·omega
  ·omega
def cO(r c:Nat):List (List Int):=List.replicate r (List.replicate c 0)
theorem DW(r c):cO (r+1) c=cO r c++[List.replicate c 0]:=by unfold cO;rw[List.replicate_succ']
theorem ec(r c):(cO r c).length=r:=by simp[cO]
theorem kC(n):(madeCells (Value.int .i64 0).cells (n*1)).toList=af (List.replicate n 0):=by
 rw[kV];show(madeCells #[Value.int .i64 0] n).toList=_
 rw[toList_madeCells_one];simp[af]
theorem eS:(prog.info? 37).map (λi=>(i.zero,i.size,i.bytes))=some (some (.slice none 0 0),1,24):=by kernel_rfl
def cK(h:List (List Int))(w:World)(e:Ending)(w':World):Prop:=
 ∃v,e= .returned v/\ct 37 3 w' w.1.size v h/\Below w.1.size w w'
theorem zq{w0 D E}{B n j}{h}{o v'}(Q:w0.ownsRow B 37 1 o (cO j n).length h)(Y:bS 3 w0 B h (cO j n))
 (J:D.ownsRow B 3 1 (.slice (some ⟨w0.1.size,0,none⟩) n n) n (madeCells (Value.int .i64 0).cells (n*1)).toList)(I:w0.grownBy D none)
 (U:E.ownsRow B 37 1 v' (j+1) (h++[.slice (some ⟨w0.1.size,0,none⟩) n n]))(O:D.grownBy E o.ownBlock):ct 37 3 E B v' (cO (j+1) n):=by
 rw[kC] at J;have F:=Y.more (r:=List.replicate n 0) (c:=n) I (by rw[lS];exact J);have W:=Q.kept I (by cases hv:o.ownBlock<;>simp);rw[lS] at F;refine⟨_,by rw[ec];exact U,?_⟩;rw[DW];exact F.kept W (by decide) O
theorem lr(n:Nat)(w)(a9:n<=1000000):
 Calls prog 202 #[Ud n] w (cK (cO n n) w):=by
 obtain⟨a4,hi,a1,a2,a3⟩:=info_parts bK;go_enter func202,ntmps202;go_wp2;go_loopw[3,6] (λo i wr=>∃j:Nat,j<=n/\i= Ud j/\ct 37 3 wr w.1.size o (cO j n)/\Below w.1.size w wr) (λ_ i _=>n-(intOf i).toNat);exact⟨0,by omega,rfl,⟨[],bd #[] _ rfl aQ (by unfold maxLen;simp),bS.nil _ _ _⟩,aZ.alloc aQ _⟩;obtain⟨j,a7,rfl,I,D⟩:=hrel;by_cases a8:j<n
 ·obtain⟨a5,O,W⟩:=I;have Y:=aa W;go_wp2_with(first|(at_make;refine wpList_make_full _ rfl _ _ 37 rfl w.1.size 3 a4 (Ud 0) 1 underlying37 hi a1 a2 .i64 .i64 _ _ n rfl rfl rfl rfl (by rw[a3];omega) (by unfold maxLen;omega) D.size ?_;intro a6 a0 E;have Q:=xt O E)|(at_builtin;go_must(refine eu rfl _ _ 24 rfl w.1.size 37 (.slice none 0 0) 24 underlying24 eS rfl _ (cO j n).length a5 _ Q rfl rfl rfl (by rw[ec];omega) (by rw[ec];unfold maxLen;omega) (bn D.size E.size) ?_);intro v' b0 U J));go_roundw;rw[ec] at U;have F:Below w.1.size w a6:=D.grown E D.size (by intro k h;cases h);exact⟨j+1,by omega,by go_num,zq O Y.o a0 E U J,F.grown J F.size (λk Z=>(Q.lt k Z).1)⟩;simp[intOf];omega
 ·obtain rfl:j=n:=by omega
  go_wp2;go_ret;exact⟨_,rfl,I,D⟩
theorem gg(r n:Nat)(w)(a9:n<=1000000)(b0:r<=1000000):
 Calls prog 186 #[Ud r,Ud n] w (cK (cO r n) w):=by
 obtain⟨a4,hi,a1,a2,a3⟩:=info_parts bK;go_enter func186,ntmps186;go_wp2;go_loopw[5,6] (λo i wr=>∃j:Nat,j<=r/\i= Ud j/\ct 37 3 wr w.1.size o (cO j n)/\Below w.1.size w wr) (λ_ i _=>r-(intOf i).toNat);exact⟨0,by omega,rfl,⟨[],bd #[] _ rfl aQ (by unfold maxLen;simp),bS.nil _ _ _⟩,aZ.alloc aQ _⟩;obtain⟨j,a7,rfl,I,D⟩:=hrel;by_cases a8:j<r
 ·obtain⟨a5,O,W⟩:=I;have Y:=aa W;go_wp2_with(first|(at_make;refine wpList_make_full _ rfl _ _ 37 rfl w.1.size 3 a4 (Ud 0) 1 underlying37 hi a1 a2 .i64 .i64 _ _ n rfl rfl rfl rfl (by rw[a3];omega) (by unfold maxLen;omega) D.size ?_;intro a6 a0 E;have Q:=xt O E)|(at_builtin;go_must(refine eu rfl _ _ 24 rfl w.1.size 37 (.slice none 0 0) 24 underlying24 eS rfl _ (cO j n).length a5 _ Q rfl rfl rfl (by rw[ec];omega) (by rw[ec];unfold maxLen;omega) (bn D.size E.size) ?_);intro v' b1 U J));go_roundw;rw[ec] at U;have F:Below w.1.size w a6:=D.grown E D.size (by intro k h;cases h);exact⟨j+1,by omega,by go_num,zq O Y.o a0 E U J,F.grown J F.size (λk Z=>(Q.lt k Z).1)⟩;simp[intOf];omega
 ·obtain rfl:j=r:=by omega
  go_wp2;go_ret;exact⟨_,rfl,I,D⟩
def cd(f:Nat->Int):Nat->Int|0=>0|k+1=>cd f k+f k
theorem iV{f:Nat->Int}{n:Nat}{B:Int}(h:∀k,k<n->0<=f k/\f k<=B):∀k,k<=n->0<=cd f k/\cd f k<=k*B
 |0,_=>by simp[cd]
 |k+1,hk=>by
  have D:=iV h k (by omega);have E:=h k (by omega);have e:((k+1:Nat):Int)*B=k*B+B:=by rw[Int.natCast_add,Int.add_mul];simp
  rw[e];unfold cd;omega
def mP(xs:List Int)(k:Nat):Int:=xs.getD k 0
theorem jq{xs}{k}{x}(h:xs[k]? =some x):mP xs k=x:=by rw[mP,ah,h];rfl
theorem dR{xs}{k}(h:k<xs.length):xs[k]? =some (mP xs k):=by obtain⟨x,D⟩:=aE h;rw[D,jq D]
theorem qA{x y X Y:Int}(h:0<=x/\x<=X)(D:0<=y/\y<=Y):0<=x*y/\x*y<=X*Y:=
 ⟨iL h.1 D.1,lG h.2 D.2 D.1 (ir h.1 h.2)⟩
theorem EI(a)(n c)(xs)(B)(w)(a9:aO w a n (af xs))(J:∀k,k<n->0<=mP xs k/\mP xs k<=B)(b2:(n:Int)*B<=4611686018427387904):
 Calls prog 140 #[.slice a n c] w λe w'=>e= .returned (Ud (cd (mP xs) n))/\w=w':=by
 obtain⟨a0,b4,W⟩:=a9;have b1:=aa (show xs.length=n by simpa[af] using a0);have a2:=aa W;have U:=aa (iV J);have a3:=aa J;have a1:∀k:Nat,k<=n->0<=B->(k:Int)*B<=(n:Int)*B:=λk Z a7=>cQ (by omega) a7
 have a4:=aa a1;clear a0 W J a1;go_enter func140,ntmps140;go_wp2;go_loop[3,8] (λq i=>∃k:Nat,k<=n/\i= Ud k/\q= Ud (cd (mP xs) k)) (λ_ i=>n-(intOf i).toNat);exact⟨0,by omega,rfl,rfl⟩;obtain⟨k,Z,rfl,rfl⟩:=hrel;by_cases D:k<n
 ·obtain⟨b,b8,rfl,b3,Y⟩:=a2.o (by omega);have b0:=Y k _ (aP (dR (xs:=xs) (k:=k) (by rw[b1.o];exact D)));have h:=U.o (k+1) D;have F:=U.o k Z;have I:=a3.o k D;have a8:=a4.o (k+1) D (by omega);have Q:=aa (show cd (mP xs) (k+1)=cd (mP xs) k+mP xs k from rfl);rw[Q.o] at h;obtain⟨x,O⟩:=aB (mP xs k);obtain⟨y,E⟩:=aB (cd (mP xs) k);rw[<-O] at b0 h I;rw[<-E] at h F;rw[<-E];have b5:x+y<=4611686018427387904:=(by omega);have b6:=F.1;have b7:=I.1;have a5:=aa O;have a6:=aa E;clear O E h F I a8 Y;go_wp2;go_round;exact⟨k+1,by omega,by go_num,by rw[Q.o,<-a5.o,<-a6.o]⟩;simp[intOf];omega
 ·obtain rfl:k=n:=by omega
  go_wp2;go_ret;exact⟨rfl,rfl⟩

theorem xg{w:World}{base e}(cs)(xs)(h:cs.toList=xs)(D:base<=w.1.size)(E:cs.size<=maxLen):
 (w.alloc (.cells cs e)).ownsRow base e 1 (.slice (some ⟨w.1.size,0,none⟩) cs.size cs.size) xs.length xs:=by
 subst h;have:=ew (base:=base) (e:=e) (size:=1) w cs cs.size D E (by simp);simpa using this

theorem dP{w:World}{base e n}{v}{xs}(h:w.ownsRow base e 1 v n xs)(J:0<n):∃g cap,v= .slice (some ⟨g,0,none⟩) n cap/\base<=g/\g<w.1.size:=by
 rcases h.2 with⟨rfl,I⟩|⟨g,cap,F,rfl,D,E,_⟩
 ·omega
 ·exact⟨g,cap,rfl,D,(bD.1 E).1⟩
def cB(h:List (List Int))(i j:Nat):Int:=mP (h.getD i []) j
def kL(A B:List (List Int))(p q k:Nat):Int:=cd (λt=>cB A p t*cB B t q) k
def ln(A B:List (List Int))(m i j k p q:Nat):Int:=if p<i then kL A B p q m else if p=i then(if q<j then kL A B p q m else if q=j then kL A B p q k else 0) else 0
def lO(A B:List (List Int))(m c i j k p:Nat):List Int:=(List.range c).map (ln A B m i j k p)
def lZ(A B:List (List Int))(m c i j k:Nat):List (List Int):=(List.range A.length).map (lO A B m c i j k)
def oY(A B:List (List Int))(c:Nat):List (List Int):=(List.range A.length).map λp=>(List.range c).map λq=>kL A B p q B.length
theorem Aj(A B)(m c i j k):(lZ A B m c i j k).length=A.length:=by simp[lZ]
theorem pN(A B)(m c i j k p):(lO A B m c i j k p).length=c:=by simp[lO]
theorem OP{A B}{m c i j k p}(h:p<A.length):(lZ A B m c i j k)[p]? =some (lO A B m c i j k p):=by simp[lZ,h]
theorem Ri{A B}{m c i j k p q}(h:q<c):(lO A B m c i j k p)[q]? =some (ln A B m i j k p q):=by simp[lO,h]
theorem OS{A B}{m c i j k D E F}(h:∀p q,p<A.length->q<c->ln A B m i j k p q=ln A B m D E F p q):lZ A B m c i j k=lZ A B m c D E F:=by
 unfold lZ;refine bp λp I=> ?_
 unfold lO;exact bp λq J=>h p q (aD.1 I) (aD.1 J)
theorem Rg(A B)(m c):lZ A B m c 0 0 0=cO A.length c:=by
 refine da (by simp[lZ,cO]) λp E F=> ?_
 simp only[lZ,cO,jP,iU,lE];refine da (by simp[lO]) λq I J=> ?_
 simp only[lO,jP,iU,lE];unfold ln;rw[if_neg (eh _)];by_cases h:p=0
 ·rw[if_pos h,if_neg (eh _)];by_cases D:q=0
  ·rw[if_pos D];rfl
  ·rw[if_neg D]
 ·rw[if_neg h]
theorem OQ(A B)(m c i j):lZ A B m c i j m=lZ A B m c i (j+1) 0:=OS λp q _ _=>by
 unfold ln;by_cases h:p<i
 ·rw[if_pos h,if_pos h]
 ·rw[if_neg h,if_neg h];by_cases D:p=i
  ·rw[if_pos D,if_pos D];by_cases E:q<j
   ·rw[if_pos E,if_pos (by omega)]
   ·rw[if_neg E];by_cases F:q=j
    ·rw[if_pos F,if_pos (by omega)]
    ·rw[if_neg F,if_neg (by omega)];by_cases I:q=j+1
     ·rw[if_pos I];rfl
     ·rw[if_neg I]
  ·rw[if_neg D,if_neg D]
theorem OR(A B)(m c i):lZ A B m c i c 0=lZ A B m c (i+1) 0 0:=OS λp q _ I=>by
 unfold ln;by_cases h:p<i
 ·rw[if_pos h,if_pos (by omega)]
 ·rw[if_neg h];by_cases D:p=i
  ·rw[if_pos D,if_pos I,if_pos (by omega)]
  ·rw[if_neg D,if_neg (by omega)];by_cases E:p=i+1
   ·rw[if_pos E,if_neg (eh _)];by_cases F:q=0
    ·rw[if_pos F];rfl
    ·rw[if_neg F]
   ·rw[if_neg E]
theorem SQ(A B)(c):lZ A B B.length c A.length 0 0=oY A B c:=by
 unfold lZ oY;refine bp λp h=> ?_
 unfold lO;refine bp λq _=> ?_
 unfold ln;rw[if_pos (aD.1 h)]
theorem Ko(A B)(m i j k):ln A B m i j k i j=kL A B i j k:=by
 unfold ln;rw[if_neg (eQ _),if_pos rfl,if_neg (eQ _),if_pos rfl]
theorem Rh{A B}{m c i j k}(hi:i<A.length)(Z:j<c):
 (lZ A B m c i j k).set i ((lO A B m c i j k i).set j (kL A B i j k+cB A i k*cB B k j))=lZ A B m c i j (k+1):=by
 refine da (by simp[Aj]) λp h I=> ?_
 rw[Aj] at I;have O:(lZ A B m c i j (k+1))[p]=lO A B m c i j (k+1) p:=by simp[lZ]
 rw[ms,O];by_cases E:i=p
 ·subst E;rw[if_pos rfl];refine da (by simp[pN]) λq Y J=> ?_
  rw[pN] at J;have Q:(lO A B m c i j (k+1) i)[q]=ln A B m i j (k+1) i q:=by simp[lO]
  rw[ms,Q];by_cases F:j=q
  ·subst F;rw[if_pos rfl,Ko];rfl
  ·rw[if_neg F];have W:(lO A B m c i j k i)[q]'(by rw[pN];exact J)=ln A B m i j k i q:=by simp[lO]
   rw[W];unfold ln;rw[if_neg (eQ _),if_neg (eQ _),if_pos rfl,if_pos rfl];by_cases D:q<j
   ·rw[if_pos D,if_pos D]
   ·rw[if_neg D,if_neg D,if_neg (Ne.symm F),if_neg (Ne.symm F)]
 ·rw[if_neg E];have U:(lZ A B m c i j k)[p]'(by rw[Aj];exact I)=lO A B m c i j k p:=by simp[lZ]
  rw[U];unfold lO;refine bp λq _=> ?_
  unfold ln;by_cases h:p<i
  ·rw[if_pos h,if_pos h]
  ·rw[if_neg h,if_neg h,if_neg (Ne.symm E),if_neg (Ne.symm E)]
theorem pg{w}{a}{n i j}{I}(h:bZ w a n I)(hi:i<n){r}(O:I[i]? =some r)(a1:j<r.length):
 ∃b E D F c,a=some ⟨b,E,none⟩/\b<w.1.size/\w.cell? ⟨b,E+i,none⟩=some (.slice (some ⟨D,F,none⟩) r.length c)/\D<w.1.size/\w.cell? ⟨D,F+j,none⟩=some (Ud (cB I i j)):=by
 obtain⟨a3,J,a4,U⟩:=h;obtain⟨b,E,rfl,W,Z⟩:=J.at_ (by omega);obtain⟨x,Q⟩:=aE (l:=a3) (n:=i) (by rw[J.len];exact hi);obtain⟨a',c',rfl,a2⟩:=U i x r Q O;obtain⟨D,F,rfl,Y,a0⟩:=a2.at_ (by omega);refine⟨b,E,D,F,c',rfl,W,Z i _ Q,Y,a0 j _ (aP ?_)⟩;rw[cB,ah,O];exact dR a1
theorem rH(a b)(n m f9 g0 c)(A B)(X Y)(w)(b5:bZ w a n A)(a4:bZ w b m B)(d1:∀r∈A,m<=r.length)(d2:∀r∈B,c<=r.length)
 (d6:∀i j,i<n->j<m->0<=cB A i j/\cB A i j<=X)(d7:∀i j,i<m->j<c->0<=cB B i j/\cB B i j<=Y)(d3:(m:Int)*(X*Y)<=4611686018427387904)(i8:n<=1000000)(i4:c<=1000000):
 Calls prog 149 #[.slice a n f9,.slice b m g0,Ud c] w (cK (oY A B c) w):=by
 have d9:=(dp b5).1;have e0:=(dp a4).1;have i7:=(dp a4).2;have e2:=aa b5;have e3:=aa a4;have O:=aa d9;have c5:=aa e0;have e7:=aa d1;have e8:=aa d2;have a3:=aa (λi j t (hi:i<n) (d8:j<c) (Z:t<m)=>qA (d6 i t hi Z) (d7 t j Z d8));have c6:=aa (λ(k:Nat) (a6:k<=m) (g2:0<=X*Y)=>(cQ (by omega) g2:(k:Int)*(X*Y)<=(m:Int)*(X*Y)));obtain⟨P,d5⟩:=aB (X*Y);rw[<-d5] at a3 c6 d3;clear b5 a4 d9 e0 d1 d2 d6 d7 d5;go_enter func149,ntmps149;go_wp2_with(first|(go_at_call 186;refine(gg n c _ (by omega) (by omega)).mono ?_;rintro e j2 ⟨v,rfl,b6,g9⟩));rw[show cO n c=lZ A B m c 0 0 0 by rw[Rg,O.o]] at b6;have e4:=aa b6;clear b6;go_loopw[8] (λi wr=>∃D:Nat,D<=n/\i= Ud D/\ct 37 3 wr w.1.size v (lZ A B m c D 0 0)/\Below w.1.size w wr) (λi _=>n-(intOf i).toNat);exact⟨0,by omega,rfl,e4.o,g9⟩;obtain⟨D,hi,rfl,I,F⟩:=hrel;by_cases Q:D<n
 ·have e5:=aa I;clear I;go_wp2;go_loopw[9] (λj wr=>∃h:Nat,h<=c/\j= Ud h/\ct 37 3 wr w.1.size v (lZ A B m c D h 0)/\Below w.1.size w wr) (λj _=>c-(intOf j).toNat);exact⟨0,by omega,rfl,e5.o,F⟩;obtain⟨h,d8,rfl,I,F⟩:=hrel;by_cases a1:h<c
  ·have e6:=aa I;clear I;go_wp2;go_loopw[10] (λk wr=>∃E:Nat,E<=m/\k= Ud E/\ct 37 3 wr w.1.size v (lZ A B m c D h E)/\Below w.1.size w wr) (λk _=>m-(intOf k).toNat);exact⟨0,by omega,rfl,e6.o,F⟩;obtain⟨E,a6,rfl,I,F⟩:=hrel;by_cases a2:E<m
   ·obtain⟨c3,b7⟩:=aE (l:=A) (n:=D) (by rw[O.o];exact Q);obtain⟨c4,b8⟩:=aE (l:=B) (n:=E) (by rw[c5.o];exact a2);have a7:=e7.o c3 (aj b7);have a8:=e8.o c4 (aj b8);obtain⟨f5,h4,f6,h5,h9,rfl,g5,b1,g6,b2⟩:=pg e2.o Q b7 (j:=E) (by omega);obtain⟨f7,h6,f8,h7,i0,rfl,g7,b3,g8,b4⟩:=pg e3.o a2 b8 (j:=h) (by omega);have b1:=(F.cell (p:=⟨f5,h4+D,none⟩) g5).trans b1;have b2:=(F.cell (p:=⟨f6,h5+E,none⟩) g6).trans b2;have b3:=(F.cell (p:=⟨f7,h6+E,none⟩) g7).trans b3;have b4:=(F.cell (p:=⟨f8,h7+h,none⟩) g8).trans b4;have h3:(E:Int)<(c3.length:Int):=(by omega);have h2:(h:Int)<(c4.length:Int):=(by omega);obtain⟨e1,U,b9⟩:=I;rw[Aj,O.o] at U;have a5:D<A.length:=by rw[O.o];exact Q
    obtain⟨x,a9⟩:=aE (l:=e1) (n:=D) (by rw[U.1];omega);have W:=b9.own D x _ a9 (OP a5);rw[pN] at W;obtain⟨g,h8,rfl,h0,i6⟩:=dP W (by omega);obtain⟨g1,cv,rfl,i3,i9⟩:=dP U (by omega);have i2:=(U.cellAt D (by omega)).trans a9;have d4:=(W.cellAt h (by omega)).trans (aP (Ri a1));rw[Ko] at d4;have i5:=W.frozenAt h;have f1:=aa (Rh (A:=A) (B:=B) (m:=m) (k:=E) a5 a1);have f0:=aa (b9.stored (OP a5) (by rw[pN];exact a9) h (kL A B D h E+cB A D E*cB B E h));have c7:=aa U;have e9:=aa W;have J:=a3.o D h E Q a1 a2;have c8:=iV (f:=λt=>cB A D t*cB B t h) (n:=m) (λt Z=>a3.o D h t Q a1 Z) (E+1) a2;have c9:=iV (f:=λt=>cB A D t*cB B t h) (n:=m) (λt Z=>a3.o D h t Q a1 Z) E a6;have d0:=c6.o (E+1) a2 (by omega);have b0:kL A B D h E+cB A D E*cB B E h<=4611686018427387904:=ir c8.2 (ir d0 d3);have g3:0<=kL A B D h E:=c9.1;obtain⟨u,c0⟩:=aB (kL A B D h E);obtain⟨y,c1⟩:=aB (cB A D E);obtain⟨z,c2⟩:=aB (cB B E h);rw[<-c0] at d4 b0 g3;rw[<-c1] at b2 b0 J;rw[<-c2] at b4 b0 J;have i1:=J.1;have f2:=aa c0;have f3:=aa c1;have f4:=aa c2;clear c0 c1 c2 J c8 c9 d0 a9 b9 U W b7 b8 a7 a8 a5;obtain⟨j0,a7⟩:=aB c3.length;obtain⟨j1,a8⟩:=aB c4.length;rw[<-a7] at b1 h3;rw[<-a8] at b3 h2;clear a7 a8;go_wp2;go_region;all_goals
     go_wp2
    go_roundw;have J:=f0.o;rw[f1.o,<-f2.o,<-f3.o,<-f4.o] at J;have h1:ct 37 3 (wr.setCell ⟨g,h,none⟩ (Ud (u+y*z))) w.1.size (.slice (some ⟨g1,0,none⟩) n cv) (lZ A B m c D h (E+1)):=⟨e1,by rw[Aj,O.o];exact c7.o.kept J.2 (eD c7.o e9.o (by decide)),J.1⟩;have g4:Below w.1.size w (wr.setCell ⟨g,h,none⟩ (Ud (u+y*z))):=F.grown J.2 F.size (λk a6=>by cases a6;exact h0);exact⟨E+1,by omega,by go_num,h1.below aZ.drew,g4.drew⟩;simp[intOf];omega
   ·obtain rfl:E=m:=by omega
    have a0:=aa I;clear I;go_wp2;go_roundw;exact⟨h+1,by omega,by go_num,by rw[<-OQ];exact a0.o,F⟩;simp[intOf];omega
  ·obtain rfl:h=c:=by omega
   have a0:=aa I;clear I;go_wp2;go_roundw;exact⟨D+1,by omega,by go_num,by rw[<-OR];exact a0.o,F⟩;simp[intOf];omega
 ·obtain rfl:D=n:=by omega
  have a0:=aa I;clear I;go_wp2;go_ret;exact⟨_,rfl,by have:=a0.o;rw[<-O.o,<-c5.o,SQ] at this;exact this,F⟩
theorem qn{w}{a}{n i}{I}(h:bZ w a n I)(hi:i<n){r}(U:I[i]? =some r):
 ∃b D a' c,a=some ⟨b,D,none⟩/\b<w.1.size/\w.cell? ⟨b,D+i,none⟩=some (.slice a' r.length c)/\aO w a' r.length (af r):=by
 obtain⟨Y,E,Z,J⟩:=h;obtain⟨b,D,rfl,O,Q⟩:=E.at_ (by omega);obtain⟨x,F⟩:=aE (l:=Y) (n:=i) (by rw[E.len];exact hi);obtain⟨a',c',rfl,W⟩:=J i x r F U;exact⟨b,D,a',c',rfl,O,Q i _ F,W⟩
theorem iR{D}{i}{r}(h:D[i]? =some r)(k):cB D i k=mP r k:=by rw[cB,ah,h];rfl
def fE{α:Type}(f:Nat->α->α):Nat->α->α|0,a=>a|k+1,a=>f k (fE f k a)
theorem pR{α:Type}{f:Nat->α->α}{P:α->Prop}(n:Nat)(h:∀k a,k<n->P a->P (f k a)):∀k,k<=n->∀a,P a->P (fE f k a)
 |0,_,_,ha=>ha
 |k+1,hk,a,ha=>h k _ hk (pR n h k (by omega) a ha)
def put2(R:List (List Int))(i j:Nat)(u:Int):List (List Int):=R.set i ((R.getD i []).set j u)
structure cS (R : List (List Int)) (n m : Nat) : Prop where
  len : R.length = n
  row : ∀ r ∈ R, r.length = m
theorem cS.get{R}{n m i}(h:cS R n m)(hi:i<n):∃r,R[i]? =some r/\r.length=m/\R.getD i []=r:=by
 obtain⟨r,D⟩:=aE (l:=R) (n:=i) (by rw[h.len];exact hi);exact⟨r,D,h.row r (aj D),by rw[ah,D];rfl⟩
theorem cS.put2{R}{n m}(h:cS R n m)(i j)(u):cS (put2 R i j u) n m:=by
 refine⟨by simp[Proofs.YtbdlbckeffakjaaGreatDoor.put2,h.len],λr D=> ?_⟩;unfold Proofs.YtbdlbckeffakjaaGreatDoor.put2 at D;rcases jU D with E|E
 ·exact h.row r E
 ·by_cases hi:i<n
  ·obtain⟨q,J,I,F⟩:=h.get hi;rw[E,F,fM,I]
  ·rw[List.set_eq_of_length_le (by rw[h.len];omega)] at D;exact h.row r D
theorem sY{R}{n m i j}(h:cS R n m)(hi:i<n)(E:j<m)(u):cB (put2 R i j u) i j=u:=by
 obtain⟨q,I,F,D⟩:=h.get hi;unfold put2 cB;rw[D,ah,bU,if_pos rfl,if_pos (by rw[h.len];exact hi),ci];exact jq (by rw[bU,if_pos rfl,if_pos (by omega)])
theorem qx{R}{i j p q}(u)(F:i≠p\/j≠q):cB (put2 R i j u) p q=cB R p q:=by
 unfold put2 cB;by_cases E:i=p
 ·subst E;rw[ah,bU,if_pos rfl];by_cases D:i<R.length
  ·rw[if_pos D,ci];unfold mP;rw[ah,bU,if_neg (by rcases F with h|h;exact absurd rfl h;exact h),<-ah]
  ·rw[if_neg D,ah,aU (by omega)]
 ·rw[ah,bU,if_neg E,<-ah]
theorem Cn(n m):cS (cO n m) n m:=⟨ec n m,λr h=>by rw[List.eq_of_mem_replicate h,lS]⟩
theorem JQ(n m i j):cB (cO n m) i j=0:=by
 unfold cB cO mP;rw[ah,ah,eM];split
 ·rw[ci,eM];split<;>rfl
 ·rfl
theorem mF{R S}{n m}(E:cS R n m)(J:cS S n m)(h:∀i j,i<n->j<m->cB R i j=cB S i j):R=S:=by
 refine da (by rw[E.len,J.len]) λi D F=> ?_
 have hi:i<n:=by rw[<-E.len];exact D
 refine da (by rw[E.row _ (jO D),J.row _ (jO F)]) λj I O=> ?_
 have Q:j<m:=by rw[<-E.row _ (jO D)];exact I
 have e:=h i j hi Q;rw[iR (di D) j,iR (di F) j,jq (di I),jq (di O)] at e;exact e
theorem en{T1 T0}{w}{base F n m cv}{R}(h:ct T1 T0 w base (.slice (some ⟨F,0,none⟩) n cv) R)(Z:T1≠T0)(J:cS R n m){i j}(hi:i<n)(a3:j<m):
 ∃g c,w.cell? ⟨F,i,none⟩=some (.slice (some ⟨g,0,none⟩) m c)/\w.cell? ⟨g,j,none⟩=some (Ud (cB R i j))/\w.frozen? ⟨g,j,none⟩=false/\base<=g/\
  (∀u,ct T1 T0 (w.setCell ⟨g,j,none⟩ (Ud u)) base (.slice (some ⟨F,0,none⟩) n cv) (put2 R i j u)/\w.grownBy (w.setCell ⟨g,j,none⟩ (Ud u)) (some g)):=by
 obtain⟨Y,D,W⟩:=h;rw[J.len] at D;obtain⟨r,O,U,a1⟩:=J.get hi;obtain⟨x,Q⟩:=aE (l:=Y) (n:=i) (by rw[D.1];omega);have E:=W.own i x r Q O;rw[U] at E;obtain⟨g,c,rfl,a0,a2⟩:=dP E (by omega);refine⟨g,c,(D.cellAt i (by omega)).trans Q,?_,E.frozenAt j,a0,λu=> ?_⟩
 ·rw[iR O];exact(E.cellAt j (by omega)).trans (aP (dR (by omega)))
 ·have I:=W.stored O (by rw[U];exact Q) j u;refine⟨⟨Y,?_,?_⟩,I.2⟩
  ·rw[show(put2 R i j u).length=n by simp[put2,J.len]];exact D.kept I.2 (eD D E Z)
  ·unfold put2;rw[a1];exact I.1
theorem cT{T1 T0}{w}{base n}{v}{R}(h:ct T1 T0 w base v R)(I:R.length=n)(F:0<n):∃D cv,v= .slice (some ⟨D,0,none⟩) n cv/\base<=D/\D<w.1.size:=by
 obtain⟨J,E,_⟩:=h;rw[I] at E;exact dP E F
theorem iH{T1 T0}{w}{base I n m cv}{R}(h:ct T1 T0 w base (.slice (some ⟨I,0,none⟩) n cv) R)(D:cS R n m)(Q:n<=1000000)(O:m<=1000000):bZ w (some ⟨I,0,none⟩) n R:=by
 obtain⟨a,c,E,F⟩:=iw h (by rw[D.len];omega) (λr J=>by rw[D.row r J];omega);rw[D.len] at E F;simp only[aJ,true_and] at E;rw[<-E.1] at F;exact F
theorem iD{w}{a}{n m i j}{R}(h:bZ w a n R)(W:cS R n m)(hi:i<n)(a1:j<m):
 ∃b E D F c,a=some ⟨b,E,none⟩/\b<w.1.size/\w.cell? ⟨b,E+i,none⟩=some (.slice (some ⟨D,F,none⟩) m c)/\D<w.1.size/\w.cell? ⟨D,F+j,none⟩=some (Ud (cB R i j)):=by
 obtain⟨r,Z,Y,a0⟩:=W.get hi;obtain⟨b,E,D,F,c,I,J,O,Q,U⟩:=pg h hi Z (j:=j) (by omega);exact⟨b,E,D,F,c,I,J,by rw[<-Y];exact O,Q,U⟩
theorem fQ{w}{a}{n m i}{R}(h:bZ w a n R)(U:cS R n m)(hi:i<n):
 ∃b D a' c r,a=some ⟨b,D,none⟩/\b<w.1.size/\w.cell? ⟨b,D+i,none⟩=some (.slice a' m c)/\aO w a' m (af r)/\R[i]? =some r/\∀j,cB R i j=mP r j:=by
 obtain⟨Z,F,a0,Q⟩:=h;obtain⟨r,E,I,a1⟩:=U.get hi;obtain⟨b,D,rfl,W,Y⟩:=F.at_ (by omega);obtain⟨x,O⟩:=aE (l:=Z) (n:=i) (by rw[F.len];exact hi);obtain⟨a',c',rfl,J⟩:=Q i x r O E;rw[I] at J;exact⟨b,D,a',c',r,rfl,W,by rw[<-I];exact Y i _ O,J,E,λj=>iR E j⟩
def nN(n:Nat)(r:List Int):Bool:=decide (r.length=n)&&r.all (λx=>jZ x 0 1000000)
def dB(M:List (List Int)):Bool:=M.all (nN M.length)&&jZ M.length 1 9
theorem ee{M}{n}(h:dB M=true)(F:M.length=n):(1<=n/\n<=9)/\cS M n n/\∀i j,0<=cB M i j/\cB M i j<=1000000:=by
 unfold dB at h;rw[aC,eT] at h;obtain⟨D,I⟩:=h;rw[bm] at D;refine⟨by omega,⟨F,λr E=> ?_⟩,λi j=> ?_⟩
 ·have:=D r E;unfold nN at this;rw[aC,decide_eq_true_eq] at this;omega
 ·unfold cB mP;rw[ah,ah];cases E:M[i]? with
  |none=>simp
  |some r=>
   rw[ci];cases hx:r[j]? with
   |none=>simp
   |some x=>
    rw[ci];have:=D r (aj E);unfold nN at this;rw[aC,bm] at this;exact eT.1 (this.2 x (aj hx))
theorem Pt{M}{n}(O:1<=n/\n<=9)(h:cS M n n)(I:∀i j,i<n->j<n->0<=cB M i j/\cB M i j<=1000000):dB M=true:=by
 unfold dB;rw[aC,eT,h.len,bm];refine⟨λr D=> ?_,by omega⟩;unfold nN;rw[aC,decide_eq_true_eq,bm];refine⟨h.row r D,λx J=> ?_⟩;obtain⟨i,hi,rfl⟩:=List.mem_iff_getElem.1 D;obtain⟨j,F,rfl⟩:=List.mem_iff_getElem.1 J;have E:=I i j (by rw[<-h.len];exact hi) (by rw[<-h.row _ D];exact F);rw[iR (di hi) j,jq (di F)] at E;exact eT.2 E
theorem CN{n}{r}(h:r.length≠n):nN n r=false:=by unfold nN;simp[h]
theorem xa{n j:Nat}{r}{x}(h:r[j]? =some x)(D:jZ x 0 1000000=false):nN n r=false:=by
 unfold nN;rw[fA (p:=λx=>jZ x 0 1000000) h D,dJ]
theorem CM{n}{r}(h:r.length=n)(D:r.all (λx=>jZ x 0 1000000)=true):nN n r=true:=by unfold nN;rw[D];simp[h]
theorem pS{M}{n k:Nat}{r}(D:M.length=n)(h:M[k]? =some r)(E:nN n r=false):dB M=false:=by
 unfold dB;rw[fA h (by rw[D];exact E),gO]
theorem Dq{M}{n k:Nat}(D:M.length=n)(h:(M.take k).all (nN n)=true)(E:n<=k):dB M=jZ n 1 9:=by
 unfold dB;rw[D,iz h (by omega),dK]
theorem fd(a)(n c)(M)(w)(h:bZ w a n M):
 Calls prog 110 #[.slice a n c] w λe w'=>e= .returned (.bool (dB M))/\w=w':=by
 obtain⟨a1,b8⟩:=dp h;have D:=aa a1;have a5:=aa h;clear a1 h;by_cases O:1<=n/\n<=9
 ·obtain⟨b2,O⟩:=O;go_enter func110,ntmps110;go_wp2;go_loop[17] (λi=>∃k:Nat,k<=n/\i= Ud k/\bv ((M.take k).all (nN n)=true)) (λi=>n-(intOf i).toNat);exact⟨0,by omega,rfl,rfl⟩;obtain⟨k,b7,rfl,H⟩:=hrel;by_cases a2:k<n
  ·obtain⟨r,W⟩:=aE (l:=M) (n:=k) (by rw[D.o];exact a2);obtain⟨b,c0,a',c',rfl,b3,a6,J⟩:=qn a5.o a2 W;obtain⟨m,Q⟩:=aB r.length;rw[<-Q] at a6 J;have F:=aa Q;have I:=aa W;have b9:=J.lim;have a4:=aa J;clear Q W J;by_cases a3:m=n
   ·subst a3;have a8:((m:Int) !=(m:Int))=false:=(by simp);go_wp2;go_loop[28] (λi=>∃j:Nat,j<=m/\i= Ud j/\bv ((r.take j).all (λx=>jZ x 0 1000000)=true)) (λi=>m-(intOf i).toNat);exact⟨0,by omega,rfl,rfl⟩;obtain⟨j,b6,rfl,Z⟩:=hrel;by_cases a7:j<m
    ·obtain⟨x,Y⟩:=aE (l:=r) (n:=j) (by rw[<-F.o];exact a7);obtain⟨b1,c1,rfl,b4,a0⟩:=a4.o.at_ (by omega);have b5:=a0 j _ (aP Y);have E:=aa Y;clear Y a0;by_cases a9:x<0
     ·go_wp2;go_ret;exact⟨aG (pS D.o I.o (xa E.o (lP (.inl a9)))).symm,rfl⟩
     ·by_cases b0:1000000<x
      ·go_wp2;go_ret;exact⟨aG (pS D.o I.o (xa E.o (lP (.inr b0)))).symm,rfl⟩
      ·go_wp2;go_round;exact⟨j+1,by omega,by go_num,fl E.o Z.o (fj (by omega))⟩;simp[intOf];omega
    ·obtain rfl:j=m:=by omega
     go_wp2;go_round;exact⟨k+1,by omega,by go_num,fl I.o H.o (CM F.o.symm (iz Z.o (by rw[<-F.o];exact aN _)))⟩;simp[intOf];omega
   ·have a8:((m:Int) !=(n:Int))=true:=by simp;omega
    go_wp2;go_ret;exact⟨aG (pS D.o I.o (CN (by rw[<-F.o];exact a3))).symm,rfl⟩
  ·go_wp2;go_ret;exact⟨aG (by rw[Dq D.o H.o (by omega),fj (by omega)]),rfl⟩
 ·have E:=aa (show dB M=false by unfold dB;rw[D.o,lP (by omega),dJ]);have U:n<1\/9<n:=(by omega);clear O;rcases U with U|U
  all_goals
   go_enter func110,ntmps110
   go_wp2
   go_ret
   exact⟨aG E.o.symm,rfl⟩
theorem dx(a)(n c)(M)(w)(h:bZ w a n M):
 Calls prog 94 #[.slice a n c] w λe w'=>e= .returned (.bool (dB M))/\w=w':=by
 obtain⟨Z,b5⟩:=dp h;have E:=aa Z;have a4:=aa h;clear Z h;go_enter func94,ntmps94;go_wp2;go_loop[3] (λi=>∃k:Nat,k<=n/\i= Ud k/\bv ((M.take k).all (nN n)=true)) (λi=>n-(intOf i).toNat);exact⟨0,by omega,rfl,rfl⟩;obtain⟨k,b4,rfl,H⟩:=hrel;by_cases a0:k<n
 ·obtain⟨r,O⟩:=aE (l:=M) (n:=k) (by rw[E.o];exact a0);obtain⟨b,b7,a',c',rfl,a9,a5,F⟩:=qn a4.o a0 O;obtain⟨m,J⟩:=aB r.length;rw[<-J] at a5 F;have D:=aa J;have I:=aa O;have b6:=F.lim;have a3:=aa F;clear J O F;by_cases a1:m=n
  ·subst a1;have a7:((m:Int) !=(m:Int))=false:=(by simp);go_wp2;go_loop[4] (λi=>∃j:Nat,j<=m/\i= Ud j/\bv ((r.take j).all (λx=>jZ x 0 1000000)=true)) (λi=>m-(intOf i).toNat);exact⟨0,by omega,rfl,rfl⟩;obtain⟨j,b3,rfl,U⟩:=hrel;by_cases a6:j<m
   ·obtain⟨x,Q⟩:=aE (l:=r) (n:=j) (by rw[<-D.o];exact a6);obtain⟨a8,b8,rfl,b0,Y⟩:=a3.o.at_ (by omega);have b1:=Y j _ (aP Q);have W:=aa Q;clear Q Y;cases hin:jZ x 0 1000000
    ·have b2:(!jZ x 0 1000000)=true:=by rw[hin];rfl
     go_wp2_with(go_at_call 96;refine(eB _ _ _ _).mono ?_;rintro e w' ⟨rfl,rfl⟩);go_ret;exact⟨aG (pS E.o I.o (xa W.o hin)).symm,rfl⟩
    ·go_wp2_with(go_at_call 96;refine(eB _ _ _ _).mono ?_;rintro e w' ⟨rfl,rfl⟩);go_round;exact⟨j+1,by omega,by go_num,fl W.o U.o hin⟩;simp[intOf];omega
   ·obtain rfl:j=m:=by omega
    go_wp2;go_round;exact⟨k+1,by omega,by go_num,fl I.o H.o (CM D.o.symm (iz U.o (by rw[<-D.o];exact aN _)))⟩;simp[intOf];omega
  ·have a7:((m:Int) !=(n:Int))=true:=by simp;omega
   go_wp2;go_ret;exact⟨aG (pS E.o I.o (CN (by rw[<-D.o];exact a1))).symm,rfl⟩
 ·have a2:=aa (Dq E.o H.o (by omega));go_wp2_with(go_at_call 96;refine(eB _ _ _ _).mono ?_;rintro e w' ⟨rfl,rfl⟩);go_ret;exact⟨aG a2.o.symm,rfl⟩
theorem Kz(b)(w):Calls prog 212 #[.bool b] w λe w'=>e= .returned (Ud (if b then 1 else 0))/\w=w':=by
 cases b<;>{
  go_enter func212,ntmps212
  go_wp2
  go_ret
  exact⟨rfl,rfl⟩}
theorem Ky(a b)(w):Calls prog 213 #[Ud a,Ud b] w λe w'=>e= .returned (Ud (max a b))/\w=w':=by
 by_cases h:b<a<;>{
  go_enter func213,ntmps213
  go_wp2
  go_ret
  exact⟨cW (by omega),rfl⟩}
def sJ(M:List (List Int))(i j:Nat)(s:List (List Int)):List (List Int):=put2 s i j (min (cB M i j) 1)
def uj(M:List (List Int))(n i:Nat)(s:List (List Int)):List (List Int):=fE (sJ M i) n s
def mn(M:List (List Int))(n:Nat):List (List Int):=fE (uj M n) n (cO n n)
def mQ(k i j:Nat)(s:List (List Int)):List (List Int):=put2 s i j (max (cB s i j) (min (cB s i k) (cB s k j)))
def ou(n k i:Nat)(s:List (List Int)):List (List Int):=fE (mQ k i) n s
def lL(n k:Nat)(s:List (List Int)):List (List Int):=fE (ou n k) n s
def cI(M:List (List Int))(n:Nat):List (List Int):=fE (lL n) n (mn M n)
structure Bits (s : List (List Int)) (n : Nat) : Prop where
  rect : cS s n n
  bit : ∀ i j, i < n → j < n → cB s i j = 0 ∨ cB s i j = 1
theorem Bits.put{s}{n i j}{u}(h:Bits s n)(hi:i<n)(D:j<n)(I:u=0\/u=1):Bits (put2 s i j u) n:=by
 refine⟨h.rect.put2 _ _ _,λp q E F=> ?_⟩;by_cases e:i=p/\j=q
 ·obtain⟨rfl,rfl⟩:=e;rw[sY h.rect hi D];exact I
 ·rw[qx u (by omega)];exact h.bit p q E F
theorem wN(n):Bits (cO n n) n:=⟨Cn n n,λi j _ _=> .inl (JQ n n i j)⟩
theorem sI{M s}{n i}(E:∀i j,i<n->j<n->0<=cB M i j)(hi:i<n)(h:Bits s n)(j)(I:j<=n):Bits (fE (sJ M i) j s) n:=
 pR (P:=λs=>Bits s n) n (λk a D F=>F.put hi D (by have:=E i k hi D;omega)) j I s h
theorem uW{M s}{n}(D:∀i j,i<n->j<n->0<=cB M i j)(h:Bits s n)(i)(hi:i<=n):Bits (fE (uj M n) i s) n:=
 pR (P:=λs=>Bits s n) n (λk a F E=>sI D F E n aQ) i hi s h
theorem Tj{x y z:Int}(h:x=0\/x=1)(D:y=0\/y=1)(E:z=0\/z=1):max x (min y z)=0\/max x (min y z)=1:=by omega
theorem Lc{x y z}(h:x=0\/x=1)(D:y=0\/y=1)(E:z=0\/z=1):bits BinOp.or IntKind.i64 x (bits BinOp.and IntKind.i64 y z)=max x (min y z):=by
 rcases h with rfl|rfl<;>rcases D with rfl|rfl<;>rcases E with rfl|rfl<;>decide
theorem rx{s}{n k i}(F:k<n)(hi:i<n)(h:Bits s n)(j)(I:j<=n):Bits (fE (mQ k i) j s) n:=
 pR (P:=λs=>Bits s n) n (λq a E D=>D.put hi E (Tj (D.bit i q hi E) (D.bit i k hi F) (D.bit k q F E))) j I s h
theorem ql{s}{n k}(E:k<n)(h:Bits s n)(i)(hi:i<=n):Bits (fE (ou n k) i s) n:=
 pR (P:=λs=>Bits s n) n (λq a F D=>rx E F D n aQ) i hi s h
theorem ul{s}{n}(h:Bits s n)(k)(E:k<=n):Bits (fE (lL n) k s) n:=
 pR (P:=λs=>Bits s n) n (λq a F D=>ql F D n aQ) k E s h
theorem oQ{M}{n}(h:∀i j,i<n->j<n->0<=cB M i j):Bits (mn M n) n:=uW h (wN n) n aQ
theorem na{M}{n}(h:∀i j,i<n->j<n->0<=cB M i j):Bits (cI M n) n:=ul (oQ h) n aQ
theorem Dn(x)(h:0<=x)(w):Calls prog 212 #[.bool (decide (0<x))] w λe w'=>e= .returned (Ud (min x 1))/\w'=w:=
 (Kz _ _).mono λe w' ⟨E,F⟩=>⟨by rw[E];exact cW (by by_cases D:0<x<;>simp[D]<;>omega),F.symm⟩
theorem vU(a)(n c)(M)(w)(c1:bZ w a n M)(c5:cS M n n)(a1:1<=n)(f6:n<=9)(c2:∀i j,i<n->j<n->0<=cB M i j):
 Calls prog 118 #[.slice a n c] w (cK (cI M n) w):=by
 have e1:=aa c1;have d7:=aa c5;have a7:=aa c2;clear c1 c5 c2;go_enter func118,ntmps118;go_wp2_with(first|(go_at_call 202;refine(lr n _ (by omega)).mono ?_;rintro e g1 ⟨v,rfl,b1,e7⟩));obtain⟨U,cv,rfl,f8,g0⟩:=cT b1 (ec n n) (by omega);have d6:=aa b1;clear b1;go_loopw[16] (λi wr=>∃h:Nat,h<=n/\i= Ud h/\ct 37 3 wr w.1.size (.slice (some ⟨U,0,none⟩) n cv) (fE (uj M n) h (cO n n))/\Below w.1.size w wr) (λi _=>n-(intOf i).toNat);exact⟨0,by omega,rfl,d6.o,e7⟩;obtain⟨h,hi,rfl,F,J⟩:=hrel;have b7:=aa F;clear F;by_cases b3:h<n
 ·obtain⟨b,f1,a',c',r,rfl,e5,c8,b5,f0,c6⟩:=fQ e1.o d7.o b3;have f9:=(J.cell (p:=⟨b,f1+h,none⟩) e5).trans c8;have d2:=aa (uW a7.o (wN n) h hi);have d9:=aa b5;have d1:=aa c6;have d8:=aa (show r.length=n by simpa[af] using b5.len);clear c8 b5 f0 c6;go_wp2;go_loopw[23] (λj wr=>∃D:Nat,D<=n/\j= Ud D/\ct 37 3 wr w.1.size (.slice (some ⟨U,0,none⟩) n cv) (fE (sJ M h) D (fE (uj M n) h (cO n n)))/\Below w.1.size w wr) (λj _=>n-(intOf j).toNat);exact⟨0,by omega,rfl,b7.o,J⟩;obtain⟨D,b2,rfl,F,J⟩:=hrel;by_cases Z:D<n
  ·obtain⟨c0,d0,rfl,e6,c7⟩:=d9.o.at_ (by omega);have c9:w.cell? ⟨c0,d0+D,none⟩=some (Ud (cB M h D)):=c7 D _ (aP (by rw[d1.o];exact dR (by rw[d8.o];exact Z)));have Q:=(J.cell (p:=⟨c0,d0+D,none⟩) e6).trans c9;obtain⟨g,e2,c3,c4,e8,b0,a0⟩:=en F (by decide) (sI a7.o b3 d2.o D b2).rect b3 Z;have O:=aa (a0 (min (cB M h D) 1));obtain⟨x,b6⟩:=aB (cB M h D);have a5:=aa (show put2 (fE (sJ M h) D (fE (uj M n) h (cO n n))) h D (min x 1)=fE (sJ M h) (D+1) (fE (uj M n) h (cO n n)) by rw[b6];rfl);rw[<-b6] at Q O;rw[a5.o] at O;clear c7 c9 F a0 b6;go_wp2;go_roundw;exact⟨D+1,by omega,by go_num,O.o.1,J.grown O.o.2 J.size (λk Y=>by cases Y;exact b0)⟩;simp[intOf];omega
  ·obtain rfl:D=n:=by omega
   have a6:=aa F;clear F;go_wp2;go_roundw;exact⟨h+1,by omega,by go_num,a6.o,J⟩;simp[intOf];omega
 ·obtain rfl:h=n:=by omega
  have d5:=aa (oQ a7.o);go_wp2;go_loopw[40] (λk wr=>∃E:Nat,E<=h/\k= Ud E/\ct 37 3 wr w.1.size (.slice (some ⟨U,0,none⟩) h cv) (fE (lL h) E (mn M h))/\Below w.1.size w wr) (λk _=>h-(intOf k).toNat);exact⟨0,by omega,rfl,b7.o,J⟩;obtain⟨E,Y,rfl,F,J⟩:=hrel;have b8:=aa F;clear F;by_cases a2:E<h
  ·have d3:=aa (ul d5.o E Y);go_wp2;go_loopw[45] (λi wr=>∃I:Nat,I<=h/\i= Ud I/\ct 37 3 wr w.1.size (.slice (some ⟨U,0,none⟩) h cv) (fE (ou h E) I (fE (lL h) E (mn M h)))/\Below w.1.size w wr) (λi _=>h-(intOf i).toNat);exact⟨0,by omega,rfl,b8.o,J⟩;obtain⟨I,e9,rfl,F,J⟩:=hrel;have b9:=aa F;clear F;by_cases b4:I<h
   ·have d4:=aa (ql a2 d3.o I e9);go_wp2;go_loopw[50] (λj wr=>∃D:Nat,D<=h/\j= Ud D/\ct 37 3 wr w.1.size (.slice (some ⟨U,0,none⟩) h cv) (fE (mQ E I) D (fE (ou h E) I (fE (lL h) E (mn M h))))/\Below w.1.size w wr) (λj _=>h-(intOf j).toNat);exact⟨0,by omega,rfl,b9.o,J⟩;obtain⟨D,b2,rfl,F,J⟩:=hrel;by_cases Z:D<h
    ·have W:=rx a2 b4 d4.o D b2;obtain⟨S,a9⟩:=aB (fE (mQ E I) D (fE (ou h E) I (fE (lL h) E (mn M h))));have e0:=aa a9;rw[<-a9] at F W;obtain⟨g,e2,c3,c4,e8,b0,a0⟩:=en F (by decide) W.rect b4 Z;obtain⟨f4,f2,a8,e3,_,_,_⟩:=en F (by decide) W.rect b4 a2;rw[c3] at a8;simp only[aI,aJ,cA,and_true,true_and] at a8;obtain⟨rfl,rfl⟩:=a8;obtain⟨f5,f3,f7,e4,_,_,_⟩:=en F (by decide) W.rect a2 Z;have O:=aa (a0 (max (cB S I D) (min (cB S I E) (cB S E D))));obtain⟨x,Q⟩:=aB (cB S I D);obtain⟨y,a3⟩:=aB (cB S I E);obtain⟨z,a4⟩:=aB (cB S E D);have a5:=aa (show put2 S I D (max x (min y z))=fE (mQ E I) (D+1) (fE (ou h E) I (fE (lL h) E (mn M h))) by rw[Q,a3,a4,e0.o];rfl);rw[<-Q,<-a3,<-a4] at O;rw[<-Q] at c4;rw[<-a3] at e3;rw[<-a4] at e4;clear F a0 Q a3 a4 a9 W;go_wp2;(refine wp_region_still_tail 29 (by kernel_rfl) (by kernel_rfl) ?_;change wpStill _ _ (World.drew _) (λa'=>wpList _ _ _ _ a' (World.drew _)) _ _;simp only[de,eW,et,eY];repeat still_step);refine wpStill_nil ?_;go_wp2;go_roundw;have a1:=O.o;rw[a5.o] at a1;exact⟨D+1,by omega,by go_num,a1.1.below aZ.drew,(J.grown a1.2 J.size (λk Y=>by cases Y;exact b0)).drew⟩;simp[intOf];omega
    ·obtain rfl:D=h:=by omega
     have a6:=aa F;clear F;go_wp2;go_roundw;exact⟨I+1,by omega,by go_num,a6.o,J⟩;simp[intOf];omega
   ·obtain rfl:I=h:=by omega
    go_wp2;go_roundw;exact⟨E+1,by omega,by go_num,b9.o,J⟩;simp[intOf];omega
  ·obtain rfl:E=h:=by omega
   go_wp2;go_ret;exact⟨_,rfl,b8.o,J⟩
theorem zG(a)(n c)(M)(w)(b9:bZ w a n M)(c3:cS M n n)(a6:1<=n)(f2:n<=9)(c0:∀i j,i<n->j<n->0<=cB M i j):
 Calls prog 214 #[.slice a n c] w (cK (cI M n) w):=by
 have d5:=aa b9;have d3:=aa c3;have a5:=aa c0;clear b9 c3 c0;go_enter func214,ntmps214;go_wp2_with(first|(go_at_call 186;refine(gg n n _ (by omega) (by omega)).mono ?_;rintro e f7 ⟨v,rfl,b3,e2⟩));obtain⟨Y,cv,rfl,f4,f6⟩:=cT b3 (ec n n) (by omega);have d1:=aa b3;clear b3;go_loopw[4] (λi wr=>∃h:Nat,h<=n/\i= Ud h/\ct 37 3 wr w.1.size (.slice (some ⟨Y,0,none⟩) n cv) (fE (uj M n) h (cO n n))/\Below w.1.size w wr) (λi _=>n-(intOf i).toNat);exact⟨0,by omega,rfl,d1.o,e2⟩;obtain⟨h,hi,rfl,F,J⟩:=hrel;have b6:=aa F;clear F;by_cases a7:h<n
 ·have c7:=aa (uW a5.o (wN n) h hi);go_wp2;go_loopw[5] (λj wr=>∃D:Nat,D<=n/\j= Ud D/\ct 37 3 wr w.1.size (.slice (some ⟨Y,0,none⟩) n cv) (fE (sJ M h) D (fE (uj M n) h (cO n n)))/\Below w.1.size w wr) (λj _=>n-(intOf j).toNat);exact⟨0,by omega,rfl,b6.o,J⟩;obtain⟨D,b4,rfl,F,J⟩:=hrel;by_cases Q:D<n
  ·obtain⟨b,e6,d6,e7,c',rfl,e0,c4,e1,c5⟩:=iD d5.o d3.o a7 Q;have f5:=(J.cell (p:=⟨b,e6+h,none⟩) e0).trans c4;have e3:=(J.cell (p:=⟨d6,e7+D,none⟩) e1).trans c5;obtain⟨g,d7,c1,c2,e4,b2,a1⟩:=en F (by decide) (sI a5.o a7 c7.o D b4).rect a7 Q;have U:=aa (a1 (min (cB M h D) 1));have c6:=a5.o h D a7 Q;obtain⟨x,b5⟩:=aB (cB M h D);have a8:=aa (show put2 (fE (sJ M h) D (fE (uj M n) h (cO n n))) h D (min x 1)=fE (sJ M h) (D+1) (fE (uj M n) h (cO n n)) by rw[b5];rfl);rw[<-b5] at e3 U c6;rw[a8.o] at U;clear c4 c5 F a1 b5;go_wp2;(refine wp_region_still_tail 15 (by kernel_rfl) (by kernel_rfl) ?_;change wpStill _ _ (World.drew _) (λa'=>wpList _ _ _ _ a' (World.drew _)) _ _;simp only[de,eW,et,eY];repeat still_step);still_call (Dn x c6 _);repeat still_step
   refine wpStill_nil ?_;go_wp2;go_roundw;exact⟨D+1,by omega,by go_num,U.o.1.below aZ.drew,(J.grown U.o.2 J.size (λk Z=>by cases Z;exact b2)).drew⟩;simp[intOf];omega
  ·obtain rfl:D=n:=by omega
   have a9:=aa F;clear F;go_wp2;go_roundw;exact⟨h+1,by omega,by go_num,a9.o,J⟩;simp[intOf];omega
 ·obtain rfl:h=n:=by omega
  have d0:=aa (oQ a5.o);go_wp2;go_loopw[6] (λk wr=>∃E:Nat,E<=h/\k= Ud E/\ct 37 3 wr w.1.size (.slice (some ⟨Y,0,none⟩) h cv) (fE (lL h) E (mn M h))/\Below w.1.size w wr) (λk _=>h-(intOf k).toNat);exact⟨0,by omega,rfl,b6.o,J⟩;obtain⟨E,Z,rfl,F,J⟩:=hrel;have b7:=aa F;clear F;by_cases W:E<h
  ·have c8:=aa (ul d0.o E Z);go_wp2;go_loopw[7] (λi wr=>∃I:Nat,I<=h/\i= Ud I/\ct 37 3 wr w.1.size (.slice (some ⟨Y,0,none⟩) h cv) (fE (ou h E) I (fE (lL h) E (mn M h)))/\Below w.1.size w wr) (λi _=>h-(intOf i).toNat);exact⟨0,by omega,rfl,b7.o,J⟩;obtain⟨I,e5,rfl,F,J⟩:=hrel;have b8:=aa F;clear F;by_cases a0:I<h
   ·have c9:=aa (ql W c8.o I e5);go_wp2;go_loopw[8] (λj wr=>∃D:Nat,D<=h/\j= Ud D/\ct 37 3 wr w.1.size (.slice (some ⟨Y,0,none⟩) h cv) (fE (mQ E I) D (fE (ou h E) I (fE (lL h) E (mn M h))))/\Below w.1.size w wr) (λj _=>h-(intOf j).toNat);exact⟨0,by omega,rfl,b8.o,J⟩;obtain⟨D,b4,rfl,F,J⟩:=hrel;by_cases Q:D<h
    ·have O:=rx W a0 c9.o D b4;obtain⟨S,b1⟩:=aB (fE (mQ E I) D (fE (ou h E) I (fE (lL h) E (mn M h))));have d4:=aa b1;rw[<-b1] at F O;obtain⟨g,d7,c1,c2,e4,b2,a1⟩:=en F (by decide) O.rect a0 Q;obtain⟨f0,e8,b0,d8,_,_,_⟩:=en F (by decide) O.rect a0 W;rw[c1] at b0;simp only[aI,aJ,cA,and_true,true_and] at b0;obtain⟨rfl,rfl⟩:=b0;obtain⟨f1,e9,f3,d9,_,_,_⟩:=en F (by decide) O.rect W Q;have U:=aa (a1 (max (cB S I D) (min (cB S I E) (cB S E D))));obtain⟨x,a2⟩:=aB (cB S I D);obtain⟨y,a3⟩:=aB (cB S I E);obtain⟨z,a4⟩:=aB (cB S E D);have d2:=aa (show bits BinOp.or IntKind.i64 x (bits BinOp.and IntKind.i64 y z)=max x (min y z) by rw[a2,a3,a4];exact Lc (O.bit I D a0 Q) (O.bit I E a0 W) (O.bit E D W Q));have a8:=aa (show put2 S I D (max x (min y z))=fE (mQ E I) (D+1) (fE (ou h E) I (fE (lL h) E (mn M h))) by rw[a2,a3,a4,d4.o];rfl);rw[<-a2,<-a3,<-a4] at U;rw[<-a2] at c2;rw[<-a3] at d8;rw[<-a4] at d9;clear F a1 a2 a3 a4 b1 O;go_wp2;(refine wp_region_still_tail 29 (by kernel_rfl) (by kernel_rfl) ?_;change wpStill _ _ (World.drew _) (λa'=>wpList _ _ _ _ a' (World.drew _)) _ _;simp only[de,eW,et,eY];repeat still_step);refine wpStill_nil ?_;go_wp2;go_roundw;have a6:=U.o;rw[a8.o,<-d2.o] at a6;exact⟨D+1,by omega,by go_num,a6.1.below aZ.drew,(J.grown a6.2 J.size (λk Z=>by cases Z;exact b2)).drew⟩;simp[intOf];omega
    ·obtain rfl:D=h:=by omega
     have a9:=aa F;clear F;go_wp2;go_roundw;exact⟨I+1,by omega,by go_num,a9.o,J⟩;simp[intOf];omega
   ·obtain rfl:I=h:=by omega
    go_wp2;go_roundw;exact⟨E+1,by omega,by go_num,b8.o,J⟩;simp[intOf];omega
  ·obtain rfl:E=h:=by omega
   go_wp2;go_ret;exact⟨_,rfl,b7.o,J⟩
end Go.Proofs.YtbdlbckeffakjaaGreatDoor
