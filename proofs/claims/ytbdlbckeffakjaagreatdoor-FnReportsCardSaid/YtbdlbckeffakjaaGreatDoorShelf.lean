/-
  DERIVED: THE SHELF's CONTRACTS AT THIS DUMP, IN PLAIN WORDS (tools/lay-plain.mjs out of 'TryzShelf.lean', which tools/lay-shelf.mjs wrote): THE SAME DECLARATIONS UNDER THE SAME NAMES: 'import', 'namespace', 'open', 'def', 'theorem' AND NOTHING ELSE: no command of the shelf's: FOR A HAND-IN. Each laying: the table of numbers ('.._ren') and one theorem, a field a fact of the dump's own or the kernel's comparison; each contract: ONE APPLICATION.
-/
import Derived.Shelf.Strings.Builder1
import Derived.Shelf.Strings.Builder2
import Derived.Shelf.Strings.OnBuilder
import Derived.Shelf.Strings.BuilderF
import Derived.Shelf.Strconv.Itoa0
import Derived.Shelf.Strconv.Itoa1
import Derived.Shelf.LaysM
import Derived.Shelf.Strconv.Itoa2
import Derived.Shelf.Strconv.Itoa3
import Derived.Shelf.Strings.Search1
import Derived.Shelf.Strings.Search2
import Derived.Shelf.Strings.Search3
import Derived.Shelf.Strings.Shaped
import Derived.Shelf.Strings.Prefix
import Derived.Shelf.Bits.Mul64
import Derived.Shelf.Strings.Repeat
import Derived.Shelf.Slices.Turned
import Derived.Test.YtbdlbckeffakjaaGreatDoorProg
namespace Go.Proofs
open Go.Proofs.Tryz
open Go.Shelf
def Tryz.lays156_ren:Go.Shelf.Ren:=⟨λ|156=>93|165=>182|166=>183|169=>184|240=>241|241=>242|276=>267|277=>268|n=>n,λ|31=>26|9=>9|3=>3|4=>4|0=>0|20=>20|72=>142|76=>146|70=>140|37=>22|75=>145|127=>191|164=>203|5=>5|80=>148|n=>n,λ|n=>n⟩
theorem Tryz.lays156:Go.Proofs.Lays.n156 prog Tryz.lays156_ren:={
 mixed:=by kernel_rfl
 f156:=func93.trans (congrArg some (by kernel_rfl))
 f165:=func182.trans (congrArg some (by kernel_rfl))
 f166:=func183.trans (congrArg some (by kernel_rfl))
 f169:=func184.trans (congrArg some (by kernel_rfl))
 f240:=func241.trans (congrArg some (by kernel_rfl))
 f241:=func242.trans (congrArg some (by kernel_rfl))
 f276:=func267.trans (congrArg some (by kernel_rfl))
 f277:=func268.trans (congrArg some (by kernel_rfl))
 t0:=underlying0
 a0:=isAgg0
 z0:=sizeOf0
 v0:=zeroValue0
 t3:=underlying3
 a3:=isAgg3
 z3:=sizeOf3
 v3:=zeroValue3
 t4:=underlying4
 a4:=isAgg4
 z4:=sizeOf4
 v4:=zeroValue4
 t9:=underlying9
 a9:=isAgg9
 z9:=sizeOf9
 v9:=zeroValue9
 t20:=underlying20
 a20:=isAgg20
 z20:=sizeOf20
 v20:=zeroValue20
 t31:=underlying26
 a31:=isAgg26
 z31:=sizeOf26
 v31:=zeroValue26
 t37:=underlying22
 a37:=isAgg22
 z37:=sizeOf22
 v37:=zeroValue22
 t70:=underlying140
 a70:=isAgg140
 z70:=sizeOf140
 v70:=zeroValue140
 t72:=underlying142
 a72:=isAgg142
 z72:=sizeOf142
 v72:=zeroValue142
 t75:=underlying145
 a75:=isAgg145
 z75:=sizeOf145
 v75:=zeroValue145
 t76:=underlying146
 a76:=isAgg146
 z76:=sizeOf146
 v76:=zeroValue146
 t127:=underlying191
 a127:=isAgg191
 z127:=sizeOf191
 v127:=zeroValue191
 t164:=underlying203
 a164:=isAgg203
 z164:=sizeOf203
 v164:=zeroValue203}
theorem Tryz.Builder_Extra_156:Builder.Extra prog Tryz.lays156_ren:={
 sizeBuilder:=by kernel_rfl
 liesBuilder:=by kernel_rfl
 t5:=underlying5
 a5:=isAgg5
 z5:=sizeOf5
 v5:=zeroValue5
 infoByte:=by kernel_rfl
 cellsByte:=by kernel_rfl
 sizeByte:=by kernel_rfl
 neB5:=by decide}
open Go.RowKit in
theorem Tryz.strings_Join(bk o c:Nat)(xs:List ByteArray)(sep:ByteArray)(w:World)(hcells:∀(j:Nat) x,xs[j]? =some x->w.cell? ⟨bk,o+j,none⟩=some (.string x))(hbk:bk<w.heap.size)(hN:xs.length<=140737488355328)(hcap:xs.length<=c)(hlen:(Lib.join (xs.map (·.data.toList)) sep.data.toList).length<=140737488355328):
 Calls prog 93 #[.slice (some ⟨bk,o,none⟩) xs.length c,.string sep] w λe w'=>e= .returned (.string ⟨(Lib.join (xs.map (·.data.toList)) sep.data.toList).toArray⟩)/\Below w.heap.size w w':=Any.strings_Join Tryz.lays156 Tryz.Builder_Extra_156 bk o c xs sep w hcells hbk hN hcap hlen
def Tryz.laysM171_ren:Go.Shelf.Ren:=⟨λ|171=>114|243=>201|246=>247|283=>269|284=>270|285=>271|286=>272|129=>282|317=>281|318=>283|319=>284|320=>285|337=>290|338=>291|n=>n,λ|3=>3|9=>9|2=>2|4=>4|171=>206|0=>0|53=>185|37=>22|5=>5|173=>208|212=>216|51=>183|20=>20|213=>217|46=>128|232=>220|233=>221|n=>n,λ|17=>1|18=>2|19=>3|n=>n⟩
theorem Tryz.laysM171:Go.Proofs.LaysM.n171 prog Tryz.laysM171_ren:={
 mixed:=by kernel_rfl
 f129:=func282.trans (congrArg some (by kernel_rfl))
 f171:=func114.trans (congrArg some (by kernel_rfl))
 f243:=func201.trans (congrArg some (by kernel_rfl))
 f246:=func247.trans (congrArg some (by kernel_rfl))
 f283:=func269.trans (congrArg some (by kernel_rfl))
 f284:=func270.trans (congrArg some (by kernel_rfl))
 f285:=func271.trans (congrArg some (by kernel_rfl))
 f286:=func272.trans (congrArg some (by kernel_rfl))
 f317:=func281.trans (congrArg some (by kernel_rfl))
 f318:=func283.trans (congrArg some (by kernel_rfl))
 f319:=func284.trans (congrArg some (by kernel_rfl))
 f320:=func285.trans (congrArg some (by kernel_rfl))
 f337:=func290.trans (congrArg some (by kernel_rfl))
 f338:=func291.trans (congrArg some (by kernel_rfl))
 t0:=underlying0
 a0:=isAgg0
 z0:=sizeOf0
 v0:=zeroValue0
 t2:=underlying2
 a2:=isAgg2
 z2:=sizeOf2
 v2:=zeroValue2
 t3:=underlying3
 a3:=isAgg3
 z3:=sizeOf3
 v3:=zeroValue3
 t4:=underlying4
 a4:=isAgg4
 z4:=sizeOf4
 v4:=zeroValue4
 t5:=underlying5
 a5:=isAgg5
 z5:=sizeOf5
 v5:=zeroValue5
 t9:=underlying9
 a9:=isAgg9
 z9:=sizeOf9
 v9:=zeroValue9
 t20:=underlying20
 a20:=isAgg20
 z20:=sizeOf20
 v20:=zeroValue20
 t37:=underlying22
 a37:=isAgg22
 z37:=sizeOf22
 v37:=zeroValue22
 t46:=underlying128
 a46:=isAgg128
 z46:=sizeOf128
 v46:=zeroValue128
 t51:=underlying183
 a51:=isAgg183
 z51:=sizeOf183
 v51:=zeroValue183
 t53:=underlying185
 a53:=isAgg185
 z53:=sizeOf185
 v53:=zeroValue185
 t171:=underlying206
 a171:=isAgg206
 z171:=sizeOf206
 v171:=zeroValue206
 t173:=underlying208
 a173:=isAgg208
 z173:=sizeOf208
 v173:=zeroValue208
 t212:=underlying216
 a212:=isAgg216
 z212:=sizeOf216
 v212:=zeroValue216
 t213:=underlying217
 a213:=isAgg217
 z213:=sizeOf217
 t232:=underlying220
 a232:=isAgg220
 z232:=sizeOf220
 v232:=zeroValue220
 t233:=underlying221
 a233:=isAgg221
 z233:=sizeOf221
 v233:=zeroValue221
 g17:=by kernel_rfl
 g18:=by kernel_rfl
 g19:=by kernel_rfl
 i0:=by kernel_rfl
 i2:=by kernel_rfl
 i3:=by kernel_rfl
 i4:=by kernel_rfl
 i5:=by kernel_rfl
 i9:=by kernel_rfl
 i20:=by kernel_rfl
 i37:=by kernel_rfl
 i46:=by kernel_rfl
 i51:=by kernel_rfl
 i53:=by kernel_rfl
 i171:=by kernel_rfl
 i173:=by kernel_rfl
 i212:=by kernel_rfl
 i232:=by kernel_rfl
 i233:=by kernel_rfl
 m17:=by kernel_rfl
 m18:=by kernel_rfl
 m19:=by kernel_rfl}
open Go.RowKit Go.Sort Go.Lib in
theorem Tryz.strconv_Itoa(n:Int)(h0: -9223372036854775808<=n)(h1:n<=9223372036854775807)(w:World)(htab:Lib.TabIs prog w "internal/strconv.uint64pow10" .u64 Lib.pow10Tab):
 Calls prog 114 #[.int .i64 n] w λe w'=>e= .returned (.string ⟨(Lib.itoa n).toArray⟩)/\∃k os,w'=grow (w.drewN k) os:=Any.strconv_Itoa Tryz.laysM171 n h0 h1 w htab
def Tryz.lays144_ren:Go.Shelf.Ren:=⟨λ|144=>226|143=>258|219=>278|217=>286|225=>287|224=>288|267=>289|266=>292|314=>293|n=>n,λ|9=>9|4=>4|3=>3|5=>5|46=>128|146=>211|51=>183|n=>n,λ|1=>0|n=>n⟩
theorem Tryz.lays144:Go.Proofs.Lays.n144 prog Tryz.lays144_ren:={
 mixed:=by kernel_rfl
 f143:=func258.trans (congrArg some (by kernel_rfl))
 f144:=func226.trans (congrArg some (by kernel_rfl))
 f217:=func286.trans (congrArg some (by kernel_rfl))
 f219:=func278.trans (congrArg some (by kernel_rfl))
 f224:=func288.trans (congrArg some (by kernel_rfl))
 f225:=func287.trans (congrArg some (by kernel_rfl))
 f266:=func292.trans (congrArg some (by kernel_rfl))
 f267:=func289.trans (congrArg some (by kernel_rfl))
 f314:=func293.trans (congrArg some (by kernel_rfl))
 t3:=underlying3
 a3:=isAgg3
 z3:=sizeOf3
 v3:=zeroValue3
 t4:=underlying4
 a4:=isAgg4
 z4:=sizeOf4
 v4:=zeroValue4
 t5:=underlying5
 a5:=isAgg5
 z5:=sizeOf5
 v5:=zeroValue5
 t9:=underlying9
 a9:=isAgg9
 z9:=sizeOf9
 v9:=zeroValue9
 t46:=underlying128
 a46:=isAgg128
 z46:=sizeOf128
 v46:=zeroValue128
 t51:=underlying183
 a51:=isAgg183
 z51:=sizeOf183
 v51:=zeroValue183
 t146:=underlying211
 a146:=isAgg211
 z146:=sizeOf211
 v146:=zeroValue211
 g1:=by kernel_rfl}
open Go.RowKit Go.Lib in
theorem Tryz.strings_Contains(s sub:ByteArray)(m:Int)(w:World)(hs:s.size<4294967281)(hm:w.cell? ⟨0,0,none⟩=some (.int .i64 m)):
 Calls prog 226 #[.string s,.string sub] w λe w'=>e= .returned (.bool (Lib.contains s.data.toList sub.data.toList))/\w'=w:=Any.strings_Contains Tryz.lays144 s sub m w hs hm
def Tryz.lays105_ren:Go.Shelf.Ren:=⟨λ|105=>224|212=>255|99=>256|165=>182|166=>183|170=>257|169=>184|263=>275|264=>276|206=>277|240=>241|241=>242|276=>267|277=>268|n=>n,λ|9=>9|3=>3|4=>4|20=>20|0=>0|46=>128|109=>198|5=>5|72=>142|76=>146|51=>183|146=>211|53=>185|148=>213|70=>140|37=>22|75=>145|127=>191|164=>203|80=>148|n=>n,λ|n=>n⟩
theorem Tryz.lays105:Go.Proofs.Lays.n105 prog Tryz.lays105_ren:={
 mixed:=by kernel_rfl
 f99:=func256.trans (congrArg some (by kernel_rfl))
 f105:=func224.trans (congrArg some (by kernel_rfl))
 f165:=func182.trans (congrArg some (by kernel_rfl))
 f166:=func183.trans (congrArg some (by kernel_rfl))
 f169:=func184.trans (congrArg some (by kernel_rfl))
 f170:=func257.trans (congrArg some (by kernel_rfl))
 f206:=func277.trans (congrArg some (by kernel_rfl))
 f212:=func255.trans (congrArg some (by kernel_rfl))
 f240:=func241.trans (congrArg some (by kernel_rfl))
 f241:=func242.trans (congrArg some (by kernel_rfl))
 f263:=func275.trans (congrArg some (by kernel_rfl))
 f264:=func276.trans (congrArg some (by kernel_rfl))
 f276:=func267.trans (congrArg some (by kernel_rfl))
 f277:=func268.trans (congrArg some (by kernel_rfl))
 t0:=underlying0
 a0:=isAgg0
 z0:=sizeOf0
 v0:=zeroValue0
 t3:=underlying3
 a3:=isAgg3
 z3:=sizeOf3
 v3:=zeroValue3
 t4:=underlying4
 a4:=isAgg4
 z4:=sizeOf4
 v4:=zeroValue4
 t5:=underlying5
 a5:=isAgg5
 z5:=sizeOf5
 v5:=zeroValue5
 t9:=underlying9
 a9:=isAgg9
 z9:=sizeOf9
 v9:=zeroValue9
 t20:=underlying20
 a20:=isAgg20
 z20:=sizeOf20
 v20:=zeroValue20
 t37:=underlying22
 a37:=isAgg22
 z37:=sizeOf22
 v37:=zeroValue22
 t46:=underlying128
 a46:=isAgg128
 z46:=sizeOf128
 v46:=zeroValue128
 t51:=underlying183
 a51:=isAgg183
 z51:=sizeOf183
 v51:=zeroValue183
 t53:=underlying185
 a53:=isAgg185
 z53:=sizeOf185
 v53:=zeroValue185
 t70:=underlying140
 a70:=isAgg140
 z70:=sizeOf140
 v70:=zeroValue140
 t72:=underlying142
 a72:=isAgg142
 z72:=sizeOf142
 v72:=zeroValue142
 t75:=underlying145
 a75:=isAgg145
 z75:=sizeOf145
 v75:=zeroValue145
 t76:=underlying146
 a76:=isAgg146
 z76:=sizeOf146
 v76:=zeroValue146
 t109:=underlying198
 a109:=isAgg198
 z109:=sizeOf198
 v109:=zeroValue198
 t127:=underlying191
 a127:=isAgg191
 z127:=sizeOf191
 v127:=zeroValue191
 t146:=underlying211
 a146:=isAgg211
 z146:=sizeOf211
 v146:=zeroValue211
 t148:=underlying213
 a148:=isAgg213
 z148:=sizeOf213
 v148:=zeroValue213
 t164:=underlying203
 a164:=isAgg203
 z164:=sizeOf203
 v164:=zeroValue203}
theorem Tryz.Builder_Extra_105:Builder.Extra prog Tryz.lays105_ren:={
 sizeBuilder:=by kernel_rfl
 liesBuilder:=by kernel_rfl
 t5:=underlying5
 a5:=isAgg5
 z5:=sizeOf5
 v5:=zeroValue5
 infoByte:=by kernel_rfl
 cellsByte:=by kernel_rfl
 sizeByte:=by kernel_rfl
 neB5:=by decide}
open Go.RowKit Go.Lib in
theorem Tryz.strings_Repeat(s:ByteArray)(c:Nat)(w:World)(hc:c<=9223372036854775807)(hlen:s.size*c<=140737488355328):
 Calls prog 224 #[.string s,.int .i64 c] w λe w'=>e= .returned (.string ⟨(Lib.repeatL s.data.toList c).toArray⟩)/\Below w.heap.size w w':=Any.strings_Repeat Tryz.lays105 Tryz.Builder_Extra_105 s c w hc hlen
end Go.Proofs
