/-
  Contracts of the library at this program: what the kit's shelf lays, in plain words, those that are used. More steps of the walk of a region
  Conditions: see each statement.
-/
import Derived.Shelf.Strings.Builder1
import Derived.Shelf.Strings.Builder2
import Derived.Shelf.Strings.Trim
import Derived.Shelf.Strings.SlTrimAscii
import Derived.Shelf.Small.Utf8
import Derived.Shelf.Small.Strs
import Derived.Shelf.Small.Wraps
import Derived.Shelf.Strings.BuilderF
import Derived.Shelf.Strconv.Itoa1
import Derived.Shelf.LaysM
import Derived.Shelf.Strconv.Itoa2
import Derived.Ground.MpProg
import Derived.Shelf.Pu.ParseUintPublic10
import Derived.Shelf.Strings.Search1
import Derived.Shelf.Strings.Search2
import Derived.Shelf.Strings.Cut
import Derived.Shelf.Strings.Shaped
import Derived.Shelf.Strings.Prefix
import Derived.Shelf.Strings.Runes
import Derived.Shelf.Strings.AsciiSet
import Derived.Shelf.Bits.Mul64
import Derived.Shelf.Strings.Repeat
import Derived.Test.YtoamcgjbelhnkaaGreatDoorProg
import Derived.Test.YtoamcgjbelhnkaaGreatDoorPAL
import Derived.Lib.ItoaMem
import Derived.Test.YtoamcgjbelhnkaaGreatDoorPAA
import Derived.Test.YtoamcgjbelhnkaaGreatDoorPAJ
set_option maxRecDepth 100000
set_option maxHeartbeats 8000000
namespace Go.Proofs
open Go.Shelf
def Tryz.lays169_ren:Go.Shelf.Ren:=⟨fun|169=>116|n=>n,fun|70=>156|9=>9|0=>0|72=>158|37=>107|127=>190|3=>3|5=>5|n=>n,fun|n=>n⟩
theorem Tryz.lays169:Go.Proofs.Lays.n169 Tryz.prog Tryz.lays169_ren:={
 mixed:=by kernel_rfl
 f169:=Tryz.func116.trans (congrArg some (by kernel_rfl))
 t0:=Tryz.underlying0
 a0:=Tryz.isAgg0
 z0:=Tryz.sizeOf0
 v0:=Tryz.zeroValue0
 t3:=Tryz.underlying3
 a3:=Tryz.isAgg3
 z3:=Tryz.sizeOf3
 v3:=Tryz.zeroValue3
 t9:=Tryz.underlying9
 a9:=Tryz.isAgg9
 z9:=Tryz.sizeOf9
 v9:=Tryz.zeroValue9
 t37:=Tryz.underlying107
 a37:=Tryz.isAgg107
 z37:=Tryz.sizeOf107
 v37:=Tryz.zeroValue107
 t70:=Tryz.underlying156
 a70:=Tryz.isAgg156
 z70:=Tryz.sizeOf156
 v70:=Tryz.zeroValue156
 t72:=Tryz.underlying158
 a72:=Tryz.isAgg158
 z72:=Tryz.sizeOf158
 v72:=Tryz.zeroValue158
 t127:=Tryz.underlying190
 a127:=Tryz.isAgg190
 z127:=Tryz.sizeOf190
 v127:=Tryz.zeroValue190}
theorem Tryz.Builder_Extra_169:Builder.Extra Tryz.prog Tryz.lays169_ren:={
 sizeBuilder:=by kernel_rfl
 liesBuilder:=by kernel_rfl
 t5:=Tryz.underlying5
 a5:=Tryz.isAgg5
 z5:=Tryz.sizeOf5
 v5:=Tryz.zeroValue5
 infoByte:=by kernel_rfl
 cellsByte:=by kernel_rfl
 sizeByte:=by kernel_rfl
 neB5:=by decide}
open Go.RowKit in
theorem Tryz.Builder_String_any(B b:Nat)(l:List UInt8)(w:World)(h:Lib.IsBuilder 158 5 B b (Lib.byteCells l) w)(hBw:B≤w.heap.size) :
  Calls Tryz.prog 116 #[.pointer (some ⟨b,0,none⟩)] w fun e w'=>e = .returned (.string ⟨l.toArray⟩)∧Below B w w':=Any.Builder_String_any Tryz.lays169 Tryz.Builder_Extra_169 B b l w h hBw
def Tryz.lays160_ren:Go.Shelf.Ren:=⟨fun|160=>105|232=>141|231=>140|227=>142|234=>144|233=>143|236=>146|235=>145|228=>163|271=>166|151=>165|197=>164|120=>187|152=>186|260=>185|137=>197|119=>198|224=>161|225=>160|217=>159|266=>183|n=>n,fun|9=>9|4=>4|3=>3|5=>5|117=>177|116=>176|0=>0|124=>180|21=>21|105=>195|46=>91|119=>231|139=>234|138=>233|n=>n,fun|3=>4|4=>5|n=>n⟩
theorem Tryz.lays160:Go.Proofs.Lays.n160 Tryz.prog Tryz.lays160_ren:={
 mixed:=by kernel_rfl
 f119:=Tryz.func198.trans (congrArg some (by kernel_rfl))
 f120:=Tryz.func187.trans (congrArg some (by kernel_rfl))
 f137:=Tryz.func197.trans (congrArg some (by kernel_rfl))
 f151:=Tryz.func165.trans (congrArg some (by kernel_rfl))
 f152:=Tryz.func186.trans (congrArg some (by kernel_rfl))
 f160:=Tryz.func105.trans (congrArg some (by kernel_rfl))
 f197:=Tryz.func164.trans (congrArg some (by kernel_rfl))
 f217:=Tryz.func159.trans (congrArg some (by kernel_rfl))
 f224:=Tryz.func161.trans (congrArg some (by kernel_rfl))
 f225:=Tryz.func160.trans (congrArg some (by kernel_rfl))
 f227:=Tryz.func142.trans (congrArg some (by kernel_rfl))
 f228:=Tryz.func163.trans (congrArg some (by kernel_rfl))
 f231:=Tryz.func140.trans (congrArg some (by kernel_rfl))
 f232:=Tryz.func141.trans (congrArg some (by kernel_rfl))
 f233:=Tryz.func143.trans (congrArg some (by kernel_rfl))
 f234:=Tryz.func144.trans (congrArg some (by kernel_rfl))
 f235:=Tryz.func145.trans (congrArg some (by kernel_rfl))
 f236:=Tryz.func146.trans (congrArg some (by kernel_rfl))
 f260:=Tryz.func185.trans (congrArg some (by kernel_rfl))
 f266:=Tryz.func183.trans (congrArg some (by kernel_rfl))
 f271:=Tryz.func166.trans (congrArg some (by kernel_rfl))
 t0:=Tryz.underlying0
 a0:=Tryz.isAgg0
 z0:=Tryz.sizeOf0
 v0:=Tryz.zeroValue0
 t3:=Tryz.underlying3
 a3:=Tryz.isAgg3
 z3:=Tryz.sizeOf3
 v3:=Tryz.zeroValue3
 t4:=Tryz.underlying4
 a4:=Tryz.isAgg4
 z4:=Tryz.sizeOf4
 v4:=Tryz.zeroValue4
 t5:=Tryz.underlying5
 a5:=Tryz.isAgg5
 z5:=Tryz.sizeOf5
 v5:=Tryz.zeroValue5
 t9:=Tryz.underlying9
 a9:=Tryz.isAgg9
 z9:=Tryz.sizeOf9
 v9:=Tryz.zeroValue9
 t21:=Tryz.underlying21
 a21:=Tryz.isAgg21
 z21:=Tryz.sizeOf21
 v21:=Tryz.zeroValue21
 t46:=Tryz.underlying91
 a46:=Tryz.isAgg91
 z46:=Tryz.sizeOf91
 v46:=Tryz.zeroValue91
 t105:=Tryz.underlying195
 a105:=Tryz.isAgg195
 z105:=Tryz.sizeOf195
 v105:=Tryz.zeroValue195
 t116:=Tryz.underlying176
 a116:=Tryz.isAgg176
 z116:=Tryz.sizeOf176
 t117:=Tryz.underlying177
 a117:=Tryz.isAgg177
 z117:=Tryz.sizeOf177
 v117:=Tryz.zeroValue177
 t119:=Tryz.underlying231
 a119:=Tryz.isAgg231
 z119:=Tryz.sizeOf231
 t124:=Tryz.underlying180
 a124:=Tryz.isAgg180
 z124:=Tryz.sizeOf180
 v124:=Tryz.zeroValue180
 t138:=Tryz.underlying233
 a138:=Tryz.isAgg233
 z138:=Tryz.sizeOf233
 v138:=Tryz.zeroValue233
 t139:=Tryz.underlying234
 a139:=Tryz.isAgg234
 z139:=Tryz.sizeOf234
 v139:=Tryz.zeroValue234
 g3:=by kernel_rfl
 g4:=by kernel_rfl}
open Go.RowKit in
theorem Tryz.strings_Trim_one(s:ByteArray)(c:UInt8)(hc:c.toNat<128)(w:World)(hs:s.size≤9223372036854775807) :
  Calls Tryz.prog 105 #[.string s,.string ⟨#[c]⟩] w fun e w'=>e = .returned (.string ⟨(Lib.trimB s.data.toList c).toArray⟩)∧(w'=w∨w'=w.drew):=Any.strings_Trim_one Tryz.lays160 s c hc w hs
def Tryz.lays103_ren:Go.Shelf.Ren:=⟨fun|103=>60|210=>104|206=>139|n=>n,fun|9=>9|4=>4|24=>97|3=>3|n=>n,fun|n=>n⟩
theorem Tryz.lays103:Go.Proofs.Lays.n103 Tryz.prog Tryz.lays103_ren:={
 mixed:=by kernel_rfl
 f103:=Tryz.func60.trans (congrArg some (by kernel_rfl))
 f206:=Tryz.func139.trans (congrArg some (by kernel_rfl))
 f210:=Tryz.func104.trans (congrArg some (by kernel_rfl))
 t3:=Tryz.underlying3
 a3:=Tryz.isAgg3
 z3:=Tryz.sizeOf3
 v3:=Tryz.zeroValue3
 t4:=Tryz.underlying4
 a4:=Tryz.isAgg4
 z4:=Tryz.sizeOf4
 v4:=Tryz.zeroValue4
 t9:=Tryz.underlying9
 a9:=Tryz.isAgg9
 z9:=Tryz.sizeOf9
 v9:=Tryz.zeroValue9
 t24:=Tryz.underlying97
 a24:=Tryz.isAgg97
 z24:=Tryz.sizeOf97
 v24:=Tryz.zeroValue97}
open Go.RowKit in
theorem Tryz.strings_CutPrefix(s p:ByteArray)(w:World) :
  Calls Tryz.prog 60 #[.string s,.string p] w fun e w'=>e = .returned (.tuple #[.string ⟨(Lib.trimPrefix s.data.toList p.data.toList).toArray⟩,.bool (Lib.hasPrefix s.data.toList p.data.toList)])∧w'=w:=Any.strings_CutPrefix Tryz.lays103 s p w
def Tryz.lays283_ren:Go.Shelf.Ren:=⟨fun|283=>176|n=>n,fun|3=>3|9=>9|4=>4|n=>n,fun|n=>n⟩
theorem Tryz.lays283:Go.Proofs.Lays.n283 Tryz.prog Tryz.lays283_ren:={
 mixed:=by kernel_rfl
 f283:=Tryz.func176.trans (congrArg some (by kernel_rfl))
 t3:=Tryz.underlying3
 a3:=Tryz.isAgg3
 z3:=Tryz.sizeOf3
 v3:=Tryz.zeroValue3
 t4:=Tryz.underlying4
 a4:=Tryz.isAgg4
 z4:=Tryz.sizeOf4
 v4:=Tryz.zeroValue4
 t9:=Tryz.underlying9
 a9:=Tryz.isAgg9
 z9:=Tryz.sizeOf9
 v9:=Tryz.zeroValue9}
open Go.Lib in
theorem Tryz.internal_strconv_small(i:Nat)(h:i<100)(w:World) :
  Calls Tryz.prog 176 #[.int .i64 i] w fun e w'=>e = .returned (.string ⟨(Lib.decDigits i).toArray⟩)∧w'=w:=Any.internal_strconv_small Tryz.lays283 i h w
def Tryz.laysM284_ren:Go.Shelf.Ren:=⟨fun|284=>177|129=>192|317=>191|318=>193|n=>n,fun|53=>111|3=>3|212=>226|0=>0|4=>4|46=>91|5=>5|9=>9|n=>n,fun|17=>3|n=>n⟩
theorem Tryz.laysM284:Go.Proofs.LaysM.n284 Tryz.prog Tryz.laysM284_ren:={
 mixed:=by kernel_rfl
 f129:=Tryz.func192.trans (congrArg some (by kernel_rfl))
 f284:=Tryz.func177.trans (congrArg some (by kernel_rfl))
 f317:=Tryz.func191.trans (congrArg some (by kernel_rfl))
 f318:=Tryz.func193.trans (congrArg some (by kernel_rfl))
 t0:=Tryz.underlying0
 a0:=Tryz.isAgg0
 z0:=Tryz.sizeOf0
 v0:=Tryz.zeroValue0
 t3:=Tryz.underlying3
 a3:=Tryz.isAgg3
 z3:=Tryz.sizeOf3
 v3:=Tryz.zeroValue3
 t4:=Tryz.underlying4
 a4:=Tryz.isAgg4
 z4:=Tryz.sizeOf4
 v4:=Tryz.zeroValue4
 t5:=Tryz.underlying5
 a5:=Tryz.isAgg5
 z5:=Tryz.sizeOf5
 v5:=Tryz.zeroValue5
 t9:=Tryz.underlying9
 a9:=Tryz.isAgg9
 z9:=Tryz.sizeOf9
 v9:=Tryz.zeroValue9
 t46:=Tryz.underlying91
 a46:=Tryz.isAgg91
 z46:=Tryz.sizeOf91
 v46:=Tryz.zeroValue91
 t53:=Tryz.underlying111
 a53:=Tryz.isAgg111
 z53:=Tryz.sizeOf111
 v53:=Tryz.zeroValue111
 t212:=Tryz.underlying226
 a212:=Tryz.isAgg226
 z212:=Tryz.sizeOf226
 v212:=Tryz.zeroValue226
 g17:=by kernel_rfl
 i0:=by kernel_rfl
 i3:=by kernel_rfl
 i4:=by kernel_rfl
 i5:=by kernel_rfl
 i9:=by kernel_rfl
 i46:=by kernel_rfl
 i53:=by kernel_rfl
 i212:=by kernel_rfl
 m17:=by kernel_rfl}
open Go.Lib in
theorem Tryz.internal_strconv_numDigits(u:Nat)(h1:1≤u)(h2:u<18446744073709551616)(w:World)(htab:Lib.TabIs Tryz.prog w "internal/strconv.uint64pow10" .u64 Lib.pow10Tab) :
  Calls Tryz.prog 177 #[.int .u64 u] w fun e w'=>e = .returned (.int .i64 (Lib.nDigits u))∧w'=w:=Any.internal_strconv_numDigits Tryz.laysM284 u h1 h2 w htab
def Tryz.lays285_ren:Go.Shelf.Ren:=⟨fun|285=>178|n=>n,fun|37=>107|53=>111|3=>3|4=>4|51=>214|9=>9|5=>5|0=>0|n=>n,fun|n=>n⟩
theorem Tryz.lays285:Go.Proofs.Lays.n285 Tryz.prog Tryz.lays285_ren:={
 mixed:=by kernel_rfl
 f285:=Tryz.func178.trans (congrArg some (by kernel_rfl))
 t0:=Tryz.underlying0
 a0:=Tryz.isAgg0
 z0:=Tryz.sizeOf0
 v0:=Tryz.zeroValue0
 t3:=Tryz.underlying3
 a3:=Tryz.isAgg3
 z3:=Tryz.sizeOf3
 v3:=Tryz.zeroValue3
 t4:=Tryz.underlying4
 a4:=Tryz.isAgg4
 z4:=Tryz.sizeOf4
 v4:=Tryz.zeroValue4
 t5:=Tryz.underlying5
 a5:=Tryz.isAgg5
 z5:=Tryz.sizeOf5
 v5:=Tryz.zeroValue5
 t9:=Tryz.underlying9
 a9:=Tryz.isAgg9
 z9:=Tryz.sizeOf9
 v9:=Tryz.zeroValue9
 t37:=Tryz.underlying107
 a37:=Tryz.isAgg107
 z37:=Tryz.sizeOf107
 v37:=Tryz.zeroValue107
 t51:=Tryz.underlying214
 a51:=Tryz.isAgg214
 z51:=Tryz.sizeOf214
 v51:=Tryz.zeroValue214
 t53:=Tryz.underlying111
 a53:=Tryz.isAgg111
 z53:=Tryz.sizeOf111
 v53:=Tryz.zeroValue111}
open Go.RowKit Go.Sort Go.Lib in
theorem Tryz.internal_strconv_formatBase10(blk off cap:Nat)(u:Nat)(d:Array UInt8)(w:World)(hH:Holds (fun (b:UInt8)=>Value.int .u8 (b.toNat:Int)) w blk off d)(hu:u<10^d.size)(hu64:u<18446744073709551616)(hsz:d.size<4611686018427387904) :
  Calls Tryz.prog 178 #[.slice (some ⟨blk,off,none⟩) d.size cap,.int .u64 u] w fun e w'=>
   e = .returned (.tuple #[])∧∃(n v':Nat) (dk:Array UInt8),w'=(putRow (fun (b:UInt8)=>Value.int .u8 (b.toNat:Int)) w blk off dk).drewN n∧FmtInv d.size u 0 v' dk:=Any.internal_strconv_formatBase10 Tryz.lays285 blk off cap u d w hH hu hu64 hsz
def Tryz.laysPu14_ren:Go.Shelf.Ren:=⟨fun|14=>106|16=>147|17=>148|19=>167|20=>168|21=>169|22=>170|23=>171|24=>172|25=>188|27=>190|26=>189|28=>199|29=>202|30=>176|31=>177|32=>178|33=>179|35=>192|34=>191|36=>193|37=>194|38=>195|39=>200|40=>201|n=>n,fun|9=>9|3=>3|22=>111|24=>145|25=>146|4=>4|34=>198|5=>5|36=>91|37=>107|0=>0|39=>200|21=>21|44=>223|47=>190|50=>238|48=>236|2=>2|52=>209|55=>212|59=>226|60=>214|20=>20|61=>227|65=>241|66=>242|67=>37|n=>n,fun|0=>1|1=>2|2=>3|3=>6|4=>7|n=>n⟩
theorem Tryz.laysPu14:Go.Proofs.LaysPu.n14 Tryz.prog Tryz.laysPu14_ren:={
 mixed:=by kernel_rfl
 f14:=Tryz.func106.trans (congrArg some (by kernel_rfl))
 f16:=Tryz.func147.trans (congrArg some (by kernel_rfl))
 f17:=Tryz.func148.trans (congrArg some (by kernel_rfl))
 f19:=Tryz.func167.trans (congrArg some (by kernel_rfl))
 f20:=Tryz.func168.trans (congrArg some (by kernel_rfl))
 f21:=Tryz.func169.trans (congrArg some (by kernel_rfl))
 f22:=Tryz.func170.trans (congrArg some (by kernel_rfl))
 f23:=Tryz.func171.trans (congrArg some (by kernel_rfl))
 f24:=Tryz.func172.trans (congrArg some (by kernel_rfl))
 f25:=Tryz.func188.trans (congrArg some (by kernel_rfl))
 f26:=Tryz.func189.trans (congrArg some (by kernel_rfl))
 f27:=Tryz.func190.trans (congrArg some (by kernel_rfl))
 f28:=Tryz.func199.trans (congrArg some (by kernel_rfl))
 f29:=Tryz.func202.trans (congrArg some (by kernel_rfl))
 f30:=Tryz.func176.trans (congrArg some (by kernel_rfl))
 f31:=Tryz.func177.trans (congrArg some (by kernel_rfl))
 f32:=Tryz.func178.trans (congrArg some (by kernel_rfl))
 f33:=Tryz.func179.trans (congrArg some (by kernel_rfl))
 f34:=Tryz.func191.trans (congrArg some (by kernel_rfl))
 f35:=Tryz.func192.trans (congrArg some (by kernel_rfl))
 f36:=Tryz.func193.trans (congrArg some (by kernel_rfl))
 f37:=Tryz.func194.trans (congrArg some (by kernel_rfl))
 f38:=Tryz.func195.trans (congrArg some (by kernel_rfl))
 f39:=Tryz.func200.trans (congrArg some (by kernel_rfl))
 f40:=Tryz.func201.trans (congrArg some (by kernel_rfl))
 t0:=Tryz.underlying0
 a0:=Tryz.isAgg0
 z0:=Tryz.sizeOf0
 v0:=Tryz.zeroValue0
 i0:=by kernel_rfl
 t2:=Tryz.underlying2
 a2:=Tryz.isAgg2
 z2:=Tryz.sizeOf2
 v2:=Tryz.zeroValue2
 i2:=by kernel_rfl
 t3:=Tryz.underlying3
 a3:=Tryz.isAgg3
 z3:=Tryz.sizeOf3
 v3:=Tryz.zeroValue3
 i3:=by kernel_rfl
 t4:=Tryz.underlying4
 a4:=Tryz.isAgg4
 z4:=Tryz.sizeOf4
 v4:=Tryz.zeroValue4
 i4:=by kernel_rfl
 t5:=Tryz.underlying5
 a5:=Tryz.isAgg5
 z5:=Tryz.sizeOf5
 v5:=Tryz.zeroValue5
 i5:=by kernel_rfl
 t9:=Tryz.underlying9
 a9:=Tryz.isAgg9
 z9:=Tryz.sizeOf9
 v9:=Tryz.zeroValue9
 i9:=by kernel_rfl
 t20:=Tryz.underlying20
 a20:=Tryz.isAgg20
 z20:=Tryz.sizeOf20
 v20:=Tryz.zeroValue20
 i20:=by kernel_rfl
 t21:=Tryz.underlying21
 a21:=Tryz.isAgg21
 z21:=Tryz.sizeOf21
 v21:=Tryz.zeroValue21
 i21:=by kernel_rfl
 t22:=Tryz.underlying111
 a22:=Tryz.isAgg111
 z22:=Tryz.sizeOf111
 v22:=Tryz.zeroValue111
 i22:=by kernel_rfl
 t24:=Tryz.underlying145
 a24:=Tryz.isAgg145
 z24:=Tryz.sizeOf145
 v24:=Tryz.zeroValue145
 i24:=by kernel_rfl
 t25:=Tryz.underlying146
 a25:=Tryz.isAgg146
 z25:=Tryz.sizeOf146
 v25:=Tryz.zeroValue146
 i25:=by kernel_rfl
 t34:=Tryz.underlying198
 a34:=Tryz.isAgg198
 z34:=Tryz.sizeOf198
 v34:=Tryz.zeroValue198
 i34:=by kernel_rfl
 c34:=by kernel_rfl
 t36:=Tryz.underlying91
 a36:=Tryz.isAgg91
 z36:=Tryz.sizeOf91
 v36:=Tryz.zeroValue91
 i36:=by kernel_rfl
 t37:=Tryz.underlying107
 a37:=Tryz.isAgg107
 z37:=Tryz.sizeOf107
 v37:=Tryz.zeroValue107
 i37:=by kernel_rfl
 t39:=Tryz.underlying200
 a39:=Tryz.isAgg200
 z39:=Tryz.sizeOf200
 v39:=Tryz.zeroValue200
 i39:=by kernel_rfl
 t44:=Tryz.underlying223
 a44:=Tryz.isAgg223
 z44:=Tryz.sizeOf223
 v44:=Tryz.zeroValue223
 i44:=by kernel_rfl
 t47:=Tryz.underlying190
 a47:=Tryz.isAgg190
 z47:=Tryz.sizeOf190
 v47:=Tryz.zeroValue190
 i47:=by kernel_rfl
 t48:=Tryz.underlying236
 a48:=Tryz.isAgg236
 z48:=Tryz.sizeOf236
 v48:=Tryz.zeroValue236
 i48:=by kernel_rfl
 t50:=Tryz.underlying238
 a50:=Tryz.isAgg238
 z50:=Tryz.sizeOf238
 v50:=Tryz.zeroValue238
 i50:=by kernel_rfl
 t52:=Tryz.underlying209
 a52:=Tryz.isAgg209
 z52:=Tryz.sizeOf209
 v52:=Tryz.zeroValue209
 i52:=by kernel_rfl
 t55:=Tryz.underlying212
 a55:=Tryz.isAgg212
 z55:=Tryz.sizeOf212
 v55:=Tryz.zeroValue212
 i55:=by kernel_rfl
 t59:=Tryz.underlying226
 a59:=Tryz.isAgg226
 z59:=Tryz.sizeOf226
 v59:=Tryz.zeroValue226
 i59:=by kernel_rfl
 t60:=Tryz.underlying214
 a60:=Tryz.isAgg214
 z60:=Tryz.sizeOf214
 v60:=Tryz.zeroValue214
 i60:=by kernel_rfl
 t61:=Tryz.underlying227
 a61:=Tryz.isAgg227
 z61:=Tryz.sizeOf227
 t65:=Tryz.underlying241
 a65:=Tryz.isAgg241
 z65:=Tryz.sizeOf241
 v65:=Tryz.zeroValue241
 i65:=by kernel_rfl
 t66:=Tryz.underlying242
 a66:=Tryz.isAgg242
 z66:=Tryz.sizeOf242
 v66:=Tryz.zeroValue242
 i66:=by kernel_rfl
 t67:=Tryz.underlying37
 a67:=Tryz.isAgg37
 z67:=Tryz.sizeOf37
 v67:=Tryz.zeroValue37
 i67:=by kernel_rfl
 g0:=by kernel_rfl
 m0:=by kernel_rfl
 g1:=by kernel_rfl
 m1:=by kernel_rfl
 g2:=by kernel_rfl
 m2:=by kernel_rfl
 g3:=by kernel_rfl
 m3:=by kernel_rfl
 g4:=by kernel_rfl
 m4:=by kernel_rfl}
open Go.RowKit in
theorem Tryz.strconv_ParseUint_10_at64_ok(s:ByteArray)(hmax:s.size≤9223372036854775806)(u:Nat)(h:Lib.parseUintB 64 s.data.toList = .ok u)(w:World) :
  Calls Tryz.prog 106 #[.string s,.int .i64 10,.int .i64 64] w fun e w'=>e = .returned (.tuple #[.int .u64 u,.nilIface])∧(w'=w∨w'=Lib.bytesWorld w 5 s):=Any.strconv_ParseUint_10_at64_ok Tryz.laysPu14 s hmax u h w
def Tryz.lays145_ren:Go.Shelf.Ren:=⟨fun|145=>59|220=>103|219=>138|217=>159|225=>160|224=>161|267=>162|266=>183|314=>184|n=>n,fun|9=>9|4=>4|59=>95|3=>3|5=>5|46=>91|146=>215|51=>214|n=>n,fun|1=>0|n=>n⟩
theorem Tryz.lays145:Go.Proofs.Lays.n145 Tryz.prog Tryz.lays145_ren:={
 mixed:=by kernel_rfl
 f145:=Tryz.func59.trans (congrArg some (by kernel_rfl))
 f217:=Tryz.func159.trans (congrArg some (by kernel_rfl))
 f219:=Tryz.func138.trans (congrArg some (by kernel_rfl))
 f220:=Tryz.func103.trans (congrArg some (by kernel_rfl))
 f224:=Tryz.func161.trans (congrArg some (by kernel_rfl))
 f225:=Tryz.func160.trans (congrArg some (by kernel_rfl))
 f266:=Tryz.func183.trans (congrArg some (by kernel_rfl))
 f267:=Tryz.func162.trans (congrArg some (by kernel_rfl))
 f314:=Tryz.func184.trans (congrArg some (by kernel_rfl))
 t3:=Tryz.underlying3
 a3:=Tryz.isAgg3
 z3:=Tryz.sizeOf3
 v3:=Tryz.zeroValue3
 t4:=Tryz.underlying4
 a4:=Tryz.isAgg4
 z4:=Tryz.sizeOf4
 v4:=Tryz.zeroValue4
 t5:=Tryz.underlying5
 a5:=Tryz.isAgg5
 z5:=Tryz.sizeOf5
 v5:=Tryz.zeroValue5
 t9:=Tryz.underlying9
 a9:=Tryz.isAgg9
 z9:=Tryz.sizeOf9
 v9:=Tryz.zeroValue9
 t46:=Tryz.underlying91
 a46:=Tryz.isAgg91
 z46:=Tryz.sizeOf91
 v46:=Tryz.zeroValue91
 t51:=Tryz.underlying214
 a51:=Tryz.isAgg214
 z51:=Tryz.sizeOf214
 v51:=Tryz.zeroValue214
 t59:=Tryz.underlying95
 a59:=Tryz.isAgg95
 z59:=Tryz.sizeOf95
 v59:=Tryz.zeroValue95
 t146:=Tryz.underlying215
 a146:=Tryz.isAgg215
 z146:=Tryz.sizeOf215
 v146:=Tryz.zeroValue215
 g1:=by kernel_rfl}
open Go.RowKit Go.Lib in
theorem Tryz.strings_Cut(s sep:ByteArray)(m:Int)(w:World)(hs:s.size<4294967281)(hm:w.cell? ⟨0,0,none⟩=some (.int .i64 m)) :
  Calls Tryz.prog 59 #[.string s,.string sep] w fun e w'=>e = .returned (.tuple #[.string ⟨(Lib.cut s.data.toList sep.data.toList).1.toArray⟩,.string ⟨(Lib.cut s.data.toList sep.data.toList).2.1.toArray⟩,.bool (Lib.cut s.data.toList sep.data.toList).2.2])∧∃n,w'=w.drewN n:=Any.strings_Cut Tryz.lays145 s sep m w hs hm
def Tryz.laysM219_ren:Go.Shelf.Ren:=⟨fun|219=>138|217=>159|225=>160|224=>161|267=>162|266=>183|314=>184|n=>n,fun|9=>9|3=>3|4=>4|5=>5|46=>91|146=>215|51=>214|n=>n,fun|1=>0|n=>n⟩
theorem Tryz.laysM219:Go.Proofs.LaysM.n219 Tryz.prog Tryz.laysM219_ren:={
 mixed:=by kernel_rfl
 f217:=Tryz.func159.trans (congrArg some (by kernel_rfl))
 f219:=Tryz.func138.trans (congrArg some (by kernel_rfl))
 f224:=Tryz.func161.trans (congrArg some (by kernel_rfl))
 f225:=Tryz.func160.trans (congrArg some (by kernel_rfl))
 f266:=Tryz.func183.trans (congrArg some (by kernel_rfl))
 f267:=Tryz.func162.trans (congrArg some (by kernel_rfl))
 f314:=Tryz.func184.trans (congrArg some (by kernel_rfl))
 t3:=Tryz.underlying3
 a3:=Tryz.isAgg3
 z3:=Tryz.sizeOf3
 v3:=Tryz.zeroValue3
 t4:=Tryz.underlying4
 a4:=Tryz.isAgg4
 z4:=Tryz.sizeOf4
 v4:=Tryz.zeroValue4
 t5:=Tryz.underlying5
 a5:=Tryz.isAgg5
 z5:=Tryz.sizeOf5
 v5:=Tryz.zeroValue5
 t9:=Tryz.underlying9
 a9:=Tryz.isAgg9
 z9:=Tryz.sizeOf9
 v9:=Tryz.zeroValue9
 t46:=Tryz.underlying91
 a46:=Tryz.isAgg91
 z46:=Tryz.sizeOf91
 v46:=Tryz.zeroValue91
 t51:=Tryz.underlying214
 a51:=Tryz.isAgg214
 z51:=Tryz.sizeOf214
 v51:=Tryz.zeroValue214
 t146:=Tryz.underlying215
 a146:=Tryz.isAgg215
 z146:=Tryz.sizeOf215
 v146:=Tryz.zeroValue215
 g1:=by kernel_rfl
 i3:=by kernel_rfl
 i4:=by kernel_rfl
 i5:=by kernel_rfl
 i9:=by kernel_rfl
 i46:=by kernel_rfl
 i51:=by kernel_rfl
 i146:=by kernel_rfl
 m1:=by kernel_rfl
 s1_3:=fun w h=>Go.Proofs.cell_of_shapedOpen_int (zero:=#[.int .i64 0]) (t:=3) h (of_decide_eq_true (by kernel_rfl)) (by kernel_rfl) rfl (by kernel_rfl) (by kernel_rfl) Tryz.underlying3}
def Tryz.lays105_ren:Go.Shelf.Ren:=⟨fun|105=>115|212=>154|99=>155|165=>156|166=>113|170=>157|169=>116|263=>180|264=>181|206=>139|240=>152|241=>182|276=>175|277=>196|n=>n,fun|9=>9|3=>3|4=>4|20=>20|0=>0|46=>91|109=>187|5=>5|72=>158|76=>159|51=>214|146=>215|53=>111|148=>217|70=>156|37=>107|75=>145|127=>190|164=>206|80=>37|n=>n,fun|n=>n⟩
theorem Tryz.lays105:Go.Proofs.Lays.n105 Tryz.prog Tryz.lays105_ren:={
 mixed:=by kernel_rfl
 f99:=Tryz.func155.trans (congrArg some (by kernel_rfl))
 f105:=Tryz.func115.trans (congrArg some (by kernel_rfl))
 f165:=Tryz.func156.trans (congrArg some (by kernel_rfl))
 f166:=Tryz.func113.trans (congrArg some (by kernel_rfl))
 f169:=Tryz.func116.trans (congrArg some (by kernel_rfl))
 f170:=Tryz.func157.trans (congrArg some (by kernel_rfl))
 f206:=Tryz.func139.trans (congrArg some (by kernel_rfl))
 f212:=Tryz.func154.trans (congrArg some (by kernel_rfl))
 f240:=Tryz.func152.trans (congrArg some (by kernel_rfl))
 f241:=Tryz.func182.trans (congrArg some (by kernel_rfl))
 f263:=Tryz.func180.trans (congrArg some (by kernel_rfl))
 f264:=Tryz.func181.trans (congrArg some (by kernel_rfl))
 f276:=Tryz.func175.trans (congrArg some (by kernel_rfl))
 f277:=Tryz.func196.trans (congrArg some (by kernel_rfl))
 t0:=Tryz.underlying0
 a0:=Tryz.isAgg0
 z0:=Tryz.sizeOf0
 v0:=Tryz.zeroValue0
 t3:=Tryz.underlying3
 a3:=Tryz.isAgg3
 z3:=Tryz.sizeOf3
 v3:=Tryz.zeroValue3
 t4:=Tryz.underlying4
 a4:=Tryz.isAgg4
 z4:=Tryz.sizeOf4
 v4:=Tryz.zeroValue4
 t5:=Tryz.underlying5
 a5:=Tryz.isAgg5
 z5:=Tryz.sizeOf5
 v5:=Tryz.zeroValue5
 t9:=Tryz.underlying9
 a9:=Tryz.isAgg9
 z9:=Tryz.sizeOf9
 v9:=Tryz.zeroValue9
 t20:=Tryz.underlying20
 a20:=Tryz.isAgg20
 z20:=Tryz.sizeOf20
 v20:=Tryz.zeroValue20
 t37:=Tryz.underlying107
 a37:=Tryz.isAgg107
 z37:=Tryz.sizeOf107
 v37:=Tryz.zeroValue107
 t46:=Tryz.underlying91
 a46:=Tryz.isAgg91
 z46:=Tryz.sizeOf91
 v46:=Tryz.zeroValue91
 t51:=Tryz.underlying214
 a51:=Tryz.isAgg214
 z51:=Tryz.sizeOf214
 v51:=Tryz.zeroValue214
 t53:=Tryz.underlying111
 a53:=Tryz.isAgg111
 z53:=Tryz.sizeOf111
 v53:=Tryz.zeroValue111
 t70:=Tryz.underlying156
 a70:=Tryz.isAgg156
 z70:=Tryz.sizeOf156
 v70:=Tryz.zeroValue156
 t72:=Tryz.underlying158
 a72:=Tryz.isAgg158
 z72:=Tryz.sizeOf158
 v72:=Tryz.zeroValue158
 t75:=Tryz.underlying145
 a75:=Tryz.isAgg145
 z75:=Tryz.sizeOf145
 v75:=Tryz.zeroValue145
 t76:=Tryz.underlying159
 a76:=Tryz.isAgg159
 z76:=Tryz.sizeOf159
 v76:=Tryz.zeroValue159
 t109:=Tryz.underlying187
 a109:=Tryz.isAgg187
 z109:=Tryz.sizeOf187
 v109:=Tryz.zeroValue187
 t127:=Tryz.underlying190
 a127:=Tryz.isAgg190
 z127:=Tryz.sizeOf190
 v127:=Tryz.zeroValue190
 t146:=Tryz.underlying215
 a146:=Tryz.isAgg215
 z146:=Tryz.sizeOf215
 v146:=Tryz.zeroValue215
 t148:=Tryz.underlying217
 a148:=Tryz.isAgg217
 z148:=Tryz.sizeOf217
 v148:=Tryz.zeroValue217
 t164:=Tryz.underlying206
 a164:=Tryz.isAgg206
 z164:=Tryz.sizeOf206
 v164:=Tryz.zeroValue206}
theorem Tryz.Builder_Extra_105:Builder.Extra Tryz.prog Tryz.lays105_ren:={
 sizeBuilder:=by kernel_rfl
 liesBuilder:=by kernel_rfl
 t5:=Tryz.underlying5
 a5:=Tryz.isAgg5
 z5:=Tryz.sizeOf5
 v5:=Tryz.zeroValue5
 infoByte:=by kernel_rfl
 cellsByte:=by kernel_rfl
 sizeByte:=by kernel_rfl
 neB5:=by decide}
open Go.RowKit Go.Lib in
theorem Tryz.strings_Repeat(s:ByteArray)(c:Nat)(w:World)(hc:c≤9223372036854775807)(hlen:s.size*c≤140737488355328) :
  Calls Tryz.prog 115 #[.string s,.int .i64 c] w fun e w'=>e = .returned (.string ⟨(Lib.repeatL s.data.toList c).toArray⟩)∧Below w.heap.size w w':=Any.strings_Repeat Tryz.lays105 Tryz.Builder_Extra_105 s c w hc hlen
end Go.Proofs
namespace Go.Num
open Go.Shelf Go.RowKit Go.Proofs Go.Proofs.YtoamcgjbelhnkaaGreatDoor
theorem zov:(Tryz.prog.info? 158).map (·.size)=some 2:=by kernel_rfl
theorem zsb:liesAt Tryz.prog Tryz.prog.depth 158 (2/Tryz.prog.cellsOf 158) 0 158 1=true:=by kernel_rfl
theorem u156:Tryz.prog.underlying 156=some (.pointer 158):=by kernel_rfl
theorem u206:Tryz.prog.underlying 206=some .unsafePointer:=by kernel_rfl
theorem zi6(b:Nat)(w:World)(h0:w.cell? ⟨b,0,none⟩=some (.pointer (some ⟨b,0,none⟩))) :
  Calls Tryz.prog 152 #[.pointer (some ⟨b,0,none⟩)] w fun e w'=>e = .returned (.tuple #[])∧w'=w:=by
 obtain⟨j,hj,_⟩:=Option.map_eq_some_iff.1 zov;go_enter Tryz.func152,Tryz.ntmps152
 go_wp2
 rw [Lib.run_neq_ptr_same w _ Go.Num.u156 hj];go_wp2
 go_end0
 exact⟨rfl,rfl⟩
theorem ziA(b:Nat)(w:World)(h0:w.cell? ⟨b,0,none⟩=some (.pointer none))(hsh:w.shape? b=some (158,2))(hfz:w.frozen? ⟨b,0,none⟩=false) :
  Calls Tryz.prog 152 #[.pointer (some ⟨b,0,none⟩)] w fun e w'=>e = .returned (.tuple #[])∧w'=w.setCell ⟨b,0,none⟩ (.pointer (some ⟨b,0,none⟩)):=by
 obtain⟨j,hj,hjs⟩:=Option.map_eq_some_iff.1 zov;go_enter Tryz.func152,Tryz.ntmps152
 go_wp2
 rw [Lib.run_to_unsafe w ⟨b,0,none⟩ Go.Num.u156 Go.Num.u206 hj (by rw [hjs];decide) hsh (Nat.zero_lt_succ 1)];simp only [Result.andThen];rw [Oper.upon_value];go_wp2
 rw [run_callFunc_extern Tryz.func175 (by kernel_rfl) (by kernel_rfl) (by kernel_rfl) (e:=Extern.AbiNoEscape.same) (by kernel_rfl)];rw [Lib.run_noEscape];simp only [Result.andThen];rw [Oper.upon_value];go_wp2
 rw [Lib.run_from_unsafe w ⟨b,0,none⟩ Go.Num.u206 Go.Num.u156 hj hsh zsb];simp only [Result.andThen];rw [Oper.upon_value];go_wp2
 go_end0
 exact⟨rfl,rfl⟩
theorem ziB(B b:Nat)(bs:List Value)(w:World)(h:Lib.IsBuilder 158 5 B b bs w) :
  Calls Tryz.prog 152 #[.pointer (some ⟨b,0,none⟩)] w fun e w'=>e = .returned (.tuple #[])∧(Lib.BuilderAt 158 5 B b (.pointer (some ⟨b,0,none⟩)) bs w'∧Below B w w'):=by
 rcases h with h|h
 ·refine(ziA b w h.cell0 h.shape h.frozen0).mono ?_;rintro e w' ⟨rfl,rfl⟩;exact⟨rfl,h.used _,(Below.refl B w).setCell (p:=⟨b,0,none⟩) h.1 _⟩
 ·refine(zi6 b w h.cell0).mono ?_;rintro e w' ⟨rfl,rfl⟩;exact⟨rfl,h,Below.refl B _⟩
theorem zdv(B b:Nat)(bs:List Value)(s:ByteArray)(w:World)(h:Lib.IsBuilder 158 5 B b bs w)(hlen:bs.length+s.size≤140737488355328)(hBw:B≤w.heap.size) :
  Calls Tryz.prog 113 #[.pointer (some ⟨b,0,none⟩),.string s] w fun e w'=>e = .returned (.tuple #[.int .i64 s.size,.nilIface])∧(Lib.BuilderAt 158 5 B b (.pointer (some ⟨b,0,none⟩)) (bs ++ Lib.strCells s) w'∧Below B w w'):=by
 go_enter Tryz.func113,Tryz.ntmps113
 go_wp2_with (go_at_call 152;refine(ziB B b bs _ h).mono ?_)
 rintro e w1 ⟨rfl,h1,hb1⟩;obtain⟨hB,v,hbk,hown,hne⟩:=h1;have c0:w1.cell? ⟨b,0,none⟩=some (.pointer (some ⟨b,0,none⟩)):=by rw [Lib.cell_of_heap hbk];rfl
 have c1:w1.cell? ⟨b,1,none⟩=some v:=by rw [Lib.cell_of_heap hbk];rfl
 go_wp2_with (at_builtin;refine Lib.wpList_append_own_string _ rfl _ _ 107 9 rfl B 5 Tryz.t5 Go.Num.u107 Go.Num.u9 zpI zpG zpH znw _ _ _ rfl hown s rfl ?c3 ?c4 ?c5 ?_)
 case c3=>unfold maxLen;omega
 case c4=>omega
 case c5=>have:=hb1.size;omega
 intro v' w2 hown' hgrow _;have hlt:b<w1.heap.size:=by
  rcases Nat.lt_or_ge b w1.heap.size with h'|h'
  ·exact h'
  ·simp [Array.getElem?_eq_none h']at hbk
 have hb2:w2.heap[b]? = some (.cells #[.pointer (some ⟨b,0,none⟩),v] 158 (0,0)):=by
  rw [hgrow.block b hlt (fun e=>hne e.symm)];exact hbk
 have d0:w2.cell? ⟨b,0,none⟩=some (.pointer (some ⟨b,0,none⟩)):=by rw [Lib.cell_of_heap hb2];rfl
 have d1:w2.cell? ⟨b,1,none⟩=some v:=by rw [Lib.cell_of_heap hb2];rfl
 have f1:w2.frozen? ⟨b,1,none⟩=false:=Lib.frozen_of_heap hb2 1;obtain⟨ao,n',cap,rfl⟩:∃ao n' cap,v' = .slice ao n' cap:=by
  rcases hown'.2 with⟨hv,_⟩|⟨g,cap,cur,hv,_⟩
  ·exact⟨_,_,_,hv⟩
  ·exact⟨_,_,_,hv⟩
 go_wp2
 go_ret2
 refine⟨rfl,?_,?_⟩
 ·exact Lib.BuilderAt.put (T:=158) (e:=5) hB hb2 (bs':=bs ++ Lib.strCells s) (by simpa [Lib.strCells_length]using hown') (by decide)
 ·exact(hb1.grown hgrow (by have:=hb1.size;omega) (fun k hk=>(hown.lt k hk).1)).setCell (p:=⟨b,1,none⟩) hB _
end Go.Num
namespace Go.Num
open Go.Shelf Go.RowKit Go.Sort Go.Proofs Go.Proofs.YtoamcgjbelhnkaaGreatDoor
abbrev zaU(w:World):Prop:=Lib.TabIs Tryz.prog w "internal/strconv.uint64pow10" .u64 Lib.pow10Tab
theorem ztq:Tryz.prog.arrayLen 209=24:=by kernel_rfl
theorem zmY(w:World)(os:Array Obj):Below w.heap.size w (grow w os):=⟨rfl,rfl,rfl,by simp [grow],fun k hk=>by
 show(w.heap ++ os)[k]? = w.heap[k]?
 exact Array.getElem?_append_left hk⟩
theorem zlO(u:Nat)(hu64:u<18446744073709551616)(w:World)(htab:zaU w) :
  Calls Tryz.prog 153 #[.int .u64 u,.int .i64 10] w fun e w'=>e = .returned (.string ⟨(Lib.decDigits u).toArray⟩)∧Below w.heap.size w w':=by
 by_cases hs:u<100
 ·have hsi:decide ((u:Int)<100)=true:=decide_eq_true (by omega);have hwr:IntKind.i64.wrap (u:Int)=(u:Int):=zeH (by omega);go_enter Tryz.func153,Tryz.ntmps153
  go_wp2_with (go_at_call 176;refine(Tryz.internal_strconv_small u hs _).mono ?_;rintro e w' ⟨rfl,rfl⟩)
  go_ret
  exact⟨rfl,Below.refl _ _⟩
 ·have hsi:decide ((u:Int)<100)=false:=decide_eq_false (by omega);have hu1:1≤u:=by omega
  have hnd20:Lib.nDigits u≤20:=by have:=Lib.numDigits_eq u hu1 hu64;split at this <;> omega
  have hsl1:∀W,(Instr.sliceAt 209 (.pointer (some ⟨w.heap.size,0,none⟩)) none (some (.int .i64 (Lib.nDigits u:Int))) none).run Tryz.prog W = .ok (.slice (some ⟨w.heap.size,0,none⟩) (Lib.nDigits u) 24) W:=fun W=>by
   rw [run_sliceAt_array_h W 209 ⟨w.heap.size,0,none⟩ (by kernel_rfl) .i64 (Lib.nDigits u:Int) (by omega) (by rw [ztq];omega)];rw [ztq];go_simp
  have hH0:Holds (fun (b:UInt8)=>Value.int .u8 (b.toNat:Int)) (w.alloc (.cells Lib.zeros24 209)) w.heap.size 0 (Array.replicate (Lib.nDigits u) 0):=fun i hi=>by
   have hj':i<Lib.nDigits u:=by simpa using hi
   refine⟨?_,World.frozen?_alloc_new _ _ _ _⟩;rw [Nat.zero_add,World.cell?_alloc_new,Lib.zeros24_at _ (by omega),getElem!_pos _ i hi];simp
  have hfmt:=Tryz.internal_strconv_formatBase10 w.heap.size 0 24 u (Array.replicate (Lib.nDigits u) 0) (w.alloc (.cells Lib.zeros24 209)) hH0 (by rw [Array.size_replicate];exact Lib.lt_pow_nDigits u) hu64 (by rw [Array.size_replicate];omega);rw [Array.size_replicate]at hfmt;have HH0:=Lib.hid hH0;clear hH0;go_enter Tryz.func153,Tryz.ntmps153
  go_wp2_with (first
   | (go_at_call 177;refine(Tryz.internal_strconv_numDigits u hu1 hu64 _ (Lib.tabIs_alloc htab _)).mono ?_;rintro e w' ⟨rfl,rfl⟩))
  refine hfmt.mono ?_;rintro e w' ⟨rfl,k,v',dk,rfl,hF⟩;have hcv:(convert 107 9 (.slice (some ⟨w.heap.size,0,none⟩) (Lib.nDigits u) 24)).run Tryz.prog ((putRow (fun (b:UInt8)=>Value.int .u8 (b.toNat:Int)) (w.alloc (.cells Lib.zeros24 209)) w.heap.size 0 dk).drewN k) = .ok (.string ⟨(Lib.decDigits u).toArray⟩) ((putRow (fun (b:UInt8)=>Value.int .u8 (b.toNat:Int)) (w.alloc (.cells Lib.zeros24 209)) w.heap.size 0 dk).drewN k):=by
   have h:=run_convert_bytes_back (P:=Tryz.prog) ((putRow (fun (b:UInt8)=>Value.int .u8 (b.toNat:Int)) (w.alloc (.cells Lib.zeros24 209)) w.heap.size 0 dk).drewN k) 107 9 5 ⟨w.heap.size,0,none⟩ 24 (Lib.decDigits u) Go.Num.u107 Go.Num.u5 Go.Num.u9 (fun j hj=>by
    rw [Lib.row_is_numeral hF j hj,Lib.add_plain,World.cell?_drewN];exact cell?_putRow (fun (b:UInt8)=>Value.int .u8 (b.toNat:Int)) _ w.heap.size 0 _ dk HH0.out (by rw [hF.size,Array.size_replicate]) j (by rw [hF.size];rw [Lib.decDigits_length]at hj;exact hj))
   rw [Lib.decDigits_length]at h;exact h
  have hB:Below w.heap.size w ((putRow (fun (b:UInt8)=>Value.int .u8 (b.toNat:Int)) (w.alloc (.cells Lib.zeros24 209)) w.heap.size 0 dk).drewN k):=by
   rw [alloc_eq_grow];obtain⟨os',_,e⟩:=putRow_grow_new (fun (b:UInt8)=>Value.int .u8 (b.toNat:Int)) w #[.cells Lib.zeros24 209] w.heap.size 0 dk (Nat.le_refl _);rw [e];exact(zmY w os').trans ((zbi _ _).mono (by simp))
  have HBl:=Lib.hid hB;clear hB;go_wp2
  go_ret
  exact⟨rfl,HBl.out⟩
end Go.Num
namespace Go.Num
open Go.Eng Go.Shelf Go.RowKit Go.Sort Go.Proofs Go.Proofs.YtoamcgjbelhnkaaGreatDoor
theorem zaU.below{w w':World}(h:zaU w)(hb:Below w.heap.size w w'):zaU w':=by
 unfold zaU Lib.TabIs World.var? at h ⊢
 cases hg:Tryz.prog.globalNamed "internal/strconv.uint64pow10" with
 | none=>rw [hg]at h;cases h
 | some g=>
  rw [hg]at h;simp only [Option.bind_some]at h ⊢;have hlt:g<w.heap.size:=by
   rcases Nat.lt_or_ge g w.heap.size with h'|h'
   ·exact h'
   ·rw [Array.getElem?_eq_none h']at h;cases h
  rw [hb.block g hlt];exact h
theorem zel(u:Nat)(hu64:u<18446744073709551616)(w:World)(htab:zaU w) :
  CallsIn Fence.wide 0 Tryz.prog 114 #[.int .u64 u,.int .i64 10] w fun e w'=>e = .returned (.string ⟨(Lib.decDigits u).toArray⟩)∧Below w.heap.size w w':=by
 refine callsIn_of_wp Tryz.func114 rfl trivial ?_ rfl;simp only [Tryz.ntmps114,ztE,ztF,ztG,Nat.reduceAdd,Nat.reduceSub,ztH,ztI,ztJ,ztK,ztL,ztM];gi_wp2_with (gi_at_call 153;refine stop ?_)
 unfold Stop;refine(callsIn_wide.2 (zlO u hu64 w htab)).mono ?_;rintro e w' ⟨rfl,hB⟩;gi_wp2;all_goals (first|go_returns|go_ret|go_end0)
 exact⟨rfl,hB⟩
theorem zsY(w:World):Lib.IsBuilder 158 5 w.heap.size w.heap.size [] (w.alloc (.cells #[.pointer none,.slice none 0 0] 158)):=
 .inl ⟨Nat.le_refl _,.slice none 0 0,by show(w.heap.push _)[w.heap.size]? = _;simp,World.ownsRow_nil _ _ _ _,by simp [Value.ownBlock]⟩
theorem repL(c:UInt8):∀n,Lib.repeatL [c] n=List.replicate n c
 | 0=>rfl
 | n+1=>by
  show [c] ++ Lib.repeatL [c] n=_
  rw [repL c n];rfl
theorem zpX{w w':World}{base e size n:Nat}{v:Value}{xs:List Value}(h:w.ownsRow base e size v n xs)(hb:Below w.heap.size w w'):w'.ownsRow base e size v n xs:=by
 refine⟨h.1,?_⟩;rcases h.2 with h|⟨g,cap,cur,h1,h2,h3,h4⟩
 ·exact .inl h
 ·have hlt:g<w.heap.size:=by
   rcases Nat.lt_or_ge g w.heap.size with h'|h'
   ·exact h'
   ·rw [Array.getElem?_eq_none h']at h3;cases h3
  exact .inr ⟨g,cap,cur,h1,h2,(hb.block g hlt).trans h3,h4⟩
theorem ziN{B b:Nat}{p:Value}{bs:List Value}{w w':World}(h:Lib.BuilderAt 158 5 B b p bs w)(hb:Below w.heap.size w w'):Lib.BuilderAt 158 5 B b p bs w':=by
 have hlt:=h.lt;obtain⟨h1,v,h2,h3,h4⟩:=h;exact⟨h1,v,(hb.block b hlt).trans h2,zpX h3 hb,h4⟩
theorem ziM{B b:Nat}{bs:List Value}{w w':World}(h:Lib.IsBuilder 158 5 B b bs w)(hb:Below w.heap.size w w'):Lib.IsBuilder 158 5 B b bs w':=by
 rcases h with h|h
 ·exact .inl (ziN h hb)
 ·exact .inr (ziN h hb)
theorem zdK:∀(n x:Nat),x<10^(n+1)→Lib.nDigits x≤n+1
 | 0,x,h=>by rw [Lib.nDigits_small (by simpa using h)];omega
 | n+1,x,h=>by
  by_cases hs:x<10
  ·rw [Lib.nDigits_small hs];omega
  ·rw [Lib.nDigits_big hs];have:=zdK n (x/10) (by rw [Nat.pow_succ]at h;omega);omega
theorem zd4{x k:Nat}(hk:0<k)(h:x<B^k):Lib.nDigits x≤9*k:=by
 obtain⟨m,hm⟩:∃m,9*k=m+1:=⟨9*k-1,by omega⟩;rw [pow9,hm]at h;rw [hm];exact zdK m x h
theorem zlu{x:Nat}(h:x<B^100000):Lib.nDigits x≤900000:=zd4 (k:=100000) (by decide) h
theorem zlv{x:Nat}(h:x<1000000000):Lib.nDigits x≤9:=zdK 8 x h
theorem zk8(l:List UInt8):Lib.strCells ⟨l.toArray⟩=Lib.byteCells l:=rfl
theorem zcy(l:List UInt8):(⟨l.toArray⟩:ByteArray).size=l.length:=rfl
theorem zeD(w:World)(v:Value)(N k:Nat)(hk:zcm N k)(hl:∃o c,v = .slice o k c∧(0<k→∃a:Addr,o=some a∧a.block<w.heap.size∧∀i,i<k→w.cell? (a.add i)=some (.int .u64 ((limb N i:Nat):Int))))(hN:N<B^100000)(htab:zaU w) :
  CallsIn Fence.wide 0 Tryz.prog 71 #[v] w fun e w'=>e = .returned (.string ⟨(Lib.decDigits N).toArray⟩)∧Below w.heap.size w w':=by
 have hkL:k≤100000:=hk.le hN;obtain⟨o,c,rfl,h1⟩:=hl;have H1:=zHi h1;have HK:=zHi hk;have HTab:=zHi htab;clear h1 hk htab;refine callsIn_of_wp Tryz.func71 rfl trivial ?_ rfl;simp only [Tryz.ntmps71,ztE,ztF,ztG,Nat.reduceAdd,Nat.reduceSub,ztH,ztI,ztJ,ztK,ztL,ztM];by_cases hk0:k=0
 ·subst hk0;have hN0:N=0:=HK.out.zero;subst hN0;gi_wp2;all_goals (first|go_returns|go_ret|go_end0)
  exact⟨by rw [Lib.decDigits,dif_pos (by decide)];rfl,Below.refl _ _⟩
 ·obtain⟨m,rfl⟩:∃m,k=m+1:=⟨k-1,by omega⟩;have hk0':((m:Int)+1 == 0)=false:=beq_false_of_ne (by omega);obtain⟨a1,rfl,ha1,hc1⟩:=H1.out (by omega);have p1:=hc1 m (by omega);obtain⟨l,hlm⟩:∃l,limb N m=l:=⟨_,rfl⟩;have hl9:l<1000000000:=by rw [←hlm];exact zaE N m
  rw [hlm]at p1;have HTOP:Hid (l=N/B^m):=zHi (by
   rw [←hlm];unfold limb;refine Nat.mod_eq_of_lt (Nat.div_lt_of_lt_mul ?_);have:=HK.out.1;rw [Nat.pow_succ]at this;exact this)
  have HPos:Hid (0<N/B^m):=zHi (by
   have:=HK.out.2;rcases this with h|h
   ·omega
   ·exact Nat.div_pos h (zau m))
  obtain⟨W1,hW1⟩:∃W,W=w.alloc (.cells #[.pointer none,.slice none 0 0] 158):=⟨_,rfl⟩;have HBW:Hid (Below w.heap.size w W1):=zHi (by rw [hW1];exact zaa _ _);have HBl:Hid (Lib.IsBuilder 158 5 w.heap.size w.heap.size [] W1):=zHi (by rw [hW1];exact zsY w);have p1':(w.alloc (.cells #[.pointer none,.slice none 0 0] 158)).cell? (a1.add m)=some (.int .u64 (l:Int)):=by
   rw [←hW1];exact(HBW.out.cell (p:=a1.add m) (by rw [zac];exact ha1)).trans p1
  have hH:=zHi hc1;clear hc1 p1;gi_wp2_with (gi_at_call 114;refine stop ?_)
  unfold Stop;rw [←hW1];refine(zel l (by omega) W1 (HTab.out.below HBW.out)).mono ?_;rintro e w2 ⟨rfl,hb2⟩;have HBl2:=zHi (ziM HBl.out hb2);have HBW2:=zHi (HBW.out.trans (hb2.mono HBW.out.size));obtain⟨b,hbs⟩:∃b,w.heap.size=b:=⟨_,rfl⟩;have HLT:=zHi hN;have hab:a1.block<b:=by omega
  rw [hbs]at HBl2 HBW2;have HTab2:Hid (∀W,Below b w W→zaU W):=zHi fun W h=>HTab.out.below (by rw [hbs];exact h)
  have hsz2:=HBW2.out.size;have hbsz:b≤w2.heap.size:=by omega
  obtain⟨S,hS⟩:∃S:ByteArray,(⟨(Lib.decDigits l).toArray⟩:ByteArray)=S:=⟨_,rfl⟩;rw [hS,hbs];clear HBl HBW hW1 p1' hb2 hlm HTab H1;gi_wp2_with (gi_at_call 113;refine stop ?_)
  unfold Stop;refine(callsIn_wide.2 (zdv b b [] S w2 HBl2.out (by rw [←hS,zcy,Lib.decDigits_length];have:=zlv hl9;simp;omega) hbsz)).mono ?_;rintro e w3 ⟨rfl,hbl3,hb3⟩;have HBl3:Hid (Lib.IsBuilder 158 5 b b (Lib.byteCells (Lib.decDigits (N/B^m))) w3):=zHi (.inr (by
   rw [←hS,List.nil_append,zk8,HTOP.out]at hbl3;exact hbl3))
  have HBW3:=zHi (HBW2.out.trans hb3);clear hbl3 hb3 HBl2 HBW2 hsz2 hbsz hS HTOP hl9;gi_wp2;gi_loopw [4,5] (fun iv _ wr=>∃i0:Int,-1≤i0∧i0<m∧iv = .int .i64 i0∧Hid (Lib.IsBuilder 158 5 b b (Lib.byteCells (Lib.decDigits (N/B^(i0+1).toNat))) wr)∧Hid (Below b w wr)) (fun iv _ _=>(intOf iv+1).toNat)
  case atStart=>exact⟨(m:Int)-1,by omega,by omega,by go_num,zHi (by rw [show((m:Int)-1+1).toNat=m by omega];exact HBl3.out),HBW3.out⟩
  case round=>
   obtain⟨i0,hi1,hi2,rfl,HBl,HB⟩:=hrel;clear HBl3 HBW3;by_cases h0:0≤i0
   ·obtain⟨j,rfl⟩:∃j:Nat,i0=(j:Int):=⟨i0.toNat,by omega⟩;rw [show((j:Int)+1).toNat=j+1 by omega]at HBl;have p1:=(HB.out.cell (p:=a1.add j) (by rw [zac];exact hab)).trans (hH.out j (by omega));obtain⟨lj,hlj⟩:∃l,limb N j=l:=⟨_,rfl⟩;have hlj9:lj<1000000000:=by rw [←hlj];exact zaE N j
    rw [hlj]at p1;have HLJ:=zHi hlj;clear hlj;gi_wp2_with (gi_at_call 114;refine stop ?_)
    unfold Stop;refine(zel lj (by omega) wr (HTab2.out wr HB.out)).mono ?_;rintro e w4 ⟨rfl,hb4⟩;have hbr:b≤wr.heap.size:=by have:=HB.out.size;omega
    have HBl4:=zHi (ziM HBl.out hb4);have HB4:=zHi (HB.out.trans (hb4.mono hbr));have hbr4:b≤w4.heap.size:=Nat.le_trans hbr hb4.size;obtain⟨S,hS⟩:∃S:ByteArray,(⟨(Lib.decDigits lj).toArray⟩:ByteArray)=S:=⟨_,rfl⟩;have hSd:S.size=Lib.nDigits lj:=by rw [←hS,zcy,Lib.decDigits_length]
    have hd9:=zlv hlj9;have hd1:=Lib.nDigits_pos lj;have HS:=zHi hS;obtain⟨d,hd⟩:∃d,Lib.nDigits lj=d:=⟨_,rfl⟩;have HD:=zHi hd;rw [hd]at hSd hd9 hd1;obtain⟨d',hdd⟩:∃d',9-d=d':=⟨_,rfl⟩;rw [hS];clear hb4 hS hd HBl HB p1;gi_wp2_with (gi_at_call 115;refine stop ?_)
    unfold Stop;have e9:((9:Int)-(d:Int))=(d':Int):=by omega
    rw [e9];refine(callsIn_wide.2 (Tryz.strings_Repeat ⟨#[48]⟩ d' w4 (by omega) (by show 1*d'≤_;omega))).mono ?_;obtain⟨R,hR⟩:∃R:ByteArray,(⟨(Lib.repeatL (⟨#[48]⟩:ByteArray).data.toList d').toArray⟩:ByteArray)=R:=⟨_,rfl⟩;rintro e w5 ⟨he,hb5⟩;rw [hR]at he;subst he;have HBl5:=zHi (ziM HBl4.out hb5);have HB5:=zHi (HB4.out.trans (hb5.mono hbr4));have hbr5:b≤w5.heap.size:=Nat.le_trans hbr4 hb5.size;have hR2:(⟨(List.replicate d' 48).toArray⟩:ByteArray)=R:=by rw [←hR,←repL 48 d']
    have hRd:R.size=d':=by rw [←hR2,zcy,List.length_replicate]
    have HR:=zHi hR2;clear hb5 hR hR2 e9 HBl4 HB4;gi_wp2_with (gi_at_call 113;refine stop ?_)
    unfold Stop;refine(callsIn_wide.2 (zdv b b _ (R ++ S) w5 HBl5.out (by
     rw [Lib.byteCells_length,Lib.decDigits_length,ByteArray.size_append,hRd,hSd];have:=zlu (Nat.lt_of_le_of_lt (Nat.div_le_self N (B^(j+1))) HLT.out);omega) hbr5)).mono ?_
    rintro e w6 ⟨rfl,hbl6,hb6⟩;have HBl6:Hid (Lib.IsBuilder 158 5 b b (Lib.byteCells (Lib.decDigits (N/B^j))) w6):=zHi (.inr (by
     have hpos:0<N/B^(j+1):=Nat.lt_of_lt_of_le HPos.out (Nat.div_le_div_left (zag (by omega)) (zau _));rw [zr4 hpos,Lib.byteCells_append,HLJ.out,HD.out,hdd];have e:Lib.strCells (R ++ S)=Lib.byteCells (List.replicate d' 48 ++ Lib.decDigits lj):=by
      rw [Lib.strCells_eq,ByteArray.data_append,Array.toList_append,←HR.out,←HS.out]
     rw [e]at hbl6;exact hbl6))
    have HB6:=zHi (HB5.out.trans hb6);clear hbl6 hb6 HBl5 HB5;gi_wp2;refine⟨⟨(j:Int)-1,by omega,by omega,by go_num,zHi (by rw [show((j:Int)-1+1).toNat=j by omega];exact HBl6.out),HB6⟩,by simp [intOf] <;> omega⟩
   ·have hi0:i0 = -1:=by omega
    subst hi0;have hbr:b≤wr.heap.size:=by have:=HB.out.size;omega
    have HBl:Hid (Lib.IsBuilder 158 5 b b (Lib.byteCells (Lib.decDigits N)) wr):=zHi (by
     have:=HBl.out;rw [show((-1:Int)+1).toNat=0 from rfl,Nat.pow_zero,Nat.div_one]at this;exact this)
    gi_wp2_with (gi_at_call 116;refine stop ?_)
    unfold Stop;refine(callsIn_wide.2 (Tryz.Builder_String_any b b _ wr HBl.out hbr)).mono ?_;rintro e w6 ⟨rfl,hb6⟩;have HB6:=zHi (HB.out.trans hb6);gi_wp2;all_goals (first|go_returns|go_ret|go_end0)
    exact⟨rfl,by rw [hbs];exact HB6.out⟩
theorem zbO(w:World)(v:Value)(N:Nat)(h:zat w v N)(hN:N<B^100000)(htab:zaU w) :
  CallsIn Fence.wide 0 Tryz.prog 71 #[v] w fun e w'=>e = .returned (.string ⟨(Lib.decDigits N).toArray⟩)∧Below w.heap.size w w':=by
 obtain⟨k,hk,hl⟩:=h;exact zeD w v N k hk hl.form hN htab
def ziW(n:Nat):ByteArray:=⟨(Lib.decDigits n).toArray⟩
theorem zhB{z:Int}(h:0≤z):zcV z=ziW z.natAbs:=by
 unfold zcV ziW Lib.itoa;rw [if_neg (by omega),show z.toNat=z.natAbs by omega]
theorem ziP(a b:List UInt8):(⟨a.toArray⟩:ByteArray) ++ ⟨b.toArray⟩=⟨(a ++ b).toArray⟩:=by
 refine ByteArray.ext ?_;rw [ByteArray.data_append];simp
theorem zk6{z:Int}(h:z<0):(⟨#[45]⟩:ByteArray) ++ ziW z.natAbs=zcV z:=by
 unfold zcV ziW Lib.itoa;rw [if_pos h];exact ziP [45] _
theorem zdy{n:Nat}(h:n<B^100000):(ziW n).size≤900000:=by
 unfold ziW;rw [zcy,Lib.decDigits_length];exact zlu h
theorem zjl{z:Int}(h:z.natAbs<B^100000):(zcV z).size≤900001:=by
 by_cases h0:z<0
 ·rw [←zk6 h0,ByteArray.size_append];have:=zdy h;show 1+_≤_
  omega
 ·rw [zhB (by omega)];have:=zdy h;omega
theorem zfP{q:Rat}(h:q.den=1):zfn q=zcV q.num:=by unfold zfn;rw [if_pos h]
theorem zjm{q:Rat}(h:q.den≠1):zcV q.num ++ ⟨#[47]⟩ ++ ziW q.den=zfn q:=by
 unfold zfn zcV ziW;rw [if_neg h];have e1:=ziP (Lib.itoa q.num) [47];have e2:=ziP (Lib.itoa q.num ++ [47]) (Lib.decDigits q.den);rw [show(⟨#[47]⟩:ByteArray)=⟨[47].toArray⟩from rfl,e1,e2,List.append_assoc];rfl
theorem zmH(w:World)(v:Value)(q:Rat)(h:zao w v q)(hq:zar q 100000)(htab:zaU w) :
  CallsIn Fence.wide 0 Tryz.prog 15 #[v] w fun e w'=>e = .returned (.tuple #[.string (zcV q.num),.string (ziW q.den)])∧Below w.heap.size w w':=by
 have HR:=zHi h;obtain⟨vn,vd,rfl,hn,hd⟩:=h;have HN:=zHi hn;obtain⟨sg,hsg⟩:∃sg,decide (q.num<0)=sg:=⟨_,rfl⟩;have HSG:=zHi hsg;obtain⟨o1,k1,c1,rfl,_,_⟩:=zaM hn;obtain⟨o2,k2,c2,rfl,_,_⟩:=zaM hd;rw [hsg]at HR;rw [hsg];obtain⟨W1,hW1⟩:∃W,W=w.alloc (.cells #[.bool sg,.slice o1 k1 c1,.slice o2 k2 c2] 25):=⟨_,rfl⟩;have HX1:Hid (Box3 W1 w.heap.size (.bool sg) (.slice o1 k1 c1) (.slice o2 k2 c2)):=zHi (by rw [hW1];exact zbC _ _ _ _ _);have HB1:Hid (Below w.heap.size w W1):=zHi (by rw [hW1];exact zaa _ _);have HP:=zHi hq;have HTab:=zHi htab;clear hn hd hsg hq htab;refine callsIn_of_wp Tryz.func15 rfl trivial ?_ rfl;simp only [Tryz.ntmps15,ztE,ztF,ztG,Nat.reduceAdd,Nat.reduceSub,ztH,ztI,ztJ,ztK,ztL,ztM];gi_wp2_with (gi_at_call 71;refine stop ?_)
 unfold Stop;rw [←hW1];obtain⟨g,hg⟩:∃g,w.heap.size=g:=⟨_,rfl⟩;rw [hg]at HX1;rw [hg];clear hW1;refine(zbO W1 _ _ (HN.out.below HB1.out) HP.out.1 (HTab.out.below HB1.out)).mono ?_;rintro e w2 ⟨rfl,hb2⟩;have HX2:=zHi (HX1.out.below hb2);have HB2:=zHi (HB1.out.trans (hb2.mono HB1.out.size));have y0:=HX2.out.c0;have y1:=HX2.out.c1;have y2:=HX2.out.c2;have HR2:=zHi (HR.out.below HB2.out);obtain⟨S,hS⟩:∃S:ByteArray,(⟨(Lib.decDigits q.num.natAbs).toArray⟩:ByteArray)=S:=⟨_,rfl⟩;rw [hS];have HS:=zHi hS;have hSsz:S.size≤900000:=by rw [←hS];exact zdy HP.out.1
 clear hb2 HX1 HB1 hS
 cases sg with
 | true=>
  have HT:Hid ((⟨#[45]⟩:ByteArray) ++ S=zcV q.num):=zHi (by rw [←HS.out];exact zk6 (of_decide_eq_true HSG.out));gi_wp2_with (gi_at_call 64;refine stop ?_)
  unfold Stop;refine(za3 w2 _ q HR2.out).mono ?_;rintro e w3 ⟨v3,rfl,hm3,hb3⟩;have HM3:=zHi hm3;have HB3:=zHi (HB2.out.trans (hb3.mono HB2.out.size));clear hm3 hb3 HR2 HX2 HB2 y0 y1 y2;gi_wp2_with (gi_at_call 71;refine stop ?_)
  unfold Stop;refine(zbO w3 _ _ HM3.out HP.out.2 (HTab.out.below HB3.out)).mono ?_;rintro e w4 ⟨rfl,hb4⟩;have HB4:=zHi (HB3.out.trans (hb4.mono HB3.out.size));rw [HT.out];clear hb4 HB3;gi_wp2;all_goals (first|go_returns|go_ret2|go_ret|go_end0)
  exact⟨rfl,HB4.out⟩
 | false=>
  have HT:Hid (S=zcV q.num):=zHi (by rw [←HS.out];exact(zhB (by have:=of_decide_eq_false HSG.out;omega)).symm);gi_wp2_with (gi_at_call 64;refine stop ?_)
  unfold Stop;refine(za3 w2 _ q HR2.out).mono ?_;rintro e w3 ⟨v3,rfl,hm3,hb3⟩;have HM3:=zHi hm3;have HB3:=zHi (HB2.out.trans (hb3.mono HB2.out.size));clear hm3 hb3 HR2 HX2 HB2 y0 y1 y2;gi_wp2_with (gi_at_call 71;refine stop ?_)
  unfold Stop;refine(zbO w3 _ _ HM3.out HP.out.2 (HTab.out.below HB3.out)).mono ?_;rintro e w4 ⟨rfl,hb4⟩;have HB4:=zHi (HB3.out.trans (hb4.mono HB3.out.size));rw [HT.out];clear hb4 HB3;gi_wp2;all_goals (first|go_returns|go_ret2|go_ret|go_end0)
  exact⟨rfl,HB4.out⟩
theorem zdn(w:World)(v:Value)(q:Rat)(h:zao w v q)(hq:zar q 100000)(htab:zaU w) :
  CallsIn Fence.wide 0 Tryz.prog 13 #[v] w fun e w'=>e = .returned (.string (zfn q))∧Below w.heap.size w w':=by
 have HR:=zHi h;obtain⟨vn,vd,rfl,hn,hd⟩:=h;obtain⟨sg,hsg⟩:∃sg,decide (q.num<0)=sg:=⟨_,rfl⟩;obtain⟨o1,k1,c1,rfl,_,_⟩:=zaM hn;obtain⟨o2,k2,c2,rfl,hk2,_⟩:=zaM hd;have HK2:=zHi hk2;rw [hsg]at HR;rw [hsg];obtain⟨W1,hW1⟩:∃W,W=w.alloc (.cells #[.bool sg,.slice o1 k1 c1,.slice o2 k2 c2] 25):=⟨_,rfl⟩;have HX1:Hid (Box3 W1 w.heap.size (.bool sg) (.slice o1 k1 c1) (.slice o2 k2 c2)):=zHi (by rw [hW1];exact zbC _ _ _ _ _);have HB1:Hid (Below w.heap.size w W1):=zHi (by rw [hW1];exact zaa _ _);have HP:=zHi hq;have HTab:=zHi htab;clear hn hd hsg hq htab hk2;refine callsIn_of_wp Tryz.func13 rfl trivial ?_ rfl;simp only [Tryz.ntmps13,ztE,ztF,ztG,Nat.reduceAdd,Nat.reduceSub,ztH,ztI,ztJ,ztK,ztL,ztM];gi_wp2_with (gi_at_call 15;refine stop ?_)
 unfold Stop;rw [←hW1];obtain⟨g,hg⟩:∃g,w.heap.size=g:=⟨_,rfl⟩;rw [hg]at HX1;rw [hg];clear hW1;refine(zmH W1 _ q (HR.out.below HB1.out) HP.out (HTab.out.below HB1.out)).mono ?_;rintro e w2 ⟨rfl,hb2⟩;have HX2:=zHi (HX1.out.below hb2);have HB2:=zHi (HB1.out.trans (hb2.mono HB1.out.size));have y0:=HX2.out.c0;have y1:=HX2.out.c1;have y2:=HX2.out.c2;clear hb2 HX1 HB1;obtain⟨Z,hZ⟩:∃Z,zcV q.num=Z:=⟨_,rfl⟩;obtain⟨D,hD⟩:∃D,ziW q.den=D:=⟨_,rfl⟩;have hZsz:Z.size≤900001:=by rw [←hZ];exact zjl HP.out.1
 have hDsz:D.size≤900000:=by rw [←hD];exact zdy HP.out.2
 have hZ47:(Z ++ ⟨#[47]⟩:ByteArray).size=Z.size+1:=by rw [ByteArray.size_append];rfl
 rw [hZ,hD];by_cases h1:q.den=1
 ·have hk0:k2=0:=HK2.out.2 (by rw [if_pos h1]);subst hk0;have HT:=zHi (zfP h1);rw [hZ]at HT;clear hZ hD;gi_wp2;all_goals (first|go_returns|go_ret2|go_ret|go_end0)
  exact⟨by rw [HT.out];rfl,HB2.out⟩
 ·have hk0:((k2:Int) == 0)=false:=beq_false_of_ne (by
   intro h;have:=HK2.out.1 (by omega);rw [if_neg h1]at this;exact q.den_nz this)
  have HT:=zHi (zjm h1);rw [hZ,hD]at HT;clear hZ hD;gi_wp2;all_goals (first|go_returns|go_ret2|go_ret|go_end0)
  exact⟨by rw [←HT.out];rfl,HB2.out⟩
end Go.Num
namespace Go.Eng
open Go.RowKit
section
variable {P:Program} {ops:Array Oper} {bs bars r:List Nat} {i:Nat} {a:CAct} {w:World} {Q:CAct→World→Prop} {o:Oper}
theorem OW.eqInt{t x2:TypeId}{x y:Operand}{k':IntKind}{p q:Int}{d:Option Tmp}{ty:TypeId}{ps:String}{af:Array Edge}(ho:ops[i]? = some {op:=.binOp .eql t x y x2,dst:=d,type:=ty,pos:=ps,after:=af,guard:=none})(hb:bars.contains i=false)
  (hx:a.eval x = .int k' p) (hy:a.eval y = .int k' q) (h:OW P none ops bs bars Q r (a.put d (.bool (p == q))) w):OW P none ops bs bars Q (i :: r) a w:=
 OW.read ho hb _ (fun w' _=>by
  have:(execOp a.eval {op:=.binOp .eql t x y x2,dst:=d,type:=ty,pos:=ps,after:=af,guard:=none}).run P w' = .ok (.value (.bool (p == q))) w':=by
   unfold execOp;simp only [hx,hy];simp [eqGuard,binOp,Op.intCmp,Sem.run_pure]
  exact this) h
theorem OW.addStr{t x2:TypeId}{x y:Operand}{p q:ByteArray}{d:Option Tmp}{ty:TypeId}{ps:String}{af:Array Edge}(ho:ops[i]? = some {op:=.binOp .add t x y x2,dst:=d,type:=ty,pos:=ps,after:=af,guard:=none})(hb:bars.contains i=false)
  (hx:a.eval x = .string p) (hy:a.eval y = .string q) (hs:p.size+q.size≤9223372036854775807) (h:OW P none ops bs bars Q r (a.put d (.string (p ++ q))) w):OW P none ops bs bars Q (i :: r) a w:=
 OW.read ho hb _ (fun w' _=>by
  have:(execOp a.eval {op:=.binOp .add t x y x2,dst:=d,type:=ty,pos:=ps,after:=af,guard:=none}).run P w' = .ok (.value (.string (p ++ q))) w':=by
   unfold execOp;simp only [hx,hy];have:¬(((p.size+q.size:Nat):Int)>IntKind.i64.max):=by
    rw [show IntKind.i64.max=9223372036854775807 from rfl];omega
   simp [eqGuard,binOp,Op.stringOp,Sem.run_pure]
   omega
  exact this) h
def zno(P:Program)(t:TypeId)(n:Nat):Prop:=∀g off (cs:List Value) w,cs.length=n→(∀j v,cs[j]? = some v→World.cell? w ⟨g,off+j,none⟩=some v)→(Instr.loadAt t (.pointer (some ⟨g,off,none⟩))).run P w = .ok (.agg cs.toArray) w
theorem zo4{P:Program}{t:TypeId}{n:Nat}(h:(match P.underlying t with|some (.struct _)=>true|_=>false)=true)(hi:(P.info? t).map (·.size)=some n):zno P t n:=by
 intro g off cs w hn hc
 cases hu:P.underlying t with
 | none=>rw [hu]at h;cases h
 | some d=>
  rw [hu]at h
  cases d with
  | struct fs=>
   have hl:=run_loadVar_mid (P:=P) w g off t cs (.struct fs) hc hu rfl (by rw [hn];exact hi);simp [Instr.loadAt,Instr.sureAddr,hl]
  | _=>cases h
theorem OW.loadMid{t:TypeId}{x:Operand}{g off n:Nat}{cs:List Value}{d:Option Tmp}{ty:TypeId}{ps:String}{af:Array Edge}(ho:ops[i]? = some {op:=.load t x,dst:=d,type:=ty,pos:=ps,after:=af,guard:=none})(hb:bars.contains i=false)
  (hL:zno P t n) (hn:cs.length=n) (h0:0<n) (hc:∀j v,cs[j]? = some v→w.cell? ⟨g,off+j,none⟩=some v) (hx:a.eval x = .pointer (some ⟨g,off,none⟩)) (h:OW P none ops bs bars Q r (a.put d (.agg cs.toArray)) w):OW P none ops bs bars Q (i :: r) a w:=
 OW.read ho hb _ (fun w' hb'=>by
  have hp:g<w.heap.size:=by
   obtain⟨v,hv⟩:∃v,cs[0]? = some v:=⟨_,List.getElem?_eq_getElem (by omega)⟩;exact World.block_lt_of_cell? _ _ (hc 0 v hv)
  simp [execOp,hx,hL g off cs w' hn (fun j v hj=>(hb'.cell (p:=⟨g,off+j,none⟩) hp).trans (hc j v hj))]) h
end
end Go.Eng
namespace Go.Num
open Go.Eng Go.Shelf Go.RowKit Go.Sort Go.Proofs Go.Proofs.YtoamcgjbelhnkaaGreatDoor
theorem ztB:zfI Tryz.prog 34 0 0:=zfc (by kernel_rfl)
theorem ztl:zfI Tryz.prog 34 1 2:=zfc (by kernel_rfl)
theorem m32:zno Tryz.prog 32 2:=zo4 (by kernel_rfl) (by kernel_rfl)
theorem m34:zfH Tryz.prog 34 4:=zgC (by kernel_rfl) (by kernel_rfl)
def Box4(w:World)(g:Nat)(x y z u:Value):Prop:=∀j v,[x,y,z,u][j]? = some v→w.cell? ⟨g,j,none⟩=some v
theorem Box4.lt{w:World}{g:Nat}{x y z u:Value}(h:Box4 w g x y z u):g<w.heap.size:=World.block_lt_of_cell? _ _ (h 0 x rfl)
theorem Box4.below{w w':World}{g:Nat}{x y z u:Value}(h:Box4 w g x y z u)(hb:Below w.heap.size w w'):Box4 w' g x y z u:=fun j v hj=>(hb.cell (p:=⟨g,j,none⟩) h.lt).trans (h j v hj)
theorem zsa(w:World)(x y z u:Value)(t:TypeId):Box4 (w.alloc (.cells #[x,y,z,u] t)) w.heap.size x y z u:=fun j v hj=>by
 rw [World.cell?_alloc_new,←hj];simp
theorem Box4.lo{w:World}{g:Nat}{x y z u:Value}(h:Box4 w g x y z u):∀j v,[x,y][j]? = some v→w.cell? ⟨g,0+j,none⟩=some v:=fun j v hj=>by
 match j,hj with
 | 0,hj=>exact h 0 v hj
 | 1,hj=>exact h 1 v hj
 | n+2,hj=>simp at hj
theorem Box4.hi{w:World}{g:Nat}{x y z u:Value}(h:Box4 w g x y z u):∀j v,[z,u][j]? = some v→w.cell? ⟨g,2+j,none⟩=some v:=fun j v hj=>by
 match j,hj with
 | 0,hj=>exact h 2 v hj
 | 1,hj=>exact h 3 v hj
 | n+2,hj=>simp at hj
theorem QAt.parts{w:World}{v:Value}{q:Rat}(h:QAt w v q):∃m1 m2,v = .agg #[.bool (decide (q.num<0)),m1,.bool false,m2]∧ZAt w (.agg #[.bool (decide (q.num<0)),m1]) q.num∧ZAt w (.agg #[.bool false,m2]) (q.den:Int):=by
 obtain⟨m1,m2,e,h1,h2⟩:=h;refine⟨m1,m2,e,⟨m1,rfl,h1⟩,⟨m2,?_,h2⟩⟩;have:decide ((q.den:Int)<0)=false:=decide_eq_false (by omega);rw [this]
theorem zo9(w:World)(v:Value)(q:Rat)(h:QAt w v q)(hq:zar q 20000) :
  CallsIn Fence.wide 0 Tryz.prog 73 #[v] w fun e w'=>e = .returned (.string (zfn q))∧Below w.heap.size w w':=by
 obtain⟨m1,m2,rfl,hn,hd⟩:=h.parts;have HN:=zHi hn;have HD:=zHi hd;obtain⟨sg,hsg⟩:∃sg,decide (q.num<0)=sg:=⟨_,rfl⟩;rw [hsg]at HN;rw [hsg];obtain⟨W1,hW1⟩:∃W,W=w.alloc (.cells #[.bool sg,m1,.bool false,m2] 34):=⟨_,rfl⟩;have HX:Hid (Box4 W1 w.heap.size (.bool sg) m1 (.bool false) m2):=zHi (by rw [hW1];exact zsa _ _ _ _ _ _);have HBW:Hid (Below w.heap.size w W1):=zHi (by rw [hW1];exact zaa _ _);have HP:=zHi hq;clear h hn hd hsg hq;refine callsIn_of_wp Tryz.func73 rfl trivial ?_ rfl;simp only [Tryz.ntmps73,ztE,ztF,ztG,Nat.reduceAdd,Nat.reduceSub,ztH,ztI,ztJ,ztK,ztL,ztM];gi_wp2;rw [←hW1];obtain⟨g,hg⟩:∃g,w.heap.size=g:=⟨_,rfl⟩;rw [hg]at HX;rw [hg];clear hW1;refine zas (ro:=none) [2,3] [0,1,2,3,4] [0,1,0,7,15] zaz 19 rfl (by kernel_rfl) (by kernel_rfl) ?_;replace HX:=zHi (HX.out.below (zab _));replace HBW:=zHi (HBW.out.trans ((zab W1).mono HBW.out.size));refine OW.fieldAddr rfl rfl ztl rfl ?_;simp only [Go.Act.put,ztN,ztO,ztP];refine OW.loadMid rfl rfl m32 (cs:=[.bool false,m2]) rfl (by decide) HX.out.hi rfl ?_;simp only [Go.Act.put,ztN,ztO,ztP];refine OW.call rfl rfl Tryz.func22 rfl zai (args:=[.int .i64 1]) rfl ?_;refine(zcf W1.drew 1 (by decide) (by decide)).mono ?_;rintro e w2 ⟨v5,rfl,hz5,hB⟩;refine⟨v5,rfl,hB,?_⟩;simp only [Go.Act.put,ztN,ztO,ztP];replace HX:=zHi (HX.out.below hB);replace HBW:=zHi (HBW.out.trans (hB.mono HBW.out.size));have HZ5:=zHi hz5;clear hz5 hB;refine OW.call rfl rfl Tryz.func69 rfl zai (args:=[.agg #[.bool false,m2],v5]) rfl ?_;refine(zc3 w2 _ v5 (q.den:Int) 1 (HD.out.below HBW.out) HZ5.out (zaX 50000 HP.out.2 (by decide)) (zaX 50000 (show 1<B^1 by decide) (by decide))).mono ?_;rintro e w3 ⟨rfl,hB⟩;refine⟨_,rfl,hB,?_⟩;simp only [Go.Act.put,ztN,ztO,ztP];replace HX:=zHi (HX.out.below hB);replace HBW:=zHi (HBW.out.trans (hB.mono HBW.out.size));clear hB HZ5;refine OW.eqInt rfl rfl rfl rfl ?_;simp only [Go.Act.put,ztN,ztO,ztP];refine OW.done ?_;by_cases h1:q.den=1
 ·have hc:(((q.den:Int)-1).sign == 0)=true:=by rw [h1];rfl
  rw [hc];have y0:=HX.out 0 _ rfl;have y1:=HX.out 1 _ rfl;have HT:=zHi (zfP h1);clear h1 hc;gi_wp2_with (gi_at_call 16;refine stop ?_)
  unfold Stop;refine(zdZ w3 _ q.num (HN.out.below HBW.out) (zaX 100000 HP.out.1 (by decide))).mono ?_;rintro e w4 ⟨rfl,hB⟩;have HB4:=zHi (HBW.out.trans (hB.mono HBW.out.size));clear hB;gi_wp2;all_goals (first|go_returns|go_ret|go_end0)
  exact⟨by rw [HT.out];rfl,HB4.out⟩
 ·have hc:(((q.den:Int)-1).sign == 0)=false:=beq_false_of_ne (by
   intro h;have:=Int.sign_eq_zero_iff_zero.1 h;omega)
  rw [hc];have HT:=zHi (zjm h1);have hsz1:=zjl (z:=q.num) (zaX 100000 HP.out.1 (by decide));have hsz2:=zdy (n:=q.den) (zaX 100000 HP.out.2 (by decide));gi_wp2;refine zas (ro:=none) [2,6] [0,1,4,5,2,3,6,7,8] [0,1,3,7,0,16,55,127,255] zaz 19 rfl (by kernel_rfl) (by kernel_rfl) ?_;replace HX:=zHi (HX.out.below (zab _));replace HBW:=zHi (HBW.out.trans ((zab w3).mono HBW.out.size));refine OW.fieldAddr rfl rfl ztB rfl ?_;simp only [Go.Act.put,ztN,ztO,ztP];refine OW.loadMid rfl rfl m32 (cs:=[.bool sg,m1]) rfl (by decide) HX.out.lo rfl ?_;simp only [Go.Act.put,ztN,ztO,ztP];refine OW.fieldAddr rfl rfl ztl rfl ?_;simp only [Go.Act.put,ztN,ztO,ztP];refine OW.loadMid rfl rfl m32 (cs:=[.bool false,m2]) rfl (by decide) HX.out.hi rfl ?_;simp only [Go.Act.put,ztN,ztO,ztP];refine OW.call rfl rfl Tryz.func16 rfl zai (args:=[.agg #[.bool sg,m1]]) rfl ?_;refine(zdZ w3.drew _ q.num (HN.out.below HBW.out) (zaX 100000 HP.out.1 (by decide))).mono ?_;rintro e w4 ⟨rfl,hB⟩;refine⟨_,rfl,hB,?_⟩;simp only [Go.Act.put,ztN,ztO,ztP];replace HBW:=zHi (HBW.out.trans (hB.mono HBW.out.size));clear hB;refine OW.addStr rfl rfl rfl rfl (by show _+1≤_;omega) ?_;simp only [Go.Act.put,ztN,ztO,ztP];refine OW.call rfl rfl Tryz.func16 rfl zai (args:=[.agg #[.bool false,m2]]) rfl ?_;refine(zdZ w4 _ (q.den:Int) (HD.out.below HBW.out) (zaX 100000 HP.out.2 (by decide))).mono ?_;rintro e w5 ⟨rfl,hB⟩;refine⟨_,rfl,hB,?_⟩;simp only [Go.Act.put,ztN,ztO,ztP];replace HBW:=zHi (HBW.out.trans (hB.mono HBW.out.size));clear hB;rw [zhB (z:=(q.den:Int)) (by omega),Int.natAbs_natCast];refine OW.addStr rfl rfl rfl rfl (by rw [ByteArray.size_append];show _+1+_≤_;omega) ?_;simp only [Go.Act.put,ztN,ztO,ztP];refine OW.assign rfl rfl _ rfl ?_;simp only [Go.Act.put,ztN,ztO,ztP];refine OW.done ?_;rw [HT.out];gi_wp2;all_goals (first|go_returns|go_ret|go_end0)
  exact⟨rfl,HBW.out⟩
end Go.Num
