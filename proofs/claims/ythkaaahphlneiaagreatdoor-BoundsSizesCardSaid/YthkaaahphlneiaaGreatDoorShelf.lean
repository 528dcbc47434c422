import Derived.Shelf.Strings.Fields
import Derived.Test.YthkaaahphlneiaaGreatDoorProg
import Derived.Shelf.Small.Bits
import Derived.Shelf.Strconv.Itoa0
import Derived.Shelf.Sort.Plain
import Derived.Shelf.Unicode.Latin
import Derived.Shelf.Unicode.Is16White
import Derived.Shelf.Unicode.IsSpaceAny
import Derived.Shelf.Unicode.Is16WhiteD
import Derived.Shelf.Unicode.IsSpaceAnyD
import Derived.Shelf.Strings.FieldsAny
import Derived.Shelf.Strings.FieldsFuncAny
import Derived.Shelf.Unicode.Is16Any
import Derived.Shelf.Unicode.Is32Any
import Derived.Shelf.Unicode.ExclAny
import Derived.Ground.Names2Prog
import Derived.Shelf.Slices.Clone
import Derived.Shelf.Slices.CompactS
import Derived.Shelf.Slices.Cells
import Derived.Shelf.Slices.In.SortNone
import Derived.Ground.SlgnProg
import Derived.Shelf.SlicesE.Clone
set_option linter.unusedVariables false
set_option linter.unusedSimpArgs false
namespace Go.Proofs
open Go.Shelf
def Tryz.lays157_ren:Go.Shelf.Ren:=⟨fun|157=>200|229=>226|199=>227|261=>246|311=>265|312=>266|n=>n,fun|9=>9|31=>22|3=>3|5=>5|4=>4|119=>275|0=>0|40=>203|152=>286|21=>21|154=>288|51=>289|141=>291|196=>308|193=>305|198=>311|49=>309|194=>306|201=>314|226=>322|46=>218|227=>323|n=>n,fun|0=>0|6=>1|n=>n⟩
theorem Tryz.lays157:Go.Proofs.Lays.n157 Tryz.prog Tryz.lays157_ren:={
  mixed:=by kernel_rfl
  f157:=Tryz.func200.trans (congrArg some (by kernel_rfl))
  f199:=Tryz.func227.trans (congrArg some (by kernel_rfl))
  f229:=Tryz.func226.trans (congrArg some (by kernel_rfl))
  f261:=Tryz.func246.trans (congrArg some (by kernel_rfl))
  f311:=Tryz.func265.trans (congrArg some (by kernel_rfl))
  f312:=Tryz.func266.trans (congrArg some (by kernel_rfl))
  t0:=Tryz.underlying0
  a0:=Tryz.isAgg0
  z0:=Tryz.sizeOf0
  v0:=Tryz.zeroValue0
  t3:=Tryz.underlying3
  a3:=Tryz.isAgg3
  z3:=Tryz.sizeOf3
  v3:=Tryz.zeroValue3
  t4:=Tryz.underlying4
  a4:=Tryz.isAgg4
  z4:=Tryz.sizeOf4
  v4:=Tryz.zeroValue4
  t5:=Tryz.underlying5
  a5:=Tryz.isAgg5
  z5:=Tryz.sizeOf5
  v5:=Tryz.zeroValue5
  t9:=Tryz.underlying9
  a9:=Tryz.isAgg9
  z9:=Tryz.sizeOf9
  v9:=Tryz.zeroValue9
  t21:=Tryz.underlying21
  a21:=Tryz.isAgg21
  z21:=Tryz.sizeOf21
  v21:=Tryz.zeroValue21
  t31:=Tryz.underlying22
  a31:=Tryz.isAgg22
  z31:=Tryz.sizeOf22
  v31:=Tryz.zeroValue22
  t40:=Tryz.underlying203
  a40:=Tryz.isAgg203
  z40:=Tryz.sizeOf203
  v40:=Tryz.zeroValue203
  t46:=Tryz.underlying218
  a46:=Tryz.isAgg218
  z46:=Tryz.sizeOf218
  v46:=Tryz.zeroValue218
  t49:=Tryz.underlying309
  a49:=Tryz.isAgg309
  z49:=Tryz.sizeOf309
  v49:=Tryz.zeroValue309
  t51:=Tryz.underlying289
  a51:=Tryz.isAgg289
  z51:=Tryz.sizeOf289
  v51:=Tryz.zeroValue289
  t119:=Tryz.underlying275
  a119:=Tryz.isAgg275
  z119:=Tryz.sizeOf275
  t141:=Tryz.underlying291
  a141:=Tryz.isAgg291
  z141:=Tryz.sizeOf291
  v141:=Tryz.zeroValue291
  t152:=Tryz.underlying286
  a152:=Tryz.isAgg286
  z152:=Tryz.sizeOf286
  v152:=Tryz.zeroValue286
  t154:=Tryz.underlying288
  a154:=Tryz.isAgg288
  z154:=Tryz.sizeOf288
  v154:=Tryz.zeroValue288
  t193:=Tryz.underlying305
  a193:=Tryz.isAgg305
  z193:=Tryz.sizeOf305
  v193:=Tryz.zeroValue305
  t194:=Tryz.underlying306
  a194:=Tryz.isAgg306
  z194:=Tryz.sizeOf306
  v194:=Tryz.zeroValue306
  t196:=Tryz.underlying308
  a196:=Tryz.isAgg308
  z196:=Tryz.sizeOf308
  v196:=Tryz.zeroValue308
  t198:=Tryz.underlying311
  a198:=Tryz.isAgg311
  z198:=Tryz.sizeOf311
  v198:=Tryz.zeroValue311
  t201:=Tryz.underlying314
  a201:=Tryz.isAgg314
  z201:=Tryz.sizeOf314
  v201:=Tryz.zeroValue314
  t226:=Tryz.underlying322
  a226:=Tryz.isAgg322
  z226:=Tryz.sizeOf322
  v226:=Tryz.zeroValue322
  t227:=Tryz.underlying323
  a227:=Tryz.isAgg323
  z227:=Tryz.sizeOf323
  v227:=Tryz.zeroValue323
  g0:=by kernel_rfl
  g6:=by kernel_rfl}
def Tryz.lays190_ren:Go.Shelf.Ren:=⟨fun|190=>224|125=>245|258=>244|128=>263|129=>264|302=>254|303=>255|304=>256|305=>257|306=>258|307=>259|308=>260|309=>261|310=>262|333=>268|329=>269|330=>270|334=>271|335=>272|336=>273|344=>274|n=>n,fun|31=>22|9=>9|3=>3|46=>218|0=>0|51=>289|53=>156|4=>4|183=>296|182=>295|131=>301|5=>5|218=>316|222=>320|228=>324|229=>325|n=>n,fun|n=>n⟩
theorem Tryz.lays190:Go.Proofs.Lays.n190 Tryz.prog Tryz.lays190_ren:={
  mixed:=by kernel_rfl
  f125:=Tryz.func245.trans (congrArg some (by kernel_rfl))
  f128:=Tryz.func263.trans (congrArg some (by kernel_rfl))
  f129:=Tryz.func264.trans (congrArg some (by kernel_rfl))
  f190:=Tryz.func224.trans (congrArg some (by kernel_rfl))
  f258:=Tryz.func244.trans (congrArg some (by kernel_rfl))
  f302:=Tryz.func254.trans (congrArg some (by kernel_rfl))
  f303:=Tryz.func255.trans (congrArg some (by kernel_rfl))
  f304:=Tryz.func256.trans (congrArg some (by kernel_rfl))
  f305:=Tryz.func257.trans (congrArg some (by kernel_rfl))
  f306:=Tryz.func258.trans (congrArg some (by kernel_rfl))
  f307:=Tryz.func259.trans (congrArg some (by kernel_rfl))
  f308:=Tryz.func260.trans (congrArg some (by kernel_rfl))
  f309:=Tryz.func261.trans (congrArg some (by kernel_rfl))
  f310:=Tryz.func262.trans (congrArg some (by kernel_rfl))
  f329:=Tryz.func269.trans (congrArg some (by kernel_rfl))
  f330:=Tryz.func270.trans (congrArg some (by kernel_rfl))
  f333:=Tryz.func268.trans (congrArg some (by kernel_rfl))
  f334:=Tryz.func271.trans (congrArg some (by kernel_rfl))
  f335:=Tryz.func272.trans (congrArg some (by kernel_rfl))
  f336:=Tryz.func273.trans (congrArg some (by kernel_rfl))
  f344:=Tryz.func274.trans (congrArg some (by kernel_rfl))
  t0:=Tryz.underlying0
  a0:=Tryz.isAgg0
  z0:=Tryz.sizeOf0
  v0:=Tryz.zeroValue0
  t3:=Tryz.underlying3
  a3:=Tryz.isAgg3
  z3:=Tryz.sizeOf3
  v3:=Tryz.zeroValue3
  t4:=Tryz.underlying4
  a4:=Tryz.isAgg4
  z4:=Tryz.sizeOf4
  v4:=Tryz.zeroValue4
  t5:=Tryz.underlying5
  a5:=Tryz.isAgg5
  z5:=Tryz.sizeOf5
  v5:=Tryz.zeroValue5
  t9:=Tryz.underlying9
  a9:=Tryz.isAgg9
  z9:=Tryz.sizeOf9
  v9:=Tryz.zeroValue9
  t31:=Tryz.underlying22
  a31:=Tryz.isAgg22
  z31:=Tryz.sizeOf22
  v31:=Tryz.zeroValue22
  t46:=Tryz.underlying218
  a46:=Tryz.isAgg218
  z46:=Tryz.sizeOf218
  v46:=Tryz.zeroValue218
  t51:=Tryz.underlying289
  a51:=Tryz.isAgg289
  z51:=Tryz.sizeOf289
  v51:=Tryz.zeroValue289
  t53:=Tryz.underlying156
  a53:=Tryz.isAgg156
  z53:=Tryz.sizeOf156
  v53:=Tryz.zeroValue156
  t131:=Tryz.underlying301
  a131:=Tryz.isAgg301
  z131:=Tryz.sizeOf301
  v131:=Tryz.zeroValue301
  t182:=Tryz.underlying295
  a182:=Tryz.isAgg295
  z182:=Tryz.sizeOf295
  v182:=Tryz.zeroValue295
  t183:=Tryz.underlying296
  a183:=Tryz.isAgg296
  z183:=Tryz.sizeOf296
  v183:=Tryz.zeroValue296
  t218:=Tryz.underlying316
  a218:=Tryz.isAgg316
  z218:=Tryz.sizeOf316
  v218:=Tryz.zeroValue316
  t222:=Tryz.underlying320
  a222:=Tryz.isAgg320
  z222:=Tryz.sizeOf320
  v222:=Tryz.zeroValue320
  t228:=Tryz.underlying324
  a228:=Tryz.isAgg324
  z228:=Tryz.sizeOf324
  v228:=Tryz.zeroValue324
  t229:=Tryz.underlying325
  a229:=Tryz.isAgg325
  z229:=Tryz.sizeOf325
  v229:=Tryz.zeroValue325}
open Go.Sort Go.RowKit in
theorem Tryz.slices_Sort_string (blk off cap:Nat) (ss:List (List UInt8)) (w:World) (hH:Holds encStr w blk off ss.toArray) (hblk:blk<w.heap.size) (hsz:ss.length<4611686018427387904):
    Calls Tryz.prog 224 #[.slice (some ⟨blk,off,none⟩) ss.length cap] w fun e w'=>
      e= .returned (.tuple #[])∧ ∃n os,w'=grow (putRow encStr (Sort.ahead w n) blk off (ss.mergeSort fun x y=>decide (x≤y)).toArray) os:=Any.slices_Sort_string Tryz.lays190 blk off cap ss w hH hblk hsz
def Tryz.lays194_ren:Go.Shelf.Ren:=⟨fun|194=>225|n=>n,fun|31=>22|9=>9|3=>3|4=>4|0=>0|n=>n,fun|n=>n⟩
theorem Tryz.lays194:Go.Proofs.Lays.n194 Tryz.prog Tryz.lays194_ren:={
  mixed:=by kernel_rfl
  f194:=Tryz.func225.trans (congrArg some (by kernel_rfl))
  t0:=Tryz.underlying0
  a0:=Tryz.isAgg0
  z0:=Tryz.sizeOf0
  v0:=Tryz.zeroValue0
  t3:=Tryz.underlying3
  a3:=Tryz.isAgg3
  z3:=Tryz.sizeOf3
  v3:=Tryz.zeroValue3
  t4:=Tryz.underlying4
  a4:=Tryz.isAgg4
  z4:=Tryz.sizeOf4
  v4:=Tryz.zeroValue4
  t9:=Tryz.underlying9
  a9:=Tryz.isAgg9
  z9:=Tryz.sizeOf9
  v9:=Tryz.zeroValue9
  t31:=Tryz.underlying22
  a31:=Tryz.isAgg22
  z31:=Tryz.sizeOf22
  v31:=Tryz.zeroValue22}
open Go.RowKit Go.Lib Go.Sort in
theorem Tryz.slices_Compact_string (blk off cap:Nat) (zs:List (List UInt8)) (w:World) (hH:Holds encStr w blk off zs.toArray) (hsz:zs.length≤9223372036854775807) (hcap:zs.length≤cap):
    Calls Tryz.prog 225 #[.slice (some ⟨blk,off,none⟩) zs.length cap] w fun e w'=>e= .returned (.slice (some ⟨blk,off,none⟩) (Lib.compact zs).length cap)∧ ∃q,w'=putRow encStr (Sort.ahead w q) blk off (Lib.compact zs++List.replicate (zs.length-(Lib.compact zs).length) []).toArray:=Any.slices_Compact_string Tryz.lays194 blk off cap zs w hH hsz hcap
open Go.RowKit Go.Lib Go.Sort in
theorem Tryz.slices_Compact_string_empty (a:Option Addr) (cap:Nat) (w:World):
    Calls Tryz.prog 225 #[.slice a 0 cap] w fun e w'=>e= .returned (.slice a 0 cap)∧w'=w:=Any.slices_Compact_string_empty Tryz.lays194 a cap w
open Go.RowKit Go.Sort in
theorem Tryz.slices_Sort_string_none (p:Option Addr) (cap:Nat) (w:World):
    Calls Tryz.prog 224 #[.slice p 0 cap] w fun e w'=>e= .returned (.tuple #[])∧w'=w:=Any.slices_Sort_string_none Tryz.lays190 p cap w
end Go.Proofs
