/- The lay of strings.Fields at this program (written by the kit's tool lay-plain). -/
import Derived.Shelf.Strings.Fields
import Derived.Test.YtbblkakcadonjaaGreatDoorProg
import Derived.Shelf.Small.Bits
import Derived.Shelf.Strconv.Itoa0
import Derived.Shelf.Sort.Plain
import Derived.Shelf.Unicode.Latin
import Derived.Shelf.Unicode.Is16White
import Derived.Shelf.Unicode.IsSpaceAny
import Derived.Shelf.Unicode.Is16WhiteD
import Derived.Shelf.Unicode.IsSpaceAnyD
import Derived.Shelf.Strings.FieldsAny
import Derived.Shelf.Strings.FieldsFuncAny
import Derived.Shelf.Unicode.Is16Any
import Derived.Shelf.Unicode.Is32Any
import Derived.Shelf.Unicode.ExclAny
import Derived.Shelf.Slices.CompactS
import Derived.Shelf.Slices.In.SortNone
namespace Go.Proofs
open Go.Shelf
def Tryz.lays157_ren : Go.Shelf.Ren := ⟨fun | 157 => 160 | 229 => 186 | 199 => 187 | 261 => 212 | 311 => 233 | 312 => 234 | n => n, fun | 9 => 9 | 31 => 22 | 3 => 3 | 5 => 5 | 4 => 4 | 119 => 235 | 0 => 0 | 40 => 156 | 152 => 249 | 21 => 21 | 154 => 251 | 51 => 252 | 141 => 254 | 196 => 271 | 193 => 268 | 198 => 274 | 49 => 272 | 194 => 269 | 201 => 277 | 226 => 286 | 46 => 248 | 227 => 287 | n => n, fun | 0 => 0 | 6 => 1 | n => n⟩
theorem Tryz.lays157 : Go.Proofs.Lays.n157 Tryz.prog Tryz.lays157_ren := {
  mixed := by kernel_rfl
  f157 := Tryz.func160.trans (congrArg some (by kernel_rfl))
  f199 := Tryz.func187.trans (congrArg some (by kernel_rfl))
  f229 := Tryz.func186.trans (congrArg some (by kernel_rfl))
  f261 := Tryz.func212.trans (congrArg some (by kernel_rfl))
  f311 := Tryz.func233.trans (congrArg some (by kernel_rfl))
  f312 := Tryz.func234.trans (congrArg some (by kernel_rfl))
  t0 := Tryz.underlying0
  a0 := Tryz.isAgg0
  z0 := Tryz.sizeOf0
  v0 := Tryz.zeroValue0
  t3 := Tryz.underlying3
  a3 := Tryz.isAgg3
  z3 := Tryz.sizeOf3
  v3 := Tryz.zeroValue3
  t4 := Tryz.underlying4
  a4 := Tryz.isAgg4
  z4 := Tryz.sizeOf4
  v4 := Tryz.zeroValue4
  t5 := Tryz.underlying5
  a5 := Tryz.isAgg5
  z5 := Tryz.sizeOf5
  v5 := Tryz.zeroValue5
  t9 := Tryz.underlying9
  a9 := Tryz.isAgg9
  z9 := Tryz.sizeOf9
  v9 := Tryz.zeroValue9
  t21 := Tryz.underlying21
  a21 := Tryz.isAgg21
  z21 := Tryz.sizeOf21
  v21 := Tryz.zeroValue21
  t31 := Tryz.underlying22
  a31 := Tryz.isAgg22
  z31 := Tryz.sizeOf22
  v31 := Tryz.zeroValue22
  t40 := Tryz.underlying156
  a40 := Tryz.isAgg156
  z40 := Tryz.sizeOf156
  v40 := Tryz.zeroValue156
  t46 := Tryz.underlying248
  a46 := Tryz.isAgg248
  z46 := Tryz.sizeOf248
  v46 := Tryz.zeroValue248
  t49 := Tryz.underlying272
  a49 := Tryz.isAgg272
  z49 := Tryz.sizeOf272
  v49 := Tryz.zeroValue272
  t51 := Tryz.underlying252
  a51 := Tryz.isAgg252
  z51 := Tryz.sizeOf252
  v51 := Tryz.zeroValue252
  t119 := Tryz.underlying235
  a119 := Tryz.isAgg235
  z119 := Tryz.sizeOf235
  t141 := Tryz.underlying254
  a141 := Tryz.isAgg254
  z141 := Tryz.sizeOf254
  v141 := Tryz.zeroValue254
  t152 := Tryz.underlying249
  a152 := Tryz.isAgg249
  z152 := Tryz.sizeOf249
  v152 := Tryz.zeroValue249
  t154 := Tryz.underlying251
  a154 := Tryz.isAgg251
  z154 := Tryz.sizeOf251
  v154 := Tryz.zeroValue251
  t193 := Tryz.underlying268
  a193 := Tryz.isAgg268
  z193 := Tryz.sizeOf268
  v193 := Tryz.zeroValue268
  t194 := Tryz.underlying269
  a194 := Tryz.isAgg269
  z194 := Tryz.sizeOf269
  v194 := Tryz.zeroValue269
  t196 := Tryz.underlying271
  a196 := Tryz.isAgg271
  z196 := Tryz.sizeOf271
  v196 := Tryz.zeroValue271
  t198 := Tryz.underlying274
  a198 := Tryz.isAgg274
  z198 := Tryz.sizeOf274
  v198 := Tryz.zeroValue274
  t201 := Tryz.underlying277
  a201 := Tryz.isAgg277
  z201 := Tryz.sizeOf277
  v201 := Tryz.zeroValue277
  t226 := Tryz.underlying286
  a226 := Tryz.isAgg286
  z226 := Tryz.sizeOf286
  v226 := Tryz.zeroValue286
  t227 := Tryz.underlying287
  a227 := Tryz.isAgg287
  z227 := Tryz.sizeOf287
  v227 := Tryz.zeroValue287
  g0 := by kernel_rfl
  g6 := by kernel_rfl }
end Go.Proofs
namespace Go.Proofs
open Go.Shelf
def Tryz.lays190_ren : Go.Shelf.Ren := ⟨fun | 190 => 184 | 125 => 211 | 258 => 210 | 128 => 231 | 129 => 232 | 302 => 222 | 303 => 223 | 304 => 224 | 305 => 225 | 306 => 226 | 307 => 227 | 308 => 228 | 309 => 229 | 310 => 230 | 333 => 237 | 329 => 238 | 330 => 239 | 334 => 240 | 335 => 241 | 336 => 242 | 344 => 243 | n => n, fun | 31 => 22 | 9 => 9 | 3 => 3 | 46 => 248 | 0 => 0 | 51 => 252 | 53 => 210 | 4 => 4 | 183 => 259 | 182 => 258 | 131 => 264 | 5 => 5 | 218 => 280 | 222 => 284 | 228 => 288 | 229 => 289 | n => n, fun | n => n⟩
theorem Tryz.lays190 : Go.Proofs.Lays.n190 Tryz.prog Tryz.lays190_ren := {
  mixed := by kernel_rfl
  f125 := Tryz.func211.trans (congrArg some (by kernel_rfl))
  f128 := Tryz.func231.trans (congrArg some (by kernel_rfl))
  f129 := Tryz.func232.trans (congrArg some (by kernel_rfl))
  f190 := Tryz.func184.trans (congrArg some (by kernel_rfl))
  f258 := Tryz.func210.trans (congrArg some (by kernel_rfl))
  f302 := Tryz.func222.trans (congrArg some (by kernel_rfl))
  f303 := Tryz.func223.trans (congrArg some (by kernel_rfl))
  f304 := Tryz.func224.trans (congrArg some (by kernel_rfl))
  f305 := Tryz.func225.trans (congrArg some (by kernel_rfl))
  f306 := Tryz.func226.trans (congrArg some (by kernel_rfl))
  f307 := Tryz.func227.trans (congrArg some (by kernel_rfl))
  f308 := Tryz.func228.trans (congrArg some (by kernel_rfl))
  f309 := Tryz.func229.trans (congrArg some (by kernel_rfl))
  f310 := Tryz.func230.trans (congrArg some (by kernel_rfl))
  f329 := Tryz.func238.trans (congrArg some (by kernel_rfl))
  f330 := Tryz.func239.trans (congrArg some (by kernel_rfl))
  f333 := Tryz.func237.trans (congrArg some (by kernel_rfl))
  f334 := Tryz.func240.trans (congrArg some (by kernel_rfl))
  f335 := Tryz.func241.trans (congrArg some (by kernel_rfl))
  f336 := Tryz.func242.trans (congrArg some (by kernel_rfl))
  f344 := Tryz.func243.trans (congrArg some (by kernel_rfl))
  t0 := Tryz.underlying0
  a0 := Tryz.isAgg0
  z0 := Tryz.sizeOf0
  v0 := Tryz.zeroValue0
  t3 := Tryz.underlying3
  a3 := Tryz.isAgg3
  z3 := Tryz.sizeOf3
  v3 := Tryz.zeroValue3
  t4 := Tryz.underlying4
  a4 := Tryz.isAgg4
  z4 := Tryz.sizeOf4
  v4 := Tryz.zeroValue4
  t5 := Tryz.underlying5
  a5 := Tryz.isAgg5
  z5 := Tryz.sizeOf5
  v5 := Tryz.zeroValue5
  t9 := Tryz.underlying9
  a9 := Tryz.isAgg9
  z9 := Tryz.sizeOf9
  v9 := Tryz.zeroValue9
  t31 := Tryz.underlying22
  a31 := Tryz.isAgg22
  z31 := Tryz.sizeOf22
  v31 := Tryz.zeroValue22
  t46 := Tryz.underlying248
  a46 := Tryz.isAgg248
  z46 := Tryz.sizeOf248
  v46 := Tryz.zeroValue248
  t51 := Tryz.underlying252
  a51 := Tryz.isAgg252
  z51 := Tryz.sizeOf252
  v51 := Tryz.zeroValue252
  t53 := Tryz.underlying210
  a53 := Tryz.isAgg210
  z53 := Tryz.sizeOf210
  v53 := Tryz.zeroValue210
  t131 := Tryz.underlying264
  a131 := Tryz.isAgg264
  z131 := Tryz.sizeOf264
  v131 := Tryz.zeroValue264
  t182 := Tryz.underlying258
  a182 := Tryz.isAgg258
  z182 := Tryz.sizeOf258
  v182 := Tryz.zeroValue258
  t183 := Tryz.underlying259
  a183 := Tryz.isAgg259
  z183 := Tryz.sizeOf259
  v183 := Tryz.zeroValue259
  t218 := Tryz.underlying280
  a218 := Tryz.isAgg280
  z218 := Tryz.sizeOf280
  v218 := Tryz.zeroValue280
  t222 := Tryz.underlying284
  a222 := Tryz.isAgg284
  z222 := Tryz.sizeOf284
  v222 := Tryz.zeroValue284
  t228 := Tryz.underlying288
  a228 := Tryz.isAgg288
  z228 := Tryz.sizeOf288
  v228 := Tryz.zeroValue288
  t229 := Tryz.underlying289
  a229 := Tryz.isAgg289
  z229 := Tryz.sizeOf289
  v229 := Tryz.zeroValue289 }
open Go.Sort Go.RowKit in
theorem Tryz.slices_Sort_string (blk off cap : Nat) (ss : List (List UInt8)) (w : World) (hH : Holds encStr w blk off ss.toArray) (hblk : blk < w.heap.size) (hsz : ss.length < 4611686018427387904) :
    Calls Tryz.prog 184 #[.slice (some ⟨blk, off, none⟩) ss.length cap] w fun e w' =>
      e = .returned (.tuple #[]) ∧ ∃ n os, w' = grow (putRow encStr (Sort.ahead w n) blk off (ss.mergeSort fun x y => decide (x ≤ y)).toArray) os := Any.slices_Sort_string Tryz.lays190 blk off cap ss w hH hblk hsz

def Tryz.lays194_ren : Go.Shelf.Ren := ⟨fun | 194 => 185 | n => n, fun | 31 => 22 | 9 => 9 | 3 => 3 | 4 => 4 | 0 => 0 | n => n, fun | n => n⟩
theorem Tryz.lays194 : Go.Proofs.Lays.n194 Tryz.prog Tryz.lays194_ren := {
  mixed := by kernel_rfl
  f194 := Tryz.func185.trans (congrArg some (by kernel_rfl))
  t0 := Tryz.underlying0
  a0 := Tryz.isAgg0
  z0 := Tryz.sizeOf0
  v0 := Tryz.zeroValue0
  t3 := Tryz.underlying3
  a3 := Tryz.isAgg3
  z3 := Tryz.sizeOf3
  v3 := Tryz.zeroValue3
  t4 := Tryz.underlying4
  a4 := Tryz.isAgg4
  z4 := Tryz.sizeOf4
  v4 := Tryz.zeroValue4
  t9 := Tryz.underlying9
  a9 := Tryz.isAgg9
  z9 := Tryz.sizeOf9
  v9 := Tryz.zeroValue9
  t31 := Tryz.underlying22
  a31 := Tryz.isAgg22
  z31 := Tryz.sizeOf22
  v31 := Tryz.zeroValue22 }
open Go.RowKit Go.Lib Go.Sort in
/-- slices.Compact at []string: "Compact replaces consecutive runs of equal elements with a single copy. This is like the uniq command found on Unix. Compact modifies the contents of the slice s and returns the modified slice, which may have a smaller length. Compact zeroes the elements between the new length and the original length. The result preserves the nilness of s.": IT RETURNS THE SLICE CUT TO 'Lib.compact zs'; ITS CELLS HOLD 'Lib.compact zs', THEN ZERO VALUES up to the old length; all else is as it was, but for the count of draws. IN THE WORDS OF slices.Sort's CONTRACT ('Holds', 'putRow'): so the everyday 'slices.Sort(xs); xs = slices.Compact(xs)' goes from the one contract to the other. It asks 'zs.length ≤ cap' (every slice's: the reslicing 's[:k]' looks at it). Length 0, nil: '.._empty'. (LAID: no walk: one application.) -/
theorem Tryz.slices_Compact_string (blk off cap : Nat) (zs : List (List UInt8)) (w : World) (hH : Holds encStr w blk off zs.toArray) (hsz : zs.length ≤ 9223372036854775807) (hcap : zs.length ≤ cap) :
    Calls Tryz.prog 185 #[.slice (some ⟨blk, off, none⟩) zs.length cap] w fun e w' => e = .returned (.slice (some ⟨blk, off, none⟩) (Lib.compact zs).length cap) ∧ ∃ q, w' = putRow encStr (Sort.ahead w q) blk off (Lib.compact zs ++ List.replicate (zs.length - (Lib.compact zs).length) []).toArray := Any.slices_Compact_string Tryz.lays194 blk off cap zs w hH hsz hcap
open Go.RowKit Go.Lib Go.Sort in
/-- The same at a slice of length 0, a nil one too: it comes back as it is. (LAID: no walk: one application.) -/
theorem Tryz.slices_Compact_string_empty (a : Option Addr) (cap : Nat) (w : World) :
    Calls Tryz.prog 185 #[.slice a 0 cap] w fun e w' => e = .returned (.slice a 0 cap) ∧ w' = w := Any.slices_Compact_string_empty Tryz.lays194 a cap w
open Go.RowKit Go.Sort in
/-- .. and plain. (LAID: no walk: one application.) -/
theorem Tryz.slices_Sort_string_none (p : Option Addr) (cap : Nat) (w : World) :
    Calls Tryz.prog 184 #[.slice p 0 cap] w fun e w' => e = .returned (.tuple #[]) ∧ w' = w := Any.slices_Sort_string_none Tryz.lays190 p cap w
end Go.Proofs
