/- Contracts of the given program, for the proofs of its statements: Lays, WideWalk, Points, Args, ArgRect. No conditions beyond those in each theorem. -/
import Derived.Shelf.SlSortCmp.WholeK
import Derived.Ground.SlsfProg
import Derived.Shelf.SlGeneric
import Derived.Shelf.Small.Bits
import Derived.Shelf.Small.Wraps
import Derived.Shelf.Strconv.Itoa0
import Derived.Shelf.Sort.Plain
import Derived.Shelf.Bits.Mul64
import Derived.Ground.Names2Prog
import Derived.Shelf.Slices.CompactI
import Derived.Shelf.Slices.SearchI
import Derived.Shelf.Slices.Cells
import Derived.Shelf.Slices.In.SortNone
import Derived.Test.YtdlmjacejhlboaaProg
import Derived.Test.YtdlmjacejhlboaaKdnP1
import Derived.Deep.RegionHeld3
import Derived.StillTailTactics
import Derived.ProofKit
import Derived.OpenShut
import Derived.Carry
import Derived.Deep.Slices
import Derived.Test.YtdlmjacejhlboaaRows
namespace Go.Proofs
open Go.Shelf
def Try.lays128_ren : Go.Shelf.Ren := ⟨fun | 128 => 134 | n => n, fun | 51 => 41 | 3 => 3 | 4 => 4 | 46 => 160 | 5 => 5 | 9 => 9 | n => n, fun | n => n⟩
theorem Try.lays128 : Go.Proofs.Lays.n128 Try.prog Try.lays128_ren := {
  mixed := by kernel_rfl
  f128 := Try.func134.trans (congrArg some (by kernel_rfl))
  t3 := Try.underlying3
  a3 := Try.isAgg3
  z3 := Try.sizeOf3
  v3 := Try.zeroValue3
  t4 := Try.underlying4
  a4 := Try.isAgg4
  z4 := Try.sizeOf4
  v4 := Try.zeroValue4
  t5 := Try.underlying5
  a5 := Try.isAgg5
  z5 := Try.sizeOf5
  v5 := Try.zeroValue5
  t9 := Try.underlying9
  a9 := Try.isAgg9
  z9 := Try.sizeOf9
  v9 := Try.zeroValue9
  t46 := Try.underlying160
  a46 := Try.isAgg160
  z46 := Try.sizeOf160
  v46 := Try.zeroValue160
  t51 := Try.underlying41
  a51 := Try.isAgg41
  z51 := Try.sizeOf41
  v51 := Try.zeroValue41 }
/-- bits.Len32: "Len32 returns the minimum number of bits required to represent x; the result is 0 for x == 0.": IT RETURNS 'Lib.bitLen x'; the world is as it was. ('h0', 'h1': x is a uint32.) (LAID: no walk: one application.) -/
theorem Try.bits_Len32 (x : Int) (w : World) (h0 : 0 ≤ x) (h1 : x ≤ 4294967295) :
    Calls Try.prog 134 #[.int .u32 x] w fun e w' => e = .returned (.int .i64 (Lib.bitLen x.toNat)) ∧ w' = w := Any.bits_Len32 Try.lays128 x w h0 h1
def Try.lays125_ren : Go.Shelf.Ren := ⟨fun | 125 => 104 | 128 => 134 | 129 => 135 | n => n, fun | 46 => 160 | 3 => 3 | 51 => 41 | 53 => 74 | 4 => 4 | 5 => 5 | 9 => 9 | n => n, fun | n => n⟩
theorem Try.lays125 : Go.Proofs.Lays.n125 Try.prog Try.lays125_ren := {
  mixed := by kernel_rfl
  f125 := Try.func104.trans (congrArg some (by kernel_rfl))
  f128 := Try.func134.trans (congrArg some (by kernel_rfl))
  f129 := Try.func135.trans (congrArg some (by kernel_rfl))
  t3 := Try.underlying3
  a3 := Try.isAgg3
  z3 := Try.sizeOf3
  v3 := Try.zeroValue3
  t4 := Try.underlying4
  a4 := Try.isAgg4
  z4 := Try.sizeOf4
  v4 := Try.zeroValue4
  t5 := Try.underlying5
  a5 := Try.isAgg5
  z5 := Try.sizeOf5
  v5 := Try.zeroValue5
  t9 := Try.underlying9
  a9 := Try.isAgg9
  z9 := Try.sizeOf9
  v9 := Try.zeroValue9
  t46 := Try.underlying160
  a46 := Try.isAgg160
  z46 := Try.sizeOf160
  v46 := Try.zeroValue160
  t51 := Try.underlying41
  a51 := Try.isAgg41
  z51 := Try.sizeOf41
  v51 := Try.zeroValue41
  t53 := Try.underlying74
  a53 := Try.isAgg74
  z53 := Try.sizeOf74
  v53 := Try.zeroValue74 }
/-- bits.Len: "Len returns the minimum number of bits required to represent x; the result is 0 for x == 0.": IT RETURNS 'Lib.bitLen x'; the world is as it was. (A uint has 64 bits in the model.) ITS CALLEE bits.Len64 IS MET BY ITS OWN CONTRACT OFF THE SHELF (lay that first). (LAID: no walk: one application.) -/
theorem Try.bits_Len (x : Int) (w : World) (h0 : 0 ≤ x) (h1 : x ≤ 18446744073709551615) :
    Calls Try.prog 104 #[.int .u64 x] w fun e w' => e = .returned (.int .i64 (Lib.bitLen x.toNat)) ∧ w' = w := Any.bits_Len Try.lays125 x w h0 h1
def Try.lays215_ren : Go.Shelf.Ren := ⟨fun | 215 => 109 | n => n, fun | 3 => 3 | 4 => 4 | n => n, fun | n => n⟩
theorem Try.lays215 : Go.Proofs.Lays.n215 Try.prog Try.lays215_ren := {
  mixed := by kernel_rfl
  f215 := Try.func109.trans (congrArg some (by kernel_rfl))
  t3 := Try.underlying3
  a3 := Try.isAgg3
  z3 := Try.sizeOf3
  v3 := Try.zeroValue3
  t4 := Try.underlying4
  a4 := Try.isAgg4
  z4 := Try.sizeOf4
  v4 := Try.zeroValue4 }
open Go.RowKit in
/-- cmp.isNaN at int: 'x != x': false. (LAID: no walk: one application.) -/
theorem Try.cmp_isNaN_int (x : Int) (w : World) :
    Calls Try.prog 109 #[.int .i64 x] w fun e w' => e = .returned (.bool false) ∧ w' = w := Any.cmp_isNaN_int Try.lays215 x w
def Try.lays122_ren : Go.Shelf.Ren := ⟨fun | 122 => 77 | 215 => 109 | n => n, fun | 3 => 3 | 4 => 4 | n => n, fun | n => n⟩
theorem Try.lays122 : Go.Proofs.Lays.n122 Try.prog Try.lays122_ren := {
  mixed := by kernel_rfl
  f122 := Try.func77.trans (congrArg some (by kernel_rfl))
  f215 := Try.func109.trans (congrArg some (by kernel_rfl))
  t3 := Try.underlying3
  a3 := Try.isAgg3
  z3 := Try.sizeOf3
  v3 := Try.zeroValue3
  t4 := Try.underlying4
  a4 := Try.isAgg4
  z4 := Try.sizeOf4
  v4 := Try.zeroValue4 }
open Go.RowKit in
/-- cmp.Compare at int: "Compare returns -1 if x is less than y, 0 if x equals y, +1 if x is greater than y.": IT RETURNS 'Lib.compareInt x y'; the world is as it was. (LAID: no walk: one application.) -/
theorem Try.cmp_Compare_int (x y : Int) (w : World) :
    Calls Try.prog 77 #[.int .i64 x, .int .i64 y] w fun e w' => e = .returned (.int .i64 (Lib.compareInt x y)) ∧ w' = w := Any.cmp_Compare_int Try.lays122 x y w
def Try.lays129_ren : Go.Shelf.Ren := ⟨fun | 129 => 135 | n => n, fun | 53 => 74 | 3 => 3 | 4 => 4 | 46 => 160 | 5 => 5 | 9 => 9 | n => n, fun | n => n⟩
theorem Try.lays129 : Go.Proofs.Lays.n129 Try.prog Try.lays129_ren := {
  mixed := by kernel_rfl
  f129 := Try.func135.trans (congrArg some (by kernel_rfl))
  t3 := Try.underlying3
  a3 := Try.isAgg3
  z3 := Try.sizeOf3
  v3 := Try.zeroValue3
  t4 := Try.underlying4
  a4 := Try.isAgg4
  z4 := Try.sizeOf4
  v4 := Try.zeroValue4
  t5 := Try.underlying5
  a5 := Try.isAgg5
  z5 := Try.sizeOf5
  v5 := Try.zeroValue5
  t9 := Try.underlying9
  a9 := Try.isAgg9
  z9 := Try.sizeOf9
  v9 := Try.zeroValue9
  t46 := Try.underlying160
  a46 := Try.isAgg160
  z46 := Try.sizeOf160
  v46 := Try.zeroValue160
  t53 := Try.underlying74
  a53 := Try.isAgg74
  z53 := Try.sizeOf74
  v53 := Try.zeroValue74 }
/-- bits.Len64: "Len64 returns the minimum number of bits required to represent x; the result is 0 for x == 0.": IT RETURNS 'Lib.bitLen x'; the world is as it was. ('h0', 'h1': x is a uint64.) (LAID: no walk: one application.) -/
theorem Try.bits_Len64 (x : Int) (w : World) (h0 : 0 ≤ x) (h1 : x ≤ 18446744073709551615) :
    Calls Try.prog 135 #[.int .u64 x] w fun e w' => e = .returned (.int .i64 (Lib.bitLen x.toNat)) ∧ w' = w := Any.bits_Len64 Try.lays129 x w h0 h1
def Try.lays189_ren : Go.Shelf.Ren := ⟨fun | 189 => 72 | 125 => 104 | 257 => 107 | 128 => 134 | 129 => 135 | 294 => 137 | 295 => 138 | 296 => 139 | 297 => 140 | 298 => 141 | 299 => 142 | 216 => 143 | 300 => 144 | 301 => 145 | 328 => 166 | 329 => 161 | 330 => 162 | 331 => 167 | 332 => 168 | 215 => 109 | 343 => 176 | n => n, fun | 28 => 26 | 3 => 3 | 46 => 160 | 0 => 0 | 51 => 41 | 53 => 74 | 4 => 4 | 183 => 182 | 182 => 181 | 131 => 173 | 5 => 5 | 9 => 9 | 218 => 206 | 222 => 210 | 228 => 218 | 229 => 219 | n => n, fun | n => n⟩
theorem Try.lays189 : Go.Proofs.Lays.n189 Try.prog Try.lays189_ren := {
  mixed := by kernel_rfl
  f125 := Try.func104.trans (congrArg some (by kernel_rfl))
  f128 := Try.func134.trans (congrArg some (by kernel_rfl))
  f129 := Try.func135.trans (congrArg some (by kernel_rfl))
  f189 := Try.func72.trans (congrArg some (by kernel_rfl))
  f215 := Try.func109.trans (congrArg some (by kernel_rfl))
  f216 := Try.func143.trans (congrArg some (by kernel_rfl))
  f257 := Try.func107.trans (congrArg some (by kernel_rfl))
  f294 := Try.func137.trans (congrArg some (by kernel_rfl))
  f295 := Try.func138.trans (congrArg some (by kernel_rfl))
  f296 := Try.func139.trans (congrArg some (by kernel_rfl))
  f297 := Try.func140.trans (congrArg some (by kernel_rfl))
  f298 := Try.func141.trans (congrArg some (by kernel_rfl))
  f299 := Try.func142.trans (congrArg some (by kernel_rfl))
  f300 := Try.func144.trans (congrArg some (by kernel_rfl))
  f301 := Try.func145.trans (congrArg some (by kernel_rfl))
  f328 := Try.func166.trans (congrArg some (by kernel_rfl))
  f329 := Try.func161.trans (congrArg some (by kernel_rfl))
  f330 := Try.func162.trans (congrArg some (by kernel_rfl))
  f331 := Try.func167.trans (congrArg some (by kernel_rfl))
  f332 := Try.func168.trans (congrArg some (by kernel_rfl))
  f343 := Try.func176.trans (congrArg some (by kernel_rfl))
  t0 := Try.underlying0
  a0 := Try.isAgg0
  z0 := Try.sizeOf0
  v0 := Try.zeroValue0
  t3 := Try.underlying3
  a3 := Try.isAgg3
  z3 := Try.sizeOf3
  v3 := Try.zeroValue3
  t4 := Try.underlying4
  a4 := Try.isAgg4
  z4 := Try.sizeOf4
  v4 := Try.zeroValue4
  t5 := Try.underlying5
  a5 := Try.isAgg5
  z5 := Try.sizeOf5
  v5 := Try.zeroValue5
  t9 := Try.underlying9
  a9 := Try.isAgg9
  z9 := Try.sizeOf9
  v9 := Try.zeroValue9
  t28 := Try.underlying26
  a28 := Try.isAgg26
  z28 := Try.sizeOf26
  v28 := Try.zeroValue26
  t46 := Try.underlying160
  a46 := Try.isAgg160
  z46 := Try.sizeOf160
  v46 := Try.zeroValue160
  t51 := Try.underlying41
  a51 := Try.isAgg41
  z51 := Try.sizeOf41
  v51 := Try.zeroValue41
  t53 := Try.underlying74
  a53 := Try.isAgg74
  z53 := Try.sizeOf74
  v53 := Try.zeroValue74
  t131 := Try.underlying173
  a131 := Try.isAgg173
  z131 := Try.sizeOf173
  v131 := Try.zeroValue173
  t182 := Try.underlying181
  a182 := Try.isAgg181
  z182 := Try.sizeOf181
  v182 := Try.zeroValue181
  t183 := Try.underlying182
  a183 := Try.isAgg182
  z183 := Try.sizeOf182
  v183 := Try.zeroValue182
  t218 := Try.underlying206
  a218 := Try.isAgg206
  z218 := Try.sizeOf206
  v218 := Try.zeroValue206
  t222 := Try.underlying210
  a222 := Try.isAgg210
  z222 := Try.sizeOf210
  v222 := Try.zeroValue210
  t228 := Try.underlying218
  a228 := Try.isAgg218
  z228 := Try.sizeOf218
  v228 := Try.zeroValue218
  t229 := Try.underlying219
  a229 := Try.isAgg219
  z229 := Try.sizeOf219
  v229 := Try.zeroValue219 }
open Go.Sort Go.RowKit in
theorem Try.slices_Sort_int (blk off cap : Nat) (zs : List Int) (w : World) (hH : Holds (Value.int .i64) w blk off zs.toArray) (hblk : blk < w.heap.size) (hsz : zs.length < 4611686018427387904) :
    Calls Try.prog 72 #[.slice (some ⟨blk, off, none⟩) zs.length cap] w fun e w' =>
      e = .returned (.tuple #[]) ∧ ∃ n os, w' = grow (putRow (Value.int .i64) (Sort.ahead w n) blk off (zs.mergeSort fun x y => decide (x ≤ y)).toArray) os := Any.slices_Sort_int Try.lays189 blk off cap zs w hH hblk hsz
def Try.lays264_ren : Go.Shelf.Ren := ⟨fun | 264 => 125 | n => n, fun | 53 => 74 | 46 => 160 | n => n, fun | n => n⟩
theorem Try.lays264 : Go.Proofs.Lays.n264 Try.prog Try.lays264_ren := {
  mixed := by kernel_rfl
  f264 := Try.func125.trans (congrArg some (by kernel_rfl))
  t46 := Try.underlying160
  a46 := Try.isAgg160
  z46 := Try.sizeOf160
  v46 := Try.zeroValue160
  t53 := Try.underlying74
  a53 := Try.isAgg74
  z53 := Try.sizeOf74
  v53 := Try.zeroValue74 }
open Go.RowKit Go.Lib in
theorem Try.bits_Mul64 (x y : Nat) (hx : x < 18446744073709551616) (hy : y < 18446744073709551616) (w : World) :
    Calls Try.prog 125 #[.int .u64 x, .int .u64 y] w fun e w' => e = .returned (.tuple #[.int .u64 ((x * y / 18446744073709551616 : Nat) : Int), .int .u64 ((x * y % 18446744073709551616 : Nat) : Int)]) ∧ w' = w := Any.bits_Mul64 Try.lays264 x y hx hy w
def Try.laysNm220_ren : Go.Shelf.Ren := ⟨fun | 20 => 73 | n => n, fun | 22 => 26 | 3 => 3 | 4 => 4 | 0 => 0 | n => n, fun | n => n⟩
theorem Try.laysNm220 : Go.Proofs.Lays2.n20 Try.prog Try.laysNm220_ren := {
  mixed := by kernel_rfl
  f20 := Try.func73.trans (congrArg some (by kernel_rfl))
  t0 := Try.underlying0
  a0 := Try.isAgg0
  z0 := Try.sizeOf0
  v0 := Try.zeroValue0
  t3 := Try.underlying3
  a3 := Try.isAgg3
  z3 := Try.sizeOf3
  v3 := Try.zeroValue3
  t4 := Try.underlying4
  a4 := Try.isAgg4
  z4 := Try.sizeOf4
  v4 := Try.zeroValue4
  t22 := Try.underlying26
  a22 := Try.isAgg26
  z22 := Try.sizeOf26
  v22 := Try.zeroValue26
  i3 := by kernel_rfl }
open Go.RowKit Go.Lib Go.Sort in
/-- slices.Compact at []int, over an array: the library's two loops are walked. (LAID: no walk: one application.) -/
theorem Try.slices_Compact_int_arr (blk off cap : Nat) (d : Array Int) (w : World) (hH : Holds encI w blk off d) (hsz : d.size ≤ 9223372036854775807) (hcap : d.size ≤ cap) :
    Calls Try.prog 73 #[.slice (some ⟨blk, off, none⟩) d.size cap] w fun e w' => e = .returned (.slice (some ⟨blk, off, none⟩) (compactUpTo d d.size).length cap) ∧ ∃ q, w' = putRow encI (Sort.ahead w q) blk off (compactUpTo d d.size ++ List.replicate (d.size - (compactUpTo d d.size).length) 0).toArray := Any.slices_Compact_int_arr Try.laysNm220 blk off cap d w hH hsz hcap
open Go.RowKit Go.Lib Go.Sort in
/-- slices.Compact at []int: "Compact replaces consecutive runs of equal elements with a single copy. This is like the uniq command found on Unix. Compact modifies the contents of the slice s and returns the modified slice, which may have a smaller length. Compact zeroes the elements between the new length and the original length. The result preserves the nilness of s.": IT RETURNS THE SLICE CUT TO 'Lib.compact zs'; ITS CELLS HOLD 'Lib.compact zs', THEN ZERO VALUES up to the old length; all else is as it was, but for the count of draws. IN THE WORDS OF slices.Sort's CONTRACT ('Holds', 'putRow'): so the everyday 'slices.Sort(xs); xs = slices.Compact(xs)' goes from the one contract to the other. It asks 'zs.length ≤ cap' (every slice's: the reslicing 's[:k]' looks at it). Length 0, nil: '.._empty'. (LAID: no walk: one application.) -/
theorem Try.slices_Compact_int (blk off cap : Nat) (zs : List Int) (w : World) (hH : Holds (Value.int .i64) w blk off zs.toArray) (hsz : zs.length ≤ 9223372036854775807) (hcap : zs.length ≤ cap) :
    Calls Try.prog 73 #[.slice (some ⟨blk, off, none⟩) zs.length cap] w fun e w' => e = .returned (.slice (some ⟨blk, off, none⟩) (Lib.compact zs).length cap) ∧ ∃ q, w' = putRow (Value.int .i64) (Sort.ahead w q) blk off (Lib.compact zs ++ List.replicate (zs.length - (Lib.compact zs).length) 0).toArray := Any.slices_Compact_int Try.laysNm220 blk off cap zs w hH hsz hcap
open Go.RowKit Go.Lib Go.Sort in
/-- The same at a slice of length 0, a nil one too: it comes back as it is. (LAID: no walk: one application.) -/
theorem Try.slices_Compact_int_empty (a : Option Addr) (cap : Nat) (w : World) :
    Calls Try.prog 73 #[.slice a 0 cap] w fun e w' => e = .returned (.slice a 0 cap) ∧ w' = w := Any.slices_Compact_int_empty Try.laysNm220 a cap w
def Try.laysNm237_ren : Go.Shelf.Ren := ⟨fun | 37 => 109 | n => n, fun | 3 => 3 | 4 => 4 | n => n, fun | n => n⟩
theorem Try.laysNm237 : Go.Proofs.Lays2.n37 Try.prog Try.laysNm237_ren := {
  mixed := by kernel_rfl
  f37 := Try.func109.trans (congrArg some (by kernel_rfl))
  t3 := Try.underlying3
  a3 := Try.isAgg3
  z3 := Try.sizeOf3
  v3 := Try.zeroValue3
  t4 := Try.underlying4
  a4 := Try.isAgg4
  z4 := Try.sizeOf4
  v4 := Try.zeroValue4 }
open Go.RowKit Go.Lib in
/-- cmp.isNaN[int]: 'x != x': false. (LAID: no walk: one application.) -/
theorem Try.cmp_isNaN_int2 (x : Int) (w : World) :
    Calls Try.prog 109 #[.int .i64 x] w fun e w' => e = .returned (.bool false) ∧ w' = w := Any.cmp_isNaN_int2 Try.laysNm237 x w
def Try.laysNm231_ren : Go.Shelf.Ren := ⟨fun | 31 => 143 | 37 => 109 | n => n, fun | 3 => 3 | 4 => 4 | n => n, fun | n => n⟩
theorem Try.laysNm231 : Go.Proofs.Lays2.n31 Try.prog Try.laysNm231_ren := {
  mixed := by kernel_rfl
  f31 := Try.func143.trans (congrArg some (by kernel_rfl))
  f37 := Try.func109.trans (congrArg some (by kernel_rfl))
  t3 := Try.underlying3
  a3 := Try.isAgg3
  z3 := Try.sizeOf3
  v3 := Try.zeroValue3
  t4 := Try.underlying4
  a4 := Try.isAgg4
  z4 := Try.sizeOf4
  v4 := Try.zeroValue4 }
open Go.RowKit Go.Lib in
/-- cmp.Less[int]: "Less reports whether x is less than y.": 'x < y'; the world is as it was. (LAID: no walk: one application.) -/
theorem Try.cmp_Less_int2 (x y : Int) (w : World) :
    Calls Try.prog 143 #[.int .i64 x, .int .i64 y] w fun e w' => e = .returned (.bool (decide (x < y))) ∧ w' = w := Any.cmp_Less_int2 Try.laysNm231 x y w
open Go.RowKit Go.Lib Go.Sort in
/-- slices.Compact at []int, of an argument: the slice cut to 'Lib.compact (elements)'; the n cells hold that, then zeros. (LAID: no walk: one application.) -/
theorem Try.slices_Compact_int_cells (b off n c : Nat) (zs : List Int) (w : World) (hz : n ≤ zs.length) (hbig : n ≤ 9223372036854775807) (hcap : n ≤ c) (hc : ∀ j, j < zs.length → w.cell? ⟨b, off + j, none⟩ = some (.int .i64 (zs.getD j 0))) (hf : ∀ j, j < n → w.frozen? ⟨b, off + j, none⟩ = false) :
    Calls Try.prog 73 #[.slice (some ⟨b, off, none⟩) n c] w fun e w' => e = .returned (.slice (some ⟨b, off, none⟩) (Lib.compact (zs.take n)).length c) ∧ ∃ q, w' = (w.drewN q).setCells b off ((Lib.compact (zs.take n) ++ List.replicate (n - (Lib.compact (zs.take n)).length) 0).map (Value.int .i64)) := Any.slices_Compact_int_cells Try.laysNm220 b off n c zs w hz hbig hcap hc hf
open Go.RowKit Go.Sort in
/-- .. and plain. (LAID: no walk: one application.) -/
theorem Try.slices_Sort_int_none (p : Option Addr) (cap : Nat) (w : World) :
    Calls Try.prog 72 #[.slice p 0 cap] w fun e w' => e = .returned (.tuple #[]) ∧ w' = w := Any.slices_Sort_int_none Try.lays189 p cap w
def Try.sortRoad_ren : Go.Shelf.Ren := ⟨fun | 6 => 70 | 15 => 104 | 14 => 103 | 28 => 134 | 29 => 135 | 20 => 126 | 21 => 127 | 22 => 128 | 23 => 129 | 24 => 130 | 25 => 131 | 26 => 132 | 27 => 133 | 46 => 160 | 47 => 161 | 48 => 162 | 49 => 163 | 50 => 164 | 57 => 175 | n => n, fun | 22 => 24 | 24 => 78 | 25 => 128 | 3 => 3 | 39 => 160 | 0 => 0 | 53 => 41 | 55 => 74 | 4 => 4 | 46 => 182 | 45 => 181 | 50 => 173 | 5 => 5 | 9 => 9 | 66 => 206 | 70 => 210 | 76 => 218 | 77 => 219 | n => n, fun | n => n⟩
theorem Try.sortRoad : Go.Proofs.SlLaysF0.n6 Try.prog Try.sortRoad_ren := {
  mixed := by kernel_rfl
  f6 := ⟨Try.f70.name, by decide, Try.func70.trans (congrArg some (by kernel_rfl))⟩
  f14 := ⟨Try.f103.name, by decide, Try.func103.trans (congrArg some (by kernel_rfl))⟩
  f15 := Try.func104.trans (congrArg some (by kernel_rfl))
  f20 := ⟨Try.f126.name, by decide, Try.func126.trans (congrArg some (by kernel_rfl))⟩
  f21 := ⟨Try.f127.name, by decide, Try.func127.trans (congrArg some (by kernel_rfl))⟩
  f22 := ⟨Try.f128.name, by decide, Try.func128.trans (congrArg some (by kernel_rfl))⟩
  f23 := ⟨Try.f129.name, by decide, Try.func129.trans (congrArg some (by kernel_rfl))⟩
  f24 := ⟨Try.f130.name, by decide, Try.func130.trans (congrArg some (by kernel_rfl))⟩
  f25 := ⟨Try.f131.name, by decide, Try.func131.trans (congrArg some (by kernel_rfl))⟩
  f26 := ⟨Try.f132.name, by decide, Try.func132.trans (congrArg some (by kernel_rfl))⟩
  f27 := ⟨Try.f133.name, by decide, Try.func133.trans (congrArg some (by kernel_rfl))⟩
  f28 := Try.func134.trans (congrArg some (by kernel_rfl))
  f29 := Try.func135.trans (congrArg some (by kernel_rfl))
  f46 := ⟨Try.f160.name, by decide, Try.func160.trans (congrArg some (by kernel_rfl))⟩
  f47 := Try.func161.trans (congrArg some (by kernel_rfl))
  f48 := Try.func162.trans (congrArg some (by kernel_rfl))
  f49 := ⟨Try.f163.name, by decide, Try.func163.trans (congrArg some (by kernel_rfl))⟩
  f50 := ⟨Try.f164.name, by decide, Try.func164.trans (congrArg some (by kernel_rfl))⟩
  f57 := ⟨Try.f175.name, by decide, Try.func175.trans (congrArg some (by kernel_rfl))⟩
  t0 := Try.underlying0
  a0 := Try.isAgg0
  z0 := Try.sizeOf0
  v0 := Try.zeroValue0
  t3 := Try.underlying3
  a3 := Try.isAgg3
  z3 := Try.sizeOf3
  v3 := Try.zeroValue3
  t4 := Try.underlying4
  a4 := Try.isAgg4
  z4 := Try.sizeOf4
  v4 := Try.zeroValue4
  t5 := Try.underlying5
  a5 := Try.isAgg5
  z5 := Try.sizeOf5
  v5 := Try.zeroValue5
  t9 := Try.underlying9
  a9 := Try.isAgg9
  z9 := Try.sizeOf9
  v9 := Try.zeroValue9
  t22 := Try.underlying24
  a22 := Try.isAgg24
  z22 := Try.sizeOf24
  v22 := Try.zeroValue24
  t25 := Try.underlying128
  a25 := Try.isAgg128
  z25 := Try.sizeOf128
  v25 := Try.zeroValue128
  t39 := Try.underlying160
  a39 := Try.isAgg160
  z39 := Try.sizeOf160
  v39 := Try.zeroValue160
  t45 := Try.underlying181
  a45 := Try.isAgg181
  z45 := Try.sizeOf181
  v45 := Try.zeroValue181
  t46 := Try.underlying182
  a46 := Try.isAgg182
  z46 := Try.sizeOf182
  v46 := Try.zeroValue182
  t50 := Try.underlying173
  a50 := Try.isAgg173
  z50 := Try.sizeOf173
  v50 := Try.zeroValue173
  t53 := Try.underlying41
  a53 := Try.isAgg41
  z53 := Try.sizeOf41
  v53 := Try.zeroValue41
  t55 := Try.underlying74
  a55 := Try.isAgg74
  z55 := Try.sizeOf74
  v55 := Try.zeroValue74
  t66 := Try.underlying206
  a66 := Try.isAgg206
  z66 := Try.sizeOf206
  v66 := Try.zeroValue206
  t70 := Try.underlying210
  a70 := Try.isAgg210
  z70 := Try.sizeOf210
  v70 := Try.zeroValue210
  t76 := Try.underlying218
  a76 := Try.isAgg218
  z76 := Try.sizeOf218
  v76 := Try.zeroValue218
  t77 := Try.underlying219
  a77 := Try.isAgg219
  z77 := Try.sizeOf219
  v77 := Try.zeroValue219 }
def Try.sortPt_ren : Go.Shelf.Ren := ⟨fun | 6 => 91 | 15 => 104 | 14 => 116 | 28 => 134 | 29 => 135 | 20 => 146 | 21 => 149 | 22 => 150 | 23 => 151 | 24 => 152 | 25 => 153 | 26 => 154 | 27 => 155 | 46 => 171 | 47 => 161 | 48 => 162 | 49 => 172 | 50 => 173 | 57 => 178 | n => n, fun | 22 => 22 | 24 => 54 | 25 => 133 | 3 => 3 | 39 => 160 | 0 => 0 | 53 => 41 | 55 => 74 | 4 => 4 | 46 => 182 | 45 => 181 | 50 => 173 | 5 => 5 | 9 => 9 | 66 => 206 | 70 => 210 | 76 => 218 | 77 => 219 | n => n, fun | n => n⟩
theorem Try.sortPt : Go.Proofs.SlLaysF0.n6 Try.prog Try.sortPt_ren := {
  mixed := by kernel_rfl
  f6 := ⟨Try.f91.name, by decide, Try.func91.trans (congrArg some (by kernel_rfl))⟩
  f14 := ⟨Try.f116.name, by decide, Try.func116.trans (congrArg some (by kernel_rfl))⟩
  f15 := Try.func104.trans (congrArg some (by kernel_rfl))
  f20 := ⟨Try.f146.name, by decide, Try.func146.trans (congrArg some (by kernel_rfl))⟩
  f21 := ⟨Try.f149.name, by decide, Try.func149.trans (congrArg some (by kernel_rfl))⟩
  f22 := ⟨Try.f150.name, by decide, Try.func150.trans (congrArg some (by kernel_rfl))⟩
  f23 := ⟨Try.f151.name, by decide, Try.func151.trans (congrArg some (by kernel_rfl))⟩
  f24 := ⟨Try.f152.name, by decide, Try.func152.trans (congrArg some (by kernel_rfl))⟩
  f25 := ⟨Try.f153.name, by decide, Try.func153.trans (congrArg some (by kernel_rfl))⟩
  f26 := ⟨Try.f154.name, by decide, Try.func154.trans (congrArg some (by kernel_rfl))⟩
  f27 := ⟨Try.f155.name, by decide, Try.func155.trans (congrArg some (by kernel_rfl))⟩
  f28 := Try.func134.trans (congrArg some (by kernel_rfl))
  f29 := Try.func135.trans (congrArg some (by kernel_rfl))
  f46 := ⟨Try.f171.name, by decide, Try.func171.trans (congrArg some (by kernel_rfl))⟩
  f47 := Try.func161.trans (congrArg some (by kernel_rfl))
  f48 := Try.func162.trans (congrArg some (by kernel_rfl))
  f49 := ⟨Try.f172.name, by decide, Try.func172.trans (congrArg some (by kernel_rfl))⟩
  f50 := ⟨Try.f173.name, by decide, Try.func173.trans (congrArg some (by kernel_rfl))⟩
  f57 := ⟨Try.f178.name, by decide, Try.func178.trans (congrArg some (by kernel_rfl))⟩
  t0 := Try.underlying0
  a0 := Try.isAgg0
  z0 := Try.sizeOf0
  v0 := Try.zeroValue0
  t3 := Try.underlying3
  a3 := Try.isAgg3
  z3 := Try.sizeOf3
  v3 := Try.zeroValue3
  t4 := Try.underlying4
  a4 := Try.isAgg4
  z4 := Try.sizeOf4
  v4 := Try.zeroValue4
  t5 := Try.underlying5
  a5 := Try.isAgg5
  z5 := Try.sizeOf5
  v5 := Try.zeroValue5
  t9 := Try.underlying9
  a9 := Try.isAgg9
  z9 := Try.sizeOf9
  v9 := Try.zeroValue9
  t22 := Try.underlying22
  a22 := Try.isAgg22
  z22 := Try.sizeOf22
  v22 := Try.zeroValue22
  t25 := Try.underlying133
  a25 := Try.isAgg133
  z25 := Try.sizeOf133
  v25 := Try.zeroValue133
  t39 := Try.underlying160
  a39 := Try.isAgg160
  z39 := Try.sizeOf160
  v39 := Try.zeroValue160
  t45 := Try.underlying181
  a45 := Try.isAgg181
  z45 := Try.sizeOf181
  v45 := Try.zeroValue181
  t46 := Try.underlying182
  a46 := Try.isAgg182
  z46 := Try.sizeOf182
  v46 := Try.zeroValue182
  t50 := Try.underlying173
  a50 := Try.isAgg173
  z50 := Try.sizeOf173
  v50 := Try.zeroValue173
  t53 := Try.underlying41
  a53 := Try.isAgg41
  z53 := Try.sizeOf41
  v53 := Try.zeroValue41
  t55 := Try.underlying74
  a55 := Try.isAgg74
  z55 := Try.sizeOf74
  v55 := Try.zeroValue74
  t66 := Try.underlying206
  a66 := Try.isAgg206
  z66 := Try.sizeOf206
  v66 := Try.zeroValue206
  t70 := Try.underlying210
  a70 := Try.isAgg210
  z70 := Try.sizeOf210
  v70 := Try.zeroValue210
  t76 := Try.underlying218
  a76 := Try.isAgg218
  z76 := Try.sizeOf218
  v76 := Try.zeroValue218
  t77 := Try.underlying219
  a77 := Try.isAgg219
  z77 := Try.sizeOf219
  v77 := Try.zeroValue219 }
end Go.Proofs

namespace Go.Proofs
open Go.Croft Go.RowKit

/-- cmp.Compare -/
def cmpI (a b : Int) : Int := if a < b then -1 else if b < a then 1 else 0

theorem isNaN_int (a : Int) (w : World) : Calls Try.prog 109 #[.int .i64 a] w fun e w' => e = .returned (.bool false) ∧ w' = w := by
  go_enter Try.func109, Try.ntmps109
  go_wp2
  go_ret
  exact ⟨rfl, rfl⟩
theorem isNaN_u64 (a : Int) (w : World) : Calls Try.prog 165 #[.int .u64 a] w fun e w' => e = .returned (.bool false) ∧ w' = w := by
  go_enter Try.func165, Try.ntmps165
  go_wp2
  go_ret
  exact ⟨rfl, rfl⟩
theorem compare_int (a b : Int) : Pure Try.prog 77 #[.int .i64 a, .int .i64 b] (.int .i64 (cmpI a b)) := .of_same fun w => by
  go_enter Try.func77, Try.ntmps77
  go_wp2_with ((with_reducible refine (isNaN_int _ _).mono ?_); rintro e w' ⟨rfl, rfl⟩)
  all_goals (go_ret; exact ⟨by simp [cmpI]; omega, rfl⟩)

theorem compare_u64 (a b : Int) : Pure Try.prog 136 #[.int .u64 a, .int .u64 b] (.int .i64 (cmpI a b)) := .of_same fun w => by
  go_enter Try.func136, Try.ntmps136
  go_wp2_with ((with_reducible refine (isNaN_u64 _ _).mono ?_); rintro e w' ⟨rfl, rfl⟩)
  all_goals (go_ret; exact ⟨by simp [cmpI]; omega, rfl⟩)

/-- cmp.Or -/
def orI : List Int → Int
  | [] => 0
  | x :: l => if x = 0 then orI l else x
theorem orI_drop (l : List Int) (k : Nat) (h : k < l.length) : orI (l.drop k) = if l[k] = 0 then orI (l.drop (k + 1)) else l[k] := by
  rw [List.drop_eq_getElem_cons h]; rfl
set_option maxHeartbeats 400000 in
theorem or_c (m : Mem) (w : World) (F : HP) (A : Option Addr) (cap : Nat) (l : List Int) (hR : SlR kInt m A cap l) (hS : St m w F) :
    Calls Try.prog 105 #[.slice A l.length cap] w fun e w' => e = .returned (.int .i64 (orI l)) ∧ w' = w := by
  have hlm := hR.len_max
  have HS := Lib.hid hS
  go_enter Try.func105, Try.ntmps105
  go_wp2
  go_loop [8] (fun i => ∃ k : Nat, k ≤ l.length ∧ i = .int .i64 k ∧ Hid (orI l = orI (l.drop k))) (fun i => l.length - (intOf i).toNat)
  case atStart => exact ⟨0, by omega, rfl, Lib.hid (by simp)⟩
  case round =>
    obtain ⟨k, hk, rfl, ho⟩ := hrel
    by_cases hlt : k < l.length
    · have hd := Lib.hid (orI_drop l k hlt)
      obtain ⟨b, off, rfl, hc⟩ := hR.at HS.out hlt
      have h0 := hc 0 _ rfl
      simp only [kInt, Nat.add_zero, Nat.mul_one] at h0
      clear hc
      by_cases hz : l[k] = 0
      · have hz' : (l[k] != 0) = false := by simp [hz]
        have hd' := Lib.hid (by rw [hd.out, if_pos hz] : orI (l.drop k) = orI (l.drop (k + 1)))
        clear hz hd
        go_wp2
        go_round
        case rel => exact ⟨k + 1, by omega, by go_num, Lib.hid (by rw [ho.out, hd'.out])⟩
        case measure => simp [intOf]; omega
      · have hz' : (l[k] != 0) = true := by simp [hz]
        have hd' := Lib.hid (by rw [hd.out, if_neg hz] : orI (l.drop k) = l[k])
        clear hz hd
        go_wp2
        go_ret
        exact ⟨(by rw [ho.out, hd'.out]; rfl), rfl⟩
    · go_wp2
      go_ret
      exact ⟨by rw [ho.out, List.drop_of_length_le (by omega)]; rfl, rfl⟩


theorem or_fresh (m : Mem) (w : World) (H : HP) (l : List Int) (cs : Array Value) (n : Nat) (hn : n = l.length) (hcs : cs = (l.map (Value.int .i64)).toArray) (hl : l.length ≤ maxLen) (hS : St m w H) :
    Calls Try.prog 105 #[.slice (some ⟨w.heap.size, 0, none⟩) n n] (w.alloc (.cells cs 3)) fun e w' => e = .returned (.int .i64 (orI l)) ∧ St m w' H := by
  subst hn hcs
  obtain ⟨m1, l1, b1, S1⟩ := hS.allocf (.cells (l.map (Value.int .i64)).toArray 3)
  refine (or_c m1 _ H _ l.length l (.inr ⟨_, 0, rfl, Nat.le_refl _, hl, fun hpos => ⟨_, _, _, b1, by simp [kInt], ?_⟩⟩) S1).mono ?_
  · unfold Holds
    simp only [kInt, List.drop_zero, Nat.mul_one]
    have : l.flatMap (fun x => [Value.int .i64 x]) = l.map (Value.int .i64) := by clear hS hl b1 S1 hpos; induction l <;> simp_all
    rw [this, List.take_of_length_le (by simp)]
  · rintro e w' ⟨rfl, rfl⟩; exact ⟨rfl, (hS.alloc _).drop⟩

structure Dist where
  hi : Int
  lo : Int
deriving DecidableEq
@[go_sem] def Dist.v (d : Dist) : Value := .agg #[.int .u64 d.hi, .int .u64 d.lo]
def cmpD (a b : Dist) : Int := orI [cmpI a.hi b.hi, cmpI a.lo b.lo]
set_option maxHeartbeats 400000 in
theorem wideCmp_p (a b : Dist) : Pure Try.prog 106 #[a.v, b.v] (.int .i64 (cmpD a b)) := by
  intro m w H hS
  unfold Dist.v
  go_enter Try.func106, Try.ntmps106
  go_wp2
  obtain ⟨m1, l1, b1, S1⟩ := hS.allocf (.cells #[.int .u64 a.hi, .int .u64 a.lo] 76)
  obtain ⟨m2, l2, b2, S2⟩ := S1.allocf (.cells #[.int .u64 b.hi, .int .u64 b.lo] 76)
  replace b1 := l2.blk _ _ b1
  simp only [World.size_alloc] at b2
  generalize (w.alloc (.cells #[.int .u64 a.hi, .int .u64 a.lo] 76)).alloc (.cells #[.int .u64 b.hi, .int .u64 b.lo] 76) = W at *
  generalize w.heap.size = g at *
  have hold : ∀ W', St m2 W' H → St m2 W' H ∧ W'.cell? ⟨g, 0, none⟩ = some (.int .u64 a.hi) ∧ W'.cell? ⟨g, 1, none⟩ = some (.int .u64 a.lo) ∧ W'.cell? ⟨g + 1, 0, none⟩ = some (.int .u64 b.hi) ∧ W'.cell? ⟨g + 1, 1, none⟩ = some (.int .u64 b.lo) :=
    fun W' h => ⟨h, h.cellM b1 0, h.cellM b1 1, h.cellM b2 0, h.cellM b2 1⟩
  have HOLD := Lib.hid hold
  have HL := Lib.hid (l1.trans l2)
  clear b1 b2 l1 l2 S1 hS hold
  have hs0 := HOLD.out _ S2
  go_region_held3 (fun W' => St m2 W' H ∧ W'.cell? ⟨g, 0, none⟩ = some (.int .u64 a.hi) ∧ W'.cell? ⟨g, 1, none⟩ = some (.int .u64 a.lo) ∧ W'.cell? ⟨g + 1, 0, none⟩ = some (.int .u64 b.hi) ∧ W'.cell? ⟨g + 1, 1, none⟩ = some (.int .u64 b.lo)) (exact HOLD.out _ (by first | assumption | exact And.left (by assumption) | exact St.drew (by assumption) | exact St.drewN (by assumption) _ | exact (St.alloc (by assumption) _).drop | exact (St.alloc (And.left (by assumption)) _).drop))
    (first
      | (go_at_call 136; refine (compare_u64 _ _ m2 _ H (by exact And.left (by assumption))).mono ?_; rintro e w' ⟨rfl, hS'⟩)
      | (go_at_call 105; refine (or_fresh m2 _ H [cmpI a.hi b.hi, cmpI a.lo b.lo] _ 2 rfl rfl (by simp [maxLen]) (by assumption)).mono ?_; rintro e w' ⟨rfl, hS'⟩))
  go_wp2
  go_ret
  exact ⟨rfl, St.weak (by first | assumption | exact And.left (by assumption)) HL.out⟩


theorem gap_p (a b : Int) (ha : 0 ≤ a ∧ a < 4294967296) (hb : 0 ≤ b ∧ b < 4294967296) : Pure Try.prog 102 #[.int .u32 a, .int .u32 b] (.int .u32 (max a b - min a b)) := .of_same fun w => by
  obtain ⟨h1, h2⟩ := ha
  obtain ⟨h3, h4⟩ := hb
  go_enter Try.func102, Try.ntmps102
  go_wp2
  all_goals (go_ret; exact ⟨ret_int (by omega), rfl⟩)

def two64 : Nat := 18446744073709551616
def Dist.of (n : Nat) : Dist := ⟨(n / two64 : Nat), (n % two64 : Nat)⟩
theorem square_p (n : Nat) (h : n < 4294967296) : Pure Try.prog 101 #[.int .u32 n] (Dist.of (n * n)).v := by
  intro m w H hS
  have HM := @Try.bits_Mul64 n n (by omega) (by omega)
  unfold Dist.of Dist.v two64
  go_enter Try.func101, Try.ntmps101
  go_wp2_with ((with_reducible refine (HM _).mono ?_); rintro e w' ⟨rfl, rfl⟩)
  exact bodyPost_ret (v := .agg #[.int .u64 ((n * n / 18446744073709551616 : Nat) : Int), .int .u64 ((n * n % 18446744073709551616 : Nat) : Int)]) (by simp [results, Try.results101, go_sem]) rfl ⟨rfl, (by first | assumption | exact And.left (by assumption) | exact St.drew (by assumption) | exact St.drewN (by assumption) _ | exact (St.alloc (by assumption) _).drop | exact (St.alloc (And.left (by assumption)) _).drop)⟩


theorem add64 (x y c : Int) (hx : 0 ≤ x) (hy : 0 ≤ y) (hc0 : 0 ≤ c) (hc : c ≤ 1) (w : World) : (callFunc 159 #[.int .u64 x, .int .u64 y, .int .u64 c]).run Try.prog w =
    .ok (.value (.tuple #[.int .u64 ((x + y + c) % 18446744073709551616), .int .u64 ((x + y + c) / 18446744073709551616)])) w := by
  rw [run_callFunc_extern Try.func159 (by kernel_rfl) (by kernel_rfl) (by kernel_rfl) (e := add64Entry) (by kernel_rfl), run_add64 x y c hx hy hc0 hc]
  rfl
theorem add64_0 (x y : Int) (hx : 0 ≤ x) (hy : 0 ≤ y) (w : World) : (callFunc 159 #[.int .u64 x, .int .u64 y, .int .u64 0]).run Try.prog w =
    .ok (.value (.tuple #[.int .u64 ((x + y) % 18446744073709551616), .int .u64 ((x + y) / 18446744073709551616)])) w := by
  simpa using add64 x y 0 hx hy (Int.le_refl 0) (by decide) w
def Dist.ok (d : Dist) : Prop := 0 ≤ d.hi ∧ d.hi < 18446744073709551616 ∧ 0 ≤ d.lo ∧ d.lo < 18446744073709551616
def addD (a b : Dist) : Dist := ⟨(a.hi + b.hi + (a.lo + b.lo) / 18446744073709551616) % 18446744073709551616, (a.lo + b.lo) % 18446744073709551616⟩
set_option maxRecDepth 100000 in
set_option maxHeartbeats 400000 in
theorem add_p (a b : Dist) (ha : a.ok) (hb : b.ok) : Pure Try.prog 124 #[a.v, b.v] (addD a b).v := by
  intro m w H hS
  obtain ⟨a1, a2, a3, a4⟩ := ha
  obtain ⟨b1, b2, b3, b4⟩ := hb
  have k0 : 0 ≤ (a.lo + b.lo) / 18446744073709551616 := by omega
  have k1 : (a.lo + b.lo) / 18446744073709551616 ≤ 1 := by omega
  have e1 := add64_0 a.lo b.lo a3 b3
  have e2 := add64 a.hi b.hi _ a1 b1 k0 k1
  clear k0 k1 a1 a2 a3 a4 b1 b2 b3 b4
  unfold Dist.v addD
  go_enter Try.func124, Try.ntmps124
  go_wp2_with (first | simp only [e1] | simp only [e2])
  simp [bodyPost, results, Try.results124, go_sem]
  exact (((hS.alloc _).drop.alloc _).drop.alloc _).drop

def kDist : Kd Dist where
  K := 2
  ty := 76
  bytes := 16
  enc x := [.int .u64 x.hi, .int .u64 x.lo]
  len _ := rfl
  one := by intro x v h; simp at h; rcases h with rfl | rfl <;> rfl
  pos := by decide
theorem kDist_ok : KdOk Try.prog kDist := .of (by kernel_rfl) (by decide)
theorem addD_ok (a b : Dist) : (addD a b).ok := ⟨Int.emod_nonneg _ (by decide), Int.emod_lt_of_pos _ (by decide), Int.emod_nonneg _ (by decide), Int.emod_lt_of_pos _ (by decide)⟩
def sumD (l : List Dist) : Dist := l.foldl addD ⟨0, 0⟩
theorem sumD_snoc (l : List Dist) (k : Nat) (h : k < l.length) : sumD (l.take (k + 1)) = addD (sumD (l.take k)) l[k] := by
  unfold sumD; rw [List.take_succ_eq_append_getElem h, List.foldl_append]; rfl
theorem sumD_ok (l : List Dist) : (sumD l).ok := by
  rcases List.eq_nil_or_concat l with rfl | ⟨l', x, rfl⟩
  · exact ⟨by decide, by decide, by decide, by decide⟩
  · unfold sumD; rw [List.concat_eq_append, List.foldl_append]; exact addD_ok _ _

set_option maxRecDepth 100000 in
set_option maxHeartbeats 400000 in
theorem sum_c (m : Mem) (w : World) (F : HP) (A : Option Addr) (cap : Nat) (l : List Dist) (hl : ∀ d ∈ l, d.ok) (hR : SlR kDist m A cap l) (hS : St m w F) :
    Calls Try.prog 100 #[.slice A l.length cap] w fun e w' => e = .returned (sumD l).v ∧ St m w' F := by
  have hlm := hR.len_max
  have HS := Lib.hid hS
  clear hS
  go_enter Try.func100, Try.ntmps100
  go_wp2
  have S1 := HS.out.alloc (.cells #[.int .u64 0, .int .u64 0] 76)
  have S2 := S1.alloc (.cells #[.int .u64 0, .int .u64 0] 76)
  simp only [World.size_alloc] at S2
  generalize (w.alloc (.cells #[.int .u64 0, .int .u64 0] 76)).alloc (.cells #[.int .u64 0, .int .u64 0] 76) = W at *
  generalize w.heap.size = g at *
  clear S1 HS
  go_loopw [8] (fun i wr => ∃ k : Nat, k ≤ l.length ∧ i = .int .i64 k ∧ St m wr (star (pt (g + 1) (.cells #[.int .u64 (sumD (l.take k)).hi, .int .u64 (sumD (l.take k)).lo] 76 (0, 0))) (star (pt g (.cells #[.int .u64 0, .int .u64 0] 76 (0, 0))) F))) (fun i _ => l.length - (intOf i).toNat)
  case atStart => exact ⟨0, by omega, rfl, S2⟩
  case round =>
    obtain ⟨k, hk, rfl, hSr⟩ := hrel
    have c0 : wr.cell? ⟨g + 1, 0, none⟩ = some (.int .u64 (sumD (l.take k)).hi) := hSr.cell
    have c1 : wr.cell? ⟨g + 1, 1, none⟩ = some (.int .u64 (sumD (l.take k)).lo) := hSr.cell
    have f0 : ∀ j, wr.frozen? ⟨g + 1, j, none⟩ = false := fun j => hSr.free
    have hg1 : g + 1 < wr.heap.size := hSr.lt
    have hg0 : g < wr.heap.size := hSr.drop.lt
    by_cases hlt : k < l.length
    · have hsn := Lib.hid (sumD_snoc l k hlt)
      have hok := Lib.hid (sumD_ok (l.take k))
      have hok2 := Lib.hid (hl _ (List.getElem_mem hlt))
      obtain ⟨b, off, rfl, hc⟩ := hR.at hSr hlt
      have h0 := hc 0 _ rfl
      have h1 := hc 1 _ rfl
      simp only [kDist, Nat.add_zero] at h0 h1
      clear hc
      have hSb := Lib.hid hSr
      go_wp2_with (go_at_call 124; refine (add_p _ _ hok.out hok2.out _ _ _ (hSb.out.alloc _)).mono ?_; rintro e w1 ⟨rfl, hS1⟩; (have hS2 := hS1.drop); clear hS1 h0 h1 c0 c1 f0 hg1 hg0 hSr; (have f0 : ∀ j, w1.frozen? ⟨g + 1, j, none⟩ = false := fun j => hS2.free); (have c0 : w1.cell? ⟨g + 1, 0, none⟩ = some (.int .u64 (sumD (l.take k)).hi) := hS2.cell); (have c1 : w1.cell? ⟨g + 1, 1, none⟩ = some (.int .u64 (sumD (l.take k)).lo) := hS2.cell))
      refine ⟨⟨k + 1, by omega, by go_num, ?_⟩, by simp [intOf]; omega⟩
      have h3 := (hS2.setCell (i := 0) (.int .u64 (addD (sumD (l.take k)) l[k]).hi)).setCell (i := 1) (.int .u64 (addD (sumD (l.take k)) l[k]).lo)
      rw [hsn.out]
      simpa using h3
    · obtain rfl : k = l.length := by omega
      have hSb := Lib.hid hSr
      have d0 : wr.cell? ⟨g, 0, none⟩ = some (.int .u64 0) := hSr.drop.cell
      have d1 : wr.cell? ⟨g, 1, none⟩ = some (.int .u64 0) := hSr.drop.cell
      have f1 : ∀ j, wr.frozen? ⟨g, j, none⟩ = false := fun j => hSr.drop.free
      have h3 := Lib.hid ((hSr.drop.setCell (i := 0) (.int .u64 (sumD (l.take l.length)).hi)).setCell (i := 1) (.int .u64 (sumD (l.take l.length)).lo))
      clear hSr
      go_wp2_with fail
      rw [List.take_length] at h3
      exact ret_cell rfl rfl h3.out.at (by kernel_rfl) (by kernel_rfl) rfl ⟨rfl, h3.out.drop⟩

def gapN (a b : Nat) : Nat := max a b - min a b
def distN (x0 y0 x1 y1 : Nat) : Nat := gapN x0 x1 * gapN x0 x1 + gapN y0 y1 * gapN y0 y1
theorem sumD_two (a b : Nat) (ha : a < 18446744073709551616) (hb : b < 18446744073709551616) : sumD [Dist.of a, Dist.of b] = Dist.of (a + b) := by
  simp only [sumD, List.foldl_cons, List.foldl_nil, addD, Dist.of, two64, Dist.mk.injEq]
  omega
theorem Dist.of_ok (n : Nat) (h : n < 340282366920938463463374607431768211456) : (Dist.of n).ok := by
  simp only [Dist.ok, Dist.of, two64]; omega
theorem gapN_lt {a b : Nat} (ha : a < 4294967296) (hb : b < 4294967296) : gapN a b < 4294967296 := by unfold gapN; omega
theorem sq_lt {a : Nat} (ha : a < 4294967296) : a * a < 18446744073709551616 := by
  have : a * a ≤ 4294967295 * 4294967295 := Nat.mul_le_mul (by omega) (by omega)
  omega
theorem gap_pN (a b : Nat) (ha : a < 4294967296) (hb : b < 4294967296) : Pure Try.prog 102 #[.int .u32 a, .int .u32 b] (.int .u32 (gapN a b)) := by
  have h := gap_p a b (by omega) (by omega)
  rwa [show max (a : Int) b - min (a : Int) b = (gapN a b : Nat) by unfold gapN; omega] at h
set_option maxRecDepth 100000 in
set_option maxHeartbeats 400000 in
theorem between_p (x0 y0 x1 y1 : Nat) (h1 : x0 < 4294967296) (h2 : y0 < 4294967296) (h3 : x1 < 4294967296) (h4 : y1 < 4294967296) :
    Pure Try.prog 69 #[.int .u32 x0, .int .u32 y0, .int .u32 x1, .int .u32 y1] (Dist.of (distN x0 y0 x1 y1)).v := by
  intro m w H hS
  have g1 := gapN_lt h1 h3
  have g2 := gapN_lt h2 h4
  have G1 := Lib.hid (gap_pN x0 x1 h1 h3)
  have G2 := Lib.hid (gap_pN y0 y1 h2 h4)
  have Q1 := Lib.hid (square_p (gapN x0 x1) g1)
  have Q2 := Lib.hid (square_p (gapN y0 y1) g2)
  have hd := sumD_two _ _ (sq_lt g1) (sq_lt g2)
  have ho1 := Dist.of_ok (gapN x0 x1 * gapN x0 x1) (by have := sq_lt g1; omega)
  have ho2 := Dist.of_ok (gapN y0 y1 * gapN y0 y1) (by have := sq_lt g2; omega)
  unfold distN
  rw [← hd]
  generalize gapN x0 x1 = a at *
  generalize gapN y0 y1 = b at *
  have Q1' : Hid (Pure Try.prog 101 #[.int .u32 a] (.agg #[.int .u64 (Dist.of (a * a)).hi, .int .u64 (Dist.of (a * a)).lo])) := Q1.out
  have Q2' : Hid (Pure Try.prog 101 #[.int .u32 b] (.agg #[.int .u64 (Dist.of (b * b)).hi, .int .u64 (Dist.of (b * b)).lo])) := Q2.out
  generalize Dist.of (a * a) = da at *
  generalize Dist.of (b * b) = db at *
  clear g1 g2 hd Q1 Q2
  have HO1 := Lib.hid ho1
  have HO2 := Lib.hid ho2
  clear ho1 ho2 h1 h2 h3 h4
  go_enter Try.func69, Try.ntmps69
  go_wp2_with fail
  have S0 := hS.alloc (.cells #[.int .u64 0, .int .u64 0] 76)
  generalize w.alloc (.cells #[.int .u64 0, .int .u64 0] 76) = W at *
  generalize w.heap.size = g at *
  clear hS
  refine (G1.out.at S0).mono ?_; rintro e w1 ⟨rfl, S1⟩; clear S0
  go_wp2_with fail
  refine (Q1'.out.at S1).mono ?_; rintro e w2 ⟨rfl, S2⟩; clear S1
  go_wp2_with fail
  refine (G2.out.at S2).mono ?_; rintro e w3 ⟨rfl, S3⟩; clear S2
  go_wp2_with fail
  refine (Q2'.out.at S3).mono ?_; rintro e w4 ⟨rfl, S4⟩; clear S3
  go_wp2_with fail
  obtain ⟨m1, l1, S5, R5⟩ := SlR.fresh (k := kDist) [da, db] S4 _ rfl (by simp)
  refine (sum_c m1 _ _ _ _ [da, db] (by intro d hd; simp at hd; rcases hd with rfl | rfl; exact HO1.out; exact HO2.out) R5 S5).mono ?_; rintro e w5 ⟨rfl, S6⟩
  have L1 := Lib.hid l1
  clear S4 S5 R5 l1
  have c0 : w5.cell? ⟨g, 0, none⟩ = some (.int .u64 0) := S6.cell
  have c1 : w5.cell? ⟨g, 1, none⟩ = some (.int .u64 0) := S6.cell
  have f1 : ∀ j, w5.frozen? ⟨g, j, none⟩ = false := fun j => S6.free
  have h3 := Lib.hid ((S6.setCell (i := 0) (.int .u64 (sumD [da, db]).hi)).setCell (i := 1) (.int .u64 (sumD [da, db]).lo))
  clear S6
  go_wp2_with fail
  exact ret_cell rfl rfl h3.out.at (by kernel_rfl) (by kernel_rfl) rfl ⟨rfl, h3.out.drop.weak L1.out⟩
end Go.Proofs

namespace Go.Croft
open Go Go.RowKit Go.Proofs

/-- api.Point -/
structure Pnt where
  id : Int
  x : Nat
  y : Nat
  data : ByteArray
deriving DecidableEq
instance : Inhabited Pnt := ⟨⟨0, 0, 0, ⟨#[]⟩⟩⟩
structure Pnt.ok (p : Pnt) : Prop where
  id0 : -9223372036854775808 ≤ p.id
  id1 : p.id ≤ 9223372036854775807
  x : p.x < 4294967296
  y : p.y < 4294967296
  data : p.data.size ≤ 9223372036854775807
def kPt : Kd Pnt where
  K := 4
  ty := 54
  bytes := 32
  enc p := [.int .i64 p.id, .int .u32 p.x, .int .u32 p.y, .string p.data]
  len _ := rfl
  one := by intro x v h; simp at h; rcases h with rfl | rfl | rfl | rfl <;> rfl
  pos := by decide
theorem kPt_ok : KdOk Go.Proofs.Try.prog kPt := .of (by kernel_rfl) (by decide)
@[go_sem] def Pnt.v (p : Pnt) : Value := .agg #[.int .i64 p.id, .int .u32 p.x, .int .u32 p.y, .string p.data]
end Go.Croft

namespace Go.Croft
open Go Go.RowKit Go.Proofs Go.Deep Go.WideShapes Go.ChangeShapes

/-- all of a world's memory, as it is when a law is called -/
def Mem.of (w : World) : Mem := ⟨w.os, w.tape, w.output, w.drawn, fun b => w.heap[b]?⟩
theorem St.of (w : World) : St (.of w) w emp := ⟨rfl, rfl, rfl, Nat.le_refl _, fun _ _ h => h, fun _ => none, by simp, fun _ => rfl⟩
theorem below_of {w w' : World} {m : Mem} {H : HP} (hm : (Mem.of w).le m) (h : St m w' H) : Below w.heap.size w w' := by
  have hb : ∀ k, k < w.heap.size → w'.heap[k]? = w.heap[k]? := fun k hk => by
    have e : w.heap[k]? = some w.heap[k] := Array.getElem?_eq_getElem hk
    rw [e]; exact h.mem k _ (hm.blk k _ e)
  refine ⟨h.os.trans hm.os, h.tape.trans hm.tape, h.output.trans hm.output, ?_, hb⟩
  by_cases h0 : w.heap.size = 0
  · omega
  · have := hb (w.heap.size - 1) (by omega)
    rw [show w.heap[w.heap.size - 1]? = some _ from Array.getElem?_eq_getElem (by omega)] at this
    have := (Array.getElem?_eq_some_iff.1 this).1
    omega

section
variable {H : Type} {enc : TypeId × Value → H} {P : Program}
/-- a law's end: its one result, its arguments as they read before, nothing older turned -/
theorem post_of_below {f : Func} {s : ChangeSpec} {apart fresh handsOn : Bool} {W W' : World} {args : Array Value} {v : Value} {ds gs : List (DataW H)} {before : List MemPlace}
    (hW : DataW.Whole enc P f.params.toList s.vars apart W args.toList ds gs before)
    (hres : ∀ (b : Nat) (sp : Nat → Bool) (hd : Bool), DataW.TrodAll enc P W' b sp hd f.resultTypes.toList (v.resultList f.resultTypes.size) (s.fn H (ds ++ gs)).results [])
    (hargs : DataW.TrodAll enc P W' 0 (fun b => decide (b < W.heap.size)) true f.params.toList args.toList (s.fn H (ds ++ gs)).args before)
    (hvars : DataW.TrodVars enc P W' (fun b => decide (b < W.heap.size)) s.vars (s.fn H (ds ++ gs)).vars []) (hb : Below W.heap.size W W') :
    s.post enc P f apart fresh handsOn false W args v W' :=
  ⟨ds, gs, before, [], before, [], hW, hres _ _ _, hargs, hvars, World.keptBut_mono (fun _ hp => ⟨hp, Or.inr (Or.inl hp)⟩) (hb.frame _), fun h => by cases h⟩

theorem addr_add (b off n : Nat) : (Addr.mk b off none).add n = ⟨b, off + n, none⟩ := by
  unfold Addr.add; split <;> simp_all
theorem slR_of_trod {α : Type} {k : Kd α} {ok : α → Prop} {t e : TypeId} {W : World} {v : Value} {d : DataW H} {p : List MemPlace} {base : Nat} (ht : P.underlying t = some (.slice e)) (hK : P.cellsOf e = k.K)
    (dec : ∀ n cs y, DataW.trod enc P W 0 (fun _ => true) true n e cs = some y → ∃ x : α, cs = k.enc x ∧ ok x)
    (hval : Value.okWide P W .any base t v) (h : DataW.Trod enc P W 0 (fun _ => true) true t v d p) : ∃ A cap l, v = .slice A l.length cap ∧ SlR k (.of W) A cap l ∧ ∀ x ∈ l, ok x := by
  obtain ⟨A, len, cap, rfl⟩ := okWide_slice ht hval
  obtain ⟨fuel, hf⟩ := h
  rcases open_slice ht hf with ⟨h0, _⟩ | ⟨a, len', cap', m, n, D, Pl, h0, hb, hl, hm, hmm, hx, hel⟩
  · simp [Value.cells] at h0
    obtain ⟨rfl, rfl, rfl⟩ := h0
    exact ⟨none, 0, [], rfl, SlR.nil _ _, by simp⟩
  · simp [Value.cells] at h0
    obtain ⟨rfl, rfl, rfl⟩ := h0
    simp at hmm
    subst hmm
    have hsp : a.spot = none := by
      simp only [Value.okWide, ht, Cell.okWide, Cell.ok, World.has] at hval
      exact hval.2.2.2.1
    obtain ⟨b, off, sp⟩ := a
    cases hsp
    rw [hK] at hel
    have each : ∀ i, i < m → ∃ x : α, ok x ∧ ∀ j, j < k.K → W.cell? ⟨b, off + i * k.K + j, none⟩ = (k.enc x)[j]? := fun i hi => by
      obtain ⟨cs', h1, h2⟩ := hel i hi
      obtain ⟨x, rfl, hx⟩ := dec _ _ _ h2
      refine ⟨x, hx, fun j hj => ?_⟩
      have := (World.cells?_some h1).2.2 j hj
      rw [← this, addr_add, addr_add]
    let X : Fin m → α := fun i => Classical.choose (each i.1 i.2)
    have hX : ∀ i : Fin m, ok (X i) ∧ ∀ j, j < k.K → W.cell? ⟨b, off + i.1 * k.K + j, none⟩ = (k.enc (X i))[j]? := fun i => Classical.choose_spec (each i.1 i.2)
    have hlen : (List.ofFn fun i : Fin len => X ⟨i.1, Nat.lt_of_lt_of_le i.2 hl⟩).length = len := by simp
    refine ⟨some ⟨b, off, none⟩, m, List.ofFn fun i : Fin len => X ⟨i.1, Nat.lt_of_lt_of_le i.2 hl⟩, by rw [hlen], .inr ⟨b, off, rfl, by rw [hlen]; exact hl, hm, fun hc => ?_⟩, fun x hx => ?_⟩
    · have hKp := k.pos
      have cell : ∀ i (hi : i < m) j, j < k.K → ∃ cs ty fr, W.heap[b]? = some (.cells cs ty fr) ∧ cs[off + i * k.K + j]? = (k.enc (X ⟨i, hi⟩))[j]? := fun i hi j hj => by
        have h1 := (hX ⟨i, hi⟩).2 j hj
        have h2 : (k.enc (X ⟨i, hi⟩))[j]? ≠ none := by
          rw [Ne, List.getElem?_eq_none_iff, k.len]; omega
        unfold World.cell? at h1
        simp only [Option.isSome_none, Bool.false_eq_true, if_false] at h1
        split at h1
        · rename_i c ty fr he
          exact ⟨c, ty, fr, he, h1⟩
        · exact absurd h1.symm h2
      obtain ⟨cs, ty, fr, hbk, _⟩ := cell 0 hc 0 hKp
      have cell' : ∀ i (hi : i < m) j, j < k.K → cs[off + i * k.K + j]? = (k.enc (X ⟨i, hi⟩))[j]? := fun i hi j hj => by
        obtain ⟨cs2, _, _, e2, h⟩ := cell i hi j hj
        rw [hbk] at e2; cases e2; exact h
      have hsz : off + m * k.K ≤ cs.size := by
        have h1 := cell' (m - 1) (by omega) (k.K - 1) (by omega)
        have h2 : (k.enc (X ⟨m - 1, by omega⟩))[k.K - 1]? ≠ none := by
          rw [Ne, List.getElem?_eq_none_iff, k.len]; omega
        rw [← h1, Ne, Array.getElem?_eq_none_iff] at h2
        have : (m - 1) * k.K + k.K = m * k.K := by
          have : (m - 1 + 1) * k.K = m * k.K := by congr 1; omega
          rw [Nat.add_mul, Nat.one_mul] at this; exact this
        omega
      refine ⟨cs, ty, fr, hbk, hsz, Holds.of_get ?_ ?_⟩
      · rw [hlen]; have := Nat.mul_le_mul_right k.K hl; omega
      · intro i j hi hj
        rw [hlen] at hi
        rw [cell' i (by omega) j hj]; simp
    · obtain ⟨i, rfl⟩ := (List.mem_ofFn).1 hx
      exact (hX _).1
end

set_option maxRecDepth 100000 in
theorem pnt_of_trod {H : Type} {enc : TypeId × Value → H} {W : World} (n : Nat) (cs : List Value) (y : DataW H × List MemPlace) (h : DataW.trod enc Try.prog W 0 (fun _ => true) true n 54 cs = some y) : ∃ x : Pnt, cs = kPt.enc x ∧ x.ok := by
  obtain ⟨xs, n, rfl, _, hl, hx, hf⟩ := DataW.trod_struct Try.underlying54 h
  have hl4 : cs.length = 4 := hl
  match cs, hl4 with
  | [c0, c1, c2, c3], _ =>
    have k3 : Try.prog.cellsOf 3 = 1 := by kernel_rfl
    have k41 : Try.prog.cellsOf 41 = 1 := by kernel_rfl
    have k9 : Try.prog.cellsOf 9 = 1 := by kernel_rfl
    have hx4 : xs.length = 4 := hx
    match xs, hx4 with
    | [x0, x1, x2, x3], _ =>
      have f0 := hf 0 _ rfl
      have f1 := hf 1 _ rfl
      have f2 := hf 2 _ rfl
      have f3 := hf 3 _ rfl
      simp [k3] at f0
      simp [k41] at f1 f2
      simp [k9] at f3
      obtain ⟨a, ha, _, wa⟩ := DataW.trod_int Try.underlying3 f0
      obtain ⟨b, hb, _, wb⟩ := DataW.trod_int Try.underlying41 f1
      obtain ⟨c, hc, _, wc⟩ := DataW.trod_int Try.underlying41 f2
      obtain ⟨d, hd, _, wd⟩ := DataW.trod_string Try.underlying9 f3
      simp at ha hb hc hd
      subst ha hb hc hd
      simp [Lit.wf, IntKind.min, IntKind.max, IntKind.signed, IntKind.bits] at wa wb wc
      simp only [maxLen] at wd
      refine ⟨⟨a, b.toNat, c.toNat, d⟩, ?_, ⟨wa.1, wa.2, ?_, ?_, wd⟩⟩
      · simp only [kPt]
        rw [Int.toNat_of_nonneg (by omega), Int.toNat_of_nonneg (by omega)]
      · show b.toNat < _; omega
      · show c.toNat < _; omega

end Go.Croft

namespace Go.Croft
open Go Go.RowKit Go.Proofs Go.Deep Go.WideShapes Go.ChangeShapes

set_option maxRecDepth 100000 in
/-- an api.Rect that comes in -/
theorem rect_of_trod {H : Type} {enc : TypeId × Value → H} {W : World} {v : Value} {d : DataW H} {p : List MemPlace} {base : Nat} (hval : Value.okWide Try.prog W .any base 43 v) (h : DataW.Trod enc Try.prog W 0 (fun _ => true) true 43 v d p) :
    ∃ x0 y0 x1 y1 : Nat, v = .agg #[.int .u32 x0, .int .u32 y0, .int .u32 x1, .int .u32 y1] ∧ x0 < 4294967296 ∧ y0 < 4294967296 ∧ x1 < 4294967296 ∧ y1 < 4294967296 := by
  have hu := Try.underlying43
  unfold Value.okWide at hval
  rw [hu] at hval
  obtain ⟨cs, rfl, hcs, _⟩ := hval
  obtain ⟨fuel, hf⟩ := h
  obtain ⟨xs, n, rfl, _, hl, hx, hfl⟩ := DataW.trod_struct hu hf
  have k41 : Try.prog.cellsOf 41 = 1 := by kernel_rfl
  simp only [Value.cells] at hl hfl
  have hl4 : cs.toList.length = 4 := hl
  obtain ⟨l⟩ := cs
  match l, hl4 with
  | [c0, c1, c2, c3], _ =>
    have hx4 : xs.length = 4 := hx
    match xs, hx4 with
    | [z0, z1, z2, z3], _ =>
      have f0 := hfl 0 _ rfl
      have f1 := hfl 1 _ rfl
      have f2 := hfl 2 _ rfl
      have f3 := hfl 3 _ rfl
      simp [k41] at f0 f1 f2 f3
      obtain ⟨a, ha, _, wa⟩ := DataW.trod_int Try.underlying41 f0
      obtain ⟨b, hb, _, wb⟩ := DataW.trod_int Try.underlying41 f1
      obtain ⟨c, hc, _, wc⟩ := DataW.trod_int Try.underlying41 f2
      obtain ⟨e, he, _, we⟩ := DataW.trod_int Try.underlying41 f3
      simp at ha hb hc he
      subst ha hb hc he
      simp [Lit.wf, IntKind.min, IntKind.max, IntKind.signed, IntKind.bits] at wa wb wc we
      refine ⟨a.toNat, b.toNat, c.toNat, e.toNat, ?_, by omega, by omega, by omega, by omega⟩
      rw [Int.toNat_of_nonneg (by omega), Int.toNat_of_nonneg (by omega), Int.toNat_of_nonneg (by omega), Int.toNat_of_nonneg (by omega)]
end Go.Croft
