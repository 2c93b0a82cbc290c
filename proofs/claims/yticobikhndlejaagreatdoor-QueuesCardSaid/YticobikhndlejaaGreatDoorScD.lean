/-
  DERIVED: THE SHELF's CONTRACTS AT THIS DUMP, IN PLAIN WORDS (tools/lay-plain.mjs out of 'TryzShelf.lean', which tools/lay-shelf.mjs wrote): THE SAME DECLARATIONS UNDER THE SAME NAMES: 'import', 'namespace', 'open', 'def', 'theorem' AND NOTHING ELSE: no command of the shelf's: FOR A HAND-IN. Each laying: the table of numbers ('.._ren') and one theorem, a field a fact of the dump's own or the kernel's comparison; each contract: ONE APPLICATION.
-/
import Derived.Shelf.Small.Bits
import Derived.Shelf.Strconv.Itoa0
import Derived.Shelf.Sort.Plain
import Derived.Ground.Names2Prog
import Derived.Shelf.Slices.Clone
import Derived.Shelf.Slices.In.SortNone
import Derived.Shelf.SlSortCmp.NoneTotal
import Derived.Ground.SlsfProg
import Derived.Test.YticobikhndlejaaGreatDoorProg
import Derived.Test.YticobikhndlejaaGreatDoorScC
import Derived.Lib.RowBridge
import Derived.Lib.SortBridge
import Derived.Deep.LoopGhost
namespace Go.Proofs
open Go.Shelf
def Tryz.sortL_ren : Go.Shelf.Ren := ⟨fun | 6 => 119 | 15 => 123 | 14 => 130 | 28 => 140 | 29 => 141 | 20 => 143 | 21 => 144 | 22 => 145 | 23 => 146 | 24 => 147 | 25 => 148 | 26 => 149 | 27 => 150 | 46 => 157 | 47 => 152 | 48 => 153 | 49 => 158 | 50 => 159 | 57 => 161 | n => n, fun | 22 => 90 | 24 => 97 | 25 => 188 | 3 => 3 | 39 => 220 | 0 => 0 | 53 => 239 | 55 => 241 | 4 => 4 | 46 => 231 | 45 => 230 | 50 => 236 | 5 => 5 | 9 => 9 | 66 => 247 | 70 => 251 | 76 => 255 | 77 => 256 | n => n, fun | n => n⟩
theorem Tryz.sortL : Go.Proofs.SlLaysF.n6 Tryz.prog Tryz.sortL_ren := {
  mixed := by kernel_rfl
  f6 := ⟨Tryz.f119.name, by decide, Tryz.func119.trans (congrArg some (by kernel_rfl))⟩
  f14 := ⟨Tryz.f130.name, by decide, Tryz.func130.trans (congrArg some (by kernel_rfl))⟩
  f15 := Tryz.func123.trans (congrArg some (by kernel_rfl))
  f20 := ⟨Tryz.f143.name, by decide, Tryz.func143.trans (congrArg some (by kernel_rfl))⟩
  f21 := ⟨Tryz.f144.name, by decide, Tryz.func144.trans (congrArg some (by kernel_rfl))⟩
  f22 := ⟨Tryz.f145.name, by decide, Tryz.func145.trans (congrArg some (by kernel_rfl))⟩
  f23 := ⟨Tryz.f146.name, by decide, Tryz.func146.trans (congrArg some (by kernel_rfl))⟩
  f24 := ⟨Tryz.f147.name, by decide, Tryz.func147.trans (congrArg some (by kernel_rfl))⟩
  f25 := ⟨Tryz.f148.name, by decide, Tryz.func148.trans (congrArg some (by kernel_rfl))⟩
  f26 := ⟨Tryz.f149.name, by decide, Tryz.func149.trans (congrArg some (by kernel_rfl))⟩
  f27 := ⟨Tryz.f150.name, by decide, Tryz.func150.trans (congrArg some (by kernel_rfl))⟩
  f28 := Tryz.func140.trans (congrArg some (by kernel_rfl))
  f29 := Tryz.func141.trans (congrArg some (by kernel_rfl))
  f46 := ⟨Tryz.f157.name, by decide, Tryz.func157.trans (congrArg some (by kernel_rfl))⟩
  f47 := Tryz.func152.trans (congrArg some (by kernel_rfl))
  f48 := Tryz.func153.trans (congrArg some (by kernel_rfl))
  f49 := ⟨Tryz.f158.name, by decide, Tryz.func158.trans (congrArg some (by kernel_rfl))⟩
  f50 := ⟨Tryz.f159.name, by decide, Tryz.func159.trans (congrArg some (by kernel_rfl))⟩
  f57 := ⟨Tryz.f161.name, by decide, Tryz.func161.trans (congrArg some (by kernel_rfl))⟩
  t0 := Tryz.underlying0
  a0 := Tryz.isAgg0
  z0 := Tryz.sizeOf0
  v0 := Tryz.zeroValue0
  t3 := Tryz.underlying3
  a3 := Tryz.isAgg3
  z3 := Tryz.sizeOf3
  v3 := Tryz.zeroValue3
  t4 := Tryz.underlying4
  a4 := Tryz.isAgg4
  z4 := Tryz.sizeOf4
  v4 := Tryz.zeroValue4
  t5 := Tryz.underlying5
  a5 := Tryz.isAgg5
  z5 := Tryz.sizeOf5
  v5 := Tryz.zeroValue5
  t9 := Tryz.underlying9
  a9 := Tryz.isAgg9
  z9 := Tryz.sizeOf9
  v9 := Tryz.zeroValue9
  t22 := Tryz.underlying90
  a22 := Tryz.isAgg90
  z22 := Tryz.sizeOf90
  v22 := Tryz.zeroValue90
  a24 := Tryz.isAgg97
  z24 := Tryz.sizeOf97
  t25 := Tryz.underlying188
  a25 := Tryz.isAgg188
  z25 := Tryz.sizeOf188
  v25 := Tryz.zeroValue188
  t39 := Tryz.underlying220
  a39 := Tryz.isAgg220
  z39 := Tryz.sizeOf220
  v39 := Tryz.zeroValue220
  t45 := Tryz.underlying230
  a45 := Tryz.isAgg230
  z45 := Tryz.sizeOf230
  v45 := Tryz.zeroValue230
  t46 := Tryz.underlying231
  a46 := Tryz.isAgg231
  z46 := Tryz.sizeOf231
  v46 := Tryz.zeroValue231
  t50 := Tryz.underlying236
  a50 := Tryz.isAgg236
  z50 := Tryz.sizeOf236
  v50 := Tryz.zeroValue236
  t53 := Tryz.underlying239
  a53 := Tryz.isAgg239
  z53 := Tryz.sizeOf239
  v53 := Tryz.zeroValue239
  t55 := Tryz.underlying241
  a55 := Tryz.isAgg241
  z55 := Tryz.sizeOf241
  v55 := Tryz.zeroValue241
  t66 := Tryz.underlying247
  a66 := Tryz.isAgg247
  z66 := Tryz.sizeOf247
  v66 := Tryz.zeroValue247
  t70 := Tryz.underlying251
  a70 := Tryz.isAgg251
  z70 := Tryz.sizeOf251
  v70 := Tryz.zeroValue251
  t76 := Tryz.underlying255
  a76 := Tryz.isAgg255
  z76 := Tryz.sizeOf255
  v76 := Tryz.zeroValue255
  t77 := Tryz.underlying256
  a77 := Tryz.isAgg256
  z77 := Tryz.sizeOf256
  v77 := Tryz.zeroValue256 }
def Tryz.lays128_ren : Go.Shelf.Ren := ⟨fun | 128 => 140 | n => n, fun | 51 => 239 | 3 => 3 | 4 => 4 | 46 => 220 | 5 => 5 | 9 => 9 | n => n, fun | n => n⟩
theorem Tryz.lays128 : Go.Proofs.Lays.n128 Tryz.prog Tryz.lays128_ren := {
  mixed := by kernel_rfl
  f128 := Tryz.func140.trans (congrArg some (by kernel_rfl))
  t3 := Tryz.underlying3
  a3 := Tryz.isAgg3
  z3 := Tryz.sizeOf3
  v3 := Tryz.zeroValue3
  t4 := Tryz.underlying4
  a4 := Tryz.isAgg4
  z4 := Tryz.sizeOf4
  v4 := Tryz.zeroValue4
  t5 := Tryz.underlying5
  a5 := Tryz.isAgg5
  z5 := Tryz.sizeOf5
  v5 := Tryz.zeroValue5
  t9 := Tryz.underlying9
  a9 := Tryz.isAgg9
  z9 := Tryz.sizeOf9
  v9 := Tryz.zeroValue9
  t46 := Tryz.underlying220
  a46 := Tryz.isAgg220
  z46 := Tryz.sizeOf220
  v46 := Tryz.zeroValue220
  t51 := Tryz.underlying239
  a51 := Tryz.isAgg239
  z51 := Tryz.sizeOf239
  v51 := Tryz.zeroValue239 }
/-- bits.Len32: "Len32 returns the minimum number of bits required to represent x; the result is 0 for x == 0.": IT RETURNS 'Lib.bitLen x'; the world is as it was. ('h0', 'h1': x is a uint32.) (LAID: no walk: one application.) -/
theorem Tryz.bits_Len32 (x : Int) (w : World) (h0 : 0 ≤ x) (h1 : x ≤ 4294967295) :
    Calls Tryz.prog 140 #[.int .u32 x] w fun e w' => e = .returned (.int .i64 (Lib.bitLen x.toNat)) ∧ w' = w := Any.bits_Len32 Tryz.lays128 x w h0 h1
def Tryz.lays125_ren : Go.Shelf.Ren := ⟨fun | 125 => 123 | 128 => 140 | 129 => 141 | n => n, fun | 46 => 220 | 3 => 3 | 51 => 239 | 53 => 241 | 4 => 4 | 5 => 5 | 9 => 9 | n => n, fun | n => n⟩
theorem Tryz.lays125 : Go.Proofs.Lays.n125 Tryz.prog Tryz.lays125_ren := {
  mixed := by kernel_rfl
  f125 := Tryz.func123.trans (congrArg some (by kernel_rfl))
  f128 := Tryz.func140.trans (congrArg some (by kernel_rfl))
  f129 := Tryz.func141.trans (congrArg some (by kernel_rfl))
  t3 := Tryz.underlying3
  a3 := Tryz.isAgg3
  z3 := Tryz.sizeOf3
  v3 := Tryz.zeroValue3
  t4 := Tryz.underlying4
  a4 := Tryz.isAgg4
  z4 := Tryz.sizeOf4
  v4 := Tryz.zeroValue4
  t5 := Tryz.underlying5
  a5 := Tryz.isAgg5
  z5 := Tryz.sizeOf5
  v5 := Tryz.zeroValue5
  t9 := Tryz.underlying9
  a9 := Tryz.isAgg9
  z9 := Tryz.sizeOf9
  v9 := Tryz.zeroValue9
  t46 := Tryz.underlying220
  a46 := Tryz.isAgg220
  z46 := Tryz.sizeOf220
  v46 := Tryz.zeroValue220
  t51 := Tryz.underlying239
  a51 := Tryz.isAgg239
  z51 := Tryz.sizeOf239
  v51 := Tryz.zeroValue239
  t53 := Tryz.underlying241
  a53 := Tryz.isAgg241
  z53 := Tryz.sizeOf241
  v53 := Tryz.zeroValue241 }
/-- bits.Len: "Len returns the minimum number of bits required to represent x; the result is 0 for x == 0.": IT RETURNS 'Lib.bitLen x'; the world is as it was. (A uint has 64 bits in the model.) ITS CALLEE bits.Len64 IS MET BY ITS OWN CONTRACT OFF THE SHELF (lay that first). (LAID: no walk: one application.) -/
theorem Tryz.bits_Len (x : Int) (w : World) (h0 : 0 ≤ x) (h1 : x ≤ 18446744073709551615) :
    Calls Tryz.prog 123 #[.int .u64 x] w fun e w' => e = .returned (.int .i64 (Lib.bitLen x.toNat)) ∧ w' = w := Any.bits_Len Tryz.lays125 x w h0 h1
def Tryz.lays129_ren : Go.Shelf.Ren := ⟨fun | 129 => 141 | n => n, fun | 53 => 241 | 3 => 3 | 4 => 4 | 46 => 220 | 5 => 5 | 9 => 9 | n => n, fun | n => n⟩
theorem Tryz.lays129 : Go.Proofs.Lays.n129 Tryz.prog Tryz.lays129_ren := {
  mixed := by kernel_rfl
  f129 := Tryz.func141.trans (congrArg some (by kernel_rfl))
  t3 := Tryz.underlying3
  a3 := Tryz.isAgg3
  z3 := Tryz.sizeOf3
  v3 := Tryz.zeroValue3
  t4 := Tryz.underlying4
  a4 := Tryz.isAgg4
  z4 := Tryz.sizeOf4
  v4 := Tryz.zeroValue4
  t5 := Tryz.underlying5
  a5 := Tryz.isAgg5
  z5 := Tryz.sizeOf5
  v5 := Tryz.zeroValue5
  t9 := Tryz.underlying9
  a9 := Tryz.isAgg9
  z9 := Tryz.sizeOf9
  v9 := Tryz.zeroValue9
  t46 := Tryz.underlying220
  a46 := Tryz.isAgg220
  z46 := Tryz.sizeOf220
  v46 := Tryz.zeroValue220
  t53 := Tryz.underlying241
  a53 := Tryz.isAgg241
  z53 := Tryz.sizeOf241
  v53 := Tryz.zeroValue241 }
/-- bits.Len64: "Len64 returns the minimum number of bits required to represent x; the result is 0 for x == 0.": IT RETURNS 'Lib.bitLen x'; the world is as it was. ('h0', 'h1': x is a uint64.) (LAID: no walk: one application.) -/
theorem Tryz.bits_Len64 (x : Int) (w : World) (h0 : 0 ≤ x) (h1 : x ≤ 18446744073709551615) :
    Calls Tryz.prog 141 #[.int .u64 x] w fun e w' => e = .returned (.int .i64 (Lib.bitLen x.toNat)) ∧ w' = w := Any.bits_Len64 Tryz.lays129 x w h0 h1
def Tryz.lays189_ren : Go.Shelf.Ren := ⟨fun | 189 => 106 | 125 => 123 | 257 => 122 | 128 => 140 | 129 => 141 | 294 => 131 | 295 => 132 | 296 => 133 | 297 => 134 | 298 => 135 | 299 => 136 | 216 => 137 | 300 => 138 | 301 => 139 | 328 => 151 | 329 => 152 | 330 => 153 | 331 => 154 | 332 => 155 | 215 => 156 | 343 => 160 | n => n, fun | 28 => 24 | 3 => 3 | 46 => 220 | 0 => 0 | 51 => 239 | 53 => 241 | 4 => 4 | 183 => 231 | 182 => 230 | 131 => 236 | 5 => 5 | 9 => 9 | 218 => 247 | 222 => 251 | 228 => 255 | 229 => 256 | n => n, fun | n => n⟩
theorem Tryz.lays189 : Go.Proofs.Lays.n189 Tryz.prog Tryz.lays189_ren := {
  mixed := by kernel_rfl
  f125 := Tryz.func123.trans (congrArg some (by kernel_rfl))
  f128 := Tryz.func140.trans (congrArg some (by kernel_rfl))
  f129 := Tryz.func141.trans (congrArg some (by kernel_rfl))
  f189 := Tryz.func106.trans (congrArg some (by kernel_rfl))
  f215 := Tryz.func156.trans (congrArg some (by kernel_rfl))
  f216 := Tryz.func137.trans (congrArg some (by kernel_rfl))
  f257 := Tryz.func122.trans (congrArg some (by kernel_rfl))
  f294 := Tryz.func131.trans (congrArg some (by kernel_rfl))
  f295 := Tryz.func132.trans (congrArg some (by kernel_rfl))
  f296 := Tryz.func133.trans (congrArg some (by kernel_rfl))
  f297 := Tryz.func134.trans (congrArg some (by kernel_rfl))
  f298 := Tryz.func135.trans (congrArg some (by kernel_rfl))
  f299 := Tryz.func136.trans (congrArg some (by kernel_rfl))
  f300 := Tryz.func138.trans (congrArg some (by kernel_rfl))
  f301 := Tryz.func139.trans (congrArg some (by kernel_rfl))
  f328 := Tryz.func151.trans (congrArg some (by kernel_rfl))
  f329 := Tryz.func152.trans (congrArg some (by kernel_rfl))
  f330 := Tryz.func153.trans (congrArg some (by kernel_rfl))
  f331 := Tryz.func154.trans (congrArg some (by kernel_rfl))
  f332 := Tryz.func155.trans (congrArg some (by kernel_rfl))
  f343 := Tryz.func160.trans (congrArg some (by kernel_rfl))
  t0 := Tryz.underlying0
  a0 := Tryz.isAgg0
  z0 := Tryz.sizeOf0
  v0 := Tryz.zeroValue0
  t3 := Tryz.underlying3
  a3 := Tryz.isAgg3
  z3 := Tryz.sizeOf3
  v3 := Tryz.zeroValue3
  t4 := Tryz.underlying4
  a4 := Tryz.isAgg4
  z4 := Tryz.sizeOf4
  v4 := Tryz.zeroValue4
  t5 := Tryz.underlying5
  a5 := Tryz.isAgg5
  z5 := Tryz.sizeOf5
  v5 := Tryz.zeroValue5
  t9 := Tryz.underlying9
  a9 := Tryz.isAgg9
  z9 := Tryz.sizeOf9
  v9 := Tryz.zeroValue9
  t28 := Tryz.underlying24
  a28 := Tryz.isAgg24
  z28 := Tryz.sizeOf24
  v28 := Tryz.zeroValue24
  t46 := Tryz.underlying220
  a46 := Tryz.isAgg220
  z46 := Tryz.sizeOf220
  v46 := Tryz.zeroValue220
  t51 := Tryz.underlying239
  a51 := Tryz.isAgg239
  z51 := Tryz.sizeOf239
  v51 := Tryz.zeroValue239
  t53 := Tryz.underlying241
  a53 := Tryz.isAgg241
  z53 := Tryz.sizeOf241
  v53 := Tryz.zeroValue241
  t131 := Tryz.underlying236
  a131 := Tryz.isAgg236
  z131 := Tryz.sizeOf236
  v131 := Tryz.zeroValue236
  t182 := Tryz.underlying230
  a182 := Tryz.isAgg230
  z182 := Tryz.sizeOf230
  v182 := Tryz.zeroValue230
  t183 := Tryz.underlying231
  a183 := Tryz.isAgg231
  z183 := Tryz.sizeOf231
  v183 := Tryz.zeroValue231
  t218 := Tryz.underlying247
  a218 := Tryz.isAgg247
  z218 := Tryz.sizeOf247
  v218 := Tryz.zeroValue247
  t222 := Tryz.underlying251
  a222 := Tryz.isAgg251
  z222 := Tryz.sizeOf251
  v222 := Tryz.zeroValue251
  t228 := Tryz.underlying255
  a228 := Tryz.isAgg255
  z228 := Tryz.sizeOf255
  v228 := Tryz.zeroValue255
  t229 := Tryz.underlying256
  a229 := Tryz.isAgg256
  z229 := Tryz.sizeOf256
  v229 := Tryz.zeroValue256 }
open Go.Sort Go.RowKit in
theorem Tryz.slices_Sort_int (blk off cap : Nat) (zs : List Int) (w : World) (hH : Holds (Value.int .i64) w blk off zs.toArray) (hblk : blk < w.heap.size) (hsz : zs.length < 4611686018427387904) :
    Calls Tryz.prog 106 #[.slice (some ⟨blk, off, none⟩) zs.length cap] w fun e w' =>
      e = .returned (.tuple #[]) ∧ ∃ n os, w' = grow (putRow (Value.int .i64) (Sort.ahead w n) blk off (zs.mergeSort fun x y => decide (x ≤ y)).toArray) os := Any.slices_Sort_int Tryz.lays189 blk off cap zs w hH hblk hsz
def Tryz.laysNm215_ren : Go.Shelf.Ren := ⟨fun | 15 => 70 | n => n, fun | 22 => 24 | 3 => 3 | 4 => 4 | n => n, fun | n => n⟩
theorem Tryz.laysNm215 : Go.Proofs.Lays2.n15 Tryz.prog Tryz.laysNm215_ren := {
  mixed := by kernel_rfl
  f15 := Tryz.func70.trans (congrArg some (by kernel_rfl))
  t3 := Tryz.underlying3
  a3 := Tryz.isAgg3
  z3 := Tryz.sizeOf3
  v3 := Tryz.zeroValue3
  t4 := Tryz.underlying4
  a4 := Tryz.isAgg4
  z4 := Tryz.sizeOf4
  v4 := Tryz.zeroValue4
  t22 := Tryz.underlying24
  a22 := Tryz.isAgg24
  z22 := Tryz.sizeOf24
  v22 := Tryz.zeroValue24
  i3 := by kernel_rfl }
open Go.RowKit Go.Lib in
/-- slices.Clone at []int: "Clone returns a copy of the slice. The elements are copied using assignment, so this is a shallow clone. The result may have additional unused capacity. The result preserves the nilness of s.": OF A SLICE THAT IS NOT nil IT RETURNS A SLICE THAT IS NOT nil, OF THE SAME ELEMENTS, IN MEMORY OF THE CALL's OWN: in the how-to's words (6f): 'w'.ownsRow B e 1 v' n cells': v' begins at the head of a row among the blocks from B on (B: the heap's size at the call), not frozen, whose first cells are the elements · 'Below B w w'': below B all is as it was. The capacity is whatever the run-time gives. 'zs': what the cells behind the slice's address hold; 'zs.take n': its elements. (LAID: no walk: one application.) -/
theorem Tryz.slices_Clone_int (b off n c : Nat) (zs : List Int) (w : World) (hz : n ≤ zs.length) (hbig : n * 8 ≤ 140737488355328) (hc : ∀ j, j < zs.length → w.cell? ⟨b, off + j, none⟩ = some (.int .i64 (zs.getD j 0))) :
    Calls Tryz.prog 70 #[.slice (some ⟨b, off, none⟩) n c] w fun e w' => ∃ v', e = .returned v' ∧ w'.ownsRow w.heap.size 3 1 v' n ((zs.take n).map (Value.int .i64)) ∧ v' ≠ .slice none 0 0 ∧ Below w.heap.size w w' := Any.slices_Clone_int Tryz.laysNm215 b off n c zs w hz hbig hc
open Go.RowKit Go.Lib in
/-- The same at nil: nil comes back; the world is as it was. (LAID: no walk: one application.) -/
theorem Tryz.slices_Clone_int_nil (n c : Nat) (w : World) :
    Calls Tryz.prog 70 #[.slice none n c] w fun e w' => e = .returned (.slice none 0 0) ∧ w' = w := Any.slices_Clone_int_nil Tryz.laysNm215 n c w
open Go.RowKit Go.Lib in
/-- The same at a slice of length 0 that is not nil, WHATEVER ITS ADDRESS (no cell is asked for): a slice that is not nil and owns nothing comes back. (LAID: no walk: one application.) -/
theorem Tryz.slices_Clone_int_zero (a : Addr) (c : Nat) (w : World) :
    Calls Tryz.prog 70 #[.slice (some a) 0 c] w fun e w' => ∃ v', e = .returned v' ∧ w'.ownsRow w.heap.size 3 1 v' 0 [] ∧ v' ≠ .slice none 0 0 ∧ Below w.heap.size w w' := Any.slices_Clone_int_zero Tryz.laysNm215 a c w
open Go.RowKit Go.Sort in
/-- .. and plain. (LAID: no walk: one application.) -/
theorem Tryz.slices_Sort_int_none (p : Option Addr) (cap : Nat) (w : World) :
    Calls Tryz.prog 106 #[.slice p 0 cap] w fun e w' => e = .returned (.tuple #[]) ∧ w' = w := Any.slices_Sort_int_none Tryz.lays189 p cap w
end Go.Proofs

/- Table.Sorted by contract: the table's requests by pages and numbers. -/
namespace Go.Proofs.YticobikhndlejaaGreatDoor
open Go.RowKit Go.Shelf Go.Lib Go.Sort

section
variable {α : Type} [Inhabited α] {enc : α → Value}
theorem holds_of_blockE {w : World} {g : Nat} {cur : Array Value} {e : TypeId} {ss : List α} (hb : w.heap[g]? = some (.cells cur e (0, 0))) (ht : cur.toList.take ss.length = ss.map enc) : Holds enc w g 0 ss.toArray := by
  intro j hj
  have hj' : j < ss.length := by simpa using hj
  refine ⟨?_, by simp [World.frozen?, hb]⟩
  have h1 : (cur.toList.take ss.length)[j]? = (ss.map enc)[j]? := by rw [ht]
  rw [List.getElem?_take_of_lt hj'] at h1
  simp only [World.cell?, hb, Nat.zero_add]
  simp only [Option.isSome_none, Bool.false_eq_true, if_false]
  rw [← Array.getElem?_toList, h1]
  simp [hj']
theorem heap_sortedE {w : World} {g n : Nat} {os : Array Obj} {cur : Array Value} {e : TypeId} {fr : Nat × Nat} (d : Array α) (hb : w.heap[g]? = some (.cells cur e fr)) :
    (grow (putRow enc (Sort.ahead w n) g 0 d) os).heap[g]? = some (.cells (putCells enc 0 d cur) e fr) := by
  have hg : g < w.heap.size := (Array.getElem?_eq_some_iff.1 hb).1
  rw [heap_grow_old _ _ (by simpa using hg)]
  simp [putRow, mapBlock, Sort.ahead, Array.getElem?_modify, hb, onCells]
theorem grownBy_sortedE {w : World} {g n : Nat} {os : Array Obj} (d : Array α) : w.grownBy (grow (putRow enc (Sort.ahead w n) g 0 d) os) (some g) := by
  refine ⟨rfl, rfl, rfl, by simp, fun k hk hne => ?_⟩
  rw [heap_grow_old _ _ (by simpa using hk)]
  have : g ≠ k := fun e => hne (by rw [e])
  simp [putRow, mapBlock, Sort.ahead, Array.getElem?_modify, this]
theorem take_putCellsE (cur : Array Value) (ts : List α) (h : ts.length ≤ cur.size) : (putCells enc 0 ts.toArray cur).toList.take ts.length = ts.map enc := by
  apply List.ext_getElem?
  intro j
  by_cases hj : j < ts.length
  · rw [List.getElem?_take_of_lt hj, Array.getElem?_toList]
    simp [putCells, hj, show j < cur.size by omega]
  · rw [List.getElem?_take_eq_none (by omega), List.getElem?_eq_none (by simp; omega)]
theorem ownsRow_sortedE {w : World} {base g cap n : Nat} {e : TypeId} {os : Array Obj} {cur : Array Value} {ss ts : List α} (hl : ts.length = ss.length) (hbase : base ≤ g) (hb : w.heap[g]? = some (.cells cur e (0, 0)))
    (h1 : ss.length ≤ cap) (h2 : cap ≤ maxLen) (h3 : cur.size = cap * 1) :
    (grow (putRow enc (Sort.ahead w n) g 0 ts.toArray) os).ownsRow base e 1 (.slice (some ⟨g, 0, none⟩) ss.length cap) ss.length (ts.map enc) :=
  ⟨by simp [hl], .inr ⟨g, cap, _, rfl, hbase, heap_sortedE _ hb, h1, h2, by simp [putCells, h3], by rw [Nat.mul_one, ← hl]; exact take_putCellsE cur ts (by omega)⟩⟩
end

/-- The entries of a world: what the sort may compare. -/
abbrev EntOf (es : List Ent) : Type := { x : Ent // x ∈ es }
abbrev encE {es : List Ent} (x : EntOf es) : Value := ptr x.1.p
def cmpE {es : List Ent} (x y : EntOf es) : Int := x.1.r.cmp y.1.r
theorem cmp_lt {es : List Ent} (x y : EntOf es) : ltOf cmpE x y = (decide (x.1.r.page < y.1.r.page) || (decide (x.1.r.page = y.1.r.page) && decide (x.1.r.num < y.1.r.num))) := by
  unfold ltOf cmpE Req.cmp
  by_cases h : x.1.r.page = y.1.r.page
  · simp [h]; omega
  · simp [h]; omega
theorem cmp_swo {es : List Ent} : SWO (ltOf (cmpE (es := es))) where
  irrefl x := by rw [cmp_lt]; simp
  trans x y z h1 h2 := by rw [cmp_lt] at *; simp at *; omega
  ntrans x y z h1 h2 := by rw [cmp_lt] at *; simp at *; omega
theorem num_inj {es : List Ent} (h : (es.map (·.r.num)).Nodup) {x y : Ent} (hx : x ∈ es) (hy : y ∈ es) (he : x.r.num = y.r.num) : x = y := by
  induction es with
  | nil => cases hx
  | cons a es ih =>
    simp only [List.map_cons, List.nodup_cons] at h
    cases hx with
    | head =>
      cases hy with
      | head => rfl
      | tail _ hy => exact absurd (he ▸ List.mem_map_of_mem hy) h.1
    | tail _ hx =>
      cases hy with
      | head => exact absurd (he ▸ List.mem_map_of_mem hx) h.1
      | tail _ hy => exact ih h.2 hx hy
theorem cmp_total {es : List Ent} (h : EntsOk es) (x y : EntOf es) (h1 : ltOf cmpE x y = false) (h2 : ltOf cmpE y x = false) : x = y := by
  rw [cmp_lt] at *
  simp at h1 h2
  exact Subtype.ext (num_inj h.nodup x.2 y.2 (by omega))
theorem cmp_reads {es : List Ent} [Inhabited (EntOf es)] (h : EntsOk es) (w : World) (hr : ∀ e ∈ es, ReqB w e.p e.r) (blk size : Nat) (hblk : ∀ e ∈ es, e.p ≠ blk) :
    CmpReads Tryz.prog 104 #[] encE (cmpE (es := es)) blk 0 size w := by
  intro m os dk _ x y
  have hW : ∀ e ∈ es, ReqB (sortWorld encE w blk 0 m dk os) e.p e.r := fun e he =>
    ((grownBy_sortedE (enc := encE) (w := w) (g := blk) (n := m) (os := os) dk).block e.p (lt_of_heap (hr e he)) (by simpa using hblk e he)).trans (hr e he)
  exact compare_any x.1.p y.1.p x.1.r y.1.r _ (hW _ x.2) (hW _ y.2) (h.page _ x.2) (h.page _ y.2) (h.num _ x.2) (h.num _ y.2)

theorem swoLe {es : List Ent} (h : EntsOk es) (L : List (EntOf es)) (hn : L.Nodup) : ((L.mergeSort fun x y => !(ltOf cmpE) y x).map (·.1)).Pairwise entLt := by
  have h1 := List.pairwise_mergeSort (le := fun x y : EntOf es => !(ltOf cmpE) y x)
    (fun a b c hab hbc => by simp only [cmp_lt] at *; simp at *; omega) (fun a b => by simp only [cmp_lt]; simp; omega) L
  have h2 : (L.mergeSort fun x y => !(ltOf cmpE) y x).Nodup := (List.mergeSort_perm L _).symm.nodup hn
  refine List.pairwise_map.2 ((h1.and h2).imp fun {x y} hxy => ?_)
  obtain ⟨h3, h4⟩ := hxy
  simp only [cmp_lt] at h3
  simp at h3
  have h5 : x.1.r.num ≠ y.1.r.num := fun he => h4 (Subtype.ext (num_inj h.nodup x.2 y.2 he))
  unfold entLt; omega

set_option maxRecDepth 100000 in
set_option maxHeartbeats 1000000 in
theorem sortedFunc_any (Bm mb clock : Nat) (es : List Ent) (w : World) (hlen : es.length ≤ 1000000) (hm : w.cell? ⟨Bm, 0, none⟩ = some (.map (some mb))) (hmap : w.heap[mb]? = some (mapObj es clock)) (hb : ∀ e ∈ es, e.born < clock) (hnd : (es.map Ent.born).Nodup)
    (hok : EntsOk es) (hr : ∀ e ∈ es, ReqB w e.p e.r) :
    Calls Tryz.prog 102 #[.func (.func 120) #[] #[ptr Bm], .func (.func 104) #[] #[]] w fun e w' =>
      ∃ v : Value, e = .returned v ∧ w'.ownsRow w.heap.size 97 1 v (byPage es).length ((byPage es).map fun e => ptr e.p) ∧ Below w.heap.size w w' := by
  have HC := Lib.hid (collect_any Bm mb clock es w hlen hm hmap hb hnd)
  have HR := Lib.hid hr
  clear hm hmap hb hr
  go_enter Tryz.func102, Tryz.ntmps102
  go_wp2_with fail
  refine HC.out.mono ?_
  rintro e w1 ⟨v, vs, rfl, hp, hrow, hbel⟩
  rcases hrow.2 with ⟨rfl, hz⟩ | ⟨g, cap, cur, rfl, hbase, hgb, r1, r2, r3, r4⟩
  · have hvs : vs = [] := List.eq_nil_of_length_eq_zero hz
    subst hvs
    have hes : es = [] := hp.symm.eq_nil
    subst hes
    go_wp2_with fail
    refine (AnyF.slices_SortFunc_none (P := Tryz.prog) (ρ := Tryz.sortL_ren) { Tryz.sortL with } none 0 _ w1).mono ?_
    rintro e w2 ⟨rfl, rfl⟩
    go_wp2
    go_ret
    exact ⟨_, rfl, World.ownsRow_nil _ _ _ _, hbel⟩
  · by_cases hvs : vs = []
    · subst hvs
      have hes : es = [] := hp.symm.eq_nil
      subst hes
      have hw1 : w1.ownsRow w.heap.size 97 1 (.slice (some ⟨g, 0, none⟩) 0 cap) 0 [] := hrow
      have HW := Lib.hid hw1
      clear hrow hw1 r1 r2 r3 r4
      go_wp2_with fail
      refine (AnyF.slices_SortFunc_none (P := Tryz.prog) (ρ := Tryz.sortL_ren) { Tryz.sortL with } (some ⟨g, 0, none⟩) cap _ w1).mono ?_
      rintro e w2 ⟨rfl, rfl⟩
      go_wp2
      go_ret
      exact ⟨_, rfl, HW.out, hbel⟩
    · obtain ⟨v0, hv0v⟩ := List.exists_mem_of_ne_nil vs hvs
      have hv0 : v0 ∈ es := hp.subset hv0v
      letI : Inhabited (EntOf es) := ⟨⟨v0, hv0⟩⟩
      obtain ⟨D, hD⟩ : ∃ D : List (EntOf es), D.map (·.1) = vs :=
        ⟨vs.attach.map fun x => ⟨x.1, hp.subset x.2⟩, by rw [List.map_map]; exact List.attach_map_subtype_val _⟩
      have hlD : D.length = vs.length := by rw [← hD]; simp
      have hDn : D.Nodup := by
        have h1 : vs.Nodup := hp.symm.nodup (nodup_of_born hnd)
        rw [← hD] at h1
        exact (List.pairwise_map.1 h1).imp fun hne heq => hne (by rw [heq])
      have hDm : vs.map (fun e => ptr e.p) = D.map encE := by rw [← hD, List.map_map]; rfl
      rw [hDm, ← hlD, Nat.mul_one] at r4
      rw [← hlD] at r1
      have hH : Holds (encE (es := es)) w1 g 0 D.toArray := holds_of_blockE hgb r4
      have hsz : D.length < 4611686018427387904 := by rw [hlD, hp.length_eq]; omega
      have hgl : g < w1.heap.size := lt_of_heap hgb
      have hr1 : ∀ e ∈ es, ReqB w1 e.p e.r := fun e he => (hbel.block e.p (lt_of_heap (HR.out e he))).trans (HR.out e he)
      have hgne : ∀ e ∈ es, e.p ≠ g := fun e he h => by
        have h1 := hr1 e he
        rw [h] at h1
        unfold ReqB at h1
        rw [hgb] at h1
        cases h1
      have hc := Any.slices_SortFunc_total (P := Tryz.prog) (ρ := Tryz.sortL_ren) Tryz.sortL (encE (es := es)) (fun _ => rfl) cmpE cmp_swo 104 #[] g 0 cap D.toArray w1
        (enters_of Tryz.func104 (by kernel_rfl) rfl) (cmp_reads hok w1 hr1 g D.toArray.size hgne).lays hH hgl (by simpa using hsz) (cmp_total hok)
      have hfin : (D.mergeSort fun x y => !(ltOf cmpE) y x).map (·.1) = byPage es := by
        refine sorted_unique ?_ (swoLe hok D hDn) (byPage_sorted hok)
        refine (((List.mergeSort_perm D _).map (·.1)).trans (List.Perm.of_eq hD)).trans (hp.trans (byPage_perm hok).symm)
      have hlen2 : vs.length = D.length := hlD.symm
      have HCs := Lib.hid hc
      have HF := Lib.hid hfin
      have HL := Lib.hid hlen2
      have hne : (byPage es).length = D.length := by rw [← hfin]; simp
      have HN := Lib.hid hne
      clear hc hfin hrow hp hD hDm hlD hlen2 hne r4 hH hr1 hgne
      go_wp2_with fail
      rw [HL.out]
      have hsz2 : D.toArray.size = D.length := by simp
      rw [← hsz2]
      refine HCs.out.mono ?_
      rintro e w2 ⟨rfl, n, os, hw2⟩
      have hrow2 : w2.ownsRow w.heap.size 97 1 (.slice (some ⟨g, 0, none⟩) D.length cap) D.length ((D.mergeSort fun x y => !(ltOf cmpE) y x).map encE) := by
        rw [hw2]; exact ownsRow_sortedE (by simp) hbase hgb r1 r2 r3
      have hb2 : Below w.heap.size w w2 := by rw [hw2]; exact hbel.grown (grownBy_sortedE _) hbel.size (fun k e => by cases e; exact hbase)
      have HR2 := Lib.hid hrow2
      clear hrow2 hw2 hsz2
      go_wp2
      go_ret
      refine ⟨_, rfl, ?_, hb2⟩
      rw [HN.out, ← HF.out, List.map_map]
      exact HR2.out

/-- The table: its block, its map, its requests. -/
structure TabB (w : World) (tb mb clock : Nat) (last held : Int) (es : List Ent) : Prop where
  tab : w.heap[tb]? = some (.cells #[.map (some mb), .int .i64 last, .int .i64 held] 148 (0, 0))
  map : w.heap[mb]? = some (mapObj es clock)
  reqs : ∀ e ∈ es, ReqB w e.p e.r
  born : ∀ e ∈ es, e.born < clock
  borns : (es.map Ent.born).Nodup
  ok : EntsOk es
  len : es.length ≤ 1000000
theorem TabB.c0 {w : World} {tb mb clock : Nat} {last held : Int} {es : List Ent} (h : TabB w tb mb clock last held es) : w.cell? ⟨tb, 0, none⟩ = some (.map (some mb)) := cell_of h.tab rfl
theorem TabB.c1 {w : World} {tb mb clock : Nat} {last held : Int} {es : List Ent} (h : TabB w tb mb clock last held es) : w.cell? ⟨tb, 1, none⟩ = some (.int .i64 last) := cell_of h.tab rfl
theorem TabB.c2 {w : World} {tb mb clock : Nat} {last held : Int} {es : List Ent} (h : TabB w tb mb clock last held es) : w.cell? ⟨tb, 2, none⟩ = some (.int .i64 held) := cell_of h.tab rfl
/-- It lies on where its blocks lie on. -/
theorem TabB.kept {w w' : World} {tb mb clock : Nat} {last held : Int} {es : List Ent} (h : TabB w tb mb clock last held es) {S : Nat → Prop} (hc : Chg S w w') (h1 : ¬ S tb) (h2 : ¬ S mb) (h3 : ∀ e ∈ es, ¬ S e.p) : TabB w' tb mb clock last held es :=
  ⟨(hc.block _ (lt_of_heap h.tab) h1).trans h.tab, (hc.block _ (lt_of_heap h.map) h2).trans h.map, fun e he => (hc.block _ (lt_of_heap (h.reqs e he)) (h3 e he)).trans (h.reqs e he), h.born, h.borns, h.ok, h.len⟩
theorem TabB.below {w w' : World} {tb mb clock : Nat} {last held : Int} {es : List Ent} (h : TabB w tb mb clock last held es) (hb : Below w.heap.size w w') : TabB w' tb mb clock last held es :=
  h.kept (chgB hb (fun _ => False)) (fun x => x) (fun x => x) (fun _ _ x => x)

set_option maxRecDepth 100000 in
theorem sorted_any (tb mb clock : Nat) (last held : Int) (es : List Ent) (w : World) (h : TabB w tb mb clock last held es) :
    Calls Tryz.prog 68 #[ptr tb] w fun e w' =>
      ∃ v : Value, e = .returned v ∧ w'.ownsRow w.heap.size 97 1 v (byPage es).length ((byPage es).map fun e => ptr e.p) ∧ Below w.heap.size w w' := by
  have c0 := h.c0
  have hb : Below w.heap.size w (w.alloc (.cells #[.map (some mb)] 146)) := (Below.refl _ w).alloc (Nat.le_refl _) _
  have h1 := h.below hb
  have HC := Lib.hid (sortedFunc_any w.heap.size mb clock es _ h1.len (cell_new (w := w) (c := #[.map (some mb)]) (t := 146) rfl) h1.map h1.born h1.borns h1.ok h1.reqs)
  have hV := (callsIn_wide (n := 6)).1 (values_in Fence.wide 6 trivial rfl (some mb) w)
  have HV := Lib.hid hV
  clear h h1 hV
  go_enter Tryz.func68, Tryz.ntmps68
  go_wp2_with fail
  refine HV.out.mono ?_
  rintro e w1 ⟨rfl, rfl⟩
  go_wp2_with fail
  refine HC.out.mono ?_
  rintro e w1 ⟨v, rfl, hrow, hbel⟩
  have HR := Lib.hid hrow
  clear hrow
  go_wp2
  go_ret
  exact ⟨v, rfl, ⟨HR.out.1, HR.out.2.imp id fun ⟨g, cap, cur, h1, h2, h3⟩ => ⟨g, cap, cur, h1, by simp at h2; omega, h3⟩⟩, hb.trans (hbel.mono (by simp))⟩
end Go.Proofs.YticobikhndlejaaGreatDoor

/- Table.Ready by contract: the table's ready requests by pages and numbers. -/
namespace Go.Proofs.YticobikhndlejaaGreatDoor
open Go.RowKit Go.Shelf Go.Lib

theorem filter_take_no {l : List Ent} (p : Ent → Bool) {j : Nat} (hj : j < l.length) (h : p (l[j]'hj) = false) : (l.take (j + 1)).filter p = (l.take j).filter p := by
  rw [List.take_succ_eq_append_getElem hj, List.filter_append]; simp [h]
theorem filter_take_yes {l : List Ent} (p : Ent → Bool) {j : Nat} (hj : j < l.length) (h : p (l[j]'hj) = true) : (l.take (j + 1)).filter p = (l.take j).filter p ++ [l[j]'hj] := by
  rw [List.take_succ_eq_append_getElem hj, List.filter_append]; simp [h]

set_option maxRecDepth 100000 in
set_option maxHeartbeats 1000000 in
theorem ready_some (tb mb clock : Nat) (last held now : Int) (es : List Ent) (w : World) (h : TabB w tb mb clock last held es) (hes : byPage es ≠ []) :
    Calls Tryz.prog 38 #[ptr tb, .int .i64 now] w fun e w' =>
      ∃ v : Value, e = .returned v ∧ w'.ownsRow w.heap.size 97 1 v (readyE now es).length ((readyE now es).map fun e => ptr e.p) ∧ Below w.heap.size w w' := by
  have HS := Lib.hid (sorted_any tb mb clock last held es w h)
  obtain ⟨i0, hi, hz0, hz1, hz2⟩ := info_parts Tryz.infoP
  have HT := Lib.hid h
  clear h
  go_enter Tryz.func38, Tryz.ntmps38
  go_wp2_with fail
  go_step3
  go_wp2_with fail
  refine HS.out.mono ?_
  rintro e w1 ⟨v, rfl, hrow, hb⟩
  rcases hrow.2 with ⟨_, hz⟩ | ⟨g, cap, cur, rfl, hbase, hgb, r1, r2, r3, r4⟩
  · exact absurd (List.eq_nil_of_length_eq_zero hz) hes
  clear hrow
  have hT1 := HT.out.below hb
  have HT1 := Lib.hid hT1
  clear hT1
  go_wp2_with fail
  go_step3
  obtain ⟨L, hL⟩ : ∃ L, L = byPage es := ⟨_, rfl⟩
  rw [← hL] at r1 r4 ⊢
  have HL := Lib.hid hL
  clear hL
  have hcell : ∀ (wr : World) (j : Nat) (hj : j < L.length), Below w1.heap.size w1 wr → wr.cell? ⟨g, j, none⟩ = some (ptr (L[j]'hj).p) := fun wr j hj hbw => by
    rw [hbw.cell (p := ⟨g, j, none⟩) (lt_of_heap hgb)]
    simp only [World.cell?, hgb]
    have h1 : (cur.toList.take (L.length * 1))[j]? = (L.map fun e => ptr e.p)[j]? := by rw [r4]
    rw [Nat.mul_one, List.getElem?_take_of_lt hj, List.getElem?_map, List.getElem?_eq_getElem hj] at h1
    simpa using h1
  have HC := Lib.hid hcell
  have hlen : L.length ≤ 1000000 := by rw [HL.out, (byPage_perm HT.out.ok).length_eq]; exact HT.out.len
  clear hcell r1 r2 r3 r4
  go_wp2_with fail
  go_loopg [6, 15] L.length (fun k out i wr => ∃ j : Nat, k = L.length - j ∧ j ≤ L.length ∧ i = .int .i64 j ∧ wr.ownsRow w1.heap.size 97 1 out ((L.take j).filter (isReady now es)).length (((L.take j).filter (isReady now es)).map fun e => ptr e.p) ∧ Below w1.heap.size w1 wr)
  case atStart => exact ⟨0, by simp, Nat.zero_le _, rfl, World.ownsRow_nil _ _ _ _, Below.refl _ _⟩
  case round =>
    obtain ⟨j, rfl, hj, rfl, hrow, hB⟩ := hrel
    by_cases hlt : j < L.length
    · have hcell := HC.out wr j hlt hB
      have hreq := HT1.out.reqs
      obtain ⟨e, he⟩ : ∃ e, L[j] = e := ⟨_, rfl⟩
      rw [he] at hcell
      have hmem : e ∈ es := by rw [← he]; exact (byPage_perm HT.out.ok).subset (HL.out ▸ List.getElem_mem hlt)
      have hR : ReqB wr e.p e.r := (hB.block e.p (lt_of_heap (HT1.out.reqs e hmem))).trans (HT1.out.reqs e hmem)
      have hat := hR.at
      have c7 := hat.c7
      have c9 := hat.c9
      have HE := Lib.hid he
      have HR := Lib.hid hR
      clear hat hR he hreq
      by_cases hs : e.r.state = 0
      · have hs' : (e.r.state != 0) = false := by simpa using hs
        by_cases ha : now < e.r.after
        · have hno : isReady now es e = false := by have : ¬ e.r.after ≤ now := by omega
                                                    simp [isReady, this]
          have HN := Lib.hid (filter_take_no (isReady now es) hlt (by rw [HE.out]; exact hno))
          clear hs hno
          go_wp2
          go_roundg (L.length - (j + 1))
          case measure => omega
          case rel => exact ⟨j + 1, rfl, by omega, by go_num, by rw [HN.out]; exact hrow, hB⟩
        · have HS0 := Lib.hid hs
          clear hs
          go_wp2_with fail
          obtain ⟨wo, hwo⟩ : ∃ wo : World, wo = wr := ⟨_, rfl⟩
          rw [← hwo] at hrow hB HR c7 c9 hcell ⊢
          have HW := Lib.hid hwo
          clear hwo
          go_loopg [34] L.length (fun k i w2 => ∃ m q : Nat, k = L.length - m ∧ m ≤ L.length ∧ i = .int .i64 m ∧ (∀ o ∈ L.take m, o.r.blocks e.r = false) ∧ w2 = wo.drewN q)
          case atStart => exact ⟨0, 0, by simp, Nat.zero_le _, rfl, by simp, rfl⟩
          case round =>
            obtain ⟨m, q, rfl, hm, rfl, hno, rfl⟩ := hrel
            by_cases hmt : m < L.length
            · have hBq : Below w1.heap.size w1 (wo.drewN q) := below_drewN hB q
              have hcm := HC.out (wo.drewN q) m hmt hBq
              obtain ⟨o, ho⟩ : ∃ o, L[m] = o := ⟨_, rfl⟩
              rw [ho] at hcm
              have hom : o ∈ es := by rw [← ho]; exact (byPage_perm HT.out.ok).subset (HL.out ▸ List.getElem_mem hmt)
              have hRo : ReqB (wo.drewN q) o.p o.r := (hBq.block o.p (lt_of_heap (HT1.out.reqs o hom))).trans (HT1.out.reqs o hom)
              have hbl := blocks_any o.p e.p o.r e.r (wo.drewN q) hRo HR.out
              have HO := Lib.hid ho
              have HNO := Lib.hid hno
              clear ho hno hRo
              cases hb1 : o.r.blocks e.r with
              | true =>
                rw [hb1] at hbl
                have HBL := Lib.hid hbl
                have hanr : isReady now es e = false := by
                  have : (es.any fun o => o.r.blocks e.r) = true := List.any_eq_true.2 ⟨o, hom, hb1⟩
                  simp [isReady, this]
                have HN := Lib.hid (filter_take_no (isReady now es) hlt (by rw [HE.out]; exact hanr))
                clear hbl hb1 hanr
                go_wp2_with (go_at_call 69; refine HBL.out.mono ?_; rintro e w' ⟨rfl, n, rfl⟩)
                go_roundg (L.length - (j + 1))
                case measure => omega
                case rel => exact ⟨j + 1, rfl, by omega, by go_num, by rw [HN.out]; exact hrow, below_drewN hB _⟩
              | false =>
                rw [hb1] at hbl
                have HBL := Lib.hid hbl
                have HB1 := Lib.hid hb1
                clear hbl hb1
                go_wp2_with (go_at_call 69; refine HBL.out.mono ?_; rintro e w' ⟨rfl, n, rfl⟩)
                go_roundg (L.length - (m + 1))
                case measure => omega
                case rel =>
                  refine ⟨m + 1, q + n, rfl, by omega, by go_num, ?_, rfl⟩
                  intro x hx
                  rw [List.take_succ_eq_append_getElem hmt, HO.out] at hx
                  rcases List.mem_append.1 hx with hx | hx
                  · exact HNO.out x hx
                  · rw [List.mem_singleton.1 hx]; exact HB1.out
            · obtain rfl : m = L.length := by omega
              rw [List.take_length] at hno
              have hyes : isReady now es e = true := by
                have h1 : (es.any fun o => o.r.blocks e.r) = false := by
                  rw [List.any_eq_false]
                  intro o ho
                  have := hno o (HL.out ▸ (byPage_perm HT.out.ok).symm.subset ho)
                  simp [this]
                have h2 : e.r.after ≤ now := by omega
                have h3 := HS0.out
                simp [isReady, h1, h2, h3]
              have HN := Lib.hid (filter_take_yes (isReady now es) hlt (by rw [HE.out]; exact hyes))
              have hfl : ((L.take j).filter (isReady now es)).length ≤ j := Nat.le_trans (List.length_filter_le _ _) (List.length_take_le _ _)
              have hrowq : (wo.drewN q).ownsRow w1.heap.size 97 1 u6 ((L.take j).filter (isReady now es)).length (((L.take j).filter (isReady now es)).map fun e => ptr e.p) := hrow
              have hBq : Below w1.heap.size w1 (wo.drewN q) := below_drewN hB q
              obtain ⟨R, hR⟩ : ∃ R, (L.take j).filter (isReady now es) = R := ⟨_, rfl⟩
              rw [hR] at hrowq hfl
              have HRR := Lib.hid hR
              have hsz := hBq.size
              clear hno hyes hR hrow hm
              go_wp2_with (at_builtin; refine wpList_append_own _ rfl _ _ 90 rfl w1.heap.size 97 i0 (.pointer none) 1 8 Tryz.underlying90 hi hz0 hz1 hz2 rfl (by decide) _ _ _ rfl (hrowq.alloc _) ⟨(wo.drewN q).heap.size, 0, none⟩ 1 1 [ptr e.p] rfl rfl (cell_one_new _ _ _) (by simp [Value.oneCell']) ?_ ?_ ?_ ?_)
              · unfold maxLen; omega
              · omega
              · rw [World.size_alloc]; omega
              intro v' w2 hown' hgrow _
              have hB2 : Below w1.heap.size w1 w2 := (hBq.alloc hsz _).grown hgrow (by rw [World.size_alloc]; omega) (fun k ek => (hrowq.lt k ek).1)
              have hown2 : w2.ownsRow w1.heap.size 97 1 v' ((L.take (j + 1)).filter (isReady now es)).length (((L.take (j + 1)).filter (isReady now es)).map fun e => ptr e.p) := by
                rw [HN.out, HE.out, HRR.out]; simpa using hown'
              have HO2 := Lib.hid hown2
              clear hown' hgrow hown2 hrowq
              go_wp2
              go_roundg (L.length - (j + 1))
              case measure => omega
              case rel => exact ⟨j + 1, rfl, by omega, by go_num, HO2.out, hB2⟩
      · have hs' : (e.r.state != 0) = true := by simpa using hs
        have hno : isReady now es e = false := by simp [isReady, hs]
        have HN := Lib.hid (filter_take_no (isReady now es) hlt (by rw [HE.out]; exact hno))
        clear hs hno
        go_wp2
        go_roundg (L.length - (j + 1))
        case measure => omega
        case rel => exact ⟨j + 1, rfl, by omega, by go_num, by rw [HN.out]; exact hrow, hB⟩
    · have hjl : j = L.length := by omega
      have HR := Lib.hid hrow
      have HJ := Lib.hid hjl
      clear hrow hjl
      go_wp2
      rw [Exit.noGoto_ret]
      go_ret
      refine ⟨_, rfl, ?_, hb.trans (hB.mono hb.size)⟩
      have h1 := HR.out
      rw [HJ.out, List.take_length, HL.out] at h1
      exact ⟨h1.1, h1.2.imp id fun ⟨g, cap, cur, h1, h2, h3⟩ => ⟨g, cap, cur, h1, Nat.le_trans hb.size h2, h3⟩⟩

set_option maxRecDepth 100000 in
set_option maxHeartbeats 1000000 in
theorem ready_any (tb mb clock : Nat) (last held now : Int) (es : List Ent) (w : World) (h : TabB w tb mb clock last held es) :
    Calls Tryz.prog 38 #[ptr tb, .int .i64 now] w fun e w' =>
      ∃ v : Value, e = .returned v ∧ w'.ownsRow w.heap.size 97 1 v (readyE now es).length ((readyE now es).map fun e => ptr e.p) ∧ Below w.heap.size w w' := by
  by_cases hes : byPage es = []
  · have HS := Lib.hid (sorted_any tb mb clock last held es w h)
    have hre : readyE now es = [] := by simp [readyE, hes]
    rw [hre]
    have HE := Lib.hid hes
    clear h hes hre
    go_enter Tryz.func38, Tryz.ntmps38
    go_wp2_with fail
    go_step3
    go_wp2_with fail
    refine HS.out.mono ?_
    rintro e w1 ⟨v, rfl, hrow, hb⟩
    rw [HE.out] at hrow
    rcases hrow.2 with ⟨rfl, hz⟩ | ⟨g, cap, cur, rfl, hbase, hgb, r1, r2, r3, r4⟩
    · clear hrow
      go_wp2_with fail
      go_step3
      go_wp2_with fail
      refine wp_loop_rounds 1 ?_
      rw [rounds_succ]
      go_wp2
      rw [Exit.noGoto_ret]
      go_ret
      exact ⟨_, rfl, World.ownsRow_nil _ _ _ _, hb⟩
    · clear hrow
      simp only [List.length_nil] at *
      go_wp2_with fail
      go_step3
      go_wp2_with fail
      refine wp_loop_rounds 1 ?_
      rw [rounds_succ]
      go_wp2
      rw [Exit.noGoto_ret]
      go_ret
      exact ⟨_, rfl, World.ownsRow_nil _ _ _ _, hb⟩
  · exact ready_some tb mb clock last held now es w h hes
end Go.Proofs.YticobikhndlejaaGreatDoor
