/- The library's contract of slices.Sort at this program (laid by the guide's lay-shelf.mjs and lay-plain.mjs). -/
import Derived.Shelf.Sort.Plain
import Derived.Shelf.Slices.In.SortNone
import Derived.Ground.Names2Prog
import Derived.Ground.SlgnProg
import Derived.Test.YtbakhifhjmjpnaaProg
namespace Go.Proofs
open Go.Shelf
def Try.lays189_ren : Go.Shelf.Ren := ⟨fun | 189 => 9 | 125 => 13 | 257 => 12 | 128 => 24 | 129 => 25 | 294 => 15 | 295 => 16 | 296 => 17 | 297 => 18 | 298 => 19 | 299 => 20 | 216 => 21 | 300 => 22 | 301 => 23 | 328 => 26 | 329 => 27 | 330 => 28 | 331 => 29 | 332 => 30 | 215 => 31 | 343 => 32 | n => n, fun | 28 => 24 | 3 => 3 | 46 => 40 | 0 => 0 | 51 => 52 | 53 => 25 | 4 => 4 | 183 => 45 | 182 => 44 | 131 => 49 | 5 => 5 | 9 => 9 | 218 => 54 | 222 => 58 | 228 => 61 | 229 => 62 | n => n, fun | n => n⟩
theorem Try.lays189 : Go.Proofs.Lays.n189 Try.prog Try.lays189_ren := {
  mixed := by kernel_rfl
  f125 := Try.func13.trans (congrArg some (by kernel_rfl))
  f128 := Try.func24.trans (congrArg some (by kernel_rfl))
  f129 := Try.func25.trans (congrArg some (by kernel_rfl))
  f189 := Try.func9.trans (congrArg some (by kernel_rfl))
  f215 := Try.func31.trans (congrArg some (by kernel_rfl))
  f216 := Try.func21.trans (congrArg some (by kernel_rfl))
  f257 := Try.func12.trans (congrArg some (by kernel_rfl))
  f294 := Try.func15.trans (congrArg some (by kernel_rfl))
  f295 := Try.func16.trans (congrArg some (by kernel_rfl))
  f296 := Try.func17.trans (congrArg some (by kernel_rfl))
  f297 := Try.func18.trans (congrArg some (by kernel_rfl))
  f298 := Try.func19.trans (congrArg some (by kernel_rfl))
  f299 := Try.func20.trans (congrArg some (by kernel_rfl))
  f300 := Try.func22.trans (congrArg some (by kernel_rfl))
  f301 := Try.func23.trans (congrArg some (by kernel_rfl))
  f328 := Try.func26.trans (congrArg some (by kernel_rfl))
  f329 := Try.func27.trans (congrArg some (by kernel_rfl))
  f330 := Try.func28.trans (congrArg some (by kernel_rfl))
  f331 := Try.func29.trans (congrArg some (by kernel_rfl))
  f332 := Try.func30.trans (congrArg some (by kernel_rfl))
  f343 := Try.func32.trans (congrArg some (by kernel_rfl))
  t0 := Try.underlying0
  a0 := Try.isAgg0
  z0 := Try.sizeOf0
  v0 := Try.zeroValue0
  t3 := Try.underlying3
  a3 := Try.isAgg3
  z3 := Try.sizeOf3
  v3 := Try.zeroValue3
  t4 := Try.underlying4
  a4 := Try.isAgg4
  z4 := Try.sizeOf4
  v4 := Try.zeroValue4
  t5 := Try.underlying5
  a5 := Try.isAgg5
  z5 := Try.sizeOf5
  v5 := Try.zeroValue5
  t9 := Try.underlying9
  a9 := Try.isAgg9
  z9 := Try.sizeOf9
  v9 := Try.zeroValue9
  t28 := Try.underlying24
  a28 := Try.isAgg24
  z28 := Try.sizeOf24
  v28 := Try.zeroValue24
  t46 := Try.underlying40
  a46 := Try.isAgg40
  z46 := Try.sizeOf40
  v46 := Try.zeroValue40
  t51 := Try.underlying52
  a51 := Try.isAgg52
  z51 := Try.sizeOf52
  v51 := Try.zeroValue52
  t53 := Try.underlying25
  a53 := Try.isAgg25
  z53 := Try.sizeOf25
  v53 := Try.zeroValue25
  t131 := Try.underlying49
  a131 := Try.isAgg49
  z131 := Try.sizeOf49
  v131 := Try.zeroValue49
  t182 := Try.underlying44
  a182 := Try.isAgg44
  z182 := Try.sizeOf44
  v182 := Try.zeroValue44
  t183 := Try.underlying45
  a183 := Try.isAgg45
  z183 := Try.sizeOf45
  v183 := Try.zeroValue45
  t218 := Try.underlying54
  a218 := Try.isAgg54
  z218 := Try.sizeOf54
  v218 := Try.zeroValue54
  t222 := Try.underlying58
  a222 := Try.isAgg58
  z222 := Try.sizeOf58
  v222 := Try.zeroValue58
  t228 := Try.underlying61
  a228 := Try.isAgg61
  z228 := Try.sizeOf61
  v228 := Try.zeroValue61
  t229 := Try.underlying62
  a229 := Try.isAgg62
  z229 := Try.sizeOf62
  v229 := Try.zeroValue62 }
open Go.Sort Go.RowKit in
theorem Try.slices_Sort_int (blk off cap : Nat) (zs : List Int) (w : World) (hH : Holds (Value.int .i64) w blk off zs.toArray) (hblk : blk < w.heap.size) (hsz : zs.length < 4611686018427387904) :
    Calls Try.prog 9 #[.slice (some ⟨blk, off, none⟩) zs.length cap] w fun e w' =>
      e = .returned (.tuple #[]) ∧ ∃ n os, w' = grow (putRow (Value.int .i64) (Sort.ahead w n) blk off (zs.mergeSort fun x y => decide (x ≤ y)).toArray) os := Any.slices_Sort_int Try.lays189 blk off cap zs w hH hblk hsz
open Go.RowKit Go.Sort in
/-- .. and plain. (LAID: no walk: one application.) -/
theorem Try.slices_Sort_int_none (p : Option Addr) (cap : Nat) (w : World) :
    Calls Try.prog 9 #[.slice p 0 cap] w fun e w' => e = .returned (.tuple #[]) ∧ w' = w := Any.slices_Sort_int_none Try.lays189 p cap w
end Go.Proofs
