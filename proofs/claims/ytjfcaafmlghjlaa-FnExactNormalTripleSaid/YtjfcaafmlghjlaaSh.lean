/-
  DERIVED: THE SHELF's CONTRACTS AT THIS DUMP, IN PLAIN WORDS (tools/lay-plain.mjs out of 'YtjfcaafmlghjlaaSf.lean', which tools/lay-shelf.mjs wrote): THE SAME DECLARATIONS UNDER THE SAME NAMES: 'import', 'namespace', 'open', 'def', 'theorem' AND NOTHING ELSE: no command of the shelf's: FOR A HAND-IN. Each laying: the table of numbers ('.._ren') and one theorem, a field a fact of the dump's own or the kernel's comparison; each contract: ONE APPLICATION.
-/
import Derived.Shelf.Sort.Plain
import Derived.Test.YtjfcaafmlghjlaaProg
namespace Go.Proofs
open Go.Shelf
def Try.lays191_ren : Go.Shelf.Ren := ⟨fun | 191 => 290 | 189 => 324 | 125 => 334 | 257 => 342 | 128 => 356 | 129 => 357 | 294 => 370 | 295 => 371 | 296 => 372 | 297 => 373 | 298 => 374 | 299 => 375 | 216 => 376 | 300 => 377 | 301 => 378 | 328 => 386 | 329 => 387 | 330 => 388 | 331 => 389 | 332 => 390 | 215 => 391 | 343 => 393 | n => n, fun | 28 => 31 | 0 => 0 | 3 => 3 | 46 => 263 | 51 => 296 | 53 => 144 | 4 => 4 | 183 => 311 | 182 => 310 | 131 => 26 | 5 => 5 | 9 => 9 | 218 => 325 | 222 => 323 | 228 => 330 | 229 => 24 | n => n, fun | n => n⟩
theorem Try.lays191 : Go.Proofs.Lays.n191 Try.prog Try.lays191_ren := {
  mixed := by kernel_rfl
  f125 := Try.func334.trans (congrArg some (by kernel_rfl))
  f128 := Try.func356.trans (congrArg some (by kernel_rfl))
  f129 := Try.func357.trans (congrArg some (by kernel_rfl))
  f189 := Try.func324.trans (congrArg some (by kernel_rfl))
  f191 := Try.func290.trans (congrArg some (by kernel_rfl))
  f215 := Try.func391.trans (congrArg some (by kernel_rfl))
  f216 := Try.func376.trans (congrArg some (by kernel_rfl))
  f257 := Try.func342.trans (congrArg some (by kernel_rfl))
  f294 := Try.func370.trans (congrArg some (by kernel_rfl))
  f295 := Try.func371.trans (congrArg some (by kernel_rfl))
  f296 := Try.func372.trans (congrArg some (by kernel_rfl))
  f297 := Try.func373.trans (congrArg some (by kernel_rfl))
  f298 := Try.func374.trans (congrArg some (by kernel_rfl))
  f299 := Try.func375.trans (congrArg some (by kernel_rfl))
  f300 := Try.func377.trans (congrArg some (by kernel_rfl))
  f301 := Try.func378.trans (congrArg some (by kernel_rfl))
  f328 := Try.func386.trans (congrArg some (by kernel_rfl))
  f329 := Try.func387.trans (congrArg some (by kernel_rfl))
  f330 := Try.func388.trans (congrArg some (by kernel_rfl))
  f331 := Try.func389.trans (congrArg some (by kernel_rfl))
  f332 := Try.func390.trans (congrArg some (by kernel_rfl))
  f343 := Try.func393.trans (congrArg some (by kernel_rfl))
  t0 := Try.underlying0
  a0 := Try.isAgg0
  z0 := Try.sizeOf0
  v0 := Try.zeroValue0
  t3 := Try.underlying3
  a3 := Try.isAgg3
  z3 := Try.sizeOf3
  v3 := Try.zeroValue3
  t4 := Try.underlying4
  a4 := Try.isAgg4
  z4 := Try.sizeOf4
  v4 := Try.zeroValue4
  t5 := Try.underlying5
  a5 := Try.isAgg5
  z5 := Try.sizeOf5
  v5 := Try.zeroValue5
  t9 := Try.underlying9
  a9 := Try.isAgg9
  z9 := Try.sizeOf9
  v9 := Try.zeroValue9
  t28 := Try.underlying31
  a28 := Try.isAgg31
  z28 := Try.sizeOf31
  v28 := Try.zeroValue31
  t46 := Try.underlying263
  a46 := Try.isAgg263
  z46 := Try.sizeOf263
  v46 := Try.zeroValue263
  t51 := Try.underlying296
  a51 := Try.isAgg296
  z51 := Try.sizeOf296
  v51 := Try.zeroValue296
  t53 := Try.underlying144
  a53 := Try.isAgg144
  z53 := Try.sizeOf144
  v53 := Try.zeroValue144
  t131 := Try.underlying26
  a131 := Try.isAgg26
  z131 := Try.sizeOf26
  v131 := Try.zeroValue26
  t182 := Try.underlying310
  a182 := Try.isAgg310
  z182 := Try.sizeOf310
  v182 := Try.zeroValue310
  t183 := Try.underlying311
  a183 := Try.isAgg311
  z183 := Try.sizeOf311
  v183 := Try.zeroValue311
  t218 := Try.underlying325
  a218 := Try.isAgg325
  z218 := Try.sizeOf325
  v218 := Try.zeroValue325
  t222 := Try.underlying323
  a222 := Try.isAgg323
  z222 := Try.sizeOf323
  v222 := Try.zeroValue323
  t228 := Try.underlying330
  a228 := Try.isAgg330
  z228 := Try.sizeOf330
  v228 := Try.zeroValue330
  t229 := Try.underlying24
  a229 := Try.isAgg24
  z229 := Try.sizeOf24
  v229 := Try.zeroValue24 }
open Go.Sort Go.RowKit in
theorem Try.sort_Ints (blk off cap : Nat) (zs : List Int) (w : World) (hH : Holds (Value.int .i64) w blk off zs.toArray) (hblk : blk < w.heap.size) (hsz : zs.length < 4611686018427387904) :
    Calls Try.prog 290 #[.slice (some ⟨blk, off, none⟩) zs.length cap] w fun e w' =>
      e = .returned (.tuple #[]) ∧ ∃ n os, w' = grow (putRow (Value.int .i64) (Sort.ahead w n) blk off (zs.mergeSort fun x y => decide (x ≤ y)).toArray) os := Any.sort_Ints Try.lays191 blk off cap zs w hH hblk hsz
end Go.Proofs
