/-
  DERIVED: THE SHELF's CONTRACTS AT THIS DUMP, IN PLAIN WORDS (tools/lay-plain.mjs out of 'TryzShelf.lean', which tools/lay-shelf.mjs wrote): THE SAME DECLARATIONS UNDER THE SAME NAMES: 'import', 'namespace', 'open', 'def', 'theorem' AND NOTHING ELSE: no command of the shelf's: FOR A HAND-IN. Each laying: the table of numbers ('.._ren') and one theorem, a field a fact of the dump's own or the kernel's comparison; each contract: ONE APPLICATION.
-/
import Derived.Shelf.Sort.Plain
import Derived.Ground.NamesProg
import Derived.Test.YtlkgjffffeohdaaGreatProg
namespace Go.Proofs
open Go.Shelf
def Tryz.lays189_ren : Go.Shelf.Ren := ⟨fun | 189 => 186 | 125 => 259 | 257 => 258 | 128 => 299 | 129 => 300 | 294 => 290 | 295 => 291 | 296 => 292 | 297 => 293 | 298 => 294 | 299 => 295 | 216 => 296 | 300 => 297 | 301 => 298 | 328 => 310 | 329 => 311 | 330 => 312 | 331 => 313 | 332 => 314 | 215 => 315 | 343 => 326 | n => n, fun | 28 => 123 | 3 => 3 | 46 => 220 | 0 => 0 | 51 => 254 | 53 => 253 | 4 => 4 | 183 => 348 | 182 => 347 | 131 => 352 | 5 => 5 | 9 => 9 | 218 => 361 | 222 => 365 | 228 => 373 | 229 => 57 | n => n, fun | n => n⟩
theorem Tryz.lays189 : Go.Proofs.Lays.n189 Tryz.prog Tryz.lays189_ren := {
  mixed := by kernel_rfl
  f125 := Tryz.func259.trans (congrArg some (by kernel_rfl))
  f128 := Tryz.func299.trans (congrArg some (by kernel_rfl))
  f129 := Tryz.func300.trans (congrArg some (by kernel_rfl))
  f189 := Tryz.func186.trans (congrArg some (by kernel_rfl))
  f215 := Tryz.func315.trans (congrArg some (by kernel_rfl))
  f216 := Tryz.func296.trans (congrArg some (by kernel_rfl))
  f257 := Tryz.func258.trans (congrArg some (by kernel_rfl))
  f294 := Tryz.func290.trans (congrArg some (by kernel_rfl))
  f295 := Tryz.func291.trans (congrArg some (by kernel_rfl))
  f296 := Tryz.func292.trans (congrArg some (by kernel_rfl))
  f297 := Tryz.func293.trans (congrArg some (by kernel_rfl))
  f298 := Tryz.func294.trans (congrArg some (by kernel_rfl))
  f299 := Tryz.func295.trans (congrArg some (by kernel_rfl))
  f300 := Tryz.func297.trans (congrArg some (by kernel_rfl))
  f301 := Tryz.func298.trans (congrArg some (by kernel_rfl))
  f328 := Tryz.func310.trans (congrArg some (by kernel_rfl))
  f329 := Tryz.func311.trans (congrArg some (by kernel_rfl))
  f330 := Tryz.func312.trans (congrArg some (by kernel_rfl))
  f331 := Tryz.func313.trans (congrArg some (by kernel_rfl))
  f332 := Tryz.func314.trans (congrArg some (by kernel_rfl))
  f343 := Tryz.func326.trans (congrArg some (by kernel_rfl))
  t0 := Tryz.underlying0
  a0 := Tryz.isAgg0
  z0 := Tryz.sizeOf0
  v0 := Tryz.zeroValue0
  t3 := Tryz.underlying3
  a3 := Tryz.isAgg3
  z3 := Tryz.sizeOf3
  v3 := Tryz.zeroValue3
  t4 := Tryz.underlying4
  a4 := Tryz.isAgg4
  z4 := Tryz.sizeOf4
  v4 := Tryz.zeroValue4
  t5 := Tryz.underlying5
  a5 := Tryz.isAgg5
  z5 := Tryz.sizeOf5
  v5 := Tryz.zeroValue5
  t9 := Tryz.underlying9
  a9 := Tryz.isAgg9
  z9 := Tryz.sizeOf9
  v9 := Tryz.zeroValue9
  t28 := Tryz.underlying123
  a28 := Tryz.isAgg123
  z28 := Tryz.sizeOf123
  v28 := Tryz.zeroValue123
  t46 := Tryz.underlying220
  a46 := Tryz.isAgg220
  z46 := Tryz.sizeOf220
  v46 := Tryz.zeroValue220
  t51 := Tryz.underlying254
  a51 := Tryz.isAgg254
  z51 := Tryz.sizeOf254
  v51 := Tryz.zeroValue254
  t53 := Tryz.underlying253
  a53 := Tryz.isAgg253
  z53 := Tryz.sizeOf253
  v53 := Tryz.zeroValue253
  t131 := Tryz.underlying352
  a131 := Tryz.isAgg352
  z131 := Tryz.sizeOf352
  v131 := Tryz.zeroValue352
  t182 := Tryz.underlying347
  a182 := Tryz.isAgg347
  z182 := Tryz.sizeOf347
  v182 := Tryz.zeroValue347
  t183 := Tryz.underlying348
  a183 := Tryz.isAgg348
  z183 := Tryz.sizeOf348
  v183 := Tryz.zeroValue348
  t218 := Tryz.underlying361
  a218 := Tryz.isAgg361
  z218 := Tryz.sizeOf361
  v218 := Tryz.zeroValue361
  t222 := Tryz.underlying365
  a222 := Tryz.isAgg365
  z222 := Tryz.sizeOf365
  v222 := Tryz.zeroValue365
  t228 := Tryz.underlying373
  a228 := Tryz.isAgg373
  z228 := Tryz.sizeOf373
  v228 := Tryz.zeroValue373
  t229 := Tryz.underlying57
  a229 := Tryz.isAgg57
  z229 := Tryz.sizeOf57
  v229 := Tryz.zeroValue57 }
open Go.Sort Go.RowKit in
theorem Tryz.slices_Sort_int (blk off cap : Nat) (zs : List Int) (w : World) (hH : Holds (Value.int .i64) w blk off zs.toArray) (hblk : blk < w.heap.size) (hsz : zs.length < 4611686018427387904) :
    Calls Tryz.prog 186 #[.slice (some ⟨blk, off, none⟩) zs.length cap] w fun e w' =>
      e = .returned (.tuple #[]) ∧ ∃ n os, w' = grow (putRow (Value.int .i64) (Sort.ahead w n) blk off (zs.mergeSort fun x y => decide (x ≤ y)).toArray) os := Any.slices_Sort_int Tryz.lays189 blk off cap zs w hH hblk hsz
end Go.Proofs
