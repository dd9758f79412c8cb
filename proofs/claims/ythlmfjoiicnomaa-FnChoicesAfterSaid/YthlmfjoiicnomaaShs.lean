/-
  PROVED HERE: the library's contracts of slices.Sort and slices.Compact at this program, laid by the guide's own tool's words. CONDITIONS: as each theorem states.
-/
import Derived.Test.YthlmfjoiicnomaaPrg
import Derived.Shelf.Sort.Plain
import Derived.Shelf.Slices.CompactI
import Derived.Shelf.Slices.In.SortNone
import Derived.Sort.OwnSortedInts
namespace Go.Proofs.Ythlmfjoiicnomaa
open Go.Shelf Go.RowKit Go.Sort Go.Lib
set_option linter.unusedVariables false
def Try.lays189_ren : Go.Shelf.Ren := ⟨fun | 125 => 146 | 128 => 158 | 129 => 159 | 189 => 141 | 215 => 166 | 216 => 155 | 257 => 145 | 294 => 149 | 295 => 150 | 296 => 151 | 297 => 152 | 298 => 153 | 299 => 154 | 300 => 156 | 301 => 157 | 328 => 161 | 329 => 162 | 330 => 163 | 331 => 164 | 332 => 165 | 343 => 168 | n => n, fun | 0 => 0 | 3 => 3 | 4 => 4 | 5 => 5 | 9 => 9 | 28 => 24 | 46 => 193 | 51 => 171 | 53 => 206 | 131 => 202 | 182 => 197 | 183 => 198 | 218 => 207 | 222 => 210 | 228 => 213 | 229 => 214 | n => n, fun | n => n⟩
theorem Try.lays189 : Go.Proofs.Lays.n189 Try.prog Try.lays189_ren := {
  mixed := by kernel_rfl
  f125 := Try.func146.trans (congrArg some (by kernel_rfl))
  f128 := Try.func158.trans (congrArg some (by kernel_rfl))
  f129 := Try.func159.trans (congrArg some (by kernel_rfl))
  f189 := Try.func141.trans (congrArg some (by kernel_rfl))
  f215 := Try.func166.trans (congrArg some (by kernel_rfl))
  f216 := Try.func155.trans (congrArg some (by kernel_rfl))
  f257 := Try.func145.trans (congrArg some (by kernel_rfl))
  f294 := Try.func149.trans (congrArg some (by kernel_rfl))
  f295 := Try.func150.trans (congrArg some (by kernel_rfl))
  f296 := Try.func151.trans (congrArg some (by kernel_rfl))
  f297 := Try.func152.trans (congrArg some (by kernel_rfl))
  f298 := Try.func153.trans (congrArg some (by kernel_rfl))
  f299 := Try.func154.trans (congrArg some (by kernel_rfl))
  f300 := Try.func156.trans (congrArg some (by kernel_rfl))
  f301 := Try.func157.trans (congrArg some (by kernel_rfl))
  f328 := Try.func161.trans (congrArg some (by kernel_rfl))
  f329 := Try.func162.trans (congrArg some (by kernel_rfl))
  f330 := Try.func163.trans (congrArg some (by kernel_rfl))
  f331 := Try.func164.trans (congrArg some (by kernel_rfl))
  f332 := Try.func165.trans (congrArg some (by kernel_rfl))
  f343 := Try.func168.trans (congrArg some (by kernel_rfl))
  t0 := Try.underlying0
  a0 := Try.isAgg0
  z0 := Try.sizeOf0
  v0 := Try.zeroValue0
  t3 := Try.underlying3
  a3 := Try.isAgg3
  z3 := Try.sizeOf3
  v3 := Try.zeroValue3
  t4 := Try.underlying4
  a4 := Try.isAgg4
  z4 := Try.sizeOf4
  v4 := Try.zeroValue4
  t5 := Try.underlying5
  a5 := Try.isAgg5
  z5 := Try.sizeOf5
  v5 := Try.zeroValue5
  t9 := Try.underlying9
  a9 := Try.isAgg9
  z9 := Try.sizeOf9
  v9 := Try.zeroValue9
  t28 := Try.underlying24
  a28 := Try.isAgg24
  z28 := Try.sizeOf24
  v28 := Try.zeroValue24
  t46 := Try.underlying193
  a46 := Try.isAgg193
  z46 := Try.sizeOf193
  v46 := Try.zeroValue193
  t51 := Try.underlying171
  a51 := Try.isAgg171
  z51 := Try.sizeOf171
  v51 := Try.zeroValue171
  t53 := Try.underlying206
  a53 := Try.isAgg206
  z53 := Try.sizeOf206
  v53 := Try.zeroValue206
  t131 := Try.underlying202
  a131 := Try.isAgg202
  z131 := Try.sizeOf202
  v131 := Try.zeroValue202
  t182 := Try.underlying197
  a182 := Try.isAgg197
  z182 := Try.sizeOf197
  v182 := Try.zeroValue197
  t183 := Try.underlying198
  a183 := Try.isAgg198
  z183 := Try.sizeOf198
  v183 := Try.zeroValue198
  t218 := Try.underlying207
  a218 := Try.isAgg207
  z218 := Try.sizeOf207
  v218 := Try.zeroValue207
  t222 := Try.underlying210
  a222 := Try.isAgg210
  z222 := Try.sizeOf210
  v222 := Try.zeroValue210
  t228 := Try.underlying213
  a228 := Try.isAgg213
  z228 := Try.sizeOf213
  v228 := Try.zeroValue213
  t229 := Try.underlying214
  a229 := Try.isAgg214
  z229 := Try.sizeOf214
  v229 := Try.zeroValue214 }
theorem Try.slices_Sort_int (blk off cap : Nat) (zs : List Int) (w : World) (hH : Holds (Value.int .i64) w blk off zs.toArray) (hblk : blk < w.heap.size) (hsz : zs.length < 4611686018427387904) :
    Calls Try.prog 141 #[.slice (some ⟨blk, off, none⟩) zs.length cap] w fun e w' =>
      e = .returned (.tuple #[]) ∧ ∃ n os, w' = grow (putRow (Value.int .i64) (Sort.ahead w n) blk off (zs.mergeSort fun x y => decide (x ≤ y)).toArray) os := Any.slices_Sort_int Try.lays189 blk off cap zs w hH hblk hsz
theorem Try.slices_Sort_int_none (a : Option Addr) (cap : Nat) (w : World) :
    Calls Try.prog 141 #[.slice a 0 cap] w fun e w' => e = .returned (.tuple #[]) ∧ w' = w :=
  calls_of_every_depth fun D => AnyS.slices_Sort_int_none_in Try.lays189 D a cap w
end Go.Proofs.Ythlmfjoiicnomaa
