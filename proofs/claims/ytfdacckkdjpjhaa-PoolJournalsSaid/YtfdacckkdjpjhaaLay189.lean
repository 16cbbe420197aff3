/- The shelf's facts of slices.Sort at []int, of this seat's program: a table of numbers, and each body compared. -/
import Derived.Shelf.Sort.Plain
import Derived.Shelf.Slices.In.SortNone
import Derived.Test.YtfdacckkdjpjhaaProg
namespace Go.Proofs.Ytfdacckkdjpjhaa
open Go.Shelf

def ren189 : Ren :=
  {
  f := fun x =>
    match x with
    | 189 => 79
    | 125 => 87
    | 257 => 86
    | 128 => 101
    | 129 => 102
    | 294 => 92
    | 295 => 93
    | 296 => 94
    | 297 => 95
    | 298 => 96
    | 299 => 97
    | 216 => 98
    | 300 => 99
    | 301 => 100
    | 328 => 104
    | 329 => 105
    | 330 => 106
    | 331 => 107
    | 332 => 108
    | 215 => 109
    | 343 => 110
    | n => n,
  t := fun x =>
    match x with
    | 28 => 22
    | 3 => 3
    | 46 => 116
    | 0 => 0
    | 51 => 170
    | 53 => 115
    | 4 => 4
    | 183 => 164
    | 182 => 163
    | 131 => 167
    | 5 => 5
    | 9 => 9
    | 218 => 172
    | 222 => 175
    | 228 => 177
    | 229 => 178
    | n => n,
  g := fun x =>
    have n := x;
    n }
theorem lays189 : Lays.n189 Try.prog ren189 :=
  {
    mixed := Eq.refl Bool.true,
    f125 := by kernel_rfl,
    f128 := by kernel_rfl,
    f129 := by kernel_rfl,
    f189 := by kernel_rfl,
    f215 := by kernel_rfl,
    f216 := by kernel_rfl,
    f257 := by kernel_rfl,
    f294 := by kernel_rfl,
    f295 := by kernel_rfl,
    f296 := by kernel_rfl,
    f297 := by kernel_rfl,
    f298 := by kernel_rfl,
    f299 := by kernel_rfl,
    f300 := by kernel_rfl,
    f301 := by kernel_rfl,
    f328 := by kernel_rfl,
    f329 := by kernel_rfl,
    f330 := by kernel_rfl,
    f331 := by kernel_rfl,
    f332 := by kernel_rfl,
    f343 := by kernel_rfl,
    t0 := Go.Proofs.Try.underlying0,
    a0 := Go.Proofs.Try.isAgg0,
    z0 := Go.Proofs.Try.sizeOf0,
    v0 := Go.Proofs.Try.zeroValue0,
    t3 := Go.Proofs.Try.underlying3,
    a3 := Go.Proofs.Try.isAgg3,
    z3 := Go.Proofs.Try.sizeOf3,
    v3 := Go.Proofs.Try.zeroValue3,
    t4 := Go.Proofs.Try.underlying4,
    a4 := Go.Proofs.Try.isAgg4,
    z4 := Go.Proofs.Try.sizeOf4,
    v4 := Go.Proofs.Try.zeroValue4,
    t5 := Go.Proofs.Try.underlying5,
    a5 := Go.Proofs.Try.isAgg5,
    z5 := Go.Proofs.Try.sizeOf5,
    v5 := Go.Proofs.Try.zeroValue5,
    t9 := Go.Proofs.Try.underlying9,
    a9 := Go.Proofs.Try.isAgg9,
    z9 := Go.Proofs.Try.sizeOf9,
    v9 := Go.Proofs.Try.zeroValue9,
    t28 := Go.Proofs.Try.underlying22,
    a28 := Go.Proofs.Try.isAgg22,
    z28 := Go.Proofs.Try.sizeOf22,
    v28 := Go.Proofs.Try.zeroValue22,
    t46 := Go.Proofs.Try.underlying116,
    a46 := Go.Proofs.Try.isAgg116,
    z46 := Go.Proofs.Try.sizeOf116,
    v46 := Go.Proofs.Try.zeroValue116,
    t51 := Go.Proofs.Try.underlying170,
    a51 := Go.Proofs.Try.isAgg170,
    z51 := Go.Proofs.Try.sizeOf170,
    v51 := Go.Proofs.Try.zeroValue170,
    t53 := Go.Proofs.Try.underlying115,
    a53 := Go.Proofs.Try.isAgg115,
    z53 := Go.Proofs.Try.sizeOf115,
    v53 := Go.Proofs.Try.zeroValue115,
    t131 := Go.Proofs.Try.underlying167,
    a131 := Go.Proofs.Try.isAgg167,
    z131 := Go.Proofs.Try.sizeOf167,
    v131 := Go.Proofs.Try.zeroValue167,
    t182 := Go.Proofs.Try.underlying163,
    a182 := Go.Proofs.Try.isAgg163,
    z182 := Go.Proofs.Try.sizeOf163,
    v182 := Go.Proofs.Try.zeroValue163,
    t183 := Go.Proofs.Try.underlying164,
    a183 := Go.Proofs.Try.isAgg164,
    z183 := Go.Proofs.Try.sizeOf164,
    v183 := Go.Proofs.Try.zeroValue164,
    t218 := Go.Proofs.Try.underlying172,
    a218 := Go.Proofs.Try.isAgg172,
    z218 := Go.Proofs.Try.sizeOf172,
    v218 := Go.Proofs.Try.zeroValue172,
    t222 := Go.Proofs.Try.underlying175,
    a222 := Go.Proofs.Try.isAgg175,
    z222 := Go.Proofs.Try.sizeOf175,
    v222 := Go.Proofs.Try.zeroValue175,
    t228 := Go.Proofs.Try.underlying177,
    a228 := Go.Proofs.Try.isAgg177,
    z228 := Go.Proofs.Try.sizeOf177,
    v228 := Go.Proofs.Try.zeroValue177,
    t229 := Go.Proofs.Try.underlying178,
    a229 := Go.Proofs.Try.isAgg178,
    z229 := Go.Proofs.Try.sizeOf178,
    v229 := Go.Proofs.Try.zeroValue178 }
end Go.Proofs.Ytfdacckkdjpjhaa
