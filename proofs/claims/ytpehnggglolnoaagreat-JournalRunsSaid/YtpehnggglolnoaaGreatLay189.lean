/- The shelf's facts of slices.Sort at []int, of this seat's program: a table of numbers, and each body compared. -/
import Derived.Shelf.Sort.Plain
import Derived.Shelf.Slices.In.SortNone
import Derived.Test.YtpehnggglolnoaaGreatProg
namespace Go.Proofs.YtpehnggglolnoaaGreat
open Go.Shelf

def ren189 : Ren :=
  {
  f := fun x =>
    match x with
    | 189 => 49
    | 125 => 64
    | 257 => 63
    | 128 => 88
    | 129 => 89
    | 294 => 79
    | 295 => 80
    | 296 => 81
    | 297 => 82
    | 298 => 83
    | 299 => 84
    | 216 => 85
    | 300 => 86
    | 301 => 87
    | 328 => 95
    | 329 => 96
    | 330 => 97
    | 331 => 98
    | 332 => 99
    | 215 => 100
    | 343 => 101
    | n => n,
  t := fun x =>
    match x with
    | 28 => 22
    | 3 => 3
    | 46 => 67
    | 0 => 0
    | 51 => 119
    | 53 => 76
    | 4 => 4
    | 183 => 111
    | 182 => 110
    | 131 => 116
    | 5 => 5
    | 9 => 9
    | 218 => 125
    | 222 => 128
    | 228 => 130
    | 229 => 131
    | n => n,
  g := fun x =>
    have n := x;
    n }
theorem lays189 : Lays.n189 Tryz.prog ren189 :=
  {
    mixed := Eq.refl Bool.true,
    f125 := by kernel_rfl,
    f128 := by kernel_rfl,
    f129 := by kernel_rfl,
    f189 := by kernel_rfl,
    f215 := by kernel_rfl,
    f216 := by kernel_rfl,
    f257 := by kernel_rfl,
    f294 := by kernel_rfl,
    f295 := by kernel_rfl,
    f296 := by kernel_rfl,
    f297 := by kernel_rfl,
    f298 := by kernel_rfl,
    f299 := by kernel_rfl,
    f300 := by kernel_rfl,
    f301 := by kernel_rfl,
    f328 := by kernel_rfl,
    f329 := by kernel_rfl,
    f330 := by kernel_rfl,
    f331 := by kernel_rfl,
    f332 := by kernel_rfl,
    f343 := by kernel_rfl,
    t0 := Go.Proofs.Tryz.underlying0,
    a0 := Go.Proofs.Tryz.isAgg0,
    z0 := Go.Proofs.Tryz.sizeOf0,
    v0 := Go.Proofs.Tryz.zeroValue0,
    t3 := Go.Proofs.Tryz.underlying3,
    a3 := Go.Proofs.Tryz.isAgg3,
    z3 := Go.Proofs.Tryz.sizeOf3,
    v3 := Go.Proofs.Tryz.zeroValue3,
    t4 := Go.Proofs.Tryz.underlying4,
    a4 := Go.Proofs.Tryz.isAgg4,
    z4 := Go.Proofs.Tryz.sizeOf4,
    v4 := Go.Proofs.Tryz.zeroValue4,
    t5 := Go.Proofs.Tryz.underlying5,
    a5 := Go.Proofs.Tryz.isAgg5,
    z5 := Go.Proofs.Tryz.sizeOf5,
    v5 := Go.Proofs.Tryz.zeroValue5,
    t9 := Go.Proofs.Tryz.underlying9,
    a9 := Go.Proofs.Tryz.isAgg9,
    z9 := Go.Proofs.Tryz.sizeOf9,
    v9 := Go.Proofs.Tryz.zeroValue9,
    t28 := Go.Proofs.Tryz.underlying22,
    a28 := Go.Proofs.Tryz.isAgg22,
    z28 := Go.Proofs.Tryz.sizeOf22,
    v28 := Go.Proofs.Tryz.zeroValue22,
    t46 := Go.Proofs.Tryz.underlying67,
    a46 := Go.Proofs.Tryz.isAgg67,
    z46 := Go.Proofs.Tryz.sizeOf67,
    v46 := Go.Proofs.Tryz.zeroValue67,
    t51 := Go.Proofs.Tryz.underlying119,
    a51 := Go.Proofs.Tryz.isAgg119,
    z51 := Go.Proofs.Tryz.sizeOf119,
    v51 := Go.Proofs.Tryz.zeroValue119,
    t53 := Go.Proofs.Tryz.underlying76,
    a53 := Go.Proofs.Tryz.isAgg76,
    z53 := Go.Proofs.Tryz.sizeOf76,
    v53 := Go.Proofs.Tryz.zeroValue76,
    t131 := Go.Proofs.Tryz.underlying116,
    a131 := Go.Proofs.Tryz.isAgg116,
    z131 := Go.Proofs.Tryz.sizeOf116,
    v131 := Go.Proofs.Tryz.zeroValue116,
    t182 := Go.Proofs.Tryz.underlying110,
    a182 := Go.Proofs.Tryz.isAgg110,
    z182 := Go.Proofs.Tryz.sizeOf110,
    v182 := Go.Proofs.Tryz.zeroValue110,
    t183 := Go.Proofs.Tryz.underlying111,
    a183 := Go.Proofs.Tryz.isAgg111,
    z183 := Go.Proofs.Tryz.sizeOf111,
    v183 := Go.Proofs.Tryz.zeroValue111,
    t218 := Go.Proofs.Tryz.underlying125,
    a218 := Go.Proofs.Tryz.isAgg125,
    z218 := Go.Proofs.Tryz.sizeOf125,
    v218 := Go.Proofs.Tryz.zeroValue125,
    t222 := Go.Proofs.Tryz.underlying128,
    a222 := Go.Proofs.Tryz.isAgg128,
    z222 := Go.Proofs.Tryz.sizeOf128,
    v222 := Go.Proofs.Tryz.zeroValue128,
    t228 := Go.Proofs.Tryz.underlying130,
    a228 := Go.Proofs.Tryz.isAgg130,
    z228 := Go.Proofs.Tryz.sizeOf130,
    v228 := Go.Proofs.Tryz.zeroValue130,
    t229 := Go.Proofs.Tryz.underlying131,
    a229 := Go.Proofs.Tryz.isAgg131,
    z229 := Go.Proofs.Tryz.sizeOf131,
    v229 := Go.Proofs.Tryz.zeroValue131 }
end Go.Proofs.YtpehnggglolnoaaGreat
