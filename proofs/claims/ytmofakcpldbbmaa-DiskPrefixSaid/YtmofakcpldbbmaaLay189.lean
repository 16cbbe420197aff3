/- The shelf's facts of slices.Sort at []int, of this seat's program: a table of numbers, and each body compared. -/
import Derived.Shelf.Sort.Plain
import Derived.Shelf.Slices.In.SortNone
import Derived.Test.YtmofakcpldbbmaaProg
namespace Go.Proofs.Ytmofakcpldbbmaa
open Go.Shelf

def ren189 : Ren :=
  {
  f := fun x =>
    match x with
    | 189 => 53
    | 125 => 58
    | 257 => 57
    | 128 => 69
    | 129 => 70
    | 294 => 60
    | 295 => 61
    | 296 => 62
    | 297 => 63
    | 298 => 64
    | 299 => 65
    | 216 => 66
    | 300 => 67
    | 301 => 68
    | 328 => 71
    | 329 => 72
    | 330 => 73
    | 331 => 74
    | 332 => 75
    | 215 => 76
    | 343 => 77
    | n => n,
  t := fun x =>
    match x with
    | 28 => 33
    | 3 => 3
    | 46 => 75
    | 0 => 0
    | 51 => 96
    | 53 => 61
    | 4 => 4
    | 183 => 88
    | 182 => 87
    | 131 => 93
    | 5 => 5
    | 9 => 9
    | 218 => 98
    | 222 => 102
    | 228 => 104
    | 229 => 105
    | n => n,
  g := fun x =>
    have n := x;
    n }
theorem lays189 : Lays.n189 Try.prog ren189 :=
  {
    mixed := Eq.refl Bool.true,
    f125 := by kernel_rfl,
    f128 := by kernel_rfl,
    f129 := by kernel_rfl,
    f189 := by kernel_rfl,
    f215 := by kernel_rfl,
    f216 := by kernel_rfl,
    f257 := by kernel_rfl,
    f294 := by kernel_rfl,
    f295 := by kernel_rfl,
    f296 := by kernel_rfl,
    f297 := by kernel_rfl,
    f298 := by kernel_rfl,
    f299 := by kernel_rfl,
    f300 := by kernel_rfl,
    f301 := by kernel_rfl,
    f328 := by kernel_rfl,
    f329 := by kernel_rfl,
    f330 := by kernel_rfl,
    f331 := by kernel_rfl,
    f332 := by kernel_rfl,
    f343 := by kernel_rfl,
    t0 := Go.Proofs.Try.underlying0,
    a0 := Go.Proofs.Try.isAgg0,
    z0 := Go.Proofs.Try.sizeOf0,
    v0 := Go.Proofs.Try.zeroValue0,
    t3 := Go.Proofs.Try.underlying3,
    a3 := Go.Proofs.Try.isAgg3,
    z3 := Go.Proofs.Try.sizeOf3,
    v3 := Go.Proofs.Try.zeroValue3,
    t4 := Go.Proofs.Try.underlying4,
    a4 := Go.Proofs.Try.isAgg4,
    z4 := Go.Proofs.Try.sizeOf4,
    v4 := Go.Proofs.Try.zeroValue4,
    t5 := Go.Proofs.Try.underlying5,
    a5 := Go.Proofs.Try.isAgg5,
    z5 := Go.Proofs.Try.sizeOf5,
    v5 := Go.Proofs.Try.zeroValue5,
    t9 := Go.Proofs.Try.underlying9,
    a9 := Go.Proofs.Try.isAgg9,
    z9 := Go.Proofs.Try.sizeOf9,
    v9 := Go.Proofs.Try.zeroValue9,
    t28 := Go.Proofs.Try.underlying33,
    a28 := Go.Proofs.Try.isAgg33,
    z28 := Go.Proofs.Try.sizeOf33,
    v28 := Go.Proofs.Try.zeroValue33,
    t46 := Go.Proofs.Try.underlying75,
    a46 := Go.Proofs.Try.isAgg75,
    z46 := Go.Proofs.Try.sizeOf75,
    v46 := Go.Proofs.Try.zeroValue75,
    t51 := Go.Proofs.Try.underlying96,
    a51 := Go.Proofs.Try.isAgg96,
    z51 := Go.Proofs.Try.sizeOf96,
    v51 := Go.Proofs.Try.zeroValue96,
    t53 := Go.Proofs.Try.underlying61,
    a53 := Go.Proofs.Try.isAgg61,
    z53 := Go.Proofs.Try.sizeOf61,
    v53 := Go.Proofs.Try.zeroValue61,
    t131 := Go.Proofs.Try.underlying93,
    a131 := Go.Proofs.Try.isAgg93,
    z131 := Go.Proofs.Try.sizeOf93,
    v131 := Go.Proofs.Try.zeroValue93,
    t182 := Go.Proofs.Try.underlying87,
    a182 := Go.Proofs.Try.isAgg87,
    z182 := Go.Proofs.Try.sizeOf87,
    v182 := Go.Proofs.Try.zeroValue87,
    t183 := Go.Proofs.Try.underlying88,
    a183 := Go.Proofs.Try.isAgg88,
    z183 := Go.Proofs.Try.sizeOf88,
    v183 := Go.Proofs.Try.zeroValue88,
    t218 := Go.Proofs.Try.underlying98,
    a218 := Go.Proofs.Try.isAgg98,
    z218 := Go.Proofs.Try.sizeOf98,
    v218 := Go.Proofs.Try.zeroValue98,
    t222 := Go.Proofs.Try.underlying102,
    a222 := Go.Proofs.Try.isAgg102,
    z222 := Go.Proofs.Try.sizeOf102,
    v222 := Go.Proofs.Try.zeroValue102,
    t228 := Go.Proofs.Try.underlying104,
    a228 := Go.Proofs.Try.isAgg104,
    z228 := Go.Proofs.Try.sizeOf104,
    v228 := Go.Proofs.Try.zeroValue104,
    t229 := Go.Proofs.Try.underlying105,
    a229 := Go.Proofs.Try.isAgg105,
    z229 := Go.Proofs.Try.sizeOf105,
    v229 := Go.Proofs.Try.zeroValue105 }
end Go.Proofs.Ytmofakcpldbbmaa
