/- The shelf's facts of slices.Sort at []int, of this seat's program: a table of numbers, and each body compared. -/
import Derived.Shelf.Sort.Plain
import Derived.Shelf.Slices.In.SortNone
import Derived.Test.YtpehnggglolnoaaProg
namespace Go.Proofs.Ytpehnggglolnoaa
open Go.Shelf

def ren189 : Ren :=
  {
  f := fun x =>
    match x with
    | 189 => 81
    | 125 => 97
    | 257 => 96
    | 128 => 114
    | 129 => 115
    | 294 => 105
    | 295 => 106
    | 296 => 107
    | 297 => 108
    | 298 => 109
    | 299 => 110
    | 216 => 111
    | 300 => 112
    | 301 => 113
    | 328 => 117
    | 329 => 118
    | 330 => 119
    | 331 => 120
    | 332 => 121
    | 215 => 122
    | 343 => 123
    | n => n,
  t := fun x =>
    match x with
    | 28 => 22
    | 3 => 3
    | 46 => 75
    | 0 => 0
    | 51 => 159
    | 53 => 74
    | 4 => 4
    | 183 => 151
    | 182 => 150
    | 131 => 156
    | 5 => 5
    | 9 => 9
    | 218 => 160
    | 222 => 107
    | 228 => 164
    | 229 => 165
    | n => n,
  g := fun x =>
    have n := x;
    n }
theorem lays189 : Lays.n189 Try.prog ren189 :=
  {
    mixed := Eq.refl Bool.true,
    f125 := by kernel_rfl,
    f128 := by kernel_rfl,
    f129 := by kernel_rfl,
    f189 := by kernel_rfl,
    f215 := by kernel_rfl,
    f216 := by kernel_rfl,
    f257 := by kernel_rfl,
    f294 := by kernel_rfl,
    f295 := by kernel_rfl,
    f296 := by kernel_rfl,
    f297 := by kernel_rfl,
    f298 := by kernel_rfl,
    f299 := by kernel_rfl,
    f300 := by kernel_rfl,
    f301 := by kernel_rfl,
    f328 := by kernel_rfl,
    f329 := by kernel_rfl,
    f330 := by kernel_rfl,
    f331 := by kernel_rfl,
    f332 := by kernel_rfl,
    f343 := by kernel_rfl,
    t0 := Go.Proofs.Try.underlying0,
    a0 := Go.Proofs.Try.isAgg0,
    z0 := Go.Proofs.Try.sizeOf0,
    v0 := Go.Proofs.Try.zeroValue0,
    t3 := Go.Proofs.Try.underlying3,
    a3 := Go.Proofs.Try.isAgg3,
    z3 := Go.Proofs.Try.sizeOf3,
    v3 := Go.Proofs.Try.zeroValue3,
    t4 := Go.Proofs.Try.underlying4,
    a4 := Go.Proofs.Try.isAgg4,
    z4 := Go.Proofs.Try.sizeOf4,
    v4 := Go.Proofs.Try.zeroValue4,
    t5 := Go.Proofs.Try.underlying5,
    a5 := Go.Proofs.Try.isAgg5,
    z5 := Go.Proofs.Try.sizeOf5,
    v5 := Go.Proofs.Try.zeroValue5,
    t9 := Go.Proofs.Try.underlying9,
    a9 := Go.Proofs.Try.isAgg9,
    z9 := Go.Proofs.Try.sizeOf9,
    v9 := Go.Proofs.Try.zeroValue9,
    t28 := Go.Proofs.Try.underlying22,
    a28 := Go.Proofs.Try.isAgg22,
    z28 := Go.Proofs.Try.sizeOf22,
    v28 := Go.Proofs.Try.zeroValue22,
    t46 := Go.Proofs.Try.underlying75,
    a46 := Go.Proofs.Try.isAgg75,
    z46 := Go.Proofs.Try.sizeOf75,
    v46 := Go.Proofs.Try.zeroValue75,
    t51 := Go.Proofs.Try.underlying159,
    a51 := Go.Proofs.Try.isAgg159,
    z51 := Go.Proofs.Try.sizeOf159,
    v51 := Go.Proofs.Try.zeroValue159,
    t53 := Go.Proofs.Try.underlying74,
    a53 := Go.Proofs.Try.isAgg74,
    z53 := Go.Proofs.Try.sizeOf74,
    v53 := Go.Proofs.Try.zeroValue74,
    t131 := Go.Proofs.Try.underlying156,
    a131 := Go.Proofs.Try.isAgg156,
    z131 := Go.Proofs.Try.sizeOf156,
    v131 := Go.Proofs.Try.zeroValue156,
    t182 := Go.Proofs.Try.underlying150,
    a182 := Go.Proofs.Try.isAgg150,
    z182 := Go.Proofs.Try.sizeOf150,
    v182 := Go.Proofs.Try.zeroValue150,
    t183 := Go.Proofs.Try.underlying151,
    a183 := Go.Proofs.Try.isAgg151,
    z183 := Go.Proofs.Try.sizeOf151,
    v183 := Go.Proofs.Try.zeroValue151,
    t218 := Go.Proofs.Try.underlying160,
    a218 := Go.Proofs.Try.isAgg160,
    z218 := Go.Proofs.Try.sizeOf160,
    v218 := Go.Proofs.Try.zeroValue160,
    t222 := Go.Proofs.Try.underlying107,
    a222 := Go.Proofs.Try.isAgg107,
    z222 := Go.Proofs.Try.sizeOf107,
    v222 := Go.Proofs.Try.zeroValue107,
    t228 := Go.Proofs.Try.underlying164,
    a228 := Go.Proofs.Try.isAgg164,
    z228 := Go.Proofs.Try.sizeOf164,
    v228 := Go.Proofs.Try.zeroValue164,
    t229 := Go.Proofs.Try.underlying165,
    a229 := Go.Proofs.Try.isAgg165,
    z229 := Go.Proofs.Try.sizeOf165,
    v229 := Go.Proofs.Try.zeroValue165 }
end Go.Proofs.Ytpehnggglolnoaa
