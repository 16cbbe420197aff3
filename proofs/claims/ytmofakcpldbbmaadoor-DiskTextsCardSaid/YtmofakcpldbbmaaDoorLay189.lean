/- The shelf's facts of slices.Sort at []int, of this seat's program: a table of numbers, and each body compared. -/
import Derived.Shelf.Sort.Plain
import Derived.Shelf.Slices.In.SortNone
import Derived.Test.YtmofakcpldbbmaaDoorProg
namespace Go.Proofs.YtmofakcpldbbmaaDoor
open Go.Shelf

def ren189 : Ren :=
  {
  f := fun x =>
    match x with
    | 189 => 30
    | 125 => 37
    | 257 => 36
    | 128 => 47
    | 129 => 48
    | 294 => 38
    | 295 => 39
    | 296 => 40
    | 297 => 41
    | 298 => 42
    | 299 => 43
    | 216 => 44
    | 300 => 45
    | 301 => 46
    | 328 => 49
    | 329 => 50
    | 330 => 51
    | 331 => 52
    | 332 => 53
    | 215 => 54
    | 343 => 55
    | n => n,
  t := fun x =>
    match x with
    | 28 => 22
    | 3 => 3
    | 46 => 69
    | 0 => 0
    | 51 => 80
    | 53 => 82
    | 4 => 4
    | 183 => 72
    | 182 => 71
    | 131 => 77
    | 5 => 5
    | 9 => 9
    | 218 => 83
    | 222 => 87
    | 228 => 89
    | 229 => 64
    | n => n,
  g := fun x =>
    have n := x;
    n }
theorem lays189 : Lays.n189 Tryd.prog ren189 :=
  {
    mixed := Eq.refl Bool.true,
    f125 := by kernel_rfl,
    f128 := by kernel_rfl,
    f129 := by kernel_rfl,
    f189 := by kernel_rfl,
    f215 := by kernel_rfl,
    f216 := by kernel_rfl,
    f257 := by kernel_rfl,
    f294 := by kernel_rfl,
    f295 := by kernel_rfl,
    f296 := by kernel_rfl,
    f297 := by kernel_rfl,
    f298 := by kernel_rfl,
    f299 := by kernel_rfl,
    f300 := by kernel_rfl,
    f301 := by kernel_rfl,
    f328 := by kernel_rfl,
    f329 := by kernel_rfl,
    f330 := by kernel_rfl,
    f331 := by kernel_rfl,
    f332 := by kernel_rfl,
    f343 := by kernel_rfl,
    t0 := Go.Proofs.Tryd.underlying0,
    a0 := Go.Proofs.Tryd.isAgg0,
    z0 := Go.Proofs.Tryd.sizeOf0,
    v0 := Go.Proofs.Tryd.zeroValue0,
    t3 := Go.Proofs.Tryd.underlying3,
    a3 := Go.Proofs.Tryd.isAgg3,
    z3 := Go.Proofs.Tryd.sizeOf3,
    v3 := Go.Proofs.Tryd.zeroValue3,
    t4 := Go.Proofs.Tryd.underlying4,
    a4 := Go.Proofs.Tryd.isAgg4,
    z4 := Go.Proofs.Tryd.sizeOf4,
    v4 := Go.Proofs.Tryd.zeroValue4,
    t5 := Go.Proofs.Tryd.underlying5,
    a5 := Go.Proofs.Tryd.isAgg5,
    z5 := Go.Proofs.Tryd.sizeOf5,
    v5 := Go.Proofs.Tryd.zeroValue5,
    t9 := Go.Proofs.Tryd.underlying9,
    a9 := Go.Proofs.Tryd.isAgg9,
    z9 := Go.Proofs.Tryd.sizeOf9,
    v9 := Go.Proofs.Tryd.zeroValue9,
    t28 := Go.Proofs.Tryd.underlying22,
    a28 := Go.Proofs.Tryd.isAgg22,
    z28 := Go.Proofs.Tryd.sizeOf22,
    v28 := Go.Proofs.Tryd.zeroValue22,
    t46 := Go.Proofs.Tryd.underlying69,
    a46 := Go.Proofs.Tryd.isAgg69,
    z46 := Go.Proofs.Tryd.sizeOf69,
    v46 := Go.Proofs.Tryd.zeroValue69,
    t51 := Go.Proofs.Tryd.underlying80,
    a51 := Go.Proofs.Tryd.isAgg80,
    z51 := Go.Proofs.Tryd.sizeOf80,
    v51 := Go.Proofs.Tryd.zeroValue80,
    t53 := Go.Proofs.Tryd.underlying82,
    a53 := Go.Proofs.Tryd.isAgg82,
    z53 := Go.Proofs.Tryd.sizeOf82,
    v53 := Go.Proofs.Tryd.zeroValue82,
    t131 := Go.Proofs.Tryd.underlying77,
    a131 := Go.Proofs.Tryd.isAgg77,
    z131 := Go.Proofs.Tryd.sizeOf77,
    v131 := Go.Proofs.Tryd.zeroValue77,
    t182 := Go.Proofs.Tryd.underlying71,
    a182 := Go.Proofs.Tryd.isAgg71,
    z182 := Go.Proofs.Tryd.sizeOf71,
    v182 := Go.Proofs.Tryd.zeroValue71,
    t183 := Go.Proofs.Tryd.underlying72,
    a183 := Go.Proofs.Tryd.isAgg72,
    z183 := Go.Proofs.Tryd.sizeOf72,
    v183 := Go.Proofs.Tryd.zeroValue72,
    t218 := Go.Proofs.Tryd.underlying83,
    a218 := Go.Proofs.Tryd.isAgg83,
    z218 := Go.Proofs.Tryd.sizeOf83,
    v218 := Go.Proofs.Tryd.zeroValue83,
    t222 := Go.Proofs.Tryd.underlying87,
    a222 := Go.Proofs.Tryd.isAgg87,
    z222 := Go.Proofs.Tryd.sizeOf87,
    v222 := Go.Proofs.Tryd.zeroValue87,
    t228 := Go.Proofs.Tryd.underlying89,
    a228 := Go.Proofs.Tryd.isAgg89,
    z228 := Go.Proofs.Tryd.sizeOf89,
    v228 := Go.Proofs.Tryd.zeroValue89,
    t229 := Go.Proofs.Tryd.underlying64,
    a229 := Go.Proofs.Tryd.isAgg64,
    z229 := Go.Proofs.Tryd.sizeOf64,
    v229 := Go.Proofs.Tryd.zeroValue64 }
end Go.Proofs.YtmofakcpldbbmaaDoor
