/- The shelf's facts of maps.Keys, slices.Sorted and slices.Sort at int, of this seat's program: tables of numbers, and each body compared. -/
import Derived.Shelf.SlIterI.Nil
import Derived.Shelf.SortM.Plain
import Derived.Shelf.SortM.SortNone
import Derived.Test.YtfdacckkdjpjhaaProg
namespace Go.Proofs.Ytfdacckkdjpjhaa
open Go.Shelf

def keysA_ren : Ren :=
  {
  f := fun x =>
    match x with
    | 7 => 78
    | 10 => 85
    | n => n,
  t := fun x =>
    match x with
    | 23 => 96
    | 26 => 3
    | 3 => 99
    | 28 => 147
    | 0 => 0
    | 27 => 146
    | 33 => 138
    | 4 => 4
    | n => n,
  g := fun x =>
    have n := x;
    n }
theorem keysA : SlLaysZI.n7 Try.prog keysA_ren :=
  {
    mixed := by kernel_rfl,
    f7 := ⟨"maps.Keys[map[int]*rexmill/pool.entry,int,*rexmill/pool.entry]", by decide, Try.func78.trans (congrArg some (by kernel_rfl))⟩,
    f10 := ⟨"maps.Keys[map[int]*rexmill/pool.entry,int,*rexmill/pool.entry]$1", by decide, Try.func85.trans (congrArg some (by kernel_rfl))⟩,
    t0 := Go.Proofs.Try.underlying0,
    a0 := Go.Proofs.Try.isAgg0,
    z0 := Go.Proofs.Try.sizeOf0,
    v0 := Go.Proofs.Try.zeroValue0,
    t4 := Go.Proofs.Try.underlying4,
    a4 := Go.Proofs.Try.isAgg4,
    z4 := Go.Proofs.Try.sizeOf4,
    v4 := Go.Proofs.Try.zeroValue4,
    t23 := Go.Proofs.Try.underlying96,
    a23 := Go.Proofs.Try.isAgg96,
    z23 := Go.Proofs.Try.sizeOf96,
    v23 := Go.Proofs.Try.zeroValue96,
    t26 := Go.Proofs.Try.underlying3,
    a26 := Go.Proofs.Try.isAgg3,
    z26 := Go.Proofs.Try.sizeOf3,
    v26 := Go.Proofs.Try.zeroValue3,
    t27 := Go.Proofs.Try.underlying146,
    a27 := Go.Proofs.Try.isAgg146,
    z27 := Go.Proofs.Try.sizeOf146,
    v27 := Go.Proofs.Try.zeroValue146,
    t28 := Go.Proofs.Try.underlying147,
    a28 := Go.Proofs.Try.isAgg147,
    z28 := Go.Proofs.Try.sizeOf147,
    v28 := Go.Proofs.Try.zeroValue147,
    t33 := Go.Proofs.Try.underlying138,
    a33 := Go.Proofs.Try.isAgg138,
    z33 := Go.Proofs.Try.sizeOf138,
    v33 := Go.Proofs.Try.zeroValue138 }

def sortedA_ren : Ren :=
  {
  f := fun x =>
    match x with
    | 6 => 77
    | 8 => 84
    | 9 => 79
    | 11 => 91
    | 13 => 87
    | 12 => 86
    | 23 => 101
    | 24 => 102
    | 14 => 92
    | 15 => 93
    | 16 => 94
    | 17 => 95
    | 18 => 96
    | 19 => 97
    | 20 => 98
    | 21 => 99
    | 22 => 100
    | 25 => 104
    | 26 => 105
    | 27 => 106
    | 28 => 107
    | 29 => 108
    | 30 => 109
    | 31 => 110
    | n => n,
  t := fun x =>
    match x with
    | 26 => 3
    | 28 => 147
    | 24 => 22
    | 0 => 0
    | 3 => 3
    | 37 => 116
    | 48 => 170
    | 50 => 115
    | 4 => 4
    | 40 => 164
    | 39 => 163
    | 45 => 167
    | 5 => 5
    | 9 => 9
    | 51 => 172
    | 55 => 175
    | 57 => 177
    | 58 => 178
    | 33 => 138
    | n => n,
  g := fun x =>
    have n := x;
    n }
theorem sortedA : SlLaysZI.n6 Try.prog sortedA_ren :=
  {
    mixed := by kernel_rfl,
    f6 := ⟨"slices.Sorted[int]", by decide, Try.func77.trans (congrArg some (by kernel_rfl))⟩,
    f8 := ⟨"slices.Collect[int]", by decide, Try.func84.trans (congrArg some (by kernel_rfl))⟩,
    f11 := ⟨"slices.AppendSeq[[]int,int]", by decide, Try.func91.trans (congrArg some (by kernel_rfl))⟩,
    t0 := Go.Proofs.Try.underlying0,
    a0 := Go.Proofs.Try.isAgg0,
    z0 := Go.Proofs.Try.sizeOf0,
    v0 := Go.Proofs.Try.zeroValue0,
    t24 := Go.Proofs.Try.underlying22,
    a24 := Go.Proofs.Try.isAgg22,
    z24 := Go.Proofs.Try.sizeOf22,
    v24 := Go.Proofs.Try.zeroValue22,
    t26 := Go.Proofs.Try.underlying3,
    a26 := Go.Proofs.Try.isAgg3,
    z26 := Go.Proofs.Try.sizeOf3,
    v26 := Go.Proofs.Try.zeroValue3,
    t28 := Go.Proofs.Try.underlying147,
    a28 := Go.Proofs.Try.isAgg147,
    z28 := Go.Proofs.Try.sizeOf147,
    v28 := Go.Proofs.Try.zeroValue147,
    i26 := by kernel_rfl }

def sortA_ren : Ren :=
  {
  f := fun x =>
    match x with
    | 5 => 79
    | 8 => 87
    | 7 => 86
    | 19 => 101
    | 20 => 102
    | 10 => 92
    | 11 => 93
    | 12 => 94
    | 13 => 95
    | 14 => 96
    | 15 => 97
    | 16 => 98
    | 17 => 99
    | 18 => 100
    | 30 => 104
    | 31 => 105
    | 32 => 106
    | 33 => 107
    | 34 => 108
    | 35 => 109
    | 40 => 110
    | n => n,
  t := fun x =>
    match x with
    | 23 => 22
    | 25 => 3
    | 3 => 3
    | 32 => 116
    | 22 => 22
    | 0 => 0
    | 44 => 170
    | 46 => 115
    | 4 => 4
    | 36 => 164
    | 35 => 163
    | 41 => 167
    | 5 => 5
    | 9 => 9
    | 53 => 172
    | 57 => 175
    | 63 => 177
    | 64 => 178
    | n => n,
  g := fun x =>
    have n := x;
    n }
theorem sortA : SlLaysM.n5 Try.prog sortA_ren :=
  {
    mixed := by kernel_rfl,
    f5 := ⟨"slices.Sort[[]int,int]", by decide, Try.func79.trans (congrArg some (by kernel_rfl))⟩,
    f7 := ⟨"slices.pdqsortOrdered[int]", by decide, Try.func86.trans (congrArg some (by kernel_rfl))⟩,
    f8 := Try.func87.trans (congrArg some (by kernel_rfl)),
    f10 := ⟨"slices.insertionSortOrdered[int]", by decide, Try.func92.trans (congrArg some (by kernel_rfl))⟩,
    f11 := ⟨"slices.heapSortOrdered[int]", by decide, Try.func93.trans (congrArg some (by kernel_rfl))⟩,
    f12 := ⟨"slices.breakPatternsOrdered[int]", by decide, Try.func94.trans (congrArg some (by kernel_rfl))⟩,
    f13 := ⟨"slices.choosePivotOrdered[int]", by decide, Try.func95.trans (congrArg some (by kernel_rfl))⟩,
    f14 := ⟨"slices.reverseRangeOrdered[int]", by decide, Try.func96.trans (congrArg some (by kernel_rfl))⟩,
    f15 := ⟨"slices.partialInsertionSortOrdered[int]", by decide, Try.func97.trans (congrArg some (by kernel_rfl))⟩,
    f16 := ⟨"cmp.Less[int]", by decide, Try.func98.trans (congrArg some (by kernel_rfl))⟩,
    f17 := ⟨"slices.partitionEqualOrdered[int]", by decide, Try.func99.trans (congrArg some (by kernel_rfl))⟩,
    f18 := ⟨"slices.partitionOrdered[int]", by decide, Try.func100.trans (congrArg some (by kernel_rfl))⟩,
    f19 := Try.func101.trans (congrArg some (by kernel_rfl)),
    f20 := Try.func102.trans (congrArg some (by kernel_rfl)),
    f30 := ⟨"slices.siftDownOrdered[int]", by decide, Try.func104.trans (congrArg some (by kernel_rfl))⟩,
    f31 := Try.func105.trans (congrArg some (by kernel_rfl)),
    f32 := Try.func106.trans (congrArg some (by kernel_rfl)),
    f33 := ⟨"slices.medianAdjacentOrdered[int]", by decide, Try.func107.trans (congrArg some (by kernel_rfl))⟩,
    f34 := ⟨"slices.medianOrdered[int]", by decide, Try.func108.trans (congrArg some (by kernel_rfl))⟩,
    f35 := ⟨"cmp.isNaN[int]", by decide, Try.func109.trans (congrArg some (by kernel_rfl))⟩,
    f40 := ⟨"slices.order2Ordered[int]", by decide, Try.func110.trans (congrArg some (by kernel_rfl))⟩,
    t0 := Go.Proofs.Try.underlying0,
    a0 := Go.Proofs.Try.isAgg0,
    z0 := Go.Proofs.Try.sizeOf0,
    v0 := Go.Proofs.Try.zeroValue0,
    t3 := Go.Proofs.Try.underlying3,
    a3 := Go.Proofs.Try.isAgg3,
    z3 := Go.Proofs.Try.sizeOf3,
    v3 := Go.Proofs.Try.zeroValue3,
    t4 := Go.Proofs.Try.underlying4,
    a4 := Go.Proofs.Try.isAgg4,
    z4 := Go.Proofs.Try.sizeOf4,
    v4 := Go.Proofs.Try.zeroValue4,
    t5 := Go.Proofs.Try.underlying5,
    a5 := Go.Proofs.Try.isAgg5,
    z5 := Go.Proofs.Try.sizeOf5,
    v5 := Go.Proofs.Try.zeroValue5,
    t9 := Go.Proofs.Try.underlying9,
    a9 := Go.Proofs.Try.isAgg9,
    z9 := Go.Proofs.Try.sizeOf9,
    v9 := Go.Proofs.Try.zeroValue9,
    t22 := Go.Proofs.Try.underlying22,
    a22 := Go.Proofs.Try.isAgg22,
    z22 := Go.Proofs.Try.sizeOf22,
    v22 := Go.Proofs.Try.zeroValue22,
    t23 := Go.Proofs.Try.underlying22,
    a23 := Go.Proofs.Try.isAgg22,
    z23 := Go.Proofs.Try.sizeOf22,
    v23 := Go.Proofs.Try.zeroValue22,
    t25 := Go.Proofs.Try.underlying3,
    a25 := Go.Proofs.Try.isAgg3,
    z25 := Go.Proofs.Try.sizeOf3,
    v25 := Go.Proofs.Try.zeroValue3,
    t32 := Go.Proofs.Try.underlying116,
    a32 := Go.Proofs.Try.isAgg116,
    z32 := Go.Proofs.Try.sizeOf116,
    v32 := Go.Proofs.Try.zeroValue116,
    t35 := Go.Proofs.Try.underlying163,
    a35 := Go.Proofs.Try.isAgg163,
    z35 := Go.Proofs.Try.sizeOf163,
    v35 := Go.Proofs.Try.zeroValue163,
    t36 := Go.Proofs.Try.underlying164,
    a36 := Go.Proofs.Try.isAgg164,
    z36 := Go.Proofs.Try.sizeOf164,
    v36 := Go.Proofs.Try.zeroValue164,
    t41 := Go.Proofs.Try.underlying167,
    a41 := Go.Proofs.Try.isAgg167,
    z41 := Go.Proofs.Try.sizeOf167,
    v41 := Go.Proofs.Try.zeroValue167,
    t44 := Go.Proofs.Try.underlying170,
    a44 := Go.Proofs.Try.isAgg170,
    z44 := Go.Proofs.Try.sizeOf170,
    v44 := Go.Proofs.Try.zeroValue170,
    t46 := Go.Proofs.Try.underlying115,
    a46 := Go.Proofs.Try.isAgg115,
    z46 := Go.Proofs.Try.sizeOf115,
    v46 := Go.Proofs.Try.zeroValue115,
    t53 := Go.Proofs.Try.underlying172,
    a53 := Go.Proofs.Try.isAgg172,
    z53 := Go.Proofs.Try.sizeOf172,
    v53 := Go.Proofs.Try.zeroValue172,
    t57 := Go.Proofs.Try.underlying175,
    a57 := Go.Proofs.Try.isAgg175,
    z57 := Go.Proofs.Try.sizeOf175,
    v57 := Go.Proofs.Try.zeroValue175,
    t63 := Go.Proofs.Try.underlying177,
    a63 := Go.Proofs.Try.isAgg177,
    z63 := Go.Proofs.Try.sizeOf177,
    v63 := Go.Proofs.Try.zeroValue177,
    t64 := Go.Proofs.Try.underlying178,
    a64 := Go.Proofs.Try.isAgg178,
    z64 := Go.Proofs.Try.sizeOf178,
    v64 := Go.Proofs.Try.zeroValue178 }
end Go.Proofs.Ytfdacckkdjpjhaa
