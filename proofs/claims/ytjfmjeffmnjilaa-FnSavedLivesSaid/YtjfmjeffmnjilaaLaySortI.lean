/-
  A structure of the shelf, laid at this program: SlLaysM.n5.
-/
import Derived.Shelf.SlLaysM
import Derived.KernelRfl
import Derived.Test.YtjfmjeffmnjilaaProg
namespace Go.Proofs.Ytjfmjeffmnjilaa
open Go Go.Proofs Go.Shelf
set_option maxRecDepth 100000

def renSortI : Go.Shelf.Ren :=
{
  f := fun x ↦
    match x with
    | 5 => 103
    | 8 => 120
    | 7 => 119
    | 19 => 138
    | 20 => 139
    | 10 => 129
    | 11 => 130
    | 12 => 131
    | 13 => 132
    | 14 => 133
    | 15 => 134
    | 16 => 135
    | 17 => 136
    | 18 => 137
    | 30 => 145
    | 31 => 146
    | 32 => 147
    | 33 => 148
    | 34 => 149
    | 35 => 150
    | 40 => 153
    | n => n,
  t := fun x ↦
    match x with
    | 23 => 28
    | 25 => 2
    | 3 => 3
    | 32 => 101
    | 22 => 28
    | 0 => 0
    | 44 => 102
    | 46 => 111
    | 4 => 4
    | 36 => 147
    | 35 => 146
    | 41 => 151
    | 5 => 5
    | 9 => 9
    | 53 => 160
    | 57 => 164
    | 63 => 169
    | 64 => 170
    | n => n,
  g := fun x ↦
    have n := x;
    n }
theorem laysSortI : Go.Proofs.SlLaysM.n5 Try.prog renSortI :=
{ mixed := Eq.refl Bool.true,
  f5 :=
    ⟨"slices.Sort[[]int64,int64]", by decide, Eq.trans Try.func103 (congrArg Option.some (by kernel_rfl))⟩,
  f7 :=
    ⟨"slices.pdqsortOrdered[int64]", by decide, Eq.trans Try.func119 (congrArg Option.some (by kernel_rfl))⟩,
  f8 :=
    Eq.trans Try.func120 (congrArg Option.some (Eq.refl (Go.Proofs.SlBodyM.n8 renSortI))),
  f10 :=
    ⟨"slices.insertionSortOrdered[int64]", by decide, Eq.trans Try.func129 (congrArg Option.some (by kernel_rfl))⟩,
  f11 :=
    ⟨"slices.heapSortOrdered[int64]", by decide, Eq.trans Try.func130 (congrArg Option.some (by kernel_rfl))⟩,
  f12 :=
    ⟨"slices.breakPatternsOrdered[int64]", by decide, Eq.trans Try.func131 (congrArg Option.some (by kernel_rfl))⟩,
  f13 :=
    ⟨"slices.choosePivotOrdered[int64]", by decide, Eq.trans Try.func132 (congrArg Option.some (by kernel_rfl))⟩,
  f14 :=
    ⟨"slices.reverseRangeOrdered[int64]", by decide, Eq.trans Try.func133 (congrArg Option.some (by kernel_rfl))⟩,
  f15 :=
    ⟨"slices.partialInsertionSortOrdered[int64]", by decide, Eq.trans Try.func134 (congrArg Option.some (by kernel_rfl))⟩,
  f16 :=
    ⟨"cmp.Less[int64]", by decide, Eq.trans Try.func135 (congrArg Option.some (by kernel_rfl))⟩,
  f17 :=
    ⟨"slices.partitionEqualOrdered[int64]", by decide, Eq.trans Try.func136 (congrArg Option.some (by kernel_rfl))⟩,
  f18 :=
    ⟨"slices.partitionOrdered[int64]", by decide, Eq.trans Try.func137 (congrArg Option.some (by kernel_rfl))⟩,
  f19 :=
    Eq.trans Try.func138 (congrArg Option.some (Eq.refl (Go.Proofs.SlBodyM.n19 renSortI))),
  f20 :=
    Eq.trans Try.func139 (congrArg Option.some (Eq.refl (Go.Proofs.SlBodyM.n20 renSortI))),
  f30 :=
    ⟨"slices.siftDownOrdered[int64]", by decide, Eq.trans Try.func145 (congrArg Option.some (by kernel_rfl))⟩,
  f31 :=
    Eq.trans Try.func146 (congrArg Option.some (Eq.refl (Go.Proofs.SlBodyM.n31 renSortI))),
  f32 :=
    Eq.trans Try.func147 (congrArg Option.some (Eq.refl (Go.Proofs.SlBodyM.n32 renSortI))),
  f33 :=
    ⟨"slices.medianAdjacentOrdered[int64]", by decide, Eq.trans Try.func148 (congrArg Option.some (by kernel_rfl))⟩,
  f34 :=
    ⟨"slices.medianOrdered[int64]", by decide, Eq.trans Try.func149 (congrArg Option.some (by kernel_rfl))⟩,
  f35 :=
    ⟨"cmp.isNaN[int64]", by decide, Eq.trans Try.func150 (congrArg Option.some (by kernel_rfl))⟩,
  f40 :=
    ⟨"slices.order2Ordered[int64]", by decide, Eq.trans Try.func153 (congrArg Option.some (by kernel_rfl))⟩,
  t0 := Try.underlying0, a0 := Try.isAgg0, z0 := Try.sizeOf0,
  v0 := Try.zeroValue0, t3 := Try.underlying3, a3 := Try.isAgg3,
  z3 := Try.sizeOf3, v3 := Try.zeroValue3, t4 := Try.underlying4,
  a4 := Try.isAgg4, z4 := Try.sizeOf4, v4 := Try.zeroValue4,
  t5 := Try.underlying5, a5 := Try.isAgg5, z5 := Try.sizeOf5,
  v5 := Try.zeroValue5, t9 := Try.underlying9, a9 := Try.isAgg9,
  z9 := Try.sizeOf9, v9 := Try.zeroValue9, t22 := Try.underlying28,
  a22 := Try.isAgg28, z22 := Try.sizeOf28, v22 := Try.zeroValue28,
  t23 := Try.underlying28, a23 := Try.isAgg28, z23 := Try.sizeOf28,
  v23 := Try.zeroValue28, t25 := Try.underlying2, a25 := Try.isAgg2,
  z25 := Try.sizeOf2, v25 := Try.zeroValue2, t32 := Try.underlying101,
  a32 := Try.isAgg101, z32 := Try.sizeOf101, v32 := Try.zeroValue101,
  t35 := Try.underlying146, a35 := Try.isAgg146, z35 := Try.sizeOf146,
  v35 := Try.zeroValue146, t36 := Try.underlying147, a36 := Try.isAgg147,
  z36 := Try.sizeOf147, v36 := Try.zeroValue147, t41 := Try.underlying151,
  a41 := Try.isAgg151, z41 := Try.sizeOf151, v41 := Try.zeroValue151,
  t44 := Try.underlying102, a44 := Try.isAgg102, z44 := Try.sizeOf102,
  v44 := Try.zeroValue102, t46 := Try.underlying111, a46 := Try.isAgg111,
  z46 := Try.sizeOf111, v46 := Try.zeroValue111, t53 := Try.underlying160,
  a53 := Try.isAgg160, z53 := Try.sizeOf160, v53 := Try.zeroValue160,
  t57 := Try.underlying164, a57 := Try.isAgg164, z57 := Try.sizeOf164,
  v57 := Try.zeroValue164, t63 := Try.underlying169, a63 := Try.isAgg169,
  z63 := Try.sizeOf169, v63 := Try.zeroValue169, t64 := Try.underlying170,
  a64 := Try.isAgg170, z64 := Try.sizeOf170, v64 := Try.zeroValue170 }
end Go.Proofs.Ytjfmjeffmnjilaa
