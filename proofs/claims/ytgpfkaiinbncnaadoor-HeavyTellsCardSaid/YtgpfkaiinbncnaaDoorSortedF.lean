/- slices.Sorted[int]: the library's contract laid at this program, in plain words (written by wip/bin/layg.py). -/
import Derived.Shelf.SlIterI.Nil
import Derived.Test.YtgpfkaiinbncnaaDoorRows
namespace Go.Proofs.YtgpfkaiinbncnaaDoor
open Go.RowKit Go.Shelf

def sortedFRen : Ren where
  f := fun k => if k = 6 then 56 else if k = 8 then 70 else if k = 9 then 71 else if k = 11 then 85 else if k = 12 then 86 else if k = 13 then 51 else if k = 14 then 98 else if k = 15 then 99 else if k = 16 then 100 else if k = 17 then 101 else if k = 18 then 102 else if k = 19 then 103 else if k = 20 then 104 else if k = 21 then 105 else if k = 22 then 106 else if k = 23 then 66 else if k = 24 then 67 else if k = 25 then 111 else if k = 26 then 112 else if k = 27 then 113 else if k = 28 then 114 else if k = 29 then 115 else if k = 30 then 116 else if k = 31 then 120 else k
  t := fun k => if k = 0 then 0 else if k = 3 then 3 else if k = 4 then 4 else if k = 5 then 5 else if k = 9 then 9 else if k = 24 then 28 else if k = 26 then 3 else if k = 28 then 102 else if k = 33 then 120 else if k = 37 then 92 else if k = 39 then 167 else if k = 40 then 168 else if k = 45 then 97 else if k = 48 then 116 else if k = 50 then 118 else if k = 51 then 175 else if k = 55 then 179 else if k = 57 then 184 else if k = 58 then 185 else k
  g := fun k => k

set_option maxRecDepth 100000 in
theorem sortedFLays : SlLaysZI.n6 Tryd.prog sortedFRen := {
  mixed := by kernel_rfl,
  f6 := ⟨Tryd.f56.name, by decide +kernel, Tryd.func56.trans (by kernel_rfl)⟩,
  f8 := ⟨Tryd.f70.name, by decide +kernel, Tryd.func70.trans (by kernel_rfl)⟩,
  f11 := ⟨Tryd.f85.name, by decide +kernel, Tryd.func85.trans (by kernel_rfl)⟩,
  t0 := Tryd.underlying0,
  a0 := Tryd.isAgg0,
  z0 := Tryd.sizeOf0,
  v0 := Tryd.zeroValue0,
  t24 := Tryd.underlying28,
  a24 := Tryd.isAgg28,
  z24 := Tryd.sizeOf28,
  v24 := Tryd.zeroValue28,
  t26 := Tryd.underlying3,
  a26 := Tryd.isAgg3,
  z26 := Tryd.sizeOf3,
  v26 := Tryd.zeroValue3,
  t28 := Tryd.underlying102,
  a28 := Tryd.isAgg102,
  z28 := Tryd.sizeOf102,
  v28 := Tryd.zeroValue102,
  i26 := by kernel_rfl }

end Go.Proofs.YtgpfkaiinbncnaaDoor
