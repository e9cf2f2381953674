/- slices.Sorted[int]: the library's contract laid at this program, in plain words (written by wip/bin/layg.py). -/
import Derived.Shelf.SlIterI.Nil
import Derived.Test.YtgpfkaiinbncnaaRows
namespace Go.Proofs.Ytgpfkaiinbncnaa
open Go.RowKit Go.Shelf

def sortedFRen : Ren where
  f := fun k => if k = 6 then 43 else if k = 8 then 56 else if k = 9 then 57 else if k = 11 then 66 else if k = 12 then 67 else if k = 13 then 38 else if k = 14 then 70 else if k = 15 then 71 else if k = 16 then 72 else if k = 17 then 73 else if k = 18 then 74 else if k = 19 then 75 else if k = 20 then 76 else if k = 21 then 77 else if k = 22 then 78 else if k = 23 then 52 else if k = 24 then 53 else if k = 25 then 82 else if k = 26 then 83 else if k = 27 then 84 else if k = 28 then 85 else if k = 29 then 86 else if k = 30 then 87 else if k = 31 then 89 else k
  t := fun k => if k = 0 then 0 else if k = 3 then 3 else if k = 4 then 4 else if k = 5 then 5 else if k = 9 then 9 else if k = 24 then 23 else if k = 26 then 3 else if k = 28 then 91 else if k = 33 then 110 else if k = 37 then 80 else if k = 39 then 122 else if k = 40 then 123 else if k = 45 then 86 else if k = 48 then 106 else if k = 50 then 108 else if k = 51 then 131 else if k = 55 then 135 else if k = 57 then 138 else if k = 58 then 139 else k
  g := fun k => k

set_option maxRecDepth 100000 in
theorem sortedFLays : SlLaysZI.n6 Try.prog sortedFRen := {
  mixed := by kernel_rfl,
  f6 := ⟨Try.f43.name, by decide +kernel, Try.func43.trans (by kernel_rfl)⟩,
  f8 := ⟨Try.f56.name, by decide +kernel, Try.func56.trans (by kernel_rfl)⟩,
  f11 := ⟨Try.f66.name, by decide +kernel, Try.func66.trans (by kernel_rfl)⟩,
  t0 := Try.underlying0,
  a0 := Try.isAgg0,
  z0 := Try.sizeOf0,
  v0 := Try.zeroValue0,
  t24 := Try.underlying23,
  a24 := Try.isAgg23,
  z24 := Try.sizeOf23,
  v24 := Try.zeroValue23,
  t26 := Try.underlying3,
  a26 := Try.isAgg3,
  z26 := Try.sizeOf3,
  v26 := Try.zeroValue3,
  t28 := Try.underlying91,
  a28 := Try.isAgg91,
  z28 := Try.sizeOf91,
  v28 := Try.zeroValue91,
  i26 := by kernel_rfl }

end Go.Proofs.Ytgpfkaiinbncnaa
