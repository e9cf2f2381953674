/- maps.Keys[map[int]int,int,int]: the library's contract laid at this program, in plain words (written by wip/bin/layg.py). -/
import Derived.Shelf.SlIterI.Nil
import Derived.Test.YtgpfkaiinbncnaaDoorRows
namespace Go.Proofs.YtgpfkaiinbncnaaDoor
open Go.RowKit Go.Shelf

def keysFRen : Ren where
  f := fun k => if k = 7 then 57 else if k = 10 then 72 else k
  t := fun k => if k = 0 then 0 else if k = 3 then 3 else if k = 4 then 4 else if k = 23 then 94 else if k = 26 then 3 else if k = 27 then 101 else if k = 28 then 102 else if k = 33 then 120 else k
  g := fun k => k

set_option maxRecDepth 100000 in
theorem keysFLays : SlLaysZI.n7 Tryd.prog keysFRen := {
  mixed := by kernel_rfl,
  f7 := ⟨Tryd.f57.name, by decide +kernel, Tryd.func57.trans (by kernel_rfl)⟩,
  f10 := ⟨Tryd.f72.name, by decide +kernel, Tryd.func72.trans (by kernel_rfl)⟩,
  t0 := Tryd.underlying0,
  a0 := Tryd.isAgg0,
  z0 := Tryd.sizeOf0,
  v0 := Tryd.zeroValue0,
  t4 := Tryd.underlying4,
  a4 := Tryd.isAgg4,
  z4 := Tryd.sizeOf4,
  v4 := Tryd.zeroValue4,
  t23 := Tryd.underlying94,
  a23 := Tryd.isAgg94,
  z23 := Tryd.sizeOf94,
  v23 := Tryd.zeroValue94,
  t26 := Tryd.underlying3,
  a26 := Tryd.isAgg3,
  z26 := Tryd.sizeOf3,
  v26 := Tryd.zeroValue3,
  t27 := Tryd.underlying101,
  a27 := Tryd.isAgg101,
  z27 := Tryd.sizeOf101,
  v27 := Tryd.zeroValue101,
  t28 := Tryd.underlying102,
  a28 := Tryd.isAgg102,
  z28 := Tryd.sizeOf102,
  v28 := Tryd.zeroValue102,
  t33 := Tryd.underlying120,
  a33 := Tryd.isAgg120,
  z33 := Tryd.sizeOf120,
  v33 := Tryd.zeroValue120 }

end Go.Proofs.YtgpfkaiinbncnaaDoor
