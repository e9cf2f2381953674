/- maps.DeleteFunc[map[int]int,int,int]: the library's contract laid at this program, in plain words (written by wip/bin/layg.py). -/
import Derived.Shelf.SlMaps.DeleteFunc
import Derived.Test.YtgpfkaiinbncnaaDoorRows
namespace Go.Proofs.YtgpfkaiinbncnaaDoor
open Go.RowKit Go.Shelf

def delFRen : Ren where
  f := fun k => if k = 5 then 54 else k
  t := fun k => if k = 0 then 0 else if k = 4 then 4 else if k = 23 then 94 else if k = 24 then 3 else if k = 26 then 3 else if k = 27 then 99 else k
  g := fun k => k

set_option maxRecDepth 100000 in
theorem delFLays : SlLaysDf.n5 Tryd.prog delFRen := {
  mixed := by kernel_rfl,
  f5 := ⟨Tryd.f54.name, by decide +kernel, Tryd.func54.trans (by kernel_rfl)⟩,
  t0 := Tryd.underlying0,
  a0 := Tryd.isAgg0,
  z0 := Tryd.sizeOf0,
  v0 := Tryd.zeroValue0,
  t4 := Tryd.underlying4,
  a4 := Tryd.isAgg4,
  z4 := Tryd.sizeOf4,
  v4 := Tryd.zeroValue4,
  t23 := Tryd.underlying94,
  a23 := Tryd.isAgg94,
  z23 := Tryd.sizeOf94,
  v23 := Tryd.zeroValue94,
  a24 := Tryd.isAgg3,
  z24 := Tryd.sizeOf3,
  a26 := Tryd.isAgg3,
  z26 := Tryd.sizeOf3,
  t27 := Tryd.underlying99,
  a27 := Tryd.isAgg99,
  z27 := Tryd.sizeOf99,
  v27 := Tryd.zeroValue99 }

end Go.Proofs.YtgpfkaiinbncnaaDoor
