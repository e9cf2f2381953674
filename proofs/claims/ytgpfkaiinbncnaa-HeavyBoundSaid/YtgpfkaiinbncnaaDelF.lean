/- maps.DeleteFunc[map[int]int,int,int]: the library's contract laid at this program, in plain words (written by wip/bin/layg.py). -/
import Derived.Shelf.SlMaps.DeleteFunc
import Derived.Test.YtgpfkaiinbncnaaRows
namespace Go.Proofs.Ytgpfkaiinbncnaa
open Go.RowKit Go.Shelf

def delFRen : Ren where
  f := fun k => if k = 5 then 41 else k
  t := fun k => if k = 0 then 0 else if k = 4 then 4 else if k = 23 then 83 else if k = 24 then 3 else if k = 26 then 3 else if k = 27 then 88 else k
  g := fun k => k

set_option maxRecDepth 100000 in
theorem delFLays : SlLaysDf.n5 Try.prog delFRen := {
  mixed := by kernel_rfl,
  f5 := ⟨Try.f41.name, by decide +kernel, Try.func41.trans (by kernel_rfl)⟩,
  t0 := Try.underlying0,
  a0 := Try.isAgg0,
  z0 := Try.sizeOf0,
  v0 := Try.zeroValue0,
  t4 := Try.underlying4,
  a4 := Try.isAgg4,
  z4 := Try.sizeOf4,
  v4 := Try.zeroValue4,
  t23 := Try.underlying83,
  a23 := Try.isAgg83,
  z23 := Try.sizeOf83,
  v23 := Try.zeroValue83,
  a24 := Try.isAgg3,
  z24 := Try.sizeOf3,
  a26 := Try.isAgg3,
  z26 := Try.sizeOf3,
  t27 := Try.underlying88,
  a27 := Try.isAgg88,
  z27 := Try.sizeOf88,
  v27 := Try.zeroValue88 }

end Go.Proofs.Ytgpfkaiinbncnaa
