/- maps.Keys[map[int]int,int,int]: the library's contract laid at this program, in plain words (written by wip/bin/layg.py). -/
import Derived.Shelf.SlIterI.Nil
import Derived.Test.YtgpfkaiinbncnaaRows
namespace Go.Proofs.Ytgpfkaiinbncnaa
open Go.RowKit Go.Shelf

def keysFRen : Ren where
  f := fun k => if k = 7 then 44 else if k = 10 then 58 else k
  t := fun k => if k = 0 then 0 else if k = 3 then 3 else if k = 4 then 4 else if k = 23 then 83 else if k = 26 then 3 else if k = 27 then 90 else if k = 28 then 91 else if k = 33 then 110 else k
  g := fun k => k

set_option maxRecDepth 100000 in
theorem keysFLays : SlLaysZI.n7 Try.prog keysFRen := {
  mixed := by kernel_rfl,
  f7 := ⟨Try.f44.name, by decide +kernel, Try.func44.trans (by kernel_rfl)⟩,
  f10 := ⟨Try.f58.name, by decide +kernel, Try.func58.trans (by kernel_rfl)⟩,
  t0 := Try.underlying0,
  a0 := Try.isAgg0,
  z0 := Try.sizeOf0,
  v0 := Try.zeroValue0,
  t4 := Try.underlying4,
  a4 := Try.isAgg4,
  z4 := Try.sizeOf4,
  v4 := Try.zeroValue4,
  t23 := Try.underlying83,
  a23 := Try.isAgg83,
  z23 := Try.sizeOf83,
  v23 := Try.zeroValue83,
  t26 := Try.underlying3,
  a26 := Try.isAgg3,
  z26 := Try.sizeOf3,
  v26 := Try.zeroValue3,
  t27 := Try.underlying90,
  a27 := Try.isAgg90,
  z27 := Try.sizeOf90,
  v27 := Try.zeroValue90,
  t28 := Try.underlying91,
  a28 := Try.isAgg91,
  z28 := Try.sizeOf91,
  v28 := Try.zeroValue91,
  t33 := Try.underlying110,
  a33 := Try.isAgg110,
  z33 := Try.sizeOf110,
  v33 := Try.zeroValue110 }

end Go.Proofs.Ytgpfkaiinbncnaa
