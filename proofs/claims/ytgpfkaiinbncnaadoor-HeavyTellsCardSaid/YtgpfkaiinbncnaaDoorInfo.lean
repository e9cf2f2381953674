/- The rows of the program's table of types that appends and makes ask for. -/
import Derived.Test.YtgpfkaiinbncnaaDoorRows
import Derived.Test.YtgpfkaiinbncnaaDoorGen
namespace Go.Proofs.YtgpfkaiinbncnaaDoor
theorem infoInt : (Tryd.prog.info? 3).map (fun i => (i.zero, i.size, i.bytes)) = some (some (.int .i64 0), 1, 8) := by kernel_rfl
theorem infoU8 : (Tryd.prog.info? 5).map (fun i => (i.zero, i.size, i.bytes)) = some (some (.int .u8 0), 1, 1) := by kernel_rfl
theorem infoBool : (Tryd.prog.info? 4).map (fun i => (i.zero, i.size, i.bytes)) = some (some (.bool false), 1, 1) := by kernel_rfl
end Go.Proofs.YtgpfkaiinbncnaaDoor
