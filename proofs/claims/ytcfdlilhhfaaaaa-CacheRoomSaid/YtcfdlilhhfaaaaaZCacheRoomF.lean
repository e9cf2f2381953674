/- CacheRoom: the walk, with its frame. -/
import Derived.Test.YtcfdlilhhfaaaaaZCacheRoom
namespace Go.Proofs.Ytcfdlilhhfaaaaa
open Go.RowKit

theorem FrH.fr {w w' : World} (h : FrH ⟨w.heap.size, []⟩ w w') : Fr [] w w' :=
  ⟨h.os, h.tape, h.output, h.size, fun k hk _ => h.block k hk (fun hh => by
    rcases hh with hh | hh
    · have := hh.1; simp only at this; omega
    · simp at hh)⟩

theorem cacheRoom_fr (w : World) (n : Int) (a : Option Addr) (m c : Nat) (s : Nat → ByteArray) (now : Int) (hv : RdF w (.slice a m c) m (fun j => .string (s j))) (hss : ∀ j, j < m → (s j).size ≤ 140737488355328) (hnow : -9223372036854775808 ≤ now ∧ now ≤ 9223372036854775807) :
    Calls Try.prog 4 #[.int .i64 n, .slice a m c, .int .i64 now] w fun e w' => e = .returned (.bool true) ∧ Fr [] w w' :=
  (cacheRoom_any w n a m c s now hv hss hnow).mono fun e w' h => ⟨h.1, h.2.fr⟩

end Go.Proofs.Ytcfdlilhhfaaaaa
