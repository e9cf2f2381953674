/- cache.Get: all cases. -/
import Derived.Test.YtcfdlilhhfaaaaaZGetA
import Derived.Test.YtcfdlilhhfaaaaaZGetB
import Derived.Test.YtcfdlilhhfaaaaaZGetC
import Derived.Test.YtcfdlilhhfaaaaaZGetD
import Derived.Test.YtcfdlilhhfaaaaaZGetE
namespace Go.Proofs.Ytcfdlilhhfaaaaa
open Go.RowKit

theorem get_any (w : World) (B : HB) (p : Nat) (n : Int) (v : Value) (l : List En) (q : Ms) (vq va vu vm : Value) (now : Int) (dob : Bool) (z : Int) (hC : Ca B w p n v l)
    (hq : MsOk B w q vq va vu vm) (hfs : FindSays q vq va vu vm dob z w) (hB : B.In w) (hnow : -9223372036854775808 ≤ now ∧ now ≤ 9223372036854775807) (hat0 : ∀ e ∈ l, 0 ≤ e.at_) :
    Calls Try.prog 11 #[.pointer (some ⟨p, 0, none⟩), msgV q.h vq va vu vm, .int .i64 now] w fun e w' => GetGood w w' B p n v l q dob z now e := by
  by_cases hk : keyFault q z = 0
  · by_cases hi : fIx (keyL (q.Q 0) q.h.rd dob) l < l.length
    · by_cases h1 : now < (l[fIx (keyL (q.Q 0) q.h.rd dob) l]'hi).at_
      · exact get_early w B p n v l q vq va vu vm now dob z hC hq hfs hB hnow hat0 hk hi h1
      · by_cases h2 : (l[fIx (keyL (q.Q 0) q.h.rd dob) l]'hi).life ≤ now - (l[fIx (keyL (q.Q 0) q.h.rd dob) l]'hi).at_
        · exact get_late w B p n v l q vq va vu vm now dob z hC hq hfs hB hnow hat0 hk hi h1 h2
        · exact get_told w B p n v l q vq va vu vm now dob z hC hq hfs hB hnow hat0 hk hi h1 h2
    · exact get_nokey w B p n v l q vq va vu vm now dob z hC hq hfs hB hnow hat0 hk hi
  · exact get_fault w B p n v l q vq va vu vm now dob z hC hq hfs hB hnow hat0 hk

end Go.Proofs.Ytcfdlilhhfaaaaa
