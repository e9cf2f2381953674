/- cache.Get: all cases. -/
import Derived.Test.YtkdmkpdooiacaaaDoorZGetA
import Derived.Test.YtkdmkpdooiacaaaDoorZGetB
import Derived.Test.YtkdmkpdooiacaaaDoorZGetC
import Derived.Test.YtkdmkpdooiacaaaDoorZGetD
import Derived.Test.YtkdmkpdooiacaaaDoorZGetE
namespace Go.Proofs.YtkdmkpdooiacaaaDoor
open Go.RowKit

/-- nothing is told: nothing is written -/
theorem GetGood.fr {w w' : World} {B : HB} {p : Nat} {n : Int} {v : Value} {l : List En} {q : Ms} {dob : Bool} {z now : Int} {e : Ending} (h : GetGood w w' B p n v l q dob z now e)
    (hno : keyFault q z ≠ 0 ∨ ∀ (h : fIx (keyL (q.Q 0) q.h.rd dob) l < l.length), fresh now (l[fIx (keyL (q.Q 0) q.h.rd dob) l]) = false) : Fr [] w w' := by
  rcases h with ⟨_, _, h⟩ | ⟨_, _, _, h⟩ | ⟨h0, hx, hf, _⟩
  · exact h
  · exact h
  · rcases hno with hno | hno
    · exact absurd h0 hno
    · rw [hno hx] at hf; cases hf

theorem get_any2 (w : World) (B : HB) (p : Nat) (n : Int) (v : Value) (l : List En) (q : Ms) (vq va vu vm : Value) (now : Int) (dob : Bool) (z : Int) (hC : Ca B w p n v l)
    (hq : MsOk B w q vq va vu vm) (hfs : FindSays q vq va vu vm dob z w) (hB : B.In w) (hnow : -9223372036854775808 ≤ now ∧ now ≤ 9223372036854775807) (hat0 : ∀ e ∈ l, 0 ≤ e.at_) :
    Calls Tryd.prog 13 #[.pointer (some ⟨p, 0, none⟩), msgV q.h vq va vu vm, .int .i64 now] w fun e w' => GetGood w w' B p n v l q dob z now e ∧ Fr (p :: v.ownBlock.toList) w w' := by
  by_cases hk : keyFault q z = 0
  · by_cases hi : fIx (keyL (q.Q 0) q.h.rd dob) l < l.length
    · by_cases h1 : now < (l[fIx (keyL (q.Q 0) q.h.rd dob) l]'hi).at_
      · exact (get_early w B p n v l q vq va vu vm now dob z hC hq hfs hB hnow hat0 hk hi h1).mono fun e w' h => ⟨h, (h.fr (.inr fun _ => by unfold fresh; rw [decide_eq_true h1]; rfl)).mono (by simp)⟩
      · by_cases h2 : (l[fIx (keyL (q.Q 0) q.h.rd dob) l]'hi).life ≤ now - (l[fIx (keyL (q.Q 0) q.h.rd dob) l]'hi).at_
        · exact (get_late w B p n v l q vq va vu vm now dob z hC hq hfs hB hnow hat0 hk hi h1 h2).mono fun e w' h => ⟨h, (h.fr (.inr fun _ => by unfold fresh; rw [decide_eq_true h2, Bool.or_true]; rfl)).mono (by simp)⟩
        · exact get_told w B p n v l q vq va vu vm now dob z hC hq hfs hB hnow hat0 hk hi h1 h2
    · exact (get_nokey w B p n v l q vq va vu vm now dob z hC hq hfs hB hnow hat0 hk hi).mono fun e w' h => ⟨h, (h.fr (.inr fun h => absurd h hi)).mono (by simp)⟩
  · exact (get_fault w B p n v l q vq va vu vm now dob z hC hq hfs hB hnow hat0 hk).mono fun e w' h => ⟨h, (h.fr (.inl hk)).mono (by simp)⟩

theorem get_any (w : World) (B : HB) (p : Nat) (n : Int) (v : Value) (l : List En) (q : Ms) (vq va vu vm : Value) (now : Int) (dob : Bool) (z : Int) (hC : Ca B w p n v l)
    (hq : MsOk B w q vq va vu vm) (hfs : FindSays q vq va vu vm dob z w) (hB : B.In w) (hnow : -9223372036854775808 ≤ now ∧ now ≤ 9223372036854775807) (hat0 : ∀ e ∈ l, 0 ≤ e.at_) :
    Calls Tryd.prog 13 #[.pointer (some ⟨p, 0, none⟩), msgV q.h vq va vu vm, .int .i64 now] w fun e w' => GetGood w w' B p n v l q dob z now e :=
  (get_any2 w B p n v l q vq va vu vm now dob z hC hq hfs hB hnow hat0).mono fun _ _ h => h.1

end Go.Proofs.YtkdmkpdooiacaaaDoor
