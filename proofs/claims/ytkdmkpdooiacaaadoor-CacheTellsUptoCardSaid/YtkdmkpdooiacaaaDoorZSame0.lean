/- What CacheSame's walk needs. -/
import Derived.Test.YtkdmkpdooiacaaaDoorZCached
import Derived.Test.YtkdmkpdooiacaaaDoorZbase3
import Derived.Test.YtkdmkpdooiacaaaDoorZFindAll
import Derived.Test.YtkdmkpdooiacaaaDoorZbase1
namespace Go.Proofs.YtkdmkpdooiacaaaDoor
open Go.RowKit

theorem Cold.up {B B' : HB} {w : World} {v : Value} (h : Cold B w v) (hn : B.n ≤ B'.n) (hs : B'.s = []) : Cold B' w v := fun b o n c e hm => by
  obtain ⟨h1, h2⟩ := h b o n c e hm
  refine ⟨h1, fun hh => ?_⟩
  rcases hh with ⟨hh, x⟩ | hh
  · exact h2 (.inl ⟨Nat.le_trans hn hh, x⟩)
  · rw [hs] at hh
    simp at hh

theorem Sec.up {B B' : HB} {w : World} {v : Value} {n : Nat} {R : Nat → Rs} {F : Nat → Nat → Value} (h : Sec B w v n R F) (hn : B.n ≤ B'.n) (hs : B'.s = []) : Sec B' w v n R F :=
  ⟨h.rd, h.cd.up hn hs, fun i hi => by
    obtain ⟨na, nc, da, dc, h1, h2⟩ := h.at_ i hi
    exact ⟨na, nc, da, dc, h1, h2.rdn, h2.rdd, h2.cdn.up hn hs, h2.cdd.up hn hs⟩, h.wf, h.nb⟩

theorem QSec.up {B B' : HB} {w : World} {v : Value} {n : Nat} {R : Nat → Qs} {F : Nat → Nat → Value} (h : QSec B w v n R F) (hn : B.n ≤ B'.n) (hs : B'.s = []) : QSec B' w v n R F :=
  ⟨h.rd, h.cd.up hn hs, fun i hi => by
    obtain ⟨na, nc, h1, h2, h3⟩ := h.at_ i hi
    exact ⟨na, nc, h1, h2, h3.up hn hs⟩, h.wf, h.nb⟩

/-- a message from before stays out of reach of a later cache -/
theorem MsOk.up {B B' : HB} {w : World} {m : Ms} {vq va vu vm : Value} (h : MsOk B w m vq va vu vm) (hn : B.n ≤ B'.n) (hs : B'.s = []) : MsOk B' w m vq va vu vm :=
  ⟨h.hq.imp fun _ x => x.up hn hs, h.ha.imp fun _ x => x.up hn hs, h.hu.imp fun _ x => x.up hn hs, h.hm.imp fun _ x => x.up hn hs, h.hh⟩

theorem FrH.all {w w' : World} (h : FrH ⟨w.heap.size, []⟩ w w') : Fr [] w w' :=
  ⟨h.os, h.tape, h.output, h.size, fun k hk _ => h.block k hk (fun hh => by
    rcases hh with hh | hh
    · have := hh.1; simp only at this; omega
    · simp at hh)⟩

/-- bytes as numbers -/
def lI (L : List UInt8) (j : Nat) : Int := ((L.getD j 0).toNat : Int)

theorem OwnB.rdI {w : World} {B : Nat} {v : Value} {L : List UInt8} (h : OwnB w B v L) : RdF w v L.length (fun j => .int .u8 (lI L j)) := OwnF.rd h

theorem bytes_eq (L M : List UInt8) : (decide (L.length = M.length) && eqUpTo (lI L) (lI M) L.length) = decide (L = M) := by
  rw [Bool.eq_iff_iff, Bool.and_eq_true, decide_eq_true_iff, decide_eq_true_iff, eqUpTo_iff]
  constructor
  · rintro ⟨h1, h2⟩
    apply List.ext_getElem h1
    intro i hi hj
    have h3 := h2 i hi
    unfold lI at h3
    rw [List.getD_eq_getElem?_getD, List.getD_eq_getElem?_getD, List.getElem?_eq_getElem hi, List.getElem?_eq_getElem hj, Option.getD_some, Option.getD_some] at h3
    exact UInt8.toNat_inj.1 (by omega)
  · rintro rfl
    exact ⟨rfl, fun _ _ => rfl⟩

/-- what Key leaves, in one form -/
theorem KeyGood.gen {w w' : World} {m : Ms} {dob : Bool} {z : Int} {e : Ending} (h : KeyGood w w' m dob z e) :
    ∃ (a : Option Addr) (c : Nat) (L : List UInt8), e = .returned (.tuple #[.slice a L.length c, erVn (keyFault m z)]) ∧ OwnB w' w.heap.size (.slice a L.length c) L ∧ (keyFault m z = 0 → L = keyL (m.Q 0) m.h.rd dob) ∧ Fr [] w w' := by
  obtain ⟨h1, hf⟩ := h
  rcases h1 with ⟨h1, v, rfl, ho⟩ | ⟨h1, rfl⟩
  · obtain ⟨a, c, rfl⟩ := OwnF.rd ho |>.slice
    exact ⟨a, c, _, by rw [h1]; rfl, ho, fun _ => rfl, hf⟩
  · exact ⟨none, 0, [], by unfold erVn; rw [if_neg h1]; rfl, OwnB.nil _ _, fun h => absurd h h1, hf⟩

theorem MsSm.find {m : Ms} (h : MsSm m) : ∀ i, i < m.mn → (m.M i).dl ≤ 1099511627776 := fun i hi => by
  have := (h.m i hi).dl
  omega

theorem putZ_zero {q a : Ms} {z now : Int} (h : putZ q a z now = 0) : lifeZ a = 0 ∧ 0 ≤ now := by
  unfold putZ at h
  by_cases h1 : keyFault q z ≠ 0
  · rw [if_pos h1] at h
    exact absurd h h1
  · rw [if_neg h1] at h
    by_cases h2 : (a.h.an && alikeF q a) = false
    · rw [if_pos h2] at h
      cases h
    · rw [if_neg h2] at h
      by_cases h3 : now < 0
      · rw [if_pos h3] at h
        cases h
      · rw [if_neg h3] at h
        exact ⟨h, by omega⟩

theorem Fr.joinH {w w1 w2 : World} {B : HB} (h : Fr [] w w1) (k : FrH B w1 w2) (hn : w.heap.size ≤ B.n) (hs : B.s = []) : Fr [] w w2 :=
  ⟨k.os.trans h.os, k.tape.trans h.tape, k.output.trans h.output, Nat.le_trans h.size k.size, fun i hi hh =>
    (k.block i (Nat.lt_of_lt_of_le hi h.size) (fun hh2 => by
      rcases hh2 with hh2 | hh2
      · have := hh2.1; omega
      · rw [hs] at hh2; simp at hh2)).trans (h.block i hi hh)⟩

theorem erVn_zero : erVn 0 = .nilIface := rfl
theorem erVn_pos {z : Int} (h : z ≠ 0) : erVn z = .iface 25 (.int .i64 z) := by unfold erVn; rw [if_neg h]

end Go.Proofs.YtkdmkpdooiacaaaDoor
