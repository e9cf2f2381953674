/- RingTells: the walk. -/
import Derived.Test.YtbaiaolgjlhioaaDoorRingRef
import Derived.Test.YtbaiaolgjlhioaaDoorNodesRef
import Derived.Test.YtbaiaolgjlhioaaDoorRingLaw0
import Derived.Test.YtbaiaolgjlhioaaDoorDoor
namespace Go.Proofs.YtbaiaolgjlhioaaDoor
open Go.RowKit

theorem error_er (w : World) (z : Int) (hg : Hand w) (v : Value) (hv : v = erV z) :
    Calls Tryd.prog 9 #[v, .int .i64 z] w fun e w' => e = .returned (.bool true) ∧ Fr [] w w' := by
  subst hv
  by_cases hz : z = 0
  · subst hz
    refine (error_any w none 0 hg).mono ?_
    rintro e w' ⟨rfl, h⟩
    exact ⟨rfl, h⟩
  · refine (show erV z = errOf (some z) by simp [erV, errOf, hz]) ▸ (error_any w (some z) z hg).mono ?_
    rintro e w' ⟨rfl, h⟩
    exact ⟨by simp [numOf], h⟩

set_option maxHeartbeats 4000000 in
set_option maxRecDepth 100000 in
theorem ringTells_any (w : World) (hg : Hand w) (a : Option Addr) (n c : Nat) (p : Nat → Int × Int) (hv : RdP w (.slice a n c) n p) (ka : Option Addr) (m kc : Nat) (kf : Nat → Int) (hk : RdF w (.slice ka m kc) m (fun j => .int .u8 (kf j))) (hb : ∀ j, j < m → 0 ≤ kf j ∧ kf j ≤ 255) (hm : m ≤ 9223372036854775807) :
    Calls Tryd.prog 4 #[.slice a n c, .slice ka m kc] w fun e w' => e = .returned (.bool true) ∧ Fr [] w w' := by
  have HG := Lib.hid hg; clear hg
  have HV := Lib.hid hv; clear hv
  have HK := Lib.hid hk; clear hk
  have HKB := Lib.hid hb; clear hb
  go_enter Tryd.func4, Tryd.ntmps4
  go_wp2_with fail
  refine (ringed_any _).mono ?_
  rintro e w1 ⟨rfl, hf1⟩
  have HF1 := Lib.hid hf1; clear hf1
  go_wp2_with fail
  refine (nodesFault_any _ a n c p (HV.out.fr HF1.out)).mono ?_
  rintro e w2 ⟨rfl, hf2⟩
  have HF2 := Lib.hid (HF1.out.trans hf2 (by simp)); clear hf2
  go_upto_if 15 with fail
  go_cut [7] (fun v wy => (∃ r, v = .int .i64 r ∧ ((nfault p n = 0 ∧ Win (pts p n) (hsh kf m) r) ∨ (nfault p n ≠ 0 ∧ r = 0))) ∧ Fr [] w wy)
  case first =>
    by_cases hz : nfault p n = 0
    · have HZ := Lib.hid hz
      have hgd := (nfault_iff p n).1 hz
      have HGD := Lib.hid hgd
      have hz2 : (nfault p n == 0) = true := by simpa using hz
      clear hz hgd
      go_wp2_with fail
      refine (ringPick_ref _ a n c p (HV.out.fr HF2.out) HGD.out ka m kc kf (HK.out.fr HF2.out (by simp)) HKB.out hm).mono ?_
      rintro e w3 ⟨⟨r, hW, rfl⟩, hf3⟩
      have HW := Lib.hid hW
      have HF3 := Lib.hid (HF2.out.trans hf3 (by simp))
      clear hW hf3
      go_wp2_with fail
      go_meet
      exact ⟨⟨r, rfl, .inl ⟨HZ.out, HW.out⟩⟩, HF3.out⟩
    · have hz2 : (nfault p n == 0) = false := by simpa using hz
      have HZ := Lib.hid hz
      clear hz
      go_wp2_with fail
      go_meet
      exact ⟨⟨0, rfl, .inr ⟨HZ.out, rfl⟩⟩, HF2.out⟩
  case rest =>
    obtain ⟨⟨r, rfl, hr⟩, hf3⟩ := hcut
    have HR := Lib.hid hr
    have HF3 := Lib.hid hf3
    clear hr hf3 HF2 HF1
    go_wp2_with fail
    refine (pick_any _ a n c p (HV.out.fr HF3.out) ka m kc kf (HK.out.fr HF3.out (by simp)) HKB.out hm).mono ?_
    rintro e w4 ⟨hp4, hf4⟩
    have HF4 := Lib.hid (HF3.out.trans hf4 (by simp))
    obtain ⟨ev, rfl, hev⟩ : ∃ ev, e = .returned (.tuple #[.int .i64 r, ev]) ∧ ev = erV (nfault p n) := by
      rcases hp4 with ⟨hz, r', hW, rfl⟩ | ⟨hz, rfl⟩
      · rcases HR.out with ⟨_, hW2⟩ | ⟨h, _⟩
        · obtain rfl := hW.det hW2
          exact ⟨_, rfl, by rw [hz]; rfl⟩
        · exact absurd hz h
      · rcases HR.out with ⟨h, _⟩ | ⟨_, rfl⟩
        · exact absurd h hz
        · exact ⟨_, rfl, rfl⟩
    have HEV := Lib.hid hev
    clear hp4 hf4 hev
    go_wp2_with fail
    refine (error_er _ (nfault p n) (HG.out.fr HF4.out (by simp)) ev HEV.out).mono ?_
    rintro e w5 ⟨rfl, hf5⟩
    have HF5 := Lib.hid (HF4.out.trans hf5 (by simp))
    clear hf5
    have hrr : (r == r) = true := by simp
    go_wp2_with fail
    refine (hash_any _ ka m kc kf (HK.out.fr HF5.out (by simp)) HKB.out hm).mono ?_
    rintro e w6 ⟨rfl, rfl⟩
    go_wp2_with fail
    refine (hashed_any _ ka m kc kf (HK.out.fr HF5.out (by simp)) HKB.out hm).mono ?_
    rintro e w7 ⟨rfl, rfl⟩
    have hhh : (hsh kf m == hsh kf m) = true := by simp
    go_wp2
    go_ret
    exact ⟨rfl, HF5.out⟩

end Go.Proofs.YtbaiaolgjlhioaaDoor
