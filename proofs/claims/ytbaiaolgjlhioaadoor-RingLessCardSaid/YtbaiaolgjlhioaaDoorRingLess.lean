/- RingLess: the walk. -/
import Derived.Test.YtbaiaolgjlhioaaDoorRingSub
import Derived.Test.YtbaiaolgjlhioaaDoorRingLaw0
import Derived.Test.YtbaiaolgjlhioaaDoorWithoutN
import Derived.Test.YtbaiaolgjlhioaaDoorDoor
namespace Go.Proofs.YtbaiaolgjlhioaaDoor
open Go.RowKit Go.Sort

theorem wo_at (p : Nat → Int × Int) (k i n : Nat) (hk : k < n) (hi : i < n - 1) : ∃ j, j < n ∧ j ≠ k ∧ wo p k i = p j := by
  unfold wo
  by_cases h : i < k
  · exact ⟨i, by omega, by omega, by rw [if_pos h]⟩
  · exact ⟨i + 1, by omega, by omega, by rw [if_neg h]⟩

theorem wo_of (p : Nat → Int × Int) (k j n : Nat) (hk : k < n) (hj : j < n) (hne : j ≠ k) : ∃ i, i < n - 1 ∧ wo p k i = p j := by
  unfold wo
  by_cases h : j < k
  · exact ⟨j, by omega, by rw [if_pos h]⟩
  · exact ⟨j - 1, by omega, by rw [if_neg (by omega), show j - 1 + 1 = j by omega]⟩

theorem wo_good {p : Nat → Int × Int} {n : Nat} (hp : NGood p n) (k : Nat) (hk : k < n) (h1 : n ≠ 1) : NGood (wo p k) (n - 1) := by
  have h0 := hp.n0
  have h40 := hp.n40
  refine ⟨by omega, by omega, fun i hi => ?_, fun i j hi hj e => ?_⟩
  · obtain ⟨x, hx, _, e⟩ := wo_at p k i n hk hi
    rw [e]; exact hp.rng x hx
  · unfold wo at e
    by_cases h2 : i < k
    · by_cases h3 : j < k
      · rw [if_pos h2, if_pos h3] at e
        exact hp.ne i j (by omega) (by omega) e
      · rw [if_pos h2, if_neg h3] at e
        have := hp.ne i (j + 1) (by omega) (by omega) e
        omega
    · by_cases h3 : j < k
      · rw [if_neg h2, if_pos h3] at e
        have := hp.ne (i + 1) j (by omega) (by omega) e
        omega
      · rw [if_neg h2, if_neg h3] at e
        have := hp.ne (i + 1) (j + 1) (by omega) (by omega) e
        omega

/-- who goes takes nobody along -/
theorem less_win {p : Nat → Int × Int} {n k : Nat} {h r b : Int} (hp : NGood p n) (hk : k < n) (a : Win (pts p n) h r) (hb : Win (pts (wo p k) (n - 1)) h b) : b ≠ (p k).1 ∧ (r = (p k).1 ∨ r = b) := by
  have hs : NSub (wo p k) (n - 1) p n := fun i hi => by
    obtain ⟨j, hj, _, e⟩ := wo_at p k i n hk hi
    exact ⟨j, hj, e⟩
  constructor
  · obtain ⟨m, hm, rfl⟩ := hb.mem
    obtain ⟨i, t, hi, _, rfl⟩ := (pts_mem m).1 hm
    obtain ⟨j, hj, hne, e⟩ := wo_at p k i n hk hi
    rw [e]
    intro h2
    exact hne (hp.ne j k hj hk h2)
  · by_cases hr : r = (p k).1
    · exact .inl hr
    · right
      obtain ⟨m, hm, hmr⟩ := a.mem
      obtain ⟨j, t, hj, _, rfl⟩ := (pts_mem m).1 hm
      have hjk : j ≠ k := fun e => hr (by rw [← hmr, e])
      obtain ⟨i, hi, e⟩ := wo_of p k j n hk hj hjk
      have h1 := a.sub hs.ptsub (fun x hx hxr => hs.own hp i hi x hx (by rw [hxr, e]; exact hmr.symm))
      exact h1.det hb

theorem lone_win {p : Nat → Int × Int} {h r : Int} (a : Win (pts p 1) h r) : r = (p 0).1 := by
  obtain ⟨m, hm, rfl⟩ := a.mem
  obtain ⟨j, t, hj, _, rfl⟩ := (pts_mem m).1 hm
  rw [show j = 0 by omega]

set_option maxHeartbeats 4000000 in
set_option maxRecDepth 100000 in
theorem ringLess_any (w : World) (hg : Hand w) (a : Option Addr) (n c : Nat) (p : Nat → Int × Int) (hv : RdP w (.slice a n c) n p) (hn : n * 16 ≤ 140737488351232)
    (k : Int) (ka : Option Addr) (m kc : Nat) (kf : Nat → Int) (hk : RdF w (.slice ka m kc) m (fun j => .int .u8 (kf j))) (hb : ∀ j, j < m → 0 ≤ kf j ∧ kf j ≤ 255) (hm : m ≤ 9223372036854775807) :
    Calls Tryd.prog 5 #[.slice a n c, .int .i64 k, .slice ka m kc] w fun e w' => e = .returned (.bool true) ∧ Fr [] w w' := by
  have HG := Lib.hid hg; clear hg
  have HV := Lib.hid hv; clear hv
  have HK := Lib.hid hk; clear hk
  have HKB := Lib.hid hb; clear hb
  go_enter Tryd.func5, Tryd.ntmps5
  go_wp2_with fail
  refine (ringed_any _).mono ?_
  rintro e w1 ⟨rfl, hf1⟩
  have HF1 := Lib.hid hf1; clear hf1
  go_wp2_with fail
  refine (pick_any _ a n c p (HV.out.fr HF1.out) ka m kc kf (HK.out.fr HF1.out (by simp)) HKB.out hm).mono ?_
  rintro e w2 ⟨⟨hz, r, hW, rfl⟩ | ⟨hz, rfl⟩, hf2⟩
  case inr =>
    have HF2 := Lib.hid (HF1.out.trans hf2 (by simp))
    have e : erV (nfault p n) = .iface 26 (.int .i64 (nfault p n)) := by unfold erV; rw [if_neg hz]
    rw [e]
    clear e hz hf2
    go_wp2
    go_ret
    exact ⟨rfl, HF2.out⟩
  have HGD := Lib.hid ((nfault_iff p n).1 hz)
  have HW := Lib.hid hW
  have HF2 := Lib.hid (HF1.out.trans hf2 (by simp))
  clear hz hW hf2
  have h40 := HGD.out.n40
  have h0 := HGD.out.n0
  by_cases hk0 : k < 0
  · go_wp2
    go_ret
    exact ⟨rfl, HF2.out⟩
  by_cases hk1 : (n : Int) ≤ k
  · go_wp2
    go_ret
    exact ⟨rfl, HF2.out⟩
  obtain ⟨x, rfl⟩ : ∃ x : Nat, k = (x : Int) := ⟨k.toNat, by omega⟩
  have hxn : x < n := by omega
  have x0 : (0 : Int) ≤ (x : Int) := by omega
  have x1 : (x : Int) < (n : Int) := by omega
  have y0 : decide ((x : Int) < 0) = false := by simp
  have y1 : decide (n ≤ x) = false := by simp; omega
  clear hk0 hk1
  go_wp2_with fail
  refine (without_any _ a n c p (HV.out.fr HF2.out) hn x hxn).mono ?_
  rintro e w3 ⟨v, rfl, hO, hf3⟩
  obtain ⟨a3, c3, hv3⟩ := hO.rd.slice
  subst hv3
  have HF3 := Lib.hid (HF2.out.trans hf3 (by simp))
  have HO := Lib.hid hO.rd
  clear hO hf3
  go_wp2_with fail
  refine (pick_any _ a3 (n - 1) c3 (wo p x) HO.out ka m kc kf (HK.out.fr HF3.out (by simp)) HKB.out hm).mono ?_
  rintro e w4 ⟨hp4, hf4⟩
  have HF4 := Lib.hid (HF3.out.trans hf4 (by simp))
  clear hf4
  obtain ⟨b, o, cap', he, hnc, hcm, hbw, hc⟩ := HV.out.shape (by omega)
  simp only [Value.slice.injEq, true_and] at he
  obtain ⟨rfl, rfl⟩ := he
  obtain ⟨k0, _⟩ := hc x hxn
  have c0 := HF4.out.cell k0 (by simp)
  obtain ⟨k2, _⟩ := hc 0 (by omega)
  have hc0 := HF4.out.cell k2 (by simp)
  simp only [Nat.zero_mul, Nat.add_zero] at hc0
  clear hc k0 k2
  by_cases h1 : n = 1
  · subst h1
    rcases hp4 with ⟨hz, _⟩ | ⟨hz, rfl⟩
    · rw [show (1 - 1 : Nat) = 0 from rfl, nfault_none] at hz
      omega
    · rw [show (1 - 1 : Nat) = 0 from rfl, nfault_none, show erV 9 = .iface 26 (.int .i64 9) from rfl]
      have hr := lone_win HW.out
      rw [← hr] at hc0
      obtain rfl : x = 0 := by omega
      clear hz hr c0
      go_wp2_with fail
      refine (error_any _ (some 9) 9 (HG.out.fr HF4.out (by simp))).mono ?_
      rintro e w5 ⟨rfl, hf5⟩
      rw [show decide (numOf (some 9) = 9) = true from rfl]
      have d0 := hf5.cell hc0 (by simp)
      have HF5 := Lib.hid (HF4.out.trans hf5 (by simp))
      clear hf5 hc0
      go_wp2
      go_ret
      exact ⟨rfl, HF5.out⟩
  · have hn1 : ((n : Int) == 1) = false := by simp; omega
    rcases hp4 with ⟨hz, b', hWb, rfl⟩ | ⟨hz, rfl⟩
    · obtain ⟨h2, h3⟩ := less_win HGD.out hxn HW.out hWb
      have hbk : (b' == (p x).1) = false := by simpa using h2
      clear hz hWb h2 hc0
      by_cases hrk : r = (p x).1
      · subst hrk
        clear h3
        go_wp2
        go_ret
        exact ⟨rfl, HF4.out⟩
      · have h4 : (r == (p x).1) = false := by simpa using hrk
        obtain rfl : r = b' := by rcases h3 with h | h; exact absurd h hrk; exact h
        clear h3 hrk
        go_wp2
        go_ret
        exact ⟨rfl, HF4.out⟩
    · exact absurd ((nfault_iff _ _).2 (wo_good HGD.out x hxn h1)) hz

end Go.Proofs.YtbaiaolgjlhioaaDoor
