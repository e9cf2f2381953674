/- pointsmansame.Ints: are two lists of numbers the same? -/
import Derived.Test.YtbaiaolgjlhioaaDoorEq
namespace Go.Proofs.YtbaiaolgjlhioaaDoor
open Go.RowKit

set_option maxHeartbeats 1000000 in
theorem ints_any (w : World) (a b : Option Addr) (n m c d : Nat) (f g : Nat → Int) (hf : RdF w (.slice a n c) n (fun j => .int .i64 (f j))) (hg : RdF w (.slice b m d) m (fun j => .int .i64 (g j))) (hn : n ≤ 9223372036854775807) (hm : m ≤ 9223372036854775807) :
    Calls Tryd.prog 10 #[.slice a n c, .slice b m d] w fun e w' => e = .returned (.bool (decide (n = m) && eqUpTo f g n)) ∧ ∃ q, w' = w.drewN q := by
  have HF := Lib.hid hf; clear hf
  have HG := Lib.hid hg; clear hg
  by_cases hnm : n = m
  · subst hnm
    go_enter Tryd.func10, Tryd.ntmps10
    go_wp2
    go_loopw [5] (fun i wr => ∃ k : Nat, k ≤ n ∧ i = .int .i64 k ∧ Hid (eqUpTo f g k = true) ∧ ∃ q, wr = w.drewN q) (fun i _ => n - (intOf i).toNat)
    case atStart => exact ⟨0, by omega, rfl, rfl, 0, rfl⟩
    case round =>
      obtain ⟨k, hk, rfl, HE, hq⟩ := hrel
      have HQ := Lib.hid hq
      by_cases hlt : k < n
      · obtain ⟨b1, o1, c1, he1, _, _, _, hc1⟩ := HF.out.shape (by omega)
        obtain ⟨b2, o2, c2, he2, _, _, _, hc2⟩ := HG.out.shape (by omega)
        simp only [Value.slice.injEq, true_and] at he1 he2
        obtain ⟨rfl, rfl⟩ := he1
        obtain ⟨rfl, rfl⟩ := he2
        have k1 : wr.cell? ⟨b1, o1 + k, none⟩ = some (.int .i64 (f k)) := by obtain ⟨q, rfl⟩ := hq; exact hc1 k hlt
        have k2 : wr.cell? ⟨b2, o2 + k, none⟩ = some (.int .i64 (g k)) := by obtain ⟨q, rfl⟩ := hq; exact hc2 k hlt
        clear hc1 hc2 hq
        have hs : eqUpTo f g (k + 1) = (f k == g k) := by simp only [eqUpTo, HE.out, Bool.true_and]
        have HS := Lib.hid hs; clear hs
        have k0 : (0 : Int) ≤ (k : Int) := by omega
        have k3 : (k : Int) < (n : Int) := by omega
        by_cases hfg : f k = g k
        · have hb : (f k != g k) = false := by simp [hfg]
          have HFG := Lib.hid hfg; clear hfg
          go_wp2
          go_quiet (fail)
          go_wp2
          go_roundw
          case rel => exact ⟨k + 1, by omega, by go_num, by show _ = true; rw [HS.out]; simp [HFG.out], by obtain ⟨q, rfl⟩ := HQ.out; exact ⟨q + nq, World.drewN_drewN _ _ _⟩⟩
          case measure => simp [intOf]; omega
        · have hb : (f k != g k) = true := by simp [hfg]
          have hs2 : eqUpTo f g (k + 1) = false := by rw [HS.out]; simp [hfg]
          have hfin : (decide (n = n) && eqUpTo f g n) = false := by rw [eqUpTo_mono f g n (k + 1) (by omega) hs2]; simp
          have HFIN := Lib.hid hfin; clear hfin hs2 hfg
          go_wp2
          go_quiet (fail)
          go_wp2
          go_ret
          rw [HFIN.out]
          exact ⟨rfl, by obtain ⟨q, rfl⟩ := HQ.out; exact ⟨q + nq, World.drewN_drewN _ _ _⟩⟩
      · obtain rfl : k = n := by omega
        clear hq
        go_wp2
        go_ret
        exact ⟨by simp [HE.out], HQ.out⟩
  · have hne : ((n : Int) != (m : Int)) = true := by rw [bne_iff_ne]; omega
    have hfin : (decide (n = m) && eqUpTo f g n) = false := by simp [hnm]
    rw [hfin]
    clear hfin
    go_enter Tryd.func10, Tryd.ntmps10
    go_wp2
    go_ret
    exact ⟨rfl, 0, rfl⟩

end Go.Proofs.YtbaiaolgjlhioaaDoor
