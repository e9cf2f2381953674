/- chain.Check, chain.First, chain.Do. -/
import Derived.Test.YtgpfkaiinbncnaaDoorRules
namespace Go.Proofs.YtgpfkaiinbncnaaDoor
open Go.RowKit

/-- the first k < n with p, else n -/
def ffst (p : Nat → Bool) : Nat → Nat
  | 0 => 0
  | n + 1 => if ffst p n < n then ffst p n else if p n then n else n + 1

theorem ffst_le (p : Nat → Bool) (n : Nat) : ffst p n ≤ n := by
  induction n with
  | zero => exact Nat.le_refl _
  | succ n ih => simp only [ffst]; split; omega; split <;> omega
theorem ffst_at {p : Nat → Bool} {n : Nat} (h : ffst p n < n) : p (ffst p n) = true := by
  induction n with
  | zero => omega
  | succ n ih =>
    simp only [ffst] at h ⊢
    by_cases h1 : ffst p n < n
    · rw [if_pos h1]; exact ih h1
    · rw [if_neg h1] at h ⊢
      by_cases h2 : p n = true
      · rw [if_pos h2]; exact h2
      · rw [if_neg h2] at h; omega
theorem ffst_below {p : Nat → Bool} {n k : Nat} (h : k < ffst p n) : p k = false := by
  induction n with
  | zero => simp only [ffst] at h; omega
  | succ n ih =>
    simp only [ffst] at h
    by_cases h1 : ffst p n < n
    · rw [if_pos h1] at h; exact ih h
    · rw [if_neg h1] at h
      have := ffst_le p n
      by_cases h2 : p n = true
      · rw [if_pos h2] at h; exact ih (by omega)
      · rw [if_neg h2] at h
        by_cases h3 : k = n
        · subst h3; simpa using h2
        · exact ih (by omega)
/-- whoever is the first is told -/
theorem ffst_is {p : Nat → Bool} {n k : Nat} (hk : k < n) (h1 : p k = true) (h2 : ∀ j, j < k → p j = false) : ffst p n = k := by
  have hle := ffst_le p n
  by_cases h : ffst p n < k
  · have a := ffst_at (p := p) (n := n) (by omega)
    rw [h2 _ h] at a
    cases a
  · by_cases h' : k < ffst p n
    · have a := ffst_below h'
      rw [h1] at a
      cases a
    · omega
theorem ffst_none {p : Nat → Bool} {n : Nat} (h2 : ∀ j, j < n → p j = false) : ffst p n = n := by
  have hle := ffst_le p n
  by_cases h : ffst p n < n
  · have a := ffst_at h
    rw [h2 _ h] at a
    cases a
  · omega
theorem ffst_all {p : Nat → Bool} {n : Nat} (h : ffst p n = n) (k : Nat) (hk : k < n) : p k = false := ffst_below (p := p) (n := n) (by omega)

def bd (R : Nat → Rl) (k : Nat) : Bool := decide (rf (R k) ≠ 0)
def hd (R : Nat → Rl) (q : Qt) (k : Nat) : Bool := rh (R k) q

/-- the chain's fault, and its place -/
def chZ (R : Nat → Rl) (n : Nat) : Int := if 50 < n then 7 else if ffst (bd R) n < n then rf (R (ffst (bd R) n)) else 0
def chI (R : Nat → Rl) (n : Nat) : Int := if 50 < n then 0 else if ffst (bd R) n < n then (ffst (bd R) n : Int) else 0
/-- the first one that holds -/
def fiI (R : Nat → Rl) (q : Qt) (n : Nat) : Int := if chZ R n = 0 then (if ffst (hd R q) n < n then (ffst (hd R q) n : Int) else -1) else 0
def doI (R : Nat → Rl) (q : Qt) (n : Nat) (other : Int) : Int := if chZ R n = 0 then (if ffst (hd R q) n < n then (R (ffst (hd R q) n)).act else other) else 0

theorem chZ_zero {R : Nat → Rl} {n : Nat} : chZ R n = 0 ↔ n ≤ 50 ∧ ∀ k, k < n → rf (R k) = 0 := by
  unfold chZ
  by_cases h : 50 < n
  · rw [if_pos h]; omega
  · rw [if_neg h]
    by_cases h1 : ffst (bd R) n < n
    · rw [if_pos h1]
      have := ffst_at h1
      simp only [bd, decide_eq_true_eq] at this
      constructor
      · intro h; exact absurd h this
      · intro h2; exact h2.2 _ h1
    · rw [if_neg h1]
      have hle := ffst_le (bd R) n
      constructor
      · intro _
        refine ⟨by omega, fun k hk => ?_⟩
        have := ffst_below (p := bd R) (n := n) (k := k) (by omega)
        simpa [bd] using this
      · intro _; rfl

/-- a row of rules -/
structure Rls (W : World) (a : Option Addr) (n c : Nat) (R : Nat → Rl) : Prop where
  rd : RdC W (.slice a n c) 2 n (fun j => (R j).F)
  ok : ∀ j, j < n → (R j).Ok W
  hc : n ≤ c ∧ c ≤ maxLen

theorem Rls.fr {W w : World} {a : Option Addr} {n c : Nat} {R : Nat → Rl} (h : Rls W a n c R) (hf : Fr [] W w) : Rls w a n c R := ⟨h.rd.fr hf, fun j hj => (h.ok j hj).fr hf, h.hc⟩

theorem check_full (w : World) (a : Option Addr) (n c : Nat) (hc : n ≤ c ∧ c ≤ maxLen) (h : 50 < n) : Calls Tryd.prog 37 #[.slice a n c] w fun e w' => e = .returned (.tuple #[.int .i64 0, .iface 27 (.int .i64 7)]) ∧ Fr [] w w' := by
  have hc2 := hc
  unfold maxLen at hc2
  go_enter Tryd.func37, Tryd.ntmps37
  go_wp2
  go_ret2
  exact ⟨rfl, Fr.refl _ _⟩

set_option maxHeartbeats 4000000 in
set_option maxRecDepth 100000 in
theorem chainCheck_any (W : World) (a : Option Addr) (n c : Nat) (R : Nat → Rl) (h : Rls W a n c R) :
    Calls Tryd.prog 37 #[.slice a n c] W fun e w' => e = .returned (.tuple #[.int .i64 (chI R n), erVn (chZ R n)]) ∧ Fr [] W w' := by
  by_cases h50 : 50 < n
  · have e1 : chI R n = 0 := by unfold chI; rw [if_pos h50]
    have e2 : chZ R n = 7 := by unfold chZ; rw [if_pos h50]
    rw [e1, e2]
    exact check_full W a n c h.hc h50
  have HI := Lib.hid (show chI R n = if ffst (bd R) n < n then (ffst (bd R) n : Int) else 0 by unfold chI; rw [if_neg h50])
  have HZ := Lib.hid (show chZ R n = if ffst (bd R) n < n then rf (R (ffst (bd R) n)) else 0 by unfold chZ; rw [if_neg h50])
  have hn : n ≤ 50 := by omega
  clear h50
  have HH := Lib.hid h; clear h
  generalize chI R n = I at *
  generalize chZ R n = Z at *
  go_enter Tryd.func37, Tryd.ntmps37
  go_wp2
  go_loopw [13] (fun vi wr => ∃ k : Nat, k ≤ n ∧ vi = .int .i64 k ∧ ffst (bd R) k = k ∧ Fr [] W wr) (fun vi _ => n - (intOf vi).toNat)
  case atStart => exact ⟨0, by omega, rfl, rfl, Fr.refl _ _⟩
  case round =>
    obtain ⟨k, hk, rfl, hff, hfr⟩ := hrel
    have HFF := Lib.hid hff; clear hff
    have HFR := Lib.hid hfr; clear hfr
    by_cases hlt : k < n
    · obtain ⟨bb, oo, cc, he, _, _, _, hcell⟩ := (HH.out.fr HFR.out).rd.shape (by omega) (by decide)
      simp only [Value.slice.injEq, true_and] at he
      obtain ⟨rfl, rfl⟩ := he
      have c0 : wr.cell? ⟨bb, oo + k * 2, none⟩ = some (.slice (R k).a (R k).n (R k).c) := hcell k 0 hlt (by decide)
      have c1 : wr.cell? ⟨bb, oo + k * 2 + 1, none⟩ = some (.int .i64 (R k).act) := hcell k 1 hlt (by decide)
      clear hcell
      have k0 : (0 : Int) ≤ (k : Int) := by omega
      have k1 : (k : Int) < (n : Int) := by omega
      have HC := Lib.hid (fun w1 (h1 : Fr [] W w1) => ruleCheck_any (HH.out.ok k hlt) w1 h1)
      by_cases hz : rf (R k) = 0
      · have HS := Lib.hid (show ffst (bd R) (k + 1) = k + 1 by simp only [ffst]; rw [HFF.out, if_neg (by omega), if_neg (by simp [bd, hz])])
        rw [show erVn (rf (R k)) = .nilIface from erV0 hz] at HC
        clear hz
        go_wp2_with (go_at_call 59; refine (HC.out _ (HFR.out.alloc _)).mono ?_; rintro e wx ⟨rfl, hfx⟩)
        go_roundw
        case rel => exact ⟨k + 1, by omega, by go_num, HS.out, (HFR.out.alloc _).trans hfx (by simp)⟩
        case measure => simp [intOf]; omega
      · have hf := ffst_is (p := bd R) (n := n) hlt (by simp [bd, hz]) (fun j hj => ffst_below (p := bd R) (n := k) (by rw [HFF.out]; exact hj))
        rw [hf, if_pos hlt] at HI HZ
        have HZ2 := Lib.hid (show erVn Z = .iface 27 (.int .i64 (rf (R k))) by rw [HZ.out]; exact erV1 hz)
        rw [show erVn (rf (R k)) = .iface 27 (.int .i64 (rf (R k))) from erV1 hz] at HC
        clear hz hf HZ
        generalize rf (R k) = z at *
        go_wp2_with (go_at_call 59; refine (HC.out _ (HFR.out.alloc _)).mono ?_; rintro e wx ⟨rfl, hfx⟩)
        go_ret2
        exact ⟨by rw [HI.out, HZ2.out]; rfl, (HFR.out.alloc _).trans hfx (by simp)⟩
    · obtain rfl : k = n := by omega
      rw [if_neg (by rw [HFF.out]; omega)] at HI HZ
      have HZ2 := Lib.hid (show erVn Z = .nilIface from erV0 HZ.out)
      clear HZ
      go_wp2
      go_ret2
      exact ⟨by rw [HI.out, HZ2.out]; rfl, HFR.out⟩

set_option maxHeartbeats 4000000 in
set_option maxRecDepth 100000 in
theorem chainFirst_bad (W : World) (a : Option Addr) (n c : Nat) (R : Nat → Rl) (q : Qt) (h : Rls W a n c R) (hz : chZ R n ≠ 0) :
    Calls Tryd.prog 39 #[.slice a n c, q.agg] W fun e w' => e = .returned (.tuple #[.int .i64 0, .iface 27 (.int .i64 (chZ R n))]) ∧ Fr [] W w' := by
  have HC := Lib.hid (fun w (hf : Fr [] W w) => chainCheck_any w a n c R (h.fr hf))
  rw [show erVn (chZ R n) = .iface 27 (.int .i64 (chZ R n)) from erV1 hz] at HC
  clear hz h
  generalize chZ R n = z at *
  generalize chI R n = i at *
  unfold Qt.agg
  go_enter Tryd.func39, Tryd.ntmps39
  go_wp2_with (go_at_call 37; refine (HC.out _ ((Fr.refl [] W).alloc _)).mono ?_; rintro e wx ⟨rfl, hfx⟩)
  go_ret2
  exact ⟨rfl, ((Fr.refl [] W).alloc _).trans hfx (by simp)⟩

theorem qbox {w : World} (q : Qt) {w4 : World} (h4 : Fr [] (w.alloc (.cells #[.slice q.na q.nl q.nc, .int .i64 q.ty, .int .i64 q.cl, .int .i64 q.opc, .bool q.rd, .slice q.fa q.fl q.fc] 72)) w4) : (w4.cell? ⟨w.heap.size, 0, none⟩ = some (.slice q.na q.nl q.nc)) ∧ (w4.cell? ⟨w.heap.size, 1, none⟩ = some (.int .i64 q.ty)) ∧ (w4.cell? ⟨w.heap.size, 2, none⟩ = some (.int .i64 q.cl)) ∧ (w4.cell? ⟨w.heap.size, 3, none⟩ = some (.int .i64 q.opc)) ∧ (w4.cell? ⟨w.heap.size, 4, none⟩ = some (.bool q.rd)) ∧ (w4.cell? ⟨w.heap.size, 5, none⟩ = some (.slice q.fa q.fl q.fc)) := by
  have hA := h4.blk (heap_alloc_new w (.cells #[.slice q.na q.nl q.nc, .int .i64 q.ty, .int .i64 q.cl, .int .i64 q.opc, .bool q.rd, .slice q.fa q.fl q.fc] 72)) (by simp)
  exact ⟨blk_cell hA 0 rfl, blk_cell hA 1 rfl, blk_cell hA 2 rfl, blk_cell hA 3 rfl, blk_cell hA 4 rfl, blk_cell hA 5 rfl⟩

abbrev qW (w : World) (q : Qt) : World := w.alloc (.cells #[.slice q.na q.nl q.nc, .int .i64 q.ty, .int .i64 q.cl, .int .i64 q.opc, .bool q.rd, .slice q.fa q.fl q.fc] 72)

set_option maxHeartbeats 8000000 in
set_option maxRecDepth 100000 in
theorem chainFirst_good (W : World) (a : Option Addr) (n c : Nat) (R : Nat → Rl) (q : Qt) (h : Rls W a n c R) (hq : q.Ok W) (hz : chZ R n = 0) :
    Calls Tryd.prog 39 #[.slice a n c, q.agg] W fun e w' => e = .returned (.tuple #[.int .i64 (fiI R q n), .nilIface]) ∧ Fr [] W w' := by
  have HI := Lib.hid (show fiI R q n = if ffst (hd R q) n < n then (ffst (hd R q) n : Int) else -1 by unfold fiI; rw [if_pos hz])
  have HC := Lib.hid (fun w (hf : Fr [] W w) => chainCheck_any w a n c R (h.fr hf))
  rw [show erVn (chZ R n) = .nilIface from erV0 hz] at HC
  obtain ⟨hn, hall⟩ := chZ_zero.1 hz
  have HALL := Lib.hid hall
  clear hz hall
  have HH := Lib.hid h; clear h
  have HQ := Lib.hid hq; clear hq
  generalize chI R n = i at *
  generalize fiI R q n = I at *
  have HCH := Lib.hid (fun k (hk : k < n) w (hf : Fr [] W w) => ruleHolds_good (HH.out.ok k hk) HQ.out (HALL.out k hk) w hf)
  unfold Qt.agg at HCH ⊢
  go_enter Tryd.func39, Tryd.ntmps39
  go_wp2_with (go_at_call 37; refine (HC.out _ ((Fr.refl [] W).alloc _)).mono ?_; rintro e w1 ⟨rfl, hfx⟩; have HFX := Lib.hid hfx; clear hfx)
  go_loopw [22] (fun vi wr => ∃ k : Nat, k ≤ n ∧ vi = .int .i64 k ∧ ffst (hd R q) k = k ∧ Fr [] (qW W q) wr) (fun vi _ => n - (intOf vi).toNat)
  case atStart => exact ⟨0, by omega, rfl, rfl, HFX.out⟩
  case round =>
    clear HFX
    obtain ⟨k, hk, rfl, hff, hfr⟩ := hrel
    have HFF := Lib.hid hff; clear hff
    have HFQ := Lib.hid hfr; clear hfr
    have HFR := Lib.hid (show Fr [] W wr from ((Fr.refl [] W).alloc _).trans HFQ.out (by simp))
    by_cases hlt : k < n
    · obtain ⟨bb, oo, cc, he, _, _, _, hcell⟩ := (HH.out.fr HFR.out).rd.shape (by omega) (by decide)
      simp only [Value.slice.injEq, true_and] at he
      obtain ⟨rfl, rfl⟩ := he
      have c0 : wr.cell? ⟨bb, oo + k * 2, none⟩ = some (.slice (R k).a (R k).n (R k).c) := hcell k 0 hlt (by decide)
      have c1 : wr.cell? ⟨bb, oo + k * 2 + 1, none⟩ = some (.int .i64 (R k).act) := hcell k 1 hlt (by decide)
      clear hcell
      have k0 : (0 : Int) ≤ (k : Int) := by omega
      have k1 : (k : Int) < (n : Int) := by omega
      obtain ⟨x0, x1, x2, x3, x4, x5⟩ := qbox q HFQ.out
      have hsz : W.heap.size < wr.heap.size := by have := HFQ.out.size; simp [qW] at this; omega
      have HC2 := Lib.hid (HCH.out k hlt)
      have HHD := Lib.hid (show hd R q k = rh (R k) q from rfl)
      generalize rh (R k) q = b at *
      cases b
      · have HS := Lib.hid (show ffst (hd R q) (k + 1) = k + 1 by simp only [ffst]; rw [HFF.out, if_neg (by omega), if_neg (by rw [HHD.out]; decide)])
        go_wp2_with (go_at_call 61; refine (HC2.out _ (HFR.out.alloc _)).mono ?_; rintro e wx ⟨rfl, hfx⟩)
        go_roundw
        case rel => exact ⟨k + 1, by omega, by go_num, HS.out, (HFQ.out.alloc _).trans hfx (by simp)⟩
        case measure => simp [intOf]; omega
      · have hf := ffst_is (p := hd R q) (n := n) hlt HHD.out (fun j hj => ffst_below (p := hd R q) (n := k) (by rw [HFF.out]; exact hj))
        rw [hf, if_pos hlt] at HI
        clear hf
        go_wp2_with (go_at_call 61; refine (HC2.out _ (HFR.out.alloc _)).mono ?_; rintro e wx ⟨rfl, hfx⟩)
        go_ret2
        exact ⟨by rw [HI.out]; rfl, (HFR.out.alloc _).trans hfx (by simp)⟩
    · obtain rfl : k = n := by omega
      rw [if_neg (by rw [HFF.out]; omega)] at HI
      go_wp2
      go_ret2
      exact ⟨by rw [HI.out]; rfl, HFR.out⟩

set_option maxHeartbeats 4000000 in
set_option maxRecDepth 100000 in
theorem chainDo_bad (W : World) (a : Option Addr) (n c : Nat) (R : Nat → Rl) (q : Qt) (other : Int) (h : Rls W a n c R) (hz : chZ R n ≠ 0) :
    Calls Tryd.prog 40 #[.slice a n c, q.agg, .int .i64 other] W fun e w' => e = .returned (.tuple #[.int .i64 0, .iface 27 (.int .i64 (chZ R n))]) ∧ Fr [] W w' := by
  have HC := Lib.hid (fun w (hf : Fr [] W w) => chainFirst_bad w a n c R q (h.fr hf) hz)
  clear hz h
  generalize chZ R n = z at *
  unfold Qt.agg at HC ⊢
  go_enter Tryd.func40, Tryd.ntmps40
  go_wp2_with (go_at_call 39; refine (HC.out _ ((Fr.refl [] W).alloc _)).mono ?_; rintro e wx ⟨rfl, hfx⟩)
  go_ret2
  exact ⟨rfl, ((Fr.refl [] W).alloc _).trans hfx (by simp)⟩

set_option maxHeartbeats 4000000 in
set_option maxRecDepth 100000 in
theorem chainDo_good (W : World) (a : Option Addr) (n c : Nat) (R : Nat → Rl) (q : Qt) (other : Int) (h : Rls W a n c R) (hq : q.Ok W) (hz : chZ R n = 0) :
    Calls Tryd.prog 40 #[.slice a n c, q.agg, .int .i64 other] W fun e w' => e = .returned (.tuple #[.int .i64 (doI R q n other), .nilIface]) ∧ Fr [] W w' := by
  have HC := Lib.hid (fun w (hf : Fr [] W w) => chainFirst_good w a n c R q (h.fr hf) (hq.fr hf) hz)
  have hI : fiI R q n = if ffst (hd R q) n < n then (ffst (hd R q) n : Int) else -1 := by unfold fiI; rw [if_pos hz]
  have hD : doI R q n other = if ffst (hd R q) n < n then (R (ffst (hd R q) n)).act else other := by unfold doI; rw [if_pos hz]
  obtain ⟨hn, _⟩ := chZ_zero.1 hz
  clear hz
  rw [hI] at HC
  clear hI
  have HH := Lib.hid h; clear h hq
  unfold Qt.agg at HC ⊢
  generalize ffst (hd R q) n = f at *
  by_cases hlt : f < n
  · rw [if_pos hlt] at HC hD
    have HD := Lib.hid hD; clear hD
    have hcell := Lib.hid (fun w (hf : Fr [] W w) => (HH.out.fr hf).rd.shape (by omega) (by decide))
    have k0 : (0 : Int) ≤ (f : Int) := by omega
    have k1 : (f : Int) < (n : Int) := by omega
    have k2 : ¬ (f : Int) < 0 := by omega
    obtain ⟨bb, oo, cc, he, _, _, _, _⟩ := HH.out.rd.shape (by omega) (by decide)
    simp only [Value.slice.injEq, true_and] at he
    obtain ⟨rfl, rfl⟩ := he
    go_enter Tryd.func40, Tryd.ntmps40
    go_wp2_with (go_at_call 39; refine (HC.out _ ((Fr.refl [] W).alloc _)).mono ?_; rintro e wx ⟨rfl, hfx⟩; have HFX := Lib.hid (((Fr.refl [] W).alloc _).trans hfx (by simp)); clear hfx; obtain ⟨b2, o2, c2, he, _, _, _, hc2⟩ := hcell.out _ HFX.out; simp only [Value.slice.injEq, Option.some.injEq, Addr.mk.injEq, and_true, true_and] at he; obtain ⟨⟨rfl, rfl⟩, rfl⟩ := he; have x1 : wx.cell? ⟨bb, oo + f * 2 + 1, none⟩ = some (.int .i64 (R f).act) := hc2 f 1 hlt (by decide); clear hc2)
    go_ret2
    exact ⟨by rw [HD.out]; rfl, HFX.out⟩
  · rw [if_neg hlt] at HC hD
    have HD := Lib.hid hD; clear hD
    go_enter Tryd.func40, Tryd.ntmps40
    go_wp2_with (go_at_call 39; refine (HC.out _ ((Fr.refl [] W).alloc _)).mono ?_; rintro e wx ⟨rfl, hfx⟩; have HFX := Lib.hid (((Fr.refl [] W).alloc _).trans hfx (by simp)); clear hfx)
    go_ret2
    exact ⟨by rw [HD.out]; rfl, HFX.out⟩

end Go.Proofs.YtgpfkaiinbncnaaDoor
