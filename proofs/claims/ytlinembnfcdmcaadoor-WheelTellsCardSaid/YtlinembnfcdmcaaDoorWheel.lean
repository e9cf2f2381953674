/- wheel: New, Next, Owed: what each does. -/
import Derived.Test.YtlinembnfcdmcaaDoorClone
namespace Go.Proofs.YtlinembnfcdmcaaDoor
open Go.RowKit

/-- The first place of the greatest of f 0 .. f (k-1); 0 where k = 0. -/
def bst (f : Nat → Int) : Nat → Nat
  | 0 => 0
  | k + 1 => if f (bst f k) < f k then k else bst f k

theorem bst_lt (f : Nat → Int) (k : Nat) : bst f k < k ∨ bst f k = 0 := by
  induction k with
  | zero => right; rfl
  | succ k ih =>
    unfold bst
    split
    · left; omega
    · rcases ih with h | h
      · left; omega
      · right; exact h

structure Wheel (w : World) (p gw go n cw co : Nat) (ws ow : Nat → Int) (all : Int) : Prop where
  blk : w.heap[p]? = some (.cells #[.slice (some ⟨gw, 0, none⟩) n cw, .slice (some ⟨go, 0, none⟩) n co, .int .i64 all] 85 (0, 0))
  roww : RowI w gw n cw ws
  rowo : RowI w go n co ow
  hp : p ≠ go ∧ p ≠ gw ∧ gw ≠ go

theorem Wheel.drewN {w : World} {p gw go n cw co : Nat} {ws ow : Nat → Int} {all : Int} (h : Wheel w p gw go n cw co ws ow all) (k : Nat) : Wheel (w.drewN k) p gw go n cw co ws ow all := ⟨h.blk, h.roww, h.rowo, h.hp⟩

theorem Wheel.kept {w w' : World} {p gw go n cw co : Nat} {ws ow : Nat → Int} {all : Int} {S : List Nat} (h : Wheel w p gw go n cw co ws ow all) (hf : Fr S w w') (hn : p ∉ S ∧ gw ∉ S ∧ go ∉ S) : Wheel w' p gw go n cw co ws ow all :=
  ⟨hf.blk h.blk hn.1, h.roww.kept hf hn.2.1, h.rowo.kept hf hn.2.2, h.hp⟩

theorem Wheel.congr {w : World} {p gw go n cw co : Nat} {ws ow ow' : Nat → Int} {all : Int} (h : Wheel w p gw go n cw co ws ow all) (he : ∀ j, j < n → ow j = ow' j) : Wheel w p gw go n cw co ws ow' all :=
  ⟨h.blk, h.roww, h.rowo.congr (fun j hj => by simp only [he j hj]), h.hp⟩

theorem Wheel.lt {w : World} {p gw go n cw co : Nat} {ws ow : Nat → Int} {all : Int} (h : Wheel w p gw go n cw co ws ow all) : p < w.heap.size ∧ gw < w.heap.size ∧ go < w.heap.size :=
  ⟨lt_of_blk h.blk, h.roww.lt, h.rowo.lt⟩

theorem Wheel.stored {w : World} {p gw go n cw co : Nat} {ws ow : Nat → Int} {all : Int} (h : Wheel w p gw go n cw co ws ow all) (k : Nat) (x : Int) (ow' : Nat → Int) (he : ∀ j, j < n → (if j = k then x else ow j) = ow' j) :
    Wheel (w.setCell ⟨go, k, none⟩ (.int .i64 x)) p gw go n cw co ws ow' all :=
  have hf : Fr [go] w (w.setCell ⟨go, k, none⟩ (.int .i64 x)) := (Fr.refl [go] w).setCell (by simp) _
  ⟨hf.blk h.blk (by simpa using h.hp.1), h.roww.kept hf (by simpa using h.hp.2.2), (h.rowo.stored k _).congr (fun j hj => by have := he j hj; by_cases hjk : j = k <;> simp_all), h.hp⟩

set_option maxHeartbeats 400000 in
theorem wheel_next (w : World) (p gw go n cw co : Nat) (ws ow : Nat → Int) (all : Int) (h : Wheel w p gw go n cw co ws ow all) (hn : 0 < n)
    (hb : ∀ j, j < n → -1000000000000 ≤ ow j ∧ ow j ≤ 1000000000000 ∧ 0 ≤ ws j ∧ ws j ≤ 1000000000000) (ha : 0 ≤ all ∧ all ≤ 1000000000000) (hnn : n ≤ 1000000000000) :
    Calls Tryd.prog 38 #[.pointer (some ⟨p, 0, none⟩)] w fun e w' =>
      e = .returned (.int .i64 (bst (fun j => ow j + ws j) n)) ∧ Wheel w' p gw go n cw co ws (fun j => ow j + ws j - if j = bst (fun j => ow j + ws j) n then all else 0) all ∧ Fr [go] w w' := by
  have hc0 := blk_cell h.blk 0 rfl
  have hne := h.hp
  have H := Lib.hid h; clear h
  have HB := Lib.hid hb; clear hb
  go_enter Tryd.func38, Tryd.ntmps38
  go_wp2
  go_loopw [3, 11] (fun b i wr => ∃ k : Nat, k ≤ n ∧ i = .int .i64 k ∧ b = .int .i64 (bst (fun j => ow j + ws j) k) ∧ Wheel wr p gw go n cw co ws (fun j => if j < k then ow j + ws j else ow j) all ∧ Fr [go] w wr)
    (fun _ i _ => n - (intOf i).toNat)
  case atStart => exact ⟨0, by omega, rfl, rfl, ⟨H.out.blk, H.out.roww, H.out.rowo.congr (fun j hj => by simp), H.out.hp⟩, Fr.refl _ _⟩
  case round =>
    obtain ⟨k, hk, rfl, rfl, hw, hf⟩ := hrel
    by_cases hlt : k < n
    · have hb0 : bst (fun j => ow j + ws j) k ≤ k := by rcases bst_lt (fun j => ow j + ws j) k with h | h <;> omega
      have bd := HB.out k hlt
      have bdb := HB.out (bst (fun j => ow j + ws j) k) (by omega)
      have c1 := blk_cell hw.blk 1 rfl
      have cw0 : wr.cell? ⟨gw, k, none⟩ = some (.int .i64 (ws k)) := hw.roww.cell k hlt
      have co0 : wr.cell? ⟨go, k, none⟩ = some (.int .i64 (ow k)) := by have := hw.rowo.cell k hlt; simpa using this
      have fo0 : wr.frozen? ⟨go, k, none⟩ = false := hw.rowo.frozen k
      have HW := Lib.hid hw; clear hw
      have HF := Lib.hid hf; clear hf
      have hst : bst (fun j => ow j + ws j) (k + 1) = if ow (bst (fun j => ow j + ws j) k) + ws (bst (fun j => ow j + ws j) k) < ow k + ws k then k else bst (fun j => ow j + ws j) k := rfl
      have HST := Lib.hid hst; clear hst
      have hfin : ∀ (nq : Nat), Wheel ((wr.setCell ⟨go, k, none⟩ (.int .i64 (ow k + ws k))).drewN nq) p gw go n cw co ws (fun j => if j < k + 1 then ow j + ws j else ow j) all ∧ Fr [go] w ((wr.setCell ⟨go, k, none⟩ (.int .i64 (ow k + ws k))).drewN nq) := fun nq =>
        ⟨(HW.out.stored k _ _ (fun j hj => by
          by_cases h1 : j = k
          · subst h1; simp
          · by_cases h2 : j < k
            · simp [h1, h2, show j < k + 1 by omega]
            · simp [h1, h2, show ¬ j < k + 1 by omega])).drewN nq, (HF.out.setCell (by simp) _).drewN nq⟩
      have HFIN := Lib.hid hfin; clear hfin
      by_cases hbk : bst (fun j => ow j + ws j) k = k
      · rw [hbk] at bdb HST
        have HST' := Lib.hid (show bst (fun j => ow j + ws j) (k + 1) = k from by rw [HST.out]; split <;> rfl)
        clear HST
        generalize bst (fun j => ow j + ws j) k = b at *
        obtain rfl : b = k := hbk
        go_wp2
        go_quiet (fail)
        go_wp2
        all_goals
          go_roundw
          case rel => exact ⟨b + 1, by omega, by go_num, by rw [HST'.out], (HFIN.out nq).1, (HFIN.out nq).2⟩
          case measure => simp [intOf]; omega
      · have cb0 : wr.cell? ⟨go, bst (fun j => ow j + ws j) k, none⟩ = some (.int .i64 (ow (bst (fun j => ow j + ws j) k) + ws (bst (fun j => ow j + ws j) k))) := by have := HW.out.rowo.cell (bst (fun j => ow j + ws j) k) (by omega); simpa [show bst (fun j => ow j + ws j) k < k by omega] using this
        have hbk' : bst (fun j => ow j + ws j) k < k := by omega
        generalize bst (fun j => ow j + ws j) k = b at *
        go_wp2
        go_quiet (fail)
        go_wp2
        · go_roundw
          case rel => exact ⟨k + 1, by omega, by go_num, by rw [HST.out, if_pos (by omega)], (HFIN.out nq).1, (HFIN.out nq).2⟩
          case measure => simp [intOf]; omega
        · go_roundw
          case rel => exact ⟨k + 1, by omega, by go_num, by rw [HST.out, if_neg (by omega)], (HFIN.out nq).1, (HFIN.out nq).2⟩
          case measure => simp [intOf]; omega
    · obtain rfl : k = n := by omega
      have hbn : bst (fun j => ow j + ws j) k < k := by rcases bst_lt (fun j => ow j + ws j) k with h | h <;> omega
      have bdb := HB.out (bst (fun j => ow j + ws j) k) hbn
      have c1 := blk_cell hw.blk 1 rfl
      have c2 := blk_cell hw.blk 2 rfl
      have cb0 : wr.cell? ⟨go, bst (fun j => ow j + ws j) k, none⟩ = some (.int .i64 (ow (bst (fun j => ow j + ws j) k) + ws (bst (fun j => ow j + ws j) k))) := by have := hw.rowo.cell (bst (fun j => ow j + ws j) k) hbn; simpa [hbn] using this
      have fo0 : wr.frozen? ⟨go, bst (fun j => ow j + ws j) k, none⟩ = false := hw.rowo.frozen _
      have HW := Lib.hid hw; clear hw
      have HF := Lib.hid hf; clear hf
      have hfin : ∀ (nq : Nat), Wheel ((wr.setCell ⟨go, bst (fun j => ow j + ws j) k, none⟩ (.int .i64 (ow (bst (fun j => ow j + ws j) k) + ws (bst (fun j => ow j + ws j) k) - all))).drewN nq) p gw go k cw co ws (fun j => ow j + ws j - if j = bst (fun j => ow j + ws j) k then all else 0) all ∧ Fr [go] w ((wr.setCell ⟨go, bst (fun j => ow j + ws j) k, none⟩ (.int .i64 (ow (bst (fun j => ow j + ws j) k) + ws (bst (fun j => ow j + ws j) k) - all))).drewN nq) := fun nq =>
        ⟨(HW.out.stored _ _ _ (fun j hj => by
          by_cases h1 : j = bst (fun j => ow j + ws j) k
          · rw [if_pos h1, if_pos h1, h1]
          · rw [if_neg h1, if_neg h1, if_pos hj]; omega)).drewN nq, (HF.out.setCell (by simp) _).drewN nq⟩
      have HFIN := Lib.hid hfin; clear hfin
      generalize hbb : bst (fun j => ow j + ws j) k = b at *
      have HBB := Lib.hid hbb; clear hbb
      go_wp2
      go_region
      all_goals
        go_wp2
        go_ret
        rw [HBB.out]
        exact ⟨rfl, (HFIN.out 1).1, (HFIN.out 1).2⟩

set_option maxHeartbeats 400000 in
theorem wheel_owed (w : World) (p gw go n cw co : Nat) (ws ow : Nat → Int) (all : Int) (h : Wheel w p gw go n cw co ws ow all) (hnn : n ≤ 1000000000000) :
    Calls Tryd.prog 39 #[.pointer (some ⟨p, 0, none⟩)] w fun e w' =>
      ∃ v', e = .returned v' ∧ OwnF w' w.heap.size 3 v' n (fun j => .int .i64 (ow j)) ∧ Fr [] w w' := by
  have hc1 := blk_cell h.blk 1 rfl
  have HR := Lib.hid h.rowo.rd; clear h
  go_enter Tryd.func39, Tryd.ntmps39
  go_wp2_with fail
  refine (clone_ints _ _ n ow HR.out (by omega)).mono ?_
  rintro e w' ⟨v', rfl, ho, hf⟩
  go_wp2
  go_ret
  exact ⟨v', rfl, ho, hf⟩

/-- what 'New' asks of weights -/
def wsum (ws : Nat → Int) : Nat → Int
  | 0 => 0
  | k + 1 => wsum ws k + ws k

theorem wsum_le (ws : Nat → Int) (k : Nat) (h : ∀ j, j < k → 1 ≤ ws j ∧ ws j ≤ 1000) : (k : Int) ≤ wsum ws k ∧ wsum ws k ≤ k * 1000 := by
  induction k with
  | zero => simp [wsum]
  | succ k ih =>
    have h1 := ih fun j hj => h j (by omega)
    have h2 := h k (by omega)
    unfold wsum
    omega

theorem wheel_built {W w1 : World} {gw go n cw co : Nat} {ws : Nat → Int} (hr : RowI w1 gw n cw ws) (ho : RowI w1 go n co (fun _ => 0)) (hne : gw ≠ go) (hf : Fr [] W w1) :
    Wheel (w1.alloc (.cells #[.slice (some ⟨gw, 0, none⟩) n cw, .slice (some ⟨go, 0, none⟩) n co, .int .i64 0] 85)) w1.heap.size gw go n cw co ws (fun _ => 0) 0 ∧
    Fr [] W (w1.alloc (.cells #[.slice (some ⟨gw, 0, none⟩) n cw, .slice (some ⟨go, 0, none⟩) n co, .int .i64 0] 85)) :=
  have h1 := hr.lt
  have h2 := ho.lt
  ⟨⟨heap_alloc_new w1 _, hr.kept ((Fr.refl [] w1).alloc _) (by simp), ho.kept ((Fr.refl [] w1).alloc _) (by simp), by omega, by omega, hne⟩, hf.alloc _⟩

theorem Wheel.setAll {w : World} {p gw go n cw co : Nat} {ws ow : Nat → Int} {all : Int} (h : Wheel w p gw go n cw co ws ow all) (x : Int) : Wheel (w.setCell ⟨p, 2, none⟩ (.int .i64 x)) p gw go n cw co ws ow x :=
  have hf : Fr [p] w (w.setCell ⟨p, 2, none⟩ (.int .i64 x)) := (Fr.refl [p] w).setCell (by simp) _
  ⟨by simp only [World.setCell]; rw [Array.getElem?_modify, if_pos rfl, h.blk]; rfl, h.roww.kept hf (by have := h.hp; simp; omega), h.rowo.kept hf (by have := h.hp; simp; omega), h.hp⟩

/-- what 'New' leaves where there are weights, no more than 40 -/
def NewPost (w : World) (n : Nat) (ws : Nat → Int) (e : Ending) (w' : World) : Prop :=
  Fr [] w w' ∧ (((∀ j, j < n → 1 ≤ ws j ∧ ws j ≤ 1000) ∧ ∃ p gw go cw co, e = .returned (.tuple #[.pointer (some ⟨p, 0, none⟩), .nilIface]) ∧
      w.heap.size ≤ p ∧ w.heap.size ≤ gw ∧ w.heap.size ≤ go ∧ Wheel w' p gw go n cw co ws (fun _ => 0) (wsum ws n)) ∨
    (∃ j, j < n ∧ ¬ (1 ≤ ws j ∧ ws j ≤ 1000)) ∧ e = .returned (.tuple #[.pointer none, .iface 30 (.int .i64 6)]))

set_option maxHeartbeats 400000 in
theorem wheel_new_pos (w : World) (v : Value) (n : Nat) (ws : Nat → Int) (hv : RdF w v n (fun j => .int .i64 (ws j))) (hn : 0 < n) (hn40 : n ≤ 40) :
    Calls Tryd.prog 36 #[v] w (NewPost w n ws) := by
  obtain ⟨b, o, cap, rfl, hnc, hcm, hbw, hc⟩ := hv.shape hn
  have HV := Lib.hid hv; clear hv
  have HC := Lib.hid hc; clear hc
  have hmk := run_mk (P := Tryd.prog) 22 3 infoInt Tryd.underlying22 n (by omega) (by unfold maxLen; omega)
  go_enter Tryd.func36, Tryd.ntmps36
  go_upto_region 5 with fail
  go_cut [4] (fun s4 wx => ∃ p gw go cw co, s4 = .pointer (some ⟨p, 0, none⟩) ∧ w.heap.size ≤ p ∧ w.heap.size ≤ gw ∧ w.heap.size ≤ go ∧ Wheel wx p gw go n cw co ws (fun _ => 0) 0 ∧ Fr [] w wx)
  case first =>
    go_region_with (go_at_call 49; refine (clone_pos _ _ n ws ?_ hn (by omega)).mono ?_; (exact HV.out.below (by go_grown)); rintro e w' ⟨gw, cw, rfl, hg, hr, hf⟩)
    all_goals (go_wp2_with fail; go_meet)
    · have hlt := hr.lt
      have hs := hf.size
      simp at hs hg
      have h := wheel_built (W := w) (gw := gw) (cw := cw) (n := n) (ws := ws) (hr.kept ((Fr.refl [] w').alloc (.cells (madeCells #[.int .i64 0] n) 3)) (by simp)) (row_mk w' 3 (.int .i64 0) rfl n (by unfold maxLen; omega)) (by omega) ((Fr.refl [] w).trans (((Fr.refl [] w).drew.trans hf (by simp)).alloc _) (by simp))
      simp only [World.size_alloc] at h
      exact ⟨_, gw, _, cw, _, rfl, by omega, by omega, by omega, h.1, h.2⟩
    · have hlt := hr.lt
      have hs := hf.size
      simp at hs hg
      have ho := (row_mk w.drew 3 (.int .i64 0) rfl n (by unfold maxLen; omega)).kept hf (by simp)
      have h := wheel_built (W := w) (gw := gw) (cw := cw) (n := n) (ws := ws) hr ho (by simp; omega) ((((Fr.refl [] w).drew).alloc _).trans hf (by simp))
      exact ⟨_, gw, _, cw, _, rfl, by omega, by omega, Nat.le_refl _, h.1, h.2⟩
  case rest =>
    obtain ⟨p, gw, go, cw, co, rfl, hp, hgw, hgo, hW, hf⟩ := hcut
    go_wp2
    go_loopw [24] (fun i wr => ∃ k : Nat, k ≤ n ∧ i = .int .i64 k ∧ Wheel wr p gw go n cw co ws (fun _ => 0) (wsum ws k) ∧ Fr [] w wr ∧ Hid (∀ j, j < k → 1 ≤ ws j ∧ ws j ≤ 1000)) (fun i _ => n - (intOf i).toNat)
    case atStart => exact ⟨0, by omega, rfl, hW, hf, fun j hj => by omega⟩
    case round =>
      obtain ⟨k, hk, rfl, hW, hf, HWS⟩ := hrel
      by_cases hlt : k < n
      · have hcb := hf.cell (HC.out k hlt) (by simp)
        have bs := wsum_le ws k HWS.out
        by_cases hg : 1 ≤ ws k ∧ ws k ≤ 1000
        · have c2 := blk_cell hW.blk 2 rfl
          have f2 := blk_frozen hW.blk 2
          have hW' := hW.setAll (wsum ws k + ws k)
          have hf' := hf.setCell (p := ⟨p, 2, none⟩) (by right; exact hp) (.int .i64 (wsum ws k + ws k))
          have HW := Lib.hid hW'; clear hW hW'
          have HF := Lib.hid hf'; clear hf hf'
          go_wp2
          go_roundw
          case rel => exact ⟨k + 1, by omega, by go_num, HW.out, HF.out, fun j hj => by
            by_cases hjk : j < k
            · exact HWS.out j hjk
            · obtain rfl : j = k := by omega
              exact hg⟩
          case measure => simp [intOf]; omega
        · have HF := Lib.hid hf; clear hf
          have HG := Lib.hid hg
          clear hW
          by_cases hg1 : 1 ≤ ws k
          all_goals
            go_wp2
            go_ret2
            exact ⟨HF.out, .inr ⟨⟨k, hlt, HG.out⟩, rfl⟩⟩
      · obtain rfl : k = n := by omega
        have HW := Lib.hid hW; clear hW
        have HF := Lib.hid hf; clear hf
        go_wp2
        go_ret2
        exact ⟨HF.out, .inl ⟨HWS.out, p, gw, go, cw, co, rfl, hp, hgw, hgo, HW.out⟩⟩

set_option maxHeartbeats 400000 in
theorem wheel_new_none (w : World) (a : Option Addr) (c : Nat) :
    Calls Tryd.prog 36 #[.slice a 0 c] w fun e w' => e = .returned (.tuple #[.pointer none, .iface 30 (.int .i64 9)]) ∧ w = w' := by
  go_enter Tryd.func36, Tryd.ntmps36
  go_wp2
  go_ret2
  exact ⟨rfl, rfl⟩

set_option maxHeartbeats 400000 in
theorem wheel_new_full (w : World) (a : Option Addr) (n c : Nat) (hn : 40 < n) (hm : n ≤ maxLen) :
    Calls Tryd.prog 36 #[.slice a n c] w fun e w' => e = .returned (.tuple #[.pointer none, .iface 30 (.int .i64 7)]) ∧ w = w' := by
  have h0 : ((n : Int) == 0) = false := by simp; omega
  unfold maxLen at hm
  go_enter Tryd.func36, Tryd.ntmps36
  go_wp2
  go_ret2
  exact ⟨rfl, rfl⟩

/-- the fault of weights, as a number: 0 is none -/
def wfault (n : Nat) (ws : Nat → Int) : Int := if n = 0 then 9 else if 40 < n then 7 else if (∀ j, j < n → 1 ≤ ws j ∧ ws j ≤ 1000) then 0 else 6

/-- what 'New' leaves, whatever comes -/
def NewAny (w : World) (n : Nat) (ws : Nat → Int) (e : Ending) (w' : World) : Prop :=
  Fr [] w w' ∧ ((wfault n ws = 0 ∧ 0 < n ∧ n ≤ 40 ∧ (∀ j, j < n → 1 ≤ ws j ∧ ws j ≤ 1000) ∧ ∃ p gw go cw co, e = .returned (.tuple #[.pointer (some ⟨p, 0, none⟩), .nilIface]) ∧
      w.heap.size ≤ p ∧ w.heap.size ≤ gw ∧ w.heap.size ≤ go ∧ Wheel w' p gw go n cw co ws (fun _ => 0) (wsum ws n)) ∨
    wfault n ws ≠ 0 ∧ e = .returned (.tuple #[.pointer none, .iface 30 (.int .i64 (wfault n ws))]))

theorem wheel_new_any (w : World) (v : Value) (n : Nat) (ws : Nat → Int) (hv : RdF w v n (fun j => .int .i64 (ws j))) (hm : n ≤ maxLen) :
    Calls Tryd.prog 36 #[v] w (NewAny w n ws) := by
  by_cases h0 : n = 0
  · obtain ⟨a, c, rfl⟩ := hv.slice
    subst h0
    refine (wheel_new_none w a c).mono ?_
    rintro e w' ⟨rfl, rfl⟩
    exact ⟨Fr.refl _ _, .inr ⟨by simp [wfault], by simp [wfault]⟩⟩
  by_cases h1 : 40 < n
  · obtain ⟨a, c, rfl⟩ := hv.slice
    refine (wheel_new_full w a n c h1 hm).mono ?_
    rintro e w' ⟨rfl, rfl⟩
    exact ⟨Fr.refl _ _, .inr ⟨by simp [wfault, h0, h1], by simp [wfault, h0, h1]⟩⟩
  refine (wheel_new_pos w v n ws hv (by omega) (by omega)).mono ?_
  rintro e w' ⟨hf, ⟨hg, r⟩ | ⟨⟨j, hj, hn⟩, rfl⟩⟩
  · exact ⟨hf, .inl ⟨by unfold wfault; rw [if_neg h0, if_neg h1, if_pos hg], by omega, by omega, hg, r⟩⟩
  · have : wfault n ws = 6 := by unfold wfault; rw [if_neg h0, if_neg h1, if_neg (fun hg => hn (hg j hj))]
    exact ⟨hf, .inr ⟨by rw [this]; decide, by rw [this]⟩⟩

end Go.Proofs.YtlinembnfcdmcaaDoor
