/- WheelScales: with all weights c times as great whose turn it is stays. -/
import Derived.Test.YtlinembnfcdmcaaWheel
namespace Go.Proofs.Ytlinembnfcdmcaa
open Go.RowKit

/-- what is owed behind t turns -/
def ost (ws : Nat → Int) (n : Nat) (all : Int) : Nat → Nat → Int
  | 0 => fun _ => 0
  | t + 1 => fun j => ost ws n all t j + ws j - if j = bst (fun j => ost ws n all t j + ws j) n then all else 0

theorem bst_scale (f g : Nat → Int) (c : Int) (hc : 1 ≤ c) (k : Nat) (h : ∀ j, j < k → g j = f j * c) : bst g k = bst f k := by
  induction k with
  | zero => rfl
  | succ k ih =>
    have e := ih fun j hj => h j (by omega)
    have hb : bst f k ≤ k := by rcases bst_lt f k with h | h <;> omega
    unfold bst
    rw [e, h k (by omega), h (bst f k) (by omega)]
    by_cases hlt : f (bst f k) < f k
    · rw [if_pos hlt, if_pos (Int.mul_lt_mul_of_pos_right hlt (by omega))]
    · rw [if_neg hlt, if_neg (by have := Int.mul_le_mul_of_nonneg_right (show f k ≤ f (bst f k) by omega) (show 0 ≤ c by omega); omega)]

theorem wsum_scale (ws : Nat → Int) (c : Int) (k : Nat) : wsum (fun j => ws j * c) k = wsum ws k * c := by
  induction k with
  | zero => simp [wsum]
  | succ k ih => simp [wsum, ih, Int.add_mul]

theorem ost_scale (ws : Nat → Int) (c : Int) (hc : 1 ≤ c) (n : Nat) (all : Int) (t : Nat) : ∀ j, j < n → ost (fun j => ws j * c) n (all * c) t j = ost ws n all t j * c := by
  induction t with
  | zero => intro j _; simp [ost]
  | succ t ih =>
    intro j hj
    have e : bst (fun j => ost (fun j => ws j * c) n (all * c) t j + ws j * c) n = bst (fun j => ost ws n all t j + ws j) n :=
      bst_scale _ _ c hc n fun i hi => by simp only [ih i hi, Int.add_mul]
    simp only [ost, e, ih j hj]
    split <;> simp [Int.add_mul, Int.sub_mul]

theorem ost_bd (ws : Nat → Int) (n : Nat) (all : Int) (M : Int) (hM : 0 ≤ all ∧ all ≤ M) (hw : ∀ j, j < n → 0 ≤ ws j ∧ ws j ≤ M) (t : Nat) : ∀ j, j < n → -(t * M) ≤ ost ws n all t j ∧ ost ws n all t j ≤ t * M := by
  induction t with
  | zero => intro j _; simp [ost]
  | succ t ih =>
    intro j hj
    have h1 := ih j hj
    have h2 := hw j hj
    have e : ((t + 1 : Nat) : Int) * M = t * M + M := by rw [Int.natCast_add, Int.add_mul]; simp
    rw [e]
    simp only [ost]
    split <;> omega

/-- whose turn it is behind t turns -/
def trn (ws : Nat → Int) (n : Nat) (all : Int) (t : Nat) : Nat := bst (fun j => ost ws n all t j + ws j) n

theorem trn_lt (ws : Nat → Int) (n : Nat) (all : Int) (t : Nat) (hn : 0 < n) : trn ws n all t < n := by
  rcases bst_lt (fun j => ost ws n all t j + ws j) n with h | h
  · exact h
  · unfold trn; omega

theorem wheel_turn (w : World) (p gw go n cw co : Nat) (ws : Nat → Int) (t : Nat) (h : Wheel w p gw go n cw co ws (ost ws n (wsum ws n) t) (wsum ws n)) (hn : 0 < n) (hn40 : n ≤ 40)
    (hws : ∀ j, j < n → 1 ≤ ws j ∧ ws j ≤ 1000) (ht : t ≤ 1000000) :
    Calls Try.prog 23 #[.pointer (some ⟨p, 0, none⟩)] w fun e w' =>
      e = .returned (.int .i64 (trn ws n (wsum ws n) t)) ∧ Wheel w' p gw go n cw co ws (ost ws n (wsum ws n) (t + 1)) (wsum ws n) ∧ Fr [go] w w' := by
  have h1 := wsum_le ws n hws
  refine wheel_next w p gw go n cw co ws _ _ h hn (fun j hj => ?_) (by omega) (by omega)
  have h2 := ost_bd ws n (wsum ws n) 40000 (by omega) (fun j hj => by have := hws j hj; omega) t j hj
  have h3 := hws j hj
  have h4 : (t : Int) * 40000 ≤ 40000000000 := by omega
  exact ⟨by omega, by omega, by omega, by omega⟩

theorem rd_two (w : World) (x y : Value) (E : TypeId) (f : Nat → Value) (h0 : f 0 = x) (h1 : f 1 = y) : RdF (w.alloc (.cells #[x, y] E)) (.slice (some ⟨w.heap.size, 0, none⟩) 2 2) 2 f :=
  .inr ⟨_, 2, rfl, by decide, by decide, fun j hj => by
    match j, hj with
    | 0, _ => rw [h0]; exact blk_cell (heap_alloc_new w _) 0 rfl
    | 1, _ => rw [h1]; exact blk_cell (heap_alloc_new w _) 1 rfl⟩

/-- The wheel's own example comes out. -/
theorem wheeled_any (w : World) : Calls Try.prog 21 #[] w fun e w' => e = .returned (.bool true) ∧ Fr [] w w' := by
  go_enter Try.func21, Try.ntmps21
  go_wp2_with fail
  refine (wheel_new_pos _ _ 2 (fun j => (j : Int) + 1) (rd_two _ _ _ _ _ rfl rfl) (by decide) (by decide)).mono ?_
  rintro e w1 ⟨hf, ⟨hg, p, gw, go, cw, co, rfl, hp, hgw, hgo, hW⟩ | ⟨⟨j, hj, hn⟩, _⟩⟩
  · have hf0 := ((Fr.refl [] w).alloc _).trans hf (by simp)
    simp only [World.size_alloc] at hgo
    have HF := Lib.hid hf0; clear hf hf0
    have HW := Lib.hid hW; clear hW
    have HG := Lib.hid hg; clear hg
    go_wp2_with fail
    refine (wheel_turn _ _ _ _ _ _ _ _ 0 HW.out (by decide) (by decide) HG.out (by decide)).mono ?_
    rintro e w2 ⟨he, hW2, hf2⟩
    have he' : e = .returned (.int .i64 1) := he.trans (by rfl)
    subst he'
    have HW2 := Lib.hid hW2; clear hW2 he
    have HF2 := Lib.hid hf2; clear hf2
    go_wp2_with fail
    refine (wheel_turn _ _ _ _ _ _ _ _ 1 HW2.out (by decide) (by decide) HG.out (by decide)).mono ?_
    rintro e w3 ⟨he, hW3, hf3⟩
    have he' : e = .returned (.int .i64 0) := he.trans (by rfl)
    subst he'
    have HW3 := Lib.hid hW3; clear hW3 he
    have HF3 := Lib.hid hf3; clear hf3
    go_wp2_with fail
    refine (wheel_turn _ _ _ _ _ _ _ _ 2 HW3.out (by decide) (by decide) HG.out (by decide)).mono ?_
    rintro e w4 ⟨he, hW4, hf4⟩
    have he' : e = .returned (.int .i64 1) := he.trans (by rfl)
    subst he'
    have HF4 := Lib.hid hf4; clear hf4 hW4 he
    go_wp2_with fail
    go_ret
    exact ⟨rfl, ((HF.out.trans HF2.out (by simp; omega)).trans HF3.out (by simp; omega)).trans HF4.out (by simp; omega)⟩
  · exfalso
    apply hn
    simp only
    omega

set_option maxHeartbeats 1000000 in
theorem wheelScales_any (w : World) (a : Option Addr) (m cap : Nat) (ws : Nat → Int) (c nn : Int) (hv : RdF w (.slice a m cap) m (fun j => .int .i64 (ws j))) (hm : m * 8 ≤ 140737488351232) (hnn : -9223372036854775808 ≤ nn) :
    Calls Try.prog 6 #[.slice a m cap, .int .i64 c, .int .i64 nn] w fun e w' => e = .returned (.bool true) ∧ Fr [] w w' := by
  have HV := Lib.hid hv; clear hv
  by_cases hc1 : c < 1
  · go_enter Try.func6, Try.ntmps6
    go_wp2_with (go_at_call 21; refine (wheeled_any _).mono ?_; rintro e w1 ⟨rfl, hf⟩)
    go_ret
    exact ⟨rfl, hf⟩
  by_cases hc2 : 1000 < c
  · go_enter Try.func6, Try.ntmps6
    go_wp2_with (go_at_call 21; refine (wheeled_any _).mono ?_; rintro e w1 ⟨rfl, hf⟩)
    go_ret
    exact ⟨rfl, hf⟩
  by_cases hc3 : 60 < nn
  · go_enter Try.func6, Try.ntmps6
    go_wp2_with (go_at_call 21; refine (wheeled_any _).mono ?_; rintro e w1 ⟨rfl, hf⟩)
    go_ret
    exact ⟨rfl, hf⟩
  go_enter Try.func6, Try.ntmps6
  go_wp2_with (go_at_call 21; refine (wheeled_any _).mono ?_; rintro e w1 ⟨rfl, hf⟩)
  have HF := Lib.hid hf; clear hf
  go_loopw [8, 9] (fun v i wr => ∃ k : Nat, k ≤ m ∧ i = .int .i64 k ∧ OwnF wr w.heap.size 3 v k (fun j => .int .i64 (ws j * c)) ∧ Fr [] w wr ∧ Hid (∀ j, j < k → 1 ≤ ws j ∧ ws j ≤ 1000)) (fun _ i _ => m - (intOf i).toNat)
  case atStart => exact ⟨0, by omega, rfl, OwnF.nil _ _ _ _, HF.out, fun j hj => by omega⟩
  case round =>
    obtain ⟨k, hk, rfl, ho, hf, HWS⟩ := hrel
    by_cases hlt : k < m
    · obtain ⟨b, o, cap', he, hnc, hcm, hbw, hc⟩ := HV.out.shape (by omega)
      simp only [Value.slice.injEq, true_and] at he
      obtain ⟨rfl, rfl⟩ := he
      have hcb := hf.cell (hc k hlt) (by simp)
      have hsz := hf.size
      have HC := Lib.hid hc; clear hc
      have HO := Lib.hid ho; clear ho
      have HF2 := Lib.hid hf; clear hf
      by_cases hg : 1 ≤ ws k ∧ ws k ≤ 1000
      · have bm : 1 ≤ ws k * c ∧ ws k * c ≤ 1000000 := by
          constructor
          · exact Int.le_trans (by omega) (Int.mul_le_mul hg.1 (show 1 ≤ c by omega) (by omega) (by omega))
          · exact Int.le_trans (Int.mul_le_mul hg.2 (show c ≤ 1000 by omega) (by omega) (by omega)) (by omega)
        go_wp2_with (at_builtin; refine wpList_app rfl (.tmp 46) (.tmp 53) 28 rfl 3 infoInt Try.underlying28 rfl (HO.out.alloc _) rfl (rd_one _ _ _ (by simp)) rfl (fun _ _ => rfl) (by unfold maxLen; omega) (by omega) (by simp; omega) ?_; intro v' w1 ho1 hf1 _)
        have ho2 := ho1.congr (f' := fun j => .int .i64 (ws j * c)) (fun j hj => by
          by_cases hjk : j < k
          · simp [app, hjk]
          · obtain rfl : j = k := by omega
            simp [app])
        have hf2 := HF2.out.app _ hf1 HO.out.ge
        have HO2 := Lib.hid ho2; clear ho1 ho2
        have HF3 := Lib.hid hf2; clear hf1 hf2
        go_wp2
        go_roundw
        case rel => exact ⟨k + 1, by omega, by go_num, HO2.out, HF3.out, fun j hj => by
          by_cases hjk : j < k
          · exact HWS.out j hjk
          · obtain rfl : j = k := by omega
            exact hg⟩
        case measure => simp [intOf]; omega
      · by_cases hg1 : 1 ≤ ws k
        all_goals
          go_wp2
          go_ret
          exact ⟨rfl, HF2.out⟩
    · obtain rfl : k = m := by omega
      have HO := Lib.hid ho; clear ho
      have HF2 := Lib.hid hf; clear hf
      have hsz := HF2.out.size
      go_wp2_with fail
      refine (wheel_new_any _ _ k ws (HV.out.fr HF2.out (by simp)) (by unfold maxLen; omega)).mono ?_
      rintro e w2 ⟨hf2, h2⟩
      have HF3 := Lib.hid (HF2.out.trans hf2 (by simp))
      have HO2 := Lib.hid (HO.out.kept hf2 (by simp))
      have hsz2 := HF3.out.size
      clear hf2
      rcases h2 with ⟨_, hk0, hk40, hg, p, gw, go, cw, co, rfl, hp, hgw, hgo, hW⟩ | ⟨hfa, rfl⟩
      · have HG := Lib.hid hg; clear hg
        have HW := Lib.hid hW; clear hW
        go_wp2_with fail
        refine (wheel_new_any _ _ k _ HO2.out.rd (by unfold maxLen; omega)).mono ?_
        rintro e w3 ⟨hf3, h3⟩
        have HF4 := Lib.hid (HF3.out.trans hf3 (by simp))
        have HFx := Lib.hid hf3
        clear hf3
        rcases h3 with ⟨_, _, _, hg', p', gw', go', cw', co', rfl, hp', hgw', hgo', hW'⟩ | ⟨hfa, rfl⟩
        · have HG' := Lib.hid hg'; clear hg'
          have HW' := Lib.hid hW'; clear hW'
          go_wp2_with fail
          have hlt := HW.out.lt
          go_loopw [14] (fun i wr => ∃ t : Nat, i = .int .i64 t ∧ t ≤ 60 ∧ Wheel wr p gw go k cw co ws (ost ws k (wsum ws k) t) (wsum ws k) ∧ Wheel wr p' gw' go' k cw' co' (fun j => ws j * c) (ost (fun j => ws j * c) k (wsum (fun j => ws j * c) k) t) (wsum (fun j => ws j * c) k) ∧ Fr [] w wr) (fun i _ => (nn - intOf i).toNat)
          case atStart => exact ⟨0, rfl, by omega, HW.out.kept HFx.out (by simp), HW'.out, HF4.out⟩
          case round =>
            obtain ⟨t, rfl, ht, hW, hW', hf⟩ := hrel
            have HFr := Lib.hid hf; clear hf
            by_cases hlt2 : (t : Int) < nn
            · have HV1 := Lib.hid hW; clear hW
              have HV2 := Lib.hid hW'; clear hW'
              go_wp2_with fail
              refine (wheel_turn _ _ _ _ _ _ _ _ t HV1.out hk0 hk40 HG.out (by omega)).mono ?_
              rintro e w5 ⟨rfl, hW5, hf5⟩
              have HV3 := Lib.hid hW5; clear hW5
              have HF5 := Lib.hid hf5; clear hf5
              go_wp2_with fail
              refine (wheel_turn _ _ _ _ _ _ _ _ t (HV2.out.kept HF5.out (by simp; omega)) hk0 hk40 HG'.out (by omega)).mono ?_
              rintro e w6 ⟨he, hW6, hf6⟩
              have he' : e = .returned (.int .i64 (trn ws k (wsum ws k) t)) := by
                rw [he]
                unfold trn
                rw [wsum_scale, bst_scale (fun j => ost ws k (wsum ws k) t j + ws j) _ c (by omega) k (fun j hj => by simp only [ost_scale ws c (by omega) k (wsum ws k) t j hj, Int.add_mul])]
              subst he'
              have HV4 := Lib.hid hW6; clear hW6 he
              have HF6 := Lib.hid hf6; clear hf6
              generalize trn ws k (wsum ws k) t = b at *
              go_wp2
              go_roundw
              case rel => exact ⟨t + 1, by go_num, by omega, HV3.out.kept HF6.out (by simp; omega), HV4.out, (HFr.out.trans HF5.out (by simp; omega)).trans HF6.out (by simp; omega)⟩
              case measure => simp [intOf]; omega
            · clear hW hW'
              go_wp2
              go_ret
              exact ⟨rfl, HFr.out⟩
        · generalize wfault k (fun j => ws j * c) = fa at *
          go_wp2
          go_ret
          exact ⟨rfl, HF4.out⟩
      · generalize wfault k ws = fa at *
        go_wp2_with fail
        refine (wheel_new_any _ _ k _ HO2.out.rd (by unfold maxLen; omega)).mono ?_
        rintro e w3 ⟨hf3, h3⟩
        have HF4 := Lib.hid (HF3.out.trans hf3 (by simp))
        clear hf3
        rcases h3 with ⟨_, _, _, hg', p', gw', go', cw', co', rfl, hp', hgw', hgo', hW'⟩ | ⟨hfa, rfl⟩
        · clear hg' hW'
          go_wp2
          go_ret
          exact ⟨rfl, HF4.out⟩
        · generalize wfault k (fun j => ws j * c) = fb at *
          go_wp2
          go_ret
          exact ⟨rfl, HF4.out⟩

end Go.Proofs.Ytlinembnfcdmcaa
