/- WheelScales: with all weights c times as great whose turn it is stays. -/
import Derived.Test.YtlinembnfcdmcaaDoorWheel
namespace Go.Proofs.YtlinembnfcdmcaaDoor
open Go.RowKit

/-- what is owed behind t turns -/
def ost (ws : Nat → Int) (n : Nat) (all : Int) : Nat → Nat → Int
  | 0 => fun _ => 0
  | t + 1 => fun j => ost ws n all t j + ws j - if j = bst (fun j => ost ws n all t j + ws j) n then all else 0

theorem bst_scale (f g : Nat → Int) (c : Int) (hc : 1 ≤ c) (k : Nat) (h : ∀ j, j < k → g j = f j * c) : bst g k = bst f k := by
  induction k with
  | zero => rfl
  | succ k ih =>
    have e := ih fun j hj => h j (by omega)
    have hb : bst f k ≤ k := by rcases bst_lt f k with h | h <;> omega
    unfold bst
    rw [e, h k (by omega), h (bst f k) (by omega)]
    by_cases hlt : f (bst f k) < f k
    · rw [if_pos hlt, if_pos (Int.mul_lt_mul_of_pos_right hlt (by omega))]
    · rw [if_neg hlt, if_neg (by have := Int.mul_le_mul_of_nonneg_right (show f k ≤ f (bst f k) by omega) (show 0 ≤ c by omega); omega)]

theorem wsum_scale (ws : Nat → Int) (c : Int) (k : Nat) : wsum (fun j => ws j * c) k = wsum ws k * c := by
  induction k with
  | zero => simp [wsum]
  | succ k ih => simp [wsum, ih, Int.add_mul]

theorem ost_scale (ws : Nat → Int) (c : Int) (hc : 1 ≤ c) (n : Nat) (all : Int) (t : Nat) : ∀ j, j < n → ost (fun j => ws j * c) n (all * c) t j = ost ws n all t j * c := by
  induction t with
  | zero => intro j _; simp [ost]
  | succ t ih =>
    intro j hj
    have e : bst (fun j => ost (fun j => ws j * c) n (all * c) t j + ws j * c) n = bst (fun j => ost ws n all t j + ws j) n :=
      bst_scale _ _ c hc n fun i hi => by simp only [ih i hi, Int.add_mul]
    simp only [ost, e, ih j hj]
    split <;> simp [Int.add_mul, Int.sub_mul]

theorem ost_bd (ws : Nat → Int) (n : Nat) (all : Int) (M : Int) (hM : 0 ≤ all ∧ all ≤ M) (hw : ∀ j, j < n → 0 ≤ ws j ∧ ws j ≤ M) (t : Nat) : ∀ j, j < n → -(t * M) ≤ ost ws n all t j ∧ ost ws n all t j ≤ t * M := by
  induction t with
  | zero => intro j _; simp [ost]
  | succ t ih =>
    intro j hj
    have h1 := ih j hj
    have h2 := hw j hj
    have e : ((t + 1 : Nat) : Int) * M = t * M + M := by rw [Int.natCast_add, Int.add_mul]; simp
    rw [e]
    simp only [ost]
    split <;> omega

/-- whose turn it is behind t turns -/
def trn (ws : Nat → Int) (n : Nat) (all : Int) (t : Nat) : Nat := bst (fun j => ost ws n all t j + ws j) n

theorem trn_lt (ws : Nat → Int) (n : Nat) (all : Int) (t : Nat) (hn : 0 < n) : trn ws n all t < n := by
  rcases bst_lt (fun j => ost ws n all t j + ws j) n with h | h
  · exact h
  · unfold trn; omega

theorem wheel_turn (w : World) (p gw go n cw co : Nat) (ws : Nat → Int) (t : Nat) (h : Wheel w p gw go n cw co ws (ost ws n (wsum ws n) t) (wsum ws n)) (hn : 0 < n) (hn40 : n ≤ 40)
    (hws : ∀ j, j < n → 1 ≤ ws j ∧ ws j ≤ 1000) (ht : t ≤ 1000000) :
    Calls Tryd.prog 38 #[.pointer (some ⟨p, 0, none⟩)] w fun e w' =>
      e = .returned (.int .i64 (trn ws n (wsum ws n) t)) ∧ Wheel w' p gw go n cw co ws (ost ws n (wsum ws n) (t + 1)) (wsum ws n) ∧ Fr [go] w w' := by
  have h1 := wsum_le ws n hws
  refine wheel_next w p gw go n cw co ws _ _ h hn (fun j hj => ?_) (by omega) (by omega)
  have h2 := ost_bd ws n (wsum ws n) 40000 (by omega) (fun j hj => by have := hws j hj; omega) t j hj
  have h3 := hws j hj
  have h4 : (t : Int) * 40000 ≤ 40000000000 := by omega
  exact ⟨by omega, by omega, by omega, by omega⟩

/-- The wheel's own example comes out. -/
theorem wheeled_any (w : World) : Calls Tryd.prog 34 #[] w fun e w' => e = .returned (.bool true) ∧ Fr [] w w' := by
  go_enter Tryd.func34, Tryd.ntmps34
  go_wp2_with fail
  refine (wheel_new_pos _ _ 2 (fun j => (j : Int) + 1) (rd_two _ _ _ _ _ rfl rfl rfl) (by decide) (by decide)).mono ?_
  rintro e w1 ⟨hf, ⟨hg, p, gw, go, cw, co, rfl, hp, hgw, hgo, hW⟩ | ⟨⟨j, hj, hn⟩, _⟩⟩
  · have hf0 := ((Fr.refl [] w).alloc _).trans hf (by simp)
    simp only [World.size_alloc] at hgo
    have HF := Lib.hid hf0; clear hf hf0
    have HW := Lib.hid hW; clear hW
    have HG := Lib.hid hg; clear hg
    go_wp2_with fail
    refine (wheel_turn _ _ _ _ _ _ _ _ 0 HW.out (by decide) (by decide) HG.out (by decide)).mono ?_
    rintro e w2 ⟨he, hW2, hf2⟩
    have he' : e = .returned (.int .i64 1) := he.trans (by rfl)
    subst he'
    have HW2 := Lib.hid hW2; clear hW2 he
    have HF2 := Lib.hid hf2; clear hf2
    go_wp2_with fail
    refine (wheel_turn _ _ _ _ _ _ _ _ 1 HW2.out (by decide) (by decide) HG.out (by decide)).mono ?_
    rintro e w3 ⟨he, hW3, hf3⟩
    have he' : e = .returned (.int .i64 0) := he.trans (by rfl)
    subst he'
    have HW3 := Lib.hid hW3; clear hW3 he
    have HF3 := Lib.hid hf3; clear hf3
    go_wp2_with fail
    refine (wheel_turn _ _ _ _ _ _ _ _ 2 HW3.out (by decide) (by decide) HG.out (by decide)).mono ?_
    rintro e w4 ⟨he, hW4, hf4⟩
    have he' : e = .returned (.int .i64 1) := he.trans (by rfl)
    subst he'
    have HF4 := Lib.hid hf4; clear hf4 hW4 he
    go_wp2_with fail
    go_ret
    exact ⟨rfl, ((HF.out.trans HF2.out (by simp; omega)).trans HF3.out (by simp; omega)).trans HF4.out (by simp; omega)⟩
  · exfalso
    apply hn
    simp only
    omega

end Go.Proofs.YtlinembnfcdmcaaDoor
