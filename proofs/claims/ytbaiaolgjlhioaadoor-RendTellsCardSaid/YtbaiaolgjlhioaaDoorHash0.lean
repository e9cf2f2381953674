/- ring.Hash: what it computes. -/
import Derived.Test.YtbaiaolgjlhioaaDoorRows
import Derived.Test.YtbaiaolgjlhioaaDoorInfo
namespace Go.Proofs.YtbaiaolgjlhioaaDoor
open Go.RowKit

/-- one byte more -/
def hstep (h x : Int) : Int := bits BinOp.xor IntKind.u32 h x * 16777619 % 4294967296
/-- the hash of the first k bytes -/
def hsh (f : Nat → Int) : Nat → Int
  | 0 => 2166136261
  | k + 1 => hstep (hsh f k) (f k)

theorem hsh_bd (f : Nat → Int) (k : Nat) : 0 ≤ hsh f k ∧ hsh f k ≤ 4294967295 := by
  cases k with
  | zero => simp [hsh]
  | succ k => simp only [hsh, hstep]; omega

theorem hsh_congr (f g : Nat → Int) (k : Nat) (h : ∀ j, j < k → f j = g j) : hsh f k = hsh g k := by
  induction k with
  | zero => rfl
  | succ k ih => simp only [hsh, ih fun j hj => h j (by omega), h k (by omega)]

theorem hash_any (w : World) (a : Option Addr) (n c : Nat) (f : Nat → Int) (hv : RdF w (.slice a n c) n (fun j => .int .u8 (f j))) (hf : ∀ j, j < n → 0 ≤ f j ∧ f j ≤ 255) (hn : n ≤ 9223372036854775807) :
    Calls Tryd.prog 17 #[.slice a n c] w fun e w' => e = .returned (.int .i64 (hsh f n)) ∧ w = w' := by
  have HV := Lib.hid hv; clear hv
  have HF := Lib.hid hf; clear hf
  go_enter Tryd.func17, Tryd.ntmps17
  go_wp2
  go_loop [3, 8] (fun h i => ∃ k : Nat, k ≤ n ∧ i = .int .i64 k ∧ h = .int .u32 (hsh f k)) (fun _ i => n - (intOf i).toNat)
  case atStart => exact ⟨0, by omega, rfl, rfl⟩
  case round =>
    obtain ⟨k, hk, rfl, rfl⟩ := hrel
    have hb := hsh_bd f k
    by_cases hlt : k < n
    · obtain ⟨b, o, cap', he, hnc, hcm, hbw, hc⟩ := HV.out.shape (by omega)
      simp only [Value.slice.injEq, true_and] at he
      obtain ⟨rfl, rfl⟩ := he
      have hcb := hc k hlt
      have hfb := HF.out k hlt
      clear hc
      go_wp2
      go_round
      case rel => exact ⟨k + 1, by omega, by go_num, rfl⟩
      case measure => simp [intOf]; omega
    · obtain rfl : k = n := by omega
      go_wp2
      go_ret
      exact ⟨rfl, rfl⟩

end Go.Proofs.YtbaiaolgjlhioaaDoor
