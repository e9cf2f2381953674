/- ring.Hash and ring.Four: what they compute. -/
import Derived.Test.YtlinembnfcdmcaaDoorRows
import Derived.Test.YtlinembnfcdmcaaDoorInfo
namespace Go.Proofs.YtlinembnfcdmcaaDoor
open Go.RowKit

/-- byte i of four of a number -/
def fo (n : Int) : Nat → Int
  | 0 => n / 16777216 % 256
  | 1 => n / 65536 % 256
  | 2 => n / 256 % 256
  | _ => n % 256

theorem fo_bd (n : Int) (i : Nat) : 0 ≤ fo n i ∧ fo n i ≤ 255 := by
  unfold fo; split <;> omega

theorem four_any (w : World) (n : Int) (h0 : 0 ≤ n) (h1 : n ≤ 4294967295) :
    Calls Tryd.prog 44 #[.int .i64 n] w fun e w' => e = .returned (.slice (some ⟨w.heap.size, 0, none⟩) 4 4) ∧ RowF w' w.heap.size 5 4 4 (fun i => .int .u8 (fo n i)) ∧ Fr [] w w' := by
  go_enter Tryd.func44, Tryd.ntmps44
  go_wp2
  go_ret
  refine ⟨rfl, row_lit w _ _ 4 _ rfl (by decide) (fun j hj => ?_), (Fr.refl _ _).alloc _⟩
  match j, hj with
  | 0, _ => simp only [fo]; rw [show n / 16777216 % 256 = n / 16777216 by omega]; rfl
  | 1, _ => rfl
  | 2, _ => rfl
  | 3, _ => rfl

/-- one byte more -/
def hstep (h x : Int) : Int := bits BinOp.xor IntKind.u32 h x * 16777619 % 4294967296
/-- the hash of the first k bytes -/
def hsh (f : Nat → Int) : Nat → Int
  | 0 => 2166136261
  | k + 1 => hstep (hsh f k) (f k)

theorem hsh_bd (f : Nat → Int) (k : Nat) : 0 ≤ hsh f k ∧ hsh f k ≤ 4294967295 := by
  cases k with
  | zero => simp [hsh]
  | succ k => simp only [hsh, hstep]; omega

theorem hsh_congr (f g : Nat → Int) (k : Nat) (h : ∀ j, j < k → f j = g j) : hsh f k = hsh g k := by
  induction k with
  | zero => rfl
  | succ k ih => simp only [hsh, ih fun j hj => h j (by omega), h k (by omega)]

theorem hash_any (w : World) (a : Option Addr) (n c : Nat) (f : Nat → Int) (hv : RdF w (.slice a n c) n (fun j => .int .u8 (f j))) (hf : ∀ j, j < n → 0 ≤ f j ∧ f j ≤ 255) (hn : n ≤ 9223372036854775807) :
    Calls Tryd.prog 43 #[.slice a n c] w fun e w' => e = .returned (.int .i64 (hsh f n)) ∧ w = w' := by
  have HV := Lib.hid hv; clear hv
  have HF := Lib.hid hf; clear hf
  go_enter Tryd.func43, Tryd.ntmps43
  go_wp2
  go_loop [3, 8] (fun h i => ∃ k : Nat, k ≤ n ∧ i = .int .i64 k ∧ h = .int .u32 (hsh f k)) (fun _ i => n - (intOf i).toNat)
  case atStart => exact ⟨0, by omega, rfl, rfl⟩
  case round =>
    obtain ⟨k, hk, rfl, rfl⟩ := hrel
    have hb := hsh_bd f k
    by_cases hlt : k < n
    · obtain ⟨b, o, cap', he, hnc, hcm, hbw, hc⟩ := HV.out.shape (by omega)
      simp only [Value.slice.injEq, true_and] at he
      obtain ⟨rfl, rfl⟩ := he
      have hcb := hc k hlt
      have hfb := HF.out k hlt
      clear hc
      go_wp2
      go_round
      case rel => exact ⟨k + 1, by omega, by go_num, rfl⟩
      case measure => simp [intOf]; omega
    · obtain rfl : k = n := by omega
      go_wp2
      go_ret
      exact ⟨rfl, rfl⟩

end Go.Proofs.YtlinembnfcdmcaaDoor
