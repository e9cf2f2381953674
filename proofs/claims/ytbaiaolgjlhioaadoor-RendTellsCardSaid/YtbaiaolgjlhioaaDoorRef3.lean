/- The reference's Hashed and Four: what they compute. -/
import Derived.Test.YtbaiaolgjlhioaaDoorHash
namespace Go.Proofs.YtbaiaolgjlhioaaDoor
open Go.RowKit

theorem xor_i64 (a b : Nat) (ha : a < 4294967296) (hb : b < 4294967296) : bits BinOp.xor IntKind.i64 (a : Int) (b : Int) = ((a ^^^ b : Nat) : Int) := by
  have hx : a ^^^ b < 2 ^ 32 := Nat.xor_lt_two_pow ha hb
  have e : (BitVec.ofInt 64 (a : Int) ^^^ BitVec.ofInt 64 (b : Int)).toNat = a ^^^ b := by
    rw [BitVec.toNat_xor, BitVec.toNat_ofInt, BitVec.toNat_ofInt]
    congr 1 <;> omega
  show IntKind.i64.wrap ((BitVec.ofInt 64 (a : Int) ^^^ BitVec.ofInt 64 (b : Int)).toNat : Int) = _
  rw [e]
  simp [IntKind.wrap, IntKind.signed, IntKind.bits]
  omega

theorem xor_u32 (a b : Nat) (ha : a < 4294967296) (hb : b < 4294967296) : bits BinOp.xor IntKind.u32 (a : Int) (b : Int) = ((a ^^^ b : Nat) : Int) := by
  have hx : a ^^^ b < 2 ^ 32 := Nat.xor_lt_two_pow ha hb
  have e : (BitVec.ofInt 32 (a : Int) ^^^ BitVec.ofInt 32 (b : Int)).toNat = a ^^^ b := by
    rw [BitVec.toNat_xor, BitVec.toNat_ofInt, BitVec.toNat_ofInt]
    congr 1 <;> omega
  show IntKind.u32.wrap ((BitVec.ofInt 32 (a : Int) ^^^ BitVec.ofInt 32 (b : Int)).toNat : Int) = _
  rw [e]
  simp [IntKind.wrap, IntKind.signed, IntKind.bits]
  omega

theorem xor_eq (h x : Int) (h0 : 0 ≤ h) (h1 : h ≤ 4294967295) (x0 : 0 ≤ x) (x1 : x ≤ 255) : bits BinOp.xor IntKind.i64 h x = bits BinOp.xor IntKind.u32 h x ∧ 0 ≤ bits BinOp.xor IntKind.i64 h x ∧ bits BinOp.xor IntKind.i64 h x ≤ 4294967295 := by
  obtain ⟨a, rfl⟩ : ∃ a : Nat, h = a := ⟨h.toNat, by omega⟩
  obtain ⟨b, rfl⟩ : ∃ b : Nat, x = b := ⟨x.toNat, by omega⟩
  have hx : a ^^^ b < 2 ^ 32 := Nat.xor_lt_two_pow (by omega) (by omega)
  rw [xor_i64 a b (by omega) (by omega), xor_u32 a b (by omega) (by omega)]
  exact ⟨rfl, by omega, by omega⟩

theorem hashed_any (w : World) (a : Option Addr) (n c : Nat) (f : Nat → Int) (hv : RdF w (.slice a n c) n (fun j => .int .u8 (f j))) (hf : ∀ j, j < n → 0 ≤ f j ∧ f j ≤ 255) (hn : n ≤ 9223372036854775807) :
    Calls Tryd.prog 18 #[.slice a n c] w fun e w' => e = .returned (.int .i64 (hsh f n)) ∧ w = w' := by
  have HV := Lib.hid hv; clear hv
  have HF := Lib.hid hf; clear hf
  go_enter Tryd.func18, Tryd.ntmps18
  go_wp2
  go_loop [3, 4] (fun h i => ∃ k : Nat, k ≤ n ∧ i = .int .i64 k ∧ h = .int .i64 (hsh f k)) (fun _ i => n - (intOf i).toNat)
  case atStart => exact ⟨0, by omega, rfl, rfl⟩
  case round =>
    obtain ⟨k, hk, rfl, rfl⟩ := hrel
    have hb := hsh_bd f k
    by_cases hlt : k < n
    · obtain ⟨b, o, cap', he, hnc, hcm, hbw, hc⟩ := HV.out.shape (by omega)
      simp only [Value.slice.injEq, true_and] at he
      obtain ⟨rfl, rfl⟩ := he
      have hcb := hc k hlt
      have hfb := HF.out k hlt
      obtain ⟨hx1, hx2, hx3⟩ := xor_eq (hsh f k) (f k) hb.1 hb.2 hfb.1 hfb.2
      have HX := Lib.hid hx1
      clear hc hx1
      have e1 : hsh f (k + 1) = bits BinOp.xor IntKind.i64 (hsh f k) (f k) * 16777619 % 4294967296 := by rw [HX.out]; rfl
      have E1 := Lib.hid e1; clear e1
      go_wp2
      go_round
      case rel => exact ⟨k + 1, by omega, by go_num, by rw [E1.out]⟩
      case measure => simp [intOf]; omega
    · obtain rfl : k = n := by omega
      go_wp2
      go_ret
      exact ⟨rfl, rfl⟩

theorem qfour_any (w : World) (n : Int) (h0 : 0 ≤ n) (h1 : n ≤ 4294967295) :
    Calls Tryd.prog 27 #[.int .i64 n] w fun e w' => e = .returned (.slice (some ⟨w.heap.size, 0, none⟩) 4 4) ∧ RowF w' w.heap.size 5 4 4 (fun i => .int .u8 (fo n i)) ∧ Fr [] w w' := by
  go_enter Tryd.func27, Tryd.ntmps27
  go_wp2
  go_ret
  refine ⟨rfl, row_lit w _ _ 4 _ rfl (by decide) (fun j hj => ?_), (Fr.refl _ _).alloc _⟩
  match j, hj with
  | 0, _ => first | rfl | (simp only [fo]; rw [show n / 16777216 % 256 = n / 16777216 by omega]; rfl)
  | 1, _ => rfl
  | 2, _ => rfl
  | 3, _ => rfl

end Go.Proofs.YtbaiaolgjlhioaaDoor
