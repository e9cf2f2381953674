/- sketch: Check, place, Count, Add: what each does to sketches without a fault. -/
import Derived.Test.YtgpfkaiinbncnaaDoorSketchNew
import Derived.Test.YtgpfkaiinbncnaaDoorSketchLaw
import Derived.Test.YtgpfkaiinbncnaaDoorMinMax
import Derived.Test.YtgpfkaiinbncnaaDoorClone
import Derived.BigQuiet
import Derived.IntWalk
namespace Go.Proofs.YtgpfkaiinbncnaaDoor
open Go.RowKit

set_option maxHeartbeats 2000000 in
set_option maxRecDepth 100000 in
theorem max_any (w : World) (v : Value) (n : Nat) (f : Nat → Int) (hv : RdF w v n (fun j => .int .i64 (f j))) (hn0 : 0 < n) (hn : n ≤ 9223372036854775807) :
    Calls Tryd.prog 43 #[v] w fun e w' => e = .returned (.int .i64 (mxa (f 0) f n)) ∧ w' = w := by
  obtain ⟨b, o, c, rfl, _, _, _, hc⟩ := hv.shape hn0
  have h0 : w.cell? ⟨b, o, none⟩ = some (.int .i64 (f 0)) := by simpa using hc 0 (by omega)
  have HC := Lib.hid hc; clear hc hv
  go_enter Tryd.func43, Tryd.ntmps43
  go_wp2
  go_loop [3, 4] (fun m i => ∃ k : Nat, 0 < k ∧ k ≤ n ∧ i = .int .i64 k ∧ m = .int .i64 (mxa (f 0) f k)) (fun _ i => n - (intOf i).toNat)
  case atStart => exact ⟨1, Nat.one_pos, hn0, rfl, by simp [mxa]⟩
  case round =>
    obtain ⟨k, hk0, hk, rfl, rfl⟩ := hrel
    by_cases hlt : k < n
    · have k1 := HC.out k hlt
      have k2 : (0 : Int) ≤ (k : Int) := by omega
      have k3 : (k : Int) < (n : Int) := by omega
      go_wp2
      refine ⟨⟨k + 1, Nat.succ_pos k, by omega, by go_num, ?_⟩, ?_⟩
      · rw [mxa_succ]
      · simp [intOf]; omega
    · obtain rfl : k = n := by omega
      go_wp2
      go_ret
      exact ⟨rfl, rfl⟩

/-- A sketch without a fault: d rows of wd numbers that are neither below 0 nor too great. -/
structure SkOk (d wd : Nat) (F : Nat → Nat → Int) : Prop where
  deep : 1 ≤ d ∧ d ≤ 8
  wide : 1 ≤ wd ∧ wd ≤ 1000
  all : ∀ i, i < d → ∀ j, j < wd → 0 ≤ F i j ∧ F i j ≤ 1125899906842624

set_option maxHeartbeats 2000000 in
set_option maxRecDepth 100000 in
theorem sketch_check (w : World) (rv : Value) (d wd : Nat) (F : Nat → Nat → Int) (hs : SkF w rv d wd F) (hok : SkOk d wd F) :
    Calls Tryd.prog 12 #[.agg #[.int .i64 wd, rv]] w fun e w' => e = .returned .nilIface ∧ Fr [] w w' := by
  obtain ⟨R, hr, hR⟩ := hs
  obtain ⟨b, o, c, rfl, _, _, _, hc⟩ := hr.shape (by have := hok.deep; omega)
  have HC := Lib.hid hc
  have HRR := Lib.hid hR
  have HOK := Lib.hid hok
  obtain ⟨hd, hw, _⟩ := hok
  clear hc hR hr
  go_enter Tryd.func12, Tryd.ntmps12
  have HF := Lib.hid ((Fr.refl [] w).alloc (.cells #[.int .i64 wd, .slice (some ⟨b, o, none⟩) d c] 24))
  have hb := heap_alloc_new w (.cells #[.int .i64 wd, .slice (some ⟨b, o, none⟩) d c] 24)
  have c0 := blk_cell hb 0 rfl
  clear hb
  go_wp2
  generalize w.alloc (.cells #[.int .i64 wd, .slice (some ⟨b, o, none⟩) d c] 24) = w2 at *
  generalize w.heap.size = p at *
  go_loopw [4, 29] (fun _ i wr => ∃ k : Nat, k ≤ d ∧ i = .int .i64 k ∧ wr = w2) (fun _ i _ => d - (intOf i).toNat)
  case atStart => exact ⟨0, by omega, rfl, rfl⟩
  case round =>
    obtain ⟨k, hk, rfl, hwr⟩ := hrel
    replace hwr := hwr.symm
    subst hwr
    by_cases hlt : k < d
    · have hrow := HRR.out k hlt
      obtain ⟨b2, o2, c2, he2, _, _, _, hc2⟩ := hrow.shape (by omega)
      have k1 := HF.out.cell (HC.out k hlt) (by simp)
      rw [he2] at k1 hrow
      clear hc2 he2
      have hall := HOK.out.all k hlt
      have m1 := mna_bound (F k 0) (F k) wd 0 1125899906842624 (hall 0 (by omega)) hall
      have m2 := mxa_bound (F k 0) (F k) wd 0 1125899906842624 (hall 0 (by omega)) hall
      have HROW := Lib.hid (hrow.fr HF.out (by simp))
      clear hrow hall
      have k0 : (0 : Int) ≤ (k : Int) := by omega
      have k3 : (k : Int) < (d : Int) := by omega
      have hww : ((wd : Int) != (wd : Int)) = false := by simp
      go_wp2_with fail
      refine (min_any _ _ wd (F k) HROW.out (by omega) (by omega)).mono ?_
      rintro e w3 ⟨rfl, rfl⟩
      go_wp2_with fail
      refine (max_any _ _ wd (F k) HROW.out (by omega) (by omega)).mono ?_
      rintro e w3 ⟨rfl, rfl⟩
      go_wp2
      go_roundw
      case rel => exact ⟨k + 1, by omega, by go_num, by trivial⟩
      case measure => simp [intOf]; omega
    · obtain rfl : k = d := by omega
      go_wp2
      go_ret
      exact ⟨rfl, HF.out⟩

set_option maxHeartbeats 2000000 in
set_option maxRecDepth 100000 in
theorem place_any (w : World) (rv : Value) (wd i n : Nat) (a : Option Addr) (c : Nat) (kf : Nat → Int) (hk : RdF w (.slice a n c) n (fun j => .int .u8 (kf j))) (hb : ∀ j, j < n → 0 ≤ kf j ∧ kf j ≤ 255) (hi : i < 8) (hw : 1 ≤ wd ∧ wd ≤ 1000) (hn : n ≤ 140737488351232) :
    Calls Tryd.prog 47 #[.agg #[.int .i64 wd, rv], .int .i64 i, .slice a n c] w fun e w' => e = .returned (.int .i64 (spt wd i n kf)) ∧ Fr [] w w' := by
  have HK := Lib.hid hk; clear hk
  have HB := Lib.hid hb; clear hb
  go_enter Tryd.func47, Tryd.ntmps47
  go_wp2_with fail
  have HF1 := Lib.hid ((Fr.refl [] w).alloc (.cells #[.int .i64 wd, rv] 24))
  have hb1 := heap_alloc_new w (.cells #[.int .i64 wd, rv] 24)
  have HB1 := Lib.hid hb1
  have c0 := blk_cell hb1 0 rfl
  generalize w.alloc (.cells #[.int .i64 wd, rv] 24) = w1 at *
  have hpl := lt_of_blk hb1
  have hpl2 : w.heap.size < w1.heap.size + 1 := by omega
  have ewr : IntKind.u8.wrap (i : Int) = i := IntWalk.u8_in _ (by omega)
  have hrow := row_lit w1.drew #[.int .u8 (IntKind.u8.wrap (i : Int))] 5 1 (fun _ => .int .u8 (IntKind.u8.wrap (i : Int))) rfl (by decide) (fun j hj => match j, hj with | 0, _ => rfl)
  have HOW := Lib.hid (show OwnF (w1.drew.alloc (.cells #[.int .u8 (IntKind.u8.wrap (i : Int))] 5)) w1.heap.size 5 (.slice (some ⟨w1.heap.size, 0, none⟩) 1 1) 1 (fun _ => .int .u8 (IntKind.u8.wrap (i : Int))) from .inr ⟨_, 1, rfl, Nat.le_refl _, hrow⟩)
  have HRK := Lib.hid ((HK.out.fr HF1.out (by simp)).fr (((Fr.refl [] w1).drew).alloc (.cells #[.int .u8 (IntKind.u8.wrap (i : Int))] 5)) (by simp))
  have HHA := Lib.hid (fun (w5 : World) (v : Value) (h : OwnF w5 w1.heap.size 5 v (1 + n) (app 1 (fun _ => .int .u8 (IntKind.u8.wrap (i : Int))) (fun j => .int .u8 (kf j)))) => (by
    have h2 : RdF w5 v (1 + n) (fun j => .int .u8 (kfn i kf j)) := h.rd.congr (fun j hj => by
      unfold app kfn
      by_cases h0 : j = 0
      · subst h0
        rw [ewr]
        rfl
      · rw [if_neg (by omega), if_neg h0])
    obtain ⟨a5, c5, rfl⟩ := h2.slice
    exact hash_any w5 a5 (1 + n) c5 (kfn i kf) h2 (fun j hj => by
      unfold kfn
      by_cases h0 : j = 0
      · rw [if_pos h0]; omega
      · rw [if_neg h0]; exact HB.out _ (by omega)) (by omega) : Calls Tryd.prog 65 #[v] w5 fun e w' => e = .returned (.int .i64 (hsh (kfn i kf) (1 + n))) ∧ w5 = w'))
  have hbd := hsh_bd (kfn i kf) (1 + n)
  have hml : 1 + n ≤ maxLen := by unfold maxLen; omega
  have hbt : (1 + n) * 1 ≤ 140737488355328 := by omega
  have hba : w1.heap.size ≤ (w1.drew.alloc (.cells #[.int .u8 (IntKind.u8.wrap (i : Int))] 5)).heap.size := by simp
  have hcx : (w1.drew.alloc (.cells #[.int .u8 (IntKind.u8.wrap (i : Int))] 5)).cell? ⟨w.heap.size, 0, none⟩ = some (.int .i64 wd) := (((Fr.refl [] w1).drew).alloc _).cell c0 (by simp)
  have hnx : w.heap.size ∉ (Value.slice (some ⟨w1.heap.size, 0, none⟩) 1 1).ownBlock.toList := by simp [Value.ownBlock]; omega
  have hres : (hsh (kfn i kf) (1 + n) % (wd : Int)) = ((spt wd i n kf : Nat) : Int) := by
    unfold spt
    rw [Nat.add_comm 1 n] at hbd ⊢
    rw [Int.natCast_emod, Int.toNat_of_nonneg hbd.1]
  have hsl := spt_lt wd i n kf (by omega)
  have hsw := HF1.out.size
  have q0 : ¬ (wd : Int) = 0 := by omega
  generalize hsp : spt wd i n kf = sp at *
  have HSP := Lib.hid hsp; clear hsp
  have q3 : ¬ wd = 0 := by omega
  generalize hsh (kfn i kf) (1 + n) = hh at *
  have q2 : IntKind.i64.wrap (sp : Int) = sp := IntWalk.i64_in _ (by omega)
  have q1 : hh.tmod (wd : Int) = (sp : Int) := by rw [Int.tmod_eq_emod_of_nonneg hbd.1]; exact hres
  clear hrow hb1 ewr hres
  go_region_held3 (fun w' => w'.cell? ⟨w.heap.size, 0, none⟩ = some (.int .i64 wd))
    (first | exact c5 | go_keep)
    (first
      | (refine step_app ?_ (.tmp 9) (.tmp 10) 25 ?_ 5 infoU8 Tryd.underlying25 ?_ HOW.out ?_ HRK.out ?_ ?_ ?_ ?_ ?_ ?_; rfl; rfl; rfl; rfl; rfl; (intro _ _; rfl); exact hml; exact hbt; exact hba; intro v5 w5 ho5 hf5 hn5; have c5 := hf5.cell (p := ⟨w.heap.size, 0, none⟩) (v := .int .i64 wd) hcx hnx)
      | (go_at_call 65; refine (HHA.out _ _ ho5).mono ?_; rintro e w6 ⟨rfl, rfl⟩))
  go_wp2
  go_ret
  refine ⟨by rw [HSP.out]; rfl, ((HF1.out.alloc _).drew).trans hf5 (fun x hx => .inr ?_)⟩
  simp [Value.ownBlock] at hx
  omega

end Go.Proofs.YtgpfkaiinbncnaaDoor
