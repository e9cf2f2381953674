/- head.Read: the header of bytes. -/
import Derived.BigRegion
import Derived.BigQuiet
import Derived.Test.YtkdmkpdooiacaaaZbase4
namespace Go.Proofs.Ytkdmkpdooiacaaa
open Go.RowKit

/-- a header's cells, of whose flags the first k are told -/
def hdC (h : Hd) (k : Nat) : Array Value :=
  #[.int .i64 h.id, .bool (if 0 < k then h.an else false), .int .i64 h.op, .bool (if 1 < k then h.aa else false), .bool (if 2 < k then h.tc else false), .bool (if 3 < k then h.rd else false), .bool (if 4 < k then h.ra else false), .bool (if 5 < k then h.z else false), .bool (if 6 < k then h.ad else false), .bool h.cd, .int .i64 h.code]

theorem sh_bit {x y p : Nat} (hp : p ≤ 15) (hx : x < 256) (hy : y < 256) : (bits .and .i64 (((x * 256 + y) / 2 ^ p : Nat) : Int) 1 == 1) = bitAt (if 8 ≤ p then x else y) (if 8 ≤ p then p - 8 else p) := by
  have hb : (x * 256 + y) / 2 ^ p ≤ 65535 := Nat.le_trans (Nat.div_le_self _ _) (by omega)
  have hb0 : (0 : Int) ≤ (((x * 256 + y) / 2 ^ p : Nat) : Int) := Int.natCast_nonneg _
  have hb1 : (((x * 256 + y) / 2 ^ p : Nat) : Int) ≤ 65535 := Int.ofNat_le.2 hb
  rw [and_1 hb0 (by omega)]
  unfold bitAt
  have key : (x * 256 + y) / 2 ^ p % 2 = (if 8 ≤ p then x else y) / 2 ^ (if 8 ≤ p then p - 8 else p) % 2 := by
    by_cases h8 : 8 ≤ p
    · obtain ⟨q, rfl⟩ := Nat.exists_eq_add_of_le h8
      rw [if_pos h8, if_pos h8, Nat.pow_add, ← Nat.div_div_eq_div_mul, show (x * 256 + y) / 2 ^ 8 = x by omega, Nat.add_sub_cancel_left]
    · obtain ⟨q, hq⟩ := Nat.exists_eq_add_of_le (show p + 1 ≤ 8 by omega)
      have e : x * 256 = x * 2 ^ q * 2 * 2 ^ p := by
        have h2 : (256 : Nat) = 2 ^ q * 2 * 2 ^ p := by
          have : (256 : Nat) = 2 ^ 8 := rfl
          rw [this, hq, Nat.pow_add, Nat.pow_add, Nat.pow_one]
          ac_rfl
        rw [h2]
        simp only [Nat.mul_assoc]
      rw [if_neg h8, if_neg h8, e, Nat.add_comm, Nat.add_mul_div_right _ _ (Nat.two_pow_pos p), Nat.add_mul_mod_self_right]
  rw [Bool.eq_iff_iff, beq_iff_eq, beq_iff_eq, ← key]
  omega

theorem and_16n (x : Nat) : x &&& 2 ^ 4 = (x / 2 ^ 4 % 2) * 2 ^ 4 := by
  apply Nat.eq_of_testBit_eq
  intro i
  rw [Nat.testBit_and, Nat.testBit_two_pow]
  by_cases h : 4 = i
  · subst h
    rw [Nat.testBit_eq_decide_div_mod_eq]
    rcases Nat.mod_two_eq_zero_or_one (x / 2 ^ 4) with h2 | h2 <;> rw [h2] <;> decide
  · rw [decide_eq_false h, Bool.and_false]
    rcases Nat.mod_two_eq_zero_or_one (x / 2 ^ 4) with h2 | h2 <;> rw [h2]
    · simp
    · rw [Nat.one_mul, Nat.testBit_two_pow, decide_eq_false h]

theorem and_16 {x : Nat} (hx : x < 65536) : (bits .and .i64 (x : Int) 16 != 0) = bitAt x 4 := by
  have h := (bits_nat .i64 62 (by decide) wraps_i64 x (2 ^ 4) (by omega) (by decide)).1
  have e : ((2 ^ 4 : Nat) : Int) = 16 := rfl
  rw [e, and_16n] at h
  rw [h]
  unfold bitAt
  rcases Nat.mod_two_eq_zero_or_one (x / 2 ^ 4) with h2 | h2 <;> rw [h2] <;> rfl

set_option maxHeartbeats 8000000 in
set_option maxRecDepth 100000 in
theorem headRead_any (w : World) (b o c : Nat) (L : List UInt8) (hL : BytAt w b o L) (h4 : 4 ≤ L.length) (hc : L.length ≤ c) (hm : c ≤ maxLen) :
    Calls Try.prog 16 #[.slice (some ⟨b, o, none⟩) L.length c] w fun e w' => e = .returned (.tuple #[hdV (rdHd L), .nilIface]) ∧ Fr [] w w' := by
  have HL := Lib.hid hL
  have HH := Lib.hid (show rdHd L = ⟨pr L 0, bitAt (gB L 2) 7, (gB L 2 / 8 % 16 : Nat), bitAt (gB L 2) 2, bitAt (gB L 2) 1, bitAt (gB L 2) 0, bitAt (gB L 3) 7, bitAt (gB L 3) 6, bitAt (gB L 3) 5, bitAt (gB L 3) 4, (gB L 3 % 16 : Nat)⟩ from rfl)
  have hx0 := gB_lt L 0
  have hx1 := gB_lt L 1
  have hx2 := gB_lt L 2
  have hx3 := gB_lt L 3
  have hp0 : pr L 0 = gB L 0 * 256 + gB L 1 := rfl
  have HFA := Lib.hid ((Fr.refl [] w).alloc (.cells #[.int .i64 0, .bool false, .int .i64 0, .bool false, .bool false, .bool false, .bool false, .bool false, .bool false, .bool false, .int .i64 0] 33))
  have y0 := HFA.out.cell (hL 0 (by omega)) (by simp)
  have y1 := HFA.out.cell (hL 1 (by omega)) (by simp)
  have y2 := HFA.out.cell (hL 2 (by omega)) (by simp)
  have y3 := HFA.out.cell (hL 3 (by omega)) (by simp)
  rw [Nat.add_zero] at y0
  rw [hp0] at HH
  generalize gB L 0 = x0 at *
  generalize gB L 1 = x1 at *
  generalize gB L 2 = x2 at *
  generalize gB L 3 = x3 at *
  generalize rdHd L = H at *
  have HX := Lib.hid (And.intro hx2 hx3)
  have HBA := Lib.hid (heap_alloc_new w (.cells #[.int .i64 0, .bool false, .int .i64 0, .bool false, .bool false, .bool false, .bool false, .bool false, .bool false, .bool false, .int .i64 0] 33))
  have o1 := or_two (x := (x2 : Int)) (y := (x3 : Int)) (by omega) (by omega) (by omega) (by omega)
  have o2 := or_two (x := (x0 : Int)) (y := (x1 : Int)) (by omega) (by omega) (by omega) (by omega)
  have e1 : (x2 : Int) * 256 + (x3 : Int) = ((x2 * 256 + x3 : Nat) : Int) := by omega
  have e2 : (x0 : Int) * 256 + (x1 : Int) = ((x0 * 256 + x1 : Nat) : Int) := by omega
  rw [e1] at o1
  rw [e2] at o2
  have i0 : (x0 : Int) ≤ 255 := by omega
  have i1 : (x1 : Int) ≤ 255 := by omega
  have i3 : (x3 : Int) ≤ 255 := by omega
  have i2 : (x2 : Int) ≤ 255 := by omega
  have i4 : ¬ (L.length : Int) < 4 := by omega
  have i5 : (0 : Int) < (L.length : Int) := by omega
  have i6 : (1 : Int) < (L.length : Int) := by omega
  have i7 : (2 : Int) < (L.length : Int) := by omega
  have i8 : (3 : Int) < (L.length : Int) := by omega
  have f16 := and_16 (x := x2 * 256 + x3) (by omega)
  have f15 := and_15 (x := ((x2 * 256 + x3 : Nat) : Int)) (by omega) (by omega)
  have f11 := and_15 (x := ((x2 * 256 + x3 : Nat) : Int) / 2048) (by omega) (by omega)
  have g16 : bitAt (x2 * 256 + x3) 4 = bitAt x3 4 := by unfold bitAt; rw [Bool.eq_iff_iff, beq_iff_eq, beq_iff_eq]; simp; omega
  have g15 : ((x2 * 256 + x3 : Nat) : Int) % 16 = ((x3 % 16 : Nat) : Int) := by omega
  have g11 : ((x2 * 256 + x3 : Nat) : Int) / 2048 % 16 = ((x2 / 8 % 16 : Nat) : Int) := by omega
  rw [g16] at f16
  rw [g15] at f15
  rw [g11] at f11
  have HXB := Lib.hid (fun p (hp : p ≤ 15) => sh_bit (x := x2) (y := x3) hp hx2 hx3)
  have hX1 : (0 : Int) ≤ ((x2 * 256 + x3 : Nat) : Int) := by omega
  have hX2 : ((x2 * 256 + x3 : Nat) : Int) ≤ 65535 := by omega
  clear g16 g15 g11 hp0 e1 e2 hL
  generalize x2 * 256 + x3 = X at *
  generalize x0 * 256 + x1 = ID at *
  generalize L.length = len at *
  clear hx0 hx1 hx2 hx3
  go_enter Try.func16, Try.ntmps16
  go_wp2_with fail
  generalize w.alloc (.cells #[.int .i64 0, .bool false, .int .i64 0, .bool false, .bool false, .bool false, .bool false, .bool false, .bool false, .bool false, .int .i64 0] 33) = w1 at *
  have HB1 := Lib.hid (fun (wx : World) (h : Fr [] w1 wx) => h.blk HBA.out (by simp))
  go_quiet (fail)
  have HF2 := Lib.hid (HFA.out.drewN nq)
  have y0 : (w1.drewN nq).cell? ⟨b, o, none⟩ = _ := y0
  have y1 : (w1.drewN nq).cell? ⟨b, o + 1, none⟩ = _ := y1
  have HB2 := Lib.hid (HB1.out _ ((Fr.refl [] w1).drewN nq))
  go_upto_region 4 with fail
  clear HB1 y2 y3
  generalize w1.drewN nq = w2 at *
  go_cut [5] (fun pv wx => ∃ bk, pv = .pointer (some ⟨bk, 0, none⟩) ∧ wx.heap[bk]? = some (.cells #[.int .i64 ID, .bool false, .int .i64 (x2 / 8 % 16 : Nat), .bool false, .bool false, .bool false, .bool false, .bool false, .bool false, .bool (bitAt x3 4), .int .i64 (x3 % 16 : Nat)] 33 (0, 0)) ∧ w2.heap.size ≤ bk ∧ Fr [] w2 wx)
  case first =>
    clear HL HH HX HBA HFA HB2 HF2 HXB
    have HAL := Lib.hid ((Fr.refl [] w2).alloc (.cells #[.int .i64 0, .bool false, .int .i64 0, .bool false, .bool false, .bool false, .bool false, .bool false, .bool false, .bool false, .int .i64 0] 33))
    have z0 := HAL.out.cell y0 (by simp)
    have z1 := HAL.out.cell y1 (by simp)
    go_region
    go_wp2_with fail
    go_meet
    exact ⟨w2.heap.size, rfl, heap_alloc_new w2 _, Nat.le_refl _, ((Fr.refl [] w2).alloc _).drew⟩
  case rest =>
    obtain ⟨bk, rfl, hb, hge, hf⟩ := hcut
    have HB := Lib.hid hb
    have HF := Lib.hid (HF2.out.trans hf (by simp))
    have HR0 := Lib.hid (hf.blk HB2.out (by simp))
    have HGE := Lib.hid (show w.heap.size < bk from by have := lt_of_blk HB2.out; omega)
    clear hb hge hf HB2 HF2 y0 y1
    go_wp2_with fail
    refine (places_any _).mono ?_
    rintro e w3 ⟨rfl, hf3⟩
    have HB3 := Lib.hid (hf3.blk HB.out (by simp))
    have HR3 := Lib.hid (hf3.blk HR0.out (by simp))
    have HF3 := Lib.hid (HF.out.trans hf3 (by simp))
    clear hf3 HB HR0 HF
    go_wp2_with fail
    have HST := Lib.hid (show (#[.int .i64 ID, .bool false, .int .i64 (x2 / 8 % 16 : Nat), .bool false, .bool false, .bool false, .bool false, .bool false, .bool false, .bool (bitAt x3 4), .int .i64 (x3 % 16 : Nat)] : Array Value) = hdC H 0 from by rw [HH.out]; rfl)
    have HEN := Lib.hid (show hdC H 7 = #[.int .i64 H.id, .bool H.an, .int .i64 H.op, .bool H.aa, .bool H.tc, .bool H.rd, .bool H.ra, .bool H.z, .bool H.ad, .bool H.cd, .int .i64 H.code] from rfl)
    go_loopw [43] (fun vi wr => ∃ k : Nat, k ≤ 7 ∧ vi = .int .i64 k ∧ wr.heap[bk]? = some (.cells (hdC H k) 33 (0, 0)) ∧ wr.heap[w.heap.size]? = some (.cells #[.int .i64 0, .bool false, .int .i64 0, .bool false, .bool false, .bool false, .bool false, .bool false, .bool false, .bool false, .int .i64 0] 33 (0, 0)) ∧ Fr [] w wr) (fun vi _ => 7 - (intOf vi).toNat)
    case atStart => exact ⟨0, by omega, rfl, by rw [← HST.out]; exact HB3.out, HR3.out, HF3.out⟩
    case round =>
      clear HB3 HR3 HF3 HST o1 o2 f16 f15 f11
      obtain ⟨k, hk, rfl, hb, hr0, hf⟩ := hrel
      have HB := Lib.hid hb
      have HR0 := Lib.hid hr0
      have HF := Lib.hid hf
      clear hb hr0 hf
      by_cases h7 : k = 7
      · subst h7
        have hb := HB.out
        rw [HEN.out] at hb
        have c0 := blk_cell hb 0 rfl
        have c1 := blk_cell hb 1 rfl
        have c2 := blk_cell hb 2 rfl
        have c3 := blk_cell hb 3 rfl
        have c4 := blk_cell hb 4 rfl
        have c5 := blk_cell hb 5 rfl
        have c6 := blk_cell hb 6 rfl
        have c7 := blk_cell hb 7 rfl
        have c8 := blk_cell hb 8 rfl
        have c9 := blk_cell hb 9 rfl
        have c10 := blk_cell hb 10 rfl
        have d0 := blk_cell HR0.out 0 rfl
        have d1 := blk_cell HR0.out 1 rfl
        have d2 := blk_cell HR0.out 2 rfl
        have d3 := blk_cell HR0.out 3 rfl
        have d4 := blk_cell HR0.out 4 rfl
        have d5 := blk_cell HR0.out 5 rfl
        have d6 := blk_cell HR0.out 6 rfl
        have d7 := blk_cell HR0.out 7 rfl
        have d8 := blk_cell HR0.out 8 rfl
        have d9 := blk_cell HR0.out 9 rfl
        have d10 := blk_cell HR0.out 10 rfl
        have hz : ∀ j, wr.frozen? ⟨w.heap.size, j, none⟩ = false := fun j => blk_frozen HR0.out j
        have HHD := Lib.hid (show hdV H = .agg #[.int .i64 H.id, .bool H.an, .int .i64 H.op, .bool H.aa, .bool H.tc, .bool H.rd, .bool H.ra, .bool H.z, .bool H.ad, .bool H.cd, .int .i64 H.code] from rfl)
        clear hb
        go_wp2_with fail
        have HBF := Lib.hid (setCells_all (w := wr) (p := w.heap.size) [.int .i64 H.id, .bool H.an, .int .i64 H.op, .bool H.aa, .bool H.tc, .bool H.rd, .bool H.ra, .bool H.z, .bool H.ad, .bool H.cd, .int .i64 H.code] HR0.out rfl)
        have HFF := Lib.hid (setCells_fr (p := w.heap.size) [.int .i64 H.id, .bool H.an, .int .i64 H.op, .bool H.aa, .bool H.tc, .bool H.rd, .bool H.ra, .bool H.z, .bool H.ad, .bool H.cd, .int .i64 H.code] 0 wr)
        change bodyPost _ _ _ _ _ (wr.setCells w.heap.size 0 [.int .i64 H.id, .bool H.an, .int .i64 H.op, .bool H.aa, .bool H.tc, .bool H.rd, .bool H.ra, .bool H.z, .bool H.ad, .bool H.cd, .int .i64 H.code])
        generalize wr.setCells w.heap.size 0 [.int .i64 H.id, .bool H.an, .int .i64 H.op, .bool H.aa, .bool H.tc, .bool H.rd, .bool H.ra, .bool H.z, .bool H.ad, .bool H.cd, .int .i64 H.code] = wF at *
        have r0 := blk_cell HBF.out 0 rfl
        have r1 := blk_cell HBF.out 1 rfl
        have r2 := blk_cell HBF.out 2 rfl
        have r3 := blk_cell HBF.out 3 rfl
        have r4 := blk_cell HBF.out 4 rfl
        have r5 := blk_cell HBF.out 5 rfl
        have r6 := blk_cell HBF.out 6 rfl
        have r7 := blk_cell HBF.out 7 rfl
        have r8 := blk_cell HBF.out 8 rfl
        have r9 := blk_cell HBF.out 9 rfl
        have r10 := blk_cell HBF.out 10 rfl
        refine bodyPost_ret (v := .tuple #[.agg #[.int .i64 H.id, .bool H.an, .int .i64 H.op, .bool H.aa, .bool H.tc, .bool H.rd, .bool H.ra, .bool H.z, .bool H.ad, .bool H.cd, .int .i64 H.code], .nilIface]) (by simp [results, Try.results16, go_sem, r0, r1, r2, r3, r4, r5, r6, r7, r8, r9, r10]) rfl ?_
        exact ⟨by rw [HHD.out], HF.out.trans HFF.out (by simp)⟩
      · have hk6 : k = 0 ∨ k = 1 ∨ k = 2 ∨ k = 3 ∨ k = 4 ∨ k = 5 ∨ k = 6 := by omega
        clear hk h7
        rcases hk6 with rfl | rfl | rfl | rfl | rfl | rfl | rfl
        · have hbit : (bits .and .i64 ((X : Int) / 32768) 1 == 1) = H.an := by
            have h := (HXB.out 15 (by decide)).trans (show _ = H.an from by rw [HH.out]; rfl)
            rw [show ((X / 2 ^ 15 : Nat) : Int) = (X : Int) / 32768 by omega] at h
            exact h
          have HNX := Lib.hid (show (hdC H 0).setIfInBounds 1 (.bool H.an) = hdC H (0 + 1) from rfl)
          have HBW := Lib.hid (fun (wx : World) (h : Fr [] wr wx) => h.blk HB.out (by simp))
          have i1 := ix_pl0
          have i2 := ix_fl0 bk
          go_upto_region 8 with fail
          go_region_with (go_at_call 23; (with_reducible refine (flags_any _ _).mono ?_); rintro e wx ⟨rfl, hfx⟩; (have hfy := ((Fr.refl [] wr).drew).trans hfx (by simp)); (have cx := blk_cell (HBW.out _ hfy) 1 rfl); (have zx := blk_frozen (HBW.out _ hfy) 1))
          have HF9 := Lib.hid ((HF.out.trans hfy (by simp)).setCell (p := ⟨bk, 1, none⟩) (.inr (Nat.le_of_lt HGE.out)) (.bool H.an))
          have HB9 := Lib.hid (obj_setk (HBW.out _ hfy) 1 (.bool H.an))
          rw [HNX.out] at HB9
          have HR9 := Lib.hid (((Fr.refl [bk] wx).setCell (p := ⟨bk, 1, none⟩) (.inl (by simp)) (.bool H.an)).blk (hfy.blk HR0.out (by simp)) (by have := HGE.out; simp; omega))
          clear cx zx hfx hfy
          go_wp2
          go_roundw
          case rel => exact ⟨0 + 1, by omega, by go_num, HB9.out, HR9.out, HF9.out⟩
          case measure => (simp [intOf] <;> omega)
        · have hbit : (bits .and .i64 ((X : Int) / 1024) 1 == 1) = H.aa := by
            have h := (HXB.out 10 (by decide)).trans (show _ = H.aa from by rw [HH.out]; rfl)
            rw [show ((X / 2 ^ 10 : Nat) : Int) = (X : Int) / 1024 by omega] at h
            exact h
          have HNX := Lib.hid (show (hdC H 1).setIfInBounds 3 (.bool H.aa) = hdC H (1 + 1) from rfl)
          have HBW := Lib.hid (fun (wx : World) (h : Fr [] wr wx) => h.blk HB.out (by simp))
          have i1 := ix_pl1
          have i2 := ix_fl1 bk
          go_upto_region 8 with fail
          go_region_with (go_at_call 23; (with_reducible refine (flags_any _ _).mono ?_); rintro e wx ⟨rfl, hfx⟩; (have hfy := ((Fr.refl [] wr).drew).trans hfx (by simp)); (have cx := blk_cell (HBW.out _ hfy) 3 rfl); (have zx := blk_frozen (HBW.out _ hfy) 3))
          have HF9 := Lib.hid ((HF.out.trans hfy (by simp)).setCell (p := ⟨bk, 3, none⟩) (.inr (Nat.le_of_lt HGE.out)) (.bool H.aa))
          have HB9 := Lib.hid (obj_setk (HBW.out _ hfy) 3 (.bool H.aa))
          rw [HNX.out] at HB9
          have HR9 := Lib.hid (((Fr.refl [bk] wx).setCell (p := ⟨bk, 3, none⟩) (.inl (by simp)) (.bool H.aa)).blk (hfy.blk HR0.out (by simp)) (by have := HGE.out; simp; omega))
          clear cx zx hfx hfy
          go_wp2
          go_roundw
          case rel => exact ⟨1 + 1, by omega, by go_num, HB9.out, HR9.out, HF9.out⟩
          case measure => (simp [intOf] <;> omega)
        · have hbit : (bits .and .i64 ((X : Int) / 512) 1 == 1) = H.tc := by
            have h := (HXB.out 9 (by decide)).trans (show _ = H.tc from by rw [HH.out]; rfl)
            rw [show ((X / 2 ^ 9 : Nat) : Int) = (X : Int) / 512 by omega] at h
            exact h
          have HNX := Lib.hid (show (hdC H 2).setIfInBounds 4 (.bool H.tc) = hdC H (2 + 1) from rfl)
          have HBW := Lib.hid (fun (wx : World) (h : Fr [] wr wx) => h.blk HB.out (by simp))
          have i1 := ix_pl2
          have i2 := ix_fl2 bk
          go_upto_region 8 with fail
          go_region_with (go_at_call 23; (with_reducible refine (flags_any _ _).mono ?_); rintro e wx ⟨rfl, hfx⟩; (have hfy := ((Fr.refl [] wr).drew).trans hfx (by simp)); (have cx := blk_cell (HBW.out _ hfy) 4 rfl); (have zx := blk_frozen (HBW.out _ hfy) 4))
          have HF9 := Lib.hid ((HF.out.trans hfy (by simp)).setCell (p := ⟨bk, 4, none⟩) (.inr (Nat.le_of_lt HGE.out)) (.bool H.tc))
          have HB9 := Lib.hid (obj_setk (HBW.out _ hfy) 4 (.bool H.tc))
          rw [HNX.out] at HB9
          have HR9 := Lib.hid (((Fr.refl [bk] wx).setCell (p := ⟨bk, 4, none⟩) (.inl (by simp)) (.bool H.tc)).blk (hfy.blk HR0.out (by simp)) (by have := HGE.out; simp; omega))
          clear cx zx hfx hfy
          go_wp2
          go_roundw
          case rel => exact ⟨2 + 1, by omega, by go_num, HB9.out, HR9.out, HF9.out⟩
          case measure => (simp [intOf] <;> omega)
        · have hbit : (bits .and .i64 ((X : Int) / 256) 1 == 1) = H.rd := by
            have h := (HXB.out 8 (by decide)).trans (show _ = H.rd from by rw [HH.out]; rfl)
            rw [show ((X / 2 ^ 8 : Nat) : Int) = (X : Int) / 256 by omega] at h
            exact h
          have HNX := Lib.hid (show (hdC H 3).setIfInBounds 5 (.bool H.rd) = hdC H (3 + 1) from rfl)
          have HBW := Lib.hid (fun (wx : World) (h : Fr [] wr wx) => h.blk HB.out (by simp))
          have i1 := ix_pl3
          have i2 := ix_fl3 bk
          go_upto_region 8 with fail
          go_region_with (go_at_call 23; (with_reducible refine (flags_any _ _).mono ?_); rintro e wx ⟨rfl, hfx⟩; (have hfy := ((Fr.refl [] wr).drew).trans hfx (by simp)); (have cx := blk_cell (HBW.out _ hfy) 5 rfl); (have zx := blk_frozen (HBW.out _ hfy) 5))
          have HF9 := Lib.hid ((HF.out.trans hfy (by simp)).setCell (p := ⟨bk, 5, none⟩) (.inr (Nat.le_of_lt HGE.out)) (.bool H.rd))
          have HB9 := Lib.hid (obj_setk (HBW.out _ hfy) 5 (.bool H.rd))
          rw [HNX.out] at HB9
          have HR9 := Lib.hid (((Fr.refl [bk] wx).setCell (p := ⟨bk, 5, none⟩) (.inl (by simp)) (.bool H.rd)).blk (hfy.blk HR0.out (by simp)) (by have := HGE.out; simp; omega))
          clear cx zx hfx hfy
          go_wp2
          go_roundw
          case rel => exact ⟨3 + 1, by omega, by go_num, HB9.out, HR9.out, HF9.out⟩
          case measure => (simp [intOf] <;> omega)
        · have hbit : (bits .and .i64 ((X : Int) / 128) 1 == 1) = H.ra := by
            have h := (HXB.out 7 (by decide)).trans (show _ = H.ra from by rw [HH.out]; rfl)
            rw [show ((X / 2 ^ 7 : Nat) : Int) = (X : Int) / 128 by omega] at h
            exact h
          have HNX := Lib.hid (show (hdC H 4).setIfInBounds 6 (.bool H.ra) = hdC H (4 + 1) from rfl)
          have HBW := Lib.hid (fun (wx : World) (h : Fr [] wr wx) => h.blk HB.out (by simp))
          have i1 := ix_pl4
          have i2 := ix_fl4 bk
          go_upto_region 8 with fail
          go_region_with (go_at_call 23; (with_reducible refine (flags_any _ _).mono ?_); rintro e wx ⟨rfl, hfx⟩; (have hfy := ((Fr.refl [] wr).drew).trans hfx (by simp)); (have cx := blk_cell (HBW.out _ hfy) 6 rfl); (have zx := blk_frozen (HBW.out _ hfy) 6))
          have HF9 := Lib.hid ((HF.out.trans hfy (by simp)).setCell (p := ⟨bk, 6, none⟩) (.inr (Nat.le_of_lt HGE.out)) (.bool H.ra))
          have HB9 := Lib.hid (obj_setk (HBW.out _ hfy) 6 (.bool H.ra))
          rw [HNX.out] at HB9
          have HR9 := Lib.hid (((Fr.refl [bk] wx).setCell (p := ⟨bk, 6, none⟩) (.inl (by simp)) (.bool H.ra)).blk (hfy.blk HR0.out (by simp)) (by have := HGE.out; simp; omega))
          clear cx zx hfx hfy
          go_wp2
          go_roundw
          case rel => exact ⟨4 + 1, by omega, by go_num, HB9.out, HR9.out, HF9.out⟩
          case measure => (simp [intOf] <;> omega)
        · have hbit : (bits .and .i64 ((X : Int) / 64) 1 == 1) = H.z := by
            have h := (HXB.out 6 (by decide)).trans (show _ = H.z from by rw [HH.out]; rfl)
            rw [show ((X / 2 ^ 6 : Nat) : Int) = (X : Int) / 64 by omega] at h
            exact h
          have HNX := Lib.hid (show (hdC H 5).setIfInBounds 7 (.bool H.z) = hdC H (5 + 1) from rfl)
          have HBW := Lib.hid (fun (wx : World) (h : Fr [] wr wx) => h.blk HB.out (by simp))
          have i1 := ix_pl5
          have i2 := ix_fl5 bk
          go_upto_region 8 with fail
          go_region_with (go_at_call 23; (with_reducible refine (flags_any _ _).mono ?_); rintro e wx ⟨rfl, hfx⟩; (have hfy := ((Fr.refl [] wr).drew).trans hfx (by simp)); (have cx := blk_cell (HBW.out _ hfy) 7 rfl); (have zx := blk_frozen (HBW.out _ hfy) 7))
          have HF9 := Lib.hid ((HF.out.trans hfy (by simp)).setCell (p := ⟨bk, 7, none⟩) (.inr (Nat.le_of_lt HGE.out)) (.bool H.z))
          have HB9 := Lib.hid (obj_setk (HBW.out _ hfy) 7 (.bool H.z))
          rw [HNX.out] at HB9
          have HR9 := Lib.hid (((Fr.refl [bk] wx).setCell (p := ⟨bk, 7, none⟩) (.inl (by simp)) (.bool H.z)).blk (hfy.blk HR0.out (by simp)) (by have := HGE.out; simp; omega))
          clear cx zx hfx hfy
          go_wp2
          go_roundw
          case rel => exact ⟨5 + 1, by omega, by go_num, HB9.out, HR9.out, HF9.out⟩
          case measure => (simp [intOf] <;> omega)
        · have hbit : (bits .and .i64 ((X : Int) / 32) 1 == 1) = H.ad := by
            have h := (HXB.out 5 (by decide)).trans (show _ = H.ad from by rw [HH.out]; rfl)
            rw [show ((X / 2 ^ 5 : Nat) : Int) = (X : Int) / 32 by omega] at h
            exact h
          have HNX := Lib.hid (show (hdC H 6).setIfInBounds 8 (.bool H.ad) = hdC H (6 + 1) from rfl)
          have HBW := Lib.hid (fun (wx : World) (h : Fr [] wr wx) => h.blk HB.out (by simp))
          have i1 := ix_pl6
          have i2 := ix_fl6 bk
          go_upto_region 8 with fail
          go_region_with (go_at_call 23; (with_reducible refine (flags_any _ _).mono ?_); rintro e wx ⟨rfl, hfx⟩; (have hfy := ((Fr.refl [] wr).drew).trans hfx (by simp)); (have cx := blk_cell (HBW.out _ hfy) 8 rfl); (have zx := blk_frozen (HBW.out _ hfy) 8))
          have HF9 := Lib.hid ((HF.out.trans hfy (by simp)).setCell (p := ⟨bk, 8, none⟩) (.inr (Nat.le_of_lt HGE.out)) (.bool H.ad))
          have HB9 := Lib.hid (obj_setk (HBW.out _ hfy) 8 (.bool H.ad))
          rw [HNX.out] at HB9
          have HR9 := Lib.hid (((Fr.refl [bk] wx).setCell (p := ⟨bk, 8, none⟩) (.inl (by simp)) (.bool H.ad)).blk (hfy.blk HR0.out (by simp)) (by have := HGE.out; simp; omega))
          clear cx zx hfx hfy
          go_wp2
          go_roundw
          case rel => exact ⟨6 + 1, by omega, by go_num, HB9.out, HR9.out, HF9.out⟩
          case measure => (simp [intOf] <;> omega)

end Go.Proofs.Ytkdmkpdooiacaaa
