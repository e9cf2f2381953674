/- head.Write: the four first bytes, or what is wrong. -/
import Derived.BigRegion
import Derived.Test.YtkdmkpdooiacaaaZbase1
namespace Go.Proofs.Ytkdmkpdooiacaaa
open Go.RowKit

set_option maxHeartbeats 2000000 in
set_option maxRecDepth 100000 in
theorem places_any (w : World) : Calls Try.prog 22 #[] w fun e w' => e = .returned (.agg #[.int .i64 15, .int .i64 10, .int .i64 9, .int .i64 8, .int .i64 7, .int .i64 6, .int .i64 5]) ∧ Fr [] w w' := by
  go_enter Try.func22, Try.ntmps22
  go_wp2
  have hb := heap_alloc_new w (.cells #[.int .i64 15, .int .i64 10, .int .i64 9, .int .i64 8, .int .i64 7, .int .i64 6, .int .i64 5] 75)
  have c0 := blk_cell hb 0 rfl
  have c1 := blk_cell hb 1 rfl
  have c2 := blk_cell hb 2 rfl
  have c3 := blk_cell hb 3 rfl
  have c4 := blk_cell hb 4 rfl
  have c5 := blk_cell hb 5 rfl
  have c6 := blk_cell hb 6 rfl
  have hf : Fr [] w (w.alloc (.cells #[.int .i64 15, .int .i64 10, .int .i64 9, .int .i64 8, .int .i64 7, .int .i64 6, .int .i64 5] 75)) := ((Fr.refl [] w).alloc _)
  refine bodyPost_ret (v := .agg #[.int .i64 15, .int .i64 10, .int .i64 9, .int .i64 8, .int .i64 7, .int .i64 6, .int .i64 5]) (by simp [results, Try.results22, go_sem, c0, c1, c2, c3, c4, c5, c6]) rfl ?_
  exact ⟨rfl, hf⟩

set_option maxHeartbeats 2000000 in
set_option maxRecDepth 100000 in
theorem flags_any (w : World) (b : Nat) : Calls Try.prog 23 #[.pointer (some ⟨b, 0, none⟩)] w fun e w' => e = .returned (.agg #[.pointer (some ⟨b, 1, none⟩), .pointer (some ⟨b, 3, none⟩), .pointer (some ⟨b, 4, none⟩), .pointer (some ⟨b, 5, none⟩), .pointer (some ⟨b, 6, none⟩), .pointer (some ⟨b, 7, none⟩), .pointer (some ⟨b, 8, none⟩)]) ∧ Fr [] w w' := by
  go_enter Try.func23, Try.ntmps23
  go_wp2
  go_region
  have hb : (w.alloc (.cells #[.pointer (some ⟨b, 1, none⟩), .pointer (some ⟨b, 3, none⟩), .pointer (some ⟨b, 4, none⟩), .pointer (some ⟨b, 5, none⟩), .pointer (some ⟨b, 6, none⟩), .pointer (some ⟨b, 7, none⟩), .pointer (some ⟨b, 8, none⟩)] 78)).drew.heap[w.heap.size]? = some (.cells #[.pointer (some ⟨b, 1, none⟩), .pointer (some ⟨b, 3, none⟩), .pointer (some ⟨b, 4, none⟩), .pointer (some ⟨b, 5, none⟩), .pointer (some ⟨b, 6, none⟩), .pointer (some ⟨b, 7, none⟩), .pointer (some ⟨b, 8, none⟩)] 78 (0, 0)) := heap_alloc_new w (.cells #[.pointer (some ⟨b, 1, none⟩), .pointer (some ⟨b, 3, none⟩), .pointer (some ⟨b, 4, none⟩), .pointer (some ⟨b, 5, none⟩), .pointer (some ⟨b, 6, none⟩), .pointer (some ⟨b, 7, none⟩), .pointer (some ⟨b, 8, none⟩)] 78)
  have c0 := blk_cell hb 0 rfl
  have c1 := blk_cell hb 1 rfl
  have c2 := blk_cell hb 2 rfl
  have c3 := blk_cell hb 3 rfl
  have c4 := blk_cell hb 4 rfl
  have c5 := blk_cell hb 5 rfl
  have c6 := blk_cell hb 6 rfl
  have hf : Fr [] w (w.alloc (.cells #[.pointer (some ⟨b, 1, none⟩), .pointer (some ⟨b, 3, none⟩), .pointer (some ⟨b, 4, none⟩), .pointer (some ⟨b, 5, none⟩), .pointer (some ⟨b, 6, none⟩), .pointer (some ⟨b, 7, none⟩), .pointer (some ⟨b, 8, none⟩)] 78)).drew := ((Fr.refl [] w).alloc _).drew
  go_wp2
  refine bodyPost_ret (v := .agg #[.pointer (some ⟨b, 1, none⟩), .pointer (some ⟨b, 3, none⟩), .pointer (some ⟨b, 4, none⟩), .pointer (some ⟨b, 5, none⟩), .pointer (some ⟨b, 6, none⟩), .pointer (some ⟨b, 7, none⟩), .pointer (some ⟨b, 8, none⟩)]) (by simp [results, Try.results23, go_sem, c0, c1, c2, c3, c4, c5, c6]) rfl ?_
  exact ⟨rfl, hf⟩

set_option maxHeartbeats 2000000 in
set_option maxRecDepth 100000 in
theorem sections_any (w : World) (b : Nat) : Calls Try.prog 13 #[.pointer (some ⟨b, 0, none⟩)] w fun e w' => e = .returned (.agg #[.pointer (some ⟨b, 12, none⟩), .pointer (some ⟨b, 13, none⟩), .pointer (some ⟨b, 14, none⟩)]) ∧ Fr [] w w' := by
  go_enter Try.func13, Try.ntmps13
  go_wp2
  go_region
  have hb : (w.alloc (.cells #[.pointer (some ⟨b, 12, none⟩), .pointer (some ⟨b, 13, none⟩), .pointer (some ⟨b, 14, none⟩)] 59)).drew.heap[w.heap.size]? = some (.cells #[.pointer (some ⟨b, 12, none⟩), .pointer (some ⟨b, 13, none⟩), .pointer (some ⟨b, 14, none⟩)] 59 (0, 0)) := heap_alloc_new w (.cells #[.pointer (some ⟨b, 12, none⟩), .pointer (some ⟨b, 13, none⟩), .pointer (some ⟨b, 14, none⟩)] 59)
  have c0 := blk_cell hb 0 rfl
  have c1 := blk_cell hb 1 rfl
  have c2 := blk_cell hb 2 rfl
  have hf : Fr [] w (w.alloc (.cells #[.pointer (some ⟨b, 12, none⟩), .pointer (some ⟨b, 13, none⟩), .pointer (some ⟨b, 14, none⟩)] 59)).drew := ((Fr.refl [] w).alloc _).drew
  go_wp2
  refine bodyPost_ret (v := .agg #[.pointer (some ⟨b, 12, none⟩), .pointer (some ⟨b, 13, none⟩), .pointer (some ⟨b, 14, none⟩)]) (by simp [results, Try.results13, go_sem, c0, c1, c2]) rfl ?_
  exact ⟨rfl, hf⟩

theorem ix_pl0 (u : World) : (Instr.index 75 (.agg #[.int .i64 15, .int .i64 10, .int .i64 9, .int .i64 8, .int .i64 7, .int .i64 6, .int .i64 5]) (.int .i64 0)).run Try.prog u = .ok (.int .i64 15) u := by kernel_rfl
theorem ix_fl0 (b : Nat) (u : World) : (Instr.index 78 (.agg #[.pointer (some ⟨b, 1, none⟩), .pointer (some ⟨b, 3, none⟩), .pointer (some ⟨b, 4, none⟩), .pointer (some ⟨b, 5, none⟩), .pointer (some ⟨b, 6, none⟩), .pointer (some ⟨b, 7, none⟩), .pointer (some ⟨b, 8, none⟩)]) (.int .i64 0)).run Try.prog u = .ok (.pointer (some ⟨b, 1, none⟩)) u := by kernel_rfl
theorem ix_pl1 (u : World) : (Instr.index 75 (.agg #[.int .i64 15, .int .i64 10, .int .i64 9, .int .i64 8, .int .i64 7, .int .i64 6, .int .i64 5]) (.int .i64 1)).run Try.prog u = .ok (.int .i64 10) u := by kernel_rfl
theorem ix_fl1 (b : Nat) (u : World) : (Instr.index 78 (.agg #[.pointer (some ⟨b, 1, none⟩), .pointer (some ⟨b, 3, none⟩), .pointer (some ⟨b, 4, none⟩), .pointer (some ⟨b, 5, none⟩), .pointer (some ⟨b, 6, none⟩), .pointer (some ⟨b, 7, none⟩), .pointer (some ⟨b, 8, none⟩)]) (.int .i64 1)).run Try.prog u = .ok (.pointer (some ⟨b, 3, none⟩)) u := by kernel_rfl
theorem ix_pl2 (u : World) : (Instr.index 75 (.agg #[.int .i64 15, .int .i64 10, .int .i64 9, .int .i64 8, .int .i64 7, .int .i64 6, .int .i64 5]) (.int .i64 2)).run Try.prog u = .ok (.int .i64 9) u := by kernel_rfl
theorem ix_fl2 (b : Nat) (u : World) : (Instr.index 78 (.agg #[.pointer (some ⟨b, 1, none⟩), .pointer (some ⟨b, 3, none⟩), .pointer (some ⟨b, 4, none⟩), .pointer (some ⟨b, 5, none⟩), .pointer (some ⟨b, 6, none⟩), .pointer (some ⟨b, 7, none⟩), .pointer (some ⟨b, 8, none⟩)]) (.int .i64 2)).run Try.prog u = .ok (.pointer (some ⟨b, 4, none⟩)) u := by kernel_rfl
theorem ix_pl3 (u : World) : (Instr.index 75 (.agg #[.int .i64 15, .int .i64 10, .int .i64 9, .int .i64 8, .int .i64 7, .int .i64 6, .int .i64 5]) (.int .i64 3)).run Try.prog u = .ok (.int .i64 8) u := by kernel_rfl
theorem ix_fl3 (b : Nat) (u : World) : (Instr.index 78 (.agg #[.pointer (some ⟨b, 1, none⟩), .pointer (some ⟨b, 3, none⟩), .pointer (some ⟨b, 4, none⟩), .pointer (some ⟨b, 5, none⟩), .pointer (some ⟨b, 6, none⟩), .pointer (some ⟨b, 7, none⟩), .pointer (some ⟨b, 8, none⟩)]) (.int .i64 3)).run Try.prog u = .ok (.pointer (some ⟨b, 5, none⟩)) u := by kernel_rfl
theorem ix_pl4 (u : World) : (Instr.index 75 (.agg #[.int .i64 15, .int .i64 10, .int .i64 9, .int .i64 8, .int .i64 7, .int .i64 6, .int .i64 5]) (.int .i64 4)).run Try.prog u = .ok (.int .i64 7) u := by kernel_rfl
theorem ix_fl4 (b : Nat) (u : World) : (Instr.index 78 (.agg #[.pointer (some ⟨b, 1, none⟩), .pointer (some ⟨b, 3, none⟩), .pointer (some ⟨b, 4, none⟩), .pointer (some ⟨b, 5, none⟩), .pointer (some ⟨b, 6, none⟩), .pointer (some ⟨b, 7, none⟩), .pointer (some ⟨b, 8, none⟩)]) (.int .i64 4)).run Try.prog u = .ok (.pointer (some ⟨b, 6, none⟩)) u := by kernel_rfl
theorem ix_pl5 (u : World) : (Instr.index 75 (.agg #[.int .i64 15, .int .i64 10, .int .i64 9, .int .i64 8, .int .i64 7, .int .i64 6, .int .i64 5]) (.int .i64 5)).run Try.prog u = .ok (.int .i64 6) u := by kernel_rfl
theorem ix_fl5 (b : Nat) (u : World) : (Instr.index 78 (.agg #[.pointer (some ⟨b, 1, none⟩), .pointer (some ⟨b, 3, none⟩), .pointer (some ⟨b, 4, none⟩), .pointer (some ⟨b, 5, none⟩), .pointer (some ⟨b, 6, none⟩), .pointer (some ⟨b, 7, none⟩), .pointer (some ⟨b, 8, none⟩)]) (.int .i64 5)).run Try.prog u = .ok (.pointer (some ⟨b, 7, none⟩)) u := by kernel_rfl
theorem ix_pl6 (u : World) : (Instr.index 75 (.agg #[.int .i64 15, .int .i64 10, .int .i64 9, .int .i64 8, .int .i64 7, .int .i64 6, .int .i64 5]) (.int .i64 6)).run Try.prog u = .ok (.int .i64 5) u := by kernel_rfl
theorem ix_fl6 (b : Nat) (u : World) : (Instr.index 78 (.agg #[.pointer (some ⟨b, 1, none⟩), .pointer (some ⟨b, 3, none⟩), .pointer (some ⟨b, 4, none⟩), .pointer (some ⟨b, 5, none⟩), .pointer (some ⟨b, 6, none⟩), .pointer (some ⟨b, 7, none⟩), .pointer (some ⟨b, 8, none⟩)]) (.int .i64 6)).run Try.prog u = .ok (.pointer (some ⟨b, 8, none⟩)) u := by kernel_rfl

/-- a byte of whatever number -/
theorem u8_some (y : Int) : ∃ b : UInt8, Value.int .u8 (y % 256) = u8V b := by
  refine ⟨UInt8.ofNat (y % 256).toNat, ?_⟩
  unfold u8V
  congr 1
  simp
  omega

theorem own4 {w : World} {x0 x1 x2 x3 : Value} {b0 b1 b2 b3 : UInt8} {B : Nat} (hB : B ≤ w.heap.size) (h0 : x0 = u8V b0) (h1 : x1 = u8V b1) (h2 : x2 = u8V b2) (h3 : x3 = u8V b3) :
    OwnB (w.alloc (.cells #[x0, x1, x2, x3] 5)) B (.slice (some ⟨w.heap.size, 0, none⟩) 4 4) [b0, b1, b2, b3] :=
  .inr ⟨w.heap.size, 4, rfl, hB, row_lit w #[x0, x1, x2, x3] 5 4 (fun j => u8V ([b0, b1, b2, b3].getD j 0)) rfl (by decide) (fun j hj => match j, hj with
    | 0, _ => by rw [h0]; rfl
    | 1, _ => by rw [h1]; rfl
    | 2, _ => by rw [h2]; rfl
    | 3, _ => by rw [h3]; rfl)⟩

/-- are the numbers of a header within their bounds? -/
def hdOk (h : Hd) : Prop := 0 ≤ h.id ∧ h.id ≤ 65535 ∧ 0 ≤ h.op ∧ h.op ≤ 15 ∧ 0 ≤ h.code ∧ h.code ≤ 15

def HeadGood (w : World) (h : Hd) (e : Ending) (w' : World) : Prop :=
  (hdOk h ∧ (∃ v L, e = .returned (.tuple #[v, .nilIface]) ∧ OwnB w' w.heap.size v L ∧ L.length = 4) ∨
    ¬ hdOk h ∧ e = .returned (.tuple #[.slice none 0 0, .iface 52 (.int .i64 6)])) ∧ Fr [] w w'

def hdV (h : Hd) : Value := .agg #[.int .i64 h.id, .bool h.an, .int .i64 h.op, .bool h.aa, .bool h.tc, .bool h.rd, .bool h.ra, .bool h.z, .bool h.ad, .bool h.cd, .int .i64 h.code]

set_option maxHeartbeats 8000000 in
set_option maxRecDepth 100000 in
theorem headWrite_any (w : World) (h : Hd) (hw : h.Wf) : Calls Try.prog 11 #[hdV h] w (HeadGood w h) := by
  have HOK := Lib.hid (show hdOk h ↔ (0 ≤ h.id ∧ h.id ≤ 65535 ∧ 0 ≤ h.op ∧ h.op ≤ 15 ∧ 0 ≤ h.code ∧ h.code ≤ 15) from Iff.rfl)
  obtain ⟨hw1, hw2, hw3⟩ := hw
  unfold HeadGood hdV
  generalize hdOk h = OK at *
  obtain ⟨id, an, op, aa, tc, rd, ra, z, ad, cd, code⟩ := h
  simp only at HOK hw1 hw2 hw3
  go_enter Try.func11, Try.ntmps11
  by_cases hok : 0 ≤ id ∧ id ≤ 65535 ∧ 0 ≤ op ∧ op ≤ 15 ∧ 0 ≤ code ∧ code ≤ 15
  · have HO := Lib.hid (HOK.out.2 hok)
    obtain ⟨k1, k2, k3, k4, k5, k6⟩ := hok
    have d1 : decide (id < 0) = false := by simpa using k1
    have d2 : decide (65535 < id) = false := by simpa using k2
    have d3 : decide (op < 0) = false := by simpa using k3
    have d4 : decide (15 < op) = false := by simpa using k4
    have d5 : decide (code < 0) = false := by simpa using k5
    have d6 : decide (15 < code) = false := by simpa using k6
    have HF0 := Lib.hid (show Fr [] w (w.alloc (.cells #[.int .i64 id, .bool an, .int .i64 op, .bool aa, .bool tc, .bool rd, .bool ra, .bool z, .bool ad, .bool cd, .int .i64 code] 33)) from (Fr.refl [] w).alloc _)
    have HB0 := Lib.hid (heap_alloc_new w (.cells #[.int .i64 id, .bool an, .int .i64 op, .bool aa, .bool tc, .bool rd, .bool ra, .bool z, .bool ad, .bool cd, .int .i64 code] 33))
    go_wp2_with fail
    generalize w.alloc (.cells #[.int .i64 id, .bool an, .int .i64 op, .bool aa, .bool tc, .bool rd, .bool ra, .bool z, .bool ad, .bool cd, .int .i64 code] 33) = w1 at *
    refine (places_any _).mono ?_
    rintro e w2 ⟨rfl, hf2⟩
    have HB2 := Lib.hid (hf2.blk HB0.out (by simp))
    have HF2 := Lib.hid (HF0.out.trans hf2 (by simp))
    clear HB0 HF0 hf2
    go_wp2_with fail
    generalize bits .or .i64 (op * 2048) code = x0 at *
    go_loopw [4, 43] (fun vx vi wr => ∃ (k : Nat) (x : Int), k ≤ 7 ∧ vi = .int .i64 k ∧ vx = .int .i64 x ∧ wr.heap[w.heap.size]? = some (.cells #[.int .i64 id, .bool an, .int .i64 op, .bool aa, .bool tc, .bool rd, .bool ra, .bool z, .bool ad, .bool cd, .int .i64 code] 33 (0, 0)) ∧ Fr [] w wr) (fun _ vi _ => 7 - (intOf vi).toNat)
    case atStart => exact ⟨0, x0, by omega, rfl, rfl, HB2.out, HF2.out⟩
    case round =>
      clear HB2 HF2
      obtain ⟨k, x, hk, rfl, rfl, hb, hf⟩ := hrel
      have HB := Lib.hid hb
      have HF := Lib.hid hf
      clear hb hf
      by_cases h7 : k = 7
      · subst h7
        have c0 := blk_cell HB.out 0 (v := .int .i64 id) rfl
        have c9 := blk_cell HB.out 9 (v := .bool cd) rfl
        have HP := Lib.hid (fun (y : Int) => u8_some y)
        have HD := Lib.hid (u8_div k1 k2)
        cases cd with
        | true =>
          go_wp2
          obtain ⟨p1, e1⟩ := HP.out id
          obtain ⟨p2, e2⟩ := HP.out (bits .or .i64 x 16 / 256)
          obtain ⟨p3, e3⟩ := HP.out (bits .or .i64 x 16)
          have ho := own4 (w := wr) HF.out.size HD.out e1 e2 e3
          go_ret2
          exact ⟨.inl ⟨HO.out, _, _, rfl, ho, rfl⟩, HF.out.alloc _⟩
        | false =>
          go_wp2
          obtain ⟨p1, e1⟩ := HP.out id
          obtain ⟨p2, e2⟩ := HP.out (x / 256)
          obtain ⟨p3, e3⟩ := HP.out x
          have ho := own4 (w := wr) HF.out.size HD.out e1 e2 e3
          go_ret2
          exact ⟨.inl ⟨HO.out, _, _, rfl, ho, rfl⟩, HF.out.alloc _⟩
      · have hk6 : k = 0 ∨ k = 1 ∨ k = 2 ∨ k = 3 ∨ k = 4 ∨ k = 5 ∨ k = 6 := by omega
        have HFL := Lib.hid (fun (wx : World) => flags_any wx w.heap.size)
        rcases hk6 with rfl | rfl | rfl | rfl | rfl | rfl | rfl
        · have i1 := ix_pl0
          have i2 := ix_fl0 w.heap.size
          go_wp2_with fail
          refine (HFL.out _).mono ?_
          rintro e w3 ⟨rfl, hf3⟩
          have HB3 := Lib.hid (hf3.blk HB.out (by simp))
          have HF3 := Lib.hid (HF.out.trans hf3 (by simp))
          clear HB HF hf3 HFL
          have c1 := blk_cell HB3.out 1 rfl
          go_wp2
          all_goals
            go_roundw
            case rel => exact ⟨1, _, by omega, by go_num, rfl, HB3.out, HF3.out⟩
            case measure => (simp [intOf] <;> omega)
        · have i1 := ix_pl1
          have i2 := ix_fl1 w.heap.size
          go_wp2_with fail
          refine (HFL.out _).mono ?_
          rintro e w3 ⟨rfl, hf3⟩
          have HB3 := Lib.hid (hf3.blk HB.out (by simp))
          have HF3 := Lib.hid (HF.out.trans hf3 (by simp))
          clear HB HF hf3 HFL
          have c1 := blk_cell HB3.out 3 rfl
          go_wp2
          all_goals
            go_roundw
            case rel => exact ⟨2, _, by omega, by go_num, rfl, HB3.out, HF3.out⟩
            case measure => (simp [intOf] <;> omega)
        · have i1 := ix_pl2
          have i2 := ix_fl2 w.heap.size
          go_wp2_with fail
          refine (HFL.out _).mono ?_
          rintro e w3 ⟨rfl, hf3⟩
          have HB3 := Lib.hid (hf3.blk HB.out (by simp))
          have HF3 := Lib.hid (HF.out.trans hf3 (by simp))
          clear HB HF hf3 HFL
          have c1 := blk_cell HB3.out 4 rfl
          go_wp2
          all_goals
            go_roundw
            case rel => exact ⟨3, _, by omega, by go_num, rfl, HB3.out, HF3.out⟩
            case measure => (simp [intOf] <;> omega)
        · have i1 := ix_pl3
          have i2 := ix_fl3 w.heap.size
          go_wp2_with fail
          refine (HFL.out _).mono ?_
          rintro e w3 ⟨rfl, hf3⟩
          have HB3 := Lib.hid (hf3.blk HB.out (by simp))
          have HF3 := Lib.hid (HF.out.trans hf3 (by simp))
          clear HB HF hf3 HFL
          have c1 := blk_cell HB3.out 5 rfl
          go_wp2
          all_goals
            go_roundw
            case rel => exact ⟨4, _, by omega, by go_num, rfl, HB3.out, HF3.out⟩
            case measure => (simp [intOf] <;> omega)
        · have i1 := ix_pl4
          have i2 := ix_fl4 w.heap.size
          go_wp2_with fail
          refine (HFL.out _).mono ?_
          rintro e w3 ⟨rfl, hf3⟩
          have HB3 := Lib.hid (hf3.blk HB.out (by simp))
          have HF3 := Lib.hid (HF.out.trans hf3 (by simp))
          clear HB HF hf3 HFL
          have c1 := blk_cell HB3.out 6 rfl
          go_wp2
          all_goals
            go_roundw
            case rel => exact ⟨5, _, by omega, by go_num, rfl, HB3.out, HF3.out⟩
            case measure => (simp [intOf] <;> omega)
        · have i1 := ix_pl5
          have i2 := ix_fl5 w.heap.size
          go_wp2_with fail
          refine (HFL.out _).mono ?_
          rintro e w3 ⟨rfl, hf3⟩
          have HB3 := Lib.hid (hf3.blk HB.out (by simp))
          have HF3 := Lib.hid (HF.out.trans hf3 (by simp))
          clear HB HF hf3 HFL
          have c1 := blk_cell HB3.out 7 rfl
          go_wp2
          all_goals
            go_roundw
            case rel => exact ⟨6, _, by omega, by go_num, rfl, HB3.out, HF3.out⟩
            case measure => (simp [intOf] <;> omega)
        · have i1 := ix_pl6
          have i2 := ix_fl6 w.heap.size
          go_wp2_with fail
          refine (HFL.out _).mono ?_
          rintro e w3 ⟨rfl, hf3⟩
          have HB3 := Lib.hid (hf3.blk HB.out (by simp))
          have HF3 := Lib.hid (HF.out.trans hf3 (by simp))
          clear HB HF hf3 HFL
          have c1 := blk_cell HB3.out 8 rfl
          go_wp2
          all_goals
            go_roundw
            case rel => exact ⟨7, _, by omega, by go_num, rfl, HB3.out, HF3.out⟩
            case measure => (simp [intOf] <;> omega)
  · have HO := Lib.hid (fun h => hok (HOK.out.1 h))
    have HNO := Lib.hid hok
    clear hok
    by_cases k1 : 0 ≤ id
    case neg =>
      have d1 : decide (id < 0) = true := by simpa using k1
      clear k1
      go_wp2
      go_ret2
      exact ⟨.inr ⟨HO.out, rfl⟩, (Fr.refl [] w).alloc _⟩
    have d1 : decide (id < 0) = false := by simpa using k1
    by_cases k2 : id ≤ 65535
    case neg =>
      have d2 : decide (65535 < id) = true := by simpa using k2
      clear k2
      go_wp2
      go_ret2
      exact ⟨.inr ⟨HO.out, rfl⟩, (Fr.refl [] w).alloc _⟩
    have d2 : decide (65535 < id) = false := by simpa using k2
    by_cases k3 : 0 ≤ op
    case neg =>
      have d3 : decide (op < 0) = true := by simpa using k3
      clear k3
      go_wp2
      go_ret2
      exact ⟨.inr ⟨HO.out, rfl⟩, (Fr.refl [] w).alloc _⟩
    have d3 : decide (op < 0) = false := by simpa using k3
    by_cases k4 : op ≤ 15
    case neg =>
      have d4 : decide (15 < op) = true := by simpa using k4
      clear k4
      go_wp2
      go_ret2
      exact ⟨.inr ⟨HO.out, rfl⟩, (Fr.refl [] w).alloc _⟩
    have d4 : decide (15 < op) = false := by simpa using k4
    by_cases k5 : 0 ≤ code
    case neg =>
      have d5 : decide (code < 0) = true := by simpa using k5
      clear k5
      go_wp2
      go_ret2
      exact ⟨.inr ⟨HO.out, rfl⟩, (Fr.refl [] w).alloc _⟩
    have d5 : decide (code < 0) = false := by simpa using k5
    have d6 : decide (15 < code) = true := by
      have := HNO.out
      simp
      omega
    go_wp2
    go_ret2
    exact ⟨.inr ⟨HO.out, rfl⟩, (Fr.refl [] w).alloc _⟩

end Go.Proofs.Ytkdmkpdooiacaaa
