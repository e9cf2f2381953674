/- head.Write: the very bytes. -/
import Derived.Test.YtkdmkpdooiacaaaZbase4
namespace Go.Proofs.Ytkdmkpdooiacaaa
open Go.RowKit

theorem oneB_eq (b : Bool) (n : Nat) : oneB b n = b.toNat * n := by cases b <;> simp [oneB]

theorem flX_on0 (h : Hd) (hb : h.an = true) (ho : 0 ≤ h.op ∧ h.op ≤ 15) (hc : 0 ≤ h.code ∧ h.code ≤ 15) : bits .or .i64 (flX h 0 : Int) 32768 = (flX h 1 : Int) := by
  have h1 := flX_or h 0 (by decide) ho hc
  have e : ((2 ^ flP 0 : Nat) : Int) = 32768 := rfl
  rw [e] at h1
  rw [h1]
  unfold flX
  simp [hb, oneB]
  try omega
theorem flX_off0 (h : Hd) (hb : h.an = false) : (flX h 0 : Int) = (flX h 1 : Int) := by
  unfold flX
  simp [hb, oneB]
theorem flX_on1 (h : Hd) (hb : h.aa = true) (ho : 0 ≤ h.op ∧ h.op ≤ 15) (hc : 0 ≤ h.code ∧ h.code ≤ 15) : bits .or .i64 (flX h 1 : Int) 1024 = (flX h 2 : Int) := by
  have h1 := flX_or h 1 (by decide) ho hc
  have e : ((2 ^ flP 1 : Nat) : Int) = 1024 := rfl
  rw [e] at h1
  rw [h1]
  unfold flX
  simp [hb, oneB]
  try omega
theorem flX_off1 (h : Hd) (hb : h.aa = false) : (flX h 1 : Int) = (flX h 2 : Int) := by
  unfold flX
  simp [hb, oneB]
theorem flX_on2 (h : Hd) (hb : h.tc = true) (ho : 0 ≤ h.op ∧ h.op ≤ 15) (hc : 0 ≤ h.code ∧ h.code ≤ 15) : bits .or .i64 (flX h 2 : Int) 512 = (flX h 3 : Int) := by
  have h1 := flX_or h 2 (by decide) ho hc
  have e : ((2 ^ flP 2 : Nat) : Int) = 512 := rfl
  rw [e] at h1
  rw [h1]
  unfold flX
  simp [hb, oneB]
  try omega
theorem flX_off2 (h : Hd) (hb : h.tc = false) : (flX h 2 : Int) = (flX h 3 : Int) := by
  unfold flX
  simp [hb, oneB]
theorem flX_on3 (h : Hd) (hb : h.rd = true) (ho : 0 ≤ h.op ∧ h.op ≤ 15) (hc : 0 ≤ h.code ∧ h.code ≤ 15) : bits .or .i64 (flX h 3 : Int) 256 = (flX h 4 : Int) := by
  have h1 := flX_or h 3 (by decide) ho hc
  have e : ((2 ^ flP 3 : Nat) : Int) = 256 := rfl
  rw [e] at h1
  rw [h1]
  unfold flX
  simp [hb, oneB]
  try omega
theorem flX_off3 (h : Hd) (hb : h.rd = false) : (flX h 3 : Int) = (flX h 4 : Int) := by
  unfold flX
  simp [hb, oneB]
theorem flX_on4 (h : Hd) (hb : h.ra = true) (ho : 0 ≤ h.op ∧ h.op ≤ 15) (hc : 0 ≤ h.code ∧ h.code ≤ 15) : bits .or .i64 (flX h 4 : Int) 128 = (flX h 5 : Int) := by
  have h1 := flX_or h 4 (by decide) ho hc
  have e : ((2 ^ flP 4 : Nat) : Int) = 128 := rfl
  rw [e] at h1
  rw [h1]
  unfold flX
  simp [hb, oneB]
  try omega
theorem flX_off4 (h : Hd) (hb : h.ra = false) : (flX h 4 : Int) = (flX h 5 : Int) := by
  unfold flX
  simp [hb, oneB]
theorem flX_on5 (h : Hd) (hb : h.z = true) (ho : 0 ≤ h.op ∧ h.op ≤ 15) (hc : 0 ≤ h.code ∧ h.code ≤ 15) : bits .or .i64 (flX h 5 : Int) 64 = (flX h 6 : Int) := by
  have h1 := flX_or h 5 (by decide) ho hc
  have e : ((2 ^ flP 5 : Nat) : Int) = 64 := rfl
  rw [e] at h1
  rw [h1]
  unfold flX
  simp [hb, oneB]
  try omega
theorem flX_off5 (h : Hd) (hb : h.z = false) : (flX h 5 : Int) = (flX h 6 : Int) := by
  unfold flX
  simp [hb, oneB]
theorem flX_on6 (h : Hd) (hb : h.ad = true) (ho : 0 ≤ h.op ∧ h.op ≤ 15) (hc : 0 ≤ h.code ∧ h.code ≤ 15) : bits .or .i64 (flX h 6 : Int) 32 = (flX h 7 : Int) := by
  have h1 := flX_or h 6 (by decide) ho hc
  have e : ((2 ^ flP 6 : Nat) : Int) = 32 := rfl
  rw [e] at h1
  rw [h1]
  unfold flX
  simp [hb, oneB]
  try omega
theorem flX_off6 (h : Hd) (hb : h.ad = false) : (flX h 6 : Int) = (flX h 7 : Int) := by
  unfold flX
  simp [hb, oneB]

theorem flX_seven (h : Hd) : flX h 7 = h.op.toNat * 2048 + h.code.toNat + oneB h.an 32768 + oneB h.aa 1024 + oneB h.tc 512 + oneB h.rd 256 + oneB h.ra 128 + oneB h.z 64 + oneB h.ad 32 := by
  unfold flX
  simp

theorem flX_cd (h : Hd) (ho : 0 ≤ h.op ∧ h.op ≤ 15) (hc : 0 ≤ h.code ∧ h.code ≤ 15) : bits .or .i64 (flX h 7 : Int) 16 = (flX h 7 : Int) + 16 := by
  have h1 : h.op.toNat ≤ 15 := by omega
  have h2 : h.code.toNat ≤ 15 := by omega
  rw [flX_seven]
  simp only [oneB_eq]
  generalize h.op.toNat = x at *
  generalize h.code.toNat = y at *
  have b1 := Bool.toNat_le h.an
  have b2 := Bool.toNat_le h.aa
  have b3 := Bool.toNat_le h.tc
  have b4 := Bool.toNat_le h.rd
  have b5 := Bool.toNat_le h.ra
  have b6 := Bool.toNat_le h.z
  have b7 := Bool.toNat_le h.ad
  generalize h.an.toNat = v1 at *
  generalize h.aa.toNat = v2 at *
  generalize h.tc.toNat = v3 at *
  generalize h.rd.toNat = v4 at *
  generalize h.ra.toNat = v5 at *
  generalize h.z.toNat = v6 at *
  generalize h.ad.toNat = v7 at *
  exact or_bitI 4 (x * 64 + v1 * 1024 + v2 * 32 + v3 * 16 + v4 * 8 + v5 * 4 + v6 * 2 + v7) y (by simp; omega) (by decide) (by simp; omega) (by simp; omega)

theorem hdL_hi (h : Hd) (ho : 0 ≤ h.op ∧ h.op ≤ 15) (hc : 0 ≤ h.code ∧ h.code ≤ 15) (X : Int) (hX : X = (flX h 7 : Int) + (oneB h.cd 16 : Nat)) :
    Value.int .u8 (X / 256 % 256) = u8V (byt (oneB h.an 128 + h.op.toNat * 8 + oneB h.aa 4 + oneB h.tc 2 + oneB h.rd 1)) ∧ Value.int .u8 (X % 256) = u8V (byt (oneB h.ra 128 + oneB h.z 64 + oneB h.ad 32 + oneB h.cd 16 + h.code.toNat)) := by
  subst hX
  have h1 : h.op.toNat ≤ 15 := by omega
  have h2 : h.code.toNat ≤ 15 := by omega
  rw [flX_seven]
  simp only [oneB_eq]
  generalize h.op.toNat = x at *
  generalize h.code.toNat = y at *
  have b1 := Bool.toNat_le h.an
  have b2 := Bool.toNat_le h.aa
  have b3 := Bool.toNat_le h.tc
  have b4 := Bool.toNat_le h.rd
  have b5 := Bool.toNat_le h.ra
  have b6 := Bool.toNat_le h.z
  have b7 := Bool.toNat_le h.ad
  have b8 := Bool.toNat_le h.cd
  generalize h.an.toNat = v1 at *
  generalize h.aa.toNat = v2 at *
  generalize h.tc.toNat = v3 at *
  generalize h.rd.toNat = v4 at *
  generalize h.ra.toNat = v5 at *
  generalize h.z.toNat = v6 at *
  generalize h.ad.toNat = v7 at *
  generalize h.cd.toNat = v8 at *
  unfold u8V
  constructor
  · congr 1
    rw [byt_nat (by omega)]
    omega
  · congr 1
    rw [byt_nat (by omega)]
    omega

theorem byt_lo {x : Int} (h0 : 0 ≤ x) : Value.int .u8 (x % 256) = u8V (byt (x.toNat % 256)) := by
  unfold u8V
  congr 1
  rw [byt_nat (by omega)]
  omega

/-- a step of the flags -/
def FlStep (b : Bool) (x y : Nat) (p : Int) : Prop := (b = true → bits .or .i64 (x : Int) p = (y : Int)) ∧ (b = false → x = y)

/-- all that the walk asks of the flags -/
def HeadLaw (h : Hd) (Y : Nat → Nat) (L : List UInt8) : Prop :=
  bits .or .i64 (h.op * 2048) h.code = (Y 0 : Int) ∧ FlStep h.an (Y 0) (Y 1) 32768 ∧ FlStep h.aa (Y 1) (Y 2) 1024 ∧ FlStep h.tc (Y 2) (Y 3) 512 ∧ FlStep h.rd (Y 3) (Y 4) 256 ∧ FlStep h.ra (Y 4) (Y 5) 128 ∧ FlStep h.z (Y 5) (Y 6) 64 ∧ FlStep h.ad (Y 6) (Y 7) 32 ∧
    ∃ b0 b1 b2 b3, L = [b0, b1, b2, b3] ∧ Value.int .u8 (h.id / 256) = u8V b0 ∧ Value.int .u8 (h.id % 256) = u8V b1 ∧
      (h.cd = true → Value.int .u8 (bits .or .i64 (Y 7 : Int) 16 / 256 % 256) = u8V b2 ∧ Value.int .u8 (bits .or .i64 (Y 7 : Int) 16 % 256) = u8V b3) ∧
      (h.cd = false → Value.int .u8 ((Y 7 : Int) / 256 % 256) = u8V b2 ∧ Value.int .u8 ((Y 7 : Int) % 256) = u8V b3)

theorem headLaw (h : Hd) (hi : 0 ≤ h.id ∧ h.id ≤ 65535) (ho : 0 ≤ h.op ∧ h.op ≤ 15) (hc : 0 ≤ h.code ∧ h.code ≤ 15) : HeadLaw h (flX h) (hdL h) := by
  refine ⟨?_, ⟨fun hb => flX_on0 h hb ho hc, fun hb => Int.ofNat.inj (flX_off0 h hb)⟩, ⟨fun hb => flX_on1 h hb ho hc, fun hb => Int.ofNat.inj (flX_off1 h hb)⟩, ⟨fun hb => flX_on2 h hb ho hc, fun hb => Int.ofNat.inj (flX_off2 h hb)⟩, ⟨fun hb => flX_on3 h hb ho hc, fun hb => Int.ofNat.inj (flX_off3 h hb)⟩, ⟨fun hb => flX_on4 h hb ho hc, fun hb => Int.ofNat.inj (flX_off4 h hb)⟩, ⟨fun hb => flX_on5 h hb ho hc, fun hb => Int.ofNat.inj (flX_off5 h hb)⟩, ⟨fun hb => flX_on6 h hb ho hc, fun hb => Int.ofNat.inj (flX_off6 h hb)⟩, ?_⟩
  · have e1 : h.op * 2048 = ((h.op.toNat * 2 ^ 11 : Nat) : Int) := by omega
    have e2 : h.code = ((h.code.toNat : Nat) : Int) := by omega
    have e3 : flX h 0 = h.op.toNat * 2 ^ 11 + h.code.toNat := by unfold flX; simp
    have b1 : h.op.toNat ≤ 15 := by omega
    have b2 : h.code.toNat < 2 ^ 11 := by omega
    have b3 : h.code.toNat < 2 ^ 62 := by omega
    have b4 : h.op.toNat * 2 ^ 11 < 2 ^ 62 := by omega
    rw [e1, e2, (bits_nat .i64 62 (by decide) wraps_i64 _ _ b4 b3).2, e3, Nat.mul_comm, Nat.two_pow_add_eq_or_of_lt b2]
  · refine ⟨_, _, _, _, rfl, u8_div hi.1 hi.2, byt_lo hi.1, fun hb => ?_, fun hb => ?_⟩
    · rw [flX_cd h ho hc]
      exact hdL_hi h ho hc _ (by simp [hb, oneB])
    · exact hdL_hi h ho hc _ (by simp [hb, oneB])

/-- what head.Write leaves -/
def HeadX (w : World) (h : Hd) (e : Ending) (w' : World) : Prop :=
  (hdOkB h ∧ (∃ v, e = .returned (.tuple #[v, .nilIface]) ∧ OwnB w' w.heap.size v (hdL h)) ∨
    ¬ hdOkB h ∧ e = .returned (.tuple #[.slice none 0 0, .iface 52 (.int .i64 6)])) ∧ Fr [] w w'

set_option maxHeartbeats 8000000 in
set_option maxRecDepth 100000 in
theorem headWriteX_any (w : World) (h : Hd) (hw : h.Wf) : Calls Try.prog 11 #[hdV h] w (HeadX w h) := by
  have HOK := Lib.hid (show hdOkB h ↔ (0 ≤ h.id ∧ h.id ≤ 65535 ∧ 0 ≤ h.op ∧ h.op ≤ 15 ∧ 0 ≤ h.code ∧ h.code ≤ 15) from by unfold hdOkB wordB; omega)
  have HX := Lib.hid (show (0 ≤ h.id ∧ h.id ≤ 65535) → (0 ≤ h.op ∧ h.op ≤ 15) → (0 ≤ h.code ∧ h.code ≤ 15) → HeadLaw h (flX h) (hdL h) from headLaw h)
  obtain ⟨hw1, hw2, hw3⟩ := hw
  unfold HeadX hdV
  generalize hdOkB h = OK at *
  generalize hdL h = HL at *
  generalize flX h = Y at *
  obtain ⟨id, an, op, aa, tc, rd, ra, z, ad, cd, code⟩ := h
  simp only at HOK hw1 hw2 hw3
  go_enter Try.func11, Try.ntmps11
  by_cases hok : 0 ≤ id ∧ id ≤ 65535 ∧ 0 ≤ op ∧ op ≤ 15 ∧ 0 ≤ code ∧ code ≤ 15
  · have HO := Lib.hid (HOK.out.2 hok)
    obtain ⟨k1, k2, k3, k4, k5, k6⟩ := hok
    have d1 : decide (id < 0) = false := by simpa using k1
    have d2 : decide (65535 < id) = false := by simpa using k2
    have d3 : decide (op < 0) = false := by simpa using k3
    have d4 : decide (15 < op) = false := by simpa using k4
    have d5 : decide (code < 0) = false := by simpa using k5
    have d6 : decide (15 < code) = false := by simpa using k6
    have HF0 := Lib.hid (show Fr [] w (w.alloc (.cells #[.int .i64 id, .bool an, .int .i64 op, .bool aa, .bool tc, .bool rd, .bool ra, .bool z, .bool ad, .bool cd, .int .i64 code] 33)) from (Fr.refl [] w).alloc _)
    have HB0 := Lib.hid (heap_alloc_new w (.cells #[.int .i64 id, .bool an, .int .i64 op, .bool aa, .bool tc, .bool rd, .bool ra, .bool z, .bool ad, .bool cd, .int .i64 code] 33))
    go_wp2_with fail
    generalize w.alloc (.cells #[.int .i64 id, .bool an, .int .i64 op, .bool aa, .bool tc, .bool rd, .bool ra, .bool z, .bool ad, .bool cd, .int .i64 code] 33) = w1 at *
    refine (places_any _).mono ?_
    rintro e w2 ⟨rfl, hf2⟩
    have HB2 := Lib.hid (hf2.blk HB0.out (by simp))
    have HF2 := Lib.hid (HF0.out.trans hf2 (by simp))
    clear HB0 HF0 hf2
    go_wp2_with fail
    obtain ⟨g0, g1, g2, g3, g4, g5, g6, g7, hB0, hB1, hB2, hB3, gL, gi0, gi1, gc1, gc0⟩ := HX.out ⟨k1, k2⟩ ⟨k3, k4⟩ ⟨k5, k6⟩
    simp only at g0 g1 g2 g3 g4 g5 g6 g7 gi0 gi1 gc1 gc0
    rw [g0]
    have G1 := Lib.hid g1
    have G2 := Lib.hid g2
    have G3 := Lib.hid g3
    have G4 := Lib.hid g4
    have G5 := Lib.hid g5
    have G6 := Lib.hid g6
    have G7 := Lib.hid g7
    have GI := Lib.hid (And.intro gi0 gi1)
    have GC1 := Lib.hid gc1
    have GC0 := Lib.hid gc0
    subst gL
    clear g0 g1 g2 g3 g4 g5 g6 g7 gi0 gi1 gc1 gc0 HX
    go_loopw [4, 43] (fun vx vi wr => ∃ (k : Nat), k ≤ 7 ∧ vi = .int .i64 k ∧ vx = .int .i64 (Y k : Nat) ∧ wr.heap[w.heap.size]? = some (.cells #[.int .i64 id, .bool an, .int .i64 op, .bool aa, .bool tc, .bool rd, .bool ra, .bool z, .bool ad, .bool cd, .int .i64 code] 33 (0, 0)) ∧ Fr [] w wr) (fun _ vi _ => 7 - (intOf vi).toNat)
    case atStart => exact ⟨0, by omega, rfl, rfl, HB2.out, HF2.out⟩
    case round =>
      clear HB2 HF2
      obtain ⟨k, hk, rfl, rfl, hb, hf⟩ := hrel
      have HB := Lib.hid hb
      have HF := Lib.hid hf
      clear hb hf
      by_cases h7 : k = 7
      · subst h7
        have c0 := blk_cell HB.out 0 (v := .int .i64 id) rfl
        have c9 := blk_cell HB.out 9 (v := .bool cd) rfl
        cases cd with
        | true =>
          go_wp2
          have ho := own4 (w := wr) HF.out.size GI.out.1 GI.out.2 (GC1.out (by trivial)).1 (GC1.out (by trivial)).2
          go_ret2
          exact ⟨.inl ⟨HO.out, _, rfl, ho⟩, HF.out.alloc _⟩
        | false =>
          go_wp2
          have ho := own4 (w := wr) HF.out.size GI.out.1 GI.out.2 (GC0.out (by trivial)).1 (GC0.out (by trivial)).2
          go_ret2
          exact ⟨.inl ⟨HO.out, _, rfl, ho⟩, HF.out.alloc _⟩
      · have hk6 : k = 0 ∨ k = 1 ∨ k = 2 ∨ k = 3 ∨ k = 4 ∨ k = 5 ∨ k = 6 := by omega
        have HFL := Lib.hid (fun (wx : World) => flags_any wx w.heap.size)
        rcases hk6 with rfl | rfl | rfl | rfl | rfl | rfl | rfl
        · have i1 := ix_pl0
          have i2 := ix_fl0 w.heap.size
          go_wp2_with fail
          refine (HFL.out _).mono ?_
          rintro e w3 ⟨rfl, hf3⟩
          have HB3 := Lib.hid (hf3.blk HB.out (by simp))
          have HF3 := Lib.hid (HF.out.trans hf3 (by simp))
          clear HB HF hf3 HFL
          have c1 := blk_cell HB3.out 1 rfl
          cases an with
          | true =>
            have e0 := G1.out.1 rfl
            go_wp2
            try rw [e0]
            go_roundw
            case rel => exact ⟨1, by omega, by go_num, rfl, HB3.out, HF3.out⟩
            case measure => (simp [intOf] <;> omega)
          | false =>
            have e0 := G1.out.2 rfl
            go_wp2
            try rw [e0]
            go_roundw
            case rel => exact ⟨1, by omega, by go_num, rfl, HB3.out, HF3.out⟩
            case measure => (simp [intOf] <;> omega)
        · have i1 := ix_pl1
          have i2 := ix_fl1 w.heap.size
          go_wp2_with fail
          refine (HFL.out _).mono ?_
          rintro e w3 ⟨rfl, hf3⟩
          have HB3 := Lib.hid (hf3.blk HB.out (by simp))
          have HF3 := Lib.hid (HF.out.trans hf3 (by simp))
          clear HB HF hf3 HFL
          have c1 := blk_cell HB3.out 3 rfl
          cases aa with
          | true =>
            have e1 := G2.out.1 rfl
            go_wp2
            try rw [e1]
            go_roundw
            case rel => exact ⟨2, by omega, by go_num, rfl, HB3.out, HF3.out⟩
            case measure => (simp [intOf] <;> omega)
          | false =>
            have e1 := G2.out.2 rfl
            go_wp2
            try rw [e1]
            go_roundw
            case rel => exact ⟨2, by omega, by go_num, rfl, HB3.out, HF3.out⟩
            case measure => (simp [intOf] <;> omega)
        · have i1 := ix_pl2
          have i2 := ix_fl2 w.heap.size
          go_wp2_with fail
          refine (HFL.out _).mono ?_
          rintro e w3 ⟨rfl, hf3⟩
          have HB3 := Lib.hid (hf3.blk HB.out (by simp))
          have HF3 := Lib.hid (HF.out.trans hf3 (by simp))
          clear HB HF hf3 HFL
          have c1 := blk_cell HB3.out 4 rfl
          cases tc with
          | true =>
            have e2 := G3.out.1 rfl
            go_wp2
            try rw [e2]
            go_roundw
            case rel => exact ⟨3, by omega, by go_num, rfl, HB3.out, HF3.out⟩
            case measure => (simp [intOf] <;> omega)
          | false =>
            have e2 := G3.out.2 rfl
            go_wp2
            try rw [e2]
            go_roundw
            case rel => exact ⟨3, by omega, by go_num, rfl, HB3.out, HF3.out⟩
            case measure => (simp [intOf] <;> omega)
        · have i1 := ix_pl3
          have i2 := ix_fl3 w.heap.size
          go_wp2_with fail
          refine (HFL.out _).mono ?_
          rintro e w3 ⟨rfl, hf3⟩
          have HB3 := Lib.hid (hf3.blk HB.out (by simp))
          have HF3 := Lib.hid (HF.out.trans hf3 (by simp))
          clear HB HF hf3 HFL
          have c1 := blk_cell HB3.out 5 rfl
          cases rd with
          | true =>
            have e3 := G4.out.1 rfl
            go_wp2
            try rw [e3]
            go_roundw
            case rel => exact ⟨4, by omega, by go_num, rfl, HB3.out, HF3.out⟩
            case measure => (simp [intOf] <;> omega)
          | false =>
            have e3 := G4.out.2 rfl
            go_wp2
            try rw [e3]
            go_roundw
            case rel => exact ⟨4, by omega, by go_num, rfl, HB3.out, HF3.out⟩
            case measure => (simp [intOf] <;> omega)
        · have i1 := ix_pl4
          have i2 := ix_fl4 w.heap.size
          go_wp2_with fail
          refine (HFL.out _).mono ?_
          rintro e w3 ⟨rfl, hf3⟩
          have HB3 := Lib.hid (hf3.blk HB.out (by simp))
          have HF3 := Lib.hid (HF.out.trans hf3 (by simp))
          clear HB HF hf3 HFL
          have c1 := blk_cell HB3.out 6 rfl
          cases ra with
          | true =>
            have e4 := G5.out.1 rfl
            go_wp2
            try rw [e4]
            go_roundw
            case rel => exact ⟨5, by omega, by go_num, rfl, HB3.out, HF3.out⟩
            case measure => (simp [intOf] <;> omega)
          | false =>
            have e4 := G5.out.2 rfl
            go_wp2
            try rw [e4]
            go_roundw
            case rel => exact ⟨5, by omega, by go_num, rfl, HB3.out, HF3.out⟩
            case measure => (simp [intOf] <;> omega)
        · have i1 := ix_pl5
          have i2 := ix_fl5 w.heap.size
          go_wp2_with fail
          refine (HFL.out _).mono ?_
          rintro e w3 ⟨rfl, hf3⟩
          have HB3 := Lib.hid (hf3.blk HB.out (by simp))
          have HF3 := Lib.hid (HF.out.trans hf3 (by simp))
          clear HB HF hf3 HFL
          have c1 := blk_cell HB3.out 7 rfl
          cases z with
          | true =>
            have e5 := G6.out.1 rfl
            go_wp2
            try rw [e5]
            go_roundw
            case rel => exact ⟨6, by omega, by go_num, rfl, HB3.out, HF3.out⟩
            case measure => (simp [intOf] <;> omega)
          | false =>
            have e5 := G6.out.2 rfl
            go_wp2
            try rw [e5]
            go_roundw
            case rel => exact ⟨6, by omega, by go_num, rfl, HB3.out, HF3.out⟩
            case measure => (simp [intOf] <;> omega)
        · have i1 := ix_pl6
          have i2 := ix_fl6 w.heap.size
          go_wp2_with fail
          refine (HFL.out _).mono ?_
          rintro e w3 ⟨rfl, hf3⟩
          have HB3 := Lib.hid (hf3.blk HB.out (by simp))
          have HF3 := Lib.hid (HF.out.trans hf3 (by simp))
          clear HB HF hf3 HFL
          have c1 := blk_cell HB3.out 8 rfl
          cases ad with
          | true =>
            have e6 := G7.out.1 rfl
            go_wp2
            try rw [e6]
            go_roundw
            case rel => exact ⟨7, by omega, by go_num, rfl, HB3.out, HF3.out⟩
            case measure => (simp [intOf] <;> omega)
          | false =>
            have e6 := G7.out.2 rfl
            go_wp2
            try rw [e6]
            go_roundw
            case rel => exact ⟨7, by omega, by go_num, rfl, HB3.out, HF3.out⟩
            case measure => (simp [intOf] <;> omega)
  · have HO := Lib.hid (fun h => hok (HOK.out.1 h))
    have HNO := Lib.hid hok
    clear hok
    by_cases k1 : 0 ≤ id
    case neg =>
      have d1 : decide (id < 0) = true := by simpa using k1
      clear k1
      go_wp2
      go_ret2
      exact ⟨.inr ⟨HO.out, rfl⟩, (Fr.refl [] w).alloc _⟩
    have d1 : decide (id < 0) = false := by simpa using k1
    by_cases k2 : id ≤ 65535
    case neg =>
      have d2 : decide (65535 < id) = true := by simpa using k2
      clear k2
      go_wp2
      go_ret2
      exact ⟨.inr ⟨HO.out, rfl⟩, (Fr.refl [] w).alloc _⟩
    have d2 : decide (65535 < id) = false := by simpa using k2
    by_cases k3 : 0 ≤ op
    case neg =>
      have d3 : decide (op < 0) = true := by simpa using k3
      clear k3
      go_wp2
      go_ret2
      exact ⟨.inr ⟨HO.out, rfl⟩, (Fr.refl [] w).alloc _⟩
    have d3 : decide (op < 0) = false := by simpa using k3
    by_cases k4 : op ≤ 15
    case neg =>
      have d4 : decide (15 < op) = true := by simpa using k4
      clear k4
      go_wp2
      go_ret2
      exact ⟨.inr ⟨HO.out, rfl⟩, (Fr.refl [] w).alloc _⟩
    have d4 : decide (15 < op) = false := by simpa using k4
    by_cases k5 : 0 ≤ code
    case neg =>
      have d5 : decide (code < 0) = true := by simpa using k5
      clear k5
      go_wp2
      go_ret2
      exact ⟨.inr ⟨HO.out, rfl⟩, (Fr.refl [] w).alloc _⟩
    have d5 : decide (code < 0) = false := by simpa using k5
    have d6 : decide (15 < code) = true := by
      have := HNO.out
      simp
      omega
    go_wp2
    go_ret2
    exact ⟨.inr ⟨HO.out, rfl⟩, (Fr.refl [] w).alloc _⟩

end Go.Proofs.Ytkdmkpdooiacaaa
