/- What the texts below need: RdName, Fixed. -/
import Derived.Test.YtkdmkpdooiacaaaZLabels
namespace Go.Proofs.Ytkdmkpdooiacaaa
open Go.RowKit

/-- bytes of a list -/
def bytV (L : List UInt8) (j : Nat) : Value := u8V (L.getD j 0)

/-- what Read leaves -/
def RdNGood (w w' : World) (r : Except Int (List ByteArray × Nat)) (e : Ending) : Prop :=
  ((∃ z, r = .error z ∧ z ≠ 0 ∧ e = .returned (.tuple #[.slice none 0 0, .int .i64 0, .iface 52 (.int .i64 z)])) ∨
    ∃ ls n a c, r = .ok (ls, n) ∧ e = .returned (.tuple #[.slice a ls.length c, .int .i64 (n : Nat), .nilIface]) ∧ OwnF w' w.heap.size 9 (.slice a ls.length c) ls.length (strV ls)) ∧ Fr [] w w'

set_option maxHeartbeats 4000000 in
set_option maxRecDepth 100000 in
theorem readN_any (w : World) (a : Option Addr) (c : Nat) (L : List UInt8) (i : Nat) (hv : RdF w (.slice a L.length c) L.length (bytV L)) (hl : L.length ≤ 140737488355328) :
    Calls Try.prog 18 #[.slice a L.length c, .int .i64 i] w fun e w' => RdNGood w w' (rdNm L i i 1) e := by
  have hcc := hv.le_cap
  by_cases hlt : i < L.length
  · obtain ⟨b, o, c', he, _, _, hb, hc⟩ := hv.shape (by omega)
    simp only [Value.slice.injEq, true_and] at he
    obtain ⟨rfl, rfl⟩ := he
    have HW1 := Lib.hid ((Fr.refl [] w).alloc (.cells #[.slice (some ⟨b, o, none⟩) L.length c, .int .i64 i, .int .i64 i, .int .i64 0, .int .i64 0] 86))
    have HLB := Lib.hid (labels_any (w.alloc (.cells #[.slice (some ⟨b, o, none⟩) L.length c, .int .i64 i, .int .i64 i, .int .i64 0, .int .i64 0] 86)) w.heap.size b o c L i (heap_alloc_new w _) hlt hcc.1 hcc.2 (by omega) hl
      (fun j hj => HW1.out.cell (hc j hj) (by simp)))
    clear hc hv
    obtain ⟨R, hR⟩ : ∃ R, rdNm L i i 1 = R := ⟨_, rfl⟩
    rw [hR] at HLB ⊢
    clear hR
    obtain ⟨len, hlen⟩ : ∃ n, L.length = n := ⟨_, rfl⟩
    rw [hlen] at HW1 HLB hcc hl hlt ⊢
    clear hlen
    have k0 : ¬ (i : Int) < 0 := by omega
    have k1 : ¬ (len : Int) ≤ (i : Int) := by omega
    clear hb hcc
    go_enter Try.func18, Try.ntmps18
    go_wp2_with fail
    generalize w.alloc (.cells #[.slice (some ⟨b, o, none⟩) len c, .int .i64 i, .int .i64 i, .int .i64 0, .int .i64 0] 86) = w1 at *
    refine HLB.out.mono ?_
    rintro e w2 ⟨h2, hf2⟩
    have HF2 := Lib.hid (show Fr [] w w2 from HW1.out.trans hf2 (by simp))
    rcases h2 with ⟨z, hz, hz0, rfl⟩ | ⟨ls, n, i', low, sz, u, hr, rfl, ho, hp⟩
    · have HZ := Lib.hid (And.intro hz hz0)
      clear hz hz0 hf2
      go_wp2
      refine bodyPost_ret (v := .tuple #[.slice none 0 0, .int .i64 0, .iface 52 (.int .i64 z)]) (by simp [results, Try.results18, go_sem]) rfl ?_
      exact ⟨.inl ⟨z, HZ.out.1, HZ.out.2, rfl⟩, HF2.out⟩
    · have HR := Lib.hid hr
      have c3 := blk_cell hp 3 (v := .int .i64 n) rfl
      have HO := Lib.hid (OwnF.mono ho HW1.out.size)
      obtain ⟨ua, uc, rfl⟩ := HO.out.rd.slice
      clear hr hp ho hf2
      go_wp2_with fail
      go_quiet (fail)
      go_wp2
      refine bodyPost_ret (v := .tuple #[.slice ua ls.length uc, .int .i64 n, .nilIface]) (by simp [results, Try.results18, go_sem]) rfl ?_
      exact ⟨.inr ⟨ls, n, ua, uc, HR.out, rfl, OwnF.kept HO.out ((Fr.refl [] w2).drewN _) (fun _ _ => by simp)⟩, HF2.out.drewN _⟩
  · have k0 : ¬ (i : Int) < 0 := by omega
    have k1 : (L.length : Int) ≤ (i : Int) := by omega
    have HR := Lib.hid (rdNm_out (low := i) (sz := 1) hlt)
    clear hlt hv hcc
    go_enter Try.func18, Try.ntmps18
    go_wp2
    refine bodyPost_ret (v := .tuple #[.slice none 0 0, .int .i64 0, .iface 52 (.int .i64 2)]) (by simp [results, Try.results18, go_sem]) rfl ?_
    exact ⟨.inl ⟨2, HR.out, by decide, rfl⟩, Fr.refl _ _⟩

end Go.Proofs.Ytkdmkpdooiacaaa

namespace Go.Proofs.Ytkdmkpdooiacaaa
open Go.RowKit

/-- bytes in memory -/
def BytAt (w : World) (b o : Nat) (L : List UInt8) : Prop := ∀ j, j < L.length → w.cell? ⟨b, o + j, none⟩ = some (.int .u8 (gB L j))

theorem BytAt.fr {w w' : World} {b o : Nat} {L : List UInt8} {S : List Nat} (h : BytAt w b o L) (hf : Fr S w w') (hb : b ∉ S) : BytAt w' b o L := fun j hj => hf.cell (h j hj) hb

theorem BytAt.rd {w : World} {b o c : Nat} {L : List UInt8} (h : BytAt w b o L) (hc : L.length ≤ c) (hm : c ≤ maxLen) : RdF w (.slice (some ⟨b, o, none⟩) L.length c) L.length (bytV L) :=
  .inr ⟨_, c, rfl, hc, hm, fun j hj => by
    have ea : (⟨b, o, none⟩ : Addr).add j = ⟨b, o + j, none⟩ := by unfold Addr.add; split <;> simp_all
    rw [ea]
    exact h j hj⟩

theorem BytAt.of {w : World} {a : Option Addr} {c : Nat} {L : List UInt8} (h : RdF w (.slice a L.length c) L.length (bytV L)) (hn : 0 < L.length) : ∃ b o, a = some ⟨b, o, none⟩ ∧ b < w.heap.size ∧ BytAt w b o L := by
  obtain ⟨b, o, c', he, _, _, hb, hc⟩ := h.shape hn
  simp only [Value.slice.injEq, true_and] at he
  obtain ⟨rfl, rfl⟩ := he
  exact ⟨b, o, rfl, hb, hc⟩

set_option maxHeartbeats 1000000 in
theorem rrTwo_any (w : World) (b o n c : Nat) (x y : Nat) (hn : 2 ≤ n) (hx : x < 256) (hy : y < 256) (h0 : w.cell? ⟨b, o, none⟩ = some (.int .u8 x)) (h1 : w.cell? ⟨b, o + 1, none⟩ = some (.int .u8 y)) :
    Calls Try.prog 28 #[.slice (some ⟨b, o, none⟩) n c] w fun e w' => e = .returned (.int .i64 ((x * 256 + y : Nat) : Int)) ∧ ∃ q, w' = w.drewN q := by
  have hor := or_two (x := (x : Int)) (y := (y : Int)) (by omega) (by omega) (by omega) (by omega)
  have l1 : (0 : Int) < (n : Int) := by omega
  have l2 : (1 : Int) < (n : Int) := by omega
  have l3 : (x : Int) ≤ 255 := by omega
  go_enter Try.func28, Try.ntmps28
  go_wp2_with fail
  go_quiet (fail)
  go_wp2
  go_ret
  exact ⟨by rw [show (((x * 256 + y : Nat)) : Int) = (x : Int) * 256 + (y : Int) by omega]; rfl, nq, rfl⟩

/-- where a record's parts lie: its name, the place behind it, the end -/
def rdFix (L : List UInt8) (i : Nat) : Except Int (List ByteArray × Nat × Nat) :=
  match rdNm L i i 1 with
  | .error e => .error e
  | .ok (ls, p) =>
    if L.length < p + 10 then .error 2
    else if L.length < p + 10 + pr L (p + 8) then .error 2
    else .ok (ls, p, p + 10 + pr L (p + 8))

/-- what fixed leaves -/
def FixGood (w w' : World) (r : Except Int (List ByteArray × Nat × Nat)) (e : Ending) : Prop :=
  ((∃ z, r = .error z ∧ z ≠ 0 ∧ e = .returned (.tuple #[.slice none 0 0, .int .i64 0, .int .i64 0, .iface 52 (.int .i64 z)])) ∨
    ∃ ls p n a c, r = .ok (ls, p, n) ∧ e = .returned (.tuple #[.slice a ls.length c, .int .i64 (p : Nat), .int .i64 (n : Nat), .nilIface]) ∧ OwnF w' w.heap.size 9 (.slice a ls.length c) ls.length (strV ls)) ∧ Fr [] w w'

set_option maxHeartbeats 4000000 in
set_option maxRecDepth 100000 in
theorem fixed_any (w : World) (a : Option Addr) (c : Nat) (L : List UInt8) (i : Nat) (hv : RdF w (.slice a L.length c) L.length (bytV L)) (hl : L.length ≤ 140737488355328) :
    Calls Try.prog 27 #[.slice a L.length c, .int .i64 i] w fun e w' => FixGood w w' (rdFix L i) e := by
  have HN := Lib.hid (readN_any w a c L i hv hl)
  have HV := Lib.hid hv
  have HFX := Lib.hid (show rdFix L i = match rdNm L i i 1 with
    | .error e => .error e
    | .ok (ls, p) =>
      if L.length < p + 10 then .error 2
      else if L.length < p + 10 + pr L (p + 8) then .error 2
      else .ok (ls, p, p + 10 + pr L (p + 8)) from rfl)
  have HBD := Lib.hid (fun x (h : rdNm L i i 1 = .ok x) => rdNm_bd h)
  generalize rdFix L i = R at *
  generalize rdNm L i i 1 = N at *
  clear hv
  go_enter Try.func27, Try.ntmps27
  go_wp2_with fail
  refine HN.out.mono ?_
  rintro e w2 ⟨h2, hf2⟩
  have HF2 := Lib.hid hf2
  rcases h2 with ⟨z, rfl, hz0, rfl⟩ | ⟨ls, p, ua, uc, rfl, rfl, ho⟩
  · have HZ := Lib.hid hz0
    clear hz0 hf2
    go_wp2
    refine bodyPost_ret (v := .tuple #[.slice none 0 0, .int .i64 0, .int .i64 0, .iface 52 (.int .i64 z)]) (by simp [results, Try.results27, go_sem]) rfl ?_
    exact ⟨.inl ⟨z, HFX.out, HZ.out, rfl⟩, HF2.out⟩
  · have HO := Lib.hid ho
    obtain ⟨h1, h2, _⟩ := HBD.out _ rfl
    simp only [] at h1 h2
    clear ho hf2 HBD HN
    have hfx := HFX.out
    simp only [] at hfx
    by_cases h10 : L.length < p + 10
    · rw [if_pos h10] at hfx
      have HR := Lib.hid hfx
      have k0 : (L.length : Int) - (p : Int) < 10 := by omega
      clear hfx HFX h10
      go_wp2
      refine bodyPost_ret (v := .tuple #[.slice none 0 0, .int .i64 0, .int .i64 0, .iface 52 (.int .i64 2)]) (by simp [results, Try.results27, go_sem]) rfl ?_
      exact ⟨.inl ⟨2, HR.out, by decide, rfl⟩, HF2.out⟩
    rw [if_neg h10] at hfx
    have k0 : ¬ (L.length : Int) - (p : Int) < 10 := by omega
    obtain ⟨b, o, rfl, _, hb⟩ := BytAt.of HV.out (by omega)
    have hcc := HV.out.le_cap
    unfold maxLen at hcc
    have HB := Lib.hid (hb.fr HF2.out (by simp))
    have HT := Lib.hid (rrTwo_any w2 b (o + (p + 8)) (L.length - (p + 8)) (c - (p + 8)) (gB L (p + 8)) (gB L (p + 8 + 1)) (by omega) (gB_lt _ _) (gB_lt _ _) (HB.out (p + 8) (by omega)) (by have := HB.out (p + 8 + 1) (by omega); rwa [← Nat.add_assoc] at this))
    have HPR := Lib.hid (show gB L (p + 8) * 256 + gB L (p + 8 + 1) = pr L (p + 8) from rfl)
    rw [HPR.out] at HT
    have hpr := pr_lt L (p + 8)
    have HPL := Lib.hid hpr
    generalize pr L (p + 8) = m at *
    generalize hlen : L.length = len at *
    have HLEN := Lib.hid hlen
    clear hlen HFX hb h10
    have k1 : (p : Int) + 8 ≤ (c : Int) := by omega
    have k2 : (0 : Int) ≤ (p : Int) + 8 := by omega
    have k3 : ¬ c = p + 8 := by omega
    have k4 : (p : Int) + 8 ≤ (len : Int) := by omega
    by_cases hm : len < p + 10 + m
    · rw [if_pos hm] at hfx
      have HR := Lib.hid hfx
      have k5 : (len : Int) < (p : Int) + 10 + (m : Int) := by omega
      clear hfx hm
      go_wp2_with fail
      refine HT.out.mono ?_
      rintro e w3 ⟨rfl, q3, rfl⟩
      go_wp2
      refine bodyPost_ret (v := .tuple #[.slice none 0 0, .int .i64 0, .int .i64 0, .iface 52 (.int .i64 2)]) (by simp [results, Try.results27, go_sem]) rfl ?_
      exact ⟨.inl ⟨2, HR.out, by decide, rfl⟩, HF2.out.drewN _⟩
    · rw [if_neg hm] at hfx
      have HR := Lib.hid hfx
      have k5 : ¬ (len : Int) < (p : Int) + 10 + (m : Int) := by omega
      clear hfx hm
      go_wp2_with fail
      refine HT.out.mono ?_
      rintro e w3 ⟨rfl, q3, rfl⟩
      go_wp2
      refine bodyPost_ret (v := .tuple #[.slice ua ls.length uc, .int .i64 p, .int .i64 ((p : Int) + 10 + m), .nilIface]) (by simp [results, Try.results27, go_sem]) rfl ?_
      exact ⟨.inr ⟨ls, p, p + 10 + m, ua, uc, HR.out, by rw [show (((p + 10 + m : Nat)) : Int) = (p : Int) + 10 + (m : Int) by omega], OwnF.kept HO.out ((Fr.refl [] w2).drewN _) (fun _ _ => by simp)⟩, HF2.out.drewN _⟩

end Go.Proofs.Ytkdmkpdooiacaaa
