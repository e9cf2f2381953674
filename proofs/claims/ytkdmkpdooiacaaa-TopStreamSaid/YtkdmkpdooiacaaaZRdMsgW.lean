/- msg.Read: the message of bytes. -/
import Derived.Test.YtkdmkpdooiacaaaZbase5
namespace Go.Proofs.Ytkdmkpdooiacaaa
open Go.RowKit

def zMs : Array Value := #[.int .i64 0, .bool false, .int .i64 0, .bool false, .bool false, .bool false, .bool false, .bool false, .bool false, .bool false, .int .i64 0, .slice none 0 0, .slice none 0 0, .slice none 0 0, .slice none 0 0]

theorem zMs_one : zMs.all (·.oneCell') = true := by
  unfold zMs
  simp [Value.oneCell']

theorem zMs_info : (Try.prog.info? 37).map (·.size) = some zMs.size := by kernel_rfl

/-- what Read leaves -/
def RdMGood (w w' : World) (r : Except Int Mc) (e : Ending) : Prop :=
  ((∃ z, r = .error z ∧ z ≠ 0 ∧ e = .returned (.tuple #[.agg zMs, .iface 52 (.int .i64 z)])) ∨
    ∃ m vq va vu vm, r = .ok m ∧ e = .returned (.tuple #[msgV m.h vq va vu vm, .nilIface]) ∧ QsAll w' w.heap.size vq m.qs ∧ RsAll w' w.heap.size va m.an ∧ RsAll w' w.heap.size vu m.un ∧ RsAll w' w.heap.size vm m.mn) ∧ Fr [] w w'

theorem two_newM (w : World) (x y : Obj) : ((w.alloc x).alloc y).heap[w.heap.size]? = some x ∧ ((w.alloc x).alloc y).heap[w.heap.size + 1]? = some y ∧ Fr [] w ((w.alloc x).alloc y) := by
  have s1 : (w.alloc x).heap.size = w.heap.size + 1 := by simp
  refine ⟨((Fr.refl [] _).alloc y).blk (heap_alloc_new w x) (by simp), ?_, ((Fr.refl [] w).alloc x).alloc y⟩
  rw [← s1]
  exact heap_alloc_new _ y

set_option maxHeartbeats 8000000 in
set_option maxRecDepth 100000 in
theorem readM_any (w : World) (a : Option Addr) (c : Nat) (L : List UInt8) (hv : RdF w (.slice a L.length c) L.length (bytV L)) (hl : L.length ≤ 140737488355328) :
    Calls Try.prog 9 #[.slice a L.length c] w fun e w' => RdMGood w w' (rdMsg L) e := by
  have HV := Lib.hid hv
  have hcc := hv.le_cap
  have HCC := Lib.hid hcc
  have HRM := Lib.hid (rdMsg_S L)
  generalize rdMsg L = R at *
  by_cases h12 : L.length < 12
  · have hrm := HRM.out
    rw [if_pos h12] at hrm
    have HR := Lib.hid hrm
    have k0 : (L.length : Int) < 12 := by omega
    have HB0 := Lib.hid (heap_alloc_new w (.cells zMs 37))
    have HF0 := Lib.hid ((Fr.refl [] w).alloc (.cells zMs 37))
    clear hrm HRM h12 hv hcc
    unfold zMs at HB0 HF0
    go_enter Try.func9, Try.ntmps9
    go_wp2
    have r0 := blk_cell HB0.out 0 rfl
    have r1 := blk_cell HB0.out 1 rfl
    have r2 := blk_cell HB0.out 2 rfl
    have r3 := blk_cell HB0.out 3 rfl
    have r4 := blk_cell HB0.out 4 rfl
    have r5 := blk_cell HB0.out 5 rfl
    have r6 := blk_cell HB0.out 6 rfl
    have r7 := blk_cell HB0.out 7 rfl
    have r8 := blk_cell HB0.out 8 rfl
    have r9 := blk_cell HB0.out 9 rfl
    have r10 := blk_cell HB0.out 10 rfl
    have r11 := blk_cell HB0.out 11 rfl
    have r12 := blk_cell HB0.out 12 rfl
    have r13 := blk_cell HB0.out 13 rfl
    have r14 := blk_cell HB0.out 14 rfl
    refine bodyPost_ret (v := .tuple #[.agg zMs, .iface 52 (.int .i64 2)]) (by simp [results, Try.results9, go_sem, zMs, r0, r1, r2, r3, r4, r5, r6, r7, r8, r9, r10, r11, r12, r13, r14]) rfl ?_
    exact ⟨.inl ⟨2, HR.out, by decide, rfl⟩, HF0.out⟩
  · rw [if_neg h12] at HRM
    obtain ⟨b, o, rfl, hbs, hb⟩ := BytAt.of hv (by omega)
    have HB := Lib.hid hb
    have HHD := Lib.hid (fun (wx : World) (hx : Fr [] w wx) => headRead_any wx b o c L (hb.fr hx (by simp)) (by omega) hcc.1 hcc.2)
    obtain ⟨H, hH⟩ : ∃ H, rdHd L = H := ⟨_, rfl⟩
    rw [hH] at HHD
    have HHH := Lib.hid hH
    have k0 : ¬ (L.length : Int) < 12 := by omega
    have H12 := Lib.hid (Nat.le_of_not_lt h12)
    obtain ⟨hb0, hb1, hf1⟩ := two_newM w (.cells zMs 37) (.cells zMs 37)
    unfold zMs at hb0 hb1 hf1
    have HB0 := Lib.hid hb0
    have HB1 := Lib.hid hb1
    have HF1 := Lib.hid hf1
    clear hb0 hb1 hf1 hb hv hcc h12 hH
    obtain ⟨hid, han, hop, haa, htc, hrd, hra, hz, had, hcd, hco⟩ := H
    unfold hdV at HHD
    simp only at HHD
    obtain ⟨len, hlen⟩ : ∃ k, L.length = k := ⟨_, rfl⟩
    have HLEN := Lib.hid hlen
    rw [hlen] at HHD k0 H12 HCC hl HV ⊢
    clear hlen
    go_enter Try.func9, Try.ntmps9
    go_wp2_with fail
    generalize (w.alloc (.cells #[.int .i64 0, .bool false, .int .i64 0, .bool false, .bool false, .bool false, .bool false, .bool false, .bool false, .bool false, .int .i64 0, .slice none 0 0, .slice none 0 0, .slice none 0 0, .slice none 0 0] 37)).alloc (.cells #[.int .i64 0, .bool false, .int .i64 0, .bool false, .bool false, .bool false, .bool false, .bool false, .bool false, .bool false, .int .i64 0, .slice none 0 0, .slice none 0 0, .slice none 0 0, .slice none 0 0] 37) = W at *
    with_reducible refine (HHD.out W HF1.out).mono ?_
    rintro e w2 ⟨rfl, hf2⟩
    have HBR := Lib.hid (hf2.blk HB0.out (by simp))
    have HBM := Lib.hid (hf2.blk HB1.out (by simp))
    have HF2 := Lib.hid (HF1.out.trans hf2 (by simp))
    clear hf2 HB0 HB1 HF1 HHD
    have c0 := blk_cell HBM.out 0 rfl
    have c1 := blk_cell HBM.out 1 rfl
    have c2 := blk_cell HBM.out 2 rfl
    have c3 := blk_cell HBM.out 3 rfl
    have c4 := blk_cell HBM.out 4 rfl
    have c5 := blk_cell HBM.out 5 rfl
    have c6 := blk_cell HBM.out 6 rfl
    have c7 := blk_cell HBM.out 7 rfl
    have c8 := blk_cell HBM.out 8 rfl
    have c9 := blk_cell HBM.out 9 rfl
    have c10 := blk_cell HBM.out 10 rfl
    have hz' : ∀ j, w2.frozen? ⟨w.heap.size + 1, j, none⟩ = false := fun j => blk_frozen HBM.out j
    go_upto_region 5 with fail
    have HM0 := Lib.hid (show (w2.setCell ⟨w.heap.size + 1, 0, none⟩ (.int .i64 hid)).heap[w.heap.size + 1]? = some (.cells #[.int .i64 hid, .bool false, .int .i64 0, .bool false, .bool false, .bool false, .bool false, .bool false, .bool false, .bool false, .int .i64 0, .slice none 0 0, .slice none 0 0, .slice none 0 0, .slice none 0 0] 37 (0, 0)) from obj_setk HBM.out 0 (.int .i64 hid))
    have HM1 := Lib.hid (show ((w2.setCell ⟨w.heap.size + 1, 0, none⟩ (.int .i64 hid)).setCell ⟨w.heap.size + 1, 1, none⟩ (.bool han)).heap[w.heap.size + 1]? = some (.cells #[.int .i64 hid, .bool han, .int .i64 0, .bool false, .bool false, .bool false, .bool false, .bool false, .bool false, .bool false, .int .i64 0, .slice none 0 0, .slice none 0 0, .slice none 0 0, .slice none 0 0] 37 (0, 0)) from obj_setk HM0.out 1 (.bool han))
    have HM2 := Lib.hid (show (((w2.setCell ⟨w.heap.size + 1, 0, none⟩ (.int .i64 hid)).setCell ⟨w.heap.size + 1, 1, none⟩ (.bool han)).setCell ⟨w.heap.size + 1, 2, none⟩ (.int .i64 hop)).heap[w.heap.size + 1]? = some (.cells #[.int .i64 hid, .bool han, .int .i64 hop, .bool false, .bool false, .bool false, .bool false, .bool false, .bool false, .bool false, .int .i64 0, .slice none 0 0, .slice none 0 0, .slice none 0 0, .slice none 0 0] 37 (0, 0)) from obj_setk HM1.out 2 (.int .i64 hop))
    have HM3 := Lib.hid (show ((((w2.setCell ⟨w.heap.size + 1, 0, none⟩ (.int .i64 hid)).setCell ⟨w.heap.size + 1, 1, none⟩ (.bool han)).setCell ⟨w.heap.size + 1, 2, none⟩ (.int .i64 hop)).setCell ⟨w.heap.size + 1, 3, none⟩ (.bool haa)).heap[w.heap.size + 1]? = some (.cells #[.int .i64 hid, .bool han, .int .i64 hop, .bool haa, .bool false, .bool false, .bool false, .bool false, .bool false, .bool false, .int .i64 0, .slice none 0 0, .slice none 0 0, .slice none 0 0, .slice none 0 0] 37 (0, 0)) from obj_setk HM2.out 3 (.bool haa))
    have HM4 := Lib.hid (show (((((w2.setCell ⟨w.heap.size + 1, 0, none⟩ (.int .i64 hid)).setCell ⟨w.heap.size + 1, 1, none⟩ (.bool han)).setCell ⟨w.heap.size + 1, 2, none⟩ (.int .i64 hop)).setCell ⟨w.heap.size + 1, 3, none⟩ (.bool haa)).setCell ⟨w.heap.size + 1, 4, none⟩ (.bool htc)).heap[w.heap.size + 1]? = some (.cells #[.int .i64 hid, .bool han, .int .i64 hop, .bool haa, .bool htc, .bool false, .bool false, .bool false, .bool false, .bool false, .int .i64 0, .slice none 0 0, .slice none 0 0, .slice none 0 0, .slice none 0 0] 37 (0, 0)) from obj_setk HM3.out 4 (.bool htc))
    have HM5 := Lib.hid (show ((((((w2.setCell ⟨w.heap.size + 1, 0, none⟩ (.int .i64 hid)).setCell ⟨w.heap.size + 1, 1, none⟩ (.bool han)).setCell ⟨w.heap.size + 1, 2, none⟩ (.int .i64 hop)).setCell ⟨w.heap.size + 1, 3, none⟩ (.bool haa)).setCell ⟨w.heap.size + 1, 4, none⟩ (.bool htc)).setCell ⟨w.heap.size + 1, 5, none⟩ (.bool hrd)).heap[w.heap.size + 1]? = some (.cells #[.int .i64 hid, .bool han, .int .i64 hop, .bool haa, .bool htc, .bool hrd, .bool false, .bool false, .bool false, .bool false, .int .i64 0, .slice none 0 0, .slice none 0 0, .slice none 0 0, .slice none 0 0] 37 (0, 0)) from obj_setk HM4.out 5 (.bool hrd))
    have HM6 := Lib.hid (show (((((((w2.setCell ⟨w.heap.size + 1, 0, none⟩ (.int .i64 hid)).setCell ⟨w.heap.size + 1, 1, none⟩ (.bool han)).setCell ⟨w.heap.size + 1, 2, none⟩ (.int .i64 hop)).setCell ⟨w.heap.size + 1, 3, none⟩ (.bool haa)).setCell ⟨w.heap.size + 1, 4, none⟩ (.bool htc)).setCell ⟨w.heap.size + 1, 5, none⟩ (.bool hrd)).setCell ⟨w.heap.size + 1, 6, none⟩ (.bool hra)).heap[w.heap.size + 1]? = some (.cells #[.int .i64 hid, .bool han, .int .i64 hop, .bool haa, .bool htc, .bool hrd, .bool hra, .bool false, .bool false, .bool false, .int .i64 0, .slice none 0 0, .slice none 0 0, .slice none 0 0, .slice none 0 0] 37 (0, 0)) from obj_setk HM5.out 6 (.bool hra))
    have HM7 := Lib.hid (show ((((((((w2.setCell ⟨w.heap.size + 1, 0, none⟩ (.int .i64 hid)).setCell ⟨w.heap.size + 1, 1, none⟩ (.bool han)).setCell ⟨w.heap.size + 1, 2, none⟩ (.int .i64 hop)).setCell ⟨w.heap.size + 1, 3, none⟩ (.bool haa)).setCell ⟨w.heap.size + 1, 4, none⟩ (.bool htc)).setCell ⟨w.heap.size + 1, 5, none⟩ (.bool hrd)).setCell ⟨w.heap.size + 1, 6, none⟩ (.bool hra)).setCell ⟨w.heap.size + 1, 7, none⟩ (.bool hz)).heap[w.heap.size + 1]? = some (.cells #[.int .i64 hid, .bool han, .int .i64 hop, .bool haa, .bool htc, .bool hrd, .bool hra, .bool hz, .bool false, .bool false, .int .i64 0, .slice none 0 0, .slice none 0 0, .slice none 0 0, .slice none 0 0] 37 (0, 0)) from obj_setk HM6.out 7 (.bool hz))
    have HM8 := Lib.hid (show (((((((((w2.setCell ⟨w.heap.size + 1, 0, none⟩ (.int .i64 hid)).setCell ⟨w.heap.size + 1, 1, none⟩ (.bool han)).setCell ⟨w.heap.size + 1, 2, none⟩ (.int .i64 hop)).setCell ⟨w.heap.size + 1, 3, none⟩ (.bool haa)).setCell ⟨w.heap.size + 1, 4, none⟩ (.bool htc)).setCell ⟨w.heap.size + 1, 5, none⟩ (.bool hrd)).setCell ⟨w.heap.size + 1, 6, none⟩ (.bool hra)).setCell ⟨w.heap.size + 1, 7, none⟩ (.bool hz)).setCell ⟨w.heap.size + 1, 8, none⟩ (.bool had)).heap[w.heap.size + 1]? = some (.cells #[.int .i64 hid, .bool han, .int .i64 hop, .bool haa, .bool htc, .bool hrd, .bool hra, .bool hz, .bool had, .bool false, .int .i64 0, .slice none 0 0, .slice none 0 0, .slice none 0 0, .slice none 0 0] 37 (0, 0)) from obj_setk HM7.out 8 (.bool had))
    have HM9 := Lib.hid (show ((((((((((w2.setCell ⟨w.heap.size + 1, 0, none⟩ (.int .i64 hid)).setCell ⟨w.heap.size + 1, 1, none⟩ (.bool han)).setCell ⟨w.heap.size + 1, 2, none⟩ (.int .i64 hop)).setCell ⟨w.heap.size + 1, 3, none⟩ (.bool haa)).setCell ⟨w.heap.size + 1, 4, none⟩ (.bool htc)).setCell ⟨w.heap.size + 1, 5, none⟩ (.bool hrd)).setCell ⟨w.heap.size + 1, 6, none⟩ (.bool hra)).setCell ⟨w.heap.size + 1, 7, none⟩ (.bool hz)).setCell ⟨w.heap.size + 1, 8, none⟩ (.bool had)).setCell ⟨w.heap.size + 1, 9, none⟩ (.bool hcd)).heap[w.heap.size + 1]? = some (.cells #[.int .i64 hid, .bool han, .int .i64 hop, .bool haa, .bool htc, .bool hrd, .bool hra, .bool hz, .bool had, .bool hcd, .int .i64 0, .slice none 0 0, .slice none 0 0, .slice none 0 0, .slice none 0 0] 37 (0, 0)) from obj_setk HM8.out 9 (.bool hcd))
    have HM10 := Lib.hid (show (((((((((((w2.setCell ⟨w.heap.size + 1, 0, none⟩ (.int .i64 hid)).setCell ⟨w.heap.size + 1, 1, none⟩ (.bool han)).setCell ⟨w.heap.size + 1, 2, none⟩ (.int .i64 hop)).setCell ⟨w.heap.size + 1, 3, none⟩ (.bool haa)).setCell ⟨w.heap.size + 1, 4, none⟩ (.bool htc)).setCell ⟨w.heap.size + 1, 5, none⟩ (.bool hrd)).setCell ⟨w.heap.size + 1, 6, none⟩ (.bool hra)).setCell ⟨w.heap.size + 1, 7, none⟩ (.bool hz)).setCell ⟨w.heap.size + 1, 8, none⟩ (.bool had)).setCell ⟨w.heap.size + 1, 9, none⟩ (.bool hcd)).setCell ⟨w.heap.size + 1, 10, none⟩ (.int .i64 hco)).heap[w.heap.size + 1]? = some (.cells #[.int .i64 hid, .bool han, .int .i64 hop, .bool haa, .bool htc, .bool hrd, .bool hra, .bool hz, .bool had, .bool hcd, .int .i64 hco, .slice none 0 0, .slice none 0 0, .slice none 0 0, .slice none 0 0] 37 (0, 0)) from obj_setk HM9.out 10 (.int .i64 hco))
    have HBM5 := HM10
    clear HM0 HM1 HM2 HM3 HM4 HM5 HM6 HM7 HM8 HM9 HM10
    have hs5 : Fr [w.heap.size + 1] w2 (((((((((((w2.setCell ⟨w.heap.size + 1, 0, none⟩ (.int .i64 hid)).setCell ⟨w.heap.size + 1, 1, none⟩ (.bool han)).setCell ⟨w.heap.size + 1, 2, none⟩ (.int .i64 hop)).setCell ⟨w.heap.size + 1, 3, none⟩ (.bool haa)).setCell ⟨w.heap.size + 1, 4, none⟩ (.bool htc)).setCell ⟨w.heap.size + 1, 5, none⟩ (.bool hrd)).setCell ⟨w.heap.size + 1, 6, none⟩ (.bool hra)).setCell ⟨w.heap.size + 1, 7, none⟩ (.bool hz)).setCell ⟨w.heap.size + 1, 8, none⟩ (.bool had)).setCell ⟨w.heap.size + 1, 9, none⟩ (.bool hcd)).setCell ⟨w.heap.size + 1, 10, none⟩ (.int .i64 hco)) := ((((((((((((Fr.refl [w.heap.size + 1] w2).setCell (p := ⟨w.heap.size + 1, 0, none⟩) (.inl (by simp)) (.int .i64 hid)).setCell (p := ⟨w.heap.size + 1, 1, none⟩) (.inl (by simp)) (.bool han)).setCell (p := ⟨w.heap.size + 1, 2, none⟩) (.inl (by simp)) (.int .i64 hop)).setCell (p := ⟨w.heap.size + 1, 3, none⟩) (.inl (by simp)) (.bool haa)).setCell (p := ⟨w.heap.size + 1, 4, none⟩) (.inl (by simp)) (.bool htc)).setCell (p := ⟨w.heap.size + 1, 5, none⟩) (.inl (by simp)) (.bool hrd)).setCell (p := ⟨w.heap.size + 1, 6, none⟩) (.inl (by simp)) (.bool hra)).setCell (p := ⟨w.heap.size + 1, 7, none⟩) (.inl (by simp)) (.bool hz)).setCell (p := ⟨w.heap.size + 1, 8, none⟩) (.inl (by simp)) (.bool had)).setCell (p := ⟨w.heap.size + 1, 9, none⟩) (.inl (by simp)) (.bool hcd)).setCell (p := ⟨w.heap.size + 1, 10, none⟩) (.inl (by simp)) (.int .i64 hco))
    have HBR5 := Lib.hid (hs5.blk HBR.out (by simp))
    have HF5 := Lib.hid (show Fr [] w (((((((((((w2.setCell ⟨w.heap.size + 1, 0, none⟩ (.int .i64 hid)).setCell ⟨w.heap.size + 1, 1, none⟩ (.bool han)).setCell ⟨w.heap.size + 1, 2, none⟩ (.int .i64 hop)).setCell ⟨w.heap.size + 1, 3, none⟩ (.bool haa)).setCell ⟨w.heap.size + 1, 4, none⟩ (.bool htc)).setCell ⟨w.heap.size + 1, 5, none⟩ (.bool hrd)).setCell ⟨w.heap.size + 1, 6, none⟩ (.bool hra)).setCell ⟨w.heap.size + 1, 7, none⟩ (.bool hz)).setCell ⟨w.heap.size + 1, 8, none⟩ (.bool had)).setCell ⟨w.heap.size + 1, 9, none⟩ (.bool hcd)).setCell ⟨w.heap.size + 1, 10, none⟩ (.int .i64 hco)) from HF2.out.trans hs5 (by simp))
    clear hs5 c0 c1 c2 c3 c4 c5 c6 c7 c8 c9 c10 hz' HBM HBR HF2
    generalize ((((((((((w2.setCell ⟨w.heap.size + 1, 0, none⟩ (.int .i64 hid)).setCell ⟨w.heap.size + 1, 1, none⟩ (.bool han)).setCell ⟨w.heap.size + 1, 2, none⟩ (.int .i64 hop)).setCell ⟨w.heap.size + 1, 3, none⟩ (.bool haa)).setCell ⟨w.heap.size + 1, 4, none⟩ (.bool htc)).setCell ⟨w.heap.size + 1, 5, none⟩ (.bool hrd)).setCell ⟨w.heap.size + 1, 6, none⟩ (.bool hra)).setCell ⟨w.heap.size + 1, 7, none⟩ (.bool hz)).setCell ⟨w.heap.size + 1, 8, none⟩ (.bool had)).setCell ⟨w.heap.size + 1, 9, none⟩ (.bool hcd)).setCell ⟨w.heap.size + 1, 10, none⟩ (.int .i64 hco) = w5 at *
    have HTW := Lib.hid (fun (wx : World) (hx : Fr [] w wx) (P : Nat) (hP : P + 2 ≤ len) => show Calls Try.prog 17 #[.slice (some ⟨b, o + P, none⟩) (len - P) (c - P)] wx fun e w' => e = .returned (.int .i64 ((pr L P : Nat) : Int)) ∧ Fr [] wx w' from by
      have h := msgTwo_at wx b o c L P (HB.out.fr hx (by simp)) (by rw [HLEN.out]; exact hP)
      rw [HLEN.out] at h
      exact h)
    have l12 := H12.out
    have hcc := HCC.out
    unfold maxLen at hcc
    have t4 := HTW.out w5 HF5.out 4 (by omega)
    have HT4 := Lib.hid t4
    have n4 : ¬ c = 4 := by omega
    clear t4
    go_wp2_with fail
    with_reducible refine HT4.out.mono ?_
    rintro e w6 ⟨rfl, hf6⟩
    have HBM6 := Lib.hid (hf6.blk HBM5.out (by simp))
    have HBR6 := Lib.hid (hf6.blk HBR5.out (by simp))
    have HF6 := Lib.hid (HF5.out.trans hf6 (by simp))
    clear hf6 HT4 HBM5 HBR5 HF5
    go_wp2_with fail
    go_loopw [5, 28] (fun v5 vi wr => ∃ (k i : Nat) (vq : Value) (qs : List Qc), k ≤ pr L 4 ∧ v5 = .int .i64 i ∧ vi = .int .i64 k ∧ rdK (rdQ L) 12 k = .ok (qs, i) ∧ i ≤ len ∧ wr.heap[w.heap.size + 1]? = some (.cells #[.int .i64 hid, .bool han, .int .i64 hop, .bool haa, .bool htc, .bool hrd, .bool hra, .bool hz, .bool had, .bool hcd, .int .i64 hco, vq, .slice none 0 0, .slice none 0 0, .slice none 0 0] 37 (0, 0)) ∧ QsAll wr w.heap.size vq qs ∧ wr.heap[w.heap.size]? = some (.cells #[.int .i64 0, .bool false, .int .i64 0, .bool false, .bool false, .bool false, .bool false, .bool false, .bool false, .bool false, .int .i64 0, .slice none 0 0, .slice none 0 0, .slice none 0 0, .slice none 0 0] 37 (0, 0)) ∧ Fr [] w wr) (fun _ vi _ => pr L 4 - (intOf vi).toNat)
    case atStart => exact ⟨0, 12, _, [], by omega, rfl, rfl, rfl, l12, HBM6.out, QsAll.nil _ _, HBR6.out, HF6.out⟩
    case round =>
      clear HBM6 HBR6 HF6
      obtain ⟨k, i, vq, qs, hk, rfl, rfl, hrd, hi, hbm, hqs, hbr, hf⟩ := hrel
      have HQN := Lib.hid (rdK_len hrd)
      simp only at HQN
      have HRD := Lib.hid hrd
      have HQS := Lib.hid hqs
      obtain ⟨qa, qc, rfl⟩ := hqs.slice
      have HBM := Lib.hid hbm
      have HBR := Lib.hid hbr
      have HF := Lib.hid hf
      have HI := Lib.hid hi
      clear hrd hqs hbm hbr hf
      by_cases hlt : k < pr L 4
      · have HNX := Lib.hid (rdK_step HRD.out)
        have HQE := Lib.hid (show rdQ L i = match rdNm L i i 1 with
          | .error e => .error e
          | .ok (ls, p) => if L.length < p + 4 then .error 2 else .ok (⟨ls, pr L p, pr L (p + 2)⟩, p + 4) from rfl)
        have HRE := Lib.hid (show ∀ e, rdK (rdQ L) 12 (k + 1) = .error e → R = .error e from fun e h => by
          rw [HRM.out, rdK_err h (pr L 4) hlt]; rfl)
        have HBD := Lib.hid (fun x (h : rdNm L i i 1 = .ok x) => rdNm_bd h)
        have HRN := Lib.hid (readN_any wr (some ⟨b, o, none⟩) c L i (by
          have := HB.out.fr HF.out (by simp)
          exact this.rd (by rw [HLEN.out]; exact HCC.out.1) HCC.out.2) (by rw [HLEN.out]; exact hl))
        have k0 : (k : Int) < ((pr L 4 : Nat) : Int) := by omega
        have HK := Lib.hid hlt
        rw [HLEN.out] at HRN HQE HBD
        generalize hN : rdNm L i i 1 = N at *
        generalize hN4 : pr L 4 = N4 at *
        have HN4 := Lib.hid hN4
        clear hN4 hlt hN
        go_wp2_with fail
        with_reducible refine HRN.out.mono ?_
        rintro e w7 ⟨h7, hf7⟩
        have HBM7 := Lib.hid (hf7.blk HBM.out (by simp))
        have HBR7 := Lib.hid (hf7.blk HBR.out (by simp))
        have HQS7 := Lib.hid (HQS.out.fr0 hf7)
        have HF7 := Lib.hid (HF.out.trans hf7 (by simp))
        have HSZ := Lib.hid HF.out.size
        clear HBM HBR HQS HF hf7
        rcases h7 with ⟨z, rfl, hz0, rfl⟩ | ⟨ls, p, ua, uc, rfl, rfl, ho⟩
        · have HZ := Lib.hid hz0
          have HR := Lib.hid (HRE.out z (by rw [HNX.out, HQE.out]))
          clear hz0 HNX HQE HRE HRM
          go_wp2_with (first
            | ((with_reducible refine wpList_storeArr ?_ 37 (.tmp 2) (.tmp 39) ?_ w.heap.size zMs #[.int .i64 0, .bool false, .int .i64 0, .bool false, .bool false, .bool false, .bool false, .bool false, .bool false, .bool false, .int .i64 0, .slice none 0 0, .slice none 0 0, .slice none 0 0, .slice none 0 0] 37 ?_ ?_ ?_ ?_ ?_ ?_ ?_); rfl; rfl; rfl; rfl; exact HBR7.out; rfl; kernel_rfl; exact zMs_one; intro wF hbF hfF)
            | fail)
          have HBF := Lib.hid hbF
          have HFF := Lib.hid (HF7.out.trans hfF (S := []) (fun x hx => .inr (by simp at hx; omega)))
          clear hbF hfF
          have r0 := blk_cell HBF.out 0 rfl
          have r1 := blk_cell HBF.out 1 rfl
          have r2 := blk_cell HBF.out 2 rfl
          have r3 := blk_cell HBF.out 3 rfl
          have r4 := blk_cell HBF.out 4 rfl
          have r5 := blk_cell HBF.out 5 rfl
          have r6 := blk_cell HBF.out 6 rfl
          have r7 := blk_cell HBF.out 7 rfl
          have r8 := blk_cell HBF.out 8 rfl
          have r9 := blk_cell HBF.out 9 rfl
          have r10 := blk_cell HBF.out 10 rfl
          have r11 := blk_cell HBF.out 11 rfl
          have r12 := blk_cell HBF.out 12 rfl
          have r13 := blk_cell HBF.out 13 rfl
          have r14 := blk_cell HBF.out 14 rfl
          refine bodyPost_ret (v := .tuple #[.agg zMs, .iface 52 (.int .i64 z)]) (by simp [results, Try.results9, go_sem, zMs, r0, r1, r2, r3, r4, r5, r6, r7, r8, r9, r10, r11, r12, r13, r14]) rfl ?_
          exact ⟨.inl ⟨z, HR.out, HZ.out, rfl⟩, HFF.out⟩
        · have HO := Lib.hid (ho.mono HSZ.out)
          obtain ⟨hb1, hb2, _⟩ := HBD.out _ rfl
          simp only [] at hb1 hb2
          have hqe := HQE.out
          simp only [] at hqe
          clear ho HBD HQE HRN
          by_cases h4 : len < p + 4
          · rw [if_pos h4] at hqe
            have HR := Lib.hid (HRE.out 2 (by rw [HNX.out, hqe]))
            have k1 : (len : Int) - (p : Int) < 4 := by omega
            clear hqe HNX HRE HRM h4
            go_wp2_with (first
              | ((with_reducible refine wpList_storeArr ?_ 37 (.tmp 2) (.tmp 46) ?_ w.heap.size zMs #[.int .i64 0, .bool false, .int .i64 0, .bool false, .bool false, .bool false, .bool false, .bool false, .bool false, .bool false, .int .i64 0, .slice none 0 0, .slice none 0 0, .slice none 0 0, .slice none 0 0] 37 ?_ ?_ ?_ ?_ ?_ ?_ ?_); rfl; rfl; rfl; rfl; exact HBR7.out; rfl; kernel_rfl; exact zMs_one; intro wF hbF hfF)
              | fail)
            have HBF := Lib.hid hbF
            have HFF := Lib.hid (HF7.out.trans hfF (S := []) (fun x hx => .inr (by simp at hx; omega)))
            clear hbF hfF
            have r0 := blk_cell HBF.out 0 rfl
            have r1 := blk_cell HBF.out 1 rfl
            have r2 := blk_cell HBF.out 2 rfl
            have r3 := blk_cell HBF.out 3 rfl
            have r4 := blk_cell HBF.out 4 rfl
            have r5 := blk_cell HBF.out 5 rfl
            have r6 := blk_cell HBF.out 6 rfl
            have r7 := blk_cell HBF.out 7 rfl
            have r8 := blk_cell HBF.out 8 rfl
            have r9 := blk_cell HBF.out 9 rfl
            have r10 := blk_cell HBF.out 10 rfl
            have r11 := blk_cell HBF.out 11 rfl
            have r12 := blk_cell HBF.out 12 rfl
            have r13 := blk_cell HBF.out 13 rfl
            have r14 := blk_cell HBF.out 14 rfl
            refine bodyPost_ret (v := .tuple #[.agg zMs, .iface 52 (.int .i64 2)]) (by simp [results, Try.results9, go_sem, zMs, r0, r1, r2, r3, r4, r5, r6, r7, r8, r9, r10, r11, r12, r13, r14]) rfl ?_
            exact ⟨.inl ⟨2, HR.out, (by decide), rfl⟩, HFF.out⟩
          · rw [if_neg h4] at hqe
            have hnx := HNX.out
            rw [hqe] at hnx
            simp only [] at hnx
            have HNX2 := Lib.hid hnx
            have HP4 := Lib.hid (Nat.le_of_not_lt h4)
            have k1 : ¬ (len : Int) - (p : Int) < 4 := by omega
            have hcc := HCC.out
            unfold maxLen at hcc
            have kA : (p : Int) ≤ (c : Int) := by omega
            have kB : (p : Int) + 2 ≤ (c : Int) := by omega
            have kC : (p : Int) ≤ (len : Int) := by omega
            have kD : (p : Int) + 2 ≤ (len : Int) := by omega
            have nA : ¬ c = p := by omega
            have nB : ¬ c = p + 2 := by omega
            have y2 : (0 : Int) ≤ (p : Int) + 2 := by omega
            have u2 : ((p : Int) + 2).toNat = p + 2 := by omega
            have v2 : IntKind.i64.wrap ((p : Int) + 2) = (p : Int) + 2 := IntWalk.i64_in _ (by omega)
            obtain ⟨X, hX⟩ : ∃ X : Qc, (⟨ls, pr L p, pr L (p + 2)⟩ : Qc) = X := ⟨_, rfl⟩
            rw [hX] at HNX2
            have HX := Lib.hid hX
            clear hnx hqe HNX HRE h4 hcc hX
            go_upto_region 13 with fail
            have c11 := blk_cell HBM7.out 11 (v := .slice qa qs.length qc) rfl
            have HFD := Lib.hid (show Fr [] w7 w7.drew from (Fr.refl [] w7).drew)
            have HTX := Lib.hid (fun (wx : World) (hx : Fr [] w7 wx) (P : Nat) (hP : P + 2 ≤ len) => show Calls Try.prog 17 #[.slice (some ⟨b, o + P, none⟩) (len - P) (c - P)] wx fun e w' => e = .returned (.int .i64 ((pr L P : Nat) : Int)) ∧ Fr [] w7 w' from
              (HTW.out wx (HF7.out.trans hx (by simp)) P hP).mono fun e w' ⟨h1, h2⟩ => ⟨h1, hx.trans h2 (by simp)⟩)
            have HQO := Lib.hid (fun (wx : World) (hx : Fr [] w7 wx) => show QsOwn wx w.heap.size (qsF ua uc ⟨ls, pr L p, pr L (p + 2)⟩) X.fn from by rw [← HX.out]; exact ⟨_, rfl, rfl, rfl, OwnF.kept HO.out hx (fun _ _ => by simp)⟩)
            have HLX := Lib.hid (show (qs ++ [X]).length = qs.length + 1 by simp)
            have HL2 := Lib.hid (show p + 2 ≤ len ∧ p + 2 + 2 ≤ len from by have := HP4.out; omega)
            have HPR := Lib.hid (show qs.length ≤ 1000000 from by have := pr_lt L 4; have := HN4.out; have := HK.out; have := HQN.out; omega)
            go_region_law (first
              | (refine step_go1 ?_ 17 (.tmp 53) 27 ?_ ?_ ?_ (HTX.out _ ?_ p HL2.out.1) ?_; rfl; rfl; (intro _ _; kernel_rfl); (go_simp); (first | with_reducible assumption | with_reducible exact HFD.out); rintro e wx ⟨rfl, hfx⟩; refine ⟨_, rfl, ?_⟩; have c11 := blk_cell (hfx.blk HBM7.out (by simp)) 11 (v := .slice qa qs.length qc) rfl; have d11 : ∀ o : Obj, (wx.alloc o).cell? ⟨w.heap.size + 1, 11, none⟩ = some (.slice qa qs.length qc) := fun o => blk_cell ((hfx.alloc o).blk HBM7.out (by simp)) 11 rfl)
              | (refine step_go1 ?_ 17 (.tmp 58) 27 ?_ ?_ ?_ (HTX.out _ ?_ (p + 2) HL2.out.2) ?_; rfl; rfl; (intro _ _; kernel_rfl); (go_simp); (first | with_reducible assumption | with_reducible exact HFD.out); rintro e wx ⟨rfl, hfx⟩; refine ⟨_, rfl, ?_⟩; have c11 := blk_cell (hfx.blk HBM7.out (by simp)) 11 (v := .slice qa qs.length qc) rfl; have d11 : ∀ o : Obj, (wx.alloc o).cell? ⟨w.heap.size + 1, 11, none⟩ = some (.slice qa qs.length qc) := fun o => blk_cell ((hfx.alloc o).blk HBM7.out (by simp)) 11 rfl)
              | (refine step_appQ ?_ (.tmp 49) (.tmp 61) ?_ (HQS7.out.fr0 (hfx.alloc _)) ?_ (rdc_three _ _ _ _ _ rfl (qsF ua uc ⟨ls, pr L p, pr L (p + 2)⟩) rfl rfl rfl) ?_ (HQO.out _ (hfx.alloc _)) HPR.out (Nat.le_trans HF7.out.size (hfx.alloc _).size) ?_
                 rfl
                 rfl
                 rfl
                 rfl
                 intro v9 w9 hq9 ht9 hb9
                 obtain ⟨oa9, oc9, rfl⟩ := hq9.slice
                 rw [HLX.out] at hq9
                 have HQ9 := Lib.hid hq9
                 have HT9 := Lib.hid ((hfx.frT _).trans (((FrT.refl _ _).alloc _).trans ht9))
                 have HF9 := Lib.hid (show Fr [] w w9 from Fr.of_below (((((HF7.out.trans hfx (by simp)).alloc _).below _ (Nat.le_refl _) (by simp)).trans hb9)) _)
                 have HBM9 := Lib.hid (HT9.out.blk HBM7.out (by decide))
                 have z11 := blk_frozen HBM9.out 11
                 have c11 := blk_cell HBM9.out 11 (v := .slice qa qs.length qc) rfl
                 clear hq9 ht9 hb9)
              | fail)

            all_goals
              have HBR9 := Lib.hid (HT9.out.blk HBR7.out (by decide))
              have hs10 : Fr [w.heap.size + 1] w9 (w9.setCell ⟨w.heap.size + 1, 11, none⟩ (.slice oa9 (qs.length + 1) oc9)) := (Fr.refl [w.heap.size + 1] w9).setCell (p := ⟨w.heap.size + 1, 11, none⟩) (.inl (by simp)) _
              have HBM10 := Lib.hid (show (w9.setCell ⟨w.heap.size + 1, 11, none⟩ (.slice oa9 (qs.length + 1) oc9)).heap[w.heap.size + 1]? = some (.cells #[.int .i64 hid, .bool han, .int .i64 hop, .bool haa, .bool htc, .bool hrd, .bool hra, .bool hz, .bool had, .bool hcd, .int .i64 hco, .slice oa9 (qs.length + 1) oc9, .slice none 0 0, .slice none 0 0, .slice none 0 0] 37 (0, 0)) from obj_setk HBM9.out 11 _)
              have HQ10 := Lib.hid (HQ9.out.keptM hs10 HBM9.out)
              have HBR10 := Lib.hid (hs10.blk HBR9.out (by simp))
              have HF10 := Lib.hid (show Fr [] w (w9.setCell ⟨w.heap.size + 1, 11, none⟩ (.slice oa9 (qs.length + 1) oc9)) from HF9.out.trans hs10 (fun x hx => .inr (by simp at hx; omega)))
              clear hs10 z11 c11 d11
              generalize w9.setCell ⟨w.heap.size + 1, 11, none⟩ (.slice oa9 (qs.length + 1) oc9) = w10 at *
              have kb : (k : Int) ≤ 70000 := by have := pr_lt L 4; have := HN4.out; have := HK.out; omega
              go_wp2
              go_roundw
              case rel => exact ⟨k + 1, p + 4, _, _, by have := HK.out; have := HN4.out; omega, by go_num, by go_num, HNX2.out, by have := HP4.out; omega, HBM10.out, HQ10.out, HBR10.out, HF10.out⟩
              case measure => (have := HK.out; simp [intOf]; omega)
      · -- the questions are read
        obtain rfl : k = pr L 4 := by omega
        have hrm := HRM.out
        rw [HRD.out] at hrm
        have HRM2 := Lib.hid (show R = rdEnd L qs (rdS L i 3) from hrm)
        have kf : ¬ ((pr L 4 : Nat) : Int) < ((pr L 4 : Nat) : Int) := by omega
        have HBMC := Lib.hid (show wr.heap[w.heap.size + 1]? = some (.cells (mC ⟨hid, han, hop, haa, htc, hrd, hra, hz, had, hcd, hco⟩ (.slice qa qs.length qc) (fun _ => .slice none 0 0)) 37 (0, 0)) from HBM.out)
        clear hrm HRM HRD hk hlt hi HBM
        generalize pr L 4 = N4 at *
        obtain ⟨H, hH⟩ : ∃ H : Hd, H = ⟨hid, han, hop, haa, htc, hrd, hra, hz, had, hcd, hco⟩ := ⟨_, rfl⟩
        rw [← hH] at HBMC HHH
        clear hH
        go_wp2_with fail
        with_reducible refine (sections_any wr (w.heap.size + 1)).mono ?_
        rintro e w6 ⟨rfl, hf6⟩
        have HBM6 := Lib.hid (hf6.blk HBMC.out (by simp))
        have HBR6 := Lib.hid (hf6.blk HBR.out (by simp))
        have HQS6 := Lib.hid (HQS.out.fr0 hf6)
        have HF6 := Lib.hid (HF.out.trans hf6 (by simp))
        clear hf6 HBMC HBR HQS HF
        have HIX := Lib.hid (fun g (hg : g < 3) => ix_se12 (w.heap.size + 1) g hg)
        go_wp2_with fail
        go_loopw [5, 68] (fun v5 vi wr => ∃ (g j : Nat) (S : List (List Rc)) (V : Nat → Value), g ≤ 3 ∧ v5 = .int .i64 j ∧ vi = .int .i64 g ∧ rdS L i g = .ok (S, j) ∧ j ≤ len ∧ wr.heap[w.heap.size + 1]? = some (.cells (mC H (.slice qa qs.length qc) V) 37 (0, 0)) ∧ Sx wr w.heap.size V (fun t => S.getD t []) ∧ QsAll wr w.heap.size (.slice qa qs.length qc) qs ∧ wr.heap[w.heap.size]? = some (.cells #[.int .i64 0, .bool false, .int .i64 0, .bool false, .bool false, .bool false, .bool false, .bool false, .bool false, .bool false, .int .i64 0, .slice none 0 0, .slice none 0 0, .slice none 0 0, .slice none 0 0] 37 (0, 0)) ∧ Fr [] w wr) (fun _ vi _ => 3 - (intOf vi).toNat)
        case atStart => exact ⟨0, i, [], _, by omega, rfl, rfl, rfl, HI.out, HBM6.out, (Sx.nil _ _).congr (fun t _ => by simp), HQS6.out, HBR6.out, HF6.out⟩
        case round =>
          clear HBM6 HBR6 HQS6 HF6 HI
          obtain ⟨g, j, S, V, hg, rfl, rfl, hrs, hj, hbm, hsx, hqs, hbr, hf⟩ := hrel
          have HRS := Lib.hid hrs
          have HSL := Lib.hid (rdS_len hrs)
          simp only at HSL
          have HBM := Lib.hid hbm
          have HSX := Lib.hid hsx
          have HQS := Lib.hid hqs
          have HBR := Lib.hid hbr
          have HF := Lib.hid hf
          have HJ := Lib.hid hj
          clear hrs hbm hsx hqs hbr hf hj
          by_cases h3 : g < 3
          · have HST := Lib.hid (rdS_step HRS.out)
            have HRE := Lib.hid (show ∀ e, rdS L i (g + 1) = .error e → R = .error e from fun e h => by
              rw [HRM2.out, rdS_err h 3 h3]; rfl)
            have k0 : (g : Int) < 3 := by omega
            have hix := HIX.out g h3
            have HG3 := Lib.hid h3
            have y2 : (0 : Int) ≤ 6 + 2 * (g : Int) := by omega
            have u2 : ((6 : Int) + 2 * (g : Int)).toNat = 6 + 2 * g := by omega
            have kA : (6 : Int) + 2 * (g : Int) ≤ (c : Int) := by have := HCC.out; have := H12.out; omega
            have kB : (6 : Int) + 2 * (g : Int) ≤ (len : Int) := by have := H12.out; omega
            have nA : ¬ c = 6 + 2 * g := by have := HCC.out; have := H12.out; omega
            have HT := Lib.hid (HTW.out wr HF.out (6 + 2 * g) (by have := H12.out; omega))
            clear h3
            go_wp2_with fail
            with_reducible refine HT.out.mono ?_
            rintro e w7 ⟨rfl, hf7⟩
            have HBM7 := Lib.hid (hf7.blk HBM.out (by simp))
            have HBR7 := Lib.hid (hf7.blk HBR.out (by simp))
            have HQS7 := Lib.hid (HQS.out.fr0 hf7)
            have HSX7 := Lib.hid (HSX.out.fr0 hf7)
            have HF7 := Lib.hid (HF.out.trans hf7 (by simp))
            clear hf7 HT HBM HBR HQS HSX HF nA kA kB y2 u2 hix
            have hN := pr_lt L (6 + 2 * g)
            have HNL := Lib.hid hN
            clear hN
            generalize hNN : pr L (6 + 2 * g) = N at *
            clear hNN
            go_wp2_with fail
            go_loopw [5, 78] (fun v5 vi wr => ∃ (k i : Nat) (rs : List Rc) (V : Nat → Value), k ≤ N ∧ v5 = .int .i64 i ∧ vi = .int .i64 k ∧ rdK (rdR L) j k = .ok (rs, i) ∧ i ≤ len ∧ wr.heap[w.heap.size + 1]? = some (.cells (mC H (.slice qa qs.length qc) V) 37 (0, 0)) ∧ Sx wr w.heap.size V (updF (fun t => S.getD t []) g rs) ∧ QsAll wr w.heap.size (.slice qa qs.length qc) qs ∧ wr.heap[w.heap.size]? = some (.cells #[.int .i64 0, .bool false, .int .i64 0, .bool false, .bool false, .bool false, .bool false, .bool false, .bool false, .bool false, .int .i64 0, .slice none 0 0, .slice none 0 0, .slice none 0 0, .slice none 0 0] 37 (0, 0)) ∧ Fr [] w wr) (fun _ vi _ => N - (intOf vi).toNat)
            case atStart => exact ⟨0, j, [], V, by omega, rfl, rfl, rfl, HJ.out, HBM7.out, HSX7.out.congr (fun t _ => getD_out HSL.out t), HQS7.out, HBR7.out, HF7.out⟩
            case round =>
              clear HBM7 HBR7 HQS7 HSX7 HF7
              obtain ⟨k, i, rs, V, hk, rfl, rfl, hrd, hi, hbm, hsx, hqs, hbr, hf⟩ := hrel
              have HRD := Lib.hid hrd
              have HRL := Lib.hid (rdK_len hrd)
              simp only at HRL
              have HBM := Lib.hid hbm
              have HSX := Lib.hid hsx
              have HQS := Lib.hid hqs
              have HBR := Lib.hid hbr
              have HF := Lib.hid hf
              have HI := Lib.hid hi
              have HSF := Lib.hid (show (updF (fun t => S.getD t []) g rs) g = rs from updF_at _ _ _)
              clear hrd hbm hsx hqs hbr hf hi
              by_cases hlt : k < N
              · have HNX := Lib.hid (rdK_step HRD.out)
                have HRE2 := Lib.hid (show ∀ e, rdK (rdR L) j (k + 1) = .error e → R = .error e from fun e h => HRE.out e (by rw [HST.out, rdK_err h N hlt]))
                have HBD := Lib.hid (fun x (h : rdR L i = .ok x) => rdR_bd h)
                have HRN := Lib.hid (readR_any wr (some ⟨b, o, none⟩) c L i (by
                  have := HB.out.fr HF.out (by simp)
                  exact this.rd (by rw [HLEN.out]; exact HCC.out.1) HCC.out.2) (by rw [HLEN.out]; exact hl))
                have HK := Lib.hid hlt
                have k1 : (k : Int) < (N : Int) := by omega
                rw [HLEN.out] at HRN HBD
                generalize hRR : rdR L i = RR at *
                clear hlt hRR
                go_wp2_with fail
                with_reducible refine HRN.out.mono ?_
                rintro e w8 ⟨h8, hf8⟩
                have HBM8 := Lib.hid (hf8.blk HBM.out (by simp))
                have HBR8 := Lib.hid (hf8.blk HBR.out (by simp))
                have HQS8 := Lib.hid (HQS.out.fr0 hf8)
                have HSX8 := Lib.hid (HSX.out.fr0 hf8)
                have HF8 := Lib.hid (HF.out.trans hf8 (by simp))
                have HSZ := Lib.hid HF.out.size
                clear hf8 HRN HBM HBR HQS HSX HF
                rcases h8 with ⟨z, rfl, hz0, rfl⟩ | ⟨x, n, na, nc, da, dc, rfl, rfl, hon, hod⟩
                · have HZ := Lib.hid hz0
                  have HR := Lib.hid (HRE2.out z (by rw [HNX.out]))
                  clear hz0 HNX HRE2 HRE HST HRM2
                  go_wp2_with (first
                    | ((with_reducible refine wpList_storeArr ?_ 37 (.tmp 2) (.tmp 89) ?_ w.heap.size zMs #[.int .i64 0, .bool false, .int .i64 0, .bool false, .bool false, .bool false, .bool false, .bool false, .bool false, .bool false, .int .i64 0, .slice none 0 0, .slice none 0 0, .slice none 0 0, .slice none 0 0] 37 ?_ ?_ ?_ ?_ ?_ ?_ ?_); rfl; rfl; rfl; rfl; exact (((Fr.refl [] w8).alloc _).blk HBR8.out (by simp)); rfl; kernel_rfl; exact zMs_one; intro wF hbF hfF)
                    | fail)
                  have HBF := Lib.hid hbF
                  have HFF := Lib.hid ((HF8.out.alloc _).trans hfF (S := []) (fun x hx => .inr (by simp at hx; omega)))
                  clear hbF hfF
                  have r0 := blk_cell HBF.out 0 rfl
                  have r1 := blk_cell HBF.out 1 rfl
                  have r2 := blk_cell HBF.out 2 rfl
                  have r3 := blk_cell HBF.out 3 rfl
                  have r4 := blk_cell HBF.out 4 rfl
                  have r5 := blk_cell HBF.out 5 rfl
                  have r6 := blk_cell HBF.out 6 rfl
                  have r7 := blk_cell HBF.out 7 rfl
                  have r8 := blk_cell HBF.out 8 rfl
                  have r9 := blk_cell HBF.out 9 rfl
                  have r10 := blk_cell HBF.out 10 rfl
                  have r11 := blk_cell HBF.out 11 rfl
                  have r12 := blk_cell HBF.out 12 rfl
                  have r13 := blk_cell HBF.out 13 rfl
                  have r14 := blk_cell HBF.out 14 rfl
                  refine bodyPost_ret (v := .tuple #[.agg zMs, .iface 52 (.int .i64 z)]) (by simp [results, Try.results9, go_sem, zMs, r0, r1, r2, r3, r4, r5, r6, r7, r8, r9, r10, r11, r12, r13, r14]) rfl ?_
                  exact ⟨.inl ⟨z, HR.out, HZ.out, rfl⟩, HFF.out⟩
                · have hnx := HNX.out
                  simp only [] at hnx
                  have HNX2 := Lib.hid hnx
                  have HN2 := Lib.hid (HBD.out _ rfl).2
                  simp only at HN2
                  have HON := Lib.hid (hon.mono HSZ.out)
                  have HOD := Lib.hid (hod.mono HSZ.out)
                  clear hnx HNX HBD hon hod HRE2
                  obtain ⟨va, vc, hv⟩ := (HSX8.out.at_ g HG3.out).slice
                  rw [HSF.out] at hv
                  have HV := Lib.hid hv
                  clear hv
                  go_upto_region 24 with fail
                  have hf9 : Fr [] w8 (w8.alloc (.cells #[.slice na x.nm.length nc, .int .i64 x.ty, .int .i64 x.cl, .int .i64 x.tt, .slice da x.dt.length dc] 63)) := (Fr.refl [] w8).alloc _
                  have HB9 := Lib.hid (heap_alloc_new w8 (.cells #[.slice na x.nm.length nc, .int .i64 x.ty, .int .i64 x.cl, .int .i64 x.tt, .slice da x.dt.length dc] 63))
                  have HBM9 := Lib.hid (hf9.blk HBM8.out (by simp))
                  have HBR9 := Lib.hid (hf9.blk HBR8.out (by simp))
                  have HQS9 := Lib.hid (HQS8.out.fr0 hf9)
                  have HSX9 := Lib.hid (HSX8.out.fr0 hf9)
                  have HF9 := Lib.hid (HF8.out.trans hf9 (by simp))
                  have HON9 := Lib.hid (OwnF.kept HON.out hf9 (fun _ _ => by simp))
                  have HOD9 := Lib.hid (OwnF.kept HOD.out hf9 (fun _ _ => by simp))
                  clear hf9 HBM8 HBR8 HQS8 HSX8 HF8 HON HOD
                  generalize w8.alloc (.cells #[.slice na x.nm.length nc, .int .i64 x.ty, .int .i64 x.cl, .int .i64 x.tt, .slice da x.dt.length dc] 63) = w9 at *
                  generalize w8.heap.size = pb at *
                  have HC12 := Lib.hid (fun (wx : World) (hx : Fr [] w9 wx) => show wx.cell? ⟨w.heap.size + 1, 12 + g, none⟩ = some (.slice va rs.length vc) from blk_cell (hx.blk HBM9.out (by simp)) (12 + g) (by rw [mC_get _ _ _ HG3.out, HV.out]))
                  have HRO := Lib.hid (fun (wx : World) (hx : Fr [] w9 wx) => show RsOwn wx w.heap.size (f5 (.slice na x.nm.length nc) (.int .i64 x.ty) (.int .i64 x.cl) (.int .i64 x.tt) (.slice da x.dt.length dc)) x.fn from ⟨_, _, rfl, rfl, rfl, rfl, rfl, OwnF.kept HON9.out hx (fun _ _ => by simp), OwnF.kept HOD9.out hx (fun _ _ => by simp)⟩)
                  have HLN := Lib.hid (show ((updF (fun t => S.getD t []) g rs) g).length ≤ 1000000 from by rw [HSF.out]; have := HRL.out; have := HK.out; have := HNL.out; omega)
                  have HXA := Lib.hid (fun (o : Obj) => show Fr [] w9 (w9.drew.alloc o) from ((Fr.refl [] w9).drew).alloc o)
                  have HLX := Lib.hid (show (rs ++ [x]).length = rs.length + 1 by simp)
                  have e0 := blk_cell HB9.out 0 (v := .slice na x.nm.length nc) rfl
                  have e1 := blk_cell HB9.out 1 (v := .int .i64 x.ty) rfl
                  have e2 := blk_cell HB9.out 2 (v := .int .i64 x.cl) rfl
                  have e3 := blk_cell HB9.out 3 (v := .int .i64 x.tt) rfl
                  have e4 := blk_cell HB9.out 4 (v := .slice da x.dt.length dc) rfl
                  have c12 := HC12.out w9 (Fr.refl [] w9)
                  have HXB := Lib.hid (fun (o : Obj) => show Fr [] w9 (w9.alloc o).drew from ((Fr.refl [] w9).alloc o).drew)
                  have d13 : ∀ o : Obj, (w9.alloc o).cell? ⟨w.heap.size + 1, 12 + g, none⟩ = some (.slice va rs.length vc) := fun o => HC12.out _ ((Fr.refl [] w9).alloc o)
                  have d14 : ∀ o : Obj, (w9.alloc o).drew.cell? ⟨w.heap.size + 1, 12 + g, none⟩ = some (.slice va rs.length vc) := fun o => HC12.out _ (HXB.out o)
                  have d12 : ∀ o : Obj, (w9.drew.alloc o).cell? ⟨w.heap.size + 1, 12 + g, none⟩ = some (.slice va rs.length vc) := fun o => HC12.out _ (HXA.out o)
                  go_region_law (first
                    | (refine step_appS ?_ (.tmp 94) (.tmp 96) ?_ HG3.out (HSX9.out.fr0 (HXA.out _)) HV.out ?_ (rdc_five _ _ _ _ _ _ _ rfl trivial) ?_ (HRO.out _ (HXA.out _)) HLN.out (Nat.le_trans HF9.out.size (HXA.out _).size) ?_
                       rfl
                       rfl
                       rfl
                       rfl
                       intro v9 w10 hr10 hs10 ht10 hb10
                       rw [HSF.out] at hr10 hs10
                       obtain ⟨oa9, oc9, rfl⟩ := hr10.slice
                       rw [HLX.out] at hs10
                       have HSX10 := Lib.hid (hs10.congr (fun t _ => updF_upd _ _ _ _ t))
                       have HT10 := Lib.hid (((FrT.refl _ w9).trans ((HXA.out _).frT _)).trans ht10)
                       have HF10 := Lib.hid (show Fr [] w w10 from Fr.of_below ((((HF9.out.trans (HXA.out _) (by simp)).below _ (Nat.le_refl _) (by simp)).trans hb10)) _)
                       have HBM10 := Lib.hid (HT10.out.blk HBM9.out (by decide))
                       have z12 := blk_frozen HBM10.out (12 + g)
                       have c12 := blk_cell HBM10.out (12 + g) (mC_get _ _ _ HG3.out)
                       rw [HV.out] at c12
                       clear hr10 hs10 ht10 hb10)
                    | (refine step_appS ?_ (.tmp 94) (.tmp 96) ?_ HG3.out (HSX9.out.fr0 (HXB.out _)) HV.out ?_ (rdc_five _ _ _ _ _ _ _ rfl trivial) ?_ (HRO.out _ (HXB.out _)) HLN.out (Nat.le_trans HF9.out.size (HXB.out _).size) ?_
                       rfl
                       rfl
                       rfl
                       rfl
                       intro v9 w10 hr10 hs10 ht10 hb10
                       rw [HSF.out] at hr10 hs10
                       obtain ⟨oa9, oc9, rfl⟩ := hr10.slice
                       rw [HLX.out] at hs10
                       have HSX10 := Lib.hid (hs10.congr (fun t _ => updF_upd _ _ _ _ t))
                       have HT10 := Lib.hid (((FrT.refl _ w9).trans ((HXB.out _).frT _)).trans ht10)
                       have HF10 := Lib.hid (show Fr [] w w10 from Fr.of_below ((((HF9.out.trans (HXB.out _) (by simp)).below _ (Nat.le_refl _) (by simp)).trans hb10)) _)
                       have HBM10 := Lib.hid (HT10.out.blk HBM9.out (by decide))
                       have z12 := blk_frozen HBM10.out (12 + g)
                       have c12 := blk_cell HBM10.out (12 + g) (mC_get _ _ _ HG3.out)
                       rw [HV.out] at c12
                       clear hr10 hs10 ht10 hb10)
                    | fail)
                  all_goals
                    have HBR10 := Lib.hid (HT10.out.blk HBR9.out (by decide))
                    have HQS10 := Lib.hid (HQS9.out.frT HT10.out)
                    have hs11 : Fr [w.heap.size + 1] w10 (w10.setCell ⟨w.heap.size + 1, 12 + g, none⟩ (.slice oa9 (rs.length + 1) oc9)) := (Fr.refl [w.heap.size + 1] w10).setCell (p := ⟨w.heap.size + 1, 12 + g, none⟩) (.inl (by simp)) _
                    have HBM11 := Lib.hid (show (w10.setCell ⟨w.heap.size + 1, 12 + g, none⟩ (.slice oa9 (rs.length + 1) oc9)).heap[w.heap.size + 1]? = some (.cells (mC H (.slice qa qs.length qc) (updF V g (.slice oa9 (rs.length + 1) oc9))) 37 (0, 0)) from by
                      have := obj_setk HBM10.out (12 + g) (.slice oa9 (rs.length + 1) oc9)
                      rwa [mC_set _ _ _ HG3.out] at this)
                    have HSX11 := Lib.hid (HSX10.out.keptM hs11 HBM10.out)
                    have HQS11 := Lib.hid (HQS10.out.keptM hs11 HBM10.out)
                    have HBR11 := Lib.hid (hs11.blk HBR10.out (by simp))
                    have HF11 := Lib.hid (show Fr [] w (w10.setCell ⟨w.heap.size + 1, 12 + g, none⟩ (.slice oa9 (rs.length + 1) oc9)) from HF10.out.trans hs11 (fun x hx => .inr (by simp at hx; omega)))
                    clear hs11 z12 c12 d12 d13 d14
                    generalize w10.setCell ⟨w.heap.size + 1, 12 + g, none⟩ (.slice oa9 (rs.length + 1) oc9) = w11 at *
                    have kb : (k : Int) ≤ 70000 := by have := HNL.out; have := HK.out; omega
                    go_wp2
                    go_roundw
                    case rel => exact ⟨k + 1, n, _, _, by have := HK.out; omega, by go_num, rfl, HNX2.out, HN2.out, HBM11.out, HSX11.out, HQS11.out, HBR11.out, HF11.out⟩
                    case measure => (have := HK.out; simp [intOf]; omega)
              · obtain rfl : k = N := by omega
                have hst := HST.out
                rw [HRD.out] at hst
                simp only [] at hst
                have HST2 := Lib.hid hst
                have HSX2 := Lib.hid (HSX.out.congr (fun t _ => getD_more HSL.out rs t))
                have kf2 : ¬ (k : Int) < (k : Int) := by omega
                clear hst HST HSX hlt
                go_wp2
                go_roundw
                case rel => exact ⟨g + 1, i, _, V, by have := HG3.out; omega, rfl, by go_num, HST2.out, HI.out, HBM.out, HSX2.out, HQS.out, HBR.out, HF.out⟩
                case measure => (have := HG3.out; simp [intOf]; omega)
          · obtain rfl : g = 3 := by omega
            have hrm := HRM2.out
            rw [HRS.out] at hrm
            simp only [rdEnd] at hrm
            clear HRM2 HRS h3
            by_cases hjl : j < L.length
            · rw [if_pos hjl] at hrm
              have HR := Lib.hid hrm
              have k1 : (j : Int) < (len : Int) := by have := HLEN.out; omega
              clear hrm hjl
              go_wp2_with (first
                | ((with_reducible refine wpList_storeArr ?_ 37 (.tmp 2) (.tmp 106) ?_ w.heap.size zMs #[.int .i64 0, .bool false, .int .i64 0, .bool false, .bool false, .bool false, .bool false, .bool false, .bool false, .bool false, .int .i64 0, .slice none 0 0, .slice none 0 0, .slice none 0 0, .slice none 0 0] 37 ?_ ?_ ?_ ?_ ?_ ?_ ?_); rfl; rfl; rfl; rfl; exact HBR.out; rfl; kernel_rfl; exact zMs_one; intro wF hbF hfF)
                | fail)
              have HBF := Lib.hid hbF
              have HFF := Lib.hid (HF.out.trans hfF (S := []) (fun x hx => .inr (by simp at hx; omega)))
              clear hbF hfF
              have r0 := blk_cell HBF.out 0 rfl
              have r1 := blk_cell HBF.out 1 rfl
              have r2 := blk_cell HBF.out 2 rfl
              have r3 := blk_cell HBF.out 3 rfl
              have r4 := blk_cell HBF.out 4 rfl
              have r5 := blk_cell HBF.out 5 rfl
              have r6 := blk_cell HBF.out 6 rfl
              have r7 := blk_cell HBF.out 7 rfl
              have r8 := blk_cell HBF.out 8 rfl
              have r9 := blk_cell HBF.out 9 rfl
              have r10 := blk_cell HBF.out 10 rfl
              have r11 := blk_cell HBF.out 11 rfl
              have r12 := blk_cell HBF.out 12 rfl
              have r13 := blk_cell HBF.out 13 rfl
              have r14 := blk_cell HBF.out 14 rfl
              refine bodyPost_ret (v := .tuple #[.agg zMs, .iface 52 (.int .i64 8)]) (by simp [results, Try.results9, go_sem, zMs, r0, r1, r2, r3, r4, r5, r6, r7, r8, r9, r10, r11, r12, r13, r14]) rfl ?_
              exact ⟨.inl ⟨8, HR.out, (by decide), rfl⟩, HFF.out⟩
            · rw [if_neg hjl, HHH.out] at hrm
              have HR := Lib.hid hrm
              have k1 : ¬ (j : Int) < (len : Int) := by have := HLEN.out; omega
              have HC1 := Lib.hid (mC_one HSX.out HQS.out H)
              have HCS := Lib.hid (show (Try.prog.info? 37).map (·.size) = some (mC H (.slice qa qs.length qc) V).toList.length from by
                rw [Array.length_toList, mC_size]
                kernel_rfl)
              have HCS2 := Lib.hid (show (Try.prog.info? 37).map (·.size) = some (mC H (.slice qa qs.length qc) V).size from by
                rw [mC_size]
                kernel_rfl)
              have HCZ := Lib.hid (mC_size H (.slice qa qs.length qc) V)
              have hr1 := rng_arr HBM.out
              clear hrm hjl
              obtain ⟨C, hC⟩ : ∃ C, mC H (.slice qa qs.length qc) V = C := ⟨_, rfl⟩
              rw [hC] at HC1 HCS HCS2 HCZ hr1
              have HCC2 := Lib.hid hC
              clear hC
              go_wp2_with (first
                | ((with_reducible refine wpList_loadArr ?_ 37 (.tmp 4) ?_ (w.heap.size + 1) 0 ?_ C _ ?_ Try.underlying37 ?_ ?_ ?_); rfl; rfl; rfl; exact hr1; rfl; exact HCS.out)
                | ((with_reducible refine wpList_storeArr ?_ 37 (.tmp 2) (.tmp 108) ?_ w.heap.size C #[.int .i64 0, .bool false, .int .i64 0, .bool false, .bool false, .bool false, .bool false, .bool false, .bool false, .bool false, .int .i64 0, .slice none 0 0, .slice none 0 0, .slice none 0 0, .slice none 0 0] 37 ?_ ?_ ?_ ?_ ?_ ?_ ?_); rfl; rfl; rfl; rfl; exact HBR.out; exact HCZ.out; exact HCS2.out; exact HC1.out; intro wF hbF hfF)
                | fail)
              rw [← HCC2.out] at hbF
              have HQF := Lib.hid (HQS.out.keptM hfF HBR.out)
              have HSF := Lib.hid (HSX.out.keptM hfF HBR.out)
              have HFF := Lib.hid (HF.out.trans hfF (S := []) (fun x hx => .inr (by simp at hx; omega)))
              have r0 := blk_cell hbF 0 (v := .int .i64 H.id) rfl
              have r1 := blk_cell hbF 1 (v := .bool H.an) rfl
              have r2 := blk_cell hbF 2 (v := .int .i64 H.op) rfl
              have r3 := blk_cell hbF 3 (v := .bool H.aa) rfl
              have r4 := blk_cell hbF 4 (v := .bool H.tc) rfl
              have r5 := blk_cell hbF 5 (v := .bool H.rd) rfl
              have r6 := blk_cell hbF 6 (v := .bool H.ra) rfl
              have r7 := blk_cell hbF 7 (v := .bool H.z) rfl
              have r8 := blk_cell hbF 8 (v := .bool H.ad) rfl
              have r9 := blk_cell hbF 9 (v := .bool H.cd) rfl
              have r10 := blk_cell hbF 10 (v := .int .i64 H.code) rfl
              have r11 := blk_cell hbF 11 (v := .slice qa qs.length qc) rfl
              have r12 := blk_cell hbF 12 (v := V 0) rfl
              have r13 := blk_cell hbF 13 (v := V 1) rfl
              have r14 := blk_cell hbF 14 (v := V 2) rfl
              clear hfF hbF
              refine bodyPost_ret (v := .tuple #[msgV H (.slice qa qs.length qc) (V 0) (V 1) (V 2), .nilIface]) (by simp [results, Try.results9, go_sem, msgV, r0, r1, r2, r3, r4, r5, r6, r7, r8, r9, r10, r11, r12, r13, r14]) rfl ?_
              exact ⟨.inr ⟨_, _, _, _, _, HR.out, rfl, HQF.out, HSF.out.at_ 0 (by decide), HSF.out.at_ 1 (by decide), HSF.out.at_ 2 (by decide)⟩, HFF.out⟩

end Go.Proofs.Ytkdmkpdooiacaaa
