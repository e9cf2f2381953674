/- What TopStream's walk needs: messages as they were written, as they are read; pointsmantop.sent. -/
import Derived.Test.YtkdmkpdooiacaaaZWrMsg
import Derived.Test.YtkdmkpdooiacaaaZRdMsgW
import Derived.Test.YtkdmkpdooiacaaaZbase2
import Derived.Test.YtkdmkpdooiacaaaZbase1
import Derived.Test.YtkdmkpdooiacaaaZSMsg
namespace Go.Proofs.Ytkdmkpdooiacaaa
open Go.RowKit

/-- a message as it is sent -/
def wl (m : Ms) : List UInt8 := match wrMsg m.lst with
  | .ok l => l
  | .error _ => []

theorem wl_ok {m : Ms} {L : List UInt8} (h : wrMsg m.lst = .ok L) : wl m = L := by unfold wl; rw [h]

theorem wl_len {m : Ms} : (wl m).length ≤ 65535 := by
  unfold wl
  match h : wrMsg m.lst with
  | .ok l => exact (rd_wr h).2.2
  | .error e => simp

theorem rdK_mem {α : Type} {rd : Nat → Except Int (α × Nat)} {i k : Nat} {x : List α × Nat} (h : rdK rd i k = .ok x) : ∀ y ∈ x.1, ∃ j m, rd j = .ok (y, m) := by
  induction k generalizing x with
  | zero => simp only [rdK, Except.ok.injEq] at h; subst h; simp
  | succ k ih =>
    simp only [rdK] at h
    match hk : rdK rd i k, h with
    | .ok (l, j), h =>
      simp only [] at h
      match hj : rd j, h with
      | .ok (y, m), h =>
        simp only [Except.ok.injEq] at h
        subst h
        intro z hz
        rcases List.mem_append.1 hz with hz | hz
        · exact ih hk z hz
        · obtain rfl : z = y := by simpa using hz
          exact ⟨j, m, hj⟩

theorem qsAll_sec {w : World} {B0 : Nat} {v : Value} {l : List Qc} (h : QsAll w B0 v l) (B : HB) (hS : ∀ x ∈ B.s, x < B0) (hw : ∀ q ∈ l, q.fn.Wf) (hn : l.length ≤ 1000000) : ∃ F, QSec B w v l.length (fun i => (l.getD i ⟨[], 0, 0⟩).fn) F := by
  obtain ⟨G, hG, hat⟩ := h
  have hg : ∀ i (hi : i < l.length), l.getD i ⟨[], 0, 0⟩ = l[i] := fun i hi => by rw [List.getD_eq_getElem?_getD, List.getElem?_eq_getElem hi]; rfl
  exact ⟨G, hG.rd, hG.cold (by decide) B hS, fun i hi => by simp only [hg i hi]; exact (hat i hi).at_ hS, fun i hi => by simp only [hg i hi]; exact hw _ (List.getElem_mem hi), by omega⟩

theorem rsAll_sec {w : World} {B0 : Nat} {v : Value} {l : List Rc} (h : RsAll w B0 v l) (B : HB) (hS : ∀ x ∈ B.s, x < B0) (hw : ∀ q ∈ l, q.fn.Wf) (hn : l.length ≤ 1000000) : ∃ F, Sec B w v l.length (fun i => (l.getD i Rc.zero).fn) F := by
  obtain ⟨G, hG, hat⟩ := h
  have hg : ∀ i (hi : i < l.length), l.getD i Rc.zero = l[i] := fun i hi => by rw [List.getD_eq_getElem?_getD, List.getElem?_eq_getElem hi]; rfl
  exact ⟨G, hG.rd, hG.cold (by decide) B hS, fun i hi => by simp only [hg i hi]; exact (hat i hi).at_ hS, fun i hi => by simp only [hg i hi]; exact hw _ (List.getElem_mem hi), by omega⟩

theorem rdHd_wf (L : List UInt8) : (rdHd L).Wf := by
  have h1 := pr_lt L 0
  have h2 := gB_lt L 2
  have h3 := gB_lt L 3
  refine ⟨?_, ?_, ?_⟩
  · show -9223372036854775808 ≤ ((pr L 0 : Nat) : Int) ∧ ((pr L 0 : Nat) : Int) ≤ 9223372036854775807; omega
  · show -9223372036854775808 ≤ ((gB L 2 / 8 % 16 : Nat) : Int) ∧ ((gB L 2 / 8 % 16 : Nat) : Int) ≤ 9223372036854775807; omega
  · show -9223372036854775808 ≤ ((gB L 3 % 16 : Nat) : Int) ∧ ((gB L 3 % 16 : Nat) : Int) ≤ 9223372036854775807; omega

/-- what is read of bytes is a message in reach -/
theorem rdMsg_wf {L : List UInt8} {m : Mc} (h : rdMsg L = .ok m) : m.h.Wf ∧ (m.qs.length ≤ 65535 ∧ ∀ q ∈ m.qs, q.fn.Wf) ∧ (m.an.length ≤ 65535 ∧ ∀ q ∈ m.an, q.fn.Wf) ∧ (m.un.length ≤ 65535 ∧ ∀ q ∈ m.un, q.fn.Wf) ∧ (m.mn.length ≤ 65535 ∧ ∀ q ∈ m.mn, q.fn.Wf) := by
  unfold rdMsg at h
  split at h
  · cases h
  match h1 : rdK (rdQ L) 12 (pr L 4), h with
  | .ok (qs, i1), h =>
    simp only [] at h
    match h2 : rdK (rdR L) i1 (pr L 6), h with
    | .ok (an, i2), h =>
      simp only [] at h
      match h3 : rdK (rdR L) i2 (pr L 8), h with
      | .ok (un, i3), h =>
        simp only [] at h
        match h4 : rdK (rdR L) i3 (pr L 10), h with
        | .ok (mn, i4), h =>
          simp only [] at h
          split at h
          · cases h
          cases h
          have p1 := pr_lt L 4
          have p2 := pr_lt L 6
          have p3 := pr_lt L 8
          have p4 := pr_lt L 10
          have l1 := rdK_len h1
          have l2 := rdK_len h2
          have l3 := rdK_len h3
          have l4 := rdK_len h4
          simp only at l1 l2 l3 l4
          refine ⟨rdHd_wf L, ⟨by simp only; omega, fun q hq => ?_⟩, ⟨by simp only; omega, fun q hq => ?_⟩, ⟨by simp only; omega, fun q hq => ?_⟩, ⟨by simp only; omega, fun q hq => ?_⟩⟩
          · obtain ⟨j, n, hj⟩ := rdK_mem h1 q hq
            exact (rdQ_wf hj).1
          · obtain ⟨j, n, hj⟩ := rdK_mem h2 q hq
            exact (rdR_wf hj).1
          · obtain ⟨j, n, hj⟩ := rdK_mem h3 q hq
            exact (rdR_wf hj).1
          · obtain ⟨j, n, hj⟩ := rdK_mem h4 q hq
            exact (rdR_wf hj).1

/-- a message that was read, in memory -/
theorem rdM_ok {w : World} {B0 : Nat} {L : List UInt8} {m : Mc} {vq va vu vm : Value} (h : rdMsg L = .ok m) (hq : QsAll w B0 vq m.qs) (ha : RsAll w B0 va m.an) (hu : RsAll w B0 vu m.un) (hm : RsAll w B0 vm m.mn) (B : HB) (hS : ∀ x ∈ B.s, x < B0) : MsOk B w m.fn vq va vu vm := by
  obtain ⟨g1, ⟨n1, g2⟩, ⟨n2, g3⟩, ⟨n3, g4⟩, n4, g5⟩ := rdMsg_wf h
  exact ⟨qsAll_sec hq B hS g2 (by omega), rsAll_sec ha B hS g3 (by omega), rsAll_sec hu B hS g4 (by omega), rsAll_sec hm B hS g5 (by omega), g1⟩

/-- messages that were read as they were written are the same -/
theorem tie_ok {B : HB} {w : World} {m : Ms} {vq va vu vm : Value} (h : MsOk B w m vq va vu vm) : msEq m.lst.fn m := by
  obtain ⟨_, hq⟩ := h.hq
  obtain ⟨_, ha⟩ := h.ha
  obtain ⟨_, hu⟩ := h.hu
  obtain ⟨_, hm⟩ := h.hm
  exact ms_tie hq.wf ha.wf hu.wf hm.wf

/-- the empty message -/
def zM : Ms := ⟨⟨0, false, 0, false, false, false, false, false, false, false, 0⟩, 0, fun _ => ⟨0, fun _ => .empty, 0, 0⟩, 0, fun _ => ⟨0, fun _ => .empty, 0, 0, 0, 0, fun _ => 0⟩, 0, fun _ => ⟨0, fun _ => .empty, 0, 0, 0, 0, fun _ => 0⟩, 0, fun _ => ⟨0, fun _ => .empty, 0, 0, 0, 0, fun _ => 0⟩⟩

theorem zM_ok (B : HB) (w : World) : MsOk B w zM (.slice none 0 0) (.slice none 0 0) (.slice none 0 0) (.slice none 0 0) :=
  ⟨⟨fun _ _ => undef, .inl ⟨rfl, rfl⟩, Cold.nil _ _, fun i hi => absurd hi (Nat.not_lt_zero _), fun i hi => absurd hi (Nat.not_lt_zero _), by decide⟩,
    ⟨fun _ _ => undef, .inl ⟨rfl, rfl⟩, Cold.nil _ _, fun i hi => absurd hi (Nat.not_lt_zero _), fun i hi => absurd hi (Nat.not_lt_zero _), by decide⟩,
    ⟨fun _ _ => undef, .inl ⟨rfl, rfl⟩, Cold.nil _ _, fun i hi => absurd hi (Nat.not_lt_zero _), fun i hi => absurd hi (Nat.not_lt_zero _), by decide⟩,
    ⟨fun _ _ => undef, .inl ⟨rfl, rfl⟩, Cold.nil _ _, fun i hi => absurd hi (Nat.not_lt_zero _), fun i hi => absurd hi (Nat.not_lt_zero _), by decide⟩, ⟨by decide, by decide, by decide⟩⟩

theorem zM_wr : ∃ L, wrMsg zM.lst = .ok L ∧ L.length = 12 := ⟨_, rfl, rfl⟩

set_option maxHeartbeats 2000000 in
set_option maxRecDepth 100000 in
theorem tsentA_any (w : World) : Calls Try.prog 4 #[] w fun e w' => e = .returned (.bool true) ∧ Fr [] w w' := by
  obtain ⟨L, hL, h12⟩ := zM_wr
  have HW := Lib.hid (writeM_any w ⟨0, []⟩ zM _ _ _ _ (zM_ok ⟨0, []⟩ w))
  rw [hL] at HW
  have HL := Lib.hid h12
  clear hL h12
  unfold WrMGood at HW
  simp only [msgV, zM] at HW
  go_enter Try.func4, Try.ntmps4
  go_wp2_with fail
  with_reducible refine HW.out.mono ?_
  rintro e w1 ⟨⟨z, hz, _⟩ | ⟨L', a, c, hL, rfl, ho⟩, hf⟩
  · cases hz
  cases hL
  have HF := Lib.hid hf
  rw [HL.out]
  clear hf ho
  go_wp2
  go_ret
  exact ⟨rfl, HF.out⟩

end Go.Proofs.Ytkdmkpdooiacaaa
