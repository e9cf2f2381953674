/- drr: shared. -/
import Derived.Test.YthopnlnknicgbaaDoorDrrEach
namespace Go.Proofs.YthopnlnknicgbaaDoor
open Go.RowKit

theorem Drr.congr {w : World} {B p gr n c : Nat} {pf : Nat → Nat} {lv : Nat → Value} {sh : Nat → Int} {s : Dst} {ln ln' : Nat → Nat} {li li' : Nat → Nat → Int} {waits : Nat} (h : Drr w B p gr n c pf lv sh s ln li waits)
    (h1 : ∀ i, i < n → ln i = ln' i) (h2 : ∀ i, i < n → ∀ k, k < ln i → li i k = li' i k) : Drr w B p gr n c pf lv sh s ln' li' waits :=
  ⟨h.blk, h.row, h.flow, fun i hi => by rw [← h1 i hi]; exact (h.line i hi).congr (fun k hk => by rw [h2 i hi k hk]), h.inj, h.apart, h.low⟩

theorem shared_law {s1 : Dst} {sh : Nat → Int} (hs : sh 0 = 5) (h : DReach 1 sh (fun _ => 1) (fun _ => 7) ⟨0, false, fun _ => 0⟩ s1) (h2 : dstops sh (fun _ => 1) (fun _ => 7) s1) (hp : s1.pos < 1) : (dgive sh (fun _ => 7) s1).cr 0 = 3 := by
  have hinv : s1.pos = 0 ∧ s1.vis = false ∧ (s1.cr 0 = 0 ∨ s1.cr 0 = 5) := by
    clear h2 hp
    induction h with
    | refl => exact ⟨rfl, rfl, .inl rfl⟩
    | step hr hn ih =>
      rename_i s'
      obtain ⟨h1, h2, h3⟩ := ih
      have hc : crd sh s' = s'.cr 0 + 5 := by unfold crd; rw [h2, h1, hs]; simp
      refine ⟨by show (s'.pos + 1) % 1 = 0; omega, rfl, ?_⟩
      have e : (dstep 1 sh (fun _ => 1) s').cr 0 = crd sh s' := by
        show (if 0 = s'.pos then (if 1 = 0 then 0 else crd sh s') else s'.cr 0) = _
        rw [if_pos h1.symm, if_neg (by omega)]
      rw [e, hc]
      rcases h3 with h3 | h3
      · right; omega
      · exfalso
        apply hn
        exact ⟨by simp, by show (7 : Int) ≤ crd sh s'; rw [hc, h3]; decide⟩
  obtain ⟨h1, h3, h4⟩ := hinv
  have hc : crd sh s1 = s1.cr 0 + 5 := by unfold crd; rw [h3, h1, hs]; simp
  have h5 := h2.2
  have e : (dgive sh (fun _ => 7) s1).cr 0 = crd sh s1 - 7 := by
    show (if 0 = s1.pos then crd sh s1 - 7 else s1.cr 0) = _
    rw [if_pos h1.symm]
  rw [e]
  simp only [] at h5
  omega

set_option maxRecDepth 100000 in
set_option maxHeartbeats 2000000 in
theorem shared_any (w : World) : Calls Tryd.prog 22 #[] w fun e w' => e = .returned (.bool true) ∧ Fr [] w w' := by
  go_enter Tryd.func22, Tryd.ntmps22
  go_wp2_with fail
  refine (drr_new _ (some ⟨w.heap.size, 0, none⟩) 1 1 (fun _ => 5) (rd_one w _ _ rfl)).mono ?_
  rintro e w1 ⟨hf1, ⟨_, _, _, _, p, gr, c, pf, rfl, hD⟩ | ⟨hno, _⟩⟩
  · have HF1 := Lib.hid (((Fr.refl [] w).alloc _).trans hf1 (by simp)); clear hf1
    have hB : w.heap.size + 1 ≤ w1.heap.size := by have := lt_of_blk hD.blk; have := hD.low.1; simp at this; omega
    simp only [World.size_alloc] at hD
    have HD := Lib.hid hD; clear hD
    go_wp2_with fail
    refine (drr_put_ok _ HD.out (by omega) hB 0 7 (by omega) (by omega) (by omega) (by omega)).mono ?_
    rintro e w2 ⟨rfl, v4, hD2, hf2, _⟩
    have HF2 := Lib.hid (hf2.fr HF1.out (fun y hy => by have := HD.out.inD_lt hy; omega)); clear hf2
    have hD3 : Drr w2 (w.heap.size + 1) p gr 1 c pf (fun j => if j = 0 then v4 else .slice none 0 0) (fun _ => 5) ⟨0, false, fun _ => 0⟩ (fun _ => 1) (fun _ _ => 7) 1 :=
      hD2.congr (fun i hi => by obtain rfl : i = 0 := by omega
                                rfl) (fun i hi k _ => by obtain rfl : i = 0 := by omega
                                                         simp)
    clear hD2
    have HD3 := Lib.hid hD3; clear hD3
    go_wp2_with fail
    refine (drr_next _ HD3.out (by omega) ⟨by simp, fun i hi => ⟨by simp, fun _ => by simp, fun _ => .inl rfl⟩⟩ (fun i hi => by simp) (fun i hi _ => by simp) (fun i hi => by simp) (by omega) (by omega) 0 (by omega) (by omega)).mono ?_
    rintro e w3 ⟨s1, lv', hr, hst, hp1, rfl, hD4, hfb, _⟩
    have h3 := shared_law rfl hr hst hp1
    have hp0 : s1.pos = 0 := by omega
    rw [hp0]
    have HF3 := Lib.hid (hfb.fr HF2.out (fun y hy => by have := HD3.out.inD_lt hy; omega)); clear hfb
    have HD4 := Lib.hid hD4; clear hD4
    have H3 := Lib.hid h3; clear h3 hp0
    go_wp2_with fail
    refine (drr_credit _ HD4.out (by omega)).mono ?_
    rintro e w4 ⟨a4, c4, rfl, ho4, hf4⟩
    have HD5 := Lib.hid (HD4.out.kept hf4 (by simp))
    have HF4 := Lib.hid (HF3.out.trans hf4 (by simp)); clear hf4 ho4
    go_wp2_with fail
    refine (drr_credit _ HD5.out (by omega)).mono ?_
    rintro e w5 ⟨a5, c5, rfl, ho5, hf5⟩
    have HF5 := Lib.hid (HF4.out.trans hf5 (by simp)); clear hf5
    obtain ⟨g5, cap5, e5, _, hr5⟩ := ho5.row (by omega)
    simp only [Value.slice.injEq] at e5
    obtain ⟨rfl, _, rfl⟩ := e5
    have k0 := hr5.cell 0 (by omega)
    rw [H3.out] at k0
    clear ho5 hr5
    go_wp2
    go_ret
    exact ⟨rfl, HF5.out⟩
  · exact absurd (by decide) hno

end Go.Proofs.YthopnlnknicgbaaDoor
