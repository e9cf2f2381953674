/- Cut of the reference: the messages that are whole; the law's rows. -/
import Derived.Test.YtlinembnfcdmcaaDoorFrameSt
namespace Go.Proofs.YtlinembnfcdmcaaDoor
open Go.RowKit

set_option maxHeartbeats 1000000 in
theorem pair_any (w : World) (a : Option Addr) (n c P : Nat) (G : Nat → Int) (hv : RdF w (.slice a n c) n (fun j => .int .u8 (G j))) (h : P + 2 ≤ n) (hb : ∀ j, 0 ≤ G j ∧ G j ≤ 255) (hn : n ≤ 1000000000000) :
    Calls Tryd.prog 46 #[.slice a n c, .int .i64 P] w fun e w' => e = .returned (.int .i64 (G P * 256 + G (P + 1))) ∧ ∃ q, w' = w.drewN q := by
  have hb0 := hb P
  have hb1 := hb (P + 1)
  obtain ⟨b, o, cp, he, _, _, _, hc⟩ := hv.shape (by omega)
  simp only [Value.slice.injEq, true_and] at he
  obtain ⟨rfl, rfl⟩ := he
  have k0 := hc P (by omega)
  have k1 := hc (P + 1) (by omega)
  clear hc hv hb
  have l0 : (0 : Int) ≤ (P : Int) := by omega
  have l1 : (P : Int) < (n : Int) := by omega
  have l2 : (P : Int) + 1 < (n : Int) := by omega
  generalize G P = x0 at *
  generalize G (P + 1) = x1 at *
  go_enter Tryd.func46, Tryd.ntmps46
  go_wp2_with fail
  go_quiet (fail)
  go_wp2
  go_ret
  exact ⟨rfl, nq, rfl⟩

def CutRel (w : World) (G : Nat → Int) (n : Nat) (out at' : Value) (wr : World) : Prop :=
  ∃ (k : Nat) (V : Nat → Value), at' = .int .i64 (pos G k) ∧ pos G k ≤ n ∧ OwnF wr w.heap.size 34 out k V ∧
    (∀ i, i < k → RdF w (V i) (pos G (i + 1) - pos G i - 2) (fun j => .int .u8 (G (pos G i + 2 + j)))) ∧ Fr [] w wr

/-- what 'Cut' leaves -/
def CutPost (w : World) (G : Nat → Int) (n : Nat) (e : Ending) (w' : World) : Prop :=
  ∃ (k : Nat) (vw : Value) (V : Nat → Value), pos G k ≤ n ∧ n < pos G (k + 1) ∧ e = .returned (.tuple #[vw, .int .i64 ((n - pos G k : Nat) : Int)]) ∧ OwnF w' w.heap.size 34 vw k V ∧
    (∀ i, i < k → RdF w (V i) (pos G (i + 1) - pos G i - 2) (fun j => .int .u8 (G (pos G i + 2 + j)))) ∧ Fr [] w w'

theorem cut_step {w wr w2 w4 : World} {G : Nat → Int} {n k E : Nat} {V : Nat → Value} {out v4 x : Value} (hP : pos G (k + 1) = pos G k + 2 + E) (hle : pos G (k + 1) ≤ n)
    (hO : OwnF wr w.heap.size 34 out k V) (hV : ∀ i, i < k → RdF w (V i) (pos G (i + 1) - pos G i - 2) (fun j => .int .u8 (G (pos G i + 2 + j)))) (hf : Fr [] w wr) (hf2 : Fr [] wr w2) (o : Obj)
    (hx : RdF w x E (fun j => .int .u8 (G (pos G k + 2 + j)))) (ho4 : OwnF w4 w.heap.size 34 v4 (k + 1) (app k V (fun _ => x))) (hf4 : Fr out.ownBlock.toList (w2.alloc o) w4) :
    CutRel w G n v4 (.int .i64 (pos G (k + 1))) w4 := by
  refine ⟨k + 1, app k V (fun _ => x), rfl, hle, ho4, fun i hi => ?_, ((hf.trans hf2 (by simp)).alloc o).trans hf4 (fun y hy => .inr (hO.ge y hy))⟩
  unfold app
  by_cases hik : i < k
  · rw [if_pos hik]; exact hV i hik
  · obtain rfl : i = k := by omega
    rw [if_neg hik, show pos G (i + 1) - pos G i - 2 = E by omega]
    exact hx

set_option maxRecDepth 100000 in
set_option maxHeartbeats 4000000 in
theorem cut_any (w : World) (a : Option Addr) (n c : Nat) (G : Nat → Int) (hv : RdF w (.slice a n c) n (fun j => .int .u8 (G j))) (hb : ∀ j, 0 ≤ G j ∧ G j ≤ 255) (hn : n ≤ 1000000000000) :
    Calls Tryd.prog 22 #[.slice a n c] w (CutPost w G n) := by
  have hcap := hv.le_cap
  have HV := Lib.hid hv; clear hv
  have HB := Lib.hid hb; clear hb
  go_enter Tryd.func22, Tryd.ntmps22
  go_wp2
  go_loopw [4, 5] (fun out at' wr => CutRel w G n out at' wr) (fun _ at' _ => n + 1 - (intOf at').toNat)
  case atStart => exact ⟨0, fun _ => undef, rfl, Nat.zero_le _, OwnF.nil _ _ _ _, fun i hi => by omega, Fr.refl _ _⟩
  case round =>
    obtain ⟨k, V, rfl, hpk, ho, hVV, hf⟩ := hrel
    have HO := Lib.hid ho; clear ho
    have HVV := Lib.hid hVV; clear hVV
    have HF := Lib.hid hf; clear hf
    have hsz := HF.out.size
    obtain ⟨E, hE⟩ : ∃ E : Nat, (E : Int) = G (pos G k) * 256 + G (pos G k + 1) := ⟨(G (pos G k) * 256 + G (pos G k + 1)).toNat, by have := HB.out (pos G k); have := HB.out (pos G k + 1); omega⟩
    have hps : pos G (k + 1) = pos G k + 2 + E := by show pos G k + 2 + (G (pos G k) * 256 + G (pos G k + 1)).toNat = _; omega
    have hkn := pos_two G k
    have hE2 : E ≤ 65535 := by have := HB.out (pos G k); have := HB.out (pos G k + 1); omega
    have HPS := Lib.hid hps; clear hps
    have hpair : ∀ (wx : World), Fr [] w wx → pos G k + 2 ≤ n → Calls Tryd.prog 46 #[.slice a n c, .int .i64 (pos G k : Nat)] wx fun e w' => e = .returned (.int .i64 E) ∧ ∃ q, w' = wx.drewN q := fun wx hfx h2 => by
      rw [hE]
      exact pair_any wx a n c (pos G k) G (HV.out.fr hfx (by simp)) h2 HB.out hn
    have HPAIR := Lib.hid hpair; clear hpair hE
    generalize hPP : pos G k = P at *
    have HPP := Lib.hid hPP; clear hPP
    by_cases h1 : P + 2 ≤ n
    · have l1 : (P : Int) + 2 ≤ (n : Int) := by omega
      by_cases h2 : P + 2 + E ≤ n
      · have l2 : (P : Int) + 2 + (E : Int) ≤ (n : Int) := by omega
        go_wp2_with fail
        refine (HPAIR.out _ HF.out h1).mono ?_
        rintro e w1 ⟨rfl, q, rfl⟩
        go_wp2_with fail
        refine (HPAIR.out _ (HF.out.drewN q) h1).mono ?_
        rintro e w2 ⟨rfl, q2, rfl⟩
        have hf2 : Fr [] wr ((wr.drewN q).drewN q2) := ((Fr.refl [] wr).drewN q).drewN q2
        have HO2 := Lib.hid (HO.out.kept hf2 (by simp))
        have HF2 := Lib.hid hf2; clear hf2
        have hs2 := HF2.out.size
        generalize (wr.drewN q).drewN q2 = w2 at *
        by_cases hcat : c ≤ P + 2
        · go_wp2_with (at_builtin; refine wpList_app rfl (.tmp 26) (.tmp 35) 42 rfl 34 infoBs Tryd.underlying42 rfl (HO2.out.alloc _) rfl (rd_one _ _ _ (by simp)) rfl (fun _ _ => rfl) (by unfold maxLen; omega) (by omega) (by simp; omega) ?_; intro v4 w4 ho4 hf4 hn4)
          have hPP := HPP.out
          subst hPP
          have hx : RdF w (.slice a E 0) E (fun j => .int .u8 (G (pos G k + 2 + j))) := by
            have hE0 : E = 0 := by omega
            subst hE0
            exact HV.out.empty _
          have hrel := cut_step HPS.out (by rw [HPS.out]; omega) HO.out HVV.out HF.out HF2.out _ hx ho4 hf4
          rw [HPS.out] at hrel
          refine ⟨by rw [show ((pos G k : Nat) : Int) + (2 + (E : Int)) = ((pos G k + 2 + E : Nat) : Int) by omega]; exact hrel, ?_⟩
          simp only [intOf]
          omega
        · go_wp2_with (at_builtin; refine wpList_app rfl (.tmp 26) (.tmp 35) 42 rfl 34 infoBs Tryd.underlying42 rfl (HO2.out.alloc _) rfl (rd_one _ _ _ (by simp)) rfl (fun _ _ => rfl) (by unfold maxLen; omega) (by omega) (by simp; omega) ?_; intro v4 w4 ho4 hf4 hn4)
          have hPP := HPP.out
          subst hPP
          have hx := HV.out.part (pos G k + 2) (pos G k + 2 + E) (by omega) h2
          rw [show pos G k + 2 + E - (pos G k + 2) = E by omega] at hx
          obtain ⟨b, o, cp, hq, _⟩ := HV.out.shape (by omega)
          simp only [Value.slice.injEq, true_and] at hq
          obtain ⟨rfl, rfl⟩ := hq
          have hrel := cut_step HPS.out (by rw [HPS.out]; omega) HO.out HVV.out HF.out HF2.out _ (x := _) (by simpa [Addr.add] using hx) ho4 hf4
          rw [HPS.out] at hrel
          refine ⟨by rw [show ((pos G k : Nat) : Int) + (2 + (E : Int)) = ((pos G k + 2 + E : Nat) : Int) by omega]; exact hrel, ?_⟩
          simp only [intOf]
          omega
      · have l2 : ¬ (P : Int) + 2 + (E : Int) ≤ (n : Int) := by omega
        go_wp2_with fail
        refine (HPAIR.out _ HF.out h1).mono ?_
        rintro e w1 ⟨rfl, q, rfl⟩
        go_wp2
        go_ret2
        have hPP := HPP.out
        subst hPP
        exact ⟨k, _, V, hpk, by rw [HPS.out]; omega, by rw [Int.natCast_sub hpk]; rfl, HO.out.kept ((Fr.refl [] wr).drewN q) (by simp), HVV.out, HF.out.drewN q⟩
    · have l1 : ¬ (P : Int) + 2 ≤ (n : Int) := by omega
      go_wp2
      go_ret2
      have hPP := HPP.out
      subst hPP
      exact ⟨k, _, V, hpk, by rw [HPS.out]; omega, by rw [Int.natCast_sub hpk]; rfl, HO.out, HVV.out, HF.out⟩

set_option maxHeartbeats 1000000 in
theorem rows_same (w : World) (a b : Option Addr) (n c d : Nat) (V U : Nat → Value) (ln : Nat → Nat) (g : Nat → Nat → Int) (hv : RdF w (.slice a n c) n V) (hu : RdF w (.slice b n d) n U)
    (hV : ∀ i, i < n → RdF w (V i) (ln i) (fun j => .int .u8 (g i j))) (hU : ∀ i, i < n → RdF w (U i) (ln i) (fun j => .int .u8 (g i j))) (hl : ∀ i, i < n → ln i ≤ 9223372036854775807) (hn : n ≤ 1000000000000) :
    Calls Tryd.prog 23 #[.slice a n c, .slice b n d] w fun e w' => e = .returned (.bool true) ∧ ∃ q, w' = w.drewN q := by
  have HV := Lib.hid hv; clear hv
  have HU := Lib.hid hu; clear hu
  have HVV := Lib.hid hV; clear hV
  have HUU := Lib.hid hU; clear hU
  have HL := Lib.hid hl; clear hl
  go_enter Tryd.func23, Tryd.ntmps23
  go_wp2
  go_loopw [5] (fun i wr => ∃ k : Nat, k ≤ n ∧ i = .int .i64 k ∧ Hid (∃ q, wr = w.drewN q)) (fun i _ => n - (intOf i).toNat)
  case atStart => exact ⟨0, by omega, rfl, 0, rfl⟩
  case round =>
    obtain ⟨k, hk, rfl, HW⟩ := hrel
    have hfr : Fr [] w wr := by obtain ⟨r, rfl⟩ := HW.out; exact (Fr.refl _ _).drewN r
    have HFR := Lib.hid hfr; clear hfr
    by_cases hlt : k < n
    · obtain ⟨b1, o1, c1, he1, _, _, _, hc1⟩ := HV.out.shape (by omega)
      obtain ⟨b2, o2, c2, he2, _, _, _, hc2⟩ := HU.out.shape (by omega)
      simp only [Value.slice.injEq, true_and] at he1 he2
      obtain ⟨rfl, rfl⟩ := he1
      obtain ⟨rfl, rfl⟩ := he2
      have k1 := HFR.out.cell (hc1 k hlt) (by simp)
      have k2 := HFR.out.cell (hc2 k hlt) (by simp)
      obtain ⟨av, cv, hav⟩ := (HVV.out k hlt).slice
      obtain ⟨au, cu, hau⟩ := (HUU.out k hlt).slice
      rw [hav] at k1
      rw [hau] at k2
      have hbyt : ∀ u : Nat, Calls Tryd.prog 26 #[.slice av (ln k) cv, .slice au (ln k) cu] (wr.drewN u) fun e w' => e = .returned (.bool true) ∧ ∃ m, w' = (wr.drewN u).drewN m := fun u => by
        have r1 := (HVV.out k hlt).fr (HFR.out.drewN u) (by simp)
        have r2 := (HUU.out k hlt).fr (HFR.out.drewN u) (by simp)
        rw [hav] at r1
        rw [hau] at r2
        refine (bytes_any _ _ _ _ _ _ _ _ _ r1 r2 (HL.out k hlt) (HL.out k hlt)).mono ?_
        rintro e w' ⟨rfl, hq⟩
        exact ⟨by rw [(eqUpTo_iff _ _ _).2 (fun _ _ => rfl)]; simp, hq⟩
      have HBY := Lib.hid hbyt; clear hbyt hc1 hc2 hav hau
      have k0 : (0 : Int) ≤ (k : Int) := by omega
      have k3 : (k : Int) < (n : Int) := by omega
      go_wp2_with fail
      go_quiet ((go_at_call 26; exact Calls.quiet_of (HBY.out _)))
      go_wp2
      go_roundw
      case rel => exact ⟨k + 1, by omega, by go_num, Lib.hid (by obtain ⟨r, rfl⟩ := HW.out; exact ⟨_, World.drewN_drewN ..⟩)⟩
      case measure => simp [intOf]; omega
    · obtain rfl : k = n := by omega
      go_wp2
      go_ret
      exact ⟨rfl, HW.out⟩

end Go.Proofs.YtlinembnfcdmcaaDoor
