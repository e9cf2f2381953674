/- drr: Next. -/
import Derived.Test.YthopnlnknicgbaaDoorDrrOps
import Derived.Test.YthopnlnknicgbaaDoorDelete
namespace Go.Proofs.YthopnlnknicgbaaDoor
open Go.RowKit

inductive DReach (n : Nat) (sh : Nat → Int) (ln : Nat → Nat) (hd : Nat → Int) (s : Dst) : Dst → Prop
  | refl : DReach n sh ln hd s s
  | step {s' : Dst} : DReach n sh ln hd s s' → ¬ dstops sh ln hd s' → DReach n sh ln hd s (dstep n sh ln s')

theorem DReach.inv {n : Nat} {B : Int} {sh : Nat → Int} {ln : Nat → Nat} {hd : Nat → Int} {s s' : Dst} (hr : DReach n sh ln hd s s') (h : DInv n B sh ln hd s) (hs : ∀ i, i < n → 1 ≤ sh i) : DInv n B sh ln hd s' := by
  induction hr with
  | refl => exact h
  | step _ hn ih => exact ih.step hs hn

section
variable {w w' : World} {B p gr n c : Nat} {pf : Nat → Nat} {lv : Nat → Value} {sh : Nat → Int} {s s' : Dst} {ln : Nat → Nat} {li : Nat → Nat → Int} {waits : Nat}

theorem Drr.eqs (h : Drr w B p gr n c pf lv sh s ln li waits) (e1 : s'.pos = s.pos) (e2 : s'.vis = s.vis) (e3 : ∀ j, j < n → s'.cr j = s.cr j) : Drr w B p gr n c pf lv sh s' ln li waits :=
  ⟨by rw [e1, e2]; exact h.blk, h.row, fun i hi => by rw [e3 i hi]; exact h.flow i hi, h.line, h.inj, h.apart, h.low⟩

theorem Drr.credit (h : Drr w B p gr n c pf lv sh s ln li waits) {i : Nat} (hi : i < n) (x : Int) :
    Drr (w.setCell ⟨pf i, 1, none⟩ (.int .i64 x)) B p gr n c pf lv sh ⟨s.pos, s.vis, fun j => if j = i then x else s.cr j⟩ ln li waits ∧ Fr [pf i] w (w.setCell ⟨pf i, 1, none⟩ (.int .i64 x)) := by
  have hf : Fr [pf i] w (w.setCell ⟨pf i, 1, none⟩ (.int .i64 x)) := (Fr.refl [pf i] w).setCell (by simp) _
  have b1 := blk_set (h.flow i hi) 1 (.int .i64 x) rfl
  have hne := blk_ne (h.flow i hi) h.blk (by decide)
  refine ⟨h.upd (s' := ⟨s.pos, s.vis, fun j => if j = i then x else s.cr j⟩) (waits' := waits) (v' := lv i) (m := ln i) (f := li i) i hi hf (fun y hy => .inr (.inl (by simpa using hy))) (hf.blk h.blk (by simpa using hne.symm)) (by simpa using b1) ?_ (fun y hy => .inl hy) (fun j _ hj => by simp [hj]) (fun j _ => ⟨rfl, rfl, rfl⟩) ⟨rfl, rfl, rfl⟩, hf⟩
  refine (h.line i hi).kept hf (fun g hg hm => ?_)
  obtain ⟨c', _, _, hr⟩ := (h.line i hi).own hg
  exact hr.ne_blk (h.flow i hi) (by decide) (by simpa using hm)

theorem Drr.vis (h : Drr w B p gr n c pf lv sh s ln li waits) : Drr (w.setCell ⟨p, 2, none⟩ (.bool true)) B p gr n c pf lv sh ⟨s.pos, true, s.cr⟩ ln li waits ∧ Fr [p] w (w.setCell ⟨p, 2, none⟩ (.bool true)) := by
  have hf : Fr [p] w (w.setCell ⟨p, 2, none⟩ (.bool true)) := (Fr.refl [p] w).setCell (by simp) _
  exact ⟨h.all hf (blk_set h.blk 2 (.bool true) rfl) (fun j _ => rfl), hf⟩

/-- what stands in memory when the first of a line has been taken -/
theorem Drr.take (h : Drr w B p gr n c pf lv sh s ln li waits) {i g cap : Nat} (hi : i < n) (hlv : lv i = .slice (some ⟨g, 0, none⟩) (ln i) cap) (hg : B ≤ g) (hln : 0 < ln i) {w3 : World} (hf3 : Fr [g] w w3)
    (hr3 : RowI w3 g (ln i) cap (fun j => if j < 0 then li i j else if j + 1 < ln i then li i (j + 1) else 0)) (hw : 0 < waits) :
    (w3.cell? ⟨pf i, 2, none⟩ = some (lv i) ∧ w3.frozen? ⟨pf i, 2, none⟩ = false ∧ (w3.setCell ⟨pf i, 2, none⟩ (.slice (some ⟨g, 0, none⟩) (ln i - 1) cap)).cell? ⟨p, 3, none⟩ = some (.int .i64 waits) ∧
      (w3.setCell ⟨pf i, 2, none⟩ (.slice (some ⟨g, 0, none⟩) (ln i - 1) cap)).frozen? ⟨p, 3, none⟩ = false) ∧
    ((((w3.setCell ⟨pf i, 2, none⟩ (.slice (some ⟨g, 0, none⟩) (ln i - 1) cap)).setCell ⟨p, 3, none⟩ (.int .i64 (waits - 1))).cell? ⟨p, 1, none⟩ = some (.int .i64 s.pos)) ∧ w3.cell? ⟨p, 3, none⟩ = some (.int .i64 waits) ∧ w3.cell? ⟨p, 1, none⟩ = some (.int .i64 s.pos)) ∧
    Drr ((w3.setCell ⟨pf i, 2, none⟩ (.slice (some ⟨g, 0, none⟩) (ln i - 1) cap)).setCell ⟨p, 3, none⟩ (.int .i64 (waits - 1))) B p gr n c pf (fun j => if j = i then .slice (some ⟨g, 0, none⟩) (ln i - 1) cap else lv j) sh s
      (fun j => if j = i then ln j - 1 else ln j) (fun j => if j = i then (fun k => li j (k + 1)) else li j) (waits - 1) ∧
    FrP (InD p gr n pf lv) w ((w3.setCell ⟨pf i, 2, none⟩ (.slice (some ⟨g, 0, none⟩) (ln i - 1) cap)).setCell ⟨p, 3, none⟩ (.int .i64 (waits - 1))) ∧ ∀ y, InD p gr n pf (fun j => if j = i then .slice (some ⟨g, 0, none⟩) (ln i - 1) cap else lv j) y → InD p gr n pf lv y := by
  have hown : (lv i).ownBlock = some g := by rw [hlv]; rfl
  obtain ⟨c', _, _, hr⟩ := (h.line i hi).own hown
  have hgp := hr.ne_blk h.blk (by decide)
  have hgf := hr.ne_blk (h.flow i hi) (by decide)
  have b1 := hf3.blk h.blk (by simpa using hgp.symm)
  have b2 := hf3.blk (h.flow i hi) (by simpa using hgf.symm)
  have hne := blk_ne (h.flow i hi) h.blk (by decide)
  have fa : Fr [pf i] w3 (w3.setCell ⟨pf i, 2, none⟩ (.slice (some ⟨g, 0, none⟩) (ln i - 1) cap)) := (Fr.refl [pf i] w3).setCell (by simp) _
  have b3 := fa.blk b1 (by simpa using hne.symm)
  have b4 := blk_set b2 2 (.slice (some ⟨g, 0, none⟩) (ln i - 1) cap) rfl
  have hcast : ((waits : Int) - 1) = ((waits - 1 : Nat) : Int) := by omega
  have fb : Fr [p] (w3.setCell ⟨pf i, 2, none⟩ (.slice (some ⟨g, 0, none⟩) (ln i - 1) cap)) ((w3.setCell ⟨pf i, 2, none⟩ (.slice (some ⟨g, 0, none⟩) (ln i - 1) cap)).setCell ⟨p, 3, none⟩ (.int .i64 (waits - 1))) := (Fr.refl [p] _).setCell (by simp) _
  have b5 := blk_set b3 3 (.int .i64 ((waits : Int) - 1)) rfl
  have b6 := fb.blk b4 (by simpa using hne)
  have hfr : Fr [p, pf i, g] w ((w3.setCell ⟨pf i, 2, none⟩ (.slice (some ⟨g, 0, none⟩) (ln i - 1) cap)).setCell ⟨p, 3, none⟩ (.int .i64 (waits - 1))) :=
    ((((Fr.refl [p, pf i, g] w).trans hf3 (by simp)).trans fa (by simp)).trans fb (by simp))
  refine ⟨⟨blk_cell b2 2 rfl, blk_frozen b2 2, blk_cell b3 3 rfl, blk_frozen b3 3⟩, ⟨blk_cell b5 1 rfl, blk_cell b1 3 rfl, blk_cell b1 1 rfl⟩, ?_, ⟨_, hfr, fun y hy => ?_⟩, fun y hy => ?_⟩
  · refine h.upd (s' := s) (waits' := waits - 1) (v' := .slice (some ⟨g, 0, none⟩) (ln i - 1) cap) (m := ln i - 1) (f := fun k => li i (k + 1)) i hi hfr (fun y hy => ?_) (by rw [← hcast]; simpa using b5) (by simpa using b6) ?_ (fun y hy => ?_) (fun j _ _ => rfl) (fun j hj => by simp [hj]) (by simp)
    · simp only [List.mem_cons, List.not_mem_nil, or_false] at hy
      rcases hy with e | e | e
      · exact .inl e
      · exact .inr (.inl e)
      · exact .inr (.inr (.inl (by rw [hown, e])))
    · refine .inr ⟨g, cap, rfl, hg, ?_⟩
      have hr4 := (hr3.take (ln i - 1) (by omega)).congr (f' := fun j => .int .i64 (li i (j + 1))) (fun j hj => by simp only []; rw [if_neg (by omega), if_pos (by omega)])
      exact (hr4.kept fa (by simpa using hgf)).kept fb (by simpa using hgp)
    · left
      simp [Value.ownBlock] at hy
      rw [hown, hy]
  · simp only [List.mem_cons, List.not_mem_nil, or_false] at hy
    rcases hy with e | e | e
    · exact .inl e
    · exact .inr (.inr ⟨i, hi, .inl e⟩)
    · exact .inr (.inr ⟨i, hi, .inr (by rw [hown, e])⟩)
  · rcases hy with e | e | ⟨j, hj, e | e⟩
    · exact .inl e
    · exact .inr (.inl e)
    · exact .inr (.inr ⟨j, hj, .inl e⟩)
    · simp only [] at e
      by_cases hji : j = i
      · rw [if_pos hji] at e
        simp [Value.ownBlock] at e
        exact .inr (.inr ⟨i, hi, .inr (by rw [hown, e])⟩)
      · rw [if_neg hji] at e
        exact .inr (.inr ⟨j, hj, .inr e⟩)
end

theorem drr_next_none (w : World) {B p gr n c : Nat} {pf : Nat → Nat} {lv : Nat → Value} {sh : Nat → Int} {s : Dst} {ln : Nat → Nat} {li : Nat → Nat → Int} (h : Drr w B p gr n c pf lv sh s ln li 0) :
    Calls Tryd.prog 30 #[.pointer (some ⟨p, 0, none⟩)] w fun e w' => e = .returned (.tuple #[.int .i64 0, .int .i64 0, .bool false]) ∧ w' = w := by
  have c3 := blk_cell h.blk 3 rfl
  clear h
  go_enter Tryd.func30, Tryd.ntmps30
  go_wp2
  go_ret3
  exact ⟨rfl, rfl⟩

/-- what 'Next' leaves where something waits -/
def DNext (w : World) (B p gr n c : Nat) (pf : Nat → Nat) (lv : Nat → Value) (sh : Nat → Int) (s : Dst) (ln : Nat → Nat) (li : Nat → Nat → Int) (waits : Nat) (e : Ending) (w' : World) : Prop :=
  ∃ s1 lv', DReach n sh ln (fun i => li i 0) s s1 ∧ dstops sh ln (fun i => li i 0) s1 ∧ s1.pos < n ∧ e = .returned (.tuple #[.int .i64 s1.pos, .int .i64 (li s1.pos 0), .bool true]) ∧
    Drr w' B p gr n c pf lv' sh (dgive sh (fun i => li i 0) s1) (fun j => if j = s1.pos then ln j - 1 else ln j) (fun j => if j = s1.pos then (fun k => li j (k + 1)) else li j) (waits - 1) ∧ FrP (InD p gr n pf lv) w w' ∧ ∀ y, InD p gr n pf lv' y → InD p gr n pf lv y

set_option maxRecDepth 100000 in
set_option maxHeartbeats 2000000 in
theorem drr_next (w : World) {B p gr n c : Nat} {pf : Nat → Nat} {lv : Nat → Value} {sh : Nat → Int} {s : Dst} {ln : Nat → Nat} {li : Nat → Nat → Int} {waits : Nat} (h : Drr w B p gr n c pf lv sh s ln li waits) (hn : n ≤ 40)
    (hinv : DInv n 10000 sh ln (fun i => li i 0) s) (hs : ∀ i, i < n → 1 ≤ sh i ∧ sh i ≤ 10000) (hh : ∀ i, i < n → 0 < ln i → 1 ≤ li i 0 ∧ li i 0 ≤ 10000) (hl : ∀ i, i < n → ln i ≤ 1000) (hw : 0 < waits) (hw2 : waits ≤ 1000)
    (e0 : Nat) (he : e0 < n) (hle : 0 < ln e0) :
    Calls Tryd.prog 30 #[.pointer (some ⟨p, 0, none⟩)] w (DNext w B p gr n c pf lv sh s ln li waits) := by
  have c3 := blk_cell h.blk 3 rfl
  have H := Lib.hid h; clear h
  have HI := Lib.hid hinv; clear hinv
  have HS := Lib.hid hs; clear hs
  have HH := Lib.hid hh; clear hh
  have HL := Lib.hid hl; clear hl
  have hwz : ((waits : Int) == 0) = false := by simp; omega
  obtain ⟨R, hR⟩ : ∃ R : Nat → World → Prop, R = fun m wr => ∃ s', DReach n sh ln (fun i => li i 0) s s' ∧ Drr wr B p gr n c pf lv sh s' ln li waits ∧ dleft n (fun i => li i 0) e0 s' ≤ m ∧ FrP (InD p gr n pf lv) w wr := ⟨_, rfl⟩
  have HR := Lib.hid hR; clear hR
  go_enter Tryd.func30, Tryd.ntmps30
  go_wp2
  go_loopw [] (fun wr => ∃ m, R m wr) (fun wr => lm R wr)
  case atStart => rw [HR.out]; exact ⟨_, s, .refl, H.out, Nat.le_refl _, FrP.refl _ _⟩
  case round =>
    have hspec := lm_spec hrel
    clear hrel
    have HLM := Lib.hid (fun m (hm : R m wr) => lm_le hm)
    generalize hmm : lm R wr = mm at *
    rw [HR.out] at hspec
    obtain ⟨s', hre, hD, hleft, hfb⟩ := hspec
    have HRE := Lib.hid hre
    have hi' := hre.inv HI.out (fun i hi => (HS.out i hi).1)
    have hp := hi'.1
    have hcb := hi'.crd_bd (by omega) (fun i hi => (HS.out i hi).1) HH.out
    have hsp := HS.out _ hp
    have hcr := (hi'.2 _ hp).1
    have HI' := Lib.hid hi'; clear hi' hre
    have HFB := Lib.hid hfb; clear hfb
    have HLE := Lib.hid hleft; clear hleft
    have HMM := Lib.hid hmm; clear hmm
    have c0 := blk_cell hD.blk 0 rfl
    have c1 := blk_cell hD.blk 1 rfl
    have c2 : wr.cell? ⟨p, 2, none⟩ = some (.bool s'.vis) := blk_cell hD.blk 2 rfl
    obtain ⟨vb, hvb⟩ : ∃ vb, vb = s'.vis := ⟨_, rfl⟩
    rw [← hvb] at c2
    have HVB := Lib.hid hvb; clear hvb
    have f2 := blk_frozen hD.blk 2
    have cr := hD.row.cell _ hp
    have d0 := blk_cell (hD.flow _ hp) 0 rfl
    have d1 := blk_cell (hD.flow _ hp) 1 rfl
    have d2 := blk_cell (hD.flow _ hp) 2 rfl
    have e1 := blk_frozen (hD.flow _ hp) 1
    have hlp := HL.out _ hp
    obtain ⟨av, cv, hav⟩ := (hD.line _ hp).rd.slice
    rw [hav] at d2
    have HD := Lib.hid hD; clear hD
    have HAV := Lib.hid hav; clear hav
    have p0 : (0 : Int) ≤ (s'.pos : Int) := by omega
    have p3 : (s'.pos : Int) < (n : Int) := by omega
    by_cases hz : ln s'.pos = 0
    · have hzz : ((ln s'.pos : Int) == 0) = true := by simp [hz]
      have HN := Lib.hid (show ¬ dstops sh ln (fun i => li i 0) s' from fun hx => by have := hx.1; omega)
      have HZ := Lib.hid hz; clear hz
      go_wp2_with fail
      go_quiet (fail)
      go_wp2_with fail
      refine (drr_turn _ ((HD.out.credit hp 0).1.kept ((Fr.refl [] _).drewN nq) (by simp)) hp hn).mono ?_
      rintro e w2 ⟨rfl, hD2, hf2⟩
      have hD3 := hD2.eqs (s' := dstep n sh ln s') rfl rfl (fun j hj => by
        show (if j = s'.pos then (if ln j = 0 then 0 else crd sh s') else s'.cr j) = (if j = s'.pos then 0 else s'.cr j)
        by_cases hj : j = s'.pos
        · rw [if_pos hj, if_pos hj, if_pos (by rw [hj]; exact HZ.out)]
        · rw [if_neg hj, if_neg hj])
      have HFB3 := Lib.hid ((HFB.out.trans (FrP.of ((HD.out.credit hp 0).2.drewN nq) (by simp; exact .inr (.inr ⟨_, hp, .inl rfl⟩)))).trans (FrP.of hf2 (by simp; exact .inl rfl)))
      have HD3 := Lib.hid hD3; clear hD3 hD2 hf2
      have hlt := dleft_step (hd := fun i => li i 0) e0 he hp hle (fun i hi => (HS.out i hi).1) HN.out
      have hfin : R (dleft n (fun i => li i 0) e0 (dstep n sh ln s')) w2 := by rw [HR.out]; exact ⟨_, .step HRE.out HN.out, HD3.out, Nat.le_refl _, HFB3.out⟩
      have HFIN := Lib.hid hfin
      have HLT := Lib.hid (show lm R w2 < mm from by have h1 := lm_le hfin; have h2 := HLE.out; omega)
      clear hfin hlt
      go_wp2
      go_roundw
      case rel => exact ⟨_, HFIN.out⟩
      case measure => exact HLT.out
    · have hln : 0 < ln s'.pos := by omega
      have hzz : ((ln s'.pos : Int) == 0) = false := by simp; omega
      obtain ⟨g, cap, e5, hg5, hr5⟩ := (HD.out.line _ hp).row hln
      have e6 := HAV.out
      rw [e5] at e6
      simp only [Value.slice.injEq, true_and] at e6
      obtain ⟨rfl, rfl⟩ := e6
      have hhp := HH.out _ hp hln
      have k0 := hr5.cell 0 hln
      have hg0 : (0 : Int) < (ln s'.pos : Int) := by omega
      have E5 := Lib.hid e5; clear e5
      have HR5 := Lib.hid hr5; clear hr5
      go_upto_if 37 with fail
      go_quiet (fail)
      go_upto_if 37 with fail
      go_cut [] (fun wy => Drr wy B p gr n c pf lv sh ⟨s'.pos, true, fun j => if j = s'.pos then crd sh s' else s'.cr j⟩ ln li waits ∧ FrP (InD p gr n pf lv) w wy)
      case first =>
        cases vb with
        | true =>
          have hvis := HVB.out.symm
          have hcd : crd sh s' = s'.cr s'.pos := by unfold crd; rw [if_pos hvis]
          have HCD := Lib.hid hcd; have HVIS := Lib.hid hvis; clear hcd hvis
          go_wp2_with fail
          go_meet
          refine ⟨(HD.out.kept ((Fr.refl [] _).drewN nq) (by simp)).eqs rfl HVIS.out.symm (fun j hj => ?_), HFB.out.drewN nq⟩
          show (if j = s'.pos then crd sh s' else s'.cr j) = s'.cr j
          by_cases hj : j = s'.pos
          · rw [if_pos hj, HCD.out, hj]
          · rw [if_neg hj]
        | false =>
          have hvis := HVB.out
          have hcd : crd sh s' = s'.cr s'.pos + sh s'.pos := by unfold crd; rw [if_neg (by rw [← hvis]; simp)]
          clear hvis
          have HCD := Lib.hid hcd
          have hb : -9223372036854775808 ≤ s'.cr s'.pos + sh s'.pos ∧ s'.cr s'.pos + sh s'.pos ≤ 9223372036854775807 := by omega
          clear hcd hcb hsp hcr
          have hk : ∀ q, Drr (wr.drewN q) B p gr n c pf lv sh s' ln li waits := fun q => HD.out.kept ((Fr.refl [] _).drewN q) (by simp)
          have hcv : ∀ q, Drr (((wr.drewN q).setCell ⟨pf s'.pos, 1, none⟩ (.int .i64 (s'.cr s'.pos + sh s'.pos))).setCell ⟨p, 2, none⟩ (.bool true)) B p gr n c pf lv sh ⟨s'.pos, true, fun j => if j = s'.pos then crd sh s' else s'.cr j⟩ ln li waits ∧
              FrP (InD p gr n pf lv) w (((wr.drewN q).setCell ⟨pf s'.pos, 1, none⟩ (.int .i64 (s'.cr s'.pos + sh s'.pos))).setCell ⟨p, 2, none⟩ (.bool true)) := fun q =>
            ⟨((hk q).credit hp (s'.cr s'.pos + sh s'.pos)).1.vis.1.eqs rfl rfl (fun j _ => by rw [HCD.out]),
              ((HFB.out.drewN q).trans (FrP.of ((hk q).credit hp _).2 (by simp; exact .inr (.inr ⟨_, hp, .inl rfl⟩)))).trans (FrP.of ((hk q).credit hp _).1.vis.2 (by simp; exact .inl rfl))⟩
          have HCV := Lib.hid hcv; clear hcv hk
          have x2 := blk_cell (HD.out.credit hp (s'.cr s'.pos + sh s'.pos)).1.blk 2 rfl
          have x3 := blk_frozen (HD.out.credit hp (s'.cr s'.pos + sh s'.pos)).1.blk 2
          go_wp2_with fail
          go_region
          all_goals
            go_wp2_with fail
            go_meet
            exact HCV.out _
      case rest =>
        obtain ⟨hD', hfb'⟩ := hcut
        have HFB' := Lib.hid hfb'; clear hfb' HFB HD c0 c1 c2 f2 cr d0 d1 d2 e1 k0
        have c0 := blk_cell hD'.blk 0 rfl
        have x1 : wc.cell? ⟨pf s'.pos, 1, none⟩ = some (.int .i64 (crd sh s')) := by
          have := blk_cell (hD'.flow _ hp) 1 rfl
          simpa using this
        have x2 : wc.cell? ⟨pf s'.pos, 2, none⟩ = some (.slice (some ⟨g, 0, none⟩) (ln s'.pos) cap) := by
          have := blk_cell (hD'.flow _ hp) 2 rfl
          rw [← E5.out]
          simpa using this
        have f1 := blk_frozen (hD'.flow _ hp) 1
        obtain ⟨cap', e7, _, hr7⟩ := (hD'.line _ hp).own (x := g) (by rw [E5.out]; rfl)
        rw [E5.out] at e7
        simp only [Value.slice.injEq, true_and] at e7
        subst e7
        have k0 := hr7.cell 0 hln
        have HR7 := Lib.hid hr7; clear hr7
        have HD' := Lib.hid hD'; clear hD'
        by_cases hst : li s'.pos 0 ≤ crd sh s'
        · have HDS := Lib.hid (show dstops sh ln (fun i => li i 0) s' from ⟨hln, hst⟩)
          have hge : li s'.pos 0 ≤ crd sh s' := hst
          have hdg : Drr (wc.setCell ⟨pf s'.pos, 1, none⟩ (.int .i64 (crd sh s' - li s'.pos 0))) B p gr n c pf lv sh (dgive sh (fun i => li i 0) s') ln li waits :=
            (HD'.out.credit hp (crd sh s' - li s'.pos 0)).1.eqs rfl rfl (fun j hj => by
              show (if j = s'.pos then crd sh s' - li j 0 else s'.cr j) = (if j = s'.pos then crd sh s' - li s'.pos 0 else (if j = s'.pos then crd sh s' else s'.cr j))
              by_cases hjp : j = s'.pos
              · rw [if_pos hjp, if_pos hjp, hjp]
              · rw [if_neg hjp, if_neg hjp, if_neg hjp])
          have HDG := Lib.hid hdg; clear hdg
          have hrg : RowI (wc.setCell ⟨pf s'.pos, 1, none⟩ (.int .i64 (crd sh s' - li s'.pos 0))) g (ln s'.pos) cap (li s'.pos) := HR7.out.kept (HD'.out.credit hp (crd sh s' - li s'.pos 0)).2 (by
            have := HR7.out.ne_blk (HD'.out.flow _ hp) (by decide)
            simpa using this)
          have HDEL := Lib.hid (delete_any _ g (ln s'.pos) cap 0 (li s'.pos) hrg hln)
          have y2 := blk_cell (HDG.out.flow _ hp) 2 rfl
          rw [E5.out] at y2
          go_wp2_with fail
          refine Calls.mono HDEL.out ?_
          rintro e w3 ⟨rfl, hr3, hf3⟩
          obtain ⟨⟨t1, t2, t3, t4⟩, ⟨t5, t6, t8⟩, t7⟩ := HDG.out.take (i := s'.pos) hp E5.out hg5 hln hf3 hr3 hw
          have HT := Lib.hid t7; clear t7
          rw [E5.out] at t1
          clear x1 x2 f1 k0 hr3 hf3 y2
          go_wp2
          go_ret3
          exact ⟨s', _, HRE.out, HDS.out, hp, rfl, HT.out.1, (HFB'.out.trans (FrP.of (HD'.out.credit hp _).2 (by simp; exact .inr (.inr ⟨_, hp, .inl rfl⟩)))).trans HT.out.2.1, HT.out.2.2⟩
        · have HN := Lib.hid (show ¬ dstops sh ln (fun i => li i 0) s' from fun hx => hst hx.2)
          have hlt : crd sh s' < li s'.pos 0 := by omega
          clear hst
          go_wp2_with fail
          refine (drr_turn _ HD'.out hp hn).mono ?_
          rintro e w2 ⟨rfl, hD2, hf2⟩
          have hD3 := hD2.eqs (s' := dstep n sh ln s') rfl rfl (fun j hj => by
            show (if j = s'.pos then (if ln j = 0 then 0 else crd sh s') else s'.cr j) = (if j = s'.pos then crd sh s' else s'.cr j)
            by_cases hj : j = s'.pos
            · rw [if_pos hj, if_pos hj, if_neg (by rw [hj]; exact hz)]
            · rw [if_neg hj, if_neg hj])
          have HFB3 := Lib.hid (HFB'.out.trans (FrP.of hf2 (by simp; exact .inl rfl)))
          have HD3 := Lib.hid hD3; clear hD3 hD2 hf2
          have hlt := dleft_step (hd := fun i => li i 0) e0 he hp hle (fun i hi => (HS.out i hi).1) HN.out
          have hfin : R (dleft n (fun i => li i 0) e0 (dstep n sh ln s')) w2 := by rw [HR.out]; exact ⟨_, .step HRE.out HN.out, HD3.out, Nat.le_refl _, HFB3.out⟩
          have HFIN := Lib.hid hfin
          have HLT := Lib.hid (show lm R w2 < mm from by have h1 := lm_le hfin; have h2 := HLE.out; omega)
          clear hfin hlt
          go_wp2
          go_roundw
          case rel => exact ⟨_, HFIN.out⟩
          case measure => exact HLT.out

end Go.Proofs.YthopnlnknicgbaaDoor
