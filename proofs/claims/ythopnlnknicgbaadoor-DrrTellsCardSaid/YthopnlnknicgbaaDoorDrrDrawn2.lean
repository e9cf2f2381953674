/- DrrTells: Drawn of the reference, where something waits. -/
import Derived.Test.YthopnlnknicgbaaDoorDrrDrawn
namespace Go.Proofs.YthopnlnknicgbaaDoor
open Go.RowKit

theorem DS.turn {w wr : World} {pb rb gc cc gl cl : Nat} {sv cv lv : Value} {n : Nat} {V : Nat → Value} {s : Dst} (h : DS w wr pb rb gc cc gl cl sv cv lv n V s) :
    ((wr.cell? ⟨pb, 3, none⟩ = some (.int .i64 s.pos) ∧ wr.frozen? ⟨pb, 3, none⟩ = false) ∧ ((wr.setCell ⟨pb, 3, none⟩ (.int .i64 (((s.pos : Int) + 1) % (n : Int)))).cell? ⟨pb, 4, none⟩ = some (.bool s.vis) ∧ (wr.setCell ⟨pb, 3, none⟩ (.int .i64 (((s.pos : Int) + 1) % (n : Int)))).frozen? ⟨pb, 4, none⟩ = false)) ∧
    DS w ((wr.setCell ⟨pb, 3, none⟩ (.int .i64 (((s.pos : Int) + 1) % (n : Int)))).setCell ⟨pb, 4, none⟩ (.bool false)) pb rb gc cc gl cl sv cv lv n V ⟨(s.pos + 1) % n, false, s.cr⟩ := by
  have e1 : ((s.pos : Int) + 1) % (n : Int) = (((s.pos + 1) % n : Nat) : Int) := rfl
  rw [e1]
  have h1 := h.setBox (s' := ⟨(s.pos + 1) % n, s.vis, s.cr⟩) 3 (.int .i64 (((s.pos + 1) % n : Nat) : Int)) rfl (fun i _ => rfl)
  have h2 := h1.setBox (s' := ⟨(s.pos + 1) % n, false, s.cr⟩) 4 (.bool false) rfl (fun i _ => rfl)
  exact ⟨⟨⟨blk_cell h.box 3 rfl, blk_frozen h.box 3⟩, ⟨blk_cell h1.box 4 rfl, blk_frozen h1.box 4⟩⟩, h2⟩

set_option maxRecDepth 100000 in
set_option maxHeartbeats 4000000 in
theorem drawn_any (w : World) (D : Nat → Prop) (hD : ∀ y, D y → y < w.heap.size) (sa ca la : Option Addr) (sc cc lc n : Nat) (sh : Nat → Int) (s : Dst) (ln : Nat → Nat) (li : Nat → Nat → Int)
    (hsr : RdF w (.slice sa n sc) n (fun j => .int .i64 (sh j))) (hR : RL w D (.slice ca n cc) (.slice la n lc) n s ln li) (hn : n ≤ 40) (hn0 : 0 < n)
    (hinv : DInv n 10000 sh ln (fun i => li i 0) s) (hs : ∀ i, i < n → 1 ≤ sh i ∧ sh i ≤ 10000) (hh : ∀ i, i < n → 0 < ln i → 1 ≤ li i 0 ∧ li i 0 ≤ 10000) (hl : ∀ i, i < n → ln i ≤ 1000) (hw : 0 < nsum ln n) (hw2 : nsum ln n ≤ 1000)
    (e0 : Nat) (he : e0 < n) (hle : 0 < ln e0) :
    Calls Tryd.prog 29 #[.agg #[.slice sa n sc, .slice ca n cc, .slice la n lc, .int .i64 s.pos, .bool s.vis]] w (DrawnPost w D sa n sc sh s ln li) := by
  obtain ⟨hcr, V, hrow, hV⟩ := hR
  have hb0 := heap_alloc_new w (.cells #[.slice sa n sc, .slice ca n cc, .slice la n lc, .int .i64 s.pos, .bool s.vis] 50)
  have hb1 := heap_alloc_new (w.alloc (.cells #[.slice sa n sc, .slice ca n cc, .slice la n lc, .int .i64 s.pos, .bool s.vis] 50)) (.cells #[.slice none 0 0, .slice none 0 0, .slice none 0 0, .int .i64 0, .bool false] 50)
  have hq0 := ((Fr.refl [] _).alloc (.cells #[.slice none 0 0, .slice none 0 0, .slice none 0 0, .int .i64 0, .bool false] 50)).blk hb0 (by simp)
  simp only [World.size_alloc] at hb1 hq0
  obtain ⟨c0, c1, c2, c3, c4⟩ := box5 hq0
  have HF0 := Lib.hid (((Fr.refl [] w).alloc (.cells #[.slice sa n sc, .slice ca n cc, .slice la n lc, .int .i64 s.pos, .bool s.vis] 50)).alloc (.cells #[.slice none 0 0, .slice none 0 0, .slice none 0 0, .int .i64 0, .bool false] 50))
  have HW := Lib.hid (waiting_any _ (.slice sa n sc) (.slice ca n cc) (.int .i64 s.pos) (.bool s.vis) la n lc V ln (hrow.1.fr HF0.out (by simp)) (fun i hi => (hV i hi).1.slice) (by omega) (by omega))
  have HB0 := Lib.hid hq0
  have HB1 := Lib.hid hb1
  have HSR := Lib.hid hsr
  have HCR := Lib.hid hcr
  have HROW := Lib.hid hrow
  have HV := Lib.hid hV
  have HD := Lib.hid hD
  have HI := Lib.hid hinv
  have HS := Lib.hid hs
  have HH := Lib.hid hh
  have HL := Lib.hid hl
  have hwz : ((nsum ln n : Int) == 0) = false := by simp; omega
  clear hb0 hb1 hq0 hsr hcr hrow hV hD hinv hs hh hl
  go_enter Tryd.func29, Tryd.ntmps29
  go_wp2_with fail
  refine (HW.out).mono ?_
  rintro e w2 ⟨rfl, hf2⟩
  have hq0 := hf2.blk HB0.out (by simp)
  have hq1 := hf2.blk HB1.out (by simp)
  have HF2 := Lib.hid (HF0.out.trans hf2 (by simp))
  clear c0 c1 c2 c3 c4 hf2
  obtain ⟨r, hr⟩ : ∃ r, r = w.heap.size + 1 := ⟨_, rfl⟩
  obtain ⟨p, hp⟩ : ∃ p, p = w.heap.size := ⟨_, rfl⟩
  have hpr : p ≠ r ∧ w.heap.size ≤ p ∧ w.heap.size ≤ r := by omega
  rw [← hr] at hq1 ⊢
  rw [← hp] at hq0 ⊢
  clear hp hr HB0 HB1 HF0 HW
  have HB0 := Lib.hid hq0
  have HB1 := Lib.hid hq1
  have c1 := blk_cell (v := .slice ca n cc) (((Fr.refl [] w2).alloc (.cells #[] 3)).blk hq0 (by simp)) 1 rfl
  have hs2 := HF2.out.size
  clear hq0 hq1
  go_wp2_with (first
    | (at_builtin; refine wpList_app rfl (.tmp 14) (.tmp 16) 22 rfl 3 infoInt Tryd.underlying22 rfl (info_empty w2 3) rfl (HCR.out.1.fr (HF2.out.alloc _) (by simp)) rfl (fun _ _ => rfl) (by unfold maxLen; omega) (by omega) (by simp) ?_; intro v4 w4 ho4 hf4 hn4; rw [Nat.zero_add] at ho4; obtain ⟨gc, kc, hv4, hg4, hr4⟩ := ho4.row hn0; subst hv4; have HF4 := Lib.hid ((((Fr.refl [] w2).alloc _).trans hf4 (fun x hx => .inr (by simp [Value.ownBlock] at hx; omega)) : Fr [] w2 w4)); have HR4 := Lib.hid (hr4.congr (f' := fun j => .int .i64 (s.cr j)) (fun j hj => by unfold app; rw [if_neg (by omega)]; simp)); have hs4 := HF4.out.size; have hq4 := blk_cell (v := .slice la n lc) (((Fr.refl [] w4).alloc (.cells #[] 22)).blk (HF4.out.blk HB0.out (by simp)) (by simp)) 2 rfl; clear ho4 hf4 hn4 hr4 c1)
    | (at_builtin; refine wpList_app rfl (.tmp 18) (.tmp 20) 48 rfl 22 infoRow Tryd.underlying48 rfl (info_empty w4 22) rfl (HROW.out.1.fr ((HF2.out.trans HF4.out (by simp)).alloc _) (by simp)) rfl (fun j hj => by obtain ⟨a, c, hv⟩ := (HV.out j hj).1.slice; rw [hv]; rfl) (by unfold maxLen; omega) (by omega) (by simp) ?_; intro v5 w5 ho5 hf5 hn5; rw [Nat.zero_add] at ho5; obtain ⟨gl, kl, hv5, hg5, hr5⟩ := ho5.row hn0; subst hv5; have HF5 := Lib.hid ((((Fr.refl [] w4).alloc _).trans hf5 (fun x hx => .inr (by simp [Value.ownBlock] at hx; omega)) : Fr [] w4 w5)); have HR5 := Lib.hid (hr5.congr (f' := V) (fun j hj => by unfold app; rw [if_neg (by omega)]; simp)); clear ho5 hf5 hn5 hr5 hq4))
  have hst : DS w w5 p r gc kc gl kl (.slice sa n sc) (.slice ca n cc) (.slice la n lc) n V s :=
    ⟨HF5.out.blk (HF4.out.blk HB0.out (by simp)) (by simp), HF5.out.blk (HF4.out.blk HB1.out (by simp)) (by simp), HR4.out.kept HF5.out (by simp), HR5.out, (HF2.out.trans HF4.out (by simp)).trans HF5.out (by simp), by omega, by omega, by omega, by omega, hpr.1⟩
  have HST := Lib.hid hst; clear hst
  clear HB0 HB1 HR4 HR5 HF4 HF5 HF2 hg4 hg5
  obtain ⟨R, hR⟩ : ∃ R : Nat → World → Prop, R = fun m wr => ∃ s', DReach n sh ln (fun i => li i 0) s s' ∧ DS w wr p r gc kc gl kl (.slice sa n sc) (.slice ca n cc) (.slice la n lc) n V s' ∧ dleft n (fun i => li i 0) e0 s' ≤ m := ⟨_, rfl⟩
  have HR := Lib.hid hR; clear hR
  go_loopw [] (fun wr => ∃ m, R m wr) (fun wr => lm R wr)
  case atStart => rw [HR.out]; exact ⟨_, s, .refl, HST.out, Nat.le_refl _⟩
  case round =>
    clear HST
    have hspec := lm_spec hrel
    clear hrel
    have HLM := Lib.hid (fun m (hm : R m wr) => lm_le hm)
    generalize hmm : lm R wr = mm at *
    rw [HR.out] at hspec
    obtain ⟨s', hre, hD, hleft⟩ := hspec
    have HRE := Lib.hid hre
    have hi' := hre.inv HI.out (fun i hi => (HS.out i hi).1)
    have hp := hi'.1
    have hcb := hi'.crd_bd (by omega) (fun i hi => (HS.out i hi).1) HH.out
    have hsp := HS.out _ hp
    have hcr := (hi'.2 _ hp).1
    have HI' := Lib.hid hi'; clear hi' hre
    have HLE := Lib.hid hleft; clear hleft
    have HMM := Lib.hid hmm; clear hmm
    obtain ⟨vb, hvb⟩ : ∃ vb, vb = s'.vis := ⟨_, rfl⟩
    have c3 : wr.cell? ⟨p, 3, none⟩ = some (.int .i64 s'.pos) := blk_cell hD.box 3 rfl
    have c4 : wr.cell? ⟨p, 4, none⟩ = some (.bool vb) := by rw [hvb]; exact blk_cell hD.box 4 rfl
    have HVB := Lib.hid hvb; clear hvb
    have f3 := blk_frozen hD.box 3
    have f4 := blk_frozen hD.box 4
    have k6 := hD.cr.cell _ hp
    have z6 := hD.cr.frozen s'.pos
    have k7 := hD.ln.cell _ hp
    obtain ⟨av, cv, hav⟩ := (HV.out _ hp).1.slice
    rw [hav] at k7
    have hlp := HL.out _ hp
    have HDS := Lib.hid hD; clear hD
    have HAV := Lib.hid hav; clear hav
    have p0 : (0 : Int) ≤ (s'.pos : Int) := by omega
    have p3 : (s'.pos : Int) < (n : Int) := by omega
    by_cases hz : ln s'.pos = 0
    · have hzz : ¬ (0 : Int) < (ln s'.pos : Int) := by omega
      have hzd : decide ((0 : Int) < (ln s'.pos : Int)) = false := by simp; omega
      have hzd2 : decide (0 < ln s'.pos) = false := by simp; omega
      have hze : ((ln s'.pos : Int) == 0) = true := by simp [hz]
      have HN := Lib.hid (show ¬ dstops sh ln (fun i => li i 0) s' from fun hx => by have := hx.1; omega)
      have HZ := Lib.hid hz; clear hz
      go_wp2_with fail
      go_quiet (fail)
      obtain ⟨⟨⟨q0, q1⟩, q2, q3⟩, q4⟩ := ((HDS.out.kept ((Fr.refl [] wr).drewN nq)).credit s'.pos 0).turn
      have hn0' : ¬ (n : Int) = 0 := by omega
      have HQ := Lib.hid (q4.eqs (s' := dstep n sh ln s') rfl rfl (fun j hj => by
        show (if j = s'.pos then (if ln j = 0 then 0 else crd sh s') else s'.cr j) = (if j = s'.pos then 0 else s'.cr j)
        by_cases hj : j = s'.pos
        · rw [if_pos hj, if_pos hj, if_pos (by rw [hj]; exact HZ.out)]
        · rw [if_neg hj, if_neg hj]))
      clear q4
      go_wp2_with fail
      have hlt := dleft_step (hd := fun i => li i 0) e0 he hp hle (fun i hi => (HS.out i hi).1) HN.out
      have hmk : ∀ wx, DS w wx p r gc kc gl kl (.slice sa n sc) (.slice ca n cc) (.slice la n lc) n V (dstep n sh ln s') → R (dleft n (fun i => li i 0) e0 (dstep n sh ln s')) wx := fun wx h => by rw [HR.out]; exact ⟨_, .step HRE.out HN.out, h, Nat.le_refl _⟩
      have hfin := hmk _ HQ.out
      have h1 := lm_le hfin
      have h2 := HLE.out
      go_roundw
      case rel => exact ⟨_, hfin⟩
      case measure => exact Nat.lt_of_le_of_lt h1 (by omega)
    · have hln : 0 < ln s'.pos := by omega
      have hzz : (0 : Int) < (ln s'.pos : Int) := by omega
      have hze : ((ln s'.pos : Int) == 0) = false := by simp; omega
      have hhp := HH.out _ hp hln
      go_upto_if 34 with fail
      go_cut [] (fun wy => DS w wy p r gc kc gl kl (.slice sa n sc) (.slice ca n cc) (.slice la n lc) n V ⟨s'.pos, true, fun j => if j = s'.pos then crd sh s' else s'.cr j⟩)
      case first =>
        cases vb with
        | true =>
          have hvis := HVB.out.symm
          have hcd : crd sh s' = s'.cr s'.pos := by unfold crd; rw [if_pos hvis]
          have HCD := Lib.hid hcd; have HVIS := Lib.hid hvis; clear hcd hvis
          go_wp2_with fail
          go_meet
          refine HDS.out.eqs rfl HVIS.out.symm (fun j hj => ?_)
          show (if j = s'.pos then crd sh s' else s'.cr j) = s'.cr j
          by_cases hj : j = s'.pos
          · rw [if_pos hj, HCD.out, hj]
          · rw [if_neg hj]
        | false =>
          have hvis := HVB.out
          have hcd : crd sh s' = s'.cr s'.pos + sh s'.pos := by unfold crd; rw [if_neg (by rw [← hvis]; simp)]
          clear hvis
          have HCD := Lib.hid hcd
          have hb : -9223372036854775808 ≤ s'.cr s'.pos + sh s'.pos ∧ s'.cr s'.pos + sh s'.pos ≤ 9223372036854775807 := by omega
          clear hcd hcb hsp hcr
          obtain ⟨sb, so, sq, hse, _, _, _, hsc⟩ := HSR.out.shape hn0
          simp only [Value.slice.injEq, true_and] at hse
          obtain ⟨rfl, rfl⟩ := hse
          have k8 := HDS.out.fr.cell (hsc s'.pos hp) (by simp)
          have k9 := blk_cell (v := .slice (some ⟨sb, so, none⟩) n sc) HDS.out.box 0 rfl
          clear hsc
          have d1 := HDS.out.credit s'.pos (s'.cr s'.pos + sh s'.pos)
          have x4 := blk_cell (v := .bool s'.vis) d1.box 4 rfl
          have y4 := blk_frozen d1.box 4
          have D2 := Lib.hid ((d1.setBox (s' := ⟨s'.pos, true, fun j => if j = s'.pos then s'.cr s'.pos + sh s'.pos else s'.cr j⟩) 4 (.bool true) rfl (fun i _ => rfl)).eqs (s' := ⟨s'.pos, true, fun j => if j = s'.pos then crd sh s' else s'.cr j⟩) rfl rfl (fun j _ => by rw [HCD.out]))
          clear d1
          go_wp2_with fail
          go_region
          all_goals
            go_wp2_with fail
            go_meet
            exact D2.out.kept ((Fr.refl [] _).drew)
      case rest =>
        obtain ⟨b, o, cw, hbe, hb1, hb2, hb3, hbc⟩ := (HV.out _ hp).1.shape hln
        have hab := HAV.out
        rw [hbe] at hab
        simp only [Value.slice.injEq, true_and] at hab
        obtain ⟨rfl, rfl⟩ := hab
        have HBE := Lib.hid hbe; clear hbe
        have HBC := Lib.hid hbc
        clear c3 c4 f3 f4 k6 z6 k7
        have k0 := hcut.fr.cell (hbc 0 hln) (by simp)
        rw [Nat.add_zero] at k0
        clear hbc
        have k6 : wc.cell? ⟨gc, s'.pos, none⟩ = some (.int .i64 (crd sh s')) := by have := hcut.cr.cell _ hp; simpa using this
        have z6 := hcut.cr.frozen s'.pos
        have k7 := hcut.ln.cell _ hp
        rw [HBE.out] at k7
        have HC := Lib.hid hcut; clear hcut
        by_cases hst : li s'.pos 0 ≤ crd sh s'
        · have HSTOP := Lib.hid (show dstops sh ln (fun i => li i 0) s' from ⟨hln, hst⟩)
          go_wp2_with fail
          go_quiet (fail)
          have hcv : 1 ≤ cw := by omega
          have hnd := (HV.out _ hp).2 hln _ _ _ HBE.out
          have d1 := (HC.out.kept ((Fr.refl [] wc).drewN nq)).credit s'.pos (crd sh s' - li s'.pos 0)
          have g1 := d1.ln.cell _ hp
          rw [HBE.out] at g1
          have g2 := d1.ln.frozen s'.pos
          have z7 := HC.out.ln.frozen s'.pos
          have HD1 := Lib.hid d1; clear d1
          have HND := Lib.hid hnd; clear hnd
          go_upto_region 12 with fail
          go_cut [] (fun wy => ∃ u, RdD w D u (ln s'.pos - 1) (fun k => .int .i64 (li s'.pos (k + 1))) ∧
            DS w wy p r gc kc gl kl (.slice sa n sc) (.slice ca n cc) (.slice la n lc) n (fun j => if j = s'.pos then u else V j) ⟨s'.pos, true, fun j => if j = s'.pos then crd sh s' - li s'.pos 0 else (if j = s'.pos then crd sh s' else s'.cr j)⟩)
          case first =>
            by_cases h1 : cw = 1
            · go_wp2_with fail
              go_meet
              exact ⟨_, ⟨.inr ⟨_, _, rfl, by omega, by omega, fun j hj => by omega⟩, fun h => by omega⟩, HD1.out.line s'.pos _⟩
            · go_wp2_with fail
              go_meet
              refine ⟨_, ⟨.inr ⟨_, _, rfl, by omega, by omega, fun j hj => ?_⟩, fun h b1 o1 c1 e => ?_⟩, HD1.out.line s'.pos _⟩
              · have e : (⟨b, o + 1, none⟩ : Addr).add j = ⟨b, o + (j + 1), none⟩ := by unfold Addr.add; split <;> simp_all <;> omega
                rw [e]
                exact HBC.out (j + 1) (by omega)
              · simp only [Value.slice.injEq, Option.some.injEq, Addr.mk.injEq] at e
                rw [← e.1.1]; exact HND.out
          case rest =>
            obtain ⟨u, hur, d2⟩ := hcut
            have HUR := Lib.hid hur; clear hur
            clear k0 k6 z6 k7 g1 g2 HC HD1
            have d3 := d2.setBox (s' := ⟨s'.pos, true, fun j => if j = s'.pos then crd sh s' - li s'.pos 0 else (if j = s'.pos then crd sh s' else s'.cr j)⟩) 1 (.slice (some ⟨gc, 0, none⟩) n kc) rfl (fun i _ => rfl)
            have d4 := d3.setBox (s' := ⟨s'.pos, true, fun j => if j = s'.pos then crd sh s' - li s'.pos 0 else (if j = s'.pos then crd sh s' else s'.cr j)⟩) 2 (.slice (some ⟨gl, 0, none⟩) n kl) rfl (fun i _ => rfl)
            have g3 := blk_cell (v := .slice ca n cc) d2.box 1 rfl
            have g4 := blk_frozen d2.box 1
            have g5 := blk_cell (v := .slice la n lc) d3.box 2 rfl
            have g6 := blk_frozen d3.box 2
            have g7 := blk_frozen d2.box 2
            have HD4 := Lib.hid d4; clear d2 d3 d4
            go_upto_region 15 with fail
            clear g3 g4 g5 g6 g7
            generalize (wc.setCell ⟨p, 1, none⟩ (.slice (some ⟨gc, 0, none⟩) n kc)).setCell ⟨p, 2, none⟩ (.slice (some ⟨gl, 0, none⟩) n kl) = wz at *
            have d4 := HD4.out
            obtain ⟨b0, b1, b2, b3, b4⟩ := box5 d4.box
            have tz := blk_frozen d4.res 0
            have ty := blk_frozen d4.res 1
            have tx := blk_frozen d4.res 2
            have tw := blk_frozen d4.res 3
            have tv := blk_frozen d4.res 4
            obtain ⟨w9, hw9⟩ : ∃ w9, ((((wz.setCell ⟨r, 0, none⟩ (.slice sa n sc)).setCell ⟨r, 1, none⟩ (.slice (some ⟨gc, 0, none⟩) n kc)).setCell ⟨r, 2, none⟩ (.slice (some ⟨gl, 0, none⟩) n kl)).setCell ⟨r, 3, none⟩ (.int .i64 s'.pos)).setCell ⟨r, 4, none⟩ (.bool true) = w9 := ⟨_, rfl⟩
            obtain ⟨⟨s0, t0⟩, ⟨s1, t1⟩, ⟨s2, t2⟩, ⟨s3, t3⟩, ⟨s4, t4⟩, hb5, f5⟩ := five_store d4.res (.slice sa n sc) (.slice (some ⟨gc, 0, none⟩) n kc) (.slice (some ⟨gl, 0, none⟩) n kl) (.int .i64 s'.pos) (.bool true) hw9
            obtain ⟨e0, e1, e2, e3, e4⟩ := box5 hb5
            have hpost : DrawnPost w D sa n sc sh s ln li (.returned (.tuple #[.agg #[.slice sa n sc, .slice (some ⟨gc, 0, none⟩) n kc, .slice (some ⟨gl, 0, none⟩) n kl, .int .i64 s'.pos, .bool true], .int .i64 s'.pos, .int .i64 (li s'.pos 0), .bool true])) w9 := by
              obtain ⟨l1, l2, l3, l4, l5⟩ := d4.low
              have hfr : Fr [] w w9 := d4.fr.trans f5 (fun x hx => .inr (by simp at hx; omega))
              have r1 := d4.cr.kept f5 (by simpa using d4.cr.ne_blk d4.res (by decide))
              have r2 := d4.ln.kept f5 (by simpa using d4.ln.ne_blk d4.res (by decide))
              refine ⟨s', _, _, _, _, HRE.out, HSTOP.out, hp, rfl, ⟨(RdD.new (B := w.heap.size) (.inr ⟨gc, kc, rfl, l3, r1⟩) HD.out).congr (fun j hj => ?_), _, RdD.new (B := w.heap.size) (.inr ⟨gl, kl, rfl, l4, r2⟩) HD.out, fun i hi => ?_⟩, hfr⟩
              · show Value.int .i64 (if j = s'.pos then crd sh s' - li s'.pos 0 else (if j = s'.pos then crd sh s' else s'.cr j)) = Value.int .i64 (if j = s'.pos then crd sh s' - li j 0 else s'.cr j)
                by_cases hj : j = s'.pos
                · rw [if_pos hj, if_pos hj, hj]
                · rw [if_neg hj, if_neg hj, if_neg hj]
              · by_cases hj : i = s'.pos
                · subst hj
                  simp only [if_true]
                  exact HUR.out.fr hfr
                · simp only [if_neg hj]
                  exact (HV.out i hi).fr hfr
            have HPOST := Lib.hid hpost
            clear hpost hb5 f5 d4 HD4
            subst hw9
            go_wp2
            exact bodyPost_ret (v := .tuple #[.agg #[.slice sa n sc, .slice (some ⟨gc, 0, none⟩) n kc, .slice (some ⟨gl, 0, none⟩) n kl, .int .i64 s'.pos, .bool true], .int .i64 s'.pos, .int .i64 (li s'.pos 0), .bool true]) (by simp [results, Tryd.results29, go_sem, e0, e1, e2, e3, e4]) rfl HPOST.out
        · have HN := Lib.hid (show ¬ dstops sh ln (fun i => li i 0) s' from fun hx => hst hx.2)
          have hlt : crd sh s' < li s'.pos 0 := by omega
          clear hst
          go_wp2_with fail
          go_quiet (fail)
          obtain ⟨⟨⟨q0, q1⟩, q2, q3⟩, q4⟩ := (HC.out.kept ((Fr.refl [] wc).drewN nq)).turn
          have hn0' : ¬ (n : Int) = 0 := by omega
          have HQ := Lib.hid (q4.eqs (s' := dstep n sh ln s') rfl rfl (fun j hj => by
            show (if j = s'.pos then (if ln j = 0 then 0 else crd sh s') else s'.cr j) = (if j = s'.pos then crd sh s' else s'.cr j)
            by_cases hj : j = s'.pos
            · rw [if_pos hj, if_pos hj, if_neg (by rw [hj]; exact hz)]
            · rw [if_neg hj, if_neg hj]))
          clear q4
          go_wp2_with fail
          have hlt := dleft_step (hd := fun i => li i 0) e0 he hp hle (fun i hi => (HS.out i hi).1) HN.out
          have hmk : ∀ wx, DS w wx p r gc kc gl kl (.slice sa n sc) (.slice ca n cc) (.slice la n lc) n V (dstep n sh ln s') → R (dleft n (fun i => li i 0) e0 (dstep n sh ln s')) wx := fun wx h => by rw [HR.out]; exact ⟨_, .step HRE.out HN.out, h, Nat.le_refl _⟩
          have hfin := hmk _ HQ.out
          have h1 := lm_le hfin
          have h2 := HLE.out
          go_roundw
          case rel => exact ⟨_, hfin⟩
          case measure => exact Nat.lt_of_le_of_lt h1 (by omega)

end Go.Proofs.YthopnlnknicgbaaDoor
