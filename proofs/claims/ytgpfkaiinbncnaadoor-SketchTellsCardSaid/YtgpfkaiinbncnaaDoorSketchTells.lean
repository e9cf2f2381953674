/- SketchTells: the walk. -/
import Derived.Test.YtgpfkaiinbncnaaDoorSkPack
import Derived.Test.YtgpfkaiinbncnaaDoorSketches
namespace Go.Proofs.YtgpfkaiinbncnaaDoor
open Go.RowKit

def NewR (deep wide z : Int) (D K : Nat) : Prop :=
  ((1 ≤ deep ∧ deep ≤ 8 ∧ 1 ≤ wide ∧ wide ≤ 1000) ∧ z = 0 ∧ deep = (D : Int) ∧ wide = (K : Int)) ∨ (¬ (1 ≤ deep ∧ deep ≤ 8 ∧ 1 ≤ wide ∧ wide ≤ 1000) ∧ z = 6 ∧ D = 0 ∧ K = 0)

theorem newR_ex (deep wide : Int) : ∃ z D K, NewR deep wide z D K ∧ D ≤ 1000 ∧ K ≤ 1000 := by
  by_cases h : 1 ≤ deep ∧ deep ≤ 8 ∧ 1 ≤ wide ∧ wide ≤ 1000
  · exact ⟨0, deep.toNat, wide.toNat, .inl ⟨h, rfl, by omega, by omega⟩, by omega⟩
  · exact ⟨6, 0, 0, .inr ⟨h, rfl, rfl, rfl⟩, by omega⟩

theorem skf_none (w : World) (F : Nat → Nat → Int) : SkF w (.slice none 0 0) 0 0 F := ⟨fun _ => undef, .inl ⟨rfl, rfl⟩, fun i hi => by omega⟩

theorem new_u (w : World) (deep wide z : Int) (D K : Nat) (h : NewR deep wide z D K) :
    Calls Tryd.prog 8 #[.int .i64 deep, .int .i64 wide] w fun e w' => ∃ a c, e = .returned (.tuple #[.agg #[.int .i64 (K : Int), .slice a D c], peV z]) ∧ SkF w' (.slice a D c) D K (fun _ _ => 0) ∧ Fr [] w w' := by
  rcases h with ⟨h, rfl, rfl, rfl⟩ | ⟨h, rfl, rfl, rfl⟩
  · refine (sketch_new w D K ⟨h.1, h.2.1⟩ ⟨h.2.2.1, h.2.2.2⟩).mono ?_
    rintro e w' ⟨rv, rfl, hs, hf⟩
    simp only [Int.toNat_natCast] at hs
    obtain ⟨a, c, rfl⟩ := hs.slice
    exact ⟨a, c, rfl, hs, hf⟩
  · refine (sketch_new_fault w deep wide h).mono ?_
    rintro e w' ⟨rfl, hf⟩
    exact ⟨none, 0, rfl, skf_none _ _, hf⟩

/-- the law's own three variables -/
structure SB (w : World) (ps pt pw : Nat) (ws : Int) (rs : Value) (wt : Int) (rt : Value) (vw : Int) (rw' : Value) : Prop where
  s : w.heap[ps]? = some (.cells #[.int .i64 ws, rs] 24 (0, 0))
  t : w.heap[pt]? = some (.cells #[.int .i64 wt, rt] 24 (0, 0))
  w : w.heap[pw]? = some (.cells #[.int .i64 vw, rw'] 24 (0, 0))

theorem SB.fr {w w' : World} {ps pt pw : Nat} {ws : Int} {rs : Value} {wt : Int} {rt : Value} {vw : Int} {rw' : Value} (h : SB w ps pt pw ws rs wt rt vw rw') (hf : Fr [] w w') : SB w' ps pt pw ws rs wt rt vw rw' :=
  ⟨hf.blk h.s (by simp), hf.blk h.t (by simp), hf.blk h.w (by simp)⟩

theorem SB.cells {w : World} {ps pt pw : Nat} {ws : Int} {rs : Value} {wt : Int} {rt : Value} {vw : Int} {rw' : Value} (h : SB w ps pt pw ws rs wt rt vw rw') :
    (w.cell? ⟨ps, 0, none⟩ = some (.int .i64 ws) ∧ w.cell? ⟨ps, 1, none⟩ = some rs) ∧ (w.cell? ⟨pt, 0, none⟩ = some (.int .i64 wt) ∧ w.cell? ⟨pt, 1, none⟩ = some rt) ∧ (w.cell? ⟨pw, 0, none⟩ = some (.int .i64 vw) ∧ w.cell? ⟨pw, 1, none⟩ = some rw') :=
  ⟨⟨blk_cell h.s 0 rfl, blk_cell h.s 1 rfl⟩, ⟨blk_cell h.t 0 rfl, blk_cell h.t 1 rfl⟩, ⟨blk_cell h.w 0 rfl, blk_cell h.w 1 rfl⟩⟩

/-- want is another one now -/
theorem SB.put {w : World} {ps pt pw : Nat} {ws : Int} {rs : Value} {wt : Int} {rt : Value} {vw : Int} {rw' : Value} (h : SB w ps pt pw ws rs wt rt vw rw') (h1 : ps ≠ pw) (h2 : pt ≠ pw) (x : Int) (v : Value) :
    (w.frozen? ⟨pw, 0, none⟩ = false ∧ w.cell? ⟨pw, 0, none⟩ = some (.int .i64 vw) ∧ (w.setCell ⟨pw, 0, none⟩ (.int .i64 x)).cell? ⟨pw, 1, none⟩ = some rw' ∧ (w.setCell ⟨pw, 0, none⟩ (.int .i64 x)).frozen? ⟨pw, 1, none⟩ = false) ∧
      SB ((w.setCell ⟨pw, 0, none⟩ (.int .i64 x)).setCell ⟨pw, 1, none⟩ v) ps pt pw ws rs wt rt x v ∧ Fr [pw] w ((w.setCell ⟨pw, 0, none⟩ (.int .i64 x)).setCell ⟨pw, 1, none⟩ v) := by
  have hf : Fr [pw] w ((w.setCell ⟨pw, 0, none⟩ (.int .i64 x)).setCell ⟨pw, 1, none⟩ v) := ((Fr.refl [pw] w).setCell (p := ⟨pw, 0, none⟩) (by simp) _).setCell (p := ⟨pw, 1, none⟩) (by simp) _
  obtain ⟨⟨a1, a2, a3, a4⟩, ⟨b1, b2⟩, _⟩ := two_store h.w (.int .i64 x) v
  exact ⟨⟨a2, a1, b1, b2⟩, ⟨hf.blk h.s (by simpa using h1), hf.blk h.t (by simpa using h2), blk_set2 h.w _ _⟩, hf⟩

set_option maxRecDepth 100000 in
set_option maxHeartbeats 8000000 in
theorem sketchTells_any (w : World) (hg : Hand w) (deep wide : Int) (ws wt : Int) (sa ta : Option Addr) (d sc e0 tc : Nat) (L L2 : Nat → Nat) (F F2 : Nat → Nat → Int) (ka : Option Addr) (n kc : Nat) (kf : Nat → Int) (x : Int)
    (hs : SkG w (.slice sa d sc) d L F) (hd : d ≤ 140737488355328) (hL : ∀ i, i < d → L i ≤ 140737488355328)
    (ht : SkG w (.slice ta e0 tc) e0 L2 F2) (he : e0 ≤ 140737488355328) (hL2 : ∀ i, i < e0 → L2 i ≤ 140737488355328)
    (hk : RdF w (.slice ka n kc) n (fun j => .int .u8 (kf j))) (hb : ∀ j, j < n → 0 ≤ kf j ∧ kf j ≤ 255) (hn : n ≤ 140737488351232) :
    Calls Tryd.prog 3 #[.int .i64 deep, .int .i64 wide, .agg #[.int .i64 ws, .slice sa d sc], .agg #[.int .i64 wt, .slice ta e0 tc], .slice ka n kc, .int .i64 x] w fun e w' => e = .returned (.bool true) ∧ Fr [] w w' := by
  obtain ⟨z1, zf, cnt, dA, wA, GA, hPS, hz1⟩ := pkS_ex w ws sa d sc L F ka n kc kf x hs hd hL hk hb hn
  obtain ⟨z2, zj, dJ, wJ, GJ, hPJ⟩ := pkJ_ex w ws wt sa ta d sc e0 tc L L2 F F2 hs hd hL ht he hL2 z1 hz1
  obtain ⟨z0, D, K, hN, hDK⟩ := newR_ex deep wide
  have HG := Lib.hid hg
  have HPS := Lib.hid hPS
  have HPJ := Lib.hid hPJ
  have HN := Lib.hid hN
  clear hg hPS hPJ hN hz1 hs hd hL ht he hL2 hk hb hn
  have hFA := ((Fr.refl [] w).alloc (.cells #[.int .i64 ws, .slice sa d sc] 24)).alloc (.cells #[.int .i64 wt, .slice ta e0 tc] 24)
  have b0 := heap_alloc_new w (.cells #[.int .i64 ws, .slice sa d sc] 24)
  have b1 := heap_alloc_new (w.alloc (.cells #[.int .i64 ws, .slice sa d sc] 24)) (.cells #[.int .i64 wt, .slice ta e0 tc] 24)
  rw [World.size_alloc] at b1
  have b0' := ((Fr.refl [] (w.alloc (.cells #[.int .i64 ws, .slice sa d sc] 24))).alloc (.cells #[.int .i64 wt, .slice ta e0 tc] 24)).blk b0 (by simp)
  have HB0 := Lib.hid b0'
  have HB1 := Lib.hid b1
  have HFA := Lib.hid hFA
  clear b0 b1 b0' hFA
  go_enter Tryd.func3, Tryd.ntmps3
  go_wp2_with fail
  generalize (w.alloc (.cells #[.int .i64 ws, .slice sa d sc] 24)).alloc (.cells #[.int .i64 wt, .slice ta e0 tc] 24) = wa at *
  refine (sketched_any _).mono ?_
  rintro e w1 ⟨rfl, hf⟩
  have hs1 := (HFA.out.trans hf (by simp) : Fr [] w w1).size
  have hSB : SB (w1.alloc (.cells #[.int .i64 0, .slice none 0 0] 24)) w.heap.size (w.heap.size + 1) w1.heap.size ws (.slice sa d sc) wt (.slice ta e0 tc) 0 (.slice none 0 0) :=
    ⟨((Fr.refl [] w1).alloc _).blk (hf.blk HB0.out (by simp)) (by simp), ((Fr.refl [] w1).alloc _).blk (hf.blk HB1.out (by simp)) (by simp), heap_alloc_new w1 _⟩
  have hps : w.heap.size + 1 < w1.heap.size := lt_of_blk (hf.blk HB1.out (by simp))
  have HF1 := Lib.hid (((HFA.out.trans hf (by simp) : Fr [] w w1)).alloc (.cells #[.int .i64 0, .slice none 0 0] 24))
  have HSB := Lib.hid hSB
  clear hSB hf HB0 HB1 HFA hs1
  have hpn : w.heap.size ≠ w1.heap.size ∧ w.heap.size + 1 ≠ w1.heap.size ∧ w.heap.size ≤ w1.heap.size := by omega
  obtain ⟨bz, hbz⟩ : ∃ bz : Bool, bz = decide (¬ (1 ≤ deep ∧ deep ≤ 8 ∧ 1 ≤ wide ∧ wide ≤ 1000)) := ⟨_, rfl⟩
  have HBZ := Lib.hid hbz; clear hbz
  go_upto_region 4 with fail
  generalize w1.alloc (.cells #[.int .i64 0, .slice none 0 0] 24) = w2 at *
  go_cut [40] (fun v wy => v = .bool bz ∧ wy = w2)
  case first =>
    by_cases h1 : deep < 1
    · go_wp2_with fail
      go_meet
      exact ⟨by rw [HBZ.out]; simp; omega, rfl⟩
    by_cases h2 : 8 < deep
    · go_wp2_with fail
      go_meet
      exact ⟨by rw [HBZ.out]; simp; omega, rfl⟩
    by_cases h3 : wide < 1
    · go_wp2_with fail
      go_meet
      exact ⟨by rw [HBZ.out]; simp; omega, rfl⟩
    by_cases h4 : 1000 < wide
    · go_wp2_with fail
      go_meet
      exact ⟨by rw [HBZ.out]; simp; omega, rfl⟩
    go_wp2_with fail
    go_meet
    exact ⟨by rw [HBZ.out]; simp; omega, rfl⟩
  case' rest =>
    obtain ⟨rfl, hw⟩ := hcut
    have hw := hw.symm
    subst hw
  go_upto_if 40 with fail
  go_cut [14] (fun ev wy => ev = .int .i64 z0 ∧ ∃ (a : Option Addr) (c : Nat), SB wy w.heap.size (w.heap.size + 1) w1.heap.size ws (.slice sa d sc) wt (.slice ta e0 tc) K (.slice a D c) ∧ SkF wy (.slice a D c) D K (fun _ _ => 0) ∧ Fr [] w wy)
  case first =>
    rcases HN.out with ⟨⟨h1, h2, h3, h4⟩, hz, hD, hK⟩ | ⟨hbad, hz, hD, hK⟩
    · subst hz
      subst hD
      subst hK
      obtain rfl : bz = false := by rw [HBZ.out]; simp; omega
      have hd8 : 1 ≤ D ∧ D ≤ 8 := by omega
      have hk8 : 1 ≤ K ∧ K ≤ 1000 := by omega
      clear h1 h2 h3 h4
      have hmk := run_mk (P := Tryd.prog) 28 3 infoInt Tryd.underlying28 K (by omega) (by unfold maxLen; omega)
      have hb0 := blk_at0 HSB.out.w (.int .i64 K)
      have hff : Fr [w1.heap.size] w2 (w2.setCell ⟨w1.heap.size, 0, none⟩ (.int .i64 K)) := (Fr.refl [w1.heap.size] w2).setCell (p := ⟨w1.heap.size, 0, none⟩) (by simp) _
      have z0 := blk_frozen HSB.out.w 0
      have z1 := blk_cell HSB.out.w 0 rfl
      have HS0 := Lib.hid (hff.blk HSB.out.s (by simpa using hpn.1))
      have HT0 := Lib.hid (hff.blk HSB.out.t (by simpa using hpn.2.1))
      have HB0 := Lib.hid (show SkB (w2.setCell ⟨w1.heap.size, 0, none⟩ (.int .i64 K)) w.heap.size w1.heap.size (.slice none 0 0) 0 K (fun _ => 0) (fun _ => 0) (fun _ _ => 0) from ⟨hb0, OwnF.nil _ _ _ _, fun i hi => by omega, hpn.2.2⟩)
      have HF2 := Lib.hid (HF1.out.setCell (p := ⟨w1.heap.size, 0, none⟩) (.inr hpn.2.2) (.int .i64 K))
      clear hb0 hff
      go_wp2
      clear z0 z1
      generalize w2.setCell ⟨w1.heap.size, 0, none⟩ (.int .i64 K) = w3 at *
      go_loopw [16] (fun i wr => ∃ (k : Nat) (v : Value) (rg rc : Nat → Nat), k ≤ D ∧ i = .int .i64 k ∧ wr.heap[w.heap.size]? = some (.cells #[.int .i64 ws, .slice sa d sc] 24 (0, 0)) ∧
        wr.heap[w.heap.size + 1]? = some (.cells #[.int .i64 wt, .slice ta e0 tc] 24 (0, 0)) ∧ SkB wr w.heap.size w1.heap.size v k K rg rc (fun _ _ => 0) ∧ Fr [] w wr) (fun i _ => D - (intOf i).toNat)
      case atStart => exact ⟨0, _, _, _, by omega, rfl, HS0.out, HT0.out, HB0.out, HF2.out⟩
      case round =>
        clear HS0 HT0 HB0 HF2
        obtain ⟨k, v, rg, rc, hk, rfl, hS, hT, hB, hf⟩ := hrel
        have HF := Lib.hid hf; clear hf
        have HB := Lib.hid hB
        have HS := Lib.hid hS; clear hS
        have HT := Lib.hid hT; clear hT
        by_cases hlt : k < D
        · have c1 := blk_cell hB.blk 1 rfl
          have hpl := lt_of_blk hB.blk
          have hpl2 : w1.heap.size < wr.heap.size + 1 := by omega
          have z1 := blk_frozen hB.blk 1
          have hsz := HF.out.size
          obtain ⟨av, cv, hav⟩ := hB.row.rd.slice
          subst hav
          clear hB
          have HRW := Lib.hid (((row_mk wr.drew 3 (.int .i64 0) rfl K (by unfold maxLen; omega)).alloc (.cells #[.slice (some ⟨wr.heap.size, 0, none⟩) K K] 28)))
          have HFW := Lib.hid ((((Fr.refl [] wr).drew).alloc (.cells (madeCells (Value.int .i64 0).cells K) 3)).alloc (.cells #[.slice (some ⟨wr.heap.size, 0, none⟩) K K] 28))
          have HOW := Lib.hid (HB.out.row.kept HFW.out (by simp))
          go_wp2_with fail
          go_region_law (refine step_app rfl (.tmp 49) (.tmp 52) 22 rfl 28 infoRow Tryd.underlying22 rfl HOW.out rfl (rd_one _ _ _ (by simp)) rfl (fun _ _ => rfl) (by unfold maxLen; omega) (by omega) (by simp; omega) ?_; intro v1 w1' ho1 hf1 hn1; obtain ⟨a1, c1', hv1⟩ := ho1.rd.slice; subst hv1; have hgr := HB.out.grow HF.out HFW.out HRW.out (Nat.le_refl _) ho1 hf1; obtain ⟨⟨d1, d2⟩, d3, d4, d5⟩ := hgr; have HB1 := Lib.hid d3; have HF3 := Lib.hid d4; have HS1 := Lib.hid (d5 _ _ hpn.1 HS.out); have HT1 := Lib.hid (d5 _ _ hpn.2.1 HT.out); clear hf1 hn1 ho1 d3 d4 d5)
          all_goals
            go_wp2
            go_roundw
            case rel => exact ⟨k + 1, _, _, _, by omega, by go_num, HS1.out, HT1.out, HB1.out, HF3.out⟩
            case measure => simp [intOf]; omega
        · obtain rfl : k = D := by omega
          obtain ⟨av, cv, hav⟩ := hB.row.rd.slice
          subst hav
          clear hB
          go_wp2
          go_meet
          exact ⟨rfl, _, _, ⟨HS.out, HT.out, HB.out.blk⟩, HB.out.told, HF.out⟩
    · subst hz
      subst hD
      subst hK
      obtain rfl : bz = true := by rw [HBZ.out]; simp; omega
      go_wp2_with fail
      go_meet
      exact ⟨rfl, none, 0, HSB.out, skf_none _ _, HF1.out⟩
  case rest =>
    clear HF1 HSB
    obtain ⟨rfl, a0, c0, hSB, hSK, hf⟩ := hcut
    have HSB := Lib.hid hSB; clear hSB
    have HSK := Lib.hid hSK; clear hSK
    have HF := Lib.hid hf; clear hf
    go_wp2_with fail
    refine (new_u _ deep wide z0 D K HN.out).mono ?_
    rintro e w3 ⟨a1, c1, rfl, hs3, hf3⟩
    have hf4 := hf3.alloc (.cells #[.int .i64 (K : Int), .slice a1 D c1] 24)
    have HX4 := Lib.hid (heap_alloc_new w3 (.cells #[.int .i64 (K : Int), .slice a1 D c1] 24))
    have HS4 := Lib.hid (hs3.fr ((Fr.refl [] w3).alloc (.cells #[.int .i64 (K : Int), .slice a1 D c1] 24)))
    have HSB4 := Lib.hid (HSB.out.fr hf4)
    have HSK4 := Lib.hid (HSK.out.fr hf4)
    have HF4 := Lib.hid (HF.out.trans hf4 (by simp))
    clear hs3 hf3 hf4 HSB HSK HF
    go_wp2_with fail
    generalize w3.alloc (.cells #[.int .i64 (K : Int), .slice a1 D c1] 24) = w4 at *
    refine (error_pe _ z0 (HG.out.fr HF4.out (by simp)) _ rfl).mono ?_
    rintro e w5 ⟨rfl, hf5⟩
    have HX5 := Lib.hid (hf5.blk HX4.out (by simp))
    have HS5 := Lib.hid (HS4.out.fr hf5)
    have HSB5 := Lib.hid (HSB4.out.fr hf5)
    have HSK5 := Lib.hid (HSK4.out.fr hf5)
    have HF5 := Lib.hid (HF4.out.trans hf5 (by simp))
    clear hf5 HX4 HS4 HSB4 HSK4 HF4
    have g0 := blk_cell HX5.out 0 rfl
    have g1 := blk_cell HX5.out 1 rfl
    obtain ⟨_, _, g2, g3⟩ := HSB5.out.cells
    go_wp2_with fail
    refine (sketches_same _ _ _ D K _ _ HS5.out HSK5.out (fun i _ j _ => rfl) (by omega) (by omega)).mono ?_
    rintro e w6 ⟨rfl, hf6⟩
    have HSB6 := Lib.hid (HSB5.out.fr hf6)
    have HF6 := Lib.hid (HF5.out.trans hf6 (by simp))
    clear hf6 HX5 HS5 HSB5 HSK5 HF5 g0 g1 g2 g3
    obtain ⟨⟨g0, g1⟩, _, _⟩ := HSB6.out.cells
    go_wp2_with fail
    refine (HPS.out.fault _ HF6.out).mono ?_
    rintro e w7 ⟨rfl, hf7⟩
    have HSB7 := Lib.hid (HSB6.out.fr hf7)
    have HF7 := Lib.hid (HF6.out.trans hf7 (by simp))
    clear hf7 HSB6 HF6 g0 g1
    obtain ⟨⟨g0, g1⟩, _, _⟩ := HSB7.out.cells
    go_wp2_with fail
    refine (HPS.out.check _ HF7.out).mono ?_
    rintro e w8 ⟨rfl, hf8⟩
    have HSB8 := Lib.hid (HSB7.out.fr hf8)
    have HF8 := Lib.hid (HF7.out.trans hf8 (by simp))
    clear hf8 HSB7 HF7 g0 g1
    go_wp2_with fail
    refine (error_pe _ z1 (HG.out.fr HF8.out (by simp)) _ rfl).mono ?_
    rintro e w9 ⟨rfl, hf9⟩
    have hSB9 := HSB8.out.fr hf9
    have hF9 := HF8.out.trans hf9 (by simp)
    obtain ⟨⟨k0, k1, k2, k3⟩, hSB10, hf10⟩ := hSB9.put hpn.1 hpn.2.1 0 (.slice none 0 0)
    have HSB10 := Lib.hid hSB10
    have HF10 := Lib.hid (hF9.trans hf10 (S := []) (fun y hy => .inr (by simp at hy; omega)))
    clear hf9 hSB9 hF9 hSB10 hf10 HSB8 HF8
    go_upto_if 85 with fail
    clear k0 k1 k2 k3
    generalize ((w9.setCell ⟨w1.heap.size, 0, none⟩ (.int .i64 0)).setCell ⟨w1.heap.size, 1, none⟩ (.slice none 0 0)) = w10 at *
    go_cut [20, 21] (fun fv cv wy => fv = .int .i64 zf ∧ cv = .int .i64 cnt ∧ ∃ (a : Option Addr) (c : Nat), SB wy w.heap.size (w.heap.size + 1) w1.heap.size ws (.slice sa d sc) wt (.slice ta e0 tc) (dz zf wA : Nat) (.slice a (dz zf dA) c) ∧ SkF wy (.slice a (dz zf dA) c) (dz zf dA) (dz zf wA) GA ∧ Fr [] w wy)
    case first =>
      rcases HPS.out.kind with ⟨hz, hSk, hGu⟩ | ⟨hz, hzf, hc⟩
      · subst hz
        have HSKC := Lib.hid hSk; clear hSk
        have HGUC := Lib.hid hGu; clear hGu
        obtain ⟨⟨g0, g1⟩, _, _⟩ := HSB10.out.cells
        have hlow := lt_of_blk HSB10.out.w
        go_wp2_with fail
        refine (HSKC.out _ HF10.out).mono ?_
        intro e w11 h
        obtain ⟨a, c, rfl, hso, hf⟩ := h.uni
        clear h g0 g1
        have hSB11 := HSB10.out.fr hf
        obtain ⟨⟨k0, k1, k2, k3⟩, hSB12, hf12⟩ := hSB11.put hpn.1 hpn.2.1 (dz zf wA : Nat) (.slice a (dz zf dA) c)
        have HSB12 := Lib.hid hSB12
        have HSO12 := Lib.hid ((hso.kept hf12 (by simpa using hlow)).told)
        have HF12 := Lib.hid ((HF10.out.trans hf (by simp)).trans hf12 (S := []) (fun y hy => .inr (by simp at hy; omega)))
        clear hSB11 hSB12 hf12 hso hf
        obtain ⟨⟨g0, g1⟩, _, _⟩ := HSB12.out.cells
        go_wp2_with fail
        refine (HGUC.out _ HF12.out).mono ?_
        rintro e w13 ⟨rfl, hf13⟩
        have HSB13 := Lib.hid (HSB12.out.fr hf13)
        have HSO13 := Lib.hid (HSO12.out.fr hf13)
        have HF13 := Lib.hid (HF12.out.trans hf13 (by simp))
        clear hf13 g0 g1 k0 k1 k2 k3
        go_wp2_with fail
        go_meet
        exact ⟨rfl, rfl, _, _, HSB13.out, HSO13.out, HF13.out⟩
      · subst hz
        subst hzf
        subst hc
        go_wp2_with fail
        go_meet
        exact ⟨rfl, rfl, none, 0, HSB10.out, skf_none _ _, HF10.out⟩
    case rest =>
      clear HF10 HSB10
      obtain ⟨rfl, rfl, a2, c2, hSB, hSK, hf⟩ := hcut
      have HSB := Lib.hid hSB; clear hSB
      have HSK := Lib.hid hSK; clear hSK
      have HF := Lib.hid hf; clear hf
      have hdz := dz_le zf dA
      have hdw := dz_le zf wA
      have hsm := HPS.out.small
      obtain ⟨⟨g0, g1⟩, _, _⟩ := HSB.out.cells
      go_wp2_with fail
      refine (HPS.out.add _ HF.out).mono ?_
      intro e w3 h
      obtain ⟨a1, c1, rfl, hso, hf3⟩ := h.uni
      have hf4 := hf3.alloc (.cells #[.int .i64 (dz zf wA : Nat), .slice a1 (dz zf dA) c1] 24)
      have HX4 := Lib.hid (heap_alloc_new w3 (.cells #[.int .i64 (dz zf wA : Nat), .slice a1 (dz zf dA) c1] 24))
      have HS4 := Lib.hid (hso.told.fr ((Fr.refl [] w3).alloc (.cells #[.int .i64 (dz zf wA : Nat), .slice a1 (dz zf dA) c1] 24)))
      have HSB4 := Lib.hid (HSB.out.fr hf4)
      have HSK4 := Lib.hid (HSK.out.fr hf4)
      have HF4 := Lib.hid (HF.out.trans hf4 (by simp))
      clear h hso hf3 hf4 HSB HSK HF g0 g1
      go_wp2_with fail
      generalize w3.alloc (.cells #[.int .i64 (dz zf wA : Nat), .slice a1 (dz zf dA) c1] 24) = w4 at *
      refine (error_pe _ zf (HG.out.fr HF4.out (by simp)) _ rfl).mono ?_
      rintro e w5 ⟨rfl, hf5⟩
      have HX5 := Lib.hid (hf5.blk HX4.out (by simp))
      have HS5 := Lib.hid (HS4.out.fr hf5)
      have HSB5 := Lib.hid (HSB4.out.fr hf5)
      have HSK5 := Lib.hid (HSK4.out.fr hf5)
      have HF5 := Lib.hid (HF4.out.trans hf5 (by simp))
      clear hf5 HX4 HS4 HSB4 HSK4 HF4
      have g0 := blk_cell HX5.out 0 rfl
      have g1 := blk_cell HX5.out 1 rfl
      obtain ⟨_, _, g2, g3⟩ := HSB5.out.cells
      go_wp2_with fail
      refine (sketches_same _ _ _ (dz zf dA) (dz zf wA) _ _ HS5.out HSK5.out (fun i _ j _ => rfl) (by omega) (by omega)).mono ?_
      rintro e w6 ⟨rfl, hf6⟩
      have HSB6 := Lib.hid (HSB5.out.fr hf6)
      have HF6 := Lib.hid (HF5.out.trans hf6 (by simp))
      clear hf6 HX5 HS5 HSB5 HSK5 HF5 g0 g1 g2 g3
      obtain ⟨⟨g0, g1⟩, _, _⟩ := HSB6.out.cells
      go_wp2_with fail
      refine (HPS.out.count _ HF6.out).mono ?_
      rintro e w7 ⟨rfl, hf7⟩
      have HSB7 := Lib.hid (HSB6.out.fr hf7)
      have HF7 := Lib.hid (HF6.out.trans hf7 (by simp))
      clear hf7 HSB6 HF6 g0 g1
      go_wp2_with fail
      refine (error_pe _ z1 (HG.out.fr HF7.out (by simp)) _ rfl).mono ?_
      rintro e w8 ⟨rfl, hf8⟩
      have HSB8 := Lib.hid (HSB7.out.fr hf8)
      have HF8 := Lib.hid (HF7.out.trans hf8 (by simp))
      clear hf8 HSB7 HF7
      have hcc : (cnt != cnt) = false := by simp
      go_upto_if 135 with fail
      clear hcc
      go_cut [14] (fun ev wy => ev = .int .i64 z2 ∧ SB wy w.heap.size (w.heap.size + 1) w1.heap.size ws (.slice sa d sc) wt (.slice ta e0 tc) (dz zf wA : Nat) (.slice a2 (dz zf dA) c2) ∧ Fr [] w wy)
      case first =>
        rcases HPJ.out.fault with ⟨hz, hft⟩ | ⟨hz, hz2⟩
        · subst hz
          have HFT := Lib.hid hft; clear hft
          obtain ⟨_, ⟨g0, g1⟩, _⟩ := HSB8.out.cells
          go_wp2_with fail
          refine (HFT.out _ HF8.out).mono ?_
          rintro e w9 ⟨rfl, hf9⟩
          have HSB9 := Lib.hid (HSB8.out.fr hf9)
          have HF9 := Lib.hid (HF8.out.trans hf9 (by simp))
          clear hf9 g0 g1
          go_wp2_with fail
          go_meet
          exact ⟨rfl, HSB9.out, HF9.out⟩
        · subst hz
          subst hz2
          go_wp2_with fail
          go_meet
          exact ⟨rfl, HSB8.out, HF8.out⟩
      case rest =>
        clear HSB8 HF8
        obtain ⟨rfl, hSB, hf⟩ := hcut
        obtain ⟨⟨k0, k1, k2, k3⟩, hSB10, hf10⟩ := hSB.put hpn.1 hpn.2.1 0 (.slice none 0 0)
        have HSB10 := Lib.hid hSB10
        have HF10 := Lib.hid (hf.trans hf10 (S := []) (fun y hy => .inr (by simp at hy; omega)))
        clear hSB hf hSB10 hf10
        go_upto_if 140 with fail
        clear k0 k1 k2 k3
        generalize ((wc.setCell ⟨w1.heap.size, 0, none⟩ (.int .i64 0)).setCell ⟨w1.heap.size, 1, none⟩ (.slice none 0 0)) = w10 at *
        go_cut [14] (fun ev wy => ev = .int .i64 zj ∧ ∃ (a : Option Addr) (c : Nat), SB wy w.heap.size (w.heap.size + 1) w1.heap.size ws (.slice sa d sc) wt (.slice ta e0 tc) (dz zj wJ : Nat) (.slice a (dz zj dJ) c) ∧ SkF wy (.slice a (dz zj dJ) c) (dz zj dJ) (dz zj wJ) GJ ∧ Fr [] w wy)
        case first =>
          rcases HPJ.out.kind with ⟨hz, hBo⟩ | ⟨hz, hzj⟩
          · subst hz
            have HBO := Lib.hid hBo; clear hBo
            obtain ⟨⟨g0, g1⟩, ⟨g2, g3⟩, _⟩ := HSB10.out.cells
            have hlow := lt_of_blk HSB10.out.w
            go_wp2_with fail
            refine (HBO.out _ HF10.out).mono ?_
            intro e w11 h
            obtain ⟨a, c, rfl, hso, hf⟩ := h.uni
            clear h g0 g1 g2 g3
            have hSB11 := HSB10.out.fr hf
            obtain ⟨⟨k0, k1, k2, k3⟩, hSB12, hf12⟩ := hSB11.put hpn.1 hpn.2.1 (dz zj wJ : Nat) (.slice a (dz zj dJ) c)
            have HSB12 := Lib.hid hSB12
            have HSO12 := Lib.hid ((hso.kept hf12 (by simpa using hlow)).told)
            have HF12 := Lib.hid ((HF10.out.trans hf (by simp)).trans hf12 (S := []) (fun y hy => .inr (by simp at hy; omega)))
            clear hSB11 hSB12 hf12 hso hf
            go_wp2_with fail
            go_meet
            exact ⟨rfl, _, _, HSB12.out, HSO12.out, HF12.out⟩
          · subst hz
            subst hzj
            go_wp2_with fail
            go_meet
            exact ⟨rfl, none, 0, HSB10.out, skf_none _ _, HF10.out⟩
        case rest =>
          clear HF10 HSB10
          obtain ⟨rfl, a5, c5, hSB, hSK, hf⟩ := hcut
          have HSB := Lib.hid hSB; clear hSB
          have HSK := Lib.hid hSK; clear hSK
          have HF := Lib.hid hf; clear hf
          have hdz := dz_le zj dJ
          have hdw := dz_le zj wJ
          have hsm := HPJ.out.small
          obtain ⟨⟨g0, g1⟩, ⟨g2, g3⟩, _⟩ := HSB.out.cells
          go_wp2_with fail
          refine (HPJ.out.join _ HF.out).mono ?_
          intro e w3 h
          obtain ⟨a1, c1, rfl, hso, hf3⟩ := h.uni
          have hf4 := hf3.alloc (.cells #[.int .i64 (dz zj wJ : Nat), .slice a1 (dz zj dJ) c1] 24)
          have HX4 := Lib.hid (heap_alloc_new w3 (.cells #[.int .i64 (dz zj wJ : Nat), .slice a1 (dz zj dJ) c1] 24))
          have HS4 := Lib.hid (hso.told.fr ((Fr.refl [] w3).alloc (.cells #[.int .i64 (dz zj wJ : Nat), .slice a1 (dz zj dJ) c1] 24)))
          have HSB4 := Lib.hid (HSB.out.fr hf4)
          have HSK4 := Lib.hid (HSK.out.fr hf4)
          have HF4 := Lib.hid (HF.out.trans hf4 (by simp))
          clear h hso hf3 hf4 HSB HSK HF g0 g1 g2 g3
          go_wp2_with fail
          generalize w3.alloc (.cells #[.int .i64 (dz zj wJ : Nat), .slice a1 (dz zj dJ) c1] 24) = w4 at *
          refine (error_pe _ zj (HG.out.fr HF4.out (by simp)) _ rfl).mono ?_
          rintro e w5 ⟨rfl, hf5⟩
          have HX5 := Lib.hid (hf5.blk HX4.out (by simp))
          have HS5 := Lib.hid (HS4.out.fr hf5)
          have HSB5 := Lib.hid (HSB4.out.fr hf5)
          have HSK5 := Lib.hid (HSK4.out.fr hf5)
          have HF5 := Lib.hid (HF4.out.trans hf5 (by simp))
          clear hf5 HX4 HS4 HSB4 HSK4 HF4
          have g0 := blk_cell HX5.out 0 rfl
          have g1 := blk_cell HX5.out 1 rfl
          obtain ⟨_, _, g2, g3⟩ := HSB5.out.cells
          go_wp2_with fail
          refine (sketches_same _ _ _ (dz zj dJ) (dz zj wJ) _ _ HS5.out HSK5.out (fun i _ j _ => rfl) (by omega) (by omega)).mono ?_
          rintro e w6 ⟨rfl, hf6⟩
          have HF6 := Lib.hid (HF5.out.trans hf6 (by simp))
          clear hf6
          go_wp2
          go_ret
          exact ⟨rfl, HF6.out⟩

end Go.Proofs.YtgpfkaiinbncnaaDoor
