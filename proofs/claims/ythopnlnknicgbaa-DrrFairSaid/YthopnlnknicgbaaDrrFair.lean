/- DrrFair: the walk. -/
import Derived.Test.YthopnlnknicgbaaFairLaw
import Derived.Test.YthopnlnknicgbaaIdx
namespace Go.Proofs.Ythopnlnknicgbaa
open Go.RowKit

/-- the arguments that the law looks at -/
def FairArgs (n L : Nat) (a b : Int) : Prop := 0 ≤ a ∧ a < n ∧ 0 ≤ b ∧ b < n ∧ a ≠ b ∧ L ≠ 0 ∧ L ≤ 60

theorem DInv.mono {n : Nat} {B B' : Int} {sh : Nat → Int} {ln : Nat → Nat} {hd : Nat → Int} {s : Dst} (h : DInv n B sh ln hd s) (hB : B ≤ B') : DInv n B' sh ln hd s :=
  ⟨h.1, fun i hi => by
    obtain ⟨h0, h1, h2⟩ := h.2 i hi
    exact ⟨h0, fun hx => by have := h1 hx; omega, h2⟩⟩

/-- the two lines, while they are filled -/
structure FairPut (n a b L i : Nat) (sz : Nat → Int) (ln : Nat → Nat) (li : Nat → Nat → Int) : Prop where
  rest : ∀ j, j < n → j ≠ a → j ≠ b → ln j = 0
  la : ln a = i
  lb : ln b = i
  ia : ∀ k, k < i → li a k = sz k ∧ 1 ≤ sz k ∧ sz k ≤ 100
  ib : ∀ k, k < i → li b k = sz (L - 1 - k) ∧ 1 ≤ sz (L - 1 - k) ∧ sz (L - 1 - k) ≤ 10000

theorem FairPut.step {n a b L k : Nat} {sz : Nat → Int} {ln : Nat → Nat} {li : Nat → Nat → Int} (h : FairPut n a b L k sz ln li) (hab : a ≠ b) (h1 : 1 ≤ sz k ∧ sz k ≤ 100) {q : Nat} (hq : q = L - 1 - k) (h2 : 1 ≤ sz q ∧ sz q ≤ 10000) {ln1 ln2 : Nat → Nat} {li1 li2 : Nat → Nat → Int}
    (e1 : ln1 = fun j => if j = a then ln a + 1 else ln j) (e2 : li1 = fun j => if j = a then (fun t => if t < ln a then li a t else sz k) else li j)
    (e3 : ln2 = fun j => if j = b then ln1 b + 1 else ln1 j) (e4 : li2 = fun j => if j = b then (fun t => if t < ln1 b then li1 b t else sz q) else li1 j) : FairPut n a b L (k + 1) sz ln2 li2 := by
  have hla := h.la
  have hlb := h.lb
  have ea : ln2 a = k + 1 := by rw [e3, e1]; simp [hab, hla]
  have eb : ln2 b = k + 1 := by rw [e3, e1]; simp [hab.symm, hlb]
  have eb1 : ln1 b = k := by rw [e1]; simp [hab.symm, hlb]
  refine ⟨fun j hj h3 h4 => ?_, ea, eb, fun t ht => ?_, fun t ht => ?_⟩
  · rw [e3, e1]; simp [h3, h4]; exact h.rest j hj h3 h4
  · have e : li2 a t = if t < k then li a t else sz k := by rw [e4, e2]; simp [hab, hla]
    rw [e]
    by_cases hx : t < k
    · rw [if_pos hx]; exact h.ia t hx
    · rw [if_neg hx, show t = k by omega]; exact ⟨rfl, h1⟩
  · have e : li2 b t = if t < k then li b t else sz q := by
      rw [e4, eb1, e2]; simp [hab.symm]
    rw [e]
    by_cases hx : t < k
    · rw [if_pos hx]; exact h.ib t hx
    · rw [if_neg hx, show t = k by omega, ← hq]; exact ⟨rfl, h2⟩

theorem FairPut.start {n a b L : Nat} {sz : Nat → Int} {ln : Nat → Nat} {li : Nat → Nat → Int} (h : FairPut n a b L L sz ln li) (hL : L ≤ 60) (hL0 : 0 < L) (hn : 0 < n) (hab : a ≠ b) (sh : Nat → Int) :
    (1 ≤ mxa 0 sz L ∧ mxa 0 sz L ≤ 100) ∧ FairInv n a b (mxa 0 sz L) sh ⟨0, false, fun _ => 0⟩ ln li 0 0 (L + L) := by
  have hm := mxa_le 0 sz L
  have h0 := h.ia 0 hL0
  have hm0 := hm.2 0 hL0
  have hb : 1 ≤ mxa 0 sz L ∧ mxa 0 sz L ≤ 100 := by
    refine ⟨by omega, ?_⟩
    rcases mxa_mem 0 sz L with e | ⟨j, hj, e⟩
    · omega
    · have := h.ia j hj; omega
  have hla := h.la
  have hlb := h.lb
  refine ⟨hb, ⟨hn, fun i hi => ⟨Int.le_refl _, fun hx => by simp at hx, fun _ => .inl rfl⟩⟩, h.rest, fun i hi k hk => ?_, by omega, by omega, by omega, by omega, by omega, 0, by simp [gr1], by simp [gr1]⟩
  by_cases h1 : i = a
  · subst h1
    have := h.ia k (by omega)
    have := hm.2 k (by omega)
    omega
  · by_cases h2 : i = b
    · subst h2
      have h3 := h.ib k (by omega)
      have h4 := h.ia (L - 1 - k) (by omega)
      have := hm.2 (L - 1 - k) (by omega)
      omega
    · have := h.rest i hi h1 h2; omega

set_option maxRecDepth 100000 in
set_option maxHeartbeats 4000000 in
theorem drrFair_any (w : World) (a0 : Option Addr) (n c0 : Nat) (sh : Nat → Int) (a b : Int) (a3 : Option Addr) (L c3 : Nat) (sz : Nat → Int) (turns : Int) (hturns : turns ≤ 9223372036854775807)
    (hv : RdF w (.slice a0 n c0) n (fun j => .int .i64 (sh j))) (hz : RdF w (.slice a3 L c3) L (fun j => .int .i64 (sz j))) :
    Calls Try.prog 5 #[.slice a0 n c0, .int .i64 a, .int .i64 b, .slice a3 L c3, .int .i64 turns] w fun e w' => e = .returned (.bool true) ∧ Fr [] w w' := by
  have hLm := hz.le_cap
  unfold maxLen at hLm
  have HV := Lib.hid hv; clear hv
  have HZ := Lib.hid hz; clear hz
  go_enter Try.func5, Try.ntmps5
  go_wp2_with fail
  refine (shared_any _).mono ?_
  rintro e w0 ⟨rfl, hf0⟩
  have HF0 := Lib.hid hf0; clear hf0
  go_wp2_with fail
  refine (drr_new _ a0 n c0 sh (HV.out.fr HF0.out (by simp))).mono ?_
  rintro e w1 ⟨hf1, ⟨_, hn0, hn, hsh, p, gr, c, pf, rfl, hD⟩ | ⟨_, rfl⟩⟩
  · have HF1 := Lib.hid (HF0.out.trans hf1 (S := []) (by simp)); clear hf1
    have HSH := Lib.hid hsh; clear hsh
    have hsz0 := HF0.out.size
    have hsz1 : w0.heap.size ≤ w1.heap.size := by have h1 := lt_of_blk hD.blk; have h2 := hD.low.1; omega
    have HD := Lib.hid hD; clear hD
    by_cases hargs : FairArgs n L a b
    · unfold FairArgs at hargs
      obtain ⟨ha0, ha1, hb0, hb1, hab, hL0, hL1⟩ := hargs
      obtain ⟨a, rfl⟩ : ∃ k : Nat, a = (k : Int) := ⟨a.toNat, by omega⟩
      obtain ⟨b, rfl⟩ : ∃ k : Nat, b = (k : Int) := ⟨b.toNat, by omega⟩
      have hab' : ((a : Int) == (b : Int)) = false := by simp; omega
      have hL0' : ((L : Int) == 0) = false := by simp; omega
      obtain ⟨b9, o9, c9, he9, _, _, _, hc9⟩ := HV.out.shape hn0
      simp only [Value.slice.injEq, true_and] at he9
      obtain ⟨rfl, rfl⟩ := he9
      have HSC := Lib.hid hc9; clear hc9
      have han : a < n := by omega
      have hbn : b < n := by omega
      have hne : a ≠ b := by omega
      have HNE := Lib.hid hne
      have hLp : 0 < L := by omega
      have d1 : decide ((a : Int) < 0) = false := by simp
      have d2 : decide ((b : Int) < 0) = false := by simp
      have d3 : decide (n ≤ a) = false := by simp; omega
      have d4 : decide (n ≤ b) = false := by simp; omega
      have d5 : decide (60 < (L : Int)) = false := by simp; omega
      clear hab hne hL0
      go_wp2
      clear d1 d2 d3 d4 d5
      go_loopw [14, 15] (fun bg i wr => ∃ (k : Nat) (lv : Nat → Value) (ln : Nat → Nat) (li : Nat → Nat → Int), k ≤ L ∧ i = .int .i64 k ∧ bg = .int .i64 (mxa 0 sz k) ∧
        Drr wr w0.heap.size p gr n c pf lv sh ⟨0, false, fun _ => 0⟩ ln li (k + k) ∧ FairPut n a b L k sz ln li ∧ Fr [] w wr ∧ w0.heap.size ≤ wr.heap.size) (fun _ i _ => L - (intOf i).toNat)
      case atStart => exact ⟨0, _, _, _, by omega, rfl, rfl, HD.out, ⟨fun _ _ _ _ => rfl, rfl, rfl, fun k hk => by omega, fun k hk => by omega⟩, HF1.out, hsz1⟩
      case round =>
        obtain ⟨k, lv, ln, li, hk, rfl, rfl, hD, hP, hf, hsz⟩ := hrel
        have HF := Lib.hid hf; clear hf
        have HP := Lib.hid hP; clear hP
        have HDk := Lib.hid hD; clear hD
        by_cases hlt : k < L
        · obtain ⟨b1, o1, c1, he1, _, _, _, hc1⟩ := HZ.out.shape (by omega)
          simp only [Value.slice.injEq, true_and] at he1
          obtain ⟨rfl, rfl⟩ := he1
          have HC := Lib.hid (fun j (hj : j < L) => HF.out.cell (hc1 j hj) (by simp))
          have HC1 := Lib.hid hc1
          clear hc1
          have k1 := HC.out k hlt
          have k0 : (0 : Int) ≤ (k : Int) := by omega
          have k3 : (k : Int) < (L : Int) := by omega
          by_cases hgood : 1 ≤ sz k ∧ sz k ≤ 100
          · have hla := HP.out.la
            have hlb := HP.out.lb
            have HG := Lib.hid hgood
            go_wp2_with fail
            refine (drr_put_ok _ HDk.out hn hsz a (sz k) han (by omega) (by omega) (by omega)).mono ?_
            rintro e w2 ⟨rfl, v4, hD2, hf2, _⟩
            have HF2 := Lib.hid (hf2.fr HF.out (fun y hy => by have := HDk.out.inD_lt hy; omega)); 
            have hsz2 : w0.heap.size ≤ w2.heap.size := by have := hf2.size; omega
            clear hf2
            have HD2 := Lib.hid hD2; clear hD2
            have k2 := HF2.out.cell (HC1.out (L - 1 - k) (by omega)) (by simp)
            have hcast : (L : Int) - 1 - (k : Int) = ((L - 1 - k : Nat) : Int) := by omega
            have HCA := Lib.hid hcast; clear hcast k1
            obtain ⟨q, hq⟩ : ∃ q, q = L - 1 - k := ⟨_, rfl⟩
            rw [← hq] at k2
            have hqL : q < L := by omega
            have q1 : (L : Int) - 1 - (k : Int) = (q : Int) := by omega
            have HQ := Lib.hid hq; clear hq
            have HL2 := Lib.hid (show (if b = a then ln a + 1 else ln b) = k from by rw [if_neg (fun h => HNE.out h.symm)]; exact hlb)
            clear hla hlb
            by_cases hgood2 : 1 ≤ sz q ∧ sz q ≤ 10000
            · go_wp2_with fail
              refine (drr_put_ok _ HD2.out hn hsz2 b (sz q) hbn hgood2 (by omega) (by have := HL2.out; omega)).mono ?_
              rintro e w3 ⟨rfl, v5, hD3, hf3, _⟩
              have HF3 := Lib.hid (hf3.fr HF2.out (fun y hy => by have := HD2.out.inD_lt hy; omega))
              have hsz3 : w0.heap.size ≤ w3.heap.size := by have := hf3.size; omega
              clear hf3
              have hD4 := hD3
              rw [show k + k + 1 + 1 = (k + 1) + (k + 1) by omega] at hD4
              have HD4 := Lib.hid hD4; clear hD3 hD4
              have HP4 := Lib.hid (HP.out.step HNE.out HG.out HQ.out hgood2 rfl rfl rfl rfl)
              have k5 := HF3.out.cell (HC1.out k hlt) (by simp)
              clear k2 q1
              go_wp2
              all_goals
                go_roundw
                case rel => exact ⟨k + 1, _, _, _, by omega, by go_num, by rw [mxa_succ], HD4.out, HP4.out, HF3.out, hsz3⟩
                case measure => simp [intOf]; omega
            · go_wp2_with fail
              refine (drr_put_range _ HD2.out hn b (sz q) (fun hx => hgood2 ⟨hx.2.2.1, hx.2.2.2⟩)).mono ?_
              rintro e w3 ⟨rfl, rfl⟩
              go_wp2
              go_ret
              exact ⟨rfl, HF2.out⟩
          · have hgg : sz k < 1 ∨ (1 ≤ sz k ∧ 100 < sz k) := by omega
            clear hgood
            rcases hgg with hg1 | ⟨hg1, hg2⟩
            all_goals
              go_wp2
              go_ret
              exact ⟨rfl, HF.out⟩
        · obtain rfl : k = L := by omega
          have hst := HP.out.start hL1 (by omega) hn0 HNE.out sh
          have hbig := hst.1
          have HST := Lib.hid hst.2; clear hst
          generalize mxa 0 sz k = big at *
          clear hlt
          have hx0 := HF.out.size
          go_wp2
          go_loopw [16, 17, 18] (fun xx yy i wr => ∃ (t : Nat) (s : Dst) (lv : Nat → Value) (ln : Nat → Nat) (li : Nat → Nat → Int) (x y : Int) (wt : Nat), i = .int .i64 t ∧ xx = .int .i64 x ∧ yy = .int .i64 y ∧ (t = 0 ∨ (t : Int) ≤ turns) ∧
            Drr wr w0.heap.size p gr n c pf lv sh s ln li wt ∧ FairInv n a b big sh s ln li x y wt ∧ Fr [] w wr ∧ w0.heap.size ≤ wr.heap.size) (fun _ _ i _ => turns.toNat - (intOf i).toNat)
          case atStart => exact ⟨0, _, _, _, _, 0, 0, _, rfl, rfl, rfl, .inl rfl, HDk.out, HST.out, HF.out, hsz⟩
          case round =>
            obtain ⟨t, s, lv2, ln2, li2, x, y, wt, rfl, rfl, rfl, ht, hD, hI, hf, hsz'⟩ := hrel
            clear HP HDk HST HF hsz hx0
            have HF := Lib.hid hf; clear hf
            have HI := Lib.hid hI; clear hI
            have HDk := Lib.hid hD; clear hD
            by_cases hlt : (t : Int) < turns
            · have ht1 : (t : Int) + 1 ≤ turns := by omega
              have ht2 : (t : Int) ≤ 9223372036854775806 := by omega
              clear ht
              go_wp2_with fail
              refine (drr_waits _ HDk.out hn).mono ?_
              rintro e w2 ⟨a2, c2, rfl, ho2, hf2⟩
              have HD2 := Lib.hid (HDk.out.kept hf2 (by simp))
              have HF2 := Lib.hid (HF.out.trans hf2 (S := []) (by simp))
              have hsz2 : w0.heap.size ≤ w2.heap.size := by have := hf2.size; omega
              obtain ⟨g2, cap2, e2, _, hr2⟩ := ho2.row hn0
              simp only [Value.slice.injEq, true_and] at e2
              obtain ⟨rfl, rfl⟩ := e2
              have x1 := hr2.cell a han
              have x2 := hr2.cell b hbn
              clear hf2 ho2 hr2
              by_cases hfew : ln2 a < 2 ∨ (2 ≤ ln2 a ∧ ln2 b < 2)
              · rcases hfew with h1 | ⟨h1, h2⟩
                all_goals
                  go_wp2
                  go_ret
                  exact ⟨rfl, HF2.out⟩
              · have hfa : 2 ≤ ln2 a := by omega
                have hfb : 2 ≤ ln2 b := by omega
                clear hfew
                have hwt := HI.out.wt
                go_wp2_with fail
                refine (drr_next _ HD2.out hn (HI.out.inv.mono (by omega)) HSH.out (fun i hi hl => by have := HI.out.item i hi 0 hl; omega) (fun i hi => by
                  have h1 := HI.out.la
                  have h2 := HI.out.lb
                  by_cases h3 : i = a
                  · subst h3; omega
                  · by_cases h4 : i = b
                    · subst h4; omega
                    · have := HI.out.rest i hi h3 h4; omega) (by omega) (by have h1 := HI.out.la; have h2 := HI.out.lb; omega) a han (by omega)).mono ?_
                rintro e w3 ⟨s1, lv3, hr, hst, hp1, rfl, hD3, hf3, _⟩
                obtain ⟨hpos, hI3, hit⟩ := HI.out.next han hbn HNE.out hbig (fun i hi => (HSH.out i hi).1) (by omega) (by omega) hr hst
                clear hr hst
                have HF3 := Lib.hid (hf3.fr HF2.out (fun y hy => by have := HD2.out.inD_lt hy; omega))
                have hsz3 : w0.heap.size ≤ w3.heap.size := by have := hf3.size; omega
                clear hf3 x1 x2 hwt hfa hfb
                have bx := HI.out.bx
                have bb := HI.out.by_
                have sa := HSH.out a han
                have sb := HSH.out b hbn
                have HD3 := Lib.hid hD3; clear hD3
                have z1 := HF3.out.cell (HSC.out a han) (by simp)
                have z2 := HF3.out.cell (HSC.out b hbn) (by simp)
                obtain ⟨P, hP⟩ : ∃ P, s1.pos = P := ⟨_, rfl⟩
                rw [hP] at hpos hI3 hit HD3 ⊢
                have HP3 := Lib.hid hP; clear hP hp1
                have HI3 := Lib.hid hI3; clear hI3
                have HPOS := Lib.hid hpos; clear hpos
                have hba' : ((b : Int) == (a : Int)) = false := by have := HNE.out; simp; omega
                have hba2 : ¬ b = a := fun h => HNE.out h.symm
                go_upto_region 25 with fail
                go_cut [159] (fun v wy => v = .bool false ∧ wy = w3)
                case first =>
                  rcases HPOS.out with e | e
                  · have e' := e.symm
                    subst e'
                    clear e
                    go_wp2_with fail
                    go_meet
                    exact ⟨rfl, rfl⟩
                  · have e' := e.symm
                    subst e'
                    clear e
                    go_wp2_with fail
                    go_meet
                    exact ⟨rfl, rfl⟩
                case rest =>
                  obtain ⟨rfl, rfl⟩ := hcut
                  go_upto_if 162 with fail
                  go_cut [16, 17] (fun xx yy wy => ∃ X Y, xx = .int .i64 X ∧ yy = .int .i64 Y ∧ FairInv n a b big sh (dgive sh (fun i => li2 i 0) s1) (fun j => if j = P then ln2 j - 1 else ln2 j) (fun j => if j = P then (fun k => li2 j (k + 1)) else li2 j) X Y (wt - 1) ∧ wy = wc)
                  case first =>
                    rcases HPOS.out with e | e
                    · have hI3 := HI3.out
                      simp only [if_pos e] at hI3
                      have e' := e.symm
                      subst e'
                      clear e
                      have HI4 := Lib.hid hI3; clear hI3
                      go_wp2_with fail
                      go_meet
                      exact ⟨_, _, rfl, rfl, HI4.out, rfl⟩
                    · have hI3 := HI3.out
                      simp only [if_neg (show ¬ P = a from fun h => HNE.out (h.symm.trans e))] at hI3
                      have e' := e.symm
                      subst e'
                      clear e
                      have HI4 := Lib.hid hI3; clear hI3
                      go_wp2_with fail
                      go_meet
                      exact ⟨_, _, rfl, rfl, HI4.out, rfl⟩
                  case rest =>
                    obtain ⟨X, Y, rfl, rfl, hI4, rfl⟩ := hcut
                    have fa := hI4.credit (by omega) (fun i hi => (HSH.out i hi).1) han
                    have fb := hI4.credit (by omega) (fun i hi => (HSH.out i hi).1) hbn
                    obtain ⟨M, hMM, ffar, hM1⟩ : ∃ M, ((sh a < sh b ∧ M = sh b) ∨ (¬ sh a < sh b ∧ M = sh a)) ∧ (-(2 * sh a * sh b + big * M) ≤ X * sh b - Y * sh a ∧ X * sh b - Y * sh a ≤ 2 * sh a * sh b + big * M) ∧ 1 ≤ M ∧ M ≤ 10000 := by
                      by_cases hlt : sh a < sh b
                      · exact ⟨sh b, .inl ⟨hlt, rfl⟩, hI4.far han hbn hbig (fun i hi => (HSH.out i hi).1) (by omega), by omega⟩
                      · exact ⟨sh a, .inr ⟨hlt, rfl⟩, hI4.far han hbn hbig (fun i hi => (HSH.out i hi).1) (by omega), by omega⟩
                    have bx3 := hI4.bx
                    have bb3 := hI4.by_
                    have HI4 := Lib.hid hI4; clear hI4
                    have HMM := Lib.hid hMM; clear hMM
                    go_wp2_with fail
                    refine (drr_credit _ HD3.out hn).mono ?_
                    rintro e4 w4 ⟨a4, c4, rfl, ho4, hf4⟩
                    have HD4 := Lib.hid (HD3.out.kept hf4 (by simp))
                    have HF4 := Lib.hid (HF3.out.trans hf4 (S := []) (by simp))
                    have hsz4 : w0.heap.size ≤ w4.heap.size := by have := hf4.size; omega
                    have u1 := hf4.cell z1 (by simp)
                    have u2 := hf4.cell z2 (by simp)
                    obtain ⟨g4, cap4, e5, _, hr4⟩ := ho4.row hn0
                    simp only [Value.slice.injEq, true_and] at e5
                    obtain ⟨rfl, rfl⟩ := e5
                    have y1 := hr4.cell a han
                    have y2 := hr4.cell b hbn
                    clear hf4 ho4 hr4 z1 z2 bx bb hit
                    have p1 : 0 ≤ X * sh b ∧ X * sh b ≤ 60000000 := ⟨Int.mul_nonneg (by omega) (by omega), by have h1 : X * sh b ≤ 6000 * 10000 := Int.mul_le_mul (by omega) (by omega) (by omega) (by omega); omega⟩
                    have p2 : 0 ≤ Y * sh a ∧ Y * sh a ≤ 60000000 := ⟨Int.mul_nonneg (by omega) (by omega), by have h1 : Y * sh a ≤ 6000 * 10000 := Int.mul_le_mul (by omega) (by omega) (by omega) (by omega); omega⟩
                    have p3 : 0 ≤ 2 * sh a * sh b ∧ 2 * sh a * sh b ≤ 200000000 := ⟨Int.mul_nonneg (by omega) (by omega), by have h1 : 2 * sh a * sh b ≤ 20000 * 10000 := Int.mul_le_mul (by omega) (by omega) (by omega) (by omega); omega⟩
                    have p4 : 0 ≤ big * M ∧ big * M ≤ 1000000 := ⟨Int.mul_nonneg (by omega) (by omega), by have h1 : big * M ≤ 100 * 10000 := Int.mul_le_mul (by omega) (by omega) (by omega) (by omega); omega⟩
                    generalize (dgive sh (fun i => li2 i 0) s1).cr a = ca at *
                    generalize (dgive sh (fun i => li2 i 0) s1).cr b = cb at *
                    have n1 : decide (ca < 0) = false := by simp; omega
                    have n2 : decide (sh a + big ≤ ca) = false := by simp; omega
                    have n3 : decide (cb < 0) = false := by simp; omega
                    have n4 : decide (sh b + big ≤ cb) = false := by simp; omega
                    clear fa fb bx3 bb3
                    go_wp2_with fail
                    go_quiet (fail)
                    clear n1 n2 n3 n4 y1 y2
                    go_wp2_with fail
                    go_quiet (fail)
                    go_upto_if 223 with fail
                    go_cut [24] (fun v wy => ∃ d q, v = .int .i64 d ∧ 0 ≤ d ∧ d ≤ 2 * sh a * sh b + big * M ∧ wy = w4.drewN q)
                    case first =>
                      by_cases hneg : X * sh b - Y * sh a < 0
                      · have R1 := Lib.hid (show 0 ≤ -(X * sh b - Y * sh a) ∧ -(X * sh b - Y * sh a) ≤ 2 * sh a * sh b + big * M by omega)
                        go_wp2_with fail
                        go_meet
                        exact ⟨_, _, rfl, R1.out.1, R1.out.2, rfl⟩
                      · have R1 := Lib.hid (show 0 ≤ X * sh b - Y * sh a ∧ X * sh b - Y * sh a ≤ 2 * sh a * sh b + big * M by omega)
                        go_wp2_with fail
                        go_meet
                        exact ⟨_, _, rfl, R1.out.1, R1.out.2, rfl⟩
                    case rest =>
                      obtain ⟨d, q5, rfl, hd0, hd1, rfl⟩ := hcut
                      clear ffar p1 p2
                      have HREL := Lib.hid (show ∀ q, ∃ (t' : Nat) (s : Dst) (lv : Nat → Value) (ln : Nat → Nat) (li : Nat → Nat → Int) (x y : Int) (wt : Nat), Value.int .i64 ((t : Int) + 1) = .int .i64 (t' : Int) ∧ Value.int .i64 X = .int .i64 x ∧ Value.int .i64 Y = .int .i64 y ∧ (t' = 0 ∨ (t' : Int) ≤ turns) ∧
                          Drr (w4.drewN q) w0.heap.size p gr n c pf lv sh s ln li wt ∧ FairInv n a b big sh s ln li x y wt ∧ Fr [] w (w4.drewN q) ∧ w0.heap.size ≤ (w4.drewN q).heap.size from
                        fun q => ⟨t + 1, dgive sh (fun i => li2 i 0) s1, lv3, _, _, X, Y, wt - 1, by simp, rfl, rfl, .inr (by omega), HD4.out.kept ((Fr.refl [] _).drewN q) (by simp), HI4.out, HF4.out.drewN q, hsz4⟩)
                      go_wp2_with fail
                      rcases HMM.out with ⟨h1, h2⟩ | ⟨h1, h2⟩
                      all_goals
                        subst h2
                        go_quiet (fail)
                        go_wp2
                        go_roundw
                        case rel => exact HREL.out _
                        case measure => simp [intOf]; omega
            · clear ht
              go_wp2
              go_ret
              exact ⟨rfl, HF.out⟩
    · have hx : a < 0 ∨ (0 ≤ a ∧ b < 0) ∨ (0 ≤ a ∧ 0 ≤ b ∧ n ≤ a) ∨ (0 ≤ a ∧ 0 ≤ b ∧ a < n ∧ n ≤ b) ∨ (0 ≤ a ∧ 0 ≤ b ∧ a < n ∧ b < n ∧ a = b) ∨ (0 ≤ a ∧ 0 ≤ b ∧ a < n ∧ b < n ∧ a ≠ b ∧ L = 0) ∨ (0 ≤ a ∧ 0 ≤ b ∧ a < n ∧ b < n ∧ a ≠ b ∧ L ≠ 0 ∧ 60 < L) := by
        unfold FairArgs at hargs; omega
      clear hargs
      rcases hx with h1 | ⟨h1, h2⟩ | ⟨h1, h2, h3⟩ | ⟨h1, h2, h3, h4⟩ | ⟨h1, h2, h3, h4, h5⟩ | ⟨h1, h2, h3, h4, h5, h6⟩ | ⟨h1, h2, h3, h4, h5, h6, h7⟩
      case' inr.inr.inr.inr.inr.inl => have h5' : (a == b) = false := by simpa using h5
      case' inr.inr.inr.inr.inr.inr => have h5' : (a == b) = false := by simpa using h5
      all_goals
        go_wp2
        go_ret
        exact ⟨rfl, HF1.out⟩
  · have HF1 := Lib.hid (HF0.out.trans hf1 (S := []) (by simp)); clear hf1
    go_wp2
    go_ret
    exact ⟨rfl, HF1.out⟩

end Go.Proofs.Ythopnlnknicgbaa
