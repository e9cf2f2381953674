/- DrrTells: the walk. -/
import Derived.Test.YthopnlnknicgbaaDoorDrrTellsLaw
import Derived.Test.YthopnlnknicgbaaDoorInts
import Derived.Test.YthopnlnknicgbaaDoorDoor
namespace Go.Proofs.YthopnlnknicgbaaDoor
open Go.RowKit

/-- the flows' blocks, and that of the reference's lines -/
def DD (p gr n : Nat) (pf : Nat → Nat) (lv : Nat → Value) (pl y : Nat) : Prop := InD p gr n pf lv y ∨ y = pl

structure LT (w wr : World) (B p gr n c : Nat) (pf : Nat → Nat) (lv : Nat → Value) (sh : Nat → Int) (pl : Nat) (sa : Option Addr) (sc : Nat) (s : Dst) (ln : Nat → Nat) (li : Nat → Nat → Int) (wt : Nat)
    (s2 : Dst) (ln2 : Nat → Nat) (li2 : Nat → Nat → Int) (ca : Option Addr) (cc : Nat) (la : Option Addr) (lc : Nat) : Prop where
  drr : Drr wr B p gr n c pf lv sh s ln li wt
  box : wr.heap[pl]? = some (.cells #[.slice sa n sc, .slice ca n cc, .slice la n lc, .int .i64 s2.pos, .bool s2.vis] 50 (0, 0))
  rl : RL wr (DD p gr n pf lv pl) (.slice ca n cc) (.slice la n lc) n s2 ln2 li2
  fr : Fr [] w wr
  low : w.heap.size ≤ B ∧ B ≤ wr.heap.size ∧ w.heap.size ≤ pl

section
variable {w wr w1 : World} {B p gr n c : Nat} {pf : Nat → Nat} {lv lv' : Nat → Value} {sh : Nat → Int} {pl : Nat} {sa : Option Addr} {sc : Nat} {s s' s2 s3 : Dst} {ln ln' ln2 ln3 : Nat → Nat} {li li' li2 li3 : Nat → Nat → Int} {wt wt' : Nat}
  {ca ca' : Option Addr} {cc cc' : Nat} {la la' : Option Addr} {lc lc' : Nat}

theorem LT.kept (h : LT w wr B p gr n c pf lv sh pl sa sc s ln li wt s2 ln2 li2 ca cc la lc) (hf : Fr [] wr w1) : LT w w1 B p gr n c pf lv sh pl sa sc s ln li wt s2 ln2 li2 ca cc la lc :=
  ⟨h.drr.kept hf (by simp), hf.blk h.box (by simp), h.rl.fr hf, h.fr.trans hf (by simp), by have := h.low; have := hf.size; omega⟩

theorem LT.dd_lt (h : LT w wr B p gr n c pf lv sh pl sa sc s ln li wt s2 ln2 li2 ca cc la lc) : ∀ y, DD p gr n pf lv pl y → y < wr.heap.size := fun y hy => by
  rcases hy with hy | rfl
  · exact (h.drr.inD_lt hy).1
  · exact lt_of_blk h.box

/-- the program's own has turned -/
theorem LT.own (h : LT w wr B p gr n c pf lv sh pl sa sc s ln li wt s2 ln2 li2 ca cc la lc) (hd : Drr w1 B p gr n c pf lv' sh s' ln' li' wt') (hf : FrP (InD p gr n pf lv) wr w1) (hn : ∀ y, InD p gr n pf lv' y → InD p gr n pf lv y ∨ wr.heap.size ≤ y) :
    LT w w1 B p gr n c pf lv' sh pl sa sc s' ln' li' wt' s2 ln2 li2 ca cc la lc := by
  obtain ⟨S, f1, f2⟩ := hf
  have k1 := (h.rl.grow (D' := fun y => DD p gr n pf lv pl y ∨ DD p gr n pf lv' pl y) (fun y hy => by
    rcases hy with hy | hy | hy
    · exact .inl hy
    · rcases hn y hy with h1 | h1
      · exact .inl (.inl h1)
      · exact .inr h1
    · exact .inl (.inr hy))).frp (.of f1 (fun y hy => .inl (.inl (f2 y hy))))
  exact ⟨hd, f1.blk h.box (fun hm => h.drr.notD h.box (f2 _ hm)), k1.grow (fun y hy => .inl (.inr hy)), h.fr.trans f1 (fun x hx => .inr (by have := (h.drr.inD_lt (f2 x hx)).2; have := h.low; omega)), by have := h.low; have := f1.size; omega⟩

/-- the reference's lines are others now -/
theorem LT.ref (h : LT w wr B p gr n c pf lv sh pl sa sc s ln li wt s2 ln2 li2 ca cc la lc) {w2 : World} (hf : Fr [] wr w1) (f5 : Fr [pl] w1 w2) (hr : RL w1 (DD p gr n pf lv pl) (.slice ca' n cc') (.slice la' n lc') n s3 ln3 li3)
    (hb : w2.heap[pl]? = some (.cells #[.slice sa n sc, .slice ca' n cc', .slice la' n lc', .int .i64 s3.pos, .bool s3.vis] 50 (0, 0))) :
    LT w w2 B p gr n c pf lv sh pl sa sc s ln li wt s3 ln3 li3 ca' cc' la' lc' := by
  have h1 := h.kept hf
  refine ⟨h1.drr.keptD f5 (fun x hx => ?_), hb, hr.frp (.of f5 (fun x hx => .inr (by simpa using hx))), h1.fr.trans f5 (fun x hx => .inr (by have := h.low; simp at hx; omega)), by have := h1.low; have := f5.size; omega⟩
  have e : x = pl := by simpa using hx
  rw [e]
  exact h1.drr.notD h1.box
end

theorem ints_same (w : World) (a b : Option Addr) (n c d : Nat) (f : Nat → Int) (hf : RdF w (.slice a n c) n (fun j => .int .i64 (f j))) (hg : RdF w (.slice b n d) n (fun j => .int .i64 (f j))) (hn : n ≤ 40) :
    Calls Tryd.prog 15 #[.slice a n c, .slice b n d] w fun e w' => e = .returned (.bool true) ∧ ∃ q, w' = w.drewN q := by
  refine (ints_any w a b n n c d f f hf hg (by omega) (by omega)).mono ?_
  rintro e w8 ⟨rfl, q⟩
  exact ⟨by rw [(eqUpTo_iff _ _ _).2 (fun _ _ => rfl)]; simp, q⟩

theorem RL.waited {w5 : World} {D : Nat → Prop} {B n q : Nat} {cv lv : Value} {U : Nat → Value} {s : Dst} {ln : Nat → Nat} {li : Nat → Nat → Int} {x : Int} (hcr : RdD w5 D cv n (fun j => .int .i64 (s.cr j))) (ho : OwnF w5 B 22 lv n U)
    (hu : ∀ i, i < n → OwnF w5 B 3 (U i) (if i = q then ln q + 1 else ln i) (fun j => .int .i64 (if i = q then (if j < ln q then li q j else x) else li i j))) (hD : ∀ y, D y → y < B) :
    RL w5 D cv lv n s (fun j => if j = q then ln q + 1 else ln j) (fun j => if j = q then (fun t => if t < ln q then li q t else x) else li j) := by
  refine ⟨hcr, U, .new ho hD, fun i hi => (RdD.new (hu i hi) hD).congr (fun j hj => ?_)⟩
  by_cases h : i = q
  · simp [h]
  · simp [h]

set_option maxRecDepth 100000 in
set_option maxHeartbeats 8000000 in
theorem drrTells_any (w : World) (hg : Hand w) (a0 : Option Addr) (n c0 : Nat) (sh : Nat → Int) (a1 : Option Addr) (F c1 : Nat) (fl : Nat → Int) (a2 : Option Addr) (Z c2 : Nat) (sz : Nat → Int)
    (hv : RdF w (.slice a0 n c0) n (fun j => .int .i64 (sh j))) (hfl : RdF w (.slice a1 F c1) F (fun j => .int .i64 (fl j))) (hz : RdF w (.slice a2 Z c2) Z (fun j => .int .i64 (sz j))) (hZ : Z ≤ 140737488355328) (hFm : F ≤ 140737488355328) :
    Calls Tryd.prog 6 #[.slice a0 n c0, .slice a1 F c1, .slice a2 Z c2] w fun e w' => e = .returned (.bool true) ∧ Fr [] w w' := by
  have HG := Lib.hid hg; clear hg
  have HV := Lib.hid hv; clear hv
  have HL := Lib.hid hfl; clear hfl
  have HZ := Lib.hid hz; clear hz
  go_enter Tryd.func6, Tryd.ntmps6
  go_wp2_with fail
  refine (shared_any _).mono ?_
  rintro e w0 ⟨rfl, hf0⟩
  have HF0 := Lib.hid hf0; clear hf0
  go_wp2_with fail
  refine (sharesFault_any _ a0 n c0 sh (HV.out.fr HF0.out (by simp))).mono ?_
  rintro e wq ⟨rfl, hwq⟩
  subst hwq
  go_wp2_with fail
  refine (drr_new _ a0 n c0 sh (HV.out.fr HF0.out (by simp))).mono ?_
  rintro e w1 ⟨hf1, ⟨hsf, hn0, hn, hsh, p, gr, c, pf, rfl, hD⟩ | ⟨hsf, rfl⟩⟩
  · have HF1 := Lib.hid (HF0.out.trans hf1 (S := []) (by simp)); clear hf1
    have HSH := Lib.hid hsh; clear hsh
    have HD := Lib.hid hD; clear hD
    rw [hsf]
    clear hsf
    go_wp2_with fail
    refine (error_any _ none 0 (HG.out.fr HF1.out (by simp))).mono ?_
    rintro e w2 ⟨rfl, hf2⟩
    rw [show decide (numOf none = 0) = true from rfl]
    have HD2 := Lib.hid (HD.out.kept hf2 (by simp))
    have HF2 := Lib.hid (HF1.out.trans hf2 (by simp))
    have hsz0 := HF0.out.size
    have hsz2 : wq.heap.size ≤ w2.heap.size := by have h1 := lt_of_blk HD2.out.blk; have h2 := HD2.out.low.1; omega
    clear hf2
    by_cases hF : 80 < F
    · go_wp2
      go_ret
      exact ⟨rfl, HF2.out⟩
    by_cases hFZ : Z < F
    · go_wp2
      go_ret
      exact ⟨rfl, HF2.out⟩
    have d1 : decide (80 < (F : Int)) = false := by simp; omega
    have d2 : decide ((Z : Int) < (F : Int)) = false := by simp; omega
    have d3 : decide (Z < F) = false := by simp; omega
    have d4 : decide (80 < F) = false := by simp; omega
    go_wp2_with fail
    clear d1 d2 d3 d4
    refine (linesOf_any _ a0 n c0 hn).mono ?_
    rintro e w3 ⟨g1, g2, rfl, hg1, hg2, hr1, hr2, hf3⟩
    go_wp2_with fail
    have hb3 := heap_alloc_new w3 (.cells #[.slice a0 n c0, .slice (some ⟨g1, 0, none⟩) n n, .slice (some ⟨g2, 0, none⟩) n n, .int .i64 0, .bool false] 50)
    have f3 := (Fr.refl [] w3).alloc (.cells #[.slice a0 n c0, .slice (some ⟨g1, 0, none⟩) n n, .slice (some ⟨g2, 0, none⟩) n n, .int .i64 0, .bool false] 50)
    have hs3 := hf3.size
    have hst : LT w (w3.alloc (.cells #[.slice a0 n c0, .slice (some ⟨g1, 0, none⟩) n n, .slice (some ⟨g2, 0, none⟩) n n, .int .i64 0, .bool false] 50)) wq.heap.size p gr n c pf (fun _ => .slice none 0 0) sh w3.heap.size a0 c0 ⟨0, false, fun _ => 0⟩ (fun _ => 0) (fun _ _ => 0) 0 ⟨0, false, fun _ => 0⟩ (fun _ => 0) (fun _ _ => 0) (some ⟨g1, 0, none⟩) n (some ⟨g2, 0, none⟩) n := by
      have hdd : ∀ g, w2.heap.size ≤ g → g < w3.heap.size → ¬ DD p gr n pf (fun _ => .slice none 0 0) w3.heap.size g := fun g h1 h2 h3 => by
        rcases h3 with h3 | h3
        · have := (HD2.out.inD_lt h3).1; omega
        · omega
      refine ⟨(HD2.out.kept hf3 (by simp)).kept f3 (by simp), hb3, ⟨⟨(hr1.kept f3 (by simp)).rd, fun _ b o c e => ?_⟩, _, ⟨(hr2.kept f3 (by simp)).rd, fun _ b o c e => ?_⟩, fun i hi => ⟨.inl ⟨rfl, rfl⟩, fun h => by omega⟩⟩, (HF2.out.trans hf3 (by simp)).trans f3 (by simp), hsz0, by have := f3.size; omega, by omega⟩
      · simp only [Value.slice.injEq, Option.some.injEq, Addr.mk.injEq] at e
        rw [← e.1.1]
        exact hdd g1 hg1 hr1.lt
      · simp only [Value.slice.injEq, Option.some.injEq, Addr.mk.injEq] at e
        rw [← e.1.1]
        exact hdd g2 hg2 hr2.lt
    have hti : TInv n 0 sh ⟨0, false, fun _ => 0⟩ (fun _ => 0) (fun _ _ => 0) 0 := ⟨⟨hn0, fun i hi => ⟨Int.le_refl _, fun hx => by simp at hx, fun _ => .inl rfl⟩⟩, fun _ _ t ht => by omega, (nsum_zero n).symm, by omega⟩
    have HST := Lib.hid hst
    have HTI := Lib.hid hti
    clear hst hti hb3 f3 hr1 hr2 hf3 hg1 hg2 HD HD2 HF1 HF2 HF0
    generalize w3.alloc (.cells #[.slice a0 n c0, .slice (some ⟨g1, 0, none⟩) n n, .slice (some ⟨g2, 0, none⟩) n n, .int .i64 0, .bool false] 50) = w4 at *
    generalize w3.heap.size = pl at *
    go_loopw [13] (fun i wr => ∃ (k : Nat) (s : Dst) (lv : Nat → Value) (ln : Nat → Nat) (li : Nat → Nat → Int) (wt : Nat) (ca : Option Addr) (cc : Nat) (la : Option Addr) (lc : Nat), i = .int .i64 k ∧ k ≤ F ∧ TInv n k sh s ln li wt ∧
      LT w wr wq.heap.size p gr n c pf lv sh pl a0 c0 s ln li wt s ln li ca cc la lc) (fun i _ => F - (intOf i).toNat)
    case atStart => exact ⟨0, _, _, _, _, 0, _, _, _, _, rfl, by omega, HTI.out, HST.out⟩
    case round =>
      clear HST HTI
      obtain ⟨k, s, lv, ln, li, wt, ca, cc, la, lc, rfl, hk, hti, hlt0⟩ := hrel
      have HTI := Lib.hid hti; clear hti
      have HLT := Lib.hid hlt0; clear hlt0
      have hbd := HTI.out.bd
      by_cases hlt : k < F
      · obtain ⟨b1, o1, x1, he1, _, _, hbw1, hc1⟩ := HL.out.shape (by omega)
        simp only [Value.slice.injEq, true_and] at he1
        obtain ⟨rfl, rfl⟩ := he1
        obtain ⟨b2, o2, x2, he2, _, _, hbw2, hc2⟩ := HZ.out.shape (by omega)
        simp only [Value.slice.injEq, true_and] at he2
        obtain ⟨rfl, rfl⟩ := he2
        have K1 := Lib.hid (hc1 k hlt)
        have K2 := Lib.hid (hc2 k (by omega))
        clear hc1 hc2
        have k1 := HLT.out.fr.cell K1.out (by simp)
        have k2 := HLT.out.fr.cell K2.out (by simp)
        have k0 : (0 : Int) ≤ (k : Int) := by omega
        have k3 : (k : Int) < (F : Int) := by omega
        have k4 : (k : Int) < (Z : Int) := by omega
        obtain ⟨e0, e1, e2, e3, e4⟩ := box5 HLT.out.box
        by_cases hneg : 0 ≤ fl k
        · obtain ⟨z, hz⟩ : ∃ z : Int, (DRange n (fl k) (sz k) ∧ z = 0) ∨ (¬ DRange n (fl k) (sz k) ∧ z = 6) := by
            by_cases h : DRange n (fl k) (sz k)
            · exact ⟨0, .inl ⟨h, rfl⟩⟩
            · exact ⟨6, .inr ⟨h, rfl⟩⟩
          have HZZ := Lib.hid hz; clear hz
          obtain ⟨V, hV1, hV2⟩ := HLT.out.rl.row
          have HV1 := Lib.hid hV1
          have HV2 := Lib.hid hV2
          clear hV1 hV2
          go_upto_region 14 with fail
          go_cut [14] (fun f wy => f = .int .i64 z ∧ Fr [] wr wy)
          case first =>
            have HCALL := Lib.hid (putFault_any wr.drew (.slice ca n cc) (.int .i64 s.pos) (.bool s.vis) a0 c0 la n lc V ln (HV1.out.1.fr ((Fr.refl [] wr).drew) (by simp)) (fun i hi => (HV2.out i hi).1.slice) (by have := HTI.out.sum; omega) (by omega) (fl k) (sz k) z HZZ.out)
            go_region_with (go_at_call 26; refine (HCALL.out).mono ?_; rintro e w5 ⟨rfl, hf5⟩)
            all_goals (go_wp2_with fail; go_meet)
            all_goals exact ⟨rfl, ((Fr.refl [] wr).drew).trans hf5 (by simp)⟩
          case rest =>
            obtain ⟨rfl, hfc⟩ := hcut
            have HLT1 := Lib.hid (HLT.out.kept hfc)
            have HFC := Lib.hid hfc
            clear hfc k1 k2 e0 e1 e2 e3 e4 HLT
            have k1 := HLT1.out.fr.cell K1.out (by simp)
            have k2 := HLT1.out.fr.cell K2.out (by simp)
            rcases HZZ.out with ⟨hok, hz0⟩ | ⟨hok, hz0⟩
            · subst hz0
              obtain ⟨q, hq⟩ : ∃ q : Nat, fl k = (q : Int) := ⟨(fl k).toNat, by omega⟩
              rw [hq] at k1
              unfold DRange at hok
              rw [hq] at hok
              obtain ⟨_, hqn, hz1, hz2⟩ := hok
              have hqn' : q < n := by omega
              have HQ := Lib.hid hq
              clear hq
              have hlq := HTI.out.ln_le q hqn'
              go_upto_region 15 with fail
              go_cut [11] (fun t wy => t = .bool true ∧ ∃ lv', LT w wy wq.heap.size p gr n c pf lv' sh pl a0 c0 s (fun j => if j = q then ln q + 1 else ln j) (fun j => if j = q then (fun t => if t < ln q then li q t else sz k) else li j) (wt + 1) s ln li ca cc la lc)
              case first =>
                have HCALL := Lib.hid (drr_put_ok wc.drew (HLT1.out.drr.kept ((Fr.refl [] wc).drew) (by simp)) hn HLT1.out.low.2.1 q (sz k) hqn' ⟨hz1, hz2⟩ (by omega) (by omega))
                go_region_with (first
                  | (go_at_call 27; refine (HCALL.out).mono ?_; rintro e w5 ⟨rfl, v4, hD5, hf5, hn5⟩; have HL5 := Lib.hid ((HLT1.out.kept ((Fr.refl [] wc).drew)).own hD5 hf5 hn5); clear hD5 hf5 hn5)
                  | (go_at_call 11; refine (error_any _ none 0 (HG.out.fr HL5.out.fr (by simp))).mono ?_; rintro e w6 ⟨rfl, hf6⟩))
                all_goals (go_wp2_with fail; go_meet)
                all_goals exact ⟨rfl, _, HL5.out.kept hf6⟩
              case rest =>
                obtain ⟨rfl, lv', hL2⟩ := hcut
                have HL2 := Lib.hid hL2
                clear hL2 k1 k2 HLT1 HFC
                have k1 := HL2.out.fr.cell K1.out (by simp)
                have k2 := HL2.out.fr.cell K2.out (by simp)
                rw [HQ.out] at k1
                obtain ⟨e0, e1, e2, e3, e4⟩ := box5 HL2.out.box
                obtain ⟨V', hV1', hV2'⟩ := HL2.out.rl.row
                have HV1' := Lib.hid hV1'
                have HV2' := Lib.hid hV2'
                clear hV1' hV2' HV1 HV2
                go_upto_region 17 with fail
                go_cut [] (fun wy => ∃ la2 lc2, LT w wy wq.heap.size p gr n c pf lv' sh pl a0 c0 s (fun j => if j = q then ln q + 1 else ln j) (fun j => if j = q then (fun t => if t < ln q then li q t else sz k) else li j) (wt + 1) s (fun j => if j = q then ln q + 1 else ln j) (fun j => if j = q then (fun t => if t < ln q then li q t else sz k) else li j) ca cc la2 lc2)
                case first =>
                  have HCALL := Lib.hid (waited_any wc.drew a0 ca n c0 n cc s.pos s.vis la n lc V' ln li (HV1'.out.1.fr ((Fr.refl [] wc).drew) (by simp)) (fun i hi => (HV2'.out i hi).1.fr ((Fr.refl [] wc).drew) (by simp)) (fun i hi => by have := HTI.out.ln_le i hi; omega) hn q hqn' (sz k))
                  go_region_with (go_at_call 28; refine (HCALL.out).mono ?_; rintro e w5 ⟨lv5, U5, rfl, ho5, hu5, hf5⟩; obtain ⟨a5, c5, hv5⟩ := ho5.rd.slice; subst hv5; have hf6 := ((Fr.refl [] wc).drew).trans hf5 (S := []) (by simp); have HF6 := Lib.hid hf6; have HO5 := Lib.hid ho5; have HU5 := Lib.hid hu5; have t0 := hf6.blk HL2.out.box (by simp); obtain ⟨w7, hw7⟩ : ∃ w7, ((((w5.setCell ⟨pl, 0, none⟩ (.slice a0 n c0)).setCell ⟨pl, 1, none⟩ (.slice ca n cc)).setCell ⟨pl, 2, none⟩ (.slice a5 n c5)).setCell ⟨pl, 3, none⟩ (.int .i64 s.pos)).setCell ⟨pl, 4, none⟩ (.bool s.vis) = w7 := ⟨_, rfl⟩; obtain ⟨⟨m0, n0⟩, ⟨m1, n1⟩, ⟨m2, n2⟩, ⟨m3, n3⟩, ⟨m4, n4⟩, hb7, f7⟩ := five_store t0 (.slice a0 n c0) (.slice ca n cc) (.slice a5 n c5) (.int .i64 s.pos) (.bool s.vis) hw7; have HB7 := Lib.hid hb7; have HF7 := Lib.hid f7; clear hf5 ho5 hu5 hf6 t0 hb7 f7)
                  all_goals (go_wp2_with fail; go_meet)
                  all_goals exact ⟨_, _, HL2.out.ref HF6.out HF7.out (.waited (HL2.out.rl.cr.fr HF6.out) HO5.out HU5.out HL2.out.dd_lt) HB7.out⟩
                case rest =>
                  obtain ⟨la2, lc2, hL3⟩ := hcut
                  have HT2 := Lib.hid (HTI.out.put hqn' ⟨hz1, hz2⟩)
                  go_wp2
                  go_roundw
                  case rel => exact ⟨k + 1, _, _, _, _, _, _, _, _, _, by go_num, by omega, HT2.out, hL3⟩
                  case measure => simp [intOf]; omega
            · subst hz0
              go_upto_region 15 with fail
              go_cut [11] (fun t wy => t = .bool true ∧ Fr [] wc wy)
              case first =>
                have HCALL := Lib.hid (drr_put_range wc.drew (HLT1.out.drr.kept ((Fr.refl [] wc).drew) (by simp)) hn (fl k) (sz k) hok)
                clear hok
                go_region_with (first
                  | (go_at_call 27; refine (HCALL.out).mono ?_; rintro e w5 ⟨rfl, rfl⟩)
                  | (go_at_call 11; refine (error_any _ (some 6) 6 (HG.out.fr (HLT1.out.fr.drew) (by simp))).mono ?_; rintro e w6 ⟨rfl, hf6⟩))
                all_goals (go_wp2_with fail; go_meet)
                all_goals exact ⟨rfl, ((Fr.refl [] wc).drew).trans hf6 (by simp)⟩
              case rest =>
                obtain ⟨rfl, hf6⟩ := hcut
                clear hok
                have HL2 := Lib.hid (HLT1.out.kept hf6)
                clear hf6 k1 k2
                go_wp2
                go_roundw
                case rel => exact ⟨k + 1, _, _, _, _, _, _, _, _, _, by go_num, by omega, HTI.out.skip, HL2.out⟩
                case measure => simp [intOf]; omega
        · have hlp : pl < wr.heap.size := lt_of_blk HLT.out.box
          go_upto_region 20 with fail
          go_cut [15, 16, 17, 18] (fun nx at_ z_ is_ wy => ∃ (b : Nat) (s2 : Dst) (ln2 : Nat → Nat) (li2 : Nat → Nat → Int) (wt2 : Nat) (a z : Int) (is : Bool) (ca2 : Option Addr) (cc2 : Nat) (la2 : Option Addr) (lc2 : Nat), nx = .pointer (some ⟨b, 0, none⟩) ∧ at_ = .int .i64 a ∧ z_ = .int .i64 z ∧ is_ = .bool is ∧
            NX n sh s ln li wt s2 ln2 li2 wt2 a z is ∧ wy.heap[b]? = some (.cells #[.slice a0 n c0, .slice ca2 n cc2, .slice la2 n lc2, .int .i64 s2.pos, .bool s2.vis] 50 (0, 0)) ∧
            RL wy (DD p gr n pf lv pl) (.slice ca2 n cc2) (.slice la2 n lc2) n s2 ln2 li2 ∧ Fr [] wr wy ∧ wr.heap.size ≤ b)
          case first =>
            go_wp2_with fail
            refine (drawn_nx wr (DD p gr n pf lv pl) HLT.out.dd_lt a0 ca la c0 cc lc n k sh s ln li wt (HV.out.fr HLT.out.fr (by simp)) HLT.out.rl hn hn0 HTI.out (by omega) HSH.out).mono ?_
            rintro e w5 ⟨s2, ln2, li2, wt2, a, z, is, ca2, cc2, la2, lc2, hx, rfl, hr, hf⟩
            have HX := Lib.hid hx
            have HR := Lib.hid hr
            have HF := Lib.hid hf
            clear hx hr hf
            go_wp2_with fail
            go_meet
            exact ⟨_, s2, ln2, li2, wt2, a, z, is, ca2, cc2, la2, lc2, rfl, rfl, rfl, rfl, HX.out, heap_alloc_new w5 _, HR.out.fr ((Fr.refl [] w5).alloc _), HF.out.alloc _, HF.out.size⟩
          case rest =>
            obtain ⟨b, s2, ln2, li2, wt2, a, z, is, ca2, cc2, la2, lc2, rfl, rfl, rfl, rfl, hx, hb, hr, hf, hbs⟩ := hcut
            have HX := Lib.hid hx
            have HR := Lib.hid hr
            have HF := Lib.hid hf
            have HB := Lib.hid hb
            clear hx hr k1 k2 e0 e1 e2 e3 e4
            go_upto_region 21 with fail
            go_cut [] (fun wy => LT w wy wq.heap.size p gr n c pf lv sh pl a0 c0 s ln li wt s2 ln2 li2 ca2 cc2 la2 lc2)
            case first =>
              obtain ⟨e0, e1, e2, e3, e4⟩ := box5 hb
              have t0 := hf.blk HLT.out.box (by simp)
              obtain ⟨w7, hw7⟩ : ∃ w7, ((((wc.setCell ⟨pl, 0, none⟩ (.slice a0 n c0)).setCell ⟨pl, 1, none⟩ (.slice ca2 n cc2)).setCell ⟨pl, 2, none⟩ (.slice la2 n lc2)).setCell ⟨pl, 3, none⟩ (.int .i64 s2.pos)).setCell ⟨pl, 4, none⟩ (.bool s2.vis) = w7 := ⟨_, rfl⟩
              obtain ⟨⟨m0, n0⟩, ⟨m1, n1⟩, ⟨m2, n2⟩, ⟨m3, n3⟩, ⟨m4, n4⟩, hb7, f7⟩ := five_store t0 (.slice a0 n c0) (.slice ca2 n cc2) (.slice la2 n lc2) (.int .i64 s2.pos) (.bool s2.vis) hw7
              have HL7 := Lib.hid (HLT.out.ref hf f7 HR.out hb7)
              clear hb7 f7 hb hf t0
              subst hw7
              go_wp2_with fail
              go_meet
              exact HL7.out
            case rest =>
              have HL2 := Lib.hid hcut
              clear hcut hb hf
              go_wp2_with fail
              refine (next_nx _ HL2.out.drr hn HTI.out (by omega) HSH.out).mono ?_
              rintro e w6 ⟨s3, ln3, li3, wt3, a', z', is', lv', hx', rfl, hD6, hf6, hn6⟩
              obtain ⟨rfl, rfl, rfl, rfl, rfl, rfl, rfl⟩ := HX.out.det hx'
              have HL3 := Lib.hid (HL2.out.own hD6 hf6 (fun y hy => .inl (hn6 y hy)))
              clear hx' hD6 hf6 hn6 HL2 HB HR HF HLT
              have m1 := blk_cell (v := .slice ca2 n cc2) HL3.out.box 1 rfl
              go_upto_region 23 with fail
              go_cut [22] (fun c wy => c = .bool true ∧ Fr [] w6 wy)
              case first =>
                have HCALL := Lib.hid (drr_credit w6.drew (HL3.out.drr.kept ((Fr.refl [] w6).drew) (by simp)) hn)
                go_region_with (first
                  | (go_at_call 31; refine (HCALL.out).mono ?_; rintro e w7 ⟨a7, c7, rfl, ho7, hf7⟩; have hf8 := ((Fr.refl [] w6).drew).trans hf7 (S := []) (by simp); have m7 := hf8.cell m1 (by simp); have HF8 := Lib.hid hf8; have HO7 := Lib.hid ho7; clear hf7 ho7 hf8)
                  | (go_at_call 15; refine (ints_same _ _ _ _ _ _ _ HO7.out.rd ((HL3.out.rl.cr.1).fr HF8.out (by simp)) hn).mono ?_; rintro e w8 ⟨rfl, q, rfl⟩))
                all_goals (go_wp2_with fail; go_meet)
                all_goals exact ⟨rfl, HF8.out.drewN _⟩
              case rest =>
                obtain ⟨rfl, hfc⟩ := hcut
                have HL4 := Lib.hid (HL3.out.kept hfc)
                clear hfc m1 HL3
                go_wp2_with fail
                refine (drr_waits _ HL4.out.drr hn).mono ?_
                rintro e w8 ⟨a8, c8, rfl, ho8, hf8⟩
                have HL5 := Lib.hid (HL4.out.kept hf8)
                obtain ⟨gw, kw, he8, _, hr8⟩ := ho8.row hn0
                simp only [Value.slice.injEq, true_and] at he8
                obtain ⟨rfl, rfl⟩ := he8
                have HR8 := Lib.hid hr8
                obtain ⟨V, hV1, hV2⟩ := HL5.out.rl.row
                obtain ⟨b5, o5, x5, he5, _, _, _, hc5⟩ := hV1.1.shape hn0
                simp only [Value.slice.injEq, true_and] at he5
                obtain ⟨rfl, rfl⟩ := he5
                have HC5 := Lib.hid hc5
                have HV2 := Lib.hid hV2
                have HT2 := Lib.hid (HTI.out.next (fun i hi => (HSH.out i hi).1) HX.out)
                clear hr8 ho8 hf8 hV1 hV2 hc5 HL4
                go_wp2_with fail
                go_loopw [24] (fun j wx => ∃ t : Nat, t ≤ n ∧ j = .int .i64 t ∧ Hid (∃ q, wx = w8.drewN q)) (fun j _ => n - (intOf j).toNat)
                case atStart => exact ⟨0, by omega, rfl, 0, rfl⟩
                case round =>
                  obtain ⟨t, ht, rfl, HW⟩ := hrel
                  have hfr : Fr [] w8 wr := by obtain ⟨q, rfl⟩ := HW.out; exact (Fr.refl _ _).drewN q
                  by_cases htn : t < n
                  · have q1 := hfr.cell (HR8.out.cell t htn) (by simp)
                    have q2 := hfr.cell (blk_cell (v := .slice (some ⟨b5, o5, none⟩) n lc2) HL5.out.box 2 rfl) (by simp)
                    obtain ⟨at', ct', hat⟩ := (HV2.out t htn).1.slice
                    have q3 := hfr.cell (HC5.out t htn) (by simp)
                    rw [hat] at q3
                    clear hat hfr
                    have t0 : (0 : Int) ≤ (t : Int) := by omega
                    have t3 : (t : Int) < (n : Int) := by omega
                    go_wp2_with fail
                    go_quiet (fail)
                    go_wp2
                    go_roundw
                    case rel => exact ⟨t + 1, by omega, by go_num, Lib.hid (by obtain ⟨r, rfl⟩ := HW.out; exact ⟨_, World.drewN_drewN ..⟩)⟩
                    case measure => simp [intOf]; omega
                  · obtain rfl : t = n := by omega
                    have HL6 := Lib.hid (HL5.out.kept hfr)
                    clear hfr
                    go_wp2
                    go_roundw
                    case rel => exact ⟨k + 1, _, _, _, _, _, _, _, _, _, by go_num, by omega, HT2.out, HL6.out⟩
                    case measure => simp [intOf]; omega
      · go_wp2
        go_ret
        exact ⟨rfl, HLT.out.fr⟩
  · have HF1 := Lib.hid (HF0.out.trans hf1 (S := []) (by simp)); clear hf1
    have hnz : (shfault n sh != 0) = true := by simpa using hsf
    generalize shfault n sh = ef at *
    clear hsf
    go_wp2_with fail
    refine (error_any _ (some ef) ef (HG.out.fr HF1.out (by simp))).mono ?_
    rintro e w2 ⟨rfl, hf2⟩
    rw [show decide (numOf (some ef) = ef) = true from decide_eq_true rfl]
    have HF2 := Lib.hid (HF1.out.trans hf2 (by simp)); clear hf2
    go_wp2
    go_ret
    exact ⟨rfl, HF2.out⟩

end Go.Proofs.YthopnlnknicgbaaDoor
