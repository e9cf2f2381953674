/- FrameTells: the walk. -/
import Derived.Test.YtlinembnfcdmcaaDoorCut
import Derived.Test.YtlinembnfcdmcaaDoorDoor
import Derived.Test.YtlinembnfcdmcaaDoorArgsRows
namespace Go.Proofs.YtlinembnfcdmcaaDoor
open Go.RowKit

theorem ct_sm (L : Nat → Nat) (i : Nat) : ct L i ≤ sm L i := by
  induction i with
  | zero => simp [ct, sm]
  | succ i ih => simp only [ct, sm]; omega

def FTR (w : World) (p B : Nat) (G : Nat → Int) (L : Nat → Nat) (M : Nat) (va vt i : Value) (wr : World) : Prop :=
  ∃ (k K : Nat) (rv : Value) (V : Nat → Value), k ≤ M ∧ i = .int .i64 k ∧ FT w wr p B G (ct L k) (ct L k) K va vt rv V

set_option maxRecDepth 100000 in
set_option maxHeartbeats 4000000 in
theorem frameTells_any (w : World) (hg : Hand w) (am : Option Addr) (M Cm : Nat) (V : Nat → Value) (A : Nat → Option Addr) (L C : Nat → Nat) (F : Nat → Nat → Int)
    (hm : RdF w (.slice am M Cm) M V) (hV : ∀ i, i < M → V i = .slice (A i) (L i) (C i)) (hr : ∀ i, i < M → RdF w (.slice (A i) (L i) (C i)) (L i) (fun j => .int .u8 (F i j)))
    (hF : ∀ i j, i < M → j < L i → 0 ≤ F i j ∧ F i j ≤ 255) (hb : ∀ i, i ≤ M → ct L i ≤ 4194304) (hM : M ≤ 1048576)
    (ac : Option Addr) (mn mc : Nat) (mf : Nat → Int) (hc : RdF w (.slice ac mn mc) mn (fun j => .int .u8 (mf j))) (hmn : mn ≤ 1048576) :
    Calls Tryd.prog 5 #[.slice am M Cm, .slice ac mn mc] w fun e w' => e = .returned (.bool true) ∧ Fr [] w w' := by
  have HG := Lib.hid hg; clear hg
  have HM := Lib.hid hm; clear hm
  have HV := Lib.hid hV; clear hV
  have HR := Lib.hid hr; clear hr
  have hbd : ∀ j, 0 ≤ cat L F M j ∧ cat L F M j ≤ 255 := fun j => cat_bd hF M (Nat.le_refl _) j
  have HBD := Lib.hid hbd; clear hbd
  have HF := Lib.hid hF; clear hF
  have HB := Lib.hid hb; clear hb
  have HC := Lib.hid hc; clear hc
  go_enter Tryd.func5, Tryd.ntmps5
  go_wp2_with fail
  refine (framed_any _).mono ?_
  rintro e w1 ⟨rfl, hf⟩
  have HF1 := Lib.hid hf; clear hf
  go_wp2_with fail
  refine (stream_new _).mono ?_
  rintro e w2 ⟨rfl, hw2⟩
  have hb2 : w2.heap[w1.heap.size]? = some (.cells #[.slice none 0 0] 78 (0, 0)) := by rw [← hw2]; exact heap_alloc_new w1 _
  have hf2 : Fr [] w w2 := by rw [← hw2]; exact HF1.out.alloc _
  clear hw2
  have hlp := lt_of_blk hb2
  have hsz1 := HF1.out.size
  have hst : FT w w2 w1.heap.size w2.heap.size (cat L F M) 0 0 0 (.slice none 0 0) (.slice none 0 0) (.slice none 0 0) (fun _ => undef) :=
    ⟨OwnF.nil _ _ _ _, OwnF.nil _ _ _ _, OwnF.nil _ _ _ _, fun i hi => by omega, hb2, Nat.le_refl _, by simp only [pos]; omega, by simp [Value.ownBlock], by simp [Value.ownBlock], fun i hi => by omega, hf2, Nat.le_refl _, hlp, hsz1⟩
  have HST := Lib.hid hst; clear hst hb2 hf2
  generalize w1.heap.size = p at *
  go_wp2
  go_loopw [7, 8, 9] (fun va vt i wr => FTR w p w2.heap.size (cat L F M) L M va vt i wr) (fun _ _ i _ => M - (intOf i).toNat)
  case atStart => exact ⟨0, 0, _, _, by omega, rfl, HST.out⟩
  case round =>
    obtain ⟨k, K, rv, V0, hk, rfl, hft⟩ := hrel
    have HFT := Lib.hid hft; clear hft
    by_cases hkM : k < M
    · obtain ⟨b, o, cp, hq, hnc, hcm, hbw, hcell⟩ := HM.out.shape (by omega)
      simp only [Value.slice.injEq, true_and] at hq
      obtain ⟨rfl, rfl⟩ := hq
      have HCK := Lib.hid (by rw [← HV.out k hkM]; exact hcell k hkM : w.cell? ⟨b, o + k, none⟩ = some (.slice (A k) (L k) (C k)))
      have hck := HFT.out.fr.cell HCK.out (by simp)
      clear hcell
      have HRK := Lib.hid (HR.out k hkM)
      have hbk1 := HB.out (k + 1) (by omega)
      have hed : ct L (k + 1) = ct L k + L k := rfl
      have HED := Lib.hid hed; clear hed
      rw [HED.out] at hbk1
      have hsz := HFT.out.size
      have k0 : (0 : Int) ≤ (k : Int) := by omega
      have k3 : (k : Int) < (M : Int) := by omega
      go_wp2_with (at_builtin; refine wpList_app rfl (.tmp 32) (.tmp 36) 34 rfl 5 infoU8 Tryd.underlying34 rfl HFT.out.all rfl (HRK.out.fr HFT.out.fr (by simp)) rfl (fun _ _ => rfl) (by unfold maxLen; omega) (by omega) (by omega) ?_; intro v4 w4 ho4 hf4 hn4; have HFT4 := Lib.hid (HFT.out.app_all (NA' := ct L k + L k) (ho4.congr (fun j hj => by
          unfold app
          by_cases hj2 : j < ct L k
          · rw [if_pos hj2]
          · rw [if_neg hj2]; show Value.int IntKind.u8 (F k (j - ct L k)) = _; rw [← cat_at (F := F) hkM (show j - ct L k < L k by omega), show ct L k + (j - ct L k) = j by omega])) hf4 hn4); obtain ⟨a4, c4, hv4⟩ := ho4.rd.slice; subst hv4; have hck4 := HFT4.out.fr.cell HCK.out (by simp); clear ho4 hf4 hn4)
      clear hck
      have hlo := HFT4.out.lo
      have hpB := HFT4.out.pB
      refine (feed_any w4 p rv (ct L k - pos (cat L F M) K) (L k) (A k) (C k) (fun j => cat L F M (pos (cat L F M) K + j)) (F k) (fun j => cat L F M (pos (cat L F M) K + j)) (ct L k + L k - pos (cat L F M) K) HFT4.out.blk w2.heap.size HFT4.out.rest
        (fun hx => by have := HFT4.out.rest.ge p hx; omega) HFT4.out.size (HRK.out.fr HFT4.out.fr (by simp)) (by omega) (fun j hj => ?_) (fun j => HBD.out _) (by omega)).mono ?_
      · by_cases hj2 : j < ct L k - pos (cat L F M) K
        · rw [if_pos hj2]
        · rw [if_neg hj2, ← cat_at (F := F) hkM (show j - (ct L k - pos (cat L F M) K) < L k by omega), show ct L k + (j - (ct L k - pos (cat L F M) K)) = pos (cat L F M) K + j by omega]
      · rintro e w5 hp
        obtain ⟨kk, out, rest, V', rfl, ho, h1, ht, hle, hs5, hall⟩ := HFT4.out.fed (N' := ct L k + L k) rfl (by omega) hp
        clear hp
        obtain ⟨ao, co, hvo⟩ := ho.rd.slice
        subst hvo
        have hs4 := HFT4.out.size
        have HO5 := Lib.hid ho; clear ho
        have HT5 := Lib.hid ht; clear ht
        have H15 := Lib.hid h1; clear h1
        have HALL := Lib.hid hall; clear hall
        go_wp2_with (at_builtin; refine wpList_app rfl (.tmp 38) (.tmp 44) 42 rfl 34 infoBs Tryd.underlying42 rfl HT5.out rfl HO5.out.rd rfl H15.out (by unfold maxLen; omega) (by omega) (by omega) ?_; intro v6 w6 ho6 hf6 hn6; have HFT6 := Lib.hid (HALL.out w6 v6 ho6 hf6 hn6); obtain ⟨a6, c6, hv6⟩ := ho6.rd.slice; subst hv6; clear ho6 hf6 hn6)
        refine (cut_any w6 a4 (ct L k + L k) c4 (cat L F M) HFT6.out.all.rd HBD.out (by omega)).mono ?_
        rintro e w7 ⟨k7, vw, Vw, hlo7, hhi7, rfl, how, hVw, hf7⟩
        obtain rfl := pos_one HFT6.out.lo HFT6.out.hi hlo7 hhi7
        have HFT7 := Lib.hid (HFT6.out.kept hf7)
        obtain ⟨a7, c7, hv7⟩ := how.rd.slice
        subst hv7
        have HOW := Lib.hid how; clear how
        have HVW := Lib.hid hVw; clear hVw
        have HF7 := Lib.hid hf7; clear hf7
        go_wp2_with fail
        refine (rows_same w7 _ _ _ _ _ _ _ (fun i => pos (cat L F M) (i + 1) - pos (cat L F M) i - 2) (fun i j => cat L F M (pos (cat L F M) i + 2 + j)) HFT7.out.told.rd HOW.out.rd (fun i hi => (HFT7.out.rows i hi).rd) (fun i hi => (HVW.out i hi).fr HF7.out (by simp)) (fun i hi => ?_) (by omega)).mono ?_
        · have h1 := pos_mono (cat L F M) (i + 1) (K + kk - (i + 1))
          rw [show i + 1 + (K + kk - (i + 1)) = K + kk by omega] at h1
          omega
        · rintro e w8 ⟨rfl, q, rfl⟩
          have HFT8 := Lib.hid (HFT7.out.kept ((Fr.refl [] w7).drewN q))
          obtain ⟨ar, cr, hvr⟩ := HFT8.out.rest.rd.slice
          have hblk := HFT8.out.blk
          rw [hvr] at hblk
          go_wp2_with fail
          refine (rest_any _ p _ ar cr hblk (by omega)).mono ?_
          rintro e w9 ⟨rfl, rfl⟩
          go_wp2
          go_roundw
          case rel => exact ⟨k + 1, K + kk, rest, _, by omega, by go_num, HFT8.out⟩
          case measure => simp [intOf]; omega
    · obtain rfl : k = M := by omega
      have HFR := Lib.hid HFT.out.fr
      clear HFT HST HF1 HBD
      have k3 : ¬ (k : Int) < (k : Int) := by omega
      by_cases hbig : 65535 < mn
      · go_wp2_with fail
        refine (frame_big _ _ mn _ hbig (by omega)).mono ?_
        rintro e w3 ⟨rfl, rfl⟩
        go_wp2_with fail
        refine (error_any _ (some 7) 7 (HG.out.fr HFR.out (by simp))).mono ?_
        rintro e w4 ⟨rfl, hf4⟩
        rw [show decide (numOf (some 7) = 7) = true from rfl]
        have HF4 := Lib.hid (HFR.out.trans hf4 (by simp)); clear hf4
        go_wp2_with fail
        refine (bytes_any _ _ _ 0 0 0 0 (fun _ => 0) (fun _ => 0) (.inl ⟨rfl, rfl⟩) (.inl ⟨rfl, rfl⟩) (by omega) (by omega)).mono ?_
        rintro e w5 ⟨he, q, rfl⟩
        have he2 : e = .returned (.bool true) := by rw [he]; rfl
        subst he2
        go_wp2
        go_ret
        exact ⟨rfl, HF4.out.drewN q⟩
      · have hrow : RowF (wr.alloc (.cells #[.int .u8 ((mn : Int) / 256), .int .u8 ((mn : Int) % 256)] 5)) wr.heap.size 5 2 2 (fun j => .int .u8 (frm mn mf j)) :=
          row_lit wr _ _ 2 _ rfl (by decide) (fun j hj => match j, hj with
            | 0, _ => by
              have e : frm mn mf 0 = (mn : Int) / 256 := by show (mn : Int) / 256 % 256 = mn / 256; omega
              rw [e]
              rfl
            | 1, _ => rfl)
        have HROW := Lib.hid hrow; clear hrow
        have HV1 := Lib.hid (HC.out.fr (HFR.out.alloc (.cells #[.int .u8 ((mn : Int) / 256), .int .u8 ((mn : Int) % 256)] 5)) (by simp))
        go_wp2_with (at_builtin; refine wpList_app rfl (.tmp 72) (.tmp 73) 34 rfl 5 infoU8 Tryd.underlying34 rfl (base := wr.heap.size) (.inr ⟨_, _, rfl, Nat.le_refl _, HROW.out⟩) rfl HV1.out rfl (fun _ _ => rfl) (by unfold maxLen; omega) (by omega) (by simp) ?_; intro v2 w3 ho2 hf2 _)
        obtain ⟨g, cp, rfl, hg2, hr2⟩ := ho2.row (by omega)
        have hr3 := hr2.congr (f' := fun j => .int .u8 (frm mn mf j)) (fun j hj => by
          unfold app
          by_cases h2 : j < 2
          · rw [if_pos h2]
          · rw [if_neg h2]; simp only [frm]; rw [if_neg (by omega), if_neg (by omega)])
        have HR3 := Lib.hid hr3
        have HF3 := Lib.hid ((HFR.out.alloc (.cells #[.int .u8 ((mn : Int) / 256), .int .u8 ((mn : Int) % 256)] 5)).trans hf2 (fun x hx => .inr (by simp [Value.ownBlock] at hx; subst hx; exact HFR.out.size)))
        clear ho2 hr2 hr3 hf2 hg2
        refine (frame_ok _ _ mn _ mf (HC.out.fr HF3.out (by simp)) (by omega)).mono ?_
        rintro e w4 ⟨g4, cp4, rfl, _, hr4, hf4⟩
        have HR4 := Lib.hid hr4
        have HR5 := Lib.hid (HR3.out.kept hf4 (by simp))
        have HF4 := Lib.hid (HF3.out.trans hf4 (by simp))
        clear hr4 hf4
        go_wp2_with fail
        refine (error_any _ none 0 (HG.out.fr HF4.out (by simp))).mono ?_
        rintro e w5 ⟨rfl, hf5⟩
        rw [show decide (numOf none = 0) = true from rfl]
        have HF5 := Lib.hid (HF4.out.trans hf5 (by simp))
        have HR6 := Lib.hid (HR4.out.kept hf5 (by simp))
        have HR7 := Lib.hid (HR5.out.kept hf5 (by simp))
        clear hf5
        go_wp2_with fail
        refine (bytes_any _ _ _ (2 + mn) (2 + mn) _ _ _ _ HR6.out.rd HR7.out.rd (by omega) (by omega)).mono ?_
        rintro e w6 ⟨he, q, rfl⟩
        have he2 : e = .returned (.bool true) := by rw [he, (eqUpTo_iff _ _ _).2 (fun _ _ => rfl)]; simp
        subst he2
        clear he
        go_wp2
        go_ret
        exact ⟨rfl, HF5.out.drewN q⟩

end Go.Proofs.YtlinembnfcdmcaaDoor
