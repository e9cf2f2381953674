/- What the texts below need: RingPts, RingMake. -/
import Derived.Deep.RegionHeld3
import Derived.Test.YtcfdlilhhfaaaaaDoorZPairsSort
import Derived.Test.YtcfdlilhhfaaaaaDoorZRingSort
import Derived.Test.YtcfdlilhhfaaaaaDoorZbase1
namespace Go.Proofs.YtcfdlilhhfaaaaaDoor
open Go.RowKit Go.Sort Go.Shelf

theorem lt_cf2 (x y : Int × Int) : ltOf cf2 x y = decide (x.1 < y.1 ∨ (x.1 = y.1 ∧ x.2 < y.2)) := by
  unfold ltOf
  have h : cf2 x y < 0 ↔ (x.1 < y.1 ∨ (x.1 = y.1 ∧ x.2 < y.2)) := by
    unfold cf2 co ci
    by_cases h1 : x.1 < y.1
    · simp [h1]
    · by_cases h2 : y.1 < x.1
      · simp [h1, h2]; omega
      · by_cases h3 : x.2 < y.2
        · simp [h1, h2, h3]; omega
        · by_cases h4 : y.2 < x.2
          · simp [h1, h2, h3, h4]
          · simp [h1, h2, h3, h4]
  exact decide_eq_decide.2 h

theorem swo2 : SWO (ltOf cf2) where
  irrefl x := by rw [lt_cf2]; simp
  trans x y z h1 h2 := by rw [lt_cf2] at *; simp at *; omega
  ntrans x y z h1 h2 := by rw [lt_cf2] at *; simp at *; omega

theorem tot2 (x y : Int × Int) (h1 : ltOf cf2 x y = false) (h2 : ltOf cf2 y x = false) : x = y := by
  rw [lt_cf2] at *
  simp at h1 h2
  apply Prod.ext <;> omega

/-- the points in their order -/
def srt (L : List (Int × Int)) : List (Int × Int) := L.mergeSort fun x y => !(ltOf cf2) y x

theorem srt_len (L : List (Int × Int)) : (srt L).length = L.length := by simp [srt]
theorem srt_mem (L : List (Int × Int)) (x : Int × Int) : x ∈ srt L ↔ x ∈ L := by simp [srt]

theorem srt_sorted (L : List (Int × Int)) (i j : Nat) (hi : i < j) (hj : j < L.length) : ltOf cf2 (lp (srt L) j) (lp (srt L) i) = false := by
  have h := List.pairwise_mergeSort (le := fun x y => !(ltOf cf2) y x) (fun a b c h1 h2 => by
    simp only [Bool.not_eq_true'] at *
    exact swo2.ntrans _ _ _ h2 h1) (fun a b => by
    simp only [Bool.or_eq_true, Bool.not_eq_true']
    rw [lt_cf2, lt_cf2]
    simp only [decide_eq_false_iff_not]
    omega) L
  have h2 := List.pairwise_iff_getElem.1 h i j (by have := srt_len L; unfold srt at this; omega) (by have := srt_len L; unfold srt at this; omega) hi
  rw [lp_get (by rw [srt_len]; omega), lp_get (by rw [srt_len]; omega)]
  simpa [srt] using h2

theorem cmpLays_ring (blk off size : Nat) (w : World) : CmpLays Tryd.prog 47 #[] enc2 2 cf2 blk off size w :=
  fun _ _ _ _ x y => compare_any _ x y

theorem sort_ring (w : World) (B : Nat) (v : Value) (L : List (Int × Int)) (h : OwnP w B 110 v L.length (lp L)) (hL : L.length < 4611686018427387904) :
    Calls Tryd.prog 79 #[v, .func (.func 47) #[] #[]] w fun e w' =>
      e = .returned (.tuple #[]) ∧ OwnP w' B 110 v (srt L).length (lp (srt L)) ∧ Fr v.ownBlock.toList w w' := by
  rcases h with ⟨rfl, h0⟩ | ⟨g, cap, rfl, hb, h⟩
  · have hc := AnyF.slices_SortFunc_none ringSortLays none 0 (.func (.func 47) #[] #[]) w
    change Calls Tryd.prog 79 _ _ _ at hc
    refine hc.mono ?_
    rintro e w' ⟨rfl, rfl⟩
    exact ⟨rfl, .inl ⟨rfl, by rw [srt_len, h0]⟩, Fr.refl _ _⟩
  · have eg : ∀ args w, (callFunc 47 args).run Tryd.prog w = .ok (.enter 47 args) w := enters_of Tryd.func47 (by kernel_rfl) rfl
    have hc := AnyQ.slices_SortFunc_total ringSortLays 2 Tryd.isAgg110 Tryd.sizeOf110 enc2 (fun _ => rfl) (fun x v hv => by simp [enc2] at hv; rcases hv with rfl | rfl <;> rfl) cf2 swo2 47 #[] g 0 cap L.toArray w eg (cmpLays_ring g 0 _ w) h.holds h.lt (by simpa using hL) tot2
    change Calls Tryd.prog 79 _ _ _ at hc
    have e : L.toArray.size = L.length := by simp
    rw [e] at hc
    refine hc.mono ?_
    rintro e w' ⟨rfl, n, os, rfl⟩
    obtain ⟨h1, h2⟩ := h.sorted (srt_len L) n os
    exact ⟨rfl, .inr ⟨g, cap, by rw [srt_len], hb, h1⟩, h2⟩

end Go.Proofs.YtcfdlilhhfaaaaaDoor

namespace Go.Proofs.YtcfdlilhhfaaaaaDoor
open Go.RowKit Go.Sort

/-- the eight bytes of a point -/
def f8 (id k : Int) (j : Nat) : Int := if j < 4 then fo id j else fo k (j - 4)
def ph (id k : Int) : Int := hsh (f8 id k) 8
/-- the first k points of a node -/
def ptn (id : Int) : Nat → List (Int × Int)
  | 0 => []
  | k + 1 => ptn id k ++ [(ph id k, id)]
/-- the points of the first i nodes -/
def pts (p : Nat → Int × Int) : Nat → List (Int × Int)
  | 0 => []
  | i + 1 => pts p i ++ ptn (p i).1 (4 * (p i).2.toNat)

theorem ptn_len (id : Int) (k : Nat) : (ptn id k).length = k := by
  induction k with
  | zero => rfl
  | succ k ih => simp [ptn, ih]

theorem pts_len {p : Nat → Int × Int} {n : Nat} (h : ∀ k, k < n → NRange (p k)) (i : Nat) (hi : i ≤ n) : (pts p i).length ≤ 64 * i := by
  induction i with
  | zero => simp [pts]
  | succ i ih =>
    have := h i (by omega)
    unfold NRange at this
    simp only [pts, List.length_append, ptn_len]
    have := ih (by omega)
    omega

theorem pts_mem {p : Nat → Int × Int} {n : Nat} (x : Int × Int) : x ∈ pts p n ↔ ∃ i k, i < n ∧ k < 4 * (p i).2.toNat ∧ x = (ph (p i).1 k, (p i).1) := by
  have h1 : ∀ (id : Int) (m : Nat), x ∈ ptn id m ↔ ∃ k : Nat, k < m ∧ x = (ph id k, id) := by
    intro id m
    induction m with
    | zero => simp [ptn]
    | succ m ih =>
      simp only [ptn, List.mem_append, ih, List.mem_singleton]
      constructor
      · rintro (⟨k, h, e⟩ | e)
        · exact ⟨k, by omega, e⟩
        · exact ⟨m, by omega, e⟩
      · rintro ⟨k, h, e⟩
        by_cases hk : k = m
        · subst hk; exact .inr e
        · exact .inl ⟨k, by omega, e⟩
  induction n with
  | zero => simp [pts]
  | succ n ih =>
    simp only [pts, List.mem_append, ih, h1]
    constructor
    · rintro (⟨i, k, h, e⟩ | ⟨k, h, e⟩)
      · exact ⟨i, k, by omega, e⟩
      · exact ⟨n, k, by omega, h, e⟩
    · rintro ⟨i, k, h, h2, e⟩
      by_cases hi : i = n
      · subst hi; exact .inr ⟨k, h2, e⟩
      · exact .inl ⟨i, k, by omega, h2, e⟩

theorem infoPoint : (Tryd.prog.info? 110).map (fun i => (i.zero, i.size, i.bytes)) = some (some (.agg #[.int .i64 0, .int .i64 0]), 2, 16) := by kernel_rfl

theorem app2_snoc (w : World) (B : Nat) (E : TypeId) (v : Value) (L : List (Int × Int)) (x : Int × Int) (h : OwnP w B E v (L.length + 1) (app2 L.length (lp L) (fun _ => x))) : OwnP w B E v (L ++ [x]).length (lp (L ++ [x])) := by
  have e : (L ++ [x]).length = L.length + 1 := by simp
  rw [e]
  refine h.congr (fun j hj => ?_)
  have := lp_app L [x] j (by simpa using hj)
  rw [← this]
  unfold app2
  by_cases hl : j < L.length
  · rw [if_pos hl, if_pos hl]
  · rw [if_neg hl, if_neg hl]
    have : j - L.length = 0 := by omega
    rw [this]
    rfl

set_option maxHeartbeats 4000000 in
set_option maxRecDepth 100000 in
theorem points_any (w : World) (a : Option Addr) (n c : Nat) (p : Nat → Int × Int) (hv : RdP w (.slice a n c) n p) (hg : NGood p n) :
    Calls Tryd.prog 44 #[.slice a n c] w fun e w' => ∃ v, e = .returned v ∧ OwnP w' w.heap.size 110 v (srt (pts p n)).length (lp (srt (pts p n))) ∧ Fr [] w w' := by
  have HV := Lib.hid hv; clear hv
  have HLEN := Lib.hid (pts_len hg.rng)
  have h40 := hg.n40
  have HG := Lib.hid hg; clear hg
  go_enter Tryd.func44, Tryd.ntmps44
  go_wp2
  go_loopw [3, 9] (fun v vi wr => ∃ i : Nat, i ≤ n ∧ vi = .int .i64 i ∧ OwnP wr w.heap.size 110 v (pts p i).length (lp (pts p i)) ∧ Fr [] w wr) (fun _ vi _ => n - (intOf vi).toNat)
  case atStart => exact ⟨0, by omega, rfl, OwnP.nil _ _ _ _, Fr.refl _ _⟩
  case round =>
    obtain ⟨i, hi, rfl, hO, hf⟩ := hrel
    have HO := Lib.hid hO; clear hO
    have HF := Lib.hid hf; clear hf
    by_cases hlt : i < n
    · obtain ⟨b, o, cap', he, hnc, hcm, hbw, hc⟩ := HV.out.shape (by omega)
      simp only [Value.slice.injEq, true_and] at he
      obtain ⟨rfl, rfl⟩ := he
      obtain ⟨k0, k1⟩ := hc i hlt
      have c0 := HF.out.cell k0 (by simp)
      have c1 := HF.out.cell k1 (by simp)
      clear hc k0 k1
      have hfw := (Fr.refl [] wr).alloc (.cells #[.int .i64 (p i).1, .int .i64 (p i).2] 152)
      have HF2 := Lib.hid (HF.out.trans hfw (by simp))
      have HO2 := Lib.hid (HO.out.kept hfw (by simp))
      have HB := Lib.hid (heap_alloc_new wr (.cells #[.int .i64 (p i).1, .int .i64 (p i).2] 152))
      obtain ⟨r1, r2, r3, r4⟩ := HG.out.rng i hlt
      have hbt : w.heap.size ≤ wr.heap.size := HF.out.size
      clear hfw
      obtain ⟨W, hW⟩ : ∃ W : Nat, (p i).2 = (W : Int) := ⟨(p i).2.toNat, by omega⟩
      have hWn : (p i).2.toNat = W := by omega
      have HWN := Lib.hid hWn; clear hWn
      rw [hW] at c1 HF2 HO2 HB r3 r4
      have HW := Lib.hid hW; clear hW
      obtain ⟨id, hid⟩ : ∃ id : Int, (p i).1 = id := ⟨_, rfl⟩
      rw [hid] at c0 HF2 HO2 HB r1 r2
      have HID := Lib.hid hid; clear hid
      go_wp2
      generalize wr.alloc (.cells #[.int .i64 id, .int .i64 W] 152) = w2 at *
      generalize wr.heap.size = bt at *
      have HLE := Lib.hid (HLEN.out i hi)
      have hle := HLE.out
      go_loopw [3, 16] (fun v vk wr => ∃ k : Nat, k ≤ 4 * W ∧ vk = .int .i64 k ∧ OwnP wr w.heap.size 110 v (pts p i ++ ptn id k).length (lp (pts p i ++ ptn id k)) ∧ wr.heap[bt]? = some (.cells #[.int .i64 id, .int .i64 W] 152 (0, 0)) ∧ Fr [] w wr) (fun _ vk _ => 4 * W - (intOf vk).toNat)
      case atStart => exact ⟨0, by omega, rfl, by simpa [ptn] using HO2.out, HB.out, HF2.out⟩
      case round =>
        clear HO2 HB HF2
        obtain ⟨k, hk, rfl, hO3, hB3, hF3⟩ := hrel
        have HO3 := Lib.hid hO3; clear hO3
        have HB3 := Lib.hid hB3
        have HF3 := Lib.hid hF3; clear hF3
        have g0 := blk_cell (v := .int .i64 id) hB3 0 rfl
        clear hB3
        by_cases hlt2 : k < 4 * W
        · have hln : (pts p i ++ ptn id k).length = (pts p i).length + k := by rw [List.length_append, ptn_len]
          have hl1 : (pts p i ++ ptn id k).length + 1 ≤ maxLen := by rw [hln]; unfold maxLen; omega
          have hl2 : ((pts p i ++ ptn id k).length + 1) * 16 ≤ 140737488355328 := by rw [hln]; omega
          have HLN := Lib.hid hln; clear hln
          have hsz3 := HF3.out.size
          have HK := Lib.hid (fun (w' : World) (h : Fr [] wr w') => h.cell g0 (by simp))
          have HOW := Lib.hid (fun (w' : World) (h : Fr [] wr w') => HO3.out.kept h (by simp))
          have HNB := Lib.hid (HO3.out.apart HB3.out (by decide))
          have HHA := Lib.hid (fun (w5 : World) (v : Value) (B : Nat) (h : OwnF w5 B 5 v (4 + 4) (app 4 (fun j => .int .u8 (fo id j)) (fun j => .int .u8 (fo k j)))) => (by
            have h2 : RdF w5 v 8 (fun j => .int .u8 (f8 id k j)) := h.rd.congr (fun j hj => by
              unfold app f8
              by_cases h0 : j < 4
              · rw [if_pos h0, if_pos h0]
              · rw [if_neg h0, if_neg h0])
            obtain ⟨a5, c5, rfl⟩ := h2.slice
            exact hash_any w5 a5 8 c5 (f8 id k) h2 (fun j hj => by
              unfold f8
              split
              · exact fo_bd _ _
              · exact fo_bd _ _) (by omega) : Calls Tryd.prog 46 #[v] w5 fun e w' => e = .returned (.int .i64 (ph id k)) ∧ w5 = w'))
          have hph := hsh_bd (f8 id k) 8
          have HPH : 0 ≤ ph id k ∧ ph id k ≤ 4294967295 := hph
          clear hph
          go_upto_region 8 with fail
          go_region_held3 (fun w' => w'.cell? ⟨bt, 0, none⟩ = some (.int .i64 id))
            (first | exact g0 | exact HK.out _ HFA.out | exact HK.out _ HFB.out | exact HK.out _ HF7.out | exact HK.out _ (HF7.out.alloc _) | exact hf9.cell (HK.out _ (HF7.out.alloc _)) HNB.out | exact hf9.cell (HK.out _ (HF7.out.alloc _)) HNB.out)
            (first
              | (go_at_call 78; (with_reducible refine (four_any _ id r1 (by omega)).mono ?_); rintro e w5 ⟨rfl, rA, fA⟩; have HFA := Lib.hid (((Fr.refl [] wr).drew).trans fA (S := []) (by simp)))
              | (go_at_call 78; (with_reducible refine (four_any _ (k : Int) (by omega) (by omega)).mono ?_); rintro e w6 ⟨rfl, rB, fB⟩; have HFB := Lib.hid (HFA.out.trans fB (by simp)); have rA6 := rA.kept fB (by simp); have hsA := fA.size; have hsB := fB.size)
              | ((refine step_app (n := 4) (base := wr.heap.size) (f := fun j => .int .u8 (fo id j)) (m := 4) (g := fun j => .int .u8 (fo k j)) ?_ (.tmp 22) (.tmp 24) 35 ?_ 5 infoU8 Tryd.underlying35 ?_ (.inr ⟨_, 4, rfl, Nat.le_refl _, rA6⟩) ?_ rB.rd ?_ ?_ ?_ ?_ ?_ ?_); rfl; rfl; rfl; rfl; rfl; (intro _ _; rfl); exact (by decide); exact (by decide); exact HFB.out.size; intro v5 w7 ho5 hf5 hn5; have HF7 := Lib.hid (HFB.out.trans hf5 (S := []) (fun x hx => .inr (by simp [Value.ownBlock] at hx; simp [hx]))))
              | (go_at_call 46; refine (HHA.out _ _ _ ho5).mono ?_; rintro e w8 ⟨rfl, rfl⟩)
              | (refine step_app2 (n := (pts p i ++ ptn id k).length) (base := w.heap.size) (p := lp (pts p i ++ ptn id k)) (m := 1) (q := fun _ => (ph id k, id)) ?_ (.tmp 19) (.tmp 30) 105 ?_ 110 infoPoint Tryd.underlying105 ?_ (HOW.out _ (HF7.out.alloc _)) ?_ (rdp_one w7 (ph id k) id 110 rfl) ?_ ?_ ?_ ?_ ?_; rfl; rfl; rfl; rfl; rfl; exact hl1; exact hl2; exact (Nat.le_trans hsz3 (HF7.out.alloc _).size); intro v9 w9 ho9 hf9 hn9))
          have HO9 := Lib.hid (show OwnP w9 w.heap.size 110 v9 (pts p i ++ ptn id (k + 1)).length (lp (pts p i ++ ptn id (k + 1))) by
            have e : pts p i ++ ptn id (k + 1) = (pts p i ++ ptn id k) ++ [(ph id k, id)] := by simp [ptn, List.append_assoc]
            rw [e]
            exact app2_snoc _ _ _ _ _ _ ho9)
          have HB9 := Lib.hid (hf9.blk ((HF7.out.alloc _).blk HB3.out (by simp)) HNB.out)
          have HF9 := Lib.hid ((HF3.out.trans (HF7.out.alloc _) (by simp)).trans hf9 (fun x hx => .inr (HO3.out.ge x hx)))
          clear ho9 hf9 hn9 ho5 hf5 hn5 rA fA rB fB rA6 g0 HK HOW HHA
          go_wp2
          go_roundw
          case rel => exact ⟨k + 1, by omega, by go_num, HO9.out, HB9.out, HF9.out⟩
          case measure => simp [intOf]; omega
        · obtain rfl : k = 4 * W := by omega
          have HO5 := Lib.hid (show OwnP wr w.heap.size 110 _ (pts p (i + 1)).length (lp (pts p (i + 1))) by
            have e : pts p (i + 1) = pts p i ++ ptn id (4 * W) := by simp only [pts]; rw [HWN.out, HID.out]
            rw [e]; exact HO3.out)
          go_wp2
          go_roundw
          case rel => exact ⟨i + 1, by omega, by go_num, HO5.out, HF3.out⟩
          case measure => simp [intOf]; omega
    · obtain rfl : i = n := by omega
      have hl := HLEN.out i (Nat.le_refl _)
      go_wp2_with fail
      refine (sort_ring _ _ _ _ HO.out (by omega)).mono ?_
      rintro e w5 ⟨rfl, ho5, hf5⟩
      have HF5 := Lib.hid (HF.out.trans hf5 (fun x hx => .inr (HO.out.ge x hx)))
      have HO5 := Lib.hid ho5
      clear ho5 hf5
      go_wp2
      go_ret
      exact ⟨_, rfl, HO5.out, HF5.out⟩

end Go.Proofs.YtcfdlilhhfaaaaaDoor
