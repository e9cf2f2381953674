/- ring.points. -/
import Derived.Test.YtbaiaolgjlhioaaDoorRingPts
import Derived.Test.YtbaiaolgjlhioaaDoorStepApp
import Derived.Deep.RegionHeld3
import Derived.Test.YtbaiaolgjlhioaaDoorNodes
import Derived.Test.YtbaiaolgjlhioaaDoorHash
namespace Go.Proofs.YtbaiaolgjlhioaaDoor
open Go.RowKit Go.Sort

/-- the eight bytes of a point -/
def f8 (id k : Int) (j : Nat) : Int := if j < 4 then fo id j else fo k (j - 4)
def ph (id k : Int) : Int := hsh (f8 id k) 8
/-- the first k points of a node -/
def ptn (id : Int) : Nat → List (Int × Int)
  | 0 => []
  | k + 1 => ptn id k ++ [(ph id k, id)]
/-- the points of the first i nodes -/
def pts (p : Nat → Int × Int) : Nat → List (Int × Int)
  | 0 => []
  | i + 1 => pts p i ++ ptn (p i).1 (4 * (p i).2.toNat)

theorem ptn_len (id : Int) (k : Nat) : (ptn id k).length = k := by
  induction k with
  | zero => rfl
  | succ k ih => simp [ptn, ih]

theorem pts_len {p : Nat → Int × Int} {n : Nat} (h : ∀ k, k < n → NRange (p k)) (i : Nat) (hi : i ≤ n) : (pts p i).length ≤ 64 * i := by
  induction i with
  | zero => simp [pts]
  | succ i ih =>
    have := h i (by omega)
    unfold NRange at this
    simp only [pts, List.length_append, ptn_len]
    have := ih (by omega)
    omega

theorem pts_mem {p : Nat → Int × Int} {n : Nat} (x : Int × Int) : x ∈ pts p n ↔ ∃ i k, i < n ∧ k < 4 * (p i).2.toNat ∧ x = (ph (p i).1 k, (p i).1) := by
  have h1 : ∀ (id : Int) (m : Nat), x ∈ ptn id m ↔ ∃ k : Nat, k < m ∧ x = (ph id k, id) := by
    intro id m
    induction m with
    | zero => simp [ptn]
    | succ m ih =>
      simp only [ptn, List.mem_append, ih, List.mem_singleton]
      constructor
      · rintro (⟨k, h, e⟩ | e)
        · exact ⟨k, by omega, e⟩
        · exact ⟨m, by omega, e⟩
      · rintro ⟨k, h, e⟩
        by_cases hk : k = m
        · subst hk; exact .inr e
        · exact .inl ⟨k, by omega, e⟩
  induction n with
  | zero => simp [pts]
  | succ n ih =>
    simp only [pts, List.mem_append, ih, h1]
    constructor
    · rintro (⟨i, k, h, e⟩ | ⟨k, h, e⟩)
      · exact ⟨i, k, by omega, e⟩
      · exact ⟨n, k, by omega, h, e⟩
    · rintro ⟨i, k, h, h2, e⟩
      by_cases hi : i = n
      · subst hi; exact .inr ⟨k, h2, e⟩
      · exact .inl ⟨i, k, by omega, h2, e⟩

theorem infoPoint : (Tryd.prog.info? 62).map (fun i => (i.zero, i.size, i.bytes)) = some (some (.agg #[.int .i64 0, .int .i64 0]), 2, 16) := by kernel_rfl

theorem app2_snoc (w : World) (B : Nat) (E : TypeId) (v : Value) (L : List (Int × Int)) (x : Int × Int) (h : OwnP w B E v (L.length + 1) (app2 L.length (lp L) (fun _ => x))) : OwnP w B E v (L ++ [x]).length (lp (L ++ [x])) := by
  have e : (L ++ [x]).length = L.length + 1 := by simp
  rw [e]
  refine h.congr (fun j hj => ?_)
  have := lp_app L [x] j (by simpa using hj)
  rw [← this]
  unfold app2
  by_cases hl : j < L.length
  · rw [if_pos hl, if_pos hl]
  · rw [if_neg hl, if_neg hl]
    have : j - L.length = 0 := by omega
    rw [this]
    rfl

set_option maxHeartbeats 4000000 in
set_option maxRecDepth 100000 in
theorem points_any (w : World) (a : Option Addr) (n c : Nat) (p : Nat → Int × Int) (hv : RdP w (.slice a n c) n p) (hg : NGood p n) :
    Calls Tryd.prog 28 #[.slice a n c] w fun e w' => ∃ v, e = .returned v ∧ OwnP w' w.heap.size 62 v (srt (pts p n)).length (lp (srt (pts p n))) ∧ Fr [] w w' := by
  have HV := Lib.hid hv; clear hv
  have HLEN := Lib.hid (pts_len hg.rng)
  have h40 := hg.n40
  have HG := Lib.hid hg; clear hg
  go_enter Tryd.func28, Tryd.ntmps28
  go_wp2
  go_loopw [3, 9] (fun v vi wr => ∃ i : Nat, i ≤ n ∧ vi = .int .i64 i ∧ OwnP wr w.heap.size 62 v (pts p i).length (lp (pts p i)) ∧ Fr [] w wr) (fun _ vi _ => n - (intOf vi).toNat)
  case atStart => exact ⟨0, by omega, rfl, OwnP.nil _ _ _ _, Fr.refl _ _⟩
  case round =>
    obtain ⟨i, hi, rfl, hO, hf⟩ := hrel
    have HO := Lib.hid hO; clear hO
    have HF := Lib.hid hf; clear hf
    by_cases hlt : i < n
    · obtain ⟨b, o, cap', he, hnc, hcm, hbw, hc⟩ := HV.out.shape (by omega)
      simp only [Value.slice.injEq, true_and] at he
      obtain ⟨rfl, rfl⟩ := he
      obtain ⟨k0, k1⟩ := hc i hlt
      have c0 := HF.out.cell k0 (by simp)
      have c1 := HF.out.cell k1 (by simp)
      clear hc k0 k1
      have hfw := (Fr.refl [] wr).alloc (.cells #[.int .i64 (p i).1, .int .i64 (p i).2] 24)
      have HF2 := Lib.hid (HF.out.trans hfw (by simp))
      have HO2 := Lib.hid (HO.out.kept hfw (by simp))
      have HB := Lib.hid (heap_alloc_new wr (.cells #[.int .i64 (p i).1, .int .i64 (p i).2] 24))
      obtain ⟨r1, r2, r3, r4⟩ := HG.out.rng i hlt
      have hbt : w.heap.size ≤ wr.heap.size := HF.out.size
      clear hfw
      obtain ⟨W, hW⟩ : ∃ W : Nat, (p i).2 = (W : Int) := ⟨(p i).2.toNat, by omega⟩
      have hWn : (p i).2.toNat = W := by omega
      have HWN := Lib.hid hWn; clear hWn
      rw [hW] at c1 HF2 HO2 HB r3 r4
      have HW := Lib.hid hW; clear hW
      obtain ⟨id, hid⟩ : ∃ id : Int, (p i).1 = id := ⟨_, rfl⟩
      rw [hid] at c0 HF2 HO2 HB r1 r2
      have HID := Lib.hid hid; clear hid
      go_wp2
      generalize wr.alloc (.cells #[.int .i64 id, .int .i64 W] 24) = w2 at *
      generalize wr.heap.size = bt at *
      have HLE := Lib.hid (HLEN.out i hi)
      have hle := HLE.out
      go_loopw [3, 16] (fun v vk wr => ∃ k : Nat, k ≤ 4 * W ∧ vk = .int .i64 k ∧ OwnP wr w.heap.size 62 v (pts p i ++ ptn id k).length (lp (pts p i ++ ptn id k)) ∧ wr.heap[bt]? = some (.cells #[.int .i64 id, .int .i64 W] 24 (0, 0)) ∧ Fr [] w wr) (fun _ vk _ => 4 * W - (intOf vk).toNat)
      case atStart => exact ⟨0, by omega, rfl, by simpa [ptn] using HO2.out, HB.out, HF2.out⟩
      case round =>
        clear HO2 HB HF2
        obtain ⟨k, hk, rfl, hO3, hB3, hF3⟩ := hrel
        have HO3 := Lib.hid hO3; clear hO3
        have HB3 := Lib.hid hB3
        have HF3 := Lib.hid hF3; clear hF3
        have g0 := blk_cell (v := .int .i64 id) hB3 0 rfl
        clear hB3
        by_cases hlt2 : k < 4 * W
        · have hln : (pts p i ++ ptn id k).length = (pts p i).length + k := by rw [List.length_append, ptn_len]
          have hl1 : (pts p i ++ ptn id k).length + 1 ≤ maxLen := by rw [hln]; unfold maxLen; omega
          have hl2 : ((pts p i ++ ptn id k).length + 1) * 16 ≤ 140737488355328 := by rw [hln]; omega
          have HLN := Lib.hid hln; clear hln
          have hsz3 := HF3.out.size
          have HK := Lib.hid (fun (w' : World) (h : Fr [] wr w') => h.cell g0 (by simp))
          have HOW := Lib.hid (fun (w' : World) (h : Fr [] wr w') => HO3.out.kept h (by simp))
          have HNB := Lib.hid (HO3.out.apart HB3.out (by decide))
          have HHA := Lib.hid (fun (w5 : World) (v : Value) (B : Nat) (h : OwnF w5 B 5 v (4 + 4) (app 4 (fun j => .int .u8 (fo id j)) (fun j => .int .u8 (fo k j)))) => (by
            have h2 : RdF w5 v 8 (fun j => .int .u8 (f8 id k j)) := h.rd.congr (fun j hj => by
              unfold app f8
              by_cases h0 : j < 4
              · rw [if_pos h0, if_pos h0]
              · rw [if_neg h0, if_neg h0])
            obtain ⟨a5, c5, rfl⟩ := h2.slice
            exact hash_any w5 a5 8 c5 (f8 id k) h2 (fun j hj => by
              unfold f8
              split
              · exact fo_bd _ _
              · exact fo_bd _ _) (by omega) : Calls Tryd.prog 17 #[v] w5 fun e w' => e = .returned (.int .i64 (ph id k)) ∧ w5 = w'))
          have hph := hsh_bd (f8 id k) 8
          have HPH : 0 ≤ ph id k ∧ ph id k ≤ 4294967295 := hph
          clear hph
          go_upto_region 8 with fail
          go_region_held3 (fun w' => w'.cell? ⟨bt, 0, none⟩ = some (.int .i64 id))
            (first | exact g0 | exact HK.out _ HFA.out | exact HK.out _ HFB.out | exact HK.out _ HF7.out | exact HK.out _ (HF7.out.alloc _) | exact hf9.cell (HK.out _ (HF7.out.alloc _)) HNB.out | exact hf9.cell (HK.out _ (HF7.out.alloc _)) HNB.out)
            (first
              | (go_at_call 26; (with_reducible refine (four_any _ id r1 (by omega)).mono ?_); rintro e w5 ⟨rfl, rA, fA⟩; have HFA := Lib.hid (((Fr.refl [] wr).drew).trans fA (S := []) (by simp)))
              | (go_at_call 26; (with_reducible refine (four_any _ (k : Int) (by omega) (by omega)).mono ?_); rintro e w6 ⟨rfl, rB, fB⟩; have HFB := Lib.hid (HFA.out.trans fB (by simp)); have rA6 := rA.kept fB (by simp); have hsA := fA.size; have hsB := fB.size)
              | ((refine step_app (n := 4) (base := wr.heap.size) (f := fun j => .int .u8 (fo id j)) (m := 4) (g := fun j => .int .u8 (fo k j)) ?_ (.tmp 22) (.tmp 24) 25 ?_ 5 infoU8 Tryd.underlying25 ?_ (.inr ⟨_, 4, rfl, Nat.le_refl _, rA6⟩) ?_ rB.rd ?_ ?_ ?_ ?_ ?_ ?_); rfl; rfl; rfl; rfl; rfl; (intro _ _; rfl); exact (by decide); exact (by decide); exact HFB.out.size; intro v5 w7 ho5 hf5 hn5; have HF7 := Lib.hid (HFB.out.trans hf5 (S := []) (fun x hx => .inr (by simp [Value.ownBlock] at hx; simp [hx]))))
              | (go_at_call 17; refine (HHA.out _ _ _ ho5).mono ?_; rintro e w8 ⟨rfl, rfl⟩)
              | (refine step_app2 (n := (pts p i ++ ptn id k).length) (base := w.heap.size) (p := lp (pts p i ++ ptn id k)) (m := 1) (q := fun _ => (ph id k, id)) ?_ (.tmp 19) (.tmp 30) 57 ?_ 62 infoPoint Tryd.underlying57 ?_ (HOW.out _ (HF7.out.alloc _)) ?_ (rdp_one w7 (ph id k) id 62 rfl) ?_ ?_ ?_ ?_ ?_; rfl; rfl; rfl; rfl; rfl; exact hl1; exact hl2; exact (Nat.le_trans hsz3 (HF7.out.alloc _).size); intro v9 w9 ho9 hf9 hn9))
          have HO9 := Lib.hid (show OwnP w9 w.heap.size 62 v9 (pts p i ++ ptn id (k + 1)).length (lp (pts p i ++ ptn id (k + 1))) by
            have e : pts p i ++ ptn id (k + 1) = (pts p i ++ ptn id k) ++ [(ph id k, id)] := by simp [ptn, List.append_assoc]
            rw [e]
            exact app2_snoc _ _ _ _ _ _ ho9)
          have HB9 := Lib.hid (hf9.blk ((HF7.out.alloc _).blk HB3.out (by simp)) HNB.out)
          have HF9 := Lib.hid ((HF3.out.trans (HF7.out.alloc _) (by simp)).trans hf9 (fun x hx => .inr (HO3.out.ge x hx)))
          clear ho9 hf9 hn9 ho5 hf5 hn5 rA fA rB fB rA6 g0 HK HOW HHA
          go_wp2
          go_roundw
          case rel => exact ⟨k + 1, by omega, by go_num, HO9.out, HB9.out, HF9.out⟩
          case measure => simp [intOf]; omega
        · obtain rfl : k = 4 * W := by omega
          have HO5 := Lib.hid (show OwnP wr w.heap.size 62 _ (pts p (i + 1)).length (lp (pts p (i + 1))) by
            have e : pts p (i + 1) = pts p i ++ ptn id (4 * W) := by simp only [pts]; rw [HWN.out, HID.out]
            rw [e]; exact HO3.out)
          go_wp2
          go_roundw
          case rel => exact ⟨i + 1, by omega, by go_num, HO5.out, HF3.out⟩
          case measure => simp [intOf]; omega
    · obtain rfl : i = n := by omega
      have hl := HLEN.out i (Nat.le_refl _)
      go_wp2_with fail
      refine (sort_ring _ _ _ _ HO.out (by omega)).mono ?_
      rintro e w5 ⟨rfl, ho5, hf5⟩
      have HF5 := Lib.hid (HF.out.trans hf5 (fun x hx => .inr (HO.out.ge x hx)))
      have HO5 := Lib.hid ho5
      clear ho5 hf5
      go_wp2
      go_ret
      exact ⟨_, rfl, HO5.out, HF5.out⟩

end Go.Proofs.YtbaiaolgjlhioaaDoor
