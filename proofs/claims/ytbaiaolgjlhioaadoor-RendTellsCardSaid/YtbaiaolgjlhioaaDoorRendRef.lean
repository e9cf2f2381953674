/- Scored, Ordered of the reference. -/
import Derived.Test.YtbaiaolgjlhioaaDoorRendOrder
import Derived.Test.YtbaiaolgjlhioaaDoorRendMore
import Derived.Test.YtbaiaolgjlhioaaDoorPigeon
import Derived.Test.YtbaiaolgjlhioaaDoorRef3
import Derived.BigQuiet
namespace Go.Proofs.YtbaiaolgjlhioaaDoor
open Go.RowKit Go.Sort

def bst (id : Int) (m : Nat) (kf : Nat → Int) (k : Nat) : Int := if k = 0 then -1 else scf id m kf k

theorem bst_bd (id : Int) (m : Nat) (kf : Nat → Int) (k : Nat) : -1 ≤ bst id m kf k ∧ bst id m kf k ≤ 4294967295 := by
  have := scf_bd id m kf k
  unfold bst
  split <;> omega

theorem bst_succ (id : Int) (m : Nat) (kf : Nat → Int) (k : Nat) : bst id m kf (k + 1) = max (bst id m kf k) (sck id k m kf) := by
  have := hsh_bd (f5 id k kf) (5 + m)
  unfold bst
  rw [if_neg (by omega)]
  by_cases h : k = 0
  · subst h
    rw [if_pos rfl]
    simp only [scf, sck]
    omega
  · rw [if_neg h]; rfl

set_option maxHeartbeats 8000000 in
set_option maxRecDepth 100000 in
theorem scored_any (w : World) (id wt : Int) (h0 : -9223372036854775808 ≤ id ∧ id ≤ 9223372036854775807) (h1 : -9223372036854775808 ≤ wt ∧ wt ≤ 9223372036854775807) (ka : Option Addr) (m kc : Nat) (kf : Nat → Int) (hk : RdF w (.slice ka m kc) m (fun j => .int .u8 (kf j))) (hb : ∀ j, j < m → 0 ≤ kf j ∧ kf j ≤ 255) (hm : m ≤ 140737488351232) :
    Calls Tryd.prog 13 #[.agg #[.int .i64 id, .int .i64 wt], .slice ka m kc] w fun e w' => e = .returned (.int .i64 (sco (id, wt) m kf)) ∧ Fr [] w w' := by
  have HK := Lib.hid hk; clear hk
  have HB := Lib.hid hb; clear hb
  have hbl := heap_alloc_new w (.cells #[.int .i64 id, .int .i64 wt] 24)
  have HBL := Lib.hid hbl
  have HF0 := Lib.hid ((Fr.refl [] w).alloc (.cells #[.int .i64 id, .int .i64 wt] 24))
  clear hbl
  obtain ⟨T, hT⟩ : ∃ T : Nat, trs wt = T := ⟨_, rfl⟩
  have hT3 : (1 ≤ T ∧ T ≤ 256) ∧ ((wt ≤ T ∧ ∀ k : Nat, 0 < k → k < T → (k : Int) < wt) ∨ (T = 256 ∧ 256 < wt)) := by
    unfold trs at hT
    by_cases h : 256 < wt
    · exact ⟨by omega, .inr ⟨by omega, h⟩⟩
    · exact ⟨by omega, .inl ⟨by omega, fun k h1 h2 => by omega⟩⟩
  have HT3 := Lib.hid hT3.2
  have hT1 := hT3.1
  have HT := Lib.hid (show sco (id, wt) m kf = bst id m kf T by unfold sco bst; rw [if_neg (by omega), hT])
  clear hT hT3
  rw [HT.out]
  go_enter Tryd.func13, Tryd.ntmps13
  go_wp2
  have hbw := HF0.out.size
  generalize w.alloc (.cells #[.int .i64 id, .int .i64 wt] 24) = w1 at *
  go_loopw [5, 6] (fun vb vk wr => ∃ k : Nat, k ≤ T ∧ vk = .int .i64 k ∧ vb = .int .i64 (bst id m kf k) ∧ wr.heap[w.heap.size]? = some (.cells #[.int .i64 id, .int .i64 wt] 24 (0, 0)) ∧ Fr [] w wr) (fun _ vk _ => T - (intOf vk).toNat)
  case atStart => exact ⟨0, by omega, rfl, rfl, HBL.out, HF0.out⟩
  case round =>
    clear HBL HF0
    obtain ⟨k, hkT, rfl, rfl, hbl, hf⟩ := hrel
    have HBL := Lib.hid hbl
    have HF := Lib.hid hf; clear hf
    have c0 := blk_cell (v := .int .i64 id) hbl 0 rfl
    have c1 := blk_cell (v := .int .i64 wt) hbl 1 rfl
    clear hbl
    have hsb := bst_bd id m kf k
    have HSS := Lib.hid (bst_succ id m kf k)
    generalize hbe : bst id m kf k = best at *
    have HBE := Lib.hid hbe; clear hbe
    by_cases hlt : k < T
    · have hk256 : (k : Int) < 256 := by omega
      have hk0 : (0 : Int) ≤ (k : Int) := by omega
      have hsz0 := HF.out.size
      have hlw := lt_of_blk HBL.out
      have hl1 : 5 + m ≤ maxLen := by unfold maxLen; omega
      have hl2 : (5 + m) * 1 ≤ 140737488355328 := by omega
      have hrow := row_lit wr #[.int .u8 (id / 16777216 % 256), .int .u8 (id / 65536 % 256), .int .u8 (id / 256 % 256), .int .u8 (id % 256)] 5 4 (fun i => .int .u8 (fo id i)) rfl (by decide) (fun j hj => match j, hj with | 0, _ => rfl | 1, _ => rfl | 2, _ => rfl | 3, _ => rfl)
      have hfr := (Fr.refl [] wr).alloc (.cells #[.int .u8 (id / 16777216 % 256), .int .u8 (id / 65536 % 256), .int .u8 (id / 256 % 256), .int .u8 (id % 256)] 5)
      have HRA := Lib.hid (hrow.alloc (.cells #[.int .u8 k] 5))
      have HFA := Lib.hid ((HF.out.trans hfr (by simp)).alloc (.cells #[.int .u8 k] 5))
      have HBA := Lib.hid (((Fr.refl [] (wr.alloc (.cells #[.int .u8 (id / 16777216 % 256), .int .u8 (id / 65536 % 256), .int .u8 (id / 256 % 256), .int .u8 (id % 256)] 5))).alloc (.cells #[.int .u8 k] 5)).blk (hfr.blk HBL.out (by simp)) (by simp))
      clear hrow hfr
      have hgd : (decide (0 < k) = false) ∨ (decide (0 < k) = true ∧ decide (wt ≤ (k : Int)) = false) := by
        by_cases h : 0 < k
        · right
          refine ⟨by simpa using h, ?_⟩
          rcases HT3.out with ⟨_, h2⟩ | ⟨h2, h3⟩
          · have := h2 k h hlt
            simp; omega
          · simp; omega
        · left; simpa using h
      rcases hgd with hgd | ⟨hgd, hgd2⟩
      all_goals
        go_wp2_with (first
          | (at_builtin; refine wpList_app rfl (.tmp 38) (.tmp 41) 25 rfl 5 infoU8 Tryd.underlying25 rfl (base := wr.heap.size) (.inr ⟨_, _, rfl, Nat.le_refl _, HRA.out⟩) rfl (rd_one _ _ _ (by simp)) rfl (fun _ _ => rfl) (by decide) (by decide) (by simp; omega) ?_; intro v3 w3 ho3 hf3 hn3; have HO3 := Lib.hid ho3; have HF3 := Lib.hid (HFA.out.trans hf3 (fun y hy => .inr (by simp [Value.ownBlock] at hy; omega))); have HB3 := Lib.hid (hf3.blk HBA.out (by simp [Value.ownBlock]; omega)); have HK3 := Lib.hid (HK.out.fr HF3.out (by simp)); have hs3 := hf3.size; have hs3' : wr.heap.size ≤ w3.heap.size := Nat.le_trans (by simp; omega) hs3; clear ho3 hf3 hn3)
          | (at_builtin; refine wpList_app rfl (.tmp 43) (.tmp 44) 25 rfl 5 infoU8 Tryd.underlying25 rfl HO3.out rfl HK3.out rfl (fun _ _ => rfl) hl1 hl2 hs3' ?_; intro v4 w4 ho4 hf4 hn4))
        have hrd : RdF w4 v4 (5 + m) (fun j => .int .u8 (f5 id k kf j)) := ho4.rd.congr (fun j hj => by
          unfold app f5
          by_cases h1 : j < 4
          · rw [if_pos (by omega), if_pos h1, if_pos h1]
          · by_cases h2 : j = 4
            · rw [if_pos (by omega), if_neg h1, if_neg h1, if_pos h2]
            · rw [if_neg (by omega), if_neg h1, if_neg h2])
        obtain ⟨a4, c4, rfl⟩ := hrd.slice
        have HRD := Lib.hid hrd
        have HF4 := Lib.hid (HF3.out.trans hf4 (fun y hy => .inr (Nat.le_trans hsz0 (HO3.out.ge y hy))))
        have HB4 := Lib.hid (hf4.blk HB3.out (fun hm2 => by have := HO3.out.ge _ hm2; omega))
        clear hrd ho4 hf4 hn4
        go_wp2_with fail
        refine (hashed_any _ a4 (5 + m) c4 (f5 id k kf) HRD.out (fun j hj => by
          unfold f5
          split
          · exact fo_bd _ _
          · split
            · omega
            · exact HB.out _ (by omega)) (by omega)).mono ?_
        rintro e w5 ⟨rfl, rfl⟩
        have hhb := hsh_bd (f5 id k kf) (5 + m)
        have HSC := Lib.hid (show bst id m kf (k + 1) = max best (hsh (f5 id k kf) (5 + m)) from HSS.out)
        generalize hsh (f5 id k kf) (5 + m) = hh at *
        by_cases hgt : best < hh
        · have hd : decide (best < hh) = true := by simpa using hgt
          go_wp2
          go_roundw
          case rel => exact ⟨k + 1, by omega, by go_num, by rw [HSC.out, Int.max_eq_right (by omega)], HB4.out, HF4.out⟩
          case measure => simp [intOf]; omega
        · have hd : decide (best < hh) = false := by simpa using hgt
          go_wp2
          go_roundw
          case rel => exact ⟨k + 1, by omega, by go_num, by rw [HSC.out, Int.max_eq_left (by omega)], HB4.out, HF4.out⟩
          case measure => simp [intOf]; omega
    · obtain rfl : k = T := by omega
      by_cases h256 : k < 256
      · have hk0 : 0 < k := by omega
        have hk256 : (k : Int) < 256 := by omega
        have hle : wt ≤ (k : Int) := by
          rcases HT3.out with ⟨h, _⟩ | ⟨h, _⟩
          · exact h
          · omega
        have hgd : decide (0 < k) = true := by simpa using hk0
        have hgd2 : decide (wt ≤ (k : Int)) = true := by simpa using hle
        go_wp2
        go_ret
        exact ⟨by rw [HBE.out]; rfl, HF.out⟩
      · have hk256 : ¬ (k : Int) < 256 := by omega
        go_wp2
        go_ret
        exact ⟨by rw [HBE.out]; rfl, HF.out⟩

end Go.Proofs.YtbaiaolgjlhioaaDoor
