/- rend.Score. -/
import Derived.Test.YtbaiaolgjlhioaaDoorRendLaw
import Derived.Test.YtbaiaolgjlhioaaDoorStepApp
namespace Go.Proofs.YtbaiaolgjlhioaaDoor
open Go.RowKit

set_option maxHeartbeats 2000000 in
theorem four_all (w : World) (n : Int) (h0 : -9223372036854775808 ≤ n) (h1 : n ≤ 9223372036854775807) :
    Calls Tryd.prog 26 #[.int .i64 n] w fun e w' => e = .returned (.slice (some ⟨w.heap.size, 0, none⟩) 4 4) ∧ RowF w' w.heap.size 5 4 4 (fun i => .int .u8 (fo n i)) ∧ Fr [] w w' := by
  go_enter Tryd.func26, Tryd.ntmps26
  go_wp2
  go_ret
  refine ⟨rfl, row_lit w _ _ 4 _ rfl (by decide) (fun j hj => ?_), (Fr.refl _ _).alloc _⟩
  match j, hj with
  | 0, _ => rfl
  | 1, _ => rfl
  | 2, _ => rfl
  | 3, _ => rfl

set_option maxHeartbeats 4000000 in
set_option maxRecDepth 100000 in
theorem score_any (w : World) (id wt : Int) (h0 : -9223372036854775808 ≤ id ∧ id ≤ 9223372036854775807) (h1 : -9223372036854775808 ≤ wt ∧ wt ≤ 9223372036854775807) (ka : Option Addr) (m kc : Nat) (kf : Nat → Int) (hk : RdF w (.slice ka m kc) m (fun j => .int .u8 (kf j))) (hb : ∀ j, j < m → 0 ≤ kf j ∧ kf j ≤ 255) (hm : m ≤ 140737488351232) :
    Calls Tryd.prog 12 #[.agg #[.int .i64 id, .int .i64 wt], .slice ka m kc] w fun e w' => e = .returned (.int .i64 (sco (id, wt) m kf)) ∧ Fr [] w w' := by
  have HK := Lib.hid hk; clear hk
  have HB := Lib.hid hb; clear hb
  have hbl := heap_alloc_new w (.cells #[.int .i64 id, .int .i64 wt] 24)
  have HBL := Lib.hid hbl
  have HF0 := Lib.hid ((Fr.refl [] w).alloc (.cells #[.int .i64 id, .int .i64 wt] 24))
  clear hbl
  obtain ⟨T, hT⟩ : ∃ T : Nat, trs wt = T := ⟨_, rfl⟩
  have hT2 : min (max wt 1) 256 = (T : Int) := by unfold trs at hT; omega
  have hT3 : T ≤ 256 := by unfold trs at hT; omega
  have HT := Lib.hid (show sco (id, wt) m kf = scf id m kf T by unfold sco; rw [hT])
  clear hT
  rw [HT.out]
  go_enter Tryd.func12, Tryd.ntmps12
  go_wp2
  have hbw := HF0.out.size
  have hlw := lt_of_blk HBL.out
  generalize w.alloc (.cells #[.int .i64 id, .int .i64 wt] 24) = w1 at *
  clear hT2
  go_loopw [5, 12] (fun vb vk wr => ∃ k : Nat, k ≤ T ∧ vk = .int .i64 k ∧ vb = .int .i64 (scf id m kf k) ∧ wr.heap[w.heap.size]? = some (.cells #[.int .i64 id, .int .i64 wt] 24 (0, 0)) ∧ Fr [] w wr) (fun _ vk _ => T - (intOf vk).toNat)
  case atStart => exact ⟨0, by omega, rfl, rfl, HBL.out, HF0.out⟩
  case round =>
    clear HBL HF0 hlw
    obtain ⟨k, hkT, rfl, rfl, hbl, hf⟩ := hrel
    have HBL := Lib.hid hbl
    have HF := Lib.hid hf; clear hf
    have c0 := blk_cell (v := .int .i64 id) hbl 0 rfl
    clear hbl
    have hsb := scf_bd id m kf k
    have HSS := Lib.hid (show scf id m kf (k + 1) = max (scf id m kf k) (sck id k m kf) from rfl)
    generalize hbe : scf id m kf k = best at *
    have HBE := Lib.hid hbe; clear hbe
    by_cases hlt : k < T
    · have hk255 : (k : Int) ≤ 255 := by omega
      have hk0 : (0 : Int) ≤ (k : Int) := by omega
      go_wp2_with fail
      refine (four_all _ id h0.1 h0.2).mono ?_
      rintro e w2 ⟨rfl, rA, fA⟩
      have HRA := Lib.hid (rA.kept ((Fr.refl [] w2).alloc (.cells #[.int .u8 k] 5)) (by simp))
      have HFA := Lib.hid ((HF.out.trans fA (by simp)).alloc (.cells #[.int .u8 k] 5))
      have hsA := fA.size
      have HKA := Lib.hid (HK.out.fr HFA.out (by simp))
      have HBA := Lib.hid (((Fr.refl [] w2).alloc (.cells #[.int .u8 k] 5)).blk (fA.blk HBL.out (by simp)) (by simp))
      have hsz0 := HF.out.size
      clear rA fA
      have hlw := lt_of_blk HBL.out
      have hl1 : 5 + m ≤ maxLen := by unfold maxLen; omega
      have hl2 : (5 + m) * 1 ≤ 140737488355328 := by omega
      go_wp2_with (first
        | (at_builtin; refine wpList_app rfl (.tmp 17) (.tmp 20) 25 rfl 5 infoU8 Tryd.underlying25 rfl (base := wr.heap.size) (.inr ⟨_, _, rfl, Nat.le_refl _, HRA.out⟩) rfl (rd_one _ _ _ rfl) rfl (fun _ _ => rfl) (by decide) (by decide) (by simp; omega) ?_; intro v3 w3 ho3 hf3 hn3; have HO3 := Lib.hid ho3; have HF3 := Lib.hid (HFA.out.trans hf3 (fun y hy => .inr (by simp [Value.ownBlock] at hy; omega))); have HB3 := Lib.hid (hf3.blk HBA.out (by simp [Value.ownBlock]; omega)); have HK3 := Lib.hid (HK.out.fr HF3.out (by simp)); have hs3 := hf3.size; have hs3' : wr.heap.size ≤ w3.heap.size := Nat.le_trans (by simp; omega) hs3; clear ho3 hf3 hn3)
        | (at_builtin; refine wpList_app rfl (.tmp 23) (.tmp 24) 25 rfl 5 infoU8 Tryd.underlying25 rfl HO3.out rfl HK3.out rfl (fun _ _ => rfl) hl1 hl2 hs3' ?_; intro v4 w4 ho4 hf4 hn4))
      have hrd : RdF w4 v4 (5 + m) (fun j => .int .u8 (f5 id k kf j)) := ho4.rd.congr (fun j hj => by
        unfold app f5
        by_cases h1 : j < 4
        · rw [if_pos (by omega), if_pos h1, if_pos h1]
        · by_cases h2 : j = 4
          · rw [if_pos (by omega), if_neg h1, if_neg h1, if_pos h2]
          · rw [if_neg (by omega), if_neg h1, if_neg h2])
      obtain ⟨a4, c4, rfl⟩ := hrd.slice
      have HRD := Lib.hid hrd
      have HF4 := Lib.hid (HF3.out.trans hf4 (fun y hy => .inr (Nat.le_trans hsz0 (HO3.out.ge y hy))))
      have HB4 := Lib.hid (hf4.blk HB3.out (fun hm2 => by have := HO3.out.ge _ hm2; omega))
      clear hrd ho4 hf4 hn4
      go_wp2_with fail
      refine (hash_any _ a4 (5 + m) c4 (f5 id k kf) HRD.out (fun j hj => by
        unfold f5
        split
        · exact fo_bd _ _
        · split
          · omega
          · exact HB.out _ (by omega)) (by omega)).mono ?_
      rintro e w5 ⟨rfl, rfl⟩
      have hhb := hsh_bd (f5 id k kf) (5 + m)
      have HSC := Lib.hid (show scf id m kf (k + 1) = max best (hsh (f5 id k kf) (5 + m)) from HSS.out)
      generalize hsh (f5 id k kf) (5 + m) = hh at *
      go_wp2
      go_roundw
      case rel => exact ⟨k + 1, by omega, by go_num, by rw [HSC.out], HB4.out, HF4.out⟩
      case measure => simp [intOf]; omega
    · obtain rfl : k = T := by omega
      go_wp2
      go_ret
      exact ⟨by rw [HBE.out]; rfl, HF.out⟩

end Go.Proofs.YtbaiaolgjlhioaaDoor
