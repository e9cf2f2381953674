/- The reference's Jumps. -/
import Derived.Test.YtlinembnfcdmcaaDoorJump
import Derived.Test.YtlinembnfcdmcaaDoorRef3
namespace Go.Proofs.YtlinembnfcdmcaaDoor
open Go.RowKit

set_option maxHeartbeats 1000000 in
theorem jumps_any (w : World) (a : Option Addr) (m c : Nat) (kf : Nat → Int) (n : Int) (hv : RdF w (.slice a m c) m (fun j => .int .u8 (kf j))) (hf : ∀ j, j < m → 0 ≤ kf j ∧ kf j ≤ 255) (hm : m ≤ 140737488351232) (hn1 : 1 ≤ n) (hn2 : n ≤ 1000) :
    Calls Tryd.prog 15 #[.slice a m c, .int .i64 n] w fun e w' => Fr [] w w' ∧ ∃ g c, e = .returned (.slice (some ⟨g, 0, none⟩) (mvl kf m n.toNat).length c) ∧ w.heap.size ≤ g ∧ RowI w' g (mvl kf m n.toNat).length c (fun i => (mvl kf m n.toNat).getD i 0) := by
  have HV := Lib.hid hv; clear hv
  have HK := Lib.hid hf; clear hf
  have hrow0 : RowI (w.alloc (.cells #[.int .i64 0] 3)) w.heap.size 1 1 (fun i => ([0] : List Int).getD i 0) := row_lit w _ _ 1 _ rfl (by decide) (fun j hj => match j, hj with | 0, _ => rfl)
  have HR0 := Lib.hid hrow0; clear hrow0
  go_enter Tryd.func15, Tryd.ntmps15
  go_wp2
  go_loopw [5, 6] (fun v i wr => ∃ k : Nat, 1 ≤ k ∧ (k : Int) ≤ n ∧ i = .int .i64 k ∧ OwnF wr w.heap.size 3 v (mvl kf m k).length (fun i => .int .i64 ((mvl kf m k).getD i 0)) ∧ Fr [] w wr) (fun _ i _ => (n - intOf i).toNat)
  case atStart => exact ⟨1, by omega, by omega, rfl, .inr ⟨_, _, rfl, Nat.le_refl _, HR0.out⟩, (Fr.refl _ _).alloc _⟩
  case round =>
    obtain ⟨k, hk1, hk, rfl, ho, hfr⟩ := hrel
    have HO := Lib.hid ho; clear ho
    have HFR := Lib.hid hfr; clear hfr
    by_cases hlt : (k : Int) < n
    · have hl := mvl_len kf m k
      have hsz := HFR.out.size
      go_wp2_with fail
      refine (qfour_any _ k (by omega) (by omega)).mono ?_
      rintro e w1 ⟨rfl, hr1, hf1⟩
      have HR1 := Lib.hid hr1; clear hr1
      have HV1 := Lib.hid ((HV.out.fr HFR.out (by simp)).fr hf1 (by simp))
      have HO1 := Lib.hid (HO.out.kept hf1 (by simp))
      have HF1 := Lib.hid (HFR.out.trans hf1 (by simp))
      have hs1 := hf1.size
      clear hf1
      go_wp2_with (at_builtin; refine wpList_app rfl (.tmp 14) (.tmp 15) 34 rfl 5 infoU8 Tryd.underlying34 rfl (base := wr.heap.size) (.inr ⟨_, _, rfl, Nat.le_refl _, HR1.out⟩) rfl HV1.out rfl (fun _ _ => rfl) (by unfold maxLen; omega) (by omega) hs1 ?_; intro v2 w2 ho2 hf2 _)
      have hrd2 : RdF w2 v2 (4 + m) (fun j => .int .u8 (cat4 k kf j)) := ho2.rd.congr (fun j hj => by
        unfold app cat4
        by_cases h4 : j < 4
        · rw [if_pos h4, if_pos h4]
        · rw [if_neg h4, if_neg h4])
      obtain ⟨a2, c2, rfl⟩ := hrd2.slice
      have HRD2 := Lib.hid hrd2
      have HO2 := Lib.hid (HO1.out.kept hf2 (fun g hg => by have := HO1.out.lt g (by simp [hg]); have := HO.out.lt g (by simp [hg]); simp [Value.ownBlock]; omega))
      have HF2 := Lib.hid (HF1.out.trans hf2 (by simp [Value.ownBlock]; omega))
      have hs2 := hf2.size
      clear hrd2 ho2 hf2
      have hbd : ∀ j, j < 4 + m → 0 ≤ cat4 k kf j ∧ cat4 k kf j ≤ 255 := fun j hj => by
        unfold cat4
        by_cases h4 : j < 4
        · rw [if_pos h4]; exact fo_bd _ _
        · rw [if_neg h4]; exact HK.out _ (by omega)
      have HBD := Lib.hid hbd; clear hbd
      go_wp2_with fail
      refine (hashed_any _ a2 (4 + m) c2 (cat4 k kf) HRD2.out HBD.out (by omega)).mono ?_
      rintro e w3 ⟨rfl, rfl⟩
      have hhb := hsh_bd (cat4 k kf) (4 + m)
      have hmv := mvl_succ kf m k hk1
      have HMV := Lib.hid hmv; clear hmv
      by_cases hj : jmp kf m k = true
      · have hjb : (hsh (cat4 k kf) (4 + m) % ((k : Int) + 1) == 0) = true := hj
        rw [if_pos hj] at HMV
        clear hj
        generalize hsh (cat4 k kf) (4 + m) = H at *
        go_wp2_with (at_builtin; refine wpList_app rfl (.tmp 22) (.tmp 24) 22 rfl 3 infoInt Tryd.underlying22 rfl (HO2.out.alloc _) rfl (rd_one _ _ _ (by simp)) rfl (fun _ _ => rfl) (by unfold maxLen; omega) (by omega) (by simp; omega) ?_; intro v4 w4 ho4 hf4 _)
        have HO4 := Lib.hid (ho4.congr (f' := fun i => .int .i64 ((mvl kf m k ++ [(k : Int)]).getD i 0)) (fun j hj => by
          unfold app
          by_cases h4 : j < (mvl kf m k).length
          · rw [if_pos h4]; simp only [List.getD, List.getElem?_append_left h4]
          · obtain rfl : j = (mvl kf m k).length := by omega
            rw [if_neg h4]; simp [List.getD]))
        have HF4 := Lib.hid (HF2.out.app _ hf4 HO2.out.ge)
        clear ho4 hf4
        go_wp2
        go_roundw
        case rel => exact ⟨k + 1, by omega, by omega, by go_num, by rw [HMV.out, List.length_append]; exact HO4.out, HF4.out⟩
        case measure => simp [intOf]; omega
      · have hjb : (hsh (cat4 k kf) (4 + m) % ((k : Int) + 1) == 0) = false := by unfold jmp at hj; simpa using hj
        rw [if_neg hj] at HMV
        clear hj
        generalize hsh (cat4 k kf) (4 + m) = H at *
        go_wp2
        go_roundw
        case rel => exact ⟨k + 1, by omega, by omega, by go_num, by rw [HMV.out]; exact HO2.out, HF2.out⟩
        case measure => simp [intOf]; omega
    · obtain ⟨g, cp, rfl, hg, hr⟩ := HO.out.row (by have := (mvl_len kf m k).2 hk1; omega)
      have HR := Lib.hid hr; clear hr
      go_wp2
      go_ret
      have e : n.toNat = k := by omega
      exact ⟨HFR.out, g, cp, by rw [e]; rfl, hg, by rw [e]; exact HR.out⟩

end Go.Proofs.YtlinembnfcdmcaaDoor
