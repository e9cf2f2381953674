/- ringed. -/
import Derived.Test.YtbaiaolgjlhioaaDoorRingPick
import Derived.Lib.SlBytesConst
namespace Go.Proofs.YtbaiaolgjlhioaaDoor
open Go.RowKit Go.Sort

theorem rdp_lit1 (w : World) (x y : Int) (E : TypeId) : RdP (w.alloc (.cells #[.int .i64 x, .int .i64 y] E)) (.slice (some ⟨w.heap.size, 0, none⟩) 1 1) 1 (fun _ => (x, y)) := rdp_one w x y E rfl

theorem rdf_nil (w : World) (f : Nat → Value) : RdF w (.slice none 0 0) 0 f := .inl ⟨rfl, rfl⟩

theorem one_good : NGood (fun _ => ((5 : Int), (1 : Int))) 1 := ⟨by omega, by omega, fun k hk => by unfold NRange; decide, fun j k hj hk _ => by omega⟩

theorem one_win {h r : Int} (hw : Win (pts (fun _ => ((5 : Int), (1 : Int))) 1) h r) : r = 5 := by
  obtain ⟨m, hm, rfl⟩ := hw.mem
  obtain ⟨i, k, _, _, rfl⟩ := (pts_mem m).1 hm
  rfl

theorem hash_a : hsh (fun _ => 97) 1 = 3826002220 := by decide +kernel

set_option maxHeartbeats 2000000 in
set_option maxRecDepth 100000 in
theorem ringed_any (w : World) : Calls Tryd.prog 14 #[] w fun e w' => e = .returned (.bool true) ∧ Fr [] w w' := by
  have hf0 := (Fr.refl [] w).alloc (.cells #[.int .i64 5, .int .i64 1] 24)
  have HF0 := Lib.hid hf0; clear hf0
  have HR := Lib.hid (rdp_lit1 w 5 1 24)
  go_enter Tryd.func14, Tryd.ntmps14
  go_wp2_with fail
  generalize w.alloc (.cells #[.int .i64 5, .int .i64 1] 24) = w1 at *
  refine (pick_any _ _ 1 1 _ HR.out none 0 0 (fun _ => 0) (rdf_nil _ _) (fun j hj => by omega) (by omega)).mono ?_
  rintro e w2 ⟨⟨_, r, hw, rfl⟩ | ⟨hz, _⟩, hf2⟩
  · obtain rfl := one_win hw
    have HF2 := Lib.hid (HF0.out.trans hf2 (by simp))
    clear hf2 hw
    have hcv := Go.Lib.run_convert_bytes_const (P := Tryd.prog) w2 25 5 #[.int .u8 97] 1 1 Tryd.underlying25 Tryd.underlying5
    have hrd : RdF (w2.alloc (.cells #[.int .u8 97] 5 (1, 2))) (.slice (some ⟨w2.heap.size, 0, none⟩) 1 1) 1 (fun _ => .int .u8 97) := .inr ⟨_, 1, rfl, Nat.le_refl _, by decide, fun j hj => by
      obtain rfl : j = 0 := by omega
      show (w2.alloc (.cells #[.int .u8 97] 5 (1, 2))).cell? ⟨w2.heap.size, 0, none⟩ = _
      have h := heap_alloc_new w2 (.cells #[.int .u8 97] 5 (1, 2))
      unfold World.cell?
      rw [h]
      rfl⟩
    have HRD := Lib.hid hrd; clear hrd
    have HH := Lib.hid hash_a
    have HF3 := Lib.hid (HF2.out.alloc (.cells #[.int .u8 97] 5 (1, 2)))
    go_wp2_with fail
    clear hcv
    refine (hash_any _ _ 1 1 (fun _ => 97) HRD.out (fun j hj => by omega) (by omega)).mono ?_
    rintro e w4 ⟨rfl, rfl⟩
    rw [HH.out]
    go_wp2
    go_ret
    exact ⟨rfl, HF3.out⟩
  · exact absurd ((nfault_iff _ _).2 one_good) hz

end Go.Proofs.YtbaiaolgjlhioaaDoor
