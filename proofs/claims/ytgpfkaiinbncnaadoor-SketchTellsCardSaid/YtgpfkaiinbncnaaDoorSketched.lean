/- sketch: New's fault, the place as a letter, and the law's 'sketched'. -/
import Derived.Test.YtgpfkaiinbncnaaDoorSketchCount
import Derived.Test.YtgpfkaiinbncnaaDoorSketchAdd
namespace Go.Proofs.YtgpfkaiinbncnaaDoor
open Go.RowKit

set_option maxRecDepth 100000 in
set_option maxHeartbeats 2000000 in
theorem sketch_new_fault (w : World) (deep wide : Int) (h : ¬ (1 ≤ deep ∧ deep ≤ 8 ∧ 1 ≤ wide ∧ wide ≤ 1000)) :
    Calls Tryd.prog 8 #[.int .i64 deep, .int .i64 wide] w fun e w' => e = .returned (.tuple #[.agg #[.int .i64 0, .slice none 0 0], .iface 27 (.int .i64 6)]) ∧ Fr [] w w' := by
  have hb := heap_alloc_new w (.cells #[.int .i64 0, .slice none 0 0] 24)
  have x3 := blk_cell hb 0 rfl
  have x4 := blk_cell hb 1 rfl
  have HFR := Lib.hid ((Fr.refl [] w).alloc (.cells #[.int .i64 0, .slice none 0 0] 24))
  clear hb
  go_enter Tryd.func8, Tryd.ntmps8
  by_cases h1 : deep < 1
  · go_wp2
    exact bodyPost_ret (v := .tuple #[.agg #[.int .i64 0, .slice none 0 0], .iface 27 (.int .i64 6)]) (by simp [results, Tryd.results8, go_sem, x3, x4]) rfl ⟨rfl, HFR.out⟩
  by_cases h2 : 8 < deep
  · go_wp2
    exact bodyPost_ret (v := .tuple #[.agg #[.int .i64 0, .slice none 0 0], .iface 27 (.int .i64 6)]) (by simp [results, Tryd.results8, go_sem, x3, x4]) rfl ⟨rfl, HFR.out⟩
  by_cases h3 : wide < 1
  · go_wp2
    exact bodyPost_ret (v := .tuple #[.agg #[.int .i64 0, .slice none 0 0], .iface 27 (.int .i64 6)]) (by simp [results, Tryd.results8, go_sem, x3, x4]) rfl ⟨rfl, HFR.out⟩
  have h4 : 1000 < wide := by omega
  go_wp2
  exact bodyPost_ret (v := .tuple #[.agg #[.int .i64 0, .slice none 0 0], .iface 27 (.int .i64 6)]) (by simp [results, Tryd.results8, go_sem, x3, x4]) rfl ⟨rfl, HFR.out⟩

/-- the places of one key, as numbers that are not looked into -/
theorem place_sp (w : World) (rv : Value) (wd n d : Nat) (a : Option Addr) (c : Nat) (kf : Nat → Int) (sp : Nat → Nat) (hsp : ∀ i, sp i = spt wd i n kf) (hk : RdF w (.slice a n c) n (fun j => .int .u8 (kf j)))
    (hb : ∀ j, j < n → 0 ≤ kf j ∧ kf j ≤ 255) (hd : d ≤ 8) (hw : 1 ≤ wd ∧ wd ≤ 1000) (hn : n ≤ 140737488351232) :
    ∀ w1, Fr [] w w1 → ∀ i, i < d → Calls Tryd.prog 47 #[.agg #[.int .i64 wd, rv], .int .i64 i, .slice a n c] w1 fun e w' => e = .returned (.int .i64 (sp i)) ∧ Fr [] w1 w' := by
  intro w1 h1 i hi
  refine (place_any w1 rv wd i n a c kf (hk.fr h1 (by simp)) hb (by omega) hw hn).mono ?_
  rintro e w' ⟨he, hf⟩
  exact ⟨by rw [he, hsp], hf⟩

set_option maxRecDepth 100000 in
set_option maxHeartbeats 2000000 in
theorem sketched_any (w : World) : Calls Tryd.prog 7 #[] w fun e w' => e = .returned (.bool true) ∧ Fr [] w w' := by
  obtain ⟨sp, hsp⟩ : ∃ sp : Nat → Nat, ∀ i, sp i = spt 9 i 1 (fun _ => 1) := ⟨_, fun _ => rfl⟩
  have hsl : ∀ i, i < 2 → sp i < 9 := fun i _ => by rw [hsp]; exact spt_lt 9 i 1 _ (by decide)
  have HSL := Lib.hid hsl
  have HPL := Lib.hid (fun (w : World) rv a c hk => place_sp w rv 9 1 2 a c (fun _ => 1) sp hsp hk (by decide) (by decide) (by decide) (by decide))
  clear hsp hsl
  go_enter Tryd.func7, Tryd.ntmps7
  go_wp2_with fail
  refine (sketch_new w 2 9 (by decide) (by decide)).mono ?_
  rintro e w1 ⟨rv, rfl, hs1, hf1⟩
  replace hs1 : SkF w1 rv 2 9 (fun _ _ => 0) := hs1
  obtain ⟨ra, rc, hra⟩ := hs1.slice
  subst hra
  have hb1 := ((Fr.refl [] _).alloc (.cells #[.int .u8 1] 5)).blk (heap_alloc_new w1 (.cells #[.int .i64 9, .slice ra 2 rc] 24)) (by simp)
  have HF1 := Lib.hid (((hf1.alloc (.cells #[.int .i64 9, .slice ra 2 rc] 24))).alloc (.cells #[.int .u8 1] 5))
  have HS1 := Lib.hid (hs1.fr (((Fr.refl [] _).alloc (.cells #[.int .i64 9, .slice ra 2 rc] 24)).alloc (.cells #[.int .u8 1] 5)))
  have hrd : RdF ((w1.alloc (.cells #[.int .i64 9, .slice ra 2 rc] 24)).alloc (.cells #[.int .u8 1] 5)) (.slice (some ⟨w1.heap.size + 1, 0, none⟩) 1 1) 1 (fun _ => .int .u8 1) := rd_one _ _ _ (by simp)
  have HRD := Lib.hid hrd
  clear hrd hs1 hf1 hb1
  go_wp2_with fail
  refine (sketch_add _ _ 2 9 1 (fun _ _ => 0) _ _ sp 5 HS1.out ⟨by decide, by decide, fun _ _ _ _ => by decide⟩ HSL.out (by decide) (fun _ _ => by decide) (HPL.out _ _ _ _ HRD.out)).mono ?_
  rintro e w2 ⟨rv2, rfl, hs2, hf2⟩
  replace hs2 := hs2.told
  obtain ⟨ra2, rc2, hra2⟩ := hs2.slice
  subst hra2
  have HF2 := Lib.hid (((HF1.out.trans hf2 (by simp)).alloc (.cells #[.int .i64 9, .slice ra2 2 rc2] 24)).alloc (.cells #[.int .u8 1] 5))
  have HS2 := Lib.hid (hs2.fr (((Fr.refl [] _).alloc (.cells #[.int .i64 9, .slice ra2 2 rc2] 24)).alloc (.cells #[.int .u8 1] 5)))
  have hrd : RdF ((w2.alloc (.cells #[.int .i64 9, .slice ra2 2 rc2] 24)).alloc (.cells #[.int .u8 1] 5)) (.slice (some ⟨w2.heap.size + 1, 0, none⟩) 1 1) 1 (fun _ => .int .u8 1) := rd_one _ _ _ (by simp)
  have HRD2 := Lib.hid hrd
  clear hrd hs2 hf2
  go_wp2_with fail
  refine (sketch_count _ _ 2 9 1 _ _ _ sp HS2.out ⟨by decide, by decide, fun i _ j _ => ?_⟩ HSL.out (HPL.out _ _ _ _ HRD2.out)).mono ?_
  · show 0 ≤ (if j = sp i then (0 : Int) + 5 else 0) ∧ (if j = sp i then (0 : Int) + 5 else 0) ≤ 1125899906842624
    split <;> decide
  rintro e w3 ⟨he, hf3⟩
  have hv : lea (fun i => (fun i j => if j = sp i then (0 : Int) + 5 else 0) i (sp i)) 2 = 5 := by simp [lea]; decide
  rw [hv] at he
  subst he
  have HF3 := Lib.hid (HF2.out.trans hf3 (by simp))
  clear hf3
  go_wp2
  go_ret
  exact ⟨rfl, HF3.out⟩

end Go.Proofs.YtgpfkaiinbncnaaDoor
