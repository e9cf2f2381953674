/- slices.Insert of one element at the front at []entry. -/
import Derived.Shelf.Spec.SlicesInsert
import Derived.Lib.AppendZerosOnto
import Derived.Test.YtkdmkpdooiacaaaDoorZbase3
namespace Go.Proofs.YtkdmkpdooiacaaaDoor
open Go.RowKit

/-- x ahead of F -/
def csC (x : Nat → Value) (F : Nat → Nat → Value) (j : Nat) : Nat → Value := if j = 0 then x else F (j - 1)

def InsGood (w w' : World) (B : Nat) (v : Value) (n : Nat) (x : Nat → Value) (F : Nat → Nat → Value) (e : Ending) : Prop :=
  ∃ v', e = .returned v' ∧ OwnC w' B 88 v' 18 (n + 1) (csC x F) ∧ Fr v.ownBlock.toList w w' ∧ SameOrNew w v v'

set_option maxHeartbeats 4000000 in
set_option maxRecDepth 1000000 in
theorem insert_empty (w : World) (B : Nat) (v : Value) (F : Nat → Nat → Value) (x : Nat → Value) (b : Nat) (hown : OwnC w B 88 v 18 0 F) (hB : B ≤ w.heap.size) (hx : RdC w (.slice (some ⟨b, 0, none⟩) 1 1) 18 1 (fun _ => x)) (hone : ∀ c, c < 18 → (x c).oneCell' = true) :
    Calls Tryd.prog 51 #[v, .int .i64 0, .slice (some ⟨b, 0, none⟩) 1 1] w fun e w' => InsGood w w' B v 0 x F e := by
  obtain ⟨a, c, rfl⟩ := hown.rd.slice
  have HO := Lib.hid hown
  have HX := Lib.hid hx
  have H1 := Lib.hid (show ∀ j, j < 1 * 18 → (fls 18 (fun _ => x) j).oneCell' = true from fun j hj => hone _ (Nat.mod_lt _ (by decide)))
  clear hown hx hone
  go_enter Tryd.func51, Tryd.ntmps51
  go_wp2_with (at_builtin; refine wpList_appC rfl (.tmp 23) (.tmp 24) 61 rfl 88 infoEn Tryd.underlying61 rfl (by decide) H1.out HO.out rfl HX.out rfl (by unfold maxLen; omega) (by omega) hB ?_; intro v7 w7 ho7 hf7 hs7)
  go_ret
  exact ⟨_, rfl, ho7.congr (by decide) (fun i c hi _ => by unfold appC csC; rw [if_neg (by omega), if_pos (by omega)]), hf7, hs7⟩

set_option maxHeartbeats 4000000 in
set_option maxRecDepth 1000000 in
theorem insert_room (w : World) (B g n cap : Nat) (F : Nat → Nat → Value) (x : Nat → Value) (b : Nat) (T : TypeId) (hr : RowC w g 88 18 n cap F) (hg : B ≤ g) (hn : 0 < n) (hroom : n + 1 ≤ cap) (hb : RowC w b 88 18 1 1 (fun _ => x)) (hgb : b ≠ g)
    (hone : ∀ c, c < 18 → (x c).oneCell' = true) (honF : ∀ i c, i < n → c < 18 → (F i c).oneCell' = true) :
    Calls Tryd.prog 51 #[.slice (some ⟨g, 0, none⟩) n cap, .int .i64 0, .slice (some ⟨b, 0, none⟩) 1 1] w fun e w' => InsGood w w' B (.slice (some ⟨g, 0, none⟩) n cap) n x F e := by
  have hcm := hr.cap_le
  unfold maxLen at hcm
  obtain ⟨i0, hi0, hz0, hzs, hzb⟩ := info_parts infoEn
  have hsz : (Tryd.prog.info? 88).map (·.size) = some 18 := by rw [hi0]; simp [hzs]
  have hov : ∀ lb cb, (callFunc 69 #[.slice (some ⟨b, 0, none⟩) 1 1, .slice (some ⟨g, 18, none⟩) lb cb]).run Tryd.prog w = .ok (.value (.bool false)) w := fun lb cb => by
    obtain ⟨cur, e1, e2, _⟩ := hr
    obtain ⟨cub, d1, d2, _⟩ := hb
    rw [run_callFunc_extern Tryd.func69 (by kernel_rfl) (by kernel_rfl) (by kernel_rfl) (e := Extern.SlicesOverlaps.overlaps #[61, 61] #[4]) (by kernel_rfl),
      Lib.run_overlaps_apart w 61 4 88 Tryd.underlying61 18 (fun w => Tryd.sizeOf88 w) ⟨b, 0, none⟩ ⟨g, 18, none⟩ 1 1 lb cb hgb 88 88 cub.size cur.size (by simp [World.shape?, d1]) (by simp [World.shape?, e1]) (by omega) (blk_frozen d1 0) (blk_frozen d1 _)]
    rfl
  have hc0 : ¬ cap = 1 := by omega
  have hc1 : (1 : Int) ≤ (cap : Int) := by omega
  have hrd : RowC w.drew g 88 18 n cap F := hr.kept ((Fr.refl [] w).drew) (by simp)
  have hcp1 : ∀ ty, (Builtin.copy_ #[61, 61] ty #[.slice (some ⟨g, 18, none⟩) n (cap - 1), .slice (some ⟨g, 0, none⟩) (n + 1) cap]).run Tryd.prog w.drew = .ok (goInt n) (w.drew.setCells g 18 (vals (n * 18) (fls 18 F))) := fun ty =>
    run_copyK w.drew _ _ ty 88 18 g 18 n (cap - 1) ⟨g, 0, none⟩ (n + 1) cap n (vals (n * 18) (fls 18 F)) Tryd.underlying61 hsz (by simp only [Nat.min_def]; split <;> omega) (vals_len _ _)
      (fun j v hj => by
        obtain ⟨hj', rfl⟩ := vals_get' hj
        rw [Addr.add_lit, Nat.zero_add]
        have e := hrd.cell (j / 18) (j % 18) (div_lt' hj') (Nat.mod_lt _ (by decide))
        rw [show j / 18 * 18 + j % 18 = j by omega] at e
        exact e)
      (fun j hj => by rw [vals_len] at hj; exact hrd.spare _ (by omega)) (fun j hj => hrd.frozen _) (vals_one honF (by decide))
  obtain ⟨W1, hW1⟩ : ∃ W1, W1 = w.drew.setCells g 18 (vals (n * 18) (fls 18 F)) := ⟨_, rfl⟩
  have hR1 : RowC W1 g 88 18 n cap (fun j => if 1 ≤ j ∧ j < 1 + n then F (j - 1) else F j) := by
    rw [hW1]
    exact RowC.setEls hrd (by decide) 1 n F (by omega) n (by omega) (fun j hj => .inl hj)
  have hR1' : RowC W1 g 88 18 (n + 1) cap (fun j => if 1 ≤ j ∧ j < 1 + n then F (j - 1) else F j) := by
    rw [hW1]
    exact RowC.setEls hrd (by decide) 1 n F (by omega) (n + 1) (by omega) (fun j hj => by omega)
  have hF1 : Fr [g] w W1 := by rw [hW1]; exact ((Fr.refl [g] w).drew).trans (setCells_fr _ _ _) (fun x hx => .inl hx)
  have hbW : RowC W1 b 88 18 1 1 (fun _ => x) := hb.kept hF1 (by simp; exact hgb)
  have hcp2 : ∀ ty, (Builtin.copy_ #[61, 61] ty #[.slice (some ⟨g, 0, none⟩) (n + 1) cap, .slice (some ⟨b, 0, none⟩) 1 1]).run Tryd.prog W1 = .ok (goInt 1) (W1.setCells g 0 (vals (1 * 18) (fls 18 (fun _ => x)))) := fun ty =>
    run_copyK W1 _ _ ty 88 18 g 0 (n + 1) cap ⟨b, 0, none⟩ 1 1 1 (vals (1 * 18) (fls 18 (fun _ => x))) Tryd.underlying61 hsz (by simp only [Nat.min_def]; split <;> omega) (vals_len _ _)
      (fun j v hj => by
        obtain ⟨hj', rfl⟩ := vals_get' hj
        rw [Addr.add_lit, Nat.zero_add]
        have e := hbW.cell (j / 18) (j % 18) (div_lt' hj') (Nat.mod_lt _ (by decide))
        rw [show j / 18 * 18 + j % 18 = j by omega] at e
        exact e)
      (fun j hj => by rw [vals_len] at hj; exact hR1.spare _ (by omega)) (fun j hj => hR1.frozen _) (vals_one (fun i c _ hc => hone c hc) (by decide))
  have HEND := Lib.hid (show InsGood w (W1.setCells g 0 (vals (1 * 18) (fls 18 (fun _ => x)))) B (.slice (some ⟨g, 0, none⟩) n cap) n x F (.returned (.slice (some ⟨g, 0, none⟩) (n + 1) cap)) from by
    refine ⟨_, rfl, .inr ⟨g, cap, rfl, hg, ?_⟩, hF1.trans (setCells_fr _ _ _) (fun x hx => .inl hx), fun y hy => .inl (by simpa [Value.ownBlock] using hy)⟩
    have h9 := RowC.setEls hR1' (by decide) 0 1 (fun _ => x) (by omega) (n + 1) (by omega) (fun j hj => .inl hj)
    rw [Nat.zero_mul] at h9
    refine h9.congr (by decide) (fun j c hj _ => ?_)
    try dsimp only
    unfold csC
    by_cases hj0 : j = 0
    · rw [if_pos (by omega), if_pos hj0]
    · rw [if_neg (by omega), if_neg hj0, if_pos (by omega)])
  rw [← hW1] at hcp1
  have hw1 : IntKind.i64.wrap 1 = 1 := by rw [IntKind.wrap_i64]; omega
  have hle1 : (1 : Int) ≤ (n : Int) + 1 := by omega
  have hle0 : (0 : Int) ≤ (n : Int) + 1 := by omega
  have HOV := Lib.hid hov
  clear hov hrd hR1 hR1' hF1 hbW hW1 hr hb hone honF
  go_enter Tryd.func51, Tryd.ntmps51
  go_wp2_with (simp only [HOV.out])
  go_region_law (refine step_copy_runI rfl _ _ 61 61 rfl (.slice (some ⟨g, 18, none⟩) n (cap - 1)) (.slice (some ⟨g, 0, none⟩) (n + 1) cap) (by simp [Act.eval, Act.put]) (by simp [Act.eval, Act.put]) (hcp1 _) ?_)
  go_wp2_with (at_builtin; refine wpList_copy_runI _ rfl _ _ 61 61 rfl _ _ rfl rfl (hcp2 _) ?_)
  go_ret
  exact HEND.out

set_option maxHeartbeats 4000000 in
set_option maxRecDepth 1000000 in
theorem insert_grow (w : World) (B g n : Nat) (F : Nat → Nat → Value) (x : Nat → Value) (b : Nat) (hr : RowC w g 88 18 n n F) (hB : B ≤ w.heap.size) (hn : 0 < n) (hn1 : n ≤ 1000) (hb : RowC w b 88 18 1 1 (fun _ => x))
    (hone : ∀ c, c < 18 → (x c).oneCell' = true) (honF : ∀ i c, i < n → c < 18 → (F i c).oneCell' = true) :
    Calls Tryd.prog 51 #[.slice (some ⟨g, 0, none⟩) n n, .int .i64 0, .slice (some ⟨b, 0, none⟩) 1 1] w fun e w' => InsGood w w' B (.slice (some ⟨g, 0, none⟩) n n) n x F e := by
  obtain ⟨i0, hi0, hz0, hzs, hzb⟩ := info_parts infoEn
  have hsz : (Tryd.prog.info? 88).map (·.size) = some 18 := by rw [hi0]; simp [hzs]
  obtain ⟨z, hzv⟩ : ∃ z : Value, z = (.agg #[.string ⟨#[]⟩, .int .i64 0, .bool false, .int .i64 0, .bool false, .bool false, .bool false, .bool false, .bool false, .bool false, .bool false, .int .i64 0, .slice none 0 0, .slice none 0 0, .slice none 0 0, .slice none 0 0, .int .i64 0, .int .i64 0]) := ⟨_, rfl⟩
  have hzc : z.cells.size = 18 := by rw [hzv]; rfl
  rw [← hzv] at hz0
  clear hzv
  have hold : (Builtin.firstCells i0.size 0 (.slice (some ⟨g, 0, none⟩) 0 n)).run Tryd.prog w.drew = .ok ([] : List Value).toArray w.drew := by
    rw [hzs]
    exact run_firstCells_some w.drew 18 0 ⟨g, 0, none⟩ 0 n [] (by simp) (fun j v hj => by simp at hj)
  have hrz := fun ty => Lib.run_append_grow_zeros w 61 3 ty 88 i0 z .i64 .i64 Tryd.underlying61 Tryd.underlying3 hi0 hz0 (some ⟨g, 0, none⟩) 0 n [] hold (n + 1) (by omega) (by omega) (by omega) (by omega) (by rw [hzb]; omega) (by rw [hzb]; exact growslice_fits (by omega) (by omega))
  have hge := grownCap_ge w (0 + (n + 1)) n 88
  have hcm := grownCap_le_maxLen w (0 + (n + 1)) n 88 (by unfold maxLen; omega)
  obtain ⟨ROW, hROW⟩ : ∃ ROW : Array Value, ROW = ([] : List Value).toArray ++ Builtin.zeroCells z.cells (n + 1) ++ Builtin.zeroCells z.cells (grownCap w (0 + (n + 1)) n 88 - (0 + (n + 1))) := ⟨_, rfl⟩
  rw [← hROW] at hrz
  have hRs : ROW.size = grownCap w (0 + (n + 1)) n 88 * 18 := by
    rw [hROW]
    simp only [Array.size_append, size_zeroCells, hzc, List.size_toArray, List.length_nil]
    omega
  generalize grownCap w (0 + (n + 1)) n 88 = G at *
  clear hROW
  rw [Nat.zero_add] at hrz hge
  have hGm : G ≤ 9223372036854775807 := by unfold maxLen at hcm; omega
  obtain ⟨W1, hW1⟩ : ∃ W1, W1 = w.drew.alloc (.cells ROW 88) := ⟨_, rfl⟩
  rw [← hW1] at hrz
  have hN1 : RowC W1 w.heap.size 88 18 0 G F := by
    rw [hW1]
    exact ⟨ROW, heap_alloc_new w.drew _, hRs, by omega, hcm, fun j hj => by omega⟩
  have hF1 : Fr [] w W1 := by rw [hW1]; exact ((Fr.refl [] w).drew).alloc _
  have hbW : RowC W1 b 88 18 1 1 (fun _ => x) := hb.kept hF1 (by simp)
  have hgW : RowC W1 g 88 18 n n F := hr.kept hF1 (by simp)
  have hglt := hr.lt
  have hcp1 : ∀ ty, (Builtin.copy_ #[61, 61] ty #[.slice (some ⟨w.heap.size, 0, none⟩) (n + 1) G, .slice (some ⟨b, 0, none⟩) 1 1]).run Tryd.prog W1 = .ok (goInt 1) (W1.setCells w.heap.size 0 (vals (1 * 18) (fls 18 (fun _ => x)))) := fun ty =>
    run_copyK W1 _ _ ty 88 18 w.heap.size 0 (n + 1) G ⟨b, 0, none⟩ 1 1 1 (vals (1 * 18) (fls 18 (fun _ => x))) Tryd.underlying61 hsz (by simp only [Nat.min_def]; split <;> omega) (vals_len _ _)
      (fun j v hj => by
        obtain ⟨hj', rfl⟩ := vals_get' hj
        rw [Addr.add_lit, Nat.zero_add]
        have e := hbW.cell (j / 18) (j % 18) (div_lt' hj') (Nat.mod_lt _ (by decide))
        rw [show j / 18 * 18 + j % 18 = j by omega] at e
        exact e)
      (fun j hj => by rw [vals_len] at hj; exact hN1.spare _ (by omega)) (fun j hj => hN1.frozen _) (vals_one (fun i c _ hc => hone c hc) (by decide))
  obtain ⟨W2, hW2⟩ : ∃ W2, W2 = W1.setCells w.heap.size 0 (vals (1 * 18) (fls 18 (fun _ => x))) := ⟨_, rfl⟩
  have hN2 : RowC W2 w.heap.size 88 18 1 G (fun j => if 0 ≤ j ∧ j < 0 + 1 then x else F j) := by
    have h9 := RowC.setEls hN1 (by decide) 0 1 (fun _ => x) (by omega) 1 (by omega) (fun j hj => .inr (by omega))
    rw [Nat.zero_mul] at h9
    rw [hW2]
    exact h9
  have hF2 : Fr [w.heap.size] W1 W2 := by rw [hW2]; exact setCells_fr _ _ _
  have hgW2 : RowC W2.drew g 88 18 n n F := hgW.kept hF2.drew (by simp; omega)
  have hN2d : RowC W2.drew w.heap.size 88 18 1 G (fun j => if 0 ≤ j ∧ j < 0 + 1 then x else F j) := hN2.kept ((Fr.refl [] _).drew) (by simp)
  have hcp2 : ∀ ty, (Builtin.copy_ #[61, 61] ty #[.slice (some ⟨w.heap.size, 18, none⟩) n (G - 1), .slice (some ⟨g, 0, none⟩) n n]).run Tryd.prog W2.drew = .ok (goInt n) (W2.drew.setCells w.heap.size 18 (vals (n * 18) (fls 18 F))) := fun ty =>
    run_copyK W2.drew _ _ ty 88 18 w.heap.size 18 n (G - 1) ⟨g, 0, none⟩ n n n (vals (n * 18) (fls 18 F)) Tryd.underlying61 hsz (by simp) (vals_len _ _)
      (fun j v hj => by
        obtain ⟨hj', rfl⟩ := vals_get' hj
        rw [Addr.add_lit, Nat.zero_add]
        have e := hgW2.cell (j / 18) (j % 18) (div_lt' hj') (Nat.mod_lt _ (by decide))
        rw [show j / 18 * 18 + j % 18 = j by omega] at e
        exact e)
      (fun j hj => by rw [vals_len] at hj; exact hN2d.spare _ (by omega)) (fun j hj => hN2d.frozen _) (vals_one honF (by decide))
  have HEND := Lib.hid (show InsGood w (W2.drew.setCells w.heap.size 18 (vals (n * 18) (fls 18 F))) B (.slice (some ⟨g, 0, none⟩) n n) n x F (.returned (.slice (some ⟨w.heap.size, 0, none⟩) (n + 1) G)) from by
    refine ⟨_, rfl, .inr ⟨w.heap.size, G, rfl, hB, ?_⟩, (((hF1.mono (S' := [g]) (fun x hx => by simp at hx)).trans hF2 (fun x hx => .inr (by simp at hx; omega))).drew).trans (setCells_fr _ _ _) (fun x hx => .inr (by simp at hx; omega)), fun y hy => .inr (by simp [Value.ownBlock] at hy; omega)⟩
    have h9 := RowC.setEls hN2d (by decide) 1 n F (by omega) (n + 1) (by omega) (fun j hj => by omega)
    refine h9.congr (by decide) (fun j c hj _ => ?_)
    try dsimp only
    unfold csC
    by_cases hj0 : j = 0
    · rw [if_neg (by omega), if_pos (by omega), if_pos hj0]
    · rw [if_pos (by omega), if_neg hj0])
  rw [← hW2] at hcp1
  have hw1 : IntKind.i64.wrap 1 = 1 := by rw [IntKind.wrap_i64]; omega
  have hle1 : (1 : Int) ≤ (n : Int) + 1 := by omega
  have hle0 : (0 : Int) ≤ (n : Int) + 1 := by omega
  have hc0 : ¬ G = 1 := by omega
  have hc1 : (1 : Int) ≤ (G : Int) := by omega
  have hc2 : ¬ n = 0 := by omega
  have hc3 : ¬ G = 0 := by omega
  clear hN1 hF1 hbW hgW hF2 hgW2 hN2d hN2 hW1 hW2 hr hb hone honF hRs hold
  go_enter Tryd.func51, Tryd.ntmps51
  go_wp2_with (first
    | (at_builtin; refine Lib.wpList_append_run _ rfl _ _ _ _ rfl _ _ rfl rfl _ _ (hrz _) ?_)
    | (at_builtin; refine wpList_copy_runI _ rfl _ _ 61 61 rfl _ _ rfl rfl (hcp1 _) ?_))
  go_region_law (refine step_copy_runI rfl _ _ 61 61 rfl (.slice (some ⟨w.heap.size, 18, none⟩) n (G - 1)) (.slice (some ⟨g, 0, none⟩) n n) (by simp [Act.eval, Act.put]) (by simp [Act.eval, Act.put]) (hcp2 _) ?_)
  go_wp2
  go_ret
  exact HEND.out

end Go.Proofs.YtkdmkpdooiacaaaDoor
