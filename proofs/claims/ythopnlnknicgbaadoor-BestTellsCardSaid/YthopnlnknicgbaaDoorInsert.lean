/- slices.Insert at []int, at the front, one: by the library's contracts, told by functions. -/
import Derived.Test.YthopnlnknicgbaaDoorDelete
import Derived.Shelf.Spec.SlicesInsert
import Derived.Shelf.Spec.SlicesInsertGrow
namespace Go.Proofs.YthopnlnknicgbaaDoor
open Go.RowKit Go.Shelf

/-- the numbers of this program, by those of the library's text -/
def insRen : Ren where
  f := fun k => if k = 21 then 56 else if k = 27 then 62 else if k = 28 then 63 else if k = 35 then 70 else 74
  t := fun k => if k = 0 then 0 else if k = 3 then 3 else if k = 4 then 4 else 22
  g := fun k => k

theorem insLays : Lays2.n21 Tryd.prog insRen where
  mixed := by kernel_rfl
  f21 := by kernel_rfl
  f27 := by kernel_rfl
  f28 := by kernel_rfl
  f35 := by kernel_rfl
  f39 := by kernel_rfl
  t0 := Tryd.underlying0
  a0 := Tryd.isAgg0
  z0 := Tryd.sizeOf0
  v0 := Tryd.zeroValue0
  t3 := Tryd.underlying3
  a3 := Tryd.isAgg3
  z3 := Tryd.sizeOf3
  v3 := Tryd.zeroValue3
  t4 := Tryd.underlying4
  a4 := Tryd.isAgg4
  z4 := Tryd.sizeOf4
  v4 := Tryd.zeroValue4
  t22 := Tryd.underlying22
  a22 := Tryd.isAgg22
  z22 := Tryd.sizeOf22
  v22 := Tryd.zeroValue22
  i3 := by kernel_rfl

theorem RowF.full {w : World} {g : Nat} {E : TypeId} {n cap : Nat} {f : Nat → Value} (h : RowF w g E n cap f) : ∃ f', RowF w g E cap cap f' ∧ ∀ j, j < n → f' j = f j := by
  obtain ⟨cur, h1, h2, h3, h4, h5⟩ := h
  refine ⟨fun j => cur.getD j (.bool false), ⟨cur, h1, h2, Nat.le_refl _, h4, fun j hj => ?_⟩, fun j hj => ?_⟩
  · show cur[j]? = some (cur.getD j (.bool false))
    rw [Array.getD_eq_getD_getElem?, Array.getElem?_eq_getElem (by omega)]
    rfl
  · show cur.getD j (.bool false) = f j
    rw [Array.getD_eq_getD_getElem?, h5 j hj]
    rfl

theorem row_arr (w : World) (cs : Array Value) (E : TypeId) (hm : cs.size ≤ maxLen) : RowF (w.alloc (.cells cs E)) w.heap.size E cs.size cs.size (fun j => cs.getD j (.bool false)) :=
  ⟨cs, heap_alloc_new w _, rfl, Nat.le_refl _, hm, fun j hj => by
    show cs[j]? = some (cs.getD j (.bool false))
    rw [Array.getD_eq_getD_getElem?, Array.getElem?_eq_getElem hj]
    rfl⟩

/-- k ahead of f -/
def csf (k : Int) (f : Nat → Int) (j : Nat) : Int := if j = 0 then k else f (j - 1)

theorem vals_getD (n : Nat) (f : Nat → Value) (j : Nat) (hj : j < n) : (vals n f).getD j (.bool false) = f j := by
  rw [List.getD_eq_getElem?_getD, vals_get n f j hj]
  rfl

set_option maxHeartbeats 2000000 in
theorem insert_any (w : World) (B : Nat) (v : Value) (n : Nat) (f : Nat → Int) (k : Int) (b : Nat) (hown : OwnF w B 3 v n (fun j => .int .i64 (f j))) (hB : B ≤ w.heap.size) (hb : w.heap[b]? = some (.cells #[.int .i64 k] 3 (0, 0)))
    (hvb : ∀ g, v.ownBlock = some g → g ≠ b) (hn : (n + 1) * 8 ≤ 140737488355328) :
    Calls Tryd.prog 56 #[v, .int .i64 0, .slice (some ⟨b, 0, none⟩) 1 1] w fun e w' =>
      ∃ v', e = .returned v' ∧ OwnF w' B 3 v' (n + 1) (fun j => .int .i64 (csf k f j)) ∧ Fr v.ownBlock.toList w w' ∧ SameOrNew w v v' := by
  have hml : n + 1 ≤ maxLen := by unfold maxLen; omega
  have hvs : ∀ (j : Nat) (u : Value), [Value.int .i64 k][j]? = some u → w.cell? ⟨b, 0 + j, none⟩ = some u := fun j u hu => by
    rcases j with _ | j
    · simp only [List.getElem?_cons_zero, Option.some.injEq] at hu
      subst hu
      exact blk_cell hb 0 rfl
    · simp at hu
  have h1v : ∀ u ∈ [Value.int .i64 k], u.oneCell' = true := fun u hu => by
    simp only [List.mem_singleton] at hu
    subst hu
    rfl
  have hgrow : ∀ (base : Option Addr) (c : Nat), c < 1 → v = .slice base 0 c → n = 0 → Calls Tryd.prog 56 #[v, .int .i64 0, .slice (some ⟨b, 0, none⟩) 1 1] w fun e w' =>
      ∃ v', e = .returned v' ∧ OwnF w' B 3 v' (n + 1) (fun j => .int .i64 (csf k f j)) ∧ Fr v.ownBlock.toList w w' ∧ SameOrNew w v v' := fun base c hc hv h0 => by
    subst hv h0
    refine (Any2.slices_Insert_int_end_grow insLays base 0 c b 0 1 1 [] [.int .i64 k] w (by omega) (by omega) (by omega) (by omega) rfl rfl (fun _ => rfl) (fun a _ j u hu => by simp at hu) hvs h1v).mono ?_
    rintro e w' ⟨rfl, rfl⟩
    have hge := grownCap_ge w (0 + 1) c 3
    have hcm := grownCap_le_maxLen w (0 + 1) c 3 hml
    refine ⟨_, rfl, .inr ⟨w.heap.size, _, rfl, hB, RowF.of_row (heap_alloc_new w.drew _) ?_ hge hcm fun j hj => ?_⟩, ((Fr.refl _ w).drew).alloc _, fun x hx => .inr (by simp [Value.ownBlock] at hx; omega)⟩
    · simp only [Array.size_append, List.size_toArray, size_zeroCells]
      simp [Value.cells]
      change 1 + (grownCap w 1 c 3 - 1) = grownCap w 1 c 3
      change 1 ≤ grownCap w 1 c 3 at hge
      omega
    · obtain rfl : j = 0 := by omega
      rw [Array.getElem?_append_left (by simp)]
      rfl
  rcases hown with ⟨rfl, rfl⟩ | ⟨g, cap, rfl, hg, hrow⟩
  · exact hgrow none 0 (by omega) rfl rfl
  have hgb : g ≠ b := hvb g rfl
  have hnc := hrow.le
  have hcm := hrow.cap_le
  obtain ⟨f', hfull, hff⟩ := hrow.full
  have hsome : ∀ j, j < cap → (w.cell? ⟨g, j, none⟩).isSome = true := fun j hj => by rw [hfull.cell j hj]; rfl
  by_cases hroom : n + 1 ≤ cap
  · by_cases h0 : n = 0
    · subst h0
      refine (Any2.slices_Insert_int_end_room insLays g 0 0 cap b 0 1 1 [.int .i64 k] w (by omega) (by omega) (by unfold maxLen at hcm; omega) rfl (fun j hj => by simpa using hsome _ (by omega)) (fun j hj => hrow.frozen _) hvs h1v).mono ?_
      rintro e w' ⟨rfl, rfl⟩
      refine ⟨_, rfl, .inr ⟨g, cap, rfl, hg, ((RowF.setCells [.int .i64 k] 0 w f' hfull).take 1 (by omega)).congr fun j hj => ?_⟩, Fr.setCells _ _ _ (Fr.refl _ w) (.inl (by simp [Value.ownBlock])), fun x hx => .inl (by simpa [Value.ownBlock] using hx)⟩
      obtain rfl : j = 0 := by omega
      simp [csf]
    · have hcl := vals_len n (fun j => Value.int .i64 (f j))
      refine (Any2.slices_Insert_int_shift insLays g 0 n cap 0 b 0 1 1 (vals n (fun j => .int .i64 (f j))) [.int .i64 k] w (by omega) (by omega) hroom (by unfold maxLen at hcm; omega) (Ne.symm hgb) hcl rfl
        (fun j u hu => by obtain ⟨hj, rfl⟩ := vals_get' hu; simpa using hrow.cell j hj) (fun j hj => by simpa using hsome _ (by omega)) (fun j hj => hrow.frozen _) hvs (vals_int n _ f) h1v 3 3 1 cap
        (by simp [World.shape?, hb]) (by obtain ⟨cur, e1, e2, _⟩ := hrow; simp [World.shape?, e1, e2]) (by omega) (blk_frozen hb 0) (blk_frozen hb 1)).mono ?_
      rintro e w' ⟨rfl, rfl⟩
      have hr1 : RowF (w.drew.setCells g (0 + (0 + 1)) ((vals n (fun j => Value.int .i64 (f j))).drop 0)) g 3 cap cap _ := RowF.setCells _ _ w.drew f' (hfull.kept ((Fr.refl [] w).drew) (by simp))
      have hr2 := RowF.setCells [.int .i64 k] (0 + 0) _ _ hr1
      have hf1 : Fr [g] w (w.drew.setCells g (0 + (0 + 1)) ((vals n (fun j => Value.int .i64 (f j))).drop 0)) := Fr.setCells _ _ _ ((Fr.refl _ w).drew) (.inl (by simp))
      refine ⟨_, rfl, .inr ⟨g, cap, rfl, hg, (hr2.take (n + 1) (by omega)).congr fun j hj => ?_⟩, Fr.setCells _ _ _ hf1 (.inl (by simp [Value.ownBlock])), fun x hx => .inl (by simpa [Value.ownBlock] using hx)⟩
      simp only [List.length_singleton, List.drop_zero, hcl, csf]
      by_cases hj0 : j = 0
      · subst hj0; simp
      · rw [if_neg (by omega), if_pos (by omega), if_neg hj0, vals_getD n _ _ (by omega)]
  · have hcap : cap = n := by omega
    subst hcap
    by_cases h0 : cap = 0
    · subst h0
      exact hgrow (some ⟨g, 0, none⟩) 0 (by omega) rfl rfl
    · have hcl := vals_len cap (fun j => Value.int .i64 (f j))
      refine (Any2.slices_Insert_int_grow insLays g 0 cap cap 0 b 0 1 1 (vals cap (fun j => .int .i64 (f j))) [.int .i64 k] w (by omega) (by omega) (by omega) (by omega) hn hcl rfl
        (fun j u hu => by obtain ⟨hj, rfl⟩ := vals_get' hu; simpa using hrow.cell j hj) hvs (vals_int cap _ f) h1v).mono ?_
      rintro e w' ⟨rfl, rfl⟩
      have hge := grownCap_ge w (cap + 1) cap 3
      have hcm2 := grownCap_le_maxLen w (cap + 1) cap 3 hml
      have eT : insRen.t 3 = 3 := rfl
      rw [eT]
      generalize hGC : grownCap w (cap + 1) cap 3 = gc at *
      generalize hA : ((List.take 0 (vals cap (fun j => Value.int .i64 (f j)))).toArray ++ Builtin.zeroCells (Value.int .i64 0).cells (cap + 1 - 0) ++ Builtin.zeroCells (Value.int .i64 0).cells (gc - (cap + 1))) = A
      have hAs : A.size = gc := by
        rw [← hA]
        simp [size_zeroCells, Value.cells]
        omega
      have hr0 := row_arr w A 3 (by omega)
      rw [hAs] at hr0
      have hr1 := RowF.setCells [.int .i64 k] 0 _ _ (hr0.kept ((Fr.refl [] _).drew) (by simp))
      have hr2 := RowF.setCells ((vals cap (fun j => Value.int .i64 (f j))).drop 0) (0 + 1) _ _ (hr1.kept ((Fr.refl [] _).drew) (by simp))
      have hf0 : Fr [g] w ((w.alloc (.cells A 3)).drew) := ((Fr.refl [g] w).alloc _).drew
      have hf1 := Fr.setCells (g := w.heap.size) [.int .i64 k] 0 _ hf0 (.inr (Nat.le_refl _))
      have hf2 := Fr.setCells (g := w.heap.size) ((vals cap (fun j => Value.int .i64 (f j))).drop 0) (0 + 1) _ hf1.drew (.inr (Nat.le_refl _))
      refine ⟨_, rfl, .inr ⟨w.heap.size, gc, rfl, hB, (hr2.take (cap + 1) hge).congr fun j hj => ?_⟩, by simpa [Value.ownBlock] using hf2, fun x hx => .inr (by simp [Value.ownBlock] at hx; omega)⟩
      simp only [List.length_singleton, List.drop_zero, hcl, csf]
      by_cases hj0 : j = 0
      · subst hj0; simp
      · rw [if_pos (by omega), if_neg hj0, vals_getD cap _ _ (by omega)]

end Go.Proofs.YthopnlnknicgbaaDoor
