/- drr: the flows in memory. -/
import Derived.Test.YthopnlnknicgbaaDoorClone
import Derived.Test.YthopnlnknicgbaaDoorDrrLaw
namespace Go.Proofs.YthopnlnknicgbaaDoor
open Go.RowKit

structure Drr (w : World) (B p gr n c : Nat) (pf : Nat → Nat) (lv : Nat → Value) (sh : Nat → Int) (s : Dst) (ln : Nat → Nat) (li : Nat → Nat → Int) (waits : Nat) : Prop where
  blk : w.heap[p]? = some (.cells #[.slice (some ⟨gr, 0, none⟩) n c, .int .i64 s.pos, .bool s.vis, .int .i64 waits] 86 (0, 0))
  row : RowF w gr 87 n c (fun j => .pointer (some ⟨pf j, 0, none⟩))
  flow : ∀ i, i < n → w.heap[pf i]? = some (.cells #[.int .i64 (sh i), .int .i64 (s.cr i), lv i] 89 (0, 0))
  line : ∀ i, i < n → OwnF w B 3 (lv i) (ln i) (fun j => .int .i64 (li i j))
  inj : ∀ i j, i < n → j < n → pf i = pf j → i = j
  apart : ∀ i j x, i < n → j < n → (lv i).ownBlock = some x → (lv j).ownBlock = some x → i = j
  low : B ≤ p ∧ B ≤ gr ∧ ∀ i, i < n → B ≤ pf i

/-- the type of a block's cells tells blocks apart -/
theorem blk_ne {w : World} {x y : Nat} {cs ds : Array Value} {T U : TypeId} (hx : w.heap[x]? = some (.cells cs T (0, 0))) (hy : w.heap[y]? = some (.cells ds U (0, 0))) (hT : T ≠ U) : x ≠ y := by
  rintro rfl
  rw [hx] at hy
  simp only [Option.some.injEq, Obj.cells.injEq] at hy
  exact hT hy.2.1

theorem RowF.ne_blk {w : World} {g y n c : Nat} {E U : TypeId} {f : Nat → Value} {ds : Array Value} (h : RowF w g E n c f) (hy : w.heap[y]? = some (.cells ds U (0, 0))) (hT : E ≠ U) : g ≠ y := by
  obtain ⟨cur, h1, _⟩ := h
  exact blk_ne h1 hy hT

theorem RowF.ne_row {w : World} {g y n c m d : Nat} {E U : TypeId} {f k : Nat → Value} (h : RowF w g E n c f) (hy : RowF w y U m d k) (hT : E ≠ U) : g ≠ y := by
  obtain ⟨cur, h1, _⟩ := hy
  exact h.ne_blk h1 hT

theorem OwnF.own {w : World} {B : Nat} {E : TypeId} {v : Value} {n x : Nat} {f : Nat → Value} (h : OwnF w B E v n f) (hx : v.ownBlock = some x) : ∃ c, v = .slice (some ⟨x, 0, none⟩) n c ∧ B ≤ x ∧ RowF w x E n c f := by
  rcases h with ⟨rfl, _⟩ | ⟨g, cap, rfl, hb, h⟩
  · simp [Value.ownBlock] at hx
  · simp [Value.ownBlock] at hx
    subst hx
    exact ⟨cap, rfl, hb, h⟩

section
variable {w w' : World} {B p gr n c : Nat} {pf : Nat → Nat} {lv : Nat → Value} {sh : Nat → Int} {s s' : Dst} {ln : Nat → Nat} {li : Nat → Nat → Int} {waits waits' : Nat}

theorem Drr.kept {S : List Nat} (h : Drr w B p gr n c pf lv sh s ln li waits) (hf : Fr S w w') (hS : ∀ x ∈ S, x < B ∨ w.heap.size ≤ x) : Drr w' B p gr n c pf lv sh s ln li waits := by
  obtain ⟨l1, l2, l3⟩ := h.low
  have hn : ∀ y, y < w.heap.size → B ≤ y → y ∉ S := fun y h1 h2 hm => by have := hS y hm; omega
  refine ⟨hf.blk h.blk (hn _ (lt_of_blk h.blk) l1), h.row.kept hf (hn _ h.row.lt l2), fun i hi => hf.blk (h.flow i hi) (hn _ (lt_of_blk (h.flow i hi)) (l3 i hi)), fun i hi => (h.line i hi).kept hf (fun g hg => ?_), h.inj, h.apart, h.low⟩
  obtain ⟨c, _, hb, hr⟩ := (h.line i hi).own hg
  exact hn _ hr.lt hb

/-- the blocks of the flows -/
def InD (p gr n : Nat) (pf : Nat → Nat) (lv : Nat → Value) (x : Nat) : Prop := x = p ∨ x = gr ∨ ∃ i, i < n ∧ (x = pf i ∨ (lv i).ownBlock = some x)

theorem Drr.inD_lt (h : Drr w B p gr n c pf lv sh s ln li waits) {x : Nat} (hx : InD p gr n pf lv x) : x < w.heap.size ∧ B ≤ x := by
  obtain ⟨l1, l2, l3⟩ := h.low
  rcases hx with rfl | rfl | ⟨i, hi, rfl | hx⟩
  · exact ⟨lt_of_blk h.blk, l1⟩
  · exact ⟨h.row.lt, l2⟩
  · exact ⟨lt_of_blk (h.flow i hi), l3 i hi⟩
  · obtain ⟨c, _, hb, hr⟩ := (h.line i hi).own hx
    exact ⟨hr.lt, hb⟩

theorem Drr.keptD {S : List Nat} (h : Drr w B p gr n c pf lv sh s ln li waits) (hf : Fr S w w') (hS : ∀ x ∈ S, ¬ InD p gr n pf lv x) : Drr w' B p gr n c pf lv sh s ln li waits :=
  ⟨hf.blk h.blk (fun hm => hS _ hm (.inl rfl)), h.row.kept hf (fun hm => hS _ hm (.inr (.inl rfl))), fun i hi => hf.blk (h.flow i hi) (fun hm => hS _ hm (.inr (.inr ⟨i, hi, .inl rfl⟩))),
    fun i hi => (h.line i hi).kept hf (fun _ hg hm => hS _ hm (.inr (.inr ⟨i, hi, .inr hg⟩))), h.inj, h.apart, h.low⟩

/-- one flow, and what is told of all, has changed -/
theorem Drr.upd (h : Drr w B p gr n c pf lv sh s ln li waits) (i : Nat) (hi : i < n) {S : List Nat} (hf : Fr S w w') (hS : ∀ x ∈ S, x = p ∨ x = pf i ∨ (lv i).ownBlock = some x ∨ w.heap.size ≤ x) {v' : Value} {m : Nat} {f : Nat → Int}
    (hb : w'.heap[p]? = some (.cells #[.slice (some ⟨gr, 0, none⟩) n c, .int .i64 s'.pos, .bool s'.vis, .int .i64 waits'] 86 (0, 0)))
    (hfl : w'.heap[pf i]? = some (.cells #[.int .i64 (sh i), .int .i64 (s'.cr i), v'] 89 (0, 0)))
    (hl : OwnF w' B 3 v' m (fun j => .int .i64 (f j))) (hsn : ∀ x, v'.ownBlock = some x → (lv i).ownBlock = some x ∨ w.heap.size ≤ x) (hs' : ∀ j, j < n → j ≠ i → s'.cr j = s.cr j)
    {lv' : Nat → Value} {ln' : Nat → Nat} {li' : Nat → Nat → Int} (e1 : ∀ j, j ≠ i → lv' j = lv j ∧ ln' j = ln j ∧ li' j = li j) (e2 : lv' i = v' ∧ ln' i = m ∧ li' i = f) :
    Drr w' B p gr n c pf lv' sh s' ln' li' waits' := by
  obtain ⟨l1, l2, l3⟩ := h.low
  have hrS : gr ∉ S := fun hm => by
    rcases hS _ hm with e | e | e | e
    · exact h.row.ne_blk h.blk (by decide) e
    · exact h.row.ne_blk (h.flow i hi) (by decide) e
    · obtain ⟨c', _, _, hr⟩ := (h.line i hi).own e
      exact h.row.ne_row hr (by decide) rfl
    · have := h.row.lt; omega
  have hfS : ∀ j, j < n → j ≠ i → pf j ∉ S := fun j hj hne hm => by
    rcases hS _ hm with e | e | e | e
    · exact blk_ne (h.flow j hj) h.blk (by decide) e
    · exact hne (h.inj _ _ hj hi e)
    · obtain ⟨c', _, _, hr⟩ := (h.line i hi).own e
      exact hr.ne_blk (h.flow j hj) (by decide) rfl
    · have := lt_of_blk (h.flow j hj); omega
  have hlS : ∀ j g, j < n → j ≠ i → (lv j).ownBlock = some g → g ∉ S := fun j g hj hne hg hm => by
    obtain ⟨c', _, _, hr⟩ := (h.line j hj).own hg
    rcases hS _ hm with e | e | e | e
    · exact hr.ne_blk h.blk (by decide) e
    · exact hr.ne_blk (h.flow i hi) (by decide) e
    · exact hne (h.apart _ _ g hj hi hg e)
    · have := hr.lt; omega
  have hlt : ∀ j g, j < n → (lv j).ownBlock = some g → g < w.heap.size := fun j g hj hg => by
    obtain ⟨c', _, _, hr⟩ := (h.line j hj).own hg
    exact hr.lt
  refine ⟨hb, h.row.kept hf hrS, fun j hj => ?_, fun j hj => ?_, h.inj, fun j k x hj hk hx hy => ?_, h.low⟩
  · by_cases hji : j = i
    · subst hji; rw [e2.1]; exact hfl
    · rw [(e1 j hji).1, hs' j hj hji]; exact hf.blk (h.flow j hj) (hfS j hj hji)
  · by_cases hji : j = i
    · subst hji; rw [e2.1, e2.2.1, e2.2.2]; exact hl
    · rw [(e1 j hji).1, (e1 j hji).2.1, (e1 j hji).2.2]
      exact (h.line j hj).kept hf (fun g hg => hlS j g hj hji hg)
  · by_cases hji : j = i
    · by_cases hki : k = i
      · omega
      · subst hji
        rw [e2.1] at hx
        rw [(e1 k hki).1] at hy
        rcases hsn x hx with e | e
        · exact h.apart _ _ x hj hk e hy
        · have := hlt k x hk hy; omega
    · rw [(e1 j hji).1] at hx
      by_cases hki : k = i
      · subst hki
        rw [e2.1] at hy
        rcases hsn x hy with e | e
        · exact h.apart _ _ x hj hk hx e
        · have := hlt j x hj hx; omega
      · rw [(e1 k hki).1] at hy
        exact h.apart _ _ x hj hk hx hy
end

/-- all but what is of D is as it was -/
def FrP (D : Nat → Prop) (w w' : World) : Prop := ∃ S, Fr S w w' ∧ ∀ y ∈ S, D y

theorem FrP.refl (D : Nat → Prop) (w : World) : FrP D w w := ⟨[], Fr.refl _ _, by simp⟩
theorem FrP.trans {D : Nat → Prop} {a b d : World} (h : FrP D a b) (k : FrP D b d) : FrP D a d := by
  obtain ⟨S, h1, h2⟩ := h
  obtain ⟨T, k1, k2⟩ := k
  refine ⟨S ++ T, (h1.mono (S' := S ++ T) (fun x hx => .inl (by simp [hx]))).trans k1 (fun x hx => .inl (by simp [hx])), fun y hy => ?_⟩
  rcases List.mem_append.1 hy with h | h
  · exact h2 y h
  · exact k2 y h
theorem FrP.of {D : Nat → Prop} {w w' : World} {S : List Nat} (h : Fr S w w') (hS : ∀ y ∈ S, D y) : FrP D w w' := ⟨S, h, hS⟩
theorem FrP.fr {D : Nat → Prop} {W w w' : World} (h : FrP D w w') {S : List Nat} (k : Fr S W w) (hB : ∀ y, D y → W.heap.size ≤ y) : Fr S W w' := by
  obtain ⟨T, h1, h2⟩ := h
  exact k.trans h1 (fun x hx => .inr (hB x (h2 x hx)))
theorem FrP.size {D : Nat → Prop} {w w' : World} (h : FrP D w w') : w.heap.size ≤ w'.heap.size := by
  obtain ⟨T, h1, h2⟩ := h
  exact h1.size
theorem FrP.drewN {D : Nat → Prop} {w w' : World} (h : FrP D w w') (q : Nat) : FrP D w (w'.drewN q) := by
  obtain ⟨T, h1, h2⟩ := h
  exact ⟨T, h1.drewN q, h2⟩

/-- the least of those that hold -/
theorem least_of (R : Nat → World → Prop) (w : World) (h : ∃ m, R m w) : ∃ m, R m w ∧ ∀ k, R k w → m ≤ k := by
  obtain ⟨m, hm⟩ := h
  induction m using Nat.strongRecOn with
  | ind m ih =>
    by_cases h : ∃ k, k < m ∧ R k w
    · obtain ⟨k, hk, hr⟩ := h
      exact ih k hk hr
    · exact ⟨m, hm, fun k hk => by
        by_cases hlt : k < m
        · exact absurd ⟨k, hlt, hk⟩ h
        · omega⟩

open Classical in
/-- a measure that is asked of the world alone -/
noncomputable def lm (R : Nat → World → Prop) (w : World) : Nat := if h : ∃ m, R m w then Classical.choose (least_of R w h) else 0

theorem lm_spec {R : Nat → World → Prop} {w : World} (h : ∃ m, R m w) : R (lm R w) w := by
  unfold lm
  rw [dif_pos h]
  exact (Classical.choose_spec (least_of R w h)).1

theorem lm_le {R : Nat → World → Prop} {w : World} {m : Nat} (h : R m w) : lm R w ≤ m := by
  unfold lm
  rw [dif_pos ⟨m, h⟩]
  exact (Classical.choose_spec (least_of R w ⟨m, h⟩)).2 m h

end Go.Proofs.YthopnlnknicgbaaDoor
