/- DrrOrder: what was put, what came. -/
import Derived.Test.YthopnlnknicgbaaDoorDrrShared
namespace Go.Proofs.YthopnlnknicgbaaDoor
open Go.RowKit

def nsum (f : Nat → Nat) : Nat → Nat
  | 0 => 0
  | k + 1 => nsum f k + f k

theorem nsum_congr {f g : Nat → Nat} {n : Nat} (h : ∀ j, j < n → f j = g j) : nsum f n = nsum g n := by
  induction n with
  | zero => rfl
  | succ k ih => unfold nsum; rw [ih (fun j hj => h j (by omega)), h k (by omega)]

theorem nsum_upd (f : Nat → Nat) (i x : Nat) (n : Nat) (hi : i < n) : nsum (fun j => if j = i then x else f j) n + f i = nsum f n + x := by
  induction n with
  | zero => omega
  | succ k ih =>
    unfold nsum
    by_cases h : i = k
    · subst h
      rw [if_pos rfl]
      have : nsum (fun j => if j = i then x else f j) i = nsum f i := nsum_congr (fun j hj => by rw [if_neg (by omega)])
      omega
    · rw [if_neg (fun e => h e.symm)]
      have := ih (by omega)
      omega

theorem nsum_pos (f : Nat → Nat) (n : Nat) (h : 0 < nsum f n) : ∃ i, i < n ∧ 0 < f i := by
  induction n with
  | zero => simp [nsum] at h
  | succ k ih =>
    unfold nsum at h
    by_cases h0 : 0 < f k
    · exact ⟨k, by omega, h0⟩
    · obtain ⟨i, hi, h1⟩ := ih (by omega)
      exact ⟨i, by omega, h1⟩

theorem nsum_le (f : Nat → Nat) (n i : Nat) (hi : i < n) : f i ≤ nsum f n := by
  induction n with
  | zero => omega
  | succ k ih =>
    unfold nsum
    by_cases h : i = k
    · subst h; omega
    · have := ih (by omega); omega

theorem nsum_zero (n : Nat) : nsum (fun _ => 0) n = 0 := by
  induction n with
  | zero => rfl
  | succ k ih => unfold nsum; omega

/-- what waits, told by what was put and what came -/
structure OrdInv (n F i : Nat) (sh : Nat → Int) (s : Dst) (ln : Nat → Nat) (li : Nat → Nat → Int) (pl : Nat → Nat) (pv : Nat → Nat → Int) (gt : Nat → Nat) (waits : Nat) : Prop where
  inv : DInv n 10000 sh ln (fun i => li i 0) s
  len : ∀ j, j < n → ln j + gt j = pl j
  val : ∀ j, j < n → ∀ k, k < ln j → li j k = pv j (gt j + k)
  item : ∀ j, j < n → ∀ k, k < pl j → 1 ≤ pv j k ∧ pv j k ≤ 10000
  wt : waits = nsum ln n
  tot : nsum pl n ≤ F ∧ nsum pl n ≤ i
  bd : (i ≤ F ∧ waits ≤ i) ∨ (F ≤ i ∧ (waits = 0 ∨ waits + (i - F) ≤ F))

section
variable {n F i : Nat} {sh : Nat → Int} {s s1 : Dst} {ln : Nat → Nat} {li : Nat → Nat → Int} {pl : Nat → Nat} {pv : Nat → Nat → Int} {gt : Nat → Nat} {waits : Nat}

theorem OrdInv.hd (h : OrdInv n F i sh s ln li pl pv gt waits) : ∀ j, j < n → 0 < ln j → 1 ≤ li j 0 ∧ li j 0 ≤ 10000 := fun j hj hl => by
  rw [h.val j hj 0 hl]
  exact h.item j hj _ (by have := h.len j hj; omega)

theorem OrdInv.ln_le (h : OrdInv n F i sh s ln li pl pv gt waits) : ∀ j, j < n → ln j ≤ F := fun j hj => by
  have := h.len j hj
  have := nsum_le pl n j hj
  have := h.tot.1
  omega

theorem OrdInv.skip (h : OrdInv n F i sh s ln li pl pv gt waits) (hi : i < F ∨ waits = 0) : OrdInv n F (i + 1) sh s ln li pl pv gt waits :=
  { h with tot := ⟨h.tot.1, by have := h.tot.2; omega⟩, bd := by have := h.bd; omega }

theorem OrdInv.put (h : OrdInv n F i sh s ln li pl pv gt waits) (hi : i < F) {q : Nat} (hq : q < n) {x : Int} (hx : 1 ≤ x ∧ x ≤ 10000) :
    OrdInv n F (i + 1) sh s (fun j => if j = q then ln q + 1 else ln j) (fun j => if j = q then (fun k => if k < ln q then li q k else x) else li j)
      (fun j => if j = q then pl q + 1 else pl j) (fun j => if j = q then (fun k => if k < pl q then pv q k else x) else pv j) gt (waits + 1) := by
  have hl := h.len q hq
  refine ⟨h.inv.put _ _ (fun j hj hpos => ?_), fun j hj => ?_, fun j hj k hk => ?_, fun j hj k hk => ?_, ?_, ?_, ?_⟩
  · by_cases e : j = q
    · subst e; simp [hpos]
    · simp [e, hpos]
  · have := h.len j hj
    by_cases e : j = q
    · subst e; simp; omega
    · simp [e]; exact this
  · by_cases e : j = q
    · subst e
      simp only [if_true] at hk ⊢
      by_cases h1 : k < ln j
      · rw [if_pos h1, if_pos (by omega)]; exact h.val j hj k h1
      · rw [if_neg h1, if_neg (by omega)]
    · simp only [if_neg e] at hk ⊢
      exact h.val j hj k hk
  · by_cases e : j = q
    · subst e
      simp only [if_true] at hk ⊢
      by_cases h1 : k < pl j
      · rw [if_pos h1]; exact h.item j hj k h1
      · rw [if_neg h1]; exact hx
    · simp only [if_neg e] at hk ⊢
      exact h.item j hj k hk
  · have := nsum_upd ln q (ln q + 1) n hq
    have := h.wt
    omega
  · have := nsum_upd pl q (pl q + 1) n hq
    have h1 := h.tot
    have h2 := h.bd
    omega
  · have := h.bd; omega

theorem OrdInv.next (h : OrdInv n F i sh s ln li pl pv gt waits) (hs : ∀ i, i < n → 1 ≤ sh i) (hr : DReach n sh ln (fun i => li i 0) s s1) (hst : dstops sh ln (fun i => li i 0) s1) :
    OrdInv n F (i + 1) sh (dgive sh (fun i => li i 0) s1) (fun j => if j = s1.pos then ln j - 1 else ln j) (fun j => if j = s1.pos then (fun k => li j (k + 1)) else li j) pl pv (fun j => if j = s1.pos then gt j + 1 else gt j) (waits - 1) ∧
      gt s1.pos < pl s1.pos ∧ pv s1.pos (gt s1.pos) = li s1.pos 0 := by
  have hi := hr.inv h.inv hs
  have hp := hi.1
  have hl := h.len _ hp
  have h0 := hst.1
  refine ⟨⟨hi.give (by omega) hs h.hd hst _ _ (fun j hj => by simp [hj]), fun j hj => ?_, fun j hj k hk => ?_, h.item, ?_, ?_, ?_⟩, by omega, ?_⟩
  · have := h.len j hj
    by_cases e : j = s1.pos
    · simp only [if_pos e]; rw [e] at this ⊢; omega
    · simp only [if_neg e]; exact this
  · by_cases e : j = s1.pos
    · simp only [if_pos e] at hk ⊢
      rw [h.val j hj (k + 1) (by omega)]
      congr 1
      omega
    · simp only [if_neg e] at hk ⊢
      exact h.val j hj k hk
  · have e : nsum (fun j => if j = s1.pos then ln j - 1 else ln j) n = nsum (fun j => if j = s1.pos then ln s1.pos - 1 else ln j) n := nsum_congr (fun j _ => by
      by_cases e : j = s1.pos
      · rw [if_pos e, if_pos e, e]
      · rw [if_neg e, if_neg e])
    have := nsum_upd ln s1.pos (ln s1.pos - 1) n hp
    have := h.wt
    omega
  · have := h.tot; omega
  · have := h.bd; omega
  · rw [h.val _ hp 0 h0, Nat.add_zero]
end

/-- the rows that the statement keeps beside -/
structure Puts (w : World) (B gp gg n : Nat) (pvv : Nat → Value) (pl : Nat → Nat) (pv : Nat → Nat → Int) (gt : Nat → Nat) : Prop where
  row : RowF w gp 22 n n pvv
  line : ∀ j, j < n → OwnF w B 3 (pvv j) (pl j) (fun k => .int .i64 (pv j k))
  got : RowI w gg n n (fun j => (gt j : Nat))
  apart : ∀ i j x, i < n → j < n → (pvv i).ownBlock = some x → (pvv j).ownBlock = some x → i = j
  other : ∀ j, j < n → (pvv j).ownBlock ≠ some gg
  low : B ≤ gp ∧ B ≤ gg

def InP (gp gg n : Nat) (pvv : Nat → Value) (x : Nat) : Prop := x = gp ∨ x = gg ∨ ∃ j, j < n ∧ (pvv j).ownBlock = some x

section
variable {w w' : World} {B gp gg n : Nat} {pvv : Nat → Value} {pl : Nat → Nat} {pv : Nat → Nat → Int} {gt : Nat → Nat}

theorem Puts.lt (h : Puts w B gp gg n pvv pl pv gt) {x : Nat} (hx : InP gp gg n pvv x) : x < w.heap.size ∧ B ≤ x := by
  rcases hx with rfl | rfl | ⟨j, hj, hx⟩
  · exact ⟨h.row.lt, h.low.1⟩
  · exact ⟨h.got.lt, h.low.2⟩
  · obtain ⟨c, _, hb, hr⟩ := (h.line j hj).own hx
    exact ⟨hr.lt, hb⟩

theorem Puts.kept {S : List Nat} (h : Puts w B gp gg n pvv pl pv gt) (hf : Fr S w w') (hS : ∀ x ∈ S, ¬ InP gp gg n pvv x) : Puts w' B gp gg n pvv pl pv gt :=
  ⟨h.row.kept hf (fun hm => hS _ hm (.inl rfl)), fun j hj => (h.line j hj).kept hf (fun _ hg hm => hS _ hm (.inr (.inr ⟨j, hj, hg⟩))), h.got.kept hf (fun hm => hS _ hm (.inr (.inl rfl))), h.apart, h.other, h.low⟩

theorem Puts.inc (h : Puts w B gp gg n pvv pl pv gt) (q : Nat) :
    Puts (w.setCell ⟨gg, q, none⟩ (.int .i64 ((gt q : Nat) + 1))) B gp gg n pvv pl pv (fun j => if j = q then gt j + 1 else gt j) ∧ FrP (InP gp gg n pvv) w (w.setCell ⟨gg, q, none⟩ (.int .i64 ((gt q : Nat) + 1))) := by
  have hf : Fr [gg] w (w.setCell ⟨gg, q, none⟩ (.int .i64 ((gt q : Nat) + 1))) := (Fr.refl [gg] w).setCell (by simp) _
  refine ⟨⟨h.row.kept hf (by simpa using h.row.ne_row h.got (by decide)), fun j hj => (h.line j hj).kept hf (fun g hg hm => h.other j hj (by simp at hm; rw [hg, hm])), (h.got.stored q _).congr (fun j hj => ?_), h.apart, h.other, h.low⟩, ⟨[gg], hf, by simp; exact .inr (.inl rfl)⟩⟩
  by_cases e : j = q
  · subst e; simp
  · simp [e]

theorem Puts.cell (h : Puts w B gp gg n pvv pl pv gt) {w0 w1 : World} (h0 : Fr [] w w0) {i : Nat} (hi : i < n) (hf : Fr (pvv i).ownBlock.toList w0 w1) : w1.cell? ⟨gp, i, none⟩ = some (pvv i) ∧ w1.frozen? ⟨gp, i, none⟩ = false := by
  have hr := (h.row.kept h0 (by simp)).kept hf (fun hm => by
    obtain ⟨c, _, _, hr⟩ := (h.line i hi).own (by simpa using hm)
    exact h.row.ne_row hr (by decide) rfl)
  exact ⟨hr.cell i hi, hr.frozen i⟩

theorem Puts.put (h : Puts w B gp gg n pvv pl pv gt) {w0 w1 : World} (h0 : Fr [] w w0) {i : Nat} (hi : i < n) {v1 : Value} {x : Int}
    (ho : OwnF w1 B 3 v1 (pl i + 1) (app (pl i) (fun k => .int .i64 (pv i k)) (fun _ => .int .i64 x))) (hf : Fr (pvv i).ownBlock.toList w0 w1) (hsn : SameOrNew w0 (pvv i) v1) :
    Puts (w1.setCell ⟨gp, i, none⟩ v1) B gp gg n (fun j => if j = i then v1 else pvv j) (fun j => if j = i then pl i + 1 else pl j) (fun j => if j = i then (fun k => if k < pl i then pv i k else x) else pv j) gt ∧
      FrP (InP gp gg n pvv) w (w1.setCell ⟨gp, i, none⟩ v1) ∧ ∀ y, InP gp gg n (fun j => if j = i then v1 else pvv j) y → InP gp gg n pvv y ∨ w.heap.size ≤ y := by
  have hsz := h0.size
  have fa : Fr [gp] w1 (w1.setCell ⟨gp, i, none⟩ v1) := (Fr.refl [gp] w1).setCell (by simp) _
  have own : ∀ g, g ∈ (pvv i).ownBlock.toList → g ≠ gp ∧ g ≠ gg ∧ g < w.heap.size := fun g hg => by
    obtain ⟨c, _, _, hr⟩ := (h.line i hi).own (by simpa using hg)
    exact ⟨fun e => h.row.ne_row hr (by decide) e.symm, fun e => h.other i hi (by rw [← e]; simpa using hg), hr.lt⟩
  have k1 := (h.row.kept h0 (by simp)).kept hf (fun hm => (own _ hm).1 rfl)
  have k2 := (h.got.kept h0 (by simp)).kept hf (fun hm => (own _ hm).2.1 rfl)
  have k3 : ∀ j, j < n → j ≠ i → OwnF w1 B 3 (pvv j) (pl j) (fun k => .int .i64 (pv j k)) := fun j hj hne =>
    ((h.line j hj).kept h0 (by simp)).kept hf (fun g hg hm => hne (h.apart _ _ g hj hi hg (by simpa using hm)))
  have hnew : ∀ g, v1.ownBlock = some g → g ≠ gp := fun g hg => by
    obtain ⟨c, _, _, hr⟩ := ho.own hg
    exact fun e => k1.ne_row hr (by decide) e.symm
  have hsn' : ∀ g, v1.ownBlock = some g → (pvv i).ownBlock = some g ∨ w.heap.size ≤ g := fun g hg => by
    rcases hsn g (by simp [hg]) with e | e
    · exact .inl (by simpa using e)
    · exact .inr (by omega)
  refine ⟨⟨?_, fun j hj => ?_, k2.kept fa (by simpa using (k1.ne_row k2 (by decide)).symm), fun a b y ha hb hx hy => ?_, fun j hj => ?_, h.low⟩, ⟨gp :: (pvv i).ownBlock.toList, ?_, fun y hy => ?_⟩, fun y hy => ?_⟩
  · refine (k1.stored i v1).congr (fun j hj => rfl)
  · by_cases e : j = i
    · subst e
      simp only [if_true]
      refine (ho.kept fa (fun g hg => by simpa using hnew g hg)).congr (fun k hk => ?_)
      unfold app
      split <;> rfl
    · simp only [if_neg e]
      refine (k3 j hj e).kept fa (fun g hg hm => ?_)
      obtain ⟨c, _, _, hr⟩ := (h.line j hj).own hg
      exact h.row.ne_row hr (by decide) (by simp at hm; exact hm.symm)
  · by_cases e1 : a = i <;> by_cases e2 : b = i
    · omega
    · simp only [if_pos e1] at hx
      simp only [if_neg e2] at hy
      rcases hsn' y hx with e | e
      · have := h.apart _ _ y hi hb e hy; omega
      · obtain ⟨c, _, _, hr⟩ := (h.line b hb).own hy
        have := hr.lt; omega
    · simp only [if_neg e1] at hx
      simp only [if_pos e2] at hy
      rcases hsn' y hy with e | e
      · have := h.apart _ _ y ha hi hx e; omega
      · obtain ⟨c, _, _, hr⟩ := (h.line a ha).own hx
        have := hr.lt; omega
    · simp only [if_neg e1] at hx
      simp only [if_neg e2] at hy
      exact h.apart _ _ y ha hb hx hy
  · by_cases e : j = i
    · simp only [if_pos e]
      intro hx
      rcases hsn' gg hx with e' | e'
      · exact h.other i hi e'
      · have := h.got.lt; omega
    · simp only [if_neg e]
      exact h.other j hj
  · exact ((h0.mono (S' := gp :: (pvv i).ownBlock.toList) (by simp)).trans hf (fun y hy => .inl (by simp at hy ⊢; exact .inr hy))).trans fa (by simp)
  · rcases List.mem_cons.1 hy with e | e
    · exact .inl e
    · exact .inr (.inr ⟨i, hi, by simpa using e⟩)
  · rcases hy with e | e | ⟨j, hj, e⟩
    · exact .inl (.inl e)
    · exact .inl (.inr (.inl e))
    · by_cases hji : j = i
      · simp only [if_pos hji] at e
        rcases hsn' y e with e' | e'
        · exact .inl (.inr (.inr ⟨i, hi, e'⟩))
        · exact .inr e'
      · simp only [if_neg hji] at e
        exact .inl (.inr (.inr ⟨j, hj, e⟩))
end

end Go.Proofs.YthopnlnknicgbaaDoor
