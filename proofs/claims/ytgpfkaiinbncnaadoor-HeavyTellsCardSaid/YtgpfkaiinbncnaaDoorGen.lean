/- Small laws on worlds that every walk of this seat uses: frames, rows of cells told by a function, slices that read as a list. -/
import Derived.WalkKit
import Derived.WalkSpells
import Derived.WalkLawsBesides
import Derived.Handy
import Derived.Outline
import Derived.Lib.Hide
import Derived.Deep.QuietTactic
import Derived.BigQuiet
import Derived.Deep.DeepCutAuto
import Derived.Deep.RegionWith
import Derived.Deep.RegionHeld3
import Derived.Laws.NewBlocks
namespace Go.Proofs.YtgpfkaiinbncnaaDoor
open Go.RowKit

/-- All but the blocks of S is as it was; new blocks may have come. -/
structure Fr (S : List Nat) (w w' : World) : Prop where
  os : w'.os = w.os
  tape : w'.tape = w.tape
  output : w'.output = w.output
  size : w.heap.size ≤ w'.heap.size
  block : ∀ k, k < w.heap.size → k ∉ S → w'.heap[k]? = w.heap[k]?

theorem Fr.refl (S : List Nat) (w : World) : Fr S w w := ⟨rfl, rfl, rfl, Nat.le_refl _, fun _ _ _ => rfl⟩

theorem Fr.trans {S S' : List Nat} {a b c : World} (h : Fr S a b) (k : Fr S' b c) (hs : ∀ x ∈ S', x ∈ S ∨ a.heap.size ≤ x) : Fr S a c :=
  ⟨k.os.trans h.os, k.tape.trans h.tape, k.output.trans h.output, Nat.le_trans h.size k.size, fun i hi hn =>
    (k.block i (Nat.lt_of_lt_of_le hi h.size) (fun hm => (hs i hm).elim hn (fun hge => by omega))).trans (h.block i hi hn)⟩

theorem Fr.mono {S S' : List Nat} {a b : World} (h : Fr S a b) (hs : ∀ x ∈ S, x ∈ S' ∨ a.heap.size ≤ x) : Fr S' a b := (Fr.refl S' a).trans h hs

theorem Fr.drewN {S : List Nat} {a w : World} (h : Fr S a w) (n : Nat) : Fr S a (w.drewN n) := ⟨h.os, h.tape, h.output, h.size, h.block⟩
theorem Fr.drew {S : List Nat} {a w : World} (h : Fr S a w) : Fr S a w.drew := ⟨h.os, h.tape, h.output, h.size, h.block⟩

theorem Fr.alloc {S : List Nat} {a w : World} (h : Fr S a w) (o : Obj) : Fr S a (w.alloc o) :=
  h.trans (S' := []) ⟨rfl, rfl, rfl, by simp, fun k hk _ => by show (w.heap.push o)[k]? = _; rw [Array.getElem?_push, if_neg (by omega)]⟩ (fun _ h => by cases h)

theorem Fr.setCell {S : List Nat} {a w : World} (h : Fr S a w) {p : Addr} (hp : p.block ∈ S ∨ a.heap.size ≤ p.block) (u : Value) : Fr S a (w.setCell p u) :=
  h.trans (S' := [p.block]) ⟨rfl, rfl, rfl, by simp [World.setCell], fun k hk hn => Below.heap_setCell _ _ _ _ (by simpa using hn)⟩ (fun x hx => by simp at hx; subst hx; exact hp)

theorem Fr.of_grown {w w' : World} {row : Option Nat} (h : w.grownBy w' row) (S : List Nat) (hs : ∀ k, row = some k → k ∈ S ∨ w.heap.size ≤ k) : Fr S w w' :=
  ⟨h.os, h.tape, h.output, h.size, fun k hk hn => h.block k hk (fun e => (hs k e.symm).elim hn (fun hge => by omega))⟩

theorem Fr.below {S : List Nat} {w w' : World} (h : Fr S w w') (B : Nat) (hB : B ≤ w.heap.size) (hs : ∀ x ∈ S, B ≤ x) : Below B w w' :=
  ⟨h.os, h.tape, h.output, h.size, fun k hk => h.block k (by omega) (fun hm => by have := hs k hm; omega)⟩

theorem Fr.cell {S : List Nat} {w w' : World} (h : Fr S w w') {p : Addr} {v : Value} (hv : w.cell? p = some v) (hn : p.block ∉ S) : w'.cell? p = some v :=
  (World.cell?_of_block (h.block p.block (World.block_lt_of_cell? w p hv) hn)).trans hv

theorem lt_of_blk {w : World} {b : Nat} {o : Obj} (h : w.heap[b]? = some o) : b < w.heap.size := (Array.getElem?_eq_some_iff.1 h).1

theorem Fr.blk {S : List Nat} {w w' : World} (h : Fr S w w') {b : Nat} {o : Obj} (hv : w.heap[b]? = some o) (hn : b ∉ S) : w'.heap[b]? = some o :=
  (h.block b (lt_of_blk hv) hn).trans hv

theorem Fr.of_below {w w' : World} (h : Below w.heap.size w w') (S : List Nat) : Fr S w w' := ⟨h.os, h.tape, h.output, h.size, fun k hk _ => h.block k hk⟩

theorem blk_cell {w : World} {p : Nat} {cs : Array Value} {T : TypeId} (h : w.heap[p]? = some (.cells cs T (0, 0))) (j : Nat) {v : Value} (hv : cs[j]? = some v) : w.cell? ⟨p, j, none⟩ = some v := by
  simp [World.cell?, h, hv]
theorem blk_frozen {w : World} {p : Nat} {cs : Array Value} {T : TypeId} (h : w.heap[p]? = some (.cells cs T (0, 0))) (j : Nat) : w.frozen? ⟨p, j, none⟩ = false := by
  simp [World.frozen?, h]

theorem blk_set1 {w : World} {p : Nat} {x : Value} {T : TypeId} (h : w.heap[p]? = some (.cells #[x] T (0, 0))) (u : Value) :
    (w.setCell ⟨p, 0, none⟩ u).heap[p]? = some (.cells #[u] T (0, 0)) := by
  simp only [World.setCell]
  rw [Array.getElem?_modify, if_pos rfl, h]
  rfl

theorem blk_set2 {w : World} {p : Nat} {x y : Value} {T : TypeId} (h : w.heap[p]? = some (.cells #[x, y] T (0, 0))) (u v : Value) :
    ((w.setCell ⟨p, 0, none⟩ u).setCell ⟨p, 1, none⟩ v).heap[p]? = some (.cells #[u, v] T (0, 0)) := by
  simp only [World.setCell]
  rw [Array.getElem?_modify, if_pos rfl, Array.getElem?_modify, if_pos rfl, h]
  rfl

/-- A row of the call's own: n of its cap cells (of type E) hold f 0, f 1, .. -/
def RowF (w : World) (g : Nat) (E : TypeId) (n cap : Nat) (f : Nat → Value) : Prop :=
  ∃ cur, w.heap[g]? = some (.cells cur E (0, 0)) ∧ cur.size = cap ∧ n ≤ cap ∧ cap ≤ maxLen ∧ ∀ j, j < n → cur[j]? = some (f j)

abbrev RowI (w : World) (g : Nat) (n cap : Nat) (f : Nat → Int) : Prop := RowF w g 3 n cap (fun j => .int .i64 (f j))

section
variable {w w' : World} {g : Nat} {E : TypeId} {n cap : Nat} {f : Nat → Value}
theorem RowF.lt (h : RowF w g E n cap f) : g < w.heap.size := by obtain ⟨cur, h1, _⟩ := h; exact lt_of_blk h1
theorem RowF.le (h : RowF w g E n cap f) : n ≤ cap := by obtain ⟨cur, _, _, h1, _⟩ := h; exact h1
theorem RowF.cap_le (h : RowF w g E n cap f) : cap ≤ maxLen := by obtain ⟨cur, _, _, _, h1, _⟩ := h; exact h1
theorem RowF.cell (h : RowF w g E n cap f) (j : Nat) (hj : j < n) : w.cell? ⟨g, j, none⟩ = some (f j) := by
  obtain ⟨cur, h1, h2, h3, h4, h5⟩ := h
  simp [World.cell?, h1, h5 j hj]
theorem RowF.frozen (h : RowF w g E n cap f) (j : Nat) : w.frozen? ⟨g, j, none⟩ = false := by
  obtain ⟨cur, h1, h2, h3, h4, h5⟩ := h
  simp [World.frozen?, h1]
theorem RowF.congr (h : RowF w g E n cap f) {f' : Nat → Value} (he : ∀ j, j < n → f j = f' j) : RowF w g E n cap f' := by
  obtain ⟨cur, h1, h2, h3, h4, h5⟩ := h
  exact ⟨cur, h1, h2, h3, h4, fun j hj => by rw [h5 j hj, he j hj]⟩
theorem RowF.take (h : RowF w g E n cap f) (m : Nat) (hm : m ≤ n) : RowF w g E m cap f := by
  obtain ⟨cur, h1, h2, h3, h4, h5⟩ := h
  exact ⟨cur, h1, h2, by omega, h4, fun j hj => h5 j (by omega)⟩
theorem RowF.of_block (h : RowF w g E n cap f) (hb : w'.heap[g]? = w.heap[g]?) : RowF w' g E n cap f := by
  obtain ⟨cur, h1, h2⟩ := h
  exact ⟨cur, hb.trans h1, h2⟩
theorem RowF.kept {S : List Nat} (h : RowF w g E n cap f) (hf : Fr S w w') (hn : g ∉ S) : RowF w' g E n cap f := h.of_block (hf.block g h.lt hn)
theorem RowF.below {B : Nat} (h : RowF w g E n cap f) (hf : Below B w w') (hn : g < B) : RowF w' g E n cap f := h.of_block (hf.block g hn)
theorem RowF.stored (h : RowF w g E n cap f) (k : Nat) (u : Value) : RowF (w.setCell ⟨g, k, none⟩ u) g E n cap (fun j => if j = k then u else f j) := by
  obtain ⟨cur, h1, h2, h3, h4, h5⟩ := h
  refine ⟨cur.setIfInBounds k u, ?_, by simpa using h2, h3, h4, fun j hj => ?_⟩
  · simp only [World.setCell]
    rw [Array.getElem?_modify, if_pos rfl, h1]
    rfl
  · have hjc : j < cur.size := by omega
    have := h5 j hj
    by_cases hjk : j = k
    · subst hjk; simp [hjc]
    · simp only [if_neg hjk]
      rw [Array.getElem?_setIfInBounds_ne (by omega), this]
theorem RowF.owns (h : RowF w g E n cap f) (base : Nat) (hb : base ≤ g) (xs : List Value) (hl : xs.length = n) (hx : ∀ j, j < n → xs[j]? = some (f j)) : w.ownsRow base E 1 (.slice (some ⟨g, 0, none⟩) n cap) n xs := by
  obtain ⟨cur, h1, h2, h3, h4, h5⟩ := h
  refine ⟨by omega, .inr ⟨g, cap, cur, rfl, hb, h1, h3, h4, by omega, ?_⟩⟩
  rw [Nat.mul_one]
  apply List.ext_getElem?
  intro j
  by_cases hj : j < n
  · rw [List.getElem?_take, if_pos hj, hx j hj, Array.getElem?_toList, h5 j hj]
  · rw [List.getElem?_take, if_neg hj, List.getElem?_eq_none (by omega)]
end

theorem RowF.of_owns {w : World} {base E n : Nat} {v : Value} {xs : List Value} (h : w.ownsRow base E 1 v n xs) (hn : v ≠ .slice none 0 0) :
    ∃ g cap, v = .slice (some ⟨g, 0, none⟩) n cap ∧ base ≤ g ∧ ∀ f : Nat → Value, (∀ j, j < n → xs[j]? = some (f j)) → RowF w g E n cap f := by
  rcases h.2 with ⟨hv, _⟩ | ⟨g, cap, cur, hv, hb, hg, hc, hm, hs, ht⟩
  · exact absurd hv hn
  · refine ⟨g, cap, hv, hb, fun f hf => ⟨cur, hg, by omega, hc, hm, fun j hj => ?_⟩⟩
    have := hf j hj
    rw [← ht, Nat.mul_one, List.getElem?_take, if_pos hj, Array.getElem?_toList] at this
    exact this

/-- The slice value v of n one-cell elements reads as f 0, f 1, .. in w. -/
def RdF (w : World) (v : Value) (n : Nat) (f : Nat → Value) : Prop :=
  (v = .slice none 0 0 ∧ n = 0) ∨ ∃ a cap, v = .slice (some a) n cap ∧ n ≤ cap ∧ cap ≤ maxLen ∧ ∀ j, j < n → w.cell? (a.add j) = some (f j)

theorem RdF.shape {w : World} {v : Value} {n : Nat} {f : Nat → Value} (h : RdF w v n f) (hn : 0 < n) :
    ∃ b o cap, v = .slice (some ⟨b, o, none⟩) n cap ∧ n ≤ cap ∧ cap ≤ maxLen ∧ b < w.heap.size ∧ ∀ j, j < n → w.cell? ⟨b, o + j, none⟩ = some (f j) := by
  rcases h with ⟨_, h0⟩ | ⟨a, cap, hv, h1, h2, h3⟩
  · omega
  · obtain ⟨b, o, s⟩ := a
    have hc := h3 0 hn
    have hs : s = none := by simpa [Addr.add] using World.cell?_spot hc
    subst hs
    refine ⟨b, o, cap, hv, h1, h2, ?_, fun j hj => ?_⟩
    · have := World.block_lt_of_cell? w _ hc
      simpa [Addr.add] using this
    · have := h3 j hj
      by_cases h0 : j = 0
      · subst h0; simpa [Addr.add] using this
      · simpa [Addr.add, h0] using this

theorem RdF.kept {w w' : World} {v : Value} {n : Nat} {f : Nat → Value} (h : RdF w v n f) (hk : ∀ a u, w.cell? a = some u → w'.cell? a = some u) : RdF w' v n f := by
  rcases h with h | ⟨a, cap, hv, h1, h2, h3⟩
  · exact .inl h
  · exact .inr ⟨a, cap, hv, h1, h2, fun j hj => hk _ _ (h3 j hj)⟩

theorem RdF.below {w w' : World} {v : Value} {n : Nat} {f : Nat → Value} (h : RdF w v n f) (hk : Below w.heap.size w w') : RdF w' v n f :=
  h.kept fun a _ hu => (hk.cell (World.block_lt_of_cell? w a hu)).trans hu

theorem RdF.fr {w w' : World} {v : Value} {n : Nat} {f : Nat → Value} {S : List Nat} (h : RdF w v n f) (hk : Fr S w w') (hn : ∀ b o c, v = .slice (some ⟨b, o, none⟩) n c → b ∉ S) : RdF w' v n f := by
  by_cases h0 : n = 0
  · subst h0
    rcases h with h | ⟨a, cap, hv, h1, h2, h3⟩
    · exact .inl h
    · exact .inr ⟨a, cap, hv, h1, h2, fun j hj => by omega⟩
  · obtain ⟨b, o, cap, hv, h1, h2, h3, h4⟩ := h.shape (by omega)
    refine .inr ⟨⟨b, o, none⟩, cap, hv, h1, h2, fun j hj => ?_⟩
    have e : (⟨b, o, none⟩ : Addr).add j = ⟨b, o + j, none⟩ := by unfold Addr.add; split <;> simp_all
    rw [e]
    exact hk.cell (h4 j hj) (hn b o cap hv)

theorem RowF.rd {w : World} {g : Nat} {E : TypeId} {n cap : Nat} {f : Nat → Value} (h : RowF w g E n cap f) : RdF w (.slice (some ⟨g, 0, none⟩) n cap) n f :=
  .inr ⟨_, cap, rfl, h.le, h.cap_le, fun j hj => by
    have e : (⟨g, 0, none⟩ : Addr).add j = ⟨g, j, none⟩ := by unfold Addr.add; split <;> simp_all
    rw [e]; exact h.cell j hj⟩

theorem RdF.congr {w : World} {v : Value} {n : Nat} {f f' : Nat → Value} (h : RdF w v n f) (he : ∀ j, j < n → f j = f' j) : RdF w v n f' := by
  rcases h with h | ⟨a, cap, hv, h1, h2, h3⟩
  · exact .inl h
  · exact .inr ⟨a, cap, hv, h1, h2, fun j hj => by rw [h3 j hj, he j hj]⟩

/-- the list of f's first n values -/
def vals (n : Nat) (f : Nat → Value) : List Value := (List.range n).map f
theorem vals_len (n : Nat) (f : Nat → Value) : (vals n f).length = n := by simp [vals]
theorem vals_get (n : Nat) (f : Nat → Value) (j : Nat) (hj : j < n) : (vals n f)[j]? = some (f j) := by simp [vals, List.getElem?_map, List.getElem?_range hj]
theorem vals_get' {n : Nat} {f : Nat → Value} {j : Nat} {u : Value} (h : (vals n f)[j]? = some u) : j < n ∧ u = f j := by
  have hj : j < n := by
    have := (List.getElem?_eq_some_iff.1 h).1
    rwa [vals_len] at this
  rw [vals_get n f j hj] at h
  exact ⟨hj, (Option.some.inj h).symm⟩
theorem vals_int (n : Nat) (k : IntKind) (f : Nat → Int) : ∀ u ∈ vals n (fun j => .int k (f j)), u.oneCell' = true := by
  intro u hu
  simp only [vals, List.mem_map, List.mem_range] at hu
  obtain ⟨j, _, rfl⟩ := hu
  rfl

/-- The slice value v is nil and empty, or a row of its own from block B on, that holds f 0, f 1, .. -/
def OwnF (w : World) (B : Nat) (E : TypeId) (v : Value) (n : Nat) (f : Nat → Value) : Prop :=
  (v = .slice none 0 0 ∧ n = 0) ∨ ∃ g cap, v = .slice (some ⟨g, 0, none⟩) n cap ∧ B ≤ g ∧ RowF w g E n cap f

theorem OwnF.rd {w : World} {B : Nat} {E : TypeId} {v : Value} {n : Nat} {f : Nat → Value} (h : OwnF w B E v n f) : RdF w v n f := by
  rcases h with h | ⟨g, cap, rfl, _, h⟩
  · exact .inl h
  · exact h.rd

theorem OwnF.row {w : World} {B : Nat} {E : TypeId} {v : Value} {n : Nat} {f : Nat → Value} (h : OwnF w B E v n f) (hn : 0 < n) : ∃ g cap, v = .slice (some ⟨g, 0, none⟩) n cap ∧ B ≤ g ∧ RowF w g E n cap f := by
  rcases h with ⟨_, h⟩ | h
  · omega
  · exact h

theorem OwnF.of_owns {w : World} {base E n : Nat} {v : Value} {xs : List Value} (h : w.ownsRow base E 1 v n xs) (f : Nat → Value) (hf : ∀ j, j < n → xs[j]? = some (f j)) : OwnF w base E v n f := by
  by_cases hv : v = .slice none 0 0
  · rcases h.2 with h2 | ⟨g, cap, cur, e, _⟩
    · exact .inl h2
    · rw [hv] at e; cases e
  · obtain ⟨g, cap, e, hb, hr⟩ := RowF.of_owns h hv
    exact .inr ⟨g, cap, e, hb, hr f hf⟩

theorem OwnF.owns {w : World} {base E n : Nat} {v : Value} {f : Nat → Value} (h : OwnF w base E v n f) : w.ownsRow base E 1 v n (vals n f) := by
  rcases h with ⟨rfl, rfl⟩ | ⟨g, cap, rfl, hb, h⟩
  · exact World.ownsRow_nil _ _ _ _
  · exact h.owns base hb _ (vals_len _ _) fun j hj => vals_get n f j hj

theorem OwnF.kept {w w' : World} {B : Nat} {E : TypeId} {v : Value} {n : Nat} {f : Nat → Value} {S : List Nat} (h : OwnF w B E v n f) (hf : Fr S w w') (hS : ∀ g, v.ownBlock = some g → g ∉ S) : OwnF w' B E v n f := by
  rcases h with h | ⟨g, cap, rfl, hb, h⟩
  · exact .inl h
  · exact .inr ⟨g, cap, rfl, hb, h.kept hf (hS g rfl)⟩

theorem OwnF.mono {w : World} {B B' : Nat} {E : TypeId} {v : Value} {n : Nat} {f : Nat → Value} (h : OwnF w B E v n f) (hb : B' ≤ B) : OwnF w B' E v n f := by
  rcases h with h | ⟨g, cap, rfl, hb', h⟩
  · exact .inl h
  · exact .inr ⟨g, cap, rfl, Nat.le_trans hb hb', h⟩

theorem OwnF.congr {w : World} {B : Nat} {E : TypeId} {v : Value} {n : Nat} {f f' : Nat → Value} (h : OwnF w B E v n f) (he : ∀ j, j < n → f j = f' j) : OwnF w B E v n f' := by
  rcases h with h | ⟨g, cap, rfl, hb', h⟩
  · exact .inl h
  · exact .inr ⟨g, cap, rfl, hb', h.congr he⟩

theorem OwnF.nil (w : World) (B : Nat) (E : TypeId) (f : Nat → Value) : OwnF w B E (.slice none 0 0) 0 f := .inl ⟨rfl, rfl⟩

/-- f's first n, then g's. -/
def app (n : Nat) (f g : Nat → Value) (j : Nat) : Value := if j < n then f j else g (j - n)

theorem app_get {n m : Nat} {f g : Nat → Value} {j : Nat} (hj : j < n + m) : (vals n f ++ vals m g)[j]? = some (app n f g j) := by
  unfold app
  by_cases h : j < n
  · rw [List.getElem?_append_left (by rw [vals_len]; exact h), vals_get n f j h, if_pos h]
  · rw [List.getElem?_append_right (by rw [vals_len]; omega), vals_len, vals_get m g _ (by omega), if_neg h]

/-- the block of v' is v's own, or a new one -/
def SameOrNew (w : World) (v v' : Value) : Prop := ∀ x ∈ v'.ownBlock.toList, x ∈ v.ownBlock.toList ∨ w.heap.size ≤ x

theorem RowF.of_row {w : World} {g : Nat} {E : TypeId} {n cap : Nat} {f : Nat → Value} {cur : Array Value} (h1 : w.heap[g]? = some (.cells cur E (0, 0))) (h2 : cur.size = cap) (h3 : n ≤ cap) (h4 : cap ≤ maxLen)
    (h5 : ∀ j, j < n → cur[j]? = some (f j)) : RowF w g E n cap f := ⟨cur, h1, h2, h3, h4, h5⟩

/-- what append does onto a slice of the call's own (one-cell elements), from a slice that reads -/
theorem run_app {P : Program} (w : World) (t ty E : TypeId) {z : Value} {bytes : Nat} (hinfo : (P.info? E).map (fun i => (i.zero, i.size, i.bytes)) = some (some z, 1, bytes)) (ht : P.underlying t = some (.slice E)) (hz : z.cells.size = 1)
    {v : Value} {n base : Nat} {f : Nat → Value} (hown : OwnF w base E v n f)
    {y : Value} {m : Nat} {g : Nat → Value} (hrd : RdF w y m g) (h1 : ∀ j, j < m → (g j).oneCell' = true)
    (h63 : n + m ≤ maxLen) (hbytes : (n + m) * bytes ≤ 140737488355328) (hbase : base ≤ w.heap.size) :
    ∃ v' w', (Builtin.append_ #[t, t] ty #[v, y]).run P w = .ok v' w' ∧ OwnF w' base E v' (n + m) (app n f g) ∧ Fr v.ownBlock.toList w w' ∧ SameOrNew w v v' := by
  obtain ⟨i, hi, hz0, hz1, hz2⟩ := info_parts hinfo
  rcases hrd with ⟨rfl, rfl⟩ | ⟨ad, c, rfl, hmc, hcm, hcell⟩
  · have hr := run_append_owned_none (P := P) w base t ty E i 1 ht hi v n _ hown.owns
    exact ⟨v, w, hr, hown.congr (fun j hj => by simp [app, hj]), Fr.refl _ _, fun x hx => .inl hx⟩
  have hnews : ∀ j u, (vals m g)[j]? = some u → w.cell? (ad.add j) = some u := fun j u hu => by
    obtain ⟨hj, rfl⟩ := vals_get' hu
    exact hcell j hj
  have hnl : (vals m g).length = m * i.size := by rw [vals_len, hz1]; omega
  have hsmall : n + m ≤ 9223372036854775807 := by unfold maxLen at h63; omega
  have hgrow : ∀ (old : Nat), old < n + m → ∀ S, OwnF (w.drew.alloc (.cells ((vals n f).toArray ++ (vals m g).toArray ++ Builtin.zeroCells z.cells (grownCap w (n + m) old E - (n + m))) E)) base E (.slice (some ⟨w.heap.size, 0, none⟩) (n + m) (grownCap w (n + m) old E)) (n + m) (app n f g) ∧
      Fr S w (w.drew.alloc (.cells ((vals n f).toArray ++ (vals m g).toArray ++ Builtin.zeroCells z.cells (grownCap w (n + m) old E - (n + m))) E)) := by
    intro old ho S
    have hge := grownCap_ge w (n + m) old E
    have hcm := grownCap_le_maxLen w (n + m) old E h63
    refine ⟨.inr ⟨w.heap.size, _, rfl, hbase, RowF.of_row (heap_alloc_new w.drew _) ?_ hge hcm fun j hj => ?_⟩, ((Fr.refl S w).drew).alloc _⟩
    · simp only [Array.size_append, List.size_toArray, size_zeroCells, hz, vals_len]
      omega
    · rw [Array.getElem?_append_left (by simp [vals_len]; omega), ← Array.getElem?_toList]
      have := app_get (f := f) (g := g) hj
      simpa using this
  rcases hown with ⟨rfl, rfl⟩ | ⟨g0, cap, rfl, hb, hrow⟩
  · by_cases hm : m = 0
    · subst hm
      refine ⟨.slice none 0 0, w, ?_, OwnF.nil _ _ _ _, Fr.refl _ _, fun x hx => .inl hx⟩
      simp [Builtin.append_, run_underlying ht, sizeOf, typeInfo, hi, Builtin.lenOf, Builtin.firstCells, loadCells, loadCellsFrom]
    · have hr := run_append_nil (P := P) w t ty E i z ht hi hz0 ad m c (vals m g) hnl hnews (by omega) (by omega) (by rw [hz2]; have hb2 := hbytes; simp only [Nat.zero_add] at hb2; omega)
      have hg := hgrow 0 (by omega) (Value.ownBlock (.slice none 0 0)).toList
      have e0 : (vals 0 f).toArray = #[] := rfl
      simp only [Nat.zero_add, e0, Array.empty_append] at hg ⊢
      exact ⟨_, _, hr, hg.1, hg.2, fun x hx => .inr (by simp [Value.ownBlock] at hx; omega)⟩
  · by_cases hroom : n + m ≤ cap
    · obtain ⟨cur, hcur, hcs, hnc, hcml, hcells⟩ := hrow
      have hfit : n * i.size + (vals m g).length ≤ cur.size := by rw [vals_len, hz1, hcs]; omega
      have h1' : ∀ u ∈ vals m g, u.oneCell' = true := fun u hu => by
        simp only [vals, List.mem_map, List.mem_range] at hu
        obtain ⟨j, hj, rfl⟩ := hu
        exact h1 j hj
      have hr := run_append_room (P := P) w t ty E i ht hi g0 n cap cur hcur ad m c (vals m g) hnl hnews h1' hroom hfit
      refine ⟨_, _, hr, .inr ⟨g0, cap, rfl, hb, RowF.of_row (setRow_heap w g0 cur _ E _ hcur) ?_ hroom hcml fun j hj => ?_⟩, ⟨rfl, rfl, rfl, by simp, fun k _ hn => setRow_other w g0 k _ (by simpa [Value.ownBlock] using hn)⟩, fun x hx => .inl (by simpa [Value.ownBlock] using hx)⟩
      · simp only [List.size_toArray, List.length_append, List.length_take, List.length_drop, Array.length_toList, vals_len, hz1]
        omega
      · have hlen : (cur.toList.take (n * i.size)).length = n := by rw [List.length_take, Array.length_toList, hz1]; omega
        have e : (cur.toList.take (n * i.size) ++ vals m g)[j]? = some (app n f g j) := by
          unfold app
          by_cases hjn : j < n
          · rw [if_pos hjn, List.getElem?_append_left (by omega), List.getElem?_take, if_pos (by rw [hz1]; omega), Array.getElem?_toList, hcells j hjn]
          · rw [if_neg hjn, List.getElem?_append_right (by omega), hlen, vals_get m g _ (by omega)]
        rw [← Array.getElem?_toList]
        simp only []
        rw [List.getElem?_append_left (by rw [List.length_append, hlen, vals_len]; omega)]
        exact e
    · have holds : ∀ j u, (vals n f)[j]? = some u → w.cell? ((⟨g0, 0, none⟩ : Addr).add j) = some u := fun j u hu => by
        obtain ⟨hj, rfl⟩ := vals_get' hu
        have e : (⟨g0, 0, none⟩ : Addr).add j = ⟨g0, j, none⟩ := by unfold Addr.add; split <;> simp_all
        rw [e]; exact hrow.cell j hj
      have hr := run_append_grow (P := P) w t ty E i z ht hi hz0 ⟨g0, 0, none⟩ n cap (vals n f) (by rw [vals_len, hz1]; omega) holds ad m c (vals m g) hnl hnews (by omega) (by omega) (growslice_fits (by omega) (by rw [hz2]; exact hbytes))
      have hg := hgrow cap (by omega) (Value.ownBlock (.slice (some ⟨g0, 0, none⟩) n cap)).toList
      exact ⟨_, _, hr, hg.1, hg.2, fun x hx => .inr (by simp [Value.ownBlock] at hx; omega)⟩

/-- append onto a slice of the call's own (one-cell elements), from a slice that reads. -/
theorem wpList_app {P : Program} {w : World} {ops : Array Oper} {rest : List Oper} {o : Oper} {a : Act} {Q : Exit → Act → World → Prop} (hgd : o.guard = none) (s x : Operand) (t : TypeId)
    (ho : o.op = .call { callee := .builtin .append, args := #[s, x], argTypes := #[t, t] })
    (E : TypeId) {z : Value} {bytes : Nat} (hinfo : (P.info? E).map (fun i => (i.zero, i.size, i.bytes)) = some (some z, 1, bytes)) (ht : P.underlying t = some (.slice E)) (hz : z.cells.size = 1)
    {v : Value} {n base : Nat} {f : Nat → Value} (hown : OwnF w base E v n f) (hs : a.eval s = v)
    {y : Value} {m : Nat} {g : Nat → Value} (hrd : RdF w y m g) (hx : a.eval x = y) (h1 : ∀ j, j < m → (g j).oneCell' = true)
    (h63 : n + m ≤ maxLen) (hbytes : (n + m) * bytes ≤ 140737488355328) (hbase : base ≤ w.heap.size)
    (h : ∀ v' w', OwnF w' base E v' (n + m) (app n f g) → Fr v.ownBlock.toList w w' → SameOrNew w v v' → wpList P ops Q rest (a.put o.dst v') w') : wpList P ops Q (o :: rest) a w := by
  obtain ⟨v', w', hr, h2, h3, h4⟩ := run_app (P := P) w t o.type E hinfo ht hz hown hrd h1 h63 hbytes hbase
  refine wpList_plain hgd fun _ hK => ?_
  unfold Oper.wp execOp
  simp only [ho, resolve, invoke, builtin, Sem.run_bind, Sem.run_pure, Result.andThen_ok, List.map_toArray, List.map_cons, List.map_nil, hs, hx, hr]
  exact hK _ _ (h v' w' h2 h3 h4)

/-- 'make([]T, n)' of one-cell elements: the row that it makes. -/
theorem run_mk {P : Program} (T E : TypeId) {z : Value} {bytes : Nat} (hinfo : (P.info? E).map (fun i => (i.zero, i.size, i.bytes)) = some (some z, 1, bytes)) (ht : P.underlying T = some (.slice E))
    (n : Nat) (hn : n * bytes ≤ 281474976710656) (hm : n ≤ maxLen) (u : World) :
    (Instr.makeSlice T (.int .i64 n) (.int .i64 n)).run P u = .ok (.slice (some ⟨u.heap.size, 0, none⟩) n n) (u.alloc (.cells (madeCells z.cells n) E)) := by
  obtain ⟨i, hi, hz0, hz1, hz2⟩ := info_parts hinfo
  have hb : (i.bytes : Int) * (n : Int) ≤ 281474976710656 := by
    rw [hz2, Int.mul_comm, ← Int.natCast_mul]
    omega
  have h := run_make (P := P) u T E i z ht hi hz0 .i64 .i64 (n : Int) (n : Int) (by omega) (Int.le_refl _) hb (by unfold maxLen at hm; omega)
  simpa [hz1] using h

theorem row_mk (u : World) (E : TypeId) (z : Value) (hz : z.cells = #[z]) (n : Nat) (hm : n ≤ maxLen) : RowF (u.alloc (.cells (madeCells z.cells n) E)) u.heap.size E n n (fun _ => z) := by
  refine ⟨_, heap_alloc_new u _, size_madeCells _ _, Nat.le_refl _, hm, fun j hj => ?_⟩
  have := toList_madeCells_one z n
  rw [hz, ← Array.getElem?_toList, this, List.getElem?_replicate, if_pos hj]

theorem OwnF.ge {w : World} {B : Nat} {E : TypeId} {v : Value} {n : Nat} {f : Nat → Value} (h : OwnF w B E v n f) : ∀ x ∈ v.ownBlock.toList, B ≤ x := by
  rcases h with ⟨rfl, _⟩ | ⟨g, cap, rfl, hb, _⟩
  · simp [Value.ownBlock]
  · simp [Value.ownBlock]; exact hb

theorem OwnF.lt {w : World} {B : Nat} {E : TypeId} {v : Value} {n : Nat} {f : Nat → Value} (h : OwnF w B E v n f) : ∀ x ∈ v.ownBlock.toList, x < w.heap.size := by
  rcases h with ⟨rfl, _⟩ | ⟨g, cap, rfl, hb, hr⟩
  · simp [Value.ownBlock]
  · simp [Value.ownBlock]; exact hr.lt

theorem OwnF.alloc {w : World} {B : Nat} {E : TypeId} {v : Value} {n : Nat} {f : Nat → Value} (h : OwnF w B E v n f) (o : Obj) : OwnF (w.alloc o) B E v n f := by
  rcases h with h | ⟨g, cap, rfl, hb, h⟩
  · exact .inl h
  · exact .inr ⟨g, cap, rfl, hb, h.kept ((Fr.refl [] w).alloc o) (by simp)⟩

theorem RowF.alloc {w : World} {g : Nat} {E : TypeId} {n cap : Nat} {f : Nat → Value} (h : RowF w g E n cap f) (o : Obj) : RowF (w.alloc o) g E n cap f := h.kept ((Fr.refl [] w).alloc o) (by simp)

/-- the slice of one that a call 'append(xs, x)' makes first -/
theorem rd_one (w : World) (x : Value) (E : TypeId) {b : Nat} (hb : w.heap.size = b) : RdF (w.alloc (.cells #[x] E)) (.slice (some ⟨b, 0, none⟩) 1 1) 1 (fun _ => x) :=
  .inr ⟨_, 1, rfl, Nat.le_refl _, by decide, fun j hj => by
    subst hb
    obtain rfl : j = 0 := by omega
    have h := heap_alloc_new w (.cells #[x] E)
    show (w.alloc (.cells #[x] E)).cell? ⟨w.heap.size, 0, none⟩ = some x
    rw [World.cell?, h]
    rfl⟩

theorem rd_two (w : World) (x y : Value) (E : TypeId) (f : Nat → Value) {b : Nat} (hb : w.heap.size = b) (h0 : f 0 = x) (h1 : f 1 = y) : RdF (w.alloc (.cells #[x, y] E)) (.slice (some ⟨b, 0, none⟩) 2 2) 2 f :=
  .inr ⟨_, 2, rfl, by decide, by decide, fun j hj => by
    subst hb
    match j, hj with
    | 0, _ => rw [h0]; exact blk_cell (heap_alloc_new w _) 0 rfl
    | 1, _ => rw [h1]; exact blk_cell (heap_alloc_new w _) 1 rfl⟩

theorem row_lit (w : World) (cs : Array Value) (E : TypeId) (n : Nat) (f : Nat → Value) (hs : cs.size = n) (hm : n ≤ maxLen) (hc : ∀ j, j < n → cs[j]? = some (f j)) : RowF (w.alloc (.cells cs E)) w.heap.size E n n f :=
  ⟨cs, heap_alloc_new w _, hs, Nat.le_refl _, hm, hc⟩

theorem Fr.app {W w w1 : World} {S : List Nat} {v : Value} (hf : Fr S W w) (o : Obj) (hf1 : Fr v.ownBlock.toList (w.alloc o) w1) (hv : ∀ x ∈ v.ownBlock.toList, W.heap.size ≤ x) : Fr S W w1 :=
  (hf.alloc o).trans hf1 fun x hx => .inr (hv x hx)

theorem RdF.zero {w : World} {v : Value} {f : Nat → Value} (h : RdF w v 0 f) (w' : World) (f' : Nat → Value) : RdF w' v 0 f' := by
  rcases h with h | ⟨a, cap, hv, h1, h2, _⟩
  · exact .inl h
  · exact .inr ⟨a, cap, hv, h1, h2, fun j hj => by omega⟩

theorem RdF.slice {w : World} {v : Value} {n : Nat} {f : Nat → Value} (h : RdF w v n f) : ∃ a c, v = .slice a n c := by
  rcases h with ⟨rfl, rfl⟩ | ⟨a, c, rfl, _⟩
  · exact ⟨_, _, rfl⟩
  · exact ⟨_, _, rfl⟩

theorem addr_add_add (a : Addr) (i j : Nat) : (a.add i).add j = a.add (i + j) := by
  unfold Addr.add
  by_cases hi : i = 0 <;> by_cases hj : j = 0 <;> simp [hi, hj, Nat.add_assoc]

/-- a part of what a slice reads as -/
theorem RdF.part {w : World} {a : Option Addr} {n c : Nat} {f : Nat → Value} (h : RdF w (.slice a n c) n f) (lo hi : Nat) (h1 : lo ≤ hi) (h2 : hi ≤ n) :
    RdF w (.slice (a.map (fun x => x.add lo)) (hi - lo) (c - lo)) (hi - lo) (fun j => f (lo + j)) := by
  rcases h with ⟨e, h0⟩ | ⟨ad, cap, e, h3, h4, h5⟩
  · simp only [Value.slice.injEq] at e
    obtain ⟨rfl, _, rfl⟩ := e
    have e1 : hi - lo = 0 := by omega
    rw [e1]
    exact .inl ⟨by simp, rfl⟩
  · simp only [Value.slice.injEq, true_and] at e
    obtain ⟨rfl, rfl⟩ := e
    exact .inr ⟨ad.add lo, c - lo, rfl, by omega, by omega, fun j hj => by rw [addr_add_add]; exact h5 (lo + j) (by omega)⟩

theorem RdF.empty {w : World} {a : Option Addr} {n c : Nat} {f : Nat → Value} (h : RdF w (.slice a n c) n f) (g : Nat → Value) : RdF w (.slice a 0 0) 0 g := by
  rcases h with ⟨e, h0⟩ | ⟨ad, cap, e, h3, h4, h5⟩
  · simp only [Value.slice.injEq] at e
    obtain ⟨rfl, _, rfl⟩ := e
    exact .inl ⟨rfl, rfl⟩
  · simp only [Value.slice.injEq, true_and] at e
    obtain ⟨rfl, rfl⟩ := e
    exact .inr ⟨ad, 0, rfl, Nat.le_refl _, by decide, fun j hj => by omega⟩

theorem RdF.le_cap {w : World} {a : Option Addr} {n c : Nat} {f : Nat → Value} (h : RdF w (.slice a n c) n f) : n ≤ c ∧ c ≤ maxLen := by
  rcases h with ⟨e, h0⟩ | ⟨ad, cap, e, h3, h4, h5⟩
  · simp only [Value.slice.injEq] at e
    obtain ⟨rfl, _, rfl⟩ := e
    exact ⟨by omega, by decide⟩
  · simp only [Value.slice.injEq, true_and] at e
    obtain ⟨rfl, rfl⟩ := e
    exact ⟨h3, h4⟩

end Go.Proofs.YtgpfkaiinbncnaaDoor
