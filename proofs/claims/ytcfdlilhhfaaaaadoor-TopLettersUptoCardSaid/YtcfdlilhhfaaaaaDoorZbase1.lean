/- What the texts below need: Gen, Args, ArgsRows, BitsI, Cells, CellsApp, FldU, Info, CloneB, CloneS, Eq, Bytes, Hash0, Hash, Name, Caps, CapsLen, Fold, Mix, NameCheck, MsgMem, Aged, Edns, MsSm, Opts, OptsW, OwnB, Pairs, ArgsPairs, ArgsNode, Cmp, Nodes, NodesCheck, Sent, Small, ArgsMsgU, NTypesD, StepApp, WireWrite. -/
import Derived.WalkKit
import Derived.WalkSpells
import Derived.WalkLawsBesides
import Derived.Handy
import Derived.Outline
import Derived.Lib.Hide
import Derived.Deep.QuietTactic
import Derived.BigQuiet
import Derived.Deep.DeepCutAuto
import Derived.Deep.RegionWith
import Derived.Deep.RegionHeld3
import Derived.Laws.NewBlocks
import Derived.Test.YtcfdlilhhfaaaaaDoorRows
import Derived.ProofKit
import Derived.OpenShut
import Derived.ChangeOld
import Derived.SizedLaws
import Derived.Deep.Slices
import Derived.ChangeArms
import Derived.Lib.SmallJoins
import Derived.Laws.BitsLemmas
import Derived.Deep.RegionLaw
import Derived.Deep.Fields
import Derived.Deep.Strs
import Derived.IntWalk
import Derived.Lib.ConvBytes
import Derived.Laws.BytesString
import Derived.Laws.IdiomStrings
import Derived.RangeFuncNested
import Derived.RangeFuncBound
import Derived.RangeFuncCalls
import Derived.RangeFuncLeaves
import Derived.Shelf.Abstract
import Derived.Shelf.RegionOpen
import Derived.OwnWalkIn
import Derived.TacticsInMore
import Derived.LoopNIn
import Derived.LoopIn
import Derived.RangeFuncBox
import Derived.Lib.AppendStr
import Derived.Deep.SlicePairs
import Derived.Sort.Grow
import Derived.Maps.Own
import Derived.Maps.OwnOps
import Derived.Maps.OwnSet
namespace Go.Proofs.YtcfdlilhhfaaaaaDoor
open Go.RowKit

/-- All but the blocks of S is as it was; new blocks may have come. -/
structure Fr (S : List Nat) (w w' : World) : Prop where
  os : w'.os = w.os
  tape : w'.tape = w.tape
  output : w'.output = w.output
  size : w.heap.size ≤ w'.heap.size
  block : ∀ k, k < w.heap.size → k ∉ S → w'.heap[k]? = w.heap[k]?

theorem Fr.refl (S : List Nat) (w : World) : Fr S w w := ⟨rfl, rfl, rfl, Nat.le_refl _, fun _ _ _ => rfl⟩

theorem Fr.trans {S S' : List Nat} {a b c : World} (h : Fr S a b) (k : Fr S' b c) (hs : ∀ x ∈ S', x ∈ S ∨ a.heap.size ≤ x) : Fr S a c :=
  ⟨k.os.trans h.os, k.tape.trans h.tape, k.output.trans h.output, Nat.le_trans h.size k.size, fun i hi hn =>
    (k.block i (Nat.lt_of_lt_of_le hi h.size) (fun hm => (hs i hm).elim hn (fun hge => by omega))).trans (h.block i hi hn)⟩

theorem Fr.mono {S S' : List Nat} {a b : World} (h : Fr S a b) (hs : ∀ x ∈ S, x ∈ S' ∨ a.heap.size ≤ x) : Fr S' a b := (Fr.refl S' a).trans h hs

theorem Fr.drewN {S : List Nat} {a w : World} (h : Fr S a w) (n : Nat) : Fr S a (w.drewN n) := ⟨h.os, h.tape, h.output, h.size, h.block⟩
theorem Fr.drew {S : List Nat} {a w : World} (h : Fr S a w) : Fr S a w.drew := ⟨h.os, h.tape, h.output, h.size, h.block⟩

theorem Fr.alloc {S : List Nat} {a w : World} (h : Fr S a w) (o : Obj) : Fr S a (w.alloc o) :=
  h.trans (S' := []) ⟨rfl, rfl, rfl, by simp, fun k hk _ => by show (w.heap.push o)[k]? = _; rw [Array.getElem?_push, if_neg (by omega)]⟩ (fun _ h => by cases h)

theorem Fr.setCell {S : List Nat} {a w : World} (h : Fr S a w) {p : Addr} (hp : p.block ∈ S ∨ a.heap.size ≤ p.block) (u : Value) : Fr S a (w.setCell p u) :=
  h.trans (S' := [p.block]) ⟨rfl, rfl, rfl, by simp [World.setCell], fun k hk hn => Below.heap_setCell _ _ _ _ (by simpa using hn)⟩ (fun x hx => by simp at hx; subst hx; exact hp)

theorem Fr.of_grown {w w' : World} {row : Option Nat} (h : w.grownBy w' row) (S : List Nat) (hs : ∀ k, row = some k → k ∈ S ∨ w.heap.size ≤ k) : Fr S w w' :=
  ⟨h.os, h.tape, h.output, h.size, fun k hk hn => h.block k hk (fun e => (hs k e.symm).elim hn (fun hge => by omega))⟩

theorem Fr.below {S : List Nat} {w w' : World} (h : Fr S w w') (B : Nat) (hB : B ≤ w.heap.size) (hs : ∀ x ∈ S, B ≤ x) : Below B w w' :=
  ⟨h.os, h.tape, h.output, h.size, fun k hk => h.block k (by omega) (fun hm => by have := hs k hm; omega)⟩

theorem Fr.cell {S : List Nat} {w w' : World} (h : Fr S w w') {p : Addr} {v : Value} (hv : w.cell? p = some v) (hn : p.block ∉ S) : w'.cell? p = some v :=
  (World.cell?_of_block (h.block p.block (World.block_lt_of_cell? w p hv) hn)).trans hv

theorem lt_of_blk {w : World} {b : Nat} {o : Obj} (h : w.heap[b]? = some o) : b < w.heap.size := (Array.getElem?_eq_some_iff.1 h).1

theorem Fr.blk {S : List Nat} {w w' : World} (h : Fr S w w') {b : Nat} {o : Obj} (hv : w.heap[b]? = some o) (hn : b ∉ S) : w'.heap[b]? = some o :=
  (h.block b (lt_of_blk hv) hn).trans hv

theorem Fr.of_below {w w' : World} (h : Below w.heap.size w w') (S : List Nat) : Fr S w w' := ⟨h.os, h.tape, h.output, h.size, fun k hk _ => h.block k hk⟩

theorem blk_cell {w : World} {p : Nat} {cs : Array Value} {T : TypeId} (h : w.heap[p]? = some (.cells cs T (0, 0))) (j : Nat) {v : Value} (hv : cs[j]? = some v) : w.cell? ⟨p, j, none⟩ = some v := by
  simp [World.cell?, h, hv]
theorem blk_frozen {w : World} {p : Nat} {cs : Array Value} {T : TypeId} (h : w.heap[p]? = some (.cells cs T (0, 0))) (j : Nat) : w.frozen? ⟨p, j, none⟩ = false := by
  simp [World.frozen?, h]

theorem blk_set1 {w : World} {p : Nat} {x : Value} {T : TypeId} (h : w.heap[p]? = some (.cells #[x] T (0, 0))) (u : Value) :
    (w.setCell ⟨p, 0, none⟩ u).heap[p]? = some (.cells #[u] T (0, 0)) := by
  simp only [World.setCell]
  rw [Array.getElem?_modify, if_pos rfl, h]
  rfl

theorem blk_set2 {w : World} {p : Nat} {x y : Value} {T : TypeId} (h : w.heap[p]? = some (.cells #[x, y] T (0, 0))) (u v : Value) :
    ((w.setCell ⟨p, 0, none⟩ u).setCell ⟨p, 1, none⟩ v).heap[p]? = some (.cells #[u, v] T (0, 0)) := by
  simp only [World.setCell]
  rw [Array.getElem?_modify, if_pos rfl, Array.getElem?_modify, if_pos rfl, h]
  rfl

/-- A row of the call's own: n of its cap cells (of type E) hold f 0, f 1, .. -/
def RowF (w : World) (g : Nat) (E : TypeId) (n cap : Nat) (f : Nat → Value) : Prop :=
  ∃ cur, w.heap[g]? = some (.cells cur E (0, 0)) ∧ cur.size = cap ∧ n ≤ cap ∧ cap ≤ maxLen ∧ ∀ j, j < n → cur[j]? = some (f j)

abbrev RowI (w : World) (g : Nat) (n cap : Nat) (f : Nat → Int) : Prop := RowF w g 3 n cap (fun j => .int .i64 (f j))

section
variable {w w' : World} {g : Nat} {E : TypeId} {n cap : Nat} {f : Nat → Value}
theorem RowF.lt (h : RowF w g E n cap f) : g < w.heap.size := by obtain ⟨cur, h1, _⟩ := h; exact lt_of_blk h1
theorem RowF.le (h : RowF w g E n cap f) : n ≤ cap := by obtain ⟨cur, _, _, h1, _⟩ := h; exact h1
theorem RowF.cap_le (h : RowF w g E n cap f) : cap ≤ maxLen := by obtain ⟨cur, _, _, _, h1, _⟩ := h; exact h1
theorem RowF.cell (h : RowF w g E n cap f) (j : Nat) (hj : j < n) : w.cell? ⟨g, j, none⟩ = some (f j) := by
  obtain ⟨cur, h1, h2, h3, h4, h5⟩ := h
  simp [World.cell?, h1, h5 j hj]
theorem RowF.frozen (h : RowF w g E n cap f) (j : Nat) : w.frozen? ⟨g, j, none⟩ = false := by
  obtain ⟨cur, h1, h2, h3, h4, h5⟩ := h
  simp [World.frozen?, h1]
theorem RowF.congr (h : RowF w g E n cap f) {f' : Nat → Value} (he : ∀ j, j < n → f j = f' j) : RowF w g E n cap f' := by
  obtain ⟨cur, h1, h2, h3, h4, h5⟩ := h
  exact ⟨cur, h1, h2, h3, h4, fun j hj => by rw [h5 j hj, he j hj]⟩
theorem RowF.take (h : RowF w g E n cap f) (m : Nat) (hm : m ≤ n) : RowF w g E m cap f := by
  obtain ⟨cur, h1, h2, h3, h4, h5⟩ := h
  exact ⟨cur, h1, h2, by omega, h4, fun j hj => h5 j (by omega)⟩
theorem RowF.of_block (h : RowF w g E n cap f) (hb : w'.heap[g]? = w.heap[g]?) : RowF w' g E n cap f := by
  obtain ⟨cur, h1, h2⟩ := h
  exact ⟨cur, hb.trans h1, h2⟩
theorem RowF.kept {S : List Nat} (h : RowF w g E n cap f) (hf : Fr S w w') (hn : g ∉ S) : RowF w' g E n cap f := h.of_block (hf.block g h.lt hn)
theorem RowF.below {B : Nat} (h : RowF w g E n cap f) (hf : Below B w w') (hn : g < B) : RowF w' g E n cap f := h.of_block (hf.block g hn)
theorem RowF.stored (h : RowF w g E n cap f) (k : Nat) (u : Value) : RowF (w.setCell ⟨g, k, none⟩ u) g E n cap (fun j => if j = k then u else f j) := by
  obtain ⟨cur, h1, h2, h3, h4, h5⟩ := h
  refine ⟨cur.setIfInBounds k u, ?_, by simpa using h2, h3, h4, fun j hj => ?_⟩
  · simp only [World.setCell]
    rw [Array.getElem?_modify, if_pos rfl, h1]
    rfl
  · have hjc : j < cur.size := by omega
    have := h5 j hj
    by_cases hjk : j = k
    · subst hjk; simp [hjc]
    · simp only [if_neg hjk]
      rw [Array.getElem?_setIfInBounds_ne (by omega), this]
theorem RowF.owns (h : RowF w g E n cap f) (base : Nat) (hb : base ≤ g) (xs : List Value) (hl : xs.length = n) (hx : ∀ j, j < n → xs[j]? = some (f j)) : w.ownsRow base E 1 (.slice (some ⟨g, 0, none⟩) n cap) n xs := by
  obtain ⟨cur, h1, h2, h3, h4, h5⟩ := h
  refine ⟨by omega, .inr ⟨g, cap, cur, rfl, hb, h1, h3, h4, by omega, ?_⟩⟩
  rw [Nat.mul_one]
  apply List.ext_getElem?
  intro j
  by_cases hj : j < n
  · rw [List.getElem?_take, if_pos hj, hx j hj, Array.getElem?_toList, h5 j hj]
  · rw [List.getElem?_take, if_neg hj, List.getElem?_eq_none (by omega)]
end

theorem RowF.of_owns {w : World} {base E n : Nat} {v : Value} {xs : List Value} (h : w.ownsRow base E 1 v n xs) (hn : v ≠ .slice none 0 0) :
    ∃ g cap, v = .slice (some ⟨g, 0, none⟩) n cap ∧ base ≤ g ∧ ∀ f : Nat → Value, (∀ j, j < n → xs[j]? = some (f j)) → RowF w g E n cap f := by
  rcases h.2 with ⟨hv, _⟩ | ⟨g, cap, cur, hv, hb, hg, hc, hm, hs, ht⟩
  · exact absurd hv hn
  · refine ⟨g, cap, hv, hb, fun f hf => ⟨cur, hg, by omega, hc, hm, fun j hj => ?_⟩⟩
    have := hf j hj
    rw [← ht, Nat.mul_one, List.getElem?_take, if_pos hj, Array.getElem?_toList] at this
    exact this

/-- The slice value v of n one-cell elements reads as f 0, f 1, .. in w. -/
def RdF (w : World) (v : Value) (n : Nat) (f : Nat → Value) : Prop :=
  (v = .slice none 0 0 ∧ n = 0) ∨ ∃ a cap, v = .slice (some a) n cap ∧ n ≤ cap ∧ cap ≤ maxLen ∧ ∀ j, j < n → w.cell? (a.add j) = some (f j)

theorem RdF.shape {w : World} {v : Value} {n : Nat} {f : Nat → Value} (h : RdF w v n f) (hn : 0 < n) :
    ∃ b o cap, v = .slice (some ⟨b, o, none⟩) n cap ∧ n ≤ cap ∧ cap ≤ maxLen ∧ b < w.heap.size ∧ ∀ j, j < n → w.cell? ⟨b, o + j, none⟩ = some (f j) := by
  rcases h with ⟨_, h0⟩ | ⟨a, cap, hv, h1, h2, h3⟩
  · omega
  · obtain ⟨b, o, s⟩ := a
    have hc := h3 0 hn
    have hs : s = none := by simpa [Addr.add] using World.cell?_spot hc
    subst hs
    refine ⟨b, o, cap, hv, h1, h2, ?_, fun j hj => ?_⟩
    · have := World.block_lt_of_cell? w _ hc
      simpa [Addr.add] using this
    · have := h3 j hj
      by_cases h0 : j = 0
      · subst h0; simpa [Addr.add] using this
      · simpa [Addr.add, h0] using this

theorem RdF.kept {w w' : World} {v : Value} {n : Nat} {f : Nat → Value} (h : RdF w v n f) (hk : ∀ a u, w.cell? a = some u → w'.cell? a = some u) : RdF w' v n f := by
  rcases h with h | ⟨a, cap, hv, h1, h2, h3⟩
  · exact .inl h
  · exact .inr ⟨a, cap, hv, h1, h2, fun j hj => hk _ _ (h3 j hj)⟩

theorem RdF.below {w w' : World} {v : Value} {n : Nat} {f : Nat → Value} (h : RdF w v n f) (hk : Below w.heap.size w w') : RdF w' v n f :=
  h.kept fun a _ hu => (hk.cell (World.block_lt_of_cell? w a hu)).trans hu

theorem RdF.fr {w w' : World} {v : Value} {n : Nat} {f : Nat → Value} {S : List Nat} (h : RdF w v n f) (hk : Fr S w w') (hn : ∀ b o c, v = .slice (some ⟨b, o, none⟩) n c → b ∉ S) : RdF w' v n f := by
  by_cases h0 : n = 0
  · subst h0
    rcases h with h | ⟨a, cap, hv, h1, h2, h3⟩
    · exact .inl h
    · exact .inr ⟨a, cap, hv, h1, h2, fun j hj => by omega⟩
  · obtain ⟨b, o, cap, hv, h1, h2, h3, h4⟩ := h.shape (by omega)
    refine .inr ⟨⟨b, o, none⟩, cap, hv, h1, h2, fun j hj => ?_⟩
    have e : (⟨b, o, none⟩ : Addr).add j = ⟨b, o + j, none⟩ := by unfold Addr.add; split <;> simp_all
    rw [e]
    exact hk.cell (h4 j hj) (hn b o cap hv)

theorem RowF.rd {w : World} {g : Nat} {E : TypeId} {n cap : Nat} {f : Nat → Value} (h : RowF w g E n cap f) : RdF w (.slice (some ⟨g, 0, none⟩) n cap) n f :=
  .inr ⟨_, cap, rfl, h.le, h.cap_le, fun j hj => by
    have e : (⟨g, 0, none⟩ : Addr).add j = ⟨g, j, none⟩ := by unfold Addr.add; split <;> simp_all
    rw [e]; exact h.cell j hj⟩

theorem RdF.congr {w : World} {v : Value} {n : Nat} {f f' : Nat → Value} (h : RdF w v n f) (he : ∀ j, j < n → f j = f' j) : RdF w v n f' := by
  rcases h with h | ⟨a, cap, hv, h1, h2, h3⟩
  · exact .inl h
  · exact .inr ⟨a, cap, hv, h1, h2, fun j hj => by rw [h3 j hj, he j hj]⟩

/-- the list of f's first n values -/
def vals (n : Nat) (f : Nat → Value) : List Value := (List.range n).map f
theorem vals_len (n : Nat) (f : Nat → Value) : (vals n f).length = n := by simp [vals]
theorem vals_get (n : Nat) (f : Nat → Value) (j : Nat) (hj : j < n) : (vals n f)[j]? = some (f j) := by simp [vals, List.getElem?_map, List.getElem?_range hj]
theorem vals_get' {n : Nat} {f : Nat → Value} {j : Nat} {u : Value} (h : (vals n f)[j]? = some u) : j < n ∧ u = f j := by
  have hj : j < n := by
    have := (List.getElem?_eq_some_iff.1 h).1
    rwa [vals_len] at this
  rw [vals_get n f j hj] at h
  exact ⟨hj, (Option.some.inj h).symm⟩
theorem vals_int (n : Nat) (k : IntKind) (f : Nat → Int) : ∀ u ∈ vals n (fun j => .int k (f j)), u.oneCell' = true := by
  intro u hu
  simp only [vals, List.mem_map, List.mem_range] at hu
  obtain ⟨j, _, rfl⟩ := hu
  rfl

/-- The slice value v is nil and empty, or a row of its own from block B on, that holds f 0, f 1, .. -/
def OwnF (w : World) (B : Nat) (E : TypeId) (v : Value) (n : Nat) (f : Nat → Value) : Prop :=
  (v = .slice none 0 0 ∧ n = 0) ∨ ∃ g cap, v = .slice (some ⟨g, 0, none⟩) n cap ∧ B ≤ g ∧ RowF w g E n cap f

theorem OwnF.rd {w : World} {B : Nat} {E : TypeId} {v : Value} {n : Nat} {f : Nat → Value} (h : OwnF w B E v n f) : RdF w v n f := by
  rcases h with h | ⟨g, cap, rfl, _, h⟩
  · exact .inl h
  · exact h.rd

theorem OwnF.row {w : World} {B : Nat} {E : TypeId} {v : Value} {n : Nat} {f : Nat → Value} (h : OwnF w B E v n f) (hn : 0 < n) : ∃ g cap, v = .slice (some ⟨g, 0, none⟩) n cap ∧ B ≤ g ∧ RowF w g E n cap f := by
  rcases h with ⟨_, h⟩ | h
  · omega
  · exact h

theorem OwnF.of_owns {w : World} {base E n : Nat} {v : Value} {xs : List Value} (h : w.ownsRow base E 1 v n xs) (f : Nat → Value) (hf : ∀ j, j < n → xs[j]? = some (f j)) : OwnF w base E v n f := by
  by_cases hv : v = .slice none 0 0
  · rcases h.2 with h2 | ⟨g, cap, cur, e, _⟩
    · exact .inl h2
    · rw [hv] at e; cases e
  · obtain ⟨g, cap, e, hb, hr⟩ := RowF.of_owns h hv
    exact .inr ⟨g, cap, e, hb, hr f hf⟩

theorem OwnF.owns {w : World} {base E n : Nat} {v : Value} {f : Nat → Value} (h : OwnF w base E v n f) : w.ownsRow base E 1 v n (vals n f) := by
  rcases h with ⟨rfl, rfl⟩ | ⟨g, cap, rfl, hb, h⟩
  · exact World.ownsRow_nil _ _ _ _
  · exact h.owns base hb _ (vals_len _ _) fun j hj => vals_get n f j hj

theorem OwnF.kept {w w' : World} {B : Nat} {E : TypeId} {v : Value} {n : Nat} {f : Nat → Value} {S : List Nat} (h : OwnF w B E v n f) (hf : Fr S w w') (hS : ∀ g, v.ownBlock = some g → g ∉ S) : OwnF w' B E v n f := by
  rcases h with h | ⟨g, cap, rfl, hb, h⟩
  · exact .inl h
  · exact .inr ⟨g, cap, rfl, hb, h.kept hf (hS g rfl)⟩

theorem OwnF.mono {w : World} {B B' : Nat} {E : TypeId} {v : Value} {n : Nat} {f : Nat → Value} (h : OwnF w B E v n f) (hb : B' ≤ B) : OwnF w B' E v n f := by
  rcases h with h | ⟨g, cap, rfl, hb', h⟩
  · exact .inl h
  · exact .inr ⟨g, cap, rfl, Nat.le_trans hb hb', h⟩

theorem OwnF.congr {w : World} {B : Nat} {E : TypeId} {v : Value} {n : Nat} {f f' : Nat → Value} (h : OwnF w B E v n f) (he : ∀ j, j < n → f j = f' j) : OwnF w B E v n f' := by
  rcases h with h | ⟨g, cap, rfl, hb', h⟩
  · exact .inl h
  · exact .inr ⟨g, cap, rfl, hb', h.congr he⟩

theorem OwnF.nil (w : World) (B : Nat) (E : TypeId) (f : Nat → Value) : OwnF w B E (.slice none 0 0) 0 f := .inl ⟨rfl, rfl⟩

/-- f's first n, then g's. -/
def app (n : Nat) (f g : Nat → Value) (j : Nat) : Value := if j < n then f j else g (j - n)

theorem app_get {n m : Nat} {f g : Nat → Value} {j : Nat} (hj : j < n + m) : (vals n f ++ vals m g)[j]? = some (app n f g j) := by
  unfold app
  by_cases h : j < n
  · rw [List.getElem?_append_left (by rw [vals_len]; exact h), vals_get n f j h, if_pos h]
  · rw [List.getElem?_append_right (by rw [vals_len]; omega), vals_len, vals_get m g _ (by omega), if_neg h]

/-- the block of v' is v's own, or a new one -/
def SameOrNew (w : World) (v v' : Value) : Prop := ∀ x ∈ v'.ownBlock.toList, x ∈ v.ownBlock.toList ∨ w.heap.size ≤ x

theorem RowF.of_row {w : World} {g : Nat} {E : TypeId} {n cap : Nat} {f : Nat → Value} {cur : Array Value} (h1 : w.heap[g]? = some (.cells cur E (0, 0))) (h2 : cur.size = cap) (h3 : n ≤ cap) (h4 : cap ≤ maxLen)
    (h5 : ∀ j, j < n → cur[j]? = some (f j)) : RowF w g E n cap f := ⟨cur, h1, h2, h3, h4, h5⟩

/-- what append does onto a slice of the call's own (one-cell elements), from a slice that reads -/
theorem run_app {P : Program} (w : World) (t ty E : TypeId) {z : Value} {bytes : Nat} (hinfo : (P.info? E).map (fun i => (i.zero, i.size, i.bytes)) = some (some z, 1, bytes)) (ht : P.underlying t = some (.slice E)) (hz : z.cells.size = 1)
    {v : Value} {n base : Nat} {f : Nat → Value} (hown : OwnF w base E v n f)
    {y : Value} {m : Nat} {g : Nat → Value} (hrd : RdF w y m g) (h1 : ∀ j, j < m → (g j).oneCell' = true)
    (h63 : n + m ≤ maxLen) (hbytes : (n + m) * bytes ≤ 140737488355328) (hbase : base ≤ w.heap.size) :
    ∃ v' w', (Builtin.append_ #[t, t] ty #[v, y]).run P w = .ok v' w' ∧ OwnF w' base E v' (n + m) (app n f g) ∧ Fr v.ownBlock.toList w w' ∧ SameOrNew w v v' := by
  obtain ⟨i, hi, hz0, hz1, hz2⟩ := info_parts hinfo
  rcases hrd with ⟨rfl, rfl⟩ | ⟨ad, c, rfl, hmc, hcm, hcell⟩
  · have hr := run_append_owned_none (P := P) w base t ty E i 1 ht hi v n _ hown.owns
    exact ⟨v, w, hr, hown.congr (fun j hj => by simp [app, hj]), Fr.refl _ _, fun x hx => .inl hx⟩
  have hnews : ∀ j u, (vals m g)[j]? = some u → w.cell? (ad.add j) = some u := fun j u hu => by
    obtain ⟨hj, rfl⟩ := vals_get' hu
    exact hcell j hj
  have hnl : (vals m g).length = m * i.size := by rw [vals_len, hz1]; omega
  have hsmall : n + m ≤ 9223372036854775807 := by unfold maxLen at h63; omega
  have hgrow : ∀ (old : Nat), old < n + m → ∀ S, OwnF (w.drew.alloc (.cells ((vals n f).toArray ++ (vals m g).toArray ++ Builtin.zeroCells z.cells (grownCap w (n + m) old E - (n + m))) E)) base E (.slice (some ⟨w.heap.size, 0, none⟩) (n + m) (grownCap w (n + m) old E)) (n + m) (app n f g) ∧
      Fr S w (w.drew.alloc (.cells ((vals n f).toArray ++ (vals m g).toArray ++ Builtin.zeroCells z.cells (grownCap w (n + m) old E - (n + m))) E)) := by
    intro old ho S
    have hge := grownCap_ge w (n + m) old E
    have hcm := grownCap_le_maxLen w (n + m) old E h63
    refine ⟨.inr ⟨w.heap.size, _, rfl, hbase, RowF.of_row (heap_alloc_new w.drew _) ?_ hge hcm fun j hj => ?_⟩, ((Fr.refl S w).drew).alloc _⟩
    · simp only [Array.size_append, List.size_toArray, size_zeroCells, hz, vals_len]
      omega
    · rw [Array.getElem?_append_left (by simp [vals_len]; omega), ← Array.getElem?_toList]
      have := app_get (f := f) (g := g) hj
      simpa using this
  rcases hown with ⟨rfl, rfl⟩ | ⟨g0, cap, rfl, hb, hrow⟩
  · by_cases hm : m = 0
    · subst hm
      refine ⟨.slice none 0 0, w, ?_, OwnF.nil _ _ _ _, Fr.refl _ _, fun x hx => .inl hx⟩
      simp [Builtin.append_, run_underlying ht, sizeOf, typeInfo, hi, Builtin.lenOf, Builtin.firstCells, loadCells, loadCellsFrom]
    · have hr := run_append_nil (P := P) w t ty E i z ht hi hz0 ad m c (vals m g) hnl hnews (by omega) (by omega) (by rw [hz2]; have hb2 := hbytes; simp only [Nat.zero_add] at hb2; omega)
      have hg := hgrow 0 (by omega) (Value.ownBlock (.slice none 0 0)).toList
      have e0 : (vals 0 f).toArray = #[] := rfl
      simp only [Nat.zero_add, e0, Array.empty_append] at hg ⊢
      exact ⟨_, _, hr, hg.1, hg.2, fun x hx => .inr (by simp [Value.ownBlock] at hx; omega)⟩
  · by_cases hroom : n + m ≤ cap
    · obtain ⟨cur, hcur, hcs, hnc, hcml, hcells⟩ := hrow
      have hfit : n * i.size + (vals m g).length ≤ cur.size := by rw [vals_len, hz1, hcs]; omega
      have h1' : ∀ u ∈ vals m g, u.oneCell' = true := fun u hu => by
        simp only [vals, List.mem_map, List.mem_range] at hu
        obtain ⟨j, hj, rfl⟩ := hu
        exact h1 j hj
      have hr := run_append_room (P := P) w t ty E i ht hi g0 n cap cur hcur ad m c (vals m g) hnl hnews h1' hroom hfit
      refine ⟨_, _, hr, .inr ⟨g0, cap, rfl, hb, RowF.of_row (setRow_heap w g0 cur _ E _ hcur) ?_ hroom hcml fun j hj => ?_⟩, ⟨rfl, rfl, rfl, by simp, fun k _ hn => setRow_other w g0 k _ (by simpa [Value.ownBlock] using hn)⟩, fun x hx => .inl (by simpa [Value.ownBlock] using hx)⟩
      · simp only [List.size_toArray, List.length_append, List.length_take, List.length_drop, Array.length_toList, vals_len, hz1]
        omega
      · have hlen : (cur.toList.take (n * i.size)).length = n := by rw [List.length_take, Array.length_toList, hz1]; omega
        have e : (cur.toList.take (n * i.size) ++ vals m g)[j]? = some (app n f g j) := by
          unfold app
          by_cases hjn : j < n
          · rw [if_pos hjn, List.getElem?_append_left (by omega), List.getElem?_take, if_pos (by rw [hz1]; omega), Array.getElem?_toList, hcells j hjn]
          · rw [if_neg hjn, List.getElem?_append_right (by omega), hlen, vals_get m g _ (by omega)]
        rw [← Array.getElem?_toList]
        simp only []
        rw [List.getElem?_append_left (by rw [List.length_append, hlen, vals_len]; omega)]
        exact e
    · have holds : ∀ j u, (vals n f)[j]? = some u → w.cell? ((⟨g0, 0, none⟩ : Addr).add j) = some u := fun j u hu => by
        obtain ⟨hj, rfl⟩ := vals_get' hu
        have e : (⟨g0, 0, none⟩ : Addr).add j = ⟨g0, j, none⟩ := by unfold Addr.add; split <;> simp_all
        rw [e]; exact hrow.cell j hj
      have hr := run_append_grow (P := P) w t ty E i z ht hi hz0 ⟨g0, 0, none⟩ n cap (vals n f) (by rw [vals_len, hz1]; omega) holds ad m c (vals m g) hnl hnews (by omega) (by omega) (growslice_fits (by omega) (by rw [hz2]; exact hbytes))
      have hg := hgrow cap (by omega) (Value.ownBlock (.slice (some ⟨g0, 0, none⟩) n cap)).toList
      exact ⟨_, _, hr, hg.1, hg.2, fun x hx => .inr (by simp [Value.ownBlock] at hx; omega)⟩

/-- append onto a slice of the call's own (one-cell elements), from a slice that reads. -/
theorem wpList_app {P : Program} {w : World} {ops : Array Oper} {rest : List Oper} {o : Oper} {a : Act} {Q : Exit → Act → World → Prop} (hgd : o.guard = none) (s x : Operand) (t : TypeId)
    (ho : o.op = .call { callee := .builtin .append, args := #[s, x], argTypes := #[t, t] })
    (E : TypeId) {z : Value} {bytes : Nat} (hinfo : (P.info? E).map (fun i => (i.zero, i.size, i.bytes)) = some (some z, 1, bytes)) (ht : P.underlying t = some (.slice E)) (hz : z.cells.size = 1)
    {v : Value} {n base : Nat} {f : Nat → Value} (hown : OwnF w base E v n f) (hs : a.eval s = v)
    {y : Value} {m : Nat} {g : Nat → Value} (hrd : RdF w y m g) (hx : a.eval x = y) (h1 : ∀ j, j < m → (g j).oneCell' = true)
    (h63 : n + m ≤ maxLen) (hbytes : (n + m) * bytes ≤ 140737488355328) (hbase : base ≤ w.heap.size)
    (h : ∀ v' w', OwnF w' base E v' (n + m) (app n f g) → Fr v.ownBlock.toList w w' → SameOrNew w v v' → wpList P ops Q rest (a.put o.dst v') w') : wpList P ops Q (o :: rest) a w := by
  obtain ⟨v', w', hr, h2, h3, h4⟩ := run_app (P := P) w t o.type E hinfo ht hz hown hrd h1 h63 hbytes hbase
  refine wpList_plain hgd fun _ hK => ?_
  unfold Oper.wp execOp
  simp only [ho, resolve, invoke, builtin, Sem.run_bind, Sem.run_pure, Result.andThen_ok, List.map_toArray, List.map_cons, List.map_nil, hs, hx, hr]
  exact hK _ _ (h v' w' h2 h3 h4)

/-- 'make([]T, n)' of one-cell elements: the row that it makes. -/
theorem run_mk {P : Program} (T E : TypeId) {z : Value} {bytes : Nat} (hinfo : (P.info? E).map (fun i => (i.zero, i.size, i.bytes)) = some (some z, 1, bytes)) (ht : P.underlying T = some (.slice E))
    (n : Nat) (hn : n * bytes ≤ 281474976710656) (hm : n ≤ maxLen) (u : World) :
    (Instr.makeSlice T (.int .i64 n) (.int .i64 n)).run P u = .ok (.slice (some ⟨u.heap.size, 0, none⟩) n n) (u.alloc (.cells (madeCells z.cells n) E)) := by
  obtain ⟨i, hi, hz0, hz1, hz2⟩ := info_parts hinfo
  have hb : (i.bytes : Int) * (n : Int) ≤ 281474976710656 := by
    rw [hz2, Int.mul_comm, ← Int.natCast_mul]
    omega
  have h := run_make (P := P) u T E i z ht hi hz0 .i64 .i64 (n : Int) (n : Int) (by omega) (Int.le_refl _) hb (by unfold maxLen at hm; omega)
  simpa [hz1] using h

theorem row_mk (u : World) (E : TypeId) (z : Value) (hz : z.cells = #[z]) (n : Nat) (hm : n ≤ maxLen) : RowF (u.alloc (.cells (madeCells z.cells n) E)) u.heap.size E n n (fun _ => z) := by
  refine ⟨_, heap_alloc_new u _, size_madeCells _ _, Nat.le_refl _, hm, fun j hj => ?_⟩
  have := toList_madeCells_one z n
  rw [hz, ← Array.getElem?_toList, this, List.getElem?_replicate, if_pos hj]

theorem OwnF.ge {w : World} {B : Nat} {E : TypeId} {v : Value} {n : Nat} {f : Nat → Value} (h : OwnF w B E v n f) : ∀ x ∈ v.ownBlock.toList, B ≤ x := by
  rcases h with ⟨rfl, _⟩ | ⟨g, cap, rfl, hb, _⟩
  · simp [Value.ownBlock]
  · simp [Value.ownBlock]; exact hb

theorem OwnF.lt {w : World} {B : Nat} {E : TypeId} {v : Value} {n : Nat} {f : Nat → Value} (h : OwnF w B E v n f) : ∀ x ∈ v.ownBlock.toList, x < w.heap.size := by
  rcases h with ⟨rfl, _⟩ | ⟨g, cap, rfl, hb, hr⟩
  · simp [Value.ownBlock]
  · simp [Value.ownBlock]; exact hr.lt

theorem OwnF.alloc {w : World} {B : Nat} {E : TypeId} {v : Value} {n : Nat} {f : Nat → Value} (h : OwnF w B E v n f) (o : Obj) : OwnF (w.alloc o) B E v n f := by
  rcases h with h | ⟨g, cap, rfl, hb, h⟩
  · exact .inl h
  · exact .inr ⟨g, cap, rfl, hb, h.kept ((Fr.refl [] w).alloc o) (by simp)⟩

theorem RowF.alloc {w : World} {g : Nat} {E : TypeId} {n cap : Nat} {f : Nat → Value} (h : RowF w g E n cap f) (o : Obj) : RowF (w.alloc o) g E n cap f := h.kept ((Fr.refl [] w).alloc o) (by simp)

/-- the slice of one that a call 'append(xs, x)' makes first -/
theorem rd_one (w : World) (x : Value) (E : TypeId) {b : Nat} (hb : w.heap.size = b) : RdF (w.alloc (.cells #[x] E)) (.slice (some ⟨b, 0, none⟩) 1 1) 1 (fun _ => x) :=
  .inr ⟨_, 1, rfl, Nat.le_refl _, by decide, fun j hj => by
    subst hb
    obtain rfl : j = 0 := by omega
    have h := heap_alloc_new w (.cells #[x] E)
    show (w.alloc (.cells #[x] E)).cell? ⟨w.heap.size, 0, none⟩ = some x
    rw [World.cell?, h]
    rfl⟩

theorem rd_two (w : World) (x y : Value) (E : TypeId) (f : Nat → Value) {b : Nat} (hb : w.heap.size = b) (h0 : f 0 = x) (h1 : f 1 = y) : RdF (w.alloc (.cells #[x, y] E)) (.slice (some ⟨b, 0, none⟩) 2 2) 2 f :=
  .inr ⟨_, 2, rfl, by decide, by decide, fun j hj => by
    subst hb
    match j, hj with
    | 0, _ => rw [h0]; exact blk_cell (heap_alloc_new w _) 0 rfl
    | 1, _ => rw [h1]; exact blk_cell (heap_alloc_new w _) 1 rfl⟩

theorem row_lit (w : World) (cs : Array Value) (E : TypeId) (n : Nat) (f : Nat → Value) (hs : cs.size = n) (hm : n ≤ maxLen) (hc : ∀ j, j < n → cs[j]? = some (f j)) : RowF (w.alloc (.cells cs E)) w.heap.size E n n f :=
  ⟨cs, heap_alloc_new w _, hs, Nat.le_refl _, hm, hc⟩

theorem Fr.app {W w w1 : World} {S : List Nat} {v : Value} (hf : Fr S W w) (o : Obj) (hf1 : Fr v.ownBlock.toList (w.alloc o) w1) (hv : ∀ x ∈ v.ownBlock.toList, W.heap.size ≤ x) : Fr S W w1 :=
  (hf.alloc o).trans hf1 fun x hx => .inr (hv x hx)

theorem RdF.zero {w : World} {v : Value} {f : Nat → Value} (h : RdF w v 0 f) (w' : World) (f' : Nat → Value) : RdF w' v 0 f' := by
  rcases h with h | ⟨a, cap, hv, h1, h2, _⟩
  · exact .inl h
  · exact .inr ⟨a, cap, hv, h1, h2, fun j hj => by omega⟩

theorem RdF.slice {w : World} {v : Value} {n : Nat} {f : Nat → Value} (h : RdF w v n f) : ∃ a c, v = .slice a n c := by
  rcases h with ⟨rfl, rfl⟩ | ⟨a, c, rfl, _⟩
  · exact ⟨_, _, rfl⟩
  · exact ⟨_, _, rfl⟩

theorem addr_add_add (a : Addr) (i j : Nat) : (a.add i).add j = a.add (i + j) := by
  unfold Addr.add
  by_cases hi : i = 0 <;> by_cases hj : j = 0 <;> simp [hi, hj, Nat.add_assoc]

/-- a part of what a slice reads as -/
theorem RdF.part {w : World} {a : Option Addr} {n c : Nat} {f : Nat → Value} (h : RdF w (.slice a n c) n f) (lo hi : Nat) (h1 : lo ≤ hi) (h2 : hi ≤ n) :
    RdF w (.slice (a.map (fun x => x.add lo)) (hi - lo) (c - lo)) (hi - lo) (fun j => f (lo + j)) := by
  rcases h with ⟨e, h0⟩ | ⟨ad, cap, e, h3, h4, h5⟩
  · simp only [Value.slice.injEq] at e
    obtain ⟨rfl, _, rfl⟩ := e
    have e1 : hi - lo = 0 := by omega
    rw [e1]
    exact .inl ⟨by simp, rfl⟩
  · simp only [Value.slice.injEq, true_and] at e
    obtain ⟨rfl, rfl⟩ := e
    exact .inr ⟨ad.add lo, c - lo, rfl, by omega, by omega, fun j hj => by rw [addr_add_add]; exact h5 (lo + j) (by omega)⟩

theorem RdF.empty {w : World} {a : Option Addr} {n c : Nat} {f : Nat → Value} (h : RdF w (.slice a n c) n f) (g : Nat → Value) : RdF w (.slice a 0 0) 0 g := by
  rcases h with ⟨e, h0⟩ | ⟨ad, cap, e, h3, h4, h5⟩
  · simp only [Value.slice.injEq] at e
    obtain ⟨rfl, _, rfl⟩ := e
    exact .inl ⟨rfl, rfl⟩
  · simp only [Value.slice.injEq, true_and] at e
    obtain ⟨rfl, rfl⟩ := e
    exact .inr ⟨ad, 0, rfl, Nat.le_refl _, by decide, fun j hj => by omega⟩

theorem RdF.le_cap {w : World} {a : Option Addr} {n c : Nat} {f : Nat → Value} (h : RdF w (.slice a n c) n f) : n ≤ c ∧ c ≤ maxLen := by
  rcases h with ⟨e, h0⟩ | ⟨ad, cap, e, h3, h4, h5⟩
  · simp only [Value.slice.injEq] at e
    obtain ⟨rfl, _, rfl⟩ := e
    exact ⟨by omega, by decide⟩
  · simp only [Value.slice.injEq, true_and] at e
    obtain ⟨rfl, rfl⟩ := e
    exact ⟨h3, h4⟩

end Go.Proofs.YtcfdlilhhfaaaaaDoor

namespace Go.Proofs.YtcfdlilhhfaaaaaDoor
open Go.ChangeShapes Go.WideShapes Go.ChangeAt Go.RowKit

section
variable {H : Type} {enc : TypeId × Value → H} {P : Program} {W : World} {base : Nat}

theorem arg_int {t : TypeId} {k : IntKind} {v : Value} {d : DataW H} {p : List MemPlace} (ht : P.underlying t = some (.int k)) (hok : Value.okWide P W .any base t v) (h : DataW.Trod enc P W 0 (fun _ => true) true t v d p) :
    ∃ x : Int, v = .int k x ∧ d = .lit (.int k x) ∧ (Lit.int k x).wf = true := by
  obtain ⟨x, rfl, rfl, _, hw⟩ := open_int ht hok h
  exact ⟨x, rfl, rfl, hw⟩

theorem bd_i64 {x : Int} (h : (Lit.int .i64 x).wf = true) : -9223372036854775808 ≤ x ∧ x ≤ 9223372036854775807 := by
  simpa [Lit.wf, IntKind.min, IntKind.max, IntKind.signed, IntKind.bits] using h

theorem bd_u8 {x : Int} (h : (Lit.int .u8 x).wf = true) : 0 ≤ x ∧ x ≤ 255 := by
  simpa [Lit.wf, IntKind.min, IntKind.max, IntKind.signed, IntKind.bits] using h

theorem arg_ints {t e : TypeId} {k : IntKind} {bytes : Nat} {v : Value} {d : DataW H} {p : List MemPlace} {ts : List TypeId} {ds : List (DataW H)} {j : Nat}
    (ht : P.underlying t = some (.slice e)) (he : P.underlying e = some (.int k)) (hc : P.cellsOf e = 1) (hb : P.bytesOf e = bytes)
    (hok : Value.okWide P W .any base t v) (h : DataW.Trod enc P W 0 (fun _ => true) true t v d p)
    (hsz : (DataW.weightsEach P ts ds).all (· ≤ reachBytes) = true) (hts : ts[j]? = some t) (hds : ds[j]? = some d) :
    ∃ (a : Option Addr) (n c : Nat) (f : Nat → Int), v = .slice a n c ∧ RdF W (.slice a n c) n (fun j => .int k (f j)) ∧ n * bytes ≤ 140737488351232 ∧ (∀ j, j < n → (Lit.int k (f j)).wf = true) ∧
      ((d = .nil ∧ n = 0) ∨ ∃ el sp, d = .slice el sp ∧ el.length = n) := by
  obtain ⟨a0, len0, cap0, rfl⟩ := okWide_slice ht hok
  obtain ⟨fuel, hf⟩ := h
  rcases open_ints ht he hc hf with ⟨hcs, hx⟩ | ⟨x, l, c, zs, hcs, _, hl, hm, hz, hx, hcell, hwz⟩
  · simp [Value.cells] at hcs
    obtain ⟨rfl, rfl, rfl⟩ := hcs
    obtain ⟨rfl, _⟩ := Prod.mk.inj hx
    exact ⟨none, 0, 0, fun _ => 0, rfl, .inl ⟨rfl, rfl⟩, by omega, fun j hj => by omega, .inl ⟨rfl, rfl⟩⟩
  · simp [Value.cells] at hcs
    obtain ⟨rfl, rfl, rfl⟩ := hcs
    obtain ⟨rfl, _⟩ := Prod.mk.inj hx
    have hz' : zs.length = cap0 := by simpa using hz
    have hs := sized_slice hsz hts hds ht
    rw [hb] at hs
    simp only [lits, List.length_map, List.length_take, List.length_drop, reachBytes] at hs
    have e1 : min len0 zs.length + (zs.length - len0) = cap0 := by omega
    rw [e1] at hs
    refine ⟨some x, len0, cap0, fun j => zs.getD j 0, rfl, .inr ⟨x, cap0, rfl, hl, hm, fun j hj => hcell j (by omega)⟩, Nat.le_trans (Nat.mul_le_mul_right _ hl) hs, fun j hj => ?_, .inr ⟨_, _, rfl, by simp [lits]; omega⟩⟩
    have hj' : j < zs.length := by omega
    have : zs.getD j 0 = zs[j] := by simp [List.getD, hj']
    show (Lit.int k (zs.getD j 0)).wf = true
    rw [this]
    exact hwz _ (List.getElem_mem hj')

/-- A slice of one-cell elements of whatever type: each element's value, and its own reading. -/
theorem arg_ones {t e : TypeId} {bytes : Nat} {v : Value} {d : DataW H} {p : List MemPlace} {ts : List TypeId} {ds : List (DataW H)} {j : Nat}
    (ht : P.underlying t = some (.slice e)) (hc : P.cellsOf e = 1) (hb : P.bytesOf e = bytes)
    (hok : Value.okWide P W .any base t v) (h : DataW.Trod enc P W 0 (fun _ => true) true t v d p)
    (hsz : (DataW.weightsEach P ts ds).all (· ≤ reachBytes) = true) (hts : ts[j]? = some t) (hds : ds[j]? = some d) :
    ∃ (a : Option Addr) (n c : Nat) (V : Nat → Value), v = .slice a n c ∧ RdF W (.slice a n c) n V ∧ n * bytes ≤ 140737488351232 ∧
      ((d = .nil ∧ n = 0) ∨ ∃ (m : Nat) (D : Nat → DataW H) (Pl : Nat → List MemPlace) (sp : List (DataW H)), d = .slice ((List.range n).map D) sp ∧ ∀ i, i < n → DataW.trod enc P W 0 (fun _ => true) true m e [V i] = some (D i, Pl i)) := by
  obtain ⟨a0, len0, cap0, rfl⟩ := okWide_slice ht hok
  obtain ⟨fuel, hf⟩ := h
  rcases Go.Deep.open_slice1 ht hc hf with ⟨hcs, hx⟩ | ⟨x, l, c, m, n, V, D, Pl, hcs, _, hl, hm, hmm, hx, hcell⟩
  · simp [Value.cells] at hcs
    obtain ⟨rfl, rfl, rfl⟩ := hcs
    obtain ⟨rfl, _⟩ := Prod.mk.inj hx
    exact ⟨none, 0, 0, fun _ => undef, rfl, .inl ⟨rfl, rfl⟩, by omega, .inl ⟨rfl, rfl⟩⟩
  · simp [Value.cells] at hcs
    obtain ⟨rfl, rfl, rfl⟩ := hcs
    obtain ⟨rfl, _⟩ := Prod.mk.inj hx
    have hmm' : m = cap0 := by simpa using hmm
    have hs := sized_slice hsz hts hds ht
    rw [hb] at hs
    simp only [List.length_map, List.length_range, reachBytes] at hs
    have e1 : len0 + (m - len0) = cap0 := by omega
    rw [e1] at hs
    exact ⟨some x, len0, cap0, V, rfl, .inr ⟨x, cap0, rfl, hl, hm, fun j hj => (hcell j (by omega)).1⟩, Nat.le_trans (Nat.mul_le_mul_right _ hl) hs, .inr ⟨n, D, Pl, _, rfl, fun i hi => (hcell i (by omega)).2⟩⟩

def boolOf : Value → Bool
  | .bool b => b
  | _ => false

theorem arg_bools {t e : TypeId} {v : Value} {d : DataW H} {p : List MemPlace} {ts : List TypeId} {ds : List (DataW H)} {j : Nat}
    (ht : P.underlying t = some (.slice e)) (he : P.underlying e = some .bool) (hc : P.cellsOf e = 1) (hb : P.bytesOf e = 1)
    (hok : Value.okWide P W .any base t v) (h : DataW.Trod enc P W 0 (fun _ => true) true t v d p)
    (hsz : (DataW.weightsEach P ts ds).all (· ≤ reachBytes) = true) (hts : ts[j]? = some t) (hds : ds[j]? = some d) :
    ∃ (a : Option Addr) (n c : Nat) (f : Nat → Bool), v = .slice a n c ∧ RdF W (.slice a n c) n (fun j => .bool (f j)) ∧ n ≤ 140737488351232 := by
  obtain ⟨a, n, c, V, rfl, hr, hs, hd⟩ := arg_ones ht hc hb hok h hsz hts hds
  refine ⟨a, n, c, fun j => boolOf (V j), rfl, hr.congr fun i hi => ?_, by omega⟩
  rcases hd with ⟨_, h0⟩ | ⟨m, D, Pl, sp, _, hD⟩
  · omega
  · obtain ⟨b, hb2, _⟩ := DataW.trod_bool he (hD i hi)
    have e2 : V i = .bool b := by simpa using hb2
    show V i = .bool (boolOf (V i))
    rw [e2]
    rfl

end

theorem own : ownKnob Tryd.prog.godebug = none := by kernel_rfl
theorem laidOut : laidOutB Tryd.prog = true := by kernel_rfl

end Go.Proofs.YtcfdlilhhfaaaaaDoor

namespace Go.Proofs.YtcfdlilhhfaaaaaDoor
open Go.ChangeShapes Go.WideShapes Go.ChangeAt Go.RowKit

theorem bulk_one {H : Type} (d : DataW H) : 1 ≤ Rows.uptoBulk d := by
  cases d with
  | lit l => cases l <;> simp [Rows.uptoBulk]
  | _ => simp [Rows.uptoBulk]

theorem bulk_app {H : Type} (l r : List (DataW H)) : Rows.uptoBulkAll (l ++ r) = Rows.uptoBulkAll l + Rows.uptoBulkAll r := by
  induction l with
  | nil => simp [Rows.uptoBulkAll]
  | cons x l ih => simp only [List.cons_append, Rows.uptoBulkAll, ih]; omega

theorem bulk_len {H : Type} (l : List (DataW H)) : l.length ≤ Rows.uptoBulkAll l := by
  induction l with
  | nil => simp [Rows.uptoBulkAll]
  | cons x r ih => have := bulk_one x; simp only [Rows.uptoBulkAll, List.length_cons]; omega

theorem bulk_slice {H : Type} (el sp : List (DataW H)) : el.length + 1 ≤ Rows.uptoBulk (.slice el sp) ∧ Rows.uptoBulkAll el + 1 ≤ Rows.uptoBulk (.slice el sp) := by
  have h1 := bulk_len el
  simp only [Rows.uptoBulk]
  omega

theorem bulk_bound {H : Type} {l : List (DataW H)} (hk : Rows.uptoSmall H l = true) : Rows.uptoBulkAll l ≤ 1048576 := by
  simpa [Rows.uptoSmall] using hk

/-- the bulk of an integers' slice, as 'arg_ints' hands its shape on -/
theorem bulk_ints {H : Type} {d : DataW H} {n : Nat} (h : (d = .nil ∧ n = 0) ∨ ∃ el sp, d = .slice el sp ∧ el.length = n) : n + 1 ≤ Rows.uptoBulk d := by
  rcases h with ⟨rfl, rfl⟩ | ⟨el, sp, rfl, rfl⟩
  · simp [Rows.uptoBulk]
  · exact (bulk_slice el sp).1

/-- the rows' lengths, one more each -/
def sm (L : Nat → Nat) : Nat → Nat
  | 0 => 0
  | i + 1 => sm L i + (L i + 1)

theorem sm_le (L : Nat → Nat) {i k : Nat} (h : i ≤ k) : sm L i ≤ sm L k := by
  induction k with
  | zero => rw [show i = 0 by omega]; exact Nat.le_refl _
  | succ k ih =>
    by_cases hik : i = k + 1
    · rw [hik]; exact Nat.le_refl _
    · have := ih (by omega); simp only [sm]; omega

section
variable {H : Type} {enc : TypeId × Value → H} {P : Program} {W : World} {base : Nat}

theorem sm_bulk {L : Nat → Nat} {D : Nat → DataW H} (n : Nat) (h : ∀ i, i < n → L i + 1 ≤ Rows.uptoBulk (D i)) : sm L n ≤ Rows.uptoBulkAll ((List.range n).map D) := by
  induction n with
  | zero => simp [sm]
  | succ n ih =>
    rw [List.range_succ, List.map_append, bulk_app]
    have h1 := ih fun i hi => h i (by omega)
    have h2 := h n (by omega)
    simp only [sm, List.map_cons, List.map_nil, Rows.uptoBulkAll]
    omega

theorem el_ints {e g : TypeId} {k : IntKind} {v : Value} {d : DataW H} {p : List MemPlace} {m : Nat}
    (ht : P.underlying e = some (.slice g)) (he : P.underlying g = some (.int k)) (hc : P.cellsOf g = 1) (h : DataW.trod enc P W 0 (fun _ => true) true m e [v] = some (d, p)) :
    ∃ (a : Option Addr) (n c : Nat) (f : Nat → Int), v = .slice a n c ∧ RdF W (.slice a n c) n (fun j => .int k (f j)) ∧ (∀ j, j < n → (Lit.int k (f j)).wf = true) ∧ n + 1 ≤ Rows.uptoBulk d ∧ (n = 0 ∨ ∃ x ∈ d.weights P e, n * P.bytesOf g ≤ x) := by
  rcases open_ints ht he hc h with ⟨hcs, hx⟩ | ⟨x, l, c, zs, hcs, _, hl, hm, hz, hx, hcell, hwz⟩
  · obtain rfl : v = .slice none 0 0 := by simpa using hcs
    obtain ⟨rfl, _⟩ := Prod.mk.inj hx
    exact ⟨none, 0, 0, fun _ => 0, rfl, .inl ⟨rfl, rfl⟩, fun j hj => by omega, by simp [Rows.uptoBulk], .inl rfl⟩
  · obtain rfl : v = .slice (some x) l c := by simpa using hcs
    obtain ⟨rfl, _⟩ := Prod.mk.inj hx
    have hz' : zs.length = c := by simpa using hz
    refine ⟨some x, l, c, fun j => zs.getD j 0, rfl, .inr ⟨x, c, rfl, hl, hm, fun j hj => hcell j (by omega)⟩, fun j hj => ?_, ?_, .inr ⟨c * P.bytesOf g, ?_, Nat.mul_le_mul_right _ hl⟩⟩
    · have hj' : j < zs.length := by omega
      have : zs.getD j 0 = zs[j] := by simp [List.getD, hj']
      show (Lit.int k (zs.getD j 0)).wf = true
      rw [this]
      exact hwz _ (List.getElem_mem hj')
    · have h1 := (bulk_slice (lits (H := H) k (zs.take l)) (lits k (zs.drop l))).1
      have h2 : (lits (H := H) k (zs.take l)).length = l := by simp [lits]; omega
      omega
    · simp only [DataW.weights, ht, List.mem_cons]
      left
      have h2 : (lits (H := H) k (zs.take l)).length = l := by simp [lits]; omega
      have h3 : (lits (H := H) k (zs.drop l)).length = c - l := by simp [lits]; omega
      rw [h2, h3, show l + (c - l) = c by omega]

theorem weights_all {e : TypeId} {l : List (DataW H)} {d : DataW H} (h : d ∈ l) {x : Nat} (hx : x ∈ d.weights P e) : x ∈ DataW.weightsAll P e l := by
  induction l with
  | nil => cases h
  | cons a l ih =>
    simp only [DataW.weightsAll, List.mem_append]
    rcases List.mem_cons.1 h with rfl | h
    · exact .inl hx
    · exact .inr (ih h)

/-- A slice of slices of integers. -/
theorem arg_rows {t e g : TypeId} {k : IntKind} {bytes : Nat} {v : Value} {d : DataW H} {p : List MemPlace} {ts : List TypeId} {ds : List (DataW H)} {j : Nat}
    (ht : P.underlying t = some (.slice e)) (hc : P.cellsOf e = 1) (hb : P.bytesOf e = bytes)
    (hte : P.underlying e = some (.slice g)) (hg : P.underlying g = some (.int k)) (hcg : P.cellsOf g = 1)
    (hok : Value.okWide P W .any base t v) (h : DataW.Trod enc P W 0 (fun _ => true) true t v d p)
    (hsz : (DataW.weightsEach P ts ds).all (· ≤ reachBytes) = true) (hts : ts[j]? = some t) (hds : ds[j]? = some d) :
    ∃ (a : Option Addr) (n c : Nat) (V : Nat → Value) (A : Nat → Option Addr) (L C : Nat → Nat) (F : Nat → Nat → Int), v = .slice a n c ∧ RdF W (.slice a n c) n V ∧ n * bytes ≤ 140737488351232 ∧
      (∀ i, i < n → V i = .slice (A i) (L i) (C i)) ∧ (∀ i, i < n → RdF W (.slice (A i) (L i) (C i)) (L i) (fun j => .int k (F i j))) ∧ (∀ i j, i < n → j < L i → (Lit.int k (F i j)).wf = true) ∧
      (∀ i, n ≤ i → L i = 0) ∧ n + 1 ≤ Rows.uptoBulk d ∧ sm L n + 1 ≤ Rows.uptoBulk d ∧ ∀ i, i < n → L i * P.bytesOf g ≤ 140737488351232 := by
  obtain ⟨a, n, c, V, rfl, hr, hs, hd⟩ := arg_ones ht hc hb hok h hsz hts hds
  rcases hd with ⟨rfl, rfl⟩ | ⟨m, D, Pl, sp, rfl, hD⟩
  · exact ⟨a, 0, c, V, fun _ => none, fun _ => 0, fun _ => 0, fun _ _ => 0, rfl, hr, hs, fun i hi => by omega, fun i hi => by omega, fun i j hi => by omega, fun _ _ => rfl, by simp [Rows.uptoBulk], by simp [Rows.uptoBulk, sm], fun i hi => by omega⟩
  · have hex : ∀ i : Nat, ∃ q : Option Addr × Nat × Nat × (Nat → Int), (i < n → V i = .slice q.1 q.2.1 q.2.2.1 ∧ RdF W (.slice q.1 q.2.1 q.2.2.1) q.2.1 (fun j => .int k (q.2.2.2 j)) ∧ (∀ j, j < q.2.1 → (Lit.int k (q.2.2.2 j)).wf = true) ∧ q.2.1 + 1 ≤ Rows.uptoBulk (D i) ∧ q.2.1 * P.bytesOf g ≤ 140737488351232) ∧ (n ≤ i → q.2.1 = 0) := by
      intro i
      by_cases hi : i < n
      · obtain ⟨a1, n1, c1, f1, e1, e2, e3, e4, e5⟩ := el_ints hte hg hcg (hD i hi)
        refine ⟨(a1, n1, c1, f1), fun _ => ⟨e1, e2, e3, e4, ?_⟩, fun h => by omega⟩
        rcases e5 with rfl | ⟨x, hx, hle⟩
        · simp
        · refine Nat.le_trans hle ?_
          have hm : x ∈ (DataW.slice ((List.range n).map D) sp).weights P t := by
            simp only [DataW.weights, ht, List.mem_cons, List.mem_append]
            exact .inr (.inl (weights_all (List.mem_map.2 ⟨i, List.mem_range.2 hi, rfl⟩) hx))
          have := List.all_eq_true.1 hsz _ (DataW.weights_mem_each hts hds x hm)
          simpa [reachBytes] using of_decide_eq_true this
      · exact ⟨(none, 0, 0, fun _ => 0), fun h => by omega, fun _ => rfl⟩
    obtain ⟨Q, hQ⟩ := Classical.skolem.1 hex
    have hb1 := bulk_slice ((List.range n).map D) sp
    have hb2 := sm_bulk (L := fun i => (Q i).2.1) (D := D) n (fun i hi => ((hQ i).1 hi).2.2.2.1)
    refine ⟨a, n, c, V, fun i => (Q i).1, fun i => (Q i).2.1, fun i => (Q i).2.2.1, fun i => (Q i).2.2.2, rfl, hr, hs, fun i hi => ((hQ i).1 hi).1, fun i hi => ((hQ i).1 hi).2.1, fun i j hi hj => ((hQ i).1 hi).2.2.1 j hj, fun i hi => (hQ i).2 hi, ?_, by omega, fun i hi => ((hQ i).1 hi).2.2.2.2⟩
    have := hb1.1
    simp at this
    omega

end
end Go.Proofs.YtcfdlilhhfaaaaaDoor

namespace Go.Proofs.YtcfdlilhhfaaaaaDoor
open Go.RowKit

theorem wraps_i64 (n : Int) (h0 : 0 ≤ n) (h1 : n < 2 ^ 62) : IntKind.i64.wrap n = n := by rw [IntKind.wrap_i64]; omega

theorem or_two {x y : Int} (h0 : 0 ≤ x) (h1 : x ≤ 255) (h2 : 0 ≤ y) (h3 : y ≤ 255) : bits .or .i64 (x * 256) y = x * 256 + y :=
  bits_join .i64 62 (by decide) wraps_i64 8 _ _ (by omega) (by omega) (by omega) h2 (by omega) (by omega)

theorem or_four {x y : Int} (h0 : 0 ≤ x) (h1 : x ≤ 65535) (h2 : 0 ≤ y) (h3 : y ≤ 65535) : bits .or .i64 (x * 65536) y = x * 65536 + y :=
  bits_join .i64 62 (by decide) wraps_i64 16 _ _ (by omega) (by omega) (by omega) h2 (by omega) (by omega)

theorem and_255 {x : Int} (h0 : 0 ≤ x) (h1 : x ≤ 4294967295) : bits .and .i64 x 255 = x % 256 :=
  bits_mask .i64 62 (by decide) wraps_i64 8 (by decide) x h0 (by omega)
theorem and_1 {x : Int} (h0 : 0 ≤ x) (h1 : x ≤ 4294967295) : bits .and .i64 x 1 = x % 2 :=
  bits_mask .i64 62 (by decide) wraps_i64 1 (by decide) x h0 (by omega)
theorem and_15 {x : Int} (h0 : 0 ≤ x) (h1 : x ≤ 4294967295) : bits .and .i64 x 15 = x % 16 :=
  bits_mask .i64 62 (by decide) wraps_i64 4 (by decide) x h0 (by omega)
theorem and_63 {x : Int} (h0 : 0 ≤ x) (h1 : x ≤ 4294967295) : bits .and .i64 x 63 = x % 64 :=
  bits_mask .i64 62 (by decide) wraps_i64 6 (by decide) x h0 (by omega)
theorem and_32767 {x : Int} (h0 : 0 ≤ x) (h1 : x ≤ 4294967295) : bits .and .i64 x 32767 = x % 32768 :=
  bits_mask .i64 62 (by decide) wraps_i64 15 (by decide) x h0 (by omega)

end Go.Proofs.YtcfdlilhhfaaaaaDoor

namespace Go.Proofs.YtcfdlilhhfaaaaaDoor
open Go.RowKit

/-- the cells, one behind the other -/
def fls (s : Nat) (F : Nat → Nat → Value) (c : Nat) : Value := F (c / s) (c % s)

theorem fls_at {s : Nat} {F : Nat → Nat → Value} {i c : Nat} (hc : c < s) : fls s F (i * s + c) = F i c := by
  unfold fls
  rw [Nat.mul_comm, Nat.mul_add_div (by omega), Nat.div_eq_of_lt hc, Nat.add_zero, Nat.mul_add_mod, Nat.mod_eq_of_lt hc]

theorem div_lt' {s n c : Nat} (hc : c < n * s) : c / s < n := by
  rw [Nat.div_lt_iff_lt_mul (by rcases Nat.eq_zero_or_pos s with h | h; subst h; simp at hc; exact h)]
  exact hc

theorem fls_congr {s n : Nat} {F G : Nat → Nat → Value} (hs : 0 < s) (h : ∀ i c, i < n → c < s → F i c = G i c) (c : Nat) (hc : c < n * s) : fls s F c = fls s G c := by
  unfold fls
  exact h _ _ (div_lt' hc) (Nat.mod_lt _ hs)

/-- A row of the call's own: n of its cap elements (s cells each, of type E) hold F 0, F 1, .. -/
def RowC (w : World) (g : Nat) (E : TypeId) (s n cap : Nat) (F : Nat → Nat → Value) : Prop :=
  ∃ cur, w.heap[g]? = some (.cells cur E (0, 0)) ∧ cur.size = cap * s ∧ n ≤ cap ∧ cap ≤ maxLen ∧ ∀ j, j < n * s → cur[j]? = some (fls s F j)

section
variable {w w' : World} {g : Nat} {E : TypeId} {s n cap : Nat} {F : Nat → Nat → Value}
theorem RowC.lt (h : RowC w g E s n cap F) : g < w.heap.size := by obtain ⟨cur, h1, _⟩ := h; exact lt_of_blk h1
theorem RowC.le (h : RowC w g E s n cap F) : n ≤ cap := by obtain ⟨cur, _, _, h1, _⟩ := h; exact h1
theorem RowC.cap_le (h : RowC w g E s n cap F) : cap ≤ maxLen := by obtain ⟨cur, _, _, _, h1, _⟩ := h; exact h1
theorem mul_in {s n i c : Nat} (hi : i < n) (hc : c < s) : i * s + c < n * s := by
  have : (i + 1) * s ≤ n * s := Nat.mul_le_mul_right _ (by omega)
  rw [Nat.add_mul] at this
  omega
theorem RowC.cell (h : RowC w g E s n cap F) (i c : Nat) (hi : i < n) (hc : c < s) : w.cell? ⟨g, i * s + c, none⟩ = some (F i c) := by
  obtain ⟨cur, h1, h2, h3, h4, h5⟩ := h
  have e := h5 (i * s + c) (mul_in hi hc)
  rw [fls_at hc] at e
  simp [World.cell?, h1, e]
theorem RowC.frozen (h : RowC w g E s n cap F) (j : Nat) : w.frozen? ⟨g, j, none⟩ = false := by
  obtain ⟨cur, h1, h2, h3, h4, h5⟩ := h
  simp [World.frozen?, h1]
theorem RowC.congr (h : RowC w g E s n cap F) (hs : 0 < s) {G : Nat → Nat → Value} (he : ∀ i c, i < n → c < s → F i c = G i c) : RowC w g E s n cap G := by
  obtain ⟨cur, h1, h2, h3, h4, h5⟩ := h
  exact ⟨cur, h1, h2, h3, h4, fun j hj => by rw [h5 j hj, fls_congr hs he j hj]⟩
theorem RowC.of_block (h : RowC w g E s n cap F) (hb : w'.heap[g]? = w.heap[g]?) : RowC w' g E s n cap F := by
  obtain ⟨cur, h1, h2⟩ := h
  exact ⟨cur, hb.trans h1, h2⟩
theorem RowC.kept {S : List Nat} (h : RowC w g E s n cap F) (hf : Fr S w w') (hn : g ∉ S) : RowC w' g E s n cap F := h.of_block (hf.block g h.lt hn)
theorem RowC.take (h : RowC w g E s n cap F) (m : Nat) (hm : m ≤ n) : RowC w g E s m cap F := by
  obtain ⟨cur, h1, h2, h3, h4, h5⟩ := h
  exact ⟨cur, h1, h2, by omega, h4, fun j hj => h5 j (Nat.lt_of_lt_of_le hj (Nat.mul_le_mul_right _ hm))⟩
end

/-- The slice value v of n elements reads as F 0, F 1, .. in w. -/
def RdC (w : World) (v : Value) (s n : Nat) (F : Nat → Nat → Value) : Prop :=
  (v = .slice none 0 0 ∧ n = 0) ∨ ∃ a cap, v = .slice (some a) n cap ∧ n ≤ cap ∧ cap ≤ maxLen ∧ ∀ j, j < n * s → w.cell? (a.add j) = some (fls s F j)

section
variable {w w' : World} {v : Value} {s n : Nat} {F : Nat → Nat → Value}
theorem RdC.shape (h : RdC w v s n F) (hn : 0 < n) (hs : 0 < s) :
    ∃ b o cap, v = .slice (some ⟨b, o, none⟩) n cap ∧ n ≤ cap ∧ cap ≤ maxLen ∧ b < w.heap.size ∧ ∀ i c, i < n → c < s → w.cell? ⟨b, o + i * s + c, none⟩ = some (F i c) := by
  rcases h with ⟨_, h0⟩ | ⟨a, cap, hv, h1, h2, h3⟩
  · omega
  · obtain ⟨b, o, t⟩ := a
    have hc := h3 0 (Nat.mul_pos hn hs)
    have ht : t = none := by simpa [Addr.add] using World.cell?_spot hc
    subst ht
    have hat : ∀ j, (⟨b, o, none⟩ : Addr).add j = ⟨b, o + j, none⟩ := fun j => by unfold Addr.add; split <;> simp_all
    refine ⟨b, o, cap, hv, h1, h2, ?_, fun i c hi hc2 => ?_⟩
    · have := World.block_lt_of_cell? w _ hc
      simpa [Addr.add] using this
    · have e := h3 (i * s + c) (mul_in hi hc2)
      rw [fls_at hc2, hat] at e
      rw [Nat.add_assoc]
      exact e

theorem RdC.kept (h : RdC w v s n F) (hk : ∀ a u, w.cell? a = some u → w'.cell? a = some u) : RdC w' v s n F := by
  rcases h with h | ⟨a, cap, hv, h1, h2, h3⟩
  · exact .inl h
  · exact .inr ⟨a, cap, hv, h1, h2, fun j hj => hk _ _ (h3 j hj)⟩

theorem RdC.fr (h : RdC w v s n F) (hk : Fr [] w w') : RdC w' v s n F := h.kept fun _ _ hu => hk.cell hu (by simp)

/-- kept while other blocks are written -/
theorem RdC.frs {S : List Nat} (h : RdC w v s n F) (hs : 0 < s) (hk : Fr S w w') (hn : ∀ b o c, 0 < n → v = .slice (some ⟨b, o, none⟩) n c → b ∉ S) : RdC w' v s n F := by
  by_cases h0 : n = 0
  · subst h0
    rcases h with h | ⟨a, cap, hv, h1, h2, h3⟩
    · exact .inl h
    · exact .inr ⟨a, cap, hv, h1, h2, fun j hj => by simp at hj⟩
  · obtain ⟨b, o, cap, hv, h1, h2, h3, h4⟩ := h.shape (by omega) hs
    refine .inr ⟨⟨b, o, none⟩, cap, hv, h1, h2, fun j hj => ?_⟩
    have e : (⟨b, o, none⟩ : Addr).add j = ⟨b, o + j, none⟩ := by unfold Addr.add; split <;> simp_all
    rw [e]
    have h5 := hk.cell (h4 (j / s) (j % s) (div_lt' hj) (Nat.mod_lt _ hs)) (hn b o cap (by omega) hv)
    have e2 : j / s * s + j % s = j := by rw [Nat.mul_comm]; exact Nat.div_add_mod j s
    rw [Nat.add_assoc, e2] at h5
    exact h5

theorem RdC.congr (h : RdC w v s n F) (hs : 0 < s) {G : Nat → Nat → Value} (he : ∀ i c, i < n → c < s → F i c = G i c) : RdC w v s n G := by
  rcases h with h | ⟨a, cap, hv, h1, h2, h3⟩
  · exact .inl h
  · exact .inr ⟨a, cap, hv, h1, h2, fun j hj => by rw [h3 j hj, fls_congr hs he j hj]⟩

theorem RdC.slice (h : RdC w v s n F) : ∃ a c, v = .slice a n c := by
  rcases h with ⟨rfl, rfl⟩ | ⟨a, c, rfl, _⟩
  · exact ⟨_, _, rfl⟩
  · exact ⟨_, _, rfl⟩
end

theorem RdC.part {w : World} {a : Option Addr} {s n c : Nat} {F : Nat → Nat → Value} (h : RdC w (.slice a n c) s n F) (hs : 0 < s) (lo hi : Nat) (h1 : lo ≤ hi) (h2 : hi ≤ n) :
    RdC w (.slice (a.map (fun x => x.add (lo * s))) (hi - lo) (c - lo)) s (hi - lo) (fun j => F (lo + j)) := by
  rcases h with ⟨e, h0⟩ | ⟨ad, cap, e, h3, h4, h5⟩
  · simp only [Value.slice.injEq] at e
    obtain ⟨rfl, _, rfl⟩ := e
    have e1 : hi - lo = 0 := by omega
    rw [e1]
    exact .inl ⟨by simp, rfl⟩
  · simp only [Value.slice.injEq, true_and] at e
    obtain ⟨rfl, rfl⟩ := e
    refine .inr ⟨ad.add (lo * s), c - lo, rfl, by omega, by omega, fun j hj => ?_⟩
    have hlt : lo * s + j < n * s := by
      have : lo * s + (hi - lo) * s = hi * s := by rw [← Nat.add_mul]; congr 1; omega
      have : hi * s ≤ n * s := Nat.mul_le_mul_right _ h2
      omega
    rw [addr_add_add, h5 (lo * s + j) hlt]
    unfold fls
    rw [Nat.mul_comm lo s, Nat.mul_add_div hs, Nat.mul_add_mod]

theorem RdC.upto {w : World} {a : Option Addr} {s n c : Nat} {F : Nat → Nat → Value} (h : RdC w (.slice a n c) s n F) (k : Nat) (hk : k ≤ n) : RdC w (.slice a k c) s k F := by
  rcases h with ⟨e, h0⟩ | ⟨ad, cap, e, h3, h4, h5⟩
  · simp only [Value.slice.injEq] at e
    obtain ⟨rfl, _, rfl⟩ := e
    rw [show k = 0 by omega]
    exact .inl ⟨rfl, rfl⟩
  · simp only [Value.slice.injEq, true_and] at e
    obtain ⟨rfl, rfl⟩ := e
    exact .inr ⟨ad, c, rfl, by omega, h4, fun j hj => h5 j (Nat.lt_of_lt_of_le hj (Nat.mul_le_mul_right _ hk))⟩

theorem RowC.rd {w : World} {g : Nat} {E : TypeId} {s n cap : Nat} {F : Nat → Nat → Value} (h : RowC w g E s n cap F) : RdC w (.slice (some ⟨g, 0, none⟩) n cap) s n F := by
  obtain ⟨cur, h1, h2, h3, h4, h5⟩ := h
  refine .inr ⟨_, cap, rfl, h3, h4, fun j hj => ?_⟩
  have e : (⟨g, 0, none⟩ : Addr).add j = ⟨g, j, none⟩ := by unfold Addr.add; split <;> simp_all
  rw [e]
  simp [World.cell?, h1, h5 j hj]

/-- v is nil and empty, or a row of its own from block B on, that holds F 0, F 1, .. -/
def OwnC (w : World) (B : Nat) (E : TypeId) (v : Value) (s n : Nat) (F : Nat → Nat → Value) : Prop :=
  (v = .slice none 0 0 ∧ n = 0) ∨ ∃ g cap, v = .slice (some ⟨g, 0, none⟩) n cap ∧ B ≤ g ∧ RowC w g E s n cap F

section
variable {w w' : World} {B : Nat} {E : TypeId} {v : Value} {s n : Nat} {F : Nat → Nat → Value}
theorem OwnC.rd (h : OwnC w B E v s n F) : RdC w v s n F := by
  rcases h with h | ⟨g, cap, rfl, _, h⟩
  · exact .inl h
  · exact h.rd
theorem OwnC.nil (w : World) (B : Nat) (E : TypeId) (s : Nat) (F : Nat → Nat → Value) : OwnC w B E (.slice none 0 0) s 0 F := .inl ⟨rfl, rfl⟩
theorem OwnC.row (h : OwnC w B E v s n F) (hn : 0 < n) : ∃ g cap, v = .slice (some ⟨g, 0, none⟩) n cap ∧ B ≤ g ∧ RowC w g E s n cap F := by
  rcases h with ⟨_, h⟩ | h
  · omega
  · exact h
theorem OwnC.kept {S : List Nat} (h : OwnC w B E v s n F) (hf : Fr S w w') (hS : ∀ g, v.ownBlock = some g → g ∉ S) : OwnC w' B E v s n F := by
  rcases h with h | ⟨g, cap, rfl, hb, h⟩
  · exact .inl h
  · exact .inr ⟨g, cap, rfl, hb, h.kept hf (hS g rfl)⟩
theorem OwnC.congr (h : OwnC w B E v s n F) (hs : 0 < s) {G : Nat → Nat → Value} (he : ∀ i c, i < n → c < s → F i c = G i c) : OwnC w B E v s n G := by
  rcases h with h | ⟨g, cap, rfl, hb', h⟩
  · exact .inl h
  · exact .inr ⟨g, cap, rfl, hb', h.congr hs he⟩
theorem OwnC.mono {B' : Nat} (h : OwnC w B E v s n F) (hb : B' ≤ B) : OwnC w B' E v s n F := by
  rcases h with h | ⟨g, cap, rfl, hb', h⟩
  · exact .inl h
  · exact .inr ⟨g, cap, rfl, Nat.le_trans hb hb', h⟩
theorem OwnC.ge (h : OwnC w B E v s n F) : ∀ x ∈ v.ownBlock.toList, B ≤ x := by
  rcases h with ⟨rfl, _⟩ | ⟨g, cap, rfl, hb, _⟩
  · simp [Value.ownBlock]
  · simp [Value.ownBlock]; exact hb
theorem OwnC.lt (h : OwnC w B E v s n F) : ∀ x ∈ v.ownBlock.toList, x < w.heap.size := by
  rcases h with ⟨rfl, _⟩ | ⟨g, cap, rfl, hb, hr⟩
  · simp [Value.ownBlock]
  · simp [Value.ownBlock]; exact hr.lt
theorem OwnC.apart {T : TypeId} {q : Nat} {cs : Array Value} (h : OwnC w B E v s n F) (hp : w.heap[q]? = some (.cells cs T (0, 0))) (hT : E ≠ T) : q ∉ v.ownBlock.toList := by
  rcases h with ⟨rfl, _⟩ | ⟨g, cap, rfl, hb, cur, h1, _⟩
  · simp [Value.ownBlock]
  · simp only [Value.ownBlock, Option.toList, List.mem_singleton]
    intro e
    subst e
    rw [hp] at h1
    simp only [Option.some.injEq, Obj.cells.injEq] at h1
    exact hT h1.2.1.symm
theorem OwnC.owns (h : OwnC w B E v s n F) : w.ownsRow B E s v n (vals (n * s) (fls s F)) := by
  rcases h with ⟨rfl, rfl⟩ | ⟨g, cap, rfl, hb, cur, h1, h2, h3, h4, h5⟩
  · rw [Nat.zero_mul]; exact World.ownsRow_nil _ _ _ _
  · refine ⟨by rw [vals_len], .inr ⟨g, cap, cur, rfl, hb, h1, h3, h4, by omega, ?_⟩⟩
    apply List.ext_getElem?
    intro j
    by_cases hj : j < n * s
    · rw [List.getElem?_take, if_pos hj, vals_get _ _ j hj, Array.getElem?_toList, h5 j hj]
    · rw [List.getElem?_take, if_neg hj, List.getElem?_eq_none (by rw [vals_len]; omega)]
end

/-- F's first n, then G's. -/
def appC (n : Nat) (F G : Nat → Nat → Value) (j : Nat) : Nat → Value := if j < n then F j else G (j - n)

theorem appC_get {s n m : Nat} (hs : 0 < s) {F G : Nat → Nat → Value} {j : Nat} (hj : j < (n + m) * s) : (vals (n * s) (fls s F) ++ vals (m * s) (fls s G))[j]? = some (fls s (appC n F G) j) := by
  rw [Nat.add_mul] at hj
  rw [app_get (n := n * s) (m := m * s) hj]
  unfold app fls appC
  by_cases h : j < n * s
  · rw [if_pos h, if_pos (div_lt' h)]
  · have hge : n * s ≤ j := by omega
    have hd : ¬ j / s < n := by
      intro hlt
      have := (Nat.div_lt_iff_lt_mul hs).1 hlt
      omega
    rw [if_neg h, if_neg hd]
    have e1 : (j - n * s) / s = j / s - n := by rw [Nat.mul_comm, Nat.sub_mul_div_of_le _ _ _ (by rw [Nat.mul_comm]; exact hge)]
    have e2 : (j - n * s) % s = j % s := by
      have : j = (j - n * s) + n * s := by omega
      conv => rhs; rw [this, Nat.add_mul_mod_self_right]
    rw [e1, e2]

end Go.Proofs.YtcfdlilhhfaaaaaDoor

namespace Go.Proofs.YtcfdlilhhfaaaaaDoor
open Go.RowKit

/-- what append does onto a slice of the call's own whose elements are s cells each, from a slice that reads -/
theorem run_appC {P : Program} (w : World) (t ty E : TypeId) {z : Value} {sz bytes : Nat} (hinfo : (P.info? E).map (fun i => (i.zero, i.size, i.bytes)) = some (some z, sz, bytes)) (ht : P.underlying t = some (.slice E)) (hz : z.cells.size = sz) (hs0 : 0 < sz) {m : Nat} {q : Nat → Nat → Value} (hone : ∀ j, j < m * sz → (fls sz q j).oneCell' = true)
    {v : Value} {n base : Nat} {p : Nat → Nat → Value} (hown : OwnC w base E v sz n p)
    {y : Value} (hrd : RdC w y sz m q)
    (h63 : n + m ≤ maxLen) (hbytes : (n + m) * bytes ≤ 140737488355328) (hbase : base ≤ w.heap.size) :
    ∃ v' w', (Builtin.append_ #[t, t] ty #[v, y]).run P w = .ok v' w' ∧ OwnC w' base E v' sz (n + m) (appC n p q) ∧ Fr v.ownBlock.toList w w' ∧ SameOrNew w v v' := by
  obtain ⟨i, hi, hz0, hz1, hz2⟩ := info_parts hinfo
  have hadd : (n + m) * sz = n * sz + m * sz := Nat.add_mul _ _ _
  rcases hrd with ⟨rfl, rfl⟩ | ⟨ad, c, rfl, hmc, hcm, hcell⟩
  · have hr := run_append_owned_none (P := P) w base t ty E i sz ht hi v n _ hown.owns
    exact ⟨v, w, hr, hown.congr hs0 (fun i c hi _ => by unfold appC; rw [if_pos (by omega)]), Fr.refl _ _, fun x hx => .inl hx⟩
  have hnews : ∀ j u, (vals (m * sz) (fls sz q))[j]? = some u → w.cell? (ad.add j) = some u := fun j u hu => by
    obtain ⟨hj, rfl⟩ := vals_get' hu
    exact hcell j hj
  have hnl : (vals (m * sz) (fls sz q)).length = m * i.size := by rw [vals_len, hz1]
  have hsmall : n + m ≤ 9223372036854775807 := by unfold maxLen at h63; omega
  have hgrow : ∀ (old : Nat), old < n + m → ∀ S, OwnC (w.drew.alloc (.cells ((vals (n * sz) (fls sz p)).toArray ++ (vals (m * sz) (fls sz q)).toArray ++ Builtin.zeroCells z.cells (grownCap w (n + m) old E - (n + m))) E)) base E (.slice (some ⟨w.heap.size, 0, none⟩) (n + m) (grownCap w (n + m) old E)) sz (n + m) (appC n p q) ∧
      Fr S w (w.drew.alloc (.cells ((vals (n * sz) (fls sz p)).toArray ++ (vals (m * sz) (fls sz q)).toArray ++ Builtin.zeroCells z.cells (grownCap w (n + m) old E - (n + m))) E)) := by
    intro old ho S
    have hge := grownCap_ge w (n + m) old E
    have hcm := grownCap_le_maxLen w (n + m) old E h63
    refine ⟨.inr ⟨w.heap.size, _, rfl, hbase, _, heap_alloc_new w.drew _, ?_, hge, hcm, fun j hj => ?_⟩, ((Fr.refl S w).drew).alloc _⟩
    · simp only [Array.size_append, List.size_toArray, size_zeroCells, hz, vals_len]
      rw [← hadd, ← Nat.add_mul]
      congr 1
      omega
    · rw [Array.getElem?_append_left (by simp [vals_len]; omega), ← Array.getElem?_toList]
      have := appC_get hs0 (F := p) (G := q) hj
      simpa using this
  rcases hown with ⟨rfl, rfl⟩ | ⟨g0, cap, rfl, hb, hrow⟩
  · by_cases hm : m = 0
    · subst hm
      refine ⟨.slice none 0 0, w, ?_, OwnC.nil _ _ _ _ _, Fr.refl _ _, fun x hx => .inl hx⟩
      simp [Builtin.append_, run_underlying ht, sizeOf, typeInfo, hi, Builtin.lenOf, Builtin.firstCells, loadCells, loadCellsFrom]
    · have hr := run_append_nil (P := P) w t ty E i z ht hi hz0 ad m c (vals (m * sz) (fls sz q)) hnl hnews (by omega) (by omega) (by rw [hz2]; have hb2 := hbytes; simp only [Nat.zero_add] at hb2; omega)
      have hg := hgrow 0 (by omega) (Value.ownBlock (.slice none 0 0)).toList
      have e0 : (vals (0 * sz) (fls sz p)).toArray = #[] := by rw [Nat.zero_mul]; rfl
      simp only [Nat.zero_add, e0, Array.empty_append] at hg ⊢
      exact ⟨_, _, hr, hg.1, hg.2, fun x hx => .inr (by simp [Value.ownBlock] at hx; omega)⟩
  · by_cases hroom : n + m ≤ cap
    · have hcapm : (n + m) * sz ≤ cap * sz := Nat.mul_le_mul_right _ hroom
      obtain ⟨cur, hcur, hcs, hnc, hcml, hcells⟩ := hrow
      have hncap : n * sz ≤ cap * sz := Nat.mul_le_mul_right _ hnc
      have hfit : n * i.size + (vals (m * sz) (fls sz q)).length ≤ cur.size := by rw [vals_len, hz1, hcs]; omega
      have h1' : ∀ u ∈ vals (m * sz) (fls sz q), u.oneCell' = true := fun u hu => by
        simp only [vals, List.mem_map, List.mem_range] at hu
        obtain ⟨j, hj, rfl⟩ := hu
        exact hone j hj
      have hr := run_append_room (P := P) w t ty E i ht hi g0 n cap cur hcur ad m c (vals (m * sz) (fls sz q)) hnl hnews h1' hroom hfit
      refine ⟨_, _, hr, .inr ⟨g0, cap, rfl, hb, _, setRow_heap w g0 cur _ E _ hcur, ?_, hroom, hcml, fun j hj => ?_⟩, ⟨rfl, rfl, rfl, by simp, fun k _ hn => setRow_other w g0 k _ (by simpa [Value.ownBlock] using hn)⟩, fun x hx => .inl (by simpa [Value.ownBlock] using hx)⟩
      · simp only [List.size_toArray, List.length_append, List.length_take, List.length_drop, Array.length_toList, vals_len, hz1]
        omega
      · have hlen : (cur.toList.take (n * i.size)).length = n * sz := by rw [List.length_take, Array.length_toList, hz1]; omega
        have htk : cur.toList.take (n * i.size) = vals (n * sz) (fls sz p) := by
          rw [hz1]
          apply List.ext_getElem?
          intro k
          by_cases hk : k < n * sz
          · rw [List.getElem?_take, if_pos hk, vals_get _ _ k hk, Array.getElem?_toList, hcells k hk]
          · rw [List.getElem?_take, if_neg hk, List.getElem?_eq_none (by rw [vals_len]; omega)]
        have e := appC_get hs0 (F := p) (G := q) hj
        rw [← htk] at e
        rw [← Array.getElem?_toList]
        simp only []
        rw [List.getElem?_append_left (by rw [List.length_append, hlen, vals_len]; omega)]
        exact e
    · obtain ⟨cur, hcur, hcs, hnc, hcml, hcells⟩ := hrow
      have holds : ∀ j u, (vals (n * sz) (fls sz p))[j]? = some u → w.cell? ((⟨g0, 0, none⟩ : Addr).add j) = some u := fun j u hu => by
        obtain ⟨hj, rfl⟩ := vals_get' hu
        have e : (⟨g0, 0, none⟩ : Addr).add j = ⟨g0, j, none⟩ := by unfold Addr.add; split <;> simp_all
        rw [e]
        simp [World.cell?, hcur, hcells j hj]
      have hr := run_append_grow (P := P) w t ty E i z ht hi hz0 ⟨g0, 0, none⟩ n cap (vals (n * sz) (fls sz p)) (by rw [vals_len, hz1]) holds ad m c (vals (m * sz) (fls sz q)) hnl hnews (by omega) (by omega) (growslice_fits (by omega) (by rw [hz2]; exact hbytes))
      have hg := hgrow cap (by omega) (Value.ownBlock (.slice (some ⟨g0, 0, none⟩) n cap)).toList
      exact ⟨_, _, hr, hg.1, hg.2, fun x hx => .inr (by simp [Value.ownBlock] at hx; omega)⟩

theorem wpList_appC {P : Program} {w : World} {ops : Array Oper} {rest : List Oper} {o : Oper} {a : Act} {Q : Exit → Act → World → Prop} (hgd : o.guard = none) (s x : Operand) (t : TypeId)
    (ho : o.op = .call { callee := .builtin .append, args := #[s, x], argTypes := #[t, t] })
    (E : TypeId) {z : Value} {sz bytes : Nat} (hinfo : (P.info? E).map (fun i => (i.zero, i.size, i.bytes)) = some (some z, sz, bytes)) (ht : P.underlying t = some (.slice E)) (hz : z.cells.size = sz) (hs0 : 0 < sz) {m : Nat} {q : Nat → Nat → Value} (hone : ∀ j, j < m * sz → (fls sz q j).oneCell' = true)
    {v : Value} {n base : Nat} {p : Nat → Nat → Value} (hown : OwnC w base E v sz n p) (hs : a.eval s = v)
    {y : Value} (hrd : RdC w y sz m q) (hx : a.eval x = y)
    (h63 : n + m ≤ maxLen) (hbytes : (n + m) * bytes ≤ 140737488355328) (hbase : base ≤ w.heap.size)
    (h : ∀ v' w', OwnC w' base E v' sz (n + m) (appC n p q) → Fr v.ownBlock.toList w w' → SameOrNew w v v' → wpList P ops Q rest (a.put o.dst v') w') : wpList P ops Q (o :: rest) a w := by
  obtain ⟨v', w', hr, h2, h3, h4⟩ := run_appC (P := P) w t o.type E hinfo ht hz hs0 hone hown hrd h63 hbytes hbase
  refine wpList_plain hgd fun _ hK => ?_
  unfold Oper.wp execOp
  simp only [ho, resolve, invoke, builtin, Sem.run_bind, Sem.run_pure, Result.andThen_ok, List.map_toArray, List.map_cons, List.map_nil, hs, hx, hr]
  exact hK _ _ (h v' w' h2 h3 h4)

theorem step_appC {P : Program} {w : World} {ops : Array Oper} {o : Oper} {a : Act} {K : Act → World → Prop} {Q : Exit → Act → World → Prop} {X : Prop} (hgd : o.guard = none) (s x : Operand) (t : TypeId)
    (ho : o.op = .call { callee := .builtin .append, args := #[s, x], argTypes := #[t, t] })
    (E : TypeId) {z : Value} {sz bytes : Nat} (hinfo : (P.info? E).map (fun i => (i.zero, i.size, i.bytes)) = some (some z, sz, bytes)) (ht : P.underlying t = some (.slice E)) (hz : z.cells.size = sz) (hs0 : 0 < sz) {m : Nat} {q : Nat → Nat → Value} (hone : ∀ j, j < m * sz → (fls sz q j).oneCell' = true)
    {v : Value} {n base : Nat} {p : Nat → Nat → Value} (hown : OwnC w base E v sz n p) (hs : a.eval s = v)
    {y : Value} (hrd : RdC w y sz m q) (hx : a.eval x = y)
    (h63 : n + m ≤ maxLen) (hbytes : (n + m) * bytes ≤ 140737488355328) (hbase : base ≤ w.heap.size)
    (h : ∀ v' w', OwnC w' base E v' sz (n + m) (appC n p q) → Fr v.ownBlock.toList w w' → SameOrNew w v v' → K (a.put o.dst v') w') :
    if Region.wanted o (yielded ops a.tmps) = true then Oper.wp P o a w K Q else X := by
  have hw : Region.wanted o (yielded ops a.tmps) = true := by simp [Region.wanted, hgd]
  rw [if_pos hw]
  obtain ⟨v', w', hr, h2, h3, h4⟩ := run_appC (P := P) w t o.type E hinfo ht hz hs0 hone hown hrd h63 hbytes hbase
  unfold Oper.wp
  simp [execOp, ho, resolve, invoke, builtin, hs, hx, hr, Result.andThen]
  exact h v' w' h2 h3 h4


end Go.Proofs.YtcfdlilhhfaaaaaDoor

namespace Go.Proofs.YtcfdlilhhfaaaaaDoor.U
open Go.ChangeShapes Go.WideShapes Go.ChangeAt Go.RowKit

section
variable {H : Type} {enc : TypeId × Value → H} {P : Program} {W : World} {base : Nat}

/-- one field's own reading, its weights within the reach -/
def FldOk (enc : TypeId × Value → H) (P : Program) (W : World) (t : TypeId) (v : Value) : Prop :=
  ∃ m y, DataW.trod enc P W 0 (fun _ => true) true m t [v] = some y ∧ ∀ x ∈ y.1.weights P t, x ≤ 629145600

theorem fld_int {t : TypeId} {k : IntKind} {v : Value} (ht : P.underlying t = some (.int k)) (h : FldOk enc P W t v) : ∃ x, v = .int k x ∧ (Lit.int k x).wf = true := by
  obtain ⟨m, y, h, _⟩ := h
  obtain ⟨x, e, _, hx⟩ := DataW.trod_int ht h
  exact ⟨x, by simpa using e, hx⟩
theorem fld_bool {t : TypeId} {v : Value} (ht : P.underlying t = some .bool) (h : FldOk enc P W t v) : ∃ x, v = .bool x := by
  obtain ⟨m, y, h, _⟩ := h
  obtain ⟨x, e, _⟩ := DataW.trod_bool ht h
  exact ⟨x, by simpa using e⟩
theorem fld_string {t : TypeId} {v : Value} (ht : P.underlying t = some .string) (h : FldOk enc P W t v) : ∃ s : ByteArray, v = .string s ∧ s.size ≤ 629145600 := by
  obtain ⟨m, y, h, hw⟩ := h
  obtain ⟨s, e, e2, _⟩ := DataW.trod_string ht h
  refine ⟨s, by simpa using e, ?_⟩
  subst e2
  exact hw _ (by simp [DataW.weights])

/-- a slice of one-cell elements, each with its own reading -/
theorem fld_ones {t e : TypeId} {v : Value} (ht : P.underlying t = some (.slice e)) (hc : P.cellsOf e = 1) (h : FldOk enc P W t v) :
    ∃ (a : Option Addr) (n c : Nat) (V : Nat → Value), v = .slice a n c ∧ RdF W (.slice a n c) n V ∧ n ≤ c ∧ c ≤ maxLen ∧ n * P.bytesOf e ≤ 629145600 ∧ ∀ i, i < n → FldOk enc P W e (V i) := by
  obtain ⟨m0, y, h, hw⟩ := h
  rcases Go.Deep.open_slice1 ht hc h with ⟨hcs, hx⟩ | ⟨x, l, c, mm, n, V, D, Pl, hcs, _, hl, hm, hmm, hx, hcell⟩
  · obtain rfl : v = .slice none 0 0 := by simpa using hcs
    exact ⟨none, 0, 0, fun _ => undef, rfl, .inl ⟨rfl, rfl⟩, Nat.le_refl _, by decide, by omega, fun i hi => by omega⟩
  · obtain rfl : v = .slice (some x) l c := by simpa using hcs
    subst hx
    have hmm' : mm = c := by simpa using hmm
    have hs := hw ((((List.range l).map D).length + ((List.range (mm - l)).map fun i => D (l + i)).length) * P.bytesOf e) (by simp [DataW.weights, ht])
    refine ⟨some x, l, c, V, rfl, .inr ⟨x, c, rfl, hl, hm, fun j hj => (hcell j (by omega)).1⟩, hl, hm, Nat.le_trans (Nat.mul_le_mul_right _ (by simp)) hs, fun i hi => ⟨n, _, (hcell i (by omega)).2, fun x hx => hw x ?_⟩⟩
    simp only [DataW.weights, ht, List.mem_cons, List.mem_append]
    exact .inr (.inl (weights_all (List.mem_map.2 ⟨i, List.mem_range.2 hi, rfl⟩) hx))

/-- a struct of one-cell fields -/
theorem fld_struct {t : TypeId} {fs : Array Field} {cs : List Value} {m : Nat} {y : DataW H × List MemPlace} (he : P.underlying t = some (.struct fs)) (hone : Go.Deep.oneCellFields P fs = true) (hC : P.cellsOf t = fs.size)
    (h : DataW.trod enc P W 0 (fun _ => true) true m t cs = some y) (hw : ∀ x ∈ y.1.weights P t, x ≤ 629145600) :
    cs.length = fs.size ∧ ∀ (j : Nat) (f : Field), fs[j]? = some f → ∃ v, cs[j]? = some v ∧ FldOk enc P W f.type v := by
  obtain ⟨ys, n', _, hy, hlen, hyl, hf⟩ := DataW.trod_struct he h
  subst hy
  rw [hC] at hlen
  refine ⟨hlen, fun j f hj => ?_⟩
  obtain ⟨ho, hk⟩ := Go.Deep.hone_of hone j f hj
  have hjl : j < fs.size := (Array.getElem?_eq_some_iff.1 hj).1
  have h1 := hf j f hj
  rw [ho, hk, List.drop_eq_getElem_cons (by omega), List.getElem?_eq_getElem (by omega)] at h1
  refine ⟨cs[j]'(by omega), List.getElem?_eq_getElem (by omega), n', _, h1, fun x hx => hw x ?_⟩
  simp only [DataW.weights, he]
  exact DataW.weights_mem_each (j := j) (t := f.type) (d := (ys[j]'(by omega)).1) (by simp [hj]) (by simp [List.getElem?_eq_getElem (show j < ys.length by omega)]) x hx

/-- a slice of structs of one-cell fields -/
theorem fld_structs {t e : TypeId} {fs : Array Field} {v : Value} (ht : P.underlying t = some (.slice e)) (he : P.underlying e = some (.struct fs)) (hone : Go.Deep.oneCellFields P fs = true) (hC : P.cellsOf e = fs.size) (hpos : 0 < fs.size)
    (h : FldOk enc P W t v) :
    ∃ (a : Option Addr) (n c : Nat) (F : Nat → Nat → Value), v = .slice a n c ∧ RdC W (.slice a n c) fs.size n F ∧ n ≤ c ∧ c ≤ maxLen ∧ n * P.bytesOf e ≤ 629145600 ∧
      ∀ i, i < n → ∀ (j : Nat) (f : Field), fs[j]? = some f → FldOk enc P W f.type (F i j) := by
  obtain ⟨m0, y, h, hw⟩ := h
  rcases Go.Deep.open_slice ht h with ⟨hcs, hx⟩ | ⟨a, l, c, m, n, D, Pl, hcs, _, hl, hm, hmm, hx, hi⟩
  · obtain rfl : v = .slice none 0 0 := by simpa using hcs
    exact ⟨none, 0, 0, fun _ _ => undef, rfl, .inl ⟨rfl, rfl⟩, Nat.le_refl _, by decide, by omega, fun i hi => by omega⟩
  · obtain rfl : v = .slice (some a) l c := by simpa using hcs
    subst hx
    have hmm' : m = c := by simpa using hmm
    have hs := hw ((((List.range l).map D).length + ((List.range (m - l)).map fun i => D (l + i)).length) * P.bytesOf e) (by simp [DataW.weights, ht])
    have hel : ∀ i, i < l → ∀ j, j < fs.size → ∀ f, fs[j]? = some f → ∃ u, W.cell? (a.add (i * fs.size + j)) = some u ∧ FldOk enc P W f.type u := by
      intro i hil j hj f hf
      obtain ⟨cs', hc, htr⟩ := hi i (by omega)
      obtain ⟨hlen, hfl⟩ := fld_struct he hone hC htr (fun x hx => hw x (by
        simp only [DataW.weights, ht, List.mem_cons, List.mem_append]
        exact .inr (.inl (weights_all (List.mem_map.2 ⟨i, List.mem_range.2 hil, rfl⟩) hx))))
      rw [hC] at hc
      obtain ⟨_, _, hat⟩ := World.cells?_some hc
      obtain ⟨u, hu, hok⟩ := hfl j f hf
      refine ⟨u, ?_, hok⟩
      rw [← Go.Deep.add_add, hat j hj, hu]
    refine ⟨some a, l, c, fun i j => (W.cell? (a.add (i * fs.size + j))).getD undef, rfl, .inr ⟨a, c, rfl, hl, hm, fun j hj => ?_⟩, hl, hm, Nat.le_trans (Nat.mul_le_mul_right _ (by simp)) hs, fun i hil j f hf => ?_⟩
    · have hjm : j % fs.size < fs.size := Nat.mod_lt _ hpos
      obtain ⟨u, hu, _⟩ := hel (j / fs.size) (div_lt' hj) (j % fs.size) hjm _ (Array.getElem?_eq_getElem hjm)
      unfold fls
      have e2 : j / fs.size * fs.size + j % fs.size = j := by rw [Nat.mul_comm]; exact Nat.div_add_mod j fs.size
      have e3 : (fun i j => (W.cell? (a.add (i * fs.size + j))).getD undef) (j / fs.size) (j % fs.size) = (W.cell? (a.add (j / fs.size * fs.size + j % fs.size))).getD undef := rfl
      rw [e3]
      rw [e2] at hu ⊢
      rw [hu]
      rfl
    · have hj : j < fs.size := (Array.getElem?_eq_some_iff.1 hf).1
      obtain ⟨u, hu, hok⟩ := hel i hil j hj f hf
      simp only [hu]
      exact hok

/-- strings' slice -/
theorem fld_strs {t e : TypeId} {v : Value} (ht : P.underlying t = some (.slice e)) (he : P.underlying e = some .string) (hc : P.cellsOf e = 1) (h : FldOk enc P W t v) :
    ∃ (a : Option Addr) (n c : Nat) (s : Nat → ByteArray), v = .slice a n c ∧ RdF W (.slice a n c) n (fun j => .string (s j)) ∧ n ≤ c ∧ c ≤ maxLen ∧ n * P.bytesOf e ≤ 629145600 ∧ ∀ i, i < n → (s i).size ≤ 629145600 := by
  obtain ⟨a, n, c, V, rfl, hr, h1, h2, h3, hf⟩ := fld_ones ht hc h
  have hex : ∀ i : Nat, ∃ s : ByteArray, i < n → V i = .string s ∧ s.size ≤ 629145600 := fun i => by
    by_cases hi : i < n
    · obtain ⟨s, e1, e2⟩ := fld_string he (hf i hi)
      exact ⟨s, fun _ => ⟨e1, e2⟩⟩
    · exact ⟨.empty, fun h => absurd h hi⟩
  obtain ⟨s, hs⟩ := Classical.skolem.1 hex
  exact ⟨a, n, c, s, rfl, hr.congr (fun j hj => (hs j hj).1), h1, h2, h3, fun i hi => (hs i hi).2⟩

/-- integers' slice -/
theorem fld_ints {t e : TypeId} {k : IntKind} {v : Value} (ht : P.underlying t = some (.slice e)) (he : P.underlying e = some (.int k)) (hc : P.cellsOf e = 1) (h : FldOk enc P W t v) :
    ∃ (a : Option Addr) (n c : Nat) (f : Nat → Int), v = .slice a n c ∧ RdF W (.slice a n c) n (fun j => .int k (f j)) ∧ n ≤ c ∧ c ≤ maxLen ∧ n * P.bytesOf e ≤ 629145600 ∧ ∀ i, i < n → (Lit.int k (f i)).wf = true := by
  obtain ⟨a, n, c, V, rfl, hr, h1, h2, h3, hf⟩ := fld_ones ht hc h
  have hex : ∀ i : Nat, ∃ x : Int, i < n → V i = .int k x ∧ (Lit.int k x).wf = true := fun i => by
    by_cases hi : i < n
    · obtain ⟨s, e1, e2⟩ := fld_int he (hf i hi)
      exact ⟨s, fun _ => ⟨e1, e2⟩⟩
    · exact ⟨0, fun h => absurd h hi⟩
  obtain ⟨s, hs⟩ := Classical.skolem.1 hex
  exact ⟨a, n, c, s, rfl, hr.congr (fun j hj => (hs j hj).1), h1, h2, h3, fun i hi => (hs i hi).2⟩

theorem fld_of {ts : List TypeId} {ds : List (DataW H)} {j : Nat} {t : TypeId} {v : Value} {d : DataW H} {p : List MemPlace} (hv : v.cells = #[v]) (h : DataW.Trod enc P W 0 (fun _ => true) true t v d p)
    (hsz : (DataW.weightsEach P ts ds).all (· ≤ 629145600) = true) (hts : ts[j]? = some t) (hds : ds[j]? = some d) : FldOk enc P W t v := by
  obtain ⟨m, hm⟩ := h
  rw [hv] at hm
  refine ⟨m, _, hm, fun x hx => ?_⟩
  have := List.all_eq_true.1 hsz _ (DataW.weights_mem_each hts hds x hx)
  simpa using this

theorem fld_agg {ts : List TypeId} {ds : List (DataW H)} {j : Nat} {t : TypeId} {fs : Array Field} {v : Value} {d : DataW H} {p : List MemPlace} (he : P.underlying t = some (.struct fs)) (hone : Go.Deep.oneCellFields P fs = true) (hC : P.cellsOf t = fs.size)
    (hok : Value.okWide P W .any base t v) (h : DataW.Trod enc P W 0 (fun _ => true) true t v d p)
    (hsz : (DataW.weightsEach P ts ds).all (· ≤ 629145600) = true) (hts : ts[j]? = some t) (hds : ds[j]? = some d) :
    ∃ cs : Array Value, v = .agg cs ∧ cs.size = fs.size ∧ ∀ (j : Nat) (f : Field), fs[j]? = some f → ∃ u, cs[j]? = some u ∧ FldOk enc P W f.type u := by
  obtain ⟨cs, rfl, hsize⟩ := okWide_struct he hok
  obtain ⟨m, hm⟩ := h
  have hw : ∀ x ∈ d.weights P t, x ≤ 629145600 := fun x hx => by
    have := List.all_eq_true.1 hsz _ (DataW.weights_mem_each hts hds x hx)
    simpa using this
  obtain ⟨_, h2⟩ := fld_struct he hone hC hm hw
  refine ⟨cs, rfl, by rw [hsize, hC], fun j f hj => ?_⟩
  obtain ⟨u, hu, hok⟩ := h2 j f hj
  exact ⟨u, by simpa [Value.cells] using hu, hok⟩
end

end Go.Proofs.YtcfdlilhhfaaaaaDoor.U

namespace Go.Proofs.YtcfdlilhhfaaaaaDoor
theorem infoInt : (Tryd.prog.info? 3).map (fun i => (i.zero, i.size, i.bytes)) = some (some (.int .i64 0), 1, 8) := by kernel_rfl
theorem infoU8 : (Tryd.prog.info? 5).map (fun i => (i.zero, i.size, i.bytes)) = some (some (.int .u8 0), 1, 1) := by kernel_rfl
theorem infoBool : (Tryd.prog.info? 4).map (fun i => (i.zero, i.size, i.bytes)) = some (some (.bool false), 1, 1) := by kernel_rfl
end Go.Proofs.YtcfdlilhhfaaaaaDoor

namespace Go.Proofs.YtcfdlilhhfaaaaaDoor
open Go.RowKit

set_option maxHeartbeats 400000 in
theorem clone_bytes (w : World) (v : Value) (n : Nat) (f : Nat → Int) (hv : RdF w v n (fun j => .int .u8 (f j))) (hn : n ≤ 140737488355328) :
    Calls Tryd.prog 57 #[v] w fun e w' => ∃ v', e = .returned v' ∧ OwnF w' w.heap.size 5 v' n (fun j => .int .u8 (f j)) ∧ Fr [] w w' := by
  have hq := fun (wx : World) (a : Option Addr) (n c : Nat) => Lib.run_eql_slice_nil (P := Tryd.prog) wx 35 5 a n c 0 0 Tryd.underlying35
  rcases hv with ⟨rfl, rfl⟩ | ⟨a, cap, rfl, hnc, hcm, hc⟩
  · go_enter Tryd.func57, Tryd.ntmps57
    go_wp2
    go_ret
    exact ⟨_, rfl, .inl ⟨rfl, rfl⟩, Fr.refl _ _⟩
  · have hr : RdF (w.alloc (.cells #[] 5)) (.slice (some a) n cap) n (fun j => .int .u8 (f j)) := .inr ⟨a, cap, rfl, hnc, hcm, fun j hj => ((Fr.refl [] w).alloc _).cell (hc j hj) (by simp)⟩
    have HR := Lib.hid hr; clear hr hc
    have H0 := Lib.hid (OwnF.of_owns (World.ownsRow_made (base := w.heap.size) (size := 1) (e := 5) w #[] 0 (Nat.le_refl _) (by decide) rfl) (fun j => .int .u8 (f j)) (fun j hj => by omega))
    go_enter Tryd.func57, Tryd.ntmps57
    go_wp2_with (at_builtin; refine wpList_app rfl (.tmp 5) (.tmp 6) 35 rfl 5 infoU8 Tryd.underlying35 rfl H0.out rfl HR.out rfl (fun _ _ => rfl) (by unfold maxLen; omega) (by omega) (by simp) ?_; intro v' w1 hown' hfr _)
    go_ret
    rw [Nat.zero_add] at hown'
    exact ⟨_, rfl, hown'.congr (fun j hj => by simp [app]), ((Fr.refl [] w).alloc _).trans hfr (by intro x hx; simp [Value.ownBlock] at hx; omega)⟩

theorem clone_bytes_pos (w : World) (v : Value) (n : Nat) (f : Nat → Int) (hv : RdF w v n (fun j => .int .u8 (f j))) (hn0 : 0 < n) (hn : n ≤ 140737488355328) :
    Calls Tryd.prog 57 #[v] w fun e w' => ∃ g cap, e = .returned (.slice (some ⟨g, 0, none⟩) n cap) ∧ w.heap.size ≤ g ∧ RowF w' g 5 n cap (fun j => .int .u8 (f j)) ∧ Fr [] w w' :=
  (clone_bytes w v n f hv hn).mono fun e w' ⟨v', he, ho, hf⟩ => by
    obtain ⟨g, cap, rfl, hb, hr⟩ := ho.row hn0
    exact ⟨g, cap, he, hb, hr, hf⟩

end Go.Proofs.YtcfdlilhhfaaaaaDoor

namespace Go.Proofs.YtcfdlilhhfaaaaaDoor
open Go.RowKit

theorem infoStr : (Tryd.prog.info? 9).map (fun i => (i.zero, i.size, i.bytes)) = some (some (.string ⟨#[]⟩), 1, 16) := by kernel_rfl

set_option maxHeartbeats 400000 in
theorem clone_strs (w : World) (v : Value) (n : Nat) (f : Nat → ByteArray) (hv : RdF w v n (fun j => .string (f j))) (hn : n * 16 ≤ 140737488355328) :
    Calls Tryd.prog 70 #[v] w fun e w' => ∃ v', e = .returned v' ∧ OwnF w' w.heap.size 9 v' n (fun j => .string (f j)) ∧ Fr [] w w' := by
  have hq := fun (wx : World) (a : Option Addr) (n c : Nat) => Lib.run_eql_slice_nil (P := Tryd.prog) wx 58 9 a n c 0 0 Tryd.underlying58
  rcases hv with ⟨rfl, rfl⟩ | ⟨a, cap, rfl, hnc, hcm, hc⟩
  · go_enter Tryd.func70, Tryd.ntmps70
    go_wp2
    go_ret
    exact ⟨_, rfl, .inl ⟨rfl, rfl⟩, Fr.refl _ _⟩
  · have hr : RdF (w.alloc (.cells #[] 9)) (.slice (some a) n cap) n (fun j => .string (f j)) := .inr ⟨a, cap, rfl, hnc, hcm, fun j hj => ((Fr.refl [] w).alloc _).cell (hc j hj) (by simp)⟩
    have HR := Lib.hid hr; clear hr hc
    have H0 := Lib.hid (OwnF.of_owns (World.ownsRow_made (base := w.heap.size) (size := 1) (e := 9) w #[] 0 (Nat.le_refl _) (by decide) rfl) (fun j => .string (f j)) (fun j hj => by omega))
    go_enter Tryd.func70, Tryd.ntmps70
    go_wp2_with (at_builtin; refine wpList_app rfl (.tmp 5) (.tmp 6) 58 rfl 9 infoStr Tryd.underlying58 rfl H0.out rfl HR.out rfl (fun _ _ => rfl) (by unfold maxLen; omega) (by omega) (by simp) ?_; intro v' w1 hown' hfr _)
    go_ret
    rw [Nat.zero_add] at hown'
    exact ⟨_, rfl, hown'.congr (fun j hj => by simp [app]), ((Fr.refl [] w).alloc _).trans hfr (by intro x hx; simp [Value.ownBlock] at hx; omega)⟩

end Go.Proofs.YtcfdlilhhfaaaaaDoor

namespace Go.Proofs.YtcfdlilhhfaaaaaDoor
open Go.RowKit

/-- do f and g agree below n? -/
def eqUpTo (f g : Nat → Int) : Nat → Bool
  | 0 => true
  | n + 1 => eqUpTo f g n && (f n == g n)

theorem eqUpTo_iff (f g : Nat → Int) (n : Nat) : eqUpTo f g n = true ↔ ∀ j, j < n → f j = g j := by
  induction n with
  | zero => simp [eqUpTo]
  | succ n ih =>
    simp only [eqUpTo, Bool.and_eq_true, ih, beq_iff_eq]
    constructor
    · rintro ⟨h1, h2⟩ j hj
      by_cases hjn : j = n
      · subst hjn; exact h2
      · exact h1 j (by omega)
    · intro h
      exact ⟨fun j hj => h j (by omega), h n (by omega)⟩

theorem eqUpTo_mono (f g : Nat → Int) (n k : Nat) (hk : k ≤ n) (h : eqUpTo f g k = false) : eqUpTo f g n = false := by
  cases hn : eqUpTo f g n with
  | false => rfl
  | true =>
    have := (eqUpTo_iff f g k).2 (fun j hj => (eqUpTo_iff f g n).1 hn j (by omega))
    rw [this] at h; cases h

end Go.Proofs.YtcfdlilhhfaaaaaDoor

namespace Go.Proofs.YtcfdlilhhfaaaaaDoor
open Go.RowKit

set_option maxHeartbeats 1000000 in
theorem bytes_any (w : World) (a b : Option Addr) (n m c d : Nat) (f g : Nat → Int) (hf : RdF w (.slice a n c) n (fun j => .int .u8 (f j))) (hg : RdF w (.slice b m d) m (fun j => .int .u8 (g j))) (hn : n ≤ 9223372036854775807) (hm : m ≤ 9223372036854775807) :
    Calls Tryd.prog 10 #[.slice a n c, .slice b m d] w fun e w' => e = .returned (.bool (decide (n = m) && eqUpTo f g n)) ∧ ∃ q, w' = w.drewN q := by
  have HF := Lib.hid hf; clear hf
  have HG := Lib.hid hg; clear hg
  by_cases hnm : n = m
  · subst hnm
    go_enter Tryd.func10, Tryd.ntmps10
    go_wp2
    go_loopw [5] (fun i wr => ∃ k : Nat, k ≤ n ∧ i = .int .i64 k ∧ Hid (eqUpTo f g k = true) ∧ ∃ q, wr = w.drewN q) (fun i _ => n - (intOf i).toNat)
    case atStart => exact ⟨0, by omega, rfl, rfl, 0, rfl⟩
    case round =>
      obtain ⟨k, hk, rfl, HE, hq⟩ := hrel
      have HQ := Lib.hid hq
      by_cases hlt : k < n
      · obtain ⟨b1, o1, c1, he1, _, _, _, hc1⟩ := HF.out.shape (by omega)
        obtain ⟨b2, o2, c2, he2, _, _, _, hc2⟩ := HG.out.shape (by omega)
        simp only [Value.slice.injEq, true_and] at he1 he2
        obtain ⟨rfl, rfl⟩ := he1
        obtain ⟨rfl, rfl⟩ := he2
        have k1 : wr.cell? ⟨b1, o1 + k, none⟩ = some (.int .u8 (f k)) := by obtain ⟨q, rfl⟩ := hq; exact hc1 k hlt
        have k2 : wr.cell? ⟨b2, o2 + k, none⟩ = some (.int .u8 (g k)) := by obtain ⟨q, rfl⟩ := hq; exact hc2 k hlt
        clear hc1 hc2 hq
        have hs : eqUpTo f g (k + 1) = (f k == g k) := by simp only [eqUpTo, HE.out, Bool.true_and]
        have HS := Lib.hid hs; clear hs
        have k0 : (0 : Int) ≤ (k : Int) := by omega
        have k3 : (k : Int) < (n : Int) := by omega
        by_cases hfg : f k = g k
        · have hb : (f k != g k) = false := by simp [hfg]
          have HFG := Lib.hid hfg; clear hfg
          go_wp2
          go_quiet (fail)
          go_wp2
          go_roundw
          case rel => exact ⟨k + 1, by omega, by go_num, by show _ = true; rw [HS.out]; simp [HFG.out], by obtain ⟨q, rfl⟩ := HQ.out; exact ⟨q + nq, World.drewN_drewN _ _ _⟩⟩
          case measure => simp [intOf]; omega
        · have hb : (f k != g k) = true := by simp [hfg]
          have hs2 : eqUpTo f g (k + 1) = false := by rw [HS.out]; simp [hfg]
          have hfin : (decide (n = n) && eqUpTo f g n) = false := by rw [eqUpTo_mono f g n (k + 1) (by omega) hs2]; simp
          have HFIN := Lib.hid hfin; clear hfin hs2 hfg
          go_wp2
          go_quiet (fail)
          go_wp2
          go_ret
          rw [HFIN.out]
          exact ⟨rfl, by obtain ⟨q, rfl⟩ := HQ.out; exact ⟨q + nq, World.drewN_drewN _ _ _⟩⟩
      · obtain rfl : k = n := by omega
        clear hq
        go_wp2
        go_ret
        exact ⟨by simp [HE.out], HQ.out⟩
  · have hne : ((n : Int) != (m : Int)) = true := by rw [bne_iff_ne]; omega
    have hfin : (decide (n = m) && eqUpTo f g n) = false := by simp [hnm]
    rw [hfin]
    clear hfin
    go_enter Tryd.func10, Tryd.ntmps10
    go_wp2
    go_ret
    exact ⟨rfl, 0, rfl⟩

end Go.Proofs.YtcfdlilhhfaaaaaDoor

namespace Go.Proofs.YtcfdlilhhfaaaaaDoor
open Go.RowKit

/-- one byte more -/
def hstep (h x : Int) : Int := bits BinOp.xor IntKind.u32 h x * 16777619 % 4294967296
/-- the hash of the first k bytes -/
def hsh (f : Nat → Int) : Nat → Int
  | 0 => 2166136261
  | k + 1 => hstep (hsh f k) (f k)

theorem hsh_bd (f : Nat → Int) (k : Nat) : 0 ≤ hsh f k ∧ hsh f k ≤ 4294967295 := by
  cases k with
  | zero => simp [hsh]
  | succ k => simp only [hsh, hstep]; omega

theorem hsh_congr (f g : Nat → Int) (k : Nat) (h : ∀ j, j < k → f j = g j) : hsh f k = hsh g k := by
  induction k with
  | zero => rfl
  | succ k ih => simp only [hsh, ih fun j hj => h j (by omega), h k (by omega)]

theorem hash_any (w : World) (a : Option Addr) (n c : Nat) (f : Nat → Int) (hv : RdF w (.slice a n c) n (fun j => .int .u8 (f j))) (hf : ∀ j, j < n → 0 ≤ f j ∧ f j ≤ 255) (hn : n ≤ 9223372036854775807) :
    Calls Tryd.prog 46 #[.slice a n c] w fun e w' => e = .returned (.int .i64 (hsh f n)) ∧ w = w' := by
  have HV := Lib.hid hv; clear hv
  have HF := Lib.hid hf; clear hf
  go_enter Tryd.func46, Tryd.ntmps46
  go_wp2
  go_loop [3, 8] (fun h i => ∃ k : Nat, k ≤ n ∧ i = .int .i64 k ∧ h = .int .u32 (hsh f k)) (fun _ i => n - (intOf i).toNat)
  case atStart => exact ⟨0, by omega, rfl, rfl⟩
  case round =>
    obtain ⟨k, hk, rfl, rfl⟩ := hrel
    have hb := hsh_bd f k
    by_cases hlt : k < n
    · obtain ⟨b, o, cap', he, hnc, hcm, hbw, hc⟩ := HV.out.shape (by omega)
      simp only [Value.slice.injEq, true_and] at he
      obtain ⟨rfl, rfl⟩ := he
      have hcb := hc k hlt
      have hfb := HF.out k hlt
      clear hc
      go_wp2
      go_round
      case rel => exact ⟨k + 1, by omega, by go_num, rfl⟩
      case measure => simp [intOf]; omega
    · obtain rfl : k = n := by omega
      go_wp2
      go_ret
      exact ⟨rfl, rfl⟩

end Go.Proofs.YtcfdlilhhfaaaaaDoor

namespace Go.Proofs.YtcfdlilhhfaaaaaDoor
open Go.RowKit

/-- byte i of four of a number -/
def fo (n : Int) : Nat → Int
  | 0 => n / 16777216 % 256
  | 1 => n / 65536 % 256
  | 2 => n / 256 % 256
  | _ => n % 256

theorem fo_bd (n : Int) (i : Nat) : 0 ≤ fo n i ∧ fo n i ≤ 255 := by
  unfold fo; split <;> omega

theorem four_any (w : World) (n : Int) (h0 : 0 ≤ n) (h1 : n ≤ 4294967295) :
    Calls Tryd.prog 78 #[.int .i64 n] w fun e w' => e = .returned (.slice (some ⟨w.heap.size, 0, none⟩) 4 4) ∧ RowF w' w.heap.size 5 4 4 (fun i => .int .u8 (fo n i)) ∧ Fr [] w w' := by
  go_enter Tryd.func78, Tryd.ntmps78
  go_wp2
  go_ret
  refine ⟨rfl, row_lit w _ _ 4 _ rfl (by decide) (fun j hj => ?_), (Fr.refl _ _).alloc _⟩
  match j, hj with
  | 0, _ => simp only [fo]; rw [show n / 16777216 % 256 = n / 16777216 by omega]; rfl
  | 1, _ => rfl
  | 2, _ => rfl
  | 3, _ => rfl

end Go.Proofs.YtcfdlilhhfaaaaaDoor

namespace Go.Proofs.YtcfdlilhhfaaaaaDoor
open Go.RowKit

def lowI (x : Int) : Int := if 65 ≤ x ∧ x ≤ 90 then x + 32 else x
def lowB (b : UInt8) : UInt8 := if 65 ≤ b.toNat ∧ b.toNat ≤ 90 then b + 32 else b

theorem lowB_int (b : UInt8) : ((lowB b).toNat : Int) = lowI (b.toNat : Int) := by
  unfold lowB lowI
  by_cases h : 65 ≤ b.toNat ∧ b.toNat ≤ 90
  · rw [if_pos h, if_pos (by omega)]
    have : (b + 32).toNat = b.toNat + 32 := by
      rw [UInt8.toNat_add]
      have : (32 : UInt8).toNat = 32 := rfl
      rw [this]
      omega
    omega
  · rw [if_neg h, if_neg (by omega)]

/-- small letters -/
def smB (s : ByteArray) : ByteArray := ⟨(s.data.toList.map lowB).toArray⟩

theorem lower_any (w : World) (x : Int) (h0 : 0 ≤ x) (h1 : x ≤ 255) :
    Calls Tryd.prog 90 #[.int .u8 x] w fun e w' => e = .returned (.int .u8 (lowI x)) ∧ w = w' := by
  go_enter Tryd.func90, Tryd.ntmps90
  by_cases ha : 65 ≤ x
  · by_cases hb : x ≤ 90
    · have e : lowI x = x + 32 := by unfold lowI; rw [if_pos ⟨ha, hb⟩]
      have HE := Lib.hid e; clear e
      have hw : IntKind.u8.wrap (x + 32) = x + 32 := IntWalk.u8_in _ (by omega)
      go_wp2
      go_ret
      exact ⟨by rw [HE.out]; rfl, rfl⟩
    · have e : lowI x = x := by unfold lowI; rw [if_neg (by omega)]
      have HE := Lib.hid e; clear e
      go_wp2
      go_ret
      exact ⟨by rw [HE.out]; rfl, rfl⟩
  · have e : lowI x = x := by unfold lowI; rw [if_neg (by omega)]
    have HE := Lib.hid e; clear e
    go_wp2
    go_ret
    exact ⟨by rw [HE.out]; rfl, rfl⟩

/-- a row of bytes with a conversion's mark behind it -/
def RowT (w : World) (g n cap : Nat) (f : Nat → Int) : Prop :=
  ∃ cur, w.heap[g]? = some (.cells cur 5 (cap, cap + 1)) ∧ cur.size = cap ∧ n ≤ cap ∧ ∀ j, j < n → cur[j]? = some (.int .u8 (f j))

section
variable {w w' : World} {g n cap : Nat} {f : Nat → Int}
theorem RowT.cell (h : RowT w g n cap f) (j : Nat) (hj : j < n) : w.cell? ⟨g, j, none⟩ = some (.int .u8 (f j)) := by
  obtain ⟨cur, h1, h2, h3, h5⟩ := h
  simp [World.cell?, h1, h5 j hj]
theorem RowT.frozen (h : RowT w g n cap f) (j : Nat) (hj : j < n) : w.frozen? ⟨g, j, none⟩ = false := by
  obtain ⟨cur, h1, h2, h3, h5⟩ := h
  simp [World.frozen?, h1]
  omega
theorem RowT.stored (h : RowT w g n cap f) (k : Nat) (x : Int) : RowT (w.setCell ⟨g, k, none⟩ (.int .u8 x)) g n cap (fun j => if j = k then x else f j) := by
  obtain ⟨cur, h1, h2, h3, h5⟩ := h
  refine ⟨cur.setIfInBounds k (.int .u8 x), ?_, by simpa using h2, h3, fun j hj => ?_⟩
  · simp only [World.setCell]
    rw [Array.getElem?_modify, if_pos rfl, h1]
    rfl
  · have hjc : j < cur.size := by omega
    have := h5 j hj
    by_cases hjk : j = k
    · subst hjk; simp [hjc]
    · simp only [if_neg hjk]
      rw [Array.getElem?_setIfInBounds_ne (by omega), this]
theorem RowT.congr (h : RowT w g n cap f) {f' : Nat → Int} (he : ∀ j, j < n → f j = f' j) : RowT w g n cap f' := by
  obtain ⟨cur, h1, h2, h3, h5⟩ := h
  exact ⟨cur, h1, h2, h3, fun j hj => by rw [h5 j hj, he j hj]⟩
theorem RowT.kept {S : List Nat} (h : RowT w g n cap f) (hf : Fr S w w') (hn : g ∉ S) : RowT w' g n cap f := by
  obtain ⟨cur, h1, h2⟩ := h
  exact ⟨cur, (hf.block g (lt_of_blk h1) hn).trans h1, h2⟩
end

def byteAt (s : ByteArray) (j : Nat) : Int := ((s.data.toList.getD j 0).toNat : Int)

theorem bytes_row (w : World) (s : ByteArray) : RowT (Lib.bytesWorld w 5 s) w.heap.size s.size (grownCap w s.size 0 5) (byteAt s) ∧ Fr [] w (Lib.bytesWorld w 5 s) := by
  have hg := grownCap_ge w s.size 0 5
  have hsz : (Lib.bytesCells w 5 s).size = grownCap w s.size 0 5 := by
    simp only [Lib.bytesCells, Array.size_append, Array.size_map, Array.size_replicate]
    have : s.data.size = s.size := rfl
    omega
  refine ⟨⟨_, by rw [← hsz]; exact Lib.bytesWorld_at_new w _ s, hsz, hg, fun j hj => ?_⟩, ⟨rfl, rfl, rfl, by rw [Lib.bytesWorld_size]; omega, fun k hk _ => Lib.bytesWorld_at_old w _ s k hk⟩⟩
  have hj' : j < s.data.size := hj
  unfold Lib.bytesCells byteAt
  rw [Array.getElem?_append_left (by simpa using hj'), Array.getElem?_map, Array.getElem?_eq_getElem hj']
  simp [List.getD_eq_getElem?_getD, Array.getElem?_eq_getElem hj']

theorem sm_len (s : ByteArray) : (s.data.toList.map lowB).length = s.size := by simp

set_option maxHeartbeats 2000000 in
set_option maxRecDepth 100000 in
theorem small_any (w : World) (s : ByteArray) (hn : s.size ≤ 9223372036854775807) :
    Calls Tryd.prog 58 #[.string s] w fun e w' => e = .returned (.string (smB s)) ∧ Fr [] w w' := by
  have hcv := Go.Lib.run_convert_string_bytes (P := Tryd.prog) w 9 35 5 s Tryd.underlying9 Tryd.underlying35 Tryd.underlying5
  obtain ⟨hr, hf⟩ := bytes_row w s
  have HR := Lib.hid hr
  have HF := Lib.hid hf
  clear hr hf
  have HBD := Lib.hid (show ∀ j, 0 ≤ byteAt s j ∧ byteAt s j ≤ 255 from fun j => by
    unfold byteAt
    have := (s.data.toList.getD j 0).toNat_lt
    omega)
  go_enter Tryd.func58, Tryd.ntmps58
  go_wp2
  clear hcv
  generalize Lib.bytesWorld w 5 s = w1 at *
  generalize grownCap w s.size 0 5 = cap at *
  go_loopw [9] (fun vi wr => ∃ k : Nat, k ≤ s.size ∧ vi = .int .i64 k ∧ RowT wr w.heap.size s.size cap (fun j => if j < k then lowI (byteAt s j) else byteAt s j) ∧ Fr [] w wr) (fun vi _ => s.size - (intOf vi).toNat)
  case atStart => exact ⟨0, by omega, rfl, HR.out.congr (fun j _ => by rw [if_neg (by omega)]), HF.out⟩
  case round =>
    clear HR HF
    obtain ⟨k, hk, rfl, hR, hf⟩ := hrel
    have HR := Lib.hid hR
    have HF := Lib.hid hf; clear hf
    by_cases hlt : k < s.size
    · have c0 := hR.cell k hlt
      have z0 := hR.frozen k hlt
      rw [if_neg (by omega)] at c0
      clear hR
      have hb := HBD.out k
      have HR1 := Lib.hid ((HR.out.stored k (lowI (byteAt s k))).congr (f' := fun j => if j < k + 1 then lowI (byteAt s j) else byteAt s j) (fun j _ => by
        by_cases h : j = k
        · subst h; rw [if_pos rfl, if_pos (by omega)]
        · rw [if_neg h]
          by_cases h2 : j < k
          · rw [if_pos h2, if_pos (by omega)]
          · rw [if_neg h2, if_neg (by omega)]))
      have HF1 := Lib.hid (HF.out.setCell (p := ⟨w.heap.size, k, none⟩) (.inr (Nat.le_refl _)) (.int .u8 (lowI (byteAt s k))))
      have k0 : (0 : Int) ≤ (k : Int) := by omega
      have k1 : (k : Int) < (s.size : Int) := by omega
      generalize byteAt s k = x at *
      go_wp2_with fail
      refine (lower_any _ x hb.1 hb.2).mono ?_
      rintro e w2 ⟨rfl, rfl⟩
      generalize lowI x = y at *
      go_wp2
      go_roundw
      case rel => exact ⟨k + 1, by omega, by go_num, HR1.out, HF1.out⟩
      case measure => simp [intOf]; omega
    · obtain rfl : k = s.size := by omega
      have hcv := run_convert_bytes_back (P := Tryd.prog) wr 35 9 5 ⟨w.heap.size, 0, none⟩ cap (s.data.toList.map lowB) Tryd.underlying35 Tryd.underlying5 Tryd.underlying9 (fun j hj => by
        have hj2 : j < s.size := by rw [sm_len] at hj; exact hj
        have e : (⟨w.heap.size, 0, none⟩ : Addr).add j = ⟨w.heap.size, j, none⟩ := by unfold Addr.add; split <;> simp_all
        rw [e, hR.cell j hj2, if_pos hj2]
        have hj3 : j < s.data.size := hj2
        unfold byteAt
        simp [List.getD_eq_getElem?_getD, Array.getElem?_eq_getElem hj3, lowB_int])
      rw [sm_len] at hcv
      have HSM := Lib.hid (show (⟨(s.data.toList.map lowB).toArray⟩ : ByteArray) = smB s from rfl)
      rw [HSM.out] at hcv
      clear hR
      clear HSM
      obtain ⟨r, hr⟩ : ∃ r, smB s = r := ⟨_, rfl⟩
      rw [hr] at hcv
      have HRR := Lib.hid hr; clear hr
      go_wp2
      go_ret
      exact ⟨by rw [HRR.out]; rfl, HF.out⟩

/-- are two labels one, but for small letters? -/
def alk (s t : ByteArray) : Bool := (smB s).toList == (smB t).toList

set_option maxHeartbeats 2000000 in
theorem alike_any (w : World) (s t : ByteArray) (hs : s.size ≤ 9223372036854775807) (ht : t.size ≤ 9223372036854775807) :
    Calls Tryd.prog 94 #[.string s, .string t] w fun e w' => e = .returned (.bool (alk s t)) ∧ Fr [] w w' := by
  go_enter Tryd.func94, Tryd.ntmps94
  go_wp2_with fail
  refine (small_any _ s hs).mono ?_
  rintro e w1 ⟨rfl, hf1⟩
  go_wp2_with fail
  refine (small_any _ t ht).mono ?_
  rintro e w2 ⟨rfl, hf2⟩
  have HA := Lib.hid (show ((smB s).toList == (smB t).toList) = alk s t from rfl)
  generalize smB s = a at *
  generalize smB t = b at *
  go_wp2
  go_ret
  exact ⟨by rw [← HA.out]; rfl, hf1.trans hf2 (by simp)⟩

/-- do two names agree up to n? -/
def alkUpTo (s t : Nat → ByteArray) : Nat → Bool
  | 0 => true
  | n + 1 => alkUpTo s t n && alk (s n) (t n)

/-- are two names one, but for small letters? -/
def nmEq (n m : Nat) (s t : Nat → ByteArray) : Bool := decide (n = m) && alkUpTo s t n

theorem alkUpTo_false {s t : Nat → ByteArray} {k n : Nat} (hk : k < n) (h : alk (s k) (t k) = false) : alkUpTo s t n = false := by
  induction n with
  | zero => omega
  | succ n ih =>
    simp only [alkUpTo]
    by_cases e : k = n
    · subst e; rw [h, Bool.and_false]
    · rw [ih (by omega), Bool.false_and]

set_option maxHeartbeats 2000000 in
set_option maxRecDepth 100000 in
theorem equalFunc_any (w : World) (a b : Option Addr) (n m c d : Nat) (s t : Nat → ByteArray) (hs : RdF w (.slice a n c) n (fun j => .string (s j))) (ht : RdF w (.slice b m d) m (fun j => .string (t j)))
    (hss : ∀ j, j < n → (s j).size ≤ 9223372036854775807) (hts : ∀ j, j < m → (t j).size ≤ 9223372036854775807) :
    Calls Tryd.prog 93 #[.slice a n c, .slice b m d, .func (.func 94) #[] #[]] w fun e w' => e = .returned (.bool (nmEq n m s t)) ∧ Fr [] w w' := by
  have HS := Lib.hid hs; clear hs
  have HT := Lib.hid ht; clear ht
  have HSS := Lib.hid hss; clear hss
  have HTS := Lib.hid hts; clear hts
  go_enter Tryd.func93, Tryd.ntmps93
  by_cases hnm : n = m
  case neg =>
    have e : nmEq n m s t = false := by simp [nmEq, hnm]
    have HE := Lib.hid e
    have h1 : ((n : Int) != (m : Int)) = true := by simp; omega
    clear e hnm
    go_wp2
    go_ret
    exact ⟨by rw [HE.out]; rfl, Fr.refl _ _⟩
  subst hnm
  have HE := Lib.hid (show nmEq n n s t = alkUpTo s t n by simp [nmEq])
  go_wp2
  go_loopw [17] (fun vi wr => ∃ k : Nat, k ≤ n ∧ vi = .int .i64 k ∧ alkUpTo s t k = true ∧ Fr [] w wr) (fun vi _ => n - (intOf vi).toNat)
  case atStart => exact ⟨0, by omega, rfl, rfl, Fr.refl _ _⟩
  case round =>
    obtain ⟨k, hk, rfl, hal, hf⟩ := hrel
    have HAL := Lib.hid hal; clear hal
    have HF := Lib.hid hf; clear hf
    by_cases hlt : k < n
    · obtain ⟨b1, o1, c1, he1, hn1, hm1, _, hc1⟩ := HS.out.shape (by omega)
      have hnb : n ≤ 9223372036854775807 := by unfold maxLen at hm1; omega
      clear hn1 hm1
      obtain ⟨b2, o2, c2, he2, _, _, _, hc2⟩ := HT.out.shape (by omega)
      simp only [Value.slice.injEq, true_and] at he1 he2
      obtain ⟨rfl, rfl⟩ := he1
      obtain ⟨rfl, rfl⟩ := he2
      have k1 := HF.out.cell (hc1 k hlt) (by simp)
      have k2 := HF.out.cell (hc2 k hlt) (by simp)
      clear hc1 hc2
      have k0 : (0 : Int) ≤ (k : Int) := by omega
      have k3 : (k : Int) < (n : Int) := by omega
      have h1 := HSS.out k hlt
      have h2 := HTS.out k hlt
      have HST := Lib.hid (show alkUpTo s t (k + 1) = (alkUpTo s t k && alk (s k) (t k)) from rfl)
      have HFA := Lib.hid (fun (h : alk (s k) (t k) = false) => alkUpTo_false (s := s) (t := t) hlt h)
      generalize s k = sk at *
      generalize t k = tk at *
      go_wp2_with fail
      refine (alike_any _ sk tk h1 h2).mono ?_
      rintro e w2 ⟨rfl, hf2⟩
      have HF2 := Lib.hid (HF.out.trans hf2 (by simp))
      clear hf2
      by_cases ha : alk sk tk = true
      · have HN := Lib.hid (show alkUpTo s t (k + 1) = true by rw [HST.out, HAL.out, ha]; rfl)
        go_wp2
        go_roundw
        case rel => exact ⟨k + 1, by omega, by go_num, HN.out, HF2.out⟩
        case measure => simp [intOf]; omega
      · have hb : alk sk tk = false := by simpa using ha
        have HX := Lib.hid (HFA.out hb)
        clear ha
        go_wp2
        go_ret
        exact ⟨by rw [HE.out, HX.out]; rfl, HF2.out⟩
    · obtain rfl : k = n := by omega
      go_wp2
      go_ret
      exact ⟨by rw [HE.out, HAL.out]; rfl, HF.out⟩

theorem same_any (w : World) (a b : Option Addr) (n m c d : Nat) (s t : Nat → ByteArray) (hs : RdF w (.slice a n c) n (fun j => .string (s j))) (ht : RdF w (.slice b m d) m (fun j => .string (t j)))
    (hss : ∀ j, j < n → (s j).size ≤ 9223372036854775807) (hts : ∀ j, j < m → (t j).size ≤ 9223372036854775807) :
    Calls Tryd.prog 65 #[.slice a n c, .slice b m d] w fun e w' => e = .returned (.bool (nmEq n m s t)) ∧ Fr [] w w' := by
  have HC := Lib.hid (equalFunc_any w a b n m c d s t hs ht hss hts)
  clear hs ht hss hts
  generalize nmEq n m s t = r at *
  go_enter Tryd.func65, Tryd.ntmps65
  go_wp2_with fail
  refine HC.out.mono ?_
  rintro e w2 ⟨rfl, hf2⟩
  go_wp2
  go_ret
  exact ⟨rfl, hf2⟩

end Go.Proofs.YtcfdlilhhfaaaaaDoor

namespace Go.Proofs.YtcfdlilhhfaaaaaDoor
open Go.RowKit Go.Shelf

/-- is it a letter? -/
def ltrI (x : Int) : Bool := decide (97 ≤ bits .or .u8 x 32) && decide (bits .or .u8 x 32 ≤ 122)

theorem ltr_facts : ∀ k : Fin 256, (ltrI (k.val : Int) = true → 97 ≤ bits .or .u8 (k.val : Int) 32 ∧ bits .or .u8 (k.val : Int) 32 ≤ 122 ∧ lowI (bits .or .u8 (k.val : Int) 32) = lowI (k.val : Int) ∧ lowI (bits .or .u8 (k.val : Int) 32 - 32) = lowI (k.val : Int)) := by decide +kernel

theorem ltr_of {x : Int} (h0 : 0 ≤ x) (h1 : x ≤ 255) (h : ltrI x = true) : 97 ≤ bits .or .u8 x 32 ∧ bits .or .u8 x 32 ≤ 122 ∧ lowI (bits .or .u8 x 32) = lowI x ∧ lowI (bits .or .u8 x 32 - 32) = lowI x := by
  obtain ⟨k, rfl⟩ : ∃ k : Nat, x = (k : Int) := ⟨x.toNat, by omega⟩
  exact ltr_facts ⟨k, by omega⟩ h

set_option maxHeartbeats 2000000 in
set_option maxRecDepth 100000 in
theorem letter_in (F : Fence) (d : Nat) (h77 : F.fn 77) (hro : F.round = none) (w : World) (x : Int) (h0 : 0 ≤ x) (h1 : x ≤ 255) :
    CallsIn F d Tryd.prog 77 #[.int .u8 x] w fun e w' => e = .returned (.bool (ltrI x)) ∧ w = w' := by
  have HL := Lib.hid (show ltrI x = (decide (97 ≤ bits .or .u8 x 32) && decide (bits .or .u8 x 32 ≤ 122)) from rfl)
  generalize ltrI x = L at *
  refine callsIn_of_wp Tryd.func77 rfl h77 ?_ hro
  simp only [Tryd.ntmps77, List.size_toArray, List.length_cons, List.length_nil, Nat.reduceAdd, Nat.reduceSub, Array.replicate_succ, Array.replicate_zero, List.push_toArray, List.append_toArray, List.nil_append, List.cons_append]
  by_cases ha : 97 ≤ bits .or .u8 x 32
  · have e : L = decide (bits .or .u8 x 32 ≤ 122) := by rw [HL.out, decide_eq_true ha]; rfl
    subst e
    clear HL
    gi_wp2
    go_ret
    exact ⟨rfl, rfl⟩
  · have e : L = false := by rw [HL.out, decide_eq_false ha]; rfl
    subst e
    clear HL
    gi_wp2
    go_ret
    exact ⟨rfl, rfl⟩

theorem byteAt_get (t : ByteArray) (j : Nat) (h : j < t.size) : ((t[j]'h).toNat : Int) = byteAt t j := by
  unfold byteAt
  have h' : j < t.data.toList.length := h
  rw [List.getD_eq_getElem?_getD, List.getElem?_eq_getElem h']
  rfl

theorem byteAt_bd (t : ByteArray) (j : Nat) : 0 ≤ byteAt t j ∧ byteAt t j ≤ 255 := by
  unfold byteAt
  have := (t.data.toList.getD j 0).toNat_lt
  omega

/-- how many letters the first k bytes have -/
def letK (s : ByteArray) : Nat → Nat
  | 0 => 0
  | k + 1 => letK s k + (if ltrI (byteAt s k) = true then 1 else 0)
/-- how many letters the first i labels have -/
def lets (s : Nat → ByteArray) : Nat → Nat
  | 0 => 0
  | i + 1 => lets s i + letK (s i) (s i).size

theorem letK_le (s : ByteArray) (k m : Nat) (h : k ≤ m) : letK s k ≤ letK s m := by
  induction m with
  | zero => rw [show k = 0 by omega]; exact Nat.le_refl _
  | succ m ih =>
    by_cases he : k = m + 1
    · rw [he]; exact Nat.le_refl _
    · have := ih (by omega)
      simp only [letK]; omega

theorem lets_le (s : Nat → ByteArray) (k m : Nat) (h : k ≤ m) : lets s k ≤ lets s m := by
  induction m with
  | zero => rw [show k = 0 by omega]; exact Nat.le_refl _
  | succ m ih =>
    by_cases he : k = m + 1
    · rw [he]; exact Nat.le_refl _
    · have := ih (by omega)
      simp only [lets]; omega

/-- at a letter there is one more to come -/
theorem lets_lt {s : Nat → ByteArray} {n i k : Nat} (hi : i < n) (hk : k < (s i).size) (h : ltrI (byteAt (s i) k) = true) : lets s i + letK (s i) k < lets s n := by
  have h1 := lets_le s (i + 1) n (by omega)
  have h2 := letK_le (s i) (k + 1) (s i).size (by omega)
  simp only [letK, h, if_true] at h2
  simp only [lets] at h1
  omega

/-- a place of a letter -/
structure LPlace (s : Nat → ByteArray) (n : Nat) where
  i : Nat
  k : Nat
  hi : i < n
  hk : k < (s i).size
  hl : ltrI (byteAt (s i) k) = true

def LPlace.encs {s : Nat → ByteArray} {n : Nat} (p : LPlace s n) : Array Value := #[.int .i64 (p.i : Int), .int .i64 (p.k : Int)]

attribute [local go_sem] Oper.semAt_some

set_option maxHeartbeats 4000000 in
set_option maxRecDepth 100000 in
theorem letters1_in (F : Fence) (d : Nat) (h76 : F.fn 76) (h77 : F.fn 77) (hro : F.round = none) (hn : 1 ≤ d) (l Bs n₀ n c : Nat) (a : Option Addr) (s : Nat → ByteArray)
    (J Jx : List (LPlace s n) → World → Prop)
    (hY : ∀ pre x W, J pre W → pre.length < lets s n → YieldAt F (d - 1) Tryd.prog l (LPlace.encs x) W fun e W' =>
      (e = .returned (.bool true) ∧ J (pre ++ [x]) W' ∧ Below n₀ W W') ∨ (e = .returned (.bool false) ∧ Jx (pre ++ [x]) W'))
    (W : World) (hBs : W.cell? ⟨Bs, 0, none⟩ = some (.slice a n c)) (hs : ∀ W', Below n₀ W W' → RdF W' (.slice a n c) n (fun j => .string (s j))) (hss : ∀ j, j < n → (s j).size ≤ 140737488355328) (hnn : n ≤ 140737488355328) (h0 : J [] W) :
    CallsIn F d Tryd.prog 76 #[.func (.yield l) #[] #[], .pointer (some ⟨Bs, 0, none⟩)] W fun e W' => (∃ v, e = .returned v) ∧
      ((∃ ys, ys.length = lets s n ∧ J ys W') ∨ (∃ pre, Jx pre W')) := by
  have HS := Lib.hid hs
  have HSS := Lib.hid hss
  clear hs hss
  refine callsIn_of_wp Tryd.func76 rfl h76 ?_ hro
  simp only [Tryd.ntmps76, List.size_toArray, List.length_cons, List.length_nil, Nat.reduceAdd, Nat.reduceSub, Array.replicate_succ, Array.replicate_zero, List.push_toArray, List.append_toArray, List.nil_append, List.cons_append]
  gi_wp2
  gi_loopw [8] (fun i wr => ∃ (k : Nat) (pre : List (LPlace s n)), k ≤ n ∧ i = .int .i64 k ∧ pre.length = lets s k ∧ J pre wr ∧ Below n₀ W wr)
    (fun i _ => n - (intOf i).toNat)
  case atStart => exact ⟨0, [], Nat.zero_le _, rfl, rfl, h0, Below.refl _ _⟩
  case round =>
    obtain ⟨k, pre, hk, rfl, hpl, hJs, hnx⟩ := hrel
    by_cases hlt : k < n
    · obtain ⟨b1, o1, c1, he1, hn1, hm1, _, hc1⟩ := (HS.out wr hnx).shape (by omega)
      simp only [Value.slice.injEq, true_and] at he1
      obtain ⟨rfl, rfl⟩ := he1
      clear hn1 hm1
      have k1 := hc1 k hlt
      clear hc1
      have k0 : (0 : Int) ≤ (k : Int) := by omega
      have k3 : (k : Int) < (n : Int) := by omega
      have hsk := HSS.out k hlt
      gi_wp2
      have HNX := Lib.hid hnx
      have HPL := Lib.hid hpl
      have HK1 := Lib.hid k1
      clear hnx hpl k1
      gi_loopw [15] (fun i wx => ∃ (j : Nat) (pre' : List (LPlace s n)), j ≤ (s k).size ∧ i = .int .i64 j ∧ pre'.length = lets s k + letK (s k) j ∧ J pre' wx ∧ Below n₀ W wx)
        (fun i _ => (s k).size - (intOf i).toNat)
      case atStart => exact ⟨0, pre, Nat.zero_le _, rfl, by rw [HPL.out]; rfl, hJs, HNX.out⟩
      case round =>
        clear hJs
        obtain ⟨j, pre', hj, rfl, hpl, hJs, hnx⟩ := hrel
        by_cases hltj : j < (s k).size
        · have j0 : (0 : Int) ≤ (j : Int) := by omega
          have j3 : (j : Int) < ((s k).size : Int) := by omega
          have HB := Lib.hid (byteAt_bd (s k) j)
          have HG := Lib.hid (byteAt_get (s k) j hltj)
          by_cases hL : ltrI (byteAt (s k) j) = true
          · obtain ⟨fn, tmps, assign, body, hy, hR⟩ := hY pre' ⟨k, j, hlt, hltj, hL⟩ wr hJs (by rw [hpl]; exact lets_lt hlt hltj hL)
            dsimp only [LPlace.encs] at hy
            gi_wp2_with (gi_at_call 77; rw [HG.out]; refine (letter_in F _ h77 hro _ _ HB.out.1 HB.out.2).mono ?_; rintro e w' ⟨rfl, rfl⟩; rw [hL])
            refine hR.mono ?_
            rintro e W3 (⟨rfl, hJ3, hk3⟩ | ⟨rfl, hJx3⟩)
            · gi_wp2
              go_roundw
              case rel => exact ⟨j + 1, _, by omega, by go_num, by rw [List.length_append, hpl]; simp only [letK, hL, if_true]; exact Nat.add_assoc _ _ _, hJ3, hnx.trans hk3⟩
              case measure => (simp [intOf]; omega)
            · gi_wp2
              refine bodyPost_ret (results_none rfl _ _ _) rfl ?_
              exact ⟨⟨_, rfl⟩, .inr ⟨_, hJx3⟩⟩
          · gi_wp2_with (gi_at_call 77; rw [HG.out]; refine (letter_in F _ h77 hro _ _ HB.out.1 HB.out.2).mono ?_; rintro e w' ⟨rfl, rfl⟩; rw [show ltrI (byteAt (s k) j) = false by simpa using hL])
            refine ⟨fun _ h => (by cases h), ?_⟩
            gi_wp2
            go_roundw
            case rel => exact ⟨j + 1, pre', by omega, by go_num, by rw [hpl]; simp only [letK]; rw [if_neg hL]; omega, hJs, hnx⟩
            case measure => (simp [intOf]; omega)
        · obtain rfl : j = (s k).size := by omega
          gi_wp2
          go_roundw
          case rel => exact ⟨k + 1, pre', by omega, by go_num, by rw [hpl]; rfl, hJs, hnx⟩
          case measure => (simp [intOf]; omega)
    · obtain rfl : k = n := by omega
      gi_wp2
      go_end0
      exact ⟨⟨_, rfl⟩, .inl ⟨_, hpl, hJs⟩⟩

end Go.Proofs.YtcfdlilhhfaaaaaDoor

namespace Go.Proofs.YtcfdlilhhfaaaaaDoor
open Go.RowKit Go.Shelf

attribute [local go_sem] Oper.semAt_some

set_option maxHeartbeats 2000000 in
set_option maxRecDepth 100000 in
theorem letters_in (F : Fence) (d : Nat) (h42 : F.fn 42) (hro : F.round = none) (w : World) (a : Option Addr) (n c : Nat) :
    CallsIn F d Tryd.prog 42 #[.slice a n c] w fun e w' => e = .returned (.func (.func 76) #[] #[.pointer (some ⟨w.heap.size, 0, none⟩)]) ∧ w' = w.alloc (.cells #[.slice a n c] 58) := by
  refine callsIn_of_wp Tryd.func42 rfl h42 ?_ hro
  simp only [Tryd.ntmps42, List.size_toArray, List.length_cons, List.length_nil, Nat.reduceAdd, Nat.reduceSub, Array.replicate_succ, Array.replicate_zero, List.push_toArray, List.append_toArray, List.nil_append, List.cons_append]
  gi_wp2
  go_ret
  exact ⟨rfl, rfl⟩

theorem letters_stops (F : Fence) (d : Nat) (h76 : F.fn 76) (h77 : F.fn 77) (hro : F.round = none) (hn : 1 ≤ d) (Bs n₀ n c : Nat) (a : Option Addr) (s : Nat → ByteArray) (w : World)
    (hB : Bs < w.heap.size) (hc : w.cell? ⟨Bs, 0, none⟩ = some (.slice a n c)) (hn₀ : n₀ ≤ w.heap.size) (hs : ∀ W', Below n₀ w W' → RdF W' (.slice a n c) n (fun j => .string (s j))) (hss : ∀ j, j < n → (s j).size ≤ 140737488355328) (hnn : n ≤ 140737488355328) :
    SeqStopsK F d Tryd.prog 76 #[.pointer (some ⟨Bs, 0, none⟩)] (LPlace.encs (s := s) (n := n)) (Below n₀) (fun ys => ys.length = lets s n) (fun _ => True) (lets s n) w := fun l J Jx W hW _ _ hY h0 => by
  refine (letters1_in F d h76 h77 hro hn l Bs n₀ n c a s J Jx hY W ((hW.cell (p := ⟨Bs, 0, none⟩) hB).trans hc) (fun W' h => hs W' ((hW.mono hn₀).trans h)) hss hnn h0).mono ?_
  rintro e W' ⟨he, h | ⟨pre, h⟩⟩
  · exact ⟨he, .inl h⟩
  · exact ⟨he, .inr ⟨pre, trivial, h⟩⟩

/-- a block of cells abides the loop's own book-keeping -/
theorem blk_keptO {W W' : World} {row : Option Nat} {b : Nat} {cs : Array Value} {E : TypeId} {z : Nat × Nat} (h : W.heap[b]? = some (.cells cs E z)) (hg : W.grownBy W' row) (hrow : ∀ r, row = some r → ∃ o : Obj, W.heap[r]? = some o ∧ o.isCells = false) : W'.heap[b]? = some (.cells cs E z) :=
  (hg.block b (lt_of_blk h) (fun e => by
    obtain ⟨o, ho, hc⟩ := hrow b e.symm
    rw [h] at ho; cases ho; cases hc)).trans h

set_option maxHeartbeats 4000000 in
set_option maxRecDepth 100000 in
theorem lettersN_any (w : World) (a : Option Addr) (n c : Nat) (s : Nat → ByteArray) (hs : RdF w (.slice a n c) n (fun j => .string (s j))) (hss : ∀ j, j < n → (s j).size ≤ 140737488355328) (hnn : n ≤ 140737488355328) (hN : lets s n ≤ 1099511627776) :
    Calls Tryd.prog 41 #[.slice a n c] w fun e w' => e = .returned (.int .i64 (lets s n)) ∧ Fr [] w w' := by
  refine (callsIn_wide (n := 3)).1 ?_
  have hro : Fence.wide.round = none := rfl
  refine callsIn_of_wp_marks Tryd.func41 rfl trivial ?_ hro
  simp only [Tryd.ntmps41, List.size_toArray, List.length_cons, List.length_nil, Nat.reduceAdd, Nat.reduceSub, Array.replicate_succ, Array.replicate_zero, List.push_toArray, List.append_toArray, List.nil_append, List.cons_append]
  gi_wp2_with (refine ⟨trivial, ?_⟩; gi_at_call 42; refine (letters_in Fence.wide _ trivial hro _ _ _ _).mono ?_; rintro e w' ⟨rfl, rfl⟩)
  have hs0 := (Boxed.new w 3 (.int .i64 0)).alloc (.cells #[.slice a n c] 58)
  have hb0 := Boxed.new (w.alloc (.cells #[.int .i64 0] 3)) 58 (.slice a n c)
  rw [World.size_alloc] at hb0
  have hB0 : Below w.heap.size w ((w.alloc (.cells #[.int .i64 0] 3)).alloc (.cells #[.slice a n c] 58)) := ((Below.refl _ w).alloc (Nat.le_refl _) _).alloc (by simp) _
  refine wpIn_rangeFunc_ownF hro (by decide) (gf := 76) (lb := #[.pointer (some ⟨w.heap.size + 1, 0, none⟩)]) rfl trivial (enters_of Tryd.func76 (by kernel_rfl) rfl)
    (letters_stops Fence.wide 2 trivial trivial hro (by decide) (w.heap.size + 1) w.heap.size n c a s _ (by simp) hb0.cell (by simp; omega) (fun W' h => hs.fr (Fr.of_below (hB0.trans h) []) (by simp)) hss hnn) belowK_t (belowK_b (by simp; omega)) (Below.refl _ _) (fun _ => rfl)
    (fun pre W => Boxed W w.heap.size 3 (.int .i64 (pre.length : Int)) ∧ Below w.heap.size w W)
    (fun _ _ _ => False)
    (OwnFrom.and (fun s A B row hs hg hr => blk_keptO (show A.heap[w.heap.size]? = some (.cells #[_] _ _) from hs) hg (fun r e => (hr r e).2)) (ownFrom_below (Nat.le_refl _) (by simp; omega)))
    (fun _ _ _ _ _ hs _ _ => hs)
    ⟨hs0, hB0⟩
    (fun x => { tmps := #[.slice a n c, undef, .int .i64 0, .pointer (some ⟨w.heap.size, 0, none⟩), .slice a n c, .func (.func 76) #[] #[.pointer (some ⟨w.heap.size + 1, 0, none⟩)], .int .i64 x.i, .int .i64 x.k, undef, undef, undef], defers := [] }) ?assign ?body ?done ?stop
  case assign =>
    intro l x W K hK
    unfold LPlace.encs
    gi_wp2
    simpa using hK
  case body =>
    rintro l pre x W ⟨hc, hB⟩ hlt
    have hc1 := hc.cell
    have hc2 := hc.frozen
    have HW := Lib.hid (show ((pre.length : Int) + 1) = ((pre ++ [x]).length : Int) by rw [List.length_append]; rfl)
    gi_wp2
    rw [HW.out]
    exact ⟨KeepsOthers.setCell _ _ _, (Below.refl w.heap.size W).setCell (p := ⟨w.heap.size, 0, none⟩) (Nat.le_refl _) _, hc.set _, hB.setCell (p := ⟨w.heap.size, 0, none⟩) (Nat.le_refl _) _⟩
  case done =>
    rintro D ys W hD hys ⟨hc, hB⟩ hK
    have hc1 := hc.cell
    gi_wp2
    refine ⟨by simp, .inl ⟨_, _, rfl, run_takeDeferred hK, ?_⟩⟩
    exact ⟨_, results_tmp rfl _ _ _, rfl, Fr.of_below (hB.trans (belowK_b (w := w) (Nat.le_refl _) W D _ _ (by simp at hD; omega) hK rfl rfl)) _⟩
  case stop =>
    rintro D c pre W _ _ h _
    exact h.elim

end Go.Proofs.YtcfdlilhhfaaaaaDoor

namespace Go.Proofs.YtcfdlilhhfaaaaaDoor
open Go.RowKit

theorem smB_size (s : ByteArray) : (smB s).size = s.size := sm_len s

set_option maxHeartbeats 2000000 in
set_option maxRecDepth 100000 in
theorem fold_any (w : World) (a : Option Addr) (n c : Nat) (s : Nat → ByteArray) (hs : RdF w (.slice a n c) n (fun j => .string (s j))) (hss : ∀ j, j < n → (s j).size ≤ 140737488355328) (hn : n * 16 ≤ 140737488355328) :
    Calls Tryd.prog 27 #[.slice a n c] w fun e w' => ∃ v', e = .returned v' ∧ OwnF w' w.heap.size 9 v' n (fun j => .string (smB (s j))) ∧ Fr [] w w' := by
  have HS := Lib.hid hs; clear hs
  have HSS := Lib.hid hss; clear hss
  go_enter Tryd.func27, Tryd.ntmps27
  go_wp2
  go_loopw [3, 8] (fun vo vi wr => ∃ k : Nat, k ≤ n ∧ vi = .int .i64 k ∧ OwnF wr w.heap.size 9 vo k (fun j => .string (smB (s j))) ∧ Fr [] w wr) (fun _ vi _ => n - (intOf vi).toNat)
  case atStart => exact ⟨0, by omega, rfl, .inl ⟨rfl, rfl⟩, Fr.refl _ _⟩
  case round =>
    obtain ⟨k, hk, rfl, ho, hf⟩ := hrel
    have HO := Lib.hid ho; clear ho
    have HF := Lib.hid hf; clear hf
    by_cases hlt : k < n
    · obtain ⟨b1, o1, c1, he1, hn1, hm1, _, hc1⟩ := HS.out.shape (by omega)
      simp only [Value.slice.injEq, true_and] at he1
      obtain ⟨rfl, rfl⟩ := he1
      clear hn1 hm1
      have k1 := HF.out.cell (hc1 k hlt) (by simp)
      clear hc1
      have k0 : (0 : Int) ≤ (k : Int) := by omega
      have k3 : (k : Int) < (n : Int) := by omega
      have h1 := HSS.out k hlt
      have HSK := Lib.hid (show s k = s k from rfl)
      have HC := Lib.hid (fun (wx : World) => small_any wx (s k) (by omega))
      have HV := Lib.hid (show smB (s k) = smB (s k) from rfl)
      go_wp2_with fail
      refine (HC.out _).mono ?_
      rintro e w2 ⟨rfl, hf2⟩
      have HF2 := Lib.hid (HF.out.trans hf2 (by simp))
      have HO2 := Lib.hid (HO.out.kept hf2 (fun _ _ => by simp))
      have HSZ := Lib.hid (show w.heap.size ≤ w2.heap.size from HF2.out.size)
      clear hf2
      go_wp2_with (at_builtin; refine wpList_app rfl (.tmp 12) (.tmp 15) 58 rfl 9 infoStr Tryd.underlying58 rfl (HO2.out.alloc _) rfl (rd_one _ _ _ rfl) rfl (fun _ _ => rfl) (by unfold maxLen; omega) (by omega) (by simp; have := HSZ.out; omega) ?_; intro v' w3 hown' hfr _)
      have HO3 := Lib.hid (hown'.congr (f' := fun j => .string (smB (s j))) (fun j hj => by
        unfold app
        by_cases h : j < k
        · rw [if_pos h]
        · rw [if_neg h, show j = k by omega]))
      have HF3 := Lib.hid ((HF2.out.alloc _).trans hfr (fun x hx => .inr (HO2.out.ge x hx)))
      clear hown' hfr
      go_roundw
      case rel => exact ⟨k + 1, by omega, by go_num, HO3.out, HF3.out⟩
      case measure => simp [intOf]; omega
    · obtain rfl : k = n := by omega
      go_wp2
      go_ret
      exact ⟨_, rfl, HO.out, HF.out⟩

end Go.Proofs.YtcfdlilhhfaaaaaDoor

namespace Go.Proofs.YtcfdlilhhfaaaaaDoor
open Go.RowKit Go.Shelf

attribute [local go_sem] Oper.semAt_some

/-- rows of bytes, one behind the other, the first k of them made; g is the row of them -/
structure Mat (w : World) (B g n k : Nat) (G C : Nat → Nat) (f : Nat → Nat → Int) (s : Nat → ByteArray) : Prop where
  row : RowF w g 35 n n (fun i => if i < k then .slice (some ⟨G i, 0, none⟩) (s i).size (C i) else .slice none 0 0)
  rows : ∀ i, i < k → RowT w (G i) (s i).size (C i) (f i)
  up : ∀ i j, i < j → j < k → G i < G j
  low : B ≤ g ∧ ∀ i, i < k → B ≤ G i
  says : ∀ i, i < k → ∀ j, j < (s i).size → 0 ≤ f i j ∧ f i j ≤ 255 ∧ lowI (f i j) = lowI (byteAt (s i) j)

section
variable {w : World} {B g n k : Nat} {G C : Nat → Nat} {f : Nat → Nat → Int} {s : Nat → ByteArray}

theorem Mat.ne (h : Mat w B g n k G C f s) {i : Nat} (hi : i < k) : G i ≠ g := by
  intro e
  obtain ⟨cur, h1, _⟩ := h.rows i hi
  obtain ⟨cur', h2, _⟩ := h.row
  rw [e, h2] at h1
  simp at h1

theorem Mat.inj (h : Mat w B g n k G C f s) {i j : Nat} (hi : i < k) (hj : j < k) (hij : i ≠ j) : G i ≠ G j := by
  rcases Nat.lt_or_gt_of_ne hij with h1 | h1
  · have := h.up i j h1 hj; omega
  · have := h.up j i h1 hi; omega

theorem Mat.start (w : World) (B n : Nat) (s : Nat → ByteArray) (hB : B ≤ w.heap.size) (hn : n ≤ 254) :
    Mat (w.alloc (.cells (madeCells #[.slice none 0 0] n) 35)) B w.heap.size n 0 (fun _ => 0) (fun _ => 0) (fun i j => byteAt (s i) j) s :=
  ⟨(row_mk w 35 (.slice none 0 0) rfl n (by unfold maxLen; omega)).congr (fun j _ => by rw [if_neg (by omega)]), fun i hi => by omega, fun i j _ hj => by omega, ⟨hB, fun i hi => by omega⟩, fun i hi => by omega⟩

theorem Mat.kept {w' : World} {S : List Nat} (h : Mat w B g n k G C f s) (hf : Fr S w w') (h1 : g ∉ S) (h2 : ∀ i, i < k → G i ∉ S) : Mat w' B g n k G C f s :=
  ⟨h.row.kept hf h1, fun i hi => (h.rows i hi).kept hf (h2 i hi), h.up, h.low, h.says⟩

/-- the next row is made -/
theorem Mat.put (h : Mat w B g n k G C (fun i j => byteAt (s i) j) s) (hk : k < n) (hB : B ≤ w.heap.size) :
    ∃ G' C', Mat ((Lib.bytesWorld w 5 (s k)).setCell ⟨g, k, none⟩ (.slice (some ⟨w.heap.size, 0, none⟩) (s k).size (grownCap w (s k).size 0 5))) B g n (k + 1) G' C' (fun i j => byteAt (s i) j) s := by
  obtain ⟨hr, hf⟩ := bytes_row w (s k)
  have h1 := h.kept hf (by simp) (fun i hi => by simp)
  have hg : g < w.heap.size := h.row.lt
  have hne : w.heap.size ≠ g := by omega
  have hf2 : Fr [g] (Lib.bytesWorld w 5 (s k)) ((Lib.bytesWorld w 5 (s k)).setCell ⟨g, k, none⟩ (.slice (some ⟨w.heap.size, 0, none⟩) (s k).size (grownCap w (s k).size 0 5))) := (Fr.refl [g] _).setCell (p := ⟨g, k, none⟩) (.inl (by simp)) _
  have hGlt : ∀ i, i < k → G i < w.heap.size := fun i hi => by
    obtain ⟨cur, h2, _⟩ := h.rows i hi
    exact lt_of_blk h2
  refine ⟨fun i => if i < k then G i else w.heap.size, fun i => if i < k then C i else grownCap w (s k).size 0 5, ?_, ?_, ?_, ?_, ?_⟩
  · refine (h1.row.stored k _).congr (fun j hj => ?_)
    by_cases hjk : j = k
    · subst hjk
      rw [if_pos rfl, if_pos (by omega), if_neg (by omega), if_neg (by omega)]
    · rw [if_neg hjk]
      by_cases hlt : j < k
      · rw [if_pos hlt, if_pos (by omega), if_pos hlt, if_pos hlt]
      · rw [if_neg hlt, if_neg (by omega)]
  · intro i hi
    by_cases hlt : i < k
    · rw [if_pos hlt, if_pos hlt]
      exact (h1.rows i hlt).kept hf2 (by simp; exact h.ne hlt)
    · obtain rfl : i = k := by omega
      rw [if_neg hlt, if_neg hlt]
      exact hr.kept hf2 (by simp; omega)
  · intro i j hij hj
    have hi : i < k := by omega
    rw [if_pos hi]
    by_cases hlt : j < k
    · rw [if_pos hlt]; exact h.up i j hij hlt
    · rw [if_neg hlt]; exact hGlt i hi
  · refine ⟨h.low.1, fun i hi => ?_⟩
    by_cases hlt : i < k
    · rw [if_pos hlt]; exact h.low.2 i hlt
    · rw [if_neg hlt]; exact hB
  · intro i hi j hj
    exact ⟨(byteAt_bd _ _).1, (byteAt_bd _ _).2, rfl⟩

/-- a byte is written -/
theorem Mat.write (h : Mat w B g n k G C f s) {i j : Nat} (hi : i < k) {x : Int} (h0 : 0 ≤ x) (h1 : x ≤ 255) (hx : lowI x = lowI (byteAt (s i) j)) :
    Mat (w.setCell ⟨G i, j, none⟩ (.int .u8 x)) B g n k G C (fun a b => if a = i ∧ b = j then x else f a b) s := by
  have hf : Fr [G i] w (w.setCell ⟨G i, j, none⟩ (.int .u8 x)) := (Fr.refl [G i] w).setCell (p := ⟨G i, j, none⟩) (.inl (by simp)) _
  refine ⟨h.row.kept hf (by simp; exact fun e => h.ne hi e.symm), fun a ha => ?_, h.up, h.low, fun a ha b hb => ?_⟩
  · by_cases he : a = i
    · subst he
      exact ((h.rows a ha).stored j x).congr (fun b _ => by
        by_cases hb : b = j
        · rw [if_pos hb, if_pos ⟨rfl, hb⟩]
        · rw [if_neg hb, if_neg (fun e => hb e.2)])
    · exact ((h.rows a ha).kept hf (by simp; exact h.inj ha hi he)).congr (fun b _ => by rw [if_neg (fun e => he e.1)])
  · by_cases he : a = i ∧ b = j
    · rw [if_pos he, he.1, he.2]; exact ⟨h0, h1, hx⟩
    · rw [if_neg he]; exact h.says a ha b hb

theorem Mat.keptO {w' : World} {row : Option Nat} (h : Mat w B g n k G C f s) (hg : w.grownBy w' row) (hrow : ∀ r, row = some r → ∃ o : Obj, w.heap[r]? = some o ∧ o.isCells = false) : Mat w' B g n k G C f s :=
  ⟨by obtain ⟨cur, h1, h2⟩ := h.row; exact ⟨cur, blk_keptO h1 hg hrow, h2⟩, fun i hi => by obtain ⟨cur, h1, h2⟩ := h.rows i hi; exact ⟨cur, blk_keptO h1 hg hrow, h2⟩, h.up, h.low, h.says⟩
end

theorem ltr_low : ∀ k : Fin 256, ltrI (k.val : Int) = (decide (97 ≤ lowI (k.val : Int)) && decide (lowI (k.val : Int) ≤ 122)) := by decide +kernel

theorem ltr_congr {a b : Int} (h0 : 0 ≤ a) (h1 : a ≤ 255) (h2 : 0 ≤ b) (h3 : b ≤ 255) (h : lowI a = lowI b) (hb : ltrI b = true) : ltrI a = true := by
  obtain ⟨k, rfl⟩ : ∃ k : Nat, a = (k : Int) := ⟨a.toNat, by omega⟩
  obtain ⟨m, rfl⟩ : ∃ m : Nat, b = (m : Int) := ⟨b.toNat, by omega⟩
  have e1 := ltr_low ⟨k, by omega⟩
  have e2 := ltr_low ⟨m, by omega⟩
  simp only at e1 e2
  rw [e1, h, ← e2]
  exact hb

theorem blk_neT {w : World} {b g n cap : Nat} {cs : Array Value} {T : TypeId} {f : Nat → Int} (h : w.heap[b]? = some (.cells cs T (0, 0))) (hr : RowT w g n cap f) : b ≠ g := by
  rintro rfl
  obtain ⟨cur, h1, _⟩ := hr
  rw [h] at h1
  simp at h1

/-- the bytes of a row, as a text -/
def mixB (f : Nat → Int) (m : Nat) : ByteArray := ⟨((List.range m).map (fun j => UInt8.ofNat (f j).toNat)).toArray⟩

theorem mixB_sm {f : Nat → Int} {t : ByteArray} (h : ∀ j, j < t.size → 0 ≤ f j ∧ f j ≤ 255 ∧ lowI (f j) = lowI (byteAt t j)) : smB (mixB f t.size) = smB t := by
  unfold smB mixB
  simp only [ByteArray.mk.injEq, List.map_map]
  congr 1
  apply List.ext_getElem
  · simp
  · intro j h1 h2
    have hj : j < t.size := by simpa using h1
    have hj' : j < t.data.size := hj
    obtain ⟨a1, a2, a3⟩ := h j hj
    have e1 : byteAt t j = ((t.data[j]).toNat : Int) := by
      unfold byteAt
      simp [List.getD_eq_getElem?_getD, Array.getElem?_eq_getElem hj']
    have e2 : lowB (UInt8.ofNat (f j).toNat) = lowB (t.data[j]) := by
      have l1 := lowB_int (UInt8.ofNat (f j).toNat)
      have l2 := lowB_int (t.data[j])
      have e3 : ((UInt8.ofNat (f j).toNat).toNat : Int) = f j := by
        simp
        omega
      rw [e3, a3, e1, ← l2] at l1
      exact UInt8.toNat_inj.1 (by omega)
    simp [e2]

theorem infoBy : (Tryd.prog.info? 35).map (fun i => (i.zero, i.size, i.bytes)) = some (some (.slice none 0 0), 1, 24) := by kernel_rfl

def MixGood (w : World) (n : Nat) (s : Nat → ByteArray) (e : Ending) (w' : World) : Prop :=
  ((∃ (v : Value) (t : Nat → ByteArray), e = .returned (.tuple #[v, .nilIface]) ∧ OwnF w' w.heap.size 9 v n (fun j => .string (t j)) ∧ ∀ j, j < n → smB (t j) = smB (s j)) ∨
    e = .returned (.tuple #[.slice none 0 0, .iface 25 (.int .i64 2)])) ∧ Fr [] w w'

set_option maxHeartbeats 8000000 in
set_option maxRecDepth 100000 in
theorem mix_any (w : World) (a : Option Addr) (n c : Nat) (s : Nat → ByteArray) (ab : Option Addr) (nb cb : Nat) (bit : Nat → Bool) (hs : RdF w (.slice a n c) n (fun j => .string (s j))) (hb : RdF w (.slice ab nb cb) nb (fun j => .bool (bit j)))
    (hss : ∀ j, j < n → (s j).size ≤ 63) (hnn : n ≤ 254) (hN : lets s n ≤ 1099511627776) (hsb : nb ≤ 140737488355328) :
    Calls Tryd.prog 17 #[.slice a n c, .slice ab nb cb] w (MixGood w n s) := by
  have hmk := fun (u : World) => run_mk (P := Tryd.prog) 100 35 infoBy Tryd.underlying100 n (by omega) (by unfold maxLen; omega) u
  have HS := Lib.hid hs
  have HBT := Lib.hid hb
  have HSS := Lib.hid hss
  clear hs hb hss
  refine (callsIn_wide (n := 4)).1 ?_
  have hro : Fence.wide.round = none := rfl
  refine callsIn_of_wp_marks Tryd.func17 rfl trivial ?_ hro
  simp only [Tryd.ntmps17, List.size_toArray, List.length_cons, List.length_nil, Nat.reduceAdd, Nat.reduceSub, Array.replicate_succ, Array.replicate_zero, List.push_toArray, List.append_toArray, List.nil_append, List.cons_append]
  refine wpIn_wide.2 ?_
  have HCL := Lib.hid (fun wx (h : Fr [] w wx) => lettersN_any wx a n c s (HS.out.fr h (by simp)) (fun j hj => Nat.le_trans (HSS.out j hj) (by decide)) (by omega) hN)
  go_upto_region 1 with fail
  have hb0 := Boxed.new w 56 (.slice ab nb cb)
  have HF0 := Lib.hid (show Fr [] w (w.alloc (.cells #[.slice ab nb cb] 56)) from (Fr.refl [] w).alloc _)
  have HB0 := Lib.hid hb0
  clear hb0
  generalize hg : w.alloc (.cells #[.slice ab nb cb] 56) = w0 at *
  have HHG := Lib.hid hg
  clear hg
  have c4 := HB0.out.cell
  have HFD := Lib.hid (show Fr [] w w0.drew from HF0.out.drew)
  have HFE := Lib.hid (show Fr [] w0 w0.drew from (Fr.refl [] w0).drew)
  by_cases hlt : nb < lets s n
  · have k1 : (nb : Int) < (lets s n : Int) := by omega
    go_region_held3 (fun wx => wx.cell? ⟨w.heap.size, 0, none⟩ = some (.slice ab nb cb)) (first | exact c4 | exact HY4.out | fail)
      (first | (go_at_call 41; (with_reducible refine (HCL.out _ HFD.out).mono ?_); rintro e wx ⟨rfl, hfx⟩; have HXF := Lib.hid (HFE.out.trans hfx (by simp)); have HY4 := Lib.hid (hfx.cell (p := ⟨w.heap.size, 0, none⟩) (v := .slice ab nb cb) c4 (by simp)); have y4 := HY4.out) | fail)
    clear y4 hfx
    have HF1 := Lib.hid (HF0.out.trans HXF.out (by simp))
    go_wp2
    exact ⟨.tuple #[.slice none 0 0, .iface 25 (.int .i64 2)], by simp [results, Tryd.results17, go_sem], .inr rfl, HF1.out⟩
  · have k1 : ¬ (nb : Int) < (lets s n : Int) := by omega
    have HNB := Lib.hid hlt
    clear hlt
    go_region_held3 (fun wx => wx.cell? ⟨w.heap.size, 0, none⟩ = some (.slice ab nb cb)) (first | exact c4 | exact HY4.out | fail)
      (first | (go_at_call 41; (with_reducible refine (HCL.out _ HFD.out).mono ?_); rintro e wx ⟨rfl, hfx⟩; have HXF := Lib.hid (HFE.out.trans hfx (by simp)); have HY4 := Lib.hid (hfx.cell (p := ⟨w.heap.size, 0, none⟩) (v := .slice ab nb cb) c4 (by simp)); have y4 := HY4.out) | fail)
    clear y4 hfx c4 k1
    have HF1 := Lib.hid (HF0.out.trans HXF.out (by simp))
    have HB1 := Lib.hid (HXF.out.blk HB0.out (by simp))
    clear HXF HFE HFD HB0 HHG HF0 HCL HY4
    go_wp2
    have HM0 := Lib.hid ((Mat.start wx w.heap.size n s HF1.out.size hnn).kept ((Fr.refl [] _).alloc (.cells #[.slice (some ⟨wx.heap.size, 0, none⟩) n n] 100)) (by simp) (fun i hi => by omega))
    have HA0 := Lib.hid (Boxed.new (wx.alloc (.cells (madeCells #[.slice none 0 0] n) 35)) 100 (.slice (some ⟨wx.heap.size, 0, none⟩) n n))
    have HB2 := Lib.hid ((((Fr.refl [] wx).alloc (.cells (madeCells #[.slice none 0 0] n) 35)).alloc (.cells #[.slice (some ⟨wx.heap.size, 0, none⟩) n n] 100)).blk HB1.out (by simp))
    have HF2 := Lib.hid ((HF1.out.alloc (.cells (madeCells #[.slice none 0 0] n) 35)).alloc (.cells #[.slice (some ⟨wx.heap.size, 0, none⟩) n n] 100))
    have HG0 := Lib.hid (lt_of_blk HB1.out)
    rw [World.size_alloc] at HA0
    generalize (wx.alloc (.cells (madeCells #[.slice none 0 0] n) 35)).alloc (.cells #[.slice (some ⟨wx.heap.size, 0, none⟩) n n] 100) = W2 at *
    generalize hg : wx.heap.size = g at *
    clear hg HF1 HB1
    have HSZ := Lib.hid (HB2.out)
    go_loopw [26] (fun vi wr => ∃ k : Nat, k ≤ n ∧ vi = .int .i64 k ∧ (∃ G C, Mat wr w.heap.size g n k G C (fun i j => byteAt (s i) j) s) ∧ Boxed wr (g + 1) 100 (.slice (some ⟨g, 0, none⟩) n n) ∧ Boxed wr w.heap.size 56 (.slice ab nb cb) ∧ Fr [] w wr) (fun vi _ => n - (intOf vi).toNat)
    case atStart => exact ⟨0, by omega, rfl, ⟨_, _, HM0.out⟩, HA0.out, HB2.out, HF2.out⟩
    case round =>
      clear HM0 HA0 HB2 HF2 HSZ
      obtain ⟨k, hk, rfl, ⟨G, C, hM⟩, hA, hB, hf⟩ := hrel
      by_cases hlt : k < n
      · obtain ⟨b1, o1, c1, he1, hn1, hm1, _, hc1⟩ := (HS.out.fr hf (by simp)).shape (by omega)
        simp only [Value.slice.injEq, true_and] at he1
        obtain ⟨rfl, rfl⟩ := he1
        clear hn1 hm1
        have k1 := hc1 k hlt
        clear hc1
        have k0 : (0 : Int) ≤ (k : Int) := by omega
        have k3 : (k : Int) < (n : Int) := by omega
        have hcv := Go.Lib.run_convert_string_bytes (P := Tryd.prog) wr 9 35 5 (s k) Tryd.underlying9 Tryd.underlying35 Tryd.underlying5
        have HPUT := Lib.hid (hM.put hlt hf.size)
        obtain ⟨_, hbf⟩ := bytes_row wr (s k)
        have HAL := Lib.hid (show g ≠ g + 1 by omega)
        have z0 : (Lib.bytesWorld wr 5 (s k)).frozen? ⟨g, k, none⟩ = false := (hM.row.kept hbf (by simp)).frozen k
        have z1 : (Lib.bytesWorld wr 5 (s k)).cell? ⟨g, k, none⟩ = some (.slice none 0 0) := by
          have := (hM.row.kept hbf (by simp)).cell k hlt
          rwa [if_neg (by omega)] at this
        have a1 := hA.cell
        have a2 : (Lib.bytesWorld wr 5 (s k)).cell? ⟨g + 1, 0, none⟩ = some (.slice (some ⟨g, 0, none⟩) n n) := hbf.cell a1 (by simp)
        have HFS := Lib.hid (show Fr [g] wr ((Lib.bytesWorld wr 5 (s k)).setCell ⟨g, k, none⟩ (.slice (some ⟨wr.heap.size, 0, none⟩) (s k).size (grownCap wr (s k).size 0 5))) from (hbf.mono (S' := [g]) (by simp)).trans ((Fr.refl [g] _).setCell (p := ⟨g, k, none⟩) (.inl (by simp)) _) (fun x hx => .inl hx))
        have HA1 := Lib.hid (HFS.out.blk hA (by simp))
        have HB1 := Lib.hid (HFS.out.blk hB (by have := HG0.out; simp; omega))
        have HF1 := Lib.hid (hf.trans HFS.out (by have := HG0.out; simp; omega))
        clear hM hA hB hf hbf HFS
        go_wp2
        go_roundw
        case rel => exact ⟨k + 1, by omega, by go_num, HPUT.out, HA1.out, HB1.out, HF1.out⟩
        case measure => (simp [intOf]; omega)
      · obtain rfl : n = k := by omega
        go_wp2_with (go_at_call 42; refine (callsIn_wide.1 (letters_in Fence.wide 3 trivial hro _ a n c)).mono ?_; rintro e w' ⟨rfl, rfl⟩)
        have HC3 := Lib.hid ((Boxed.new wr 3 (.int .i64 0)).alloc (.cells #[.slice a n c] 58))
        have HX3 := Lib.hid (Boxed.new (wr.alloc (.cells #[.int .i64 0] 3)) 58 (.slice a n c))
        have hfr3 : Fr [] wr ((wr.alloc (.cells #[.int .i64 0] 3)).alloc (.cells #[.slice a n c] 58)) := ((Fr.refl [] wr).alloc _).alloc _
        have HM3 := Lib.hid (hM.kept hfr3 (by simp) (fun i hi => by simp))
        have HA3 := Lib.hid (hfr3.blk hA (by simp))
        have HB3 := Lib.hid (hfr3.blk hB (by simp))
        have HF3 := Lib.hid (hf.trans hfr3 (by simp))
        have HS3 := Lib.hid (show ((wr.alloc (.cells #[.int .i64 0] 3)).alloc (.cells #[.slice a n c] 58)).heap.size = wr.heap.size + 2 by simp)
        have HG3 := Lib.hid (show g + 1 < wr.heap.size from lt_of_blk hA)
        rw [World.size_alloc] at HX3
        clear hM hA hB hf hfr3 hmk
        generalize (wr.alloc (.cells #[.int .i64 0] 3)).alloc (.cells #[.slice a n c] 58) = W3 at *
        generalize wr.heap.size = B9 at *
        refine wpIn_wide.1 (wpIn_rangeFunc_ownF (n := 4) hro (by decide) (gf := 76) (lb := #[.pointer (some ⟨B9 + 1, 0, none⟩)]) rfl trivial (enters_of Tryd.func76 (by kernel_rfl) rfl)
          (letters_stops Fence.wide 3 trivial trivial hro (by decide) (B9 + 1) w.heap.size n c a s W3 (by rw [HS3.out]; omega) HX3.out.cell HF3.out.size (fun W' h => HS.out.fr (Fr.of_below ((HF3.out.below _ (Nat.le_refl _) (by simp)).trans h) []) (by simp)) (fun j hj => Nat.le_trans (HSS.out j hj) (by decide)) (by omega)) belowK_t (belowK_b HF3.out.size) (Below.refl _ _) (fun _ => rfl)
          (fun pre W => (Boxed W B9 3 (.int .i64 (pre.length : Int)) ∧ Boxed W (g + 1) 100 (.slice (some ⟨g, 0, none⟩) n n) ∧ Boxed W w.heap.size 56 (.slice ab nb cb) ∧ ∃ G C f, Mat W w.heap.size g n n G C f s) ∧ Below w.heap.size w W)
          (fun _ _ _ => False)
          (OwnFrom.and (fun s A B row hs hg hr => ⟨blk_keptO (show A.heap[B9]? = some (.cells #[_] _ _) from hs.1) hg (fun r e => (hr r e).2), blk_keptO (show A.heap[g + 1]? = some (.cells #[_] _ _) from hs.2.1) hg (fun r e => (hr r e).2), blk_keptO (show A.heap[w.heap.size]? = some (.cells #[_] _ _) from hs.2.2.1) hg (fun r e => (hr r e).2), by obtain ⟨G, C, f, h⟩ := hs.2.2.2; exact ⟨G, C, f, h.keptO hg (fun r e => (hr r e).2)⟩⟩) (ownFrom_below (Nat.le_refl _) HF3.out.size))
          (fun _ _ _ _ _ hs _ _ => hs)
          ⟨⟨HC3.out, HA3.out, HB3.out, _, _, _, HM3.out⟩, HF3.out.below _ (Nat.le_refl _) (by simp)⟩
          (fun x => { tmps := #[.slice a n c, .slice ab nb cb, undef, .pointer (some ⟨w.heap.size, 0, none⟩), .slice none 0 0, .nilIface, .pointer (some ⟨g + 1, 0, none⟩), u7, u8, .pointer (some ⟨B9, 0, none⟩), .int .i64 x.i, .int .i64 x.k, undef, undef, undef,
            .slice ab nb cb, .int .i64 nb, .slice a n c, .int .i64 (lets s n), .bool false, undef, .slice a n c, .int .i64 n, .slice (some ⟨g, 0, none⟩) n n, .slice a n c, .int .i64 n, .int .i64 n, .bool false, u28, u29, u30, u31, u32, u33, u34, u35, u36, .slice a n c,
            .func (.func 76) #[] #[.pointer (some ⟨B9 + 1, 0, none⟩)], .int .i64 x.i, .int .i64 x.k, undef, undef, undef, undef, undef, undef, undef, undef, undef, undef, undef, undef, undef, undef, undef, undef, undef, undef, undef, undef, undef, undef, undef, undef, undef, undef, undef, undef, undef, undef, undef, undef, undef, undef, undef, undef, undef], defers := [] }) ?assign ?body ?done ?stop)
        case assign =>
          intro l x W K hK
          unfold LPlace.encs
          gi_wp2
          simpa using hK
        case body =>
          rintro l pre x W ⟨⟨hc, hA, hB, G, C, f, hM⟩, hbel⟩ hlt2
          obtain ⟨xi, xk, hxi, hxk, hxl⟩ := x
          have hsay := hM.says xi hxi xk hxk
          obtain ⟨y1, y2, y3, y4⟩ := ltr_of hsay.1 hsay.2.1 (ltr_congr hsay.1 hsay.2.1 (byteAt_bd _ _).1 (byteAt_bd _ _).2 hsay.2.2 hxl)
          rw [hsay.2.2] at y3 y4
          have HM1 := Lib.hid (hM.write (j := xk) hxi (x := bits .or .u8 (f xi xk) 32) (by omega) (by omega) y3)
          have hGn := hM.ne hxi
          have hGB : w.heap.size ≤ G xi := hM.low.2 xi hxi
          have hgr := hM.row.cell xi hxi
          rw [if_pos hxi] at hgr
          have hcl := (hM.rows xi hxi).cell xk hxk
          have hfz := (hM.rows xi hxi).frozen xk hxk
          obtain ⟨b2, o2, c2, he2, hn2, hm2, hlt3, hc2⟩ := HBT.out.shape (by have := HNB.out; omega)
          simp only [Value.slice.injEq, true_and] at he2
          obtain ⟨rfl, rfl⟩ := he2
          have hbt := hbel.cell (p := ⟨b2, o2 + pre.length, none⟩) hlt3
          rw [hc2 pre.length (by have := HNB.out; omega)] at hbt
          have HPB := Lib.hid (show pre.length < nb by have := HNB.out; omega)
          have p0 : (0 : Int) ≤ (pre.length : Int) := by omega
          have p1 : (pre.length : Int) < (nb : Int) := by have := HPB.out; omega
          have i0 : (0 : Int) ≤ (xi : Int) := by omega
          have i1 : (xi : Int) < (n : Int) := by omega
          have j0 : (0 : Int) ≤ (xk : Int) := by omega
          have j1 : (xk : Int) < ((s xi).size : Int) := by omega
          have HF := Lib.hid (show Fr [G xi] W (W.setCell ⟨G xi, xk, none⟩ (.int .u8 (bits .or .u8 (f xi xk) 32))) from (Fr.refl [G xi] W).setCell (p := ⟨G xi, xk, none⟩) (.inl (by simp)) _)
          have HGB := Lib.hid hGB
          have nA : g + 1 ≠ G xi := blk_neT hA (hM.rows xi hxi)
          have nB : w.heap.size ≠ G xi := blk_neT hB (hM.rows xi hxi)
          have nC : B9 ≠ G xi := blk_neT hc (hM.rows xi hxi)
          have a1 := hA.cell
          have c1 := hc.cell
          have b1 := hB.cell
          have a2 := blk_cell (HF.out.blk hA (by simpa using nA)) 0 (v := .slice (some ⟨g, 0, none⟩) n n) rfl
          have c2' := blk_cell (HF.out.blk hc (by simpa using nC)) 0 (v := .int .i64 (pre.length : Int)) rfl
          have b2' := blk_cell (HF.out.blk hB (by simpa using nB)) 0 (v := .slice (some ⟨b2, o2, none⟩) nb cb) rfl
          have hbt2 := HF.out.cell hbt (by simp; omega)
          have HL := Lib.hid (show ((pre.length : Int) + 1) = ((pre ++ [(⟨xi, xk, hxi, hxk, hxl⟩ : LPlace s n)]).length : Int) by rw [List.length_append]; rfl)
          have HM := Lib.hid hM
          have Hc := Lib.hid hc
          have HA := Lib.hid hA
          have HB := Lib.hid hB
          have HBL := Lib.hid hbel
          have HSAY := Lib.hid hsay
          have HY := Lib.hid (And.intro y1 (And.intro y2 (And.intro y3 y4)))
          have hcz := hc.frozen
          have HFIN := Lib.hid (fun (W1 : World) (f1 : Nat → Nat → Int) (h1 : Mat W1 w.heap.size g n n G C f1 s) (h2 : Fr [G xi] W W1) (h3 : KeepsOthers W W1) =>
            show KeepsOthers W (W1.setCell ⟨B9, 0, none⟩ (.int .i64 ((pre ++ [(⟨xi, xk, hxi, hxk, hxl⟩ : LPlace s n)]).length : Int))) ∧ Below w.heap.size W (W1.setCell ⟨B9, 0, none⟩ (.int .i64 ((pre ++ [(⟨xi, xk, hxi, hxk, hxl⟩ : LPlace s n)]).length : Int))) ∧
              (Boxed (W1.setCell ⟨B9, 0, none⟩ (.int .i64 ((pre ++ [(⟨xi, xk, hxi, hxk, hxl⟩ : LPlace s n)]).length : Int))) B9 3 (.int .i64 ((pre ++ [(⟨xi, xk, hxi, hxk, hxl⟩ : LPlace s n)]).length : Int)) ∧
              Boxed (W1.setCell ⟨B9, 0, none⟩ (.int .i64 ((pre ++ [(⟨xi, xk, hxi, hxk, hxl⟩ : LPlace s n)]).length : Int))) (g + 1) 100 (.slice (some ⟨g, 0, none⟩) n n) ∧ Boxed (W1.setCell ⟨B9, 0, none⟩ (.int .i64 ((pre ++ [(⟨xi, xk, hxi, hxk, hxl⟩ : LPlace s n)]).length : Int))) w.heap.size 56 (.slice (some ⟨b2, o2, none⟩) nb cb) ∧
              ∃ G C f, Mat (W1.setCell ⟨B9, 0, none⟩ (.int .i64 ((pre ++ [(⟨xi, xk, hxi, hxk, hxl⟩ : LPlace s n)]).length : Int))) w.heap.size g n n G C f s) ∧ Below w.heap.size w (W1.setCell ⟨B9, 0, none⟩ (.int .i64 ((pre ++ [(⟨xi, xk, hxi, hxk, hxl⟩ : LPlace s n)]).length : Int))) by
            have g0 := HG0.out
            have g3 := HG3.out
            have hf5 : Fr [B9] W1 (W1.setCell ⟨B9, 0, none⟩ (.int .i64 ((pre ++ [(⟨xi, xk, hxi, hxk, hxl⟩ : LPlace s n)]).length : Int))) := (Fr.refl [B9] W1).setCell (p := ⟨B9, 0, none⟩) (.inl (by simp)) _
            have hb5 : Below w.heap.size W (W1.setCell ⟨B9, 0, none⟩ (.int .i64 ((pre ++ [(⟨xi, xk, hxi, hxk, hxl⟩ : LPlace s n)]).length : Int))) := (h2.below _ hbel.size (by simpa using hGB)).trans (hf5.below _ (Nat.le_trans hbel.size h2.size) (by simp; omega))
            refine ⟨h3.trans (KeepsOthers.setCell _ _ _), hb5, ⟨Boxed.set _ (h2.blk hc (by simpa using nC)), hf5.blk (h2.blk hA (by simpa using nA)) (by simp; omega), hf5.blk (h2.blk hB (by simpa using nB)) (by simp; omega), G, C, f1, h1.kept hf5 (by simp; omega) (fun i hi => ?_)⟩, hbel.trans hb5⟩
            have := blk_neT (h2.blk hc (by simpa using nC)) (h1.rows i hi)
            simp; omega)
          clear hM hc hA hB hbel hsay y1 y2 y3 y4 hGB hc2
          by_cases hbit : bit pre.length = true
          · rw [hbit] at hbt hbt2
            have HM2 := Lib.hid (HM1.out.write (j := xk) hxi (x := bits .or .u8 (f xi xk) 32 - 32) (by have := HY.out; omega) (by have := HY.out; omega) HY.out.2.2.2)
            have HF2 := Lib.hid (HF.out.setCell (p := ⟨G xi, xk, none⟩) (.inl (by simp)) (.int .u8 (bits .or .u8 (f xi xk) 32 - 32)))
            have v1 : IntKind.u8.wrap (bits .or .u8 (f xi xk) 32 - 32) = bits .or .u8 (f xi xk) 32 - 32 := IntWalk.u8_in _ (by have := HY.out; omega)
            have r2 := HM1.out.row.cell xi hxi
            rw [if_pos hxi] at r2
            have z2 := (HM1.out.rows xi hxi).frozen xk hxk
            have e2 := (HM1.out.rows xi hxi).cell xk hxk
            rw [if_pos ⟨rfl, rfl⟩] at e2
            have c3 := blk_cell (HF2.out.blk Hc.out (by simpa using nC)) 0 (v := .int .i64 (pre.length : Int)) rfl
            have z3 := blk_frozen (HF2.out.blk Hc.out (by simpa using nC)) 0
            gi_wp2
            rw [HL.out]
            exact HFIN.out _ _ HM2.out HF2.out ((KeepsOthers.setCell _ _ _).trans (KeepsOthers.setCell _ _ _))
          · have hbit' : bit pre.length = false := by simpa using hbit
            rw [hbit'] at hbt hbt2
            have z2 := blk_frozen (HF.out.blk Hc.out (by simpa using nC)) 0
            gi_wp2
            rw [HL.out]
            exact HFIN.out _ _ HM1.out HF.out (KeepsOthers.setCell _ _ _)
        case done =>
          rintro D ys W hD hys ⟨⟨hc, hA, hB, G, C, f, hM⟩, hbel⟩ hK
          have a1 := hA.cell
          go_wp2
          have HM := Lib.hid hM
          have HK := Lib.hid hK
          have HBL := Lib.hid hbel
          have HDD := Lib.hid (show w.heap.size ≤ D from Nat.le_trans HF3.out.size hD)
          have HSAY := Lib.hid (fun i hi => mixB_sm (f := f i) (t := s i) (fun j hj => hM.says i hi j hj))
          clear hM hK hbel hD hys hc hA hB a1 HM3 HA3 HB3 HF3 HC3 HX3 HS3
          go_loopw [12, 67] (fun vo vi wr => ∃ k : Nat, k ≤ n ∧ vi = .int .i64 k ∧ OwnF wr w.heap.size 9 vo k (fun j => .string (mixB (f j) (s j).size)) ∧ Fr [] W wr ∧ w.heap.size ≤ wr.heap.size ∧ (∀ x ∈ vo.ownBlock.toList, W.heap.size ≤ x)) (fun _ vi _ => n - (intOf vi).toNat)
          case atStart => exact ⟨0, by omega, rfl, OwnF.nil _ _ _ _, Fr.refl _ _, HBL.out.size, by simp [Value.ownBlock]⟩
          case round =>
            obtain ⟨k, hk, rfl, ho, hf, hsz, hob⟩ := hrel
            by_cases hlt : k < n
            · have HO := Lib.hid ho
              have HF := Lib.hid hf
              have HOB := Lib.hid hob
              have g1 := (HM.out.row.kept hf (by simp)).cell k hlt
              rw [if_pos hlt] at g1
              have hR := (HM.out.rows k hlt).kept hf (by simp)
              have hsk := HSAY.out k hlt
              have k0 : (0 : Int) ≤ (k : Int) := by omega
              have k3 : (k : Int) < (n : Int) := by omega
              have hcv := run_convert_bytes_back (P := Tryd.prog) wr 35 9 5 ⟨G k, 0, none⟩ (C k) ((List.range (s k).size).map (fun j => UInt8.ofNat (f k j).toNat)) Tryd.underlying35 Tryd.underlying5 Tryd.underlying9 (fun j hj => by
                have hj2 : j < (s k).size := by simpa using hj
                have e : (⟨G k, 0, none⟩ : Addr).add j = ⟨G k, j, none⟩ := by unfold Addr.add; split <;> simp_all
                rw [e, hR.cell j hj2]
                obtain ⟨a1, a2, _⟩ := HM.out.says k hlt j hj2
                simp
                omega)
              rw [List.length_map, List.length_range] at hcv
              rw [show (⟨((List.range (s k).size).map (fun j => UInt8.ofNat (f k j).toNat)).toArray⟩ : ByteArray) = mixB (f k) (s k).size from rfl] at hcv
              clear hR ho hf hob hsk
              go_wp2_with (at_builtin; refine wpList_app rfl (.tmp 71) (.tmp 74) 58 rfl 9 infoStr Tryd.underlying58 rfl (HO.out.alloc _) rfl (rd_one _ _ _ rfl) rfl (fun _ _ => rfl) (by unfold maxLen; omega) (by omega) (by simp; omega) ?_; intro v' w3 hown' hfr hno)
              have HO3 := Lib.hid (hown'.congr (f' := fun j => .string (mixB (f j) (s j).size)) (fun j hj => by
                unfold app
                by_cases h : j < k
                · rw [if_pos h]
                · rw [if_neg h, show j = k by omega]))
              have HF3 := Lib.hid ((HF.out.alloc _).trans hfr (fun x hx => .inr (HOB.out x hx)))
              have HOB3 := Lib.hid (show ∀ x ∈ v'.ownBlock.toList, W.heap.size ≤ x from fun x hx => by
                rcases hno x hx with h | h
                · exact HOB.out x h
                · have := HF.out.size; simp at h; omega)
              clear hown' hfr hno
              go_roundw
              case rel => exact ⟨k + 1, by omega, by go_num, HO3.out, HF3.out, Nat.le_trans HBL.out.size HF3.out.size, HOB3.out⟩
              case measure => (simp [intOf]; omega)
            · obtain rfl : n = k := by omega
              go_wp2
              have hK := hf.blk HK.out (by simp)
              refine ⟨by simp, .inl ⟨_, _, rfl, run_takeDeferred hK, ?_⟩⟩
              have hfd : Fr [D] wr (wr.putObj D (.deferred none)) := Fr.of_grown (grownBy_putObj' wr D (.deferred none)) [D] (fun k e => by cases e; exact .inl (by simp))
              refine ⟨.tuple #[u12, .nilIface], by simp [results, Tryd.results17, go_sem], .inl ⟨u12, fun j => mixB (f j) (s j).size, rfl, ho.kept hfd (fun x hx e => ?_), HSAY.out⟩, ?_⟩
              · simp only [List.mem_singleton] at e
                subst e
                rcases ho with ⟨rfl, _⟩ | ⟨g', cap', rfl, _, hrow⟩
                · simp [Value.ownBlock] at hx
                · simp only [Value.ownBlock, Option.some.injEq] at hx
                  subst hx
                  obtain ⟨cur, h1, _⟩ := hrow
                  rw [h1] at hK
                  cases hK
              · exact Fr.of_below ((HBL.out.trans (hf.below _ HBL.out.size (by simp))).trans (hfd.below _ hsz (by simpa using HDD.out))) _
        case stop =>
          rintro D c pre W _ _ h _
          exact h.elim

end Go.Proofs.YtcfdlilhhfaaaaaDoor

namespace Go.Proofs.YtcfdlilhhfaaaaaDoor
open Go.RowKit

/-- how long a name is, so far -/
def nsz (s : Nat → ByteArray) : Nat → Int
  | 0 => 1
  | k + 1 => min (nsz s k + ((s k).size + 1)) 1073741824

theorem nsz_bd (s : Nat → ByteArray) (k : Nat) : 1 ≤ nsz s k ∧ nsz s k ≤ 1073741824 := by
  induction k with
  | zero => simp [nsz]
  | succ k ih => simp only [nsz]; omega

/-- is one of the first k labels too short, or too long? -/
def lbad (s : Nat → ByteArray) : Nat → Bool
  | 0 => false
  | k + 1 => lbad s k || (decide ((s k).size < 1) || decide (63 < (s k).size))

theorem lbad_true {s : Nat → ByteArray} {k n : Nat} (hk : k < n) (h : (s k).size < 1 ∨ 63 < (s k).size) : lbad s n = true := by
  induction n with
  | zero => omega
  | succ n ih =>
    simp only [lbad]
    by_cases e : k = n
    · subst e
      rcases h with h | h <;> simp [h]
    · rw [ih (by omega), Bool.true_or]

/-- what is wrong with a name -/
def nmFault (n : Nat) (s : Nat → ByteArray) : Int := if lbad s n = true then 3 else if 255 < nsz s n then 5 else 0

def erVn (z : Int) : Value := if z = 0 then .nilIface else .iface 25 (.int .i64 z)

set_option maxHeartbeats 2000000 in
set_option maxRecDepth 100000 in
theorem nameCheck_any (w : World) (a : Option Addr) (n c : Nat) (s : Nat → ByteArray) (hs : RdF w (.slice a n c) n (fun j => .string (s j))) (hss : ∀ j, j < n → (s j).size ≤ 140737488355328) :
    Calls Tryd.prog 55 #[.slice a n c] w fun e w' => e = .returned (erVn (nmFault n s)) ∧ w = w' := by
  have hcb := hs.le_cap
  unfold maxLen at hcb
  have HS := Lib.hid hs; clear hs
  have HSS := Lib.hid hss; clear hss
  go_enter Tryd.func55, Tryd.ntmps55
  go_wp2
  go_loop [3, 8] (fun vz vi => ∃ k : Nat, k ≤ n ∧ vi = .int .i64 k ∧ vz = .int .i64 (nsz s k) ∧ lbad s k = false) (fun _ vi => n - (intOf vi).toNat)
  case atStart => exact ⟨0, by omega, rfl, rfl, rfl⟩
  case round =>
    obtain ⟨k, hk, rfl, rfl, hbad⟩ := hrel
    have HBAD := Lib.hid hbad; clear hbad
    have hz := nsz_bd s k
    by_cases hlt : k < n
    · obtain ⟨b1, o1, c1, he1, _, _, _, hc1⟩ := HS.out.shape (by omega)
      simp only [Value.slice.injEq, true_and] at he1
      obtain ⟨rfl, rfl⟩ := he1
      have c0 := hc1 k hlt
      clear hc1
      have hl := HSS.out k hlt
      have HT := Lib.hid (fun h => lbad_true (s := s) (k := k) (n := n) hlt h)
      have HNS := Lib.hid (show nsz s (k + 1) = min (nsz s k + ((s k).size + 1)) 1073741824 from rfl)
      have HLB := Lib.hid (show lbad s (k + 1) = (lbad s k || (decide ((s k).size < 1) || decide (63 < (s k).size))) from rfl)
      generalize nsz s k = z at *
      generalize s k = sk at *
      by_cases h1 : sk.size < 1
      · have HE := Lib.hid (show nmFault n s = 3 by unfold nmFault; rw [if_pos (HT.out (.inl h1))])
        have d1 : sk.size = 0 := by omega
        have d0 : decide ((sk.size : Int) < 1) = true := by simp; omega
        go_wp2
        go_ret
        exact ⟨by rw [HE.out]; rfl, rfl⟩
      · by_cases h2 : 63 < sk.size
        · have HE := Lib.hid (show nmFault n s = 3 by unfold nmFault; rw [if_pos (HT.out (.inr h2))])
          have d1 : ¬ sk.size = 0 := by omega
          go_wp2
          go_ret
          exact ⟨by rw [HE.out]; rfl, rfl⟩
        · have HB2 := Lib.hid (show lbad s (k + 1) = false by rw [HLB.out, HBAD.out, decide_eq_false h1, decide_eq_false h2]; rfl)
          have d1 : ¬ sk.size = 0 := by omega
          by_cases h3 : 1073741824 < z + ((sk.size : Int) + 1)
          · have HN2 := Lib.hid (show nsz s (k + 1) = 1073741824 by rw [HNS.out]; omega)
            go_wp2
            go_round
            case rel => exact ⟨k + 1, by omega, by go_num, by rw [HN2.out], HB2.out⟩
            case measure => simp [intOf]; omega
          · have HN2 := Lib.hid (show nsz s (k + 1) = z + ((sk.size : Int) + 1) by rw [HNS.out]; omega)
            go_wp2
            go_round
            case rel => exact ⟨k + 1, by omega, by go_num, by rw [HN2.out], HB2.out⟩
            case measure => simp [intOf]; omega
    · obtain rfl : k = n := by omega
      by_cases h255 : 255 < nsz s k
      · have HE := Lib.hid (show nmFault k s = 5 by unfold nmFault; rw [if_neg (by rw [HBAD.out]; decide), if_pos h255])
        generalize nsz s k = z at *
        go_wp2
        go_ret
        exact ⟨by rw [HE.out]; rfl, rfl⟩
      · have HE := Lib.hid (show nmFault k s = 0 by unfold nmFault; rw [if_neg (by rw [HBAD.out]; decide), if_neg h255])
        generalize nsz s k = z at *
        go_wp2
        go_ret
        exact ⟨by rw [HE.out]; rfl, rfl⟩

end Go.Proofs.YtcfdlilhhfaaaaaDoor

namespace Go.Proofs.YtcfdlilhhfaaaaaDoor
open Go.RowKit

/-- the types of the blocks that a cache writes -/
def hotT (T : TypeId) : Bool := T == 71 || T == 95 || T == 43

/-- from where on a cache writes blocks of its types; some blocks of others that may be written besides -/
structure HB where
  n : Nat
  s : List Nat

instance : Coe HB Nat := ⟨HB.n⟩

/-- they are there -/
structure HB.In (B : HB) (w : World) : Prop where
  n : B.n ≤ w.heap.size
  s : ∀ x ∈ B.s, x < w.heap.size

theorem HB.In.mono {B : HB} {w w' : World} (h : B.In w) (hs : w.heap.size ≤ w'.heap.size) : B.In w' := ⟨Nat.le_trans h.n hs, fun x hx => Nat.lt_of_lt_of_le (h.s x hx) hs⟩

/-- a block that may be written -/
def Hot (B : HB) (w : World) (k : Nat) : Prop := (B.n ≤ k ∧ ∃ cs T z, w.heap[k]? = some (.cells cs T z) ∧ hotT T = true) ∨ k ∈ B.s

/-- All but the cache's own blocks is as it was. -/
structure FrH (B : HB) (w w' : World) : Prop where
  os : w'.os = w.os
  tape : w'.tape = w.tape
  output : w'.output = w.output
  size : w.heap.size ≤ w'.heap.size
  block : ∀ k, k < w.heap.size → ¬ Hot B w k → w'.heap[k]? = w.heap[k]?

theorem hot_congr {B : HB} {w w' : World} {k : Nat} (h : w'.heap[k]? = w.heap[k]?) : Hot B w' k ↔ Hot B w k := by
  unfold Hot
  rw [h]

theorem FrH.refl (B : HB) (w : World) : FrH B w w := ⟨rfl, rfl, rfl, Nat.le_refl _, fun _ _ _ => rfl⟩

theorem FrH.trans {B : HB} {a b c : World} (h : FrH B a b) (k : FrH B b c) : FrH B a c :=
  ⟨k.os.trans h.os, k.tape.trans h.tape, k.output.trans h.output, Nat.le_trans h.size k.size, fun i hi hn =>
    (k.block i (Nat.lt_of_lt_of_le hi h.size) (fun hh => hn ((hot_congr (h.block i hi hn)).1 hh))).trans (h.block i hi hn)⟩

theorem Fr.hot {S : List Nat} {w w' : World} (B : HB) (h : Fr S w w') (hs : ∀ x ∈ S, x < w.heap.size → Hot B w x) : FrH B w w' :=
  ⟨h.os, h.tape, h.output, h.size, fun k hk hn => h.block k hk (fun hm => hn (hs k hm hk))⟩

theorem Fr.hot0 {w w' : World} (B : HB) (h : Fr [] w w') : FrH B w w' := h.hot B (fun x hx => by simp at hx)

theorem FrH.below {B : HB} {w w' : World} (h : FrH B w w') (C : Nat) (h1 : C ≤ B) (h2 : C ≤ w.heap.size) (h3 : ∀ x ∈ B.s, C ≤ x) : Below C w w' :=
  ⟨h.os, h.tape, h.output, h.size, fun k hk => h.block k (by omega) (fun hh => by
    rcases hh with hh | hh
    · have := hh.1; omega
    · have := h3 k hh; omega)⟩

/-- where a slice's cells lie, no cache writes -/
def Cold (B : HB) (w : World) (v : Value) : Prop := ∀ b o n c, v = .slice (some ⟨b, o, none⟩) n c → 0 < n → b < w.heap.size ∧ ¬ Hot B w b

theorem Cold.frH {B : HB} {w w' : World} {v : Value} (h : Cold B w v) (hf : FrH B w w') : Cold B w' v := fun b o n c e hn => by
  obtain ⟨h1, h2⟩ := h b o n c e hn
  exact ⟨Nat.lt_of_lt_of_le h1 hf.size, fun hh => h2 ((hot_congr (hf.block b h1 h2)).1 hh)⟩

/-- which blocks of others may be written turns, but for those that are there -/
theorem Cold.turn {B B' : HB} {w : World} {v : Value} (h : Cold B w v) (hn : B'.n = B.n) (hs : ∀ x ∈ B'.s, x ∈ B.s ∨ w.heap.size ≤ x) : Cold B' w v := fun b o n c e hm => by
  obtain ⟨h1, h2⟩ := h b o n c e hm
  refine ⟨h1, fun hh => ?_⟩
  rcases hh with hh | hh
  · exact h2 (.inl ⟨by rw [← hn]; exact hh.1, hh.2⟩)
  · rcases hs b hh with h3 | h3
    · exact h2 (.inr h3)
    · omega

theorem Cold.nil (B : HB) (w : World) : Cold B w (.slice none 0 0) := fun b o n c e hn => by simp at e

theorem Cold.zero (B : HB) (w : World) (a : Option Addr) (c : Nat) : Cold B w (.slice a 0 c) := fun b o n c e hn => by
  simp only [Value.slice.injEq] at e
  omega

theorem Cold.old {w : World} {v : Value} {n : Nat} {f : Nat → Value} (h : RdF w v n f) {B : HB} (hB : w.heap.size ≤ B ∧ ∀ x ∈ B.s, w.heap.size ≤ x) : Cold B w v := fun b o m c e hm => by
  subst e
  have hn : n = m := by
    rcases h with ⟨e, _⟩ | ⟨a, cap, e, _⟩
    · simp at e
    · simp only [Value.slice.injEq] at e
      exact e.2.1.symm
  obtain ⟨b', o', c', e, _, _, hlt, _⟩ := h.shape (by omega)
  simp only [Value.slice.injEq, Option.some.injEq, Addr.mk.injEq] at e
  obtain ⟨⟨rfl, _⟩, _⟩ := e
  exact ⟨hlt, fun hh => by
    rcases hh with hh | hh
    · have := hh.1; have := hB.1; omega
    · have := hB.2 _ hh; omega⟩

theorem Cold.oldC {w : World} {v : Value} {s n : Nat} {F : Nat → Nat → Value} (h : RdC w v s n F) (hs : 0 < s) {B : HB} (hB : w.heap.size ≤ B ∧ ∀ x ∈ B.s, w.heap.size ≤ x) : Cold B w v := fun b o m c e hm => by
  subst e
  have hn : n = m := by
    rcases h with ⟨e, _⟩ | ⟨a, cap, e, _⟩
    · simp at e
    · simp only [Value.slice.injEq] at e
      exact e.2.1.symm
  obtain ⟨b', o', c', e, _, _, hlt, _⟩ := h.shape (by omega) hs
  simp only [Value.slice.injEq, Option.some.injEq, Addr.mk.injEq] at e
  obtain ⟨⟨rfl, _⟩, _⟩ := e
  exact ⟨hlt, fun hh => by
    rcases hh with hh | hh
    · have := hh.1; have := hB.1; omega
    · have := hB.2 _ hh; omega⟩

theorem cold_row {w : World} {g : Nat} {E : TypeId} {cs : Array Value} {z : Nat × Nat} (h : w.heap[g]? = some (.cells cs E z)) (hE : hotT E = false) (B : HB) (hS : g ∉ B.s) (n c : Nat) : Cold B w (.slice (some ⟨g, 0, none⟩) n c) := fun b o m c' e hm => by
  simp only [Value.slice.injEq, Option.some.injEq, Addr.mk.injEq] at e
  obtain ⟨⟨rfl, _⟩, _⟩ := e
  refine ⟨lt_of_blk h, fun hh => ?_⟩
  rcases hh with ⟨_, cs', T, z', e2, ht⟩ | hh
  case inr => exact hS hh
  rw [h] at e2
  simp only [Option.some.injEq, Obj.cells.injEq] at e2
  obtain ⟨_, rfl, _⟩ := e2
  rw [hE] at ht
  cases ht

theorem OwnF.cold {w : World} {B0 : Nat} {E : TypeId} {v : Value} {n : Nat} {f : Nat → Value} (h : OwnF w B0 E v n f) (hE : hotT E = false) (B : HB) (hS : ∀ x ∈ B.s, x < B0) : Cold B w v := by
  rcases h with ⟨rfl, _⟩ | ⟨g, cap, rfl, hg, cur, h1, _⟩
  · exact Cold.nil _ _
  · exact cold_row h1 hE _ (fun hm => by have := hS g hm; omega) _ _

theorem OwnC.cold {w : World} {B0 : Nat} {E : TypeId} {v : Value} {s n : Nat} {F : Nat → Nat → Value} (h : OwnC w B0 E v s n F) (hE : hotT E = false) (B : HB) (hS : ∀ x ∈ B.s, x < B0) : Cold B w v := by
  rcases h with ⟨rfl, _⟩ | ⟨g, cap, rfl, hg, cur, h1, _⟩
  · exact Cold.nil _ _
  · exact cold_row h1 hE _ (fun hm => by have := hS g hm; omega) _ _

theorem FrH.cell {B : HB} {w w' : World} (h : FrH B w w') {p : Addr} {v : Value} (hv : w.cell? p = some v) (hn : ¬ Hot B w p.block) : w'.cell? p = some v :=
  (World.cell?_of_block (h.block p.block (World.block_lt_of_cell? w p hv) hn)).trans hv

theorem addr_lit_add (b o j : Nat) : (⟨b, o, none⟩ : Addr).add j = ⟨b, o + j, none⟩ := by unfold Addr.add; split <;> simp_all

theorem RdF.frH {B : HB} {w w' : World} {v : Value} {n : Nat} {f : Nat → Value} (h : RdF w v n f) (hc : Cold B w v) (hf : FrH B w w') : RdF w' v n f := by
  by_cases h0 : n = 0
  · subst h0; exact h.zero _ _
  · obtain ⟨b, o, cap, rfl, h1, h2, h3, h4⟩ := h.shape (by omega)
    refine .inr ⟨⟨b, o, none⟩, cap, rfl, h1, h2, fun j hj => ?_⟩
    rw [addr_lit_add]
    exact hf.cell (h4 j hj) (hc b o n cap rfl (by omega)).2

theorem RdC.frH {B : HB} {w w' : World} {v : Value} {s n : Nat} {F : Nat → Nat → Value} (h : RdC w v s n F) (hs : 0 < s) (hc : Cold B w v) (hf : FrH B w w') : RdC w' v s n F := by
  by_cases h0 : n = 0
  · subst h0
    rcases h with h | ⟨a, cap, hv, h1, h2, h3⟩
    · exact .inl h
    · exact .inr ⟨a, cap, hv, h1, h2, fun j hj => by simp at hj⟩
  · obtain ⟨b, o, cap, rfl, h1, h2, h3, h4⟩ := h.shape (by omega) hs
    refine .inr ⟨⟨b, o, none⟩, cap, rfl, h1, h2, fun j hj => ?_⟩
    rw [addr_lit_add]
    have h5 := hf.cell (h4 (j / s) (j % s) (div_lt' hj) (Nat.mod_lt _ hs)) (hc b o n cap rfl (by omega)).2
    have e2 : j / s * s + j % s = j := by rw [Nat.mul_comm]; exact Nat.div_add_mod j s
    rw [Nat.add_assoc, e2] at h5
    exact h5

/-- a record -/
structure Rs where
  nl : Nat
  nm : Nat → ByteArray
  ty : Int
  cl : Int
  tt : Int
  dl : Nat
  dt : Nat → Int

/-- its numbers are in their types' reach -/
structure Rs.Wf (r : Rs) : Prop where
  ty0 : -9223372036854775808 ≤ r.ty ∧ r.ty ≤ 9223372036854775807
  cl0 : -9223372036854775808 ≤ r.cl ∧ r.cl ≤ 9223372036854775807
  tt0 : -9223372036854775808 ≤ r.tt ∧ r.tt ≤ 9223372036854775807
  dt0 : ∀ j, j < r.dl → 0 ≤ r.dt j ∧ r.dt j ≤ 255
  nms : ∀ j, j < r.nl → (r.nm j).size ≤ 140737488355328
  nlb : r.nl * 16 ≤ 140737488355328
  dlb : r.dl ≤ 140737488355328

def Rs.F (r : Rs) (na : Option Addr) (nc : Nat) (da : Option Addr) (dc : Nat) : Nat → Value
  | 0 => .slice na r.nl nc
  | 1 => .int .i64 r.ty
  | 2 => .int .i64 r.cl
  | 3 => .int .i64 r.tt
  | _ => .slice da r.dl dc

/-- a record's rows in memory -/
structure RsOk (B : HB) (w : World) (r : Rs) (na : Option Addr) (nc : Nat) (da : Option Addr) (dc : Nat) : Prop where
  rdn : RdF w (.slice na r.nl nc) r.nl (fun j => .string (r.nm j))
  rdd : RdF w (.slice da r.dl dc) r.dl (fun j => .int .u8 (r.dt j))
  cdn : Cold B w (.slice na r.nl nc)
  cdd : Cold B w (.slice da r.dl dc)

/-- five cells hold a record -/
def RsAt (B : HB) (w : World) (F : Nat → Value) (r : Rs) : Prop := ∃ na nc da dc, (∀ c, c < 5 → F c = r.F na nc da dc c) ∧ RsOk B w r na nc da dc

theorem RsOk.frH {B : HB} {w w' : World} {r : Rs} {na da : Option Addr} {nc dc : Nat} (h : RsOk B w r na nc da dc) (hf : FrH B w w') : RsOk B w' r na nc da dc :=
  ⟨h.rdn.frH h.cdn hf, h.rdd.frH h.cdd hf, h.cdn.frH hf, h.cdd.frH hf⟩

theorem RsAt.frH {B : HB} {w w' : World} {F : Nat → Value} {r : Rs} (h : RsAt B w F r) (hf : FrH B w w') : RsAt B w' F r := by
  obtain ⟨na, nc, da, dc, h1, h2⟩ := h
  exact ⟨na, nc, da, dc, h1, h2.frH hf⟩

theorem Rs.one {r : Rs} {F : Nat → Value} {na da : Option Addr} {nc dc : Nat} (h : ∀ c, c < 5 → F c = r.F na nc da dc c) (c : Nat) (hc : c < 5) : (F c).oneCell' = true := by
  rw [h c hc]
  match c, hc with
  | 0, _ => rfl
  | 1, _ => rfl
  | 2, _ => rfl
  | 3, _ => rfl
  | 4, _ => rfl

/-- a slice of n records -/
structure Sec (B : HB) (w : World) (v : Value) (n : Nat) (R : Nat → Rs) (F : Nat → Nat → Value) : Prop where
  rd : RdC w v 5 n F
  cd : Cold B w v
  at_ : ∀ i, i < n → RsAt B w (F i) (R i)
  wf : ∀ i, i < n → (R i).Wf
  nb : n * 72 ≤ 140737488355328

theorem Sec.frH {B : HB} {w w' : World} {v : Value} {n : Nat} {R : Nat → Rs} {F : Nat → Nat → Value} (h : Sec B w v n R F) (hf : FrH B w w') : Sec B w' v n R F :=
  ⟨h.rd.frH (by decide) h.cd hf, h.cd.frH hf, fun i hi => (h.at_ i hi).frH hf, h.wf, h.nb⟩

theorem Sec.one {B : HB} {w : World} {v : Value} {n : Nat} {R : Nat → Rs} {F : Nat → Nat → Value} (h : Sec B w v n R F) (i c : Nat) (hi : i < n) (hc : c < 5) : (F i c).oneCell' = true := by
  obtain ⟨na, nc, da, dc, h1, _⟩ := h.at_ i hi
  exact Rs.one h1 c hc

/-- a question -/
structure Qs where
  nl : Nat
  nm : Nat → ByteArray
  ty : Int
  cl : Int

structure Qs.Wf (r : Qs) : Prop where
  ty0 : -9223372036854775808 ≤ r.ty ∧ r.ty ≤ 9223372036854775807
  cl0 : -9223372036854775808 ≤ r.cl ∧ r.cl ≤ 9223372036854775807
  nms : ∀ j, j < r.nl → (r.nm j).size ≤ 140737488355328
  nlb : r.nl * 16 ≤ 140737488355328

def Qs.F (r : Qs) (na : Option Addr) (nc : Nat) : Nat → Value
  | 0 => .slice na r.nl nc
  | 1 => .int .i64 r.ty
  | _ => .int .i64 r.cl

/-- three cells hold a question -/
def QsAt (B : HB) (w : World) (F : Nat → Value) (r : Qs) : Prop := ∃ na nc, (∀ c, c < 3 → F c = r.F na nc c) ∧ RdF w (.slice na r.nl nc) r.nl (fun j => .string (r.nm j)) ∧ Cold B w (.slice na r.nl nc)

theorem QsAt.frH {B : HB} {w w' : World} {F : Nat → Value} {r : Qs} (h : QsAt B w F r) (hf : FrH B w w') : QsAt B w' F r := by
  obtain ⟨na, nc, h1, h2, h3⟩ := h
  exact ⟨na, nc, h1, h2.frH h3 hf, h3.frH hf⟩

/-- a slice of n questions -/
structure QSec (B : HB) (w : World) (v : Value) (n : Nat) (R : Nat → Qs) (F : Nat → Nat → Value) : Prop where
  rd : RdC w v 3 n F
  cd : Cold B w v
  at_ : ∀ i, i < n → QsAt B w (F i) (R i)
  wf : ∀ i, i < n → (R i).Wf
  nb : n * 40 ≤ 140737488355328

theorem QSec.frH {B : HB} {w w' : World} {v : Value} {n : Nat} {R : Nat → Qs} {F : Nat → Nat → Value} (h : QSec B w v n R F) (hf : FrH B w w') : QSec B w' v n R F :=
  ⟨h.rd.frH (by decide) h.cd hf, h.cd.frH hf, fun i hi => (h.at_ i hi).frH hf, h.wf, h.nb⟩

theorem QSec.one {B : HB} {w : World} {v : Value} {n : Nat} {R : Nat → Qs} {F : Nat → Nat → Value} (h : QSec B w v n R F) (i c : Nat) (hi : i < n) (hc : c < 3) : (F i c).oneCell' = true := by
  obtain ⟨na, nc, h1, _⟩ := h.at_ i hi
  rw [h1 c hc]
  match c, hc with
  | 0, _ => rfl
  | 1, _ => rfl
  | 2, _ => rfl

/-- a header -/
structure Hd where
  id : Int
  an : Bool
  op : Int
  aa : Bool
  tc : Bool
  rd : Bool
  ra : Bool
  z : Bool
  ad : Bool
  cd : Bool
  code : Int

structure Hd.Wf (h : Hd) : Prop where
  id0 : -9223372036854775808 ≤ h.id ∧ h.id ≤ 9223372036854775807
  op0 : -9223372036854775808 ≤ h.op ∧ h.op ≤ 9223372036854775807
  code0 : -9223372036854775808 ≤ h.code ∧ h.code ≤ 9223372036854775807

/-- a message, all but where its rows lie -/
structure Ms where
  h : Hd
  qn : Nat
  Q : Nat → Qs
  an : Nat
  A : Nat → Rs
  un : Nat
  U : Nat → Rs
  mn : Nat
  M : Nat → Rs

def msgV (h : Hd) (q a u m : Value) : Value :=
  .agg #[.int .i64 h.id, .bool h.an, .int .i64 h.op, .bool h.aa, .bool h.tc, .bool h.rd, .bool h.ra, .bool h.z, .bool h.ad, .bool h.cd, .int .i64 h.code, q, a, u, m]

/-- a message's rows in memory -/
structure MsOk (B : HB) (w : World) (m : Ms) (vq va vu vm : Value) : Prop where
  hq : ∃ F, QSec B w vq m.qn m.Q F
  ha : ∃ F, Sec B w va m.an m.A F
  hu : ∃ F, Sec B w vu m.un m.U F
  hm : ∃ F, Sec B w vm m.mn m.M F
  hh : m.h.Wf

theorem MsOk.frH {B : HB} {w w' : World} {m : Ms} {vq va vu vm : Value} (h : MsOk B w m vq va vu vm) (hf : FrH B w w') : MsOk B w' m vq va vu vm :=
  ⟨h.hq.imp fun _ x => x.frH hf, h.ha.imp fun _ x => x.frH hf, h.hu.imp fun _ x => x.frH hf, h.hm.imp fun _ x => x.frH hf, h.hh⟩

section
variable {B B' : HB} {w : World} (hn : B'.n = B.n) (hs : ∀ x ∈ B'.s, x ∈ B.s ∨ w.heap.size ≤ x)
theorem RsAt.turn {F : Nat → Value} {r : Rs} (hn : B'.n = B.n) (hs : ∀ x ∈ B'.s, x ∈ B.s ∨ w.heap.size ≤ x) (h : RsAt B w F r) : RsAt B' w F r := by
  obtain ⟨na, nc, da, dc, h1, h2⟩ := h
  exact ⟨na, nc, da, dc, h1, h2.rdn, h2.rdd, h2.cdn.turn hn hs, h2.cdd.turn hn hs⟩
theorem Sec.turn {v : Value} {n : Nat} {R : Nat → Rs} {F : Nat → Nat → Value} (hn : B'.n = B.n) (hs : ∀ x ∈ B'.s, x ∈ B.s ∨ w.heap.size ≤ x) (h : Sec B w v n R F) : Sec B' w v n R F :=
  ⟨h.rd, h.cd.turn hn hs, fun i hi => (h.at_ i hi).turn hn hs, h.wf, h.nb⟩
theorem QSec.turn {v : Value} {n : Nat} {R : Nat → Qs} {F : Nat → Nat → Value} (hn : B'.n = B.n) (hs : ∀ x ∈ B'.s, x ∈ B.s ∨ w.heap.size ≤ x) (h : QSec B w v n R F) : QSec B' w v n R F :=
  ⟨h.rd, h.cd.turn hn hs, fun i hi => by
    obtain ⟨na, nc, h1, h2, h3⟩ := h.at_ i hi
    exact ⟨na, nc, h1, h2, h3.turn hn hs⟩, h.wf, h.nb⟩
theorem MsOk.turn {m : Ms} {vq va vu vm : Value} (hn : B'.n = B.n) (hs : ∀ x ∈ B'.s, x ∈ B.s ∨ w.heap.size ≤ x) (h : MsOk B w m vq va vu vm) : MsOk B' w m vq va vu vm :=
  ⟨h.hq.imp fun _ x => x.turn hn hs, h.ha.imp fun _ x => x.turn hn hs, h.hu.imp fun _ x => x.turn hn hs, h.hm.imp fun _ x => x.turn hn hs, h.hh⟩
end

end Go.Proofs.YtcfdlilhhfaaaaaDoor

namespace Go.Proofs.YtcfdlilhhfaaaaaDoor
open Go.RowKit

theorem infoRec : (Tryd.prog.info? 68).map (fun i => (i.zero, i.size, i.bytes)) = some (some (.agg #[.slice none 0 0, .int .i64 0, .int .i64 0, .int .i64 0, .slice none 0 0]), 5, 72) := by kernel_rfl

/-- a record so much older -/
def agR (age : Int) (more : Bool) (r : Rs) : Rs := if more = true ∧ r.ty = 41 then r else { r with tt := wrap64 (r.tt - age) }

theorem blk_set5a {w : World} {p : Nat} {x0 x1 x2 x3 x4 : Value} {T : TypeId} (h : w.heap[p]? = some (.cells #[x0, x1, x2, x3, x4] T (0, 0))) (u v : Value) :
    ((w.setCell ⟨p, 0, none⟩ u).setCell ⟨p, 4, none⟩ v).heap[p]? = some (.cells #[u, x1, x2, x3, v] T (0, 0)) := by
  simp only [World.setCell]
  rw [Array.getElem?_modify, if_pos rfl, Array.getElem?_modify, if_pos rfl, h]
  rfl

theorem blk_set5b {w : World} {p : Nat} {x0 x1 x2 x3 x4 : Value} {T : TypeId} (h : w.heap[p]? = some (.cells #[x0, x1, x2, x3, x4] T (0, 0))) (u v : Value) :
    ((w.setCell ⟨p, 4, none⟩ v).setCell ⟨p, 0, none⟩ u).heap[p]? = some (.cells #[u, x1, x2, x3, v] T (0, 0)) := by
  simp only [World.setCell]
  rw [Array.getElem?_modify, if_pos rfl, Array.getElem?_modify, if_pos rfl, h]
  rfl

theorem blk_set5c {w : World} {p : Nat} {x0 x1 x2 x3 x4 : Value} {T : TypeId} (h : w.heap[p]? = some (.cells #[x0, x1, x2, x3, x4] T (0, 0))) (u : Value) :
    (w.setCell ⟨p, 3, none⟩ u).heap[p]? = some (.cells #[x0, x1, x2, u, x4] T (0, 0)) := by
  simp only [World.setCell]
  rw [Array.getElem?_modify, if_pos rfl, h]
  rfl

/-- five cells hold a record whose rows are the call's own -/
def RsOwn (w : World) (B : Nat) (F : Nat → Value) (r : Rs) : Prop :=
  ∃ vn vd, F 0 = vn ∧ F 1 = .int .i64 r.ty ∧ F 2 = .int .i64 r.cl ∧ F 3 = .int .i64 r.tt ∧ F 4 = vd ∧ OwnF w B 9 vn r.nl (fun j => .string (r.nm j)) ∧ OwnF w B 5 vd r.dl (fun j => .int .u8 (r.dt j))

theorem OwnF.apartC {w : World} {B B' : Nat} {E E' : TypeId} {v v' : Value} {n n' s : Nat} {f : Nat → Value} {F : Nat → Nat → Value} (h : OwnF w B E v n f) (h' : OwnC w B' E' v' s n' F) (hE : E ≠ E') : ∀ g, v.ownBlock = some g → g ∉ v'.ownBlock.toList := fun g hg hm => by
  rcases h with ⟨rfl, _⟩ | ⟨g1, cap, rfl, _, cur, h1, _⟩
  · simp [Value.ownBlock] at hg
  · simp only [Value.ownBlock, Option.some.injEq] at hg
    subst hg
    exact h'.apart h1 (Ne.symm hE) hm

theorem RsOwn.kept {w w' : World} {B B' : Nat} {F : Nat → Value} {r : Rs} {v : Value} {s n : Nat} {G : Nat → Nat → Value} (h : RsOwn w B F r) (hf : Fr v.ownBlock.toList w w') (ho : OwnC w B' 68 v s n G) : RsOwn w' B F r := by
  obtain ⟨vn, vd, e0, e1, e2, e3, e4, h1, h2⟩ := h
  exact ⟨vn, vd, e0, e1, e2, e3, e4, h1.kept hf (h1.apartC ho (by decide)), h2.kept hf (h2.apartC ho (by decide))⟩

theorem RsOwn.fr0 {w w' : World} {B : Nat} {F : Nat → Value} {r : Rs} (h : RsOwn w B F r) (hf : Fr [] w w') : RsOwn w' B F r := by
  obtain ⟨vn, vd, e0, e1, e2, e3, e4, h1, h2⟩ := h
  exact ⟨vn, vd, e0, e1, e2, e3, e4, h1.kept hf (fun _ _ => by simp), h2.kept hf (fun _ _ => by simp)⟩

theorem RsOwn.at_ {w : World} {B0 : Nat} {B : HB} {F : Nat → Value} {r : Rs} (h : RsOwn w B0 F r) (hS : ∀ x ∈ B.s, x < B0) : RsAt B w F r := by
  obtain ⟨vn, vd, e0, e1, e2, e3, e4, h1, h2⟩ := h
  obtain ⟨na, nc, rfl⟩ := h1.rd.slice
  obtain ⟨da, dc, rfl⟩ := h2.rd.slice
  refine ⟨na, nc, da, dc, fun c hc => ?_, ⟨h1.rd, h2.rd, h1.cold (by decide) B hS, h2.cold (by decide) B hS⟩⟩
  match c, hc with
  | 0, _ => exact e0
  | 1, _ => exact e1
  | 2, _ => exact e2
  | 3, _ => exact e3
  | 4, _ => exact e4

theorem RsOwn.one {w : World} {B0 : Nat} {F : Nat → Value} {r : Rs} (h : RsOwn w B0 F r) (c : Nat) (hc : c < 5) : (F c).oneCell' = true := by
  obtain ⟨na, nc, da, dc, h1, _⟩ := h.at_ (B := ⟨0, []⟩) (by simp)
  exact Rs.one h1 c hc

theorem own_fin {w w' : World} {B q : Nat} {E : TypeId} {v : Value} {n : Nat} {f : Nat → Value} (h : OwnF w B E v n f) (hB : q < B) (hf : Fr [q] w w') : OwnF w' B E v n f :=
  h.kept hf (fun g hg => by have := h.ge g (by simp [hg]); simp; omega)

theorem set_fr (w : World) (p : Nat) (u v : Value) : Fr [p] w ((w.setCell ⟨p, 0, none⟩ u).setCell ⟨p, 4, none⟩ v) :=
  ((Fr.refl [p] w).setCell (.inl (by simp)) _).setCell (.inl (by simp)) _

theorem RsOwn.keptB {w w' : World} {B b : Nat} {F : Nat → Value} {r : Rs} (h : RsOwn w B F r) (hf : Fr [b] w w') (hb : w.heap.size ≤ b) : RsOwn w' B F r := by
  obtain ⟨vn, vd, e0, e1, e2, e3, e4, h1, h2⟩ := h
  exact ⟨vn, vd, e0, e1, e2, e3, e4, h1.kept hf (fun g hg => by have := h1.lt g (by simp [hg]); simp; omega), h2.kept hf (fun g hg => by have := h2.lt g (by simp [hg]); simp; omega)⟩

theorem OwnF.ne_blk {w : World} {B b : Nat} {E T : TypeId} {v : Value} {n : Nat} {f : Nat → Value} {cs : Array Value} (h : OwnF w B E v n f) (hb : w.heap[b]? = some (.cells cs T (0, 0))) (hE : E ≠ T) : ∀ g, v.ownBlock = some g → g ∉ [b] := fun g hg hm => by
  simp only [List.mem_singleton] at hm
  subst hm
  rcases h with ⟨rfl, _⟩ | ⟨g1, cap, rfl, _, cur, h1, _⟩
  · simp [Value.ownBlock] at hg
  · simp only [Value.ownBlock, Option.some.injEq] at hg
    subst hg
    rw [hb] at h1
    simp only [Option.some.injEq, Obj.cells.injEq] at h1
    exact hE h1.2.1.symm

/-- five values as a function -/
def f5 (x0 x1 x2 x3 x4 : Value) : Nat → Value
  | 0 => x0
  | 1 => x1
  | 2 => x2
  | 3 => x3
  | _ => x4

theorem f5_one (a1 a2 : Option Addr) (n1 c1 n2 c2 : Nat) (x y z : Int) : ∀ j, j < 1 * 5 → (fls 5 (fun _ => f5 (.slice a1 n1 c1) (.int .i64 x) (.int .i64 y) (.int .i64 z) (.slice a2 n2 c2)) j).oneCell' = true := fun j hj =>
  match j, hj with
  | 0, _ => rfl
  | 1, _ => rfl
  | 2, _ => rfl
  | 3, _ => rfl
  | 4, _ => rfl

theorem set_size (w : World) (p : Addr) (u : Value) : (w.setCell p u).heap.size = w.heap.size := by simp [World.setCell]

theorem rdc_five (w : World) (E : TypeId) (x0 x1 x2 x3 x4 : Value) {b : Nat} (hb : w.heap.size = b) (hm : True) :
    RdC (w.alloc (.cells #[x0, x1, x2, x3, x4] E)) (.slice (some ⟨b, 0, none⟩) 1 1) 5 1 (fun _ => f5 x0 x1 x2 x3 x4) := by
  subst hb
  have hn := heap_alloc_new w (.cells #[x0, x1, x2, x3, x4] E)
  refine .inr ⟨_, 1, rfl, Nat.le_refl _, by decide, fun j hj => ?_⟩
  rw [addr_lit_add, Nat.zero_add]
  match j, hj with
  | 0, _ => exact blk_cell hn 0 rfl
  | 1, _ => exact blk_cell hn 1 rfl
  | 2, _ => exact blk_cell hn 2 rfl
  | 3, _ => exact blk_cell hn 3 rfl
  | 4, _ => exact blk_cell hn 4 rfl

end Go.Proofs.YtcfdlilhhfaaaaaDoor

namespace Go.Proofs.YtcfdlilhhfaaaaaDoor
open Go.RowKit

theorem is_any (w : World) (a b : Value) (ty x y : Int) : Calls Tryd.prog 60 #[.agg #[a, .int .i64 ty, .int .i64 x, .int .i64 y, b]] w fun e w' => e = .returned (.bool (ty == 41)) ∧ Fr [] w w' := by
  go_enter Tryd.func60, Tryd.ntmps60
  go_wp2
  go_ret
  exact ⟨rfl, (Fr.refl [] w).alloc _⟩

/-- the first place of an OPT record among the first k; k where there is none -/
def optIx (R : Nat → Rs) : Nat → Nat
  | 0 => 0
  | k + 1 => if optIx R k < k then optIx R k else if (R k).ty = 41 then k else k + 1

theorem optIx_le (R : Nat → Rs) (k : Nat) : optIx R k ≤ k := by
  induction k with
  | zero => exact Nat.le_refl _
  | succ k ih => unfold optIx; split; · omega
                 · split <;> omega

theorem optIx_hit {R : Nat → Rs} {k n : Nat} (hk : k < n) (h0 : optIx R k = k) (h : (R k).ty = 41) : optIx R n = k := by
  induction n with
  | zero => omega
  | succ n ih =>
    by_cases e : k = n
    · subst e
      unfold optIx
      rw [if_neg (by omega), if_pos h]
    · have := ih (by omega)
      unfold optIx
      rw [this, if_pos (by omega)]

theorem optIx_miss {R : Nat → Rs} {k : Nat} (h0 : optIx R k = k) (h : (R k).ty ≠ 41) : optIx R (k + 1) = k + 1 := by
  unfold optIx
  rw [if_neg (by omega), if_neg h]

def optI (R : Nat → Rs) (n : Nat) : Int := if optIx R n < n then (optIx R n : Int) else -1

set_option maxHeartbeats 2000000 in
set_option maxRecDepth 100000 in
theorem idxRec_any (w : World) (B : HB) (a : Option Addr) (n c : Nat) (R : Nat → Rs) (F : Nat → Nat → Value) (hS : Sec B w (.slice a n c) n R F) :
    Calls Tryd.prog 59 #[.slice a n c, .func (.func 60) #[] #[]] w fun e w' => e = .returned (.int .i64 (optI R n)) ∧ Fr [] w w' := by
  have hnb := hS.nb
  have HS := Lib.hid hS; clear hS
  go_enter Tryd.func59, Tryd.ntmps59
  go_wp2
  go_loopw [8] (fun vi wr => ∃ k : Nat, k ≤ n ∧ vi = .int .i64 k ∧ optIx R k = k ∧ Fr [] w wr) (fun vi _ => n - (intOf vi).toNat)
  case atStart => exact ⟨0, by omega, rfl, rfl, Fr.refl _ _⟩
  case round =>
    obtain ⟨k, hk, rfl, hix, hf⟩ := hrel
    have HIX := Lib.hid hix; clear hix
    have HF := Lib.hid hf; clear hf
    by_cases hlt : k < n
    · obtain ⟨b1, o1, c1, he1, hn1, hm1, _, hc1⟩ := HS.out.rd.shape (by omega) (by decide)
      simp only [Value.slice.injEq, true_and] at he1
      obtain ⟨rfl, rfl⟩ := he1
      clear hn1 hm1
      obtain ⟨na, nc, da, dc, hF, _⟩ := HS.out.at_ k hlt
      have k1 := HF.out.cell (hc1 k 0 hlt (by decide)) (by simp)
      have k2 := HF.out.cell (hc1 k 1 hlt (by decide)) (by simp)
      have k3 := HF.out.cell (hc1 k 2 hlt (by decide)) (by simp)
      have k4 := HF.out.cell (hc1 k 3 hlt (by decide)) (by simp)
      have k5 := HF.out.cell (hc1 k 4 hlt (by decide)) (by simp)
      rw [hF 0 (by decide)] at k1
      rw [hF 1 (by decide)] at k2
      rw [hF 2 (by decide)] at k3
      rw [hF 3 (by decide)] at k4
      rw [hF 4 (by decide)] at k5
      simp only [Rs.F, Nat.add_zero] at k1 k2 k3 k4 k5
      clear hc1 hF
      have k0 : (0 : Int) ≤ (k : Int) := by omega
      have k9 : (k : Int) < (n : Int) := by omega
      have HH := Lib.hid (fun h => optIx_hit (R := R) hlt HIX.out h)
      have HM := Lib.hid (fun h => optIx_miss (R := R) HIX.out h)
      generalize (R k).ty = ty at *
      generalize (R k).cl = x at *
      generalize (R k).tt = y at *
      generalize Value.slice na (R k).nl nc = va at *
      generalize Value.slice da (R k).dl dc = vd at *
      have HC := Lib.hid (fun wx => is_any wx va vd ty x y)
      go_wp2_with fail
      refine (HC.out _).mono ?_
      rintro e w2 ⟨rfl, hf2⟩
      have HF2 := Lib.hid (HF.out.trans hf2 (by simp))
      clear hf2
      by_cases h41 : ty = 41
      · have HE := Lib.hid (show optI R n = (k : Int) by unfold optI; rw [HH.out h41, if_pos hlt])
        have hb : (ty == 41) = true := by simp [h41]
        clear h41
        go_wp2
        go_ret
        exact ⟨by rw [HE.out]; rfl, HF2.out⟩
      · have hb : (ty == 41) = false := by simp [h41]
        have HE := Lib.hid (HM.out h41)
        clear h41
        go_wp2
        go_roundw
        case rel => exact ⟨k + 1, by omega, by go_num, HE.out, HF2.out⟩
        case measure => simp [intOf]; omega
    · obtain rfl : k = n := by omega
      have HE := Lib.hid (show optI R k = -1 by unfold optI; rw [HIX.out, if_neg (by omega)])
      go_wp2
      go_ret
      exact ⟨by rw [HE.out]; rfl, HF.out⟩

theorem hasRec_any (w : World) (B : HB) (a : Option Addr) (n c : Nat) (R : Nat → Rs) (F : Nat → Nat → Value) (hS : Sec B w (.slice a n c) n R F) :
    Calls Tryd.prog 61 #[.slice a n c, .func (.func 60) #[] #[]] w fun e w' => e = .returned (.bool (decide (optIx R n < n))) ∧ Fr [] w w' := by
  have HC := Lib.hid (idxRec_any w B a n c R F hS)
  clear hS
  go_enter Tryd.func61, Tryd.ntmps61
  go_wp2_with fail
  refine HC.out.mono ?_
  rintro e w2 ⟨rfl, hf2⟩
  by_cases h : optIx R n < n
  · have HE := Lib.hid (show optI R n = (optIx R n : Int) by unfold optI; rw [if_pos h])
    rw [HE.out]
    have hd : decide (optIx R n < n) = true := by simpa using h
    have HD := Lib.hid hd
    clear hd h
    go_wp2
    go_ret
    exact ⟨by rw [HD.out]; rfl, hf2⟩
  · have HE := Lib.hid (show optI R n = -1 by unfold optI; rw [if_neg h])
    rw [HE.out]
    have hd : decide (optIx R n < n) = false := by simpa using h
    have HD := Lib.hid hd
    clear hd h
    go_wp2
    go_ret
    exact ⟨by rw [HD.out]; rfl, hf2⟩

end Go.Proofs.YtcfdlilhhfaaaaaDoor

namespace Go.Proofs.YtcfdlilhhfaaaaaDoor
open Go.RowKit

/-- a record of small weight -/
structure RsSm (r : Rs) : Prop where
  nl : r.nl * 16 ≤ 629145600
  dl : r.dl ≤ 629145600
  nm : ∀ j, j < r.nl → (r.nm j).size ≤ 629145600

/-- a question of small weight -/
structure QsSm (r : Qs) : Prop where
  nl : r.nl * 16 ≤ 629145600
  nm : ∀ j, j < r.nl → (r.nm j).size ≤ 629145600

/-- a message of small weight -/
structure MsSm (m : Ms) : Prop where
  qn : m.qn * 40 ≤ 629145600
  an : m.an * 72 ≤ 629145600
  un : m.un * 72 ≤ 629145600
  mn : m.mn * 72 ≤ 629145600
  q : ∀ i, i < m.qn → QsSm (m.Q i)
  a : ∀ i, i < m.an → RsSm (m.A i)
  u : ∀ i, i < m.un → RsSm (m.U i)
  m : ∀ i, i < m.mn → RsSm (m.M i)

end Go.Proofs.YtcfdlilhhfaaaaaDoor

namespace Go.Proofs.YtcfdlilhhfaaaaaDoor
open Go.RowKit

/-- are the bytes from the place on options, one behind the other? -/
def optsOk (f : Nat → Int) (at_ n : Nat) : Bool :=
  if n ≤ at_ then true
  else if n < at_ + 4 then false
  else if n < at_ + 4 + (f (at_ + 2) * 256 + f (at_ + 3)).toNat then false
  else optsOk f (at_ + 4 + (f (at_ + 2) * 256 + f (at_ + 3)).toNat) n
termination_by n - at_
decreasing_by omega

theorem or_bytes {x y : Int} (h0 : 0 ≤ x) (h1 : x ≤ 255) (h2 : 0 ≤ y) (h3 : y ≤ 255) : (IntKind.i64.wrap (x * 256)) = x * 256 := by
  rw [IntKind.wrap_i64]
  omega

end Go.Proofs.YtcfdlilhhfaaaaaDoor

namespace Go.Proofs.YtcfdlilhhfaaaaaDoor
open Go.RowKit

theorem infoOpt : (Tryd.prog.info? 128).map (fun i => (i.zero, i.size, i.bytes)) = some (some (.agg #[.int .i64 0, .slice none 0 0]), 2, 32) := by kernel_rfl

def f2 (x0 x1 : Value) : Nat → Value
  | 0 => x0
  | _ => x1

theorem f2_one (x : Int) (a : Option Addr) (n c : Nat) : ∀ j, j < 1 * 2 → (fls 2 (fun _ => f2 (.int .i64 x) (.slice a n c)) j).oneCell' = true := fun j hj =>
  match j, hj with
  | 0, _ => rfl
  | 1, _ => rfl

theorem rdc_two (w : World) (E : TypeId) (x0 x1 : Value) {b : Nat} (hb : w.heap.size = b) :
    RdC (w.alloc (.cells #[x0, x1] E)) (.slice (some ⟨b, 0, none⟩) 1 1) 2 1 (fun _ => f2 x0 x1) := by
  subst hb
  have hn := heap_alloc_new w (.cells #[x0, x1] E)
  refine .inr ⟨_, 1, rfl, Nat.le_refl _, by decide, fun j hj => ?_⟩
  rw [addr_lit_add, Nat.zero_add]
  match j, hj with
  | 0, _ => exact blk_cell hn 0 rfl
  | 1, _ => exact blk_cell hn 1 rfl

def lenV : Value → Nat
  | .slice _ n _ => n
  | _ => 0

/-- options' loop: p bytes are taken, as k options -/
def OpLp (w : World) (n : Nat) (f : Nat → Int) (b o : Value) (wr : World) : Prop :=
  ∃ (p k : Nat) (ab : Option Addr) (cb : Nat) (F : Nat → Nat → Value), p ≤ n ∧ 4 * k ≤ p ∧ b = .slice ab (n - p) cb ∧ RdF w b (n - p) (fun j => .int .u8 (f (p + j))) ∧ optsOk f 0 n = optsOk f p n ∧ OwnC wr w.heap.size 128 o 2 k F ∧ Fr [] w wr

theorem optsOk_step (f : Nat → Int) (p n : Nat) : optsOk f p n = if n ≤ p then true else if n < p + 4 then false else if n < p + 4 + (f (p + 2) * 256 + f (p + 3)).toNat then false else optsOk f (p + 4 + (f (p + 2) * 256 + f (p + 3)).toNat) n := by
  rw [optsOk]

theorem RdF.cut {w : World} {b o n c : Nat} {f : Nat → Value} (h : RdF w (.slice (some ⟨b, o, none⟩) n c) n f) (lo hi : Nat) (h1 : lo ≤ hi) (h2 : hi ≤ n) :
    RdF w (.slice (some ⟨b, o + lo, none⟩) (hi - lo) (c - lo)) (hi - lo) (fun j => f (lo + j)) := by
  have h3 := h.part lo hi h1 h2
  simp only [Option.map_some, addr_lit_add] at h3
  exact h3

theorem RdF.none0 {w : World} {a : Addr} {c : Nat} {f : Nat → Value} (hc : c ≤ maxLen) : RdF w (.slice (some a) 0 c) 0 f := .inr ⟨a, c, rfl, Nat.zero_le _, hc, fun j hj => by omega⟩


/-- what is wrong with the bytes of options -/
def optsZ (f : Nat → Int) (n : Nat) : Int := if optsOk f 0 n = true then 0 else 1

theorem optsZ_ok {f : Nat → Int} {n : Nat} (h : optsOk f 0 n = true) : optsZ f n = 0 := by unfold optsZ; rw [if_pos h]
theorem optsZ_bad {f : Nat → Int} {n : Nat} (h : optsOk f 0 n = false) : optsZ f n = 1 := by unfold optsZ; rw [if_neg (by rw [h]; decide)]

set_option maxHeartbeats 4000000 in
set_option maxRecDepth 100000 in
theorem options_any (w : World) (a : Option Addr) (n c : Nat) (f : Nat → Int) (hv : RdF w (.slice a n c) n (fun j => .int .u8 (f j))) (hf : ∀ j, j < n → 0 ≤ f j ∧ f j ≤ 255) (hn : n ≤ 1099511627776) :
    Calls Tryd.prog 62 #[.slice a n c] w fun e w' => (∃ (oa : Option Addr) (on oc : Nat), e = .returned (.tuple #[.slice oa on oc, erVn (optsZ f n)])) ∧ Fr [] w w' := by
  have HV := Lib.hid hv; clear hv
  have HB := Lib.hid hf; clear hf
  go_enter Tryd.func62, Tryd.ntmps62
  go_wp2_with fail
  go_loopw [0, 4] (fun b o wr => OpLp w n f b o wr) (fun b _ _ => lenV b)
  case atStart => exact ⟨0, 0, a, c, fun _ _ => .bool false, Nat.zero_le _, by omega, rfl, by simpa using HV.out, rfl, OwnC.nil _ _ _ _ _, Fr.refl _ _⟩
  case round =>
    obtain ⟨p, k, ab, cb, F, hp, hk, rfl, hrd, hok, ho, hfr⟩ := hrel
    obtain ⟨oa, oc, rfl⟩ := ho.rd.slice
    have HRD := Lib.hid (RdF.fr hrd hfr (by simp)); have HRW := Lib.hid hrd; clear hrd
    have HOK := Lib.hid hok; clear hok
    have HO := Lib.hid ho; clear ho
    have HF := Lib.hid hfr; clear hfr
    have HST := Lib.hid (optsOk_step f p n)
    by_cases h0 : n - p = 0
    · have hz : decide ((0 : Int) < ((n - p : Nat) : Int)) = false := by simp; omega
      go_wp2_with fail
      go_ret2
      have hn0 : n ≤ p := by omega
      have e : optsOk f 0 n = true := by rw [HOK.out, HST.out, if_pos hn0]
      exact ⟨⟨oa, k, oc, by rw [optsZ_ok e]; rfl⟩, HF.out⟩
    · by_cases h4 : n - p < 4
      · have hz : ((n - p : Nat) : Int) < 4 := by omega
        have e : optsOk f 0 n = false := by rw [HOK.out, HST.out, if_neg (by omega), if_pos (by omega)]
        have HE := Lib.hid e
        clear e
        go_wp2_with fail
        go_ret2
        exact ⟨⟨none, 0, 0, by rw [optsZ_bad HE.out]; rfl⟩, HF.out⟩
      · obtain ⟨b1, o1, c1, he1, _, _, _, hc1⟩ := HRD.out.shape (by omega)
        simp only [Value.slice.injEq, true_and] at he1
        obtain ⟨rfl, rfl⟩ := he1
        have q0 : wr.cell? ⟨b1, o1, none⟩ = some (.int .u8 (f p)) := hc1 0 (by omega)
        have q1 : wr.cell? ⟨b1, o1 + 1, none⟩ = some (.int .u8 (f (p + 1))) := hc1 1 (by omega)
        have q2 : wr.cell? ⟨b1, o1 + 2, none⟩ = some (.int .u8 (f (p + 2))) := hc1 2 (by omega)
        have q3 : wr.cell? ⟨b1, o1 + 3, none⟩ = some (.int .u8 (f (p + 3))) := hc1 3 (by omega)
        clear hc1
        have d0 := HB.out p (by omega)
        have d1 := HB.out (p + 1) (by omega)
        have d2 := HB.out (p + 2) (by omega)
        have d3 := HB.out (p + 3) (by omega)
        generalize f p = x0 at *
        generalize f (p + 1) = x1 at *
        generalize f (p + 2) = x2 at *
        generalize f (p + 3) = x3 at *
        have l0 : (0 : Int) < ((n - p : Nat) : Int) := by omega
        have l1 : (1 : Int) < ((n - p : Nat) : Int) := by omega
        have l2 : (2 : Int) < ((n - p : Nat) : Int) := by omega
        have l3 : (3 : Int) < ((n - p : Nat) : Int) := by omega
        have l4 : ¬ ((n - p : Nat) : Int) < 4 := by omega
        obtain ⟨E, hE⟩ : ∃ E : Nat, (E : Int) = x2 * 256 + x3 := ⟨(x2 * 256 + x3).toNat, by omega⟩
        have hE2 : (x2 * 256 + x3).toNat = E := by omega
        rw [hE2] at HST
        have HE := Lib.hid hE; clear hE hE2
        have e1 := or_two d0.1 d0.2 d1.1 d1.2
        have e2 := or_two d2.1 d2.2 d3.1 d3.2
        go_upto_region 5 with fail
        go_cut [5, 6] (fun s t wy => (∃ x, s = .int .i64 x) ∧ t = .int .i64 (E : Int) ∧ ∃ q, wy = wr.drewN q)
        case first =>
          go_quiet (fail)
          go_wp2_with fail
          go_meet
          exact ⟨⟨_, rfl⟩, by rw [HE.out], nq, rfl⟩
        case rest =>
          obtain ⟨⟨x, rfl⟩, rfl, q, rfl⟩ := hcut
          clear e1 e2 q0 q1 q2 q3
          have l5 : ((4 : Int)) ≤ ((n - p : Nat) : Int) := by omega
          have hcb : n - p ≤ cb := HRD.out.le_cap.1
          have l6 : ((n - p : Nat) : Int) ≤ (cb : Int) := by omega
          go_upto_region 6 with fail
          go_cut [0] (fun v wy => ∃ (a2 : Option Addr) (c2 : Nat), v = .slice a2 (n - p - 4) c2 ∧ RdF w v (n - p - 4) (fun j => .int .u8 (f (p + 4 + j))) ∧ wy = wr.drewN q)
          case first =>
            by_cases hc4 : cb = 4
            · have hn4 : n - p - 4 = 0 := by omega
              go_wp2_with fail
              go_meet
              exact ⟨_, _, by rw [hn4], by rw [hn4]; exact RdF.none0 (by decide), rfl⟩
            · go_wp2_with fail
              go_meet
              exact ⟨_, _, rfl, by have h9 := HRW.out.cut 4 (n - p) (by omega) (Nat.le_refl _); simp only [← Nat.add_assoc] at h9; exact h9, rfl⟩
          case rest =>
            obtain ⟨a2, c2, rfl, hrd2, rfl⟩ := hcut
            have HR2 := Lib.hid hrd2; clear hrd2
            have hc2 : n - p - 4 ≤ c2 := HR2.out.le_cap.1
            by_cases hE : n - p - 4 < E
            · have e : optsOk f 0 n = false := by rw [HOK.out, HST.out, if_neg (by omega), if_neg (by omega), if_pos (by omega)]
              have HE := Lib.hid e
              clear e
              go_wp2_with fail
              go_ret2
              exact ⟨⟨none, 0, 0, by rw [optsZ_bad HE.out]; rfl⟩, HF.out.drewN q⟩
            · have e : optsOk f 0 n = optsOk f (p + 4 + E) n := by rw [HOK.out, HST.out, if_neg (by omega), if_neg (by omega), if_neg (by omega)]
              have HOK2 := Lib.hid e
              clear e HOK HST
              have HCL := Lib.hid (clone_bytes (wr.drewN q) (.slice a2 E c2) E (fun j => f (p + 4 + j)) (by
                have h9 := HR2.out.fr (HF.out.drewN q) (by simp)
                rcases h9 with ⟨h9, h8⟩ | ⟨a9, c9, h9, h8, h7, h6⟩
                · simp only [Value.slice.injEq] at h9
                  obtain ⟨rfl, _, rfl⟩ := h9
                  obtain rfl : E = 0 := by omega
                  exact .inl ⟨rfl, rfl⟩
                · simp only [Value.slice.injEq, true_and] at h9
                  obtain ⟨rfl, rfl⟩ := h9
                  exact .inr ⟨a9, c2, rfl, by omega, h7, fun j hj => h6 j (by omega)⟩) (by omega))
              have l7 : (E : Int) ≤ (c2 : Int) := by omega
              have l8 : (E : Int) ≤ ((n - p - 4 : Nat) : Int) := by omega
              go_wp2_with fail
              refine HCL.out.mono ?_
              rintro e w3 ⟨v3, rfl, ho3, hf3⟩
              obtain ⟨a3, c3, rfl⟩ := ho3.rd.slice
              have HF3 := Lib.hid (show Fr [] w w3 from (HF.out.drewN q).trans hf3 (by simp))
              have HO3 := Lib.hid (show OwnC w3 w.heap.size 128 (.slice oa k oc) 2 k F from HO.out.kept (show Fr [] wr w3 from ((Fr.refl [] wr).drewN q).trans hf3 (by simp)) (fun _ _ => by simp))
              clear hf3 ho3 HCL
              have HS3 := Lib.hid (show w.heap.size ≤ w3.heap.size from HF3.out.size)
              go_wp2_with (at_builtin; refine wpList_appC rfl (.tmp 41) (.tmp 48) 74 rfl 128 infoOpt Tryd.underlying74 rfl (by decide) (f2_one x a3 E c3) (HO3.out.kept ((Fr.refl [] _).alloc _) (fun _ _ => by simp)) rfl (rdc_two _ _ _ _ rfl) rfl (by unfold maxLen; omega) (by omega) (HF3.out.alloc _).size ?_; intro v7 w7 ho7 hf7 _)
              have HO7 := Lib.hid ho7
              have HF7 := Lib.hid (HF3.out.app _ hf7 (fun x hx => HO3.out.ge x hx))
              clear ho7 hf7
              refine ⟨⟨p + 4 + E, k + 1, _, _, _, by omega, by omega, by rw [show n - (p + 4 + E) = n - p - 4 - E by omega], ?_, HOK2.out, HO7.out, HF7.out⟩, by simp [lenV]; omega⟩
              rw [show n - (p + 4 + E) = n - p - 4 - E by omega]
              have h9 := HR2.out
              rcases h9 with ⟨h9, h8⟩ | ⟨a9, c9, h9, h8, h7, h6⟩
              · simp only [Value.slice.injEq] at h9
                obtain ⟨rfl, _, rfl⟩ := h9
                obtain rfl : E = 0 := by omega
                rw [if_pos rfl, h8]
                exact .inl ⟨rfl, rfl⟩
              · simp only [Value.slice.injEq, true_and] at h9
                obtain ⟨rfl, rfl⟩ := h9
                by_cases hcE : c2 = E
                · rw [if_pos hcE, show n - p - 4 - E = 0 by omega]
                  exact RdF.none0 (by omega)
                · rw [if_neg hcE]
                  exact .inr ⟨a9.add E, c2 - E, rfl, by omega, by omega, fun j hj => by
                    rw [addr_add_add, h6 (E + j) (by omega)]
                    show some (Value.int .u8 (f (p + 4 + (E + j)))) = some (Value.int .u8 (f (p + 4 + E + j)))
                    rw [Nat.add_assoc (p + 4) E j]⟩

end Go.Proofs.YtcfdlilhhfaaaaaDoor

namespace Go.Proofs.YtcfdlilhhfaaaaaDoor
open Go.RowKit

def u8V (b : UInt8) : Value := .int .u8 (b.toNat : Int)

/-- a slice of the call's own that holds the bytes L -/
def OwnB (w : World) (B : Nat) (v : Value) (L : List UInt8) : Prop := OwnF w B 5 v L.length (fun j => u8V (L.getD j 0))

theorem OwnB.owns {w : World} {B : Nat} {v : Value} {L : List UInt8} (h : OwnB w B v L) : w.ownsRow B 5 1 v L.length (L.map u8V) := by
  have e : L.map u8V = vals L.length (fun j => u8V (L.getD j 0)) := by
    apply List.ext_getElem?
    intro j
    by_cases hj : j < L.length
    · rw [vals_get _ _ _ hj, List.getElem?_map, List.getElem?_eq_getElem hj, List.getD_eq_getElem?_getD, List.getElem?_eq_getElem hj]
      rfl
    · rw [List.getElem?_eq_none (by simpa using hj), List.getElem?_eq_none (by rw [vals_len]; omega)]
  rw [e]
  exact OwnF.owns h

theorem OwnB.of_owns {w : World} {B : Nat} {v : Value} {L : List UInt8} (h : w.ownsRow B 5 1 v L.length (L.map u8V)) : OwnB w B v L :=
  OwnF.of_owns h _ fun j hj => by
    rw [List.getElem?_map, List.getElem?_eq_getElem hj, List.getD_eq_getElem?_getD, List.getElem?_eq_getElem hj]
    rfl

theorem OwnB.nil (w : World) (B : Nat) : OwnB w B (.slice none 0 0) [] := .inl ⟨rfl, rfl⟩

theorem OwnB.more {w : World} {B : Nat} {v : Value} {L : List UInt8} {m : Nat} {g : Nat → Value} (h : OwnF w B 5 v (L.length + m) (app L.length (fun j => u8V (L.getD j 0)) g)) (l : List UInt8) (hl : l.length = m) (hg : ∀ j, j < m → g j = u8V (l.getD j 0)) : OwnB w B v (L ++ l) := by
  unfold OwnB
  rw [List.length_append, hl]
  refine h.congr fun j hj => ?_
  unfold app
  by_cases h1 : j < L.length
  · rw [if_pos h1]
    show u8V _ = u8V _
    simp [List.getD_eq_getElem?_getD, List.getElem?_append_left h1]
  · rw [if_neg h1, hg _ (by omega)]
    show u8V _ = u8V _
    simp [List.getD_eq_getElem?_getD, List.getElem?_append_right (show L.length ≤ j by omega)]

theorem OwnB.frB {w w' : World} {B C : Nat} {v : Value} {L : List UInt8} (h : OwnB w B v L) (hf : Below C w w') (hc : ∀ g, v.ownBlock = some g → g < C) : OwnB w' B v L := by
  rcases h with h | ⟨g, cap, rfl, hb, h⟩
  · exact .inl h
  · exact .inr ⟨g, cap, rfl, hb, h.of_block (hf.block g (hc g rfl))⟩

theorem rdF_belowB {w w' : World} {a : Option Addr} {n c C : Nat} {f : Nat → Value} (h : RdF w (.slice a n c) n f) (hf : Below C w w') (hc : ∀ b o, a = some ⟨b, o, none⟩ → 0 < n → b < C) : RdF w' (.slice a n c) n f := by
  by_cases h0 : n = 0
  · subst h0; exact h.zero _ _
  · obtain ⟨b, o, cap, e, h1, h2, h3, h4⟩ := h.shape (by omega)
    simp only [Value.slice.injEq, true_and] at e
    obtain ⟨rfl, rfl⟩ := e
    refine .inr ⟨⟨b, o, none⟩, c, rfl, h1, h2, fun j hj => ?_⟩
    have ea : (⟨b, o, none⟩ : Addr).add j = ⟨b, o + j, none⟩ := by unfold Addr.add; split <;> simp_all
    rw [ea]
    exact (World.cell?_of_block (hf.block b (hc b o rfl (by omega)))).trans (h4 j hj)

/-- append of a string's bytes. -/
theorem wpList_appS {w : World} {ops : Array Oper} {rest : List Oper} {o : Oper} {a : Act} {Q : Exit → Act → World → Prop} (hgd : o.guard = none) (sl x : Operand) (t u : TypeId)
    (ho : o.op = .call { callee := .builtin .append, args := #[sl, x], argTypes := #[t, u] })
    (ht : Tryd.prog.underlying t = some (.slice 5)) (hu : Tryd.prog.underlying u = some .string)
    {v : Value} {L : List UInt8} {B : Nat} (hown : OwnB w B v L) (hs : a.eval sl = v) (s : ByteArray) (hx : a.eval x = .string s)
    (hb : L.length + s.size ≤ 140737488355328) (hbase : B ≤ w.heap.size)
    (h : ∀ v' w', OwnB w' B v' (L ++ s.data.toList) → Fr v.ownBlock.toList w w' → wpList Tryd.prog ops Q rest (a.put o.dst v') w') : wpList Tryd.prog ops Q (o :: rest) a w := by
  obtain ⟨i, hi, hz0, hz1, hz2⟩ := info_parts infoU8
  refine Lib.wpList_append_own_string w hgd sl x t u ho B 5 i ht hu hi hz0 hz1 hz2 v L.length _ hs hown.owns s hx (by unfold maxLen; omega) hb hbase fun v' w' h1 h2 _ => h v' w' ?_ (Fr.of_grown h2 _ (fun k hk => .inl (by simp [hk])))
  apply OwnB.of_owns
  have e : (L ++ s.data.toList).length = L.length + s.size := by rw [List.length_append]; rfl
  have e2 : (L ++ s.data.toList).map u8V = L.map u8V ++ Lib.strCells s := by
    rw [List.map_append]
    rfl
  rw [e, e2]
  exact h1

/-- the first k labels, as they are sent -/
def wireL (s : Nat → ByteArray) : Nat → List UInt8
  | 0 => []
  | k + 1 => wireL s k ++ (UInt8.ofNat (s k).size :: (s k).data.toList)

theorem wireL_len (s : Nat → ByteArray) (k : Nat) (C : Nat) (h : ∀ j, j < k → (s j).size ≤ C) : (wireL s k).length ≤ k * (C + 1) := by
  induction k with
  | zero => simp [wireL]
  | succ k ih =>
    have h1 := ih (fun j hj => h j (by omega))
    have h2 := h k (by omega)
    have h3 : (s k).data.toList.length = (s k).size := rfl
    simp only [wireL, List.length_append, List.length_cons, h3]
    rw [Nat.add_mul]
    omega

theorem wireL_congr {s t : Nat → ByteArray} {k : Nat} (h : ∀ j, j < k → s j = t j) : wireL s k = wireL t k := by
  induction k with
  | zero => rfl
  | succ k ih => simp only [wireL, ih (fun j hj => h j (by omega)), h k (by omega)]

end Go.Proofs.YtcfdlilhhfaaaaaDoor

namespace Go.Proofs.YtcfdlilhhfaaaaaDoor
open Go.RowKit

/-- the cells of pairs, one behind the other -/
def fl2 (p : Nat → Int × Int) (c : Nat) : Value := if c % 2 = 0 then .int .i64 (p (c / 2)).1 else .int .i64 (p (c / 2)).2

theorem fl2_0 (p : Nat → Int × Int) (j : Nat) : fl2 p (j * 2) = .int .i64 (p j).1 := by
  unfold fl2
  rw [if_pos (by omega), show j * 2 / 2 = j by omega]
theorem fl2_1 (p : Nat → Int × Int) (j : Nat) : fl2 p (j * 2 + 1) = .int .i64 (p j).2 := by
  unfold fl2
  rw [if_neg (by omega), show (j * 2 + 1) / 2 = j by omega]
theorem fl2_one (p : Nat → Int × Int) (c : Nat) : (fl2 p c).oneCell' = true := by
  unfold fl2
  split <;> rfl
theorem fl2_congr {p q : Nat → Int × Int} {n : Nat} (h : ∀ j, j < n → p j = q j) (c : Nat) (hc : c < n * 2) : fl2 p c = fl2 q c := by
  unfold fl2
  rw [h (c / 2) (by omega)]

/-- A row of the call's own: n of its cap elements (two cells each, of type E) hold p 0, p 1, .. -/
def RowP (w : World) (g : Nat) (E : TypeId) (n cap : Nat) (p : Nat → Int × Int) : Prop :=
  ∃ cur, w.heap[g]? = some (.cells cur E (0, 0)) ∧ cur.size = cap * 2 ∧ n ≤ cap ∧ cap ≤ maxLen ∧ ∀ j, j < n * 2 → cur[j]? = some (fl2 p j)

section
variable {w w' : World} {g : Nat} {E : TypeId} {n cap : Nat} {p : Nat → Int × Int}
theorem RowP.lt (h : RowP w g E n cap p) : g < w.heap.size := by obtain ⟨cur, h1, _⟩ := h; exact lt_of_blk h1
theorem RowP.le (h : RowP w g E n cap p) : n ≤ cap := by obtain ⟨cur, _, _, h1, _⟩ := h; exact h1
theorem RowP.cap_le (h : RowP w g E n cap p) : cap ≤ maxLen := by obtain ⟨cur, _, _, _, h1, _⟩ := h; exact h1
theorem RowP.cells (h : RowP w g E n cap p) (j : Nat) (hj : j < n) : w.cell? ⟨g, j * 2, none⟩ = some (.int .i64 (p j).1) ∧ w.cell? ⟨g, j * 2 + 1, none⟩ = some (.int .i64 (p j).2) := by
  obtain ⟨cur, h1, h2, h3, h4, h5⟩ := h
  have e0 := h5 (j * 2) (by omega)
  have e1 := h5 (j * 2 + 1) (by omega)
  rw [fl2_0] at e0
  rw [fl2_1] at e1
  exact ⟨by simp [World.cell?, h1, e0], by simp [World.cell?, h1, e1]⟩
theorem RowP.frozen (h : RowP w g E n cap p) (j : Nat) : w.frozen? ⟨g, j, none⟩ = false := by
  obtain ⟨cur, h1, h2, h3, h4, h5⟩ := h
  simp [World.frozen?, h1]
theorem RowP.congr (h : RowP w g E n cap p) {q : Nat → Int × Int} (he : ∀ j, j < n → p j = q j) : RowP w g E n cap q := by
  obtain ⟨cur, h1, h2, h3, h4, h5⟩ := h
  exact ⟨cur, h1, h2, h3, h4, fun j hj => by rw [h5 j hj, fl2_congr he j hj]⟩
theorem RowP.of_block (h : RowP w g E n cap p) (hb : w'.heap[g]? = w.heap[g]?) : RowP w' g E n cap p := by
  obtain ⟨cur, h1, h2⟩ := h
  exact ⟨cur, hb.trans h1, h2⟩
theorem RowP.kept {S : List Nat} (h : RowP w g E n cap p) (hf : Fr S w w') (hn : g ∉ S) : RowP w' g E n cap p := h.of_block (hf.block g h.lt hn)
theorem RowP.take (h : RowP w g E n cap p) (m : Nat) (hm : m ≤ n) : RowP w g E m cap p := by
  obtain ⟨cur, h1, h2, h3, h4, h5⟩ := h
  exact ⟨cur, h1, h2, by omega, h4, fun j hj => h5 j (by omega)⟩
end

/-- The slice value v of n elements reads as p 0, p 1, .. in w. -/
def RdP (w : World) (v : Value) (n : Nat) (p : Nat → Int × Int) : Prop :=
  (v = .slice none 0 0 ∧ n = 0) ∨ ∃ a cap, v = .slice (some a) n cap ∧ n ≤ cap ∧ cap ≤ maxLen ∧ ∀ j, j < n * 2 → w.cell? (a.add j) = some (fl2 p j)

theorem RdP.shape {w : World} {v : Value} {n : Nat} {p : Nat → Int × Int} (h : RdP w v n p) (hn : 0 < n) :
    ∃ b o cap, v = .slice (some ⟨b, o, none⟩) n cap ∧ n ≤ cap ∧ cap ≤ maxLen ∧ b < w.heap.size ∧ ∀ j, j < n → w.cell? ⟨b, o + j * 2, none⟩ = some (.int .i64 (p j).1) ∧ w.cell? ⟨b, o + j * 2 + 1, none⟩ = some (.int .i64 (p j).2) := by
  rcases h with ⟨_, h0⟩ | ⟨a, cap, hv, h1, h2, h3⟩
  · omega
  · obtain ⟨b, o, s⟩ := a
    have hc := h3 0 (by omega)
    have hs : s = none := by simpa [Addr.add] using World.cell?_spot hc
    subst hs
    have hat : ∀ j, (⟨b, o, none⟩ : Addr).add j = ⟨b, o + j, none⟩ := fun j => by unfold Addr.add; split <;> simp_all
    refine ⟨b, o, cap, hv, h1, h2, ?_, fun j hj => ?_⟩
    · have := World.block_lt_of_cell? w _ hc
      simpa [Addr.add] using this
    · have e0 := h3 (j * 2) (by omega)
      have e1 := h3 (j * 2 + 1) (by omega)
      rw [fl2_0, hat] at e0
      rw [fl2_1, hat] at e1
      exact ⟨e0, by rw [Nat.add_assoc]; exact e1⟩

theorem RdP.kept {w w' : World} {v : Value} {n : Nat} {p : Nat → Int × Int} (h : RdP w v n p) (hk : ∀ a u, w.cell? a = some u → w'.cell? a = some u) : RdP w' v n p := by
  rcases h with h | ⟨a, cap, hv, h1, h2, h3⟩
  · exact .inl h
  · exact .inr ⟨a, cap, hv, h1, h2, fun j hj => hk _ _ (h3 j hj)⟩

theorem RdP.fr {w w' : World} {v : Value} {n : Nat} {p : Nat → Int × Int} (h : RdP w v n p) (hk : Fr [] w w') : RdP w' v n p :=
  h.kept fun _ _ hu => hk.cell hu (by simp)

theorem RdP.old {w w' : World} {v : Value} {n : Nat} {p : Nat → Int × Int} {S : List Nat} (h : RdP w v n p) (hk : Fr S w w') (hS : ∀ x ∈ S, w.heap.size ≤ x) : RdP w' v n p :=
  h.kept fun a u hu => hk.cell hu (fun hm => by have := hS _ hm; have := World.block_lt_of_cell? w a hu; omega)

theorem RdP.congr {w : World} {v : Value} {n : Nat} {p q : Nat → Int × Int} (h : RdP w v n p) (he : ∀ j, j < n → p j = q j) : RdP w v n q := by
  rcases h with h | ⟨a, cap, hv, h1, h2, h3⟩
  · exact .inl h
  · exact .inr ⟨a, cap, hv, h1, h2, fun j hj => by rw [h3 j hj, fl2_congr he j hj]⟩

theorem RdP.slice {w : World} {v : Value} {n : Nat} {p : Nat → Int × Int} (h : RdP w v n p) : ∃ a c, v = .slice a n c := by
  rcases h with ⟨rfl, rfl⟩ | ⟨a, c, rfl, _⟩
  · exact ⟨_, _, rfl⟩
  · exact ⟨_, _, rfl⟩

theorem RdP.part {w : World} {a : Option Addr} {n c : Nat} {p : Nat → Int × Int} (h : RdP w (.slice a n c) n p) (lo hi : Nat) (h1 : lo ≤ hi) (h2 : hi ≤ n) :
    RdP w (.slice (a.map (fun x => x.add (lo * 2))) (hi - lo) (c - lo)) (hi - lo) (fun j => p (lo + j)) := by
  rcases h with ⟨e, h0⟩ | ⟨ad, cap, e, h3, h4, h5⟩
  · simp only [Value.slice.injEq] at e
    obtain ⟨rfl, _, rfl⟩ := e
    have e1 : hi - lo = 0 := by omega
    rw [e1]
    exact .inl ⟨by simp, rfl⟩
  · simp only [Value.slice.injEq, true_and] at e
    obtain ⟨rfl, rfl⟩ := e
    refine .inr ⟨ad.add (lo * 2), c - lo, rfl, by omega, by omega, fun j hj => ?_⟩
    rw [addr_add_add, h5 (lo * 2 + j) (by omega)]
    unfold fl2
    rw [show (lo * 2 + j) % 2 = j % 2 by omega, show (lo * 2 + j) / 2 = lo + j / 2 by omega]

theorem RowP.rd {w : World} {g : Nat} {E : TypeId} {n cap : Nat} {p : Nat → Int × Int} (h : RowP w g E n cap p) : RdP w (.slice (some ⟨g, 0, none⟩) n cap) n p := by
  obtain ⟨cur, h1, h2, h3, h4, h5⟩ := h
  refine .inr ⟨_, cap, rfl, h3, h4, fun j hj => ?_⟩
  have e : (⟨g, 0, none⟩ : Addr).add j = ⟨g, j, none⟩ := by unfold Addr.add; split <;> simp_all
  rw [e]
  simp [World.cell?, h1, h5 j hj]

/-- v is nil and empty, or a row of its own from block B on, that holds p 0, p 1, .. -/
def OwnP (w : World) (B : Nat) (E : TypeId) (v : Value) (n : Nat) (p : Nat → Int × Int) : Prop :=
  (v = .slice none 0 0 ∧ n = 0) ∨ ∃ g cap, v = .slice (some ⟨g, 0, none⟩) n cap ∧ B ≤ g ∧ RowP w g E n cap p

section
variable {w w' : World} {B : Nat} {E : TypeId} {v : Value} {n : Nat} {p : Nat → Int × Int}
theorem OwnP.rd (h : OwnP w B E v n p) : RdP w v n p := by
  rcases h with h | ⟨g, cap, rfl, _, h⟩
  · exact .inl h
  · exact h.rd
theorem OwnP.nil (w : World) (B : Nat) (E : TypeId) (p : Nat → Int × Int) : OwnP w B E (.slice none 0 0) 0 p := .inl ⟨rfl, rfl⟩
theorem OwnP.row (h : OwnP w B E v n p) (hn : 0 < n) : ∃ g cap, v = .slice (some ⟨g, 0, none⟩) n cap ∧ B ≤ g ∧ RowP w g E n cap p := by
  rcases h with ⟨_, h⟩ | h
  · omega
  · exact h
theorem OwnP.kept {S : List Nat} (h : OwnP w B E v n p) (hf : Fr S w w') (hS : ∀ g, v.ownBlock = some g → g ∉ S) : OwnP w' B E v n p := by
  rcases h with h | ⟨g, cap, rfl, hb, h⟩
  · exact .inl h
  · exact .inr ⟨g, cap, rfl, hb, h.kept hf (hS g rfl)⟩
theorem OwnP.congr (h : OwnP w B E v n p) {q : Nat → Int × Int} (he : ∀ j, j < n → p j = q j) : OwnP w B E v n q := by
  rcases h with h | ⟨g, cap, rfl, hb', h⟩
  · exact .inl h
  · exact .inr ⟨g, cap, rfl, hb', h.congr he⟩
theorem OwnP.mono {B' : Nat} (h : OwnP w B E v n p) (hb : B' ≤ B) : OwnP w B' E v n p := by
  rcases h with h | ⟨g, cap, rfl, hb', h⟩
  · exact .inl h
  · exact .inr ⟨g, cap, rfl, Nat.le_trans hb hb', h⟩
theorem OwnP.ge (h : OwnP w B E v n p) : ∀ x ∈ v.ownBlock.toList, B ≤ x := by
  rcases h with ⟨rfl, _⟩ | ⟨g, cap, rfl, hb, _⟩
  · simp [Value.ownBlock]
  · simp [Value.ownBlock]; exact hb
theorem OwnP.lt (h : OwnP w B E v n p) : ∀ x ∈ v.ownBlock.toList, x < w.heap.size := by
  rcases h with ⟨rfl, _⟩ | ⟨g, cap, rfl, hb, hr⟩
  · simp [Value.ownBlock]
  · simp [Value.ownBlock]; exact hr.lt
theorem OwnP.apart {T : TypeId} {q : Nat} {cs : Array Value} (h : OwnP w B E v n p) (hp : w.heap[q]? = some (.cells cs T (0, 0))) (hT : E ≠ T) : q ∉ v.ownBlock.toList := by
  rcases h with ⟨rfl, _⟩ | ⟨g, cap, rfl, hb, cur, h1, _⟩
  · simp [Value.ownBlock]
  · simp only [Value.ownBlock, Option.toList, List.mem_singleton]
    intro e
    subst e
    rw [hp] at h1
    simp only [Option.some.injEq, Obj.cells.injEq] at h1
    exact hT h1.2.1.symm
theorem OwnP.owns (h : OwnP w B E v n p) : w.ownsRow B E 2 v n (vals (n * 2) (fl2 p)) := by
  rcases h with ⟨rfl, rfl⟩ | ⟨g, cap, rfl, hb, cur, h1, h2, h3, h4, h5⟩
  · exact World.ownsRow_nil _ _ _ _
  · refine ⟨by rw [vals_len], .inr ⟨g, cap, cur, rfl, hb, h1, h3, h4, by omega, ?_⟩⟩
    apply List.ext_getElem?
    intro j
    by_cases hj : j < n * 2
    · rw [List.getElem?_take, if_pos hj, vals_get _ _ j hj, Array.getElem?_toList, h5 j hj]
    · rw [List.getElem?_take, if_neg hj, List.getElem?_eq_none (by rw [vals_len]; omega)]
end

/-- p's first n, then q's. -/
def app2 (n : Nat) (p q : Nat → Int × Int) (j : Nat) : Int × Int := if j < n then p j else q (j - n)

theorem app2_get {n m : Nat} {p q : Nat → Int × Int} {j : Nat} (hj : j < (n + m) * 2) : (vals (n * 2) (fl2 p) ++ vals (m * 2) (fl2 q))[j]? = some (fl2 (app2 n p q) j) := by
  rw [app_get (n := n * 2) (m := m * 2) (by omega)]
  unfold app fl2 app2
  by_cases h : j < n * 2
  · rw [if_pos h, if_pos (by omega : j / 2 < n)]
  · rw [if_neg h, if_neg (by omega : ¬ j / 2 < n), show (j - n * 2) % 2 = j % 2 by omega, show (j - n * 2) / 2 = j / 2 - n by omega]

/-- what append does onto a slice of the call's own whose elements are pairs, from a slice that reads -/
theorem run_app2 {P : Program} (w : World) (t ty E : TypeId) {z : Value} {bytes : Nat} (hinfo : (P.info? E).map (fun i => (i.zero, i.size, i.bytes)) = some (some z, 2, bytes)) (ht : P.underlying t = some (.slice E)) (hz : z.cells.size = 2)
    {v : Value} {n base : Nat} {p : Nat → Int × Int} (hown : OwnP w base E v n p)
    {y : Value} {m : Nat} {q : Nat → Int × Int} (hrd : RdP w y m q)
    (h63 : n + m ≤ maxLen) (hbytes : (n + m) * bytes ≤ 140737488355328) (hbase : base ≤ w.heap.size) :
    ∃ v' w', (Builtin.append_ #[t, t] ty #[v, y]).run P w = .ok v' w' ∧ OwnP w' base E v' (n + m) (app2 n p q) ∧ Fr v.ownBlock.toList w w' ∧ SameOrNew w v v' := by
  obtain ⟨i, hi, hz0, hz1, hz2⟩ := info_parts hinfo
  rcases hrd with ⟨rfl, rfl⟩ | ⟨ad, c, rfl, hmc, hcm, hcell⟩
  · have hr := run_append_owned_none (P := P) w base t ty E i 2 ht hi v n _ hown.owns
    exact ⟨v, w, hr, hown.congr (fun j hj => by simp [app2, hj]), Fr.refl _ _, fun x hx => .inl hx⟩
  have hnews : ∀ j u, (vals (m * 2) (fl2 q))[j]? = some u → w.cell? (ad.add j) = some u := fun j u hu => by
    obtain ⟨hj, rfl⟩ := vals_get' hu
    exact hcell j hj
  have hnl : (vals (m * 2) (fl2 q)).length = m * i.size := by rw [vals_len, hz1]
  have hsmall : n + m ≤ 9223372036854775807 := by unfold maxLen at h63; omega
  have hgrow : ∀ (old : Nat), old < n + m → ∀ S, OwnP (w.drew.alloc (.cells ((vals (n * 2) (fl2 p)).toArray ++ (vals (m * 2) (fl2 q)).toArray ++ Builtin.zeroCells z.cells (grownCap w (n + m) old E - (n + m))) E)) base E (.slice (some ⟨w.heap.size, 0, none⟩) (n + m) (grownCap w (n + m) old E)) (n + m) (app2 n p q) ∧
      Fr S w (w.drew.alloc (.cells ((vals (n * 2) (fl2 p)).toArray ++ (vals (m * 2) (fl2 q)).toArray ++ Builtin.zeroCells z.cells (grownCap w (n + m) old E - (n + m))) E)) := by
    intro old ho S
    have hge := grownCap_ge w (n + m) old E
    have hcm := grownCap_le_maxLen w (n + m) old E h63
    refine ⟨.inr ⟨w.heap.size, _, rfl, hbase, _, heap_alloc_new w.drew _, ?_, hge, hcm, fun j hj => ?_⟩, ((Fr.refl S w).drew).alloc _⟩
    · simp only [Array.size_append, List.size_toArray, size_zeroCells, hz, vals_len]
      omega
    · rw [Array.getElem?_append_left (by simp [vals_len]; omega), ← Array.getElem?_toList]
      have := app2_get (p := p) (q := q) hj
      simpa using this
  rcases hown with ⟨rfl, rfl⟩ | ⟨g0, cap, rfl, hb, hrow⟩
  · by_cases hm : m = 0
    · subst hm
      refine ⟨.slice none 0 0, w, ?_, OwnP.nil _ _ _ _, Fr.refl _ _, fun x hx => .inl hx⟩
      simp [Builtin.append_, run_underlying ht, sizeOf, typeInfo, hi, Builtin.lenOf, Builtin.firstCells, loadCells, loadCellsFrom]
    · have hr := run_append_nil (P := P) w t ty E i z ht hi hz0 ad m c (vals (m * 2) (fl2 q)) hnl hnews (by omega) (by omega) (by rw [hz2]; have hb2 := hbytes; simp only [Nat.zero_add] at hb2; omega)
      have hg := hgrow 0 (by omega) (Value.ownBlock (.slice none 0 0)).toList
      have e0 : (vals (0 * 2) (fl2 p)).toArray = #[] := rfl
      simp only [Nat.zero_add, e0, Array.empty_append] at hg ⊢
      exact ⟨_, _, hr, hg.1, hg.2, fun x hx => .inr (by simp [Value.ownBlock] at hx; omega)⟩
  · by_cases hroom : n + m ≤ cap
    · obtain ⟨cur, hcur, hcs, hnc, hcml, hcells⟩ := hrow
      have hfit : n * i.size + (vals (m * 2) (fl2 q)).length ≤ cur.size := by rw [vals_len, hz1, hcs]; omega
      have h1' : ∀ u ∈ vals (m * 2) (fl2 q), u.oneCell' = true := fun u hu => by
        simp only [vals, List.mem_map, List.mem_range] at hu
        obtain ⟨j, hj, rfl⟩ := hu
        exact fl2_one q j
      have hr := run_append_room (P := P) w t ty E i ht hi g0 n cap cur hcur ad m c (vals (m * 2) (fl2 q)) hnl hnews h1' hroom hfit
      refine ⟨_, _, hr, .inr ⟨g0, cap, rfl, hb, _, setRow_heap w g0 cur _ E _ hcur, ?_, hroom, hcml, fun j hj => ?_⟩, ⟨rfl, rfl, rfl, by simp, fun k _ hn => setRow_other w g0 k _ (by simpa [Value.ownBlock] using hn)⟩, fun x hx => .inl (by simpa [Value.ownBlock] using hx)⟩
      · simp only [List.size_toArray, List.length_append, List.length_take, List.length_drop, Array.length_toList, vals_len, hz1]
        omega
      · have hlen : (cur.toList.take (n * i.size)).length = n * 2 := by rw [List.length_take, Array.length_toList, hz1]; omega
        have htk : cur.toList.take (n * i.size) = vals (n * 2) (fl2 p) := by
          rw [hz1]
          apply List.ext_getElem?
          intro k
          by_cases hk : k < n * 2
          · rw [List.getElem?_take, if_pos hk, vals_get _ _ k hk, Array.getElem?_toList, hcells k hk]
          · rw [List.getElem?_take, if_neg hk, List.getElem?_eq_none (by rw [vals_len]; omega)]
        have e := app2_get (p := p) (q := q) hj
        rw [← htk] at e
        rw [← Array.getElem?_toList]
        simp only []
        rw [List.getElem?_append_left (by rw [List.length_append, hlen, vals_len]; omega)]
        exact e
    · obtain ⟨cur, hcur, hcs, hnc, hcml, hcells⟩ := hrow
      have holds : ∀ j u, (vals (n * 2) (fl2 p))[j]? = some u → w.cell? ((⟨g0, 0, none⟩ : Addr).add j) = some u := fun j u hu => by
        obtain ⟨hj, rfl⟩ := vals_get' hu
        have e : (⟨g0, 0, none⟩ : Addr).add j = ⟨g0, j, none⟩ := by unfold Addr.add; split <;> simp_all
        rw [e]
        simp [World.cell?, hcur, hcells j hj]
      have hr := run_append_grow (P := P) w t ty E i z ht hi hz0 ⟨g0, 0, none⟩ n cap (vals (n * 2) (fl2 p)) (by rw [vals_len, hz1]) holds ad m c (vals (m * 2) (fl2 q)) hnl hnews (by omega) (by omega) (growslice_fits (by omega) (by rw [hz2]; exact hbytes))
      have hg := hgrow cap (by omega) (Value.ownBlock (.slice (some ⟨g0, 0, none⟩) n cap)).toList
      exact ⟨_, _, hr, hg.1, hg.2, fun x hx => .inr (by simp [Value.ownBlock] at hx; omega)⟩

theorem wpList_app2 {P : Program} {w : World} {ops : Array Oper} {rest : List Oper} {o : Oper} {a : Act} {Q : Exit → Act → World → Prop} (hgd : o.guard = none) (s x : Operand) (t : TypeId)
    (ho : o.op = .call { callee := .builtin .append, args := #[s, x], argTypes := #[t, t] })
    (E : TypeId) {z : Value} {bytes : Nat} (hinfo : (P.info? E).map (fun i => (i.zero, i.size, i.bytes)) = some (some z, 2, bytes)) (ht : P.underlying t = some (.slice E)) (hz : z.cells.size = 2)
    {v : Value} {n base : Nat} {p : Nat → Int × Int} (hown : OwnP w base E v n p) (hs : a.eval s = v)
    {y : Value} {m : Nat} {q : Nat → Int × Int} (hrd : RdP w y m q) (hx : a.eval x = y)
    (h63 : n + m ≤ maxLen) (hbytes : (n + m) * bytes ≤ 140737488355328) (hbase : base ≤ w.heap.size)
    (h : ∀ v' w', OwnP w' base E v' (n + m) (app2 n p q) → Fr v.ownBlock.toList w w' → SameOrNew w v v' → wpList P ops Q rest (a.put o.dst v') w') : wpList P ops Q (o :: rest) a w := by
  obtain ⟨v', w', hr, h2, h3, h4⟩ := run_app2 (P := P) w t o.type E hinfo ht hz hown hrd h63 hbytes hbase
  refine wpList_plain hgd fun _ hK => ?_
  unfold Oper.wp execOp
  simp only [ho, resolve, invoke, builtin, Sem.run_bind, Sem.run_pure, Result.andThen_ok, List.map_toArray, List.map_cons, List.map_nil, hs, hx, hr]
  exact hK _ _ (h v' w' h2 h3 h4)

theorem step_app2 {P : Program} {w : World} {ops : Array Oper} {o : Oper} {a : Act} {K : Act → World → Prop} {Q : Exit → Act → World → Prop} {X : Prop} (hgd : o.guard = none) (s x : Operand) (t : TypeId)
    (ho : o.op = .call { callee := .builtin .append, args := #[s, x], argTypes := #[t, t] })
    (E : TypeId) {z : Value} {bytes : Nat} (hinfo : (P.info? E).map (fun i => (i.zero, i.size, i.bytes)) = some (some z, 2, bytes)) (ht : P.underlying t = some (.slice E)) (hz : z.cells.size = 2)
    {v : Value} {n base : Nat} {p : Nat → Int × Int} (hown : OwnP w base E v n p) (hs : a.eval s = v)
    {y : Value} {m : Nat} {q : Nat → Int × Int} (hrd : RdP w y m q) (hx : a.eval x = y)
    (h63 : n + m ≤ maxLen) (hbytes : (n + m) * bytes ≤ 140737488355328) (hbase : base ≤ w.heap.size)
    (h : ∀ v' w', OwnP w' base E v' (n + m) (app2 n p q) → Fr v.ownBlock.toList w w' → SameOrNew w v v' → K (a.put o.dst v') w') :
    if Region.wanted o (yielded ops a.tmps) = true then Oper.wp P o a w K Q else X := by
  have hw : Region.wanted o (yielded ops a.tmps) = true := by simp [Region.wanted, hgd]
  rw [if_pos hw]
  obtain ⟨v', w', hr, h2, h3, h4⟩ := run_app2 (P := P) w t o.type E hinfo ht hz hown hrd h63 hbytes hbase
  unfold Oper.wp
  simp [execOp, ho, resolve, invoke, builtin, hs, hx, hr, Result.andThen]
  exact h v' w' h2 h3 h4

/-- the slice of one pair that a call 'append(xs, x)' makes first -/
theorem rdp_one (w : World) (x y : Int) (E : TypeId) {b : Nat} (hb : w.heap.size = b) : RdP (w.alloc (.cells #[.int .i64 x, .int .i64 y] E)) (.slice (some ⟨b, 0, none⟩) 1 1) 1 (fun _ => (x, y)) :=
  .inr ⟨_, 1, rfl, Nat.le_refl _, by decide, fun j hj => by
    subst hb
    match j, hj with
    | 0, _ => exact blk_cell (heap_alloc_new w _) 0 rfl
    | 1, _ => exact blk_cell (heap_alloc_new w _) 1 rfl⟩

end Go.Proofs.YtcfdlilhhfaaaaaDoor

namespace Go.Proofs.YtcfdlilhhfaaaaaDoor
open Go.ChangeShapes Go.WideShapes Go.ChangeAt Go.RowKit

section
variable {H : Type} {enc : TypeId × Value → H} {P : Program} {W : World} {base : Nat}

def intIn : Value → Int
  | .int _ x => x
  | _ => 0

theorem arg_pairs {t e : TypeId} {f0 f1 : Field} {bytes : Nat} {v : Value} {d : DataW H} {p : List MemPlace} {ts : List TypeId} {ds : List (DataW H)} {j : Nat}
    (ht : P.underlying t = some (.slice e)) (he : P.underlying e = some (.struct #[f0, f1])) (ce : P.cellsOf e = 2) (o0 : f0.offset = 0) (o1 : f1.offset = 1) (c0 : P.cellsOf f0.type = 1) (c1 : P.cellsOf f1.type = 1)
    (k0 : P.underlying f0.type = some (.int .i64)) (k1 : P.underlying f1.type = some (.int .i64)) (hb : P.bytesOf e = bytes)
    (hok : Value.okWide P W .any base t v) (h : DataW.Trod enc P W 0 (fun _ => true) true t v d p)
    (hsz : (DataW.weightsEach P ts ds).all (· ≤ reachBytes) = true) (hts : ts[j]? = some t) (hds : ds[j]? = some d) :
    ∃ (a : Option Addr) (n c : Nat) (q : Nat → Int × Int), v = .slice a n c ∧ RdP W (.slice a n c) n q ∧ n * bytes ≤ 140737488351232 ∧ ∀ i, i < n → (Lit.int .i64 (q i).1).wf = true ∧ (Lit.int .i64 (q i).2).wf = true := by
  obtain ⟨a0, len0, cap0, rfl⟩ := okWide_slice ht hok
  obtain ⟨fuel, hf⟩ := h
  rcases Go.Deep.open_slice_pairs ht he ce o0 o1 c0 c1 hf with ⟨hcs, hx⟩ | ⟨x, l, c, m, n, V0, V1, D0, D1, P0, P1, hcs, _, hl, hm, hmm, hx, hcell⟩
  · simp [Value.cells] at hcs
    obtain ⟨rfl, rfl, rfl⟩ := hcs
    exact ⟨none, 0, 0, fun _ => (0, 0), rfl, .inl ⟨rfl, rfl⟩, by omega, fun i hi => by omega⟩
  · simp [Value.cells] at hcs
    obtain ⟨rfl, rfl, rfl⟩ := hcs
    obtain ⟨rfl, _⟩ := Prod.mk.inj hx
    have hmm' : m = cap0 := by simpa using hmm
    have hs := sized_slice hsz hts hds ht
    rw [hb] at hs
    simp only [List.length_map, List.length_range, reachBytes] at hs
    have e1 : len0 + (m - len0) = cap0 := by omega
    rw [e1] at hs
    have hv : ∀ i, i < len0 → V0 i = .int .i64 (intIn (V0 i)) ∧ V1 i = .int .i64 (intIn (V1 i)) ∧ (Lit.int .i64 (intIn (V0 i))).wf = true ∧ (Lit.int .i64 (intIn (V1 i))).wf = true := fun i hi => by
      obtain ⟨_, _, h0, h1⟩ := hcell i (by omega)
      obtain ⟨x0, e0, _, w0⟩ := DataW.trod_int k0 h0
      obtain ⟨x1, e1, _, w1⟩ := DataW.trod_int k1 h1
      have e0' : V0 i = .int .i64 x0 := by simpa using e0
      have e1' : V1 i = .int .i64 x1 := by simpa using e1
      rw [e0', e1']
      exact ⟨rfl, rfl, w0, w1⟩
    refine ⟨some x, len0, cap0, fun i => (intIn (V0 i), intIn (V1 i)), rfl, .inr ⟨x, cap0, rfl, hl, hm, fun j hj => ?_⟩, Nat.le_trans (Nat.mul_le_mul_right _ hl) hs, fun i hi => ⟨(hv i hi).2.2.1, (hv i hi).2.2.2⟩⟩
    have hj2 : j / 2 < len0 := by omega
    obtain ⟨q0, q1, _, _⟩ := hcell (j / 2) (by omega)
    unfold fl2
    by_cases hz : j % 2 = 0
    · rw [if_pos hz, ← (hv _ hj2).1, show j = j / 2 * 2 by omega, show j / 2 * 2 / 2 = j / 2 by omega]
      exact q0
    · rw [if_neg hz, ← (hv _ hj2).2.1, show j = j / 2 * 2 + 1 by omega, show (j / 2 * 2 + 1) / 2 = j / 2 by omega]
      exact q1
end

set_option maxRecDepth 100000 in
theorem arg_nodes {H : Type} {enc : TypeId × Value → H} {W : World} {base : Nat} {v : Value} {d : DataW H} {p : List MemPlace} {ts : List TypeId} {ds : List (DataW H)} {j : Nat}
    (hok : Value.okWide Tryd.prog W .any base 57 v) (h : DataW.Trod enc Tryd.prog W 0 (fun _ => true) true 57 v d p)
    (hsz : (DataW.weightsEach Tryd.prog ts ds).all (· ≤ reachBytes) = true) (hts : ts[j]? = some 57) (hds : ds[j]? = some d) :
    ∃ (a : Option Addr) (n c : Nat) (q : Nat → Int × Int), v = .slice a n c ∧ RdP W (.slice a n c) n q ∧ n * 16 ≤ 140737488351232 ∧ ∀ i, i < n → (Lit.int .i64 (q i).1).wf = true ∧ (Lit.int .i64 (q i).2).wf = true :=
  arg_pairs Tryd.underlying57 Tryd.underlying152 (by kernel_rfl) rfl rfl (by kernel_rfl) (by kernel_rfl) Tryd.underlying3 Tryd.underlying3 (by kernel_rfl) hok h hsz hts hds

end Go.Proofs.YtcfdlilhhfaaaaaDoor

namespace Go.Proofs.YtcfdlilhhfaaaaaDoor
open Go.ChangeShapes Go.WideShapes Go.ChangeAt Go.RowKit

set_option maxRecDepth 100000 in
theorem arg_node {H : Type} {enc : TypeId × Value → H} {W : World} {base : Nat} {v : Value} {d : DataW H} {p : List MemPlace}
    (hok : Value.okWide Tryd.prog W .any base 152 v) (h : DataW.Trod enc Tryd.prog W 0 (fun _ => true) true 152 v d p) :
    ∃ (x y : Int), v = .agg #[.int .i64 x, .int .i64 y] ∧ (-9223372036854775808 ≤ x ∧ x ≤ 9223372036854775807) ∧ (-9223372036854775808 ≤ y ∧ y ≤ 9223372036854775807) := by
  obtain ⟨c0, c1, y0, y1, m, rfl, _, _, h0, h1⟩ := Go.Joins.open_agg2 Tryd.underlying152 (by kernel_rfl) (by kernel_rfl) hok h
  obtain ⟨x, e0, _, hx⟩ := DataW.trod_int Tryd.underlying3 h0
  obtain ⟨y, e1, _, hy⟩ := DataW.trod_int Tryd.underlying3 h1
  simp at e0 e1
  subst e0 e1
  exact ⟨x, y, rfl, bd_i64 hx, bd_i64 hy⟩

end Go.Proofs.YtcfdlilhhfaaaaaDoor

namespace Go.Proofs.YtcfdlilhhfaaaaaDoor
open Go.RowKit

def ci (x y : Int) : Int := if x < y then -1 else if y < x then 1 else 0

/-- the first one that is not 0 -/
def co (a b : Int) : Int := if a = 0 then b else a

theorem isNaN_any (w : World) (x : Int) : Calls Tryd.prog 100 #[.int .i64 x] w fun e w' => e = .returned (.bool false) ∧ w = w' := by
  go_enter Tryd.func100, Tryd.ntmps100
  go_wp2
  go_ret
  exact ⟨by simp, rfl⟩

theorem cmpc_any (w : World) (x y : Int) : Calls Tryd.prog 81 #[.int .i64 x, .int .i64 y] w fun e w' => e = .returned (.int .i64 (ci x y)) ∧ w = w' := by
  go_enter Tryd.func81, Tryd.ntmps81
  by_cases h1 : x < y
  · have e : ci x y = -1 := by unfold ci; rw [if_pos h1]
    have HE := Lib.hid e; clear e
    go_wp2_with (go_at_call 100; refine (isNaN_any _ _).mono ?_; rintro e w' ⟨rfl, rfl⟩)
    go_ret
    exact ⟨by rw [HE.out]; rfl, rfl⟩
  · by_cases h2 : y < x
    · have e : ci x y = 1 := by unfold ci; rw [if_neg h1, if_pos h2]
      have HE := Lib.hid e; clear e
      go_wp2_with (go_at_call 100; refine (isNaN_any _ _).mono ?_; rintro e w' ⟨rfl, rfl⟩)
      go_ret
      exact ⟨by rw [HE.out]; rfl, rfl⟩
    · have e : ci x y = 0 := by unfold ci; rw [if_neg h1, if_neg h2]
      have HE := Lib.hid e; clear e
      go_wp2_with (go_at_call 100; refine (isNaN_any _ _).mono ?_; rintro e w' ⟨rfl, rfl⟩)
      go_ret
      exact ⟨by rw [HE.out]; rfl, rfl⟩

theorem or_any (w : World) (g : Nat) (a b : Int) (h : w.heap[g]? = some (.cells #[.int .i64 a, .int .i64 b] 3 (0, 0))) :
    Calls Tryd.prog 80 #[.slice (some ⟨g, 0, none⟩) 2 2] w fun e w' => e = .returned (.int .i64 (co a b)) ∧ w = w' := by
  have c0 := blk_cell (v := .int .i64 a) h 0 rfl
  have c1 := blk_cell (v := .int .i64 b) h 1 rfl
  clear h
  go_enter Tryd.func80, Tryd.ntmps80
  by_cases h0 : a = 0
  · have e : co a b = b := by unfold co; rw [if_pos h0]
    have HE := Lib.hid e; clear e
    subst h0
    go_wp2
    refine wp_loop_rounds 3 ?_
    rw [rounds_succ]
    by_cases h1 : b = 0
    · subst h1
      go_wp2
      rw [rounds_succ]
      go_wp2
      rw [rounds_succ]
      go_wp2
      go_ret
      exact ⟨by rw [HE.out]; rfl, rfl⟩
    · have hb : (b != 0) = true := by simp [h1]
      go_wp2
      rw [rounds_succ]
      go_wp2
      go_ret
      exact ⟨by rw [HE.out]; rfl, rfl⟩
  · have e : co a b = a := by unfold co; rw [if_neg h0]
    have HE := Lib.hid e; clear e
    have ha : (a != 0) = true := by simp [h0]
    go_wp2
    refine wp_loop_rounds 3 ?_
    rw [rounds_succ]
    go_wp2
    go_ret
    exact ⟨by rw [HE.out]; rfl, rfl⟩

theorem or_new (w : World) (g : Nat) (a b : Int) (h : w.heap.size = g) :
    Calls Tryd.prog 80 #[.slice (some ⟨g, 0, none⟩) 2 2] (w.alloc (.cells #[.int .i64 a, .int .i64 b] 3)).drew fun e w' => e = .returned (.int .i64 (co a b)) ∧ (w.alloc (.cells #[.int .i64 a, .int .i64 b] 3)).drew = w' := by
  subst h
  exact or_any _ _ a b (heap_alloc_new _ _)

/-- more draws, more blocks: nothing else -/
def GR (w w' : World) : Prop := ∃ (q : Nat) (os : Array Obj), w' = Sort.grow (w.drewN q) os

theorem GR.refl (w : World) : GR w w := ⟨0, #[], by rw [Sort.grow_empty]; rfl⟩
theorem GR.alloc {w w' : World} (h : GR w w') (o : Obj) : GR w (w'.alloc o) := by
  obtain ⟨q, os, rfl⟩ := h
  exact ⟨q, os ++ #[o], by rw [Sort.alloc_eq_grow, Sort.grow_grow]⟩
theorem GR.drewN {w w' : World} (h : GR w w') (n : Nat) : GR w (w'.drewN n) := by
  obtain ⟨q, os, rfl⟩ := h
  exact ⟨q + n, os, by simp [Sort.grow, World.drewN, Nat.add_assoc]⟩
theorem GR.drew {w w' : World} (h : GR w w') : GR w w'.drew := h.drewN 1

/-- compare: the hashes, then the numbers -/
def cf2 (x y : Int × Int) : Int := co (ci x.1 y.1) (ci x.2 y.2)

set_option maxHeartbeats 2000000 in
theorem compare_any (W : World) (x y : Int × Int) :
    Calls Tryd.prog 47 #[.agg #[.int .i64 x.1, .int .i64 x.2], .agg #[.int .i64 y.1, .int .i64 y.2]] W fun e w' => e = .returned (.int .i64 (cf2 x y)) ∧ GR W w' := by
  obtain ⟨x1, x2⟩ := x
  obtain ⟨y1, y2⟩ := y
  simp only []
  unfold cf2
  have hg := ((GR.refl W).alloc (.cells #[.int .i64 x1, .int .i64 x2] 110)).alloc (.cells #[.int .i64 y1, .int .i64 y2] 110)
  have HG := Lib.hid hg; clear hg
  have b0 := ((Fr.refl [] (W.alloc (.cells #[.int .i64 x1, .int .i64 x2] 110))).alloc (.cells #[.int .i64 y1, .int .i64 y2] 110)).blk (heap_alloc_new W (.cells #[.int .i64 x1, .int .i64 x2] 110)) (by simp)
  have b1 := heap_alloc_new (W.alloc (.cells #[.int .i64 x1, .int .i64 x2] 110)) (.cells #[.int .i64 y1, .int .i64 y2] 110)
  rw [World.size_alloc] at b1
  have c0 := blk_cell (v := .int .i64 x1) b0 0 rfl
  have c1 := blk_cell (v := .int .i64 x2) b0 1 rfl
  have c2 := blk_cell (v := .int .i64 y1) b1 0 rfl
  have c3 := blk_cell (v := .int .i64 y2) b1 1 rfl
  clear b0 b1
  go_enter Tryd.func47, Tryd.ntmps47
  go_wp2_with fail
  generalize (W.alloc (.cells #[.int .i64 x1, .int .i64 x2] 110)).alloc (.cells #[.int .i64 y1, .int .i64 y2] 110) = w1 at *
  have HK := Lib.hid (fun (w' : World) (h : Fr [] w1 w') => (⟨h.cell c0 (by simp), h.cell c1 (by simp), h.cell c2 (by simp), h.cell c3 (by simp)⟩ : w'.cell? ⟨W.heap.size, 0, none⟩ = some (.int .i64 x1) ∧ w'.cell? ⟨W.heap.size, 1, none⟩ = some (.int .i64 x2) ∧ w'.cell? ⟨W.heap.size + 1, 0, none⟩ = some (.int .i64 y1) ∧ w'.cell? ⟨W.heap.size + 1, 1, none⟩ = some (.int .i64 y2)))
  go_region_held3 (fun w' => w'.cell? ⟨W.heap.size, 0, none⟩ = some (.int .i64 x1) ∧ w'.cell? ⟨W.heap.size, 1, none⟩ = some (.int .i64 x2) ∧ w'.cell? ⟨W.heap.size + 1, 0, none⟩ = some (.int .i64 y1) ∧ w'.cell? ⟨W.heap.size + 1, 1, none⟩ = some (.int .i64 y2))
    (first | exact HK.out _ (Fr.refl _ _) | exact HK.out _ ((Fr.refl [] w1).drew) | exact HK.out _ (((Fr.refl [] w1).alloc _).drew))
    (first
    | (go_at_call 81; refine (cmpc_any _ _ _).mono ?_; rintro e w' ⟨rfl, rfl⟩)
    | (go_at_call 80; refine (or_new _ _ _ _ (by simp)).mono ?_; rintro e w' ⟨rfl, rfl⟩))
  all_goals
    go_wp2
    go_ret
    exact ⟨rfl, (HG.out.alloc _).drew⟩

end Go.Proofs.YtcfdlilhhfaaaaaDoor

namespace Go.Proofs.YtcfdlilhhfaaaaaDoor
open Go.RowKit Go.Maps

/-- is x the first one of an element among the first k? -/
def metN (p : Nat → Int × Int) (x : Int) : Nat → Bool
  | 0 => false
  | k + 1 => metN p x k || ((p k).1 == x)

theorem metN_iff (p : Nat → Int × Int) (x : Int) (k : Nat) : metN p x k = true ↔ ∃ j, j < k ∧ (p j).1 = x := by
  induction k with
  | zero => simp [metN]
  | succ k ih =>
    simp only [metN, Bool.or_eq_true, ih, beq_iff_eq]
    constructor
    · rintro (⟨j, h1, h2⟩ | h)
      · exact ⟨j, by omega, h2⟩
      · exact ⟨k, by omega, h⟩
    · rintro ⟨j, h1, h2⟩
      by_cases h : j = k
      · subst h; exact .inr h2
      · exact .inl ⟨j, by omega, h2⟩

theorem metN_false {p : Nat → Int × Int} {x : Int} {k : Nat} (h : metN p x k = false) (j : Nat) (hj : j < k) : (p j).1 ≠ x := fun e => by
  have := (metN_iff p x k).2 ⟨j, hj, e⟩
  rw [h] at this
  cases this

def NRange (q : Int × Int) : Prop := 0 ≤ q.1 ∧ q.1 ≤ 2147483647 ∧ 1 ≤ q.2 ∧ q.2 ≤ 16

instance (q : Int × Int) : Decidable (NRange q) := by unfold NRange; infer_instance

/-- what the first k nodes show -/
def nfk (p : Nat → Int × Int) : Nat → Int
  | 0 => 0
  | k + 1 => if nfk p k ≠ 0 then nfk p k else if ¬ NRange (p k) then 6 else if metN p (p k).1 k = true then 10 else 0

/-- what is wrong with nodes -/
def nfault (p : Nat → Int × Int) (n : Nat) : Int := if 40 < n then 7 else if nfk p n ≠ 0 then nfk p n else if n = 0 then 9 else 0

theorem nfk_of (p : Nat → Int × Int) (k n : Nat) (h : nfk p k ≠ 0) (hk : k ≤ n) : nfk p n = nfk p k := by
  induction n with
  | zero => rw [show k = 0 by omega]
  | succ n ih =>
    by_cases e : k = n + 1
    · rw [e]
    · have := ih (by omega)
      simp only [nfk]
      rw [this, if_pos h]

theorem nfk_zero (p : Nat → Int × Int) (n : Nat) (h : nfk p n = 0) : ∀ k, k < n → NRange (p k) ∧ ∀ j, j < k → (p j).1 ≠ (p k).1 := by
  induction n with
  | zero => intro k hk; omega
  | succ n ih =>
    simp only [nfk] at h
    by_cases h0 : nfk p n = 0
    · rw [if_neg (by simpa using h0)] at h
      by_cases h1 : NRange (p n)
      · rw [if_neg (by simpa using h1)] at h
        by_cases h2 : metN p (p n).1 n = true
        · rw [if_pos h2] at h; omega
        · intro k hk
          by_cases e : k = n
          · subst e
            exact ⟨h1, fun j hj => metN_false (by simpa using h2) j hj⟩
          · exact ih h0 k (by omega)
      · rw [if_pos (by simpa using h1)] at h; omega
    · rw [if_pos (by simpa using h0)] at h; omega

theorem nfk_good (p : Nat → Int × Int) (n : Nat) (h : ∀ k, k < n → NRange (p k) ∧ ∀ j, j < k → (p j).1 ≠ (p k).1) : nfk p n = 0 := by
  induction n with
  | zero => rfl
  | succ n ih =>
    simp only [nfk]
    rw [if_neg (by simpa using ih fun k hk => h k (by omega)), if_neg (by simpa using (h n (by omega)).1), if_neg]
    intro hm
    obtain ⟨j, hj, e⟩ := (metN_iff _ _ _).1 hm
    exact (h n (by omega)).2 j hj e

/-- nothing is wrong -/
structure NGood (p : Nat → Int × Int) (n : Nat) : Prop where
  n0 : 0 < n
  n40 : n ≤ 40
  rng : ∀ k, k < n → NRange (p k)
  ne : ∀ j k, j < n → k < n → (p j).1 = (p k).1 → j = k

theorem nfault_iff (p : Nat → Int × Int) (n : Nat) : nfault p n = 0 ↔ NGood p n := by
  unfold nfault
  constructor
  · intro h
    by_cases h1 : 40 < n
    · rw [if_pos h1] at h; omega
    · rw [if_neg h1] at h
      by_cases h2 : nfk p n = 0
      · rw [if_neg (by simpa using h2)] at h
        by_cases h3 : n = 0
        · rw [if_pos h3] at h; omega
        · have hz := nfk_zero p n h2
          refine ⟨by omega, by omega, fun k hk => (hz k hk).1, fun j k hj hk e => ?_⟩
          rcases Nat.lt_trichotomy j k with h | h | h
          · exact absurd e ((hz k hk).2 j h)
          · exact h
          · exact absurd e.symm ((hz j hj).2 k h)
      · rw [if_pos (by simpa using h2)] at h; exact absurd h h2
  · intro h
    have := h.n0
    have h40 := h.n40
    rw [if_neg (by omega), if_neg, if_neg (by omega)]
    simp only [ne_eq, Classical.not_not]
    exact nfk_good p n fun k hk => ⟨h.rng k hk, fun j hj e => by have := h.ne j k (by omega) hk e; omega⟩

/-- an error of a number -/
def erV (z : Int) : Value := if z = 0 then .nilIface else .iface 25 (.int .i64 z)

theorem maplaw : Keyed Tryd.prog 3 := int_keyed Tryd.underlying3
theorem zeroInt (w : World) : (zeroValue 3).run Tryd.prog w = .ok (.int .i64 0) w := by kernel_rfl

/-- an element that is copied into a block of its own -/
def ld2 (w : World) (T : TypeId) (x y : Int) : World := ((w.alloc (.cells #[.int .i64 0, .int .i64 0] T)).setCell ⟨w.heap.size, 0, none⟩ (.int .i64 x)).setCell ⟨w.heap.size, 1, none⟩ (.int .i64 y)

theorem ld2_blk (w : World) (T : TypeId) (x y : Int) : (ld2 w T x y).heap[w.heap.size]? = some (.cells #[.int .i64 x, .int .i64 y] T (0, 0)) := blk_set2 (heap_alloc_new w _) _ _
theorem ld2_fr (w : World) (T : TypeId) (x y : Int) : Fr [] w (ld2 w T x y) := (((Fr.refl [] w).alloc _).setCell (.inr (Nat.le_refl _)) _).setCell (.inr (Nat.le_refl _)) _

end Go.Proofs.YtcfdlilhhfaaaaaDoor

namespace Go.Proofs.YtcfdlilhhfaaaaaDoor
open Go.RowKit Go.Maps

set_option maxHeartbeats 4000000 in
set_option maxRecDepth 100000 in
theorem check_any (w : World) (a : Option Addr) (n c : Nat) (p : Nat → Int × Int) (hv : RdP w (.slice a n c) n p) :
    Calls Tryd.prog 43 #[.slice a n c] w fun e w' => e = .returned (erV (nfault p n)) ∧ Fr [] w w' := by
  have HV := Lib.hid hv; clear hv
  have hmm := @run_makeMap Tryd.prog
  go_enter Tryd.func43, Tryd.ntmps43
  by_cases h40 : 40 < n
  · have e : nfault p n = 7 := by unfold nfault; rw [if_pos h40]
    have HE := Lib.hid e; clear e
    go_wp2
    go_ret
    exact ⟨by rw [HE.out]; rfl, Fr.refl _ _⟩
  have hm0 := World.ownsMap_made w Tryd.prog 3 (plainElem (H := Unit) Tryd.prog 3)
  have HM0 := Lib.hid hm0; clear hm0
  have HF0 := Lib.hid ((Fr.refl [] w).alloc (.map #[] 0))
  go_wp2
  generalize w.alloc (.map #[] 0) = w1 at *
  clear hmm
  go_loopw [15] (fun i wr => ∃ (k : Nat) (D : DataW Unit), k ≤ n ∧ i = .int .i64 k ∧ nfk p k = 0 ∧ wr.ownsMap Tryd.prog 3 (plainElem Tryd.prog 3) w.heap.size k D ∧ (∀ x, Maps.has D (.int .i64 x) = metN p x k) ∧ Fr [] w wr) (fun i _ => n - (intOf i).toNat)
  case atStart => exact ⟨0, _, by omega, rfl, rfl, HM0.out, fun x => rfl, HF0.out⟩
  case round =>
    clear HM0 HF0
    obtain ⟨k, D, hk, rfl, hnf, hown, hD, hf⟩ := hrel
    have HNF := Lib.hid hnf; clear hnf
    have HD := Lib.hid hD; clear hD
    have HF := Lib.hid hf; clear hf
    have HOWN := Lib.hid hown; clear hown
    by_cases hlt : k < n
    · obtain ⟨b, o, cap', he, hnc, hcm, hbw, hc⟩ := HV.out.shape (by omega)
      simp only [Value.slice.injEq, true_and] at he
      obtain ⟨rfl, rfl⟩ := he
      obtain ⟨k0, k1⟩ := hc k hlt
      have c0 := HF.out.cell k0 (by simp)
      have c1 := HF.out.cell k1 (by simp)
      clear hc k0 k1
      have hfw := (Fr.refl [] wr).alloc (.cells #[.int .i64 (p k).1, .int .i64 (p k).2] 152)
      have HFW := Lib.hid (HF.out.trans hfw (by simp)); clear hfw
      by_cases hr : NRange (p k)
      case neg =>
        have e : nfault p n = 6 := by
          have e1 : nfk p (k + 1) = 6 := by simp only [nfk]; rw [if_neg (by simpa using HNF.out), if_pos hr]
          unfold nfault
          rw [if_neg h40, nfk_of p (k + 1) n (by rw [e1]; decide) (by omega), e1, if_pos (by decide)]
        have HE := Lib.hid e; clear e
        unfold NRange at hr
        by_cases h1 : (p k).1 < 0
        · go_wp2
          go_ret
          exact ⟨by rw [HE.out]; rfl, HFW.out⟩
        by_cases h2 : 2147483647 < (p k).1
        · go_wp2
          go_ret
          exact ⟨by rw [HE.out]; rfl, HFW.out⟩
        by_cases h3 : (p k).2 < 1
        · go_wp2
          go_ret
          exact ⟨by rw [HE.out]; rfl, HFW.out⟩
        have h4 : 16 < (p k).2 := by omega
        clear hr
        go_wp2
        go_ret
        exact ⟨by rw [HE.out]; rfl, HFW.out⟩
      have HR := Lib.hid hr
      obtain ⟨r1, r2, r3, r4⟩ := hr
      have HOW2 := Lib.hid (HOWN.out.alloc (.cells #[.int .i64 (p k).1, .int .i64 (p k).2] 152))
      by_cases hmt : metN p (p k).1 k = true
      · have e : nfault p n = 10 := by
          have e1 : nfk p (k + 1) = 10 := by simp only [nfk]; rw [if_neg (by simpa using HNF.out), if_neg (by simpa using HR.out), if_pos hmt]
          unfold nfault
          rw [if_neg h40, nfk_of p (k + 1) n (by rw [e1]; decide) (by omega), e1, if_pos (by decide)]
        have HE := Lib.hid e; clear e
        have hhas : Maps.has D (.int .i64 (p k).1) = true := (HD.out _).trans hmt
        clear hmt
        go_wp2_with (at_lookup; (refine wpList_lookup_own_ok_int _ rfl _ _ 150 rfl 3 3 .i64 maplaw Tryd.underlying150 Tryd.underlying3 (zeroInt _) w.heap.size k _ rfl HOW2.out _ _ rfl (keyOf_int_mk Tryd.underlying3 (WalkArith.wf_i64 (by omega))) ?_); intro cc hat hwc)
        go_ret
        exact ⟨by rw [HE.out]; rfl, HFW.out⟩
      · have hhas : Maps.has D (.int .i64 (p k).1) = false := (HD.out _).trans (by simpa using hmt)
        have hnf1 : nfk p (k + 1) = 0 := by simp only [nfk]; rw [if_neg (by simpa using HNF.out), if_neg (by simpa using HR.out), if_neg hmt]
        have HNF1 := Lib.hid hnf1
        clear hmt hnf1
        go_wp2_with (first
          | (at_lookup; (refine wpList_lookup_own_ok_int _ rfl _ _ 150 rfl 3 3 .i64 maplaw Tryd.underlying150 Tryd.underlying3 (zeroInt _) w.heap.size k _ rfl HOW2.out _ _ rfl (keyOf_int_mk Tryd.underlying3 (WalkArith.wf_i64 (by omega))) ?_); intro cc hat hwc)
          | (at_mapUpdate; refine wpList_mapUpdate_own _ rfl _ _ _ 150 rfl 3 3 maplaw Tryd.underlying150 _ w.heap.size k _ rfl HOW2.out (by unfold maxLen; omega) _ _ _ rfl rfl (keyOf_int_mk Tryd.underlying3 (WalkArith.wf_i64 (by omega))) _ [] (plainElem_int Tryd.underlying3 (WalkArith.wf_i64 (by omega))) ?_; intro w2 hown2 hgr; have HOW3 := Lib.hid hown2; have HGR := Lib.hid hgr; clear hown2 hgr))
        go_roundw
        case rel => exact ⟨k + 1, _, by omega, by go_num, HNF1.out, HOW3.out, fun x => by
            by_cases hx : x = (p k).1
            · subst hx
              rw [has_put_same HOWN.out.isMap (by simp [WideAt.IsKeyLit])]
              simp [metN]
            · rw [has_put_other (by simpa using hx), HD.out x]
              simp [metN, Ne.symm hx], HFW.out.trans (Fr.of_grown HGR.out [w.heap.size] (fun q hq => .inl (by cases hq; simp))) (fun y hy => .inr (by simp at hy; omega))⟩
        case measure => simp [intOf]; omega
    · obtain rfl : k = n := by omega
      by_cases h0 : k = 0
      · have e : nfault p k = 9 := by unfold nfault; rw [if_neg h40, if_neg (by simpa using HNF.out), if_pos h0]
        have HE := Lib.hid e; clear e
        subst h0
        go_wp2
        go_ret
        exact ⟨by rw [HE.out]; rfl, HF.out⟩
      · have e : nfault p k = 0 := by unfold nfault; rw [if_neg h40, if_neg (by simpa using HNF.out), if_neg h0]
        have HE := Lib.hid e; clear e
        have hk0 : (k == 0) = false := by simpa using h0
        go_wp2
        go_ret
        exact ⟨by rw [HE.out]; rfl, HF.out⟩

end Go.Proofs.YtcfdlilhhfaaaaaDoor

namespace Go.Proofs.YtcfdlilhhfaaaaaDoor
open Go.RowKit

theorem u8_of {n : Nat} (h : n ≤ 255) : Value.int .u8 (n : Int) = u8V (UInt8.ofNat n) := by
  unfold u8V
  congr 1
  simp
  omega

set_option maxHeartbeats 2000000 in
set_option maxRecDepth 100000 in
theorem sent_any (w : World) (B : Nat) (v : Value) (L : List UInt8) (a : Option Addr) (n c : Nat) (s : Nat → ByteArray) (hv : OwnB w B v L) (hB : B ≤ w.heap.size)
    (hs : RdF w (.slice a n c) n (fun j => .string (s j))) (hap : ∀ b o, a = some ⟨b, o, none⟩ → 0 < n → b < B) (hss : ∀ j, j < n → (s j).size ≤ 255) (hL : L.length + n * 256 ≤ 140737488355328) :
    Calls Tryd.prog 56 #[v, .slice a n c] w fun e w' => ∃ v', e = .returned v' ∧ OwnB w' B v' (L ++ wireL s n) ∧ Below B w w' := by
  have HS := Lib.hid hs; clear hs
  have HSS := Lib.hid hss; clear hss
  have HAP := Lib.hid hap; clear hap
  have HV := Lib.hid hv; clear hv
  go_enter Tryd.func56, Tryd.ntmps56
  go_wp2
  go_loopw [0, 9] (fun vo vi wr => ∃ k : Nat, k ≤ n ∧ vi = .int .i64 k ∧ OwnB wr B vo (L ++ wireL s k) ∧ Below B w wr) (fun _ vi _ => n - (intOf vi).toNat)
  case atStart => exact ⟨0, by omega, rfl, by simpa [wireL] using HV.out, Below.refl _ _⟩
  case round =>
    clear HV
    obtain ⟨k, hk, rfl, ho, hf⟩ := hrel
    have HO := Lib.hid ho; clear ho
    have HF := Lib.hid hf; clear hf
    by_cases hlt : k < n
    · obtain ⟨b1, o1, c1, he1, hn1, hm1, _, hc1⟩ := (rdF_belowB HS.out HF.out (fun b o h => HAP.out b o h)).shape (by omega)
      simp only [Value.slice.injEq, true_and] at he1
      obtain ⟨rfl, rfl⟩ := he1
      clear hn1 hm1
      have k1 := hc1 k hlt
      clear hc1
      have k0 : (0 : Int) ≤ (k : Int) := by omega
      have k3 : (k : Int) < (n : Int) := by omega
      have h1 := HSS.out k hlt
      have HLN := Lib.hid (show (L ++ wireL s k).length + 256 ≤ 140737488355328 by
        have := wireL_len s k 255 (fun j hj => HSS.out j (by omega))
        have h2 : (k + 1) * 256 ≤ n * 256 := Nat.mul_le_mul_right _ (by omega)
        rw [List.length_append]
        omega)
      have HWL := Lib.hid (show L ++ wireL s (k + 1) = ((L ++ wireL s k) ++ [UInt8.ofNat (s k).size]) ++ (s k).data.toList by simp [wireL])
      generalize L ++ wireL s k = M at *
      generalize s k = sk at *
      have HSZ := Lib.hid (show B ≤ wr.heap.size from Nat.le_trans hB HF.out.size)
      go_wp2_with (at_builtin; refine wpList_app rfl (.tmp 13) (.tmp 17) 35 rfl 5 infoU8 Tryd.underlying35 rfl (OwnF.alloc HO.out _) rfl (rd_one _ _ _ rfl) rfl (fun _ _ => rfl) (by unfold maxLen; have := HLN.out; omega) (by have := HLN.out; omega) (by simp; have := HSZ.out; omega) ?_; intro v2 w2 hown2 hfr2 _
                   have HO2 := Lib.hid (OwnB.more hown2 [UInt8.ofNat sk.size] rfl (fun j hj => by
                     obtain rfl : j = 0 := by omega
                     exact u8_of h1))
                   have HF2 := Lib.hid ((HF.out.alloc HSZ.out _).trans (hfr2.below B (by simp; have := HSZ.out; omega) (fun x hx => OwnF.ge HO.out x hx)))
                   clear hown2 hfr2
                   go_wp2_with (at_builtin; refine wpList_appS rfl (.tmp 18) (.tmp 19) 35 9 rfl Tryd.underlying35 Tryd.underlying9 HO2.out rfl sk rfl (by rw [List.length_append]; have := HLN.out; simp; omega) (Nat.le_trans hB HF2.out.size) ?_; intro v3 w3 hown3 hfr3
                                have HO3 := Lib.hid (hown3)
                                have HF3 := Lib.hid (HF2.out.trans (hfr3.below B (Nat.le_trans hB HF2.out.size) (fun x hx => OwnF.ge HO2.out x hx)))
                                clear hown3 hfr3)
                   go_roundw
                   case rel => exact ⟨k + 1, by omega, by go_num, by rw [HWL.out]; exact HO3.out, HF3.out⟩
                   case measure => simp [intOf]; omega)
    · obtain rfl : k = n := by omega
      go_wp2
      go_ret
      exact ⟨_, rfl, HO.out, HF.out⟩

end Go.Proofs.YtcfdlilhhfaaaaaDoor

namespace Go.Proofs.YtcfdlilhhfaaaaaDoor
open Go.ChangeShapes Go.WideShapes Go.ChangeAt Go.RowKit

/-- a type of few bytes, of such types -/
def okT (P : Program) (N : Nat) (t : TypeId) : Bool :=
  decide (P.bytesOf t ≤ 300) && match P.underlying t with
    | some (.pointer e) => decide (e < N)
    | some (.slice e) => decide (e < N)
    | some (.array _ e) => decide (e < N)
    | some (.map k e) => decide (k < N) && decide (e < N)
    | some (.struct fs) => fs.toList.all (fun f => decide (f.type < N))
    | _ => true

section
variable {H : Type} {P : Program} {N : Nat}

theorem okT_bytes (hP : ∀ t, t < N → okT P N t = true) {t : TypeId} (ht : t < N) : P.bytesOf t ≤ 300 := by
  have h := hP t ht
  unfold okT at h
  rw [Bool.and_eq_true] at h
  exact of_decide_eq_true h.1

theorem bulkEntry_one (x : Lit × DataW H) : 1 ≤ Rows.uptoBulkEntry x := by
  obtain ⟨l, d⟩ := x
  cases l <;> simp only [Rows.uptoBulkEntry] <;> omega

theorem bulkEntries_len (l : List (Lit × DataW H)) : l.length ≤ Rows.uptoBulkEntries l := by
  induction l with
  | nil => simp [Rows.uptoBulkEntries]
  | cons x r ih => have := bulkEntry_one x; simp only [Rows.uptoBulkEntries, List.length_cons]; omega

set_option maxRecDepth 10000
mutual
theorem weights_bulk (hP : ∀ t, t < N → okT P N t = true) : ∀ (d : DataW H) (t : TypeId), t < N → ∀ x ∈ d.weights P t, x ≤ Rows.uptoBulk d * 600
  | .lit (.string b), t, ht => fun x hx => by
      simp only [DataW.weights, List.mem_singleton] at hx
      subst hx
      simp only [Rows.uptoBulk]
      omega
  | .lit (.bool b), t, ht => fun x hx => by simp [DataW.weights] at hx
  | .lit (.int k b), t, ht => fun x hx => by simp [DataW.weights] at hx
  | .lit _, t, ht => fun x hx => by
      cases ‹Lit› <;> simp [DataW.weights] at hx
      subst hx
      simp only [Rows.uptoBulk]
      omega
  | .nil, t, ht => fun x hx => by simp [DataW.weights] at hx
  | .held _, t, ht => fun x hx => by simp [DataW.weights] at hx
  | .iface _ _, t, ht => fun x hx => by simp [DataW.weights] at hx
  | .ptr d, t, ht => fun x hx => by
      have h := hP t ht
      unfold okT at h
      rw [Bool.and_eq_true] at h
      simp only [DataW.weights] at hx
      split at hx
      · rename_i e he
        rw [he] at h
        have := weights_bulk hP d e (of_decide_eq_true h.2) x hx
        simp only [Rows.uptoBulk]
        omega
      · simp at hx
  | .slice elems spare, t, ht => fun x hx => by
      have h := hP t ht
      unfold okT at h
      rw [Bool.and_eq_true] at h
      simp only [DataW.weights] at hx
      split at hx
      · rename_i e he
        rw [he] at h
        have hb := okT_bytes hP (of_decide_eq_true h.2)
        have l1 := bulk_len elems
        have l2 := bulk_len spare
        simp only [Rows.uptoBulk]
        rcases List.mem_cons.1 hx with rfl | hx
        · have : (elems.length + spare.length) * P.bytesOf e ≤ (elems.length + spare.length) * 300 := Nat.mul_le_mul_left _ hb
          omega
        · rcases List.mem_append.1 hx with hx | hx
          · have := weightsAll_bulk hP elems e (of_decide_eq_true h.2) x hx
            omega
          · have := weightsAll_bulk hP spare e (of_decide_eq_true h.2) x hx
            omega
      · simp at hx
  | .agg parts, t, ht => fun x hx => by
      have h := hP t ht
      unfold okT at h
      rw [Bool.and_eq_true] at h
      simp only [DataW.weights] at hx
      split at hx
      · rename_i fs he
        rw [he] at h
        have := weightsEach_bulk hP parts (fs.toList.map (·.type)) (fun e he2 => by
          obtain ⟨f, hf, rfl⟩ := List.mem_map.1 he2
          exact of_decide_eq_true (List.all_eq_true.1 h.2 f hf)) x hx
        simp only [Rows.uptoBulk]
        omega
      · rename_i k e he
        rw [he] at h
        have := weightsAll_bulk hP parts e (of_decide_eq_true h.2) x hx
        simp only [Rows.uptoBulk]
        omega
      · simp at hx
  | .map entries, t, ht => fun x hx => by
      have h := hP t ht
      unfold okT at h
      rw [Bool.and_eq_true] at h
      simp only [DataW.weights] at hx
      split at hx
      · rename_i k e he
        rw [he] at h
        have h2 := h.2
        simp only [Bool.and_eq_true] at h2
        have hb := okT_bytes hP (of_decide_eq_true h2.1)
        have hc := okT_bytes hP (of_decide_eq_true h2.2)
        have hl := bulkEntries_len entries
        simp only [Rows.uptoBulk]
        rcases List.mem_cons.1 hx with rfl | hx
        · have : entries.length * (P.bytesOf k + P.bytesOf e) ≤ entries.length * 600 := Nat.mul_le_mul_left _ (by omega)
          omega
        · have := weightsEntries_bulk hP entries e (of_decide_eq_true h2.2) x hx
          omega
      · simp at hx
theorem weightsAll_bulk (hP : ∀ t, t < N → okT P N t = true) : ∀ (l : List (DataW H)) (e : TypeId), e < N → ∀ x ∈ DataW.weightsAll P e l, x ≤ Rows.uptoBulkAll l * 600
  | [], e, he => fun x hx => by simp [DataW.weightsAll] at hx
  | d :: r, e, he => fun x hx => by
      simp only [DataW.weightsAll] at hx
      simp only [Rows.uptoBulkAll]
      rcases List.mem_append.1 hx with hx | hx
      · have := weights_bulk hP d e he x hx
        omega
      · have := weightsAll_bulk hP r e he x hx
        omega
theorem weightsEach_bulk (hP : ∀ t, t < N → okT P N t = true) : ∀ (l : List (DataW H)) (ts : List TypeId), (∀ e ∈ ts, e < N) → ∀ x ∈ DataW.weightsEach P ts l, x ≤ Rows.uptoBulkAll l * 600
  | [], ts, he => fun x hx => by cases ts <;> simp [DataW.weightsEach] at hx
  | d :: r, [], he => fun x hx => by simp [DataW.weightsEach] at hx
  | d :: r, t :: ts, he => fun x hx => by
      simp only [DataW.weightsEach] at hx
      simp only [Rows.uptoBulkAll]
      rcases List.mem_append.1 hx with hx | hx
      · have := weights_bulk hP d t (he t (by simp)) x hx
        omega
      · have := weightsEach_bulk hP r ts (fun e h => he e (by simp [h])) x hx
        omega
theorem weightsEntries_bulk (hP : ∀ t, t < N → okT P N t = true) : ∀ (l : List (Lit × DataW H)) (e : TypeId), e < N → ∀ x ∈ DataW.weightsEntries P e l, x ≤ Rows.uptoBulkEntries l * 600
  | [], e, he => fun x hx => by simp [DataW.weightsEntries] at hx
  | y :: r, e, he => fun x hx => by
      simp only [DataW.weightsEntries] at hx
      simp only [Rows.uptoBulkEntries]
      rcases List.mem_append.1 hx with hx | hx
      · have := weightsEntry_bulk hP y e he x hx
        omega
      · have := weightsEntries_bulk hP r e he x hx
        omega
theorem weightsEntry_bulk (hP : ∀ t, t < N → okT P N t = true) : ∀ (y : Lit × DataW H) (e : TypeId), e < N → ∀ x ∈ DataW.weightsEntry P e y, x ≤ Rows.uptoBulkEntry y * 600
  | (.string b, d), e, he => fun x hx => by
      simp only [DataW.weightsEntry] at hx
      simp only [Rows.uptoBulkEntry]
      rcases List.mem_cons.1 hx with rfl | hx
      · omega
      · have := weights_bulk hP d e he x hx
        omega
  | (l, d), e, he => fun x hx => by
      have h1 : x ∈ d.weights P e ∨ x ≤ Rows.uptoBulkEntry (l, d) * 600 := by
        cases l with
        | string b =>
          simp only [DataW.weightsEntry] at hx
          rcases List.mem_cons.1 hx with rfl | hx
          · right
            simp only [Rows.uptoBulkEntry]
            omega
          · exact .inl hx
        | _ => exact .inl (by simpa [DataW.weightsEntry] using hx)
      rcases h1 with h1 | h1
      · have h2 := weights_bulk hP d e he x h1
        have h3 : Rows.uptoBulk d ≤ Rows.uptoBulkEntry (l, d) := by cases l <;> simp only [Rows.uptoBulkEntry] <;> omega
        omega
      · exact h1
end
end

end Go.Proofs.YtcfdlilhhfaaaaaDoor

namespace Go.Proofs.YtcfdlilhhfaaaaaDoor.U
open Go.ChangeShapes Go.WideShapes Go.ChangeAt Go.RowKit

section
variable {H : Type} {enc : TypeId × Value → H} {W : World} {base : Nat}

/-- some cells' own reading, its weights within the reach -/
def FldL (enc : TypeId × Value → H) (P : Program) (W : World) (t : TypeId) (cs : List Value) : Prop :=
  ∃ m y, DataW.trod enc P W 0 (fun _ => true) true m t cs = some y ∧ ∀ x ∈ y.1.weights P t, x ≤ 629145600

theorem fld_one {P : Program} {t : TypeId} {v : Value} (h : FldL enc P W t [v]) : FldOk enc P W t v := h

/-- a struct of whatever fields -/
theorem fld_wide {P : Program} {t : TypeId} {fs : Array Field} {cs : List Value} (he : P.underlying t = some (.struct fs)) (h : FldL enc P W t cs) :
    cs.length = P.cellsOf t ∧ ∀ (j : Nat) (f : Field), fs[j]? = some f → FldL enc P W f.type ((cs.drop f.offset).take (P.cellsOf f.type)) := by
  obtain ⟨m, y, h, hw⟩ := h
  obtain ⟨ys, n', _, hy, hlen, hyl, hf⟩ := DataW.trod_struct he h
  subst hy
  refine ⟨hlen, fun j f hj => ?_⟩
  have hjl : j < fs.size := (Array.getElem?_eq_some_iff.1 hj).1
  have h1 := hf j f hj
  rw [List.getElem?_eq_getElem (by omega)] at h1
  refine ⟨n', _, h1, fun x hx => hw x ?_⟩
  simp only [DataW.weights, he]
  exact DataW.weights_mem_each (j := j) (t := f.type) (d := (ys[j]'(by omega)).1) (by simp [hj]) (by simp [List.getElem?_eq_getElem (show j < ys.length by omega)]) x hx

theorem fld_rec {F : Nat → Value} (h0 : FldOk enc Tryd.prog W 58 (F 0)) (h1 : FldOk enc Tryd.prog W 3 (F 1)) (h2 : FldOk enc Tryd.prog W 3 (F 2)) (h3 : FldOk enc Tryd.prog W 3 (F 3)) (h4 : FldOk enc Tryd.prog W 35 (F 4)) :
    ∃ r : Rs, (r.Wf ∧ RsSm r) ∧ RsAt ⟨W.heap.size, []⟩ W F r := by
  obtain ⟨na, nl, nc, nm, e0, r0, _, _, z0, s0⟩ := fld_strs Tryd.underlying58 Tryd.underlying9 (by kernel_rfl) h0
  obtain ⟨ty, e1, b1⟩ := fld_int Tryd.underlying3 h1
  obtain ⟨cl, e2, b2⟩ := fld_int Tryd.underlying3 h2
  obtain ⟨tt, e3, b3⟩ := fld_int Tryd.underlying3 h3
  obtain ⟨da, dl, dc, dt, e4, r4, _, _, z4, s4⟩ := fld_ints Tryd.underlying35 Tryd.underlying5 (by kernel_rfl) h4
  rw [show Tryd.prog.bytesOf 5 = 1 by kernel_rfl] at z4
  rw [show Tryd.prog.bytesOf 9 = 16 by kernel_rfl] at z0
  refine ⟨⟨nl, nm, ty, cl, tt, dl, dt⟩, ⟨⟨bd_i64 b1, bd_i64 b2, bd_i64 b3, fun j hj => bd_u8 (s4 j hj), fun j hj => by have := s0 j hj; show (nm j).size ≤ _; omega, by show nl * 16 ≤ _; omega, by show dl ≤ _; omega⟩, ⟨z0, by show dl ≤ _; omega, s0⟩⟩,
    na, nc, da, dc, fun c hc => ?_, ⟨r0, r4, Cold.old r0 ⟨Nat.le_refl _, by simp⟩, Cold.old r4 ⟨Nat.le_refl _, by simp⟩⟩⟩
  match c, hc with
  | 0, _ => exact e0
  | 1, _ => exact e1
  | 2, _ => exact e2
  | 3, _ => exact e3
  | 4, _ => exact e4

set_option maxRecDepth 100000 in
theorem fld_recs {v : Value} (h : FldOk enc Tryd.prog W 41 v) : ∃ n R F, Sec ⟨W.heap.size, []⟩ W v n R F ∧ n * 72 ≤ 629145600 ∧ ∀ i, i < n → RsSm (R i) := by
  obtain ⟨a, n, c, G, rfl, r0, l0, l1, l2, hG⟩ := fld_structs Tryd.underlying41 Tryd.underlying68 (by kernel_rfl) (by kernel_rfl) (by decide) h
  rw [show Tryd.prog.bytesOf 68 = 72 by kernel_rfl] at l2
  have hex : ∀ i : Nat, ∃ m : Rs, i < n → (m.Wf ∧ RsSm m) ∧ RsAt ⟨W.heap.size, []⟩ W (G i) m := fun i => by
    by_cases hi : i < n
    · obtain ⟨m, hm, hm2⟩ := fld_rec (hG i hi 0 _ rfl) (hG i hi 1 _ rfl) (hG i hi 2 _ rfl) (hG i hi 3 _ rfl) (hG i hi 4 _ rfl)
      exact ⟨m, fun _ => ⟨hm, hm2⟩⟩
    · exact ⟨⟨0, fun _ => .empty, 0, 0, 0, 0, fun _ => 0⟩, fun h => absurd h hi⟩
  obtain ⟨R, hR⟩ := Classical.skolem.1 hex
  exact ⟨n, R, G, ⟨r0, Cold.oldC r0 (by decide) ⟨Nat.le_refl _, by simp⟩, fun i hi => (hR i hi).2, fun i hi => (hR i hi).1.1, by omega⟩, l2, fun i hi => (hR i hi).1.2⟩

theorem fld_que {F : Nat → Value} (h0 : FldOk enc Tryd.prog W 58 (F 0)) (h1 : FldOk enc Tryd.prog W 3 (F 1)) (h2 : FldOk enc Tryd.prog W 3 (F 2)) :
    ∃ r : Qs, (r.Wf ∧ QsSm r) ∧ QsAt ⟨W.heap.size, []⟩ W F r := by
  obtain ⟨na, nl, nc, nm, e0, r0, _, _, z0, s0⟩ := fld_strs Tryd.underlying58 Tryd.underlying9 (by kernel_rfl) h0
  obtain ⟨ty, e1, b1⟩ := fld_int Tryd.underlying3 h1
  obtain ⟨cl, e2, b2⟩ := fld_int Tryd.underlying3 h2
  rw [show Tryd.prog.bytesOf 9 = 16 by kernel_rfl] at z0
  refine ⟨⟨nl, nm, ty, cl⟩, ⟨⟨bd_i64 b1, bd_i64 b2, fun j hj => by have := s0 j hj; show (nm j).size ≤ _; omega, by show nl * 16 ≤ _; omega⟩, ⟨z0, s0⟩⟩, na, nc, fun c hc => ?_, r0, Cold.old r0 ⟨Nat.le_refl _, by simp⟩⟩
  match c, hc with
  | 0, _ => exact e0
  | 1, _ => exact e1
  | 2, _ => exact e2

set_option maxRecDepth 100000 in
theorem fld_ques {v : Value} (h : FldOk enc Tryd.prog W 40 v) : ∃ n R F, QSec ⟨W.heap.size, []⟩ W v n R F ∧ n * 40 ≤ 629145600 ∧ ∀ i, i < n → QsSm (R i) := by
  obtain ⟨a, n, c, G, rfl, r0, l0, l1, l2, hG⟩ := fld_structs Tryd.underlying40 Tryd.underlying62 (by kernel_rfl) (by kernel_rfl) (by decide) h
  rw [show Tryd.prog.bytesOf 62 = 40 by kernel_rfl] at l2
  have hex : ∀ i : Nat, ∃ m : Qs, i < n → (m.Wf ∧ QsSm m) ∧ QsAt ⟨W.heap.size, []⟩ W (G i) m := fun i => by
    by_cases hi : i < n
    · obtain ⟨m, hm, hm2⟩ := fld_que (hG i hi 0 _ rfl) (hG i hi 1 _ rfl) (hG i hi 2 _ rfl)
      exact ⟨m, fun _ => ⟨hm, hm2⟩⟩
    · exact ⟨⟨0, fun _ => .empty, 0, 0⟩, fun h => absurd h hi⟩
  obtain ⟨R, hR⟩ := Classical.skolem.1 hex
  exact ⟨n, R, G, ⟨r0, Cold.oldC r0 (by decide) ⟨Nat.le_refl _, by simp⟩, fun i hi => (hR i hi).2, fun i hi => (hR i hi).1.1, by omega⟩, l2, fun i hi => (hR i hi).1.2⟩

theorem list_one {α : Type} {n : Nat} {l : List α} (h : l.length = n + 1) : ∃ x r, l = x :: r ∧ r.length = n := by
  cases l with
  | nil => simp at h
  | cons x r => exact ⟨x, r, rfl, by simpa using h⟩

theorem list15 {l : List Value} (h : l.length = 15) : ∃ a b c d e f g i j k m n o p q, l = [a, b, c, d, e, f, g, i, j, k, m, n, o, p, q] := by
  obtain ⟨a, r0, e0, h0⟩ := list_one h
  obtain ⟨b, r1, e1, h1⟩ := list_one h0
  obtain ⟨c, r2, e2, h2⟩ := list_one h1
  obtain ⟨d, r3, e3, h3⟩ := list_one h2
  obtain ⟨e, r4, e4, h4⟩ := list_one h3
  obtain ⟨f, r5, e5, h5⟩ := list_one h4
  obtain ⟨g, r6, e6, h6⟩ := list_one h5
  obtain ⟨i, r7, e7, h7⟩ := list_one h6
  obtain ⟨j, r8, e8, h8⟩ := list_one h7
  obtain ⟨k, r9, e9, h9⟩ := list_one h8
  obtain ⟨m, r10, e10, h10⟩ := list_one h9
  obtain ⟨n, r11, e11, h11⟩ := list_one h10
  obtain ⟨o, r12, e12, h12⟩ := list_one h11
  obtain ⟨p, r13, e13, h13⟩ := list_one h12
  obtain ⟨q, r14, e14, h14⟩ := list_one h13
  have e15 := List.eq_nil_of_length_eq_zero h14
  exact ⟨a, b, c, d, e, f, g, i, j, k, m, n, o, p, q, by rw [e0, e1, e2, e3, e4, e5, e6, e7, e8, e9, e10, e11, e12, e13, e14, e15]⟩

set_option maxRecDepth 100000 in
/-- fifteen cells of a message -/
theorem fld_msg {cs : List Value} (h : FldL enc Tryd.prog W 43 cs) : ∃ (m : Ms) (vq va vu vm : Value), (Value.agg cs.toArray = msgV m.h vq va vu vm) ∧ MsOk ⟨W.heap.size, []⟩ W m vq va vu vm ∧ MsSm m := by
  obtain ⟨hl, hf⟩ := fld_wide Tryd.underlying43 h
  rw [show Tryd.prog.cellsOf 43 = 15 by kernel_rfl] at hl
  obtain ⟨c0, c1, c2, c3, c4, c5, c6, c7, c8, c9, c10, q, a, u, m, rfl⟩ := list15 hl
  · have hq := hf 1 _ rfl
    have ha := hf 2 _ rfl
    have hu := hf 3 _ rfl
    have hm := hf 4 _ rfl
    have hh := hf 0 _ rfl
    obtain ⟨_, hhf⟩ := fld_wide Tryd.underlying39 hh
    obtain ⟨x0, rfl, b0⟩ := fld_int Tryd.underlying3 (fld_one (v := c0) (hhf 0 _ rfl))
    obtain ⟨x1, rfl⟩ := fld_bool Tryd.underlying4 (fld_one (v := c1) (hhf 1 _ rfl))
    obtain ⟨x2, rfl, b2⟩ := fld_int Tryd.underlying3 (fld_one (v := c2) (hhf 2 _ rfl))
    obtain ⟨x3, rfl⟩ := fld_bool Tryd.underlying4 (fld_one (v := c3) (hhf 3 _ rfl))
    obtain ⟨x4, rfl⟩ := fld_bool Tryd.underlying4 (fld_one (v := c4) (hhf 4 _ rfl))
    obtain ⟨x5, rfl⟩ := fld_bool Tryd.underlying4 (fld_one (v := c5) (hhf 5 _ rfl))
    obtain ⟨x6, rfl⟩ := fld_bool Tryd.underlying4 (fld_one (v := c6) (hhf 6 _ rfl))
    obtain ⟨x7, rfl⟩ := fld_bool Tryd.underlying4 (fld_one (v := c7) (hhf 7 _ rfl))
    obtain ⟨x8, rfl⟩ := fld_bool Tryd.underlying4 (fld_one (v := c8) (hhf 8 _ rfl))
    obtain ⟨x9, rfl⟩ := fld_bool Tryd.underlying4 (fld_one (v := c9) (hhf 9 _ rfl))
    obtain ⟨x10, rfl, b10⟩ := fld_int Tryd.underlying3 (fld_one (v := c10) (hhf 10 _ rfl))
    obtain ⟨nq, Q, FQ, hQ, qz, qs⟩ := fld_ques (fld_one (v := q) hq)
    obtain ⟨na, A, FA, hA, az, as_⟩ := fld_recs (fld_one (v := a) ha)
    obtain ⟨nu, U, FU, hU, uz, us⟩ := fld_recs (fld_one (v := u) hu)
    obtain ⟨nm, M, FM, hM, mz, ms⟩ := fld_recs (fld_one (v := m) hm)
    exact ⟨⟨⟨x0, x1, x2, x3, x4, x5, x6, x7, x8, x9, x10⟩, nq, Q, na, A, nu, U, nm, M⟩, q, a, u, m, rfl, ⟨⟨FQ, hQ⟩, ⟨FA, hA⟩, ⟨FU, hU⟩, ⟨FM, hM⟩, ⟨bd_i64 b0, bd_i64 b2, bd_i64 b10⟩⟩, ⟨qz, az, uz, mz, qs, as_, us, ms⟩⟩

theorem fldL_of {ts : List TypeId} {ds : List (DataW H)} {j : Nat} {t : TypeId} {P : Program} {v : Value} {d : DataW H} {p : List MemPlace} (h : DataW.Trod enc P W 0 (fun _ => true) true t v d p)
    (hsz : (DataW.weightsEach P ts ds).all (· ≤ 629145600) = true) (hts : ts[j]? = some t) (hds : ds[j]? = some d) : FldL enc P W t v.cells.toList := by
  obtain ⟨m, hm⟩ := h
  refine ⟨m, _, hm, fun x hx => ?_⟩
  have := List.all_eq_true.1 hsz _ (DataW.weights_mem_each hts hds x hx)
  simpa using this

set_option maxRecDepth 100000 in
set_option maxRecDepth 100000 in
/-- the arguments' weights, where their bulk is small -/
theorem small_weights {ts : List TypeId} {ds : List (DataW H)} {N : Nat} {P : Program} (hP : ((List.range N).all (okT P N)) = true) (hts : ts.all (fun t => decide (t < N)) = true) (hk : Rows.uptoSmall H ds = true) : (DataW.weightsEach P ts ds).all (· ≤ 629145600) = true := by
  have hb := bulk_bound hk
  rw [List.all_eq_true]
  intro x hx
  have hP2 : ∀ t, t < N → okT P N t = true := fun t ht => by
    rw [List.all_eq_true] at hP
    exact hP t (List.mem_range.2 ht)
  have hts2 : ∀ e ∈ ts, e < N := fun e he => by
    rw [List.all_eq_true] at hts
    exact of_decide_eq_true (hts e he)
  have h1 := weightsEach_bulk hP2 ds ts hts2 x hx
  have h2 : x ≤ 629145600 := by omega
  exact decide_eq_true h2

set_option maxRecDepth 100000 in
/-- a message that comes in -/
theorem arg_msg {v : Value} {d : DataW H} {p : List MemPlace} {ts : List TypeId} {ds : List (DataW H)} {j : Nat}
    (hok : Value.okWide Tryd.prog W .any base 43 v) (h : DataW.Trod enc Tryd.prog W 0 (fun _ => true) true 43 v d p)
    (hsz : (DataW.weightsEach Tryd.prog ts ds).all (· ≤ 629145600) = true) (hts : ts[j]? = some 43) (hds : ds[j]? = some d) :
    ∃ (m : Ms) (vq va vu vm : Value), v = msgV m.h vq va vu vm ∧ MsOk ⟨W.heap.size, []⟩ W m vq va vu vm ∧ MsSm m := by
  obtain ⟨cs, rfl, hsize⟩ := okWide_struct Tryd.underlying43 hok
  obtain ⟨m, vq, va, vu, vm, e, hm⟩ := fld_msg (fldL_of h hsz hts hds)
  exact ⟨m, vq, va, vu, vm, by rw [← e]; simp [Value.cells], hm⟩

set_option maxRecDepth 100000 in
/-- strings that come in -/
theorem arg_strs {v : Value} {d : DataW H} {p : List MemPlace} {ts : List TypeId} {ds : List (DataW H)} {j : Nat}
    (hok : Value.okWide Tryd.prog W .any base 58 v) (h : DataW.Trod enc Tryd.prog W 0 (fun _ => true) true 58 v d p)
    (hsz : (DataW.weightsEach Tryd.prog ts ds).all (· ≤ 629145600) = true) (hts : ts[j]? = some 58) (hds : ds[j]? = some d) :
    ∃ (a : Option Addr) (n c : Nat) (s : Nat → ByteArray), v = .slice a n c ∧ RdF W (.slice a n c) n (fun j => .string (s j)) ∧ n * 16 ≤ 629145600 ∧ ∀ i, i < n → (s i).size ≤ 629145600 := by
  obtain ⟨a0, len0, cap0, rfl⟩ := okWide_slice Tryd.underlying58 hok
  obtain ⟨a, n, c, s, e, r, _, _, z, sz⟩ := fld_strs Tryd.underlying58 Tryd.underlying9 (by kernel_rfl) (fld_of rfl h hsz hts hds)
  rw [show Tryd.prog.bytesOf 9 = 16 by kernel_rfl] at z
  exact ⟨a, n, c, s, e, r, z, sz⟩

end

end Go.Proofs.YtcfdlilhhfaaaaaDoor.U

namespace Go.Proofs.YtcfdlilhhfaaaaaDoor.U
open Go.RowKit

def nTypes : Nat := 262
theorem types_ok : ((List.range nTypes).all (okT Tryd.prog nTypes)) = true := by kernel_rfl

end Go.Proofs.YtcfdlilhhfaaaaaDoor.U

namespace Go.Proofs.YtcfdlilhhfaaaaaDoor
open Go.RowKit

theorem step_app {P : Program} {w : World} {ops : Array Oper} {o : Oper} {a : Act} {K : Act → World → Prop} {Q : Exit → Act → World → Prop} {X : Prop} (hgd : o.guard = none) (s x : Operand) (t : TypeId)
    (ho : o.op = .call { callee := .builtin .append, args := #[s, x], argTypes := #[t, t] })
    (E : TypeId) {z : Value} {bytes : Nat} (hinfo : (P.info? E).map (fun i => (i.zero, i.size, i.bytes)) = some (some z, 1, bytes)) (ht : P.underlying t = some (.slice E)) (hz : z.cells.size = 1)
    {v : Value} {n base : Nat} {f : Nat → Value} (hown : OwnF w base E v n f) (hs : a.eval s = v)
    {y : Value} {m : Nat} {g : Nat → Value} (hrd : RdF w y m g) (hx : a.eval x = y) (h1 : ∀ j, j < m → (g j).oneCell' = true)
    (h63 : n + m ≤ maxLen) (hbytes : (n + m) * bytes ≤ 140737488355328) (hbase : base ≤ w.heap.size)
    (h : ∀ v' w', OwnF w' base E v' (n + m) (app n f g) → Fr v.ownBlock.toList w w' → SameOrNew w v v' → K (a.put o.dst v') w') :
    if Region.wanted o (yielded ops a.tmps) = true then Oper.wp P o a w K Q else X := by
  have hw : Region.wanted o (yielded ops a.tmps) = true := by simp [Region.wanted, hgd]
  rw [if_pos hw]
  obtain ⟨v', w', hr, h2, h3, h4⟩ := run_app (P := P) w t o.type E hinfo ht hz hown hrd h1 h63 hbytes hbase
  unfold Oper.wp
  simp [execOp, ho, resolve, invoke, builtin, hs, hx, hr, Result.andThen]
  exact h v' w' h2 h3 h4

end Go.Proofs.YtcfdlilhhfaaaaaDoor

namespace Go.Proofs.YtcfdlilhhfaaaaaDoor
open Go.RowKit

theorem lbad_false {s : Nat → ByteArray} {n : Nat} (h : lbad s n = false) : ∀ j, j < n → (s j).size ≤ 63 := fun j hj => by
  by_cases h1 : (s j).size ≤ 63
  · exact h1
  · rw [lbad_true hj (.inr (by omega))] at h
    cases h

theorem nmFault_ok {n : Nat} {s : Nat → ByteArray} (h : nmFault n s = 0) : (∀ j, j < n → (s j).size ≤ 63) ∧ lbad s n = false ∧ nsz s n ≤ 255 := by
  unfold nmFault at h
  by_cases h1 : lbad s n = true
  · rw [if_pos h1] at h; omega
  · have h2 : lbad s n = false := by simpa using h1
    rw [if_neg h1] at h
    by_cases h3 : 255 < nsz s n
    · rw [if_pos h3] at h; omega
    · exact ⟨lbad_false h2, h2, by omega⟩

theorem nsz_len {s : Nat → ByteArray} {k : Nat} (h : nsz s k ≤ 255) : (k : Int) ≤ 254 ∧ ((wireL s k).length : Int) + 1 = nsz s k := by
  induction k with
  | zero => simp [nsz, wireL]
  | succ k ih =>
    simp only [nsz] at h ⊢
    have h1 := nsz_bd s k
    have h2 := ih (by omega)
    have h3 : (s k).data.toList.length = (s k).size := rfl
    simp only [wireL, List.length_append, List.length_cons, h3]
    have h4 : (k : Int) ≤ (wireL s k).length := by
      clear h h1 h2 h3 ih
      induction k with
      | zero => simp
      | succ k ih => simp only [wireL, List.length_append, List.length_cons]; omega
    omega

theorem erVn_ne (z : Int) : erVn z = .nilIface ∧ z = 0 ∨ erVn z = .iface 25 (.int .i64 z) ∧ z ≠ 0 := by
  unfold erVn
  by_cases h : z = 0
  · rw [if_pos h]; exact .inl ⟨rfl, h⟩
  · rw [if_neg h]; exact .inr ⟨rfl, h⟩

set_option maxHeartbeats 2000000 in
set_option maxRecDepth 100000 in
theorem wireWrite_bad (w : World) (a : Option Addr) (n c : Nat) (s : Nat → ByteArray) (hs : RdF w (.slice a n c) n (fun j => .string (s j))) (hss : ∀ j, j < n → (s j).size ≤ 140737488355328) (hz : nmFault n s ≠ 0) :
    Calls Tryd.prog 26 #[.slice none 0 0, .slice a n c] w fun e w' => e = .returned (.tuple #[.slice none 0 0, .iface 25 (.int .i64 (nmFault n s))]) ∧ w = w' := by
  have HC := Lib.hid (nameCheck_any w a n c s hs hss)
  clear hs hss
  generalize nmFault n s = z at *
  have hv : erVn z = .iface 25 (.int .i64 z) := by unfold erVn; rw [if_neg hz]
  have HV := Lib.hid hv
  go_enter Tryd.func26, Tryd.ntmps26
  go_wp2_with (go_at_call 55; refine HC.out.mono ?_; rintro e wx ⟨rfl, rfl⟩; rw [HV.out])
  go_ret2
  exact ⟨rfl, rfl⟩

set_option maxHeartbeats 2000000 in
set_option maxRecDepth 100000 in
theorem wireWrite_ok (w : World) (a : Option Addr) (n c : Nat) (s : Nat → ByteArray) (hs : RdF w (.slice a n c) n (fun j => .string (s j))) (hss : ∀ j, j < n → (s j).size ≤ 140737488355328) (hz : nmFault n s = 0) :
    Calls Tryd.prog 26 #[.slice none 0 0, .slice a n c] w fun e w' => ∃ v', e = .returned (.tuple #[v', .nilIface]) ∧ OwnB w' w.heap.size v' (wireL s n ++ [0]) ∧ Fr [] w w' := by
  have HC := Lib.hid (nameCheck_any w a n c s hs hss)
  obtain ⟨h63, _, h255⟩ := nmFault_ok hz
  obtain ⟨hn, hl⟩ := nsz_len h255
  have HLN := Lib.hid (show (wireL s n).length + 1 ≤ 255 by omega)
  have hap : ∀ b o, a = some ⟨b, o, none⟩ → 0 < n → b < w.heap.size := fun b o e h0 => by
    obtain ⟨b', o', cap, e1, _, _, hb, _⟩ := hs.shape h0
    subst e
    simp only [Value.slice.injEq, Option.some.injEq, Addr.mk.injEq] at e1
    obtain ⟨⟨rfl, _⟩, _⟩ := e1
    exact hb
  have HSE := Lib.hid (sent_any w w.heap.size (.slice none 0 0) [] a n c s (OwnB.nil _ _) (Nat.le_refl _) hs hap (fun j hj => Nat.le_trans (h63 j hj) (by decide)) (by simp; omega))
  have HCL := Lib.hid (clone_bytes w (.slice none 0 0) 0 (fun _ => 0) (.inl ⟨rfl, rfl⟩) (by decide))
  clear hs hss hap h63 hl h255
  have HZ := Lib.hid hz
  clear hz
  have hcl : Calls Tryd.prog 57 #[.slice none 0 0] w fun e w' => e = .returned (.slice none 0 0) ∧ w = w' := by
    clear HC HSE HCL HZ
    have hq := fun (wx : World) (a : Option Addr) (n c : Nat) => Lib.run_eql_slice_nil (P := Tryd.prog) wx 35 5 a n c 0 0 Tryd.underlying35
    go_enter Tryd.func57, Tryd.ntmps57
    go_wp2
    go_ret
    exact ⟨rfl, rfl⟩
  have HCL := Lib.hid hcl
  clear hcl
  have HV := Lib.hid (show erVn 0 = .nilIface from rfl)
  go_enter Tryd.func26, Tryd.ntmps26
  go_wp2_with (first
    | (go_at_call 55; refine HC.out.mono ?_; rintro e wx ⟨rfl, rfl⟩; rw [HZ.out, HV.out])
    | (go_at_call 57; refine HCL.out.mono ?_; rintro e wx ⟨rfl, rfl⟩)
    | (go_at_call 56; refine HSE.out.mono ?_; rintro e w1 ⟨v1, rfl, ho1, hf1⟩
       have HO1 := Lib.hid ho1
       have HF1 := Lib.hid hf1
       have HS1 := Lib.hid (show w.heap.size ≤ w1.heap.size from hf1.size)
       clear ho1 hf1
       go_wp2_with (at_builtin; refine wpList_app rfl (.tmp 15) (.tmp 16) 35 rfl 5 infoU8 Tryd.underlying35 rfl (OwnF.alloc HO1.out _) rfl (rd_one _ _ _ rfl) rfl (fun _ _ => rfl) (by unfold maxLen; have := HLN.out; simp; omega) (by have := HLN.out; simp; omega) (by simp; have := HS1.out; omega) ?_; intro v2 w2 hown2 hfr2 _
                    have HO2 := Lib.hid (OwnB.more hown2 [0] rfl (fun j hj => by
                      obtain rfl : j = 0 := by omega
                      rfl))
                    have HF2 := Lib.hid ((HF1.out.alloc HS1.out _).trans (hfr2.below w.heap.size (by simp; have := HS1.out; omega) (fun x hx => OwnF.ge HO1.out x hx)))
                    clear hown2 hfr2)))
  go_ret2
  exact ⟨_, rfl, by simpa using HO2.out, Fr.of_below HF2.out _⟩

end Go.Proofs.YtcfdlilhhfaaaaaDoor
