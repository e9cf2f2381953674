/- What the texts below need: Gen, Args, ArgsRows, BitsI, Cells, CellsApp, BuildOne, FldU, Info, CloneB, CloneS, Eq, Bytes, Name, Fold, NameCheck, MsgMem, Edns, MsSm, MsgsAt, Opts, OptsW, Own, Aged, Concat, Life, MsgsRng, OwnB, Pair, RefName0, Folded, RefName, SameB, Sent, Small, ArgsMsgU, ArgsMsgs, NTypesD, StepGo, StoreArr, StepAlloc, HandReg, Texts, SRec, MsEq, WireWrite, Key. -/
import Derived.WalkKit
import Derived.WalkSpells
import Derived.WalkLawsBesides
import Derived.Handy
import Derived.Outline
import Derived.Lib.Hide
import Derived.Deep.QuietTactic
import Derived.BigQuiet
import Derived.Deep.DeepCutAuto
import Derived.Deep.RegionWith
import Derived.Deep.RegionHeld3
import Derived.Laws.NewBlocks
import Derived.Test.YtkdmkpdooiacaaaDoorRows
import Derived.ProofKit
import Derived.OpenShut
import Derived.ChangeOld
import Derived.SizedLaws
import Derived.Deep.Slices
import Derived.ChangeArms
import Derived.Lib.SmallJoins
import Derived.Laws.BitsLemmas
import Derived.Deep.RegionLaw
import Derived.Great.BuildSlice
import Derived.Deep.MidRow
import Derived.Deep.Fields
import Derived.Deep.Strs
import Derived.IntWalk
import Derived.Lib.ConvBytes
import Derived.Laws.BytesString
import Derived.Laws.IdiomStrings
import Derived.Lib.AppendZeros
import Derived.Lib.AppendStr
namespace Go.Proofs.YtkdmkpdooiacaaaDoor
open Go.RowKit

/-- All but the blocks of S is as it was; new blocks may have come. -/
structure Fr (S : List Nat) (w w' : World) : Prop where
  os : w'.os = w.os
  tape : w'.tape = w.tape
  output : w'.output = w.output
  size : w.heap.size ≤ w'.heap.size
  block : ∀ k, k < w.heap.size → k ∉ S → w'.heap[k]? = w.heap[k]?

theorem Fr.refl (S : List Nat) (w : World) : Fr S w w := ⟨rfl, rfl, rfl, Nat.le_refl _, fun _ _ _ => rfl⟩

theorem Fr.trans {S S' : List Nat} {a b c : World} (h : Fr S a b) (k : Fr S' b c) (hs : ∀ x ∈ S', x ∈ S ∨ a.heap.size ≤ x) : Fr S a c :=
  ⟨k.os.trans h.os, k.tape.trans h.tape, k.output.trans h.output, Nat.le_trans h.size k.size, fun i hi hn =>
    (k.block i (Nat.lt_of_lt_of_le hi h.size) (fun hm => (hs i hm).elim hn (fun hge => by omega))).trans (h.block i hi hn)⟩

theorem Fr.mono {S S' : List Nat} {a b : World} (h : Fr S a b) (hs : ∀ x ∈ S, x ∈ S' ∨ a.heap.size ≤ x) : Fr S' a b := (Fr.refl S' a).trans h hs

theorem Fr.drewN {S : List Nat} {a w : World} (h : Fr S a w) (n : Nat) : Fr S a (w.drewN n) := ⟨h.os, h.tape, h.output, h.size, h.block⟩
theorem Fr.drew {S : List Nat} {a w : World} (h : Fr S a w) : Fr S a w.drew := ⟨h.os, h.tape, h.output, h.size, h.block⟩

theorem Fr.alloc {S : List Nat} {a w : World} (h : Fr S a w) (o : Obj) : Fr S a (w.alloc o) :=
  h.trans (S' := []) ⟨rfl, rfl, rfl, by simp, fun k hk _ => by show (w.heap.push o)[k]? = _; rw [Array.getElem?_push, if_neg (by omega)]⟩ (fun _ h => by cases h)

theorem Fr.setCell {S : List Nat} {a w : World} (h : Fr S a w) {p : Addr} (hp : p.block ∈ S ∨ a.heap.size ≤ p.block) (u : Value) : Fr S a (w.setCell p u) :=
  h.trans (S' := [p.block]) ⟨rfl, rfl, rfl, by simp [World.setCell], fun k hk hn => Below.heap_setCell _ _ _ _ (by simpa using hn)⟩ (fun x hx => by simp at hx; subst hx; exact hp)

theorem Fr.of_grown {w w' : World} {row : Option Nat} (h : w.grownBy w' row) (S : List Nat) (hs : ∀ k, row = some k → k ∈ S ∨ w.heap.size ≤ k) : Fr S w w' :=
  ⟨h.os, h.tape, h.output, h.size, fun k hk hn => h.block k hk (fun e => (hs k e.symm).elim hn (fun hge => by omega))⟩

theorem Fr.below {S : List Nat} {w w' : World} (h : Fr S w w') (B : Nat) (hB : B ≤ w.heap.size) (hs : ∀ x ∈ S, B ≤ x) : Below B w w' :=
  ⟨h.os, h.tape, h.output, h.size, fun k hk => h.block k (by omega) (fun hm => by have := hs k hm; omega)⟩

theorem Fr.cell {S : List Nat} {w w' : World} (h : Fr S w w') {p : Addr} {v : Value} (hv : w.cell? p = some v) (hn : p.block ∉ S) : w'.cell? p = some v :=
  (World.cell?_of_block (h.block p.block (World.block_lt_of_cell? w p hv) hn)).trans hv

theorem lt_of_blk {w : World} {b : Nat} {o : Obj} (h : w.heap[b]? = some o) : b < w.heap.size := (Array.getElem?_eq_some_iff.1 h).1

theorem Fr.blk {S : List Nat} {w w' : World} (h : Fr S w w') {b : Nat} {o : Obj} (hv : w.heap[b]? = some o) (hn : b ∉ S) : w'.heap[b]? = some o :=
  (h.block b (lt_of_blk hv) hn).trans hv

theorem Fr.of_below {w w' : World} (h : Below w.heap.size w w') (S : List Nat) : Fr S w w' := ⟨h.os, h.tape, h.output, h.size, fun k hk _ => h.block k hk⟩

theorem blk_cell {w : World} {p : Nat} {cs : Array Value} {T : TypeId} (h : w.heap[p]? = some (.cells cs T (0, 0))) (j : Nat) {v : Value} (hv : cs[j]? = some v) : w.cell? ⟨p, j, none⟩ = some v := by
  simp [World.cell?, h, hv]
theorem blk_frozen {w : World} {p : Nat} {cs : Array Value} {T : TypeId} (h : w.heap[p]? = some (.cells cs T (0, 0))) (j : Nat) : w.frozen? ⟨p, j, none⟩ = false := by
  simp [World.frozen?, h]

theorem blk_set1 {w : World} {p : Nat} {x : Value} {T : TypeId} (h : w.heap[p]? = some (.cells #[x] T (0, 0))) (u : Value) :
    (w.setCell ⟨p, 0, none⟩ u).heap[p]? = some (.cells #[u] T (0, 0)) := by
  simp only [World.setCell]
  rw [Array.getElem?_modify, if_pos rfl, h]
  rfl

theorem blk_set2 {w : World} {p : Nat} {x y : Value} {T : TypeId} (h : w.heap[p]? = some (.cells #[x, y] T (0, 0))) (u v : Value) :
    ((w.setCell ⟨p, 0, none⟩ u).setCell ⟨p, 1, none⟩ v).heap[p]? = some (.cells #[u, v] T (0, 0)) := by
  simp only [World.setCell]
  rw [Array.getElem?_modify, if_pos rfl, Array.getElem?_modify, if_pos rfl, h]
  rfl

/-- A row of the call's own: n of its cap cells (of type E) hold f 0, f 1, .. -/
def RowF (w : World) (g : Nat) (E : TypeId) (n cap : Nat) (f : Nat → Value) : Prop :=
  ∃ cur, w.heap[g]? = some (.cells cur E (0, 0)) ∧ cur.size = cap ∧ n ≤ cap ∧ cap ≤ maxLen ∧ ∀ j, j < n → cur[j]? = some (f j)

abbrev RowI (w : World) (g : Nat) (n cap : Nat) (f : Nat → Int) : Prop := RowF w g 3 n cap (fun j => .int .i64 (f j))

section
variable {w w' : World} {g : Nat} {E : TypeId} {n cap : Nat} {f : Nat → Value}
theorem RowF.lt (h : RowF w g E n cap f) : g < w.heap.size := by obtain ⟨cur, h1, _⟩ := h; exact lt_of_blk h1
theorem RowF.le (h : RowF w g E n cap f) : n ≤ cap := by obtain ⟨cur, _, _, h1, _⟩ := h; exact h1
theorem RowF.cap_le (h : RowF w g E n cap f) : cap ≤ maxLen := by obtain ⟨cur, _, _, _, h1, _⟩ := h; exact h1
theorem RowF.cell (h : RowF w g E n cap f) (j : Nat) (hj : j < n) : w.cell? ⟨g, j, none⟩ = some (f j) := by
  obtain ⟨cur, h1, h2, h3, h4, h5⟩ := h
  simp [World.cell?, h1, h5 j hj]
theorem RowF.frozen (h : RowF w g E n cap f) (j : Nat) : w.frozen? ⟨g, j, none⟩ = false := by
  obtain ⟨cur, h1, h2, h3, h4, h5⟩ := h
  simp [World.frozen?, h1]
theorem RowF.congr (h : RowF w g E n cap f) {f' : Nat → Value} (he : ∀ j, j < n → f j = f' j) : RowF w g E n cap f' := by
  obtain ⟨cur, h1, h2, h3, h4, h5⟩ := h
  exact ⟨cur, h1, h2, h3, h4, fun j hj => by rw [h5 j hj, he j hj]⟩
theorem RowF.take (h : RowF w g E n cap f) (m : Nat) (hm : m ≤ n) : RowF w g E m cap f := by
  obtain ⟨cur, h1, h2, h3, h4, h5⟩ := h
  exact ⟨cur, h1, h2, by omega, h4, fun j hj => h5 j (by omega)⟩
theorem RowF.of_block (h : RowF w g E n cap f) (hb : w'.heap[g]? = w.heap[g]?) : RowF w' g E n cap f := by
  obtain ⟨cur, h1, h2⟩ := h
  exact ⟨cur, hb.trans h1, h2⟩
theorem RowF.kept {S : List Nat} (h : RowF w g E n cap f) (hf : Fr S w w') (hn : g ∉ S) : RowF w' g E n cap f := h.of_block (hf.block g h.lt hn)
theorem RowF.below {B : Nat} (h : RowF w g E n cap f) (hf : Below B w w') (hn : g < B) : RowF w' g E n cap f := h.of_block (hf.block g hn)
theorem RowF.stored (h : RowF w g E n cap f) (k : Nat) (u : Value) : RowF (w.setCell ⟨g, k, none⟩ u) g E n cap (fun j => if j = k then u else f j) := by
  obtain ⟨cur, h1, h2, h3, h4, h5⟩ := h
  refine ⟨cur.setIfInBounds k u, ?_, by simpa using h2, h3, h4, fun j hj => ?_⟩
  · simp only [World.setCell]
    rw [Array.getElem?_modify, if_pos rfl, h1]
    rfl
  · have hjc : j < cur.size := by omega
    have := h5 j hj
    by_cases hjk : j = k
    · subst hjk; simp [hjc]
    · simp only [if_neg hjk]
      rw [Array.getElem?_setIfInBounds_ne (by omega), this]
theorem RowF.owns (h : RowF w g E n cap f) (base : Nat) (hb : base ≤ g) (xs : List Value) (hl : xs.length = n) (hx : ∀ j, j < n → xs[j]? = some (f j)) : w.ownsRow base E 1 (.slice (some ⟨g, 0, none⟩) n cap) n xs := by
  obtain ⟨cur, h1, h2, h3, h4, h5⟩ := h
  refine ⟨by omega, .inr ⟨g, cap, cur, rfl, hb, h1, h3, h4, by omega, ?_⟩⟩
  rw [Nat.mul_one]
  apply List.ext_getElem?
  intro j
  by_cases hj : j < n
  · rw [List.getElem?_take, if_pos hj, hx j hj, Array.getElem?_toList, h5 j hj]
  · rw [List.getElem?_take, if_neg hj, List.getElem?_eq_none (by omega)]
end

theorem RowF.of_owns {w : World} {base E n : Nat} {v : Value} {xs : List Value} (h : w.ownsRow base E 1 v n xs) (hn : v ≠ .slice none 0 0) :
    ∃ g cap, v = .slice (some ⟨g, 0, none⟩) n cap ∧ base ≤ g ∧ ∀ f : Nat → Value, (∀ j, j < n → xs[j]? = some (f j)) → RowF w g E n cap f := by
  rcases h.2 with ⟨hv, _⟩ | ⟨g, cap, cur, hv, hb, hg, hc, hm, hs, ht⟩
  · exact absurd hv hn
  · refine ⟨g, cap, hv, hb, fun f hf => ⟨cur, hg, by omega, hc, hm, fun j hj => ?_⟩⟩
    have := hf j hj
    rw [← ht, Nat.mul_one, List.getElem?_take, if_pos hj, Array.getElem?_toList] at this
    exact this

/-- The slice value v of n one-cell elements reads as f 0, f 1, .. in w. -/
def RdF (w : World) (v : Value) (n : Nat) (f : Nat → Value) : Prop :=
  (v = .slice none 0 0 ∧ n = 0) ∨ ∃ a cap, v = .slice (some a) n cap ∧ n ≤ cap ∧ cap ≤ maxLen ∧ ∀ j, j < n → w.cell? (a.add j) = some (f j)

theorem RdF.shape {w : World} {v : Value} {n : Nat} {f : Nat → Value} (h : RdF w v n f) (hn : 0 < n) :
    ∃ b o cap, v = .slice (some ⟨b, o, none⟩) n cap ∧ n ≤ cap ∧ cap ≤ maxLen ∧ b < w.heap.size ∧ ∀ j, j < n → w.cell? ⟨b, o + j, none⟩ = some (f j) := by
  rcases h with ⟨_, h0⟩ | ⟨a, cap, hv, h1, h2, h3⟩
  · omega
  · obtain ⟨b, o, s⟩ := a
    have hc := h3 0 hn
    have hs : s = none := by simpa [Addr.add] using World.cell?_spot hc
    subst hs
    refine ⟨b, o, cap, hv, h1, h2, ?_, fun j hj => ?_⟩
    · have := World.block_lt_of_cell? w _ hc
      simpa [Addr.add] using this
    · have := h3 j hj
      by_cases h0 : j = 0
      · subst h0; simpa [Addr.add] using this
      · simpa [Addr.add, h0] using this

theorem RdF.kept {w w' : World} {v : Value} {n : Nat} {f : Nat → Value} (h : RdF w v n f) (hk : ∀ a u, w.cell? a = some u → w'.cell? a = some u) : RdF w' v n f := by
  rcases h with h | ⟨a, cap, hv, h1, h2, h3⟩
  · exact .inl h
  · exact .inr ⟨a, cap, hv, h1, h2, fun j hj => hk _ _ (h3 j hj)⟩

theorem RdF.below {w w' : World} {v : Value} {n : Nat} {f : Nat → Value} (h : RdF w v n f) (hk : Below w.heap.size w w') : RdF w' v n f :=
  h.kept fun a _ hu => (hk.cell (World.block_lt_of_cell? w a hu)).trans hu

theorem RdF.fr {w w' : World} {v : Value} {n : Nat} {f : Nat → Value} {S : List Nat} (h : RdF w v n f) (hk : Fr S w w') (hn : ∀ b o c, v = .slice (some ⟨b, o, none⟩) n c → b ∉ S) : RdF w' v n f := by
  by_cases h0 : n = 0
  · subst h0
    rcases h with h | ⟨a, cap, hv, h1, h2, h3⟩
    · exact .inl h
    · exact .inr ⟨a, cap, hv, h1, h2, fun j hj => by omega⟩
  · obtain ⟨b, o, cap, hv, h1, h2, h3, h4⟩ := h.shape (by omega)
    refine .inr ⟨⟨b, o, none⟩, cap, hv, h1, h2, fun j hj => ?_⟩
    have e : (⟨b, o, none⟩ : Addr).add j = ⟨b, o + j, none⟩ := by unfold Addr.add; split <;> simp_all
    rw [e]
    exact hk.cell (h4 j hj) (hn b o cap hv)

theorem RowF.rd {w : World} {g : Nat} {E : TypeId} {n cap : Nat} {f : Nat → Value} (h : RowF w g E n cap f) : RdF w (.slice (some ⟨g, 0, none⟩) n cap) n f :=
  .inr ⟨_, cap, rfl, h.le, h.cap_le, fun j hj => by
    have e : (⟨g, 0, none⟩ : Addr).add j = ⟨g, j, none⟩ := by unfold Addr.add; split <;> simp_all
    rw [e]; exact h.cell j hj⟩

theorem RdF.congr {w : World} {v : Value} {n : Nat} {f f' : Nat → Value} (h : RdF w v n f) (he : ∀ j, j < n → f j = f' j) : RdF w v n f' := by
  rcases h with h | ⟨a, cap, hv, h1, h2, h3⟩
  · exact .inl h
  · exact .inr ⟨a, cap, hv, h1, h2, fun j hj => by rw [h3 j hj, he j hj]⟩

/-- the list of f's first n values -/
def vals (n : Nat) (f : Nat → Value) : List Value := (List.range n).map f
theorem vals_len (n : Nat) (f : Nat → Value) : (vals n f).length = n := by simp [vals]
theorem vals_get (n : Nat) (f : Nat → Value) (j : Nat) (hj : j < n) : (vals n f)[j]? = some (f j) := by simp [vals, List.getElem?_map, List.getElem?_range hj]
theorem vals_get' {n : Nat} {f : Nat → Value} {j : Nat} {u : Value} (h : (vals n f)[j]? = some u) : j < n ∧ u = f j := by
  have hj : j < n := by
    have := (List.getElem?_eq_some_iff.1 h).1
    rwa [vals_len] at this
  rw [vals_get n f j hj] at h
  exact ⟨hj, (Option.some.inj h).symm⟩
theorem vals_int (n : Nat) (k : IntKind) (f : Nat → Int) : ∀ u ∈ vals n (fun j => .int k (f j)), u.oneCell' = true := by
  intro u hu
  simp only [vals, List.mem_map, List.mem_range] at hu
  obtain ⟨j, _, rfl⟩ := hu
  rfl

/-- The slice value v is nil and empty, or a row of its own from block B on, that holds f 0, f 1, .. -/
def OwnF (w : World) (B : Nat) (E : TypeId) (v : Value) (n : Nat) (f : Nat → Value) : Prop :=
  (v = .slice none 0 0 ∧ n = 0) ∨ ∃ g cap, v = .slice (some ⟨g, 0, none⟩) n cap ∧ B ≤ g ∧ RowF w g E n cap f

theorem OwnF.rd {w : World} {B : Nat} {E : TypeId} {v : Value} {n : Nat} {f : Nat → Value} (h : OwnF w B E v n f) : RdF w v n f := by
  rcases h with h | ⟨g, cap, rfl, _, h⟩
  · exact .inl h
  · exact h.rd

theorem OwnF.row {w : World} {B : Nat} {E : TypeId} {v : Value} {n : Nat} {f : Nat → Value} (h : OwnF w B E v n f) (hn : 0 < n) : ∃ g cap, v = .slice (some ⟨g, 0, none⟩) n cap ∧ B ≤ g ∧ RowF w g E n cap f := by
  rcases h with ⟨_, h⟩ | h
  · omega
  · exact h

theorem OwnF.of_owns {w : World} {base E n : Nat} {v : Value} {xs : List Value} (h : w.ownsRow base E 1 v n xs) (f : Nat → Value) (hf : ∀ j, j < n → xs[j]? = some (f j)) : OwnF w base E v n f := by
  by_cases hv : v = .slice none 0 0
  · rcases h.2 with h2 | ⟨g, cap, cur, e, _⟩
    · exact .inl h2
    · rw [hv] at e; cases e
  · obtain ⟨g, cap, e, hb, hr⟩ := RowF.of_owns h hv
    exact .inr ⟨g, cap, e, hb, hr f hf⟩

theorem OwnF.owns {w : World} {base E n : Nat} {v : Value} {f : Nat → Value} (h : OwnF w base E v n f) : w.ownsRow base E 1 v n (vals n f) := by
  rcases h with ⟨rfl, rfl⟩ | ⟨g, cap, rfl, hb, h⟩
  · exact World.ownsRow_nil _ _ _ _
  · exact h.owns base hb _ (vals_len _ _) fun j hj => vals_get n f j hj

theorem OwnF.kept {w w' : World} {B : Nat} {E : TypeId} {v : Value} {n : Nat} {f : Nat → Value} {S : List Nat} (h : OwnF w B E v n f) (hf : Fr S w w') (hS : ∀ g, v.ownBlock = some g → g ∉ S) : OwnF w' B E v n f := by
  rcases h with h | ⟨g, cap, rfl, hb, h⟩
  · exact .inl h
  · exact .inr ⟨g, cap, rfl, hb, h.kept hf (hS g rfl)⟩

theorem OwnF.mono {w : World} {B B' : Nat} {E : TypeId} {v : Value} {n : Nat} {f : Nat → Value} (h : OwnF w B E v n f) (hb : B' ≤ B) : OwnF w B' E v n f := by
  rcases h with h | ⟨g, cap, rfl, hb', h⟩
  · exact .inl h
  · exact .inr ⟨g, cap, rfl, Nat.le_trans hb hb', h⟩

theorem OwnF.congr {w : World} {B : Nat} {E : TypeId} {v : Value} {n : Nat} {f f' : Nat → Value} (h : OwnF w B E v n f) (he : ∀ j, j < n → f j = f' j) : OwnF w B E v n f' := by
  rcases h with h | ⟨g, cap, rfl, hb', h⟩
  · exact .inl h
  · exact .inr ⟨g, cap, rfl, hb', h.congr he⟩

theorem OwnF.nil (w : World) (B : Nat) (E : TypeId) (f : Nat → Value) : OwnF w B E (.slice none 0 0) 0 f := .inl ⟨rfl, rfl⟩

/-- f's first n, then g's. -/
def app (n : Nat) (f g : Nat → Value) (j : Nat) : Value := if j < n then f j else g (j - n)

theorem app_get {n m : Nat} {f g : Nat → Value} {j : Nat} (hj : j < n + m) : (vals n f ++ vals m g)[j]? = some (app n f g j) := by
  unfold app
  by_cases h : j < n
  · rw [List.getElem?_append_left (by rw [vals_len]; exact h), vals_get n f j h, if_pos h]
  · rw [List.getElem?_append_right (by rw [vals_len]; omega), vals_len, vals_get m g _ (by omega), if_neg h]

/-- the block of v' is v's own, or a new one -/
def SameOrNew (w : World) (v v' : Value) : Prop := ∀ x ∈ v'.ownBlock.toList, x ∈ v.ownBlock.toList ∨ w.heap.size ≤ x

theorem RowF.of_row {w : World} {g : Nat} {E : TypeId} {n cap : Nat} {f : Nat → Value} {cur : Array Value} (h1 : w.heap[g]? = some (.cells cur E (0, 0))) (h2 : cur.size = cap) (h3 : n ≤ cap) (h4 : cap ≤ maxLen)
    (h5 : ∀ j, j < n → cur[j]? = some (f j)) : RowF w g E n cap f := ⟨cur, h1, h2, h3, h4, h5⟩

/-- what append does onto a slice of the call's own (one-cell elements), from a slice that reads -/
theorem run_app {P : Program} (w : World) (t ty E : TypeId) {z : Value} {bytes : Nat} (hinfo : (P.info? E).map (fun i => (i.zero, i.size, i.bytes)) = some (some z, 1, bytes)) (ht : P.underlying t = some (.slice E)) (hz : z.cells.size = 1)
    {v : Value} {n base : Nat} {f : Nat → Value} (hown : OwnF w base E v n f)
    {y : Value} {m : Nat} {g : Nat → Value} (hrd : RdF w y m g) (h1 : ∀ j, j < m → (g j).oneCell' = true)
    (h63 : n + m ≤ maxLen) (hbytes : (n + m) * bytes ≤ 140737488355328) (hbase : base ≤ w.heap.size) :
    ∃ v' w', (Builtin.append_ #[t, t] ty #[v, y]).run P w = .ok v' w' ∧ OwnF w' base E v' (n + m) (app n f g) ∧ Fr v.ownBlock.toList w w' ∧ SameOrNew w v v' := by
  obtain ⟨i, hi, hz0, hz1, hz2⟩ := info_parts hinfo
  rcases hrd with ⟨rfl, rfl⟩ | ⟨ad, c, rfl, hmc, hcm, hcell⟩
  · have hr := run_append_owned_none (P := P) w base t ty E i 1 ht hi v n _ hown.owns
    exact ⟨v, w, hr, hown.congr (fun j hj => by simp [app, hj]), Fr.refl _ _, fun x hx => .inl hx⟩
  have hnews : ∀ j u, (vals m g)[j]? = some u → w.cell? (ad.add j) = some u := fun j u hu => by
    obtain ⟨hj, rfl⟩ := vals_get' hu
    exact hcell j hj
  have hnl : (vals m g).length = m * i.size := by rw [vals_len, hz1]; omega
  have hsmall : n + m ≤ 9223372036854775807 := by unfold maxLen at h63; omega
  have hgrow : ∀ (old : Nat), old < n + m → ∀ S, OwnF (w.drew.alloc (.cells ((vals n f).toArray ++ (vals m g).toArray ++ Builtin.zeroCells z.cells (grownCap w (n + m) old E - (n + m))) E)) base E (.slice (some ⟨w.heap.size, 0, none⟩) (n + m) (grownCap w (n + m) old E)) (n + m) (app n f g) ∧
      Fr S w (w.drew.alloc (.cells ((vals n f).toArray ++ (vals m g).toArray ++ Builtin.zeroCells z.cells (grownCap w (n + m) old E - (n + m))) E)) := by
    intro old ho S
    have hge := grownCap_ge w (n + m) old E
    have hcm := grownCap_le_maxLen w (n + m) old E h63
    refine ⟨.inr ⟨w.heap.size, _, rfl, hbase, RowF.of_row (heap_alloc_new w.drew _) ?_ hge hcm fun j hj => ?_⟩, ((Fr.refl S w).drew).alloc _⟩
    · simp only [Array.size_append, List.size_toArray, size_zeroCells, hz, vals_len]
      omega
    · rw [Array.getElem?_append_left (by simp [vals_len]; omega), ← Array.getElem?_toList]
      have := app_get (f := f) (g := g) hj
      simpa using this
  rcases hown with ⟨rfl, rfl⟩ | ⟨g0, cap, rfl, hb, hrow⟩
  · by_cases hm : m = 0
    · subst hm
      refine ⟨.slice none 0 0, w, ?_, OwnF.nil _ _ _ _, Fr.refl _ _, fun x hx => .inl hx⟩
      simp [Builtin.append_, run_underlying ht, sizeOf, typeInfo, hi, Builtin.lenOf, Builtin.firstCells, loadCells, loadCellsFrom]
    · have hr := run_append_nil (P := P) w t ty E i z ht hi hz0 ad m c (vals m g) hnl hnews (by omega) (by omega) (by rw [hz2]; have hb2 := hbytes; simp only [Nat.zero_add] at hb2; omega)
      have hg := hgrow 0 (by omega) (Value.ownBlock (.slice none 0 0)).toList
      have e0 : (vals 0 f).toArray = #[] := rfl
      simp only [Nat.zero_add, e0, Array.empty_append] at hg ⊢
      exact ⟨_, _, hr, hg.1, hg.2, fun x hx => .inr (by simp [Value.ownBlock] at hx; omega)⟩
  · by_cases hroom : n + m ≤ cap
    · obtain ⟨cur, hcur, hcs, hnc, hcml, hcells⟩ := hrow
      have hfit : n * i.size + (vals m g).length ≤ cur.size := by rw [vals_len, hz1, hcs]; omega
      have h1' : ∀ u ∈ vals m g, u.oneCell' = true := fun u hu => by
        simp only [vals, List.mem_map, List.mem_range] at hu
        obtain ⟨j, hj, rfl⟩ := hu
        exact h1 j hj
      have hr := run_append_room (P := P) w t ty E i ht hi g0 n cap cur hcur ad m c (vals m g) hnl hnews h1' hroom hfit
      refine ⟨_, _, hr, .inr ⟨g0, cap, rfl, hb, RowF.of_row (setRow_heap w g0 cur _ E _ hcur) ?_ hroom hcml fun j hj => ?_⟩, ⟨rfl, rfl, rfl, by simp, fun k _ hn => setRow_other w g0 k _ (by simpa [Value.ownBlock] using hn)⟩, fun x hx => .inl (by simpa [Value.ownBlock] using hx)⟩
      · simp only [List.size_toArray, List.length_append, List.length_take, List.length_drop, Array.length_toList, vals_len, hz1]
        omega
      · have hlen : (cur.toList.take (n * i.size)).length = n := by rw [List.length_take, Array.length_toList, hz1]; omega
        have e : (cur.toList.take (n * i.size) ++ vals m g)[j]? = some (app n f g j) := by
          unfold app
          by_cases hjn : j < n
          · rw [if_pos hjn, List.getElem?_append_left (by omega), List.getElem?_take, if_pos (by rw [hz1]; omega), Array.getElem?_toList, hcells j hjn]
          · rw [if_neg hjn, List.getElem?_append_right (by omega), hlen, vals_get m g _ (by omega)]
        rw [← Array.getElem?_toList]
        simp only []
        rw [List.getElem?_append_left (by rw [List.length_append, hlen, vals_len]; omega)]
        exact e
    · have holds : ∀ j u, (vals n f)[j]? = some u → w.cell? ((⟨g0, 0, none⟩ : Addr).add j) = some u := fun j u hu => by
        obtain ⟨hj, rfl⟩ := vals_get' hu
        have e : (⟨g0, 0, none⟩ : Addr).add j = ⟨g0, j, none⟩ := by unfold Addr.add; split <;> simp_all
        rw [e]; exact hrow.cell j hj
      have hr := run_append_grow (P := P) w t ty E i z ht hi hz0 ⟨g0, 0, none⟩ n cap (vals n f) (by rw [vals_len, hz1]; omega) holds ad m c (vals m g) hnl hnews (by omega) (by omega) (growslice_fits (by omega) (by rw [hz2]; exact hbytes))
      have hg := hgrow cap (by omega) (Value.ownBlock (.slice (some ⟨g0, 0, none⟩) n cap)).toList
      exact ⟨_, _, hr, hg.1, hg.2, fun x hx => .inr (by simp [Value.ownBlock] at hx; omega)⟩

/-- append onto a slice of the call's own (one-cell elements), from a slice that reads. -/
theorem wpList_app {P : Program} {w : World} {ops : Array Oper} {rest : List Oper} {o : Oper} {a : Act} {Q : Exit → Act → World → Prop} (hgd : o.guard = none) (s x : Operand) (t : TypeId)
    (ho : o.op = .call { callee := .builtin .append, args := #[s, x], argTypes := #[t, t] })
    (E : TypeId) {z : Value} {bytes : Nat} (hinfo : (P.info? E).map (fun i => (i.zero, i.size, i.bytes)) = some (some z, 1, bytes)) (ht : P.underlying t = some (.slice E)) (hz : z.cells.size = 1)
    {v : Value} {n base : Nat} {f : Nat → Value} (hown : OwnF w base E v n f) (hs : a.eval s = v)
    {y : Value} {m : Nat} {g : Nat → Value} (hrd : RdF w y m g) (hx : a.eval x = y) (h1 : ∀ j, j < m → (g j).oneCell' = true)
    (h63 : n + m ≤ maxLen) (hbytes : (n + m) * bytes ≤ 140737488355328) (hbase : base ≤ w.heap.size)
    (h : ∀ v' w', OwnF w' base E v' (n + m) (app n f g) → Fr v.ownBlock.toList w w' → SameOrNew w v v' → wpList P ops Q rest (a.put o.dst v') w') : wpList P ops Q (o :: rest) a w := by
  obtain ⟨v', w', hr, h2, h3, h4⟩ := run_app (P := P) w t o.type E hinfo ht hz hown hrd h1 h63 hbytes hbase
  refine wpList_plain hgd fun _ hK => ?_
  unfold Oper.wp execOp
  simp only [ho, resolve, invoke, builtin, Sem.run_bind, Sem.run_pure, Result.andThen_ok, List.map_toArray, List.map_cons, List.map_nil, hs, hx, hr]
  exact hK _ _ (h v' w' h2 h3 h4)

/-- 'make([]T, n)' of one-cell elements: the row that it makes. -/
theorem run_mk {P : Program} (T E : TypeId) {z : Value} {bytes : Nat} (hinfo : (P.info? E).map (fun i => (i.zero, i.size, i.bytes)) = some (some z, 1, bytes)) (ht : P.underlying T = some (.slice E))
    (n : Nat) (hn : n * bytes ≤ 281474976710656) (hm : n ≤ maxLen) (u : World) :
    (Instr.makeSlice T (.int .i64 n) (.int .i64 n)).run P u = .ok (.slice (some ⟨u.heap.size, 0, none⟩) n n) (u.alloc (.cells (madeCells z.cells n) E)) := by
  obtain ⟨i, hi, hz0, hz1, hz2⟩ := info_parts hinfo
  have hb : (i.bytes : Int) * (n : Int) ≤ 281474976710656 := by
    rw [hz2, Int.mul_comm, ← Int.natCast_mul]
    omega
  have h := run_make (P := P) u T E i z ht hi hz0 .i64 .i64 (n : Int) (n : Int) (by omega) (Int.le_refl _) hb (by unfold maxLen at hm; omega)
  simpa [hz1] using h

theorem row_mk (u : World) (E : TypeId) (z : Value) (hz : z.cells = #[z]) (n : Nat) (hm : n ≤ maxLen) : RowF (u.alloc (.cells (madeCells z.cells n) E)) u.heap.size E n n (fun _ => z) := by
  refine ⟨_, heap_alloc_new u _, size_madeCells _ _, Nat.le_refl _, hm, fun j hj => ?_⟩
  have := toList_madeCells_one z n
  rw [hz, ← Array.getElem?_toList, this, List.getElem?_replicate, if_pos hj]

theorem OwnF.ge {w : World} {B : Nat} {E : TypeId} {v : Value} {n : Nat} {f : Nat → Value} (h : OwnF w B E v n f) : ∀ x ∈ v.ownBlock.toList, B ≤ x := by
  rcases h with ⟨rfl, _⟩ | ⟨g, cap, rfl, hb, _⟩
  · simp [Value.ownBlock]
  · simp [Value.ownBlock]; exact hb

theorem OwnF.lt {w : World} {B : Nat} {E : TypeId} {v : Value} {n : Nat} {f : Nat → Value} (h : OwnF w B E v n f) : ∀ x ∈ v.ownBlock.toList, x < w.heap.size := by
  rcases h with ⟨rfl, _⟩ | ⟨g, cap, rfl, hb, hr⟩
  · simp [Value.ownBlock]
  · simp [Value.ownBlock]; exact hr.lt

theorem OwnF.alloc {w : World} {B : Nat} {E : TypeId} {v : Value} {n : Nat} {f : Nat → Value} (h : OwnF w B E v n f) (o : Obj) : OwnF (w.alloc o) B E v n f := by
  rcases h with h | ⟨g, cap, rfl, hb, h⟩
  · exact .inl h
  · exact .inr ⟨g, cap, rfl, hb, h.kept ((Fr.refl [] w).alloc o) (by simp)⟩

theorem RowF.alloc {w : World} {g : Nat} {E : TypeId} {n cap : Nat} {f : Nat → Value} (h : RowF w g E n cap f) (o : Obj) : RowF (w.alloc o) g E n cap f := h.kept ((Fr.refl [] w).alloc o) (by simp)

/-- the slice of one that a call 'append(xs, x)' makes first -/
theorem rd_one (w : World) (x : Value) (E : TypeId) {b : Nat} (hb : w.heap.size = b) : RdF (w.alloc (.cells #[x] E)) (.slice (some ⟨b, 0, none⟩) 1 1) 1 (fun _ => x) :=
  .inr ⟨_, 1, rfl, Nat.le_refl _, by decide, fun j hj => by
    subst hb
    obtain rfl : j = 0 := by omega
    have h := heap_alloc_new w (.cells #[x] E)
    show (w.alloc (.cells #[x] E)).cell? ⟨w.heap.size, 0, none⟩ = some x
    rw [World.cell?, h]
    rfl⟩

theorem rd_two (w : World) (x y : Value) (E : TypeId) (f : Nat → Value) {b : Nat} (hb : w.heap.size = b) (h0 : f 0 = x) (h1 : f 1 = y) : RdF (w.alloc (.cells #[x, y] E)) (.slice (some ⟨b, 0, none⟩) 2 2) 2 f :=
  .inr ⟨_, 2, rfl, by decide, by decide, fun j hj => by
    subst hb
    match j, hj with
    | 0, _ => rw [h0]; exact blk_cell (heap_alloc_new w _) 0 rfl
    | 1, _ => rw [h1]; exact blk_cell (heap_alloc_new w _) 1 rfl⟩

theorem row_lit (w : World) (cs : Array Value) (E : TypeId) (n : Nat) (f : Nat → Value) (hs : cs.size = n) (hm : n ≤ maxLen) (hc : ∀ j, j < n → cs[j]? = some (f j)) : RowF (w.alloc (.cells cs E)) w.heap.size E n n f :=
  ⟨cs, heap_alloc_new w _, hs, Nat.le_refl _, hm, hc⟩

theorem Fr.app {W w w1 : World} {S : List Nat} {v : Value} (hf : Fr S W w) (o : Obj) (hf1 : Fr v.ownBlock.toList (w.alloc o) w1) (hv : ∀ x ∈ v.ownBlock.toList, W.heap.size ≤ x) : Fr S W w1 :=
  (hf.alloc o).trans hf1 fun x hx => .inr (hv x hx)

theorem RdF.zero {w : World} {v : Value} {f : Nat → Value} (h : RdF w v 0 f) (w' : World) (f' : Nat → Value) : RdF w' v 0 f' := by
  rcases h with h | ⟨a, cap, hv, h1, h2, _⟩
  · exact .inl h
  · exact .inr ⟨a, cap, hv, h1, h2, fun j hj => by omega⟩

theorem RdF.slice {w : World} {v : Value} {n : Nat} {f : Nat → Value} (h : RdF w v n f) : ∃ a c, v = .slice a n c := by
  rcases h with ⟨rfl, rfl⟩ | ⟨a, c, rfl, _⟩
  · exact ⟨_, _, rfl⟩
  · exact ⟨_, _, rfl⟩

theorem addr_add_add (a : Addr) (i j : Nat) : (a.add i).add j = a.add (i + j) := by
  unfold Addr.add
  by_cases hi : i = 0 <;> by_cases hj : j = 0 <;> simp [hi, hj, Nat.add_assoc]

/-- a part of what a slice reads as -/
theorem RdF.part {w : World} {a : Option Addr} {n c : Nat} {f : Nat → Value} (h : RdF w (.slice a n c) n f) (lo hi : Nat) (h1 : lo ≤ hi) (h2 : hi ≤ n) :
    RdF w (.slice (a.map (fun x => x.add lo)) (hi - lo) (c - lo)) (hi - lo) (fun j => f (lo + j)) := by
  rcases h with ⟨e, h0⟩ | ⟨ad, cap, e, h3, h4, h5⟩
  · simp only [Value.slice.injEq] at e
    obtain ⟨rfl, _, rfl⟩ := e
    have e1 : hi - lo = 0 := by omega
    rw [e1]
    exact .inl ⟨by simp, rfl⟩
  · simp only [Value.slice.injEq, true_and] at e
    obtain ⟨rfl, rfl⟩ := e
    exact .inr ⟨ad.add lo, c - lo, rfl, by omega, by omega, fun j hj => by rw [addr_add_add]; exact h5 (lo + j) (by omega)⟩

theorem RdF.empty {w : World} {a : Option Addr} {n c : Nat} {f : Nat → Value} (h : RdF w (.slice a n c) n f) (g : Nat → Value) : RdF w (.slice a 0 0) 0 g := by
  rcases h with ⟨e, h0⟩ | ⟨ad, cap, e, h3, h4, h5⟩
  · simp only [Value.slice.injEq] at e
    obtain ⟨rfl, _, rfl⟩ := e
    exact .inl ⟨rfl, rfl⟩
  · simp only [Value.slice.injEq, true_and] at e
    obtain ⟨rfl, rfl⟩ := e
    exact .inr ⟨ad, 0, rfl, Nat.le_refl _, by decide, fun j hj => by omega⟩

theorem RdF.le_cap {w : World} {a : Option Addr} {n c : Nat} {f : Nat → Value} (h : RdF w (.slice a n c) n f) : n ≤ c ∧ c ≤ maxLen := by
  rcases h with ⟨e, h0⟩ | ⟨ad, cap, e, h3, h4, h5⟩
  · simp only [Value.slice.injEq] at e
    obtain ⟨rfl, _, rfl⟩ := e
    exact ⟨by omega, by decide⟩
  · simp only [Value.slice.injEq, true_and] at e
    obtain ⟨rfl, rfl⟩ := e
    exact ⟨h3, h4⟩

end Go.Proofs.YtkdmkpdooiacaaaDoor

namespace Go.Proofs.YtkdmkpdooiacaaaDoor
open Go.ChangeShapes Go.WideShapes Go.ChangeAt Go.RowKit

section
variable {H : Type} {enc : TypeId × Value → H} {P : Program} {W : World} {base : Nat}

theorem arg_int {t : TypeId} {k : IntKind} {v : Value} {d : DataW H} {p : List MemPlace} (ht : P.underlying t = some (.int k)) (hok : Value.okWide P W .any base t v) (h : DataW.Trod enc P W 0 (fun _ => true) true t v d p) :
    ∃ x : Int, v = .int k x ∧ d = .lit (.int k x) ∧ (Lit.int k x).wf = true := by
  obtain ⟨x, rfl, rfl, _, hw⟩ := open_int ht hok h
  exact ⟨x, rfl, rfl, hw⟩

theorem bd_i64 {x : Int} (h : (Lit.int .i64 x).wf = true) : -9223372036854775808 ≤ x ∧ x ≤ 9223372036854775807 := by
  simpa [Lit.wf, IntKind.min, IntKind.max, IntKind.signed, IntKind.bits] using h

theorem bd_u8 {x : Int} (h : (Lit.int .u8 x).wf = true) : 0 ≤ x ∧ x ≤ 255 := by
  simpa [Lit.wf, IntKind.min, IntKind.max, IntKind.signed, IntKind.bits] using h

theorem arg_ints {t e : TypeId} {k : IntKind} {bytes : Nat} {v : Value} {d : DataW H} {p : List MemPlace} {ts : List TypeId} {ds : List (DataW H)} {j : Nat}
    (ht : P.underlying t = some (.slice e)) (he : P.underlying e = some (.int k)) (hc : P.cellsOf e = 1) (hb : P.bytesOf e = bytes)
    (hok : Value.okWide P W .any base t v) (h : DataW.Trod enc P W 0 (fun _ => true) true t v d p)
    (hsz : (DataW.weightsEach P ts ds).all (· ≤ reachBytes) = true) (hts : ts[j]? = some t) (hds : ds[j]? = some d) :
    ∃ (a : Option Addr) (n c : Nat) (f : Nat → Int), v = .slice a n c ∧ RdF W (.slice a n c) n (fun j => .int k (f j)) ∧ n * bytes ≤ 140737488351232 ∧ (∀ j, j < n → (Lit.int k (f j)).wf = true) ∧
      ((d = .nil ∧ n = 0) ∨ ∃ el sp, d = .slice el sp ∧ el.length = n) := by
  obtain ⟨a0, len0, cap0, rfl⟩ := okWide_slice ht hok
  obtain ⟨fuel, hf⟩ := h
  rcases open_ints ht he hc hf with ⟨hcs, hx⟩ | ⟨x, l, c, zs, hcs, _, hl, hm, hz, hx, hcell, hwz⟩
  · simp [Value.cells] at hcs
    obtain ⟨rfl, rfl, rfl⟩ := hcs
    obtain ⟨rfl, _⟩ := Prod.mk.inj hx
    exact ⟨none, 0, 0, fun _ => 0, rfl, .inl ⟨rfl, rfl⟩, by omega, fun j hj => by omega, .inl ⟨rfl, rfl⟩⟩
  · simp [Value.cells] at hcs
    obtain ⟨rfl, rfl, rfl⟩ := hcs
    obtain ⟨rfl, _⟩ := Prod.mk.inj hx
    have hz' : zs.length = cap0 := by simpa using hz
    have hs := sized_slice hsz hts hds ht
    rw [hb] at hs
    simp only [lits, List.length_map, List.length_take, List.length_drop, reachBytes] at hs
    have e1 : min len0 zs.length + (zs.length - len0) = cap0 := by omega
    rw [e1] at hs
    refine ⟨some x, len0, cap0, fun j => zs.getD j 0, rfl, .inr ⟨x, cap0, rfl, hl, hm, fun j hj => hcell j (by omega)⟩, Nat.le_trans (Nat.mul_le_mul_right _ hl) hs, fun j hj => ?_, .inr ⟨_, _, rfl, by simp [lits]; omega⟩⟩
    have hj' : j < zs.length := by omega
    have : zs.getD j 0 = zs[j] := by simp [List.getD, hj']
    show (Lit.int k (zs.getD j 0)).wf = true
    rw [this]
    exact hwz _ (List.getElem_mem hj')

/-- A slice of one-cell elements of whatever type: each element's value, and its own reading. -/
theorem arg_ones {t e : TypeId} {bytes : Nat} {v : Value} {d : DataW H} {p : List MemPlace} {ts : List TypeId} {ds : List (DataW H)} {j : Nat}
    (ht : P.underlying t = some (.slice e)) (hc : P.cellsOf e = 1) (hb : P.bytesOf e = bytes)
    (hok : Value.okWide P W .any base t v) (h : DataW.Trod enc P W 0 (fun _ => true) true t v d p)
    (hsz : (DataW.weightsEach P ts ds).all (· ≤ reachBytes) = true) (hts : ts[j]? = some t) (hds : ds[j]? = some d) :
    ∃ (a : Option Addr) (n c : Nat) (V : Nat → Value), v = .slice a n c ∧ RdF W (.slice a n c) n V ∧ n * bytes ≤ 140737488351232 ∧
      ((d = .nil ∧ n = 0) ∨ ∃ (m : Nat) (D : Nat → DataW H) (Pl : Nat → List MemPlace) (sp : List (DataW H)), d = .slice ((List.range n).map D) sp ∧ ∀ i, i < n → DataW.trod enc P W 0 (fun _ => true) true m e [V i] = some (D i, Pl i)) := by
  obtain ⟨a0, len0, cap0, rfl⟩ := okWide_slice ht hok
  obtain ⟨fuel, hf⟩ := h
  rcases Go.Deep.open_slice1 ht hc hf with ⟨hcs, hx⟩ | ⟨x, l, c, m, n, V, D, Pl, hcs, _, hl, hm, hmm, hx, hcell⟩
  · simp [Value.cells] at hcs
    obtain ⟨rfl, rfl, rfl⟩ := hcs
    obtain ⟨rfl, _⟩ := Prod.mk.inj hx
    exact ⟨none, 0, 0, fun _ => undef, rfl, .inl ⟨rfl, rfl⟩, by omega, .inl ⟨rfl, rfl⟩⟩
  · simp [Value.cells] at hcs
    obtain ⟨rfl, rfl, rfl⟩ := hcs
    obtain ⟨rfl, _⟩ := Prod.mk.inj hx
    have hmm' : m = cap0 := by simpa using hmm
    have hs := sized_slice hsz hts hds ht
    rw [hb] at hs
    simp only [List.length_map, List.length_range, reachBytes] at hs
    have e1 : len0 + (m - len0) = cap0 := by omega
    rw [e1] at hs
    exact ⟨some x, len0, cap0, V, rfl, .inr ⟨x, cap0, rfl, hl, hm, fun j hj => (hcell j (by omega)).1⟩, Nat.le_trans (Nat.mul_le_mul_right _ hl) hs, .inr ⟨n, D, Pl, _, rfl, fun i hi => (hcell i (by omega)).2⟩⟩

def boolOf : Value → Bool
  | .bool b => b
  | _ => false

theorem arg_bools {t e : TypeId} {v : Value} {d : DataW H} {p : List MemPlace} {ts : List TypeId} {ds : List (DataW H)} {j : Nat}
    (ht : P.underlying t = some (.slice e)) (he : P.underlying e = some .bool) (hc : P.cellsOf e = 1) (hb : P.bytesOf e = 1)
    (hok : Value.okWide P W .any base t v) (h : DataW.Trod enc P W 0 (fun _ => true) true t v d p)
    (hsz : (DataW.weightsEach P ts ds).all (· ≤ reachBytes) = true) (hts : ts[j]? = some t) (hds : ds[j]? = some d) :
    ∃ (a : Option Addr) (n c : Nat) (f : Nat → Bool), v = .slice a n c ∧ RdF W (.slice a n c) n (fun j => .bool (f j)) ∧ n ≤ 140737488351232 := by
  obtain ⟨a, n, c, V, rfl, hr, hs, hd⟩ := arg_ones ht hc hb hok h hsz hts hds
  refine ⟨a, n, c, fun j => boolOf (V j), rfl, hr.congr fun i hi => ?_, by omega⟩
  rcases hd with ⟨_, h0⟩ | ⟨m, D, Pl, sp, _, hD⟩
  · omega
  · obtain ⟨b, hb2, _⟩ := DataW.trod_bool he (hD i hi)
    have e2 : V i = .bool b := by simpa using hb2
    show V i = .bool (boolOf (V i))
    rw [e2]
    rfl

end

theorem own : ownKnob Tryd.prog.godebug = none := by kernel_rfl
theorem laidOut : laidOutB Tryd.prog = true := by kernel_rfl

end Go.Proofs.YtkdmkpdooiacaaaDoor

namespace Go.Proofs.YtkdmkpdooiacaaaDoor
open Go.ChangeShapes Go.WideShapes Go.ChangeAt Go.RowKit

theorem bulk_one {H : Type} (d : DataW H) : 1 ≤ Rows.uptoBulk d := by
  cases d with
  | lit l => cases l <;> simp [Rows.uptoBulk]
  | _ => simp [Rows.uptoBulk]

theorem bulk_app {H : Type} (l r : List (DataW H)) : Rows.uptoBulkAll (l ++ r) = Rows.uptoBulkAll l + Rows.uptoBulkAll r := by
  induction l with
  | nil => simp [Rows.uptoBulkAll]
  | cons x l ih => simp only [List.cons_append, Rows.uptoBulkAll, ih]; omega

theorem bulk_len {H : Type} (l : List (DataW H)) : l.length ≤ Rows.uptoBulkAll l := by
  induction l with
  | nil => simp [Rows.uptoBulkAll]
  | cons x r ih => have := bulk_one x; simp only [Rows.uptoBulkAll, List.length_cons]; omega

theorem bulk_slice {H : Type} (el sp : List (DataW H)) : el.length + 1 ≤ Rows.uptoBulk (.slice el sp) ∧ Rows.uptoBulkAll el + 1 ≤ Rows.uptoBulk (.slice el sp) := by
  have h1 := bulk_len el
  simp only [Rows.uptoBulk]
  omega

theorem bulk_bound {H : Type} {l : List (DataW H)} (hk : Rows.uptoSmall H l = true) : Rows.uptoBulkAll l ≤ 1048576 := by
  simpa [Rows.uptoSmall] using hk

/-- the bulk of an integers' slice, as 'arg_ints' hands its shape on -/
theorem bulk_ints {H : Type} {d : DataW H} {n : Nat} (h : (d = .nil ∧ n = 0) ∨ ∃ el sp, d = .slice el sp ∧ el.length = n) : n + 1 ≤ Rows.uptoBulk d := by
  rcases h with ⟨rfl, rfl⟩ | ⟨el, sp, rfl, rfl⟩
  · simp [Rows.uptoBulk]
  · exact (bulk_slice el sp).1

/-- the rows' lengths, one more each -/
def sm (L : Nat → Nat) : Nat → Nat
  | 0 => 0
  | i + 1 => sm L i + (L i + 1)

theorem sm_le (L : Nat → Nat) {i k : Nat} (h : i ≤ k) : sm L i ≤ sm L k := by
  induction k with
  | zero => rw [show i = 0 by omega]; exact Nat.le_refl _
  | succ k ih =>
    by_cases hik : i = k + 1
    · rw [hik]; exact Nat.le_refl _
    · have := ih (by omega); simp only [sm]; omega

section
variable {H : Type} {enc : TypeId × Value → H} {P : Program} {W : World} {base : Nat}

theorem sm_bulk {L : Nat → Nat} {D : Nat → DataW H} (n : Nat) (h : ∀ i, i < n → L i + 1 ≤ Rows.uptoBulk (D i)) : sm L n ≤ Rows.uptoBulkAll ((List.range n).map D) := by
  induction n with
  | zero => simp [sm]
  | succ n ih =>
    rw [List.range_succ, List.map_append, bulk_app]
    have h1 := ih fun i hi => h i (by omega)
    have h2 := h n (by omega)
    simp only [sm, List.map_cons, List.map_nil, Rows.uptoBulkAll]
    omega

theorem el_ints {e g : TypeId} {k : IntKind} {v : Value} {d : DataW H} {p : List MemPlace} {m : Nat}
    (ht : P.underlying e = some (.slice g)) (he : P.underlying g = some (.int k)) (hc : P.cellsOf g = 1) (h : DataW.trod enc P W 0 (fun _ => true) true m e [v] = some (d, p)) :
    ∃ (a : Option Addr) (n c : Nat) (f : Nat → Int), v = .slice a n c ∧ RdF W (.slice a n c) n (fun j => .int k (f j)) ∧ (∀ j, j < n → (Lit.int k (f j)).wf = true) ∧ n + 1 ≤ Rows.uptoBulk d ∧ (n = 0 ∨ ∃ x ∈ d.weights P e, n * P.bytesOf g ≤ x) := by
  rcases open_ints ht he hc h with ⟨hcs, hx⟩ | ⟨x, l, c, zs, hcs, _, hl, hm, hz, hx, hcell, hwz⟩
  · obtain rfl : v = .slice none 0 0 := by simpa using hcs
    obtain ⟨rfl, _⟩ := Prod.mk.inj hx
    exact ⟨none, 0, 0, fun _ => 0, rfl, .inl ⟨rfl, rfl⟩, fun j hj => by omega, by simp [Rows.uptoBulk], .inl rfl⟩
  · obtain rfl : v = .slice (some x) l c := by simpa using hcs
    obtain ⟨rfl, _⟩ := Prod.mk.inj hx
    have hz' : zs.length = c := by simpa using hz
    refine ⟨some x, l, c, fun j => zs.getD j 0, rfl, .inr ⟨x, c, rfl, hl, hm, fun j hj => hcell j (by omega)⟩, fun j hj => ?_, ?_, .inr ⟨c * P.bytesOf g, ?_, Nat.mul_le_mul_right _ hl⟩⟩
    · have hj' : j < zs.length := by omega
      have : zs.getD j 0 = zs[j] := by simp [List.getD, hj']
      show (Lit.int k (zs.getD j 0)).wf = true
      rw [this]
      exact hwz _ (List.getElem_mem hj')
    · have h1 := (bulk_slice (lits (H := H) k (zs.take l)) (lits k (zs.drop l))).1
      have h2 : (lits (H := H) k (zs.take l)).length = l := by simp [lits]; omega
      omega
    · simp only [DataW.weights, ht, List.mem_cons]
      left
      have h2 : (lits (H := H) k (zs.take l)).length = l := by simp [lits]; omega
      have h3 : (lits (H := H) k (zs.drop l)).length = c - l := by simp [lits]; omega
      rw [h2, h3, show l + (c - l) = c by omega]

theorem weights_all {e : TypeId} {l : List (DataW H)} {d : DataW H} (h : d ∈ l) {x : Nat} (hx : x ∈ d.weights P e) : x ∈ DataW.weightsAll P e l := by
  induction l with
  | nil => cases h
  | cons a l ih =>
    simp only [DataW.weightsAll, List.mem_append]
    rcases List.mem_cons.1 h with rfl | h
    · exact .inl hx
    · exact .inr (ih h)

/-- A slice of slices of integers. -/
theorem arg_rows {t e g : TypeId} {k : IntKind} {bytes : Nat} {v : Value} {d : DataW H} {p : List MemPlace} {ts : List TypeId} {ds : List (DataW H)} {j : Nat}
    (ht : P.underlying t = some (.slice e)) (hc : P.cellsOf e = 1) (hb : P.bytesOf e = bytes)
    (hte : P.underlying e = some (.slice g)) (hg : P.underlying g = some (.int k)) (hcg : P.cellsOf g = 1)
    (hok : Value.okWide P W .any base t v) (h : DataW.Trod enc P W 0 (fun _ => true) true t v d p)
    (hsz : (DataW.weightsEach P ts ds).all (· ≤ reachBytes) = true) (hts : ts[j]? = some t) (hds : ds[j]? = some d) :
    ∃ (a : Option Addr) (n c : Nat) (V : Nat → Value) (A : Nat → Option Addr) (L C : Nat → Nat) (F : Nat → Nat → Int), v = .slice a n c ∧ RdF W (.slice a n c) n V ∧ n * bytes ≤ 140737488351232 ∧
      (∀ i, i < n → V i = .slice (A i) (L i) (C i)) ∧ (∀ i, i < n → RdF W (.slice (A i) (L i) (C i)) (L i) (fun j => .int k (F i j))) ∧ (∀ i j, i < n → j < L i → (Lit.int k (F i j)).wf = true) ∧
      (∀ i, n ≤ i → L i = 0) ∧ n + 1 ≤ Rows.uptoBulk d ∧ sm L n + 1 ≤ Rows.uptoBulk d ∧ ∀ i, i < n → L i * P.bytesOf g ≤ 140737488351232 := by
  obtain ⟨a, n, c, V, rfl, hr, hs, hd⟩ := arg_ones ht hc hb hok h hsz hts hds
  rcases hd with ⟨rfl, rfl⟩ | ⟨m, D, Pl, sp, rfl, hD⟩
  · exact ⟨a, 0, c, V, fun _ => none, fun _ => 0, fun _ => 0, fun _ _ => 0, rfl, hr, hs, fun i hi => by omega, fun i hi => by omega, fun i j hi => by omega, fun _ _ => rfl, by simp [Rows.uptoBulk], by simp [Rows.uptoBulk, sm], fun i hi => by omega⟩
  · have hex : ∀ i : Nat, ∃ q : Option Addr × Nat × Nat × (Nat → Int), (i < n → V i = .slice q.1 q.2.1 q.2.2.1 ∧ RdF W (.slice q.1 q.2.1 q.2.2.1) q.2.1 (fun j => .int k (q.2.2.2 j)) ∧ (∀ j, j < q.2.1 → (Lit.int k (q.2.2.2 j)).wf = true) ∧ q.2.1 + 1 ≤ Rows.uptoBulk (D i) ∧ q.2.1 * P.bytesOf g ≤ 140737488351232) ∧ (n ≤ i → q.2.1 = 0) := by
      intro i
      by_cases hi : i < n
      · obtain ⟨a1, n1, c1, f1, e1, e2, e3, e4, e5⟩ := el_ints hte hg hcg (hD i hi)
        refine ⟨(a1, n1, c1, f1), fun _ => ⟨e1, e2, e3, e4, ?_⟩, fun h => by omega⟩
        rcases e5 with rfl | ⟨x, hx, hle⟩
        · simp
        · refine Nat.le_trans hle ?_
          have hm : x ∈ (DataW.slice ((List.range n).map D) sp).weights P t := by
            simp only [DataW.weights, ht, List.mem_cons, List.mem_append]
            exact .inr (.inl (weights_all (List.mem_map.2 ⟨i, List.mem_range.2 hi, rfl⟩) hx))
          have := List.all_eq_true.1 hsz _ (DataW.weights_mem_each hts hds x hm)
          simpa [reachBytes] using of_decide_eq_true this
      · exact ⟨(none, 0, 0, fun _ => 0), fun h => by omega, fun _ => rfl⟩
    obtain ⟨Q, hQ⟩ := Classical.skolem.1 hex
    have hb1 := bulk_slice ((List.range n).map D) sp
    have hb2 := sm_bulk (L := fun i => (Q i).2.1) (D := D) n (fun i hi => ((hQ i).1 hi).2.2.2.1)
    refine ⟨a, n, c, V, fun i => (Q i).1, fun i => (Q i).2.1, fun i => (Q i).2.2.1, fun i => (Q i).2.2.2, rfl, hr, hs, fun i hi => ((hQ i).1 hi).1, fun i hi => ((hQ i).1 hi).2.1, fun i j hi hj => ((hQ i).1 hi).2.2.1 j hj, fun i hi => (hQ i).2 hi, ?_, by omega, fun i hi => ((hQ i).1 hi).2.2.2.2⟩
    have := hb1.1
    simp at this
    omega

end
end Go.Proofs.YtkdmkpdooiacaaaDoor

namespace Go.Proofs.YtkdmkpdooiacaaaDoor
open Go.RowKit

theorem wraps_i64 (n : Int) (h0 : 0 ≤ n) (h1 : n < 2 ^ 62) : IntKind.i64.wrap n = n := by rw [IntKind.wrap_i64]; omega

theorem or_two {x y : Int} (h0 : 0 ≤ x) (h1 : x ≤ 255) (h2 : 0 ≤ y) (h3 : y ≤ 255) : bits .or .i64 (x * 256) y = x * 256 + y :=
  bits_join .i64 62 (by decide) wraps_i64 8 _ _ (by omega) (by omega) (by omega) h2 (by omega) (by omega)

theorem or_four {x y : Int} (h0 : 0 ≤ x) (h1 : x ≤ 65535) (h2 : 0 ≤ y) (h3 : y ≤ 65535) : bits .or .i64 (x * 65536) y = x * 65536 + y :=
  bits_join .i64 62 (by decide) wraps_i64 16 _ _ (by omega) (by omega) (by omega) h2 (by omega) (by omega)

theorem and_255 {x : Int} (h0 : 0 ≤ x) (h1 : x ≤ 4294967295) : bits .and .i64 x 255 = x % 256 :=
  bits_mask .i64 62 (by decide) wraps_i64 8 (by decide) x h0 (by omega)
theorem and_1 {x : Int} (h0 : 0 ≤ x) (h1 : x ≤ 4294967295) : bits .and .i64 x 1 = x % 2 :=
  bits_mask .i64 62 (by decide) wraps_i64 1 (by decide) x h0 (by omega)
theorem and_15 {x : Int} (h0 : 0 ≤ x) (h1 : x ≤ 4294967295) : bits .and .i64 x 15 = x % 16 :=
  bits_mask .i64 62 (by decide) wraps_i64 4 (by decide) x h0 (by omega)
theorem and_63 {x : Int} (h0 : 0 ≤ x) (h1 : x ≤ 4294967295) : bits .and .i64 x 63 = x % 64 :=
  bits_mask .i64 62 (by decide) wraps_i64 6 (by decide) x h0 (by omega)
theorem and_32767 {x : Int} (h0 : 0 ≤ x) (h1 : x ≤ 4294967295) : bits .and .i64 x 32767 = x % 32768 :=
  bits_mask .i64 62 (by decide) wraps_i64 15 (by decide) x h0 (by omega)

end Go.Proofs.YtkdmkpdooiacaaaDoor

namespace Go.Proofs.YtkdmkpdooiacaaaDoor
open Go.RowKit

/-- the cells, one behind the other -/
def fls (s : Nat) (F : Nat → Nat → Value) (c : Nat) : Value := F (c / s) (c % s)

theorem fls_at {s : Nat} {F : Nat → Nat → Value} {i c : Nat} (hc : c < s) : fls s F (i * s + c) = F i c := by
  unfold fls
  rw [Nat.mul_comm, Nat.mul_add_div (by omega), Nat.div_eq_of_lt hc, Nat.add_zero, Nat.mul_add_mod, Nat.mod_eq_of_lt hc]

theorem div_lt' {s n c : Nat} (hc : c < n * s) : c / s < n := by
  rw [Nat.div_lt_iff_lt_mul (by rcases Nat.eq_zero_or_pos s with h | h; subst h; simp at hc; exact h)]
  exact hc

theorem fls_congr {s n : Nat} {F G : Nat → Nat → Value} (hs : 0 < s) (h : ∀ i c, i < n → c < s → F i c = G i c) (c : Nat) (hc : c < n * s) : fls s F c = fls s G c := by
  unfold fls
  exact h _ _ (div_lt' hc) (Nat.mod_lt _ hs)

/-- A row of the call's own: n of its cap elements (s cells each, of type E) hold F 0, F 1, .. -/
def RowC (w : World) (g : Nat) (E : TypeId) (s n cap : Nat) (F : Nat → Nat → Value) : Prop :=
  ∃ cur, w.heap[g]? = some (.cells cur E (0, 0)) ∧ cur.size = cap * s ∧ n ≤ cap ∧ cap ≤ maxLen ∧ ∀ j, j < n * s → cur[j]? = some (fls s F j)

section
variable {w w' : World} {g : Nat} {E : TypeId} {s n cap : Nat} {F : Nat → Nat → Value}
theorem RowC.lt (h : RowC w g E s n cap F) : g < w.heap.size := by obtain ⟨cur, h1, _⟩ := h; exact lt_of_blk h1
theorem RowC.le (h : RowC w g E s n cap F) : n ≤ cap := by obtain ⟨cur, _, _, h1, _⟩ := h; exact h1
theorem RowC.cap_le (h : RowC w g E s n cap F) : cap ≤ maxLen := by obtain ⟨cur, _, _, _, h1, _⟩ := h; exact h1
theorem mul_in {s n i c : Nat} (hi : i < n) (hc : c < s) : i * s + c < n * s := by
  have : (i + 1) * s ≤ n * s := Nat.mul_le_mul_right _ (by omega)
  rw [Nat.add_mul] at this
  omega
theorem RowC.cell (h : RowC w g E s n cap F) (i c : Nat) (hi : i < n) (hc : c < s) : w.cell? ⟨g, i * s + c, none⟩ = some (F i c) := by
  obtain ⟨cur, h1, h2, h3, h4, h5⟩ := h
  have e := h5 (i * s + c) (mul_in hi hc)
  rw [fls_at hc] at e
  simp [World.cell?, h1, e]
theorem RowC.frozen (h : RowC w g E s n cap F) (j : Nat) : w.frozen? ⟨g, j, none⟩ = false := by
  obtain ⟨cur, h1, h2, h3, h4, h5⟩ := h
  simp [World.frozen?, h1]
theorem RowC.congr (h : RowC w g E s n cap F) (hs : 0 < s) {G : Nat → Nat → Value} (he : ∀ i c, i < n → c < s → F i c = G i c) : RowC w g E s n cap G := by
  obtain ⟨cur, h1, h2, h3, h4, h5⟩ := h
  exact ⟨cur, h1, h2, h3, h4, fun j hj => by rw [h5 j hj, fls_congr hs he j hj]⟩
theorem RowC.of_block (h : RowC w g E s n cap F) (hb : w'.heap[g]? = w.heap[g]?) : RowC w' g E s n cap F := by
  obtain ⟨cur, h1, h2⟩ := h
  exact ⟨cur, hb.trans h1, h2⟩
theorem RowC.kept {S : List Nat} (h : RowC w g E s n cap F) (hf : Fr S w w') (hn : g ∉ S) : RowC w' g E s n cap F := h.of_block (hf.block g h.lt hn)
theorem RowC.take (h : RowC w g E s n cap F) (m : Nat) (hm : m ≤ n) : RowC w g E s m cap F := by
  obtain ⟨cur, h1, h2, h3, h4, h5⟩ := h
  exact ⟨cur, h1, h2, by omega, h4, fun j hj => h5 j (Nat.lt_of_lt_of_le hj (Nat.mul_le_mul_right _ hm))⟩
end

/-- The slice value v of n elements reads as F 0, F 1, .. in w. -/
def RdC (w : World) (v : Value) (s n : Nat) (F : Nat → Nat → Value) : Prop :=
  (v = .slice none 0 0 ∧ n = 0) ∨ ∃ a cap, v = .slice (some a) n cap ∧ n ≤ cap ∧ cap ≤ maxLen ∧ ∀ j, j < n * s → w.cell? (a.add j) = some (fls s F j)

section
variable {w w' : World} {v : Value} {s n : Nat} {F : Nat → Nat → Value}
theorem RdC.shape (h : RdC w v s n F) (hn : 0 < n) (hs : 0 < s) :
    ∃ b o cap, v = .slice (some ⟨b, o, none⟩) n cap ∧ n ≤ cap ∧ cap ≤ maxLen ∧ b < w.heap.size ∧ ∀ i c, i < n → c < s → w.cell? ⟨b, o + i * s + c, none⟩ = some (F i c) := by
  rcases h with ⟨_, h0⟩ | ⟨a, cap, hv, h1, h2, h3⟩
  · omega
  · obtain ⟨b, o, t⟩ := a
    have hc := h3 0 (Nat.mul_pos hn hs)
    have ht : t = none := by simpa [Addr.add] using World.cell?_spot hc
    subst ht
    have hat : ∀ j, (⟨b, o, none⟩ : Addr).add j = ⟨b, o + j, none⟩ := fun j => by unfold Addr.add; split <;> simp_all
    refine ⟨b, o, cap, hv, h1, h2, ?_, fun i c hi hc2 => ?_⟩
    · have := World.block_lt_of_cell? w _ hc
      simpa [Addr.add] using this
    · have e := h3 (i * s + c) (mul_in hi hc2)
      rw [fls_at hc2, hat] at e
      rw [Nat.add_assoc]
      exact e

theorem RdC.kept (h : RdC w v s n F) (hk : ∀ a u, w.cell? a = some u → w'.cell? a = some u) : RdC w' v s n F := by
  rcases h with h | ⟨a, cap, hv, h1, h2, h3⟩
  · exact .inl h
  · exact .inr ⟨a, cap, hv, h1, h2, fun j hj => hk _ _ (h3 j hj)⟩

theorem RdC.fr (h : RdC w v s n F) (hk : Fr [] w w') : RdC w' v s n F := h.kept fun _ _ hu => hk.cell hu (by simp)

/-- kept while other blocks are written -/
theorem RdC.frs {S : List Nat} (h : RdC w v s n F) (hs : 0 < s) (hk : Fr S w w') (hn : ∀ b o c, 0 < n → v = .slice (some ⟨b, o, none⟩) n c → b ∉ S) : RdC w' v s n F := by
  by_cases h0 : n = 0
  · subst h0
    rcases h with h | ⟨a, cap, hv, h1, h2, h3⟩
    · exact .inl h
    · exact .inr ⟨a, cap, hv, h1, h2, fun j hj => by simp at hj⟩
  · obtain ⟨b, o, cap, hv, h1, h2, h3, h4⟩ := h.shape (by omega) hs
    refine .inr ⟨⟨b, o, none⟩, cap, hv, h1, h2, fun j hj => ?_⟩
    have e : (⟨b, o, none⟩ : Addr).add j = ⟨b, o + j, none⟩ := by unfold Addr.add; split <;> simp_all
    rw [e]
    have h5 := hk.cell (h4 (j / s) (j % s) (div_lt' hj) (Nat.mod_lt _ hs)) (hn b o cap (by omega) hv)
    have e2 : j / s * s + j % s = j := by rw [Nat.mul_comm]; exact Nat.div_add_mod j s
    rw [Nat.add_assoc, e2] at h5
    exact h5

theorem RdC.congr (h : RdC w v s n F) (hs : 0 < s) {G : Nat → Nat → Value} (he : ∀ i c, i < n → c < s → F i c = G i c) : RdC w v s n G := by
  rcases h with h | ⟨a, cap, hv, h1, h2, h3⟩
  · exact .inl h
  · exact .inr ⟨a, cap, hv, h1, h2, fun j hj => by rw [h3 j hj, fls_congr hs he j hj]⟩

theorem RdC.slice (h : RdC w v s n F) : ∃ a c, v = .slice a n c := by
  rcases h with ⟨rfl, rfl⟩ | ⟨a, c, rfl, _⟩
  · exact ⟨_, _, rfl⟩
  · exact ⟨_, _, rfl⟩
end

theorem RdC.part {w : World} {a : Option Addr} {s n c : Nat} {F : Nat → Nat → Value} (h : RdC w (.slice a n c) s n F) (hs : 0 < s) (lo hi : Nat) (h1 : lo ≤ hi) (h2 : hi ≤ n) :
    RdC w (.slice (a.map (fun x => x.add (lo * s))) (hi - lo) (c - lo)) s (hi - lo) (fun j => F (lo + j)) := by
  rcases h with ⟨e, h0⟩ | ⟨ad, cap, e, h3, h4, h5⟩
  · simp only [Value.slice.injEq] at e
    obtain ⟨rfl, _, rfl⟩ := e
    have e1 : hi - lo = 0 := by omega
    rw [e1]
    exact .inl ⟨by simp, rfl⟩
  · simp only [Value.slice.injEq, true_and] at e
    obtain ⟨rfl, rfl⟩ := e
    refine .inr ⟨ad.add (lo * s), c - lo, rfl, by omega, by omega, fun j hj => ?_⟩
    have hlt : lo * s + j < n * s := by
      have : lo * s + (hi - lo) * s = hi * s := by rw [← Nat.add_mul]; congr 1; omega
      have : hi * s ≤ n * s := Nat.mul_le_mul_right _ h2
      omega
    rw [addr_add_add, h5 (lo * s + j) hlt]
    unfold fls
    rw [Nat.mul_comm lo s, Nat.mul_add_div hs, Nat.mul_add_mod]

theorem RdC.upto {w : World} {a : Option Addr} {s n c : Nat} {F : Nat → Nat → Value} (h : RdC w (.slice a n c) s n F) (k : Nat) (hk : k ≤ n) : RdC w (.slice a k c) s k F := by
  rcases h with ⟨e, h0⟩ | ⟨ad, cap, e, h3, h4, h5⟩
  · simp only [Value.slice.injEq] at e
    obtain ⟨rfl, _, rfl⟩ := e
    rw [show k = 0 by omega]
    exact .inl ⟨rfl, rfl⟩
  · simp only [Value.slice.injEq, true_and] at e
    obtain ⟨rfl, rfl⟩ := e
    exact .inr ⟨ad, c, rfl, by omega, h4, fun j hj => h5 j (Nat.lt_of_lt_of_le hj (Nat.mul_le_mul_right _ hk))⟩

theorem RowC.rd {w : World} {g : Nat} {E : TypeId} {s n cap : Nat} {F : Nat → Nat → Value} (h : RowC w g E s n cap F) : RdC w (.slice (some ⟨g, 0, none⟩) n cap) s n F := by
  obtain ⟨cur, h1, h2, h3, h4, h5⟩ := h
  refine .inr ⟨_, cap, rfl, h3, h4, fun j hj => ?_⟩
  have e : (⟨g, 0, none⟩ : Addr).add j = ⟨g, j, none⟩ := by unfold Addr.add; split <;> simp_all
  rw [e]
  simp [World.cell?, h1, h5 j hj]

/-- v is nil and empty, or a row of its own from block B on, that holds F 0, F 1, .. -/
def OwnC (w : World) (B : Nat) (E : TypeId) (v : Value) (s n : Nat) (F : Nat → Nat → Value) : Prop :=
  (v = .slice none 0 0 ∧ n = 0) ∨ ∃ g cap, v = .slice (some ⟨g, 0, none⟩) n cap ∧ B ≤ g ∧ RowC w g E s n cap F

section
variable {w w' : World} {B : Nat} {E : TypeId} {v : Value} {s n : Nat} {F : Nat → Nat → Value}
theorem OwnC.rd (h : OwnC w B E v s n F) : RdC w v s n F := by
  rcases h with h | ⟨g, cap, rfl, _, h⟩
  · exact .inl h
  · exact h.rd
theorem OwnC.nil (w : World) (B : Nat) (E : TypeId) (s : Nat) (F : Nat → Nat → Value) : OwnC w B E (.slice none 0 0) s 0 F := .inl ⟨rfl, rfl⟩
theorem OwnC.row (h : OwnC w B E v s n F) (hn : 0 < n) : ∃ g cap, v = .slice (some ⟨g, 0, none⟩) n cap ∧ B ≤ g ∧ RowC w g E s n cap F := by
  rcases h with ⟨_, h⟩ | h
  · omega
  · exact h
theorem OwnC.kept {S : List Nat} (h : OwnC w B E v s n F) (hf : Fr S w w') (hS : ∀ g, v.ownBlock = some g → g ∉ S) : OwnC w' B E v s n F := by
  rcases h with h | ⟨g, cap, rfl, hb, h⟩
  · exact .inl h
  · exact .inr ⟨g, cap, rfl, hb, h.kept hf (hS g rfl)⟩
theorem OwnC.congr (h : OwnC w B E v s n F) (hs : 0 < s) {G : Nat → Nat → Value} (he : ∀ i c, i < n → c < s → F i c = G i c) : OwnC w B E v s n G := by
  rcases h with h | ⟨g, cap, rfl, hb', h⟩
  · exact .inl h
  · exact .inr ⟨g, cap, rfl, hb', h.congr hs he⟩
theorem OwnC.mono {B' : Nat} (h : OwnC w B E v s n F) (hb : B' ≤ B) : OwnC w B' E v s n F := by
  rcases h with h | ⟨g, cap, rfl, hb', h⟩
  · exact .inl h
  · exact .inr ⟨g, cap, rfl, Nat.le_trans hb hb', h⟩
theorem OwnC.ge (h : OwnC w B E v s n F) : ∀ x ∈ v.ownBlock.toList, B ≤ x := by
  rcases h with ⟨rfl, _⟩ | ⟨g, cap, rfl, hb, _⟩
  · simp [Value.ownBlock]
  · simp [Value.ownBlock]; exact hb
theorem OwnC.lt (h : OwnC w B E v s n F) : ∀ x ∈ v.ownBlock.toList, x < w.heap.size := by
  rcases h with ⟨rfl, _⟩ | ⟨g, cap, rfl, hb, hr⟩
  · simp [Value.ownBlock]
  · simp [Value.ownBlock]; exact hr.lt
theorem OwnC.apart {T : TypeId} {q : Nat} {cs : Array Value} (h : OwnC w B E v s n F) (hp : w.heap[q]? = some (.cells cs T (0, 0))) (hT : E ≠ T) : q ∉ v.ownBlock.toList := by
  rcases h with ⟨rfl, _⟩ | ⟨g, cap, rfl, hb, cur, h1, _⟩
  · simp [Value.ownBlock]
  · simp only [Value.ownBlock, Option.toList, List.mem_singleton]
    intro e
    subst e
    rw [hp] at h1
    simp only [Option.some.injEq, Obj.cells.injEq] at h1
    exact hT h1.2.1.symm
theorem OwnC.owns (h : OwnC w B E v s n F) : w.ownsRow B E s v n (vals (n * s) (fls s F)) := by
  rcases h with ⟨rfl, rfl⟩ | ⟨g, cap, rfl, hb, cur, h1, h2, h3, h4, h5⟩
  · rw [Nat.zero_mul]; exact World.ownsRow_nil _ _ _ _
  · refine ⟨by rw [vals_len], .inr ⟨g, cap, cur, rfl, hb, h1, h3, h4, by omega, ?_⟩⟩
    apply List.ext_getElem?
    intro j
    by_cases hj : j < n * s
    · rw [List.getElem?_take, if_pos hj, vals_get _ _ j hj, Array.getElem?_toList, h5 j hj]
    · rw [List.getElem?_take, if_neg hj, List.getElem?_eq_none (by rw [vals_len]; omega)]
end

/-- F's first n, then G's. -/
def appC (n : Nat) (F G : Nat → Nat → Value) (j : Nat) : Nat → Value := if j < n then F j else G (j - n)

theorem appC_get {s n m : Nat} (hs : 0 < s) {F G : Nat → Nat → Value} {j : Nat} (hj : j < (n + m) * s) : (vals (n * s) (fls s F) ++ vals (m * s) (fls s G))[j]? = some (fls s (appC n F G) j) := by
  rw [Nat.add_mul] at hj
  rw [app_get (n := n * s) (m := m * s) hj]
  unfold app fls appC
  by_cases h : j < n * s
  · rw [if_pos h, if_pos (div_lt' h)]
  · have hge : n * s ≤ j := by omega
    have hd : ¬ j / s < n := by
      intro hlt
      have := (Nat.div_lt_iff_lt_mul hs).1 hlt
      omega
    rw [if_neg h, if_neg hd]
    have e1 : (j - n * s) / s = j / s - n := by rw [Nat.mul_comm, Nat.sub_mul_div_of_le _ _ _ (by rw [Nat.mul_comm]; exact hge)]
    have e2 : (j - n * s) % s = j % s := by
      have : j = (j - n * s) + n * s := by omega
      conv => rhs; rw [this, Nat.add_mul_mod_self_right]
    rw [e1, e2]

end Go.Proofs.YtkdmkpdooiacaaaDoor

namespace Go.Proofs.YtkdmkpdooiacaaaDoor
open Go.RowKit

/-- what append does onto a slice of the call's own whose elements are s cells each, from a slice that reads -/
theorem run_appC {P : Program} (w : World) (t ty E : TypeId) {z : Value} {sz bytes : Nat} (hinfo : (P.info? E).map (fun i => (i.zero, i.size, i.bytes)) = some (some z, sz, bytes)) (ht : P.underlying t = some (.slice E)) (hz : z.cells.size = sz) (hs0 : 0 < sz) {m : Nat} {q : Nat → Nat → Value} (hone : ∀ j, j < m * sz → (fls sz q j).oneCell' = true)
    {v : Value} {n base : Nat} {p : Nat → Nat → Value} (hown : OwnC w base E v sz n p)
    {y : Value} (hrd : RdC w y sz m q)
    (h63 : n + m ≤ maxLen) (hbytes : (n + m) * bytes ≤ 140737488355328) (hbase : base ≤ w.heap.size) :
    ∃ v' w', (Builtin.append_ #[t, t] ty #[v, y]).run P w = .ok v' w' ∧ OwnC w' base E v' sz (n + m) (appC n p q) ∧ Fr v.ownBlock.toList w w' ∧ SameOrNew w v v' := by
  obtain ⟨i, hi, hz0, hz1, hz2⟩ := info_parts hinfo
  have hadd : (n + m) * sz = n * sz + m * sz := Nat.add_mul _ _ _
  rcases hrd with ⟨rfl, rfl⟩ | ⟨ad, c, rfl, hmc, hcm, hcell⟩
  · have hr := run_append_owned_none (P := P) w base t ty E i sz ht hi v n _ hown.owns
    exact ⟨v, w, hr, hown.congr hs0 (fun i c hi _ => by unfold appC; rw [if_pos (by omega)]), Fr.refl _ _, fun x hx => .inl hx⟩
  have hnews : ∀ j u, (vals (m * sz) (fls sz q))[j]? = some u → w.cell? (ad.add j) = some u := fun j u hu => by
    obtain ⟨hj, rfl⟩ := vals_get' hu
    exact hcell j hj
  have hnl : (vals (m * sz) (fls sz q)).length = m * i.size := by rw [vals_len, hz1]
  have hsmall : n + m ≤ 9223372036854775807 := by unfold maxLen at h63; omega
  have hgrow : ∀ (old : Nat), old < n + m → ∀ S, OwnC (w.drew.alloc (.cells ((vals (n * sz) (fls sz p)).toArray ++ (vals (m * sz) (fls sz q)).toArray ++ Builtin.zeroCells z.cells (grownCap w (n + m) old E - (n + m))) E)) base E (.slice (some ⟨w.heap.size, 0, none⟩) (n + m) (grownCap w (n + m) old E)) sz (n + m) (appC n p q) ∧
      Fr S w (w.drew.alloc (.cells ((vals (n * sz) (fls sz p)).toArray ++ (vals (m * sz) (fls sz q)).toArray ++ Builtin.zeroCells z.cells (grownCap w (n + m) old E - (n + m))) E)) := by
    intro old ho S
    have hge := grownCap_ge w (n + m) old E
    have hcm := grownCap_le_maxLen w (n + m) old E h63
    refine ⟨.inr ⟨w.heap.size, _, rfl, hbase, _, heap_alloc_new w.drew _, ?_, hge, hcm, fun j hj => ?_⟩, ((Fr.refl S w).drew).alloc _⟩
    · simp only [Array.size_append, List.size_toArray, size_zeroCells, hz, vals_len]
      rw [← hadd, ← Nat.add_mul]
      congr 1
      omega
    · rw [Array.getElem?_append_left (by simp [vals_len]; omega), ← Array.getElem?_toList]
      have := appC_get hs0 (F := p) (G := q) hj
      simpa using this
  rcases hown with ⟨rfl, rfl⟩ | ⟨g0, cap, rfl, hb, hrow⟩
  · by_cases hm : m = 0
    · subst hm
      refine ⟨.slice none 0 0, w, ?_, OwnC.nil _ _ _ _ _, Fr.refl _ _, fun x hx => .inl hx⟩
      simp [Builtin.append_, run_underlying ht, sizeOf, typeInfo, hi, Builtin.lenOf, Builtin.firstCells, loadCells, loadCellsFrom]
    · have hr := run_append_nil (P := P) w t ty E i z ht hi hz0 ad m c (vals (m * sz) (fls sz q)) hnl hnews (by omega) (by omega) (by rw [hz2]; have hb2 := hbytes; simp only [Nat.zero_add] at hb2; omega)
      have hg := hgrow 0 (by omega) (Value.ownBlock (.slice none 0 0)).toList
      have e0 : (vals (0 * sz) (fls sz p)).toArray = #[] := by rw [Nat.zero_mul]; rfl
      simp only [Nat.zero_add, e0, Array.empty_append] at hg ⊢
      exact ⟨_, _, hr, hg.1, hg.2, fun x hx => .inr (by simp [Value.ownBlock] at hx; omega)⟩
  · by_cases hroom : n + m ≤ cap
    · have hcapm : (n + m) * sz ≤ cap * sz := Nat.mul_le_mul_right _ hroom
      obtain ⟨cur, hcur, hcs, hnc, hcml, hcells⟩ := hrow
      have hncap : n * sz ≤ cap * sz := Nat.mul_le_mul_right _ hnc
      have hfit : n * i.size + (vals (m * sz) (fls sz q)).length ≤ cur.size := by rw [vals_len, hz1, hcs]; omega
      have h1' : ∀ u ∈ vals (m * sz) (fls sz q), u.oneCell' = true := fun u hu => by
        simp only [vals, List.mem_map, List.mem_range] at hu
        obtain ⟨j, hj, rfl⟩ := hu
        exact hone j hj
      have hr := run_append_room (P := P) w t ty E i ht hi g0 n cap cur hcur ad m c (vals (m * sz) (fls sz q)) hnl hnews h1' hroom hfit
      refine ⟨_, _, hr, .inr ⟨g0, cap, rfl, hb, _, setRow_heap w g0 cur _ E _ hcur, ?_, hroom, hcml, fun j hj => ?_⟩, ⟨rfl, rfl, rfl, by simp, fun k _ hn => setRow_other w g0 k _ (by simpa [Value.ownBlock] using hn)⟩, fun x hx => .inl (by simpa [Value.ownBlock] using hx)⟩
      · simp only [List.size_toArray, List.length_append, List.length_take, List.length_drop, Array.length_toList, vals_len, hz1]
        omega
      · have hlen : (cur.toList.take (n * i.size)).length = n * sz := by rw [List.length_take, Array.length_toList, hz1]; omega
        have htk : cur.toList.take (n * i.size) = vals (n * sz) (fls sz p) := by
          rw [hz1]
          apply List.ext_getElem?
          intro k
          by_cases hk : k < n * sz
          · rw [List.getElem?_take, if_pos hk, vals_get _ _ k hk, Array.getElem?_toList, hcells k hk]
          · rw [List.getElem?_take, if_neg hk, List.getElem?_eq_none (by rw [vals_len]; omega)]
        have e := appC_get hs0 (F := p) (G := q) hj
        rw [← htk] at e
        rw [← Array.getElem?_toList]
        simp only []
        rw [List.getElem?_append_left (by rw [List.length_append, hlen, vals_len]; omega)]
        exact e
    · obtain ⟨cur, hcur, hcs, hnc, hcml, hcells⟩ := hrow
      have holds : ∀ j u, (vals (n * sz) (fls sz p))[j]? = some u → w.cell? ((⟨g0, 0, none⟩ : Addr).add j) = some u := fun j u hu => by
        obtain ⟨hj, rfl⟩ := vals_get' hu
        have e : (⟨g0, 0, none⟩ : Addr).add j = ⟨g0, j, none⟩ := by unfold Addr.add; split <;> simp_all
        rw [e]
        simp [World.cell?, hcur, hcells j hj]
      have hr := run_append_grow (P := P) w t ty E i z ht hi hz0 ⟨g0, 0, none⟩ n cap (vals (n * sz) (fls sz p)) (by rw [vals_len, hz1]) holds ad m c (vals (m * sz) (fls sz q)) hnl hnews (by omega) (by omega) (growslice_fits (by omega) (by rw [hz2]; exact hbytes))
      have hg := hgrow cap (by omega) (Value.ownBlock (.slice (some ⟨g0, 0, none⟩) n cap)).toList
      exact ⟨_, _, hr, hg.1, hg.2, fun x hx => .inr (by simp [Value.ownBlock] at hx; omega)⟩

theorem wpList_appC {P : Program} {w : World} {ops : Array Oper} {rest : List Oper} {o : Oper} {a : Act} {Q : Exit → Act → World → Prop} (hgd : o.guard = none) (s x : Operand) (t : TypeId)
    (ho : o.op = .call { callee := .builtin .append, args := #[s, x], argTypes := #[t, t] })
    (E : TypeId) {z : Value} {sz bytes : Nat} (hinfo : (P.info? E).map (fun i => (i.zero, i.size, i.bytes)) = some (some z, sz, bytes)) (ht : P.underlying t = some (.slice E)) (hz : z.cells.size = sz) (hs0 : 0 < sz) {m : Nat} {q : Nat → Nat → Value} (hone : ∀ j, j < m * sz → (fls sz q j).oneCell' = true)
    {v : Value} {n base : Nat} {p : Nat → Nat → Value} (hown : OwnC w base E v sz n p) (hs : a.eval s = v)
    {y : Value} (hrd : RdC w y sz m q) (hx : a.eval x = y)
    (h63 : n + m ≤ maxLen) (hbytes : (n + m) * bytes ≤ 140737488355328) (hbase : base ≤ w.heap.size)
    (h : ∀ v' w', OwnC w' base E v' sz (n + m) (appC n p q) → Fr v.ownBlock.toList w w' → SameOrNew w v v' → wpList P ops Q rest (a.put o.dst v') w') : wpList P ops Q (o :: rest) a w := by
  obtain ⟨v', w', hr, h2, h3, h4⟩ := run_appC (P := P) w t o.type E hinfo ht hz hs0 hone hown hrd h63 hbytes hbase
  refine wpList_plain hgd fun _ hK => ?_
  unfold Oper.wp execOp
  simp only [ho, resolve, invoke, builtin, Sem.run_bind, Sem.run_pure, Result.andThen_ok, List.map_toArray, List.map_cons, List.map_nil, hs, hx, hr]
  exact hK _ _ (h v' w' h2 h3 h4)

theorem step_appC {P : Program} {w : World} {ops : Array Oper} {o : Oper} {a : Act} {K : Act → World → Prop} {Q : Exit → Act → World → Prop} {X : Prop} (hgd : o.guard = none) (s x : Operand) (t : TypeId)
    (ho : o.op = .call { callee := .builtin .append, args := #[s, x], argTypes := #[t, t] })
    (E : TypeId) {z : Value} {sz bytes : Nat} (hinfo : (P.info? E).map (fun i => (i.zero, i.size, i.bytes)) = some (some z, sz, bytes)) (ht : P.underlying t = some (.slice E)) (hz : z.cells.size = sz) (hs0 : 0 < sz) {m : Nat} {q : Nat → Nat → Value} (hone : ∀ j, j < m * sz → (fls sz q j).oneCell' = true)
    {v : Value} {n base : Nat} {p : Nat → Nat → Value} (hown : OwnC w base E v sz n p) (hs : a.eval s = v)
    {y : Value} (hrd : RdC w y sz m q) (hx : a.eval x = y)
    (h63 : n + m ≤ maxLen) (hbytes : (n + m) * bytes ≤ 140737488355328) (hbase : base ≤ w.heap.size)
    (h : ∀ v' w', OwnC w' base E v' sz (n + m) (appC n p q) → Fr v.ownBlock.toList w w' → SameOrNew w v v' → K (a.put o.dst v') w') :
    if Region.wanted o (yielded ops a.tmps) = true then Oper.wp P o a w K Q else X := by
  have hw : Region.wanted o (yielded ops a.tmps) = true := by simp [Region.wanted, hgd]
  rw [if_pos hw]
  obtain ⟨v', w', hr, h2, h3, h4⟩ := run_appC (P := P) w t o.type E hinfo ht hz hs0 hone hown hrd h63 hbytes hbase
  unfold Oper.wp
  simp [execOp, ho, resolve, invoke, builtin, hs, hx, hr, Result.andThen]
  exact h v' w' h2 h3 h4


end Go.Proofs.YtkdmkpdooiacaaaDoor

namespace Go.Proofs.YtkdmkpdooiacaaaDoor
open Go.RowKit

theorem fold_set (l : List Value) : ∀ (k : Nat) (acc : Array Value), k + l.length ≤ acc.size → (((l.zipIdx k).foldl (fun (cs : Array Value) (x : Value × Nat) => cs.setIfInBounds x.2 x.1) acc).toList = acc.toList.take k ++ (l ++ acc.toList.drop (k + l.length))) := by
  induction l with
  | nil => intro k acc _; simp
  | cons x l ih =>
    intro k acc h
    simp only [List.length_cons] at h
    simp only [List.zipIdx_cons, List.foldl_cons]
    rw [ih (k + 1) (acc.setIfInBounds k x) (by simp; omega)]
    have hk : k < acc.size := by omega
    have e1 : (acc.setIfInBounds k x).toList = acc.toList.set k x := by simp
    rw [e1]
    have hk' : k < acc.toList.length := by simpa using hk
    have h1 : (acc.toList.set k x).take (k + 1) = acc.toList.take k ++ [x] := by
      rw [List.take_add_one, List.take_set_of_le (Nat.le_refl _), List.getElem?_set_self hk']
      rfl
    have h2 : (acc.toList.set k x).drop (k + 1 + l.length) = acc.toList.drop (k + (l.length + 1)) := by
      rw [List.drop_set_of_lt (by omega)]
      congr 1
      omega
    rw [h1, h2]
    simp

theorem fill_one {cs z : Array Value} {sz : Nat} (hz : z.size = sz) (hc : cs.size = sz) : Instr.fill (fun i => some (i * sz, sz)) ((Array.range (1 * sz)).map (z[· % z.size]!)) [(0, .agg cs)] = some cs := by
  have hcond : ((Value.cells (.agg cs)).size ≠ sz || 0 * sz + (Value.cells (.agg cs)).size > ((Array.range (1 * sz)).map (z[· % z.size]!)).size) = false := by
    simp [Value.cells, hc]
  unfold Instr.fill
  simp only [hcond, Bool.false_eq_true, if_false, Instr.fill, Option.some.injEq]
  apply Array.toList_inj.1
  have hs : (Value.cells (.agg cs)).toList.length = sz := by simp [Value.cells, hc]
  have hl : ((Array.range (1 * sz)).map (z[· % z.size]!)).size = sz := by simp
  have h := fold_set cs.toList 0 ((Array.range (1 * sz)).map (z[· % z.size]!)) (by simp [hc])
  have e : (Value.cells (.agg cs)).zipIdx.foldl (fun (acc : Array Value) (x : Value × Nat) => acc.setIfInBounds (0 * sz + x.2) x.1) ((Array.range (1 * sz)).map (z[· % z.size]!)) = (cs.toList.zipIdx 0).foldl (fun (acc : Array Value) (x : Value × Nat) => acc.setIfInBounds x.2 x.1) ((Array.range (1 * sz)).map (z[· % z.size]!)) := by
    rw [← Array.foldl_toList, Array.toList_zipIdx]
    simp [Value.cells]
  refine (congrArg Array.toList e).trans (h.trans ?_)
  simp [hc]

section
variable {P : Program} {ops : Array Oper} {o : Oper} {a : Act} {w : World} {Q : Exit → Act → World → Prop}

theorem wp_buildOne {K : Act → World → Prop} (t e : TypeId) (x : Operand) (ho : o.op = .buildSlice t 1 #[(0, x)]) {z : Value} {sz bytes : Nat} (hinfo : (P.info? e).map (fun i => (i.zero, i.size, i.bytes)) = some (some z, sz, bytes)) (hu : P.underlying t = some (.slice e)) (hz : z.cells.size = sz) (hs0 : 0 < sz) (hs1 : sz ≤ 16777216)
    (cs : Array Value) (hx : a.eval x = .agg cs) (hc : cs.size = sz)
    (h : K (a.put o.dst (.slice (some ⟨w.heap.size, 0, none⟩) 1 1)) (w.alloc (.cells cs e))) : o.wp P a w K Q := by
  obtain ⟨i, hi, hz0, hz1, hz2⟩ := info_parts hinfo
  subst hz1
  exact wp_buildSlice t e 1 _ ho cs i z hu hi hz0 (by omega) (by omega) (by
    have : (#[(0, x)].map fun (i, x) => (i, a.eval x)).toList = [(0, Value.agg cs)] := by simp [hx]
    rw [this]
    exact fill_one hz hc) h

theorem wpList_buildOne {rest : List Oper} (hgd : o.guard = none) (t e : TypeId) (x : Operand) (ho : o.op = .buildSlice t 1 #[(0, x)]) {z : Value} {sz bytes : Nat} (hinfo : (P.info? e).map (fun i => (i.zero, i.size, i.bytes)) = some (some z, sz, bytes)) (hu : P.underlying t = some (.slice e)) (hz : z.cells.size = sz) (hs0 : 0 < sz) (hs1 : sz ≤ 16777216)
    (cs : Array Value) (hx : a.eval x = .agg cs) (hc : cs.size = sz)
    (h : wpList P ops Q rest (a.put o.dst (.slice (some ⟨w.heap.size, 0, none⟩) 1 1)) (w.alloc (.cells cs e))) : wpList P ops Q (o :: rest) a w :=
  wpList_plain hgd fun _ hK => wp_buildOne t e x ho hinfo hu hz hs0 hs1 cs hx hc (hK _ _ h)

theorem step_buildOne {K : Act → World → Prop} {X : Prop} (hgd : o.guard = none) (t e : TypeId) (x : Operand) (ho : o.op = .buildSlice t 1 #[(0, x)]) {z : Value} {sz bytes : Nat} (hinfo : (P.info? e).map (fun i => (i.zero, i.size, i.bytes)) = some (some z, sz, bytes)) (hu : P.underlying t = some (.slice e)) (hz : z.cells.size = sz) (hs0 : 0 < sz) (hs1 : sz ≤ 16777216)
    (cs : Array Value) (hx : a.eval x = .agg cs) (hc : cs.size = sz)
    (h : K (a.put o.dst (.slice (some ⟨w.heap.size, 0, none⟩) 1 1)) (w.alloc (.cells cs e))) : if Region.wanted o (yielded ops a.tmps) = true then Oper.wp P o a w K Q else X := by
  have hw : Region.wanted o (yielded ops a.tmps) = true := by simp [Region.wanted, hgd]
  rw [if_pos hw]
  exact wp_buildOne t e x ho hinfo hu hz hs0 hs1 cs hx hc h

/-- a load of a struct whose cells are a letter -/
theorem wpList_loadArr {rest : List Oper} (hgd : o.guard = none) (ty : TypeId) (x : Operand) (ho : o.op = .load ty x) (b off : Nat) (hx : a.eval x = .pointer (some ⟨b, off, none⟩)) (cs : Array Value) (d : TypeDesc) (hc : w.rangeAt b off cs.toList)
    (hu : P.underlying ty = some d) (hd : d.isRow = true) (hi : (P.info? ty).map (·.size) = some cs.toList.length)
    (h : wpList P ops Q rest (a.put o.dst (.agg cs)) w) : wpList P ops Q (o :: rest) a w :=
  wpList_load_mid hgd ty x ho b off hx cs.toList d hc hu hd hi (by simpa using h)

end

theorem rng_arr {w : World} {b : Nat} {cs : Array Value} {T : TypeId} (h : w.heap[b]? = some (.cells cs T (0, 0))) : w.rangeAt b 0 cs.toList := fun j u hj => by
  rw [Nat.zero_add]
  exact blk_cell h j (by simpa using hj)

end Go.Proofs.YtkdmkpdooiacaaaDoor

namespace Go.Proofs.YtkdmkpdooiacaaaDoor.U
open Go.ChangeShapes Go.WideShapes Go.ChangeAt Go.RowKit

section
variable {H : Type} {enc : TypeId × Value → H} {P : Program} {W : World} {base : Nat}

/-- one field's own reading, its weights within the reach -/
def FldOk (enc : TypeId × Value → H) (P : Program) (W : World) (t : TypeId) (v : Value) : Prop :=
  ∃ m y, DataW.trod enc P W 0 (fun _ => true) true m t [v] = some y ∧ ∀ x ∈ y.1.weights P t, x ≤ 629145600

theorem fld_int {t : TypeId} {k : IntKind} {v : Value} (ht : P.underlying t = some (.int k)) (h : FldOk enc P W t v) : ∃ x, v = .int k x ∧ (Lit.int k x).wf = true := by
  obtain ⟨m, y, h, _⟩ := h
  obtain ⟨x, e, _, hx⟩ := DataW.trod_int ht h
  exact ⟨x, by simpa using e, hx⟩
theorem fld_bool {t : TypeId} {v : Value} (ht : P.underlying t = some .bool) (h : FldOk enc P W t v) : ∃ x, v = .bool x := by
  obtain ⟨m, y, h, _⟩ := h
  obtain ⟨x, e, _⟩ := DataW.trod_bool ht h
  exact ⟨x, by simpa using e⟩
theorem fld_string {t : TypeId} {v : Value} (ht : P.underlying t = some .string) (h : FldOk enc P W t v) : ∃ s : ByteArray, v = .string s ∧ s.size ≤ 629145600 := by
  obtain ⟨m, y, h, hw⟩ := h
  obtain ⟨s, e, e2, _⟩ := DataW.trod_string ht h
  refine ⟨s, by simpa using e, ?_⟩
  subst e2
  exact hw _ (by simp [DataW.weights])

/-- a slice of one-cell elements, each with its own reading -/
theorem fld_ones {t e : TypeId} {v : Value} (ht : P.underlying t = some (.slice e)) (hc : P.cellsOf e = 1) (h : FldOk enc P W t v) :
    ∃ (a : Option Addr) (n c : Nat) (V : Nat → Value), v = .slice a n c ∧ RdF W (.slice a n c) n V ∧ n ≤ c ∧ c ≤ maxLen ∧ n * P.bytesOf e ≤ 629145600 ∧ ∀ i, i < n → FldOk enc P W e (V i) := by
  obtain ⟨m0, y, h, hw⟩ := h
  rcases Go.Deep.open_slice1 ht hc h with ⟨hcs, hx⟩ | ⟨x, l, c, mm, n, V, D, Pl, hcs, _, hl, hm, hmm, hx, hcell⟩
  · obtain rfl : v = .slice none 0 0 := by simpa using hcs
    exact ⟨none, 0, 0, fun _ => undef, rfl, .inl ⟨rfl, rfl⟩, Nat.le_refl _, by decide, by omega, fun i hi => by omega⟩
  · obtain rfl : v = .slice (some x) l c := by simpa using hcs
    subst hx
    have hmm' : mm = c := by simpa using hmm
    have hs := hw ((((List.range l).map D).length + ((List.range (mm - l)).map fun i => D (l + i)).length) * P.bytesOf e) (by simp [DataW.weights, ht])
    refine ⟨some x, l, c, V, rfl, .inr ⟨x, c, rfl, hl, hm, fun j hj => (hcell j (by omega)).1⟩, hl, hm, Nat.le_trans (Nat.mul_le_mul_right _ (by simp)) hs, fun i hi => ⟨n, _, (hcell i (by omega)).2, fun x hx => hw x ?_⟩⟩
    simp only [DataW.weights, ht, List.mem_cons, List.mem_append]
    exact .inr (.inl (weights_all (List.mem_map.2 ⟨i, List.mem_range.2 hi, rfl⟩) hx))

/-- a struct of one-cell fields -/
theorem fld_struct {t : TypeId} {fs : Array Field} {cs : List Value} {m : Nat} {y : DataW H × List MemPlace} (he : P.underlying t = some (.struct fs)) (hone : Go.Deep.oneCellFields P fs = true) (hC : P.cellsOf t = fs.size)
    (h : DataW.trod enc P W 0 (fun _ => true) true m t cs = some y) (hw : ∀ x ∈ y.1.weights P t, x ≤ 629145600) :
    cs.length = fs.size ∧ ∀ (j : Nat) (f : Field), fs[j]? = some f → ∃ v, cs[j]? = some v ∧ FldOk enc P W f.type v := by
  obtain ⟨ys, n', _, hy, hlen, hyl, hf⟩ := DataW.trod_struct he h
  subst hy
  rw [hC] at hlen
  refine ⟨hlen, fun j f hj => ?_⟩
  obtain ⟨ho, hk⟩ := Go.Deep.hone_of hone j f hj
  have hjl : j < fs.size := (Array.getElem?_eq_some_iff.1 hj).1
  have h1 := hf j f hj
  rw [ho, hk, List.drop_eq_getElem_cons (by omega), List.getElem?_eq_getElem (by omega)] at h1
  refine ⟨cs[j]'(by omega), List.getElem?_eq_getElem (by omega), n', _, h1, fun x hx => hw x ?_⟩
  simp only [DataW.weights, he]
  exact DataW.weights_mem_each (j := j) (t := f.type) (d := (ys[j]'(by omega)).1) (by simp [hj]) (by simp [List.getElem?_eq_getElem (show j < ys.length by omega)]) x hx

/-- a slice of structs of one-cell fields -/
theorem fld_structs {t e : TypeId} {fs : Array Field} {v : Value} (ht : P.underlying t = some (.slice e)) (he : P.underlying e = some (.struct fs)) (hone : Go.Deep.oneCellFields P fs = true) (hC : P.cellsOf e = fs.size) (hpos : 0 < fs.size)
    (h : FldOk enc P W t v) :
    ∃ (a : Option Addr) (n c : Nat) (F : Nat → Nat → Value), v = .slice a n c ∧ RdC W (.slice a n c) fs.size n F ∧ n ≤ c ∧ c ≤ maxLen ∧ n * P.bytesOf e ≤ 629145600 ∧
      ∀ i, i < n → ∀ (j : Nat) (f : Field), fs[j]? = some f → FldOk enc P W f.type (F i j) := by
  obtain ⟨m0, y, h, hw⟩ := h
  rcases Go.Deep.open_slice ht h with ⟨hcs, hx⟩ | ⟨a, l, c, m, n, D, Pl, hcs, _, hl, hm, hmm, hx, hi⟩
  · obtain rfl : v = .slice none 0 0 := by simpa using hcs
    exact ⟨none, 0, 0, fun _ _ => undef, rfl, .inl ⟨rfl, rfl⟩, Nat.le_refl _, by decide, by omega, fun i hi => by omega⟩
  · obtain rfl : v = .slice (some a) l c := by simpa using hcs
    subst hx
    have hmm' : m = c := by simpa using hmm
    have hs := hw ((((List.range l).map D).length + ((List.range (m - l)).map fun i => D (l + i)).length) * P.bytesOf e) (by simp [DataW.weights, ht])
    have hel : ∀ i, i < l → ∀ j, j < fs.size → ∀ f, fs[j]? = some f → ∃ u, W.cell? (a.add (i * fs.size + j)) = some u ∧ FldOk enc P W f.type u := by
      intro i hil j hj f hf
      obtain ⟨cs', hc, htr⟩ := hi i (by omega)
      obtain ⟨hlen, hfl⟩ := fld_struct he hone hC htr (fun x hx => hw x (by
        simp only [DataW.weights, ht, List.mem_cons, List.mem_append]
        exact .inr (.inl (weights_all (List.mem_map.2 ⟨i, List.mem_range.2 hil, rfl⟩) hx))))
      rw [hC] at hc
      obtain ⟨_, _, hat⟩ := World.cells?_some hc
      obtain ⟨u, hu, hok⟩ := hfl j f hf
      refine ⟨u, ?_, hok⟩
      rw [← Go.Deep.add_add, hat j hj, hu]
    refine ⟨some a, l, c, fun i j => (W.cell? (a.add (i * fs.size + j))).getD undef, rfl, .inr ⟨a, c, rfl, hl, hm, fun j hj => ?_⟩, hl, hm, Nat.le_trans (Nat.mul_le_mul_right _ (by simp)) hs, fun i hil j f hf => ?_⟩
    · have hjm : j % fs.size < fs.size := Nat.mod_lt _ hpos
      obtain ⟨u, hu, _⟩ := hel (j / fs.size) (div_lt' hj) (j % fs.size) hjm _ (Array.getElem?_eq_getElem hjm)
      unfold fls
      have e2 : j / fs.size * fs.size + j % fs.size = j := by rw [Nat.mul_comm]; exact Nat.div_add_mod j fs.size
      have e3 : (fun i j => (W.cell? (a.add (i * fs.size + j))).getD undef) (j / fs.size) (j % fs.size) = (W.cell? (a.add (j / fs.size * fs.size + j % fs.size))).getD undef := rfl
      rw [e3]
      rw [e2] at hu ⊢
      rw [hu]
      rfl
    · have hj : j < fs.size := (Array.getElem?_eq_some_iff.1 hf).1
      obtain ⟨u, hu, hok⟩ := hel i hil j hj f hf
      simp only [hu]
      exact hok

/-- strings' slice -/
theorem fld_strs {t e : TypeId} {v : Value} (ht : P.underlying t = some (.slice e)) (he : P.underlying e = some .string) (hc : P.cellsOf e = 1) (h : FldOk enc P W t v) :
    ∃ (a : Option Addr) (n c : Nat) (s : Nat → ByteArray), v = .slice a n c ∧ RdF W (.slice a n c) n (fun j => .string (s j)) ∧ n ≤ c ∧ c ≤ maxLen ∧ n * P.bytesOf e ≤ 629145600 ∧ ∀ i, i < n → (s i).size ≤ 629145600 := by
  obtain ⟨a, n, c, V, rfl, hr, h1, h2, h3, hf⟩ := fld_ones ht hc h
  have hex : ∀ i : Nat, ∃ s : ByteArray, i < n → V i = .string s ∧ s.size ≤ 629145600 := fun i => by
    by_cases hi : i < n
    · obtain ⟨s, e1, e2⟩ := fld_string he (hf i hi)
      exact ⟨s, fun _ => ⟨e1, e2⟩⟩
    · exact ⟨.empty, fun h => absurd h hi⟩
  obtain ⟨s, hs⟩ := Classical.skolem.1 hex
  exact ⟨a, n, c, s, rfl, hr.congr (fun j hj => (hs j hj).1), h1, h2, h3, fun i hi => (hs i hi).2⟩

/-- integers' slice -/
theorem fld_ints {t e : TypeId} {k : IntKind} {v : Value} (ht : P.underlying t = some (.slice e)) (he : P.underlying e = some (.int k)) (hc : P.cellsOf e = 1) (h : FldOk enc P W t v) :
    ∃ (a : Option Addr) (n c : Nat) (f : Nat → Int), v = .slice a n c ∧ RdF W (.slice a n c) n (fun j => .int k (f j)) ∧ n ≤ c ∧ c ≤ maxLen ∧ n * P.bytesOf e ≤ 629145600 ∧ ∀ i, i < n → (Lit.int k (f i)).wf = true := by
  obtain ⟨a, n, c, V, rfl, hr, h1, h2, h3, hf⟩ := fld_ones ht hc h
  have hex : ∀ i : Nat, ∃ x : Int, i < n → V i = .int k x ∧ (Lit.int k x).wf = true := fun i => by
    by_cases hi : i < n
    · obtain ⟨s, e1, e2⟩ := fld_int he (hf i hi)
      exact ⟨s, fun _ => ⟨e1, e2⟩⟩
    · exact ⟨0, fun h => absurd h hi⟩
  obtain ⟨s, hs⟩ := Classical.skolem.1 hex
  exact ⟨a, n, c, s, rfl, hr.congr (fun j hj => (hs j hj).1), h1, h2, h3, fun i hi => (hs i hi).2⟩

theorem fld_of {ts : List TypeId} {ds : List (DataW H)} {j : Nat} {t : TypeId} {v : Value} {d : DataW H} {p : List MemPlace} (hv : v.cells = #[v]) (h : DataW.Trod enc P W 0 (fun _ => true) true t v d p)
    (hsz : (DataW.weightsEach P ts ds).all (· ≤ 629145600) = true) (hts : ts[j]? = some t) (hds : ds[j]? = some d) : FldOk enc P W t v := by
  obtain ⟨m, hm⟩ := h
  rw [hv] at hm
  refine ⟨m, _, hm, fun x hx => ?_⟩
  have := List.all_eq_true.1 hsz _ (DataW.weights_mem_each hts hds x hx)
  simpa using this

theorem fld_agg {ts : List TypeId} {ds : List (DataW H)} {j : Nat} {t : TypeId} {fs : Array Field} {v : Value} {d : DataW H} {p : List MemPlace} (he : P.underlying t = some (.struct fs)) (hone : Go.Deep.oneCellFields P fs = true) (hC : P.cellsOf t = fs.size)
    (hok : Value.okWide P W .any base t v) (h : DataW.Trod enc P W 0 (fun _ => true) true t v d p)
    (hsz : (DataW.weightsEach P ts ds).all (· ≤ 629145600) = true) (hts : ts[j]? = some t) (hds : ds[j]? = some d) :
    ∃ cs : Array Value, v = .agg cs ∧ cs.size = fs.size ∧ ∀ (j : Nat) (f : Field), fs[j]? = some f → ∃ u, cs[j]? = some u ∧ FldOk enc P W f.type u := by
  obtain ⟨cs, rfl, hsize⟩ := okWide_struct he hok
  obtain ⟨m, hm⟩ := h
  have hw : ∀ x ∈ d.weights P t, x ≤ 629145600 := fun x hx => by
    have := List.all_eq_true.1 hsz _ (DataW.weights_mem_each hts hds x hx)
    simpa using this
  obtain ⟨_, h2⟩ := fld_struct he hone hC hm hw
  refine ⟨cs, rfl, by rw [hsize, hC], fun j f hj => ?_⟩
  obtain ⟨u, hu, hok⟩ := h2 j f hj
  exact ⟨u, by simpa [Value.cells] using hu, hok⟩
end

end Go.Proofs.YtkdmkpdooiacaaaDoor.U

namespace Go.Proofs.YtkdmkpdooiacaaaDoor
theorem infoInt : (Tryd.prog.info? 3).map (fun i => (i.zero, i.size, i.bytes)) = some (some (.int .i64 0), 1, 8) := by kernel_rfl
theorem infoU8 : (Tryd.prog.info? 5).map (fun i => (i.zero, i.size, i.bytes)) = some (some (.int .u8 0), 1, 1) := by kernel_rfl
theorem infoBool : (Tryd.prog.info? 4).map (fun i => (i.zero, i.size, i.bytes)) = some (some (.bool false), 1, 1) := by kernel_rfl
end Go.Proofs.YtkdmkpdooiacaaaDoor

namespace Go.Proofs.YtkdmkpdooiacaaaDoor
open Go.RowKit

set_option maxHeartbeats 400000 in
theorem clone_bytes (w : World) (v : Value) (n : Nat) (f : Nat → Int) (hv : RdF w v n (fun j => .int .u8 (f j))) (hn : n ≤ 140737488355328) :
    Calls Tryd.prog 40 #[v] w fun e w' => ∃ v', e = .returned v' ∧ OwnF w' w.heap.size 5 v' n (fun j => .int .u8 (f j)) ∧ Fr [] w w' := by
  have hq := fun (wx : World) (a : Option Addr) (n c : Nat) => Lib.run_eql_slice_nil (P := Tryd.prog) wx 35 5 a n c 0 0 Tryd.underlying35
  rcases hv with ⟨rfl, rfl⟩ | ⟨a, cap, rfl, hnc, hcm, hc⟩
  · go_enter Tryd.func40, Tryd.ntmps40
    go_wp2
    go_ret
    exact ⟨_, rfl, .inl ⟨rfl, rfl⟩, Fr.refl _ _⟩
  · have hr : RdF (w.alloc (.cells #[] 5)) (.slice (some a) n cap) n (fun j => .int .u8 (f j)) := .inr ⟨a, cap, rfl, hnc, hcm, fun j hj => ((Fr.refl [] w).alloc _).cell (hc j hj) (by simp)⟩
    have HR := Lib.hid hr; clear hr hc
    have H0 := Lib.hid (OwnF.of_owns (World.ownsRow_made (base := w.heap.size) (size := 1) (e := 5) w #[] 0 (Nat.le_refl _) (by decide) rfl) (fun j => .int .u8 (f j)) (fun j hj => by omega))
    go_enter Tryd.func40, Tryd.ntmps40
    go_wp2_with (at_builtin; refine wpList_app rfl (.tmp 5) (.tmp 6) 35 rfl 5 infoU8 Tryd.underlying35 rfl H0.out rfl HR.out rfl (fun _ _ => rfl) (by unfold maxLen; omega) (by omega) (by simp) ?_; intro v' w1 hown' hfr _)
    go_ret
    rw [Nat.zero_add] at hown'
    exact ⟨_, rfl, hown'.congr (fun j hj => by simp [app]), ((Fr.refl [] w).alloc _).trans hfr (by intro x hx; simp [Value.ownBlock] at hx; omega)⟩

theorem clone_bytes_pos (w : World) (v : Value) (n : Nat) (f : Nat → Int) (hv : RdF w v n (fun j => .int .u8 (f j))) (hn0 : 0 < n) (hn : n ≤ 140737488355328) :
    Calls Tryd.prog 40 #[v] w fun e w' => ∃ g cap, e = .returned (.slice (some ⟨g, 0, none⟩) n cap) ∧ w.heap.size ≤ g ∧ RowF w' g 5 n cap (fun j => .int .u8 (f j)) ∧ Fr [] w w' :=
  (clone_bytes w v n f hv hn).mono fun e w' ⟨v', he, ho, hf⟩ => by
    obtain ⟨g, cap, rfl, hb, hr⟩ := ho.row hn0
    exact ⟨g, cap, he, hb, hr, hf⟩

end Go.Proofs.YtkdmkpdooiacaaaDoor

namespace Go.Proofs.YtkdmkpdooiacaaaDoor
open Go.RowKit

theorem infoStr : (Tryd.prog.info? 9).map (fun i => (i.zero, i.size, i.bytes)) = some (some (.string ⟨#[]⟩), 1, 16) := by kernel_rfl

set_option maxHeartbeats 400000 in
theorem clone_strs (w : World) (v : Value) (n : Nat) (f : Nat → ByteArray) (hv : RdF w v n (fun j => .string (f j))) (hn : n * 16 ≤ 140737488355328) :
    Calls Tryd.prog 53 #[v] w fun e w' => ∃ v', e = .returned v' ∧ OwnF w' w.heap.size 9 v' n (fun j => .string (f j)) ∧ Fr [] w w' := by
  have hq := fun (wx : World) (a : Option Addr) (n c : Nat) => Lib.run_eql_slice_nil (P := Tryd.prog) wx 56 9 a n c 0 0 Tryd.underlying56
  rcases hv with ⟨rfl, rfl⟩ | ⟨a, cap, rfl, hnc, hcm, hc⟩
  · go_enter Tryd.func53, Tryd.ntmps53
    go_wp2
    go_ret
    exact ⟨_, rfl, .inl ⟨rfl, rfl⟩, Fr.refl _ _⟩
  · have hr : RdF (w.alloc (.cells #[] 9)) (.slice (some a) n cap) n (fun j => .string (f j)) := .inr ⟨a, cap, rfl, hnc, hcm, fun j hj => ((Fr.refl [] w).alloc _).cell (hc j hj) (by simp)⟩
    have HR := Lib.hid hr; clear hr hc
    have H0 := Lib.hid (OwnF.of_owns (World.ownsRow_made (base := w.heap.size) (size := 1) (e := 9) w #[] 0 (Nat.le_refl _) (by decide) rfl) (fun j => .string (f j)) (fun j hj => by omega))
    go_enter Tryd.func53, Tryd.ntmps53
    go_wp2_with (at_builtin; refine wpList_app rfl (.tmp 5) (.tmp 6) 56 rfl 9 infoStr Tryd.underlying56 rfl H0.out rfl HR.out rfl (fun _ _ => rfl) (by unfold maxLen; omega) (by omega) (by simp) ?_; intro v' w1 hown' hfr _)
    go_ret
    rw [Nat.zero_add] at hown'
    exact ⟨_, rfl, hown'.congr (fun j hj => by simp [app]), ((Fr.refl [] w).alloc _).trans hfr (by intro x hx; simp [Value.ownBlock] at hx; omega)⟩

end Go.Proofs.YtkdmkpdooiacaaaDoor

namespace Go.Proofs.YtkdmkpdooiacaaaDoor
open Go.RowKit

/-- do f and g agree below n? -/
def eqUpTo (f g : Nat → Int) : Nat → Bool
  | 0 => true
  | n + 1 => eqUpTo f g n && (f n == g n)

theorem eqUpTo_iff (f g : Nat → Int) (n : Nat) : eqUpTo f g n = true ↔ ∀ j, j < n → f j = g j := by
  induction n with
  | zero => simp [eqUpTo]
  | succ n ih =>
    simp only [eqUpTo, Bool.and_eq_true, ih, beq_iff_eq]
    constructor
    · rintro ⟨h1, h2⟩ j hj
      by_cases hjn : j = n
      · subst hjn; exact h2
      · exact h1 j (by omega)
    · intro h
      exact ⟨fun j hj => h j (by omega), h n (by omega)⟩

theorem eqUpTo_mono (f g : Nat → Int) (n k : Nat) (hk : k ≤ n) (h : eqUpTo f g k = false) : eqUpTo f g n = false := by
  cases hn : eqUpTo f g n with
  | false => rfl
  | true =>
    have := (eqUpTo_iff f g k).2 (fun j hj => (eqUpTo_iff f g n).1 hn j (by omega))
    rw [this] at h; cases h

end Go.Proofs.YtkdmkpdooiacaaaDoor

namespace Go.Proofs.YtkdmkpdooiacaaaDoor
open Go.RowKit

set_option maxHeartbeats 1000000 in
theorem bytes_any (w : World) (a b : Option Addr) (n m c d : Nat) (f g : Nat → Int) (hf : RdF w (.slice a n c) n (fun j => .int .u8 (f j))) (hg : RdF w (.slice b m d) m (fun j => .int .u8 (g j))) (hn : n ≤ 9223372036854775807) (hm : m ≤ 9223372036854775807) :
    Calls Tryd.prog 9 #[.slice a n c, .slice b m d] w fun e w' => e = .returned (.bool (decide (n = m) && eqUpTo f g n)) ∧ ∃ q, w' = w.drewN q := by
  have HF := Lib.hid hf; clear hf
  have HG := Lib.hid hg; clear hg
  by_cases hnm : n = m
  · subst hnm
    go_enter Tryd.func9, Tryd.ntmps9
    go_wp2
    go_loopw [5] (fun i wr => ∃ k : Nat, k ≤ n ∧ i = .int .i64 k ∧ Hid (eqUpTo f g k = true) ∧ ∃ q, wr = w.drewN q) (fun i _ => n - (intOf i).toNat)
    case atStart => exact ⟨0, by omega, rfl, rfl, 0, rfl⟩
    case round =>
      obtain ⟨k, hk, rfl, HE, hq⟩ := hrel
      have HQ := Lib.hid hq
      by_cases hlt : k < n
      · obtain ⟨b1, o1, c1, he1, _, _, _, hc1⟩ := HF.out.shape (by omega)
        obtain ⟨b2, o2, c2, he2, _, _, _, hc2⟩ := HG.out.shape (by omega)
        simp only [Value.slice.injEq, true_and] at he1 he2
        obtain ⟨rfl, rfl⟩ := he1
        obtain ⟨rfl, rfl⟩ := he2
        have k1 : wr.cell? ⟨b1, o1 + k, none⟩ = some (.int .u8 (f k)) := by obtain ⟨q, rfl⟩ := hq; exact hc1 k hlt
        have k2 : wr.cell? ⟨b2, o2 + k, none⟩ = some (.int .u8 (g k)) := by obtain ⟨q, rfl⟩ := hq; exact hc2 k hlt
        clear hc1 hc2 hq
        have hs : eqUpTo f g (k + 1) = (f k == g k) := by simp only [eqUpTo, HE.out, Bool.true_and]
        have HS := Lib.hid hs; clear hs
        have k0 : (0 : Int) ≤ (k : Int) := by omega
        have k3 : (k : Int) < (n : Int) := by omega
        by_cases hfg : f k = g k
        · have hb : (f k != g k) = false := by simp [hfg]
          have HFG := Lib.hid hfg; clear hfg
          go_wp2
          go_quiet (fail)
          go_wp2
          go_roundw
          case rel => exact ⟨k + 1, by omega, by go_num, by show _ = true; rw [HS.out]; simp [HFG.out], by obtain ⟨q, rfl⟩ := HQ.out; exact ⟨q + nq, World.drewN_drewN _ _ _⟩⟩
          case measure => simp [intOf]; omega
        · have hb : (f k != g k) = true := by simp [hfg]
          have hs2 : eqUpTo f g (k + 1) = false := by rw [HS.out]; simp [hfg]
          have hfin : (decide (n = n) && eqUpTo f g n) = false := by rw [eqUpTo_mono f g n (k + 1) (by omega) hs2]; simp
          have HFIN := Lib.hid hfin; clear hfin hs2 hfg
          go_wp2
          go_quiet (fail)
          go_wp2
          go_ret
          rw [HFIN.out]
          exact ⟨rfl, by obtain ⟨q, rfl⟩ := HQ.out; exact ⟨q + nq, World.drewN_drewN _ _ _⟩⟩
      · obtain rfl : k = n := by omega
        clear hq
        go_wp2
        go_ret
        exact ⟨by simp [HE.out], HQ.out⟩
  · have hne : ((n : Int) != (m : Int)) = true := by rw [bne_iff_ne]; omega
    have hfin : (decide (n = m) && eqUpTo f g n) = false := by simp [hnm]
    rw [hfin]
    clear hfin
    go_enter Tryd.func9, Tryd.ntmps9
    go_wp2
    go_ret
    exact ⟨rfl, 0, rfl⟩

end Go.Proofs.YtkdmkpdooiacaaaDoor

namespace Go.Proofs.YtkdmkpdooiacaaaDoor
open Go.RowKit

def lowI (x : Int) : Int := if 65 ≤ x ∧ x ≤ 90 then x + 32 else x
def lowB (b : UInt8) : UInt8 := if 65 ≤ b.toNat ∧ b.toNat ≤ 90 then b + 32 else b

theorem lowB_int (b : UInt8) : ((lowB b).toNat : Int) = lowI (b.toNat : Int) := by
  unfold lowB lowI
  by_cases h : 65 ≤ b.toNat ∧ b.toNat ≤ 90
  · rw [if_pos h, if_pos (by omega)]
    have : (b + 32).toNat = b.toNat + 32 := by
      rw [UInt8.toNat_add]
      have : (32 : UInt8).toNat = 32 := rfl
      rw [this]
      omega
    omega
  · rw [if_neg h, if_neg (by omega)]

/-- small letters -/
def smB (s : ByteArray) : ByteArray := ⟨(s.data.toList.map lowB).toArray⟩

theorem lower_any (w : World) (x : Int) (h0 : 0 ≤ x) (h1 : x ≤ 255) :
    Calls Tryd.prog 63 #[.int .u8 x] w fun e w' => e = .returned (.int .u8 (lowI x)) ∧ w = w' := by
  go_enter Tryd.func63, Tryd.ntmps63
  by_cases ha : 65 ≤ x
  · by_cases hb : x ≤ 90
    · have e : lowI x = x + 32 := by unfold lowI; rw [if_pos ⟨ha, hb⟩]
      have HE := Lib.hid e; clear e
      have hw : IntKind.u8.wrap (x + 32) = x + 32 := IntWalk.u8_in _ (by omega)
      go_wp2
      go_ret
      exact ⟨by rw [HE.out]; rfl, rfl⟩
    · have e : lowI x = x := by unfold lowI; rw [if_neg (by omega)]
      have HE := Lib.hid e; clear e
      go_wp2
      go_ret
      exact ⟨by rw [HE.out]; rfl, rfl⟩
  · have e : lowI x = x := by unfold lowI; rw [if_neg (by omega)]
    have HE := Lib.hid e; clear e
    go_wp2
    go_ret
    exact ⟨by rw [HE.out]; rfl, rfl⟩

/-- a row of bytes with a conversion's mark behind it -/
def RowT (w : World) (g n cap : Nat) (f : Nat → Int) : Prop :=
  ∃ cur, w.heap[g]? = some (.cells cur 5 (cap, cap + 1)) ∧ cur.size = cap ∧ n ≤ cap ∧ ∀ j, j < n → cur[j]? = some (.int .u8 (f j))

section
variable {w w' : World} {g n cap : Nat} {f : Nat → Int}
theorem RowT.cell (h : RowT w g n cap f) (j : Nat) (hj : j < n) : w.cell? ⟨g, j, none⟩ = some (.int .u8 (f j)) := by
  obtain ⟨cur, h1, h2, h3, h5⟩ := h
  simp [World.cell?, h1, h5 j hj]
theorem RowT.frozen (h : RowT w g n cap f) (j : Nat) (hj : j < n) : w.frozen? ⟨g, j, none⟩ = false := by
  obtain ⟨cur, h1, h2, h3, h5⟩ := h
  simp [World.frozen?, h1]
  omega
theorem RowT.stored (h : RowT w g n cap f) (k : Nat) (x : Int) : RowT (w.setCell ⟨g, k, none⟩ (.int .u8 x)) g n cap (fun j => if j = k then x else f j) := by
  obtain ⟨cur, h1, h2, h3, h5⟩ := h
  refine ⟨cur.setIfInBounds k (.int .u8 x), ?_, by simpa using h2, h3, fun j hj => ?_⟩
  · simp only [World.setCell]
    rw [Array.getElem?_modify, if_pos rfl, h1]
    rfl
  · have hjc : j < cur.size := by omega
    have := h5 j hj
    by_cases hjk : j = k
    · subst hjk; simp [hjc]
    · simp only [if_neg hjk]
      rw [Array.getElem?_setIfInBounds_ne (by omega), this]
theorem RowT.congr (h : RowT w g n cap f) {f' : Nat → Int} (he : ∀ j, j < n → f j = f' j) : RowT w g n cap f' := by
  obtain ⟨cur, h1, h2, h3, h5⟩ := h
  exact ⟨cur, h1, h2, h3, fun j hj => by rw [h5 j hj, he j hj]⟩
theorem RowT.kept {S : List Nat} (h : RowT w g n cap f) (hf : Fr S w w') (hn : g ∉ S) : RowT w' g n cap f := by
  obtain ⟨cur, h1, h2⟩ := h
  exact ⟨cur, (hf.block g (lt_of_blk h1) hn).trans h1, h2⟩
end

def byteAt (s : ByteArray) (j : Nat) : Int := ((s.data.toList.getD j 0).toNat : Int)

theorem bytes_row (w : World) (s : ByteArray) : RowT (Lib.bytesWorld w 5 s) w.heap.size s.size (grownCap w s.size 0 5) (byteAt s) ∧ Fr [] w (Lib.bytesWorld w 5 s) := by
  have hg := grownCap_ge w s.size 0 5
  have hsz : (Lib.bytesCells w 5 s).size = grownCap w s.size 0 5 := by
    simp only [Lib.bytesCells, Array.size_append, Array.size_map, Array.size_replicate]
    have : s.data.size = s.size := rfl
    omega
  refine ⟨⟨_, by rw [← hsz]; exact Lib.bytesWorld_at_new w _ s, hsz, hg, fun j hj => ?_⟩, ⟨rfl, rfl, rfl, by rw [Lib.bytesWorld_size]; omega, fun k hk _ => Lib.bytesWorld_at_old w _ s k hk⟩⟩
  have hj' : j < s.data.size := hj
  unfold Lib.bytesCells byteAt
  rw [Array.getElem?_append_left (by simpa using hj'), Array.getElem?_map, Array.getElem?_eq_getElem hj']
  simp [List.getD_eq_getElem?_getD, Array.getElem?_eq_getElem hj']

theorem sm_len (s : ByteArray) : (s.data.toList.map lowB).length = s.size := by simp

set_option maxHeartbeats 2000000 in
set_option maxRecDepth 100000 in
theorem small_any (w : World) (s : ByteArray) (hn : s.size ≤ 9223372036854775807) :
    Calls Tryd.prog 41 #[.string s] w fun e w' => e = .returned (.string (smB s)) ∧ Fr [] w w' := by
  have hcv := Go.Lib.run_convert_string_bytes (P := Tryd.prog) w 9 35 5 s Tryd.underlying9 Tryd.underlying35 Tryd.underlying5
  obtain ⟨hr, hf⟩ := bytes_row w s
  have HR := Lib.hid hr
  have HF := Lib.hid hf
  clear hr hf
  have HBD := Lib.hid (show ∀ j, 0 ≤ byteAt s j ∧ byteAt s j ≤ 255 from fun j => by
    unfold byteAt
    have := (s.data.toList.getD j 0).toNat_lt
    omega)
  go_enter Tryd.func41, Tryd.ntmps41
  go_wp2
  clear hcv
  generalize Lib.bytesWorld w 5 s = w1 at *
  generalize grownCap w s.size 0 5 = cap at *
  go_loopw [9] (fun vi wr => ∃ k : Nat, k ≤ s.size ∧ vi = .int .i64 k ∧ RowT wr w.heap.size s.size cap (fun j => if j < k then lowI (byteAt s j) else byteAt s j) ∧ Fr [] w wr) (fun vi _ => s.size - (intOf vi).toNat)
  case atStart => exact ⟨0, by omega, rfl, HR.out.congr (fun j _ => by rw [if_neg (by omega)]), HF.out⟩
  case round =>
    clear HR HF
    obtain ⟨k, hk, rfl, hR, hf⟩ := hrel
    have HR := Lib.hid hR
    have HF := Lib.hid hf; clear hf
    by_cases hlt : k < s.size
    · have c0 := hR.cell k hlt
      have z0 := hR.frozen k hlt
      rw [if_neg (by omega)] at c0
      clear hR
      have hb := HBD.out k
      have HR1 := Lib.hid ((HR.out.stored k (lowI (byteAt s k))).congr (f' := fun j => if j < k + 1 then lowI (byteAt s j) else byteAt s j) (fun j _ => by
        by_cases h : j = k
        · subst h; rw [if_pos rfl, if_pos (by omega)]
        · rw [if_neg h]
          by_cases h2 : j < k
          · rw [if_pos h2, if_pos (by omega)]
          · rw [if_neg h2, if_neg (by omega)]))
      have HF1 := Lib.hid (HF.out.setCell (p := ⟨w.heap.size, k, none⟩) (.inr (Nat.le_refl _)) (.int .u8 (lowI (byteAt s k))))
      have k0 : (0 : Int) ≤ (k : Int) := by omega
      have k1 : (k : Int) < (s.size : Int) := by omega
      generalize byteAt s k = x at *
      go_wp2_with fail
      refine (lower_any _ x hb.1 hb.2).mono ?_
      rintro e w2 ⟨rfl, rfl⟩
      generalize lowI x = y at *
      go_wp2
      go_roundw
      case rel => exact ⟨k + 1, by omega, by go_num, HR1.out, HF1.out⟩
      case measure => simp [intOf]; omega
    · obtain rfl : k = s.size := by omega
      have hcv := run_convert_bytes_back (P := Tryd.prog) wr 35 9 5 ⟨w.heap.size, 0, none⟩ cap (s.data.toList.map lowB) Tryd.underlying35 Tryd.underlying5 Tryd.underlying9 (fun j hj => by
        have hj2 : j < s.size := by rw [sm_len] at hj; exact hj
        have e : (⟨w.heap.size, 0, none⟩ : Addr).add j = ⟨w.heap.size, j, none⟩ := by unfold Addr.add; split <;> simp_all
        rw [e, hR.cell j hj2, if_pos hj2]
        have hj3 : j < s.data.size := hj2
        unfold byteAt
        simp [List.getD_eq_getElem?_getD, Array.getElem?_eq_getElem hj3, lowB_int])
      rw [sm_len] at hcv
      have HSM := Lib.hid (show (⟨(s.data.toList.map lowB).toArray⟩ : ByteArray) = smB s from rfl)
      rw [HSM.out] at hcv
      clear hR
      clear HSM
      obtain ⟨r, hr⟩ : ∃ r, smB s = r := ⟨_, rfl⟩
      rw [hr] at hcv
      have HRR := Lib.hid hr; clear hr
      go_wp2
      go_ret
      exact ⟨by rw [HRR.out]; rfl, HF.out⟩

/-- are two labels one, but for small letters? -/
def alk (s t : ByteArray) : Bool := (smB s).toList == (smB t).toList

set_option maxHeartbeats 2000000 in
theorem alike_any (w : World) (s t : ByteArray) (hs : s.size ≤ 9223372036854775807) (ht : t.size ≤ 9223372036854775807) :
    Calls Tryd.prog 67 #[.string s, .string t] w fun e w' => e = .returned (.bool (alk s t)) ∧ Fr [] w w' := by
  go_enter Tryd.func67, Tryd.ntmps67
  go_wp2_with fail
  refine (small_any _ s hs).mono ?_
  rintro e w1 ⟨rfl, hf1⟩
  go_wp2_with fail
  refine (small_any _ t ht).mono ?_
  rintro e w2 ⟨rfl, hf2⟩
  have HA := Lib.hid (show ((smB s).toList == (smB t).toList) = alk s t from rfl)
  generalize smB s = a at *
  generalize smB t = b at *
  go_wp2
  go_ret
  exact ⟨by rw [← HA.out]; rfl, hf1.trans hf2 (by simp)⟩

/-- do two names agree up to n? -/
def alkUpTo (s t : Nat → ByteArray) : Nat → Bool
  | 0 => true
  | n + 1 => alkUpTo s t n && alk (s n) (t n)

/-- are two names one, but for small letters? -/
def nmEq (n m : Nat) (s t : Nat → ByteArray) : Bool := decide (n = m) && alkUpTo s t n

theorem alkUpTo_false {s t : Nat → ByteArray} {k n : Nat} (hk : k < n) (h : alk (s k) (t k) = false) : alkUpTo s t n = false := by
  induction n with
  | zero => omega
  | succ n ih =>
    simp only [alkUpTo]
    by_cases e : k = n
    · subst e; rw [h, Bool.and_false]
    · rw [ih (by omega), Bool.false_and]

set_option maxHeartbeats 2000000 in
set_option maxRecDepth 100000 in
theorem equalFunc_any (w : World) (a b : Option Addr) (n m c d : Nat) (s t : Nat → ByteArray) (hs : RdF w (.slice a n c) n (fun j => .string (s j))) (ht : RdF w (.slice b m d) m (fun j => .string (t j)))
    (hss : ∀ j, j < n → (s j).size ≤ 9223372036854775807) (hts : ∀ j, j < m → (t j).size ≤ 9223372036854775807) :
    Calls Tryd.prog 66 #[.slice a n c, .slice b m d, .func (.func 67) #[] #[]] w fun e w' => e = .returned (.bool (nmEq n m s t)) ∧ Fr [] w w' := by
  have HS := Lib.hid hs; clear hs
  have HT := Lib.hid ht; clear ht
  have HSS := Lib.hid hss; clear hss
  have HTS := Lib.hid hts; clear hts
  go_enter Tryd.func66, Tryd.ntmps66
  by_cases hnm : n = m
  case neg =>
    have e : nmEq n m s t = false := by simp [nmEq, hnm]
    have HE := Lib.hid e
    have h1 : ((n : Int) != (m : Int)) = true := by simp; omega
    clear e hnm
    go_wp2
    go_ret
    exact ⟨by rw [HE.out]; rfl, Fr.refl _ _⟩
  subst hnm
  have HE := Lib.hid (show nmEq n n s t = alkUpTo s t n by simp [nmEq])
  go_wp2
  go_loopw [17] (fun vi wr => ∃ k : Nat, k ≤ n ∧ vi = .int .i64 k ∧ alkUpTo s t k = true ∧ Fr [] w wr) (fun vi _ => n - (intOf vi).toNat)
  case atStart => exact ⟨0, by omega, rfl, rfl, Fr.refl _ _⟩
  case round =>
    obtain ⟨k, hk, rfl, hal, hf⟩ := hrel
    have HAL := Lib.hid hal; clear hal
    have HF := Lib.hid hf; clear hf
    by_cases hlt : k < n
    · obtain ⟨b1, o1, c1, he1, hn1, hm1, _, hc1⟩ := HS.out.shape (by omega)
      have hnb : n ≤ 9223372036854775807 := by unfold maxLen at hm1; omega
      clear hn1 hm1
      obtain ⟨b2, o2, c2, he2, _, _, _, hc2⟩ := HT.out.shape (by omega)
      simp only [Value.slice.injEq, true_and] at he1 he2
      obtain ⟨rfl, rfl⟩ := he1
      obtain ⟨rfl, rfl⟩ := he2
      have k1 := HF.out.cell (hc1 k hlt) (by simp)
      have k2 := HF.out.cell (hc2 k hlt) (by simp)
      clear hc1 hc2
      have k0 : (0 : Int) ≤ (k : Int) := by omega
      have k3 : (k : Int) < (n : Int) := by omega
      have h1 := HSS.out k hlt
      have h2 := HTS.out k hlt
      have HST := Lib.hid (show alkUpTo s t (k + 1) = (alkUpTo s t k && alk (s k) (t k)) from rfl)
      have HFA := Lib.hid (fun (h : alk (s k) (t k) = false) => alkUpTo_false (s := s) (t := t) hlt h)
      generalize s k = sk at *
      generalize t k = tk at *
      go_wp2_with fail
      refine (alike_any _ sk tk h1 h2).mono ?_
      rintro e w2 ⟨rfl, hf2⟩
      have HF2 := Lib.hid (HF.out.trans hf2 (by simp))
      clear hf2
      by_cases ha : alk sk tk = true
      · have HN := Lib.hid (show alkUpTo s t (k + 1) = true by rw [HST.out, HAL.out, ha]; rfl)
        go_wp2
        go_roundw
        case rel => exact ⟨k + 1, by omega, by go_num, HN.out, HF2.out⟩
        case measure => simp [intOf]; omega
      · have hb : alk sk tk = false := by simpa using ha
        have HX := Lib.hid (HFA.out hb)
        clear ha
        go_wp2
        go_ret
        exact ⟨by rw [HE.out, HX.out]; rfl, HF2.out⟩
    · obtain rfl : k = n := by omega
      go_wp2
      go_ret
      exact ⟨by rw [HE.out, HAL.out]; rfl, HF.out⟩

theorem same_any (w : World) (a b : Option Addr) (n m c d : Nat) (s t : Nat → ByteArray) (hs : RdF w (.slice a n c) n (fun j => .string (s j))) (ht : RdF w (.slice b m d) m (fun j => .string (t j)))
    (hss : ∀ j, j < n → (s j).size ≤ 9223372036854775807) (hts : ∀ j, j < m → (t j).size ≤ 9223372036854775807) :
    Calls Tryd.prog 48 #[.slice a n c, .slice b m d] w fun e w' => e = .returned (.bool (nmEq n m s t)) ∧ Fr [] w w' := by
  have HC := Lib.hid (equalFunc_any w a b n m c d s t hs ht hss hts)
  clear hs ht hss hts
  generalize nmEq n m s t = r at *
  go_enter Tryd.func48, Tryd.ntmps48
  go_wp2_with fail
  refine HC.out.mono ?_
  rintro e w2 ⟨rfl, hf2⟩
  go_wp2
  go_ret
  exact ⟨rfl, hf2⟩

end Go.Proofs.YtkdmkpdooiacaaaDoor

namespace Go.Proofs.YtkdmkpdooiacaaaDoor
open Go.RowKit

theorem smB_size (s : ByteArray) : (smB s).size = s.size := sm_len s

set_option maxHeartbeats 2000000 in
set_option maxRecDepth 100000 in
theorem fold_any (w : World) (a : Option Addr) (n c : Nat) (s : Nat → ByteArray) (hs : RdF w (.slice a n c) n (fun j => .string (s j))) (hss : ∀ j, j < n → (s j).size ≤ 140737488355328) (hn : n * 16 ≤ 140737488355328) :
    Calls Tryd.prog 21 #[.slice a n c] w fun e w' => ∃ v', e = .returned v' ∧ OwnF w' w.heap.size 9 v' n (fun j => .string (smB (s j))) ∧ Fr [] w w' := by
  have HS := Lib.hid hs; clear hs
  have HSS := Lib.hid hss; clear hss
  go_enter Tryd.func21, Tryd.ntmps21
  go_wp2
  go_loopw [3, 8] (fun vo vi wr => ∃ k : Nat, k ≤ n ∧ vi = .int .i64 k ∧ OwnF wr w.heap.size 9 vo k (fun j => .string (smB (s j))) ∧ Fr [] w wr) (fun _ vi _ => n - (intOf vi).toNat)
  case atStart => exact ⟨0, by omega, rfl, .inl ⟨rfl, rfl⟩, Fr.refl _ _⟩
  case round =>
    obtain ⟨k, hk, rfl, ho, hf⟩ := hrel
    have HO := Lib.hid ho; clear ho
    have HF := Lib.hid hf; clear hf
    by_cases hlt : k < n
    · obtain ⟨b1, o1, c1, he1, hn1, hm1, _, hc1⟩ := HS.out.shape (by omega)
      simp only [Value.slice.injEq, true_and] at he1
      obtain ⟨rfl, rfl⟩ := he1
      clear hn1 hm1
      have k1 := HF.out.cell (hc1 k hlt) (by simp)
      clear hc1
      have k0 : (0 : Int) ≤ (k : Int) := by omega
      have k3 : (k : Int) < (n : Int) := by omega
      have h1 := HSS.out k hlt
      have HSK := Lib.hid (show s k = s k from rfl)
      have HC := Lib.hid (fun (wx : World) => small_any wx (s k) (by omega))
      have HV := Lib.hid (show smB (s k) = smB (s k) from rfl)
      go_wp2_with fail
      refine (HC.out _).mono ?_
      rintro e w2 ⟨rfl, hf2⟩
      have HF2 := Lib.hid (HF.out.trans hf2 (by simp))
      have HO2 := Lib.hid (HO.out.kept hf2 (fun _ _ => by simp))
      have HSZ := Lib.hid (show w.heap.size ≤ w2.heap.size from HF2.out.size)
      clear hf2
      go_wp2_with (at_builtin; refine wpList_app rfl (.tmp 12) (.tmp 15) 56 rfl 9 infoStr Tryd.underlying56 rfl (HO2.out.alloc _) rfl (rd_one _ _ _ rfl) rfl (fun _ _ => rfl) (by unfold maxLen; omega) (by omega) (by simp; have := HSZ.out; omega) ?_; intro v' w3 hown' hfr _)
      have HO3 := Lib.hid (hown'.congr (f' := fun j => .string (smB (s j))) (fun j hj => by
        unfold app
        by_cases h : j < k
        · rw [if_pos h]
        · rw [if_neg h, show j = k by omega]))
      have HF3 := Lib.hid ((HF2.out.alloc _).trans hfr (fun x hx => .inr (HO2.out.ge x hx)))
      clear hown' hfr
      go_roundw
      case rel => exact ⟨k + 1, by omega, by go_num, HO3.out, HF3.out⟩
      case measure => simp [intOf]; omega
    · obtain rfl : k = n := by omega
      go_wp2
      go_ret
      exact ⟨_, rfl, HO.out, HF.out⟩

end Go.Proofs.YtkdmkpdooiacaaaDoor

namespace Go.Proofs.YtkdmkpdooiacaaaDoor
open Go.RowKit

/-- how long a name is, so far -/
def nsz (s : Nat → ByteArray) : Nat → Int
  | 0 => 1
  | k + 1 => min (nsz s k + ((s k).size + 1)) 1073741824

theorem nsz_bd (s : Nat → ByteArray) (k : Nat) : 1 ≤ nsz s k ∧ nsz s k ≤ 1073741824 := by
  induction k with
  | zero => simp [nsz]
  | succ k ih => simp only [nsz]; omega

/-- is one of the first k labels too short, or too long? -/
def lbad (s : Nat → ByteArray) : Nat → Bool
  | 0 => false
  | k + 1 => lbad s k || (decide ((s k).size < 1) || decide (63 < (s k).size))

theorem lbad_true {s : Nat → ByteArray} {k n : Nat} (hk : k < n) (h : (s k).size < 1 ∨ 63 < (s k).size) : lbad s n = true := by
  induction n with
  | zero => omega
  | succ n ih =>
    simp only [lbad]
    by_cases e : k = n
    · subst e
      rcases h with h | h <;> simp [h]
    · rw [ih (by omega), Bool.true_or]

/-- what is wrong with a name -/
def nmFault (n : Nat) (s : Nat → ByteArray) : Int := if lbad s n = true then 3 else if 255 < nsz s n then 5 else 0

def erVn (z : Int) : Value := if z = 0 then .nilIface else .iface 25 (.int .i64 z)

set_option maxHeartbeats 2000000 in
set_option maxRecDepth 100000 in
theorem nameCheck_any (w : World) (a : Option Addr) (n c : Nat) (s : Nat → ByteArray) (hs : RdF w (.slice a n c) n (fun j => .string (s j))) (hss : ∀ j, j < n → (s j).size ≤ 140737488355328) :
    Calls Tryd.prog 38 #[.slice a n c] w fun e w' => e = .returned (erVn (nmFault n s)) ∧ w = w' := by
  have hcb := hs.le_cap
  unfold maxLen at hcb
  have HS := Lib.hid hs; clear hs
  have HSS := Lib.hid hss; clear hss
  go_enter Tryd.func38, Tryd.ntmps38
  go_wp2
  go_loop [3, 8] (fun vz vi => ∃ k : Nat, k ≤ n ∧ vi = .int .i64 k ∧ vz = .int .i64 (nsz s k) ∧ lbad s k = false) (fun _ vi => n - (intOf vi).toNat)
  case atStart => exact ⟨0, by omega, rfl, rfl, rfl⟩
  case round =>
    obtain ⟨k, hk, rfl, rfl, hbad⟩ := hrel
    have HBAD := Lib.hid hbad; clear hbad
    have hz := nsz_bd s k
    by_cases hlt : k < n
    · obtain ⟨b1, o1, c1, he1, _, _, _, hc1⟩ := HS.out.shape (by omega)
      simp only [Value.slice.injEq, true_and] at he1
      obtain ⟨rfl, rfl⟩ := he1
      have c0 := hc1 k hlt
      clear hc1
      have hl := HSS.out k hlt
      have HT := Lib.hid (fun h => lbad_true (s := s) (k := k) (n := n) hlt h)
      have HNS := Lib.hid (show nsz s (k + 1) = min (nsz s k + ((s k).size + 1)) 1073741824 from rfl)
      have HLB := Lib.hid (show lbad s (k + 1) = (lbad s k || (decide ((s k).size < 1) || decide (63 < (s k).size))) from rfl)
      generalize nsz s k = z at *
      generalize s k = sk at *
      by_cases h1 : sk.size < 1
      · have HE := Lib.hid (show nmFault n s = 3 by unfold nmFault; rw [if_pos (HT.out (.inl h1))])
        have d1 : sk.size = 0 := by omega
        have d0 : decide ((sk.size : Int) < 1) = true := by simp; omega
        go_wp2
        go_ret
        exact ⟨by rw [HE.out]; rfl, rfl⟩
      · by_cases h2 : 63 < sk.size
        · have HE := Lib.hid (show nmFault n s = 3 by unfold nmFault; rw [if_pos (HT.out (.inr h2))])
          have d1 : ¬ sk.size = 0 := by omega
          go_wp2
          go_ret
          exact ⟨by rw [HE.out]; rfl, rfl⟩
        · have HB2 := Lib.hid (show lbad s (k + 1) = false by rw [HLB.out, HBAD.out, decide_eq_false h1, decide_eq_false h2]; rfl)
          have d1 : ¬ sk.size = 0 := by omega
          by_cases h3 : 1073741824 < z + ((sk.size : Int) + 1)
          · have HN2 := Lib.hid (show nsz s (k + 1) = 1073741824 by rw [HNS.out]; omega)
            go_wp2
            go_round
            case rel => exact ⟨k + 1, by omega, by go_num, by rw [HN2.out], HB2.out⟩
            case measure => simp [intOf]; omega
          · have HN2 := Lib.hid (show nsz s (k + 1) = z + ((sk.size : Int) + 1) by rw [HNS.out]; omega)
            go_wp2
            go_round
            case rel => exact ⟨k + 1, by omega, by go_num, by rw [HN2.out], HB2.out⟩
            case measure => simp [intOf]; omega
    · obtain rfl : k = n := by omega
      by_cases h255 : 255 < nsz s k
      · have HE := Lib.hid (show nmFault k s = 5 by unfold nmFault; rw [if_neg (by rw [HBAD.out]; decide), if_pos h255])
        generalize nsz s k = z at *
        go_wp2
        go_ret
        exact ⟨by rw [HE.out]; rfl, rfl⟩
      · have HE := Lib.hid (show nmFault k s = 0 by unfold nmFault; rw [if_neg (by rw [HBAD.out]; decide), if_neg h255])
        generalize nsz s k = z at *
        go_wp2
        go_ret
        exact ⟨by rw [HE.out]; rfl, rfl⟩

end Go.Proofs.YtkdmkpdooiacaaaDoor

namespace Go.Proofs.YtkdmkpdooiacaaaDoor
open Go.RowKit

/-- the types of the blocks that a cache writes -/
def hotT (T : TypeId) : Bool := T == 63 || T == 88 || T == 43 || T == 34

/-- from where on a cache writes blocks of its types; some blocks of others that may be written besides -/
structure HB where
  n : Nat
  s : List Nat

instance : Coe HB Nat := ⟨HB.n⟩

/-- they are there -/
structure HB.In (B : HB) (w : World) : Prop where
  n : B.n ≤ w.heap.size
  s : ∀ x ∈ B.s, x < w.heap.size

theorem HB.In.mono {B : HB} {w w' : World} (h : B.In w) (hs : w.heap.size ≤ w'.heap.size) : B.In w' := ⟨Nat.le_trans h.n hs, fun x hx => Nat.lt_of_lt_of_le (h.s x hx) hs⟩

/-- a block that may be written -/
def Hot (B : HB) (w : World) (k : Nat) : Prop := (B.n ≤ k ∧ ∃ cs T z, w.heap[k]? = some (.cells cs T z) ∧ hotT T = true) ∨ k ∈ B.s

/-- All but the cache's own blocks is as it was. -/
structure FrH (B : HB) (w w' : World) : Prop where
  os : w'.os = w.os
  tape : w'.tape = w.tape
  output : w'.output = w.output
  size : w.heap.size ≤ w'.heap.size
  block : ∀ k, k < w.heap.size → ¬ Hot B w k → w'.heap[k]? = w.heap[k]?

theorem hot_congr {B : HB} {w w' : World} {k : Nat} (h : w'.heap[k]? = w.heap[k]?) : Hot B w' k ↔ Hot B w k := by
  unfold Hot
  rw [h]

theorem FrH.refl (B : HB) (w : World) : FrH B w w := ⟨rfl, rfl, rfl, Nat.le_refl _, fun _ _ _ => rfl⟩

theorem FrH.trans {B : HB} {a b c : World} (h : FrH B a b) (k : FrH B b c) : FrH B a c :=
  ⟨k.os.trans h.os, k.tape.trans h.tape, k.output.trans h.output, Nat.le_trans h.size k.size, fun i hi hn =>
    (k.block i (Nat.lt_of_lt_of_le hi h.size) (fun hh => hn ((hot_congr (h.block i hi hn)).1 hh))).trans (h.block i hi hn)⟩

theorem Fr.hot {S : List Nat} {w w' : World} (B : HB) (h : Fr S w w') (hs : ∀ x ∈ S, x < w.heap.size → Hot B w x) : FrH B w w' :=
  ⟨h.os, h.tape, h.output, h.size, fun k hk hn => h.block k hk (fun hm => hn (hs k hm hk))⟩

theorem Fr.hot0 {w w' : World} (B : HB) (h : Fr [] w w') : FrH B w w' := h.hot B (fun x hx => by simp at hx)

theorem FrH.below {B : HB} {w w' : World} (h : FrH B w w') (C : Nat) (h1 : C ≤ B) (h2 : C ≤ w.heap.size) (h3 : ∀ x ∈ B.s, C ≤ x) : Below C w w' :=
  ⟨h.os, h.tape, h.output, h.size, fun k hk => h.block k (by omega) (fun hh => by
    rcases hh with hh | hh
    · have := hh.1; omega
    · have := h3 k hh; omega)⟩

/-- where a slice's cells lie, no cache writes -/
def Cold (B : HB) (w : World) (v : Value) : Prop := ∀ b o n c, v = .slice (some ⟨b, o, none⟩) n c → 0 < n → b < w.heap.size ∧ ¬ Hot B w b

theorem Cold.frH {B : HB} {w w' : World} {v : Value} (h : Cold B w v) (hf : FrH B w w') : Cold B w' v := fun b o n c e hn => by
  obtain ⟨h1, h2⟩ := h b o n c e hn
  exact ⟨Nat.lt_of_lt_of_le h1 hf.size, fun hh => h2 ((hot_congr (hf.block b h1 h2)).1 hh)⟩

/-- which blocks of others may be written turns, but for those that are there -/
theorem Cold.turn {B B' : HB} {w : World} {v : Value} (h : Cold B w v) (hn : B'.n = B.n) (hs : ∀ x ∈ B'.s, x ∈ B.s ∨ w.heap.size ≤ x) : Cold B' w v := fun b o n c e hm => by
  obtain ⟨h1, h2⟩ := h b o n c e hm
  refine ⟨h1, fun hh => ?_⟩
  rcases hh with hh | hh
  · exact h2 (.inl ⟨by rw [← hn]; exact hh.1, hh.2⟩)
  · rcases hs b hh with h3 | h3
    · exact h2 (.inr h3)
    · omega

theorem Cold.nil (B : HB) (w : World) : Cold B w (.slice none 0 0) := fun b o n c e hn => by simp at e

theorem Cold.zero (B : HB) (w : World) (a : Option Addr) (c : Nat) : Cold B w (.slice a 0 c) := fun b o n c e hn => by
  simp only [Value.slice.injEq] at e
  omega

theorem Cold.old {w : World} {v : Value} {n : Nat} {f : Nat → Value} (h : RdF w v n f) {B : HB} (hB : w.heap.size ≤ B ∧ ∀ x ∈ B.s, w.heap.size ≤ x) : Cold B w v := fun b o m c e hm => by
  subst e
  have hn : n = m := by
    rcases h with ⟨e, _⟩ | ⟨a, cap, e, _⟩
    · simp at e
    · simp only [Value.slice.injEq] at e
      exact e.2.1.symm
  obtain ⟨b', o', c', e, _, _, hlt, _⟩ := h.shape (by omega)
  simp only [Value.slice.injEq, Option.some.injEq, Addr.mk.injEq] at e
  obtain ⟨⟨rfl, _⟩, _⟩ := e
  exact ⟨hlt, fun hh => by
    rcases hh with hh | hh
    · have := hh.1; have := hB.1; omega
    · have := hB.2 _ hh; omega⟩

theorem Cold.oldC {w : World} {v : Value} {s n : Nat} {F : Nat → Nat → Value} (h : RdC w v s n F) (hs : 0 < s) {B : HB} (hB : w.heap.size ≤ B ∧ ∀ x ∈ B.s, w.heap.size ≤ x) : Cold B w v := fun b o m c e hm => by
  subst e
  have hn : n = m := by
    rcases h with ⟨e, _⟩ | ⟨a, cap, e, _⟩
    · simp at e
    · simp only [Value.slice.injEq] at e
      exact e.2.1.symm
  obtain ⟨b', o', c', e, _, _, hlt, _⟩ := h.shape (by omega) hs
  simp only [Value.slice.injEq, Option.some.injEq, Addr.mk.injEq] at e
  obtain ⟨⟨rfl, _⟩, _⟩ := e
  exact ⟨hlt, fun hh => by
    rcases hh with hh | hh
    · have := hh.1; have := hB.1; omega
    · have := hB.2 _ hh; omega⟩

theorem cold_row {w : World} {g : Nat} {E : TypeId} {cs : Array Value} {z : Nat × Nat} (h : w.heap[g]? = some (.cells cs E z)) (hE : hotT E = false) (B : HB) (hS : g ∉ B.s) (n c : Nat) : Cold B w (.slice (some ⟨g, 0, none⟩) n c) := fun b o m c' e hm => by
  simp only [Value.slice.injEq, Option.some.injEq, Addr.mk.injEq] at e
  obtain ⟨⟨rfl, _⟩, _⟩ := e
  refine ⟨lt_of_blk h, fun hh => ?_⟩
  rcases hh with ⟨_, cs', T, z', e2, ht⟩ | hh
  case inr => exact hS hh
  rw [h] at e2
  simp only [Option.some.injEq, Obj.cells.injEq] at e2
  obtain ⟨_, rfl, _⟩ := e2
  rw [hE] at ht
  cases ht

theorem OwnF.cold {w : World} {B0 : Nat} {E : TypeId} {v : Value} {n : Nat} {f : Nat → Value} (h : OwnF w B0 E v n f) (hE : hotT E = false) (B : HB) (hS : ∀ x ∈ B.s, x < B0) : Cold B w v := by
  rcases h with ⟨rfl, _⟩ | ⟨g, cap, rfl, hg, cur, h1, _⟩
  · exact Cold.nil _ _
  · exact cold_row h1 hE _ (fun hm => by have := hS g hm; omega) _ _

theorem OwnC.cold {w : World} {B0 : Nat} {E : TypeId} {v : Value} {s n : Nat} {F : Nat → Nat → Value} (h : OwnC w B0 E v s n F) (hE : hotT E = false) (B : HB) (hS : ∀ x ∈ B.s, x < B0) : Cold B w v := by
  rcases h with ⟨rfl, _⟩ | ⟨g, cap, rfl, hg, cur, h1, _⟩
  · exact Cold.nil _ _
  · exact cold_row h1 hE _ (fun hm => by have := hS g hm; omega) _ _

theorem FrH.cell {B : HB} {w w' : World} (h : FrH B w w') {p : Addr} {v : Value} (hv : w.cell? p = some v) (hn : ¬ Hot B w p.block) : w'.cell? p = some v :=
  (World.cell?_of_block (h.block p.block (World.block_lt_of_cell? w p hv) hn)).trans hv

theorem addr_lit_add (b o j : Nat) : (⟨b, o, none⟩ : Addr).add j = ⟨b, o + j, none⟩ := by unfold Addr.add; split <;> simp_all

theorem RdF.frH {B : HB} {w w' : World} {v : Value} {n : Nat} {f : Nat → Value} (h : RdF w v n f) (hc : Cold B w v) (hf : FrH B w w') : RdF w' v n f := by
  by_cases h0 : n = 0
  · subst h0; exact h.zero _ _
  · obtain ⟨b, o, cap, rfl, h1, h2, h3, h4⟩ := h.shape (by omega)
    refine .inr ⟨⟨b, o, none⟩, cap, rfl, h1, h2, fun j hj => ?_⟩
    rw [addr_lit_add]
    exact hf.cell (h4 j hj) (hc b o n cap rfl (by omega)).2

theorem RdC.frH {B : HB} {w w' : World} {v : Value} {s n : Nat} {F : Nat → Nat → Value} (h : RdC w v s n F) (hs : 0 < s) (hc : Cold B w v) (hf : FrH B w w') : RdC w' v s n F := by
  by_cases h0 : n = 0
  · subst h0
    rcases h with h | ⟨a, cap, hv, h1, h2, h3⟩
    · exact .inl h
    · exact .inr ⟨a, cap, hv, h1, h2, fun j hj => by simp at hj⟩
  · obtain ⟨b, o, cap, rfl, h1, h2, h3, h4⟩ := h.shape (by omega) hs
    refine .inr ⟨⟨b, o, none⟩, cap, rfl, h1, h2, fun j hj => ?_⟩
    rw [addr_lit_add]
    have h5 := hf.cell (h4 (j / s) (j % s) (div_lt' hj) (Nat.mod_lt _ hs)) (hc b o n cap rfl (by omega)).2
    have e2 : j / s * s + j % s = j := by rw [Nat.mul_comm]; exact Nat.div_add_mod j s
    rw [Nat.add_assoc, e2] at h5
    exact h5

/-- a record -/
structure Rs where
  nl : Nat
  nm : Nat → ByteArray
  ty : Int
  cl : Int
  tt : Int
  dl : Nat
  dt : Nat → Int

/-- its numbers are in their types' reach -/
structure Rs.Wf (r : Rs) : Prop where
  ty0 : -9223372036854775808 ≤ r.ty ∧ r.ty ≤ 9223372036854775807
  cl0 : -9223372036854775808 ≤ r.cl ∧ r.cl ≤ 9223372036854775807
  tt0 : -9223372036854775808 ≤ r.tt ∧ r.tt ≤ 9223372036854775807
  dt0 : ∀ j, j < r.dl → 0 ≤ r.dt j ∧ r.dt j ≤ 255
  nms : ∀ j, j < r.nl → (r.nm j).size ≤ 140737488355328
  nlb : r.nl * 16 ≤ 140737488355328
  dlb : r.dl ≤ 140737488355328

def Rs.F (r : Rs) (na : Option Addr) (nc : Nat) (da : Option Addr) (dc : Nat) : Nat → Value
  | 0 => .slice na r.nl nc
  | 1 => .int .i64 r.ty
  | 2 => .int .i64 r.cl
  | 3 => .int .i64 r.tt
  | _ => .slice da r.dl dc

/-- a record's rows in memory -/
structure RsOk (B : HB) (w : World) (r : Rs) (na : Option Addr) (nc : Nat) (da : Option Addr) (dc : Nat) : Prop where
  rdn : RdF w (.slice na r.nl nc) r.nl (fun j => .string (r.nm j))
  rdd : RdF w (.slice da r.dl dc) r.dl (fun j => .int .u8 (r.dt j))
  cdn : Cold B w (.slice na r.nl nc)
  cdd : Cold B w (.slice da r.dl dc)

/-- five cells hold a record -/
def RsAt (B : HB) (w : World) (F : Nat → Value) (r : Rs) : Prop := ∃ na nc da dc, (∀ c, c < 5 → F c = r.F na nc da dc c) ∧ RsOk B w r na nc da dc

theorem RsOk.frH {B : HB} {w w' : World} {r : Rs} {na da : Option Addr} {nc dc : Nat} (h : RsOk B w r na nc da dc) (hf : FrH B w w') : RsOk B w' r na nc da dc :=
  ⟨h.rdn.frH h.cdn hf, h.rdd.frH h.cdd hf, h.cdn.frH hf, h.cdd.frH hf⟩

theorem RsAt.frH {B : HB} {w w' : World} {F : Nat → Value} {r : Rs} (h : RsAt B w F r) (hf : FrH B w w') : RsAt B w' F r := by
  obtain ⟨na, nc, da, dc, h1, h2⟩ := h
  exact ⟨na, nc, da, dc, h1, h2.frH hf⟩

theorem Rs.one {r : Rs} {F : Nat → Value} {na da : Option Addr} {nc dc : Nat} (h : ∀ c, c < 5 → F c = r.F na nc da dc c) (c : Nat) (hc : c < 5) : (F c).oneCell' = true := by
  rw [h c hc]
  match c, hc with
  | 0, _ => rfl
  | 1, _ => rfl
  | 2, _ => rfl
  | 3, _ => rfl
  | 4, _ => rfl

/-- a slice of n records -/
structure Sec (B : HB) (w : World) (v : Value) (n : Nat) (R : Nat → Rs) (F : Nat → Nat → Value) : Prop where
  rd : RdC w v 5 n F
  cd : Cold B w v
  at_ : ∀ i, i < n → RsAt B w (F i) (R i)
  wf : ∀ i, i < n → (R i).Wf
  nb : n * 72 ≤ 140737488355328

theorem Sec.frH {B : HB} {w w' : World} {v : Value} {n : Nat} {R : Nat → Rs} {F : Nat → Nat → Value} (h : Sec B w v n R F) (hf : FrH B w w') : Sec B w' v n R F :=
  ⟨h.rd.frH (by decide) h.cd hf, h.cd.frH hf, fun i hi => (h.at_ i hi).frH hf, h.wf, h.nb⟩

theorem Sec.one {B : HB} {w : World} {v : Value} {n : Nat} {R : Nat → Rs} {F : Nat → Nat → Value} (h : Sec B w v n R F) (i c : Nat) (hi : i < n) (hc : c < 5) : (F i c).oneCell' = true := by
  obtain ⟨na, nc, da, dc, h1, _⟩ := h.at_ i hi
  exact Rs.one h1 c hc

/-- a question -/
structure Qs where
  nl : Nat
  nm : Nat → ByteArray
  ty : Int
  cl : Int

structure Qs.Wf (r : Qs) : Prop where
  ty0 : -9223372036854775808 ≤ r.ty ∧ r.ty ≤ 9223372036854775807
  cl0 : -9223372036854775808 ≤ r.cl ∧ r.cl ≤ 9223372036854775807
  nms : ∀ j, j < r.nl → (r.nm j).size ≤ 140737488355328
  nlb : r.nl * 16 ≤ 140737488355328

def Qs.F (r : Qs) (na : Option Addr) (nc : Nat) : Nat → Value
  | 0 => .slice na r.nl nc
  | 1 => .int .i64 r.ty
  | _ => .int .i64 r.cl

/-- three cells hold a question -/
def QsAt (B : HB) (w : World) (F : Nat → Value) (r : Qs) : Prop := ∃ na nc, (∀ c, c < 3 → F c = r.F na nc c) ∧ RdF w (.slice na r.nl nc) r.nl (fun j => .string (r.nm j)) ∧ Cold B w (.slice na r.nl nc)

theorem QsAt.frH {B : HB} {w w' : World} {F : Nat → Value} {r : Qs} (h : QsAt B w F r) (hf : FrH B w w') : QsAt B w' F r := by
  obtain ⟨na, nc, h1, h2, h3⟩ := h
  exact ⟨na, nc, h1, h2.frH h3 hf, h3.frH hf⟩

/-- a slice of n questions -/
structure QSec (B : HB) (w : World) (v : Value) (n : Nat) (R : Nat → Qs) (F : Nat → Nat → Value) : Prop where
  rd : RdC w v 3 n F
  cd : Cold B w v
  at_ : ∀ i, i < n → QsAt B w (F i) (R i)
  wf : ∀ i, i < n → (R i).Wf
  nb : n * 40 ≤ 140737488355328

theorem QSec.frH {B : HB} {w w' : World} {v : Value} {n : Nat} {R : Nat → Qs} {F : Nat → Nat → Value} (h : QSec B w v n R F) (hf : FrH B w w') : QSec B w' v n R F :=
  ⟨h.rd.frH (by decide) h.cd hf, h.cd.frH hf, fun i hi => (h.at_ i hi).frH hf, h.wf, h.nb⟩

theorem QSec.one {B : HB} {w : World} {v : Value} {n : Nat} {R : Nat → Qs} {F : Nat → Nat → Value} (h : QSec B w v n R F) (i c : Nat) (hi : i < n) (hc : c < 3) : (F i c).oneCell' = true := by
  obtain ⟨na, nc, h1, _⟩ := h.at_ i hi
  rw [h1 c hc]
  match c, hc with
  | 0, _ => rfl
  | 1, _ => rfl
  | 2, _ => rfl

/-- a header -/
structure Hd where
  id : Int
  an : Bool
  op : Int
  aa : Bool
  tc : Bool
  rd : Bool
  ra : Bool
  z : Bool
  ad : Bool
  cd : Bool
  code : Int

structure Hd.Wf (h : Hd) : Prop where
  id0 : -9223372036854775808 ≤ h.id ∧ h.id ≤ 9223372036854775807
  op0 : -9223372036854775808 ≤ h.op ∧ h.op ≤ 9223372036854775807
  code0 : -9223372036854775808 ≤ h.code ∧ h.code ≤ 9223372036854775807

/-- a message, all but where its rows lie -/
structure Ms where
  h : Hd
  qn : Nat
  Q : Nat → Qs
  an : Nat
  A : Nat → Rs
  un : Nat
  U : Nat → Rs
  mn : Nat
  M : Nat → Rs

def msgV (h : Hd) (q a u m : Value) : Value :=
  .agg #[.int .i64 h.id, .bool h.an, .int .i64 h.op, .bool h.aa, .bool h.tc, .bool h.rd, .bool h.ra, .bool h.z, .bool h.ad, .bool h.cd, .int .i64 h.code, q, a, u, m]

/-- a message's rows in memory -/
structure MsOk (B : HB) (w : World) (m : Ms) (vq va vu vm : Value) : Prop where
  hq : ∃ F, QSec B w vq m.qn m.Q F
  ha : ∃ F, Sec B w va m.an m.A F
  hu : ∃ F, Sec B w vu m.un m.U F
  hm : ∃ F, Sec B w vm m.mn m.M F
  hh : m.h.Wf

theorem MsOk.frH {B : HB} {w w' : World} {m : Ms} {vq va vu vm : Value} (h : MsOk B w m vq va vu vm) (hf : FrH B w w') : MsOk B w' m vq va vu vm :=
  ⟨h.hq.imp fun _ x => x.frH hf, h.ha.imp fun _ x => x.frH hf, h.hu.imp fun _ x => x.frH hf, h.hm.imp fun _ x => x.frH hf, h.hh⟩

section
variable {B B' : HB} {w : World} (hn : B'.n = B.n) (hs : ∀ x ∈ B'.s, x ∈ B.s ∨ w.heap.size ≤ x)
theorem RsAt.turn {F : Nat → Value} {r : Rs} (hn : B'.n = B.n) (hs : ∀ x ∈ B'.s, x ∈ B.s ∨ w.heap.size ≤ x) (h : RsAt B w F r) : RsAt B' w F r := by
  obtain ⟨na, nc, da, dc, h1, h2⟩ := h
  exact ⟨na, nc, da, dc, h1, h2.rdn, h2.rdd, h2.cdn.turn hn hs, h2.cdd.turn hn hs⟩
theorem Sec.turn {v : Value} {n : Nat} {R : Nat → Rs} {F : Nat → Nat → Value} (hn : B'.n = B.n) (hs : ∀ x ∈ B'.s, x ∈ B.s ∨ w.heap.size ≤ x) (h : Sec B w v n R F) : Sec B' w v n R F :=
  ⟨h.rd, h.cd.turn hn hs, fun i hi => (h.at_ i hi).turn hn hs, h.wf, h.nb⟩
theorem QSec.turn {v : Value} {n : Nat} {R : Nat → Qs} {F : Nat → Nat → Value} (hn : B'.n = B.n) (hs : ∀ x ∈ B'.s, x ∈ B.s ∨ w.heap.size ≤ x) (h : QSec B w v n R F) : QSec B' w v n R F :=
  ⟨h.rd, h.cd.turn hn hs, fun i hi => by
    obtain ⟨na, nc, h1, h2, h3⟩ := h.at_ i hi
    exact ⟨na, nc, h1, h2, h3.turn hn hs⟩, h.wf, h.nb⟩
theorem MsOk.turn {m : Ms} {vq va vu vm : Value} (hn : B'.n = B.n) (hs : ∀ x ∈ B'.s, x ∈ B.s ∨ w.heap.size ≤ x) (h : MsOk B w m vq va vu vm) : MsOk B' w m vq va vu vm :=
  ⟨h.hq.imp fun _ x => x.turn hn hs, h.ha.imp fun _ x => x.turn hn hs, h.hu.imp fun _ x => x.turn hn hs, h.hm.imp fun _ x => x.turn hn hs, h.hh⟩
end

end Go.Proofs.YtkdmkpdooiacaaaDoor

namespace Go.Proofs.YtkdmkpdooiacaaaDoor
open Go.RowKit

theorem is_any (w : World) (a b : Value) (ty x y : Int) : Calls Tryd.prog 43 #[.agg #[a, .int .i64 ty, .int .i64 x, .int .i64 y, b]] w fun e w' => e = .returned (.bool (ty == 41)) ∧ Fr [] w w' := by
  go_enter Tryd.func43, Tryd.ntmps43
  go_wp2
  go_ret
  exact ⟨rfl, (Fr.refl [] w).alloc _⟩

/-- the first place of an OPT record among the first k; k where there is none -/
def optIx (R : Nat → Rs) : Nat → Nat
  | 0 => 0
  | k + 1 => if optIx R k < k then optIx R k else if (R k).ty = 41 then k else k + 1

theorem optIx_le (R : Nat → Rs) (k : Nat) : optIx R k ≤ k := by
  induction k with
  | zero => exact Nat.le_refl _
  | succ k ih => unfold optIx; split; · omega
                 · split <;> omega

theorem optIx_hit {R : Nat → Rs} {k n : Nat} (hk : k < n) (h0 : optIx R k = k) (h : (R k).ty = 41) : optIx R n = k := by
  induction n with
  | zero => omega
  | succ n ih =>
    by_cases e : k = n
    · subst e
      unfold optIx
      rw [if_neg (by omega), if_pos h]
    · have := ih (by omega)
      unfold optIx
      rw [this, if_pos (by omega)]

theorem optIx_miss {R : Nat → Rs} {k : Nat} (h0 : optIx R k = k) (h : (R k).ty ≠ 41) : optIx R (k + 1) = k + 1 := by
  unfold optIx
  rw [if_neg (by omega), if_neg h]

def optI (R : Nat → Rs) (n : Nat) : Int := if optIx R n < n then (optIx R n : Int) else -1

set_option maxHeartbeats 2000000 in
set_option maxRecDepth 100000 in
theorem idxRec_any (w : World) (B : HB) (a : Option Addr) (n c : Nat) (R : Nat → Rs) (F : Nat → Nat → Value) (hS : Sec B w (.slice a n c) n R F) :
    Calls Tryd.prog 42 #[.slice a n c, .func (.func 43) #[] #[]] w fun e w' => e = .returned (.int .i64 (optI R n)) ∧ Fr [] w w' := by
  have hnb := hS.nb
  have HS := Lib.hid hS; clear hS
  go_enter Tryd.func42, Tryd.ntmps42
  go_wp2
  go_loopw [8] (fun vi wr => ∃ k : Nat, k ≤ n ∧ vi = .int .i64 k ∧ optIx R k = k ∧ Fr [] w wr) (fun vi _ => n - (intOf vi).toNat)
  case atStart => exact ⟨0, by omega, rfl, rfl, Fr.refl _ _⟩
  case round =>
    obtain ⟨k, hk, rfl, hix, hf⟩ := hrel
    have HIX := Lib.hid hix; clear hix
    have HF := Lib.hid hf; clear hf
    by_cases hlt : k < n
    · obtain ⟨b1, o1, c1, he1, hn1, hm1, _, hc1⟩ := HS.out.rd.shape (by omega) (by decide)
      simp only [Value.slice.injEq, true_and] at he1
      obtain ⟨rfl, rfl⟩ := he1
      clear hn1 hm1
      obtain ⟨na, nc, da, dc, hF, _⟩ := HS.out.at_ k hlt
      have k1 := HF.out.cell (hc1 k 0 hlt (by decide)) (by simp)
      have k2 := HF.out.cell (hc1 k 1 hlt (by decide)) (by simp)
      have k3 := HF.out.cell (hc1 k 2 hlt (by decide)) (by simp)
      have k4 := HF.out.cell (hc1 k 3 hlt (by decide)) (by simp)
      have k5 := HF.out.cell (hc1 k 4 hlt (by decide)) (by simp)
      rw [hF 0 (by decide)] at k1
      rw [hF 1 (by decide)] at k2
      rw [hF 2 (by decide)] at k3
      rw [hF 3 (by decide)] at k4
      rw [hF 4 (by decide)] at k5
      simp only [Rs.F, Nat.add_zero] at k1 k2 k3 k4 k5
      clear hc1 hF
      have k0 : (0 : Int) ≤ (k : Int) := by omega
      have k9 : (k : Int) < (n : Int) := by omega
      have HH := Lib.hid (fun h => optIx_hit (R := R) hlt HIX.out h)
      have HM := Lib.hid (fun h => optIx_miss (R := R) HIX.out h)
      generalize (R k).ty = ty at *
      generalize (R k).cl = x at *
      generalize (R k).tt = y at *
      generalize Value.slice na (R k).nl nc = va at *
      generalize Value.slice da (R k).dl dc = vd at *
      have HC := Lib.hid (fun wx => is_any wx va vd ty x y)
      go_wp2_with fail
      refine (HC.out _).mono ?_
      rintro e w2 ⟨rfl, hf2⟩
      have HF2 := Lib.hid (HF.out.trans hf2 (by simp))
      clear hf2
      by_cases h41 : ty = 41
      · have HE := Lib.hid (show optI R n = (k : Int) by unfold optI; rw [HH.out h41, if_pos hlt])
        have hb : (ty == 41) = true := by simp [h41]
        clear h41
        go_wp2
        go_ret
        exact ⟨by rw [HE.out]; rfl, HF2.out⟩
      · have hb : (ty == 41) = false := by simp [h41]
        have HE := Lib.hid (HM.out h41)
        clear h41
        go_wp2
        go_roundw
        case rel => exact ⟨k + 1, by omega, by go_num, HE.out, HF2.out⟩
        case measure => simp [intOf]; omega
    · obtain rfl : k = n := by omega
      have HE := Lib.hid (show optI R k = -1 by unfold optI; rw [HIX.out, if_neg (by omega)])
      go_wp2
      go_ret
      exact ⟨by rw [HE.out]; rfl, HF.out⟩

theorem hasRec_any (w : World) (B : HB) (a : Option Addr) (n c : Nat) (R : Nat → Rs) (F : Nat → Nat → Value) (hS : Sec B w (.slice a n c) n R F) :
    Calls Tryd.prog 44 #[.slice a n c, .func (.func 43) #[] #[]] w fun e w' => e = .returned (.bool (decide (optIx R n < n))) ∧ Fr [] w w' := by
  have HC := Lib.hid (idxRec_any w B a n c R F hS)
  clear hS
  go_enter Tryd.func44, Tryd.ntmps44
  go_wp2_with fail
  refine HC.out.mono ?_
  rintro e w2 ⟨rfl, hf2⟩
  by_cases h : optIx R n < n
  · have HE := Lib.hid (show optI R n = (optIx R n : Int) by unfold optI; rw [if_pos h])
    rw [HE.out]
    have hd : decide (optIx R n < n) = true := by simpa using h
    have HD := Lib.hid hd
    clear hd h
    go_wp2
    go_ret
    exact ⟨by rw [HD.out]; rfl, hf2⟩
  · have HE := Lib.hid (show optI R n = -1 by unfold optI; rw [if_neg h])
    rw [HE.out]
    have hd : decide (optIx R n < n) = false := by simpa using h
    have HD := Lib.hid hd
    clear hd h
    go_wp2
    go_ret
    exact ⟨by rw [HD.out]; rfl, hf2⟩

end Go.Proofs.YtkdmkpdooiacaaaDoor

namespace Go.Proofs.YtkdmkpdooiacaaaDoor
open Go.RowKit

/-- a record of small weight -/
structure RsSm (r : Rs) : Prop where
  nl : r.nl * 16 ≤ 629145600
  dl : r.dl ≤ 629145600
  nm : ∀ j, j < r.nl → (r.nm j).size ≤ 629145600

/-- a question of small weight -/
structure QsSm (r : Qs) : Prop where
  nl : r.nl * 16 ≤ 629145600
  nm : ∀ j, j < r.nl → (r.nm j).size ≤ 629145600

/-- a message of small weight -/
structure MsSm (m : Ms) : Prop where
  qn : m.qn * 40 ≤ 629145600
  an : m.an * 72 ≤ 629145600
  un : m.un * 72 ≤ 629145600
  mn : m.mn * 72 ≤ 629145600
  q : ∀ i, i < m.qn → QsSm (m.Q i)
  a : ∀ i, i < m.an → RsSm (m.A i)
  u : ∀ i, i < m.un → RsSm (m.U i)
  m : ∀ i, i < m.mn → RsSm (m.M i)

end Go.Proofs.YtkdmkpdooiacaaaDoor

namespace Go.Proofs.YtkdmkpdooiacaaaDoor
open Go.RowKit

/-- the cells of a message -/
def msC (h : Hd) (q a u m : Value) : Nat → Value
  | 0 => .int .i64 h.id
  | 1 => .bool h.an
  | 2 => .int .i64 h.op
  | 3 => .bool h.aa
  | 4 => .bool h.tc
  | 5 => .bool h.rd
  | 6 => .bool h.ra
  | 7 => .bool h.z
  | 8 => .bool h.ad
  | 9 => .bool h.cd
  | 10 => .int .i64 h.code
  | 11 => q
  | 12 => a
  | 13 => u
  | _ => m

/-- messages that read: the i-th is M i, its rows lie at V i -/
def MsgsAt (B : HB) (w : World) (v : Value) (n : Nat) (M : Nat → Ms) (V : Nat → Value × Value × Value × Value) : Prop :=
  RdC w v 15 n (fun i => msC (M i).h (V i).1 (V i).2.1 (V i).2.2.1 (V i).2.2.2) ∧ ∀ i, i < n → MsOk B w (M i) (V i).1 (V i).2.1 (V i).2.2.1 (V i).2.2.2

end Go.Proofs.YtkdmkpdooiacaaaDoor

namespace Go.Proofs.YtkdmkpdooiacaaaDoor
open Go.RowKit

/-- are the bytes from the place on options, one behind the other? -/
def optsOk (f : Nat → Int) (at_ n : Nat) : Bool :=
  if n ≤ at_ then true
  else if n < at_ + 4 then false
  else if n < at_ + 4 + (f (at_ + 2) * 256 + f (at_ + 3)).toNat then false
  else optsOk f (at_ + 4 + (f (at_ + 2) * 256 + f (at_ + 3)).toNat) n
termination_by n - at_
decreasing_by omega

theorem or_bytes {x y : Int} (h0 : 0 ≤ x) (h1 : x ≤ 255) (h2 : 0 ≤ y) (h3 : y ≤ 255) : (IntKind.i64.wrap (x * 256)) = x * 256 := by
  rw [IntKind.wrap_i64]
  omega

end Go.Proofs.YtkdmkpdooiacaaaDoor

namespace Go.Proofs.YtkdmkpdooiacaaaDoor
open Go.RowKit

theorem infoOpt : (Tryd.prog.info? 96).map (fun i => (i.zero, i.size, i.bytes)) = some (some (.agg #[.int .i64 0, .slice none 0 0]), 2, 32) := by kernel_rfl

def f2 (x0 x1 : Value) : Nat → Value
  | 0 => x0
  | _ => x1

theorem f2_one (x : Int) (a : Option Addr) (n c : Nat) : ∀ j, j < 1 * 2 → (fls 2 (fun _ => f2 (.int .i64 x) (.slice a n c)) j).oneCell' = true := fun j hj =>
  match j, hj with
  | 0, _ => rfl
  | 1, _ => rfl

theorem rdc_two (w : World) (E : TypeId) (x0 x1 : Value) {b : Nat} (hb : w.heap.size = b) :
    RdC (w.alloc (.cells #[x0, x1] E)) (.slice (some ⟨b, 0, none⟩) 1 1) 2 1 (fun _ => f2 x0 x1) := by
  subst hb
  have hn := heap_alloc_new w (.cells #[x0, x1] E)
  refine .inr ⟨_, 1, rfl, Nat.le_refl _, by decide, fun j hj => ?_⟩
  rw [addr_lit_add, Nat.zero_add]
  match j, hj with
  | 0, _ => exact blk_cell hn 0 rfl
  | 1, _ => exact blk_cell hn 1 rfl

def lenV : Value → Nat
  | .slice _ n _ => n
  | _ => 0

/-- options' loop: p bytes are taken, as k options -/
def OpLp (w : World) (n : Nat) (f : Nat → Int) (b o : Value) (wr : World) : Prop :=
  ∃ (p k : Nat) (ab : Option Addr) (cb : Nat) (F : Nat → Nat → Value), p ≤ n ∧ 4 * k ≤ p ∧ b = .slice ab (n - p) cb ∧ RdF w b (n - p) (fun j => .int .u8 (f (p + j))) ∧ optsOk f 0 n = optsOk f p n ∧ OwnC wr w.heap.size 96 o 2 k F ∧ Fr [] w wr

theorem optsOk_step (f : Nat → Int) (p n : Nat) : optsOk f p n = if n ≤ p then true else if n < p + 4 then false else if n < p + 4 + (f (p + 2) * 256 + f (p + 3)).toNat then false else optsOk f (p + 4 + (f (p + 2) * 256 + f (p + 3)).toNat) n := by
  rw [optsOk]

theorem RdF.cut {w : World} {b o n c : Nat} {f : Nat → Value} (h : RdF w (.slice (some ⟨b, o, none⟩) n c) n f) (lo hi : Nat) (h1 : lo ≤ hi) (h2 : hi ≤ n) :
    RdF w (.slice (some ⟨b, o + lo, none⟩) (hi - lo) (c - lo)) (hi - lo) (fun j => f (lo + j)) := by
  have h3 := h.part lo hi h1 h2
  simp only [Option.map_some, addr_lit_add] at h3
  exact h3

theorem RdF.none0 {w : World} {a : Addr} {c : Nat} {f : Nat → Value} (hc : c ≤ maxLen) : RdF w (.slice (some a) 0 c) 0 f := .inr ⟨a, c, rfl, Nat.zero_le _, hc, fun j hj => by omega⟩


/-- what is wrong with the bytes of options -/
def optsZ (f : Nat → Int) (n : Nat) : Int := if optsOk f 0 n = true then 0 else 1

theorem optsZ_ok {f : Nat → Int} {n : Nat} (h : optsOk f 0 n = true) : optsZ f n = 0 := by unfold optsZ; rw [if_pos h]
theorem optsZ_bad {f : Nat → Int} {n : Nat} (h : optsOk f 0 n = false) : optsZ f n = 1 := by unfold optsZ; rw [if_neg (by rw [h]; decide)]

set_option maxHeartbeats 4000000 in
set_option maxRecDepth 100000 in
theorem options_any (w : World) (a : Option Addr) (n c : Nat) (f : Nat → Int) (hv : RdF w (.slice a n c) n (fun j => .int .u8 (f j))) (hf : ∀ j, j < n → 0 ≤ f j ∧ f j ≤ 255) (hn : n ≤ 1099511627776) :
    Calls Tryd.prog 45 #[.slice a n c] w fun e w' => (∃ (oa : Option Addr) (on oc : Nat), e = .returned (.tuple #[.slice oa on oc, erVn (optsZ f n)])) ∧ Fr [] w w' := by
  have HV := Lib.hid hv; clear hv
  have HB := Lib.hid hf; clear hf
  go_enter Tryd.func45, Tryd.ntmps45
  go_wp2_with fail
  go_loopw [0, 4] (fun b o wr => OpLp w n f b o wr) (fun b _ _ => lenV b)
  case atStart => exact ⟨0, 0, a, c, fun _ _ => .bool false, Nat.zero_le _, by omega, rfl, by simpa using HV.out, rfl, OwnC.nil _ _ _ _ _, Fr.refl _ _⟩
  case round =>
    obtain ⟨p, k, ab, cb, F, hp, hk, rfl, hrd, hok, ho, hfr⟩ := hrel
    obtain ⟨oa, oc, rfl⟩ := ho.rd.slice
    have HRD := Lib.hid (RdF.fr hrd hfr (by simp)); have HRW := Lib.hid hrd; clear hrd
    have HOK := Lib.hid hok; clear hok
    have HO := Lib.hid ho; clear ho
    have HF := Lib.hid hfr; clear hfr
    have HST := Lib.hid (optsOk_step f p n)
    by_cases h0 : n - p = 0
    · have hz : decide ((0 : Int) < ((n - p : Nat) : Int)) = false := by simp; omega
      go_wp2_with fail
      go_ret2
      have hn0 : n ≤ p := by omega
      have e : optsOk f 0 n = true := by rw [HOK.out, HST.out, if_pos hn0]
      exact ⟨⟨oa, k, oc, by rw [optsZ_ok e]; rfl⟩, HF.out⟩
    · by_cases h4 : n - p < 4
      · have hz : ((n - p : Nat) : Int) < 4 := by omega
        have e : optsOk f 0 n = false := by rw [HOK.out, HST.out, if_neg (by omega), if_pos (by omega)]
        have HE := Lib.hid e
        clear e
        go_wp2_with fail
        go_ret2
        exact ⟨⟨none, 0, 0, by rw [optsZ_bad HE.out]; rfl⟩, HF.out⟩
      · obtain ⟨b1, o1, c1, he1, _, _, _, hc1⟩ := HRD.out.shape (by omega)
        simp only [Value.slice.injEq, true_and] at he1
        obtain ⟨rfl, rfl⟩ := he1
        have q0 : wr.cell? ⟨b1, o1, none⟩ = some (.int .u8 (f p)) := hc1 0 (by omega)
        have q1 : wr.cell? ⟨b1, o1 + 1, none⟩ = some (.int .u8 (f (p + 1))) := hc1 1 (by omega)
        have q2 : wr.cell? ⟨b1, o1 + 2, none⟩ = some (.int .u8 (f (p + 2))) := hc1 2 (by omega)
        have q3 : wr.cell? ⟨b1, o1 + 3, none⟩ = some (.int .u8 (f (p + 3))) := hc1 3 (by omega)
        clear hc1
        have d0 := HB.out p (by omega)
        have d1 := HB.out (p + 1) (by omega)
        have d2 := HB.out (p + 2) (by omega)
        have d3 := HB.out (p + 3) (by omega)
        generalize f p = x0 at *
        generalize f (p + 1) = x1 at *
        generalize f (p + 2) = x2 at *
        generalize f (p + 3) = x3 at *
        have l0 : (0 : Int) < ((n - p : Nat) : Int) := by omega
        have l1 : (1 : Int) < ((n - p : Nat) : Int) := by omega
        have l2 : (2 : Int) < ((n - p : Nat) : Int) := by omega
        have l3 : (3 : Int) < ((n - p : Nat) : Int) := by omega
        have l4 : ¬ ((n - p : Nat) : Int) < 4 := by omega
        obtain ⟨E, hE⟩ : ∃ E : Nat, (E : Int) = x2 * 256 + x3 := ⟨(x2 * 256 + x3).toNat, by omega⟩
        have hE2 : (x2 * 256 + x3).toNat = E := by omega
        rw [hE2] at HST
        have HE := Lib.hid hE; clear hE hE2
        have e1 := or_two d0.1 d0.2 d1.1 d1.2
        have e2 := or_two d2.1 d2.2 d3.1 d3.2
        go_upto_region 5 with fail
        go_cut [5, 6] (fun s t wy => (∃ x, s = .int .i64 x) ∧ t = .int .i64 (E : Int) ∧ ∃ q, wy = wr.drewN q)
        case first =>
          go_quiet (fail)
          go_wp2_with fail
          go_meet
          exact ⟨⟨_, rfl⟩, by rw [HE.out], nq, rfl⟩
        case rest =>
          obtain ⟨⟨x, rfl⟩, rfl, q, rfl⟩ := hcut
          clear e1 e2 q0 q1 q2 q3
          have l5 : ((4 : Int)) ≤ ((n - p : Nat) : Int) := by omega
          have hcb : n - p ≤ cb := HRD.out.le_cap.1
          have l6 : ((n - p : Nat) : Int) ≤ (cb : Int) := by omega
          go_upto_region 6 with fail
          go_cut [0] (fun v wy => ∃ (a2 : Option Addr) (c2 : Nat), v = .slice a2 (n - p - 4) c2 ∧ RdF w v (n - p - 4) (fun j => .int .u8 (f (p + 4 + j))) ∧ wy = wr.drewN q)
          case first =>
            by_cases hc4 : cb = 4
            · have hn4 : n - p - 4 = 0 := by omega
              go_wp2_with fail
              go_meet
              exact ⟨_, _, by rw [hn4], by rw [hn4]; exact RdF.none0 (by decide), rfl⟩
            · go_wp2_with fail
              go_meet
              exact ⟨_, _, rfl, by have h9 := HRW.out.cut 4 (n - p) (by omega) (Nat.le_refl _); simp only [← Nat.add_assoc] at h9; exact h9, rfl⟩
          case rest =>
            obtain ⟨a2, c2, rfl, hrd2, rfl⟩ := hcut
            have HR2 := Lib.hid hrd2; clear hrd2
            have hc2 : n - p - 4 ≤ c2 := HR2.out.le_cap.1
            by_cases hE : n - p - 4 < E
            · have e : optsOk f 0 n = false := by rw [HOK.out, HST.out, if_neg (by omega), if_neg (by omega), if_pos (by omega)]
              have HE := Lib.hid e
              clear e
              go_wp2_with fail
              go_ret2
              exact ⟨⟨none, 0, 0, by rw [optsZ_bad HE.out]; rfl⟩, HF.out.drewN q⟩
            · have e : optsOk f 0 n = optsOk f (p + 4 + E) n := by rw [HOK.out, HST.out, if_neg (by omega), if_neg (by omega), if_neg (by omega)]
              have HOK2 := Lib.hid e
              clear e HOK HST
              have HCL := Lib.hid (clone_bytes (wr.drewN q) (.slice a2 E c2) E (fun j => f (p + 4 + j)) (by
                have h9 := HR2.out.fr (HF.out.drewN q) (by simp)
                rcases h9 with ⟨h9, h8⟩ | ⟨a9, c9, h9, h8, h7, h6⟩
                · simp only [Value.slice.injEq] at h9
                  obtain ⟨rfl, _, rfl⟩ := h9
                  obtain rfl : E = 0 := by omega
                  exact .inl ⟨rfl, rfl⟩
                · simp only [Value.slice.injEq, true_and] at h9
                  obtain ⟨rfl, rfl⟩ := h9
                  exact .inr ⟨a9, c2, rfl, by omega, h7, fun j hj => h6 j (by omega)⟩) (by omega))
              have l7 : (E : Int) ≤ (c2 : Int) := by omega
              have l8 : (E : Int) ≤ ((n - p - 4 : Nat) : Int) := by omega
              go_wp2_with fail
              refine HCL.out.mono ?_
              rintro e w3 ⟨v3, rfl, ho3, hf3⟩
              obtain ⟨a3, c3, rfl⟩ := ho3.rd.slice
              have HF3 := Lib.hid (show Fr [] w w3 from (HF.out.drewN q).trans hf3 (by simp))
              have HO3 := Lib.hid (show OwnC w3 w.heap.size 96 (.slice oa k oc) 2 k F from HO.out.kept (show Fr [] wr w3 from ((Fr.refl [] wr).drewN q).trans hf3 (by simp)) (fun _ _ => by simp))
              clear hf3 ho3 HCL
              have HS3 := Lib.hid (show w.heap.size ≤ w3.heap.size from HF3.out.size)
              go_wp2_with (at_builtin; refine wpList_appC rfl (.tmp 41) (.tmp 48) 66 rfl 96 infoOpt Tryd.underlying66 rfl (by decide) (f2_one x a3 E c3) (HO3.out.kept ((Fr.refl [] _).alloc _) (fun _ _ => by simp)) rfl (rdc_two _ _ _ _ rfl) rfl (by unfold maxLen; omega) (by omega) (HF3.out.alloc _).size ?_; intro v7 w7 ho7 hf7 _)
              have HO7 := Lib.hid ho7
              have HF7 := Lib.hid (HF3.out.app _ hf7 (fun x hx => HO3.out.ge x hx))
              clear ho7 hf7
              refine ⟨⟨p + 4 + E, k + 1, _, _, _, by omega, by omega, by rw [show n - (p + 4 + E) = n - p - 4 - E by omega], ?_, HOK2.out, HO7.out, HF7.out⟩, by simp [lenV]; omega⟩
              rw [show n - (p + 4 + E) = n - p - 4 - E by omega]
              have h9 := HR2.out
              rcases h9 with ⟨h9, h8⟩ | ⟨a9, c9, h9, h8, h7, h6⟩
              · simp only [Value.slice.injEq] at h9
                obtain ⟨rfl, _, rfl⟩ := h9
                obtain rfl : E = 0 := by omega
                rw [if_pos rfl, h8]
                exact .inl ⟨rfl, rfl⟩
              · simp only [Value.slice.injEq, true_and] at h9
                obtain ⟨rfl, rfl⟩ := h9
                by_cases hcE : c2 = E
                · rw [if_pos hcE, show n - p - 4 - E = 0 by omega]
                  exact RdF.none0 (by omega)
                · rw [if_neg hcE]
                  exact .inr ⟨a9.add E, c2 - E, rfl, by omega, by omega, fun j hj => by
                    rw [addr_add_add, h6 (E + j) (by omega)]
                    show some (Value.int .u8 (f (p + 4 + (E + j)))) = some (Value.int .u8 (f (p + 4 + E + j)))
                    rw [Nat.add_assoc (p + 4) E j]⟩

end Go.Proofs.YtkdmkpdooiacaaaDoor

namespace Go.Proofs.YtkdmkpdooiacaaaDoor
open Go.RowKit

theorem infoRec : (Tryd.prog.info? 60).map (fun i => (i.zero, i.size, i.bytes)) = some (some (.agg #[.slice none 0 0, .int .i64 0, .int .i64 0, .int .i64 0, .slice none 0 0]), 5, 72) := by kernel_rfl

theorem blk_set5a {w : World} {p : Nat} {x0 x1 x2 x3 x4 : Value} {T : TypeId} (h : w.heap[p]? = some (.cells #[x0, x1, x2, x3, x4] T (0, 0))) (u v : Value) :
    ((w.setCell ⟨p, 0, none⟩ u).setCell ⟨p, 4, none⟩ v).heap[p]? = some (.cells #[u, x1, x2, x3, v] T (0, 0)) := by
  simp only [World.setCell]
  rw [Array.getElem?_modify, if_pos rfl, Array.getElem?_modify, if_pos rfl, h]
  rfl

theorem blk_set5b {w : World} {p : Nat} {x0 x1 x2 x3 x4 : Value} {T : TypeId} (h : w.heap[p]? = some (.cells #[x0, x1, x2, x3, x4] T (0, 0))) (u v : Value) :
    ((w.setCell ⟨p, 4, none⟩ v).setCell ⟨p, 0, none⟩ u).heap[p]? = some (.cells #[u, x1, x2, x3, v] T (0, 0)) := by
  simp only [World.setCell]
  rw [Array.getElem?_modify, if_pos rfl, Array.getElem?_modify, if_pos rfl, h]
  rfl

theorem blk_set5c {w : World} {p : Nat} {x0 x1 x2 x3 x4 : Value} {T : TypeId} (h : w.heap[p]? = some (.cells #[x0, x1, x2, x3, x4] T (0, 0))) (u : Value) :
    (w.setCell ⟨p, 3, none⟩ u).heap[p]? = some (.cells #[x0, x1, x2, u, x4] T (0, 0)) := by
  simp only [World.setCell]
  rw [Array.getElem?_modify, if_pos rfl, h]
  rfl

/-- five cells hold a record whose rows are the call's own -/
def RsOwn (w : World) (B : Nat) (F : Nat → Value) (r : Rs) : Prop :=
  ∃ vn vd, F 0 = vn ∧ F 1 = .int .i64 r.ty ∧ F 2 = .int .i64 r.cl ∧ F 3 = .int .i64 r.tt ∧ F 4 = vd ∧ OwnF w B 9 vn r.nl (fun j => .string (r.nm j)) ∧ OwnF w B 5 vd r.dl (fun j => .int .u8 (r.dt j))

theorem OwnF.apartC {w : World} {B B' : Nat} {E E' : TypeId} {v v' : Value} {n n' s : Nat} {f : Nat → Value} {F : Nat → Nat → Value} (h : OwnF w B E v n f) (h' : OwnC w B' E' v' s n' F) (hE : E ≠ E') : ∀ g, v.ownBlock = some g → g ∉ v'.ownBlock.toList := fun g hg hm => by
  rcases h with ⟨rfl, _⟩ | ⟨g1, cap, rfl, _, cur, h1, _⟩
  · simp [Value.ownBlock] at hg
  · simp only [Value.ownBlock, Option.some.injEq] at hg
    subst hg
    exact h'.apart h1 (Ne.symm hE) hm

theorem RsOwn.kept {w w' : World} {B B' : Nat} {F : Nat → Value} {r : Rs} {v : Value} {s n : Nat} {G : Nat → Nat → Value} (h : RsOwn w B F r) (hf : Fr v.ownBlock.toList w w') (ho : OwnC w B' 60 v s n G) : RsOwn w' B F r := by
  obtain ⟨vn, vd, e0, e1, e2, e3, e4, h1, h2⟩ := h
  exact ⟨vn, vd, e0, e1, e2, e3, e4, h1.kept hf (h1.apartC ho (by decide)), h2.kept hf (h2.apartC ho (by decide))⟩

theorem RsOwn.fr0 {w w' : World} {B : Nat} {F : Nat → Value} {r : Rs} (h : RsOwn w B F r) (hf : Fr [] w w') : RsOwn w' B F r := by
  obtain ⟨vn, vd, e0, e1, e2, e3, e4, h1, h2⟩ := h
  exact ⟨vn, vd, e0, e1, e2, e3, e4, h1.kept hf (fun _ _ => by simp), h2.kept hf (fun _ _ => by simp)⟩

theorem RsOwn.at_ {w : World} {B0 : Nat} {B : HB} {F : Nat → Value} {r : Rs} (h : RsOwn w B0 F r) (hS : ∀ x ∈ B.s, x < B0) : RsAt B w F r := by
  obtain ⟨vn, vd, e0, e1, e2, e3, e4, h1, h2⟩ := h
  obtain ⟨na, nc, rfl⟩ := h1.rd.slice
  obtain ⟨da, dc, rfl⟩ := h2.rd.slice
  refine ⟨na, nc, da, dc, fun c hc => ?_, ⟨h1.rd, h2.rd, h1.cold (by decide) B hS, h2.cold (by decide) B hS⟩⟩
  match c, hc with
  | 0, _ => exact e0
  | 1, _ => exact e1
  | 2, _ => exact e2
  | 3, _ => exact e3
  | 4, _ => exact e4

theorem RsOwn.one {w : World} {B0 : Nat} {F : Nat → Value} {r : Rs} (h : RsOwn w B0 F r) (c : Nat) (hc : c < 5) : (F c).oneCell' = true := by
  obtain ⟨na, nc, da, dc, h1, _⟩ := h.at_ (B := ⟨0, []⟩) (by simp)
  exact Rs.one h1 c hc

theorem own_fin {w w' : World} {B q : Nat} {E : TypeId} {v : Value} {n : Nat} {f : Nat → Value} (h : OwnF w B E v n f) (hB : q < B) (hf : Fr [q] w w') : OwnF w' B E v n f :=
  h.kept hf (fun g hg => by have := h.ge g (by simp [hg]); simp; omega)

theorem set_fr (w : World) (p : Nat) (u v : Value) : Fr [p] w ((w.setCell ⟨p, 0, none⟩ u).setCell ⟨p, 4, none⟩ v) :=
  ((Fr.refl [p] w).setCell (.inl (by simp)) _).setCell (.inl (by simp)) _

theorem RsOwn.keptB {w w' : World} {B b : Nat} {F : Nat → Value} {r : Rs} (h : RsOwn w B F r) (hf : Fr [b] w w') (hb : w.heap.size ≤ b) : RsOwn w' B F r := by
  obtain ⟨vn, vd, e0, e1, e2, e3, e4, h1, h2⟩ := h
  exact ⟨vn, vd, e0, e1, e2, e3, e4, h1.kept hf (fun g hg => by have := h1.lt g (by simp [hg]); simp; omega), h2.kept hf (fun g hg => by have := h2.lt g (by simp [hg]); simp; omega)⟩

theorem OwnF.ne_blk {w : World} {B b : Nat} {E T : TypeId} {v : Value} {n : Nat} {f : Nat → Value} {cs : Array Value} (h : OwnF w B E v n f) (hb : w.heap[b]? = some (.cells cs T (0, 0))) (hE : E ≠ T) : ∀ g, v.ownBlock = some g → g ∉ [b] := fun g hg hm => by
  simp only [List.mem_singleton] at hm
  subst hm
  rcases h with ⟨rfl, _⟩ | ⟨g1, cap, rfl, _, cur, h1, _⟩
  · simp [Value.ownBlock] at hg
  · simp only [Value.ownBlock, Option.some.injEq] at hg
    subst hg
    rw [hb] at h1
    simp only [Option.some.injEq, Obj.cells.injEq] at h1
    exact hE h1.2.1.symm

/-- five values as a function -/
def f5 (x0 x1 x2 x3 x4 : Value) : Nat → Value
  | 0 => x0
  | 1 => x1
  | 2 => x2
  | 3 => x3
  | _ => x4

theorem f5_one (a1 a2 : Option Addr) (n1 c1 n2 c2 : Nat) (x y z : Int) : ∀ j, j < 1 * 5 → (fls 5 (fun _ => f5 (.slice a1 n1 c1) (.int .i64 x) (.int .i64 y) (.int .i64 z) (.slice a2 n2 c2)) j).oneCell' = true := fun j hj =>
  match j, hj with
  | 0, _ => rfl
  | 1, _ => rfl
  | 2, _ => rfl
  | 3, _ => rfl
  | 4, _ => rfl

theorem set_size (w : World) (p : Addr) (u : Value) : (w.setCell p u).heap.size = w.heap.size := by simp [World.setCell]

theorem rdc_five (w : World) (E : TypeId) (x0 x1 x2 x3 x4 : Value) {b : Nat} (hb : w.heap.size = b) (hm : True) :
    RdC (w.alloc (.cells #[x0, x1, x2, x3, x4] E)) (.slice (some ⟨b, 0, none⟩) 1 1) 5 1 (fun _ => f5 x0 x1 x2 x3 x4) := by
  subst hb
  have hn := heap_alloc_new w (.cells #[x0, x1, x2, x3, x4] E)
  refine .inr ⟨_, 1, rfl, Nat.le_refl _, by decide, fun j hj => ?_⟩
  rw [addr_lit_add, Nat.zero_add]
  match j, hj with
  | 0, _ => exact blk_cell hn 0 rfl
  | 1, _ => exact blk_cell hn 1 rfl
  | 2, _ => exact blk_cell hn 2 rfl
  | 3, _ => exact blk_cell hn 3 rfl
  | 4, _ => exact blk_cell hn 4 rfl

theorem infoQue : (Tryd.prog.info? 58).map (fun i => (i.zero, i.size, i.bytes)) = some (some (.agg #[.slice none 0 0, .int .i64 0, .int .i64 0]), 3, 40) := by kernel_rfl

theorem rowc_new {w : World} {E : TypeId} {s : Nat} {F : Nat → Nat → Value} : OwnC (w.alloc (.cells #[] E)) w.heap.size E (.slice (some ⟨w.heap.size, 0, none⟩) 0 0) s 0 F :=
  .inr ⟨w.heap.size, 0, rfl, Nat.le_refl _, #[], heap_alloc_new w _, by simp, Nat.le_refl _, by decide, fun j hj => by omega⟩

theorem RowC.stored {w : World} {g : Nat} {E : TypeId} {s n cap : Nat} {F : Nat → Nat → Value} (h : RowC w g E s n cap F) (i c : Nat) (hi : i < n) (hc : c < s) (u : Value) :
    RowC (w.setCell ⟨g, i * s + c, none⟩ u) g E s n cap (fun i' c' => if i' = i ∧ c' = c then u else F i' c') := by
  obtain ⟨cur, h1, h2, h3, h4, h5⟩ := h
  refine ⟨cur.setIfInBounds (i * s + c) u, ?_, by simpa using h2, h3, h4, fun j hj => ?_⟩
  · simp only [World.setCell]
    rw [Array.getElem?_modify, if_pos rfl, h1]
    rfl
  · have hjc : j < cur.size := by rw [h2]; exact Nat.lt_of_lt_of_le hj (Nat.mul_le_mul_right _ h3)
    have h6 := h5 j hj
    have hs : 0 < s := by omega
    unfold fls
    by_cases hjk : j = i * s + c
    · subst hjk
      have e1 : (i * s + c) / s = i := by rw [Nat.mul_comm, Nat.mul_add_div hs, Nat.div_eq_of_lt hc, Nat.add_zero]
      have e2 : (i * s + c) % s = c := by rw [Nat.mul_comm, Nat.mul_add_mod, Nat.mod_eq_of_lt hc]
      dsimp only
      rw [if_pos ⟨e1, e2⟩]
      simp [hjc]
    · dsimp only
      rw [if_neg (fun ⟨e1, e2⟩ => hjk (by rw [← e1, ← e2, Nat.mul_comm]; exact (Nat.div_add_mod j s).symm)), Array.getElem?_setIfInBounds_ne (by omega), h6]
      rfl

/-- three cells hold a question whose names are the call's own -/
def QsOwn (w : World) (B : Nat) (F : Nat → Value) (r : Qs) : Prop :=
  ∃ vn, F 0 = vn ∧ F 1 = .int .i64 r.ty ∧ F 2 = .int .i64 r.cl ∧ OwnF w B 9 vn r.nl (fun j => .string (r.nm j))

theorem QsOwn.at_ {w : World} {B0 : Nat} {B : HB} {F : Nat → Value} {r : Qs} (h : QsOwn w B0 F r) (hS : ∀ x ∈ B.s, x < B0) : QsAt B w F r := by
  obtain ⟨vn, e0, e1, e2, h1⟩ := h
  obtain ⟨na, nc, rfl⟩ := h1.rd.slice
  refine ⟨na, nc, fun c hc => ?_, h1.rd, h1.cold (by decide) B hS⟩
  match c, hc with
  | 0, _ => exact e0
  | 1, _ => exact e1
  | 2, _ => exact e2

theorem blk_setk {w : World} {p : Nat} {cs : Array Value} {T : TypeId} (h : w.heap[p]? = some (.cells cs T (0, 0))) (k : Nat) (u : Value) : (w.setCell ⟨p, k, none⟩ u).heap[p]? = some (.cells (cs.setIfInBounds k u) T (0, 0)) := by
  simp only [World.setCell]
  rw [Array.getElem?_modify, if_pos rfl, h]
  rfl

theorem blk_set_ne {w : World} {p b : Nat} {k : Nat} {o : Obj} (h : w.heap[b]? = some o) (hb : b ≠ p) (u : Value) : (w.setCell ⟨p, k, none⟩ u).heap[b]? = some o := by
  simp only [World.setCell]
  rw [Array.getElem?_modify, if_neg (fun e => hb e.symm)]
  exact h

theorem OwnC.stored {w : World} {B : Nat} {E : TypeId} {v : Value} {s n : Nat} {F : Nat → Nat → Value} (h : OwnC w B E v s n F) (i c : Nat) (hi : i < n) (hc : c < s) (u : Value) {g : Nat} (hg : v.ownBlock = some g) :
    OwnC (w.setCell ⟨g, i * s + c, none⟩ u) B E v s n (fun i' c' => if i' = i ∧ c' = c then u else F i' c') := by
  rcases h with ⟨rfl, rfl⟩ | ⟨g1, cap, rfl, hb, hr⟩
  · omega
  · simp only [Value.ownBlock, Option.some.injEq] at hg
    subst hg
    exact .inr ⟨g1, cap, rfl, hb, hr.stored i c hi hc u⟩

theorem QsOwn.kept {w w' : World} {B : Nat} {F : Nat → Value} {r : Qs} {S : List Nat} (h : QsOwn w B F r) (hf : Fr S w w') (hS : ∀ b, b ∈ S → ∃ cs T, w.heap[b]? = some (.cells cs T (0, 0)) ∧ 9 ≠ T) : QsOwn w' B F r := by
  obtain ⟨vn, e0, e1, e2, h1⟩ := h
  refine ⟨vn, e0, e1, e2, h1.kept hf (fun g hg hm => ?_)⟩
  obtain ⟨cs, T, hb, hT⟩ := hS g hm
  exact h1.ne_blk hb hT g hg (by simp)

/-- records of the call's own -/
structure SecOwn (w : World) (B : Nat) (v : Value) (n : Nat) (R : Nat → Rs) (G : Nat → Nat → Value) : Prop where
  ho : OwnC w B 60 v 5 n G
  hown : ∀ i, i < n → RsOwn w B (G i) (R i)

theorem SecOwn.fr0 {w w' : World} {B : Nat} {v : Value} {n : Nat} {R : Nat → Rs} {G : Nat → Nat → Value} (h : SecOwn w B v n R G) (hf : Fr [] w w') : SecOwn w' B v n R G :=
  ⟨h.ho.kept hf (fun _ _ => by simp), fun i hi => (h.hown i hi).fr0 hf⟩

theorem OwnF.ge' {w : World} {B B' : Nat} {E : TypeId} {v : Value} {n : Nat} {f : Nat → Value} (h : OwnF w B E v n f) (hb : B' ≤ B) : OwnF w B' E v n f := h.mono hb

theorem RsOwn.mono {w : World} {B B' : Nat} {F : Nat → Value} {r : Rs} (h : RsOwn w B F r) (hb : B' ≤ B) : RsOwn w B' F r := by
  obtain ⟨vn, vd, e0, e1, e2, e3, e4, h1, h2⟩ := h
  exact ⟨vn, vd, e0, e1, e2, e3, e4, h1.mono hb, h2.mono hb⟩

theorem SecOwn.mono {w : World} {B B' : Nat} {v : Value} {n : Nat} {R : Nat → Rs} {G : Nat → Nat → Value} (h : SecOwn w B v n R G) (hb : B' ≤ B) : SecOwn w B' v n R G :=
  ⟨h.ho.mono hb, fun i hi => (h.hown i hi).mono hb⟩

theorem OwnC.ne_blk {w : World} {B b : Nat} {E T : TypeId} {v : Value} {s n : Nat} {F : Nat → Nat → Value} {cs : Array Value} (h : OwnC w B E v s n F) (hb : w.heap[b]? = some (.cells cs T (0, 0))) (hE : E ≠ T) : ∀ g, v.ownBlock = some g → g ∉ [b] := fun g hg hm => by
  simp only [List.mem_singleton] at hm
  subst hm
  exact h.apart hb hE (by simp [hg])

/-- kept where one block of another type is written -/
theorem SecOwn.keptM {w w' : World} {B b : Nat} {v : Value} {n : Nat} {R : Nat → Rs} {G : Nat → Nat → Value} {cs : Array Value} (h : SecOwn w B v n R G) (hf : Fr [b] w w') (hb : w.heap[b]? = some (.cells cs 43 (0, 0))) : SecOwn w' B v n R G := by
  refine ⟨h.ho.kept hf (h.ho.ne_blk hb (by decide)), fun i hi => ?_⟩
  obtain ⟨vn, vd, e0, e1, e2, e3, e4, h1, h2⟩ := h.hown i hi
  exact ⟨vn, vd, e0, e1, e2, e3, e4, h1.kept hf (h1.ne_blk hb (by decide)), h2.kept hf (h2.ne_blk hb (by decide))⟩

theorem SecOwn.sec {w : World} {B0 : Nat} {B : HB} {v : Value} {n : Nat} {R : Nat → Rs} {G : Nat → Nat → Value} (h : SecOwn w B0 v n R G) (hwf : ∀ i, i < n → (R i).Wf) (hn : n * 72 ≤ 140737488355328) (hS : ∀ x ∈ B.s, x < B0) : Sec B w v n R G :=
  ⟨h.ho.rd, h.ho.cold (by decide) B hS, fun i hi => (h.hown i hi).at_ hS, hwf, hn⟩

/-- questions of the call's own -/
structure QSecOwn (w : World) (B : Nat) (v : Value) (n : Nat) (R : Nat → Qs) (G : Nat → Nat → Value) : Prop where
  ho : OwnC w B 58 v 3 n G
  hown : ∀ i, i < n → QsOwn w B (G i) (R i)

theorem QSecOwn.fr0 {w w' : World} {B : Nat} {v : Value} {n : Nat} {R : Nat → Qs} {G : Nat → Nat → Value} (h : QSecOwn w B v n R G) (hf : Fr [] w w') : QSecOwn w' B v n R G :=
  ⟨h.ho.kept hf (fun _ _ => by simp), fun i hi => (h.hown i hi).kept hf (by simp)⟩

theorem QSecOwn.keptM {w w' : World} {B b : Nat} {v : Value} {n : Nat} {R : Nat → Qs} {G : Nat → Nat → Value} {cs : Array Value} (h : QSecOwn w B v n R G) (hf : Fr [b] w w') (hb : w.heap[b]? = some (.cells cs 43 (0, 0))) : QSecOwn w' B v n R G :=
  ⟨h.ho.kept hf (h.ho.ne_blk hb (by decide)), fun i hi => (h.hown i hi).kept hf (fun b' hb' => by
    simp only [List.mem_singleton] at hb'
    subst hb'
    exact ⟨_, _, hb, by decide⟩)⟩

theorem QSecOwn.sec {w : World} {B0 : Nat} {B : HB} {v : Value} {n : Nat} {R : Nat → Qs} {G : Nat → Nat → Value} (h : QSecOwn w B0 v n R G) (hwf : ∀ i, i < n → (R i).Wf) (hn : n * 40 ≤ 140737488355328) (hS : ∀ x ∈ B.s, x < B0) : QSec B w v n R G :=
  ⟨h.ho.rd, h.ho.cold (by decide) B hS, fun i hi => (h.hown i hi).at_ hS, hwf, hn⟩

theorem setCells_blk {p : Nat} {T : TypeId} : ∀ (vs : List Value) (o : Nat) (w : World) (cs : Array Value), w.heap[p]? = some (.cells cs T (0, 0)) → o + vs.length ≤ cs.size →
    ∃ cs', (w.setCells p o vs).heap[p]? = some (.cells cs' T (0, 0)) ∧ cs'.size = cs.size ∧ (∀ j, j < o → cs'[j]? = cs[j]?) ∧ (∀ j, j < vs.length → cs'[o + j]? = vs[j]?)
  | [], o, w, cs, h, _ => ⟨cs, h, rfl, fun _ _ => rfl, fun j hj => by simp at hj⟩
  | v :: r, o, w, cs, h, hl => by
    simp only [List.length_cons] at hl
    obtain ⟨cs', h1, h2, h3, h4⟩ := setCells_blk r (o + 1) (w.setCell ⟨p, o, none⟩ v) (cs.setIfInBounds o v) (blk_setk h o v) (by simp; omega)
    refine ⟨cs', h1, by rw [h2]; simp, fun j hj => ?_, fun j hj => ?_⟩
    · rw [h3 j (by omega), Array.getElem?_setIfInBounds_ne (by omega)]
    · rcases j with _ | j
      · rw [Nat.add_zero, h3 o (by omega)]
        simp [show o < cs.size by omega]
      · simp only [List.length_cons] at hj
        rw [show o + (j + 1) = o + 1 + j by omega, h4 j (by omega)]
        simp

theorem setCells_all {p : Nat} {T : TypeId} {w : World} {cs : Array Value} (vs : List Value) (h : w.heap[p]? = some (.cells cs T (0, 0))) (hl : vs.length = cs.size) : (w.setCells p 0 vs).heap[p]? = some (.cells vs.toArray T (0, 0)) := by
  obtain ⟨cs', h1, h2, _, h4⟩ := setCells_blk vs 0 w cs h (by omega)
  rw [h1]
  have e : cs' = vs.toArray := by
    apply Array.ext_getElem?
    intro j
    by_cases hj : j < vs.length
    · have := h4 j hj
      rw [Nat.zero_add] at this
      rw [this]
      simp
    · rw [Array.getElem?_eq_none (by omega), Array.getElem?_eq_none (by simp; omega)]
  rw [e]

theorem setCells_fr {p : Nat} : ∀ (vs : List Value) (o : Nat) (w : World), Fr [p] w (w.setCells p o vs)
  | [], _, w => Fr.refl _ w
  | v :: r, o, w => ((Fr.refl [p] w).setCell (p := ⟨p, o, none⟩) (.inl (by simp)) v).trans (setCells_fr r (o + 1) _) (fun x hx => .inl hx)

/-- fifteen cells -/
def msgCs (h : Hd) (q a u m : Value) : Array Value := #[.int .i64 h.id, .bool h.an, .int .i64 h.op, .bool h.aa, .bool h.tc, .bool h.rd, .bool h.ra, .bool h.z, .bool h.ad, .bool h.cd, .int .i64 h.code, q, a, u, m]

end Go.Proofs.YtkdmkpdooiacaaaDoor

namespace Go.Proofs.YtkdmkpdooiacaaaDoor
open Go.RowKit

/-- a record so much older -/
def agR (age : Int) (more : Bool) (r : Rs) : Rs := if more = true ∧ r.ty = 41 then r else { r with tt := wrap64 (r.tt - age) }

end Go.Proofs.YtkdmkpdooiacaaaDoor

namespace Go.Proofs.YtkdmkpdooiacaaaDoor
open Go.RowKit

set_option maxHeartbeats 2000000 in
set_option maxRecDepth 100000 in
theorem grow_any (w : World) (n : Nat) (F : Nat → Nat → Value) (hn : n * 72 ≤ 140737488355328) :
    Calls Tryd.prog 68 #[.slice none 0 0, .int .i64 n] w fun e w' => ∃ v', e = .returned v' ∧ OwnC w' w.heap.size 60 v' 5 0 F ∧ Fr [] w w' := by
  by_cases h0 : n = 0
  · subst h0
    have hw : IntKind.i64.wrap 0 = 0 := by rw [IntKind.wrap_i64]; omega
    go_enter Tryd.func68, Tryd.ntmps68
    go_wp2
    go_ret
    exact ⟨_, rfl, .inl ⟨rfl, rfl⟩, Fr.refl _ _⟩
  · obtain ⟨i, hi, hz0, hz1, hz2⟩ := info_parts infoRec
    have hr := Lib.run_append_nil_zeros (P := Tryd.prog) w 41 3 41 60 i _ .i64 .i64 Tryd.underlying41 Tryd.underlying3 hi hz0 n (by omega) (by omega) (by omega) (by rw [hz2]; omega)
    have hge := grownCap_ge w n 0 60
    have hcm := grownCap_le_maxLen w n 0 60 (by unfold maxLen; omega)
    have HO := Lib.hid (show OwnC (w.drew.alloc (.cells (Builtin.zeroCells (Value.agg #[.slice none 0 0, .int .i64 0, .int .i64 0, .int .i64 0, .slice none 0 0]).cells n ++ Builtin.zeroCells (Value.agg #[.slice none 0 0, .int .i64 0, .int .i64 0, .int .i64 0, .slice none 0 0]).cells (grownCap w n 0 60 - n)) 60)) w.heap.size 60 (.slice (some ⟨w.heap.size, 0, none⟩) 0 (grownCap w n 0 60)) 5 0 F from
      .inr ⟨w.heap.size, _, rfl, Nat.le_refl _, _, heap_alloc_new w.drew _, by
        simp only [Array.size_append, size_zeroCells]
        have : (Value.agg #[.slice none 0 0, .int .i64 0, .int .i64 0, .int .i64 0, .slice none 0 0]).cells.size = 5 := rfl
        rw [this]
        omega, by omega, hcm, fun j hj => by omega⟩)
    have HR := Lib.hid hr
    have HF := Lib.hid (show Fr [] w (w.drew.alloc (.cells (Builtin.zeroCells (Value.agg #[.slice none 0 0, .int .i64 0, .int .i64 0, .int .i64 0, .slice none 0 0]).cells n ++ Builtin.zeroCells (Value.agg #[.slice none 0 0, .int .i64 0, .int .i64 0, .int .i64 0, .slice none 0 0]).cells (grownCap w n 0 60 - n)) 60)) from ((Fr.refl [] w).drew).alloc _)
    clear hr hi hz0 hz1 hz2
    generalize (w.drew.alloc (.cells (Builtin.zeroCells (Value.agg #[.slice none 0 0, .int .i64 0, .int .i64 0, .int .i64 0, .slice none 0 0]).cells n ++ Builtin.zeroCells (Value.agg #[.slice none 0 0, .int .i64 0, .int .i64 0, .int .i64 0, .slice none 0 0]).cells (grownCap w n 0 60 - n)) 60)) = w1 at *
    generalize grownCap w n 0 60 = cap at *
    have hp : (0 : Int) < (n : Int) := by omega
    go_enter Tryd.func68, Tryd.ntmps68
    go_wp2_with (at_builtin; refine Lib.wpList_append_run _ rfl _ _ 41 3 rfl _ _ rfl rfl _ _ HR.out ?_)
    go_ret
    exact ⟨_, rfl, HO.out, HF.out⟩

set_option maxHeartbeats 4000000 in
set_option maxRecDepth 100000 in
theorem concat_any (w : World) (b : Nat) (E : TypeId) (a1 a2 : Option Addr) (n1 n2 c1 c2 : Nat) (F1 F2 : Nat → Nat → Value) (hb : w.heap[b]? = some (.cells #[.slice a1 n1 c1, .slice a2 n2 c2] E (0, 0)))
    (r1 : RdC w (.slice a1 n1 c1) 5 n1 F1) (r2 : RdC w (.slice a2 n2 c2) 5 n2 F2) (o1 : ∀ i c, i < n1 → c < 5 → (F1 i c).oneCell' = true) (o2 : ∀ i c, i < n2 → c < 5 → (F2 i c).oneCell' = true) (hn : (n1 + n2) * 72 ≤ 140737488355328) :
    Calls Tryd.prog 49 #[.slice (some ⟨b, 0, none⟩) 2 2] w fun e w' => ∃ v', e = .returned v' ∧ OwnC w' w.heap.size 60 v' 5 (n1 + n2) (appC n1 F1 F2) ∧ Fr [] w w' := by
  have HB := Lib.hid hb
  have HR1 := Lib.hid r1
  have HR2 := Lib.hid r2
  have HO1 := Lib.hid (show ∀ j, j < n1 * 5 → (fls 5 F1 j).oneCell' = true from fun j hj => o1 _ _ (div_lt' hj) (Nat.mod_lt _ (by decide)))
  have HO2 := Lib.hid (show ∀ j, j < n2 * 5 → (fls 5 F2 j).oneCell' = true from fun j hj => o2 _ _ (div_lt' hj) (Nat.mod_lt _ (by decide)))
  have HCEL := Lib.hid (fun (wx : World) (h : Fr [] w wx) => show wx.cell? ⟨b, 0, none⟩ = some (.slice a1 n1 c1) ∧ wx.cell? ⟨b, 1, none⟩ = some (.slice a2 n2 c2) from ⟨blk_cell (h.blk HB.out (by simp)) 0 rfl, blk_cell (h.blk HB.out (by simp)) 1 rfl⟩)
  have HG := Lib.hid (grow_any w (n1 + n2) (appC n1 F1 F2) hn)
  obtain ⟨x0, x1⟩ := HCEL.out w (Fr.refl _ _)
  clear hb r1 r2 o1 o2
  go_enter Tryd.func49, Tryd.ntmps49
  go_wp2_with fail
  go_loopw [3, 11] (fun vs vi wr => wr = w ∧ ((vi = .int .i64 0 ∧ vs = .int .i64 0) ∨ (vi = .int .i64 1 ∧ vs = .int .i64 n1) ∨ (vi = .int .i64 2 ∧ vs = .int .i64 ((n1 + n2 : Nat) : Int)))) (fun _ vi _ => 2 - (intOf vi).toNat)
  case atStart => exact ⟨rfl, .inl ⟨rfl, rfl⟩⟩
  case round =>
    obtain ⟨hw, hh⟩ := hrel
    rw [hw]
    clear hw wr
    rcases hh with ⟨rfl, rfl⟩ | ⟨rfl, rfl⟩ | ⟨rfl, rfl⟩
    · go_wp2
      go_roundw
      case rel => exact ⟨by trivial, .inr (.inl ⟨rfl, by go_num⟩)⟩
      case measure => simp [intOf]
    · go_wp2
      go_roundw
      case rel => exact ⟨by trivial, .inr (.inr ⟨rfl, by go_num⟩)⟩
      case measure => simp [intOf]
    · go_wp2_with fail
      refine HG.out.mono ?_
      rintro e w1 ⟨v1, rfl, ho1, hf1⟩
      have HO := Lib.hid ho1
      have HF := Lib.hid hf1
      clear ho1 hf1 x0 x1
      go_wp2_with fail
      go_loopw [6, 27] (fun vo vi wr => Fr [] w wr ∧ ((vi = .int .i64 0 ∧ OwnC wr w.heap.size 60 vo 5 0 (appC n1 F1 F2)) ∨ (vi = .int .i64 1 ∧ OwnC wr w.heap.size 60 vo 5 n1 (appC n1 F1 F2)) ∨ (vi = .int .i64 2 ∧ OwnC wr w.heap.size 60 vo 5 (n1 + n2) (appC n1 F1 F2)))) (fun _ vi _ => 2 - (intOf vi).toNat)
      case atStart => exact ⟨HF.out, .inl ⟨rfl, HO.out⟩⟩
      case round =>
        clear HO HF
        obtain ⟨hf, hh⟩ := hrel
        have HF := Lib.hid hf
        obtain ⟨x0, x1⟩ := HCEL.out wr hf
        have HSZ := Lib.hid (show w.heap.size ≤ wr.heap.size from hf.size)
        clear hf
        rcases hh with ⟨rfl, ho⟩ | ⟨rfl, ho⟩ | ⟨rfl, ho⟩
        · have HO := Lib.hid ho
          clear ho
          go_wp2_with (at_builtin; refine wpList_appC rfl (.tmp 31) (.tmp 32) 41 rfl 60 infoRec Tryd.underlying41 rfl (by decide) HO1.out HO.out rfl (HR1.out.fr HF.out) rfl (by unfold maxLen; omega) (by omega) HSZ.out ?_; intro v7 w7 ho7 hf7 _)
          go_roundw
          case rel =>
            refine ⟨HF.out.trans hf7 (fun x hx => .inr (HO.out.ge x hx)), .inr (.inl ⟨rfl, ?_⟩)⟩
            rw [Nat.zero_add] at ho7
            exact ho7.congr (by decide) (fun i c hi _ => by unfold appC; rw [if_neg (by omega), if_pos hi, Nat.sub_zero])
          case measure => simp [intOf]
        · have HO := Lib.hid ho
          clear ho
          go_wp2_with (at_builtin; refine wpList_appC rfl (.tmp 31) (.tmp 32) 41 rfl 60 infoRec Tryd.underlying41 rfl (by decide) HO2.out HO.out rfl (HR2.out.fr HF.out) rfl (by unfold maxLen; omega) (by omega) HSZ.out ?_; intro v7 w7 ho7 hf7 _)
          go_roundw
          case rel =>
            refine ⟨HF.out.trans hf7 (fun x hx => .inr (HO.out.ge x hx)), .inr (.inr ⟨rfl, ?_⟩)⟩
            exact ho7.congr (by decide) (fun i c hi _ => by
              unfold appC
              by_cases h : i < n1
              · rw [if_pos h, if_pos h]
              · rw [if_neg h, if_neg h])
          case measure => simp [intOf]
        · have HO := Lib.hid ho
          clear ho
          go_wp2
          go_ret
          exact ⟨_, rfl, HO.out, HF.out⟩

end Go.Proofs.YtkdmkpdooiacaaaDoor

namespace Go.Proofs.YtkdmkpdooiacaaaDoor
open Go.RowKit

/-- how many of the first k are no OPT records -/
def nopN (M : Nat → Rs) : Nat → Nat
  | 0 => 0
  | k + 1 => if (M k).ty = 41 then nopN M k else nopN M k + 1

theorem nopN_le (M : Nat → Rs) (k : Nat) : nopN M k ≤ k := by
  induction k with
  | zero => exact Nat.le_refl _
  | succ k ih => simp only [nopN]; split <;> omega

/-- the TTLs of T0's first 'base', and of those of the first k that are no OPT records -/
def lifT (base : Nat) (T0 : Nat → Int) (M : Nat → Rs) : Nat → Nat → Int
  | 0 => T0
  | k + 1 => if (M k).ty = 41 then lifT base T0 M k else fun j => if j = base + nopN M k then (M k).tt else lifT base T0 M k j

/-- one behind the other -/
def catT (n : Nat) (S T : Nat → Int) (j : Nat) : Int := if j < n then S j else T (j - n)

/-- the least of the first k; -1 where there is none -/
def lmn (T : Nat → Int) : Nat → Int
  | 0 => -1
  | k + 1 => if lmn T k < 0 ∨ T k < lmn T k then T k else lmn T k

/-- is one of the first k out of reach? -/
def tbad (T : Nat → Int) : Nat → Bool
  | 0 => false
  | k + 1 => tbad T k || (decide (T k < 0) || decide (4294967295 < T k))

theorem tbad_hit {T : Nat → Int} {k n : Nat} (hk : k < n) (h : T k < 0 ∨ 4294967295 < T k) : tbad T n = true := by
  induction n with
  | zero => omega
  | succ n ih =>
    simp only [tbad]
    by_cases e : k = n
    · subst e
      rcases h with h | h <;> simp [h]
    · rw [ih (by omega), Bool.true_or]

def Ms.T0 (m : Ms) : Nat → Int := catT m.an (fun i => (m.A i).tt) (fun i => (m.U i).tt)
def Ms.N1 (m : Ms) : Nat := m.an + m.un + nopN m.M m.mn
def Ms.T1 (m : Ms) : Nat → Int := lifT (m.an + m.un) m.T0 m.M m.mn
def Ms.T2 (m : Ms) : Nat → Int := catT m.N1 m.T1 (fun i => (m.M i).tt)

/-- what is wrong with a message's TTLs -/
def lifeZ (m : Ms) : Int := if tbad m.T2 (m.N1 + m.mn) = true then 6 else if lmn m.T1 m.N1 ≤ 0 then 9 else 0
/-- how long it lives -/
def lifeV (m : Ms) : Int := if lifeZ m = 0 then lmn m.T1 m.N1 else 0

/-- five cells hold a record of that TTL -/
def RecC (F : Nat → Value) (t : Int) : Prop := ∃ (r : Rs) (na da : Option Addr) (nc dc : Nat), (∀ c, c < 5 → F c = r.F na nc da dc c) ∧ r.tt = t ∧ -9223372036854775808 ≤ t ∧ t ≤ 9223372036854775807

theorem Sec.recC {B : HB} {w : World} {v : Value} {n : Nat} {R : Nat → Rs} {F : Nat → Nat → Value} (h : Sec B w v n R F) (i : Nat) (hi : i < n) : RecC (F i) (R i).tt := by
  obtain ⟨na, nc, da, dc, h1, _⟩ := h.at_ i hi
  exact ⟨R i, na, da, nc, dc, h1, rfl, (h.wf i hi).tt0.1, (h.wf i hi).tt0.2⟩

theorem RecC.one {F : Nat → Value} {t : Int} (h : RecC F t) (c : Nat) (hc : c < 5) : (F c).oneCell' = true := by
  obtain ⟨r, na, da, nc, dc, h1, _⟩ := h
  exact Rs.one h1 c hc

theorem recC_app {n m : Nat} {F G : Nat → Nat → Value} {S T : Nat → Int} (h1 : ∀ i, i < n → RecC (F i) (S i)) (h2 : ∀ i, i < m → RecC (G i) (T i)) (i : Nat) (hi : i < n + m) : RecC (appC n F G i) (catT n S T i) := by
  unfold appC catT
  by_cases h : i < n
  · rw [if_pos h, if_pos h]; exact h1 i h
  · rw [if_neg h, if_neg h]; exact h2 _ (by omega)

end Go.Proofs.YtkdmkpdooiacaaaDoor

namespace Go.Proofs.YtkdmkpdooiacaaaDoor
open Go.RowKit

/-- a message's fifteen cells -/
theorem msC_get (h : Hd) (q a u m : Value) (c : Nat) (hc : c < 15) : (msgCs h q a u m)[c]? = some (msC h q a u m c) := by
  match c, hc with
  | 0, _ => rfl
  | 1, _ => rfl
  | 2, _ => rfl
  | 3, _ => rfl
  | 4, _ => rfl
  | 5, _ => rfl
  | 6, _ => rfl
  | 7, _ => rfl
  | 8, _ => rfl
  | 9, _ => rfl
  | 10, _ => rfl
  | 11, _ => rfl
  | 12, _ => rfl
  | 13, _ => rfl
  | 14, _ => rfl

/-- where the i-th message lies -/
theorem MsgsAt.rng {B : HB} {w : World} {a : Option Addr} {n c : Nat} {M : Nat → Ms} {V : Nat → Value × Value × Value × Value} (h : MsgsAt B w (.slice a n c) n M V) (hn : 0 < n) :
    ∃ b o, a = some ⟨b, o, none⟩ ∧ n ≤ c ∧ c ≤ maxLen ∧ ∀ i, i < n → w.rangeAt b (o + i * 15) (msgCs (M i).h (V i).1 (V i).2.1 (V i).2.2.1 (V i).2.2.2).toList := by
  obtain ⟨b, o, cap, he, h1, h2, _, h3⟩ := h.1.shape hn (by decide)
  simp only [Value.slice.injEq, true_and] at he
  obtain ⟨rfl, rfl⟩ := he
  refine ⟨b, o, rfl, h1, h2, fun i hi j u hj => ?_⟩
  rw [Array.getElem?_toList] at hj
  have hj15 : j < 15 := by
    have := (Array.getElem?_eq_some_iff.1 hj).1
    exact this
  rw [msC_get _ _ _ _ _ _ hj15] at hj
  cases hj
  exact h3 i j hi hj15

theorem range_fr {w w' : World} {b o : Nat} {cs : List Value} (h : w.rangeAt b o cs) (hf : Fr [] w w') : w'.rangeAt b o cs := fun j u hj => hf.cell (h j u hj) (by simp)

end Go.Proofs.YtkdmkpdooiacaaaDoor

namespace Go.Proofs.YtkdmkpdooiacaaaDoor
open Go.RowKit

def u8V (b : UInt8) : Value := .int .u8 (b.toNat : Int)

/-- a slice of the call's own that holds the bytes L -/
def OwnB (w : World) (B : Nat) (v : Value) (L : List UInt8) : Prop := OwnF w B 5 v L.length (fun j => u8V (L.getD j 0))

theorem OwnB.owns {w : World} {B : Nat} {v : Value} {L : List UInt8} (h : OwnB w B v L) : w.ownsRow B 5 1 v L.length (L.map u8V) := by
  have e : L.map u8V = vals L.length (fun j => u8V (L.getD j 0)) := by
    apply List.ext_getElem?
    intro j
    by_cases hj : j < L.length
    · rw [vals_get _ _ _ hj, List.getElem?_map, List.getElem?_eq_getElem hj, List.getD_eq_getElem?_getD, List.getElem?_eq_getElem hj]
      rfl
    · rw [List.getElem?_eq_none (by simpa using hj), List.getElem?_eq_none (by rw [vals_len]; omega)]
  rw [e]
  exact OwnF.owns h

theorem OwnB.of_owns {w : World} {B : Nat} {v : Value} {L : List UInt8} (h : w.ownsRow B 5 1 v L.length (L.map u8V)) : OwnB w B v L :=
  OwnF.of_owns h _ fun j hj => by
    rw [List.getElem?_map, List.getElem?_eq_getElem hj, List.getD_eq_getElem?_getD, List.getElem?_eq_getElem hj]
    rfl

theorem OwnB.nil (w : World) (B : Nat) : OwnB w B (.slice none 0 0) [] := .inl ⟨rfl, rfl⟩

theorem OwnB.more {w : World} {B : Nat} {v : Value} {L : List UInt8} {m : Nat} {g : Nat → Value} (h : OwnF w B 5 v (L.length + m) (app L.length (fun j => u8V (L.getD j 0)) g)) (l : List UInt8) (hl : l.length = m) (hg : ∀ j, j < m → g j = u8V (l.getD j 0)) : OwnB w B v (L ++ l) := by
  unfold OwnB
  rw [List.length_append, hl]
  refine h.congr fun j hj => ?_
  unfold app
  by_cases h1 : j < L.length
  · rw [if_pos h1]
    show u8V _ = u8V _
    simp [List.getD_eq_getElem?_getD, List.getElem?_append_left h1]
  · rw [if_neg h1, hg _ (by omega)]
    show u8V _ = u8V _
    simp [List.getD_eq_getElem?_getD, List.getElem?_append_right (show L.length ≤ j by omega)]

theorem OwnB.frB {w w' : World} {B C : Nat} {v : Value} {L : List UInt8} (h : OwnB w B v L) (hf : Below C w w') (hc : ∀ g, v.ownBlock = some g → g < C) : OwnB w' B v L := by
  rcases h with h | ⟨g, cap, rfl, hb, h⟩
  · exact .inl h
  · exact .inr ⟨g, cap, rfl, hb, h.of_block (hf.block g (hc g rfl))⟩

theorem rdF_belowB {w w' : World} {a : Option Addr} {n c C : Nat} {f : Nat → Value} (h : RdF w (.slice a n c) n f) (hf : Below C w w') (hc : ∀ b o, a = some ⟨b, o, none⟩ → 0 < n → b < C) : RdF w' (.slice a n c) n f := by
  by_cases h0 : n = 0
  · subst h0; exact h.zero _ _
  · obtain ⟨b, o, cap, e, h1, h2, h3, h4⟩ := h.shape (by omega)
    simp only [Value.slice.injEq, true_and] at e
    obtain ⟨rfl, rfl⟩ := e
    refine .inr ⟨⟨b, o, none⟩, c, rfl, h1, h2, fun j hj => ?_⟩
    have ea : (⟨b, o, none⟩ : Addr).add j = ⟨b, o + j, none⟩ := by unfold Addr.add; split <;> simp_all
    rw [ea]
    exact (World.cell?_of_block (hf.block b (hc b o rfl (by omega)))).trans (h4 j hj)

/-- append of a string's bytes. -/
theorem wpList_appS {w : World} {ops : Array Oper} {rest : List Oper} {o : Oper} {a : Act} {Q : Exit → Act → World → Prop} (hgd : o.guard = none) (sl x : Operand) (t u : TypeId)
    (ho : o.op = .call { callee := .builtin .append, args := #[sl, x], argTypes := #[t, u] })
    (ht : Tryd.prog.underlying t = some (.slice 5)) (hu : Tryd.prog.underlying u = some .string)
    {v : Value} {L : List UInt8} {B : Nat} (hown : OwnB w B v L) (hs : a.eval sl = v) (s : ByteArray) (hx : a.eval x = .string s)
    (hb : L.length + s.size ≤ 140737488355328) (hbase : B ≤ w.heap.size)
    (h : ∀ v' w', OwnB w' B v' (L ++ s.data.toList) → Fr v.ownBlock.toList w w' → wpList Tryd.prog ops Q rest (a.put o.dst v') w') : wpList Tryd.prog ops Q (o :: rest) a w := by
  obtain ⟨i, hi, hz0, hz1, hz2⟩ := info_parts infoU8
  refine Lib.wpList_append_own_string w hgd sl x t u ho B 5 i ht hu hi hz0 hz1 hz2 v L.length _ hs hown.owns s hx (by unfold maxLen; omega) hb hbase fun v' w' h1 h2 _ => h v' w' ?_ (Fr.of_grown h2 _ (fun k hk => .inl (by simp [hk])))
  apply OwnB.of_owns
  have e : (L ++ s.data.toList).length = L.length + s.size := by rw [List.length_append]; rfl
  have e2 : (L ++ s.data.toList).map u8V = L.map u8V ++ Lib.strCells s := by
    rw [List.map_append]
    rfl
  rw [e, e2]
  exact h1

/-- the first k labels, as they are sent -/
def wireL (s : Nat → ByteArray) : Nat → List UInt8
  | 0 => []
  | k + 1 => wireL s k ++ (UInt8.ofNat (s k).size :: (s k).data.toList)

theorem wireL_len (s : Nat → ByteArray) (k : Nat) (C : Nat) (h : ∀ j, j < k → (s j).size ≤ C) : (wireL s k).length ≤ k * (C + 1) := by
  induction k with
  | zero => simp [wireL]
  | succ k ih =>
    have h1 := ih (fun j hj => h j (by omega))
    have h2 := h k (by omega)
    have h3 : (s k).data.toList.length = (s k).size := rfl
    simp only [wireL, List.length_append, List.length_cons, h3]
    rw [Nat.add_mul]
    omega

theorem wireL_congr {s t : Nat → ByteArray} {k : Nat} (h : ∀ j, j < k → s j = t j) : wireL s k = wireL t k := by
  induction k with
  | zero => rfl
  | succ k ih => simp only [wireL, ih (fun j hj => h j (by omega)), h k (by omega)]

end Go.Proofs.YtkdmkpdooiacaaaDoor

namespace Go.Proofs.YtkdmkpdooiacaaaDoor
open Go.RowKit

set_option maxHeartbeats 1000000 in
theorem pairAt_any (w : World) (a : Option Addr) (n c P : Nat) (G : Nat → Int) (hv : RdF w (.slice a n c) n (fun j => .int .u8 (G j))) (h : P + 2 ≤ n) (hb0 : 0 ≤ G P ∧ G P ≤ 255) (hb1 : 0 ≤ G (P + 1) ∧ G (P + 1) ≤ 255) (hn : n ≤ 4611686018427387904) :
    Calls Tryd.prog 36 #[.slice a n c, .int .i64 P] w fun e w' => e = .returned (.int .i64 (G P * 256 + G (P + 1))) ∧ ∃ q, w' = w.drewN q := by
  obtain ⟨b, o, cp, he, _, _, _, hc⟩ := hv.shape (by omega)
  simp only [Value.slice.injEq, true_and] at he
  obtain ⟨rfl, rfl⟩ := he
  have k0 := hc P (by omega)
  have k1 := hc (P + 1) (by omega)
  clear hc hv
  have l0 : (0 : Int) ≤ (P : Int) := by omega
  have l1 : (P : Int) < (n : Int) := by omega
  have l2 : (P : Int) + 1 < (n : Int) := by omega
  generalize G P = x0 at *
  generalize G (P + 1) = x1 at *
  go_enter Tryd.func36, Tryd.ntmps36
  go_wp2_with fail
  go_quiet (fail)
  go_wp2
  go_ret
  exact ⟨rfl, nq, rfl⟩

end Go.Proofs.YtkdmkpdooiacaaaDoor

namespace Go.Proofs.YtkdmkpdooiacaaaDoor
open Go.RowKit

/-- how long a name is, so far, as the reference counts -/
def rsz (s : Nat → ByteArray) : Nat → Int
  | 0 => 1
  | k + 1 => if rsz s k ≤ 255 then rsz s k + ((s k).size + 1) else rsz s k

theorem rsz_bd (s : Nat → ByteArray) (k : Nat) (h : lbad s k = false) : 1 ≤ rsz s k ∧ rsz s k ≤ 319 ∧ (255 < rsz s k ↔ 255 < nsz s k) ∧ (rsz s k ≤ 255 → rsz s k = nsz s k) := by
  induction k with
  | zero => simp [rsz, nsz]
  | succ k ih =>
    simp only [lbad, Bool.or_eq_false_iff, decide_eq_false_iff_not] at h
    obtain ⟨i1, i2, i3, i4⟩ := ih h.1
    have := h.2
    have hb := nsz_bd s k
    simp only [rsz, nsz]
    by_cases h1 : rsz s k ≤ 255
    · rw [if_pos h1]
      have := i4 h1
      refine ⟨by omega, by omega, by omega, by omega⟩
    · rw [if_neg h1]
      have : 255 < nsz s k := i3.1 (by omega)
      refine ⟨by omega, by omega, by omega, by omega⟩

set_option maxHeartbeats 2000000 in
set_option maxRecDepth 100000 in
theorem nameFault_any (w : World) (a : Option Addr) (n c : Nat) (s : Nat → ByteArray) (hs : RdF w (.slice a n c) n (fun j => .string (s j))) (hss : ∀ j, j < n → (s j).size ≤ 140737488355328) :
    Calls Tryd.prog 16 #[.slice a n c] w fun e w' => e = .returned (.int .i64 (nmFault n s)) ∧ w = w' := by
  have hcb := hs.le_cap
  unfold maxLen at hcb
  have HS := Lib.hid hs; clear hs
  have HSS := Lib.hid hss; clear hss
  go_enter Tryd.func16, Tryd.ntmps16
  go_wp2
  go_loop [3, 4] (fun vz vi => ∃ k : Nat, k ≤ n ∧ vi = .int .i64 k ∧ vz = .int .i64 (rsz s k) ∧ lbad s k = false) (fun _ vi => n - (intOf vi).toNat)
  case atStart => exact ⟨0, by omega, rfl, rfl, rfl⟩
  case round =>
    obtain ⟨k, hk, rfl, rfl, hbad⟩ := hrel
    have HBAD := Lib.hid hbad; clear hbad
    obtain ⟨z1, z2, z3, z4⟩ := rsz_bd s k HBAD.out
    have HZ3 := Lib.hid z3
    clear z3 z4
    by_cases hlt : k < n
    · obtain ⟨b1, o1, c1, he1, _, _, _, hc1⟩ := HS.out.shape (by omega)
      simp only [Value.slice.injEq, true_and] at he1
      obtain ⟨rfl, rfl⟩ := he1
      have c0 := hc1 k hlt
      clear hc1
      have k0 : (0 : Int) ≤ (k : Int) := by omega
      have k1 : (k : Int) < (n : Int) := by omega
      have hl := HSS.out k hlt
      have HT := Lib.hid (fun h => lbad_true (s := s) (k := k) (n := n) hlt h)
      have HNS := Lib.hid (show rsz s (k + 1) = if rsz s k ≤ 255 then rsz s k + ((s k).size + 1) else rsz s k from rfl)
      have HLB := Lib.hid (show lbad s (k + 1) = (lbad s k || (decide ((s k).size < 1) || decide (63 < (s k).size))) from rfl)
      generalize rsz s k = z at *
      generalize s k = sk at *
      by_cases h1 : sk.size = 0
      · have HE := Lib.hid (show nmFault n s = 3 by unfold nmFault; rw [if_pos (HT.out (.inl (by omega)))])
        clear hl
        go_wp2
        go_ret
        exact ⟨by rw [HE.out]; rfl, rfl⟩
      · have hd0 : ((sk.size : Int) == 0) = false := beq_eq_false_iff_ne.2 (by omega)
        by_cases h2 : 63 < sk.size
        · have HE := Lib.hid (show nmFault n s = 3 by unfold nmFault; rw [if_pos (HT.out (.inr h2))])
          go_wp2
          go_ret
          exact ⟨by rw [HE.out]; rfl, rfl⟩
        · have hd1 : (sk.size : Int) ≤ 63 := by omega
          have hd2 : decide (63 < (sk.size : Int)) = false := by simp; omega
          have HB2 := Lib.hid (show lbad s (k + 1) = false by rw [HLB.out, HBAD.out, decide_eq_false (by omega), decide_eq_false h2]; rfl)
          by_cases h3 : z ≤ 255
          · have HN2 := Lib.hid (show rsz s (k + 1) = z + ((sk.size : Int) + 1) by rw [HNS.out, if_pos h3])
            go_wp2
            go_round
            case rel => exact ⟨k + 1, by omega, by go_num, by rw [HN2.out], HB2.out⟩
            case measure => simp [intOf]; omega
          · have HN2 := Lib.hid (show rsz s (k + 1) = z by rw [HNS.out, if_neg h3])
            go_wp2
            go_round
            case rel => exact ⟨k + 1, by omega, by go_num, by rw [HN2.out], HB2.out⟩
            case measure => simp [intOf]; omega
    · obtain rfl : k = n := by omega
      by_cases h255 : 255 < rsz s k
      · have HE := Lib.hid (show nmFault k s = 5 by unfold nmFault; rw [if_neg (by rw [HBAD.out]; decide), if_pos (HZ3.out.1 h255)])
        clear HZ3
        generalize rsz s k = z at *
        go_wp2
        go_ret
        exact ⟨by rw [HE.out]; rfl, rfl⟩
      · have HE := Lib.hid (show nmFault k s = 0 by unfold nmFault; rw [if_neg (by rw [HBAD.out]; decide), if_neg (fun h => h255 (HZ3.out.2 h))])
        clear HZ3
        generalize rsz s k = z at *
        go_wp2
        go_ret
        exact ⟨by rw [HE.out]; rfl, rfl⟩

theorem smallRef_any (w : World) (x : Int) (h0 : 0 ≤ x) (h1 : x ≤ 255) :
    Calls Tryd.prog 37 #[.int .u8 x] w fun e w' => e = .returned (.int .u8 (lowI x)) ∧ w' = w := by
  go_enter Tryd.func37, Tryd.ntmps37
  by_cases ha : 65 ≤ x
  · by_cases hb : x ≤ 90
    · have e : lowI x = x + 32 := by unfold lowI; rw [if_pos ⟨ha, hb⟩]
      have HE := Lib.hid e; clear e
      have hw : IntKind.u8.wrap (x + 32) = x + 32 := IntWalk.u8_in _ (by omega)
      go_wp2
      go_ret
      exact ⟨by rw [HE.out]; rfl, rfl⟩
    · have e : lowI x = x := by unfold lowI; rw [if_neg (by omega)]
      have HE := Lib.hid e; clear e
      go_wp2
      go_ret
      exact ⟨by rw [HE.out]; rfl, rfl⟩
  · have e : lowI x = x := by unfold lowI; rw [if_neg (by omega)]
    have HE := Lib.hid e; clear e
    go_wp2
    go_ret
    exact ⟨by rw [HE.out]; rfl, rfl⟩

/-- a label's byte, small -/
def lwAt (s : ByteArray) (j : Nat) : Int := lowI (byteAt s j)

theorem lw_nth (s : ByteArray) (j : Nat) (h : j < s.size) : ((s.data.toList.map lowB).getD j 0).toNat = (lwAt s j) := by
  have h' : j < s.data.toList.length := by simpa using h
  unfold lwAt byteAt
  simp [List.getD_eq_getElem?_getD, List.getElem?_map, List.getElem?_eq_getElem h', lowB_int]

theorem alk_iff (s t : ByteArray) : alk s t = true ↔ s.size = t.size ∧ ∀ j, j < s.size → lwAt s j = lwAt t j := by
  unfold alk
  rw [beq_iff_eq, ByteArray.toList_eq, ByteArray.toList_eq]
  show s.data.toList.map lowB = t.data.toList.map lowB ↔ _
  constructor
  · intro h
    have hl : s.size = t.size := by have := congrArg List.length h; simpa using this
    refine ⟨hl, fun j hj => ?_⟩
    rw [← lw_nth s j hj, ← lw_nth t j (by omega), h]
  · rintro ⟨hl, he⟩
    apply List.ext_getElem
    · simpa using hl
    · intro j h1 h2
      have hj : j < s.size := by simpa using h1
      have e := he j hj
      rw [← lw_nth s j hj, ← lw_nth t j (by omega)] at e
      simp only [List.getD_eq_getElem?_getD, List.getElem?_eq_getElem h1, List.getElem?_eq_getElem h2, Option.getD_some] at e
      exact UInt8.toNat_inj.1 (by omega)

def LbPost (w : World) (s t : ByteArray) : Ending → World → Prop := fun e w' => ∃ x : Int, e = .returned (.int .i64 x) ∧ (x = 0 ↔ alk s t = true) ∧ Fr [] w w'

theorem byteAt_get (s : ByteArray) (k : Nat) (h : k < s.size) : ((s[k]'h).toNat : Int) = byteAt s k := by
  have h' : k < s.data.toList.length := by simpa using h
  unfold byteAt
  simp only [List.getD_eq_getElem?_getD, List.getElem?_eq_getElem h', Option.getD_some]
  rfl

theorem byteAt_bd (s : ByteArray) (j : Nat) : 0 ≤ byteAt s j ∧ byteAt s j ≤ 255 := by
  unfold byteAt
  have := (s.data.toList.getD j 0).toNat_lt
  omega

end Go.Proofs.YtkdmkpdooiacaaaDoor

namespace Go.Proofs.YtkdmkpdooiacaaaDoor
open Go.RowKit

theorem smB_take (s : ByteArray) (k : Nat) (h : k < s.size) : (s.data.toList.map lowB).take (k + 1) = (s.data.toList.map lowB).take k ++ [lowB (s.data.toList.getD k 0)] := by
  have h' : k < s.data.toList.length := h
  rw [List.take_add_one, List.getElem?_map, List.getElem?_eq_getElem h', List.getD_eq_getElem?_getD, List.getElem?_eq_getElem h']
  rfl

theorem smB_take_len (s : ByteArray) (k : Nat) (h : k ≤ s.size) : ((s.data.toList.map lowB).take k).length = k := by
  rw [List.length_take, List.length_map]
  have : s.data.toList.length = s.size := rfl
  omega

set_option maxHeartbeats 2000000 in
set_option maxRecDepth 100000 in
theorem folded_any (w : World) (s : ByteArray) (hs : s.size ≤ 1000000) :
    Calls Tryd.prog 18 #[.string s] w fun e w' => e = .returned (.string (smB s)) ∧ Fr [] w w' := by
  go_enter Tryd.func18, Tryd.ntmps18
  go_wp2
  go_loopw [3, 4] (fun vo vi wr => ∃ k : Nat, k ≤ s.size ∧ vi = .int .i64 k ∧ OwnB wr w.heap.size vo ((s.data.toList.map lowB).take k) ∧ Fr [] w wr) (fun _ vi _ => s.size - (intOf vi).toNat)
  case atStart => exact ⟨0, by omega, rfl, by simpa using OwnB.nil w w.heap.size, Fr.refl _ _⟩
  case round =>
    obtain ⟨k, hk, rfl, ho, hf⟩ := hrel
    have HO := Lib.hid ho
    have HF := Lib.hid hf
    clear ho hf
    by_cases hls : k < s.size
    · have k0 : (0 : Int) ≤ (k : Int) := by omega
      have k1 : (k : Int) < (s.size : Int) := by omega
      have HX := Lib.hid (byteAt_get s k hls)
      have bx := byteAt_bd s k
      rw [← HX.out] at bx
      have HC1 := Lib.hid (fun (w : World) => smallRef_any w _ bx.1 bx.2)
      have HLW := Lib.hid (show Value.int .u8 (lowI ((s[k]'hls).toNat : Int)) = u8V (lowB (s.data.toList.getD k 0)) from by
        unfold u8V
        rw [lowB_int, HX.out]
        rfl)
      have HTK := Lib.hid (smB_take s k hls)
      have HTL := Lib.hid (smB_take_len s k hk)
      have HSZ := Lib.hid (show w.heap.size ≤ wr.heap.size from HF.out.size)
      generalize (s.data.toList.map lowB).take k = L at *
      generalize lowB (s.data.toList.getD k 0) = bb at *
      clear HX bx
      go_wp2_with fail
      refine (HC1.out _).mono ?_
      rintro e w2 ⟨rfl, rfl⟩
      rw [HLW.out]
      unfold u8V at *
      go_wp2_with (at_builtin; refine wpList_app rfl (.tmp 11) (.tmp 16) 35 rfl 5 infoU8 Tryd.underlying35 rfl (OwnF.alloc HO.out _) rfl (rd_one _ _ _ rfl) rfl (fun _ _ => rfl) (by unfold maxLen; have := HTL.out; omega) (by have := HTL.out; omega) (by simp; have := HSZ.out; omega) ?_; intro v2 w3 hown2 hfr2 _)
      go_roundw
      case rel => exact ⟨k + 1, by omega, by go_num, by rw [HTK.out]; exact OwnB.more hown2 [bb] rfl (fun j hj => by have hj0 : j = 0 := Nat.lt_one_iff.1 hj; subst hj0; rfl), (HF.out.alloc _).trans hfr2 (fun x hx => .inr (OwnF.ge HO.out x hx))⟩
      case measure => simp [intOf]; omega
    · obtain rfl : k = s.size := by omega
      have hfull : (s.data.toList.map lowB).take s.size = s.data.toList.map lowB := List.take_of_length_le (by rw [List.length_map]; exact Nat.le_refl _)
      rw [hfull] at HO
      have HSM := Lib.hid (show (⟨(s.data.toList.map lowB).toArray⟩ : ByteArray) = smB s from rfl)
      by_cases h0 : s.size = 0
      · have hnil : s.data.toList.map lowB = [] := List.length_eq_zero_iff.1 (by rw [List.length_map]; exact h0)
        rw [hnil] at HO HSM
        rcases HO.out with ⟨h1, _⟩ | ⟨g, cap, h1, _, hr⟩
        · subst h1
          have hcv : (convert 35 9 (.slice none 0 0)).run Tryd.prog wr = .ok (.string (smB s)) wr := by
            rw [← HSM.out, run_convert_bytes_string wr 35 9 5 none 0 0 Tryd.underlying35 Tryd.underlying5 Tryd.underlying9]
            rfl
          clear HO hfull
          go_wp2
          go_ret
          exact ⟨rfl, HF.out⟩
        · subst h1
          have hcv := run_convert_bytes_back (P := Tryd.prog) wr 35 9 5 ⟨g, 0, none⟩ cap [] Tryd.underlying35 Tryd.underlying5 Tryd.underlying9 (fun j hj => by simp at hj)
          rw [HSM.out] at hcv
          clear HO hfull hr
          simp only [List.length_nil] at hcv ⊢
          go_wp2
          go_ret
          exact ⟨rfl, HF.out⟩
      · have hlen : (s.data.toList.map lowB).length = s.size := by rw [List.length_map]; rfl
        obtain ⟨g, cap, rfl, _, hrow⟩ := OwnF.row HO.out (by omega)
        have hcv := run_convert_bytes_back (P := Tryd.prog) wr 35 9 5 ⟨g, 0, none⟩ cap (s.data.toList.map lowB) Tryd.underlying35 Tryd.underlying5 Tryd.underlying9 (fun j hj => by
          have ea : (⟨g, 0, none⟩ : Addr).add j = ⟨g, j, none⟩ := by unfold Addr.add; split <;> simp_all
          rw [ea, hrow.cell j hj]
          unfold u8V
          rw [List.getD_eq_getElem?_getD, List.getElem?_eq_getElem hj]
          rfl)
        rw [HSM.out] at hcv
        clear hrow hfull
        rw [hlen] at hcv
        go_wp2
        go_ret
        exact ⟨rfl, HF.out⟩

end Go.Proofs.YtkdmkpdooiacaaaDoor

namespace Go.Proofs.YtkdmkpdooiacaaaDoor
open Go.RowKit

theorem numbers_any (w : World) (n m : Nat) (s t : ByteArray) (hs : s.size = n) (ht : t.size = m) (he : ∀ j, j < n → j < m → lwAt s j = lwAt t j) : Calls Tryd.prog 65 #[.int .i64 n, .int .i64 m] w (LbPost w s t) := by
  go_enter Tryd.func65, Tryd.ntmps65
  have HNE := Lib.hid (fun (h : n ≠ m) => show alk s t ≠ true from fun ha => h (by have := ((alk_iff s t).1 ha).1; omega))
  have HEQ := Lib.hid (fun (h : n = m) => show alk s t = true from (alk_iff s t).2 ⟨by omega, fun j hj => he j (by omega) (by omega)⟩)
  clear he hs ht
  by_cases h1 : n < m
  · have HA := Lib.hid (HNE.out (by omega))
    go_wp2
    go_ret
    exact ⟨-1, rfl, ⟨fun h => absurd h (by decide), fun h => absurd h HA.out⟩, Fr.refl _ _⟩
  · by_cases h2 : m < n
    · have HA := Lib.hid (HNE.out (by omega))
      go_wp2
      go_ret
      exact ⟨1, rfl, ⟨fun h => absurd h (by decide), fun h => absurd h HA.out⟩, Fr.refl _ _⟩
    · have HA := Lib.hid (HEQ.out (by omega))
      go_wp2
      go_ret
      exact ⟨0, rfl, ⟨fun _ => HA.out, fun _ => rfl⟩, Fr.refl _ _⟩

set_option maxHeartbeats 4000000 in
set_option maxRecDepth 100000 in
theorem labels_any (w : World) (s t : ByteArray) (hs : s.size ≤ 140737488355328) (ht : t.size ≤ 140737488355328) : Calls Tryd.prog 64 #[.string s, .string t] w (LbPost w s t) := by
  go_enter Tryd.func64, Tryd.ntmps64
  go_wp2
  go_loopw [5] (fun vi wr => ∃ k : Nat, k ≤ s.size ∧ k ≤ t.size ∧ vi = .int .i64 k ∧ (∀ j, j < k → lwAt s j = lwAt t j) ∧ Fr [] w wr) (fun vi _ => s.size - (intOf vi).toNat)
  case atStart => exact ⟨0, by omega, by omega, rfl, fun j hj => absurd hj (Nat.not_lt_zero j), Fr.refl _ _⟩
  case round =>
    obtain ⟨k, hk1, hk2, rfl, hal, hf⟩ := hrel
    have HAL := Lib.hid hal; clear hal
    have HF := Lib.hid hf; clear hf
    by_cases hls : k < s.size
    · by_cases hlt : k < t.size
      · have k0 : (0 : Int) ≤ (k : Int) := by omega
        have k1 : (k : Int) < (s.size : Int) := by omega
        have k2 : (k : Int) < (t.size : Int) := by omega
        have HX := Lib.hid (byteAt_get s k hls)
        have HY := Lib.hid (byteAt_get t k hlt)
        have bx := byteAt_bd s k
        have by' := byteAt_bd t k
        have HW := Lib.hid (show lwAt s k = lowI (byteAt s k) from rfl)
        have HV := Lib.hid (show lwAt t k = lowI (byteAt t k) from rfl)
        rw [← HX.out] at bx HW
        rw [← HY.out] at by' HV
        have HNEQ := Lib.hid (fun (h : lwAt s k ≠ lwAt t k) => show alk s t ≠ true from fun ha => h (((alk_iff s t).1 ha).2 k hls))
        have HC1 := Lib.hid (fun (w : World) => smallRef_any w _ bx.1 bx.2)
        have HC2 := Lib.hid (fun (w : World) => smallRef_any w _ by'.1 by'.2)
        rw [← HW.out] at HC1
        rw [← HV.out] at HC2
        clear HW HV HX HY bx by'
        have HAL2 := Lib.hid (fun (h : lwAt s k = lwAt t k) j (hj : j < k + 1) => show lwAt s j = lwAt t j from by
          by_cases e : j = k
          · rw [e]; exact h
          · exact HAL.out j (by omega))
        generalize lwAt s k = X at *
        generalize lwAt t k = Y at *
        go_wp2_with fail
        by_cases h1 : X < Y
        · have HA := Lib.hid (HNEQ.out (by omega))
          have d1 : decide (X < Y) = true := by simpa using h1
          go_quiet (first | (go_at_call 37; with_reducible exact Calls.quiet_of_same (HC1.out _)) | (go_at_call 37; with_reducible exact Calls.quiet_of_same (HC2.out _)))
          go_wp2
          go_ret
          exact ⟨-1, rfl, ⟨fun h => absurd h (by decide), fun h => absurd h HA.out⟩, HF.out.drewN _⟩
        · have d1 : decide (X < Y) = false := by simpa using h1
          go_quiet (first | (go_at_call 37; with_reducible exact Calls.quiet_of_same (HC1.out _)) | (go_at_call 37; with_reducible exact Calls.quiet_of_same (HC2.out _)))
          have HF2 := Lib.hid (HF.out.drewN nq)
          generalize wr.drewN nq = w2 at *
          go_wp2_with fail
          by_cases h2 : Y < X
          · have HA := Lib.hid (HNEQ.out (by omega))
            have d2 : decide (Y < X) = true := by simpa using h2
            go_quiet (first | (go_at_call 37; with_reducible exact Calls.quiet_of_same (HC1.out _)) | (go_at_call 37; with_reducible exact Calls.quiet_of_same (HC2.out _)))
            go_wp2
            go_ret
            exact ⟨1, rfl, ⟨fun h => absurd h (by decide), fun h => absurd h HA.out⟩, HF2.out.drewN _⟩
          · have d2 : decide (Y < X) = false := by simpa using h2
            have HA := Lib.hid (HAL2.out (by omega))
            clear HAL2 HNEQ
            go_quiet (first | (go_at_call 37; with_reducible exact Calls.quiet_of_same (HC1.out _)) | (go_at_call 37; with_reducible exact Calls.quiet_of_same (HC2.out _)))
            have HF3 := Lib.hid (HF2.out.drewN nq)
            go_wp2
            go_roundw
            case rel => exact ⟨k + 1, by omega, by omega, by go_num, HA.out, HF3.out⟩
            case measure => simp [intOf]; omega
      · obtain rfl : k = t.size := by omega
        have hcn := Lib.hid (fun (w : World) => numbers_any w s.size t.size s t rfl rfl (fun j _ hj => HAL.out j hj))
        go_wp2_with (go_at_call 65; refine (hcn.out _).mono ?_; rintro e wx ⟨x, rfl, hx, hfx⟩; have HX := Lib.hid hx; clear hx)
        go_ret
        exact ⟨x, rfl, HX.out, HF.out.trans hfx (by simp)⟩
    · obtain rfl : k = s.size := by omega
      have hcn := Lib.hid (fun (w : World) => numbers_any w s.size t.size s t rfl rfl (fun j hj _ => HAL.out j hj))
      go_wp2_with (go_at_call 65; refine (hcn.out _).mono ?_; rintro e wx ⟨x, rfl, hx, hfx⟩; have HX := Lib.hid hx; clear hx)
      go_ret
      exact ⟨x, rfl, HX.out, HF.out.trans hfx (by simp)⟩

end Go.Proofs.YtkdmkpdooiacaaaDoor

namespace Go.Proofs.YtkdmkpdooiacaaaDoor
open Go.RowKit

set_option maxHeartbeats 1000000 in
theorem sameB_any (w : World) (a b : Option Addr) (n m c d : Nat) (f g : Nat → Int) (hf : RdF w (.slice a n c) n (fun j => .int .u8 (f j))) (hg : RdF w (.slice b m d) m (fun j => .int .u8 (g j))) (hn : n ≤ 9223372036854775807) (hm : m ≤ 9223372036854775807) :
    Calls Tryd.prog 30 #[.slice a n c, .slice b m d] w fun e w' => e = .returned (.bool (decide (n = m) && eqUpTo f g n)) ∧ ∃ q, w' = w.drewN q := by
  have HF := Lib.hid hf; clear hf
  have HG := Lib.hid hg; clear hg
  by_cases hnm : n = m
  · subst hnm
    go_enter Tryd.func30, Tryd.ntmps30
    go_wp2
    go_loopw [5] (fun i wr => ∃ k : Nat, k ≤ n ∧ i = .int .i64 k ∧ Hid (eqUpTo f g k = true) ∧ ∃ q, wr = w.drewN q) (fun i _ => n - (intOf i).toNat)
    case atStart => exact ⟨0, by omega, rfl, rfl, 0, rfl⟩
    case round =>
      obtain ⟨k, hk, rfl, HE, hq⟩ := hrel
      have HQ := Lib.hid hq
      by_cases hlt : k < n
      · obtain ⟨b1, o1, c1, he1, _, _, _, hc1⟩ := HF.out.shape (by omega)
        obtain ⟨b2, o2, c2, he2, _, _, _, hc2⟩ := HG.out.shape (by omega)
        simp only [Value.slice.injEq, true_and] at he1 he2
        obtain ⟨rfl, rfl⟩ := he1
        obtain ⟨rfl, rfl⟩ := he2
        have k1 : wr.cell? ⟨b1, o1 + k, none⟩ = some (.int .u8 (f k)) := by obtain ⟨q, rfl⟩ := hq; exact hc1 k hlt
        have k2 : wr.cell? ⟨b2, o2 + k, none⟩ = some (.int .u8 (g k)) := by obtain ⟨q, rfl⟩ := hq; exact hc2 k hlt
        clear hc1 hc2 hq
        have hs : eqUpTo f g (k + 1) = (f k == g k) := by simp only [eqUpTo, HE.out, Bool.true_and]
        have HS := Lib.hid hs; clear hs
        have k0 : (0 : Int) ≤ (k : Int) := by omega
        have k3 : (k : Int) < (n : Int) := by omega
        by_cases hfg : f k = g k
        · have hb : (f k != g k) = false := by simp [hfg]
          have HFG := Lib.hid hfg; clear hfg
          go_wp2
          go_quiet (fail)
          go_wp2
          go_roundw
          case rel => exact ⟨k + 1, by omega, by go_num, by show _ = true; rw [HS.out]; simp [HFG.out], by obtain ⟨q, rfl⟩ := HQ.out; exact ⟨q + nq, World.drewN_drewN _ _ _⟩⟩
          case measure => simp [intOf]; omega
        · have hb : (f k != g k) = true := by simp [hfg]
          have hs2 : eqUpTo f g (k + 1) = false := by rw [HS.out]; simp [hfg]
          have hfin : (decide (n = n) && eqUpTo f g n) = false := by rw [eqUpTo_mono f g n (k + 1) (by omega) hs2]; simp
          have HFIN := Lib.hid hfin; clear hfin hs2 hfg
          go_wp2
          go_quiet (fail)
          go_wp2
          go_ret
          rw [HFIN.out]
          exact ⟨rfl, by obtain ⟨q, rfl⟩ := HQ.out; exact ⟨q + nq, World.drewN_drewN _ _ _⟩⟩
      · obtain rfl : k = n := by omega
        clear hq
        go_wp2
        go_ret
        exact ⟨by simp [HE.out], HQ.out⟩
  · have hne : ((n : Int) != (m : Int)) = true := by rw [bne_iff_ne]; omega
    have hfin : (decide (n = m) && eqUpTo f g n) = false := by simp [hnm]
    rw [hfin]
    clear hfin
    go_enter Tryd.func30, Tryd.ntmps30
    go_wp2
    go_ret
    exact ⟨rfl, 0, rfl⟩

end Go.Proofs.YtkdmkpdooiacaaaDoor

namespace Go.Proofs.YtkdmkpdooiacaaaDoor
open Go.RowKit

theorem u8_of {n : Nat} (h : n ≤ 255) : Value.int .u8 (n : Int) = u8V (UInt8.ofNat n) := by
  unfold u8V
  congr 1
  simp
  omega

set_option maxHeartbeats 2000000 in
set_option maxRecDepth 100000 in
theorem sent_any (w : World) (B : Nat) (v : Value) (L : List UInt8) (a : Option Addr) (n c : Nat) (s : Nat → ByteArray) (hv : OwnB w B v L) (hB : B ≤ w.heap.size)
    (hs : RdF w (.slice a n c) n (fun j => .string (s j))) (hap : ∀ b o, a = some ⟨b, o, none⟩ → 0 < n → b < B) (hss : ∀ j, j < n → (s j).size ≤ 255) (hL : L.length + n * 256 ≤ 140737488355328) :
    Calls Tryd.prog 39 #[v, .slice a n c] w fun e w' => ∃ v', e = .returned v' ∧ OwnB w' B v' (L ++ wireL s n) ∧ Below B w w' := by
  have HS := Lib.hid hs; clear hs
  have HSS := Lib.hid hss; clear hss
  have HAP := Lib.hid hap; clear hap
  have HV := Lib.hid hv; clear hv
  go_enter Tryd.func39, Tryd.ntmps39
  go_wp2
  go_loopw [0, 9] (fun vo vi wr => ∃ k : Nat, k ≤ n ∧ vi = .int .i64 k ∧ OwnB wr B vo (L ++ wireL s k) ∧ Below B w wr) (fun _ vi _ => n - (intOf vi).toNat)
  case atStart => exact ⟨0, by omega, rfl, by simpa [wireL] using HV.out, Below.refl _ _⟩
  case round =>
    clear HV
    obtain ⟨k, hk, rfl, ho, hf⟩ := hrel
    have HO := Lib.hid ho; clear ho
    have HF := Lib.hid hf; clear hf
    by_cases hlt : k < n
    · obtain ⟨b1, o1, c1, he1, hn1, hm1, _, hc1⟩ := (rdF_belowB HS.out HF.out (fun b o h => HAP.out b o h)).shape (by omega)
      simp only [Value.slice.injEq, true_and] at he1
      obtain ⟨rfl, rfl⟩ := he1
      clear hn1 hm1
      have k1 := hc1 k hlt
      clear hc1
      have k0 : (0 : Int) ≤ (k : Int) := by omega
      have k3 : (k : Int) < (n : Int) := by omega
      have h1 := HSS.out k hlt
      have HLN := Lib.hid (show (L ++ wireL s k).length + 256 ≤ 140737488355328 by
        have := wireL_len s k 255 (fun j hj => HSS.out j (by omega))
        have h2 : (k + 1) * 256 ≤ n * 256 := Nat.mul_le_mul_right _ (by omega)
        rw [List.length_append]
        omega)
      have HWL := Lib.hid (show L ++ wireL s (k + 1) = ((L ++ wireL s k) ++ [UInt8.ofNat (s k).size]) ++ (s k).data.toList by simp [wireL])
      generalize L ++ wireL s k = M at *
      generalize s k = sk at *
      have HSZ := Lib.hid (show B ≤ wr.heap.size from Nat.le_trans hB HF.out.size)
      go_wp2_with (at_builtin; refine wpList_app rfl (.tmp 13) (.tmp 17) 35 rfl 5 infoU8 Tryd.underlying35 rfl (OwnF.alloc HO.out _) rfl (rd_one _ _ _ rfl) rfl (fun _ _ => rfl) (by unfold maxLen; have := HLN.out; omega) (by have := HLN.out; omega) (by simp; have := HSZ.out; omega) ?_; intro v2 w2 hown2 hfr2 _
                   have HO2 := Lib.hid (OwnB.more hown2 [UInt8.ofNat sk.size] rfl (fun j hj => by
                     obtain rfl : j = 0 := by omega
                     exact u8_of h1))
                   have HF2 := Lib.hid ((HF.out.alloc HSZ.out _).trans (hfr2.below B (by simp; have := HSZ.out; omega) (fun x hx => OwnF.ge HO.out x hx)))
                   clear hown2 hfr2
                   go_wp2_with (at_builtin; refine wpList_appS rfl (.tmp 18) (.tmp 19) 35 9 rfl Tryd.underlying35 Tryd.underlying9 HO2.out rfl sk rfl (by rw [List.length_append]; have := HLN.out; simp; omega) (Nat.le_trans hB HF2.out.size) ?_; intro v3 w3 hown3 hfr3
                                have HO3 := Lib.hid (hown3)
                                have HF3 := Lib.hid (HF2.out.trans (hfr3.below B (Nat.le_trans hB HF2.out.size) (fun x hx => OwnF.ge HO2.out x hx)))
                                clear hown3 hfr3)
                   go_roundw
                   case rel => exact ⟨k + 1, by omega, by go_num, by rw [HWL.out]; exact HO3.out, HF3.out⟩
                   case measure => simp [intOf]; omega)
    · obtain rfl : k = n := by omega
      go_wp2
      go_ret
      exact ⟨_, rfl, HO.out, HF.out⟩

end Go.Proofs.YtkdmkpdooiacaaaDoor

namespace Go.Proofs.YtkdmkpdooiacaaaDoor
open Go.ChangeShapes Go.WideShapes Go.ChangeAt Go.RowKit

/-- a type of few bytes, of such types -/
def okT (P : Program) (N : Nat) (t : TypeId) : Bool :=
  decide (P.bytesOf t ≤ 300) && match P.underlying t with
    | some (.pointer e) => decide (e < N)
    | some (.slice e) => decide (e < N)
    | some (.array _ e) => decide (e < N)
    | some (.map k e) => decide (k < N) && decide (e < N)
    | some (.struct fs) => fs.toList.all (fun f => decide (f.type < N))
    | _ => true

section
variable {H : Type} {P : Program} {N : Nat}

theorem okT_bytes (hP : ∀ t, t < N → okT P N t = true) {t : TypeId} (ht : t < N) : P.bytesOf t ≤ 300 := by
  have h := hP t ht
  unfold okT at h
  rw [Bool.and_eq_true] at h
  exact of_decide_eq_true h.1

theorem bulkEntry_one (x : Lit × DataW H) : 1 ≤ Rows.uptoBulkEntry x := by
  obtain ⟨l, d⟩ := x
  cases l <;> simp only [Rows.uptoBulkEntry] <;> omega

theorem bulkEntries_len (l : List (Lit × DataW H)) : l.length ≤ Rows.uptoBulkEntries l := by
  induction l with
  | nil => simp [Rows.uptoBulkEntries]
  | cons x r ih => have := bulkEntry_one x; simp only [Rows.uptoBulkEntries, List.length_cons]; omega

set_option maxRecDepth 10000
mutual
theorem weights_bulk (hP : ∀ t, t < N → okT P N t = true) : ∀ (d : DataW H) (t : TypeId), t < N → ∀ x ∈ d.weights P t, x ≤ Rows.uptoBulk d * 600
  | .lit (.string b), t, ht => fun x hx => by
      simp only [DataW.weights, List.mem_singleton] at hx
      subst hx
      simp only [Rows.uptoBulk]
      omega
  | .lit (.bool b), t, ht => fun x hx => by simp [DataW.weights] at hx
  | .lit (.int k b), t, ht => fun x hx => by simp [DataW.weights] at hx
  | .lit _, t, ht => fun x hx => by
      cases ‹Lit› <;> simp [DataW.weights] at hx
      subst hx
      simp only [Rows.uptoBulk]
      omega
  | .nil, t, ht => fun x hx => by simp [DataW.weights] at hx
  | .held _, t, ht => fun x hx => by simp [DataW.weights] at hx
  | .iface _ _, t, ht => fun x hx => by simp [DataW.weights] at hx
  | .ptr d, t, ht => fun x hx => by
      have h := hP t ht
      unfold okT at h
      rw [Bool.and_eq_true] at h
      simp only [DataW.weights] at hx
      split at hx
      · rename_i e he
        rw [he] at h
        have := weights_bulk hP d e (of_decide_eq_true h.2) x hx
        simp only [Rows.uptoBulk]
        omega
      · simp at hx
  | .slice elems spare, t, ht => fun x hx => by
      have h := hP t ht
      unfold okT at h
      rw [Bool.and_eq_true] at h
      simp only [DataW.weights] at hx
      split at hx
      · rename_i e he
        rw [he] at h
        have hb := okT_bytes hP (of_decide_eq_true h.2)
        have l1 := bulk_len elems
        have l2 := bulk_len spare
        simp only [Rows.uptoBulk]
        rcases List.mem_cons.1 hx with rfl | hx
        · have : (elems.length + spare.length) * P.bytesOf e ≤ (elems.length + spare.length) * 300 := Nat.mul_le_mul_left _ hb
          omega
        · rcases List.mem_append.1 hx with hx | hx
          · have := weightsAll_bulk hP elems e (of_decide_eq_true h.2) x hx
            omega
          · have := weightsAll_bulk hP spare e (of_decide_eq_true h.2) x hx
            omega
      · simp at hx
  | .agg parts, t, ht => fun x hx => by
      have h := hP t ht
      unfold okT at h
      rw [Bool.and_eq_true] at h
      simp only [DataW.weights] at hx
      split at hx
      · rename_i fs he
        rw [he] at h
        have := weightsEach_bulk hP parts (fs.toList.map (·.type)) (fun e he2 => by
          obtain ⟨f, hf, rfl⟩ := List.mem_map.1 he2
          exact of_decide_eq_true (List.all_eq_true.1 h.2 f hf)) x hx
        simp only [Rows.uptoBulk]
        omega
      · rename_i k e he
        rw [he] at h
        have := weightsAll_bulk hP parts e (of_decide_eq_true h.2) x hx
        simp only [Rows.uptoBulk]
        omega
      · simp at hx
  | .map entries, t, ht => fun x hx => by
      have h := hP t ht
      unfold okT at h
      rw [Bool.and_eq_true] at h
      simp only [DataW.weights] at hx
      split at hx
      · rename_i k e he
        rw [he] at h
        have h2 := h.2
        simp only [Bool.and_eq_true] at h2
        have hb := okT_bytes hP (of_decide_eq_true h2.1)
        have hc := okT_bytes hP (of_decide_eq_true h2.2)
        have hl := bulkEntries_len entries
        simp only [Rows.uptoBulk]
        rcases List.mem_cons.1 hx with rfl | hx
        · have : entries.length * (P.bytesOf k + P.bytesOf e) ≤ entries.length * 600 := Nat.mul_le_mul_left _ (by omega)
          omega
        · have := weightsEntries_bulk hP entries e (of_decide_eq_true h2.2) x hx
          omega
      · simp at hx
theorem weightsAll_bulk (hP : ∀ t, t < N → okT P N t = true) : ∀ (l : List (DataW H)) (e : TypeId), e < N → ∀ x ∈ DataW.weightsAll P e l, x ≤ Rows.uptoBulkAll l * 600
  | [], e, he => fun x hx => by simp [DataW.weightsAll] at hx
  | d :: r, e, he => fun x hx => by
      simp only [DataW.weightsAll] at hx
      simp only [Rows.uptoBulkAll]
      rcases List.mem_append.1 hx with hx | hx
      · have := weights_bulk hP d e he x hx
        omega
      · have := weightsAll_bulk hP r e he x hx
        omega
theorem weightsEach_bulk (hP : ∀ t, t < N → okT P N t = true) : ∀ (l : List (DataW H)) (ts : List TypeId), (∀ e ∈ ts, e < N) → ∀ x ∈ DataW.weightsEach P ts l, x ≤ Rows.uptoBulkAll l * 600
  | [], ts, he => fun x hx => by cases ts <;> simp [DataW.weightsEach] at hx
  | d :: r, [], he => fun x hx => by simp [DataW.weightsEach] at hx
  | d :: r, t :: ts, he => fun x hx => by
      simp only [DataW.weightsEach] at hx
      simp only [Rows.uptoBulkAll]
      rcases List.mem_append.1 hx with hx | hx
      · have := weights_bulk hP d t (he t (by simp)) x hx
        omega
      · have := weightsEach_bulk hP r ts (fun e h => he e (by simp [h])) x hx
        omega
theorem weightsEntries_bulk (hP : ∀ t, t < N → okT P N t = true) : ∀ (l : List (Lit × DataW H)) (e : TypeId), e < N → ∀ x ∈ DataW.weightsEntries P e l, x ≤ Rows.uptoBulkEntries l * 600
  | [], e, he => fun x hx => by simp [DataW.weightsEntries] at hx
  | y :: r, e, he => fun x hx => by
      simp only [DataW.weightsEntries] at hx
      simp only [Rows.uptoBulkEntries]
      rcases List.mem_append.1 hx with hx | hx
      · have := weightsEntry_bulk hP y e he x hx
        omega
      · have := weightsEntries_bulk hP r e he x hx
        omega
theorem weightsEntry_bulk (hP : ∀ t, t < N → okT P N t = true) : ∀ (y : Lit × DataW H) (e : TypeId), e < N → ∀ x ∈ DataW.weightsEntry P e y, x ≤ Rows.uptoBulkEntry y * 600
  | (.string b, d), e, he => fun x hx => by
      simp only [DataW.weightsEntry] at hx
      simp only [Rows.uptoBulkEntry]
      rcases List.mem_cons.1 hx with rfl | hx
      · omega
      · have := weights_bulk hP d e he x hx
        omega
  | (l, d), e, he => fun x hx => by
      have h1 : x ∈ d.weights P e ∨ x ≤ Rows.uptoBulkEntry (l, d) * 600 := by
        cases l with
        | string b =>
          simp only [DataW.weightsEntry] at hx
          rcases List.mem_cons.1 hx with rfl | hx
          · right
            simp only [Rows.uptoBulkEntry]
            omega
          · exact .inl hx
        | _ => exact .inl (by simpa [DataW.weightsEntry] using hx)
      rcases h1 with h1 | h1
      · have h2 := weights_bulk hP d e he x h1
        have h3 : Rows.uptoBulk d ≤ Rows.uptoBulkEntry (l, d) := by cases l <;> simp only [Rows.uptoBulkEntry] <;> omega
        omega
      · exact h1
end
end

end Go.Proofs.YtkdmkpdooiacaaaDoor

namespace Go.Proofs.YtkdmkpdooiacaaaDoor.U
open Go.ChangeShapes Go.WideShapes Go.ChangeAt Go.RowKit

section
variable {H : Type} {enc : TypeId × Value → H} {W : World} {base : Nat}

/-- some cells' own reading, its weights within the reach -/
def FldL (enc : TypeId × Value → H) (P : Program) (W : World) (t : TypeId) (cs : List Value) : Prop :=
  ∃ m y, DataW.trod enc P W 0 (fun _ => true) true m t cs = some y ∧ ∀ x ∈ y.1.weights P t, x ≤ 629145600

theorem fld_one {P : Program} {t : TypeId} {v : Value} (h : FldL enc P W t [v]) : FldOk enc P W t v := h

/-- a struct of whatever fields -/
theorem fld_wide {P : Program} {t : TypeId} {fs : Array Field} {cs : List Value} (he : P.underlying t = some (.struct fs)) (h : FldL enc P W t cs) :
    cs.length = P.cellsOf t ∧ ∀ (j : Nat) (f : Field), fs[j]? = some f → FldL enc P W f.type ((cs.drop f.offset).take (P.cellsOf f.type)) := by
  obtain ⟨m, y, h, hw⟩ := h
  obtain ⟨ys, n', _, hy, hlen, hyl, hf⟩ := DataW.trod_struct he h
  subst hy
  refine ⟨hlen, fun j f hj => ?_⟩
  have hjl : j < fs.size := (Array.getElem?_eq_some_iff.1 hj).1
  have h1 := hf j f hj
  rw [List.getElem?_eq_getElem (by omega)] at h1
  refine ⟨n', _, h1, fun x hx => hw x ?_⟩
  simp only [DataW.weights, he]
  exact DataW.weights_mem_each (j := j) (t := f.type) (d := (ys[j]'(by omega)).1) (by simp [hj]) (by simp [List.getElem?_eq_getElem (show j < ys.length by omega)]) x hx

theorem fld_rec {F : Nat → Value} (h0 : FldOk enc Tryd.prog W 56 (F 0)) (h1 : FldOk enc Tryd.prog W 3 (F 1)) (h2 : FldOk enc Tryd.prog W 3 (F 2)) (h3 : FldOk enc Tryd.prog W 3 (F 3)) (h4 : FldOk enc Tryd.prog W 35 (F 4)) :
    ∃ r : Rs, (r.Wf ∧ RsSm r) ∧ RsAt ⟨W.heap.size, []⟩ W F r := by
  obtain ⟨na, nl, nc, nm, e0, r0, _, _, z0, s0⟩ := fld_strs Tryd.underlying56 Tryd.underlying9 (by kernel_rfl) h0
  obtain ⟨ty, e1, b1⟩ := fld_int Tryd.underlying3 h1
  obtain ⟨cl, e2, b2⟩ := fld_int Tryd.underlying3 h2
  obtain ⟨tt, e3, b3⟩ := fld_int Tryd.underlying3 h3
  obtain ⟨da, dl, dc, dt, e4, r4, _, _, z4, s4⟩ := fld_ints Tryd.underlying35 Tryd.underlying5 (by kernel_rfl) h4
  rw [show Tryd.prog.bytesOf 5 = 1 by kernel_rfl] at z4
  rw [show Tryd.prog.bytesOf 9 = 16 by kernel_rfl] at z0
  refine ⟨⟨nl, nm, ty, cl, tt, dl, dt⟩, ⟨⟨bd_i64 b1, bd_i64 b2, bd_i64 b3, fun j hj => bd_u8 (s4 j hj), fun j hj => by have := s0 j hj; show (nm j).size ≤ _; omega, by show nl * 16 ≤ _; omega, by show dl ≤ _; omega⟩, ⟨z0, by show dl ≤ _; omega, s0⟩⟩,
    na, nc, da, dc, fun c hc => ?_, ⟨r0, r4, Cold.old r0 ⟨Nat.le_refl _, by simp⟩, Cold.old r4 ⟨Nat.le_refl _, by simp⟩⟩⟩
  match c, hc with
  | 0, _ => exact e0
  | 1, _ => exact e1
  | 2, _ => exact e2
  | 3, _ => exact e3
  | 4, _ => exact e4

set_option maxRecDepth 100000 in
theorem fld_recs {v : Value} (h : FldOk enc Tryd.prog W 41 v) : ∃ n R F, Sec ⟨W.heap.size, []⟩ W v n R F ∧ n * 72 ≤ 629145600 ∧ ∀ i, i < n → RsSm (R i) := by
  obtain ⟨a, n, c, G, rfl, r0, l0, l1, l2, hG⟩ := fld_structs Tryd.underlying41 Tryd.underlying60 (by kernel_rfl) (by kernel_rfl) (by decide) h
  rw [show Tryd.prog.bytesOf 60 = 72 by kernel_rfl] at l2
  have hex : ∀ i : Nat, ∃ m : Rs, i < n → (m.Wf ∧ RsSm m) ∧ RsAt ⟨W.heap.size, []⟩ W (G i) m := fun i => by
    by_cases hi : i < n
    · obtain ⟨m, hm, hm2⟩ := fld_rec (hG i hi 0 _ rfl) (hG i hi 1 _ rfl) (hG i hi 2 _ rfl) (hG i hi 3 _ rfl) (hG i hi 4 _ rfl)
      exact ⟨m, fun _ => ⟨hm, hm2⟩⟩
    · exact ⟨⟨0, fun _ => .empty, 0, 0, 0, 0, fun _ => 0⟩, fun h => absurd h hi⟩
  obtain ⟨R, hR⟩ := Classical.skolem.1 hex
  exact ⟨n, R, G, ⟨r0, Cold.oldC r0 (by decide) ⟨Nat.le_refl _, by simp⟩, fun i hi => (hR i hi).2, fun i hi => (hR i hi).1.1, by omega⟩, l2, fun i hi => (hR i hi).1.2⟩

theorem fld_que {F : Nat → Value} (h0 : FldOk enc Tryd.prog W 56 (F 0)) (h1 : FldOk enc Tryd.prog W 3 (F 1)) (h2 : FldOk enc Tryd.prog W 3 (F 2)) :
    ∃ r : Qs, (r.Wf ∧ QsSm r) ∧ QsAt ⟨W.heap.size, []⟩ W F r := by
  obtain ⟨na, nl, nc, nm, e0, r0, _, _, z0, s0⟩ := fld_strs Tryd.underlying56 Tryd.underlying9 (by kernel_rfl) h0
  obtain ⟨ty, e1, b1⟩ := fld_int Tryd.underlying3 h1
  obtain ⟨cl, e2, b2⟩ := fld_int Tryd.underlying3 h2
  rw [show Tryd.prog.bytesOf 9 = 16 by kernel_rfl] at z0
  refine ⟨⟨nl, nm, ty, cl⟩, ⟨⟨bd_i64 b1, bd_i64 b2, fun j hj => by have := s0 j hj; show (nm j).size ≤ _; omega, by show nl * 16 ≤ _; omega⟩, ⟨z0, s0⟩⟩, na, nc, fun c hc => ?_, r0, Cold.old r0 ⟨Nat.le_refl _, by simp⟩⟩
  match c, hc with
  | 0, _ => exact e0
  | 1, _ => exact e1
  | 2, _ => exact e2

set_option maxRecDepth 100000 in
theorem fld_ques {v : Value} (h : FldOk enc Tryd.prog W 40 v) : ∃ n R F, QSec ⟨W.heap.size, []⟩ W v n R F ∧ n * 40 ≤ 629145600 ∧ ∀ i, i < n → QsSm (R i) := by
  obtain ⟨a, n, c, G, rfl, r0, l0, l1, l2, hG⟩ := fld_structs Tryd.underlying40 Tryd.underlying58 (by kernel_rfl) (by kernel_rfl) (by decide) h
  rw [show Tryd.prog.bytesOf 58 = 40 by kernel_rfl] at l2
  have hex : ∀ i : Nat, ∃ m : Qs, i < n → (m.Wf ∧ QsSm m) ∧ QsAt ⟨W.heap.size, []⟩ W (G i) m := fun i => by
    by_cases hi : i < n
    · obtain ⟨m, hm, hm2⟩ := fld_que (hG i hi 0 _ rfl) (hG i hi 1 _ rfl) (hG i hi 2 _ rfl)
      exact ⟨m, fun _ => ⟨hm, hm2⟩⟩
    · exact ⟨⟨0, fun _ => .empty, 0, 0⟩, fun h => absurd h hi⟩
  obtain ⟨R, hR⟩ := Classical.skolem.1 hex
  exact ⟨n, R, G, ⟨r0, Cold.oldC r0 (by decide) ⟨Nat.le_refl _, by simp⟩, fun i hi => (hR i hi).2, fun i hi => (hR i hi).1.1, by omega⟩, l2, fun i hi => (hR i hi).1.2⟩

theorem list_one {α : Type} {n : Nat} {l : List α} (h : l.length = n + 1) : ∃ x r, l = x :: r ∧ r.length = n := by
  cases l with
  | nil => simp at h
  | cons x r => exact ⟨x, r, rfl, by simpa using h⟩

theorem list15 {l : List Value} (h : l.length = 15) : ∃ a b c d e f g i j k m n o p q, l = [a, b, c, d, e, f, g, i, j, k, m, n, o, p, q] := by
  obtain ⟨a, r0, e0, h0⟩ := list_one h
  obtain ⟨b, r1, e1, h1⟩ := list_one h0
  obtain ⟨c, r2, e2, h2⟩ := list_one h1
  obtain ⟨d, r3, e3, h3⟩ := list_one h2
  obtain ⟨e, r4, e4, h4⟩ := list_one h3
  obtain ⟨f, r5, e5, h5⟩ := list_one h4
  obtain ⟨g, r6, e6, h6⟩ := list_one h5
  obtain ⟨i, r7, e7, h7⟩ := list_one h6
  obtain ⟨j, r8, e8, h8⟩ := list_one h7
  obtain ⟨k, r9, e9, h9⟩ := list_one h8
  obtain ⟨m, r10, e10, h10⟩ := list_one h9
  obtain ⟨n, r11, e11, h11⟩ := list_one h10
  obtain ⟨o, r12, e12, h12⟩ := list_one h11
  obtain ⟨p, r13, e13, h13⟩ := list_one h12
  obtain ⟨q, r14, e14, h14⟩ := list_one h13
  have e15 := List.eq_nil_of_length_eq_zero h14
  exact ⟨a, b, c, d, e, f, g, i, j, k, m, n, o, p, q, by rw [e0, e1, e2, e3, e4, e5, e6, e7, e8, e9, e10, e11, e12, e13, e14, e15]⟩

set_option maxRecDepth 100000 in
/-- fifteen cells of a message -/
theorem fld_msg {cs : List Value} (h : FldL enc Tryd.prog W 43 cs) : ∃ (m : Ms) (vq va vu vm : Value), (Value.agg cs.toArray = msgV m.h vq va vu vm) ∧ MsOk ⟨W.heap.size, []⟩ W m vq va vu vm ∧ MsSm m := by
  obtain ⟨hl, hf⟩ := fld_wide Tryd.underlying43 h
  rw [show Tryd.prog.cellsOf 43 = 15 by kernel_rfl] at hl
  obtain ⟨c0, c1, c2, c3, c4, c5, c6, c7, c8, c9, c10, q, a, u, m, rfl⟩ := list15 hl
  · have hq := hf 1 _ rfl
    have ha := hf 2 _ rfl
    have hu := hf 3 _ rfl
    have hm := hf 4 _ rfl
    have hh := hf 0 _ rfl
    obtain ⟨_, hhf⟩ := fld_wide Tryd.underlying39 hh
    obtain ⟨x0, rfl, b0⟩ := fld_int Tryd.underlying3 (fld_one (v := c0) (hhf 0 _ rfl))
    obtain ⟨x1, rfl⟩ := fld_bool Tryd.underlying4 (fld_one (v := c1) (hhf 1 _ rfl))
    obtain ⟨x2, rfl, b2⟩ := fld_int Tryd.underlying3 (fld_one (v := c2) (hhf 2 _ rfl))
    obtain ⟨x3, rfl⟩ := fld_bool Tryd.underlying4 (fld_one (v := c3) (hhf 3 _ rfl))
    obtain ⟨x4, rfl⟩ := fld_bool Tryd.underlying4 (fld_one (v := c4) (hhf 4 _ rfl))
    obtain ⟨x5, rfl⟩ := fld_bool Tryd.underlying4 (fld_one (v := c5) (hhf 5 _ rfl))
    obtain ⟨x6, rfl⟩ := fld_bool Tryd.underlying4 (fld_one (v := c6) (hhf 6 _ rfl))
    obtain ⟨x7, rfl⟩ := fld_bool Tryd.underlying4 (fld_one (v := c7) (hhf 7 _ rfl))
    obtain ⟨x8, rfl⟩ := fld_bool Tryd.underlying4 (fld_one (v := c8) (hhf 8 _ rfl))
    obtain ⟨x9, rfl⟩ := fld_bool Tryd.underlying4 (fld_one (v := c9) (hhf 9 _ rfl))
    obtain ⟨x10, rfl, b10⟩ := fld_int Tryd.underlying3 (fld_one (v := c10) (hhf 10 _ rfl))
    obtain ⟨nq, Q, FQ, hQ, qz, qs⟩ := fld_ques (fld_one (v := q) hq)
    obtain ⟨na, A, FA, hA, az, as_⟩ := fld_recs (fld_one (v := a) ha)
    obtain ⟨nu, U, FU, hU, uz, us⟩ := fld_recs (fld_one (v := u) hu)
    obtain ⟨nm, M, FM, hM, mz, ms⟩ := fld_recs (fld_one (v := m) hm)
    exact ⟨⟨⟨x0, x1, x2, x3, x4, x5, x6, x7, x8, x9, x10⟩, nq, Q, na, A, nu, U, nm, M⟩, q, a, u, m, rfl, ⟨⟨FQ, hQ⟩, ⟨FA, hA⟩, ⟨FU, hU⟩, ⟨FM, hM⟩, ⟨bd_i64 b0, bd_i64 b2, bd_i64 b10⟩⟩, ⟨qz, az, uz, mz, qs, as_, us, ms⟩⟩

theorem fldL_of {ts : List TypeId} {ds : List (DataW H)} {j : Nat} {t : TypeId} {P : Program} {v : Value} {d : DataW H} {p : List MemPlace} (h : DataW.Trod enc P W 0 (fun _ => true) true t v d p)
    (hsz : (DataW.weightsEach P ts ds).all (· ≤ 629145600) = true) (hts : ts[j]? = some t) (hds : ds[j]? = some d) : FldL enc P W t v.cells.toList := by
  obtain ⟨m, hm⟩ := h
  refine ⟨m, _, hm, fun x hx => ?_⟩
  have := List.all_eq_true.1 hsz _ (DataW.weights_mem_each hts hds x hx)
  simpa using this

set_option maxRecDepth 100000 in
set_option maxRecDepth 100000 in
/-- the arguments' weights, where their bulk is small -/
theorem small_weights {ts : List TypeId} {ds : List (DataW H)} {N : Nat} {P : Program} (hP : ((List.range N).all (okT P N)) = true) (hts : ts.all (fun t => decide (t < N)) = true) (hk : Rows.uptoSmall H ds = true) : (DataW.weightsEach P ts ds).all (· ≤ 629145600) = true := by
  have hb := bulk_bound hk
  rw [List.all_eq_true]
  intro x hx
  have hP2 : ∀ t, t < N → okT P N t = true := fun t ht => by
    rw [List.all_eq_true] at hP
    exact hP t (List.mem_range.2 ht)
  have hts2 : ∀ e ∈ ts, e < N := fun e he => by
    rw [List.all_eq_true] at hts
    exact of_decide_eq_true (hts e he)
  have h1 := weightsEach_bulk hP2 ds ts hts2 x hx
  have h2 : x ≤ 629145600 := by omega
  exact decide_eq_true h2

set_option maxRecDepth 100000 in
/-- a message that comes in -/
theorem arg_msg {v : Value} {d : DataW H} {p : List MemPlace} {ts : List TypeId} {ds : List (DataW H)} {j : Nat}
    (hok : Value.okWide Tryd.prog W .any base 43 v) (h : DataW.Trod enc Tryd.prog W 0 (fun _ => true) true 43 v d p)
    (hsz : (DataW.weightsEach Tryd.prog ts ds).all (· ≤ 629145600) = true) (hts : ts[j]? = some 43) (hds : ds[j]? = some d) :
    ∃ (m : Ms) (vq va vu vm : Value), v = msgV m.h vq va vu vm ∧ MsOk ⟨W.heap.size, []⟩ W m vq va vu vm ∧ MsSm m := by
  obtain ⟨cs, rfl, hsize⟩ := okWide_struct Tryd.underlying43 hok
  obtain ⟨m, vq, va, vu, vm, e, hm⟩ := fld_msg (fldL_of h hsz hts hds)
  exact ⟨m, vq, va, vu, vm, by rw [← e]; simp [Value.cells], hm⟩

set_option maxRecDepth 100000 in
/-- strings that come in -/
theorem arg_strs {v : Value} {d : DataW H} {p : List MemPlace} {ts : List TypeId} {ds : List (DataW H)} {j : Nat}
    (hok : Value.okWide Tryd.prog W .any base 56 v) (h : DataW.Trod enc Tryd.prog W 0 (fun _ => true) true 56 v d p)
    (hsz : (DataW.weightsEach Tryd.prog ts ds).all (· ≤ 629145600) = true) (hts : ts[j]? = some 56) (hds : ds[j]? = some d) :
    ∃ (a : Option Addr) (n c : Nat) (s : Nat → ByteArray), v = .slice a n c ∧ RdF W (.slice a n c) n (fun j => .string (s j)) ∧ n * 16 ≤ 629145600 ∧ ∀ i, i < n → (s i).size ≤ 629145600 := by
  obtain ⟨a0, len0, cap0, rfl⟩ := okWide_slice Tryd.underlying56 hok
  obtain ⟨a, n, c, s, e, r, _, _, z, sz⟩ := fld_strs Tryd.underlying56 Tryd.underlying9 (by kernel_rfl) (fld_of rfl h hsz hts hds)
  rw [show Tryd.prog.bytesOf 9 = 16 by kernel_rfl] at z
  exact ⟨a, n, c, s, e, r, z, sz⟩

end

end Go.Proofs.YtkdmkpdooiacaaaDoor.U

namespace Go.Proofs.YtkdmkpdooiacaaaDoor
open Go.RowKit

namespace U
open Go.ChangeShapes Go.WideShapes Go.ChangeAt Go.RowKit

section
variable {H : Type} {enc : TypeId × Value → H} {P : Program} {W : World} {base : Nat}

/-- a slice of elements of so many cells -/
theorem fld_rows {t e : TypeId} {s : Nat} {v : Value} (ht : P.underlying t = some (.slice e)) (hC : P.cellsOf e = s) (hpos : 0 < s) (h : FldOk enc P W t v) :
    ∃ (a : Option Addr) (n c : Nat) (F : Nat → Nat → Value), v = .slice a n c ∧ RdC W (.slice a n c) s n F ∧ n ≤ c ∧ c ≤ maxLen ∧ n * P.bytesOf e ≤ 629145600 ∧
      ∀ i, i < n → FldL enc P W e ((List.range s).map (F i)) := by
  obtain ⟨m0, y, h, hw⟩ := h
  rcases Go.Deep.open_slice ht h with ⟨hcs, hx⟩ | ⟨a, l, c, m, n, D, Pl, hcs, _, hl, hm, hmm, hx, hi⟩
  · obtain rfl : v = .slice none 0 0 := by simpa using hcs
    exact ⟨none, 0, 0, fun _ _ => undef, rfl, .inl ⟨rfl, rfl⟩, Nat.le_refl _, by decide, by omega, fun i hi => by omega⟩
  · obtain rfl : v = .slice (some a) l c := by simpa using hcs
    subst hx
    have hmm' : m = c := by simpa using hmm
    have hs := hw ((((List.range l).map D).length + ((List.range (m - l)).map fun i => D (l + i)).length) * P.bytesOf e) (by simp [DataW.weights, ht])
    have hel : ∀ i, i < l → FldL enc P W e ((List.range s).map (fun j => (W.cell? (a.add (i * s + j))).getD undef)) ∧ ∀ j, j < s → ∃ u, W.cell? (a.add (i * s + j)) = some u := by
      intro i hil
      obtain ⟨cs', hc, htr⟩ := hi i (by omega)
      rw [hC] at hc
      obtain ⟨_, hlen, hat⟩ := World.cells?_some hc
      have hat2 : ∀ j, j < s → W.cell? (a.add (i * s + j)) = cs'[j]? := fun j hj => by rw [← Go.Deep.add_add]; exact hat j hj
      have hcs : cs' = (List.range s).map (fun j => (W.cell? (a.add (i * s + j))).getD undef) := by
        apply List.ext_getElem
        · simp [hlen]
        · intro j h1 h2
          have hj : j < s := by simpa using h2
          simp only [List.getElem_map, List.getElem_range]
          rw [hat2 j hj, List.getElem?_eq_getElem h1]
          rfl
      refine ⟨⟨_, _, hcs ▸ htr, fun x hx => hw x ?_⟩, fun j hj => ?_⟩
      · simp only [DataW.weights, ht, List.mem_cons, List.mem_append]
        exact .inr (.inl (weights_all (List.mem_map.2 ⟨i, List.mem_range.2 hil, rfl⟩) hx))
      · rw [hat2 j hj]
        exact ⟨_, List.getElem?_eq_getElem (by omega)⟩
    refine ⟨some a, l, c, fun i j => (W.cell? (a.add (i * s + j))).getD undef, rfl, .inr ⟨a, c, rfl, hl, hm, fun j hj => ?_⟩, hl, hm, Nat.le_trans (Nat.mul_le_mul_right _ (by simp)) hs, fun i hil => (hel i hil).1⟩
    have hjm : j % s < s := Nat.mod_lt _ hpos
    obtain ⟨u, hu⟩ := (hel (j / s) (div_lt' hj)).2 (j % s) hjm
    unfold fls
    have e2 : j / s * s + j % s = j := by rw [Nat.mul_comm]; exact Nat.div_add_mod j s
    have e3 : (fun i j => (W.cell? (a.add (i * s + j))).getD undef) (j / s) (j % s) = (W.cell? (a.add (j / s * s + j % s))).getD undef := rfl
    rw [e3]
    rw [e2] at hu ⊢
    rw [hu]
    rfl

set_option maxRecDepth 100000 in
theorem fld_msgs {v : Value} (h : FldOk enc Tryd.prog W 22 v) : ∃ (a : Option Addr) (n c : Nat) (M : Nat → Ms) (V : Nat → Value × Value × Value × Value), v = .slice a n c ∧ MsgsAt ⟨W.heap.size, []⟩ W (.slice a n c) n M V ∧ n * 136 ≤ 629145600 ∧ ∀ i, i < n → MsSm (M i) := by
  obtain ⟨a, n, c, G, rfl, r0, l0, l1, l2, hG⟩ := fld_rows Tryd.underlying22 (s := 15) (by kernel_rfl) (by decide) h
  rw [show Tryd.prog.bytesOf 43 = 136 by kernel_rfl] at l2
  have hex : ∀ i : Nat, ∃ mv : Ms × Value × Value × Value × Value, i < n → (∀ c, c < 15 → G i c = msC mv.1.h mv.2.1 mv.2.2.1 mv.2.2.2.1 mv.2.2.2.2 c) ∧ MsOk ⟨W.heap.size, []⟩ W mv.1 mv.2.1 mv.2.2.1 mv.2.2.2.1 mv.2.2.2.2 ∧ MsSm mv.1 := fun i => by
    by_cases hi : i < n
    · obtain ⟨m, vq, va, vu, vm, e, hm, hs⟩ := fld_msg (hG i hi)
      refine ⟨⟨m, vq, va, vu, vm⟩, fun _ => ⟨fun c hc => ?_, hm, hs⟩⟩
      unfold msgV at e
      simp only [Value.agg.injEq] at e
      have e2 : ((List.range 15).map (G i)).toArray[c]? = some (G i c) := by simp [hc]
      rw [e] at e2
      match c, hc with
      | 0, _ => exact (Option.some.inj e2).symm
      | 1, _ => exact (Option.some.inj e2).symm
      | 2, _ => exact (Option.some.inj e2).symm
      | 3, _ => exact (Option.some.inj e2).symm
      | 4, _ => exact (Option.some.inj e2).symm
      | 5, _ => exact (Option.some.inj e2).symm
      | 6, _ => exact (Option.some.inj e2).symm
      | 7, _ => exact (Option.some.inj e2).symm
      | 8, _ => exact (Option.some.inj e2).symm
      | 9, _ => exact (Option.some.inj e2).symm
      | 10, _ => exact (Option.some.inj e2).symm
      | 11, _ => exact (Option.some.inj e2).symm
      | 12, _ => exact (Option.some.inj e2).symm
      | 13, _ => exact (Option.some.inj e2).symm
      | 14, _ => exact (Option.some.inj e2).symm
    · exact ⟨⟨⟨⟨0, false, 0, false, false, false, false, false, false, false, 0⟩, 0, fun _ => ⟨0, fun _ => .empty, 0, 0⟩, 0, fun _ => ⟨0, fun _ => .empty, 0, 0, 0, 0, fun _ => 0⟩, 0, fun _ => ⟨0, fun _ => .empty, 0, 0, 0, 0, fun _ => 0⟩, 0, fun _ => ⟨0, fun _ => .empty, 0, 0, 0, 0, fun _ => 0⟩⟩, undef, undef, undef, undef⟩, fun h => absurd h hi⟩
  obtain ⟨R, hR⟩ := Classical.skolem.1 hex
  exact ⟨a, n, c, fun i => (R i).1, fun i => (R i).2, rfl, ⟨r0.congr (by decide) (fun i c hi hc => (hR i hi).1 c hc), fun i hi => (hR i hi).2.1⟩, l2, fun i hi => (hR i hi).2.2⟩

set_option maxRecDepth 100000 in
/-- messages that come in -/
theorem arg_msgs {v : Value} {d : DataW H} {p : List MemPlace} {ts : List TypeId} {ds : List (DataW H)} {j : Nat}
    (hok : Value.okWide Tryd.prog W .any base 22 v) (h : DataW.Trod enc Tryd.prog W 0 (fun _ => true) true 22 v d p)
    (hsz : (DataW.weightsEach Tryd.prog ts ds).all (· ≤ 629145600) = true) (hts : ts[j]? = some 22) (hds : ds[j]? = some d) :
    ∃ (a : Option Addr) (n c : Nat) (M : Nat → Ms) (V : Nat → Value × Value × Value × Value), v = .slice a n c ∧ MsgsAt ⟨W.heap.size, []⟩ W (.slice a n c) n M V ∧ n * 136 ≤ 629145600 ∧ ∀ i, i < n → MsSm (M i) := by
  obtain ⟨a0, len0, cap0, rfl⟩ := okWide_slice Tryd.underlying22 hok
  exact fld_msgs (fld_of rfl h hsz hts hds)

end
end U
end Go.Proofs.YtkdmkpdooiacaaaDoor

namespace Go.Proofs.YtkdmkpdooiacaaaDoor.U
open Go.RowKit

def nTypes : Nat := 262
theorem types_ok : ((List.range nTypes).all (okT Tryd.prog nTypes)) = true := by kernel_rfl

end Go.Proofs.YtkdmkpdooiacaaaDoor.U

namespace Go.Proofs.YtkdmkpdooiacaaaDoor
open Go.RowKit

theorem step_go {P : Program} {w : World} {ops : Array Oper} {o : Oper} {a : Act} {K : Act → World → Prop} {Q : Exit → Act → World → Prop} {X : Prop} (hgd : o.guard = none) (f : FuncId) (args : Array Operand) (ts : Array TypeId)
    (ho : o.op = .call { callee := .value (.func f), args := args, argTypes := ts }) (hf : ∀ (xs : Array Value) (u : World), (callFunc f xs).run P u = .ok (.enter f xs) u) {vals : Array Value} (hv : args.map a.eval = vals) {R : Ending → World → Prop} (hc : Calls P f vals w R)
    (h : ∀ e w', R e w' → ∃ v, e = .returned v ∧ K (a.put o.dst v) w') : if Region.wanted o (yielded ops a.tmps) = true then Oper.wp P o a w K Q else X := by
  have hw : Region.wanted o (yielded ops a.tmps) = true := by simp [Region.wanted, hgd]
  rw [if_pos hw]
  subst hv
  unfold Oper.wp
  have hrun : (execOp a.eval o).run P w = .ok (.enter f (args.map a.eval)) w := by
    have e1 : a.eval (.func f) = .func (.func f) #[] #[] := rfl
    simp [execOp, ho, resolve, Deferred.ofValue, e1, invoke, hf]
  rw [hrun, Oper.upon_enter]
  exact hc.mono fun e w' hr => by
    obtain ⟨v, rfl, hk⟩ := h e w' hr
    exact hk

theorem step_go1 {P : Program} {w : World} {ops : Array Oper} {o : Oper} {a : Act} {K : Act → World → Prop} {Q : Exit → Act → World → Prop} {X : Prop} (hgd : o.guard = none) (f : FuncId) (x : Operand) (t : TypeId)
    (ho : o.op = .call { callee := .value (.func f), args := #[x], argTypes := #[t] }) (hf : ∀ (xs : Array Value) (u : World), (callFunc f xs).run P u = .ok (.enter f xs) u) {u : Value} (hx : a.eval x = u) {R : Ending → World → Prop} (hc : Calls P f #[u] w R)
    (h : ∀ e w', R e w' → ∃ v, e = .returned v ∧ K (a.put o.dst v) w') : if Region.wanted o (yielded ops a.tmps) = true then Oper.wp P o a w K Q else X :=
  step_go hgd f #[x] #[t] ho hf (by simp [hx]) hc h

theorem step_go2 {P : Program} {w : World} {ops : Array Oper} {o : Oper} {a : Act} {K : Act → World → Prop} {Q : Exit → Act → World → Prop} {X : Prop} (hgd : o.guard = none) (f : FuncId) (x y : Operand) (t s : TypeId)
    (ho : o.op = .call { callee := .value (.func f), args := #[x, y], argTypes := #[t, s] }) (hf : ∀ (xs : Array Value) (u : World), (callFunc f xs).run P u = .ok (.enter f xs) u) {u v : Value} (hx : a.eval x = u) (hy : a.eval y = v) {R : Ending → World → Prop} (hc : Calls P f #[u, v] w R)
    (h : ∀ e w', R e w' → ∃ v, e = .returned v ∧ K (a.put o.dst v) w') : if Region.wanted o (yielded ops a.tmps) = true then Oper.wp P o a w K Q else X :=
  step_go hgd f #[x, y] #[t, s] ho hf (by simp [hx, hy]) hc h

end Go.Proofs.YtkdmkpdooiacaaaDoor

namespace Go.Proofs.YtkdmkpdooiacaaaDoor
open Go.RowKit

theorem there_blk {w : World} {b : Nat} {cs : Array Value} {T : TypeId} {m : Nat} (h : w.heap[b]? = some (.cells cs T (0, 0))) (hm : cs.size = m) : w.there b 0 m := fun j hj => by
  rw [Nat.zero_add]
  refine ⟨?_, blk_frozen h j⟩
  rw [blk_cell h j (v := cs[j]'(by omega)) (Array.getElem?_eq_getElem (by omega))]
  rfl

theorem setArr_blk {w : World} {b : Nat} {cs : Array Value} {T : TypeId} (h : w.heap[b]? = some (.cells cs T (0, 0))) (C : Array Value) (hm : C.size = cs.size) : (w.setCells b 0 C.toList).heap[b]? = some (.cells C T (0, 0)) := by
  have := setCells_all C.toList h (by simpa using hm)
  simpa using this

theorem setArr_fr (w : World) (b : Nat) (C : Array Value) : Fr [b] w (w.setCells b 0 C.toList) := setCells_fr C.toList 0 w

section
variable {P : Program} {ops : Array Oper} {o : Oper} {a : Act} {w : World} {Q : Exit → Act → World → Prop} {rest : List Oper}

theorem wpList_storeArr (hgd : o.guard = none) (ty : TypeId) (x y : Operand) (ho : o.op = .store ty x y) (b : Nat) (C cs : Array Value) (T : TypeId) (hx : a.eval x = .pointer (some ⟨b, 0, none⟩)) (hy : a.eval y = .agg C)
    (hb : w.heap[b]? = some (.cells cs T (0, 0))) (hm : C.size = cs.size) (hi : (P.info? ty).map (·.size) = some C.size) (h1 : C.all (·.oneCell') = true)
    (h : ∀ w', w'.heap[b]? = some (.cells C T (0, 0)) → Fr [b] w w' → wpList P ops Q rest (a.put o.dst undef) w') : wpList P ops Q (o :: rest) a w :=
  wpList_store_mid hgd ty x y ho b 0 C hx hy (there_blk hb hm.symm) hi h1 (h _ (setArr_blk hb C hm) (setArr_fr w b C))

theorem step_storeArr {K : Act → World → Prop} {X : Prop} (hgd : o.guard = none) (ty : TypeId) (x y : Operand) (ho : o.op = .store ty x y) (b : Nat) (C cs : Array Value) (T : TypeId) (hx : a.eval x = .pointer (some ⟨b, 0, none⟩)) (hy : a.eval y = .agg C)
    (hb : w.heap[b]? = some (.cells cs T (0, 0))) (hm : C.size = cs.size) (hi : (P.info? ty).map (·.size) = some C.size) (h1 : C.all (·.oneCell') = true)
    (h : ∀ w', w'.heap[b]? = some (.cells C T (0, 0)) → Fr [b] w w' → K (a.put o.dst undef) w') : if Region.wanted o (yielded ops a.tmps) = true then Oper.wp P o a w K Q else X := by
  have hw : Region.wanted o (yielded ops a.tmps) = true := by simp [Region.wanted, hgd]
  rw [if_pos hw]
  exact wp_store_mid ty x y ho b 0 C hx hy (there_blk hb hm.symm) hi h1 (h _ (setArr_blk hb C hm) (setArr_fr w b C))

theorem step_loadArr {K : Act → World → Prop} {X : Prop} (hgd : o.guard = none) (ty : TypeId) (x : Operand) (ho : o.op = .load ty x) (b off : Nat) (hx : a.eval x = .pointer (some ⟨b, off, none⟩)) (cs : Array Value) (d : TypeDesc) (hc : w.rangeAt b off cs.toList)
    (hu : P.underlying ty = some d) (hd : d.isRow = true) (hi : (P.info? ty).map (·.size) = some cs.toList.length)
    (h : K (a.put o.dst (.agg cs)) w) : if Region.wanted o (yielded ops a.tmps) = true then Oper.wp P o a w K Q else X := by
  have hw : Region.wanted o (yielded ops a.tmps) = true := by simp [Region.wanted, hgd]
  rw [if_pos hw]
  exact wp_load_mid ty x ho b off hx cs.toList d hc hu hd hi (by simpa using h)

end
end Go.Proofs.YtkdmkpdooiacaaaDoor

namespace Go.Proofs.YtkdmkpdooiacaaaDoor
open Go.RowKit

section
variable {P : Program} {ops : Array Oper} {o : Oper} {a : Act} {w : World} {Q : Exit → Act → World → Prop} {rest : List Oper} {K : Act → World → Prop} {X : Prop}

theorem run_allocB {ty : TypeId} (ho : o.op = .alloc ty) {z : Value} (hz : ∀ u : World, (zeroValue ty).run P u = .ok z u) {cs : Array Value} (hcs : z.cells = cs) :
    Oper.wp P o a w K Q ↔ K (a.put o.dst (.pointer (some ⟨w.heap.size, 0, none⟩))) (w.alloc (.cells cs ty)) := by
  unfold Oper.wp
  simp [execOp, ho, Instr.alloc, hz, newVar, newRow, hcs, Result.andThen]
  exact Iff.rfl

theorem step_allocB (hgd : o.guard = none) (ty : TypeId) (ho : o.op = .alloc ty) {z : Value} (hz : ∀ u : World, (zeroValue ty).run P u = .ok z u) {cs : Array Value} (hcs : z.cells = cs)
    (h : ∀ b w', w'.heap[b]? = some (.cells cs ty (0, 0)) → w.heap.size ≤ b → Fr [] w w' → K (a.put o.dst (.pointer (some ⟨b, 0, none⟩))) w') : if Region.wanted o (yielded ops a.tmps) = true then Oper.wp P o a w K Q else X := by
  have hw : Region.wanted o (yielded ops a.tmps) = true := by simp [Region.wanted, hgd]
  rw [if_pos hw, run_allocB ho hz hcs]
  exact h _ _ (heap_alloc_new w _) (Nat.le_refl _) ((Fr.refl [] w).alloc _)

theorem step_go3 (hgd : o.guard = none) (f : FuncId) (x y z : Operand) (t s r : TypeId)
    (ho : o.op = .call { callee := .value (.func f), args := #[x, y, z], argTypes := #[t, s, r] }) (hf : ∀ (xs : Array Value) (u : World), (callFunc f xs).run P u = .ok (.enter f xs) u) {u v k : Value} (hx : a.eval x = u) (hy : a.eval y = v) (hz : a.eval z = k) {R : Ending → World → Prop} (hc : Calls P f #[u, v, k] w R)
    (h : ∀ e w', R e w' → ∃ v, e = .returned v ∧ K (a.put o.dst v) w') : if Region.wanted o (yielded ops a.tmps) = true then Oper.wp P o a w K Q else X :=
  step_go hgd f #[x, y, z] #[t, s, r] ho hf (by simp [hx, hy, hz]) hc h

theorem step_go4 (hgd : o.guard = none) (f : FuncId) (x y z q : Operand) (t s r p : TypeId)
    (ho : o.op = .call { callee := .value (.func f), args := #[x, y, z, q], argTypes := #[t, s, r, p] }) (hf : ∀ (xs : Array Value) (u : World), (callFunc f xs).run P u = .ok (.enter f xs) u) {u v k m : Value} (hx : a.eval x = u) (hy : a.eval y = v) (hz : a.eval z = k) (hq : a.eval q = m) {R : Ending → World → Prop} (hc : Calls P f #[u, v, k, m] w R)
    (h : ∀ e w', R e w' → ∃ v, e = .returned v ∧ K (a.put o.dst v) w') : if Region.wanted o (yielded ops a.tmps) = true then Oper.wp P o a w K Q else X :=
  step_go hgd f #[x, y, z, q] #[t, s, r, p] ho hf (by simp [hx, hy, hz, hq]) hc h

theorem yieldsIf_load_arr {S : World → Prop} {op : Oper} (hw : Region.wanted op (yielded ops a.tmps) = true) (ty : TypeId) (x : Operand) (ho : op.op = .load ty x)
    (b o : Nat) (hx : a.eval x = .pointer (some ⟨b, o, none⟩)) (cs : Array Value) (d : TypeDesc) (hS : ∀ w, S w → w.rangeAt b o cs.toList)
    (hu : P.underlying ty = some d) (hd : d.isRow = true) (hi : (P.info? ty).map (·.size) = some cs.toList.length) : YieldsIf P ops S op (.agg cs) a := by
  have h := yieldsIf_load_mid hw ty x ho b o hx cs.toList d hS hu hd hi
  simpa using h
end

/-- a message's cells are one value each -/
theorem MsOk.one_cells {B : HB} {w : World} {m : Ms} {vq va vu vm : Value} (h : MsOk B w m vq va vu vm) : (msgCs m.h vq va vu vm).all (·.oneCell') = true := by
  obtain ⟨_, hQ⟩ := h.hq
  obtain ⟨_, hA⟩ := h.ha
  obtain ⟨_, hU⟩ := h.hu
  obtain ⟨_, hM⟩ := h.hm
  obtain ⟨qa4, qc4, hvq⟩ := hQ.rd.slice
  obtain ⟨aa4, ac4, hva⟩ := hA.rd.slice
  obtain ⟨ua4, uc4, hvu⟩ := hU.rd.slice
  obtain ⟨ma4, mc4, hvm⟩ := hM.rd.slice
  rw [hvq, hva, hvu, hvm]
  simp [msgCs, Value.oneCell']

/-- fifteen cells of an empty message -/
def zCs : Array Value := #[.int .i64 0, .bool false, .int .i64 0, .bool false, .bool false, .bool false, .bool false, .bool false, .bool false, .bool false, .int .i64 0, .slice none 0 0, .slice none 0 0, .slice none 0 0, .slice none 0 0]

theorem zCs_one : zCs.all (·.oneCell') = true := by
  unfold zCs
  simp [Value.oneCell']

end Go.Proofs.YtkdmkpdooiacaaaDoor

namespace Go.Proofs.YtkdmkpdooiacaaaDoor
open Go.RowKit

/-- an operation without its place -/
def opr (d : Option Tmp) (op : Op) (ty : TypeId) : Oper := ⟨d, op, ty, "", #[], none⟩

/-- number i of the operations is this one, under no guard -/
def OpAt (ops : Array Oper) (i : Nat) (d : Option Tmp) (op : Op) (ty : TypeId) : Prop := (ops[i]?).map (fun o => (o.dst, o.op, o.type, o.guard)) = some (d, op, ty, none)

theorem OpAt.get {ops : Array Oper} {i : Nat} {d : Option Tmp} {op : Op} {ty : TypeId} (h : OpAt ops i d op ty) : ∃ pos after, ops[i]? = some ⟨d, op, ty, pos, after, none⟩ := by
  unfold OpAt at h
  match ho : ops[i]?, h with
  | some ⟨d', op', ty', pos, after, g'⟩, h =>
    simp only [Option.map_some, Option.some.injEq, Prod.mk.injEq] at h
    obtain ⟨rfl, rfl, rfl, rfl⟩ := h
    exact ⟨pos, after, rfl⟩

theorem wp_opr {P : Program} {d : Option Tmp} {op : Op} {ty : TypeId} {pos : String} {after : Array Edge} {a : Act} {w : World} {K : Act → World → Prop} {Q : Exit → Act → World → Prop} :
    Oper.wp P ⟨d, op, ty, pos, after, none⟩ a w K Q = Oper.wp P (opr d op ty) a w K Q := rfl

section
variable {P : Program} {md : Region.Mode} {ops : Array Oper} {Q : Exit → Act → World → Prop} {S : World → Prop} {fuel : Nat} {listed : Array Bool} {a : Act} {w : World}

/-- what yields in every world that meets S is taken first -/
theorem takeV {i : Nat} (d : Tmp) (op : Op) (ty : TypeId) {v : Value} (hi : (ops[i]?).map (fun o => (o.dst, o.op, o.type, o.guard)) = some (some d, op, ty, none)) (hs : Region.noSelect ops = true) (hf : Region.free md ops listed i = true) (hr : (Region.ready md ops listed).contains i = true)
    (hQ : ∀ c a w, Q (.panic c) (a.put (some d) v) w → Q (.panic c) a w) (hy : YieldsIf P ops S (opr (some d) op ty) v a) (hS : S w)
    (h : wpAnyH P md ops Q S fuel (listed.setIfInBounds i true) { a with tmps := a.tmps.setIfInBounds d v } w) : wpAnyH P md ops Q S (fuel + 1) listed a w := by
  obtain ⟨pos, after, ho⟩ := OpAt.get (show OpAt _ _ _ _ _ from hi)
  exact wpAnyH_take (v := v) ho hs hf hr hQ hy hS h

/-- an operation that comes up -/
theorem AllReadyH.consV {i : Nat} {rs : List Nat} (d : Option Tmp) (op : Op) (ty : TypeId) (hi : (ops[i]?).map (fun o => (o.dst, o.op, o.type, o.guard)) = some (d, op, ty, none))
    (h : ∀ K' : Act → World → Prop, Shut (∀ a w, S w → (S w → wpAnyH P md ops Q S fuel (listed.setIfInBounds i true) a w) → K' a w) → Oper.wp P (opr d op ty) a w K' Q)
    (hs : AllReadyH P md ops Q S fuel listed a w rs) : AllReadyH P md ops Q S fuel listed a w (i :: rs) := by
  obtain ⟨pos, after, ho⟩ := OpAt.get (show OpAt _ _ _ _ _ from hi)
  refine AllReadyH.cons ho (fun K' hK => ?_) hs
  rw [if_pos (by rfl), wp_opr]
  exact h K' hK

end

section
variable {P : Program} {Q : Exit → Act → World → Prop} {a : Act} {w : World} {K : Act → World → Prop}

theorem opr_alloc {d : Tmp} (ty : TypeId) {ty' : TypeId} {z : Value} (hz : ∀ u : World, (zeroValue ty).run P u = .ok z u) {cs : Array Value} (hcs : z.cells = cs)
    (h : ∀ b w', w'.heap[b]? = some (.cells cs ty (0, 0)) → w.heap.size ≤ b → Fr [] w w' → K { a with tmps := a.tmps.setIfInBounds d (.pointer (some ⟨b, 0, none⟩)) } w') : Oper.wp P (opr (some d) (.alloc ty) ty') a w K Q := by
  rw [run_allocB (o := opr (some d) (.alloc ty) ty') rfl hz hcs]
  exact h _ _ (heap_alloc_new w _) (Nat.le_refl _) ((Fr.refl [] w).alloc _)

theorem opr_store (ty : TypeId) (x y : Operand) {ty' : TypeId} (b : Nat) (C cs : Array Value) (T : TypeId) (hx : a.eval x = .pointer (some ⟨b, 0, none⟩)) (hy : a.eval y = .agg C)
    (hb : w.heap[b]? = some (.cells cs T (0, 0))) (hm : C.size = cs.size) (hi : (P.info? ty).map (·.size) = some C.size) (h1 : C.all (·.oneCell') = true)
    (h : ∀ w', w'.heap[b]? = some (.cells C T (0, 0)) → Fr [b] w w' → K a w') : Oper.wp P (opr none (.store ty x y) ty') a w K Q :=
  wp_store_mid ty x y rfl b 0 C hx hy (there_blk hb hm.symm) hi h1 (h _ (setArr_blk hb C hm) (setArr_fr w b C))

theorem opr_go {d : Tmp} (f : FuncId) (args : Array Operand) (ts : Array TypeId) {ty' : TypeId} (hf : ∀ (xs : Array Value) (u : World), (callFunc f xs).run P u = .ok (.enter f xs) u) (vals : Array Value) (hv : args.map a.eval = vals) {R : Ending → World → Prop} (hc : Calls P f vals w R)
    (h : ∀ e w', R e w' → ∃ v, e = .returned v ∧ K { a with tmps := a.tmps.setIfInBounds d v } w') : Oper.wp P (opr (some d) (.call { callee := .value (.func f), args := args, argTypes := ts }) ty') a w K Q := by
  subst hv
  unfold Oper.wp
  have hrun : (execOp a.eval (opr (some d) (.call { callee := .value (.func f), args := args, argTypes := ts }) ty')).run P w = .ok (.enter f (args.map a.eval)) w := by
    have e1 : a.eval (.func f) = .func (.func f) #[] #[] := rfl
    simp [opr, execOp, resolve, Deferred.ofValue, e1, invoke, hf]
  rw [hrun, Oper.upon_enter]
  exact hc.mono fun e w' hr => by
    obtain ⟨v, rfl, hk⟩ := h e w' hr
    exact hk

theorem vals1 {x : Operand} {u : Value} (h1 : a.eval x = u) : #[x].map a.eval = #[u] := by simp [h1]
theorem vals2 {x y : Operand} {u v : Value} (h1 : a.eval x = u) (h2 : a.eval y = v) : #[x, y].map a.eval = #[u, v] := by simp [h1, h2]
theorem vals3 {x y z : Operand} {u v k : Value} (h1 : a.eval x = u) (h2 : a.eval y = v) (h3 : a.eval z = k) : #[x, y, z].map a.eval = #[u, v, k] := by simp [h1, h2, h3]
theorem vals4 {x y z p : Operand} {u v k m : Value} (h1 : a.eval x = u) (h2 : a.eval y = v) (h3 : a.eval z = k) (h4 : a.eval p = m) : #[x, y, z, p].map a.eval = #[u, v, k, m] := by simp [h1, h2, h3, h4]

end
end Go.Proofs.YtkdmkpdooiacaaaDoor

namespace Go.Proofs.YtkdmkpdooiacaaaDoor
open Go.RowKit

/-- do two names agree up to n, letter by letter? -/
def txUpTo (s t : Nat → ByteArray) : Nat → Bool
  | 0 => true
  | n + 1 => txUpTo s t n && ((s n).toList == (t n).toList)

theorem txUpTo_mono (s t : Nat → ByteArray) (n k : Nat) (hk : k ≤ n) (h : txUpTo s t k = false) : txUpTo s t n = false := by
  induction n with
  | zero => obtain rfl : k = 0 := by omega
            exact h
  | succ n ih =>
    by_cases e : k = n + 1
    · rw [← e]; exact h
    · simp only [txUpTo, ih (by omega), Bool.false_and]

theorem txUpTo_iff (s t : Nat → ByteArray) (n : Nat) : txUpTo s t n = true ↔ ∀ j, j < n → s j = t j := by
  induction n with
  | zero => simp [txUpTo]
  | succ n ih =>
    simp only [txUpTo, Bool.and_eq_true, ih, beq_iff_eq]
    constructor
    · rintro ⟨h1, h2⟩ j hj
      by_cases e : j = n
      · subst e
        rw [ByteArray.toList_eq, ByteArray.toList_eq] at h2
        have e2 : (s j).data = (t j).data := Array.toList_inj.1 h2
        cases hs : s j
        cases ht : t j
        rw [hs, ht] at e2
        simp only at e2
        rw [e2]
      · exact h1 j (by omega)
    · intro h
      exact ⟨fun j hj => h j (by omega), by rw [h n (by omega)]⟩

/-- are two names one, letter by letter? -/
def txEq (n m : Nat) (s t : Nat → ByteArray) : Bool := decide (n = m) && txUpTo s t n

theorem txEq_iff (n m : Nat) (s t : Nat → ByteArray) : txEq n m s t = true ↔ n = m ∧ ∀ j, j < n → s j = t j := by
  unfold txEq
  rw [Bool.and_eq_true, decide_eq_true_iff, txUpTo_iff]

set_option maxHeartbeats 1000000 in
theorem texts_any (w : World) (a b : Option Addr) (n m c d : Nat) (f g : Nat → ByteArray) (hf : RdF w (.slice a n c) n (fun j => .string (f j))) (hg : RdF w (.slice b m d) m (fun j => .string (g j))) (hn : n ≤ 9223372036854775807) (hm : m ≤ 9223372036854775807) :
    Calls Tryd.prog 33 #[.slice a n c, .slice b m d] w fun e w' => e = .returned (.bool (txEq n m f g)) ∧ ∃ q, w' = w.drewN q := by
  have HF := Lib.hid hf; clear hf
  have HG := Lib.hid hg; clear hg
  by_cases hnm : n = m
  · subst hnm
    go_enter Tryd.func33, Tryd.ntmps33
    go_wp2
    go_loopw [5] (fun i wr => ∃ k : Nat, k ≤ n ∧ i = .int .i64 k ∧ Hid (txUpTo f g k = true) ∧ ∃ q, wr = w.drewN q) (fun i _ => n - (intOf i).toNat)
    case atStart => exact ⟨0, by omega, rfl, rfl, 0, rfl⟩
    case round =>
      obtain ⟨k, hk, rfl, HE, hq⟩ := hrel
      have HQ := Lib.hid hq
      by_cases hlt : k < n
      · obtain ⟨b1, o1, c1, he1, _, _, _, hc1⟩ := HF.out.shape (by omega)
        obtain ⟨b2, o2, c2, he2, _, _, _, hc2⟩ := HG.out.shape (by omega)
        simp only [Value.slice.injEq, true_and] at he1 he2
        obtain ⟨rfl, rfl⟩ := he1
        obtain ⟨rfl, rfl⟩ := he2
        have k1 : wr.cell? ⟨b1, o1 + k, none⟩ = some (.string (f k)) := by obtain ⟨q, rfl⟩ := hq; exact hc1 k hlt
        have k2 : wr.cell? ⟨b2, o2 + k, none⟩ = some (.string (g k)) := by obtain ⟨q, rfl⟩ := hq; exact hc2 k hlt
        clear hc1 hc2 hq
        have hs : txUpTo f g (k + 1) = ((f k).toList == (g k).toList) := by simp only [txUpTo, HE.out, Bool.true_and]
        have HS := Lib.hid hs; clear hs
        have k0 : (0 : Int) ≤ (k : Int) := by omega
        have k3 : (k : Int) < (n : Int) := by omega
        by_cases hfg : (f k).toList = (g k).toList
        · have hb : ((f k).toList == (g k).toList) = true := by simp [hfg]
          have HFG := Lib.hid hfg; clear hfg
          go_wp2
          go_quiet (fail)
          go_wp2
          go_roundw
          case rel => exact ⟨k + 1, by omega, by go_num, by show _ = true; rw [HS.out]; simp [HFG.out], by obtain ⟨q, rfl⟩ := HQ.out; exact ⟨q + nq, World.drewN_drewN _ _ _⟩⟩
          case measure => simp [intOf]; omega
        · have hb : ((f k).toList == (g k).toList) = false := by simp [hfg]
          have hs2 : txUpTo f g (k + 1) = false := by rw [HS.out]; simp [hfg]
          have hfin : txEq n n f g = false := by unfold txEq; rw [txUpTo_mono f g n (k + 1) (by omega) hs2]; simp
          have HFIN := Lib.hid hfin; clear hfin hs2 hfg
          go_wp2
          go_quiet (fail)
          go_wp2
          go_ret
          rw [HFIN.out]
          exact ⟨rfl, by obtain ⟨q, rfl⟩ := HQ.out; exact ⟨q + nq, World.drewN_drewN _ _ _⟩⟩
      · obtain rfl : k = n := by omega
        clear hq
        go_wp2
        go_ret
        exact ⟨by simp [txEq, HE.out], HQ.out⟩
  · have hne : ((n : Int) != (m : Int)) = true := by rw [bne_iff_ne]; omega
    have hfin : txEq n m f g = false := by simp [txEq, hnm]
    rw [hfin]
    clear hfin
    go_enter Tryd.func33, Tryd.ntmps33
    go_wp2
    go_ret
    exact ⟨rfl, 0, rfl⟩

end Go.Proofs.YtkdmkpdooiacaaaDoor

namespace Go.Proofs.YtkdmkpdooiacaaaDoor
open Go.RowKit

/-- are two records one? -/
def rsEq (x y : Rs) : Bool := txEq x.nl y.nl x.nm y.nm && ((decide (x.dl = y.dl) && eqUpTo x.dt y.dt x.dl) && (decide (x.ty = y.ty) && (decide (x.cl = y.cl) && decide (x.tt = y.tt))))

theorem rsEq_iff (x y : Rs) : rsEq x y = true ↔ (x.nl = y.nl ∧ ∀ j, j < x.nl → x.nm j = y.nm j) ∧ (x.dl = y.dl ∧ ∀ j, j < x.dl → x.dt j = y.dt j) ∧ x.ty = y.ty ∧ x.cl = y.cl ∧ x.tt = y.tt := by
  unfold rsEq
  simp only [Bool.and_eq_true, txEq_iff, decide_eq_true_iff, eqUpTo_iff]

theorem two_new5 (w : World) (x y : Obj) : ((w.alloc x).alloc y).heap[w.heap.size]? = some x ∧ ((w.alloc x).alloc y).heap[w.heap.size + 1]? = some y ∧ ((w.alloc x).alloc y).heap.size = w.heap.size + 1 + 1 := by
  have s1 : (w.alloc x).heap.size = w.heap.size + 1 := by simp
  refine ⟨((Fr.refl [] _).alloc y).blk (heap_alloc_new w x) (by simp), ?_, by simp⟩
  rw [← s1]
  exact heap_alloc_new _ y

set_option maxHeartbeats 4000000 in
set_option maxRecDepth 100000 in
theorem record_any (w : World) (x y : Rs) (na da na' da' : Option Addr) (nc dc nc' dc' : Nat) (h1 : RdF w (.slice na x.nl nc) x.nl (fun j => .string (x.nm j))) (h2 : RdF w (.slice da x.dl dc) x.dl (fun j => .int .u8 (x.dt j)))
    (h3 : RdF w (.slice na' y.nl nc') y.nl (fun j => .string (y.nm j))) (h4 : RdF w (.slice da' y.dl dc') y.dl (fun j => .int .u8 (y.dt j))) :
    Calls Tryd.prog 58 #[.agg #[.slice na x.nl nc, .int .i64 x.ty, .int .i64 x.cl, .int .i64 x.tt, .slice da x.dl dc], .agg #[.slice na' y.nl nc', .int .i64 y.ty, .int .i64 y.cl, .int .i64 y.tt, .slice da' y.dl dc']] w fun e w' => e = .returned (.bool (rsEq x y)) ∧ Fr [] w w' := by
  have b1 := h1.le_cap
  have b2 := h2.le_cap
  have b3 := h3.le_cap
  have b4 := h4.le_cap
  unfold maxLen at b1 b2 b3 b4
  have HT := Lib.hid (fun wx (h : Fr [] w wx) => texts_any wx na na' x.nl y.nl nc nc' x.nm y.nm (h1.fr h (by simp)) (h3.fr h (by simp)) (by omega) (by omega))
  have HB := Lib.hid (fun wx (h : Fr [] w wx) => bytes_any wx da da' x.dl y.dl dc dc' x.dt y.dt (h2.fr h (by simp)) (h4.fr h (by simp)) (by omega) (by omega))
  have HEQ := Lib.hid (show rsEq x y = (txEq x.nl y.nl x.nm y.nm && ((decide (x.dl = y.dl) && eqUpTo x.dt y.dt x.dl) && (decide (x.ty = y.ty) && (decide (x.cl = y.cl) && decide (x.tt = y.tt))))) from rfl)
  clear h1 h2 h3 h4 b1 b2 b3 b4
  generalize rsEq x y = R at *
  generalize txEq x.nl y.nl x.nm y.nm = t at *
  generalize (decide (x.dl = y.dl) && eqUpTo x.dt y.dt x.dl) = d at *
  generalize x.nl = xn at *
  generalize y.nl = yn at *
  generalize x.dl = xd at *
  generalize y.dl = yd at *
  generalize x.ty = a1 at *
  generalize x.cl = a2 at *
  generalize x.tt = a3 at *
  generalize y.ty = e1 at *
  generalize y.cl = e2 at *
  generalize y.tt = e3 at *
  go_enter Tryd.func58, Tryd.ntmps58
  go_wp2_with fail
  obtain ⟨hb0, hb1, _⟩ := two_new5 w (.cells #[.slice na xn nc, .int .i64 a1, .int .i64 a2, .int .i64 a3, .slice da xd dc] 60) (.cells #[.slice na' yn nc', .int .i64 e1, .int .i64 e2, .int .i64 e3, .slice da' yd dc'] 60)
  have HF2 := Lib.hid (show Fr [] w ((w.alloc (.cells #[.slice na xn nc, .int .i64 a1, .int .i64 a2, .int .i64 a3, .slice da xd dc] 60)).alloc (.cells #[.slice na' yn nc', .int .i64 e1, .int .i64 e2, .int .i64 e3, .slice da' yd dc'] 60)) from ((Fr.refl [] w).alloc _).alloc _)
  have HB0 := Lib.hid hb0
  have HB1 := Lib.hid hb1
  clear hb0 hb1
  generalize (w.alloc (.cells #[.slice na xn nc, .int .i64 a1, .int .i64 a2, .int .i64 a3, .slice da xd dc] 60)).alloc (.cells #[.slice na' yn nc', .int .i64 e1, .int .i64 e2, .int .i64 e3, .slice da' yd dc'] 60) = W at *
  refine (HT.out _ HF2.out).mono ?_
  rintro e w3 ⟨rfl, q3, rfl⟩
  have hf3 : Fr [] W (W.drewN q3) := (Fr.refl [] W).drewN q3
  generalize W.drewN q3 = w3 at *
  have HF3 := Lib.hid (HF2.out.trans hf3 (by simp))
  have x4 : w3.cell? ⟨w.heap.size, 4, none⟩ = some (.slice da xd dc) := blk_cell (hf3.blk HB0.out (by simp)) 4 rfl
  have y4 : w3.cell? ⟨w.heap.size + 1, 4, none⟩ = some (.slice da' yd dc') := blk_cell (hf3.blk HB1.out (by simp)) 4 rfl
  have HG3 := Lib.hid hf3
  clear hf3
  go_wp2_with fail
  refine (HB.out _ HF3.out).mono ?_
  rintro e w4 ⟨rfl, q4, rfl⟩
  have hf4 : Fr [] W (w3.drewN q4) := HG3.out.drewN q4
  generalize w3.drewN q4 = w4 at *
  have HF4 := Lib.hid (HF2.out.trans hf4 (by simp))
  have x1 : w4.cell? ⟨w.heap.size, 1, none⟩ = some (.int .i64 a1) := blk_cell (hf4.blk HB0.out (by simp)) 1 rfl
  have x2 : w4.cell? ⟨w.heap.size, 2, none⟩ = some (.int .i64 a2) := blk_cell (hf4.blk HB0.out (by simp)) 2 rfl
  have x3 : w4.cell? ⟨w.heap.size, 3, none⟩ = some (.int .i64 a3) := blk_cell (hf4.blk HB0.out (by simp)) 3 rfl
  have y1 : w4.cell? ⟨w.heap.size + 1, 1, none⟩ = some (.int .i64 e1) := blk_cell (hf4.blk HB1.out (by simp)) 1 rfl
  have y2 : w4.cell? ⟨w.heap.size + 1, 2, none⟩ = some (.int .i64 e2) := blk_cell (hf4.blk HB1.out (by simp)) 2 rfl
  have y3 : w4.cell? ⟨w.heap.size + 1, 3, none⟩ = some (.int .i64 e3) := blk_cell (hf4.blk HB1.out (by simp)) 3 rfl
  clear hf4 x4 y4 HT HB
  cases t
  · go_wp2_with fail
    go_ret
    exact ⟨by rw [HEQ.out]; rfl, HF4.out⟩
  cases d
  · go_wp2_with fail
    go_ret
    exact ⟨by rw [HEQ.out]; rfl, HF4.out⟩
  by_cases c1 : a1 = e1
  case neg =>
    have c1b : (a1 == e1) = false := by simp [c1]
    have HH := Lib.hid (show R = false by rw [HEQ.out]; simp [c1])
    clear c1
    go_wp2_with fail
    go_ret
    exact ⟨by rw [HH.out]; rfl, HF4.out⟩
  have c1b : (a1 == e1) = true := by simp [c1]
  by_cases c2 : a2 = e2
  case neg =>
    have c2b : (a2 == e2) = false := by simp [c2]
    have HH := Lib.hid (show R = false by rw [HEQ.out]; simp [c2])
    clear c1 c2
    go_wp2_with fail
    go_ret
    exact ⟨by rw [HH.out]; rfl, HF4.out⟩
  have c2b : (a2 == e2) = true := by simp [c2]
  by_cases c3 : a3 = e3
  case neg =>
    have c3b : (a3 == e3) = false := by simp [c3]
    have HH := Lib.hid (show R = false by rw [HEQ.out]; simp [c3])
    clear c1 c2 c3
    go_wp2_with fail
    go_ret
    exact ⟨by rw [HH.out]; rfl, HF4.out⟩
  have c3b : (a3 == e3) = true := by simp [c3]
  have HH := Lib.hid (show R = true by rw [HEQ.out]; simp [c1, c2, c3])
  clear c1 c2 c3
  go_wp2_with fail
  go_ret
  exact ⟨by rw [HH.out]; rfl, HF4.out⟩

end Go.Proofs.YtkdmkpdooiacaaaDoor

namespace Go.Proofs.YtkdmkpdooiacaaaDoor
open Go.RowKit

/-- are two sections one? -/
def secEq (n m : Nat) (R Q : Nat → Rs) : Prop := n = m ∧ ∀ i, i < n → rsEq (R i) (Q i) = true

/-- are two messages one? -/
def msEq (x y : Ms) : Prop := x.h = y.h ∧ (x.qn = y.qn ∧ ∀ i, i < x.qn → txEq (x.Q i).nl (y.Q i).nl (x.Q i).nm (y.Q i).nm = true ∧ (x.Q i).ty = (y.Q i).ty ∧ (x.Q i).cl = (y.Q i).cl) ∧ secEq x.an y.an x.A y.A ∧ secEq x.un y.un x.U y.U ∧ secEq x.mn y.mn x.M y.M

end Go.Proofs.YtkdmkpdooiacaaaDoor

namespace Go.Proofs.YtkdmkpdooiacaaaDoor
open Go.RowKit

theorem lbad_false {s : Nat → ByteArray} {n : Nat} (h : lbad s n = false) : ∀ j, j < n → (s j).size ≤ 63 := fun j hj => by
  by_cases h1 : (s j).size ≤ 63
  · exact h1
  · rw [lbad_true hj (.inr (by omega))] at h
    cases h

theorem nmFault_ok {n : Nat} {s : Nat → ByteArray} (h : nmFault n s = 0) : (∀ j, j < n → (s j).size ≤ 63) ∧ lbad s n = false ∧ nsz s n ≤ 255 := by
  unfold nmFault at h
  by_cases h1 : lbad s n = true
  · rw [if_pos h1] at h; omega
  · have h2 : lbad s n = false := by simpa using h1
    rw [if_neg h1] at h
    by_cases h3 : 255 < nsz s n
    · rw [if_pos h3] at h; omega
    · exact ⟨lbad_false h2, h2, by omega⟩

theorem nsz_len {s : Nat → ByteArray} {k : Nat} (h : nsz s k ≤ 255) : (k : Int) ≤ 254 ∧ ((wireL s k).length : Int) + 1 = nsz s k := by
  induction k with
  | zero => simp [nsz, wireL]
  | succ k ih =>
    simp only [nsz] at h ⊢
    have h1 := nsz_bd s k
    have h2 := ih (by omega)
    have h3 : (s k).data.toList.length = (s k).size := rfl
    simp only [wireL, List.length_append, List.length_cons, h3]
    have h4 : (k : Int) ≤ (wireL s k).length := by
      clear h h1 h2 h3 ih
      induction k with
      | zero => simp
      | succ k ih => simp only [wireL, List.length_append, List.length_cons]; omega
    omega

theorem erVn_ne (z : Int) : erVn z = .nilIface ∧ z = 0 ∨ erVn z = .iface 25 (.int .i64 z) ∧ z ≠ 0 := by
  unfold erVn
  by_cases h : z = 0
  · rw [if_pos h]; exact .inl ⟨rfl, h⟩
  · rw [if_neg h]; exact .inr ⟨rfl, h⟩

set_option maxHeartbeats 2000000 in
set_option maxRecDepth 100000 in
theorem wireWrite_bad (w : World) (a : Option Addr) (n c : Nat) (s : Nat → ByteArray) (hs : RdF w (.slice a n c) n (fun j => .string (s j))) (hss : ∀ j, j < n → (s j).size ≤ 140737488355328) (hz : nmFault n s ≠ 0) :
    Calls Tryd.prog 20 #[.slice none 0 0, .slice a n c] w fun e w' => e = .returned (.tuple #[.slice none 0 0, .iface 25 (.int .i64 (nmFault n s))]) ∧ w = w' := by
  have HC := Lib.hid (nameCheck_any w a n c s hs hss)
  clear hs hss
  generalize nmFault n s = z at *
  have hv : erVn z = .iface 25 (.int .i64 z) := by unfold erVn; rw [if_neg hz]
  have HV := Lib.hid hv
  go_enter Tryd.func20, Tryd.ntmps20
  go_wp2_with (go_at_call 38; refine HC.out.mono ?_; rintro e wx ⟨rfl, rfl⟩; rw [HV.out])
  go_ret2
  exact ⟨rfl, rfl⟩

set_option maxHeartbeats 2000000 in
set_option maxRecDepth 100000 in
theorem wireWrite_ok (w : World) (a : Option Addr) (n c : Nat) (s : Nat → ByteArray) (hs : RdF w (.slice a n c) n (fun j => .string (s j))) (hss : ∀ j, j < n → (s j).size ≤ 140737488355328) (hz : nmFault n s = 0) :
    Calls Tryd.prog 20 #[.slice none 0 0, .slice a n c] w fun e w' => ∃ v', e = .returned (.tuple #[v', .nilIface]) ∧ OwnB w' w.heap.size v' (wireL s n ++ [0]) ∧ Fr [] w w' := by
  have HC := Lib.hid (nameCheck_any w a n c s hs hss)
  obtain ⟨h63, _, h255⟩ := nmFault_ok hz
  obtain ⟨hn, hl⟩ := nsz_len h255
  have HLN := Lib.hid (show (wireL s n).length + 1 ≤ 255 by omega)
  have hap : ∀ b o, a = some ⟨b, o, none⟩ → 0 < n → b < w.heap.size := fun b o e h0 => by
    obtain ⟨b', o', cap, e1, _, _, hb, _⟩ := hs.shape h0
    subst e
    simp only [Value.slice.injEq, Option.some.injEq, Addr.mk.injEq] at e1
    obtain ⟨⟨rfl, _⟩, _⟩ := e1
    exact hb
  have HSE := Lib.hid (sent_any w w.heap.size (.slice none 0 0) [] a n c s (OwnB.nil _ _) (Nat.le_refl _) hs hap (fun j hj => Nat.le_trans (h63 j hj) (by decide)) (by simp; omega))
  have HCL := Lib.hid (clone_bytes w (.slice none 0 0) 0 (fun _ => 0) (.inl ⟨rfl, rfl⟩) (by decide))
  clear hs hss hap h63 hl h255
  have HZ := Lib.hid hz
  clear hz
  have hcl : Calls Tryd.prog 40 #[.slice none 0 0] w fun e w' => e = .returned (.slice none 0 0) ∧ w = w' := by
    clear HC HSE HCL HZ
    have hq := fun (wx : World) (a : Option Addr) (n c : Nat) => Lib.run_eql_slice_nil (P := Tryd.prog) wx 35 5 a n c 0 0 Tryd.underlying35
    go_enter Tryd.func40, Tryd.ntmps40
    go_wp2
    go_ret
    exact ⟨rfl, rfl⟩
  have HCL := Lib.hid hcl
  clear hcl
  have HV := Lib.hid (show erVn 0 = .nilIface from rfl)
  go_enter Tryd.func20, Tryd.ntmps20
  go_wp2_with (first
    | (go_at_call 38; refine HC.out.mono ?_; rintro e wx ⟨rfl, rfl⟩; rw [HZ.out, HV.out])
    | (go_at_call 40; refine HCL.out.mono ?_; rintro e wx ⟨rfl, rfl⟩)
    | (go_at_call 39; refine HSE.out.mono ?_; rintro e w1 ⟨v1, rfl, ho1, hf1⟩
       have HO1 := Lib.hid ho1
       have HF1 := Lib.hid hf1
       have HS1 := Lib.hid (show w.heap.size ≤ w1.heap.size from hf1.size)
       clear ho1 hf1
       go_wp2_with (at_builtin; refine wpList_app rfl (.tmp 15) (.tmp 16) 35 rfl 5 infoU8 Tryd.underlying35 rfl (OwnF.alloc HO1.out _) rfl (rd_one _ _ _ rfl) rfl (fun _ _ => rfl) (by unfold maxLen; have := HLN.out; simp; omega) (by have := HLN.out; simp; omega) (by simp; have := HS1.out; omega) ?_; intro v2 w2 hown2 hfr2 _
                    have HO2 := Lib.hid (OwnB.more hown2 [0] rfl (fun j hj => by
                      obtain rfl : j = 0 := by omega
                      rfl))
                    have HF2 := Lib.hid ((HF1.out.alloc HS1.out _).trans (hfr2.below w.heap.size (by simp; have := HS1.out; omega) (fun x hx => OwnF.ge HO1.out x hx)))
                    clear hown2 hfr2)))
  go_ret2
  exact ⟨_, rfl, by simpa using HO2.out, Fr.of_below HF2.out _⟩

end Go.Proofs.YtkdmkpdooiacaaaDoor

namespace Go.Proofs.YtkdmkpdooiacaaaDoor
open Go.RowKit

theorem nsz_congr {s t : Nat → ByteArray} (h : ∀ j, (s j).size = (t j).size) (k : Nat) : nsz s k = nsz t k := by
  induction k with
  | zero => rfl
  | succ k ih => simp only [nsz, ih, h k]

theorem lbad_congr {s t : Nat → ByteArray} (h : ∀ j, (s j).size = (t j).size) (k : Nat) : lbad s k = lbad t k := by
  induction k with
  | zero => rfl
  | succ k ih => simp only [lbad, ih, h k]

theorem nmFault_sm (n : Nat) (s : Nat → ByteArray) : nmFault n (fun j => smB (s j)) = nmFault n s := by
  unfold nmFault
  rw [nsz_congr (fun j => smB_size (s j)) n, lbad_congr (fun j => smB_size (s j)) n]

/-- are a question's numbers in their reach? -/
def Qs.ok (q : Qs) : Prop := 0 ≤ q.ty ∧ q.ty ≤ 65535 ∧ 0 ≤ q.cl ∧ q.cl ≤ 65535
instance (q : Qs) : Decidable q.ok := by unfold Qs.ok; infer_instance

def xByte (rd dob : Bool) : UInt8 := (if rd then 1 else 0) + (if dob then 2 else 0)

/-- the key's bytes -/
def keyL (q : Qs) (rd dob : Bool) : List UInt8 :=
  wireL (fun j => smB (q.nm j)) q.nl ++ [0] ++ [UInt8.ofNat (q.ty.toNat / 256), UInt8.ofNat (q.ty.toNat % 256), UInt8.ofNat (q.cl.toNat / 256), UInt8.ofNat (q.cl.toNat % 256), xByte rd dob]

/-- what is wrong with a message's key, where its option's fault is z -/
def keyFault (m : Ms) (z : Int) : Int :=
  if m.qn ≠ 1 then 9 else if nmFault (m.Q 0).nl (m.Q 0).nm ≠ 0 then nmFault (m.Q 0).nl (m.Q 0).nm else if ¬ (m.Q 0).ok then 6 else z

/-- what Find must do: the Do bit, what is wrong -/
def FindSays (m : Ms) (vq va vu vm : Value) (dob : Bool) (z : Int) (w : World) : Prop :=
  ∀ wx, Fr [] w wx → Calls Tryd.prog 22 #[msgV m.h vq va vu vm] wx fun e w' =>
    (∃ (sz co ve zz : Int) (has : Bool) (oa : Option Addr) (on oc : Nat), e = .returned (.tuple #[.agg #[.int .i64 sz, .int .i64 co, .int .i64 ve, .bool dob, .int .i64 zz, .slice oa on oc], .bool has, erVn z])) ∧ Fr [] wx w'

theorem msg_cells {w : World} {p : Nat} {h : Hd} {q a u m : Value} {T : TypeId} (hb : w.heap[p]? = some (.cells #[.int .i64 h.id, .bool h.an, .int .i64 h.op, .bool h.aa, .bool h.tc, .bool h.rd, .bool h.ra, .bool h.z, .bool h.ad, .bool h.cd, .int .i64 h.code, q, a, u, m] T (0, 0))) :
    w.cell? ⟨p, 0, none⟩ = some (.int .i64 h.id) ∧ w.cell? ⟨p, 1, none⟩ = some (.bool h.an) ∧ w.cell? ⟨p, 2, none⟩ = some (.int .i64 h.op) ∧ w.cell? ⟨p, 3, none⟩ = some (.bool h.aa) ∧ w.cell? ⟨p, 4, none⟩ = some (.bool h.tc) ∧
    w.cell? ⟨p, 5, none⟩ = some (.bool h.rd) ∧ w.cell? ⟨p, 6, none⟩ = some (.bool h.ra) ∧ w.cell? ⟨p, 7, none⟩ = some (.bool h.z) ∧ w.cell? ⟨p, 8, none⟩ = some (.bool h.ad) ∧ w.cell? ⟨p, 9, none⟩ = some (.bool h.cd) ∧
    w.cell? ⟨p, 10, none⟩ = some (.int .i64 h.code) ∧ w.cell? ⟨p, 11, none⟩ = some q ∧ w.cell? ⟨p, 12, none⟩ = some a ∧ w.cell? ⟨p, 13, none⟩ = some u ∧ w.cell? ⟨p, 14, none⟩ = some m :=
  ⟨blk_cell hb 0 rfl, blk_cell hb 1 rfl, blk_cell hb 2 rfl, blk_cell hb 3 rfl, blk_cell hb 4 rfl, blk_cell hb 5 rfl, blk_cell hb 6 rfl, blk_cell hb 7 rfl, blk_cell hb 8 rfl, blk_cell hb 9 rfl, blk_cell hb 10 rfl, blk_cell hb 11 rfl, blk_cell hb 12 rfl, blk_cell hb 13 rfl, blk_cell hb 14 rfl⟩

set_option maxHeartbeats 2000000 in
set_option maxRecDepth 100000 in
theorem key_none (w : World) (B : HB) (m : Ms) (vq va vu vm : Value) (hm : MsOk B w m vq va vu vm) (hq : m.qn ≠ 1) :
    Calls Tryd.prog 8 #[msgV m.h vq va vu vm] w fun e w' => e = .returned (.tuple #[.slice none 0 0, .iface 25 (.int .i64 9)]) ∧ Fr [] w w' := by
  obtain ⟨F, hQ⟩ := hm.hq
  obtain ⟨a, c, rfl⟩ := hQ.rd.slice
  clear hQ hm
  have hne : ((m.qn : Int) != 1) = true := by simp; omega
  generalize m.qn = n at *
  generalize m.h = h at *
  clear hq
  unfold msgV
  go_enter Tryd.func8, Tryd.ntmps8
  go_wp2
  go_ret2
  exact ⟨rfl, (Fr.refl [] w).alloc _⟩

/-- the world behind the first steps: the message and its question lie in blocks of their own -/
def keyW (w : World) (h : Hd) (q a u m x0 : Value) (ty cl : Int) : World :=
  (w.alloc (.cells #[.int .i64 h.id, .bool h.an, .int .i64 h.op, .bool h.aa, .bool h.tc, .bool h.rd, .bool h.ra, .bool h.z, .bool h.ad, .bool h.cd, .int .i64 h.code, q, a, u, m] 43)).alloc (.cells #[x0, .int .i64 ty, .int .i64 cl] 58)

end Go.Proofs.YtkdmkpdooiacaaaDoor
