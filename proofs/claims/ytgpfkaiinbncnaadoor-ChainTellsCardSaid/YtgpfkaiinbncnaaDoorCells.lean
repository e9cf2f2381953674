/- Slices whose elements are s cells: rows told by a function of the element and the cell; append onto such a row of the call's own. -/
import Derived.Test.YtgpfkaiinbncnaaDoorGen
import Derived.Deep.RegionLaw
namespace Go.Proofs.YtgpfkaiinbncnaaDoor
open Go.RowKit

/-- the cells, one behind the other -/
def fls (s : Nat) (F : Nat → Nat → Value) (c : Nat) : Value := F (c / s) (c % s)

theorem fls_at {s : Nat} {F : Nat → Nat → Value} {i c : Nat} (hc : c < s) : fls s F (i * s + c) = F i c := by
  unfold fls
  rw [Nat.mul_comm, Nat.mul_add_div (by omega), Nat.div_eq_of_lt hc, Nat.add_zero, Nat.mul_add_mod, Nat.mod_eq_of_lt hc]

theorem div_lt' {s n c : Nat} (hc : c < n * s) : c / s < n := by
  rw [Nat.div_lt_iff_lt_mul (by rcases Nat.eq_zero_or_pos s with h | h; subst h; simp at hc; exact h)]
  exact hc

theorem fls_congr {s n : Nat} {F G : Nat → Nat → Value} (hs : 0 < s) (h : ∀ i c, i < n → c < s → F i c = G i c) (c : Nat) (hc : c < n * s) : fls s F c = fls s G c := by
  unfold fls
  exact h _ _ (div_lt' hc) (Nat.mod_lt _ hs)

/-- A row of the call's own: n of its cap elements (s cells each, of type E) hold F 0, F 1, .. -/
def RowC (w : World) (g : Nat) (E : TypeId) (s n cap : Nat) (F : Nat → Nat → Value) : Prop :=
  ∃ cur, w.heap[g]? = some (.cells cur E (0, 0)) ∧ cur.size = cap * s ∧ n ≤ cap ∧ cap ≤ maxLen ∧ ∀ j, j < n * s → cur[j]? = some (fls s F j)

section
variable {w w' : World} {g : Nat} {E : TypeId} {s n cap : Nat} {F : Nat → Nat → Value}
theorem RowC.lt (h : RowC w g E s n cap F) : g < w.heap.size := by obtain ⟨cur, h1, _⟩ := h; exact lt_of_blk h1
theorem RowC.le (h : RowC w g E s n cap F) : n ≤ cap := by obtain ⟨cur, _, _, h1, _⟩ := h; exact h1
theorem RowC.cap_le (h : RowC w g E s n cap F) : cap ≤ maxLen := by obtain ⟨cur, _, _, _, h1, _⟩ := h; exact h1
theorem mul_in {s n i c : Nat} (hi : i < n) (hc : c < s) : i * s + c < n * s := by
  have : (i + 1) * s ≤ n * s := Nat.mul_le_mul_right _ (by omega)
  rw [Nat.add_mul] at this
  omega
theorem RowC.cell (h : RowC w g E s n cap F) (i c : Nat) (hi : i < n) (hc : c < s) : w.cell? ⟨g, i * s + c, none⟩ = some (F i c) := by
  obtain ⟨cur, h1, h2, h3, h4, h5⟩ := h
  have e := h5 (i * s + c) (mul_in hi hc)
  rw [fls_at hc] at e
  simp [World.cell?, h1, e]
theorem RowC.frozen (h : RowC w g E s n cap F) (j : Nat) : w.frozen? ⟨g, j, none⟩ = false := by
  obtain ⟨cur, h1, h2, h3, h4, h5⟩ := h
  simp [World.frozen?, h1]
theorem RowC.congr (h : RowC w g E s n cap F) (hs : 0 < s) {G : Nat → Nat → Value} (he : ∀ i c, i < n → c < s → F i c = G i c) : RowC w g E s n cap G := by
  obtain ⟨cur, h1, h2, h3, h4, h5⟩ := h
  exact ⟨cur, h1, h2, h3, h4, fun j hj => by rw [h5 j hj, fls_congr hs he j hj]⟩
theorem RowC.of_block (h : RowC w g E s n cap F) (hb : w'.heap[g]? = w.heap[g]?) : RowC w' g E s n cap F := by
  obtain ⟨cur, h1, h2⟩ := h
  exact ⟨cur, hb.trans h1, h2⟩
theorem RowC.kept {S : List Nat} (h : RowC w g E s n cap F) (hf : Fr S w w') (hn : g ∉ S) : RowC w' g E s n cap F := h.of_block (hf.block g h.lt hn)
theorem RowC.take (h : RowC w g E s n cap F) (m : Nat) (hm : m ≤ n) : RowC w g E s m cap F := by
  obtain ⟨cur, h1, h2, h3, h4, h5⟩ := h
  exact ⟨cur, h1, h2, by omega, h4, fun j hj => h5 j (Nat.lt_of_lt_of_le hj (Nat.mul_le_mul_right _ hm))⟩
end

/-- The slice value v of n elements reads as F 0, F 1, .. in w. -/
def RdC (w : World) (v : Value) (s n : Nat) (F : Nat → Nat → Value) : Prop :=
  (v = .slice none 0 0 ∧ n = 0) ∨ ∃ a cap, v = .slice (some a) n cap ∧ n ≤ cap ∧ cap ≤ maxLen ∧ ∀ j, j < n * s → w.cell? (a.add j) = some (fls s F j)

section
variable {w w' : World} {v : Value} {s n : Nat} {F : Nat → Nat → Value}
theorem RdC.shape (h : RdC w v s n F) (hn : 0 < n) (hs : 0 < s) :
    ∃ b o cap, v = .slice (some ⟨b, o, none⟩) n cap ∧ n ≤ cap ∧ cap ≤ maxLen ∧ b < w.heap.size ∧ ∀ i c, i < n → c < s → w.cell? ⟨b, o + i * s + c, none⟩ = some (F i c) := by
  rcases h with ⟨_, h0⟩ | ⟨a, cap, hv, h1, h2, h3⟩
  · omega
  · obtain ⟨b, o, t⟩ := a
    have hc := h3 0 (Nat.mul_pos hn hs)
    have ht : t = none := by simpa [Addr.add] using World.cell?_spot hc
    subst ht
    have hat : ∀ j, (⟨b, o, none⟩ : Addr).add j = ⟨b, o + j, none⟩ := fun j => by unfold Addr.add; split <;> simp_all
    refine ⟨b, o, cap, hv, h1, h2, ?_, fun i c hi hc2 => ?_⟩
    · have := World.block_lt_of_cell? w _ hc
      simpa [Addr.add] using this
    · have e := h3 (i * s + c) (mul_in hi hc2)
      rw [fls_at hc2, hat] at e
      rw [Nat.add_assoc]
      exact e

theorem RdC.kept (h : RdC w v s n F) (hk : ∀ a u, w.cell? a = some u → w'.cell? a = some u) : RdC w' v s n F := by
  rcases h with h | ⟨a, cap, hv, h1, h2, h3⟩
  · exact .inl h
  · exact .inr ⟨a, cap, hv, h1, h2, fun j hj => hk _ _ (h3 j hj)⟩

theorem RdC.fr (h : RdC w v s n F) (hk : Fr [] w w') : RdC w' v s n F := h.kept fun _ _ hu => hk.cell hu (by simp)

/-- kept while other blocks are written -/
theorem RdC.frs {S : List Nat} (h : RdC w v s n F) (hs : 0 < s) (hk : Fr S w w') (hn : ∀ b o c, 0 < n → v = .slice (some ⟨b, o, none⟩) n c → b ∉ S) : RdC w' v s n F := by
  by_cases h0 : n = 0
  · subst h0
    rcases h with h | ⟨a, cap, hv, h1, h2, h3⟩
    · exact .inl h
    · exact .inr ⟨a, cap, hv, h1, h2, fun j hj => by simp at hj⟩
  · obtain ⟨b, o, cap, hv, h1, h2, h3, h4⟩ := h.shape (by omega) hs
    refine .inr ⟨⟨b, o, none⟩, cap, hv, h1, h2, fun j hj => ?_⟩
    have e : (⟨b, o, none⟩ : Addr).add j = ⟨b, o + j, none⟩ := by unfold Addr.add; split <;> simp_all
    rw [e]
    have h5 := hk.cell (h4 (j / s) (j % s) (div_lt' hj) (Nat.mod_lt _ hs)) (hn b o cap (by omega) hv)
    have e2 : j / s * s + j % s = j := by rw [Nat.mul_comm]; exact Nat.div_add_mod j s
    rw [Nat.add_assoc, e2] at h5
    exact h5

theorem RdC.congr (h : RdC w v s n F) (hs : 0 < s) {G : Nat → Nat → Value} (he : ∀ i c, i < n → c < s → F i c = G i c) : RdC w v s n G := by
  rcases h with h | ⟨a, cap, hv, h1, h2, h3⟩
  · exact .inl h
  · exact .inr ⟨a, cap, hv, h1, h2, fun j hj => by rw [h3 j hj, fls_congr hs he j hj]⟩

theorem RdC.slice (h : RdC w v s n F) : ∃ a c, v = .slice a n c := by
  rcases h with ⟨rfl, rfl⟩ | ⟨a, c, rfl, _⟩
  · exact ⟨_, _, rfl⟩
  · exact ⟨_, _, rfl⟩
end

theorem RdC.part {w : World} {a : Option Addr} {s n c : Nat} {F : Nat → Nat → Value} (h : RdC w (.slice a n c) s n F) (hs : 0 < s) (lo hi : Nat) (h1 : lo ≤ hi) (h2 : hi ≤ n) :
    RdC w (.slice (a.map (fun x => x.add (lo * s))) (hi - lo) (c - lo)) s (hi - lo) (fun j => F (lo + j)) := by
  rcases h with ⟨e, h0⟩ | ⟨ad, cap, e, h3, h4, h5⟩
  · simp only [Value.slice.injEq] at e
    obtain ⟨rfl, _, rfl⟩ := e
    have e1 : hi - lo = 0 := by omega
    rw [e1]
    exact .inl ⟨by simp, rfl⟩
  · simp only [Value.slice.injEq, true_and] at e
    obtain ⟨rfl, rfl⟩ := e
    refine .inr ⟨ad.add (lo * s), c - lo, rfl, by omega, by omega, fun j hj => ?_⟩
    have hlt : lo * s + j < n * s := by
      have : lo * s + (hi - lo) * s = hi * s := by rw [← Nat.add_mul]; congr 1; omega
      have : hi * s ≤ n * s := Nat.mul_le_mul_right _ h2
      omega
    rw [addr_add_add, h5 (lo * s + j) hlt]
    unfold fls
    rw [Nat.mul_comm lo s, Nat.mul_add_div hs, Nat.mul_add_mod]

theorem RdC.upto {w : World} {a : Option Addr} {s n c : Nat} {F : Nat → Nat → Value} (h : RdC w (.slice a n c) s n F) (k : Nat) (hk : k ≤ n) : RdC w (.slice a k c) s k F := by
  rcases h with ⟨e, h0⟩ | ⟨ad, cap, e, h3, h4, h5⟩
  · simp only [Value.slice.injEq] at e
    obtain ⟨rfl, _, rfl⟩ := e
    rw [show k = 0 by omega]
    exact .inl ⟨rfl, rfl⟩
  · simp only [Value.slice.injEq, true_and] at e
    obtain ⟨rfl, rfl⟩ := e
    exact .inr ⟨ad, c, rfl, by omega, h4, fun j hj => h5 j (Nat.lt_of_lt_of_le hj (Nat.mul_le_mul_right _ hk))⟩

theorem RowC.rd {w : World} {g : Nat} {E : TypeId} {s n cap : Nat} {F : Nat → Nat → Value} (h : RowC w g E s n cap F) : RdC w (.slice (some ⟨g, 0, none⟩) n cap) s n F := by
  obtain ⟨cur, h1, h2, h3, h4, h5⟩ := h
  refine .inr ⟨_, cap, rfl, h3, h4, fun j hj => ?_⟩
  have e : (⟨g, 0, none⟩ : Addr).add j = ⟨g, j, none⟩ := by unfold Addr.add; split <;> simp_all
  rw [e]
  simp [World.cell?, h1, h5 j hj]

/-- v is nil and empty, or a row of its own from block B on, that holds F 0, F 1, .. -/
def OwnC (w : World) (B : Nat) (E : TypeId) (v : Value) (s n : Nat) (F : Nat → Nat → Value) : Prop :=
  (v = .slice none 0 0 ∧ n = 0) ∨ ∃ g cap, v = .slice (some ⟨g, 0, none⟩) n cap ∧ B ≤ g ∧ RowC w g E s n cap F

section
variable {w w' : World} {B : Nat} {E : TypeId} {v : Value} {s n : Nat} {F : Nat → Nat → Value}
theorem OwnC.rd (h : OwnC w B E v s n F) : RdC w v s n F := by
  rcases h with h | ⟨g, cap, rfl, _, h⟩
  · exact .inl h
  · exact h.rd
theorem OwnC.nil (w : World) (B : Nat) (E : TypeId) (s : Nat) (F : Nat → Nat → Value) : OwnC w B E (.slice none 0 0) s 0 F := .inl ⟨rfl, rfl⟩
theorem OwnC.row (h : OwnC w B E v s n F) (hn : 0 < n) : ∃ g cap, v = .slice (some ⟨g, 0, none⟩) n cap ∧ B ≤ g ∧ RowC w g E s n cap F := by
  rcases h with ⟨_, h⟩ | h
  · omega
  · exact h
theorem OwnC.kept {S : List Nat} (h : OwnC w B E v s n F) (hf : Fr S w w') (hS : ∀ g, v.ownBlock = some g → g ∉ S) : OwnC w' B E v s n F := by
  rcases h with h | ⟨g, cap, rfl, hb, h⟩
  · exact .inl h
  · exact .inr ⟨g, cap, rfl, hb, h.kept hf (hS g rfl)⟩
theorem OwnC.congr (h : OwnC w B E v s n F) (hs : 0 < s) {G : Nat → Nat → Value} (he : ∀ i c, i < n → c < s → F i c = G i c) : OwnC w B E v s n G := by
  rcases h with h | ⟨g, cap, rfl, hb', h⟩
  · exact .inl h
  · exact .inr ⟨g, cap, rfl, hb', h.congr hs he⟩
theorem OwnC.mono {B' : Nat} (h : OwnC w B E v s n F) (hb : B' ≤ B) : OwnC w B' E v s n F := by
  rcases h with h | ⟨g, cap, rfl, hb', h⟩
  · exact .inl h
  · exact .inr ⟨g, cap, rfl, Nat.le_trans hb hb', h⟩
theorem OwnC.ge (h : OwnC w B E v s n F) : ∀ x ∈ v.ownBlock.toList, B ≤ x := by
  rcases h with ⟨rfl, _⟩ | ⟨g, cap, rfl, hb, _⟩
  · simp [Value.ownBlock]
  · simp [Value.ownBlock]; exact hb
theorem OwnC.lt (h : OwnC w B E v s n F) : ∀ x ∈ v.ownBlock.toList, x < w.heap.size := by
  rcases h with ⟨rfl, _⟩ | ⟨g, cap, rfl, hb, hr⟩
  · simp [Value.ownBlock]
  · simp [Value.ownBlock]; exact hr.lt
theorem OwnC.apart {T : TypeId} {q : Nat} {cs : Array Value} (h : OwnC w B E v s n F) (hp : w.heap[q]? = some (.cells cs T (0, 0))) (hT : E ≠ T) : q ∉ v.ownBlock.toList := by
  rcases h with ⟨rfl, _⟩ | ⟨g, cap, rfl, hb, cur, h1, _⟩
  · simp [Value.ownBlock]
  · simp only [Value.ownBlock, Option.toList, List.mem_singleton]
    intro e
    subst e
    rw [hp] at h1
    simp only [Option.some.injEq, Obj.cells.injEq] at h1
    exact hT h1.2.1.symm
theorem OwnC.owns (h : OwnC w B E v s n F) : w.ownsRow B E s v n (vals (n * s) (fls s F)) := by
  rcases h with ⟨rfl, rfl⟩ | ⟨g, cap, rfl, hb, cur, h1, h2, h3, h4, h5⟩
  · rw [Nat.zero_mul]; exact World.ownsRow_nil _ _ _ _
  · refine ⟨by rw [vals_len], .inr ⟨g, cap, cur, rfl, hb, h1, h3, h4, by omega, ?_⟩⟩
    apply List.ext_getElem?
    intro j
    by_cases hj : j < n * s
    · rw [List.getElem?_take, if_pos hj, vals_get _ _ j hj, Array.getElem?_toList, h5 j hj]
    · rw [List.getElem?_take, if_neg hj, List.getElem?_eq_none (by rw [vals_len]; omega)]
end

/-- F's first n, then G's. -/
def appC (n : Nat) (F G : Nat → Nat → Value) (j : Nat) : Nat → Value := if j < n then F j else G (j - n)

theorem appC_get {s n m : Nat} (hs : 0 < s) {F G : Nat → Nat → Value} {j : Nat} (hj : j < (n + m) * s) : (vals (n * s) (fls s F) ++ vals (m * s) (fls s G))[j]? = some (fls s (appC n F G) j) := by
  rw [Nat.add_mul] at hj
  rw [app_get (n := n * s) (m := m * s) hj]
  unfold app fls appC
  by_cases h : j < n * s
  · rw [if_pos h, if_pos (div_lt' h)]
  · have hge : n * s ≤ j := by omega
    have hd : ¬ j / s < n := by
      intro hlt
      have := (Nat.div_lt_iff_lt_mul hs).1 hlt
      omega
    rw [if_neg h, if_neg hd]
    have e1 : (j - n * s) / s = j / s - n := by rw [Nat.mul_comm, Nat.sub_mul_div_of_le _ _ _ (by rw [Nat.mul_comm]; exact hge)]
    have e2 : (j - n * s) % s = j % s := by
      have : j = (j - n * s) + n * s := by omega
      conv => rhs; rw [this, Nat.add_mul_mod_self_right]
    rw [e1, e2]

end Go.Proofs.YtgpfkaiinbncnaaDoor
