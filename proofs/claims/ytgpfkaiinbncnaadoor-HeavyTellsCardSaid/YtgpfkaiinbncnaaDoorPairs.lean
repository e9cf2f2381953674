/- Slices whose elements are structs of two ints: rows told by a function into pairs; append onto such a row of the call's own. -/
import Derived.Test.YtgpfkaiinbncnaaDoorGen
import Derived.Deep.RegionLaw
namespace Go.Proofs.YtgpfkaiinbncnaaDoor
open Go.RowKit

/-- the cells of pairs, one behind the other -/
def fl2 (p : Nat → Int × Int) (c : Nat) : Value := if c % 2 = 0 then .int .i64 (p (c / 2)).1 else .int .i64 (p (c / 2)).2

theorem fl2_0 (p : Nat → Int × Int) (j : Nat) : fl2 p (j * 2) = .int .i64 (p j).1 := by
  unfold fl2
  rw [if_pos (by omega), show j * 2 / 2 = j by omega]
theorem fl2_1 (p : Nat → Int × Int) (j : Nat) : fl2 p (j * 2 + 1) = .int .i64 (p j).2 := by
  unfold fl2
  rw [if_neg (by omega), show (j * 2 + 1) / 2 = j by omega]
theorem fl2_one (p : Nat → Int × Int) (c : Nat) : (fl2 p c).oneCell' = true := by
  unfold fl2
  split <;> rfl
theorem fl2_congr {p q : Nat → Int × Int} {n : Nat} (h : ∀ j, j < n → p j = q j) (c : Nat) (hc : c < n * 2) : fl2 p c = fl2 q c := by
  unfold fl2
  rw [h (c / 2) (by omega)]

/-- A row of the call's own: n of its cap elements (two cells each, of type E) hold p 0, p 1, .. -/
def RowP (w : World) (g : Nat) (E : TypeId) (n cap : Nat) (p : Nat → Int × Int) : Prop :=
  ∃ cur, w.heap[g]? = some (.cells cur E (0, 0)) ∧ cur.size = cap * 2 ∧ n ≤ cap ∧ cap ≤ maxLen ∧ ∀ j, j < n * 2 → cur[j]? = some (fl2 p j)

section
variable {w w' : World} {g : Nat} {E : TypeId} {n cap : Nat} {p : Nat → Int × Int}
theorem RowP.lt (h : RowP w g E n cap p) : g < w.heap.size := by obtain ⟨cur, h1, _⟩ := h; exact lt_of_blk h1
theorem RowP.le (h : RowP w g E n cap p) : n ≤ cap := by obtain ⟨cur, _, _, h1, _⟩ := h; exact h1
theorem RowP.cap_le (h : RowP w g E n cap p) : cap ≤ maxLen := by obtain ⟨cur, _, _, _, h1, _⟩ := h; exact h1
theorem RowP.cells (h : RowP w g E n cap p) (j : Nat) (hj : j < n) : w.cell? ⟨g, j * 2, none⟩ = some (.int .i64 (p j).1) ∧ w.cell? ⟨g, j * 2 + 1, none⟩ = some (.int .i64 (p j).2) := by
  obtain ⟨cur, h1, h2, h3, h4, h5⟩ := h
  have e0 := h5 (j * 2) (by omega)
  have e1 := h5 (j * 2 + 1) (by omega)
  rw [fl2_0] at e0
  rw [fl2_1] at e1
  exact ⟨by simp [World.cell?, h1, e0], by simp [World.cell?, h1, e1]⟩
theorem RowP.frozen (h : RowP w g E n cap p) (j : Nat) : w.frozen? ⟨g, j, none⟩ = false := by
  obtain ⟨cur, h1, h2, h3, h4, h5⟩ := h
  simp [World.frozen?, h1]
theorem RowP.congr (h : RowP w g E n cap p) {q : Nat → Int × Int} (he : ∀ j, j < n → p j = q j) : RowP w g E n cap q := by
  obtain ⟨cur, h1, h2, h3, h4, h5⟩ := h
  exact ⟨cur, h1, h2, h3, h4, fun j hj => by rw [h5 j hj, fl2_congr he j hj]⟩
theorem RowP.of_block (h : RowP w g E n cap p) (hb : w'.heap[g]? = w.heap[g]?) : RowP w' g E n cap p := by
  obtain ⟨cur, h1, h2⟩ := h
  exact ⟨cur, hb.trans h1, h2⟩
theorem RowP.kept {S : List Nat} (h : RowP w g E n cap p) (hf : Fr S w w') (hn : g ∉ S) : RowP w' g E n cap p := h.of_block (hf.block g h.lt hn)
theorem RowP.take (h : RowP w g E n cap p) (m : Nat) (hm : m ≤ n) : RowP w g E m cap p := by
  obtain ⟨cur, h1, h2, h3, h4, h5⟩ := h
  exact ⟨cur, h1, h2, by omega, h4, fun j hj => h5 j (by omega)⟩
end

/-- The slice value v of n elements reads as p 0, p 1, .. in w. -/
def RdP (w : World) (v : Value) (n : Nat) (p : Nat → Int × Int) : Prop :=
  (v = .slice none 0 0 ∧ n = 0) ∨ ∃ a cap, v = .slice (some a) n cap ∧ n ≤ cap ∧ cap ≤ maxLen ∧ ∀ j, j < n * 2 → w.cell? (a.add j) = some (fl2 p j)

theorem RdP.shape {w : World} {v : Value} {n : Nat} {p : Nat → Int × Int} (h : RdP w v n p) (hn : 0 < n) :
    ∃ b o cap, v = .slice (some ⟨b, o, none⟩) n cap ∧ n ≤ cap ∧ cap ≤ maxLen ∧ b < w.heap.size ∧ ∀ j, j < n → w.cell? ⟨b, o + j * 2, none⟩ = some (.int .i64 (p j).1) ∧ w.cell? ⟨b, o + j * 2 + 1, none⟩ = some (.int .i64 (p j).2) := by
  rcases h with ⟨_, h0⟩ | ⟨a, cap, hv, h1, h2, h3⟩
  · omega
  · obtain ⟨b, o, s⟩ := a
    have hc := h3 0 (by omega)
    have hs : s = none := by simpa [Addr.add] using World.cell?_spot hc
    subst hs
    have hat : ∀ j, (⟨b, o, none⟩ : Addr).add j = ⟨b, o + j, none⟩ := fun j => by unfold Addr.add; split <;> simp_all
    refine ⟨b, o, cap, hv, h1, h2, ?_, fun j hj => ?_⟩
    · have := World.block_lt_of_cell? w _ hc
      simpa [Addr.add] using this
    · have e0 := h3 (j * 2) (by omega)
      have e1 := h3 (j * 2 + 1) (by omega)
      rw [fl2_0, hat] at e0
      rw [fl2_1, hat] at e1
      exact ⟨e0, by rw [Nat.add_assoc]; exact e1⟩

theorem RdP.kept {w w' : World} {v : Value} {n : Nat} {p : Nat → Int × Int} (h : RdP w v n p) (hk : ∀ a u, w.cell? a = some u → w'.cell? a = some u) : RdP w' v n p := by
  rcases h with h | ⟨a, cap, hv, h1, h2, h3⟩
  · exact .inl h
  · exact .inr ⟨a, cap, hv, h1, h2, fun j hj => hk _ _ (h3 j hj)⟩

theorem RdP.fr {w w' : World} {v : Value} {n : Nat} {p : Nat → Int × Int} (h : RdP w v n p) (hk : Fr [] w w') : RdP w' v n p :=
  h.kept fun _ _ hu => hk.cell hu (by simp)

theorem RdP.old {w w' : World} {v : Value} {n : Nat} {p : Nat → Int × Int} {S : List Nat} (h : RdP w v n p) (hk : Fr S w w') (hS : ∀ x ∈ S, w.heap.size ≤ x) : RdP w' v n p :=
  h.kept fun a u hu => hk.cell hu (fun hm => by have := hS _ hm; have := World.block_lt_of_cell? w a hu; omega)

theorem RdP.congr {w : World} {v : Value} {n : Nat} {p q : Nat → Int × Int} (h : RdP w v n p) (he : ∀ j, j < n → p j = q j) : RdP w v n q := by
  rcases h with h | ⟨a, cap, hv, h1, h2, h3⟩
  · exact .inl h
  · exact .inr ⟨a, cap, hv, h1, h2, fun j hj => by rw [h3 j hj, fl2_congr he j hj]⟩

theorem RdP.slice {w : World} {v : Value} {n : Nat} {p : Nat → Int × Int} (h : RdP w v n p) : ∃ a c, v = .slice a n c := by
  rcases h with ⟨rfl, rfl⟩ | ⟨a, c, rfl, _⟩
  · exact ⟨_, _, rfl⟩
  · exact ⟨_, _, rfl⟩

theorem RdP.part {w : World} {a : Option Addr} {n c : Nat} {p : Nat → Int × Int} (h : RdP w (.slice a n c) n p) (lo hi : Nat) (h1 : lo ≤ hi) (h2 : hi ≤ n) :
    RdP w (.slice (a.map (fun x => x.add (lo * 2))) (hi - lo) (c - lo)) (hi - lo) (fun j => p (lo + j)) := by
  rcases h with ⟨e, h0⟩ | ⟨ad, cap, e, h3, h4, h5⟩
  · simp only [Value.slice.injEq] at e
    obtain ⟨rfl, _, rfl⟩ := e
    have e1 : hi - lo = 0 := by omega
    rw [e1]
    exact .inl ⟨by simp, rfl⟩
  · simp only [Value.slice.injEq, true_and] at e
    obtain ⟨rfl, rfl⟩ := e
    refine .inr ⟨ad.add (lo * 2), c - lo, rfl, by omega, by omega, fun j hj => ?_⟩
    rw [addr_add_add, h5 (lo * 2 + j) (by omega)]
    unfold fl2
    rw [show (lo * 2 + j) % 2 = j % 2 by omega, show (lo * 2 + j) / 2 = lo + j / 2 by omega]

theorem RowP.rd {w : World} {g : Nat} {E : TypeId} {n cap : Nat} {p : Nat → Int × Int} (h : RowP w g E n cap p) : RdP w (.slice (some ⟨g, 0, none⟩) n cap) n p := by
  obtain ⟨cur, h1, h2, h3, h4, h5⟩ := h
  refine .inr ⟨_, cap, rfl, h3, h4, fun j hj => ?_⟩
  have e : (⟨g, 0, none⟩ : Addr).add j = ⟨g, j, none⟩ := by unfold Addr.add; split <;> simp_all
  rw [e]
  simp [World.cell?, h1, h5 j hj]

/-- v is nil and empty, or a row of its own from block B on, that holds p 0, p 1, .. -/
def OwnP (w : World) (B : Nat) (E : TypeId) (v : Value) (n : Nat) (p : Nat → Int × Int) : Prop :=
  (v = .slice none 0 0 ∧ n = 0) ∨ ∃ g cap, v = .slice (some ⟨g, 0, none⟩) n cap ∧ B ≤ g ∧ RowP w g E n cap p

section
variable {w w' : World} {B : Nat} {E : TypeId} {v : Value} {n : Nat} {p : Nat → Int × Int}
theorem OwnP.rd (h : OwnP w B E v n p) : RdP w v n p := by
  rcases h with h | ⟨g, cap, rfl, _, h⟩
  · exact .inl h
  · exact h.rd
theorem OwnP.nil (w : World) (B : Nat) (E : TypeId) (p : Nat → Int × Int) : OwnP w B E (.slice none 0 0) 0 p := .inl ⟨rfl, rfl⟩
theorem OwnP.row (h : OwnP w B E v n p) (hn : 0 < n) : ∃ g cap, v = .slice (some ⟨g, 0, none⟩) n cap ∧ B ≤ g ∧ RowP w g E n cap p := by
  rcases h with ⟨_, h⟩ | h
  · omega
  · exact h
theorem OwnP.kept {S : List Nat} (h : OwnP w B E v n p) (hf : Fr S w w') (hS : ∀ g, v.ownBlock = some g → g ∉ S) : OwnP w' B E v n p := by
  rcases h with h | ⟨g, cap, rfl, hb, h⟩
  · exact .inl h
  · exact .inr ⟨g, cap, rfl, hb, h.kept hf (hS g rfl)⟩
theorem OwnP.congr (h : OwnP w B E v n p) {q : Nat → Int × Int} (he : ∀ j, j < n → p j = q j) : OwnP w B E v n q := by
  rcases h with h | ⟨g, cap, rfl, hb', h⟩
  · exact .inl h
  · exact .inr ⟨g, cap, rfl, hb', h.congr he⟩
theorem OwnP.mono {B' : Nat} (h : OwnP w B E v n p) (hb : B' ≤ B) : OwnP w B' E v n p := by
  rcases h with h | ⟨g, cap, rfl, hb', h⟩
  · exact .inl h
  · exact .inr ⟨g, cap, rfl, Nat.le_trans hb hb', h⟩
theorem OwnP.ge (h : OwnP w B E v n p) : ∀ x ∈ v.ownBlock.toList, B ≤ x := by
  rcases h with ⟨rfl, _⟩ | ⟨g, cap, rfl, hb, _⟩
  · simp [Value.ownBlock]
  · simp [Value.ownBlock]; exact hb
theorem OwnP.lt (h : OwnP w B E v n p) : ∀ x ∈ v.ownBlock.toList, x < w.heap.size := by
  rcases h with ⟨rfl, _⟩ | ⟨g, cap, rfl, hb, hr⟩
  · simp [Value.ownBlock]
  · simp [Value.ownBlock]; exact hr.lt
theorem OwnP.apart {T : TypeId} {q : Nat} {cs : Array Value} (h : OwnP w B E v n p) (hp : w.heap[q]? = some (.cells cs T (0, 0))) (hT : E ≠ T) : q ∉ v.ownBlock.toList := by
  rcases h with ⟨rfl, _⟩ | ⟨g, cap, rfl, hb, cur, h1, _⟩
  · simp [Value.ownBlock]
  · simp only [Value.ownBlock, Option.toList, List.mem_singleton]
    intro e
    subst e
    rw [hp] at h1
    simp only [Option.some.injEq, Obj.cells.injEq] at h1
    exact hT h1.2.1.symm
theorem OwnP.owns (h : OwnP w B E v n p) : w.ownsRow B E 2 v n (vals (n * 2) (fl2 p)) := by
  rcases h with ⟨rfl, rfl⟩ | ⟨g, cap, rfl, hb, cur, h1, h2, h3, h4, h5⟩
  · exact World.ownsRow_nil _ _ _ _
  · refine ⟨by rw [vals_len], .inr ⟨g, cap, cur, rfl, hb, h1, h3, h4, by omega, ?_⟩⟩
    apply List.ext_getElem?
    intro j
    by_cases hj : j < n * 2
    · rw [List.getElem?_take, if_pos hj, vals_get _ _ j hj, Array.getElem?_toList, h5 j hj]
    · rw [List.getElem?_take, if_neg hj, List.getElem?_eq_none (by rw [vals_len]; omega)]
end

/-- p's first n, then q's. -/
def app2 (n : Nat) (p q : Nat → Int × Int) (j : Nat) : Int × Int := if j < n then p j else q (j - n)

theorem app2_get {n m : Nat} {p q : Nat → Int × Int} {j : Nat} (hj : j < (n + m) * 2) : (vals (n * 2) (fl2 p) ++ vals (m * 2) (fl2 q))[j]? = some (fl2 (app2 n p q) j) := by
  rw [app_get (n := n * 2) (m := m * 2) (by omega)]
  unfold app fl2 app2
  by_cases h : j < n * 2
  · rw [if_pos h, if_pos (by omega : j / 2 < n)]
  · rw [if_neg h, if_neg (by omega : ¬ j / 2 < n), show (j - n * 2) % 2 = j % 2 by omega, show (j - n * 2) / 2 = j / 2 - n by omega]

/-- what append does onto a slice of the call's own whose elements are pairs, from a slice that reads -/
theorem run_app2 {P : Program} (w : World) (t ty E : TypeId) {z : Value} {bytes : Nat} (hinfo : (P.info? E).map (fun i => (i.zero, i.size, i.bytes)) = some (some z, 2, bytes)) (ht : P.underlying t = some (.slice E)) (hz : z.cells.size = 2)
    {v : Value} {n base : Nat} {p : Nat → Int × Int} (hown : OwnP w base E v n p)
    {y : Value} {m : Nat} {q : Nat → Int × Int} (hrd : RdP w y m q)
    (h63 : n + m ≤ maxLen) (hbytes : (n + m) * bytes ≤ 140737488355328) (hbase : base ≤ w.heap.size) :
    ∃ v' w', (Builtin.append_ #[t, t] ty #[v, y]).run P w = .ok v' w' ∧ OwnP w' base E v' (n + m) (app2 n p q) ∧ Fr v.ownBlock.toList w w' ∧ SameOrNew w v v' := by
  obtain ⟨i, hi, hz0, hz1, hz2⟩ := info_parts hinfo
  rcases hrd with ⟨rfl, rfl⟩ | ⟨ad, c, rfl, hmc, hcm, hcell⟩
  · have hr := run_append_owned_none (P := P) w base t ty E i 2 ht hi v n _ hown.owns
    exact ⟨v, w, hr, hown.congr (fun j hj => by simp [app2, hj]), Fr.refl _ _, fun x hx => .inl hx⟩
  have hnews : ∀ j u, (vals (m * 2) (fl2 q))[j]? = some u → w.cell? (ad.add j) = some u := fun j u hu => by
    obtain ⟨hj, rfl⟩ := vals_get' hu
    exact hcell j hj
  have hnl : (vals (m * 2) (fl2 q)).length = m * i.size := by rw [vals_len, hz1]
  have hsmall : n + m ≤ 9223372036854775807 := by unfold maxLen at h63; omega
  have hgrow : ∀ (old : Nat), old < n + m → ∀ S, OwnP (w.drew.alloc (.cells ((vals (n * 2) (fl2 p)).toArray ++ (vals (m * 2) (fl2 q)).toArray ++ Builtin.zeroCells z.cells (grownCap w (n + m) old E - (n + m))) E)) base E (.slice (some ⟨w.heap.size, 0, none⟩) (n + m) (grownCap w (n + m) old E)) (n + m) (app2 n p q) ∧
      Fr S w (w.drew.alloc (.cells ((vals (n * 2) (fl2 p)).toArray ++ (vals (m * 2) (fl2 q)).toArray ++ Builtin.zeroCells z.cells (grownCap w (n + m) old E - (n + m))) E)) := by
    intro old ho S
    have hge := grownCap_ge w (n + m) old E
    have hcm := grownCap_le_maxLen w (n + m) old E h63
    refine ⟨.inr ⟨w.heap.size, _, rfl, hbase, _, heap_alloc_new w.drew _, ?_, hge, hcm, fun j hj => ?_⟩, ((Fr.refl S w).drew).alloc _⟩
    · simp only [Array.size_append, List.size_toArray, size_zeroCells, hz, vals_len]
      omega
    · rw [Array.getElem?_append_left (by simp [vals_len]; omega), ← Array.getElem?_toList]
      have := app2_get (p := p) (q := q) hj
      simpa using this
  rcases hown with ⟨rfl, rfl⟩ | ⟨g0, cap, rfl, hb, hrow⟩
  · by_cases hm : m = 0
    · subst hm
      refine ⟨.slice none 0 0, w, ?_, OwnP.nil _ _ _ _, Fr.refl _ _, fun x hx => .inl hx⟩
      simp [Builtin.append_, run_underlying ht, sizeOf, typeInfo, hi, Builtin.lenOf, Builtin.firstCells, loadCells, loadCellsFrom]
    · have hr := run_append_nil (P := P) w t ty E i z ht hi hz0 ad m c (vals (m * 2) (fl2 q)) hnl hnews (by omega) (by omega) (by rw [hz2]; have hb2 := hbytes; simp only [Nat.zero_add] at hb2; omega)
      have hg := hgrow 0 (by omega) (Value.ownBlock (.slice none 0 0)).toList
      have e0 : (vals (0 * 2) (fl2 p)).toArray = #[] := rfl
      simp only [Nat.zero_add, e0, Array.empty_append] at hg ⊢
      exact ⟨_, _, hr, hg.1, hg.2, fun x hx => .inr (by simp [Value.ownBlock] at hx; omega)⟩
  · by_cases hroom : n + m ≤ cap
    · obtain ⟨cur, hcur, hcs, hnc, hcml, hcells⟩ := hrow
      have hfit : n * i.size + (vals (m * 2) (fl2 q)).length ≤ cur.size := by rw [vals_len, hz1, hcs]; omega
      have h1' : ∀ u ∈ vals (m * 2) (fl2 q), u.oneCell' = true := fun u hu => by
        simp only [vals, List.mem_map, List.mem_range] at hu
        obtain ⟨j, hj, rfl⟩ := hu
        exact fl2_one q j
      have hr := run_append_room (P := P) w t ty E i ht hi g0 n cap cur hcur ad m c (vals (m * 2) (fl2 q)) hnl hnews h1' hroom hfit
      refine ⟨_, _, hr, .inr ⟨g0, cap, rfl, hb, _, setRow_heap w g0 cur _ E _ hcur, ?_, hroom, hcml, fun j hj => ?_⟩, ⟨rfl, rfl, rfl, by simp, fun k _ hn => setRow_other w g0 k _ (by simpa [Value.ownBlock] using hn)⟩, fun x hx => .inl (by simpa [Value.ownBlock] using hx)⟩
      · simp only [List.size_toArray, List.length_append, List.length_take, List.length_drop, Array.length_toList, vals_len, hz1]
        omega
      · have hlen : (cur.toList.take (n * i.size)).length = n * 2 := by rw [List.length_take, Array.length_toList, hz1]; omega
        have htk : cur.toList.take (n * i.size) = vals (n * 2) (fl2 p) := by
          rw [hz1]
          apply List.ext_getElem?
          intro k
          by_cases hk : k < n * 2
          · rw [List.getElem?_take, if_pos hk, vals_get _ _ k hk, Array.getElem?_toList, hcells k hk]
          · rw [List.getElem?_take, if_neg hk, List.getElem?_eq_none (by rw [vals_len]; omega)]
        have e := app2_get (p := p) (q := q) hj
        rw [← htk] at e
        rw [← Array.getElem?_toList]
        simp only []
        rw [List.getElem?_append_left (by rw [List.length_append, hlen, vals_len]; omega)]
        exact e
    · obtain ⟨cur, hcur, hcs, hnc, hcml, hcells⟩ := hrow
      have holds : ∀ j u, (vals (n * 2) (fl2 p))[j]? = some u → w.cell? ((⟨g0, 0, none⟩ : Addr).add j) = some u := fun j u hu => by
        obtain ⟨hj, rfl⟩ := vals_get' hu
        have e : (⟨g0, 0, none⟩ : Addr).add j = ⟨g0, j, none⟩ := by unfold Addr.add; split <;> simp_all
        rw [e]
        simp [World.cell?, hcur, hcells j hj]
      have hr := run_append_grow (P := P) w t ty E i z ht hi hz0 ⟨g0, 0, none⟩ n cap (vals (n * 2) (fl2 p)) (by rw [vals_len, hz1]) holds ad m c (vals (m * 2) (fl2 q)) hnl hnews (by omega) (by omega) (growslice_fits (by omega) (by rw [hz2]; exact hbytes))
      have hg := hgrow cap (by omega) (Value.ownBlock (.slice (some ⟨g0, 0, none⟩) n cap)).toList
      exact ⟨_, _, hr, hg.1, hg.2, fun x hx => .inr (by simp [Value.ownBlock] at hx; omega)⟩

theorem wpList_app2 {P : Program} {w : World} {ops : Array Oper} {rest : List Oper} {o : Oper} {a : Act} {Q : Exit → Act → World → Prop} (hgd : o.guard = none) (s x : Operand) (t : TypeId)
    (ho : o.op = .call { callee := .builtin .append, args := #[s, x], argTypes := #[t, t] })
    (E : TypeId) {z : Value} {bytes : Nat} (hinfo : (P.info? E).map (fun i => (i.zero, i.size, i.bytes)) = some (some z, 2, bytes)) (ht : P.underlying t = some (.slice E)) (hz : z.cells.size = 2)
    {v : Value} {n base : Nat} {p : Nat → Int × Int} (hown : OwnP w base E v n p) (hs : a.eval s = v)
    {y : Value} {m : Nat} {q : Nat → Int × Int} (hrd : RdP w y m q) (hx : a.eval x = y)
    (h63 : n + m ≤ maxLen) (hbytes : (n + m) * bytes ≤ 140737488355328) (hbase : base ≤ w.heap.size)
    (h : ∀ v' w', OwnP w' base E v' (n + m) (app2 n p q) → Fr v.ownBlock.toList w w' → SameOrNew w v v' → wpList P ops Q rest (a.put o.dst v') w') : wpList P ops Q (o :: rest) a w := by
  obtain ⟨v', w', hr, h2, h3, h4⟩ := run_app2 (P := P) w t o.type E hinfo ht hz hown hrd h63 hbytes hbase
  refine wpList_plain hgd fun _ hK => ?_
  unfold Oper.wp execOp
  simp only [ho, resolve, invoke, builtin, Sem.run_bind, Sem.run_pure, Result.andThen_ok, List.map_toArray, List.map_cons, List.map_nil, hs, hx, hr]
  exact hK _ _ (h v' w' h2 h3 h4)

theorem step_app2 {P : Program} {w : World} {ops : Array Oper} {o : Oper} {a : Act} {K : Act → World → Prop} {Q : Exit → Act → World → Prop} {X : Prop} (hgd : o.guard = none) (s x : Operand) (t : TypeId)
    (ho : o.op = .call { callee := .builtin .append, args := #[s, x], argTypes := #[t, t] })
    (E : TypeId) {z : Value} {bytes : Nat} (hinfo : (P.info? E).map (fun i => (i.zero, i.size, i.bytes)) = some (some z, 2, bytes)) (ht : P.underlying t = some (.slice E)) (hz : z.cells.size = 2)
    {v : Value} {n base : Nat} {p : Nat → Int × Int} (hown : OwnP w base E v n p) (hs : a.eval s = v)
    {y : Value} {m : Nat} {q : Nat → Int × Int} (hrd : RdP w y m q) (hx : a.eval x = y)
    (h63 : n + m ≤ maxLen) (hbytes : (n + m) * bytes ≤ 140737488355328) (hbase : base ≤ w.heap.size)
    (h : ∀ v' w', OwnP w' base E v' (n + m) (app2 n p q) → Fr v.ownBlock.toList w w' → SameOrNew w v v' → K (a.put o.dst v') w') :
    if Region.wanted o (yielded ops a.tmps) = true then Oper.wp P o a w K Q else X := by
  have hw : Region.wanted o (yielded ops a.tmps) = true := by simp [Region.wanted, hgd]
  rw [if_pos hw]
  obtain ⟨v', w', hr, h2, h3, h4⟩ := run_app2 (P := P) w t o.type E hinfo ht hz hown hrd h63 hbytes hbase
  unfold Oper.wp
  simp [execOp, ho, resolve, invoke, builtin, hs, hx, hr, Result.andThen]
  exact h v' w' h2 h3 h4

/-- the slice of one pair that a call 'append(xs, x)' makes first -/
theorem rdp_one (w : World) (x y : Int) (E : TypeId) {b : Nat} (hb : w.heap.size = b) : RdP (w.alloc (.cells #[.int .i64 x, .int .i64 y] E)) (.slice (some ⟨b, 0, none⟩) 1 1) 1 (fun _ => (x, y)) :=
  .inr ⟨_, 1, rfl, Nat.le_refl _, by decide, fun j hj => by
    subst hb
    match j, hj with
    | 0, _ => exact blk_cell (heap_alloc_new w _) 0 rfl
    | 1, _ => exact blk_cell (heap_alloc_new w _) 1 rfl⟩

end Go.Proofs.YtgpfkaiinbncnaaDoor
