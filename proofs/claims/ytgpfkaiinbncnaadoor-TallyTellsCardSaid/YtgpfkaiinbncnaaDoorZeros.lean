/- append of zeros ('append(s, make([]int, k)...)') onto a slice of the call's own. -/
import Derived.Test.YtgpfkaiinbncnaaDoorInfo
import Derived.Lib.AppendZerosOnto
import Derived.Lib.AppendZeros
import Derived.Lib.SliceRun
namespace Go.Proofs.YtgpfkaiinbncnaaDoor
open Go.RowKit

theorem RowF.full {w : World} {g : Nat} {E : TypeId} {n cap : Nat} {f : Nat → Value} (h : RowF w g E n cap f) : ∃ f', RowF w g E cap cap f' ∧ ∀ j, j < n → f' j = f j := by
  obtain ⟨cur, h1, h2, h3, h4, h5⟩ := h
  refine ⟨fun j => cur.getD j (.bool false), ⟨cur, h1, h2, Nat.le_refl _, h4, fun j hj => ?_⟩, fun j hj => ?_⟩
  · simp [Array.getD, show j < cur.size by omega]
  · have := h5 j hj
    simp only [Array.getD, show j < cur.size by omega, dif_pos]
    rw [Array.getElem?_eq_getElem (by omega)] at this
    exact Option.some.inj this

theorem RowF.sets {g : Nat} {E : TypeId} {n cap : Nat} : ∀ (vs : List Value) (o : Nat) (w : World) (f : Nat → Value), RowF w g E n cap f →
    RowF (w.setCells g o vs) g E n cap (fun j => if o ≤ j ∧ j < o + vs.length then vs.getD (j - o) (.bool false) else f j)
  | [], o, w, f, h => h.congr (fun j _ => by rw [if_neg (by simp only [List.length_nil]; omega)])
  | v :: r, o, w, f, h => by
    have := RowF.sets r (o + 1) (w.setCell ⟨g, o, none⟩ v) _ (h.stored o v)
    refine this.congr (fun j _ => ?_)
    by_cases h1 : j = o
    · subst h1
      rw [if_neg (by omega), if_pos rfl, if_pos (by simp), Nat.sub_self]
      rfl
    · by_cases h2 : o + 1 ≤ j ∧ j < o + 1 + r.length
      · rw [if_pos h2, if_pos (by simp; omega)]
        obtain ⟨k, rfl⟩ : ∃ k, j = o + 1 + k := ⟨j - (o + 1), by omega⟩
        rw [show o + 1 + k - (o + 1) = k by omega, show o + 1 + k - o = k + 1 by omega]
        rfl
      · rw [if_neg h2, if_neg h1, if_neg (by simp; omega)]

theorem Fr.sets {g : Nat} {S : List Nat} {a : World} : ∀ (vs : List Value) (o : Nat) (w : World), Fr S a w → (g ∈ S ∨ a.heap.size ≤ g) → Fr S a (w.setCells g o vs)
  | [], _, _, h, _ => h
  | v :: r, o, w, h, hg => Fr.sets r (o + 1) _ (h.setCell (p := ⟨g, o, none⟩) hg v) hg

theorem zeros_list (k : Nat) : (Builtin.zeroCells (Value.int .i64 0).cells k).toList = List.replicate k (.int .i64 0) := by
  apply List.ext_getElem
  · simp [Builtin.zeroCells, Value.cells]
  · intro i h1 h2
    simp [Builtin.zeroCells, Value.cells, Nat.mod_one]

theorem run_zeros (w : World) (ty : TypeId) {v : Value} {n B : Nat} {f : Nat → Value} (hown : OwnF w B 3 v n f) (k : Nat) (hk : n + k ≤ 1000000) (hB : B ≤ w.heap.size) :
    ∃ v' w', (Builtin.append_ #[28, 3] ty #[v, .int .i64 k]).run Tryd.prog w = .ok v' w' ∧ OwnF w' B 3 v' (n + k) (app n f (fun _ => .int .i64 0)) ∧ Fr v.ownBlock.toList w w' := by
  obtain ⟨i, hi, hz0, hz1, hz2⟩ := info_parts infoInt
  have ht := Tryd.underlying28
  have htn : Tryd.prog.underlying 3 = some (.int .i64) := Tryd.underlying3
  have hw : IntKind.i64.wrap (k : Int) = k := by rw [IntKind.wrap_i64]; omega
  have hneg : ¬ ((k : Int) < 0) := by omega
  have hw0 : IntKind.i64.wrap 0 = 0 := by rw [IntKind.wrap_i64]; omega
  have h48i : ¬ (281474976710656 < (k : Int) * (i.bytes : Int)) := by rw [hz2]; omega
  have hgrow : ∀ (base : Option Addr) (sCap : Nat) (hold : (Builtin.firstCells i.size n (.slice base n sCap)).run Tryd.prog w.drew = .ok (vals n f).toArray w.drew) (h0 : 0 < k) (hg : sCap < n + k) (hv : v = .slice base n sCap),
      ∃ v' w', (Builtin.append_ #[28, 3] ty #[v, .int .i64 k]).run Tryd.prog w = .ok v' w' ∧ OwnF w' B 3 v' (n + k) (app n f (fun _ => .int .i64 0)) ∧ Fr v.ownBlock.toList w w' := by
    intro base sCap hold h0 hg hv
    have hr := Lib.run_append_grow_zeros w 28 3 ty 3 i _ .i64 .i64 ht htn hi hz0 base n sCap (vals n f) hold k h0 (by omega) hg (by omega) (by rw [hz2]; omega) (growslice_fits hg (by rw [hz2]; omega))
    subst hv
    refine ⟨_, _, hr, .inr ⟨_, _, rfl, hB, RowF.of_row (heap_alloc_new w.drew _) ?_ (grownCap_ge w _ _ _) (grownCap_le_maxLen w _ _ _ (by unfold maxLen; omega)) (fun j hj => ?_)⟩, ((Fr.refl _ w).drew).alloc _⟩
    · have h1 := grownCap_ge w (n + k) sCap 3
      simp only [Array.size_append, List.size_toArray, vals_len]
      simp [Builtin.zeroCells, Value.cells]
      omega
    · rw [Array.getElem?_append_left (by simp [vals_len, Builtin.zeroCells, Value.cells]; omega), ← Array.getElem?_toList, Array.toList_append, zeros_list]
      unfold app
      by_cases h1 : j < n
      · rw [if_pos h1, List.getElem?_append_left (by rw [vals_len]; exact h1)]
        exact vals_get n f j h1
      · rw [if_neg h1, List.getElem?_append_right (by simp [vals_len]; omega), List.getElem?_replicate, if_pos (by simp [vals_len]; omega)]
  rcases hown with ⟨rfl, rfl⟩ | ⟨g0, cap, rfl, hb, hrow⟩
  · by_cases h0 : k = 0
    · subst h0
      refine ⟨.slice none 0 0, w, ?_, OwnF.nil _ _ _ _, Fr.refl _ _⟩
      simp [Builtin.append_, run_underlying ht, run_underlying htn, sizeOf, typeInfo, hi, asInt, asIntOf, hw0]
    · exact hgrow none 0 (by simp [Builtin.firstCells, vals]) (by omega) (by omega) rfl
  · by_cases hroom : n + k ≤ cap
    · obtain ⟨f', hfull, hf'⟩ := hrow.full
      have hst := run_storeCells_cells (P := Tryd.prog) g0 n (List.replicate k (.int .i64 0)) 0 w (fun j hj => by
        simp at hj
        rw [Nat.add_zero, hfull.cell (n + j) (by omega)]; rfl) (fun j hj => hfull.frozen _) (fun u hu => by rw [(List.mem_replicate.1 hu).2]; rfl)
      simp only [Nat.add_zero] at hst
      refine ⟨.slice (some ⟨g0, 0, none⟩) (n + k) cap, w.setCells g0 n (List.replicate k (.int .i64 0)), ?_, .inr ⟨g0, cap, rfl, hb, ?_⟩, Fr.sets _ _ _ (Fr.refl _ _) (.inl (by simp [Value.ownBlock]))⟩
      · by_cases h0 : k = 0
        · subst h0
          simp [Builtin.append_, run_underlying ht, run_underlying htn, sizeOf, typeInfo, hi, asInt, asIntOf, hw0, show n ≤ cap by omega, World.setCells, storeCells]
        · have hns : ¬ (k * i.size = 0) := by rw [hz1]; omega
          have e : (⟨g0, 0, none⟩ : Addr).add (n * i.size) = ⟨g0, n, none⟩ := by rw [Addr.add_lit, hz1]; simp
          simp [Builtin.append_, run_underlying ht, run_underlying htn, sizeOf, typeInfo, zeroValue, hi, hz0, asInt, asIntOf, hw, hneg, hns, h48i, hroom, e, zeros_list, hst]
      · have h2 := (RowF.sets (List.replicate k (.int .i64 0)) n w _ hfull).take (n + k) hroom
        refine h2.congr (fun j hj => ?_)
        unfold app
        by_cases h1 : j < n
        · rw [if_neg (by omega), if_pos h1, hf' j h1]
        · rw [if_pos (by simp; omega), if_neg h1, List.getD, List.getElem?_replicate, if_pos (by omega)]
          rfl
    · exact hgrow (some ⟨g0, 0, none⟩) cap (by
        rw [hz1]
        exact run_firstCells_some w.drew 1 n ⟨g0, 0, none⟩ n cap (vals n f) (by rw [vals_len]; omega) (fun j u hu => by
          obtain ⟨hj, rfl⟩ := vals_get' hu
          rw [Addr.add_lit, Nat.zero_add]
          exact hrow.cell j hj)) (by have := hrow.le; omega) (by omega) rfl

end Go.Proofs.YtgpfkaiinbncnaaDoor
