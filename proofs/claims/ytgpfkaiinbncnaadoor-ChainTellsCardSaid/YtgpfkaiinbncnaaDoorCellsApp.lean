/- append onto a row of the call's own whose elements are s cells each. -/
import Derived.Test.YtgpfkaiinbncnaaDoorCells
namespace Go.Proofs.YtgpfkaiinbncnaaDoor
open Go.RowKit

/-- what append does onto a slice of the call's own whose elements are s cells each, from a slice that reads -/
theorem run_appC {P : Program} (w : World) (t ty E : TypeId) {z : Value} {sz bytes : Nat} (hinfo : (P.info? E).map (fun i => (i.zero, i.size, i.bytes)) = some (some z, sz, bytes)) (ht : P.underlying t = some (.slice E)) (hz : z.cells.size = sz) (hs0 : 0 < sz) {m : Nat} {q : Nat → Nat → Value} (hone : ∀ j, j < m * sz → (fls sz q j).oneCell' = true)
    {v : Value} {n base : Nat} {p : Nat → Nat → Value} (hown : OwnC w base E v sz n p)
    {y : Value} (hrd : RdC w y sz m q)
    (h63 : n + m ≤ maxLen) (hbytes : (n + m) * bytes ≤ 140737488355328) (hbase : base ≤ w.heap.size) :
    ∃ v' w', (Builtin.append_ #[t, t] ty #[v, y]).run P w = .ok v' w' ∧ OwnC w' base E v' sz (n + m) (appC n p q) ∧ Fr v.ownBlock.toList w w' ∧ SameOrNew w v v' := by
  obtain ⟨i, hi, hz0, hz1, hz2⟩ := info_parts hinfo
  have hadd : (n + m) * sz = n * sz + m * sz := Nat.add_mul _ _ _
  rcases hrd with ⟨rfl, rfl⟩ | ⟨ad, c, rfl, hmc, hcm, hcell⟩
  · have hr := run_append_owned_none (P := P) w base t ty E i sz ht hi v n _ hown.owns
    exact ⟨v, w, hr, hown.congr hs0 (fun i c hi _ => by unfold appC; rw [if_pos (by omega)]), Fr.refl _ _, fun x hx => .inl hx⟩
  have hnews : ∀ j u, (vals (m * sz) (fls sz q))[j]? = some u → w.cell? (ad.add j) = some u := fun j u hu => by
    obtain ⟨hj, rfl⟩ := vals_get' hu
    exact hcell j hj
  have hnl : (vals (m * sz) (fls sz q)).length = m * i.size := by rw [vals_len, hz1]
  have hsmall : n + m ≤ 9223372036854775807 := by unfold maxLen at h63; omega
  have hgrow : ∀ (old : Nat), old < n + m → ∀ S, OwnC (w.drew.alloc (.cells ((vals (n * sz) (fls sz p)).toArray ++ (vals (m * sz) (fls sz q)).toArray ++ Builtin.zeroCells z.cells (grownCap w (n + m) old E - (n + m))) E)) base E (.slice (some ⟨w.heap.size, 0, none⟩) (n + m) (grownCap w (n + m) old E)) sz (n + m) (appC n p q) ∧
      Fr S w (w.drew.alloc (.cells ((vals (n * sz) (fls sz p)).toArray ++ (vals (m * sz) (fls sz q)).toArray ++ Builtin.zeroCells z.cells (grownCap w (n + m) old E - (n + m))) E)) := by
    intro old ho S
    have hge := grownCap_ge w (n + m) old E
    have hcm := grownCap_le_maxLen w (n + m) old E h63
    refine ⟨.inr ⟨w.heap.size, _, rfl, hbase, _, heap_alloc_new w.drew _, ?_, hge, hcm, fun j hj => ?_⟩, ((Fr.refl S w).drew).alloc _⟩
    · simp only [Array.size_append, List.size_toArray, size_zeroCells, hz, vals_len]
      rw [← hadd, ← Nat.add_mul]
      congr 1
      omega
    · rw [Array.getElem?_append_left (by simp [vals_len]; omega), ← Array.getElem?_toList]
      have := appC_get hs0 (F := p) (G := q) hj
      simpa using this
  rcases hown with ⟨rfl, rfl⟩ | ⟨g0, cap, rfl, hb, hrow⟩
  · by_cases hm : m = 0
    · subst hm
      refine ⟨.slice none 0 0, w, ?_, OwnC.nil _ _ _ _ _, Fr.refl _ _, fun x hx => .inl hx⟩
      simp [Builtin.append_, run_underlying ht, sizeOf, typeInfo, hi, Builtin.lenOf, Builtin.firstCells, loadCells, loadCellsFrom]
    · have hr := run_append_nil (P := P) w t ty E i z ht hi hz0 ad m c (vals (m * sz) (fls sz q)) hnl hnews (by omega) (by omega) (by rw [hz2]; have hb2 := hbytes; simp only [Nat.zero_add] at hb2; omega)
      have hg := hgrow 0 (by omega) (Value.ownBlock (.slice none 0 0)).toList
      have e0 : (vals (0 * sz) (fls sz p)).toArray = #[] := by rw [Nat.zero_mul]; rfl
      simp only [Nat.zero_add, e0, Array.empty_append] at hg ⊢
      exact ⟨_, _, hr, hg.1, hg.2, fun x hx => .inr (by simp [Value.ownBlock] at hx; omega)⟩
  · by_cases hroom : n + m ≤ cap
    · have hcapm : (n + m) * sz ≤ cap * sz := Nat.mul_le_mul_right _ hroom
      obtain ⟨cur, hcur, hcs, hnc, hcml, hcells⟩ := hrow
      have hncap : n * sz ≤ cap * sz := Nat.mul_le_mul_right _ hnc
      have hfit : n * i.size + (vals (m * sz) (fls sz q)).length ≤ cur.size := by rw [vals_len, hz1, hcs]; omega
      have h1' : ∀ u ∈ vals (m * sz) (fls sz q), u.oneCell' = true := fun u hu => by
        simp only [vals, List.mem_map, List.mem_range] at hu
        obtain ⟨j, hj, rfl⟩ := hu
        exact hone j hj
      have hr := run_append_room (P := P) w t ty E i ht hi g0 n cap cur hcur ad m c (vals (m * sz) (fls sz q)) hnl hnews h1' hroom hfit
      refine ⟨_, _, hr, .inr ⟨g0, cap, rfl, hb, _, setRow_heap w g0 cur _ E _ hcur, ?_, hroom, hcml, fun j hj => ?_⟩, ⟨rfl, rfl, rfl, by simp, fun k _ hn => setRow_other w g0 k _ (by simpa [Value.ownBlock] using hn)⟩, fun x hx => .inl (by simpa [Value.ownBlock] using hx)⟩
      · simp only [List.size_toArray, List.length_append, List.length_take, List.length_drop, Array.length_toList, vals_len, hz1]
        omega
      · have hlen : (cur.toList.take (n * i.size)).length = n * sz := by rw [List.length_take, Array.length_toList, hz1]; omega
        have htk : cur.toList.take (n * i.size) = vals (n * sz) (fls sz p) := by
          rw [hz1]
          apply List.ext_getElem?
          intro k
          by_cases hk : k < n * sz
          · rw [List.getElem?_take, if_pos hk, vals_get _ _ k hk, Array.getElem?_toList, hcells k hk]
          · rw [List.getElem?_take, if_neg hk, List.getElem?_eq_none (by rw [vals_len]; omega)]
        have e := appC_get hs0 (F := p) (G := q) hj
        rw [← htk] at e
        rw [← Array.getElem?_toList]
        simp only []
        rw [List.getElem?_append_left (by rw [List.length_append, hlen, vals_len]; omega)]
        exact e
    · obtain ⟨cur, hcur, hcs, hnc, hcml, hcells⟩ := hrow
      have holds : ∀ j u, (vals (n * sz) (fls sz p))[j]? = some u → w.cell? ((⟨g0, 0, none⟩ : Addr).add j) = some u := fun j u hu => by
        obtain ⟨hj, rfl⟩ := vals_get' hu
        have e : (⟨g0, 0, none⟩ : Addr).add j = ⟨g0, j, none⟩ := by unfold Addr.add; split <;> simp_all
        rw [e]
        simp [World.cell?, hcur, hcells j hj]
      have hr := run_append_grow (P := P) w t ty E i z ht hi hz0 ⟨g0, 0, none⟩ n cap (vals (n * sz) (fls sz p)) (by rw [vals_len, hz1]) holds ad m c (vals (m * sz) (fls sz q)) hnl hnews (by omega) (by omega) (growslice_fits (by omega) (by rw [hz2]; exact hbytes))
      have hg := hgrow cap (by omega) (Value.ownBlock (.slice (some ⟨g0, 0, none⟩) n cap)).toList
      exact ⟨_, _, hr, hg.1, hg.2, fun x hx => .inr (by simp [Value.ownBlock] at hx; omega)⟩

theorem wpList_appC {P : Program} {w : World} {ops : Array Oper} {rest : List Oper} {o : Oper} {a : Act} {Q : Exit → Act → World → Prop} (hgd : o.guard = none) (s x : Operand) (t : TypeId)
    (ho : o.op = .call { callee := .builtin .append, args := #[s, x], argTypes := #[t, t] })
    (E : TypeId) {z : Value} {sz bytes : Nat} (hinfo : (P.info? E).map (fun i => (i.zero, i.size, i.bytes)) = some (some z, sz, bytes)) (ht : P.underlying t = some (.slice E)) (hz : z.cells.size = sz) (hs0 : 0 < sz) {m : Nat} {q : Nat → Nat → Value} (hone : ∀ j, j < m * sz → (fls sz q j).oneCell' = true)
    {v : Value} {n base : Nat} {p : Nat → Nat → Value} (hown : OwnC w base E v sz n p) (hs : a.eval s = v)
    {y : Value} (hrd : RdC w y sz m q) (hx : a.eval x = y)
    (h63 : n + m ≤ maxLen) (hbytes : (n + m) * bytes ≤ 140737488355328) (hbase : base ≤ w.heap.size)
    (h : ∀ v' w', OwnC w' base E v' sz (n + m) (appC n p q) → Fr v.ownBlock.toList w w' → SameOrNew w v v' → wpList P ops Q rest (a.put o.dst v') w') : wpList P ops Q (o :: rest) a w := by
  obtain ⟨v', w', hr, h2, h3, h4⟩ := run_appC (P := P) w t o.type E hinfo ht hz hs0 hone hown hrd h63 hbytes hbase
  refine wpList_plain hgd fun _ hK => ?_
  unfold Oper.wp execOp
  simp only [ho, resolve, invoke, builtin, Sem.run_bind, Sem.run_pure, Result.andThen_ok, List.map_toArray, List.map_cons, List.map_nil, hs, hx, hr]
  exact hK _ _ (h v' w' h2 h3 h4)

theorem step_appC {P : Program} {w : World} {ops : Array Oper} {o : Oper} {a : Act} {K : Act → World → Prop} {Q : Exit → Act → World → Prop} {X : Prop} (hgd : o.guard = none) (s x : Operand) (t : TypeId)
    (ho : o.op = .call { callee := .builtin .append, args := #[s, x], argTypes := #[t, t] })
    (E : TypeId) {z : Value} {sz bytes : Nat} (hinfo : (P.info? E).map (fun i => (i.zero, i.size, i.bytes)) = some (some z, sz, bytes)) (ht : P.underlying t = some (.slice E)) (hz : z.cells.size = sz) (hs0 : 0 < sz) {m : Nat} {q : Nat → Nat → Value} (hone : ∀ j, j < m * sz → (fls sz q j).oneCell' = true)
    {v : Value} {n base : Nat} {p : Nat → Nat → Value} (hown : OwnC w base E v sz n p) (hs : a.eval s = v)
    {y : Value} (hrd : RdC w y sz m q) (hx : a.eval x = y)
    (h63 : n + m ≤ maxLen) (hbytes : (n + m) * bytes ≤ 140737488355328) (hbase : base ≤ w.heap.size)
    (h : ∀ v' w', OwnC w' base E v' sz (n + m) (appC n p q) → Fr v.ownBlock.toList w w' → SameOrNew w v v' → K (a.put o.dst v') w') :
    if Region.wanted o (yielded ops a.tmps) = true then Oper.wp P o a w K Q else X := by
  have hw : Region.wanted o (yielded ops a.tmps) = true := by simp [Region.wanted, hgd]
  rw [if_pos hw]
  obtain ⟨v', w', hr, h2, h3, h4⟩ := run_appC (P := P) w t o.type E hinfo ht hz hs0 hone hown hrd h63 hbytes hbase
  unfold Oper.wp
  simp [execOp, ho, resolve, invoke, builtin, hs, hx, hr, Result.andThen]
  exact h v' w' h2 h3 h4


end Go.Proofs.YtgpfkaiinbncnaaDoor
