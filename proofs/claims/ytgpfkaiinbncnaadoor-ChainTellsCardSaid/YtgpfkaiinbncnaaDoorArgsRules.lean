/- Rules and a query that come in are opened. -/
import Derived.Test.YtgpfkaiinbncnaaDoorArgsRows
import Derived.Test.YtgpfkaiinbncnaaDoorChain
import Derived.Deep.Fields
import Derived.Deep.Strs
namespace Go.Proofs.YtgpfkaiinbncnaaDoor
open Go.ChangeShapes Go.WideShapes Go.ChangeAt Go.RowKit

section
variable {H : Type} {enc : TypeId × Value → H} {P : Program} {W : World} {base : Nat}

/-- one field's own reading, its weights within the reach -/
def FldOk (enc : TypeId × Value → H) (P : Program) (W : World) (t : TypeId) (v : Value) : Prop :=
  ∃ m y, DataW.trod enc P W 0 (fun _ => true) true m t [v] = some y ∧ ∀ x ∈ y.1.weights P t, x ≤ 140737488351232

theorem fld_int {t : TypeId} {k : IntKind} {v : Value} (ht : P.underlying t = some (.int k)) (h : FldOk enc P W t v) : ∃ x, v = .int k x ∧ (Lit.int k x).wf = true := by
  obtain ⟨m, y, h, _⟩ := h
  obtain ⟨x, e, _, hx⟩ := DataW.trod_int ht h
  exact ⟨x, by simpa using e, hx⟩
theorem fld_bool {t : TypeId} {v : Value} (ht : P.underlying t = some .bool) (h : FldOk enc P W t v) : ∃ x, v = .bool x := by
  obtain ⟨m, y, h, _⟩ := h
  obtain ⟨x, e, _⟩ := DataW.trod_bool ht h
  exact ⟨x, by simpa using e⟩
theorem fld_string {t : TypeId} {v : Value} (ht : P.underlying t = some .string) (h : FldOk enc P W t v) : ∃ s : ByteArray, v = .string s ∧ s.size ≤ 140737488351232 := by
  obtain ⟨m, y, h, hw⟩ := h
  obtain ⟨s, e, e2, _⟩ := DataW.trod_string ht h
  refine ⟨s, by simpa using e, ?_⟩
  subst e2
  exact hw _ (by simp [DataW.weights])

/-- a slice of one-cell elements, each with its own reading -/
theorem fld_ones {t e : TypeId} {v : Value} (ht : P.underlying t = some (.slice e)) (hc : P.cellsOf e = 1) (h : FldOk enc P W t v) :
    ∃ (a : Option Addr) (n c : Nat) (V : Nat → Value), v = .slice a n c ∧ RdF W (.slice a n c) n V ∧ n ≤ c ∧ c ≤ maxLen ∧ n * P.bytesOf e ≤ 140737488351232 ∧ ∀ i, i < n → FldOk enc P W e (V i) := by
  obtain ⟨m0, y, h, hw⟩ := h
  rcases Go.Deep.open_slice1 ht hc h with ⟨hcs, hx⟩ | ⟨x, l, c, mm, n, V, D, Pl, hcs, _, hl, hm, hmm, hx, hcell⟩
  · obtain rfl : v = .slice none 0 0 := by simpa using hcs
    exact ⟨none, 0, 0, fun _ => undef, rfl, .inl ⟨rfl, rfl⟩, Nat.le_refl _, by decide, by omega, fun i hi => by omega⟩
  · obtain rfl : v = .slice (some x) l c := by simpa using hcs
    subst hx
    have hmm' : mm = c := by simpa using hmm
    have hs := hw ((((List.range l).map D).length + ((List.range (mm - l)).map fun i => D (l + i)).length) * P.bytesOf e) (by simp [DataW.weights, ht])
    refine ⟨some x, l, c, V, rfl, .inr ⟨x, c, rfl, hl, hm, fun j hj => (hcell j (by omega)).1⟩, hl, hm, Nat.le_trans (Nat.mul_le_mul_right _ (by simp)) hs, fun i hi => ⟨n, _, (hcell i (by omega)).2, fun x hx => hw x ?_⟩⟩
    simp only [DataW.weights, ht, List.mem_cons, List.mem_append]
    exact .inr (.inl (weights_all (List.mem_map.2 ⟨i, List.mem_range.2 hi, rfl⟩) hx))

/-- a struct of one-cell fields -/
theorem fld_struct {t : TypeId} {fs : Array Field} {cs : List Value} {m : Nat} {y : DataW H × List MemPlace} (he : P.underlying t = some (.struct fs)) (hone : Go.Deep.oneCellFields P fs = true) (hC : P.cellsOf t = fs.size)
    (h : DataW.trod enc P W 0 (fun _ => true) true m t cs = some y) (hw : ∀ x ∈ y.1.weights P t, x ≤ 140737488351232) :
    cs.length = fs.size ∧ ∀ (j : Nat) (f : Field), fs[j]? = some f → ∃ v, cs[j]? = some v ∧ FldOk enc P W f.type v := by
  obtain ⟨ys, n', _, hy, hlen, hyl, hf⟩ := DataW.trod_struct he h
  subst hy
  rw [hC] at hlen
  refine ⟨hlen, fun j f hj => ?_⟩
  obtain ⟨ho, hk⟩ := Go.Deep.hone_of hone j f hj
  have hjl : j < fs.size := (Array.getElem?_eq_some_iff.1 hj).1
  have h1 := hf j f hj
  rw [ho, hk, List.drop_eq_getElem_cons (by omega), List.getElem?_eq_getElem (by omega)] at h1
  refine ⟨cs[j]'(by omega), List.getElem?_eq_getElem (by omega), n', _, h1, fun x hx => hw x ?_⟩
  simp only [DataW.weights, he]
  exact DataW.weights_mem_each (j := j) (t := f.type) (d := (ys[j]'(by omega)).1) (by simp [hj]) (by simp [List.getElem?_eq_getElem (show j < ys.length by omega)]) x hx

/-- a slice of structs of one-cell fields -/
theorem fld_structs {t e : TypeId} {fs : Array Field} {v : Value} (ht : P.underlying t = some (.slice e)) (he : P.underlying e = some (.struct fs)) (hone : Go.Deep.oneCellFields P fs = true) (hC : P.cellsOf e = fs.size) (hpos : 0 < fs.size)
    (h : FldOk enc P W t v) :
    ∃ (a : Option Addr) (n c : Nat) (F : Nat → Nat → Value), v = .slice a n c ∧ RdC W (.slice a n c) fs.size n F ∧ n ≤ c ∧ c ≤ maxLen ∧ n * P.bytesOf e ≤ 140737488351232 ∧
      ∀ i, i < n → ∀ (j : Nat) (f : Field), fs[j]? = some f → FldOk enc P W f.type (F i j) := by
  obtain ⟨m0, y, h, hw⟩ := h
  rcases Go.Deep.open_slice ht h with ⟨hcs, hx⟩ | ⟨a, l, c, m, n, D, Pl, hcs, _, hl, hm, hmm, hx, hi⟩
  · obtain rfl : v = .slice none 0 0 := by simpa using hcs
    exact ⟨none, 0, 0, fun _ _ => undef, rfl, .inl ⟨rfl, rfl⟩, Nat.le_refl _, by decide, by omega, fun i hi => by omega⟩
  · obtain rfl : v = .slice (some a) l c := by simpa using hcs
    subst hx
    have hmm' : m = c := by simpa using hmm
    have hs := hw ((((List.range l).map D).length + ((List.range (m - l)).map fun i => D (l + i)).length) * P.bytesOf e) (by simp [DataW.weights, ht])
    have hel : ∀ i, i < l → ∀ j, j < fs.size → ∀ f, fs[j]? = some f → ∃ u, W.cell? (a.add (i * fs.size + j)) = some u ∧ FldOk enc P W f.type u := by
      intro i hil j hj f hf
      obtain ⟨cs', hc, htr⟩ := hi i (by omega)
      obtain ⟨hlen, hfl⟩ := fld_struct he hone hC htr (fun x hx => hw x (by
        simp only [DataW.weights, ht, List.mem_cons, List.mem_append]
        exact .inr (.inl (weights_all (List.mem_map.2 ⟨i, List.mem_range.2 hil, rfl⟩) hx))))
      rw [hC] at hc
      obtain ⟨_, _, hat⟩ := World.cells?_some hc
      obtain ⟨u, hu, hok⟩ := hfl j f hf
      refine ⟨u, ?_, hok⟩
      rw [← Go.Deep.add_add, hat j hj, hu]
    refine ⟨some a, l, c, fun i j => (W.cell? (a.add (i * fs.size + j))).getD undef, rfl, .inr ⟨a, c, rfl, hl, hm, fun j hj => ?_⟩, hl, hm, Nat.le_trans (Nat.mul_le_mul_right _ (by simp)) hs, fun i hil j f hf => ?_⟩
    · have hjm : j % fs.size < fs.size := Nat.mod_lt _ hpos
      obtain ⟨u, hu, _⟩ := hel (j / fs.size) (div_lt' hj) (j % fs.size) hjm _ (Array.getElem?_eq_getElem hjm)
      unfold fls
      have e2 : j / fs.size * fs.size + j % fs.size = j := by rw [Nat.mul_comm]; exact Nat.div_add_mod j fs.size
      have e3 : (fun i j => (W.cell? (a.add (i * fs.size + j))).getD undef) (j / fs.size) (j % fs.size) = (W.cell? (a.add (j / fs.size * fs.size + j % fs.size))).getD undef := rfl
      rw [e3]
      rw [e2] at hu ⊢
      rw [hu]
      rfl
    · have hj : j < fs.size := (Array.getElem?_eq_some_iff.1 hf).1
      obtain ⟨u, hu, hok⟩ := hel i hil j hj f hf
      simp only [hu]
      exact hok

/-- strings' slice -/
theorem fld_strs {t e : TypeId} {v : Value} (ht : P.underlying t = some (.slice e)) (he : P.underlying e = some .string) (hc : P.cellsOf e = 1) (h : FldOk enc P W t v) :
    ∃ (a : Option Addr) (n c : Nat) (s : Nat → ByteArray), v = .slice a n c ∧ RdF W (.slice a n c) n (fun j => .string (s j)) ∧ n ≤ c ∧ c ≤ maxLen ∧ n * P.bytesOf e ≤ 140737488351232 ∧ ∀ i, i < n → (s i).size ≤ 140737488351232 := by
  obtain ⟨a, n, c, V, rfl, hr, h1, h2, h3, hf⟩ := fld_ones ht hc h
  have hex : ∀ i : Nat, ∃ s : ByteArray, i < n → V i = .string s ∧ s.size ≤ 140737488351232 := fun i => by
    by_cases hi : i < n
    · obtain ⟨s, e1, e2⟩ := fld_string he (hf i hi)
      exact ⟨s, fun _ => ⟨e1, e2⟩⟩
    · exact ⟨.empty, fun h => absurd h hi⟩
  obtain ⟨s, hs⟩ := Classical.skolem.1 hex
  exact ⟨a, n, c, s, rfl, hr.congr (fun j hj => (hs j hj).1), h1, h2, h3, fun i hi => (hs i hi).2⟩

/-- integers' slice -/
theorem fld_ints {t e : TypeId} {k : IntKind} {v : Value} (ht : P.underlying t = some (.slice e)) (he : P.underlying e = some (.int k)) (hc : P.cellsOf e = 1) (h : FldOk enc P W t v) :
    ∃ (a : Option Addr) (n c : Nat) (f : Nat → Int), v = .slice a n c ∧ RdF W (.slice a n c) n (fun j => .int k (f j)) ∧ n ≤ c ∧ c ≤ maxLen ∧ n * P.bytesOf e ≤ 140737488351232 ∧ ∀ i, i < n → (Lit.int k (f i)).wf = true := by
  obtain ⟨a, n, c, V, rfl, hr, h1, h2, h3, hf⟩ := fld_ones ht hc h
  have hex : ∀ i : Nat, ∃ x : Int, i < n → V i = .int k x ∧ (Lit.int k x).wf = true := fun i => by
    by_cases hi : i < n
    · obtain ⟨s, e1, e2⟩ := fld_int he (hf i hi)
      exact ⟨s, fun _ => ⟨e1, e2⟩⟩
    · exact ⟨0, fun h => absurd h hi⟩
  obtain ⟨s, hs⟩ := Classical.skolem.1 hex
  exact ⟨a, n, c, s, rfl, hr.congr (fun j hj => (hs j hj).1), h1, h2, h3, fun i hi => (hs i hi).2⟩

theorem fld_of {ts : List TypeId} {ds : List (DataW H)} {j : Nat} {t : TypeId} {v : Value} {d : DataW H} {p : List MemPlace} (hv : v.cells = #[v]) (h : DataW.Trod enc P W 0 (fun _ => true) true t v d p)
    (hsz : (DataW.weightsEach P ts ds).all (· ≤ reachBytes) = true) (hts : ts[j]? = some t) (hds : ds[j]? = some d) : FldOk enc P W t v := by
  obtain ⟨m, hm⟩ := h
  rw [hv] at hm
  refine ⟨m, _, hm, fun x hx => ?_⟩
  have := List.all_eq_true.1 hsz _ (DataW.weights_mem_each hts hds x hx)
  simpa [reachBytes] using of_decide_eq_true this

theorem fld_agg {ts : List TypeId} {ds : List (DataW H)} {j : Nat} {t : TypeId} {fs : Array Field} {v : Value} {d : DataW H} {p : List MemPlace} (he : P.underlying t = some (.struct fs)) (hone : Go.Deep.oneCellFields P fs = true) (hC : P.cellsOf t = fs.size)
    (hok : Value.okWide P W .any base t v) (h : DataW.Trod enc P W 0 (fun _ => true) true t v d p)
    (hsz : (DataW.weightsEach P ts ds).all (· ≤ reachBytes) = true) (hts : ts[j]? = some t) (hds : ds[j]? = some d) :
    ∃ cs : Array Value, v = .agg cs ∧ cs.size = fs.size ∧ ∀ (j : Nat) (f : Field), fs[j]? = some f → ∃ u, cs[j]? = some u ∧ FldOk enc P W f.type u := by
  obtain ⟨cs, rfl, hsize⟩ := okWide_struct he hok
  obtain ⟨m, hm⟩ := h
  have hw : ∀ x ∈ d.weights P t, x ≤ 140737488351232 := fun x hx => by
    have := List.all_eq_true.1 hsz _ (DataW.weights_mem_each hts hds x hx)
    simpa [reachBytes] using of_decide_eq_true this
  obtain ⟨_, h2⟩ := fld_struct he hone hC hm hw
  refine ⟨cs, rfl, by rw [hsize, hC], fun j f hj => ?_⟩
  obtain ⟨u, hu, hok⟩ := h2 j f hj
  exact ⟨u, by simpa [Value.cells] using hu, hok⟩
end

section
variable {H : Type} {enc : TypeId × Value → H} {W : World} {base : Nat}

/-- a rule's part -/
theorem fld_match {F : Nat → Value} (h0 : FldOk enc Tryd.prog W 3 (F 0)) (h1 : FldOk enc Tryd.prog W 3 (F 1)) (h2 : FldOk enc Tryd.prog W 70 (F 2)) (h3 : FldOk enc Tryd.prog W 25 (F 3)) :
    ∃ m : Mt, m.Ok W ∧ ∀ c, c < 4 → F c = m.F c := by
  obtain ⟨op, e0, b0⟩ := fld_int Tryd.underlying3 h0
  obtain ⟨k, e1, b1⟩ := fld_int Tryd.underlying3 h1
  obtain ⟨na, nl, nc, nm, e2, r2, _, _, _, s2⟩ := fld_strs Tryd.underlying70 Tryd.underlying9 (by kernel_rfl) h2
  obtain ⟨aa, al, ac, ad, e3, r3, _, _, _, s3⟩ := fld_ints Tryd.underlying25 Tryd.underlying5 (by kernel_rfl) h3
  refine ⟨⟨op, k, na, nl, nc, nm, aa, al, ac, ad⟩, ⟨bd_i64 b0, bd_i64 b1, r2, r3, fun j hj => by have := s2 j hj; show (nm j).size ≤ _; omega, fun j hj => bd_u8 (s3 j hj)⟩, fun c hc => ?_⟩
  match c, hc with
  | 0, _ => exact e0
  | 1, _ => exact e1
  | 2, _ => exact e2
  | 3, _ => exact e3

theorem fld_rule {F : Nat → Value} (h0 : FldOk enc Tryd.prog W 77 (F 0)) (h1 : FldOk enc Tryd.prog W 3 (F 1)) : ∃ r : Rl, r.Ok W ∧ ∀ c, c < 2 → F c = r.F c := by
  obtain ⟨a, n, c, G, e0, r0, l0, l1, _, hG⟩ := fld_structs Tryd.underlying77 Tryd.underlying105 (by kernel_rfl) (by kernel_rfl) (by decide) h0
  obtain ⟨x, e1, b1⟩ := fld_int Tryd.underlying3 h1
  have hex : ∀ i : Nat, ∃ m : Mt, i < n → m.Ok W ∧ ∀ c, c < 4 → G i c = m.F c := fun i => by
    by_cases hi : i < n
    · obtain ⟨m, hm⟩ := fld_match (hG i hi 0 _ rfl) (hG i hi 1 _ rfl) (hG i hi 2 _ rfl) (hG i hi 3 _ rfl)
      exact ⟨m, fun _ => hm⟩
    · exact ⟨⟨0, 0, none, 0, 0, fun _ => .empty, none, 0, 0, fun _ => 0⟩, fun h => absurd h hi⟩
  obtain ⟨M, hM⟩ := Classical.skolem.1 hex
  refine ⟨⟨a, n, c, M, x⟩, ⟨r0.congr (by decide) (fun i c hi hc => (hM i hi).2 c hc), fun j hj => (hM j hj).1, ⟨l0, l1⟩, bd_i64 b1⟩, fun c hc => ?_⟩
  match c, hc with
  | 0, _ => exact e0
  | 1, _ => exact e1

set_option maxRecDepth 100000 in
theorem arg_rules {v : Value} {d : DataW H} {p : List MemPlace} {ts : List TypeId} {ds : List (DataW H)} {j : Nat}
    (hok : Value.okWide Tryd.prog W .any base 69 v) (h : DataW.Trod enc Tryd.prog W 0 (fun _ => true) true 69 v d p)
    (hsz : (DataW.weightsEach Tryd.prog ts ds).all (· ≤ reachBytes) = true) (hts : ts[j]? = some 69) (hds : ds[j]? = some d) :
    ∃ (a : Option Addr) (n c : Nat) (R : Nat → Rl), v = .slice a n c ∧ Rls W a n c R ∧ n * 32 ≤ 140737488351232 := by
  obtain ⟨a0, len0, cap0, rfl⟩ := okWide_slice Tryd.underlying69 hok
  obtain ⟨a, n, c, G, e0, r0, l0, l1, l2, hG⟩ := fld_structs Tryd.underlying69 Tryd.underlying79 (by kernel_rfl) (by kernel_rfl) (by decide) (fld_of rfl h hsz hts hds)
  have hex : ∀ i : Nat, ∃ m : Rl, i < n → m.Ok W ∧ ∀ c, c < 2 → G i c = m.F c := fun i => by
    by_cases hi : i < n
    · obtain ⟨m, hm⟩ := fld_rule (hG i hi 0 _ rfl) (hG i hi 1 _ rfl)
      exact ⟨m, fun _ => hm⟩
    · exact ⟨⟨none, 0, 0, fun _ => ⟨0, 0, none, 0, 0, fun _ => .empty, none, 0, 0, fun _ => 0⟩, 0⟩, fun h => absurd h hi⟩
  obtain ⟨R, hR⟩ := Classical.skolem.1 hex
  exact ⟨a, n, c, R, e0, ⟨r0.congr (by decide) (fun i c hi hc => (hR i hi).2 c hc), fun j hj => (hR j hj).1, l0, l1⟩, l2⟩

set_option maxRecDepth 100000 in
theorem arg_rule {v : Value} {d : DataW H} {p : List MemPlace} {ts : List TypeId} {ds : List (DataW H)} {j : Nat}
    (hok : Value.okWide Tryd.prog W .any base 79 v) (h : DataW.Trod enc Tryd.prog W 0 (fun _ => true) true 79 v d p)
    (hsz : (DataW.weightsEach Tryd.prog ts ds).all (· ≤ reachBytes) = true) (hts : ts[j]? = some 79) (hds : ds[j]? = some d) :
    ∃ r : Rl, v = .agg #[.slice r.a r.n r.c, .int .i64 r.act] ∧ r.Ok W := by
  obtain ⟨cs, rfl, hsize, hf⟩ := fld_agg Tryd.underlying79 (by kernel_rfl) (by kernel_rfl) hok h hsz hts hds
  obtain ⟨u0, e0, f0⟩ := hf 0 _ rfl
  obtain ⟨u1, e1, f1⟩ := hf 1 _ rfl
  obtain ⟨r, hr, he⟩ := fld_rule (F := fun c => if c = 0 then u0 else u1) f0 f1
  refine ⟨r, ?_, hr⟩
  have h0 : u0 = .slice r.a r.n r.c := he 0 (by decide)
  have h1 : u1 = .int .i64 r.act := he 1 (by decide)
  congr 1
  apply Array.ext_getElem?
  intro i
  match i with
  | 0 => rw [e0, h0]; rfl
  | 1 => rw [e1, h1]; rfl
  | i + 2 => rw [Array.getElem?_eq_none (by rw [hsize]; show 2 ≤ i + 2; omega), Array.getElem?_eq_none (by show 2 ≤ i + 2; omega)]

set_option maxRecDepth 100000 in
theorem arg_query {v : Value} {d : DataW H} {p : List MemPlace} {ts : List TypeId} {ds : List (DataW H)} {j : Nat}
    (hok : Value.okWide Tryd.prog W .any base 72 v) (h : DataW.Trod enc Tryd.prog W 0 (fun _ => true) true 72 v d p)
    (hsz : (DataW.weightsEach Tryd.prog ts ds).all (· ≤ reachBytes) = true) (hts : ts[j]? = some 72) (hds : ds[j]? = some d) :
    ∃ q : Qt, v = q.agg ∧ q.Ok W ∧ (-9223372036854775808 ≤ q.ty ∧ q.ty ≤ 9223372036854775807) ∧ (-9223372036854775808 ≤ q.cl ∧ q.cl ≤ 9223372036854775807) ∧ (-9223372036854775808 ≤ q.opc ∧ q.opc ≤ 9223372036854775807) := by
  obtain ⟨cs, rfl, hsize, hf⟩ := fld_agg Tryd.underlying72 (by kernel_rfl) (by kernel_rfl) hok h hsz hts hds
  obtain ⟨u0, e0, f0⟩ := hf 0 _ rfl
  obtain ⟨u1, e1, f1⟩ := hf 1 _ rfl
  obtain ⟨u2, e2, f2⟩ := hf 2 _ rfl
  obtain ⟨u3, e3, f3⟩ := hf 3 _ rfl
  obtain ⟨u4, e4, f4⟩ := hf 4 _ rfl
  obtain ⟨u5, e5, f5⟩ := hf 5 _ rfl
  obtain ⟨na, nl, nc, nm, rfl, r0, _, _, _, s0⟩ := fld_strs Tryd.underlying70 Tryd.underlying9 (by kernel_rfl) f0
  obtain ⟨ty, rfl, b1⟩ := fld_int Tryd.underlying3 f1
  obtain ⟨cl, rfl, b2⟩ := fld_int Tryd.underlying3 f2
  obtain ⟨opc, rfl, b3⟩ := fld_int Tryd.underlying3 f3
  obtain ⟨rd, rfl⟩ := fld_bool Tryd.underlying4 f4
  obtain ⟨fa, fl, fc, ff, rfl, r5, _, _, z5, s5⟩ := fld_ints Tryd.underlying25 Tryd.underlying5 (by kernel_rfl) f5
  refine ⟨⟨na, nl, nc, nm, ty, cl, opc, rd, fa, fl, fc, ff⟩, ?_, ⟨r0, r5, fun j hj => by have := s0 j hj; show (nm j).size ≤ _; omega, fun j hj => bd_u8 (s5 j hj), ?_⟩, bd_i64 b1, bd_i64 b2, bd_i64 b3⟩
  · unfold Qt.agg
    congr 1
    apply Array.ext_getElem?
    intro i
    match i with
    | 0 => exact e0
    | 1 => exact e1
    | 2 => exact e2
    | 3 => exact e3
    | 4 => exact e4
    | 5 => exact e5
    | i + 6 => rw [Array.getElem?_eq_none (by rw [hsize]; show 6 ≤ i + 6; omega), Array.getElem?_eq_none (by show 6 ≤ i + 6; omega)]
  · rw [show Tryd.prog.bytesOf 5 = 1 by kernel_rfl] at z5
    show fl ≤ _
    omega
end

end Go.Proofs.YtgpfkaiinbncnaaDoor
