/- A slice of structs of two ints as an argument. -/
import Derived.Test.YtbaiaolgjlhioaaDoorArgs
import Derived.Test.YtbaiaolgjlhioaaDoorPairs
import Derived.Deep.SlicePairs
namespace Go.Proofs.YtbaiaolgjlhioaaDoor
open Go.ChangeShapes Go.WideShapes Go.ChangeAt Go.RowKit

section
variable {H : Type} {enc : TypeId × Value → H} {P : Program} {W : World} {base : Nat}

def intIn : Value → Int
  | .int _ x => x
  | _ => 0

theorem arg_pairs {t e : TypeId} {f0 f1 : Field} {bytes : Nat} {v : Value} {d : DataW H} {p : List MemPlace} {ts : List TypeId} {ds : List (DataW H)} {j : Nat}
    (ht : P.underlying t = some (.slice e)) (he : P.underlying e = some (.struct #[f0, f1])) (ce : P.cellsOf e = 2) (o0 : f0.offset = 0) (o1 : f1.offset = 1) (c0 : P.cellsOf f0.type = 1) (c1 : P.cellsOf f1.type = 1)
    (k0 : P.underlying f0.type = some (.int .i64)) (k1 : P.underlying f1.type = some (.int .i64)) (hb : P.bytesOf e = bytes)
    (hok : Value.okWide P W .any base t v) (h : DataW.Trod enc P W 0 (fun _ => true) true t v d p)
    (hsz : (DataW.weightsEach P ts ds).all (· ≤ reachBytes) = true) (hts : ts[j]? = some t) (hds : ds[j]? = some d) :
    ∃ (a : Option Addr) (n c : Nat) (q : Nat → Int × Int), v = .slice a n c ∧ RdP W (.slice a n c) n q ∧ n * bytes ≤ 140737488351232 ∧ ∀ i, i < n → (Lit.int .i64 (q i).1).wf = true ∧ (Lit.int .i64 (q i).2).wf = true := by
  obtain ⟨a0, len0, cap0, rfl⟩ := okWide_slice ht hok
  obtain ⟨fuel, hf⟩ := h
  rcases Go.Deep.open_slice_pairs ht he ce o0 o1 c0 c1 hf with ⟨hcs, hx⟩ | ⟨x, l, c, m, n, V0, V1, D0, D1, P0, P1, hcs, _, hl, hm, hmm, hx, hcell⟩
  · simp [Value.cells] at hcs
    obtain ⟨rfl, rfl, rfl⟩ := hcs
    exact ⟨none, 0, 0, fun _ => (0, 0), rfl, .inl ⟨rfl, rfl⟩, by omega, fun i hi => by omega⟩
  · simp [Value.cells] at hcs
    obtain ⟨rfl, rfl, rfl⟩ := hcs
    obtain ⟨rfl, _⟩ := Prod.mk.inj hx
    have hmm' : m = cap0 := by simpa using hmm
    have hs := sized_slice hsz hts hds ht
    rw [hb] at hs
    simp only [List.length_map, List.length_range, reachBytes] at hs
    have e1 : len0 + (m - len0) = cap0 := by omega
    rw [e1] at hs
    have hv : ∀ i, i < len0 → V0 i = .int .i64 (intIn (V0 i)) ∧ V1 i = .int .i64 (intIn (V1 i)) ∧ (Lit.int .i64 (intIn (V0 i))).wf = true ∧ (Lit.int .i64 (intIn (V1 i))).wf = true := fun i hi => by
      obtain ⟨_, _, h0, h1⟩ := hcell i (by omega)
      obtain ⟨x0, e0, _, w0⟩ := DataW.trod_int k0 h0
      obtain ⟨x1, e1, _, w1⟩ := DataW.trod_int k1 h1
      have e0' : V0 i = .int .i64 x0 := by simpa using e0
      have e1' : V1 i = .int .i64 x1 := by simpa using e1
      rw [e0', e1']
      exact ⟨rfl, rfl, w0, w1⟩
    refine ⟨some x, len0, cap0, fun i => (intIn (V0 i), intIn (V1 i)), rfl, .inr ⟨x, cap0, rfl, hl, hm, fun j hj => ?_⟩, Nat.le_trans (Nat.mul_le_mul_right _ hl) hs, fun i hi => ⟨(hv i hi).2.2.1, (hv i hi).2.2.2⟩⟩
    have hj2 : j / 2 < len0 := by omega
    obtain ⟨q0, q1, _, _⟩ := hcell (j / 2) (by omega)
    unfold fl2
    by_cases hz : j % 2 = 0
    · rw [if_pos hz, ← (hv _ hj2).1, show j = j / 2 * 2 by omega, show j / 2 * 2 / 2 = j / 2 by omega]
      exact q0
    · rw [if_neg hz, ← (hv _ hj2).2.1, show j = j / 2 * 2 + 1 by omega, show (j / 2 * 2 + 1) / 2 = j / 2 by omega]
      exact q1
end

set_option maxRecDepth 100000 in
theorem arg_nodes {H : Type} {enc : TypeId × Value → H} {W : World} {base : Nat} {v : Value} {d : DataW H} {p : List MemPlace} {ts : List TypeId} {ds : List (DataW H)} {j : Nat}
    (hok : Value.okWide Tryd.prog W .any base 22 v) (h : DataW.Trod enc Tryd.prog W 0 (fun _ => true) true 22 v d p)
    (hsz : (DataW.weightsEach Tryd.prog ts ds).all (· ≤ reachBytes) = true) (hts : ts[j]? = some 22) (hds : ds[j]? = some d) :
    ∃ (a : Option Addr) (n c : Nat) (q : Nat → Int × Int), v = .slice a n c ∧ RdP W (.slice a n c) n q ∧ n * 16 ≤ 140737488351232 ∧ ∀ i, i < n → (Lit.int .i64 (q i).1).wf = true ∧ (Lit.int .i64 (q i).2).wf = true :=
  arg_pairs Tryd.underlying22 Tryd.underlying24 (by kernel_rfl) rfl rfl (by kernel_rfl) (by kernel_rfl) Tryd.underlying3 Tryd.underlying3 (by kernel_rfl) hok h hsz hts hds

end Go.Proofs.YtbaiaolgjlhioaaDoor
