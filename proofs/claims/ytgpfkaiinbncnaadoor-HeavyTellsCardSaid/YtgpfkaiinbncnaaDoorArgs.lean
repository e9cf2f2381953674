/- How a law's arguments are opened: from the form's reading to the facts that the walks ask. -/
import Derived.Test.YtgpfkaiinbncnaaDoorRows
import Derived.Test.YtgpfkaiinbncnaaDoorGen
import Derived.ProofKit
import Derived.OpenShut
import Derived.ChangeOld
import Derived.SizedLaws
import Derived.Deep.Slices
import Derived.ChangeArms
import Derived.Lib.SmallJoins
namespace Go.Proofs.YtgpfkaiinbncnaaDoor
open Go.ChangeShapes Go.WideShapes Go.ChangeAt Go.RowKit

section
variable {H : Type} {enc : TypeId × Value → H} {P : Program} {W : World} {base : Nat}

theorem arg_int {t : TypeId} {k : IntKind} {v : Value} {d : DataW H} {p : List MemPlace} (ht : P.underlying t = some (.int k)) (hok : Value.okWide P W .any base t v) (h : DataW.Trod enc P W 0 (fun _ => true) true t v d p) :
    ∃ x : Int, v = .int k x ∧ d = .lit (.int k x) ∧ (Lit.int k x).wf = true := by
  obtain ⟨x, rfl, rfl, _, hw⟩ := open_int ht hok h
  exact ⟨x, rfl, rfl, hw⟩

theorem bd_i64 {x : Int} (h : (Lit.int .i64 x).wf = true) : -9223372036854775808 ≤ x ∧ x ≤ 9223372036854775807 := by
  simpa [Lit.wf, IntKind.min, IntKind.max, IntKind.signed, IntKind.bits] using h

theorem bd_u8 {x : Int} (h : (Lit.int .u8 x).wf = true) : 0 ≤ x ∧ x ≤ 255 := by
  simpa [Lit.wf, IntKind.min, IntKind.max, IntKind.signed, IntKind.bits] using h

theorem arg_ints {t e : TypeId} {k : IntKind} {bytes : Nat} {v : Value} {d : DataW H} {p : List MemPlace} {ts : List TypeId} {ds : List (DataW H)} {j : Nat}
    (ht : P.underlying t = some (.slice e)) (he : P.underlying e = some (.int k)) (hc : P.cellsOf e = 1) (hb : P.bytesOf e = bytes)
    (hok : Value.okWide P W .any base t v) (h : DataW.Trod enc P W 0 (fun _ => true) true t v d p)
    (hsz : (DataW.weightsEach P ts ds).all (· ≤ reachBytes) = true) (hts : ts[j]? = some t) (hds : ds[j]? = some d) :
    ∃ (a : Option Addr) (n c : Nat) (f : Nat → Int), v = .slice a n c ∧ RdF W (.slice a n c) n (fun j => .int k (f j)) ∧ n * bytes ≤ 140737488351232 ∧ (∀ j, j < n → (Lit.int k (f j)).wf = true) ∧
      ((d = .nil ∧ n = 0) ∨ ∃ el sp, d = .slice el sp ∧ el.length = n) := by
  obtain ⟨a0, len0, cap0, rfl⟩ := okWide_slice ht hok
  obtain ⟨fuel, hf⟩ := h
  rcases open_ints ht he hc hf with ⟨hcs, hx⟩ | ⟨x, l, c, zs, hcs, _, hl, hm, hz, hx, hcell, hwz⟩
  · simp [Value.cells] at hcs
    obtain ⟨rfl, rfl, rfl⟩ := hcs
    obtain ⟨rfl, _⟩ := Prod.mk.inj hx
    exact ⟨none, 0, 0, fun _ => 0, rfl, .inl ⟨rfl, rfl⟩, by omega, fun j hj => by omega, .inl ⟨rfl, rfl⟩⟩
  · simp [Value.cells] at hcs
    obtain ⟨rfl, rfl, rfl⟩ := hcs
    obtain ⟨rfl, _⟩ := Prod.mk.inj hx
    have hz' : zs.length = cap0 := by simpa using hz
    have hs := sized_slice hsz hts hds ht
    rw [hb] at hs
    simp only [lits, List.length_map, List.length_take, List.length_drop, reachBytes] at hs
    have e1 : min len0 zs.length + (zs.length - len0) = cap0 := by omega
    rw [e1] at hs
    refine ⟨some x, len0, cap0, fun j => zs.getD j 0, rfl, .inr ⟨x, cap0, rfl, hl, hm, fun j hj => hcell j (by omega)⟩, Nat.le_trans (Nat.mul_le_mul_right _ hl) hs, fun j hj => ?_, .inr ⟨_, _, rfl, by simp [lits]; omega⟩⟩
    have hj' : j < zs.length := by omega
    have : zs.getD j 0 = zs[j] := by simp [List.getD, hj']
    show (Lit.int k (zs.getD j 0)).wf = true
    rw [this]
    exact hwz _ (List.getElem_mem hj')

/-- A slice of one-cell elements of whatever type: each element's value, and its own reading. -/
theorem arg_ones {t e : TypeId} {bytes : Nat} {v : Value} {d : DataW H} {p : List MemPlace} {ts : List TypeId} {ds : List (DataW H)} {j : Nat}
    (ht : P.underlying t = some (.slice e)) (hc : P.cellsOf e = 1) (hb : P.bytesOf e = bytes)
    (hok : Value.okWide P W .any base t v) (h : DataW.Trod enc P W 0 (fun _ => true) true t v d p)
    (hsz : (DataW.weightsEach P ts ds).all (· ≤ reachBytes) = true) (hts : ts[j]? = some t) (hds : ds[j]? = some d) :
    ∃ (a : Option Addr) (n c : Nat) (V : Nat → Value), v = .slice a n c ∧ RdF W (.slice a n c) n V ∧ n * bytes ≤ 140737488351232 ∧
      ((d = .nil ∧ n = 0) ∨ ∃ (m : Nat) (D : Nat → DataW H) (Pl : Nat → List MemPlace) (sp : List (DataW H)), d = .slice ((List.range n).map D) sp ∧ ∀ i, i < n → DataW.trod enc P W 0 (fun _ => true) true m e [V i] = some (D i, Pl i)) := by
  obtain ⟨a0, len0, cap0, rfl⟩ := okWide_slice ht hok
  obtain ⟨fuel, hf⟩ := h
  rcases Go.Deep.open_slice1 ht hc hf with ⟨hcs, hx⟩ | ⟨x, l, c, m, n, V, D, Pl, hcs, _, hl, hm, hmm, hx, hcell⟩
  · simp [Value.cells] at hcs
    obtain ⟨rfl, rfl, rfl⟩ := hcs
    obtain ⟨rfl, _⟩ := Prod.mk.inj hx
    exact ⟨none, 0, 0, fun _ => undef, rfl, .inl ⟨rfl, rfl⟩, by omega, .inl ⟨rfl, rfl⟩⟩
  · simp [Value.cells] at hcs
    obtain ⟨rfl, rfl, rfl⟩ := hcs
    obtain ⟨rfl, _⟩ := Prod.mk.inj hx
    have hmm' : m = cap0 := by simpa using hmm
    have hs := sized_slice hsz hts hds ht
    rw [hb] at hs
    simp only [List.length_map, List.length_range, reachBytes] at hs
    have e1 : len0 + (m - len0) = cap0 := by omega
    rw [e1] at hs
    exact ⟨some x, len0, cap0, V, rfl, .inr ⟨x, cap0, rfl, hl, hm, fun j hj => (hcell j (by omega)).1⟩, Nat.le_trans (Nat.mul_le_mul_right _ hl) hs, .inr ⟨n, D, Pl, _, rfl, fun i hi => (hcell i (by omega)).2⟩⟩

def boolOf : Value → Bool
  | .bool b => b
  | _ => false

theorem arg_bools {t e : TypeId} {v : Value} {d : DataW H} {p : List MemPlace} {ts : List TypeId} {ds : List (DataW H)} {j : Nat}
    (ht : P.underlying t = some (.slice e)) (he : P.underlying e = some .bool) (hc : P.cellsOf e = 1) (hb : P.bytesOf e = 1)
    (hok : Value.okWide P W .any base t v) (h : DataW.Trod enc P W 0 (fun _ => true) true t v d p)
    (hsz : (DataW.weightsEach P ts ds).all (· ≤ reachBytes) = true) (hts : ts[j]? = some t) (hds : ds[j]? = some d) :
    ∃ (a : Option Addr) (n c : Nat) (f : Nat → Bool), v = .slice a n c ∧ RdF W (.slice a n c) n (fun j => .bool (f j)) ∧ n ≤ 140737488351232 := by
  obtain ⟨a, n, c, V, rfl, hr, hs, hd⟩ := arg_ones ht hc hb hok h hsz hts hds
  refine ⟨a, n, c, fun j => boolOf (V j), rfl, hr.congr fun i hi => ?_, by omega⟩
  rcases hd with ⟨_, h0⟩ | ⟨m, D, Pl, sp, _, hD⟩
  · omega
  · obtain ⟨b, hb2, _⟩ := DataW.trod_bool he (hD i hi)
    have e2 : V i = .bool b := by simpa using hb2
    show V i = .bool (boolOf (V i))
    rw [e2]
    rfl

end

theorem own : ownKnob Tryd.prog.godebug = none := by kernel_rfl
theorem laidOut : laidOutB Tryd.prog = true := by kernel_rfl

end Go.Proofs.YtgpfkaiinbncnaaDoor
