/- append, as one step of a region that draws its order. -/
import Derived.Test.YtbaiaolgjlhioaaDoorGen
import Derived.Deep.RegionLaw
namespace Go.Proofs.YtbaiaolgjlhioaaDoor
open Go.RowKit

theorem step_app {P : Program} {w : World} {ops : Array Oper} {o : Oper} {a : Act} {K : Act → World → Prop} {Q : Exit → Act → World → Prop} {X : Prop} (hgd : o.guard = none) (s x : Operand) (t : TypeId)
    (ho : o.op = .call { callee := .builtin .append, args := #[s, x], argTypes := #[t, t] })
    (E : TypeId) {z : Value} {bytes : Nat} (hinfo : (P.info? E).map (fun i => (i.zero, i.size, i.bytes)) = some (some z, 1, bytes)) (ht : P.underlying t = some (.slice E)) (hz : z.cells.size = 1)
    {v : Value} {n base : Nat} {f : Nat → Value} (hown : OwnF w base E v n f) (hs : a.eval s = v)
    {y : Value} {m : Nat} {g : Nat → Value} (hrd : RdF w y m g) (hx : a.eval x = y) (h1 : ∀ j, j < m → (g j).oneCell' = true)
    (h63 : n + m ≤ maxLen) (hbytes : (n + m) * bytes ≤ 140737488355328) (hbase : base ≤ w.heap.size)
    (h : ∀ v' w', OwnF w' base E v' (n + m) (app n f g) → Fr v.ownBlock.toList w w' → SameOrNew w v v' → K (a.put o.dst v') w') :
    if Region.wanted o (yielded ops a.tmps) = true then Oper.wp P o a w K Q else X := by
  have hw : Region.wanted o (yielded ops a.tmps) = true := by simp [Region.wanted, hgd]
  rw [if_pos hw]
  obtain ⟨v', w', hr, h2, h3, h4⟩ := run_app (P := P) w t o.type E hinfo ht hz hown hrd h1 h63 hbytes hbase
  unfold Oper.wp
  simp [execOp, ho, resolve, invoke, builtin, hs, hx, hr, Result.andThen]
  exact h v' w' h2 h3 h4

end Go.Proofs.YtbaiaolgjlhioaaDoor
