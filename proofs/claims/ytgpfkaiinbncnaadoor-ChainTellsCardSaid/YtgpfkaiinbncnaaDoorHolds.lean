/- node.holds: what a rule's node tells of a query. -/
import Derived.Test.YtgpfkaiinbncnaaDoorNode1
import Derived.Test.YtgpfkaiinbncnaaDoorBegins
import Derived.Test.YtgpfkaiinbncnaaDoorCellsApp
namespace Go.Proofs.YtgpfkaiinbncnaaDoor
open Go.RowKit

/-- a query -/
structure Qt where
  na : Option Addr
  nl : Nat
  nc : Nat
  nm : Nat → ByteArray
  ty : Int
  cl : Int
  opc : Int
  rd : Bool
  fa : Option Addr
  fl : Nat
  fc : Nat
  ff : Nat → Int

def Qt.agg (q : Qt) : Value := .agg #[.slice q.na q.nl q.nc, .int .i64 q.ty, .int .i64 q.cl, .int .i64 q.opc, .bool q.rd, .slice q.fa q.fl q.fc]

structure Qt.Ok (w : World) (q : Qt) : Prop where
  rdn : RdF w (.slice q.na q.nl q.nc) q.nl (fun j => .string (q.nm j))
  rdf : RdF w (.slice q.fa q.fl q.fc) q.fl (fun j => .int .u8 (q.ff j))
  szs : ∀ j, j < q.nl → (q.nm j).size ≤ 140737488355328
  ffs : ∀ j, j < q.fl → 0 ≤ q.ff j ∧ q.ff j ≤ 255
  fls : q.fl ≤ 140737488355328

theorem Qt.Ok.fr {w w' : World} {q : Qt} (h : q.Ok w) (hf : Fr [] w w') : q.Ok w' :=
  ⟨h.rdn.fr hf (fun _ _ _ _ => by simp), h.rdf.fr hf (fun _ _ _ _ => by simp), h.szs, h.ffs, h.fls⟩
theorem Qt.Ok.below {w w' : World} {q : Qt} (h : q.Ok w) (hf : Below w.heap.size w w') : q.Ok w' :=
  ⟨h.rdn.below hf, h.rdf.below hf, h.szs, h.ffs, h.fls⟩
theorem Mt.Ok.below {w w' : World} {m : Mt} (h : m.Ok w) (hf : Below w.heap.size w w') : m.Ok w' :=
  ⟨h.op0, h.k0, h.rdn.below hf, h.rda.below hf, h.szs, h.ads⟩

/-- what a single question tells of a query -/
def leafH (m : Mt) (q : Qt) : Bool :=
  if m.op = 2 then undr q.nl m.nl q.nm m.nm
  else if m.op = 3 then decide (q.ty = m.k)
  else if m.op = 4 then decide (q.cl = m.k)
  else if m.op = 5 then decide (q.opc = m.k)
  else if m.op = 6 then q.rd
  else if m.op = 7 then begF q.ff q.fl m.ad m.k
  else true

/-- what a question tells, where those that it takes tell bs 0, bs 1 -/
def nodeH (m : Mt) (q : Qt) (bs : Nat → Bool) : Bool :=
  if m.op = 8 then !bs 0 else if m.op = 9 then bs 0 && bs 1 else if m.op = 10 then bs 0 || bs 1 else leafH m q

/-- a node's cells -/
def ndF (m : Mt) (v : Value) : Nat → Value
  | 0 => .int .i64 m.op
  | 1 => .int .i64 m.k
  | 2 => .slice m.na m.nl m.nc
  | 3 => .slice m.aa m.al m.ac
  | _ => v

def ndAgg (m : Mt) (v : Value) : Value := .agg #[.int .i64 m.op, .int .i64 m.k, .slice m.na m.nl m.nc, .slice m.aa m.al m.ac, v]

def tkN (op : Int) : Nat := (tk op).toNat
theorem tk_eq (op : Int) : tk op = (tkN op : Int) := by
  unfold tkN tk
  split
  · rfl
  · split <;> rfl

/-- the node of part m and what it takes, v, tells b of q; its rows lie in blocks of D -/
inductive NRep (W w : World) (D : Nat → Prop) (q : Qt) : Mt → Value → Bool → Prop
  | mk {m : Mt} {a : Option Addr} {c : Nat} (ms : Nat → Mt) (vs : Nat → Value) (bs : Nat → Bool) (hm : m.Ok W) (h1 : n1Fault m = 0)
      (hD : ∀ g, a.map Addr.block = some g → D g) (hr : RdC w (.slice a (tkN m.op) c) 5 (tkN m.op) (fun j => ndF (ms j) (vs j)))
      (hc : ∀ j, j < tkN m.op → NRep W w D q (ms j) (vs j) (bs j)) : NRep W w D q m (.slice a (tkN m.op) c) (nodeH m q bs)

theorem n1_zero {m : Mt} (h : n1Fault m = 0) : 1 ≤ m.op ∧ m.op ≤ 10 ∧ (m.op = 7 → 0 ≤ m.k ∧ m.k ≤ 8 * (m.al : Int) ∧ m.al ≤ 16) := by
  unfold n1Fault at h
  split at h
  · omega
  · split at h
    · omega
    · refine ⟨by omega, by omega, fun h7 => ?_⟩
      by_cases h16 : 16 < m.al
      · rw [wi7a h7 h16] at h
        omega
      · rw [wi7b h7 h16] at h
        split at h
        · omega
        · omega

end Go.Proofs.YtgpfkaiinbncnaaDoor
