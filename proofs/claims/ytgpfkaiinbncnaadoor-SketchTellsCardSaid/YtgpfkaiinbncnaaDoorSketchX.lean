/- sketches that stay under stores into the law's own variables; the letters of the keys' places. -/
import Derived.Test.YtgpfkaiinbncnaaDoorSketched
namespace Go.Proofs.YtgpfkaiinbncnaaDoor
open Go.RowKit

/-- reads as a sketch, and goes on so whatever is stored into the blocks S -/
def SkX (w : World) (S : List Nat) (rv : Value) (d wd : Nat) (F : Nat → Nat → Int) : Prop := ∀ w', Fr S w w' → SkF w' rv d wd F

theorem SkX.now {w : World} {S : List Nat} {rv : Value} {d wd : Nat} {F : Nat → Nat → Int} (h : SkX w S rv d wd F) : SkF w rv d wd F := h w (Fr.refl _ _)

theorem SkX.go {w w' : World} {S S' : List Nat} {rv : Value} {d wd : Nat} {F : Nat → Nat → Int} (h : SkX w S rv d wd F) (hf : Fr S' w w') (hS : ∀ x ∈ S', x ∈ S ∨ w.heap.size ≤ x) : SkX w' S rv d wd F :=
  fun w2 h2 => h w2 ((hf.mono hS).trans h2 (fun _ hx => .inl hx))

theorem SkX.congr {w : World} {S : List Nat} {rv : Value} {d wd : Nat} {F G : Nat → Nat → Int} (h : SkX w S rv d wd F) (he : ∀ i, i < d → ∀ j, j < wd → F i j = G i j) : SkX w S rv d wd G :=
  fun w2 h2 => (h w2 h2).congr he

theorem SkO.x {w : World} {B : Nat} {S : List Nat} {rv : Value} {d wd : Nat} {F : Nat → Nat → Int} (h : SkO w B rv d wd F) (hS : ∀ x ∈ S, x < B) : SkX w S rv d wd F :=
  fun _ h2 => (h.kept h2 hS).told

theorem RdF.old {w w' : World} {v : Value} {n : Nat} {f : Nat → Value} {S : List Nat} (h : RdF w v n f) (hk : Fr S w w') (hS : ∀ x ∈ S, w.heap.size ≤ x) : RdF w' v n f :=
  h.kept fun a u hu => hk.cell hu (fun hm => by have := hS _ hm; have := World.block_lt_of_cell? w a hu; omega)

theorem SkF.x {w : World} {S : List Nat} {rv : Value} {d wd : Nat} {F : Nat → Nat → Int} (h : SkF w rv d wd F) (hS : ∀ x ∈ S, w.heap.size ≤ x) : SkX w S rv d wd F := by
  intro w2 h2
  obtain ⟨R, h3, h4⟩ := h
  exact ⟨R, h3.old h2 hS, fun i hi => (h4 i hi).old h2 hS⟩

/-- The letters of a list of keys: SP t i the place of key t in row i, SK k the sketch of the first k keys with the numbers ns. -/
theorem skt_letters (wd : Nat) (L : Nat → Nat) (K : Nat → Nat → Int) (ns : Nat → Int) (hw : 1 ≤ wd ∧ wd ≤ 1000) :
    ∃ (SP : Nat → Nat → Nat) (SK : Nat → Nat → Nat → Int), (∀ t i, SP t i = spt wd i (L t) (K t)) ∧ (∀ t i, SP t i < wd) ∧ (∀ i p, SK 0 i p = 0) ∧
      (∀ k i p, (if p = SP k i then SK k i p + ns k else SK k i p) = SK (k + 1) i p) ∧ (∀ k i p, (∀ j, j < k → 0 ≤ ns j ∧ ns j ≤ 1000) → 0 ≤ SK k i p ∧ SK k i p ≤ 1000 * k) ∧
      (∀ k i p, SK k i p = skt wd L K ns k i p) :=
  ⟨fun t i => spt wd i (L t) (K t), skt wd L K ns, fun _ _ => rfl, fun t i => spt_lt wd i _ _ (by omega), fun _ _ => rfl, fun k i p => skt_succ wd L K ns k i p,
    fun k i p h => csum_bd ns _ k h, fun _ _ _ => rfl⟩

end Go.Proofs.YtgpfkaiinbncnaaDoor
