/- t -/
import Derived.Test.YtgpfkaiinbncnaaDoorSketch0
import Derived.BigQuiet
import Derived.IntWalk
namespace Go.Proofs.YtgpfkaiinbncnaaDoor
open Go.RowKit

theorem cell_stay {w : World} {a : Addr} {v : Value} {g i : Nat} {u : Value} (h : w.cell? a = some v) (hn : a.block ≠ g) : (w.setCell ⟨g, i, none⟩ u).cell? a = some v :=
  ((Fr.refl [g] w).setCell (p := ⟨g, i, none⟩) (by simp) u).cell h (by simpa using hn)

/-- a load that the walk is not to look at -/
def HRow (t : TypeId) (x : Operand) : Op := .load t x
theorem hideRow (t : TypeId) : Op.load t (.tmp 12) = HRow t (.tmp 12) := rfl
theorem hideStruct (t : TypeId) : Op.load t (.tmp 2) = HRow t (.tmp 2) := rfl
attribute [local go_sem] HRow

set_option maxHeartbeats 2000000 in
set_option maxRecDepth 100000 in
theorem add1_any (w : World) (bs bk bn g : Nat) (rv : Value) (wd i n : Nat) (a : Option Addr) (c cr : Nat) (sp : Nat) (x : Int) (f : Nat → Int)
    (hbs : w.heap[bs]? = some (.cells #[.int .i64 wd, rv] 24 (0, 0))) (hbk : w.heap[bk]? = some (.cells #[.slice a n c] 25 (0, 0))) (hbn : w.heap[bn]? = some (.cells #[.int .i64 x] 3 (0, 0)))
    (hsp : sp < wd) (hpl : ∀ w1, Fr [] w w1 → Calls Tryd.prog 47 #[.agg #[.int .i64 wd, rv], .int .i64 i, .slice a n c] w1 fun e w' => e = .returned (.int .i64 sp) ∧ Fr [] w1 w')
    (hr : RowI w g wd cr f) (hgn : g ≠ bn) (hx : 0 ≤ x ∧ x ≤ 1125899906842624) (hf : ∀ j, j < wd → 0 ≤ f j ∧ f j ≤ 1125899906842624) :
    Calls Tryd.prog 46 #[.int .i64 i, .slice (some ⟨g, 0, none⟩) wd cr, .pointer (some ⟨bs, 0, none⟩), .pointer (some ⟨bk, 0, none⟩), .pointer (some ⟨bn, 0, none⟩)] w fun e w' =>
      e = .returned (.tuple #[]) ∧ RowI w' g wd cr (fun j => if j = sp then f j + x else f j) ∧ Fr [g] w w' := by
  have HPL := Lib.hid hpl
  have HR := Lib.hid (hr.kept ((Fr.refl [] w).drew) (by simp))
  have c0 : w.cell? ⟨bs, 0, none⟩ = some (.int .i64 wd) := blk_cell hbs 0 rfl
  have c1 : w.cell? ⟨bs, 1, none⟩ = some rv := blk_cell hbs 1 rfl
  have c2 : w.cell? ⟨bk, 0, none⟩ = some (.slice a n c) := blk_cell hbk 0 rfl
  have c3 : w.cell? ⟨bn, 0, none⟩ = some (.int .i64 x) := blk_cell hbn 0 rfl
  have hbd := hf _ hsp
  have HC0 := Lib.hid (((Fr.refl [] w).drew).cell c0 (by simp))
  have HC1 := Lib.hid (((Fr.refl [] w).drew).cell c1 (by simp))
  have HC2 := Lib.hid (((Fr.refl [] w).drew).cell c2 (by simp))
  have HC3 := Lib.hid (((Fr.refl [] w).drew).cell c3 (by simp))
  have n0 : bs ≠ g := (hr.apart hbs (by decide)).symm
  have n2 : bk ≠ g := (hr.apart hbk (by decide)).symm
  have n3 : bn ≠ g := hgn.symm
  clear hpl hr hf hbs hbk hbn hgn
  have s0 : (0 : Int) ≤ (sp : Int) := by omega
  have s3 : (sp : Int) < (wd : Int) := by omega
  have hwr : IntKind.i64.wrap (f sp + x) = f sp + x := IntWalk.i64_in _ (by omega)
  go_enter Tryd.func46, Tryd.ntmps46
  go_wp2_with fail
  simp only [hideRow, hideStruct]
  go_region_held3 (fun w' => w'.cell? ⟨bs, 0, none⟩ = some (.int .i64 wd) ∧ w'.cell? ⟨bs, 1, none⟩ = some rv ∧ w'.cell? ⟨bk, 0, none⟩ = some (.slice a n c) ∧ w'.cell? ⟨bn, 0, none⟩ = some (.int .i64 x))
    (first | exact ⟨x0, x1, x2, x3⟩ | exact ⟨cell_stay x0 n0, cell_stay x1 n0, cell_stay x2 n2, cell_stay x3 n3⟩ | go_keep)
    ((go_at_call 47; refine (HPL.out _ ((Fr.refl [] w).drew)).mono ?_; rintro e w5 ⟨rfl, hf5⟩; have x0 := hf5.cell HC0.out (by simp); have x1 := hf5.cell HC1.out (by simp); have x2 := hf5.cell HC2.out (by simp); have x3 := hf5.cell HC3.out (by simp); have r5 := HR.out.kept hf5 (by simp); have y1 := r5.cell sp hsp; have y2 := r5.frozen sp))
  go_wp2
  go_end0
  exact ⟨rfl, (r5.stored sp _).congr (fun j hj => by
    by_cases h : j = sp
    · subst h; simp
    · simp [h]), ((((Fr.refl [] w).drew).trans hf5 (by simp)).mono (S' := [g]) (by simp)).setCell (p := ⟨g, sp, none⟩) (by simp) _⟩

end Go.Proofs.YtgpfkaiinbncnaaDoor
