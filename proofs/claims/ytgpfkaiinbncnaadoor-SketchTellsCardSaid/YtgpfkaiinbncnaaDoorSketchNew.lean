/- sketch.New. -/
import Derived.Test.YtgpfkaiinbncnaaDoorInfo
import Derived.Test.YtgpfkaiinbncnaaDoorStepApp
namespace Go.Proofs.YtgpfkaiinbncnaaDoor
open Go.RowKit

theorem infoRow : (Tryd.prog.info? 28).map (fun i => (i.zero, i.size, i.bytes)) = some (some (.slice none 0 0), 1, 24) := by kernel_rfl

/-- The rows of a sketch: rv reads as d rows of wd numbers, F. -/
def SkF (w : World) (rv : Value) (d wd : Nat) (F : Nat → Nat → Int) : Prop :=
  ∃ R : Nat → Value, RdF w rv d R ∧ ∀ i, i < d → RdF w (R i) wd (fun j => .int .i64 (F i j))

theorem SkF.fr {w w' : World} {rv : Value} {d wd : Nat} {F : Nat → Nat → Int} (h : SkF w rv d wd F) (hf : Fr [] w w') : SkF w' rv d wd F := by
  obtain ⟨R, h1, h2⟩ := h
  exact ⟨R, h1.fr hf (by simp), fun i hi => (h2 i hi).fr hf (by simp)⟩

theorem SkF.congr {w : World} {rv : Value} {d wd : Nat} {F G : Nat → Nat → Int} (h : SkF w rv d wd F) (he : ∀ i, i < d → ∀ j, j < wd → F i j = G i j) : SkF w rv d wd G := by
  obtain ⟨R, h1, h2⟩ := h
  exact ⟨R, h1, fun i hi => (h2 i hi).congr (fun j hj => by rw [he i hi j hj])⟩

theorem SkF.slice {w : World} {rv : Value} {d wd : Nat} {F : Nat → Nat → Int} (h : SkF w rv d wd F) : ∃ a c, rv = .slice a d c := by
  obtain ⟨R, h1, _⟩ := h
  exact h1.slice

theorem RowF.apart {w : World} {g : Nat} {E T : TypeId} {n cap : Nat} {f : Nat → Value} {p : Nat} {cs : Array Value} (h : RowF w g E n cap f) (hp : w.heap[p]? = some (.cells cs T (0, 0))) (hT : E ≠ T) : g ≠ p := by
  rintro rfl
  obtain ⟨cur, hc, _⟩ := h
  rw [hc] at hp
  simp only [Option.some.injEq, Obj.cells.injEq] at hp
  exact hT hp.2.1

theorem OwnF.apart {w : World} {B : Nat} {E T : TypeId} {v : Value} {n : Nat} {f : Nat → Value} {p : Nat} {cs : Array Value} (h : OwnF w B E v n f) (hp : w.heap[p]? = some (.cells cs T (0, 0))) (hT : E ≠ T) : p ∉ v.ownBlock.toList := by
  rcases h with ⟨rfl, _⟩ | ⟨g, cap, rfl, hb, hr⟩
  · simp [Value.ownBlock]
  · simp only [Value.ownBlock, Option.toList_some, List.mem_singleton]
    exact fun e => hr.apart hp hT e.symm

theorem OwnF.apartRow {w : World} {B : Nat} {E T : TypeId} {v : Value} {n m cap g : Nat} {f h : Nat → Value} (ho : OwnF w B E v n f) (hr : RowF w g T m cap h) (hT : E ≠ T) : g ∉ v.ownBlock.toList := by
  obtain ⟨cur, hc, _⟩ := hr
  exact ho.apart hc hT

def rsl (rg rc : Nat → Nat) (wd i : Nat) : Value := .slice (some ⟨rg i, 0, none⟩) wd (rc i)

/-- a sketch that is being made: the variable in block p, its rows, of the call's own from block B on -/
structure SkB (w : World) (B p : Nat) (v : Value) (k wd : Nat) (rg rc : Nat → Nat) (F : Nat → Nat → Int) : Prop where
  blk : w.heap[p]? = some (.cells #[.int .i64 wd, v] 24 (0, 0))
  row : OwnF w B 28 v k (rsl rg rc wd)
  all : ∀ i, i < k → B ≤ rg i ∧ RowI w (rg i) wd (rc i) (F i)
  low : B ≤ p

theorem SkB.told {w : World} {B p : Nat} {v : Value} {k wd : Nat} {rg rc : Nat → Nat} {F : Nat → Nat → Int} (h : SkB w B p v k wd rg rc F) : SkF w v k wd F :=
  ⟨_, h.row.rd, fun i hi => (h.all i hi).2.rd⟩

theorem SkB.kept {w w' : World} {B p : Nat} {v : Value} {k wd : Nat} {rg rc : Nat → Nat} {F : Nat → Nat → Int} (h : SkB w B p v k wd rg rc F) (hf : Fr [] w w') : SkB w' B p v k wd rg rc F :=
  ⟨hf.blk h.blk (by simp), h.row.kept hf (by simp), fun i hi => ⟨(h.all i hi).1, (h.all i hi).2.kept hf (by simp)⟩, h.low⟩

/-- one more row, appended and stored: w0 is the world ahead of the append, with the new row g in it -/
theorem SkB.grow {W w w0 w1 : World} {p k wd g cap : Nat} {v v' : Value} {rg rc : Nat → Nat} {F : Nat → Nat → Int} (h : SkB w W.heap.size p v k wd rg rc F) (hF : Fr [] W w) (f0 : Fr [] w w0)
    (hr : RowI w0 g wd cap (F k)) (hg : w.heap.size ≤ g)
    (ho : OwnF w1 W.heap.size 28 v' (k + 1) (app k (rsl rg rc wd) (fun _ => .slice (some ⟨g, 0, none⟩) wd cap))) (hf : Fr v.ownBlock.toList w0 w1) :
    (w1.cell? ⟨p, 1, none⟩ = some v ∧ w1.frozen? ⟨p, 1, none⟩ = false) ∧ SkB (w1.setCell ⟨p, 1, none⟩ v') W.heap.size p v' (k + 1) wd (fun i => if i = k then g else rg i) (fun i => if i = k then cap else rc i) F ∧
      Fr [] W (w1.setCell ⟨p, 1, none⟩ v') ∧ ∀ (r : Nat) (cs : Array Value), r ≠ p → w.heap[r]? = some (.cells cs 24 (0, 0)) → (w1.setCell ⟨p, 1, none⟩ v').heap[r]? = some (.cells cs 24 (0, 0)) := by
  have hsz := hF.size
  have b0 := f0.blk h.blk (by simp)
  have r0 := h.row.kept f0 (by simp)
  have b1 := hf.blk b0 (r0.apart b0 (by decide))
  have ff : Fr [p] w1 (w1.setCell ⟨p, 1, none⟩ v') := (Fr.refl [p] w1).setCell (by simp) _
  refine ⟨⟨blk_cell b1 1 rfl, blk_frozen b1 1⟩, ⟨?_, ?_, fun i hi => ?_, h.low⟩, ?_, fun r cs hne hr => ff.blk (hf.blk (f0.blk hr (by simp)) (r0.apart (f0.blk hr (by simp)) (by decide))) (by simpa using hne)⟩
  · simp only [World.setCell]
    rw [Array.getElem?_modify, if_pos rfl, b1]
    rfl
  · refine (ho.kept ff (fun x hx hm => ?_)).congr (fun j hj => ?_)
    · simp only [List.mem_singleton] at hm
      subst hm
      exact ho.apart b1 (by decide) (by simp [hx])
    · unfold app rsl
      by_cases h1 : j = k
      · subst h1; simp
      · simp [show j < k by omega, h1]
  · by_cases h1 : i = k
    · subst h1
      simp only [if_pos]
      have hr1 := hr.kept hf (r0.apartRow hr (by decide))
      exact ⟨by omega, hr1.kept ff (by simpa using hr1.apart b1 (by decide))⟩
    · simp only [if_neg h1]
      have ha := h.all i (by omega)
      have hr0 := ha.2.kept f0 (by simp)
      have hr1 := hr0.kept hf (r0.apartRow hr0 (by decide))
      exact ⟨ha.1, hr1.kept ff (by simpa using hr1.apart b1 (by decide))⟩
  · exact ((hF.trans f0 (by simp)).trans hf (fun x hx => .inr (h.row.ge x hx))).setCell (.inr h.low) _

theorem blk_at0 {w : World} {p : Nat} {x y : Value} {T : TypeId} (h : w.heap[p]? = some (.cells #[x, y] T (0, 0))) (u : Value) :
    (w.setCell ⟨p, 0, none⟩ u).heap[p]? = some (.cells #[u, y] T (0, 0)) := by
  simp only [World.setCell]
  rw [Array.getElem?_modify, if_pos rfl, h]
  rfl

/-- facts for a store of both of a block's cells, and for what is read behind it -/
theorem two_store {w : World} {p : Nat} {x y : Value} {T : TypeId} (h : w.heap[p]? = some (.cells #[x, y] T (0, 0))) (u v : Value) :
    (w.cell? ⟨p, 0, none⟩ = some x ∧ w.frozen? ⟨p, 0, none⟩ = false ∧ w.cell? ⟨p, 1, none⟩ = some y ∧ w.frozen? ⟨p, 1, none⟩ = false) ∧ ((w.setCell ⟨p, 0, none⟩ u).cell? ⟨p, 1, none⟩ = some y ∧ (w.setCell ⟨p, 0, none⟩ u).frozen? ⟨p, 1, none⟩ = false) ∧
      (((w.setCell ⟨p, 0, none⟩ u).setCell ⟨p, 1, none⟩ v).cell? ⟨p, 0, none⟩ = some u ∧ ((w.setCell ⟨p, 0, none⟩ u).setCell ⟨p, 1, none⟩ v).cell? ⟨p, 1, none⟩ = some v) := by
  have h1 := blk_at0 h u
  have h2 := blk_set2 h u v
  exact ⟨⟨blk_cell h 0 rfl, blk_frozen h 0, blk_cell h 1 rfl, blk_frozen h 1⟩, ⟨blk_cell h1 1 rfl, blk_frozen h1 1⟩, blk_cell h2 0 rfl, blk_cell h2 1 rfl⟩

set_option maxRecDepth 100000 in
set_option maxHeartbeats 2000000 in
theorem sketch_new (w : World) (deep wide : Int) (hd : 1 ≤ deep ∧ deep ≤ 8) (hw : 1 ≤ wide ∧ wide ≤ 1000) :
    Calls Tryd.prog 8 #[.int .i64 deep, .int .i64 wide] w fun e w' => ∃ rv, e = .returned (.tuple #[.agg #[.int .i64 wide, rv], .nilIface]) ∧ SkF w' rv deep.toNat wide.toNat (fun _ _ => 0) ∧ Fr [] w w' := by
  obtain ⟨D, rfl⟩ : ∃ D : Nat, deep = (D : Int) := ⟨deep.toNat, by omega⟩
  obtain ⟨K, rfl⟩ : ∃ K : Nat, wide = (K : Int) := ⟨wide.toNat, by omega⟩
  simp only [Int.toNat_natCast]
  have hmk := run_mk (P := Tryd.prog) 28 3 infoInt Tryd.underlying28 K (by omega) (by unfold maxLen; omega)
  go_enter Tryd.func8, Tryd.ntmps8
  have b0 := heap_alloc_new w (.cells #[.int .i64 0, .slice none 0 0] 24)
  have HR0 := Lib.hid (((Fr.refl [] _).alloc (.cells #[.int .i64 K, .slice none 0 0] 24)).blk b0 (by simp))
  have b1 := heap_alloc_new (w.alloc (.cells #[.int .i64 0, .slice none 0 0] 24)) (.cells #[.int .i64 K, .slice none 0 0] 24)
  rw [World.size_alloc] at b1
  have HB0 := Lib.hid (show SkB ((w.alloc (.cells #[.int .i64 0, .slice none 0 0] 24)).alloc (.cells #[.int .i64 K, .slice none 0 0] 24)) w.heap.size (w.heap.size + 1) (.slice none 0 0) 0 K (fun _ => 0) (fun _ => 0) (fun _ _ => 0) from
    ⟨b1, OwnF.nil _ _ _ _, fun i hi => by omega, by omega⟩)
  have HF0 := Lib.hid (((Fr.refl [] w).alloc (.cells #[.int .i64 0, .slice none 0 0] 24)).alloc (.cells #[.int .i64 K, .slice none 0 0] 24))
  clear b0 b1
  go_wp2
  generalize (w.alloc (.cells #[.int .i64 0, .slice none 0 0] 24)).alloc (.cells #[.int .i64 K, .slice none 0 0] 24) = w2 at *
  have hpp : w.heap.size ≤ w.heap.size + 1 ∧ w.heap.size ≠ w.heap.size + 1 := by omega
  generalize w.heap.size + 1 = p at *
  go_loopw [26] (fun i wr => ∃ (k : Nat) (v : Value) (rg rc : Nat → Nat), k ≤ D ∧ i = .int .i64 k ∧ wr.heap[w.heap.size]? = some (.cells #[.int .i64 0, .slice none 0 0] 24 (0, 0)) ∧ SkB wr w.heap.size p v k K rg rc (fun _ _ => 0) ∧ Fr [] w wr) (fun i _ => D - (intOf i).toNat)
  case atStart => exact ⟨0, _, _, _, by omega, rfl, HR0.out, HB0.out, HF0.out⟩
  case round =>
    clear HR0 HB0 HF0
    obtain ⟨k, v, rg, rc, hk, rfl, hR, hB, hf⟩ := hrel
    have HF := Lib.hid hf; clear hf
    have HB := Lib.hid hB
    have HR := Lib.hid hR; clear hR
    by_cases hlt : k < D
    · have c1 := blk_cell hB.blk 1 rfl
      have hpl := lt_of_blk hB.blk
      have hpl2 : p < wr.heap.size + 1 := by omega
      have z1 := blk_frozen hB.blk 1
      have hsz := HF.out.size
      obtain ⟨av, cv, hav⟩ := hB.row.rd.slice
      subst hav
      clear hB
      have HRW := Lib.hid (((row_mk wr.drew 3 (.int .i64 0) rfl K (by unfold maxLen; omega)).alloc (.cells #[.slice (some ⟨wr.heap.size, 0, none⟩) K K] 28)))
      have HFW := Lib.hid ((((Fr.refl [] wr).drew).alloc (.cells (madeCells (Value.int .i64 0).cells K) 3)).alloc (.cells #[.slice (some ⟨wr.heap.size, 0, none⟩) K K] 28))
      have HOW := Lib.hid (HB.out.row.kept HFW.out (by simp))
      go_wp2_with fail
      go_region_law (refine step_app rfl (.tmp 29) (.tmp 32) 22 rfl 28 infoRow Tryd.underlying22 rfl HOW.out rfl (rd_one _ _ _ (by simp)) rfl (fun _ _ => rfl) (by unfold maxLen; omega) (by omega) (by simp; omega) ?_; intro v1 w1 ho1 hf1 hn1; obtain ⟨a1, c1', hv1⟩ := ho1.rd.slice; subst hv1; have hgr := HB.out.grow HF.out HFW.out HRW.out (Nat.le_refl _) ho1 hf1; obtain ⟨⟨d1, d2⟩, d3, d4, d5⟩ := hgr; have HB1 := Lib.hid d3; have HF1 := Lib.hid d4; have HR1 := Lib.hid (d5 _ _ (by omega) HR.out); clear hf1 hn1 ho1 d3 d4 d5)
      all_goals
        go_wp2
        go_roundw
        case rel => exact ⟨k + 1, _, _, _, by omega, by go_num, HR1.out, HB1.out, HF1.out⟩
        case measure => simp [intOf]; omega
    · obtain rfl : k = D := by omega
      have c0 := blk_cell hB.blk 0 rfl
      have c1 := blk_cell hB.blk 1 rfl
      obtain ⟨av, cv, hav⟩ := hB.row.rd.slice
      subst hav
      obtain ⟨⟨x0, y0, x1, y1⟩, ⟨x2, y2⟩, x3, x4⟩ := two_store HR.out (.int .i64 K) (.slice av k cv)
      have hff : Fr [w.heap.size] wr ((wr.setCell ⟨w.heap.size, 0, none⟩ (.int .i64 K)).setCell ⟨w.heap.size, 1, none⟩ (.slice av k cv)) := ((Fr.refl [w.heap.size] wr).setCell (p := ⟨w.heap.size, 0, none⟩) (by simp) _).setCell (p := ⟨w.heap.size, 1, none⟩) (by simp) _
      have hrd : SkF ((wr.setCell ⟨w.heap.size, 0, none⟩ (.int .i64 K)).setCell ⟨w.heap.size, 1, none⟩ (.slice av k cv)) (.slice av k cv) k K (fun _ _ => 0) := by
        have hb' := hB
        refine ⟨_, (hb'.row.kept hff (fun g hg hm => ?_)).rd, fun i hi => ((hb'.all i hi).2.kept hff (fun hm => ?_)).rd⟩
        · simp only [List.mem_singleton] at hm
          subst hm
          exact hb'.row.apart HR.out (by decide) (by simp [hg])
        · simp only [List.mem_singleton] at hm
          exact (hb'.all i hi).2.apart HR.out (by decide) hm
      have HRD := Lib.hid hrd
      have HFF := Lib.hid (HF.out.trans hff (fun x hx => .inr (by simp at hx; omega)))
      clear hB hff hrd
      go_wp2
      exact bodyPost_ret (v := .tuple #[.agg #[.int .i64 K, .slice av k cv], .nilIface]) (by simp [results, Tryd.results8, go_sem, x3, x4]) rfl ⟨_, rfl, HRD.out, HFF.out⟩

end Go.Proofs.YtgpfkaiinbncnaaDoor
