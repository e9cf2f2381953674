/- rend.Order's own comparison; the nodes sorted by the library. -/
import Derived.Test.YtbaiaolgjlhioaaDoorRendLaw
import Derived.Test.YtbaiaolgjlhioaaDoorRendSort
namespace Go.Proofs.YtbaiaolgjlhioaaDoor
open Go.RowKit Go.Sort Go.Shelf

set_option maxHeartbeats 2000000 in
theorem rcompare_any (W : World) (x y : Int × Int) :
    Calls Tryd.prog 22 #[.agg #[.int .i64 x.1, .int .i64 x.2], .agg #[.int .i64 y.1, .int .i64 y.2]] W fun e w' => e = .returned (.int .i64 (cfr x y)) ∧ GR W w' := by
  obtain ⟨x1, x2⟩ := x
  obtain ⟨y1, y2⟩ := y
  simp only []
  unfold cfr
  have hg := ((GR.refl W).alloc (.cells #[.int .i64 x1, .int .i64 x2] 49)).alloc (.cells #[.int .i64 y1, .int .i64 y2] 49)
  have HG := Lib.hid hg; clear hg
  have b0 := ((Fr.refl [] (W.alloc (.cells #[.int .i64 x1, .int .i64 x2] 49))).alloc (.cells #[.int .i64 y1, .int .i64 y2] 49)).blk (heap_alloc_new W (.cells #[.int .i64 x1, .int .i64 x2] 49)) (by simp)
  have b1 := heap_alloc_new (W.alloc (.cells #[.int .i64 x1, .int .i64 x2] 49)) (.cells #[.int .i64 y1, .int .i64 y2] 49)
  rw [World.size_alloc] at b1
  have c0 := blk_cell (v := .int .i64 x1) b0 0 rfl
  have c1 := blk_cell (v := .int .i64 x2) b0 1 rfl
  have c2 := blk_cell (v := .int .i64 y1) b1 0 rfl
  have c3 := blk_cell (v := .int .i64 y2) b1 1 rfl
  clear b0 b1
  go_enter Tryd.func22, Tryd.ntmps22
  go_wp2_with fail
  generalize (W.alloc (.cells #[.int .i64 x1, .int .i64 x2] 49)).alloc (.cells #[.int .i64 y1, .int .i64 y2] 49) = w1 at *
  have HK := Lib.hid (fun (w' : World) (h : Fr [] w1 w') => (⟨h.cell c0 (by simp), h.cell c1 (by simp), h.cell c2 (by simp), h.cell c3 (by simp)⟩ : w'.cell? ⟨W.heap.size, 0, none⟩ = some (.int .i64 x1) ∧ w'.cell? ⟨W.heap.size, 1, none⟩ = some (.int .i64 x2) ∧ w'.cell? ⟨W.heap.size + 1, 0, none⟩ = some (.int .i64 y1) ∧ w'.cell? ⟨W.heap.size + 1, 1, none⟩ = some (.int .i64 y2)))
  go_region_held3 (fun w' => w'.cell? ⟨W.heap.size, 0, none⟩ = some (.int .i64 x1) ∧ w'.cell? ⟨W.heap.size, 1, none⟩ = some (.int .i64 x2) ∧ w'.cell? ⟨W.heap.size + 1, 0, none⟩ = some (.int .i64 y1) ∧ w'.cell? ⟨W.heap.size + 1, 1, none⟩ = some (.int .i64 y2))
    (first | exact HK.out _ (Fr.refl _ _) | exact HK.out _ ((Fr.refl [] w1).drew) | exact HK.out _ (((Fr.refl [] w1).alloc _).drew))
    (first
    | (go_at_call 24; refine (cmpc_any _ _ _).mono ?_; rintro e w' ⟨rfl, rfl⟩)
    | (go_at_call 23; refine (or_new _ _ _ _ (by simp)).mono ?_; rintro e w' ⟨rfl, rfl⟩))
  all_goals
    go_wp2
    go_ret
    exact ⟨rfl, (HG.out.alloc _).drew⟩

theorem cmpLays_rend (blk off size : Nat) (w : World) : CmpLays Tryd.prog 22 #[] enc2 2 cfr blk off size w :=
  fun _ _ _ _ x y => rcompare_any _ x y

theorem sort_rend (w : World) (B : Nat) (v : Value) (L : List (Int × Int)) (h : OwnP w B 49 v L.length (lp L)) (hL : L.length < 4611686018427387904) :
    Calls Tryd.prog 21 #[v, .func (.func 22) #[] #[]] w fun e w' =>
      e = .returned (.tuple #[]) ∧ OwnP w' B 49 v (srr L).length (lp (srr L)) ∧ Fr v.ownBlock.toList w w' := by
  rcases h with ⟨rfl, h0⟩ | ⟨g, cap, rfl, hb, h⟩
  · have hc := AnyF.slices_SortFunc_none rendSortLays none 0 (.func (.func 22) #[] #[]) w
    change Calls Tryd.prog 21 _ _ _ at hc
    refine hc.mono ?_
    rintro e w' ⟨rfl, rfl⟩
    exact ⟨rfl, .inl ⟨rfl, by rw [srr_len, h0]⟩, Fr.refl _ _⟩
  · have eg : ∀ args w, (callFunc 22 args).run Tryd.prog w = .ok (.enter 22 args) w := enters_of Tryd.func22 (by kernel_rfl) rfl
    have hc := AnyQ.slices_SortFunc_total rendSortLays 2 Tryd.isAgg49 Tryd.sizeOf49 enc2 (fun _ => rfl) (fun x v hv => by simp [enc2] at hv; rcases hv with rfl | rfl <;> rfl) cfr swor 22 #[] g 0 cap L.toArray w eg (cmpLays_rend g 0 _ w) h.holds h.lt (by simpa using hL) totr
    change Calls Tryd.prog 21 _ _ _ at hc
    have e : L.toArray.size = L.length := by simp
    rw [e] at hc
    refine hc.mono ?_
    rintro e w' ⟨rfl, n, os, rfl⟩
    obtain ⟨h1, h2⟩ := h.sorted (srr_len L) n os
    exact ⟨rfl, .inr ⟨g, cap, by rw [srr_len], hb, h1⟩, h2⟩

end Go.Proofs.YtbaiaolgjlhioaaDoor
