/- drr: New and Put. -/
import Derived.Test.YthopnlnknicgbaaDoorDrr
namespace Go.Proofs.YthopnlnknicgbaaDoor
open Go.RowKit

theorem infoFlow : (Tryd.prog.info? 87).map (fun i => (i.zero, i.size, i.bytes)) = some (some (.pointer none), 1, 8) := by kernel_rfl

theorem blk_set {w : World} {p : Nat} {cs : Array Value} {T : TypeId} (h : w.heap[p]? = some (.cells cs T (0, 0))) (j : Nat) (u : Value) {ds : Array Value} (hd : cs.setIfInBounds j u = ds) :
    (w.setCell ⟨p, j, none⟩ u).heap[p]? = some (.cells ds T (0, 0)) := by
  subst hd
  simp only [World.setCell]
  rw [Array.getElem?_modify, if_pos rfl, h]
  rfl

/-- flows that are being made -/
structure DrrB (w : World) (B p : Nat) (v : Value) (k : Nat) (pf : Nat → Nat) (sh : Nat → Int) : Prop where
  blk : w.heap[p]? = some (.cells #[v, .int .i64 0, .bool false, .int .i64 0] 86 (0, 0))
  row : OwnF w B 87 v k (fun j => .pointer (some ⟨pf j, 0, none⟩))
  flow : ∀ i, i < k → w.heap[pf i]? = some (.cells #[.int .i64 (sh i), .int .i64 0, .slice none 0 0] 89 (0, 0))
  inj : ∀ i j, i < k → j < k → pf i = pf j → i = j
  low : B ≤ p ∧ ∀ i, i < k → B ≤ pf i

theorem DrrB.grow {w w1 : World} {B p k : Nat} {v v' : Value} {pf : Nat → Nat} {sh : Nat → Int} (h : DrrB w B p v k pf sh) (hB : B ≤ w.heap.size) (o : Obj)
    (ho : OwnF w1 B 87 v' (k + 1) (app k (fun j => .pointer (some ⟨pf j, 0, none⟩)) (fun _ => .pointer (some ⟨w.heap.size, 0, none⟩))))
    (hf : Fr v.ownBlock.toList ((w.alloc (.cells #[.int .i64 (sh k), .int .i64 0, .slice none 0 0] 89)).alloc o) w1) (hsn : SameOrNew ((w.alloc (.cells #[.int .i64 (sh k), .int .i64 0, .slice none 0 0] 89)).alloc o) v v') :
    DrrB (w1.setCell ⟨p, 0, none⟩ v') B p v' (k + 1) (fun j => if j = k then w.heap.size else pf j) sh := by
  have hp := lt_of_blk h.blk
  have hvp : ∀ x ∈ v.ownBlock.toList, x < w.heap.size ∧ x ≠ p ∧ ∀ i, i < k → x ≠ pf i := fun x hx => by
    obtain ⟨c, _, hb, hr⟩ := h.row.own (by simpa using hx)
    exact ⟨hr.lt, hr.ne_blk h.blk (by decide), fun i hi => hr.ne_blk (h.flow i hi) (by decide)⟩
  have f0 : Fr [] w ((w.alloc (.cells #[.int .i64 (sh k), .int .i64 0, .slice none 0 0] 89)).alloc o) := ((Fr.refl [] w).alloc _).alloc _
  have b1 : w1.heap[p]? = some (.cells #[v, .int .i64 0, .bool false, .int .i64 0] 86 (0, 0)) := hf.blk (f0.blk h.blk (by simp)) (fun hm => (hvp p hm).2.1 rfl)
  have hn : w1.heap[w.heap.size]? = some (.cells #[.int .i64 (sh k), .int .i64 0, .slice none 0 0] 89 (0, 0)) :=
    hf.blk (((Fr.refl [] _).alloc _).blk (heap_alloc_new w _) (by simp)) (fun hm => by have := (hvp _ hm).1; omega)
  have ff : Fr [p] w1 (w1.setCell ⟨p, 0, none⟩ v') := (Fr.refl [p] w1).setCell (by simp) _
  refine ⟨blk_set b1 0 v' rfl, ?_, fun i hi => ?_, fun i j hi hj e => ?_, h.low.1, fun i hi => ?_⟩
  · refine (ho.kept ff (fun g hg hm => ?_)).congr (fun j hj => ?_)
    · obtain ⟨c, _, hb, hr⟩ := ho.own hg
      exact hr.ne_blk b1 (by decide) (by simpa using hm)
    · unfold app
      by_cases h1 : j = k
      · subst h1; simp
      · simp [show j < k by omega, h1]
  · by_cases h1 : i = k
    · subst h1
      rw [if_pos rfl]
      exact ff.blk hn (by simp; omega)
    · rw [if_neg h1]
      have hfl := h.flow i (by omega)
      exact ff.blk (hf.blk (f0.blk hfl (by simp)) (fun hm => (hvp _ hm).2.2 i (by omega) rfl)) (by simpa using blk_ne hfl h.blk (by decide))
  · by_cases h1 : i = k <;> by_cases h2 : j = k
    · omega
    · simp [h1, h2] at e
      have := lt_of_blk (h.flow j (by omega)); omega
    · simp [h1, h2] at e
      have := lt_of_blk (h.flow i (by omega)); omega
    · simp [h1, h2] at e
      exact h.inj i j (by omega) (by omega) e
  · by_cases h1 : i = k
    · simp [h1]; omega
    · simp [h1]; exact h.low.2 i (by omega)

theorem drrb_store {w w1 : World} {B p k : Nat} {v : Value} {pf : Nat → Nat} {sh : Nat → Int} (h : DrrB w B p v k pf sh) (o o' : Obj) (hf : Fr v.ownBlock.toList ((w.alloc o).alloc o') w1) :
    w1.cell? ⟨p, 0, none⟩ = some v ∧ w1.frozen? ⟨p, 0, none⟩ = false := by
  have b1 := hf.blk ((((Fr.refl [] w).alloc o).alloc o').blk h.blk (by simp)) (fun hm => by
    obtain ⟨c, _, hb, hr⟩ := h.row.own (by simpa using hm)
    exact hr.ne_blk h.blk (by decide) rfl)
  exact ⟨blk_cell b1 0 rfl, blk_frozen b1 0⟩

theorem Fr.growB {W w w1 : World} {S : List Nat} {p k : Nat} {v : Value} {pf : Nat → Nat} {sh : Nat → Int} (h0 : Fr S W w) (h : DrrB w W.heap.size p v k pf sh) {o o' : Obj} (hf : Fr v.ownBlock.toList ((w.alloc o).alloc o') w1) : Fr S W w1 :=
  ((h0.alloc o).alloc o').trans hf (fun x hx => .inr (h.row.ge x hx))

def shfault (n : Nat) (sh : Nat → Int) : Int := if n = 0 then 9 else if 40 < n then 7 else if (∀ j, j < n → 1 ≤ sh j ∧ sh j ≤ 10000) then 0 else 6

/-- what 'New' leaves -/
def DNew (w : World) (n : Nat) (sh : Nat → Int) (e : Ending) (w' : World) : Prop :=
  Fr [] w w' ∧ ((shfault n sh = 0 ∧ 0 < n ∧ n ≤ 40 ∧ (∀ j, j < n → 1 ≤ sh j ∧ sh j ≤ 10000) ∧ ∃ p gr c pf, e = .returned (.tuple #[.pointer (some ⟨p, 0, none⟩), .nilIface]) ∧
      Drr w' w.heap.size p gr n c pf (fun _ => .slice none 0 0) sh ⟨0, false, fun _ => 0⟩ (fun _ => 0) (fun _ _ => 0) 0) ∨
    (shfault n sh ≠ 0 ∧ e = .returned (.tuple #[.pointer none, .iface 24 (.int .i64 (shfault n sh))])))

set_option maxRecDepth 100000 in
set_option maxHeartbeats 2000000 in
theorem drr_new (w : World) (a : Option Addr) (n c : Nat) (sh : Nat → Int) (hv : RdF w (.slice a n c) n (fun j => .int .i64 (sh j))) :
    Calls Tryd.prog 24 #[.slice a n c] w (DNew w n sh) := by
  have hcm := hv.le_cap
  unfold maxLen at hcm
  have HV := Lib.hid hv; clear hv
  by_cases h0 : n = 0
  · subst h0
    go_enter Tryd.func24, Tryd.ntmps24
    go_wp2
    go_ret2
    exact ⟨Fr.refl _ _, .inr ⟨by simp [shfault], by simp [shfault]⟩⟩
  have hne : ((n : Int) == 0) = false := by simp; omega
  by_cases h1 : 40 < n
  · have e : shfault n sh = 7 := by unfold shfault; rw [if_neg h0, if_pos h1]
    go_enter Tryd.func24, Tryd.ntmps24
    have E := Lib.hid e; clear e
    go_wp2
    go_ret2
    exact ⟨Fr.refl _ _, .inr ⟨by rw [E.out]; decide, by rw [E.out]; rfl⟩⟩
  go_enter Tryd.func24, Tryd.ntmps24
  go_wp2
  go_loopw [19] (fun i wr => ∃ (k : Nat) (v : Value) (pf : Nat → Nat), k ≤ n ∧ i = .int .i64 k ∧ DrrB wr w.heap.size w.heap.size v k pf sh ∧ Hid (∀ j, j < k → 1 ≤ sh j ∧ sh j ≤ 10000) ∧ Fr [] w wr) (fun i _ => n - (intOf i).toNat)
  case atStart => exact ⟨0, .slice none 0 0, fun _ => 0, by omega, rfl, ⟨heap_alloc_new w _, OwnF.nil _ _ _ _, fun i hi => by omega, fun i j hi => by omega, Nat.le_refl _, fun i hi => by omega⟩, Lib.hid (fun j hj => by omega), (Fr.refl [] w).alloc _⟩
  case round =>
    obtain ⟨k, v, pf, hk, rfl, hD, HG, hf⟩ := hrel
    have hsz := hf.size
    have HF := Lib.hid hf; clear hf
    by_cases hlt : k < n
    · obtain ⟨b1, o1, c1, he1, _, _, _, hc1⟩ := HV.out.shape (by omega)
      simp only [Value.slice.injEq, true_and] at he1
      obtain ⟨rfl, rfl⟩ := he1
      have k1 := HF.out.cell (hc1 k hlt) (by simp)
      clear hc1
      have k0 : (0 : Int) ≤ (k : Int) := by omega
      have k3 : (k : Int) < (n : Int) := by omega
      by_cases hg : 1 ≤ sh k ∧ sh k ≤ 10000
      · have c0 := blk_cell hD.blk 0 rfl
        have f0 := blk_frozen hD.blk 0
        have hpl := lt_of_blk hD.blk
        have HD := Lib.hid hD; clear hD
        have HG2 := Lib.hid (show ∀ j, j < k + 1 → 1 ≤ sh j ∧ sh j ≤ 10000 from fun j hj => by
          by_cases hjk : j < k
          · exact HG.out j hjk
          · obtain rfl : j = k := by omega
            exact hg)
        go_wp2_with (at_builtin; refine wpList_app rfl (.tmp 34) (.tmp 38) 84 rfl 87 infoFlow Tryd.underlying84 rfl ((HD.out.row.alloc _).alloc _) rfl (rd_one _ _ _ (by simp)) rfl (fun _ _ => rfl) (by unfold maxLen; omega) (by omega) (by simp; omega) ?_; intro v4 w4 ho4 hf4 hn4; obtain ⟨av, cv, hav⟩ := ho4.rd.slice; subst hav; have hgr := HD.out.grow hsz _ ho4 hf4 hn4; have hb4 := drrb_store HD.out _ _ hf4; have hq := hb4.1; have hq2 := hb4.2; have HGR := Lib.hid hgr; have HF4 := Lib.hid (HF.out.growB HD.out hf4); clear ho4 hf4 hn4 hgr hb4)
        go_wp2
        go_roundw
        case rel => exact ⟨k + 1, _, _, by omega, by go_num, HGR.out, HG2, HF4.out.setCell (by right; simp) _⟩
        case measure => simp [intOf]; omega
      · have HG1 := Lib.hid hg
        clear hD
        have e : shfault n sh = 6 := by unfold shfault; rw [if_neg h0, if_neg h1, if_neg (fun hx => hg (hx k hlt))]
        have E := Lib.hid e; clear e
        have hgg : sh k < 1 ∨ (1 ≤ sh k ∧ 10000 < sh k) := by omega
        clear hg
        rcases hgg with hg1 | ⟨hg1, hg2⟩
        all_goals
          go_wp2
          go_ret2
          exact ⟨HF.out, .inr ⟨by rw [E.out]; decide, by rw [E.out]; rfl⟩⟩
    · obtain rfl : k = n := by omega
      have e : shfault k sh = 0 := by unfold shfault; rw [if_neg h0, if_neg h1, if_pos HG.out]
      have E := Lib.hid e; clear e
      have HD := Lib.hid hD; clear hD
      go_wp2
      go_ret2
      obtain ⟨gr, cap, e4, hb4, hr4⟩ := HD.out.row.row (by omega)
      have hb := HD.out.blk
      rw [e4] at hb
      exact ⟨HF.out, .inl ⟨E.out, by omega, by omega, HG.out, _, gr, cap, pf, rfl, ⟨hb, hr4, HD.out.flow, fun i _ => OwnF.nil _ _ _ _, HD.out.inj, fun i j x _ _ hx => by simp [Value.ownBlock] at hx, ⟨Nat.le_refl _, hb4, HD.out.low.2⟩⟩⟩⟩

end Go.Proofs.YthopnlnknicgbaaDoor
