/- DrrTells: Waited, LinesOf of the reference. -/
import Derived.Test.YthopnlnknicgbaaDoorDrrRef
namespace Go.Proofs.YthopnlnknicgbaaDoor
open Go.RowKit

/-- facts for a store of all five cells of a block, and for what is read behind it -/
theorem five_store {w : World} {r : Nat} {x0 x1 x2 x3 x4 : Value} {T : TypeId} (h : w.heap[r]? = some (.cells #[x0, x1, x2, x3, x4] T (0, 0))) (u0 u1 u2 u3 u4 : Value) {w5 : World}
    (he : ((((w.setCell ⟨r, 0, none⟩ u0).setCell ⟨r, 1, none⟩ u1).setCell ⟨r, 2, none⟩ u2).setCell ⟨r, 3, none⟩ u3).setCell ⟨r, 4, none⟩ u4 = w5) :
    (w.cell? ⟨r, 0, none⟩ = some x0 ∧ w.frozen? ⟨r, 0, none⟩ = false) ∧
    ((w.setCell ⟨r, 0, none⟩ u0).cell? ⟨r, 1, none⟩ = some x1 ∧ (w.setCell ⟨r, 0, none⟩ u0).frozen? ⟨r, 1, none⟩ = false) ∧
    (((w.setCell ⟨r, 0, none⟩ u0).setCell ⟨r, 1, none⟩ u1).cell? ⟨r, 2, none⟩ = some x2 ∧ ((w.setCell ⟨r, 0, none⟩ u0).setCell ⟨r, 1, none⟩ u1).frozen? ⟨r, 2, none⟩ = false) ∧
    ((((w.setCell ⟨r, 0, none⟩ u0).setCell ⟨r, 1, none⟩ u1).setCell ⟨r, 2, none⟩ u2).cell? ⟨r, 3, none⟩ = some x3 ∧ (((w.setCell ⟨r, 0, none⟩ u0).setCell ⟨r, 1, none⟩ u1).setCell ⟨r, 2, none⟩ u2).frozen? ⟨r, 3, none⟩ = false) ∧
    (((((w.setCell ⟨r, 0, none⟩ u0).setCell ⟨r, 1, none⟩ u1).setCell ⟨r, 2, none⟩ u2).setCell ⟨r, 3, none⟩ u3).cell? ⟨r, 4, none⟩ = some x4 ∧ ((((w.setCell ⟨r, 0, none⟩ u0).setCell ⟨r, 1, none⟩ u1).setCell ⟨r, 2, none⟩ u2).setCell ⟨r, 3, none⟩ u3).frozen? ⟨r, 4, none⟩ = false) ∧
    w5.heap[r]? = some (.cells #[u0, u1, u2, u3, u4] T (0, 0)) ∧ Fr [r] w w5 := by
  subst he
  have h1 := blk_set h 0 u0 rfl
  have h2 := blk_set h1 1 u1 rfl
  have h3 := blk_set h2 2 u2 rfl
  have h4 := blk_set h3 3 u3 rfl
  have h5 := blk_set h4 4 u4 rfl
  exact ⟨⟨blk_cell h 0 rfl, blk_frozen h 0⟩, ⟨blk_cell h1 1 rfl, blk_frozen h1 1⟩, ⟨blk_cell h2 2 rfl, blk_frozen h2 2⟩, ⟨blk_cell h3 3 rfl, blk_frozen h3 3⟩, ⟨blk_cell h4 4 rfl, blk_frozen h4 4⟩, h5,
    (((((Fr.refl [r] w).setCell (p := ⟨r, 0, none⟩) (by simp) u0).setCell (p := ⟨r, 1, none⟩) (by simp) u1).setCell (p := ⟨r, 2, none⟩) (by simp) u2).setCell (p := ⟨r, 3, none⟩) (by simp) u3).setCell (p := ⟨r, 4, none⟩) (by simp) u4⟩

/-- the lines that are being copied -/
structure WL (w0 w : World) (B p r k : Nat) (sv cv lv av hv line : Value) (U : Nat → Value) (ln : Nat → Nat) (li : Nat → Nat → Int) : Prop where
  box : w.heap[p]? = some (.cells #[sv, cv, lv, av, hv] 50 (0, 0))
  res : w.heap[r]? = some (.cells #[.slice none 0 0, .slice none 0 0, .slice none 0 0, .int .i64 0, .bool false] 50 (0, 0))
  row : OwnF w B 22 line k U
  all : ∀ i, i < k → OwnF w B 3 (U i) (ln i) (fun j => .int .i64 (li i j))
  fr : Fr [] w0 w
  low : w0.heap.size = B ∧ B ≤ p ∧ B ≤ r ∧ B ≤ w.heap.size

theorem WL.grow {w0 w w5 w6 : World} {B p r k : Nat} {sv cv lv av hv line v5 v6 : Value} {U : Nat → Value} {ln : Nat → Nat} {li : Nat → Nat → Int} (h : WL w0 w B p r k sv cv lv av hv line U ln li)
    (h5 : OwnF w5 w.heap.size 3 v5 (ln k) (fun j => .int .i64 (li k j))) (hf : Fr [] w w5) (o : Obj)
    (ho : OwnF w6 B 22 v6 (k + 1) (app k U (fun _ => v5))) (hf6 : Fr line.ownBlock.toList (w5.alloc o) w6) :
    WL w0 w6 B p r (k + 1) sv cv lv av hv v6 (app k U (fun _ => v5)) ln li := by
  obtain ⟨l1, l2, l3, l4⟩ := h.low
  have f1 : Fr line.ownBlock.toList w w6 := ((hf.mono (S' := line.ownBlock.toList) (by simp)).alloc o).trans hf6 (fun x hx => .inl hx)
  have hL : ∀ x ∈ line.ownBlock.toList, ∃ c, RowF w x 22 k c U := fun x hx => by
    obtain ⟨c, _, _, hr⟩ := h.row.own (by simpa using hx)
    exact ⟨c, hr⟩
  refine ⟨f1.blk h.box (fun hm => ?_), f1.blk h.res (fun hm => ?_), ho, fun i hi => ?_, h.fr.trans f1 (fun x hx => .inr (by have := h.row.ge x hx; omega)), l1, l2, l3, by have := f1.size; omega⟩
  · obtain ⟨c, hr⟩ := hL _ hm
    exact hr.ne_blk h.box (by decide) rfl
  · obtain ⟨c, hr⟩ := hL _ hm
    exact hr.ne_blk h.res (by decide) rfl
  · unfold app
    by_cases hik : i < k
    · rw [if_pos hik]
      exact (h.all i hik).kept f1 (fun g hg hm => by
        obtain ⟨c, hr⟩ := hL _ hm
        obtain ⟨c', _, _, hr'⟩ := (h.all i hik).own hg
        exact hr.ne_row hr' (by decide) rfl)
    · obtain rfl : i = k := by omega
      rw [if_neg hik]
      have f2 : Fr line.ownBlock.toList w5 w6 := ((Fr.refl _ w5).alloc o).trans hf6 (fun x hx => .inl hx)
      exact (h5.mono (by omega)).kept f2 (fun g hg hm => by
        have h1 := h.row.lt g hm
        have h2 := h5.ge g (by simp [hg])
        omega)

set_option maxRecDepth 100000 in
set_option maxHeartbeats 4000000 in
theorem waited_any (w : World) (sa ca : Option Addr) (sn sc cn cc : Nat) (P : Nat) (vis : Bool) (a : Option Addr) (n c : Nat) (V : Nat → Value) (ln : Nat → Nat) (li : Nat → Nat → Int) (hr : RdF w (.slice a n c) n V) (hV : ∀ i, i < n → RdF w (V i) (ln i) (fun j => .int .i64 (li i j)))
    (hl : ∀ i, i < n → ln i ≤ 1000) (hn : n ≤ 40) (q : Nat) (hq : q < n) (x : Int) :
    Calls Tryd.prog 28 #[.agg #[(.slice sa sn sc), (.slice ca cn cc), .slice a n c, .int .i64 P, .bool vis], .int .i64 q, .int .i64 x] w fun e w' => ∃ lv' U, e = .returned (.agg #[(.slice sa sn sc), (.slice ca cn cc), lv', .int .i64 P, .bool vis]) ∧ OwnF w' w.heap.size 22 lv' n U ∧
      (∀ i, i < n → OwnF w' w.heap.size 3 (U i) (if i = q then ln q + 1 else ln i) (fun j => .int .i64 (if i = q then (if j < ln q then li q j else x) else li i j))) ∧ Fr [] w w' := by
  have HR := Lib.hid hr; clear hr
  have HV := Lib.hid hV; clear hV
  have HL := Lib.hid hl; clear hl
  have hb0 := heap_alloc_new w (.cells #[(.slice sa sn sc), (.slice ca cn cc), .slice a n c, .int .i64 P, .bool vis] 50)
  have hb1 := heap_alloc_new (w.alloc (.cells #[(.slice sa sn sc), (.slice ca cn cc), .slice a n c, .int .i64 P, .bool vis] 50)) (.cells #[.slice none 0 0, .slice none 0 0, .slice none 0 0, .int .i64 0, .bool false] 50)
  have hq0 := ((Fr.refl [] _).alloc (.cells #[.slice none 0 0, .slice none 0 0, .slice none 0 0, .int .i64 0, .bool false] 50)).blk hb0 (by simp)
  simp only [World.size_alloc] at hb1 hq0
  have hst : WL w ((w.alloc (.cells #[(.slice sa sn sc), (.slice ca cn cc), .slice a n c, .int .i64 P, .bool vis] 50)).alloc (.cells #[.slice none 0 0, .slice none 0 0, .slice none 0 0, .int .i64 0, .bool false] 50)) w.heap.size w.heap.size (w.heap.size + 1) 0 (.slice sa sn sc) (.slice ca cn cc) (.slice a n c) (.int .i64 P) (.bool vis) (.slice none 0 0) (fun _ => undef) (fun i => if i = q then ln q + 1 else ln i) (fun i j => if i = q then (if j < ln q then li q j else x) else li i j) :=
    ⟨hq0, hb1, OwnF.nil _ _ _ _, fun i hi => by omega, ((Fr.refl [] w).alloc _).alloc _, rfl, by omega, by omega, by simp; omega⟩
  have HST := Lib.hid hst; clear hst hb0 hb1 hq0
  go_enter Tryd.func28, Tryd.ntmps28
  go_wp2
  generalize (w.alloc (.cells #[(.slice sa sn sc), (.slice ca cn cc), .slice a n c, .int .i64 P, .bool vis] 50)).alloc (.cells #[.slice none 0 0, .slice none 0 0, .slice none 0 0, .int .i64 0, .bool false] 50) = w1 at *
  obtain ⟨r, hr⟩ : ∃ r, r = w.heap.size + 1 := ⟨_, rfl⟩
  obtain ⟨p, hp⟩ : ∃ p, p = w.heap.size := ⟨_, rfl⟩
  have hpr : p ≠ r := by omega
  rw [← hr] at HST ⊢
  have HST2 : Hid (WL w w1 w.heap.size p r 0 (.slice sa sn sc) (.slice ca cn cc) (.slice a n c) (.int .i64 P) (.bool vis) (.slice none 0 0) (fun _ => undef) (fun i => if i = q then ln q + 1 else ln i) (fun i j => if i = q then (if j < ln q then li q j else x) else li i j)) := by rw [hp]; exact HST
  rw [← hp]
  clear hp hr HST
  go_loopw [7, 8] (fun line i wr => ∃ (k : Nat) (U : Nat → Value), k ≤ n ∧ i = .int .i64 k ∧ WL w wr w.heap.size p r k (.slice sa sn sc) (.slice ca cn cc) (.slice a n c) (.int .i64 P) (.bool vis) line U (fun i => if i = q then ln q + 1 else ln i) (fun i j => if i = q then (if j < ln q then li q j else x) else li i j)) (fun _ i _ => n - (intOf i).toNat)
  case atStart => exact ⟨0, _, by omega, rfl, HST2.out⟩
  case round =>
    clear HST2
    obtain ⟨k, U, hk, rfl, hW⟩ := hrel
    have HW := Lib.hid hW; clear hW
    have c2 := blk_cell HW.out.box 2 rfl
    have hsz := HW.out.low.2.2.2
    by_cases hlt : k < n
    · obtain ⟨b1, o1, d1, he1, _, _, _, hc1⟩ := HR.out.shape (by omega)
      simp only [Value.slice.injEq, true_and] at he1
      obtain ⟨rfl, rfl⟩ := he1
      have hvk := HV.out k hlt
      obtain ⟨ak, ck, hak⟩ := hvk.slice
      have k1 := HW.out.fr.cell (hc1 k hlt) (by simp)
      rw [hak] at k1 hvk
      have c3 : (wr.alloc (.cells #[] 3)).cell? ⟨p, 2, none⟩ = some (.slice (some ⟨b1, o1, none⟩) n c) := ((Fr.refl [] wr).alloc (.cells #[] 3)).cell c2 (by simp)
      have k2 := ((Fr.refl [] wr).alloc (.cells #[] 3)).cell k1 (by simp)
      have HRK := Lib.hid (hvk.fr (HW.out.fr.alloc (.cells #[] 3)) (by simp))
      have HE := Lib.hid (info_empty wr 3)
      have hlk := HL.out k hlt
      clear hc1 hak hvk
      have k0 : (0 : Int) ≤ (k : Int) := by omega
      have k3 : (k : Int) < (n : Int) := by omega
      by_cases hkq : k = q
      · subst hkq
        have kk : ((k : Int) == (k : Int)) = true := by simp
        go_wp2_with (first
          | (at_builtin; refine wpList_app rfl (.tmp 17) (.tmp 22) 22 rfl 3 infoInt Tryd.underlying22 rfl HE.out rfl HRK.out rfl (fun _ _ => rfl) (by unfold maxLen; omega) (by omega) (by simp) ?_; intro v4 w4 ho4 hf4 hn4; rw [Nat.zero_add] at ho4; obtain ⟨a4, c4, hv4⟩ := ho4.rd.slice; subst hv4; have HO4 := Lib.hid ho4; have HF4 := Lib.hid ((((Fr.refl [] wr).alloc _).trans hf4 (fun x hx => .inr (by simp [Value.ownBlock] at hx; omega)) : Fr [] wr w4)); have hs4 := HF4.out.size; clear ho4 hf4 hn4 c3 k2)
          | (at_builtin; refine wpList_app rfl (.tmp 27) (.tmp 29) 22 rfl 3 infoInt Tryd.underlying22 rfl (HO4.out.alloc _) rfl (rd_one _ _ _ (by simp)) rfl (fun _ _ => rfl) (by unfold maxLen; omega) (by omega) (by simp; omega) ?_; intro v5 w5 ho5 hf5 hn5; obtain ⟨a5, c5, hv5⟩ := ho5.rd.slice; subst hv5; have HF5 := Lib.hid (((HF4.out.alloc _).trans hf5 (fun x hx => .inr (HO4.out.ge x hx)) : Fr [] wr w5)); have HO5 := Lib.hid (ho5.congr (f' := fun j => .int .i64 (if j < ln k then li k j else x)) (fun j hj => by
              unfold app
              by_cases h1 : j < ln k
              · rw [if_pos h1, if_neg (by omega), if_pos h1]; simp
              · rw [if_neg h1, if_neg h1])); have hs5 := HF5.out.size; clear ho5 hf5 hn5)
          | (at_builtin; refine wpList_app rfl (.tmp 31) (.tmp 33) 48 rfl 22 infoRow Tryd.underlying48 rfl ((HW.out.row.kept HF5.out (by simp)).alloc _) rfl (rd_one _ _ _ (by simp)) rfl (fun _ _ => rfl) (by unfold maxLen; omega) (by omega) (by simp; omega) ?_; intro v6 w6 ho6 hf6 hn6; have HW6 := Lib.hid (HW.out.grow (v5 := .slice a5 (ln k + 1) c5) (by simp only [if_pos]; exact HO5.out) HF5.out _ ho6 hf6); clear ho6 hf6 hn6))
        go_roundw
        case rel => exact ⟨k + 1, _, by omega, by go_num, HW6.out⟩
        case measure => simp [intOf]; omega
      · have kk : ((k : Int) == (q : Int)) = false := by simp; omega
        go_wp2_with (first
          | (at_builtin; refine wpList_app rfl (.tmp 17) (.tmp 22) 22 rfl 3 infoInt Tryd.underlying22 rfl HE.out rfl HRK.out rfl (fun _ _ => rfl) (by unfold maxLen; omega) (by omega) (by simp) ?_; intro v4 w4 ho4 hf4 hn4; rw [Nat.zero_add] at ho4; obtain ⟨a4, c4, hv4⟩ := ho4.rd.slice; subst hv4; have HO4 := Lib.hid ho4; have HF4 := Lib.hid ((((Fr.refl [] wr).alloc _).trans hf4 (fun x hx => .inr (by simp [Value.ownBlock] at hx; omega)) : Fr [] wr w4)); have hs4 := HF4.out.size; clear ho4 hf4 hn4 c3 k2)
          | (at_builtin; refine wpList_app rfl (.tmp 31) (.tmp 33) 48 rfl 22 infoRow Tryd.underlying48 rfl ((HW.out.row.kept HF4.out (by simp)).alloc _) rfl (rd_one _ _ _ (by simp)) rfl (fun _ _ => rfl) (by unfold maxLen; omega) (by omega) (by simp; omega) ?_; intro v6 w6 ho6 hf6 hn6; have HW6 := Lib.hid (HW.out.grow (v5 := .slice a4 (ln k) c4) (by simp only [if_neg hkq]; exact HO4.out.congr (fun j hj => by unfold app; rw [if_neg (by omega)]; simp)) HF4.out _ ho6 hf6); clear ho6 hf6 hn6))
        go_roundw
        case rel => exact ⟨k + 1, _, by omega, by go_num, HW6.out⟩
        case measure => simp [intOf]; omega
    · obtain rfl : k = n := by omega
      obtain ⟨av, cv', hav⟩ := HW.out.row.rd.slice
      subst hav
      have hb1 := blk_set HW.out.box 2 (.slice av k cv') rfl
      have z2 := blk_frozen HW.out.box 2
      have fb : Fr [p] wr (wr.setCell ⟨p, 2, none⟩ (.slice av k cv')) := (Fr.refl [p] wr).setCell (p := ⟨p, 2, none⟩) (by simp) _
      have hb2 := fb.blk HW.out.res (by simp; exact fun e => hpr e.symm)
      obtain ⟨y0, y1, y2, y3, y4⟩ := box5 hb1
      obtain ⟨w5, hw5⟩ : ∃ w5, (((((wr.setCell ⟨p, 2, none⟩ (.slice av k cv')).setCell ⟨r, 0, none⟩ (.slice sa sn sc)).setCell ⟨r, 1, none⟩ (.slice ca cn cc)).setCell ⟨r, 2, none⟩ (.slice av k cv')).setCell ⟨r, 3, none⟩ (.int .i64 P)).setCell ⟨r, 4, none⟩ (.bool vis) = w5 := ⟨_, rfl⟩
      obtain ⟨⟨s0, t0⟩, ⟨s1, t1⟩, ⟨s2, t2⟩, ⟨s3, t3⟩, ⟨s4, t4⟩, hb5, f5⟩ := five_store hb2 (.slice sa sn sc) (.slice ca cn cc) (.slice av k cv') (.int .i64 P) (.bool vis) hw5
      obtain ⟨e0, e1, e2, e3, e4⟩ := box5 hb5
      have ff := (fb.mono (S' := [p, r]) (by simp)).trans f5 (S := [p, r]) (by simp)
      have HROW := Lib.hid (HW.out.row.kept ff (fun g hg hm => by
        obtain ⟨c', _, _, hr'⟩ := HW.out.row.own hg
        rcases List.mem_cons.1 hm with h | h
        · exact hr'.ne_blk HW.out.box (by decide) h
        · exact hr'.ne_blk HW.out.res (by decide) (by simpa using h)))
      have HALL := Lib.hid (fun i (hi : i < k) => (HW.out.all i hi).kept ff (fun g hg hm => by
        obtain ⟨c', _, _, hr'⟩ := (HW.out.all i hi).own hg
        rcases List.mem_cons.1 hm with h | h
        · exact hr'.ne_blk HW.out.box (by decide) h
        · exact hr'.ne_blk HW.out.res (by decide) (by simpa using h)))
      have HFR := Lib.hid (HW.out.fr.trans ff (fun x hx => .inr (by
        obtain ⟨_, l2, l3, _⟩ := HW.out.low
        rcases List.mem_cons.1 hx with h | h
        · omega
        · have : x = r := by simpa using h
          omega)))
      clear fb f5 ff hb1 hb2 hb5
      subst hw5
      go_wp2
      exact bodyPost_ret (v := .agg #[.slice sa sn sc, .slice ca cn cc, .slice av k cv', .int .i64 P, .bool vis]) (by simp [results, Tryd.results28, go_sem, e0, e1, e2, e3, e4]) rfl ⟨_, U, rfl, HROW.out, HALL.out, HFR.out⟩

end Go.Proofs.YthopnlnknicgbaaDoor
