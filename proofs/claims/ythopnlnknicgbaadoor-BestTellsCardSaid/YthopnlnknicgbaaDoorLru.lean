/- lru: New, Touch, Keys, Misses: what each does. -/
import Derived.Test.YthopnlnknicgbaaDoorClone
import Derived.Test.YthopnlnknicgbaaDoorIdx
import Derived.Test.YthopnlnknicgbaaDoorInsert
import Derived.Test.YthopnlnknicgbaaDoorLruLaw
import Derived.Test.YthopnlnknicgbaaDoorIdxList
import Derived.BigQuiet
namespace Go.Proofs.YthopnlnknicgbaaDoor
open Go.RowKit

structure Lru (w : World) (p B n : Nat) (v : Value) (l : List Int) : Prop where
  blk : w.heap[p]? = some (.cells #[v, .int .i64 n] 95 (0, 0))
  own : OwnF w B 3 v l.length (fun j => .int .i64 (lg l j))
  len : l.length ≤ n

theorem lg_erase (l : List Int) (k : Int) (hk : k ∈ l) (j : Nat) (hj : j < l.length - 1) :
    (if j < l.idxOf k then lg l j else if j + 1 < l.length then lg l (j + 1) else 0) = lg (l.erase k) j := by
  have e : l.erase k = l.eraseIdx (l.idxOf k) := List.erase_eq_eraseIdx_of_idxOf rfl
  have h1 := (lg_idx l k hk).1
  rw [e]
  unfold lg
  simp only [List.getD_eq_getElem?_getD]
  rw [List.getElem?_eraseIdx]
  by_cases h2 : j < l.idxOf k
  · rw [if_pos h2, if_pos h2]
  · rw [if_neg h2, if_neg h2, if_pos (by omega)]

theorem lg_cons (k : Int) (l : List Int) (j : Nat) : csf k (lg l) j = lg (k :: l) j := by
  unfold csf lg
  rcases j with _ | j
  · rfl
  · rfl

theorem lg_take (l : List Int) (n j : Nat) (hj : j < n) : lg (l.take n) j = lg l j := by
  unfold lg
  rw [List.getD_eq_getElem?_getD, List.getD_eq_getElem?_getD, List.getElem?_take, if_pos hj]

theorem blk_put2 {w : World} {p : Nat} {x y : Value} {T : TypeId} (h : w.heap[p]? = some (.cells #[x, y] T (0, 0))) (u : Value) :
    (w.setCell ⟨p, 0, none⟩ u).heap[p]? = some (.cells #[u, y] T (0, 0)) := by
  simp only [World.setCell]
  rw [Array.getElem?_modify, if_pos rfl, h]
  rfl

/-- the block of a row is not one of another element type -/
theorem OwnF.ne {w : World} {B : Nat} {E T : TypeId} {v : Value} {n : Nat} {f : Nat → Value} {p : Nat} {cs : Array Value} (h : OwnF w B E v n f) (hp : w.heap[p]? = some (.cells cs T (0, 0))) (hT : E ≠ T) : ∀ g, v.ownBlock = some g → g ≠ p := by
  rcases h with ⟨rfl, _⟩ | ⟨g, cap, rfl, hb, cur, hc, _⟩
  · intro g hg; simp [Value.ownBlock] at hg
  · intro g' hg' e
    simp only [Value.ownBlock, Option.some.injEq] at hg'
    subst hg' e
    rw [hc] at hp
    simp only [Option.some.injEq, Obj.cells.injEq] at hp
    exact hT hp.2.1

def LruOk (n : Int) : Prop := 1 ≤ n ∧ n ≤ 64

set_option maxHeartbeats 1000000 in
theorem lru_new (w : World) (n : Int) : Calls Tryd.prog 35 #[.int .i64 n] w fun e w' => Fr [] w w' ∧
    ((LruOk n ∧ ∃ p, e = .returned (.tuple #[.pointer (some ⟨p, 0, none⟩), .nilIface]) ∧ w.heap.size ≤ p ∧ ∀ B, Lru w' p B n.toNat (.slice none 0 0) []) ∨
    (¬ LruOk n ∧ e = .returned (.tuple #[.pointer none, .iface 24 (.int .i64 6)]))) := by
  by_cases hok : LruOk n
  · have HOK := Lib.hid hok
    unfold LruOk at hok
    obtain ⟨m, rfl⟩ : ∃ m : Nat, n = (m : Int) := ⟨n.toNat, by omega⟩
    go_enter Tryd.func35, Tryd.ntmps35
    go_wp2
    go_ret2
    refine ⟨(Fr.refl [] w).alloc _, .inl ⟨HOK.out, _, rfl, Nat.le_refl _, fun B => ⟨heap_alloc_new w _, OwnF.nil _ _ _ _, by simp⟩⟩⟩
  · have HOK := Lib.hid hok
    unfold LruOk at hok
    have hc : n < 1 ∨ (1 ≤ n ∧ 64 < n) := by omega
    clear hok
    rcases hc with h1 | ⟨h1, h2⟩
    all_goals
      go_enter Tryd.func35, Tryd.ntmps35
      go_wp2
      go_ret2
      exact ⟨Fr.refl _ _, .inr ⟨HOK.out, rfl⟩⟩

set_option maxHeartbeats 1000000 in
theorem lru_keys (w : World) {p B n : Nat} {v : Value} {l : List Int} (h : Lru w p B n v l) (hn : n ≤ 1000) :
    Calls Tryd.prog 38 #[.pointer (some ⟨p, 0, none⟩)] w fun e w' => ∃ v', e = .returned v' ∧ OwnF w' w.heap.size 3 v' l.length (fun j => .int .i64 (lg l j)) ∧ Fr [] w w' := by
  have hl := h.len
  obtain ⟨a, c, rfl⟩ := h.own.rd.slice
  have hc0 := blk_cell h.blk 0 rfl
  have HR := Lib.hid h.own.rd
  clear h
  go_enter Tryd.func38, Tryd.ntmps38
  go_wp2_with fail
  refine (clone_ints _ _ l.length (lg l) HR.out (by omega)).mono ?_
  rintro e w' ⟨v', rfl, ho, hf⟩
  go_wp2
  go_ret
  exact ⟨v', rfl, ho, hf⟩

/-- what goes -/
def tgone (k : Int) (l : List Int) (n : Nat) : Int := if n < (rcn k l).length then lg (rcn k l) n else 0

/-- behind the store of what Insert gave -/
theorem lru_put {w2 w5 : World} {p B n m : Nat} {u v5 : Value} {k : Int} {l' : List Int} (hblk : w2.heap[p]? = some (.cells #[u, .int .i64 n] 95 (0, 0))) (hm : m = l'.length)
    (hu : OwnF w2 B 3 u m (fun j => .int .i64 (lg l' j))) (ho : OwnF w5 B 3 v5 (m + 1) (fun j => .int .i64 (csf k (lg l') j))) (hf : Fr u.ownBlock.toList (w2.alloc (.cells #[.int .i64 k] 3)) w5) :
    (w5.cell? ⟨p, 0, none⟩ = some u ∧ w5.frozen? ⟨p, 0, none⟩ = false) ∧ (w5.setCell ⟨p, 0, none⟩ v5).heap[p]? = some (.cells #[v5, .int .i64 n] 95 (0, 0)) ∧
      OwnF (w5.setCell ⟨p, 0, none⟩ v5) B 3 v5 (k :: l').length (fun j => .int .i64 (lg (k :: l') j)) := by
  have hne := hu.ne hblk (by decide)
  have b1 : (w2.alloc (.cells #[.int .i64 k] 3)).heap[p]? = some (.cells #[u, .int .i64 n] 95 (0, 0)) := ((Fr.refl [] w2).alloc _).blk hblk (by simp)
  have b2 := hf.blk b1 (fun hm => by
    cases hob : u.ownBlock with
    | none => rw [hob] at hm; simp at hm
    | some g => rw [hob] at hm; simp at hm; exact hne g hob hm.symm)
  refine ⟨⟨blk_cell b2 0 rfl, blk_frozen b2 0⟩, blk_put2 b2 v5, ?_⟩
  have hne5 := ho.ne b2 (by decide)
  have ho2 := ho.kept (S := [p]) ((Fr.refl [p] w5).setCell (p := ⟨p, 0, none⟩) (by simp) v5) (fun g hg => by simpa using hne5 g hg)
  subst hm
  exact ho2.congr (fun j _ => by rw [lg_cons])

theorem own_apart6 {w : World} {p B n g m c : Nat} {f : Nat → Value} {v : Value} (ho : OwnF w B 3 (.slice (some ⟨g, 0, none⟩) m c) m f) (hp : w.heap[p]? = some (.cells #[v, .int .i64 n] 95 (0, 0))) : g ≠ p :=
  ho.ne hp (by decide) g rfl

set_option maxRecDepth 100000 in
set_option maxHeartbeats 4000000 in
theorem lru_touch (w : World) {p B n : Nat} {v : Value} {l : List Int} (k : Int) (h : Lru w p B n v l) (hB : B ≤ w.heap.size) (hn : n ≤ 1000) :
    Calls Tryd.prog 39 #[.pointer (some ⟨p, 0, none⟩), .int .i64 k] w fun e w' => ∃ v',
      e = .returned (.tuple #[.bool (decide (k ∈ l)), .int .i64 (tgone k l n), .bool (decide (n < (rcn k l).length))]) ∧ Lru w' p B n v' ((rcn k l).take n) ∧ Fr (p :: v.ownBlock.toList) w w' ∧ SameOrNew w v v' := by
  have hl := h.len
  have hc0 := blk_cell h.blk 0 rfl
  have hne := h.own.ne h.blk (by decide)
  by_cases hk : k ∈ l
  · have hpos : 0 < l.length := List.length_pos_of_mem hk
    obtain ⟨g, cap, rfl, hg, hrow⟩ := h.own.row hpos
    have hix : Calls Tryd.prog 47 #[.slice (some ⟨g, 0, none⟩) l.length cap, .int .i64 k] w fun e w' => e = .returned (.int .i64 (l.idxOf k)) ∧ w' = w := by
      have := index_any w _ l.length (lg l) k hrow.rd (by omega)
      rwa [idx_mem l k hk] at this
    have HIX := Lib.hid hix; clear hix
    have hil := (lg_idx l k hk).1
    have hgp : g ≠ p := hne g rfl
    have hgl := hrow.lt
    have hde := delete_any w g l.length cap (l.idxOf k) (lg l) hrow hil
    have her := fun j hj => lg_erase l k hk j hj
    have hlen : (l.erase k).length = l.length - 1 := List.length_erase_of_mem hk
    have HBLK := Lib.hid h.blk
    have hrl : (rcn k l).length = l.length := by rw [rcn_len, if_pos hk]
    have htk : (rcn k l).take n = rcn k l := List.take_of_length_le (by omega)
    have htg : tgone k l n = 0 := by unfold tgone; rw [if_neg (by omega)]
    have hd1 : decide (k ∈ l) = true := by simp [hk]
    have hd2 : decide (n < (rcn k l).length) = false := by simp; omega
    rw [htk, htg, hd1, hd2]
    clear h hrow hne htk htg hd1 hd2
    generalize l.idxOf k = i at *
    have i0 : (0 : Int) ≤ (i : Int) := by omega
    generalize hL : l.length = L at *
    obtain ⟨M, rfl⟩ : ∃ M, L = M + 1 := ⟨L - 1, by omega⟩
    simp only [Nat.add_sub_cancel] at hlen her hde
    have HDE := Lib.hid hde
    have HER := Lib.hid her
    have HLEN := Lib.hid hlen
    have HHL := Lib.hid hrl
    clear hL hk hlen hrl hde her
    go_enter Tryd.func39, Tryd.ntmps39
    go_wp2_with fail
    refine (HIX.out).mono ?_
    rintro e w' ⟨rfl, rfl⟩
    go_wp2_with fail
    refine (HDE.out).mono ?_
    rintro e w1 ⟨rfl, hr1, hf1⟩
    have hs1 := hf1.size
    have hg1 := hr1.lt
    have c1 := hf1.cell hc0 (by simpa using hgp.symm)
    have b1 := hf1.blk HBLK.out (by simpa using hgp.symm)
    have z1 := blk_frozen b1 0
    have HB2 := Lib.hid (blk_put2 b1 (.slice (some ⟨g, 0, none⟩) M cap))
    have hr2 : RowI (w1.setCell ⟨p, 0, none⟩ (.slice (some ⟨g, 0, none⟩) M cap)) g M cap (lg (l.erase k)) :=
      ((hr1.take M (by omega)).congr (fun j hj => by have e := HER.out j hj; simp only [e])).kept ((Fr.refl [p] w1).setCell (by simp) _) (by simpa using hgp)
    have HO2 := Lib.hid (show OwnF (w1.setCell ⟨p, 0, none⟩ (.slice (some ⟨g, 0, none⟩) M cap)) B 3 (.slice (some ⟨g, 0, none⟩) M cap) M (fun j => .int .i64 (lg (l.erase k) j)) from .inr ⟨g, cap, rfl, hg, hr2⟩)
    have HF2 := Lib.hid (show Fr [p, g] w' (w1.setCell ⟨p, 0, none⟩ (.slice (some ⟨g, 0, none⟩) M cap)) from (hf1.mono (by simp)).setCell (by simp) _)
    have hws : (w1.setCell ⟨p, 0, none⟩ (.slice (some ⟨g, 0, none⟩) M cap)).heap.size = w1.heap.size := by simp
    clear hf1 hr1 hr2 b1
    go_wp2_with fail
    clear c1 z1
    generalize w1.setCell ⟨p, 0, none⟩ (.slice (some ⟨g, 0, none⟩) M cap) = w2 at *
    refine (insert_any (w2.alloc (.cells #[.int .i64 k] 3)) B (.slice (some ⟨g, 0, none⟩) M cap) M (lg (l.erase k)) k w1.heap.size (HO2.out.alloc _) (by simp; omega) (by rw [← hws]; exact heap_alloc_new w2 _) (fun x hx => by simp [Value.ownBlock] at hx; omega) (by omega)).mono ?_
    rintro e w5 ⟨v5, rfl, ho5, hf5, hs5⟩
    obtain ⟨⟨d1, d2⟩, d3, d4⟩ := lru_put HB2.out HLEN.out.symm HO2.out ho5 hf5
    obtain ⟨av, cv, hav⟩ := ho5.rd.slice
    subst hav
    have HB3 := Lib.hid d3
    have HO3 := Lib.hid d4
    have HF3 := Lib.hid (((HF2.out.alloc (.cells #[.int .i64 k] 3)).trans hf5 (fun x hx => .inl (by simp [Value.ownBlock] at hx; simp [hx]))).setCell (p := ⟨p, 0, none⟩) (.inl (by simp)) (.slice av (M + 1) cv))
    have HSN := Lib.hid (show SameOrNew w' (.slice (some ⟨g, 0, none⟩) (M + 1) cap) (.slice av (M + 1) cv) from fun x hx => by
      rcases hs5 x hx with h1 | h1
      · exact .inl (by simpa [Value.ownBlock] using h1)
      · right; simp at h1; omega)
    clear d3 d4 ho5 hf5 hs5
    go_wp2_with fail
    clear d1 d2
    generalize w5.setCell ⟨p, 0, none⟩ (.slice av (M + 1) cv) = w6 at *
    have y0 := blk_cell HB3.out 0 rfl
    have y1 := blk_cell HB3.out 1 rfl
    go_quiet (fail)
    go_wp2
    go_ret3
    have hfq := (Fr.refl [] w6).drewN nq
    refine ⟨_, rfl, ⟨hfq.blk HB3.out (by simp), HO3.out.kept hfq (by simp), by rw [HHL.out]; exact hl⟩, HF3.out.drewN nq, HSN.out⟩
  · have hix : Calls Tryd.prog 47 #[v, .int .i64 k] w fun e w' => e = .returned (.int .i64 (-1)) ∧ w' = w := by
      have := index_any w _ l.length (lg l) k h.own.rd (by omega)
      rwa [idx_not l k hk] at this
    have HIX := Lib.hid hix; clear hix
    have HBLK := Lib.hid h.blk
    have HOWN := Lib.hid h.own
    have hlt := h.own.lt
    have hrl : (rcn k l).length = l.length + 1 := by rw [rcn_len, if_neg hk]
    have hre : rcn k l = k :: l := by unfold rcn; rw [List.erase_of_not_mem hk]
    have hd1 : decide (k ∈ l) = false := by simp [hk]
    rw [hd1]
    obtain ⟨a, c, hac⟩ := h.own.rd.slice
    subst hac
    clear h hne hd1
    have HHL := Lib.hid hrl
    have HRE := Lib.hid hre
    clear hrl hre hk
    have hLL : l.length = l.length := rfl
    generalize hL : l.length = L at *
    have HL := Lib.hid hL
    clear hLL hL
    go_enter Tryd.func39, Tryd.ntmps39
    go_wp2_with fail
    refine (HIX.out).mono ?_
    rintro e w' ⟨rfl, rfl⟩
    go_wp2_with fail
    refine (insert_any (w'.alloc (.cells #[.int .i64 k] 3)) B (.slice a L c) L (lg l) k w'.heap.size (HOWN.out.alloc _) (by simp; omega) (heap_alloc_new w' _) (fun x hx => by have := hlt x (by rw [hx]; simp); omega) (by omega)).mono ?_
    rintro e w5 ⟨v5, rfl, ho5, hf5, hs5⟩
    obtain ⟨⟨d1, d2⟩, d3, d4⟩ := lru_put HBLK.out HL.out.symm HOWN.out ho5 hf5
    have hrow5 := ho5.row (by omega)
    obtain ⟨g5, cap5, hav, hg5, hr5⟩ := hrow5
    subst hav
    rw [List.length_cons, HL.out] at d4
    have HB3 := Lib.hid d3
    have HO3 := Lib.hid d4
    have HF3 := Lib.hid ((((Fr.refl (p :: (Value.slice a L c).ownBlock.toList) w').alloc (.cells #[.int .i64 k] 3)).trans hf5 (fun x hx => .inl (by simp; exact .inr (by simpa using hx)))).setCell (p := ⟨p, 0, none⟩) (.inl (by simp)) (.slice (some ⟨g5, 0, none⟩) (L + 1) cap5))
    have HSN := Lib.hid (show SameOrNew w' (.slice a L c) (.slice (some ⟨g5, 0, none⟩) (L + 1) cap5) from fun x hx => by
      rcases hs5 x hx with h1 | h1
      · exact .inl h1
      · right; simp at h1; omega)
    clear d3 d4 ho5 hf5 hs5 hr5
    by_cases hfull : L + 1 ≤ n
    · have htk : (rcn k l).take n = rcn k l := List.take_of_length_le (by rw [HHL.out]; exact hfull)
      have htg : tgone k l n = 0 := by unfold tgone; rw [if_neg (by rw [HHL.out]; omega)]
      have hd2 : decide (n < (rcn k l).length) = false := by rw [HHL.out]; simp; omega
      have HTK := Lib.hid htk
      have HTG := Lib.hid htg
      have HD2 := Lib.hid hd2
      clear htk htg hd2
      go_wp2_with fail
      clear d1 d2
      generalize w5.setCell ⟨p, 0, none⟩ (.slice (some ⟨g5, 0, none⟩) (L + 1) cap5) = w6 at *
      have y0 := blk_cell HB3.out 0 rfl
      have y1 := blk_cell HB3.out 1 rfl
      go_quiet (fail)
      go_wp2
      go_ret3
      have hfq := (Fr.refl [] w6).drewN nq
      rw [HTK.out, HTG.out, HD2.out]
      refine ⟨_, rfl, ⟨hfq.blk HB3.out (by simp), ?_, by rw [HHL.out]; exact hfull⟩, HF3.out.drewN nq, HSN.out⟩
      rw [HRE.out, List.length_cons, HL.out]
      exact HO3.out.kept hfq (by simp)
    · obtain rfl : L = n := by omega
      have htg : tgone k l L = lg (k :: l) L := by unfold tgone; rw [HHL.out, if_pos (by omega), HRE.out]
      have hd2 : decide (L < (rcn k l).length) = true := by rw [HHL.out]; simp
      have HTG := Lib.hid htg
      have HD2 := Lib.hid hd2
      clear htg hd2
      go_wp2_with fail
      clear d1 d2
      generalize w5.setCell ⟨p, 0, none⟩ (.slice (some ⟨g5, 0, none⟩) (L + 1) cap5) = w6 at *
      have y0 := blk_cell HB3.out 0 rfl
      have y1 := blk_cell HB3.out 1 rfl
      have z0 := blk_frozen HB3.out 0
      obtain ⟨g6, cap6, hv6, hg6, hr6⟩ := HO3.out.row (by omega)
      simp only [Value.slice.injEq, Option.some.injEq, Addr.mk.injEq, and_true, true_and] at hv6
      obtain ⟨rfl, rfl⟩ := hv6
      have y2 := hr6.cell L (by omega)
      have hle6 := hr6.le
      have HR6 := Lib.hid hr6
      clear hr6
      have l0 : (0 : Int) ≤ (L : Int) := by omega
      have l1 : (L : Int) < (L : Int) + 1 := by omega
      go_quiet (fail)
      go_wp2_with fail
      go_quiet (fail)
      go_wp2_with fail
      go_region
      all_goals
        go_wp2
        go_ret3
        rw [HTG.out, HD2.out]
        have hgp6 : g5 ≠ p := own_apart6 HO3.out HB3.out
        refine ⟨_, rfl, ⟨blk_put2 (((Fr.refl [] w6).drewN _).blk HB3.out (by simp)) _, ?_, by rw [List.length_take]; omega⟩, (HF3.out.drewN _).setCell (p := ⟨p, 0, none⟩) (.inl (by simp)) _, fun x hx => HSN.out x hx⟩
        have hlen : (List.take L (rcn k l)).length = L := by rw [List.length_take, HHL.out]; omega
        rw [hlen]
        refine .inr ⟨g5, cap5, rfl, hg6, ?_⟩
        refine (((HR6.out.take L (by omega)).kept ((Fr.refl [] w6).drewN _) (by simp)).kept ((Fr.refl [p] _).setCell (p := ⟨p, 0, none⟩) (by simp) _) (by simpa using hgp6)).congr (fun j hj => ?_)
        rw [lg_take _ _ _ hj, HRE.out]

/-- the keys of a cache of size n, behind k of those that are asked for -/
theorem lru_step (w : World) {p B n : Nat} {v : Value} (kf : Nat → Int) (j : Nat) (h : Lru w p B n v ((rcs kf j).take n)) (hB : B ≤ w.heap.size) (hn : 1 ≤ n ∧ n ≤ 1000) :
    Calls Tryd.prog 39 #[.pointer (some ⟨p, 0, none⟩), .int .i64 (kf j)] w fun e w' => ∃ v' x y,
      e = .returned (.tuple #[.bool (decide (kf j ∈ (rcs kf j).take n)), .int .i64 x, .bool y]) ∧ Lru w' p B n v' ((rcs kf (j + 1)).take n) ∧ Fr (p :: v.ownBlock.toList) w w' ∧ SameOrNew w v v' := by
  refine (lru_touch w (kf j) h hB hn.2).mono ?_
  rintro e w' ⟨v', rfl, h1, h2, h3⟩
  rw [rcs_take kf n j hn.1] at h1
  exact ⟨v', _, _, rfl, h1, h2, h3⟩

set_option maxRecDepth 100000 in
set_option maxHeartbeats 2000000 in
theorem lru_misses (w : World) (a : Option Addr) (m c : Nat) (kf : Nat → Int) (hv : RdF w (.slice a m c) m (fun j => .int .i64 (kf j))) (n : Nat) (hn : 1 ≤ n ∧ n ≤ 64) (hm : m ≤ 500) :
    Calls Tryd.prog 37 #[.slice a m c, .int .i64 n] w fun e w' => e = .returned (.tuple #[.int .i64 (msc kf n m), .nilIface]) ∧ Fr [] w w' := by
  have HV := Lib.hid hv; clear hv
  go_enter Tryd.func37, Tryd.ntmps37
  go_wp2_with fail
  refine (lru_new _ n).mono ?_
  rintro e w1 ⟨hf1, ⟨_, p, rfl, hp, hL⟩ | ⟨hno, _⟩⟩
  · have HL1 := Lib.hid (hL w.heap.size); clear hL
    have HF1 := Lib.hid hf1; clear hf1
    simp only [Int.toNat_natCast] at HL1
    go_wp2
    go_loopw [8, 28] (fun s i wr => ∃ (k : Nat) (v : Value), k ≤ m ∧ i = .int .i64 k ∧ s = .int .i64 (msc kf n k) ∧ Lru wr p w.heap.size n v ((rcs kf k).take n) ∧ Fr [] w wr) (fun _ i _ => m - (intOf i).toNat)
    case atStart => exact ⟨0, _, by omega, rfl, rfl, by simpa [rcs] using HL1.out, HF1.out⟩
    case round =>
      clear HL1 HF1
      obtain ⟨k, v, hk, rfl, rfl, hL, hf⟩ := hrel
      have HF := Lib.hid hf
      have hsz := hf.size
      clear hf
      by_cases hlt : k < m
      · obtain ⟨b1, o1, c1, he1, _, _, _, hc1⟩ := HV.out.shape (by omega)
        simp only [Value.slice.injEq, true_and] at he1
        obtain ⟨rfl, rfl⟩ := he1
        have k1 := HF.out.cell (hc1 k hlt) (by simp)
        clear hc1
        have k0 : (0 : Int) ≤ (k : Int) := by omega
        have k3 : (k : Int) < (m : Int) := by omega
        have hge := hL.own.ge
        have HT := Lib.hid (lru_step wr kf k hL hsz (by omega))
        have hle := msc_le kf n k
        have hms : msc kf n (k + 1) = msc kf n k + if kf k ∈ (rcs kf k).take n then 0 else 1 := rfl
        clear hL
        have HFS := Lib.hid (show ∀ w2, Fr (p :: v.ownBlock.toList) wr w2 → Fr [] w w2 from fun w2 h => HF.out.trans h (fun x hx => by
          rcases List.mem_cons.1 hx with rfl | hx
          · exact .inr hp
          · exact .inr (hge x hx)))
        clear hge
        by_cases hmem : kf k ∈ (rcs kf k).take n
        · rw [if_pos hmem] at hms
          have HD := Lib.hid (decide_eq_true hmem)
          have HMS := Lib.hid hms
          clear hmem hms
          go_wp2_with fail
          refine HT.out.mono ?_
          rintro e w2 ⟨v2, x, y, rfl, h1, h2, h3⟩
          rw [HD.out]
          have HL2 := Lib.hid h1
          have HF2 := Lib.hid (HFS.out _ h2)
          clear h1 h2 h3
          go_wp2
          go_roundw
          case rel => exact ⟨k + 1, v2, by omega, by go_num, by rw [HMS.out]; rfl, HL2.out, HF2.out⟩
          case measure => simp [intOf]; omega
        · rw [if_neg hmem] at hms
          have HD := Lib.hid (decide_eq_false hmem)
          have HMS := Lib.hid hms
          clear hmem hms
          go_wp2_with fail
          refine HT.out.mono ?_
          rintro e w2 ⟨v2, x, y, rfl, h1, h2, h3⟩
          rw [HD.out]
          have HL2 := Lib.hid h1
          have HF2 := Lib.hid (HFS.out _ h2)
          clear h1 h2 h3
          go_wp2
          go_roundw
          case rel => exact ⟨k + 1, v2, by omega, by go_num, by rw [HMS.out]; go_num, HL2.out, HF2.out⟩
          case measure => simp [intOf]; omega
      · obtain rfl : k = m := by omega
        clear hL
        go_wp2
        go_ret2
        exact ⟨rfl, HF.out⟩
  · exact absurd (by unfold LruOk; omega) hno

end Go.Proofs.YthopnlnknicgbaaDoor
