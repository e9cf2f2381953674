/- drr: Put, turn. -/
import Derived.Test.YthopnlnknicgbaaDoorDrrNew
import Derived.BigQuiet
namespace Go.Proofs.YthopnlnknicgbaaDoor
open Go.RowKit

section
variable {w w' : World} {B p gr n c : Nat} {pf : Nat → Nat} {lv : Nat → Value} {sh : Nat → Int} {s s' : Dst} {ln : Nat → Nat} {li : Nat → Nat → Int} {waits : Nat}

/-- what is told of all, alone, has changed -/
theorem Drr.all {waits' : Nat} (h : Drr w B p gr n c pf lv sh s ln li waits) (hf : Fr [p] w w')
    (hb : w'.heap[p]? = some (.cells #[.slice (some ⟨gr, 0, none⟩) n c, .int .i64 s'.pos, .bool s'.vis, .int .i64 waits'] 86 (0, 0))) (hc : ∀ j, j < n → s'.cr j = s.cr j) :
    Drr w' B p gr n c pf lv sh s' ln li waits' :=
  ⟨hb, h.row.kept hf (by simpa using h.row.ne_blk h.blk (by decide)), fun i hi => by rw [hc i hi]; exact hf.blk (h.flow i hi) (by simpa using blk_ne (h.flow i hi) h.blk (by decide)),
    fun i hi => (h.line i hi).kept hf (fun g hg hm => by
      obtain ⟨c', _, _, hr⟩ := (h.line i hi).own hg
      exact hr.ne_blk h.blk (by decide) (by simpa using hm)), h.inj, h.apart, h.low⟩

theorem Drr.put (h : Drr w B p gr n c pf lv sh s ln li waits) {i : Nat} (hi : i < n) (hB : B ≤ w.heap.size) {o : Obj} {x : Int} {w4 : World} {v4 : Value}
    (ho : OwnF w4 B 3 v4 (ln i + 1) (app (ln i) (fun j => .int .i64 (li i j)) (fun _ => .int .i64 x))) (hf : Fr (lv i).ownBlock.toList (w.alloc o) w4) (hsn : SameOrNew (w.alloc o) (lv i) v4) :
    (w4.cell? ⟨pf i, 2, none⟩ = some (lv i) ∧ w4.frozen? ⟨pf i, 2, none⟩ = false ∧ w4.cell? ⟨p, 3, none⟩ = some (.int .i64 waits) ∧ w4.frozen? ⟨p, 3, none⟩ = false ∧
      (w4.setCell ⟨pf i, 2, none⟩ v4).cell? ⟨p, 3, none⟩ = some (.int .i64 waits) ∧ (w4.setCell ⟨pf i, 2, none⟩ v4).frozen? ⟨p, 3, none⟩ = false) ∧
    Drr ((w4.setCell ⟨pf i, 2, none⟩ v4).setCell ⟨p, 3, none⟩ (.int .i64 (waits + 1))) B p gr n c pf (fun j => if j = i then v4 else lv j) sh s (fun j => if j = i then ln i + 1 else ln j) (fun j => if j = i then (fun k => if k < ln i then li i k else x) else li j) (waits + 1) ∧
    FrP (InD p gr n pf lv) w ((w4.setCell ⟨pf i, 2, none⟩ v4).setCell ⟨p, 3, none⟩ (.int .i64 (waits + 1))) ∧ ∀ y, InD p gr n pf (fun j => if j = i then v4 else lv j) y → InD p gr n pf lv y ∨ w.heap.size ≤ y := by
  have f0 : Fr [] w (w.alloc o) := (Fr.refl [] w).alloc o
  have hown : ∀ y ∈ (lv i).ownBlock.toList, y ≠ p ∧ y ≠ pf i ∧ B ≤ y := fun y hy => by
    obtain ⟨c', _, hb, hr⟩ := (h.line i hi).own (by simpa using hy)
    exact ⟨hr.ne_blk h.blk (by decide), hr.ne_blk (h.flow i hi) (by decide), hb⟩
  have b1 := hf.blk (f0.blk h.blk (by simp)) (fun hm => (hown _ hm).1 rfl)
  have b2 := hf.blk (f0.blk (h.flow i hi) (by simp)) (fun hm => (hown _ hm).2.1 rfl)
  have hne := blk_ne (h.flow i hi) h.blk (by decide)
  have fa : Fr [pf i] w4 (w4.setCell ⟨pf i, 2, none⟩ v4) := (Fr.refl [pf i] w4).setCell (by simp) _
  have b3 := fa.blk b1 (by simpa using hne.symm)
  have b4 := blk_set b2 2 v4 rfl
  have fb : Fr [p] (w4.setCell ⟨pf i, 2, none⟩ v4) ((w4.setCell ⟨pf i, 2, none⟩ v4).setCell ⟨p, 3, none⟩ (.int .i64 (waits + 1))) := (Fr.refl [p] _).setCell (by simp) _
  have b5 := blk_set b3 3 (.int .i64 (waits + 1)) rfl
  have b6 := fb.blk b4 (by simpa using hne)
  have hfr : Fr (p :: pf i :: (lv i).ownBlock.toList) w ((w4.setCell ⟨pf i, 2, none⟩ v4).setCell ⟨p, 3, none⟩ (.int .i64 (waits + 1))) :=
    (((f0.mono (S' := p :: pf i :: (lv i).ownBlock.toList) (by simp)).trans hf (fun y hy => .inl (by simp at hy ⊢; exact .inr (.inr hy)))).trans fa (by simp)).trans fb (by simp)
  refine ⟨⟨blk_cell b2 2 rfl, blk_frozen b2 2, blk_cell b1 3 rfl, blk_frozen b1 3, blk_cell b3 3 rfl, blk_frozen b3 3⟩, ?_, ⟨_, hfr, fun y hy => ?_⟩, fun y hy => ?_⟩
  · refine h.upd (s' := s) (waits' := waits + 1) (v' := v4) (m := ln i + 1) (f := fun k => if k < ln i then li i k else x) i hi hfr (fun y hy => ?_) (by simpa using b5) (by simpa using b6) ?_ (fun y hy => ?_) (fun j _ _ => rfl) (fun j hj => by simp [hj]) (by simp)
    · simp only [List.mem_cons] at hy
      rcases hy with e | e | e
      · exact .inl e
      · exact .inr (.inl e)
      · exact .inr (.inr (.inl (by simpa using e)))
    · have hk : ∀ g, v4.ownBlock = some g → g ≠ p ∧ g ≠ pf i := fun g hg => by
        obtain ⟨c', _, _, hr⟩ := ho.own hg
        exact ⟨hr.ne_blk b1 (by decide), hr.ne_blk b2 (by decide)⟩
      refine ((ho.kept fa (fun g hg => by simpa using (hk g hg).2)).kept fb (fun g hg => by simpa using (hk g hg).1)).congr (fun k hk => ?_)
      unfold app
      split <;> rfl
    · rcases hsn y (by simp [hy]) with e | e
      · exact .inl (by simpa using e)
      · exact .inr (by simp at e; omega)
  · simp only [List.mem_cons] at hy
    rcases hy with e | e | e
    · exact .inl e
    · exact .inr (.inr ⟨i, hi, .inl e⟩)
    · exact .inr (.inr ⟨i, hi, .inr (by simpa using e)⟩)
  · rcases hy with e | e | ⟨j, hj, e | e⟩
    · exact .inl (.inl e)
    · exact .inl (.inr (.inl e))
    · exact .inl (.inr (.inr ⟨j, hj, .inl e⟩))
    · simp only [] at e
      by_cases hji : j = i
      · rw [if_pos hji] at e
        rcases hsn y (by simp [e]) with e' | e'
        · exact .inl (.inr (.inr ⟨i, hi, .inr (by simpa using e')⟩))
        · exact .inr (by simp at e'; omega)
      · rw [if_neg hji] at e
        exact .inl (.inr (.inr ⟨j, hj, .inr e⟩))
end

def DRange (n : Nat) (at_ size : Int) : Prop := 0 ≤ at_ ∧ at_ < n ∧ 1 ≤ size ∧ size ≤ 10000

set_option maxRecDepth 100000 in
set_option maxHeartbeats 2000000 in
theorem drr_put_range (w : World) {B p gr n c : Nat} {pf : Nat → Nat} {lv : Nat → Value} {sh : Nat → Int} {s : Dst} {ln : Nat → Nat} {li : Nat → Nat → Int} {waits : Nat} (h : Drr w B p gr n c pf lv sh s ln li waits) (hn : n ≤ 40)
    (at_ size : Int) (hr : ¬ DRange n at_ size) :
    Calls Tryd.prog 27 #[.pointer (some ⟨p, 0, none⟩), .int .i64 at_, .int .i64 size] w fun e w' => e = .returned (.iface 24 (.int .i64 6)) ∧ w' = w := by
  have c0 := blk_cell h.blk 0 rfl
  clear h
  have hr' : at_ < 0 ∨ (0 ≤ at_ ∧ n ≤ at_) ∨ (0 ≤ at_ ∧ at_ < n ∧ size < 1) ∨ (0 ≤ at_ ∧ at_ < n ∧ 1 ≤ size ∧ 10000 < size) := by unfold DRange at hr; omega
  clear hr
  rcases hr' with h1 | ⟨h1, h2⟩ | ⟨h1, h2, h3⟩ | ⟨h1, h2, h3, h4⟩
  all_goals
    go_enter Tryd.func27, Tryd.ntmps27
    go_wp2
    go_ret
    exact ⟨rfl, rfl⟩

set_option maxRecDepth 100000 in
set_option maxHeartbeats 2000000 in
theorem drr_put_ok (w : World) {B p gr n c : Nat} {pf : Nat → Nat} {lv : Nat → Value} {sh : Nat → Int} {s : Dst} {ln : Nat → Nat} {li : Nat → Nat → Int} {waits : Nat} (h : Drr w B p gr n c pf lv sh s ln li waits) (hn : n ≤ 40) (hB : B ≤ w.heap.size)
    (i : Nat) (size : Int) (hi : i < n) (hs : 1 ≤ size ∧ size ≤ 10000) (hw : waits < 1000) (hl : ln i ≤ 1000) :
    Calls Tryd.prog 27 #[.pointer (some ⟨p, 0, none⟩), .int .i64 i, .int .i64 size] w fun e w' => e = .returned .nilIface ∧ ∃ v4,
      Drr w' B p gr n c pf (fun j => if j = i then v4 else lv j) sh s (fun j => if j = i then ln i + 1 else ln j) (fun j => if j = i then (fun k => if k < ln i then li i k else size) else li j) (waits + 1) ∧ FrP (InD p gr n pf lv) w w' ∧ ∀ y, InD p gr n pf (fun j => if j = i then v4 else lv j) y → InD p gr n pf lv y ∨ w.heap.size ≤ y := by
  have c0 := blk_cell h.blk 0 rfl
  have c3 := blk_cell h.blk 3 rfl
  have cr := h.row.cell i hi
  have cf := blk_cell (h.flow i hi) 2 rfl
  have H := Lib.hid h; clear h
  have i0 : (0 : Int) ≤ (i : Int) := by omega
  have i3 : (i : Int) < (n : Int) := by omega
  have hwz : ((waits : Int) == 1000) = false := by simp; omega
  go_enter Tryd.func27, Tryd.ntmps27
  go_wp2_with (at_builtin; refine wpList_app rfl (.tmp 45) (.tmp 47) 22 rfl 3 infoInt Tryd.underlying22 rfl ((H.out.line i hi).alloc _) rfl (rd_one _ _ _ (by simp)) rfl (fun _ _ => rfl) (by unfold maxLen; omega) (by omega) (by simp; omega) ?_; intro v4 w4 ho4 hf4 hn4; obtain ⟨av, cv, hav⟩ := ho4.rd.slice; subst hav; have hp4 := H.out.put hi hB ho4 hf4 hn4; obtain ⟨⟨d1, d2, d3, d4, d5, d6⟩, hp5⟩ := hp4; have HP5 := Lib.hid hp5; clear ho4 hf4 hn4 hp5)
  go_wp2
  go_ret
  exact ⟨rfl, _, HP5.out.1, HP5.out.2⟩

set_option maxRecDepth 100000 in
set_option maxHeartbeats 2000000 in
theorem drr_turn (w : World) {B p gr n c : Nat} {pf : Nat → Nat} {lv : Nat → Value} {sh : Nat → Int} {s : Dst} {ln : Nat → Nat} {li : Nat → Nat → Int} {waits : Nat} (h : Drr w B p gr n c pf lv sh s ln li waits) (hp : s.pos < n) (hn : n ≤ 40) :
    Calls Tryd.prog 51 #[.pointer (some ⟨p, 0, none⟩)] w fun e w' => e = .returned (.tuple #[]) ∧ Drr w' B p gr n c pf lv sh ⟨(s.pos + 1) % n, false, s.cr⟩ ln li waits ∧ Fr [p] w w' := by
  have c0 := blk_cell h.blk 0 rfl
  have c1 := blk_cell h.blk 1 rfl
  have c2 := blk_cell h.blk 2 rfl
  have f1 := blk_frozen h.blk 1
  have f2 := blk_frozen h.blk 2
  have H := Lib.hid h; clear h
  have hn0 : ¬ (n : Int) = 0 := by omega
  go_enter Tryd.func51, Tryd.ntmps51
  go_wp2_with fail
  go_region
  all_goals
    go_wp2
    go_end0
    have e1 : ((s.pos : Int) + 1) % (n : Int) = (((s.pos + 1) % n : Nat) : Int) := rfl
    have b1 := blk_set H.out.blk 1 (.int .i64 (((s.pos + 1) % n : Nat) : Int)) rfl
    have b2 := blk_set b1 2 (.bool false) rfl
    rw [e1]
    have hf : Fr [p] w (((w.setCell ⟨p, 1, none⟩ (.int .i64 (((s.pos + 1) % n : Nat) : Int))).setCell ⟨p, 2, none⟩ (.bool false)).drew) := (((Fr.refl [p] w).setCell (by simp) _).setCell (by simp) _).drew
    exact ⟨rfl, H.out.all hf b2 (fun j _ => rfl), hf⟩

end Go.Proofs.YthopnlnknicgbaaDoor
