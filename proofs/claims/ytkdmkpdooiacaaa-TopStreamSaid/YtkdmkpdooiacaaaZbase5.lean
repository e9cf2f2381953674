/- What the texts below need: RdMsg0, RdMsgA, RdMsgB. -/
import Derived.Test.YtkdmkpdooiacaaaZRdRec
import Derived.Test.YtkdmkpdooiacaaaZHeadR
import Derived.Test.YtkdmkpdooiacaaaZbase4
import Derived.Test.YtkdmkpdooiacaaaZbase1
namespace Go.Proofs.Ytkdmkpdooiacaaa
open Go.RowKit

set_option maxHeartbeats 1000000 in
theorem msgTwo_any (w : World) (b o n c : Nat) (x y : Nat) (hn : 2 ≤ n) (hx : x < 256) (hy : y < 256) (h0 : w.cell? ⟨b, o, none⟩ = some (.int .u8 x)) (h1 : w.cell? ⟨b, o + 1, none⟩ = some (.int .u8 y)) :
    Calls Try.prog 17 #[.slice (some ⟨b, o, none⟩) n c] w fun e w' => e = .returned (.int .i64 ((x * 256 + y : Nat) : Int)) ∧ ∃ q, w' = w.drewN q := by
  have hor := or_two (x := (x : Int)) (y := (y : Int)) (by omega) (by omega) (by omega) (by omega)
  have l1 : (0 : Int) < (n : Int) := by omega
  have l2 : (1 : Int) < (n : Int) := by omega
  have l3 : (x : Int) ≤ 255 := by omega
  go_enter Try.func17, Try.ntmps17
  go_wp2_with fail
  go_quiet (fail)
  go_wp2
  go_ret
  exact ⟨by rw [show (((x * 256 + y : Nat)) : Int) = (x : Int) * 256 + (y : Int) by omega]; rfl, nq, rfl⟩

/-- two bytes at a place, whatever world of those that keep the bytes -/
theorem msgTwo_at (w : World) (b o c : Nat) (L : List UInt8) (P : Nat) (hb : BytAt w b o L) (h : P + 2 ≤ L.length) :
    Calls Try.prog 17 #[.slice (some ⟨b, o + P, none⟩) (L.length - P) (c - P)] w fun e w' => e = .returned (.int .i64 ((pr L P : Nat) : Int)) ∧ Fr [] w w' :=
  (msgTwo_any w b (o + P) (L.length - P) (c - P) (gB L P) (gB L (P + 1)) (by omega) (gB_lt _ _) (gB_lt _ _) (hb P (by omega)) (by have := hb (P + 1) (by omega); rwa [← Nat.add_assoc] at this)).mono
    fun _ _ ⟨h1, q, hq⟩ => ⟨h1, by rw [hq]; exact (Fr.refl [] w).drewN q⟩

/-- a question's cells -/
def qsF (a : Option Addr) (c : Nat) (q : Qc) : Nat → Value
  | 0 => .slice a q.nm.length c
  | 1 => .int .i64 q.ty
  | _ => .int .i64 q.cl

/-- questions of the call's own that are those of a list -/
def QsAll (w : World) (B : Nat) (v : Value) (l : List Qc) : Prop := ∃ G, OwnC w B 56 v 3 l.length G ∧ ∀ i (hi : i < l.length), QsOwn w B (G i) (l[i]).fn

/-- records of the call's own that are those of a list -/
def RsAll (w : World) (B : Nat) (v : Value) (l : List Rc) : Prop := ∃ G, OwnC w B 63 v 5 l.length G ∧ ∀ i (hi : i < l.length), RsOwn w B (G i) (l[i]).fn

theorem QsAll.nil (w : World) (B : Nat) : QsAll w B (.slice none 0 0) [] := ⟨fun _ _ => undef, OwnC.nil _ _ _ _ _, fun i hi => by simp at hi⟩
theorem RsAll.nil (w : World) (B : Nat) : RsAll w B (.slice none 0 0) [] := ⟨fun _ _ => undef, OwnC.nil _ _ _ _ _, fun i hi => by simp at hi⟩

theorem QsAll.fr0 {w w' : World} {B : Nat} {v : Value} {l : List Qc} (h : QsAll w B v l) (hf : Fr [] w w') : QsAll w' B v l := by
  obtain ⟨G, h1, h2⟩ := h
  exact ⟨G, h1.kept hf (fun _ _ => by simp), fun i hi => (h2 i hi).kept hf (by simp)⟩

theorem RsAll.fr0 {w w' : World} {B : Nat} {v : Value} {l : List Rc} (h : RsAll w B v l) (hf : Fr [] w w') : RsAll w' B v l := by
  obtain ⟨G, h1, h2⟩ := h
  exact ⟨G, h1.kept hf (fun _ _ => by simp), fun i hi => (h2 i hi).fr0 hf⟩

/-- the message's block is written -/
theorem QsAll.keptM {w w' : World} {B b : Nat} {v : Value} {l : List Qc} {cs : Array Value} (h : QsAll w B v l) (hf : Fr [b] w w') (hb : w.heap[b]? = some (.cells cs 37 (0, 0))) : QsAll w' B v l := by
  obtain ⟨G, h1, h2⟩ := h
  exact ⟨G, h1.kept hf (h1.ne_blk hb (by decide)), fun i hi => (h2 i hi).kept hf (fun b' hb' => by
    simp only [List.mem_singleton] at hb'
    subst hb'
    exact ⟨_, _, hb, by decide⟩)⟩

theorem RsAll.keptM {w w' : World} {B b : Nat} {v : Value} {l : List Rc} {cs : Array Value} (h : RsAll w B v l) (hf : Fr [b] w w') (hb : w.heap[b]? = some (.cells cs 37 (0, 0))) : RsAll w' B v l := by
  obtain ⟨G, h1, h2⟩ := h
  refine ⟨G, h1.kept hf (h1.ne_blk hb (by decide)), fun i hi => ?_⟩
  obtain ⟨vn, vd, e0, e1, e2, e3, e4, g1, g2⟩ := h2 i hi
  exact ⟨vn, vd, e0, e1, e2, e3, e4, g1.kept hf (g1.ne_blk hb (by decide)), g2.kept hf (g2.ne_blk hb (by decide))⟩

end Go.Proofs.Ytkdmkpdooiacaaa

namespace Go.Proofs.Ytkdmkpdooiacaaa
open Go.RowKit

theorem FrT.ownC {E : TypeId} {a w w' : World} {B n s : Nat} {v : Value} {G : Nat → Nat → Value} (h : FrT E a w) (ho : OwnC w B E v s n G) (hf : Fr v.ownBlock.toList w w') : FrT E a w' :=
  h.trans ⟨hf.os, hf.tape, hf.output, hf.size, fun k hk hn => hf.block k hk (fun hm => by
    rcases ho with ⟨rfl, _⟩ | ⟨g, cap, rfl, _, cur, h1, _⟩
    · simp [Value.ownBlock] at hm
    · simp only [Value.ownBlock, Option.toList_some, List.mem_singleton] at hm
      subst hm
      exact hn _ _ h1)⟩

theorem ownC_blk {w : World} {B n s : Nat} {E : TypeId} {v : Value} {G : Nat → Nat → Value} (h : OwnC w B E v s n G) : ∀ b ∈ v.ownBlock.toList, ∃ cs, w.heap[b]? = some (.cells cs E (0, 0)) := fun b hb => by
  rcases h with ⟨rfl, _⟩ | ⟨g, cap, rfl, _, cur, h1, _⟩
  · simp [Value.ownBlock] at hb
  · simp only [Value.ownBlock, Option.toList_some, List.mem_singleton] at hb
    subst hb
    exact ⟨cur, h1⟩

theorem QsAll.more {w w' : World} {B : Nat} {v v' : Value} {l : List Qc} {G : Nat → Nat → Value} (hG : OwnC w B 56 v 3 l.length G) (hat : ∀ i (hi : i < l.length), QsOwn w B (G i) (l[i]).fn) {x : Qc} {F : Nat → Value} (hx : QsOwn w B F x.fn)
    (ho : OwnC w' B 56 v' 3 (l.length + 1) (appC l.length G (fun _ => F))) (hf : Fr v.ownBlock.toList w w') : QsAll w' B v' (l ++ [x]) := by
  have hS : ∀ b, b ∈ v.ownBlock.toList → ∃ cs T, w.heap[b]? = some (.cells cs T (0, 0)) ∧ 9 ≠ T := fun b hb => by
    obtain ⟨cs, h⟩ := ownC_blk hG b hb
    exact ⟨cs, _, h, by decide⟩
  refine ⟨_, by rw [List.length_append]; exact ho, fun i hi => ?_⟩
  by_cases h : i < l.length
  · have e1 : appC l.length G (fun _ => F) i = G i := by unfold appC; rw [if_pos h]
    rw [e1, List.getElem_append_left h]
    exact (hat i h).kept hf hS
  · have hi' : i = l.length := by simp at hi; omega
    have e1 : appC l.length G (fun _ => F) i = F := by unfold appC; rw [if_neg h]
    subst hi'
    rw [e1, List.getElem_append_right (Nat.le_refl _)]
    simp only [Nat.sub_self, List.getElem_cons_zero]
    exact hx.kept hf hS

theorem RsAll.more {w w' : World} {B : Nat} {v v' : Value} {l : List Rc} {G : Nat → Nat → Value} (hG : OwnC w B 63 v 5 l.length G) (hat : ∀ i (hi : i < l.length), RsOwn w B (G i) (l[i]).fn) {x : Rc} {F : Nat → Value} (hx : RsOwn w B F x.fn)
    (ho : OwnC w' B 63 v' 5 (l.length + 1) (appC l.length G (fun _ => F))) (hf : Fr v.ownBlock.toList w w') : RsAll w' B v' (l ++ [x]) := by
  refine ⟨_, by rw [List.length_append]; exact ho, fun i hi => ?_⟩
  by_cases h : i < l.length
  · have e1 : appC l.length G (fun _ => F) i = G i := by unfold appC; rw [if_pos h]
    rw [e1, List.getElem_append_left h]
    exact (hat i h).kept hf hG
  · have hi' : i = l.length := by simp at hi; omega
    have e1 : appC l.length G (fun _ => F) i = F := by unfold appC; rw [if_neg h]
    subst hi'
    rw [e1, List.getElem_append_right (Nat.le_refl _)]
    simp only [Nat.sub_self, List.getElem_cons_zero]
    exact hx.kept hf hG

theorem QsOwn.one {w : World} {B : Nat} {F : Nat → Value} {r : Qs} (h : QsOwn w B F r) : ∀ j, j < 1 * 3 → (fls 3 (fun _ => F) j).oneCell' = true := fun j hj => by
  obtain ⟨vn, e0, e1, e2, h1⟩ := h
  obtain ⟨a, c, rfl⟩ := h1.rd.slice
  match j, hj with
  | 0, _ => show (F 0).oneCell' = true; rw [e0]; rfl
  | 1, _ => show (F 1).oneCell' = true; rw [e1]; rfl
  | 2, _ => show (F 2).oneCell' = true; rw [e2]; rfl

theorem RsOwn.one5 {w : World} {B : Nat} {F : Nat → Value} {r : Rs} (h : RsOwn w B F r) : ∀ j, j < 1 * 5 → (fls 5 (fun _ => F) j).oneCell' = true := fun j hj => by
  have h1 := h.one (j % 5) (Nat.mod_lt _ (by decide))
  exact h1

theorem run_appQ (w : World) (ty : TypeId) {B : Nat} {v : Value} {l : List Qc} (hl : QsAll w B v l) {y : Value} {F : Nat → Value} (hrd : RdC w y 3 1 (fun _ => F)) {q : Qc} (hq : QsOwn w B F q.fn) (hn : l.length ≤ 1000000) (hB : B ≤ w.heap.size) :
    ∃ v' w', (Builtin.append_ #[34, 34] ty #[v, y]).run Try.prog w = .ok v' w' ∧ QsAll w' B v' (l ++ [q]) ∧ FrT 56 w w' ∧ Below B w w' := by
  obtain ⟨G, hG, hat⟩ := hl
  obtain ⟨v', w', hr, ho, hf, _⟩ := run_appC (P := Try.prog) w 34 ty 56 infoQue Try.underlying34 rfl (by decide) hq.one hG hrd (by unfold maxLen; omega) (by omega) hB
  exact ⟨v', w', hr, QsAll.more hG hat hq ho hf, (FrT.refl _ _).ownC hG hf, hf.below B hB hG.ge⟩

theorem run_appR (w : World) (ty : TypeId) {B : Nat} {v : Value} {l : List Rc} (hl : RsAll w B v l) {y : Value} {F : Nat → Value} (hrd : RdC w y 5 1 (fun _ => F)) {q : Rc} (hq : RsOwn w B F q.fn) (hn : l.length ≤ 1000000) (hB : B ≤ w.heap.size) :
    ∃ v' w', (Builtin.append_ #[35, 35] ty #[v, y]).run Try.prog w = .ok v' w' ∧ RsAll w' B v' (l ++ [q]) ∧ FrT 63 w w' ∧ Below B w w' := by
  obtain ⟨G, hG, hat⟩ := hl
  obtain ⟨v', w', hr, ho, hf, _⟩ := run_appC (P := Try.prog) w 35 ty 63 infoRec Try.underlying35 rfl (by decide) hq.one5 hG hrd (by unfold maxLen; omega) (by omega) hB
  exact ⟨v', w', hr, RsAll.more hG hat hq ho hf, (FrT.refl _ _).ownC hG hf, hf.below B hB hG.ge⟩

section
variable {w : World} {ops : Array Oper} {o : Oper} {a : Act} {K : Act → World → Prop} {Q : Exit → Act → World → Prop} {X : Prop}

theorem step_appQ (hgd : o.guard = none) (s x : Operand) (ho : o.op = .call { callee := .builtin .append, args := #[s, x], argTypes := #[34, 34] })
    {B : Nat} {v : Value} {l : List Qc} (hl : QsAll w B v l) (hs : a.eval s = v) {y : Value} {F : Nat → Value} (hrd : RdC w y 3 1 (fun _ => F)) (hx : a.eval x = y) {q : Qc} (hq : QsOwn w B F q.fn) (hn : l.length ≤ 1000000) (hB : B ≤ w.heap.size)
    (h : ∀ v' w', QsAll w' B v' (l ++ [q]) → FrT 56 w w' → Below B w w' → K (a.put o.dst v') w') : if Region.wanted o (yielded ops a.tmps) = true then Oper.wp Try.prog o a w K Q else X := by
  have hw : Region.wanted o (yielded ops a.tmps) = true := by simp [Region.wanted, hgd]
  rw [if_pos hw]
  obtain ⟨v', w', hr, h2, h3, h4⟩ := run_appQ w o.type hl hrd hq hn hB
  unfold Oper.wp
  simp [execOp, ho, resolve, invoke, builtin, hs, hx, hr, Result.andThen]
  exact h v' w' h2 h3 h4

theorem step_appR (hgd : o.guard = none) (s x : Operand) (ho : o.op = .call { callee := .builtin .append, args := #[s, x], argTypes := #[35, 35] })
    {B : Nat} {v : Value} {l : List Rc} (hl : RsAll w B v l) (hs : a.eval s = v) {y : Value} {F : Nat → Value} (hrd : RdC w y 5 1 (fun _ => F)) (hx : a.eval x = y) {q : Rc} (hq : RsOwn w B F q.fn) (hn : l.length ≤ 1000000) (hB : B ≤ w.heap.size)
    (h : ∀ v' w', RsAll w' B v' (l ++ [q]) → FrT 63 w w' → Below B w w' → K (a.put o.dst v') w') : if Region.wanted o (yielded ops a.tmps) = true then Oper.wp Try.prog o a w K Q else X := by
  have hw : Region.wanted o (yielded ops a.tmps) = true := by simp [Region.wanted, hgd]
  rw [if_pos hw]
  obtain ⟨v', w', hr, h2, h3, h4⟩ := run_appR w o.type hl hrd hq hn hB
  unfold Oper.wp
  simp [execOp, ho, resolve, invoke, builtin, hs, hx, hr, Result.andThen]
  exact h v' w' h2 h3 h4
end

theorem rdc_three (w : World) (E : TypeId) (x0 x1 x2 : Value) {b : Nat} (hb : w.heap.size = b) (F : Nat → Value) (h0 : F 0 = x0) (h1 : F 1 = x1) (h2 : F 2 = x2) :
    RdC (w.alloc (.cells #[x0, x1, x2] E)) (.slice (some ⟨b, 0, none⟩) 1 1) 3 1 (fun _ => F) := by
  subst hb
  have hn := heap_alloc_new w (.cells #[x0, x1, x2] E)
  refine .inr ⟨_, 1, rfl, Nat.le_refl _, by decide, fun j hj => ?_⟩
  rw [addr_lit_add, Nat.zero_add]
  match j, hj with
  | 0, _ => rw [show fls 3 (fun _ => F) 0 = x0 from h0]; exact blk_cell hn 0 rfl
  | 1, _ => rw [show fls 3 (fun _ => F) 1 = x1 from h1]; exact blk_cell hn 1 rfl
  | 2, _ => rw [show fls 3 (fun _ => F) 2 = x2 from h2]; exact blk_cell hn 2 rfl

/-- other blocks than the questions' are as they were -/
theorem RsAll.frT {w w' : World} {B : Nat} {v : Value} {l : List Rc} (h : RsAll w B v l) (hf : FrT 56 w w') : RsAll w' B v l := by
  obtain ⟨G, h1, h2⟩ := h
  refine ⟨G, ?_, fun i hi => ?_⟩
  · rcases h1 with h | ⟨g, cap, rfl, hb, cur, e, h3⟩
    · exact .inl h
    · exact .inr ⟨g, cap, rfl, hb, cur, hf.blk e (by decide), h3⟩
  · obtain ⟨vn, vd, e0, e1, e2, e3, e4, g1, g2⟩ := h2 i hi
    exact ⟨vn, vd, e0, e1, e2, e3, e4, g1.frT hf (by decide), g2.frT hf (by decide)⟩

theorem QsAll.frT {w w' : World} {B : Nat} {v : Value} {l : List Qc} (h : QsAll w B v l) (hf : FrT 63 w w') : QsAll w' B v l := by
  obtain ⟨G, h1, h2⟩ := h
  refine ⟨G, ?_, fun i hi => ?_⟩
  · rcases h1 with h | ⟨g, cap, rfl, hb, cur, e, h3⟩
    · exact .inl h
    · exact .inr ⟨g, cap, rfl, hb, cur, hf.blk e (by decide), h3⟩
  · obtain ⟨vn, e0, e1, e2, g1⟩ := h2 i hi
    exact ⟨vn, e0, e1, e2, g1.frT hf (by decide)⟩

end Go.Proofs.Ytkdmkpdooiacaaa

namespace Go.Proofs.Ytkdmkpdooiacaaa
open Go.RowKit

theorem rdK_step {α : Type} {rd : Nat → Except Int (α × Nat)} {i k j : Nat} {l : List α} (h : rdK rd i k = .ok (l, j)) : rdK rd i (k + 1) = match rd j with
    | .error e => .error e
    | .ok (x, m) => .ok (l ++ [x], m) := by
  simp only [rdK]
  rw [h]
  simp only []
  rfl

theorem QsAll.slice {w : World} {B : Nat} {v : Value} {l : List Qc} (h : QsAll w B v l) : ∃ a c, v = .slice a l.length c := by
  obtain ⟨G, h, _⟩ := h
  rcases h with ⟨rfl, h0⟩ | ⟨g, cap, rfl, _⟩
  · exact ⟨_, _, by rw [h0]⟩
  · exact ⟨_, _, rfl⟩

theorem RsAll.slice {w : World} {B : Nat} {v : Value} {l : List Rc} (h : RsAll w B v l) : ∃ a c, v = .slice a l.length c := by
  obtain ⟨G, h, _⟩ := h
  rcases h with ⟨rfl, h0⟩ | ⟨g, cap, rfl, _⟩
  · exact ⟨_, _, by rw [h0]⟩
  · exact ⟨_, _, rfl⟩

def updF {α : Type} (f : Nat → α) (g : Nat) (x : α) : Nat → α := fun t => if t = g then x else f t

theorem updF_at {α : Type} (f : Nat → α) (g : Nat) (x : α) : updF f g x g = x := by unfold updF; rw [if_pos rfl]
theorem updF_ne {α : Type} (f : Nat → α) {g t : Nat} (x : α) (h : t ≠ g) : updF f g x t = f t := by unfold updF; rw [if_neg h]

/-- three sections of records, the call's own, no two in one row -/
structure Sx (w : World) (B : Nat) (V : Nat → Value) (S : Nat → List Rc) : Prop where
  at_ : ∀ t, t < 3 → RsAll w B (V t) (S t)
  ap : ∀ t u, t < 3 → u < 3 → t ≠ u → ∀ x ∈ (V t).ownBlock.toList, x ∉ (V u).ownBlock.toList

theorem Sx.nil (w : World) (B : Nat) : Sx w B (fun _ => .slice none 0 0) (fun _ => []) := ⟨fun _ _ => RsAll.nil _ _, fun t u _ _ _ x hx => by simp [Value.ownBlock] at hx⟩

theorem Sx.congr {w : World} {B : Nat} {V : Nat → Value} {S S' : Nat → List Rc} (h : Sx w B V S) (he : ∀ t, t < 3 → S t = S' t) : Sx w B V S' := ⟨fun t ht => by rw [← he t ht]; exact h.at_ t ht, h.ap⟩

theorem Sx.fr0 {w w' : World} {B : Nat} {V : Nat → Value} {S : Nat → List Rc} (h : Sx w B V S) (hf : Fr [] w w') : Sx w' B V S := ⟨fun t ht => (h.at_ t ht).fr0 hf, h.ap⟩

theorem Sx.keptM {w w' : World} {B b : Nat} {V : Nat → Value} {S : Nat → List Rc} {cs : Array Value} (h : Sx w B V S) (hf : Fr [b] w w') (hb : w.heap[b]? = some (.cells cs 37 (0, 0))) : Sx w' B V S := ⟨fun t ht => (h.at_ t ht).keptM hf hb, h.ap⟩

theorem RsAll.lt {w : World} {B : Nat} {v : Value} {l : List Rc} (h : RsAll w B v l) : ∀ x ∈ v.ownBlock.toList, x < w.heap.size := by
  obtain ⟨G, h, _⟩ := h
  exact h.lt

theorem RsAll.ge {w : World} {B : Nat} {v : Value} {l : List Rc} (h : RsAll w B v l) : ∀ x ∈ v.ownBlock.toList, B ≤ x := by
  obtain ⟨G, h, _⟩ := h
  exact h.ge

theorem RsAll.blk {w : World} {B : Nat} {v : Value} {l : List Rc} (h : RsAll w B v l) : ∀ b ∈ v.ownBlock.toList, ∃ cs, w.heap[b]? = some (.cells cs 63 (0, 0)) := by
  obtain ⟨G, h, _⟩ := h
  exact ownC_blk h

/-- another row of records is written -/
theorem RsAll.keptR {w w' : World} {B B' : Nat} {v u : Value} {l m : List Rc} (h : RsAll w B v l) (hu : RsAll w B' u m) (hf : Fr u.ownBlock.toList w w') (hap : ∀ x ∈ v.ownBlock.toList, x ∉ u.ownBlock.toList) : RsAll w' B v l := by
  obtain ⟨G, h1, h2⟩ := h
  obtain ⟨G', h1', _⟩ := hu
  exact ⟨G, h1.kept hf (fun g hg hm => hap g (by rw [hg]; simp) hm), fun i hi => (h2 i hi).kept hf h1'⟩

/-- what append does to one of them -/
theorem Sx.app {w w' : World} {B g : Nat} {V : Nat → Value} {S : Nat → List Rc} {v' : Value} {l : List Rc} (h : Sx w B V S) (hg : g < 3) (hr : RsAll w' B v' l) (hf : Fr (V g).ownBlock.toList w w') (hn : SameOrNew w (V g) v') : Sx w' B (updF V g v') (updF S g l) := by
  refine ⟨fun t ht => ?_, fun t u ht hu hne x hx => ?_⟩
  · by_cases e : t = g
    · subst e
      rw [updF_at, updF_at]
      exact hr
    · rw [updF_ne _ _ e, updF_ne _ _ e]
      exact (h.at_ t ht).keptR (h.at_ g hg) hf (h.ap t g ht hg e)
  · by_cases e : t = g
    · subst e
      rw [updF_at] at hx
      rw [updF_ne _ _ (Ne.symm hne)]
      intro hm
      rcases hn x hx with h1 | h1
      · exact h.ap _ _ ht hu hne x h1 hm
      · have := (h.at_ u hu).lt x hm
        omega
    · rw [updF_ne _ _ e] at hx
      by_cases e2 : u = g
      · subst e2
        rw [updF_at]
        intro hm
        rcases hn x hm with h1 | h1
        · exact h.ap _ _ ht hu hne x hx h1
        · have := (h.at_ t ht).lt x hx
          omega
      · rw [updF_ne _ _ e2]
        exact h.ap _ _ ht hu hne x hx

theorem run_appR2 (w : World) (ty : TypeId) {B : Nat} {v : Value} {l : List Rc} (hl : RsAll w B v l) {y : Value} {F : Nat → Value} (hrd : RdC w y 5 1 (fun _ => F)) {q : Rc} (hq : RsOwn w B F q.fn) (hn : l.length ≤ 1000000) (hB : B ≤ w.heap.size) :
    ∃ v' w', (Builtin.append_ #[35, 35] ty #[v, y]).run Try.prog w = .ok v' w' ∧ RsAll w' B v' (l ++ [q]) ∧ FrT 63 w w' ∧ Below B w w' ∧ Fr v.ownBlock.toList w w' ∧ SameOrNew w v v' := by
  obtain ⟨G, hG, hat⟩ := hl
  obtain ⟨v', w', hr, ho, hf, hs⟩ := run_appC (P := Try.prog) w 35 ty 63 infoRec Try.underlying35 rfl (by decide) hq.one5 hG hrd (by unfold maxLen; omega) (by omega) hB
  exact ⟨v', w', hr, RsAll.more hG hat hq ho hf, (FrT.refl _ _).ownC hG hf, hf.below B hB hG.ge, hf, hs⟩

/-- append of a record to one of the sections, as one step of a region that draws -/
theorem step_appS {w : World} {ops : Array Oper} {o : Oper} {a : Act} {K : Act → World → Prop} {Q : Exit → Act → World → Prop} {X : Prop} (hgd : o.guard = none) (s x : Operand) (ho : o.op = .call { callee := .builtin .append, args := #[s, x], argTypes := #[35, 35] })
    {B g : Nat} {V : Nat → Value} {S : Nat → List Rc} (hg : g < 3) (hl : Sx w B V S) {v : Value} (hv : V g = v) (hs : a.eval s = v) {y : Value} {F : Nat → Value} (hrd : RdC w y 5 1 (fun _ => F)) (hx : a.eval x = y) {q : Rc} (hq : RsOwn w B F q.fn) (hn : (S g).length ≤ 1000000) (hB : B ≤ w.heap.size)
    (h : ∀ v' w', RsAll w' B v' (S g ++ [q]) → Sx w' B (updF V g v') (updF S g (S g ++ [q])) → FrT 63 w w' → Below B w w' → K (a.put o.dst v') w') : if Region.wanted o (yielded ops a.tmps) = true then Oper.wp Try.prog o a w K Q else X := by
  subst hv
  have hw : Region.wanted o (yielded ops a.tmps) = true := by simp [Region.wanted, hgd]
  rw [if_pos hw]
  obtain ⟨v', w', hr, h2, h3, h4, h5, h6⟩ := run_appR2 w o.type (hl.at_ g hg) hrd hq hn hB
  unfold Oper.wp
  simp [execOp, ho, resolve, invoke, builtin, hs, hx, hr, Result.andThen]
  exact h v' w' h2 (hl.app hg h2 h5 h6) h3 h4

/-- a message's cells -/
def mC (h : Hd) (q : Value) (V : Nat → Value) : Array Value := msgCs h q (V 0) (V 1) (V 2)

theorem mC_get (h : Hd) (q : Value) (V : Nat → Value) {g : Nat} (hg : g < 3) : (mC h q V)[12 + g]? = some (V g) := by
  match g, hg with
  | 0, _ => rfl
  | 1, _ => rfl
  | 2, _ => rfl

theorem mC_set (h : Hd) (q : Value) (V : Nat → Value) {g : Nat} (hg : g < 3) (u : Value) : (mC h q V).setIfInBounds (12 + g) u = mC h q (updF V g u) := by
  match g, hg with
  | 0, _ => rfl
  | 1, _ => rfl
  | 2, _ => rfl

theorem mC_size (h : Hd) (q : Value) (V : Nat → Value) : (mC h q V).size = 15 := rfl

theorem ix_se12 (b : Nat) (k : Nat) (hk : k < 3) : ∀ (u : World), (Instr.index 59 (.agg #[.pointer (some ⟨b, 12, none⟩), .pointer (some ⟨b, 13, none⟩), .pointer (some ⟨b, 14, none⟩)]) (.int .i64 k)).run Try.prog u = .ok (.pointer (some ⟨b, 12 + k, none⟩)) u :=
  match k, hk with
  | 0, _ => fun u => by kernel_rfl
  | 1, _ => fun u => by kernel_rfl
  | 2, _ => fun u => by kernel_rfl

/-- a message's cells are plain ones -/
theorem mC_one {w : World} {B : Nat} {V : Nat → Value} {S : Nat → List Rc} (hS : Sx w B V S) {q : Value} {l : List Qc} (hq : QsAll w B q l) (h : Hd) : (mC h q V).all (·.oneCell') = true := by
  obtain ⟨a, c, rfl⟩ := hq.slice
  obtain ⟨a0, c0, e0⟩ := (hS.at_ 0 (by decide)).slice
  obtain ⟨a1, c1, e1⟩ := (hS.at_ 1 (by decide)).slice
  obtain ⟨a2, c2, e2⟩ := (hS.at_ 2 (by decide)).slice
  unfold mC msgCs
  rw [e0, e1, e2]
  simp [Value.oneCell']

theorem rdS_step {L : List UInt8} {i k j : Nat} {S : List (List Rc)} (h : rdS L i k = .ok (S, j)) : rdS L i (k + 1) = match rdK (rdR L) j (pr L (6 + 2 * k)) with
    | .error e => .error e
    | .ok (rs, n) => .ok (S ++ [rs], n) := by
  simp only [rdS]
  rw [h]
  simp only []
  rfl

theorem getD_more {S : List (List Rc)} {g : Nat} (hl : S.length = g) (rs : List Rc) (t : Nat) : updF (fun t => S.getD t []) g rs t = (S ++ [rs]).getD t [] := by
  subst hl
  by_cases e : t = S.length
  · subst e
    rw [updF_at, List.getD_eq_getElem?_getD, List.getElem?_append_right (Nat.le_refl _)]
    simp
  · rw [updF_ne _ _ e, List.getD_eq_getElem?_getD, List.getD_eq_getElem?_getD]
    by_cases h : t < S.length
    · rw [List.getElem?_append_left h]
    · rw [List.getElem?_eq_none (by omega), List.getElem?_eq_none (by simp; omega)]

theorem getD_out {S : List (List Rc)} {g : Nat} (hl : S.length = g) (t : Nat) : S.getD t [] = updF (fun t => S.getD t []) g [] t := by
  by_cases e : t = g
  · subst e
    rw [updF_at, List.getD_eq_getElem?_getD, List.getElem?_eq_none (by omega)]
    rfl
  · rw [updF_ne _ _ e]

theorem updF_upd {α : Type} (f : Nat → α) (g : Nat) (a b : α) (t : Nat) : updF (updF f g a) g b t = updF f g b t := by
  by_cases e : t = g
  · subst e; rw [updF_at, updF_at]
  · rw [updF_ne _ _ e, updF_ne _ _ e, updF_ne _ _ e]

end Go.Proofs.Ytkdmkpdooiacaaa
