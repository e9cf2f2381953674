/- What the texts below need: EnInsA, Front0. -/
import Derived.Deep.MidRow
import Derived.Test.YtkdmkpdooiacaaaDoorZEnIns
import Derived.Test.YtkdmkpdooiacaaaDoorZCaFind
namespace Go.Proofs.YtkdmkpdooiacaaaDoor
open Go.RowKit

theorem insert_en (w : World) (B : Nat) (v : Value) (n : Nat) (F : Nat → Nat → Value) (x : Nat → Value) (b : Nat) (hown : OwnC w B 88 v 18 n F) (hB : B ≤ w.heap.size) (hn1 : n ≤ 1000) (hb : RowC w b 88 18 1 1 (fun _ => x)) (hvb : ∀ g, v.ownBlock = some g → b ≠ g)
    (hone : ∀ c, c < 18 → (x c).oneCell' = true) (honF : ∀ i c, i < n → c < 18 → (F i c).oneCell' = true) :
    Calls Tryd.prog 51 #[v, .int .i64 0, .slice (some ⟨b, 0, none⟩) 1 1] w fun e w' => InsGood w w' B v n x F e := by
  by_cases h0 : n = 0
  · subst h0
    exact insert_empty w B v F x b hown hB hb.rd hone
  · obtain ⟨g, cap, rfl, hg, hr⟩ := hown.row (by omega)
    by_cases hroom : n + 1 ≤ cap
    · exact insert_room w B g n cap F x b 88 hr hg (by omega) hroom hb (hvb g rfl) hone honF
    · have := hr.le
      obtain rfl : cap = n := by omega
      exact insert_grow w B g cap F x b hr hB (by omega) hn1 hb hone honF

theorem rowc_lit {w : World} {cs : Array Value} {E : TypeId} {s : Nat} {F : Nat → Nat → Value} {b : Nat} (hb : w.heap[b]? = some (.cells cs E (0, 0))) (hs : cs.size = s) (hF : ∀ c, c < s → cs[c]? = some (F 0 c)) : RowC w b E s 1 1 F := by
  refine ⟨cs, hb, by omega, Nat.le_refl _, by decide, fun j hj => ?_⟩
  unfold fls
  have hj' : j < s := by omega
  rw [Nat.div_eq_of_lt hj', Nat.mod_eq_of_lt hj']
  exact hF j hj'

theorem enCs_get (e : En) (q a u m : Value) (c : Nat) (hc : c < 18) : (enCs e q a u m)[c]? = some (enF e q a u m c) := by
  match c, hc with
  | 0, _ => rfl
  | 1, _ => rfl
  | 2, _ => rfl
  | 3, _ => rfl
  | 4, _ => rfl
  | 5, _ => rfl
  | 6, _ => rfl
  | 7, _ => rfl
  | 8, _ => rfl
  | 9, _ => rfl
  | 10, _ => rfl
  | 11, _ => rfl
  | 12, _ => rfl
  | 13, _ => rfl
  | 14, _ => rfl
  | 15, _ => rfl
  | 16, _ => rfl
  | 17, _ => rfl
  | c + 18, h => omega

theorem en_cells {w : World} {p : Nat} {T : TypeId} {x0 x1 x2 x3 x4 x5 x6 x7 x8 x9 x10 x11 x12 x13 x14 x15 x16 x17 : Value} (hb : w.heap[p]? = some (.cells #[x0, x1, x2, x3, x4, x5, x6, x7, x8, x9, x10, x11, x12, x13, x14, x15, x16, x17] T (0, 0))) :
    w.cell? ⟨p, 0, none⟩ = some x0 ∧ w.cell? ⟨p, 1, none⟩ = some x1 ∧ w.cell? ⟨p, 2, none⟩ = some x2 ∧ w.cell? ⟨p, 3, none⟩ = some x3 ∧ w.cell? ⟨p, 4, none⟩ = some x4 ∧ w.cell? ⟨p, 5, none⟩ = some x5 ∧ w.cell? ⟨p, 6, none⟩ = some x6 ∧ w.cell? ⟨p, 7, none⟩ = some x7 ∧ w.cell? ⟨p, 8, none⟩ = some x8 ∧ w.cell? ⟨p, 9, none⟩ = some x9 ∧ w.cell? ⟨p, 10, none⟩ = some x10 ∧ w.cell? ⟨p, 11, none⟩ = some x11 ∧ w.cell? ⟨p, 12, none⟩ = some x12 ∧ w.cell? ⟨p, 13, none⟩ = some x13 ∧ w.cell? ⟨p, 14, none⟩ = some x14 ∧ w.cell? ⟨p, 15, none⟩ = some x15 ∧ w.cell? ⟨p, 16, none⟩ = some x16 ∧ w.cell? ⟨p, 17, none⟩ = some x17 :=
  ⟨blk_cell hb 0 rfl, blk_cell hb 1 rfl, blk_cell hb 2 rfl, blk_cell hb 3 rfl, blk_cell hb 4 rfl, blk_cell hb 5 rfl, blk_cell hb 6 rfl, blk_cell hb 7 rfl, blk_cell hb 8 rfl, blk_cell hb 9 rfl, blk_cell hb 10 rfl, blk_cell hb 11 rfl, blk_cell hb 12 rfl, blk_cell hb 13 rfl, blk_cell hb 14 rfl, blk_cell hb 15 rfl, blk_cell hb 16 rfl, blk_cell hb 17 rfl⟩

/-- the entries, one of them struck -/
def delL (i : Nat) (l : List En) : List En := l.eraseIdx i

/-- what front leaves -/
def frL (e : En) (n : Int) (l : List En) : List En := (e :: (if fIx e.key l < l.length then l.eraseIdx (fIx e.key l) else l)).take n.toNat

/-- one struck, in memory -/
theorem EnRow.del {B : HB} {w w' : World} {g cap : Nat} {l : List En} {F : Nat → Nat → Value} {i : Nat} (h : EnRow B w (.slice (some ⟨g, 0, none⟩) l.length cap) l F) (hB : B ≤ g) (hi : i < l.length) (hf : Fr [g] w w')
    (hr : RowC w' g 88 18 (l.length - 1) cap (fun j => if j < i then F j else F (j + 1))) (hh : FrH B w w') : EnRow B w' (.slice (some ⟨g, 0, none⟩) (l.length - 1) cap) (l.eraseIdx i) (fun j => if j < i then F j else F (j + 1)) := by
  have hl : (l.eraseIdx i).length = l.length - 1 := List.length_eraseIdx_of_lt hi
  refine ⟨?_, fun j hj => ?_⟩
  · rw [hl]
    exact .inr ⟨g, cap, rfl, hB, hr⟩
  · rw [hl] at hj
    rw [List.getElem_eraseIdx]
    by_cases hji : j < i
    · rw [dif_pos hji]
      show EnAt B w' (fun c => (if j < i then F j else F (j + 1)) c) _
      rw [if_pos hji]
      exact (h.at_ j (by omega)).frH hh
    · rw [dif_neg hji]
      show EnAt B w' (fun c => (if j < i then F j else F (j + 1)) c) _
      rw [if_neg hji]
      exact (h.at_ (j + 1) (by omega)).frH hh

end Go.Proofs.YtkdmkpdooiacaaaDoor

namespace Go.Proofs.YtkdmkpdooiacaaaDoor
open Go.RowKit

/-- an entry struck, or none -/
def cutL (key : List UInt8) (l : List En) : List En := if fIx key l < l.length then l.eraseIdx (fIx key l) else l

theorem cutL_len (key : List UInt8) (l : List En) : (cutL key l).length ≤ l.length := by
  unfold cutL
  split
  · rw [List.length_eraseIdx_of_lt (by assumption)]; omega
  · exact Nat.le_refl _

theorem hot_blk {B : HB} {w : World} {b : Nat} {cs : Array Value} {T : TypeId} (h : w.heap[b]? = some (.cells cs T (0, 0))) (hB : B ≤ b) (hT : hotT T = true) : Hot B w b := .inl ⟨hB, cs, T, _, h, hT⟩

theorem OwnC.hotE {B : HB} {w : World} {v : Value} {s n : Nat} {F : Nat → Nat → Value} (h : OwnC w B 88 v s n F) : ∀ x ∈ v.ownBlock.toList, Hot B w x := fun x hx => by
  rcases h with ⟨rfl, _⟩ | ⟨g, cap, rfl, hb, cur, h1, _⟩
  · simp [Value.ownBlock] at hx
  · simp only [Value.ownBlock, Option.toList, List.mem_singleton] at hx
    subst hx
    exact hot_blk h1 hb (by decide)

theorem en_range {w : World} {b : Nat} {cs : List Value} {T : TypeId} (h : w.heap[b]? = some (.cells (List.toArray cs) T (0, 0))) : w.rangeAt b 0 cs := fun j u hj => by
  rw [Nat.zero_add]
  exact blk_cell h j (by simpa using hj)

/-- a wide load, in a region that draws its order -/
theorem step_load_mid {P : Program} {w : World} {ops : Array Oper} {o : Oper} {a : Act} {K : Act → World → Prop} {Q : Exit → Act → World → Prop} {X : Prop} (hgd : o.guard = none) (ty : TypeId) (x : Operand) (ho : o.op = .load ty x)
    (b off : Nat) (hx : a.eval x = .pointer (some ⟨b, off, none⟩)) (cs : List Value) (d : TypeDesc) (hc : w.rangeAt b off cs)
    (hu : P.underlying ty = some d) (hd : d.isRow = true) (hi : (P.info? ty).map (·.size) = some cs.length)
    (h : K (a.put o.dst (.agg cs.toArray)) w) : if Region.wanted o (yielded ops a.tmps) = true then Oper.wp P o a w K Q else X := by
  have hw : Region.wanted o (yielded ops a.tmps) = true := by simp [Region.wanted, hgd]
  rw [if_pos hw]
  exact wp_load_mid ty x ho b off hx cs d hc hu hd hi h

end Go.Proofs.YtkdmkpdooiacaaaDoor
