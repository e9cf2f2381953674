/- The reference's Kept. -/
import Derived.Test.YtgpfkaiinbncnaaDoorHeavyKept
namespace Go.Proofs.YtgpfkaiinbncnaaDoor
open Go.RowKit Go.Maps

theorem lq_snoc {w : World} {B E : Nat} {v : Value} {M : List (Int × Int)} {q : Int × Int} (h : OwnP w B E v (M.length + 1) (app2 M.length (lq M) (fun _ => q))) : OwnP w B E v (M ++ [q]).length (lq (M ++ [q])) := by
  have e : (M ++ [q]).length = M.length + 1 := by simp
  rw [e]
  refine h.congr (fun j hj => ?_)
  unfold app2 lq
  by_cases hl : j < M.length
  · rw [if_pos hl, List.getD_eq_getElem?_getD, List.getD_eq_getElem?_getD, List.getElem?_append_left hl]
  · have e2 : j = M.length := by omega
    subst e2
    rw [if_neg hl, List.getD_eq_getElem?_getD, List.getElem?_append_right (by omega)]
    simp

theorem take_lq {L : List (Int × Int)} {t : Nat} (h : t < L.length) : L.take (t + 1) = L.take t ++ [lq L t] := by
  rw [List.take_add_one, List.getElem?_eq_getElem h, lq_get h]
  rfl

/-- what the reference's loops build of the first t -/
def upL (L : List (Int × Int)) (x : Int) (t : Nat) : List (Int × Int) := (L.take t).map (fun p => if p.1 = x then (p.1, p.2 + 1) else p)
def loL (L : List (Int × Int)) (x : Int) (t : Nat) : List (Int × Int) := (L.take t).filter (fun p => decide (p.1 < x))
def hiL (L : List (Int × Int)) (x : Int) (t : Nat) : List (Int × Int) := (L.take t).filter (fun p => decide (x < p.1))
def dcL (L : List (Int × Int)) (t : Nat) : List (Int × Int) := ((L.take t).filter (fun p => decide (1 < p.2))).map (fun p => (p.1, p.2 - 1))

theorem upL_succ {L : List (Int × Int)} {t : Nat} (x : Int) (h : t < L.length) : upL L x (t + 1) = upL L x t ++ [if (lq L t).1 = x then ((lq L t).1, (lq L t).2 + 1) else lq L t] := by
  unfold upL
  rw [take_lq h]
  simp
theorem loL_succ {L : List (Int × Int)} {t : Nat} (x : Int) (h : t < L.length) : loL L x (t + 1) = if (lq L t).1 < x then loL L x t ++ [lq L t] else loL L x t := by
  unfold loL
  rw [take_lq h]
  by_cases e : (lq L t).1 < x <;> simp [e]
theorem hiL_succ {L : List (Int × Int)} {t : Nat} (x : Int) (h : t < L.length) : hiL L x (t + 1) = if x < (lq L t).1 then hiL L x t ++ [lq L t] else hiL L x t := by
  unfold hiL
  rw [take_lq h]
  by_cases e : x < (lq L t).1 <;> simp [e]
theorem dcL_succ {L : List (Int × Int)} {t : Nat} (h : t < L.length) : dcL L (t + 1) = if 1 < (lq L t).2 then dcL L t ++ [((lq L t).1, (lq L t).2 - 1)] else dcL L t := by
  unfold dcL
  rw [take_lq h]
  by_cases e : 1 < (lq L t).2 <;> simp [e]
theorem upL_len (L : List (Int × Int)) (x : Int) (t : Nat) (h : t ≤ L.length) : (upL L x t).length = t := by simp [upL, h]
theorem loL_len (L : List (Int × Int)) (x : Int) (t : Nat) : (loL L x t).length ≤ L.length := by
  unfold loL
  exact Nat.le_trans (List.length_filter_le _ _) (by simp; omega)
theorem hiL_len (L : List (Int × Int)) (x : Int) (t : Nat) : (hiL L x t).length ≤ L.length := by
  unfold hiL
  exact Nat.le_trans (List.length_filter_le _ _) (by simp; omega)
theorem dcL_len (L : List (Int × Int)) (t : Nat) : (dcL L t).length ≤ L.length := by
  unfold dcL
  rw [List.length_map]
  exact Nat.le_trans (List.length_filter_le _ _) (by simp; omega)

theorem up_kp {L : List (Int × Int)} {k : Nat} {x : Int} (ha : Asc L) (h : hasK L x = true) : upL L x L.length = kp L k x := by
  rw [kp_has h]
  unfold upL
  rw [List.take_length]
  refine List.map_congr_left fun p hp => ?_
  by_cases e : p.1 = x
  · rw [if_pos e, if_pos e, lk_of_mem ha hp e, e]
  · rw [if_neg e, if_neg e]
theorem new_kp {L : List (Int × Int)} {k : Nat} {x : Int} (h : hasK L x = false) (hl : L.length < k) : (loL L x L.length ++ [(x, 1)]) ++ hiL L x L.length = kp L k x := by
  rw [kp_new h hl]
  unfold loL hiL insL
  rw [List.take_length]
  simp
theorem dc_kp {L : List (Int × Int)} {k : Nat} {x : Int} (h : hasK L x = false) (hl : ¬ L.length < k) (hp : ∀ p ∈ L, 1 ≤ p.2) : dcL L L.length = kp L k x := by
  rw [kp_dec h hl]
  unfold dcL
  rw [List.take_length, List.filter_map]
  congr 1
  refine List.filter_congr fun p hm => ?_
  have := hp p hm
  show decide (1 < p.2) = !decide (p.2 - 1 = 0)
  by_cases e : 1 < p.2
  · have e2 : ¬ p.2 - 1 = 0 := by omega
    simp [e, e2]
  · have e2 : p.2 - 1 = 0 := by omega
    simp [e, e2]
theorem hasK_snoc (L : List (Int × Int)) (t : Nat) (x : Int) (h : t < L.length) : hasK (L.take (t + 1)) x = (hasK (L.take t) x || ((lq L t).1 == x)) := by
  rw [take_lq h]
  simp [hasK]
end Go.Proofs.YtgpfkaiinbncnaaDoor
