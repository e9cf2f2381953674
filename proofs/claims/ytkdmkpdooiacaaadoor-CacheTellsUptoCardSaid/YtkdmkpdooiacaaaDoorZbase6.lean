/- What the texts below need: Front, RoomLaw, RoomLaw2. -/
import Derived.Test.YtkdmkpdooiacaaaDoorZFrontA
import Derived.Test.YtkdmkpdooiacaaaDoorZFrontB
import Derived.Test.YtkdmkpdooiacaaaDoorZFrontC
import Derived.Test.YtkdmkpdooiacaaaDoorZFrontD
namespace Go.Proofs.YtkdmkpdooiacaaaDoor
open Go.RowKit

theorem front_any (w : World) (B : HB) (p : Nat) (n : Int) (v : Value) (l : List En) (e : En) (qa aa ua ma : Option Addr) (qc ac uc mc : Nat) (hC : Ca B w p n v l)
    (hm : MsOk B w e.m (.slice qa e.m.qn qc) (.slice aa e.m.an ac) (.slice ua e.m.un uc) (.slice ma e.m.mn mc)) (hat : -9223372036854775808 ≤ e.at_ ∧ e.at_ ≤ 9223372036854775807) (hlf : -9223372036854775808 ≤ e.life ∧ e.life ≤ 9223372036854775807) (hB : B ≤ w.heap.size) :
    Calls Tryd.prog 28 #[.pointer (some ⟨p, 0, none⟩), enV e (.slice qa e.m.qn qc) (.slice aa e.m.an ac) (.slice ua e.m.un uc) (.slice ma e.m.mn mc)] w fun ed w' =>
      ed = .returned (.tuple #[]) ∧ ∃ v', Ca B w' p n v' (frL e n l) ∧ FrH B w w' ∧ Fr (p :: v.ownBlock.toList) w w' := by
  by_cases h1 : fIx e.key l < l.length
  · by_cases h2 : ((cutL e.key l).length : Int) + 1 ≤ n
    · exact front_hit_room w B p n v l e qa aa ua ma qc ac uc mc hC hm hat hlf hB h1 h2
    · exact front_hit_full w B p n v l e qa aa ua ma qc ac uc mc hC hm hat hlf hB h1 (by omega)
  · by_cases h2 : ((cutL e.key l).length : Int) + 1 ≤ n
    · exact front_new_room w B p n v l e qa aa ua ma qc ac uc mc hC hm hat hlf hB h1 h2
    · exact front_new_full w B p n v l e qa aa ua ma qc ac uc mc hC hm hat hlf hB h1 (by omega)

end Go.Proofs.YtkdmkpdooiacaaaDoor

namespace Go.Proofs.YtkdmkpdooiacaaaDoor

/-- a key laid first -/
def rcK (key : List UInt8) (L : List (List UInt8)) : List (List UInt8) := key :: L.filter (fun x => decide (x ≠ key))

/-- the keys of the first k, the last one first, each once -/
def ddK (ks : Nat → List UInt8) : Nat → List (List UInt8)
  | 0 => []
  | k + 1 => rcK (ks k) (ddK ks k)

theorem filter_self {key : List UInt8} {L : List (List UInt8)} (h : key ∉ L) : L.filter (fun x => decide (x ≠ key)) = L := by
  rw [List.filter_eq_self]
  intro a ha
  simp only [ne_eq, decide_not, Bool.not_eq_eq_eq_not, Bool.not_true, decide_eq_false_iff_not]
  intro e
  subst e
  exact h ha

theorem rcK_nodup {key : List UInt8} {L : List (List UInt8)} (h : L.Nodup) : (rcK key L).Nodup := by
  unfold rcK
  refine List.nodup_cons.2 ⟨fun hm => ?_, h.filter _⟩
  rw [List.mem_filter] at hm
  simp at hm

theorem ddK_nodup (ks : Nat → List UInt8) (k : Nat) : (ddK ks k).Nodup := by
  induction k with
  | zero => exact List.nodup_nil
  | succ k ih => exact rcK_nodup ih

theorem cut_keys {key : List UInt8} {l : List En} (h : (l.map En.key).Nodup) : (cutL key l).map En.key = (l.map En.key).filter (fun x => decide (x ≠ key)) := by
  induction l with
  | nil => rfl
  | cons e r ih =>
    rw [List.map_cons] at h
    obtain ⟨h1, h2⟩ := List.nodup_cons.1 h
    by_cases hk : e.key = key
    · have hq : kEq e.key key = true := (kEq_iff _ _).2 hk
      have hf : fIx key (e :: r) = 0 := by simp only [fIx]; rw [if_pos hq]
      unfold cutL
      rw [hf, if_pos (by simp)]
      simp only [List.eraseIdx_cons_zero, List.map_cons]
      rw [List.filter_cons_of_neg (by simp [hk]), filter_self (by rw [← hk]; exact h1)]
    · have hq : ¬ kEq e.key key = true := fun hh => hk ((kEq_iff _ _).1 hh)
      have hf : fIx key (e :: r) = fIx key r + 1 := by simp only [fIx]; rw [if_neg hq]
      have ih2 := ih h2
      rw [List.map_cons, List.filter_cons_of_pos (by simp [hk]), ← ih2]
      unfold cutL
      rw [hf]
      by_cases hl : fIx key r < r.length
      · rw [if_pos (by simp only [List.length_cons]; omega), if_pos hl, List.eraseIdx_cons_succ, List.map_cons]
      · rw [if_neg (by simp only [List.length_cons]; omega), if_neg hl, List.map_cons]

theorem take_filter_take {key : List UInt8} : ∀ (L : List (List UInt8)) (m : Nat), L.Nodup → ((L.take (m + 1)).filter (fun x => decide (x ≠ key))).take m = (L.filter (fun x => decide (x ≠ key))).take m
  | [], _, _ => by simp
  | a :: r, m, h => by
    obtain ⟨h1, h2⟩ := List.nodup_cons.1 h
    rw [List.take_succ_cons]
    by_cases hk : a = key
    · subst hk
      rw [List.filter_cons_of_neg (by simp), List.filter_cons_of_neg (by simp), filter_self h1, filter_self (fun hm => h1 (List.mem_of_mem_take hm)), List.take_take, Nat.min_self]
    · rw [List.filter_cons_of_pos (by simp [hk]), List.filter_cons_of_pos (by simp [hk])]
      rcases m with _ | m
      · simp
      · rw [List.take_succ_cons, List.take_succ_cons, take_filter_take r m h2]

/-- what is there behind one more -/
theorem room_step {e : En} {n : Int} {l : List En} {ks : Nat → List UInt8} {k : Nat} (hn : 1 ≤ n) (h : l.map En.key = (ddK ks k).take n.toNat) (he : e.key = ks k) : (frL e n l).map En.key = (ddK ks (k + 1)).take n.toNat := by
  have hnd : (l.map En.key).Nodup := by rw [h]; exact (ddK_nodup ks k).sublist (List.take_sublist _ _)
  obtain ⟨m, hm⟩ : ∃ m, n.toNat = m + 1 := ⟨n.toNat - 1, by omega⟩
  show ((e :: cutL e.key l).take n.toNat).map En.key = _
  rw [List.map_take, List.map_cons, cut_keys hnd, h, he, hm]
  show (ks k :: _).take (m + 1) = (ks k :: _).take (m + 1)
  rw [List.take_succ_cons, List.take_succ_cons, take_filter_take _ m (ddK_nodup ks k)]

/-- a key is there if it is one of the keys -/
theorem fIx_mem {key : List UInt8} {l : List En} : fIx key l < l.length ↔ key ∈ l.map En.key := by
  induction l with
  | nil => simp [fIx]
  | cons e r ih =>
    simp only [fIx, List.length_cons, List.map_cons, List.mem_cons]
    by_cases hq : kEq e.key key = true
    · rw [if_pos hq]
      have := (kEq_iff _ _).1 hq
      simp [this]
    · rw [if_neg hq]
      have : ¬ key = e.key := fun h => hq ((kEq_iff _ _).2 h.symm)
      simp only [this, false_or, ← ih]
      omega

end Go.Proofs.YtkdmkpdooiacaaaDoor

namespace Go.Proofs.YtkdmkpdooiacaaaDoor

theorem fIx_key {key : List UInt8} {l : List En} (h : fIx key l < l.length) : (l[fIx key l]'h).key = key := by
  induction l with
  | nil => simp at h
  | cons e r ih =>
    by_cases hq : kEq e.key key = true
    · have hf : fIx key (e :: r) = 0 := by simp only [fIx]; rw [if_pos hq]
      simp only [hf, List.getElem_cons_zero]
      exact (kEq_iff _ _).1 hq
    · have hf : fIx key (e :: r) = fIx key r + 1 := by simp only [fIx]; rw [if_neg hq]
      simp only [hf, List.getElem_cons_succ]
      exact ih (by rw [hf, List.length_cons] at h; omega)

theorem cutL_sub {key : List UInt8} {l : List En} : ∀ e ∈ cutL key l, e ∈ l := fun e he => by
  unfold cutL at he
  split at he
  · exact List.mem_of_mem_eraseIdx he
  · exact he

theorem frL_sub {e : En} {n : Int} {l : List En} : ∀ x ∈ frL e n l, x = e ∨ x ∈ l := fun x hx => by
  have h1 : x ∈ e :: cutL e.key l := List.mem_of_mem_take hx
  rcases List.mem_cons.1 h1 with h | h
  · exact .inl h
  · exact .inr (cutL_sub x h)

/-- asking for one that is there keeps who is there -/
theorem get_keys {key : List UInt8} {n : Int} {l : List En} (h : fIx key l < l.length) (hn : (l.length : Int) ≤ n) (hnd : (l.map En.key).Nodup) :
    ((frL (l[fIx key l]'h) n l).map En.key).Nodup ∧ ∀ x, x ∈ (frL (l[fIx key l]'h) n l).map En.key ↔ x ∈ l.map En.key := by
  have hk := fIx_key h
  have hlen : (cutL key l).length = l.length - 1 := by
    unfold cutL
    rw [if_pos h, List.length_eraseIdx_of_lt h]
  have e1 : (frL (l[fIx key l]'h) n l).map En.key = rcK key (l.map En.key) := by
    show (((l[fIx key l]'h) :: cutL (l[fIx key l]'h).key l).take n.toNat).map En.key = _
    rw [hk, List.take_of_length_le (by rw [List.length_cons, hlen]; omega), List.map_cons, hk, cut_keys hnd]
    rfl
  rw [e1]
  refine ⟨rcK_nodup hnd, fun x => ?_⟩
  have hmem : key ∈ l.map En.key := fIx_mem.1 h
  unfold rcK
  rw [List.mem_cons, List.mem_filter]
  constructor
  · rintro (rfl | ⟨h1, _⟩)
    · exact hmem
    · exact h1
  · intro hx
    by_cases e : x = key
    · exact .inl e
    · exact .inr ⟨hx, by simpa using e⟩

end Go.Proofs.YtkdmkpdooiacaaaDoor
