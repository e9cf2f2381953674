/- The order of nodes by their score: the plain law. -/
import Derived.Test.YtbaiaolgjlhioaaDoorPairsSort
import Derived.Test.YtbaiaolgjlhioaaDoorCmp
import Derived.Test.YtbaiaolgjlhioaaDoorHash
namespace Go.Proofs.YtbaiaolgjlhioaaDoor
open Go.RowKit Go.Sort

/-- the greater score first, then the lesser number -/
def cfr (x y : Int × Int) : Int := co (ci y.1 x.1) (ci x.2 y.2)

theorem lt_cfr (x y : Int × Int) : ltOf cfr x y = decide (y.1 < x.1 ∨ (x.1 = y.1 ∧ x.2 < y.2)) := by
  unfold ltOf
  have h : cfr x y < 0 ↔ (y.1 < x.1 ∨ (x.1 = y.1 ∧ x.2 < y.2)) := by
    unfold cfr co ci
    by_cases h1 : y.1 < x.1
    · simp [h1]
    · by_cases h2 : x.1 < y.1
      · simp [h1, h2]; omega
      · by_cases h3 : x.2 < y.2
        · simp [h1, h2, h3]; omega
        · by_cases h4 : y.2 < x.2
          · simp [h1, h2, h3, h4]
          · simp [h1, h2, h3, h4]
  exact decide_eq_decide.2 h

theorem swor : SWO (ltOf cfr) where
  irrefl x := by rw [lt_cfr]; simp
  trans x y z h1 h2 := by rw [lt_cfr] at *; simp at *; omega
  ntrans x y z h1 h2 := by rw [lt_cfr] at *; simp at *; omega

theorem totr (x y : Int × Int) (h1 : ltOf cfr x y = false) (h2 : ltOf cfr y x = false) : x = y := by
  rw [lt_cfr] at *
  simp at h1 h2
  apply Prod.ext <;> omega

/-- in their order -/
def srr (L : List (Int × Int)) : List (Int × Int) := L.mergeSort fun x y => !(ltOf cfr) y x

theorem srr_len (L : List (Int × Int)) : (srr L).length = L.length := by simp [srr]
theorem srr_mem (L : List (Int × Int)) (x : Int × Int) : x ∈ srr L ↔ x ∈ L := by simp [srr]
theorem srr_perm (L : List (Int × Int)) : (srr L).Perm L := List.mergeSort_perm _ _

theorem srr_pair (L : List (Int × Int)) : (srr L).Pairwise (fun x y => (!(ltOf cfr) y x) = true) :=
  List.pairwise_mergeSort (le := fun x y => !(ltOf cfr) y x) (fun a b c h1 h2 => by
    simp only [Bool.not_eq_true'] at *
    exact swor.ntrans _ _ _ h2 h1) (fun a b => by
    simp only [Bool.or_eq_true, Bool.not_eq_true']
    rw [lt_cfr, lt_cfr]
    simp only [decide_eq_false_iff_not]
    omega) L

/-- a sorted list of the same ones is that one -/
theorem srr_uniq {L M : List (Int × Int)} (hp : M.Perm L) (hs : M.Pairwise (fun x y => (!(ltOf cfr) y x) = true)) : M = srr L :=
  List.Perm.eq_of_pairwise (le := fun x y => (!(ltOf cfr) y x) = true) (fun a b _ _ h1 h2 => by
    simp only [Bool.not_eq_true'] at h1 h2
    exact totr a b h2 h1) hs (srr_pair L) (hp.trans (srr_perm L).symm)

theorem srr_filter (L : List (Int × Int)) (f : Int × Int → Bool) : (srr L).filter f = srr (L.filter f) :=
  srr_uniq ((srr_perm L).filter f) ((srr_pair L).filter f)

/-- the score of one byte more -/
def f5 (id k : Int) (kf : Nat → Int) (j : Nat) : Int := if j < 4 then fo id j else if j = 4 then k else kf (j - 5)
def sck (id k : Int) (m : Nat) (kf : Nat → Int) : Int := hsh (f5 id k kf) (5 + m)
def scf (id : Int) (m : Nat) (kf : Nat → Int) : Nat → Int
  | 0 => 0
  | k + 1 => max (scf id m kf k) (sck id k m kf)
/-- how many bytes are tried -/
def trs (wt : Int) : Nat := (min (max wt 1) 256).toNat
def sco (q : Int × Int) (m : Nat) (kf : Nat → Int) : Int := scf q.1 m kf (trs q.2)

theorem scf_bd (id : Int) (m : Nat) (kf : Nat → Int) (k : Nat) : 0 ≤ scf id m kf k ∧ scf id m kf k ≤ 4294967295 := by
  induction k with
  | zero => simp [scf]
  | succ k ih =>
    have := hsh_bd (f5 id k kf) (5 + m)
    simp only [scf, sck]
    omega

theorem scf_mono (id : Int) (m : Nat) (kf : Nat → Int) {k t : Nat} (h : k ≤ t) : scf id m kf k ≤ scf id m kf t := by
  induction t with
  | zero => rw [show k = 0 by omega]; exact Int.le_refl _
  | succ t ih =>
    by_cases e : k = t + 1
    · rw [e]; exact Int.le_refl _
    · have := ih (by omega)
      simp only [scf]
      omega

theorem sco_mono (id a b : Int) (m : Nat) (kf : Nat → Int) (h : a ≤ b) : sco (id, a) m kf ≤ sco (id, b) m kf := by
  unfold sco
  refine scf_mono _ _ _ ?_
  unfold trs
  simp only []
  omega

/-- the nodes with their scores -/
def scs (p : Nat → Int × Int) (m : Nat) (kf : Nat → Int) (n : Nat) : List (Int × Int) := (List.range n).map fun i => (sco (p i) m kf, (p i).1)

theorem scs_len (p : Nat → Int × Int) (m : Nat) (kf : Nat → Int) (n : Nat) : (scs p m kf n).length = n := by simp [scs]

theorem scs_succ (p : Nat → Int × Int) (m : Nat) (kf : Nat → Int) (n : Nat) : scs p m kf (n + 1) = scs p m kf n ++ [(sco (p n) m kf, (p n).1)] := by
  unfold scs
  rw [List.range_succ, List.map_append]
  rfl

theorem scs_mem (p : Nat → Int × Int) (m : Nat) (kf : Nat → Int) (n : Nat) (x : Int × Int) : x ∈ scs p m kf n ↔ ∃ i, i < n ∧ x = (sco (p i) m kf, (p i).1) := by
  simp only [scs, List.mem_map, List.mem_range]
  constructor
  · rintro ⟨i, h, e⟩; exact ⟨i, h, e.symm⟩
  · rintro ⟨i, h, e⟩; exact ⟨i, h, e.symm⟩

end Go.Proofs.YtbaiaolgjlhioaaDoor
