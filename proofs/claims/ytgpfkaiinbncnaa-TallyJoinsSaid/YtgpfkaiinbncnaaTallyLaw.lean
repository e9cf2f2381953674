/- tallies: the plain laws. -/
import Derived.Test.YtgpfkaiinbncnaaTally
namespace Go.Proofs.Ytgpfkaiinbncnaa
open Go.RowKit

/-- how many of ns 0 .. ns (k-1) have place i -/
def cnf (ns : Nat → Int) : Nat → Nat → Int
  | 0, _ => 0
  | k + 1, i => cnf ns k i + if i = plc (ns k) then 1 else 0

theorem cnf_bd (ns : Nat → Int) (k i : Nat) : 0 ≤ cnf ns k i ∧ cnf ns k i ≤ k := by
  induction k with
  | zero => simp [cnf]
  | succ k ih => unfold cnf; split <;> omega

theorem cnf_far (ns : Nat → Int) (k i : Nat) (h : ∀ j, j < k → plc (ns j) < 64) (hi : 64 ≤ i) : cnf ns k i = 0 := by
  induction k with
  | zero => rfl
  | succ k ih =>
    unfold cnf
    have := h k (by omega)
    rw [ih (fun j hj => h j (by omega)), if_neg (by omega)]
    rfl

/-- how many j < k have P -/
def cn (P : Nat → Bool) : Nat → Int
  | 0 => 0
  | k + 1 => cn P k + if P k then 1 else 0

theorem cn_bd (P : Nat → Bool) (k : Nat) : 0 ≤ cn P k ∧ cn P k ≤ k := by
  induction k with
  | zero => simp [cn]
  | succ k ih => unfold cn; split <;> omega

theorem cn_congr {P Q : Nat → Bool} {k : Nat} (h : ∀ j, j < k → P j = Q j) : cn P k = cn Q k := by
  induction k with
  | zero => rfl
  | succ k ih => unfold cn; rw [ih (fun j hj => h j (by omega)), h k (by omega)]

theorem isum_one (p i : Nat) : isum (fun j => if j = p then 1 else 0) i = if p < i then 1 else 0 := by
  induction i with
  | zero => simp [isum]
  | succ i ih =>
    unfold isum
    rw [ih]
    by_cases h1 : p < i
    · rw [if_pos h1, if_neg (by omega), if_pos (by omega)]; rfl
    · by_cases h2 : i = p
      · rw [if_neg h1, if_pos h2, if_pos (by omega)]; rfl
      · rw [if_neg h1, if_neg h2, if_neg (by omega)]; rfl

theorem isum_add (f g : Nat → Int) (i : Nat) : isum (fun j => f j + g j) i = isum f i + isum g i := by
  induction i with
  | zero => rfl
  | succ i ih => unfold isum; rw [ih]; omega

theorem isum_zero (i : Nat) : isum (fun _ => 0) i = 0 := by
  induction i with
  | zero => rfl
  | succ i ih => unfold isum; rw [ih]; rfl

/-- the numbers whose place is below i -/
theorem isum_cnf (ns : Nat → Int) (k i : Nat) : isum (cnf ns k) i = cn (fun j => decide (plc (ns j) < i)) k := by
  induction k with
  | zero => exact isum_zero i
  | succ k ih =>
    have e : cnf ns (k + 1) = fun j => cnf ns k j + (fun j => if j = plc (ns k) then (1 : Int) else 0) j := rfl
    rw [e, isum_add, ih, isum_one]
    show _ = cn (fun j => decide (plc (ns j) < i)) k + if decide (plc (ns k) < i) = true then 1 else 0
    by_cases h : plc (ns k) < i
    · rw [if_pos h, if_pos (by simpa using h)]
    · rw [if_neg h, if_neg (by simpa using h)]

theorem cn_all (P : Nat → Bool) (k : Nat) (h : ∀ j, j < k → P j = true) : cn P k = k := by
  induction k with
  | zero => rfl
  | succ k ih => unfold cn; rw [ih (fun j hj => h j (by omega)), if_pos (h k (by omega))]; omega

theorem cn_none (P : Nat → Bool) (k : Nat) (h : ∀ j, j < k → P j = false) : cn P k = 0 := by
  induction k with
  | zero => rfl
  | succ k ih => unfold cn; rw [ih (fun j hj => h j (by omega)), h k (by omega)]; rfl

theorem isum_cnf_all (ns : Nat → Int) (k : Nat) (h : ∀ j, j < k → plc (ns j) < 64) : isum (cnf ns k) 64 = k := by
  rw [isum_cnf]
  exact cn_all _ _ (fun j hj => by simpa using h j hj)

/-- a number's place is below i + 1 just where it is not above 2^i - 1 -/
theorem plc_iff (n : Int) (i : Nat) (h0 : 0 ≤ n) (h1 : n ≤ 9223372036854775807) : plc n ≤ i ↔ n ≤ 2 ^ i - 1 := by
  have h := bitLen_le_iff i n.toNat (by omega)
  unfold plc
  rw [h]
  have e : ((2 ^ i : Nat) : Int) = (2 : Int) ^ i := by simp
  omega

/-- a tally, as memory shows it, holds these counts -/
def TalIs (w : World) (v : Value) (F : Nat → Int) : Prop := ∃ m f, RdF w v m (fun j => .int .i64 (f j)) ∧ m ≤ 64 ∧ ∀ j, pl64 m f j = F j

theorem TalIs.fr {w w' : World} {v : Value} {F : Nat → Int} {S : List Nat} (h : TalIs w v F) (hf : Fr S w w') (hS : ∀ b o c n, v = .slice (some ⟨b, o, none⟩) n c → b ∉ S) : TalIs w' v F := by
  obtain ⟨m, f, h1, h2, h3⟩ := h
  exact ⟨m, f, h1.fr hf (fun b o c e => hS b o c m e), h2, h3⟩

theorem TalIs.nil (w : World) : TalIs w (.slice none 0 0) (fun _ => 0) := ⟨0, fun _ => 0, .inl ⟨rfl, rfl⟩, by omega, fun j => by unfold pl64; rw [if_neg (by omega)]⟩

theorem TalIs.row {w : World} {g cap : Nat} {F : Nat → Int} (hr : RowI w g 64 cap F) (hfar : ∀ j, 64 ≤ j → F j = 0) : TalIs w (.slice (some ⟨g, 0, none⟩) (trm F 64) (trm F 64)) F := by
  have hle := trm_le F 64
  refine ⟨trm F 64, F, .inr ⟨_, trm F 64, rfl, Nat.le_refl _, by unfold maxLen; omega, fun j hj => ?_⟩, hle, fun j => ?_⟩
  · have e : (⟨g, 0, none⟩ : Addr).add j = ⟨g, j, none⟩ := by unfold Addr.add; split <;> simp_all
    rw [e]
    exact hr.cell j (by omega)
  · unfold pl64
    by_cases h : j < trm F 64
    · rw [if_pos h]
    · rw [if_neg h]
      by_cases h2 : j < 64
      · exact (trm_zero F 64 j (by omega) h2).symm
      · exact (hfar j (by omega)).symm

/-- Add, over counts -/
theorem tal_add (w : World) (v : Value) (F : Nat → Int) (h : TalIs w v F) (hF : ∀ j, 0 ≤ F j ∧ F j ≤ 1000000) (hfar : ∀ j, 64 ≤ j → F j = 0) (x : Int) (hx : 0 ≤ x) (hx1 : x ≤ 9223372036854775807) :
    Calls Try.prog 19 #[v, .int .i64 x] w fun e w' => ∃ g n, e = .returned (.tuple #[.slice (some ⟨g, 0, none⟩) n n, .nilIface]) ∧ w.heap.size ≤ g ∧
      TalIs w' (.slice (some ⟨g, 0, none⟩) n n) (fun i => F i + if i = plc x then 1 else 0) ∧ Fr [] w w' := by
  obtain ⟨m, f, h1, h2, h3⟩ := h
  have hp := plc_lt x hx hx1
  refine (tally_add w v m f h1 h2 (fun j hj => by have e := h3 j; unfold pl64 at e; rw [if_pos hj] at e; rw [e]; have := hF j; omega) x hx hx1).mono ?_
  rintro e w' ⟨g, rfl, hg, ⟨cap, hr⟩, hf⟩
  have e : (fun j => if j = plc x then pl64 m f j + 1 else pl64 m f j) = fun i => F i + if i = plc x then 1 else 0 := by
    funext j
    rw [h3 j]
    by_cases hj : j = plc x
    · rw [if_pos hj, if_pos hj]
    · rw [if_neg hj, if_neg hj]; omega
  rw [e] at hr ⊢
  exact ⟨g, _, rfl, hg, TalIs.row hr (fun j hj => by rw [hfar j hj, if_neg (by omega)]; rfl), hf⟩

theorem tal_bound (w : World) (v : Value) (F : Nat → Int) (h : TalIs w v F) (hF : ∀ j, 0 ≤ F j ∧ F j ≤ 1000000) (p : Int) (hp : 0 ≤ p ∧ p ≤ 100) (hs : 0 < isum F 64) (hs2 : isum F 64 ≤ 1000000) :
    Calls Try.prog 20 #[v, .int .i64 p] w fun e w' => ∃ i, BndAt F p i ∧ e = .returned (.tuple #[.int .i64 (2 ^ i - 1), .nilIface]) ∧ Fr [] w w' := by
  obtain ⟨m, f, h1, h2, h3⟩ := h
  have e : pl64 m f = F := funext h3
  have := tally_bound w v m f h1 h2 (fun j hj => by have e := h3 j; unfold pl64 at e; rw [if_pos hj] at e; rw [e]; have := hF j; omega) p hp (by rw [e]; exact hs) (by rw [e]; exact hs2)
  rwa [e] at this

end Go.Proofs.Ytgpfkaiinbncnaa
