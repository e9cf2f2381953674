/- FrameTells: the pieces as one row of bytes, and what stands between two pieces (no program in sight). -/
import Derived.Test.YtlinembnfcdmcaaDoorFeed
import Derived.Test.YtlinembnfcdmcaaDoorFramePlain
namespace Go.Proofs.YtlinembnfcdmcaaDoor
open Go.RowKit

/-- so many bytes are in the first pieces -/
def ct (L : Nat → Nat) : Nat → Nat
  | 0 => 0
  | i + 1 => ct L i + L i

theorem ct_le (L : Nat → Nat) {i k : Nat} (h : i ≤ k) : ct L i ≤ ct L k := by
  induction k with
  | zero => rw [show i = 0 by omega]; exact Nat.le_refl _
  | succ k ih =>
    by_cases hik : i = k + 1
    · rw [hik]; exact Nat.le_refl _
    · have := ih (by omega); simp only [ct]; omega

/-- the pieces, one behind the other -/
def cat (L : Nat → Nat) (F : Nat → Nat → Int) : Nat → Nat → Int
  | 0, _ => 0
  | k + 1, j => if j < ct L k then cat L F k j else if j < ct L (k + 1) then F k (j - ct L k) else 0

theorem cat_bd {L : Nat → Nat} {F : Nat → Nat → Int} {M : Nat} (h : ∀ i j, i < M → j < L i → 0 ≤ F i j ∧ F i j ≤ 255) (k : Nat) (hk : k ≤ M) (j : Nat) : 0 ≤ cat L F k j ∧ cat L F k j ≤ 255 := by
  induction k with
  | zero => simp [cat]
  | succ k ih =>
    simp only [cat]
    split
    · exact ih (by omega)
    · split
      · rename_i h1 h2
        exact h k _ (by omega) (by simp only [ct] at h2; omega)
      · omega

theorem cat_pre {L : Nat → Nat} {F : Nat → Nat → Int} {k m : Nat} (h : k ≤ m) {j : Nat} (hj : j < ct L k) : cat L F m j = cat L F k j := by
  induction m with
  | zero => rw [show k = 0 by omega]
  | succ m ih =>
    by_cases hkm : k = m + 1
    · rw [hkm]
    · have h1 := ct_le L (show k ≤ m by omega)
      simp only [cat]
      rw [if_pos (by omega)]
      exact ih (by omega)

theorem cat_at {L : Nat → Nat} {F : Nat → Nat → Int} {k M : Nat} (hk : k < M) {j : Nat} (hj : j < L k) : cat L F M (ct L k + j) = F k j := by
  have e : ct L (k + 1) = ct L k + L k := rfl
  rw [cat_pre (show k + 1 ≤ M by omega) (show ct L k + j < ct L (k + 1) by omega)]
  simp only [cat]
  rw [if_neg (by omega), if_pos (by omega), show ct L k + j - ct L k = j by omega]

theorem pos_shift (G : Nat → Int) (K k : Nat) : pos G (K + k) = pos G K + pos (fun j => G (pos G K + j)) k := by
  induction k with
  | zero => simp [pos]
  | succ k ih =>
    show pos G (K + k) + 2 + (G (pos G (K + k)) * 256 + G (pos G (K + k) + 1)).toNat = _
    rw [ih]
    simp only [pos]
    rw [Nat.add_assoc (pos G K) _ 1]
    omega

theorem pos_one {G : Nat → Int} {N K k : Nat} (h1 : pos G K ≤ N) (h2 : N < pos G (K + 1)) (h3 : pos G k ≤ N) (h4 : N < pos G (k + 1)) : K = k := by
  by_cases hlt : K < k
  · have := pos_mono G (K + 1) (k - (K + 1))
    rw [show K + 1 + (k - (K + 1)) = k by omega] at this
    omega
  · by_cases hgt : k < K
    · have := pos_mono G (k + 1) (K - (k + 1))
      rw [show k + 1 + (K - (k + 1)) = K by omega] at this
      omega
    · omega

structure FT (w wr : World) (p B : Nat) (G : Nat → Int) (NA N K : Nat) (va vt rv : Value) (V : Nat → Value) : Prop where
  all : OwnF wr B 5 va NA (fun j => .int .u8 (G j))
  told : OwnF wr B 34 vt K V
  rest : OwnF wr B 5 rv (N - pos G K) (fun j => .int .u8 (G (pos G K + j)))
  rows : ∀ i, i < K → OwnF wr B 5 (V i) (pos G (i + 1) - pos G i - 2) (fun j => .int .u8 (G (pos G i + 2 + j)))
  blk : wr.heap[p]? = some (.cells #[rv] 78 (0, 0))
  lo : pos G K ≤ N
  hi : N < pos G (K + 1)
  ta : ∀ x ∈ vt.ownBlock.toList, x ∉ va.ownBlock.toList
  ra : ∀ x ∈ rv.ownBlock.toList, x ∉ va.ownBlock.toList ∧ x ∉ vt.ownBlock.toList
  va : ∀ i, i < K → ∀ x ∈ (V i).ownBlock.toList, x ∉ va.ownBlock.toList ∧ x ∉ vt.ownBlock.toList ∧ x ∉ rv.ownBlock.toList
  fr : Fr [] w wr
  size : B ≤ wr.heap.size
  pB : p < B
  wp : w.heap.size ≤ p

section
variable {w wr w' : World} {p B : Nat} {G : Nat → Int} {NA N K : Nat} {va vt rv : Value} {V : Nat → Value}

theorem FT.kept (h : FT w wr p B G NA N K va vt rv V) (hf : Fr [] wr w') : FT w w' p B G NA N K va vt rv V :=
  ⟨h.all.kept hf (by simp), h.told.kept hf (by simp), h.rest.kept hf (by simp), fun i hi => (h.rows i hi).kept hf (by simp), hf.blk h.blk (by simp), h.lo, h.hi, h.ta, h.ra, h.va, h.fr.trans hf (by simp), Nat.le_trans h.size hf.size, h.pB, h.wp⟩

theorem mem_own {v : Value} {g : Nat} (h : v.ownBlock = some g) : g ∈ v.ownBlock.toList := by simp [h]

theorem FT.app_all {NA' : Nat} {va' : Value} (h : FT w wr p B G NA N K va vt rv V) (ho : OwnF w' B 5 va' NA' (fun j => .int .u8 (G j))) (hf : Fr va.ownBlock.toList wr w') (hn : SameOrNew wr va va') :
    FT w w' p B G NA' N K va' vt rv V := by
  have hge := h.all.ge
  have hpB := h.pB
  have hwp := h.wp
  have key : ∀ (v : Value), (∀ x ∈ v.ownBlock.toList, x < wr.heap.size) → (∀ x ∈ v.ownBlock.toList, x ∉ va.ownBlock.toList) → ∀ x ∈ v.ownBlock.toList, x ∉ va'.ownBlock.toList := fun v h1 h2 x hx hx2 => by
    rcases hn x hx2 with h3 | h3
    · exact h2 x hx h3
    · have := h1 x hx; omega
  refine ⟨ho, h.told.kept hf (fun g hg => h.ta g (mem_own hg)), h.rest.kept hf (fun g hg => (h.ra g (mem_own hg)).1), fun i hi => (h.rows i hi).kept hf (fun g hg => (h.va i hi g (mem_own hg)).1),
    hf.blk h.blk (fun hx => by have := hge p hx; omega), h.lo, h.hi, key vt h.told.lt h.ta, fun x hx => ⟨key rv h.rest.lt (fun x hx => (h.ra x hx).1) x hx, (h.ra x hx).2⟩,
    fun i hi x hx => ⟨key (V i) (h.rows i hi).lt (fun x hx => (h.va i hi x hx).1) x hx, (h.va i hi x hx).2⟩, h.fr.trans hf (fun x hx => .inr (by have := hge x hx; omega)), Nat.le_trans h.size hf.size, hpB, hwp⟩

/-- what a piece turns: fed, its messages behind those that were told -/
theorem FT.fed {N' n : Nat} {e : Ending} (h : FT w wr p B G NA N K va vt rv V) (hN : n = N' - pos G K) (hN2 : N ≤ N')
    (hp : FeedPost wr (p :: rv.ownBlock.toList) p (fun j => G (pos G K + j)) n e w') :
    ∃ (k : Nat) (out rest : Value) (V' : Nat → Value), e = .returned out ∧ OwnF w' B 34 out k V' ∧ (∀ j, j < k → (V' j).oneCell' = true) ∧ OwnF w' B 34 vt K V ∧ K + k ≤ N' ∧ wr.heap.size ≤ w'.heap.size ∧
      ∀ (w'' : World) (vt' : Value), OwnF w'' B 34 vt' (K + k) (app K V V') → Fr vt.ownBlock.toList w' w'' → SameOrNew w' vt vt' → FT w w'' p B G NA N' (K + k) va vt' rest (app K V V') := by
  obtain ⟨k, out, rest, V', q1, q2, rfl, q3, q4, q5, q6, q7, q8⟩ := hp
  have hlo := h.lo
  have hpB := h.pB
  have hwp := h.wp
  have hsz := h.size
  have hs8 := q8.size
  have e0 := pos_shift G K
  have hnp : ∀ (v : Value), (∀ x ∈ v.ownBlock.toList, B ≤ x) → (∀ x ∈ v.ownBlock.toList, x ∉ rv.ownBlock.toList) → ∀ g, v.ownBlock = some g → g ∉ p :: rv.ownBlock.toList := fun v h1 h2 g hg hx => by
    rcases List.mem_cons.1 hx with h3 | h3
    · have := h1 g (mem_own hg); omega
    · exact h2 g (mem_own hg) h3
  have hall := h.all.kept q8 (hnp va h.all.ge (fun x hx hx2 => (h.ra x hx2).1 hx))
  have htold := h.told.kept q8 (hnp vt h.told.ge (fun x hx hx2 => (h.ra x hx2).2 hx))
  have hrows : ∀ i, i < K → OwnF w' B 5 (V i) (pos G (i + 1) - pos G i - 2) (fun j => .int .u8 (G (pos G i + 2 + j))) := fun i hi =>
    (h.rows i hi).kept q8 (hnp (V i) (h.rows i hi).ge (fun x hx => (h.va i hi x hx).2.2))
  have hlt : ∀ (v : Value) (m : Nat) (E : TypeId) (f : Nat → Value), OwnF w' wr.heap.size E v m f → ∀ x ∈ v.ownBlock.toList, x ∉ vt.ownBlock.toList := fun v m E f hv x hx hx2 => by
    have h1 := hv.ge x hx
    have h2 := h.told.lt x hx2
    omega
  have hpK := pos_two G (K + k)
  refine ⟨k, out, rest, V', rfl, q3.mono hsz, fun j hj => ?_, htold, by have := e0 k; omega, hs8, fun w'' vt' ho hf hn => ?_⟩
  · obtain ⟨a, c, hv⟩ := (q4 j hj).1.rd.slice
    rw [hv]; rfl
  have hge := h.told.ge
  have key : ∀ (v : Value), (∀ x ∈ v.ownBlock.toList, x < w'.heap.size) → (∀ x ∈ v.ownBlock.toList, x ∉ vt.ownBlock.toList) → ∀ x ∈ v.ownBlock.toList, x ∉ vt'.ownBlock.toList := fun v h1 h2 x hx hx2 => by
    rcases hn x hx2 with h3 | h3
    · exact h2 x hx h3
    · have := h1 x hx; omega
  have new : ∀ (v : Value) (m : Nat) (E : TypeId) (f : Nat → Value), OwnF w' wr.heap.size E v m f → ∀ x ∈ v.ownBlock.toList, x ∉ va.ownBlock.toList ∧ x ∉ vt'.ownBlock.toList := fun v m E f hv x hx => by
    refine ⟨fun hx2 => ?_, key v hv.lt (hlt v m E f hv) x hx⟩
    have h1 := hv.ge x hx
    have h2 := h.all.lt x hx2
    omega
  refine ⟨hall.kept hf (fun g hg hx => h.ta g hx (mem_own hg)), ho, ?_, fun i hi => ?_, hf.blk q5 (fun hx => by have := hge p hx; omega), by rw [e0 k]; omega, by have := e0 (k + 1); rw [show K + k + 1 = K + (k + 1) by omega, this]; omega, ?_, fun x hx => new rest _ _ _ q6 x hx, fun i hi x hx => ?_, ?_, by have := hf.size; omega, hpB, hwp⟩
  · have h1 := (q6.mono hsz).kept hf (fun g hg => hlt rest _ _ _ q6 g (mem_own hg))
    rw [show N' - pos G (K + k) = n - pos (fun j => G (pos G K + j)) k by rw [e0 k]; omega]
    exact h1.congr (fun j hj => by rw [e0 k, Nat.add_assoc])
  · unfold app
    by_cases hiK : i < K
    · rw [if_pos hiK]
      exact (hrows i hiK).kept hf (fun g hg => (h.va i hiK g (mem_own hg)).2.1)
    · rw [if_neg hiK]
      obtain ⟨d, rfl⟩ : ∃ d, i = K + d := ⟨i - K, by omega⟩
      rw [show K + d - K = d by omega]
      have h1 := ((q4 d (by omega)).1.mono hsz).kept hf (fun g hg => hlt (V' d) _ _ _ (q4 d (by omega)).1 g (mem_own hg))
      rw [show pos G (K + d + 1) - pos G (K + d) - 2 = pos (fun j => G (pos G K + j)) (d + 1) - pos (fun j => G (pos G K + j)) d - 2 by rw [show K + d + 1 = K + (d + 1) by omega, e0 d, e0 (d + 1)]; omega]
      exact h1.congr (fun j hj => by simp only [e0 d, Nat.add_assoc])
  · intro x hx hx2
    rcases hn x hx with h3 | h3
    · exact h.ta x h3 hx2
    · have := h.all.lt x hx2; omega
  · unfold app at hx
    by_cases hiK : i < K
    · rw [if_pos hiK] at hx
      refine ⟨(h.va i hiK x hx).1, key (V i) (hrows i hiK).lt (fun x hx => (h.va i hiK x hx).2.1) x hx, fun hx2 => ?_⟩
      have h1 := (h.rows i hiK).lt x hx
      have h2 := q6.ge x hx2
      omega
    · rw [if_neg hiK] at hx
      have h4 := q4 (i - K) (by omega)
      exact ⟨(new _ _ _ _ h4.1 x hx).1, (new _ _ _ _ h4.1 x hx).2, h4.2.2 x hx⟩
  · exact (h.fr.trans q8 (fun x hx => by
      rcases List.mem_cons.1 hx with h3 | h3
      · right; omega
      · right; have := h.rest.ge x h3; omega)).trans hf (fun x hx => .inr (by have := hge x hx; omega))
end
end Go.Proofs.YtlinembnfcdmcaaDoor
