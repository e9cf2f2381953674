/- What the texts below need: FramePlain, StreamSt. -/
import Derived.Test.YtkdmkpdooiacaaaZFeed
namespace Go.Proofs.Ytkdmkpdooiacaaa

/-- where message i's frame begins -/
def ed (L : Nat → Nat) : Nat → Nat
  | 0 => 0
  | i + 1 => ed L i + (2 + L i)

/-- the stream of the first k messages -/
def str (L : Nat → Nat) (F : Nat → Nat → Int) : Nat → Nat → Int
  | 0, _ => 0
  | k + 1, j => if j < ed L k then str L F k j else frm (L k) (F k) (j - ed L k)

theorem ed_mono (L : Nat → Nat) (i d : Nat) : ed L i ≤ ed L (i + d) := by
  induction d with
  | zero => exact Nat.le_refl _
  | succ d ih => rw [show i + (d + 1) = (i + d) + 1 by omega]; simp only [ed]; omega

theorem ed_le (L : Nat → Nat) {i k : Nat} (h : i ≤ k) : ed L i ≤ ed L k := by
  have := ed_mono L i (k - i)
  rwa [show i + (k - i) = k by omega] at this

theorem str_low (L : Nat → Nat) (F : Nat → Nat → Int) (k d j : Nat) (hj : j < ed L k) : str L F (k + d) j = str L F k j := by
  induction d with
  | zero => rfl
  | succ d ih =>
    rw [show k + (d + 1) = (k + d) + 1 by omega]
    simp only [str]
    rw [if_pos (by have := ed_mono L k d; omega), ih]

theorem str_at (L : Nat → Nat) (F : Nat → Nat → Int) (M i j : Nat) (hi : i < M) (hj : j < 2 + L i) : str L F M (ed L i + j) = frm (L i) (F i) j := by
  have h := str_low L F (i + 1) (M - (i + 1)) (ed L i + j) (by simp only [ed]; omega)
  rw [show i + 1 + (M - (i + 1)) = M by omega] at h
  rw [h]
  simp only [str]
  rw [if_neg (by omega), show ed L i + j - ed L i = j by omega]

theorem frm_bd (n : Nat) (f : Nat → Int) (j : Nat) (hf : ∀ j, j < n → 0 ≤ f j ∧ f j ≤ 255) (hj : j < 2 + n) : 0 ≤ frm n f j ∧ frm n f j ≤ 255 := by
  unfold frm
  split
  · omega
  · split
    · omega
    · exact hf _ (by omega)

theorem str_bd (L : Nat → Nat) (F : Nat → Nat → Int) (hF : ∀ i j, j < L i → 0 ≤ F i j ∧ F i j ≤ 255) (k j : Nat) (hj : j < ed L k) : 0 ≤ str L F k j ∧ str L F k j ≤ 255 := by
  induction k with
  | zero => simp [ed] at hj
  | succ k ih =>
    simp only [str]
    by_cases h : j < ed L k
    · rw [if_pos h]; exact ih h
    · rw [if_neg h]
      simp only [ed] at hj
      exact frm_bd _ _ _ (hF k) (by omega)

theorem pos_mono (h : Nat → Int) (i d : Nat) : pos h i ≤ pos h (i + d) := by
  induction d with
  | zero => exact Nat.le_refl _
  | succ d ih => have := pos_le h (i + d); rw [show i + (d + 1) = i + d + 1 by omega]; omega

/-- What 'Feed' finds is what was sent. h: the bytes from ed n on, up to at. -/
theorem pos_ed (L : Nat → Nat) (F : Nat → Nat → Int) (M : Nat) (hL : ∀ i, i < M → L i ≤ 65535) (n at' : Nat) (hn : n ≤ M) (hat : at' ≤ ed L M) (h : Nat → Int)
    (hh : ∀ j, ed L n + j < at' → h j = str L F M (ed L n + j)) (i : Nat) (hi : ed L n + pos h i ≤ at') : n + i ≤ M ∧ ed L n + pos h i = ed L (n + i) := by
  induction i with
  | zero => exact ⟨hn, rfl⟩
  | succ i ih =>
    have h1 := pos_le h i
    obtain ⟨h2, h3⟩ := ih (by omega)
    have hlt : n + i < M := by
      rcases Nat.lt_or_ge (n + i) M with h4 | h4
      · exact h4
      · exfalso
        have h5 : n + i = M := by omega
        rw [h5] at h3
        omega
    have e0 : h (pos h i) = (L (n + i) : Int) / 256 % 256 := by
      rw [hh _ (by omega), h3]
      have := str_at L F M (n + i) 0 hlt (by omega)
      rw [Nat.add_zero] at this
      rw [this]; rfl
    have e1 : h (pos h i + 1) = (L (n + i) : Int) % 256 := by
      rw [hh _ (by omega), ← Nat.add_assoc, h3, str_at L F M (n + i) 1 hlt (by omega)]; rfl
    have hl := hL (n + i) hlt
    have e2 : pos h (i + 1) = pos h i + 2 + L (n + i) := by
      simp only [pos]
      rw [e0, e1]
      have : ((L (n + i) : Int) / 256 % 256 * 256 + (L (n + i) : Int) % 256).toNat = L (n + i) := by omega
      rw [this]
    refine ⟨by omega, ?_⟩
    rw [e2, show n + (i + 1) = (n + i) + 1 by omega]
    simp only [ed]
    omega

theorem pos_last (L : Nat → Nat) (F : Nat → Nat → Int) (M : Nat) (hL : ∀ i, i < M → L i ≤ 65535) (n at' : Nat) (hn : n ≤ M) (hat : at' ≤ ed L M) (h : Nat → Int)
    (hh : ∀ j, ed L n + j < at' → h j = str L F M (ed L n + j)) (i : Nat) (hi : ed L n + pos h i ≤ at') (hi2 : at' < ed L n + pos h (i + 1)) (hlt : n + i < M) : at' < ed L (n + i + 1) := by
  obtain ⟨_, h3⟩ := pos_ed L F M hL n at' hn hat h hh i hi
  rcases Nat.lt_or_ge at' (ed L (n + i + 1)) with h4 | h4
  · exact h4
  · exfalso
    simp only [ed] at h4
    have e0 : h (pos h i) = (L (n + i) : Int) / 256 % 256 := by
      rw [hh _ (by omega), h3]
      have := str_at L F M (n + i) 0 hlt (by omega)
      rw [Nat.add_zero] at this
      rw [this]; rfl
    have e1 : h (pos h i + 1) = (L (n + i) : Int) % 256 := by
      rw [hh _ (by omega), ← Nat.add_assoc, h3, str_at L F M (n + i) 1 hlt (by omega)]; rfl
    have hl := hL (n + i) hlt
    have e2 : pos h (i + 1) = pos h i + 2 + L (n + i) := by
      simp only [pos]
      rw [e0, e1]
      have : ((L (n + i) : Int) / 256 % 256 * 256 + (L (n + i) : Int) % 256).toNat = L (n + i) := by omega
      rw [this]
    omega

end Go.Proofs.Ytkdmkpdooiacaaa

namespace Go.Proofs.Ytkdmkpdooiacaaa
open Go.RowKit

/-- between two pieces: at' bytes of the stream are fed, n messages have come out -/
def FPst (w : World) (p B M : Nat) (L : Nat → Nat) (F : Nat → Nat → Int) (va : Value) (at' n : Nat) (wr : World) : Prop :=
  at' ≤ ed L M ∧ n ≤ M ∧ ed L n ≤ at' ∧ (n < M → at' < ed L (n + 1)) ∧ OwnF wr B 5 va (ed L M) (fun j => .int .u8 (str L F M j)) ∧
    (∃ rv, wr.heap[p]? = some (.cells #[rv] 46 (0, 0)) ∧ OwnF wr B 5 rv (at' - ed L n) (fun j => .int .u8 (str L F M (ed L n + j))) ∧
      (∀ x ∈ rv.ownBlock.toList, x ∉ va.ownBlock.toList)) ∧ Fr [] w wr ∧ B ≤ wr.heap.size

/-- the bytes from message n on, as far as the stream goes -/
def hS (L : Nat → Nat) (F : Nat → Nat → Int) (M n j : Nat) : Int := if ed L n + j < ed L M then str L F M (ed L n + j) else 0

theorem hS_bd (L : Nat → Nat) (F : Nat → Nat → Int) (M n : Nat) (hF : ∀ i j, 0 ≤ F i j ∧ F i j ≤ 255) (j : Nat) : 0 ≤ hS L F M n j ∧ hS L F M n j ≤ 255 := by
  unfold hS
  split
  · rename_i h
    exact str_bd L F (fun i j _ => hF i j) M _ h
  · omega

/-- what came out of a piece -/
def FPgot (w : World) (p B M : Nat) (L : Nat → Nat) (F : Nat → Nat → Int) (va : Value) (nx n : Nat) (got : Value) (wy : World) : Prop :=
  ∃ (kk : Nat) (V : Nat → Value), FPst w p B M L F va nx (n + kk) wy ∧ OwnF wy B 27 got kk V ∧ ∀ i, i < kk → OwnF wy B 5 (V i) (L (n + i)) (fun j => .int .u8 (F (n + i) j))

theorem fp_got {w wr w' : World} {p B M : Nat} {L : Nat → Nat} {F : Nat → Nat → Int} {va rv : Value} {at' n nx : Nat} {e : Ending}
    (hL : ∀ i, i < M → L i ≤ 65535) (hst : FPst w p B M L F va at' n wr) (hx1 : at' ≤ nx) (hx2 : nx ≤ ed L M) (hpB : p < B) (hwB : w.heap.size ≤ p) (hrvB : ∀ x ∈ rv.ownBlock.toList, B ≤ x)
    (hrva : ∀ x ∈ rv.ownBlock.toList, x ∉ va.ownBlock.toList)
    (hp : FeedPost wr (p :: rv.ownBlock.toList) p (hS L F M n) (nx - ed L n) e w') : ∃ got, e = .returned got ∧ FPgot w p B M L F va nx n got w' := by
  obtain ⟨h1, h2, h3, h4, hA, _, hF, hsz⟩ := hst
  obtain ⟨k, out, rest, V, q1, q2, rfl, q3, q4, q5, q6, q7, q8⟩ := hp
  have hh : ∀ j, ed L n + j < nx → hS L F M n j = str L F M (ed L n + j) := fun j hj => by unfold hS; rw [if_pos (by omega)]
  obtain ⟨r1, r2⟩ := pos_ed L F M hL n nx h2 hx2 (hS L F M n) hh k (by omega)
  have hnl : ∀ x, x ∈ va.ownBlock.toList → x ∉ (p :: rv.ownBlock.toList) := fun x hx hx2 => by
    rcases List.mem_cons.1 hx2 with h | h
    · have := hA.ge x hx; omega
    · exact hrva x h hx
  refine ⟨out, rfl, k, V, ⟨hx2, r1, by omega, fun hlt => ?_, hA.kept q8 (fun g hg => hnl g (by simp [hg])), ⟨rest, q5, ?_, fun x hx hx2 => ?_⟩, ?_, Nat.le_trans hsz q8.size⟩, q3.mono hsz, fun i hi => ?_⟩
  · exact pos_last L F M hL n nx h2 hx2 (hS L F M n) hh k (by omega) (by omega) hlt
  · rw [show nx - ed L (n + k) = nx - ed L n - pos (hS L F M n) k by omega]
    refine (q6.mono hsz).congr (fun j hj => ?_)
    rw [hh _ (by omega), ← Nat.add_assoc, r2]
  · have h5 := q6.ge x hx
    have h6 := hA.lt x hx2
    omega
  · exact hF.trans q8 (fun x hx => by
      rcases List.mem_cons.1 hx with h | h
      · right; omega
      · right; have := hrvB x h; omega)
  · obtain ⟨s1, s2⟩ := pos_ed L F M hL n nx h2 hx2 (hS L F M n) hh i (by have := pos_mono (hS L F M n) i (k - i); rw [show i + (k - i) = k by omega] at this; omega)
    obtain ⟨s3, s4⟩ := pos_ed L F M hL n nx h2 hx2 (hS L F M n) hh (i + 1) (by have := pos_mono (hS L F M n) (i + 1) (k - (i + 1)); rw [show i + 1 + (k - (i + 1)) = k by omega] at this; omega)
    have hle : pos (hS L F M n) (i + 1) ≤ pos (hS L F M n) k := by have := pos_mono (hS L F M n) (i + 1) (k - (i + 1)); rwa [show i + 1 + (k - (i + 1)) = k by omega] at this
    have e1 : ed L (n + (i + 1)) = ed L (n + i) + (2 + L (n + i)) := rfl
    have e2 : pos (hS L F M n) (i + 1) - pos (hS L F M n) i - 2 = L (n + i) := by omega
    have h5 := (q4 i hi).1.mono hsz
    rw [e2] at h5
    refine h5.congr (fun j hj => ?_)
    rw [hh _ (by omega), show ed L n + (pos (hS L F M n) i + 2 + j) = ed L (n + i) + (2 + j) by omega, str_at L F M (n + i) (2 + j) (by omega) (by omega)]
    unfold frm
    rw [if_neg (by omega), if_neg (by omega), show 2 + j - 2 = j by omega]

end Go.Proofs.Ytkdmkpdooiacaaa
