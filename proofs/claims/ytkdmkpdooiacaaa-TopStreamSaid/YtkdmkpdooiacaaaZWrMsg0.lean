/- What msg.Write's walk needs: bounds, a message's sections by their places, rows as lists. -/
import Derived.Test.YtkdmkpdooiacaaaZWrtQue
import Derived.Test.YtkdmkpdooiacaaaZbase4
import Derived.Test.YtkdmkpdooiacaaaZbase5
namespace Go.Proofs.Ytkdmkpdooiacaaa
open Go.RowKit

theorem packG_st (L : List UInt8) (st : List Nat) (ls : List ByteArray) (o : List UInt8 × List Nat) : (packG L st ls o).2.length ≤ o.2.length + ls.length := by
  induction ls generalizing o with
  | nil => simp only [packG]; omega
  | cons l r ih =>
    simp only [packG]
    match fndP L st (l :: r) with
    | some p => simp only []; omega
    | none =>
      have := ih (o.1 ++ lbl l, if o.1.length ≤ 16383 then o.2 ++ [o.1.length] else o.2)
      simp only [List.length_cons]
      refine Nat.le_trans this ?_
      simp only []
      split
      · rw [List.length_append]; simp; omega
      · omega

theorem pack_bd {o : List UInt8 × List Nat} {ls : List ByteArray} (h : nmF ls = 0) : (pack o ls).1.length ≤ o.1.length + 300 ∧ (pack o ls).2.length ≤ o.2.length + 127 := by
  obtain ⟨h1, h2⟩ := nmF_ok h
  have h3 := lsz_len ls h1
  have h4 := packG_len o.1 o.2 ls o
  have h5 := packG_st o.1 o.2 ls o
  unfold pack
  omega

theorem wrQ_bd {o o' : List UInt8 × List Nat} {q : Qc} (h : wrQ o q = .ok o') : o'.1.length ≤ o.1.length + 70000 ∧ o'.2.length ≤ o.2.length + 127 := by
  unfold wrQ at h
  split at h
  · cases h
  rename_i hz
  split at h
  · cases h
  cases h
  have := pack_bd (o := o) (Decidable.not_not.1 hz)
  simp only [List.length_append, two_len]
  omega

theorem wrR_bd {o o' : List UInt8 × List Nat} {r : Rc} (h : wrR o r = .ok o') : o'.1.length ≤ o.1.length + 70000 ∧ o'.2.length ≤ o.2.length + 127 := by
  unfold wrR at h
  split at h
  · cases h
  rename_i hz
  split at h
  · cases h
  split at h
  · cases h
  cases h
  have := pack_bd (o := o) (Decidable.not_not.1 hz)
  simp only [List.length_append, two_len]
  omega

theorem wrK_bd {α : Type} {C : Nat} {wr : List UInt8 × List Nat → α → Except Int (List UInt8 × List Nat)} (hb : ∀ o o' x, wr o x = .ok o' → o'.1.length ≤ o.1.length + C ∧ o'.2.length ≤ o.2.length + 127) {l : List α} {o o' : List UInt8 × List Nat} {k : Nat} (h : wrK wr l o k = .ok o') :
    o'.1.length ≤ o.1.length + C * k ∧ o'.2.length ≤ o.2.length + 127 * k := by
  induction k generalizing o' with
  | zero => simp only [wrK, Except.ok.injEq] at h; subst h; exact ⟨Nat.le_add_right _ _, Nat.le_add_right _ _⟩
  | succ k ih =>
    simp only [wrK] at h
    match hy : wrK wr l o k, h with
    | .ok y, h =>
      simp only [] at h
      have h1 := ih hy
      rw [Nat.mul_succ]
      match hx : l[k]?, h with
      | some x, h =>
        simp only [] at h
        have h2 := hb _ _ _ h
        omega
      | none, h =>
        simp only [Except.ok.injEq] at h
        subst h
        omega

theorem wrS_bd {m : Mc} {D E : Nat} (hD : ∀ k, k < 3 → 70000 * (secL m k).length ≤ D ∧ 127 * (secL m k).length ≤ E) {o o' : List UInt8 × List Nat} {k : Nat} (hk : k ≤ 3) (h : wrS m o k = .ok o') : o'.1.length ≤ o.1.length + D * k ∧ o'.2.length ≤ o.2.length + E * k := by
  induction k generalizing o' with
  | zero => simp only [wrS, Except.ok.injEq] at h; subst h; exact ⟨Nat.le_add_right _ _, Nat.le_add_right _ _⟩
  | succ k ih =>
    simp only [wrS] at h
    match hy : wrS m o k, h with
    | .ok y, h =>
      simp only [] at h
      have h1 := ih (by omega) hy
      have h2 := wrK_bd (fun _ _ _ h => wrR_bd h) h
      have h3 := hD k (by omega)
      rw [Nat.mul_succ, Nat.mul_succ]
      omega

theorem wrK_step {α : Type} {wr : List UInt8 × List Nat → α → Except Int (List UInt8 × List Nat)} {l : List α} {o o' : List UInt8 × List Nat} {k : Nat} (h : wrK wr l o k = .ok o') {x : α} (hx : l[k]? = some x) : wrK wr l o (k + 1) = wr o' x := by
  simp only [wrK]
  rw [h, hx]

theorem wrS_step {m : Mc} {o o' : List UInt8 × List Nat} {k : Nat} (h : wrS m o k = .ok o') : wrS m o (k + 1) = wrK wrR (secL m k) o' (secL m k).length := by
  simp only [wrS]
  rw [h]

/-! ## a message's sections by their places -/

def msN (m : Ms) : Nat → Nat
  | 0 => m.an
  | 1 => m.un
  | _ => m.mn

def msR (m : Ms) : Nat → Nat → Rs
  | 0 => m.A
  | 1 => m.U
  | _ => m.M

def msV3 (va vu vm : Value) : Nat → Value
  | 0 => va
  | 1 => vu
  | _ => vm

theorem secL_lst (m : Ms) (k : Nat) : secL m.lst k = (List.range (msN m k)).map (fun i => (msR m k i).lst) := by
  match k with
  | 0 => rfl
  | 1 => rfl
  | k + 2 => rfl

theorem secL_len (m : Ms) (k : Nat) : (secL m.lst k).length = msN m k := by rw [secL_lst]; simp

theorem secL_get (m : Ms) (k i : Nat) (hi : i < msN m k) : (secL m.lst k)[i]? = some (msR m k i).lst := by rw [secL_lst, List.getElem?_map, List.getElem?_range hi]; rfl

theorem qs_get (m : Ms) (i : Nat) (hi : i < m.qn) : m.lst.qs[i]? = some (m.Q i).lst := by
  show ((List.range m.qn).map (fun i => (m.Q i).lst))[i]? = _
  rw [List.getElem?_map, List.getElem?_range hi]
  rfl

theorem MsOk.sec {B : HB} {w : World} {m : Ms} {vq va vu vm : Value} (h : MsOk B w m vq va vu vm) (k : Nat) : ∃ F, Sec B w (msV3 va vu vm k) (msN m k) (msR m k) F := by
  match k with
  | 0 => exact h.ha
  | 1 => exact h.hu
  | k + 2 => exact h.hm

theorem nm_rd {w : World} {a : Option Addr} {c : Nat} {q : Nat} {nm : Nat → ByteArray} (h : RdF w (.slice a q c) q (fun j => .string (nm j))) : RdF w (.slice a ((List.range q).map nm).length c) ((List.range q).map nm).length (strV ((List.range q).map nm)) := by
  have e : ((List.range q).map nm).length = q := by simp
  rw [e]
  exact h.congr fun j hj => by
    unfold strV
    rw [getD_map (β := Nat) q nm _ j hj]

theorem dt_rd {w : World} {a : Option Addr} {c : Nat} {q : Nat} {dt : Nat → Int} (hb : ∀ j, j < q → 0 ≤ dt j ∧ dt j ≤ 255) (h : RdF w (.slice a q c) q (fun j => .int .u8 (dt j))) : RdF w (.slice a ((List.range q).map (fun j => byt (dt j).toNat)).length c) ((List.range q).map (fun j => byt (dt j).toNat)).length (bytV ((List.range q).map (fun j => byt (dt j).toNat))) := by
  have e : ((List.range q).map (fun j => byt (dt j).toNat)).length = q := by simp
  rw [e]
  exact h.congr fun j hj => by
    obtain ⟨h0, h1⟩ := hb j hj
    unfold bytV u8V
    rw [getD_map (β := Nat) q _ _ j hj, byt_nat (by omega)]
    congr 1
    omega

theorem nm_sz {q : Nat} {nm : Nat → ByteArray} (h : ∀ j, j < q → (nm j).size ≤ 140737488355328) : ∀ j, j < ((List.range q).map nm).length → (((List.range q).map nm).getD j .empty).size ≤ 140737488355328 := fun j hj => by
  have hj : j < q := by simpa using hj
  rw [getD_map (β := Nat) q nm _ j hj]
  exact h j hj

/-! ## the first twelve bytes -/

def cntL (m : Mc) : Nat → Int
  | 0 => m.qs.length
  | 1 => m.an.length
  | 2 => m.un.length
  | _ => m.mn.length

def twoK (c : Nat → Int) : Nat → List UInt8
  | 0 => []
  | k + 1 => twoK c k ++ two (c k)

theorem twoK_len (c : Nat → Int) (k : Nat) : (twoK c k).length = 2 * k := by
  induction k with
  | zero => rfl
  | succ k ih => simp only [twoK, List.length_append, ih, two_len]; omega

theorem wrTop_K (m : Mc) : hdL m.h ++ twoK (cntL m) 4 = wrTop m := by
  simp only [twoK, wrTop, cntL, List.nil_append, List.append_assoc]

theorem ix_c4 (c : Nat → Int) (k : Nat) (hk : k < 4) : ∀ u : World, (Instr.index 51 (.agg #[.int .i64 (c 0), .int .i64 (c 1), .int .i64 (c 2), .int .i64 (c 3)]) (.int .i64 k)).run Try.prog u = .ok (.int .i64 (c k)) u :=
  match k, hk with
  | 0, _ => fun u => by kernel_rfl
  | 1, _ => fun u => by kernel_rfl
  | 2, _ => fun u => by kernel_rfl
  | 3, _ => fun u => by kernel_rfl

/-! ## the writer -/

theorem WAt.fr0 {w w' : World} {p B : Nat} {o : List UInt8 × List Nat} (h : WAt w p B o) (hf : Fr [] w w') : WAt w' p B o := by
  obtain ⟨oa, oc, sa, sc, h1, h2, h3⟩ := h
  exact ⟨oa, oc, sa, sc, hf.blk h1 (by simp), OwnF.kept h2 hf (fun _ _ => by simp), OwnF.kept h3 hf (fun _ _ => by simp)⟩

theorem WAt.mono {w : World} {p B B' : Nat} {o : List UInt8 × List Nat} (h : WAt w p B o) (hb : B' ≤ B) : WAt w p B' o := by
  obtain ⟨oa, oc, sa, sc, h1, h2, h3⟩ := h
  exact ⟨oa, oc, sa, sc, h1, OwnF.mono h2 hb, OwnF.mono h3 hb⟩

/-- what msg.Write leaves -/
def WrMGood (w : World) (r : Except Int (List UInt8)) (e : Ending) (w' : World) : Prop :=
  ((∃ z, r = .error z ∧ z ≠ 0 ∧ e = .returned (.tuple #[.slice none 0 0, .iface 52 (.int .i64 z)])) ∨
    ∃ L a c, r = .ok L ∧ e = .returned (.tuple #[.slice a L.length c, .nilIface]) ∧ OwnB w' w.heap.size (.slice a L.length c) L) ∧ Fr [] w w'

end Go.Proofs.Ytkdmkpdooiacaaa
