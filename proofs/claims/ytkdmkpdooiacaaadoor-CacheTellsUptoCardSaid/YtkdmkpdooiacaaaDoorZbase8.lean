/- What the texts below need: RGet, TellsLaw. -/
import Derived.Test.YtkdmkpdooiacaaaDoorZRPut
import Derived.Test.YtkdmkpdooiacaaaDoorZToldTo
import Derived.Test.YtkdmkpdooiacaaaDoorZbase1
import Derived.Test.YtkdmkpdooiacaaaDoorZbase7
import Derived.Test.YtkdmkpdooiacaaaDoorZbase5
import Derived.Test.YtkdmkpdooiacaaaDoorZSMsg
namespace Go.Proofs.YtkdmkpdooiacaaaDoor
open Go.RowKit

/-- does an entry answer? -/
def rOk (k : List UInt8) (now : Int) (e : En) : Bool := kEq e.key k && (decide (e.at_ ≤ now) && decide (now - e.at_ < e.life))

/-- the first one that does -/
def gIx (k : List UInt8) (now : Int) : List (En × RV) → Nat
  | [] => 0
  | x :: r => if rOk k now x.1 = true then 0 else gIx k now r + 1

theorem gIx_hit {k : List UInt8} {now : Int} {l : List (En × RV)} {i : Nat} (hi : i < l.length) (hn : ∀ j (hj : j < i), rOk k now (l[j]'(by omega)).1 = false) (h : rOk k now l[i].1 = true) : gIx k now l = i := by
  induction l generalizing i with
  | nil => simp at hi
  | cons e r ih =>
    simp only [gIx]
    rcases i with _ | i
    · rw [if_pos (by simpa using h)]
    · have h0 := hn 0 (by omega)
      simp only [List.getElem_cons_zero] at h0
      rw [if_neg (by rw [h0]; decide)]
      rw [ih (i := i) (by simpa using hi) (fun j hj => by have := hn (j + 1) (by omega); simpa using this) (by simpa using h)]

theorem gIx_miss {k : List UInt8} {now : Int} {l : List (En × RV)} (hn : ∀ j (hj : j < l.length), rOk k now l[j].1 = false) : gIx k now l = l.length := by
  induction l with
  | nil => rfl
  | cons e r ih =>
    simp only [gIx, List.length_cons]
    have h0 := hn 0 (by simp)
    simp only [List.getElem_cons_zero] at h0
    rw [if_neg (by rw [h0]; decide), ih (fun j hj => by have := hn (j + 1) (by simpa using hj); simpa using this)]

/-- what Get leaves -/
def RGetGood (w : World) (B : HB) (v : Value) (n : Nat) (l : List (En × RV)) (q : Ms) (vq : Value) (now : Int) (e : Ending) (w' : World) : Prop :=
  ((keyFault q (optZ q) ≠ 0 ∧ e = .returned (.tuple #[.agg #[v, .int .i64 n], zMsg, .bool false, .int .i64 (keyFault q (optZ q))])) ∨
    (keyFault q (optZ q) = 0 ∧ gIx (keyL (q.Q 0) q.h.rd (optDo q)) now l = l.length ∧ e = .returned (.tuple #[.agg #[v, .int .i64 n], zMsg, .bool false, .int .i64 0])) ∨
    (keyFault q (optZ q) = 0 ∧ ∃ (h : gIx (keyL (q.Q 0) q.h.rd (optDo q)) now l < l.length) (v' va vu vm : Value),
      e = .returned (.tuple #[.agg #[v', .int .i64 n], msgV (tolM q (l[gIx (keyL (q.Q 0) q.h.rd (optDo q)) now l]).1.m (now - (l[gIx (keyL (q.Q 0) q.h.rd (optDo q)) now l]).1.at_)).h vq va vu vm, .bool true, .int .i64 0]) ∧
      MsOk B w' (tolM q (l[gIx (keyL (q.Q 0) q.h.rd (optDo q)) now l]).1.m (now - (l[gIx (keyL (q.Q 0) q.h.rd (optDo q)) now l]).1.at_)) vq va vu vm ∧
      RCa B w' v' (withGo n (l[gIx (keyL (q.Q 0) q.h.rd (optDo q)) now l]).1.key [l[gIx (keyL (q.Q 0) q.h.rd (optDo q)) now l]] l))) ∧ Fr [] w w'

end Go.Proofs.YtkdmkpdooiacaaaDoor

namespace Go.Proofs.YtkdmkpdooiacaaaDoor
open Go.RowKit

/-- an entry of the program's, told to some query, for one of the reference's -/
def ER (e x : En) : Prop := e.key = x.key ∧ e.at_ = x.at_ ∧ e.life = x.life ∧ ∃ q0, e.m = tolM q0 x.m 0

def LR : List En → List (En × RV) → Prop
  | [], [] => True
  | e :: l, x :: r => ER e x.1 ∧ LR l r
  | _, _ => False

/-- no two of one key -/
def DK (r : List (En × RV)) : Prop := r.Pairwise (fun a b => kEq a.1.key b.1.key = false)

theorem LR.len : ∀ {l : List En} {r : List (En × RV)}, LR l r → l.length = r.length
  | [], [], _ => rfl
  | e :: l, x :: r, h => by simp [LR.len h.2]
  | [], _ :: _, h => h.elim
  | _ :: _, [], h => h.elim

theorem LR.take : ∀ {l : List En} {r : List (En × RV)} (n : Nat), LR l r → LR (l.take n) (r.take n)
  | [], [], n, h => by simpa using h
  | e :: l, x :: r, 0, h => trivial
  | e :: l, x :: r, n + 1, h => ⟨h.1, LR.take n h.2⟩
  | [], _ :: _, _, h => h.elim
  | _ :: _, [], _, h => h.elim

theorem LR.filter (k : List UInt8) : ∀ {l : List En} {r : List (En × RV)}, LR l r → LR (l.filter (fun e => !kEq e.key k)) (r.filter (fun x => !kEq x.1.key k))
  | [], [], h => h
  | e :: l, x :: r, h => by
    have e1 : kEq e.key k = kEq x.1.key k := by rw [h.1.1]
    rw [List.filter_cons, List.filter_cons, e1]
    split
    · exact ⟨h.1, LR.filter k h.2⟩
    · exact LR.filter k h.2
  | [], _ :: _, h => h.elim
  | _ :: _, [], h => h.elim

theorem kEq_symm {a b : List UInt8} (h : kEq a b = false) : kEq b a = false := by
  cases hb : kEq b a with
  | false => rfl
  | true =>
    have := (kEq_iff b a).1 hb
    rw [(kEq_iff a b).2 this.symm] at h
    cases h

/-- with no two alike the first of a key is the only one -/
theorem cut_filter (k : List UInt8) : ∀ {l : List En} {r : List (En × RV)}, LR l r → DK r → (if fIx k l < l.length then l.eraseIdx (fIx k l) else l) = l.filter (fun e => !kEq e.key k)
  | [], [], _, _ => rfl
  | e :: l, x :: r, h, hd => by
    obtain ⟨h1, h2⟩ := List.pairwise_cons.1 hd
    by_cases he : kEq e.key k = true
    · have hf0 : fIx k (e :: l) = 0 := by simp only [fIx]; rw [if_pos he]
      rw [hf0, if_pos (by simp), List.filter_cons, if_neg (by rw [he]; decide)]
      show l = _
      have hk : e.key = k := (kEq_iff _ _).1 he
      symm
      rw [List.filter_eq_self]
      intro y hy
      have hall : ∀ {l : List En} {r : List (En × RV)}, LR l r → (∀ z ∈ r, kEq x.1.key z.1.key = false) → ∀ y ∈ l, kEq x.1.key y.key = false := by
        intro l
        induction l with
        | nil => intro r _ _ y hy; cases hy
        | cons a l ih =>
          intro r hr hz y hy
          match r, hr, hz with
          | b :: r, hr, hz =>
            rcases List.mem_cons.1 hy with rfl | hy
            · rw [hr.1.1]; exact hz b List.mem_cons_self
            · exact ih hr.2 (fun z hz' => hz z (List.mem_cons_of_mem _ hz')) y hy
      have h3 := hall h.2 h1 y hy
      rw [← h.1.1, hk] at h3
      rw [kEq_symm h3]
      rfl
    · have he' : kEq e.key k = false := by simpa using he
      have hf0 : fIx k (e :: l) = fIx k l + 1 := by simp only [fIx]; rw [if_neg he]
      have hfil : (e :: l).filter (fun e => !kEq e.key k) = e :: l.filter (fun e => !kEq e.key k) := by rw [List.filter_cons, if_pos (by rw [he']; rfl)]
      rw [hf0, hfil, ← cut_filter k h.2 h2]
      by_cases hl : fIx k l < l.length
      · rw [if_pos (by simpa using hl), if_pos hl]
        rfl
      · rw [if_neg (by simpa using hl), if_neg hl]
  | [], _ :: _, h, _ => h.elim
  | _ :: _, [], h, _ => h.elim

theorem withGo_eq (n : Nat) (k : List UInt8) : ∀ (r out : List (En × RV)), out.length ≤ n → withGo n k out r = (out ++ r.filter (fun x => !kEq x.1.key k)).take n
  | [], out, h => by rw [List.filter_nil, List.append_nil, List.take_of_length_le h]; rfl
  | x :: r, out, h => by
    simp only [withGo]
    rw [List.filter_cons]
    by_cases hk : kEq x.1.key k = false
    · by_cases hn : out.length < n
      · rw [if_pos ⟨hk, hn⟩, withGo_eq n k r _ (by simp; omega), if_pos (by rw [hk]; rfl)]
        simp
      · have hn' : out.length = n := by omega
        rw [if_neg (fun h => hn h.2), withGo_eq n k r _ h]
        rw [List.take_append_of_le_length (by omega), List.take_append_of_le_length (by omega)]
    · rw [if_neg (fun h => hk h.1), withGo_eq n k r _ h, if_neg (by
        have : kEq x.1.key k = true := by simpa using hk
        rw [this]
        decide)]

/-- an entry laid first, in both -/
theorem put_rel {l : List En} {r : List (En × RV)} (h : LR l r) (hd : DK r) {e : En} {x : En × RV} (he : ER e x.1) {n : Nat} (hn : 1 ≤ n) : LR (frL e n l) (withGo n x.1.key [x] r) ∧ DK (withGo n x.1.key [x] r) := by
  have hk := he.1
  constructor
  · unfold frL
    rw [hk, cut_filter x.1.key h hd, withGo_eq n _ r [x] (by simpa using hn)]
    have h1 : LR (e :: l.filter (fun e => !kEq e.key x.1.key)) ([x] ++ r.filter (fun y => !kEq y.1.key x.1.key)) := ⟨he, h.filter _⟩
    have := h1.take n
    simpa using this
  · rw [withGo_eq n _ r [x] (by simpa using hn)]
    refine List.Pairwise.sublist (List.take_sublist _ _) ?_
    refine List.pairwise_cons.2 ⟨fun y hy => ?_, hd.sublist (List.filter_sublist)⟩
    have h2 := (List.mem_filter.1 hy).2
    have h3 : kEq y.1.key x.1.key = false := by simpa using h2
    exact kEq_symm h3

theorem fresh_ok {e x : En} (h : ER e x) (k : List UInt8) (now : Int) (hk : kEq x.key k = true) : rOk k now x = fresh now e := by
  unfold rOk fresh
  rw [hk, h.2.1, h.2.2.1, Bool.true_and, Bool.eq_iff_iff]
  simp

/-- what is found -/
theorem get_rel (k : List UInt8) (now : Int) : ∀ {l : List En} {r : List (En × RV)}, LR l r → DK r →
    (∀ (h : fIx k l < l.length), fresh now (l[fIx k l]) = true → gIx k now r = fIx k l) ∧ ((∀ (h : fIx k l < l.length), fresh now (l[fIx k l]) = false) → gIx k now r = r.length)
  | [], [], _, _ => ⟨fun h => absurd h (Nat.not_lt_zero _), fun _ => rfl⟩
  | e :: l, x :: r, h, hd => by
    obtain ⟨h1, h2⟩ := List.pairwise_cons.1 hd
    obtain ⟨i1, i2⟩ := get_rel k now h.2 h2
    by_cases he : kEq e.key k = true
    · have hx : kEq x.1.key k = true := by rw [← h.1.1]; exact he
      have hf0 : fIx k (e :: l) = 0 := by simp only [fIx]; rw [if_pos he]
      have hfr := fresh_ok h.1 k now hx
      have hlen := h.2.len
      constructor
      · intro hl hf
        rw [get_congr hf0 hl (by simp)] at hf
        simp only [List.getElem_cons_zero] at hf
        simp only [gIx]
        rw [if_pos (by rw [hfr]; exact hf), hf0]
      · intro hall
        have hf := hall (by rw [hf0]; simp)
        rw [get_congr hf0 (by rw [hf0]; simp) (by simp)] at hf
        simp only [List.getElem_cons_zero] at hf
        simp only [gIx]
        rw [if_neg (by rw [hfr, hf]; decide)]
        -- no other has the key
        have hno : gIx k now r = r.length := gIx_miss (fun j hj => by
          have hkx : x.1.key = k := (kEq_iff _ _).1 hx
          have h3 := h1 r[j] (List.getElem_mem hj)
          unfold rOk
          rw [← hkx, kEq_symm h3]
          rfl)
        rw [hno]
        rfl
    · have he' : kEq e.key k = false := by simpa using he
      have hx : kEq x.1.key k = false := by rw [← h.1.1]; exact he'
      have hf0 : fIx k (e :: l) = fIx k l + 1 := by simp only [fIx]; rw [if_neg he]
      have hg : gIx k now (x :: r) = gIx k now r + 1 := by
        simp only [gIx]
        rw [if_neg (by unfold rOk; rw [hx]; simp)]
      have hlen := h.2.len
      constructor
      · intro hl hf
        rw [hg, hf0]
        have hl' : fIx k l < l.length := by rw [hf0] at hl; simpa using hl
        rw [get_congr hf0 hl (by simpa using hl')] at hf
        simp only [List.getElem_cons_succ] at hf
        rw [i1 hl' hf]
      · intro hall
        rw [hg, i2 (fun hl' => by
          have := hall (by rw [hf0]; simpa using hl')
          rw [get_congr hf0 (by rw [hf0]; simpa using hl') (by simpa using hl')] at this
          simpa using this)]
        rfl
  | [], _ :: _, h, _ => h.elim
  | _ :: _, [], h, _ => h.elim

theorem LR.get : ∀ {l : List En} {r : List (En × RV)} (_ : LR l r) (i : Nat) (h1 : i < l.length) (h2 : i < r.length), ER l[i] r[i].1
  | e :: l, x :: r, h, 0, _, _ => h.1
  | e :: l, x :: r, h, i + 1, h1, h2 => LR.get h.2 i (by simpa using h1) (by simpa using h2)
  | [], [], _, i, h1, _ => absurd h1 (Nat.not_lt_zero _)
  | [], _ :: _, h, _, _, _ => h.elim
  | _ :: _, [], h, _, _, _ => h.elim

/-! ## what is told is the same -/

theorem agR_zero (r : Rs) (h : r.Wf) (more : Bool) : agR 0 more r = r := by
  unfold agR
  split
  · rfl
  · have : wrap64 (r.tt - 0) = r.tt := by have := h.tt0; unfold wrap64; omega
    rw [this]

theorem tol_same (q q0 m : Ms) (age : Int) (hA : ∀ i, i < m.an → (m.A i).Wf) (hU : ∀ i, i < m.un → (m.U i).Wf) (hM : ∀ i, i < m.mn → (m.M i).Wf) : msEq (tolM q (tolM q0 m 0) age) (tolM q m age) := by
  refine ⟨rfl, ⟨rfl, fun i hi => ⟨?_, rfl, rfl⟩⟩, ⟨rfl, fun i hi => ?_⟩, ⟨rfl, fun i hi => ?_⟩, ⟨rfl, fun i hi => ?_⟩⟩
  · rw [txEq_iff]
    exact ⟨rfl, fun _ _ => rfl⟩
  · show rsEq (agR age false (agR 0 false (m.A i))) (agR age false (m.A i)) = true
    rw [agR_zero _ (hA i hi)]
    exact rsEq_refl _
  · show rsEq (agR age false (agR 0 false (m.U i))) (agR age false (m.U i)) = true
    rw [agR_zero _ (hU i hi)]
    exact rsEq_refl _
  · show rsEq (agR age true (agR 0 true (m.M i))) (agR age true (m.M i)) = true
    rw [agR_zero _ (hM i hi)]
    exact rsEq_refl _

end Go.Proofs.YtkdmkpdooiacaaaDoor
