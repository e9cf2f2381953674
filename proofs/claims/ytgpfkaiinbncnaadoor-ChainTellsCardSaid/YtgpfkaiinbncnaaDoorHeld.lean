/- The reference's Held (printed by wip/bin/held.py). -/
import Derived.Test.YtgpfkaiinbncnaaDoorRefRule
import Derived.Test.YtgpfkaiinbncnaaDoorRefBelow
import Derived.Test.YtgpfkaiinbncnaaDoorRefBits
namespace Go.Proofs.YtgpfkaiinbncnaaDoor
open Go.RowKit

def htPost (w : World) (b : Bool) : Ending → World → Prop := fun e w' => e = .returned (.bool b) ∧ Fr [] w w'

theorem nsz_ge (s : Nat → ByteArray) (k : Nat) (h : lbad s k = false) : min (1 + 2 * (k : Int)) 1073741824 ≤ nsz s k := by
  induction k with
  | zero => simp only [nsz]; omega
  | succ k ih =>
    simp only [lbad, Bool.or_eq_false_iff, decide_eq_false_iff_not] at h
    have := ih h.1
    have := h.2
    simp only [nsz]
    omega

theorem nm_short {s : Nat → ByteArray} {n : Nat} (h : nmFault n s = 0) : n ≤ 127 := by
  unfold nmFault at h
  by_cases hb : lbad s n = true
  · rw [if_pos hb] at h; exact absurd h (by decide)
  · rw [if_neg hb] at h
    have hb' : lbad s n = false := by simpa using hb
    have := nsz_ge s n hb'
    by_cases h2 : 255 < nsz s n
    · rw [if_pos h2] at h; exact absurd h (by decide)
    · omega

abbrev hW (w : World) (q : Qt) (m : Mt) : World := (w.alloc (.cells #[.slice q.na q.nl q.nc, .int .i64 q.ty, .int .i64 q.cl, .int .i64 q.opc, .bool q.rd, .slice q.fa q.fl q.fc] 72)).alloc (.cells #[.int .i64 m.op, .int .i64 m.k, .slice m.na m.nl m.nc, .slice m.aa m.al m.ac] 105)

theorem hW_all {w w4 : World} {q : Qt} {m : Mt} (h4 : Fr [] (hW w q m) w4) : ((w4.cell? ⟨w.heap.size, 0, none⟩ = some (.slice q.na q.nl q.nc)) ∧ (w4.cell? ⟨w.heap.size, 1, none⟩ = some (.int .i64 q.ty)) ∧ (w4.cell? ⟨w.heap.size, 2, none⟩ = some (.int .i64 q.cl)) ∧ (w4.cell? ⟨w.heap.size, 3, none⟩ = some (.int .i64 q.opc)) ∧ (w4.cell? ⟨w.heap.size, 4, none⟩ = some (.bool q.rd)) ∧ (w4.cell? ⟨w.heap.size, 5, none⟩ = some (.slice q.fa q.fl q.fc))) ∧ ((w4.cell? ⟨w.heap.size + 1, 0, none⟩ = some (.int .i64 m.op)) ∧ (w4.cell? ⟨w.heap.size + 1, 1, none⟩ = some (.int .i64 m.k)) ∧ (w4.cell? ⟨w.heap.size + 1, 2, none⟩ = some (.slice m.na m.nl m.nc)) ∧ (w4.cell? ⟨w.heap.size + 1, 3, none⟩ = some (.slice m.aa m.al m.ac))) := by
  have hA : (hW w q m).heap[w.heap.size]? = some (.cells #[.slice q.na q.nl q.nc, .int .i64 q.ty, .int .i64 q.cl, .int .i64 q.opc, .bool q.rd, .slice q.fa q.fl q.fc] 72 (0, 0)) := by rw [heap_alloc_old _ _ (by simp)]; exact heap_alloc_new w _
  have hB : (hW w q m).heap[w.heap.size + 1]? = some (.cells #[.int .i64 m.op, .int .i64 m.k, .slice m.na m.nl m.nc, .slice m.aa m.al m.ac] 105 (0, 0)) := by
    have := heap_alloc_new (w.alloc (.cells #[.slice q.na q.nl q.nc, .int .i64 q.ty, .int .i64 q.cl, .int .i64 q.opc, .bool q.rd, .slice q.fa q.fl q.fc] 72)) (.cells #[.int .i64 m.op, .int .i64 m.k, .slice m.na m.nl m.nc, .slice m.aa m.al m.ac] 105)
    simpa using this
  have h1 := h4.blk hA (by simp)
  have h2 := h4.blk hB (by simp)
  exact ⟨⟨blk_cell h1 0 rfl, blk_cell h1 1 rfl, blk_cell h1 2 rfl, blk_cell h1 3 rfl, blk_cell h1 4 rfl, blk_cell h1 5 rfl⟩, ⟨blk_cell h2 0 rfl, blk_cell h2 1 rfl, blk_cell h2 2 rfl, blk_cell h2 3 rfl⟩⟩
theorem hW_f {w w4 : World} {q : Qt} {m : Mt} (h4 : Fr [] (hW w q m) w4) : Fr [] w w4 := (((Fr.refl [] w).alloc _).alloc _).trans h4 (by simp)
theorem hW_s {w w4 : World} {q : Qt} {m : Mt} (h4 : Fr [] (hW w q m) w4) : w.heap.size + 1 < w4.heap.size := by have := h4.size; simp [hW] at this; omega

set_option maxHeartbeats 8000000 in
set_option maxRecDepth 100000 in
theorem held1 (w : World) (q : Qt) (hq : q.Ok w) (a : Option Addr) (n c p : Nat) (m : Mt) (hm : m.Ok w) (bb oo : Nat) (ha : a = some ⟨bb, oo, none⟩) (hbb : bb < w.heap.size) (hp : p < n) (hn : n ≤ 200)
    (c0 : w.cell? ⟨bb, oo + p * 4, none⟩ = some (.int .i64 m.op)) (c1 : w.cell? ⟨bb, oo + p * 4 + 1, none⟩ = some (.int .i64 m.k)) (c2 : w.cell? ⟨bb, oo + p * 4 + 2, none⟩ = some (.slice m.na m.nl m.nc)) (c3 : w.cell? ⟨bb, oo + p * 4 + 3, none⟩ = some (.slice m.aa m.al m.ac))
    (hop : m.op = 1) :
    Calls Tryd.prog 60 #[.slice a n c, .int .i64 p, .agg #[.slice q.na q.nl q.nc, .int .i64 q.ty, .int .i64 q.cl, .int .i64 q.opc, .bool q.rd, .slice q.fa q.fl q.fc]] w (htPost w (leafH m q)) := by
  subst ha
  have HQ := Lib.hid hq; clear hq
  have HM := Lib.hid hm; clear hm
  have p0 : (0 : Int) ≤ (p : Int) := by omega
  have p1 : (p : Int) < (n : Int) := by omega
  have HL := Lib.hid (show leafH m q = true by unfold leafH; rw [hop]; rfl)
  rw [hop] at c0
  clear hop
  rw [HL.out]
  unfold htPost
  go_enter Tryd.func60, Tryd.ntmps60
  go_wp2
  go_ret
  exact ⟨by first | rfl | (congr 2), ((Fr.refl [] w).alloc _).alloc _⟩

set_option maxHeartbeats 8000000 in
set_option maxRecDepth 100000 in
theorem held3 (w : World) (q : Qt) (hq : q.Ok w) (a : Option Addr) (n c p : Nat) (m : Mt) (hm : m.Ok w) (bb oo : Nat) (ha : a = some ⟨bb, oo, none⟩) (hbb : bb < w.heap.size) (hp : p < n) (hn : n ≤ 200)
    (c0 : w.cell? ⟨bb, oo + p * 4, none⟩ = some (.int .i64 m.op)) (c1 : w.cell? ⟨bb, oo + p * 4 + 1, none⟩ = some (.int .i64 m.k)) (c2 : w.cell? ⟨bb, oo + p * 4 + 2, none⟩ = some (.slice m.na m.nl m.nc)) (c3 : w.cell? ⟨bb, oo + p * 4 + 3, none⟩ = some (.slice m.aa m.al m.ac))
    (hop : m.op = 3) :
    Calls Tryd.prog 60 #[.slice a n c, .int .i64 p, .agg #[.slice q.na q.nl q.nc, .int .i64 q.ty, .int .i64 q.cl, .int .i64 q.opc, .bool q.rd, .slice q.fa q.fl q.fc]] w (htPost w (leafH m q)) := by
  subst ha
  have HQ := Lib.hid hq; clear hq
  have HM := Lib.hid hm; clear hm
  have p0 : (0 : Int) ≤ (p : Int) := by omega
  have p1 : (p : Int) < (n : Int) := by omega
  have HL := Lib.hid (show leafH m q = decide (q.ty = m.k) by unfold leafH; rw [hop]; rfl)
  rw [hop] at c0
  clear hop
  rw [HL.out]
  unfold htPost
  go_enter Tryd.func60, Tryd.ntmps60
  go_wp2
  go_ret
  exact ⟨by first | rfl | (congr 2), ((Fr.refl [] w).alloc _).alloc _⟩

set_option maxHeartbeats 8000000 in
set_option maxRecDepth 100000 in
theorem held4 (w : World) (q : Qt) (hq : q.Ok w) (a : Option Addr) (n c p : Nat) (m : Mt) (hm : m.Ok w) (bb oo : Nat) (ha : a = some ⟨bb, oo, none⟩) (hbb : bb < w.heap.size) (hp : p < n) (hn : n ≤ 200)
    (c0 : w.cell? ⟨bb, oo + p * 4, none⟩ = some (.int .i64 m.op)) (c1 : w.cell? ⟨bb, oo + p * 4 + 1, none⟩ = some (.int .i64 m.k)) (c2 : w.cell? ⟨bb, oo + p * 4 + 2, none⟩ = some (.slice m.na m.nl m.nc)) (c3 : w.cell? ⟨bb, oo + p * 4 + 3, none⟩ = some (.slice m.aa m.al m.ac))
    (hop : m.op = 4) :
    Calls Tryd.prog 60 #[.slice a n c, .int .i64 p, .agg #[.slice q.na q.nl q.nc, .int .i64 q.ty, .int .i64 q.cl, .int .i64 q.opc, .bool q.rd, .slice q.fa q.fl q.fc]] w (htPost w (leafH m q)) := by
  subst ha
  have HQ := Lib.hid hq; clear hq
  have HM := Lib.hid hm; clear hm
  have p0 : (0 : Int) ≤ (p : Int) := by omega
  have p1 : (p : Int) < (n : Int) := by omega
  have HL := Lib.hid (show leafH m q = decide (q.cl = m.k) by unfold leafH; rw [hop]; rfl)
  rw [hop] at c0
  clear hop
  rw [HL.out]
  unfold htPost
  go_enter Tryd.func60, Tryd.ntmps60
  go_wp2
  go_ret
  exact ⟨by first | rfl | (congr 2), ((Fr.refl [] w).alloc _).alloc _⟩

set_option maxHeartbeats 8000000 in
set_option maxRecDepth 100000 in
theorem held5 (w : World) (q : Qt) (hq : q.Ok w) (a : Option Addr) (n c p : Nat) (m : Mt) (hm : m.Ok w) (bb oo : Nat) (ha : a = some ⟨bb, oo, none⟩) (hbb : bb < w.heap.size) (hp : p < n) (hn : n ≤ 200)
    (c0 : w.cell? ⟨bb, oo + p * 4, none⟩ = some (.int .i64 m.op)) (c1 : w.cell? ⟨bb, oo + p * 4 + 1, none⟩ = some (.int .i64 m.k)) (c2 : w.cell? ⟨bb, oo + p * 4 + 2, none⟩ = some (.slice m.na m.nl m.nc)) (c3 : w.cell? ⟨bb, oo + p * 4 + 3, none⟩ = some (.slice m.aa m.al m.ac))
    (hop : m.op = 5) :
    Calls Tryd.prog 60 #[.slice a n c, .int .i64 p, .agg #[.slice q.na q.nl q.nc, .int .i64 q.ty, .int .i64 q.cl, .int .i64 q.opc, .bool q.rd, .slice q.fa q.fl q.fc]] w (htPost w (leafH m q)) := by
  subst ha
  have HQ := Lib.hid hq; clear hq
  have HM := Lib.hid hm; clear hm
  have p0 : (0 : Int) ≤ (p : Int) := by omega
  have p1 : (p : Int) < (n : Int) := by omega
  have HL := Lib.hid (show leafH m q = decide (q.opc = m.k) by unfold leafH; rw [hop]; rfl)
  rw [hop] at c0
  clear hop
  rw [HL.out]
  unfold htPost
  go_enter Tryd.func60, Tryd.ntmps60
  go_wp2
  go_ret
  exact ⟨by first | rfl | (congr 2), ((Fr.refl [] w).alloc _).alloc _⟩

set_option maxHeartbeats 8000000 in
set_option maxRecDepth 100000 in
theorem held6 (w : World) (q : Qt) (hq : q.Ok w) (a : Option Addr) (n c p : Nat) (m : Mt) (hm : m.Ok w) (bb oo : Nat) (ha : a = some ⟨bb, oo, none⟩) (hbb : bb < w.heap.size) (hp : p < n) (hn : n ≤ 200)
    (c0 : w.cell? ⟨bb, oo + p * 4, none⟩ = some (.int .i64 m.op)) (c1 : w.cell? ⟨bb, oo + p * 4 + 1, none⟩ = some (.int .i64 m.k)) (c2 : w.cell? ⟨bb, oo + p * 4 + 2, none⟩ = some (.slice m.na m.nl m.nc)) (c3 : w.cell? ⟨bb, oo + p * 4 + 3, none⟩ = some (.slice m.aa m.al m.ac))
    (hop : m.op = 6) :
    Calls Tryd.prog 60 #[.slice a n c, .int .i64 p, .agg #[.slice q.na q.nl q.nc, .int .i64 q.ty, .int .i64 q.cl, .int .i64 q.opc, .bool q.rd, .slice q.fa q.fl q.fc]] w (htPost w (leafH m q)) := by
  subst ha
  have HQ := Lib.hid hq; clear hq
  have HM := Lib.hid hm; clear hm
  have p0 : (0 : Int) ≤ (p : Int) := by omega
  have p1 : (p : Int) < (n : Int) := by omega
  have HL := Lib.hid (show leafH m q = q.rd by unfold leafH; rw [hop]; rfl)
  rw [hop] at c0
  clear hop
  rw [HL.out]
  unfold htPost
  go_enter Tryd.func60, Tryd.ntmps60
  go_wp2
  go_ret
  exact ⟨by first | rfl | (congr 2), ((Fr.refl [] w).alloc _).alloc _⟩

set_option maxHeartbeats 8000000 in
set_option maxRecDepth 100000 in
theorem held2 (w : World) (q : Qt) (hq : q.Ok w) (a : Option Addr) (n c p : Nat) (m : Mt) (hm : m.Ok w) (bb oo : Nat) (ha : a = some ⟨bb, oo, none⟩) (hbb : bb < w.heap.size) (hp : p < n) (hn : n ≤ 200)
    (c0 : w.cell? ⟨bb, oo + p * 4, none⟩ = some (.int .i64 m.op)) (c1 : w.cell? ⟨bb, oo + p * 4 + 1, none⟩ = some (.int .i64 m.k)) (c2 : w.cell? ⟨bb, oo + p * 4 + 2, none⟩ = some (.slice m.na m.nl m.nc)) (c3 : w.cell? ⟨bb, oo + p * 4 + 3, none⟩ = some (.slice m.aa m.al m.ac))
    (hop : m.op = 2) (hz : n1Fault m = 0) :
    Calls Tryd.prog 60 #[.slice a n c, .int .i64 p, .agg #[.slice q.na q.nl q.nc, .int .i64 q.ty, .int .i64 q.cl, .int .i64 q.opc, .bool q.rd, .slice q.fa q.fl q.fc]] w (htPost w (leafH m q)) := by
  subst ha
  have HQ := Lib.hid hq; clear hq
  have HM := Lib.hid hm; clear hm
  have p0 : (0 : Int) ≤ (p : Int) := by omega
  have p1 : (p : Int) < (n : Int) := by omega
  have HL := Lib.hid (show leafH m q = undr q.nl m.nl q.nm m.nm by unfold leafH; rw [hop]; rfl)
  have hsh : m.nl ≤ 127 := by
    unfold n1Fault at hz
    rw [if_neg (by omega)] at hz
    split at hz
    · exact absurd hz (by decide)
    · unfold wiFault at hz
      rw [if_pos hop] at hz
      exact nm_short hz
  have HC := Lib.hid (fun w2 (h : Fr [] w w2) => belowRef_any w2 q.na m.na q.nl m.nl q.nc m.nc q.nm m.nm (HQ.out.rdn.fr h (by simp)) (HM.out.rdn.fr h (by simp)) HQ.out.szs HM.out.szs (by omega))
  rw [hop] at c0
  clear hop hz hsh
  rw [HL.out]
  generalize undr q.nl m.nl q.nm m.nm = b at *
  unfold htPost
  go_enter Tryd.func60, Tryd.ntmps60
  go_wp2_with (go_at_call 76; refine (HC.out _ (((Fr.refl [] w).alloc _).alloc _)).mono ?_; rintro e wx ⟨rfl, hfx⟩)
  go_ret
  exact ⟨rfl, (((Fr.refl [] w).alloc _).alloc _).trans hfx (by simp)⟩

set_option maxHeartbeats 8000000 in
set_option maxRecDepth 100000 in
theorem held7 (w : World) (q : Qt) (hq : q.Ok w) (a : Option Addr) (n c p : Nat) (m : Mt) (hm : m.Ok w) (bb oo : Nat) (ha : a = some ⟨bb, oo, none⟩) (hbb : bb < w.heap.size) (hp : p < n) (hn : n ≤ 200)
    (c0 : w.cell? ⟨bb, oo + p * 4, none⟩ = some (.int .i64 m.op)) (c1 : w.cell? ⟨bb, oo + p * 4 + 1, none⟩ = some (.int .i64 m.k)) (c2 : w.cell? ⟨bb, oo + p * 4 + 2, none⟩ = some (.slice m.na m.nl m.nc)) (c3 : w.cell? ⟨bb, oo + p * 4 + 3, none⟩ = some (.slice m.aa m.al m.ac))
    (hop : m.op = 7) (hz : n1Fault m = 0) :
    Calls Tryd.prog 60 #[.slice a n c, .int .i64 p, .agg #[.slice q.na q.nl q.nc, .int .i64 q.ty, .int .i64 q.cl, .int .i64 q.opc, .bool q.rd, .slice q.fa q.fl q.fc]] w (htPost w (leafH m q)) := by
  subst ha
  have HQ := Lib.hid hq; clear hq
  have HM := Lib.hid hm; clear hm
  have p0 : (0 : Int) ≤ (p : Int) := by omega
  have p1 : (p : Int) < (n : Int) := by omega
  have HL := Lib.hid (show leafH m q = begF q.ff q.fl m.ad m.k by unfold leafH; rw [hop]; rfl)
  obtain ⟨_, _, h7⟩ : 1 ≤ m.op ∧ m.op ≤ 10 ∧ (m.op = 7 → 0 ≤ m.k ∧ m.k ≤ 8 * (m.al : Int) ∧ m.al ≤ 16) := n1_zero hz
  obtain ⟨g1, g2, g3⟩ := h7 hop
  have hfl := HQ.out.fls
  obtain ⟨K, hK⟩ : ∃ K : Nat, m.k = K := ⟨m.k.toNat, by omega⟩
  rw [hK] at c1 g2 HL
  rw [hop] at c0
  have hw8 : IntKind.i64.wrap (8 * (q.fl : Int)) = 8 * (q.fl : Int) := IntWalk.i64_in _ (by omega)
  clear hop hz h7 g1
  rw [HL.out]
  unfold htPost
  by_cases h8 : 8 * q.fl < K
  · have HV := Lib.hid (show begF q.ff q.fl m.ad (K : Int) = false by unfold begF; rw [decide_eq_false (by omega), Bool.false_and])
    rw [HV.out]
    have d0 : decide ((K : Int) ≤ 8 * (q.fl : Int)) = false := by simp; omega
    clear HL
    go_enter Tryd.func60, Tryd.ntmps60
    go_wp2
    go_ret
    exact ⟨rfl, ((Fr.refl [] w).alloc _).alloc _⟩
  · have HV := Lib.hid (show begF q.ff q.fl m.ad (K : Int) = bitsUpTo q.ff m.ad K by unfold begF; rw [decide_eq_true (by omega), Bool.true_and]; rfl)
    rw [HV.out]
    have d0 : decide ((K : Int) ≤ 8 * (q.fl : Int)) = true := by simp; omega
    have d1 : (K : Int) ≤ 8 * (q.fl : Int) := by omega
    have HC := Lib.hid (fun w2 (h : Fr [] w w2) => alikeRef_any w2 q.fa q.fl q.fc q.ff m.aa m.al m.ac m.ad K (HQ.out.rdf.fr h (by simp)) (HM.out.rda.fr h (by simp)) HQ.out.ffs HM.out.ads (by omega) (by omega) (by omega))
    clear HL HV
    generalize bitsUpTo q.ff m.ad K = b at *
    go_enter Tryd.func60, Tryd.ntmps60
    go_wp2_with (go_at_call 77; refine (HC.out _ (((Fr.refl [] w).alloc _).alloc _)).mono ?_; rintro e wx ⟨rfl, rfl⟩)
    go_ret
    exact ⟨rfl, ((Fr.refl [] w).alloc _).alloc _⟩

set_option maxHeartbeats 8000000 in
set_option maxRecDepth 100000 in
theorem held8 (w : World) (q : Qt) (hq : q.Ok w) (a : Option Addr) (n c p : Nat) (m : Mt) (hm : m.Ok w) (bb oo : Nat) (ha : a = some ⟨bb, oo, none⟩) (hbb : bb < w.heap.size) (hp : p < n) (hn : n ≤ 200)
    (c0 : w.cell? ⟨bb, oo + p * 4, none⟩ = some (.int .i64 m.op)) (c1 : w.cell? ⟨bb, oo + p * 4 + 1, none⟩ = some (.int .i64 m.k)) (c2 : w.cell? ⟨bb, oo + p * 4 + 2, none⟩ = some (.slice m.na m.nl m.nc)) (c3 : w.cell? ⟨bb, oo + p * 4 + 3, none⟩ = some (.slice m.aa m.al m.ac))
    (hop : m.op = 8) (p' : Nat) (hpp : p = p' + 1) (b0 : Bool) (HI : Hid (∀ w2, Fr [] w w2 → Calls Tryd.prog 60 #[.slice a n c, .int .i64 (p' : Nat), .agg #[.slice q.na q.nl q.nc, .int .i64 q.ty, .int .i64 q.cl, .int .i64 q.opc, .bool q.rd, .slice q.fa q.fl q.fc]] w2 (htPost w2 b0))) :
    Calls Tryd.prog 60 #[.slice a n c, .int .i64 p, .agg #[.slice q.na q.nl q.nc, .int .i64 q.ty, .int .i64 q.cl, .int .i64 q.opc, .bool q.rd, .slice q.fa q.fl q.fc]] w (htPost w (!b0)) := by
  subst ha
  have HQ := Lib.hid hq; clear hq
  have HM := Lib.hid hm; clear hm
  have p0 : (0 : Int) ≤ (p : Int) := by omega
  have p1 : (p : Int) < (n : Int) := by omega
  subst hpp
  rw [hop] at c0
  clear hop
  unfold htPost at HI ⊢
  have e1 : ((p' + 1 : Nat) : Int) - 1 = (p' : Int) := by omega
  have HBQ := Lib.hid (show ∀ w4, Fr [] ((w.alloc (.cells #[.slice q.na q.nl q.nc, .int .i64 q.ty, .int .i64 q.cl, .int .i64 q.opc, .bool q.rd, .slice q.fa q.fl q.fc] 72)).alloc (.cells #[.int .i64 8, .int .i64 m.k, .slice m.na m.nl m.nc, .slice m.aa m.al m.ac] 105)) w4 → ((w4.cell? ⟨w.heap.size, 0, none⟩ = some (.slice q.na q.nl q.nc)) ∧ (w4.cell? ⟨w.heap.size, 1, none⟩ = some (.int .i64 q.ty)) ∧ (w4.cell? ⟨w.heap.size, 2, none⟩ = some (.int .i64 q.cl)) ∧ (w4.cell? ⟨w.heap.size, 3, none⟩ = some (.int .i64 q.opc)) ∧ (w4.cell? ⟨w.heap.size, 4, none⟩ = some (.bool q.rd)) ∧ (w4.cell? ⟨w.heap.size, 5, none⟩ = some (.slice q.fa q.fl q.fc))) ∧ ((w4.cell? ⟨w.heap.size + 1, 0, none⟩ = some (.int .i64 8)) ∧ (w4.cell? ⟨w.heap.size + 1, 1, none⟩ = some (.int .i64 m.k)) ∧ (w4.cell? ⟨w.heap.size + 1, 2, none⟩ = some (.slice m.na m.nl m.nc)) ∧ (w4.cell? ⟨w.heap.size + 1, 3, none⟩ = some (.slice m.aa m.al m.ac))) from fun w4 h4 => by
    have hA : ((w.alloc (.cells #[.slice q.na q.nl q.nc, .int .i64 q.ty, .int .i64 q.cl, .int .i64 q.opc, .bool q.rd, .slice q.fa q.fl q.fc] 72)).alloc (.cells #[.int .i64 8, .int .i64 m.k, .slice m.na m.nl m.nc, .slice m.aa m.al m.ac] 105)).heap[w.heap.size]? = some (.cells #[.slice q.na q.nl q.nc, .int .i64 q.ty, .int .i64 q.cl, .int .i64 q.opc, .bool q.rd, .slice q.fa q.fl q.fc] 72 (0, 0)) := by rw [heap_alloc_old _ _ (by simp)]; exact heap_alloc_new w _
    have hB : ((w.alloc (.cells #[.slice q.na q.nl q.nc, .int .i64 q.ty, .int .i64 q.cl, .int .i64 q.opc, .bool q.rd, .slice q.fa q.fl q.fc] 72)).alloc (.cells #[.int .i64 8, .int .i64 m.k, .slice m.na m.nl m.nc, .slice m.aa m.al m.ac] 105)).heap[w.heap.size + 1]? = some (.cells #[.int .i64 8, .int .i64 m.k, .slice m.na m.nl m.nc, .slice m.aa m.al m.ac] 105 (0, 0)) := by
      have := heap_alloc_new (w.alloc (.cells #[.slice q.na q.nl q.nc, .int .i64 q.ty, .int .i64 q.cl, .int .i64 q.opc, .bool q.rd, .slice q.fa q.fl q.fc] 72)) (.cells #[.int .i64 8, .int .i64 m.k, .slice m.na m.nl m.nc, .slice m.aa m.al m.ac] 105)
      simpa using this
    have h1 := h4.blk hA (by simp)
    have h2 := h4.blk hB (by simp)
    exact ⟨⟨blk_cell h1 0 rfl, blk_cell h1 1 rfl, blk_cell h1 2 rfl, blk_cell h1 3 rfl, blk_cell h1 4 rfl, blk_cell h1 5 rfl⟩, ⟨blk_cell h2 0 rfl, blk_cell h2 1 rfl, blk_cell h2 2 rfl, blk_cell h2 3 rfl⟩⟩)
  have FW3 := Lib.hid (show Fr [] w ((w.alloc (.cells #[.slice q.na q.nl q.nc, .int .i64 q.ty, .int .i64 q.cl, .int .i64 q.opc, .bool q.rd, .slice q.fa q.fl q.fc] 72)).alloc (.cells #[.int .i64 8, .int .i64 m.k, .slice m.na m.nl m.nc, .slice m.aa m.al m.ac] 105)) from ((Fr.refl [] w).alloc _).alloc _)
  go_enter Tryd.func60, Tryd.ntmps60
  go_wp2_with (go_at_call 60; refine (HI.out _ (((Fr.refl [] w).alloc _).alloc _)).mono ?_; rintro e wx ⟨rfl, hfx⟩; have HX := Lib.hid hfx; obtain ⟨_, y0, _, _, _⟩ := HBQ.out _ hfx; clear hfx)
  go_ret
  exact ⟨rfl, (((Fr.refl [] w).alloc _).alloc _).trans HX.out (by simp)⟩

set_option maxHeartbeats 8000000 in
set_option maxRecDepth 100000 in
theorem held9 (w : World) (q : Qt) (hq : q.Ok w) (a : Option Addr) (n c p : Nat) (m : Mt) (hm : m.Ok w) (bb oo : Nat) (ha : a = some ⟨bb, oo, none⟩) (hbb : bb < w.heap.size) (hp : p < n) (hn : n ≤ 200)
    (c0 : w.cell? ⟨bb, oo + p * 4, none⟩ = some (.int .i64 m.op)) (c1 : w.cell? ⟨bb, oo + p * 4 + 1, none⟩ = some (.int .i64 m.k)) (c2 : w.cell? ⟨bb, oo + p * 4 + 2, none⟩ = some (.slice m.na m.nl m.nc)) (c3 : w.cell? ⟨bb, oo + p * 4 + 3, none⟩ = some (.slice m.aa m.al m.ac))
    (hop : m.op = 9) (p' b' : Nat) (hpp : p = p' + 1) (hbn : b' ≤ p') (b0 b1 : Bool) (HI : Hid (∀ w2, Fr [] w w2 → Calls Tryd.prog 60 #[.slice a n c, .int .i64 (p' : Nat), .agg #[.slice q.na q.nl q.nc, .int .i64 q.ty, .int .i64 q.cl, .int .i64 q.opc, .bool q.rd, .slice q.fa q.fl q.fc]] w2 (htPost w2 b1)))
    (HI0 : Hid (∀ w2, Fr [] w w2 → Calls Tryd.prog 60 #[.slice a n c, .int .i64 (b' : Nat), .agg #[.slice q.na q.nl q.nc, .int .i64 q.ty, .int .i64 q.cl, .int .i64 q.opc, .bool q.rd, .slice q.fa q.fl q.fc]] w2 (htPost w2 b0)))
    (HAH : Hid (∀ w2, Fr [] w w2 → Calls Tryd.prog 78 #[.slice a n c, .int .i64 (p' : Nat)] w2 fun e w' => e = .returned (.int .i64 ((b' + 1 : Nat) : Int)) ∧ w2 = w')) :
    Calls Tryd.prog 60 #[.slice a n c, .int .i64 p, .agg #[.slice q.na q.nl q.nc, .int .i64 q.ty, .int .i64 q.cl, .int .i64 q.opc, .bool q.rd, .slice q.fa q.fl q.fc]] w (htPost w (b0 && b1)) := by
  subst ha
  have HQ := Lib.hid hq; clear hq
  have HM := Lib.hid hm; clear hm
  have p0 : (0 : Int) ≤ (p : Int) := by omega
  have p1 : (p : Int) < (n : Int) := by omega
  subst hpp
  rw [hop] at c0
  clear hop
  unfold htPost at HI HI0 ⊢
  have e1 : ((p' + 1 : Nat) : Int) - 1 = (p' : Int) := by omega
  have e2 : ((b' + 1 : Nat) : Int) - 1 = (b' : Int) := by omega
  have HBQ := Lib.hid (show ∀ w4, Fr [] ((w.alloc (.cells #[.slice q.na q.nl q.nc, .int .i64 q.ty, .int .i64 q.cl, .int .i64 q.opc, .bool q.rd, .slice q.fa q.fl q.fc] 72)).alloc (.cells #[.int .i64 9, .int .i64 m.k, .slice m.na m.nl m.nc, .slice m.aa m.al m.ac] 105)) w4 → ((w4.cell? ⟨w.heap.size, 0, none⟩ = some (.slice q.na q.nl q.nc)) ∧ (w4.cell? ⟨w.heap.size, 1, none⟩ = some (.int .i64 q.ty)) ∧ (w4.cell? ⟨w.heap.size, 2, none⟩ = some (.int .i64 q.cl)) ∧ (w4.cell? ⟨w.heap.size, 3, none⟩ = some (.int .i64 q.opc)) ∧ (w4.cell? ⟨w.heap.size, 4, none⟩ = some (.bool q.rd)) ∧ (w4.cell? ⟨w.heap.size, 5, none⟩ = some (.slice q.fa q.fl q.fc))) ∧ ((w4.cell? ⟨w.heap.size + 1, 0, none⟩ = some (.int .i64 9)) ∧ (w4.cell? ⟨w.heap.size + 1, 1, none⟩ = some (.int .i64 m.k)) ∧ (w4.cell? ⟨w.heap.size + 1, 2, none⟩ = some (.slice m.na m.nl m.nc)) ∧ (w4.cell? ⟨w.heap.size + 1, 3, none⟩ = some (.slice m.aa m.al m.ac))) from fun w4 h4 => by
    have hA : ((w.alloc (.cells #[.slice q.na q.nl q.nc, .int .i64 q.ty, .int .i64 q.cl, .int .i64 q.opc, .bool q.rd, .slice q.fa q.fl q.fc] 72)).alloc (.cells #[.int .i64 9, .int .i64 m.k, .slice m.na m.nl m.nc, .slice m.aa m.al m.ac] 105)).heap[w.heap.size]? = some (.cells #[.slice q.na q.nl q.nc, .int .i64 q.ty, .int .i64 q.cl, .int .i64 q.opc, .bool q.rd, .slice q.fa q.fl q.fc] 72 (0, 0)) := by rw [heap_alloc_old _ _ (by simp)]; exact heap_alloc_new w _
    have hB : ((w.alloc (.cells #[.slice q.na q.nl q.nc, .int .i64 q.ty, .int .i64 q.cl, .int .i64 q.opc, .bool q.rd, .slice q.fa q.fl q.fc] 72)).alloc (.cells #[.int .i64 9, .int .i64 m.k, .slice m.na m.nl m.nc, .slice m.aa m.al m.ac] 105)).heap[w.heap.size + 1]? = some (.cells #[.int .i64 9, .int .i64 m.k, .slice m.na m.nl m.nc, .slice m.aa m.al m.ac] 105 (0, 0)) := by
      have := heap_alloc_new (w.alloc (.cells #[.slice q.na q.nl q.nc, .int .i64 q.ty, .int .i64 q.cl, .int .i64 q.opc, .bool q.rd, .slice q.fa q.fl q.fc] 72)) (.cells #[.int .i64 9, .int .i64 m.k, .slice m.na m.nl m.nc, .slice m.aa m.al m.ac] 105)
      simpa using this
    have h1 := h4.blk hA (by simp)
    have h2 := h4.blk hB (by simp)
    exact ⟨⟨blk_cell h1 0 rfl, blk_cell h1 1 rfl, blk_cell h1 2 rfl, blk_cell h1 3 rfl, blk_cell h1 4 rfl, blk_cell h1 5 rfl⟩, ⟨blk_cell h2 0 rfl, blk_cell h2 1 rfl, blk_cell h2 2 rfl, blk_cell h2 3 rfl⟩⟩)
  have FW3 := Lib.hid (show Fr [] w ((w.alloc (.cells #[.slice q.na q.nl q.nc, .int .i64 q.ty, .int .i64 q.cl, .int .i64 q.opc, .bool q.rd, .slice q.fa q.fl q.fc] 72)).alloc (.cells #[.int .i64 9, .int .i64 m.k, .slice m.na m.nl m.nc, .slice m.aa m.al m.ac] 105)) from ((Fr.refl [] w).alloc _).alloc _)
  go_enter Tryd.func60, Tryd.ntmps60
  go_upto_region 19 with (go_at_call 60; refine (HI.out _ (((Fr.refl [] w).alloc _).alloc _)).mono ?_; rintro e wx ⟨rfl, hfx⟩; have HX := Lib.hid hfx; obtain ⟨⟨z0, z1, z2, z3, z4, z5⟩, y0, _, _, _⟩ := HBQ.out _ hfx; clear hfx)
  have hwp : IntKind.i64.wrap (p' : Int) = (p' : Int) := IntWalk.i64_in _ (by omega)
  have hwb : IntKind.i64.wrap (b' : Int) = (b' : Int) := IntWalk.i64_in _ (by omega)
  go_cut [9] (fun v wy => v = .bool b0 ∧ Fr [] ((w.alloc (.cells #[.slice q.na q.nl q.nc, .int .i64 q.ty, .int .i64 q.cl, .int .i64 q.opc, .bool q.rd, .slice q.fa q.fl q.fc] 72)).alloc (.cells #[.int .i64 9, .int .i64 m.k, .slice m.na m.nl m.nc, .slice m.aa m.al m.ac] 105)) wy)
  case first =>
    have HFD := Lib.hid (show Fr [] ((w.alloc (.cells #[.slice q.na q.nl q.nc, .int .i64 q.ty, .int .i64 q.cl, .int .i64 q.opc, .bool q.rd, .slice q.fa q.fl q.fc] 72)).alloc (.cells #[.int .i64 9, .int .i64 m.k, .slice m.na m.nl m.nc, .slice m.aa m.al m.ac] 105)) wx.drew from HX.out.drew)
    clear y0
    go_region_held3 (fun w4 => (w4.cell? ⟨w.heap.size, 0, none⟩ = some (.slice q.na q.nl q.nc)) ∧ (w4.cell? ⟨w.heap.size, 1, none⟩ = some (.int .i64 q.ty)) ∧ (w4.cell? ⟨w.heap.size, 2, none⟩ = some (.int .i64 q.cl)) ∧ (w4.cell? ⟨w.heap.size, 3, none⟩ = some (.int .i64 q.opc)) ∧ (w4.cell? ⟨w.heap.size, 4, none⟩ = some (.bool q.rd)) ∧ (w4.cell? ⟨w.heap.size, 5, none⟩ = some (.slice q.fa q.fl q.fc)))
      (first | exact (HBQ.out _ HFD.out).1 | exact (HBQ.out _ HY.out).1 | fail)
      (first
        | (go_at_call 78; (with_reducible refine (HAH.out _ (FW3.out.trans HFD.out (by simp))).mono ?_); rintro e5 w5 ⟨rfl, rfl⟩)
        | (go_at_call 60; (with_reducible refine (HI0.out _ (FW3.out.trans HFD.out (by simp))).mono ?_); rintro e5 wy ⟨rfl, hfy⟩; have HY := Lib.hid (HFD.out.trans hfy (by simp)))
        | fail)
    all_goals (go_wp2_with fail; go_meet)
    all_goals exact ⟨rfl, HY.out⟩
  case rest =>
    obtain ⟨rfl, hfc⟩ := hcut
    have HFC := Lib.hid hfc
    obtain ⟨_, x0, _, _, _⟩ := HBQ.out _ hfc
    clear hfc y0 z0 z1 z2 z3 z4 z5
    cases b0
    · go_wp2
      go_ret
      exact ⟨by first | rfl | (simp), FW3.out.trans HFC.out (by simp)⟩
    · go_wp2
      go_ret
      exact ⟨by first | rfl | (simp), FW3.out.trans HFC.out (by simp)⟩

set_option maxHeartbeats 8000000 in
set_option maxRecDepth 100000 in
theorem held10 (w : World) (q : Qt) (hq : q.Ok w) (a : Option Addr) (n c p : Nat) (m : Mt) (hm : m.Ok w) (bb oo : Nat) (ha : a = some ⟨bb, oo, none⟩) (hbb : bb < w.heap.size) (hp : p < n) (hn : n ≤ 200)
    (c0 : w.cell? ⟨bb, oo + p * 4, none⟩ = some (.int .i64 m.op)) (c1 : w.cell? ⟨bb, oo + p * 4 + 1, none⟩ = some (.int .i64 m.k)) (c2 : w.cell? ⟨bb, oo + p * 4 + 2, none⟩ = some (.slice m.na m.nl m.nc)) (c3 : w.cell? ⟨bb, oo + p * 4 + 3, none⟩ = some (.slice m.aa m.al m.ac))
    (hop : m.op = 10) (p' b' : Nat) (hpp : p = p' + 1) (hbn : b' ≤ p') (b0 b1 : Bool) (HI : Hid (∀ w2, Fr [] w w2 → Calls Tryd.prog 60 #[.slice a n c, .int .i64 (p' : Nat), .agg #[.slice q.na q.nl q.nc, .int .i64 q.ty, .int .i64 q.cl, .int .i64 q.opc, .bool q.rd, .slice q.fa q.fl q.fc]] w2 (htPost w2 b1)))
    (HI0 : Hid (∀ w2, Fr [] w w2 → Calls Tryd.prog 60 #[.slice a n c, .int .i64 (b' : Nat), .agg #[.slice q.na q.nl q.nc, .int .i64 q.ty, .int .i64 q.cl, .int .i64 q.opc, .bool q.rd, .slice q.fa q.fl q.fc]] w2 (htPost w2 b0)))
    (HAH : Hid (∀ w2, Fr [] w w2 → Calls Tryd.prog 78 #[.slice a n c, .int .i64 (p' : Nat)] w2 fun e w' => e = .returned (.int .i64 ((b' + 1 : Nat) : Int)) ∧ w2 = w')) :
    Calls Tryd.prog 60 #[.slice a n c, .int .i64 p, .agg #[.slice q.na q.nl q.nc, .int .i64 q.ty, .int .i64 q.cl, .int .i64 q.opc, .bool q.rd, .slice q.fa q.fl q.fc]] w (htPost w (b0 || b1)) := by
  subst ha
  have HQ := Lib.hid hq; clear hq
  have HM := Lib.hid hm; clear hm
  have p0 : (0 : Int) ≤ (p : Int) := by omega
  have p1 : (p : Int) < (n : Int) := by omega
  subst hpp
  rw [hop] at c0
  clear hop
  unfold htPost at HI HI0 ⊢
  have e1 : ((p' + 1 : Nat) : Int) - 1 = (p' : Int) := by omega
  have e2 : ((b' + 1 : Nat) : Int) - 1 = (b' : Int) := by omega
  have HBQ := Lib.hid (show ∀ w4, Fr [] ((w.alloc (.cells #[.slice q.na q.nl q.nc, .int .i64 q.ty, .int .i64 q.cl, .int .i64 q.opc, .bool q.rd, .slice q.fa q.fl q.fc] 72)).alloc (.cells #[.int .i64 10, .int .i64 m.k, .slice m.na m.nl m.nc, .slice m.aa m.al m.ac] 105)) w4 → ((w4.cell? ⟨w.heap.size, 0, none⟩ = some (.slice q.na q.nl q.nc)) ∧ (w4.cell? ⟨w.heap.size, 1, none⟩ = some (.int .i64 q.ty)) ∧ (w4.cell? ⟨w.heap.size, 2, none⟩ = some (.int .i64 q.cl)) ∧ (w4.cell? ⟨w.heap.size, 3, none⟩ = some (.int .i64 q.opc)) ∧ (w4.cell? ⟨w.heap.size, 4, none⟩ = some (.bool q.rd)) ∧ (w4.cell? ⟨w.heap.size, 5, none⟩ = some (.slice q.fa q.fl q.fc))) ∧ ((w4.cell? ⟨w.heap.size + 1, 0, none⟩ = some (.int .i64 10)) ∧ (w4.cell? ⟨w.heap.size + 1, 1, none⟩ = some (.int .i64 m.k)) ∧ (w4.cell? ⟨w.heap.size + 1, 2, none⟩ = some (.slice m.na m.nl m.nc)) ∧ (w4.cell? ⟨w.heap.size + 1, 3, none⟩ = some (.slice m.aa m.al m.ac))) from fun w4 h4 => by
    have hA : ((w.alloc (.cells #[.slice q.na q.nl q.nc, .int .i64 q.ty, .int .i64 q.cl, .int .i64 q.opc, .bool q.rd, .slice q.fa q.fl q.fc] 72)).alloc (.cells #[.int .i64 10, .int .i64 m.k, .slice m.na m.nl m.nc, .slice m.aa m.al m.ac] 105)).heap[w.heap.size]? = some (.cells #[.slice q.na q.nl q.nc, .int .i64 q.ty, .int .i64 q.cl, .int .i64 q.opc, .bool q.rd, .slice q.fa q.fl q.fc] 72 (0, 0)) := by rw [heap_alloc_old _ _ (by simp)]; exact heap_alloc_new w _
    have hB : ((w.alloc (.cells #[.slice q.na q.nl q.nc, .int .i64 q.ty, .int .i64 q.cl, .int .i64 q.opc, .bool q.rd, .slice q.fa q.fl q.fc] 72)).alloc (.cells #[.int .i64 10, .int .i64 m.k, .slice m.na m.nl m.nc, .slice m.aa m.al m.ac] 105)).heap[w.heap.size + 1]? = some (.cells #[.int .i64 10, .int .i64 m.k, .slice m.na m.nl m.nc, .slice m.aa m.al m.ac] 105 (0, 0)) := by
      have := heap_alloc_new (w.alloc (.cells #[.slice q.na q.nl q.nc, .int .i64 q.ty, .int .i64 q.cl, .int .i64 q.opc, .bool q.rd, .slice q.fa q.fl q.fc] 72)) (.cells #[.int .i64 10, .int .i64 m.k, .slice m.na m.nl m.nc, .slice m.aa m.al m.ac] 105)
      simpa using this
    have h1 := h4.blk hA (by simp)
    have h2 := h4.blk hB (by simp)
    exact ⟨⟨blk_cell h1 0 rfl, blk_cell h1 1 rfl, blk_cell h1 2 rfl, blk_cell h1 3 rfl, blk_cell h1 4 rfl, blk_cell h1 5 rfl⟩, ⟨blk_cell h2 0 rfl, blk_cell h2 1 rfl, blk_cell h2 2 rfl, blk_cell h2 3 rfl⟩⟩)
  have FW3 := Lib.hid (show Fr [] w ((w.alloc (.cells #[.slice q.na q.nl q.nc, .int .i64 q.ty, .int .i64 q.cl, .int .i64 q.opc, .bool q.rd, .slice q.fa q.fl q.fc] 72)).alloc (.cells #[.int .i64 10, .int .i64 m.k, .slice m.na m.nl m.nc, .slice m.aa m.al m.ac] 105)) from ((Fr.refl [] w).alloc _).alloc _)
  go_enter Tryd.func60, Tryd.ntmps60
  go_upto_region 19 with (go_at_call 60; refine (HI.out _ (((Fr.refl [] w).alloc _).alloc _)).mono ?_; rintro e wx ⟨rfl, hfx⟩; have HX := Lib.hid hfx; obtain ⟨⟨z0, z1, z2, z3, z4, z5⟩, y0, _, _, _⟩ := HBQ.out _ hfx; clear hfx)
  have hwp : IntKind.i64.wrap (p' : Int) = (p' : Int) := IntWalk.i64_in _ (by omega)
  have hwb : IntKind.i64.wrap (b' : Int) = (b' : Int) := IntWalk.i64_in _ (by omega)
  go_cut [9] (fun v wy => v = .bool b0 ∧ Fr [] ((w.alloc (.cells #[.slice q.na q.nl q.nc, .int .i64 q.ty, .int .i64 q.cl, .int .i64 q.opc, .bool q.rd, .slice q.fa q.fl q.fc] 72)).alloc (.cells #[.int .i64 10, .int .i64 m.k, .slice m.na m.nl m.nc, .slice m.aa m.al m.ac] 105)) wy)
  case first =>
    have HFD := Lib.hid (show Fr [] ((w.alloc (.cells #[.slice q.na q.nl q.nc, .int .i64 q.ty, .int .i64 q.cl, .int .i64 q.opc, .bool q.rd, .slice q.fa q.fl q.fc] 72)).alloc (.cells #[.int .i64 10, .int .i64 m.k, .slice m.na m.nl m.nc, .slice m.aa m.al m.ac] 105)) wx.drew from HX.out.drew)
    clear y0
    go_region_held3 (fun w4 => (w4.cell? ⟨w.heap.size, 0, none⟩ = some (.slice q.na q.nl q.nc)) ∧ (w4.cell? ⟨w.heap.size, 1, none⟩ = some (.int .i64 q.ty)) ∧ (w4.cell? ⟨w.heap.size, 2, none⟩ = some (.int .i64 q.cl)) ∧ (w4.cell? ⟨w.heap.size, 3, none⟩ = some (.int .i64 q.opc)) ∧ (w4.cell? ⟨w.heap.size, 4, none⟩ = some (.bool q.rd)) ∧ (w4.cell? ⟨w.heap.size, 5, none⟩ = some (.slice q.fa q.fl q.fc)))
      (first | exact (HBQ.out _ HFD.out).1 | exact (HBQ.out _ HY.out).1 | fail)
      (first
        | (go_at_call 78; (with_reducible refine (HAH.out _ (FW3.out.trans HFD.out (by simp))).mono ?_); rintro e5 w5 ⟨rfl, rfl⟩)
        | (go_at_call 60; (with_reducible refine (HI0.out _ (FW3.out.trans HFD.out (by simp))).mono ?_); rintro e5 wy ⟨rfl, hfy⟩; have HY := Lib.hid (HFD.out.trans hfy (by simp)))
        | fail)
    all_goals (go_wp2_with fail; go_meet)
    all_goals exact ⟨rfl, HY.out⟩
  case rest =>
    obtain ⟨rfl, hfc⟩ := hcut
    have HFC := Lib.hid hfc
    obtain ⟨_, x0, _, _, _⟩ := HBQ.out _ hfc
    clear hfc y0 z0 z1 z2 z3 z4 z5
    cases b0
    · go_wp2
      go_ret
      exact ⟨by first | rfl | (simp), FW3.out.trans HFC.out (by simp)⟩
    · go_wp2
      go_ret
      exact ⟨by first | rfl | (simp), FW3.out.trans HFC.out (by simp)⟩


set_option maxHeartbeats 2000000 in
theorem held_any (W : World) (a : Option Addr) (n c : Nat) (M : Nat → Mt) (h : Pts W a n c M) (hn : n ≤ 200) (hz : ∀ k, k < n → n1Fault (M k) = 0) (q : Qt) (hq : q.Ok W) :
    ∀ p, p < n → fed M (p + 1) = true → ∀ w, Fr [] W w → Calls Tryd.prog 60 #[.slice a n c, .int .i64 (p : Nat), .agg #[.slice q.na q.nl q.nc, .int .i64 q.ty, .int .i64 q.cl, .int .i64 q.opc, .bool q.rd, .slice q.fa q.fl q.fc]] w (htPost w (topB M q p)) := by
  intro p
  induction p using Nat.strongRecOn with
  | ind p ih =>
    intro hp hfed w hf
    obtain ⟨t1, t2, t3, t4, t5, t6⟩ := top_take M q p hfed
    obtain ⟨bb, oo, cc, he, _, _, hbb, hcell⟩ := (h.rd.fr hf).shape (by omega) (by decide)
    simp only [Value.slice.injEq, true_and] at he
    obtain ⟨rfl, rfl⟩ := he
    have hm := (h.ok p hp).fr hf
    have c0 : w.cell? ⟨bb, oo + p * 4, none⟩ = some (.int .i64 (M p).op) := hcell p 0 hp (by decide)
    have c1 : w.cell? ⟨bb, oo + p * 4 + 1, none⟩ = some (.int .i64 (M p).k) := hcell p 1 hp (by decide)
    have c2 : w.cell? ⟨bb, oo + p * 4 + 2, none⟩ = some (.slice (M p).na (M p).nl (M p).nc) := hcell p 2 hp (by decide)
    have c3 : w.cell? ⟨bb, oo + p * 4 + 3, none⟩ = some (.slice (M p).aa (M p).al (M p).ac) := hcell p 3 hp (by decide)
    have hqw := hq.fr hf
    have hzp := hz p hp
    obtain ⟨o1, o2, _⟩ := n1_zero hzp
    have hop : (M p).op = 1 ∨ (M p).op = 2 ∨ (M p).op = 3 ∨ (M p).op = 4 ∨ (M p).op = 5 ∨ (M p).op = 6 ∨ (M p).op = 7 ∨ (M p).op = 8 ∨ (M p).op = 9 ∨ (M p).op = 10 := by omega
    have tk0 : (M p).op ≠ 8 → (M p).op ≠ 9 → (M p).op ≠ 10 → tkN (M p).op = 0 := fun a b c => by
      unfold tkN tk
      rw [if_neg a, if_neg (by rintro (h | h); exact b h; exact c h)]
      rfl
    have two : tkN (M p).op = 2 → ∃ p' b', p = p' + 1 ∧ b' ≤ p' ∧ ahN M p' 1 = b' + 1 ∧ fed M (p' + 1) = true ∧ fed M (b' + 1) = true := fun ht => by
      obtain ⟨g1, g2⟩ := t2 (by omega)
      obtain ⟨g3, g4, g5⟩ := t4 ht
      obtain ⟨p', rfl⟩ : ∃ p', p = p' + 1 := ⟨p - 1, by omega⟩
      rw [Nat.add_sub_cancel] at g3 g4 g5
      obtain ⟨b', hb'⟩ : ∃ b', ahN M p' 1 = b' + 1 := ⟨ahN M p' 1 - 1, by omega⟩
      rw [hb'] at g4 g5
      exact ⟨p', b', rfl, by omega, hb', g2, g5⟩
    rcases hop with e | e | e | e | e | e | e | e | e | e
    · rw [t1 (tk0 (by omega) (by omega) (by omega))]
      exact held1 w q hqw _ n c p (M p) hm bb oo rfl hbb hp hn c0 c1 c2 c3 e
    · rw [t1 (tk0 (by omega) (by omega) (by omega))]
      exact held2 w q hqw _ n c p (M p) hm bb oo rfl hbb hp hn c0 c1 c2 c3 e hzp
    · rw [t1 (tk0 (by omega) (by omega) (by omega))]
      exact held3 w q hqw _ n c p (M p) hm bb oo rfl hbb hp hn c0 c1 c2 c3 e
    · rw [t1 (tk0 (by omega) (by omega) (by omega))]
      exact held4 w q hqw _ n c p (M p) hm bb oo rfl hbb hp hn c0 c1 c2 c3 e
    · rw [t1 (tk0 (by omega) (by omega) (by omega))]
      exact held5 w q hqw _ n c p (M p) hm bb oo rfl hbb hp hn c0 c1 c2 c3 e
    · rw [t1 (tk0 (by omega) (by omega) (by omega))]
      exact held6 w q hqw _ n c p (M p) hm bb oo rfl hbb hp hn c0 c1 c2 c3 e
    · rw [t1 (tk0 (by omega) (by omega) (by omega))]
      exact held7 w q hqw _ n c p (M p) hm bb oo rfl hbb hp hn c0 c1 c2 c3 e hzp
    · obtain ⟨g1, g2⟩ := t2 (by rw [tk8 e]; decide)
      rw [t3 e]
      obtain ⟨p', rfl⟩ : ∃ p', p = p' + 1 := ⟨p - 1, by omega⟩
      rw [Nat.add_sub_cancel]
      exact held8 w q hqw _ n c (p' + 1) (M (p' + 1)) hm bb oo rfl hbb hp hn c0 c1 c2 c3 e p' rfl _ (Lib.hid fun w2 h2 => ih p' (by omega) (by omega) g2 w2 (hf.trans h2 (by simp)))
    · obtain ⟨p', b', rfl, hb1, hb2, f1, f2⟩ := two (tk9 e)
      have tt := t5 e
      rw [Nat.add_sub_cancel, hb2, Nat.add_sub_cancel] at tt
      rw [tt]
      exact held9 w q hqw _ n c (p' + 1) (M (p' + 1)) hm bb oo rfl hbb hp hn c0 c1 c2 c3 e p' b' rfl hb1 _ _ (Lib.hid fun w2 h2 => ih p' (by omega) (by omega) f1 w2 (hf.trans h2 (by simp))) (Lib.hid fun w2 h2 => ih b' (by omega) (by omega) f2 w2 (hf.trans h2 (by simp)))
        (Lib.hid fun w2 h2 => by have := ahead_any W _ n c M h hn p' (by omega) f1 w2 (hf.trans h2 (by simp)); rw [hb2] at this; exact this)
    · obtain ⟨p', b', rfl, hb1, hb2, f1, f2⟩ := two (tk10 e)
      have tt := t6 e
      rw [Nat.add_sub_cancel, hb2, Nat.add_sub_cancel] at tt
      rw [tt]
      exact held10 w q hqw _ n c (p' + 1) (M (p' + 1)) hm bb oo rfl hbb hp hn c0 c1 c2 c3 e p' b' rfl hb1 _ _ (Lib.hid fun w2 h2 => ih p' (by omega) (by omega) f1 w2 (hf.trans h2 (by simp))) (Lib.hid fun w2 h2 => ih b' (by omega) (by omega) f2 w2 (hf.trans h2 (by simp)))
        (Lib.hid fun w2 h2 => by have := ahead_any W _ n c M h hn p' (by omega) f1 w2 (hf.trans h2 (by simp)); rw [hb2] at this; exact this)

end Go.Proofs.YtgpfkaiinbncnaaDoor
