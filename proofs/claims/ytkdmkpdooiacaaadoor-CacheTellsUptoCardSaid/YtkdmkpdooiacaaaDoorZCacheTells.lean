/- CacheTells: the walk (printed by wip/bin/tellsw.py). -/
import Derived.Test.YtkdmkpdooiacaaaDoorZTellsGen
import Derived.Test.YtkdmkpdooiacaaaDoorZbase1
import Derived.Test.YtkdmkpdooiacaaaDoorZbase4
import Derived.Test.YtkdmkpdooiacaaaDoorZCached
namespace Go.Proofs.YtkdmkpdooiacaaaDoor
open Go.RowKit

theorem Ca.keptT {B : HB} {w w' : World} {p b : Nat} {n : Int} {v : Value} {l : List En} {cs : Array Value} {T : TypeId} {z : Nat × Nat} (h : Ca B w p n v l) (hf : Fr [b] w w') (hb : w.heap[b]? = some (.cells cs T z)) (h1 : 63 ≠ T) (h2 : 88 ≠ T) (hh : FrH B w w') : Ca B w' p n v l :=
  ⟨hf.blk h.blk (fun hm => by
      simp only [List.mem_cons, List.not_mem_nil, or_false] at hm
      have e := h.blk
      rw [hm, hb] at e
      simp only [Option.some.injEq, Obj.cells.injEq] at e
      exact h1 e.2.1.symm), h.pB, h.row.imp fun F x => ⟨x.ho.kept hf (fun g hg hm => by
      simp only [List.mem_cons, List.not_mem_nil, or_false] at hm
      rcases x.ho with ⟨rfl, _⟩ | ⟨g', cap, rfl, hg', cur, e, _⟩
      · simp [Value.ownBlock] at hg
      · simp only [Value.ownBlock, Option.some.injEq] at hg
        rw [hg, hm, hb] at e
        simp only [Option.some.injEq, Obj.cells.injEq] at e
        exact h2 e.2.1.symm), fun i hi => (x.at_ i hi).frH hh⟩, h.len, h.n0⟩

theorem Ca.apartP {B : HB} {w : World} {p q : Nat} {n : Int} {v : Value} {l : List En} {cs : Array Value} {T : TypeId} (h : Ca B w p n v l) (hq : w.heap[q]? = some (.cells cs T (0, 0))) (h1 : 63 ≠ T) (h2 : 88 ≠ T) : q ∉ p :: v.ownBlock.toList := fun hm => by
  rcases List.mem_cons.1 hm with rfl | hm
  · have e := h.blk
    rw [hq] at e
    simp only [Option.some.injEq, Obj.cells.injEq] at e
    exact h1 e.2.1.symm
  · obtain ⟨F, hr⟩ := h.row
    exact hr.ho.apart hq h2 hm

theorem blk_neT {w : World} {x y : Nat} {cs ds : Array Value} {T U : TypeId} (hx : w.heap[x]? = some (.cells cs T (0, 0))) (hy : w.heap[y]? = some (.cells ds U (0, 0))) (hT : T ≠ U) : x ≠ y := by
  rintro rfl
  rw [hx] at hy
  simp only [Option.some.injEq, Obj.cells.injEq] at hy
  exact hT hy.2.1

theorem fr_hot {B : HB} {a b : World} {k : Nat} {cs : Array Value} {T : TypeId} {z : Nat × Nat} (hf : Fr [k] a b) (hk : a.heap[k]? = some (.cells cs T z)) (hT : hotT T = true) (hB : B.n ≤ k) : FrH B a b :=
  hf.hot B (fun x hx _ => by
    simp only [List.mem_cons, List.not_mem_nil, or_false] at hx
    subst hx
    exact .inl ⟨hB, cs, T, z, hk, hT⟩)

/-- all but what is hot is as it was; so are the twin's block and the program's cache -/
structure SW (B : HB) (wc : World) (pt : Nat) (ob : Obj) (pc : Nat) (n : Int) (v : Value) (l : List En) (wx : World) : Prop where
  f : FrH B wc wx
  b : wx.heap[pt]? = some ob
  c : Ca B wx pc n v l

section
variable {B : HB} {wc a b : World} {pt : Nat} {ob : Obj} {pc : Nat} {n : Int} {v : Value} {l : List En}
theorem SW.fr0 (h : SW B wc pt ob pc n v l a) (hf : Fr [] a b) : SW B wc pt ob pc n v l b := ⟨h.f.trans (hf.hot0 B), hf.blk h.b (by simp), h.c.fr0 hf⟩
theorem SW.st {k : Nat} {cs : Array Value} {T : TypeId} {z : Nat × Nat} (h : SW B wc pt ob pc n v l a) (hf : Fr [k] a b) (hk : a.heap[k]? = some (.cells cs T z)) (hT : hotT T = true) (hB : B.n ≤ k) (hne : pt ≠ k) (h1 : 63 ≠ T) (h2 : 88 ≠ T) : SW B wc pt ob pc n v l b :=
  ⟨h.f.trans (fr_hot hf hk hT hB), hf.blk h.b (by simpa using hne), h.c.keptT hf hk h1 h2 (fr_hot hf hk hT hB)⟩
end

/-- nothing of the caller's is hot -/
theorem fr_old {w w1 wr wx : World} (h1 : Fr [] w w1) (hr : Fr [] w1 wr) (h : FrH ⟨w1.heap.size, []⟩ wr wx) : Fr [] w1 wx :=
  ⟨h.os.trans hr.os, h.tape.trans hr.tape, h.output.trans hr.output, Nat.le_trans hr.size h.size, fun k hk hn => (h.block k (Nat.lt_of_lt_of_le hk hr.size) (fun hh => by
    rcases hh with hh | hh
    · have := hh.1; simp only at this; omega
    · simp at hh)).trans (hr.block k hk hn)⟩

/-- how the loop stands -/
def CTL (w1 : World) (n pc pt : Nat) (wr : World) : Prop := ∃ (v : Value) (l : List En) (ra : Option Addr) (rc : Nat) (lr : List (En × RV)),
  Ca ⟨w1.heap.size, []⟩ wr pc n v l ∧ RCa ⟨w1.heap.size, []⟩ wr (.slice ra lr.length rc) lr ∧ wr.heap[pt]? = some (.cells #[.slice ra lr.length rc, .int .i64 n] 34 (0, 0)) ∧
    LR l lr ∧ DK lr ∧ lr.length ≤ n ∧ (∀ x ∈ lr, 0 ≤ x.1.at_) ∧ Fr [] w1 wr

theorem LR.at0 : ∀ {l : List En} {r : List (En × RV)}, LR l r → (∀ x ∈ r, 0 ≤ x.1.at_) → ∀ e ∈ l, 0 ≤ e.at_
  | [], [], _, _, e, he => by simp at he
  | a :: l, x :: r, h, h0, e, he => by
    rcases List.mem_cons.1 he with rfl | he
    · rw [h.1.2.1]; exact h0 x List.mem_cons_self
    · exact LR.at0 h.2 (fun y hy => h0 y (List.mem_cons_of_mem _ hy)) e he
  | [], _ :: _, h, _, _, _ => h.elim
  | _ :: _, [], h, _, _, _ => h.elim

/-- behind V.Put -/
def PCut (B : HB) (wc : World) (pt : Nat) (ob : Obj) (pc : Nat) (n : Nat) (v0 : Value) (l : List En) (PZ : Int) (lrP : RV → List (En × RV)) (p v : Value) (wy : World) : Prop :=
  ∃ (b : Nat) (a : Option Addr) (m c : Nat) (r : RV), p = .pointer (some ⟨b, 0, none⟩) ∧ v = .int .i64 PZ ∧ m = (lrP r).length ∧ wy.heap[b]? = some (.cells #[.slice a m c, .int .i64 n] 34 (0, 0)) ∧
    RCa B wy (.slice a m c) (lrP r) ∧ SW B wc pt ob pc n v0 l wy ∧ wc.heap.size ≤ b

/-- behind V.Get -/
def GCut (B : HB) (wc : World) (pt : Nat) (ob : Obj) (pc : Nat) (n : Nat) (v0 : Value) (l : List En) (KF : Int) (is : Bool) (mr : Ms) (lr' : List (En × RV)) (p q v u : Value) (wy : World) : Prop :=
  ∃ (b b2 : Nat) (a : Option Addr) (m c : Nat) (CM : Array Value) (xq xa xu xm : Value), p = .pointer (some ⟨b, 0, none⟩) ∧ q = .pointer (some ⟨b2, 0, none⟩) ∧ v = .bool is ∧ u = .int .i64 KF ∧ m = lr'.length ∧ wy.heap[b]? = some (.cells #[.slice a m c, .int .i64 n] 34 (0, 0)) ∧
    wy.heap[b2]? = some (.cells CM 43 (0, 0)) ∧ CM = msgCs mr.h xq xa xu xm ∧ MsOk B wy mr xq xa xu xm ∧ RCa B wy (.slice a m c) lr' ∧ SW B wc pt ob pc n v0 l wy ∧ wc.heap.size ≤ b ∧ wc.heap.size ≤ b2

/-- behind c.Get -/
def HCut (B : HB) (wc : World) (pc : Nat) (n : Nat) (v0 : Value) (EV : Value) (is : Bool) (mp : Ms) (l' : List En) (p v u : Value) (wy : World) : Prop :=
  ∃ (b : Nat) (CM : Array Value) (xq xa xu xm v' : Value), p = .pointer (some ⟨b, 0, none⟩) ∧ v = .bool is ∧ u = EV ∧ wy.heap[b]? = some (.cells CM 43 (0, 0)) ∧ CM = msgCs mp.h xq xa xu xm ∧ MsOk B wy mp xq xa xu xm ∧ Ca B wy pc n v' l' ∧
    FrH B wc wy ∧ Fr (pc :: v0.ownBlock.toList) wc wy ∧ wc.heap.size ≤ b

theorem zeroMsg (u : World) : (zeroValue 43).run Tryd.prog u = .ok zMsg u := by kernel_rfl
theorem zeroRCa (u : World) : (zeroValue 34).run Tryd.prog u = .ok (.agg #[.slice none 0 0, .int .i64 0]) u := by kernel_rfl
theorem infoRCa : (Tryd.prog.info? 34).map (·.size) = some 2 := by kernel_rfl
theorem infoMsg15 : (Tryd.prog.info? 43).map (·.size) = some 15 := by kernel_rfl

set_option maxHeartbeats 16000000 in
set_option maxRecDepth 100000 in
theorem cacheTells_any (w : World) (hg : Hand w) (n : Int) (qa : Option Addr) (qn qc : Nat) (Q : Nat → Ms) (QV : Nat → Value × Value × Value × Value) (hq : MsgsAt ⟨w.heap.size, []⟩ w (.slice qa qn qc) qn Q QV) (sq : ∀ i, i < qn → MsSm (Q i))
    (aa : Option Addr) (an ac : Nat) (A : Nat → Ms) (AV : Nat → Value × Value × Value × Value) (ha : MsgsAt ⟨w.heap.size, []⟩ w (.slice aa an ac) an A AV) (sa : ∀ i, i < an → MsSm (A i))
    (ta : Option Addr) (tn tc : Nat) (T : Nat → Int) (ht : RdF w (.slice ta tn tc) tn (fun j => .int .i64 (T j))) (hti : ∀ j, j < tn → -9223372036854775808 ≤ T j ∧ T j ≤ 9223372036854775807) :
    Calls Tryd.prog 3 #[.int .i64 n, .slice qa qn qc, .slice aa an ac, .slice ta tn tc] w fun e w' => e = .returned (.bool true) ∧ Fr [] w w' := by
  have HQ := Lib.hid hq
  have HA := Lib.hid ha
  have HT := Lib.hid ht
  have SQ := Lib.hid sq
  have SA := Lib.hid sa
  have HTI := Lib.hid hti
  have HG := Lib.hid hg
  clear hq ha ht sq sa hti hg
  go_enter Tryd.func3, Tryd.ntmps3
  go_wp2_with fail
  refine (cached_any w).mono ?_
  rintro e w1 ⟨rfl, hf1⟩
  have HW1 := Lib.hid hf1.all
  clear hf1
  by_cases hno : 1 ≤ n ∧ n ≤ 64
  case neg =>
    have HN := Lib.hid hno
    have HE6 := Lib.hid (fun (wx : World) (hx : Fr [] w wx) => error_any wx (some 6) 6 (HG.out.fr hx (by simp)))
    have HB6 := Lib.hid (fun (wx : World) => new_bad wx n (by have := HN.out; omega))
    by_cases h1 : n < 1
    · clear hno
      go_wp2_with fail
      refine (HB6.out _).mono ?_
      rintro e w2 ⟨rfl, rfl⟩
      go_wp2_with fail
      refine (HE6.out _ HW1.out).mono ?_
      rintro e w3 ⟨rfl, hf3⟩
      rw [show decide (numOf (some 6) = 6) = true from rfl]
      have HF3 := Lib.hid (HW1.out.trans hf3 (by simp))
      clear hf3
      go_wp2
      go_ret
      exact ⟨rfl, HF3.out⟩
    · have h2 : 64 < n := by omega
      clear hno
      go_wp2_with fail
      refine (HB6.out _).mono ?_
      rintro e w2 ⟨rfl, rfl⟩
      go_wp2_with fail
      refine (HE6.out _ HW1.out).mono ?_
      rintro e w3 ⟨rfl, hf3⟩
      rw [show decide (numOf (some 6) = 6) = true from rfl]
      have HF3 := Lib.hid (HW1.out.trans hf3 (by simp))
      clear hf3
      go_wp2
      go_ret
      exact ⟨rfl, HF3.out⟩
  have HNI := Lib.hid hno
  have h1 : ¬ n < 1 := by omega
  have h2 : ¬ 64 < n := by omega
  go_wp2_with fail
  refine (new_ok _ n HNI.out).mono ?_
  rintro e w2 ⟨rfl, hC, hf2⟩
  have HC2 := Lib.hid hC
  have HF2 := Lib.hid hf2
  clear hC hf2 hno h1 h2
  go_wp2_with fail
  refine (error_any _ none 0 (HG.out.fr (HW1.out.trans HF2.out (by simp)) (by simp))).mono ?_
  rintro e w3 ⟨rfl, hf3⟩
  rw [show decide (numOf none = 0) = true from rfl]
  have HC3 := Lib.hid (HC2.out.fr0 hf3)
  have HF3 := Lib.hid (show Fr [] w1 w3 from HF2.out.trans hf3 (by simp))
  have HZ3 := Lib.hid (show w1.heap.size < w3.heap.size from Nat.lt_of_lt_of_le (lt_of_blk HC2.out.blk) hf3.size)
  clear hf3 HC2 HF2
  obtain ⟨N, rfl⟩ : ∃ N : Nat, n = (N : Int) := ⟨n.toNat, by have := HNI.out; omega⟩
  have HN := Lib.hid (show 1 ≤ N ∧ N ≤ 64 by have := HNI.out; omega)
  clear HNI
  by_cases h40 : 40 < qn
  · have k40 : (40 : Int) < (qn : Int) := by omega
    go_wp2
    go_ret
    exact ⟨rfl, HW1.out.trans HF3.out (by simp)⟩
  have k40 : ¬ (40 : Int) < (qn : Int) := by omega
  have d40 : decide (40 < qn) = false := by simp; omega
  by_cases han : an < qn
  · have kan : (an : Int) < (qn : Int) := by omega
    have dan : decide (an < qn) = true := by simp; omega
    go_wp2
    go_ret
    exact ⟨rfl, HW1.out.trans HF3.out (by simp)⟩
  have kan : ¬ (an : Int) < (qn : Int) := by omega
  have dan : decide (an < qn) = false := by simp; omega
  by_cases htn : tn < qn
  · have ktn : (tn : Int) < (qn : Int) := by omega
    have dtn : decide (tn < qn) = true := by simp; omega
    go_wp2
    go_ret
    exact ⟨rfl, HW1.out.trans HF3.out (by simp)⟩
  have ktn : ¬ (tn : Int) < (qn : Int) := by omega
  have dtn : decide (tn < qn) = false := by simp; omega
  have HAN := Lib.hid (show qn ≤ an by omega)
  have HTN := Lib.hid (show qn ≤ tn by omega)
  go_wp2_with fail
  clear k40 d40 kan dan ktn dtn h40 han htn
  obtain ⟨pt, hpt⟩ : ∃ p, w3.heap.size = p := ⟨_, rfl⟩
  have HPT := Lib.hid (show w1.heap.size < pt by have := HZ3.out; omega)
  have HST := Lib.hid (show CTL w1 N w1.heap.size pt (w3.alloc (.cells #[.slice none 0 0, .int .i64 N] 34)) from
    ⟨_, [], none, 0, [], HC3.out.fr0 ((Fr.refl [] w3).alloc _), RCa.nil _ _, by rw [← hpt]; exact heap_alloc_new w3 _, trivial, List.Pairwise.nil, Nat.zero_le _, fun x hx => by simp at hx, HF3.out.alloc _⟩)
  rw [hpt]
  clear HC3 HZ3 hpt
  go_loopw [15] (fun vi wr => ∃ k : Nat, k ≤ qn ∧ vi = .int .i64 k ∧ CTL w1 N w1.heap.size pt wr) (fun vi _ => qn - (intOf vi).toNat)
  case atStart => exact ⟨0, Nat.zero_le _, rfl, HST.out⟩
  case round =>
    clear HST HF3
    obtain ⟨k, hk, rfl, v, l, ra, rc, lr, hca, hra, hbt, hlr, hdk, hln, hat, hfr⟩ := hrel
    have HCA := Lib.hid hca
    have HRA := Lib.hid hra
    have HBT := Lib.hid hbt
    have HLR := Lib.hid hlr
    have HDK := Lib.hid hdk
    have HLN := Lib.hid hln
    have HAT := Lib.hid hat
    have HFR := Lib.hid hfr
    have HFW := Lib.hid (HW1.out.trans hfr (by simp))
    clear hca hra hbt hlr hdk hln hat hfr
    by_cases hlt : k < qn
    case neg =>
      obtain rfl : k = qn := by omega
      go_wp2
      go_ret
      exact ⟨rfl, HFW.out⟩
    have HTA := Lib.hid (show k < an by have := HAN.out; omega)
    have HTT := Lib.hid (show k < tn by have := HTN.out; omega)
    obtain ⟨qb, qo, rfl, _, _, hrq⟩ := HQ.out.rng (by omega)
    obtain ⟨ab, ao, rfl, _, _, hra2⟩ := HA.out.rng (by have := HTA.out; omega)
    obtain ⟨tb, tof, tcc, het, _, _, _, hct⟩ := HT.out.shape (by have := HTT.out; omega)
    simp only [Value.slice.injEq, true_and] at het
    obtain ⟨rfl, rfl⟩ := het
    have HMQ := Lib.hid (fun (wx : World) (h : Fr [] w wx) => ((HQ.out.2 k hlt).frH (h.hot0 _)).up (B' := ⟨w1.heap.size, []⟩) HW1.out.size rfl)
    have HMA := Lib.hid (fun (wx : World) (h : Fr [] w wx) => ((HA.out.2 k HTA.out).frH (h.hot0 _)).up (B' := ⟨w1.heap.size, []⟩) HW1.out.size rfl)
    have HSQ := Lib.hid (SQ.out k hlt)
    have HSA := Lib.hid (SA.out k HTA.out)
    have HNOW := Lib.hid (HTI.out k HTT.out)
    have HTK := Lib.hid (fun (wx : World) (h : Fr [] w wx) => h.cell (hct k HTT.out) (by simp))
    obtain ⟨now, hnow⟩ : ∃ t, T k = t := ⟨_, rfl⟩
    rw [hnow] at HNOW HTK
    clear hnow hct
    have HCQ := Lib.hid (show msgV (Q k).h (QV k).1 (QV k).2.1 (QV k).2.2.1 (QV k).2.2.2 = .agg (msgCs (Q k).h (QV k).1 (QV k).2.1 (QV k).2.2.1 (QV k).2.2.2) from rfl)
    have HCAE := Lib.hid (show msgV (A k).h (AV k).1 (AV k).2.1 (AV k).2.2.1 (AV k).2.2.2 = .agg (msgCs (A k).h (AV k).1 (AV k).2.1 (AV k).2.2.1 (AV k).2.2.2) from rfl)
    have HRQ := Lib.hid (fun (wx : World) (h : Fr [] w wx) => range_fr (hrq k hlt) h)
    have HRB := Lib.hid (fun (wx : World) (h : Fr [] w wx) => range_fr (hra2 k HTA.out) h)
    have HAN1 := Lib.hid (show (msgCs (A k).h (AV k).1 (AV k).2.1 (AV k).2.2.1 (AV k).2.2.2).toList[1]? = some (.bool (A k).h.an) from rfl)
    have HQL := Lib.hid (show (Tryd.prog.info? 43).map (·.size) = some (msgCs (Q k).h (QV k).1 (QV k).2.1 (QV k).2.2.1 (QV k).2.2.2).toList.length from infoMsg15)
    have HAL := Lib.hid (show (Tryd.prog.info? 43).map (·.size) = some (msgCs (A k).h (AV k).1 (AV k).2.1 (AV k).2.2.1 (AV k).2.2.2).toList.length from infoMsg15)
    clear hrq hra2
    obtain ⟨CQ, hCQ⟩ : ∃ C, msgCs (Q k).h (QV k).1 (QV k).2.1 (QV k).2.2.1 (QV k).2.2.2 = C := ⟨_, rfl⟩
    obtain ⟨CA, hCA⟩ : ∃ C, msgCs (A k).h (AV k).1 (AV k).2.1 (AV k).2.2.1 (AV k).2.2.2 = C := ⟨_, rfl⟩
    rw [hCQ] at HCQ HRQ HQL
    rw [hCA] at HCAE HRB HAN1 HAL
    clear hCQ hCA
    have HKO := Lib.hid (fun (wx : World) (h : Fr [] w wx) => keyOf_any wx _ (Q k) _ _ _ _ (HMQ.out wx h) HSQ.out.find)
    have HKY := Lib.hid (fun (wx : World) (h : Fr [] w wx) => key_any wx _ (Q k) _ _ _ _ (optDo (Q k)) (optZ (Q k)) (HMQ.out wx h) (findAll_any wx _ (Q k) _ _ _ _ (HMQ.out wx h) HSQ.out.find))
    have HRP := Lib.hid (fun (wx : World) (h : Fr [] w wx) (hr : RCa ⟨w1.heap.size, []⟩ wx (.slice ra lr.length rc) lr) => (rput_any wx ⟨w1.heap.size, []⟩ (by simp) (.slice ra lr.length rc) lr N HN.out.1 HN.out.2 (by have := HLN.out; have := HN.out; omega) hr (Q k) (A k) _ _ _ _ _ _ _ _ (HMQ.out wx h) (HMA.out wx h) HSQ.out.find HSA.out.life now HNOW.out).mono (fun e w' hh => hh.gen2 hr))
    have HPP := Lib.hid (fun (wx : World) (h : Fr [] w wx) (hz : w1.heap.size ≤ wx.heap.size) (hr : Ca ⟨w1.heap.size, []⟩ wx w1.heap.size N v l) => (put_any wx ⟨w1.heap.size, []⟩ w1.heap.size N v l (Q k) (A k) _ _ _ _ _ _ _ _ now (optDo (Q k)) (optZ (Q k)) hr (HMQ.out wx h) (HMA.out wx h) (findAll_any wx _ (Q k) _ _ _ _ (HMQ.out wx h) HSQ.out.find) HSA.out.life ⟨hz, by simp⟩ HNOW.out).mono (fun e w' hh => hh.gen2 hr))
    have HRG := Lib.hid (fun (wx : World) (h : Fr [] w wx) (hr : RCa ⟨w1.heap.size, []⟩ wx (.slice ra lr.length rc) lr) => (rget_any wx ⟨w1.heap.size, []⟩ (by simp) (.slice ra lr.length rc) lr N HN.out.1 HN.out.2 (by have := HLN.out; have := HN.out; omega) hr (Q k) _ _ _ _ (HMQ.out wx h) HSQ.out.find now HNOW.out HAT.out).mono (fun e w' hh => hh.gen2 hr))
    have HPG := Lib.hid (fun (wx : World) (h : Fr [] w wx) (hz : w1.heap.size ≤ wx.heap.size) (hr : Ca ⟨w1.heap.size, []⟩ wx w1.heap.size N v l) => (get_any2 wx ⟨w1.heap.size, []⟩ w1.heap.size N v l (Q k) _ _ _ _ now (optDo (Q k)) (optZ (Q k)) hr (HMQ.out wx h) (findAll_any wx _ (Q k) _ _ _ _ (HMQ.out wx h) HSQ.out.find) ⟨hz, by simp⟩ HNOW.out (LR.at0 HLR.out HAT.out)).mono (fun e w' hh => GetGood.gen2 hh hr))
    rw [HCQ.out] at HKO HKY HRP HPP HRG HPG
    rw [HCAE.out] at HRP HPP
    have HBP := Lib.hid (fun (rv : RV) => both_put HLR.out HDK.out (Q k) (A k) now HN.out.1 rv)
    have HBG := Lib.hid (both_get HLR.out HDK.out (Q k) now HN.out.1 (fun x hx => (HRA.out.all x hx).ms.mwf))
    have HPZ := Lib.hid (show putZ (Q k) (A k) (optZ (Q k)) now = 0 → 0 ≤ now from putZ_now)
    generalize hKF : keyFault (Q k) (optZ (Q k)) = KF at *
    have HKFE := Lib.hid hKF
    clear hKF
    generalize hKL : keyL ((Q k).Q 0) (Q k).h.rd (optDo (Q k)) = KL at *
    have HKLE := Lib.hid hKL
    clear hKL
    generalize putZ (Q k) (A k) (optZ (Q k)) now = PZ at *
    clear HCQ HCAE HMQ HMA
    have HER := Lib.hid (fun (wx : World) (h : Fr [] w wx) (z : Int) => show Calls Tryd.prog 6 #[errOf (erO z), .int .i64 z] wx (fun e w' => e = .returned (.bool true) ∧ Fr [] wx w') from (error_any wx (erO z) z (HG.out.fr h (by simp))).mono (fun e w' hh => by rw [erO_num] at hh; simpa using hh))
    have k0 : (0 : Int) ≤ (k : Int) := by omega
    have k3 : (k : Int) < (qn : Int) := by omega
    have k4 : (k : Int) < (an : Int) := by have := HAN.out; omega
    have k5 : (k : Int) < (tn : Int) := by have := HTN.out; omega
    have hr0 := HRQ.out wr HFW.out
    go_wp2_with (first
      | ((with_reducible refine wpList_loadArr ?_ 43 (.tmp 89) ?_ qb (qo + k * 15) ?_ CQ _ ?_ Tryd.underlying43 ?_ ?_ ?_); rfl; rfl; rfl; exact hr0; rfl; exact HQL.out)
      | fail)
    refine (HKO.out wr HFW.out).mono ?_
    rintro e w4 ⟨ka, kc, L, rfl, hok, ⟨hk1, hk2⟩, hf4⟩
    rw [HKFE.out] at hk1 hk2 ⊢
    rw [HKLE.out] at hk1
    have HOK := Lib.hid hok
    have HK1 := Lib.hid hk1
    have HK2 := Lib.hid hk2
    have HF4 := Lib.hid hf4
    clear hok hk1 hk2 hf4 hr0
    have hr0 := HRQ.out w4 (HFW.out.trans HF4.out (by simp))
    go_wp2_with (first
      | ((with_reducible refine wpList_loadArr ?_ 43 (.tmp 97) ?_ qb (qo + k * 15) ?_ CQ _ ?_ Tryd.underlying43 ?_ ?_ ?_); rfl; rfl; rfl; exact hr0; rfl; exact HQL.out)
      | fail)
    refine (HKY.out w4 (HFW.out.trans HF4.out (by simp))).mono ?_
    rintro e w5 hky
    obtain ⟨la, lc, K, rfl, hol, hl1, hl2, hf5⟩ := KeyGood.gen2 hky
    rw [HKFE.out] at hl1 hl2 ⊢
    rw [HKLE.out] at hl1
    have HF5 := Lib.hid (HF4.out.trans hf5 (by simp))
    have HKK := Lib.hid (show K = L by
      by_cases hz : KF = 0
      · rw [hl1 hz, HK1.out hz]
      · rw [hl2 hz, HK2.out hz])
    have hrl : RdF w5 (.slice ka L.length kc) L.length (fun j => .int .u8 (lI L j)) := OwnB.rdI (OwnF.kept HOK.out hf5 (by simp))
    have hrk : RdF w5 (.slice la K.length lc) K.length (fun j => .int .u8 (lI K j)) := hol.rdI
    rw [HKK.out] at hrk ⊢
    have HRL := Lib.hid hrl
    have HRK := Lib.hid hrk
    clear hky hol hl1 hl2 hf5 hr0 hrl hrk HOK HK1 HK2 HKK HKO HKY
    go_wp2_with fail
    refine (HER.out w5 (HFW.out.trans HF5.out (by simp)) KF).mono ?_
    rintro e w6 ⟨rfl, hf6⟩
    have HF6 := Lib.hid (HF5.out.trans hf6 (by simp))
    have HBB := Lib.hid (bytes_any w6 la ka L.length L.length lc kc (lI L) (lI L) (HRK.out.fr hf6 (by simp)) (HRL.out.fr hf6 (by simp)) (by have := HRK.out.le_cap; unfold maxLen at this; omega) (by have := HRK.out.le_cap; unfold maxLen at this; omega))
    rw [show (decide (L.length = L.length) && eqUpTo (lI L) (lI L) L.length) = true from by rw [decide_eq_true rfl, Bool.true_and, eqUpTo_iff]; exact fun _ _ => rfl] at HBB
    clear hf6 HF5 HF4
    go_wp2_with fail
    refine HBB.out.mono ?_
    rintro e w7 ⟨rfl, nq, rfl⟩
    have HF7 := Lib.hid (HF6.out.drewN nq)
    clear HF6 HBB HRL HRK
    generalize w6.drewN nq = w7 at *
    have HC7 := Lib.hid (HCA.out.fr0 HF7.out)
    have HR7 := Lib.hid (HRA.out.frH (HF7.out.hot0 _))
    have HB7 := Lib.hid (HF7.out.blk HBT.out (by simp))
    have HW7 := Lib.hid (HFW.out.trans HF7.out (by simp))
    have H17 := Lib.hid (show Fr [] w1 w7 from HFR.out.trans HF7.out (by simp))
    clear HCA HRA HBT HFW HFR HF7
    have hra1 : w7.cell? ⟨ab, ao + k * 15 + 1, none⟩ = some (.bool (A k).h.an) := HRB.out w7 HW7.out 1 _ HAN1.out
    by_cases han : (A k).h.an = true
    · rw [han] at hra1
      go_upto_region 22 with fail
      clear hra1 han
      have HWX := Lib.hid (fun (wq : World) (h : SW ⟨w1.heap.size, []⟩ w7 pt (.cells #[.slice ra lr.length rc, .int .i64 N] 34 (0, 0)) w1.heap.size N v l wq) => show Fr [] w wq from HW1.out.trans (fr_old HW1.out H17.out h.f) (by simp))
      have HS7 := Lib.hid (show SW ⟨w1.heap.size, []⟩ w7 pt (.cells #[.slice ra lr.length rc, .int .i64 N] 34 (0, 0)) w1.heap.size N v l w7.drew from (⟨FrH.refl _ _, HB7.out, HC7.out⟩ : SW ⟨w1.heap.size, []⟩ w7 pt (.cells #[.slice ra lr.length rc, .int .i64 N] 34 (0, 0)) w1.heap.size N v l w7).fr0 ((Fr.refl [] w7).drew))
      go_cut [21, 22] (fun p21 v22 wy => PCut ⟨w1.heap.size, []⟩ w7 pt (.cells #[.slice ra lr.length rc, .int .i64 N] 34 (0, 0)) w1.heap.size N v l PZ (fun r => if PZ = 0 then withGo N KL [(⟨KL, A k, now, lifeV (A k)⟩, r)] lr else lr) p21 v22 wy)
      case first =>
        refine wp_region_held_drew (S := fun wx => SW ⟨w1.heap.size, []⟩ w7 pt (.cells #[.slice ra lr.length rc, .int .i64 N] 34 (0, 0)) w1.heap.size N v l wx) (by kernel_rfl) HS7.out (fun hHeld => ?_)
        refine takeV (i := 0) 121 (Go.Op.load 34 (Go.Operand.tmp 14)) 34 (v := .agg #[.slice ra lr.length rc, .int .i64 N]) (by kernel_rfl) (by kernel_rfl) (by kernel_rfl) (by kernel_rfl) (fun _ _ _ h => h) (Or.inl ⟨by rfl, ?_⟩) hHeld ?_
        case refine_1 => (intro wq hq; have c0 := blk_cell hq.b 0 (v := .slice ra lr.length rc) rfl; have c1 := blk_cell hq.b 1 (v := .int .i64 N) rfl; dsimp only [opr]; go_simp; try (with_reducible rfl))
        try simp only [List.setIfInBounds_toArray, List.set_cons_zero, List.set_cons_succ]
        refine takeV (i := 1) 122 (Go.Op.move (Go.Operand.tmp 1)) 22 (v := ?_) (by kernel_rfl) (by kernel_rfl) (by kernel_rfl) (by kernel_rfl) (fun _ _ _ h => h) (Or.inl ⟨by rfl, ?_⟩) hHeld ?_
        case refine_2 => (intro wq hq; dsimp only [opr]; go_simp; try (with_reducible rfl))
        try simp only [List.setIfInBounds_toArray, List.set_cons_zero, List.set_cons_succ]
        refine takeV (i := 2) 123 (Go.Op.move (Go.Operand.tmp 15)) 3 (v := ?_) (by kernel_rfl) (by kernel_rfl) (by kernel_rfl) (by kernel_rfl) (fun _ _ _ h => h) (Or.inl ⟨by rfl, ?_⟩) hHeld ?_
        case refine_2 => (intro wq hq; dsimp only [opr]; go_simp; try (with_reducible rfl))
        try simp only [List.setIfInBounds_toArray, List.set_cons_zero, List.set_cons_succ]
        refine takeV (i := 3) 124 (Go.Op.indexAddr 22 (Go.Operand.tmp 122) (Go.Operand.tmp 123)) 0 (v := ?_) (by kernel_rfl) (by kernel_rfl) (by kernel_rfl) (by kernel_rfl) (fun _ _ _ h => h) (Or.inl ⟨by rfl, ?_⟩) hHeld ?_
        case refine_2 => (intro wq hq; dsimp only [opr]; go_simp; try (with_reducible rfl))
        try simp only [List.setIfInBounds_toArray, List.set_cons_zero, List.set_cons_succ]
        refine takeV (i := 4) 125 (Go.Op.load 43 (Go.Operand.tmp 124)) 43 (v := .agg CQ) (by kernel_rfl) (by kernel_rfl) (by kernel_rfl) (by kernel_rfl) (fun _ _ _ h => h) (yieldsIf_load_arr (by rfl) 43 (Go.Operand.tmp 124) rfl qb (qo + k * 15) (by go_simp) CQ _ (fun wq hq => HRQ.out wq (HWX.out wq hq)) Tryd.underlying43 rfl HQL.out) hHeld ?_
        try simp only [List.setIfInBounds_toArray, List.set_cons_zero, List.set_cons_succ]
        refine takeV (i := 5) 126 (Go.Op.move (Go.Operand.tmp 2)) 22 (v := ?_) (by kernel_rfl) (by kernel_rfl) (by kernel_rfl) (by kernel_rfl) (fun _ _ _ h => h) (Or.inl ⟨by rfl, ?_⟩) hHeld ?_
        case refine_2 => (intro wq hq; dsimp only [opr]; go_simp; try (with_reducible rfl))
        try simp only [List.setIfInBounds_toArray, List.set_cons_zero, List.set_cons_succ]
        refine takeV (i := 6) 127 (Go.Op.move (Go.Operand.tmp 15)) 3 (v := ?_) (by kernel_rfl) (by kernel_rfl) (by kernel_rfl) (by kernel_rfl) (fun _ _ _ h => h) (Or.inl ⟨by rfl, ?_⟩) hHeld ?_
        case refine_2 => (intro wq hq; dsimp only [opr]; go_simp; try (with_reducible rfl))
        try simp only [List.setIfInBounds_toArray, List.set_cons_zero, List.set_cons_succ]
        refine takeV (i := 7) 128 (Go.Op.indexAddr 22 (Go.Operand.tmp 126) (Go.Operand.tmp 127)) 0 (v := ?_) (by kernel_rfl) (by kernel_rfl) (by kernel_rfl) (by kernel_rfl) (fun _ _ _ h => h) (Or.inl ⟨by rfl, ?_⟩) hHeld ?_
        case refine_2 => (intro wq hq; dsimp only [opr]; go_simp; try (with_reducible rfl))
        try simp only [List.setIfInBounds_toArray, List.set_cons_zero, List.set_cons_succ]
        refine takeV (i := 8) 129 (Go.Op.load 43 (Go.Operand.tmp 128)) 43 (v := .agg CA) (by kernel_rfl) (by kernel_rfl) (by kernel_rfl) (by kernel_rfl) (fun _ _ _ h => h) (yieldsIf_load_arr (by rfl) 43 (Go.Operand.tmp 128) rfl ab (ao + k * 15) (by go_simp) CA _ (fun wq hq => HRB.out wq (HWX.out wq hq)) Tryd.underlying43 rfl HAL.out) hHeld ?_
        try simp only [List.setIfInBounds_toArray, List.set_cons_zero, List.set_cons_succ]
        refine takeV (i := 9) 130 (Go.Op.move (Go.Operand.tmp 3)) 23 (v := ?_) (by kernel_rfl) (by kernel_rfl) (by kernel_rfl) (by kernel_rfl) (fun _ _ _ h => h) (Or.inl ⟨by rfl, ?_⟩) hHeld ?_
        case refine_2 => (intro wq hq; dsimp only [opr]; go_simp; try (with_reducible rfl))
        try simp only [List.setIfInBounds_toArray, List.set_cons_zero, List.set_cons_succ]
        refine takeV (i := 10) 131 (Go.Op.move (Go.Operand.tmp 15)) 3 (v := ?_) (by kernel_rfl) (by kernel_rfl) (by kernel_rfl) (by kernel_rfl) (fun _ _ _ h => h) (Or.inl ⟨by rfl, ?_⟩) hHeld ?_
        case refine_2 => (intro wq hq; dsimp only [opr]; go_simp; try (with_reducible rfl))
        try simp only [List.setIfInBounds_toArray, List.set_cons_zero, List.set_cons_succ]
        refine takeV (i := 11) 132 (Go.Op.indexAddr 23 (Go.Operand.tmp 130) (Go.Operand.tmp 131)) 0 (v := ?_) (by kernel_rfl) (by kernel_rfl) (by kernel_rfl) (by kernel_rfl) (fun _ _ _ h => h) (Or.inl ⟨by rfl, ?_⟩) hHeld ?_
        case refine_2 => (intro wq hq; dsimp only [opr]; go_simp; try (with_reducible rfl))
        try simp only [List.setIfInBounds_toArray, List.set_cons_zero, List.set_cons_succ]
        refine takeV (i := 12) 133 (Go.Op.load 3 (Go.Operand.tmp 132)) 3 (v := .int .i64 now) (by kernel_rfl) (by kernel_rfl) (by kernel_rfl) (by kernel_rfl) (fun _ _ _ h => h) (Or.inl ⟨by rfl, ?_⟩) hHeld ?_
        case refine_1 => (intro wq hq; have c0 := HTK.out wq (HWX.out wq hq); dsimp only [opr]; go_simp; try (with_reducible rfl))
        try simp only [List.setIfInBounds_toArray, List.set_cons_zero, List.set_cons_succ]
        refine wpAnyH_ready (rs := [13, 17]) (by kernel_rfl) (by simp) ?_
        refine AllReadyH.consV (some 134) (Go.Op.call { callee := Go.Callee.value (Go.Operand.func 10), args := #[Go.Operand.tmp 121, Go.Operand.tmp 125, Go.Operand.tmp 129, Go.Operand.tmp 133], argTypes := #[34, 43, 43, 3] }) 47 (by kernel_rfl) (fun K hK => ?_) ?_
        · refine opr_go 10 #[Go.Operand.tmp 121, Go.Operand.tmp 125, Go.Operand.tmp 129, Go.Operand.tmp 133] #[34, 43, 43, 3] (fun _ _ => by kernel_rfl) _ (vals4 (by go_simp) (by go_simp) (by go_simp) (by go_simp)) (HRP.out _ (HWX.out _ hHeld) (HR7.out.frH hHeld.f)) ?_
          rintro e wx1 ⟨va, vm, vc, vr, hvm, rfl, hra, hf1⟩
          have HVM := Lib.hid hvm
          refine ⟨_, rfl, ?_⟩
          have RC_1 := Lib.hid (hra)
          have hS2 := hHeld.fr0 hf1
          clear hf1 hHeld hvm hra
          refine hK.out _ _ hS2 (fun hHeld => ?_)
          clear hK K hS2
          try simp only [List.setIfInBounds_toArray, List.set_cons_zero, List.set_cons_succ]
          refine takeV (i := 14) 120 (Go.Op.move (Go.Operand.tmp 134)) 47 (v := ?_) (by kernel_rfl) (by kernel_rfl) (by kernel_rfl) (by kernel_rfl) (fun _ _ _ h => h) (Or.inl ⟨by rfl, ?_⟩) hHeld ?_
          case refine_2 => (intro wq hq; dsimp only [opr]; go_simp; try (with_reducible rfl))
          try simp only [List.setIfInBounds_toArray, List.set_cons_zero, List.set_cons_succ]
          refine takeV (i := 15) 135 (Go.Op.extract (Go.Operand.tmp 120) 0) 34 (v := ?_) (by kernel_rfl) (by kernel_rfl) (by kernel_rfl) (by kernel_rfl) (fun _ _ _ h => h) (Or.inl ⟨by rfl, ?_⟩) hHeld ?_
          case refine_2 => (intro wq hq; dsimp only [opr]; go_simp; try (with_reducible rfl))
          try simp only [List.setIfInBounds_toArray, List.set_cons_zero, List.set_cons_succ]
          refine takeV (i := 16) 136 (Go.Op.extract (Go.Operand.tmp 120) 1) 25 (v := ?_) (by kernel_rfl) (by kernel_rfl) (by kernel_rfl) (by kernel_rfl) (fun _ _ _ h => h) (Or.inl ⟨by rfl, ?_⟩) hHeld ?_
          case refine_2 => (intro wq hq; dsimp only [opr]; go_simp; try (with_reducible rfl))
          try simp only [List.setIfInBounds_toArray, List.set_cons_zero, List.set_cons_succ]
          refine wpAnyH_ready (rs := [17]) (by kernel_rfl) (by simp) ?_
          refine AllReadyH.consV (some 21) (Go.Op.alloc 34) 0 (by kernel_rfl) (fun K hK => ?_) AllReadyH.nil
          refine opr_alloc 34 zeroRCa (cs := #[.slice none 0 0, .int .i64 0]) rfl ?_
          intro bA wx2 hb2 hg2 hf2
          have RC_2 := Lib.hid (RC_1.out.frH (hf2.hot0 _))
          have A_2 := Lib.hid (hb2)
          have GA_2 := Lib.hid (show w7.heap.size ≤ bA from Nat.le_trans hHeld.f.size hg2)
          have hS2 := hHeld.fr0 hf2
          clear hf2 hHeld hb2 hg2
          refine hK.out _ _ hS2 (fun hHeld => ?_)
          clear hK K hS2
          try simp only [List.setIfInBounds_toArray, List.set_cons_zero, List.set_cons_succ]
          refine wpAnyH_ready (rs := [18]) (by kernel_rfl) (by simp) ?_
          refine AllReadyH.consV none (Go.Op.store 34 (Go.Operand.tmp 21) (Go.Operand.tmp 135)) 0 (by kernel_rfl) (fun K hK => ?_) AllReadyH.nil
          refine opr_store 34 (Go.Operand.tmp 21) (Go.Operand.tmp 135) bA #[.slice va vm vc, .int .i64 N] #[.slice none 0 0, .int .i64 0] 34 (by go_simp) (by go_simp; try rfl) A_2.out rfl infoRCa (by simp [Value.oneCell']) ?_
          intro wx3 hb3 hf3
          have RC_3 := Lib.hid (RC_2.out.frH (fr_hot hf3 A_2.out rfl (Nat.le_trans H17.out.size GA_2.out)))
          have A_3 := Lib.hid (hb3)
          have GA_3 := Lib.hid (GA_2.out)
          have hS2 := hHeld.st hf3 A_2.out rfl (Nat.le_trans H17.out.size GA_2.out) (Nat.ne_of_lt (Nat.lt_of_lt_of_le (lt_of_blk HB7.out) GA_2.out)) (by decide) (by decide)
          clear hf3 hHeld hb3
          refine hK.out _ _ hS2 (fun hHeld => ?_)
          clear hK K hS2
          try simp only [List.setIfInBounds_toArray, List.set_cons_zero, List.set_cons_succ]
          refine takeV (i := 19) 22 (Go.Op.assign (Go.Operand.tmp 136)) 25 (v := ?_) (by kernel_rfl) (by kernel_rfl) (by kernel_rfl) (by kernel_rfl) (fun _ _ _ h => h) (Or.inl ⟨by rfl, ?_⟩) hHeld ?_
          case refine_2 => (intro wq hq; dsimp only [opr]; go_simp; try (with_reducible rfl))
          try simp only [List.setIfInBounds_toArray, List.set_cons_zero, List.set_cons_succ]
          refine wpAnyH_done (by kernel_rfl) ?_ _
          have HREL := Lib.hid (show PCut ⟨w1.heap.size, []⟩ w7 pt (.cells #[.slice ra lr.length rc, .int .i64 N] 34 (0, 0)) w1.heap.size N v l PZ (fun r => if PZ = 0 then withGo N KL [(⟨KL, A k, now, lifeV (A k)⟩, r)] lr else lr) (.pointer (some ⟨bA, 0, none⟩)) (.int .i64 PZ) wx3 from ⟨bA, va, vm, vc, vr, rfl, rfl, HVM.out, A_3.out, RC_3.out, hHeld, GA_3.out⟩)
          go_wp2_with fail
          go_meet
          exact HREL.out
        refine AllReadyH.consV (some 21) (Go.Op.alloc 34) 0 (by kernel_rfl) (fun K hK => ?_) AllReadyH.nil
        refine opr_alloc 34 zeroRCa (cs := #[.slice none 0 0, .int .i64 0]) rfl ?_
        intro bA wx4 hb4 hg4 hf4
        have A_4 := Lib.hid (hb4)
        have GA_4 := Lib.hid (show w7.heap.size ≤ bA from Nat.le_trans hHeld.f.size hg4)
        have hS2 := hHeld.fr0 hf4
        clear hf4 hHeld hb4 hg4
        refine hK.out _ _ hS2 (fun hHeld => ?_)
        clear hK K hS2
        try simp only [List.setIfInBounds_toArray, List.set_cons_zero, List.set_cons_succ]
        refine wpAnyH_ready (rs := [13]) (by kernel_rfl) (by simp) ?_
        refine AllReadyH.consV (some 134) (Go.Op.call { callee := Go.Callee.value (Go.Operand.func 10), args := #[Go.Operand.tmp 121, Go.Operand.tmp 125, Go.Operand.tmp 129, Go.Operand.tmp 133], argTypes := #[34, 43, 43, 3] }) 47 (by kernel_rfl) (fun K hK => ?_) AllReadyH.nil
        refine opr_go 10 #[Go.Operand.tmp 121, Go.Operand.tmp 125, Go.Operand.tmp 129, Go.Operand.tmp 133] #[34, 43, 43, 3] (fun _ _ => by kernel_rfl) _ (vals4 (by go_simp) (by go_simp) (by go_simp) (by go_simp)) (HRP.out _ (HWX.out _ hHeld) (HR7.out.frH hHeld.f)) ?_
        rintro e wx5 ⟨va, vm, vc, vr, hvm, rfl, hra, hf5⟩
        have HVM := Lib.hid hvm
        refine ⟨_, rfl, ?_⟩
        have A_5 := Lib.hid (hf5.blk A_4.out (by simp))
        have GA_5 := Lib.hid (GA_4.out)
        have RC_5 := Lib.hid (hra)
        have hS2 := hHeld.fr0 hf5
        clear hf5 hHeld hvm hra
        refine hK.out _ _ hS2 (fun hHeld => ?_)
        clear hK K hS2
        try simp only [List.setIfInBounds_toArray, List.set_cons_zero, List.set_cons_succ]
        refine takeV (i := 14) 120 (Go.Op.move (Go.Operand.tmp 134)) 47 (v := ?_) (by kernel_rfl) (by kernel_rfl) (by kernel_rfl) (by kernel_rfl) (fun _ _ _ h => h) (Or.inl ⟨by rfl, ?_⟩) hHeld ?_
        case refine_2 => (intro wq hq; dsimp only [opr]; go_simp; try (with_reducible rfl))
        try simp only [List.setIfInBounds_toArray, List.set_cons_zero, List.set_cons_succ]
        refine takeV (i := 15) 135 (Go.Op.extract (Go.Operand.tmp 120) 0) 34 (v := ?_) (by kernel_rfl) (by kernel_rfl) (by kernel_rfl) (by kernel_rfl) (fun _ _ _ h => h) (Or.inl ⟨by rfl, ?_⟩) hHeld ?_
        case refine_2 => (intro wq hq; dsimp only [opr]; go_simp; try (with_reducible rfl))
        try simp only [List.setIfInBounds_toArray, List.set_cons_zero, List.set_cons_succ]
        refine takeV (i := 16) 136 (Go.Op.extract (Go.Operand.tmp 120) 1) 25 (v := ?_) (by kernel_rfl) (by kernel_rfl) (by kernel_rfl) (by kernel_rfl) (fun _ _ _ h => h) (Or.inl ⟨by rfl, ?_⟩) hHeld ?_
        case refine_2 => (intro wq hq; dsimp only [opr]; go_simp; try (with_reducible rfl))
        try simp only [List.setIfInBounds_toArray, List.set_cons_zero, List.set_cons_succ]
        refine wpAnyH_ready (rs := [18]) (by kernel_rfl) (by simp) ?_
        refine AllReadyH.consV none (Go.Op.store 34 (Go.Operand.tmp 21) (Go.Operand.tmp 135)) 0 (by kernel_rfl) (fun K hK => ?_) AllReadyH.nil
        refine opr_store 34 (Go.Operand.tmp 21) (Go.Operand.tmp 135) bA #[.slice va vm vc, .int .i64 N] #[.slice none 0 0, .int .i64 0] 34 (by go_simp) (by go_simp; try rfl) A_5.out rfl infoRCa (by simp [Value.oneCell']) ?_
        intro wx6 hb6 hf6
        have A_6 := Lib.hid (hb6)
        have GA_6 := Lib.hid (GA_5.out)
        have RC_6 := Lib.hid (RC_5.out.frH (fr_hot hf6 A_5.out rfl (Nat.le_trans H17.out.size GA_5.out)))
        have hS2 := hHeld.st hf6 A_5.out rfl (Nat.le_trans H17.out.size GA_5.out) (Nat.ne_of_lt (Nat.lt_of_lt_of_le (lt_of_blk HB7.out) GA_5.out)) (by decide) (by decide)
        clear hf6 hHeld hb6
        refine hK.out _ _ hS2 (fun hHeld => ?_)
        clear hK K hS2
        try simp only [List.setIfInBounds_toArray, List.set_cons_zero, List.set_cons_succ]
        refine takeV (i := 19) 22 (Go.Op.assign (Go.Operand.tmp 136)) 25 (v := ?_) (by kernel_rfl) (by kernel_rfl) (by kernel_rfl) (by kernel_rfl) (fun _ _ _ h => h) (Or.inl ⟨by rfl, ?_⟩) hHeld ?_
        case refine_2 => (intro wq hq; dsimp only [opr]; go_simp; try (with_reducible rfl))
        try simp only [List.setIfInBounds_toArray, List.set_cons_zero, List.set_cons_succ]
        refine wpAnyH_done (by kernel_rfl) ?_ _
        have HREL := Lib.hid (show PCut ⟨w1.heap.size, []⟩ w7 pt (.cells #[.slice ra lr.length rc, .int .i64 N] 34 (0, 0)) w1.heap.size N v l PZ (fun r => if PZ = 0 then withGo N KL [(⟨KL, A k, now, lifeV (A k)⟩, r)] lr else lr) (.pointer (some ⟨bA, 0, none⟩)) (.int .i64 PZ) wx6 from ⟨bA, va, vm, vc, vr, rfl, rfl, HVM.out, A_6.out, RC_6.out, hHeld, GA_6.out⟩)
        go_wp2_with fail
        go_meet
        exact HREL.out
      case rest =>
        obtain ⟨b, a, m, c, r, rfl, rfl, hm, hb, hrc, hsw, hge⟩ := hcut
        replace hm : m = (if PZ = 0 then withGo N KL [(⟨KL, A k, now, lifeV (A k)⟩, r)] lr else lr).length := hm
        replace hrc : RCa ⟨w1.heap.size, []⟩ _ (.slice a m c) (if PZ = 0 then withGo N KL [(⟨KL, A k, now, lifeV (A k)⟩, r)] lr else lr) := hrc
        have HM := Lib.hid hm
        have HBN := Lib.hid hb
        have HRN := Lib.hid hrc
        have HSW := Lib.hid hsw
        have HBR := Lib.hid (HBP.out r)
        have HKP := Lib.hid (put_keeps (n := N) KL (A k) PZ now (lifeV (A k)) r HN.out.1 HLN.out HAT.out HPZ.out)
        clear hm hb hrc hsw hge HBP HC7 HR7 HB7 HS7 HWX HRP HRG HPG HBG
        have c0 := blk_cell HBN.out 0 (v := .slice a m c) rfl
        have c1 := blk_cell HBN.out 1 (v := .int .i64 (N : Int)) rfl
        go_upto_region 24 with (first
          | ((with_reducible refine wpList_storeArr ?_ 34 (.tmp 14) (.tmp 137) ?_ pt #[.slice a m c, .int .i64 N] #[.slice ra lr.length rc, .int .i64 N] 34 ?_ ?_ ?_ ?_ ?_ ?_ ?_); rfl; rfl; rfl; rfl; exact HSW.out.b; rfl; exact infoRCa; (simp [Value.oneCell']); intro w8 hb8 hf8
             have HB8 := Lib.hid hb8
             have HO8 := Lib.hid (fr_hot (B := ⟨w1.heap.size, []⟩) hf8 HSW.out.b rfl (Nat.le_of_lt HPT.out))
             have HC8 := Lib.hid (HSW.out.c.keptT hf8 HSW.out.b (by decide) (by decide) HO8.out)
             have HR8 := Lib.hid (HRN.out.frH HO8.out)
             clear hb8 hf8)
          | fail)
        clear c0 c1
        have H18 := Lib.hid (fr_old HW1.out H17.out (HSW.out.f.trans HO8.out))
        have HW8 := Lib.hid (show Fr [] w w8 from HW1.out.trans H18.out (by simp))
        have HGE8 := Lib.hid (show ∀ x ∈ w1.heap.size :: v.ownBlock.toList, w1.heap.size ≤ x from fun x hx => by
          rcases List.mem_cons.1 hx with rfl | hx
          · exact Nat.le_refl _
          · obtain ⟨F, hF⟩ := HC8.out.row
            exact hF.ho.ge x hx)
        have HWY := Lib.hid (fun (wq : World) (h : Fr (w1.heap.size :: v.ownBlock.toList) w8 wq) => show Fr [] w wq from HW8.out.trans h (fun x hx => .inr (Nat.le_trans HW1.out.size (HGE8.out x hx))))
        have HAP := Lib.hid (show pt ∉ w1.heap.size :: v.ownBlock.toList from HC8.out.apartP HB8.out (by decide) (by decide))
        refine wp_region_held_drew (S := fun wx => Fr (w1.heap.size :: v.ownBlock.toList) w8 wx) (by kernel_rfl) ((Fr.refl _ w8).drew) (fun hHeld => ?_)
        refine takeV (i := 0) 138 (Go.Op.move (Go.Operand.tmp 11)) 26 (v := ?_) (by kernel_rfl) (by kernel_rfl) (by kernel_rfl) (by kernel_rfl) (fun _ _ _ h => h) (Or.inl ⟨by rfl, ?_⟩) hHeld ?_
        case refine_2 => (intro wq hq; dsimp only [opr]; go_simp; try (with_reducible rfl))
        try simp only [List.setIfInBounds_toArray, List.set_cons_zero, List.set_cons_succ]
        refine takeV (i := 1) 139 (Go.Op.move (Go.Operand.tmp 1)) 22 (v := ?_) (by kernel_rfl) (by kernel_rfl) (by kernel_rfl) (by kernel_rfl) (fun _ _ _ h => h) (Or.inl ⟨by rfl, ?_⟩) hHeld ?_
        case refine_2 => (intro wq hq; dsimp only [opr]; go_simp; try (with_reducible rfl))
        try simp only [List.setIfInBounds_toArray, List.set_cons_zero, List.set_cons_succ]
        refine takeV (i := 2) 140 (Go.Op.move (Go.Operand.tmp 15)) 3 (v := ?_) (by kernel_rfl) (by kernel_rfl) (by kernel_rfl) (by kernel_rfl) (fun _ _ _ h => h) (Or.inl ⟨by rfl, ?_⟩) hHeld ?_
        case refine_2 => (intro wq hq; dsimp only [opr]; go_simp; try (with_reducible rfl))
        try simp only [List.setIfInBounds_toArray, List.set_cons_zero, List.set_cons_succ]
        refine takeV (i := 3) 141 (Go.Op.indexAddr 22 (Go.Operand.tmp 139) (Go.Operand.tmp 140)) 0 (v := ?_) (by kernel_rfl) (by kernel_rfl) (by kernel_rfl) (by kernel_rfl) (fun _ _ _ h => h) (Or.inl ⟨by rfl, ?_⟩) hHeld ?_
        case refine_2 => (intro wq hq; dsimp only [opr]; go_simp; try (with_reducible rfl))
        try simp only [List.setIfInBounds_toArray, List.set_cons_zero, List.set_cons_succ]
        refine takeV (i := 4) 142 (Go.Op.load 43 (Go.Operand.tmp 141)) 43 (v := .agg CQ) (by kernel_rfl) (by kernel_rfl) (by kernel_rfl) (by kernel_rfl) (fun _ _ _ h => h) (yieldsIf_load_arr (by rfl) 43 (Go.Operand.tmp 141) rfl qb (qo + k * 15) (by go_simp) CQ _ (fun wq hq => HRQ.out wq (HWY.out wq hq)) Tryd.underlying43 rfl HQL.out) hHeld ?_
        try simp only [List.setIfInBounds_toArray, List.set_cons_zero, List.set_cons_succ]
        refine takeV (i := 5) 143 (Go.Op.move (Go.Operand.tmp 2)) 22 (v := ?_) (by kernel_rfl) (by kernel_rfl) (by kernel_rfl) (by kernel_rfl) (fun _ _ _ h => h) (Or.inl ⟨by rfl, ?_⟩) hHeld ?_
        case refine_2 => (intro wq hq; dsimp only [opr]; go_simp; try (with_reducible rfl))
        try simp only [List.setIfInBounds_toArray, List.set_cons_zero, List.set_cons_succ]
        refine takeV (i := 6) 144 (Go.Op.move (Go.Operand.tmp 15)) 3 (v := ?_) (by kernel_rfl) (by kernel_rfl) (by kernel_rfl) (by kernel_rfl) (fun _ _ _ h => h) (Or.inl ⟨by rfl, ?_⟩) hHeld ?_
        case refine_2 => (intro wq hq; dsimp only [opr]; go_simp; try (with_reducible rfl))
        try simp only [List.setIfInBounds_toArray, List.set_cons_zero, List.set_cons_succ]
        refine takeV (i := 7) 145 (Go.Op.indexAddr 22 (Go.Operand.tmp 143) (Go.Operand.tmp 144)) 0 (v := ?_) (by kernel_rfl) (by kernel_rfl) (by kernel_rfl) (by kernel_rfl) (fun _ _ _ h => h) (Or.inl ⟨by rfl, ?_⟩) hHeld ?_
        case refine_2 => (intro wq hq; dsimp only [opr]; go_simp; try (with_reducible rfl))
        try simp only [List.setIfInBounds_toArray, List.set_cons_zero, List.set_cons_succ]
        refine takeV (i := 8) 146 (Go.Op.load 43 (Go.Operand.tmp 145)) 43 (v := .agg CA) (by kernel_rfl) (by kernel_rfl) (by kernel_rfl) (by kernel_rfl) (fun _ _ _ h => h) (yieldsIf_load_arr (by rfl) 43 (Go.Operand.tmp 145) rfl ab (ao + k * 15) (by go_simp) CA _ (fun wq hq => HRB.out wq (HWY.out wq hq)) Tryd.underlying43 rfl HAL.out) hHeld ?_
        try simp only [List.setIfInBounds_toArray, List.set_cons_zero, List.set_cons_succ]
        refine takeV (i := 9) 147 (Go.Op.move (Go.Operand.tmp 3)) 23 (v := ?_) (by kernel_rfl) (by kernel_rfl) (by kernel_rfl) (by kernel_rfl) (fun _ _ _ h => h) (Or.inl ⟨by rfl, ?_⟩) hHeld ?_
        case refine_2 => (intro wq hq; dsimp only [opr]; go_simp; try (with_reducible rfl))
        try simp only [List.setIfInBounds_toArray, List.set_cons_zero, List.set_cons_succ]
        refine takeV (i := 10) 148 (Go.Op.move (Go.Operand.tmp 15)) 3 (v := ?_) (by kernel_rfl) (by kernel_rfl) (by kernel_rfl) (by kernel_rfl) (fun _ _ _ h => h) (Or.inl ⟨by rfl, ?_⟩) hHeld ?_
        case refine_2 => (intro wq hq; dsimp only [opr]; go_simp; try (with_reducible rfl))
        try simp only [List.setIfInBounds_toArray, List.set_cons_zero, List.set_cons_succ]
        refine takeV (i := 11) 149 (Go.Op.indexAddr 23 (Go.Operand.tmp 147) (Go.Operand.tmp 148)) 0 (v := ?_) (by kernel_rfl) (by kernel_rfl) (by kernel_rfl) (by kernel_rfl) (fun _ _ _ h => h) (Or.inl ⟨by rfl, ?_⟩) hHeld ?_
        case refine_2 => (intro wq hq; dsimp only [opr]; go_simp; try (with_reducible rfl))
        try simp only [List.setIfInBounds_toArray, List.set_cons_zero, List.set_cons_succ]
        refine takeV (i := 12) 150 (Go.Op.load 3 (Go.Operand.tmp 149)) 3 (v := .int .i64 now) (by kernel_rfl) (by kernel_rfl) (by kernel_rfl) (by kernel_rfl) (fun _ _ _ h => h) (Or.inl ⟨by rfl, ?_⟩) hHeld ?_
        case refine_1 => (intro wq hq; have c0 := HTK.out wq (HWY.out wq hq); dsimp only [opr]; go_simp; try (with_reducible rfl))
        try simp only [List.setIfInBounds_toArray, List.set_cons_zero, List.set_cons_succ]
        refine takeV (i := 14) 152 (Go.Op.move (Go.Operand.tmp 22)) 25 (v := ?_) (by kernel_rfl) (by kernel_rfl) (by kernel_rfl) (by kernel_rfl) (fun _ _ _ h => h) (Or.inl ⟨by rfl, ?_⟩) hHeld ?_
        case refine_2 => (intro wq hq; dsimp only [opr]; go_simp; try (with_reducible rfl))
        try simp only [List.setIfInBounds_toArray, List.set_cons_zero, List.set_cons_succ]
        refine wpAnyH_ready (rs := [13]) (by kernel_rfl) (by simp) ?_
        refine AllReadyH.consV (some 151) (Go.Op.call { callee := Go.Callee.value (Go.Operand.func 11), args := #[Go.Operand.tmp 138, Go.Operand.tmp 142, Go.Operand.tmp 146, Go.Operand.tmp 150], argTypes := #[26, 43, 43, 3] }) 28 (by kernel_rfl) (fun K hK => ?_) AllReadyH.nil
        refine opr_go 11 #[Go.Operand.tmp 138, Go.Operand.tmp 142, Go.Operand.tmp 146, Go.Operand.tmp 150] #[26, 43, 43, 3] (fun _ _ => by kernel_rfl) _ (vals4 (by go_simp) (by go_simp) (by go_simp) (by go_simp)) (HPP.out w8.drew HW8.out.drew H18.out.size (HC8.out.fr0 ((Fr.refl [] w8).drew))) ?_
        rintro e wx1 ⟨v9, rfl, hca, hfh, hf1⟩
        refine ⟨_, rfl, ?_⟩
        have CA_1 := Lib.hid (hca)
        have FH_1 := Lib.hid (show FrH _ w8 wx1 from (((Fr.refl [] w8).drew).hot0 _).trans hfh)
        have hS2 := hHeld.trans hf1 (fun x hx => .inl hx)
        clear hf1 hHeld hca hfh
        refine hK.out _ _ hS2 (fun hHeld => ?_)
        clear hK K hS2
        try simp only [List.setIfInBounds_toArray, List.set_cons_zero, List.set_cons_succ]
        refine wpAnyH_ready (rs := [15]) (by kernel_rfl) (by simp) ?_
        refine AllReadyH.consV (some 153) (Go.Op.call { callee := Go.Callee.value (Go.Operand.func 6), args := #[Go.Operand.tmp 151, Go.Operand.tmp 152], argTypes := #[28, 25] }) 4 (by kernel_rfl) (fun K hK => ?_) AllReadyH.nil
        refine opr_go 6 #[Go.Operand.tmp 151, Go.Operand.tmp 152] #[28, 25] (fun _ _ => by kernel_rfl) _ (vals2 (by go_simp) (by go_simp)) (HER.out _ (HWY.out _ hHeld) PZ) ?_
        rintro e wx2 ⟨rfl, hf2⟩
        refine ⟨_, rfl, ?_⟩
        have CA_2 := Lib.hid (CA_1.out.fr0 hf2)
        have FH_2 := Lib.hid (FH_1.out.trans (hf2.hot0 _))
        have hS2 := hHeld.trans hf2 (by simp)
        clear hf2 hHeld
        refine hK.out _ _ hS2 (fun hHeld => ?_)
        clear hK K hS2
        try simp only [List.setIfInBounds_toArray, List.set_cons_zero, List.set_cons_succ]
        refine takeV (i := 16) 13 (Go.Op.assign (Go.Operand.tmp 153)) 4 (v := ?_) (by kernel_rfl) (by kernel_rfl) (by kernel_rfl) (by kernel_rfl) (fun _ _ _ h => h) (Or.inl ⟨by rfl, ?_⟩) hHeld ?_
        case refine_2 => (intro wq hq; dsimp only [opr]; go_simp; try (with_reducible rfl))
        try simp only [List.setIfInBounds_toArray, List.set_cons_zero, List.set_cons_succ]
        refine wpAnyH_done (by kernel_rfl) ?_ _
        have HO9 := Lib.hid hHeld
        clear hHeld
        have HREL := Lib.hid (show CTL w1 N w1.heap.size pt wx2 from ⟨v9, _, a, c, _, CA_2.out, by rw [← HM.out]; exact HR8.out.frH FH_2.out, by rw [← HM.out]; exact HO9.out.blk HB8.out HAP.out, HBR.out.1, HBR.out.2, HKP.out.1, HKP.out.2, H18.out.trans HO9.out (fun x hx => .inr (HGE8.out x hx))⟩)
        go_wp2_with fail
        go_roundw
        case rel => exact ⟨k + 1, by omega, by go_num, HREL.out⟩
        case measure => (simp [intOf]; omega)
    · have han' : (A k).h.an = false := by simpa using han
      rw [han'] at hra1
      go_upto_region 27 with fail
      clear hra1 han han' HRP HPP HBP HRB HAL HSA HPZ HAN1
      have HRK := Lib.hid (rGet_keeps (Q k) now HN.out.1 HLN.out HAT.out)
      generalize pGet (N : Int) l (Q k) now = PG at *
      generalize rGet N lr (Q k) now = RG at *
      obtain ⟨pb1, pm, pl⟩ := PG
      obtain ⟨rb1, rm, rl⟩ := RG
      dsimp only at HPG HRG HBG HRK
      have hbb := HBG.out.1
      subst hbb
      have HWX := Lib.hid (fun (wq : World) (h : SW ⟨w1.heap.size, []⟩ w7 pt (.cells #[.slice ra lr.length rc, .int .i64 N] 34 (0, 0)) w1.heap.size N v l wq) => show Fr [] w wq from HW1.out.trans (fr_old HW1.out H17.out h.f) (by simp))
      have HS7 := Lib.hid (show SW ⟨w1.heap.size, []⟩ w7 pt (.cells #[.slice ra lr.length rc, .int .i64 N] 34 (0, 0)) w1.heap.size N v l w7.drew from (⟨FrH.refl _ _, HB7.out, HC7.out⟩ : SW ⟨w1.heap.size, []⟩ w7 pt (.cells #[.slice ra lr.length rc, .int .i64 N] 34 (0, 0)) w1.heap.size N v l w7).fr0 ((Fr.refl [] w7).drew))
      go_cut [23, 24, 25, 17] (fun p q v1 u wy => GCut ⟨w1.heap.size, []⟩ w7 pt (.cells #[.slice ra lr.length rc, .int .i64 N] 34 (0, 0)) w1.heap.size N v l KF pb1 rm rl p q v1 u wy)
      case first =>
        refine wp_region_held_drew (S := fun wx => SW ⟨w1.heap.size, []⟩ w7 pt (.cells #[.slice ra lr.length rc, .int .i64 N] 34 (0, 0)) w1.heap.size N v l wx) (by kernel_rfl) HS7.out (fun hHeld => ?_)
        refine takeV (i := 0) 157 (Go.Op.load 34 (Go.Operand.tmp 14)) 34 (v := .agg #[.slice ra lr.length rc, .int .i64 N]) (by kernel_rfl) (by kernel_rfl) (by kernel_rfl) (by kernel_rfl) (fun _ _ _ h => h) (Or.inl ⟨by rfl, ?_⟩) hHeld ?_
        case refine_1 => (intro wq hq; have c0 := blk_cell hq.b 0 (v := .slice ra lr.length rc) rfl; have c1 := blk_cell hq.b 1 (v := .int .i64 N) rfl; dsimp only [opr]; go_simp; try (with_reducible rfl))
        try simp only [List.setIfInBounds_toArray, List.set_cons_zero, List.set_cons_succ]
        refine takeV (i := 1) 158 (Go.Op.move (Go.Operand.tmp 1)) 22 (v := ?_) (by kernel_rfl) (by kernel_rfl) (by kernel_rfl) (by kernel_rfl) (fun _ _ _ h => h) (Or.inl ⟨by rfl, ?_⟩) hHeld ?_
        case refine_2 => (intro wq hq; dsimp only [opr]; go_simp; try (with_reducible rfl))
        try simp only [List.setIfInBounds_toArray, List.set_cons_zero, List.set_cons_succ]
        refine takeV (i := 2) 159 (Go.Op.move (Go.Operand.tmp 15)) 3 (v := ?_) (by kernel_rfl) (by kernel_rfl) (by kernel_rfl) (by kernel_rfl) (fun _ _ _ h => h) (Or.inl ⟨by rfl, ?_⟩) hHeld ?_
        case refine_2 => (intro wq hq; dsimp only [opr]; go_simp; try (with_reducible rfl))
        try simp only [List.setIfInBounds_toArray, List.set_cons_zero, List.set_cons_succ]
        refine takeV (i := 3) 160 (Go.Op.indexAddr 22 (Go.Operand.tmp 158) (Go.Operand.tmp 159)) 0 (v := ?_) (by kernel_rfl) (by kernel_rfl) (by kernel_rfl) (by kernel_rfl) (fun _ _ _ h => h) (Or.inl ⟨by rfl, ?_⟩) hHeld ?_
        case refine_2 => (intro wq hq; dsimp only [opr]; go_simp; try (with_reducible rfl))
        try simp only [List.setIfInBounds_toArray, List.set_cons_zero, List.set_cons_succ]
        refine takeV (i := 4) 161 (Go.Op.load 43 (Go.Operand.tmp 160)) 43 (v := .agg CQ) (by kernel_rfl) (by kernel_rfl) (by kernel_rfl) (by kernel_rfl) (fun _ _ _ h => h) (yieldsIf_load_arr (by rfl) 43 (Go.Operand.tmp 160) rfl qb (qo + k * 15) (by go_simp) CQ _ (fun wq hq => HRQ.out wq (HWX.out wq hq)) Tryd.underlying43 rfl HQL.out) hHeld ?_
        try simp only [List.setIfInBounds_toArray, List.set_cons_zero, List.set_cons_succ]
        refine takeV (i := 5) 162 (Go.Op.move (Go.Operand.tmp 3)) 23 (v := ?_) (by kernel_rfl) (by kernel_rfl) (by kernel_rfl) (by kernel_rfl) (fun _ _ _ h => h) (Or.inl ⟨by rfl, ?_⟩) hHeld ?_
        case refine_2 => (intro wq hq; dsimp only [opr]; go_simp; try (with_reducible rfl))
        try simp only [List.setIfInBounds_toArray, List.set_cons_zero, List.set_cons_succ]
        refine takeV (i := 6) 163 (Go.Op.move (Go.Operand.tmp 15)) 3 (v := ?_) (by kernel_rfl) (by kernel_rfl) (by kernel_rfl) (by kernel_rfl) (fun _ _ _ h => h) (Or.inl ⟨by rfl, ?_⟩) hHeld ?_
        case refine_2 => (intro wq hq; dsimp only [opr]; go_simp; try (with_reducible rfl))
        try simp only [List.setIfInBounds_toArray, List.set_cons_zero, List.set_cons_succ]
        refine takeV (i := 7) 164 (Go.Op.indexAddr 23 (Go.Operand.tmp 162) (Go.Operand.tmp 163)) 0 (v := ?_) (by kernel_rfl) (by kernel_rfl) (by kernel_rfl) (by kernel_rfl) (fun _ _ _ h => h) (Or.inl ⟨by rfl, ?_⟩) hHeld ?_
        case refine_2 => (intro wq hq; dsimp only [opr]; go_simp; try (with_reducible rfl))
        try simp only [List.setIfInBounds_toArray, List.set_cons_zero, List.set_cons_succ]
        refine takeV (i := 8) 165 (Go.Op.load 3 (Go.Operand.tmp 164)) 3 (v := .int .i64 now) (by kernel_rfl) (by kernel_rfl) (by kernel_rfl) (by kernel_rfl) (fun _ _ _ h => h) (Or.inl ⟨by rfl, ?_⟩) hHeld ?_
        case refine_1 => (intro wq hq; have c0 := HTK.out wq (HWX.out wq hq); dsimp only [opr]; go_simp; try (with_reducible rfl))
        try simp only [List.setIfInBounds_toArray, List.set_cons_zero, List.set_cons_succ]
        refine wpAnyH_ready (rs := [9, 15, 16]) (by kernel_rfl) (by simp) ?_
        refine AllReadyH.consV (some 166) (Go.Op.call { callee := Go.Callee.value (Go.Operand.func 12), args := #[Go.Operand.tmp 157, Go.Operand.tmp 161, Go.Operand.tmp 165], argTypes := #[34, 43, 3] }) 50 (by kernel_rfl) (fun K hK => ?_) ?_
        · refine opr_go 12 #[Go.Operand.tmp 157, Go.Operand.tmp 161, Go.Operand.tmp 165] #[34, 43, 3] (fun _ _ => by kernel_rfl) _ (vals3 (by go_simp) (by go_simp) (by go_simp)) (HRG.out _ (HWX.out _ hHeld) (HR7.out.frH hHeld.f)) ?_
          rintro e wx1 ⟨va, vm, vc, CM, xq, xv, xu, xm, hvm, hcm, rfl, hmm, hra, hf1⟩
          have HVM := Lib.hid hvm
          have HCM := Lib.hid hcm
          have HON := Lib.hid (show CM.all (·.oneCell') = true by rw [hcm]; exact hmm.one_cells)
          have HC15 := Lib.hid (show CM.size = 15 by rw [hcm]; rfl)
          refine ⟨_, rfl, ?_⟩
          have RC_1 := Lib.hid (hra)
          have MO_1 := Lib.hid (hmm)
          have hS2 := hHeld.fr0 hf1
          clear hf1 hHeld hvm hcm hra hmm
          refine hK.out _ _ hS2 (fun hHeld => ?_)
          clear hK K hS2
          try simp only [List.setIfInBounds_toArray, List.set_cons_zero, List.set_cons_succ]
          refine takeV (i := 10) 156 (Go.Op.move (Go.Operand.tmp 166)) 50 (v := ?_) (by kernel_rfl) (by kernel_rfl) (by kernel_rfl) (by kernel_rfl) (fun _ _ _ h => h) (Or.inl ⟨by rfl, ?_⟩) hHeld ?_
          case refine_2 => (intro wq hq; dsimp only [opr]; go_simp; try (with_reducible rfl))
          try simp only [List.setIfInBounds_toArray, List.set_cons_zero, List.set_cons_succ]
          refine takeV (i := 11) 167 (Go.Op.extract (Go.Operand.tmp 156) 0) 34 (v := ?_) (by kernel_rfl) (by kernel_rfl) (by kernel_rfl) (by kernel_rfl) (fun _ _ _ h => h) (Or.inl ⟨by rfl, ?_⟩) hHeld ?_
          case refine_2 => (intro wq hq; dsimp only [opr]; go_simp; try (with_reducible rfl))
          try simp only [List.setIfInBounds_toArray, List.set_cons_zero, List.set_cons_succ]
          refine takeV (i := 12) 168 (Go.Op.extract (Go.Operand.tmp 156) 1) 43 (v := ?_) (by kernel_rfl) (by kernel_rfl) (by kernel_rfl) (by kernel_rfl) (fun _ _ _ h => h) (Or.inl ⟨by rfl, ?_⟩) hHeld ?_
          case refine_2 => (intro wq hq; dsimp only [opr]; go_simp; try (with_reducible rfl))
          try simp only [List.setIfInBounds_toArray, List.set_cons_zero, List.set_cons_succ]
          refine takeV (i := 13) 169 (Go.Op.extract (Go.Operand.tmp 156) 2) 4 (v := ?_) (by kernel_rfl) (by kernel_rfl) (by kernel_rfl) (by kernel_rfl) (fun _ _ _ h => h) (Or.inl ⟨by rfl, ?_⟩) hHeld ?_
          case refine_2 => (intro wq hq; dsimp only [opr]; go_simp; try (with_reducible rfl))
          try simp only [List.setIfInBounds_toArray, List.set_cons_zero, List.set_cons_succ]
          refine takeV (i := 14) 170 (Go.Op.extract (Go.Operand.tmp 156) 3) 25 (v := ?_) (by kernel_rfl) (by kernel_rfl) (by kernel_rfl) (by kernel_rfl) (fun _ _ _ h => h) (Or.inl ⟨by rfl, ?_⟩) hHeld ?_
          case refine_2 => (intro wq hq; dsimp only [opr]; go_simp; try (with_reducible rfl))
          try simp only [List.setIfInBounds_toArray, List.set_cons_zero, List.set_cons_succ]
          refine wpAnyH_ready (rs := [15, 16]) (by kernel_rfl) (by simp) ?_
          refine AllReadyH.consV (some 23) (Go.Op.alloc 34) 0 (by kernel_rfl) (fun K hK => ?_) ?_
          · refine opr_alloc 34 zeroRCa (cs := #[.slice none 0 0, .int .i64 0]) rfl ?_
            intro bA wx2 hb2 hg2 hf2
            have RC_2 := Lib.hid (RC_1.out.frH (hf2.hot0 _))
            have MO_2 := Lib.hid (MO_1.out.frH (hf2.hot0 _))
            have A_2 := Lib.hid (hb2)
            have GA_2 := Lib.hid (show w7.heap.size ≤ bA from Nat.le_trans hHeld.f.size hg2)
            have hS2 := hHeld.fr0 hf2
            clear hf2 hHeld hb2 hg2
            refine hK.out _ _ hS2 (fun hHeld => ?_)
            clear hK K hS2
            try simp only [List.setIfInBounds_toArray, List.set_cons_zero, List.set_cons_succ]
            refine wpAnyH_ready (rs := [16]) (by kernel_rfl) (by simp) ?_
            refine AllReadyH.consV (some 24) (Go.Op.alloc 43) 0 (by kernel_rfl) (fun K hK => ?_) AllReadyH.nil
            refine opr_alloc 43 zeroMsg (cs := #[.int .i64 0, .bool false, .int .i64 0, .bool false, .bool false, .bool false, .bool false, .bool false, .bool false, .bool false, .int .i64 0, .slice none 0 0, .slice none 0 0, .slice none 0 0, .slice none 0 0]) rfl ?_
            intro bM wx3 hb3 hg3 hf3
            have RC_3 := Lib.hid (RC_2.out.frH (hf3.hot0 _))
            have MO_3 := Lib.hid (MO_2.out.frH (hf3.hot0 _))
            have A_3 := Lib.hid (hf3.blk A_2.out (by simp))
            have GA_3 := Lib.hid (GA_2.out)
            have M_3 := Lib.hid (hb3)
            have GM_3 := Lib.hid (show w7.heap.size ≤ bM from Nat.le_trans hHeld.f.size hg3)
            have hS2 := hHeld.fr0 hf3
            clear hf3 hHeld hb3 hg3
            refine hK.out _ _ hS2 (fun hHeld => ?_)
            clear hK K hS2
            try simp only [List.setIfInBounds_toArray, List.set_cons_zero, List.set_cons_succ]
            refine wpAnyH_ready (rs := [17]) (by kernel_rfl) (by simp) ?_
            refine AllReadyH.consV none (Go.Op.store 34 (Go.Operand.tmp 23) (Go.Operand.tmp 167)) 0 (by kernel_rfl) (fun K hK => ?_) AllReadyH.nil
            refine opr_store 34 (Go.Operand.tmp 23) (Go.Operand.tmp 167) bA #[.slice va vm vc, .int .i64 N] #[.slice none 0 0, .int .i64 0] 34 (by go_simp) (by go_simp; try rfl) A_3.out rfl infoRCa (by simp [Value.oneCell']) ?_
            intro wx4 hb4 hf4
            have RC_4 := Lib.hid (RC_3.out.frH (fr_hot hf4 A_3.out rfl (Nat.le_trans H17.out.size GA_3.out)))
            have MO_4 := Lib.hid (MO_3.out.frH (fr_hot hf4 A_3.out rfl (Nat.le_trans H17.out.size GA_3.out)))
            have A_4 := Lib.hid (hb4)
            have GA_4 := Lib.hid (GA_3.out)
            have M_4 := Lib.hid (hf4.blk M_3.out (by simp only [List.mem_cons, List.not_mem_nil, or_false]; exact blk_neT M_3.out A_3.out (by decide)))
            have GM_4 := Lib.hid (GM_3.out)
            have hS2 := hHeld.st hf4 A_3.out rfl (Nat.le_trans H17.out.size GA_3.out) (Nat.ne_of_lt (Nat.lt_of_lt_of_le (lt_of_blk HB7.out) GA_3.out)) (by decide) (by decide)
            clear hf4 hHeld hb4
            refine hK.out _ _ hS2 (fun hHeld => ?_)
            clear hK K hS2
            try simp only [List.setIfInBounds_toArray, List.set_cons_zero, List.set_cons_succ]
            refine wpAnyH_ready (rs := [18]) (by kernel_rfl) (by simp) ?_
            refine AllReadyH.consV none (Go.Op.store 43 (Go.Operand.tmp 24) (Go.Operand.tmp 168)) 0 (by kernel_rfl) (fun K hK => ?_) AllReadyH.nil
            refine opr_store 43 (Go.Operand.tmp 24) (Go.Operand.tmp 168) bM CM #[.int .i64 0, .bool false, .int .i64 0, .bool false, .bool false, .bool false, .bool false, .bool false, .bool false, .bool false, .int .i64 0, .slice none 0 0, .slice none 0 0, .slice none 0 0, .slice none 0 0] 43 (by go_simp) (by go_simp; try rfl) M_4.out (by rw [HC15.out]; rfl) (by rw [HC15.out]; exact infoMsg15) HON.out ?_
            intro wx5 hb5 hf5
            have RC_5 := Lib.hid (RC_4.out.frH (fr_hot hf5 M_4.out rfl (Nat.le_trans H17.out.size GM_4.out)))
            have MO_5 := Lib.hid (MO_4.out.frH (fr_hot hf5 M_4.out rfl (Nat.le_trans H17.out.size GM_4.out)))
            have A_5 := Lib.hid (hf5.blk A_4.out (by simp only [List.mem_cons, List.not_mem_nil, or_false]; exact blk_neT A_4.out M_4.out (by decide)))
            have GA_5 := Lib.hid (GA_4.out)
            have M_5 := Lib.hid (hb5)
            have GM_5 := Lib.hid (GM_4.out)
            have hS2 := hHeld.st hf5 M_4.out rfl (Nat.le_trans H17.out.size GM_4.out) (Nat.ne_of_lt (Nat.lt_of_lt_of_le (lt_of_blk HB7.out) GM_4.out)) (by decide) (by decide)
            clear hf5 hHeld hb5
            refine hK.out _ _ hS2 (fun hHeld => ?_)
            clear hK K hS2
            try simp only [List.setIfInBounds_toArray, List.set_cons_zero, List.set_cons_succ]
            refine takeV (i := 19) 25 (Go.Op.assign (Go.Operand.tmp 169)) 4 (v := ?_) (by kernel_rfl) (by kernel_rfl) (by kernel_rfl) (by kernel_rfl) (fun _ _ _ h => h) (Or.inl ⟨by rfl, ?_⟩) hHeld ?_
            case refine_2 => (intro wq hq; dsimp only [opr]; go_simp; try (with_reducible rfl))
            try simp only [List.setIfInBounds_toArray, List.set_cons_zero, List.set_cons_succ]
            refine takeV (i := 20) 17 (Go.Op.assign (Go.Operand.tmp 170)) 25 (v := ?_) (by kernel_rfl) (by kernel_rfl) (by kernel_rfl) (by kernel_rfl) (fun _ _ _ h => h) (Or.inl ⟨by rfl, ?_⟩) hHeld ?_
            case refine_2 => (intro wq hq; dsimp only [opr]; go_simp; try (with_reducible rfl))
            try simp only [List.setIfInBounds_toArray, List.set_cons_zero, List.set_cons_succ]
            refine wpAnyH_done (by kernel_rfl) ?_ _
            have HREL := Lib.hid (show GCut ⟨w1.heap.size, []⟩ w7 pt (.cells #[.slice ra lr.length rc, .int .i64 N] 34 (0, 0)) w1.heap.size N v l KF pb1 rm rl (.pointer (some ⟨bA, 0, none⟩)) (.pointer (some ⟨bM, 0, none⟩)) (.bool pb1) (.int .i64 KF) wx5 from ⟨bA, bM, va, vm, vc, CM, xq, xv, xu, xm, rfl, rfl, rfl, rfl, HVM.out, A_5.out, M_5.out, HCM.out, MO_5.out, RC_5.out, hHeld, GA_5.out, GM_5.out⟩)
            go_wp2_with fail
            go_meet
            exact HREL.out
          refine AllReadyH.consV (some 24) (Go.Op.alloc 43) 0 (by kernel_rfl) (fun K hK => ?_) AllReadyH.nil
          refine opr_alloc 43 zeroMsg (cs := #[.int .i64 0, .bool false, .int .i64 0, .bool false, .bool false, .bool false, .bool false, .bool false, .bool false, .bool false, .int .i64 0, .slice none 0 0, .slice none 0 0, .slice none 0 0, .slice none 0 0]) rfl ?_
          intro bM wx6 hb6 hg6 hf6
          have RC_6 := Lib.hid (RC_1.out.frH (hf6.hot0 _))
          have MO_6 := Lib.hid (MO_1.out.frH (hf6.hot0 _))
          have M_6 := Lib.hid (hb6)
          have GM_6 := Lib.hid (show w7.heap.size ≤ bM from Nat.le_trans hHeld.f.size hg6)
          have hS2 := hHeld.fr0 hf6
          clear hf6 hHeld hb6 hg6
          refine hK.out _ _ hS2 (fun hHeld => ?_)
          clear hK K hS2
          try simp only [List.setIfInBounds_toArray, List.set_cons_zero, List.set_cons_succ]
          refine wpAnyH_ready (rs := [15]) (by kernel_rfl) (by simp) ?_
          refine AllReadyH.consV (some 23) (Go.Op.alloc 34) 0 (by kernel_rfl) (fun K hK => ?_) AllReadyH.nil
          refine opr_alloc 34 zeroRCa (cs := #[.slice none 0 0, .int .i64 0]) rfl ?_
          intro bA wx7 hb7 hg7 hf7
          have RC_7 := Lib.hid (RC_6.out.frH (hf7.hot0 _))
          have MO_7 := Lib.hid (MO_6.out.frH (hf7.hot0 _))
          have M_7 := Lib.hid (hf7.blk M_6.out (by simp))
          have GM_7 := Lib.hid (GM_6.out)
          have A_7 := Lib.hid (hb7)
          have GA_7 := Lib.hid (show w7.heap.size ≤ bA from Nat.le_trans hHeld.f.size hg7)
          have hS2 := hHeld.fr0 hf7
          clear hf7 hHeld hb7 hg7
          refine hK.out _ _ hS2 (fun hHeld => ?_)
          clear hK K hS2
          try simp only [List.setIfInBounds_toArray, List.set_cons_zero, List.set_cons_succ]
          refine wpAnyH_ready (rs := [17]) (by kernel_rfl) (by simp) ?_
          refine AllReadyH.consV none (Go.Op.store 34 (Go.Operand.tmp 23) (Go.Operand.tmp 167)) 0 (by kernel_rfl) (fun K hK => ?_) AllReadyH.nil
          refine opr_store 34 (Go.Operand.tmp 23) (Go.Operand.tmp 167) bA #[.slice va vm vc, .int .i64 N] #[.slice none 0 0, .int .i64 0] 34 (by go_simp) (by go_simp; try rfl) A_7.out rfl infoRCa (by simp [Value.oneCell']) ?_
          intro wx8 hb8 hf8
          have RC_8 := Lib.hid (RC_7.out.frH (fr_hot hf8 A_7.out rfl (Nat.le_trans H17.out.size GA_7.out)))
          have MO_8 := Lib.hid (MO_7.out.frH (fr_hot hf8 A_7.out rfl (Nat.le_trans H17.out.size GA_7.out)))
          have M_8 := Lib.hid (hf8.blk M_7.out (by simp only [List.mem_cons, List.not_mem_nil, or_false]; exact blk_neT M_7.out A_7.out (by decide)))
          have GM_8 := Lib.hid (GM_7.out)
          have A_8 := Lib.hid (hb8)
          have GA_8 := Lib.hid (GA_7.out)
          have hS2 := hHeld.st hf8 A_7.out rfl (Nat.le_trans H17.out.size GA_7.out) (Nat.ne_of_lt (Nat.lt_of_lt_of_le (lt_of_blk HB7.out) GA_7.out)) (by decide) (by decide)
          clear hf8 hHeld hb8
          refine hK.out _ _ hS2 (fun hHeld => ?_)
          clear hK K hS2
          try simp only [List.setIfInBounds_toArray, List.set_cons_zero, List.set_cons_succ]
          refine wpAnyH_ready (rs := [18]) (by kernel_rfl) (by simp) ?_
          refine AllReadyH.consV none (Go.Op.store 43 (Go.Operand.tmp 24) (Go.Operand.tmp 168)) 0 (by kernel_rfl) (fun K hK => ?_) AllReadyH.nil
          refine opr_store 43 (Go.Operand.tmp 24) (Go.Operand.tmp 168) bM CM #[.int .i64 0, .bool false, .int .i64 0, .bool false, .bool false, .bool false, .bool false, .bool false, .bool false, .bool false, .int .i64 0, .slice none 0 0, .slice none 0 0, .slice none 0 0, .slice none 0 0] 43 (by go_simp) (by go_simp; try rfl) M_8.out (by rw [HC15.out]; rfl) (by rw [HC15.out]; exact infoMsg15) HON.out ?_
          intro wx9 hb9 hf9
          have RC_9 := Lib.hid (RC_8.out.frH (fr_hot hf9 M_8.out rfl (Nat.le_trans H17.out.size GM_8.out)))
          have MO_9 := Lib.hid (MO_8.out.frH (fr_hot hf9 M_8.out rfl (Nat.le_trans H17.out.size GM_8.out)))
          have M_9 := Lib.hid (hb9)
          have GM_9 := Lib.hid (GM_8.out)
          have A_9 := Lib.hid (hf9.blk A_8.out (by simp only [List.mem_cons, List.not_mem_nil, or_false]; exact blk_neT A_8.out M_8.out (by decide)))
          have GA_9 := Lib.hid (GA_8.out)
          have hS2 := hHeld.st hf9 M_8.out rfl (Nat.le_trans H17.out.size GM_8.out) (Nat.ne_of_lt (Nat.lt_of_lt_of_le (lt_of_blk HB7.out) GM_8.out)) (by decide) (by decide)
          clear hf9 hHeld hb9
          refine hK.out _ _ hS2 (fun hHeld => ?_)
          clear hK K hS2
          try simp only [List.setIfInBounds_toArray, List.set_cons_zero, List.set_cons_succ]
          refine takeV (i := 19) 25 (Go.Op.assign (Go.Operand.tmp 169)) 4 (v := ?_) (by kernel_rfl) (by kernel_rfl) (by kernel_rfl) (by kernel_rfl) (fun _ _ _ h => h) (Or.inl ⟨by rfl, ?_⟩) hHeld ?_
          case refine_2 => (intro wq hq; dsimp only [opr]; go_simp; try (with_reducible rfl))
          try simp only [List.setIfInBounds_toArray, List.set_cons_zero, List.set_cons_succ]
          refine takeV (i := 20) 17 (Go.Op.assign (Go.Operand.tmp 170)) 25 (v := ?_) (by kernel_rfl) (by kernel_rfl) (by kernel_rfl) (by kernel_rfl) (fun _ _ _ h => h) (Or.inl ⟨by rfl, ?_⟩) hHeld ?_
          case refine_2 => (intro wq hq; dsimp only [opr]; go_simp; try (with_reducible rfl))
          try simp only [List.setIfInBounds_toArray, List.set_cons_zero, List.set_cons_succ]
          refine wpAnyH_done (by kernel_rfl) ?_ _
          have HREL := Lib.hid (show GCut ⟨w1.heap.size, []⟩ w7 pt (.cells #[.slice ra lr.length rc, .int .i64 N] 34 (0, 0)) w1.heap.size N v l KF pb1 rm rl (.pointer (some ⟨bA, 0, none⟩)) (.pointer (some ⟨bM, 0, none⟩)) (.bool pb1) (.int .i64 KF) wx9 from ⟨bA, bM, va, vm, vc, CM, xq, xv, xu, xm, rfl, rfl, rfl, rfl, HVM.out, A_9.out, M_9.out, HCM.out, MO_9.out, RC_9.out, hHeld, GA_9.out, GM_9.out⟩)
          go_wp2_with fail
          go_meet
          exact HREL.out
        refine AllReadyH.consV (some 23) (Go.Op.alloc 34) 0 (by kernel_rfl) (fun K hK => ?_) ?_
        · refine opr_alloc 34 zeroRCa (cs := #[.slice none 0 0, .int .i64 0]) rfl ?_
          intro bA wx10 hb10 hg10 hf10
          have A_10 := Lib.hid (hb10)
          have GA_10 := Lib.hid (show w7.heap.size ≤ bA from Nat.le_trans hHeld.f.size hg10)
          have hS2 := hHeld.fr0 hf10
          clear hf10 hHeld hb10 hg10
          refine hK.out _ _ hS2 (fun hHeld => ?_)
          clear hK K hS2
          try simp only [List.setIfInBounds_toArray, List.set_cons_zero, List.set_cons_succ]
          refine wpAnyH_ready (rs := [9, 16]) (by kernel_rfl) (by simp) ?_
          refine AllReadyH.consV (some 166) (Go.Op.call { callee := Go.Callee.value (Go.Operand.func 12), args := #[Go.Operand.tmp 157, Go.Operand.tmp 161, Go.Operand.tmp 165], argTypes := #[34, 43, 3] }) 50 (by kernel_rfl) (fun K hK => ?_) ?_
          · refine opr_go 12 #[Go.Operand.tmp 157, Go.Operand.tmp 161, Go.Operand.tmp 165] #[34, 43, 3] (fun _ _ => by kernel_rfl) _ (vals3 (by go_simp) (by go_simp) (by go_simp)) (HRG.out _ (HWX.out _ hHeld) (HR7.out.frH hHeld.f)) ?_
            rintro e wx11 ⟨va, vm, vc, CM, xq, xv, xu, xm, hvm, hcm, rfl, hmm, hra, hf11⟩
            have HVM := Lib.hid hvm
            have HCM := Lib.hid hcm
            have HON := Lib.hid (show CM.all (·.oneCell') = true by rw [hcm]; exact hmm.one_cells)
            have HC15 := Lib.hid (show CM.size = 15 by rw [hcm]; rfl)
            refine ⟨_, rfl, ?_⟩
            have A_11 := Lib.hid (hf11.blk A_10.out (by simp))
            have GA_11 := Lib.hid (GA_10.out)
            have RC_11 := Lib.hid (hra)
            have MO_11 := Lib.hid (hmm)
            have hS2 := hHeld.fr0 hf11
            clear hf11 hHeld hvm hcm hra hmm
            refine hK.out _ _ hS2 (fun hHeld => ?_)
            clear hK K hS2
            try simp only [List.setIfInBounds_toArray, List.set_cons_zero, List.set_cons_succ]
            refine takeV (i := 10) 156 (Go.Op.move (Go.Operand.tmp 166)) 50 (v := ?_) (by kernel_rfl) (by kernel_rfl) (by kernel_rfl) (by kernel_rfl) (fun _ _ _ h => h) (Or.inl ⟨by rfl, ?_⟩) hHeld ?_
            case refine_2 => (intro wq hq; dsimp only [opr]; go_simp; try (with_reducible rfl))
            try simp only [List.setIfInBounds_toArray, List.set_cons_zero, List.set_cons_succ]
            refine takeV (i := 11) 167 (Go.Op.extract (Go.Operand.tmp 156) 0) 34 (v := ?_) (by kernel_rfl) (by kernel_rfl) (by kernel_rfl) (by kernel_rfl) (fun _ _ _ h => h) (Or.inl ⟨by rfl, ?_⟩) hHeld ?_
            case refine_2 => (intro wq hq; dsimp only [opr]; go_simp; try (with_reducible rfl))
            try simp only [List.setIfInBounds_toArray, List.set_cons_zero, List.set_cons_succ]
            refine takeV (i := 12) 168 (Go.Op.extract (Go.Operand.tmp 156) 1) 43 (v := ?_) (by kernel_rfl) (by kernel_rfl) (by kernel_rfl) (by kernel_rfl) (fun _ _ _ h => h) (Or.inl ⟨by rfl, ?_⟩) hHeld ?_
            case refine_2 => (intro wq hq; dsimp only [opr]; go_simp; try (with_reducible rfl))
            try simp only [List.setIfInBounds_toArray, List.set_cons_zero, List.set_cons_succ]
            refine takeV (i := 13) 169 (Go.Op.extract (Go.Operand.tmp 156) 2) 4 (v := ?_) (by kernel_rfl) (by kernel_rfl) (by kernel_rfl) (by kernel_rfl) (fun _ _ _ h => h) (Or.inl ⟨by rfl, ?_⟩) hHeld ?_
            case refine_2 => (intro wq hq; dsimp only [opr]; go_simp; try (with_reducible rfl))
            try simp only [List.setIfInBounds_toArray, List.set_cons_zero, List.set_cons_succ]
            refine takeV (i := 14) 170 (Go.Op.extract (Go.Operand.tmp 156) 3) 25 (v := ?_) (by kernel_rfl) (by kernel_rfl) (by kernel_rfl) (by kernel_rfl) (fun _ _ _ h => h) (Or.inl ⟨by rfl, ?_⟩) hHeld ?_
            case refine_2 => (intro wq hq; dsimp only [opr]; go_simp; try (with_reducible rfl))
            try simp only [List.setIfInBounds_toArray, List.set_cons_zero, List.set_cons_succ]
            refine wpAnyH_ready (rs := [16]) (by kernel_rfl) (by simp) ?_
            refine AllReadyH.consV (some 24) (Go.Op.alloc 43) 0 (by kernel_rfl) (fun K hK => ?_) AllReadyH.nil
            refine opr_alloc 43 zeroMsg (cs := #[.int .i64 0, .bool false, .int .i64 0, .bool false, .bool false, .bool false, .bool false, .bool false, .bool false, .bool false, .int .i64 0, .slice none 0 0, .slice none 0 0, .slice none 0 0, .slice none 0 0]) rfl ?_
            intro bM wx12 hb12 hg12 hf12
            have A_12 := Lib.hid (hf12.blk A_11.out (by simp))
            have GA_12 := Lib.hid (GA_11.out)
            have RC_12 := Lib.hid (RC_11.out.frH (hf12.hot0 _))
            have MO_12 := Lib.hid (MO_11.out.frH (hf12.hot0 _))
            have M_12 := Lib.hid (hb12)
            have GM_12 := Lib.hid (show w7.heap.size ≤ bM from Nat.le_trans hHeld.f.size hg12)
            have hS2 := hHeld.fr0 hf12
            clear hf12 hHeld hb12 hg12
            refine hK.out _ _ hS2 (fun hHeld => ?_)
            clear hK K hS2
            try simp only [List.setIfInBounds_toArray, List.set_cons_zero, List.set_cons_succ]
            refine wpAnyH_ready (rs := [17]) (by kernel_rfl) (by simp) ?_
            refine AllReadyH.consV none (Go.Op.store 34 (Go.Operand.tmp 23) (Go.Operand.tmp 167)) 0 (by kernel_rfl) (fun K hK => ?_) AllReadyH.nil
            refine opr_store 34 (Go.Operand.tmp 23) (Go.Operand.tmp 167) bA #[.slice va vm vc, .int .i64 N] #[.slice none 0 0, .int .i64 0] 34 (by go_simp) (by go_simp; try rfl) A_12.out rfl infoRCa (by simp [Value.oneCell']) ?_
            intro wx13 hb13 hf13
            have A_13 := Lib.hid (hb13)
            have GA_13 := Lib.hid (GA_12.out)
            have RC_13 := Lib.hid (RC_12.out.frH (fr_hot hf13 A_12.out rfl (Nat.le_trans H17.out.size GA_12.out)))
            have MO_13 := Lib.hid (MO_12.out.frH (fr_hot hf13 A_12.out rfl (Nat.le_trans H17.out.size GA_12.out)))
            have M_13 := Lib.hid (hf13.blk M_12.out (by simp only [List.mem_cons, List.not_mem_nil, or_false]; exact blk_neT M_12.out A_12.out (by decide)))
            have GM_13 := Lib.hid (GM_12.out)
            have hS2 := hHeld.st hf13 A_12.out rfl (Nat.le_trans H17.out.size GA_12.out) (Nat.ne_of_lt (Nat.lt_of_lt_of_le (lt_of_blk HB7.out) GA_12.out)) (by decide) (by decide)
            clear hf13 hHeld hb13
            refine hK.out _ _ hS2 (fun hHeld => ?_)
            clear hK K hS2
            try simp only [List.setIfInBounds_toArray, List.set_cons_zero, List.set_cons_succ]
            refine wpAnyH_ready (rs := [18]) (by kernel_rfl) (by simp) ?_
            refine AllReadyH.consV none (Go.Op.store 43 (Go.Operand.tmp 24) (Go.Operand.tmp 168)) 0 (by kernel_rfl) (fun K hK => ?_) AllReadyH.nil
            refine opr_store 43 (Go.Operand.tmp 24) (Go.Operand.tmp 168) bM CM #[.int .i64 0, .bool false, .int .i64 0, .bool false, .bool false, .bool false, .bool false, .bool false, .bool false, .bool false, .int .i64 0, .slice none 0 0, .slice none 0 0, .slice none 0 0, .slice none 0 0] 43 (by go_simp) (by go_simp; try rfl) M_13.out (by rw [HC15.out]; rfl) (by rw [HC15.out]; exact infoMsg15) HON.out ?_
            intro wx14 hb14 hf14
            have A_14 := Lib.hid (hf14.blk A_13.out (by simp only [List.mem_cons, List.not_mem_nil, or_false]; exact blk_neT A_13.out M_13.out (by decide)))
            have GA_14 := Lib.hid (GA_13.out)
            have RC_14 := Lib.hid (RC_13.out.frH (fr_hot hf14 M_13.out rfl (Nat.le_trans H17.out.size GM_13.out)))
            have MO_14 := Lib.hid (MO_13.out.frH (fr_hot hf14 M_13.out rfl (Nat.le_trans H17.out.size GM_13.out)))
            have M_14 := Lib.hid (hb14)
            have GM_14 := Lib.hid (GM_13.out)
            have hS2 := hHeld.st hf14 M_13.out rfl (Nat.le_trans H17.out.size GM_13.out) (Nat.ne_of_lt (Nat.lt_of_lt_of_le (lt_of_blk HB7.out) GM_13.out)) (by decide) (by decide)
            clear hf14 hHeld hb14
            refine hK.out _ _ hS2 (fun hHeld => ?_)
            clear hK K hS2
            try simp only [List.setIfInBounds_toArray, List.set_cons_zero, List.set_cons_succ]
            refine takeV (i := 19) 25 (Go.Op.assign (Go.Operand.tmp 169)) 4 (v := ?_) (by kernel_rfl) (by kernel_rfl) (by kernel_rfl) (by kernel_rfl) (fun _ _ _ h => h) (Or.inl ⟨by rfl, ?_⟩) hHeld ?_
            case refine_2 => (intro wq hq; dsimp only [opr]; go_simp; try (with_reducible rfl))
            try simp only [List.setIfInBounds_toArray, List.set_cons_zero, List.set_cons_succ]
            refine takeV (i := 20) 17 (Go.Op.assign (Go.Operand.tmp 170)) 25 (v := ?_) (by kernel_rfl) (by kernel_rfl) (by kernel_rfl) (by kernel_rfl) (fun _ _ _ h => h) (Or.inl ⟨by rfl, ?_⟩) hHeld ?_
            case refine_2 => (intro wq hq; dsimp only [opr]; go_simp; try (with_reducible rfl))
            try simp only [List.setIfInBounds_toArray, List.set_cons_zero, List.set_cons_succ]
            refine wpAnyH_done (by kernel_rfl) ?_ _
            have HREL := Lib.hid (show GCut ⟨w1.heap.size, []⟩ w7 pt (.cells #[.slice ra lr.length rc, .int .i64 N] 34 (0, 0)) w1.heap.size N v l KF pb1 rm rl (.pointer (some ⟨bA, 0, none⟩)) (.pointer (some ⟨bM, 0, none⟩)) (.bool pb1) (.int .i64 KF) wx14 from ⟨bA, bM, va, vm, vc, CM, xq, xv, xu, xm, rfl, rfl, rfl, rfl, HVM.out, A_14.out, M_14.out, HCM.out, MO_14.out, RC_14.out, hHeld, GA_14.out, GM_14.out⟩)
            go_wp2_with fail
            go_meet
            exact HREL.out
          refine AllReadyH.consV (some 24) (Go.Op.alloc 43) 0 (by kernel_rfl) (fun K hK => ?_) AllReadyH.nil
          refine opr_alloc 43 zeroMsg (cs := #[.int .i64 0, .bool false, .int .i64 0, .bool false, .bool false, .bool false, .bool false, .bool false, .bool false, .bool false, .int .i64 0, .slice none 0 0, .slice none 0 0, .slice none 0 0, .slice none 0 0]) rfl ?_
          intro bM wx15 hb15 hg15 hf15
          have A_15 := Lib.hid (hf15.blk A_10.out (by simp))
          have GA_15 := Lib.hid (GA_10.out)
          have M_15 := Lib.hid (hb15)
          have GM_15 := Lib.hid (show w7.heap.size ≤ bM from Nat.le_trans hHeld.f.size hg15)
          have hS2 := hHeld.fr0 hf15
          clear hf15 hHeld hb15 hg15
          refine hK.out _ _ hS2 (fun hHeld => ?_)
          clear hK K hS2
          try simp only [List.setIfInBounds_toArray, List.set_cons_zero, List.set_cons_succ]
          refine wpAnyH_ready (rs := [9]) (by kernel_rfl) (by simp) ?_
          refine AllReadyH.consV (some 166) (Go.Op.call { callee := Go.Callee.value (Go.Operand.func 12), args := #[Go.Operand.tmp 157, Go.Operand.tmp 161, Go.Operand.tmp 165], argTypes := #[34, 43, 3] }) 50 (by kernel_rfl) (fun K hK => ?_) AllReadyH.nil
          refine opr_go 12 #[Go.Operand.tmp 157, Go.Operand.tmp 161, Go.Operand.tmp 165] #[34, 43, 3] (fun _ _ => by kernel_rfl) _ (vals3 (by go_simp) (by go_simp) (by go_simp)) (HRG.out _ (HWX.out _ hHeld) (HR7.out.frH hHeld.f)) ?_
          rintro e wx16 ⟨va, vm, vc, CM, xq, xv, xu, xm, hvm, hcm, rfl, hmm, hra, hf16⟩
          have HVM := Lib.hid hvm
          have HCM := Lib.hid hcm
          have HON := Lib.hid (show CM.all (·.oneCell') = true by rw [hcm]; exact hmm.one_cells)
          have HC15 := Lib.hid (show CM.size = 15 by rw [hcm]; rfl)
          refine ⟨_, rfl, ?_⟩
          have A_16 := Lib.hid (hf16.blk A_15.out (by simp))
          have GA_16 := Lib.hid (GA_15.out)
          have M_16 := Lib.hid (hf16.blk M_15.out (by simp))
          have GM_16 := Lib.hid (GM_15.out)
          have RC_16 := Lib.hid (hra)
          have MO_16 := Lib.hid (hmm)
          have hS2 := hHeld.fr0 hf16
          clear hf16 hHeld hvm hcm hra hmm
          refine hK.out _ _ hS2 (fun hHeld => ?_)
          clear hK K hS2
          try simp only [List.setIfInBounds_toArray, List.set_cons_zero, List.set_cons_succ]
          refine takeV (i := 10) 156 (Go.Op.move (Go.Operand.tmp 166)) 50 (v := ?_) (by kernel_rfl) (by kernel_rfl) (by kernel_rfl) (by kernel_rfl) (fun _ _ _ h => h) (Or.inl ⟨by rfl, ?_⟩) hHeld ?_
          case refine_2 => (intro wq hq; dsimp only [opr]; go_simp; try (with_reducible rfl))
          try simp only [List.setIfInBounds_toArray, List.set_cons_zero, List.set_cons_succ]
          refine takeV (i := 11) 167 (Go.Op.extract (Go.Operand.tmp 156) 0) 34 (v := ?_) (by kernel_rfl) (by kernel_rfl) (by kernel_rfl) (by kernel_rfl) (fun _ _ _ h => h) (Or.inl ⟨by rfl, ?_⟩) hHeld ?_
          case refine_2 => (intro wq hq; dsimp only [opr]; go_simp; try (with_reducible rfl))
          try simp only [List.setIfInBounds_toArray, List.set_cons_zero, List.set_cons_succ]
          refine takeV (i := 12) 168 (Go.Op.extract (Go.Operand.tmp 156) 1) 43 (v := ?_) (by kernel_rfl) (by kernel_rfl) (by kernel_rfl) (by kernel_rfl) (fun _ _ _ h => h) (Or.inl ⟨by rfl, ?_⟩) hHeld ?_
          case refine_2 => (intro wq hq; dsimp only [opr]; go_simp; try (with_reducible rfl))
          try simp only [List.setIfInBounds_toArray, List.set_cons_zero, List.set_cons_succ]
          refine takeV (i := 13) 169 (Go.Op.extract (Go.Operand.tmp 156) 2) 4 (v := ?_) (by kernel_rfl) (by kernel_rfl) (by kernel_rfl) (by kernel_rfl) (fun _ _ _ h => h) (Or.inl ⟨by rfl, ?_⟩) hHeld ?_
          case refine_2 => (intro wq hq; dsimp only [opr]; go_simp; try (with_reducible rfl))
          try simp only [List.setIfInBounds_toArray, List.set_cons_zero, List.set_cons_succ]
          refine takeV (i := 14) 170 (Go.Op.extract (Go.Operand.tmp 156) 3) 25 (v := ?_) (by kernel_rfl) (by kernel_rfl) (by kernel_rfl) (by kernel_rfl) (fun _ _ _ h => h) (Or.inl ⟨by rfl, ?_⟩) hHeld ?_
          case refine_2 => (intro wq hq; dsimp only [opr]; go_simp; try (with_reducible rfl))
          try simp only [List.setIfInBounds_toArray, List.set_cons_zero, List.set_cons_succ]
          refine wpAnyH_ready (rs := [17]) (by kernel_rfl) (by simp) ?_
          refine AllReadyH.consV none (Go.Op.store 34 (Go.Operand.tmp 23) (Go.Operand.tmp 167)) 0 (by kernel_rfl) (fun K hK => ?_) AllReadyH.nil
          refine opr_store 34 (Go.Operand.tmp 23) (Go.Operand.tmp 167) bA #[.slice va vm vc, .int .i64 N] #[.slice none 0 0, .int .i64 0] 34 (by go_simp) (by go_simp; try rfl) A_16.out rfl infoRCa (by simp [Value.oneCell']) ?_
          intro wx17 hb17 hf17
          have A_17 := Lib.hid (hb17)
          have GA_17 := Lib.hid (GA_16.out)
          have M_17 := Lib.hid (hf17.blk M_16.out (by simp only [List.mem_cons, List.not_mem_nil, or_false]; exact blk_neT M_16.out A_16.out (by decide)))
          have GM_17 := Lib.hid (GM_16.out)
          have RC_17 := Lib.hid (RC_16.out.frH (fr_hot hf17 A_16.out rfl (Nat.le_trans H17.out.size GA_16.out)))
          have MO_17 := Lib.hid (MO_16.out.frH (fr_hot hf17 A_16.out rfl (Nat.le_trans H17.out.size GA_16.out)))
          have hS2 := hHeld.st hf17 A_16.out rfl (Nat.le_trans H17.out.size GA_16.out) (Nat.ne_of_lt (Nat.lt_of_lt_of_le (lt_of_blk HB7.out) GA_16.out)) (by decide) (by decide)
          clear hf17 hHeld hb17
          refine hK.out _ _ hS2 (fun hHeld => ?_)
          clear hK K hS2
          try simp only [List.setIfInBounds_toArray, List.set_cons_zero, List.set_cons_succ]
          refine wpAnyH_ready (rs := [18]) (by kernel_rfl) (by simp) ?_
          refine AllReadyH.consV none (Go.Op.store 43 (Go.Operand.tmp 24) (Go.Operand.tmp 168)) 0 (by kernel_rfl) (fun K hK => ?_) AllReadyH.nil
          refine opr_store 43 (Go.Operand.tmp 24) (Go.Operand.tmp 168) bM CM #[.int .i64 0, .bool false, .int .i64 0, .bool false, .bool false, .bool false, .bool false, .bool false, .bool false, .bool false, .int .i64 0, .slice none 0 0, .slice none 0 0, .slice none 0 0, .slice none 0 0] 43 (by go_simp) (by go_simp; try rfl) M_17.out (by rw [HC15.out]; rfl) (by rw [HC15.out]; exact infoMsg15) HON.out ?_
          intro wx18 hb18 hf18
          have A_18 := Lib.hid (hf18.blk A_17.out (by simp only [List.mem_cons, List.not_mem_nil, or_false]; exact blk_neT A_17.out M_17.out (by decide)))
          have GA_18 := Lib.hid (GA_17.out)
          have M_18 := Lib.hid (hb18)
          have GM_18 := Lib.hid (GM_17.out)
          have RC_18 := Lib.hid (RC_17.out.frH (fr_hot hf18 M_17.out rfl (Nat.le_trans H17.out.size GM_17.out)))
          have MO_18 := Lib.hid (MO_17.out.frH (fr_hot hf18 M_17.out rfl (Nat.le_trans H17.out.size GM_17.out)))
          have hS2 := hHeld.st hf18 M_17.out rfl (Nat.le_trans H17.out.size GM_17.out) (Nat.ne_of_lt (Nat.lt_of_lt_of_le (lt_of_blk HB7.out) GM_17.out)) (by decide) (by decide)
          clear hf18 hHeld hb18
          refine hK.out _ _ hS2 (fun hHeld => ?_)
          clear hK K hS2
          try simp only [List.setIfInBounds_toArray, List.set_cons_zero, List.set_cons_succ]
          refine takeV (i := 19) 25 (Go.Op.assign (Go.Operand.tmp 169)) 4 (v := ?_) (by kernel_rfl) (by kernel_rfl) (by kernel_rfl) (by kernel_rfl) (fun _ _ _ h => h) (Or.inl ⟨by rfl, ?_⟩) hHeld ?_
          case refine_2 => (intro wq hq; dsimp only [opr]; go_simp; try (with_reducible rfl))
          try simp only [List.setIfInBounds_toArray, List.set_cons_zero, List.set_cons_succ]
          refine takeV (i := 20) 17 (Go.Op.assign (Go.Operand.tmp 170)) 25 (v := ?_) (by kernel_rfl) (by kernel_rfl) (by kernel_rfl) (by kernel_rfl) (fun _ _ _ h => h) (Or.inl ⟨by rfl, ?_⟩) hHeld ?_
          case refine_2 => (intro wq hq; dsimp only [opr]; go_simp; try (with_reducible rfl))
          try simp only [List.setIfInBounds_toArray, List.set_cons_zero, List.set_cons_succ]
          refine wpAnyH_done (by kernel_rfl) ?_ _
          have HREL := Lib.hid (show GCut ⟨w1.heap.size, []⟩ w7 pt (.cells #[.slice ra lr.length rc, .int .i64 N] 34 (0, 0)) w1.heap.size N v l KF pb1 rm rl (.pointer (some ⟨bA, 0, none⟩)) (.pointer (some ⟨bM, 0, none⟩)) (.bool pb1) (.int .i64 KF) wx18 from ⟨bA, bM, va, vm, vc, CM, xq, xv, xu, xm, rfl, rfl, rfl, rfl, HVM.out, A_18.out, M_18.out, HCM.out, MO_18.out, RC_18.out, hHeld, GA_18.out, GM_18.out⟩)
          go_wp2_with fail
          go_meet
          exact HREL.out
        refine AllReadyH.consV (some 24) (Go.Op.alloc 43) 0 (by kernel_rfl) (fun K hK => ?_) AllReadyH.nil
        refine opr_alloc 43 zeroMsg (cs := #[.int .i64 0, .bool false, .int .i64 0, .bool false, .bool false, .bool false, .bool false, .bool false, .bool false, .bool false, .int .i64 0, .slice none 0 0, .slice none 0 0, .slice none 0 0, .slice none 0 0]) rfl ?_
        intro bM wx19 hb19 hg19 hf19
        have M_19 := Lib.hid (hb19)
        have GM_19 := Lib.hid (show w7.heap.size ≤ bM from Nat.le_trans hHeld.f.size hg19)
        have hS2 := hHeld.fr0 hf19
        clear hf19 hHeld hb19 hg19
        refine hK.out _ _ hS2 (fun hHeld => ?_)
        clear hK K hS2
        try simp only [List.setIfInBounds_toArray, List.set_cons_zero, List.set_cons_succ]
        refine wpAnyH_ready (rs := [9, 15]) (by kernel_rfl) (by simp) ?_
        refine AllReadyH.consV (some 166) (Go.Op.call { callee := Go.Callee.value (Go.Operand.func 12), args := #[Go.Operand.tmp 157, Go.Operand.tmp 161, Go.Operand.tmp 165], argTypes := #[34, 43, 3] }) 50 (by kernel_rfl) (fun K hK => ?_) ?_
        · refine opr_go 12 #[Go.Operand.tmp 157, Go.Operand.tmp 161, Go.Operand.tmp 165] #[34, 43, 3] (fun _ _ => by kernel_rfl) _ (vals3 (by go_simp) (by go_simp) (by go_simp)) (HRG.out _ (HWX.out _ hHeld) (HR7.out.frH hHeld.f)) ?_
          rintro e wx20 ⟨va, vm, vc, CM, xq, xv, xu, xm, hvm, hcm, rfl, hmm, hra, hf20⟩
          have HVM := Lib.hid hvm
          have HCM := Lib.hid hcm
          have HON := Lib.hid (show CM.all (·.oneCell') = true by rw [hcm]; exact hmm.one_cells)
          have HC15 := Lib.hid (show CM.size = 15 by rw [hcm]; rfl)
          refine ⟨_, rfl, ?_⟩
          have M_20 := Lib.hid (hf20.blk M_19.out (by simp))
          have GM_20 := Lib.hid (GM_19.out)
          have RC_20 := Lib.hid (hra)
          have MO_20 := Lib.hid (hmm)
          have hS2 := hHeld.fr0 hf20
          clear hf20 hHeld hvm hcm hra hmm
          refine hK.out _ _ hS2 (fun hHeld => ?_)
          clear hK K hS2
          try simp only [List.setIfInBounds_toArray, List.set_cons_zero, List.set_cons_succ]
          refine takeV (i := 10) 156 (Go.Op.move (Go.Operand.tmp 166)) 50 (v := ?_) (by kernel_rfl) (by kernel_rfl) (by kernel_rfl) (by kernel_rfl) (fun _ _ _ h => h) (Or.inl ⟨by rfl, ?_⟩) hHeld ?_
          case refine_2 => (intro wq hq; dsimp only [opr]; go_simp; try (with_reducible rfl))
          try simp only [List.setIfInBounds_toArray, List.set_cons_zero, List.set_cons_succ]
          refine takeV (i := 11) 167 (Go.Op.extract (Go.Operand.tmp 156) 0) 34 (v := ?_) (by kernel_rfl) (by kernel_rfl) (by kernel_rfl) (by kernel_rfl) (fun _ _ _ h => h) (Or.inl ⟨by rfl, ?_⟩) hHeld ?_
          case refine_2 => (intro wq hq; dsimp only [opr]; go_simp; try (with_reducible rfl))
          try simp only [List.setIfInBounds_toArray, List.set_cons_zero, List.set_cons_succ]
          refine takeV (i := 12) 168 (Go.Op.extract (Go.Operand.tmp 156) 1) 43 (v := ?_) (by kernel_rfl) (by kernel_rfl) (by kernel_rfl) (by kernel_rfl) (fun _ _ _ h => h) (Or.inl ⟨by rfl, ?_⟩) hHeld ?_
          case refine_2 => (intro wq hq; dsimp only [opr]; go_simp; try (with_reducible rfl))
          try simp only [List.setIfInBounds_toArray, List.set_cons_zero, List.set_cons_succ]
          refine takeV (i := 13) 169 (Go.Op.extract (Go.Operand.tmp 156) 2) 4 (v := ?_) (by kernel_rfl) (by kernel_rfl) (by kernel_rfl) (by kernel_rfl) (fun _ _ _ h => h) (Or.inl ⟨by rfl, ?_⟩) hHeld ?_
          case refine_2 => (intro wq hq; dsimp only [opr]; go_simp; try (with_reducible rfl))
          try simp only [List.setIfInBounds_toArray, List.set_cons_zero, List.set_cons_succ]
          refine takeV (i := 14) 170 (Go.Op.extract (Go.Operand.tmp 156) 3) 25 (v := ?_) (by kernel_rfl) (by kernel_rfl) (by kernel_rfl) (by kernel_rfl) (fun _ _ _ h => h) (Or.inl ⟨by rfl, ?_⟩) hHeld ?_
          case refine_2 => (intro wq hq; dsimp only [opr]; go_simp; try (with_reducible rfl))
          try simp only [List.setIfInBounds_toArray, List.set_cons_zero, List.set_cons_succ]
          refine wpAnyH_ready (rs := [15]) (by kernel_rfl) (by simp) ?_
          refine AllReadyH.consV (some 23) (Go.Op.alloc 34) 0 (by kernel_rfl) (fun K hK => ?_) AllReadyH.nil
          refine opr_alloc 34 zeroRCa (cs := #[.slice none 0 0, .int .i64 0]) rfl ?_
          intro bA wx21 hb21 hg21 hf21
          have M_21 := Lib.hid (hf21.blk M_20.out (by simp))
          have GM_21 := Lib.hid (GM_20.out)
          have RC_21 := Lib.hid (RC_20.out.frH (hf21.hot0 _))
          have MO_21 := Lib.hid (MO_20.out.frH (hf21.hot0 _))
          have A_21 := Lib.hid (hb21)
          have GA_21 := Lib.hid (show w7.heap.size ≤ bA from Nat.le_trans hHeld.f.size hg21)
          have hS2 := hHeld.fr0 hf21
          clear hf21 hHeld hb21 hg21
          refine hK.out _ _ hS2 (fun hHeld => ?_)
          clear hK K hS2
          try simp only [List.setIfInBounds_toArray, List.set_cons_zero, List.set_cons_succ]
          refine wpAnyH_ready (rs := [17]) (by kernel_rfl) (by simp) ?_
          refine AllReadyH.consV none (Go.Op.store 34 (Go.Operand.tmp 23) (Go.Operand.tmp 167)) 0 (by kernel_rfl) (fun K hK => ?_) AllReadyH.nil
          refine opr_store 34 (Go.Operand.tmp 23) (Go.Operand.tmp 167) bA #[.slice va vm vc, .int .i64 N] #[.slice none 0 0, .int .i64 0] 34 (by go_simp) (by go_simp; try rfl) A_21.out rfl infoRCa (by simp [Value.oneCell']) ?_
          intro wx22 hb22 hf22
          have M_22 := Lib.hid (hf22.blk M_21.out (by simp only [List.mem_cons, List.not_mem_nil, or_false]; exact blk_neT M_21.out A_21.out (by decide)))
          have GM_22 := Lib.hid (GM_21.out)
          have RC_22 := Lib.hid (RC_21.out.frH (fr_hot hf22 A_21.out rfl (Nat.le_trans H17.out.size GA_21.out)))
          have MO_22 := Lib.hid (MO_21.out.frH (fr_hot hf22 A_21.out rfl (Nat.le_trans H17.out.size GA_21.out)))
          have A_22 := Lib.hid (hb22)
          have GA_22 := Lib.hid (GA_21.out)
          have hS2 := hHeld.st hf22 A_21.out rfl (Nat.le_trans H17.out.size GA_21.out) (Nat.ne_of_lt (Nat.lt_of_lt_of_le (lt_of_blk HB7.out) GA_21.out)) (by decide) (by decide)
          clear hf22 hHeld hb22
          refine hK.out _ _ hS2 (fun hHeld => ?_)
          clear hK K hS2
          try simp only [List.setIfInBounds_toArray, List.set_cons_zero, List.set_cons_succ]
          refine wpAnyH_ready (rs := [18]) (by kernel_rfl) (by simp) ?_
          refine AllReadyH.consV none (Go.Op.store 43 (Go.Operand.tmp 24) (Go.Operand.tmp 168)) 0 (by kernel_rfl) (fun K hK => ?_) AllReadyH.nil
          refine opr_store 43 (Go.Operand.tmp 24) (Go.Operand.tmp 168) bM CM #[.int .i64 0, .bool false, .int .i64 0, .bool false, .bool false, .bool false, .bool false, .bool false, .bool false, .bool false, .int .i64 0, .slice none 0 0, .slice none 0 0, .slice none 0 0, .slice none 0 0] 43 (by go_simp) (by go_simp; try rfl) M_22.out (by rw [HC15.out]; rfl) (by rw [HC15.out]; exact infoMsg15) HON.out ?_
          intro wx23 hb23 hf23
          have M_23 := Lib.hid (hb23)
          have GM_23 := Lib.hid (GM_22.out)
          have RC_23 := Lib.hid (RC_22.out.frH (fr_hot hf23 M_22.out rfl (Nat.le_trans H17.out.size GM_22.out)))
          have MO_23 := Lib.hid (MO_22.out.frH (fr_hot hf23 M_22.out rfl (Nat.le_trans H17.out.size GM_22.out)))
          have A_23 := Lib.hid (hf23.blk A_22.out (by simp only [List.mem_cons, List.not_mem_nil, or_false]; exact blk_neT A_22.out M_22.out (by decide)))
          have GA_23 := Lib.hid (GA_22.out)
          have hS2 := hHeld.st hf23 M_22.out rfl (Nat.le_trans H17.out.size GM_22.out) (Nat.ne_of_lt (Nat.lt_of_lt_of_le (lt_of_blk HB7.out) GM_22.out)) (by decide) (by decide)
          clear hf23 hHeld hb23
          refine hK.out _ _ hS2 (fun hHeld => ?_)
          clear hK K hS2
          try simp only [List.setIfInBounds_toArray, List.set_cons_zero, List.set_cons_succ]
          refine takeV (i := 19) 25 (Go.Op.assign (Go.Operand.tmp 169)) 4 (v := ?_) (by kernel_rfl) (by kernel_rfl) (by kernel_rfl) (by kernel_rfl) (fun _ _ _ h => h) (Or.inl ⟨by rfl, ?_⟩) hHeld ?_
          case refine_2 => (intro wq hq; dsimp only [opr]; go_simp; try (with_reducible rfl))
          try simp only [List.setIfInBounds_toArray, List.set_cons_zero, List.set_cons_succ]
          refine takeV (i := 20) 17 (Go.Op.assign (Go.Operand.tmp 170)) 25 (v := ?_) (by kernel_rfl) (by kernel_rfl) (by kernel_rfl) (by kernel_rfl) (fun _ _ _ h => h) (Or.inl ⟨by rfl, ?_⟩) hHeld ?_
          case refine_2 => (intro wq hq; dsimp only [opr]; go_simp; try (with_reducible rfl))
          try simp only [List.setIfInBounds_toArray, List.set_cons_zero, List.set_cons_succ]
          refine wpAnyH_done (by kernel_rfl) ?_ _
          have HREL := Lib.hid (show GCut ⟨w1.heap.size, []⟩ w7 pt (.cells #[.slice ra lr.length rc, .int .i64 N] 34 (0, 0)) w1.heap.size N v l KF pb1 rm rl (.pointer (some ⟨bA, 0, none⟩)) (.pointer (some ⟨bM, 0, none⟩)) (.bool pb1) (.int .i64 KF) wx23 from ⟨bA, bM, va, vm, vc, CM, xq, xv, xu, xm, rfl, rfl, rfl, rfl, HVM.out, A_23.out, M_23.out, HCM.out, MO_23.out, RC_23.out, hHeld, GA_23.out, GM_23.out⟩)
          go_wp2_with fail
          go_meet
          exact HREL.out
        refine AllReadyH.consV (some 23) (Go.Op.alloc 34) 0 (by kernel_rfl) (fun K hK => ?_) AllReadyH.nil
        refine opr_alloc 34 zeroRCa (cs := #[.slice none 0 0, .int .i64 0]) rfl ?_
        intro bA wx24 hb24 hg24 hf24
        have M_24 := Lib.hid (hf24.blk M_19.out (by simp))
        have GM_24 := Lib.hid (GM_19.out)
        have A_24 := Lib.hid (hb24)
        have GA_24 := Lib.hid (show w7.heap.size ≤ bA from Nat.le_trans hHeld.f.size hg24)
        have hS2 := hHeld.fr0 hf24
        clear hf24 hHeld hb24 hg24
        refine hK.out _ _ hS2 (fun hHeld => ?_)
        clear hK K hS2
        try simp only [List.setIfInBounds_toArray, List.set_cons_zero, List.set_cons_succ]
        refine wpAnyH_ready (rs := [9]) (by kernel_rfl) (by simp) ?_
        refine AllReadyH.consV (some 166) (Go.Op.call { callee := Go.Callee.value (Go.Operand.func 12), args := #[Go.Operand.tmp 157, Go.Operand.tmp 161, Go.Operand.tmp 165], argTypes := #[34, 43, 3] }) 50 (by kernel_rfl) (fun K hK => ?_) AllReadyH.nil
        refine opr_go 12 #[Go.Operand.tmp 157, Go.Operand.tmp 161, Go.Operand.tmp 165] #[34, 43, 3] (fun _ _ => by kernel_rfl) _ (vals3 (by go_simp) (by go_simp) (by go_simp)) (HRG.out _ (HWX.out _ hHeld) (HR7.out.frH hHeld.f)) ?_
        rintro e wx25 ⟨va, vm, vc, CM, xq, xv, xu, xm, hvm, hcm, rfl, hmm, hra, hf25⟩
        have HVM := Lib.hid hvm
        have HCM := Lib.hid hcm
        have HON := Lib.hid (show CM.all (·.oneCell') = true by rw [hcm]; exact hmm.one_cells)
        have HC15 := Lib.hid (show CM.size = 15 by rw [hcm]; rfl)
        refine ⟨_, rfl, ?_⟩
        have M_25 := Lib.hid (hf25.blk M_24.out (by simp))
        have GM_25 := Lib.hid (GM_24.out)
        have A_25 := Lib.hid (hf25.blk A_24.out (by simp))
        have GA_25 := Lib.hid (GA_24.out)
        have RC_25 := Lib.hid (hra)
        have MO_25 := Lib.hid (hmm)
        have hS2 := hHeld.fr0 hf25
        clear hf25 hHeld hvm hcm hra hmm
        refine hK.out _ _ hS2 (fun hHeld => ?_)
        clear hK K hS2
        try simp only [List.setIfInBounds_toArray, List.set_cons_zero, List.set_cons_succ]
        refine takeV (i := 10) 156 (Go.Op.move (Go.Operand.tmp 166)) 50 (v := ?_) (by kernel_rfl) (by kernel_rfl) (by kernel_rfl) (by kernel_rfl) (fun _ _ _ h => h) (Or.inl ⟨by rfl, ?_⟩) hHeld ?_
        case refine_2 => (intro wq hq; dsimp only [opr]; go_simp; try (with_reducible rfl))
        try simp only [List.setIfInBounds_toArray, List.set_cons_zero, List.set_cons_succ]
        refine takeV (i := 11) 167 (Go.Op.extract (Go.Operand.tmp 156) 0) 34 (v := ?_) (by kernel_rfl) (by kernel_rfl) (by kernel_rfl) (by kernel_rfl) (fun _ _ _ h => h) (Or.inl ⟨by rfl, ?_⟩) hHeld ?_
        case refine_2 => (intro wq hq; dsimp only [opr]; go_simp; try (with_reducible rfl))
        try simp only [List.setIfInBounds_toArray, List.set_cons_zero, List.set_cons_succ]
        refine takeV (i := 12) 168 (Go.Op.extract (Go.Operand.tmp 156) 1) 43 (v := ?_) (by kernel_rfl) (by kernel_rfl) (by kernel_rfl) (by kernel_rfl) (fun _ _ _ h => h) (Or.inl ⟨by rfl, ?_⟩) hHeld ?_
        case refine_2 => (intro wq hq; dsimp only [opr]; go_simp; try (with_reducible rfl))
        try simp only [List.setIfInBounds_toArray, List.set_cons_zero, List.set_cons_succ]
        refine takeV (i := 13) 169 (Go.Op.extract (Go.Operand.tmp 156) 2) 4 (v := ?_) (by kernel_rfl) (by kernel_rfl) (by kernel_rfl) (by kernel_rfl) (fun _ _ _ h => h) (Or.inl ⟨by rfl, ?_⟩) hHeld ?_
        case refine_2 => (intro wq hq; dsimp only [opr]; go_simp; try (with_reducible rfl))
        try simp only [List.setIfInBounds_toArray, List.set_cons_zero, List.set_cons_succ]
        refine takeV (i := 14) 170 (Go.Op.extract (Go.Operand.tmp 156) 3) 25 (v := ?_) (by kernel_rfl) (by kernel_rfl) (by kernel_rfl) (by kernel_rfl) (fun _ _ _ h => h) (Or.inl ⟨by rfl, ?_⟩) hHeld ?_
        case refine_2 => (intro wq hq; dsimp only [opr]; go_simp; try (with_reducible rfl))
        try simp only [List.setIfInBounds_toArray, List.set_cons_zero, List.set_cons_succ]
        refine wpAnyH_ready (rs := [17]) (by kernel_rfl) (by simp) ?_
        refine AllReadyH.consV none (Go.Op.store 34 (Go.Operand.tmp 23) (Go.Operand.tmp 167)) 0 (by kernel_rfl) (fun K hK => ?_) AllReadyH.nil
        refine opr_store 34 (Go.Operand.tmp 23) (Go.Operand.tmp 167) bA #[.slice va vm vc, .int .i64 N] #[.slice none 0 0, .int .i64 0] 34 (by go_simp) (by go_simp; try rfl) A_25.out rfl infoRCa (by simp [Value.oneCell']) ?_
        intro wx26 hb26 hf26
        have M_26 := Lib.hid (hf26.blk M_25.out (by simp only [List.mem_cons, List.not_mem_nil, or_false]; exact blk_neT M_25.out A_25.out (by decide)))
        have GM_26 := Lib.hid (GM_25.out)
        have A_26 := Lib.hid (hb26)
        have GA_26 := Lib.hid (GA_25.out)
        have RC_26 := Lib.hid (RC_25.out.frH (fr_hot hf26 A_25.out rfl (Nat.le_trans H17.out.size GA_25.out)))
        have MO_26 := Lib.hid (MO_25.out.frH (fr_hot hf26 A_25.out rfl (Nat.le_trans H17.out.size GA_25.out)))
        have hS2 := hHeld.st hf26 A_25.out rfl (Nat.le_trans H17.out.size GA_25.out) (Nat.ne_of_lt (Nat.lt_of_lt_of_le (lt_of_blk HB7.out) GA_25.out)) (by decide) (by decide)
        clear hf26 hHeld hb26
        refine hK.out _ _ hS2 (fun hHeld => ?_)
        clear hK K hS2
        try simp only [List.setIfInBounds_toArray, List.set_cons_zero, List.set_cons_succ]
        refine wpAnyH_ready (rs := [18]) (by kernel_rfl) (by simp) ?_
        refine AllReadyH.consV none (Go.Op.store 43 (Go.Operand.tmp 24) (Go.Operand.tmp 168)) 0 (by kernel_rfl) (fun K hK => ?_) AllReadyH.nil
        refine opr_store 43 (Go.Operand.tmp 24) (Go.Operand.tmp 168) bM CM #[.int .i64 0, .bool false, .int .i64 0, .bool false, .bool false, .bool false, .bool false, .bool false, .bool false, .bool false, .int .i64 0, .slice none 0 0, .slice none 0 0, .slice none 0 0, .slice none 0 0] 43 (by go_simp) (by go_simp; try rfl) M_26.out (by rw [HC15.out]; rfl) (by rw [HC15.out]; exact infoMsg15) HON.out ?_
        intro wx27 hb27 hf27
        have M_27 := Lib.hid (hb27)
        have GM_27 := Lib.hid (GM_26.out)
        have A_27 := Lib.hid (hf27.blk A_26.out (by simp only [List.mem_cons, List.not_mem_nil, or_false]; exact blk_neT A_26.out M_26.out (by decide)))
        have GA_27 := Lib.hid (GA_26.out)
        have RC_27 := Lib.hid (RC_26.out.frH (fr_hot hf27 M_26.out rfl (Nat.le_trans H17.out.size GM_26.out)))
        have MO_27 := Lib.hid (MO_26.out.frH (fr_hot hf27 M_26.out rfl (Nat.le_trans H17.out.size GM_26.out)))
        have hS2 := hHeld.st hf27 M_26.out rfl (Nat.le_trans H17.out.size GM_26.out) (Nat.ne_of_lt (Nat.lt_of_lt_of_le (lt_of_blk HB7.out) GM_26.out)) (by decide) (by decide)
        clear hf27 hHeld hb27
        refine hK.out _ _ hS2 (fun hHeld => ?_)
        clear hK K hS2
        try simp only [List.setIfInBounds_toArray, List.set_cons_zero, List.set_cons_succ]
        refine takeV (i := 19) 25 (Go.Op.assign (Go.Operand.tmp 169)) 4 (v := ?_) (by kernel_rfl) (by kernel_rfl) (by kernel_rfl) (by kernel_rfl) (fun _ _ _ h => h) (Or.inl ⟨by rfl, ?_⟩) hHeld ?_
        case refine_2 => (intro wq hq; dsimp only [opr]; go_simp; try (with_reducible rfl))
        try simp only [List.setIfInBounds_toArray, List.set_cons_zero, List.set_cons_succ]
        refine takeV (i := 20) 17 (Go.Op.assign (Go.Operand.tmp 170)) 25 (v := ?_) (by kernel_rfl) (by kernel_rfl) (by kernel_rfl) (by kernel_rfl) (fun _ _ _ h => h) (Or.inl ⟨by rfl, ?_⟩) hHeld ?_
        case refine_2 => (intro wq hq; dsimp only [opr]; go_simp; try (with_reducible rfl))
        try simp only [List.setIfInBounds_toArray, List.set_cons_zero, List.set_cons_succ]
        refine wpAnyH_done (by kernel_rfl) ?_ _
        have HREL := Lib.hid (show GCut ⟨w1.heap.size, []⟩ w7 pt (.cells #[.slice ra lr.length rc, .int .i64 N] 34 (0, 0)) w1.heap.size N v l KF pb1 rm rl (.pointer (some ⟨bA, 0, none⟩)) (.pointer (some ⟨bM, 0, none⟩)) (.bool pb1) (.int .i64 KF) wx27 from ⟨bA, bM, va, vm, vc, CM, xq, xv, xu, xm, rfl, rfl, rfl, rfl, HVM.out, A_27.out, M_27.out, HCM.out, MO_27.out, RC_27.out, hHeld, GA_27.out, GM_27.out⟩)
        go_wp2_with fail
        go_meet
        exact HREL.out
      case rest =>
        obtain ⟨b, b2, a, m, c, CM, xq, xv, xu, xm, rfl, rfl, rfl, rfl, hm, hb, hb2, hcm, hmo, hrc, hsw, hge, hge2⟩ := hcut
        have HM := Lib.hid hm
        have HBN := Lib.hid hb
        have HRN := Lib.hid hrc
        have HSW := Lib.hid hsw
        have HCM := Lib.hid hcm
        have HMO := Lib.hid hmo
        have HB2 := Lib.hid hb2
        clear hm hb hrc hsw hge HC7 HR7 HB7 HS7 HWX HRG hcm hmo hb2
        have HN2 := Lib.hid (show b2 ≠ pt from blk_neT HB2.out HSW.out.b (by decide))
        have c0 := blk_cell HBN.out 0 (v := .slice a m c) rfl
        have c1 := blk_cell HBN.out 1 (v := .int .i64 (N : Int)) rfl
        go_upto_region 29 with (first
          | ((with_reducible refine wpList_storeArr ?_ 34 (.tmp 14) (.tmp 171) ?_ pt #[.slice a m c, .int .i64 N] #[.slice ra lr.length rc, .int .i64 N] 34 ?_ ?_ ?_ ?_ ?_ ?_ ?_); rfl; rfl; rfl; rfl; exact HSW.out.b; rfl; exact infoRCa; (simp [Value.oneCell']); intro w8 hb8 hf8
             have HB8 := Lib.hid hb8
             have HO8 := Lib.hid (fr_hot (B := ⟨w1.heap.size, []⟩) hf8 HSW.out.b rfl (Nat.le_of_lt HPT.out))
             have HC8 := Lib.hid (HSW.out.c.keptT hf8 HSW.out.b (by decide) (by decide) HO8.out)
             have HR8 := Lib.hid (HRN.out.frH HO8.out)
             have HB28 := Lib.hid (hf8.blk HB2.out (by simpa using HN2.out))
             have HMO8 := Lib.hid (HMO.out.frH HO8.out)
             clear hb8 hf8)
          | fail)
        clear c0 c1
        have H18 := Lib.hid (fr_old HW1.out H17.out (HSW.out.f.trans HO8.out))
        have HW8 := Lib.hid (show Fr [] w w8 from HW1.out.trans H18.out (by simp))
        have HGE8 := Lib.hid (show ∀ x ∈ w1.heap.size :: v.ownBlock.toList, w1.heap.size ≤ x from fun x hx => by
          rcases List.mem_cons.1 hx with rfl | hx
          · exact Nat.le_refl _
          · obtain ⟨F, hF⟩ := HC8.out.row
            exact hF.ho.ge x hx)
        have HWY := Lib.hid (fun (wq : World) (h : Fr (w1.heap.size :: v.ownBlock.toList) w8 wq) => show Fr [] w wq from HW8.out.trans h (fun x hx => .inr (Nat.le_trans HW1.out.size (HGE8.out x hx))))
        have HAP := Lib.hid (show pt ∉ w1.heap.size :: v.ownBlock.toList from HC8.out.apartP HB8.out (by decide) (by decide))
        try dsimp only [Act.put]
        go_cut [26, 27, 19] (fun p v1 u wy => HCut ⟨w1.heap.size, []⟩ w8 w1.heap.size N v (errOf (erO KF)) pb1 pm pl p v1 u wy)
        case first =>
          refine wp_region_held_drew (S := fun wx => Fr (w1.heap.size :: v.ownBlock.toList) w8 wx) (by kernel_rfl) ((Fr.refl _ w8).drew) (fun hHeld => ?_)
          have F0_0 := Lib.hid (show Fr [] w8 w8.drew from (Fr.refl _ w8).drew)
          refine takeV (i := 0) 173 (Go.Op.move (Go.Operand.tmp 11)) 26 (v := ?_) (by kernel_rfl) (by kernel_rfl) (by kernel_rfl) (by kernel_rfl) (fun _ _ _ h => h) (Or.inl ⟨by rfl, ?_⟩) hHeld ?_
          case refine_2 => (intro wq hq; dsimp only [opr]; go_simp; try (with_reducible rfl))
          try simp only [List.setIfInBounds_toArray, List.set_cons_zero, List.set_cons_succ]
          refine takeV (i := 1) 174 (Go.Op.move (Go.Operand.tmp 1)) 22 (v := ?_) (by kernel_rfl) (by kernel_rfl) (by kernel_rfl) (by kernel_rfl) (fun _ _ _ h => h) (Or.inl ⟨by rfl, ?_⟩) hHeld ?_
          case refine_2 => (intro wq hq; dsimp only [opr]; go_simp; try (with_reducible rfl))
          try simp only [List.setIfInBounds_toArray, List.set_cons_zero, List.set_cons_succ]
          refine takeV (i := 2) 175 (Go.Op.move (Go.Operand.tmp 15)) 3 (v := ?_) (by kernel_rfl) (by kernel_rfl) (by kernel_rfl) (by kernel_rfl) (fun _ _ _ h => h) (Or.inl ⟨by rfl, ?_⟩) hHeld ?_
          case refine_2 => (intro wq hq; dsimp only [opr]; go_simp; try (with_reducible rfl))
          try simp only [List.setIfInBounds_toArray, List.set_cons_zero, List.set_cons_succ]
          refine takeV (i := 3) 176 (Go.Op.indexAddr 22 (Go.Operand.tmp 174) (Go.Operand.tmp 175)) 0 (v := ?_) (by kernel_rfl) (by kernel_rfl) (by kernel_rfl) (by kernel_rfl) (fun _ _ _ h => h) (Or.inl ⟨by rfl, ?_⟩) hHeld ?_
          case refine_2 => (intro wq hq; dsimp only [opr]; go_simp; try (with_reducible rfl))
          try simp only [List.setIfInBounds_toArray, List.set_cons_zero, List.set_cons_succ]
          refine takeV (i := 4) 177 (Go.Op.load 43 (Go.Operand.tmp 176)) 43 (v := .agg CQ) (by kernel_rfl) (by kernel_rfl) (by kernel_rfl) (by kernel_rfl) (fun _ _ _ h => h) (yieldsIf_load_arr (by rfl) 43 (Go.Operand.tmp 176) rfl qb (qo + k * 15) (by go_simp) CQ _ (fun wq hq => HRQ.out wq (HWY.out wq hq)) Tryd.underlying43 rfl HQL.out) hHeld ?_
          try simp only [List.setIfInBounds_toArray, List.set_cons_zero, List.set_cons_succ]
          refine takeV (i := 5) 178 (Go.Op.move (Go.Operand.tmp 3)) 23 (v := ?_) (by kernel_rfl) (by kernel_rfl) (by kernel_rfl) (by kernel_rfl) (fun _ _ _ h => h) (Or.inl ⟨by rfl, ?_⟩) hHeld ?_
          case refine_2 => (intro wq hq; dsimp only [opr]; go_simp; try (with_reducible rfl))
          try simp only [List.setIfInBounds_toArray, List.set_cons_zero, List.set_cons_succ]
          refine takeV (i := 6) 179 (Go.Op.move (Go.Operand.tmp 15)) 3 (v := ?_) (by kernel_rfl) (by kernel_rfl) (by kernel_rfl) (by kernel_rfl) (fun _ _ _ h => h) (Or.inl ⟨by rfl, ?_⟩) hHeld ?_
          case refine_2 => (intro wq hq; dsimp only [opr]; go_simp; try (with_reducible rfl))
          try simp only [List.setIfInBounds_toArray, List.set_cons_zero, List.set_cons_succ]
          refine takeV (i := 7) 180 (Go.Op.indexAddr 23 (Go.Operand.tmp 178) (Go.Operand.tmp 179)) 0 (v := ?_) (by kernel_rfl) (by kernel_rfl) (by kernel_rfl) (by kernel_rfl) (fun _ _ _ h => h) (Or.inl ⟨by rfl, ?_⟩) hHeld ?_
          case refine_2 => (intro wq hq; dsimp only [opr]; go_simp; try (with_reducible rfl))
          try simp only [List.setIfInBounds_toArray, List.set_cons_zero, List.set_cons_succ]
          refine takeV (i := 8) 181 (Go.Op.load 3 (Go.Operand.tmp 180)) 3 (v := .int .i64 now) (by kernel_rfl) (by kernel_rfl) (by kernel_rfl) (by kernel_rfl) (fun _ _ _ h => h) (Or.inl ⟨by rfl, ?_⟩) hHeld ?_
          case refine_1 => (intro wq hq; have c0 := HTK.out wq (HWY.out wq hq); dsimp only [opr]; go_simp; try (with_reducible rfl))
          try simp only [List.setIfInBounds_toArray, List.set_cons_zero, List.set_cons_succ]
          refine wpAnyH_ready (rs := [9, 14]) (by kernel_rfl) (by simp) ?_
          refine AllReadyH.consV (some 182) (Go.Op.call { callee := Go.Callee.value (Go.Operand.func 13), args := #[Go.Operand.tmp 173, Go.Operand.tmp 177, Go.Operand.tmp 181], argTypes := #[26, 43, 3] }) 52 (by kernel_rfl) (fun K hK => ?_) ?_
          · refine opr_go 13 #[Go.Operand.tmp 173, Go.Operand.tmp 177, Go.Operand.tmp 181] #[26, 43, 3] (fun _ _ => by kernel_rfl) _ (vals3 (by go_simp) (by go_simp) (by go_simp)) (HPG.out _ (HW8.out.trans F0_0.out (by simp)) (Nat.le_trans H18.out.size F0_0.out.size) (HC8.out.fr0 F0_0.out)) ?_
            rintro e wx1 ⟨CP, yq, yv, yu, ym, v9, hcp, rfl, hmm, hca, hfh, hf1⟩
            have HCP := Lib.hid hcp
            have HOP := Lib.hid (show CP.all (·.oneCell') = true by rw [hcp]; exact hmm.one_cells)
            have HP15 := Lib.hid (show CP.size = 15 by rw [hcp]; rfl)
            refine ⟨_, rfl, ?_⟩
            have CA_1 := Lib.hid (hca)
            have MO_1 := Lib.hid (hmm)
            have FH_1 := Lib.hid (show FrH _ w8 wx1 from (F0_0.out.hot0 _).trans hfh)
            have hS2 := hHeld.trans hf1 (fun x hx => .inl hx)
            clear hf1 hHeld hcp hca hmm hfh
            refine hK.out _ _ hS2 (fun hHeld => ?_)
            clear hK K hS2
            try simp only [List.setIfInBounds_toArray, List.set_cons_zero, List.set_cons_succ]
            refine takeV (i := 10) 172 (Go.Op.move (Go.Operand.tmp 182)) 52 (v := ?_) (by kernel_rfl) (by kernel_rfl) (by kernel_rfl) (by kernel_rfl) (fun _ _ _ h => h) (Or.inl ⟨by rfl, ?_⟩) hHeld ?_
            case refine_2 => (intro wq hq; dsimp only [opr]; go_simp; try (with_reducible rfl))
            try simp only [List.setIfInBounds_toArray, List.set_cons_zero, List.set_cons_succ]
            refine takeV (i := 11) 183 (Go.Op.extract (Go.Operand.tmp 172) 0) 43 (v := ?_) (by kernel_rfl) (by kernel_rfl) (by kernel_rfl) (by kernel_rfl) (fun _ _ _ h => h) (Or.inl ⟨by rfl, ?_⟩) hHeld ?_
            case refine_2 => (intro wq hq; dsimp only [opr]; go_simp; try (with_reducible rfl))
            try simp only [List.setIfInBounds_toArray, List.set_cons_zero, List.set_cons_succ]
            refine takeV (i := 12) 184 (Go.Op.extract (Go.Operand.tmp 172) 1) 4 (v := ?_) (by kernel_rfl) (by kernel_rfl) (by kernel_rfl) (by kernel_rfl) (fun _ _ _ h => h) (Or.inl ⟨by rfl, ?_⟩) hHeld ?_
            case refine_2 => (intro wq hq; dsimp only [opr]; go_simp; try (with_reducible rfl))
            try simp only [List.setIfInBounds_toArray, List.set_cons_zero, List.set_cons_succ]
            refine takeV (i := 13) 185 (Go.Op.extract (Go.Operand.tmp 172) 2) 28 (v := ?_) (by kernel_rfl) (by kernel_rfl) (by kernel_rfl) (by kernel_rfl) (fun _ _ _ h => h) (Or.inl ⟨by rfl, ?_⟩) hHeld ?_
            case refine_2 => (intro wq hq; dsimp only [opr]; go_simp; try (with_reducible rfl))
            try simp only [List.setIfInBounds_toArray, List.set_cons_zero, List.set_cons_succ]
            refine wpAnyH_ready (rs := [14]) (by kernel_rfl) (by simp) ?_
            refine AllReadyH.consV (some 26) (Go.Op.alloc 43) 0 (by kernel_rfl) (fun K hK => ?_) AllReadyH.nil
            refine opr_alloc 43 zeroMsg (cs := #[.int .i64 0, .bool false, .int .i64 0, .bool false, .bool false, .bool false, .bool false, .bool false, .bool false, .bool false, .int .i64 0, .slice none 0 0, .slice none 0 0, .slice none 0 0, .slice none 0 0]) rfl ?_
            intro bM wx2 hb2 hg2 hf2
            have CA_2 := Lib.hid (CA_1.out.fr0 hf2)
            have MO_2 := Lib.hid (MO_1.out.frH (hf2.hot0 _))
            have FH_2 := Lib.hid (FH_1.out.trans (hf2.hot0 _))
            have M_2 := Lib.hid (hb2)
            have GM_2 := Lib.hid (show w8.heap.size ≤ bM from Nat.le_trans hHeld.size hg2)
            have hS2 := hHeld.trans hf2 (by simp)
            clear hf2 hHeld hb2 hg2
            refine hK.out _ _ hS2 (fun hHeld => ?_)
            clear hK K hS2
            try simp only [List.setIfInBounds_toArray, List.set_cons_zero, List.set_cons_succ]
            refine wpAnyH_ready (rs := [15]) (by kernel_rfl) (by simp) ?_
            refine AllReadyH.consV none (Go.Op.store 43 (Go.Operand.tmp 26) (Go.Operand.tmp 183)) 0 (by kernel_rfl) (fun K hK => ?_) AllReadyH.nil
            refine opr_store 43 (Go.Operand.tmp 26) (Go.Operand.tmp 183) bM CP #[.int .i64 0, .bool false, .int .i64 0, .bool false, .bool false, .bool false, .bool false, .bool false, .bool false, .bool false, .int .i64 0, .slice none 0 0, .slice none 0 0, .slice none 0 0, .slice none 0 0] 43 (by go_simp) (by go_simp; try rfl) M_2.out (by rw [HP15.out]; rfl) (by rw [HP15.out]; exact infoMsg15) HOP.out ?_
            intro wx3 hb3 hf3
            have CA_3 := Lib.hid (CA_2.out.keptT hf3 M_2.out (by decide) (by decide) (fr_hot hf3 M_2.out rfl (Nat.le_trans H18.out.size GM_2.out)))
            have MO_3 := Lib.hid (MO_2.out.frH (fr_hot hf3 M_2.out rfl (Nat.le_trans H18.out.size GM_2.out)))
            have FH_3 := Lib.hid (FH_2.out.trans (fr_hot hf3 M_2.out rfl (Nat.le_trans H18.out.size GM_2.out)))
            have M_3 := Lib.hid (hb3)
            have GM_3 := Lib.hid (GM_2.out)
            have hS2 := hHeld.trans hf3 (fun x hx => .inr (by simp only [List.mem_cons, List.not_mem_nil, or_false] at hx; rw [hx]; exact GM_2.out))
            clear hf3 hHeld hb3
            refine hK.out _ _ hS2 (fun hHeld => ?_)
            clear hK K hS2
            try simp only [List.setIfInBounds_toArray, List.set_cons_zero, List.set_cons_succ]
            refine takeV (i := 16) 27 (Go.Op.assign (Go.Operand.tmp 184)) 4 (v := ?_) (by kernel_rfl) (by kernel_rfl) (by kernel_rfl) (by kernel_rfl) (fun _ _ _ h => h) (Or.inl ⟨by rfl, ?_⟩) hHeld ?_
            case refine_2 => (intro wq hq; dsimp only [opr]; go_simp; try (with_reducible rfl))
            try simp only [List.setIfInBounds_toArray, List.set_cons_zero, List.set_cons_succ]
            refine takeV (i := 17) 19 (Go.Op.assign (Go.Operand.tmp 185)) 28 (v := ?_) (by kernel_rfl) (by kernel_rfl) (by kernel_rfl) (by kernel_rfl) (fun _ _ _ h => h) (Or.inl ⟨by rfl, ?_⟩) hHeld ?_
            case refine_2 => (intro wq hq; dsimp only [opr]; go_simp; try (with_reducible rfl))
            try simp only [List.setIfInBounds_toArray, List.set_cons_zero, List.set_cons_succ]
            refine wpAnyH_done (by kernel_rfl) ?_ _
            have HREL := Lib.hid (show HCut ⟨w1.heap.size, []⟩ w8 w1.heap.size N v (errOf (erO KF)) pb1 pm pl (.pointer (some ⟨bM, 0, none⟩)) (.bool pb1) (errOf (erO KF)) wx3 from ⟨bM, CP, yq, yv, yu, ym, v9, rfl, rfl, rfl, M_3.out, HCP.out, MO_3.out, CA_3.out, FH_3.out, hHeld, GM_3.out⟩)
            go_wp2_with fail
            go_meet
            exact HREL.out
          refine AllReadyH.consV (some 26) (Go.Op.alloc 43) 0 (by kernel_rfl) (fun K hK => ?_) AllReadyH.nil
          refine opr_alloc 43 zeroMsg (cs := #[.int .i64 0, .bool false, .int .i64 0, .bool false, .bool false, .bool false, .bool false, .bool false, .bool false, .bool false, .int .i64 0, .slice none 0 0, .slice none 0 0, .slice none 0 0, .slice none 0 0]) rfl ?_
          intro bM wx4 hb4 hg4 hf4
          have F0_4 := Lib.hid (F0_0.out.trans hf4 (by simp))
          have M_4 := Lib.hid (hb4)
          have GM_4 := Lib.hid (show w8.heap.size ≤ bM from Nat.le_trans hHeld.size hg4)
          have hS2 := hHeld.trans hf4 (by simp)
          clear hf4 hHeld hb4 hg4
          refine hK.out _ _ hS2 (fun hHeld => ?_)
          clear hK K hS2
          try simp only [List.setIfInBounds_toArray, List.set_cons_zero, List.set_cons_succ]
          refine wpAnyH_ready (rs := [9]) (by kernel_rfl) (by simp) ?_
          refine AllReadyH.consV (some 182) (Go.Op.call { callee := Go.Callee.value (Go.Operand.func 13), args := #[Go.Operand.tmp 173, Go.Operand.tmp 177, Go.Operand.tmp 181], argTypes := #[26, 43, 3] }) 52 (by kernel_rfl) (fun K hK => ?_) AllReadyH.nil
          refine opr_go 13 #[Go.Operand.tmp 173, Go.Operand.tmp 177, Go.Operand.tmp 181] #[26, 43, 3] (fun _ _ => by kernel_rfl) _ (vals3 (by go_simp) (by go_simp) (by go_simp)) (HPG.out _ (HW8.out.trans F0_4.out (by simp)) (Nat.le_trans H18.out.size F0_4.out.size) (HC8.out.fr0 F0_4.out)) ?_
          rintro e wx5 ⟨CP, yq, yv, yu, ym, v9, hcp, rfl, hmm, hca, hfh, hf5⟩
          have HCP := Lib.hid hcp
          have HOP := Lib.hid (show CP.all (·.oneCell') = true by rw [hcp]; exact hmm.one_cells)
          have HP15 := Lib.hid (show CP.size = 15 by rw [hcp]; rfl)
          refine ⟨_, rfl, ?_⟩
          have M_5 := Lib.hid (hf5.blk M_4.out ((HC8.out.fr0 F0_4.out).apartP M_4.out (by decide) (by decide)))
          have GM_5 := Lib.hid (GM_4.out)
          have CA_5 := Lib.hid (hca)
          have MO_5 := Lib.hid (hmm)
          have FH_5 := Lib.hid (show FrH _ w8 wx5 from (F0_4.out.hot0 _).trans hfh)
          have hS2 := hHeld.trans hf5 (fun x hx => .inl hx)
          clear hf5 hHeld hcp hca hmm hfh
          refine hK.out _ _ hS2 (fun hHeld => ?_)
          clear hK K hS2
          try simp only [List.setIfInBounds_toArray, List.set_cons_zero, List.set_cons_succ]
          refine takeV (i := 10) 172 (Go.Op.move (Go.Operand.tmp 182)) 52 (v := ?_) (by kernel_rfl) (by kernel_rfl) (by kernel_rfl) (by kernel_rfl) (fun _ _ _ h => h) (Or.inl ⟨by rfl, ?_⟩) hHeld ?_
          case refine_2 => (intro wq hq; dsimp only [opr]; go_simp; try (with_reducible rfl))
          try simp only [List.setIfInBounds_toArray, List.set_cons_zero, List.set_cons_succ]
          refine takeV (i := 11) 183 (Go.Op.extract (Go.Operand.tmp 172) 0) 43 (v := ?_) (by kernel_rfl) (by kernel_rfl) (by kernel_rfl) (by kernel_rfl) (fun _ _ _ h => h) (Or.inl ⟨by rfl, ?_⟩) hHeld ?_
          case refine_2 => (intro wq hq; dsimp only [opr]; go_simp; try (with_reducible rfl))
          try simp only [List.setIfInBounds_toArray, List.set_cons_zero, List.set_cons_succ]
          refine takeV (i := 12) 184 (Go.Op.extract (Go.Operand.tmp 172) 1) 4 (v := ?_) (by kernel_rfl) (by kernel_rfl) (by kernel_rfl) (by kernel_rfl) (fun _ _ _ h => h) (Or.inl ⟨by rfl, ?_⟩) hHeld ?_
          case refine_2 => (intro wq hq; dsimp only [opr]; go_simp; try (with_reducible rfl))
          try simp only [List.setIfInBounds_toArray, List.set_cons_zero, List.set_cons_succ]
          refine takeV (i := 13) 185 (Go.Op.extract (Go.Operand.tmp 172) 2) 28 (v := ?_) (by kernel_rfl) (by kernel_rfl) (by kernel_rfl) (by kernel_rfl) (fun _ _ _ h => h) (Or.inl ⟨by rfl, ?_⟩) hHeld ?_
          case refine_2 => (intro wq hq; dsimp only [opr]; go_simp; try (with_reducible rfl))
          try simp only [List.setIfInBounds_toArray, List.set_cons_zero, List.set_cons_succ]
          refine wpAnyH_ready (rs := [15]) (by kernel_rfl) (by simp) ?_
          refine AllReadyH.consV none (Go.Op.store 43 (Go.Operand.tmp 26) (Go.Operand.tmp 183)) 0 (by kernel_rfl) (fun K hK => ?_) AllReadyH.nil
          refine opr_store 43 (Go.Operand.tmp 26) (Go.Operand.tmp 183) bM CP #[.int .i64 0, .bool false, .int .i64 0, .bool false, .bool false, .bool false, .bool false, .bool false, .bool false, .bool false, .int .i64 0, .slice none 0 0, .slice none 0 0, .slice none 0 0, .slice none 0 0] 43 (by go_simp) (by go_simp; try rfl) M_5.out (by rw [HP15.out]; rfl) (by rw [HP15.out]; exact infoMsg15) HOP.out ?_
          intro wx6 hb6 hf6
          have M_6 := Lib.hid (hb6)
          have GM_6 := Lib.hid (GM_5.out)
          have CA_6 := Lib.hid (CA_5.out.keptT hf6 M_5.out (by decide) (by decide) (fr_hot hf6 M_5.out rfl (Nat.le_trans H18.out.size GM_5.out)))
          have MO_6 := Lib.hid (MO_5.out.frH (fr_hot hf6 M_5.out rfl (Nat.le_trans H18.out.size GM_5.out)))
          have FH_6 := Lib.hid (FH_5.out.trans (fr_hot hf6 M_5.out rfl (Nat.le_trans H18.out.size GM_5.out)))
          have hS2 := hHeld.trans hf6 (fun x hx => .inr (by simp only [List.mem_cons, List.not_mem_nil, or_false] at hx; rw [hx]; exact GM_5.out))
          clear hf6 hHeld hb6
          refine hK.out _ _ hS2 (fun hHeld => ?_)
          clear hK K hS2
          try simp only [List.setIfInBounds_toArray, List.set_cons_zero, List.set_cons_succ]
          refine takeV (i := 16) 27 (Go.Op.assign (Go.Operand.tmp 184)) 4 (v := ?_) (by kernel_rfl) (by kernel_rfl) (by kernel_rfl) (by kernel_rfl) (fun _ _ _ h => h) (Or.inl ⟨by rfl, ?_⟩) hHeld ?_
          case refine_2 => (intro wq hq; dsimp only [opr]; go_simp; try (with_reducible rfl))
          try simp only [List.setIfInBounds_toArray, List.set_cons_zero, List.set_cons_succ]
          refine takeV (i := 17) 19 (Go.Op.assign (Go.Operand.tmp 185)) 28 (v := ?_) (by kernel_rfl) (by kernel_rfl) (by kernel_rfl) (by kernel_rfl) (fun _ _ _ h => h) (Or.inl ⟨by rfl, ?_⟩) hHeld ?_
          case refine_2 => (intro wq hq; dsimp only [opr]; go_simp; try (with_reducible rfl))
          try simp only [List.setIfInBounds_toArray, List.set_cons_zero, List.set_cons_succ]
          refine wpAnyH_done (by kernel_rfl) ?_ _
          have HREL := Lib.hid (show HCut ⟨w1.heap.size, []⟩ w8 w1.heap.size N v (errOf (erO KF)) pb1 pm pl (.pointer (some ⟨bM, 0, none⟩)) (.bool pb1) (errOf (erO KF)) wx6 from ⟨bM, CP, yq, yv, yu, ym, v9, rfl, rfl, rfl, M_6.out, HCP.out, MO_6.out, CA_6.out, FH_6.out, hHeld, GM_6.out⟩)
          go_wp2_with fail
          go_meet
          exact HREL.out
        case rest =>
          obtain ⟨b9, CP, yq, yv, yu, ym, v9, rfl, rfl, rfl, hb9, hcp, hmo9, hca9, hfh9, hfo9, hge9⟩ := hcut
          have HB9 := Lib.hid hb9
          have HCP := Lib.hid hcp
          have HMO9 := Lib.hid hmo9
          have HCA9 := Lib.hid hca9
          have HFH9 := Lib.hid hfh9
          have HFO9 := Lib.hid hfo9
          have HWZ := Lib.hid (HWY.out _ hfo9)
          clear hb9 hcp hmo9 hca9 hfh9 hfo9 HPG HWY
          rename_i w9
          go_wp2_with fail
          refine (HER.out _ HWZ.out KF).mono ?_
          rintro e w10 ⟨rfl, hf10⟩
          have HF10 := Lib.hid hf10
          have hr1 := rng_arr (hf10.blk HB9.out (by simp))
          have hr2 := rng_arr (hf10.blk (HFO9.out.blk HB28.out (HC8.out.apartP HB28.out (by decide) (by decide))) (by simp))
          have HPL := Lib.hid (show (Tryd.prog.info? 43).map (·.size) = some CP.toList.length from by rw [HCP.out]; exact infoMsg15)
          have HML := Lib.hid (show (Tryd.prog.info? 43).map (·.size) = some CM.toList.length from by rw [HCM.out]; exact infoMsg15)
          have HEQ := Lib.hid (show Calls Tryd.prog 14 #[.agg CP, .agg CM] w10 (fun e w' => e = .returned (.bool true) ∧ Fr [] w10 w') from by
            rw [HCP.out, HCM.out]
            exact message_eq w10 ⟨w1.heap.size, []⟩ ⟨w1.heap.size, []⟩ pm rm _ _ _ _ _ _ _ _ (HMO9.out.frH (hf10.hot0 _)) ((HMO8.out.frH HFH9.out).frH (hf10.hot0 _)) HBG.out.2.1)
          clear hf10
          go_wp2_with (first
            | ((with_reducible refine wpList_loadArr ?_ 43 (.tmp 26) ?_ b9 0 ?_ CP _ ?_ Tryd.underlying43 ?_ ?_ ?_); rfl; rfl; rfl; exact hr1; rfl; exact HPL.out)
            | ((with_reducible refine wpList_loadArr ?_ 43 (.tmp 24) ?_ b2 0 ?_ CM _ ?_ Tryd.underlying43 ?_ ?_ ?_); rfl; rfl; rfl; exact hr2; rfl; exact HML.out)
            | fail)
          refine HEQ.out.mono ?_
          rintro e w11 ⟨rfl, hf11⟩
          have HF11 := Lib.hid (HF10.out.trans hf11 (by simp))
          clear hf11 hr1 hr2
          have HREL := Lib.hid (show CTL w1 N w1.heap.size pt w11 from ⟨v9, _, a, c, _, HCA9.out.fr0 HF11.out, by rw [← HM.out]; exact (HR8.out.frH HFH9.out).frH (HF11.out.hot0 _), by rw [← HM.out]; exact HF11.out.blk (HFO9.out.blk HB8.out HAP.out) (by simp), HBG.out.2.2.1, HBG.out.2.2.2, HRK.out.1, HRK.out.2, (H18.out.trans HFO9.out (fun x hx => .inr (HGE8.out x hx))).trans HF11.out (by simp)⟩)
          go_wp2_with fail
          go_roundw
          case rel => exact ⟨k + 1, by omega, by go_num, HREL.out⟩
          case measure => (simp [intOf]; omega)

end Go.Proofs.YtkdmkpdooiacaaaDoor
