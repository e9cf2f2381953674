/- What the texts below need: HeadX, MsTie, FindN, Secs. -/
import Derived.Test.YtkdmkpdooiacaaaZHeadW
import Derived.Test.YtkdmkpdooiacaaaZWriteLaw
import Derived.Test.YtkdmkpdooiacaaaZbase3
import Derived.Test.YtkdmkpdooiacaaaZbase1
import Derived.Test.YtkdmkpdooiacaaaZSMsg
namespace Go.Proofs.Ytkdmkpdooiacaaa
open Go.RowKit

theorem or_bit (hi lo p : Nat) (h : lo < 2 ^ p) : (hi * 2 ^ (p + 1) + lo) ||| 2 ^ p = hi * 2 ^ (p + 1) + (2 ^ p + lo) := by
  have h1 : lo < 2 ^ (p + 1) := Nat.lt_of_lt_of_le h (Nat.pow_le_pow_right (by decide) (Nat.le_succ p))
  have h2 : 2 ^ p + lo < 2 ^ (p + 1) := by rw [Nat.pow_succ]; omega
  rw [Nat.mul_comm hi, Nat.two_pow_add_eq_or_of_lt h1, Nat.two_pow_add_eq_or_of_lt h2, Nat.or_assoc]
  congr 1
  have h3 := Nat.two_pow_add_eq_or_of_lt h 1
  rw [Nat.mul_one] at h3
  rw [Nat.or_comm, ← h3]

theorem or_bitI {x : Int} (p : Nat) (hi lo : Nat) (h : lo < 2 ^ p) (hp : p < 62) (hx : x = ((hi * 2 ^ (p + 1) + lo : Nat) : Int)) (hb : hi * 2 ^ (p + 1) + lo < 2 ^ 62) : bits .or .i64 x ((2 ^ p : Nat) : Int) = x + ((2 ^ p : Nat) : Int) := by
  subst hx
  rw [(bits_nat .i64 62 (by decide) wraps_i64 _ _ hb (Nat.pow_lt_pow_right (by decide) hp)).2, or_bit hi lo p h]
  omega

/-- the flags so far -/
def flX (h : Hd) (k : Nat) : Nat := h.op.toNat * 2048 + h.code.toNat + (if 0 < k then oneB h.an 32768 else 0) + (if 1 < k then oneB h.aa 1024 else 0) + (if 2 < k then oneB h.tc 512 else 0) + (if 3 < k then oneB h.rd 256 else 0) + (if 4 < k then oneB h.ra 128 else 0) + (if 5 < k then oneB h.z 64 else 0) + (if 6 < k then oneB h.ad 32 else 0)

/-- where the flags stand -/
def flP : Nat → Nat
  | 0 => 15
  | 1 => 10
  | 2 => 9
  | 3 => 8
  | 4 => 7
  | 5 => 6
  | _ => 5

theorem flX_or (h : Hd) (k : Nat) (hk : k < 7) (ho : 0 ≤ h.op ∧ h.op ≤ 15) (hc : 0 ≤ h.code ∧ h.code ≤ 15) : bits .or .i64 (flX h k : Int) ((2 ^ flP k : Nat) : Int) = (flX h k : Int) + ((2 ^ flP k : Nat) : Int) := by
  have h1 : h.op.toNat ≤ 15 := by omega
  have h2 : h.code.toNat ≤ 15 := by omega
  unfold flX oneB
  generalize h.op.toNat = x at *
  generalize h.code.toNat = y at *
  match k, hk with
  | 0, _ => exact or_bitI 15 0 (x * 2048 + y) (by simp; omega) (by decide) (by simp) (by simp; omega)
  | 1, _ => refine or_bitI 10 ((if h.an then 16 else 0) + x) y (by simp; omega) (by decide) ?_ ?_ <;> cases h.an <;> simp <;> omega
  | 2, _ => refine or_bitI 9 ((if h.an then 32 else 0) + 2 * x + (if h.aa then 1 else 0)) y (by simp; omega) (by decide) ?_ ?_ <;> cases h.an <;> cases h.aa <;> simp <;> omega
  | 3, _ => refine or_bitI 8 ((if h.an then 64 else 0) + 4 * x + (if h.aa then 2 else 0) + (if h.tc then 1 else 0)) y (by simp; omega) (by decide) ?_ ?_ <;> cases h.an <;> cases h.aa <;> cases h.tc <;> simp <;> omega
  | 4, _ => refine or_bitI 7 ((if h.an then 128 else 0) + 8 * x + (if h.aa then 4 else 0) + (if h.tc then 2 else 0) + (if h.rd then 1 else 0)) y (by simp; omega) (by decide) ?_ ?_ <;> cases h.an <;> cases h.aa <;> cases h.tc <;> cases h.rd <;> simp <;> omega
  | 5, _ => refine or_bitI 6 ((if h.an then 256 else 0) + 16 * x + (if h.aa then 8 else 0) + (if h.tc then 4 else 0) + (if h.rd then 2 else 0) + (if h.ra then 1 else 0)) y (by simp; omega) (by decide) ?_ ?_ <;> cases h.an <;> cases h.aa <;> cases h.tc <;> cases h.rd <;> cases h.ra <;> simp <;> omega
  | 6, _ => refine or_bitI 5 ((if h.an then 512 else 0) + 32 * x + (if h.aa then 16 else 0) + (if h.tc then 8 else 0) + (if h.rd then 4 else 0) + (if h.ra then 2 else 0) + (if h.z then 1 else 0)) y (by simp; omega) (by decide) ?_ ?_ <;> cases h.an <;> cases h.aa <;> cases h.tc <;> cases h.rd <;> cases h.ra <;> cases h.z <;> simp <;> omega

end Go.Proofs.Ytkdmkpdooiacaaa

namespace Go.Proofs.Ytkdmkpdooiacaaa
open Go.RowKit

def Qc.fn (q : Qc) : Qs := ⟨q.nm.length, fun j => q.nm.getD j .empty, q.ty, q.cl⟩
def Rc.fn (r : Rc) : Rs := ⟨r.nm.length, fun j => r.nm.getD j .empty, r.ty, r.cl, r.tt, r.dt.length, fun j => (gB r.dt j : Int)⟩
def Rc.zero : Rc := ⟨[], 0, 0, 0, []⟩
def Mc.fn (m : Mc) : Ms := ⟨m.h, m.qs.length, fun i => (m.qs.getD i ⟨[], 0, 0⟩).fn, m.an.length, fun i => (m.an.getD i Rc.zero).fn, m.un.length, fun i => (m.un.getD i Rc.zero).fn, m.mn.length, fun i => (m.mn.getD i Rc.zero).fn⟩

def Qs.lst (q : Qs) : Qc := ⟨(List.range q.nl).map q.nm, q.ty, q.cl⟩
def Rs.lst (r : Rs) : Rc := ⟨(List.range r.nl).map r.nm, r.ty, r.cl, r.tt, (List.range r.dl).map (fun j => byt (r.dt j).toNat)⟩
def Ms.lst (m : Ms) : Mc := ⟨m.h, (List.range m.qn).map (fun i => (m.Q i).lst), (List.range m.an).map (fun i => (m.A i).lst), (List.range m.un).map (fun i => (m.U i).lst), (List.range m.mn).map (fun i => (m.M i).lst)⟩

theorem getD_map {α β : Type} (n : Nat) (f : Nat → α) (d : α) (j : Nat) (h : j < n) : ((List.range n).map f).getD j d = f j := by
  rw [List.getD_eq_getElem?_getD, List.getElem?_map, List.getElem?_range h]
  rfl

theorem gB_map (n : Nat) (f : Nat → Int) (j : Nat) (h : j < n) (h0 : 0 ≤ f j ∧ f j ≤ 255) : (gB ((List.range n).map (fun j => byt (f j).toNat)) j : Int) = f j := by
  unfold gB
  rw [getD_map (β := Nat) n _ _ j h, byt_nat (by omega)]
  omega

theorem rs_tie {r : Rs} (h : r.Wf) : rsEq r.lst.fn r = true := by
  rw [rsEq_iff]
  refine ⟨⟨by simp [Rs.lst, Rc.fn], fun j hj => ?_⟩, ⟨by simp [Rs.lst, Rc.fn], fun j hj => ?_⟩, rfl, rfl, rfl⟩
  · have hj : j < r.nl := by simpa [Rs.lst, Rc.fn] using hj
    exact getD_map (β := Nat) _ _ _ j hj
  · have hj : j < r.dl := by simpa [Rs.lst, Rc.fn] using hj
    exact gB_map _ _ j hj (h.dt0 j hj)

theorem sec_tie {n : Nat} {R : Nat → Rs} (h : ∀ i, i < n → (R i).Wf) : secEq ((List.range n).map (fun i => (R i).lst)).length n (fun i => (((List.range n).map (fun i => (R i).lst)).getD i Rc.zero).fn) R :=
  ⟨by simp, fun i hi => by
    have hi : i < n := by simpa using hi
    show rsEq (((List.range n).map (fun i => (R i).lst)).getD i Rc.zero).fn (R i) = true
    rw [getD_map (β := Nat) n _ _ i hi]
    exact rs_tie (h i hi)⟩

theorem ms_tie {m : Ms} (hq : ∀ i, i < m.qn → (m.Q i).Wf) (ha : ∀ i, i < m.an → (m.A i).Wf) (hu : ∀ i, i < m.un → (m.U i).Wf) (hm : ∀ i, i < m.mn → (m.M i).Wf) : msEq m.lst.fn m :=
  ⟨rfl, ⟨by simp [Ms.lst, Mc.fn], fun i hi => by
    have hi : i < m.qn := by simpa [Ms.lst, Mc.fn] using hi
    have e : m.lst.fn.Q i = (m.Q i).lst.fn := by
      show (((List.range m.qn).map (fun i => (m.Q i).lst)).getD i ⟨[], 0, 0⟩).fn = _
      rw [getD_map (β := Nat) _ _ _ i hi]
    rw [e]
    refine ⟨?_, rfl, rfl⟩
    rw [txEq_iff]
    refine ⟨by simp [Qs.lst, Qc.fn], fun j hj => ?_⟩
    have hj : j < (m.Q i).nl := by simpa [Qs.lst, Qc.fn] using hj
    exact getD_map (β := Nat) _ _ _ j hj⟩, sec_tie ha, sec_tie hu, sec_tie hm⟩

/-! ## what is read is in reach -/

theorem lsz_len (l : List ByteArray) (h : ∀ x ∈ l, 1 ≤ x.size ∧ x.size ≤ 63) : 2 * l.length ≤ lsz l := by
  induction l with
  | nil => simp
  | cons x r ih =>
    have h1 := h x (by simp)
    have h2 := ih (fun y hy => h y (List.mem_cons_of_mem _ hy))
    simp only [List.length_cons, lsz]
    omega

theorem nm_ok {L : List UInt8} {i : Nat} {ls : List ByteArray} {p : Nat} (h : rdNm L i i 1 = .ok (ls, p)) : ls.length ≤ 127 ∧ ∀ j, j < ls.length → (ls.getD j .empty).size ≤ 63 := by
  obtain ⟨_, _, h3, h4⟩ := rdNm_bd h
  simp only at h3 h4
  have h5 := h3 (by decide)
  have h6 := lsz_len ls h4
  refine ⟨by omega, fun j hj => ?_⟩
  rw [List.getD_eq_getElem?_getD, List.getElem?_eq_getElem hj]
  exact (h4 _ (List.getElem_mem hj)).2

theorem rdQ_wf {L : List UInt8} {i : Nat} {x : Qc × Nat} (h : rdQ L i = .ok x) : x.1.fn.Wf ∧ x.1.fn.nl ≤ 127 := by
  unfold rdQ at h
  match hn : rdNm L i i 1, h with
  | .ok (ls, p), h =>
    obtain ⟨h1, h2⟩ := nm_ok hn
    simp only [] at h
    split at h
    · cases h
    · cases h
      have b1 := pr_lt L p
      have b2 := pr_lt L (p + 2)
      refine ⟨⟨?_, ?_, fun j hj => Nat.le_trans (h2 j hj) (by decide), ?_⟩, h1⟩
      · show -9223372036854775808 ≤ ((pr L p : Nat) : Int) ∧ ((pr L p : Nat) : Int) ≤ 9223372036854775807; omega
      · show -9223372036854775808 ≤ ((pr L (p + 2) : Nat) : Int) ∧ ((pr L (p + 2) : Nat) : Int) ≤ 9223372036854775807; omega
      · show ls.length * 16 ≤ _; omega

theorem rdR_wf {L : List UInt8} {i : Nat} {x : Rc × Nat} (h : rdR L i = .ok x) : x.1.fn.Wf ∧ x.1.fn.nl ≤ 127 ∧ x.1.fn.dl ≤ 65535 := by
  unfold rdR at h
  match hn : rdNm L i i 1, h with
  | .ok (ls, p), h =>
    obtain ⟨h1, h2⟩ := nm_ok hn
    simp only [] at h
    split at h
    · cases h
    · split at h
      · cases h
      · cases h
        have b1 := pr_lt L p
        have b2 := pr_lt L (p + 2)
        have b3 := pr_lt L (p + 4)
        have b4 := pr_lt L (p + 6)
        have b5 := pr_lt L (p + 8)
        have b6 : (sub L (p + 10) (pr L (p + 8))).length ≤ 65535 := by unfold sub; simp; omega
        refine ⟨⟨?_, ?_, ?_, fun j hj => ?_, fun j hj => Nat.le_trans (h2 j hj) (by decide), ?_, ?_⟩, h1, b6⟩
        · show -9223372036854775808 ≤ ((pr L p : Nat) : Int) ∧ ((pr L p : Nat) : Int) ≤ 9223372036854775807; omega
        · show -9223372036854775808 ≤ ((pr L (p + 2) : Nat) : Int) ∧ ((pr L (p + 2) : Nat) : Int) ≤ 9223372036854775807; omega
        · show -9223372036854775808 ≤ ((pr L (p + 4) : Nat) : Int) * 65536 + ((pr L (p + 6) : Nat) : Int) ∧ ((pr L (p + 4) : Nat) : Int) * 65536 + ((pr L (p + 6) : Nat) : Int) ≤ 9223372036854775807; omega
        · have := gB_lt (sub L (p + 10) (pr L (p + 8))) j
          show 0 ≤ (gB (sub L (p + 10) (pr L (p + 8))) j : Int) ∧ (gB (sub L (p + 10) (pr L (p + 8))) j : Int) ≤ 255
          omega
        · show ls.length * 16 ≤ _; omega
        · show (sub L (p + 10) (pr L (p + 8))).length ≤ _; omega

end Go.Proofs.Ytkdmkpdooiacaaa

namespace Go.Proofs.Ytkdmkpdooiacaaa
open Go.RowKit

/-- a start, or none -/
def fndI : Option Nat → Int
  | some p => p
  | none => -1

/-- numbers of a list -/
def natV (l : List Nat) (j : Nat) : Value := .int .i64 (l.getD j 0 : Nat)

theorem txEq_list (a b : List ByteArray) : txEq a.length b.length (fun j => a.getD j .empty) (fun j => b.getD j .empty) = decide (a = b) := by
  rw [Bool.eq_iff_iff, txEq_iff, decide_eq_true_iff]
  constructor
  · rintro ⟨h1, h2⟩
    apply List.ext_getElem h1
    intro i hi hj
    have := h2 i hi
    rw [List.getD_eq_getElem?_getD, List.getD_eq_getElem?_getD, List.getElem?_eq_getElem hi, List.getElem?_eq_getElem hj] at this
    exact this
  · rintro rfl
    exact ⟨rfl, fun _ _ => rfl⟩

theorem fndP_drop (L : List UInt8) (st : List Nat) (ls : List ByteArray) (k : Nat) (hk : k < st.length) : fndP L (st.drop k) ls = if stands L ls (st.getD k 0) = true then some (st.getD k 0) else fndP L (st.drop (k + 1)) ls := by
  have e : st.getD k 0 = st[k] := by rw [List.getD_eq_getElem?_getD, List.getElem?_eq_getElem hk]; rfl
  rw [e]
  unfold fndP
  rw [List.drop_eq_getElem_cons hk, List.find?_cons]
  cases stands L ls st[k] <;> rfl

set_option maxHeartbeats 4000000 in
set_option maxRecDepth 100000 in
theorem wfind_any (w : World) (a : Option Addr) (c : Nat) (L : List UInt8) (hv : RdF w (.slice a L.length c) L.length (bytV L)) (hl : L.length ≤ 140737488355328) (sa : Option Addr) (sc : Nat) (st : List Nat)
    (hst : RdF w (.slice sa st.length sc) st.length (natV st)) (hsl : st.length ≤ 140737488355328) (na : Option Addr) (nc : Nat) (ls : List ByteArray) (hn : RdF w (.slice na ls.length nc) ls.length (strV ls)) (hnl : ls.length ≤ 140737488355328) :
    Calls Try.prog 32 #[.slice a L.length c, .slice sa st.length sc, .slice na ls.length nc] w fun e w' => e = .returned (.int .i64 (fndI (fndP L st ls))) ∧ Fr [] w w' := by
  have HV := Lib.hid hv
  have HST := Lib.hid hst
  have HN := Lib.hid hn
  have HRN := Lib.hid (fun (wx : World) (hx : Fr [] w wx) (i : Nat) => readN_any wx a c L i (hv.fr hx (by simp)) hl)
  have HEQ := Lib.hid (fun (wx : World) (hx : Fr [] w wx) (l2 : List ByteArray) (a2 : Option Addr) (c2 : Nat) (h2 : RdF wx (.slice a2 l2.length c2) l2.length (strV l2)) (hl2 : l2.length ≤ 9223372036854775807) =>
    show Calls Try.prog 37 #[.slice a2 l2.length c2, .slice na ls.length nc] wx fun e w' => e = .returned (.bool (decide (l2 = ls))) ∧ Fr [] wx w' from
      (equalS_any wx a2 na l2.length ls.length c2 nc (fun j => l2.getD j .empty) (fun j => ls.getD j .empty) h2 (hn.fr hx (by simp)) hl2 (by omega)).mono fun e w' ⟨h1, q, hq⟩ => ⟨by rw [h1, txEq_list], by rw [hq]; exact (Fr.refl [] wx).drewN q⟩)
  have HFD := Lib.hid (fun k (hk : k < st.length) => fndP_drop L st ls k hk)
  have HNM := Lib.hid (fun i x (h : rdNm L i i 1 = .ok x) => nm_ok (ls := x.1) (p := x.2) h)
  have HSD := Lib.hid (show ∀ s, stands L ls s = (decide (s ≤ 16383) && (match rdNm L s s 1 with
    | .error _ => false
    | .ok x => decide (x.1 = ls))) from fun s => rfl)
  have H0 := Lib.hid (show fndP L st ls = fndP L (st.drop 0) ls from rfl)
  have HEND := Lib.hid (show ∀ k, st.length ≤ k → fndP L (st.drop k) ls = none from fun k hk => by rw [List.drop_of_length_le hk]; rfl)
  have HG := Lib.hid (show ∀ k, natV st k = .int .i64 (st.getD k 0 : Nat) from fun _ => rfl)
  generalize fndP L st ls = R at *
  clear hv hst hn
  go_enter Try.func32, Try.ntmps32
  go_wp2
  go_loopw [14] (fun vi wr => ∃ k : Nat, k ≤ st.length ∧ vi = .int .i64 k ∧ Hid (R = fndP L (st.drop k) ls) ∧ Fr [] w wr) (fun vi _ => st.length - (intOf vi).toNat)
  case atStart => exact ⟨0, by omega, rfl, H0, Fr.refl _ _⟩
  case round =>
    obtain ⟨k, hk, rfl, HR, hf⟩ := hrel
    have HF := Lib.hid hf
    clear hf
    by_cases hlt : k < st.length
    · obtain ⟨b1, o1, c1, he1, _, _, _, hc1⟩ := (HST.out.fr HF.out (by simp)).shape (by omega)
      simp only [Value.slice.injEq, true_and] at he1
      obtain ⟨rfl, rfl⟩ := he1
      have k1 := hc1 k hlt
      rw [HG.out] at k1
      clear hc1
      have HR2 := Lib.hid (HR.out.trans (HFD.out k hlt))
      have HK := Lib.hid hlt
      have k0 : (0 : Int) ≤ (k : Int) := by omega
      have k3 : (k : Int) < (st.length : Int) := by omega
      generalize st.getD k 0 = s at *
      generalize hsn : st.length = sn at *
      have HSN := Lib.hid hsn
      clear hlt hsn
      by_cases h16 : s ≤ 16383
      · have d1 : ¬ 16383 < (s : Int) := by omega
        have HS := Lib.hid (HSD.out s)
        have HRS := Lib.hid (HRN.out wr HF.out s)
        have HNS := Lib.hid (HNM.out s)
        have H16 := Lib.hid h16
        clear h16
        generalize rdNm L s s 1 = N at *
        go_wp2_with fail
        with_reducible refine HRS.out.mono ?_
        rintro e w7 ⟨h7, hf7⟩
        have HF7 := Lib.hid (HF.out.trans hf7 (by simp))
        have HSZ := Lib.hid HF.out.size
        clear hf7
        rcases h7 with ⟨z, rfl, hz0, rfl⟩ | ⟨l2, p, ua, uc, rfl, rfl, ho⟩
        · have HS2 := Lib.hid (HS.out.trans (Bool.and_false _))
          have HR3 := Lib.hid (show R = fndP L (st.drop (k + 1)) ls from HR2.out.trans (by rw [HS2.out]; rfl))
          clear hz0 HR HR2 HS
          go_wp2
          go_roundw
          case rel => exact ⟨k + 1, by have := HK.out; have := HSN.out; omega, by go_num, HR3, HF7.out⟩
          case measure => (have := HK.out; have := HSN.out; simp [intOf]; omega)
        · obtain ⟨hl2, _⟩ := HNS.out _ rfl
          simp only at hl2
          have HQ := Lib.hid (HEQ.out w7 HF7.out l2 ua uc ho.rd (by omega))
          have HS2 := Lib.hid (show stands L ls s = decide (l2 = ls) from by rw [HS.out, decide_eq_true H16.out]; rfl)
          clear ho HS hl2 HNS
          generalize decide (l2 = ls) = D at *
          go_wp2_with fail
          with_reducible refine HQ.out.mono ?_
          rintro e w8 ⟨rfl, hf8⟩
          have HF8 := Lib.hid (HF7.out.trans hf8 (by simp))
          clear hf8 HQ
          cases D with
          | true =>
            have HR3 := Lib.hid (show R = some s from HR2.out.trans (by rw [HS2.out]; rfl))
            clear HR HR2
            go_wp2
            go_ret
            rw [HR3.out]
            exact ⟨rfl, HF8.out⟩
          | false =>
            have HR3 := Lib.hid (show R = fndP L (st.drop (k + 1)) ls from HR2.out.trans (by rw [HS2.out]; rfl))
            clear HR HR2
            go_wp2
            go_roundw
            case rel => exact ⟨k + 1, by have := HK.out; have := HSN.out; omega, by go_num, HR3, HF8.out⟩
            case measure => (have := HK.out; have := HSN.out; simp [intOf]; omega)
      · have d1 : 16383 < (s : Int) := by omega
        have HS2 := Lib.hid (show stands L ls s = false from by rw [HSD.out s, decide_eq_false h16]; rfl)
        have HR3 := Lib.hid (show R = fndP L (st.drop (k + 1)) ls from HR2.out.trans (by rw [HS2.out]; rfl))
        clear HR HR2 h16
        go_wp2
        go_roundw
        case rel => exact ⟨k + 1, by have := HK.out; have := HSN.out; omega, by go_num, HR3, HF.out⟩
        case measure => (have := HK.out; have := HSN.out; simp [intOf]; omega)
    · obtain rfl : k = st.length := by omega
      have HR3 := Lib.hid (HR.out.trans (HEND.out _ (Nat.le_refl _)))
      clear HR hlt
      generalize st.length = sn at *
      go_wp2
      go_ret
      rw [HR3.out]
      exact ⟨rfl, HF.out⟩

end Go.Proofs.Ytkdmkpdooiacaaa

namespace Go.Proofs.Ytkdmkpdooiacaaa
open Go.RowKit

/-- a message's sections of records -/
def secL (m : Mc) : Nat → List Rc
  | 0 => m.an
  | 1 => m.un
  | _ => m.mn

/-- so many of them behind a message -/
def wrS (m : Mc) (o : List UInt8 × List Nat) : Nat → Except Int (List UInt8 × List Nat)
  | 0 => .ok o
  | k + 1 => match wrS m o k with
    | .error e => .error e
    | .ok o' => wrK wrR (secL m k) o' (secL m k).length

theorem wrS_err {m : Mc} {o : List UInt8 × List Nat} {k : Nat} {e : Int} (h : wrS m o k = .error e) (n : Nat) (hn : k ≤ n) : wrS m o n = .error e := by
  induction n with
  | zero => obtain rfl : k = 0 := by omega
            exact h
  | succ n ih =>
    by_cases h2 : k = n + 1
    · subst h2; exact h
    · simp only [wrS]; rw [ih (by omega)]

/-- what is told of a message that was written -/
def wrEnd : Except Int (List UInt8 × List Nat) → Except Int (List UInt8)
  | .error e => .error e
  | .ok o => if 65535 < o.1.length then .error 7 else .ok o.1

/-- the questions, and then the sections -/
def wrQS (m : Mc) : Except Int (List UInt8 × List Nat) → Except Int (List UInt8 × List Nat)
  | .error e => .error e
  | .ok o => wrS m o 3

theorem wrMsg_S (m : Mc) : wrMsg m = if ¬ hdOkB m.h then .error 6
    else if 65535 < m.qs.length ∨ 65535 < m.an.length ∨ 65535 < m.un.length ∨ 65535 < m.mn.length then .error 7
    else wrEnd (wrQS m (wrK wrQ m.qs (wrTop m, []) m.qs.length)) := by
  unfold wrMsg
  split
  · rfl
  · split
    · rfl
    · match wrK wrQ m.qs (wrTop m, []) m.qs.length with
      | .error e => rfl
      | .ok o1 =>
        simp only [wrQS, wrS, secL]
        match wrK wrR m.an o1 m.an.length with
        | .error e => rfl
        | .ok o2 =>
          simp only []
          match wrK wrR m.un o2 m.un.length with
          | .error e => rfl
          | .ok o3 =>
            simp only []
            match wrK wrR m.mn o3 m.mn.length with
            | .error e => rfl
            | .ok o4 => rfl

/-- so many sections of records at a place -/
def rdS (L : List UInt8) (i : Nat) : Nat → Except Int (List (List Rc) × Nat)
  | 0 => .ok ([], i)
  | k + 1 => match rdS L i k with
    | .error e => .error e
    | .ok (S, j) => match rdK (rdR L) j (pr L (6 + 2 * k)) with
      | .error e => .error e
      | .ok (rs, n) => .ok (S ++ [rs], n)

theorem rdS_len {L : List UInt8} {i k : Nat} {x : List (List Rc) × Nat} (h : rdS L i k = .ok x) : x.1.length = k := by
  induction k generalizing x with
  | zero => simp only [rdS, Except.ok.injEq] at h; subst h; rfl
  | succ k ih =>
    simp only [rdS] at h
    match hk : rdS L i k, h with
    | .ok (S, j), h =>
      simp only [] at h
      match hj : rdK (rdR L) j (pr L (6 + 2 * k)), h with
      | .ok (rs, n), h =>
        simp only [Except.ok.injEq] at h
        subst h
        have := ih hk
        simp only [] at this
        simp [this]

theorem rdS_err {L : List UInt8} {i k : Nat} {e : Int} (h : rdS L i k = .error e) (n : Nat) (hn : k ≤ n) : rdS L i n = .error e := by
  induction n with
  | zero => obtain rfl : k = 0 := by omega
            exact h
  | succ n ih =>
    by_cases h2 : k = n + 1
    · subst h2; exact h
    · simp only [rdS]; rw [ih (by omega)]

theorem rdS_ge {L : List UInt8} {i k : Nat} {x : List (List Rc) × Nat} (h : rdS L i k = .ok x) : i ≤ x.2 ∧ (i ≤ L.length → x.2 ≤ L.length) := by
  induction k generalizing x with
  | zero => simp only [rdS, Except.ok.injEq] at h; subst h; exact ⟨Nat.le_refl _, id⟩
  | succ k ih =>
    simp only [rdS] at h
    match hk : rdS L i k, h with
    | .ok (S, j), h =>
      simp only [] at h
      match hj : rdK (rdR L) j (pr L (6 + 2 * k)), h with
      | .ok (rs, n), h =>
        simp only [Except.ok.injEq] at h
        subst h
        have h1 := ih hk
        have h2 := rdK_ge (N := L.length) (fun j x hx => rdR_bd hx) hj
        simp only [] at h1 h2 ⊢
        exact ⟨by omega, fun hi => h2.2 (h1.2 hi)⟩

/-- what is told of a message that was read: the questions, the sections, and whether something is left -/
def rdEnd (L : List UInt8) (qs : List Qc) : Except Int (List (List Rc) × Nat) → Except Int Mc
  | .error e => .error e
  | .ok (S, i) => if i < L.length then .error 8 else .ok ⟨rdHd L, qs, S.getD 0 [], S.getD 1 [], S.getD 2 []⟩

def rdQS (L : List UInt8) : Except Int (List Qc × Nat) → Except Int Mc
  | .error e => .error e
  | .ok (qs, i) => rdEnd L qs (rdS L i 3)

theorem rdMsg_S (L : List UInt8) : rdMsg L = if L.length < 12 then .error 2 else rdQS L (rdK (rdQ L) 12 (pr L 4)) := by
  unfold rdMsg
  split
  · rfl
  · match rdK (rdQ L) 12 (pr L 4) with
    | .error e => rfl
    | .ok (qs, i1) =>
      simp only [rdQS, rdS, Nat.mul_zero, Nat.add_zero]
      match rdK (rdR L) i1 (pr L 6) with
      | .error e => rfl
      | .ok (an, i2) =>
        simp only []
        match rdK (rdR L) i2 (pr L 8) with
        | .error e => rfl
        | .ok (un, i3) =>
          simp only []
          match rdK (rdR L) i3 (pr L 10) with
          | .error e => rfl
          | .ok (mn, i4) => rfl

end Go.Proofs.Ytkdmkpdooiacaaa
