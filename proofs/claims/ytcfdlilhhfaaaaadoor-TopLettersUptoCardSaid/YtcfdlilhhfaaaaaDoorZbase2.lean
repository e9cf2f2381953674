/- What the texts below need: Key, KeyOne, PackW. -/
import Derived.Test.YtcfdlilhhfaaaaaDoorZbase1
namespace Go.Proofs.YtcfdlilhhfaaaaaDoor
open Go.RowKit

theorem nsz_congr {s t : Nat → ByteArray} (h : ∀ j, (s j).size = (t j).size) (k : Nat) : nsz s k = nsz t k := by
  induction k with
  | zero => rfl
  | succ k ih => simp only [nsz, ih, h k]

theorem lbad_congr {s t : Nat → ByteArray} (h : ∀ j, (s j).size = (t j).size) (k : Nat) : lbad s k = lbad t k := by
  induction k with
  | zero => rfl
  | succ k ih => simp only [lbad, ih, h k]

theorem nmFault_sm (n : Nat) (s : Nat → ByteArray) : nmFault n (fun j => smB (s j)) = nmFault n s := by
  unfold nmFault
  rw [nsz_congr (fun j => smB_size (s j)) n, lbad_congr (fun j => smB_size (s j)) n]

/-- are a question's numbers in their reach? -/
def Qs.ok (q : Qs) : Prop := 0 ≤ q.ty ∧ q.ty ≤ 65535 ∧ 0 ≤ q.cl ∧ q.cl ≤ 65535
instance (q : Qs) : Decidable q.ok := by unfold Qs.ok; infer_instance

def xByte (rd dob : Bool) : UInt8 := (if rd then 1 else 0) + (if dob then 2 else 0)

/-- the key's bytes -/
def keyL (q : Qs) (rd dob : Bool) : List UInt8 :=
  wireL (fun j => smB (q.nm j)) q.nl ++ [0] ++ [UInt8.ofNat (q.ty.toNat / 256), UInt8.ofNat (q.ty.toNat % 256), UInt8.ofNat (q.cl.toNat / 256), UInt8.ofNat (q.cl.toNat % 256), xByte rd dob]

/-- what is wrong with a message's key, where its option's fault is z -/
def keyFault (m : Ms) (z : Int) : Int :=
  if m.qn ≠ 1 then 9 else if nmFault (m.Q 0).nl (m.Q 0).nm ≠ 0 then nmFault (m.Q 0).nl (m.Q 0).nm else if ¬ (m.Q 0).ok then 6 else z

/-- what Find must do: the Do bit, what is wrong -/
def FindSays (m : Ms) (vq va vu vm : Value) (dob : Bool) (z : Int) (w : World) : Prop :=
  ∀ wx, Fr [] w wx → Calls Tryd.prog 28 #[msgV m.h vq va vu vm] wx fun e w' =>
    (∃ (sz co ve zz : Int) (has : Bool) (oa : Option Addr) (on oc : Nat), e = .returned (.tuple #[.agg #[.int .i64 sz, .int .i64 co, .int .i64 ve, .bool dob, .int .i64 zz, .slice oa on oc], .bool has, erVn z])) ∧ Fr [] wx w'

theorem msg_cells {w : World} {p : Nat} {h : Hd} {q a u m : Value} {T : TypeId} (hb : w.heap[p]? = some (.cells #[.int .i64 h.id, .bool h.an, .int .i64 h.op, .bool h.aa, .bool h.tc, .bool h.rd, .bool h.ra, .bool h.z, .bool h.ad, .bool h.cd, .int .i64 h.code, q, a, u, m] T (0, 0))) :
    w.cell? ⟨p, 0, none⟩ = some (.int .i64 h.id) ∧ w.cell? ⟨p, 1, none⟩ = some (.bool h.an) ∧ w.cell? ⟨p, 2, none⟩ = some (.int .i64 h.op) ∧ w.cell? ⟨p, 3, none⟩ = some (.bool h.aa) ∧ w.cell? ⟨p, 4, none⟩ = some (.bool h.tc) ∧
    w.cell? ⟨p, 5, none⟩ = some (.bool h.rd) ∧ w.cell? ⟨p, 6, none⟩ = some (.bool h.ra) ∧ w.cell? ⟨p, 7, none⟩ = some (.bool h.z) ∧ w.cell? ⟨p, 8, none⟩ = some (.bool h.ad) ∧ w.cell? ⟨p, 9, none⟩ = some (.bool h.cd) ∧
    w.cell? ⟨p, 10, none⟩ = some (.int .i64 h.code) ∧ w.cell? ⟨p, 11, none⟩ = some q ∧ w.cell? ⟨p, 12, none⟩ = some a ∧ w.cell? ⟨p, 13, none⟩ = some u ∧ w.cell? ⟨p, 14, none⟩ = some m :=
  ⟨blk_cell hb 0 rfl, blk_cell hb 1 rfl, blk_cell hb 2 rfl, blk_cell hb 3 rfl, blk_cell hb 4 rfl, blk_cell hb 5 rfl, blk_cell hb 6 rfl, blk_cell hb 7 rfl, blk_cell hb 8 rfl, blk_cell hb 9 rfl, blk_cell hb 10 rfl, blk_cell hb 11 rfl, blk_cell hb 12 rfl, blk_cell hb 13 rfl, blk_cell hb 14 rfl⟩

set_option maxHeartbeats 2000000 in
set_option maxRecDepth 100000 in
theorem key_none (w : World) (B : HB) (m : Ms) (vq va vu vm : Value) (hm : MsOk B w m vq va vu vm) (hq : m.qn ≠ 1) :
    Calls Tryd.prog 9 #[msgV m.h vq va vu vm] w fun e w' => e = .returned (.tuple #[.slice none 0 0, .iface 25 (.int .i64 9)]) ∧ Fr [] w w' := by
  obtain ⟨F, hQ⟩ := hm.hq
  obtain ⟨a, c, rfl⟩ := hQ.rd.slice
  clear hQ hm
  have hne : ((m.qn : Int) != 1) = true := by simp; omega
  generalize m.qn = n at *
  generalize m.h = h at *
  clear hq
  unfold msgV
  go_enter Tryd.func9, Tryd.ntmps9
  go_wp2
  go_ret2
  exact ⟨rfl, (Fr.refl [] w).alloc _⟩

/-- the world behind the first steps: the message and its question lie in blocks of their own -/
def keyW (w : World) (h : Hd) (q a u m x0 : Value) (ty cl : Int) : World :=
  (w.alloc (.cells #[.int .i64 h.id, .bool h.an, .int .i64 h.op, .bool h.aa, .bool h.tc, .bool h.rd, .bool h.ra, .bool h.z, .bool h.ad, .bool h.cd, .int .i64 h.code, q, a, u, m] 43)).alloc (.cells #[x0, .int .i64 ty, .int .i64 cl] 62)

end Go.Proofs.YtcfdlilhhfaaaaaDoor

namespace Go.Proofs.YtcfdlilhhfaaaaaDoor
open Go.RowKit

theorem keyW_fr (w : World) (h : Hd) (q a u m x0 : Value) (ty cl : Int) : Fr [] w (keyW w h q a u m x0 ty cl) := ((Fr.refl [] w).alloc _).alloc _
theorem keyW_msg (w : World) (h : Hd) (q a u m x0 : Value) (ty cl : Int) : (keyW w h q a u m x0 ty cl).heap[w.heap.size]? = some (.cells #[.int .i64 h.id, .bool h.an, .int .i64 h.op, .bool h.aa, .bool h.tc, .bool h.rd, .bool h.ra, .bool h.z, .bool h.ad, .bool h.cd, .int .i64 h.code, q, a, u, m] 43 (0, 0)) := by
  unfold keyW
  exact ((Fr.refl [] _).alloc _).blk (heap_alloc_new w _) (by simp)
theorem keyW_q (w : World) (h : Hd) (q a u m x0 : Value) (ty cl : Int) : (keyW w h q a u m x0 ty cl).heap[w.heap.size + 1]? = some (.cells #[x0, .int .i64 ty, .int .i64 cl] 62 (0, 0)) := by
  unfold keyW
  have e : (w.alloc (.cells #[.int .i64 h.id, .bool h.an, .int .i64 h.op, .bool h.aa, .bool h.tc, .bool h.rd, .bool h.ra, .bool h.z, .bool h.ad, .bool h.cd, .int .i64 h.code, q, a, u, m] 43)).heap.size = w.heap.size + 1 := by simp
  rw [← e]
  exact heap_alloc_new _ _
theorem keyW_size (w : World) (h : Hd) (q a u m x0 : Value) (ty cl : Int) : (keyW w h q a u m x0 ty cl).heap.size = w.heap.size + 2 := by
  unfold keyW
  simp

set_option maxHeartbeats 4000000 in
set_option maxRecDepth 100000 in
/-- the name's fault -/
theorem key_name (w : World) (B : HB) (m : Ms) (vq va vu vm : Value) (hm : MsOk B w m vq va vu vm) (hq : m.qn = 1) (hz : nmFault (m.Q 0).nl (m.Q 0).nm ≠ 0) :
    Calls Tryd.prog 9 #[msgV m.h vq va vu vm] w fun e w' => e = .returned (.tuple #[.slice none 0 0, .iface 25 (.int .i64 (nmFault (m.Q 0).nl (m.Q 0).nm))]) ∧ Fr [] w w' := by
  obtain ⟨F, hQ⟩ := hm.hq
  rw [hq] at hQ
  obtain ⟨b1, o1, c1, rfl, hn1, hm1, hb1, hc1⟩ := hQ.rd.shape (by decide) (by decide)
  obtain ⟨na, nc, hF, hrn, hcd⟩ := hQ.at_ 0 (by decide)
  have hwf := hQ.wf 0 (by decide)
  have k1 := hc1 0 0 (by decide) (by decide)
  have k2 := hc1 0 1 (by decide) (by decide)
  have k3 := hc1 0 2 (by decide) (by decide)
  rw [hF 0 (by decide)] at k1
  rw [hF 1 (by decide)] at k2
  rw [hF 2 (by decide)] at k3
  simp only [Qs.F, Nat.add_zero, Nat.zero_mul] at k1 k2 k3
  clear hc1 hF hn1 hm1 hQ hm
  generalize m.Q 0 = q at *
  generalize m.h = h at *
  have HFD := Lib.hid (fun wx (hx : Fr [] w wx) => fold_any wx na q.nl nc q.nm (hrn.fr hx (fun _ _ _ _ => by simp)) hwf.nms hwf.nlb)
  have HWB := Lib.hid (fun wx a c (hx : RdF wx (.slice a q.nl c) q.nl (fun j => .string (smB (q.nm j)))) => wireWrite_bad wx a q.nl c (fun j => smB (q.nm j)) hx (fun j hj => by rw [smB_size]; exact hwf.nms j hj) (by rw [nmFault_sm]; exact hz))
  have HNS := Lib.hid (nmFault_sm q.nl q.nm)
  rw [HNS.out] at HWB
  generalize nmFault q.nl q.nm = z at *
  clear hwf hrn hcd
  unfold msgV
  go_enter Tryd.func9, Tryd.ntmps9
  go_wp2_with (go_at_call 27; refine (HFD.out _ (((Fr.refl [] w).alloc _).alloc _)).mono ?_; rintro e w1 ⟨v1, rfl, ho1, hf1⟩
               obtain ⟨a1, c1', rfl⟩ := ho1.rd.slice
               go_wp2_with (go_at_call 26; refine (HWB.out _ _ _ ho1.rd).mono ?_; rintro e w2 ⟨rfl, rfl⟩))
  go_ret2
  exact ⟨rfl, (((Fr.refl [] w).alloc _).alloc _).trans hf1 (by simp)⟩

set_option maxHeartbeats 4000000 in
set_option maxRecDepth 100000 in
/-- the numbers' fault -/
theorem key_range (w : World) (B : HB) (m : Ms) (vq va vu vm : Value) (hm : MsOk B w m vq va vu vm) (hq : m.qn = 1) (hz : nmFault (m.Q 0).nl (m.Q 0).nm = 0) (hr : ¬ (m.Q 0).ok) :
    Calls Tryd.prog 9 #[msgV m.h vq va vu vm] w fun e w' => e = .returned (.tuple #[.slice none 0 0, .iface 25 (.int .i64 6)]) ∧ Fr [] w w' := by
  obtain ⟨F, hQ⟩ := hm.hq
  rw [hq] at hQ
  obtain ⟨b1, o1, c1, rfl, hn1, hm1, hb1, hc1⟩ := hQ.rd.shape (by decide) (by decide)
  obtain ⟨na, nc, hF, hrn, hcd⟩ := hQ.at_ 0 (by decide)
  have hwf := hQ.wf 0 (by decide)
  have k1 := hc1 0 0 (by decide) (by decide)
  have k2 := hc1 0 1 (by decide) (by decide)
  have k3 := hc1 0 2 (by decide) (by decide)
  rw [hF 0 (by decide)] at k1
  rw [hF 1 (by decide)] at k2
  rw [hF 2 (by decide)] at k3
  simp only [Qs.F, Nat.add_zero, Nat.zero_mul] at k1 k2 k3
  clear hc1 hF hn1 hm1 hQ hm
  generalize m.Q 0 = q at *
  generalize m.h = h at *
  have HFD := Lib.hid (fun wx (hx : Fr [] w wx) => fold_any wx na q.nl nc q.nm (hrn.fr hx (fun _ _ _ _ => by simp)) hwf.nms hwf.nlb)
  have HWB := Lib.hid (fun wx a c (hx : RdF wx (.slice a q.nl c) q.nl (fun j => .string (smB (q.nm j)))) => wireWrite_ok wx a q.nl c (fun j => smB (q.nm j)) hx (fun j hj => by rw [smB_size]; exact hwf.nms j hj) (by rw [nmFault_sm]; exact hz))
  clear hwf hrn hcd hz
  have HKQ := Lib.hid (keyW_q w h (.slice (some ⟨b1, o1, none⟩) 1 c1) va vu vm (.slice na q.nl nc) q.ty q.cl)
  unfold Qs.ok at hr
  generalize q.ty = ty at *
  generalize q.cl = cl at *
  unfold msgV
  go_enter Tryd.func9, Tryd.ntmps9
  go_wp2_with (go_at_call 27; refine (HFD.out _ (((Fr.refl [] w).alloc _).alloc _)).mono ?_; rintro e w1 ⟨v1, rfl, ho1, hf1⟩
               obtain ⟨a1, c1', rfl⟩ := ho1.rd.slice
               go_wp2_with (go_at_call 26; refine (HWB.out _ _ _ ho1.rd).mono ?_; rintro e w2 ⟨v2, rfl, ho2, hf2⟩
                            have HF2 := Lib.hid ((((Fr.refl [] w).alloc _).alloc _).trans (hf1.trans hf2 (by simp)) (by simp))
                            have e1 := blk_cell ((hf1.trans hf2 (by simp)).blk HKQ.out (by simp)) 1 rfl
                            have e2 := blk_cell ((hf1.trans hf2 (by simp)).blk HKQ.out (by simp)) 2 rfl
                            clear ho1 hf1 ho2 hf2
                            by_cases h1 : ty < 0
                            · go_wp2
                              go_ret2
                              exact ⟨rfl, HF2.out⟩
                            · by_cases h2 : 65535 < ty
                              · go_wp2
                                go_ret2
                                exact ⟨rfl, HF2.out⟩
                              · by_cases h3 : cl < 0
                                · go_wp2
                                  go_ret2
                                  exact ⟨rfl, HF2.out⟩
                                · have h4 : 65535 < cl := by omega
                                  go_wp2
                                  go_ret2
                                  exact ⟨rfl, HF2.out⟩))

end Go.Proofs.YtcfdlilhhfaaaaaDoor

namespace Go.Proofs.YtcfdlilhhfaaaaaDoor
open Go.RowKit

/-- all but the blocks of one type is as it was -/
structure FrT (E : TypeId) (w w' : World) : Prop where
  os : w'.os = w.os
  tape : w'.tape = w.tape
  output : w'.output = w.output
  size : w.heap.size ≤ w'.heap.size
  block : ∀ k, k < w.heap.size → (∀ cs z, w.heap[k]? ≠ some (.cells cs E z)) → w'.heap[k]? = w.heap[k]?

theorem FrT.refl (E : TypeId) (w : World) : FrT E w w := ⟨rfl, rfl, rfl, Nat.le_refl _, fun _ _ _ => rfl⟩

theorem FrT.trans {E : TypeId} {a b c : World} (h : FrT E a b) (k : FrT E b c) : FrT E a c :=
  ⟨k.os.trans h.os, k.tape.trans h.tape, k.output.trans h.output, Nat.le_trans h.size k.size, fun i hi hn =>
    (k.block i (Nat.lt_of_lt_of_le hi h.size) (fun cs z e => hn cs z ((h.block i hi hn).symm.trans e))).trans (h.block i hi hn)⟩

theorem Fr.frT {w w' : World} (h : Fr [] w w') (E : TypeId) : FrT E w w' := ⟨h.os, h.tape, h.output, h.size, fun k hk _ => h.block k hk (by simp)⟩

theorem FrT.alloc {E : TypeId} {a w : World} (h : FrT E a w) (o : Obj) : FrT E a (w.alloc o) := h.trans (((Fr.refl [] w).alloc o).frT E)

/-- a row of that type is written -/
theorem FrT.own {E : TypeId} {a w w' : World} {B n : Nat} {v : Value} {f : Nat → Value} (h : FrT E a w) (ho : OwnF w B E v n f) (hf : Fr v.ownBlock.toList w w') : FrT E a w' :=
  h.trans ⟨hf.os, hf.tape, hf.output, hf.size, fun k hk hn => hf.block k hk (fun hm => by
    rcases ho with ⟨rfl, _⟩ | ⟨g, cap, rfl, _, cur, h1, _⟩
    · simp [Value.ownBlock] at hm
    · simp only [Value.ownBlock, Option.toList_some, List.mem_singleton] at hm
      subst hm
      exact hn _ _ h1)⟩

theorem OwnF.frT {E T : TypeId} {w w' : World} {B n : Nat} {v : Value} {f : Nat → Value} (h : OwnF w B T v n f) (hf : FrT E w w') (hne : T ≠ E) : OwnF w' B T v n f := by
  rcases h with h | ⟨g, cap, rfl, hb, cur, h1, h2⟩
  · exact .inl h
  · refine .inr ⟨g, cap, rfl, hb, cur, (hf.block g (lt_of_blk h1) (fun cs z e => ?_)).trans h1, h2⟩
    rw [h1] at e
    simp only [Option.some.injEq, Obj.cells.injEq] at e
    exact hne e.2.1

theorem FrT.blk {E T : TypeId} {w w' : World} {b : Nat} {cs : Array Value} {z : Nat × Nat} (hf : FrT E w w') (h : w.heap[b]? = some (.cells cs T z)) (hne : T ≠ E) : w'.heap[b]? = some (.cells cs T z) :=
  (hf.block b (lt_of_blk h) (fun cs' z' e => by
    rw [h] at e
    simp only [Option.some.injEq, Obj.cells.injEq] at e
    exact hne e.2.1)).trans h

set_option maxHeartbeats 2000000 in
set_option maxRecDepth 100000 in
theorem sent_fr (w : World) (B : Nat) (v : Value) (L : List UInt8) (a : Option Addr) (n c : Nat) (s : Nat → ByteArray) (hv : OwnB w B v L) (hB : B ≤ w.heap.size)
    (hs : RdF w (.slice a n c) n (fun j => .string (s j))) (hap : ∀ b o, a = some ⟨b, o, none⟩ → 0 < n → b < B) (hss : ∀ j, j < n → (s j).size ≤ 255) (hL : L.length + n * 256 ≤ 140737488355328) :
    Calls Tryd.prog 56 #[v, .slice a n c] w fun e w' => ∃ v', e = .returned v' ∧ OwnB w' B v' (L ++ wireL s n) ∧ Below B w w' ∧ FrT 5 w w' := by
  have HS := Lib.hid hs; clear hs
  have HSS := Lib.hid hss; clear hss
  have HAP := Lib.hid hap; clear hap
  have HV := Lib.hid hv; clear hv
  go_enter Tryd.func56, Tryd.ntmps56
  go_wp2
  go_loopw [0, 9] (fun vo vi wr => ∃ k : Nat, k ≤ n ∧ vi = .int .i64 k ∧ OwnB wr B vo (L ++ wireL s k) ∧ Below B w wr ∧ FrT 5 w wr) (fun _ vi _ => n - (intOf vi).toNat)
  case atStart => exact ⟨0, by omega, rfl, by simpa [wireL] using HV.out, Below.refl _ _, FrT.refl _ _⟩
  case round =>
    clear HV
    obtain ⟨k, hk, rfl, ho, hf, ht⟩ := hrel
    have HT := Lib.hid ht; clear ht
    have HO := Lib.hid ho; clear ho
    have HF := Lib.hid hf; clear hf
    by_cases hlt : k < n
    · obtain ⟨b1, o1, c1, he1, hn1, hm1, _, hc1⟩ := (rdF_belowB HS.out HF.out (fun b o h => HAP.out b o h)).shape (by omega)
      simp only [Value.slice.injEq, true_and] at he1
      obtain ⟨rfl, rfl⟩ := he1
      clear hn1 hm1
      have k1 := hc1 k hlt
      clear hc1
      have k0 : (0 : Int) ≤ (k : Int) := by omega
      have k3 : (k : Int) < (n : Int) := by omega
      have h1 := HSS.out k hlt
      have HLN := Lib.hid (show (L ++ wireL s k).length + 256 ≤ 140737488355328 by
        have := wireL_len s k 255 (fun j hj => HSS.out j (by omega))
        have h2 : (k + 1) * 256 ≤ n * 256 := Nat.mul_le_mul_right _ (by omega)
        rw [List.length_append]
        omega)
      have HWL := Lib.hid (show L ++ wireL s (k + 1) = ((L ++ wireL s k) ++ [UInt8.ofNat (s k).size]) ++ (s k).data.toList by simp [wireL])
      generalize L ++ wireL s k = M at *
      generalize s k = sk at *
      have HSZ := Lib.hid (show B ≤ wr.heap.size from Nat.le_trans hB HF.out.size)
      go_wp2_with (at_builtin; refine wpList_app rfl (.tmp 13) (.tmp 17) 35 rfl 5 infoU8 Tryd.underlying35 rfl (OwnF.alloc HO.out _) rfl (rd_one _ _ _ rfl) rfl (fun _ _ => rfl) (by unfold maxLen; have := HLN.out; omega) (by have := HLN.out; omega) (by simp; have := HSZ.out; omega) ?_; intro v2 w2 hown2 hfr2 _
                   have HO2 := Lib.hid (OwnB.more hown2 [UInt8.ofNat sk.size] rfl (fun j hj => by
                     obtain rfl : j = 0 := by omega
                     exact u8_of h1))
                   have HF2 := Lib.hid ((HF.out.alloc HSZ.out _).trans (hfr2.below B (by simp; have := HSZ.out; omega) (fun x hx => OwnF.ge HO.out x hx)))
                   have HT2 := Lib.hid ((HT.out.trans ((FrT.refl _ _).alloc _)).own (OwnF.alloc HO.out _) hfr2)
                   clear hown2 hfr2
                   go_wp2_with (at_builtin; refine wpList_appS rfl (.tmp 18) (.tmp 19) 35 9 rfl Tryd.underlying35 Tryd.underlying9 HO2.out rfl sk rfl (by rw [List.length_append]; have := HLN.out; simp; omega) (Nat.le_trans hB HF2.out.size) ?_; intro v3 w3 hown3 hfr3
                                have HO3 := Lib.hid (hown3)
                                have HF3 := Lib.hid (HF2.out.trans (hfr3.below B (Nat.le_trans hB HF2.out.size) (fun x hx => OwnF.ge HO2.out x hx)))
                                have HT3 := Lib.hid (HT2.out.own HO2.out hfr3)
                                clear hown3 hfr3)
                   go_roundw
                   case rel => exact ⟨k + 1, by omega, by go_num, by rw [HWL.out]; exact HO3.out, HF3.out, HT3.out⟩
                   case measure => simp [intOf]; omega)
    · obtain rfl : k = n := by omega
      go_wp2
      go_ret
      exact ⟨_, rfl, HO.out, HF.out, HT.out⟩

set_option maxHeartbeats 2000000 in
set_option maxRecDepth 100000 in
/-- no start: nothing is found -/
theorem wfind_none (w : World) (v x : Value) : Calls Tryd.prog 102 #[v, .slice none 0 0, x] w fun e w' => e = .returned (.int .i64 (-1)) ∧ w = w' := by
  go_enter Tryd.func102, Tryd.ntmps102
  go_wp2
  go_loopw [14] (fun vi wr => vi = .int .i64 0 ∧ wr = w) (fun _ _ => 0)
  case atStart => exact ⟨rfl, rfl⟩
  case round =>
    obtain ⟨rfl, rfl⟩ := hrel
    go_wp2
    go_ret
    exact ⟨rfl, rfl⟩

set_option maxHeartbeats 2000000 in
set_option maxRecDepth 100000 in
theorem cloneInts_nil (w : World) : Calls Tryd.prog 101 #[.slice none 0 0] w fun e w' => e = .returned (.slice none 0 0) ∧ w = w' := by
  have hq := fun (wx : World) (a : Option Addr) (n c : Nat) => Lib.run_eql_slice_nil (P := Tryd.prog) wx 23 3 a n c 0 0 Tryd.underlying23
  go_enter Tryd.func101, Tryd.ntmps101
  go_wp2
  go_ret
  exact ⟨rfl, rfl⟩

set_option maxHeartbeats 8000000 in
set_option maxRecDepth 100000 in
theorem pack_any (w : World) (v : Value) (L : List UInt8) (B : Nat) (hv : OwnB w B v L) (a : Option Addr) (n c : Nat) (s : Nat → ByteArray) (hs : RdF w (.slice a n c) n (fun j => .string (s j))) (hz : nmFault n s = 0) (hL : L.length ≤ 65535) :
    Calls Tryd.prog 84 #[v, .slice none 0 0, .slice a n c] w fun e w' => ∃ v' sa sn sc, e = .returned (.tuple #[v', .slice sa sn sc, .nilIface]) ∧ OwnB w' w.heap.size v' (L ++ wireL s n ++ [0]) ∧ Fr [] w w' := by
  obtain ⟨h63, _, h255⟩ := nmFault_ok hz
  have HC := Lib.hid (nameCheck_any w a n c s hs (fun j hj => Nat.le_trans (h63 j hj) (by decide)))
  obtain ⟨hn, hl⟩ := nsz_len h255
  have hap : ∀ b o, a = some ⟨b, o, none⟩ → 0 < n → b < w.heap.size := fun b o e h0 => by
    obtain ⟨b', o', cap, e1, _, _, hb, _⟩ := hs.shape h0
    subst e
    simp only [Value.slice.injEq, Option.some.injEq, Addr.mk.injEq] at e1
    obtain ⟨⟨rfl, _⟩, _⟩ := e1
    exact hb
  have HAP := Lib.hid hap
  have HS := Lib.hid hs
  have H63 := Lib.hid h63
  have HV := Lib.hid hv
  have HZ := Lib.hid hz
  have HE0 := Lib.hid (show erVn 0 = .nilIface from rfl)
  have HN := Lib.hid hn
  have HLE := Lib.hid hl
  clear hs hz hap hv h63 hl h255 hn
  go_enter Tryd.func84, Tryd.ntmps84
  go_wp2_with fail
  refine HC.out.mono ?_
  rintro e wx ⟨rfl, rfl⟩
  rw [HZ.out, HE0.out]
  have HCL := Lib.hid (clone_bytes w v L.length (fun j => ((L.getD j 0).toNat : Int)) HV.out.rd (by omega))
  go_wp2_with fail
  refine HCL.out.mono ?_
  rintro e w1 ⟨v1, rfl, ho1, hf1⟩
  have HO1 := Lib.hid (show OwnB w1 w.heap.size v1 L from ho1)
  have HF1 := Lib.hid hf1
  clear ho1 hf1
  go_wp2_with (go_at_call 101; refine (cloneInts_nil _).mono ?_; rintro e wx ⟨rfl, rfl⟩)
  go_loopw [10, 11, 25] (fun vo va vi wr => ∃ (k m : Nat) (G : Nat → Value), k ≤ n ∧ m ≤ k ∧ vi = .int .i64 k ∧ OwnB wr w.heap.size vo (L ++ wireL s k) ∧ OwnF wr w.heap.size 3 va m G ∧ Fr [] w wr) (fun _ _ vi _ => n - (intOf vi).toNat)
  case atStart => exact ⟨0, 0, fun _ => .nilIface, by omega, by omega, rfl, by simpa [wireL] using HO1.out, OwnF.nil _ _ _ _, HF1.out⟩
  case round =>
    clear HO1 HF1 HCL HC HAP
    obtain ⟨k, m, G, hk, hmk, rfl, ho, ha, hf⟩ := hrel
    have HA := Lib.hid ha
    have HF := Lib.hid hf
    obtain ⟨oa, oc, rfl⟩ := ho.rd.slice
    have HO := Lib.hid ho
    clear ha hf ho
    have hn4 : n ≤ 254 := by have := HN.out; omega
    have HWN := Lib.hid (show (L ++ wireL s k).length ≤ 65535 + 254 * 64 by
      have h1 := wireL_len s k 63 (fun j hj => H63.out j (by omega))
      have h2 : k * (63 + 1) ≤ 254 * 64 := Nat.mul_le_mul (by omega) (by omega)
      rw [List.length_append]
      omega)
    generalize hLN : (L ++ wireL s k).length = LN at *
    have HLN := Lib.hid hLN
    clear hLN
    by_cases hlt : k < n
    · obtain ⟨b1, o1, c1, he1, hn1, hm1, hb1, hc1⟩ := HS.out.shape (by omega)
      simp only [Value.slice.injEq, true_and] at he1
      obtain ⟨rfl, rfl⟩ := he1
      have HKC := Lib.hid (hc1 k hlt)
      clear hc1
      unfold maxLen at hm1
      have k0 : (0 : Int) ≤ (k : Int) := by omega
      have k3 : (k : Int) < (n : Int) := by omega
      have k4 : (k : Int) ≤ (n : Int) := by omega
      have k5 : (n : Int) ≤ (c : Int) := by omega
      have k6 : (k : Int) + 1 ≤ (c : Int) := by omega
      have k7 : (0 : Int) ≤ (k : Int) + 1 := by omega
      have HWL := Lib.hid (show (L ++ wireL s k) ++ wireL (fun j => s (k + j)) 1 = L ++ wireL s (k + 1) by simp [wireL])
      have HSE := Lib.hid (fun (wx : World) (hx : Fr [] w wx) (hox : OwnB wx w.heap.size (.slice oa LN oc) (L ++ wireL s k)) => sent_fr wx w.heap.size (.slice oa LN oc) (L ++ wireL s k) (some ⟨b1, o1 + k, none⟩) 1 (c - k) (fun j => s (k + j)) hox hx.size
        (.inr ⟨⟨b1, o1 + k, none⟩, c - k, rfl, by omega, by unfold maxLen; omega, fun j hj => by
          obtain rfl : j = 0 := by omega
          exact hx.cell HKC.out (by simp)⟩) (fun b o e _ => by
            simp only [Option.some.injEq, Addr.mk.injEq] at e
            omega) (fun j hj => Nat.le_trans (H63.out (k + j) (by omega)) (by decide)) (by rw [HLN.out]; have := HWN.out; omega))
      rw [HWL.out] at HSE
      by_cases h16 : LN ≤ 16383
      · have k8 : (LN : Int) ≤ 16383 := by omega
        go_wp2_with (first
          | (go_at_call 102; refine (wfind_none _ _ _).mono ?_; rintro e wx ⟨rfl, rfl⟩)
          | (at_builtin; refine wpList_app rfl (.tmp 49) (.tmp 52) 23 rfl 3 infoInt Tryd.underlying23 rfl (HA.out.alloc _) rfl (rd_one _ _ _ rfl) rfl (fun _ _ => rfl) (by unfold maxLen; omega) (by omega) (by simp; have := HF.out.size; omega) ?_; intro v2 w2 hown2 hfr2 _
             have HA2 := Lib.hid hown2
             have HT2 := Lib.hid ((FrT.alloc (FrT.refl 3 _) _).own (HA.out.alloc _) hfr2)
             have HF2 := Lib.hid ((HF.out.alloc _).trans hfr2 (fun x hx => .inr (OwnF.ge HA.out x hx)))
             clear hown2 hfr2))
        refine (HSE.out _ HF2.out (OwnF.frT HO.out HT2.out (by decide))).mono ?_
        rintro e w5 ⟨v5, rfl, ho5, hf5, ht5⟩
        have HO5 := Lib.hid ho5
        have HA5 := Lib.hid (HA2.out.frT ht5 (by decide))
        have HF5 := Lib.hid (show Fr [] w w5 from Fr.of_below ((HF2.out.below _ (Nat.le_refl _) (by simp)).trans hf5) _)
        clear ho5 hf5 ht5
        go_wp2
        go_roundw
        case rel => exact ⟨k + 1, m + 1, _, by omega, by omega, by go_num, HO5.out, HA5.out, HF5.out⟩
        case measure => (simp [intOf]; omega)
      · have k8 : ¬ (LN : Int) ≤ 16383 := by omega
        go_wp2_with (first
          | (go_at_call 102; refine (wfind_none _ _ _).mono ?_; rintro e wx ⟨rfl, rfl⟩))
        refine (HSE.out _ HF.out (HO.out)).mono ?_
        rintro e w5 ⟨v5, rfl, ho5, hf5, ht5⟩
        have HO5 := Lib.hid ho5
        have HA5 := Lib.hid (HA.out.frT ht5 (by decide))
        have HF5 := Lib.hid (show Fr [] w w5 from Fr.of_below ((HF.out.below _ (Nat.le_refl _) (by simp)).trans hf5) _)
        clear ho5 hf5 ht5
        go_wp2
        go_roundw
        case rel => exact ⟨k + 1, m, _, by omega, by omega, by go_num, HO5.out, HA5.out, HF5.out⟩
        case measure => (simp [intOf]; omega)
    · obtain rfl : n = k := by omega
      obtain ⟨sa, sc, rfl⟩ := HA.out.rd.slice
      go_wp2_with (at_builtin; refine wpList_app rfl (.tmp 62) (.tmp 63) 35 rfl 5 infoU8 Tryd.underlying35 rfl (OwnF.alloc HO.out _) rfl (rd_one _ _ _ rfl) rfl (fun _ _ => rfl) (by unfold maxLen; rw [HLN.out]; have := HWN.out; omega) (by rw [HLN.out]; have := HWN.out; omega) (by simp; have := HF.out.size; omega) ?_; intro v2 w2 hown2 hfr2 _)
      have HO2 := Lib.hid (OwnB.more hown2 [0] rfl (fun j hj => by
        obtain rfl : j = 0 := by omega
        rfl))
      have HF2 := Lib.hid ((HF.out.alloc _).trans hfr2 (fun x hx => .inr (OwnF.ge HO.out x hx)))
      clear hown2 hfr2
      go_wp2
      refine bodyPost_ret (v := .tuple #[v2, .slice sa m sc, .nilIface]) (by simp [results, Tryd.results84, go_sem]) rfl ?_
      exact ⟨_, _, _, _, rfl, HO2.out, HF2.out⟩

end Go.Proofs.YtcfdlilhhfaaaaaDoor
