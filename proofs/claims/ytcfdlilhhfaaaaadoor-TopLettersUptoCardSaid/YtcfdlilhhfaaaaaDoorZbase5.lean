/- What the texts below need: MsgW, TopSent. -/
import Derived.Test.YtcfdlilhhfaaaaaDoorZQuestW
import Derived.Test.YtcfdlilhhfaaaaaDoorZbase2
import Derived.Test.YtcfdlilhhfaaaaaDoorZbase3
import Derived.Test.YtcfdlilhhfaaaaaDoorZKeyAny
import Derived.Test.YtcfdlilhhfaaaaaDoorZbase1
import Derived.Test.YtcfdlilhhfaaaaaDoorZFindAll
namespace Go.Proofs.YtcfdlilhhfaaaaaDoor
open Go.RowKit

/-- what Write leaves: q questions of so many bytes -/
def WriteGood (w : World) (h : Hd) (len : Nat) (e : Ending) (w' : World) : Prop :=
  (hdOk h ∧ (∃ v L, e = .returned (.tuple #[v, .nilIface]) ∧ OwnB w' w.heap.size v L ∧ L.length = 12 + len) ∨
    ¬ hdOk h ∧ e = .returned (.tuple #[.slice none 0 0, .iface 25 (.int .i64 6)])) ∧ Fr [] w w'

/-- the one question, if there is one -/
def QOne (w : World) (qa : Option Addr) (qn : Nat) (a : Option Addr) (n c : Nat) (s : Nat → ByteArray) (ty cl : Int) : Prop :=
  qn ≤ 1 ∧ (qn = 1 → (∃ b o, qa = some ⟨b, o, none⟩ ∧ w.cell? ⟨b, o, none⟩ = some (.slice a n c) ∧ w.cell? ⟨b, o + 1, none⟩ = some (.int .i64 ty) ∧ w.cell? ⟨b, o + 2, none⟩ = some (.int .i64 cl)) ∧
    RdF w (.slice a n c) n (fun j => .string (s j)) ∧ nmFault n s = 0 ∧ 0 ≤ ty ∧ ty ≤ 65535 ∧ 0 ≤ cl ∧ cl ≤ 65535)

theorem QOne.fr {w w' : World} {qa : Option Addr} {qn : Nat} {a : Option Addr} {n c : Nat} {s : Nat → ByteArray} {ty cl : Int} (h : QOne w qa qn a n c s ty cl) (hf : Fr [] w w') : QOne w' qa qn a n c s ty cl :=
  ⟨h.1, fun e => by
    obtain ⟨⟨b, o, h1, h2, h3, h4⟩, h5, h6⟩ := h.2 e
    exact ⟨⟨b, o, h1, hf.cell h2 (by simp), hf.cell h3 (by simp), hf.cell h4 (by simp)⟩, h5.fr hf (by simp), h6⟩⟩

theorem ix_ct (qn : Int) (h0 : 0 ≤ qn) (h1 : qn ≤ 1) (k : Nat) (hk : k < 4) : ∃ x : Int, (0 ≤ x ∧ x ≤ 65535) ∧ ∀ u : World, (Instr.index 117 (.agg #[.int .i64 qn, .int .i64 0, .int .i64 0, .int .i64 0]) (.int .i64 k)).run Tryd.prog u = .ok (.int .i64 x) u := by
  match k, hk with
  | 0, _ => exact ⟨qn, by omega, fun u => by kernel_rfl⟩
  | 1, _ => exact ⟨0, by omega, fun u => by kernel_rfl⟩
  | 2, _ => exact ⟨0, by omega, fun u => by kernel_rfl⟩
  | 3, _ => exact ⟨0, by omega, fun u => by kernel_rfl⟩

theorem ix_se (b : Nat) (k : Nat) (hk : k < 3) : ∃ j : Nat, (j = 12 ∨ j = 13 ∨ j = 14) ∧ ∀ u : World, (Instr.index 120 (.agg #[.pointer (some ⟨b, 12, none⟩), .pointer (some ⟨b, 13, none⟩), .pointer (some ⟨b, 14, none⟩)]) (.int .i64 k)).run Tryd.prog u = .ok (.pointer (some ⟨b, j, none⟩)) u := by
  match k, hk with
  | 0, _ => exact ⟨12, by omega, fun u => by kernel_rfl⟩
  | 1, _ => exact ⟨13, by omega, fun u => by kernel_rfl⟩
  | 2, _ => exact ⟨14, by omega, fun u => by kernel_rfl⟩

/-- a block of another type is written: one's own row is as it was -/
theorem OwnF.keptB {w w' : World} {B p : Nat} {E T : TypeId} {v : Value} {n : Nat} {f : Nat → Value} {cs : Array Value} {z : Nat × Nat} (h : OwnF w B E v n f) (hf : Fr [p] w w') (hp : w.heap[p]? = some (.cells cs T z)) (hne : T ≠ E) : OwnF w' B E v n f :=
  h.kept hf (fun g hg hm => by
    simp only [List.mem_singleton] at hm
    subst hm
    rcases h with ⟨rfl, _⟩ | ⟨g', cap, rfl, _, cur, h1, _⟩
    · simp [Value.ownBlock] at hg
    · simp only [Value.ownBlock, Option.some.injEq] at hg
      subst hg
      rw [hp] at h1
      simp only [Option.some.injEq, Obj.cells.injEq] at h1
      exact hne h1.2.1)

set_option maxHeartbeats 8000000 in
set_option maxRecDepth 100000 in
theorem write_any (w : World) (h : Hd) (hw : h.Wf) (qa : Option Addr) (qn qc : Nat) (a : Option Addr) (n c : Nat) (s : Nat → ByteArray) (ty cl : Int) (hq : QOne w qa qn a n c s ty cl) :
    Calls Tryd.prog 20 #[msgV h (.slice qa qn qc) (.slice none 0 0) (.slice none 0 0) (.slice none 0 0)] w (WriteGood w h (qn * ((wireL s n).length + 5))) := by
  have HQ := Lib.hid hq
  have hqn := hq.1
  have HLW := Lib.hid (show qn = 1 → (wireL s n).length ≤ 254 from fun e => by
    obtain ⟨_, _, h255⟩ := nmFault_ok ((hq.2 e).2.2.1)
    have := (nsz_len h255).2
    omega)
  clear hq
  have HHW := Lib.hid (fun (wx : World) => headWrite_any wx h hw)
  unfold hdV HeadGood at HHW
  unfold WriteGood
  have HMB := Lib.hid (heap_alloc_new w (.cells #[.int .i64 h.id, .bool h.an, .int .i64 h.op, .bool h.aa, .bool h.tc, .bool h.rd, .bool h.ra, .bool h.z, .bool h.ad, .bool h.cd, .int .i64 h.code, .slice qa qn qc, .slice none 0 0, .slice none 0 0, .slice none 0 0] 43))
  have HF0 := Lib.hid ((Fr.refl [] w).alloc (.cells #[.int .i64 h.id, .bool h.an, .int .i64 h.op, .bool h.aa, .bool h.tc, .bool h.rd, .bool h.ra, .bool h.z, .bool h.ad, .bool h.cd, .int .i64 h.code, .slice qa qn qc, .slice none 0 0, .slice none 0 0, .slice none 0 0] 43))
  generalize hdOk h = OK at *
  obtain ⟨id, an, op, aa, tc, rd, ra, z, ad, cd, code⟩ := h
  simp only [msgV] at *
  go_enter Tryd.func20, Tryd.ntmps20
  go_wp2_with fail
  generalize w.alloc (.cells #[.int .i64 id, .bool an, .int .i64 op, .bool aa, .bool tc, .bool rd, .bool ra, .bool z, .bool ad, .bool cd, .int .i64 code, .slice qa qn qc, .slice none 0 0, .slice none 0 0, .slice none 0 0] 43) = w1 at *
  refine (HHW.out w1).mono ?_
  rintro e w2 ⟨⟨hok, v0, L0, rfl, ho0, hl0⟩ | ⟨hok, rfl⟩, hf2⟩
  case inr =>
    have HO := Lib.hid hok
    have HF2 := Lib.hid (HF0.out.trans hf2 (by simp))
    clear hok hf2
    go_wp2
    go_ret2
    exact ⟨.inr ⟨HO.out, rfl⟩, HF2.out⟩
  have HOK := Lib.hid hok
  have HM2 := Lib.hid (hf2.blk HMB.out (by simp))
  have HF2 := Lib.hid (HF0.out.trans hf2 (by simp))
  have HO2 := Lib.hid (OwnF.mono ho0 HF0.out.size)
  have HL2 := Lib.hid hl0
  clear hok hf2 ho0 hl0 HMB HF0 HHW
  obtain ⟨oa, oc, rfl⟩ := HO2.out.rd.slice
  have HP3 := Lib.hid (heap_alloc_new w2 (.cells #[.slice oa L0.length oc, .slice none 0 0] 116))
  have hf3 : Fr [] w2 (w2.alloc (.cells #[.slice oa L0.length oc, .slice none 0 0] 116)) := (Fr.refl [] w2).alloc _
  have HM3 := Lib.hid (hf3.blk HM2.out (by simp))
  have HF3 := Lib.hid (HF2.out.trans hf3 (by simp))
  have HO3 := Lib.hid (OwnF.kept HO2.out hf3 (fun _ _ => by simp))
  have HPG := Lib.hid (show w.heap.size < w2.heap.size from lt_of_blk HM2.out)
  have m11 := blk_cell HM3.out 11 (v := .slice qa qn qc) rfl
  have m12 := blk_cell HM3.out 12 (v := .slice none 0 0) rfl
  have m13 := blk_cell HM3.out 13 (v := .slice none 0 0) rfl
  have m14 := blk_cell HM3.out 14 (v := .slice none 0 0) rfl
  clear hf3 HM2 HF2 HO2
  go_wp2_with fail
  clear m11 m12 m13 m14
  generalize w2.alloc (.cells #[.slice oa L0.length oc, .slice none 0 0] 116) = w3 at *
  generalize hpp : w2.heap.size = p at *
  clear hpp
  have HIX := Lib.hid (fun k hk => ix_ct (qn : Int) (by omega) (by omega) k hk)
  go_loopw [8, 42] (fun _ vi wr => ∃ (k : Nat) (L : List UInt8) (v : Value), k ≤ 4 ∧ vi = .int .i64 k ∧ wr.heap[p]? = some (.cells #[v, .slice none 0 0] 116 (0, 0)) ∧ OwnB wr w.heap.size v L ∧ L.length = 4 + 2 * k ∧ wr.heap[w.heap.size]? = some (.cells #[.int .i64 id, .bool an, .int .i64 op, .bool aa, .bool tc, .bool rd, .bool ra, .bool z, .bool ad, .bool cd, .int .i64 code, .slice qa qn qc, .slice none 0 0, .slice none 0 0, .slice none 0 0] 43 (0, 0)) ∧ Fr [] w wr) (fun _ vi _ => 4 - (intOf vi).toNat)
  case atStart => exact ⟨0, L0, _, by omega, rfl, HP3.out, HO3.out, HL2.out, HM3.out, HF3.out⟩
  case round =>
    clear HP3 HO3 HL2 HM3 HF3
    obtain ⟨k, L, v, hk, rfl, hp, ho, hl, hm, hf⟩ := hrel
    have HP := Lib.hid hp
    have HM := Lib.hid hm
    have HF := Lib.hid hf
    obtain ⟨va, vc, rfl⟩ := ho.rd.slice
    have HO := Lib.hid ho
    generalize hlv : L.length = lv at *
    have HLV := Lib.hid hlv
    have HL := Lib.hid hl
    clear hlv hl ho hp hm hf
    by_cases h4 : k < 4
    · obtain ⟨x, hx, hix⟩ := HIX.out k h4
      have k0 : (k : Int) < 4 := by omega
      have c0 := blk_cell HP.out 0 (v := .slice va lv vc) rfl
      have z0 := blk_frozen HP.out 0
      have x1 : ¬ 65535 < x := by omega
      have HE0 := Lib.hid (u8_div hx.1 hx.2)
      obtain ⟨b1, e1⟩ := u8_some x
      have HE1 := Lib.hid e1
      clear e1
      go_wp2_with (
        at_builtin
        refine wpList_app rfl (.tmp 52) (.tmp 58) 35 rfl 5 infoU8 Tryd.underlying35 rfl (OwnF.alloc HO.out _) rfl (rd_two _ _ _ _ (fun j => u8V ([UInt8.ofNat (x.toNat / 256), b1].getD j 0)) rfl HE0.out.symm HE1.out.symm) rfl (fun _ _ => rfl) (by unfold maxLen; have := HL.out; have := HLV.out; omega) (by have := HL.out; have := HLV.out; omega) (by simp; have := HF.out.size; omega) ?_
        intro v3 w4 hown3 hfr3 _
        have HT4 := Lib.hid (((FrT.refl 5 _).alloc _).own (OwnF.alloc HO.out _) hfr3)
        have HP4 := Lib.hid (HT4.out.blk HP.out (by decide))
        have HM4 := Lib.hid (HT4.out.blk HM.out (by decide))
        have HF4 := Lib.hid (show Fr [] w w4 from (HF.out.alloc _).trans hfr3 (fun x hx => .inr (OwnF.ge HO.out x hx)))
        have HO4 := Lib.hid (OwnB.more hown3 [UInt8.ofNat (x.toNat / 256), b1] rfl (fun j hj => rfl))
        clear hown3 hfr3
        obtain ⟨oa3, oc3, he3⟩ := HO4.out.rd.slice
        subst he3
        have c4 := blk_cell HP4.out 0 (v := .slice va lv vc) rfl
        have z4 := blk_frozen HP4.out 0
        have HL4 := Lib.hid (show (L ++ [UInt8.ofNat (x.toNat / 256), b1]).length = 4 + 2 * (k + 1) by have := HL.out; have := HLV.out; rw [List.length_append]; simp; omega)
        generalize L ++ [UInt8.ofNat (x.toNat / 256), b1] = M at *
        generalize hml : M.length = ml at *
        have HML := Lib.hid hml
        clear hml
        have HP5 := Lib.hid (blk_setk HP4.out 0 (.slice oa3 ml oc3))
        have HF5 := Lib.hid ((Fr.refl [p] w4).setCell (p := ⟨p, 0, none⟩) (.inl (by simp)) (.slice oa3 ml oc3))
        go_wp2)
      go_roundw
      case rel => exact ⟨k + 1, M, _, by omega, by go_num, HP5.out, OwnF.keptB HO4.out HF5.out HP4.out (by decide), HML.out.trans HL4.out, HF5.out.blk HM4.out (by have := HPG.out; simp; omega), HF4.out.trans HF5.out (by have := HPG.out; simp; omega)⟩
      case measure => (simp [intOf] <;> omega)
    · have hk4 : k = 4 := by omega
      have HK4 := Lib.hid hk4
      have k0 : ¬ (k : Int) < 4 := by omega
      clear hk4 h4 hk
      have m11 := blk_cell HM.out 11 (v := .slice qa qn qc) rfl
      go_wp2_with fail
      clear HIX
      go_loopw [66] (fun vi wr => ∃ (k : Nat) (L : List UInt8) (v st : Value), k ≤ qn ∧ vi = .int .i64 k ∧ wr.heap[p]? = some (.cells #[v, st] 116 (0, 0)) ∧ (k = 0 → st = .slice none 0 0) ∧ OwnB wr w.heap.size v L ∧ L.length = 12 + k * ((wireL s n).length + 5) ∧ wr.heap[w.heap.size]? = some (.cells #[.int .i64 id, .bool an, .int .i64 op, .bool aa, .bool tc, .bool rd, .bool ra, .bool z, .bool ad, .bool cd, .int .i64 code, .slice qa qn qc, .slice none 0 0, .slice none 0 0, .slice none 0 0] 43 (0, 0)) ∧ Fr [] w wr) (fun vi _ => qn - (intOf vi).toNat)
      case atStart => exact ⟨0, L, _, _, by omega, rfl, HP.out, fun _ => rfl, HO.out, by have := HL.out; have := HLV.out; have := HK4.out; omega, HM.out, HF.out⟩
      case round =>
        clear HP HO HL HM HF m11 HLV HK4 k0
        obtain ⟨k, L, v, st, hk, rfl, hp, hst, ho, hl, hm, hf⟩ := hrel
        by_cases hlt : k < qn
        · obtain rfl : k = 0 := by omega
          have hq1 : qn = 1 := by omega
          have HQ1 := Lib.hid hq1
          have hst0 := hst rfl
          subst hst0
          obtain ⟨⟨b, o, rfl, q1, q2, q3⟩, hrn, hz, t0, t1, t2, t3⟩ := (HQ.out.fr hf).2 hq1
          have hlw := HLW.out hq1
          have kq : (0 : Int) < (qn : Int) := by omega
          clear hq1
          have hf6 : Fr [] wr (wr.alloc (.cells #[.slice a n c, .int .i64 ty, .int .i64 cl] 62)) := (Fr.refl [] wr).alloc _
          have HQO := Lib.hid (question_ok (wr.alloc (.cells #[.slice a n c, .int .i64 ty, .int .i64 cl] 62)) p v L w.heap.size (hf6.blk hp (by simp)) (OwnF.kept ho hf6 (fun _ _ => by simp)) a n c s (hrn.fr hf6 (by simp)) hz (by omega) ty cl t0 t1 t2 t3)
          have HM := Lib.hid hm
          have HF := Lib.hid hf
          have HL := Lib.hid hl
          have HP9 := Lib.hid (hf6.blk hm (by simp))
          have HF6 := Lib.hid (hf.trans hf6 (by simp))
          clear hp ho hl hm hf hrn hz hf6 hst
          go_wp2_with fail
          refine HQO.out.mono ?_
          rintro e w5 ⟨rfl, ⟨v', st', L', hp5, ho5, hl5⟩, hf5⟩
          have HP5 := Lib.hid hp5
          have HO5 := Lib.hid (OwnF.mono ho5 HF6.out.size)
          have HL5 := Lib.hid hl5
          have HM5 := Lib.hid (hf5.blk HP9.out (by have := HPG.out; simp; omega))
          have HF5 := Lib.hid (HF6.out.trans hf5 (by have := HPG.out; simp; omega))
          clear hp5 ho5 hl5 hf5
          go_wp2
          go_roundw
          case rel => exact ⟨1, L', v', st', by have := HQ1.out; omega, by go_num, HP5.out, fun h => by omega, HO5.out, by have := HL.out; have := HL5.out; omega, HM5.out, HF5.out⟩
          case measure => (have := HQ1.out; simp [intOf] <;> omega)
        · obtain rfl : qn = k := by omega
          have HP := Lib.hid hp
          have HM := Lib.hid hm
          have HF := Lib.hid hf
          have HO := Lib.hid ho
          have HL := Lib.hid hl
          clear hp ho hl hm hf hst
          go_wp2_with fail
          refine (sections_any _ _).mono ?_
          rintro e w5 ⟨rfl, hf5⟩
          have HP5 := Lib.hid (hf5.blk HP.out (by simp))
          have HM5 := Lib.hid (hf5.blk HM.out (by simp))
          have HF5 := Lib.hid (HF.out.trans hf5 (by simp))
          have HO5 := Lib.hid (OwnF.kept HO.out hf5 (fun _ _ => by simp))
          clear hf5 HP HM HF HO
          go_wp2_with fail
          have HIS := Lib.hid (fun k hk => ix_se w.heap.size k hk)
          go_loopw [78] (fun vi wr => ∃ (k : Nat), k ≤ 3 ∧ vi = .int .i64 k ∧ wr = w5) (fun vi _ => 3 - (intOf vi).toNat)
          case atStart => exact ⟨0, by omega, rfl, rfl⟩
          case round =>
            obtain ⟨k, hk, rfl, rfl⟩ := hrel
            by_cases h3 : k < 3
            · obtain ⟨j, hj, hix⟩ := HIS.out k h3
              have k0 : (k : Int) < 3 := by omega
              have hcj : wr.cell? ⟨w.heap.size, j, none⟩ = some (.slice none 0 0) := by
                rcases hj with rfl | rfl | rfl
                · exact blk_cell HM5.out 12 rfl
                · exact blk_cell HM5.out 13 rfl
                · exact blk_cell HM5.out 14 rfl
              clear HIS hj
              go_wp2_with fail
              go_loopw [85] (fun vi wx => vi = .int .i64 0 ∧ wx = wr) (fun _ _ => 0)
              case atStart => exact ⟨rfl, rfl⟩
              case round =>
                obtain ⟨rfl, rfl⟩ := hrel
                go_wp2
                go_roundw
                case rel => exact ⟨k + 1, by omega, by go_num, by first | trivial | rfl⟩
                case measure => (simp [intOf] <;> omega)
            · have k0 : ¬ (k : Int) < 3 := by omega
              obtain ⟨va9, vc9, rfl⟩ := HO5.out.rd.slice
              have HLB := Lib.hid (show L.length ≤ 65535 by
                have h1 := HL.out
                have h2 : qn = 0 ∨ qn = 1 := by omega
                rcases h2 with h2 | h2
                · rw [h2] at h1; omega
                · have := HLW.out h2
                  rw [h2] at h1; omega)
              generalize hlv : L.length = lv at *
              have HLV := Lib.hid hlv
              clear hlv
              have HO6 := Lib.hid (show OwnB wr w.heap.size (.slice va9 lv vc9) L by unfold OwnB; rw [HLV.out]; exact HO5.out)
              have c0 := blk_cell HP5.out 0 (v := .slice va9 lv vc9) rfl
              have l0 : ¬ 65535 < (lv : Int) := by have := HLB.out; omega
              go_wp2
              go_ret2
              exact ⟨.inl ⟨HOK.out, ⟨_, rfl, L, HO6.out, HLV.out.trans HL.out⟩⟩, HF5.out⟩

end Go.Proofs.YtcfdlilhhfaaaaaDoor

namespace Go.Proofs.YtcfdlilhhfaaaaaDoor
open Go.RowKit

set_option maxHeartbeats 2000000 in
set_option maxRecDepth 100000 in
theorem tsent_any (w : World) : Calls Tryd.prog 16 #[] w fun e w' => e = .returned (.bool true) ∧ Fr [] w w' := by
  have HW := Lib.hid (write_any w ⟨0, false, 0, false, false, false, false, false, false, false, 0⟩ ⟨by decide, by decide, by decide⟩ none 0 0 none 0 0 (fun _ => ⟨#[]⟩) 0 0 ⟨by decide, fun h => by omega⟩)
  unfold msgV WriteGood at HW
  have HO := Lib.hid (show hdOk ⟨0, false, 0, false, false, false, false, false, false, false, 0⟩ by unfold hdOk; simp)
  generalize hdOk ⟨0, false, 0, false, false, false, false, false, false, false, 0⟩ = OK at *
  go_enter Tryd.func16, Tryd.ntmps16
  go_wp2_with fail
  refine HW.out.mono ?_
  rintro e w1 ⟨⟨_, v, L, rfl, ho, hl⟩ | ⟨hno, rfl⟩, hf⟩
  case inr => exact absurd HO.out hno
  obtain ⟨va, vc, rfl⟩ := ho.rd.slice
  have HF := Lib.hid hf
  rw [hl]
  clear hf ho hl
  go_wp2
  go_ret
  exact ⟨rfl, HF.out⟩

/-- two names, one but for their letters -/
theorem alike_size {s t : Nat → ByteArray} (h : ∀ j, smB (t j) = smB (s j)) (j : Nat) : (t j).size = (s j).size := by
  rw [← smB_size (t j), h j, smB_size]

theorem alike_fault {s t : Nat → ByteArray} (h : ∀ j, smB (t j) = smB (s j)) (n : Nat) : nmFault n t = nmFault n s := by
  rw [← nmFault_sm, show (fun j => smB (t j)) = fun j => smB (s j) from funext h, nmFault_sm]

theorem alike_len {s t : Nat → ByteArray} (h : ∀ j, smB (t j) = smB (s j)) (n : Nat) : (wireL t n).length = (wireL s n).length := by
  induction n with
  | zero => rfl
  | succ n ih =>
    have h1 : (t n).data.toList.length = (s n).data.toList.length := alike_size h n
    simp only [wireL, List.length_append, List.length_cons, ih, h1]

theorem alike_key {s t : Nat → ByteArray} (h : ∀ j, smB (t j) = smB (s j)) (n : Nat) (ty cl : Int) (rd dob : Bool) : keyL ⟨n, t, ty, cl⟩ rd dob = keyL ⟨n, s, ty, cl⟩ rd dob := by
  unfold keyL
  simp only
  rw [show (fun j => smB (t j)) = fun j => smB (s j) from funext h]

theorem keyFault_ok {m : Ms} {z : Int} (h : keyFault m z = 0) : m.qn = 1 ∧ nmFault (m.Q 0).nl (m.Q 0).nm = 0 ∧ (m.Q 0).ok ∧ z = 0 := by
  unfold keyFault at h
  by_cases h1 : m.qn = 1
  · rw [if_neg (by simp [h1])] at h
    by_cases h2 : nmFault (m.Q 0).nl (m.Q 0).nm = 0
    · rw [if_neg (by simp [h2])] at h
      by_cases h3 : (m.Q 0).ok
      · rw [if_neg (by simp [h3])] at h
        exact ⟨h1, h2, h3, h⟩
      · rw [if_pos h3] at h; omega
    · rw [if_pos h2] at h; exact absurd h h2
  · rw [if_pos h1] at h; omega

/-- the message with its question's letters great and small -/
def mixM (m : Ms) (t : Nat → ByteArray) : Ms := { m with qn := 1, Q := fun _ => ⟨(m.Q 0).nl, t, (m.Q 0).ty, (m.Q 0).cl⟩ }

theorem mix_fault {m : Ms} {z : Int} {t : Nat → ByteArray} (h : keyFault m z = 0) (hal : ∀ j, smB (t j) = smB ((m.Q 0).nm j)) : keyFault (mixM m t) z = 0 := by
  obtain ⟨_, h2, h3, h4⟩ := keyFault_ok h
  have e : nmFault (m.Q 0).nl t = 0 := by rw [alike_fault hal]; exact h2
  unfold keyFault mixM
  simp only
  rw [if_neg (by simp), if_neg (by simp [e])]
  rw [if_neg (by
    intro hn
    exact hn h3)]
  exact h4

theorem mix_key {m : Ms} {t : Nat → ByteArray} (hal : ∀ j, smB (t j) = smB ((m.Q 0).nm j)) (rd dob : Bool) : keyL ((mixM m t).Q 0) rd dob = keyL (m.Q 0) rd dob := by
  have := alike_key hal (m.Q 0).nl (m.Q 0).ty (m.Q 0).cl rd dob
  exact this

theorem mix_ok {w w8 : World} {B : HB} (hS : ∀ x ∈ B.s, x < w.heap.size) {m : Ms} {vq va vu vm : Value} (hm : MsOk B w m vq va vu vm) (hf : Fr [] w w8) {g gc : Nat} {F' : Nat → Nat → Value} (hr : RowC w8 g 62 3 1 gc F') (hg : w.heap.size ≤ g)
    {va' : Option Addr} {vc' : Nat} {t : Nat → ByteArray} (ht : OwnF w8 w.heap.size 9 (.slice va' (m.Q 0).nl vc') (m.Q 0).nl (fun j => .string (t j))) (h0 : F' 0 0 = .slice va' (m.Q 0).nl vc') (h1 : F' 0 1 = .int .i64 (m.Q 0).ty) (h2 : F' 0 2 = .int .i64 (m.Q 0).cl)
    (hwf : (m.Q 0).Wf) (hal : ∀ j, smB (t j) = smB ((m.Q 0).nm j)) : MsOk B w8 (mixM m t) (.slice (some ⟨g, 0, none⟩) 1 gc) va vu vm := by
  have h := hm.frH (hf.hot0 B)
  have hrd := hr.rd
  obtain ⟨cur, hgb, _⟩ := hr
  refine ⟨⟨F', hrd, cold_row hgb (by decide) B (fun hx => by have := hS g hx; omega) 1 gc, fun i hi => ?_, fun i hi => ?_, by show 1 * 40 ≤ 140737488355328; decide⟩, h.ha, h.hu, h.hm, h.hh⟩
  · obtain rfl : i = 0 := by have : i < 1 := hi; omega
    refine ⟨va', vc', fun c hc => ?_, ht.rd, ht.cold (by decide) B hS⟩
    match c, hc with
    | 0, _ => exact h0
    | 1, _ => exact h1
    | 2, _ => exact h2
  · exact ⟨hwf.ty0, hwf.cl0, fun j hj => by show (t j).size ≤ 140737488355328; rw [alike_size hal]; exact hwf.nms j hj, hwf.nlb⟩

/-- few letters -/
theorem letK_bd (s : ByteArray) (k : Nat) : letK s k ≤ k := by
  induction k with
  | zero => exact Nat.le_refl _
  | succ k ih =>
    simp only [letK]
    split <;> omega

theorem lets_bd (s : Nat → ByteArray) (n C : Nat) (h : ∀ j, j < n → (s j).size ≤ C) : lets s n ≤ n * C := by
  induction n with
  | zero => simp [lets]
  | succ n ih =>
    have h1 := ih (fun j hj => h j (by omega))
    have h2 := letK_bd (s n) (s n).size
    have h3 := h n (by omega)
    simp only [lets, Nat.succ_mul]
    omega

end Go.Proofs.YtcfdlilhhfaaaaaDoor
