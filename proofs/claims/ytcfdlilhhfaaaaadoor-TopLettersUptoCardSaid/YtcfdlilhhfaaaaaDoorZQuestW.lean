/- (*msg.writer).question where no name stands yet. -/
import Derived.Deep.RegionHeld3
import Derived.Test.YtcfdlilhhfaaaaaDoorZbase2
import Derived.Test.YtcfdlilhhfaaaaaDoorZHeadW
namespace Go.Proofs.YtcfdlilhhfaaaaaDoor
open Go.RowKit

set_option maxHeartbeats 8000000 in
set_option maxRecDepth 100000 in
theorem question_ok (w : World) (p : Nat) (v : Value) (L : List UInt8) (B : Nat) (hp : w.heap[p]? = some (.cells #[v, .slice none 0 0] 116 (0, 0))) (hv : OwnB w B v L) (a : Option Addr) (n c : Nat) (s : Nat → ByteArray) (hs : RdF w (.slice a n c) n (fun j => .string (s j))) (hz : nmFault n s = 0) (hL : L.length ≤ 65535)
    (ty cl : Int) (t0 : 0 ≤ ty) (t1 : ty ≤ 65535) (t2 : 0 ≤ cl) (t3 : cl ≤ 65535) :
    Calls Tryd.prog 49 #[.pointer (some ⟨p, 0, none⟩), .agg #[.slice a n c, .int .i64 ty, .int .i64 cl]] w fun e w' => e = .returned .nilIface ∧ (∃ v' st' L', w'.heap[p]? = some (.cells #[v', st'] 116 (0, 0)) ∧ OwnB w' w.heap.size v' L' ∧ L'.length = L.length + (wireL s n).length + 5) ∧ Fr [p] w w' := by
  have HPK := Lib.hid (fun (wx : World) (hx : Fr [] w wx) => pack_any wx v L B (OwnF.kept hv hx (fun _ _ => by simp)) a n c s (hs.fr hx (by simp)) hz hL)
  have HLW := Lib.hid (show (wireL s n).length ≤ 254 by
    obtain ⟨_, _, h255⟩ := nmFault_ok hz
    have := (nsz_len h255).2
    omega)
  clear hv hs hz
  have HP := Lib.hid hp
  go_enter Tryd.func49, Tryd.ntmps49
  have HF0 := Lib.hid (show Fr [] w (w.alloc (.cells #[.slice a n c, .int .i64 ty, .int .i64 cl] 62)) from (Fr.refl [] w).alloc _)
  have HB0 := Lib.hid (heap_alloc_new w (.cells #[.slice a n c, .int .i64 ty, .int .i64 cl] 62))
  clear hp
  go_upto_region 1 with fail
  generalize w.alloc (.cells #[.slice a n c, .int .i64 ty, .int .i64 cl] 62) = w1 at *
  have c0 := blk_cell (HF0.out.blk HP.out (by simp)) 0 (v := v) rfl
  have c1 := blk_cell (HF0.out.blk HP.out (by simp)) 1 (v := .slice none 0 0) rfl
  have q0 := blk_cell HB0.out 0 (v := .slice a n c) rfl
  have HFD := Lib.hid (show Fr [] w w1.drew from HF0.out.drew)
  have HFE := Lib.hid (show Fr [] w1 w1.drew from (Fr.refl [] w1).drew)
  go_region_with (go_at_call 84; (with_reducible refine (HPK.out _ HFD.out).mono ?_); rintro e wx ⟨v2, sa, sn, sc, rfl, ho2, hf2⟩)
  all_goals
    have HB2 := Lib.hid (hf2.blk (show w1.drew.heap[w.heap.size]? = _ from HB0.out) (by simp))
    have HP2 := Lib.hid (hf2.blk (show w1.drew.heap[p]? = _ from HF0.out.blk HP.out (by simp)) (by simp))
    have HF2 := Lib.hid (HFD.out.trans hf2 (by simp))
    have HO2 := Lib.hid ho2
    have HB9 := Lib.hid (show w.heap.size ≤ w1.drew.heap.size from HFD.out.size)
    clear hf2 ho2 c0 c1 q0 HPK HFE HB0 HF0
    have q1 := blk_cell HB2.out 1 (v := .int .i64 ty) rfl
    have q2 := blk_cell HB2.out 2 (v := .int .i64 cl) rfl
    have d1 : decide (ty < 0) = false := by simpa using t0
    have d2 : decide (65535 < ty) = false := by simpa using t1
    have d3 : decide (cl < 0) = false := by simpa using t2
    have d4 : decide (65535 < cl) = false := by simpa using t3
    obtain ⟨oa, oc, rfl⟩ := HO2.out.rd.slice
    obtain ⟨b1, e1⟩ := u8_some ty
    obtain ⟨b3, e3⟩ := u8_some cl
    have HE1 := Lib.hid e1
    have HE3 := Lib.hid e3
    have HE0 := Lib.hid (u8_div t0 t1)
    have HE2 := Lib.hid (u8_div t2 t3)
    clear e1 e3
    generalize hLM : L ++ wireL s n ++ [0] = M at *
    have HLM := Lib.hid (show M.length = L.length + (wireL s n).length + 1 by rw [← hLM, List.length_append, List.length_append]; rfl)
    clear hLM
    go_wp2_with (
      at_builtin
      refine wpList_app rfl (.tmp 47) (.tmp 62) 35 rfl 5 infoU8 Tryd.underlying35 rfl (OwnF.alloc (B := w.heap.size) (OwnF.mono HO2.out HB9.out) _) rfl (own4 (w := wx) (B := w.heap.size) HF2.out.size HE0.out HE1.out HE2.out HE3.out).rd rfl (fun _ _ => rfl) (by unfold maxLen; have := HLW.out; have := HLM.out; simp; omega) (by have := HLW.out; have := HLM.out; simp; omega) (by simp; have := HF2.out.size; omega) ?_
      intro v3 w3 hown3 hfr3 _
      have HT3 := Lib.hid (((FrT.refl 5 wx).alloc (.cells #[.int .u8 (ty / 256), .int .u8 (ty % 256), .int .u8 (cl / 256), .int .u8 (cl % 256)] 5)).own (OwnF.alloc HO2.out _) hfr3)
      have HP3 := Lib.hid (HT3.out.blk HP2.out (by decide))
      have HF3 := Lib.hid (show Fr [] w w3 from (HF2.out.alloc _).trans hfr3 (fun x hx => .inr (Nat.le_trans HB9.out (OwnF.ge HO2.out x hx))))
      have HO3 := Lib.hid (OwnB.more hown3 [UInt8.ofNat (ty.toNat / 256), b1, UInt8.ofNat (cl.toNat / 256), b3] rfl (fun j hj => rfl))
      clear hown3 hfr3
      have c0 := blk_cell HP3.out 0 (v := v) rfl
      have c1 := blk_cell HP3.out 1 (v := .slice none 0 0) rfl
      have z0 := blk_frozen HP3.out 0
      have z1 := blk_frozen HP3.out 1
      obtain ⟨oa3, oc3, he3⟩ := HO3.out.rd.slice
      subst he3
      have HB5 := Lib.hid (blk_set2 HP3.out (.slice oa3 (M ++ [UInt8.ofNat (ty.toNat / 256), b1, UInt8.ofNat (cl.toNat / 256), b3]).length oc3) (.slice sa sn sc))
      have HF5 := Lib.hid (((Fr.refl [p] w3).setCell (p := ⟨p, 0, none⟩) (.inl (by simp)) (.slice oa3 (M ++ [UInt8.ofNat (ty.toNat / 256), b1, UInt8.ofNat (cl.toNat / 256), b3]).length oc3)).setCell (p := ⟨p, 1, none⟩) (.inl (by simp)) (.slice sa sn sc))
      have HLL := Lib.hid (show (M ++ [UInt8.ofNat (ty.toNat / 256), b1, UInt8.ofNat (cl.toNat / 256), b3]).length = L.length + (wireL s n).length + 5 by rw [List.length_append, HLM.out]; rfl)
      generalize M ++ [UInt8.ofNat (ty.toNat / 256), b1, UInt8.ofNat (cl.toNat / 256), b3] = M5 at *
      generalize hml : M5.length = ml at *
      have HML := Lib.hid hml
      clear hml
      have HO5 := Lib.hid (show OwnB ((w3.setCell ⟨p, 0, none⟩ (.slice oa3 ml oc3)).setCell ⟨p, 1, none⟩ (.slice sa sn sc)) w.heap.size (.slice oa3 ml oc3) M5 from OwnF.kept HO3.out HF5.out (fun g hg hm => by
        simp only [List.mem_singleton] at hm
        subst hm
        rcases HO3.out with ⟨e, _⟩ | ⟨g', cap, e, _, cur, h1, _⟩
        · simp only [Value.slice.injEq] at e
          obtain ⟨rfl, _⟩ := e
          simp [Value.ownBlock] at hg
        · simp only [Value.slice.injEq] at e
          obtain ⟨rfl, _⟩ := e
          simp only [Value.ownBlock, Option.some.injEq] at hg
          subst hg
          rw [HP3.out] at h1
          simp at h1))
      clear HO3
      go_wp2)
    go_ret
    exact ⟨rfl, ⟨_, _, _, HB5.out, HO5.out, HML.out.trans HLL.out⟩, (HF3.out.mono (S' := [p]) (by simp)).trans HF5.out (fun x hx => .inl hx)⟩

end Go.Proofs.YtcfdlilhhfaaaaaDoor
