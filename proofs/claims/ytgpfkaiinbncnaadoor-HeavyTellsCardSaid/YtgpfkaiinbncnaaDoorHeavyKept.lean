/- heavy.Kept: the pairs, the least key first. -/
import Derived.Test.YtgpfkaiinbncnaaDoorHeavy
import Derived.Test.YtgpfkaiinbncnaaDoorPairs
namespace Go.Proofs.YtgpfkaiinbncnaaDoor
open Go.RowKit Go.Maps

/-- a list of pairs, by the index -/
def lq (L : List (Int × Int)) (j : Nat) : Int × Int := L.getD j (0, 0)

theorem lq_get {L : List (Int × Int)} {j : Nat} (h : j < L.length) : lq L j = L[j] := by
  unfold lq
  rw [List.getD_eq_getElem?_getD, List.getElem?_eq_getElem h]
  rfl

theorem lq_mem {L : List (Int × Int)} {j : Nat} (h : j < L.length) : lq L j ∈ L := by rw [lq_get h]; exact List.getElem_mem h

theorem infoOften : (Tryd.prog.info? 67).map (fun i => (i.zero, i.size, i.bytes)) = some (some (.agg #[.int .i64 0, .int .i64 0]), 2, 16) := by kernel_rfl

theorem OwnM.keyOf {w : World} {b n : Nat} {L : List (Int × Int)} (h : OwnM w b n L) (j : Nat) (hj : j < L.length) : keyOf Tryd.prog 3 (.int .i64 (lq L j).1) = some (.int .i64 (lq L j).1) := by
  obtain ⟨es, he, hk⟩ := World.ownsMap.keysOf h
  have e : es = L.map encI := by
    unfold dI at he
    simpa using he.symm
  subst e
  obtain ⟨v, hv⟩ := hk (encI (lq L j)) (List.mem_map_of_mem (lq_mem hj))
  obtain ⟨x, rfl, hx, hw⟩ := Maps.keyOf_int_inv Tryd.underlying3 hv
  have e2 : (lq L j).1 = x := by
    have : (Lit.int .i64 (lq L j).1) = Lit.int .i64 x := hx
    simpa using this
  rw [e2]
  rw [hv]
  exact congrArg some hx

set_option maxRecDepth 100000 in
set_option maxHeartbeats 4000000 in
theorem heavyKept_any (w : World) (p b k i : Nat) (L : List (Int × Int)) (h : Hv w p b k i L) :
    Calls Tryd.prog 33 #[.pointer (some ⟨p, 0, none⟩)] w fun e w' => ∃ a c, e = .returned (.slice a L.length c) ∧ OwnP w' w.heap.size 67 (.slice a L.length c) L.length (lq L) ∧ Fr [] w w' := by
  have hlen := h.inv.len
  have k64 := h.k64
  have HASC := Lib.hid h.inv.asc
  have c0 := blk_cell h.blk 0 rfl
  have HO := Lib.hid h.own
  have HB := Lib.hid h.blk
  clear h
  go_enter Tryd.func33, Tryd.ntmps33
  go_wp2_with (first
    | (go_at_call 57; refine (keys_any (some b) w).mono ?_; rintro e w2 ⟨rfl, rfl⟩)
    | (go_at_call 56; refine (sorted_any b L w HO.out HASC.out (by omega)).mono ?_; rintro e w3 ⟨v3, rfl, h3, f3⟩; obtain ⟨a3, cp3, rfl⟩ := h3.rd.slice; have HF3 := Lib.hid (((Fr.refl [] w).alloc (.cells #[.map (some b)] 94)).trans f3 (by simp)); have HR3 := Lib.hid h3; clear h3 f3)
    | go_in)
  have hsz3 := HF3.out.size
  go_loopw [3, 13] (fun out j wr => ∃ t : Nat, t ≤ L.length ∧ j = .int .i64 t ∧ OwnP wr w3.heap.size 67 out t (lq L) ∧ Fr [] w3 wr) (fun _ j _ => L.length - (intOf j).toNat)
  case atStart => exact ⟨0, by omega, rfl, OwnP.nil _ _ _ _, Fr.refl _ _⟩
  case round =>
    obtain ⟨t, ht, rfl, ho, hf⟩ := hrel
    have HW := Lib.hid ho; clear ho
    have HF := Lib.hid hf; clear hf
    have hsz := HF.out.size
    by_cases hlt : t < L.length
    · have k0 : (0 : Int) ≤ (t : Int) := by omega
      have k3 : (t : Int) < (L.length : Int) := by omega
      obtain ⟨g3, cap3, he3, hb3, hrow3⟩ := HR3.out.row (by omega)
      simp only [Value.slice.injEq, true_and] at he3
      obtain ⟨rfl, rfl⟩ := he3
      have k1 : wr.cell? ⟨g3, t, none⟩ = some (.int .i64 (lq L t).1) := by
        have := HF.out.cell (hrow3.cell t hlt) (by simp)
        rw [this]
        have e1 : (L.map (·.1)).getD t 0 = (lq L t).1 := by
          unfold lq
          rw [List.getD_eq_getElem?_getD, List.getD_eq_getElem?_getD, List.getElem?_map]
          rw [List.getElem?_eq_getElem hlt]
          rfl
        rw [e1]
      have HM := Lib.hid ((HO.out.fr HF3.out (by simp)).fr HF.out (by simp))
      have HK := Lib.hid (HO.out.keyOf t hlt)
      have HAT := Lib.hid (atKey_dI L (lq L t).1)
      have e2 : lk L (lq L t).1 = (lq L t).2 := lk_of_mem HASC.out (lq_mem hlt) rfl
      rw [e2] at HAT
      have c1 := HF.out.cell (HF3.out.cell c0 (by simp)) (by simp)
      have hq : lq L t = ((lq L t).1, (lq L t).2) := rfl
      have HQ := Lib.hid hq
      clear hrow3 hq e2 c0
      generalize (lq L t).1 = x at *
      generalize (lq L t).2 = y at *
      go_wp2_with (first
        | (at_lookup; refine wpList_lookup_own_int _ rfl _ _ 94 rfl 3 3 .i64 lawInt Tryd.underlying94 Tryd.underlying3 (zeroInt _) b L.length (dI L) rfl HM.out _ _ rfl HK.out ?_; intro c5 hat5 hwc5; have hc5 : y = c5 := (by { rw [HAT.out] at hat5; simp at hat5; exact hat5 }); subst hc5; clear hat5 hwc5)
        | (at_builtin; refine wpList_app2 rfl (.tmp 17) (.tmp 26) 61 rfl 67 infoOften Tryd.underlying61 rfl (HW.out.kept ((Fr.refl [] wr).alloc _) (by simp)) rfl (rdp_one _ _ _ _ (by simp)) rfl (by unfold maxLen; omega) (by omega) (by simp; omega) ?_; intro v9 w9 ho9 hf9 hn9)
        | go_in)
      have HO9 := Lib.hid (show OwnP w9 w3.heap.size 67 v9 (t + 1) (lq L) from ho9.congr (fun j hj => by
        unfold app2
        by_cases h4 : j < t
        · rw [if_pos h4]
        · obtain rfl : j = t := by omega
          rw [if_neg h4, HQ.out]))
      have HF9 := Lib.hid ((HF.out.alloc (.cells #[.int .i64 x, .int .i64 y] 67)).trans hf9 (fun z hz => .inr (HW.out.ge z hz)))
      clear ho9 hf9 hn9
      go_wp2
      go_roundw
      case rel => exact ⟨t + 1, by omega, by go_num, HO9.out, HF9.out⟩
      case measure => simp [intOf]; omega
    · obtain rfl : t = L.length := by omega
      go_wp2
      go_ret
      obtain ⟨a, c, e⟩ := HW.out.rd.slice
      exact ⟨a, c, by rw [← e]; rfl, by rw [← e]; exact HW.out.mono (by omega), HF3.out.trans HF.out (by simp)⟩

end Go.Proofs.YtgpfkaiinbncnaaDoor
