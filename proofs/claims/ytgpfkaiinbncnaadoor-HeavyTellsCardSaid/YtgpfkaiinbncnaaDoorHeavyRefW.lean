/- The reference's Kept: the walk. -/
import Derived.Test.YtgpfkaiinbncnaaDoorHeavyRef
namespace Go.Proofs.YtgpfkaiinbncnaaDoor
open Go.RowKit Go.Maps

set_option maxRecDepth 100000 in
set_option maxHeartbeats 8000000 in
theorem heavyRef_any (w : World) (a : Option Addr) (cp k i : Nat) (L : List (Int × Int)) (x : Int) (hr : RdP w (.slice a L.length cp) L.length (lq L)) (hk : k ≤ 64) (hi : i ≤ 1000000) (hinv : Inv L k i) :
    Calls Tryd.prog 31 #[.slice a L.length cp, .int .i64 k, .int .i64 x] w fun e w' => ∃ a' c', e = .returned (.slice a' (kp L k x).length c') ∧ OwnP w' w.heap.size 67 (.slice a' (kp L k x).length c') (kp L k x).length (lq (kp L k x)) ∧ Fr [] w w' := by
  have HR := Lib.hid hr; clear hr
  have hll := hinv.len
  have HINV := Lib.hid hinv; clear hinv
  go_enter Tryd.func31, Tryd.ntmps31
  go_wp2_with fail
  go_loopw [8, 9] (fun h j wr => ∃ t : Nat, t ≤ L.length ∧ j = .int .i64 t ∧ h = .bool (hasK (L.take t) x) ∧ wr = w) (fun _ j _ => L.length - (intOf j).toNat)
  case atStart => exact ⟨0, by omega, rfl, rfl, rfl⟩
  case round =>
    obtain ⟨t, ht, rfl, rfl, hwe⟩ := hrel
    rw [hwe]
    clear hwe wr
    by_cases hlt : t < L.length
    · obtain ⟨b, o, cap, he, _, _, hbl, hc⟩ := HR.out.shape (by omega)
      simp only [Value.slice.injEq, true_and] at he
      obtain ⟨rfl, rfl⟩ := he
      have c0 := (hc t hlt).1
      have t0 : (0 : Int) ≤ (t : Int) := by omega
      have t3 : (t : Int) < (L.length : Int) := by omega
      have HS := Lib.hid (hasK_snoc L t x hlt)
      clear hc
      by_cases he : (lq L t).1 = x
      · rw [he] at c0 HS
        clear he
        go_wp2
        go_roundw
        case rel => exact ⟨t + 1, by omega, by go_num, by rw [HS.out]; simp, trivial⟩
        case measure => simp [intOf]; omega
      · have e5 : ((lq L t).1 == x) = false := by simpa using he
        rw [e5] at HS
        clear he
        generalize (lq L t).1 = y at *
        go_wp2
        go_roundw
        case rel => exact ⟨t + 1, by omega, by go_num, by rw [HS.out]; simp, trivial⟩
        case measure => simp [intOf]; omega
    · obtain rfl : t = L.length := by omega
      rw [List.take_length]
      have HS2 := Lib.hid HINV.out.asc
      cases hh : hasK L x
      · by_cases hl : L.length < k
        · have HKP := Lib.hid (new_kp hh hl)
          have e6 : decide (L.length < k) = true := by simpa using hl
          go_wp2
          go_loopw [7, 12] (fun v j wx => ∃ u : Nat, u ≤ L.length ∧ j = .int .i64 u ∧ OwnP wx w.heap.size 67 v (loL L x u).length (lq (loL L x u)) ∧ Fr [] w wx) (fun _ j _ => L.length - (intOf j).toNat)
          case atStart => exact ⟨0, by omega, rfl, OwnP.nil _ _ _ _, Fr.refl _ _⟩
          case round =>
            obtain ⟨u, hu, rfl, hw, hf⟩ := hrel
            have HW := Lib.hid hw; clear hw
            have HF := Lib.hid hf; clear hf
            have hul2 := loL_len L x u
            have hsz := HF.out.size
            by_cases hul : u < L.length
            · obtain ⟨b, o, cap, he, _, _, hbl, hc⟩ := HR.out.shape (by omega)
              simp only [Value.slice.injEq, true_and] at he
              obtain ⟨rfl, rfl⟩ := he
              have c0 := HF.out.cell (hc u hul).1 (by simp)
              have c1 := HF.out.cell (hc u hul).2 (by simp)
              have u0 : (0 : Int) ≤ (u : Int) := by omega
              have u3 : (u : Int) < (L.length : Int) := by omega
              clear hc
              have HSU := Lib.hid (loL_succ x hul)
              have hq : lq L u = ((lq L u).1, (lq L u).2) := rfl
              have HQ := Lib.hid hq
              clear hq
              by_cases he : (lq L u).1 < x
              · rw [if_pos he] at HSU
                rw [HQ.out] at HSU
                clear HQ
                have e5 : decide ((lq L u).1 < x) = true := by simpa using he
                generalize (lq L u).1 = y at *
                generalize (lq L u).2 = z at *
                go_wp2_with (first
                  | (at_builtin; refine wpList_app2 rfl (.tmp 69) (.tmp 74) 61 rfl 67 infoOften Tryd.underlying61 rfl (HW.out.kept ((Fr.refl [] wr).alloc _) (by simp)) rfl (rdp_one _ _ _ _ (by simp)) rfl (by unfold maxLen; omega) (by omega) (by simp; omega) ?_; intro v9 w9 ho9 hf9 hn9)
                  | go_in)
                have HO9 := Lib.hid (show OwnP w9 w.heap.size 67 v9 (loL L x (u + 1)).length (lq (loL L x (u + 1))) by rw [HSU.out]; exact lq_snoc ho9)
                have HF9 := Lib.hid ((HF.out.alloc (.cells #[.int .i64 y, .int .i64 z] 67)).trans hf9 (fun x hx => .inr (HW.out.ge x hx)))
                clear ho9 hf9 hn9
                go_wp2
                go_roundw
                case rel => exact ⟨u + 1, by omega, by go_num, HO9.out, HF9.out⟩
                case measure => simp [intOf]; omega
              · rw [if_neg he] at HSU
                have e5 : decide ((lq L u).1 < x) = false := by simpa using he
                clear HQ
                generalize (lq L u).1 = y at *
                go_wp2
                go_roundw
                case rel => exact ⟨u + 1, by omega, by go_num, by rw [HSU.out]; exact HW.out, HF.out⟩
                case measure => simp [intOf]; omega
            · obtain rfl : u = L.length := by omega
              go_wp2_with (first
                | (at_builtin; refine wpList_app2 rfl (.tmp 76) (.tmp 79) 61 rfl 67 infoOften Tryd.underlying61 rfl (HW.out.kept ((Fr.refl [] wr).alloc _) (by simp)) rfl (rdp_one _ _ _ _ (by simp)) rfl (by unfold maxLen; omega) (by omega) (by simp; omega) ?_; intro v9 w9 ho9 hf9 hn9)
                | go_in)
              have HO9 := Lib.hid (lq_snoc ho9)
              have HF9 := Lib.hid ((HF.out.alloc (.cells #[.int .i64 x, .int .i64 1] 67)).trans hf9 (fun x hx => .inr (HW.out.ge x hx)))
              clear ho9 hf9 hn9 HW HF hsz
              have hM : (loL L x L.length ++ [(x, 1)]).length ≤ L.length + 1 := by simp; omega
              generalize loL L x L.length ++ [(x, 1)] = M at *
              clear hul2
              go_wp2
              go_loopw [7, 13] (fun v j wx => ∃ u : Nat, u ≤ L.length ∧ j = .int .i64 u ∧ OwnP wx w.heap.size 67 v (M ++ hiL L x u).length (lq (M ++ hiL L x u)) ∧ Fr [] w wx) (fun _ j _ => L.length - (intOf j).toNat)
              case atStart => exact ⟨0, by omega, rfl, by rw [show hiL L x 0 = [] from rfl, List.append_nil]; exact HO9.out, HF9.out⟩
              case round =>
                obtain ⟨u, hu, rfl, hw, hf⟩ := hrel
                have HW := Lib.hid hw; clear hw
                have HF := Lib.hid hf; clear hf
                have hul2 : (M ++ hiL L x u).length ≤ 200 := by have := hiL_len L x u; rw [List.length_append]; omega
                have hsz := HF.out.size
                by_cases hul : u < L.length
                · obtain ⟨b, o, cap, he, _, _, hbl, hc⟩ := HR.out.shape (by omega)
                  simp only [Value.slice.injEq, true_and] at he
                  obtain ⟨rfl, rfl⟩ := he
                  have c0 := HF.out.cell (hc u hul).1 (by simp)
                  have c1 := HF.out.cell (hc u hul).2 (by simp)
                  have u0 : (0 : Int) ≤ (u : Int) := by omega
                  have u3 : (u : Int) < (L.length : Int) := by omega
                  clear hc
                  have HSU := Lib.hid (hiL_succ x hul)
                  have hq : lq L u = ((lq L u).1, (lq L u).2) := rfl
                  have HQ := Lib.hid hq
                  clear hq
                  by_cases he : x < (lq L u).1
                  · rw [if_pos he] at HSU
                    rw [HQ.out] at HSU
                    clear HQ
                    have e5 : decide (x < (lq L u).1) = true := by simpa using he
                    generalize (lq L u).1 = y at *
                    generalize (lq L u).2 = z at *
                    go_wp2_with (first
                      | (at_builtin; refine wpList_app2 rfl (.tmp 94) (.tmp 99) 61 rfl 67 infoOften Tryd.underlying61 rfl (HW.out.kept ((Fr.refl [] wr).alloc _) (by simp)) rfl (rdp_one _ _ _ _ (by simp)) rfl (by unfold maxLen; omega) (by omega) (by simp; omega) ?_; intro v9 w9 ho9 hf9 hn9)
                      | go_in)
                    have HO9 := Lib.hid (show OwnP w9 w.heap.size 67 v9 (M ++ hiL L x (u + 1)).length (lq (M ++ hiL L x (u + 1))) by rw [HSU.out, ← List.append_assoc]; exact lq_snoc ho9)
                    have HF9 := Lib.hid ((HF.out.alloc (.cells #[.int .i64 y, .int .i64 z] 67)).trans hf9 (fun x hx => .inr (HW.out.ge x hx)))
                    clear ho9 hf9 hn9
                    go_wp2
                    go_roundw
                    case rel => exact ⟨u + 1, by omega, by go_num, HO9.out, HF9.out⟩
                    case measure => simp [intOf]; omega
                  · rw [if_neg he] at HSU
                    have e5 : decide (x < (lq L u).1) = false := by simpa using he
                    clear HQ
                    generalize (lq L u).1 = y at *
                    go_wp2
                    go_roundw
                    case rel => exact ⟨u + 1, by omega, by go_num, by rw [HSU.out]; exact HW.out, HF.out⟩
                    case measure => simp [intOf]; omega
                · obtain rfl : u = L.length := by omega
                  go_wp2
                  go_ret
                  obtain ⟨a1, c1, e1⟩ := HW.out.rd.slice
                  rw [← HKP.out]
                  exact ⟨a1, c1, by rw [← e1]; rfl, by rw [← e1]; exact HW.out, HF.out⟩
        · have HKP := Lib.hid (dc_kp hh hl (fun p hp => (HINV.out.pos p hp).1))
          have e6 : decide (L.length < k) = false := by simpa using hl
          go_wp2
          go_loopw [7, 14] (fun v j wx => ∃ u : Nat, u ≤ L.length ∧ j = .int .i64 u ∧ OwnP wx w.heap.size 67 v (dcL L u).length (lq (dcL L u)) ∧ Fr [] w wx) (fun _ j _ => L.length - (intOf j).toNat)
          case atStart => exact ⟨0, by omega, rfl, OwnP.nil _ _ _ _, Fr.refl _ _⟩
          case round =>
            obtain ⟨u, hu, rfl, hw, hf⟩ := hrel
            have HW := Lib.hid hw; clear hw
            have HF := Lib.hid hf; clear hf
            have hul2 := dcL_len L u
            by_cases hul : u < L.length
            · obtain ⟨b, o, cap, he, _, _, hbl, hc⟩ := HR.out.shape (by omega)
              simp only [Value.slice.injEq, true_and] at he
              obtain ⟨rfl, rfl⟩ := he
              have c0 := HF.out.cell (hc u hul).1 (by simp)
              have c1 := HF.out.cell (hc u hul).2 (by simp)
              have u0 : (0 : Int) ≤ (u : Int) := by omega
              have u3 : (u : Int) < (L.length : Int) := by omega
              clear hc
              have hsz := HF.out.size
              have HSU := Lib.hid (dcL_succ hul)
              obtain ⟨p1, p2⟩ := HINV.out.pos (lq L u) (lq_mem hul)
              by_cases he : 1 < (lq L u).2
              · rw [if_pos he] at HSU
                generalize (lq L u).1 = y at *
                generalize (lq L u).2 = z at *
                have hl1 : (dcL L u).length + 1 ≤ maxLen := by unfold maxLen; omega
                have hl2 : ((dcL L u).length + 1) * 16 ≤ 140737488355328 := by omega
                have HSZ := Lib.hid hsz
                go_upto_region 34 with fail
                have HKC := Lib.hid (fun (w' : World) (h : Fr [] wr w') => (⟨h.cell c0 (by simp), h.cell c1 (by simp)⟩ : w'.cell? ⟨b, o + u * 2, none⟩ = some (.int .i64 y) ∧ w'.cell? ⟨b, o + u * 2 + 1, none⟩ = some (.int .i64 z)))
                have HOW := Lib.hid (fun (w' : World) (h : Fr [] wr w') => HW.out.kept h (by simp))
                have HK9 := Lib.hid (fun (w' w9 : World) (h : Fr [] wr w') (h9 : Fr _ w' w9) => (⟨h9.cell (HKC.out _ h).1 (fun hm => by have := HW.out.ge _ hm; simp at this; omega), h9.cell (HKC.out _ h).2 (fun hm => by have := HW.out.ge _ hm; simp at this; omega)⟩ : w9.cell? ⟨b, o + u * 2, none⟩ = some (.int .i64 y) ∧ w9.cell? ⟨b, o + u * 2 + 1, none⟩ = some (.int .i64 z)))
                go_region_held3 (fun w' => w'.cell? ⟨b, o + u * 2, none⟩ = some (.int .i64 y) ∧ w'.cell? ⟨b, o + u * 2 + 1, none⟩ = some (.int .i64 z))
                  (first | exact HKC.out _ ((Fr.refl [] wr).drew) | exact HKC.out _ (((Fr.refl [] wr).drew).alloc _) | exact HK9.out _ _ (((Fr.refl [] wr).drew).alloc _) hf9 | fail)
                  (first
                    | (refine step_app2 (n := (dcL L u).length) (base := w.heap.size) (p := lq (dcL L u)) (m := 1) (q := fun _ => (y, IntKind.i64.wrap (z - 1))) ?_ (.tmp 114) (.tmp 127) 61 ?_ 67 infoOften Tryd.underlying61 ?_ (HOW.out _ (((Fr.refl [] wr).drew).alloc _)) ?_ (rdp_one wr.drew y (IntKind.i64.wrap (z - 1)) 67 rfl) ?_ ?_ ?_ ?_ ?_; rfl; rfl; rfl; rfl; rfl; exact hl1; exact hl2; exact (Nat.le_trans HSZ.out (((Fr.refl [] wr).drew).alloc _).size); intro v9 w9 ho9 hf9 hn9)
                    | fail)
                have hwz : IntKind.i64.wrap (z - 1) = z - 1 := by
                  simp only [IntKind.wrap, IntKind.bits, IntKind.signed]
                  simp
                  omega
                rw [hwz] at ho9 hf9
                have HO9 := Lib.hid (show OwnP w9 w.heap.size 67 v9 (dcL L (u + 1)).length (lq (dcL L (u + 1))) by rw [HSU.out]; exact lq_snoc ho9)
                have HF9 := Lib.hid (((HF.out.alloc (.cells #[.int .i64 y, .int .i64 (z - 1)] 67)).drew).trans hf9 (fun x hx => .inr (HW.out.ge x hx)))
                clear ho9 hf9 hn9
                go_wp2
                go_roundw
                case rel => exact ⟨u + 1, by omega, by go_num, HO9.out, HF9.out⟩
                case measure => simp [intOf]; omega
              · rw [if_neg he] at HSU
                have e7 : decide (1 < (lq L u).2) = false := by simpa using he
                generalize (lq L u).2 = z at *
                go_wp2
                go_roundw
                case rel => exact ⟨u + 1, by omega, by go_num, by rw [HSU.out]; exact HW.out, HF.out⟩
                case measure => simp [intOf]; omega
            · obtain rfl : u = L.length := by omega
              go_wp2
              go_ret
              obtain ⟨a1, c1, e1⟩ := HW.out.rd.slice
              rw [← HKP.out]
              exact ⟨a1, c1, by rw [← e1]; rfl, by rw [← e1]; exact HW.out, HF.out⟩
      · have HKP := Lib.hid (up_kp (k := k) HS2.out hh)
        clear hh
        go_wp2
        go_loopw [7, 10] (fun v j wx => ∃ u : Nat, u ≤ L.length ∧ j = .int .i64 u ∧ OwnP wx w.heap.size 67 v (upL L x u).length (lq (upL L x u)) ∧ Fr [] w wx) (fun _ j _ => L.length - (intOf j).toNat)
        case atStart => exact ⟨0, by omega, rfl, OwnP.nil _ _ _ _, Fr.refl _ _⟩
        case round =>
          obtain ⟨u, hu, rfl, hw, hf⟩ := hrel
          have HW := Lib.hid hw; clear hw
          have HF := Lib.hid hf; clear hf
          have hul2 := upL_len L x u hu
          by_cases hul : u < L.length
          · obtain ⟨b, o, cap, he, _, _, hbl, hc⟩ := HR.out.shape (by omega)
            simp only [Value.slice.injEq, true_and] at he
            obtain ⟨rfl, rfl⟩ := he
            have c0 := HF.out.cell (hc u hul).1 (by simp)
            have c1 := HF.out.cell (hc u hul).2 (by simp)
            have u0 : (0 : Int) ≤ (u : Int) := by omega
            have u3 : (u : Int) < (L.length : Int) := by omega
            clear hc
            have hsz := HF.out.size
            have HSU := Lib.hid (upL_succ x hul)
            obtain ⟨p1, p2⟩ := HINV.out.pos (lq L u) (lq_mem hul)
            have hq : lq L u = ((lq L u).1, (lq L u).2) := rfl
            have HQ := Lib.hid hq
            clear hq
            have HF2 := Lib.hid (HF.out.alloc (.cells #[.int .i64 (lq L u).1, .int .i64 (lq L u).2] 67))
            have HW2 := Lib.hid (HW.out.kept ((Fr.refl [] wr).alloc (.cells #[.int .i64 (lq L u).1, .int .i64 (lq L u).2] 67)) (by simp))
            have HBL := Lib.hid (heap_alloc_new wr (.cells #[.int .i64 (lq L u).1, .int .i64 (lq L u).2] 67))
            by_cases he : (lq L u).1 = x
            · rw [if_pos he] at HSU
              rw [he] at c0 HSU HF2 HW2 HBL
              clear he HQ
              generalize (lq L u).2 = y at *
              clear HF2 HW2 HBL
              go_wp2_with (first
                | (at_builtin; refine wpList_app2 rfl (.tmp 47) (.tmp 49) 61 rfl 67 infoOften Tryd.underlying61 rfl (HW.out.kept (((Fr.refl [] wr).alloc _).alloc _) (by simp)) rfl (rdp_one _ _ _ _ (by simp)) rfl (by unfold maxLen; omega) (by omega) (by simp; omega) ?_; intro v9 w9 ho9 hf9 hn9)
                | go_in)
              have HO9 := Lib.hid (show OwnP w9 w.heap.size 67 v9 (upL L x (u + 1)).length (lq (upL L x (u + 1))) by rw [HSU.out]; exact lq_snoc ho9)
              have HF9 := Lib.hid (((HF.out.alloc (.cells #[.int .i64 x, .int .i64 (y + 1)] 67)).alloc (.cells #[.int .i64 x, .int .i64 (y + 1)] 67)).trans hf9 (fun x hx => .inr (HW.out.ge x hx)))
              clear ho9 hf9 hn9
              go_wp2
              go_roundw
              case rel => exact ⟨u + 1, by omega, by go_num, HO9.out, HF9.out⟩
              case measure => simp [intOf]; omega
            · rw [if_neg he] at HSU
              rw [HQ.out] at HSU
              have e5 : ((lq L u).1 == x) = false := by simpa using he
              clear he HQ HF2 HW2 HBL
              generalize (lq L u).1 = y at *
              generalize (lq L u).2 = z at *
              go_wp2_with (first
                | (at_builtin; refine wpList_app2 rfl (.tmp 47) (.tmp 49) 61 rfl 67 infoOften Tryd.underlying61 rfl (HW.out.kept (((Fr.refl [] wr).alloc _).alloc _) (by simp)) rfl (rdp_one _ _ _ _ (by simp)) rfl (by unfold maxLen; omega) (by omega) (by simp; omega) ?_; intro v9 w9 ho9 hf9 hn9)
                | go_in)
              have HO9 := Lib.hid (show OwnP w9 w.heap.size 67 v9 (upL L x (u + 1)).length (lq (upL L x (u + 1))) by rw [HSU.out]; exact lq_snoc ho9)
              have HF9 := Lib.hid (((HF.out.alloc (.cells #[.int .i64 y, .int .i64 z] 67)).alloc (.cells #[.int .i64 y, .int .i64 z] 67)).trans hf9 (fun x hx => .inr (HW.out.ge x hx)))
              clear ho9 hf9 hn9
              go_wp2
              go_roundw
              case rel => exact ⟨u + 1, by omega, by go_num, HO9.out, HF9.out⟩
              case measure => simp [intOf]; omega
          · obtain rfl : u = L.length := by omega
            go_wp2
            go_ret
            obtain ⟨a1, c1, e1⟩ := HW.out.rd.slice
            rw [← HKP.out]
            exact ⟨a1, c1, by rw [← e1]; rfl, by rw [← e1]; exact HW.out, HF.out⟩
end Go.Proofs.YtgpfkaiinbncnaaDoor
