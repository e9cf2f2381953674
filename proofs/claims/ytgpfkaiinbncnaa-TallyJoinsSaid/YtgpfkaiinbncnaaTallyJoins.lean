/- TallyJoins: Join, Count, and the walk. -/
import Derived.Test.YtgpfkaiinbncnaaTallyBounds
namespace Go.Proofs.Ytgpfkaiinbncnaa
open Go.RowKit

/-- a tally as Add and Join tell it: without what is 0 at its end -/
def TalN (w : World) (v : Value) (F : Nat → Int) : Prop := RdF w v (trm F 64) (fun j => .int .i64 (F j)) ∧ ∀ j, 64 ≤ j → F j = 0

theorem TalN.pl {F : Nat → Int} (h : ∀ j, 64 ≤ j → F j = 0) : pl64 (trm F 64) F = F := by
  funext j
  unfold pl64
  by_cases h1 : j < trm F 64
  · rw [if_pos h1]
  · rw [if_neg h1]
    by_cases h2 : j < 64
    · exact (trm_zero F 64 j (by omega) h2).symm
    · exact (h j (by omega)).symm

theorem TalN.is {w : World} {v : Value} {F : Nat → Int} (h : TalN w v F) : TalIs w v F :=
  ⟨trm F 64, F, h.1, trm_le F 64, fun j => by rw [TalN.pl h.2]⟩

theorem TalN.fr {w w' : World} {v : Value} {F : Nat → Int} (h : TalN w v F) (hf : Fr [] w w') : TalN w' v F := ⟨h.1.fr hf (by simp), h.2⟩

theorem TalN.nil (w : World) (F : Nat → Int) (h : ∀ j, F j = 0) : TalN w (.slice none 0 0) F := by
  have e : ∀ k, trm F k = 0 := fun k => by
    induction k with
    | zero => rfl
    | succ k ih => show (if F k = 0 then trm F k else k + 1) = 0; rw [if_pos (h k), ih]
  exact ⟨.inl ⟨rfl, e 64⟩, fun j _ => h j⟩

theorem TalN.row {w : World} {g cap : Nat} {F : Nat → Int} (hr : RowI w g 64 cap F) (hfar : ∀ j, 64 ≤ j → F j = 0) : TalN w (.slice (some ⟨g, 0, none⟩) (trm F 64) (trm F 64)) F := by
  have hle := trm_le F 64
  refine ⟨.inr ⟨_, trm F 64, rfl, Nat.le_refl _, by unfold maxLen; omega, fun j hj => ?_⟩, hfar⟩
  have e : (⟨g, 0, none⟩ : Addr).add j = ⟨g, j, none⟩ := by unfold Addr.add; split <;> simp_all
  rw [e]
  exact hr.cell j (by omega)

theorem talN_add (w : World) (v : Value) (F : Nat → Int) (h : TalN w v F) (hF : ∀ j, 0 ≤ F j ∧ F j ≤ 1000000) (x : Int) (hx : 0 ≤ x) (hx1 : x ≤ 9223372036854775807) :
    Calls Try.prog 19 #[v, .int .i64 x] w fun e w' => ∃ a n c, e = .returned (.tuple #[.slice a n c, .nilIface]) ∧ TalN w' (.slice a n c) (fun i => F i + if i = plc x then 1 else 0) ∧ Fr [] w w' := by
  have hp := plc_lt x hx hx1
  refine (tally_add w v (trm F 64) F h.1 (trm_le F 64) (fun j hj => by have := hF j; omega) x hx hx1).mono ?_
  rintro e w' ⟨g, rfl, hg, ⟨cap, hr⟩, hf⟩
  have e : (fun j => if j = plc x then pl64 (trm F 64) F j + 1 else pl64 (trm F 64) F j) = fun i => F i + if i = plc x then 1 else 0 := by
    rw [TalN.pl h.2]
    funext j
    by_cases hj : j = plc x
    · rw [if_pos hj, if_pos hj]
    · rw [if_neg hj, if_neg hj]; omega
  rw [e] at hr ⊢
  exact ⟨_, _, _, rfl, TalN.row hr (fun j hj => by rw [h.2 j hj, if_neg (by omega)]; rfl), hf⟩

set_option maxHeartbeats 1000000 in
theorem talN_count (w : World) (v : Value) (F : Nat → Int) (h : TalN w v F) (hF : ∀ j, 0 ≤ F j ∧ F j ≤ 1000000) :
    Calls Try.prog 22 #[v] w fun e w' => e = .returned (.tuple #[.int .i64 (isum F 64), .nilIface]) ∧ Fr [] w w' := by
  have e64 := TalN.pl h.2
  have H := Lib.hid h.1; clear h
  go_enter Try.func22, Try.ntmps22
  go_wp2_with fail
  refine (checked_any _ v _ F H.out (trm_le F 64) (fun j hj => by have := hF j; omega)).mono ?_
  rintro e w1 ⟨g, cap, rfl, hg, hr1, hf1⟩
  rw [e64] at hr1
  have HF1 := Lib.hid hf1; clear hf1
  have HR1 := Lib.hid hr1; clear hr1
  clear e64
  go_wp2_with fail
  refine (count_any _ g 64 cap F HR1.out (by omega) (fun j hj => by have := hF j; omega) cap).mono ?_
  rintro e w2 ⟨rfl, rfl⟩
  go_wp2
  go_ret2
  exact ⟨rfl, HF1.out⟩

set_option maxRecDepth 100000 in
set_option maxHeartbeats 2000000 in
theorem talN_join (w : World) (v u : Value) (F G : Nat → Int) (h : TalN w v F) (k : TalN w u G) (hF : ∀ j, 0 ≤ F j ∧ F j ≤ 1000000) (hG : ∀ j, 0 ≤ G j ∧ G j ≤ 1000000) :
    Calls Try.prog 21 #[v, u] w fun e w' => ∃ a n c, e = .returned (.tuple #[.slice a n c, .nilIface]) ∧ TalN w' (.slice a n c) (fun i => F i + G i) ∧ Fr [] w w' := by
  have eF := TalN.pl h.2
  have eG := TalN.pl k.2
  have HFAR := Lib.hid (show ∀ j, 64 ≤ j → F j + G j = 0 from fun j hj => by rw [h.2 j hj, k.2 j hj]; rfl)
  have H := Lib.hid h.1; clear h
  have K := Lib.hid k.1; clear k
  go_enter Try.func21, Try.ntmps21
  go_wp2_with fail
  refine (checked_any _ v _ F H.out (trm_le F 64) (fun j hj => by have := hF j; omega)).mono ?_
  rintro e w1 ⟨g, cap, rfl, hg, hr1, hf1⟩
  rw [eF] at hr1
  have HK := Lib.hid (K.out.fr hf1 (by simp))
  have HF1 := Lib.hid hf1
  have HR1 := Lib.hid hr1; clear hr1
  go_wp2_with fail
  refine (checked_any _ u _ G HK.out (trm_le G 64) (fun j hj => by have := hG j; omega)).mono ?_
  rintro e w2 ⟨g2, cap2, rfl, hg2, hr2, hf2⟩
  rw [eG] at hr2
  have hlt := HR1.out.lt
  have HR2 := Lib.hid hr2; clear hr2
  have HR3 := Lib.hid (HR1.out.kept hf2 (by simp))
  have HF2 := Lib.hid (HF1.out.trans hf2 (by simp))
  clear hf1 hf2 eF eG
  have hne : g ≠ g2 := by omega
  have HNE := Lib.hid hne; clear hne
  go_wp2
  go_loopw [29] (fun i wr => ∃ q : Nat, q ≤ 64 ∧ i = .int .i64 q ∧ RowI wr g 64 cap (fun j => if j < q then F j + G j else F j) ∧ RowI wr g2 64 cap2 G ∧ Fr [] w wr) (fun i _ => 64 - (intOf i).toNat)
  case atStart => exact ⟨0, by omega, rfl, HR3.out.congr (fun j hj => by simp), HR2.out, HF2.out⟩
  case round =>
    obtain ⟨q, hq, rfl, ha, hb, hf⟩ := hrel
    by_cases hlt : q < 64
    · have x1 := ha.cell q hlt
      simp only [Nat.lt_irrefl, if_false] at x1
      have x2 := hb.cell q hlt
      have f1 := ha.frozen q
      have b1 := hF q
      have b2 := hG q
      have hs := (ha.stored q (.int .i64 (F q + G q))).congr (f' := fun j => .int .i64 (if j < q + 1 then F j + G j else F j)) (fun j hj => by
        by_cases h1 : j = q
        · subst h1; simp
        · by_cases h2 : j < q
          · simp [h1, h2, show j < q + 1 by omega]
          · simp [h1, h2, show ¬ j < q + 1 by omega])
      have hs2 := hb.kept ((Fr.refl [g] wr).setCell (p := ⟨g, q, none⟩) (by simp) (.int .i64 (F q + G q))) (by simpa using HNE.out.symm)
      have HS := Lib.hid hs
      have HS2 := Lib.hid hs2
      have HFF := Lib.hid (hf.setCell (p := ⟨g, q, none⟩) (.inr hg) (.int .i64 (F q + G q)))
      clear ha hb hs hs2 hf
      have q0 : (0 : Int) ≤ (q : Int) := by omega
      have q3 : (q : Int) < 64 := by omega
      go_wp2
      go_roundw
      case rel => exact ⟨q + 1, by omega, by go_num, HS.out, HS2.out, HFF.out⟩
      case measure => simp [intOf]; omega
    · obtain rfl : q = 64 := by omega
      have HS := Lib.hid (ha.congr (f' := fun j => .int .i64 (F j + G j)) (fun j hj => by simp only [if_pos hj]))
      have HFF := Lib.hid hf
      clear ha hb hf
      go_wp2_with fail
      refine (told_any _ g cap _ HS.out (fun j hj => by have := hF j; have := hG j; omega)).mono ?_
      rintro e w3 ⟨rfl, rfl⟩
      go_wp2
      go_ret2
      exact ⟨_, _, _, rfl, TalN.row HS.out HFAR.out, HFF.out⟩

theorem RdF.len {w : World} {a : Option Addr} {n c N : Nat} {f : Nat → Value} (h : RdF w (.slice a n c) N f) : n = N := by
  rcases h with ⟨e, h0⟩ | ⟨ad, cap, e, _⟩
  · simp only [Value.slice.injEq] at e
    omega
  · simp only [Value.slice.injEq] at e
    exact e.2.1

theorem cnf_far' (ns : Nat → Int) (k : Nat) (h : ∀ j, j < k → 0 ≤ ns j ∧ ns j ≤ 9223372036854775807) (i : Nat) (hi : 64 ≤ i) : cnf ns k i = 0 :=
  cnf_far ns k i (fun j hj => plc_lt _ (h j hj).1 (h j hj).2) hi

theorem talN_add_neg (w : World) (v : Value) (F : Nat → Int) (h : TalN w v F) (hF : ∀ j, 0 ≤ F j ∧ F j ≤ 1000000) (x : Int) (hx : x < 0) :
    Calls Try.prog 19 #[v, .int .i64 x] w fun e w' => e = .returned (.tuple #[.slice none 0 0, .iface 71 (.int .i64 6)]) ∧ Fr [] w w' := tally_add_neg w v F h.is hF x hx

/-- the same list, from its end -/
def rev (bs : Nat → Int) (m : Nat) (j : Nat) : Int := bs (m - 1 - j)

set_option maxRecDepth 100000 in
set_option maxHeartbeats 4000000 in
theorem tallyJoins_any (w : World) (a : Option Addr) (n c : Nat) (xs : Nat → Int) (b : Option Addr) (m d : Nat) (bs : Nat → Int) (hv : RdF w (.slice a n c) n (fun j => .int .i64 (xs j))) (hu : RdF w (.slice b m d) m (fun j => .int .i64 (bs j)))
    (has : ∀ j, j < n → xs j ≤ 9223372036854775807) (hbs : ∀ j, j < m → bs j ≤ 9223372036854775807) :
    Calls Try.prog 7 #[.slice a n c, .slice b m d] w fun e w' => e = .returned (.bool true) ∧ Fr [] w w' := by
  have HV := Lib.hid hv; clear hv
  have HU := Lib.hid hu; clear hu
  have HAS := Lib.hid has; clear has
  have HBS := Lib.hid (show ∀ j, j < m → rev bs m j ≤ 9223372036854775807 from fun j hj => hbs _ (by omega)); clear hbs
  go_enter Try.func7, Try.ntmps7
  go_wp2_with fail
  refine (added_any _).mono ?_
  rintro e w0 ⟨rfl, hf0⟩
  have HF0 := Lib.hid hf0; clear hf0
  by_cases hn : 100 < n
  · go_wp2
    go_ret
    exact ⟨rfl, HF0.out⟩
  by_cases hm : 100 < m
  · go_wp2
    go_ret
    exact ⟨rfl, HF0.out⟩
  have d1 : decide (100 < n) = false := by simp; omega
  have d2 : decide (100 < m) = false := by simp; omega
  have d3 : decide (100 < (n : Int)) = false := by simp; omega
  have d4 : decide (100 < (m : Int)) = false := by simp; omega
  go_wp2
  clear d1 d2 d3 d4
  go_loopw [6, 8, 9] (fun x z i wr => ∃ (k : Nat), k ≤ n ∧ i = .int .i64 k ∧ TalN wr x (cnf xs k) ∧ TalN wr z (cnf xs k) ∧ Hid (∀ j, j < k → 0 ≤ xs j ∧ xs j ≤ 9223372036854775807) ∧ Fr [] w wr) (fun _ _ i _ => n - (intOf i).toNat)
  case atStart => exact ⟨0, by omega, rfl, TalN.nil _ _ (fun _ => rfl), TalN.nil _ _ (fun _ => rfl), Lib.hid (fun j hj => by omega), HF0.out⟩
  case round =>
    obtain ⟨k, hk, rfl, hX, hZ, HNN, hf⟩ := hrel
    have HX := Lib.hid hX; clear hX
    have HZ := Lib.hid hZ; clear hZ
    have HF := Lib.hid hf; clear hf
    have HCB := Lib.hid (show ∀ j, 0 ≤ cnf xs k j ∧ cnf xs k j ≤ 1000000 from fun j => by have := cnf_bd xs k j; omega)
    by_cases hlt : k < n
    · obtain ⟨b1, o1, c1, he1, _, _, _, hc1⟩ := HV.out.shape (by omega)
      simp only [Value.slice.injEq, true_and] at he1
      obtain ⟨rfl, rfl⟩ := he1
      have K1 := Lib.hid (hc1 k hlt)
      have k1 := HF.out.cell K1.out (by simp)
      clear hc1
      have k0 : (0 : Int) ≤ (k : Int) := by omega
      have k3 : (k : Int) < (n : Int) := by omega
      by_cases hx : 0 ≤ xs k
      · have HX0 := Lib.hid hx; clear hx
        go_wp2_with fail
        refine (talN_add _ _ _ HX.out HCB.out (xs k) HX0.out (HAS.out k hlt)).mono ?_
        rintro e w2 ⟨a2, n2, c2, rfl, hX2, hf2⟩
        have HX2 := Lib.hid (show TalN w2 _ (cnf xs (k + 1)) from hX2); clear hX2
        have HZ2 := Lib.hid (HZ.out.fr hf2)
        have k2 := hf2.cell k1 (by simp)
        have HF2 := Lib.hid (HF.out.trans hf2 (by simp)); clear hf2
        clear k1
        go_wp2_with fail
        refine (talN_add _ _ _ HZ2.out HCB.out (xs k) HX0.out (HAS.out k hlt)).mono ?_
        rintro e w3 ⟨a3, n3, c3, rfl, hZ3, hf3⟩
        have HZ3 := Lib.hid (show TalN w3 _ (cnf xs (k + 1)) from hZ3); clear hZ3
        have HX3 := Lib.hid (HX2.out.fr hf3)
        have HF3 := Lib.hid (HF2.out.trans hf3 (by simp)); clear hf3
        clear k2
        go_wp2
        go_roundw
        case rel => exact ⟨k + 1, by omega, by go_num, HX3.out, HZ3.out, Lib.hid (fun j hj => by
          by_cases h : j < k
          · exact HNN.out j h
          · obtain rfl : j = k := by omega
            exact ⟨HX0.out, HAS.out j hlt⟩), HF3.out⟩
        case measure => simp [intOf]; omega
      · have hneg : xs k < 0 := by omega
        have HNG := Lib.hid hneg
        clear hx
        go_wp2_with fail
        refine (talN_add_neg _ _ _ HX.out HCB.out (xs k) HNG.out).mono ?_
        rintro e w2 ⟨rfl, hf2⟩
        have k2 := hf2.cell k1 (by simp)
        have HZ2 := Lib.hid (HZ.out.fr hf2)
        have HF2 := Lib.hid (HF.out.trans hf2 (by simp)); clear hf2
        clear k1
        go_wp2_with fail
        refine (talN_add_neg _ _ _ HZ2.out HCB.out (xs k) HNG.out).mono ?_
        rintro e w3 ⟨rfl, hf3⟩
        have k3 := hf3.cell k2 (by simp)
        have HF3 := Lib.hid (HF2.out.trans hf3 (by simp)); clear hf3
        clear k2
        go_wp2
        go_ret
        exact ⟨by simp, HF3.out⟩
    · obtain rfl : k = n := by omega
      have hsa := isum_cnf_all xs k (fun j hj => plc_lt _ (HNN.out j hj).1 (HNN.out j hj).2)
      have HSA := Lib.hid hsa; clear hsa
      have HFAR := Lib.hid (fun i hi => cnf_far' xs k HNN.out i hi)
      have HCA := Lib.hid (show ∀ j, 0 ≤ cnf xs k j ∧ cnf xs k j ≤ 1000 from fun j => by have := cnf_bd xs k j; omega)
      generalize cnf xs k = A at *
      clear hlt
      go_wp2
      go_loopw [7, 8, 14] (fun y z i wr => ∃ (t : Nat), t ≤ m ∧ i = .int .i64 ((m : Int) - 1 - t) ∧ TalN wr y (cnf (rev bs m) t) ∧ TalN wr z (fun i => A i + cnf (rev bs m) t i) ∧ TalN wr u6 A ∧ Hid (∀ j, j < t → 0 ≤ rev bs m j ∧ rev bs m j ≤ 9223372036854775807) ∧ Fr [] w wr) (fun _ _ i _ => (intOf i + 1).toNat)
      case atStart =>
        have e0 : (fun i => A i + cnf (rev bs m) 0 i) = A := by funext i; show A i + 0 = A i; omega
        exact ⟨0, by omega, by go_num, TalN.nil _ _ (fun _ => rfl), by rw [e0]; exact HZ.out, HX.out, Lib.hid (fun j hj => by omega), HF.out⟩
      case round =>
        obtain ⟨t, ht, rfl, hY, hZ, hX, HNT, hf⟩ := hrel
        clear HZ HX HF
        have HY := Lib.hid hY; clear hY
        have HZ := Lib.hid hZ; clear hZ
        have HX := Lib.hid hX; clear hX
        have HF := Lib.hid hf; clear hf
        have HCB2 := Lib.hid (show ∀ j, 0 ≤ cnf (rev bs m) t j ∧ cnf (rev bs m) t j ≤ 1000000 from fun j => by have := cnf_bd (rev bs m) t j; omega)
        have HCB3 := Lib.hid (show ∀ j, 0 ≤ A j + cnf (rev bs m) t j ∧ A j + cnf (rev bs m) t j ≤ 1000000 from fun j => by have := cnf_bd (rev bs m) t j; have := HCA.out j; omega)
        by_cases hlt : t < m
        · obtain ⟨b1, o1, c1, he1, _, _, _, hc1⟩ := HU.out.shape (by omega)
          simp only [Value.slice.injEq, true_and] at he1
          obtain ⟨rfl, rfl⟩ := he1
          obtain ⟨q, hq⟩ : ∃ q : Nat, q = m - 1 - t := ⟨_, rfl⟩
          have hqm : q < m := by omega
          have hqi : (m : Int) - 1 - (t : Int) = (q : Int) := by omega
          obtain ⟨x, hxr⟩ : ∃ x, x = rev bs m t := ⟨_, rfl⟩
          have hxb : bs q = x := by rw [hxr, hq]; rfl
          have K1 := Lib.hid (hc1 q hqm)
          have k1 := HF.out.cell K1.out (by simp)
          rw [hxb] at k1
          rw [hqi]
          have HXR := Lib.hid hxr
          have HQ := Lib.hid hq
          clear hc1 hq hqi hxr hxb
          have k0 : (0 : Int) ≤ (q : Int) := by omega
          have k3 : (q : Int) < (m : Int) := by omega
          have hxm : x ≤ 9223372036854775807 := by rw [HXR.out]; exact HBS.out t hlt
          by_cases hx : 0 ≤ x
          · have HX0 := Lib.hid hx; clear hx
            go_wp2_with fail
            refine (talN_add _ _ _ HY.out HCB2.out x HX0.out hxm).mono ?_
            rintro e w2 ⟨a2, n2, c2, rfl, hY2, hf2⟩
            have HY2 := Lib.hid (show TalN w2 _ (cnf (rev bs m) (t + 1)) from by rw [HXR.out] at hY2; exact hY2); clear hY2
            have HZ2 := Lib.hid (HZ.out.fr hf2)
            have HX2 := Lib.hid (HX.out.fr hf2)
            have k2 := hf2.cell k1 (by simp)
            have HF2 := Lib.hid (HF.out.trans hf2 (by simp)); clear hf2
            clear k1
            go_wp2_with fail
            refine (talN_add _ _ _ HZ2.out HCB3.out x HX0.out hxm).mono ?_
            rintro e w3 ⟨a3, n3, c3, rfl, hZ3, hf3⟩
            have HZ3 := Lib.hid (show TalN w3 _ (fun i => A i + cnf (rev bs m) (t + 1) i) from by
              have e : (fun i => A i + cnf (rev bs m) (t + 1) i) = fun i => A i + cnf (rev bs m) t i + if i = plc x then 1 else 0 := by
                funext i
                rw [HXR.out]
                show A i + (cnf (rev bs m) t i + if i = plc (rev bs m t) then 1 else 0) = _
                omega
              rw [e]; exact hZ3); clear hZ3
            have HY3 := Lib.hid (HY2.out.fr hf3)
            have HX3 := Lib.hid (HX2.out.fr hf3)
            have HF3 := Lib.hid (HF2.out.trans hf3 (by simp)); clear hf3
            clear k2
            go_wp2
            go_roundw
            case rel => exact ⟨t + 1, by omega, by congr 1; have := HQ.out; omega, HY3.out, HZ3.out, HX3.out, Lib.hid (fun j hj => by
              by_cases h : j < t
              · exact HNT.out j h
              · obtain rfl : j = t := by omega
                exact ⟨by rw [← HXR.out]; exact HX0.out, HBS.out j hlt⟩), HF3.out⟩
            case measure => simp [intOf]
          · have hneg : x < 0 := by omega
            have HNG := Lib.hid hneg
            clear hx
            go_wp2_with fail
            refine (talN_add_neg _ _ _ HY.out HCB2.out x HNG.out).mono ?_
            rintro e w2 ⟨rfl, hf2⟩
            have k2 := hf2.cell k1 (by simp)
            have HZ2 := Lib.hid (HZ.out.fr hf2)
            have HF2 := Lib.hid (HF.out.trans hf2 (by simp)); clear hf2
            clear k1
            go_wp2_with fail
            refine (talN_add_neg _ _ _ HZ2.out HCB3.out x HNG.out).mono ?_
            rintro e w3 ⟨rfl, hf3⟩
            have k3 := hf3.cell k2 (by simp)
            have HF3 := Lib.hid (HF2.out.trans hf3 (by simp)); clear hf3
            clear k2
            go_wp2
            go_ret
            exact ⟨by simp, HF3.out⟩
        · obtain rfl : t = m := by omega
          have hm1 : (t : Int) - 1 - (t : Int) = -1 := by omega
          rw [hm1]
          clear hm1
          have hsb := isum_cnf_all (rev bs t) t (fun j hj => plc_lt _ (HNT.out j hj).1 (HNT.out j hj).2)
          have hsum : isum (fun i => A i + cnf (rev bs t) t i) 64 = (k : Int) + (t : Int) := by rw [isum_add, HSA.out, hsb]
          have HSUM := Lib.hid hsum; clear hsum hsb
          generalize cnf (rev bs t) t = B at *
          have hcomm : (fun i => B i + A i) = fun i => A i + B i := by funext i; omega
          have HCOMM := Lib.hid hcomm; clear hcomm
          have HCB1 := Lib.hid (show ∀ j, 0 ≤ A j ∧ A j ≤ 1000000 from fun j => by have := HCA.out j; omega)
          obtain ⟨za, zc, hz⟩ := HZ.out.1.slice
          subst hz
          go_wp2_with fail
          refine (talN_join _ _ _ A B HX.out HY.out HCB1.out HCB2.out).mono ?_
          rintro e w2 ⟨ja, jn, jc, rfl, hJ, hf2⟩
          obtain rfl := hJ.1.len
          have HJ := Lib.hid hJ; clear hJ
          have HX2 := Lib.hid (HX.out.fr hf2)
          have HY2 := Lib.hid (HY.out.fr hf2)
          have HZ2 := Lib.hid (HZ.out.fr hf2)
          have HF2 := Lib.hid (HF.out.trans hf2 (by simp)); clear hf2
          go_wp2_with fail
          refine (talN_join _ _ _ B A HY2.out HX2.out HCB2.out HCB1.out).mono ?_
          rintro e w3 ⟨ka, kn, kc, rfl, hK, hf3⟩
          rw [HCOMM.out] at hK
          obtain rfl := hK.1.len
          have HK := Lib.hid hK; clear hK
          have HJ3 := Lib.hid (HJ.out.fr hf3)
          have HZ3 := Lib.hid (HZ2.out.fr hf3)
          have HF3 := Lib.hid (HF2.out.trans hf3 (by simp)); clear hf3
          go_wp2_with fail
          refine (talN_count _ _ _ HZ3.out HCB3.out).mono ?_
          rintro e w4 ⟨rfl, hf4⟩
          rw [HSUM.out]
          have HJ4 := Lib.hid (HJ3.out.fr hf4)
          have HK4 := Lib.hid (HK.out.fr hf4)
          have HZ4 := Lib.hid (HZ3.out.fr hf4)
          have HF4 := Lib.hid (HF3.out.trans hf4 (by simp)); clear hf4
          have hN : trm (fun i => A i + B i) 64 ≤ 64 := trm_le _ _
          go_wp2_with fail
          refine (ints_any _ _ _ _ _ _ _ _ _ HJ4.out.1 HZ4.out.1 (by omega) (by omega)).mono ?_
          rintro e w5 ⟨rfl, q5, rfl⟩
          have he5 : (decide (trm (fun i => A i + B i) 64 = trm (fun i => A i + B i) 64) && eqUpTo (fun i => A i + B i) (fun i => A i + B i) (trm (fun i => A i + B i) 64)) = true := by
            simp [(eqUpTo_iff _ _ _).2]
          rw [he5]
          clear he5
          go_wp2_with fail
          refine (ints_any _ _ _ _ _ _ _ _ _ (HK4.out.fr ((Fr.refl [] _).drewN q5)).1 (HZ4.out.fr ((Fr.refl [] _).drewN q5)).1 (by omega) (by omega)).mono ?_
          rintro e w6 ⟨rfl, q6, rfl⟩
          have he5 : (decide (trm (fun i => A i + B i) 64 = trm (fun i => A i + B i) 64) && eqUpTo (fun i => A i + B i) (fun i => A i + B i) (trm (fun i => A i + B i) 64)) = true := by
            simp [(eqUpTo_iff _ _ _).2]
          rw [he5]
          clear he5
          go_wp2
          go_ret
          exact ⟨by simp, HF4.out.drewN _⟩

end Go.Proofs.Ytgpfkaiinbncnaa
