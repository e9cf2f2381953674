/- The reference's NameFault, Labels and Below. -/
import Derived.Test.YtgpfkaiinbncnaaDoorName
import Derived.Test.YtgpfkaiinbncnaaDoorNameCheck
namespace Go.Proofs.YtgpfkaiinbncnaaDoor
open Go.RowKit

/-- how long a name is, so far, as the reference counts -/
def rsz (s : Nat → ByteArray) : Nat → Int
  | 0 => 1
  | k + 1 => if rsz s k ≤ 255 then rsz s k + ((s k).size + 1) else rsz s k

theorem rsz_bd (s : Nat → ByteArray) (k : Nat) (h : lbad s k = false) : 1 ≤ rsz s k ∧ rsz s k ≤ 319 ∧ (255 < rsz s k ↔ 255 < nsz s k) ∧ (rsz s k ≤ 255 → rsz s k = nsz s k) := by
  induction k with
  | zero => simp [rsz, nsz]
  | succ k ih =>
    simp only [lbad, Bool.or_eq_false_iff, decide_eq_false_iff_not] at h
    obtain ⟨i1, i2, i3, i4⟩ := ih h.1
    have := h.2
    have hb := nsz_bd s k
    simp only [rsz, nsz]
    by_cases h1 : rsz s k ≤ 255
    · rw [if_pos h1]
      have := i4 h1
      refine ⟨by omega, by omega, by omega, by omega⟩
    · rw [if_neg h1]
      have : 255 < nsz s k := i3.1 (by omega)
      refine ⟨by omega, by omega, by omega, by omega⟩

set_option maxHeartbeats 2000000 in
set_option maxRecDepth 100000 in
theorem nameFault_any (w : World) (a : Option Addr) (n c : Nat) (s : Nat → ByteArray) (hs : RdF w (.slice a n c) n (fun j => .string (s j))) (hss : ∀ j, j < n → (s j).size ≤ 140737488355328) :
    Calls Tryd.prog 87 #[.slice a n c] w fun e w' => e = .returned (.int .i64 (nmFault n s)) ∧ w = w' := by
  have hcb := hs.le_cap
  unfold maxLen at hcb
  have HS := Lib.hid hs; clear hs
  have HSS := Lib.hid hss; clear hss
  go_enter Tryd.func87, Tryd.ntmps87
  go_wp2
  go_loop [3, 4] (fun vz vi => ∃ k : Nat, k ≤ n ∧ vi = .int .i64 k ∧ vz = .int .i64 (rsz s k) ∧ lbad s k = false) (fun _ vi => n - (intOf vi).toNat)
  case atStart => exact ⟨0, by omega, rfl, rfl, rfl⟩
  case round =>
    obtain ⟨k, hk, rfl, rfl, hbad⟩ := hrel
    have HBAD := Lib.hid hbad; clear hbad
    obtain ⟨z1, z2, z3, z4⟩ := rsz_bd s k HBAD.out
    have HZ3 := Lib.hid z3
    clear z3 z4
    by_cases hlt : k < n
    · obtain ⟨b1, o1, c1, he1, _, _, _, hc1⟩ := HS.out.shape (by omega)
      simp only [Value.slice.injEq, true_and] at he1
      obtain ⟨rfl, rfl⟩ := he1
      have c0 := hc1 k hlt
      clear hc1
      have k0 : (0 : Int) ≤ (k : Int) := by omega
      have k1 : (k : Int) < (n : Int) := by omega
      have hl := HSS.out k hlt
      have HT := Lib.hid (fun h => lbad_true (s := s) (k := k) (n := n) hlt h)
      have HNS := Lib.hid (show rsz s (k + 1) = if rsz s k ≤ 255 then rsz s k + ((s k).size + 1) else rsz s k from rfl)
      have HLB := Lib.hid (show lbad s (k + 1) = (lbad s k || (decide ((s k).size < 1) || decide (63 < (s k).size))) from rfl)
      generalize rsz s k = z at *
      generalize s k = sk at *
      by_cases h1 : sk.size = 0
      · have HE := Lib.hid (show nmFault n s = 3 by unfold nmFault; rw [if_pos (HT.out (.inl (by omega)))])
        clear hl
        go_wp2
        go_ret
        exact ⟨by rw [HE.out]; rfl, rfl⟩
      · have hd0 : ((sk.size : Int) == 0) = false := beq_eq_false_iff_ne.2 (by omega)
        by_cases h2 : 63 < sk.size
        · have HE := Lib.hid (show nmFault n s = 3 by unfold nmFault; rw [if_pos (HT.out (.inr h2))])
          go_wp2
          go_ret
          exact ⟨by rw [HE.out]; rfl, rfl⟩
        · have hd1 : (sk.size : Int) ≤ 63 := by omega
          have hd2 : decide (63 < (sk.size : Int)) = false := by simp; omega
          have HB2 := Lib.hid (show lbad s (k + 1) = false by rw [HLB.out, HBAD.out, decide_eq_false (by omega), decide_eq_false h2]; rfl)
          by_cases h3 : z ≤ 255
          · have HN2 := Lib.hid (show rsz s (k + 1) = z + ((sk.size : Int) + 1) by rw [HNS.out, if_pos h3])
            go_wp2
            go_round
            case rel => exact ⟨k + 1, by omega, by go_num, by rw [HN2.out], HB2.out⟩
            case measure => simp [intOf]; omega
          · have HN2 := Lib.hid (show rsz s (k + 1) = z by rw [HNS.out, if_neg h3])
            go_wp2
            go_round
            case rel => exact ⟨k + 1, by omega, by go_num, by rw [HN2.out], HB2.out⟩
            case measure => simp [intOf]; omega
    · obtain rfl : k = n := by omega
      by_cases h255 : 255 < rsz s k
      · have HE := Lib.hid (show nmFault k s = 5 by unfold nmFault; rw [if_neg (by rw [HBAD.out]; decide), if_pos (HZ3.out.1 h255)])
        clear HZ3
        generalize rsz s k = z at *
        go_wp2
        go_ret
        exact ⟨by rw [HE.out]; rfl, rfl⟩
      · have HE := Lib.hid (show nmFault k s = 0 by unfold nmFault; rw [if_neg (by rw [HBAD.out]; decide), if_neg (fun h => h255 (HZ3.out.2 h))])
        clear HZ3
        generalize rsz s k = z at *
        go_wp2
        go_ret
        exact ⟨by rw [HE.out]; rfl, rfl⟩

theorem smallRef_any (w : World) (x : Int) (h0 : 0 ≤ x) (h1 : x ≤ 255) :
    Calls Tryd.prog 108 #[.int .u8 x] w fun e w' => e = .returned (.int .u8 (lowI x)) ∧ w' = w := by
  go_enter Tryd.func108, Tryd.ntmps108
  by_cases ha : 65 ≤ x
  · by_cases hb : x ≤ 90
    · have e : lowI x = x + 32 := by unfold lowI; rw [if_pos ⟨ha, hb⟩]
      have HE := Lib.hid e; clear e
      have hw : IntKind.u8.wrap (x + 32) = x + 32 := IntWalk.u8_in _ (by omega)
      go_wp2
      go_ret
      exact ⟨by rw [HE.out]; rfl, rfl⟩
    · have e : lowI x = x := by unfold lowI; rw [if_neg (by omega)]
      have HE := Lib.hid e; clear e
      go_wp2
      go_ret
      exact ⟨by rw [HE.out]; rfl, rfl⟩
  · have e : lowI x = x := by unfold lowI; rw [if_neg (by omega)]
    have HE := Lib.hid e; clear e
    go_wp2
    go_ret
    exact ⟨by rw [HE.out]; rfl, rfl⟩

/-- a label's byte, small -/
def lwAt (s : ByteArray) (j : Nat) : Int := lowI (byteAt s j)

theorem lw_nth (s : ByteArray) (j : Nat) (h : j < s.size) : ((s.data.toList.map lowB).getD j 0).toNat = (lwAt s j) := by
  have h' : j < s.data.toList.length := by simpa using h
  unfold lwAt byteAt
  simp [List.getD_eq_getElem?_getD, List.getElem?_map, List.getElem?_eq_getElem h', lowB_int]

theorem alk_iff (s t : ByteArray) : alk s t = true ↔ s.size = t.size ∧ ∀ j, j < s.size → lwAt s j = lwAt t j := by
  unfold alk
  rw [beq_iff_eq, ByteArray.toList_eq, ByteArray.toList_eq]
  show s.data.toList.map lowB = t.data.toList.map lowB ↔ _
  constructor
  · intro h
    have hl : s.size = t.size := by have := congrArg List.length h; simpa using this
    refine ⟨hl, fun j hj => ?_⟩
    rw [← lw_nth s j hj, ← lw_nth t j (by omega), h]
  · rintro ⟨hl, he⟩
    apply List.ext_getElem
    · simpa using hl
    · intro j h1 h2
      have hj : j < s.size := by simpa using h1
      have e := he j hj
      rw [← lw_nth s j hj, ← lw_nth t j (by omega)] at e
      simp only [List.getD_eq_getElem?_getD, List.getElem?_eq_getElem h1, List.getElem?_eq_getElem h2, Option.getD_some] at e
      exact UInt8.toNat_inj.1 (by omega)

def LbPost (w : World) (s t : ByteArray) : Ending → World → Prop := fun e w' => ∃ x : Int, e = .returned (.int .i64 x) ∧ (x = 0 ↔ alk s t = true) ∧ Fr [] w w'

theorem byteAt_get (s : ByteArray) (k : Nat) (h : k < s.size) : ((s[k]'h).toNat : Int) = byteAt s k := by
  have h' : k < s.data.toList.length := by simpa using h
  unfold byteAt
  simp only [List.getD_eq_getElem?_getD, List.getElem?_eq_getElem h', Option.getD_some]
  rfl

theorem byteAt_bd (s : ByteArray) (j : Nat) : 0 ≤ byteAt s j ∧ byteAt s j ≤ 255 := by
  unfold byteAt
  have := (s.data.toList.getD j 0).toNat_lt
  omega

theorem numbers_any (w : World) (n m : Nat) (s t : ByteArray) (hs : s.size = n) (ht : t.size = m) (he : ∀ j, j < n → j < m → lwAt s j = lwAt t j) : Calls Tryd.prog 109 #[.int .i64 n, .int .i64 m] w (LbPost w s t) := by
  go_enter Tryd.func109, Tryd.ntmps109
  have HNE := Lib.hid (fun (h : n ≠ m) => show alk s t ≠ true from fun ha => h (by have := ((alk_iff s t).1 ha).1; omega))
  have HEQ := Lib.hid (fun (h : n = m) => show alk s t = true from (alk_iff s t).2 ⟨by omega, fun j hj => he j (by omega) (by omega)⟩)
  clear he hs ht
  by_cases h1 : n < m
  · have HA := Lib.hid (HNE.out (by omega))
    go_wp2
    go_ret
    exact ⟨-1, rfl, ⟨fun h => absurd h (by decide), fun h => absurd h HA.out⟩, Fr.refl _ _⟩
  · by_cases h2 : m < n
    · have HA := Lib.hid (HNE.out (by omega))
      go_wp2
      go_ret
      exact ⟨1, rfl, ⟨fun h => absurd h (by decide), fun h => absurd h HA.out⟩, Fr.refl _ _⟩
    · have HA := Lib.hid (HEQ.out (by omega))
      go_wp2
      go_ret
      exact ⟨0, rfl, ⟨fun _ => HA.out, fun _ => rfl⟩, Fr.refl _ _⟩

set_option maxHeartbeats 4000000 in
set_option maxRecDepth 100000 in
theorem labels_any (w : World) (s t : ByteArray) (hs : s.size ≤ 140737488355328) (ht : t.size ≤ 140737488355328) : Calls Tryd.prog 91 #[.string s, .string t] w (LbPost w s t) := by
  go_enter Tryd.func91, Tryd.ntmps91
  go_wp2
  go_loopw [5] (fun vi wr => ∃ k : Nat, k ≤ s.size ∧ k ≤ t.size ∧ vi = .int .i64 k ∧ (∀ j, j < k → lwAt s j = lwAt t j) ∧ Fr [] w wr) (fun vi _ => s.size - (intOf vi).toNat)
  case atStart => exact ⟨0, by omega, by omega, rfl, fun j hj => absurd hj (Nat.not_lt_zero j), Fr.refl _ _⟩
  case round =>
    obtain ⟨k, hk1, hk2, rfl, hal, hf⟩ := hrel
    have HAL := Lib.hid hal; clear hal
    have HF := Lib.hid hf; clear hf
    by_cases hls : k < s.size
    · by_cases hlt : k < t.size
      · have k0 : (0 : Int) ≤ (k : Int) := by omega
        have k1 : (k : Int) < (s.size : Int) := by omega
        have k2 : (k : Int) < (t.size : Int) := by omega
        have HX := Lib.hid (byteAt_get s k hls)
        have HY := Lib.hid (byteAt_get t k hlt)
        have bx := byteAt_bd s k
        have by' := byteAt_bd t k
        have HW := Lib.hid (show lwAt s k = lowI (byteAt s k) from rfl)
        have HV := Lib.hid (show lwAt t k = lowI (byteAt t k) from rfl)
        rw [← HX.out] at bx HW
        rw [← HY.out] at by' HV
        have HNEQ := Lib.hid (fun (h : lwAt s k ≠ lwAt t k) => show alk s t ≠ true from fun ha => h (((alk_iff s t).1 ha).2 k hls))
        have HC1 := Lib.hid (fun (w : World) => smallRef_any w _ bx.1 bx.2)
        have HC2 := Lib.hid (fun (w : World) => smallRef_any w _ by'.1 by'.2)
        rw [← HW.out] at HC1
        rw [← HV.out] at HC2
        clear HW HV HX HY bx by'
        have HAL2 := Lib.hid (fun (h : lwAt s k = lwAt t k) j (hj : j < k + 1) => show lwAt s j = lwAt t j from by
          by_cases e : j = k
          · rw [e]; exact h
          · exact HAL.out j (by omega))
        generalize lwAt s k = X at *
        generalize lwAt t k = Y at *
        go_wp2_with fail
        by_cases h1 : X < Y
        · have HA := Lib.hid (HNEQ.out (by omega))
          have d1 : decide (X < Y) = true := by simpa using h1
          go_quiet (first | (go_at_call 108; with_reducible exact Calls.quiet_of_same (HC1.out _)) | (go_at_call 108; with_reducible exact Calls.quiet_of_same (HC2.out _)))
          go_wp2
          go_ret
          exact ⟨-1, rfl, ⟨fun h => absurd h (by decide), fun h => absurd h HA.out⟩, HF.out.drewN _⟩
        · have d1 : decide (X < Y) = false := by simpa using h1
          go_quiet (first | (go_at_call 108; with_reducible exact Calls.quiet_of_same (HC1.out _)) | (go_at_call 108; with_reducible exact Calls.quiet_of_same (HC2.out _)))
          have HF2 := Lib.hid (HF.out.drewN nq)
          generalize wr.drewN nq = w2 at *
          go_wp2_with fail
          by_cases h2 : Y < X
          · have HA := Lib.hid (HNEQ.out (by omega))
            have d2 : decide (Y < X) = true := by simpa using h2
            go_quiet (first | (go_at_call 108; with_reducible exact Calls.quiet_of_same (HC1.out _)) | (go_at_call 108; with_reducible exact Calls.quiet_of_same (HC2.out _)))
            go_wp2
            go_ret
            exact ⟨1, rfl, ⟨fun h => absurd h (by decide), fun h => absurd h HA.out⟩, HF2.out.drewN _⟩
          · have d2 : decide (Y < X) = false := by simpa using h2
            have HA := Lib.hid (HAL2.out (by omega))
            clear HAL2 HNEQ
            go_quiet (first | (go_at_call 108; with_reducible exact Calls.quiet_of_same (HC1.out _)) | (go_at_call 108; with_reducible exact Calls.quiet_of_same (HC2.out _)))
            have HF3 := Lib.hid (HF2.out.drewN nq)
            go_wp2
            go_roundw
            case rel => exact ⟨k + 1, by omega, by omega, by go_num, HA.out, HF3.out⟩
            case measure => simp [intOf]; omega
      · obtain rfl : k = t.size := by omega
        have hcn := Lib.hid (fun (w : World) => numbers_any w s.size t.size s t rfl rfl (fun j _ hj => HAL.out j hj))
        go_wp2_with (go_at_call 109; refine (hcn.out _).mono ?_; rintro e wx ⟨x, rfl, hx, hfx⟩; have HX := Lib.hid hx; clear hx)
        go_ret
        exact ⟨x, rfl, HX.out, HF.out.trans hfx (by simp)⟩
    · obtain rfl : k = s.size := by omega
      have hcn := Lib.hid (fun (w : World) => numbers_any w s.size t.size s t rfl rfl (fun j hj _ => HAL.out j hj))
      go_wp2_with (go_at_call 109; refine (hcn.out _).mono ?_; rintro e wx ⟨x, rfl, hx, hfx⟩; have HX := Lib.hid hx; clear hx)
      go_ret
      exact ⟨x, rfl, HX.out, HF.out.trans hfx (by simp)⟩

end Go.Proofs.YtgpfkaiinbncnaaDoor
