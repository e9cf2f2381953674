/- MatchFault of the reference (printed by wip/bin/matchfault.py). -/
import Derived.Test.YtgpfkaiinbncnaaDoorRefName
import Derived.Test.YtgpfkaiinbncnaaDoorNode1
namespace Go.Proofs.YtgpfkaiinbncnaaDoor
open Go.RowKit

set_option maxHeartbeats 4000000 in
set_option maxRecDepth 100000 in
theorem matchFault1 (w : World) (k : Int) (na : Option Addr) (nl nc : Nat) (nm : Nat → ByteArray) (aa : Option Addr) (al ac : Nat) (ad : Nat → Int) (hnl : nl ≤ nc ∧ nc ≤ 2 ^ 63 - 1) (hal : al ≤ ac ∧ ac ≤ 2 ^ 63 - 1)
    (HN : Hid (∀ w2, Fr [] w w2 → Calls Tryd.prog 87 #[.slice na nl nc] w2 fun e w' => e = .returned (.int .i64 (nmFault nl nm)) ∧ w2 = w')) :
    Calls Tryd.prog 73 #[.agg #[.int .i64 1, .int .i64 k, .slice na nl nc, .slice aa al ac]] w fun e w' => e = .returned (.int .i64 (n1Fault ⟨1, k, na, nl, nc, nm, aa, al, ac, ad⟩)) ∧ Fr [] w w' := by
  have HH := HN
  have hb1 := hnl.1
  have hb2 := hal.1
  go_enter Tryd.func73, Tryd.ntmps73
  by_cases hk : k = 0
  case neg =>
    have HV := Lib.hid (n1_extra (m := ⟨1, k, na, nl, nc, nm, aa, al, ac, ad⟩) (by simp [extra, hk]))
    go_wp2
    go_ret
    exact ⟨by rw [HV.out]; rfl, ((Fr.refl [] w).alloc _)⟩
  case pos =>
    subst hk
    by_cases hn : nl = 0
    case neg =>
      have HV := Lib.hid (n1_extra (m := ⟨1, 0, na, nl, nc, nm, aa, al, ac, ad⟩) (by simp [extra, hn]))
      go_wp2
      go_ret
      exact ⟨by rw [HV.out]; rfl, ((Fr.refl [] w).alloc _)⟩
    case pos =>
      subst hn
      by_cases ha : al = 0
      case neg =>
        have HV := Lib.hid (n1_extra (m := ⟨1, 0, na, 0, nc, nm, aa, al, ac, ad⟩) (by simp [extra, ha]))
        go_wp2
        go_ret
        exact ⟨by rw [HV.out]; rfl, ((Fr.refl [] w).alloc _)⟩
      case pos =>
        subst ha
        have HV := Lib.hid (n1_in (m := ⟨1, 0, na, 0, nc, nm, aa, 0, ac, ad⟩) (by simp) (by simp [extra]))
        have HX := Lib.hid (HV.out.trans (show wiFault ⟨1, 0, na, 0, nc, nm, aa, 0, ac, ad⟩ = if (0 : Int) < 0 ∨ 0 < (0 : Int) then 6 else 0 from rfl))
        have HE := Lib.hid (HX.out.trans (if_neg (by omega)))
        go_wp2
        go_ret
        exact ⟨by rw [HE.out]; rfl, ((Fr.refl [] w).alloc _)⟩

set_option maxHeartbeats 4000000 in
set_option maxRecDepth 100000 in
theorem matchFault2 (w : World) (k : Int) (na : Option Addr) (nl nc : Nat) (nm : Nat → ByteArray) (aa : Option Addr) (al ac : Nat) (ad : Nat → Int) (hnl : nl ≤ nc ∧ nc ≤ 2 ^ 63 - 1) (hal : al ≤ ac ∧ ac ≤ 2 ^ 63 - 1)
    (HN : Hid (∀ w2, Fr [] w w2 → Calls Tryd.prog 87 #[.slice na nl nc] w2 fun e w' => e = .returned (.int .i64 (nmFault nl nm)) ∧ w2 = w')) :
    Calls Tryd.prog 73 #[.agg #[.int .i64 2, .int .i64 k, .slice na nl nc, .slice aa al ac]] w fun e w' => e = .returned (.int .i64 (n1Fault ⟨2, k, na, nl, nc, nm, aa, al, ac, ad⟩)) ∧ Fr [] w w' := by
  have HH := HN
  have hb1 := hnl.1
  have hb2 := hal.1
  go_enter Tryd.func73, Tryd.ntmps73
  by_cases hk : k = 0
  case neg =>
    have HV := Lib.hid (n1_extra (m := ⟨2, k, na, nl, nc, nm, aa, al, ac, ad⟩) (by simp [extra, hk]))
    go_wp2
    go_ret
    exact ⟨by rw [HV.out]; rfl, ((Fr.refl [] w).alloc _)⟩
  case pos =>
    subst hk
    by_cases ha : al = 0
    case neg =>
      have HV := Lib.hid (n1_extra (m := ⟨2, 0, na, nl, nc, nm, aa, al, ac, ad⟩) (by simp [extra, ha]))
      go_wp2
      go_ret
      exact ⟨by rw [HV.out]; rfl, ((Fr.refl [] w).alloc _)⟩
    case pos =>
      subst ha
      have HV := Lib.hid (n1_in (m := ⟨2, 0, na, nl, nc, nm, aa, 0, ac, ad⟩) (by simp) (by simp [extra]))
      have HW2 := Lib.hid (HV.out.trans (show wiFault ⟨2, 0, na, nl, nc, nm, aa, 0, ac, ad⟩ = nmFault nl nm from rfl))
      go_wp2_with (go_at_call 87; refine (HN.out _ ((Fr.refl [] w).alloc _)).mono ?_; rintro e wx ⟨rfl, rfl⟩)
      go_ret
      exact ⟨by rw [HW2.out]; rfl, ((Fr.refl [] w).alloc _)⟩

set_option maxHeartbeats 4000000 in
set_option maxRecDepth 100000 in
theorem matchFault3 (w : World) (k : Int) (na : Option Addr) (nl nc : Nat) (nm : Nat → ByteArray) (aa : Option Addr) (al ac : Nat) (ad : Nat → Int) (hnl : nl ≤ nc ∧ nc ≤ 2 ^ 63 - 1) (hal : al ≤ ac ∧ ac ≤ 2 ^ 63 - 1)
    (HN : Hid (∀ w2, Fr [] w w2 → Calls Tryd.prog 87 #[.slice na nl nc] w2 fun e w' => e = .returned (.int .i64 (nmFault nl nm)) ∧ w2 = w')) :
    Calls Tryd.prog 73 #[.agg #[.int .i64 3, .int .i64 k, .slice na nl nc, .slice aa al ac]] w fun e w' => e = .returned (.int .i64 (n1Fault ⟨3, k, na, nl, nc, nm, aa, al, ac, ad⟩)) ∧ Fr [] w w' := by
  have HH := HN
  have hb1 := hnl.1
  have hb2 := hal.1
  go_enter Tryd.func73, Tryd.ntmps73
  by_cases hn : nl = 0
  case neg =>
    have HV := Lib.hid (n1_extra (m := ⟨3, k, na, nl, nc, nm, aa, al, ac, ad⟩) (by simp [extra, hn]))
    go_wp2
    go_ret
    exact ⟨by rw [HV.out]; rfl, ((Fr.refl [] w).alloc _)⟩
  case pos =>
    subst hn
    by_cases ha : al = 0
    case neg =>
      have HV := Lib.hid (n1_extra (m := ⟨3, k, na, 0, nc, nm, aa, al, ac, ad⟩) (by simp [extra, ha]))
      go_wp2
      go_ret
      exact ⟨by rw [HV.out]; rfl, ((Fr.refl [] w).alloc _)⟩
    case pos =>
      subst ha
      have HV := Lib.hid (n1_in (m := ⟨3, k, na, 0, nc, nm, aa, 0, ac, ad⟩) (by simp) (by simp [extra]))
      have HX := Lib.hid (HV.out.trans (show wiFault ⟨3, k, na, 0, nc, nm, aa, 0, ac, ad⟩ = if (k : Int) < 0 ∨ 65535 < (k : Int) then 6 else 0 from rfl))
      by_cases hk0 : k < 0
      · have HE := Lib.hid (HX.out.trans (if_pos (.inl hk0)))
        go_wp2
        go_ret
        exact ⟨by rw [HE.out]; rfl, ((Fr.refl [] w).alloc _)⟩
      by_cases hk1 : 65535 < k
      · have HE := Lib.hid (HX.out.trans (if_pos (.inr hk1)))
        go_wp2
        go_ret
        exact ⟨by rw [HE.out]; rfl, ((Fr.refl [] w).alloc _)⟩
      have HE := Lib.hid (HX.out.trans (if_neg (by omega)))
      go_wp2
      go_ret
      exact ⟨by rw [HE.out]; rfl, ((Fr.refl [] w).alloc _)⟩

set_option maxHeartbeats 4000000 in
set_option maxRecDepth 100000 in
theorem matchFault4 (w : World) (k : Int) (na : Option Addr) (nl nc : Nat) (nm : Nat → ByteArray) (aa : Option Addr) (al ac : Nat) (ad : Nat → Int) (hnl : nl ≤ nc ∧ nc ≤ 2 ^ 63 - 1) (hal : al ≤ ac ∧ ac ≤ 2 ^ 63 - 1)
    (HN : Hid (∀ w2, Fr [] w w2 → Calls Tryd.prog 87 #[.slice na nl nc] w2 fun e w' => e = .returned (.int .i64 (nmFault nl nm)) ∧ w2 = w')) :
    Calls Tryd.prog 73 #[.agg #[.int .i64 4, .int .i64 k, .slice na nl nc, .slice aa al ac]] w fun e w' => e = .returned (.int .i64 (n1Fault ⟨4, k, na, nl, nc, nm, aa, al, ac, ad⟩)) ∧ Fr [] w w' := by
  have HH := HN
  have hb1 := hnl.1
  have hb2 := hal.1
  go_enter Tryd.func73, Tryd.ntmps73
  by_cases hn : nl = 0
  case neg =>
    have HV := Lib.hid (n1_extra (m := ⟨4, k, na, nl, nc, nm, aa, al, ac, ad⟩) (by simp [extra, hn]))
    go_wp2
    go_ret
    exact ⟨by rw [HV.out]; rfl, ((Fr.refl [] w).alloc _)⟩
  case pos =>
    subst hn
    by_cases ha : al = 0
    case neg =>
      have HV := Lib.hid (n1_extra (m := ⟨4, k, na, 0, nc, nm, aa, al, ac, ad⟩) (by simp [extra, ha]))
      go_wp2
      go_ret
      exact ⟨by rw [HV.out]; rfl, ((Fr.refl [] w).alloc _)⟩
    case pos =>
      subst ha
      have HV := Lib.hid (n1_in (m := ⟨4, k, na, 0, nc, nm, aa, 0, ac, ad⟩) (by simp) (by simp [extra]))
      have HX := Lib.hid (HV.out.trans (show wiFault ⟨4, k, na, 0, nc, nm, aa, 0, ac, ad⟩ = if (k : Int) < 0 ∨ 65535 < (k : Int) then 6 else 0 from rfl))
      by_cases hk0 : k < 0
      · have HE := Lib.hid (HX.out.trans (if_pos (.inl hk0)))
        go_wp2
        go_ret
        exact ⟨by rw [HE.out]; rfl, ((Fr.refl [] w).alloc _)⟩
      by_cases hk1 : 65535 < k
      · have HE := Lib.hid (HX.out.trans (if_pos (.inr hk1)))
        go_wp2
        go_ret
        exact ⟨by rw [HE.out]; rfl, ((Fr.refl [] w).alloc _)⟩
      have HE := Lib.hid (HX.out.trans (if_neg (by omega)))
      go_wp2
      go_ret
      exact ⟨by rw [HE.out]; rfl, ((Fr.refl [] w).alloc _)⟩

set_option maxHeartbeats 4000000 in
set_option maxRecDepth 100000 in
theorem matchFault5 (w : World) (k : Int) (na : Option Addr) (nl nc : Nat) (nm : Nat → ByteArray) (aa : Option Addr) (al ac : Nat) (ad : Nat → Int) (hnl : nl ≤ nc ∧ nc ≤ 2 ^ 63 - 1) (hal : al ≤ ac ∧ ac ≤ 2 ^ 63 - 1)
    (HN : Hid (∀ w2, Fr [] w w2 → Calls Tryd.prog 87 #[.slice na nl nc] w2 fun e w' => e = .returned (.int .i64 (nmFault nl nm)) ∧ w2 = w')) :
    Calls Tryd.prog 73 #[.agg #[.int .i64 5, .int .i64 k, .slice na nl nc, .slice aa al ac]] w fun e w' => e = .returned (.int .i64 (n1Fault ⟨5, k, na, nl, nc, nm, aa, al, ac, ad⟩)) ∧ Fr [] w w' := by
  have HH := HN
  have hb1 := hnl.1
  have hb2 := hal.1
  go_enter Tryd.func73, Tryd.ntmps73
  by_cases hn : nl = 0
  case neg =>
    have HV := Lib.hid (n1_extra (m := ⟨5, k, na, nl, nc, nm, aa, al, ac, ad⟩) (by simp [extra, hn]))
    go_wp2
    go_ret
    exact ⟨by rw [HV.out]; rfl, ((Fr.refl [] w).alloc _)⟩
  case pos =>
    subst hn
    by_cases ha : al = 0
    case neg =>
      have HV := Lib.hid (n1_extra (m := ⟨5, k, na, 0, nc, nm, aa, al, ac, ad⟩) (by simp [extra, ha]))
      go_wp2
      go_ret
      exact ⟨by rw [HV.out]; rfl, ((Fr.refl [] w).alloc _)⟩
    case pos =>
      subst ha
      have HV := Lib.hid (n1_in (m := ⟨5, k, na, 0, nc, nm, aa, 0, ac, ad⟩) (by simp) (by simp [extra]))
      have HX := Lib.hid (HV.out.trans (show wiFault ⟨5, k, na, 0, nc, nm, aa, 0, ac, ad⟩ = if (k : Int) < 0 ∨ 15 < (k : Int) then 6 else 0 from rfl))
      by_cases hk0 : k < 0
      · have HE := Lib.hid (HX.out.trans (if_pos (.inl hk0)))
        go_wp2
        go_ret
        exact ⟨by rw [HE.out]; rfl, ((Fr.refl [] w).alloc _)⟩
      by_cases hk1 : 15 < k
      · have HE := Lib.hid (HX.out.trans (if_pos (.inr hk1)))
        go_wp2
        go_ret
        exact ⟨by rw [HE.out]; rfl, ((Fr.refl [] w).alloc _)⟩
      have HE := Lib.hid (HX.out.trans (if_neg (by omega)))
      go_wp2
      go_ret
      exact ⟨by rw [HE.out]; rfl, ((Fr.refl [] w).alloc _)⟩

set_option maxHeartbeats 4000000 in
set_option maxRecDepth 100000 in
theorem matchFault6 (w : World) (k : Int) (na : Option Addr) (nl nc : Nat) (nm : Nat → ByteArray) (aa : Option Addr) (al ac : Nat) (ad : Nat → Int) (hnl : nl ≤ nc ∧ nc ≤ 2 ^ 63 - 1) (hal : al ≤ ac ∧ ac ≤ 2 ^ 63 - 1)
    (HN : Hid (∀ w2, Fr [] w w2 → Calls Tryd.prog 87 #[.slice na nl nc] w2 fun e w' => e = .returned (.int .i64 (nmFault nl nm)) ∧ w2 = w')) :
    Calls Tryd.prog 73 #[.agg #[.int .i64 6, .int .i64 k, .slice na nl nc, .slice aa al ac]] w fun e w' => e = .returned (.int .i64 (n1Fault ⟨6, k, na, nl, nc, nm, aa, al, ac, ad⟩)) ∧ Fr [] w w' := by
  have HH := HN
  have hb1 := hnl.1
  have hb2 := hal.1
  go_enter Tryd.func73, Tryd.ntmps73
  by_cases hk : k = 0
  case neg =>
    have HV := Lib.hid (n1_extra (m := ⟨6, k, na, nl, nc, nm, aa, al, ac, ad⟩) (by simp [extra, hk]))
    go_wp2
    go_ret
    exact ⟨by rw [HV.out]; rfl, ((Fr.refl [] w).alloc _)⟩
  case pos =>
    subst hk
    by_cases hn : nl = 0
    case neg =>
      have HV := Lib.hid (n1_extra (m := ⟨6, 0, na, nl, nc, nm, aa, al, ac, ad⟩) (by simp [extra, hn]))
      go_wp2
      go_ret
      exact ⟨by rw [HV.out]; rfl, ((Fr.refl [] w).alloc _)⟩
    case pos =>
      subst hn
      by_cases ha : al = 0
      case neg =>
        have HV := Lib.hid (n1_extra (m := ⟨6, 0, na, 0, nc, nm, aa, al, ac, ad⟩) (by simp [extra, ha]))
        go_wp2
        go_ret
        exact ⟨by rw [HV.out]; rfl, ((Fr.refl [] w).alloc _)⟩
      case pos =>
        subst ha
        have HV := Lib.hid (n1_in (m := ⟨6, 0, na, 0, nc, nm, aa, 0, ac, ad⟩) (by simp) (by simp [extra]))
        have HX := Lib.hid (HV.out.trans (show wiFault ⟨6, 0, na, 0, nc, nm, aa, 0, ac, ad⟩ = if (0 : Int) < 0 ∨ 0 < (0 : Int) then 6 else 0 from rfl))
        have HE := Lib.hid (HX.out.trans (if_neg (by omega)))
        go_wp2
        go_ret
        exact ⟨by rw [HE.out]; rfl, ((Fr.refl [] w).alloc _)⟩

set_option maxHeartbeats 4000000 in
set_option maxRecDepth 100000 in
theorem matchFault7 (w : World) (k : Int) (na : Option Addr) (nl nc : Nat) (nm : Nat → ByteArray) (aa : Option Addr) (al ac : Nat) (ad : Nat → Int) (hnl : nl ≤ nc ∧ nc ≤ 2 ^ 63 - 1) (hal : al ≤ ac ∧ ac ≤ 2 ^ 63 - 1)
    (HN : Hid (∀ w2, Fr [] w w2 → Calls Tryd.prog 87 #[.slice na nl nc] w2 fun e w' => e = .returned (.int .i64 (nmFault nl nm)) ∧ w2 = w')) :
    Calls Tryd.prog 73 #[.agg #[.int .i64 7, .int .i64 k, .slice na nl nc, .slice aa al ac]] w fun e w' => e = .returned (.int .i64 (n1Fault ⟨7, k, na, nl, nc, nm, aa, al, ac, ad⟩)) ∧ Fr [] w w' := by
  have HH := HN
  have hb1 := hnl.1
  have hb2 := hal.1
  go_enter Tryd.func73, Tryd.ntmps73
  by_cases hn : nl = 0
  case neg =>
    have HV := Lib.hid (n1_extra (m := ⟨7, k, na, nl, nc, nm, aa, al, ac, ad⟩) (by simp [extra, hn]))
    go_wp2
    go_ret
    exact ⟨by rw [HV.out]; rfl, ((Fr.refl [] w).alloc _)⟩
  case pos =>
    subst hn
    have HV := Lib.hid (n1_in (m := ⟨7, k, na, 0, nc, nm, aa, al, ac, ad⟩) (by simp) (by simp [extra]))
    by_cases h16 : 16 < al
    · have HE := Lib.hid (HV.out.trans (wi7a rfl h16))
      go_wp2
      go_ret
      exact ⟨by rw [HE.out]; rfl, ((Fr.refl [] w).alloc _)⟩
    have hw8 : IntKind.i64.wrap (8 * (al : Int)) = 8 * (al : Int) := IntWalk.i64_in _ (by omega)
    have HX := Lib.hid (HV.out.trans (wi7b rfl h16))
    simp only at HX
    by_cases hk0 : k < 0
    · have HE := Lib.hid (HX.out.trans (if_pos (.inl hk0)))
      go_wp2
      go_ret
      exact ⟨by rw [HE.out]; rfl, ((Fr.refl [] w).alloc _)⟩
    by_cases hk1 : 8 * (al : Int) < k
    · have HE := Lib.hid (HX.out.trans (if_pos (.inr hk1)))
      go_wp2
      go_ret
      exact ⟨by rw [HE.out]; rfl, ((Fr.refl [] w).alloc _)⟩
    have HE := Lib.hid (HX.out.trans (if_neg (by omega)))
    go_wp2
    go_ret
    exact ⟨by rw [HE.out]; rfl, ((Fr.refl [] w).alloc _)⟩

set_option maxHeartbeats 4000000 in
set_option maxRecDepth 100000 in
theorem matchFault8 (w : World) (k : Int) (na : Option Addr) (nl nc : Nat) (nm : Nat → ByteArray) (aa : Option Addr) (al ac : Nat) (ad : Nat → Int) (hnl : nl ≤ nc ∧ nc ≤ 2 ^ 63 - 1) (hal : al ≤ ac ∧ ac ≤ 2 ^ 63 - 1)
    (HN : Hid (∀ w2, Fr [] w w2 → Calls Tryd.prog 87 #[.slice na nl nc] w2 fun e w' => e = .returned (.int .i64 (nmFault nl nm)) ∧ w2 = w')) :
    Calls Tryd.prog 73 #[.agg #[.int .i64 8, .int .i64 k, .slice na nl nc, .slice aa al ac]] w fun e w' => e = .returned (.int .i64 (n1Fault ⟨8, k, na, nl, nc, nm, aa, al, ac, ad⟩)) ∧ Fr [] w w' := by
  have HH := HN
  have hb1 := hnl.1
  have hb2 := hal.1
  go_enter Tryd.func73, Tryd.ntmps73
  by_cases hk : k = 0
  case neg =>
    have HV := Lib.hid (n1_extra (m := ⟨8, k, na, nl, nc, nm, aa, al, ac, ad⟩) (by simp [extra, hk]))
    go_wp2
    go_ret
    exact ⟨by rw [HV.out]; rfl, ((Fr.refl [] w).alloc _)⟩
  case pos =>
    subst hk
    by_cases hn : nl = 0
    case neg =>
      have HV := Lib.hid (n1_extra (m := ⟨8, 0, na, nl, nc, nm, aa, al, ac, ad⟩) (by simp [extra, hn]))
      go_wp2
      go_ret
      exact ⟨by rw [HV.out]; rfl, ((Fr.refl [] w).alloc _)⟩
    case pos =>
      subst hn
      by_cases ha : al = 0
      case neg =>
        have HV := Lib.hid (n1_extra (m := ⟨8, 0, na, 0, nc, nm, aa, al, ac, ad⟩) (by simp [extra, ha]))
        go_wp2
        go_ret
        exact ⟨by rw [HV.out]; rfl, ((Fr.refl [] w).alloc _)⟩
      case pos =>
        subst ha
        have HV := Lib.hid (n1_in (m := ⟨8, 0, na, 0, nc, nm, aa, 0, ac, ad⟩) (by simp) (by simp [extra]))
        have HX := Lib.hid (HV.out.trans (show wiFault ⟨8, 0, na, 0, nc, nm, aa, 0, ac, ad⟩ = if (0 : Int) < 0 ∨ 0 < (0 : Int) then 6 else 0 from rfl))
        have HE := Lib.hid (HX.out.trans (if_neg (by omega)))
        go_wp2
        go_ret
        exact ⟨by rw [HE.out]; rfl, ((Fr.refl [] w).alloc _)⟩

set_option maxHeartbeats 4000000 in
set_option maxRecDepth 100000 in
theorem matchFault9 (w : World) (k : Int) (na : Option Addr) (nl nc : Nat) (nm : Nat → ByteArray) (aa : Option Addr) (al ac : Nat) (ad : Nat → Int) (hnl : nl ≤ nc ∧ nc ≤ 2 ^ 63 - 1) (hal : al ≤ ac ∧ ac ≤ 2 ^ 63 - 1)
    (HN : Hid (∀ w2, Fr [] w w2 → Calls Tryd.prog 87 #[.slice na nl nc] w2 fun e w' => e = .returned (.int .i64 (nmFault nl nm)) ∧ w2 = w')) :
    Calls Tryd.prog 73 #[.agg #[.int .i64 9, .int .i64 k, .slice na nl nc, .slice aa al ac]] w fun e w' => e = .returned (.int .i64 (n1Fault ⟨9, k, na, nl, nc, nm, aa, al, ac, ad⟩)) ∧ Fr [] w w' := by
  have HH := HN
  have hb1 := hnl.1
  have hb2 := hal.1
  go_enter Tryd.func73, Tryd.ntmps73
  by_cases hk : k = 0
  case neg =>
    have HV := Lib.hid (n1_extra (m := ⟨9, k, na, nl, nc, nm, aa, al, ac, ad⟩) (by simp [extra, hk]))
    go_wp2
    go_ret
    exact ⟨by rw [HV.out]; rfl, ((Fr.refl [] w).alloc _)⟩
  case pos =>
    subst hk
    by_cases hn : nl = 0
    case neg =>
      have HV := Lib.hid (n1_extra (m := ⟨9, 0, na, nl, nc, nm, aa, al, ac, ad⟩) (by simp [extra, hn]))
      go_wp2
      go_ret
      exact ⟨by rw [HV.out]; rfl, ((Fr.refl [] w).alloc _)⟩
    case pos =>
      subst hn
      by_cases ha : al = 0
      case neg =>
        have HV := Lib.hid (n1_extra (m := ⟨9, 0, na, 0, nc, nm, aa, al, ac, ad⟩) (by simp [extra, ha]))
        go_wp2
        go_ret
        exact ⟨by rw [HV.out]; rfl, ((Fr.refl [] w).alloc _)⟩
      case pos =>
        subst ha
        have HV := Lib.hid (n1_in (m := ⟨9, 0, na, 0, nc, nm, aa, 0, ac, ad⟩) (by simp) (by simp [extra]))
        have HX := Lib.hid (HV.out.trans (show wiFault ⟨9, 0, na, 0, nc, nm, aa, 0, ac, ad⟩ = if (0 : Int) < 0 ∨ 0 < (0 : Int) then 6 else 0 from rfl))
        have HE := Lib.hid (HX.out.trans (if_neg (by omega)))
        go_wp2
        go_ret
        exact ⟨by rw [HE.out]; rfl, ((Fr.refl [] w).alloc _)⟩

set_option maxHeartbeats 4000000 in
set_option maxRecDepth 100000 in
theorem matchFault10 (w : World) (k : Int) (na : Option Addr) (nl nc : Nat) (nm : Nat → ByteArray) (aa : Option Addr) (al ac : Nat) (ad : Nat → Int) (hnl : nl ≤ nc ∧ nc ≤ 2 ^ 63 - 1) (hal : al ≤ ac ∧ ac ≤ 2 ^ 63 - 1)
    (HN : Hid (∀ w2, Fr [] w w2 → Calls Tryd.prog 87 #[.slice na nl nc] w2 fun e w' => e = .returned (.int .i64 (nmFault nl nm)) ∧ w2 = w')) :
    Calls Tryd.prog 73 #[.agg #[.int .i64 10, .int .i64 k, .slice na nl nc, .slice aa al ac]] w fun e w' => e = .returned (.int .i64 (n1Fault ⟨10, k, na, nl, nc, nm, aa, al, ac, ad⟩)) ∧ Fr [] w w' := by
  have HH := HN
  have hb1 := hnl.1
  have hb2 := hal.1
  go_enter Tryd.func73, Tryd.ntmps73
  by_cases hk : k = 0
  case neg =>
    have HV := Lib.hid (n1_extra (m := ⟨10, k, na, nl, nc, nm, aa, al, ac, ad⟩) (by simp [extra, hk]))
    go_wp2
    go_ret
    exact ⟨by rw [HV.out]; rfl, ((Fr.refl [] w).alloc _)⟩
  case pos =>
    subst hk
    by_cases hn : nl = 0
    case neg =>
      have HV := Lib.hid (n1_extra (m := ⟨10, 0, na, nl, nc, nm, aa, al, ac, ad⟩) (by simp [extra, hn]))
      go_wp2
      go_ret
      exact ⟨by rw [HV.out]; rfl, ((Fr.refl [] w).alloc _)⟩
    case pos =>
      subst hn
      by_cases ha : al = 0
      case neg =>
        have HV := Lib.hid (n1_extra (m := ⟨10, 0, na, 0, nc, nm, aa, al, ac, ad⟩) (by simp [extra, ha]))
        go_wp2
        go_ret
        exact ⟨by rw [HV.out]; rfl, ((Fr.refl [] w).alloc _)⟩
      case pos =>
        subst ha
        have HV := Lib.hid (n1_in (m := ⟨10, 0, na, 0, nc, nm, aa, 0, ac, ad⟩) (by simp) (by simp [extra]))
        have HX := Lib.hid (HV.out.trans (show wiFault ⟨10, 0, na, 0, nc, nm, aa, 0, ac, ad⟩ = if (0 : Int) < 0 ∨ 0 < (0 : Int) then 6 else 0 from rfl))
        have HE := Lib.hid (HX.out.trans (if_neg (by omega)))
        go_wp2
        go_ret
        exact ⟨by rw [HE.out]; rfl, ((Fr.refl [] w).alloc _)⟩

set_option maxHeartbeats 4000000 in
set_option maxRecDepth 100000 in
theorem matchFault_any (w : World) (m : Mt) (hm : m.Ok w) : Calls Tryd.prog 73 #[m.agg] w fun e w' => e = .returned (.int .i64 (n1Fault m)) ∧ Fr [] w w' := by
  obtain ⟨op, k, na, nl, nc, nm, aa, al, ac, ad⟩ := m
  have hal := hm.rda.le_cap
  have hnl := hm.rdn.le_cap
  have HN := Lib.hid (fun w2 (h : Fr [] w w2) => nameFault_any w2 na nl nc nm (hm.fr h).rdn hm.szs)
  clear hm
  unfold maxLen at hal hnl
  simp only at hal hnl
  by_cases hout : op < 1 ∨ 10 < op
  · have HV := Lib.hid (n1_not (m := ⟨op, k, na, nl, nc, nm, aa, al, ac, ad⟩) hout)
    clear HN
    show Calls Tryd.prog 73 #[.agg #[.int .i64 op, .int .i64 k, .slice na nl nc, .slice aa al ac]] w _
    go_enter Tryd.func73, Tryd.ntmps73
    by_cases h1 : op < 1
    · clear hout
      go_wp2
      go_ret
      exact ⟨by rw [HV.out]; rfl, (Fr.refl [] w).alloc _⟩
    · have h10 : 10 < op := by omega
      clear hout
      go_wp2
      go_ret
      exact ⟨by rw [HV.out]; rfl, (Fr.refl [] w).alloc _⟩
  have hop : op = 1 ∨ op = 2 ∨ op = 3 ∨ op = 4 ∨ op = 5 ∨ op = 6 ∨ op = 7 ∨ op = 8 ∨ op = 9 ∨ op = 10 := by omega
  rcases hop with rfl | rfl | rfl | rfl | rfl | rfl | rfl | rfl | rfl | rfl
  · exact matchFault1 w k na nl nc nm aa al ac ad hnl hal HN
  · exact matchFault2 w k na nl nc nm aa al ac ad hnl hal HN
  · exact matchFault3 w k na nl nc nm aa al ac ad hnl hal HN
  · exact matchFault4 w k na nl nc nm aa al ac ad hnl hal HN
  · exact matchFault5 w k na nl nc nm aa al ac ad hnl hal HN
  · exact matchFault6 w k na nl nc nm aa al ac ad hnl hal HN
  · exact matchFault7 w k na nl nc nm aa al ac ad hnl hal HN
  · exact matchFault8 w k na nl nc nm aa al ac ad hnl hal HN
  · exact matchFault9 w k na nl nc nm aa al ac ad hnl hal HN
  · exact matchFault10 w k na nl nc nm aa al ac ad hnl hal HN

end Go.Proofs.YtgpfkaiinbncnaaDoor
