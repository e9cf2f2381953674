/- The parts of a rule: is one as it must be? -/
import Derived.Test.YtgpfkaiinbncnaaDoorNameCheck
import Derived.Test.YtgpfkaiinbncnaaDoorName
namespace Go.Proofs.YtgpfkaiinbncnaaDoor
open Go.RowKit

/-- a part of a rule -/
structure Mt where
  op : Int
  k : Int
  na : Option Addr
  nl : Nat
  nc : Nat
  nm : Nat → ByteArray
  aa : Option Addr
  al : Nat
  ac : Nat
  ad : Nat → Int

def Mt.F (m : Mt) : Nat → Value
  | 0 => .int .i64 m.op
  | 1 => .int .i64 m.k
  | 2 => .slice m.na m.nl m.nc
  | _ => .slice m.aa m.al m.ac

def Mt.agg (m : Mt) : Value := .agg #[.int .i64 m.op, .int .i64 m.k, .slice m.na m.nl m.nc, .slice m.aa m.al m.ac]

/-- the part reads in w, and its rows' blocks satisfy D -/
structure Mt.Ok (w : World) (m : Mt) : Prop where
  op0 : -9223372036854775808 ≤ m.op ∧ m.op ≤ 9223372036854775807
  k0 : -9223372036854775808 ≤ m.k ∧ m.k ≤ 9223372036854775807
  rdn : RdF w (.slice m.na m.nl m.nc) m.nl (fun j => .string (m.nm j))
  rda : RdF w (.slice m.aa m.al m.ac) m.al (fun j => .int .u8 (m.ad j))
  szs : ∀ j, j < m.nl → (m.nm j).size ≤ 140737488355328
  ads : ∀ j, j < m.al → 0 ≤ m.ad j ∧ m.ad j ≤ 255

/-- how many a question takes -/
def tk (op : Int) : Int := if op = 8 then 1 else if op = 9 ∨ op = 10 then 2 else 0

theorem takes_any (w : World) (op : Int) : Calls Tryd.prog 89 #[.int .i64 op] w fun e w' => e = .returned (.int .i64 (tk op)) ∧ w = w' := by
  go_enter Tryd.func89, Tryd.ntmps89
  by_cases h8 : op = 8
  · subst h8
    go_wp2
    go_ret
    exact ⟨rfl, rfl⟩
  by_cases h9 : op = 9
  · subst h9
    go_wp2
    go_ret
    exact ⟨rfl, rfl⟩
  by_cases h10 : op = 10
  · subst h10
    go_wp2
    go_ret
    exact ⟨rfl, rfl⟩
  have HE := Lib.hid (show tk op = 0 by unfold tk; rw [if_neg h8, if_neg (by omega)])
  go_wp2
  go_ret
  exact ⟨by rw [HE.out]; rfl, rfl⟩

/-- how great may the number be? -/
def mostOf (op : Int) (al : Nat) : Int := if op = 3 ∨ op = 4 then 65535 else if op = 5 then 15 else if op = 7 then 8 * (al : Int) else 0

/-- what is wrong with name, number and address -/
def wiFault (m : Mt) : Int :=
  if m.op = 2 then nmFault m.nl m.nm
  else if m.op = 7 ∧ 16 < m.al then 6
  else if m.k < 0 ∨ mostOf m.op m.al < m.k then 6 else 0

theorem wi7a {m : Mt} (h : m.op = 7) (h16 : 16 < m.al) : wiFault m = 6 := by
  unfold wiFault
  rw [if_neg (by omega), if_pos ⟨h, h16⟩]
theorem wi7b {m : Mt} (h : m.op = 7) (h16 : ¬ 16 < m.al) : wiFault m = if m.k < 0 ∨ 8 * (m.al : Int) < m.k then 6 else 0 := by
  unfold wiFault mostOf
  rw [if_neg (show ¬ m.op = 2 by omega), if_neg (show ¬ (m.op = 7 ∧ 16 < m.al) by omega), if_neg (show ¬ (m.op = 3 ∨ m.op = 4) by omega), if_neg (show ¬ m.op = 5 by omega), if_pos h]

set_option maxHeartbeats 4000000 in
set_option maxRecDepth 100000 in
theorem within_any (w : World) (m : Mt) (hm : m.Ok w) : Calls Tryd.prog 107 #[m.agg] w fun e w' => e = .returned (erVn (wiFault m)) ∧ Fr [] w w' := by
  obtain ⟨op, k, na, nl, nc, nm, aa, al, ac, ad⟩ := m
  have HM := Lib.hid hm
  have hal := hm.rda.le_cap
  clear hm
  unfold maxLen at hal
  simp only at hal
  show Calls Tryd.prog 107 #[.agg #[.int .i64 op, .int .i64 k, .slice na nl nc, .slice aa al ac]] w _
  go_enter Tryd.func107, Tryd.ntmps107
  by_cases h2 : op = 2
  · subst h2
    have HE := Lib.hid (show wiFault ⟨2, k, na, nl, nc, nm, aa, al, ac, ad⟩ = nmFault nl nm by unfold wiFault; rfl)
    go_wp2_with (go_at_call 117; refine (nameCheck_any _ na nl nc nm (HM.out.rdn.fr ((Fr.refl [] w).alloc _) (fun _ _ _ _ => by simp)) HM.out.szs).mono ?_; rintro e wx ⟨rfl, rfl⟩)
    go_ret
    exact ⟨by rw [HE.out]; rfl, (Fr.refl [] w).alloc _⟩
  by_cases h34 : op = 3 ∨ op = 4
  · have HE := Lib.hid (show wiFault ⟨op, k, na, nl, nc, nm, aa, al, ac, ad⟩ = if k < 0 ∨ 65535 < k then 6 else 0 by
      unfold wiFault mostOf
      simp only
      rw [if_neg h2, if_neg (by omega), if_pos h34])
    by_cases hk0 : k < 0
    · have HV := Lib.hid (HE.out.trans (if_pos (.inl hk0))); clear HE
      rcases h34 with rfl | rfl
      · go_wp2
        go_ret
        exact ⟨by rw [HV.out]; rfl, (Fr.refl [] w).alloc _⟩
      · go_wp2
        go_ret
        exact ⟨by rw [HV.out]; rfl, (Fr.refl [] w).alloc _⟩
    · by_cases hk1 : 65535 < k
      · have HV := Lib.hid (HE.out.trans (if_pos (.inr hk1))); clear HE
        rcases h34 with rfl | rfl
        · go_wp2
          go_ret
          exact ⟨by rw [HV.out]; rfl, (Fr.refl [] w).alloc _⟩
        · go_wp2
          go_ret
          exact ⟨by rw [HV.out]; rfl, (Fr.refl [] w).alloc _⟩
      · have HV := Lib.hid (HE.out.trans (if_neg (by omega))); clear HE
        rcases h34 with rfl | rfl
        · go_wp2
          go_ret
          exact ⟨by rw [HV.out]; rfl, (Fr.refl [] w).alloc _⟩
        · go_wp2
          go_ret
          exact ⟨by rw [HV.out]; rfl, (Fr.refl [] w).alloc _⟩
  by_cases h5 : op = 5
  · subst h5
    have HE := Lib.hid (show wiFault ⟨5, k, na, nl, nc, nm, aa, al, ac, ad⟩ = if k < 0 ∨ 15 < k then 6 else 0 by rfl)
    by_cases hk0 : k < 0
    · have HV := Lib.hid (HE.out.trans (if_pos (.inl hk0))); clear HE
      go_wp2
      go_ret
      exact ⟨by rw [HV.out]; rfl, (Fr.refl [] w).alloc _⟩
    · by_cases hk1 : 15 < k
      · have HV := Lib.hid (HE.out.trans (if_pos (.inr hk1))); clear HE
        go_wp2
        go_ret
        exact ⟨by rw [HV.out]; rfl, (Fr.refl [] w).alloc _⟩
      · have HV := Lib.hid (HE.out.trans (if_neg (by omega))); clear HE
        go_wp2
        go_ret
        exact ⟨by rw [HV.out]; rfl, (Fr.refl [] w).alloc _⟩
  by_cases h7 : op = 7
  · subst h7
    by_cases h16 : 16 < al
    · have HV := Lib.hid (wi7a (m := ⟨7, k, na, nl, nc, nm, aa, al, ac, ad⟩) rfl h16)
      go_wp2
      go_ret
      exact ⟨by rw [HV.out]; rfl, (Fr.refl [] w).alloc _⟩
    · have HE := Lib.hid (wi7b (m := ⟨7, k, na, nl, nc, nm, aa, al, ac, ad⟩) rfl h16)
      simp only at HE
      have hw8 : IntKind.i64.wrap (8 * (al : Int)) = 8 * (al : Int) := IntWalk.i64_in _ (by omega)
      by_cases hk0 : k < 0
      · have HV := Lib.hid (HE.out.trans (if_pos (.inl hk0))); clear HE
        go_wp2
        go_ret
        exact ⟨by rw [HV.out]; rfl, (Fr.refl [] w).alloc _⟩
      · by_cases hk1 : 8 * (al : Int) < k
        · have HV := Lib.hid (HE.out.trans (if_pos (.inr hk1))); clear HE
          go_wp2
          go_ret
          exact ⟨by rw [HV.out]; rfl, (Fr.refl [] w).alloc _⟩
        · have HV := Lib.hid (HE.out.trans (if_neg (by omega))); clear HE
          go_wp2
          go_ret
          exact ⟨by rw [HV.out]; rfl, (Fr.refl [] w).alloc _⟩
  have HE := Lib.hid (show wiFault ⟨op, k, na, nl, nc, nm, aa, al, ac, ad⟩ = if k < 0 ∨ 0 < k then 6 else 0 by
    unfold wiFault mostOf
    simp only
    rw [if_neg h2, if_neg (by omega), if_neg h34, if_neg h5, if_neg h7])
  have h3 : ¬ op = 3 := fun e => h34 (.inl e)
  have h4 : ¬ op = 4 := fun e => h34 (.inr e)
  by_cases hk0 : k < 0
  · have HV := Lib.hid (HE.out.trans (if_pos (.inl hk0))); clear HE
    go_wp2
    go_ret
    exact ⟨by rw [HV.out]; rfl, (Fr.refl [] w).alloc _⟩
  · by_cases hk1 : 0 < k
    · have HV := Lib.hid (HE.out.trans (if_pos (.inr hk1))); clear HE
      go_wp2
      go_ret
      exact ⟨by rw [HV.out]; rfl, (Fr.refl [] w).alloc _⟩
    · have HV := Lib.hid (HE.out.trans (if_neg (by omega))); clear HE
      go_wp2
      go_ret
      exact ⟨by rw [HV.out]; rfl, (Fr.refl [] w).alloc _⟩

end Go.Proofs.YtgpfkaiinbncnaaDoor
