/- RingPick of the reference. -/
import Derived.Test.YtbaiaolgjlhioaaDoorRingPick
import Derived.Test.YtbaiaolgjlhioaaDoorRef3
import Derived.Test.YtbaiaolgjlhioaaDoorStepApp
namespace Go.Proofs.YtbaiaolgjlhioaaDoor
open Go.RowKit

/-- the best so far -/
def BestOf (L : List (Int × Int)) (h best id : Int) : Prop :=
  (L = [] ∧ best = 4294967296 ∧ id = -1) ∨ ∃ m ∈ L, best = far h m.1 ∧ id = m.2 ∧ ∀ x ∈ L, best < far h x.1 ∨ (best = far h x.1 ∧ id ≤ x.2)

theorem far_bd (h x : Int) (hh : 0 ≤ h ∧ h ≤ 4294967295) (hx : 0 ≤ x ∧ x ≤ 4294967295) : 0 ≤ far h x ∧ far h x ≤ 4294967295 := by
  unfold far
  split <;> omega

theorem BestOf.take {L : List (Int × Int)} {h best id : Int} (b : BestOf L h best id) (x : Int × Int) (hb : far h x.1 < best ∨ (far h x.1 = best ∧ x.2 < id)) : BestOf (L ++ [x]) h (far h x.1) x.2 := by
  right
  refine ⟨x, by simp, rfl, rfl, fun y hy => ?_⟩
  rw [List.mem_append, List.mem_singleton] at hy
  rcases hy with hy | rfl
  · rcases b with ⟨rfl, _, _⟩ | ⟨m, _, _, _, hm⟩
    · cases hy
    · have := hm y hy
      omega
  · exact .inr ⟨rfl, Int.le_refl _⟩

theorem BestOf.skip {L : List (Int × Int)} {h best id : Int} (b : BestOf L h best id) (x : Int × Int) (hh : 0 ≤ h ∧ h ≤ 4294967295) (hx : 0 ≤ x.1 ∧ x.1 ≤ 4294967295) (hb : ¬ (far h x.1 < best ∨ (far h x.1 = best ∧ x.2 < id))) : BestOf (L ++ [x]) h best id := by
  have hfb := far_bd h x.1 hh hx
  rcases b with ⟨rfl, rfl, rfl⟩ | ⟨m, hm, h1, h2, h3⟩
  · exact absurd (.inl (by omega)) hb
  · refine .inr ⟨m, by simp [hm], h1, h2, fun y hy => ?_⟩
    rw [List.mem_append, List.mem_singleton] at hy
    rcases hy with hy | rfl
    · exact h3 y hy
    · omega

theorem BestOf.win {L : List (Int × Int)} {h best id : Int} (b : BestOf L h best id) (h0 : 0 < L.length) : Win L h id := by
  rcases b with ⟨rfl, _, _⟩ | ⟨m, hm, rfl, rfl, h3⟩
  · simp at h0
  · exact ⟨m, hm, rfl, h3⟩

theorem BestOf.best_bd {L : List (Int × Int)} {h best id : Int} (b : BestOf L h best id) (hh : 0 ≤ h ∧ h ≤ 4294967295) (hL : ∀ x ∈ L, 0 ≤ x.1 ∧ x.1 ≤ 4294967295) : 0 ≤ best ∧ best ≤ 4294967296 := by
  rcases b with ⟨_, rfl, _⟩ | ⟨m, hm, rfl, _, _⟩
  · omega
  · have := far_bd h m.1 hh (hL m hm)
    omega

theorem ptn_ok (id : Int) (k : Nat) : ∀ x ∈ ptn id k, 0 ≤ x.1 ∧ x.1 ≤ 4294967295 := by
  induction k with
  | zero => intro x hx; cases hx
  | succ k ih =>
    intro x hx
    simp only [ptn, List.mem_append, List.mem_singleton] at hx
    rcases hx with hx | rfl
    · exact ih x hx
    · exact hsh_bd _ _

theorem pts_ok' (p : Nat → Int × Int) (i : Nat) : ∀ x ∈ pts p i, 0 ≤ x.1 ∧ x.1 ≤ 4294967295 := by
  induction i with
  | zero => intro x hx; cases hx
  | succ i ih =>
    intro x hx
    simp only [pts, List.mem_append] at hx
    rcases hx with hx | hx
    · exact ih x hx
    · exact ptn_ok _ _ x hx

def RPickAt (w : World) (L : List (Int × Int)) (h : Int) (e : Ending) (w' : World) : Prop := (∃ r, Win L h r ∧ e = .returned (.int .i64 r)) ∧ Fr [] w w'

set_option maxHeartbeats 8000000 in
set_option maxRecDepth 100000 in
theorem ringPick_ref (w : World) (a : Option Addr) (n c : Nat) (p : Nat → Int × Int) (hv : RdP w (.slice a n c) n p) (hg : NGood p n) (ka : Option Addr) (m kc : Nat) (kf : Nat → Int) (hk : RdF w (.slice ka m kc) m (fun j => .int .u8 (kf j))) (hb : ∀ j, j < m → 0 ≤ kf j ∧ kf j ≤ 255) (hm : m ≤ 9223372036854775807) :
    Calls Tryd.prog 15 #[.slice a n c, .slice ka m kc] w (RPickAt w (pts p n) (hsh kf m)) := by
  have HV := Lib.hid hv; clear hv
  have HK := Lib.hid hk; clear hk
  have HB := Lib.hid hb; clear hb
  have HG := Lib.hid hg
  have h40 := hg.n40
  clear hg
  go_enter Tryd.func15, Tryd.ntmps15
  go_wp2_with fail
  refine (hashed_any _ ka m kc kf HK.out HB.out hm).mono ?_
  rintro e w1 ⟨rfl, rfl⟩
  have hh := hsh_bd kf m
  generalize hsh kf m = h at *
  have HH := Lib.hid hh
  go_wp2
  go_loopw [5, 6, 8] (fun vb vd vi wr => ∃ (i : Nat) (best id : Int), i ≤ n ∧ vi = .int .i64 i ∧ vb = .int .i64 best ∧ vd = .int .i64 id ∧ BestOf (pts p i) h best id ∧ Fr [] w wr) (fun _ _ vi _ => n - (intOf vi).toNat)
  case atStart => exact ⟨0, 4294967296, -1, by omega, rfl, rfl, rfl, .inl ⟨rfl, rfl, rfl⟩, Fr.refl _ _⟩
  case round =>
    obtain ⟨i, best0, id0, hi, rfl, rfl, rfl, hbest, hf⟩ := hrel
    have HBE := Lib.hid hbest; clear hbest
    have HF := Lib.hid hf; clear hf
    by_cases hlt : i < n
    · obtain ⟨b, o, cap', he, hnc, hcm, hbw, hc⟩ := HV.out.shape (by omega)
      simp only [Value.slice.injEq, true_and] at he
      obtain ⟨rfl, rfl⟩ := he
      obtain ⟨k0, k1⟩ := hc i hlt
      obtain ⟨r1, r2, r3, r4⟩ := HG.out.rng i hlt
      obtain ⟨W, hW⟩ : ∃ W : Nat, (p i).2 = (W : Int) := ⟨(p i).2.toNat, by omega⟩
      have hWn : (p i).2.toNat = W := by omega
      have HWN := Lib.hid hWn; clear hWn
      rw [hW] at k1 r3 r4
      clear hW
      obtain ⟨ID, hid⟩ : ∃ ID : Int, (p i).1 = ID := ⟨_, rfl⟩
      rw [hid] at k0 r1 r2
      have HID := Lib.hid hid; clear hid
      have HK0 := Lib.hid k0
      have HK1 := Lib.hid k1
      clear hc k0 k1
      go_wp2
      go_loopw [5, 6, 9] (fun vb vd vk wr => ∃ (k : Nat) (best id : Int), k ≤ 4 * W ∧ vk = .int .i64 k ∧ vb = .int .i64 best ∧ vd = .int .i64 id ∧ BestOf (pts p i ++ ptn ID k) h best id ∧ Fr [] w wr) (fun _ _ vk _ => 4 * W - (intOf vk).toNat)
      case atStart => exact ⟨0, best0, id0, by omega, rfl, rfl, rfl, by simpa [ptn] using HBE.out, HF.out⟩
      case round =>
        clear HBE HF
        obtain ⟨k, best, id, hk, rfl, rfl, rfl, hbest, hf⟩ := hrel
        have hbb := hbest.best_bd HH.out (fun x hx => by
          rcases List.mem_append.1 hx with hx | hx
          · exact pts_ok' p i x hx
          · exact ptn_ok _ _ x hx)
        have HBE := Lib.hid hbest; clear hbest
        have HF := Lib.hid hf; clear hf
        have c0 := HF.out.cell HK0.out (by simp)
        have c1 := HF.out.cell HK1.out (by simp)
        by_cases hlt2 : k < 4 * W
        · go_wp2_with fail
          refine (qfour_any _ ID r1 (by omega)).mono ?_
          rintro e w1 ⟨rfl, rA, fA⟩
          have HRA := Lib.hid rA; clear rA
          have HFA := Lib.hid (HF.out.trans fA (by simp))
          clear fA c0 c1
          go_wp2_with fail
          refine (qfour_any _ (k : Int) (by omega) (by omega)).mono ?_
          rintro e w2 ⟨rfl, rB, fB⟩
          have HRB := Lib.hid rB; clear rB
          have HRA2 := Lib.hid (HRA.out.kept fB (by simp))
          have HFB := Lib.hid (HFA.out.trans fB (by simp))
          have hszB := fB.size
          have hszA : wr.heap.size ≤ w1.heap.size := by have := HRA.out.lt; omega
          clear fB
          go_wp2_with (at_builtin; refine wpList_app rfl (.tmp 34) (.tmp 36) 25 rfl 5 infoU8 Tryd.underlying25 rfl (base := wr.heap.size) (.inr ⟨_, _, rfl, Nat.le_refl _, HRA2.out⟩) rfl HRB.out.rd rfl (fun _ _ => rfl) (by decide) (by decide) (by omega) ?_; intro v3 w3 ho3 hf3 _)
          have hsz0 := HF.out.size
          have hrd3 : RdF w3 v3 8 (fun j => .int .u8 (f8 ID k j)) := ho3.rd.congr (fun j hj => by
            unfold app f8
            by_cases h0 : j < 4
            · rw [if_pos h0, if_pos h0]
            · rw [if_neg h0, if_neg h0])
          obtain ⟨a3, c3, rfl⟩ := hrd3.slice
          have HRD3 := Lib.hid hrd3
          have HF3 := Lib.hid (HFB.out.trans hf3 (fun y hy => .inr (by simp [Value.ownBlock] at hy; omega)))
          clear hrd3 ho3 hf3
          go_wp2_with fail
          refine (hashed_any _ a3 8 c3 (f8 ID k) HRD3.out (fun j hj => by
            unfold f8
            split
            · exact fo_bd _ _
            · exact fo_bd _ _) (by omega)).mono ?_
          rintro e w4 ⟨rfl, rfl⟩
          have hpb := hsh_bd (f8 ID k) 8
          have HPH := Lib.hid (show ph ID k = hsh (f8 ID k) 8 from rfl)
          generalize hsh (f8 ID k) 8 = x at *
          have HX := Lib.hid hpb
          have hfar := far_bd h x HH.out hpb
          have c0 := HF3.out.cell HK0.out (by simp)
          have hpt : pts p i ++ ptn ID (k + 1) = (pts p i ++ ptn ID k) ++ [(x, ID)] := by simp only [ptn]; rw [HPH.out, List.append_assoc]
          have HPT := Lib.hid hpt; clear hpt
          have z0 : (0 : Int) ≤ (i : Int) := by omega
          have z1 : (i : Int) < (n : Int) := by omega
          obtain ⟨F, hF⟩ : ∃ F, far h x = F := ⟨_, rfl⟩
          have HFAR := Lib.hid hF
          rw [hF] at hfar
          clear hF
          go_upto_if 42 with fail
          go_cut [10] (fun v wy => v = .int .i64 F ∧ wy = w3)
          case first =>
            by_cases hxh : x < h
            · have e1 : x - h + 4294967296 = F := by have := HFAR.out; unfold far at this; rw [if_pos hxh] at this; exact this
              have E1 := Lib.hid e1; clear e1
              go_wp2_with fail
              go_meet
              exact ⟨by rw [← E1.out], rfl⟩
            · have e1 : x - h = F := by have := HFAR.out; unfold far at this; rw [if_neg hxh] at this; exact this
              have E1 := Lib.hid e1; clear e1
              go_wp2_with fail
              go_meet
              exact ⟨by rw [← E1.out], rfl⟩
          case rest =>
            obtain ⟨rfl, hw⟩ := hcut
            have hw := hw.symm
            subst hw
            by_cases hA : F < best
            · have d1 : decide (F < best) = true := by simpa using hA
              have HBE2 := Lib.hid (show BestOf (pts p i ++ ptn ID (k + 1)) h F ID by
                rw [HPT.out, ← HFAR.out]
                exact HBE.out.take (x, ID) (.inl (by rw [HFAR.out]; exact hA)))
              clear hA
              go_wp2
              go_roundw
              case rel => exact ⟨k + 1, F, ID, by omega, by go_num, rfl, rfl, HBE2.out, HF3.out⟩
              case measure => simp [intOf]; omega
            · have d1 : decide (F < best) = false := by simpa using hA
              by_cases hE : F = best
              · subst hE
                by_cases hI : ID < id
                · have d2 : decide (ID < id) = true := by simpa using hI
                  have HBE2 := Lib.hid (show BestOf (pts p i ++ ptn ID (k + 1)) h F ID by
                    have := HBE.out.take (x, ID) (.inr ⟨HFAR.out, hI⟩)
                    rw [HPT.out]
                    simpa [HFAR.out] using this)
                  clear hA hI
                  go_wp2
                  go_roundw
                  case rel => exact ⟨k + 1, F, ID, by omega, by go_num, rfl, rfl, HBE2.out, HF3.out⟩
                  case measure => simp [intOf]; omega
                · have d2 : decide (ID < id) = false := by simpa using hI
                  have HBE2 := Lib.hid (show BestOf (pts p i ++ ptn ID (k + 1)) h F id by
                    rw [HPT.out]
                    exact HBE.out.skip (x, ID) HH.out HX.out (by rw [HFAR.out]; simp only []; omega))
                  clear hA hI
                  go_wp2
                  go_roundw
                  case rel => exact ⟨k + 1, F, id, by omega, by go_num, rfl, rfl, HBE2.out, HF3.out⟩
                  case measure => simp [intOf]; omega
              · have d2 : (F == best) = false := by simpa using hE
                have HBE2 := Lib.hid (show BestOf (pts p i ++ ptn ID (k + 1)) h best id by
                  rw [HPT.out]
                  exact HBE.out.skip (x, ID) HH.out HX.out (by rw [HFAR.out]; simp only []; omega))
                clear hA hE
                go_wp2
                go_roundw
                case rel => exact ⟨k + 1, best, id, by omega, by go_num, rfl, rfl, HBE2.out, HF3.out⟩
                case measure => simp [intOf]; omega
        · obtain rfl : k = 4 * W := by omega
          have HBE2 := Lib.hid (show BestOf (pts p (i + 1)) h best id by
            have e : pts p (i + 1) = pts p i ++ ptn ID (4 * W) := by simp only [pts]; rw [HWN.out, HID.out]
            rw [e]; exact HBE.out)
          go_wp2
          go_roundw
          case rel => exact ⟨i + 1, best, id, by omega, by go_num, rfl, rfl, HBE2.out, HF.out⟩
          case measure => simp [intOf]; omega
    · obtain rfl : i = n := by omega
      have HW2 := Lib.hid (HBE.out.win (pts_pos HG.out))
      go_wp2
      go_ret
      exact ⟨⟨_, HW2.out, rfl⟩, HF.out⟩

end Go.Proofs.YtbaiaolgjlhioaaDoor
