/- HeavyBound: the walk. -/
import Derived.Test.YtgpfkaiinbncnaaHeavyOne
import Derived.BigQuiet
namespace Go.Proofs.Ytgpfkaiinbncnaa
open Go.RowKit Go.Maps

/-- the last pair with that key, of the first t -/
def scn (L : List (Int × Int)) (x : Int) : Nat → Int
  | 0 => 0
  | t + 1 => if (lq L t).1 = x then (lq L t).2 else scn L x t

theorem scn_lk {L : List (Int × Int)} (h : Asc L) (x : Int) : scn L x L.length = lk L x := by
  have key : ∀ t, t ≤ L.length → ((∃ i, i < t ∧ (lq L i).1 = x) → scn L x t = lk L x) ∧ ((¬ ∃ i, i < t ∧ (lq L i).1 = x) → scn L x t = 0) := by
    intro t
    induction t with
    | zero => exact fun _ => ⟨fun ⟨i, hi, _⟩ => absurd hi (by omega), fun _ => rfl⟩
    | succ t ih =>
      intro ht
      obtain ⟨i1, i2⟩ := ih (by omega)
      unfold scn
      by_cases hx : (lq L t).1 = x
      · rw [if_pos hx]
        exact ⟨fun _ => (lk_of_mem h (lq_mem (by omega)) hx).symm, fun hn => absurd ⟨t, by omega, hx⟩ hn⟩
      · rw [if_neg hx]
        refine ⟨fun ⟨i, hi, e⟩ => i1 ⟨i, ?_, e⟩, fun hn => i2 fun ⟨i, hi, e⟩ => hn ⟨i, by omega, e⟩⟩
        by_cases e2 : i = t
        · subst e2; exact absurd e hx
        · omega
  obtain ⟨k1, k2⟩ := key L.length (Nat.le_refl _)
  cases hk : hasK L x
  · rw [lk_none hk]
    refine k2 fun ⟨i, hi, e⟩ => ?_
    have := mem_hasK (lq_mem hi)
    rw [e, hk] at this
    cases this
  · obtain ⟨p, hp, e⟩ := hasK_mem hk
    obtain ⟨i, hi, rfl⟩ := List.mem_iff_getElem.1 hp
    exact k1 ⟨i, hi, by rw [lq_get hi]; exact e⟩

theorem cn_bd (ks : Nat → Int) (x : Int) (t : Nat) : 0 ≤ cn ks x t ∧ cn ks x t ≤ t := by
  induction t with
  | zero => exact ⟨Int.le_refl _, Int.le_refl _⟩
  | succ t ih =>
    show 0 ≤ cn ks x t + (if ks t = x then 1 else 0) ∧ cn ks x t + (if ks t = x then 1 else 0) ≤ ((t + 1 : Nat) : Int)
    split <;> omega

theorem wrapH {x : Int} (h0 : -9223372036854775808 ≤ x) (h1 : x ≤ 9223372036854775807) : IntKind.i64.wrap x = x := by
  simp only [IntKind.wrap, IntKind.bits, IntKind.signed]
  simp
  omega

theorem heavy_fin (k n : Nat) (c l : Int) (hk : 1 ≤ k) (hk64 : k ≤ 64) (hn : n ≤ 80) (h0 : 0 ≤ l) (h1 : l ≤ c) (h2 : c ≤ n) (h3 : (c - l) * ((k : Int) + 1) ≤ n) :
    decide (c < l) = false ∧ IntKind.i64.wrap (c - l) = c - l ∧ IntKind.i64.wrap ((k : Int) + 1) = (k : Int) + 1 ∧ IntKind.i64.wrap ((c - l) * ((k : Int) + 1)) = (c - l) * ((k : Int) + 1) ∧ decide ((n : Int) < (c - l) * ((k : Int) + 1)) = false := by
  have hp : 0 ≤ (c - l) * ((k : Int) + 1) := Int.mul_nonneg (by omega) (by omega)
  refine ⟨by simp; omega, wrapH (by omega) (by omega), wrapH (by omega) (by omega), wrapH (by omega) (by omega), by simp; omega⟩

set_option maxRecDepth 100000 in
set_option maxHeartbeats 8000000 in
theorem heavyBound_any (w : World) (K : Int) (a : Option Addr) (n c : Nat) (kf : Nat → Int) (hv : RdF w (.slice a n c) n (fun j => .int .i64 (kf j))) (hw : ∀ j, j < n → -9223372036854775808 ≤ kf j ∧ kf j ≤ 9223372036854775807) :
    Calls Try.prog 8 #[.int .i64 K, .slice a n c] w fun e w' => e = .returned (.bool true) ∧ Fr [] w w' := by
  have HV := Lib.hid hv; clear hv
  have HWF := Lib.hid hw; clear hw
  go_enter Try.func8, Try.ntmps8
  go_wp2_with fail
  refine (heavyOne_any _).mono ?_
  rintro e w1 ⟨rfl, hf1⟩
  have HF1 := Lib.hid hf1; clear hf1
  by_cases hk : 1 ≤ K ∧ K ≤ 64
  · obtain ⟨k, rfl⟩ : ∃ k : Nat, K = (k : Int) := ⟨K.toNat, by omega⟩
    have hk1 : 1 ≤ k := by omega
    have hk64 : k ≤ 64 := by omega
    go_wp2_with fail
    refine (heavyNew_ok w1 k hk1 hk64).mono ?_
    rintro e w2 ⟨rfl, hv2, hf2⟩
    have HH2 := Lib.hid hv2; clear hv2
    have HF2 := Lib.hid (HF1.out.trans hf2 (S := []) (by simp)); clear hf2 hk
    have hs1 := HF1.out.size
    obtain ⟨b, hb⟩ : ∃ b, w1.heap.size = b := ⟨_, rfl⟩
    obtain ⟨p, hp⟩ : ∃ p, w1.heap.size + 1 = p := ⟨_, rfl⟩
    rw [hp] at HH2 ⊢
    rw [hb] at HH2 hs1
    have hpb : w.heap.size ≤ p := by omega
    clear hp hb
    by_cases hn : n ≤ 80
    · have e2 : decide ((80 : Int) < (n : Int)) = false := by simp; omega
      go_wp2
      clear e2
      go_loopw [8] (fun j wr => ∃ t : Nat, t ≤ n ∧ j = .int .i64 t ∧ Hv wr p b k t (stH kf k t) ∧ Fr [] w wr) (fun j _ => n - (intOf j).toNat)
      case atStart => exact ⟨0, by omega, rfl, HH2.out, HF2.out⟩
      case round =>
        clear HH2 HF2
        obtain ⟨t, ht, rfl, hh, hf⟩ := hrel
        have HH := Lib.hid hh; clear hh
        have HF := Lib.hid hf; clear hf
        by_cases hlt : t < n
        · obtain ⟨b1, o1, c1, he1, _, _, _, hc1⟩ := HV.out.shape (by omega)
          simp only [Value.slice.injEq, true_and] at he1
          obtain ⟨rfl, rfl⟩ := he1
          have k1 := HF.out.cell (hc1 t hlt) (by simp)
          have HXW := Lib.hid (HWF.out t hlt)
          clear hc1
          have k0 : (0 : Int) ≤ (t : Int) := by omega
          have k3 : (t : Int) < (n : Int) := by omega
          go_wp2_with (first
            | (go_at_call 26; refine (heavyAdd_any wr p b k t _ HH.out (by omega) (kf t) HXW.out).mono ?_; rintro e w3 ⟨rfl, h3, f3⟩; have HH3 := Lib.hid h3; have HF3 := Lib.hid (HF.out.trans f3 (by simp; omega)); clear h3 f3)
            | go_in)
          go_roundw
          case rel => exact ⟨t + 1, by omega, by go_num, HH3.out, HF3.out⟩
          case measure => simp [intOf]; omega
        · obtain rfl : t = n := by omega
          have HINV := Lib.hid HH.out.inv
          have hll : (stH kf k t).length ≤ k := HH.out.inv.len
          have HBD := Lib.hid (heavy_bound kf k t)
          have HLK := Lib.hid (fun x => lk_bd HINV.out x)
          have HSC := Lib.hid (fun x => scn_lk HINV.out.asc x)
          generalize stH kf k t = L at *
          have e3 : decide (k < L.length) = false := by simp; omega
          go_wp2_with (first
            | (go_at_call 27; refine (heavyKept_any wr p b k t _ HH.out).mono ?_; rintro e w4 ⟨a4, c4, rfl, h4, f4⟩; have HO4 := Lib.hid h4; have HF4 := Lib.hid (HF.out.trans f4 (S := []) (by simp)); clear h4 f4)
            | go_in)
          clear HH HF HINV e3
          go_loopw [10] (fun j wr => ∃ i : Nat, i ≤ t ∧ j = .int .i64 i ∧ Fr [] w4 wr) (fun j _ => t - (intOf j).toNat)
          case atStart => exact ⟨0, by omega, rfl, Fr.refl _ _⟩
          case round =>
            obtain ⟨i, hi, rfl, hf5⟩ := hrel
            have HF5 := Lib.hid hf5; clear hf5
            by_cases hil : i < t
            · obtain ⟨b1, o1, c1, he1, _, _, _, hc1⟩ := HV.out.shape (by omega)
              simp only [Value.slice.injEq, true_and] at he1
              obtain ⟨rfl, rfl⟩ := he1
              have HC := Lib.hid hc1; clear hc1
              obtain ⟨wo, hwo⟩ : ∃ wo : World, wo = wr := ⟨_, rfl⟩
              rw [← hwo] at HF5 ⊢
              clear hwo wr
              have i0 : (0 : Int) ≤ (i : Int) := by omega
              have i3 : (i : Int) < (t : Int) := by omega
              go_wp2
              go_loopw [11, 12] (fun o j wr => ∃ u : Nat, u ≤ t ∧ j = .int .i64 u ∧ o = .int .i64 (cn kf (kf i) u) ∧ Fr [] w4 wr) (fun _ j _ => t - (intOf j).toNat)
              case atStart => exact ⟨0, by omega, rfl, rfl, HF5.out⟩
              case round =>
                clear HF5
                obtain ⟨u, hu, rfl, rfl, hf6⟩ := hrel
                have HF6 := Lib.hid hf6; clear hf6
                by_cases hul : u < t
                · have u0 : (0 : Int) ≤ (u : Int) := by omega
                  have u3 : (u : Int) < (t : Int) := by omega
                  have k1 := HF6.out.cell (HF4.out.cell (HC.out u hul) (by simp)) (by simp)
                  have k2 := HF6.out.cell (HF4.out.cell (HC.out i hil) (by simp)) (by simp)
                  obtain ⟨d1, d2⟩ := cn_bd kf (kf i) u
                  have hcs : cn kf (kf i) (u + 1) = cn kf (kf i) u + (if kf u = kf i then 1 else 0) := rfl
                  have HCS := Lib.hid hcs; clear hcs
                  by_cases he : kf u = kf i
                  · rw [if_pos he] at HCS
                    rw [he] at k1
                    clear he
                    generalize cn kf (kf i) u = z at *
                    generalize kf i = x at *
                    go_wp2_with (first | go_quiet (fail) | go_in)
                    go_roundw
                    case rel => exact ⟨u + 1, by omega, by go_num, by rw [HCS.out], HF6.out.drewN _⟩
                    case measure => simp [intOf]; omega
                  · rw [if_neg he, Int.add_zero] at HCS
                    have e5 : (kf u == kf i) = false := by simpa using he
                    clear he
                    generalize cn kf (kf i) u = z at *
                    generalize kf i = x at *
                    generalize kf u = y at *
                    go_wp2_with (first | go_quiet (fail) | go_in)
                    go_roundw
                    case rel => exact ⟨u + 1, by omega, by go_num, by rw [HCS.out], HF6.out.drewN _⟩
                    case measure => simp [intOf]; omega
                · obtain rfl : u = t := by omega
                  obtain ⟨wm, hwm⟩ : ∃ wm : World, wm = wr := ⟨_, rfl⟩
                  rw [← hwm] at HF6 ⊢
                  clear hwm wr
                  go_wp2
                  go_loopw [13, 14] (fun o j wr => ∃ v : Nat, v ≤ L.length ∧ j = .int .i64 v ∧ o = .int .i64 (scn L (kf i) v) ∧ Fr [] w4 wr) (fun _ j _ => L.length - (intOf j).toNat)
                  case atStart => exact ⟨0, by omega, rfl, rfl, HF6.out⟩
                  case round =>
                    clear HF6
                    obtain ⟨v, hvl, rfl, rfl, hf7⟩ := hrel
                    have HF7 := Lib.hid hf7; clear hf7
                    by_cases hv2 : v < L.length
                    · have v0 : (0 : Int) ≤ (v : Int) := by omega
                      have v3 : (v : Int) < (L.length : Int) := by omega
                      obtain ⟨g4, cap4, he4, hg4, hrow4⟩ := HO4.out.row (by omega)
                      simp only [Value.slice.injEq, true_and] at he4
                      obtain ⟨rfl, rfl⟩ := he4
                      have k1 := HF7.out.cell (hrow4.cells v hv2).1 (by simp)
                      have k1b := HF7.out.cell (hrow4.cells v hv2).2 (by simp)
                      have k2 := HF7.out.cell (HF4.out.cell (HC.out i hil) (by simp)) (by simp)
                      have hcs : scn L (kf i) (v + 1) = if (lq L v).1 = kf i then (lq L v).2 else scn L (kf i) v := rfl
                      have HCS := Lib.hid hcs
                      clear hcs hrow4
                      by_cases he : (lq L v).1 = kf i
                      · rw [if_pos he] at HCS
                        rw [he] at k1
                        clear he
                        generalize scn L (kf i) v = z at *
                        generalize kf i = x at *
                        generalize (lq L v).2 = y at *
                        go_wp2_with (first | go_quiet (fail) | go_in)
                        go_roundw
                        case rel => exact ⟨v + 1, by omega, by go_num, by rw [HCS.out], HF7.out.drewN _⟩
                        case measure => simp [intOf]; omega
                      · rw [if_neg he] at HCS
                        have e5 : ((lq L v).1 == kf i) = false := by simpa using he
                        clear he
                        generalize scn L (kf i) v = z at *
                        generalize kf i = x at *
                        generalize (lq L v).1 = y at *
                        go_wp2_with (first | go_quiet (fail) | go_in)
                        go_roundw
                        case rel => exact ⟨v + 1, by omega, by go_num, by rw [HCS.out], HF7.out.drewN _⟩
                        case measure => simp [intOf]; omega
                    · obtain rfl : v = L.length := by omega
                      rw [HSC.out]
                      obtain ⟨l0, l1⟩ := HLK.out (kf i)
                      obtain ⟨b0, b1⟩ := HBD.out (kf i)
                      obtain ⟨d1, d2⟩ := cn_bd kf (kf i) u
                      obtain ⟨f1, f2, f3, f4, f5⟩ := heavy_fin k u (cn kf (kf i) u) (lk L (kf i)) hk1 hk64 hn l0 b0 d2 b1
                      generalize cn kf (kf i) u = C at *
                      generalize lk L (kf i) = l at *
                      by_cases hl0 : l = 0
                      · subst hl0
                        have e6 : IntKind.i64.wrap (C * ((k : Int) + 1)) = C * ((k : Int) + 1) := by rw [Int.sub_zero] at f4; exact f4
                        have e7 : decide ((u : Int) < C * ((k : Int) + 1)) = false := by rw [Int.sub_zero] at f5; exact f5
                        have e8 : IntKind.i64.wrap (C - 0) = C - 0 := f2
                        rw [Int.sub_zero] at f2 f4 f5
                        go_wp2
                        go_roundw
                        case rel => exact ⟨i + 1, by omega, by go_num, HF7.out⟩
                        case measure => simp [intOf]; omega
                      · have e6 : (l == 0) = false := by simpa using hl0
                        go_wp2
                        go_roundw
                        case rel => exact ⟨i + 1, by omega, by go_num, HF7.out⟩
                        case measure => simp [intOf]; omega
            · obtain rfl : i = t := by omega
              go_wp2
              go_ret
              exact ⟨rfl, HF4.out.trans HF5.out (by simp)⟩
    · have e2 : decide ((80 : Int) < (n : Int)) = true := by simp; omega
      go_wp2
      go_ret
      exact ⟨rfl, HF2.out⟩
  · go_wp2_with fail
    refine (heavyNew_bad w1 K hk).mono ?_
    rintro e w2 ⟨rfl, rfl⟩
    go_wp2
    go_ret
    exact ⟨rfl, HF1.out⟩
end Go.Proofs.Ytgpfkaiinbncnaa
