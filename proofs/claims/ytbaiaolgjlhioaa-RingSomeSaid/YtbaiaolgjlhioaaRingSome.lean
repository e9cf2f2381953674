/- RingSome: the walk. -/
import Derived.Test.YtbaiaolgjlhioaaRingSub
import Derived.Test.YtbaiaolgjlhioaaRingLaw0
namespace Go.Proofs.Ytbaiaolgjlhioaa
open Go.RowKit Go.Sort

set_option maxHeartbeats 4000000 in
set_option maxRecDepth 100000 in
theorem ringSome_any (w : World) (a : Option Addr) (n c : Nat) (p : Nat → Int × Int) (hv : RdP w (.slice a n c) n p) (hn : n * 16 ≤ 140737488351232) (b2 : Option Addr) (m2 c2 : Nat) (f : Nat → Bool) (hf : RdF w (.slice b2 m2 c2) m2 (fun j => .bool (f j)))
    (ka : Option Addr) (m kc : Nat) (kf : Nat → Int) (hk : RdF w (.slice ka m kc) m (fun j => .int .u8 (kf j))) (hb : ∀ j, j < m → 0 ≤ kf j ∧ kf j ≤ 255) (hm : m ≤ 9223372036854775807) :
    Calls Try.prog 6 #[.slice a n c, .slice b2 m2 c2, .slice ka m kc] w fun e w' => e = .returned (.bool true) ∧ Fr [] w w' := by
  have HV := Lib.hid hv; clear hv
  have HB := Lib.hid hf; clear hf
  have HK := Lib.hid hk; clear hk
  have HKB := Lib.hid hb; clear hb
  go_enter Try.func6, Try.ntmps6
  go_wp2_with fail
  refine (ringed_any _).mono ?_
  rintro e w1 ⟨rfl, hf1⟩
  have HF1 := Lib.hid hf1; clear hf1
  go_wp2_with fail
  refine (pick_any _ a n c p (HV.out.fr HF1.out) ka m kc kf (HK.out.fr HF1.out (by simp)) HKB.out hm).mono ?_
  rintro e w2 ⟨⟨hz, r, hW, rfl⟩ | ⟨hz, rfl⟩, hf2⟩
  case inr =>
    have HF2 := Lib.hid (HF1.out.trans hf2 (by simp))
    have e : erV (nfault p n) = .iface 59 (.int .i64 (nfault p n)) := by unfold erV; rw [if_neg hz]
    rw [e]
    clear e hz hf2
    go_wp2
    go_ret
    exact ⟨rfl, HF2.out⟩
  have HGD := Lib.hid ((nfault_iff p n).1 hz)
  have HW := Lib.hid hW
  have HF2 := Lib.hid (HF1.out.trans hf2 (by simp))
  clear hz hW hf2
  go_wp2_with fail
  refine (some_any _ a n c p (HV.out.fr HF2.out) hn b2 m2 c2 f (HB.out.fr HF2.out (by simp))).mono ?_
  obtain ⟨G, hG⟩ : ∃ G : Nat → Bool, G = fun j => decide (j < m2) && f j := ⟨_, rfl⟩
  rw [← hG]
  clear hG
  rintro e w3 ⟨v, rfl, hO, hf3⟩
  obtain ⟨a3, c3, hv3⟩ := hO.rd.slice
  subst hv3
  have HF3 := Lib.hid (HF2.out.trans hf3 (by simp))
  have HSUB := Lib.hid (som_sub p G n)
  have HGO := Lib.hid (fun h0 => som_good HGD.out G h0)
  have hlen := som_len p G n
  have h40 := HGD.out.n40
  have HO := Lib.hid hO.rd
  clear hO hf3
  generalize som p G n = L at *
  generalize hN : L.length = N at *
  have HN := Lib.hid hN; clear hN
  go_wp2_with fail
  refine (pick_any _ a3 N c3 (lp L) HO.out ka m kc kf (HK.out.fr HF3.out (by simp)) HKB.out hm).mono ?_
  rintro e w4 ⟨hp4, hf4⟩
  have HF4 := Lib.hid (HF3.out.trans hf4 (by simp))
  have HO4 := Lib.hid (HO.out.fr hf4)
  clear hf4
  obtain ⟨b, ee, he, hin, hout⟩ : ∃ (b : Int) (ee : Value), e = .returned (.tuple #[.int .i64 b, ee]) ∧ (0 < N → ee = .nilIface ∧ Win (pts (lp L) N) (hsh kf m) b) ∧ (N = 0 → ee = .iface 59 (.int .i64 9)) := by
    rcases hp4 with ⟨hz, b, hW, rfl⟩ | ⟨hz, rfl⟩
    · exact ⟨b, _, rfl, fun _ => ⟨rfl, hW⟩, fun h => by subst h; rw [nfault_none] at hz; omega⟩
    · refine ⟨0, _, rfl, fun h => absurd ((nfault_iff _ _).2 (HGO.out h)) hz, fun h => ?_⟩
      subst h
      rw [nfault_none]
      rfl
  subst he
  have HIN := Lib.hid hin
  have HOUT := Lib.hid hout
  clear hp4 hin hout
  go_wp2
  go_loopw [13] (fun vi wr => ∃ i : Nat, i ≤ N ∧ vi = .int .i64 i ∧ wr = w4) (fun vi _ => N - (intOf vi).toNat)
  case atStart => exact ⟨0, by omega, rfl, rfl⟩
  case round =>
    obtain ⟨i, hi, rfl, rfl⟩ := hrel
    by_cases hlt : i < N
    · obtain ⟨he, hWb⟩ := HIN.out (by omega)
      have HWB := Lib.hid hWb
      subst he
      obtain ⟨bb, o, cap', he, hnc, hcm, hbw, hc⟩ := HO4.out.shape (by omega)
      simp only [Value.slice.injEq, true_and] at he
      obtain ⟨rfl, rfl⟩ := he
      obtain ⟨k0, k1⟩ := hc i hlt
      clear hc k1 hWb
      by_cases hid : (lp L i).1 = r
      · have hbr : b = r := by
          have h1 := HW.out.sub HSUB.out.ptsub (fun x hx hxr => HSUB.out.own HGD.out i hlt x hx (by rw [hxr, hid]))
          exact HWB.out.det h1
        rw [hid] at k0
        subst hbr
        clear hid
        go_wp2
        go_ret
        exact ⟨rfl, HF4.out⟩
      · have hid2 : ((lp L i).1 == r) = false := by simpa using hid
        clear hid
        go_wp2
        go_roundw
        case rel => exact ⟨i + 1, by omega, by go_num, by trivial⟩
        case measure => simp [intOf]; omega
    · obtain rfl : i = N := by omega
      by_cases h0 : i = 0
      · have he := HOUT.out h0
        subst he
        subst h0
        go_wp2
        go_ret
        exact ⟨rfl, HF4.out⟩
      · have h1 : 0 < i := by omega
        go_wp2
        go_ret
        exact ⟨rfl, HF4.out⟩

end Go.Proofs.Ytbaiaolgjlhioaa
