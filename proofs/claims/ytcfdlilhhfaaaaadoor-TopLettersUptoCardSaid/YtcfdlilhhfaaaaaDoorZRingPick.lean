/- ring.Pick: who is next behind the key, once round. -/
import Derived.Test.YtcfdlilhhfaaaaaDoorZbase6
import Derived.Test.YtcfdlilhhfaaaaaDoorZRingFind
import Derived.Test.YtcfdlilhhfaaaaaDoorZbase1
namespace Go.Proofs.YtcfdlilhhfaaaaaDoor
open Go.RowKit Go.Sort

/-- how far x is behind h, once round -/
def far (h x : Int) : Int := if x < h then x - h + 4294967296 else x - h

/-- r is the number of the point that is next behind h -/
def Win (L : List (Int × Int)) (h r : Int) : Prop := ∃ m ∈ L, r = m.2 ∧ ∀ x ∈ L, far h m.1 < far h x.1 ∨ (far h m.1 = far h x.1 ∧ m.2 ≤ x.2)

theorem Win.det {L : List (Int × Int)} {h r r' : Int} (a : Win L h r) (b : Win L h r') : r = r' := by
  obtain ⟨m, hm, rfl, h1⟩ := a
  obtain ⟨m', hm', rfl, h2⟩ := b
  have := h1 _ hm'
  have := h2 _ hm
  omega

/-- who wins among all wins among some -/
theorem Win.sub {L M : List (Int × Int)} {h r : Int} (a : Win L h r) (hs : ∀ x ∈ M, x ∈ L) (hr : ∀ x ∈ L, x.2 = r → x ∈ M) : Win M h r := by
  obtain ⟨m, hm, rfl, h1⟩ := a
  exact ⟨m, hr m hm rfl, rfl, fun x hx => h1 x (hs x hx)⟩

theorem Win.congr {L M : List (Int × Int)} {h r : Int} (a : Win L h r) (hs : ∀ x, x ∈ M ↔ x ∈ L) : Win M h r := a.sub (fun x hx => (hs x).1 hx) (fun x hx _ => (hs x).2 hx)

theorem Win.mem {L : List (Int × Int)} {h r : Int} (a : Win L h r) : ∃ m ∈ L, m.2 = r := by
  obtain ⟨m, hm, rfl, _⟩ := a
  exact ⟨m, hm, rfl⟩

/-- points are hashes with numbers from 0 on -/
def PtOk (L : List (Int × Int)) : Prop := ∀ x ∈ L, (0 ≤ x.1 ∧ x.1 ≤ 4294967295) ∧ 0 ≤ x.2

theorem pts_ok {p : Nat → Int × Int} {n : Nat} (h : NGood p n) : PtOk (pts p n) := by
  intro x hx
  obtain ⟨i, k, hi, _, rfl⟩ := (pts_mem x).1 hx
  have := h.rng i hi
  unfold NRange at this
  exact ⟨hsh_bd _ _, this.1⟩

theorem cf_key (x : Int × Int) (h : Int) (hx : 0 ≤ x.2) : cf2 x (h, -1) < 0 ↔ x.1 < h := by
  have e := lt_cf2 x (h, -1)
  unfold ltOf at e
  have e2 := decide_eq_decide.1 e
  rw [e2]
  simp only []
  omega

theorem win_found (L : List (Int × Int)) (h : Int) (i : Nat) (hL : PtOk L) (h0 : 0 < L.length) (hh : 0 ≤ h ∧ h ≤ 4294967295) (hi : i ≤ L.length)
    (h1 : ∀ j, j < i → cf2 (lp (srt L) j) (h, -1) < 0) (h2 : ∀ j, i ≤ j → j < L.length → ¬ cf2 (lp (srt L) j) (h, -1) < 0) : Win L h (lp (srt L) (i % L.length)).2 := by
  have hin : ∀ j, j < L.length → lp (srt L) j ∈ L := fun j hj => (srt_mem L _).1 (lp_mem (by rw [srt_len]; exact hj))
  have hex : ∀ x ∈ L, ∃ j, j < L.length ∧ x = lp (srt L) j := fun x hx => by
    obtain ⟨j, hj, e⟩ := List.getElem_of_mem ((srt_mem L x).2 hx)
    exact ⟨j, by rw [srt_len] at hj; exact hj, by rw [lp_get hj, e]⟩
  have hso : ∀ a b, a ≤ b → b < L.length → (lp (srt L) a).1 < (lp (srt L) b).1 ∨ ((lp (srt L) a).1 = (lp (srt L) b).1 ∧ (lp (srt L) a).2 ≤ (lp (srt L) b).2) := fun a b hab hb => by
    by_cases e : a = b
    · subst e; omega
    · have := srt_sorted L a b (by omega) hb
      rw [lt_cf2] at this
      simp only [decide_eq_false_iff_not] at this
      omega
  by_cases hin2 : i < L.length
  · rw [Nat.mod_eq_of_lt hin2]
    refine ⟨_, hin i hin2, rfl, fun x hx => ?_⟩
    obtain ⟨j, hj, rfl⟩ := hex x hx
    have hm := hL _ (hin i hin2)
    have hxx := hL _ hx
    have e1 := (not_congr (cf_key _ h hm.2)).1 (h2 i (Nat.le_refl _) hin2)
    unfold far
    by_cases hji : j < i
    · have e2 := (cf_key _ h hxx.2).1 (h1 j hji)
      rw [if_neg e1, if_pos e2]
      omega
    · have e2 := (not_congr (cf_key _ h hxx.2)).1 (h2 j (by omega) hj)
      have e3 := hso i j (by omega) hj
      rw [if_neg e1, if_neg e2]
      omega
  · obtain rfl : i = L.length := by omega
    rw [Nat.mod_self]
    refine ⟨_, hin 0 h0, rfl, fun x hx => ?_⟩
    obtain ⟨j, hj, rfl⟩ := hex x hx
    have e1 := (cf_key _ h (hL _ (hin 0 h0)).2).1 (h1 0 h0)
    have e2 := (cf_key _ h (hL _ hx).2).1 (h1 j hj)
    have e3 := hso 0 j (by omega) hj
    unfold far
    rw [if_pos e1, if_pos e2]
    omega

theorem srt_mono (L : List (Int × Int)) (hL : PtOk L) (h : Int) (j k : Nat) (hjk : j ≤ k) (hk : k < L.length) (hc : cf2 (lp (srt L) k) (h, -1) < 0) : cf2 (lp (srt L) j) (h, -1) < 0 := by
  have hin : ∀ j, j < L.length → lp (srt L) j ∈ L := fun j hj => (srt_mem L _).1 (lp_mem (by rw [srt_len]; exact hj))
  rw [cf_key _ _ (hL _ (hin _ (by omega))).2]
  have h1 := (cf_key _ _ (hL _ (hin _ hk)).2).1 hc
  by_cases e : j = k
  · subst e; exact h1
  · have := srt_sorted L j k (by omega) hk
    rw [lt_cf2] at this
    simp only [decide_eq_false_iff_not] at this
    omega

theorem pts_pos {p : Nat → Int × Int} {n : Nat} (h : NGood p n) : 0 < (pts p n).length := by
  have h0 := h.n0
  have hr := h.rng 0 h0
  unfold NRange at hr
  have hm : (ph (p 0).1 (0 : Nat), (p 0).1) ∈ pts p n := (pts_mem _).2 ⟨0, 0, h0, by omega, rfl⟩
  exact List.length_pos_of_mem hm

/-- what Pick tells -/
def PickAt (w : World) (p : Nat → Int × Int) (n : Nat) (h : Int) (e : Ending) (w' : World) : Prop :=
  (nfault p n = 0 ∧ (∃ r, Win (pts p n) h r ∧ e = .returned (.tuple #[.int .i64 r, .nilIface])) ∨ nfault p n ≠ 0 ∧ e = .returned (.tuple #[.int .i64 0, erV (nfault p n)])) ∧ Fr [] w w'

set_option maxHeartbeats 4000000 in
set_option maxRecDepth 100000 in
theorem pick_any (w : World) (a : Option Addr) (n c : Nat) (p : Nat → Int × Int) (hv : RdP w (.slice a n c) n p) (ka : Option Addr) (m kc : Nat) (kf : Nat → Int) (hk : RdF w (.slice ka m kc) m (fun j => .int .u8 (kf j))) (hb : ∀ j, j < m → 0 ≤ kf j ∧ kf j ≤ 255) (hm : m ≤ 9223372036854775807) :
    Calls Tryd.prog 18 #[.slice a n c, .slice ka m kc] w (PickAt w p n (hsh kf m)) := by
  have HV := Lib.hid hv; clear hv
  have HK := Lib.hid hk; clear hk
  have HB := Lib.hid hb; clear hb
  go_enter Tryd.func18, Tryd.ntmps18
  go_wp2_with fail
  refine (check_any _ a n c p HV.out).mono ?_
  rintro e w1 ⟨rfl, hf1⟩
  by_cases hg : nfault p n = 0
  · have HG := Lib.hid ((nfault_iff p n).1 hg)
    rw [hg]
    rw [show erV 0 = .nilIface from rfl]
    have HZ := Lib.hid hg; clear hg
    have HF1 := Lib.hid hf1; clear hf1
    go_wp2_with fail
    refine (points_any _ a n c p (HV.out.fr HF1.out) HG.out).mono ?_
    rintro e w2 ⟨v, rfl, hO, hf2⟩
    have hl := pts_len HG.out.rng n (Nat.le_refl _)
    have h40 := HG.out.n40
    have hlp := pts_pos HG.out
    have hsl := srt_len (pts p n)
    obtain ⟨N, hN⟩ : ∃ N, (pts p n).length = N := ⟨_, rfl⟩
    have HN := Lib.hid hN
    rw [hsl] at hO
    rw [hN] at hO hl hlp
    clear hN hsl
    obtain ⟨g, cap, rfl, hge, hrow⟩ := hO.row hlp
    have HR := Lib.hid hrow; clear hrow hO
    have HF2 := Lib.hid (HF1.out.trans hf2 (by simp)); clear hf2
    go_wp2_with fail
    refine (hash_any _ ka m kc kf (HK.out.fr HF2.out (by simp)) HB.out hm).mono ?_
    rintro e w3 ⟨rfl, rfl⟩
    have hhb := hsh_bd kf m
    generalize hsh kf m = hh at *
    go_wp2_with fail
    refine (search_any _ _ N cap (lp (srt (pts p n))) (hh, -1) HR.out.rd (by omega) (fun j k h1 h2 h3 => srt_mono (pts p n) (pts_ok HG.out) hh j k h1 (by rw [HN.out]; exact h2) h3)).mono ?_
    rintro e w4 ⟨i, bb, rfl, hi, hlo, hhi, hf4⟩
    have hW := win_found (pts p n) hh i (pts_ok HG.out) (by rw [HN.out]; exact hlp) hhb (by rw [HN.out]; exact hi) hlo (fun j h1 h2 => hhi j h1 (by rw [← HN.out]; exact h2))
    rw [HN.out] at hW
    have HW := Lib.hid hW
    have HF4 := Lib.hid (HF2.out.trans hf4 (by simp))
    have hrow4 := HR.out.kept hf4 (by simp)
    have hmod : i % N < N := Nat.mod_lt _ hlp
    obtain ⟨k0, k1⟩ := hrow4.cells (i % N) hmod
    have ht : (i : Int).tmod (N : Int) = ((i % N : Nat) : Int) := by rw [Int.tmod_eq_emod_of_nonneg (by omega)]; rfl
    have hn0 : ¬ N = 0 := by omega
    have hn1 : ¬ (N : Int) = 0 := by omega
    generalize i % N = im at *
    have hi0 : (0 : Int) ≤ (im : Int) := by omega
    have hi1 : (im : Int) < (N : Int) := by omega
    clear hW hlo hhi hf4 hrow4 k0
    generalize (lp (srt (pts p n)) im).2 = r at *
    go_wp2
    go_ret2
    exact ⟨.inl ⟨HZ.out, r, HW.out, rfl⟩, HF4.out⟩
  · have e : erV (nfault p n) = .iface 25 (.int .i64 (nfault p n)) := by unfold erV; rw [if_neg hg]
    have HE := Lib.hid e
    rw [e]
    have HZ := Lib.hid hg
    clear hg e
    go_wp2
    go_ret2
    exact ⟨.inr ⟨HZ.out, by rw [HE.out]; rfl⟩, hf1⟩

end Go.Proofs.YtcfdlilhhfaaaaaDoor
