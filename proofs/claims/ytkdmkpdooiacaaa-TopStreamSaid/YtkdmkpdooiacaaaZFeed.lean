/- Feed: the messages that are whole, and what is left. -/
import Derived.Test.YtkdmkpdooiacaaaZbase1
namespace Go.Proofs.Ytkdmkpdooiacaaa
open Go.RowKit

theorem infoBs : (Try.prog.info? 27).map (fun i => (i.zero, i.size, i.bytes)) = some (some (.slice none 0 0), 1, 24) := by kernel_rfl

/-- what a stream's rest is, in the middle of 'Feed': behind k messages of a row g0 of N bytes -/
def SV (h : Nat → Int) (N g0 cap0 k : Nat) (sv : Value) : Prop :=
  (0 < N ∧ sv = .slice (some ⟨g0, pos h k, none⟩) (N - pos h k) (cap0 - pos h k)) ∨ (N = pos h k ∧ (∃ a c, sv = .slice a 0 c) ∧ ∀ (w : World) (f : Nat → Value), RdF w sv 0 f)

def FeedRel (w w1 : World) (S : List Nat) (p : Nat) (h : Nat → Int) (N g0 cap0 : Nat) (v : Value) (wr : World) : Prop :=
  ∃ (k : Nat) (V : Nat → Value) (sv : Value), pos h k ≤ N ∧ wr.heap[p]? = some (.cells #[sv] 46 (0, 0)) ∧ SV h N g0 cap0 k sv ∧
    OwnF wr w1.heap.size 27 v k V ∧
    (∀ i, i < k → OwnF wr w1.heap.size 5 (V i) (pos h (i + 1) - pos h i - 2) (fun j => .int .u8 (h (pos h i + 2 + j))) ∧ ∀ x ∈ (V i).ownBlock.toList, x ∉ v.ownBlock.toList) ∧
    (0 < N → RowF wr g0 5 N cap0 (fun j => .int .u8 (h j))) ∧ Fr S w wr ∧ w1.heap.size ≤ wr.heap.size

/-- what 'Feed' leaves -/
def FeedPost (w : World) (S : List Nat) (p : Nat) (h : Nat → Int) (N : Nat) (e : Ending) (w' : World) : Prop :=
  ∃ (k : Nat) (out rest : Value) (V : Nat → Value), pos h k ≤ N ∧ N < pos h (k + 1) ∧ e = .returned out ∧ OwnF w' w.heap.size 27 out k V ∧
    (∀ i, i < k → OwnF w' w.heap.size 5 (V i) (pos h (i + 1) - pos h i - 2) (fun j => .int .u8 (h (pos h i + 2 + j))) ∧ (∀ x ∈ (V i).ownBlock.toList, x ∉ out.ownBlock.toList) ∧ ∀ x ∈ (V i).ownBlock.toList, x ∉ rest.ownBlock.toList) ∧
    w'.heap[p]? = some (.cells #[rest] 46 (0, 0)) ∧ OwnF w' w.heap.size 5 rest (N - pos h k) (fun j => .int .u8 (h (pos h k + j))) ∧ (∀ x ∈ rest.ownBlock.toList, x ∉ out.ownBlock.toList) ∧ Fr S w w'

def lenOf : Value → Nat
  | .slice _ n _ => n
  | _ => 0

theorem SV.shape {h : Nat → Int} {N g0 cap0 k : Nat} {sv : Value} (hs : SV h N g0 cap0 k sv) : ∃ a c, sv = .slice a (N - pos h k) c := by
  rcases hs with ⟨_, rfl⟩ | ⟨e, ⟨a, c, rfl⟩, _⟩
  · exact ⟨_, _, rfl⟩
  · exact ⟨a, c, by rw [show N - pos h k = 0 by omega]⟩

theorem SV.rd {h : Nat → Int} {N g0 cap0 k : Nat} {sv : Value} {w : World} (hs : SV h N g0 cap0 k sv) (hr : 0 < N → RowF w g0 5 N cap0 (fun j => .int .u8 (h j))) (hk : pos h k ≤ N) : RdF w sv (N - pos h k) (fun j => .int .u8 (h (pos h k + j))) := by
  rcases hs with ⟨h0, rfl⟩ | ⟨e, _, h0⟩
  · have h1 := hr h0
    refine .inr ⟨_, _, rfl, by have := h1.le; omega, by have := h1.cap_le; omega, fun j hj => ?_⟩
    have e : (⟨g0, pos h k, none⟩ : Addr).add j = ⟨g0, pos h k + j, none⟩ := by unfold Addr.add; split <;> simp_all
    rw [e]
    exact h1.cell _ (by omega)
  · rw [show N - pos h k = 0 by omega]
    exact h0 _ _

theorem pos_le (h : Nat → Int) (i : Nat) : pos h i + 2 ≤ pos h (i + 1) := by simp only [pos]; omega

/-- a round of 'Feed' that takes a message -/
theorem feed_step {w wa wr w3 w4 : World} {S : List Nat} {p : Nat} {H : Nat → Int} {N g0 cap0 k E : Nat} {V : Nat → Value} {u5 v3 v4 sv' : Value} {o : Obj}
    (hpS : p ∈ S) (hpw : p < wa.heap.size) (hsza : w.heap.size ≤ wa.heap.size) (hN0 : 0 < N) (hg0 : g0 ≠ p ∧ g0 < wa.heap.size) (hPS : pos H (k + 1) = pos H k + 2 + E) (hle : pos H (k + 1) ≤ N)
    (hsz : wa.heap.size ≤ wr.heap.size) (hsz3 : wr.heap.size ≤ w3.heap.size) (hu5 : ∀ x ∈ u5.ownBlock.toList, x < wr.heap.size) (hu5w : ∀ x ∈ u5.ownBlock.toList, wa.heap.size ≤ x)
    (hm : OwnF w3 wr.heap.size 5 v3 E (fun j => .int .u8 (H (pos H k + 2 + j))))
    (hV : ∀ i, i < k → OwnF w3 wa.heap.size 5 (V i) (pos H (i + 1) - pos H i - 2) (fun j => .int .u8 (H (pos H i + 2 + j))) ∧ ∀ x ∈ (V i).ownBlock.toList, x ∉ u5.ownBlock.toList)
    (hr : RowF w3 g0 5 N cap0 (fun j => .int .u8 (H j))) (hf : Fr S w w3)
    (ho : OwnF w4 wa.heap.size 27 v4 (k + 1) (app k V (fun _ => v3))) (hf4 : Fr u5.ownBlock.toList (w3.alloc o) w4) (hn4 : SameOrNew (w3.alloc o) u5 v4)
    (hp4 : ∃ x, w4.heap[p]? = some (.cells #[x] 46 (0, 0))) (hsv : SV H N g0 cap0 (k + 1) sv') :
    FeedRel w wa S p H N g0 cap0 v4 (w4.setCell ⟨p, 0, none⟩ sv') := by
  have hf34 : Fr u5.ownBlock.toList w3 w4 := ((Fr.refl _ w3).alloc o).trans hf4 (fun x hx => .inl hx)
  have hfs : Fr [p] w4 (w4.setCell ⟨p, 0, none⟩ sv') := (Fr.refl _ _).setCell (by simp) _
  have hs4 := hf34.size
  have hs5 := hfs.size
  have hnp : ∀ (x : Nat), wa.heap.size ≤ x → x ∉ [p] := fun x hx => by simp; omega
  obtain ⟨x0, hx0⟩ := hp4
  refine ⟨k + 1, fun i => if i = k then v3 else V i, sv', hle, blk_set1 hx0 _, hsv, ?_, fun i hi => ?_, fun _ => ?_, ?_, by omega⟩
  · refine (ho.congr (fun j hj => ?_)).kept hfs (fun g hg => hnp g (ho.ge g (by simp [hg])))
    unfold app
    by_cases hjk : j < k
    · rw [if_pos hjk, if_neg (by omega)]
    · rw [if_neg hjk, if_pos (by omega)]
  · show OwnF _ _ _ (if i = k then v3 else V i) _ _ ∧ ∀ x ∈ (if i = k then v3 else V i).ownBlock.toList, _
    by_cases hik : i = k
    · subst hik
      rw [if_pos rfl]
      have hlt := hm.lt
      have hge := hm.ge
      have hnu : ∀ g, v3.ownBlock = some g → g ∉ u5.ownBlock.toList := fun g hg hx => by
        have h1 := hu5 g hx
        have h2 := hge g (by simp [hg])
        omega
      refine ⟨?_, fun x hx hx2 => ?_⟩
      · have h1 := ((hm.mono hsz).kept hf34 hnu).kept hfs (fun g hg => hnp g (by have := hge g (by simp [hg]); omega))
        rw [show pos H (i + 1) - pos H i - 2 = E by omega]
        exact h1
      · rcases hn4 x hx2 with h1 | h1
        · exact hnu x (by cases hv : v3.ownBlock <;> simp_all) h1
        · have := hlt x hx
          simp at h1
          omega
    · rw [if_neg hik]
      obtain ⟨h1, h2⟩ := hV i (by omega)
      refine ⟨(h1.kept hf34 (fun g hg => h2 g (by simp [hg]))).kept hfs (fun g hg => hnp g (h1.ge g (by simp [hg]))), fun x hx hx2 => ?_⟩
      rcases hn4 x hx2 with h3 | h3
      · exact h2 x hx h3
      · have := h1.lt x hx
        simp at h3
        omega
  · exact (hr.kept hf34 (fun hx => by have := hu5w g0 hx; omega)).kept hfs (by simpa using hg0.1)
  · exact (hf.trans hf34 (fun x hx => .inr (by have := hu5w x hx; omega))).setCell (.inl hpS) _

theorem pos_two (h : Nat → Int) (i : Nat) : 2 * i ≤ pos h i := by
  induction i with
  | zero => simp [pos]
  | succ i ih => have := pos_le h i; omega

set_option maxRecDepth 100000 in
set_option maxHeartbeats 4000000 in
theorem feed_any (w : World) (p : Nat) (rv : Value) (n m : Nat) (a : Option Addr) (c : Nat) (f g H : Nat → Int) (N : Nat)
    (hp : w.heap[p]? = some (.cells #[rv] 46 (0, 0))) (B : Nat) (hr : OwnF w B 5 rv n (fun j => .int .u8 (f j))) (hpr : p ∉ rv.ownBlock.toList) (hB : B ≤ w.heap.size)
    (hb : RdF w (.slice a m c) m (fun j => .int .u8 (g j))) (hN : N = n + m) (hh : ∀ j, j < N → H j = if j < n then f j else g (j - n)) (hbd : ∀ j, 0 ≤ H j ∧ H j ≤ 255) (hs : n + m ≤ 1000000000000) :
    Calls Try.prog 8 #[.pointer (some ⟨p, 0, none⟩), .slice a m c] w (FeedPost w (p :: rv.ownBlock.toList) p H N) := by
  have hlp := lt_of_blk hp
  have c0 := blk_cell hp 0 rfl
  have f0 := blk_frozen hp 0
  have HP := Lib.hid hp; clear hp
  have HR := Lib.hid hr; clear hr
  have HB := Lib.hid hb; clear hb
  have HN := Lib.hid hN; clear hN
  have HH := Lib.hid hh; clear hh
  have HBD := Lib.hid hbd; clear hbd
  have HPR := Lib.hid hpr; clear hpr
  go_enter Try.func8, Try.ntmps8
  go_wp2_with (at_builtin; refine wpList_app rfl (.tmp 11) (.tmp 12) 27 rfl 5 infoU8 Try.underlying27 rfl HR.out rfl HB.out rfl (fun _ _ => rfl) (by unfold maxLen; omega) (by omega) hB ?_; intro v1 w1 ho1 hf1 hn1; obtain ⟨a1, c1, hv1⟩ := ho1.rd.slice; subst hv1; have q0 := hf1.blk HP.out HPR.out; have q1 := blk_cell q0 0 rfl; have q2 := blk_frozen q0 0; have Q0 := Lib.hid q0; clear q0)
  have hall : (w1.setCell ⟨p, 0, none⟩ (.slice a1 (n + m) c1)).heap[p]? = some (.cells #[.slice a1 (n + m) c1] 46 (0, 0)) ∧
      Fr (p :: rv.ownBlock.toList) w (w1.setCell ⟨p, 0, none⟩ (.slice a1 (n + m) c1)) ∧
      (0 < N → ∃ g0 cap0, a1 = some ⟨g0, 0, none⟩ ∧ c1 = cap0 ∧ g0 ≠ p ∧ RowF (w1.setCell ⟨p, 0, none⟩ (.slice a1 (n + m) c1)) g0 5 N cap0 (fun j => .int .u8 (H j))) := by
    refine ⟨blk_set1 Q0.out _, (hf1.mono (fun x hx => .inl (List.mem_cons_of_mem _ hx))).setCell (by left; simp) _, fun hN0 => ?_⟩
    have hN := HN.out
    obtain ⟨g0, cap0, he, hg0, hr0⟩ := ho1.row (by omega)
    simp only [Value.slice.injEq, true_and] at he
    obtain ⟨rfl, rfl⟩ := he
    have hgp : g0 ≠ p := by
      intro e
      rcases hn1 g0 (by simp [Value.ownBlock]) with h1 | h1
      · rw [e] at h1; exact HPR.out h1
      · omega
    refine ⟨g0, c1, rfl, rfl, hgp, ?_⟩
    have h2 := (hr0.kept ((Fr.refl [p] w1).setCell (p := ⟨p, 0, none⟩) (by simp) (.slice (some ⟨g0, 0, none⟩) (n + m) c1)) (by simpa using hgp))
    rw [hN]
    exact h2.congr (fun j hj => by
      rw [HH.out j (by omega)]
      unfold app
      by_cases hjn : j < n
      · rw [if_pos hjn, if_pos hjn]
      · rw [if_neg hjn, if_neg hjn])
  have hz : ¬ 0 < N → ∀ (w : World) (f : Nat → Value), RdF w (.slice a1 (n + m) c1) 0 f := fun h0 w f => by
    have hN := HN.out
    have h1 := ho1.rd
    rw [show n + m = 0 by omega] at h1 ⊢
    exact h1.zero w f
  clear ho1 hf1 hn1 q1 q2 c0 f0 Q0
  generalize w1.setCell ⟨p, 0, none⟩ (.slice a1 (n + m) c1) = wa at *
  obtain ⟨b0, hfa, hrow⟩ := hall
  have hlpa := lt_of_blk b0
  have hsza := hfa.size
  obtain ⟨g0, cap0, hgp, hsv, hrow⟩ : ∃ g0 cap0, (0 < N → g0 ≠ p ∧ g0 < wa.heap.size) ∧ SV H N g0 cap0 0 (.slice a1 (n + m) c1) ∧ (0 < N → RowF wa g0 5 N cap0 (fun j => .int .u8 (H j))) := by
    by_cases hN0 : 0 < N
    · obtain ⟨g0, cap0, rfl, rfl, hgp, hr⟩ := hrow hN0
      exact ⟨g0, c1, fun _ => ⟨hgp, hr.lt⟩, .inl ⟨hN0, by rw [HN.out]; rfl⟩, fun _ => hr⟩
    · exact ⟨0, 0, fun H => absurd H hN0, .inr ⟨by simp only [pos]; omega, ⟨a1, c1, by have := HN.out; rw [show n + m = 0 by omega]⟩, hz hN0⟩, fun H => absurd H hN0⟩
  have HREL : Hid (FeedRel w wa (p :: rv.ownBlock.toList) p H N g0 cap0 (.slice none 0 0) wa) :=
    ⟨0, fun _ => undef, _, Nat.zero_le _, b0, hsv, OwnF.nil _ _ _ _, fun i hi => absurd hi (by omega), hrow, hfa, Nat.le_refl _⟩
  clear b0 hfa hrow hsv
  have HGP := Lib.hid hgp; clear hgp
  go_loopw [5] (fun v wr => FeedRel w wa (p :: rv.ownBlock.toList) p H N g0 cap0 v wr) (fun v _ => N + 1 - lenOf v)
  case atStart => exact HREL.out
  case round =>
    obtain ⟨k, V, sv, hpk, b0, hsv, ho, hV, hrow, hf, hsz⟩ := hrel
    obtain ⟨sa, sc, hss⟩ := hsv.shape
    subst hss
    have c0 := blk_cell b0 0 rfl
    have f0 := blk_frozen b0 0
    have B0 := Lib.hid b0; clear b0
    have HSV := Lib.hid hsv; clear hsv
    have HO := Lib.hid ho; clear ho
    have HVV := Lib.hid hV; clear hV
    have HROW := Lib.hid hrow; clear hrow
    have HF := Lib.hid hf; clear hf
    have hbk := HBD.out (pos H k)
    have hbk1 := HBD.out (pos H k + 1)
    have hps : pos H (k + 1) = pos H k + 2 + (H (pos H k) * 256 + H (pos H k + 1)).toNat := rfl
    have HPS := Lib.hid hps; clear hps
    have hN12 : N ≤ 1000000000000 := by have := HN.out; omega
    by_cases hL : N - pos H k < 2
    · have hL' : ¬ (2 : Int) ≤ ((N - pos H k : Nat) : Int) := by omega
      go_wp2_with fail
      have hlast : N < pos H (k + 1) := by have := pos_le H k; omega
      refine (clone_bytes _ _ (N - pos H k) (fun j => H (pos H k + j)) (HSV.out.rd HROW.out hpk) (by omega)).mono ?_
      rintro e w3 ⟨v3, rfl, ho3, hf3⟩
      obtain ⟨a3, c3, hv3⟩ := ho3.rd.slice
      subst hv3
      have b3 := hf3.blk B0.out (by simp)
      have d0 := blk_cell b3 0 rfl
      have d1 := blk_frozen b3 0
      have hs3 := hf3.size
      have hfs : Fr [p] w3 (w3.setCell ⟨p, 0, none⟩ (.slice a3 (N - pos H k) c3)) := (Fr.refl _ _).setCell (by simp) _
      have hpost : FeedPost w (p :: rv.ownBlock.toList) p H N (.returned u5) (w3.setCell ⟨p, 0, none⟩ (.slice a3 (N - pos H k) c3)) := by
        have hpo : ∀ x, wa.heap.size ≤ x → x ∉ [p] := fun x hx => by simp; omega
        refine ⟨k, u5, _, V, hpk, hlast, rfl, (((HO.out.kept hf3 (by simp)).kept hfs (fun g hg => hpo g (HO.out.ge g (by simp [hg])))).mono hsza), fun i hi => ⟨?_, (HVV.out i hi).2, ?_⟩, blk_set1 b3 _, ((ho3.kept hfs (fun g hg => hpo g (by have := ho3.ge g (by simp [hg]); omega))).mono (by omega)), ?_, (HF.out.trans hf3 (by simp)).setCell (by left; simp) _⟩
        · exact ((((HVV.out i hi).1.kept hf3 (by simp)).kept hfs (fun g hg => hpo g ((HVV.out i hi).1.ge g (by simp [hg])))).mono hsza)
        · intro x hx hx2
          have h1 := (HVV.out i hi).1.lt x hx
          have h2 := ho3.ge x hx2
          omega
        · intro x hx hx2
          have h1 := HO.out.lt x hx2
          have h2 := ho3.ge x hx
          omega
      have HPOST := Lib.hid hpost
      clear hpost b3 ho3 hf3 hfs
      go_wp2
      go_ret
      exact HPOST.out
    · rcases HSV.out with ⟨hN0, hss⟩ | ⟨hz, _⟩
      · simp only [Value.slice.injEq, true_and] at hss
        obtain ⟨rfl, rfl⟩ := hss
        have hr := HROW.out hN0
        have k0 : wr.cell? ⟨g0, pos H k, none⟩ = some (.int .u8 (H (pos H k))) := hr.cell (pos H k) (by omega)
        have k1 : wr.cell? ⟨g0, pos H k + 1, none⟩ = some (.int .u8 (H (pos H k + 1))) := hr.cell (pos H k + 1) (by omega)
        clear hr
        have HRDP := Lib.hid (HSV.out.rd HROW.out hpk)
        have hPk : 2 * k ≤ pos H k := pos_two H k
        generalize H (pos H k) = x0 at *
        generalize H (pos H k + 1) = x1 at *
        generalize hPP : pos H k = P at *
        have HPP := Lib.hid hPP; clear hPP
        have l0 : (0 : Int) < ((N - P : Nat) : Int) := by omega
        have l1 : (1 : Int) < ((N - P : Nat) : Int) := by omega
        obtain ⟨E, hE⟩ : ∃ E : Nat, (E : Int) = x0 * 256 + x1 := ⟨(x0 * 256 + x1).toNat, by omega⟩
        have hE2 : (x0 * 256 + x1).toNat = E := by omega
        rw [hE2] at HPS
        have HE := Lib.hid hE; clear hE hE2
        have hcapN : N ≤ cap0 := (HROW.out hN0).le
        go_upto_region 4 with fail
        go_cut [6] (fun s wy => s = .int .i64 (2 + (E : Int)) ∧ ∃ q, wy = wr.drewN q)
        case first =>
          go_quiet (fail)
          go_wp2_with fail
          go_meet
          exact ⟨by rw [show (2 : Int) + E = 2 + x0 * 256 + x1 by have := HE.out; omega], nq, rfl⟩
        case rest =>
          obtain ⟨rfl, q, rfl⟩ := hcut
          by_cases hlastE : N - P < 2 + E
          · have hlast : N < pos H (k + 1) := by rw [HPS.out]; omega
            have hrdP : RdF (wr.drewN q) (.slice (some ⟨g0, P, none⟩) (N - P) (cap0 - P)) (N - P) (fun j => .int .u8 (H (P + j))) := HRDP.out
            go_wp2_with fail
            refine (clone_bytes _ _ (N - P) (fun j => H (P + j)) (hrdP) (by omega)).mono ?_
            rintro e w3 ⟨v3, rfl, ho3, hf3⟩
            have hf3' : Fr [] wr w3 := ((Fr.refl [] wr).drewN q).trans hf3 (by simp)
            have ho3 : OwnF w3 wr.heap.size 5 v3 (N - P) (fun j => .int .u8 (H (P + j))) := ho3
            obtain ⟨a3, c3, hv3⟩ := ho3.rd.slice
            subst hv3
            have b3 := hf3'.blk B0.out (by simp)
            have d0 := blk_cell b3 0 rfl
            have d1 := blk_frozen b3 0
            have hs3 := hf3'.size
            have hfs : Fr [p] w3 (w3.setCell ⟨p, 0, none⟩ (.slice a3 (N - P) c3)) := (Fr.refl _ _).setCell (by simp) _
            have hpost : FeedPost w (p :: rv.ownBlock.toList) p H N (.returned u5) (w3.setCell ⟨p, 0, none⟩ (.slice a3 (N - P) c3)) := by
              have hpo : ∀ x, wa.heap.size ≤ x → x ∉ [p] := fun x hx => by simp; omega
              have hPP := HPP.out
              subst hPP
              refine ⟨k, u5, _, V, hpk, hlast, rfl, (((HO.out.kept hf3' (by simp)).kept hfs (fun g hg => hpo g (HO.out.ge g (by simp [hg])))).mono hsza), fun i hi => ⟨?_, (HVV.out i hi).2, ?_⟩, blk_set1 b3 _, ((ho3.kept hfs (fun g hg => hpo g (by have := ho3.ge g (by simp [hg]); omega))).mono (by omega)), ?_, (HF.out.trans hf3' (by simp)).setCell (by left; simp) _⟩
              · exact ((((HVV.out i hi).1.kept hf3' (by simp)).kept hfs (fun g hg => hpo g ((HVV.out i hi).1.ge g (by simp [hg])))).mono hsza)
              · intro x hx hx2
                have h1 := (HVV.out i hi).1.lt x hx
                have h2 := ho3.ge x hx2
                omega
              · intro x hx hx2
                have h1 := HO.out.lt x hx2
                have h2 := ho3.ge x hx
                omega
            have HPOST := Lib.hid hpost
            clear hpost b3 ho3 hf3 hf3' hfs
            go_wp2
            go_ret
            exact HPOST.out
          · have hrow2 := HROW.out hN0
            have hkN : 2 * k ≤ P := hPk
            go_wp2_with fail
            · refine (clone_bytes _ _ E (fun j => H (P + 2 + j)) (.inr ⟨_, _, rfl, by omega, by unfold maxLen; omega, fun j hj => by omega⟩) (by omega)).mono ?_
              skip
              rintro e w3 ⟨v3, rfl, ho3, hf3⟩
              have hf3' : Fr [] wr w3 := ((Fr.refl [] wr).drewN q).trans hf3 (by simp)
              have ho3' : OwnF w3 wr.heap.size 5 v3 E (fun j => .int .u8 (H (P + 2 + j))) := ho3
              obtain ⟨a3, c3, hv3⟩ := ho3'.rd.slice
              subst hv3
              have hs3 := hf3'.size
              have HO3 := Lib.hid (HO.out.kept hf3' (by simp))
              have HM3 := Lib.hid ho3'
              have HV3 := Lib.hid (fun i hi => (⟨(HVV.out i hi).1.kept hf3' (by simp), (HVV.out i hi).2⟩ : _ ∧ _))
              have HR3 := Lib.hid ((HROW.out hN0).kept hf3' (by simp))
              have HB3 := Lib.hid (hf3'.blk B0.out (by simp))
              have HF3 := Lib.hid (HF.out.trans hf3' (by simp))
              have hkk := pos_le H k
              clear ho3 ho3' hf3 hf3'
              go_wp2_with (at_builtin; refine wpList_app rfl (.tmp 46) (.tmp 54) 39 rfl 27 infoBs Try.underlying39 rfl (HO3.out.alloc _) rfl (rd_one _ _ _ (by simp)) rfl (fun _ _ => rfl) (by unfold maxLen; omega) (by omega) (by simp; omega) ?_; intro v4 w4 ho4 hf4 hn4; have q0 := (((Fr.refl u5.ownBlock.toList w3).alloc _).trans hf4 (fun x hx => .inl hx)).blk HB3.out (fun hx => by have := HO.out.ge p hx; omega); have q1 := blk_cell q0 0 rfl; have q2 := blk_frozen q0 0; have Q0 := Lib.hid q0; clear q0)
              have hrel : FeedRel w wa (p :: rv.ownBlock.toList) p H N g0 cap0 v4 (w4.setCell ⟨p, 0, none⟩ (.slice (some ⟨g0, P, none⟩) (N - P - (2 + E)) 0)) := by
                have hPP := HPP.out
                subst hPP
                refine feed_step (by simp) hlpa hsza hN0 (HGP.out hN0) HPS.out (by rw [HPS.out]; omega) hsz hs3 HO.out.lt HO.out.ge HM3.out HV3.out HR3.out HF3.out ho4 hf4 hn4 ⟨_, Q0.out⟩ ?_
                exact .inr ⟨by rw [HPS.out]; omega, ⟨some ⟨g0, pos H k, none⟩, 0, by rw [show N - pos H k - (2 + E) = 0 by omega]⟩, fun w f => by rw [show N - pos H k - (2 + E) = 0 by omega]; exact .inr ⟨_, 0, rfl, by omega, by decide, fun j hj => by omega⟩⟩
              have HREL2 := Lib.hid hrel
              obtain ⟨a4, c4, hv4⟩ := ho4.rd.slice
              obtain ⟨a5, c5, hv5⟩ := HO.out.rd.slice
              clear hrel ho4 hf4 hn4 q1 q2
              go_wp2
              refine ⟨HREL2.out, ?_⟩
              rw [hv4, hv5]
              simp only [lenOf]
              omega
            · refine (clone_bytes _ _ E (fun j => H (P + 2 + j)) (.inr ⟨_, _, rfl, by omega, by have := hrow2.cap_le; omega, fun j hj => by
                have e : (⟨g0, P + 2, none⟩ : Addr).add j = ⟨g0, P + 2 + j, none⟩ := by unfold Addr.add; split <;> simp_all
                rw [e]
                exact hrow2.cell (P + 2 + j) (by omega)⟩) (by omega)).mono ?_
              skip
              rintro e w3 ⟨v3, rfl, ho3, hf3⟩
              have hf3' : Fr [] wr w3 := ((Fr.refl [] wr).drewN q).trans hf3 (by simp)
              have ho3' : OwnF w3 wr.heap.size 5 v3 E (fun j => .int .u8 (H (P + 2 + j))) := ho3
              obtain ⟨a3, c3, hv3⟩ := ho3'.rd.slice
              subst hv3
              have hs3 := hf3'.size
              have HO3 := Lib.hid (HO.out.kept hf3' (by simp))
              have HM3 := Lib.hid ho3'
              have HV3 := Lib.hid (fun i hi => (⟨(HVV.out i hi).1.kept hf3' (by simp), (HVV.out i hi).2⟩ : _ ∧ _))
              have HR3 := Lib.hid ((HROW.out hN0).kept hf3' (by simp))
              have HB3 := Lib.hid (hf3'.blk B0.out (by simp))
              have HF3 := Lib.hid (HF.out.trans hf3' (by simp))
              have hkk := pos_le H k
              clear ho3 ho3' hf3 hf3'
              go_wp2_with (at_builtin; refine wpList_app rfl (.tmp 46) (.tmp 54) 39 rfl 27 infoBs Try.underlying39 rfl (HO3.out.alloc _) rfl (rd_one _ _ _ (by simp)) rfl (fun _ _ => rfl) (by unfold maxLen; omega) (by omega) (by simp; omega) ?_; intro v4 w4 ho4 hf4 hn4; have q0 := (((Fr.refl u5.ownBlock.toList w3).alloc _).trans hf4 (fun x hx => .inl hx)).blk HB3.out (fun hx => by have := HO.out.ge p hx; omega); have q1 := blk_cell q0 0 rfl; have q2 := blk_frozen q0 0; have Q0 := Lib.hid q0; clear q0)
              have hrel : FeedRel w wa (p :: rv.ownBlock.toList) p H N g0 cap0 v4 (w4.setCell ⟨p, 0, none⟩ (.slice (if cap0 - P = 2 + E then some ⟨g0, P, none⟩ else some ⟨g0, P + (2 + E), none⟩) (N - P - (2 + E)) (cap0 - P - (2 + E)))) := by
                have hPP := HPP.out
                subst hPP
                refine feed_step (by simp) hlpa hsza hN0 (HGP.out hN0) HPS.out (by rw [HPS.out]; omega) hsz hs3 HO.out.lt HO.out.ge HM3.out HV3.out HR3.out HF3.out ho4 hf4 hn4 ⟨_, Q0.out⟩ ?_
                by_cases hc : cap0 - pos H k = 2 + E
                · rw [if_pos hc]
                  exact .inr ⟨by rw [HPS.out]; omega, ⟨some ⟨g0, pos H k, none⟩, _, by rw [show N - pos H k - (2 + E) = 0 by omega]⟩, fun w f => by rw [show N - pos H k - (2 + E) = 0 by omega]; exact .inr ⟨_, _, rfl, by omega, by have := hrow2.cap_le; omega, fun j hj => by omega⟩⟩
                · rw [if_neg hc]
                  have e0 : pos H (k + 1) = pos H k + (2 + E) := by rw [HPS.out]; omega
                  have e1 : N - (pos H k + (2 + E)) = N - pos H k - (2 + E) := by omega
                  have e2 : cap0 - (pos H k + (2 + E)) = cap0 - pos H k - (2 + E) := by omega
                  exact .inl ⟨hN0, by rw [e0, e1, e2]⟩
              have HREL2 := Lib.hid hrel
              obtain ⟨a4, c4, hv4⟩ := ho4.rd.slice
              obtain ⟨a5, c5, hv5⟩ := HO.out.rd.slice
              clear hrel ho4 hf4 hn4 q1 q2
              go_wp2
              refine ⟨HREL2.out, ?_⟩
              rw [hv4, hv5]
              simp only [lenOf]
              omega
      · exfalso; omega

end Go.Proofs.Ytkdmkpdooiacaaa
