/- SketchTells: what the calls on one sketch, and on two, come to, told without a case. -/
import Derived.Test.YtgpfkaiinbncnaaDoorSkBoth
import Derived.Test.YtgpfkaiinbncnaaDoorSketched
import Derived.Test.YtgpfkaiinbncnaaDoorDoor
namespace Go.Proofs.YtgpfkaiinbncnaaDoor
open Go.RowKit

def dz (z : Int) (d : Nat) : Nat := if z = 0 then d else 0

theorem dz_le (z : Int) (d : Nat) : dz z d ≤ d := by unfold dz; split <;> omega

theorem SkOut.uni {w w' : World} {d wd : Nat} {G : Nat → Nat → Int} {z : Int} {er : Value} {e : Ending} (h : SkOut w d wd G z er e w') :
    ∃ (a : Option Addr) (c : Nat), e = .returned (.tuple #[.agg #[.int .i64 (dz z wd : Nat), .slice a (dz z d) c], er]) ∧ SkO w' w.heap.size (.slice a (dz z d) c) (dz z d) (dz z wd) G ∧ Fr [] w w' := by
  obtain ⟨h1, rv', h2, h3⟩ := h
  obtain ⟨a, c, rfl⟩ := h3.told.slice
  exact ⟨a, c, h2, h3, h1⟩

theorem error_pe (w : World) (z : Int) (hg : Hand w) (v : Value) (hv : v = peV z) :
    Calls Tryd.prog 9 #[v, .int .i64 z] w fun e w' => e = .returned (.bool true) ∧ Fr [] w w' := by
  subst hv
  by_cases hz : z = 0
  · subst hz
    refine (error_any w none 0 hg).mono ?_
    rintro e w' ⟨rfl, h⟩
    exact ⟨rfl, h⟩
  · refine (show peV z = errOf (some z) by simp [peV, errOf, hz]) ▸ (error_any w (some z) z hg).mono ?_
    rintro e w' ⟨rfl, h⟩
    exact ⟨by simp [numOf], h⟩

/-- one sketch -/
structure PkS (w : World) (ws : Int) (rs : Value) (ka : Option Addr) (n kc : Nat) (x z1 zf cnt : Int) (d' wd' : Nat) (G : Nat → Nat → Int) : Prop where
  fault : ∀ w1, Fr [] w w1 → Calls Tryd.prog 11 #[.agg #[.int .i64 ws, rs]] w1 fun e w' => e = .returned (.int .i64 z1) ∧ Fr [] w1 w'
  check : ∀ w1, Fr [] w w1 → Calls Tryd.prog 12 #[.agg #[.int .i64 ws, rs]] w1 fun e w' => e = .returned (peV z1) ∧ Fr [] w1 w'
  add : ∀ w1, Fr [] w w1 → Calls Tryd.prog 15 #[.agg #[.int .i64 ws, rs], .slice ka n kc, .int .i64 x] w1 (SkOut w1 d' wd' G zf (peV zf))
  count : ∀ w1, Fr [] w w1 → Calls Tryd.prog 16 #[.agg #[.int .i64 ws, rs], .slice ka n kc] w1 fun e w' => e = .returned (.tuple #[.int .i64 cnt, peV z1]) ∧ Fr [] w1 w'
  kind : (z1 = 0 ∧ (∀ w1, Fr [] w w1 → Calls Tryd.prog 13 #[.agg #[.int .i64 ws, rs], .slice ka n kc, .int .i64 x] w1 (SkOut w1 d' wd' G zf (.int .i64 zf))) ∧
      ∀ w1, Fr [] w w1 → Calls Tryd.prog 14 #[.agg #[.int .i64 ws, rs], .slice ka n kc] w1 fun e w' => e = .returned (.int .i64 cnt) ∧ Fr [] w1 w') ∨ (z1 = 6 ∧ zf = 6 ∧ cnt = 0)
  small : d' ≤ 1000 ∧ wd' ≤ 1000

/-- two sketches -/
structure PkJ (w : World) (ws : Int) (rs : Value) (wt : Int) (rt : Value) (z1 z2 zj : Int) (d' wd' : Nat) (G : Nat → Nat → Int) : Prop where
  fault : (z1 = 0 ∧ ∀ w1, Fr [] w w1 → Calls Tryd.prog 11 #[.agg #[.int .i64 wt, rt]] w1 fun e w' => e = .returned (.int .i64 z2) ∧ Fr [] w1 w') ∨ (z1 = 6 ∧ z2 = 6)
  join : ∀ w1, Fr [] w w1 → Calls Tryd.prog 18 #[.agg #[.int .i64 ws, rs], .agg #[.int .i64 wt, rt]] w1 (SkOut w1 d' wd' G zj (peV zj))
  kind : (z2 = 0 ∧ ∀ w1, Fr [] w w1 → Calls Tryd.prog 17 #[.agg #[.int .i64 ws, rs], .agg #[.int .i64 wt, rt]] w1 (SkOut w1 d' wd' G zj (.int .i64 zj))) ∨ (z2 = 6 ∧ zj = 6)
  small : d' ≤ 1000 ∧ wd' ≤ 1000

theorem check_bad (w : World) (rv : Value) (ws : Int) (d : Nat) (L : Nat → Nat) (F : Nat → Nat → Int) (hs : SkG w rv d L F) (hd : d ≤ 140737488355328) (hL : ∀ i, i < d → L i ≤ 140737488355328) (hbad : ¬ SkGood ws d L F) :
    ∀ w1, Fr [] w w1 → Calls Tryd.prog 12 #[.agg #[.int .i64 ws, rv]] w1 fun e w' => e = .returned (.iface 27 (.int .i64 6)) ∧ Fr [] w1 w' :=
  fun w1 h1 => check_fault w1 rv ws d L F (hs.fr h1) hd hL hbad

theorem check_good (w : World) (rv : Value) (wd d : Nat) (F : Nat → Nat → Int) (hs : SkF w rv d wd F) (hok : SkOk d wd F) :
    ∀ w1, Fr [] w w1 → Calls Tryd.prog 12 #[.agg #[.int .i64 wd, rv]] w1 fun e w' => e = .returned .nilIface ∧ Fr [] w1 w' :=
  fun w1 h1 => sketch_check w1 rv d wd F (hs.fr h1) hok

theorem pkS_ex (w : World) (ws : Int) (sa : Option Addr) (d sc : Nat) (L : Nat → Nat) (F : Nat → Nat → Int) (ka : Option Addr) (n kc : Nat) (kf : Nat → Int) (x : Int)
    (hs : SkG w (.slice sa d sc) d L F) (hd : d ≤ 140737488355328) (hL : ∀ i, i < d → L i ≤ 140737488355328)
    (hk : RdF w (.slice ka n kc) n (fun j => .int .u8 (kf j))) (hb : ∀ j, j < n → 0 ≤ kf j ∧ kf j ≤ 255) (hn : n ≤ 140737488351232) :
    ∃ (z1 zf cnt : Int) (d' wd' : Nat) (G : Nat → Nat → Int), PkS w ws (.slice sa d sc) ka n kc x z1 zf cnt d' wd' G ∧ ((z1 = 0 ∧ SkGood ws d L F) ∨ (z1 = 6 ∧ ¬ SkGood ws d L F)) := by
  by_cases hg : SkGood ws d L F
  · obtain ⟨wd, rfl, hok, hsf⟩ := hg.ok hs
    obtain ⟨sp, hsp⟩ : ∃ sp : Nat → Nat, ∀ i, sp i = spt wd i n kf := ⟨_, fun _ => rfl⟩
    have hw := hok.wide
    have hsl : ∀ i, i < d → sp i < wd := fun i _ => by rw [hsp]; exact spt_lt wd i _ _ (by omega)
    obtain ⟨z, hz⟩ := addZ_ex d F sp x
    have hpl := place_sp w (.slice sa d sc) wd n d ka kc kf sp hsp hk hb hok.deep.2 hw hn
    have hps := spot_sp w (.slice sa d sc) wd n d ka kc kf sp hsp hk hb hok.deep.2 hw hn
    have hdd := hok.deep
    refine ⟨0, z, lea (fun i => F i (sp i)) d, d, wd, fun i j => if j = sp i then F i j + x else F i j, ⟨fun w1 h1 => ?_, fun w1 h1 => ?_, fun w1 h1 => ?_, fun w1 h1 => ?_, .inl ⟨rfl, fun w1 h1 => ?_, fun w1 h1 => ?_⟩, by omega⟩, .inl ⟨rfl, hg⟩⟩
    · exact sketchFault_any w1 _ _ d L F (hs.fr h1) hd hL 0 (.inl ⟨hg, rfl⟩)
    · exact check_good w _ wd d F hsf hok w1 h1
    · exact sketch_addz w1 _ d wd n F ka kc sp x (hsf.fr h1) hok hsl z hz (fun w2 h2 => hpl w2 (h1.trans h2 (by simp)))
    · exact sketch_count w1 _ d wd n F ka kc sp (hsf.fr h1) hok hsl (fun w2 h2 => hpl w2 (h1.trans h2 (by simp)))
    · exact sketched_ref w1 _ d wd n F ka kc sp x z (hsf.fr h1) hok hsl hz (fun w2 h2 => hps w2 (h1.trans h2 (by simp)))
    · exact guessed_any w1 _ d wd n F ka kc sp (hsf.fr h1) hok hsl (fun w2 h2 => hps w2 (h1.trans h2 (by simp)))
  · refine ⟨6, 6, 0, 0, 0, fun _ _ => 0, ⟨fun w1 h1 => ?_, fun w1 h1 => ?_, fun w1 h1 => ?_, fun w1 h1 => ?_, .inr ⟨rfl, rfl, rfl⟩, by omega⟩, .inr ⟨rfl, hg⟩⟩
    · exact sketchFault_any w1 _ _ d L F (hs.fr h1) hd hL 6 (.inr ⟨hg, rfl⟩)
    · exact check_bad w _ ws d L F hs hd hL hg w1 h1
    · exact sketch_add_bad w1 _ ws d n 0 0 L F _ ka kc x (hs.fr h1) hd hL hg
    · exact sketch_count_bad w1 _ ws d n L F ka kc (hs.fr h1) hd hL hg

theorem pkJ_ex (w : World) (ws wt : Int) (sa ta : Option Addr) (d sc e tc : Nat) (L L2 : Nat → Nat) (F F2 : Nat → Nat → Int)
    (hs : SkG w (.slice sa d sc) d L F) (hd : d ≤ 140737488355328) (hL : ∀ i, i < d → L i ≤ 140737488355328)
    (ht : SkG w (.slice ta e tc) e L2 F2) (he : e ≤ 140737488355328) (hL2 : ∀ i, i < e → L2 i ≤ 140737488355328) (z1 : Int) (hz1 : (z1 = 0 ∧ SkGood ws d L F) ∨ (z1 = 6 ∧ ¬ SkGood ws d L F)) :
    ∃ (z2 zj : Int) (d' wd' : Nat) (G : Nat → Nat → Int), PkJ w ws (.slice sa d sc) wt (.slice ta e tc) z1 z2 zj d' wd' G := by
  rcases hz1 with ⟨rfl, hg⟩ | ⟨rfl, hg⟩
  · obtain ⟨wd, rfl, hok, hsf⟩ := hg.ok hs
    have hc1 := check_good w _ wd d F hsf hok
    by_cases hg2 : SkGood wt e L2 F2
    · obtain ⟨we, rfl, hok2, hsf2⟩ := hg2.ok ht
      have hc2 := check_good w _ we e F2 hsf2 hok2
      have hf2 : ∀ w1, Fr [] w w1 → Calls Tryd.prog 11 #[.agg #[.int .i64 we, .slice ta e tc]] w1 fun e w' => e = .returned (.int .i64 0) ∧ Fr [] w1 w' :=
        fun w1 h1 => sketchFault_any w1 _ _ e L2 F2 (ht.fr h1) he hL2 0 (.inl ⟨hg2, rfl⟩)
      by_cases hne : (wd : Int) ≠ we ∨ d ≠ e
      · exact ⟨0, 6, 0, 0, fun _ _ => 0, .inl ⟨rfl, hf2⟩, fun w1 h1 => sketch_join_early w1 _ _ sa ta d e sc tc 0 0 _ (.inr ⟨fun w2 h2 => hc1 w2 (h1.trans h2 (by simp)), .inr ⟨fun w2 h2 => hc2 w2 (h1.trans h2 (by simp)), hne⟩⟩),
          .inl ⟨rfl, fun w1 h1 => both_ne w1 _ _ sa ta d e sc tc 0 0 _ hne hd he⟩, by omega⟩
      · obtain rfl : wd = we := by omega
        obtain rfl : d = e := by omega
        obtain ⟨z, hz⟩ := joinZ_ex d wd F F2
        have hdd := hok.deep
        have hw := hok.wide
        exact ⟨0, z, d, wd, _, .inl ⟨rfl, hf2⟩, fun w1 h1 => sketch_joinz w1 _ _ d wd F F2 (hsf.fr h1) hok (hsf2.fr h1) hok2 z hz, .inl ⟨rfl, fun w1 h1 => both_ref w1 _ _ d wd F F2 z (hsf.fr h1) hok (hsf2.fr h1) hok2 hz⟩, by omega⟩
    · have hc2 := check_bad w _ wt e L2 F2 ht he hL2 hg2
      exact ⟨6, 6, 0, 0, fun _ _ => 0, .inl ⟨rfl, fun w1 h1 => sketchFault_any w1 _ _ e L2 F2 (ht.fr h1) he hL2 6 (.inr ⟨hg2, rfl⟩)⟩,
        fun w1 h1 => sketch_join_early w1 _ _ sa ta d e sc tc 0 0 _ (.inr ⟨fun w2 h2 => hc1 w2 (h1.trans h2 (by simp)), .inl fun w2 h2 => hc2 w2 (h1.trans h2 (by simp))⟩), .inr ⟨rfl, rfl⟩, by omega⟩
  · have hc1 := check_bad w _ ws d L F hs hd hL hg
    exact ⟨6, 6, 0, 0, fun _ _ => 0, .inr ⟨rfl, rfl⟩, fun w1 h1 => sketch_join_early w1 _ _ sa ta d e sc tc 0 0 _ (.inl fun w2 h2 => hc1 w2 (h1.trans h2 (by simp))), .inr ⟨rfl, rfl⟩, by omega⟩

end Go.Proofs.YtgpfkaiinbncnaaDoor
