/- LruStack: the walk. -/
import Derived.Test.YthopnlnknicgbaaLru
import Derived.Test.YthopnlnknicgbaaInts
namespace Go.Proofs.Ythopnlnknicgbaa
open Go.RowKit

theorem eqUpTo_eq (f g : Nat → Int) (n : Nat) (h : ∀ j, j < n → f j = g j) : (decide (n = n) && eqUpTo f g n) = true := by simp [(eqUpTo_iff _ _ _).2 h]

theorem Lru.kept {w w' : World} {p B n : Nat} {v : Value} {l : List Int} {S : List Nat} (h : Lru w p B n v l) (hf : Fr S w w') (hn : p ∉ S ∧ ∀ x ∈ v.ownBlock.toList, x ∉ S) : Lru w' p B n v l :=
  ⟨hf.blk h.blk hn.1, h.own.kept hf (fun g hg => hn.2 g (by rw [hg]; simp)), h.len⟩

/-- two caches side by side -/
structure Two (w : World) (B p q X Y : Nat) (v u : Value) (l l' : List Int) : Prop where
  one : Lru w p B X v l
  two : Lru w q B Y u l'
  hpq : p ≠ q
  hvu : ∀ x ∈ v.ownBlock.toList, x ∉ u.ownBlock.toList

theorem own_type {w : World} {p B n : Nat} {v u : Value} {m : Nat} {f : Nat → Value} (hp : w.heap[p]? = some (.cells #[v, .int .i64 n] 69 (0, 0))) (hu : OwnF w B 3 u m f) : p ∉ u.ownBlock.toList := fun hx => by
  cases hob : u.ownBlock with
  | none => rw [hob] at hx; simp at hx
  | some g => rw [hob] at hx; simp at hx; exact hu.ne hp (by decide) g hob hx.symm

theorem Two.kept {w w' : World} {B p q X Y : Nat} {v u : Value} {l l' : List Int} (h : Two w B p q X Y v u l l') (hf : Fr [] w w') : Two w' B p q X Y v u l l' :=
  ⟨h.one.kept hf (by simp), h.two.kept hf (by simp), h.hpq, h.hvu⟩

theorem Two.first {w w' : World} {B p q X Y : Nat} {v u v' : Value} {l l' l2 : List Int} (h : Two w B p q X Y v u l l') (h1 : Lru w' p B X v' l2) (hf : Fr (p :: v.ownBlock.toList) w w') (hn : SameOrNew w v v') : Two w' B p q X Y v' u l2 l' := by
  refine ⟨h1, h.two.kept hf ⟨?_, fun x hx hm => ?_⟩, h.hpq, fun x hx hm => ?_⟩
  · intro hm
    rcases List.mem_cons.1 hm with e | hm
    · exact h.hpq e.symm
    · exact own_type h.two.blk h.one.own hm
  · rcases List.mem_cons.1 hm with rfl | hm
    · exact own_type h.one.blk h.two.own hx
    · exact h.hvu x hm hx
  · rcases hn x hx with h2 | h2
    · exact h.hvu x h2 hm
    · have := h.two.own.lt x hm; omega

theorem Two.second {w w' : World} {B p q X Y : Nat} {v u u' : Value} {l l' l2 : List Int} (h : Two w B p q X Y v u l l') (h1 : Lru w' q B Y u' l2) (hf : Fr (q :: u.ownBlock.toList) w w') (hn : SameOrNew w u u') : Two w' B p q X Y v u' l l2 := by
  refine ⟨h.one.kept hf ⟨?_, fun x hx hm => ?_⟩, h1, h.hpq, fun x hx hm => ?_⟩
  · intro hm
    rcases List.mem_cons.1 hm with e | hm
    · exact h.hpq e
    · exact own_type h.one.blk h.two.own hm
  · rcases List.mem_cons.1 hm with rfl | hm
    · exact own_type h.two.blk h.one.own hx
    · exact h.hvu x hx hm
  · rcases hn x hm with h2 | h2
    · exact h.hvu x hx h2
    · have := h.one.own.lt x hx; omega

theorem Two.frame {W w w' : World} {B p q X Y : Nat} {v u : Value} {l l' : List Int} (h : Two w B p q X Y v u l l') (hf : Fr [] W w) (hB : W.heap.size ≤ B) (hp : W.heap.size ≤ p) (hq : W.heap.size ≤ q) :
    (Fr (p :: v.ownBlock.toList) w w' → Fr [] W w') ∧ (Fr (q :: u.ownBlock.toList) w w' → Fr [] W w') := by
  refine ⟨fun h1 => hf.trans h1 (fun x hx => ?_), fun h1 => hf.trans h1 (fun x hx => ?_)⟩
  · rcases List.mem_cons.1 hx with rfl | hx
    · exact .inr hp
    · have := h.one.own.ge x hx; exact .inr (by omega)
  · rcases List.mem_cons.1 hx with rfl | hx
    · exact .inr hq
    · have := h.two.own.ge x hx; exact .inr (by omega)

theorem st_facts (kf : Nat → Int) (j X Y : Nat) (hX : 1 ≤ X) (hXY : X ≤ Y) :
    1 ≤ ((rcs kf (j + 1)).take X).length ∧ ((rcs kf (j + 1)).take X).length ≤ ((rcs kf (j + 1)).take Y).length ∧ (((rcs kf (j + 1)).take X).length < X → ((rcs kf (j + 1)).take Y).length = ((rcs kf (j + 1)).take X).length) ∧
      ∀ i, i < ((rcs kf (j + 1)).take X).length → lg ((rcs kf (j + 1)).take X) i = lg ((rcs kf (j + 1)).take Y) i := by
  have hl : 1 ≤ (rcs kf (j + 1)).length := by
    show 1 ≤ (rcn (kf j) (rcs kf j)).length
    unfold rcn
    simp
  simp only [List.length_take]
  refine ⟨by omega, by omega, by omega, fun i hi => ?_⟩
  rw [lg_take _ _ _ (by omega), lg_take _ _ _ (by omega)]

set_option maxHeartbeats 1000000 in
theorem touched_any (w : World) : Calls Try.prog 20 #[] w fun e w' => e = .returned (.bool true) ∧ Fr [] w w' := by
  go_enter Try.func20, Try.ntmps20
  go_wp2_with fail
  refine (lru_new _ 1).mono ?_
  rintro e w1 ⟨hf1, ⟨_, p, rfl, hp, hL⟩ | ⟨hno, _⟩⟩
  · have HL1 := Lib.hid (hL w.heap.size); clear hL
    have hs1 := hf1.size
    have HF1 := Lib.hid hf1; clear hf1
    have e1 : (rcn 7 []).take 1 = [7] := rfl
    have e2 : decide ((7 : Int) ∈ ([] : List Int)) = false := rfl
    have e3 : decide ((1 : Int).toNat < (rcn 7 []).length) = false := rfl
    have e4 : tgone 7 [] (1 : Int).toNat = 0 := rfl
    go_wp2_with fail
    refine (lru_touch _ 7 HL1.out hs1 (by decide)).mono ?_
    rintro e w2 ⟨v2, rfl, hL2, hf2, hn2⟩
    rw [e2, e3, e4]
    have hL2' : Lru w2 p w.heap.size 1 v2 [7] := hL2
    have hF2 : Fr [] w w2 := HF1.out.trans hf2 (fun x hx => .inr (by simp [Value.ownBlock] at hx; omega))
    have hs2 := hF2.size
    have e5 : decide ((8 : Int) ∈ ([7] : List Int)) = false := rfl
    have e6 : decide (1 < (rcn 8 [7]).length) = true := rfl
    have e7 : tgone 8 [7] 1 = 7 := rfl
    have hge := hL2'.own.ge
    have HF2 := Lib.hid hF2
    clear hL2 hf2 hn2 hF2 e1 e2 e3 e4
    go_wp2_with fail
    refine (lru_touch _ 8 hL2' hs2 (by decide)).mono ?_
    rintro e w3 ⟨v3, rfl, hL3, hf3, hn3⟩
    rw [e5, e6, e7]
    have HF3 := Lib.hid (show Fr [] w w3 from HF2.out.trans hf3 (fun x hx => by
      rcases List.mem_cons.1 hx with rfl | hx
      · exact .inr hp
      · exact .inr (hge x hx)))
    clear hL3 hf3 hn3 e5 e6 e7 hge
    go_wp2
    go_ret
    exact ⟨rfl, HF3.out⟩
  · exact absurd (by unfold LruOk; omega) hno

set_option maxRecDepth 100000 in
set_option maxHeartbeats 4000000 in
theorem lruStack_any (w : World) (a : Option Addr) (m c : Nat) (kf : Nat → Int) (hv : RdF w (.slice a m c) m (fun j => .int .i64 (kf j))) (x y : Int) :
    Calls Try.prog 6 #[.slice a m c, .int .i64 x, .int .i64 y] w fun e w' => e = .returned (.bool true) ∧ Fr [] w w' := by
  have HV := Lib.hid hv; clear hv
  go_enter Try.func6, Try.ntmps6
  go_wp2_with fail
  refine (touched_any _).mono ?_
  rintro e w0 ⟨rfl, hf0⟩
  have HF0 := Lib.hid hf0; clear hf0
  go_wp2_with fail
  refine (lru_new _ x).mono ?_
  rintro e w1 ⟨hf1, hx⟩
  have HF1 := Lib.hid (HF0.out.trans hf1 (S := []) (by simp))
  have hs01 := HF0.out.size
  have hs01' := HF1.out.size
  rcases hx with ⟨hxo, p, rfl, hp, hLx⟩ | ⟨hxn, rfl⟩
  · have HLX := Lib.hid hLx
    have hpl := lt_of_blk (hLx 0).blk
    clear hf1 hLx
    go_wp2_with fail
    refine (lru_new _ y).mono ?_
    rintro e w2 ⟨hf2, hy⟩
    have HF2 := Lib.hid (HF1.out.trans hf2 (S := []) (by simp))
    have hs12 := hf2.size
    rcases hy with ⟨hyo, q, rfl, hq, hLy⟩ | ⟨hyn, rfl⟩
    · unfold LruOk at hxo hyo
      obtain ⟨X, rfl⟩ : ∃ X : Nat, x = (X : Int) := ⟨x.toNat, by omega⟩
      obtain ⟨Y, rfl⟩ : ∃ Y : Nat, y = (Y : Int) := ⟨y.toNat, by omega⟩
      have HX := Lib.hid ((HLX.out w1.heap.size).kept hf2 (by simp))
      have HY := Lib.hid (hLy w1.heap.size)
      simp only [Int.toNat_natCast] at HX HY
      clear hf2 hLy HLX
      by_cases hxy : X ≤ Y
      · by_cases hm : m ≤ 100
        · have e1 : decide (Y < X) = false := by simp; omega
          have e2 : decide (100 < (m : Int)) = false := by simp; omega
          go_wp2
          clear e1 e2
          go_loopw [12] (fun i wr => ∃ (k : Nat) (v u : Value), k ≤ m ∧ i = .int .i64 k ∧ Two wr w1.heap.size p q X Y v u ((rcs kf k).take X) ((rcs kf k).take Y) ∧ Fr [] w wr ∧ w1.heap.size ≤ wr.heap.size) (fun i _ => m - (intOf i).toNat)
          case atStart =>
            refine ⟨0, .slice none 0 0, .slice none 0 0, by omega, rfl, ⟨?_, ?_, by omega, fun x hx => ?_⟩, HF2.out, hs12⟩
            · simpa [rcs] using HX.out
            · simpa [rcs] using HY.out
            · simp [Value.ownBlock] at hx
          case round =>
            clear HX HY HF2
            obtain ⟨k, v, u, hk, rfl, hT, hf, hsz⟩ := hrel
            have HT := Lib.hid hT; clear hT
            have HF := Lib.hid hf; clear hf
            by_cases hlt : k < m
            · obtain ⟨b1, o1, c1, he1, _, _, _, hc1⟩ := HV.out.shape (by omega)
              simp only [Value.slice.injEq, true_and] at he1
              obtain ⟨rfl, rfl⟩ := he1
              have K1 := Lib.hid (hc1 k hlt)
              have k1 := HF.out.cell K1.out (by simp)
              clear hc1
              have k0 : (0 : Int) ≤ (k : Int) := by omega
              have k3 : (k : Int) < (m : Int) := by omega
              have HS1 := Lib.hid (lru_step wr kf k HT.out.one hsz (by omega))
              have HMM := Lib.hid (fun h : kf k ∈ (rcs kf k).take X => take_mem_mono hxy h)
              obtain ⟨s1, s2, s3, s4⟩ := st_facts kf k X Y (by omega) hxy
              have HS4 := Lib.hid s4
              clear s4
              go_wp2_with fail
              refine HS1.out.mono ?_
              rintro e w3 ⟨v3, g3, y3, rfl, hL3, hf3, hn3⟩
              have HT3 := Lib.hid (HT.out.first hL3 hf3 hn3)
              have HF3 := Lib.hid ((HT.out.frame HF.out hs01' (by omega) (by omega)).1 hf3)
              have hs3 := hf3.size
              clear hL3 hf3 hn3 k1
              have k2 := HF3.out.cell K1.out (by simp)
              have HS2 := Lib.hid (lru_step w3 kf k HT3.out.two (by omega) (by omega))
              obtain ⟨aa, haa⟩ : ∃ aa, decide (kf k ∈ (rcs kf k).take X) = aa := ⟨_, rfl⟩
              obtain ⟨bb, hbb⟩ : ∃ bb, decide (kf k ∈ (rcs kf k).take Y) = bb := ⟨_, rfl⟩
              rw [haa]
              have HAB := Lib.hid (show aa = true → bb = true from fun h => by
                subst h
                rw [← hbb]
                exact decide_eq_true (HMM.out (of_decide_eq_true haa)))
              have HBB := Lib.hid hbb
              clear haa hbb
              go_wp2_with fail
              refine HS2.out.mono ?_
              rintro e w4 ⟨u4, g4, y4, rfl, hL4, hf4, hn4⟩
              rw [HBB.out]
              have HT4 := Lib.hid (HT3.out.second hL4 hf4 hn4)
              have HF4 := Lib.hid ((HT3.out.frame HF3.out hs01' (by omega) (by omega)).2 hf4)
              have hs4 := hf4.size
              clear hL4 hf4 hn4 k2 HT3 HT HF HF3 HS1 HS2 HMM
              generalize hlx : (rcs kf (k + 1)).take X = lx at *
              generalize hly : (rcs kf (k + 1)).take Y = ly at *
              have HLX := Lib.hid hlx
              have HLY := Lib.hid hly
              clear hlx hly
              go_wp2_with fail
              refine (lru_keys w4 HT4.out.one (by omega)).mono ?_
              rintro e w5 ⟨v5, rfl, ho5, hf5⟩
              obtain ⟨g5, c5, rfl, hg5, hr5⟩ := ho5.row (by omega)
              have HT5 := Lib.hid (HT4.out.kept hf5)
              have HF5 := Lib.hid (HF4.out.trans hf5 (by simp))
              have hs5 := hf5.size
              have HR5 := Lib.hid hr5
              clear hf5 ho5 hr5 HT4 HF4
              go_wp2_with fail
              refine (lru_keys w5 HT5.out.two (by omega)).mono ?_
              rintro e w6 ⟨v6, rfl, ho6, hf6⟩
              obtain ⟨g6, c6, rfl, hg6, hr6⟩ := ho6.row (by omega)
              have HT6 := Lib.hid (HT5.out.kept hf6)
              have HF6 := Lib.hid (HF5.out.trans hf6 (by simp))
              have hs6 := hf6.size
              have HR6 := Lib.hid hr6
              have HR56 := Lib.hid (HR5.out.kept hf6 (by simp))
              clear hf6 ho6 hr6 HT5 HF5 HR5
              generalize hP : lx.length = P at *
              generalize hQ : ly.length = Q at *
              have HPQ := Lib.hid (And.intro hP hQ)
              clear hP hQ
              have hQc := HR6.out.le
              have hQm := HR6.out.cap_le
              unfold maxLen at hQm
              go_upto_region 15 with fail
              go_cut [96] (fun v wx => v = .bool false ∧ wx = w6)
              case first =>
                have hab := HAB.out
                have p1 : ¬ (Q : Int) < (P : Int) := by omega
                cases aa with
                | true =>
                  have := hab rfl
                  subst this
                  clear hab
                  go_wp2_with fail
                  go_meet
                  exact ⟨rfl, rfl⟩
                | false =>
                  clear hab
                  go_wp2_with fail
                  go_meet
                  exact ⟨rfl, rfl⟩
              case rest =>
                obtain ⟨rfl, hwc⟩ := hcut
                replace hwc := hwc.symm
                subst hwc
                have p1 : (P : Int) ≤ (Q : Int) := by omega
                have p2 : (P : Int) ≤ (c6 : Int) := by omega
                go_wp2_with fail
                refine (ints_any _ _ _ P P _ _ _ _ HR56.out.rd ((HR6.out.take P (by omega)).rd) (by omega) (by omega)).mono ?_
                rintro e w7 ⟨rfl, q7, hw7⟩
                rw [eqUpTo_eq _ _ _ HS4.out]
                have hf7 : Fr [] w6 w7 := by rw [hw7]; exact (Fr.refl [] _).drewN q7
                have HT7 := Lib.hid (HT6.out.kept hf7)
                have HF7 := Lib.hid (HF6.out.trans hf7 (by simp))
                have hs7 := hf7.size
                clear hf7 hw7
                go_upto_region 18 with fail
                go_cut [117] (fun v wx => v = .bool false ∧ wx = w7)
                case first =>
                  by_cases hPX : P < X
                  · have hQP := s3 hPX
                    have p3 : (P : Int) < (X : Int) := by omega
                    have p4 : ¬ (P : Int) < (Q : Int) := by omega
                    clear s3 hQP
                    go_wp2_with fail
                    go_meet
                    exact ⟨rfl, rfl⟩
                  · have p3 : ¬ (P : Int) < (X : Int) := by omega
                    clear s3
                    go_wp2_with fail
                    go_meet
                    exact ⟨rfl, rfl⟩
                case rest =>
                  obtain ⟨rfl, hwc⟩ := hcut
                  replace hwc := hwc.symm
                  subst hwc
                  clear s3
                  go_wp2
                  go_roundw
                  case rel =>
                    have hT7 := HT7.out
                    rw [← HLX.out, ← HLY.out] at hT7
                    exact ⟨k + 1, _, _, by omega, by go_num, hT7, HF7.out, by omega⟩
                  case measure => simp [intOf]; omega
            · obtain rfl : k = m := by omega
              go_wp2_with fail
              refine (lru_misses wr a k c kf (HV.out.fr HF.out (by simp)) X (by omega) (by omega)).mono ?_
              rintro e w3 ⟨rfl, hf3⟩
              have HF3 := Lib.hid (HF.out.trans hf3 (by simp))
              clear hf3
              go_wp2_with fail
              refine (lru_misses w3 a k c kf (HV.out.fr HF3.out (by simp)) Y (by omega) (by omega)).mono ?_
              rintro e w4 ⟨rfl, hf4⟩
              have HF4 := Lib.hid (HF3.out.trans hf4 (by simp))
              clear hf4
              have hmono := msc_mono kf X Y hxy k
              have hm2 : (msc kf Y k : Int) ≤ (msc kf X k : Int) := by omega
              go_wp2
              go_ret
              exact ⟨by simp [hmono], HF4.out⟩
        · go_wp2
          go_ret
          exact ⟨rfl, HF2.out⟩
      · go_wp2
        go_ret
        exact ⟨rfl, HF2.out⟩
    · clear hf2 HLX
      go_wp2
      go_ret
      exact ⟨rfl, HF2.out⟩
  · go_wp2_with fail
    refine (lru_new _ y).mono ?_
    rintro e w2 ⟨hf2, hy⟩
    have HF2 := Lib.hid (HF1.out.trans hf2 (S := []) (by simp))
    rcases hy with ⟨_, q, rfl, _, _⟩ | ⟨_, rfl⟩
    all_goals
      go_wp2
      go_ret
      exact ⟨rfl, HF2.out⟩

end Go.Proofs.Ythopnlnknicgbaa
