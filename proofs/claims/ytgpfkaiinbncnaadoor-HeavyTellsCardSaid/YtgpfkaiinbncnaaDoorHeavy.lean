/- heavy.New, Add. -/
import Derived.Test.YtgpfkaiinbncnaaDoorHeavyKeys
import Derived.IntWalk
namespace Go.Proofs.YtgpfkaiinbncnaaDoor
open Go.RowKit Go.Maps

/-- one that keeps k keys, behind i of them -/
structure Hv (w : World) (p b k i : Nat) (L : List (Int × Int)) : Prop where
  blk : w.heap[p]? = some (.cells #[.map (some b), .int .i64 k, .int .i64 i] 96 (0, 0))
  own : OwnM w b L.length L
  inv : Inv L k i
  k1 : 1 ≤ k
  k64 : k ≤ 64

theorem Hv.ne {w : World} {p b k i : Nat} {L : List (Int × Int)} (h : Hv w p b k i L) : p ≠ b := by
  intro e
  obtain ⟨es, clock, hb, _⟩ := h.own
  have := h.blk
  rw [e, hb] at this
  cases this

theorem Hv.fr {w w' : World} {p b k i : Nat} {L : List (Int × Int)} {S : List Nat} (h : Hv w p b k i L) (hf : Fr S w w') (hp : p ∉ S) (hb : b ∉ S) : Hv w' p b k i L :=
  ⟨hf.blk h.blk hp, h.own.fr hf hb, h.inv, h.k1, h.k64⟩

set_option maxHeartbeats 1000000 in
theorem heavyNew_ok (w : World) (k : Nat) (h1 : 1 ≤ k) (h64 : k ≤ 64) : Calls Tryd.prog 30 #[.int .i64 k] w fun e w' =>
    e = .returned (.tuple #[.pointer (some ⟨w.heap.size + 1, 0, none⟩), .nilIface]) ∧ Hv w' (w.heap.size + 1) w.heap.size k 0 [] ∧ Fr [] w w' := by
  have hmm := @run_makeMap Tryd.prog
  have hd : decide ((k : Int) < 1) = false := by simp; omega
  have hd2 : decide ((64 : Int) < (k : Int)) = false := by simp; omega
  go_enter Tryd.func30, Tryd.ntmps30
  go_wp2
  go_ret2
  refine ⟨rfl, ⟨?_, ?_, ⟨List.Pairwise.nil, Nat.zero_le _, fun p hp => by cases hp⟩, h1, h64⟩, ((Fr.refl [] w).alloc _).alloc _⟩
  · have := heap_alloc_new (w.alloc (.map #[] 0)) (.cells #[.map (some w.heap.size), .int .i64 k, .int .i64 0] 96)
    simpa using this
  · exact World.ownsMap.alloc (World.ownsMap_made w Tryd.prog 3 (plainElem Tryd.prog 3)) _

set_option maxHeartbeats 1000000 in
theorem heavyNew_bad (w : World) (k : Int) (h : ¬ (1 ≤ k ∧ k ≤ 64)) : Calls Tryd.prog 30 #[.int .i64 k] w fun e w' =>
    e = .returned (.tuple #[.pointer none, .iface 27 (.int .i64 6)]) ∧ w = w' := by
  go_enter Tryd.func30, Tryd.ntmps30
  by_cases h1 : k < 1
  · clear h
    go_wp2
    go_ret2
    exact ⟨rfl, rfl⟩
  · have h2 : 64 < k := by omega
    clear h
    go_wp2
    go_ret2
    exact ⟨rfl, rfl⟩

theorem wfI {x : Int} (h : -9223372036854775808 ≤ x ∧ x ≤ 9223372036854775807) : (Lit.int .i64 x).wf = true := by
  simpa [Lit.wf, IntKind.min, IntKind.max, IntKind.signed, IntKind.bits] using h

theorem lk_bd {L : List (Int × Int)} {k i : Nat} (h : Inv L k i) (x : Int) : 0 ≤ lk L x ∧ lk L x ≤ i := by
  cases hk : hasK L x
  · rw [lk_none hk]; omega
  · obtain ⟨p, hp, e⟩ := hasK_mem hk
    rw [lk_of_mem h.asc hp e]
    have := h.pos p hp
    omega

set_option maxHeartbeats 8000000 in
set_option maxRecDepth 100000 in
theorem heavyAdd_any (w : World) (p b k i : Nat) (L : List (Int × Int)) (h : Hv w p b k i L) (hi : i ≤ 1000000) (x : Int) (hx : -9223372036854775808 ≤ x ∧ x ≤ 9223372036854775807) :
    Calls Tryd.prog 32 #[.pointer (some ⟨p, 0, none⟩), .int .i64 x] w fun e w' => e = .returned (.tuple #[]) ∧ Hv w' p b k (i + 1) (kp L k x) ∧ Fr [p, b] w w' := by
  have hpb := h.ne
  have hkey := keyOf_int_mk (P := Tryd.prog) Tryd.underlying3 (wfI hx)
  have HK := Lib.hid hkey; clear hkey
  have HINV := Lib.hid h.inv
  have k1 := h.k1
  have k64 := h.k64
  have c0 := blk_cell h.blk 0 rfl
  have c1 := blk_cell h.blk 1 rfl
  have c2 := blk_cell h.blk 2 rfl
  have z2 := blk_frozen h.blk 2
  -- behind the count
  obtain ⟨w1, hw1⟩ : ∃ w1, w.setCell ⟨p, 2, none⟩ (.int .i64 ((i : Int) + 1)) = w1 := ⟨_, rfl⟩
  have F1 := Lib.hid (show Fr [p] w w1 from by rw [← hw1]; exact (Fr.refl [p] w).setCell (p := ⟨p, 2, none⟩) (by simp) _)
  have B1 := Lib.hid (show w1.heap[p]? = some (.cells #[.map (some b), .int .i64 k, .int .i64 ((i + 1 : Nat) : Int)] 96 (0, 0)) from by
    rw [← hw1]
    simp only [World.setCell]
    rw [Array.getElem?_modify, if_pos rfl, h.blk]
    rfl)
  have O1 := Lib.hid (h.own.fr F1.out (by simpa using fun e => hpb e.symm))
  clear h
  have d0 := blk_cell B1.out 0 rfl
  have d1 := blk_cell B1.out 1 rfl
  have hlen := HINV.out.len
  have HHAS := Lib.hid (has_dI L x)
  have HLK := Lib.hid (lk_bd HINV.out x)
  by_cases hh : hasK L x = true
  · have HKP := Lib.hid (show insL x (lk L x + 1) L = kp L k x by rw [kp_has hh, insL_at _ _ _ HINV.out.asc hh])
    have hb9 : Maps.has (dI L) (.int .i64 x) = true := HHAS.out.trans hh
    have HNI := Lib.hid (kp_inv HINV.out x)
    have HAT := Lib.hid (atKey_dI L x)
    obtain ⟨l0, l1⟩ := HLK.out
    have HPUT := Lib.hid (put_dI x (lk L x + 1) L HINV.out.asc)
    rw [HKP.out] at HPUT
    clear HLK HHAS hh HKP
    generalize lk L x = y at *
    generalize kp L k x = M at *
    go_enter Tryd.func32, Tryd.ntmps32
    go_wp2_with (first
      | (at_lookup; refine wpList_lookup_own_ok_int _ rfl _ _ 94 rfl 3 3 .i64 lawInt Tryd.underlying94 Tryd.underlying3 (zeroInt _) b L.length (dI L) rfl O1.out _ _ rfl HK.out ?_; intro c hat hwc; clear hat hwc)
      | go_in)
    go_quiet (fail)
    have F2 := Lib.hid (F1.out.drewN nq)
    have O2 := Lib.hid (O1.out.fr (Fr.drewN (Fr.refl [] w1) nq) (by simp))
    have e0 := d0
    have B2 := Lib.hid ((Fr.drewN (Fr.refl [] w1) nq).blk B1.out (by simp))
    clear d0 d1 c0 c1 c2 z2 hw1
    generalize w1.drewN nq = w2 at *
    have d0 := blk_cell B2.out 0 rfl
    have d1 := blk_cell B2.out 1 rfl
    go_wp2_with (first
      | (at_lookup; refine wpList_lookup_own_int _ rfl _ _ 94 rfl 3 3 .i64 lawInt Tryd.underlying94 Tryd.underlying3 (zeroInt _) b L.length (dI L) rfl O2.out _ _ rfl HK.out ?_; intro c hat hwc; have hc : c = y := (by { rw [HAT.out] at hat; simp at hat; exact hat.symm }); subst hc; clear hat hwc)
      | (at_mapUpdate; refine wpList_mapUpdate_in _ rfl _ _ _ 94 rfl 3 3 lawInt Tryd.underlying94 _ b L.length (dI L) rfl O2.out (by unfold maxLen; omega) _ _ _ rfl rfl HK.out _ [] (plainElem_int Tryd.underlying3 (wfI (by omega))) ?_; intro w3 hown3 hturn3)
      | go_in)
    refine bodyPost_ret (results_none rfl _ _ _) rfl ?_
    rw [HPUT.out] at hown3
    have F3 := Fr.of_turned hturn3
    exact ⟨rfl, ⟨F3.blk B2.out (by simpa using hpb), (OwnM.tight hown3), HNI.out, k1, k64⟩, (F2.out.mono (S' := [p, b]) (by simp)).trans F3 (by simp)⟩
  · have hf : hasK L x = false := by simpa using hh
    have hb9 : Maps.has (dI L) (.int .i64 x) = false := HHAS.out.trans hf
    have HNI := Lib.hid (kp_inv HINV.out x)
    have HAT := Lib.hid (atKey_dI L x)
    have h0 := lk_none hf
    rw [h0] at HAT
    have HLEN := Lib.hid (fun q ty => World.ownsMap.len (t := 94) (OwnM.fr O1.out (Fr.drewN (Fr.refl [] w1) q) (by simp)) Tryd.underlying94 ty)
    have hlr : ∀ q ty, (Builtin.len_ #[94] ty #[.map (some b)]).run Tryd.prog (w1.drewN q) = .ok (.int .i64 (L.length : Nat)) (w1.drewN q) := fun q ty => by
      have := HLEN.out q ty
      rw [size_dI] at this
      exact this
    by_cases hl : L.length < k
    · have HKP := Lib.hid (kp_new hf hl)
      have HPUT := Lib.hid (put_dI x 1 L HINV.out.asc)
      rw [← HKP.out] at HPUT
      have hd1 : decide (L.length < k) = true := by simpa using hl
      clear HLK HHAS hh HKP h0 hf HLEN
      generalize kp L k x = M at *
      go_enter Tryd.func32, Tryd.ntmps32
      go_wp2_with (first
        | (at_lookup; refine wpList_lookup_own_ok_int _ rfl _ _ 94 rfl 3 3 .i64 lawInt Tryd.underlying94 Tryd.underlying3 (zeroInt _) b L.length (dI L) rfl O1.out _ _ rfl HK.out ?_; intro c hat hwc; clear hat hwc)
        | go_in)
      go_quiet (fail)
      have F2 := Lib.hid (F1.out.drewN nq)
      have O2 := Lib.hid (O1.out.fr (Fr.drewN (Fr.refl [] w1) nq) (by simp))
      have B2 := Lib.hid ((Fr.drewN (Fr.refl [] w1) nq).blk B1.out (by simp))
      clear d0 d1 c0 c1 c2 z2 hw1 hlr
      generalize w1.drewN nq = w2 at *
      have d0 := blk_cell B2.out 0 rfl
      have d1 := blk_cell B2.out 1 rfl
      go_wp2_with (first
        | (at_lookup; refine wpList_lookup_own_int _ rfl _ _ 94 rfl 3 3 .i64 lawInt Tryd.underlying94 Tryd.underlying3 (zeroInt _) b L.length (dI L) rfl O2.out _ _ rfl HK.out ?_; intro c hat hwc; have hc : c = 0 := (by { rw [HAT.out] at hat; simp at hat; exact hat.symm }); subst hc; clear hat hwc)
        | (at_mapUpdate; refine wpList_mapUpdate_in _ rfl _ _ _ 94 rfl 3 3 lawInt Tryd.underlying94 _ b L.length (dI L) rfl O2.out (by unfold maxLen; omega) _ _ _ rfl rfl HK.out _ [] (plainElem_int Tryd.underlying3 (a := 1) (wfI (by omega))) ?_; intro w3 hown3 hturn3)
        | go_in)
      refine bodyPost_ret (results_none rfl _ _ _) rfl ?_
      rw [HPUT.out] at hown3
      have F3 := Fr.of_turned hturn3
      exact ⟨rfl, ⟨F3.blk B2.out (by simpa using hpb), (OwnM.tight hown3), HNI.out, k1, k64⟩, (F2.out.mono (S' := [p, b]) (by simp)).trans F3 (by simp)⟩
    · have HKP := Lib.hid (kp_dec hf hl)
      have hd1 : decide (L.length < k) = false := by simpa using hl
      clear HLK HHAS hh h0 hf HLEN HAT
      rw [HKP.out] at HNI
      rw [HKP.out]
      clear HKP
      have HM := Lib.hid (rfl : (L.map (fun p => (p.1, p.2 - 1))).filter (fun p => !decide (p.2 = 0)) = (L.map (fun p => (p.1, p.2 - 1))).filter (fun p => !decide (p.2 = 0)))
      go_enter Tryd.func32, Tryd.ntmps32
      go_wp2_with (first
        | (at_lookup; refine wpList_lookup_own_ok_int _ rfl _ _ 94 rfl 3 3 .i64 lawInt Tryd.underlying94 Tryd.underlying3 (zeroInt _) b L.length (dI L) rfl O1.out _ _ rfl HK.out ?_; intro c hat hwc; clear hat hwc)
        | go_in)
      go_quiet (fail)
      have F2 := Lib.hid (F1.out.drewN nq)
      have O2 := Lib.hid (O1.out.fr (Fr.drewN (Fr.refl [] w1) nq) (by simp))
      have B2 := Lib.hid ((Fr.drewN (Fr.refl [] w1) nq).blk B1.out (by simp))
      clear d0 d1 c0 c1 c2 z2 hw1 hlr
      generalize w1.drewN nq = w2 at *
      have d0 := blk_cell B2.out 0 rfl
      go_wp2_with (first
        | (at_range; refine wpList_range_own _ rfl _ 94 rfl 3 3 lawInt Tryd.underlying94 (plainElem Tryd.prog 3) b L.length (dI L) rfl O2.out ?_; intro w3 hrg3 hg3 hs3)
        | go_in)
      go_frame
      have HRG := Lib.hid hrg3
      have F3 := Lib.hid (F2.out.trans (Fr.of_grown hg3 [] (fun k hk => by cases hk)) (by simp))
      have B3 := Lib.hid ((Fr.of_grown hg3 [] (fun k hk => by cases hk)).blk B2.out (by simp))
      have hs2 : w.heap.size ≤ w2.heap.size := F2.out.size
      have hpl := lt_of_blk B2.out
      clear hrg3 hg3 d0
      go_loopw [6] (fun _ wr => ∃ (left : Lit → Bool) (cnt : Nat), wr.ranges Tryd.prog 3 (plainElem Tryd.prog 3) b w2.heap.size L.length (dI (decL left L)) left cnt ∧ wr.heap[p]? = some (.cells #[.map (some b), .int .i64 k, .int .i64 ((i + 1 : Nat) : Int)] 96 (0, 0)) ∧ Fr [p, b] w wr)
        (fun _ wr => wr.rangeLeft b w2.heap.size)
      case atStart => exact ⟨_, _, by rw [decL_start]; exact HRG.out, B3.out, F3.out.mono (by simp)⟩
      case round =>
        clear HRG F3 B3
        obtain ⟨left, cnt, hrg, hblk, hfr⟩ := hrel
        have HRG := Lib.hid hrg
        have HBK := Lib.hid hblk
        have HFR := Lib.hid hfr
        clear hrg hblk hfr
        go_wp2_with (first
          | (at_next; refine wpList_next_ranges_ii _ rfl _ rfl 3 3 .i64 .i64 lawInt Tryd.underlying3 Tryd.underlying3 b w2.heap.size L.length _ _ _ rfl HRG.out ?_ ?_)
          | go_in)
        · intro _ hl0
          have HO := Lib.hid (show OwnM wr b L.length (L.map (fun p => (p.1, p.2 - 1))) from by
            have := HRG.out.owns
            rw [decL_end hl0] at this
            exact this)
          have d0 := blk_cell HBK.out 0 rfl
          clear hl0 HRG
          go_wp2_with (go_at_call 54; refine (delete_any b L.length _ wr HO.out).mono ?_; rintro e w5 ⟨rfl, h5, f5⟩)
          go_end0
          exact ⟨rfl, ⟨f5.blk HBK.out (by simpa using hpb), OwnM.tight h5, HNI.out, k1, k64⟩, HFR.out.trans f5 (by simp)⟩
        · intro y c w4 cnt4 hwy hwc hly hat hrg4 hlt hg4 hs4 hen
          have F4 := Lib.hid (Fr.of_grown hg4 [w2.heap.size] (fun k hk => by cases hk; exact .inl (by simp)))
          have B4 := Lib.hid (F4.out.blk HBK.out (by simp; omega))
          have HRG4 := Lib.hid hrg4
          have hk9 := keyOf_int_mk (P := Tryd.prog) Tryd.underlying3 hwy
          have HK9 := Lib.hid hk9
          have hhas : Maps.has (dI (decL left L)) (.int .i64 y) = true := Maps.has_true_of_atKey hat
          have HH9 := Lib.hid hhas
          have hh2 : hasK (decL left L) y = true := by rw [← has_dI]; exact hhas
          have hlkc : lk (decL left L) y = c := by
            have h1 := hat (.lit (.int .i64 0))
            rw [atKey_dI] at h1
            simpa using h1
          have HAT9 := Lib.hid (atKey_dI (decL left L) y)
          rw [hlkc] at HAT9
          have hcb : 1 ≤ c ∧ c ≤ i := by
            obtain ⟨q, hq, he⟩ := hasK_mem hh2
            have hq2 := lk_of_mem (decL_asc HINV.out.asc) hq he
            obtain ⟨r, hr, rfl⟩ := List.mem_map.1 hq
            have hr2 := HINV.out.pos r hr
            by_cases hlr : left (.int .i64 r.1) = true
            · rw [if_pos hlr] at hq2
              omega
            · rw [if_neg hlr] at he
              exfalso
              have he' : r.1 = y := he
              rw [he', hly] at hlr
              exact hlr rfl
          have hL9 : hasK L y = true := by
            unfold decL at hh2
            rw [hasK_map _ _ (fun p _ => by split <;> rfl)] at hh2
            exact hh2
          have HPUT := Lib.hid ((put_dI y (c - 1) (decL left L) (decL_asc HINV.out.asc)).trans (congrArg dI (decL_step HINV.out.asc hly hlkc hL9)))
          have d0 := blk_cell B4.out 0 rfl
          clear hhas hh2 hlkc hL9 hat hk9 hg4 hrg4 hly HBK
          go_wp2_with (first
            | (at_lookup; refine wpList_lookup_own_int _ rfl _ _ 94 rfl 3 3 .i64 lawInt Tryd.underlying94 Tryd.underlying3 (zeroInt _) b L.length (dI (decL left L)) rfl HRG4.out.owns _ _ rfl HK9.out ?_; intro c5 hat5 hwc5; have hc5 : c5 = c := (by { rw [HAT9.out] at hat5; simp at hat5; exact hat5.symm }); subst hc5; clear hat5 hwc5)
            | (at_mapUpdate; refine wpList_store_ranges rfl _ _ _ 94 rfl 3 lawInt Tryd.underlying94 rfl HRG4.out (by unfold maxLen; omega) _ _ _ rfl rfl HK9.out HH9.out _ [] (plainElem_int Tryd.underlying3 (wfI (by omega))) ?_; intro w5 hrg5 hturn5)
            | go_in)
          rw [HPUT.out] at hrg5
          have F5 := Fr.of_turned hturn5
          have HR5 := Lib.hid hrg5
          clear hrg5 hturn5
          go_frame
          go_roundw
          case rel => exact ⟨_, cnt4, HR5.out, F5.blk B4.out (by simpa using hpb), (HFR.out.trans F4.out (fun x hx => .inr (by simp at hx; omega))).trans F5 (by simp)⟩
          case measure => rw [HR5.out.left_eq, HRG.out.left_eq]; exact hlt

end Go.Proofs.YtgpfkaiinbncnaaDoor
